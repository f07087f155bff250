/- A_FnPfaffians: the code of the functions of FnPfaffians. No condition. -/
import Derived.Test.YtdbokcfhhdkhiaaLFnPfaffians
import Derived.Test.YtdbokcfhhdkhiaaBr2
import Derived.KernelRfl
import Derived.Test.YtdbokcfhhdkhiaaRows
set_option linter.unusedVariables false
set_option maxRecDepth 100000
namespace Go.Am
theorem follows_ok : Go.Proofs.Try.prog.follows .mixedOrders = true := by decide +kernel
noncomputable abbrev pX := Go.Proofs.Try.prog
def oX (n : Nat) (x : SOp) : SOper := ⟨some n, x, none⟩
def uX (x : SOp) : SOper := ⟨none, x, none⟩
def kX (n : Int) : SMO := .k (.one (.v (.int .i64) n))
def sX : ShV := .one (.c (.v (.int .i64)))
def iX : List Ty := [.int .i64]
def lX : Ty := .list iX
def zX : SC := .v (.int .i64) (0 : Int)
def vX : ShC := .c (.v (.int .i64))
def fX (n k : Nat) : ShC := .c (.full n k)
def rX (n : Nat) : ShC := .c (.ptr0 n 0)
instance tX (n : Nat) : OfNat SMO n := ⟨.t n⟩
def fn_spec_l01New : SFn := ⟨70, ag_spec_l01New, mu_spec_l01New, rs_spec_l01New, F_spec_l01New⟩
def sc_spec_l01New : SCode :=
 (.seq
 (.reg false [
 oX 2 (.mv (.k (.one (.junk))))])
 (.seq
 (.reg false [
 oX 5 (.mv 0),
 oX 6 (.len 5),
 oX 7 (.bin .add (kX 55127) 6),
 oX 3 (.mv 7)])
 (.seq
 (.seq
 (.reg false [
 oX 4 (.mv (kX 0))])
 (.join ⟨[(0, .one (.c (.v (.list [.int .u8])))), (3, sX)], []⟩ [] []
 (.block 0
 (.loop 0 ⟨[(0, .one (.c (.v (.list [.int .u8])))), (3, sX), (4, sX)], []⟩ [] []
 (.seq
 (.seq
 (.reg false [
 oX 8 (.mv 4),
 oX 9 (.mv 0),
 oX 10 (.len 9),
 oX 11 (.bin .lss 8 10),
 oX 12 (.mv 11),
 ⟨(some 13), .mv 4, (some (12, true))⟩,
 ⟨(some 14), .bin .lss 13 (kX 4000), (some (12, true))⟩,
 oX 15 (.pick 12 14 (.k (.one (.v (.bool) (false)))))])
 (.cond 15
 .skip
 (.exit 0)))
 (.seq
 (.block 1
 (.reg false [
 oX 18 (.mv 3),
 oX 19 (.bin .mul 18 (kX 131)),
 oX 20 (.mv 0),
 oX 21 (.mv 4),
 oX 22 (.idxA 1 20 21),
 oX 23 (.load false 1 22),
 oX 24 (.conv .i64 23),
 oX 25 (.bin .add 19 24),
 oX 26 (.bin .add 25 (kX 7)),
 oX 27 (.bin .and 26 (kX 1073741823)),
 oX 3 (.mv 27)]))
 (.reg false [
 oX 16 (.mv 4),
 oX 17 (.bin .add 16 (kX 1)),
 oX 4 (.mv 17)])))))))
 (.seq
 (.reg false [
 oX 28 (.mv 0),
 oX 29 (.mv 3),
 oX 30 (.build [.nil [.int .u8], zX, zX] [(0, 1, 28), (2, 1, 29)]),
 oX 31 (.box 3 30),
 oX 2 (.mv 31)])
 .ret))))
def ms_spec_l01New : List MRes := [.tmp 2]
theorem n_spec_l01New (NN : Nat) (x : DLL (Sig.tys ag_spec_l01New)) : runVS NN [] sc_spec_l01New ms_spec_l01New ag_spec_l01New rs_spec_l01New x = G_spec_l01New NN x := by kernel_rfl
theorem k_spec_l01New : chkS pX 70 sc_spec_l01New.er ms_spec_l01New 1 = true := by decide +kernel
theorem p_spec_l01New : VSpec Go.Proofs.Try.prog 70 fn_spec_l01New.MV ∧ chkFun pX 70 = true :=
  v_of_runVS (T := []) (sc := sc_spec_l01New) (ms := ms_spec_l01New) (args := ag_spec_l01New) (res := rs_spec_l01New) (SOk.nil) follows_ok k_spec_l01New F_spec_l01New fun x y h => (n_spec_l01New FUEL x).trans (f_spec_l01New x y h)

def fn_spec_l45At : SFn := ⟨37, ag_spec_l45At, mu_spec_l45At, rs_spec_l45At, F_spec_l45At⟩
def sc_spec_l45At : SCode :=
 (.seq
 (.reg false [
 oX 4 (.mv (.k (.one (.junk))))])
 (.seq
 (.reg false [
 oX 6 (.mv 0),
 oX 7 (.callb 70 [6]),
 oX 5 (.mv 7)])
 (.seq
 (.reg false [
 oX 8 (.mv 5),
 oX 9 (.mv 1),
 oX 10 (.mv 0),
 oX 11 (.len 10),
 oX 12 (.mm false 9 11),
 oX 13 (.nilchk 8),
 oX 14 (.fieldA 1 13),
 uX (.store 1 14 12)])
 (.seq
 (.reg false [
 oX 15 (.mv 5),
 oX 16 (.mv 5),
 oX 17 (.nilchk 16),
 oX 18 (.fieldA 2 17),
 oX 19 (.load false 1 18),
 oX 20 (.bin .mul 19 (kX 31)),
 oX 21 (.mv 1),
 oX 22 (.bin .mul 21 (kX 7919)),
 oX 23 (.bin .add 20 22),
 oX 24 (.bin .add 23 (kX 1)),
 oX 25 (.bin .and 24 (kX 1073741823)),
 oX 26 (.nilchk 15),
 oX 27 (.fieldA 2 26),
 uX (.store 1 27 25)])
 (.seq
 (.reg false [
 oX 28 (.mv 5),
 oX 4 (.mv 28)])
 .ret)))))
def ms_spec_l45At : List MRes := [.tmp 4]
theorem n_spec_l45At (NN : Nat) (x : DLL (Sig.tys ag_spec_l45At)) : runVS NN [fn_spec_l01New] sc_spec_l45At ms_spec_l45At ag_spec_l45At rs_spec_l45At x = G_spec_l45At NN x := by kernel_rfl
theorem k_spec_l45At : chkS pX 37 sc_spec_l45At.er ms_spec_l45At 2 = true := by decide +kernel
theorem p_spec_l45At : VSpec Go.Proofs.Try.prog 37 fn_spec_l45At.MV ∧ chkFun pX 37 = true :=
  v_of_runVS (T := [fn_spec_l01New]) (sc := sc_spec_l45At) (ms := ms_spec_l45At) (args := ag_spec_l45At) (res := rs_spec_l45At) (SOk.consV p_spec_l01New <| SOk.nil) follows_ok k_spec_l45At F_spec_l45At fun x y h => (n_spec_l45At FUEL x).trans (f_spec_l45At x y h)

def fn_spec_l01Byte : SFn := ⟨72, ag_spec_l01Byte, mu_spec_l01Byte, rs_spec_l01Byte, F_spec_l01Byte⟩
def sc_spec_l01Byte : SCode :=
 (.seq
 (.reg false [
 oX 2 (.mv (kX 0))])
 (.seq
 (.reg false [
 oX 4 (.mv 0),
 oX 5 (.mv 0),
 oX 6 (.nilchk 5),
 oX 7 (.fieldA 2 6),
 oX 8 (.load false 1 7),
 oX 9 (.bin .mul 8 (kX 6364136223846793005)),
 oX 10 (.bin .add 9 (kX 1442695040888963407)),
 oX 11 (.nilchk 4),
 oX 12 (.fieldA 2 11),
 uX (.store 1 12 10)])
 (.seq
 (.reg true [
 oX 13 (.mv 0),
 oX 14 (.nilchk 13),
 oX 15 (.fieldA 2 14),
 oX 16 (.load false 1 15),
 oX 17 (.bin .shr 16 (.k (.one (.v (.int .u64) ((33 : Int)))))),
 oX 18 (.mv 0),
 oX 19 (.nilchk 18),
 oX 20 (.fieldA 2 19),
 oX 21 (.load false 1 20),
 oX 22 (.bin .shr 21 (.k (.one (.v (.int .u64) ((45 : Int)))))),
 oX 23 (.bin .xor 17 22),
 oX 24 (.bin .and 23 (kX 255)),
 oX 3 (.mv 24)])
 (.seq
 (.seq
 (.reg true [
 oX 25 (.mv 0),
 oX 26 (.nilchk 25),
 oX 27 (.fieldA 1 26),
 oX 28 (.load false 1 27),
 oX 29 (.mv 0),
 oX 30 (.nilchk 29),
 oX 31 (.fieldA 0 30),
 oX 32 (.load false 1 31),
 oX 33 (.len 32),
 oX 34 (.bin .lss 28 33)])
 (.join ⟨[(3, sX)], [(1000000, .box [.c (.v (.list [.int .u8])), vX, vX])]⟩ [1000000] []
 (.cond 34
 (.seq
 (.reg true [
 oX 35 (.mv 3),
 oX 36 (.mv 0),
 oX 37 (.nilchk 36),
 oX 38 (.fieldA 0 37),
 oX 39 (.load false 1 38),
 oX 40 (.mv 0),
 oX 41 (.nilchk 40),
 oX 42 (.fieldA 1 41),
 oX 43 (.load false 1 42),
 oX 44 (.idxA 1 39 43),
 oX 45 (.load false 1 44),
 oX 46 (.conv .i64 45),
 oX 47 (.bin .add 35 46),
 oX 48 (.bin .and 47 (kX 255)),
 oX 3 (.mv 48)])
 (.reg false [
 oX 49 (.mv 0),
 oX 50 (.mv 0),
 oX 51 (.nilchk 50),
 oX 52 (.fieldA 1 51),
 oX 53 (.load false 1 52),
 oX 54 (.bin .add 53 (kX 1)),
 oX 55 (.nilchk 49),
 oX 56 (.fieldA 1 55),
 uX (.store 1 56 54)]))
 .skip)))
 (.seq
 (.reg false [
 oX 57 (.mv 3),
 oX 2 (.mv 57)])
 .ret)))))
def ms_spec_l01Byte : List MRes := [.tmp 2]
theorem n_spec_l01Byte (NN : Nat) (x : DLL (Sig.tys ag_spec_l01Byte)) : runVS NN [] sc_spec_l01Byte ms_spec_l01Byte ag_spec_l01Byte rs_spec_l01Byte x = G_spec_l01Byte NN x := by kernel_rfl
theorem k_spec_l01Byte : chkS pX 72 sc_spec_l01Byte.er ms_spec_l01Byte 1 = true := by decide +kernel
theorem p_spec_l01Byte : VSpec Go.Proofs.Try.prog 72 fn_spec_l01Byte.MV ∧ chkFun pX 72 = true :=
  v_of_runVS (T := []) (sc := sc_spec_l01Byte) (ms := ms_spec_l01Byte) (args := ag_spec_l01Byte) (res := rs_spec_l01Byte) (SOk.nil) follows_ok k_spec_l01Byte F_spec_l01Byte fun x y h => (n_spec_l01Byte FUEL x).trans (f_spec_l01Byte x y h)

def fn_spec_l01Below : SFn := ⟨45, ag_spec_l01Below, mu_spec_l01Below, rs_spec_l01Below, F_spec_l01Below⟩
def sc_spec_l01Below : SCode :=
 (.seq
 (.reg false [
 oX 4 (.mv (kX 0))])
 (.seq
 (.seq
 (.reg false [
 oX 5 (.mv 1),
 oX 6 (.bin .leq 5 (kX 0))])
 (.cond 6
 (.seq
 (.reg false [
 oX 4 (.mv (kX 0))])
 .ret)
 .skip))
 (.seq
 (.reg false [
 oX 7 (.mv 0),
 oX 8 (.callb 72 [7]),
 oX 9 (.mv 1),
 oX 10 (.bin .rem 8 9),
 oX 4 (.mv 10)])
 .ret)))
def ms_spec_l01Below : List MRes := [.tmp 4]
theorem n_spec_l01Below (NN : Nat) (x : DLL (Sig.tys ag_spec_l01Below)) : runVS NN [fn_spec_l01Byte] sc_spec_l01Below ms_spec_l01Below ag_spec_l01Below rs_spec_l01Below x = G_spec_l01Below NN x := by kernel_rfl
theorem k_spec_l01Below : chkS pX 45 sc_spec_l01Below.er ms_spec_l01Below 2 = true := by decide +kernel
theorem p_spec_l01Below : VSpec Go.Proofs.Try.prog 45 fn_spec_l01Below.MV ∧ chkFun pX 45 = true :=
  v_of_runVS (T := [fn_spec_l01Byte]) (sc := sc_spec_l01Below) (ms := ms_spec_l01Below) (args := ag_spec_l01Below) (res := rs_spec_l01Below) (SOk.consV p_spec_l01Byte <| SOk.nil) follows_ok k_spec_l01Below F_spec_l01Below fun x y h => (n_spec_l01Below FUEL x).trans (f_spec_l01Below x y h)

def fn_spec_l01Pick : SFn := ⟨41, ag_spec_l01Pick, mu_spec_l01Pick, rs_spec_l01Pick, F_spec_l01Pick⟩
def sc_spec_l01Pick : SCode :=
 (.seq
 (.reg false [
 oX 4 (.mv (kX 0))])
 (.seq
 (.reg false [
 oX 5 (.mv 1),
 oX 6 (.mv 0),
 oX 7 (.mv 1),
 oX 8 (.len 7),
 oX 9 (.callb 45 [6, 8]),
 oX 10 (.idxA 1 5 9),
 oX 11 (.load false 1 10),
 oX 4 (.mv 11)])
 .ret))
def ms_spec_l01Pick : List MRes := [.tmp 4]
theorem n_spec_l01Pick (NN : Nat) (x : DLL (Sig.tys ag_spec_l01Pick)) : runVS NN [fn_spec_l01Below] sc_spec_l01Pick ms_spec_l01Pick ag_spec_l01Pick rs_spec_l01Pick x = G_spec_l01Pick NN x := by kernel_rfl
theorem k_spec_l01Pick : chkS pX 41 sc_spec_l01Pick.er ms_spec_l01Pick 2 = true := by decide +kernel
theorem p_spec_l01Pick : VSpec Go.Proofs.Try.prog 41 fn_spec_l01Pick.MV ∧ chkFun pX 41 = true :=
  v_of_runVS (T := [fn_spec_l01Below]) (sc := sc_spec_l01Pick) (ms := ms_spec_l01Pick) (args := ag_spec_l01Pick) (res := rs_spec_l01Pick) (SOk.consV p_spec_l01Below <| SOk.nil) follows_ok k_spec_l01Pick F_spec_l01Pick fun x y h => (n_spec_l01Pick FUEL x).trans (f_spec_l01Pick x y h)

def fn_spec_MakePrime : SFn := ⟨15, ag_spec_MakePrime, mu_spec_MakePrime, rs_spec_MakePrime, F_spec_MakePrime⟩
def sc_spec_MakePrime : SCode :=
 (.seq
 (.reg false [
 oX 4 (.mv (kX 0))])
 (.seq
 (.reg false [
 oX 5 (.mv 0),
 oX 6 (.mv 1),
 oX 7 (.callb 37 [5, 6]),
 oX 8 (.bslice iX [(kX 2), (kX 3), (kX 7), (kX 101), (kX 1000003)]),
 oX 9 (.callb 41 [7, 8]),
 oX 4 (.mv 9)])
 .ret))
def ms_spec_MakePrime : List MRes := [.tmp 4]
theorem n_spec_MakePrime (NN : Nat) (x : DLL (Sig.tys ag_spec_MakePrime)) : runVS NN [fn_spec_l45At, fn_spec_l01Pick] sc_spec_MakePrime ms_spec_MakePrime ag_spec_MakePrime rs_spec_MakePrime x = G_spec_MakePrime NN x := by kernel_rfl
theorem k_spec_MakePrime : chkS pX 15 sc_spec_MakePrime.er ms_spec_MakePrime 2 = true := by decide +kernel
theorem p_spec_MakePrime : VSpec Go.Proofs.Try.prog 15 fn_spec_MakePrime.MV ∧ chkFun pX 15 = true :=
  v_of_runVS (T := [fn_spec_l45At, fn_spec_l01Pick]) (sc := sc_spec_MakePrime) (ms := ms_spec_MakePrime) (args := ag_spec_MakePrime) (res := rs_spec_MakePrime) (SOk.consV p_spec_l45At <| SOk.consV p_spec_l01Pick <| SOk.nil) follows_ok k_spec_MakePrime F_spec_MakePrime fun x y h => (n_spec_MakePrime FUEL x).trans (f_spec_MakePrime x y h)

def fn_spec_MakeNum : SFn := ⟨39, ag_spec_MakeNum, mu_spec_MakeNum, rs_spec_MakeNum, F_spec_MakeNum⟩
def sc_spec_MakeNum : SCode :=
 (.seq
 (.reg false [
 oX 4 (.mv (kX 0))])
 (.seq
 (.reg false [
 oX 6 (.mv 0),
 oX 7 (.mv 1),
 oX 8 (.callb 37 [6, 7]),
 oX 5 (.mv 8)])
 (.seq
 (.reg false [
 oX 9 (.mv 5),
 oX 10 (.callb 72 [9]),
 oX 11 (.bin .mul (kX 256) 10),
 oX 12 (.mv 5),
 oX 13 (.callb 72 [12]),
 oX 14 (.bin .add 11 13),
 oX 4 (.mv 14)])
 .ret)))
def ms_spec_MakeNum : List MRes := [.tmp 4]
theorem n_spec_MakeNum (NN : Nat) (x : DLL (Sig.tys ag_spec_MakeNum)) : runVS NN [fn_spec_l45At, fn_spec_l01Byte] sc_spec_MakeNum ms_spec_MakeNum ag_spec_MakeNum rs_spec_MakeNum x = G_spec_MakeNum NN x := by kernel_rfl
theorem k_spec_MakeNum : chkS pX 39 sc_spec_MakeNum.er ms_spec_MakeNum 2 = true := by decide +kernel
theorem p_spec_MakeNum : VSpec Go.Proofs.Try.prog 39 fn_spec_MakeNum.MV ∧ chkFun pX 39 = true :=
  v_of_runVS (T := [fn_spec_l45At, fn_spec_l01Byte]) (sc := sc_spec_MakeNum) (ms := ms_spec_MakeNum) (args := ag_spec_MakeNum) (res := rs_spec_MakeNum) (SOk.consV p_spec_l45At <| SOk.consV p_spec_l01Byte <| SOk.nil) follows_ok k_spec_MakeNum F_spec_MakeNum fun x y h => (n_spec_MakeNum FUEL x).trans (f_spec_MakeNum x y h)

def fn_spec_MakeSize : SFn := ⟨11, ag_spec_MakeSize, mu_spec_MakeSize, rs_spec_MakeSize, F_spec_MakeSize⟩
def sc_spec_MakeSize : SCode :=
 (.seq
 (.reg false [
 oX 8 (.mv (kX 0))])
 (.seq
 (.reg false [
 oX 9 (.mv 2),
 oX 10 (.mv 0),
 oX 11 (.mv 1),
 oX 12 (.callb 39 [10, 11]),
 oX 13 (.mv 3),
 oX 14 (.mv 2),
 oX 15 (.bin .sub 13 14),
 oX 16 (.bin .add 15 (kX 1)),
 oX 17 (.bin .rem 12 16),
 oX 18 (.bin .add 9 17),
 oX 8 (.mv 18)])
 .ret))
def ms_spec_MakeSize : List MRes := [.tmp 8]
theorem n_spec_MakeSize (NN : Nat) (x : DLL (Sig.tys ag_spec_MakeSize)) : runVS NN [fn_spec_MakeNum] sc_spec_MakeSize ms_spec_MakeSize ag_spec_MakeSize rs_spec_MakeSize x = G_spec_MakeSize NN x := by kernel_rfl
theorem k_spec_MakeSize : chkS pX 11 sc_spec_MakeSize.er ms_spec_MakeSize 4 = true := by decide +kernel
theorem p_spec_MakeSize : VSpec Go.Proofs.Try.prog 11 fn_spec_MakeSize.MV ∧ chkFun pX 11 = true :=
  v_of_runVS (T := [fn_spec_MakeNum]) (sc := sc_spec_MakeSize) (ms := ms_spec_MakeSize) (args := ag_spec_MakeSize) (res := rs_spec_MakeSize) (SOk.consV p_spec_MakeNum <| SOk.nil) follows_ok k_spec_MakeSize F_spec_MakeSize fun x y h => (n_spec_MakeSize FUEL x).trans (f_spec_MakeSize x y h)

def fn_spec_l31New : SFn := ⟨73, ag_spec_l31New, mu_spec_l31New, rs_spec_l31New, F_spec_l31New⟩
def sc_spec_l31New : SCode :=
 (.seq
 (.reg false [
 oX 4 (.alloc [zX, zX, .nil iX])])
 (.seq
 (.reg false [
 oX 5 (.mv 0),
 oX 6 (.mv 1),
 oX 7 (.mv 0),
 oX 8 (.mv 1),
 oX 9 (.bin .mul 7 8),
 oX 10 (.mkslice .froz iX 8 (0 : Int) 9 9),
 oX 11 (.build [zX, zX, .nil iX] [(0, 1, 5), (1, 1, 6), (2, 1, 10)]),
 uX (.store 3 4 11)])
 .ret))
def ms_spec_l31New : List MRes := [.cell 4 3 true]
theorem n_spec_l31New (NN : Nat) (x : DLL (Sig.tys ag_spec_l31New)) : runS NN [] sc_spec_l31New ms_spec_l31New ag_spec_l31New rs_spec_l31New x = G_spec_l31New NN x := by kernel_rfl
theorem k_spec_l31New : chkS pX 73 sc_spec_l31New.er ms_spec_l31New 2 = true := by decide +kernel
theorem p_spec_l31New : PureSpec pX 73 fn_spec_l31New.M ∧ chkFun pX 73 = true :=
  pure_of_runS (T := []) (sc := sc_spec_l31New) (ms := ms_spec_l31New) (args := ag_spec_l31New) (res := rs_spec_l31New) (SOk.nil) follows_ok k_spec_l31New F_spec_l31New fun x y h => (n_spec_l31New FUEL x).trans (f_spec_l31New x y h)

def fn_spec_l01Once : SFn := ⟨74, ag_spec_l01Once, mu_spec_l01Once, rs_spec_l01Once, F_spec_l01Once⟩
def sc_spec_l01Once : SCode :=
 (.seq
 (.reg false [
 oX 4 (.mv (.k (.one (.v (.bool) (false)))))])
 (.seq
 (.reg false [
 oX 5 (.mv 0),
 oX 6 (.mv 1),
 oX 7 (.callb 45 [5, 6]),
 oX 8 (.bin .eql 7 (kX 0)),
 oX 4 (.mv 8)])
 .ret))
def ms_spec_l01Once : List MRes := [.tmp 4]
theorem n_spec_l01Once (NN : Nat) (x : DLL (Sig.tys ag_spec_l01Once)) : runVS NN [fn_spec_l01Below] sc_spec_l01Once ms_spec_l01Once ag_spec_l01Once rs_spec_l01Once x = G_spec_l01Once NN x := by kernel_rfl
theorem k_spec_l01Once : chkS pX 74 sc_spec_l01Once.er ms_spec_l01Once 2 = true := by decide +kernel
theorem p_spec_l01Once : VSpec Go.Proofs.Try.prog 74 fn_spec_l01Once.MV ∧ chkFun pX 74 = true :=
  v_of_runVS (T := [fn_spec_l01Below]) (sc := sc_spec_l01Once) (ms := ms_spec_l01Once) (args := ag_spec_l01Once) (res := rs_spec_l01Once) (SOk.consV p_spec_l01Below <| SOk.nil) follows_ok k_spec_l01Once F_spec_l01Once fun x y h => (n_spec_l01Once FUEL x).trans (f_spec_l01Once x y h)

def fn_spec_l31Draw : SFn := ⟨42, ag_spec_l31Draw, mu_spec_l31Draw, rs_spec_l31Draw, F_spec_l31Draw⟩
def sc_spec_l31Draw : SCode :=
 (.seq
 (.reg false [
 oX 8 (.alloc [zX, zX, .nil iX])])
 (.seq
 (.reg false [
 oX 12 (.mv 2),
 oX 13 (.mv 3),
 oX 14 (.call .froz 73 [12, 13]),
 oX 9 (.alloc [zX, zX, .nil iX]),
 uX (.store 3 9 14)])
 (.seq
 (.seq
 (.reg false [
 oX 15 (.fieldA 2 9),
 oX 16 (.load false 1 15),
 oX 17 (.len 16),
 oX 18 (.mv (kX 0))])
 (.join ⟨[(2, sX), (0, .one (rX 1000000)), (3, sX), (9, .one (rX 9)), (8, .one (rX 8))], [(1000000, .box [.c (.v (.list [.int .u8])), vX, vX]), (8, .box [vX, vX, fX 500002 1]), (9, .box [vX, vX, fX 500003 1]), (500002, .row true .froz iX), (500003, .row true .froz iX)]⟩ [1000000, 8, 9, 500000, 500001, 500002, 500003] [(true, 8, 2, 500002, .froz, []), (true, 9, 2, 500003, .froz, [])]
 (.block 0
 (.loop 0 ⟨[(0, .one (rX 1000000)), (1, sX), (2, sX), (3, sX), (8, .one (rX 8)), (9, .one (rX 9)), (17, sX), (18, sX)], [(1000000, .box [.c (.v (.list [.int .u8])), vX, vX]), (8, .box [vX, vX, fX 500000 1]), (9, .box [vX, vX, fX 500001 1]), (500000, .row true .froz iX), (500001, .row true .froz iX)]⟩ [1000000, 8, 15000, 9, 500000, 500001] [(true, 8, 2, 500000, .froz, []), (true, 9, 2, 500001, .froz, [])]
 (.seq
 (.reg false [
 oX 19 (.bin .lss 18 17)])
 (.seq
 (.cond 19
 .skip
 (.exit 0))
 (.seq
 (.block 1
 (.seq
 (.reg false [
 oX 20 (.mv 18),
 oX 10 (.mv 20)])
 (.seq
 (.reg false [
 oX 21 (.mv 0),
 oX 22 (.callb 74 [21, (kX 3)]),
 oX 23 (.un .not 22)])
 (.cond 23
 (.regD [(0, 6), (1, 6)] [
 oX 24 (.fieldA 2 9),
 oX 25 (.load false 1 24),
 oX 26 (.mv 10),
 oX 27 (.mv 0),
 oX 28 (.mv 1),
 oX 29 (.mm false 28 (kX 256)),
 oX 30 (.callb 45 [27, 29]),
 oX 31 (.idxA 1 25 26),
 uX (.store 1 31 30)])
 .skip))))
 (.reg false [
 oX 32 (.bin .add 18 (kX 1)),
 oX 18 (.mv 32)]))))))))
 (.seq
 (.seq
 (.reg false [
 oX 33 (.mv 2),
 oX 34 (.bin .gtr 33 (kX 1)),
 oX 35 (.mv 34),
 ⟨(some 36), .mv 0, (some (35, true))⟩,
 ⟨(some 37), .callb 74 [36, (kX 3)], (some (35, true))⟩,
 oX 38 (.pick 35 37 (.k (.one (.v (.bool) (false)))))])
 (.join ⟨[(9, .one (rX 9)), (8, .one (rX 8))], [(1000000, .box [.c (.v (.list [.int .u8])), vX, vX]), (8, .box [vX, vX, fX 500006 1]), (9, .box [vX, vX, fX 500007 1]), (500006, .row true .froz iX), (500007, .row true .froz iX)]⟩ [1000000, 8, 9, 500002, 500003, 500004, 500005, 500006, 500007] [(true, 8, 2, 500006, .froz, []), (true, 9, 2, 500007, .froz, [])]
 (.cond 38
 (.seq
 (.reg false [
 oX 11 (.mv (kX 0))])
 (.block 2
 (.loop 0 ⟨[(3, sX), (8, .one (rX 8)), (9, .one (rX 9)), (11, sX)], [(1000000, .box [.c (.v (.list [.int .u8])), vX, vX]), (8, .box [vX, vX, fX 500004 1]), (9, .box [vX, vX, fX 500005 1]), (500004, .row true .froz iX), (500005, .row true .froz iX)]⟩ [1000000, 8, 9, 500002, 500003, 500004, 500005] [(true, 8, 2, 500004, .froz, []), (true, 9, 2, 500005, .froz, [])]
 (.seq
 (.seq
 (.reg false [
 oX 39 (.mv 11),
 oX 40 (.mv 3),
 oX 41 (.bin .lss 39 40)])
 (.cond 41
 .skip
 (.exit 2)))
 (.seq
 (.block 3
 (.reg true [
 oX 44 (.fieldA 2 9),
 oX 45 (.load false 1 44),
 oX 46 (.mv 3),
 oX 47 (.mv 11),
 oX 48 (.bin .add 46 47),
 oX 49 (.fieldA 2 9),
 oX 50 (.load false 1 49),
 oX 51 (.mv 11),
 oX 52 (.idxA 1 50 51),
 oX 53 (.load false 1 52),
 oX 54 (.idxA 1 45 48),
 uX (.store 1 54 53)]))
 (.reg false [
 oX 42 (.mv 11),
 oX 43 (.bin .add 42 (kX 1)),
 oX 11 (.mv 43)]))))))
 .skip)))
 (.seq
 (.reg false [
 oX 55 (.load true 3 9),
 uX (.store 3 8 55)])
 .ret)))))
def ms_spec_l31Draw : List MRes := [.cell 8 3 true]
theorem n_spec_l31Draw (NN : Nat) (x : DLL (Sig.tys ag_spec_l31Draw)) : runVS NN [fn_spec_l31New, fn_spec_l01Once, fn_spec_l01Below] sc_spec_l31Draw ms_spec_l31Draw ag_spec_l31Draw rs_spec_l31Draw x = G_spec_l31Draw NN x := by kernel_rfl
theorem k_spec_l31Draw : chkS pX 42 sc_spec_l31Draw.er ms_spec_l31Draw 4 = true := by decide +kernel
theorem p_spec_l31Draw : VSpec Go.Proofs.Try.prog 42 fn_spec_l31Draw.MV ∧ chkFun pX 42 = true :=
  v_of_runVS (T := [fn_spec_l31New, fn_spec_l01Once, fn_spec_l01Below]) (sc := sc_spec_l31Draw) (ms := ms_spec_l31Draw) (args := ag_spec_l31Draw) (res := rs_spec_l31Draw) (SOk.cons p_spec_l31New <| SOk.consV p_spec_l01Once <| SOk.consV p_spec_l01Below <| SOk.nil) follows_ok k_spec_l31Draw F_spec_l31Draw fun x y h => (n_spec_l31Draw FUEL x).trans (f_spec_l31Draw x y h)

def fn_spec_MakeMatrix : SFn := ⟨16, ag_spec_MakeMatrix, mu_spec_MakeMatrix, rs_spec_MakeMatrix, F_spec_MakeMatrix⟩
def sc_spec_MakeMatrix : SCode :=
 (.seq
 (.reg false [
 oX 10 (.alloc [zX, zX, .nil iX])])
 (.seq
 (.reg false [
 oX 11 (.mv 0),
 oX 12 (.mv 1),
 oX 13 (.callb 37 [11, 12]),
 oX 14 (.mv 2),
 oX 15 (.mv 3),
 oX 16 (.mv 4),
 oX 17 (.callb 42 [13, 14, 15, 16]),
 uX (.store 3 10 17)])
 .ret))
def ms_spec_MakeMatrix : List MRes := [.cell 10 3 true]
theorem n_spec_MakeMatrix (NN : Nat) (x : DLL (Sig.tys ag_spec_MakeMatrix)) : runVS NN [fn_spec_l45At, fn_spec_l31Draw] sc_spec_MakeMatrix ms_spec_MakeMatrix ag_spec_MakeMatrix rs_spec_MakeMatrix x = G_spec_MakeMatrix NN x := by kernel_rfl
theorem k_spec_MakeMatrix : chkS pX 16 sc_spec_MakeMatrix.er ms_spec_MakeMatrix 5 = true := by decide +kernel
theorem p_spec_MakeMatrix : VSpec Go.Proofs.Try.prog 16 fn_spec_MakeMatrix.MV ∧ chkFun pX 16 = true :=
  v_of_runVS (T := [fn_spec_l45At, fn_spec_l31Draw]) (sc := sc_spec_MakeMatrix) (ms := ms_spec_MakeMatrix) (args := ag_spec_MakeMatrix) (res := rs_spec_MakeMatrix) (SOk.consV p_spec_l45At <| SOk.consV p_spec_l31Draw <| SOk.nil) follows_ok k_spec_MakeMatrix F_spec_MakeMatrix fun x y h => (n_spec_MakeMatrix FUEL x).trans (f_spec_MakeMatrix x y h)

def fn_impl_IsPrime : SFn := ⟨55, ag_impl_IsPrime, mu_impl_IsPrime, rs_impl_IsPrime, F_impl_IsPrime⟩
def sc_impl_IsPrime : SCode :=
 (.seq
 (.reg false [
 oX 2 (.mv (.k (.one (.v (.bool) (false)))))])
 (.seq
 (.seq
 (.reg false [
 oX 4 (.mv 0),
 oX 5 (.bin .lss 4 (kX 2)),
 oX 6 (.mv 5),
 ⟨(some 7), .mv 0, (some (6, false))⟩,
 ⟨(some 8), .bin .gtr 7 (kX 1000003), (some (6, false))⟩,
 oX 9 (.pick 6 (.k (.one (.v (.bool) (true)))) 8)])
 (.cond 9
 (.seq
 (.reg false [
 oX 2 (.mv (.k (.one (.v (.bool) (false)))))])
 .ret)
 .skip))
 (.seq
 (.seq
 (.reg false [
 oX 3 (.mv (kX 2))])
 (.join ⟨[], []⟩ [] []
 (.block 0
 (.loop 0 ⟨[(0, sX), (3, sX)], []⟩ [] []
 (.seq
 (.seq
 (.reg false [
 oX 10 (.mv 3),
 oX 11 (.mv 3),
 oX 12 (.bin .mul 10 11),
 oX 13 (.mv 0),
 oX 14 (.bin .leq 12 13)])
 (.cond 14
 .skip
 (.exit 0)))
 (.seq
 (.block 1
 (.seq
 (.reg false [
 oX 17 (.mv 0),
 oX 18 (.mv 3),
 oX 19 (.bin .rem 17 18),
 oX 20 (.bin .eql 19 (kX 0))])
 (.cond 20
 (.seq
 (.reg false [
 oX 2 (.mv (.k (.one (.v (.bool) (false)))))])
 .ret)
 .skip)))
 (.reg false [
 oX 15 (.mv 3),
 oX 16 (.bin .add 15 (kX 1)),
 oX 3 (.mv 16)])))))))
 (.seq
 (.reg false [
 oX 2 (.mv (.k (.one (.v (.bool) (true)))))])
 .ret))))
def ms_impl_IsPrime : List MRes := [.tmp 2]
theorem n_impl_IsPrime (NN : Nat) (x : DLL (Sig.tys ag_impl_IsPrime)) : runS NN [] sc_impl_IsPrime ms_impl_IsPrime ag_impl_IsPrime rs_impl_IsPrime x = G_impl_IsPrime NN x := by kernel_rfl
theorem k_impl_IsPrime : chkS pX 55 sc_impl_IsPrime.er ms_impl_IsPrime 1 = true := by decide +kernel
theorem p_impl_IsPrime : PureSpec pX 55 fn_impl_IsPrime.M ∧ chkFun pX 55 = true :=
  pure_of_runS (T := []) (sc := sc_impl_IsPrime) (ms := ms_impl_IsPrime) (args := ag_impl_IsPrime) (res := rs_impl_IsPrime) (SOk.nil) follows_ok k_impl_IsPrime F_impl_IsPrime fun x y h => (n_impl_IsPrime FUEL x).trans (f_impl_IsPrime x y h)

def fn_impl_inMod : SFn := ⟨75, ag_impl_inMod, mu_impl_inMod, rs_impl_inMod, F_impl_inMod⟩
def sc_impl_inMod : SCode :=
 (.seq
 (.reg false [
 oX 4 (.mv (.k (.one (.v (.bool) (false)))))])
 (.seq
 (.seq
 (.reg false [
 oX 7 (.mv 1),
 oX 8 (.len 7),
 oX 9 (.mv (kX 0))])
 (.join ⟨[], []⟩ [] []
 (.block 0
 (.loop 0 ⟨[(0, sX), (7, .one (.c (.v (lX)))), (8, sX), (9, sX)], []⟩ [] []
 (.seq
 (.reg false [
 oX 10 (.bin .lss 9 8)])
 (.seq
 (.cond 10
 .skip
 (.exit 0))
 (.seq
 (.block 1
 (.seq
 (.reg false [
 oX 11 (.idxA 1 7 9),
 oX 12 (.load false 1 11),
 oX 6 (.mv 12)])
 (.seq
 (.reg false [
 oX 13 (.mv 6),
 oX 14 (.bin .lss 13 (kX 0)),
 oX 15 (.mv 14),
 ⟨(some 16), .mv 6, (some (15, false))⟩,
 ⟨(some 17), .mv 0, (some (15, false))⟩,
 ⟨(some 18), .bin .geq 16 17, (some (15, false))⟩,
 oX 19 (.pick 15 (.k (.one (.v (.bool) (true)))) 18)])
 (.cond 19
 (.seq
 (.reg false [
 oX 4 (.mv (.k (.one (.v (.bool) (false)))))])
 .ret)
 .skip))))
 (.reg false [
 oX 20 (.bin .add 9 (kX 1)),
 oX 9 (.mv 20)]))))))))
 (.seq
 (.reg false [
 oX 4 (.mv (.k (.one (.v (.bool) (true)))))])
 .ret)))
def ms_impl_inMod : List MRes := [.tmp 4]
theorem n_impl_inMod (NN : Nat) (x : DLL (Sig.tys ag_impl_inMod)) : runS NN [] sc_impl_inMod ms_impl_inMod ag_impl_inMod rs_impl_inMod x = G_impl_inMod NN x := by kernel_rfl
theorem k_impl_inMod : chkS pX 75 sc_impl_inMod.er ms_impl_inMod 2 = true := by decide +kernel
theorem p_impl_inMod : PureSpec pX 75 fn_impl_inMod.M ∧ chkFun pX 75 = true :=
  pure_of_runS (T := []) (sc := sc_impl_inMod) (ms := ms_impl_inMod) (args := ag_impl_inMod) (res := rs_impl_inMod) (SOk.nil) follows_ok k_impl_inMod F_impl_inMod fun x y h => (n_impl_inMod FUEL x).trans (f_impl_inMod x y h)

def fn_impl_MatrixOk : SFn := ⟨43, ag_impl_MatrixOk, mu_impl_MatrixOk, rs_impl_MatrixOk, F_impl_MatrixOk⟩
def sc_impl_MatrixOk : SCode :=
 (.seq
 (.reg false [
 oX 3 (.box 3 1),
 oX 4 (.mv (.k (.one (.v (.bool) (false)))))])
 (.seq
 (.seq
 (.reg false [
 oX 5 (.mv 0),
 oX 6 (.call .froz 55 [5]),
 oX 7 (.un .not 6),
 oX 8 (.mv 7),
 ⟨(some 9), .fieldA 0 3, (some (8, false))⟩,
 ⟨(some 10), .load false 1 9, (some (8, false))⟩,
 ⟨(some 11), .bin .lss 10 (kX 0), (some (8, false))⟩,
 oX 12 (.pick 8 (.k (.one (.v (.bool) (true)))) 11),
 oX 13 (.mv 12),
 ⟨(some 14), .fieldA 1 3, (some (13, false))⟩,
 ⟨(some 15), .load false 1 14, (some (13, false))⟩,
 ⟨(some 16), .bin .lss 15 (kX 0), (some (13, false))⟩,
 oX 17 (.pick 13 (.k (.one (.v (.bool) (true)))) 16),
 oX 18 (.mv 17),
 ⟨(some 19), .fieldA 0 3, (some (18, false))⟩,
 ⟨(some 20), .load false 1 19, (some (18, false))⟩,
 ⟨(some 21), .bin .gtr 20 (kX 64), (some (18, false))⟩,
 oX 22 (.pick 18 (.k (.one (.v (.bool) (true)))) 21),
 oX 23 (.mv 22),
 ⟨(some 24), .fieldA 1 3, (some (23, false))⟩,
 ⟨(some 25), .load false 1 24, (some (23, false))⟩,
 ⟨(some 26), .bin .gtr 25 (kX 64), (some (23, false))⟩,
 oX 27 (.pick 23 (.k (.one (.v (.bool) (true)))) 26)])
 (.cond 27
 (.seq
 (.reg false [
 oX 4 (.mv (.k (.one (.v (.bool) (false)))))])
 .ret)
 .skip))
 (.seq
 (.reg false [
 oX 28 (.fieldA 2 3),
 oX 29 (.load false 1 28),
 oX 30 (.len 29),
 oX 31 (.fieldA 0 3),
 oX 32 (.load false 1 31),
 oX 33 (.fieldA 1 3),
 oX 34 (.load false 1 33),
 oX 35 (.bin .mul 32 34),
 oX 36 (.bin .eql 30 35),
 oX 37 (.mv 36),
 ⟨(some 38), .mv 0, (some (37, true))⟩,
 ⟨(some 39), .fieldA 2 3, (some (37, true))⟩,
 ⟨(some 40), .load false 1 39, (some (37, true))⟩,
 ⟨(some 41), .call .froz 75 [38, 40], (some (37, true))⟩,
 oX 42 (.pick 37 41 (.k (.one (.v (.bool) (false))))),
 oX 4 (.mv 42)])
 .ret)))
def ms_impl_MatrixOk : List MRes := [.tmp 4]
theorem n_impl_MatrixOk (NN : Nat) (x : DLL (Sig.tys ag_impl_MatrixOk)) : runS NN [fn_impl_IsPrime, fn_impl_inMod] sc_impl_MatrixOk ms_impl_MatrixOk ag_impl_MatrixOk rs_impl_MatrixOk x = G_impl_MatrixOk NN x := by kernel_rfl
theorem k_impl_MatrixOk : chkS pX 43 sc_impl_MatrixOk.er ms_impl_MatrixOk 2 = true := by decide +kernel
theorem p_impl_MatrixOk : PureSpec pX 43 fn_impl_MatrixOk.M ∧ chkFun pX 43 = true :=
  pure_of_runS (T := [fn_impl_IsPrime, fn_impl_inMod]) (sc := sc_impl_MatrixOk) (ms := ms_impl_MatrixOk) (args := ag_impl_MatrixOk) (res := rs_impl_MatrixOk) (SOk.cons p_impl_IsPrime <| SOk.cons p_impl_inMod <| SOk.nil) follows_ok k_impl_MatrixOk F_impl_MatrixOk fun x y h => (n_impl_MatrixOk FUEL x).trans (f_impl_MatrixOk x y h)

def fn_impl_emptyMatrix : SFn := ⟨60, ag_impl_emptyMatrix, mu_impl_emptyMatrix, rs_impl_emptyMatrix, F_impl_emptyMatrix⟩
def sc_impl_emptyMatrix : SCode :=
 (.seq
 (.reg false [
 oX 4 (.alloc [zX, zX, .nil iX])])
 (.seq
 (.reg false [
 oX 5 (.mv 0),
 oX 6 (.mv 1),
 oX 7 (.mv 0),
 oX 8 (.mv 1),
 oX 9 (.bin .mul 7 8),
 oX 10 (.mkslice .froz iX 8 (0 : Int) 9 9),
 oX 11 (.build [zX, zX, .nil iX] [(0, 1, 5), (1, 1, 6), (2, 1, 10)]),
 uX (.store 3 4 11)])
 .ret))
def ms_impl_emptyMatrix : List MRes := [.cell 4 3 true]
theorem n_impl_emptyMatrix (NN : Nat) (x : DLL (Sig.tys ag_impl_emptyMatrix)) : runS NN [] sc_impl_emptyMatrix ms_impl_emptyMatrix ag_impl_emptyMatrix rs_impl_emptyMatrix x = G_impl_emptyMatrix NN x := by kernel_rfl
theorem k_impl_emptyMatrix : chkS pX 60 sc_impl_emptyMatrix.er ms_impl_emptyMatrix 2 = true := by decide +kernel
theorem p_impl_emptyMatrix : PureSpec pX 60 fn_impl_emptyMatrix.M ∧ chkFun pX 60 = true :=
  pure_of_runS (T := []) (sc := sc_impl_emptyMatrix) (ms := ms_impl_emptyMatrix) (args := ag_impl_emptyMatrix) (res := rs_impl_emptyMatrix) (SOk.nil) follows_ok k_impl_emptyMatrix F_impl_emptyMatrix fun x y h => (n_impl_emptyMatrix FUEL x).trans (f_impl_emptyMatrix x y h)

def fn_impl_Matrix_at : SFn := ⟨62, ag_impl_Matrix_at, mu_impl_Matrix_at, rs_impl_Matrix_at, F_impl_Matrix_at⟩
def sc_impl_Matrix_at : SCode :=
 (.seq
 (.reg false [
 oX 3 (.box 3 0),
 oX 6 (.mv (kX 0))])
 (.seq
 (.reg false [
 oX 7 (.fieldA 2 3),
 oX 8 (.load false 1 7),
 oX 9 (.mv 1),
 oX 10 (.fieldA 1 3),
 oX 11 (.load false 1 10),
 oX 12 (.bin .mul 9 11),
 oX 13 (.mv 2),
 oX 14 (.bin .add 12 13),
 oX 15 (.idxA 1 8 14),
 oX 16 (.load false 1 15),
 oX 6 (.mv 16)])
 .ret))
def ms_impl_Matrix_at : List MRes := [.tmp 6]
theorem n_impl_Matrix_at (NN : Nat) (x : DLL (Sig.tys ag_impl_Matrix_at)) : runS NN [] sc_impl_Matrix_at ms_impl_Matrix_at ag_impl_Matrix_at rs_impl_Matrix_at x = G_impl_Matrix_at NN x := by kernel_rfl
theorem k_impl_Matrix_at : chkS pX 62 sc_impl_Matrix_at.er ms_impl_Matrix_at 3 = true := by decide +kernel
theorem p_impl_Matrix_at : PureSpec pX 62 fn_impl_Matrix_at.M ∧ chkFun pX 62 = true :=
  pure_of_runS (T := []) (sc := sc_impl_Matrix_at) (ms := ms_impl_Matrix_at) (args := ag_impl_Matrix_at) (res := rs_impl_Matrix_at) (SOk.nil) follows_ok k_impl_Matrix_at F_impl_Matrix_at fun x y h => (n_impl_Matrix_at FUEL x).trans (f_impl_Matrix_at x y h)

def fn_impl_Matrix_set : SFn := ⟨61, ag_impl_Matrix_set, mu_impl_Matrix_set, rs_impl_Matrix_set, F_impl_Matrix_set⟩
def sc_impl_Matrix_set : SCode :=
 (.seq
 (.reg false [
 oX 4 (.box 3 0)])
 (.reg false [
 oX 8 (.fieldA 2 4),
 oX 9 (.load false 1 8),
 oX 10 (.mv 1),
 oX 11 (.fieldA 1 4),
 oX 12 (.load false 1 11),
 oX 13 (.bin .mul 10 12),
 oX 14 (.mv 2),
 oX 15 (.bin .add 13 14),
 oX 16 (.mv 3),
 oX 17 (.idxA 1 9 15),
 uX (.store 1 17 16)]))
def ms_impl_Matrix_set : List MRes := []
theorem n_impl_Matrix_set (NN : Nat) (x : DLL (Sig.tys ag_impl_Matrix_set)) : runMS NN [] sc_impl_Matrix_set ms_impl_Matrix_set ag_impl_Matrix_set mu_impl_Matrix_set rs_impl_Matrix_set x = G_impl_Matrix_set NN x := by kernel_rfl
theorem k_impl_Matrix_set : chkS pX 61 sc_impl_Matrix_set.er ms_impl_Matrix_set 4 = true := by decide +kernel
theorem p_impl_Matrix_set : MutSpec pX 61 mu_impl_Matrix_set fn_impl_Matrix_set.MM ∧ chkFun pX 61 = true :=
  mut_of_runMS (T := []) (sc := sc_impl_Matrix_set) (ms := ms_impl_Matrix_set) (args := ag_impl_Matrix_set) (mu := mu_impl_Matrix_set) (res := rs_impl_Matrix_set) (SOk.nil) follows_ok k_impl_Matrix_set F_impl_Matrix_set fun x y h => (n_impl_Matrix_set FUEL x).trans (f_impl_Matrix_set x y h)

def fn_impl_rawMulMatrix : SFn := ⟨54, ag_impl_rawMulMatrix, mu_impl_rawMulMatrix, rs_impl_rawMulMatrix, F_impl_rawMulMatrix⟩
def sc_impl_rawMulMatrix : SCode :=
 (.seq
 (.reg false [
 oX 4 (.box 3 1),
 oX 5 (.box 3 2),
 oX 6 (.alloc [zX, zX, .nil iX])])
 (.seq
 (.reg false [
 oX 12 (.fieldA 0 4),
 oX 13 (.load false 1 12),
 oX 14 (.fieldA 1 5),
 oX 15 (.load false 1 14),
 oX 16 (.call .froz 60 [13, 15]),
 oX 7 (.alloc [zX, zX, .nil iX]),
 uX (.store 3 7 16)])
 (.seq
 (.seq
 (.reg false [
 oX 8 (.mv (kX 0))])
 (.join ⟨[(7, .one (rX 7)), (6, .one (rX 6))], [(6, .box [vX, vX, fX 500012 1]), (7, .box [vX, vX, fX 500013 1]), (500012, .row true .froz iX), (500013, .row true .froz iX)]⟩ [4, 5, 6, 7, 500000, 500001, 500012, 500013] [(true, 6, 2, 500012, .froz, []), (true, 7, 2, 500013, .froz, [])]
 (.block 0
 (.loop 0 ⟨[(0, sX), (4, .one (rX 4)), (5, .one (rX 5)), (6, .one (rX 6)), (7, .one (rX 7)), (8, sX)], [(4, .box [vX, vX, .c (.v (lX))]), (5, .box [vX, vX, .c (.v (lX))]), (6, .box [vX, vX, fX 500000 1]), (7, .box [vX, vX, fX 500001 1]), (500000, .row true .froz iX), (500001, .row true .froz iX)]⟩ [4, 5, 6, 17000, 7, 500000, 500001, 500010, 500011] [(true, 6, 2, 500000, .froz, []), (true, 7, 2, 500001, .froz, [])]
 (.seq
 (.seq
 (.reg false [
 oX 17 (.mv 8),
 oX 18 (.fieldA 0 4),
 oX 19 (.load false 1 18),
 oX 20 (.bin .lss 17 19)])
 (.cond 20
 .skip
 (.exit 0)))
 (.seq
 (.join ⟨[(8, sX), (0, sX), (4, .one (rX 4)), (5, .one (rX 5)), (6, .one (rX 6)), (7, .one (rX 7))], [(4, .box [vX, vX, .c (.v (lX))]), (5, .box [vX, vX, .c (.v (lX))]), (6, .box [vX, vX, fX 500010 1]), (7, .box [vX, vX, fX 500011 1]), (500010, .row true .froz iX), (500011, .row true .froz iX)]⟩ [4, 5, 6, 7, 500002, 500003, 500010, 500011] [(true, 6, 2, 500010, .froz, []), (true, 7, 2, 500011, .froz, [])]
 (.block 1
 (.seq
 (.reg false [
 oX 9 (.mv (kX 0))])
 (.block 2
 (.loop 0 ⟨[(0, sX), (4, .one (rX 4)), (5, .one (rX 5)), (6, .one (rX 6)), (7, .one (rX 7)), (8, sX), (9, sX)], [(4, .box [vX, vX, .c (.v (lX))]), (5, .box [vX, vX, .c (.v (lX))]), (6, .box [vX, vX, fX 500002 1]), (7, .box [vX, vX, fX 500003 1]), (500002, .row true .froz iX), (500003, .row true .froz iX)]⟩ [4, 5, 6, 7, 500000, 500001, 500002, 500003, 500008, 500009] [(true, 6, 2, 500002, .froz, []), (true, 7, 2, 500003, .froz, [])]
 (.seq
 (.seq
 (.reg false [
 oX 23 (.mv 9),
 oX 24 (.fieldA 1 5),
 oX 25 (.load false 1 24),
 oX 26 (.bin .lss 23 25)])
 (.cond 26
 .skip
 (.exit 2)))
 (.seq
 (.join ⟨[(9, sX), (0, sX), (4, .one (rX 4)), (5, .one (rX 5)), (6, .one (rX 6)), (7, .one (rX 7)), (8, sX)], [(4, .box [vX, vX, .c (.v (lX))]), (5, .box [vX, vX, .c (.v (lX))]), (6, .box [vX, vX, fX 500008 1]), (7, .box [vX, vX, fX 500009 1]), (500008, .row true .froz iX), (500009, .row true .froz iX)]⟩ [4, 5, 6, 7, 500006, 500007, 500008, 500009] [(true, 6, 2, 500008, .froz, []), (true, 7, 2, 500009, .froz, [])]
 (.block 3
 (.seq
 (.reg false [
 oX 10 (.mv (kX 0))])
 (.seq
 (.seq
 (.reg false [
 oX 11 (.mv (kX 0))])
 (.join ⟨[(10, sX), (9, sX), (0, sX), (4, .one (rX 4)), (5, .one (rX 5)), (6, .one (rX 6)), (7, .one (rX 7)), (8, sX)], [(4, .box [vX, vX, .c (.v (lX))]), (5, .box [vX, vX, .c (.v (lX))]), (6, .box [vX, vX, fX 500006 1]), (7, .box [vX, vX, fX 500007 1]), (500006, .row true .froz iX), (500007, .row true .froz iX)]⟩ [4, 5, 6, 7, 500004, 500005, 500006, 500007] [(true, 6, 2, 500006, .froz, []), (true, 7, 2, 500007, .froz, [])]
 (.block 4
 (.loop 0 ⟨[(0, sX), (4, .one (rX 4)), (5, .one (rX 5)), (6, .one (rX 6)), (7, .one (rX 7)), (8, sX), (9, sX), (10, sX), (11, sX)], [(4, .box [vX, vX, .c (.v (lX))]), (5, .box [vX, vX, .c (.v (lX))]), (6, .box [vX, vX, fX 500004 1]), (7, .box [vX, vX, fX 500005 1]), (500004, .row true .froz iX), (500005, .row true .froz iX)]⟩ [4, 5, 6, 7, 500002, 500003, 500004, 500005] [(true, 6, 2, 500004, .froz, []), (true, 7, 2, 500005, .froz, [])]
 (.seq
 (.seq
 (.reg false [
 oX 29 (.mv 11),
 oX 30 (.fieldA 1 4),
 oX 31 (.load false 1 30),
 oX 32 (.bin .lss 29 31)])
 (.cond 32
 .skip
 (.exit 4)))
 (.seq
 (.block 5
 (.reg true [
 oX 35 (.mv 10),
 oX 36 (.load true 3 4),
 oX 37 (.mv 8),
 oX 38 (.mv 11),
 oX 39 (.call .froz 62 [36, 37, 38]),
 oX 40 (.load true 3 5),
 oX 41 (.mv 11),
 oX 42 (.mv 9),
 oX 43 (.call .froz 62 [40, 41, 42]),
 oX 44 (.bin .mul 39 43),
 oX 45 (.bin .add 35 44),
 oX 46 (.mv 0),
 oX 47 (.bin .rem 45 46),
 oX 10 (.mv 47)]))
 (.reg false [
 oX 33 (.mv 11),
 oX 34 (.bin .add 33 (kX 1)),
 oX 11 (.mv 34)])))))))
 (.reg false [
 oX 48 (.load true 3 7),
 oX 49 (.mv 8),
 oX 50 (.mv 9),
 oX 51 (.mv 10),
 oX 52 (.callm .froz 61 [48, 49, 50, 51])])))))
 (.reg false [
 oX 27 (.mv 9),
 oX 28 (.bin .add 27 (kX 1)),
 oX 9 (.mv 28)]))))))))
 (.reg false [
 oX 21 (.mv 8),
 oX 22 (.bin .add 21 (kX 1)),
 oX 8 (.mv 22)])))))))
 (.seq
 (.reg false [
 oX 53 (.load true 3 7),
 uX (.store 3 6 53)])
 .ret))))
def ms_impl_rawMulMatrix : List MRes := [.cell 6 3 true]
theorem n_impl_rawMulMatrix (NN : Nat) (x : DLL (Sig.tys ag_impl_rawMulMatrix)) : runS NN [fn_impl_emptyMatrix, fn_impl_Matrix_at, fn_impl_Matrix_set] sc_impl_rawMulMatrix ms_impl_rawMulMatrix ag_impl_rawMulMatrix rs_impl_rawMulMatrix x = G_impl_rawMulMatrix NN x := by kernel_rfl
theorem k_impl_rawMulMatrix : chkS pX 54 sc_impl_rawMulMatrix.er ms_impl_rawMulMatrix 3 = true := by decide +kernel
theorem p_impl_rawMulMatrix : PureSpec pX 54 fn_impl_rawMulMatrix.M ∧ chkFun pX 54 = true :=
  pure_of_runS (T := [fn_impl_emptyMatrix, fn_impl_Matrix_at, fn_impl_Matrix_set]) (sc := sc_impl_rawMulMatrix) (ms := ms_impl_rawMulMatrix) (args := ag_impl_rawMulMatrix) (res := rs_impl_rawMulMatrix) (SOk.cons p_impl_emptyMatrix <| SOk.cons p_impl_Matrix_at <| SOk.consM p_impl_Matrix_set <| SOk.nil) follows_ok k_impl_rawMulMatrix F_impl_rawMulMatrix fun x y h => (n_impl_rawMulMatrix FUEL x).trans (f_impl_rawMulMatrix x y h)

def fn_impl_MulMatrix : SFn := ⟨30, ag_impl_MulMatrix, mu_impl_MulMatrix, rs_impl_MulMatrix, F_impl_MulMatrix⟩
def sc_impl_MulMatrix : SCode :=
 (.seq
 (.reg false [
 oX 4 (.box 3 1),
 oX 5 (.box 3 2),
 oX 6 (.alloc [zX, zX, .nil iX]),
 oX 7 (.mv (.k (.one (.v (.bool) (false)))))])
 (.seq
 (.seq
 (.reg false [
 oX 8 (.mv 0),
 oX 9 (.load true 3 4),
 oX 10 (.call .froz 43 [8, 9]),
 oX 11 (.un .not 10),
 oX 12 (.mv 11),
 ⟨(some 13), .mv 0, (some (12, false))⟩,
 ⟨(some 14), .load true 3 5, (some (12, false))⟩,
 ⟨(some 15), .call .froz 43 [13, 14], (some (12, false))⟩,
 ⟨(some 16), .un .not 15, (some (12, false))⟩,
 oX 17 (.pick 12 (.k (.one (.v (.bool) (true)))) 16),
 oX 18 (.mv 17),
 ⟨(some 19), .fieldA 1 4, (some (18, false))⟩,
 ⟨(some 20), .load false 1 19, (some (18, false))⟩,
 ⟨(some 21), .fieldA 0 5, (some (18, false))⟩,
 ⟨(some 22), .load false 1 21, (some (18, false))⟩,
 ⟨(some 23), .bin .neq 20 22, (some (18, false))⟩,
 oX 24 (.pick 18 (.k (.one (.v (.bool) (true)))) 23)])
 (.cond 24
 (.seq
 (.reg false [
 oX 25 (.build [zX, zX, .nil iX] []),
 uX (.store 3 6 25),
 oX 7 (.mv (.k (.one (.v (.bool) (false)))))])
 .ret)
 .skip))
 (.seq
 (.reg false [
 oX 26 (.mv 0),
 oX 27 (.load true 3 4),
 oX 28 (.load true 3 5),
 oX 29 (.call .froz 54 [26, 27, 28]),
 uX (.store 3 6 29),
 oX 7 (.mv (.k (.one (.v (.bool) (true)))))])
 .ret)))
def ms_impl_MulMatrix : List MRes := [.cell 6 3 true, .tmp 7]
theorem n_impl_MulMatrix (NN : Nat) (x : DLL (Sig.tys ag_impl_MulMatrix)) : runS NN [fn_impl_MatrixOk, fn_impl_rawMulMatrix] sc_impl_MulMatrix ms_impl_MulMatrix ag_impl_MulMatrix rs_impl_MulMatrix x = G_impl_MulMatrix NN x := by kernel_rfl
theorem k_impl_MulMatrix : chkS pX 30 sc_impl_MulMatrix.er ms_impl_MulMatrix 3 = true := by decide +kernel
theorem p_impl_MulMatrix : PureSpec pX 30 fn_impl_MulMatrix.M ∧ chkFun pX 30 = true :=
  pure_of_runS (T := [fn_impl_MatrixOk, fn_impl_rawMulMatrix]) (sc := sc_impl_MulMatrix) (ms := ms_impl_MulMatrix) (args := ag_impl_MulMatrix) (res := rs_impl_MulMatrix) (SOk.cons p_impl_MatrixOk <| SOk.cons p_impl_rawMulMatrix <| SOk.nil) follows_ok k_impl_MulMatrix F_impl_MulMatrix fun x y h => (n_impl_MulMatrix FUEL x).trans (f_impl_MulMatrix x y h)

def fn_impl_rawTranspose : SFn := ⟨64, ag_impl_rawTranspose, mu_impl_rawTranspose, rs_impl_rawTranspose, F_impl_rawTranspose⟩
def sc_impl_rawTranspose : SCode :=
 (.seq
 (.reg false [
 oX 1 (.box 3 0),
 oX 2 (.alloc [zX, zX, .nil iX])])
 (.seq
 (.reg false [
 oX 6 (.fieldA 1 1),
 oX 7 (.load false 1 6),
 oX 8 (.fieldA 0 1),
 oX 9 (.load false 1 8),
 oX 10 (.call .froz 60 [7, 9]),
 oX 3 (.alloc [zX, zX, .nil iX]),
 uX (.store 3 3 10)])
 (.seq
 (.seq
 (.reg false [
 oX 4 (.mv (kX 0))])
 (.join ⟨[(3, .one (rX 3)), (2, .one (rX 2))], [(2, .box [vX, vX, fX 500006 1]), (3, .box [vX, vX, fX 500007 1]), (500006, .row true .froz iX), (500007, .row true .froz iX)]⟩ [1, 2, 3, 500000, 500001, 500006, 500007] [(true, 2, 2, 500006, .froz, []), (true, 3, 2, 500007, .froz, [])]
 (.block 0
 (.loop 0 ⟨[(1, .one (rX 1)), (2, .one (rX 2)), (3, .one (rX 3)), (4, sX)], [(1, .box [vX, vX, .c (.v (lX))]), (2, .box [vX, vX, fX 500000 1]), (3, .box [vX, vX, fX 500001 1]), (500000, .row true .froz iX), (500001, .row true .froz iX)]⟩ [1, 2, 11000, 3, 500000, 500001, 500004, 500005] [(true, 2, 2, 500000, .froz, []), (true, 3, 2, 500001, .froz, [])]
 (.seq
 (.seq
 (.reg false [
 oX 11 (.mv 4),
 oX 12 (.fieldA 0 1),
 oX 13 (.load false 1 12),
 oX 14 (.bin .lss 11 13)])
 (.cond 14
 .skip
 (.exit 0)))
 (.seq
 (.join ⟨[(4, sX), (1, .one (rX 1)), (2, .one (rX 2)), (3, .one (rX 3))], [(1, .box [vX, vX, .c (.v (lX))]), (2, .box [vX, vX, fX 500004 1]), (3, .box [vX, vX, fX 500005 1]), (500004, .row true .froz iX), (500005, .row true .froz iX)]⟩ [1, 2, 3, 500002, 500003, 500004, 500005] [(true, 2, 2, 500004, .froz, []), (true, 3, 2, 500005, .froz, [])]
 (.block 1
 (.seq
 (.reg false [
 oX 5 (.mv (kX 0))])
 (.block 2
 (.loop 0 ⟨[(1, .one (rX 1)), (2, .one (rX 2)), (3, .one (rX 3)), (4, sX), (5, sX)], [(1, .box [vX, vX, .c (.v (lX))]), (2, .box [vX, vX, fX 500002 1]), (3, .box [vX, vX, fX 500003 1]), (500002, .row true .froz iX), (500003, .row true .froz iX)]⟩ [1, 2, 3, 500000, 500001, 500002, 500003] [(true, 2, 2, 500002, .froz, []), (true, 3, 2, 500003, .froz, [])]
 (.seq
 (.seq
 (.reg false [
 oX 17 (.mv 5),
 oX 18 (.fieldA 1 1),
 oX 19 (.load false 1 18),
 oX 20 (.bin .lss 17 19)])
 (.cond 20
 .skip
 (.exit 2)))
 (.seq
 (.block 3
 (.reg true [
 oX 23 (.load true 3 3),
 oX 24 (.mv 5),
 oX 25 (.mv 4),
 oX 26 (.load true 3 1),
 oX 27 (.mv 4),
 oX 28 (.mv 5),
 oX 29 (.call .froz 62 [26, 27, 28]),
 oX 30 (.callm .froz 61 [23, 24, 25, 29])]))
 (.reg false [
 oX 21 (.mv 5),
 oX 22 (.bin .add 21 (kX 1)),
 oX 5 (.mv 22)]))))))))
 (.reg false [
 oX 15 (.mv 4),
 oX 16 (.bin .add 15 (kX 1)),
 oX 4 (.mv 16)])))))))
 (.seq
 (.reg false [
 oX 31 (.load true 3 3),
 uX (.store 3 2 31)])
 .ret))))
def ms_impl_rawTranspose : List MRes := [.cell 2 3 true]
theorem n_impl_rawTranspose (NN : Nat) (x : DLL (Sig.tys ag_impl_rawTranspose)) : runS NN [fn_impl_emptyMatrix, fn_impl_Matrix_at, fn_impl_Matrix_set] sc_impl_rawTranspose ms_impl_rawTranspose ag_impl_rawTranspose rs_impl_rawTranspose x = G_impl_rawTranspose NN x := by kernel_rfl
theorem k_impl_rawTranspose : chkS pX 64 sc_impl_rawTranspose.er ms_impl_rawTranspose 1 = true := by decide +kernel
theorem p_impl_rawTranspose : PureSpec pX 64 fn_impl_rawTranspose.M ∧ chkFun pX 64 = true :=
  pure_of_runS (T := [fn_impl_emptyMatrix, fn_impl_Matrix_at, fn_impl_Matrix_set]) (sc := sc_impl_rawTranspose) (ms := ms_impl_rawTranspose) (args := ag_impl_rawTranspose) (res := rs_impl_rawTranspose) (SOk.cons p_impl_emptyMatrix <| SOk.cons p_impl_Matrix_at <| SOk.consM p_impl_Matrix_set <| SOk.nil) follows_ok k_impl_rawTranspose F_impl_rawTranspose fun x y h => (n_impl_rawTranspose FUEL x).trans (f_impl_rawTranspose x y h)

def fn_impl_TransposeMatrix : SFn := ⟨31, ag_impl_TransposeMatrix, mu_impl_TransposeMatrix, rs_impl_TransposeMatrix, F_impl_TransposeMatrix⟩
def sc_impl_TransposeMatrix : SCode :=
 (.seq
 (.reg false [
 oX 3 (.box 3 1),
 oX 4 (.alloc [zX, zX, .nil iX])])
 (.seq
 (.seq
 (.reg false [
 oX 5 (.mv 0),
 oX 6 (.load true 3 3),
 oX 7 (.call .froz 43 [5, 6]),
 oX 8 (.un .not 7)])
 (.cond 8
 (.seq
 (.reg false [
 oX 9 (.build [zX, zX, .nil iX] []),
 uX (.store 3 4 9)])
 .ret)
 .skip))
 (.seq
 (.reg false [
 oX 10 (.load true 3 3),
 oX 11 (.call .froz 64 [10]),
 uX (.store 3 4 11)])
 .ret)))
def ms_impl_TransposeMatrix : List MRes := [.cell 4 3 true]
theorem n_impl_TransposeMatrix (NN : Nat) (x : DLL (Sig.tys ag_impl_TransposeMatrix)) : runS NN [fn_impl_MatrixOk, fn_impl_rawTranspose] sc_impl_TransposeMatrix ms_impl_TransposeMatrix ag_impl_TransposeMatrix rs_impl_TransposeMatrix x = G_impl_TransposeMatrix NN x := by kernel_rfl
theorem k_impl_TransposeMatrix : chkS pX 31 sc_impl_TransposeMatrix.er ms_impl_TransposeMatrix 2 = true := by decide +kernel
theorem p_impl_TransposeMatrix : PureSpec pX 31 fn_impl_TransposeMatrix.M ∧ chkFun pX 31 = true :=
  pure_of_runS (T := [fn_impl_MatrixOk, fn_impl_rawTranspose]) (sc := sc_impl_TransposeMatrix) (ms := ms_impl_TransposeMatrix) (args := ag_impl_TransposeMatrix) (res := rs_impl_TransposeMatrix) (SOk.cons p_impl_MatrixOk <| SOk.cons p_impl_rawTranspose <| SOk.nil) follows_ok k_impl_TransposeMatrix F_impl_TransposeMatrix fun x y h => (n_impl_TransposeMatrix FUEL x).trans (f_impl_TransposeMatrix x y h)

def fn_impl_alternating : SFn := ⟨69, ag_impl_alternating, mu_impl_alternating, rs_impl_alternating, F_impl_alternating⟩
def sc_impl_alternating : SCode :=
 (.seq
 (.reg false [
 oX 3 (.box 3 1),
 oX 4 (.mv (.k (.one (.v (.bool) (false)))))])
 (.seq
 (.seq
 (.reg false [
 oX 5 (.mv (kX 0))])
 (.join ⟨[], []⟩ [3] []
 (.block 0
 (.loop 0 ⟨[(0, sX), (3, .one (rX 3)), (5, sX)], [(3, .box [vX, vX, .c (.v (lX))])]⟩ [3] []
 (.seq
 (.seq
 (.reg false [
 oX 7 (.mv 5),
 oX 8 (.fieldA 0 3),
 oX 9 (.load false 1 8),
 oX 10 (.bin .lss 7 9)])
 (.cond 10
 .skip
 (.exit 0)))
 (.seq
 (.join ⟨[(5, sX), (0, sX), (3, .one (rX 3))], [(3, .box [vX, vX, .c (.v (lX))])]⟩ [3] []
 (.block 1
 (.seq
 (.reg false [
 oX 6 (.mv (kX 0))])
 (.block 2
 (.loop 0 ⟨[(0, sX), (3, .one (rX 3)), (5, sX), (6, sX)], [(3, .box [vX, vX, .c (.v (lX))])]⟩ [3] []
 (.seq
 (.seq
 (.reg false [
 oX 13 (.mv 6),
 oX 14 (.mv 5),
 oX 15 (.bin .leq 13 14)])
 (.cond 15
 .skip
 (.exit 2)))
 (.seq
 (.block 3
 (.seq
 (.reg true [
 oX 18 (.load true 3 3),
 oX 19 (.mv 5),
 oX 20 (.mv 6),
 oX 21 (.call .froz 62 [18, 19, 20]),
 oX 22 (.load true 3 3),
 oX 23 (.mv 6),
 oX 24 (.mv 5),
 oX 25 (.call .froz 62 [22, 23, 24]),
 oX 26 (.bin .add 21 25),
 oX 27 (.mv 0),
 oX 28 (.bin .rem 26 27),
 oX 29 (.bin .neq 28 (kX 0)),
 oX 30 (.mv 29),
 ⟨(some 31), .mv 5, (some (30, false))⟩,
 ⟨(some 32), .mv 6, (some (30, false))⟩,
 ⟨(some 33), .bin .eql 31 32, (some (30, false))⟩,
 ⟨(some 34), .mv 33, (some (30, false))⟩,
 ⟨(some 35), .load true 3 3, (some (34, true))⟩,
 ⟨(some 36), .mv 5, (some (34, true))⟩,
 ⟨(some 37), .mv 5, (some (34, true))⟩,
 ⟨(some 38), .call .froz 62 [35, 36, 37], (some (34, true))⟩,
 ⟨(some 39), .bin .neq 38 (kX 0), (some (34, true))⟩,
 ⟨(some 40), .pick 34 39 (.k (.one (.v (.bool) (false)))), (some (30, false))⟩,
 oX 41 (.pick 30 (.k (.one (.v (.bool) (true)))) 40)])
 (.cond 41
 (.seq
 (.reg false [
 oX 4 (.mv (.k (.one (.v (.bool) (false)))))])
 .ret)
 .skip)))
 (.reg false [
 oX 16 (.mv 6),
 oX 17 (.bin .add 16 (kX 1)),
 oX 6 (.mv 17)]))))))))
 (.reg false [
 oX 11 (.mv 5),
 oX 12 (.bin .add 11 (kX 1)),
 oX 5 (.mv 12)])))))))
 (.seq
 (.reg false [
 oX 4 (.mv (.k (.one (.v (.bool) (true)))))])
 .ret)))
def ms_impl_alternating : List MRes := [.tmp 4]
theorem n_impl_alternating (NN : Nat) (x : DLL (Sig.tys ag_impl_alternating)) : runS NN [fn_impl_Matrix_at] sc_impl_alternating ms_impl_alternating ag_impl_alternating rs_impl_alternating x = G_impl_alternating NN x := by kernel_rfl
theorem k_impl_alternating : chkS pX 69 sc_impl_alternating.er ms_impl_alternating 2 = true := by decide +kernel
theorem p_impl_alternating : PureSpec pX 69 fn_impl_alternating.M ∧ chkFun pX 69 = true :=
  pure_of_runS (T := [fn_impl_Matrix_at]) (sc := sc_impl_alternating) (ms := ms_impl_alternating) (args := ag_impl_alternating) (res := rs_impl_alternating) (SOk.cons p_impl_Matrix_at <| SOk.nil) follows_ok k_impl_alternating F_impl_alternating fun x y h => (n_impl_alternating FUEL x).trans (f_impl_alternating x y h)

def fn_impl_copyInts : SFn := ⟨63, ag_impl_copyInts, mu_impl_copyInts, rs_impl_copyInts, F_impl_copyInts⟩
def sc_impl_copyInts : SCode :=
 (.seq
 (.reg false [
 oX 2 (.mv (.k (.one (.nil iX))))])
 (.seq
 (.reg false [
 oX 3 (.mv 0),
 oX 4 (.append true iX 8 (.k (.one (.nil iX))) 3),
 oX 2 (.mv 4)])
 .ret))
def ms_impl_copyInts : List MRes := [.tmp 2]
theorem n_impl_copyInts (NN : Nat) (x : DLL (Sig.tys ag_impl_copyInts)) : runS NN [] sc_impl_copyInts ms_impl_copyInts ag_impl_copyInts rs_impl_copyInts x = G_impl_copyInts NN x := by kernel_rfl
theorem k_impl_copyInts : chkS pX 63 sc_impl_copyInts.er ms_impl_copyInts 1 = true := by decide +kernel
theorem p_impl_copyInts : PureSpec pX 63 fn_impl_copyInts.M ∧ chkFun pX 63 = true :=
  pure_of_runS (T := []) (sc := sc_impl_copyInts) (ms := ms_impl_copyInts) (args := ag_impl_copyInts) (res := rs_impl_copyInts) (SOk.nil) follows_ok k_impl_copyInts F_impl_copyInts fun x y h => (n_impl_copyInts FUEL x).trans (f_impl_copyInts x y h)

def fn_impl_copyMatrix : SFn := ⟨65, ag_impl_copyMatrix, mu_impl_copyMatrix, rs_impl_copyMatrix, F_impl_copyMatrix⟩
def sc_impl_copyMatrix : SCode :=
 (.seq
 (.reg false [
 oX 1 (.box 3 0),
 oX 2 (.alloc [zX, zX, .nil iX])])
 (.seq
 (.reg true [
 oX 3 (.fieldA 0 1),
 oX 4 (.load false 1 3),
 oX 5 (.fieldA 1 1),
 oX 6 (.load false 1 5),
 oX 7 (.fieldA 2 1),
 oX 8 (.load false 1 7),
 oX 9 (.call .froz 63 [8]),
 oX 10 (.build [zX, zX, .nil iX] [(0, 1, 4), (1, 1, 6), (2, 1, 9)]),
 uX (.store 3 2 10)])
 .ret))
def ms_impl_copyMatrix : List MRes := [.cell 2 3 true]
theorem n_impl_copyMatrix (NN : Nat) (x : DLL (Sig.tys ag_impl_copyMatrix)) : runS NN [fn_impl_copyInts] sc_impl_copyMatrix ms_impl_copyMatrix ag_impl_copyMatrix rs_impl_copyMatrix x = G_impl_copyMatrix NN x := by kernel_rfl
theorem k_impl_copyMatrix : chkS pX 65 sc_impl_copyMatrix.er ms_impl_copyMatrix 1 = true := by decide +kernel
theorem p_impl_copyMatrix : PureSpec pX 65 fn_impl_copyMatrix.M ∧ chkFun pX 65 = true :=
  pure_of_runS (T := [fn_impl_copyInts]) (sc := sc_impl_copyMatrix) (ms := ms_impl_copyMatrix) (args := ag_impl_copyMatrix) (res := rs_impl_copyMatrix) (SOk.cons p_impl_copyInts <| SOk.nil) follows_ok k_impl_copyMatrix F_impl_copyMatrix fun x y h => (n_impl_copyMatrix FUEL x).trans (f_impl_copyMatrix x y h)

def fn_impl_Matrix_swapRows : SFn := ⟨66, ag_impl_Matrix_swapRows, mu_impl_Matrix_swapRows, rs_impl_Matrix_swapRows, F_impl_Matrix_swapRows⟩
def sc_impl_Matrix_swapRows : SCode :=
 (.seq
 (.reg false [
 oX 3 (.box 3 0)])
 (.seq
 (.reg false [
 oX 6 (.mv (kX 0))])
 (.block 0
 (.loop 0 ⟨[(1, sX), (2, sX), (3, .one (rX 3)), (6, sX)], [(1000000, .row false .froz iX), (3, .box [vX, vX, fX 1000000 1])]⟩ [1000000, 3, 500000] [(true, 3, 2, 500000, .froz, [])]
 (.seq
 (.seq
 (.reg false [
 oX 9 (.mv 6),
 oX 10 (.fieldA 1 3),
 oX 11 (.load false 1 10),
 oX 12 (.bin .lss 9 11)])
 (.cond 12
 .skip
 (.exit 0)))
 (.seq
 (.block 1
 (.seq
 (.reg true [
 oX 15 (.load true 3 3),
 oX 16 (.mv 1),
 oX 17 (.mv 6),
 oX 18 (.call .froz 62 [15, 16, 17]),
 oX 19 (.load true 3 3),
 oX 20 (.mv 2),
 oX 21 (.mv 6),
 oX 22 (.call .froz 62 [19, 20, 21]),
 oX 7 (.mv 18),
 oX 8 (.mv 22)])
 (.seq
 (.reg false [
 oX 23 (.load true 3 3),
 oX 24 (.mv 1),
 oX 25 (.mv 6),
 oX 26 (.mv 8),
 oX 27 (.callm .froz 61 [23, 24, 25, 26])])
 (.reg false [
 oX 28 (.load true 3 3),
 oX 29 (.mv 2),
 oX 30 (.mv 6),
 oX 31 (.mv 7),
 oX 32 (.callm .froz 61 [28, 29, 30, 31])]))))
 (.reg false [
 oX 13 (.mv 6),
 oX 14 (.bin .add 13 (kX 1)),
 oX 6 (.mv 14)])))))))
def ms_impl_Matrix_swapRows : List MRes := []
theorem n_impl_Matrix_swapRows (NN : Nat) (x : DLL (Sig.tys ag_impl_Matrix_swapRows)) : runMS NN [fn_impl_Matrix_at, fn_impl_Matrix_set] sc_impl_Matrix_swapRows ms_impl_Matrix_swapRows ag_impl_Matrix_swapRows mu_impl_Matrix_swapRows rs_impl_Matrix_swapRows x = G_impl_Matrix_swapRows NN x := by kernel_rfl
theorem k_impl_Matrix_swapRows : chkS pX 66 sc_impl_Matrix_swapRows.er ms_impl_Matrix_swapRows 3 = true := by decide +kernel
theorem p_impl_Matrix_swapRows : MutSpec pX 66 mu_impl_Matrix_swapRows fn_impl_Matrix_swapRows.MM ∧ chkFun pX 66 = true :=
  mut_of_runMS (T := [fn_impl_Matrix_at, fn_impl_Matrix_set]) (sc := sc_impl_Matrix_swapRows) (ms := ms_impl_Matrix_swapRows) (args := ag_impl_Matrix_swapRows) (mu := mu_impl_Matrix_swapRows) (res := rs_impl_Matrix_swapRows) (SOk.cons p_impl_Matrix_at <| SOk.consM p_impl_Matrix_set <| SOk.nil) follows_ok k_impl_Matrix_swapRows F_impl_Matrix_swapRows fun x y h => (n_impl_Matrix_swapRows FUEL x).trans (f_impl_Matrix_swapRows x y h)

def fn_impl_rawInverse : SFn := ⟨67, ag_impl_rawInverse, mu_impl_rawInverse, rs_impl_rawInverse, F_impl_rawInverse⟩
def sc_impl_rawInverse : SCode :=
 (.seq
 (.reg false [
 oX 4 (.mv (kX 0))])
 (.seq
 (.reg false [
 oX 5 (.mv (kX 1))])
 (.seq
 (.seq
 (.reg false [
 oX 7 (.mv 0),
 oX 8 (.bin .sub 7 (kX 2)),
 oX 6 (.mv 8)])
 (.join ⟨[(5, sX)], []⟩ [] []
 (.block 0
 (.loop 0 ⟨[(0, sX), (1, sX), (5, sX), (6, sX)], []⟩ [] []
 (.seq
 (.seq
 (.reg false [
 oX 9 (.mv 6),
 oX 10 (.bin .gtr 9 (kX 0))])
 (.cond 10
 .skip
 (.exit 0)))
 (.seq
 (.block 1
 (.seq
 (.seq
 (.reg false [
 oX 13 (.mv 6),
 oX 14 (.bin .and 13 (kX 1)),
 oX 15 (.bin .eql 14 (kX 1))])
 (.join ⟨[(1, sX), (6, sX), (0, sX), (5, sX)], []⟩ [] []
 (.cond 15
 (.reg false [
 oX 16 (.mv 5),
 oX 17 (.mv 1),
 oX 18 (.bin .mul 16 17),
 oX 19 (.mv 0),
 oX 20 (.bin .rem 18 19),
 oX 5 (.mv 20)])
 .skip)))
 (.reg false [
 oX 21 (.mv 1),
 oX 22 (.mv 1),
 oX 23 (.bin .mul 21 22),
 oX 24 (.mv 0),
 oX 25 (.bin .rem 23 24),
 oX 1 (.mv 25)])))
 (.reg false [
 oX 11 (.mv 6),
 oX 12 (.bin .shr 11 (.k (.one (.v (.int .u64) ((1 : Int)))))),
 oX 6 (.mv 12)])))))))
 (.seq
 (.reg false [
 oX 26 (.mv 5),
 oX 4 (.mv 26)])
 .ret))))
def ms_impl_rawInverse : List MRes := [.tmp 4]
theorem n_impl_rawInverse (NN : Nat) (x : DLL (Sig.tys ag_impl_rawInverse)) : runS NN [] sc_impl_rawInverse ms_impl_rawInverse ag_impl_rawInverse rs_impl_rawInverse x = G_impl_rawInverse NN x := by kernel_rfl
theorem k_impl_rawInverse : chkS pX 67 sc_impl_rawInverse.er ms_impl_rawInverse 2 = true := by decide +kernel
theorem p_impl_rawInverse : PureSpec pX 67 fn_impl_rawInverse.M ∧ chkFun pX 67 = true :=
  pure_of_runS (T := []) (sc := sc_impl_rawInverse) (ms := ms_impl_rawInverse) (args := ag_impl_rawInverse) (res := rs_impl_rawInverse) (SOk.nil) follows_ok k_impl_rawInverse F_impl_rawInverse fun x y h => (n_impl_rawInverse FUEL x).trans (f_impl_rawInverse x y h)

def fn_impl_Pfaffian : SFn := ⟨34, ag_impl_Pfaffian, mu_impl_Pfaffian, rs_impl_Pfaffian, F_impl_Pfaffian⟩
def sc_impl_Pfaffian : SCode :=
 (.seq
 (.reg false [
 oX 3 (.box 3 1),
 oX 4 (.mv (kX 0)),
 oX 5 (.mv (.k (.one (.v (.bool) (false)))))])
 (.seq
 (.seq
 (.reg false [
 oX 14 (.mv 0),
 oX 15 (.load true 3 3),
 oX 16 (.call .froz 43 [14, 15]),
 oX 17 (.un .not 16),
 oX 18 (.mv 17),
 ⟨(some 19), .fieldA 0 3, (some (18, false))⟩,
 ⟨(some 20), .load false 1 19, (some (18, false))⟩,
 ⟨(some 21), .fieldA 1 3, (some (18, false))⟩,
 ⟨(some 22), .load false 1 21, (some (18, false))⟩,
 ⟨(some 23), .bin .neq 20 22, (some (18, false))⟩,
 oX 24 (.pick 18 (.k (.one (.v (.bool) (true)))) 23),
 oX 25 (.mv 24),
 ⟨(some 26), .mv 0, (some (25, false))⟩,
 ⟨(some 27), .load true 3 3, (some (25, false))⟩,
 ⟨(some 28), .call .froz 69 [26, 27], (some (25, false))⟩,
 ⟨(some 29), .un .not 28, (some (25, false))⟩,
 oX 30 (.pick 25 (.k (.one (.v (.bool) (true)))) 29)])
 (.cond 30
 (.seq
 (.reg false [
 oX 4 (.mv (kX 0)),
 oX 5 (.mv (.k (.one (.v (.bool) (false)))))])
 .ret)
 .skip))
 (.seq
 (.seq
 (.reg false [
 oX 31 (.fieldA 0 3),
 oX 32 (.load false 1 31),
 oX 33 (.bin .rem 32 (kX 2)),
 oX 34 (.bin .eql 33 (kX 1))])
 (.cond 34
 (.seq
 (.reg false [
 oX 4 (.mv (kX 0)),
 oX 5 (.mv (.k (.one (.v (.bool) (true)))))])
 .ret)
 .skip))
 (.seq
 (.reg false [
 oX 35 (.load true 3 3),
 oX 36 (.call .froz 65 [35]),
 oX 6 (.alloc [zX, zX, .nil iX]),
 uX (.store 3 6 36)])
 (.seq
 (.reg false [
 oX 7 (.mv (kX 1))])
 (.seq
 (.seq
 (.reg false [
 oX 8 (.mv (kX 0))])
 (.join ⟨[(7, sX)], []⟩ [6, 500000] []
 (.block 0
 (.loop 0 ⟨[(0, sX), (6, .one (rX 6)), (7, sX), (8, sX)], [(6, .box [vX, vX, fX 500000 1]), (500000, .row true .froz iX)]⟩ [3, 37000, 6, 500000, 500007] [(true, 6, 2, 500000, .froz, [])]
 (.seq
 (.seq
 (.reg false [
 oX 37 (.mv 8),
 oX 38 (.fieldA 0 6),
 oX 39 (.load false 1 38),
 oX 40 (.bin .lss 37 39)])
 (.cond 40
 .skip
 (.exit 0)))
 (.seq
 (.join ⟨[(8, sX), (0, sX), (6, .one (rX 6)), (7, sX)], [(6, .box [vX, vX, fX 500007 1]), (500007, .row true .froz iX)]⟩ [6, 500004, 500007] [(true, 6, 2, 500007, .froz, [])]
 (.block 1
 (.seq
 (.reg false [
 oX 43 (.mv 8),
 oX 44 (.bin .add 43 (kX 1)),
 oX 9 (.mv 44)])
 (.seq
 (.join ⟨[(9, sX), (7, sX), (6, .one (rX 6)), (0, sX), (8, sX)], [(6, .box [vX, vX, fX 500002 1]), (500002, .row true .froz iX)]⟩ [6, 500001, 500002] [(true, 6, 2, 500002, .froz, [])]
 (.block 2
 (.loop 0 ⟨[(0, sX), (6, .one (rX 6)), (7, sX), (8, sX), (9, sX)], [(6, .box [vX, vX, fX 500001 1]), (500001, .row true .froz iX)]⟩ [6, 500000, 500001] [(true, 6, 2, 500001, .froz, [])]
 (.seq
 (.seq
 (.reg false [
 oX 45 (.mv 9),
 oX 46 (.fieldA 0 6),
 oX 47 (.load false 1 46),
 oX 48 (.bin .lss 45 47),
 oX 49 (.mv 48),
 ⟨(some 50), .load true 3 6, (some (49, true))⟩,
 ⟨(some 51), .mv 8, (some (49, true))⟩,
 ⟨(some 52), .mv 9, (some (49, true))⟩,
 ⟨(some 53), .call .froz 62 [50, 51, 52], (some (49, true))⟩,
 ⟨(some 54), .bin .eql 53 (kX 0), (some (49, true))⟩,
 oX 55 (.pick 49 54 (.k (.one (.v (.bool) (false)))))])
 (.cond 55
 .skip
 (.exit 2)))
 (.block 3
 (.reg false [
 oX 56 (.mv 9),
 oX 57 (.bin .add 56 (kX 1)),
 oX 9 (.mv 57)]))))))
 (.seq
 (.seq
 (.reg false [
 oX 58 (.mv 9),
 oX 59 (.fieldA 0 6),
 oX 60 (.load false 1 59),
 oX 61 (.bin .eql 58 60)])
 (.cond 61
 (.seq
 (.reg false [
 oX 4 (.mv (kX 0)),
 oX 5 (.mv (.k (.one (.v (.bool) (true)))))])
 .ret)
 .skip))
 (.seq
 (.seq
 (.reg false [
 oX 62 (.mv 9),
 oX 63 (.mv 8),
 oX 64 (.bin .add 63 (kX 1)),
 oX 65 (.bin .neq 62 64)])
 (.join ⟨[(7, sX), (6, .one (rX 6)), (0, sX), (8, sX)], [(6, .box [vX, vX, fX 500003 1]), (500003, .row true .froz iX)]⟩ [6, 73000, 80000, 500002, 500003] [(true, 6, 2, 500003, .froz, [])]
 (.cond 65
 (.seq
 (.reg false [
 oX 66 (.load true 3 6),
 oX 67 (.mv 8),
 oX 68 (.bin .add 67 (kX 1)),
 oX 69 (.mv 9),
 oX 70 (.callm .froz 66 [66, 68, 69])])
 (.seq
 (.reg false [
 oX 71 (.load true 3 6),
 oX 72 (.call .froz 64 [71]),
 uX (.store 3 6 72)])
 (.seq
 (.reg false [
 oX 73 (.load true 3 6),
 oX 74 (.mv 8),
 oX 75 (.bin .add 74 (kX 1)),
 oX 76 (.mv 9),
 oX 77 (.callm .froz 66 [73, 75, 76])])
 (.seq
 (.reg false [
 oX 78 (.load true 3 6),
 oX 79 (.call .froz 64 [78]),
 uX (.store 3 6 79)])
 (.reg false [
 oX 80 (.mv 0),
 oX 81 (.mv 7),
 oX 82 (.bin .sub 80 81),
 oX 83 (.mv 0),
 oX 84 (.bin .rem 82 83),
 oX 7 (.mv 84)])))))
 .skip)))
 (.seq
 (.reg false [
 oX 85 (.mv 7),
 oX 86 (.load true 3 6),
 oX 87 (.mv 8),
 oX 88 (.mv 8),
 oX 89 (.bin .add 88 (kX 1)),
 oX 90 (.call .froz 62 [86, 87, 89]),
 oX 91 (.bin .mul 85 90),
 oX 92 (.mv 0),
 oX 93 (.bin .rem 91 92),
 oX 7 (.mv 93)])
 (.seq
 (.reg false [
 oX 94 (.mv 0),
 oX 95 (.load true 3 6),
 oX 96 (.mv 8),
 oX 97 (.mv 8),
 oX 98 (.bin .add 97 (kX 1)),
 oX 99 (.call .froz 62 [95, 96, 98]),
 oX 100 (.call .froz 67 [94, 99]),
 oX 10 (.mv 100)])
 (.seq
 (.reg false [
 oX 101 (.mv 8),
 oX 102 (.bin .add 101 (kX 2)),
 oX 11 (.mv 102)])
 (.block 4
 (.loop 0 ⟨[(0, sX), (6, .one (rX 6)), (7, sX), (8, sX), (10, sX), (11, sX)], [(6, .box [vX, vX, fX 500004 1]), (500004, .row true .froz iX)]⟩ [6, 500003, 500004, 500006] [(true, 6, 2, 500004, .froz, [])]
 (.seq
 (.seq
 (.reg false [
 oX 103 (.mv 11),
 oX 104 (.fieldA 0 6),
 oX 105 (.load false 1 104),
 oX 106 (.bin .lss 103 105)])
 (.cond 106
 .skip
 (.exit 4)))
 (.seq
 (.join ⟨[(11, sX), (0, sX), (6, .one (rX 6)), (7, sX), (8, sX), (10, sX)], [(6, .box [vX, vX, fX 500006 1]), (500006, .row true .froz iX)]⟩ [6, 500005, 500006] [(true, 6, 2, 500006, .froz, [])]
 (.block 5
 (.seq
 (.reg false [
 oX 109 (.mv 8),
 oX 110 (.bin .add 109 (kX 2)),
 oX 12 (.mv 110)])
 (.block 6
 (.loop 0 ⟨[(0, sX), (6, .one (rX 6)), (7, sX), (8, sX), (10, sX), (11, sX), (12, sX)], [(6, .box [vX, vX, fX 500005 1]), (500005, .row true .froz iX)]⟩ [6, 500004, 500005] [(true, 6, 2, 500005, .froz, [])]
 (.seq
 (.seq
 (.reg false [
 oX 111 (.mv 12),
 oX 112 (.fieldA 0 6),
 oX 113 (.load false 1 112),
 oX 114 (.bin .lss 111 113)])
 (.cond 114
 .skip
 (.exit 6)))
 (.seq
 (.block 7
 (.seq
 (.reg true [
 oX 117 (.load true 3 6),
 oX 118 (.mv 8),
 oX 119 (.bin .add 118 (kX 1)),
 oX 120 (.mv 11),
 oX 121 (.call .froz 62 [117, 119, 120]),
 oX 122 (.load true 3 6),
 oX 123 (.mv 8),
 oX 124 (.mv 12),
 oX 125 (.call .froz 62 [122, 123, 124]),
 oX 126 (.bin .mul 121 125),
 oX 127 (.mv 0),
 oX 128 (.load true 3 6),
 oX 129 (.mv 8),
 oX 130 (.mv 11),
 oX 131 (.call .froz 62 [128, 129, 130]),
 oX 132 (.bin .sub 127 131),
 oX 133 (.load true 3 6),
 oX 134 (.mv 8),
 oX 135 (.bin .add 134 (kX 1)),
 oX 136 (.mv 12),
 oX 137 (.call .froz 62 [133, 135, 136]),
 oX 138 (.bin .mul 132 137),
 oX 139 (.bin .add 126 138),
 oX 140 (.mv 0),
 oX 141 (.bin .rem 139 140),
 oX 13 (.mv 141)])
 (.reg true [
 oX 142 (.load true 3 6),
 oX 143 (.mv 11),
 oX 144 (.mv 12),
 oX 145 (.load true 3 6),
 oX 146 (.mv 11),
 oX 147 (.mv 12),
 oX 148 (.call .froz 62 [145, 146, 147]),
 oX 149 (.mv 13),
 oX 150 (.mv 10),
 oX 151 (.bin .mul 149 150),
 oX 152 (.bin .add 148 151),
 oX 153 (.mv 0),
 oX 154 (.bin .rem 152 153),
 oX 155 (.callm .froz 61 [142, 143, 144, 154])])))
 (.reg false [
 oX 115 (.mv 12),
 oX 116 (.bin .add 115 (kX 1)),
 oX 12 (.mv 116)]))))))))
 (.reg false [
 oX 107 (.mv 11),
 oX 108 (.bin .add 107 (kX 1)),
 oX 11 (.mv 108)]))))))))))))))
 (.reg false [
 oX 41 (.mv 8),
 oX 42 (.bin .add 41 (kX 2)),
 oX 8 (.mv 42)])))))))
 (.seq
 (.reg false [
 oX 156 (.mv 7),
 oX 4 (.mv 156),
 oX 5 (.mv (.k (.one (.v (.bool) (true)))))])
 .ret)))))))
def ms_impl_Pfaffian : List MRes := [.tmp 4, .tmp 5]
theorem n_impl_Pfaffian (NN : Nat) (x : DLL (Sig.tys ag_impl_Pfaffian)) : runS NN [fn_impl_MatrixOk, fn_impl_alternating, fn_impl_copyMatrix, fn_impl_Matrix_at, fn_impl_Matrix_swapRows, fn_impl_rawTranspose, fn_impl_rawInverse, fn_impl_Matrix_set] sc_impl_Pfaffian ms_impl_Pfaffian ag_impl_Pfaffian rs_impl_Pfaffian x = G_impl_Pfaffian NN x := by kernel_rfl
theorem k_impl_Pfaffian : chkS pX 34 sc_impl_Pfaffian.er ms_impl_Pfaffian 2 = true := by decide +kernel
theorem p_impl_Pfaffian : PureSpec pX 34 fn_impl_Pfaffian.M ∧ chkFun pX 34 = true :=
  pure_of_runS (T := [fn_impl_MatrixOk, fn_impl_alternating, fn_impl_copyMatrix, fn_impl_Matrix_at, fn_impl_Matrix_swapRows, fn_impl_rawTranspose, fn_impl_rawInverse, fn_impl_Matrix_set]) (sc := sc_impl_Pfaffian) (ms := ms_impl_Pfaffian) (args := ag_impl_Pfaffian) (res := rs_impl_Pfaffian) (SOk.cons p_impl_MatrixOk <| SOk.cons p_impl_alternating <| SOk.cons p_impl_copyMatrix <| SOk.cons p_impl_Matrix_at <| SOk.consM p_impl_Matrix_swapRows <| SOk.cons p_impl_rawTranspose <| SOk.cons p_impl_rawInverse <| SOk.consM p_impl_Matrix_set <| SOk.nil) follows_ok k_impl_Pfaffian F_impl_Pfaffian fun x y h => (n_impl_Pfaffian FUEL x).trans (f_impl_Pfaffian x y h)

def fn_impl_Matrix_addRow : SFn := ⟨68, ag_impl_Matrix_addRow, mu_impl_Matrix_addRow, rs_impl_Matrix_addRow, F_impl_Matrix_addRow⟩
def sc_impl_Matrix_addRow : SCode :=
 (.seq
 (.reg false [
 oX 5 (.box 3 0)])
 (.seq
 (.reg false [
 oX 10 (.mv (kX 0))])
 (.block 0
 (.loop 0 ⟨[(1, sX), (2, sX), (3, sX), (4, sX), (5, .one (rX 5)), (10, sX)], [(1000000, .row false .froz iX), (5, .box [vX, vX, fX 1000000 1])]⟩ [1000000, 5, 500000] [(true, 5, 2, 500000, .froz, [])]
 (.seq
 (.seq
 (.reg false [
 oX 11 (.mv 10),
 oX 12 (.fieldA 1 5),
 oX 13 (.load false 1 12),
 oX 14 (.bin .lss 11 13)])
 (.cond 14
 .skip
 (.exit 0)))
 (.seq
 (.block 1
 (.reg true [
 oX 17 (.load true 3 5),
 oX 18 (.mv 2),
 oX 19 (.mv 10),
 oX 20 (.load true 3 5),
 oX 21 (.mv 2),
 oX 22 (.mv 10),
 oX 23 (.call .froz 62 [20, 21, 22]),
 oX 24 (.mv 4),
 oX 25 (.load true 3 5),
 oX 26 (.mv 3),
 oX 27 (.mv 10),
 oX 28 (.call .froz 62 [25, 26, 27]),
 oX 29 (.bin .mul 24 28),
 oX 30 (.bin .add 23 29),
 oX 31 (.mv 1),
 oX 32 (.bin .rem 30 31),
 oX 33 (.callm .froz 61 [17, 18, 19, 32])]))
 (.reg false [
 oX 15 (.mv 10),
 oX 16 (.bin .add 15 (kX 1)),
 oX 10 (.mv 16)])))))))
def ms_impl_Matrix_addRow : List MRes := []
theorem n_impl_Matrix_addRow (NN : Nat) (x : DLL (Sig.tys ag_impl_Matrix_addRow)) : runMS NN [fn_impl_Matrix_at, fn_impl_Matrix_set] sc_impl_Matrix_addRow ms_impl_Matrix_addRow ag_impl_Matrix_addRow mu_impl_Matrix_addRow rs_impl_Matrix_addRow x = G_impl_Matrix_addRow NN x := by kernel_rfl
theorem k_impl_Matrix_addRow : chkS pX 68 sc_impl_Matrix_addRow.er ms_impl_Matrix_addRow 5 = true := by decide +kernel
theorem p_impl_Matrix_addRow : MutSpec pX 68 mu_impl_Matrix_addRow fn_impl_Matrix_addRow.MM ∧ chkFun pX 68 = true :=
  mut_of_runMS (T := [fn_impl_Matrix_at, fn_impl_Matrix_set]) (sc := sc_impl_Matrix_addRow) (ms := ms_impl_Matrix_addRow) (args := ag_impl_Matrix_addRow) (mu := mu_impl_Matrix_addRow) (res := rs_impl_Matrix_addRow) (SOk.cons p_impl_Matrix_at <| SOk.consM p_impl_Matrix_set <| SOk.nil) follows_ok k_impl_Matrix_addRow F_impl_Matrix_addRow fun x y h => (n_impl_Matrix_addRow FUEL x).trans (f_impl_Matrix_addRow x y h)

def fn_impl_Determinant : SFn := ⟨32, ag_impl_Determinant, mu_impl_Determinant, rs_impl_Determinant, F_impl_Determinant⟩
def sc_impl_Determinant : SCode :=
 (.seq
 (.reg false [
 oX 3 (.box 3 1),
 oX 4 (.mv (kX 0)),
 oX 5 (.mv (.k (.one (.v (.bool) (false)))))])
 (.seq
 (.seq
 (.reg false [
 oX 13 (.mv 0),
 oX 14 (.load true 3 3),
 oX 15 (.call .froz 43 [13, 14]),
 oX 16 (.un .not 15),
 oX 17 (.mv 16),
 ⟨(some 18), .fieldA 0 3, (some (17, false))⟩,
 ⟨(some 19), .load false 1 18, (some (17, false))⟩,
 ⟨(some 20), .fieldA 1 3, (some (17, false))⟩,
 ⟨(some 21), .load false 1 20, (some (17, false))⟩,
 ⟨(some 22), .bin .neq 19 21, (some (17, false))⟩,
 oX 23 (.pick 17 (.k (.one (.v (.bool) (true)))) 22)])
 (.cond 23
 (.seq
 (.reg false [
 oX 4 (.mv (kX 0)),
 oX 5 (.mv (.k (.one (.v (.bool) (false)))))])
 .ret)
 .skip))
 (.seq
 (.reg false [
 oX 24 (.load true 3 3),
 oX 25 (.call .froz 65 [24]),
 oX 6 (.alloc [zX, zX, .nil iX]),
 uX (.store 3 6 25)])
 (.seq
 (.reg false [
 oX 7 (.mv (kX 1))])
 (.seq
 (.seq
 (.reg false [
 oX 8 (.mv (kX 0))])
 (.join ⟨[(7, sX)], []⟩ [6, 500000] []
 (.block 0
 (.loop 0 ⟨[(0, sX), (6, .one (rX 6)), (7, sX), (8, sX)], [(6, .box [vX, vX, fX 500000 1]), (500000, .row true .froz iX)]⟩ [3, 26000, 6, 500000, 500005] [(true, 6, 2, 500000, .froz, [])]
 (.seq
 (.seq
 (.reg false [
 oX 26 (.mv 8),
 oX 27 (.fieldA 1 6),
 oX 28 (.load false 1 27),
 oX 29 (.bin .lss 26 28)])
 (.cond 29
 .skip
 (.exit 0)))
 (.seq
 (.join ⟨[(8, sX), (0, sX), (6, .one (rX 6)), (7, sX)], [(6, .box [vX, vX, fX 500005 1]), (500005, .row true .froz iX)]⟩ [6, 500004, 500005] [(true, 6, 2, 500005, .froz, [])]
 (.block 1
 (.seq
 (.reg false [
 oX 32 (.mv 8),
 oX 9 (.mv 32)])
 (.seq
 (.join ⟨[(9, sX), (7, sX), (6, .one (rX 6)), (0, sX), (8, sX)], [(6, .box [vX, vX, fX 500002 1]), (500002, .row true .froz iX)]⟩ [6, 500001, 500002] [(true, 6, 2, 500002, .froz, [])]
 (.block 2
 (.loop 0 ⟨[(0, sX), (6, .one (rX 6)), (7, sX), (8, sX), (9, sX)], [(6, .box [vX, vX, fX 500001 1]), (500001, .row true .froz iX)]⟩ [6, 500000, 500001] [(true, 6, 2, 500001, .froz, [])]
 (.seq
 (.seq
 (.reg false [
 oX 33 (.mv 9),
 oX 34 (.fieldA 0 6),
 oX 35 (.load false 1 34),
 oX 36 (.bin .lss 33 35),
 oX 37 (.mv 36),
 ⟨(some 38), .load true 3 6, (some (37, true))⟩,
 ⟨(some 39), .mv 9, (some (37, true))⟩,
 ⟨(some 40), .mv 8, (some (37, true))⟩,
 ⟨(some 41), .call .froz 62 [38, 39, 40], (some (37, true))⟩,
 ⟨(some 42), .bin .eql 41 (kX 0), (some (37, true))⟩,
 oX 43 (.pick 37 42 (.k (.one (.v (.bool) (false)))))])
 (.cond 43
 .skip
 (.exit 2)))
 (.block 3
 (.reg false [
 oX 44 (.mv 9),
 oX 45 (.bin .add 44 (kX 1)),
 oX 9 (.mv 45)]))))))
 (.seq
 (.seq
 (.reg false [
 oX 46 (.mv 9),
 oX 47 (.fieldA 0 6),
 oX 48 (.load false 1 47),
 oX 49 (.bin .eql 46 48)])
 (.cond 49
 (.seq
 (.reg false [
 oX 4 (.mv (kX 0)),
 oX 5 (.mv (.k (.one (.v (.bool) (true)))))])
 .ret)
 .skip))
 (.seq
 (.seq
 (.reg false [
 oX 50 (.mv 9),
 oX 51 (.mv 8),
 oX 52 (.bin .neq 50 51)])
 (.join ⟨[(7, sX), (6, .one (rX 6)), (0, sX), (8, sX)], [(6, .box [vX, vX, fX 500003 1]), (500003, .row true .froz iX)]⟩ [6, 500002, 500003] [(true, 6, 2, 500003, .froz, [])]
 (.cond 52
 (.seq
 (.reg false [
 oX 53 (.load true 3 6),
 oX 54 (.mv 9),
 oX 55 (.mv 8),
 oX 56 (.callm .froz 66 [53, 54, 55])])
 (.reg false [
 oX 57 (.mv 0),
 oX 58 (.mv 7),
 oX 59 (.bin .sub 57 58),
 oX 60 (.mv 0),
 oX 61 (.bin .rem 59 60),
 oX 7 (.mv 61)]))
 .skip)))
 (.seq
 (.reg false [
 oX 62 (.mv 7),
 oX 63 (.load true 3 6),
 oX 64 (.mv 8),
 oX 65 (.mv 8),
 oX 66 (.call .froz 62 [63, 64, 65]),
 oX 67 (.bin .mul 62 66),
 oX 68 (.mv 0),
 oX 69 (.bin .rem 67 68),
 oX 7 (.mv 69)])
 (.seq
 (.reg false [
 oX 70 (.mv 0),
 oX 71 (.load true 3 6),
 oX 72 (.mv 8),
 oX 73 (.mv 8),
 oX 74 (.call .froz 62 [71, 72, 73]),
 oX 75 (.call .froz 67 [70, 74]),
 oX 10 (.mv 75)])
 (.seq
 (.reg false [
 oX 76 (.mv 8),
 oX 77 (.bin .add 76 (kX 1)),
 oX 11 (.mv 77)])
 (.block 4
 (.loop 0 ⟨[(0, sX), (6, .one (rX 6)), (7, sX), (8, sX), (10, sX), (11, sX)], [(6, .box [vX, vX, fX 500004 1]), (500004, .row true .froz iX)]⟩ [6, 500003, 500004] [(true, 6, 2, 500004, .froz, [])]
 (.seq
 (.seq
 (.reg false [
 oX 78 (.mv 11),
 oX 79 (.fieldA 0 6),
 oX 80 (.load false 1 79),
 oX 81 (.bin .lss 78 80)])
 (.cond 81
 .skip
 (.exit 4)))
 (.seq
 (.block 5
 (.seq
 (.reg false [
 oX 84 (.load true 3 6),
 oX 85 (.mv 11),
 oX 86 (.mv 8),
 oX 87 (.call .froz 62 [84, 85, 86]),
 oX 88 (.mv 10),
 oX 89 (.bin .mul 87 88),
 oX 90 (.mv 0),
 oX 91 (.bin .rem 89 90),
 oX 12 (.mv 91)])
 (.reg true [
 oX 92 (.load true 3 6),
 oX 93 (.mv 0),
 oX 94 (.mv 11),
 oX 95 (.mv 8),
 oX 96 (.mv 0),
 oX 97 (.mv 12),
 oX 98 (.bin .sub 96 97),
 oX 99 (.mv 0),
 oX 100 (.bin .rem 98 99),
 oX 101 (.callm .froz 68 [92, 93, 94, 95, 100])])))
 (.reg false [
 oX 82 (.mv 11),
 oX 83 (.bin .add 82 (kX 1)),
 oX 11 (.mv 83)]))))))))))))))
 (.reg false [
 oX 30 (.mv 8),
 oX 31 (.bin .add 30 (kX 1)),
 oX 8 (.mv 31)])))))))
 (.seq
 (.reg false [
 oX 102 (.mv 7),
 oX 4 (.mv 102),
 oX 5 (.mv (.k (.one (.v (.bool) (true)))))])
 .ret))))))
def ms_impl_Determinant : List MRes := [.tmp 4, .tmp 5]
theorem n_impl_Determinant (NN : Nat) (x : DLL (Sig.tys ag_impl_Determinant)) : runS NN [fn_impl_MatrixOk, fn_impl_copyMatrix, fn_impl_Matrix_at, fn_impl_Matrix_swapRows, fn_impl_rawInverse, fn_impl_Matrix_addRow] sc_impl_Determinant ms_impl_Determinant ag_impl_Determinant rs_impl_Determinant x = G_impl_Determinant NN x := by kernel_rfl
theorem k_impl_Determinant : chkS pX 32 sc_impl_Determinant.er ms_impl_Determinant 2 = true := by decide +kernel
theorem p_impl_Determinant : PureSpec pX 32 fn_impl_Determinant.M ∧ chkFun pX 32 = true :=
  pure_of_runS (T := [fn_impl_MatrixOk, fn_impl_copyMatrix, fn_impl_Matrix_at, fn_impl_Matrix_swapRows, fn_impl_rawInverse, fn_impl_Matrix_addRow]) (sc := sc_impl_Determinant) (ms := ms_impl_Determinant) (args := ag_impl_Determinant) (res := rs_impl_Determinant) (SOk.cons p_impl_MatrixOk <| SOk.cons p_impl_copyMatrix <| SOk.cons p_impl_Matrix_at <| SOk.consM p_impl_Matrix_swapRows <| SOk.cons p_impl_rawInverse <| SOk.consM p_impl_Matrix_addRow <| SOk.nil) follows_ok k_impl_Determinant F_impl_Determinant fun x y h => (n_impl_Determinant FUEL x).trans (f_impl_Determinant x y h)

def fn_impl_InverseOf : SFn := ⟨35, ag_impl_InverseOf, mu_impl_InverseOf, rs_impl_InverseOf, F_impl_InverseOf⟩
def sc_impl_InverseOf : SCode :=
 (.seq
 (.reg false [
 oX 4 (.mv (kX 0))])
 (.seq
 (.seq
 (.reg false [
 oX 5 (.mv 0),
 oX 6 (.call .froz 55 [5]),
 oX 7 (.un .not 6),
 oX 8 (.mv 7),
 ⟨(some 9), .mv 1, (some (8, false))⟩,
 ⟨(some 10), .bin .lss 9 (kX 1), (some (8, false))⟩,
 oX 11 (.pick 8 (.k (.one (.v (.bool) (true)))) 10),
 oX 12 (.mv 11),
 ⟨(some 13), .mv 1, (some (12, false))⟩,
 ⟨(some 14), .mv 0, (some (12, false))⟩,
 ⟨(some 15), .bin .geq 13 14, (some (12, false))⟩,
 oX 16 (.pick 12 (.k (.one (.v (.bool) (true)))) 15)])
 (.cond 16
 (.seq
 (.reg false [
 oX 4 (.mv (kX 0))])
 .ret)
 .skip))
 (.seq
 (.reg false [
 oX 17 (.mv 0),
 oX 18 (.mv 1),
 oX 19 (.call .froz 67 [17, 18]),
 oX 4 (.mv 19)])
 .ret)))
def ms_impl_InverseOf : List MRes := [.tmp 4]
theorem n_impl_InverseOf (NN : Nat) (x : DLL (Sig.tys ag_impl_InverseOf)) : runS NN [fn_impl_IsPrime, fn_impl_rawInverse] sc_impl_InverseOf ms_impl_InverseOf ag_impl_InverseOf rs_impl_InverseOf x = G_impl_InverseOf NN x := by kernel_rfl
theorem k_impl_InverseOf : chkS pX 35 sc_impl_InverseOf.er ms_impl_InverseOf 2 = true := by decide +kernel
theorem p_impl_InverseOf : PureSpec pX 35 fn_impl_InverseOf.M ∧ chkFun pX 35 = true :=
  pure_of_runS (T := [fn_impl_IsPrime, fn_impl_rawInverse]) (sc := sc_impl_InverseOf) (ms := ms_impl_InverseOf) (args := ag_impl_InverseOf) (res := rs_impl_InverseOf) (SOk.cons p_impl_IsPrime <| SOk.cons p_impl_rawInverse <| SOk.nil) follows_ok k_impl_InverseOf F_impl_InverseOf fun x y h => (n_impl_InverseOf FUEL x).trans (f_impl_InverseOf x y h)

def fn_laws_FnPfaffians : SFn := ⟨8, ag_laws_FnPfaffians, mu_laws_FnPfaffians, rs_laws_FnPfaffians, F_laws_FnPfaffians⟩
def sc_laws_FnPfaffians : SCode :=
 (.seq
 (.reg false [
 oX 2 (.mv (.k (.one (.v (.bool) (false)))))])
 (.seq
 (.seq
 (.reg false [
 oX 22 (.mv 0),
 oX 23 (.len 22),
 oX 24 (.bin .gtr 23 (kX 1048576))])
 (.cond 24
 (.seq
 (.reg false [
 oX 2 (.mv (.k (.one (.v (.bool) (true)))))])
 .ret)
 .skip))
 (.seq
 (.reg false [
 oX 25 (.mv 0),
 oX 26 (.callb 15 [25, (kX 0)]),
 oX 3 (.mv 26)])
 (.seq
 (.reg false [
 oX 27 (.mv 0),
 oX 28 (.callb 11 [27, (kX 2), (kX 0), (kX 2)]),
 oX 29 (.bin .mul (kX 2) 28),
 oX 4 (.mv 29)])
 (.seq
 (.reg false [
 oX 30 (.mv 0),
 oX 31 (.mv 3),
 oX 32 (.mv 4),
 oX 33 (.mv 4),
 oX 34 (.callb 16 [30, (kX 10), 31, 32, 33]),
 oX 5 (.alloc [zX, zX, .nil iX]),
 uX (.store 3 5 34)])
 (.seq
 (.reg false [
 oX 35 (.mv 4),
 oX 36 (.mv 4),
 oX 37 (.mv 4),
 oX 38 (.mv 4),
 oX 39 (.bin .mul 37 38),
 oX 40 (.mkslice .froz iX 8 (0 : Int) 39 39),
 oX 41 (.build [zX, zX, .nil iX] [(0, 1, 35), (1, 1, 36), (2, 1, 40)]),
 oX 6 (.alloc [zX, zX, .nil iX]),
 uX (.store 3 6 41)])
 (.seq
 (.seq
 (.reg false [
 oX 7 (.mv (kX 0))])
 (.join ⟨[(0, .one (.c (.v (.list [.int .u8])))), (4, sX), (6, .one (rX 6)), (3, sX)], [(6, .box [vX, vX, fX 500003 1]), (500003, .row true .froz iX)]⟩ [5, 6, 500000, 500003] [(true, 6, 2, 500003, .froz, [])]
 (.block 0
 (.loop 0 ⟨[(0, .one (.c (.v (.list [.int .u8])))), (3, sX), (4, sX), (5, .one (rX 5)), (6, .one (rX 6)), (7, sX)], [(5, .box [vX, vX, .c (.v (lX))]), (6, .box [vX, vX, fX 500000 1]), (500000, .row true .froz iX)]⟩ [5, 40, 6, 500000, 500002] [(true, 6, 2, 500000, .froz, [])]
 (.seq
 (.seq
 (.reg false [
 oX 42 (.mv 7),
 oX 43 (.mv 4),
 oX 44 (.bin .lss 42 43)])
 (.cond 44
 .skip
 (.exit 0)))
 (.seq
 (.join ⟨[(7, sX), (0, .one (.c (.v (.list [.int .u8])))), (3, sX), (4, sX), (5, .one (rX 5)), (6, .one (rX 6))], [(5, .box [vX, vX, .c (.v (lX))]), (6, .box [vX, vX, fX 500002 1]), (500002, .row true .froz iX)]⟩ [5, 6, 500001, 500002] [(true, 6, 2, 500002, .froz, [])]
 (.block 1
 (.seq
 (.reg false [
 oX 8 (.mv (kX 0))])
 (.block 2
 (.loop 0 ⟨[(0, .one (.c (.v (.list [.int .u8])))), (3, sX), (4, sX), (5, .one (rX 5)), (6, .one (rX 6)), (7, sX), (8, sX)], [(5, .box [vX, vX, .c (.v (lX))]), (6, .box [vX, vX, fX 500001 1]), (500001, .row true .froz iX)]⟩ [5, 6, 500000, 500001] [(true, 6, 2, 500001, .froz, [])]
 (.seq
 (.seq
 (.reg false [
 oX 47 (.mv 8),
 oX 48 (.mv 7),
 oX 49 (.bin .lss 47 48)])
 (.cond 49
 .skip
 (.exit 2)))
 (.seq
 (.block 3
 (.seq
 (.reg true [
 oX 52 (.fieldA 2 6),
 oX 53 (.load false 1 52),
 oX 54 (.mv 7),
 oX 55 (.mv 4),
 oX 56 (.bin .mul 54 55),
 oX 57 (.mv 8),
 oX 58 (.bin .add 56 57),
 oX 59 (.fieldA 2 5),
 oX 60 (.load false 1 59),
 oX 61 (.mv 7),
 oX 62 (.mv 4),
 oX 63 (.bin .mul 61 62),
 oX 64 (.mv 8),
 oX 65 (.bin .add 63 64),
 oX 66 (.idxA 1 60 65),
 oX 67 (.load false 1 66),
 oX 68 (.idxA 1 53 58),
 uX (.store 1 68 67)])
 (.reg true [
 oX 69 (.fieldA 2 6),
 oX 70 (.load false 1 69),
 oX 71 (.mv 8),
 oX 72 (.mv 4),
 oX 73 (.bin .mul 71 72),
 oX 74 (.mv 7),
 oX 75 (.bin .add 73 74),
 oX 76 (.mv 3),
 oX 77 (.fieldA 2 5),
 oX 78 (.load false 1 77),
 oX 79 (.mv 7),
 oX 80 (.mv 4),
 oX 81 (.bin .mul 79 80),
 oX 82 (.mv 8),
 oX 83 (.bin .add 81 82),
 oX 84 (.idxA 1 78 83),
 oX 85 (.load false 1 84),
 oX 86 (.bin .sub 76 85),
 oX 87 (.mv 3),
 oX 88 (.bin .rem 86 87),
 oX 89 (.idxA 1 70 75),
 uX (.store 1 89 88)])))
 (.reg false [
 oX 50 (.mv 8),
 oX 51 (.bin .add 50 (kX 1)),
 oX 8 (.mv 51)]))))))))
 (.reg false [
 oX 45 (.mv 7),
 oX 46 (.bin .add 45 (kX 1)),
 oX 7 (.mv 46)])))))))
 (.seq
 (.reg false [
 oX 90 (.mv 0),
 oX 91 (.mv 3),
 oX 92 (.mv 4),
 oX 93 (.mv 4),
 oX 94 (.callb 16 [90, (kX 60), 91, 92, 93]),
 oX 9 (.alloc [zX, zX, .nil iX]),
 uX (.store 3 9 94)])
 (.seq
 (.reg false [
 oX 96 (.mv 3),
 oX 97 (.load true 3 9),
 oX 98 (.load true 3 6),
 oX 99 (.call .froz 30 [96, 97, 98]),
 oX 95 (.mv 99),
 oX 100 (.ext 0 95),
 oX 101 (.ext 1 95),
 oX 10 (.alloc [zX, zX, .nil iX]),
 uX (.store 3 10 100),
 oX 11 (.mv 101)])
 (.seq
 (.reg true [
 oX 103 (.mv 3),
 oX 104 (.load true 3 10),
 oX 105 (.mv 3),
 oX 106 (.load true 3 9),
 oX 107 (.call .froz 31 [105, 106]),
 oX 108 (.call .froz 30 [103, 104, 107]),
 oX 102 (.mv 108),
 oX 109 (.ext 0 102),
 oX 110 (.ext 1 102),
 oX 12 (.alloc [zX, zX, .nil iX]),
 uX (.store 3 12 109),
 oX 13 (.mv 110)])
 (.seq
 (.reg false [
 oX 112 (.mv 3),
 oX 113 (.load true 3 6),
 oX 114 (.call .froz 34 [112, 113]),
 oX 111 (.mv 114),
 oX 115 (.ext 0 111),
 oX 116 (.ext 1 111),
 oX 14 (.mv 115),
 oX 15 (.mv 116)])
 (.seq
 (.reg false [
 oX 118 (.mv 3),
 oX 119 (.load true 3 6),
 oX 120 (.call .froz 32 [118, 119]),
 oX 117 (.mv 120),
 oX 121 (.ext 0 117),
 oX 122 (.ext 1 117),
 oX 16 (.mv 121),
 oX 17 (.mv 122)])
 (.seq
 (.reg false [
 oX 124 (.mv 3),
 oX 125 (.load true 3 12),
 oX 126 (.call .froz 34 [124, 125]),
 oX 123 (.mv 126),
 oX 127 (.ext 0 123),
 oX 128 (.ext 1 123),
 oX 18 (.mv 127),
 oX 19 (.mv 128)])
 (.seq
 (.reg false [
 oX 130 (.mv 3),
 oX 131 (.load true 3 9),
 oX 132 (.call .froz 32 [130, 131]),
 oX 129 (.mv 132),
 oX 133 (.ext 0 129),
 oX 134 (.ext 1 129),
 oX 20 (.mv 133),
 oX 21 (.mv 134)])
 (.seq
 (.reg false [
 oX 135 (.mv 11),
 oX 136 (.mv 135),
 ⟨(some 137), .mv 13, (some (136, true))⟩,
 oX 138 (.pick 136 137 (.k (.one (.v (.bool) (false))))),
 oX 139 (.mv 138),
 ⟨(some 140), .mv 15, (some (139, true))⟩,
 oX 141 (.pick 139 140 (.k (.one (.v (.bool) (false))))),
 oX 142 (.mv 141),
 ⟨(some 143), .mv 17, (some (142, true))⟩,
 oX 144 (.pick 142 143 (.k (.one (.v (.bool) (false))))),
 oX 145 (.mv 144),
 ⟨(some 146), .mv 19, (some (145, true))⟩,
 oX 147 (.pick 145 146 (.k (.one (.v (.bool) (false))))),
 oX 148 (.mv 147),
 ⟨(some 149), .mv 21, (some (148, true))⟩,
 oX 150 (.pick 148 149 (.k (.one (.v (.bool) (false))))),
 oX 151 (.mv 150),
 ⟨(some 152), .mv 14, (some (151, true))⟩,
 ⟨(some 153), .mv 14, (some (151, true))⟩,
 ⟨(some 154), .bin .mul 152 153, (some (151, true))⟩,
 ⟨(some 155), .mv 3, (some (151, true))⟩,
 ⟨(some 156), .bin .rem 154 155, (some (151, true))⟩,
 ⟨(some 157), .mv 16, (some (151, true))⟩,
 ⟨(some 158), .bin .eql 156 157, (some (151, true))⟩,
 oX 159 (.pick 151 158 (.k (.one (.v (.bool) (false))))),
 oX 160 (.mv 159),
 ⟨(some 161), .mv 18, (some (160, true))⟩,
 ⟨(some 162), .mv 14, (some (160, true))⟩,
 ⟨(some 163), .mv 20, (some (160, true))⟩,
 ⟨(some 164), .bin .mul 162 163, (some (160, true))⟩,
 ⟨(some 165), .mv 3, (some (160, true))⟩,
 ⟨(some 166), .bin .rem 164 165, (some (160, true))⟩,
 ⟨(some 167), .bin .eql 161 166, (some (160, true))⟩,
 oX 168 (.pick 160 167 (.k (.one (.v (.bool) (false))))),
 oX 169 (.mv 168),
 ⟨(some 170), .mv 3, (some (169, true))⟩,
 ⟨(some 171), .bin .lss 170 (kX 3), (some (169, true))⟩,
 ⟨(some 172), .mv 171, (some (169, true))⟩,
 ⟨(some 173), .mv 3, (some (172, false))⟩,
 ⟨(some 174), .call .froz 35 [173, (kX 2)], (some (172, false))⟩,
 ⟨(some 175), .bin .mul 174 (kX 2), (some (172, false))⟩,
 ⟨(some 176), .mv 3, (some (172, false))⟩,
 ⟨(some 177), .bin .rem 175 176, (some (172, false))⟩,
 ⟨(some 178), .bin .eql 177 (kX 1), (some (172, false))⟩,
 ⟨(some 179), .pick 172 (.k (.one (.v (.bool) (true)))) 178, (some (169, true))⟩,
 oX 180 (.pick 169 179 (.k (.one (.v (.bool) (false))))),
 oX 2 (.mv 180)])
 .ret)))))))))))))))
def ms_laws_FnPfaffians : List MRes := [.tmp 2]
theorem n_laws_FnPfaffians (NN : Nat) (x : DLL (Sig.tys ag_laws_FnPfaffians)) : runS NN [fn_spec_MakePrime, fn_spec_MakeSize, fn_spec_MakeMatrix, fn_impl_MulMatrix, fn_impl_TransposeMatrix, fn_impl_Pfaffian, fn_impl_Determinant, fn_impl_InverseOf] sc_laws_FnPfaffians ms_laws_FnPfaffians ag_laws_FnPfaffians rs_laws_FnPfaffians x = G_laws_FnPfaffians NN x := by kernel_rfl
theorem k_laws_FnPfaffians : chkS pX 8 sc_laws_FnPfaffians.er ms_laws_FnPfaffians 1 = true := by decide +kernel
theorem p_laws_FnPfaffians : PureSpec pX 8 fn_laws_FnPfaffians.M ∧ chkFun pX 8 = true :=
  pure_of_runS (T := [fn_spec_MakePrime, fn_spec_MakeSize, fn_spec_MakeMatrix, fn_impl_MulMatrix, fn_impl_TransposeMatrix, fn_impl_Pfaffian, fn_impl_Determinant, fn_impl_InverseOf]) (sc := sc_laws_FnPfaffians) (ms := ms_laws_FnPfaffians) (args := ag_laws_FnPfaffians) (res := rs_laws_FnPfaffians) (SOk.consV p_spec_MakePrime <| SOk.consV p_spec_MakeSize <| SOk.consV p_spec_MakeMatrix <| SOk.cons p_impl_MulMatrix <| SOk.cons p_impl_TransposeMatrix <| SOk.cons p_impl_Pfaffian <| SOk.cons p_impl_Determinant <| SOk.cons p_impl_InverseOf <| SOk.nil) follows_ok k_laws_FnPfaffians F_laws_FnPfaffians fun x y h => (n_laws_FnPfaffians FUEL x).trans (f_laws_FnPfaffians x y h)

end Go.Am
