/- A_FnMatrices: the code of the functions of FnMatrices. No condition. -/
import Derived.Test.YtdbokcfhhdkhiaaLFnMatrices
import Derived.Test.YtdbokcfhhdkhiaaBr2
import Derived.KernelRfl
import Derived.Test.YtdbokcfhhdkhiaaRows
set_option linter.unusedVariables false
set_option maxRecDepth 100000
namespace Go.Am
theorem follows_ok : Go.Proofs.Try.prog.follows .mixedOrders = true := by decide +kernel
noncomputable abbrev pX := Go.Proofs.Try.prog
def oX (n : Nat) (x : SOp) : SOper := ⟨some n, x, none⟩
def uX (x : SOp) : SOper := ⟨none, x, none⟩
def kX (n : Int) : SMO := .k (.one (.v (.int .i64) n))
def sX : ShV := .one (.c (.v (.int .i64)))
def iX : List Ty := [.int .i64]
def lX : Ty := .list iX
def zX : SC := .v (.int .i64) (0 : Int)
def vX : ShC := .c (.v (.int .i64))
def fX (n k : Nat) : ShC := .c (.full n k)
def rX (n : Nat) : ShC := .c (.ptr0 n 0)
instance tX (n : Nat) : OfNat SMO n := ⟨.t n⟩
def fn_spec_l01New : SFn := ⟨70, ag_spec_l01New, mu_spec_l01New, rs_spec_l01New, F_spec_l01New⟩
def sc_spec_l01New : SCode :=
 (.seq
 (.reg false [
 oX 2 (.mv (.k (.one (.junk))))])
 (.seq
 (.reg false [
 oX 5 (.mv 0),
 oX 6 (.len 5),
 oX 7 (.bin .add (kX 55127) 6),
 oX 3 (.mv 7)])
 (.seq
 (.seq
 (.reg false [
 oX 4 (.mv (kX 0))])
 (.join ⟨[(0, .one (.c (.v (.list [.int .u8])))), (3, sX)], []⟩ [] []
 (.block 0
 (.loop 0 ⟨[(0, .one (.c (.v (.list [.int .u8])))), (3, sX), (4, sX)], []⟩ [] []
 (.seq
 (.seq
 (.reg false [
 oX 8 (.mv 4),
 oX 9 (.mv 0),
 oX 10 (.len 9),
 oX 11 (.bin .lss 8 10),
 oX 12 (.mv 11),
 ⟨(some 13), .mv 4, (some (12, true))⟩,
 ⟨(some 14), .bin .lss 13 (kX 4000), (some (12, true))⟩,
 oX 15 (.pick 12 14 (.k (.one (.v (.bool) (false)))))])
 (.cond 15
 .skip
 (.exit 0)))
 (.seq
 (.block 1
 (.reg false [
 oX 18 (.mv 3),
 oX 19 (.bin .mul 18 (kX 131)),
 oX 20 (.mv 0),
 oX 21 (.mv 4),
 oX 22 (.idxA 1 20 21),
 oX 23 (.load false 1 22),
 oX 24 (.conv .i64 23),
 oX 25 (.bin .add 19 24),
 oX 26 (.bin .add 25 (kX 7)),
 oX 27 (.bin .and 26 (kX 1073741823)),
 oX 3 (.mv 27)]))
 (.reg false [
 oX 16 (.mv 4),
 oX 17 (.bin .add 16 (kX 1)),
 oX 4 (.mv 17)])))))))
 (.seq
 (.reg false [
 oX 28 (.mv 0),
 oX 29 (.mv 3),
 oX 30 (.build [.nil [.int .u8], zX, zX] [(0, 1, 28), (2, 1, 29)]),
 oX 31 (.box 3 30),
 oX 2 (.mv 31)])
 .ret))))
def ms_spec_l01New : List MRes := [.tmp 2]
theorem n_spec_l01New (NN : Nat) (x : DLL (Sig.tys ag_spec_l01New)) : runVS NN [] sc_spec_l01New ms_spec_l01New ag_spec_l01New rs_spec_l01New x = G_spec_l01New NN x := by kernel_rfl
theorem k_spec_l01New : chkS pX 70 sc_spec_l01New.er ms_spec_l01New 1 = true := by decide +kernel
theorem p_spec_l01New : VSpec Go.Proofs.Try.prog 70 fn_spec_l01New.MV ∧ chkFun pX 70 = true :=
  v_of_runVS (T := []) (sc := sc_spec_l01New) (ms := ms_spec_l01New) (args := ag_spec_l01New) (res := rs_spec_l01New) (SOk.nil) follows_ok k_spec_l01New F_spec_l01New fun x y h => (n_spec_l01New FUEL x).trans (f_spec_l01New x y h)

def fn_spec_l45At : SFn := ⟨37, ag_spec_l45At, mu_spec_l45At, rs_spec_l45At, F_spec_l45At⟩
def sc_spec_l45At : SCode :=
 (.seq
 (.reg false [
 oX 4 (.mv (.k (.one (.junk))))])
 (.seq
 (.reg false [
 oX 6 (.mv 0),
 oX 7 (.callb 70 [6]),
 oX 5 (.mv 7)])
 (.seq
 (.reg false [
 oX 8 (.mv 5),
 oX 9 (.mv 1),
 oX 10 (.mv 0),
 oX 11 (.len 10),
 oX 12 (.mm false 9 11),
 oX 13 (.nilchk 8),
 oX 14 (.fieldA 1 13),
 uX (.store 1 14 12)])
 (.seq
 (.reg false [
 oX 15 (.mv 5),
 oX 16 (.mv 5),
 oX 17 (.nilchk 16),
 oX 18 (.fieldA 2 17),
 oX 19 (.load false 1 18),
 oX 20 (.bin .mul 19 (kX 31)),
 oX 21 (.mv 1),
 oX 22 (.bin .mul 21 (kX 7919)),
 oX 23 (.bin .add 20 22),
 oX 24 (.bin .add 23 (kX 1)),
 oX 25 (.bin .and 24 (kX 1073741823)),
 oX 26 (.nilchk 15),
 oX 27 (.fieldA 2 26),
 uX (.store 1 27 25)])
 (.seq
 (.reg false [
 oX 28 (.mv 5),
 oX 4 (.mv 28)])
 .ret)))))
def ms_spec_l45At : List MRes := [.tmp 4]
theorem n_spec_l45At (NN : Nat) (x : DLL (Sig.tys ag_spec_l45At)) : runVS NN [fn_spec_l01New] sc_spec_l45At ms_spec_l45At ag_spec_l45At rs_spec_l45At x = G_spec_l45At NN x := by kernel_rfl
theorem k_spec_l45At : chkS pX 37 sc_spec_l45At.er ms_spec_l45At 2 = true := by decide +kernel
theorem p_spec_l45At : VSpec Go.Proofs.Try.prog 37 fn_spec_l45At.MV ∧ chkFun pX 37 = true :=
  v_of_runVS (T := [fn_spec_l01New]) (sc := sc_spec_l45At) (ms := ms_spec_l45At) (args := ag_spec_l45At) (res := rs_spec_l45At) (SOk.consV p_spec_l01New <| SOk.nil) follows_ok k_spec_l45At F_spec_l45At fun x y h => (n_spec_l45At FUEL x).trans (f_spec_l45At x y h)

def fn_spec_l01Byte : SFn := ⟨72, ag_spec_l01Byte, mu_spec_l01Byte, rs_spec_l01Byte, F_spec_l01Byte⟩
def sc_spec_l01Byte : SCode :=
 (.seq
 (.reg false [
 oX 2 (.mv (kX 0))])
 (.seq
 (.reg false [
 oX 4 (.mv 0),
 oX 5 (.mv 0),
 oX 6 (.nilchk 5),
 oX 7 (.fieldA 2 6),
 oX 8 (.load false 1 7),
 oX 9 (.bin .mul 8 (kX 6364136223846793005)),
 oX 10 (.bin .add 9 (kX 1442695040888963407)),
 oX 11 (.nilchk 4),
 oX 12 (.fieldA 2 11),
 uX (.store 1 12 10)])
 (.seq
 (.reg true [
 oX 13 (.mv 0),
 oX 14 (.nilchk 13),
 oX 15 (.fieldA 2 14),
 oX 16 (.load false 1 15),
 oX 17 (.bin .shr 16 (.k (.one (.v (.int .u64) ((33 : Int)))))),
 oX 18 (.mv 0),
 oX 19 (.nilchk 18),
 oX 20 (.fieldA 2 19),
 oX 21 (.load false 1 20),
 oX 22 (.bin .shr 21 (.k (.one (.v (.int .u64) ((45 : Int)))))),
 oX 23 (.bin .xor 17 22),
 oX 24 (.bin .and 23 (kX 255)),
 oX 3 (.mv 24)])
 (.seq
 (.seq
 (.reg true [
 oX 25 (.mv 0),
 oX 26 (.nilchk 25),
 oX 27 (.fieldA 1 26),
 oX 28 (.load false 1 27),
 oX 29 (.mv 0),
 oX 30 (.nilchk 29),
 oX 31 (.fieldA 0 30),
 oX 32 (.load false 1 31),
 oX 33 (.len 32),
 oX 34 (.bin .lss 28 33)])
 (.join ⟨[(3, sX)], [(1000000, .box [.c (.v (.list [.int .u8])), vX, vX])]⟩ [1000000] []
 (.cond 34
 (.seq
 (.reg true [
 oX 35 (.mv 3),
 oX 36 (.mv 0),
 oX 37 (.nilchk 36),
 oX 38 (.fieldA 0 37),
 oX 39 (.load false 1 38),
 oX 40 (.mv 0),
 oX 41 (.nilchk 40),
 oX 42 (.fieldA 1 41),
 oX 43 (.load false 1 42),
 oX 44 (.idxA 1 39 43),
 oX 45 (.load false 1 44),
 oX 46 (.conv .i64 45),
 oX 47 (.bin .add 35 46),
 oX 48 (.bin .and 47 (kX 255)),
 oX 3 (.mv 48)])
 (.reg false [
 oX 49 (.mv 0),
 oX 50 (.mv 0),
 oX 51 (.nilchk 50),
 oX 52 (.fieldA 1 51),
 oX 53 (.load false 1 52),
 oX 54 (.bin .add 53 (kX 1)),
 oX 55 (.nilchk 49),
 oX 56 (.fieldA 1 55),
 uX (.store 1 56 54)]))
 .skip)))
 (.seq
 (.reg false [
 oX 57 (.mv 3),
 oX 2 (.mv 57)])
 .ret)))))
def ms_spec_l01Byte : List MRes := [.tmp 2]
theorem n_spec_l01Byte (NN : Nat) (x : DLL (Sig.tys ag_spec_l01Byte)) : runVS NN [] sc_spec_l01Byte ms_spec_l01Byte ag_spec_l01Byte rs_spec_l01Byte x = G_spec_l01Byte NN x := by kernel_rfl
theorem k_spec_l01Byte : chkS pX 72 sc_spec_l01Byte.er ms_spec_l01Byte 1 = true := by decide +kernel
theorem p_spec_l01Byte : VSpec Go.Proofs.Try.prog 72 fn_spec_l01Byte.MV ∧ chkFun pX 72 = true :=
  v_of_runVS (T := []) (sc := sc_spec_l01Byte) (ms := ms_spec_l01Byte) (args := ag_spec_l01Byte) (res := rs_spec_l01Byte) (SOk.nil) follows_ok k_spec_l01Byte F_spec_l01Byte fun x y h => (n_spec_l01Byte FUEL x).trans (f_spec_l01Byte x y h)

def fn_spec_l01Below : SFn := ⟨45, ag_spec_l01Below, mu_spec_l01Below, rs_spec_l01Below, F_spec_l01Below⟩
def sc_spec_l01Below : SCode :=
 (.seq
 (.reg false [
 oX 4 (.mv (kX 0))])
 (.seq
 (.seq
 (.reg false [
 oX 5 (.mv 1),
 oX 6 (.bin .leq 5 (kX 0))])
 (.cond 6
 (.seq
 (.reg false [
 oX 4 (.mv (kX 0))])
 .ret)
 .skip))
 (.seq
 (.reg false [
 oX 7 (.mv 0),
 oX 8 (.callb 72 [7]),
 oX 9 (.mv 1),
 oX 10 (.bin .rem 8 9),
 oX 4 (.mv 10)])
 .ret)))
def ms_spec_l01Below : List MRes := [.tmp 4]
theorem n_spec_l01Below (NN : Nat) (x : DLL (Sig.tys ag_spec_l01Below)) : runVS NN [fn_spec_l01Byte] sc_spec_l01Below ms_spec_l01Below ag_spec_l01Below rs_spec_l01Below x = G_spec_l01Below NN x := by kernel_rfl
theorem k_spec_l01Below : chkS pX 45 sc_spec_l01Below.er ms_spec_l01Below 2 = true := by decide +kernel
theorem p_spec_l01Below : VSpec Go.Proofs.Try.prog 45 fn_spec_l01Below.MV ∧ chkFun pX 45 = true :=
  v_of_runVS (T := [fn_spec_l01Byte]) (sc := sc_spec_l01Below) (ms := ms_spec_l01Below) (args := ag_spec_l01Below) (res := rs_spec_l01Below) (SOk.consV p_spec_l01Byte <| SOk.nil) follows_ok k_spec_l01Below F_spec_l01Below fun x y h => (n_spec_l01Below FUEL x).trans (f_spec_l01Below x y h)

def fn_spec_l01Pick : SFn := ⟨41, ag_spec_l01Pick, mu_spec_l01Pick, rs_spec_l01Pick, F_spec_l01Pick⟩
def sc_spec_l01Pick : SCode :=
 (.seq
 (.reg false [
 oX 4 (.mv (kX 0))])
 (.seq
 (.reg false [
 oX 5 (.mv 1),
 oX 6 (.mv 0),
 oX 7 (.mv 1),
 oX 8 (.len 7),
 oX 9 (.callb 45 [6, 8]),
 oX 10 (.idxA 1 5 9),
 oX 11 (.load false 1 10),
 oX 4 (.mv 11)])
 .ret))
def ms_spec_l01Pick : List MRes := [.tmp 4]
theorem n_spec_l01Pick (NN : Nat) (x : DLL (Sig.tys ag_spec_l01Pick)) : runVS NN [fn_spec_l01Below] sc_spec_l01Pick ms_spec_l01Pick ag_spec_l01Pick rs_spec_l01Pick x = G_spec_l01Pick NN x := by kernel_rfl
theorem k_spec_l01Pick : chkS pX 41 sc_spec_l01Pick.er ms_spec_l01Pick 2 = true := by decide +kernel
theorem p_spec_l01Pick : VSpec Go.Proofs.Try.prog 41 fn_spec_l01Pick.MV ∧ chkFun pX 41 = true :=
  v_of_runVS (T := [fn_spec_l01Below]) (sc := sc_spec_l01Pick) (ms := ms_spec_l01Pick) (args := ag_spec_l01Pick) (res := rs_spec_l01Pick) (SOk.consV p_spec_l01Below <| SOk.nil) follows_ok k_spec_l01Pick F_spec_l01Pick fun x y h => (n_spec_l01Pick FUEL x).trans (f_spec_l01Pick x y h)

def fn_spec_MakePrime : SFn := ⟨15, ag_spec_MakePrime, mu_spec_MakePrime, rs_spec_MakePrime, F_spec_MakePrime⟩
def sc_spec_MakePrime : SCode :=
 (.seq
 (.reg false [
 oX 4 (.mv (kX 0))])
 (.seq
 (.reg false [
 oX 5 (.mv 0),
 oX 6 (.mv 1),
 oX 7 (.callb 37 [5, 6]),
 oX 8 (.bslice iX [(kX 2), (kX 3), (kX 7), (kX 101), (kX 1000003)]),
 oX 9 (.callb 41 [7, 8]),
 oX 4 (.mv 9)])
 .ret))
def ms_spec_MakePrime : List MRes := [.tmp 4]
theorem n_spec_MakePrime (NN : Nat) (x : DLL (Sig.tys ag_spec_MakePrime)) : runVS NN [fn_spec_l45At, fn_spec_l01Pick] sc_spec_MakePrime ms_spec_MakePrime ag_spec_MakePrime rs_spec_MakePrime x = G_spec_MakePrime NN x := by kernel_rfl
theorem k_spec_MakePrime : chkS pX 15 sc_spec_MakePrime.er ms_spec_MakePrime 2 = true := by decide +kernel
theorem p_spec_MakePrime : VSpec Go.Proofs.Try.prog 15 fn_spec_MakePrime.MV ∧ chkFun pX 15 = true :=
  v_of_runVS (T := [fn_spec_l45At, fn_spec_l01Pick]) (sc := sc_spec_MakePrime) (ms := ms_spec_MakePrime) (args := ag_spec_MakePrime) (res := rs_spec_MakePrime) (SOk.consV p_spec_l45At <| SOk.consV p_spec_l01Pick <| SOk.nil) follows_ok k_spec_MakePrime F_spec_MakePrime fun x y h => (n_spec_MakePrime FUEL x).trans (f_spec_MakePrime x y h)

def fn_spec_MakeNum : SFn := ⟨39, ag_spec_MakeNum, mu_spec_MakeNum, rs_spec_MakeNum, F_spec_MakeNum⟩
def sc_spec_MakeNum : SCode :=
 (.seq
 (.reg false [
 oX 4 (.mv (kX 0))])
 (.seq
 (.reg false [
 oX 6 (.mv 0),
 oX 7 (.mv 1),
 oX 8 (.callb 37 [6, 7]),
 oX 5 (.mv 8)])
 (.seq
 (.reg false [
 oX 9 (.mv 5),
 oX 10 (.callb 72 [9]),
 oX 11 (.bin .mul (kX 256) 10),
 oX 12 (.mv 5),
 oX 13 (.callb 72 [12]),
 oX 14 (.bin .add 11 13),
 oX 4 (.mv 14)])
 .ret)))
def ms_spec_MakeNum : List MRes := [.tmp 4]
theorem n_spec_MakeNum (NN : Nat) (x : DLL (Sig.tys ag_spec_MakeNum)) : runVS NN [fn_spec_l45At, fn_spec_l01Byte] sc_spec_MakeNum ms_spec_MakeNum ag_spec_MakeNum rs_spec_MakeNum x = G_spec_MakeNum NN x := by kernel_rfl
theorem k_spec_MakeNum : chkS pX 39 sc_spec_MakeNum.er ms_spec_MakeNum 2 = true := by decide +kernel
theorem p_spec_MakeNum : VSpec Go.Proofs.Try.prog 39 fn_spec_MakeNum.MV ∧ chkFun pX 39 = true :=
  v_of_runVS (T := [fn_spec_l45At, fn_spec_l01Byte]) (sc := sc_spec_MakeNum) (ms := ms_spec_MakeNum) (args := ag_spec_MakeNum) (res := rs_spec_MakeNum) (SOk.consV p_spec_l45At <| SOk.consV p_spec_l01Byte <| SOk.nil) follows_ok k_spec_MakeNum F_spec_MakeNum fun x y h => (n_spec_MakeNum FUEL x).trans (f_spec_MakeNum x y h)

def fn_spec_MakeSize : SFn := ⟨11, ag_spec_MakeSize, mu_spec_MakeSize, rs_spec_MakeSize, F_spec_MakeSize⟩
def sc_spec_MakeSize : SCode :=
 (.seq
 (.reg false [
 oX 8 (.mv (kX 0))])
 (.seq
 (.reg false [
 oX 9 (.mv 2),
 oX 10 (.mv 0),
 oX 11 (.mv 1),
 oX 12 (.callb 39 [10, 11]),
 oX 13 (.mv 3),
 oX 14 (.mv 2),
 oX 15 (.bin .sub 13 14),
 oX 16 (.bin .add 15 (kX 1)),
 oX 17 (.bin .rem 12 16),
 oX 18 (.bin .add 9 17),
 oX 8 (.mv 18)])
 .ret))
def ms_spec_MakeSize : List MRes := [.tmp 8]
theorem n_spec_MakeSize (NN : Nat) (x : DLL (Sig.tys ag_spec_MakeSize)) : runVS NN [fn_spec_MakeNum] sc_spec_MakeSize ms_spec_MakeSize ag_spec_MakeSize rs_spec_MakeSize x = G_spec_MakeSize NN x := by kernel_rfl
theorem k_spec_MakeSize : chkS pX 11 sc_spec_MakeSize.er ms_spec_MakeSize 4 = true := by decide +kernel
theorem p_spec_MakeSize : VSpec Go.Proofs.Try.prog 11 fn_spec_MakeSize.MV ∧ chkFun pX 11 = true :=
  v_of_runVS (T := [fn_spec_MakeNum]) (sc := sc_spec_MakeSize) (ms := ms_spec_MakeSize) (args := ag_spec_MakeSize) (res := rs_spec_MakeSize) (SOk.consV p_spec_MakeNum <| SOk.nil) follows_ok k_spec_MakeSize F_spec_MakeSize fun x y h => (n_spec_MakeSize FUEL x).trans (f_spec_MakeSize x y h)

def fn_spec_l31New : SFn := ⟨73, ag_spec_l31New, mu_spec_l31New, rs_spec_l31New, F_spec_l31New⟩
def sc_spec_l31New : SCode :=
 (.seq
 (.reg false [
 oX 4 (.alloc [zX, zX, .nil iX])])
 (.seq
 (.reg false [
 oX 5 (.mv 0),
 oX 6 (.mv 1),
 oX 7 (.mv 0),
 oX 8 (.mv 1),
 oX 9 (.bin .mul 7 8),
 oX 10 (.mkslice .froz iX 8 (0 : Int) 9 9),
 oX 11 (.build [zX, zX, .nil iX] [(0, 1, 5), (1, 1, 6), (2, 1, 10)]),
 uX (.store 3 4 11)])
 .ret))
def ms_spec_l31New : List MRes := [.cell 4 3 true]
theorem n_spec_l31New (NN : Nat) (x : DLL (Sig.tys ag_spec_l31New)) : runS NN [] sc_spec_l31New ms_spec_l31New ag_spec_l31New rs_spec_l31New x = G_spec_l31New NN x := by kernel_rfl
theorem k_spec_l31New : chkS pX 73 sc_spec_l31New.er ms_spec_l31New 2 = true := by decide +kernel
theorem p_spec_l31New : PureSpec pX 73 fn_spec_l31New.M ∧ chkFun pX 73 = true :=
  pure_of_runS (T := []) (sc := sc_spec_l31New) (ms := ms_spec_l31New) (args := ag_spec_l31New) (res := rs_spec_l31New) (SOk.nil) follows_ok k_spec_l31New F_spec_l31New fun x y h => (n_spec_l31New FUEL x).trans (f_spec_l31New x y h)

def fn_spec_l01Once : SFn := ⟨74, ag_spec_l01Once, mu_spec_l01Once, rs_spec_l01Once, F_spec_l01Once⟩
def sc_spec_l01Once : SCode :=
 (.seq
 (.reg false [
 oX 4 (.mv (.k (.one (.v (.bool) (false)))))])
 (.seq
 (.reg false [
 oX 5 (.mv 0),
 oX 6 (.mv 1),
 oX 7 (.callb 45 [5, 6]),
 oX 8 (.bin .eql 7 (kX 0)),
 oX 4 (.mv 8)])
 .ret))
def ms_spec_l01Once : List MRes := [.tmp 4]
theorem n_spec_l01Once (NN : Nat) (x : DLL (Sig.tys ag_spec_l01Once)) : runVS NN [fn_spec_l01Below] sc_spec_l01Once ms_spec_l01Once ag_spec_l01Once rs_spec_l01Once x = G_spec_l01Once NN x := by kernel_rfl
theorem k_spec_l01Once : chkS pX 74 sc_spec_l01Once.er ms_spec_l01Once 2 = true := by decide +kernel
theorem p_spec_l01Once : VSpec Go.Proofs.Try.prog 74 fn_spec_l01Once.MV ∧ chkFun pX 74 = true :=
  v_of_runVS (T := [fn_spec_l01Below]) (sc := sc_spec_l01Once) (ms := ms_spec_l01Once) (args := ag_spec_l01Once) (res := rs_spec_l01Once) (SOk.consV p_spec_l01Below <| SOk.nil) follows_ok k_spec_l01Once F_spec_l01Once fun x y h => (n_spec_l01Once FUEL x).trans (f_spec_l01Once x y h)

def fn_spec_l31Draw : SFn := ⟨42, ag_spec_l31Draw, mu_spec_l31Draw, rs_spec_l31Draw, F_spec_l31Draw⟩
def sc_spec_l31Draw : SCode :=
 (.seq
 (.reg false [
 oX 8 (.alloc [zX, zX, .nil iX])])
 (.seq
 (.reg false [
 oX 12 (.mv 2),
 oX 13 (.mv 3),
 oX 14 (.call .froz 73 [12, 13]),
 oX 9 (.alloc [zX, zX, .nil iX]),
 uX (.store 3 9 14)])
 (.seq
 (.seq
 (.reg false [
 oX 15 (.fieldA 2 9),
 oX 16 (.load false 1 15),
 oX 17 (.len 16),
 oX 18 (.mv (kX 0))])
 (.join ⟨[(2, sX), (0, .one (rX 1000000)), (3, sX), (9, .one (rX 9)), (8, .one (rX 8))], [(1000000, .box [.c (.v (.list [.int .u8])), vX, vX]), (8, .box [vX, vX, fX 500002 1]), (9, .box [vX, vX, fX 500003 1]), (500002, .row true .froz iX), (500003, .row true .froz iX)]⟩ [1000000, 8, 9, 500000, 500001, 500002, 500003] [(true, 8, 2, 500002, .froz, []), (true, 9, 2, 500003, .froz, [])]
 (.block 0
 (.loop 0 ⟨[(0, .one (rX 1000000)), (1, sX), (2, sX), (3, sX), (8, .one (rX 8)), (9, .one (rX 9)), (17, sX), (18, sX)], [(1000000, .box [.c (.v (.list [.int .u8])), vX, vX]), (8, .box [vX, vX, fX 500000 1]), (9, .box [vX, vX, fX 500001 1]), (500000, .row true .froz iX), (500001, .row true .froz iX)]⟩ [1000000, 8, 15000, 9, 500000, 500001] [(true, 8, 2, 500000, .froz, []), (true, 9, 2, 500001, .froz, [])]
 (.seq
 (.reg false [
 oX 19 (.bin .lss 18 17)])
 (.seq
 (.cond 19
 .skip
 (.exit 0))
 (.seq
 (.block 1
 (.seq
 (.reg false [
 oX 20 (.mv 18),
 oX 10 (.mv 20)])
 (.seq
 (.reg false [
 oX 21 (.mv 0),
 oX 22 (.callb 74 [21, (kX 3)]),
 oX 23 (.un .not 22)])
 (.cond 23
 (.regD [(0, 6), (1, 6)] [
 oX 24 (.fieldA 2 9),
 oX 25 (.load false 1 24),
 oX 26 (.mv 10),
 oX 27 (.mv 0),
 oX 28 (.mv 1),
 oX 29 (.mm false 28 (kX 256)),
 oX 30 (.callb 45 [27, 29]),
 oX 31 (.idxA 1 25 26),
 uX (.store 1 31 30)])
 .skip))))
 (.reg false [
 oX 32 (.bin .add 18 (kX 1)),
 oX 18 (.mv 32)]))))))))
 (.seq
 (.seq
 (.reg false [
 oX 33 (.mv 2),
 oX 34 (.bin .gtr 33 (kX 1)),
 oX 35 (.mv 34),
 ⟨(some 36), .mv 0, (some (35, true))⟩,
 ⟨(some 37), .callb 74 [36, (kX 3)], (some (35, true))⟩,
 oX 38 (.pick 35 37 (.k (.one (.v (.bool) (false)))))])
 (.join ⟨[(9, .one (rX 9)), (8, .one (rX 8))], [(1000000, .box [.c (.v (.list [.int .u8])), vX, vX]), (8, .box [vX, vX, fX 500006 1]), (9, .box [vX, vX, fX 500007 1]), (500006, .row true .froz iX), (500007, .row true .froz iX)]⟩ [1000000, 8, 9, 500002, 500003, 500004, 500005, 500006, 500007] [(true, 8, 2, 500006, .froz, []), (true, 9, 2, 500007, .froz, [])]
 (.cond 38
 (.seq
 (.reg false [
 oX 11 (.mv (kX 0))])
 (.block 2
 (.loop 0 ⟨[(3, sX), (8, .one (rX 8)), (9, .one (rX 9)), (11, sX)], [(1000000, .box [.c (.v (.list [.int .u8])), vX, vX]), (8, .box [vX, vX, fX 500004 1]), (9, .box [vX, vX, fX 500005 1]), (500004, .row true .froz iX), (500005, .row true .froz iX)]⟩ [1000000, 8, 9, 500002, 500003, 500004, 500005] [(true, 8, 2, 500004, .froz, []), (true, 9, 2, 500005, .froz, [])]
 (.seq
 (.seq
 (.reg false [
 oX 39 (.mv 11),
 oX 40 (.mv 3),
 oX 41 (.bin .lss 39 40)])
 (.cond 41
 .skip
 (.exit 2)))
 (.seq
 (.block 3
 (.reg true [
 oX 44 (.fieldA 2 9),
 oX 45 (.load false 1 44),
 oX 46 (.mv 3),
 oX 47 (.mv 11),
 oX 48 (.bin .add 46 47),
 oX 49 (.fieldA 2 9),
 oX 50 (.load false 1 49),
 oX 51 (.mv 11),
 oX 52 (.idxA 1 50 51),
 oX 53 (.load false 1 52),
 oX 54 (.idxA 1 45 48),
 uX (.store 1 54 53)]))
 (.reg false [
 oX 42 (.mv 11),
 oX 43 (.bin .add 42 (kX 1)),
 oX 11 (.mv 43)]))))))
 .skip)))
 (.seq
 (.reg false [
 oX 55 (.load true 3 9),
 uX (.store 3 8 55)])
 .ret)))))
def ms_spec_l31Draw : List MRes := [.cell 8 3 true]
theorem n_spec_l31Draw (NN : Nat) (x : DLL (Sig.tys ag_spec_l31Draw)) : runVS NN [fn_spec_l31New, fn_spec_l01Once, fn_spec_l01Below] sc_spec_l31Draw ms_spec_l31Draw ag_spec_l31Draw rs_spec_l31Draw x = G_spec_l31Draw NN x := by kernel_rfl
theorem k_spec_l31Draw : chkS pX 42 sc_spec_l31Draw.er ms_spec_l31Draw 4 = true := by decide +kernel
theorem p_spec_l31Draw : VSpec Go.Proofs.Try.prog 42 fn_spec_l31Draw.MV ∧ chkFun pX 42 = true :=
  v_of_runVS (T := [fn_spec_l31New, fn_spec_l01Once, fn_spec_l01Below]) (sc := sc_spec_l31Draw) (ms := ms_spec_l31Draw) (args := ag_spec_l31Draw) (res := rs_spec_l31Draw) (SOk.cons p_spec_l31New <| SOk.consV p_spec_l01Once <| SOk.consV p_spec_l01Below <| SOk.nil) follows_ok k_spec_l31Draw F_spec_l31Draw fun x y h => (n_spec_l31Draw FUEL x).trans (f_spec_l31Draw x y h)

def fn_spec_MakeMatrix : SFn := ⟨16, ag_spec_MakeMatrix, mu_spec_MakeMatrix, rs_spec_MakeMatrix, F_spec_MakeMatrix⟩
def sc_spec_MakeMatrix : SCode :=
 (.seq
 (.reg false [
 oX 10 (.alloc [zX, zX, .nil iX])])
 (.seq
 (.reg false [
 oX 11 (.mv 0),
 oX 12 (.mv 1),
 oX 13 (.callb 37 [11, 12]),
 oX 14 (.mv 2),
 oX 15 (.mv 3),
 oX 16 (.mv 4),
 oX 17 (.callb 42 [13, 14, 15, 16]),
 uX (.store 3 10 17)])
 .ret))
def ms_spec_MakeMatrix : List MRes := [.cell 10 3 true]
theorem n_spec_MakeMatrix (NN : Nat) (x : DLL (Sig.tys ag_spec_MakeMatrix)) : runVS NN [fn_spec_l45At, fn_spec_l31Draw] sc_spec_MakeMatrix ms_spec_MakeMatrix ag_spec_MakeMatrix rs_spec_MakeMatrix x = G_spec_MakeMatrix NN x := by kernel_rfl
theorem k_spec_MakeMatrix : chkS pX 16 sc_spec_MakeMatrix.er ms_spec_MakeMatrix 5 = true := by decide +kernel
theorem p_spec_MakeMatrix : VSpec Go.Proofs.Try.prog 16 fn_spec_MakeMatrix.MV ∧ chkFun pX 16 = true :=
  v_of_runVS (T := [fn_spec_l45At, fn_spec_l31Draw]) (sc := sc_spec_MakeMatrix) (ms := ms_spec_MakeMatrix) (args := ag_spec_MakeMatrix) (res := rs_spec_MakeMatrix) (SOk.consV p_spec_l45At <| SOk.consV p_spec_l31Draw <| SOk.nil) follows_ok k_spec_MakeMatrix F_spec_MakeMatrix fun x y h => (n_spec_MakeMatrix FUEL x).trans (f_spec_MakeMatrix x y h)

def fn_impl_IsPrime : SFn := ⟨55, ag_impl_IsPrime, mu_impl_IsPrime, rs_impl_IsPrime, F_impl_IsPrime⟩
def sc_impl_IsPrime : SCode :=
 (.seq
 (.reg false [
 oX 2 (.mv (.k (.one (.v (.bool) (false)))))])
 (.seq
 (.seq
 (.reg false [
 oX 4 (.mv 0),
 oX 5 (.bin .lss 4 (kX 2)),
 oX 6 (.mv 5),
 ⟨(some 7), .mv 0, (some (6, false))⟩,
 ⟨(some 8), .bin .gtr 7 (kX 1000003), (some (6, false))⟩,
 oX 9 (.pick 6 (.k (.one (.v (.bool) (true)))) 8)])
 (.cond 9
 (.seq
 (.reg false [
 oX 2 (.mv (.k (.one (.v (.bool) (false)))))])
 .ret)
 .skip))
 (.seq
 (.seq
 (.reg false [
 oX 3 (.mv (kX 2))])
 (.join ⟨[], []⟩ [] []
 (.block 0
 (.loop 0 ⟨[(0, sX), (3, sX)], []⟩ [] []
 (.seq
 (.seq
 (.reg false [
 oX 10 (.mv 3),
 oX 11 (.mv 3),
 oX 12 (.bin .mul 10 11),
 oX 13 (.mv 0),
 oX 14 (.bin .leq 12 13)])
 (.cond 14
 .skip
 (.exit 0)))
 (.seq
 (.block 1
 (.seq
 (.reg false [
 oX 17 (.mv 0),
 oX 18 (.mv 3),
 oX 19 (.bin .rem 17 18),
 oX 20 (.bin .eql 19 (kX 0))])
 (.cond 20
 (.seq
 (.reg false [
 oX 2 (.mv (.k (.one (.v (.bool) (false)))))])
 .ret)
 .skip)))
 (.reg false [
 oX 15 (.mv 3),
 oX 16 (.bin .add 15 (kX 1)),
 oX 3 (.mv 16)])))))))
 (.seq
 (.reg false [
 oX 2 (.mv (.k (.one (.v (.bool) (true)))))])
 .ret))))
def ms_impl_IsPrime : List MRes := [.tmp 2]
theorem n_impl_IsPrime (NN : Nat) (x : DLL (Sig.tys ag_impl_IsPrime)) : runS NN [] sc_impl_IsPrime ms_impl_IsPrime ag_impl_IsPrime rs_impl_IsPrime x = G_impl_IsPrime NN x := by kernel_rfl
theorem k_impl_IsPrime : chkS pX 55 sc_impl_IsPrime.er ms_impl_IsPrime 1 = true := by decide +kernel
theorem p_impl_IsPrime : PureSpec pX 55 fn_impl_IsPrime.M ∧ chkFun pX 55 = true :=
  pure_of_runS (T := []) (sc := sc_impl_IsPrime) (ms := ms_impl_IsPrime) (args := ag_impl_IsPrime) (res := rs_impl_IsPrime) (SOk.nil) follows_ok k_impl_IsPrime F_impl_IsPrime fun x y h => (n_impl_IsPrime FUEL x).trans (f_impl_IsPrime x y h)

def fn_impl_inMod : SFn := ⟨75, ag_impl_inMod, mu_impl_inMod, rs_impl_inMod, F_impl_inMod⟩
def sc_impl_inMod : SCode :=
 (.seq
 (.reg false [
 oX 4 (.mv (.k (.one (.v (.bool) (false)))))])
 (.seq
 (.seq
 (.reg false [
 oX 7 (.mv 1),
 oX 8 (.len 7),
 oX 9 (.mv (kX 0))])
 (.join ⟨[], []⟩ [] []
 (.block 0
 (.loop 0 ⟨[(0, sX), (7, .one (.c (.v (lX)))), (8, sX), (9, sX)], []⟩ [] []
 (.seq
 (.reg false [
 oX 10 (.bin .lss 9 8)])
 (.seq
 (.cond 10
 .skip
 (.exit 0))
 (.seq
 (.block 1
 (.seq
 (.reg false [
 oX 11 (.idxA 1 7 9),
 oX 12 (.load false 1 11),
 oX 6 (.mv 12)])
 (.seq
 (.reg false [
 oX 13 (.mv 6),
 oX 14 (.bin .lss 13 (kX 0)),
 oX 15 (.mv 14),
 ⟨(some 16), .mv 6, (some (15, false))⟩,
 ⟨(some 17), .mv 0, (some (15, false))⟩,
 ⟨(some 18), .bin .geq 16 17, (some (15, false))⟩,
 oX 19 (.pick 15 (.k (.one (.v (.bool) (true)))) 18)])
 (.cond 19
 (.seq
 (.reg false [
 oX 4 (.mv (.k (.one (.v (.bool) (false)))))])
 .ret)
 .skip))))
 (.reg false [
 oX 20 (.bin .add 9 (kX 1)),
 oX 9 (.mv 20)]))))))))
 (.seq
 (.reg false [
 oX 4 (.mv (.k (.one (.v (.bool) (true)))))])
 .ret)))
def ms_impl_inMod : List MRes := [.tmp 4]
theorem n_impl_inMod (NN : Nat) (x : DLL (Sig.tys ag_impl_inMod)) : runS NN [] sc_impl_inMod ms_impl_inMod ag_impl_inMod rs_impl_inMod x = G_impl_inMod NN x := by kernel_rfl
theorem k_impl_inMod : chkS pX 75 sc_impl_inMod.er ms_impl_inMod 2 = true := by decide +kernel
theorem p_impl_inMod : PureSpec pX 75 fn_impl_inMod.M ∧ chkFun pX 75 = true :=
  pure_of_runS (T := []) (sc := sc_impl_inMod) (ms := ms_impl_inMod) (args := ag_impl_inMod) (res := rs_impl_inMod) (SOk.nil) follows_ok k_impl_inMod F_impl_inMod fun x y h => (n_impl_inMod FUEL x).trans (f_impl_inMod x y h)

def fn_impl_MatrixOk : SFn := ⟨43, ag_impl_MatrixOk, mu_impl_MatrixOk, rs_impl_MatrixOk, F_impl_MatrixOk⟩
def sc_impl_MatrixOk : SCode :=
 (.seq
 (.reg false [
 oX 3 (.box 3 1),
 oX 4 (.mv (.k (.one (.v (.bool) (false)))))])
 (.seq
 (.seq
 (.reg false [
 oX 5 (.mv 0),
 oX 6 (.call .froz 55 [5]),
 oX 7 (.un .not 6),
 oX 8 (.mv 7),
 ⟨(some 9), .fieldA 0 3, (some (8, false))⟩,
 ⟨(some 10), .load false 1 9, (some (8, false))⟩,
 ⟨(some 11), .bin .lss 10 (kX 0), (some (8, false))⟩,
 oX 12 (.pick 8 (.k (.one (.v (.bool) (true)))) 11),
 oX 13 (.mv 12),
 ⟨(some 14), .fieldA 1 3, (some (13, false))⟩,
 ⟨(some 15), .load false 1 14, (some (13, false))⟩,
 ⟨(some 16), .bin .lss 15 (kX 0), (some (13, false))⟩,
 oX 17 (.pick 13 (.k (.one (.v (.bool) (true)))) 16),
 oX 18 (.mv 17),
 ⟨(some 19), .fieldA 0 3, (some (18, false))⟩,
 ⟨(some 20), .load false 1 19, (some (18, false))⟩,
 ⟨(some 21), .bin .gtr 20 (kX 64), (some (18, false))⟩,
 oX 22 (.pick 18 (.k (.one (.v (.bool) (true)))) 21),
 oX 23 (.mv 22),
 ⟨(some 24), .fieldA 1 3, (some (23, false))⟩,
 ⟨(some 25), .load false 1 24, (some (23, false))⟩,
 ⟨(some 26), .bin .gtr 25 (kX 64), (some (23, false))⟩,
 oX 27 (.pick 23 (.k (.one (.v (.bool) (true)))) 26)])
 (.cond 27
 (.seq
 (.reg false [
 oX 4 (.mv (.k (.one (.v (.bool) (false)))))])
 .ret)
 .skip))
 (.seq
 (.reg false [
 oX 28 (.fieldA 2 3),
 oX 29 (.load false 1 28),
 oX 30 (.len 29),
 oX 31 (.fieldA 0 3),
 oX 32 (.load false 1 31),
 oX 33 (.fieldA 1 3),
 oX 34 (.load false 1 33),
 oX 35 (.bin .mul 32 34),
 oX 36 (.bin .eql 30 35),
 oX 37 (.mv 36),
 ⟨(some 38), .mv 0, (some (37, true))⟩,
 ⟨(some 39), .fieldA 2 3, (some (37, true))⟩,
 ⟨(some 40), .load false 1 39, (some (37, true))⟩,
 ⟨(some 41), .call .froz 75 [38, 40], (some (37, true))⟩,
 oX 42 (.pick 37 41 (.k (.one (.v (.bool) (false))))),
 oX 4 (.mv 42)])
 .ret)))
def ms_impl_MatrixOk : List MRes := [.tmp 4]
theorem n_impl_MatrixOk (NN : Nat) (x : DLL (Sig.tys ag_impl_MatrixOk)) : runS NN [fn_impl_IsPrime, fn_impl_inMod] sc_impl_MatrixOk ms_impl_MatrixOk ag_impl_MatrixOk rs_impl_MatrixOk x = G_impl_MatrixOk NN x := by kernel_rfl
theorem k_impl_MatrixOk : chkS pX 43 sc_impl_MatrixOk.er ms_impl_MatrixOk 2 = true := by decide +kernel
theorem p_impl_MatrixOk : PureSpec pX 43 fn_impl_MatrixOk.M ∧ chkFun pX 43 = true :=
  pure_of_runS (T := [fn_impl_IsPrime, fn_impl_inMod]) (sc := sc_impl_MatrixOk) (ms := ms_impl_MatrixOk) (args := ag_impl_MatrixOk) (res := rs_impl_MatrixOk) (SOk.cons p_impl_IsPrime <| SOk.cons p_impl_inMod <| SOk.nil) follows_ok k_impl_MatrixOk F_impl_MatrixOk fun x y h => (n_impl_MatrixOk FUEL x).trans (f_impl_MatrixOk x y h)

def fn_impl_copyInts : SFn := ⟨63, ag_impl_copyInts, mu_impl_copyInts, rs_impl_copyInts, F_impl_copyInts⟩
def sc_impl_copyInts : SCode :=
 (.seq
 (.reg false [
 oX 2 (.mv (.k (.one (.nil iX))))])
 (.seq
 (.reg false [
 oX 3 (.mv 0),
 oX 4 (.append true iX 8 (.k (.one (.nil iX))) 3),
 oX 2 (.mv 4)])
 .ret))
def ms_impl_copyInts : List MRes := [.tmp 2]
theorem n_impl_copyInts (NN : Nat) (x : DLL (Sig.tys ag_impl_copyInts)) : runS NN [] sc_impl_copyInts ms_impl_copyInts ag_impl_copyInts rs_impl_copyInts x = G_impl_copyInts NN x := by kernel_rfl
theorem k_impl_copyInts : chkS pX 63 sc_impl_copyInts.er ms_impl_copyInts 1 = true := by decide +kernel
theorem p_impl_copyInts : PureSpec pX 63 fn_impl_copyInts.M ∧ chkFun pX 63 = true :=
  pure_of_runS (T := []) (sc := sc_impl_copyInts) (ms := ms_impl_copyInts) (args := ag_impl_copyInts) (res := rs_impl_copyInts) (SOk.nil) follows_ok k_impl_copyInts F_impl_copyInts fun x y h => (n_impl_copyInts FUEL x).trans (f_impl_copyInts x y h)

def fn_impl_copyMatrix : SFn := ⟨65, ag_impl_copyMatrix, mu_impl_copyMatrix, rs_impl_copyMatrix, F_impl_copyMatrix⟩
def sc_impl_copyMatrix : SCode :=
 (.seq
 (.reg false [
 oX 1 (.box 3 0),
 oX 2 (.alloc [zX, zX, .nil iX])])
 (.seq
 (.reg true [
 oX 3 (.fieldA 0 1),
 oX 4 (.load false 1 3),
 oX 5 (.fieldA 1 1),
 oX 6 (.load false 1 5),
 oX 7 (.fieldA 2 1),
 oX 8 (.load false 1 7),
 oX 9 (.call .froz 63 [8]),
 oX 10 (.build [zX, zX, .nil iX] [(0, 1, 4), (1, 1, 6), (2, 1, 9)]),
 uX (.store 3 2 10)])
 .ret))
def ms_impl_copyMatrix : List MRes := [.cell 2 3 true]
theorem n_impl_copyMatrix (NN : Nat) (x : DLL (Sig.tys ag_impl_copyMatrix)) : runS NN [fn_impl_copyInts] sc_impl_copyMatrix ms_impl_copyMatrix ag_impl_copyMatrix rs_impl_copyMatrix x = G_impl_copyMatrix NN x := by kernel_rfl
theorem k_impl_copyMatrix : chkS pX 65 sc_impl_copyMatrix.er ms_impl_copyMatrix 1 = true := by decide +kernel
theorem p_impl_copyMatrix : PureSpec pX 65 fn_impl_copyMatrix.M ∧ chkFun pX 65 = true :=
  pure_of_runS (T := [fn_impl_copyInts]) (sc := sc_impl_copyMatrix) (ms := ms_impl_copyMatrix) (args := ag_impl_copyMatrix) (res := rs_impl_copyMatrix) (SOk.cons p_impl_copyInts <| SOk.nil) follows_ok k_impl_copyMatrix F_impl_copyMatrix fun x y h => (n_impl_copyMatrix FUEL x).trans (f_impl_copyMatrix x y h)

def fn_impl_Matrix_at : SFn := ⟨62, ag_impl_Matrix_at, mu_impl_Matrix_at, rs_impl_Matrix_at, F_impl_Matrix_at⟩
def sc_impl_Matrix_at : SCode :=
 (.seq
 (.reg false [
 oX 3 (.box 3 0),
 oX 6 (.mv (kX 0))])
 (.seq
 (.reg false [
 oX 7 (.fieldA 2 3),
 oX 8 (.load false 1 7),
 oX 9 (.mv 1),
 oX 10 (.fieldA 1 3),
 oX 11 (.load false 1 10),
 oX 12 (.bin .mul 9 11),
 oX 13 (.mv 2),
 oX 14 (.bin .add 12 13),
 oX 15 (.idxA 1 8 14),
 oX 16 (.load false 1 15),
 oX 6 (.mv 16)])
 .ret))
def ms_impl_Matrix_at : List MRes := [.tmp 6]
theorem n_impl_Matrix_at (NN : Nat) (x : DLL (Sig.tys ag_impl_Matrix_at)) : runS NN [] sc_impl_Matrix_at ms_impl_Matrix_at ag_impl_Matrix_at rs_impl_Matrix_at x = G_impl_Matrix_at NN x := by kernel_rfl
theorem k_impl_Matrix_at : chkS pX 62 sc_impl_Matrix_at.er ms_impl_Matrix_at 3 = true := by decide +kernel
theorem p_impl_Matrix_at : PureSpec pX 62 fn_impl_Matrix_at.M ∧ chkFun pX 62 = true :=
  pure_of_runS (T := []) (sc := sc_impl_Matrix_at) (ms := ms_impl_Matrix_at) (args := ag_impl_Matrix_at) (res := rs_impl_Matrix_at) (SOk.nil) follows_ok k_impl_Matrix_at F_impl_Matrix_at fun x y h => (n_impl_Matrix_at FUEL x).trans (f_impl_Matrix_at x y h)

def fn_impl_Matrix_set : SFn := ⟨61, ag_impl_Matrix_set, mu_impl_Matrix_set, rs_impl_Matrix_set, F_impl_Matrix_set⟩
def sc_impl_Matrix_set : SCode :=
 (.seq
 (.reg false [
 oX 4 (.box 3 0)])
 (.reg false [
 oX 8 (.fieldA 2 4),
 oX 9 (.load false 1 8),
 oX 10 (.mv 1),
 oX 11 (.fieldA 1 4),
 oX 12 (.load false 1 11),
 oX 13 (.bin .mul 10 12),
 oX 14 (.mv 2),
 oX 15 (.bin .add 13 14),
 oX 16 (.mv 3),
 oX 17 (.idxA 1 9 15),
 uX (.store 1 17 16)]))
def ms_impl_Matrix_set : List MRes := []
theorem n_impl_Matrix_set (NN : Nat) (x : DLL (Sig.tys ag_impl_Matrix_set)) : runMS NN [] sc_impl_Matrix_set ms_impl_Matrix_set ag_impl_Matrix_set mu_impl_Matrix_set rs_impl_Matrix_set x = G_impl_Matrix_set NN x := by kernel_rfl
theorem k_impl_Matrix_set : chkS pX 61 sc_impl_Matrix_set.er ms_impl_Matrix_set 4 = true := by decide +kernel
theorem p_impl_Matrix_set : MutSpec pX 61 mu_impl_Matrix_set fn_impl_Matrix_set.MM ∧ chkFun pX 61 = true :=
  mut_of_runMS (T := []) (sc := sc_impl_Matrix_set) (ms := ms_impl_Matrix_set) (args := ag_impl_Matrix_set) (mu := mu_impl_Matrix_set) (res := rs_impl_Matrix_set) (SOk.nil) follows_ok k_impl_Matrix_set F_impl_Matrix_set fun x y h => (n_impl_Matrix_set FUEL x).trans (f_impl_Matrix_set x y h)

def fn_impl_Matrix_swapRows : SFn := ⟨66, ag_impl_Matrix_swapRows, mu_impl_Matrix_swapRows, rs_impl_Matrix_swapRows, F_impl_Matrix_swapRows⟩
def sc_impl_Matrix_swapRows : SCode :=
 (.seq
 (.reg false [
 oX 3 (.box 3 0)])
 (.seq
 (.reg false [
 oX 6 (.mv (kX 0))])
 (.block 0
 (.loop 0 ⟨[(1, sX), (2, sX), (3, .one (rX 3)), (6, sX)], [(1000000, .row false .froz iX), (3, .box [vX, vX, fX 1000000 1])]⟩ [1000000, 3, 500000] [(true, 3, 2, 500000, .froz, [])]
 (.seq
 (.seq
 (.reg false [
 oX 9 (.mv 6),
 oX 10 (.fieldA 1 3),
 oX 11 (.load false 1 10),
 oX 12 (.bin .lss 9 11)])
 (.cond 12
 .skip
 (.exit 0)))
 (.seq
 (.block 1
 (.seq
 (.reg true [
 oX 15 (.load true 3 3),
 oX 16 (.mv 1),
 oX 17 (.mv 6),
 oX 18 (.call .froz 62 [15, 16, 17]),
 oX 19 (.load true 3 3),
 oX 20 (.mv 2),
 oX 21 (.mv 6),
 oX 22 (.call .froz 62 [19, 20, 21]),
 oX 7 (.mv 18),
 oX 8 (.mv 22)])
 (.seq
 (.reg false [
 oX 23 (.load true 3 3),
 oX 24 (.mv 1),
 oX 25 (.mv 6),
 oX 26 (.mv 8),
 oX 27 (.callm .froz 61 [23, 24, 25, 26])])
 (.reg false [
 oX 28 (.load true 3 3),
 oX 29 (.mv 2),
 oX 30 (.mv 6),
 oX 31 (.mv 7),
 oX 32 (.callm .froz 61 [28, 29, 30, 31])]))))
 (.reg false [
 oX 13 (.mv 6),
 oX 14 (.bin .add 13 (kX 1)),
 oX 6 (.mv 14)])))))))
def ms_impl_Matrix_swapRows : List MRes := []
theorem n_impl_Matrix_swapRows (NN : Nat) (x : DLL (Sig.tys ag_impl_Matrix_swapRows)) : runMS NN [fn_impl_Matrix_at, fn_impl_Matrix_set] sc_impl_Matrix_swapRows ms_impl_Matrix_swapRows ag_impl_Matrix_swapRows mu_impl_Matrix_swapRows rs_impl_Matrix_swapRows x = G_impl_Matrix_swapRows NN x := by kernel_rfl
theorem k_impl_Matrix_swapRows : chkS pX 66 sc_impl_Matrix_swapRows.er ms_impl_Matrix_swapRows 3 = true := by decide +kernel
theorem p_impl_Matrix_swapRows : MutSpec pX 66 mu_impl_Matrix_swapRows fn_impl_Matrix_swapRows.MM ∧ chkFun pX 66 = true :=
  mut_of_runMS (T := [fn_impl_Matrix_at, fn_impl_Matrix_set]) (sc := sc_impl_Matrix_swapRows) (ms := ms_impl_Matrix_swapRows) (args := ag_impl_Matrix_swapRows) (mu := mu_impl_Matrix_swapRows) (res := rs_impl_Matrix_swapRows) (SOk.cons p_impl_Matrix_at <| SOk.consM p_impl_Matrix_set <| SOk.nil) follows_ok k_impl_Matrix_swapRows F_impl_Matrix_swapRows fun x y h => (n_impl_Matrix_swapRows FUEL x).trans (f_impl_Matrix_swapRows x y h)

def fn_impl_rawInverse : SFn := ⟨67, ag_impl_rawInverse, mu_impl_rawInverse, rs_impl_rawInverse, F_impl_rawInverse⟩
def sc_impl_rawInverse : SCode :=
 (.seq
 (.reg false [
 oX 4 (.mv (kX 0))])
 (.seq
 (.reg false [
 oX 5 (.mv (kX 1))])
 (.seq
 (.seq
 (.reg false [
 oX 7 (.mv 0),
 oX 8 (.bin .sub 7 (kX 2)),
 oX 6 (.mv 8)])
 (.join ⟨[(5, sX)], []⟩ [] []
 (.block 0
 (.loop 0 ⟨[(0, sX), (1, sX), (5, sX), (6, sX)], []⟩ [] []
 (.seq
 (.seq
 (.reg false [
 oX 9 (.mv 6),
 oX 10 (.bin .gtr 9 (kX 0))])
 (.cond 10
 .skip
 (.exit 0)))
 (.seq
 (.block 1
 (.seq
 (.seq
 (.reg false [
 oX 13 (.mv 6),
 oX 14 (.bin .and 13 (kX 1)),
 oX 15 (.bin .eql 14 (kX 1))])
 (.join ⟨[(1, sX), (6, sX), (0, sX), (5, sX)], []⟩ [] []
 (.cond 15
 (.reg false [
 oX 16 (.mv 5),
 oX 17 (.mv 1),
 oX 18 (.bin .mul 16 17),
 oX 19 (.mv 0),
 oX 20 (.bin .rem 18 19),
 oX 5 (.mv 20)])
 .skip)))
 (.reg false [
 oX 21 (.mv 1),
 oX 22 (.mv 1),
 oX 23 (.bin .mul 21 22),
 oX 24 (.mv 0),
 oX 25 (.bin .rem 23 24),
 oX 1 (.mv 25)])))
 (.reg false [
 oX 11 (.mv 6),
 oX 12 (.bin .shr 11 (.k (.one (.v (.int .u64) ((1 : Int)))))),
 oX 6 (.mv 12)])))))))
 (.seq
 (.reg false [
 oX 26 (.mv 5),
 oX 4 (.mv 26)])
 .ret))))
def ms_impl_rawInverse : List MRes := [.tmp 4]
theorem n_impl_rawInverse (NN : Nat) (x : DLL (Sig.tys ag_impl_rawInverse)) : runS NN [] sc_impl_rawInverse ms_impl_rawInverse ag_impl_rawInverse rs_impl_rawInverse x = G_impl_rawInverse NN x := by kernel_rfl
theorem k_impl_rawInverse : chkS pX 67 sc_impl_rawInverse.er ms_impl_rawInverse 2 = true := by decide +kernel
theorem p_impl_rawInverse : PureSpec pX 67 fn_impl_rawInverse.M ∧ chkFun pX 67 = true :=
  pure_of_runS (T := []) (sc := sc_impl_rawInverse) (ms := ms_impl_rawInverse) (args := ag_impl_rawInverse) (res := rs_impl_rawInverse) (SOk.nil) follows_ok k_impl_rawInverse F_impl_rawInverse fun x y h => (n_impl_rawInverse FUEL x).trans (f_impl_rawInverse x y h)

def fn_impl_Matrix_addRow : SFn := ⟨68, ag_impl_Matrix_addRow, mu_impl_Matrix_addRow, rs_impl_Matrix_addRow, F_impl_Matrix_addRow⟩
def sc_impl_Matrix_addRow : SCode :=
 (.seq
 (.reg false [
 oX 5 (.box 3 0)])
 (.seq
 (.reg false [
 oX 10 (.mv (kX 0))])
 (.block 0
 (.loop 0 ⟨[(1, sX), (2, sX), (3, sX), (4, sX), (5, .one (rX 5)), (10, sX)], [(1000000, .row false .froz iX), (5, .box [vX, vX, fX 1000000 1])]⟩ [1000000, 5, 500000] [(true, 5, 2, 500000, .froz, [])]
 (.seq
 (.seq
 (.reg false [
 oX 11 (.mv 10),
 oX 12 (.fieldA 1 5),
 oX 13 (.load false 1 12),
 oX 14 (.bin .lss 11 13)])
 (.cond 14
 .skip
 (.exit 0)))
 (.seq
 (.block 1
 (.reg true [
 oX 17 (.load true 3 5),
 oX 18 (.mv 2),
 oX 19 (.mv 10),
 oX 20 (.load true 3 5),
 oX 21 (.mv 2),
 oX 22 (.mv 10),
 oX 23 (.call .froz 62 [20, 21, 22]),
 oX 24 (.mv 4),
 oX 25 (.load true 3 5),
 oX 26 (.mv 3),
 oX 27 (.mv 10),
 oX 28 (.call .froz 62 [25, 26, 27]),
 oX 29 (.bin .mul 24 28),
 oX 30 (.bin .add 23 29),
 oX 31 (.mv 1),
 oX 32 (.bin .rem 30 31),
 oX 33 (.callm .froz 61 [17, 18, 19, 32])]))
 (.reg false [
 oX 15 (.mv 10),
 oX 16 (.bin .add 15 (kX 1)),
 oX 10 (.mv 16)])))))))
def ms_impl_Matrix_addRow : List MRes := []
theorem n_impl_Matrix_addRow (NN : Nat) (x : DLL (Sig.tys ag_impl_Matrix_addRow)) : runMS NN [fn_impl_Matrix_at, fn_impl_Matrix_set] sc_impl_Matrix_addRow ms_impl_Matrix_addRow ag_impl_Matrix_addRow mu_impl_Matrix_addRow rs_impl_Matrix_addRow x = G_impl_Matrix_addRow NN x := by kernel_rfl
theorem k_impl_Matrix_addRow : chkS pX 68 sc_impl_Matrix_addRow.er ms_impl_Matrix_addRow 5 = true := by decide +kernel
theorem p_impl_Matrix_addRow : MutSpec pX 68 mu_impl_Matrix_addRow fn_impl_Matrix_addRow.MM ∧ chkFun pX 68 = true :=
  mut_of_runMS (T := [fn_impl_Matrix_at, fn_impl_Matrix_set]) (sc := sc_impl_Matrix_addRow) (ms := ms_impl_Matrix_addRow) (args := ag_impl_Matrix_addRow) (mu := mu_impl_Matrix_addRow) (res := rs_impl_Matrix_addRow) (SOk.cons p_impl_Matrix_at <| SOk.consM p_impl_Matrix_set <| SOk.nil) follows_ok k_impl_Matrix_addRow F_impl_Matrix_addRow fun x y h => (n_impl_Matrix_addRow FUEL x).trans (f_impl_Matrix_addRow x y h)

def fn_impl_rawReduce : SFn := ⟨44, ag_impl_rawReduce, mu_impl_rawReduce, rs_impl_rawReduce, F_impl_rawReduce⟩
def sc_impl_rawReduce : SCode :=
 (.seq
 (.reg false [
 oX 3 (.box 3 1),
 oX 4 (.alloc [zX, zX, .nil iX]),
 oX 5 (.mv (.k (.one (.nil iX))))])
 (.seq
 (.reg false [
 oX 14 (.load true 3 3),
 oX 15 (.call .froz 65 [14]),
 oX 6 (.alloc [zX, zX, .nil iX]),
 uX (.store 3 6 15)])
 (.seq
 (.reg false [
 oX 7 (.mv (.k (.one (.nil iX))))])
 (.seq
 (.seq
 (.reg false [
 oX 8 (.mv (kX 0))])
 (.join ⟨[(6, .one (rX 6)), (7, .one (fX 500026 1)), (4, .one (rX 4))], [(4, .box [vX, vX, fX 500024 1]), (6, .box [vX, vX, fX 500025 1]), (500024, .row true .froz iX), (500025, .row true .froz iX), (500026, .row true .froz iX)]⟩ [4, 6, 500000, 500001, 500002, 500024, 500025, 500026] [(true, 4, 2, 500024, .froz, []), (true, 6, 2, 500025, .froz, []), (false, 7, 0, 500026, .froz, [])]
 (.block 0
 (.loop 0 ⟨[(0, sX), (4, .one (rX 4)), (6, .one (rX 6)), (7, .one (fX 500002 1)), (8, sX)], [(4, .box [vX, vX, fX 500000 1]), (6, .box [vX, vX, fX 500001 1]), (500000, .row true .froz iX), (500001, .row true .froz iX), (500002, .row true .froz iX)]⟩ [3, 4, 16000, 6, 500000, 500001, 500002, 500021, 500022, 500023] [(true, 4, 2, 500000, .froz, []), (true, 6, 2, 500001, .froz, []), (false, 7, 0, 500002, .froz, [])]
 (.seq
 (.seq
 (.reg false [
 oX 16 (.mv 8),
 oX 17 (.fieldA 1 6),
 oX 18 (.load false 1 17),
 oX 19 (.bin .lss 16 18)])
 (.cond 19
 .skip
 (.exit 0)))
 (.seq
 (.join ⟨[(8, sX), (0, sX), (4, .one (rX 4)), (6, .one (rX 6)), (7, .one (fX 500023 1))], [(4, .box [vX, vX, fX 500021 1]), (6, .box [vX, vX, fX 500022 1]), (500021, .row true .froz iX), (500022, .row true .froz iX), (500023, .row true .froz iX)]⟩ [4, 6, 99, 100, 500006, 500007, 500008, 500018, 500019, 500021, 500022, 500023] [(true, 4, 2, 500021, .froz, []), (true, 6, 2, 500022, .froz, []), (false, 7, 0, 500023, .froz, [])]
 (.block 1
 (.seq
 (.reg false [
 oX 22 (.mv 7),
 oX 23 (.len 22),
 oX 9 (.mv 23)])
 (.seq
 (.reg false [
 oX 24 (.mv 9),
 oX 10 (.mv 24)])
 (.seq
 (.join ⟨[(10, sX), (9, sX), (7, .one (fX 500008 1)), (8, sX), (0, sX), (4, .one (rX 4)), (6, .one (rX 6))], [(4, .box [vX, vX, fX 500006 1]), (6, .box [vX, vX, fX 500007 1]), (500006, .row true .froz iX), (500007, .row true .froz iX), (500008, .row true .froz iX)]⟩ [4, 6, 500003, 500004, 500005, 500006, 500007, 500008] [(true, 4, 2, 500006, .froz, []), (true, 6, 2, 500007, .froz, []), (false, 7, 0, 500008, .froz, [])]
 (.block 2
 (.loop 0 ⟨[(0, sX), (4, .one (rX 4)), (6, .one (rX 6)), (7, .one (fX 500005 1)), (8, sX), (9, sX), (10, sX)], [(4, .box [vX, vX, fX 500003 1]), (6, .box [vX, vX, fX 500004 1]), (500003, .row true .froz iX), (500004, .row true .froz iX), (500005, .row true .froz iX)]⟩ [4, 6, 500000, 500001, 500002, 500003, 500004, 500005] [(true, 4, 2, 500003, .froz, []), (true, 6, 2, 500004, .froz, []), (false, 7, 0, 500005, .froz, [])]
 (.seq
 (.seq
 (.reg false [
 oX 25 (.mv 10),
 oX 26 (.fieldA 0 6),
 oX 27 (.load false 1 26),
 oX 28 (.bin .lss 25 27),
 oX 29 (.mv 28),
 ⟨(some 30), .load true 3 6, (some (29, true))⟩,
 ⟨(some 31), .mv 10, (some (29, true))⟩,
 ⟨(some 32), .mv 8, (some (29, true))⟩,
 ⟨(some 33), .call .froz 62 [30, 31, 32], (some (29, true))⟩,
 ⟨(some 34), .bin .eql 33 (kX 0), (some (29, true))⟩,
 oX 35 (.pick 29 34 (.k (.one (.v (.bool) (false)))))])
 (.cond 35
 .skip
 (.exit 2)))
 (.block 3
 (.reg false [
 oX 36 (.mv 10),
 oX 37 (.bin .add 36 (kX 1)),
 oX 10 (.mv 37)]))))))
 (.seq
 (.seq
 (.reg false [
 oX 38 (.mv 10),
 oX 39 (.fieldA 0 6),
 oX 40 (.load false 1 39),
 oX 41 (.bin .eql 38 40)])
 (.cond 41
 (.exit 1)
 .skip))
 (.seq
 (.reg false [
 oX 42 (.load true 3 6),
 oX 43 (.mv 9),
 oX 44 (.mv 10),
 oX 45 (.callm .froz 66 [42, 43, 44])])
 (.seq
 (.reg false [
 oX 46 (.mv 0),
 oX 47 (.load true 3 6),
 oX 48 (.mv 9),
 oX 49 (.mv 8),
 oX 50 (.call .froz 62 [47, 48, 49]),
 oX 51 (.call .froz 67 [46, 50]),
 oX 11 (.mv 51)])
 (.seq
 (.seq
 (.reg false [
 oX 12 (.mv (kX 0))])
 (.join ⟨[(6, .one (rX 6)), (4, .one (rX 4)), (0, sX), (8, sX), (7, .one (fX 500014 1)), (9, sX)], [(4, .box [vX, vX, fX 500012 1]), (6, .box [vX, vX, fX 500013 1]), (500012, .row true .froz iX), (500013, .row true .froz iX), (500014, .row true .froz iX)]⟩ [4, 6, 500009, 500010, 500011, 500012, 500013, 500014] [(true, 4, 2, 500012, .froz, []), (true, 6, 2, 500013, .froz, []), (false, 7, 0, 500014, .froz, [])]
 (.block 4
 (.loop 0 ⟨[(0, sX), (4, .one (rX 4)), (6, .one (rX 6)), (7, .one (fX 500011 1)), (8, sX), (9, sX), (11, sX), (12, sX)], [(4, .box [vX, vX, fX 500009 1]), (6, .box [vX, vX, fX 500010 1]), (500009, .row true .froz iX), (500010, .row true .froz iX), (500011, .row true .froz iX)]⟩ [4, 6, 500006, 500007, 500008, 500009, 500010, 500011] [(true, 4, 2, 500009, .froz, []), (true, 6, 2, 500010, .froz, []), (false, 7, 0, 500011, .froz, [])]
 (.seq
 (.seq
 (.reg false [
 oX 52 (.mv 12),
 oX 53 (.fieldA 1 6),
 oX 54 (.load false 1 53),
 oX 55 (.bin .lss 52 54)])
 (.cond 55
 .skip
 (.exit 4)))
 (.seq
 (.block 5
 (.reg true [
 oX 58 (.load true 3 6),
 oX 59 (.mv 9),
 oX 60 (.mv 12),
 oX 61 (.load true 3 6),
 oX 62 (.mv 9),
 oX 63 (.mv 12),
 oX 64 (.call .froz 62 [61, 62, 63]),
 oX 65 (.mv 11),
 oX 66 (.bin .mul 64 65),
 oX 67 (.mv 0),
 oX 68 (.bin .rem 66 67),
 oX 69 (.callm .froz 61 [58, 59, 60, 68])]))
 (.reg false [
 oX 56 (.mv 12),
 oX 57 (.bin .add 56 (kX 1)),
 oX 12 (.mv 57)])))))))
 (.seq
 (.seq
 (.reg false [
 oX 13 (.mv (kX 0))])
 (.join ⟨[(7, .one (fX 500020 1)), (8, sX), (0, sX), (4, .one (rX 4)), (6, .one (rX 6))], [(4, .box [vX, vX, fX 500018 1]), (6, .box [vX, vX, fX 500019 1]), (500018, .row true .froz iX), (500019, .row true .froz iX), (500020, .row true .froz iX)]⟩ [4, 6, 500015, 500016, 500017, 500018, 500019, 500020] [(true, 4, 2, 500018, .froz, []), (true, 6, 2, 500019, .froz, []), (false, 7, 0, 500020, .froz, [])]
 (.block 6
 (.loop 0 ⟨[(0, sX), (4, .one (rX 4)), (6, .one (rX 6)), (7, .one (fX 500017 1)), (8, sX), (9, sX), (13, sX)], [(4, .box [vX, vX, fX 500015 1]), (6, .box [vX, vX, fX 500016 1]), (500015, .row true .froz iX), (500016, .row true .froz iX), (500017, .row true .froz iX)]⟩ [4, 6, 500012, 500013, 500014, 500015, 500016, 500017] [(true, 4, 2, 500015, .froz, []), (true, 6, 2, 500016, .froz, []), (false, 7, 0, 500017, .froz, [])]
 (.seq
 (.seq
 (.reg false [
 oX 70 (.mv 13),
 oX 71 (.fieldA 0 6),
 oX 72 (.load false 1 71),
 oX 73 (.bin .lss 70 72)])
 (.cond 73
 .skip
 (.exit 6)))
 (.seq
 (.block 7
 (.seq
 (.reg false [
 oX 76 (.mv 13),
 oX 77 (.mv 9),
 oX 78 (.bin .neq 76 77),
 oX 79 (.mv 78),
 ⟨(some 80), .load true 3 6, (some (79, true))⟩,
 ⟨(some 81), .mv 13, (some (79, true))⟩,
 ⟨(some 82), .mv 8, (some (79, true))⟩,
 ⟨(some 83), .call .froz 62 [80, 81, 82], (some (79, true))⟩,
 ⟨(some 84), .bin .neq 83 (kX 0), (some (79, true))⟩,
 oX 85 (.pick 79 84 (.k (.one (.v (.bool) (false)))))])
 (.cond 85
 (.reg true [
 oX 86 (.load true 3 6),
 oX 87 (.mv 0),
 oX 88 (.mv 13),
 oX 89 (.mv 9),
 oX 90 (.mv 0),
 oX 91 (.load true 3 6),
 oX 92 (.mv 13),
 oX 93 (.mv 8),
 oX 94 (.call .froz 62 [91, 92, 93]),
 oX 95 (.bin .sub 90 94),
 oX 96 (.callm .froz 68 [86, 87, 88, 89, 95])])
 .skip)))
 (.reg false [
 oX 74 (.mv 13),
 oX 75 (.bin .add 74 (kX 1)),
 oX 13 (.mv 75)])))))))
 (.reg false [
 oX 97 (.mv 7),
 oX 98 (.mv 8),
 oX 99 (.bslice iX [98]),
 oX 100 (.append true iX 8 97 99),
 oX 7 (.mv 100)])))))))))))
 (.reg false [
 oX 20 (.mv 8),
 oX 21 (.bin .add 20 (kX 1)),
 oX 8 (.mv 21)])))))))
 (.seq
 (.reg false [
 oX 101 (.load true 3 6),
 oX 102 (.mv 7),
 uX (.store 3 4 101),
 oX 5 (.mv 102)])
 .ret)))))
def ms_impl_rawReduce : List MRes := [.cell 4 3 true, .tmp 5]
theorem n_impl_rawReduce (NN : Nat) (x : DLL (Sig.tys ag_impl_rawReduce)) : runS NN [fn_impl_copyMatrix, fn_impl_Matrix_at, fn_impl_Matrix_swapRows, fn_impl_rawInverse, fn_impl_Matrix_set, fn_impl_Matrix_addRow] sc_impl_rawReduce ms_impl_rawReduce ag_impl_rawReduce rs_impl_rawReduce x = G_impl_rawReduce NN x := by kernel_rfl
theorem k_impl_rawReduce : chkS pX 44 sc_impl_rawReduce.er ms_impl_rawReduce 2 = true := by decide +kernel
theorem p_impl_rawReduce : PureSpec pX 44 fn_impl_rawReduce.M ∧ chkFun pX 44 = true :=
  pure_of_runS (T := [fn_impl_copyMatrix, fn_impl_Matrix_at, fn_impl_Matrix_swapRows, fn_impl_rawInverse, fn_impl_Matrix_set, fn_impl_Matrix_addRow]) (sc := sc_impl_rawReduce) (ms := ms_impl_rawReduce) (args := ag_impl_rawReduce) (res := rs_impl_rawReduce) (SOk.cons p_impl_copyMatrix <| SOk.cons p_impl_Matrix_at <| SOk.consM p_impl_Matrix_swapRows <| SOk.cons p_impl_rawInverse <| SOk.consM p_impl_Matrix_set <| SOk.consM p_impl_Matrix_addRow <| SOk.nil) follows_ok k_impl_rawReduce F_impl_rawReduce fun x y h => (n_impl_rawReduce FUEL x).trans (f_impl_rawReduce x y h)

def fn_impl_emptyMatrix : SFn := ⟨60, ag_impl_emptyMatrix, mu_impl_emptyMatrix, rs_impl_emptyMatrix, F_impl_emptyMatrix⟩
def sc_impl_emptyMatrix : SCode :=
 (.seq
 (.reg false [
 oX 4 (.alloc [zX, zX, .nil iX])])
 (.seq
 (.reg false [
 oX 5 (.mv 0),
 oX 6 (.mv 1),
 oX 7 (.mv 0),
 oX 8 (.mv 1),
 oX 9 (.bin .mul 7 8),
 oX 10 (.mkslice .froz iX 8 (0 : Int) 9 9),
 oX 11 (.build [zX, zX, .nil iX] [(0, 1, 5), (1, 1, 6), (2, 1, 10)]),
 uX (.store 3 4 11)])
 .ret))
def ms_impl_emptyMatrix : List MRes := [.cell 4 3 true]
theorem n_impl_emptyMatrix (NN : Nat) (x : DLL (Sig.tys ag_impl_emptyMatrix)) : runS NN [] sc_impl_emptyMatrix ms_impl_emptyMatrix ag_impl_emptyMatrix rs_impl_emptyMatrix x = G_impl_emptyMatrix NN x := by kernel_rfl
theorem k_impl_emptyMatrix : chkS pX 60 sc_impl_emptyMatrix.er ms_impl_emptyMatrix 2 = true := by decide +kernel
theorem p_impl_emptyMatrix : PureSpec pX 60 fn_impl_emptyMatrix.M ∧ chkFun pX 60 = true :=
  pure_of_runS (T := []) (sc := sc_impl_emptyMatrix) (ms := ms_impl_emptyMatrix) (args := ag_impl_emptyMatrix) (res := rs_impl_emptyMatrix) (SOk.nil) follows_ok k_impl_emptyMatrix F_impl_emptyMatrix fun x y h => (n_impl_emptyMatrix FUEL x).trans (f_impl_emptyMatrix x y h)

def fn_impl_FactorMatrix : SFn := ⟨29, ag_impl_FactorMatrix, mu_impl_FactorMatrix, rs_impl_FactorMatrix, F_impl_FactorMatrix⟩
def sc_impl_FactorMatrix : SCode :=
 (.seq
 (.reg false [
 oX 3 (.box 3 1),
 oX 4 (.alloc [zX, zX, .nil iX]),
 oX 5 (.alloc [zX, zX, .nil iX]),
 oX 6 (.mv (.k (.one (.v (.bool) (false)))))])
 (.seq
 (.seq
 (.reg false [
 oX 15 (.mv 0),
 oX 16 (.load true 3 3),
 oX 17 (.call .froz 43 [15, 16]),
 oX 18 (.un .not 17)])
 (.cond 18
 (.seq
 (.reg false [
 oX 19 (.build [zX, zX, .nil iX] []),
 oX 20 (.build [zX, zX, .nil iX] []),
 uX (.store 3 4 19),
 uX (.store 3 5 20),
 oX 6 (.mv (.k (.one (.v (.bool) (false)))))])
 .ret)
 .skip))
 (.seq
 (.reg false [
 oX 22 (.mv 0),
 oX 23 (.load true 3 3),
 oX 24 (.call .froz 44 [22, 23]),
 oX 21 (.mv 24),
 oX 25 (.ext 0 21),
 oX 26 (.ext 1 21),
 oX 7 (.alloc [zX, zX, .nil iX]),
 uX (.store 3 7 25),
 oX 8 (.mv 26)])
 (.seq
 (.reg false [
 oX 27 (.mv 8),
 oX 28 (.len 27),
 oX 9 (.mv 28)])
 (.seq
 (.reg false [
 oX 29 (.fieldA 0 3),
 oX 30 (.load false 1 29),
 oX 31 (.mv 9),
 oX 32 (.call .froz 60 [30, 31]),
 oX 10 (.alloc [zX, zX, .nil iX]),
 uX (.store 3 10 32)])
 (.seq
 (.seq
 (.reg false [
 oX 11 (.mv (kX 0))])
 (.join ⟨[(7, .one (rX 7)), (9, sX), (3, .one (rX 3)), (10, .one (rX 10)), (4, .one (rX 4)), (5, .one (rX 5))], [(3, .box [vX, vX, .c (.v (lX))]), (4, .box [vX, vX, fX 500015 1]), (5, .box [vX, vX, fX 500016 1]), (7, .box [vX, vX, fX 500017 1]), (10, .box [vX, vX, fX 500018 1]), (500015, .row true .froz iX), (500016, .row true .froz iX), (500017, .row true .froz iX), (500018, .row true .froz iX)]⟩ [3, 4, 5, 7, 10, 500000, 500001, 500002, 500003, 500004, 500015, 500016, 500017, 500018] [(true, 4, 2, 500015, .froz, []), (true, 5, 2, 500016, .froz, []), (true, 7, 2, 500017, .froz, []), (true, 10, 2, 500018, .froz, [])]
 (.block 0
 (.loop 0 ⟨[(3, .one (rX 3)), (4, .one (rX 4)), (5, .one (rX 5)), (7, .one (rX 7)), (8, .one (fX 500004 1)), (9, sX), (10, .one (rX 10)), (11, sX)], [(3, .box [vX, vX, .c (.v (lX))]), (4, .box [vX, vX, fX 500000 1]), (5, .box [vX, vX, fX 500001 1]), (7, .box [vX, vX, fX 500002 1]), (10, .box [vX, vX, fX 500003 1]), (500000, .row true .froz iX), (500001, .row true .froz iX), (500002, .row true .froz iX), (500003, .row true .froz iX), (500004, .row true .froz iX)]⟩ [3, 4, 5, 25000, 25001, 7, 33000, 10, 500000, 500001, 500002, 500003, 500004, 500010, 500011, 500012, 500013, 500014] [(true, 4, 2, 500000, .froz, []), (true, 5, 2, 500001, .froz, []), (true, 7, 2, 500002, .froz, []), (true, 10, 2, 500003, .froz, []), (false, 8, 0, 500004, .froz, [])]
 (.seq
 (.seq
 (.reg false [
 oX 33 (.mv 11),
 oX 34 (.fieldA 0 3),
 oX 35 (.load false 1 34),
 oX 36 (.bin .lss 33 35)])
 (.cond 36
 .skip
 (.exit 0)))
 (.seq
 (.join ⟨[(11, sX), (3, .one (rX 3)), (4, .one (rX 4)), (5, .one (rX 5)), (7, .one (rX 7)), (8, .one (fX 500014 1)), (9, sX), (10, .one (rX 10))], [(3, .box [vX, vX, .c (.v (lX))]), (4, .box [vX, vX, fX 500010 1]), (5, .box [vX, vX, fX 500011 1]), (7, .box [vX, vX, fX 500012 1]), (10, .box [vX, vX, fX 500013 1]), (500010, .row true .froz iX), (500011, .row true .froz iX), (500012, .row true .froz iX), (500013, .row true .froz iX), (500014, .row true .froz iX)]⟩ [3, 4, 5, 7, 10, 500005, 500006, 500007, 500008, 500009, 500010, 500011, 500012, 500013, 500014] [(true, 4, 2, 500010, .froz, []), (true, 5, 2, 500011, .froz, []), (true, 7, 2, 500012, .froz, []), (true, 10, 2, 500013, .froz, []), (false, 8, 0, 500014, .froz, [])]
 (.block 1
 (.seq
 (.reg false [
 oX 39 (.mv 8),
 oX 40 (.len 39),
 oX 41 (.mv (kX 0))])
 (.block 2
 (.loop 0 ⟨[(3, .one (rX 3)), (4, .one (rX 4)), (5, .one (rX 5)), (7, .one (rX 7)), (8, .one (fX 500009 1)), (9, sX), (10, .one (rX 10)), (11, sX), (39, .one (fX 500009 1)), (40, sX), (41, sX)], [(3, .box [vX, vX, .c (.v (lX))]), (4, .box [vX, vX, fX 500005 1]), (5, .box [vX, vX, fX 500006 1]), (7, .box [vX, vX, fX 500007 1]), (10, .box [vX, vX, fX 500008 1]), (500005, .row true .froz iX), (500006, .row true .froz iX), (500007, .row true .froz iX), (500008, .row true .froz iX), (500009, .row true .froz iX)]⟩ [3, 4, 5, 7, 10, 500000, 500001, 500002, 500003, 500004, 500005, 500006, 500007, 500008, 500009] [(true, 4, 2, 500005, .froz, []), (true, 5, 2, 500006, .froz, []), (true, 7, 2, 500007, .froz, []), (true, 10, 2, 500008, .froz, []), (false, 8, 0, 500009, .froz, [])]
 (.seq
 (.reg false [
 oX 42 (.bin .lss 41 40)])
 (.seq
 (.cond 42
 .skip
 (.exit 2))
 (.seq
 (.block 3
 (.seq
 (.reg false [
 oX 43 (.mv 41),
 oX 44 (.idxA 1 39 41),
 oX 45 (.load false 1 44),
 oX 12 (.mv 43),
 oX 13 (.mv 45)])
 (.reg true [
 oX 46 (.load true 3 10),
 oX 47 (.mv 11),
 oX 48 (.mv 12),
 oX 49 (.load true 3 3),
 oX 50 (.mv 11),
 oX 51 (.mv 13),
 oX 52 (.call .froz 62 [49, 50, 51]),
 oX 53 (.callm .froz 61 [46, 47, 48, 52])])))
 (.reg false [
 oX 54 (.bin .add 41 (kX 1)),
 oX 41 (.mv 54)])))))))))
 (.reg false [
 oX 37 (.mv 11),
 oX 38 (.bin .add 37 (kX 1)),
 oX 11 (.mv 38)])))))))
 (.seq
 (.reg true [
 oX 55 (.mv 9),
 oX 56 (.fieldA 1 3),
 oX 57 (.load false 1 56),
 oX 58 (.fieldA 2 7),
 oX 59 (.load false 1 58),
 oX 60 (.mv 9),
 oX 61 (.fieldA 1 3),
 oX 62 (.load false 1 61),
 oX 63 (.bin .mul 60 62),
 oX 64 (.slice 1 59 none (some 63)),
 oX 65 (.call .froz 63 [64]),
 oX 66 (.build [zX, zX, .nil iX] [(0, 1, 55), (1, 1, 57), (2, 1, 65)]),
 oX 14 (.alloc [zX, zX, .nil iX]),
 uX (.store 3 14 66)])
 (.seq
 (.regD [(1, 2)] [
 oX 67 (.load true 3 10),
 oX 68 (.load true 3 14),
 uX (.store 3 4 67),
 uX (.store 3 5 68),
 oX 6 (.mv (.k (.one (.v (.bool) (true)))))])
 .ret))))))))
def ms_impl_FactorMatrix : List MRes := [.cell 4 3 true, .cell 5 3 true, .tmp 6]
theorem n_impl_FactorMatrix (NN : Nat) (x : DLL (Sig.tys ag_impl_FactorMatrix)) : runS NN [fn_impl_MatrixOk, fn_impl_rawReduce, fn_impl_emptyMatrix, fn_impl_Matrix_at, fn_impl_Matrix_set, fn_impl_copyInts] sc_impl_FactorMatrix ms_impl_FactorMatrix ag_impl_FactorMatrix rs_impl_FactorMatrix x = G_impl_FactorMatrix NN x := by kernel_rfl
theorem k_impl_FactorMatrix : chkS pX 29 sc_impl_FactorMatrix.er ms_impl_FactorMatrix 2 = true := by decide +kernel
theorem p_impl_FactorMatrix : PureSpec pX 29 fn_impl_FactorMatrix.M ∧ chkFun pX 29 = true :=
  pure_of_runS (T := [fn_impl_MatrixOk, fn_impl_rawReduce, fn_impl_emptyMatrix, fn_impl_Matrix_at, fn_impl_Matrix_set, fn_impl_copyInts]) (sc := sc_impl_FactorMatrix) (ms := ms_impl_FactorMatrix) (args := ag_impl_FactorMatrix) (res := rs_impl_FactorMatrix) (SOk.cons p_impl_MatrixOk <| SOk.cons p_impl_rawReduce <| SOk.cons p_impl_emptyMatrix <| SOk.cons p_impl_Matrix_at <| SOk.consM p_impl_Matrix_set <| SOk.cons p_impl_copyInts <| SOk.nil) follows_ok k_impl_FactorMatrix F_impl_FactorMatrix fun x y h => (n_impl_FactorMatrix FUEL x).trans (f_impl_FactorMatrix x y h)

def fn_impl_rawMulMatrix : SFn := ⟨54, ag_impl_rawMulMatrix, mu_impl_rawMulMatrix, rs_impl_rawMulMatrix, F_impl_rawMulMatrix⟩
def sc_impl_rawMulMatrix : SCode :=
 (.seq
 (.reg false [
 oX 4 (.box 3 1),
 oX 5 (.box 3 2),
 oX 6 (.alloc [zX, zX, .nil iX])])
 (.seq
 (.reg false [
 oX 12 (.fieldA 0 4),
 oX 13 (.load false 1 12),
 oX 14 (.fieldA 1 5),
 oX 15 (.load false 1 14),
 oX 16 (.call .froz 60 [13, 15]),
 oX 7 (.alloc [zX, zX, .nil iX]),
 uX (.store 3 7 16)])
 (.seq
 (.seq
 (.reg false [
 oX 8 (.mv (kX 0))])
 (.join ⟨[(7, .one (rX 7)), (6, .one (rX 6))], [(6, .box [vX, vX, fX 500012 1]), (7, .box [vX, vX, fX 500013 1]), (500012, .row true .froz iX), (500013, .row true .froz iX)]⟩ [4, 5, 6, 7, 500000, 500001, 500012, 500013] [(true, 6, 2, 500012, .froz, []), (true, 7, 2, 500013, .froz, [])]
 (.block 0
 (.loop 0 ⟨[(0, sX), (4, .one (rX 4)), (5, .one (rX 5)), (6, .one (rX 6)), (7, .one (rX 7)), (8, sX)], [(4, .box [vX, vX, .c (.v (lX))]), (5, .box [vX, vX, .c (.v (lX))]), (6, .box [vX, vX, fX 500000 1]), (7, .box [vX, vX, fX 500001 1]), (500000, .row true .froz iX), (500001, .row true .froz iX)]⟩ [4, 5, 6, 17000, 7, 500000, 500001, 500010, 500011] [(true, 6, 2, 500000, .froz, []), (true, 7, 2, 500001, .froz, [])]
 (.seq
 (.seq
 (.reg false [
 oX 17 (.mv 8),
 oX 18 (.fieldA 0 4),
 oX 19 (.load false 1 18),
 oX 20 (.bin .lss 17 19)])
 (.cond 20
 .skip
 (.exit 0)))
 (.seq
 (.join ⟨[(8, sX), (0, sX), (4, .one (rX 4)), (5, .one (rX 5)), (6, .one (rX 6)), (7, .one (rX 7))], [(4, .box [vX, vX, .c (.v (lX))]), (5, .box [vX, vX, .c (.v (lX))]), (6, .box [vX, vX, fX 500010 1]), (7, .box [vX, vX, fX 500011 1]), (500010, .row true .froz iX), (500011, .row true .froz iX)]⟩ [4, 5, 6, 7, 500002, 500003, 500010, 500011] [(true, 6, 2, 500010, .froz, []), (true, 7, 2, 500011, .froz, [])]
 (.block 1
 (.seq
 (.reg false [
 oX 9 (.mv (kX 0))])
 (.block 2
 (.loop 0 ⟨[(0, sX), (4, .one (rX 4)), (5, .one (rX 5)), (6, .one (rX 6)), (7, .one (rX 7)), (8, sX), (9, sX)], [(4, .box [vX, vX, .c (.v (lX))]), (5, .box [vX, vX, .c (.v (lX))]), (6, .box [vX, vX, fX 500002 1]), (7, .box [vX, vX, fX 500003 1]), (500002, .row true .froz iX), (500003, .row true .froz iX)]⟩ [4, 5, 6, 7, 500000, 500001, 500002, 500003, 500008, 500009] [(true, 6, 2, 500002, .froz, []), (true, 7, 2, 500003, .froz, [])]
 (.seq
 (.seq
 (.reg false [
 oX 23 (.mv 9),
 oX 24 (.fieldA 1 5),
 oX 25 (.load false 1 24),
 oX 26 (.bin .lss 23 25)])
 (.cond 26
 .skip
 (.exit 2)))
 (.seq
 (.join ⟨[(9, sX), (0, sX), (4, .one (rX 4)), (5, .one (rX 5)), (6, .one (rX 6)), (7, .one (rX 7)), (8, sX)], [(4, .box [vX, vX, .c (.v (lX))]), (5, .box [vX, vX, .c (.v (lX))]), (6, .box [vX, vX, fX 500008 1]), (7, .box [vX, vX, fX 500009 1]), (500008, .row true .froz iX), (500009, .row true .froz iX)]⟩ [4, 5, 6, 7, 500006, 500007, 500008, 500009] [(true, 6, 2, 500008, .froz, []), (true, 7, 2, 500009, .froz, [])]
 (.block 3
 (.seq
 (.reg false [
 oX 10 (.mv (kX 0))])
 (.seq
 (.seq
 (.reg false [
 oX 11 (.mv (kX 0))])
 (.join ⟨[(10, sX), (9, sX), (0, sX), (4, .one (rX 4)), (5, .one (rX 5)), (6, .one (rX 6)), (7, .one (rX 7)), (8, sX)], [(4, .box [vX, vX, .c (.v (lX))]), (5, .box [vX, vX, .c (.v (lX))]), (6, .box [vX, vX, fX 500006 1]), (7, .box [vX, vX, fX 500007 1]), (500006, .row true .froz iX), (500007, .row true .froz iX)]⟩ [4, 5, 6, 7, 500004, 500005, 500006, 500007] [(true, 6, 2, 500006, .froz, []), (true, 7, 2, 500007, .froz, [])]
 (.block 4
 (.loop 0 ⟨[(0, sX), (4, .one (rX 4)), (5, .one (rX 5)), (6, .one (rX 6)), (7, .one (rX 7)), (8, sX), (9, sX), (10, sX), (11, sX)], [(4, .box [vX, vX, .c (.v (lX))]), (5, .box [vX, vX, .c (.v (lX))]), (6, .box [vX, vX, fX 500004 1]), (7, .box [vX, vX, fX 500005 1]), (500004, .row true .froz iX), (500005, .row true .froz iX)]⟩ [4, 5, 6, 7, 500002, 500003, 500004, 500005] [(true, 6, 2, 500004, .froz, []), (true, 7, 2, 500005, .froz, [])]
 (.seq
 (.seq
 (.reg false [
 oX 29 (.mv 11),
 oX 30 (.fieldA 1 4),
 oX 31 (.load false 1 30),
 oX 32 (.bin .lss 29 31)])
 (.cond 32
 .skip
 (.exit 4)))
 (.seq
 (.block 5
 (.reg true [
 oX 35 (.mv 10),
 oX 36 (.load true 3 4),
 oX 37 (.mv 8),
 oX 38 (.mv 11),
 oX 39 (.call .froz 62 [36, 37, 38]),
 oX 40 (.load true 3 5),
 oX 41 (.mv 11),
 oX 42 (.mv 9),
 oX 43 (.call .froz 62 [40, 41, 42]),
 oX 44 (.bin .mul 39 43),
 oX 45 (.bin .add 35 44),
 oX 46 (.mv 0),
 oX 47 (.bin .rem 45 46),
 oX 10 (.mv 47)]))
 (.reg false [
 oX 33 (.mv 11),
 oX 34 (.bin .add 33 (kX 1)),
 oX 11 (.mv 34)])))))))
 (.reg false [
 oX 48 (.load true 3 7),
 oX 49 (.mv 8),
 oX 50 (.mv 9),
 oX 51 (.mv 10),
 oX 52 (.callm .froz 61 [48, 49, 50, 51])])))))
 (.reg false [
 oX 27 (.mv 9),
 oX 28 (.bin .add 27 (kX 1)),
 oX 9 (.mv 28)]))))))))
 (.reg false [
 oX 21 (.mv 8),
 oX 22 (.bin .add 21 (kX 1)),
 oX 8 (.mv 22)])))))))
 (.seq
 (.reg false [
 oX 53 (.load true 3 7),
 uX (.store 3 6 53)])
 .ret))))
def ms_impl_rawMulMatrix : List MRes := [.cell 6 3 true]
theorem n_impl_rawMulMatrix (NN : Nat) (x : DLL (Sig.tys ag_impl_rawMulMatrix)) : runS NN [fn_impl_emptyMatrix, fn_impl_Matrix_at, fn_impl_Matrix_set] sc_impl_rawMulMatrix ms_impl_rawMulMatrix ag_impl_rawMulMatrix rs_impl_rawMulMatrix x = G_impl_rawMulMatrix NN x := by kernel_rfl
theorem k_impl_rawMulMatrix : chkS pX 54 sc_impl_rawMulMatrix.er ms_impl_rawMulMatrix 3 = true := by decide +kernel
theorem p_impl_rawMulMatrix : PureSpec pX 54 fn_impl_rawMulMatrix.M ∧ chkFun pX 54 = true :=
  pure_of_runS (T := [fn_impl_emptyMatrix, fn_impl_Matrix_at, fn_impl_Matrix_set]) (sc := sc_impl_rawMulMatrix) (ms := ms_impl_rawMulMatrix) (args := ag_impl_rawMulMatrix) (res := rs_impl_rawMulMatrix) (SOk.cons p_impl_emptyMatrix <| SOk.cons p_impl_Matrix_at <| SOk.consM p_impl_Matrix_set <| SOk.nil) follows_ok k_impl_rawMulMatrix F_impl_rawMulMatrix fun x y h => (n_impl_rawMulMatrix FUEL x).trans (f_impl_rawMulMatrix x y h)

def fn_impl_MulMatrix : SFn := ⟨30, ag_impl_MulMatrix, mu_impl_MulMatrix, rs_impl_MulMatrix, F_impl_MulMatrix⟩
def sc_impl_MulMatrix : SCode :=
 (.seq
 (.reg false [
 oX 4 (.box 3 1),
 oX 5 (.box 3 2),
 oX 6 (.alloc [zX, zX, .nil iX]),
 oX 7 (.mv (.k (.one (.v (.bool) (false)))))])
 (.seq
 (.seq
 (.reg false [
 oX 8 (.mv 0),
 oX 9 (.load true 3 4),
 oX 10 (.call .froz 43 [8, 9]),
 oX 11 (.un .not 10),
 oX 12 (.mv 11),
 ⟨(some 13), .mv 0, (some (12, false))⟩,
 ⟨(some 14), .load true 3 5, (some (12, false))⟩,
 ⟨(some 15), .call .froz 43 [13, 14], (some (12, false))⟩,
 ⟨(some 16), .un .not 15, (some (12, false))⟩,
 oX 17 (.pick 12 (.k (.one (.v (.bool) (true)))) 16),
 oX 18 (.mv 17),
 ⟨(some 19), .fieldA 1 4, (some (18, false))⟩,
 ⟨(some 20), .load false 1 19, (some (18, false))⟩,
 ⟨(some 21), .fieldA 0 5, (some (18, false))⟩,
 ⟨(some 22), .load false 1 21, (some (18, false))⟩,
 ⟨(some 23), .bin .neq 20 22, (some (18, false))⟩,
 oX 24 (.pick 18 (.k (.one (.v (.bool) (true)))) 23)])
 (.cond 24
 (.seq
 (.reg false [
 oX 25 (.build [zX, zX, .nil iX] []),
 uX (.store 3 6 25),
 oX 7 (.mv (.k (.one (.v (.bool) (false)))))])
 .ret)
 .skip))
 (.seq
 (.reg false [
 oX 26 (.mv 0),
 oX 27 (.load true 3 4),
 oX 28 (.load true 3 5),
 oX 29 (.call .froz 54 [26, 27, 28]),
 uX (.store 3 6 29),
 oX 7 (.mv (.k (.one (.v (.bool) (true)))))])
 .ret)))
def ms_impl_MulMatrix : List MRes := [.cell 6 3 true, .tmp 7]
theorem n_impl_MulMatrix (NN : Nat) (x : DLL (Sig.tys ag_impl_MulMatrix)) : runS NN [fn_impl_MatrixOk, fn_impl_rawMulMatrix] sc_impl_MulMatrix ms_impl_MulMatrix ag_impl_MulMatrix rs_impl_MulMatrix x = G_impl_MulMatrix NN x := by kernel_rfl
theorem k_impl_MulMatrix : chkS pX 30 sc_impl_MulMatrix.er ms_impl_MulMatrix 3 = true := by decide +kernel
theorem p_impl_MulMatrix : PureSpec pX 30 fn_impl_MulMatrix.M ∧ chkFun pX 30 = true :=
  pure_of_runS (T := [fn_impl_MatrixOk, fn_impl_rawMulMatrix]) (sc := sc_impl_MulMatrix) (ms := ms_impl_MulMatrix) (args := ag_impl_MulMatrix) (res := rs_impl_MulMatrix) (SOk.cons p_impl_MatrixOk <| SOk.cons p_impl_rawMulMatrix <| SOk.nil) follows_ok k_impl_MulMatrix F_impl_MulMatrix fun x y h => (n_impl_MulMatrix FUEL x).trans (f_impl_MulMatrix x y h)

def fn_impl_RankMatrix : SFn := ⟨19, ag_impl_RankMatrix, mu_impl_RankMatrix, rs_impl_RankMatrix, F_impl_RankMatrix⟩
def sc_impl_RankMatrix : SCode :=
 (.seq
 (.reg false [
 oX 3 (.box 3 1),
 oX 4 (.mv (kX 0))])
 (.seq
 (.seq
 (.reg false [
 oX 7 (.mv 0),
 oX 8 (.load true 3 3),
 oX 9 (.call .froz 43 [7, 8]),
 oX 10 (.un .not 9)])
 (.cond 10
 (.seq
 (.reg false [
 oX 4 (.mv (kX (-1)))])
 .ret)
 .skip))
 (.seq
 (.reg false [
 oX 12 (.mv 0),
 oX 13 (.load true 3 3),
 oX 14 (.call .froz 44 [12, 13]),
 oX 11 (.mv 14),
 oX 15 (.ext 0 11),
 oX 16 (.ext 1 11),
 oX 5 (.alloc [zX, zX, .nil iX]),
 uX (.store 3 5 15),
 oX 6 (.mv 16)])
 (.seq
 (.reg false [
 oX 17 (.mv 6),
 oX 18 (.len 17),
 oX 4 (.mv 18)])
 .ret))))
def ms_impl_RankMatrix : List MRes := [.tmp 4]
theorem n_impl_RankMatrix (NN : Nat) (x : DLL (Sig.tys ag_impl_RankMatrix)) : runS NN [fn_impl_MatrixOk, fn_impl_rawReduce] sc_impl_RankMatrix ms_impl_RankMatrix ag_impl_RankMatrix rs_impl_RankMatrix x = G_impl_RankMatrix NN x := by kernel_rfl
theorem k_impl_RankMatrix : chkS pX 19 sc_impl_RankMatrix.er ms_impl_RankMatrix 2 = true := by decide +kernel
theorem p_impl_RankMatrix : PureSpec pX 19 fn_impl_RankMatrix.M ∧ chkFun pX 19 = true :=
  pure_of_runS (T := [fn_impl_MatrixOk, fn_impl_rawReduce]) (sc := sc_impl_RankMatrix) (ms := ms_impl_RankMatrix) (args := ag_impl_RankMatrix) (res := rs_impl_RankMatrix) (SOk.cons p_impl_MatrixOk <| SOk.cons p_impl_rawReduce <| SOk.nil) follows_ok k_impl_RankMatrix F_impl_RankMatrix fun x y h => (n_impl_RankMatrix FUEL x).trans (f_impl_RankMatrix x y h)

def fn_laws_ints : SFn := ⟨18, ag_laws_ints, mu_laws_ints, rs_laws_ints, F_laws_ints⟩
def sc_laws_ints : SCode :=
 (.seq
 (.reg false [
 oX 4 (.mv (.k (.one (.v (.bool) (false)))))])
 (.seq
 (.seq
 (.reg false [
 oX 7 (.mv 0),
 oX 8 (.len 7),
 oX 9 (.mv (kX 0))])
 (.join ⟨[(0, .one (.c (.v (lX)))), (1, .one (.c (.v (lX))))], []⟩ [] []
 (.block 0
 (.loop 0 ⟨[(0, .one (.c (.v (lX)))), (1, .one (.c (.v (lX)))), (7, .one (.c (.v (lX)))), (8, sX), (9, sX)], []⟩ [] []
 (.seq
 (.reg false [
 oX 10 (.bin .lss 9 8)])
 (.seq
 (.cond 10
 .skip
 (.exit 0))
 (.seq
 (.block 1
 (.seq
 (.reg false [
 oX 11 (.mv 9),
 oX 12 (.idxA 1 7 9),
 oX 13 (.load false 1 12),
 oX 5 (.mv 11),
 oX 6 (.mv 13)])
 (.seq
 (.reg false [
 oX 14 (.mv 5),
 oX 15 (.mv 1),
 oX 16 (.len 15),
 oX 17 (.bin .geq 14 16),
 oX 18 (.mv 17),
 ⟨(some 19), .mv 1, (some (18, false))⟩,
 ⟨(some 20), .mv 5, (some (18, false))⟩,
 ⟨(some 21), .idxA 1 19 20, (some (18, false))⟩,
 ⟨(some 22), .load false 1 21, (some (18, false))⟩,
 ⟨(some 23), .mv 6, (some (18, false))⟩,
 ⟨(some 24), .bin .neq 22 23, (some (18, false))⟩,
 oX 25 (.pick 18 (.k (.one (.v (.bool) (true)))) 24)])
 (.cond 25
 (.seq
 (.reg false [
 oX 4 (.mv (.k (.one (.v (.bool) (false)))))])
 .ret)
 .skip))))
 (.reg false [
 oX 26 (.bin .add 9 (kX 1)),
 oX 9 (.mv 26)]))))))))
 (.seq
 (.reg false [
 oX 27 (.mv 0),
 oX 28 (.len 27),
 oX 29 (.mv 1),
 oX 30 (.len 29),
 oX 31 (.bin .eql 28 30),
 oX 4 (.mv 31)])
 .ret)))
def ms_laws_ints : List MRes := [.tmp 4]
theorem n_laws_ints (NN : Nat) (x : DLL (Sig.tys ag_laws_ints)) : runS NN [] sc_laws_ints ms_laws_ints ag_laws_ints rs_laws_ints x = G_laws_ints NN x := by kernel_rfl
theorem k_laws_ints : chkS pX 18 sc_laws_ints.er ms_laws_ints 2 = true := by decide +kernel
theorem p_laws_ints : PureSpec pX 18 fn_laws_ints.M ∧ chkFun pX 18 = true :=
  pure_of_runS (T := []) (sc := sc_laws_ints) (ms := ms_laws_ints) (args := ag_laws_ints) (res := rs_laws_ints) (SOk.nil) follows_ok k_laws_ints F_laws_ints fun x y h => (n_laws_ints FUEL x).trans (f_laws_ints x y h)

def fn_impl_rawTranspose : SFn := ⟨64, ag_impl_rawTranspose, mu_impl_rawTranspose, rs_impl_rawTranspose, F_impl_rawTranspose⟩
def sc_impl_rawTranspose : SCode :=
 (.seq
 (.reg false [
 oX 1 (.box 3 0),
 oX 2 (.alloc [zX, zX, .nil iX])])
 (.seq
 (.reg false [
 oX 6 (.fieldA 1 1),
 oX 7 (.load false 1 6),
 oX 8 (.fieldA 0 1),
 oX 9 (.load false 1 8),
 oX 10 (.call .froz 60 [7, 9]),
 oX 3 (.alloc [zX, zX, .nil iX]),
 uX (.store 3 3 10)])
 (.seq
 (.seq
 (.reg false [
 oX 4 (.mv (kX 0))])
 (.join ⟨[(3, .one (rX 3)), (2, .one (rX 2))], [(2, .box [vX, vX, fX 500006 1]), (3, .box [vX, vX, fX 500007 1]), (500006, .row true .froz iX), (500007, .row true .froz iX)]⟩ [1, 2, 3, 500000, 500001, 500006, 500007] [(true, 2, 2, 500006, .froz, []), (true, 3, 2, 500007, .froz, [])]
 (.block 0
 (.loop 0 ⟨[(1, .one (rX 1)), (2, .one (rX 2)), (3, .one (rX 3)), (4, sX)], [(1, .box [vX, vX, .c (.v (lX))]), (2, .box [vX, vX, fX 500000 1]), (3, .box [vX, vX, fX 500001 1]), (500000, .row true .froz iX), (500001, .row true .froz iX)]⟩ [1, 2, 11000, 3, 500000, 500001, 500004, 500005] [(true, 2, 2, 500000, .froz, []), (true, 3, 2, 500001, .froz, [])]
 (.seq
 (.seq
 (.reg false [
 oX 11 (.mv 4),
 oX 12 (.fieldA 0 1),
 oX 13 (.load false 1 12),
 oX 14 (.bin .lss 11 13)])
 (.cond 14
 .skip
 (.exit 0)))
 (.seq
 (.join ⟨[(4, sX), (1, .one (rX 1)), (2, .one (rX 2)), (3, .one (rX 3))], [(1, .box [vX, vX, .c (.v (lX))]), (2, .box [vX, vX, fX 500004 1]), (3, .box [vX, vX, fX 500005 1]), (500004, .row true .froz iX), (500005, .row true .froz iX)]⟩ [1, 2, 3, 500002, 500003, 500004, 500005] [(true, 2, 2, 500004, .froz, []), (true, 3, 2, 500005, .froz, [])]
 (.block 1
 (.seq
 (.reg false [
 oX 5 (.mv (kX 0))])
 (.block 2
 (.loop 0 ⟨[(1, .one (rX 1)), (2, .one (rX 2)), (3, .one (rX 3)), (4, sX), (5, sX)], [(1, .box [vX, vX, .c (.v (lX))]), (2, .box [vX, vX, fX 500002 1]), (3, .box [vX, vX, fX 500003 1]), (500002, .row true .froz iX), (500003, .row true .froz iX)]⟩ [1, 2, 3, 500000, 500001, 500002, 500003] [(true, 2, 2, 500002, .froz, []), (true, 3, 2, 500003, .froz, [])]
 (.seq
 (.seq
 (.reg false [
 oX 17 (.mv 5),
 oX 18 (.fieldA 1 1),
 oX 19 (.load false 1 18),
 oX 20 (.bin .lss 17 19)])
 (.cond 20
 .skip
 (.exit 2)))
 (.seq
 (.block 3
 (.reg true [
 oX 23 (.load true 3 3),
 oX 24 (.mv 5),
 oX 25 (.mv 4),
 oX 26 (.load true 3 1),
 oX 27 (.mv 4),
 oX 28 (.mv 5),
 oX 29 (.call .froz 62 [26, 27, 28]),
 oX 30 (.callm .froz 61 [23, 24, 25, 29])]))
 (.reg false [
 oX 21 (.mv 5),
 oX 22 (.bin .add 21 (kX 1)),
 oX 5 (.mv 22)]))))))))
 (.reg false [
 oX 15 (.mv 4),
 oX 16 (.bin .add 15 (kX 1)),
 oX 4 (.mv 16)])))))))
 (.seq
 (.reg false [
 oX 31 (.load true 3 3),
 uX (.store 3 2 31)])
 .ret))))
def ms_impl_rawTranspose : List MRes := [.cell 2 3 true]
theorem n_impl_rawTranspose (NN : Nat) (x : DLL (Sig.tys ag_impl_rawTranspose)) : runS NN [fn_impl_emptyMatrix, fn_impl_Matrix_at, fn_impl_Matrix_set] sc_impl_rawTranspose ms_impl_rawTranspose ag_impl_rawTranspose rs_impl_rawTranspose x = G_impl_rawTranspose NN x := by kernel_rfl
theorem k_impl_rawTranspose : chkS pX 64 sc_impl_rawTranspose.er ms_impl_rawTranspose 1 = true := by decide +kernel
theorem p_impl_rawTranspose : PureSpec pX 64 fn_impl_rawTranspose.M ∧ chkFun pX 64 = true :=
  pure_of_runS (T := [fn_impl_emptyMatrix, fn_impl_Matrix_at, fn_impl_Matrix_set]) (sc := sc_impl_rawTranspose) (ms := ms_impl_rawTranspose) (args := ag_impl_rawTranspose) (res := rs_impl_rawTranspose) (SOk.cons p_impl_emptyMatrix <| SOk.cons p_impl_Matrix_at <| SOk.consM p_impl_Matrix_set <| SOk.nil) follows_ok k_impl_rawTranspose F_impl_rawTranspose fun x y h => (n_impl_rawTranspose FUEL x).trans (f_impl_rawTranspose x y h)

def fn_impl_TransposeMatrix : SFn := ⟨31, ag_impl_TransposeMatrix, mu_impl_TransposeMatrix, rs_impl_TransposeMatrix, F_impl_TransposeMatrix⟩
def sc_impl_TransposeMatrix : SCode :=
 (.seq
 (.reg false [
 oX 3 (.box 3 1),
 oX 4 (.alloc [zX, zX, .nil iX])])
 (.seq
 (.seq
 (.reg false [
 oX 5 (.mv 0),
 oX 6 (.load true 3 3),
 oX 7 (.call .froz 43 [5, 6]),
 oX 8 (.un .not 7)])
 (.cond 8
 (.seq
 (.reg false [
 oX 9 (.build [zX, zX, .nil iX] []),
 uX (.store 3 4 9)])
 .ret)
 .skip))
 (.seq
 (.reg false [
 oX 10 (.load true 3 3),
 oX 11 (.call .froz 64 [10]),
 uX (.store 3 4 11)])
 .ret)))
def ms_impl_TransposeMatrix : List MRes := [.cell 4 3 true]
theorem n_impl_TransposeMatrix (NN : Nat) (x : DLL (Sig.tys ag_impl_TransposeMatrix)) : runS NN [fn_impl_MatrixOk, fn_impl_rawTranspose] sc_impl_TransposeMatrix ms_impl_TransposeMatrix ag_impl_TransposeMatrix rs_impl_TransposeMatrix x = G_impl_TransposeMatrix NN x := by kernel_rfl
theorem k_impl_TransposeMatrix : chkS pX 31 sc_impl_TransposeMatrix.er ms_impl_TransposeMatrix 2 = true := by decide +kernel
theorem p_impl_TransposeMatrix : PureSpec pX 31 fn_impl_TransposeMatrix.M ∧ chkFun pX 31 = true :=
  pure_of_runS (T := [fn_impl_MatrixOk, fn_impl_rawTranspose]) (sc := sc_impl_TransposeMatrix) (ms := ms_impl_TransposeMatrix) (args := ag_impl_TransposeMatrix) (res := rs_impl_TransposeMatrix) (SOk.cons p_impl_MatrixOk <| SOk.cons p_impl_rawTranspose <| SOk.nil) follows_ok k_impl_TransposeMatrix F_impl_TransposeMatrix fun x y h => (n_impl_TransposeMatrix FUEL x).trans (f_impl_TransposeMatrix x y h)

def fn_impl_Determinant : SFn := ⟨32, ag_impl_Determinant, mu_impl_Determinant, rs_impl_Determinant, F_impl_Determinant⟩
def sc_impl_Determinant : SCode :=
 (.seq
 (.reg false [
 oX 3 (.box 3 1),
 oX 4 (.mv (kX 0)),
 oX 5 (.mv (.k (.one (.v (.bool) (false)))))])
 (.seq
 (.seq
 (.reg false [
 oX 13 (.mv 0),
 oX 14 (.load true 3 3),
 oX 15 (.call .froz 43 [13, 14]),
 oX 16 (.un .not 15),
 oX 17 (.mv 16),
 ⟨(some 18), .fieldA 0 3, (some (17, false))⟩,
 ⟨(some 19), .load false 1 18, (some (17, false))⟩,
 ⟨(some 20), .fieldA 1 3, (some (17, false))⟩,
 ⟨(some 21), .load false 1 20, (some (17, false))⟩,
 ⟨(some 22), .bin .neq 19 21, (some (17, false))⟩,
 oX 23 (.pick 17 (.k (.one (.v (.bool) (true)))) 22)])
 (.cond 23
 (.seq
 (.reg false [
 oX 4 (.mv (kX 0)),
 oX 5 (.mv (.k (.one (.v (.bool) (false)))))])
 .ret)
 .skip))
 (.seq
 (.reg false [
 oX 24 (.load true 3 3),
 oX 25 (.call .froz 65 [24]),
 oX 6 (.alloc [zX, zX, .nil iX]),
 uX (.store 3 6 25)])
 (.seq
 (.reg false [
 oX 7 (.mv (kX 1))])
 (.seq
 (.seq
 (.reg false [
 oX 8 (.mv (kX 0))])
 (.join ⟨[(7, sX)], []⟩ [6, 500000] []
 (.block 0
 (.loop 0 ⟨[(0, sX), (6, .one (rX 6)), (7, sX), (8, sX)], [(6, .box [vX, vX, fX 500000 1]), (500000, .row true .froz iX)]⟩ [3, 26000, 6, 500000, 500005] [(true, 6, 2, 500000, .froz, [])]
 (.seq
 (.seq
 (.reg false [
 oX 26 (.mv 8),
 oX 27 (.fieldA 1 6),
 oX 28 (.load false 1 27),
 oX 29 (.bin .lss 26 28)])
 (.cond 29
 .skip
 (.exit 0)))
 (.seq
 (.join ⟨[(8, sX), (0, sX), (6, .one (rX 6)), (7, sX)], [(6, .box [vX, vX, fX 500005 1]), (500005, .row true .froz iX)]⟩ [6, 500004, 500005] [(true, 6, 2, 500005, .froz, [])]
 (.block 1
 (.seq
 (.reg false [
 oX 32 (.mv 8),
 oX 9 (.mv 32)])
 (.seq
 (.join ⟨[(9, sX), (7, sX), (6, .one (rX 6)), (0, sX), (8, sX)], [(6, .box [vX, vX, fX 500002 1]), (500002, .row true .froz iX)]⟩ [6, 500001, 500002] [(true, 6, 2, 500002, .froz, [])]
 (.block 2
 (.loop 0 ⟨[(0, sX), (6, .one (rX 6)), (7, sX), (8, sX), (9, sX)], [(6, .box [vX, vX, fX 500001 1]), (500001, .row true .froz iX)]⟩ [6, 500000, 500001] [(true, 6, 2, 500001, .froz, [])]
 (.seq
 (.seq
 (.reg false [
 oX 33 (.mv 9),
 oX 34 (.fieldA 0 6),
 oX 35 (.load false 1 34),
 oX 36 (.bin .lss 33 35),
 oX 37 (.mv 36),
 ⟨(some 38), .load true 3 6, (some (37, true))⟩,
 ⟨(some 39), .mv 9, (some (37, true))⟩,
 ⟨(some 40), .mv 8, (some (37, true))⟩,
 ⟨(some 41), .call .froz 62 [38, 39, 40], (some (37, true))⟩,
 ⟨(some 42), .bin .eql 41 (kX 0), (some (37, true))⟩,
 oX 43 (.pick 37 42 (.k (.one (.v (.bool) (false)))))])
 (.cond 43
 .skip
 (.exit 2)))
 (.block 3
 (.reg false [
 oX 44 (.mv 9),
 oX 45 (.bin .add 44 (kX 1)),
 oX 9 (.mv 45)]))))))
 (.seq
 (.seq
 (.reg false [
 oX 46 (.mv 9),
 oX 47 (.fieldA 0 6),
 oX 48 (.load false 1 47),
 oX 49 (.bin .eql 46 48)])
 (.cond 49
 (.seq
 (.reg false [
 oX 4 (.mv (kX 0)),
 oX 5 (.mv (.k (.one (.v (.bool) (true)))))])
 .ret)
 .skip))
 (.seq
 (.seq
 (.reg false [
 oX 50 (.mv 9),
 oX 51 (.mv 8),
 oX 52 (.bin .neq 50 51)])
 (.join ⟨[(7, sX), (6, .one (rX 6)), (0, sX), (8, sX)], [(6, .box [vX, vX, fX 500003 1]), (500003, .row true .froz iX)]⟩ [6, 500002, 500003] [(true, 6, 2, 500003, .froz, [])]
 (.cond 52
 (.seq
 (.reg false [
 oX 53 (.load true 3 6),
 oX 54 (.mv 9),
 oX 55 (.mv 8),
 oX 56 (.callm .froz 66 [53, 54, 55])])
 (.reg false [
 oX 57 (.mv 0),
 oX 58 (.mv 7),
 oX 59 (.bin .sub 57 58),
 oX 60 (.mv 0),
 oX 61 (.bin .rem 59 60),
 oX 7 (.mv 61)]))
 .skip)))
 (.seq
 (.reg false [
 oX 62 (.mv 7),
 oX 63 (.load true 3 6),
 oX 64 (.mv 8),
 oX 65 (.mv 8),
 oX 66 (.call .froz 62 [63, 64, 65]),
 oX 67 (.bin .mul 62 66),
 oX 68 (.mv 0),
 oX 69 (.bin .rem 67 68),
 oX 7 (.mv 69)])
 (.seq
 (.reg false [
 oX 70 (.mv 0),
 oX 71 (.load true 3 6),
 oX 72 (.mv 8),
 oX 73 (.mv 8),
 oX 74 (.call .froz 62 [71, 72, 73]),
 oX 75 (.call .froz 67 [70, 74]),
 oX 10 (.mv 75)])
 (.seq
 (.reg false [
 oX 76 (.mv 8),
 oX 77 (.bin .add 76 (kX 1)),
 oX 11 (.mv 77)])
 (.block 4
 (.loop 0 ⟨[(0, sX), (6, .one (rX 6)), (7, sX), (8, sX), (10, sX), (11, sX)], [(6, .box [vX, vX, fX 500004 1]), (500004, .row true .froz iX)]⟩ [6, 500003, 500004] [(true, 6, 2, 500004, .froz, [])]
 (.seq
 (.seq
 (.reg false [
 oX 78 (.mv 11),
 oX 79 (.fieldA 0 6),
 oX 80 (.load false 1 79),
 oX 81 (.bin .lss 78 80)])
 (.cond 81
 .skip
 (.exit 4)))
 (.seq
 (.block 5
 (.seq
 (.reg false [
 oX 84 (.load true 3 6),
 oX 85 (.mv 11),
 oX 86 (.mv 8),
 oX 87 (.call .froz 62 [84, 85, 86]),
 oX 88 (.mv 10),
 oX 89 (.bin .mul 87 88),
 oX 90 (.mv 0),
 oX 91 (.bin .rem 89 90),
 oX 12 (.mv 91)])
 (.reg true [
 oX 92 (.load true 3 6),
 oX 93 (.mv 0),
 oX 94 (.mv 11),
 oX 95 (.mv 8),
 oX 96 (.mv 0),
 oX 97 (.mv 12),
 oX 98 (.bin .sub 96 97),
 oX 99 (.mv 0),
 oX 100 (.bin .rem 98 99),
 oX 101 (.callm .froz 68 [92, 93, 94, 95, 100])])))
 (.reg false [
 oX 82 (.mv 11),
 oX 83 (.bin .add 82 (kX 1)),
 oX 11 (.mv 83)]))))))))))))))
 (.reg false [
 oX 30 (.mv 8),
 oX 31 (.bin .add 30 (kX 1)),
 oX 8 (.mv 31)])))))))
 (.seq
 (.reg false [
 oX 102 (.mv 7),
 oX 4 (.mv 102),
 oX 5 (.mv (.k (.one (.v (.bool) (true)))))])
 .ret))))))
def ms_impl_Determinant : List MRes := [.tmp 4, .tmp 5]
theorem n_impl_Determinant (NN : Nat) (x : DLL (Sig.tys ag_impl_Determinant)) : runS NN [fn_impl_MatrixOk, fn_impl_copyMatrix, fn_impl_Matrix_at, fn_impl_Matrix_swapRows, fn_impl_rawInverse, fn_impl_Matrix_addRow] sc_impl_Determinant ms_impl_Determinant ag_impl_Determinant rs_impl_Determinant x = G_impl_Determinant NN x := by kernel_rfl
theorem k_impl_Determinant : chkS pX 32 sc_impl_Determinant.er ms_impl_Determinant 2 = true := by decide +kernel
theorem p_impl_Determinant : PureSpec pX 32 fn_impl_Determinant.M ∧ chkFun pX 32 = true :=
  pure_of_runS (T := [fn_impl_MatrixOk, fn_impl_copyMatrix, fn_impl_Matrix_at, fn_impl_Matrix_swapRows, fn_impl_rawInverse, fn_impl_Matrix_addRow]) (sc := sc_impl_Determinant) (ms := ms_impl_Determinant) (args := ag_impl_Determinant) (res := rs_impl_Determinant) (SOk.cons p_impl_MatrixOk <| SOk.cons p_impl_copyMatrix <| SOk.cons p_impl_Matrix_at <| SOk.consM p_impl_Matrix_swapRows <| SOk.cons p_impl_rawInverse <| SOk.consM p_impl_Matrix_addRow <| SOk.nil) follows_ok k_impl_Determinant F_impl_Determinant fun x y h => (n_impl_Determinant FUEL x).trans (f_impl_Determinant x y h)

def fn_impl_InverseMatrix : SFn := ⟨33, ag_impl_InverseMatrix, mu_impl_InverseMatrix, rs_impl_InverseMatrix, F_impl_InverseMatrix⟩
def sc_impl_InverseMatrix : SCode :=
 (.seq
 (.reg false [
 oX 3 (.box 3 1),
 oX 4 (.alloc [zX, zX, .nil iX]),
 oX 5 (.mv (.k (.one (.v (.bool) (false)))))])
 (.seq
 (.seq
 (.reg false [
 oX 15 (.mv 0),
 oX 16 (.load true 3 3),
 oX 17 (.call .froz 43 [15, 16]),
 oX 18 (.un .not 17),
 oX 19 (.mv 18),
 ⟨(some 20), .fieldA 0 3, (some (19, false))⟩,
 ⟨(some 21), .load false 1 20, (some (19, false))⟩,
 ⟨(some 22), .fieldA 1 3, (some (19, false))⟩,
 ⟨(some 23), .load false 1 22, (some (19, false))⟩,
 ⟨(some 24), .bin .neq 21 23, (some (19, false))⟩,
 oX 25 (.pick 19 (.k (.one (.v (.bool) (true)))) 24)])
 (.cond 25
 (.seq
 (.reg false [
 oX 26 (.build [zX, zX, .nil iX] []),
 uX (.store 3 4 26),
 oX 5 (.mv (.k (.one (.v (.bool) (false)))))])
 .ret)
 .skip))
 (.seq
 (.reg false [
 oX 27 (.fieldA 0 3),
 oX 28 (.load false 1 27),
 oX 6 (.mv 28)])
 (.seq
 (.reg false [
 oX 29 (.mv 6),
 oX 30 (.mv 6),
 oX 31 (.bin .mul (kX 2) 30),
 oX 32 (.call .froz 60 [29, 31]),
 oX 7 (.alloc [zX, zX, .nil iX]),
 uX (.store 3 7 32)])
 (.seq
 (.seq
 (.reg false [
 oX 8 (.mv (kX 0))])
 (.join ⟨[(0, sX), (7, .one (rX 7)), (4, .one (rX 4)), (6, sX)], [(4, .box [vX, vX, fX 500008 1]), (7, .box [vX, vX, fX 500009 1]), (500008, .row true .froz iX), (500009, .row true .froz iX)]⟩ [3, 4, 7, 500000, 500001, 500008, 500009] [(true, 4, 2, 500008, .froz, []), (true, 7, 2, 500009, .froz, [])]
 (.block 0
 (.loop 0 ⟨[(0, sX), (3, .one (rX 3)), (4, .one (rX 4)), (6, sX), (7, .one (rX 7)), (8, sX)], [(3, .box [vX, vX, .c (.v (lX))]), (4, .box [vX, vX, fX 500000 1]), (7, .box [vX, vX, fX 500001 1]), (500000, .row true .froz iX), (500001, .row true .froz iX)]⟩ [3, 4, 33000, 7, 500000, 500001, 500006, 500007] [(true, 4, 2, 500000, .froz, []), (true, 7, 2, 500001, .froz, [])]
 (.seq
 (.seq
 (.reg false [
 oX 33 (.mv 8),
 oX 34 (.mv 6),
 oX 35 (.bin .lss 33 34)])
 (.cond 35
 .skip
 (.exit 0)))
 (.seq
 (.join ⟨[(8, sX), (0, sX), (3, .one (rX 3)), (4, .one (rX 4)), (6, sX), (7, .one (rX 7))], [(3, .box [vX, vX, .c (.v (lX))]), (4, .box [vX, vX, fX 500006 1]), (7, .box [vX, vX, fX 500007 1]), (500006, .row true .froz iX), (500007, .row true .froz iX)]⟩ [3, 4, 7, 500004, 500005, 500006, 500007] [(true, 4, 2, 500006, .froz, []), (true, 7, 2, 500007, .froz, [])]
 (.block 1
 (.seq
 (.seq
 (.reg false [
 oX 9 (.mv (kX 0))])
 (.join ⟨[(8, sX), (0, sX), (3, .one (rX 3)), (4, .one (rX 4)), (6, sX), (7, .one (rX 7))], [(3, .box [vX, vX, .c (.v (lX))]), (4, .box [vX, vX, fX 500004 1]), (7, .box [vX, vX, fX 500005 1]), (500004, .row true .froz iX), (500005, .row true .froz iX)]⟩ [3, 4, 7, 500002, 500003, 500004, 500005] [(true, 4, 2, 500004, .froz, []), (true, 7, 2, 500005, .froz, [])]
 (.block 2
 (.loop 0 ⟨[(0, sX), (3, .one (rX 3)), (4, .one (rX 4)), (6, sX), (7, .one (rX 7)), (8, sX), (9, sX)], [(3, .box [vX, vX, .c (.v (lX))]), (4, .box [vX, vX, fX 500002 1]), (7, .box [vX, vX, fX 500003 1]), (500002, .row true .froz iX), (500003, .row true .froz iX)]⟩ [3, 4, 7, 500000, 500001, 500002, 500003] [(true, 4, 2, 500002, .froz, []), (true, 7, 2, 500003, .froz, [])]
 (.seq
 (.seq
 (.reg false [
 oX 38 (.mv 9),
 oX 39 (.mv 6),
 oX 40 (.bin .lss 38 39)])
 (.cond 40
 .skip
 (.exit 2)))
 (.seq
 (.block 3
 (.reg true [
 oX 43 (.load true 3 7),
 oX 44 (.mv 8),
 oX 45 (.mv 9),
 oX 46 (.load true 3 3),
 oX 47 (.mv 8),
 oX 48 (.mv 9),
 oX 49 (.call .froz 62 [46, 47, 48]),
 oX 50 (.callm .froz 61 [43, 44, 45, 49])]))
 (.reg false [
 oX 41 (.mv 9),
 oX 42 (.bin .add 41 (kX 1)),
 oX 9 (.mv 42)])))))))
 (.reg false [
 oX 51 (.load true 3 7),
 oX 52 (.mv 8),
 oX 53 (.mv 6),
 oX 54 (.mv 8),
 oX 55 (.bin .add 53 54),
 oX 56 (.callm .froz 61 [51, 52, 55, (kX 1)])]))))
 (.reg false [
 oX 36 (.mv 8),
 oX 37 (.bin .add 36 (kX 1)),
 oX 8 (.mv 37)])))))))
 (.seq
 (.reg false [
 oX 58 (.mv 0),
 oX 59 (.load true 3 7),
 oX 60 (.call .froz 44 [58, 59]),
 oX 57 (.mv 60),
 oX 61 (.ext 0 57),
 oX 62 (.ext 1 57),
 oX 10 (.alloc [zX, zX, .nil iX]),
 uX (.store 3 10 61),
 oX 11 (.mv 62)])
 (.seq
 (.reg false [
 oX 63 (.mv 6),
 oX 64 (.mv 6),
 oX 65 (.call .froz 60 [63, 64]),
 oX 12 (.alloc [zX, zX, .nil iX]),
 uX (.store 3 12 65)])
 (.seq
 (.seq
 (.reg false [
 oX 13 (.mv (kX 0))])
 (.join ⟨[(12, .one (rX 12)), (4, .one (rX 4))], [(4, .box [vX, vX, fX 500022 1]), (12, .box [vX, vX, fX 500023 1]), (500022, .row true .froz iX), (500023, .row true .froz iX)]⟩ [4, 10, 12, 500010, 500011, 500012, 500013, 500022, 500023] [(true, 4, 2, 500022, .froz, []), (true, 12, 2, 500023, .froz, [])]
 (.block 4
 (.loop 0 ⟨[(4, .one (rX 4)), (6, sX), (10, .one (rX 10)), (11, .one (fX 500013 1)), (12, .one (rX 12)), (13, sX)], [(4, .box [vX, vX, fX 500010 1]), (10, .box [vX, vX, fX 500011 1]), (12, .box [vX, vX, fX 500012 1]), (500010, .row true .froz iX), (500011, .row true .froz iX), (500012, .row true .froz iX), (500013, .row true .froz iX)]⟩ [4, 7, 61000, 61001, 10, 66000, 12, 500008, 500009, 500010, 500011, 500012, 500013, 500018, 500019, 500020, 500021] [(true, 4, 2, 500010, .froz, []), (true, 10, 2, 500011, .froz, []), (true, 12, 2, 500012, .froz, []), (false, 11, 0, 500013, .froz, [])]
 (.seq
 (.seq
 (.reg false [
 oX 66 (.mv 13),
 oX 67 (.mv 6),
 oX 68 (.bin .lss 66 67)])
 (.cond 68
 .skip
 (.exit 4)))
 (.seq
 (.join ⟨[(13, sX), (4, .one (rX 4)), (6, sX), (10, .one (rX 10)), (11, .one (fX 500021 1)), (12, .one (rX 12))], [(4, .box [vX, vX, fX 500018 1]), (10, .box [vX, vX, fX 500019 1]), (12, .box [vX, vX, fX 500020 1]), (500018, .row true .froz iX), (500019, .row true .froz iX), (500020, .row true .froz iX), (500021, .row true .froz iX)]⟩ [4, 10, 12, 500014, 500015, 500016, 500017, 500018, 500019, 500020, 500021] [(true, 4, 2, 500018, .froz, []), (true, 10, 2, 500019, .froz, []), (true, 12, 2, 500020, .froz, []), (false, 11, 0, 500021, .froz, [])]
 (.block 5
 (.seq
 (.seq
 (.reg false [
 oX 71 (.mv 11),
 oX 72 (.mv 13),
 oX 73 (.idxA 1 71 72),
 oX 74 (.load false 1 73),
 oX 75 (.mv 13),
 oX 76 (.bin .neq 74 75)])
 (.cond 76
 (.seq
 (.reg false [
 oX 77 (.build [zX, zX, .nil iX] []),
 uX (.store 3 4 77),
 oX 5 (.mv (.k (.one (.v (.bool) (false)))))])
 .ret)
 .skip))
 (.seq
 (.reg false [
 oX 14 (.mv (kX 0))])
 (.block 6
 (.loop 0 ⟨[(4, .one (rX 4)), (6, sX), (10, .one (rX 10)), (11, .one (fX 500017 1)), (12, .one (rX 12)), (13, sX), (14, sX)], [(4, .box [vX, vX, fX 500014 1]), (10, .box [vX, vX, fX 500015 1]), (12, .box [vX, vX, fX 500016 1]), (500014, .row true .froz iX), (500015, .row true .froz iX), (500016, .row true .froz iX), (500017, .row true .froz iX)]⟩ [4, 10, 12, 500010, 500011, 500012, 500013, 500014, 500015, 500016, 500017] [(true, 4, 2, 500014, .froz, []), (true, 10, 2, 500015, .froz, []), (true, 12, 2, 500016, .froz, []), (false, 11, 0, 500017, .froz, [])]
 (.seq
 (.seq
 (.reg false [
 oX 78 (.mv 14),
 oX 79 (.mv 6),
 oX 80 (.bin .lss 78 79)])
 (.cond 80
 .skip
 (.exit 6)))
 (.seq
 (.block 7
 (.reg true [
 oX 83 (.load true 3 12),
 oX 84 (.mv 13),
 oX 85 (.mv 14),
 oX 86 (.load true 3 10),
 oX 87 (.mv 13),
 oX 88 (.mv 6),
 oX 89 (.mv 14),
 oX 90 (.bin .add 88 89),
 oX 91 (.call .froz 62 [86, 87, 90]),
 oX 92 (.callm .froz 61 [83, 84, 85, 91])]))
 (.reg false [
 oX 81 (.mv 14),
 oX 82 (.bin .add 81 (kX 1)),
 oX 14 (.mv 82)])))))))))
 (.reg false [
 oX 69 (.mv 13),
 oX 70 (.bin .add 69 (kX 1)),
 oX 13 (.mv 70)])))))))
 (.seq
 (.reg false [
 oX 93 (.load true 3 12),
 uX (.store 3 4 93),
 oX 5 (.mv (.k (.one (.v (.bool) (true)))))])
 .ret)))))))))
def ms_impl_InverseMatrix : List MRes := [.cell 4 3 true, .tmp 5]
theorem n_impl_InverseMatrix (NN : Nat) (x : DLL (Sig.tys ag_impl_InverseMatrix)) : runS NN [fn_impl_MatrixOk, fn_impl_emptyMatrix, fn_impl_Matrix_at, fn_impl_Matrix_set, fn_impl_rawReduce] sc_impl_InverseMatrix ms_impl_InverseMatrix ag_impl_InverseMatrix rs_impl_InverseMatrix x = G_impl_InverseMatrix NN x := by kernel_rfl
theorem k_impl_InverseMatrix : chkS pX 33 sc_impl_InverseMatrix.er ms_impl_InverseMatrix 2 = true := by decide +kernel
theorem p_impl_InverseMatrix : PureSpec pX 33 fn_impl_InverseMatrix.M ∧ chkFun pX 33 = true :=
  pure_of_runS (T := [fn_impl_MatrixOk, fn_impl_emptyMatrix, fn_impl_Matrix_at, fn_impl_Matrix_set, fn_impl_rawReduce]) (sc := sc_impl_InverseMatrix) (ms := ms_impl_InverseMatrix) (args := ag_impl_InverseMatrix) (res := rs_impl_InverseMatrix) (SOk.cons p_impl_MatrixOk <| SOk.cons p_impl_emptyMatrix <| SOk.cons p_impl_Matrix_at <| SOk.consM p_impl_Matrix_set <| SOk.cons p_impl_rawReduce <| SOk.nil) follows_ok k_impl_InverseMatrix F_impl_InverseMatrix fun x y h => (n_impl_InverseMatrix FUEL x).trans (f_impl_InverseMatrix x y h)

def fn_laws_FnMatrices : SFn := ⟨7, ag_laws_FnMatrices, mu_laws_FnMatrices, rs_laws_FnMatrices, F_laws_FnMatrices⟩
def sc_laws_FnMatrices : SCode :=
 (.seq
 (.reg false [
 oX 2 (.mv (.k (.one (.v (.bool) (false)))))])
 (.seq
 (.seq
 (.reg false [
 oX 26 (.mv 0),
 oX 27 (.len 26),
 oX 28 (.bin .gtr 27 (kX 1048576))])
 (.cond 28
 (.seq
 (.reg false [
 oX 2 (.mv (.k (.one (.v (.bool) (true)))))])
 .ret)
 .skip))
 (.seq
 (.reg false [
 oX 29 (.mv 0),
 oX 30 (.callb 15 [29, (kX 0)]),
 oX 3 (.mv 30)])
 (.seq
 (.reg false [
 oX 31 (.mv 0),
 oX 32 (.mv 3),
 oX 33 (.mv 0),
 oX 34 (.callb 11 [33, (kX 2), (kX 0), (kX 4)]),
 oX 35 (.mv 0),
 oX 36 (.callb 11 [35, (kX 4), (kX 0), (kX 4)]),
 oX 37 (.callb 16 [31, (kX 10), 32, 34, 36]),
 oX 4 (.alloc [zX, zX, .nil iX]),
 uX (.store 3 4 37)])
 (.seq
 (.reg false [
 oX 39 (.mv 3),
 oX 40 (.load true 3 4),
 oX 41 (.call .froz 29 [39, 40]),
 oX 38 (.mv 41),
 oX 42 (.ext 0 38),
 oX 43 (.ext 1 38),
 oX 44 (.ext 2 38),
 oX 5 (.alloc [zX, zX, .nil iX]),
 oX 6 (.alloc [zX, zX, .nil iX]),
 uX (.store 3 5 42),
 uX (.store 3 6 43),
 oX 7 (.mv 44)])
 (.seq
 (.reg false [
 oX 46 (.mv 3),
 oX 47 (.load true 3 5),
 oX 48 (.load true 3 6),
 oX 49 (.call .froz 30 [46, 47, 48]),
 oX 45 (.mv 49),
 oX 50 (.ext 0 45),
 oX 51 (.ext 1 45),
 oX 8 (.alloc [zX, zX, .nil iX]),
 uX (.store 3 8 50),
 oX 9 (.mv 51)])
 (.seq
 (.reg false [
 oX 52 (.mv 3),
 oX 53 (.load true 3 4),
 oX 54 (.call .froz 19 [52, 53]),
 oX 10 (.mv 54)])
 (.seq
 (.seq
 (.reg false [
 oX 55 (.mv 7),
 oX 56 (.un .not 55),
 oX 57 (.mv 56),
 ⟨(some 58), .mv 9, (some (57, false))⟩,
 ⟨(some 59), .un .not 58, (some (57, false))⟩,
 oX 60 (.pick 57 (.k (.one (.v (.bool) (true)))) 59),
 oX 61 (.mv 60),
 ⟨(some 62), .fieldA 0 8, (some (61, false))⟩,
 ⟨(some 63), .load false 1 62, (some (61, false))⟩,
 ⟨(some 64), .fieldA 0 4, (some (61, false))⟩,
 ⟨(some 65), .load false 1 64, (some (61, false))⟩,
 ⟨(some 66), .bin .neq 63 65, (some (61, false))⟩,
 oX 67 (.pick 61 (.k (.one (.v (.bool) (true)))) 66),
 oX 68 (.mv 67),
 ⟨(some 69), .fieldA 1 8, (some (68, false))⟩,
 ⟨(some 70), .load false 1 69, (some (68, false))⟩,
 ⟨(some 71), .fieldA 1 4, (some (68, false))⟩,
 ⟨(some 72), .load false 1 71, (some (68, false))⟩,
 ⟨(some 73), .bin .neq 70 72, (some (68, false))⟩,
 oX 74 (.pick 68 (.k (.one (.v (.bool) (true)))) 73),
 oX 75 (.mv 74),
 ⟨(some 76), .fieldA 2 8, (some (75, false))⟩,
 ⟨(some 77), .load false 1 76, (some (75, false))⟩,
 ⟨(some 78), .fieldA 2 4, (some (75, false))⟩,
 ⟨(some 79), .load false 1 78, (some (75, false))⟩,
 ⟨(some 80), .call .froz 18 [77, 79], (some (75, false))⟩,
 ⟨(some 81), .un .not 80, (some (75, false))⟩,
 oX 82 (.pick 75 (.k (.one (.v (.bool) (true)))) 81),
 oX 83 (.mv 82),
 ⟨(some 84), .fieldA 1 5, (some (83, false))⟩,
 ⟨(some 85), .load false 1 84, (some (83, false))⟩,
 ⟨(some 86), .mv 10, (some (83, false))⟩,
 ⟨(some 87), .bin .neq 85 86, (some (83, false))⟩,
 oX 88 (.pick 83 (.k (.one (.v (.bool) (true)))) 87),
 oX 89 (.mv 88),
 ⟨(some 90), .fieldA 0 6, (some (89, false))⟩,
 ⟨(some 91), .load false 1 90, (some (89, false))⟩,
 ⟨(some 92), .mv 10, (some (89, false))⟩,
 ⟨(some 93), .bin .neq 91 92, (some (89, false))⟩,
 oX 94 (.pick 89 (.k (.one (.v (.bool) (true)))) 93),
 oX 95 (.mv 94),
 ⟨(some 96), .mv 3, (some (95, false))⟩,
 ⟨(some 97), .mv 3, (some (95, false))⟩,
 ⟨(some 98), .load true 3 4, (some (95, false))⟩,
 ⟨(some 99), .call .froz 31 [97, 98], (some (95, false))⟩,
 ⟨(some 100), .call .froz 19 [96, 99], (some (95, false))⟩,
 ⟨(some 101), .mv 10, (some (95, false))⟩,
 ⟨(some 102), .bin .neq 100 101, (some (95, false))⟩,
 oX 103 (.pick 95 (.k (.one (.v (.bool) (true)))) 102)])
 (.cond 103
 (.seq
 (.reg false [
 oX 2 (.mv (.k (.one (.v (.bool) (false)))))])
 .ret)
 .skip))
 (.seq
 (.reg false [
 oX 104 (.mv 0),
 oX 105 (.callb 11 [104, (kX 6), (kX 0), (kX 4)]),
 oX 11 (.mv 105)])
 (.seq
 (.reg false [
 oX 106 (.mv 0),
 oX 107 (.mv 3),
 oX 108 (.mv 11),
 oX 109 (.mv 11),
 oX 110 (.callb 16 [106, (kX 60), 107, 108, 109]),
 oX 12 (.alloc [zX, zX, .nil iX]),
 uX (.store 3 12 110)])
 (.seq
 (.reg false [
 oX 111 (.mv 0),
 oX 112 (.mv 3),
 oX 113 (.mv 11),
 oX 114 (.mv 11),
 oX 115 (.callb 16 [111, (kX 110), 112, 113, 114]),
 oX 13 (.alloc [zX, zX, .nil iX]),
 uX (.store 3 13 115)])
 (.seq
 (.reg false [
 oX 117 (.mv 3),
 oX 118 (.load true 3 12),
 oX 119 (.load true 3 13),
 oX 120 (.call .froz 30 [117, 118, 119]),
 oX 116 (.mv 120),
 oX 121 (.ext 0 116),
 oX 122 (.ext 1 116),
 oX 14 (.alloc [zX, zX, .nil iX]),
 uX (.store 3 14 121),
 oX 15 (.mv 122)])
 (.seq
 (.reg false [
 oX 124 (.mv 3),
 oX 125 (.load true 3 12),
 oX 126 (.call .froz 32 [124, 125]),
 oX 123 (.mv 126),
 oX 127 (.ext 0 123),
 oX 128 (.ext 1 123),
 oX 16 (.mv 127),
 oX 17 (.mv 128)])
 (.seq
 (.reg false [
 oX 130 (.mv 3),
 oX 131 (.load true 3 13),
 oX 132 (.call .froz 32 [130, 131]),
 oX 129 (.mv 132),
 oX 133 (.ext 0 129),
 oX 134 (.ext 1 129),
 oX 18 (.mv 133),
 oX 19 (.mv 134)])
 (.seq
 (.reg false [
 oX 136 (.mv 3),
 oX 137 (.load true 3 14),
 oX 138 (.call .froz 32 [136, 137]),
 oX 135 (.mv 138),
 oX 139 (.ext 0 135),
 oX 140 (.ext 1 135),
 oX 20 (.mv 139),
 oX 21 (.mv 140)])
 (.seq
 (.reg false [
 oX 142 (.mv 3),
 oX 143 (.load true 3 12),
 oX 144 (.call .froz 33 [142, 143]),
 oX 141 (.mv 144),
 oX 145 (.ext 0 141),
 oX 146 (.ext 1 141),
 oX 22 (.alloc [zX, zX, .nil iX]),
 uX (.store 3 22 145),
 oX 23 (.mv 146)])
 (.seq
 (.seq
 (.reg false [
 oX 147 (.mv 15),
 oX 148 (.un .not 147),
 oX 149 (.mv 148),
 ⟨(some 150), .mv 17, (some (149, false))⟩,
 ⟨(some 151), .un .not 150, (some (149, false))⟩,
 oX 152 (.pick 149 (.k (.one (.v (.bool) (true)))) 151),
 oX 153 (.mv 152),
 ⟨(some 154), .mv 19, (some (153, false))⟩,
 ⟨(some 155), .un .not 154, (some (153, false))⟩,
 oX 156 (.pick 153 (.k (.one (.v (.bool) (true)))) 155),
 oX 157 (.mv 156),
 ⟨(some 158), .mv 21, (some (157, false))⟩,
 ⟨(some 159), .un .not 158, (some (157, false))⟩,
 oX 160 (.pick 157 (.k (.one (.v (.bool) (true)))) 159),
 oX 161 (.mv 160),
 ⟨(some 162), .mv 20, (some (161, false))⟩,
 ⟨(some 163), .mv 16, (some (161, false))⟩,
 ⟨(some 164), .mv 18, (some (161, false))⟩,
 ⟨(some 165), .bin .mul 163 164, (some (161, false))⟩,
 ⟨(some 166), .mv 3, (some (161, false))⟩,
 ⟨(some 167), .bin .rem 165 166, (some (161, false))⟩,
 ⟨(some 168), .bin .neq 162 167, (some (161, false))⟩,
 oX 169 (.pick 161 (.k (.one (.v (.bool) (true)))) 168),
 oX 170 (.mv 169),
 ⟨(some 171), .mv 23, (some (170, false))⟩,
 ⟨(some 172), .mv 16, (some (170, false))⟩,
 ⟨(some 173), .bin .neq 172 (kX 0), (some (170, false))⟩,
 ⟨(some 174), .binb .neq 171 173, (some (170, false))⟩,
 oX 175 (.pick 170 (.k (.one (.v (.bool) (true)))) 174),
 oX 176 (.mv 175),
 ⟨(some 177), .mv 23, (some (176, false))⟩,
 ⟨(some 178), .mv 3, (some (176, false))⟩,
 ⟨(some 179), .load true 3 12, (some (176, false))⟩,
 ⟨(some 180), .call .froz 19 [178, 179], (some (176, false))⟩,
 ⟨(some 181), .mv 11, (some (176, false))⟩,
 ⟨(some 182), .bin .eql 180 181, (some (176, false))⟩,
 ⟨(some 183), .binb .neq 177 182, (some (176, false))⟩,
 oX 184 (.pick 176 (.k (.one (.v (.bool) (true)))) 183)])
 (.cond 184
 (.seq
 (.reg false [
 oX 2 (.mv (.k (.one (.v (.bool) (false)))))])
 .ret)
 .skip))
 (.seq
 (.reg false [
 oX 186 (.mv 3),
 oX 187 (.load true 3 22),
 oX 188 (.load true 3 14),
 oX 189 (.call .froz 30 [186, 187, 188]),
 oX 185 (.mv 189),
 oX 190 (.ext 0 185),
 oX 191 (.ext 1 185),
 oX 24 (.alloc [zX, zX, .nil iX]),
 uX (.store 3 24 190),
 oX 25 (.mv 191)])
 (.seq
 (.reg false [
 oX 192 (.mv 23),
 oX 193 (.un .not 192),
 oX 194 (.mv 193),
 ⟨(some 195), .mv 25, (some (194, false))⟩,
 ⟨(some 196), .mv 195, (some (194, false))⟩,
 ⟨(some 197), .fieldA 2 24, (some (196, true))⟩,
 ⟨(some 198), .load false 1 197, (some (196, true))⟩,
 ⟨(some 199), .fieldA 2 13, (some (196, true))⟩,
 ⟨(some 200), .load false 1 199, (some (196, true))⟩,
 ⟨(some 201), .call .froz 18 [198, 200], (some (196, true))⟩,
 ⟨(some 202), .pick 196 201 (.k (.one (.v (.bool) (false)))), (some (194, false))⟩,
 oX 203 (.pick 194 (.k (.one (.v (.bool) (true)))) 202),
 oX 2 (.mv 203)])
 .ret)))))))))))))))))))
def ms_laws_FnMatrices : List MRes := [.tmp 2]
theorem n_laws_FnMatrices (NN : Nat) (x : DLL (Sig.tys ag_laws_FnMatrices)) : runS NN [fn_spec_MakePrime, fn_spec_MakeSize, fn_spec_MakeMatrix, fn_impl_FactorMatrix, fn_impl_MulMatrix, fn_impl_RankMatrix, fn_laws_ints, fn_impl_TransposeMatrix, fn_impl_Determinant, fn_impl_InverseMatrix] sc_laws_FnMatrices ms_laws_FnMatrices ag_laws_FnMatrices rs_laws_FnMatrices x = G_laws_FnMatrices NN x := by kernel_rfl
theorem k_laws_FnMatrices : chkS pX 7 sc_laws_FnMatrices.er ms_laws_FnMatrices 1 = true := by decide +kernel
theorem p_laws_FnMatrices : PureSpec pX 7 fn_laws_FnMatrices.M ∧ chkFun pX 7 = true :=
  pure_of_runS (T := [fn_spec_MakePrime, fn_spec_MakeSize, fn_spec_MakeMatrix, fn_impl_FactorMatrix, fn_impl_MulMatrix, fn_impl_RankMatrix, fn_laws_ints, fn_impl_TransposeMatrix, fn_impl_Determinant, fn_impl_InverseMatrix]) (sc := sc_laws_FnMatrices) (ms := ms_laws_FnMatrices) (args := ag_laws_FnMatrices) (res := rs_laws_FnMatrices) (SOk.consV p_spec_MakePrime <| SOk.consV p_spec_MakeSize <| SOk.consV p_spec_MakeMatrix <| SOk.cons p_impl_FactorMatrix <| SOk.cons p_impl_MulMatrix <| SOk.cons p_impl_RankMatrix <| SOk.cons p_laws_ints <| SOk.cons p_impl_TransposeMatrix <| SOk.cons p_impl_Determinant <| SOk.cons p_impl_InverseMatrix <| SOk.nil) follows_ok k_laws_FnMatrices F_laws_FnMatrices fun x y h => (n_laws_FnMatrices FUEL x).trans (f_laws_FnMatrices x y h)

end Go.Am
