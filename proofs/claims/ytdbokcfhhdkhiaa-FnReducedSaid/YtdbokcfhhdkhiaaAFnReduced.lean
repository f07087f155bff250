/- A_FnReduced: the code of the functions of FnReduced. No condition. -/
import Derived.Test.YtdbokcfhhdkhiaaLFnReduced
import Derived.Test.YtdbokcfhhdkhiaaBr2
import Derived.KernelRfl
import Derived.Test.YtdbokcfhhdkhiaaRows
set_option linter.unusedVariables false
set_option maxRecDepth 100000
namespace Go.Am
theorem follows_ok : Go.Proofs.Try.prog.follows .mixedOrders = true := by decide +kernel
noncomputable abbrev pX := Go.Proofs.Try.prog
def oX (n : Nat) (x : SOp) : SOper := ⟨some n, x, none⟩
def uX (x : SOp) : SOper := ⟨none, x, none⟩
def kX (n : Int) : SMO := .k (.one (.v (.int .i64) n))
def sX : ShV := .one (.c (.v (.int .i64)))
def iX : List Ty := [.int .i64]
def lX : Ty := .list iX
def zX : SC := .v (.int .i64) (0 : Int)
def vX : ShC := .c (.v (.int .i64))
def fX (n k : Nat) : ShC := .c (.full n k)
def rX (n : Nat) : ShC := .c (.ptr0 n 0)
instance tX (n : Nat) : OfNat SMO n := ⟨.t n⟩
def fn_spec_l01New : SFn := ⟨70, ag_spec_l01New, mu_spec_l01New, rs_spec_l01New, F_spec_l01New⟩
def sc_spec_l01New : SCode :=
 (.seq
 (.reg false [
 oX 2 (.mv (.k (.one (.junk))))])
 (.seq
 (.reg false [
 oX 5 (.mv 0),
 oX 6 (.len 5),
 oX 7 (.bin .add (kX 55127) 6),
 oX 3 (.mv 7)])
 (.seq
 (.seq
 (.reg false [
 oX 4 (.mv (kX 0))])
 (.join ⟨[(0, .one (.c (.v (.list [.int .u8])))), (3, sX)], []⟩ [] []
 (.block 0
 (.loop 0 ⟨[(0, .one (.c (.v (.list [.int .u8])))), (3, sX), (4, sX)], []⟩ [] []
 (.seq
 (.seq
 (.reg false [
 oX 8 (.mv 4),
 oX 9 (.mv 0),
 oX 10 (.len 9),
 oX 11 (.bin .lss 8 10),
 oX 12 (.mv 11),
 ⟨(some 13), .mv 4, (some (12, true))⟩,
 ⟨(some 14), .bin .lss 13 (kX 4000), (some (12, true))⟩,
 oX 15 (.pick 12 14 (.k (.one (.v (.bool) (false)))))])
 (.cond 15
 .skip
 (.exit 0)))
 (.seq
 (.block 1
 (.reg false [
 oX 18 (.mv 3),
 oX 19 (.bin .mul 18 (kX 131)),
 oX 20 (.mv 0),
 oX 21 (.mv 4),
 oX 22 (.idxA 1 20 21),
 oX 23 (.load false 1 22),
 oX 24 (.conv .i64 23),
 oX 25 (.bin .add 19 24),
 oX 26 (.bin .add 25 (kX 7)),
 oX 27 (.bin .and 26 (kX 1073741823)),
 oX 3 (.mv 27)]))
 (.reg false [
 oX 16 (.mv 4),
 oX 17 (.bin .add 16 (kX 1)),
 oX 4 (.mv 17)])))))))
 (.seq
 (.reg false [
 oX 28 (.mv 0),
 oX 29 (.mv 3),
 oX 30 (.build [.nil [.int .u8], zX, zX] [(0, 1, 28), (2, 1, 29)]),
 oX 31 (.box 3 30),
 oX 2 (.mv 31)])
 .ret))))
def ms_spec_l01New : List MRes := [.tmp 2]
theorem n_spec_l01New (NN : Nat) (x : DLL (Sig.tys ag_spec_l01New)) : runVS NN [] sc_spec_l01New ms_spec_l01New ag_spec_l01New rs_spec_l01New x = G_spec_l01New NN x := by kernel_rfl
theorem k_spec_l01New : chkS pX 70 sc_spec_l01New.er ms_spec_l01New 1 = true := by decide +kernel
theorem p_spec_l01New : VSpec Go.Proofs.Try.prog 70 fn_spec_l01New.MV ∧ chkFun pX 70 = true :=
  v_of_runVS (T := []) (sc := sc_spec_l01New) (ms := ms_spec_l01New) (args := ag_spec_l01New) (res := rs_spec_l01New) (SOk.nil) follows_ok k_spec_l01New F_spec_l01New fun x y h => (n_spec_l01New FUEL x).trans (f_spec_l01New x y h)

def fn_spec_l45At : SFn := ⟨37, ag_spec_l45At, mu_spec_l45At, rs_spec_l45At, F_spec_l45At⟩
def sc_spec_l45At : SCode :=
 (.seq
 (.reg false [
 oX 4 (.mv (.k (.one (.junk))))])
 (.seq
 (.reg false [
 oX 6 (.mv 0),
 oX 7 (.callb 70 [6]),
 oX 5 (.mv 7)])
 (.seq
 (.reg false [
 oX 8 (.mv 5),
 oX 9 (.mv 1),
 oX 10 (.mv 0),
 oX 11 (.len 10),
 oX 12 (.mm false 9 11),
 oX 13 (.nilchk 8),
 oX 14 (.fieldA 1 13),
 uX (.store 1 14 12)])
 (.seq
 (.reg false [
 oX 15 (.mv 5),
 oX 16 (.mv 5),
 oX 17 (.nilchk 16),
 oX 18 (.fieldA 2 17),
 oX 19 (.load false 1 18),
 oX 20 (.bin .mul 19 (kX 31)),
 oX 21 (.mv 1),
 oX 22 (.bin .mul 21 (kX 7919)),
 oX 23 (.bin .add 20 22),
 oX 24 (.bin .add 23 (kX 1)),
 oX 25 (.bin .and 24 (kX 1073741823)),
 oX 26 (.nilchk 15),
 oX 27 (.fieldA 2 26),
 uX (.store 1 27 25)])
 (.seq
 (.reg false [
 oX 28 (.mv 5),
 oX 4 (.mv 28)])
 .ret)))))
def ms_spec_l45At : List MRes := [.tmp 4]
theorem n_spec_l45At (NN : Nat) (x : DLL (Sig.tys ag_spec_l45At)) : runVS NN [fn_spec_l01New] sc_spec_l45At ms_spec_l45At ag_spec_l45At rs_spec_l45At x = G_spec_l45At NN x := by kernel_rfl
theorem k_spec_l45At : chkS pX 37 sc_spec_l45At.er ms_spec_l45At 2 = true := by decide +kernel
theorem p_spec_l45At : VSpec Go.Proofs.Try.prog 37 fn_spec_l45At.MV ∧ chkFun pX 37 = true :=
  v_of_runVS (T := [fn_spec_l01New]) (sc := sc_spec_l45At) (ms := ms_spec_l45At) (args := ag_spec_l45At) (res := rs_spec_l45At) (SOk.consV p_spec_l01New <| SOk.nil) follows_ok k_spec_l45At F_spec_l45At fun x y h => (n_spec_l45At FUEL x).trans (f_spec_l45At x y h)

def fn_spec_l01Byte : SFn := ⟨72, ag_spec_l01Byte, mu_spec_l01Byte, rs_spec_l01Byte, F_spec_l01Byte⟩
def sc_spec_l01Byte : SCode :=
 (.seq
 (.reg false [
 oX 2 (.mv (kX 0))])
 (.seq
 (.reg false [
 oX 4 (.mv 0),
 oX 5 (.mv 0),
 oX 6 (.nilchk 5),
 oX 7 (.fieldA 2 6),
 oX 8 (.load false 1 7),
 oX 9 (.bin .mul 8 (kX 6364136223846793005)),
 oX 10 (.bin .add 9 (kX 1442695040888963407)),
 oX 11 (.nilchk 4),
 oX 12 (.fieldA 2 11),
 uX (.store 1 12 10)])
 (.seq
 (.reg true [
 oX 13 (.mv 0),
 oX 14 (.nilchk 13),
 oX 15 (.fieldA 2 14),
 oX 16 (.load false 1 15),
 oX 17 (.bin .shr 16 (.k (.one (.v (.int .u64) ((33 : Int)))))),
 oX 18 (.mv 0),
 oX 19 (.nilchk 18),
 oX 20 (.fieldA 2 19),
 oX 21 (.load false 1 20),
 oX 22 (.bin .shr 21 (.k (.one (.v (.int .u64) ((45 : Int)))))),
 oX 23 (.bin .xor 17 22),
 oX 24 (.bin .and 23 (kX 255)),
 oX 3 (.mv 24)])
 (.seq
 (.seq
 (.reg true [
 oX 25 (.mv 0),
 oX 26 (.nilchk 25),
 oX 27 (.fieldA 1 26),
 oX 28 (.load false 1 27),
 oX 29 (.mv 0),
 oX 30 (.nilchk 29),
 oX 31 (.fieldA 0 30),
 oX 32 (.load false 1 31),
 oX 33 (.len 32),
 oX 34 (.bin .lss 28 33)])
 (.join ⟨[(3, sX)], [(1000000, .box [.c (.v (.list [.int .u8])), vX, vX])]⟩ [1000000] []
 (.cond 34
 (.seq
 (.reg true [
 oX 35 (.mv 3),
 oX 36 (.mv 0),
 oX 37 (.nilchk 36),
 oX 38 (.fieldA 0 37),
 oX 39 (.load false 1 38),
 oX 40 (.mv 0),
 oX 41 (.nilchk 40),
 oX 42 (.fieldA 1 41),
 oX 43 (.load false 1 42),
 oX 44 (.idxA 1 39 43),
 oX 45 (.load false 1 44),
 oX 46 (.conv .i64 45),
 oX 47 (.bin .add 35 46),
 oX 48 (.bin .and 47 (kX 255)),
 oX 3 (.mv 48)])
 (.reg false [
 oX 49 (.mv 0),
 oX 50 (.mv 0),
 oX 51 (.nilchk 50),
 oX 52 (.fieldA 1 51),
 oX 53 (.load false 1 52),
 oX 54 (.bin .add 53 (kX 1)),
 oX 55 (.nilchk 49),
 oX 56 (.fieldA 1 55),
 uX (.store 1 56 54)]))
 .skip)))
 (.seq
 (.reg false [
 oX 57 (.mv 3),
 oX 2 (.mv 57)])
 .ret)))))
def ms_spec_l01Byte : List MRes := [.tmp 2]
theorem n_spec_l01Byte (NN : Nat) (x : DLL (Sig.tys ag_spec_l01Byte)) : runVS NN [] sc_spec_l01Byte ms_spec_l01Byte ag_spec_l01Byte rs_spec_l01Byte x = G_spec_l01Byte NN x := by kernel_rfl
theorem k_spec_l01Byte : chkS pX 72 sc_spec_l01Byte.er ms_spec_l01Byte 1 = true := by decide +kernel
theorem p_spec_l01Byte : VSpec Go.Proofs.Try.prog 72 fn_spec_l01Byte.MV ∧ chkFun pX 72 = true :=
  v_of_runVS (T := []) (sc := sc_spec_l01Byte) (ms := ms_spec_l01Byte) (args := ag_spec_l01Byte) (res := rs_spec_l01Byte) (SOk.nil) follows_ok k_spec_l01Byte F_spec_l01Byte fun x y h => (n_spec_l01Byte FUEL x).trans (f_spec_l01Byte x y h)

def fn_spec_l01Below : SFn := ⟨45, ag_spec_l01Below, mu_spec_l01Below, rs_spec_l01Below, F_spec_l01Below⟩
def sc_spec_l01Below : SCode :=
 (.seq
 (.reg false [
 oX 4 (.mv (kX 0))])
 (.seq
 (.seq
 (.reg false [
 oX 5 (.mv 1),
 oX 6 (.bin .leq 5 (kX 0))])
 (.cond 6
 (.seq
 (.reg false [
 oX 4 (.mv (kX 0))])
 .ret)
 .skip))
 (.seq
 (.reg false [
 oX 7 (.mv 0),
 oX 8 (.callb 72 [7]),
 oX 9 (.mv 1),
 oX 10 (.bin .rem 8 9),
 oX 4 (.mv 10)])
 .ret)))
def ms_spec_l01Below : List MRes := [.tmp 4]
theorem n_spec_l01Below (NN : Nat) (x : DLL (Sig.tys ag_spec_l01Below)) : runVS NN [fn_spec_l01Byte] sc_spec_l01Below ms_spec_l01Below ag_spec_l01Below rs_spec_l01Below x = G_spec_l01Below NN x := by kernel_rfl
theorem k_spec_l01Below : chkS pX 45 sc_spec_l01Below.er ms_spec_l01Below 2 = true := by decide +kernel
theorem p_spec_l01Below : VSpec Go.Proofs.Try.prog 45 fn_spec_l01Below.MV ∧ chkFun pX 45 = true :=
  v_of_runVS (T := [fn_spec_l01Byte]) (sc := sc_spec_l01Below) (ms := ms_spec_l01Below) (args := ag_spec_l01Below) (res := rs_spec_l01Below) (SOk.consV p_spec_l01Byte <| SOk.nil) follows_ok k_spec_l01Below F_spec_l01Below fun x y h => (n_spec_l01Below FUEL x).trans (f_spec_l01Below x y h)

def fn_spec_l01Pick : SFn := ⟨41, ag_spec_l01Pick, mu_spec_l01Pick, rs_spec_l01Pick, F_spec_l01Pick⟩
def sc_spec_l01Pick : SCode :=
 (.seq
 (.reg false [
 oX 4 (.mv (kX 0))])
 (.seq
 (.reg false [
 oX 5 (.mv 1),
 oX 6 (.mv 0),
 oX 7 (.mv 1),
 oX 8 (.len 7),
 oX 9 (.callb 45 [6, 8]),
 oX 10 (.idxA 1 5 9),
 oX 11 (.load false 1 10),
 oX 4 (.mv 11)])
 .ret))
def ms_spec_l01Pick : List MRes := [.tmp 4]
theorem n_spec_l01Pick (NN : Nat) (x : DLL (Sig.tys ag_spec_l01Pick)) : runVS NN [fn_spec_l01Below] sc_spec_l01Pick ms_spec_l01Pick ag_spec_l01Pick rs_spec_l01Pick x = G_spec_l01Pick NN x := by kernel_rfl
theorem k_spec_l01Pick : chkS pX 41 sc_spec_l01Pick.er ms_spec_l01Pick 2 = true := by decide +kernel
theorem p_spec_l01Pick : VSpec Go.Proofs.Try.prog 41 fn_spec_l01Pick.MV ∧ chkFun pX 41 = true :=
  v_of_runVS (T := [fn_spec_l01Below]) (sc := sc_spec_l01Pick) (ms := ms_spec_l01Pick) (args := ag_spec_l01Pick) (res := rs_spec_l01Pick) (SOk.consV p_spec_l01Below <| SOk.nil) follows_ok k_spec_l01Pick F_spec_l01Pick fun x y h => (n_spec_l01Pick FUEL x).trans (f_spec_l01Pick x y h)

def fn_spec_MakePrime : SFn := ⟨15, ag_spec_MakePrime, mu_spec_MakePrime, rs_spec_MakePrime, F_spec_MakePrime⟩
def sc_spec_MakePrime : SCode :=
 (.seq
 (.reg false [
 oX 4 (.mv (kX 0))])
 (.seq
 (.reg false [
 oX 5 (.mv 0),
 oX 6 (.mv 1),
 oX 7 (.callb 37 [5, 6]),
 oX 8 (.bslice iX [(kX 2), (kX 3), (kX 7), (kX 101), (kX 1000003)]),
 oX 9 (.callb 41 [7, 8]),
 oX 4 (.mv 9)])
 .ret))
def ms_spec_MakePrime : List MRes := [.tmp 4]
theorem n_spec_MakePrime (NN : Nat) (x : DLL (Sig.tys ag_spec_MakePrime)) : runVS NN [fn_spec_l45At, fn_spec_l01Pick] sc_spec_MakePrime ms_spec_MakePrime ag_spec_MakePrime rs_spec_MakePrime x = G_spec_MakePrime NN x := by kernel_rfl
theorem k_spec_MakePrime : chkS pX 15 sc_spec_MakePrime.er ms_spec_MakePrime 2 = true := by decide +kernel
theorem p_spec_MakePrime : VSpec Go.Proofs.Try.prog 15 fn_spec_MakePrime.MV ∧ chkFun pX 15 = true :=
  v_of_runVS (T := [fn_spec_l45At, fn_spec_l01Pick]) (sc := sc_spec_MakePrime) (ms := ms_spec_MakePrime) (args := ag_spec_MakePrime) (res := rs_spec_MakePrime) (SOk.consV p_spec_l45At <| SOk.consV p_spec_l01Pick <| SOk.nil) follows_ok k_spec_MakePrime F_spec_MakePrime fun x y h => (n_spec_MakePrime FUEL x).trans (f_spec_MakePrime x y h)

def fn_spec_MakeNum : SFn := ⟨39, ag_spec_MakeNum, mu_spec_MakeNum, rs_spec_MakeNum, F_spec_MakeNum⟩
def sc_spec_MakeNum : SCode :=
 (.seq
 (.reg false [
 oX 4 (.mv (kX 0))])
 (.seq
 (.reg false [
 oX 6 (.mv 0),
 oX 7 (.mv 1),
 oX 8 (.callb 37 [6, 7]),
 oX 5 (.mv 8)])
 (.seq
 (.reg false [
 oX 9 (.mv 5),
 oX 10 (.callb 72 [9]),
 oX 11 (.bin .mul (kX 256) 10),
 oX 12 (.mv 5),
 oX 13 (.callb 72 [12]),
 oX 14 (.bin .add 11 13),
 oX 4 (.mv 14)])
 .ret)))
def ms_spec_MakeNum : List MRes := [.tmp 4]
theorem n_spec_MakeNum (NN : Nat) (x : DLL (Sig.tys ag_spec_MakeNum)) : runVS NN [fn_spec_l45At, fn_spec_l01Byte] sc_spec_MakeNum ms_spec_MakeNum ag_spec_MakeNum rs_spec_MakeNum x = G_spec_MakeNum NN x := by kernel_rfl
theorem k_spec_MakeNum : chkS pX 39 sc_spec_MakeNum.er ms_spec_MakeNum 2 = true := by decide +kernel
theorem p_spec_MakeNum : VSpec Go.Proofs.Try.prog 39 fn_spec_MakeNum.MV ∧ chkFun pX 39 = true :=
  v_of_runVS (T := [fn_spec_l45At, fn_spec_l01Byte]) (sc := sc_spec_MakeNum) (ms := ms_spec_MakeNum) (args := ag_spec_MakeNum) (res := rs_spec_MakeNum) (SOk.consV p_spec_l45At <| SOk.consV p_spec_l01Byte <| SOk.nil) follows_ok k_spec_MakeNum F_spec_MakeNum fun x y h => (n_spec_MakeNum FUEL x).trans (f_spec_MakeNum x y h)

def fn_spec_MakeSize : SFn := ⟨11, ag_spec_MakeSize, mu_spec_MakeSize, rs_spec_MakeSize, F_spec_MakeSize⟩
def sc_spec_MakeSize : SCode :=
 (.seq
 (.reg false [
 oX 8 (.mv (kX 0))])
 (.seq
 (.reg false [
 oX 9 (.mv 2),
 oX 10 (.mv 0),
 oX 11 (.mv 1),
 oX 12 (.callb 39 [10, 11]),
 oX 13 (.mv 3),
 oX 14 (.mv 2),
 oX 15 (.bin .sub 13 14),
 oX 16 (.bin .add 15 (kX 1)),
 oX 17 (.bin .rem 12 16),
 oX 18 (.bin .add 9 17),
 oX 8 (.mv 18)])
 .ret))
def ms_spec_MakeSize : List MRes := [.tmp 8]
theorem n_spec_MakeSize (NN : Nat) (x : DLL (Sig.tys ag_spec_MakeSize)) : runVS NN [fn_spec_MakeNum] sc_spec_MakeSize ms_spec_MakeSize ag_spec_MakeSize rs_spec_MakeSize x = G_spec_MakeSize NN x := by kernel_rfl
theorem k_spec_MakeSize : chkS pX 11 sc_spec_MakeSize.er ms_spec_MakeSize 4 = true := by decide +kernel
theorem p_spec_MakeSize : VSpec Go.Proofs.Try.prog 11 fn_spec_MakeSize.MV ∧ chkFun pX 11 = true :=
  v_of_runVS (T := [fn_spec_MakeNum]) (sc := sc_spec_MakeSize) (ms := ms_spec_MakeSize) (args := ag_spec_MakeSize) (res := rs_spec_MakeSize) (SOk.consV p_spec_MakeNum <| SOk.nil) follows_ok k_spec_MakeSize F_spec_MakeSize fun x y h => (n_spec_MakeSize FUEL x).trans (f_spec_MakeSize x y h)

def fn_spec_l31New : SFn := ⟨73, ag_spec_l31New, mu_spec_l31New, rs_spec_l31New, F_spec_l31New⟩
def sc_spec_l31New : SCode :=
 (.seq
 (.reg false [
 oX 4 (.alloc [zX, zX, .nil iX])])
 (.seq
 (.reg false [
 oX 5 (.mv 0),
 oX 6 (.mv 1),
 oX 7 (.mv 0),
 oX 8 (.mv 1),
 oX 9 (.bin .mul 7 8),
 oX 10 (.mkslice .froz iX 8 (0 : Int) 9 9),
 oX 11 (.build [zX, zX, .nil iX] [(0, 1, 5), (1, 1, 6), (2, 1, 10)]),
 uX (.store 3 4 11)])
 .ret))
def ms_spec_l31New : List MRes := [.cell 4 3 true]
theorem n_spec_l31New (NN : Nat) (x : DLL (Sig.tys ag_spec_l31New)) : runS NN [] sc_spec_l31New ms_spec_l31New ag_spec_l31New rs_spec_l31New x = G_spec_l31New NN x := by kernel_rfl
theorem k_spec_l31New : chkS pX 73 sc_spec_l31New.er ms_spec_l31New 2 = true := by decide +kernel
theorem p_spec_l31New : PureSpec pX 73 fn_spec_l31New.M ∧ chkFun pX 73 = true :=
  pure_of_runS (T := []) (sc := sc_spec_l31New) (ms := ms_spec_l31New) (args := ag_spec_l31New) (res := rs_spec_l31New) (SOk.nil) follows_ok k_spec_l31New F_spec_l31New fun x y h => (n_spec_l31New FUEL x).trans (f_spec_l31New x y h)

def fn_spec_l01Once : SFn := ⟨74, ag_spec_l01Once, mu_spec_l01Once, rs_spec_l01Once, F_spec_l01Once⟩
def sc_spec_l01Once : SCode :=
 (.seq
 (.reg false [
 oX 4 (.mv (.k (.one (.v (.bool) (false)))))])
 (.seq
 (.reg false [
 oX 5 (.mv 0),
 oX 6 (.mv 1),
 oX 7 (.callb 45 [5, 6]),
 oX 8 (.bin .eql 7 (kX 0)),
 oX 4 (.mv 8)])
 .ret))
def ms_spec_l01Once : List MRes := [.tmp 4]
theorem n_spec_l01Once (NN : Nat) (x : DLL (Sig.tys ag_spec_l01Once)) : runVS NN [fn_spec_l01Below] sc_spec_l01Once ms_spec_l01Once ag_spec_l01Once rs_spec_l01Once x = G_spec_l01Once NN x := by kernel_rfl
theorem k_spec_l01Once : chkS pX 74 sc_spec_l01Once.er ms_spec_l01Once 2 = true := by decide +kernel
theorem p_spec_l01Once : VSpec Go.Proofs.Try.prog 74 fn_spec_l01Once.MV ∧ chkFun pX 74 = true :=
  v_of_runVS (T := [fn_spec_l01Below]) (sc := sc_spec_l01Once) (ms := ms_spec_l01Once) (args := ag_spec_l01Once) (res := rs_spec_l01Once) (SOk.consV p_spec_l01Below <| SOk.nil) follows_ok k_spec_l01Once F_spec_l01Once fun x y h => (n_spec_l01Once FUEL x).trans (f_spec_l01Once x y h)

def fn_spec_l31Draw : SFn := ⟨42, ag_spec_l31Draw, mu_spec_l31Draw, rs_spec_l31Draw, F_spec_l31Draw⟩
def sc_spec_l31Draw : SCode :=
 (.seq
 (.reg false [
 oX 8 (.alloc [zX, zX, .nil iX])])
 (.seq
 (.reg false [
 oX 12 (.mv 2),
 oX 13 (.mv 3),
 oX 14 (.call .froz 73 [12, 13]),
 oX 9 (.alloc [zX, zX, .nil iX]),
 uX (.store 3 9 14)])
 (.seq
 (.seq
 (.reg false [
 oX 15 (.fieldA 2 9),
 oX 16 (.load false 1 15),
 oX 17 (.len 16),
 oX 18 (.mv (kX 0))])
 (.join ⟨[(2, sX), (0, .one (rX 1000000)), (3, sX), (9, .one (rX 9)), (8, .one (rX 8))], [(1000000, .box [.c (.v (.list [.int .u8])), vX, vX]), (8, .box [vX, vX, fX 500002 1]), (9, .box [vX, vX, fX 500003 1]), (500002, .row true .froz iX), (500003, .row true .froz iX)]⟩ [1000000, 8, 9, 500000, 500001, 500002, 500003] [(true, 8, 2, 500002, .froz, []), (true, 9, 2, 500003, .froz, [])]
 (.block 0
 (.loop 0 ⟨[(0, .one (rX 1000000)), (1, sX), (2, sX), (3, sX), (8, .one (rX 8)), (9, .one (rX 9)), (17, sX), (18, sX)], [(1000000, .box [.c (.v (.list [.int .u8])), vX, vX]), (8, .box [vX, vX, fX 500000 1]), (9, .box [vX, vX, fX 500001 1]), (500000, .row true .froz iX), (500001, .row true .froz iX)]⟩ [1000000, 8, 15000, 9, 500000, 500001] [(true, 8, 2, 500000, .froz, []), (true, 9, 2, 500001, .froz, [])]
 (.seq
 (.reg false [
 oX 19 (.bin .lss 18 17)])
 (.seq
 (.cond 19
 .skip
 (.exit 0))
 (.seq
 (.block 1
 (.seq
 (.reg false [
 oX 20 (.mv 18),
 oX 10 (.mv 20)])
 (.seq
 (.reg false [
 oX 21 (.mv 0),
 oX 22 (.callb 74 [21, (kX 3)]),
 oX 23 (.un .not 22)])
 (.cond 23
 (.regD [(0, 6), (1, 6)] [
 oX 24 (.fieldA 2 9),
 oX 25 (.load false 1 24),
 oX 26 (.mv 10),
 oX 27 (.mv 0),
 oX 28 (.mv 1),
 oX 29 (.mm false 28 (kX 256)),
 oX 30 (.callb 45 [27, 29]),
 oX 31 (.idxA 1 25 26),
 uX (.store 1 31 30)])
 .skip))))
 (.reg false [
 oX 32 (.bin .add 18 (kX 1)),
 oX 18 (.mv 32)]))))))))
 (.seq
 (.seq
 (.reg false [
 oX 33 (.mv 2),
 oX 34 (.bin .gtr 33 (kX 1)),
 oX 35 (.mv 34),
 ⟨(some 36), .mv 0, (some (35, true))⟩,
 ⟨(some 37), .callb 74 [36, (kX 3)], (some (35, true))⟩,
 oX 38 (.pick 35 37 (.k (.one (.v (.bool) (false)))))])
 (.join ⟨[(9, .one (rX 9)), (8, .one (rX 8))], [(1000000, .box [.c (.v (.list [.int .u8])), vX, vX]), (8, .box [vX, vX, fX 500006 1]), (9, .box [vX, vX, fX 500007 1]), (500006, .row true .froz iX), (500007, .row true .froz iX)]⟩ [1000000, 8, 9, 500002, 500003, 500004, 500005, 500006, 500007] [(true, 8, 2, 500006, .froz, []), (true, 9, 2, 500007, .froz, [])]
 (.cond 38
 (.seq
 (.reg false [
 oX 11 (.mv (kX 0))])
 (.block 2
 (.loop 0 ⟨[(3, sX), (8, .one (rX 8)), (9, .one (rX 9)), (11, sX)], [(1000000, .box [.c (.v (.list [.int .u8])), vX, vX]), (8, .box [vX, vX, fX 500004 1]), (9, .box [vX, vX, fX 500005 1]), (500004, .row true .froz iX), (500005, .row true .froz iX)]⟩ [1000000, 8, 9, 500002, 500003, 500004, 500005] [(true, 8, 2, 500004, .froz, []), (true, 9, 2, 500005, .froz, [])]
 (.seq
 (.seq
 (.reg false [
 oX 39 (.mv 11),
 oX 40 (.mv 3),
 oX 41 (.bin .lss 39 40)])
 (.cond 41
 .skip
 (.exit 2)))
 (.seq
 (.block 3
 (.reg true [
 oX 44 (.fieldA 2 9),
 oX 45 (.load false 1 44),
 oX 46 (.mv 3),
 oX 47 (.mv 11),
 oX 48 (.bin .add 46 47),
 oX 49 (.fieldA 2 9),
 oX 50 (.load false 1 49),
 oX 51 (.mv 11),
 oX 52 (.idxA 1 50 51),
 oX 53 (.load false 1 52),
 oX 54 (.idxA 1 45 48),
 uX (.store 1 54 53)]))
 (.reg false [
 oX 42 (.mv 11),
 oX 43 (.bin .add 42 (kX 1)),
 oX 11 (.mv 43)]))))))
 .skip)))
 (.seq
 (.reg false [
 oX 55 (.load true 3 9),
 uX (.store 3 8 55)])
 .ret)))))
def ms_spec_l31Draw : List MRes := [.cell 8 3 true]
theorem n_spec_l31Draw (NN : Nat) (x : DLL (Sig.tys ag_spec_l31Draw)) : runVS NN [fn_spec_l31New, fn_spec_l01Once, fn_spec_l01Below] sc_spec_l31Draw ms_spec_l31Draw ag_spec_l31Draw rs_spec_l31Draw x = G_spec_l31Draw NN x := by kernel_rfl
theorem k_spec_l31Draw : chkS pX 42 sc_spec_l31Draw.er ms_spec_l31Draw 4 = true := by decide +kernel
theorem p_spec_l31Draw : VSpec Go.Proofs.Try.prog 42 fn_spec_l31Draw.MV ∧ chkFun pX 42 = true :=
  v_of_runVS (T := [fn_spec_l31New, fn_spec_l01Once, fn_spec_l01Below]) (sc := sc_spec_l31Draw) (ms := ms_spec_l31Draw) (args := ag_spec_l31Draw) (res := rs_spec_l31Draw) (SOk.cons p_spec_l31New <| SOk.consV p_spec_l01Once <| SOk.consV p_spec_l01Below <| SOk.nil) follows_ok k_spec_l31Draw F_spec_l31Draw fun x y h => (n_spec_l31Draw FUEL x).trans (f_spec_l31Draw x y h)

def fn_spec_MakeMatrix : SFn := ⟨16, ag_spec_MakeMatrix, mu_spec_MakeMatrix, rs_spec_MakeMatrix, F_spec_MakeMatrix⟩
def sc_spec_MakeMatrix : SCode :=
 (.seq
 (.reg false [
 oX 10 (.alloc [zX, zX, .nil iX])])
 (.seq
 (.reg false [
 oX 11 (.mv 0),
 oX 12 (.mv 1),
 oX 13 (.callb 37 [11, 12]),
 oX 14 (.mv 2),
 oX 15 (.mv 3),
 oX 16 (.mv 4),
 oX 17 (.callb 42 [13, 14, 15, 16]),
 uX (.store 3 10 17)])
 .ret))
def ms_spec_MakeMatrix : List MRes := [.cell 10 3 true]
theorem n_spec_MakeMatrix (NN : Nat) (x : DLL (Sig.tys ag_spec_MakeMatrix)) : runVS NN [fn_spec_l45At, fn_spec_l31Draw] sc_spec_MakeMatrix ms_spec_MakeMatrix ag_spec_MakeMatrix rs_spec_MakeMatrix x = G_spec_MakeMatrix NN x := by kernel_rfl
theorem k_spec_MakeMatrix : chkS pX 16 sc_spec_MakeMatrix.er ms_spec_MakeMatrix 5 = true := by decide +kernel
theorem p_spec_MakeMatrix : VSpec Go.Proofs.Try.prog 16 fn_spec_MakeMatrix.MV ∧ chkFun pX 16 = true :=
  v_of_runVS (T := [fn_spec_l45At, fn_spec_l31Draw]) (sc := sc_spec_MakeMatrix) (ms := ms_spec_MakeMatrix) (args := ag_spec_MakeMatrix) (res := rs_spec_MakeMatrix) (SOk.consV p_spec_l45At <| SOk.consV p_spec_l31Draw <| SOk.nil) follows_ok k_spec_MakeMatrix F_spec_MakeMatrix fun x y h => (n_spec_MakeMatrix FUEL x).trans (f_spec_MakeMatrix x y h)

def fn_impl_IsPrime : SFn := ⟨55, ag_impl_IsPrime, mu_impl_IsPrime, rs_impl_IsPrime, F_impl_IsPrime⟩
def sc_impl_IsPrime : SCode :=
 (.seq
 (.reg false [
 oX 2 (.mv (.k (.one (.v (.bool) (false)))))])
 (.seq
 (.seq
 (.reg false [
 oX 4 (.mv 0),
 oX 5 (.bin .lss 4 (kX 2)),
 oX 6 (.mv 5),
 ⟨(some 7), .mv 0, (some (6, false))⟩,
 ⟨(some 8), .bin .gtr 7 (kX 1000003), (some (6, false))⟩,
 oX 9 (.pick 6 (.k (.one (.v (.bool) (true)))) 8)])
 (.cond 9
 (.seq
 (.reg false [
 oX 2 (.mv (.k (.one (.v (.bool) (false)))))])
 .ret)
 .skip))
 (.seq
 (.seq
 (.reg false [
 oX 3 (.mv (kX 2))])
 (.join ⟨[], []⟩ [] []
 (.block 0
 (.loop 0 ⟨[(0, sX), (3, sX)], []⟩ [] []
 (.seq
 (.seq
 (.reg false [
 oX 10 (.mv 3),
 oX 11 (.mv 3),
 oX 12 (.bin .mul 10 11),
 oX 13 (.mv 0),
 oX 14 (.bin .leq 12 13)])
 (.cond 14
 .skip
 (.exit 0)))
 (.seq
 (.block 1
 (.seq
 (.reg false [
 oX 17 (.mv 0),
 oX 18 (.mv 3),
 oX 19 (.bin .rem 17 18),
 oX 20 (.bin .eql 19 (kX 0))])
 (.cond 20
 (.seq
 (.reg false [
 oX 2 (.mv (.k (.one (.v (.bool) (false)))))])
 .ret)
 .skip)))
 (.reg false [
 oX 15 (.mv 3),
 oX 16 (.bin .add 15 (kX 1)),
 oX 3 (.mv 16)])))))))
 (.seq
 (.reg false [
 oX 2 (.mv (.k (.one (.v (.bool) (true)))))])
 .ret))))
def ms_impl_IsPrime : List MRes := [.tmp 2]
theorem n_impl_IsPrime (NN : Nat) (x : DLL (Sig.tys ag_impl_IsPrime)) : runS NN [] sc_impl_IsPrime ms_impl_IsPrime ag_impl_IsPrime rs_impl_IsPrime x = G_impl_IsPrime NN x := by kernel_rfl
theorem k_impl_IsPrime : chkS pX 55 sc_impl_IsPrime.er ms_impl_IsPrime 1 = true := by decide +kernel
theorem p_impl_IsPrime : PureSpec pX 55 fn_impl_IsPrime.M ∧ chkFun pX 55 = true :=
  pure_of_runS (T := []) (sc := sc_impl_IsPrime) (ms := ms_impl_IsPrime) (args := ag_impl_IsPrime) (res := rs_impl_IsPrime) (SOk.nil) follows_ok k_impl_IsPrime F_impl_IsPrime fun x y h => (n_impl_IsPrime FUEL x).trans (f_impl_IsPrime x y h)

def fn_impl_inMod : SFn := ⟨75, ag_impl_inMod, mu_impl_inMod, rs_impl_inMod, F_impl_inMod⟩
def sc_impl_inMod : SCode :=
 (.seq
 (.reg false [
 oX 4 (.mv (.k (.one (.v (.bool) (false)))))])
 (.seq
 (.seq
 (.reg false [
 oX 7 (.mv 1),
 oX 8 (.len 7),
 oX 9 (.mv (kX 0))])
 (.join ⟨[], []⟩ [] []
 (.block 0
 (.loop 0 ⟨[(0, sX), (7, .one (.c (.v (lX)))), (8, sX), (9, sX)], []⟩ [] []
 (.seq
 (.reg false [
 oX 10 (.bin .lss 9 8)])
 (.seq
 (.cond 10
 .skip
 (.exit 0))
 (.seq
 (.block 1
 (.seq
 (.reg false [
 oX 11 (.idxA 1 7 9),
 oX 12 (.load false 1 11),
 oX 6 (.mv 12)])
 (.seq
 (.reg false [
 oX 13 (.mv 6),
 oX 14 (.bin .lss 13 (kX 0)),
 oX 15 (.mv 14),
 ⟨(some 16), .mv 6, (some (15, false))⟩,
 ⟨(some 17), .mv 0, (some (15, false))⟩,
 ⟨(some 18), .bin .geq 16 17, (some (15, false))⟩,
 oX 19 (.pick 15 (.k (.one (.v (.bool) (true)))) 18)])
 (.cond 19
 (.seq
 (.reg false [
 oX 4 (.mv (.k (.one (.v (.bool) (false)))))])
 .ret)
 .skip))))
 (.reg false [
 oX 20 (.bin .add 9 (kX 1)),
 oX 9 (.mv 20)]))))))))
 (.seq
 (.reg false [
 oX 4 (.mv (.k (.one (.v (.bool) (true)))))])
 .ret)))
def ms_impl_inMod : List MRes := [.tmp 4]
theorem n_impl_inMod (NN : Nat) (x : DLL (Sig.tys ag_impl_inMod)) : runS NN [] sc_impl_inMod ms_impl_inMod ag_impl_inMod rs_impl_inMod x = G_impl_inMod NN x := by kernel_rfl
theorem k_impl_inMod : chkS pX 75 sc_impl_inMod.er ms_impl_inMod 2 = true := by decide +kernel
theorem p_impl_inMod : PureSpec pX 75 fn_impl_inMod.M ∧ chkFun pX 75 = true :=
  pure_of_runS (T := []) (sc := sc_impl_inMod) (ms := ms_impl_inMod) (args := ag_impl_inMod) (res := rs_impl_inMod) (SOk.nil) follows_ok k_impl_inMod F_impl_inMod fun x y h => (n_impl_inMod FUEL x).trans (f_impl_inMod x y h)

def fn_impl_MatrixOk : SFn := ⟨43, ag_impl_MatrixOk, mu_impl_MatrixOk, rs_impl_MatrixOk, F_impl_MatrixOk⟩
def sc_impl_MatrixOk : SCode :=
 (.seq
 (.reg false [
 oX 3 (.box 3 1),
 oX 4 (.mv (.k (.one (.v (.bool) (false)))))])
 (.seq
 (.seq
 (.reg false [
 oX 5 (.mv 0),
 oX 6 (.call .froz 55 [5]),
 oX 7 (.un .not 6),
 oX 8 (.mv 7),
 ⟨(some 9), .fieldA 0 3, (some (8, false))⟩,
 ⟨(some 10), .load false 1 9, (some (8, false))⟩,
 ⟨(some 11), .bin .lss 10 (kX 0), (some (8, false))⟩,
 oX 12 (.pick 8 (.k (.one (.v (.bool) (true)))) 11),
 oX 13 (.mv 12),
 ⟨(some 14), .fieldA 1 3, (some (13, false))⟩,
 ⟨(some 15), .load false 1 14, (some (13, false))⟩,
 ⟨(some 16), .bin .lss 15 (kX 0), (some (13, false))⟩,
 oX 17 (.pick 13 (.k (.one (.v (.bool) (true)))) 16),
 oX 18 (.mv 17),
 ⟨(some 19), .fieldA 0 3, (some (18, false))⟩,
 ⟨(some 20), .load false 1 19, (some (18, false))⟩,
 ⟨(some 21), .bin .gtr 20 (kX 64), (some (18, false))⟩,
 oX 22 (.pick 18 (.k (.one (.v (.bool) (true)))) 21),
 oX 23 (.mv 22),
 ⟨(some 24), .fieldA 1 3, (some (23, false))⟩,
 ⟨(some 25), .load false 1 24, (some (23, false))⟩,
 ⟨(some 26), .bin .gtr 25 (kX 64), (some (23, false))⟩,
 oX 27 (.pick 23 (.k (.one (.v (.bool) (true)))) 26)])
 (.cond 27
 (.seq
 (.reg false [
 oX 4 (.mv (.k (.one (.v (.bool) (false)))))])
 .ret)
 .skip))
 (.seq
 (.reg false [
 oX 28 (.fieldA 2 3),
 oX 29 (.load false 1 28),
 oX 30 (.len 29),
 oX 31 (.fieldA 0 3),
 oX 32 (.load false 1 31),
 oX 33 (.fieldA 1 3),
 oX 34 (.load false 1 33),
 oX 35 (.bin .mul 32 34),
 oX 36 (.bin .eql 30 35),
 oX 37 (.mv 36),
 ⟨(some 38), .mv 0, (some (37, true))⟩,
 ⟨(some 39), .fieldA 2 3, (some (37, true))⟩,
 ⟨(some 40), .load false 1 39, (some (37, true))⟩,
 ⟨(some 41), .call .froz 75 [38, 40], (some (37, true))⟩,
 oX 42 (.pick 37 41 (.k (.one (.v (.bool) (false))))),
 oX 4 (.mv 42)])
 .ret)))
def ms_impl_MatrixOk : List MRes := [.tmp 4]
theorem n_impl_MatrixOk (NN : Nat) (x : DLL (Sig.tys ag_impl_MatrixOk)) : runS NN [fn_impl_IsPrime, fn_impl_inMod] sc_impl_MatrixOk ms_impl_MatrixOk ag_impl_MatrixOk rs_impl_MatrixOk x = G_impl_MatrixOk NN x := by kernel_rfl
theorem k_impl_MatrixOk : chkS pX 43 sc_impl_MatrixOk.er ms_impl_MatrixOk 2 = true := by decide +kernel
theorem p_impl_MatrixOk : PureSpec pX 43 fn_impl_MatrixOk.M ∧ chkFun pX 43 = true :=
  pure_of_runS (T := [fn_impl_IsPrime, fn_impl_inMod]) (sc := sc_impl_MatrixOk) (ms := ms_impl_MatrixOk) (args := ag_impl_MatrixOk) (res := rs_impl_MatrixOk) (SOk.cons p_impl_IsPrime <| SOk.cons p_impl_inMod <| SOk.nil) follows_ok k_impl_MatrixOk F_impl_MatrixOk fun x y h => (n_impl_MatrixOk FUEL x).trans (f_impl_MatrixOk x y h)

def fn_impl_copyInts : SFn := ⟨63, ag_impl_copyInts, mu_impl_copyInts, rs_impl_copyInts, F_impl_copyInts⟩
def sc_impl_copyInts : SCode :=
 (.seq
 (.reg false [
 oX 2 (.mv (.k (.one (.nil iX))))])
 (.seq
 (.reg false [
 oX 3 (.mv 0),
 oX 4 (.append true iX 8 (.k (.one (.nil iX))) 3),
 oX 2 (.mv 4)])
 .ret))
def ms_impl_copyInts : List MRes := [.tmp 2]
theorem n_impl_copyInts (NN : Nat) (x : DLL (Sig.tys ag_impl_copyInts)) : runS NN [] sc_impl_copyInts ms_impl_copyInts ag_impl_copyInts rs_impl_copyInts x = G_impl_copyInts NN x := by kernel_rfl
theorem k_impl_copyInts : chkS pX 63 sc_impl_copyInts.er ms_impl_copyInts 1 = true := by decide +kernel
theorem p_impl_copyInts : PureSpec pX 63 fn_impl_copyInts.M ∧ chkFun pX 63 = true :=
  pure_of_runS (T := []) (sc := sc_impl_copyInts) (ms := ms_impl_copyInts) (args := ag_impl_copyInts) (res := rs_impl_copyInts) (SOk.nil) follows_ok k_impl_copyInts F_impl_copyInts fun x y h => (n_impl_copyInts FUEL x).trans (f_impl_copyInts x y h)

def fn_impl_copyMatrix : SFn := ⟨65, ag_impl_copyMatrix, mu_impl_copyMatrix, rs_impl_copyMatrix, F_impl_copyMatrix⟩
def sc_impl_copyMatrix : SCode :=
 (.seq
 (.reg false [
 oX 1 (.box 3 0),
 oX 2 (.alloc [zX, zX, .nil iX])])
 (.seq
 (.reg true [
 oX 3 (.fieldA 0 1),
 oX 4 (.load false 1 3),
 oX 5 (.fieldA 1 1),
 oX 6 (.load false 1 5),
 oX 7 (.fieldA 2 1),
 oX 8 (.load false 1 7),
 oX 9 (.call .froz 63 [8]),
 oX 10 (.build [zX, zX, .nil iX] [(0, 1, 4), (1, 1, 6), (2, 1, 9)]),
 uX (.store 3 2 10)])
 .ret))
def ms_impl_copyMatrix : List MRes := [.cell 2 3 true]
theorem n_impl_copyMatrix (NN : Nat) (x : DLL (Sig.tys ag_impl_copyMatrix)) : runS NN [fn_impl_copyInts] sc_impl_copyMatrix ms_impl_copyMatrix ag_impl_copyMatrix rs_impl_copyMatrix x = G_impl_copyMatrix NN x := by kernel_rfl
theorem k_impl_copyMatrix : chkS pX 65 sc_impl_copyMatrix.er ms_impl_copyMatrix 1 = true := by decide +kernel
theorem p_impl_copyMatrix : PureSpec pX 65 fn_impl_copyMatrix.M ∧ chkFun pX 65 = true :=
  pure_of_runS (T := [fn_impl_copyInts]) (sc := sc_impl_copyMatrix) (ms := ms_impl_copyMatrix) (args := ag_impl_copyMatrix) (res := rs_impl_copyMatrix) (SOk.cons p_impl_copyInts <| SOk.nil) follows_ok k_impl_copyMatrix F_impl_copyMatrix fun x y h => (n_impl_copyMatrix FUEL x).trans (f_impl_copyMatrix x y h)

def fn_impl_Matrix_at : SFn := ⟨62, ag_impl_Matrix_at, mu_impl_Matrix_at, rs_impl_Matrix_at, F_impl_Matrix_at⟩
def sc_impl_Matrix_at : SCode :=
 (.seq
 (.reg false [
 oX 3 (.box 3 0),
 oX 6 (.mv (kX 0))])
 (.seq
 (.reg false [
 oX 7 (.fieldA 2 3),
 oX 8 (.load false 1 7),
 oX 9 (.mv 1),
 oX 10 (.fieldA 1 3),
 oX 11 (.load false 1 10),
 oX 12 (.bin .mul 9 11),
 oX 13 (.mv 2),
 oX 14 (.bin .add 12 13),
 oX 15 (.idxA 1 8 14),
 oX 16 (.load false 1 15),
 oX 6 (.mv 16)])
 .ret))
def ms_impl_Matrix_at : List MRes := [.tmp 6]
theorem n_impl_Matrix_at (NN : Nat) (x : DLL (Sig.tys ag_impl_Matrix_at)) : runS NN [] sc_impl_Matrix_at ms_impl_Matrix_at ag_impl_Matrix_at rs_impl_Matrix_at x = G_impl_Matrix_at NN x := by kernel_rfl
theorem k_impl_Matrix_at : chkS pX 62 sc_impl_Matrix_at.er ms_impl_Matrix_at 3 = true := by decide +kernel
theorem p_impl_Matrix_at : PureSpec pX 62 fn_impl_Matrix_at.M ∧ chkFun pX 62 = true :=
  pure_of_runS (T := []) (sc := sc_impl_Matrix_at) (ms := ms_impl_Matrix_at) (args := ag_impl_Matrix_at) (res := rs_impl_Matrix_at) (SOk.nil) follows_ok k_impl_Matrix_at F_impl_Matrix_at fun x y h => (n_impl_Matrix_at FUEL x).trans (f_impl_Matrix_at x y h)

def fn_impl_Matrix_set : SFn := ⟨61, ag_impl_Matrix_set, mu_impl_Matrix_set, rs_impl_Matrix_set, F_impl_Matrix_set⟩
def sc_impl_Matrix_set : SCode :=
 (.seq
 (.reg false [
 oX 4 (.box 3 0)])
 (.reg false [
 oX 8 (.fieldA 2 4),
 oX 9 (.load false 1 8),
 oX 10 (.mv 1),
 oX 11 (.fieldA 1 4),
 oX 12 (.load false 1 11),
 oX 13 (.bin .mul 10 12),
 oX 14 (.mv 2),
 oX 15 (.bin .add 13 14),
 oX 16 (.mv 3),
 oX 17 (.idxA 1 9 15),
 uX (.store 1 17 16)]))
def ms_impl_Matrix_set : List MRes := []
theorem n_impl_Matrix_set (NN : Nat) (x : DLL (Sig.tys ag_impl_Matrix_set)) : runMS NN [] sc_impl_Matrix_set ms_impl_Matrix_set ag_impl_Matrix_set mu_impl_Matrix_set rs_impl_Matrix_set x = G_impl_Matrix_set NN x := by kernel_rfl
theorem k_impl_Matrix_set : chkS pX 61 sc_impl_Matrix_set.er ms_impl_Matrix_set 4 = true := by decide +kernel
theorem p_impl_Matrix_set : MutSpec pX 61 mu_impl_Matrix_set fn_impl_Matrix_set.MM ∧ chkFun pX 61 = true :=
  mut_of_runMS (T := []) (sc := sc_impl_Matrix_set) (ms := ms_impl_Matrix_set) (args := ag_impl_Matrix_set) (mu := mu_impl_Matrix_set) (res := rs_impl_Matrix_set) (SOk.nil) follows_ok k_impl_Matrix_set F_impl_Matrix_set fun x y h => (n_impl_Matrix_set FUEL x).trans (f_impl_Matrix_set x y h)

def fn_impl_Matrix_swapRows : SFn := ⟨66, ag_impl_Matrix_swapRows, mu_impl_Matrix_swapRows, rs_impl_Matrix_swapRows, F_impl_Matrix_swapRows⟩
def sc_impl_Matrix_swapRows : SCode :=
 (.seq
 (.reg false [
 oX 3 (.box 3 0)])
 (.seq
 (.reg false [
 oX 6 (.mv (kX 0))])
 (.block 0
 (.loop 0 ⟨[(1, sX), (2, sX), (3, .one (rX 3)), (6, sX)], [(1000000, .row false .froz iX), (3, .box [vX, vX, fX 1000000 1])]⟩ [1000000, 3, 500000] [(true, 3, 2, 500000, .froz, [])]
 (.seq
 (.seq
 (.reg false [
 oX 9 (.mv 6),
 oX 10 (.fieldA 1 3),
 oX 11 (.load false 1 10),
 oX 12 (.bin .lss 9 11)])
 (.cond 12
 .skip
 (.exit 0)))
 (.seq
 (.block 1
 (.seq
 (.reg true [
 oX 15 (.load true 3 3),
 oX 16 (.mv 1),
 oX 17 (.mv 6),
 oX 18 (.call .froz 62 [15, 16, 17]),
 oX 19 (.load true 3 3),
 oX 20 (.mv 2),
 oX 21 (.mv 6),
 oX 22 (.call .froz 62 [19, 20, 21]),
 oX 7 (.mv 18),
 oX 8 (.mv 22)])
 (.seq
 (.reg false [
 oX 23 (.load true 3 3),
 oX 24 (.mv 1),
 oX 25 (.mv 6),
 oX 26 (.mv 8),
 oX 27 (.callm .froz 61 [23, 24, 25, 26])])
 (.reg false [
 oX 28 (.load true 3 3),
 oX 29 (.mv 2),
 oX 30 (.mv 6),
 oX 31 (.mv 7),
 oX 32 (.callm .froz 61 [28, 29, 30, 31])]))))
 (.reg false [
 oX 13 (.mv 6),
 oX 14 (.bin .add 13 (kX 1)),
 oX 6 (.mv 14)])))))))
def ms_impl_Matrix_swapRows : List MRes := []
theorem n_impl_Matrix_swapRows (NN : Nat) (x : DLL (Sig.tys ag_impl_Matrix_swapRows)) : runMS NN [fn_impl_Matrix_at, fn_impl_Matrix_set] sc_impl_Matrix_swapRows ms_impl_Matrix_swapRows ag_impl_Matrix_swapRows mu_impl_Matrix_swapRows rs_impl_Matrix_swapRows x = G_impl_Matrix_swapRows NN x := by kernel_rfl
theorem k_impl_Matrix_swapRows : chkS pX 66 sc_impl_Matrix_swapRows.er ms_impl_Matrix_swapRows 3 = true := by decide +kernel
theorem p_impl_Matrix_swapRows : MutSpec pX 66 mu_impl_Matrix_swapRows fn_impl_Matrix_swapRows.MM ∧ chkFun pX 66 = true :=
  mut_of_runMS (T := [fn_impl_Matrix_at, fn_impl_Matrix_set]) (sc := sc_impl_Matrix_swapRows) (ms := ms_impl_Matrix_swapRows) (args := ag_impl_Matrix_swapRows) (mu := mu_impl_Matrix_swapRows) (res := rs_impl_Matrix_swapRows) (SOk.cons p_impl_Matrix_at <| SOk.consM p_impl_Matrix_set <| SOk.nil) follows_ok k_impl_Matrix_swapRows F_impl_Matrix_swapRows fun x y h => (n_impl_Matrix_swapRows FUEL x).trans (f_impl_Matrix_swapRows x y h)

def fn_impl_rawInverse : SFn := ⟨67, ag_impl_rawInverse, mu_impl_rawInverse, rs_impl_rawInverse, F_impl_rawInverse⟩
def sc_impl_rawInverse : SCode :=
 (.seq
 (.reg false [
 oX 4 (.mv (kX 0))])
 (.seq
 (.reg false [
 oX 5 (.mv (kX 1))])
 (.seq
 (.seq
 (.reg false [
 oX 7 (.mv 0),
 oX 8 (.bin .sub 7 (kX 2)),
 oX 6 (.mv 8)])
 (.join ⟨[(5, sX)], []⟩ [] []
 (.block 0
 (.loop 0 ⟨[(0, sX), (1, sX), (5, sX), (6, sX)], []⟩ [] []
 (.seq
 (.seq
 (.reg false [
 oX 9 (.mv 6),
 oX 10 (.bin .gtr 9 (kX 0))])
 (.cond 10
 .skip
 (.exit 0)))
 (.seq
 (.block 1
 (.seq
 (.seq
 (.reg false [
 oX 13 (.mv 6),
 oX 14 (.bin .and 13 (kX 1)),
 oX 15 (.bin .eql 14 (kX 1))])
 (.join ⟨[(1, sX), (6, sX), (0, sX), (5, sX)], []⟩ [] []
 (.cond 15
 (.reg false [
 oX 16 (.mv 5),
 oX 17 (.mv 1),
 oX 18 (.bin .mul 16 17),
 oX 19 (.mv 0),
 oX 20 (.bin .rem 18 19),
 oX 5 (.mv 20)])
 .skip)))
 (.reg false [
 oX 21 (.mv 1),
 oX 22 (.mv 1),
 oX 23 (.bin .mul 21 22),
 oX 24 (.mv 0),
 oX 25 (.bin .rem 23 24),
 oX 1 (.mv 25)])))
 (.reg false [
 oX 11 (.mv 6),
 oX 12 (.bin .shr 11 (.k (.one (.v (.int .u64) ((1 : Int)))))),
 oX 6 (.mv 12)])))))))
 (.seq
 (.reg false [
 oX 26 (.mv 5),
 oX 4 (.mv 26)])
 .ret))))
def ms_impl_rawInverse : List MRes := [.tmp 4]
theorem n_impl_rawInverse (NN : Nat) (x : DLL (Sig.tys ag_impl_rawInverse)) : runS NN [] sc_impl_rawInverse ms_impl_rawInverse ag_impl_rawInverse rs_impl_rawInverse x = G_impl_rawInverse NN x := by kernel_rfl
theorem k_impl_rawInverse : chkS pX 67 sc_impl_rawInverse.er ms_impl_rawInverse 2 = true := by decide +kernel
theorem p_impl_rawInverse : PureSpec pX 67 fn_impl_rawInverse.M ∧ chkFun pX 67 = true :=
  pure_of_runS (T := []) (sc := sc_impl_rawInverse) (ms := ms_impl_rawInverse) (args := ag_impl_rawInverse) (res := rs_impl_rawInverse) (SOk.nil) follows_ok k_impl_rawInverse F_impl_rawInverse fun x y h => (n_impl_rawInverse FUEL x).trans (f_impl_rawInverse x y h)

def fn_impl_Matrix_addRow : SFn := ⟨68, ag_impl_Matrix_addRow, mu_impl_Matrix_addRow, rs_impl_Matrix_addRow, F_impl_Matrix_addRow⟩
def sc_impl_Matrix_addRow : SCode :=
 (.seq
 (.reg false [
 oX 5 (.box 3 0)])
 (.seq
 (.reg false [
 oX 10 (.mv (kX 0))])
 (.block 0
 (.loop 0 ⟨[(1, sX), (2, sX), (3, sX), (4, sX), (5, .one (rX 5)), (10, sX)], [(1000000, .row false .froz iX), (5, .box [vX, vX, fX 1000000 1])]⟩ [1000000, 5, 500000] [(true, 5, 2, 500000, .froz, [])]
 (.seq
 (.seq
 (.reg false [
 oX 11 (.mv 10),
 oX 12 (.fieldA 1 5),
 oX 13 (.load false 1 12),
 oX 14 (.bin .lss 11 13)])
 (.cond 14
 .skip
 (.exit 0)))
 (.seq
 (.block 1
 (.reg true [
 oX 17 (.load true 3 5),
 oX 18 (.mv 2),
 oX 19 (.mv 10),
 oX 20 (.load true 3 5),
 oX 21 (.mv 2),
 oX 22 (.mv 10),
 oX 23 (.call .froz 62 [20, 21, 22]),
 oX 24 (.mv 4),
 oX 25 (.load true 3 5),
 oX 26 (.mv 3),
 oX 27 (.mv 10),
 oX 28 (.call .froz 62 [25, 26, 27]),
 oX 29 (.bin .mul 24 28),
 oX 30 (.bin .add 23 29),
 oX 31 (.mv 1),
 oX 32 (.bin .rem 30 31),
 oX 33 (.callm .froz 61 [17, 18, 19, 32])]))
 (.reg false [
 oX 15 (.mv 10),
 oX 16 (.bin .add 15 (kX 1)),
 oX 10 (.mv 16)])))))))
def ms_impl_Matrix_addRow : List MRes := []
theorem n_impl_Matrix_addRow (NN : Nat) (x : DLL (Sig.tys ag_impl_Matrix_addRow)) : runMS NN [fn_impl_Matrix_at, fn_impl_Matrix_set] sc_impl_Matrix_addRow ms_impl_Matrix_addRow ag_impl_Matrix_addRow mu_impl_Matrix_addRow rs_impl_Matrix_addRow x = G_impl_Matrix_addRow NN x := by kernel_rfl
theorem k_impl_Matrix_addRow : chkS pX 68 sc_impl_Matrix_addRow.er ms_impl_Matrix_addRow 5 = true := by decide +kernel
theorem p_impl_Matrix_addRow : MutSpec pX 68 mu_impl_Matrix_addRow fn_impl_Matrix_addRow.MM ∧ chkFun pX 68 = true :=
  mut_of_runMS (T := [fn_impl_Matrix_at, fn_impl_Matrix_set]) (sc := sc_impl_Matrix_addRow) (ms := ms_impl_Matrix_addRow) (args := ag_impl_Matrix_addRow) (mu := mu_impl_Matrix_addRow) (res := rs_impl_Matrix_addRow) (SOk.cons p_impl_Matrix_at <| SOk.consM p_impl_Matrix_set <| SOk.nil) follows_ok k_impl_Matrix_addRow F_impl_Matrix_addRow fun x y h => (n_impl_Matrix_addRow FUEL x).trans (f_impl_Matrix_addRow x y h)

def fn_impl_rawReduce : SFn := ⟨44, ag_impl_rawReduce, mu_impl_rawReduce, rs_impl_rawReduce, F_impl_rawReduce⟩
def sc_impl_rawReduce : SCode :=
 (.seq
 (.reg false [
 oX 3 (.box 3 1),
 oX 4 (.alloc [zX, zX, .nil iX]),
 oX 5 (.mv (.k (.one (.nil iX))))])
 (.seq
 (.reg false [
 oX 14 (.load true 3 3),
 oX 15 (.call .froz 65 [14]),
 oX 6 (.alloc [zX, zX, .nil iX]),
 uX (.store 3 6 15)])
 (.seq
 (.reg false [
 oX 7 (.mv (.k (.one (.nil iX))))])
 (.seq
 (.seq
 (.reg false [
 oX 8 (.mv (kX 0))])
 (.join ⟨[(6, .one (rX 6)), (7, .one (fX 500026 1)), (4, .one (rX 4))], [(4, .box [vX, vX, fX 500024 1]), (6, .box [vX, vX, fX 500025 1]), (500024, .row true .froz iX), (500025, .row true .froz iX), (500026, .row true .froz iX)]⟩ [4, 6, 500000, 500001, 500002, 500024, 500025, 500026] [(true, 4, 2, 500024, .froz, []), (true, 6, 2, 500025, .froz, []), (false, 7, 0, 500026, .froz, [])]
 (.block 0
 (.loop 0 ⟨[(0, sX), (4, .one (rX 4)), (6, .one (rX 6)), (7, .one (fX 500002 1)), (8, sX)], [(4, .box [vX, vX, fX 500000 1]), (6, .box [vX, vX, fX 500001 1]), (500000, .row true .froz iX), (500001, .row true .froz iX), (500002, .row true .froz iX)]⟩ [3, 4, 16000, 6, 500000, 500001, 500002, 500021, 500022, 500023] [(true, 4, 2, 500000, .froz, []), (true, 6, 2, 500001, .froz, []), (false, 7, 0, 500002, .froz, [])]
 (.seq
 (.seq
 (.reg false [
 oX 16 (.mv 8),
 oX 17 (.fieldA 1 6),
 oX 18 (.load false 1 17),
 oX 19 (.bin .lss 16 18)])
 (.cond 19
 .skip
 (.exit 0)))
 (.seq
 (.join ⟨[(8, sX), (0, sX), (4, .one (rX 4)), (6, .one (rX 6)), (7, .one (fX 500023 1))], [(4, .box [vX, vX, fX 500021 1]), (6, .box [vX, vX, fX 500022 1]), (500021, .row true .froz iX), (500022, .row true .froz iX), (500023, .row true .froz iX)]⟩ [4, 6, 99, 100, 500006, 500007, 500008, 500018, 500019, 500021, 500022, 500023] [(true, 4, 2, 500021, .froz, []), (true, 6, 2, 500022, .froz, []), (false, 7, 0, 500023, .froz, [])]
 (.block 1
 (.seq
 (.reg false [
 oX 22 (.mv 7),
 oX 23 (.len 22),
 oX 9 (.mv 23)])
 (.seq
 (.reg false [
 oX 24 (.mv 9),
 oX 10 (.mv 24)])
 (.seq
 (.join ⟨[(10, sX), (9, sX), (7, .one (fX 500008 1)), (8, sX), (0, sX), (4, .one (rX 4)), (6, .one (rX 6))], [(4, .box [vX, vX, fX 500006 1]), (6, .box [vX, vX, fX 500007 1]), (500006, .row true .froz iX), (500007, .row true .froz iX), (500008, .row true .froz iX)]⟩ [4, 6, 500003, 500004, 500005, 500006, 500007, 500008] [(true, 4, 2, 500006, .froz, []), (true, 6, 2, 500007, .froz, []), (false, 7, 0, 500008, .froz, [])]
 (.block 2
 (.loop 0 ⟨[(0, sX), (4, .one (rX 4)), (6, .one (rX 6)), (7, .one (fX 500005 1)), (8, sX), (9, sX), (10, sX)], [(4, .box [vX, vX, fX 500003 1]), (6, .box [vX, vX, fX 500004 1]), (500003, .row true .froz iX), (500004, .row true .froz iX), (500005, .row true .froz iX)]⟩ [4, 6, 500000, 500001, 500002, 500003, 500004, 500005] [(true, 4, 2, 500003, .froz, []), (true, 6, 2, 500004, .froz, []), (false, 7, 0, 500005, .froz, [])]
 (.seq
 (.seq
 (.reg false [
 oX 25 (.mv 10),
 oX 26 (.fieldA 0 6),
 oX 27 (.load false 1 26),
 oX 28 (.bin .lss 25 27),
 oX 29 (.mv 28),
 ⟨(some 30), .load true 3 6, (some (29, true))⟩,
 ⟨(some 31), .mv 10, (some (29, true))⟩,
 ⟨(some 32), .mv 8, (some (29, true))⟩,
 ⟨(some 33), .call .froz 62 [30, 31, 32], (some (29, true))⟩,
 ⟨(some 34), .bin .eql 33 (kX 0), (some (29, true))⟩,
 oX 35 (.pick 29 34 (.k (.one (.v (.bool) (false)))))])
 (.cond 35
 .skip
 (.exit 2)))
 (.block 3
 (.reg false [
 oX 36 (.mv 10),
 oX 37 (.bin .add 36 (kX 1)),
 oX 10 (.mv 37)]))))))
 (.seq
 (.seq
 (.reg false [
 oX 38 (.mv 10),
 oX 39 (.fieldA 0 6),
 oX 40 (.load false 1 39),
 oX 41 (.bin .eql 38 40)])
 (.cond 41
 (.exit 1)
 .skip))
 (.seq
 (.reg false [
 oX 42 (.load true 3 6),
 oX 43 (.mv 9),
 oX 44 (.mv 10),
 oX 45 (.callm .froz 66 [42, 43, 44])])
 (.seq
 (.reg false [
 oX 46 (.mv 0),
 oX 47 (.load true 3 6),
 oX 48 (.mv 9),
 oX 49 (.mv 8),
 oX 50 (.call .froz 62 [47, 48, 49]),
 oX 51 (.call .froz 67 [46, 50]),
 oX 11 (.mv 51)])
 (.seq
 (.seq
 (.reg false [
 oX 12 (.mv (kX 0))])
 (.join ⟨[(6, .one (rX 6)), (4, .one (rX 4)), (0, sX), (8, sX), (7, .one (fX 500014 1)), (9, sX)], [(4, .box [vX, vX, fX 500012 1]), (6, .box [vX, vX, fX 500013 1]), (500012, .row true .froz iX), (500013, .row true .froz iX), (500014, .row true .froz iX)]⟩ [4, 6, 500009, 500010, 500011, 500012, 500013, 500014] [(true, 4, 2, 500012, .froz, []), (true, 6, 2, 500013, .froz, []), (false, 7, 0, 500014, .froz, [])]
 (.block 4
 (.loop 0 ⟨[(0, sX), (4, .one (rX 4)), (6, .one (rX 6)), (7, .one (fX 500011 1)), (8, sX), (9, sX), (11, sX), (12, sX)], [(4, .box [vX, vX, fX 500009 1]), (6, .box [vX, vX, fX 500010 1]), (500009, .row true .froz iX), (500010, .row true .froz iX), (500011, .row true .froz iX)]⟩ [4, 6, 500006, 500007, 500008, 500009, 500010, 500011] [(true, 4, 2, 500009, .froz, []), (true, 6, 2, 500010, .froz, []), (false, 7, 0, 500011, .froz, [])]
 (.seq
 (.seq
 (.reg false [
 oX 52 (.mv 12),
 oX 53 (.fieldA 1 6),
 oX 54 (.load false 1 53),
 oX 55 (.bin .lss 52 54)])
 (.cond 55
 .skip
 (.exit 4)))
 (.seq
 (.block 5
 (.reg true [
 oX 58 (.load true 3 6),
 oX 59 (.mv 9),
 oX 60 (.mv 12),
 oX 61 (.load true 3 6),
 oX 62 (.mv 9),
 oX 63 (.mv 12),
 oX 64 (.call .froz 62 [61, 62, 63]),
 oX 65 (.mv 11),
 oX 66 (.bin .mul 64 65),
 oX 67 (.mv 0),
 oX 68 (.bin .rem 66 67),
 oX 69 (.callm .froz 61 [58, 59, 60, 68])]))
 (.reg false [
 oX 56 (.mv 12),
 oX 57 (.bin .add 56 (kX 1)),
 oX 12 (.mv 57)])))))))
 (.seq
 (.seq
 (.reg false [
 oX 13 (.mv (kX 0))])
 (.join ⟨[(7, .one (fX 500020 1)), (8, sX), (0, sX), (4, .one (rX 4)), (6, .one (rX 6))], [(4, .box [vX, vX, fX 500018 1]), (6, .box [vX, vX, fX 500019 1]), (500018, .row true .froz iX), (500019, .row true .froz iX), (500020, .row true .froz iX)]⟩ [4, 6, 500015, 500016, 500017, 500018, 500019, 500020] [(true, 4, 2, 500018, .froz, []), (true, 6, 2, 500019, .froz, []), (false, 7, 0, 500020, .froz, [])]
 (.block 6
 (.loop 0 ⟨[(0, sX), (4, .one (rX 4)), (6, .one (rX 6)), (7, .one (fX 500017 1)), (8, sX), (9, sX), (13, sX)], [(4, .box [vX, vX, fX 500015 1]), (6, .box [vX, vX, fX 500016 1]), (500015, .row true .froz iX), (500016, .row true .froz iX), (500017, .row true .froz iX)]⟩ [4, 6, 500012, 500013, 500014, 500015, 500016, 500017] [(true, 4, 2, 500015, .froz, []), (true, 6, 2, 500016, .froz, []), (false, 7, 0, 500017, .froz, [])]
 (.seq
 (.seq
 (.reg false [
 oX 70 (.mv 13),
 oX 71 (.fieldA 0 6),
 oX 72 (.load false 1 71),
 oX 73 (.bin .lss 70 72)])
 (.cond 73
 .skip
 (.exit 6)))
 (.seq
 (.block 7
 (.seq
 (.reg false [
 oX 76 (.mv 13),
 oX 77 (.mv 9),
 oX 78 (.bin .neq 76 77),
 oX 79 (.mv 78),
 ⟨(some 80), .load true 3 6, (some (79, true))⟩,
 ⟨(some 81), .mv 13, (some (79, true))⟩,
 ⟨(some 82), .mv 8, (some (79, true))⟩,
 ⟨(some 83), .call .froz 62 [80, 81, 82], (some (79, true))⟩,
 ⟨(some 84), .bin .neq 83 (kX 0), (some (79, true))⟩,
 oX 85 (.pick 79 84 (.k (.one (.v (.bool) (false)))))])
 (.cond 85
 (.reg true [
 oX 86 (.load true 3 6),
 oX 87 (.mv 0),
 oX 88 (.mv 13),
 oX 89 (.mv 9),
 oX 90 (.mv 0),
 oX 91 (.load true 3 6),
 oX 92 (.mv 13),
 oX 93 (.mv 8),
 oX 94 (.call .froz 62 [91, 92, 93]),
 oX 95 (.bin .sub 90 94),
 oX 96 (.callm .froz 68 [86, 87, 88, 89, 95])])
 .skip)))
 (.reg false [
 oX 74 (.mv 13),
 oX 75 (.bin .add 74 (kX 1)),
 oX 13 (.mv 75)])))))))
 (.reg false [
 oX 97 (.mv 7),
 oX 98 (.mv 8),
 oX 99 (.bslice iX [98]),
 oX 100 (.append true iX 8 97 99),
 oX 7 (.mv 100)])))))))))))
 (.reg false [
 oX 20 (.mv 8),
 oX 21 (.bin .add 20 (kX 1)),
 oX 8 (.mv 21)])))))))
 (.seq
 (.reg false [
 oX 101 (.load true 3 6),
 oX 102 (.mv 7),
 uX (.store 3 4 101),
 oX 5 (.mv 102)])
 .ret)))))
def ms_impl_rawReduce : List MRes := [.cell 4 3 true, .tmp 5]
theorem n_impl_rawReduce (NN : Nat) (x : DLL (Sig.tys ag_impl_rawReduce)) : runS NN [fn_impl_copyMatrix, fn_impl_Matrix_at, fn_impl_Matrix_swapRows, fn_impl_rawInverse, fn_impl_Matrix_set, fn_impl_Matrix_addRow] sc_impl_rawReduce ms_impl_rawReduce ag_impl_rawReduce rs_impl_rawReduce x = G_impl_rawReduce NN x := by kernel_rfl
theorem k_impl_rawReduce : chkS pX 44 sc_impl_rawReduce.er ms_impl_rawReduce 2 = true := by decide +kernel
theorem p_impl_rawReduce : PureSpec pX 44 fn_impl_rawReduce.M ∧ chkFun pX 44 = true :=
  pure_of_runS (T := [fn_impl_copyMatrix, fn_impl_Matrix_at, fn_impl_Matrix_swapRows, fn_impl_rawInverse, fn_impl_Matrix_set, fn_impl_Matrix_addRow]) (sc := sc_impl_rawReduce) (ms := ms_impl_rawReduce) (args := ag_impl_rawReduce) (res := rs_impl_rawReduce) (SOk.cons p_impl_copyMatrix <| SOk.cons p_impl_Matrix_at <| SOk.consM p_impl_Matrix_swapRows <| SOk.cons p_impl_rawInverse <| SOk.consM p_impl_Matrix_set <| SOk.consM p_impl_Matrix_addRow <| SOk.nil) follows_ok k_impl_rawReduce F_impl_rawReduce fun x y h => (n_impl_rawReduce FUEL x).trans (f_impl_rawReduce x y h)

def fn_impl_ReduceMatrix : SFn := ⟨17, ag_impl_ReduceMatrix, mu_impl_ReduceMatrix, rs_impl_ReduceMatrix, F_impl_ReduceMatrix⟩
def sc_impl_ReduceMatrix : SCode :=
 (.seq
 (.reg false [
 oX 3 (.box 3 1),
 oX 4 (.alloc [zX, zX, .nil iX]),
 oX 5 (.mv (.k (.one (.nil iX))))])
 (.seq
 (.seq
 (.reg false [
 oX 6 (.mv 0),
 oX 7 (.load true 3 3),
 oX 8 (.call .froz 43 [6, 7]),
 oX 9 (.un .not 8)])
 (.cond 9
 (.seq
 (.reg false [
 oX 10 (.build [zX, zX, .nil iX] []),
 uX (.store 3 4 10),
 oX 5 (.mv (.k (.one (.nil iX))))])
 .ret)
 .skip))
 (.seq
 (.reg false [
 oX 11 (.mv 0),
 oX 12 (.load true 3 3),
 oX 13 (.call .froz 44 [11, 12]),
 oX 14 (.ext 0 13),
 oX 15 (.ext 1 13),
 uX (.store 3 4 14),
 oX 5 (.mv 15)])
 .ret)))
def ms_impl_ReduceMatrix : List MRes := [.cell 4 3 true, .tmp 5]
theorem n_impl_ReduceMatrix (NN : Nat) (x : DLL (Sig.tys ag_impl_ReduceMatrix)) : runS NN [fn_impl_MatrixOk, fn_impl_rawReduce] sc_impl_ReduceMatrix ms_impl_ReduceMatrix ag_impl_ReduceMatrix rs_impl_ReduceMatrix x = G_impl_ReduceMatrix NN x := by kernel_rfl
theorem k_impl_ReduceMatrix : chkS pX 17 sc_impl_ReduceMatrix.er ms_impl_ReduceMatrix 2 = true := by decide +kernel
theorem p_impl_ReduceMatrix : PureSpec pX 17 fn_impl_ReduceMatrix.M ∧ chkFun pX 17 = true :=
  pure_of_runS (T := [fn_impl_MatrixOk, fn_impl_rawReduce]) (sc := sc_impl_ReduceMatrix) (ms := ms_impl_ReduceMatrix) (args := ag_impl_ReduceMatrix) (res := rs_impl_ReduceMatrix) (SOk.cons p_impl_MatrixOk <| SOk.cons p_impl_rawReduce <| SOk.nil) follows_ok k_impl_ReduceMatrix F_impl_ReduceMatrix fun x y h => (n_impl_ReduceMatrix FUEL x).trans (f_impl_ReduceMatrix x y h)

def fn_laws_ints : SFn := ⟨18, ag_laws_ints, mu_laws_ints, rs_laws_ints, F_laws_ints⟩
def sc_laws_ints : SCode :=
 (.seq
 (.reg false [
 oX 4 (.mv (.k (.one (.v (.bool) (false)))))])
 (.seq
 (.seq
 (.reg false [
 oX 7 (.mv 0),
 oX 8 (.len 7),
 oX 9 (.mv (kX 0))])
 (.join ⟨[(0, .one (.c (.v (lX)))), (1, .one (.c (.v (lX))))], []⟩ [] []
 (.block 0
 (.loop 0 ⟨[(0, .one (.c (.v (lX)))), (1, .one (.c (.v (lX)))), (7, .one (.c (.v (lX)))), (8, sX), (9, sX)], []⟩ [] []
 (.seq
 (.reg false [
 oX 10 (.bin .lss 9 8)])
 (.seq
 (.cond 10
 .skip
 (.exit 0))
 (.seq
 (.block 1
 (.seq
 (.reg false [
 oX 11 (.mv 9),
 oX 12 (.idxA 1 7 9),
 oX 13 (.load false 1 12),
 oX 5 (.mv 11),
 oX 6 (.mv 13)])
 (.seq
 (.reg false [
 oX 14 (.mv 5),
 oX 15 (.mv 1),
 oX 16 (.len 15),
 oX 17 (.bin .geq 14 16),
 oX 18 (.mv 17),
 ⟨(some 19), .mv 1, (some (18, false))⟩,
 ⟨(some 20), .mv 5, (some (18, false))⟩,
 ⟨(some 21), .idxA 1 19 20, (some (18, false))⟩,
 ⟨(some 22), .load false 1 21, (some (18, false))⟩,
 ⟨(some 23), .mv 6, (some (18, false))⟩,
 ⟨(some 24), .bin .neq 22 23, (some (18, false))⟩,
 oX 25 (.pick 18 (.k (.one (.v (.bool) (true)))) 24)])
 (.cond 25
 (.seq
 (.reg false [
 oX 4 (.mv (.k (.one (.v (.bool) (false)))))])
 .ret)
 .skip))))
 (.reg false [
 oX 26 (.bin .add 9 (kX 1)),
 oX 9 (.mv 26)]))))))))
 (.seq
 (.reg false [
 oX 27 (.mv 0),
 oX 28 (.len 27),
 oX 29 (.mv 1),
 oX 30 (.len 29),
 oX 31 (.bin .eql 28 30),
 oX 4 (.mv 31)])
 .ret)))
def ms_laws_ints : List MRes := [.tmp 4]
theorem n_laws_ints (NN : Nat) (x : DLL (Sig.tys ag_laws_ints)) : runS NN [] sc_laws_ints ms_laws_ints ag_laws_ints rs_laws_ints x = G_laws_ints NN x := by kernel_rfl
theorem k_laws_ints : chkS pX 18 sc_laws_ints.er ms_laws_ints 2 = true := by decide +kernel
theorem p_laws_ints : PureSpec pX 18 fn_laws_ints.M ∧ chkFun pX 18 = true :=
  pure_of_runS (T := []) (sc := sc_laws_ints) (ms := ms_laws_ints) (args := ag_laws_ints) (res := rs_laws_ints) (SOk.nil) follows_ok k_laws_ints F_laws_ints fun x y h => (n_laws_ints FUEL x).trans (f_laws_ints x y h)

def fn_impl_RankMatrix : SFn := ⟨19, ag_impl_RankMatrix, mu_impl_RankMatrix, rs_impl_RankMatrix, F_impl_RankMatrix⟩
def sc_impl_RankMatrix : SCode :=
 (.seq
 (.reg false [
 oX 3 (.box 3 1),
 oX 4 (.mv (kX 0))])
 (.seq
 (.seq
 (.reg false [
 oX 7 (.mv 0),
 oX 8 (.load true 3 3),
 oX 9 (.call .froz 43 [7, 8]),
 oX 10 (.un .not 9)])
 (.cond 10
 (.seq
 (.reg false [
 oX 4 (.mv (kX (-1)))])
 .ret)
 .skip))
 (.seq
 (.reg false [
 oX 12 (.mv 0),
 oX 13 (.load true 3 3),
 oX 14 (.call .froz 44 [12, 13]),
 oX 11 (.mv 14),
 oX 15 (.ext 0 11),
 oX 16 (.ext 1 11),
 oX 5 (.alloc [zX, zX, .nil iX]),
 uX (.store 3 5 15),
 oX 6 (.mv 16)])
 (.seq
 (.reg false [
 oX 17 (.mv 6),
 oX 18 (.len 17),
 oX 4 (.mv 18)])
 .ret))))
def ms_impl_RankMatrix : List MRes := [.tmp 4]
theorem n_impl_RankMatrix (NN : Nat) (x : DLL (Sig.tys ag_impl_RankMatrix)) : runS NN [fn_impl_MatrixOk, fn_impl_rawReduce] sc_impl_RankMatrix ms_impl_RankMatrix ag_impl_RankMatrix rs_impl_RankMatrix x = G_impl_RankMatrix NN x := by kernel_rfl
theorem k_impl_RankMatrix : chkS pX 19 sc_impl_RankMatrix.er ms_impl_RankMatrix 2 = true := by decide +kernel
theorem p_impl_RankMatrix : PureSpec pX 19 fn_impl_RankMatrix.M ∧ chkFun pX 19 = true :=
  pure_of_runS (T := [fn_impl_MatrixOk, fn_impl_rawReduce]) (sc := sc_impl_RankMatrix) (ms := ms_impl_RankMatrix) (args := ag_impl_RankMatrix) (res := rs_impl_RankMatrix) (SOk.cons p_impl_MatrixOk <| SOk.cons p_impl_rawReduce <| SOk.nil) follows_ok k_impl_RankMatrix F_impl_RankMatrix fun x y h => (n_impl_RankMatrix FUEL x).trans (f_impl_RankMatrix x y h)

def fn_laws_join : SFn := ⟨20, ag_laws_join, mu_laws_join, rs_laws_join, F_laws_join⟩
def sc_laws_join : SCode :=
 (.seq
 (.reg false [
 oX 4 (.mv (.k (.one (.nil iX))))])
 (.seq
 (.reg false [
 oX 5 (.bslice iX []),
 oX 6 (.mv 0),
 oX 7 (.append true iX 8 5 6),
 oX 8 (.mv 1),
 oX 9 (.append true iX 8 7 8),
 oX 4 (.mv 9)])
 .ret))
def ms_laws_join : List MRes := [.tmp 4]
theorem n_laws_join (NN : Nat) (x : DLL (Sig.tys ag_laws_join)) : runS NN [] sc_laws_join ms_laws_join ag_laws_join rs_laws_join x = G_laws_join NN x := by kernel_rfl
theorem k_laws_join : chkS pX 20 sc_laws_join.er ms_laws_join 2 = true := by decide +kernel
theorem p_laws_join : PureSpec pX 20 fn_laws_join.M ∧ chkFun pX 20 = true :=
  pure_of_runS (T := []) (sc := sc_laws_join) (ms := ms_laws_join) (args := ag_laws_join) (res := rs_laws_join) (SOk.nil) follows_ok k_laws_join F_laws_join fun x y h => (n_laws_join FUEL x).trans (f_laws_join x y h)

def fn_laws_FnReduced : SFn := ⟨4, ag_laws_FnReduced, mu_laws_FnReduced, rs_laws_FnReduced, F_laws_FnReduced⟩
def sc_laws_FnReduced : SCode :=
 (.seq
 (.reg false [
 oX 2 (.mv (.k (.one (.v (.bool) (false)))))])
 (.seq
 (.seq
 (.reg false [
 oX 14 (.mv 0),
 oX 15 (.len 14),
 oX 16 (.bin .gtr 15 (kX 1048576))])
 (.cond 16
 (.seq
 (.reg false [
 oX 2 (.mv (.k (.one (.v (.bool) (true)))))])
 .ret)
 .skip))
 (.seq
 (.reg false [
 oX 17 (.mv 0),
 oX 18 (.callb 15 [17, (kX 0)]),
 oX 3 (.mv 18)])
 (.seq
 (.reg false [
 oX 19 (.mv 0),
 oX 20 (.mv 3),
 oX 21 (.mv 0),
 oX 22 (.callb 11 [21, (kX 2), (kX 1), (kX 4)]),
 oX 23 (.mv 0),
 oX 24 (.callb 11 [23, (kX 4), (kX 1), (kX 4)]),
 oX 25 (.callb 16 [19, (kX 10), 20, 22, 24]),
 oX 4 (.alloc [zX, zX, .nil iX]),
 uX (.store 3 4 25)])
 (.seq
 (.reg false [
 oX 27 (.mv 3),
 oX 28 (.load true 3 4),
 oX 29 (.call .froz 17 [27, 28]),
 oX 26 (.mv 29),
 oX 30 (.ext 0 26),
 oX 31 (.ext 1 26),
 oX 5 (.alloc [zX, zX, .nil iX]),
 uX (.store 3 5 30),
 oX 6 (.mv 31)])
 (.seq
 (.reg false [
 oX 33 (.mv 3),
 oX 34 (.load true 3 5),
 oX 35 (.call .froz 17 [33, 34]),
 oX 32 (.mv 35),
 oX 36 (.ext 0 32),
 oX 37 (.ext 1 32),
 oX 7 (.alloc [zX, zX, .nil iX]),
 uX (.store 3 7 36),
 oX 8 (.mv 37)])
 (.seq
 (.seq
 (.reg false [
 oX 38 (.fieldA 0 5),
 oX 39 (.load false 1 38),
 oX 40 (.fieldA 0 4),
 oX 41 (.load false 1 40),
 oX 42 (.bin .neq 39 41),
 oX 43 (.mv 42),
 ⟨(some 44), .fieldA 1 5, (some (43, false))⟩,
 ⟨(some 45), .load false 1 44, (some (43, false))⟩,
 ⟨(some 46), .fieldA 1 4, (some (43, false))⟩,
 ⟨(some 47), .load false 1 46, (some (43, false))⟩,
 ⟨(some 48), .bin .neq 45 47, (some (43, false))⟩,
 oX 49 (.pick 43 (.k (.one (.v (.bool) (true)))) 48),
 oX 50 (.mv 49),
 ⟨(some 51), .fieldA 2 5, (some (50, false))⟩,
 ⟨(some 52), .load false 1 51, (some (50, false))⟩,
 ⟨(some 53), .len 52, (some (50, false))⟩,
 ⟨(some 54), .fieldA 2 4, (some (50, false))⟩,
 ⟨(some 55), .load false 1 54, (some (50, false))⟩,
 ⟨(some 56), .len 55, (some (50, false))⟩,
 ⟨(some 57), .bin .neq 53 56, (some (50, false))⟩,
 oX 58 (.pick 50 (.k (.one (.v (.bool) (true)))) 57),
 oX 59 (.mv 58),
 ⟨(some 60), .fieldA 2 5, (some (59, false))⟩,
 ⟨(some 61), .load false 1 60, (some (59, false))⟩,
 ⟨(some 62), .fieldA 2 7, (some (59, false))⟩,
 ⟨(some 63), .load false 1 62, (some (59, false))⟩,
 ⟨(some 64), .call .froz 18 [61, 63], (some (59, false))⟩,
 ⟨(some 65), .un .not 64, (some (59, false))⟩,
 oX 66 (.pick 59 (.k (.one (.v (.bool) (true)))) 65),
 oX 67 (.mv 66),
 ⟨(some 68), .mv 6, (some (67, false))⟩,
 ⟨(some 69), .mv 8, (some (67, false))⟩,
 ⟨(some 70), .call .froz 18 [68, 69], (some (67, false))⟩,
 ⟨(some 71), .un .not 70, (some (67, false))⟩,
 oX 72 (.pick 67 (.k (.one (.v (.bool) (true)))) 71),
 oX 73 (.mv 72),
 ⟨(some 74), .mv 6, (some (73, false))⟩,
 ⟨(some 75), .len 74, (some (73, false))⟩,
 ⟨(some 76), .mv 3, (some (73, false))⟩,
 ⟨(some 77), .load true 3 4, (some (73, false))⟩,
 ⟨(some 78), .call .froz 19 [76, 77], (some (73, false))⟩,
 ⟨(some 79), .bin .neq 75 78, (some (73, false))⟩,
 oX 80 (.pick 73 (.k (.one (.v (.bool) (true)))) 79)])
 (.cond 80
 (.seq
 (.reg false [
 oX 2 (.mv (.k (.one (.v (.bool) (false)))))])
 .ret)
 .skip))
 (.seq
 (.seq
 (.reg false [
 oX 81 (.mv 6),
 oX 82 (.len 81),
 oX 83 (.mv (kX 0))])
 (.join ⟨[(4, .one (rX 4)), (5, .one (rX 5)), (3, sX), (6, .one (fX 500007 1))], [(4, .box [vX, vX, .c (.v (lX))]), (5, .box [vX, vX, fX 500006 1]), (500006, .row true .froz iX), (500007, .row true .froz iX)]⟩ [4, 5, 500000, 500001, 500006, 500007] [(true, 5, 2, 500006, .froz, []), (false, 6, 0, 500007, .froz, [])]
 (.block 0
 (.loop 0 ⟨[(3, sX), (4, .one (rX 4)), (5, .one (rX 5)), (6, .one (fX 500001 1)), (81, .one (fX 500001 1)), (82, sX), (83, sX)], [(4, .box [vX, vX, .c (.v (lX))]), (5, .box [vX, vX, fX 500000 1]), (500000, .row true .froz iX), (500001, .row true .froz iX)]⟩ [4, 30000, 30001, 5, 36000, 36001, 7, 500000, 500001, 500004, 500005] [(true, 5, 2, 500000, .froz, []), (false, 6, 0, 500001, .froz, [])]
 (.seq
 (.reg false [
 oX 84 (.bin .lss 83 82)])
 (.seq
 (.cond 84
 .skip
 (.exit 0))
 (.seq
 (.join ⟨[(83, sX), (3, sX), (4, .one (rX 4)), (5, .one (rX 5)), (6, .one (fX 500005 1)), (81, .one (fX 500005 1)), (82, sX)], [(4, .box [vX, vX, .c (.v (lX))]), (5, .box [vX, vX, fX 500004 1]), (500004, .row true .froz iX), (500005, .row true .froz iX)]⟩ [4, 5, 500002, 500003, 500004, 500005] [(true, 5, 2, 500004, .froz, []), (false, 6, 0, 500005, .froz, [])]
 (.block 1
 (.seq
 (.reg false [
 oX 85 (.mv 83),
 oX 86 (.idxA 1 81 83),
 oX 87 (.load false 1 86),
 oX 9 (.mv 85),
 oX 10 (.mv 87)])
 (.seq
 (.reg false [
 oX 11 (.mv (kX 0))])
 (.block 2
 (.loop 0 ⟨[(3, sX), (4, .one (rX 4)), (5, .one (rX 5)), (6, .one (fX 500003 1)), (9, sX), (10, sX), (11, sX), (81, .one (fX 500003 1)), (82, sX), (83, sX)], [(4, .box [vX, vX, .c (.v (lX))]), (5, .box [vX, vX, fX 500002 1]), (500002, .row true .froz iX), (500003, .row true .froz iX)]⟩ [4, 5, 500000, 500001, 500002, 500003] [(true, 5, 2, 500002, .froz, []), (false, 6, 0, 500003, .froz, [])]
 (.seq
 (.seq
 (.reg false [
 oX 88 (.mv 11),
 oX 89 (.fieldA 0 5),
 oX 90 (.load false 1 89),
 oX 91 (.bin .lss 88 90)])
 (.cond 91
 .skip
 (.exit 2)))
 (.seq
 (.block 3
 (.seq
 (.reg false [
 oX 94 (.fieldA 2 5),
 oX 95 (.load false 1 94),
 oX 96 (.mv 11),
 oX 97 (.fieldA 1 5),
 oX 98 (.load false 1 97),
 oX 99 (.bin .mul 96 98),
 oX 100 (.mv 10),
 oX 101 (.bin .add 99 100),
 oX 102 (.idxA 1 95 101),
 oX 103 (.load false 1 102),
 oX 12 (.mv 103)])
 (.seq
 (.reg false [
 oX 104 (.mv 11),
 oX 105 (.mv 9),
 oX 106 (.bin .eql 104 105),
 oX 107 (.mv 106),
 ⟨(some 108), .mv 12, (some (107, true))⟩,
 ⟨(some 109), .bin .neq 108 (kX 1), (some (107, true))⟩,
 oX 110 (.pick 107 109 (.k (.one (.v (.bool) (false))))),
 oX 111 (.mv 110),
 ⟨(some 112), .mv 11, (some (111, false))⟩,
 ⟨(some 113), .mv 9, (some (111, false))⟩,
 ⟨(some 114), .bin .neq 112 113, (some (111, false))⟩,
 ⟨(some 115), .mv 114, (some (111, false))⟩,
 ⟨(some 116), .mv 12, (some (115, true))⟩,
 ⟨(some 117), .bin .neq 116 (kX 0), (some (115, true))⟩,
 ⟨(some 118), .pick 115 117 (.k (.one (.v (.bool) (false)))), (some (111, false))⟩,
 oX 119 (.pick 111 (.k (.one (.v (.bool) (true)))) 118)])
 (.cond 119
 (.seq
 (.reg false [
 oX 2 (.mv (.k (.one (.v (.bool) (false)))))])
 .ret)
 .skip))))
 (.reg false [
 oX 92 (.mv 11),
 oX 93 (.bin .add 92 (kX 1)),
 oX 11 (.mv 93)])))))))))
 (.reg false [
 oX 120 (.bin .add 83 (kX 1)),
 oX 83 (.mv 120)]))))))))
 (.seq
 (.reg true [
 oX 121 (.fieldA 0 4),
 oX 122 (.load false 1 121),
 oX 123 (.bin .mul (kX 2) 122),
 oX 124 (.fieldA 1 4),
 oX 125 (.load false 1 124),
 oX 126 (.fieldA 2 4),
 oX 127 (.load false 1 126),
 oX 128 (.fieldA 2 5),
 oX 129 (.load false 1 128),
 oX 130 (.call .froz 20 [127, 129]),
 oX 131 (.build [zX, zX, .nil iX] [(0, 1, 123), (1, 1, 125), (2, 1, 130)]),
 oX 13 (.alloc [zX, zX, .nil iX]),
 uX (.store 3 13 131)])
 (.seq
 (.reg false [
 oX 132 (.mv 3),
 oX 133 (.load true 3 13),
 oX 134 (.call .froz 19 [132, 133]),
 oX 135 (.mv 6),
 oX 136 (.len 135),
 oX 137 (.bin .eql 134 136),
 oX 2 (.mv 137)])
 .ret))))))))))
def ms_laws_FnReduced : List MRes := [.tmp 2]
theorem n_laws_FnReduced (NN : Nat) (x : DLL (Sig.tys ag_laws_FnReduced)) : runS NN [fn_spec_MakePrime, fn_spec_MakeSize, fn_spec_MakeMatrix, fn_impl_ReduceMatrix, fn_laws_ints, fn_impl_RankMatrix, fn_laws_join] sc_laws_FnReduced ms_laws_FnReduced ag_laws_FnReduced rs_laws_FnReduced x = G_laws_FnReduced NN x := by kernel_rfl
theorem k_laws_FnReduced : chkS pX 4 sc_laws_FnReduced.er ms_laws_FnReduced 1 = true := by decide +kernel
theorem p_laws_FnReduced : PureSpec pX 4 fn_laws_FnReduced.M ∧ chkFun pX 4 = true :=
  pure_of_runS (T := [fn_spec_MakePrime, fn_spec_MakeSize, fn_spec_MakeMatrix, fn_impl_ReduceMatrix, fn_laws_ints, fn_impl_RankMatrix, fn_laws_join]) (sc := sc_laws_FnReduced) (ms := ms_laws_FnReduced) (args := ag_laws_FnReduced) (res := rs_laws_FnReduced) (SOk.consV p_spec_MakePrime <| SOk.consV p_spec_MakeSize <| SOk.consV p_spec_MakeMatrix <| SOk.cons p_impl_ReduceMatrix <| SOk.cons p_laws_ints <| SOk.cons p_impl_RankMatrix <| SOk.cons p_laws_join <| SOk.nil) follows_ok k_laws_FnReduced F_laws_FnReduced fun x y h => (n_laws_FnReduced FUEL x).trans (f_laws_FnReduced x y h)

end Go.Am
