/- A_FnChains: the code of the functions of FnChains. No condition. -/
import Derived.Test.YtbgmbplglejidaaLFnChains
import Derived.Test.YtbgmbplglejidaaBr2
import Derived.KernelRfl
import Derived.Test.YtbgmbplglejidaaRows
import Derived.Test.YtbgmbplglejidaaTLen
set_option linter.unusedVariables false
set_option maxRecDepth 100000
namespace Go.Am
theorem cE:Go.Proofs.Try.prog.follows .mixedOrders=true:=by decide+kernel
noncomputable abbrev pX:=Go.Proofs.Try.prog
def oX (n:Nat) (x:cG):fi:=⟨some n,x,none⟩
def uX (x:cG):fi:=⟨none,x,none⟩
def kX (n:Int):cC:=.k (.one (.v (.int .i64) n))
def sX:iU:=.one (.c (.v (.int .i64)))
def iX:List Ty:=[.int .i64]
def lX:Ty:=.list iX
def gX:List Ty:=[.int .i64,.int .i64,.int .i64,lX]
def zX:SC:=.v (.int .i64) (0:Int)
def vX:dV:=.c (.v (.int .i64))
def fX (n k:Nat):dV:=.c (.full n k)
def rX (n:Nat):dV:=.c (.EK n 0)
instance tX (n:Nat):OfNat cC n:=⟨.t n⟩
def Nz:ar:=⟨96,Hf,akn,SP,z3⟩
def T5:bw:=
 (.seq
 (.ab false [
 oX 2 (.mv (.k (.one (.bm))))])
 (.seq
 (.ab false [
 oX 5 (.mv 0),
 oX 6 (.len 5),
 oX 7 (.bin .add (kX 55127) 6),
 oX 3 (.mv 7)])
 (.seq
 (.seq
 (.ab false [
 oX 4 (.mv (kX 0))])
 (.join ⟨[(0,.one (.c (.v (.list [.int .u8])))),(3,sX)],[]⟩ [] []
 (.block 0
 (.loop 0 ⟨[(0,.one (.c (.v (.list [.int .u8])))),(3,sX),(4,sX)],[]⟩ [] []
 (.seq
 (.seq
 (.ab false [
 oX 8 (.mv 4),
 oX 9 (.mv 0),
 oX 10 (.len 9),
 oX 11 (.bin .lss 8 10),
 oX 12 (.mv 11),
 ⟨(some 13),.mv 4,(some (12,true))⟩,
 ⟨(some 14),.bin .lss 13 (kX 4000),(some (12,true))⟩,
 oX 15 (.pick 12 14 (.k (.one (.v (.bool) (false)))))])
 (.cond 15
 .skip
 (.exit 0)))
 (.seq
 (.block 1
 (.ab false [
 oX 18 (.mv 3),
 oX 19 (.bin .mul 18 (kX 131)),
 oX 20 (.mv 0),
 oX 21 (.mv 4),
 oX 22 (.bX 1 20 21),
 oX 23 (.load false 1 22),
 oX 24 (.conv .i64 23),
 oX 25 (.bin .add 19 24),
 oX 26 (.bin .add 25 (kX 7)),
 oX 27 (.bin .and 26 (kX 1073741823)),
 oX 3 (.mv 27)]))
 (.ab false [
 oX 16 (.mv 4),
 oX 17 (.bin .add 16 (kX 1)),
 oX 4 (.mv 17)])))))))
 (.seq
 (.ab false [
 oX 28 (.mv 0),
 oX 29 (.mv 3),
 oX 30 (.build [.nil [.int .u8],zX,zX] [(0,1,28),(2,1,29)]),
 oX 31 (.box 3 30),
 oX 2 (.mv 31)])
 .ret))))
def QU:List bA:=[.tmp 2]
theorem alx (NN:Nat) (x:aQ (ak.aP Hf)):lU NN [] T5 QU Hf SP x=FX NN x:=by kernel_rfl
theorem ai7:cb pX 96 T5.er QU 1=true:=by decide+kernel
theorem amM:jM Go.Proofs.Try.prog 96 Nz.MV/\bC pX 96=true:=
  nD (T:=[]) (sc:=T5) (ms:=QU) (args:=Hf) (aA:=SP) (aw.nil) cE ai7 z3 fun x y h=>(alx ax x).trans (ago x y h)
def tS:ar:=⟨54,Ho,aku,SY,tw⟩
def Uc:bw:=
 (.seq
 (.ab false [
 oX 4 (.mv (.k (.one (.bm))))])
 (.seq
 (.ab false [
 oX 6 (.mv 0),
 oX 7 (.du 96 [6]),
 oX 5 (.mv 7)])
 (.seq
 (.ab false [
 oX 8 (.mv 5),
 oX 9 (.mv 1),
 oX 10 (.mv 0),
 oX 11 (.len 10),
 oX 12 (.mm false 9 11),
 oX 13 (.gE 8),
 oX 14 (.aF 1 13),
 uX (.store 1 14 12)])
 (.seq
 (.ab false [
 oX 15 (.mv 5),
 oX 16 (.mv 5),
 oX 17 (.gE 16),
 oX 18 (.aF 2 17),
 oX 19 (.load false 1 18),
 oX 20 (.bin .mul 19 (kX 31)),
 oX 21 (.mv 1),
 oX 22 (.bin .mul 21 (kX 7919)),
 oX 23 (.bin .add 20 22),
 oX 24 (.bin .add 23 (kX 1)),
 oX 25 (.bin .and 24 (kX 1073741823)),
 oX 26 (.gE 15),
 oX 27 (.aF 2 26),
 uX (.store 1 27 25)])
 (.seq
 (.ab false [
 oX 28 (.mv 5),
 oX 4 (.mv 28)])
 .ret)))))
def Q1:List bA:=[.tmp 4]
theorem alE (NN:Nat) (x:aQ (ak.aP Ho)):lU NN [Nz] Uc Q1 Ho SY x=F6 NN x:=by kernel_rfl
theorem aje:cb pX 54 Uc.er Q1 2=true:=by decide+kernel
theorem JI:jM Go.Proofs.Try.prog 54 tS.MV/\bC pX 54=true:=
  nD (T:=[Nz]) (sc:=Uc) (ms:=Q1) (args:=Ho) (aA:=SY) (aw.io amM<|aw.nil) cE aje tw fun x y h=>(alE ax x).trans (agw x y h)
def Dy:ar:=⟨105,He,akm,SO,vo⟩
def T4:bw:=
 (.seq
 (.ab false [
 oX 2 (.mv (kX 0))])
 (.seq
 (.ab false [
 oX 4 (.mv 0),
 oX 5 (.mv 0),
 oX 6 (.gE 5),
 oX 7 (.aF 2 6),
 oX 8 (.load false 1 7),
 oX 9 (.bin .mul 8 (kX 6364136223846793005)),
 oX 10 (.bin .add 9 (kX 1442695040888963407)),
 oX 11 (.gE 4),
 oX 12 (.aF 2 11),
 uX (.store 1 12 10)])
 (.seq
 (.ab true [
 oX 13 (.mv 0),
 oX 14 (.gE 13),
 oX 15 (.aF 2 14),
 oX 16 (.load false 1 15),
 oX 17 (.bin .shr 16 (.k (.one (.v (.int .u64) ((33:Int)))))),
 oX 18 (.mv 0),
 oX 19 (.gE 18),
 oX 20 (.aF 2 19),
 oX 21 (.load false 1 20),
 oX 22 (.bin .shr 21 (.k (.one (.v (.int .u64) ((45:Int)))))),
 oX 23 (.bin .xor 17 22),
 oX 24 (.bin .and 23 (kX 255)),
 oX 3 (.mv 24)])
 (.seq
 (.seq
 (.ab true [
 oX 25 (.mv 0),
 oX 26 (.gE 25),
 oX 27 (.aF 1 26),
 oX 28 (.load false 1 27),
 oX 29 (.mv 0),
 oX 30 (.gE 29),
 oX 31 (.aF 0 30),
 oX 32 (.load false 1 31),
 oX 33 (.len 32),
 oX 34 (.bin .lss 28 33)])
 (.join ⟨[(3,sX)],[(1000000,.box [.c (.v (.list [.int .u8])),vX,vX])]⟩ [1000000] []
 (.cond 34
 (.seq
 (.ab true [
 oX 35 (.mv 3),
 oX 36 (.mv 0),
 oX 37 (.gE 36),
 oX 38 (.aF 0 37),
 oX 39 (.load false 1 38),
 oX 40 (.mv 0),
 oX 41 (.gE 40),
 oX 42 (.aF 1 41),
 oX 43 (.load false 1 42),
 oX 44 (.bX 1 39 43),
 oX 45 (.load false 1 44),
 oX 46 (.conv .i64 45),
 oX 47 (.bin .add 35 46),
 oX 48 (.bin .and 47 (kX 255)),
 oX 3 (.mv 48)])
 (.ab false [
 oX 49 (.mv 0),
 oX 50 (.mv 0),
 oX 51 (.gE 50),
 oX 52 (.aF 1 51),
 oX 53 (.load false 1 52),
 oX 54 (.bin .add 53 (kX 1)),
 oX 55 (.gE 49),
 oX 56 (.aF 1 55),
 uX (.store 1 56 54)]))
 .skip)))
 (.seq
 (.ab false [
 oX 57 (.mv 3),
 oX 2 (.mv 57)])
 .ret)))))
def QT:List bA:=[.tmp 2]
theorem alw (NN:Nat) (x:aQ (ak.aP He)):lU NN [] T4 QT He SO x=FW NN x:=by kernel_rfl
theorem ai6:cb pX 105 T4.er QT 1=true:=by decide+kernel
theorem aaT:jM Go.Proofs.Try.prog 105 Dy.MV/\bC pX 105=true:=
  nD (T:=[]) (sc:=T4) (ms:=QT) (args:=He) (aA:=SO) (aw.nil) cE ai6 vo fun x y h=>(alw ax x).trans (agn x y h)
def rp:ar:=⟨95,Hd,akl,SN,qV⟩
def T2:bw:=
 (.seq
 (.ab false [
 oX 4 (.mv (kX 0))])
 (.seq
 (.seq
 (.ab false [
 oX 5 (.mv 1),
 oX 6 (.bin .leq 5 (kX 0))])
 (.cond 6
 (.seq
 (.ab false [
 oX 4 (.mv (kX 0))])
 .ret)
 .skip))
 (.seq
 (.ab false [
 oX 7 (.mv 0),
 oX 8 (.du 105 [7]),
 oX 9 (.mv 1),
 oX 10 (.bin .rem 8 9),
 oX 4 (.mv 10)])
 .ret)))
def QS:List bA:=[.tmp 4]
theorem alv (NN:Nat) (x:aQ (ak.aP Hd)):lU NN [Dy] T2 QS Hd SN x=FV NN x:=by kernel_rfl
theorem ai5:cb pX 95 T2.er QS 2=true:=by decide+kernel
theorem ED:jM Go.Proofs.Try.prog 95 rp.MV/\bC pX 95=true:=
  nD (T:=[Dy]) (sc:=T2) (ms:=QS) (args:=Hd) (aA:=SN) (aw.io aaT<|aw.nil) cE ai5 qV fun x y h=>(alv ax x).trans (agm x y h)
def NA:ar:=⟨53,Hi,akp,SR,z4⟩
def T7:bw:=
 (.seq
 (.ab false [
 oX 4 (.mv (kX 0))])
 (.seq
 (.ab false [
 oX 5 (.mv 1),
 oX 6 (.mv 0),
 oX 7 (.mv 1),
 oX 8 (.len 7),
 oX 9 (.du 95 [6,8]),
 oX 10 (.bX 1 5 9),
 oX 11 (.load false 1 10),
 oX 4 (.mv 11)])
 .ret))
def QW:List bA:=[.tmp 4]
theorem alz (NN:Nat) (x:aQ (ak.aP Hi)):lU NN [rp] T7 QW Hi SR x=FZ NN x:=by kernel_rfl
theorem ai9:cb pX 53 T7.er QW 2=true:=by decide+kernel
theorem amN:jM Go.Proofs.Try.prog 53 NA.MV/\bC pX 53=true:=
  nD (T:=[rp]) (sc:=T7) (ms:=QW) (args:=Hi) (aA:=SR) (aw.io ED<|aw.nil) cE ai9 z4 fun x y h=>(alz ax x).trans (agq x y h)
def Nw:ar:=⟨16,Ha,akj,SL,zY⟩
def T0:bw:=
 (.seq
 (.ab false [
 oX 4 (.mv (kX 0))])
 (.seq
 (.ab false [
 oX 5 (.mv 0),
 oX 6 (.mv 1),
 oX 7 (.du 54 [5,6]),
 oX 8 (.fI iX [(kX 2),(kX 3),(kX 7),(kX 101),(kX 1000003)]),
 oX 9 (.du 53 [7,8]),
 oX 4 (.mv 9)])
 .ret))
def QQ:List bA:=[.tmp 4]
theorem alt (NN:Nat) (x:aQ (ak.aP Ha)):lU NN [tS,NA] T0 QQ Ha SL x=FT NN x:=by kernel_rfl
theorem ai3:cb pX 16 T0.er QQ 2=true:=by decide+kernel
theorem amK:jM Go.Proofs.Try.prog 16 Nw.MV/\bC pX 16=true:=
  nD (T:=[tS,NA]) (sc:=T0) (ms:=QQ) (args:=Ha) (aA:=SL) (aw.io JI<|aw.io amN<|aw.nil) cE ai3 zY fun x y h=>(alt ax x).trans (agk x y h)
def NE:ar:=⟨55,Hm,akt,SX,z7⟩
def Ub:bw:=
 (.seq
 (.ab false [
 oX 2 (.mv (.k (.one (.nil iX))))])
 (.seq
 (.ab false [
 oX 5 (.fI iX []),
 oX 3 (.mv 5)])
 (.seq
 (.seq
 (.ab false [
 oX 6 (.mv 0),
 oX 7 (.du 95 [6,(kX 4)]),
 oX 8 (.bin .add (kX 1) 7),
 oX 4 (.mv 8)])
 (.join ⟨[(3,.one (fX 500001 1))],[(1000000,.box [.c (.v (.list [.int .u8])),vX,vX]),(500001,.row true .ae iX)]⟩ [1000000,500000,500001] [(false,3,0,500001,.ae,[])]
 (.block 0
 (.loop 0 ⟨[(0,.one (rX 1000000)),(3,.one (fX 500000 1)),(4,sX)],[(1000000,.box [.c (.v (.list [.int .u8])),vX,vX]),(500000,.row true .ae iX)]⟩ [1000000,5,17,18,500000] [(false,3,0,500000,.ae,[])]
 (.seq
 (.seq
 (.ab false [
 oX 9 (.mv 4),
 oX 10 (.bin .gtr 9 (kX 0))])
 (.cond 10
 .skip
 (.exit 0)))
 (.seq
 (.block 1
 (.ab false [
 oX 13 (.mv 3),
 oX 14 (.mv 0),
 oX 15 (.du 95 [14,(kX 3)]),
 oX 16 (.bin .add (kX 1) 15),
 oX 17 (.fI iX [16]),
 oX 18 (.append true iX 8 13 17),
 oX 3 (.mv 18)]))
 (.ab false [
 oX 11 (.mv 4),
 oX 12 (.bin .sub 11 (kX 1)),
 oX 4 (.mv 12)])))))))
 (.seq
 (.ab false [
 oX 19 (.mv 3),
 oX 2 (.mv 19)])
 .ret))))
def Q0:List bA:=[.tmp 2]
theorem alD (NN:Nat) (x:aQ (ak.aP Hm)):lU NN [rp] Ub Q0 Hm SX x=F5 NN x:=by kernel_rfl
theorem ajd:cb pX 55 Ub.er Q0 1=true:=by decide+kernel
theorem amR:jM Go.Proofs.Try.prog 55 NE.MV/\bC pX 55=true:=
  nD (T:=[rp]) (sc:=Ub) (ms:=Q0) (args:=Hm) (aA:=SX) (aw.io ED<|aw.nil) cE ajd z7 fun x y h=>(alD ax x).trans (agv x y h)
def Nu:ar:=⟨17,G8,akh,SJ,zV⟩
def TY:bw:=
 (.seq
 (.ab false [
 oX 4 (.mv (.k (.one (.nil iX))))])
 (.seq
 (.ab false [
 oX 5 (.mv 0),
 oX 6 (.mv 1),
 oX 7 (.du 54 [5,6]),
 oX 8 (.du 55 [7]),
 oX 4 (.mv 8)])
 .ret))
def QO:List bA:=[.tmp 4]
theorem alr (NN:Nat) (x:aQ (ak.aP G8)):lU NN [tS,NE] TY QO G8 SJ x=FQ NN x:=by kernel_rfl
theorem ai1:cb pX 17 TY.er QO 2=true:=by decide+kernel
theorem amI:jM Go.Proofs.Try.prog 17 Nu.MV/\bC pX 17=true:=
  nD (T:=[tS,NE]) (sc:=TY) (ms:=QO) (args:=G8) (aA:=SJ) (aw.io JI<|aw.io amR<|aw.nil) cE ai1 zV fun x y h=>(alr ax x).trans (agi x y h)
def Dz:ar:=⟨98,Hh,ako,SQ,vp⟩
def T6:bw:=
 (.seq
 (.ab false [
 oX 4 (.mv (.k (.one (.v (.bool) (false)))))])
 (.seq
 (.ab false [
 oX 5 (.mv 0),
 oX 6 (.mv 1),
 oX 7 (.du 95 [5,6]),
 oX 8 (.bin .eql 7 (kX 0)),
 oX 4 (.mv 8)])
 .ret))
def QV:List bA:=[.tmp 4]
theorem aly (NN:Nat) (x:aQ (ak.aP Hh)):lU NN [rp] T6 QV Hh SQ x=FY NN x:=by kernel_rfl
theorem ai8:cb pX 98 T6.er QV 2=true:=by decide+kernel
theorem aaU:jM Go.Proofs.Try.prog 98 Dz.MV/\bC pX 98=true:=
  nD (T:=[rp]) (sc:=T6) (ms:=QV) (args:=Hh) (aA:=SQ) (aw.io ED<|aw.nil) cE ai8 vp fun x y h=>(aly ax x).trans (agp x y h)
def NC:ar:=⟨85,Hk,akr,SU,xx⟩
def T9:bw:=
 (.seq
 (.ab false [
 oX 4 (.alloc [zX,zX,.nil iX])])
 (.seq
 (.ab false [
 oX 5 (.mv 0),
 oX 6 (.mv 1),
 oX 7 (.mv 0),
 oX 8 (.mv 1),
 oX 9 (.bin .mul 7 8),
 oX 10 (.jF .ae iX 8 (0:Int) 9 9),
 oX 11 (.build [zX,zX,.nil iX] [(0,1,5),(1,1,6),(2,1,10)]),
 uX (.store 3 4 11)])
 .ret))
def QY:List bA:=[.cell 4 3 true]
theorem alB (NN:Nat) (x:aQ (ak.aP Hk)):dH NN [] T9 QY Hk SU x=F3 NN x:=by kernel_rfl
theorem ajb:cb pX 85 T9.er QY 2=true:=by decide+kernel
theorem amP:dh pX 85 NC.M/\bC pX 85=true:=
  dS (T:=[]) (sc:=T9) (ms:=QY) (args:=Hk) (aA:=SU) (aw.nil) cE ajb xx fun x y h=>(alB ax x).trans (XL x y h)
def NB:ar:=⟨99,Hj,akq,SS,z5⟩
def T8:bw:=
 (.seq
 (.ab false [
 oX 8 (.alloc [zX,zX,.nil iX])])
 (.seq
 (.ab false [
 oX 12 (.mv 2),
 oX 13 (.mv 3),
 oX 14 (.call .ae 85 [12,13]),
 oX 9 (.alloc [zX,zX,.nil iX]),
 uX (.store 3 9 14)])
 (.seq
 (.seq
 (.ab false [
 oX 15 (.aF 2 9),
 oX 16 (.load false 1 15),
 oX 17 (.len 16),
 oX 18 (.mv (kX 0))])
 (.join ⟨[(2,sX),(0,.one (rX 1000000)),(3,sX),(9,.one (rX 9)),(8,.one (rX 8))],[(1000000,.box [.c (.v (.list [.int .u8])),vX,vX]),(8,.box [vX,vX,fX 500002 1]),(9,.box [vX,vX,fX 500003 1]),(500002,.row true .ae iX),(500003,.row true .ae iX)]⟩ [1000000,8,9,500000,500001,500002,500003] [(true,8,2,500002,.ae,[]),(true,9,2,500003,.ae,[])]
 (.block 0
 (.loop 0 ⟨[(0,.one (rX 1000000)),(1,sX),(2,sX),(3,sX),(8,.one (rX 8)),(9,.one (rX 9)),(17,sX),(18,sX)],[(1000000,.box [.c (.v (.list [.int .u8])),vX,vX]),(8,.box [vX,vX,fX 500000 1]),(9,.box [vX,vX,fX 500001 1]),(500000,.row true .ae iX),(500001,.row true .ae iX)]⟩ [1000000,8,15000,9,500000,500001] [(true,8,2,500000,.ae,[]),(true,9,2,500001,.ae,[])]
 (.seq
 (.ab false [
 oX 19 (.bin .lss 18 17)])
 (.seq
 (.cond 19
 .skip
 (.exit 0))
 (.seq
 (.block 1
 (.seq
 (.ab false [
 oX 20 (.mv 18),
 oX 10 (.mv 20)])
 (.seq
 (.ab false [
 oX 21 (.mv 0),
 oX 22 (.du 98 [21,(kX 3)]),
 oX 23 (.un .not 22)])
 (.cond 23
 (.qD [(0,6),(1,6)] [
 oX 24 (.aF 2 9),
 oX 25 (.load false 1 24),
 oX 26 (.mv 10),
 oX 27 (.mv 0),
 oX 28 (.mv 1),
 oX 29 (.mm false 28 (kX 256)),
 oX 30 (.du 95 [27,29]),
 oX 31 (.bX 1 25 26),
 uX (.store 1 31 30)])
 .skip))))
 (.ab false [
 oX 32 (.bin .add 18 (kX 1)),
 oX 18 (.mv 32)]))))))))
 (.seq
 (.seq
 (.ab false [
 oX 33 (.mv 2),
 oX 34 (.bin .gtr 33 (kX 1)),
 oX 35 (.mv 34),
 ⟨(some 36),.mv 0,(some (35,true))⟩,
 ⟨(some 37),.du 98 [36,(kX 3)],(some (35,true))⟩,
 oX 38 (.pick 35 37 (.k (.one (.v (.bool) (false)))))])
 (.join ⟨[(9,.one (rX 9)),(8,.one (rX 8))],[(1000000,.box [.c (.v (.list [.int .u8])),vX,vX]),(8,.box [vX,vX,fX 500006 1]),(9,.box [vX,vX,fX 500007 1]),(500006,.row true .ae iX),(500007,.row true .ae iX)]⟩ [1000000,8,9,500002,500003,500004,500005,500006,500007] [(true,8,2,500006,.ae,[]),(true,9,2,500007,.ae,[])]
 (.cond 38
 (.seq
 (.ab false [
 oX 11 (.mv (kX 0))])
 (.block 2
 (.loop 0 ⟨[(3,sX),(8,.one (rX 8)),(9,.one (rX 9)),(11,sX)],[(1000000,.box [.c (.v (.list [.int .u8])),vX,vX]),(8,.box [vX,vX,fX 500004 1]),(9,.box [vX,vX,fX 500005 1]),(500004,.row true .ae iX),(500005,.row true .ae iX)]⟩ [1000000,8,9,500002,500003,500004,500005] [(true,8,2,500004,.ae,[]),(true,9,2,500005,.ae,[])]
 (.seq
 (.seq
 (.ab false [
 oX 39 (.mv 11),
 oX 40 (.mv 3),
 oX 41 (.bin .lss 39 40)])
 (.cond 41
 .skip
 (.exit 2)))
 (.seq
 (.block 3
 (.ab true [
 oX 44 (.aF 2 9),
 oX 45 (.load false 1 44),
 oX 46 (.mv 3),
 oX 47 (.mv 11),
 oX 48 (.bin .add 46 47),
 oX 49 (.aF 2 9),
 oX 50 (.load false 1 49),
 oX 51 (.mv 11),
 oX 52 (.bX 1 50 51),
 oX 53 (.load false 1 52),
 oX 54 (.bX 1 45 48),
 uX (.store 1 54 53)]))
 (.ab false [
 oX 42 (.mv 11),
 oX 43 (.bin .add 42 (kX 1)),
 oX 11 (.mv 43)]))))))
 .skip)))
 (.seq
 (.ab false [
 oX 55 (.load true 3 9),
 uX (.store 3 8 55)])
 .ret)))))
def QX:List bA:=[.cell 8 3 true]
theorem alA (NN:Nat) (x:aQ (ak.aP Hj)):lU NN [NC,Dz,rp] T8 QX Hj SS x=F0 NN x:=by kernel_rfl
theorem aja:cb pX 99 T8.er QX 4=true:=by decide+kernel
theorem amO:jM Go.Proofs.Try.prog 99 NB.MV/\bC pX 99=true:=
  nD (T:=[NC,Dz,rp]) (sc:=T8) (ms:=QX) (args:=Hj) (aA:=SS) (aw.cons amP<|aw.io aaU<|aw.io ED<|aw.nil) cE aja z5 fun x y h=>(alA ax x).trans (ags x y h)
def ND:ar:=⟨59,Hl,aks,SW,z6⟩
def Ua:bw:=
 (.seq
 (.ab false [
 oX 6 (.alloc [zX,.nil gX])])
 (.seq
 (.ab false [
 oX 13 (.mv 1),
 oX 14 (.build [zX,.nil gX] [(0,1,13)]),
 oX 7 (.alloc [zX,.nil gX]),
 uX (.store 2 7 14)])
 (.seq
 (.ab false [
 oX 8 (.mv (kX 1))])
 (.seq
 (.seq
 (.ab false [
 oX 15 (.mv 2),
 oX 16 (.len 15),
 oX 17 (.mv (kX 0))])
 (.join ⟨[(7,.one (rX 7)),(6,.one (rX 6))],[(1000000,.box [.c (.v (.list [.int .u8])),vX,vX]),(6,.box [vX,fX 500006 4]),(7,.box [vX,fX 500007 4]),(500006,.row true .ae gX),(500007,.row true .aD gX)]⟩ [1000000,6,7,500000,500001,500006,500007] [(true,6,1,500006,.ae,[]),(true,7,1,500007,.aD,[])]
 (.block 0
 (.loop 0 ⟨[(0,.one (rX 1000000)),(1,sX),(2,.one (.c (.v (lX)))),(6,.one (rX 6)),(7,.one (rX 7)),(8,sX),(15,.one (.c (.v (lX)))),(16,sX),(17,sX)],[(1000000,.box [.c (.v (.list [.int .u8])),vX,vX]),(6,.box [vX,fX 500000 4]),(7,.box [vX,fX 500001 4]),(500000,.row true .ae gX),(500001,.row true .aD gX)]⟩ [1000000,6,7,12,51,500000,500001,500004] [(true,6,1,500000,.ae,[]),(true,7,1,500001,.aD,[])]
 (.seq
 (.ab false [
 oX 18 (.bin .lss 17 16)])
 (.seq
 (.cond 18
 .skip
 (.exit 0))
 (.seq
 (.block 1
 (.seq
 (.ab false [
 oX 19 (.mv 17),
 oX 20 (.bX 1 15 17),
 oX 21 (.load false 1 20),
 oX 9 (.mv 19),
 oX 10 (.mv 21)])
 (.seq
 (.ab false [
 oX 22 (.mv 10),
 oX 23 (.mm false (kX 4) 22),
 oX 24 (.mm true (kX 1) 23),
 oX 10 (.mv 24)])
 (.seq
 (.ab false [
 oX 25 (.mv 0),
 oX 26 (.du 95 [25,(kX 4)]),
 oX 27 (.bin .add (kX 1) 26),
 oX 11 (.mv 27)])
 (.seq
 (.seq
 (.ab false [
 oX 28 (.mv 0),
 oX 29 (.du 98 [28,(kX 16)])])
 (.join ⟨[(9,sX),(8,sX),(10,sX),(11,sX),(17,sX),(0,.one (rX 1000000)),(1,sX),(2,.one (.c (.v (lX)))),(6,.one (rX 6)),(7,.one (rX 7)),(15,.one (.c (.v (lX)))),(16,sX)],[(1000000,.box [.c (.v (.list [.int .u8])),vX,vX]),(6,.box [vX,fX 500002 4]),(7,.box [vX,fX 500003 4]),(500002,.row true .ae gX),(500003,.row true .aD gX)]⟩ [1000000,6,7,500000,500001,500002,500003] [(true,6,1,500002,.ae,[]),(true,7,1,500003,.aD,[])]
 (.cond 29
 (.ab false [
 oX 11 (.mv (kX 0))])
 .skip)))
 (.seq
 (.seq
 (.ab false [
 oX 30 (.mv 9),
 oX 31 (.mv 2),
 oX 32 (.len 31),
 oX 33 (.bin .sub 32 (kX 1)),
 oX 34 (.bin .eql 30 33)])
 (.join ⟨[(8,sX),(10,sX),(11,sX),(17,sX),(0,.one (rX 1000000)),(1,sX),(2,.one (.c (.v (lX)))),(6,.one (rX 6)),(7,.one (rX 7)),(15,.one (.c (.v (lX)))),(16,sX)],[(1000000,.box [.c (.v (.list [.int .u8])),vX,vX]),(6,.box [vX,fX 500004 4]),(7,.box [vX,fX 500005 4]),(500004,.row true .ae gX),(500005,.row true .aD gX)]⟩ [1000000,6,7,500002,500003,500004,500005] [(true,6,1,500004,.ae,[]),(true,7,1,500005,.aD,[])]
 (.cond 34
 (.ab false [
 oX 11 (.mv (kX 1))])
 .skip)))
 (.seq
 (.ab false [
 oX 35 (.mv 0),
 oX 36 (.mv 1),
 oX 37 (.mv 8),
 oX 38 (.mv 10),
 oX 39 (.bin .mul 37 38),
 oX 40 (.mv 11),
 oX 41 (.du 99 [35,36,39,40]),
 oX 12 (.alloc [zX,zX,.nil iX]),
 uX (.store 3 12 41)])
 (.seq
 (.ab false [
 oX 42 (.aF 1 7),
 oX 43 (.load false 1 42),
 oX 44 (.mv 8),
 oX 45 (.mv 10),
 oX 46 (.mv 11),
 oX 47 (.aF 2 12),
 oX 48 (.load false 1 47),
 oX 49 (.build [zX,zX,zX,.nil iX] [(0,1,44),(1,1,45),(2,1,46),(3,1,48)]),
 oX 50 (.fI gX [49]),
 oX 51 (.append false gX 48 43 50),
 oX 52 (.aF 1 7),
 uX (.store 1 52 51)])
 (.ab false [
 oX 53 (.mv 11),
 oX 8 (.mv 53)])))))))))
 (.ab false [
 oX 54 (.bin .add 17 (kX 1)),
 oX 17 (.mv 54)]))))))))
 (.seq
 (.ab false [
 oX 55 (.load true 2 7),
 uX (.store 2 6 55)])
 .ret)))))
def QZ:List bA:=[.cell 6 2 true]
theorem alC (NN:Nat) (x:aQ (ak.aP Hl)):lU NN [rp,Dz,NB] Ua QZ Hl SW x=F4 NN x:=by kernel_rfl
theorem ajc:cb pX 59 Ua.er QZ 3=true:=by decide+kernel
theorem amQ:jM Go.Proofs.Try.prog 59 ND.MV/\bC pX 59=true:=
  nD (T:=[rp,Dz,NB]) (sc:=Ua) (ms:=QZ) (args:=Hl) (aA:=SW) (aw.io ED<|aw.io aaU<|aw.io amO<|aw.nil) cE ajc z6 fun x y h=>(alC ax x).trans (agu x y h)
def Nt:ar:=⟨19,G7,akg,SI,zU⟩
def TX:bw:=
 (.seq
 (.ab false [
 oX 8 (.alloc [zX,.nil gX])])
 (.seq
 (.ab false [
 oX 9 (.mv 0),
 oX 10 (.mv 1),
 oX 11 (.du 54 [9,10]),
 oX 12 (.mv 2),
 oX 13 (.mv 3),
 oX 14 (.du 59 [11,12,13]),
 uX (.store 2 8 14)])
 .ret))
def QN:List bA:=[.cell 8 2 true]
theorem alq (NN:Nat) (x:aQ (ak.aP G7)):lU NN [tS,ND] TX QN G7 SI x=FO NN x:=by kernel_rfl
theorem ai0:cb pX 19 TX.er QN 4=true:=by decide+kernel
theorem amH:jM Go.Proofs.Try.prog 19 Nt.MV/\bC pX 19=true:=
  nD (T:=[tS,ND]) (sc:=TX) (ms:=QN) (args:=G7) (aA:=SI) (aw.io JI<|aw.io amQ<|aw.nil) cE ai0 zU fun x y h=>(alq ax x).trans (agh x y h)
def x4:ar:=⟨60,Gm,ajH,RY,pL⟩
def Tg:bw:=
 (.seq
 (.ab false [
 oX 2 (.mv (.k (.one (.v (.bool) (false)))))])
 (.seq
 (.seq
 (.ab false [
 oX 4 (.mv 0),
 oX 5 (.bin .lss 4 (kX 2)),
 oX 6 (.mv 5),
 ⟨(some 7),.mv 0,(some (6,false))⟩,
 ⟨(some 8),.bin .gtr 7 (kX 1000003),(some (6,false))⟩,
 oX 9 (.pick 6 (.k (.one (.v (.bool) (true)))) 8)])
 (.cond 9
 (.seq
 (.ab false [
 oX 2 (.mv (.k (.one (.v (.bool) (false)))))])
 .ret)
 .skip))
 (.seq
 (.seq
 (.ab false [
 oX 3 (.mv (kX 2))])
 (.join ⟨[],[]⟩ [] []
 (.block 0
 (.loop 0 ⟨[(0,sX),(3,sX)],[]⟩ [] []
 (.seq
 (.seq
 (.ab false [
 oX 10 (.mv 3),
 oX 11 (.mv 3),
 oX 12 (.bin .mul 10 11),
 oX 13 (.mv 0),
 oX 14 (.bin .leq 12 13)])
 (.cond 14
 .skip
 (.exit 0)))
 (.seq
 (.block 1
 (.seq
 (.ab false [
 oX 17 (.mv 0),
 oX 18 (.mv 3),
 oX 19 (.bin .rem 17 18),
 oX 20 (.bin .eql 19 (kX 0))])
 (.cond 20
 (.seq
 (.ab false [
 oX 2 (.mv (.k (.one (.v (.bool) (false)))))])
 .ret)
 .skip)))
 (.ab false [
 oX 15 (.mv 3),
 oX 16 (.bin .add 15 (kX 1)),
 oX 3 (.mv 16)])))))))
 (.seq
 (.ab false [
 oX 2 (.mv (.k (.one (.v (.bool) (true)))))])
 .ret))))
def P8:List bA:=[.tmp 2]
theorem akK (NN:Nat) (x:aQ (ak.aP Gm)):dH NN [] Tg P8 Gm RY x=K9 NN x:=by kernel_rfl
theorem ail:cb pX 60 Tg.er P8 1=true:=by decide+kernel
theorem Rf:dh pX 60 x4.M/\bC pX 60=true:=
  dS (T:=[]) (sc:=Tg) (ms:=P8) (args:=Gm) (aA:=RY) (aw.nil) cE ail pL fun x y h=>(akK ax x).trans (afB x y h)
def Ds:ar:=⟨100,GI,ajX,Si,vk⟩
def TA:bw:=
 (.seq
 (.ab false [
 oX 4 (.mv (.k (.one (.v (.bool) (false)))))])
 (.seq
 (.seq
 (.ab false [
 oX 7 (.mv 1),
 oX 8 (.len 7),
 oX 9 (.mv (kX 0))])
 (.join ⟨[],[]⟩ [] []
 (.block 0
 (.loop 0 ⟨[(0,sX),(7,.one (.c (.v (lX)))),(8,sX),(9,sX)],[]⟩ [] []
 (.seq
 (.ab false [
 oX 10 (.bin .lss 9 8)])
 (.seq
 (.cond 10
 .skip
 (.exit 0))
 (.seq
 (.block 1
 (.seq
 (.ab false [
 oX 11 (.bX 1 7 9),
 oX 12 (.load false 1 11),
 oX 6 (.mv 12)])
 (.seq
 (.ab false [
 oX 13 (.mv 6),
 oX 14 (.bin .lss 13 (kX 0)),
 oX 15 (.mv 14),
 ⟨(some 16),.mv 6,(some (15,false))⟩,
 ⟨(some 17),.mv 0,(some (15,false))⟩,
 ⟨(some 18),.bin .geq 16 17,(some (15,false))⟩,
 oX 19 (.pick 15 (.k (.one (.v (.bool) (true)))) 18)])
 (.cond 19
 (.seq
 (.ab false [
 oX 4 (.mv (.k (.one (.v (.bool) (false)))))])
 .ret)
 .skip))))
 (.ab false [
 oX 20 (.bin .add 9 (kX 1)),
 oX 9 (.mv 20)]))))))))
 (.seq
 (.ab false [
 oX 4 (.mv (.k (.one (.v (.bool) (true)))))])
 .ret)))
def Qr:List bA:=[.tmp 4]
theorem ak3 (NN:Nat) (x:aQ (ak.aP GI)):dH NN [] TA Qr GI Si x=Lm NN x:=by kernel_rfl
theorem aiE:cb pX 100 TA.er Qr 2=true:=by decide+kernel
theorem aaO:dh pX 100 Ds.M/\bC pX 100=true:=
  dS (T:=[]) (sc:=TA) (ms:=Qr) (args:=GI) (aA:=Si) (aw.nil) cE aiE vk fun x y h=>(ak3 ax x).trans (afU x y h)
def Nj:ar:=⟨61,GW,aj9,Sx,xw⟩
def TO:bw:=
 (.seq
 (.ab false [
 oX 3 (.box 4 1),
 oX 4 (.mv (.k (.one (.v (.bool) (false)))))])
 (.seq
 (.seq
 (.ab false [
 oX 5 (.aF 0 3),
 oX 6 (.load false 1 5),
 oX 7 (.bin .lss 6 (kX 0)),
 oX 8 (.mv 7),
 ⟨(some 9),.aF 0 3,(some (8,false))⟩,
 ⟨(some 10),.load false 1 9,(some (8,false))⟩,
 ⟨(some 11),.bin .gtr 10 (kX 32),(some (8,false))⟩,
 oX 12 (.pick 8 (.k (.one (.v (.bool) (true)))) 11),
 oX 13 (.mv 12),
 ⟨(some 14),.aF 2 3,(some (13,false))⟩,
 ⟨(some 15),.load false 1 14,(some (13,false))⟩,
 ⟨(some 16),.bin .lss 15 (kX 0),(some (13,false))⟩,
 oX 17 (.pick 13 (.k (.one (.v (.bool) (true)))) 16),
 oX 18 (.mv 17),
 ⟨(some 19),.aF 2 3,(some (18,false))⟩,
 ⟨(some 20),.load false 1 19,(some (18,false))⟩,
 ⟨(some 21),.bin .gtr 20 (kX 32),(some (18,false))⟩,
 oX 22 (.pick 18 (.k (.one (.v (.bool) (true)))) 21),
 oX 23 (.mv 22),
 ⟨(some 24),.aF 1 3,(some (23,false))⟩,
 ⟨(some 25),.load false 1 24,(some (23,false))⟩,
 ⟨(some 26),.bin .lss 25 (kX 1),(some (23,false))⟩,
 oX 27 (.pick 23 (.k (.one (.v (.bool) (true)))) 26),
 oX 28 (.mv 27),
 ⟨(some 29),.aF 1 3,(some (28,false))⟩,
 ⟨(some 30),.load false 1 29,(some (28,false))⟩,
 ⟨(some 31),.bin .gtr 30 (kX 8),(some (28,false))⟩,
 oX 32 (.pick 28 (.k (.one (.v (.bool) (true)))) 31)])
 (.cond 32
 (.seq
 (.ab false [
 oX 4 (.mv (.k (.one (.v (.bool) (false)))))])
 .ret)
 .skip))
 (.seq
 (.ab false [
 oX 33 (.aF 3 3),
 oX 34 (.load false 1 33),
 oX 35 (.len 34),
 oX 36 (.aF 0 3),
 oX 37 (.load false 1 36),
 oX 38 (.aF 1 3),
 oX 39 (.load false 1 38),
 oX 40 (.bin .mul 37 39),
 oX 41 (.aF 2 3),
 oX 42 (.load false 1 41),
 oX 43 (.bin .mul 40 42),
 oX 44 (.bin .eql 35 43),
 oX 45 (.mv 44),
 ⟨(some 46),.mv 0,(some (45,true))⟩,
 ⟨(some 47),.aF 3 3,(some (45,true))⟩,
 ⟨(some 48),.load false 1 47,(some (45,true))⟩,
 ⟨(some 49),.call .ae 100 [46,48],(some (45,true))⟩,
 oX 50 (.pick 45 49 (.k (.one (.v (.bool) (false))))),
 oX 4 (.mv 50)])
 .ret)))
def QE:List bA:=[.tmp 4]
theorem alg (NN:Nat) (x:aQ (ak.aP GW)):dH NN [Ds] TO QE GW Sx x=Lw NN x:=by kernel_rfl
theorem aiR:cb pX 61 TO.er QE 2=true:=by decide+kernel
theorem amx:dh pX 61 Nj.M/\bC pX 61=true:=
  dS (T:=[Ds]) (sc:=TO) (ms:=QE) (args:=GW) (aA:=Sx) (aw.cons aaO<|aw.nil) cE aiR xw fun x y h=>(alg ax x).trans (af7 x y h)
def tP:ar:=⟨21,Gi,ajD,RT,pK⟩
def Tc:bw:=
 (.seq
 (.ab false [
 oX 1 (.box 2 0),
 oX 2 (.mv (.k (.one (.v (.bool) (false)))))])
 (.seq
 (.seq
 (.ab false [
 oX 7 (.aF 0 1),
 oX 8 (.load false 1 7),
 oX 9 (.call .ae 60 [8]),
 oX 10 (.un .not 9),
 oX 11 (.mv 10),
 ⟨(some 12),.aF 1 1,(some (11,false))⟩,
 ⟨(some 13),.load false 1 12,(some (11,false))⟩,
 ⟨(some 14),.len 13,(some (11,false))⟩,
 ⟨(some 15),.bin .lss 14 (kX 1),(some (11,false))⟩,
 oX 16 (.pick 11 (.k (.one (.v (.bool) (true)))) 15),
 oX 17 (.mv 16),
 ⟨(some 18),.aF 1 1,(some (17,false))⟩,
 ⟨(some 19),.load false 1 18,(some (17,false))⟩,
 ⟨(some 20),.len 19,(some (17,false))⟩,
 ⟨(some 21),.bin .gtr 20 (kX 8),(some (17,false))⟩,
 oX 22 (.pick 17 (.k (.one (.v (.bool) (true)))) 21)])
 (.cond 22
 (.seq
 (.ab false [
 oX 2 (.mv (.k (.one (.v (.bool) (false)))))])
 .ret)
 .skip))
 (.seq
 (.ab false [
 oX 3 (.mv (kX 1)),
 oX 4 (.mv (kX 1))])
 (.seq
 (.seq
 (.ab false [
 oX 23 (.aF 1 1),
 oX 24 (.load false 1 23),
 oX 25 (.len 24),
 oX 26 (.mv (kX 0))])
 (.join ⟨[(3,sX),(4,sX)],[]⟩ [1] []
 (.block 0
 (.loop 0 ⟨[(1,.one (rX 1)),(3,sX),(4,sX),(24,.one (.c (.v (.list gX)))),(25,sX),(26,sX)],[(1,.box [vX,.c (.v (.list gX))])]⟩ [1,6] []
 (.seq
 (.ab false [
 oX 27 (.bin .lss 26 25)])
 (.seq
 (.cond 27
 .skip
 (.exit 0))
 (.seq
 (.block 1
 (.seq
 (.ab false [
 oX 28 (.bX 4 24 26),
 oX 29 (.load true 4 28),
 oX 6 (.alloc [zX,zX,zX,.nil iX]),
 uX (.store 4 6 29)])
 (.seq
 (.seq
 (.ab false [
 oX 30 (.aF 0 1),
 oX 31 (.load false 1 30),
 oX 32 (.load true 4 6),
 oX 33 (.call .ae 61 [31,32]),
 oX 34 (.un .not 33),
 oX 35 (.mv 34),
 ⟨(some 36),.aF 0 6,(some (35,false))⟩,
 ⟨(some 37),.load false 1 36,(some (35,false))⟩,
 ⟨(some 38),.mv 3,(some (35,false))⟩,
 ⟨(some 39),.bin .neq 37 38,(some (35,false))⟩,
 oX 40 (.pick 35 (.k (.one (.v (.bool) (true)))) 39)])
 (.cond 40
 (.seq
 (.ab false [
 oX 2 (.mv (.k (.one (.v (.bool) (false)))))])
 .ret)
 .skip))
 (.seq
 (.ab false [
 oX 41 (.aF 2 6),
 oX 42 (.load false 1 41),
 oX 3 (.mv 42)])
 (.ab false [
 oX 43 (.mv 4),
 oX 44 (.aF 1 6),
 oX 45 (.load false 1 44),
 oX 46 (.bin .mul 43 45),
 oX 4 (.mv 46)])))))
 (.ab false [
 oX 47 (.bin .add 26 (kX 1)),
 oX 26 (.mv 47)]))))))))
 (.seq
 (.ab false [
 oX 48 (.mv 3),
 oX 49 (.bin .eql 48 (kX 1)),
 oX 50 (.mv 49),
 ⟨(some 51),.mv 4,(some (50,true))⟩,
 ⟨(some 52),.bin .leq 51 (kX 4096),(some (50,true))⟩,
 oX 53 (.pick 50 52 (.k (.one (.v (.bool) (false))))),
 oX 2 (.mv 53)])
 .ret)))))
def P4:List bA:=[.tmp 2]
theorem akG (NN:Nat) (x:aQ (ak.aP Gi)):dH NN [x4,Nj] Tc P4 Gi RT x=K7 NN x:=by kernel_rfl
theorem aih:cb pX 21 Tc.er P4 1=true:=by decide+kernel
theorem JF:dh pX 21 tP.M/\bC pX 21=true:=
  dS (T:=[x4,Nj]) (sc:=Tc) (ms:=P4) (args:=Gi) (aA:=RT) (aw.cons Rf<|aw.cons amx<|aw.nil) cE aih pK fun x y h=>(akG ax x).trans (afx x y h)
def Dr:ar:=⟨56,GA,ajR,Sc,xt⟩
def Tt:bw:=
 (.seq
 (.ab false [
 oX 1 (.box 2 0),
 oX 2 (.mv (.k (.one (.nil iX))))])
 (.seq
 (.ab false [
 oX 3 (.mv (.k (.one (.nil iX))))])
 (.seq
 (.seq
 (.ab false [
 oX 6 (.aF 1 1),
 oX 7 (.load false 1 6),
 oX 8 (.len 7),
 oX 9 (.mv (kX 0))])
 (.join ⟨[(3,.one (fX 500001 1))],[(500001,.row true .ae iX)]⟩ [500000,500001] [(false,3,0,500001,.ae,[])]
 (.block 0
 (.loop 0 ⟨[(3,.one (fX 500000 1)),(7,.one (.c (.v (.list gX)))),(8,sX),(9,sX)],[(500000,.row true .ae iX)]⟩ [1,5,16,17,500000] [(false,3,0,500000,.ae,[])]
 (.seq
 (.ab false [
 oX 10 (.bin .lss 9 8)])
 (.seq
 (.cond 10
 .skip
 (.exit 0))
 (.seq
 (.block 1
 (.seq
 (.ab false [
 oX 11 (.bX 4 7 9),
 oX 12 (.load true 4 11),
 oX 5 (.alloc [zX,zX,zX,.nil iX]),
 uX (.store 4 5 12)])
 (.ab false [
 oX 13 (.mv 3),
 oX 14 (.aF 1 5),
 oX 15 (.load false 1 14),
 oX 16 (.fI iX [15]),
 oX 17 (.append true iX 8 13 16),
 oX 3 (.mv 17)])))
 (.ab false [
 oX 18 (.bin .add 9 (kX 1)),
 oX 9 (.mv 18)]))))))))
 (.seq
 (.ab false [
 oX 19 (.mv 3),
 oX 2 (.mv 19)])
 .ret))))
def Ql:List bA:=[.tmp 2]
theorem akX (NN:Nat) (x:aQ (ak.aP GA)):dH NN [] Tt Ql GA Sc x=VK NN x:=by kernel_rfl
theorem aiy:cb pX 56 Tt.er Ql 1=true:=by decide+kernel
theorem aaN:dh pX 56 Dr.M/\bC pX 56=true:=
  dS (T:=[]) (sc:=Tt) (ms:=Ql) (args:=GA) (aA:=Sc) (aw.nil) cE aiy xt fun x y h=>(akX ax x).trans (afO x y h)
def M3:ar:=⟨97,Gv,ajM,R7,xr⟩
def To:bw:=
 (.seq
 (.ab false [
 oX 4 (.box 4 0),
 oX 8 (.mv (kX 0))])
 (.seq
 (.ab false [
 oX 9 (.aF 3 4),
 oX 10 (.load false 1 9),
 oX 11 (.mv 1),
 oX 12 (.aF 1 4),
 oX 13 (.load false 1 12),
 oX 14 (.bin .mul 11 13),
 oX 15 (.mv 2),
 oX 16 (.bin .add 14 15),
 oX 17 (.aF 2 4),
 oX 18 (.load false 1 17),
 oX 19 (.bin .mul 16 18),
 oX 20 (.mv 3),
 oX 21 (.bin .add 19 20),
 oX 22 (.bX 1 10 21),
 oX 23 (.load false 1 22),
 oX 8 (.mv 23)])
 .ret))
def Qg:List bA:=[.tmp 8]
theorem akS (NN:Nat) (x:aQ (ak.aP Gv)):dH NN [] To Qg Gv R7 x=Ld NN x:=by kernel_rfl
theorem ait:cb pX 97 To.er Qg 4=true:=by decide+kernel
theorem ami:dh pX 97 M3.M/\bC pX 97=true:=
  dS (T:=[]) (sc:=To) (ms:=Qg) (args:=Gv) (aA:=R7) (aw.nil) cE ait xr fun x y h=>(akS ax x).trans (afJ x y h)
def Du:ar:=⟨57,GO,aj2,So,tu⟩
def TH:bw:=
 (.seq
 (.ab false [
 oX 2 (.box 2 0),
 oX 4 (.mv (kX 0))])
 (.seq
 (.ab false [
 oX 12 (.fI iX [(kX 1)]),
 oX 5 (.mv 12)])
 (.seq
 (.seq
 (.ab false [
 oX 13 (.aF 1 2),
 oX 14 (.load false 1 13),
 oX 15 (.len 14),
 oX 16 (.mv (kX 0))])
 (.join ⟨[(5,.one (fX 500009 1))],[(500009,.row true .ae iX)]⟩ [2,500000,500009] [(false,5,0,500009,.ae,[])]
 (.block 0
 (.loop 0 ⟨[(1,.one (.c (.v (lX)))),(2,.one (rX 2)),(5,.one (fX 500000 1)),(14,.one (.c (.v (.list gX)))),(15,sX),(16,sX)],[(2,.box [vX,.c (.v (.list gX))]),(500000,.row true .ae iX)]⟩ [2,12,500000,500008] [(false,5,0,500000,.ae,[])]
 (.seq
 (.ab false [
 oX 17 (.bin .lss 16 15)])
 (.seq
 (.cond 17
 .skip
 (.exit 0))
 (.seq
 (.join ⟨[(16,sX),(1,.one (.c (.v (lX)))),(2,.one (rX 2)),(5,.one (fX 500008 1)),(14,.one (.c (.v (.list gX)))),(15,sX)],[(2,.box [vX,.c (.v (.list gX))]),(500008,.row true .ae iX)]⟩ [2,500007,500008] [(false,5,0,500008,.ae,[])]
 (.block 1
 (.seq
 (.ab false [
 oX 18 (.mv 16),
 oX 19 (.bX 4 14 16),
 oX 20 (.load true 4 19),
 oX 7 (.alloc [zX,zX,zX,.nil iX]),
 oX 6 (.mv 18),
 uX (.store 4 7 20)])
 (.seq
 (.ab false [
 oX 21 (.aF 2 7),
 oX 22 (.load false 1 21),
 oX 23 (.jF .ae iX 8 (0:Int) 22 22),
 oX 8 (.mv 23)])
 (.seq
 (.seq
 (.ab false [
 oX 24 (.mv 8),
 oX 25 (.len 24),
 oX 26 (.mv (kX 0))])
 (.join ⟨[(8,.one (fX 500007 1)),(16,sX),(1,.one (.c (.v (lX)))),(2,.one (rX 2)),(14,.one (.c (.v (.list gX)))),(15,sX)],[(2,.box [vX,.c (.v (.list gX))]),(500007,.row true .ae iX)]⟩ [2,7,500001,500002,500007] [(false,8,0,500007,.ae,[])]
 (.block 2
 (.loop 0 ⟨[(1,.one (.c (.v (lX)))),(2,.one (rX 2)),(5,.one (fX 500001 1)),(6,sX),(7,.one (rX 7)),(8,.one (fX 500002 1)),(14,.one (.c (.v (.list gX)))),(15,sX),(16,sX),(25,sX),(26,sX)],[(2,.box [vX,.c (.v (.list gX))]),(7,.box [vX,vX,vX,.c (.v (lX))]),(500001,.row true .ae iX),(500002,.row true .ae iX)]⟩ [2,7,23,500000,500001,500002,500005,500006] [(false,5,0,500001,.ae,[]),(false,8,0,500002,.ae,[])]
 (.seq
 (.ab false [
 oX 27 (.bin .lss 26 25)])
 (.seq
 (.cond 27
 .skip
 (.exit 2))
 (.seq
 (.join ⟨[(26,sX),(1,.one (.c (.v (lX)))),(2,.one (rX 2)),(5,.one (fX 500005 1)),(6,sX),(7,.one (rX 7)),(8,.one (fX 500006 1)),(14,.one (.c (.v (.list gX)))),(15,sX),(16,sX),(25,sX)],[(2,.box [vX,.c (.v (.list gX))]),(7,.box [vX,vX,vX,.c (.v (lX))]),(500005,.row true .ae iX),(500006,.row true .ae iX)]⟩ [2,7,500003,500004,500005,500006] [(false,5,0,500005,.ae,[]),(false,8,0,500006,.ae,[])]
 (.block 3
 (.seq
 (.ab false [
 oX 28 (.mv 26),
 oX 9 (.mv 28)])
 (.seq
 (.ab false [
 oX 29 (.mv 5),
 oX 30 (.len 29),
 oX 31 (.mv (kX 0))])
 (.block 4
 (.loop 0 ⟨[(1,.one (.c (.v (lX)))),(2,.one (rX 2)),(5,.one (fX 500003 1)),(6,sX),(7,.one (rX 7)),(8,.one (fX 500004 1)),(9,sX),(14,.one (.c (.v (.list gX)))),(15,sX),(16,sX),(25,sX),(26,sX),(29,.one (fX 500003 1)),(30,sX),(31,sX)],[(2,.box [vX,.c (.v (.list gX))]),(7,.box [vX,vX,vX,.c (.v (lX))]),(500003,.row true .ae iX),(500004,.row true .ae iX)]⟩ [2,7,500001,500002,500003,500004] [(false,5,0,500003,.ae,[]),(false,8,0,500004,.ae,[])]
 (.seq
 (.ab false [
 oX 32 (.bin .lss 31 30)])
 (.seq
 (.cond 32
 .skip
 (.exit 4))
 (.seq
 (.block 5
 (.seq
 (.ab false [
 oX 33 (.mv 31),
 oX 34 (.bX 1 29 31),
 oX 35 (.load false 1 34),
 oX 10 (.mv 33),
 oX 11 (.mv 35)])
 (.ab true [
 oX 36 (.mv 8),
 oX 37 (.mv 9),
 oX 38 (.mv 8),
 oX 39 (.mv 9),
 oX 40 (.bX 1 38 39),
 oX 41 (.load false 1 40),
 oX 42 (.mv 11),
 oX 43 (.load true 4 7),
 oX 44 (.mv 10),
 oX 45 (.mv 1),
 oX 46 (.mv 6),
 oX 47 (.bX 1 45 46),
 oX 48 (.load false 1 47),
 oX 49 (.mv 9),
 oX 50 (.call .ae 97 [43,44,48,49]),
 oX 51 (.bin .mul 42 50),
 oX 52 (.bin .add 41 51),
 oX 53 (.aF 0 2),
 oX 54 (.load false 1 53),
 oX 55 (.bin .rem 52 54),
 oX 56 (.bX 1 36 37),
 uX (.store 1 56 55)])))
 (.ab false [
 oX 57 (.bin .add 31 (kX 1)),
 oX 31 (.mv 57)]))))))))))
 (.ab false [
 oX 58 (.bin .add 26 (kX 1)),
 oX 26 (.mv 58)]))))))))
 (.ab false [
 oX 59 (.mv 8),
 oX 5 (.mv 59)]))))))
 (.ab false [
 oX 60 (.bin .add 16 (kX 1)),
 oX 16 (.mv 60)]))))))))
 (.seq
 (.ab false [
 oX 61 (.mv 5),
 oX 62 (.bX 1 61 (kX 0)),
 oX 63 (.load false 1 62),
 oX 4 (.mv 63)])
 .ret))))
def Qx:List bA:=[.tmp 4]
theorem ak9 (NN:Nat) (x:aQ (ak.aP GO)):dH NN [M3] TH Qx GO So x=Lr NN x:=by kernel_rfl
theorem aiK:cb pX 57 TH.er Qx 2=true:=by decide+kernel
theorem aaQ:dh pX 57 Du.M/\bC pX 57=true:=
  dS (T:=[M3]) (sc:=TH) (ms:=Qx) (args:=GO) (aA:=So) (aw.cons ami<|aw.nil) cE aiK tu fun x y h=>(ak9 ax x).trans (af0 x y h)
def Dt:ar:=⟨58,GM,Js,Sm,tt⟩
def TF:bw:=
 (.seq
 (.ab false [
 oX 4 (.mv (.k (.one (.v (.bool) (false)))))])
 (.seq
 (.seq
 (.ab false [
 oX 6 (.mv 0),
 oX 7 (.len 6),
 oX 8 (.bin .sub 7 (kX 1)),
 oX 5 (.mv 8)])
 (.join ⟨[],[(1000000,.row false .ae iX)]⟩ [1000000] []
 (.block 0
 (.loop 0 ⟨[(0,.one (.c (.v (lX)))),(1,.one (fX 1000000 1)),(5,sX)],[(1000000,.row false .ae iX)]⟩ [1000000,500000] [(false,1,0,500000,.ae,[])]
 (.seq
 (.seq
 (.ab false [
 oX 9 (.mv 5),
 oX 10 (.bin .geq 9 (kX 0))])
 (.cond 10
 .skip
 (.exit 0)))
 (.seq
 (.block 1
 (.seq
 (.ab false [
 oX 13 (.mv 1),
 oX 14 (.mv 5),
 oX 15 (.bX 1 13 14),
 oX 16 (.load false 1 15),
 oX 17 (.bin .add 16 (kX 1)),
 oX 18 (.bX 1 13 14),
 uX (.store 1 18 17)])
 (.seq
 (.seq
 (.ab true [
 oX 19 (.mv 1),
 oX 20 (.mv 5),
 oX 21 (.bX 1 19 20),
 oX 22 (.load false 1 21),
 oX 23 (.mv 0),
 oX 24 (.mv 5),
 oX 25 (.bX 1 23 24),
 oX 26 (.load false 1 25),
 oX 27 (.bin .lss 22 26)])
 (.cond 27
 (.seq
 (.ab false [
 oX 4 (.mv (.k (.one (.v (.bool) (true)))))])
 .ret)
 .skip))
 (.ab false [
 oX 28 (.mv 1),
 oX 29 (.mv 5),
 oX 30 (.bX 1 28 29),
 uX (.store 1 30 (kX 0))]))))
 (.ab false [
 oX 11 (.mv 5),
 oX 12 (.bin .sub 11 (kX 1)),
 oX 5 (.mv 12)])))))))
 (.seq
 (.ab false [
 oX 4 (.mv (.k (.one (.v (.bool) (false)))))])
 .ret)))
def Qv:List bA:=[.tmp 4]
theorem ak7 (NN:Nat) (x:aQ (ak.aP GM)):u0 NN [] TF Qv GM Js Sm x=Lp NN x:=by kernel_rfl
theorem aiI:cb pX 58 TF.er Qv 2=true:=by decide+kernel
theorem aaP:pM pX 58 Js Dt.MM/\bC pX 58=true:=
  yU (T:=[]) (sc:=TF) (ms:=Qv) (args:=GM) (mu:=Js) (aA:=Sm) (aw.nil) cE aiI tt fun x y h=>(ak7 ax x).trans (afY x y h)
def MS:ar:=⟨18,Gj,ajE,RU,tp⟩
def Td:bw:=
 (.seq
 (.ab false [
 oX 1 (.box 2 0),
 oX 2 (.alloc [.nil iX,.nil iX,.nil iX])])
 (.seq
 (.seq
 (.ab false [
 oX 6 (.load true 2 1),
 oX 7 (.call .ae 21 [6]),
 oX 8 (.un .not 7)])
 (.cond 8
 (.seq
 (.ab false [
 oX 9 (.build [.nil iX,.nil iX,.nil iX] []),
 uX (.store 3 2 9)])
 .ret)
 .skip))
 (.seq
 (.ab false [
 oX 10 (.load true 2 1),
 oX 11 (.call .ae 56 [10]),
 oX 12 (.build [.nil iX,.nil iX,.nil iX] [(1,1,11)]),
 oX 3 (.alloc [.nil iX,.nil iX,.nil iX]),
 uX (.store 3 3 12)])
 (.seq
 (.seq
 (.ab false [
 oX 13 (.aF 1 1),
 oX 14 (.load false 1 13),
 oX 15 (.len 14),
 oX 16 (.mv (kX 0))])
 (.join ⟨[(3,.one (rX 3)),(2,.one (rX 2)),(1,.one (rX 1))],[(1,.box [vX,.c (.v (.list gX))]),(2,.box [fX 500006 1,fX 500007 1,fX 500008 1]),(3,.box [fX 500009 1,fX 500010 1,fX 500011 1]),(500006,.row true .ae iX),(500007,.row true .ae iX),(500008,.row true .ae iX),(500009,.row true .ae iX),(500010,.row true .ae iX),(500011,.row true .ae iX)]⟩ [1,2,3,500000,500001,500002,500003,500004,500005,500006,500007,500008,500009,500010,500011] [(true,2,0,500006,.ae,[]),(true,2,1,500007,.ae,[]),(true,2,2,500008,.ae,[]),(true,3,0,500009,.ae,[]),(true,3,1,500010,.ae,[]),(true,3,2,500011,.ae,[])]
 (.block 0
 (.loop 0 ⟨[(1,.one (rX 1)),(2,.one (rX 2)),(3,.one (rX 3)),(15,sX),(16,sX)],[(1,.box [vX,.c (.v (.list gX))]),(2,.box [fX 500000 1,fX 500001 1,fX 500002 1]),(3,.box [fX 500003 1,fX 500004 1,fX 500005 1]),(500000,.row true .ae iX),(500001,.row true .ae iX),(500002,.row true .ae iX),(500003,.row true .ae iX),(500004,.row true .ae iX),(500005,.row true .ae iX)]⟩ [1,2,12000,3,22,23,500000,500001,500002,500003,500004,500005] [(true,2,0,500000,.ae,[]),(true,2,1,500001,.ae,[]),(true,2,2,500002,.ae,[]),(true,3,0,500003,.ae,[]),(true,3,1,500004,.ae,[]),(true,3,2,500005,.ae,[])]
 (.seq
 (.ab false [
 oX 17 (.bin .lss 16 15)])
 (.seq
 (.cond 17
 .skip
 (.exit 0))
 (.seq
 (.block 1
 (.seq
 (.ab false [
 oX 18 (.mv 16),
 oX 4 (.mv 18)])
 (.ab false [
 oX 19 (.aF 0 3),
 oX 20 (.load false 1 19),
 oX 21 (.mv 4),
 oX 22 (.fI iX [21]),
 oX 23 (.append true iX 8 20 22),
 oX 24 (.aF 0 3),
 uX (.store 1 24 23)])))
 (.ab false [
 oX 25 (.bin .add 16 (kX 1)),
 oX 16 (.mv 25)]))))))))
 (.seq
 (.ab false [
 oX 26 (.aF 1 3),
 oX 27 (.load false 1 26),
 oX 28 (.len 27),
 oX 29 (.jF .ae iX 8 (0:Int) 28 28),
 oX 5 (.mv 29)])
 (.block 2
 (.loop 0 ⟨[(1,.one (rX 1)),(2,.one (rX 2)),(3,.one (rX 3)),(5,.one (fX 500018 1))],[(1,.box [vX,.c (.v (.list gX))]),(2,.box [fX 500012 1,fX 500013 1,fX 500014 1]),(3,.box [fX 500015 1,fX 500016 1,fX 500017 1]),(500012,.row true .ae iX),(500013,.row true .ae iX),(500014,.row true .ae iX),(500015,.row true .ae iX),(500016,.row true .ae iX),(500017,.row true .ae iX),(500018,.row true .ae iX)]⟩ [1,2,3,29,35,36,500006,500007,500008,500009,500010,500011,500012,500013,500014,500015,500016,500017,500018] [(true,2,0,500012,.ae,[]),(true,2,1,500013,.ae,[]),(true,2,2,500014,.ae,[]),(true,3,0,500015,.ae,[]),(true,3,1,500016,.ae,[]),(true,3,2,500017,.ae,[]),(false,5,0,500018,.ae,[])]
 (.block 3
 (.seq
 (.qD [(0,5),(1,5)] [
 oX 30 (.aF 2 3),
 oX 31 (.load false 1 30),
 oX 32 (.load true 2 1),
 oX 33 (.mv 5),
 oX 34 (.call .ae 57 [32,33]),
 oX 35 (.fI iX [34]),
 oX 36 (.append true iX 8 31 35),
 oX 37 (.aF 2 3),
 uX (.store 1 37 36)])
 (.seq
 (.ab false [
 oX 38 (.aF 1 3),
 oX 39 (.load false 1 38),
 oX 40 (.mv 5),
 oX 41 (.gd .ae 58 [39,40]),
 oX 42 (.un .not 41)])
 (.cond 42
 (.seq
 (.ab false [
 oX 43 (.load true 3 3),
 uX (.store 3 2 43)])
 .ret)
 .skip)))))))))))
def P5:List bA:=[.cell 2 3 true]
theorem akH (NN:Nat) (x:aQ (ak.aP Gj)):dH NN [tP,Dr,Du,Dt] Td P5 Gj RU x=K8 NN x:=by kernel_rfl
theorem aii:cb pX 18 Td.er P5 1=true:=by decide+kernel
theorem amb:dh pX 18 MS.M/\bC pX 18=true:=
  dS (T:=[tP,Dr,Du,Dt]) (sc:=Td) (ms:=P5) (args:=Gj) (aA:=RU) (aw.cons JF<|aw.cons aaN<|aw.cons aaQ<|aw.rb aaP<|aw.nil) cE aii tp fun x y h=>(akH ax x).trans (afy x y h)
def M1:ar:=⟨88,Gu,ajL,R6,zD⟩
def Tn:bw:=
 (.seq
 (.ab false [
 oX 1 (.box 3 0),
 oX 2 (.mv (.k (.one (.v (.bool) (false)))))])
 (.seq
 (.seq
 (.ab false [
 oX 3 (.aF 0 1),
 oX 4 (.load false 1 3)])
 (.block 0
 (.seq
 (.ab false [
 oX 6 (.bin .eql 4 (kX 1)),
 oX 5 (.mv 6)])
 (.cond 5
 (.seq
 (.ab false [
 oX 7 (.aF 1 1),
 oX 8 (.load false 1 7),
 oX 9 (.bin .eql 8 (kX 0)),
 oX 10 (.mv 9),
 ⟨(some 11),.aF 2 1,(some (10,true))⟩,
 ⟨(some 12),.load false 1 11,(some (10,true))⟩,
 ⟨(some 13),.bin .eql 12 (kX 0),(some (10,true))⟩,
 oX 14 (.pick 10 13 (.k (.one (.v (.bool) (false))))),
 oX 2 (.mv 14)])
 .ret)
 (.seq
 (.ab false [
 oX 16 (.bin .eql 4 (kX 2)),
 oX 15 (.mv 16)])
 (.cond 15
 (.seq
 (.ab false [
 oX 17 (.aF 1 1),
 oX 18 (.load false 1 17),
 oX 19 (.call .ae 60 [18]),
 oX 20 (.mv 19),
 ⟨(some 21),.aF 2 1,(some (20,true))⟩,
 ⟨(some 22),.load false 1 21,(some (20,true))⟩,
 ⟨(some 23),.bin .eql 22 (kX 0),(some (20,true))⟩,
 oX 24 (.pick 20 23 (.k (.one (.v (.bool) (false))))),
 oX 2 (.mv 24)])
 .ret)
 (.seq
 (.seq
 (.ab false [
 oX 26 (.bin .eql 4 (kX 3)),
 oX 25 (.mv 26)])
 (.join ⟨[(25,.one (.c (.v (.bool)))),(4,sX),(1,.one (rX 1))],[(1,.box [vX,vX,vX])]⟩ [1] []
 (.cond 25
 .skip
 (.seq
 (.ab false [
 oX 27 (.bin .eql 4 (kX 4)),
 oX 25 (.mv 27)])
 (.cond 25
 .skip
 (.ab false [
 oX 28 (.bin .eql 4 (kX 5)),
 oX 25 (.mv 28)]))))))
 (.cond 25
 (.seq
 (.ab false [
 oX 29 (.aF 1 1),
 oX 30 (.load false 1 29),
 oX 31 (.bin .geq 30 (kX 1)),
 oX 32 (.mv 31),
 ⟨(some 33),.aF 1 1,(some (32,true))⟩,
 ⟨(some 34),.load false 1 33,(some (32,true))⟩,
 ⟨(some 35),.bin .leq 34 (kX 1000000),(some (32,true))⟩,
 oX 36 (.pick 32 35 (.k (.one (.v (.bool) (false))))),
 oX 37 (.mv 36),
 ⟨(some 38),.aF 2 1,(some (37,true))⟩,
 ⟨(some 39),.load false 1 38,(some (37,true))⟩,
 ⟨(some 40),.bin .eql 39 (kX 0),(some (37,true))⟩,
 oX 41 (.pick 37 40 (.k (.one (.v (.bool) (false))))),
 oX 2 (.mv 41)])
 .ret)
 (.seq
 (.ab false [
 oX 43 (.bin .eql 4 (kX 6)),
 oX 42 (.mv 43)])
 (.cond 42
 (.seq
 (.ab false [
 oX 44 (.aF 1 1),
 oX 45 (.load false 1 44),
 oX 46 (.bin .eql 45 (kX 0)),
 oX 47 (.mv 46),
 ⟨(some 48),.aF 2 1,(some (47,true))⟩,
 ⟨(some 49),.load false 1 48,(some (47,true))⟩,
 ⟨(some 50),.bin .geq 49 (kX 1),(some (47,true))⟩,
 oX 51 (.pick 47 50 (.k (.one (.v (.bool) (false))))),
 oX 52 (.mv 51),
 ⟨(some 53),.aF 2 1,(some (52,true))⟩,
 ⟨(some 54),.load false 1 53,(some (52,true))⟩,
 ⟨(some 55),.bin .leq 54 (kX 20),(some (52,true))⟩,
 oX 56 (.pick 52 55 (.k (.one (.v (.bool) (false))))),
 oX 2 (.mv 56)])
 .ret)
 (.seq
 (.ab false [
 oX 58 (.bin .eql 4 (kX 7)),
 oX 57 (.mv 58)])
 (.cond 57
 (.seq
 (.ab false [
 oX 59 (.aF 1 1),
 oX 60 (.load false 1 59),
 oX 61 (.call .ae 60 [60]),
 oX 62 (.mv 61),
 ⟨(some 63),.aF 2 1,(some (62,true))⟩,
 ⟨(some 64),.load false 1 63,(some (62,true))⟩,
 ⟨(some 65),.bin .geq 64 (kX 1),(some (62,true))⟩,
 oX 66 (.pick 62 65 (.k (.one (.v (.bool) (false))))),
 oX 67 (.mv 66),
 ⟨(some 68),.aF 2 1,(some (67,true))⟩,
 ⟨(some 69),.load false 1 68,(some (67,true))⟩,
 ⟨(some 70),.bin .leq 69 (kX 6),(some (67,true))⟩,
 oX 71 (.pick 67 70 (.k (.one (.v (.bool) (false))))),
 oX 2 (.mv 71)])
 .ret)
 (.seq
 (.ab false [
 oX 73 (.bin .eql 4 (kX 8)),
 oX 72 (.mv 73)])
 (.cond 72
 (.seq
 (.ab false [
 oX 74 (.aF 1 1),
 oX 75 (.load false 1 74),
 oX 76 (.call .ae 60 [75]),
 oX 77 (.mv 76),
 ⟨(some 78),.aF 1 1,(some (77,true))⟩,
 ⟨(some 79),.load false 1 78,(some (77,true))⟩,
 ⟨(some 80),.bin .neq 79 (kX 2),(some (77,true))⟩,
 oX 81 (.pick 77 80 (.k (.one (.v (.bool) (false))))),
 oX 82 (.mv 81),
 ⟨(some 83),.aF 2 1,(some (82,true))⟩,
 ⟨(some 84),.load false 1 83,(some (82,true))⟩,
 ⟨(some 85),.bin .eql 84 (kX 0),(some (82,true))⟩,
 oX 86 (.pick 82 85 (.k (.one (.v (.bool) (false))))),
 oX 2 (.mv 86)])
 .ret)
 .skip))))))))))))))
 (.seq
 (.ab false [
 oX 2 (.mv (.k (.one (.v (.bool) (false)))))])
 .ret)))
def Qf:List bA:=[.tmp 2]
theorem akR (NN:Nat) (x:aQ (ak.aP Gu)):dH NN [x4] Tn Qf Gu R6 x=Lc NN x:=by kernel_rfl
theorem ais:cb pX 88 Tn.er Qf 1=true:=by decide+kernel
theorem amh:dh pX 88 M1.M/\bC pX 88=true:=
  dS (T:=[x4]) (sc:=Tn) (ms:=Qf) (args:=Gu) (aA:=R6) (aw.cons Rf<|aw.nil) cE ais zD fun x y h=>(akR ax x).trans (afI x y h)
def M9:ar:=⟨106,GH,ajW,Sh,xu⟩
def Tz:bw:=
 (.seq
 (.ab false [
 oX 4 (.mv (.k (.one (.v (.bool) (false)))))])
 (.seq
 (.seq
 (.ab false [
 oX 7 (.mv 0),
 oX 8 (.len 7),
 oX 9 (.mv (kX 0))])
 (.join ⟨[],[]⟩ [] []
 (.block 0
 (.loop 0 ⟨[(1,sX),(7,.one (.c (.v (lX)))),(8,sX),(9,sX)],[]⟩ [] []
 (.seq
 (.ab false [
 oX 10 (.bin .lss 9 8)])
 (.seq
 (.cond 10
 .skip
 (.exit 0))
 (.seq
 (.block 1
 (.seq
 (.ab false [
 oX 11 (.bX 1 7 9),
 oX 12 (.load false 1 11),
 oX 6 (.mv 12)])
 (.seq
 (.ab false [
 oX 13 (.mv 1),
 oX 14 (.mv 6),
 oX 15 (.bin .eql 13 14)])
 (.cond 15
 (.seq
 (.ab false [
 oX 4 (.mv (.k (.one (.v (.bool) (true)))))])
 .ret)
 .skip))))
 (.ab false [
 oX 16 (.bin .add 9 (kX 1)),
 oX 9 (.mv 16)]))))))))
 (.seq
 (.ab false [
 oX 4 (.mv (.k (.one (.v (.bool) (false)))))])
 .ret)))
def Qq:List bA:=[.tmp 4]
theorem ak2 (NN:Nat) (x:aQ (ak.aP GH)):dH NN [] Tz Qq GH Sh x=Ll NN x:=by kernel_rfl
theorem aiD:cb pX 106 Tz.er Qq 2=true:=by decide+kernel
theorem amo:dh pX 106 M9.M/\bC pX 106=true:=
  dS (T:=[]) (sc:=Tz) (ms:=Qq) (args:=GH) (aA:=Sh) (aw.nil) cE aiD xu fun x y h=>(ak2 ax x).trans (afT x y h)
def Dq:ar:=⟨65,Gy,ajP,Sa,vj⟩
def Tr:bw:=
 (.seq
 (.ab false [
 oX 1 (.box 3 0),
 oX 2 (.mv (kX 0))])
 (.seq
 (.seq
 (.ab false [
 oX 7 (.aF 0 1),
 oX 8 (.load false 1 7),
 oX 9 (.len 8),
 oX 10 (.bin .gtr 9 (kX 12)),
 oX 11 (.mv 10),
 ⟨(some 12),.aF 0 1,(some (11,false))⟩,
 ⟨(some 13),.load false 1 12,(some (11,false))⟩,
 ⟨(some 14),.len 13,(some (11,false))⟩,
 ⟨(some 15),.aF 1 1,(some (11,false))⟩,
 ⟨(some 16),.load false 1 15,(some (11,false))⟩,
 ⟨(some 17),.len 16,(some (11,false))⟩,
 ⟨(some 18),.bin .neq 14 17,(some (11,false))⟩,
 oX 19 (.pick 11 (.k (.one (.v (.bool) (true)))) 18)])
 (.cond 19
 (.seq
 (.ab false [
 oX 2 (.mv (kX (-1)))])
 .ret)
 .skip))
 (.seq
 (.ab false [
 oX 3 (.mv (kX 1))])
 (.seq
 (.seq
 (.ab false [
 oX 20 (.aF 0 1),
 oX 21 (.load false 1 20),
 oX 22 (.len 21),
 oX 23 (.mv (kX 0))])
 (.join ⟨[(3,sX)],[]⟩ [1] []
 (.block 0
 (.loop 0 ⟨[(1,.one (rX 1)),(3,sX),(21,.one (.c (.v (lX)))),(22,sX),(23,sX)],[(1,.box [.c (.v (lX)),.c (.v (lX)),.c (.v (lX))])]⟩ [1] []
 (.seq
 (.ab false [
 oX 24 (.bin .lss 23 22)])
 (.seq
 (.cond 24
 .skip
 (.exit 0))
 (.seq
 (.block 1
 (.seq
 (.ab false [
 oX 25 (.mv 23),
 oX 26 (.bX 1 21 23),
 oX 27 (.load false 1 26),
 oX 4 (.mv 25),
 oX 5 (.mv 27)])
 (.seq
 (.seq
 (.ab false [
 oX 28 (.mv 5),
 oX 29 (.bin .lss 28 (kX 0)),
 oX 30 (.mv 29),
 ⟨(some 31),.mv 5,(some (30,false))⟩,
 ⟨(some 32),.bin .gtr 31 (kX 99),(some (30,false))⟩,
 oX 33 (.pick 30 (.k (.one (.v (.bool) (true)))) 32),
 oX 34 (.mv 33),
 ⟨(some 35),.aF 0 1,(some (34,false))⟩,
 ⟨(some 36),.load false 1 35,(some (34,false))⟩,
 ⟨(some 37),.mv 4,(some (34,false))⟩,
 ⟨(some 38),.slice 1 36 none (some 37),(some (34,false))⟩,
 ⟨(some 39),.mv 5,(some (34,false))⟩,
 ⟨(some 40),.call .ae 106 [38,39],(some (34,false))⟩,
 oX 41 (.pick 34 (.k (.one (.v (.bool) (true)))) 40)])
 (.cond 41
 (.seq
 (.ab false [
 oX 2 (.mv (kX (-1)))])
 .ret)
 .skip))
 (.seq
 (.ab false [
 oX 42 (.aF 1 1),
 oX 43 (.load false 1 42),
 oX 44 (.mv 4),
 oX 45 (.bX 1 43 44),
 oX 46 (.load false 1 45),
 oX 6 (.mv 46)])
 (.seq
 (.seq
 (.ab false [
 oX 47 (.mv 6),
 oX 48 (.bin .lss 47 (kX 1)),
 oX 49 (.mv 48),
 ⟨(some 50),.mv 6,(some (49,false))⟩,
 ⟨(some 51),.bin .gtr 50 (kX 8),(some (49,false))⟩,
 oX 52 (.pick 49 (.k (.one (.v (.bool) (true)))) 51),
 oX 53 (.mv 52),
 ⟨(some 54),.mv 3,(some (53,false))⟩,
 ⟨(some 55),.mv 6,(some (53,false))⟩,
 ⟨(some 56),.bin .mul 54 55,(some (53,false))⟩,
 ⟨(some 57),.bin .gtr 56 (kX 4096),(some (53,false))⟩,
 oX 58 (.pick 53 (.k (.one (.v (.bool) (true)))) 57)])
 (.cond 58
 (.seq
 (.ab false [
 oX 2 (.mv (kX (-1)))])
 .ret)
 .skip))
 (.ab false [
 oX 59 (.mv 3),
 oX 60 (.mv 6),
 oX 61 (.bin .mul 59 60),
 oX 3 (.mv 61)]))))))
 (.ab false [
 oX 62 (.bin .add 23 (kX 1)),
 oX 23 (.mv 62)]))))))))
 (.seq
 (.ab false [
 oX 63 (.mv 3),
 oX 2 (.mv 63)])
 .ret)))))
def Qj:List bA:=[.tmp 2]
theorem akV (NN:Nat) (x:aQ (ak.aP Gy)):dH NN [M9] Tr Qj Gy Sa x=Lg NN x:=by kernel_rfl
theorem aiw:cb pX 65 Tr.er Qj 1=true:=by decide+kernel
theorem aaM:dh pX 65 Dq.M/\bC pX 65=true:=
  dS (T:=[M9]) (sc:=Tr) (ms:=Qj) (args:=Gy) (aA:=Sa) (aw.cons amo<|aw.nil) cE aiw vj fun x y h=>(akV ax x).trans (afM x y h)
def Dx:ar:=⟨89,GV,aj8,Sw,vl⟩
def TN:bw:=
 (.seq
 (.ab false [
 oX 1 (.box 3 0),
 oX 2 (.mv (kX 0))])
 (.seq
 (.seq
 (.ab false [
 oX 3 (.aF 0 1),
 oX 4 (.load false 1 3)])
 (.block 0
 (.seq
 (.ab false [
 oX 6 (.bin .eql 4 (kX 7)),
 oX 5 (.mv 6)])
 (.cond 5
 (.seq
 (.ab false [
 oX 7 (.aF 2 1),
 oX 8 (.load false 1 7),
 oX 2 (.mv 8)])
 .ret)
 (.seq
 (.ab false [
 oX 10 (.bin .eql 4 (kX 8)),
 oX 9 (.mv 10)])
 (.cond 9
 (.seq
 (.ab false [
 oX 2 (.mv (kX 4))])
 .ret)
 .skip))))))
 (.seq
 (.ab false [
 oX 2 (.mv (kX 1))])
 .ret)))
def QD:List bA:=[.tmp 2]
theorem alf (NN:Nat) (x:aQ (ak.aP GV)):dH NN [] TN QD GV Sw x=Lv NN x:=by kernel_rfl
theorem aiQ:cb pX 89 TN.er QD 1=true:=by decide+kernel
theorem aaS:dh pX 89 Dx.M/\bC pX 89=true:=
  dS (T:=[]) (sc:=TN) (ms:=QD) (args:=GV) (aA:=Sw) (aw.nil) cE aiQ vl fun x y h=>(alf ax x).trans (af6 x y h)
def Ni:ar:=⟨117,GU,aj7,Sv,zO⟩
def TM:bw:=
 (.seq
 (.ab false [
 oX 1 (.box 3 0),
 oX 2 (.mv (kX 0))])
 (.seq
 (.seq
 (.ab false [
 oX 3 (.aF 0 1),
 oX 4 (.load false 1 3)])
 (.block 0
 (.seq
 (.ab false [
 oX 6 (.bin .eql 4 (kX 1)),
 oX 5 (.mv 6)])
 (.cond 5
 (.seq
 (.ab false [
 oX 2 (.mv (kX 1))])
 .ret)
 (.seq
 (.seq
 (.ab false [
 oX 8 (.bin .eql 4 (kX 3)),
 oX 7 (.mv 8)])
 (.join ⟨[(7,.one (.c (.v (.bool)))),(4,sX),(1,.one (rX 1))],[(1,.box [vX,vX,vX])]⟩ [1] []
 (.cond 7
 .skip
 (.seq
 (.ab false [
 oX 9 (.bin .eql 4 (kX 4)),
 oX 7 (.mv 9)])
 (.cond 7
 .skip
 (.ab false [
 oX 10 (.bin .eql 4 (kX 5)),
 oX 7 (.mv 10)]))))))
 (.cond 7
 (.seq
 (.ab false [
 oX 11 (.aF 1 1),
 oX 12 (.load false 1 11),
 oX 2 (.mv 12)])
 .ret)
 (.seq
 (.ab false [
 oX 14 (.bin .eql 4 (kX 6)),
 oX 13 (.mv 14)])
 (.cond 13
 (.seq
 (.ab false [
 oX 15 (.aF 2 1),
 oX 16 (.load false 1 15),
 oX 17 (.bin .shl (kX 1) 16),
 oX 18 (.bin .sub 17 (kX 1)),
 oX 2 (.mv 18)])
 .ret)
 .skip))))))))
 (.seq
 (.ab false [
 oX 19 (.aF 1 1),
 oX 20 (.load false 1 19),
 oX 21 (.bin .sub 20 (kX 1)),
 oX 2 (.mv 21)])
 .ret)))
def QC:List bA:=[.tmp 2]
theorem ale (NN:Nat) (x:aQ (ak.aP GU)):dH NN [] TM QC GU Sv x=VN NN x:=by kernel_rfl
theorem aiP:cb pX 117 TM.er QC 1=true:=by decide+kernel
theorem amw:dh pX 117 Ni.M/\bC pX 117=true:=
  dS (T:=[]) (sc:=TM) (ms:=QC) (args:=GU) (aA:=Sv) (aw.nil) cE aiP zO fun x y h=>(ale ax x).trans (af5 x y h)
def Na:ar:=⟨90,GJ,ajY,Sj,zI⟩
def TB:bw:=
 (.seq
 (.ab false [
 oX 2 (.box 3 0),
 oX 4 (.mv (.k (.one (.v (.bool) (false)))))])
 (.seq
 (.ab false [
 oX 8 (.load true 3 2),
 oX 9 (.call .ae 117 [8]),
 oX 5 (.mv 9)])
 (.seq
 (.seq
 (.ab false [
 oX 10 (.mv 1),
 oX 11 (.len 10),
 oX 12 (.mv (kX 0))])
 (.join ⟨[],[]⟩ [] []
 (.block 0
 (.loop 0 ⟨[(5,sX),(10,.one (.c (.v (lX)))),(11,sX),(12,sX)],[]⟩ [2] []
 (.seq
 (.ab false [
 oX 13 (.bin .lss 12 11)])
 (.seq
 (.cond 13
 .skip
 (.exit 0))
 (.seq
 (.block 1
 (.seq
 (.ab false [
 oX 14 (.bX 1 10 12),
 oX 15 (.load false 1 14),
 oX 7 (.mv 15)])
 (.seq
 (.ab false [
 oX 16 (.mv 7),
 oX 17 (.bin .lss 16 (kX 0)),
 oX 18 (.mv 17),
 ⟨(some 19),.mv 7,(some (18,false))⟩,
 ⟨(some 20),.mv 5,(some (18,false))⟩,
 ⟨(some 21),.bin .gtr 19 20,(some (18,false))⟩,
 oX 22 (.pick 18 (.k (.one (.v (.bool) (true)))) 21)])
 (.cond 22
 (.seq
 (.ab false [
 oX 4 (.mv (.k (.one (.v (.bool) (false)))))])
 .ret)
 .skip))))
 (.ab false [
 oX 23 (.bin .add 12 (kX 1)),
 oX 12 (.mv 23)]))))))))
 (.seq
 (.ab false [
 oX 4 (.mv (.k (.one (.v (.bool) (true)))))])
 .ret))))
def Qs:List bA:=[.tmp 4]
theorem ak4 (NN:Nat) (x:aQ (ak.aP GJ)):dH NN [Ni] TB Qs GJ Sj x=Ln NN x:=by kernel_rfl
theorem aiF:cb pX 90 TB.er Qs 2=true:=by decide+kernel
theorem amp:dh pX 90 Na.M/\bC pX 90=true:=
  dS (T:=[Ni]) (sc:=TB) (ms:=Qs) (args:=GJ) (aA:=Sj) (aw.cons amw<|aw.nil) cE aiF zI fun x y h=>(ak4 ax x).trans (afV x y h)
def Dp:ar:=⟨43,Gx,ajO,R9,vi⟩
def Tq:bw:=
 (.seq
 (.ab false [
 oX 2 (.box 3 0),
 oX 3 (.box 3 1),
 oX 4 (.mv (.k (.one (.v (.bool) (false)))))])
 (.seq
 (.seq
 (.ab false [
 oX 6 (.load true 3 2),
 oX 7 (.call .ae 88 [6]),
 oX 8 (.un .not 7)])
 (.cond 8
 (.seq
 (.ab false [
 oX 4 (.mv (.k (.one (.v (.bool) (false)))))])
 .ret)
 .skip))
 (.seq
 (.ab false [
 oX 9 (.load true 3 3),
 oX 10 (.call .ae 65 [9]),
 oX 5 (.mv 10)])
 (.seq
 (.ab true [
 oX 11 (.mv 5),
 oX 12 (.bin .neq 11 (kX (-1))),
 oX 13 (.mv 12),
 ⟨(some 14),.aF 2 3,(some (13,true))⟩,
 ⟨(some 15),.load false 1 14,(some (13,true))⟩,
 ⟨(some 16),.len 15,(some (13,true))⟩,
 ⟨(some 17),.mv 5,(some (13,true))⟩,
 ⟨(some 18),.load true 3 2,(some (13,true))⟩,
 ⟨(some 19),.call .ae 89 [18],(some (13,true))⟩,
 ⟨(some 20),.bin .mul 17 19,(some (13,true))⟩,
 ⟨(some 21),.bin .eql 16 20,(some (13,true))⟩,
 oX 22 (.pick 13 21 (.k (.one (.v (.bool) (false))))),
 oX 23 (.mv 22),
 ⟨(some 24),.load true 3 2,(some (23,true))⟩,
 ⟨(some 25),.aF 2 3,(some (23,true))⟩,
 ⟨(some 26),.load false 1 25,(some (23,true))⟩,
 ⟨(some 27),.call .ae 90 [24,26],(some (23,true))⟩,
 oX 28 (.pick 23 27 (.k (.one (.v (.bool) (false))))),
 oX 4 (.mv 28)])
 .ret))))
def Qi:List bA:=[.tmp 4]
theorem akU (NN:Nat) (x:aQ (ak.aP Gx)):dH NN [M1,Dq,Dx,Na] Tq Qi Gx R9 x=Lf NN x:=by kernel_rfl
theorem aiv:cb pX 43 Tq.er Qi 2=true:=by decide+kernel
theorem aaL:dh pX 43 Dp.M/\bC pX 43=true:=
  dS (T:=[M1,Dq,Dx,Na]) (sc:=Tq) (ms:=Qi) (args:=Gx) (aA:=R9) (aw.cons amh<|aw.cons aaM<|aw.cons aaS<|aw.cons amp<|aw.nil) cE aiv vi fun x y h=>(akU ax x).trans (afL x y h)
def rn:ar:=⟨47,GC,ajS,Sd,nF⟩
def Tu:bw:=
 (.seq
 (.ab false [
 oX 2 (.mv (.k (.one (.nil iX))))])
 (.seq
 (.ab false [
 oX 3 (.mv 0),
 oX 4 (.append true iX 8 (.k (.one (.nil iX))) 3),
 oX 2 (.mv 4)])
 .ret))
def Qm:List bA:=[.tmp 2]
theorem akY (NN:Nat) (x:aQ (ak.aP GC)):dH NN [] Tu Qm GC Sd x=Li NN x:=by kernel_rfl
theorem aiz:cb pX 47 Tu.er Qm 1=true:=by decide+kernel
theorem EC:dh pX 47 rn.M/\bC pX 47=true:=
  dS (T:=[]) (sc:=Tu) (ms:=Qm) (args:=GC) (aA:=Sd) (aw.nil) cE aiz nF fun x y h=>(akY ax x).trans (afP x y h)
def MN:ar:=⟨141,Gd,ajz,RP,xl⟩
def S8:bw:=
 (.seq
 (.ab false [
 oX 2 (.mv (.k (.one (.v (.bool) (false)))))])
 (.seq
 (.ab false [
 oX 3 (.mv 0),
 oX 4 (.mv 0),
 oX 5 (.bin .neq 3 4),
 oX 2 (.mv 5)])
 .ret))
def P0:List bA:=[.tmp 2]
theorem akC (NN:Nat) (x:aQ (ak.aP Gd)):dH NN [] S8 P0 Gd RP x=K3 NN x:=by kernel_rfl
theorem aic:cb pX 141 S8.er P0 1=true:=by decide+kernel
theorem al7:dh pX 141 MN.M/\bC pX 141=true:=
  dS (T:=[]) (sc:=S8) (ms:=P0) (args:=Gd) (aA:=RP) (aw.nil) cE aic xl fun x y h=>(akC ax x).trans (aft x y h)
def Dm:ar:=⟨131,Gc,ajy,RO,CC⟩
def S7:bw:=
 (.seq
 (.ab false [
 oX 4 (.mv (.k (.one (.v (.bool) (false)))))])
 (.seq
 (.ab false [
 oX 5 (.mv 0),
 oX 6 (.call .ae 141 [5]),
 oX 7 (.mv 6),
 ⟨(some 8),.mv 1,(some (7,true))⟩,
 ⟨(some 9),.call .ae 141 [8],(some (7,true))⟩,
 ⟨(some 10),.un .not 9,(some (7,true))⟩,
 oX 11 (.pick 7 10 (.k (.one (.v (.bool) (false))))),
 oX 12 (.mv 11),
 ⟨(some 13),.mv 0,(some (12,false))⟩,
 ⟨(some 14),.mv 1,(some (12,false))⟩,
 ⟨(some 15),.bin .lss 13 14,(some (12,false))⟩,
 oX 16 (.pick 12 (.k (.one (.v (.bool) (true)))) 15),
 oX 4 (.mv 16)])
 .ret))
def PZ:List bA:=[.tmp 4]
theorem akB (NN:Nat) (x:aQ (ak.aP Gc)):dH NN [MN] S7 PZ Gc RO x=KZ NN x:=by kernel_rfl
theorem aib:cb pX 131 S7.er PZ 2=true:=by decide+kernel
theorem aaJ:dh pX 131 Dm.M/\bC pX 131=true:=
  dS (T:=[MN]) (sc:=S7) (ms:=PZ) (args:=Gc) (aA:=RO) (aw.cons al7<|aw.nil) cE aib CC fun x y h=>(akB ax x).trans (afs x y h)
def Nr:ar:=⟨125,G5,Ju,SG,vn⟩
def TV:bw:=
 (.seq
 (.ab false [
 oX 8 (.mv 1),
 oX 9 (.bin .add 8 (kX 1)),
 oX 6 (.mv 9)])
 (.block 0
 (.loop 0 ⟨[(0,.one (fX 1000000 1)),(1,sX),(2,sX),(6,sX)],[(1000000,.row false .ae iX)]⟩ [1000000,500000] [(false,0,0,500000,.ae,[])]
 (.seq
 (.seq
 (.ab false [
 oX 10 (.mv 6),
 oX 11 (.mv 2),
 oX 12 (.bin .lss 10 11)])
 (.cond 12
 .skip
 (.exit 0)))
 (.seq
 (.join ⟨[(6,sX),(0,.one (fX 1000000 1)),(1,sX),(2,sX)],[(1000000,.row false .ae iX)]⟩ [1000000,500002] [(false,0,0,500002,.ae,[])]
 (.block 1
 (.seq
 (.ab false [
 oX 15 (.mv 6),
 oX 7 (.mv 15)])
 (.block 2
 (.loop 0 ⟨[(0,.one (fX 1000000 1)),(1,sX),(2,sX),(6,sX),(7,sX)],[(1000000,.row false .ae iX)]⟩ [1000000,500001] [(false,0,0,500001,.ae,[])]
 (.seq
 (.seq
 (.ab true [
 oX 16 (.mv 7),
 oX 17 (.mv 1),
 oX 18 (.bin .gtr 16 17),
 oX 19 (.mv 18),
 ⟨(some 20),.mv 0,(some (19,true))⟩,
 ⟨(some 21),.mv 7,(some (19,true))⟩,
 ⟨(some 22),.bX 1 20 21,(some (19,true))⟩,
 ⟨(some 23),.load false 1 22,(some (19,true))⟩,
 ⟨(some 24),.mv 0,(some (19,true))⟩,
 ⟨(some 25),.mv 7,(some (19,true))⟩,
 ⟨(some 26),.bin .sub 25 (kX 1),(some (19,true))⟩,
 ⟨(some 27),.bX 1 24 26,(some (19,true))⟩,
 ⟨(some 28),.load false 1 27,(some (19,true))⟩,
 ⟨(some 29),.call .ae 131 [23,28],(some (19,true))⟩,
 oX 30 (.pick 19 29 (.k (.one (.v (.bool) (false)))))])
 (.cond 30
 .skip
 (.exit 2)))
 (.seq
 (.block 3
 (.ab true [
 oX 33 (.mv 0),
 oX 34 (.mv 7),
 oX 35 (.mv 0),
 oX 36 (.mv 7),
 oX 37 (.bin .sub 36 (kX 1)),
 oX 38 (.mv 0),
 oX 39 (.mv 7),
 oX 40 (.bin .sub 39 (kX 1)),
 oX 41 (.bX 1 38 40),
 oX 42 (.load false 1 41),
 oX 43 (.mv 0),
 oX 44 (.mv 7),
 oX 45 (.bX 1 43 44),
 oX 46 (.load false 1 45),
 oX 47 (.bX 1 33 34),
 uX (.store 1 47 42),
 oX 48 (.bX 1 35 37),
 uX (.store 1 48 46)]))
 (.ab false [
 oX 31 (.mv 7),
 oX 32 (.bin .sub 31 (kX 1)),
 oX 7 (.mv 32)]))))))))
 (.ab false [
 oX 13 (.mv 6),
 oX 14 (.bin .add 13 (kX 1)),
 oX 6 (.mv 14)]))))))
def QL:List bA:=[]
theorem alo (NN:Nat) (x:aQ (ak.aP G5)):u0 NN [Dm] TV QL G5 Ju SG x=LA NN x:=by kernel_rfl
theorem aiY:cb pX 125 TV.er QL 3=true:=by decide+kernel
theorem amF:pM pX 125 Ju Nr.MM/\bC pX 125=true:=
  yU (T:=[Dm]) (sc:=TV) (ms:=QL) (args:=G5) (mu:=Ju) (aA:=SG) (aw.cons aaJ<|aw.nil) cE aiY vn fun x y h=>(alo ax x).trans (age x y h)
def Ns:ar:=⟨123,G6,Jv,SH,zT⟩
def TW:bw:=
 (.seq
 (.ab false [
 oX 8 (.mv (.k (.one (.v (.bool) (true)))))])
 (.seq
 (.ab false [
 oX 9 (.mv (.k (.one (.v (.bool) (true)))))])
 (.block 0
 (.loop 0 ⟨[(0,.one (fX 1000000 1)),(1,sX),(2,sX),(3,sX),(8,.one (.c (.v (.bool)))),(9,.one (.c (.v (.bool))))],[(1000000,.row false .ae iX)]⟩ [1000000,500000] [(false,0,0,500000,.ae,[])]
 (.block 1
 (.seq
 (.ab false [
 oX 19 (.mv 2),
 oX 20 (.mv 1),
 oX 21 (.bin .sub 19 20),
 oX 10 (.mv 21)])
 (.seq
 (.seq
 (.ab false [
 oX 22 (.mv 10),
 oX 23 (.bin .leq 22 (kX 12))])
 (.cond 23
 (.seq
 (.ab false [
 oX 24 (.mv 0),
 oX 25 (.mv 1),
 oX 26 (.mv 2),
 oX 27 (.gd .ae 125 [24,25,26])])
 .ret)
 .skip))
 (.seq
 (.seq
 (.ab false [
 oX 28 (.mv 3),
 oX 29 (.bin .eql 28 (kX 0))])
 (.cond 29
 (.seq
 (.ab false [
 oX 30 (.mv 0),
 oX 31 (.mv 1),
 oX 32 (.mv 2),
 oX 33 (.call .ae 126 [30,31,32])])
 .ret)
 .skip))
 (.seq
 (.seq
 (.ab false [
 oX 34 (.mv 8),
 oX 35 (.un .not 34)])
 (.join ⟨[(9,.one (.c (.v (.bool)))),(8,.one (.c (.v (.bool)))),(10,sX),(2,sX),(0,.one (fX 1000000 1)),(1,sX),(3,sX)],[(1000000,.row false .ae iX)]⟩ [1000000,500001] [(false,0,0,500001,.ae,[])]
 (.cond 35
 (.seq
 (.ab false [
 oX 36 (.mv 0),
 oX 37 (.mv 1),
 oX 38 (.mv 2),
 oX 39 (.call .ae 127 [36,37,38])])
 (.ab false [
 oX 40 (.mv 3),
 oX 41 (.bin .sub 40 (kX 1)),
 oX 3 (.mv 41)]))
 .skip)))
 (.seq
 (.ab false [
 oX 43 (.mv 0),
 oX 44 (.mv 1),
 oX 45 (.mv 2),
 oX 46 (.call .ae 128 [43,44,45]),
 oX 42 (.mv 46),
 oX 47 (.ext 0 42),
 oX 48 (.ext 1 42),
 oX 11 (.mv 47),
 oX 12 (.mv 48)])
 (.seq
 (.seq
 (.ab false [
 oX 49 (.mv 12),
 oX 50 (.bin .eql 49 (kX 2))])
 (.join ⟨[(12,sX),(9,.one (.c (.v (.bool)))),(8,.one (.c (.v (.bool)))),(11,sX),(10,sX),(2,sX),(0,.one (fX 1000000 1)),(1,sX),(3,sX)],[(1000000,.row false .ae iX)]⟩ [1000000,500002] [(false,0,0,500002,.ae,[])]
 (.cond 50
 (.seq
 (.ab false [
 oX 51 (.mv 0),
 oX 52 (.mv 1),
 oX 53 (.mv 2),
 oX 54 (.call .ae 129 [51,52,53])])
 (.seq
 (.ab false [
 oX 55 (.mv 2),
 oX 56 (.bin .sub 55 (kX 1)),
 oX 57 (.mv 11),
 oX 58 (.mv 1),
 oX 59 (.bin .sub 57 58),
 oX 60 (.bin .sub 56 59),
 oX 11 (.mv 60)])
 (.ab false [
 oX 12 (.mv (kX 1))])))
 .skip)))
 (.seq
 (.seq
 (.ab false [
 oX 61 (.mv 8),
 oX 62 (.mv 61),
 ⟨(some 63),.mv 9,(some (62,true))⟩,
 oX 64 (.pick 62 63 (.k (.one (.v (.bool) (false))))),
 oX 65 (.mv 64),
 ⟨(some 66),.mv 12,(some (65,true))⟩,
 ⟨(some 67),.bin .eql 66 (kX 1),(some (65,true))⟩,
 oX 68 (.pick 65 67 (.k (.one (.v (.bool) (false)))))])
 (.join ⟨[(9,.one (.c (.v (.bool)))),(8,.one (.c (.v (.bool)))),(11,sX),(10,sX),(2,sX),(0,.one (fX 1000000 1)),(1,sX),(3,sX)],[(1000000,.row false .ae iX)]⟩ [1000000,500003] [(false,0,0,500003,.ae,[])]
 (.cond 68
 (.seq
 (.ab false [
 oX 69 (.mv 0),
 oX 70 (.mv 1),
 oX 71 (.mv 2),
 oX 72 (.call .ae 130 [69,70,71])])
 (.cond 72
 .ret
 .skip))
 .skip)))
 (.seq
 (.seq
 (.ab true [
 oX 73 (.mv 1),
 oX 74 (.bin .gtr 73 (kX 0)),
 oX 75 (.mv 74),
 ⟨(some 76),.mv 0,(some (75,true))⟩,
 ⟨(some 77),.mv 1,(some (75,true))⟩,
 ⟨(some 78),.bin .sub 77 (kX 1),(some (75,true))⟩,
 ⟨(some 79),.bX 1 76 78,(some (75,true))⟩,
 ⟨(some 80),.load false 1 79,(some (75,true))⟩,
 ⟨(some 81),.mv 0,(some (75,true))⟩,
 ⟨(some 82),.mv 11,(some (75,true))⟩,
 ⟨(some 83),.bX 1 81 82,(some (75,true))⟩,
 ⟨(some 84),.load false 1 83,(some (75,true))⟩,
 ⟨(some 85),.call .ae 131 [80,84],(some (75,true))⟩,
 ⟨(some 86),.un .not 85,(some (75,true))⟩,
 oX 87 (.pick 75 86 (.k (.one (.v (.bool) (false)))))])
 (.cond 87
 (.seq
 (.ab false [
 oX 88 (.mv 0),
 oX 89 (.mv 1),
 oX 90 (.mv 2),
 oX 91 (.mv 11),
 oX 92 (.call .ae 132 [88,89,90,91]),
 oX 13 (.mv 92)])
 (.seq
 (.ab false [
 oX 93 (.mv 13),
 oX 1 (.mv 93)])
 (.exit 1)))
 .skip))
 (.seq
 (.ab false [
 oX 95 (.mv 0),
 oX 96 (.mv 1),
 oX 97 (.mv 2),
 oX 98 (.mv 11),
 oX 99 (.call .ae 133 [95,96,97,98]),
 oX 94 (.mv 99),
 oX 100 (.ext 0 94),
 oX 101 (.ext 1 94),
 oX 14 (.mv 100),
 oX 15 (.mv 101)])
 (.seq
 (.ab false [
 oX 102 (.mv 15),
 oX 9 (.mv 102)])
 (.seq
 (.ab false [
 oX 103 (.mv 14),
 oX 104 (.mv 1),
 oX 105 (.bin .sub 103 104),
 oX 106 (.mv 2),
 oX 107 (.mv 14),
 oX 108 (.bin .sub 106 107),
 oX 16 (.mv 105),
 oX 17 (.mv 108)])
 (.seq
 (.ab false [
 oX 109 (.mv 10),
 oX 110 (.bin .quo 109 (kX 8)),
 oX 18 (.mv 110)])
 (.seq
 (.ab false [
 oX 111 (.mv 16),
 oX 112 (.mv 17),
 oX 113 (.bin .lss 111 112)])
 (.cond 113
 (.seq
 (.ab false [
 oX 114 (.mv 16),
 oX 115 (.mv 18),
 oX 116 (.bin .geq 114 115),
 oX 8 (.mv 116)])
 (.seq
 (.ab false [
 oX 117 (.mv 0),
 oX 118 (.mv 1),
 oX 119 (.mv 14),
 oX 120 (.mv 3),
 oX 121 (.gd .ae 123 [117,118,119,120])])
 (.ab false [
 oX 122 (.mv 14),
 oX 123 (.bin .add 122 (kX 1)),
 oX 1 (.mv 123)])))
 (.seq
 (.ab false [
 oX 124 (.mv 17),
 oX 125 (.mv 18),
 oX 126 (.bin .geq 124 125),
 oX 8 (.mv 126)])
 (.seq
 (.ab false [
 oX 127 (.mv 0),
 oX 128 (.mv 14),
 oX 129 (.bin .add 128 (kX 1)),
 oX 130 (.mv 2),
 oX 131 (.mv 3),
 oX 132 (.gd .ae 123 [127,129,130,131])])
 (.ab false [
 oX 133 (.mv 14),
 oX 2 (.mv 133)]))))))))))))))))))))))
def QM:List bA:=[]
theorem alp (NN:Nat) (x:aQ (ak.aP G6)):u0 NN [Nr,Dm] TW QM G6 Jv SH x=LB NN x:=by kernel_rfl
theorem aiZ:cb pX 123 TW.er QM 4=true:=by decide+kernel
theorem amG:pM pX 123 Jv Ns.MM/\bC pX 123=true:=
  yU (T:=[Nr,Dm]) (sc:=TW) (ms:=QM) (args:=G6) (mu:=Jv) (aA:=SH) (aw.rb amF<|aw.cons aaJ<|aw.nil) cE aiZ zT fun x y h=>(alp ax x).trans (agf x y h)
def Nq:ar:=⟨122,G4,Jt,SF,zS⟩
def TU:bw:=
 (.seq
 (.ab false [
 oX 3 (.mv 0),
 oX 4 (.len 3),
 oX 2 (.mv 4)])
 (.ab false [
 oX 5 (.mv 0),
 oX 6 (.mv 2),
 oX 7 (.mv 2),
 oX 8 (.conv .u64 7),
 oX 9 (.call .ae 124 [8]),
 oX 10 (.gd .ae 123 [5,(kX 0),6,9])]))
def QK:List bA:=[]
theorem aln (NN:Nat) (x:aQ (ak.aP G4)):u0 NN [Np,Ns] TU QK G4 Jt SF x=Lz NN x:=by kernel_rfl
theorem aiX:cb pX 122 TU.er QK 1=true:=by decide+kernel
theorem amE:pM pX 122 Jt Nq.MM/\bC pX 122=true:=
  yU (T:=[Np,Ns]) (sc:=TU) (ms:=QK) (args:=G4) (mu:=Jt) (aA:=SF) (aw.cons amD<|aw.rb amG<|aw.nil) cE aiX zS fun x y h=>(aln ax x).trans (agd x y h)
def Nk:ar:=⟨92,GX,aka,Sy,zP⟩
def TP:bw:=
 (.seq
 (.ab false [
 oX 2 (.mv (.k (.one (.nil iX))))])
 (.seq
 (.ab false [
 oX 4 (.mv 0),
 oX 5 (.call .ae 47 [4]),
 oX 3 (.mv 5)])
 (.seq
 (.ab false [
 oX 6 (.mv 3),
 oX 7 (.gd .ae 122 [6])])
 (.seq
 (.ab false [
 oX 8 (.mv 3),
 oX 2 (.mv 8)])
 .ret))))
def QF:List bA:=[.tmp 2]
theorem alh (NN:Nat) (x:aQ (ak.aP GX)):dH NN [rn,Nq] TP QF GX Sy x=Lx NN x:=by kernel_rfl
theorem aiS:cb pX 92 TP.er QF 1=true:=by decide+kernel
theorem amy:dh pX 92 Nk.M/\bC pX 92=true:=
  dS (T:=[rn,Nq]) (sc:=TP) (ms:=QF) (args:=GX) (aA:=Sy) (aw.cons EC<|aw.rb amE<|aw.nil) cE aiS zP fun x y h=>(alh ax x).trans (af8 x y h)
def M5:ar:=⟨118,Gz,ajQ,Sb,zF⟩
def Ts:bw:=
 (.seq
 (.ab false [
 oX 2 (.box 3 0),
 oX 4 (.mv (kX 0))])
 (.seq
 (.seq
 (.ab false [
 oX 7 (.aF 0 2),
 oX 8 (.load false 1 7),
 oX 9 (.len 8),
 oX 10 (.mv (kX 0))])
 (.join ⟨[],[]⟩ [] []
 (.block 0
 (.loop 0 ⟨[(1,sX),(8,.one (.c (.v (lX)))),(9,sX),(10,sX)],[]⟩ [2] []
 (.seq
 (.ab false [
 oX 11 (.bin .lss 10 9)])
 (.seq
 (.cond 11
 .skip
 (.exit 0))
 (.seq
 (.block 1
 (.seq
 (.ab false [
 oX 12 (.mv 10),
 oX 13 (.bX 1 8 10),
 oX 14 (.load false 1 13),
 oX 5 (.mv 12),
 oX 6 (.mv 14)])
 (.seq
 (.ab false [
 oX 15 (.mv 6),
 oX 16 (.mv 1),
 oX 17 (.bin .eql 15 16)])
 (.cond 17
 (.seq
 (.ab false [
 oX 18 (.mv 5),
 oX 4 (.mv 18)])
 .ret)
 .skip))))
 (.ab false [
 oX 19 (.bin .add 10 (kX 1)),
 oX 10 (.mv 19)]))))))))
 (.seq
 (.ab false [
 oX 4 (.mv (kX (-1)))])
 .ret)))
def Qk:List bA:=[.tmp 4]
theorem akW (NN:Nat) (x:aQ (ak.aP Gz)):dH NN [] Ts Qk Gz Sb x=Lh NN x:=by kernel_rfl
theorem aix:cb pX 118 Ts.er Qk 2=true:=by decide+kernel
theorem amk:dh pX 118 M5.M/\bC pX 118=true:=
  dS (T:=[]) (sc:=Ts) (ms:=Qk) (args:=Gz) (aA:=Sb) (aw.nil) cE aix zF fun x y h=>(akW ax x).trans (afN x y h)
def Nl:ar:=⟨119,GY,akb,Sz,zQ⟩
def TQ:bw:=
 (.seq
 (.ab false [
 oX 2 (.box 3 0),
 oX 4 (.mv (.k (.one (.nil iX))))])
 (.seq
 (.ab false [
 oX 10 (.mv 1),
 oX 11 (.len 10),
 oX 12 (.jF .ae iX 8 (0:Int) 11 11),
 oX 5 (.mv 12)])
 (.seq
 (.ab false [
 oX 6 (.mv (kX 1))])
 (.seq
 (.seq
 (.ab false [
 oX 13 (.aF 1 2),
 oX 14 (.load false 1 13),
 oX 15 (.len 14),
 oX 16 (.bin .sub 15 (kX 1)),
 oX 7 (.mv 16)])
 (.join ⟨[(5,.one (fX 500004 1))],[(500004,.row true .ae iX)]⟩ [2,500000,500004] [(false,5,0,500004,.ae,[])]
 (.block 0
 (.loop 0 ⟨[(1,.one (.c (.v (lX)))),(2,.one (rX 2)),(5,.one (fX 500000 1)),(6,sX),(7,sX)],[(2,.box [.c (.v (lX)),.c (.v (lX)),.c (.v (lX))]),(500000,.row true .ae iX)]⟩ [2,12,500000,500003] [(false,5,0,500000,.ae,[])]
 (.seq
 (.seq
 (.ab false [
 oX 17 (.mv 7),
 oX 18 (.bin .geq 17 (kX 0))])
 (.cond 18
 .skip
 (.exit 0)))
 (.seq
 (.join ⟨[(7,sX),(1,.one (.c (.v (lX)))),(2,.one (rX 2)),(5,.one (fX 500003 1)),(6,sX)],[(2,.box [.c (.v (lX)),.c (.v (lX)),.c (.v (lX))]),(500003,.row true .ae iX)]⟩ [2,500002,500003] [(false,5,0,500003,.ae,[])]
 (.block 1
 (.seq
 (.seq
 (.ab false [
 oX 21 (.mv 1),
 oX 22 (.len 21),
 oX 23 (.mv (kX 0))])
 (.join ⟨[(6,sX),(7,sX),(1,.one (.c (.v (lX)))),(2,.one (rX 2)),(5,.one (fX 500002 1))],[(2,.box [.c (.v (lX)),.c (.v (lX)),.c (.v (lX))]),(500002,.row true .ae iX)]⟩ [2,500001,500002] [(false,5,0,500002,.ae,[])]
 (.block 2
 (.loop 0 ⟨[(1,.one (.c (.v (lX)))),(2,.one (rX 2)),(5,.one (fX 500001 1)),(6,sX),(7,sX),(21,.one (.c (.v (lX)))),(22,sX),(23,sX)],[(2,.box [.c (.v (lX)),.c (.v (lX)),.c (.v (lX))]),(500001,.row true .ae iX)]⟩ [2,500000,500001] [(false,5,0,500001,.ae,[])]
 (.seq
 (.ab false [
 oX 24 (.bin .lss 23 22)])
 (.seq
 (.cond 24
 .skip
 (.exit 2))
 (.seq
 (.block 3
 (.seq
 (.ab false [
 oX 25 (.mv 23),
 oX 26 (.bX 1 21 23),
 oX 27 (.load false 1 26),
 oX 8 (.mv 25),
 oX 9 (.mv 27)])
 (.seq
 (.ab false [
 oX 28 (.mv 9),
 oX 29 (.aF 0 2),
 oX 30 (.load false 1 29),
 oX 31 (.mv 7),
 oX 32 (.bX 1 30 31),
 oX 33 (.load false 1 32),
 oX 34 (.bin .eql 28 33)])
 (.cond 34
 (.ab false [
 oX 35 (.mv 5),
 oX 36 (.mv 8),
 oX 37 (.mv 6),
 oX 38 (.bX 1 35 36),
 uX (.store 1 38 37)])
 .skip))))
 (.ab false [
 oX 39 (.bin .add 23 (kX 1)),
 oX 23 (.mv 39)]))))))))
 (.ab false [
 oX 40 (.mv 6),
 oX 41 (.aF 1 2),
 oX 42 (.load false 1 41),
 oX 43 (.mv 7),
 oX 44 (.bX 1 42 43),
 oX 45 (.load false 1 44),
 oX 46 (.bin .mul 40 45),
 oX 6 (.mv 46)]))))
 (.ab false [
 oX 19 (.mv 7),
 oX 20 (.bin .sub 19 (kX 1)),
 oX 7 (.mv 20)])))))))
 (.seq
 (.ab false [
 oX 47 (.mv 5),
 oX 4 (.mv 47)])
 .ret)))))
def QG:List bA:=[.tmp 4]
theorem ali (NN:Nat) (x:aQ (ak.aP GY)):dH NN [] TQ QG GY Sz x=Ly NN x:=by kernel_rfl
theorem aiT:cb pX 119 TQ.er QG 2=true:=by decide+kernel
theorem amz:dh pX 119 Nl.M/\bC pX 119=true:=
  dS (T:=[]) (sc:=TQ) (ms:=QG) (args:=GY) (aA:=Sz) (aw.nil) cE aiT zQ fun x y h=>(ali ax x).trans (af9 x y h)
def M7:ar:=⟨121,GF,ajU,Sf,zH⟩
def Tw:bw:=
 (.seq
 (.ab false [
 oX 4 (.mv (kX 0))])
 (.seq
 (.ab false [
 oX 5 (.mv (kX 0))])
 (.seq
 (.seq
 (.ab false [
 oX 7 (.mv 0),
 oX 8 (.len 7),
 oX 9 (.mv (kX 0))])
 (.join ⟨[(5,sX)],[]⟩ [] []
 (.block 0
 (.loop 0 ⟨[(0,.one (.c (.v (lX)))),(1,.one (.c (.v (lX)))),(5,sX),(8,sX),(9,sX)],[]⟩ [] []
 (.seq
 (.ab false [
 oX 10 (.bin .lss 9 8)])
 (.seq
 (.cond 10
 .skip
 (.exit 0))
 (.seq
 (.block 1
 (.seq
 (.ab false [
 oX 11 (.mv 9),
 oX 6 (.mv 11)])
 (.ab true [
 oX 12 (.mv 5),
 oX 13 (.mv 0),
 oX 14 (.mv 6),
 oX 15 (.bX 1 13 14),
 oX 16 (.load false 1 15),
 oX 17 (.mv 1),
 oX 18 (.mv 6),
 oX 19 (.bX 1 17 18),
 oX 20 (.load false 1 19),
 oX 21 (.bin .mul 16 20),
 oX 22 (.bin .add 12 21),
 oX 5 (.mv 22)])))
 (.ab false [
 oX 23 (.bin .add 9 (kX 1)),
 oX 9 (.mv 23)]))))))))
 (.seq
 (.ab false [
 oX 24 (.mv 5),
 oX 4 (.mv 24)])
 .ret))))
def Qo:List bA:=[.tmp 4]
theorem ak0 (NN:Nat) (x:aQ (ak.aP GF)):dH NN [] Tw Qo GF Sf x=Lk NN x:=by kernel_rfl
theorem aiB:cb pX 121 Tw.er Qo 2=true:=by decide+kernel
theorem amm:dh pX 121 M7.M/\bC pX 121=true:=
  dS (T:=[]) (sc:=Tw) (ms:=Qo) (args:=GF) (aA:=Sf) (aw.nil) cE aiB zH fun x y h=>(ak0 ax x).trans (afR x y h)
def Nf:ar:=⟨120,GP,aj3,Sq,xv⟩
def TI:bw:=
 (.seq
 (.ab false [
 oX 3 (.box 3 0),
 oX 4 (.box 3 1),
 oX 6 (.mv (.k (.one (.nil iX))))])
 (.seq
 (.ab false [
 oX 8 (.load true 3 3),
 oX 9 (.call .ae 89 [8]),
 oX 7 (.mv 9)])
 (.seq
 (.ab false [
 oX 10 (.aF 2 4),
 oX 11 (.load false 1 10),
 oX 12 (.mv 2),
 oX 13 (.mv 7),
 oX 14 (.bin .mul 12 13),
 oX 15 (.mv 2),
 oX 16 (.bin .add 15 (kX 1)),
 oX 17 (.mv 7),
 oX 18 (.bin .mul 16 17),
 oX 19 (.slice 1 11 (some 14) (some 18)),
 oX 6 (.mv 19)])
 .ret)))
def Qy:List bA:=[.tmp 6]
theorem ala (NN:Nat) (x:aQ (ak.aP GP)):lU NN [Dx] TI Qy GP Sq x=Ls NN x:=by kernel_rfl
theorem aiL:cb pX 120 TI.er Qy 3=true:=by decide+kernel
theorem amt:jM Go.Proofs.Try.prog 120 Nf.MV/\bC pX 120=true:=
  nD (T:=[Dx]) (sc:=TI) (ms:=Qy) (args:=GP) (aA:=Sq) (aw.cons aaS<|aw.nil) cE aiL xv fun x y h=>(ala ax x).trans (af1 x y h)
def Nh:ar:=⟨91,GR,aj5,Ss,zN⟩
def TK:bw:=
 (.seq
 (.ab false [
 oX 3 (.box 3 0),
 oX 4 (.box 3 1),
 oX 6 (.alloc [.nil iX,.nil iX,.nil iX])])
 (.seq
 (.ab true [
 oX 12 (.mv 2),
 oX 13 (.call .ae 47 [12]),
 oX 14 (.mv 2),
 oX 15 (.len 14),
 oX 16 (.jF .ae iX 8 (0:Int) 15 15),
 oX 17 (.build [.nil iX,.nil iX,.nil iX] [(0,1,13),(1,1,16)]),
 oX 7 (.alloc [.nil iX,.nil iX,.nil iX]),
 uX (.store 3 7 17)])
 (.seq
 (.seq
 (.ab false [
 oX 18 (.mv 2),
 oX 19 (.len 18),
 oX 20 (.mv (kX 0))])
 (.join ⟨[(2,.one (.c (.v (lX)))),(7,.one (rX 7)),(6,.one (rX 6)),(4,.one (rX 4)),(3,.one (rX 3))],[(3,.box [vX,vX,vX]),(4,.box [.c (.v (lX)),.c (.v (lX)),.c (.v (lX))]),(6,.box [fX 500006 1,fX 500007 1,fX 500008 1]),(7,.box [fX 500009 1,fX 500010 1,fX 500011 1]),(500006,.row true .ae iX),(500007,.row true .ae iX),(500008,.row true .ae iX),(500009,.row true .ae iX),(500010,.row true .ae iX),(500011,.row true .ae iX)]⟩ [3,4,6,7,500000,500001,500002,500003,500004,500005,500006,500007,500008,500009,500010,500011] [(true,6,0,500006,.ae,[]),(true,6,1,500007,.ae,[]),(true,6,2,500008,.ae,[]),(true,7,0,500009,.ae,[]),(true,7,1,500010,.ae,[]),(true,7,2,500011,.ae,[])]
 (.block 0
 (.loop 0 ⟨[(2,.one (.c (.v (lX)))),(3,.one (rX 3)),(4,.one (rX 4)),(6,.one (rX 6)),(7,.one (rX 7)),(18,.one (.c (.v (lX)))),(19,sX),(20,sX)],[(3,.box [vX,vX,vX]),(4,.box [.c (.v (lX)),.c (.v (lX)),.c (.v (lX))]),(6,.box [fX 500000 1,fX 500001 1,fX 500002 1]),(7,.box [fX 500003 1,fX 500004 1,fX 500005 1]),(500000,.row true .ae iX),(500001,.row true .ae iX),(500002,.row true .ae iX),(500003,.row true .ae iX),(500004,.row true .ae iX),(500005,.row true .ae iX)]⟩ [3,4,6,14000,16,7,500000,500001,500002,500003,500004,500005] [(true,6,0,500000,.ae,[]),(true,6,1,500001,.ae,[]),(true,6,2,500002,.ae,[]),(true,7,0,500003,.ae,[]),(true,7,1,500004,.ae,[]),(true,7,2,500005,.ae,[])]
 (.seq
 (.ab false [
 oX 21 (.bin .lss 20 19)])
 (.seq
 (.cond 21
 .skip
 (.exit 0))
 (.seq
 (.block 1
 (.seq
 (.ab false [
 oX 22 (.mv 20),
 oX 23 (.bX 1 18 20),
 oX 24 (.load false 1 23),
 oX 8 (.mv 22),
 oX 9 (.mv 24)])
 (.ab true [
 oX 25 (.aF 1 7),
 oX 26 (.load false 1 25),
 oX 27 (.mv 8),
 oX 28 (.aF 1 4),
 oX 29 (.load false 1 28),
 oX 30 (.load true 3 4),
 oX 31 (.mv 9),
 oX 32 (.call .ae 118 [30,31]),
 oX 33 (.bX 1 29 32),
 oX 34 (.load false 1 33),
 oX 35 (.bX 1 26 27),
 uX (.store 1 35 34)])))
 (.ab false [
 oX 36 (.bin .add 20 (kX 1)),
 oX 20 (.mv 36)]))))))))
 (.seq
 (.ab false [
 oX 37 (.load true 3 4),
 oX 38 (.mv 2),
 oX 39 (.call .ae 119 [37,38]),
 oX 10 (.mv 39)])
 (.seq
 (.ab false [
 oX 40 (.mv 2),
 oX 41 (.len 40),
 oX 42 (.jF .ae iX 8 (0:Int) 41 41),
 oX 11 (.mv 42)])
 (.block 2
 (.loop 0 ⟨[(3,.one (rX 3)),(4,.one (rX 4)),(6,.one (rX 6)),(7,.one (rX 7)),(10,.one (fX 500018 1)),(11,.one (fX 500019 1))],[(3,.box [vX,vX,vX]),(4,.box [.c (.v (lX)),.c (.v (lX)),.c (.v (lX))]),(6,.box [fX 500012 1,fX 500013 1,fX 500014 1]),(7,.box [fX 500015 1,fX 500016 1,fX 500017 1]),(500012,.row true .ae iX),(500013,.row true .ae iX),(500014,.row true .ae iX),(500015,.row true .ae iX),(500016,.row true .ae iX),(500017,.row true .ae iX),(500018,.row true .ae iX),(500019,.row true .ae iX)]⟩ [3,4,6,7,40000,42,51,500006,500007,500008,500009,500010,500011,500012,500013,500014,500015,500016,500017,500018,500019] [(true,6,0,500012,.ae,[]),(true,6,1,500013,.ae,[]),(true,6,2,500014,.ae,[]),(true,7,0,500015,.ae,[]),(true,7,1,500016,.ae,[]),(true,7,2,500017,.ae,[]),(false,10,0,500018,.ae,[]),(false,11,0,500019,.ae,[])]
 (.block 3
 (.seq
 (.ab true [
 oX 43 (.aF 2 7),
 oX 44 (.load false 1 43),
 oX 45 (.load true 3 3),
 oX 46 (.load true 3 4),
 oX 47 (.mv 10),
 oX 48 (.mv 11),
 oX 49 (.call .ae 121 [47,48]),
 oX 50 (.lv 120 [45,46,49]),
 oX 51 (.append true iX 8 44 50),
 oX 52 (.aF 2 7),
 uX (.store 1 52 51)])
 (.seq
 (.ab false [
 oX 53 (.aF 1 7),
 oX 54 (.load false 1 53),
 oX 55 (.mv 11),
 oX 56 (.gd .ae 58 [54,55]),
 oX 57 (.un .not 56)])
 (.cond 57
 (.seq
 (.ab false [
 oX 58 (.load true 3 7),
 uX (.store 3 6 58)])
 .ret)
 .skip)))))))))))
def QA:List bA:=[.cell 6 3 true]
theorem alc (NN:Nat) (x:aQ (ak.aP GR)):dH NN [rn,M5,Nl,M7,Nf,Dt] TK QA GR Ss x=Lu NN x:=by kernel_rfl
theorem aiN:cb pX 91 TK.er QA 3=true:=by decide+kernel
theorem amv:dh pX 91 Nh.M/\bC pX 91=true:=
  dS (T:=[rn,M5,Nl,M7,Nf,Dt]) (sc:=TK) (ms:=QA) (args:=GR) (aA:=Ss) (aw.cons EC<|aw.cons amk<|aw.cons amz<|aw.cons amm<|aw.io amt<|aw.rb aaP<|aw.nil) cE aiN zN fun x y h=>(alc ax x).trans (af3 x y h)
def M4:ar:=⟨44,Gw,ajN,R8,zE⟩
def Tp:bw:=
 (.seq
 (.ab false [
 oX 2 (.box 3 0),
 oX 3 (.box 3 1),
 oX 4 (.alloc [.nil iX,.nil iX,.nil iX])])
 (.seq
 (.seq
 (.ab false [
 oX 5 (.load true 3 2),
 oX 6 (.load true 3 3),
 oX 7 (.call .ae 43 [5,6]),
 oX 8 (.un .not 7)])
 (.cond 8
 (.seq
 (.ab false [
 oX 9 (.build [.nil iX,.nil iX,.nil iX] []),
 uX (.store 3 4 9)])
 .ret)
 .skip))
 (.seq
 (.ab true [
 oX 10 (.load true 3 2),
 oX 11 (.load true 3 3),
 oX 12 (.aF 0 3),
 oX 13 (.load false 1 12),
 oX 14 (.call .ae 92 [13]),
 oX 15 (.call .ae 91 [10,11,14]),
 uX (.store 3 4 15)])
 .ret)))
def Qh:List bA:=[.cell 4 3 true]
theorem akT (NN:Nat) (x:aQ (ak.aP Gw)):dH NN [Dp,Nk,Nh] Tp Qh Gw R8 x=Le NN x:=by kernel_rfl
theorem aiu:cb pX 44 Tp.er Qh 2=true:=by decide+kernel
theorem amj:dh pX 44 M4.M/\bC pX 44=true:=
  dS (T:=[Dp,Nk,Nh]) (sc:=Tp) (ms:=Qh) (args:=Gw) (aA:=R8) (aw.cons aaL<|aw.cons amy<|aw.cons amv<|aw.nil) cE aiu zE fun x y h=>(akT ax x).trans (afK x y h)
def Nd:ar:=⟨45,GN,aj1,Sn,zL⟩
def TG:bw:=
 (.seq
 (.ab false [
 oX 2 (.mv (kX 0))])
 (.seq
 (.ab false [
 oX 3 (.mv (kX 1))])
 (.seq
 (.seq
 (.ab false [
 oX 6 (.mv 0),
 oX 7 (.len 6),
 oX 8 (.mv (kX 0))])
 (.join ⟨[(3,sX)],[]⟩ [] []
 (.block 0
 (.loop 0 ⟨[(3,sX),(6,.one (.c (.v (lX)))),(7,sX),(8,sX)],[]⟩ [] []
 (.seq
 (.ab false [
 oX 9 (.bin .lss 8 7)])
 (.seq
 (.cond 9
 .skip
 (.exit 0))
 (.seq
 (.block 1
 (.seq
 (.ab false [
 oX 10 (.bX 1 6 8),
 oX 11 (.load false 1 10),
 oX 5 (.mv 11)])
 (.ab false [
 oX 12 (.mv 3),
 oX 13 (.mv 5),
 oX 14 (.bin .mul 12 13),
 oX 3 (.mv 14)])))
 (.ab false [
 oX 15 (.bin .add 8 (kX 1)),
 oX 8 (.mv 15)]))))))))
 (.seq
 (.ab false [
 oX 16 (.mv 3),
 oX 2 (.mv 16)])
 .ret))))
def Qw:List bA:=[.tmp 2]
theorem ak8 (NN:Nat) (x:aQ (ak.aP GN)):dH NN [] TG Qw GN Sn x=Lq NN x:=by kernel_rfl
theorem aiJ:cb pX 45 TG.er Qw 1=true:=by decide+kernel
theorem ams:dh pX 45 Nd.M/\bC pX 45=true:=
  dS (T:=[]) (sc:=TG) (ms:=Qw) (args:=GN) (aA:=Sn) (aw.nil) cE aiJ zL fun x y h=>(ak8 ax x).trans (afZ x y h)
def Dn:ar:=⟨62,Gn,ajI,RZ,tr⟩
def Th:bw:=
 (.seq
 (.ab false [
 oX 3 (.box 3 1),
 oX 4 (.mv (.k (.one (.v (.bool) (false)))))])
 (.seq
 (.seq
 (.ab false [
 oX 5 (.mv 0),
 oX 6 (.call .ae 60 [5]),
 oX 7 (.un .not 6),
 oX 8 (.mv 7),
 ⟨(some 9),.aF 0 3,(some (8,false))⟩,
 ⟨(some 10),.load false 1 9,(some (8,false))⟩,
 ⟨(some 11),.bin .lss 10 (kX 0),(some (8,false))⟩,
 oX 12 (.pick 8 (.k (.one (.v (.bool) (true)))) 11),
 oX 13 (.mv 12),
 ⟨(some 14),.aF 1 3,(some (13,false))⟩,
 ⟨(some 15),.load false 1 14,(some (13,false))⟩,
 ⟨(some 16),.bin .lss 15 (kX 0),(some (13,false))⟩,
 oX 17 (.pick 13 (.k (.one (.v (.bool) (true)))) 16),
 oX 18 (.mv 17),
 ⟨(some 19),.aF 0 3,(some (18,false))⟩,
 ⟨(some 20),.load false 1 19,(some (18,false))⟩,
 ⟨(some 21),.bin .gtr 20 (kX 64),(some (18,false))⟩,
 oX 22 (.pick 18 (.k (.one (.v (.bool) (true)))) 21),
 oX 23 (.mv 22),
 ⟨(some 24),.aF 1 3,(some (23,false))⟩,
 ⟨(some 25),.load false 1 24,(some (23,false))⟩,
 ⟨(some 26),.bin .gtr 25 (kX 64),(some (23,false))⟩,
 oX 27 (.pick 23 (.k (.one (.v (.bool) (true)))) 26)])
 (.cond 27
 (.seq
 (.ab false [
 oX 4 (.mv (.k (.one (.v (.bool) (false)))))])
 .ret)
 .skip))
 (.seq
 (.ab false [
 oX 28 (.aF 2 3),
 oX 29 (.load false 1 28),
 oX 30 (.len 29),
 oX 31 (.aF 0 3),
 oX 32 (.load false 1 31),
 oX 33 (.aF 1 3),
 oX 34 (.load false 1 33),
 oX 35 (.bin .mul 32 34),
 oX 36 (.bin .eql 30 35),
 oX 37 (.mv 36),
 ⟨(some 38),.mv 0,(some (37,true))⟩,
 ⟨(some 39),.aF 2 3,(some (37,true))⟩,
 ⟨(some 40),.load false 1 39,(some (37,true))⟩,
 ⟨(some 41),.call .ae 100 [38,40],(some (37,true))⟩,
 oX 42 (.pick 37 41 (.k (.one (.v (.bool) (false))))),
 oX 4 (.mv 42)])
 .ret)))
def P9:List bA:=[.tmp 4]
theorem akL (NN:Nat) (x:aQ (ak.aP Gn)):dH NN [x4,Ds] Th P9 Gn RZ x=La NN x:=by kernel_rfl
theorem aim:cb pX 62 Th.er P9 2=true:=by decide+kernel
theorem aaK:dh pX 62 Dn.M/\bC pX 62=true:=
  dS (T:=[x4,Ds]) (sc:=Th) (ms:=P9) (args:=Gn) (aA:=RZ) (aw.cons Rf<|aw.cons aaO<|aw.nil) cE aim tr fun x y h=>(akL ax x).trans (afC x y h)
def M6:ar:=⟨101,GD,ajT,Se,zG⟩
def Tv:bw:=
 (.seq
 (.ab false [
 oX 1 (.box 3 0),
 oX 2 (.alloc [zX,zX,.nil iX])])
 (.seq
 (.ab true [
 oX 3 (.aF 0 1),
 oX 4 (.load false 1 3),
 oX 5 (.aF 1 1),
 oX 6 (.load false 1 5),
 oX 7 (.aF 2 1),
 oX 8 (.load false 1 7),
 oX 9 (.call .ae 47 [8]),
 oX 10 (.build [zX,zX,.nil iX] [(0,1,4),(1,1,6),(2,1,9)]),
 uX (.store 3 2 10)])
 .ret))
def Qn:List bA:=[.cell 2 3 true]
theorem akZ (NN:Nat) (x:aQ (ak.aP GD)):dH NN [rn] Tv Qn GD Se x=Lj NN x:=by kernel_rfl
theorem aiA:cb pX 101 Tv.er Qn 1=true:=by decide+kernel
theorem aml:dh pX 101 M6.M/\bC pX 101=true:=
  dS (T:=[rn]) (sc:=Tv) (ms:=Qn) (args:=GD) (aA:=Se) (aw.cons EC<|aw.nil) cE aiA zG fun x y h=>(akZ ax x).trans (afQ x y h)
def tQ:ar:=⟨74,Gq,ajJ,R1,mb⟩
def Tj:bw:=
 (.seq
 (.ab false [
 oX 3 (.box 3 0),
 oX 6 (.mv (kX 0))])
 (.seq
 (.ab false [
 oX 7 (.aF 2 3),
 oX 8 (.load false 1 7),
 oX 9 (.mv 1),
 oX 10 (.aF 1 3),
 oX 11 (.load false 1 10),
 oX 12 (.bin .mul 9 11),
 oX 13 (.mv 2),
 oX 14 (.bin .add 12 13),
 oX 15 (.bX 1 8 14),
 oX 16 (.load false 1 15),
 oX 6 (.mv 16)])
 .ret))
def Qb:List bA:=[.tmp 6]
theorem akN (NN:Nat) (x:aQ (ak.aP Gq)):dH NN [] Tj Qb Gq R1 x=FH NN x:=by kernel_rfl
theorem aio:cb pX 74 Tj.er Qb 3=true:=by decide+kernel
theorem JG:dh pX 74 tQ.M/\bC pX 74=true:=
  dS (T:=[]) (sc:=Tj) (ms:=Qb) (args:=Gq) (aA:=R1) (aw.nil) cE aio mb fun x y h=>(akN ax x).trans (afE x y h)
def tR:ar:=⟨72,Gr,Jq,R3,qU⟩
def Tk:bw:=
 (.seq
 (.ab false [
 oX 4 (.box 3 0)])
 (.ab false [
 oX 8 (.aF 2 4),
 oX 9 (.load false 1 8),
 oX 10 (.mv 1),
 oX 11 (.aF 1 4),
 oX 12 (.load false 1 11),
 oX 13 (.bin .mul 10 12),
 oX 14 (.mv 2),
 oX 15 (.bin .add 13 14),
 oX 16 (.mv 3),
 oX 17 (.bX 1 9 15),
 uX (.store 1 17 16)]))
def Qc:List bA:=[]
theorem akO (NN:Nat) (x:aQ (ak.aP Gr)):u0 NN [] Tk Qc Gr Jq R3 x=FI NN x:=by kernel_rfl
theorem aip:cb pX 72 Tk.er Qc 4=true:=by decide+kernel
theorem JH:pM pX 72 Jq tR.MM/\bC pX 72=true:=
  yU (T:=[]) (sc:=Tk) (ms:=Qc) (args:=Gr) (mu:=Jq) (aA:=R3) (aw.nil) cE aip qU fun x y h=>(akO ax x).trans (afF x y h)
def MY:ar:=⟨102,Gs,Jr,R4,zC⟩
def Tl:bw:=
 (.seq
 (.ab false [
 oX 3 (.box 3 0)])
 (.seq
 (.ab false [
 oX 6 (.mv (kX 0))])
 (.block 0
 (.loop 0 ⟨[(1,sX),(2,sX),(3,.one (rX 3)),(6,sX)],[(1000000,.row false .ae iX),(3,.box [vX,vX,fX 1000000 1])]⟩ [1000000,3,500000] [(true,3,2,500000,.ae,[])]
 (.seq
 (.seq
 (.ab false [
 oX 9 (.mv 6),
 oX 10 (.aF 1 3),
 oX 11 (.load false 1 10),
 oX 12 (.bin .lss 9 11)])
 (.cond 12
 .skip
 (.exit 0)))
 (.seq
 (.block 1
 (.seq
 (.ab true [
 oX 15 (.load true 3 3),
 oX 16 (.mv 1),
 oX 17 (.mv 6),
 oX 18 (.call .ae 74 [15,16,17]),
 oX 19 (.load true 3 3),
 oX 20 (.mv 2),
 oX 21 (.mv 6),
 oX 22 (.call .ae 74 [19,20,21]),
 oX 7 (.mv 18),
 oX 8 (.mv 22)])
 (.seq
 (.ab false [
 oX 23 (.load true 3 3),
 oX 24 (.mv 1),
 oX 25 (.mv 6),
 oX 26 (.mv 8),
 oX 27 (.gd .ae 72 [23,24,25,26])])
 (.ab false [
 oX 28 (.load true 3 3),
 oX 29 (.mv 2),
 oX 30 (.mv 6),
 oX 31 (.mv 7),
 oX 32 (.gd .ae 72 [28,29,30,31])]))))
 (.ab false [
 oX 13 (.mv 6),
 oX 14 (.bin .add 13 (kX 1)),
 oX 6 (.mv 14)])))))))
def Qd:List bA:=[]
theorem akP (NN:Nat) (x:aQ (ak.aP Gs)):u0 NN [tQ,tR] Tl Qd Gs Jr R4 x=FJ NN x:=by kernel_rfl
theorem aiq:cb pX 102 Tl.er Qd 3=true:=by decide+kernel
theorem amf:pM pX 102 Jr MY.MM/\bC pX 102=true:=
  yU (T:=[tQ,tR]) (sc:=Tl) (ms:=Qd) (args:=Gs) (mu:=Jr) (aA:=R4) (aw.cons JG<|aw.rb JH<|aw.nil) cE aiq zC fun x y h=>(akP ax x).trans (afG x y h)
def Ng:ar:=⟨103,GQ,aj4,Sr,zM⟩
def TJ:bw:=
 (.seq
 (.ab false [
 oX 4 (.mv (kX 0))])
 (.seq
 (.ab false [
 oX 5 (.mv (kX 1))])
 (.seq
 (.seq
 (.ab false [
 oX 7 (.mv 0),
 oX 8 (.bin .sub 7 (kX 2)),
 oX 6 (.mv 8)])
 (.join ⟨[(5,sX)],[]⟩ [] []
 (.block 0
 (.loop 0 ⟨[(0,sX),(1,sX),(5,sX),(6,sX)],[]⟩ [] []
 (.seq
 (.seq
 (.ab false [
 oX 9 (.mv 6),
 oX 10 (.bin .gtr 9 (kX 0))])
 (.cond 10
 .skip
 (.exit 0)))
 (.seq
 (.block 1
 (.seq
 (.seq
 (.ab false [
 oX 13 (.mv 6),
 oX 14 (.bin .and 13 (kX 1)),
 oX 15 (.bin .eql 14 (kX 1))])
 (.join ⟨[(1,sX),(6,sX),(0,sX),(5,sX)],[]⟩ [] []
 (.cond 15
 (.ab false [
 oX 16 (.mv 5),
 oX 17 (.mv 1),
 oX 18 (.bin .mul 16 17),
 oX 19 (.mv 0),
 oX 20 (.bin .rem 18 19),
 oX 5 (.mv 20)])
 .skip)))
 (.ab false [
 oX 21 (.mv 1),
 oX 22 (.mv 1),
 oX 23 (.bin .mul 21 22),
 oX 24 (.mv 0),
 oX 25 (.bin .rem 23 24),
 oX 1 (.mv 25)])))
 (.ab false [
 oX 11 (.mv 6),
 oX 12 (.bin .shr 11 (.k (.one (.v (.int .u64) ((1:Int)))))),
 oX 6 (.mv 12)])))))))
 (.seq
 (.ab false [
 oX 26 (.mv 5),
 oX 4 (.mv 26)])
 .ret))))
def Qz:List bA:=[.tmp 4]
theorem alb (NN:Nat) (x:aQ (ak.aP GQ)):dH NN [] TJ Qz GQ Sr x=Lt NN x:=by kernel_rfl
theorem aiM:cb pX 103 TJ.er Qz 2=true:=by decide+kernel
theorem amu:dh pX 103 Ng.M/\bC pX 103=true:=
  dS (T:=[]) (sc:=TJ) (ms:=Qz) (args:=GQ) (aA:=Sr) (aw.nil) cE aiM zM fun x y h=>(alb ax x).trans (af2 x y h)
def MX:ar:=⟨104,Gp,Jp,R0,xp⟩
def Ti:bw:=
 (.seq
 (.ab false [
 oX 5 (.box 3 0)])
 (.seq
 (.ab false [
 oX 10 (.mv (kX 0))])
 (.block 0
 (.loop 0 ⟨[(1,sX),(2,sX),(3,sX),(4,sX),(5,.one (rX 5)),(10,sX)],[(1000000,.row false .ae iX),(5,.box [vX,vX,fX 1000000 1])]⟩ [1000000,5,500000] [(true,5,2,500000,.ae,[])]
 (.seq
 (.seq
 (.ab false [
 oX 11 (.mv 10),
 oX 12 (.aF 1 5),
 oX 13 (.load false 1 12),
 oX 14 (.bin .lss 11 13)])
 (.cond 14
 .skip
 (.exit 0)))
 (.seq
 (.block 1
 (.ab true [
 oX 17 (.load true 3 5),
 oX 18 (.mv 2),
 oX 19 (.mv 10),
 oX 20 (.load true 3 5),
 oX 21 (.mv 2),
 oX 22 (.mv 10),
 oX 23 (.call .ae 74 [20,21,22]),
 oX 24 (.mv 4),
 oX 25 (.load true 3 5),
 oX 26 (.mv 3),
 oX 27 (.mv 10),
 oX 28 (.call .ae 74 [25,26,27]),
 oX 29 (.bin .mul 24 28),
 oX 30 (.bin .add 23 29),
 oX 31 (.mv 1),
 oX 32 (.bin .rem 30 31),
 oX 33 (.gd .ae 72 [17,18,19,32])]))
 (.ab false [
 oX 15 (.mv 10),
 oX 16 (.bin .add 15 (kX 1)),
 oX 10 (.mv 16)])))))))
def Qa:List bA:=[]
theorem akM (NN:Nat) (x:aQ (ak.aP Gp)):u0 NN [tQ,tR] Ti Qa Gp Jp R0 x=FG NN x:=by kernel_rfl
theorem ain:cb pX 104 Ti.er Qa 5=true:=by decide+kernel
theorem ame:pM pX 104 Jp MX.MM/\bC pX 104=true:=
  yU (T:=[tQ,tR]) (sc:=Ti) (ms:=Qa) (args:=Gp) (mu:=Jp) (aA:=R0) (aw.cons JG<|aw.rb JH<|aw.nil) cE ain xp fun x y h=>(akM ax x).trans (afD x y h)
def Dw:ar:=⟨63,GS,aj6,Su,tv⟩
def TL:bw:=
 (.seq
 (.ab false [
 oX 3 (.box 3 1),
 oX 4 (.alloc [zX,zX,.nil iX]),
 oX 5 (.mv (.k (.one (.nil iX))))])
 (.seq
 (.ab false [
 oX 14 (.load true 3 3),
 oX 15 (.call .ae 101 [14]),
 oX 6 (.alloc [zX,zX,.nil iX]),
 uX (.store 3 6 15)])
 (.seq
 (.ab false [
 oX 7 (.mv (.k (.one (.nil iX))))])
 (.seq
 (.seq
 (.ab false [
 oX 8 (.mv (kX 0))])
 (.join ⟨[(6,.one (rX 6)),(7,.one (fX 500026 1)),(4,.one (rX 4))],[(4,.box [vX,vX,fX 500024 1]),(6,.box [vX,vX,fX 500025 1]),(500024,.row true .ae iX),(500025,.row true .ae iX),(500026,.row true .ae iX)]⟩ [4,6,500000,500001,500002,500024,500025,500026] [(true,4,2,500024,.ae,[]),(true,6,2,500025,.ae,[]),(false,7,0,500026,.ae,[])]
 (.block 0
 (.loop 0 ⟨[(0,sX),(4,.one (rX 4)),(6,.one (rX 6)),(7,.one (fX 500002 1)),(8,sX)],[(4,.box [vX,vX,fX 500000 1]),(6,.box [vX,vX,fX 500001 1]),(500000,.row true .ae iX),(500001,.row true .ae iX),(500002,.row true .ae iX)]⟩ [3,4,16000,6,500000,500001,500002,500021,500022,500023] [(true,4,2,500000,.ae,[]),(true,6,2,500001,.ae,[]),(false,7,0,500002,.ae,[])]
 (.seq
 (.seq
 (.ab false [
 oX 16 (.mv 8),
 oX 17 (.aF 1 6),
 oX 18 (.load false 1 17),
 oX 19 (.bin .lss 16 18)])
 (.cond 19
 .skip
 (.exit 0)))
 (.seq
 (.join ⟨[(8,sX),(0,sX),(4,.one (rX 4)),(6,.one (rX 6)),(7,.one (fX 500023 1))],[(4,.box [vX,vX,fX 500021 1]),(6,.box [vX,vX,fX 500022 1]),(500021,.row true .ae iX),(500022,.row true .ae iX),(500023,.row true .ae iX)]⟩ [4,6,99,100,500006,500007,500008,500018,500019,500021,500022,500023] [(true,4,2,500021,.ae,[]),(true,6,2,500022,.ae,[]),(false,7,0,500023,.ae,[])]
 (.block 1
 (.seq
 (.ab false [
 oX 22 (.mv 7),
 oX 23 (.len 22),
 oX 9 (.mv 23)])
 (.seq
 (.ab false [
 oX 24 (.mv 9),
 oX 10 (.mv 24)])
 (.seq
 (.join ⟨[(10,sX),(9,sX),(7,.one (fX 500008 1)),(8,sX),(0,sX),(4,.one (rX 4)),(6,.one (rX 6))],[(4,.box [vX,vX,fX 500006 1]),(6,.box [vX,vX,fX 500007 1]),(500006,.row true .ae iX),(500007,.row true .ae iX),(500008,.row true .ae iX)]⟩ [4,6,500003,500004,500005,500006,500007,500008] [(true,4,2,500006,.ae,[]),(true,6,2,500007,.ae,[]),(false,7,0,500008,.ae,[])]
 (.block 2
 (.loop 0 ⟨[(0,sX),(4,.one (rX 4)),(6,.one (rX 6)),(7,.one (fX 500005 1)),(8,sX),(9,sX),(10,sX)],[(4,.box [vX,vX,fX 500003 1]),(6,.box [vX,vX,fX 500004 1]),(500003,.row true .ae iX),(500004,.row true .ae iX),(500005,.row true .ae iX)]⟩ [4,6,500000,500001,500002,500003,500004,500005] [(true,4,2,500003,.ae,[]),(true,6,2,500004,.ae,[]),(false,7,0,500005,.ae,[])]
 (.seq
 (.seq
 (.ab false [
 oX 25 (.mv 10),
 oX 26 (.aF 0 6),
 oX 27 (.load false 1 26),
 oX 28 (.bin .lss 25 27),
 oX 29 (.mv 28),
 ⟨(some 30),.load true 3 6,(some (29,true))⟩,
 ⟨(some 31),.mv 10,(some (29,true))⟩,
 ⟨(some 32),.mv 8,(some (29,true))⟩,
 ⟨(some 33),.call .ae 74 [30,31,32],(some (29,true))⟩,
 ⟨(some 34),.bin .eql 33 (kX 0),(some (29,true))⟩,
 oX 35 (.pick 29 34 (.k (.one (.v (.bool) (false)))))])
 (.cond 35
 .skip
 (.exit 2)))
 (.block 3
 (.ab false [
 oX 36 (.mv 10),
 oX 37 (.bin .add 36 (kX 1)),
 oX 10 (.mv 37)]))))))
 (.seq
 (.seq
 (.ab false [
 oX 38 (.mv 10),
 oX 39 (.aF 0 6),
 oX 40 (.load false 1 39),
 oX 41 (.bin .eql 38 40)])
 (.cond 41
 (.exit 1)
 .skip))
 (.seq
 (.ab false [
 oX 42 (.load true 3 6),
 oX 43 (.mv 9),
 oX 44 (.mv 10),
 oX 45 (.gd .ae 102 [42,43,44])])
 (.seq
 (.ab false [
 oX 46 (.mv 0),
 oX 47 (.load true 3 6),
 oX 48 (.mv 9),
 oX 49 (.mv 8),
 oX 50 (.call .ae 74 [47,48,49]),
 oX 51 (.call .ae 103 [46,50]),
 oX 11 (.mv 51)])
 (.seq
 (.seq
 (.ab false [
 oX 12 (.mv (kX 0))])
 (.join ⟨[(6,.one (rX 6)),(4,.one (rX 4)),(0,sX),(8,sX),(7,.one (fX 500014 1)),(9,sX)],[(4,.box [vX,vX,fX 500012 1]),(6,.box [vX,vX,fX 500013 1]),(500012,.row true .ae iX),(500013,.row true .ae iX),(500014,.row true .ae iX)]⟩ [4,6,500009,500010,500011,500012,500013,500014] [(true,4,2,500012,.ae,[]),(true,6,2,500013,.ae,[]),(false,7,0,500014,.ae,[])]
 (.block 4
 (.loop 0 ⟨[(0,sX),(4,.one (rX 4)),(6,.one (rX 6)),(7,.one (fX 500011 1)),(8,sX),(9,sX),(11,sX),(12,sX)],[(4,.box [vX,vX,fX 500009 1]),(6,.box [vX,vX,fX 500010 1]),(500009,.row true .ae iX),(500010,.row true .ae iX),(500011,.row true .ae iX)]⟩ [4,6,500006,500007,500008,500009,500010,500011] [(true,4,2,500009,.ae,[]),(true,6,2,500010,.ae,[]),(false,7,0,500011,.ae,[])]
 (.seq
 (.seq
 (.ab false [
 oX 52 (.mv 12),
 oX 53 (.aF 1 6),
 oX 54 (.load false 1 53),
 oX 55 (.bin .lss 52 54)])
 (.cond 55
 .skip
 (.exit 4)))
 (.seq
 (.block 5
 (.ab true [
 oX 58 (.load true 3 6),
 oX 59 (.mv 9),
 oX 60 (.mv 12),
 oX 61 (.load true 3 6),
 oX 62 (.mv 9),
 oX 63 (.mv 12),
 oX 64 (.call .ae 74 [61,62,63]),
 oX 65 (.mv 11),
 oX 66 (.bin .mul 64 65),
 oX 67 (.mv 0),
 oX 68 (.bin .rem 66 67),
 oX 69 (.gd .ae 72 [58,59,60,68])]))
 (.ab false [
 oX 56 (.mv 12),
 oX 57 (.bin .add 56 (kX 1)),
 oX 12 (.mv 57)])))))))
 (.seq
 (.seq
 (.ab false [
 oX 13 (.mv (kX 0))])
 (.join ⟨[(7,.one (fX 500020 1)),(8,sX),(0,sX),(4,.one (rX 4)),(6,.one (rX 6))],[(4,.box [vX,vX,fX 500018 1]),(6,.box [vX,vX,fX 500019 1]),(500018,.row true .ae iX),(500019,.row true .ae iX),(500020,.row true .ae iX)]⟩ [4,6,500015,500016,500017,500018,500019,500020] [(true,4,2,500018,.ae,[]),(true,6,2,500019,.ae,[]),(false,7,0,500020,.ae,[])]
 (.block 6
 (.loop 0 ⟨[(0,sX),(4,.one (rX 4)),(6,.one (rX 6)),(7,.one (fX 500017 1)),(8,sX),(9,sX),(13,sX)],[(4,.box [vX,vX,fX 500015 1]),(6,.box [vX,vX,fX 500016 1]),(500015,.row true .ae iX),(500016,.row true .ae iX),(500017,.row true .ae iX)]⟩ [4,6,500012,500013,500014,500015,500016,500017] [(true,4,2,500015,.ae,[]),(true,6,2,500016,.ae,[]),(false,7,0,500017,.ae,[])]
 (.seq
 (.seq
 (.ab false [
 oX 70 (.mv 13),
 oX 71 (.aF 0 6),
 oX 72 (.load false 1 71),
 oX 73 (.bin .lss 70 72)])
 (.cond 73
 .skip
 (.exit 6)))
 (.seq
 (.block 7
 (.seq
 (.ab false [
 oX 76 (.mv 13),
 oX 77 (.mv 9),
 oX 78 (.bin .neq 76 77),
 oX 79 (.mv 78),
 ⟨(some 80),.load true 3 6,(some (79,true))⟩,
 ⟨(some 81),.mv 13,(some (79,true))⟩,
 ⟨(some 82),.mv 8,(some (79,true))⟩,
 ⟨(some 83),.call .ae 74 [80,81,82],(some (79,true))⟩,
 ⟨(some 84),.bin .neq 83 (kX 0),(some (79,true))⟩,
 oX 85 (.pick 79 84 (.k (.one (.v (.bool) (false)))))])
 (.cond 85
 (.ab true [
 oX 86 (.load true 3 6),
 oX 87 (.mv 0),
 oX 88 (.mv 13),
 oX 89 (.mv 9),
 oX 90 (.mv 0),
 oX 91 (.load true 3 6),
 oX 92 (.mv 13),
 oX 93 (.mv 8),
 oX 94 (.call .ae 74 [91,92,93]),
 oX 95 (.bin .sub 90 94),
 oX 96 (.gd .ae 104 [86,87,88,89,95])])
 .skip)))
 (.ab false [
 oX 74 (.mv 13),
 oX 75 (.bin .add 74 (kX 1)),
 oX 13 (.mv 75)])))))))
 (.ab false [
 oX 97 (.mv 7),
 oX 98 (.mv 8),
 oX 99 (.fI iX [98]),
 oX 100 (.append true iX 8 97 99),
 oX 7 (.mv 100)])))))))))))
 (.ab false [
 oX 20 (.mv 8),
 oX 21 (.bin .add 20 (kX 1)),
 oX 8 (.mv 21)])))))))
 (.seq
 (.ab false [
 oX 101 (.load true 3 6),
 oX 102 (.mv 7),
 uX (.store 3 4 101),
 oX 5 (.mv 102)])
 .ret)))))
def QB:List bA:=[.cell 4 3 true,.tmp 5]
theorem ald (NN:Nat) (x:aQ (ak.aP GS)):dH NN [M6,tQ,MY,Ng,tR,MX] TL QB GS Su x=FK NN x:=by kernel_rfl
theorem aiO:cb pX 63 TL.er QB 2=true:=by decide+kernel
theorem aaR:dh pX 63 Dw.M/\bC pX 63=true:=
  dS (T:=[M6,tQ,MY,Ng,tR,MX]) (sc:=TL) (ms:=QB) (args:=GS) (aA:=Su) (aw.cons aml<|aw.cons JG<|aw.rb amf<|aw.cons amu<|aw.rb JH<|aw.rb ame<|aw.nil) cE aiO tv fun x y h=>(ald ax x).trans (af4 x y h)
def M8:ar:=⟨71,GG,ajV,Sg,CD⟩
def Tx:bw:=
 (.seq
 (.ab false [
 oX 4 (.alloc [zX,zX,.nil iX])])
 (.seq
 (.ab false [
 oX 5 (.mv 0),
 oX 6 (.mv 1),
 oX 7 (.mv 0),
 oX 8 (.mv 1),
 oX 9 (.bin .mul 7 8),
 oX 10 (.jF .ae iX 8 (0:Int) 9 9),
 oX 11 (.build [zX,zX,.nil iX] [(0,1,5),(1,1,6),(2,1,10)]),
 uX (.store 3 4 11)])
 .ret))
def Qp:List bA:=[.cell 4 3 true]
theorem ak1 (NN:Nat) (x:aQ (ak.aP GG)):dH NN [] Tx Qp GG Sg x=VL NN x:=by kernel_rfl
theorem aiC:cb pX 71 Tx.er Qp 2=true:=by decide+kernel
theorem amn:dh pX 71 M8.M/\bC pX 71=true:=
  dS (T:=[]) (sc:=Tx) (ms:=Qp) (args:=GG) (aA:=Sg) (aw.nil) cE aiC CD fun x y h=>(ak1 ax x).trans (afS x y h)
def MT:ar:=⟨46,Gk,ajF,RW,tq⟩
def Te:bw:=
 (.seq
 (.ab false [
 oX 3 (.box 3 1),
 oX 4 (.alloc [zX,zX,.nil iX]),
 oX 5 (.alloc [zX,zX,.nil iX]),
 oX 6 (.mv (.k (.one (.v (.bool) (false)))))])
 (.seq
 (.seq
 (.ab false [
 oX 15 (.mv 0),
 oX 16 (.load true 3 3),
 oX 17 (.call .ae 62 [15,16]),
 oX 18 (.un .not 17)])
 (.cond 18
 (.seq
 (.ab false [
 oX 19 (.build [zX,zX,.nil iX] []),
 oX 20 (.build [zX,zX,.nil iX] []),
 uX (.store 3 4 19),
 uX (.store 3 5 20),
 oX 6 (.mv (.k (.one (.v (.bool) (false)))))])
 .ret)
 .skip))
 (.seq
 (.ab false [
 oX 22 (.mv 0),
 oX 23 (.load true 3 3),
 oX 24 (.call .ae 63 [22,23]),
 oX 21 (.mv 24),
 oX 25 (.ext 0 21),
 oX 26 (.ext 1 21),
 oX 7 (.alloc [zX,zX,.nil iX]),
 uX (.store 3 7 25),
 oX 8 (.mv 26)])
 (.seq
 (.ab false [
 oX 27 (.mv 8),
 oX 28 (.len 27),
 oX 9 (.mv 28)])
 (.seq
 (.ab false [
 oX 29 (.aF 0 3),
 oX 30 (.load false 1 29),
 oX 31 (.mv 9),
 oX 32 (.call .ae 71 [30,31]),
 oX 10 (.alloc [zX,zX,.nil iX]),
 uX (.store 3 10 32)])
 (.seq
 (.seq
 (.ab false [
 oX 11 (.mv (kX 0))])
 (.join ⟨[(7,.one (rX 7)),(9,sX),(3,.one (rX 3)),(10,.one (rX 10)),(4,.one (rX 4)),(5,.one (rX 5))],[(3,.box [vX,vX,.c (.v (lX))]),(4,.box [vX,vX,fX 500015 1]),(5,.box [vX,vX,fX 500016 1]),(7,.box [vX,vX,fX 500017 1]),(10,.box [vX,vX,fX 500018 1]),(500015,.row true .ae iX),(500016,.row true .ae iX),(500017,.row true .ae iX),(500018,.row true .ae iX)]⟩ [3,4,5,7,10,500000,500001,500002,500003,500004,500015,500016,500017,500018] [(true,4,2,500015,.ae,[]),(true,5,2,500016,.ae,[]),(true,7,2,500017,.ae,[]),(true,10,2,500018,.ae,[])]
 (.block 0
 (.loop 0 ⟨[(3,.one (rX 3)),(4,.one (rX 4)),(5,.one (rX 5)),(7,.one (rX 7)),(8,.one (fX 500004 1)),(9,sX),(10,.one (rX 10)),(11,sX)],[(3,.box [vX,vX,.c (.v (lX))]),(4,.box [vX,vX,fX 500000 1]),(5,.box [vX,vX,fX 500001 1]),(7,.box [vX,vX,fX 500002 1]),(10,.box [vX,vX,fX 500003 1]),(500000,.row true .ae iX),(500001,.row true .ae iX),(500002,.row true .ae iX),(500003,.row true .ae iX),(500004,.row true .ae iX)]⟩ [3,4,5,25000,25001,7,33000,10,500000,500001,500002,500003,500004,500010,500011,500012,500013,500014] [(true,4,2,500000,.ae,[]),(true,5,2,500001,.ae,[]),(true,7,2,500002,.ae,[]),(true,10,2,500003,.ae,[]),(false,8,0,500004,.ae,[])]
 (.seq
 (.seq
 (.ab false [
 oX 33 (.mv 11),
 oX 34 (.aF 0 3),
 oX 35 (.load false 1 34),
 oX 36 (.bin .lss 33 35)])
 (.cond 36
 .skip
 (.exit 0)))
 (.seq
 (.join ⟨[(11,sX),(3,.one (rX 3)),(4,.one (rX 4)),(5,.one (rX 5)),(7,.one (rX 7)),(8,.one (fX 500014 1)),(9,sX),(10,.one (rX 10))],[(3,.box [vX,vX,.c (.v (lX))]),(4,.box [vX,vX,fX 500010 1]),(5,.box [vX,vX,fX 500011 1]),(7,.box [vX,vX,fX 500012 1]),(10,.box [vX,vX,fX 500013 1]),(500010,.row true .ae iX),(500011,.row true .ae iX),(500012,.row true .ae iX),(500013,.row true .ae iX),(500014,.row true .ae iX)]⟩ [3,4,5,7,10,500005,500006,500007,500008,500009,500010,500011,500012,500013,500014] [(true,4,2,500010,.ae,[]),(true,5,2,500011,.ae,[]),(true,7,2,500012,.ae,[]),(true,10,2,500013,.ae,[]),(false,8,0,500014,.ae,[])]
 (.block 1
 (.seq
 (.ab false [
 oX 39 (.mv 8),
 oX 40 (.len 39),
 oX 41 (.mv (kX 0))])
 (.block 2
 (.loop 0 ⟨[(3,.one (rX 3)),(4,.one (rX 4)),(5,.one (rX 5)),(7,.one (rX 7)),(8,.one (fX 500009 1)),(9,sX),(10,.one (rX 10)),(11,sX),(39,.one (fX 500009 1)),(40,sX),(41,sX)],[(3,.box [vX,vX,.c (.v (lX))]),(4,.box [vX,vX,fX 500005 1]),(5,.box [vX,vX,fX 500006 1]),(7,.box [vX,vX,fX 500007 1]),(10,.box [vX,vX,fX 500008 1]),(500005,.row true .ae iX),(500006,.row true .ae iX),(500007,.row true .ae iX),(500008,.row true .ae iX),(500009,.row true .ae iX)]⟩ [3,4,5,7,10,500000,500001,500002,500003,500004,500005,500006,500007,500008,500009] [(true,4,2,500005,.ae,[]),(true,5,2,500006,.ae,[]),(true,7,2,500007,.ae,[]),(true,10,2,500008,.ae,[]),(false,8,0,500009,.ae,[])]
 (.seq
 (.ab false [
 oX 42 (.bin .lss 41 40)])
 (.seq
 (.cond 42
 .skip
 (.exit 2))
 (.seq
 (.block 3
 (.seq
 (.ab false [
 oX 43 (.mv 41),
 oX 44 (.bX 1 39 41),
 oX 45 (.load false 1 44),
 oX 12 (.mv 43),
 oX 13 (.mv 45)])
 (.ab true [
 oX 46 (.load true 3 10),
 oX 47 (.mv 11),
 oX 48 (.mv 12),
 oX 49 (.load true 3 3),
 oX 50 (.mv 11),
 oX 51 (.mv 13),
 oX 52 (.call .ae 74 [49,50,51]),
 oX 53 (.gd .ae 72 [46,47,48,52])])))
 (.ab false [
 oX 54 (.bin .add 41 (kX 1)),
 oX 41 (.mv 54)])))))))))
 (.ab false [
 oX 37 (.mv 11),
 oX 38 (.bin .add 37 (kX 1)),
 oX 11 (.mv 38)])))))))
 (.seq
 (.ab true [
 oX 55 (.mv 9),
 oX 56 (.aF 1 3),
 oX 57 (.load false 1 56),
 oX 58 (.aF 2 7),
 oX 59 (.load false 1 58),
 oX 60 (.mv 9),
 oX 61 (.aF 1 3),
 oX 62 (.load false 1 61),
 oX 63 (.bin .mul 60 62),
 oX 64 (.slice 1 59 none (some 63)),
 oX 65 (.call .ae 47 [64]),
 oX 66 (.build [zX,zX,.nil iX] [(0,1,55),(1,1,57),(2,1,65)]),
 oX 14 (.alloc [zX,zX,.nil iX]),
 uX (.store 3 14 66)])
 (.seq
 (.qD [(1,2)] [
 oX 67 (.load true 3 10),
 oX 68 (.load true 3 14),
 uX (.store 3 4 67),
 uX (.store 3 5 68),
 oX 6 (.mv (.k (.one (.v (.bool) (true)))))])
 .ret))))))))
def P6:List bA:=[.cell 4 3 true,.cell 5 3 true,.tmp 6]
theorem akI (NN:Nat) (x:aQ (ak.aP Gk)):dH NN [Dn,Dw,M8,tQ,tR,rn] Te P6 Gk RW x=CG NN x:=by kernel_rfl
theorem aij:cb pX 46 Te.er P6 2=true:=by decide+kernel
theorem amc:dh pX 46 MT.M/\bC pX 46=true:=
  dS (T:=[Dn,Dw,M8,tQ,tR,rn]) (sc:=Te) (ms:=P6) (args:=Gk) (aA:=RW) (aw.cons aaK<|aw.cons aaR<|aw.cons amn<|aw.cons JG<|aw.rb JH<|aw.cons EC<|aw.nil) cE aij tq fun x y h=>(akI ax x).trans (afz x y h)
def MR:ar:=⟨10,Gg,ajC,RS,xo⟩
def Tb:bw:=
 (.seq
 (.ab false [
 oX 3 (.box 3 1),
 oX 4 (.alloc [zX,.nil gX]),
 oX 5 (.mv (.k (.one (.v (.bool) (false)))))])
 (.seq
 (.ab false [
 oX 18 (.mv 0),
 oX 19 (.build [zX,zX,zX] [(0,1,(kX 2)),(1,1,18)]),
 oX 6 (.alloc [zX,zX,zX]),
 uX (.store 3 6 19)])
 (.seq
 (.seq
 (.ab false [
 oX 20 (.load true 3 6),
 oX 21 (.load true 3 3),
 oX 22 (.call .ae 43 [20,21]),
 oX 23 (.un .not 22),
 oX 24 (.mv 23),
 ⟨(some 25),.aF 0 3,(some (24,false))⟩,
 ⟨(some 26),.load false 1 25,(some (24,false))⟩,
 ⟨(some 27),.len 26,(some (24,false))⟩,
 ⟨(some 28),.bin .eql 27 (kX 0),(some (24,false))⟩,
 oX 29 (.pick 24 (.k (.one (.v (.bool) (true)))) 28),
 oX 30 (.mv 29),
 ⟨(some 31),.aF 0 3,(some (30,false))⟩,
 ⟨(some 32),.load false 1 31,(some (30,false))⟩,
 ⟨(some 33),.len 32,(some (30,false))⟩,
 ⟨(some 34),.bin .gtr 33 (kX 8),(some (30,false))⟩,
 oX 35 (.pick 30 (.k (.one (.v (.bool) (true)))) 34)])
 (.cond 35
 (.seq
 (.ab false [
 oX 36 (.build [zX,.nil gX] []),
 uX (.store 2 4 36),
 oX 5 (.mv (.k (.one (.v (.bool) (false)))))])
 .ret)
 .skip))
 (.seq
 (.ab false [
 oX 37 (.load true 3 6),
 oX 38 (.load true 3 3),
 oX 39 (.call .ae 44 [37,38]),
 oX 7 (.alloc [.nil iX,.nil iX,.nil iX]),
 uX (.store 3 7 39)])
 (.seq
 (.ab false [
 oX 40 (.mv 0),
 oX 41 (.build [zX,.nil gX] [(0,1,40)]),
 oX 8 (.alloc [zX,.nil gX]),
 uX (.store 2 8 41)])
 (.seq
 (.ab false [
 oX 9 (.mv (kX 1))])
 (.seq
 (.ab false [
 oX 42 (.aF 2 7),
 oX 43 (.mQ false 1 42),
 oX 10 (.mv 43)])
 (.seq
 (.ab false [
 oX 44 (.aF 1 7),
 oX 45 (.load false 1 44),
 oX 46 (.len 45),
 oX 47 (.bin .sub 46 (kX 1)),
 oX 11 (.mv 47)])
 (.seq
 (.seq
 (.ab false [
 oX 48 (.aF 1 7),
 oX 49 (.load false 1 48),
 oX 50 (.mv 11),
 oX 51 (.slice 1 49 none (some 50)),
 oX 52 (.len 51),
 oX 53 (.mv (kX 0))])
 (.join ⟨[(9,sX),(7,.one (rX 7)),(11,sX),(10,.one (.c (.v (lX)))),(8,.one (rX 8)),(4,.one (rX 4))],[(4,.box [vX,fX 500002 4]),(7,.box [.c (.v (lX)),.c (.v (lX)),.c (.v (lX))]),(8,.box [vX,fX 500003 4]),(500002,.row true .ae gX),(500003,.row true .ae gX)]⟩ [4,7,8,500000,500001,500002,500003] [(true,4,1,500002,.ae,[]),(true,8,1,500003,.ae,[])]
 (.block 0
 (.loop 0 ⟨[(0,sX),(4,.one (rX 4)),(7,.one (rX 7)),(8,.one (rX 8)),(9,sX),(10,.one (.c (.v (lX)))),(11,sX),(51,.one (.c (.v (lX)))),(52,sX),(53,sX)],[(4,.box [vX,fX 500000 4]),(7,.box [.c (.v (lX)),.c (.v (lX)),.c (.v (lX))]),(8,.box [vX,fX 500001 4]),(500000,.row true .ae gX),(500001,.row true .ae gX)]⟩ [3,4,6,7,8,14,15,16,94,500000,500001] [(true,4,1,500000,.ae,[]),(true,8,1,500001,.ae,[])]
 (.seq
 (.ab false [
 oX 54 (.bin .lss 53 52)])
 (.seq
 (.cond 54
 .skip
 (.exit 0))
 (.seq
 (.block 1
 (.seq
 (.ab false [
 oX 55 (.mv 53),
 oX 56 (.bX 1 51 53),
 oX 57 (.load false 1 56),
 oX 12 (.mv 55),
 oX 13 (.mv 57)])
 (.seq
 (.ab false [
 oX 58 (.mv 9),
 oX 59 (.mv 13),
 oX 60 (.bin .mul 58 59),
 oX 61 (.aF 1 7),
 oX 62 (.load false 1 61),
 oX 63 (.mv 12),
 oX 64 (.bin .add 63 (kX 1)),
 oX 65 (.slice 1 62 (some 64) none),
 oX 66 (.call .ae 45 [65]),
 oX 67 (.mv 10),
 oX 68 (.build [zX,zX,.nil iX] [(0,1,60),(1,1,66),(2,1,67)]),
 oX 14 (.alloc [zX,zX,.nil iX]),
 uX (.store 3 14 68)])
 (.seq
 (.ab false [
 oX 70 (.mv 0),
 oX 71 (.load true 3 14),
 oX 72 (.call .ae 46 [70,71]),
 oX 69 (.mv 72),
 oX 73 (.ext 0 69),
 oX 74 (.ext 1 69),
 oX 75 (.ext 2 69),
 oX 15 (.alloc [zX,zX,.nil iX]),
 oX 16 (.alloc [zX,zX,.nil iX]),
 uX (.store 3 15 73),
 uX (.store 3 16 74),
 oX 17 (.mv 75)])
 (.seq
 (.seq
 (.ab false [
 oX 76 (.mv 17),
 oX 77 (.un .not 76),
 oX 78 (.mv 77),
 ⟨(some 79),.aF 1 15,(some (78,false))⟩,
 ⟨(some 80),.load false 1 79,(some (78,false))⟩,
 ⟨(some 81),.bin .gtr 80 (kX 32),(some (78,false))⟩,
 oX 82 (.pick 78 (.k (.one (.v (.bool) (true)))) 81)])
 (.cond 82
 (.seq
 (.ab false [
 oX 83 (.build [zX,.nil gX] []),
 uX (.store 2 4 83),
 oX 5 (.mv (.k (.one (.v (.bool) (false)))))])
 .ret)
 .skip))
 (.seq
 (.ab false [
 oX 84 (.aF 1 8),
 oX 85 (.load false 1 84),
 oX 86 (.mv 9),
 oX 87 (.mv 13),
 oX 88 (.aF 1 15),
 oX 89 (.load false 1 88),
 oX 90 (.aF 2 15),
 oX 91 (.load false 1 90),
 oX 92 (.build [zX,zX,zX,.nil iX] [(0,1,86),(1,1,87),(2,1,89),(3,1,91)]),
 oX 93 (.fI gX [92]),
 oX 94 (.append false gX 48 85 93),
 oX 95 (.aF 1 8),
 uX (.store 1 95 94)])
 (.seq
 (.ab false [
 oX 96 (.aF 1 15),
 oX 97 (.load false 1 96),
 oX 9 (.mv 97)])
 (.ab false [
 oX 98 (.aF 2 16),
 oX 99 (.mQ false 1 98),
 oX 10 (.mv 99)]))))))))
 (.ab false [
 oX 100 (.bin .add 53 (kX 1)),
 oX 53 (.mv 100)]))))))))
 (.seq
 (.qD [(0,11),(1,11)] [
 oX 101 (.aF 1 8),
 oX 102 (.load false 1 101),
 oX 103 (.mv 9),
 oX 104 (.aF 1 7),
 oX 105 (.load false 1 104),
 oX 106 (.mv 11),
 oX 107 (.bX 1 105 106),
 oX 108 (.load false 1 107),
 oX 109 (.mv 10),
 oX 110 (.call .ae 47 [109]),
 oX 111 (.build [zX,zX,zX,.nil iX] [(0,1,103),(1,1,108),(2,1,(kX 1)),(3,1,110)]),
 oX 112 (.fI gX [111]),
 oX 113 (.append false gX 48 102 112),
 oX 114 (.aF 1 8),
 uX (.store 1 114 113)])
 (.seq
 (.ab false [
 oX 115 (.load true 2 8),
 uX (.store 2 4 115),
 oX 5 (.mv (.k (.one (.v (.bool) (true)))))])
 .ret)))))))))))
def P3:List bA:=[.cell 4 2 true,.tmp 5]
theorem akF (NN:Nat) (x:aQ (ak.aP Gg)):dH NN [Dp,M4,Nd,MT,rn] Tb P3 Gg RS x=K6 NN x:=by kernel_rfl
theorem aif:cb pX 10 Tb.er P3 2=true:=by decide+kernel
theorem ama:dh pX 10 MR.M/\bC pX 10=true:=
  dS (T:=[Dp,M4,Nd,MT,rn]) (sc:=Tb) (ms:=P3) (args:=Gg) (aA:=RS) (aw.cons aaL<|aw.cons amj<|aw.cons ams<|aw.cons amc<|aw.cons EC<|aw.nil) cE aif xo fun x y h=>(akF ax x).trans (afw x y h)
def MP:ar:=⟨20,Ge,ajA,RQ,xm⟩
def S9:bw:=
 (.seq
 (.ab false [
 oX 1 (.box 2 0),
 oX 2 (.mv (.k (.one (.nil iX))))])
 (.seq
 (.seq
 (.ab false [
 oX 6 (.load true 2 1),
 oX 7 (.call .ae 21 [6]),
 oX 8 (.un .not 7)])
 (.cond 8
 (.seq
 (.ab false [
 oX 2 (.mv (.k (.one (.nil iX))))])
 .ret)
 .skip))
 (.seq
 (.ab false [
 oX 3 (.mv (.k (.one (.nil iX))))])
 (.seq
 (.seq
 (.ab false [
 oX 9 (.aF 1 1),
 oX 10 (.load false 1 9),
 oX 11 (.aF 1 1),
 oX 12 (.load false 1 11),
 oX 13 (.len 12),
 oX 14 (.bin .sub 13 (kX 1)),
 oX 15 (.slice 4 10 none (some 14)),
 oX 16 (.len 15),
 oX 17 (.mv (kX 0))])
 (.join ⟨[(3,.one (fX 500001 1))],[(500001,.row true .ae iX)]⟩ [500000,500001] [(false,3,0,500001,.ae,[])]
 (.block 0
 (.loop 0 ⟨[(3,.one (fX 500000 1)),(15,.one (.c (.v (.list gX)))),(16,sX),(17,sX)],[(500000,.row true .ae iX)]⟩ [1,5,24,25,500000] [(false,3,0,500000,.ae,[])]
 (.seq
 (.ab false [
 oX 18 (.bin .lss 17 16)])
 (.seq
 (.cond 18
 .skip
 (.exit 0))
 (.seq
 (.block 1
 (.seq
 (.ab false [
 oX 19 (.bX 4 15 17),
 oX 20 (.load true 4 19),
 oX 5 (.alloc [zX,zX,zX,.nil iX]),
 uX (.store 4 5 20)])
 (.ab false [
 oX 21 (.mv 3),
 oX 22 (.aF 2 5),
 oX 23 (.load false 1 22),
 oX 24 (.fI iX [23]),
 oX 25 (.append true iX 8 21 24),
 oX 3 (.mv 25)])))
 (.ab false [
 oX 26 (.bin .add 17 (kX 1)),
 oX 17 (.mv 26)]))))))))
 (.seq
 (.ab false [
 oX 27 (.mv 3),
 oX 2 (.mv 27)])
 .ret)))))
def P1:List bA:=[.tmp 2]
theorem akD (NN:Nat) (x:aQ (ak.aP Ge)):dH NN [tP] S9 P1 Ge RQ x=K4 NN x:=by kernel_rfl
theorem aid:cb pX 20 S9.er P1 1=true:=by decide+kernel
theorem al8:dh pX 20 MP.M/\bC pX 20=true:=
  dS (T:=[tP]) (sc:=S9) (ms:=P1) (args:=Ge) (aA:=RQ) (aw.cons JF<|aw.nil) cE aid xm fun x y h=>(akD ax x).trans (afu x y h)
def Nm:ar:=⟨28,GZ,akd,SD,vm⟩
def TS:bw:=
 (.seq
 (.ab false [
 oX 4 (.mv (.k (.one (.v (.bool) (false)))))])
 (.seq
 (.seq
 (.ab false [
 oX 7 (.mv 0),
 oX 8 (.len 7),
 oX 9 (.mv (kX 0))])
 (.join ⟨[(0,.one (.c (.v (lX)))),(1,.one (.c (.v (lX))))],[]⟩ [] []
 (.block 0
 (.loop 0 ⟨[(0,.one (.c (.v (lX)))),(1,.one (.c (.v (lX)))),(7,.one (.c (.v (lX)))),(8,sX),(9,sX)],[]⟩ [] []
 (.seq
 (.ab false [
 oX 10 (.bin .lss 9 8)])
 (.seq
 (.cond 10
 .skip
 (.exit 0))
 (.seq
 (.block 1
 (.seq
 (.ab false [
 oX 11 (.mv 9),
 oX 12 (.bX 1 7 9),
 oX 13 (.load false 1 12),
 oX 5 (.mv 11),
 oX 6 (.mv 13)])
 (.seq
 (.ab false [
 oX 14 (.mv 5),
 oX 15 (.mv 1),
 oX 16 (.len 15),
 oX 17 (.bin .geq 14 16),
 oX 18 (.mv 17),
 ⟨(some 19),.mv 1,(some (18,false))⟩,
 ⟨(some 20),.mv 5,(some (18,false))⟩,
 ⟨(some 21),.bX 1 19 20,(some (18,false))⟩,
 ⟨(some 22),.load false 1 21,(some (18,false))⟩,
 ⟨(some 23),.mv 6,(some (18,false))⟩,
 ⟨(some 24),.bin .neq 22 23,(some (18,false))⟩,
 oX 25 (.pick 18 (.k (.one (.v (.bool) (true)))) 24)])
 (.cond 25
 (.seq
 (.ab false [
 oX 4 (.mv (.k (.one (.v (.bool) (false)))))])
 .ret)
 .skip))))
 (.ab false [
 oX 26 (.bin .add 9 (kX 1)),
 oX 9 (.mv 26)]))))))))
 (.seq
 (.ab false [
 oX 27 (.mv 0),
 oX 28 (.len 27),
 oX 29 (.mv 1),
 oX 30 (.len 29),
 oX 31 (.bin .eql 28 30),
 oX 4 (.mv 31)])
 .ret)))
def QI:List bA:=[.tmp 4]
theorem alk (NN:Nat) (x:aQ (ak.aP GZ)):dH NN [] TS QI GZ SD x=FM NN x:=by kernel_rfl
theorem aiV:cb pX 28 TS.er QI 2=true:=by decide+kernel
theorem amB:dh pX 28 Nm.M/\bC pX 28=true:=
  dS (T:=[]) (sc:=TS) (ms:=QI) (args:=GZ) (aA:=SD) (aw.nil) cE aiV vm fun x y h=>(alk ax x).trans (agb x y h)
def Nn:ar:=⟨22,G0,ake,SE,zR⟩
def TT:bw:=
 (.seq
 (.ab false [
 oX 2 (.box 3 0),
 oX 3 (.box 3 1),
 oX 4 (.mv (.k (.one (.v (.bool) (false)))))])
 (.seq
 (.ab false [
 oX 5 (.aF 0 2),
 oX 6 (.load false 1 5),
 oX 7 (.aF 0 3),
 oX 8 (.load false 1 7),
 oX 9 (.call .ae 28 [6,8]),
 oX 10 (.mv 9),
 ⟨(some 11),.aF 1 2,(some (10,true))⟩,
 ⟨(some 12),.load false 1 11,(some (10,true))⟩,
 ⟨(some 13),.aF 1 3,(some (10,true))⟩,
 ⟨(some 14),.load false 1 13,(some (10,true))⟩,
 ⟨(some 15),.call .ae 28 [12,14],(some (10,true))⟩,
 oX 16 (.pick 10 15 (.k (.one (.v (.bool) (false))))),
 oX 17 (.mv 16),
 ⟨(some 18),.aF 2 2,(some (17,true))⟩,
 ⟨(some 19),.load false 1 18,(some (17,true))⟩,
 ⟨(some 20),.aF 2 3,(some (17,true))⟩,
 ⟨(some 21),.load false 1 20,(some (17,true))⟩,
 ⟨(some 22),.call .ae 28 [19,21],(some (17,true))⟩,
 oX 23 (.pick 17 22 (.k (.one (.v (.bool) (false))))),
 oX 4 (.mv 23)])
 .ret))
def QJ:List bA:=[.tmp 4]
theorem alm (NN:Nat) (x:aQ (ak.aP G0)):dH NN [Nm] TT QJ G0 SE x=FN NN x:=by kernel_rfl
theorem aiW:cb pX 22 TT.er QJ 2=true:=by decide+kernel
theorem amC:dh pX 22 Nn.M/\bC pX 22=true:=
  dS (T:=[Nm]) (sc:=TT) (ms:=QJ) (args:=G0) (aA:=SE) (aw.cons amB<|aw.nil) cE aiW zR fun x y h=>(alm ax x).trans (agc x y h)
def MZ:ar:=⟨23,Gt,ajK,R5,xq⟩
def Tm:bw:=
 (.seq
 (.ab false [
 oX 3 (.box 3 1),
 oX 4 (.mv (kX 0))])
 (.seq
 (.seq
 (.ab false [
 oX 7 (.mv 0),
 oX 8 (.load true 3 3),
 oX 9 (.call .ae 62 [7,8]),
 oX 10 (.un .not 9)])
 (.cond 10
 (.seq
 (.ab false [
 oX 4 (.mv (kX (-1)))])
 .ret)
 .skip))
 (.seq
 (.ab false [
 oX 12 (.mv 0),
 oX 13 (.load true 3 3),
 oX 14 (.call .ae 63 [12,13]),
 oX 11 (.mv 14),
 oX 15 (.ext 0 11),
 oX 16 (.ext 1 11),
 oX 5 (.alloc [zX,zX,.nil iX]),
 uX (.store 3 5 15),
 oX 6 (.mv 16)])
 (.seq
 (.ab false [
 oX 17 (.mv 6),
 oX 18 (.len 17),
 oX 4 (.mv 18)])
 .ret))))
def Qe:List bA:=[.tmp 4]
theorem akQ (NN:Nat) (x:aQ (ak.aP Gt)):dH NN [Dn,Dw] Tm Qe Gt R5 x=Lb NN x:=by kernel_rfl
theorem air:cb pX 23 Tm.er Qe 2=true:=by decide+kernel
theorem amg:dh pX 23 MZ.M/\bC pX 23=true:=
  dS (T:=[Dn,Dw]) (sc:=Tm) (ms:=Qe) (args:=Gt) (aA:=R5) (aw.cons aaK<|aw.cons aaR<|aw.nil) cE air xq fun x y h=>(akQ ax x).trans (afH x y h)
def Nv:ar:=⟨64,G9,aki,SK,zW⟩
def TZ:bw:=
 (.seq
 (.ab false [
 oX 4 (.mv (kX 0))])
 (.seq
 (.ab false [
 oX 6 (.mv 0),
 oX 7 (.mv 1),
 oX 8 (.du 54 [6,7]),
 oX 5 (.mv 8)])
 (.seq
 (.ab false [
 oX 9 (.mv 5),
 oX 10 (.du 105 [9]),
 oX 11 (.bin .mul (kX 256) 10),
 oX 12 (.mv 5),
 oX 13 (.du 105 [12]),
 oX 14 (.bin .add 11 13),
 oX 4 (.mv 14)])
 .ret)))
def QP:List bA:=[.tmp 4]
theorem als (NN:Nat) (x:aQ (ak.aP G9)):lU NN [tS,Dy] TZ QP G9 SK x=FR NN x:=by kernel_rfl
theorem ai2:cb pX 64 TZ.er QP 2=true:=by decide+kernel
theorem amJ:jM Go.Proofs.Try.prog 64 Nv.MV/\bC pX 64=true:=
  nD (T:=[tS,Dy]) (sc:=TZ) (ms:=QP) (args:=G9) (aA:=SK) (aw.io JI<|aw.io aaT<|aw.nil) cE ai2 zW fun x y h=>(als ax x).trans (agj x y h)
def Ny:ar:=⟨24,Hc,akk,SM,zZ⟩
def T1:bw:=
 (.seq
 (.ab false [
 oX 8 (.mv (kX 0))])
 (.seq
 (.ab false [
 oX 9 (.mv 2),
 oX 10 (.mv 0),
 oX 11 (.mv 1),
 oX 12 (.du 64 [10,11]),
 oX 13 (.mv 3),
 oX 14 (.mv 2),
 oX 15 (.bin .sub 13 14),
 oX 16 (.bin .add 15 (kX 1)),
 oX 17 (.bin .rem 12 16),
 oX 18 (.bin .add 9 17),
 oX 8 (.mv 18)])
 .ret))
def QR:List bA:=[.tmp 8]
theorem alu (NN:Nat) (x:aQ (ak.aP Hc)):lU NN [Nv] T1 QR Hc SM x=FU NN x:=by kernel_rfl
theorem ai4:cb pX 24 T1.er QR 4=true:=by decide+kernel
theorem amL:jM Go.Proofs.Try.prog 24 Ny.MV/\bC pX 24=true:=
  nD (T:=[Nv]) (sc:=T1) (ms:=QR) (args:=Hc) (aA:=SM) (aw.io amJ<|aw.nil) cE ai4 zZ fun x y h=>(alu ax x).trans (agl x y h)
def Nb:ar:=⟨66,GK,ajZ,Sk,zJ⟩
def TC:bw:=
 (.seq
 (.ab false [
 oX 4 (.mv (.k (.one (.nil iX))))])
 (.seq
 (.ab false [
 oX 7 (.mv 0),
 oX 8 (.len 7),
 oX 9 (.jF .ae iX 8 (0:Int) 8 8),
 oX 5 (.mv 9)])
 (.seq
 (.seq
 (.ab false [
 oX 10 (.mv 0),
 oX 11 (.len 10),
 oX 12 (.bin .sub 11 (kX 1)),
 oX 6 (.mv 12)])
 (.join ⟨[(5,.one (fX 500001 1))],[(500001,.row true .ae iX)]⟩ [500000,500001] [(false,5,0,500001,.ae,[])]
 (.block 0
 (.loop 0 ⟨[(0,.one (.c (.v (lX)))),(1,sX),(5,.one (fX 500000 1)),(6,sX)],[(500000,.row true .ae iX)]⟩ [9,500000] [(false,5,0,500000,.ae,[])]
 (.seq
 (.seq
 (.ab false [
 oX 13 (.mv 6),
 oX 14 (.bin .geq 13 (kX 0))])
 (.cond 14
 .skip
 (.exit 0)))
 (.seq
 (.block 1
 (.seq
 (.ab false [
 oX 17 (.mv 5),
 oX 18 (.mv 6),
 oX 19 (.mv 1),
 oX 20 (.mv 0),
 oX 21 (.mv 6),
 oX 22 (.bX 1 20 21),
 oX 23 (.load false 1 22),
 oX 24 (.bin .rem 19 23),
 oX 25 (.bX 1 17 18),
 uX (.store 1 25 24)])
 (.ab false [
 oX 26 (.mv 1),
 oX 27 (.mv 0),
 oX 28 (.mv 6),
 oX 29 (.bX 1 27 28),
 oX 30 (.load false 1 29),
 oX 31 (.bin .quo 26 30),
 oX 1 (.mv 31)])))
 (.ab false [
 oX 15 (.mv 6),
 oX 16 (.bin .sub 15 (kX 1)),
 oX 6 (.mv 16)])))))))
 (.seq
 (.ab false [
 oX 32 (.mv 5),
 oX 4 (.mv 32)])
 .ret))))
def Qt:List bA:=[.tmp 4]
theorem ak5 (NN:Nat) (x:aQ (ak.aP GK)):dH NN [] TC Qt GK Sk x=VM NN x:=by kernel_rfl
theorem aiG:cb pX 66 TC.er Qt 2=true:=by decide+kernel
theorem amq:dh pX 66 Nb.M/\bC pX 66=true:=
  dS (T:=[]) (sc:=TC) (ms:=Qt) (args:=GK) (aA:=Sk) (aw.nil) cE aiG zJ fun x y h=>(ak5 ax x).trans (afW x y h)
def MU:ar:=⟨25,Gl,ajG,RX,zB⟩
def Tf:bw:=
 (.seq
 (.ab false [
 oX 2 (.box 3 0),
 oX 4 (.mv (.k (.one (.nil iX)))),
 oX 5 (.mv (.k (.one (.v (.bool) (false)))))])
 (.seq
 (.ab false [
 oX 7 (.load true 3 2),
 oX 8 (.call .ae 65 [7]),
 oX 6 (.mv 8)])
 (.seq
 (.seq
 (.ab false [
 oX 9 (.mv 6),
 oX 10 (.bin .eql 9 (kX (-1))),
 oX 11 (.mv 10),
 ⟨(some 12),.mv 1,(some (11,false))⟩,
 ⟨(some 13),.bin .lss 12 (kX 0),(some (11,false))⟩,
 oX 14 (.pick 11 (.k (.one (.v (.bool) (true)))) 13),
 oX 15 (.mv 14),
 ⟨(some 16),.mv 1,(some (15,false))⟩,
 ⟨(some 17),.mv 6,(some (15,false))⟩,
 ⟨(some 18),.bin .geq 16 17,(some (15,false))⟩,
 oX 19 (.pick 15 (.k (.one (.v (.bool) (true)))) 18)])
 (.cond 19
 (.seq
 (.ab false [
 oX 4 (.mv (.k (.one (.nil iX)))),
 oX 5 (.mv (.k (.one (.v (.bool) (false)))))])
 .ret)
 .skip))
 (.seq
 (.ab false [
 oX 20 (.aF 1 2),
 oX 21 (.load false 1 20),
 oX 22 (.mv 1),
 oX 23 (.call .ae 66 [21,22]),
 oX 4 (.mv 23),
 oX 5 (.mv (.k (.one (.v (.bool) (true)))))])
 .ret))))
def P7:List bA:=[.tmp 4,.tmp 5]
theorem akJ (NN:Nat) (x:aQ (ak.aP Gl)):dH NN [Dq,Nb] Tf P7 Gl RX x=FF NN x:=by kernel_rfl
theorem aik:cb pX 25 Tf.er P7 2=true:=by decide+kernel
theorem amd:dh pX 25 MU.M/\bC pX 25=true:=
  dS (T:=[Dq,Nb]) (sc:=Tf) (ms:=P7) (args:=Gl) (aA:=RX) (aw.cons aaM<|aw.cons amq<|aw.nil) cE aik zB fun x y h=>(akJ ax x).trans (afA x y h)
def Nc:ar:=⟨67,GL,aj0,Sl,zK⟩
def TE:bw:=
 (.seq
 (.ab false [
 oX 4 (.mv (.k (.one (.v (.bool) (false)))))])
 (.seq
 (.seq
 (.ab false [
 oX 7 (.mv 1),
 oX 8 (.len 7),
 oX 9 (.mv 0),
 oX 10 (.len 9),
 oX 11 (.bin .neq 8 10)])
 (.cond 11
 (.seq
 (.ab false [
 oX 4 (.mv (.k (.one (.v (.bool) (false)))))])
 .ret)
 .skip))
 (.seq
 (.seq
 (.ab false [
 oX 12 (.mv 1),
 oX 13 (.len 12),
 oX 14 (.mv (kX 0))])
 (.join ⟨[],[]⟩ [] []
 (.block 0
 (.loop 0 ⟨[(0,.one (.c (.v (lX)))),(12,.one (.c (.v (lX)))),(13,sX),(14,sX)],[]⟩ [] []
 (.seq
 (.ab false [
 oX 15 (.bin .lss 14 13)])
 (.seq
 (.cond 15
 .skip
 (.exit 0))
 (.seq
 (.block 1
 (.seq
 (.ab false [
 oX 16 (.mv 14),
 oX 17 (.bX 1 12 14),
 oX 18 (.load false 1 17),
 oX 5 (.mv 16),
 oX 6 (.mv 18)])
 (.seq
 (.ab false [
 oX 19 (.mv 6),
 oX 20 (.bin .lss 19 (kX 0)),
 oX 21 (.mv 20),
 ⟨(some 22),.mv 6,(some (21,false))⟩,
 ⟨(some 23),.mv 0,(some (21,false))⟩,
 ⟨(some 24),.mv 5,(some (21,false))⟩,
 ⟨(some 25),.bX 1 23 24,(some (21,false))⟩,
 ⟨(some 26),.load false 1 25,(some (21,false))⟩,
 ⟨(some 27),.bin .geq 22 26,(some (21,false))⟩,
 oX 28 (.pick 21 (.k (.one (.v (.bool) (true)))) 27)])
 (.cond 28
 (.seq
 (.ab false [
 oX 4 (.mv (.k (.one (.v (.bool) (false)))))])
 .ret)
 .skip))))
 (.ab false [
 oX 29 (.bin .add 14 (kX 1)),
 oX 14 (.mv 29)]))))))))
 (.seq
 (.ab false [
 oX 4 (.mv (.k (.one (.v (.bool) (true)))))])
 .ret))))
def Qu:List bA:=[.tmp 4]
theorem ak6 (NN:Nat) (x:aQ (ak.aP GL)):dH NN [] TE Qu GL Sl x=Lo NN x:=by kernel_rfl
theorem aiH:cb pX 67 TE.er Qu 2=true:=by decide+kernel
theorem amr:dh pX 67 Nc.M/\bC pX 67=true:=
  dS (T:=[]) (sc:=TE) (ms:=Qu) (args:=GL) (aA:=Sl) (aw.nil) cE aiH zK fun x y h=>(ak6 ax x).trans (afX x y h)
def MQ:ar:=⟨26,Gf,ajB,RR,xn⟩
def Ta:bw:=
 (.seq
 (.ab false [
 oX 2 (.box 2 0),
 oX 4 (.mv (kX 0))])
 (.seq
 (.seq
 (.ab false [
 oX 5 (.load true 2 2),
 oX 6 (.call .ae 21 [5]),
 oX 7 (.un .not 6),
 oX 8 (.mv 7),
 ⟨(some 9),.load true 2 2,(some (8,false))⟩,
 ⟨(some 10),.call .ae 56 [9],(some (8,false))⟩,
 ⟨(some 11),.mv 1,(some (8,false))⟩,
 ⟨(some 12),.call .ae 67 [10,11],(some (8,false))⟩,
 ⟨(some 13),.un .not 12,(some (8,false))⟩,
 oX 14 (.pick 8 (.k (.one (.v (.bool) (true)))) 13)])
 (.cond 14
 (.seq
 (.ab false [
 oX 4 (.mv (kX (-1)))])
 .ret)
 .skip))
 (.seq
 (.ab false [
 oX 15 (.load true 2 2),
 oX 16 (.mv 1),
 oX 17 (.call .ae 57 [15,16]),
 oX 4 (.mv 17)])
 .ret)))
def P2:List bA:=[.tmp 4]
theorem akE (NN:Nat) (x:aQ (ak.aP Gf)):dH NN [tP,Dr,Nc,Du] Ta P2 Gf RR x=K5 NN x:=by kernel_rfl
theorem aie:cb pX 26 Ta.er P2 2=true:=by decide+kernel
theorem al9:dh pX 26 MQ.M/\bC pX 26=true:=
  dS (T:=[tP,Dr,Nc,Du]) (sc:=Ta) (ms:=P2) (args:=Gf) (aA:=RR) (aw.cons JF<|aw.cons aaN<|aw.cons amr<|aw.cons aaQ<|aw.nil) cE aie xn fun x y h=>(akE ax x).trans (afv x y h)
def Ir:ar:=⟨4,vu,akc,SA,KS⟩
def TR:bw:=
 (.seq
 (.ab false [
 oX 2 (.mv (.k (.one (.v (.bool) (false)))))])
 (.seq
 (.seq
 (.ab false [
 oX 18 (.mv 0),
 oX 19 (.len 18),
 oX 20 (.bin .gtr 19 (kX 1048576))])
 (.cond 20
 (.seq
 (.ab false [
 oX 2 (.mv (.k (.one (.v (.bool) (true)))))])
 .ret)
 .skip))
 (.seq
 (.ab false [
 oX 21 (.mv 0),
 oX 22 (.du 16 [21,(kX 0)]),
 oX 3 (.mv 22)])
 (.seq
 (.ab false [
 oX 23 (.mv 0),
 oX 24 (.du 17 [23,(kX 10)]),
 oX 4 (.mv 24)])
 (.seq
 (.ab false [
 oX 25 (.mv 0),
 oX 26 (.mv 3),
 oX 27 (.mv 4),
 oX 28 (.du 19 [25,(kX 30),26,27]),
 oX 29 (.call .ae 18 [28]),
 oX 5 (.alloc [.nil iX,.nil iX,.nil iX]),
 uX (.store 3 5 29)])
 (.seq
 (.ab false [
 oX 31 (.mv 3),
 oX 32 (.load true 3 5),
 oX 33 (.call .ae 10 [31,32]),
 oX 30 (.mv 33),
 oX 34 (.ext 0 30),
 oX 35 (.ext 1 30),
 oX 6 (.alloc [zX,.nil gX]),
 uX (.store 2 6 34),
 oX 7 (.mv 35)])
 (.seq
 (.ab false [
 oX 36 (.load true 2 6),
 oX 37 (.call .ae 20 [36]),
 oX 8 (.mv 37)])
 (.seq
 (.seq
 (.ab true [
 oX 38 (.mv 7),
 oX 39 (.un .not 38),
 oX 40 (.mv 39),
 ⟨(some 41),.load true 2 6,(some (40,false))⟩,
 ⟨(some 42),.call .ae 21 [41],(some (40,false))⟩,
 ⟨(some 43),.un .not 42,(some (40,false))⟩,
 oX 44 (.pick 40 (.k (.one (.v (.bool) (true)))) 43),
 oX 45 (.mv 44),
 ⟨(some 46),.load true 2 6,(some (45,false))⟩,
 ⟨(some 47),.call .ae 18 [46],(some (45,false))⟩,
 ⟨(some 48),.load true 3 5,(some (45,false))⟩,
 ⟨(some 49),.call .ae 22 [47,48],(some (45,false))⟩,
 ⟨(some 50),.un .not 49,(some (45,false))⟩,
 oX 51 (.pick 45 (.k (.one (.v (.bool) (true)))) 50),
 oX 52 (.mv 51),
 ⟨(some 53),.mv 8,(some (52,false))⟩,
 ⟨(some 54),.len 53,(some (52,false))⟩,
 ⟨(some 55),.mv 4,(some (52,false))⟩,
 ⟨(some 56),.len 55,(some (52,false))⟩,
 ⟨(some 57),.bin .sub 56 (kX 1),(some (52,false))⟩,
 ⟨(some 58),.bin .neq 54 57,(some (52,false))⟩,
 oX 59 (.pick 52 (.k (.one (.v (.bool) (true)))) 58)])
 (.cond 59
 (.seq
 (.ab false [
 oX 2 (.mv (.k (.one (.v (.bool) (false)))))])
 .ret)
 .skip))
 (.seq
 (.ab false [
 oX 9 (.mv (kX 1))])
 (.seq
 (.ab false [
 oX 10 (.mv (kX 1))])
 (.seq
 (.seq
 (.ab false [
 oX 60 (.mv 4),
 oX 61 (.len 60),
 oX 62 (.mv (kX 0))])
 (.join ⟨[(8,.one (fX 500009 1)),(5,.one (rX 5)),(6,.one (rX 6)),(10,sX),(0,.one (.c (.v (.list [.int .u8])))),(9,sX),(4,.one (.c (.v (lX)))),(3,sX)],[(5,.box [fX 500005 1,fX 500006 1,fX 500007 1]),(6,.box [vX,fX 500008 4]),(500005,.row true .ae iX),(500006,.row true .ae iX),(500007,.row true .ae iX),(500008,.row true .ae gX),(500009,.row true .ae iX)]⟩ [5,6,500000,500001,500002,500003,500004,500005,500006,500007,500008,500009] [(true,5,0,500005,.ae,[]),(true,5,1,500006,.ae,[]),(true,5,2,500007,.ae,[]),(true,6,1,500008,.ae,[]),(false,8,0,500009,.ae,[])]
 (.block 0
 (.loop 0 ⟨[(0,.one (.c (.v (.list [.int .u8])))),(3,sX),(4,.one (.c (.v (lX)))),(5,.one (rX 5)),(6,.one (rX 6)),(8,.one (fX 500004 1)),(9,sX),(10,sX),(60,.one (.c (.v (lX)))),(61,sX),(62,sX)],[(5,.box [fX 500000 1,fX 500001 1,fX 500002 1]),(6,.box [vX,fX 500003 4]),(500000,.row true .ae iX),(500001,.row true .ae iX),(500002,.row true .ae iX),(500003,.row true .ae gX),(500004,.row true .ae iX)]⟩ [30000,30001,30002,5,34000,6,38000,48000,48001,48002,500000,500001,500002,500003,500004] [(true,5,0,500000,.ae,[]),(true,5,1,500001,.ae,[]),(true,5,2,500002,.ae,[]),(true,6,1,500003,.ae,[]),(false,8,0,500004,.ae,[])]
 (.seq
 (.ab false [
 oX 63 (.bin .lss 62 61)])
 (.seq
 (.cond 63
 .skip
 (.exit 0))
 (.seq
 (.block 1
 (.seq
 (.ab false [
 oX 64 (.bX 1 60 62),
 oX 65 (.load false 1 64),
 oX 12 (.mv 65)])
 (.ab false [
 oX 66 (.mv 10),
 oX 67 (.mv 12),
 oX 68 (.bin .mul 66 67),
 oX 10 (.mv 68)])))
 (.ab false [
 oX 69 (.bin .add 62 (kX 1)),
 oX 62 (.mv 69)]))))))))
 (.seq
 (.seq
 (.ab false [
 oX 70 (.aF 2 5),
 oX 71 (.load false 1 70),
 oX 72 (.len 71),
 oX 73 (.mv 10),
 oX 74 (.bin .neq 72 73)])
 (.cond 74
 (.seq
 (.ab false [
 oX 2 (.mv (.k (.one (.v (.bool) (false)))))])
 .ret)
 .skip))
 (.seq
 (.seq
 (.ab false [
 oX 75 (.mv 8),
 oX 76 (.len 75),
 oX 77 (.mv (kX 0))])
 (.join ⟨[(0,.one (.c (.v (.list [.int .u8])))),(10,sX),(6,.one (rX 6)),(5,.one (rX 5))],[(5,.box [fX 500015 1,fX 500016 1,fX 500017 1]),(6,.box [vX,fX 500018 4]),(500015,.row true .ae iX),(500016,.row true .ae iX),(500017,.row true .ae iX),(500018,.row true .ae gX)]⟩ [5,6,500010,500011,500012,500013,500014,500015,500016,500017,500018] [(true,5,0,500015,.ae,[]),(true,5,1,500016,.ae,[]),(true,5,2,500017,.ae,[]),(true,6,1,500018,.ae,[])]
 (.block 2
 (.loop 0 ⟨[(0,.one (.c (.v (.list [.int .u8])))),(3,sX),(4,.one (.c (.v (lX)))),(5,.one (rX 5)),(6,.one (rX 6)),(9,sX),(10,sX),(75,.one (fX 500014 1)),(76,sX),(77,sX)],[(5,.box [fX 500010 1,fX 500011 1,fX 500012 1]),(6,.box [vX,fX 500013 4]),(500010,.row true .ae iX),(500011,.row true .ae iX),(500012,.row true .ae iX),(500013,.row true .ae gX),(500014,.row true .ae iX)]⟩ [5,6,500005,500006,500007,500008,500009,500010,500011,500012,500013,500014] [(true,5,0,500010,.ae,[]),(true,5,1,500011,.ae,[]),(true,5,2,500012,.ae,[]),(true,6,1,500013,.ae,[]),(false,75,0,500014,.ae,[])]
 (.seq
 (.ab false [
 oX 78 (.bin .lss 77 76)])
 (.seq
 (.cond 78
 .skip
 (.exit 2))
 (.seq
 (.block 3
 (.seq
 (.ab false [
 oX 79 (.mv 77),
 oX 80 (.bX 1 75 77),
 oX 81 (.load false 1 80),
 oX 13 (.mv 79),
 oX 14 (.mv 81)])
 (.seq
 (.ab false [
 oX 82 (.mv 9),
 oX 83 (.mv 4),
 oX 84 (.mv 13),
 oX 85 (.bX 1 83 84),
 oX 86 (.load false 1 85),
 oX 87 (.bin .mul 82 86),
 oX 9 (.mv 87)])
 (.seq
 (.ab true [
 oX 88 (.mv 3),
 oX 89 (.mv 9),
 oX 90 (.mv 10),
 oX 91 (.mv 9),
 oX 92 (.bin .quo 90 91),
 oX 93 (.aF 2 5),
 oX 94 (.load false 1 93),
 oX 95 (.build [zX,zX,.nil iX] [(0,1,89),(1,1,92),(2,1,94)]),
 oX 96 (.call .ae 23 [88,95]),
 oX 97 (.mv 14),
 oX 98 (.bin .neq 96 97)])
 (.cond 98
 (.seq
 (.ab false [
 oX 2 (.mv (.k (.one (.v (.bool) (false)))))])
 .ret)
 .skip)))))
 (.ab false [
 oX 99 (.bin .add 77 (kX 1)),
 oX 77 (.mv 99)]))))))))
 (.seq
 (.ab false [
 oX 100 (.mv 0),
 oX 101 (.mv 10),
 oX 102 (.bin .sub 101 (kX 1)),
 oX 103 (.du 24 [100,(kX 90),(kX 0),102]),
 oX 15 (.mv 103)])
 (.seq
 (.ab false [
 oX 105 (.load true 3 5),
 oX 106 (.mv 15),
 oX 107 (.call .ae 25 [105,106]),
 oX 104 (.mv 107),
 oX 108 (.ext 0 104),
 oX 109 (.ext 1 104),
 oX 16 (.mv 108),
 oX 17 (.mv 109)])
 (.seq
 (.ab true [
 oX 110 (.mv 17),
 oX 111 (.mv 110),
 ⟨(some 112),.load true 2 6,(some (111,true))⟩,
 ⟨(some 113),.mv 16,(some (111,true))⟩,
 ⟨(some 114),.call .ae 26 [112,113],(some (111,true))⟩,
 ⟨(some 115),.aF 2 5,(some (111,true))⟩,
 ⟨(some 116),.load false 1 115,(some (111,true))⟩,
 ⟨(some 117),.mv 15,(some (111,true))⟩,
 ⟨(some 118),.bX 1 116 117,(some (111,true))⟩,
 ⟨(some 119),.load false 1 118,(some (111,true))⟩,
 ⟨(some 120),.bin .eql 114 119,(some (111,true))⟩,
 oX 121 (.pick 111 120 (.k (.one (.v (.bool) (false))))),
 oX 2 (.mv 121)])
 .ret))))))))))))))))
def QH:List bA:=[.tmp 2]
theorem alj (NN:Nat) (x:aQ (ak.aP vu)):dH NN [Nw,Nu,Nt,MS,MR,MP,tP,Nn,MZ,Ny,MU,MQ] TR QH vu SA x=FL NN x:=by kernel_rfl
theorem aiU:cb pX 4 TR.er QH 1=true:=by decide+kernel
theorem amA:dh pX 4 Ir.M/\bC pX 4=true:=
  dS (T:=[Nw,Nu,Nt,MS,MR,MP,tP,Nn,MZ,Ny,MU,MQ]) (sc:=TR) (ms:=QH) (args:=vu) (aA:=SA) (aw.io amK<|aw.io amI<|aw.io amH<|aw.cons amb<|aw.cons ama<|aw.cons al8<|aw.cons JF<|aw.cons amC<|aw.cons amg<|aw.io amL<|aw.cons amd<|aw.cons al9<|aw.nil) cE aiU KS fun x y h=>(alj ax x).trans (aga x y h)
end Go.Am
