/- A_FnSwapped: the code of the functions of FnSwapped. No condition. -/
import Derived.Test.YtbgmbplglejidaaLFnSwapped
import Derived.Test.YtbgmbplglejidaaBr2
import Derived.KernelRfl
import Derived.Test.YtbgmbplglejidaaRows
import Derived.Test.YtbgmbplglejidaaTLen
set_option linter.unusedVariables false
set_option maxRecDepth 100000
namespace Go.Am
theorem cL:Go.Proofs.Try.prog.follows .mixedOrders=true:=by decide+kernel
noncomputable abbrev pX:=Go.Proofs.Try.prog
def oX (n:Nat) (x:cU):fv:=⟨some n,x,none⟩
def uX (x:cU):fv:=⟨none,x,none⟩
def kX (n:Int):cO:=.k (.one (.v (.int .i64) n))
def sX:jv:=.one (.c (.v (.int .i64)))
def iX:List Ty:=[.int .i64]
def lX:Ty:=.list iX
def gX:List Ty:=[.int .i64,.int .i64,.int .i64,lX]
def zX:SC:=.v (.int .i64) (0:Int)
def vX:dZ:=.c (.v (.int .i64))
def fX (n k:Nat):dZ:=.c (.full n k)
def rX (n:Nat):dZ:=.c (.F7 n 0)
instance tX (n:Nat):OfNat cO n:=⟨.t n⟩
def OX:az:=⟨96,IL,anK,UI,Bk⟩
def VV:bz:=
 (.seq
 (.af false [
 oX 2 (.mv (.k (.one (.bq))))])
 (.seq
 (.af false [
 oX 5 (.mv 0),
 oX 6 (.len 5),
 oX 7 (.bin .add (kX 55127) 6),
 oX 3 (.mv 7)])
 (.seq
 (.seq
 (.af false [
 oX 4 (.mv (kX 0))])
 (.join ⟨[(0,.one (.c (.v (.list [.int .u8])))),(3,sX)],[]⟩ [] []
 (.block 0
 (.loop 0 ⟨[(0,.one (.c (.v (.list [.int .u8])))),(3,sX),(4,sX)],[]⟩ [] []
 (.seq
 (.seq
 (.af false [
 oX 8 (.mv 4),
 oX 9 (.mv 0),
 oX 10 (.len 9),
 oX 11 (.bin .lss 8 10),
 oX 12 (.mv 11),
 ⟨(some 13),.mv 4,(some (12,true))⟩,
 ⟨(some 14),.bin .lss 13 (kX 4000),(some (12,true))⟩,
 oX 15 (.pick 12 14 (.k (.one (.v (.bool) (false)))))])
 (.cond 15
 .skip
 (.exit 0)))
 (.seq
 (.block 1
 (.af false [
 oX 18 (.mv 3),
 oX 19 (.bin .mul 18 (kX 131)),
 oX 20 (.mv 0),
 oX 21 (.mv 4),
 oX 22 (.cf 1 20 21),
 oX 23 (.load false 1 22),
 oX 24 (.conv .i64 23),
 oX 25 (.bin .add 19 24),
 oX 26 (.bin .add 25 (kX 7)),
 oX 27 (.bin .and 26 (kX 1073741823)),
 oX 3 (.mv 27)]))
 (.af false [
 oX 16 (.mv 4),
 oX 17 (.bin .add 16 (kX 1)),
 oX 4 (.mv 17)])))))))
 (.seq
 (.af false [
 oX 28 (.mv 0),
 oX 29 (.mv 3),
 oX 30 (.build [.nil [.int .u8],zX,zX] [(0,1,28),(2,1,29)]),
 oX 31 (.box 3 30),
 oX 2 (.mv 31)])
 .ret))))
def SR:List bD:=[.tmp 2]
theorem aoU (NN:Nat) (x:aV (ao.aU IL)):ov NN [] VV SR IL UI x=Ht NN x:=by kernel_rfl
theorem al3:cj pX 96 VV.er SR 1=true:=by decide+kernel
theorem aqb:lD Go.Proofs.Try.prog 96 OX.MV/\bH pX 96=true:=
  qv (T:=[]) (sc:=VV) (ms:=SR) (args:=IL) (aF:=UI) (aB.nil) cL al3 Bk fun x y h=>(aoU aC x).trans (ah6 x y h)
def yU:az:=⟨54,IW,anQ,UO,wc⟩
def V1:bz:=
 (.seq
 (.af false [
 oX 4 (.mv (.k (.one (.bq))))])
 (.seq
 (.af false [
 oX 6 (.mv 0),
 oX 7 (.dT 96 [6]),
 oX 5 (.mv 7)])
 (.seq
 (.af false [
 oX 8 (.mv 5),
 oX 9 (.mv 1),
 oX 10 (.mv 0),
 oX 11 (.len 10),
 oX 12 (.mm false 9 11),
 oX 13 (.gZ 8),
 oX 14 (.aw 1 13),
 uX (.store 1 14 12)])
 (.seq
 (.af false [
 oX 15 (.mv 5),
 oX 16 (.mv 5),
 oX 17 (.gZ 16),
 oX 18 (.aw 2 17),
 oX 19 (.load false 1 18),
 oX 20 (.bin .mul 19 (kX 31)),
 oX 21 (.mv 1),
 oX 22 (.bin .mul 21 (kX 7919)),
 oX 23 (.bin .add 20 22),
 oX 24 (.bin .add 23 (kX 1)),
 oX 25 (.bin .and 24 (kX 1073741823)),
 oX 26 (.gZ 15),
 oX 27 (.aw 2 26),
 uX (.store 1 27 25)])
 (.seq
 (.af false [
 oX 28 (.mv 5),
 oX 4 (.mv 28)])
 .ret)))))
def SZ:List bD:=[.tmp 4]
theorem ao0 (NN:Nat) (x:aV (ao.aU IW)):ov NN [OX] V1 SZ IW UO x=Hz NN x:=by kernel_rfl
theorem al9:cj pX 54 V1.er SZ 2=true:=by decide+kernel
theorem Th:lD Go.Proofs.Try.prog 54 yU.MV/\bH pX 54=true:=
  qv (T:=[OX]) (sc:=V1) (ms:=SZ) (args:=IW) (aF:=UO) (aB.kl aqb<|aB.nil) cL al9 wc fun x y h=>(ao0 aC x).trans (aic x y h)
def ET:az:=⟨105,IK,anJ,UH,wa⟩
def VU:bz:=
 (.seq
 (.af false [
 oX 2 (.mv (kX 0))])
 (.seq
 (.af false [
 oX 4 (.mv 0),
 oX 5 (.mv 0),
 oX 6 (.gZ 5),
 oX 7 (.aw 2 6),
 oX 8 (.load false 1 7),
 oX 9 (.bin .mul 8 (kX 6364136223846793005)),
 oX 10 (.bin .add 9 (kX 1442695040888963407)),
 oX 11 (.gZ 4),
 oX 12 (.aw 2 11),
 uX (.store 1 12 10)])
 (.seq
 (.af true [
 oX 13 (.mv 0),
 oX 14 (.gZ 13),
 oX 15 (.aw 2 14),
 oX 16 (.load false 1 15),
 oX 17 (.bin .shr 16 (.k (.one (.v (.int .u64) ((33:Int)))))),
 oX 18 (.mv 0),
 oX 19 (.gZ 18),
 oX 20 (.aw 2 19),
 oX 21 (.load false 1 20),
 oX 22 (.bin .shr 21 (.k (.one (.v (.int .u64) ((45:Int)))))),
 oX 23 (.bin .xor 17 22),
 oX 24 (.bin .and 23 (kX 255)),
 oX 3 (.mv 24)])
 (.seq
 (.seq
 (.af true [
 oX 25 (.mv 0),
 oX 26 (.gZ 25),
 oX 27 (.aw 1 26),
 oX 28 (.load false 1 27),
 oX 29 (.mv 0),
 oX 30 (.gZ 29),
 oX 31 (.aw 0 30),
 oX 32 (.load false 1 31),
 oX 33 (.len 32),
 oX 34 (.bin .lss 28 33)])
 (.join ⟨[(3,sX)],[(1000000,.box [.c (.v (.list [.int .u8])),vX,vX])]⟩ [1000000] []
 (.cond 34
 (.seq
 (.af true [
 oX 35 (.mv 3),
 oX 36 (.mv 0),
 oX 37 (.gZ 36),
 oX 38 (.aw 0 37),
 oX 39 (.load false 1 38),
 oX 40 (.mv 0),
 oX 41 (.gZ 40),
 oX 42 (.aw 1 41),
 oX 43 (.load false 1 42),
 oX 44 (.cf 1 39 43),
 oX 45 (.load false 1 44),
 oX 46 (.conv .i64 45),
 oX 47 (.bin .add 35 46),
 oX 48 (.bin .and 47 (kX 255)),
 oX 3 (.mv 48)])
 (.af false [
 oX 49 (.mv 0),
 oX 50 (.mv 0),
 oX 51 (.gZ 50),
 oX 52 (.aw 1 51),
 oX 53 (.load false 1 52),
 oX 54 (.bin .add 53 (kX 1)),
 oX 55 (.gZ 49),
 oX 56 (.aw 1 55),
 uX (.store 1 56 54)]))
 .skip)))
 (.seq
 (.af false [
 oX 57 (.mv 3),
 oX 2 (.mv 57)])
 .ret)))))
def SQ:List bD:=[.tmp 2]
theorem aoT (NN:Nat) (x:aV (ao.aU IK)):ov NN [] VU SQ IK UH x=Hs NN x:=by kernel_rfl
theorem al2:cj pX 105 VU.er SQ 1=true:=by decide+kernel
theorem acv:lD Go.Proofs.Try.prog 105 ET.MV/\bH pX 105=true:=
  qv (T:=[]) (sc:=VU) (ms:=SQ) (args:=IK) (aF:=UH) (aB.nil) cL al2 wa fun x y h=>(aoT aC x).trans (ah5 x y h)
def uN:az:=⟨95,IJ,anI,UG,ul⟩
def VT:bz:=
 (.seq
 (.af false [
 oX 4 (.mv (kX 0))])
 (.seq
 (.seq
 (.af false [
 oX 5 (.mv 1),
 oX 6 (.bin .leq 5 (kX 0))])
 (.cond 6
 (.seq
 (.af false [
 oX 4 (.mv (kX 0))])
 .ret)
 .skip))
 (.seq
 (.af false [
 oX 7 (.mv 0),
 oX 8 (.dT 105 [7]),
 oX 9 (.mv 1),
 oX 10 (.bin .rem 8 9),
 oX 4 (.mv 10)])
 .ret)))
def SP:List bD:=[.tmp 4]
theorem aoS (NN:Nat) (x:aV (ao.aU IJ)):ov NN [ET] VT SP IJ UG x=Hr NN x:=by kernel_rfl
theorem al1:cj pX 95 VT.er SP 2=true:=by decide+kernel
theorem K6:lD Go.Proofs.Try.prog 95 uN.MV/\bH pX 95=true:=
  qv (T:=[ET]) (sc:=VT) (ms:=SP) (args:=IJ) (aF:=UG) (aB.kl acv<|aB.nil) cL al1 ul fun x y h=>(aoS aC x).trans (ah4 x y h)
def OY:az:=⟨53,IP,anM,UK,Bl⟩
def VX:bz:=
 (.seq
 (.af false [
 oX 4 (.mv (kX 0))])
 (.seq
 (.af false [
 oX 5 (.mv 1),
 oX 6 (.mv 0),
 oX 7 (.mv 1),
 oX 8 (.len 7),
 oX 9 (.dT 95 [6,8]),
 oX 10 (.cf 1 5 9),
 oX 11 (.load false 1 10),
 oX 4 (.mv 11)])
 .ret))
def SU:List bD:=[.tmp 4]
theorem aoW (NN:Nat) (x:aV (ao.aU IP)):ov NN [uN] VX SU IP UK x=Hv NN x:=by kernel_rfl
theorem al5:cj pX 53 VX.er SU 2=true:=by decide+kernel
theorem aqc:lD Go.Proofs.Try.prog 53 OY.MV/\bH pX 53=true:=
  qv (T:=[uN]) (sc:=VX) (ms:=SU) (args:=IP) (aF:=UK) (aB.kl K6<|aB.nil) cL al5 Bl fun x y h=>(aoW aC x).trans (ah8 x y h)
def OV:az:=⟨16,IH,anG,UE,Bj⟩
def VR:bz:=
 (.seq
 (.af false [
 oX 4 (.mv (kX 0))])
 (.seq
 (.af false [
 oX 5 (.mv 0),
 oX 6 (.mv 1),
 oX 7 (.dT 54 [5,6]),
 oX 8 (.gd iX [(kX 2),(kX 3),(kX 7),(kX 101),(kX 1000003)]),
 oX 9 (.dT 53 [7,8]),
 oX 4 (.mv 9)])
 .ret))
def SN:List bD:=[.tmp 4]
theorem aoQ (NN:Nat) (x:aV (ao.aU IH)):ov NN [yU,OY] VR SN IH UE x=Hp NN x:=by kernel_rfl
theorem alZ:cj pX 16 VR.er SN 2=true:=by decide+kernel
theorem ap9:lD Go.Proofs.Try.prog 16 OV.MV/\bH pX 16=true:=
  qv (T:=[yU,OY]) (sc:=VR) (ms:=SN) (args:=IH) (aF:=UE) (aB.kl Th<|aB.kl aqc<|aB.nil) cL alZ Bj fun x y h=>(aoQ aC x).trans (ah1 x y h)
def OU:az:=⟨64,IG,anF,UD,Bi⟩
def VQ:bz:=
 (.seq
 (.af false [
 oX 4 (.mv (kX 0))])
 (.seq
 (.af false [
 oX 6 (.mv 0),
 oX 7 (.mv 1),
 oX 8 (.dT 54 [6,7]),
 oX 5 (.mv 8)])
 (.seq
 (.af false [
 oX 9 (.mv 5),
 oX 10 (.dT 105 [9]),
 oX 11 (.bin .mul (kX 256) 10),
 oX 12 (.mv 5),
 oX 13 (.dT 105 [12]),
 oX 14 (.bin .add 11 13),
 oX 4 (.mv 14)])
 .ret)))
def SM:List bD:=[.tmp 4]
theorem aoP (NN:Nat) (x:aV (ao.aU IG)):ov NN [yU,ET] VQ SM IG UD x=Ho NN x:=by kernel_rfl
theorem alY:cj pX 64 VQ.er SM 2=true:=by decide+kernel
theorem ap8:lD Go.Proofs.Try.prog 64 OU.MV/\bH pX 64=true:=
  qv (T:=[yU,ET]) (sc:=VQ) (ms:=SM) (args:=IG) (aF:=UD) (aB.kl Th<|aB.kl acv<|aB.nil) cL alY Bi fun x y h=>(aoP aC x).trans (ah0 x y h)
def OW:az:=⟨24,II,anH,UF,yh⟩
def VS:bz:=
 (.seq
 (.af false [
 oX 8 (.mv (kX 0))])
 (.seq
 (.af false [
 oX 9 (.mv 2),
 oX 10 (.mv 0),
 oX 11 (.mv 1),
 oX 12 (.dT 64 [10,11]),
 oX 13 (.mv 3),
 oX 14 (.mv 2),
 oX 15 (.bin .sub 13 14),
 oX 16 (.bin .add 15 (kX 1)),
 oX 17 (.bin .rem 12 16),
 oX 18 (.bin .add 9 17),
 oX 8 (.mv 18)])
 .ret))
def SO:List bD:=[.tmp 8]
theorem aoR (NN:Nat) (x:aV (ao.aU II)):ov NN [OU] VS SO II UF x=Hq NN x:=by kernel_rfl
theorem al0:cj pX 24 VS.er SO 4=true:=by decide+kernel
theorem aqa:lD Go.Proofs.Try.prog 24 OW.MV/\bH pX 24=true:=
  qv (T:=[OU]) (sc:=VS) (ms:=SO) (args:=II) (aF:=UF) (aB.kl ap8<|aB.nil) cL al0 yh fun x y h=>(aoR aC x).trans (ah2 x y h)
def EU:az:=⟨98,IM,anL,UJ,wb⟩
def VW:bz:=
 (.seq
 (.af false [
 oX 4 (.mv (.k (.one (.v (.bool) (false)))))])
 (.seq
 (.af false [
 oX 5 (.mv 0),
 oX 6 (.mv 1),
 oX 7 (.dT 95 [5,6]),
 oX 8 (.bin .eql 7 (kX 0)),
 oX 4 (.mv 8)])
 .ret))
def SS:List bD:=[.tmp 4]
theorem aoV (NN:Nat) (x:aV (ao.aU IM)):ov NN [uN] VW SS IM UJ x=Hu NN x:=by kernel_rfl
theorem al4:cj pX 98 VW.er SS 2=true:=by decide+kernel
theorem acw:lD Go.Proofs.Try.prog 98 EU.MV/\bH pX 98=true:=
  qv (T:=[uN]) (sc:=VW) (ms:=SS) (args:=IM) (aF:=UJ) (aB.kl K6<|aB.nil) cL al4 wb fun x y h=>(aoV aC x).trans (ah7 x y h)
def O0:az:=⟨85,IU,anO,UM,yj⟩
def VZ:bz:=
 (.seq
 (.af false [
 oX 4 (.alloc [zX,zX,.nil iX])])
 (.seq
 (.af false [
 oX 5 (.mv 0),
 oX 6 (.mv 1),
 oX 7 (.mv 0),
 oX 8 (.mv 1),
 oX 9 (.bin .mul 7 8),
 oX 10 (.kF .ae iX 8 (0:Int) 9 9),
 oX 11 (.build [zX,zX,.nil iX] [(0,1,5),(1,1,6),(2,1,10)]),
 uX (.store 3 4 11)])
 .ret))
def SX:List bD:=[.cell 4 3 true]
theorem aoY (NN:Nat) (x:aV (ao.aU IU)):dH NN [] VZ SX IU UM x=Hx NN x:=by kernel_rfl
theorem al7:cj pX 85 VZ.er SX 2=true:=by decide+kernel
theorem aqe:dj pX 85 O0.M/\bH pX 85=true:=
  dN (T:=[]) (sc:=VZ) (ms:=SX) (args:=IU) (aF:=UM) (aB.nil) cL al7 yj fun x y h=>(aoY aC x).trans (ZD x y h)
def OZ:az:=⟨99,IQ,anN,UL,Bm⟩
def VY:bz:=
 (.seq
 (.af false [
 oX 8 (.alloc [zX,zX,.nil iX])])
 (.seq
 (.af false [
 oX 12 (.mv 2),
 oX 13 (.mv 3),
 oX 14 (.call .ae 85 [12,13]),
 oX 9 (.alloc [zX,zX,.nil iX]),
 uX (.store 3 9 14)])
 (.seq
 (.seq
 (.af false [
 oX 15 (.aw 2 9),
 oX 16 (.load false 1 15),
 oX 17 (.len 16),
 oX 18 (.mv (kX 0))])
 (.join ⟨[(2,sX),(0,.one (rX 1000000)),(3,sX),(9,.one (rX 9)),(8,.one (rX 8))],[(1000000,.box [.c (.v (.list [.int .u8])),vX,vX]),(8,.box [vX,vX,fX 500002 1]),(9,.box [vX,vX,fX 500003 1]),(500002,.row true .ae iX),(500003,.row true .ae iX)]⟩ [1000000,8,9,500000,500001,500002,500003] [(true,8,2,500002,.ae,[]),(true,9,2,500003,.ae,[])]
 (.block 0
 (.loop 0 ⟨[(0,.one (rX 1000000)),(1,sX),(2,sX),(3,sX),(8,.one (rX 8)),(9,.one (rX 9)),(17,sX),(18,sX)],[(1000000,.box [.c (.v (.list [.int .u8])),vX,vX]),(8,.box [vX,vX,fX 500000 1]),(9,.box [vX,vX,fX 500001 1]),(500000,.row true .ae iX),(500001,.row true .ae iX)]⟩ [1000000,8,15000,9,500000,500001] [(true,8,2,500000,.ae,[]),(true,9,2,500001,.ae,[])]
 (.seq
 (.af false [
 oX 19 (.bin .lss 18 17)])
 (.seq
 (.cond 19
 .skip
 (.exit 0))
 (.seq
 (.block 1
 (.seq
 (.af false [
 oX 20 (.mv 18),
 oX 10 (.mv 20)])
 (.seq
 (.af false [
 oX 21 (.mv 0),
 oX 22 (.dT 98 [21,(kX 3)]),
 oX 23 (.un .not 22)])
 (.cond 23
 (.pi [(0,6),(1,6)] [
 oX 24 (.aw 2 9),
 oX 25 (.load false 1 24),
 oX 26 (.mv 10),
 oX 27 (.mv 0),
 oX 28 (.mv 1),
 oX 29 (.mm false 28 (kX 256)),
 oX 30 (.dT 95 [27,29]),
 oX 31 (.cf 1 25 26),
 uX (.store 1 31 30)])
 .skip))))
 (.af false [
 oX 32 (.bin .add 18 (kX 1)),
 oX 18 (.mv 32)]))))))))
 (.seq
 (.seq
 (.af false [
 oX 33 (.mv 2),
 oX 34 (.bin .gtr 33 (kX 1)),
 oX 35 (.mv 34),
 ⟨(some 36),.mv 0,(some (35,true))⟩,
 ⟨(some 37),.dT 98 [36,(kX 3)],(some (35,true))⟩,
 oX 38 (.pick 35 37 (.k (.one (.v (.bool) (false)))))])
 (.join ⟨[(9,.one (rX 9)),(8,.one (rX 8))],[(1000000,.box [.c (.v (.list [.int .u8])),vX,vX]),(8,.box [vX,vX,fX 500006 1]),(9,.box [vX,vX,fX 500007 1]),(500006,.row true .ae iX),(500007,.row true .ae iX)]⟩ [1000000,8,9,500002,500003,500004,500005,500006,500007] [(true,8,2,500006,.ae,[]),(true,9,2,500007,.ae,[])]
 (.cond 38
 (.seq
 (.af false [
 oX 11 (.mv (kX 0))])
 (.block 2
 (.loop 0 ⟨[(3,sX),(8,.one (rX 8)),(9,.one (rX 9)),(11,sX)],[(1000000,.box [.c (.v (.list [.int .u8])),vX,vX]),(8,.box [vX,vX,fX 500004 1]),(9,.box [vX,vX,fX 500005 1]),(500004,.row true .ae iX),(500005,.row true .ae iX)]⟩ [1000000,8,9,500002,500003,500004,500005] [(true,8,2,500004,.ae,[]),(true,9,2,500005,.ae,[])]
 (.seq
 (.seq
 (.af false [
 oX 39 (.mv 11),
 oX 40 (.mv 3),
 oX 41 (.bin .lss 39 40)])
 (.cond 41
 .skip
 (.exit 2)))
 (.seq
 (.block 3
 (.af true [
 oX 44 (.aw 2 9),
 oX 45 (.load false 1 44),
 oX 46 (.mv 3),
 oX 47 (.mv 11),
 oX 48 (.bin .add 46 47),
 oX 49 (.aw 2 9),
 oX 50 (.load false 1 49),
 oX 51 (.mv 11),
 oX 52 (.cf 1 50 51),
 oX 53 (.load false 1 52),
 oX 54 (.cf 1 45 48),
 uX (.store 1 54 53)]))
 (.af false [
 oX 42 (.mv 11),
 oX 43 (.bin .add 42 (kX 1)),
 oX 11 (.mv 43)]))))))
 .skip)))
 (.seq
 (.af false [
 oX 55 (.load true 3 9),
 uX (.store 3 8 55)])
 .ret)))))
def SW:List bD:=[.cell 8 3 true]
theorem aoX (NN:Nat) (x:aV (ao.aU IQ)):ov NN [O0,EU,uN] VY SW IQ UL x=Hw NN x:=by kernel_rfl
theorem al6:cj pX 99 VY.er SW 4=true:=by decide+kernel
theorem aqd:lD Go.Proofs.Try.prog 99 OZ.MV/\bH pX 99=true:=
  qv (T:=[O0,EU,uN]) (sc:=VY) (ms:=SW) (args:=IQ) (aF:=UL) (aB.cons aqe<|aB.kl acw<|aB.kl K6<|aB.nil) cL al6 Bm fun x y h=>(aoX aC x).trans (ah9 x y h)
def O3:az:=⟨59,IV,anP,UN,Bn⟩
def V0:bz:=
 (.seq
 (.af false [
 oX 6 (.alloc [zX,.nil gX])])
 (.seq
 (.af false [
 oX 13 (.mv 1),
 oX 14 (.build [zX,.nil gX] [(0,1,13)]),
 oX 7 (.alloc [zX,.nil gX]),
 uX (.store 2 7 14)])
 (.seq
 (.af false [
 oX 8 (.mv (kX 1))])
 (.seq
 (.seq
 (.af false [
 oX 15 (.mv 2),
 oX 16 (.len 15),
 oX 17 (.mv (kX 0))])
 (.join ⟨[(7,.one (rX 7)),(6,.one (rX 6))],[(1000000,.box [.c (.v (.list [.int .u8])),vX,vX]),(6,.box [vX,fX 500006 4]),(7,.box [vX,fX 500007 4]),(500006,.row true .ae gX),(500007,.row true .aG gX)]⟩ [1000000,6,7,500000,500001,500006,500007] [(true,6,1,500006,.ae,[]),(true,7,1,500007,.aG,[])]
 (.block 0
 (.loop 0 ⟨[(0,.one (rX 1000000)),(1,sX),(2,.one (.c (.v (lX)))),(6,.one (rX 6)),(7,.one (rX 7)),(8,sX),(15,.one (.c (.v (lX)))),(16,sX),(17,sX)],[(1000000,.box [.c (.v (.list [.int .u8])),vX,vX]),(6,.box [vX,fX 500000 4]),(7,.box [vX,fX 500001 4]),(500000,.row true .ae gX),(500001,.row true .aG gX)]⟩ [1000000,6,7,12,51,500000,500001,500004] [(true,6,1,500000,.ae,[]),(true,7,1,500001,.aG,[])]
 (.seq
 (.af false [
 oX 18 (.bin .lss 17 16)])
 (.seq
 (.cond 18
 .skip
 (.exit 0))
 (.seq
 (.block 1
 (.seq
 (.af false [
 oX 19 (.mv 17),
 oX 20 (.cf 1 15 17),
 oX 21 (.load false 1 20),
 oX 9 (.mv 19),
 oX 10 (.mv 21)])
 (.seq
 (.af false [
 oX 22 (.mv 10),
 oX 23 (.mm false (kX 4) 22),
 oX 24 (.mm true (kX 1) 23),
 oX 10 (.mv 24)])
 (.seq
 (.af false [
 oX 25 (.mv 0),
 oX 26 (.dT 95 [25,(kX 4)]),
 oX 27 (.bin .add (kX 1) 26),
 oX 11 (.mv 27)])
 (.seq
 (.seq
 (.af false [
 oX 28 (.mv 0),
 oX 29 (.dT 98 [28,(kX 16)])])
 (.join ⟨[(9,sX),(8,sX),(10,sX),(11,sX),(17,sX),(0,.one (rX 1000000)),(1,sX),(2,.one (.c (.v (lX)))),(6,.one (rX 6)),(7,.one (rX 7)),(15,.one (.c (.v (lX)))),(16,sX)],[(1000000,.box [.c (.v (.list [.int .u8])),vX,vX]),(6,.box [vX,fX 500002 4]),(7,.box [vX,fX 500003 4]),(500002,.row true .ae gX),(500003,.row true .aG gX)]⟩ [1000000,6,7,500000,500001,500002,500003] [(true,6,1,500002,.ae,[]),(true,7,1,500003,.aG,[])]
 (.cond 29
 (.af false [
 oX 11 (.mv (kX 0))])
 .skip)))
 (.seq
 (.seq
 (.af false [
 oX 30 (.mv 9),
 oX 31 (.mv 2),
 oX 32 (.len 31),
 oX 33 (.bin .sub 32 (kX 1)),
 oX 34 (.bin .eql 30 33)])
 (.join ⟨[(8,sX),(10,sX),(11,sX),(17,sX),(0,.one (rX 1000000)),(1,sX),(2,.one (.c (.v (lX)))),(6,.one (rX 6)),(7,.one (rX 7)),(15,.one (.c (.v (lX)))),(16,sX)],[(1000000,.box [.c (.v (.list [.int .u8])),vX,vX]),(6,.box [vX,fX 500004 4]),(7,.box [vX,fX 500005 4]),(500004,.row true .ae gX),(500005,.row true .aG gX)]⟩ [1000000,6,7,500002,500003,500004,500005] [(true,6,1,500004,.ae,[]),(true,7,1,500005,.aG,[])]
 (.cond 34
 (.af false [
 oX 11 (.mv (kX 1))])
 .skip)))
 (.seq
 (.af false [
 oX 35 (.mv 0),
 oX 36 (.mv 1),
 oX 37 (.mv 8),
 oX 38 (.mv 10),
 oX 39 (.bin .mul 37 38),
 oX 40 (.mv 11),
 oX 41 (.dT 99 [35,36,39,40]),
 oX 12 (.alloc [zX,zX,.nil iX]),
 uX (.store 3 12 41)])
 (.seq
 (.af false [
 oX 42 (.aw 1 7),
 oX 43 (.load false 1 42),
 oX 44 (.mv 8),
 oX 45 (.mv 10),
 oX 46 (.mv 11),
 oX 47 (.aw 2 12),
 oX 48 (.load false 1 47),
 oX 49 (.build [zX,zX,zX,.nil iX] [(0,1,44),(1,1,45),(2,1,46),(3,1,48)]),
 oX 50 (.gd gX [49]),
 oX 51 (.append false gX 48 43 50),
 oX 52 (.aw 1 7),
 uX (.store 1 52 51)])
 (.af false [
 oX 53 (.mv 11),
 oX 8 (.mv 53)])))))))))
 (.af false [
 oX 54 (.bin .add 17 (kX 1)),
 oX 17 (.mv 54)]))))))))
 (.seq
 (.af false [
 oX 55 (.load true 2 7),
 uX (.store 2 6 55)])
 .ret)))))
def SY:List bD:=[.cell 6 2 true]
theorem aoZ (NN:Nat) (x:aV (ao.aU IV)):ov NN [uN,EU,OZ] V0 SY IV UN x=Hy NN x:=by kernel_rfl
theorem al8:cj pX 59 V0.er SY 3=true:=by decide+kernel
theorem aqf:lD Go.Proofs.Try.prog 59 O3.MV/\bH pX 59=true:=
  qv (T:=[uN,EU,OZ]) (sc:=V0) (ms:=SY) (args:=IV) (aF:=UN) (aB.kl K6<|aB.kl acw<|aB.kl aqd<|aB.nil) cL al8 Bn fun x y h=>(aoZ aC x).trans (aib x y h)
def OT:az:=⟨19,IF,anE,UC,Bh⟩
def VP:bz:=
 (.seq
 (.af false [
 oX 8 (.alloc [zX,.nil gX])])
 (.seq
 (.af false [
 oX 9 (.mv 0),
 oX 10 (.mv 1),
 oX 11 (.dT 54 [9,10]),
 oX 12 (.mv 2),
 oX 13 (.mv 3),
 oX 14 (.dT 59 [11,12,13]),
 uX (.store 2 8 14)])
 .ret))
def SL:List bD:=[.cell 8 2 true]
theorem aoO (NN:Nat) (x:aV (ao.aU IF)):ov NN [yU,O3] VP SL IF UC x=Hm NN x:=by kernel_rfl
theorem alX:cj pX 19 VP.er SL 4=true:=by decide+kernel
theorem ap7:lD Go.Proofs.Try.prog 19 OT.MV/\bH pX 19=true:=
  qv (T:=[yU,O3]) (sc:=VP) (ms:=SL) (args:=IF) (aF:=UC) (aB.kl Th<|aB.kl aqf<|aB.nil) cL alX Bh fun x y h=>(aoO aC x).trans (ahZ x y h)
def uL:az:=⟨60,HM,amX,TP,nE⟩
def U4:bz:=
 (.seq
 (.af false [
 oX 2 (.mv (.k (.one (.v (.bool) (false)))))])
 (.seq
 (.seq
 (.af false [
 oX 4 (.mv 0),
 oX 5 (.bin .lss 4 (kX 2)),
 oX 6 (.mv 5),
 ⟨(some 7),.mv 0,(some (6,false))⟩,
 ⟨(some 8),.bin .gtr 7 (kX 1000003),(some (6,false))⟩,
 oX 9 (.pick 6 (.k (.one (.v (.bool) (true)))) 8)])
 (.cond 9
 (.seq
 (.af false [
 oX 2 (.mv (.k (.one (.v (.bool) (false)))))])
 .ret)
 .skip))
 (.seq
 (.seq
 (.af false [
 oX 3 (.mv (kX 2))])
 (.join ⟨[],[]⟩ [] []
 (.block 0
 (.loop 0 ⟨[(0,sX),(3,sX)],[]⟩ [] []
 (.seq
 (.seq
 (.af false [
 oX 10 (.mv 3),
 oX 11 (.mv 3),
 oX 12 (.bin .mul 10 11),
 oX 13 (.mv 0),
 oX 14 (.bin .leq 12 13)])
 (.cond 14
 .skip
 (.exit 0)))
 (.seq
 (.block 1
 (.seq
 (.af false [
 oX 17 (.mv 0),
 oX 18 (.mv 3),
 oX 19 (.bin .rem 17 18),
 oX 20 (.bin .eql 19 (kX 0))])
 (.cond 20
 (.seq
 (.af false [
 oX 2 (.mv (.k (.one (.v (.bool) (false)))))])
 .ret)
 .skip)))
 (.af false [
 oX 15 (.mv 3),
 oX 16 (.bin .add 15 (kX 1)),
 oX 3 (.mv 16)])))))))
 (.seq
 (.af false [
 oX 2 (.mv (.k (.one (.v (.bool) (true)))))])
 .ret))))
def RU:List bD:=[.tmp 2]
theorem an3 (NN:Nat) (x:aV (ao.aU HM)):dH NN [] U4 RU HM TP x=Ms NN x:=by kernel_rfl
theorem alb:cj pX 60 U4.er RU 1=true:=by decide+kernel
theorem K4:dj pX 60 uL.M/\bH pX 60=true:=
  dN (T:=[]) (sc:=U4) (ms:=RU) (args:=HM) (aF:=TP) (aB.nil) cL alb nE fun x y h=>(an3 aC x).trans (ahe x y h)
def uM:az:=⟨71,Ie,anh,Uc,vZ⟩
def Vq:bz:=
 (.seq
 (.af false [
 oX 4 (.alloc [zX,zX,.nil iX])])
 (.seq
 (.af false [
 oX 5 (.mv 0),
 oX 6 (.mv 1),
 oX 7 (.mv 0),
 oX 8 (.mv 1),
 oX 9 (.bin .mul 7 8),
 oX 10 (.kF .ae iX 8 (0:Int) 9 9),
 oX 11 (.build [zX,zX,.nil iX] [(0,1,5),(1,1,6),(2,1,10)]),
 uX (.store 3 4 11)])
 .ret))
def Si:List bD:=[.cell 4 3 true]
theorem aop (NN:Nat) (x:aV (ao.aU Ie)):dH NN [] Vq Si Ie Uc x=XG NN x:=by kernel_rfl
theorem aly:cj pX 71 Vq.er Si 2=true:=by decide+kernel
theorem K5:dj pX 71 uM.M/\bH pX 71=true:=
  dN (T:=[]) (sc:=Vq) (ms:=Si) (args:=Ie) (aF:=Uc) (aB.nil) cL aly vZ fun x y h=>(aop aC x).trans (ahA x y h)
def nN:az:=⟨72,HQ,KK,TT,oD⟩
def U8:bz:=
 (.seq
 (.af false [
 oX 4 (.box 3 0)])
 (.af false [
 oX 8 (.aw 2 4),
 oX 9 (.load false 1 8),
 oX 10 (.mv 1),
 oX 11 (.aw 1 4),
 oX 12 (.load false 1 11),
 oX 13 (.bin .mul 10 12),
 oX 14 (.mv 2),
 oX 15 (.bin .add 13 14),
 oX 16 (.mv 3),
 oX 17 (.cf 1 9 15),
 uX (.store 1 17 16)]))
def RZ:List bD:=[]
theorem an7 (NN:Nat) (x:aV (ao.aU HQ)):vH NN [] U8 RZ HQ KK TT x=G9 NN x:=by kernel_rfl
theorem alf:cj pX 72 U8.er RZ 4=true:=by decide+kernel
theorem z9:qw pX 72 KK nN.MM/\bH pX 72=true:=
  zY (T:=[]) (sc:=U8) (ms:=RZ) (args:=HQ) (mu:=KK) (aF:=TT) (aB.nil) cL alf oD fun x y h=>(an7 aC x).trans (ahi x y h)
def On:az:=⟨29,HZ,am6,T1,vY⟩
def Vg:bz:=
 (.seq
 (.af false [
 oX 6 (.alloc [zX,zX,.nil iX]),
 oX 7 (.mv (.k (.one (.v (.bool) (false)))))])
 (.seq
 (.seq
 (.af false [
 oX 11 (.mv 0),
 oX 12 (.call .ae 60 [11]),
 oX 13 (.un .not 12),
 oX 14 (.mv 13),
 ⟨(some 15),.mv 1,(some (14,false))⟩,
 ⟨(some 16),.bin .lss 15 (kX 1),(some (14,false))⟩,
 oX 17 (.pick 14 (.k (.one (.v (.bool) (true)))) 16),
 oX 18 (.mv 17),
 ⟨(some 19),.mv 1,(some (18,false))⟩,
 ⟨(some 20),.bin .gtr 19 (kX 8),(some (18,false))⟩,
 oX 21 (.pick 18 (.k (.one (.v (.bool) (true)))) 20),
 oX 22 (.mv 21),
 ⟨(some 23),.mv 2,(some (22,false))⟩,
 ⟨(some 24),.bin .lss 23 (kX 1),(some (22,false))⟩,
 oX 25 (.pick 22 (.k (.one (.v (.bool) (true)))) 24),
 oX 26 (.mv 25),
 ⟨(some 27),.mv 2,(some (26,false))⟩,
 ⟨(some 28),.bin .gtr 27 (kX 8),(some (26,false))⟩,
 oX 29 (.pick 26 (.k (.one (.v (.bool) (true)))) 28),
 oX 30 (.mv 29),
 ⟨(some 31),.mv 1,(some (30,false))⟩,
 ⟨(some 32),.mv 2,(some (30,false))⟩,
 ⟨(some 33),.bin .mul 31 32,(some (30,false))⟩,
 ⟨(some 34),.bin .gtr 33 (kX 64),(some (30,false))⟩,
 oX 35 (.pick 30 (.k (.one (.v (.bool) (true)))) 34)])
 (.cond 35
 (.seq
 (.af false [
 oX 36 (.build [zX,zX,.nil iX] []),
 uX (.store 3 6 36),
 oX 7 (.mv (.k (.one (.v (.bool) (false)))))])
 .ret)
 .skip))
 (.seq
 (.af false [
 oX 37 (.mv 1),
 oX 38 (.mv 2),
 oX 39 (.bin .mul 37 38),
 oX 40 (.mv 1),
 oX 41 (.mv 2),
 oX 42 (.bin .mul 40 41),
 oX 43 (.call .ae 71 [39,42]),
 oX 8 (.alloc [zX,zX,.nil iX]),
 uX (.store 3 8 43)])
 (.seq
 (.seq
 (.af false [
 oX 9 (.mv (kX 0))])
 (.join ⟨[(8,.one (rX 8)),(6,.one (rX 6))],[(6,.box [vX,vX,fX 500006 1]),(8,.box [vX,vX,fX 500007 1]),(500006,.row true .ae iX),(500007,.row true .ae iX)]⟩ [6,8,500000,500001,500006,500007] [(true,6,2,500006,.ae,[]),(true,8,2,500007,.ae,[])]
 (.block 0
 (.loop 0 ⟨[(1,sX),(2,sX),(6,.one (rX 6)),(8,.one (rX 8)),(9,sX)],[(6,.box [vX,vX,fX 500000 1]),(8,.box [vX,vX,fX 500001 1]),(500000,.row true .ae iX),(500001,.row true .ae iX)]⟩ [6,44000,8,500000,500001,500004,500005] [(true,6,2,500000,.ae,[]),(true,8,2,500001,.ae,[])]
 (.seq
 (.seq
 (.af false [
 oX 44 (.mv 9),
 oX 45 (.mv 1),
 oX 46 (.bin .lss 44 45)])
 (.cond 46
 .skip
 (.exit 0)))
 (.seq
 (.join ⟨[(9,sX),(1,sX),(2,sX),(6,.one (rX 6)),(8,.one (rX 8))],[(6,.box [vX,vX,fX 500004 1]),(8,.box [vX,vX,fX 500005 1]),(500004,.row true .ae iX),(500005,.row true .ae iX)]⟩ [6,8,500002,500003,500004,500005] [(true,6,2,500004,.ae,[]),(true,8,2,500005,.ae,[])]
 (.block 1
 (.seq
 (.af false [
 oX 10 (.mv (kX 0))])
 (.block 2
 (.loop 0 ⟨[(1,sX),(2,sX),(6,.one (rX 6)),(8,.one (rX 8)),(9,sX),(10,sX)],[(6,.box [vX,vX,fX 500002 1]),(8,.box [vX,vX,fX 500003 1]),(500002,.row true .ae iX),(500003,.row true .ae iX)]⟩ [6,8,500000,500001,500002,500003] [(true,6,2,500002,.ae,[]),(true,8,2,500003,.ae,[])]
 (.seq
 (.seq
 (.af false [
 oX 49 (.mv 10),
 oX 50 (.mv 2),
 oX 51 (.bin .lss 49 50)])
 (.cond 51
 .skip
 (.exit 2)))
 (.seq
 (.block 3
 (.af false [
 oX 54 (.load true 3 8),
 oX 55 (.mv 10),
 oX 56 (.mv 1),
 oX 57 (.bin .mul 55 56),
 oX 58 (.mv 9),
 oX 59 (.bin .add 57 58),
 oX 60 (.mv 9),
 oX 61 (.mv 2),
 oX 62 (.bin .mul 60 61),
 oX 63 (.mv 10),
 oX 64 (.bin .add 62 63),
 oX 65 (.fU .ae 72 [54,59,64,(kX 1)])]))
 (.af false [
 oX 52 (.mv 10),
 oX 53 (.bin .add 52 (kX 1)),
 oX 10 (.mv 53)]))))))))
 (.af false [
 oX 47 (.mv 9),
 oX 48 (.bin .add 47 (kX 1)),
 oX 9 (.mv 48)])))))))
 (.seq
 (.af false [
 oX 66 (.load true 3 8),
 uX (.store 3 6 66),
 oX 7 (.mv (.k (.one (.v (.bool) (true)))))])
 .ret)))))
def R8:List bD:=[.cell 6 3 true,.tmp 7]
theorem aof (NN:Nat) (x:aV (ao.aU HZ)):dH NN [uL,uM,nN] Vg R8 HZ T1 x=D2 NN x:=by kernel_rfl
theorem alo:cj pX 29 Vg.er R8 3=true:=by decide+kernel
theorem apE:dj pX 29 On.M/\bH pX 29=true:=
  dN (T:=[uL,uM,nN]) (sc:=Vg) (ms:=R8) (args:=HZ) (aF:=T1) (aB.cons K4<|aB.cons K5<|aB.oK z9<|aB.nil) cL alo vY fun x y h=>(aof aC x).trans (ahq x y h)
def EP:az:=⟨100,Ij,anl,Ug,v5⟩
def Vu:bz:=
 (.seq
 (.af false [
 oX 4 (.mv (.k (.one (.v (.bool) (false)))))])
 (.seq
 (.seq
 (.af false [
 oX 7 (.mv 1),
 oX 8 (.len 7),
 oX 9 (.mv (kX 0))])
 (.join ⟨[],[]⟩ [] []
 (.block 0
 (.loop 0 ⟨[(0,sX),(7,.one (.c (.v (lX)))),(8,sX),(9,sX)],[]⟩ [] []
 (.seq
 (.af false [
 oX 10 (.bin .lss 9 8)])
 (.seq
 (.cond 10
 .skip
 (.exit 0))
 (.seq
 (.block 1
 (.seq
 (.af false [
 oX 11 (.cf 1 7 9),
 oX 12 (.load false 1 11),
 oX 6 (.mv 12)])
 (.seq
 (.af false [
 oX 13 (.mv 6),
 oX 14 (.bin .lss 13 (kX 0)),
 oX 15 (.mv 14),
 ⟨(some 16),.mv 6,(some (15,false))⟩,
 ⟨(some 17),.mv 0,(some (15,false))⟩,
 ⟨(some 18),.bin .geq 16 17,(some (15,false))⟩,
 oX 19 (.pick 15 (.k (.one (.v (.bool) (true)))) 18)])
 (.cond 19
 (.seq
 (.af false [
 oX 4 (.mv (.k (.one (.v (.bool) (false)))))])
 .ret)
 .skip))))
 (.af false [
 oX 20 (.bin .add 9 (kX 1)),
 oX 9 (.mv 20)]))))))))
 (.seq
 (.af false [
 oX 4 (.mv (.k (.one (.v (.bool) (true)))))])
 .ret)))
def Sm:List bD:=[.tmp 4]
theorem aot (NN:Nat) (x:aV (ao.aU Ij)):dH NN [] Vu Sm Ij Ug x=MH NN x:=by kernel_rfl
theorem alC:cj pX 100 Vu.er Sm 2=true:=by decide+kernel
theorem acq:dj pX 100 EP.M/\bH pX 100=true:=
  dN (T:=[]) (sc:=Vu) (ms:=Sm) (args:=Ij) (aF:=Ug) (aB.nil) cL alC v5 fun x y h=>(aot aC x).trans (ahE x y h)
def yS:az:=⟨62,HN,amY,TQ,rM⟩
def U5:bz:=
 (.seq
 (.af false [
 oX 3 (.box 3 1),
 oX 4 (.mv (.k (.one (.v (.bool) (false)))))])
 (.seq
 (.seq
 (.af false [
 oX 5 (.mv 0),
 oX 6 (.call .ae 60 [5]),
 oX 7 (.un .not 6),
 oX 8 (.mv 7),
 ⟨(some 9),.aw 0 3,(some (8,false))⟩,
 ⟨(some 10),.load false 1 9,(some (8,false))⟩,
 ⟨(some 11),.bin .lss 10 (kX 0),(some (8,false))⟩,
 oX 12 (.pick 8 (.k (.one (.v (.bool) (true)))) 11),
 oX 13 (.mv 12),
 ⟨(some 14),.aw 1 3,(some (13,false))⟩,
 ⟨(some 15),.load false 1 14,(some (13,false))⟩,
 ⟨(some 16),.bin .lss 15 (kX 0),(some (13,false))⟩,
 oX 17 (.pick 13 (.k (.one (.v (.bool) (true)))) 16),
 oX 18 (.mv 17),
 ⟨(some 19),.aw 0 3,(some (18,false))⟩,
 ⟨(some 20),.load false 1 19,(some (18,false))⟩,
 ⟨(some 21),.bin .gtr 20 (kX 64),(some (18,false))⟩,
 oX 22 (.pick 18 (.k (.one (.v (.bool) (true)))) 21),
 oX 23 (.mv 22),
 ⟨(some 24),.aw 1 3,(some (23,false))⟩,
 ⟨(some 25),.load false 1 24,(some (23,false))⟩,
 ⟨(some 26),.bin .gtr 25 (kX 64),(some (23,false))⟩,
 oX 27 (.pick 23 (.k (.one (.v (.bool) (true)))) 26)])
 (.cond 27
 (.seq
 (.af false [
 oX 4 (.mv (.k (.one (.v (.bool) (false)))))])
 .ret)
 .skip))
 (.seq
 (.af false [
 oX 28 (.aw 2 3),
 oX 29 (.load false 1 28),
 oX 30 (.len 29),
 oX 31 (.aw 0 3),
 oX 32 (.load false 1 31),
 oX 33 (.aw 1 3),
 oX 34 (.load false 1 33),
 oX 35 (.bin .mul 32 34),
 oX 36 (.bin .eql 30 35),
 oX 37 (.mv 36),
 ⟨(some 38),.mv 0,(some (37,true))⟩,
 ⟨(some 39),.aw 2 3,(some (37,true))⟩,
 ⟨(some 40),.load false 1 39,(some (37,true))⟩,
 ⟨(some 41),.call .ae 100 [38,40],(some (37,true))⟩,
 oX 42 (.pick 37 41 (.k (.one (.v (.bool) (false))))),
 oX 4 (.mv 42)])
 .ret)))
def RW:List bD:=[.tmp 4]
theorem an4 (NN:Nat) (x:aV (ao.aU HN)):dH NN [uL,EP] U5 RW HN TQ x=Mt NN x:=by kernel_rfl
theorem alc:cj pX 62 U5.er RW 2=true:=by decide+kernel
theorem Tf:dj pX 62 yS.M/\bH pX 62=true:=
  dN (T:=[uL,EP]) (sc:=U5) (ms:=RW) (args:=HN) (aF:=TQ) (aB.cons K4<|aB.cons acq<|aB.nil) cL alc rM fun x y h=>(an4 aC x).trans (ahf x y h)
def pJ:az:=⟨74,HP,amZ,TS,ki⟩
def U7:bz:=
 (.seq
 (.af false [
 oX 3 (.box 3 0),
 oX 6 (.mv (kX 0))])
 (.seq
 (.af false [
 oX 7 (.aw 2 3),
 oX 8 (.load false 1 7),
 oX 9 (.mv 1),
 oX 10 (.aw 1 3),
 oX 11 (.load false 1 10),
 oX 12 (.bin .mul 9 11),
 oX 13 (.mv 2),
 oX 14 (.bin .add 12 13),
 oX 15 (.cf 1 8 14),
 oX 16 (.load false 1 15),
 oX 6 (.mv 16)])
 .ret))
def RY:List bD:=[.tmp 6]
theorem an6 (NN:Nat) (x:aV (ao.aU HP)):dH NN [] U7 RY HP TS x=G8 NN x:=by kernel_rfl
theorem ale:cj pX 74 U7.er RY 3=true:=by decide+kernel
theorem C6:dj pX 74 pJ.M/\bH pX 74=true:=
  dN (T:=[]) (sc:=U7) (ms:=RY) (args:=HP) (aF:=TS) (aB.nil) cL ale ki fun x y h=>(an6 aC x).trans (ahh x y h)
def ER:az:=⟨73,Ir,anq,Um,ye⟩
def VA:bz:=
 (.seq
 (.af false [
 oX 4 (.box 3 1),
 oX 5 (.box 3 2),
 oX 6 (.alloc [zX,zX,.nil iX])])
 (.seq
 (.af false [
 oX 12 (.aw 0 4),
 oX 13 (.load false 1 12),
 oX 14 (.aw 1 5),
 oX 15 (.load false 1 14),
 oX 16 (.call .ae 71 [13,15]),
 oX 7 (.alloc [zX,zX,.nil iX]),
 uX (.store 3 7 16)])
 (.seq
 (.seq
 (.af false [
 oX 8 (.mv (kX 0))])
 (.join ⟨[(7,.one (rX 7)),(6,.one (rX 6))],[(6,.box [vX,vX,fX 500012 1]),(7,.box [vX,vX,fX 500013 1]),(500012,.row true .ae iX),(500013,.row true .ae iX)]⟩ [4,5,6,7,500000,500001,500012,500013] [(true,6,2,500012,.ae,[]),(true,7,2,500013,.ae,[])]
 (.block 0
 (.loop 0 ⟨[(0,sX),(4,.one (rX 4)),(5,.one (rX 5)),(6,.one (rX 6)),(7,.one (rX 7)),(8,sX)],[(4,.box [vX,vX,.c (.v (lX))]),(5,.box [vX,vX,.c (.v (lX))]),(6,.box [vX,vX,fX 500000 1]),(7,.box [vX,vX,fX 500001 1]),(500000,.row true .ae iX),(500001,.row true .ae iX)]⟩ [4,5,6,17000,7,500000,500001,500010,500011] [(true,6,2,500000,.ae,[]),(true,7,2,500001,.ae,[])]
 (.seq
 (.seq
 (.af false [
 oX 17 (.mv 8),
 oX 18 (.aw 0 4),
 oX 19 (.load false 1 18),
 oX 20 (.bin .lss 17 19)])
 (.cond 20
 .skip
 (.exit 0)))
 (.seq
 (.join ⟨[(8,sX),(0,sX),(4,.one (rX 4)),(5,.one (rX 5)),(6,.one (rX 6)),(7,.one (rX 7))],[(4,.box [vX,vX,.c (.v (lX))]),(5,.box [vX,vX,.c (.v (lX))]),(6,.box [vX,vX,fX 500010 1]),(7,.box [vX,vX,fX 500011 1]),(500010,.row true .ae iX),(500011,.row true .ae iX)]⟩ [4,5,6,7,500002,500003,500010,500011] [(true,6,2,500010,.ae,[]),(true,7,2,500011,.ae,[])]
 (.block 1
 (.seq
 (.af false [
 oX 9 (.mv (kX 0))])
 (.block 2
 (.loop 0 ⟨[(0,sX),(4,.one (rX 4)),(5,.one (rX 5)),(6,.one (rX 6)),(7,.one (rX 7)),(8,sX),(9,sX)],[(4,.box [vX,vX,.c (.v (lX))]),(5,.box [vX,vX,.c (.v (lX))]),(6,.box [vX,vX,fX 500002 1]),(7,.box [vX,vX,fX 500003 1]),(500002,.row true .ae iX),(500003,.row true .ae iX)]⟩ [4,5,6,7,500000,500001,500002,500003,500008,500009] [(true,6,2,500002,.ae,[]),(true,7,2,500003,.ae,[])]
 (.seq
 (.seq
 (.af false [
 oX 23 (.mv 9),
 oX 24 (.aw 1 5),
 oX 25 (.load false 1 24),
 oX 26 (.bin .lss 23 25)])
 (.cond 26
 .skip
 (.exit 2)))
 (.seq
 (.join ⟨[(9,sX),(0,sX),(4,.one (rX 4)),(5,.one (rX 5)),(6,.one (rX 6)),(7,.one (rX 7)),(8,sX)],[(4,.box [vX,vX,.c (.v (lX))]),(5,.box [vX,vX,.c (.v (lX))]),(6,.box [vX,vX,fX 500008 1]),(7,.box [vX,vX,fX 500009 1]),(500008,.row true .ae iX),(500009,.row true .ae iX)]⟩ [4,5,6,7,500006,500007,500008,500009] [(true,6,2,500008,.ae,[]),(true,7,2,500009,.ae,[])]
 (.block 3
 (.seq
 (.af false [
 oX 10 (.mv (kX 0))])
 (.seq
 (.seq
 (.af false [
 oX 11 (.mv (kX 0))])
 (.join ⟨[(10,sX),(9,sX),(0,sX),(4,.one (rX 4)),(5,.one (rX 5)),(6,.one (rX 6)),(7,.one (rX 7)),(8,sX)],[(4,.box [vX,vX,.c (.v (lX))]),(5,.box [vX,vX,.c (.v (lX))]),(6,.box [vX,vX,fX 500006 1]),(7,.box [vX,vX,fX 500007 1]),(500006,.row true .ae iX),(500007,.row true .ae iX)]⟩ [4,5,6,7,500004,500005,500006,500007] [(true,6,2,500006,.ae,[]),(true,7,2,500007,.ae,[])]
 (.block 4
 (.loop 0 ⟨[(0,sX),(4,.one (rX 4)),(5,.one (rX 5)),(6,.one (rX 6)),(7,.one (rX 7)),(8,sX),(9,sX),(10,sX),(11,sX)],[(4,.box [vX,vX,.c (.v (lX))]),(5,.box [vX,vX,.c (.v (lX))]),(6,.box [vX,vX,fX 500004 1]),(7,.box [vX,vX,fX 500005 1]),(500004,.row true .ae iX),(500005,.row true .ae iX)]⟩ [4,5,6,7,500002,500003,500004,500005] [(true,6,2,500004,.ae,[]),(true,7,2,500005,.ae,[])]
 (.seq
 (.seq
 (.af false [
 oX 29 (.mv 11),
 oX 30 (.aw 1 4),
 oX 31 (.load false 1 30),
 oX 32 (.bin .lss 29 31)])
 (.cond 32
 .skip
 (.exit 4)))
 (.seq
 (.block 5
 (.af true [
 oX 35 (.mv 10),
 oX 36 (.load true 3 4),
 oX 37 (.mv 8),
 oX 38 (.mv 11),
 oX 39 (.call .ae 74 [36,37,38]),
 oX 40 (.load true 3 5),
 oX 41 (.mv 11),
 oX 42 (.mv 9),
 oX 43 (.call .ae 74 [40,41,42]),
 oX 44 (.bin .mul 39 43),
 oX 45 (.bin .add 35 44),
 oX 46 (.mv 0),
 oX 47 (.bin .rem 45 46),
 oX 10 (.mv 47)]))
 (.af false [
 oX 33 (.mv 11),
 oX 34 (.bin .add 33 (kX 1)),
 oX 11 (.mv 34)])))))))
 (.af false [
 oX 48 (.load true 3 7),
 oX 49 (.mv 8),
 oX 50 (.mv 9),
 oX 51 (.mv 10),
 oX 52 (.fU .ae 72 [48,49,50,51])])))))
 (.af false [
 oX 27 (.mv 9),
 oX 28 (.bin .add 27 (kX 1)),
 oX 9 (.mv 28)]))))))))
 (.af false [
 oX 21 (.mv 8),
 oX 22 (.bin .add 21 (kX 1)),
 oX 8 (.mv 22)])))))))
 (.seq
 (.af false [
 oX 53 (.load true 3 7),
 uX (.store 3 6 53)])
 .ret))))
def Su:List bD:=[.cell 6 3 true]
theorem aoz (NN:Nat) (x:aV (ao.aU Ir)):dH NN [uM,pJ,nN] VA Su Ir Um x=Hf NN x:=by kernel_rfl
theorem alI:cj pX 73 VA.er Su 3=true:=by decide+kernel
theorem acs:dj pX 73 ER.M/\bH pX 73=true:=
  dN (T:=[uM,pJ,nN]) (sc:=VA) (ms:=Su) (args:=Ir) (aF:=Um) (aB.cons K5<|aB.cons C6<|aB.oK z9<|aB.nil) cL alI ye fun x y h=>(aoz aC x).trans (ahK x y h)
def Oh:az:=⟨30,HT,am0,TV,AP⟩
def Va:bz:=
 (.seq
 (.af false [
 oX 4 (.box 3 1),
 oX 5 (.box 3 2),
 oX 6 (.alloc [zX,zX,.nil iX]),
 oX 7 (.mv (.k (.one (.v (.bool) (false)))))])
 (.seq
 (.seq
 (.af false [
 oX 8 (.mv 0),
 oX 9 (.load true 3 4),
 oX 10 (.call .ae 62 [8,9]),
 oX 11 (.un .not 10),
 oX 12 (.mv 11),
 ⟨(some 13),.mv 0,(some (12,false))⟩,
 ⟨(some 14),.load true 3 5,(some (12,false))⟩,
 ⟨(some 15),.call .ae 62 [13,14],(some (12,false))⟩,
 ⟨(some 16),.un .not 15,(some (12,false))⟩,
 oX 17 (.pick 12 (.k (.one (.v (.bool) (true)))) 16),
 oX 18 (.mv 17),
 ⟨(some 19),.aw 1 4,(some (18,false))⟩,
 ⟨(some 20),.load false 1 19,(some (18,false))⟩,
 ⟨(some 21),.aw 0 5,(some (18,false))⟩,
 ⟨(some 22),.load false 1 21,(some (18,false))⟩,
 ⟨(some 23),.bin .neq 20 22,(some (18,false))⟩,
 oX 24 (.pick 18 (.k (.one (.v (.bool) (true)))) 23)])
 (.cond 24
 (.seq
 (.af false [
 oX 25 (.build [zX,zX,.nil iX] []),
 uX (.store 3 6 25),
 oX 7 (.mv (.k (.one (.v (.bool) (false)))))])
 .ret)
 .skip))
 (.seq
 (.af false [
 oX 26 (.mv 0),
 oX 27 (.load true 3 4),
 oX 28 (.load true 3 5),
 oX 29 (.call .ae 73 [26,27,28]),
 uX (.store 3 6 29),
 oX 7 (.mv (.k (.one (.v (.bool) (true)))))])
 .ret)))
def R1:List bD:=[.cell 6 3 true,.tmp 7]
theorem an9 (NN:Nat) (x:aV (ao.aU HT)):dH NN [yS,ER] Va R1 HT TV x=XE NN x:=by kernel_rfl
theorem alh:cj pX 30 Va.er R1 3=true:=by decide+kernel
theorem apy:dj pX 30 Oh.M/\bH pX 30=true:=
  dN (T:=[yS,ER]) (sc:=Va) (ms:=R1) (args:=HT) (aF:=TV) (aB.cons Tf<|aB.cons acs<|aB.nil) cL alh AP fun x y h=>(an9 aC x).trans (ahk x y h)
def OK:az:=⟨61,Ix,anw,Ut,yg⟩
def VG:bz:=
 (.seq
 (.af false [
 oX 3 (.box 4 1),
 oX 4 (.mv (.k (.one (.v (.bool) (false)))))])
 (.seq
 (.seq
 (.af false [
 oX 5 (.aw 0 3),
 oX 6 (.load false 1 5),
 oX 7 (.bin .lss 6 (kX 0)),
 oX 8 (.mv 7),
 ⟨(some 9),.aw 0 3,(some (8,false))⟩,
 ⟨(some 10),.load false 1 9,(some (8,false))⟩,
 ⟨(some 11),.bin .gtr 10 (kX 32),(some (8,false))⟩,
 oX 12 (.pick 8 (.k (.one (.v (.bool) (true)))) 11),
 oX 13 (.mv 12),
 ⟨(some 14),.aw 2 3,(some (13,false))⟩,
 ⟨(some 15),.load false 1 14,(some (13,false))⟩,
 ⟨(some 16),.bin .lss 15 (kX 0),(some (13,false))⟩,
 oX 17 (.pick 13 (.k (.one (.v (.bool) (true)))) 16),
 oX 18 (.mv 17),
 ⟨(some 19),.aw 2 3,(some (18,false))⟩,
 ⟨(some 20),.load false 1 19,(some (18,false))⟩,
 ⟨(some 21),.bin .gtr 20 (kX 32),(some (18,false))⟩,
 oX 22 (.pick 18 (.k (.one (.v (.bool) (true)))) 21),
 oX 23 (.mv 22),
 ⟨(some 24),.aw 1 3,(some (23,false))⟩,
 ⟨(some 25),.load false 1 24,(some (23,false))⟩,
 ⟨(some 26),.bin .lss 25 (kX 1),(some (23,false))⟩,
 oX 27 (.pick 23 (.k (.one (.v (.bool) (true)))) 26),
 oX 28 (.mv 27),
 ⟨(some 29),.aw 1 3,(some (28,false))⟩,
 ⟨(some 30),.load false 1 29,(some (28,false))⟩,
 ⟨(some 31),.bin .gtr 30 (kX 8),(some (28,false))⟩,
 oX 32 (.pick 28 (.k (.one (.v (.bool) (true)))) 31)])
 (.cond 32
 (.seq
 (.af false [
 oX 4 (.mv (.k (.one (.v (.bool) (false)))))])
 .ret)
 .skip))
 (.seq
 (.af false [
 oX 33 (.aw 3 3),
 oX 34 (.load false 1 33),
 oX 35 (.len 34),
 oX 36 (.aw 0 3),
 oX 37 (.load false 1 36),
 oX 38 (.aw 1 3),
 oX 39 (.load false 1 38),
 oX 40 (.bin .mul 37 39),
 oX 41 (.aw 2 3),
 oX 42 (.load false 1 41),
 oX 43 (.bin .mul 40 42),
 oX 44 (.bin .eql 35 43),
 oX 45 (.mv 44),
 ⟨(some 46),.mv 0,(some (45,true))⟩,
 ⟨(some 47),.aw 3 3,(some (45,true))⟩,
 ⟨(some 48),.load false 1 47,(some (45,true))⟩,
 ⟨(some 49),.call .ae 100 [46,48],(some (45,true))⟩,
 oX 50 (.pick 45 49 (.k (.one (.v (.bool) (false))))),
 oX 4 (.mv 50)])
 .ret)))
def SA:List bD:=[.tmp 4]
theorem aoF (NN:Nat) (x:aV (ao.aU Ix)):dH NN [EP] VG SA Ix Ut x=MR NN x:=by kernel_rfl
theorem alO:cj pX 61 VG.er SA 2=true:=by decide+kernel
theorem apX:dj pX 61 OK.M/\bH pX 61=true:=
  dN (T:=[EP]) (sc:=VG) (ms:=SA) (args:=Ix) (aF:=Ut) (aB.cons acq<|aB.nil) cL alO yg fun x y h=>(aoF aC x).trans (ahQ x y h)
def EO:az:=⟨21,HJ,amU,TM,sR⟩
def U1:bz:=
 (.seq
 (.af false [
 oX 1 (.box 2 0),
 oX 2 (.mv (.k (.one (.v (.bool) (false)))))])
 (.seq
 (.seq
 (.af false [
 oX 7 (.aw 0 1),
 oX 8 (.load false 1 7),
 oX 9 (.call .ae 60 [8]),
 oX 10 (.un .not 9),
 oX 11 (.mv 10),
 ⟨(some 12),.aw 1 1,(some (11,false))⟩,
 ⟨(some 13),.load false 1 12,(some (11,false))⟩,
 ⟨(some 14),.len 13,(some (11,false))⟩,
 ⟨(some 15),.bin .lss 14 (kX 1),(some (11,false))⟩,
 oX 16 (.pick 11 (.k (.one (.v (.bool) (true)))) 15),
 oX 17 (.mv 16),
 ⟨(some 18),.aw 1 1,(some (17,false))⟩,
 ⟨(some 19),.load false 1 18,(some (17,false))⟩,
 ⟨(some 20),.len 19,(some (17,false))⟩,
 ⟨(some 21),.bin .gtr 20 (kX 8),(some (17,false))⟩,
 oX 22 (.pick 17 (.k (.one (.v (.bool) (true)))) 21)])
 (.cond 22
 (.seq
 (.af false [
 oX 2 (.mv (.k (.one (.v (.bool) (false)))))])
 .ret)
 .skip))
 (.seq
 (.af false [
 oX 3 (.mv (kX 1)),
 oX 4 (.mv (kX 1))])
 (.seq
 (.seq
 (.af false [
 oX 23 (.aw 1 1),
 oX 24 (.load false 1 23),
 oX 25 (.len 24),
 oX 26 (.mv (kX 0))])
 (.join ⟨[(3,sX),(4,sX)],[]⟩ [1] []
 (.block 0
 (.loop 0 ⟨[(1,.one (rX 1)),(3,sX),(4,sX),(24,.one (.c (.v (.list gX)))),(25,sX),(26,sX)],[(1,.box [vX,.c (.v (.list gX))])]⟩ [1,6] []
 (.seq
 (.af false [
 oX 27 (.bin .lss 26 25)])
 (.seq
 (.cond 27
 .skip
 (.exit 0))
 (.seq
 (.block 1
 (.seq
 (.af false [
 oX 28 (.cf 4 24 26),
 oX 29 (.load true 4 28),
 oX 6 (.alloc [zX,zX,zX,.nil iX]),
 uX (.store 4 6 29)])
 (.seq
 (.seq
 (.af false [
 oX 30 (.aw 0 1),
 oX 31 (.load false 1 30),
 oX 32 (.load true 4 6),
 oX 33 (.call .ae 61 [31,32]),
 oX 34 (.un .not 33),
 oX 35 (.mv 34),
 ⟨(some 36),.aw 0 6,(some (35,false))⟩,
 ⟨(some 37),.load false 1 36,(some (35,false))⟩,
 ⟨(some 38),.mv 3,(some (35,false))⟩,
 ⟨(some 39),.bin .neq 37 38,(some (35,false))⟩,
 oX 40 (.pick 35 (.k (.one (.v (.bool) (true)))) 39)])
 (.cond 40
 (.seq
 (.af false [
 oX 2 (.mv (.k (.one (.v (.bool) (false)))))])
 .ret)
 .skip))
 (.seq
 (.af false [
 oX 41 (.aw 2 6),
 oX 42 (.load false 1 41),
 oX 3 (.mv 42)])
 (.af false [
 oX 43 (.mv 4),
 oX 44 (.aw 1 6),
 oX 45 (.load false 1 44),
 oX 46 (.bin .mul 43 45),
 oX 4 (.mv 46)])))))
 (.af false [
 oX 47 (.bin .add 26 (kX 1)),
 oX 26 (.mv 47)]))))))))
 (.seq
 (.af false [
 oX 48 (.mv 3),
 oX 49 (.bin .eql 48 (kX 1)),
 oX 50 (.mv 49),
 ⟨(some 51),.mv 4,(some (50,true))⟩,
 ⟨(some 52),.bin .leq 51 (kX 4096),(some (50,true))⟩,
 oX 53 (.pick 50 52 (.k (.one (.v (.bool) (false))))),
 oX 2 (.mv 53)])
 .ret)))))
def RR:List bD:=[.tmp 2]
theorem an0 (NN:Nat) (x:aV (ao.aU HJ)):dH NN [uL,OK] U1 RR HJ TM x=Mq NN x:=by kernel_rfl
theorem ak8:cj pX 21 U1.er RR 1=true:=by decide+kernel
theorem acp:dj pX 21 EO.M/\bH pX 21=true:=
  dN (T:=[uL,OK]) (sc:=U1) (ms:=RR) (args:=HJ) (aF:=TM) (aB.cons K4<|aB.cons apX<|aB.nil) cL ak8 sR fun x y h=>(an0 aC x).trans (ahb x y h)
def pK:az:=⟨47,H9,anc,T8,kj⟩
def Vm:bz:=
 (.seq
 (.af false [
 oX 2 (.mv (.k (.one (.nil iX))))])
 (.seq
 (.af false [
 oX 3 (.mv 0),
 oX 4 (.append true iX 8 (.k (.one (.nil iX))) 3),
 oX 2 (.mv 4)])
 .ret))
def Se:List bD:=[.tmp 2]
theorem aol (NN:Nat) (x:aV (ao.aU H9)):dH NN [] Vm Se H9 T8 x=MB NN x:=by kernel_rfl
theorem alu:cj pX 47 Vm.er Se 1=true:=by decide+kernel
theorem C7:dj pX 47 pK.M/\bH pX 47=true:=
  dN (T:=[]) (sc:=Vm) (ms:=Se) (args:=H9) (aF:=T8) (aB.nil) cL alu kj fun x y h=>(aol aC x).trans (ahw x y h)
def Ov:az:=⟨101,Ia,ane,T9,AX⟩
def Vn:bz:=
 (.seq
 (.af false [
 oX 1 (.box 3 0),
 oX 2 (.alloc [zX,zX,.nil iX])])
 (.seq
 (.af true [
 oX 3 (.aw 0 1),
 oX 4 (.load false 1 3),
 oX 5 (.aw 1 1),
 oX 6 (.load false 1 5),
 oX 7 (.aw 2 1),
 oX 8 (.load false 1 7),
 oX 9 (.call .ae 47 [8]),
 oX 10 (.build [zX,zX,.nil iX] [(0,1,4),(1,1,6),(2,1,9)]),
 uX (.store 3 2 10)])
 .ret))
def Sf:List bD:=[.cell 2 3 true]
theorem aom (NN:Nat) (x:aV (ao.aU Ia)):dH NN [pK] Vn Sf Ia T9 x=MC NN x:=by kernel_rfl
theorem alv:cj pX 101 Vn.er Sf 1=true:=by decide+kernel
theorem apJ:dj pX 101 Ov.M/\bH pX 101=true:=
  dN (T:=[pK]) (sc:=Vn) (ms:=Sf) (args:=Ia) (aF:=T9) (aB.cons C7<|aB.nil) cL alv AX fun x y h=>(aom aC x).trans (ahx x y h)
def Og:az:=⟨102,HS,KL,TU,AO⟩
def U9:bz:=
 (.seq
 (.af false [
 oX 3 (.box 3 0)])
 (.seq
 (.af false [
 oX 6 (.mv (kX 0))])
 (.block 0
 (.loop 0 ⟨[(1,sX),(2,sX),(3,.one (rX 3)),(6,sX)],[(1000000,.row false .ae iX),(3,.box [vX,vX,fX 1000000 1])]⟩ [1000000,3,500000] [(true,3,2,500000,.ae,[])]
 (.seq
 (.seq
 (.af false [
 oX 9 (.mv 6),
 oX 10 (.aw 1 3),
 oX 11 (.load false 1 10),
 oX 12 (.bin .lss 9 11)])
 (.cond 12
 .skip
 (.exit 0)))
 (.seq
 (.block 1
 (.seq
 (.af true [
 oX 15 (.load true 3 3),
 oX 16 (.mv 1),
 oX 17 (.mv 6),
 oX 18 (.call .ae 74 [15,16,17]),
 oX 19 (.load true 3 3),
 oX 20 (.mv 2),
 oX 21 (.mv 6),
 oX 22 (.call .ae 74 [19,20,21]),
 oX 7 (.mv 18),
 oX 8 (.mv 22)])
 (.seq
 (.af false [
 oX 23 (.load true 3 3),
 oX 24 (.mv 1),
 oX 25 (.mv 6),
 oX 26 (.mv 8),
 oX 27 (.fU .ae 72 [23,24,25,26])])
 (.af false [
 oX 28 (.load true 3 3),
 oX 29 (.mv 2),
 oX 30 (.mv 6),
 oX 31 (.mv 7),
 oX 32 (.fU .ae 72 [28,29,30,31])]))))
 (.af false [
 oX 13 (.mv 6),
 oX 14 (.bin .add 13 (kX 1)),
 oX 6 (.mv 14)])))))))
def R0:List bD:=[]
theorem an8 (NN:Nat) (x:aV (ao.aU HS)):vH NN [pJ,nN] U9 R0 HS KL TU x=Ha NN x:=by kernel_rfl
theorem alg:cj pX 102 U9.er R0 3=true:=by decide+kernel
theorem apx:qw pX 102 KL Og.MM/\bH pX 102=true:=
  zY (T:=[pJ,nN]) (sc:=U9) (ms:=R0) (args:=HS) (mu:=KL) (aF:=TU) (aB.cons C6<|aB.oK z9<|aB.nil) cL alg AO fun x y h=>(an8 aC x).trans (ahj x y h)
def OE:az:=⟨103,Iq,anp,Ul,A7⟩
def Vz:bz:=
 (.seq
 (.af false [
 oX 4 (.mv (kX 0))])
 (.seq
 (.af false [
 oX 5 (.mv (kX 1))])
 (.seq
 (.seq
 (.af false [
 oX 7 (.mv 0),
 oX 8 (.bin .sub 7 (kX 2)),
 oX 6 (.mv 8)])
 (.join ⟨[(5,sX)],[]⟩ [] []
 (.block 0
 (.loop 0 ⟨[(0,sX),(1,sX),(5,sX),(6,sX)],[]⟩ [] []
 (.seq
 (.seq
 (.af false [
 oX 9 (.mv 6),
 oX 10 (.bin .gtr 9 (kX 0))])
 (.cond 10
 .skip
 (.exit 0)))
 (.seq
 (.block 1
 (.seq
 (.seq
 (.af false [
 oX 13 (.mv 6),
 oX 14 (.bin .and 13 (kX 1)),
 oX 15 (.bin .eql 14 (kX 1))])
 (.join ⟨[(1,sX),(6,sX),(0,sX),(5,sX)],[]⟩ [] []
 (.cond 15
 (.af false [
 oX 16 (.mv 5),
 oX 17 (.mv 1),
 oX 18 (.bin .mul 16 17),
 oX 19 (.mv 0),
 oX 20 (.bin .rem 18 19),
 oX 5 (.mv 20)])
 .skip)))
 (.af false [
 oX 21 (.mv 1),
 oX 22 (.mv 1),
 oX 23 (.bin .mul 21 22),
 oX 24 (.mv 0),
 oX 25 (.bin .rem 23 24),
 oX 1 (.mv 25)])))
 (.af false [
 oX 11 (.mv 6),
 oX 12 (.bin .shr 11 (.k (.one (.v (.int .u64) ((1:Int)))))),
 oX 6 (.mv 12)])))))))
 (.seq
 (.af false [
 oX 26 (.mv 5),
 oX 4 (.mv 26)])
 .ret))))
def Ss:List bD:=[.tmp 4]
theorem aoy (NN:Nat) (x:aV (ao.aU Iq)):dH NN [] Vz Ss Iq Ul x=MN NN x:=by kernel_rfl
theorem alH:cj pX 103 Vz.er Ss 2=true:=by decide+kernel
theorem apS:dj pX 103 OE.M/\bH pX 103=true:=
  dN (T:=[]) (sc:=Vz) (ms:=Ss) (args:=Iq) (aF:=Ul) (aB.nil) cL alH A7 fun x y h=>(aoy aC x).trans (ahJ x y h)
def Of:az:=⟨104,HO,KJ,TR,x8⟩
def U6:bz:=
 (.seq
 (.af false [
 oX 5 (.box 3 0)])
 (.seq
 (.af false [
 oX 10 (.mv (kX 0))])
 (.block 0
 (.loop 0 ⟨[(1,sX),(2,sX),(3,sX),(4,sX),(5,.one (rX 5)),(10,sX)],[(1000000,.row false .ae iX),(5,.box [vX,vX,fX 1000000 1])]⟩ [1000000,5,500000] [(true,5,2,500000,.ae,[])]
 (.seq
 (.seq
 (.af false [
 oX 11 (.mv 10),
 oX 12 (.aw 1 5),
 oX 13 (.load false 1 12),
 oX 14 (.bin .lss 11 13)])
 (.cond 14
 .skip
 (.exit 0)))
 (.seq
 (.block 1
 (.af true [
 oX 17 (.load true 3 5),
 oX 18 (.mv 2),
 oX 19 (.mv 10),
 oX 20 (.load true 3 5),
 oX 21 (.mv 2),
 oX 22 (.mv 10),
 oX 23 (.call .ae 74 [20,21,22]),
 oX 24 (.mv 4),
 oX 25 (.load true 3 5),
 oX 26 (.mv 3),
 oX 27 (.mv 10),
 oX 28 (.call .ae 74 [25,26,27]),
 oX 29 (.bin .mul 24 28),
 oX 30 (.bin .add 23 29),
 oX 31 (.mv 1),
 oX 32 (.bin .rem 30 31),
 oX 33 (.fU .ae 72 [17,18,19,32])]))
 (.af false [
 oX 15 (.mv 10),
 oX 16 (.bin .add 15 (kX 1)),
 oX 10 (.mv 16)])))))))
def RX:List bD:=[]
theorem an5 (NN:Nat) (x:aV (ao.aU HO)):vH NN [pJ,nN] U6 RX HO KJ TR x=G7 NN x:=by kernel_rfl
theorem ald:cj pX 104 U6.er RX 5=true:=by decide+kernel
theorem apw:qw pX 104 KJ Of.MM/\bH pX 104=true:=
  zY (T:=[pJ,nN]) (sc:=U6) (ms:=RX) (args:=HO) (mu:=KJ) (aF:=TR) (aB.cons C6<|aB.oK z9<|aB.nil) cL ald x8 fun x y h=>(an5 aC x).trans (ahg x y h)
def OH:az:=⟨63,It,ans,Uo,yf⟩
def VC:bz:=
 (.seq
 (.af false [
 oX 3 (.box 3 1),
 oX 4 (.alloc [zX,zX,.nil iX]),
 oX 5 (.mv (.k (.one (.nil iX))))])
 (.seq
 (.af false [
 oX 14 (.load true 3 3),
 oX 15 (.call .ae 101 [14]),
 oX 6 (.alloc [zX,zX,.nil iX]),
 uX (.store 3 6 15)])
 (.seq
 (.af false [
 oX 7 (.mv (.k (.one (.nil iX))))])
 (.seq
 (.seq
 (.af false [
 oX 8 (.mv (kX 0))])
 (.join ⟨[(6,.one (rX 6)),(7,.one (fX 500026 1)),(4,.one (rX 4))],[(4,.box [vX,vX,fX 500024 1]),(6,.box [vX,vX,fX 500025 1]),(500024,.row true .ae iX),(500025,.row true .ae iX),(500026,.row true .ae iX)]⟩ [4,6,500000,500001,500002,500024,500025,500026] [(true,4,2,500024,.ae,[]),(true,6,2,500025,.ae,[]),(false,7,0,500026,.ae,[])]
 (.block 0
 (.loop 0 ⟨[(0,sX),(4,.one (rX 4)),(6,.one (rX 6)),(7,.one (fX 500002 1)),(8,sX)],[(4,.box [vX,vX,fX 500000 1]),(6,.box [vX,vX,fX 500001 1]),(500000,.row true .ae iX),(500001,.row true .ae iX),(500002,.row true .ae iX)]⟩ [3,4,16000,6,500000,500001,500002,500021,500022,500023] [(true,4,2,500000,.ae,[]),(true,6,2,500001,.ae,[]),(false,7,0,500002,.ae,[])]
 (.seq
 (.seq
 (.af false [
 oX 16 (.mv 8),
 oX 17 (.aw 1 6),
 oX 18 (.load false 1 17),
 oX 19 (.bin .lss 16 18)])
 (.cond 19
 .skip
 (.exit 0)))
 (.seq
 (.join ⟨[(8,sX),(0,sX),(4,.one (rX 4)),(6,.one (rX 6)),(7,.one (fX 500023 1))],[(4,.box [vX,vX,fX 500021 1]),(6,.box [vX,vX,fX 500022 1]),(500021,.row true .ae iX),(500022,.row true .ae iX),(500023,.row true .ae iX)]⟩ [4,6,99,100,500006,500007,500008,500018,500019,500021,500022,500023] [(true,4,2,500021,.ae,[]),(true,6,2,500022,.ae,[]),(false,7,0,500023,.ae,[])]
 (.block 1
 (.seq
 (.af false [
 oX 22 (.mv 7),
 oX 23 (.len 22),
 oX 9 (.mv 23)])
 (.seq
 (.af false [
 oX 24 (.mv 9),
 oX 10 (.mv 24)])
 (.seq
 (.join ⟨[(10,sX),(9,sX),(7,.one (fX 500008 1)),(8,sX),(0,sX),(4,.one (rX 4)),(6,.one (rX 6))],[(4,.box [vX,vX,fX 500006 1]),(6,.box [vX,vX,fX 500007 1]),(500006,.row true .ae iX),(500007,.row true .ae iX),(500008,.row true .ae iX)]⟩ [4,6,500003,500004,500005,500006,500007,500008] [(true,4,2,500006,.ae,[]),(true,6,2,500007,.ae,[]),(false,7,0,500008,.ae,[])]
 (.block 2
 (.loop 0 ⟨[(0,sX),(4,.one (rX 4)),(6,.one (rX 6)),(7,.one (fX 500005 1)),(8,sX),(9,sX),(10,sX)],[(4,.box [vX,vX,fX 500003 1]),(6,.box [vX,vX,fX 500004 1]),(500003,.row true .ae iX),(500004,.row true .ae iX),(500005,.row true .ae iX)]⟩ [4,6,500000,500001,500002,500003,500004,500005] [(true,4,2,500003,.ae,[]),(true,6,2,500004,.ae,[]),(false,7,0,500005,.ae,[])]
 (.seq
 (.seq
 (.af false [
 oX 25 (.mv 10),
 oX 26 (.aw 0 6),
 oX 27 (.load false 1 26),
 oX 28 (.bin .lss 25 27),
 oX 29 (.mv 28),
 ⟨(some 30),.load true 3 6,(some (29,true))⟩,
 ⟨(some 31),.mv 10,(some (29,true))⟩,
 ⟨(some 32),.mv 8,(some (29,true))⟩,
 ⟨(some 33),.call .ae 74 [30,31,32],(some (29,true))⟩,
 ⟨(some 34),.bin .eql 33 (kX 0),(some (29,true))⟩,
 oX 35 (.pick 29 34 (.k (.one (.v (.bool) (false)))))])
 (.cond 35
 .skip
 (.exit 2)))
 (.block 3
 (.af false [
 oX 36 (.mv 10),
 oX 37 (.bin .add 36 (kX 1)),
 oX 10 (.mv 37)]))))))
 (.seq
 (.seq
 (.af false [
 oX 38 (.mv 10),
 oX 39 (.aw 0 6),
 oX 40 (.load false 1 39),
 oX 41 (.bin .eql 38 40)])
 (.cond 41
 (.exit 1)
 .skip))
 (.seq
 (.af false [
 oX 42 (.load true 3 6),
 oX 43 (.mv 9),
 oX 44 (.mv 10),
 oX 45 (.fU .ae 102 [42,43,44])])
 (.seq
 (.af false [
 oX 46 (.mv 0),
 oX 47 (.load true 3 6),
 oX 48 (.mv 9),
 oX 49 (.mv 8),
 oX 50 (.call .ae 74 [47,48,49]),
 oX 51 (.call .ae 103 [46,50]),
 oX 11 (.mv 51)])
 (.seq
 (.seq
 (.af false [
 oX 12 (.mv (kX 0))])
 (.join ⟨[(6,.one (rX 6)),(4,.one (rX 4)),(0,sX),(8,sX),(7,.one (fX 500014 1)),(9,sX)],[(4,.box [vX,vX,fX 500012 1]),(6,.box [vX,vX,fX 500013 1]),(500012,.row true .ae iX),(500013,.row true .ae iX),(500014,.row true .ae iX)]⟩ [4,6,500009,500010,500011,500012,500013,500014] [(true,4,2,500012,.ae,[]),(true,6,2,500013,.ae,[]),(false,7,0,500014,.ae,[])]
 (.block 4
 (.loop 0 ⟨[(0,sX),(4,.one (rX 4)),(6,.one (rX 6)),(7,.one (fX 500011 1)),(8,sX),(9,sX),(11,sX),(12,sX)],[(4,.box [vX,vX,fX 500009 1]),(6,.box [vX,vX,fX 500010 1]),(500009,.row true .ae iX),(500010,.row true .ae iX),(500011,.row true .ae iX)]⟩ [4,6,500006,500007,500008,500009,500010,500011] [(true,4,2,500009,.ae,[]),(true,6,2,500010,.ae,[]),(false,7,0,500011,.ae,[])]
 (.seq
 (.seq
 (.af false [
 oX 52 (.mv 12),
 oX 53 (.aw 1 6),
 oX 54 (.load false 1 53),
 oX 55 (.bin .lss 52 54)])
 (.cond 55
 .skip
 (.exit 4)))
 (.seq
 (.block 5
 (.af true [
 oX 58 (.load true 3 6),
 oX 59 (.mv 9),
 oX 60 (.mv 12),
 oX 61 (.load true 3 6),
 oX 62 (.mv 9),
 oX 63 (.mv 12),
 oX 64 (.call .ae 74 [61,62,63]),
 oX 65 (.mv 11),
 oX 66 (.bin .mul 64 65),
 oX 67 (.mv 0),
 oX 68 (.bin .rem 66 67),
 oX 69 (.fU .ae 72 [58,59,60,68])]))
 (.af false [
 oX 56 (.mv 12),
 oX 57 (.bin .add 56 (kX 1)),
 oX 12 (.mv 57)])))))))
 (.seq
 (.seq
 (.af false [
 oX 13 (.mv (kX 0))])
 (.join ⟨[(7,.one (fX 500020 1)),(8,sX),(0,sX),(4,.one (rX 4)),(6,.one (rX 6))],[(4,.box [vX,vX,fX 500018 1]),(6,.box [vX,vX,fX 500019 1]),(500018,.row true .ae iX),(500019,.row true .ae iX),(500020,.row true .ae iX)]⟩ [4,6,500015,500016,500017,500018,500019,500020] [(true,4,2,500018,.ae,[]),(true,6,2,500019,.ae,[]),(false,7,0,500020,.ae,[])]
 (.block 6
 (.loop 0 ⟨[(0,sX),(4,.one (rX 4)),(6,.one (rX 6)),(7,.one (fX 500017 1)),(8,sX),(9,sX),(13,sX)],[(4,.box [vX,vX,fX 500015 1]),(6,.box [vX,vX,fX 500016 1]),(500015,.row true .ae iX),(500016,.row true .ae iX),(500017,.row true .ae iX)]⟩ [4,6,500012,500013,500014,500015,500016,500017] [(true,4,2,500015,.ae,[]),(true,6,2,500016,.ae,[]),(false,7,0,500017,.ae,[])]
 (.seq
 (.seq
 (.af false [
 oX 70 (.mv 13),
 oX 71 (.aw 0 6),
 oX 72 (.load false 1 71),
 oX 73 (.bin .lss 70 72)])
 (.cond 73
 .skip
 (.exit 6)))
 (.seq
 (.block 7
 (.seq
 (.af false [
 oX 76 (.mv 13),
 oX 77 (.mv 9),
 oX 78 (.bin .neq 76 77),
 oX 79 (.mv 78),
 ⟨(some 80),.load true 3 6,(some (79,true))⟩,
 ⟨(some 81),.mv 13,(some (79,true))⟩,
 ⟨(some 82),.mv 8,(some (79,true))⟩,
 ⟨(some 83),.call .ae 74 [80,81,82],(some (79,true))⟩,
 ⟨(some 84),.bin .neq 83 (kX 0),(some (79,true))⟩,
 oX 85 (.pick 79 84 (.k (.one (.v (.bool) (false)))))])
 (.cond 85
 (.af true [
 oX 86 (.load true 3 6),
 oX 87 (.mv 0),
 oX 88 (.mv 13),
 oX 89 (.mv 9),
 oX 90 (.mv 0),
 oX 91 (.load true 3 6),
 oX 92 (.mv 13),
 oX 93 (.mv 8),
 oX 94 (.call .ae 74 [91,92,93]),
 oX 95 (.bin .sub 90 94),
 oX 96 (.fU .ae 104 [86,87,88,89,95])])
 .skip)))
 (.af false [
 oX 74 (.mv 13),
 oX 75 (.bin .add 74 (kX 1)),
 oX 13 (.mv 75)])))))))
 (.af false [
 oX 97 (.mv 7),
 oX 98 (.mv 8),
 oX 99 (.gd iX [98]),
 oX 100 (.append true iX 8 97 99),
 oX 7 (.mv 100)])))))))))))
 (.af false [
 oX 20 (.mv 8),
 oX 21 (.bin .add 20 (kX 1)),
 oX 8 (.mv 21)])))))))
 (.seq
 (.af false [
 oX 101 (.load true 3 6),
 oX 102 (.mv 7),
 uX (.store 3 4 101),
 oX 5 (.mv 102)])
 .ret)))))
def Sw:List bD:=[.cell 4 3 true,.tmp 5]
theorem aoB (NN:Nat) (x:aV (ao.aU It)):dH NN [Ov,pJ,Og,OE,nN,Of] VC Sw It Uo x=Hh NN x:=by kernel_rfl
theorem alK:cj pX 63 VC.er Sw 2=true:=by decide+kernel
theorem apU:dj pX 63 OH.M/\bH pX 63=true:=
  dN (T:=[Ov,pJ,Og,OE,nN,Of]) (sc:=VC) (ms:=Sw) (args:=It) (aF:=Uo) (aB.cons apJ<|aB.cons C6<|aB.oK apx<|aB.cons apS<|aB.oK z9<|aB.oK apw<|aB.nil) cL alK yf fun x y h=>(aoB aC x).trans (ahM x y h)
def Oe:az:=⟨46,HL,amW,TO,x7⟩
def U3:bz:=
 (.seq
 (.af false [
 oX 3 (.box 3 1),
 oX 4 (.alloc [zX,zX,.nil iX]),
 oX 5 (.alloc [zX,zX,.nil iX]),
 oX 6 (.mv (.k (.one (.v (.bool) (false)))))])
 (.seq
 (.seq
 (.af false [
 oX 15 (.mv 0),
 oX 16 (.load true 3 3),
 oX 17 (.call .ae 62 [15,16]),
 oX 18 (.un .not 17)])
 (.cond 18
 (.seq
 (.af false [
 oX 19 (.build [zX,zX,.nil iX] []),
 oX 20 (.build [zX,zX,.nil iX] []),
 uX (.store 3 4 19),
 uX (.store 3 5 20),
 oX 6 (.mv (.k (.one (.v (.bool) (false)))))])
 .ret)
 .skip))
 (.seq
 (.af false [
 oX 22 (.mv 0),
 oX 23 (.load true 3 3),
 oX 24 (.call .ae 63 [22,23]),
 oX 21 (.mv 24),
 oX 25 (.ext 0 21),
 oX 26 (.ext 1 21),
 oX 7 (.alloc [zX,zX,.nil iX]),
 uX (.store 3 7 25),
 oX 8 (.mv 26)])
 (.seq
 (.af false [
 oX 27 (.mv 8),
 oX 28 (.len 27),
 oX 9 (.mv 28)])
 (.seq
 (.af false [
 oX 29 (.aw 0 3),
 oX 30 (.load false 1 29),
 oX 31 (.mv 9),
 oX 32 (.call .ae 71 [30,31]),
 oX 10 (.alloc [zX,zX,.nil iX]),
 uX (.store 3 10 32)])
 (.seq
 (.seq
 (.af false [
 oX 11 (.mv (kX 0))])
 (.join ⟨[(7,.one (rX 7)),(9,sX),(3,.one (rX 3)),(10,.one (rX 10)),(4,.one (rX 4)),(5,.one (rX 5))],[(3,.box [vX,vX,.c (.v (lX))]),(4,.box [vX,vX,fX 500015 1]),(5,.box [vX,vX,fX 500016 1]),(7,.box [vX,vX,fX 500017 1]),(10,.box [vX,vX,fX 500018 1]),(500015,.row true .ae iX),(500016,.row true .ae iX),(500017,.row true .ae iX),(500018,.row true .ae iX)]⟩ [3,4,5,7,10,500000,500001,500002,500003,500004,500015,500016,500017,500018] [(true,4,2,500015,.ae,[]),(true,5,2,500016,.ae,[]),(true,7,2,500017,.ae,[]),(true,10,2,500018,.ae,[])]
 (.block 0
 (.loop 0 ⟨[(3,.one (rX 3)),(4,.one (rX 4)),(5,.one (rX 5)),(7,.one (rX 7)),(8,.one (fX 500004 1)),(9,sX),(10,.one (rX 10)),(11,sX)],[(3,.box [vX,vX,.c (.v (lX))]),(4,.box [vX,vX,fX 500000 1]),(5,.box [vX,vX,fX 500001 1]),(7,.box [vX,vX,fX 500002 1]),(10,.box [vX,vX,fX 500003 1]),(500000,.row true .ae iX),(500001,.row true .ae iX),(500002,.row true .ae iX),(500003,.row true .ae iX),(500004,.row true .ae iX)]⟩ [3,4,5,25000,25001,7,33000,10,500000,500001,500002,500003,500004,500010,500011,500012,500013,500014] [(true,4,2,500000,.ae,[]),(true,5,2,500001,.ae,[]),(true,7,2,500002,.ae,[]),(true,10,2,500003,.ae,[]),(false,8,0,500004,.ae,[])]
 (.seq
 (.seq
 (.af false [
 oX 33 (.mv 11),
 oX 34 (.aw 0 3),
 oX 35 (.load false 1 34),
 oX 36 (.bin .lss 33 35)])
 (.cond 36
 .skip
 (.exit 0)))
 (.seq
 (.join ⟨[(11,sX),(3,.one (rX 3)),(4,.one (rX 4)),(5,.one (rX 5)),(7,.one (rX 7)),(8,.one (fX 500014 1)),(9,sX),(10,.one (rX 10))],[(3,.box [vX,vX,.c (.v (lX))]),(4,.box [vX,vX,fX 500010 1]),(5,.box [vX,vX,fX 500011 1]),(7,.box [vX,vX,fX 500012 1]),(10,.box [vX,vX,fX 500013 1]),(500010,.row true .ae iX),(500011,.row true .ae iX),(500012,.row true .ae iX),(500013,.row true .ae iX),(500014,.row true .ae iX)]⟩ [3,4,5,7,10,500005,500006,500007,500008,500009,500010,500011,500012,500013,500014] [(true,4,2,500010,.ae,[]),(true,5,2,500011,.ae,[]),(true,7,2,500012,.ae,[]),(true,10,2,500013,.ae,[]),(false,8,0,500014,.ae,[])]
 (.block 1
 (.seq
 (.af false [
 oX 39 (.mv 8),
 oX 40 (.len 39),
 oX 41 (.mv (kX 0))])
 (.block 2
 (.loop 0 ⟨[(3,.one (rX 3)),(4,.one (rX 4)),(5,.one (rX 5)),(7,.one (rX 7)),(8,.one (fX 500009 1)),(9,sX),(10,.one (rX 10)),(11,sX),(39,.one (fX 500009 1)),(40,sX),(41,sX)],[(3,.box [vX,vX,.c (.v (lX))]),(4,.box [vX,vX,fX 500005 1]),(5,.box [vX,vX,fX 500006 1]),(7,.box [vX,vX,fX 500007 1]),(10,.box [vX,vX,fX 500008 1]),(500005,.row true .ae iX),(500006,.row true .ae iX),(500007,.row true .ae iX),(500008,.row true .ae iX),(500009,.row true .ae iX)]⟩ [3,4,5,7,10,500000,500001,500002,500003,500004,500005,500006,500007,500008,500009] [(true,4,2,500005,.ae,[]),(true,5,2,500006,.ae,[]),(true,7,2,500007,.ae,[]),(true,10,2,500008,.ae,[]),(false,8,0,500009,.ae,[])]
 (.seq
 (.af false [
 oX 42 (.bin .lss 41 40)])
 (.seq
 (.cond 42
 .skip
 (.exit 2))
 (.seq
 (.block 3
 (.seq
 (.af false [
 oX 43 (.mv 41),
 oX 44 (.cf 1 39 41),
 oX 45 (.load false 1 44),
 oX 12 (.mv 43),
 oX 13 (.mv 45)])
 (.af true [
 oX 46 (.load true 3 10),
 oX 47 (.mv 11),
 oX 48 (.mv 12),
 oX 49 (.load true 3 3),
 oX 50 (.mv 11),
 oX 51 (.mv 13),
 oX 52 (.call .ae 74 [49,50,51]),
 oX 53 (.fU .ae 72 [46,47,48,52])])))
 (.af false [
 oX 54 (.bin .add 41 (kX 1)),
 oX 41 (.mv 54)])))))))))
 (.af false [
 oX 37 (.mv 11),
 oX 38 (.bin .add 37 (kX 1)),
 oX 11 (.mv 38)])))))))
 (.seq
 (.af true [
 oX 55 (.mv 9),
 oX 56 (.aw 1 3),
 oX 57 (.load false 1 56),
 oX 58 (.aw 2 7),
 oX 59 (.load false 1 58),
 oX 60 (.mv 9),
 oX 61 (.aw 1 3),
 oX 62 (.load false 1 61),
 oX 63 (.bin .mul 60 62),
 oX 64 (.slice 1 59 none (some 63)),
 oX 65 (.call .ae 47 [64]),
 oX 66 (.build [zX,zX,.nil iX] [(0,1,55),(1,1,57),(2,1,65)]),
 oX 14 (.alloc [zX,zX,.nil iX]),
 uX (.store 3 14 66)])
 (.seq
 (.pi [(1,2)] [
 oX 67 (.load true 3 10),
 oX 68 (.load true 3 14),
 uX (.store 3 4 67),
 uX (.store 3 5 68),
 oX 6 (.mv (.k (.one (.v (.bool) (true)))))])
 .ret))))))))
def RT:List bD:=[.cell 4 3 true,.cell 5 3 true,.tmp 6]
theorem an2 (NN:Nat) (x:aV (ao.aU HL)):dH NN [yS,OH,uM,pJ,nN,pK] U3 RT HL TO x=DZ NN x:=by kernel_rfl
theorem ala:cj pX 46 U3.er RT 2=true:=by decide+kernel
theorem apv:dj pX 46 Oe.M/\bH pX 46=true:=
  dN (T:=[yS,OH,uM,pJ,nN,pK]) (sc:=U3) (ms:=RT) (args:=HL) (aF:=TO) (aB.cons Tf<|aB.cons apU<|aB.cons K5<|aB.cons C6<|aB.oK z9<|aB.cons C7<|aB.nil) cL ala x7 fun x y h=>(an2 aC x).trans (ahd x y h)
def Ou:az:=⟨68,H8,anb,T7,AW⟩
def Vl:bz:=
 (.seq
 (.af false [
 oX 1 (.box 2 0),
 oX 2 (.alloc [zX,.nil gX])])
 (.seq
 (.af false [
 oX 6 (.aw 0 1),
 oX 7 (.load false 1 6),
 oX 8 (.build [zX,.nil gX] [(0,1,7)]),
 oX 3 (.alloc [zX,.nil gX]),
 uX (.store 2 3 8)])
 (.seq
 (.seq
 (.af false [
 oX 9 (.aw 1 1),
 oX 10 (.load false 1 9),
 oX 11 (.len 10),
 oX 12 (.mv (kX 0))])
 (.join ⟨[(3,.one (rX 3)),(2,.one (rX 2))],[(2,.box [vX,fX 500002 4]),(3,.box [vX,fX 500003 4]),(500002,.row true .ae gX),(500003,.row true .ae gX)]⟩ [2,3,500000,500001,500002,500003] [(true,2,1,500002,.ae,[]),(true,3,1,500003,.ae,[])]
 (.block 0
 (.loop 0 ⟨[(2,.one (rX 2)),(3,.one (rX 3)),(10,.one (.c (.v (.list gX)))),(11,sX),(12,sX)],[(2,.box [vX,fX 500000 4]),(3,.box [vX,fX 500001 4]),(500000,.row true .ae gX),(500001,.row true .ae gX)]⟩ [1,2,3,5,29,500000,500001] [(true,2,1,500000,.ae,[]),(true,3,1,500001,.ae,[])]
 (.seq
 (.af false [
 oX 13 (.bin .lss 12 11)])
 (.seq
 (.cond 13
 .skip
 (.exit 0))
 (.seq
 (.block 1
 (.seq
 (.af false [
 oX 14 (.cf 4 10 12),
 oX 15 (.load true 4 14),
 oX 5 (.alloc [zX,zX,zX,.nil iX]),
 uX (.store 4 5 15)])
 (.pi [(0,12),(1,12)] [
 oX 16 (.aw 1 3),
 oX 17 (.load false 1 16),
 oX 18 (.aw 0 5),
 oX 19 (.load false 1 18),
 oX 20 (.aw 1 5),
 oX 21 (.load false 1 20),
 oX 22 (.aw 2 5),
 oX 23 (.load false 1 22),
 oX 24 (.aw 3 5),
 oX 25 (.load false 1 24),
 oX 26 (.call .ae 47 [25]),
 oX 27 (.build [zX,zX,zX,.nil iX] [(0,1,19),(1,1,21),(2,1,23),(3,1,26)]),
 oX 28 (.gd gX [27]),
 oX 29 (.append false gX 48 17 28),
 oX 30 (.aw 1 3),
 uX (.store 1 30 29)])))
 (.af false [
 oX 31 (.bin .add 12 (kX 1)),
 oX 12 (.mv 31)]))))))))
 (.seq
 (.af false [
 oX 32 (.load true 2 3),
 uX (.store 2 2 32)])
 .ret))))
def Sd:List bD:=[.cell 2 2 true]
theorem aok (NN:Nat) (x:aV (ao.aU H8)):dH NN [pK] Vl Sd H8 T7 x=MA NN x:=by kernel_rfl
theorem alt:cj pX 68 Vl.er Sd 1=true:=by decide+kernel
theorem apI:dj pX 68 Ou.M/\bH pX 68=true:=
  dN (T:=[pK]) (sc:=Vl) (ms:=Sd) (args:=H8) (aF:=T7) (aB.cons C7<|aB.nil) cL alt AW fun x y h=>(aok aC x).trans (ahv x y h)
def Oc:az:=⟨31,HI,amT,TL,vV⟩
def U0:bz:=
 (.seq
 (.af false [
 oX 3 (.box 2 0),
 oX 5 (.box 3 2),
 oX 6 (.alloc [zX,.nil gX]),
 oX 7 (.mv (.k (.one (.v (.bool) (false)))))])
 (.seq
 (.seq
 (.af false [
 oX 23 (.load true 2 3),
 oX 24 (.call .ae 21 [23]),
 oX 25 (.un .not 24),
 oX 26 (.mv 25),
 ⟨(some 27),.mv 1,(some (26,false))⟩,
 ⟨(some 28),.bin .lss 27 (kX 0),(some (26,false))⟩,
 oX 29 (.pick 26 (.k (.one (.v (.bool) (true)))) 28),
 oX 30 (.mv 29),
 ⟨(some 31),.mv 1,(some (30,false))⟩,
 ⟨(some 32),.aw 1 3,(some (30,false))⟩,
 ⟨(some 33),.load false 1 32,(some (30,false))⟩,
 ⟨(some 34),.len 33,(some (30,false))⟩,
 ⟨(some 35),.bin .sub 34 (kX 1),(some (30,false))⟩,
 ⟨(some 36),.bin .geq 31 35,(some (30,false))⟩,
 oX 37 (.pick 30 (.k (.one (.v (.bool) (true)))) 36),
 oX 38 (.mv 37),
 ⟨(some 39),.aw 0 3,(some (38,false))⟩,
 ⟨(some 40),.load false 1 39,(some (38,false))⟩,
 ⟨(some 41),.load true 3 5,(some (38,false))⟩,
 ⟨(some 42),.call .ae 62 [40,41],(some (38,false))⟩,
 ⟨(some 43),.un .not 42,(some (38,false))⟩,
 oX 44 (.pick 38 (.k (.one (.v (.bool) (true)))) 43)])
 (.cond 44
 (.seq
 (.af false [
 oX 45 (.build [zX,.nil gX] []),
 uX (.store 2 6 45),
 oX 7 (.mv (.k (.one (.v (.bool) (false)))))])
 .ret)
 .skip))
 (.seq
 (.pi [(5,13),(6,13),(9,13),(10,13)] [
 oX 46 (.aw 1 3),
 oX 47 (.load false 1 46),
 oX 48 (.mv 1),
 oX 49 (.cf 4 47 48),
 oX 50 (.load true 4 49),
 oX 51 (.aw 1 3),
 oX 52 (.load false 1 51),
 oX 53 (.mv 1),
 oX 54 (.bin .add 53 (kX 1)),
 oX 55 (.cf 4 52 54),
 oX 56 (.load true 4 55),
 oX 8 (.alloc [zX,zX,zX,.nil iX]),
 oX 9 (.alloc [zX,zX,zX,.nil iX]),
 uX (.store 4 8 50),
 uX (.store 4 9 56)])
 (.seq
 (.seq
 (.af false [
 oX 57 (.aw 0 5),
 oX 58 (.load false 1 57),
 oX 59 (.aw 1 8),
 oX 60 (.load false 1 59),
 oX 61 (.aw 1 9),
 oX 62 (.load false 1 61),
 oX 63 (.bin .mul 60 62),
 oX 64 (.bin .neq 58 63),
 oX 65 (.mv 64),
 ⟨(some 66),.aw 1 5,(some (65,false))⟩,
 ⟨(some 67),.load false 1 66,(some (65,false))⟩,
 ⟨(some 68),.aw 1 8,(some (65,false))⟩,
 ⟨(some 69),.load false 1 68,(some (65,false))⟩,
 ⟨(some 70),.aw 1 9,(some (65,false))⟩,
 ⟨(some 71),.load false 1 70,(some (65,false))⟩,
 ⟨(some 72),.bin .mul 69 71,(some (65,false))⟩,
 ⟨(some 73),.bin .neq 67 72,(some (65,false))⟩,
 oX 74 (.pick 65 (.k (.one (.v (.bool) (true)))) 73)])
 (.cond 74
 (.seq
 (.af false [
 oX 75 (.build [zX,.nil gX] []),
 uX (.store 2 6 75),
 oX 7 (.mv (.k (.one (.v (.bool) (false)))))])
 .ret)
 .skip))
 (.seq
 (.af true [
 oX 76 (.aw 0 8),
 oX 77 (.load false 1 76),
 oX 78 (.aw 1 8),
 oX 79 (.load false 1 78),
 oX 80 (.bin .mul 77 79),
 oX 81 (.aw 1 9),
 oX 82 (.load false 1 81),
 oX 83 (.aw 2 9),
 oX 84 (.load false 1 83),
 oX 85 (.bin .mul 82 84),
 oX 10 (.mv 80),
 oX 11 (.mv 85)])
 (.seq
 (.seq
 (.af false [
 oX 86 (.mv 10),
 oX 87 (.bin .gtr 86 (kX 64)),
 oX 88 (.mv 87),
 ⟨(some 89),.mv 11,(some (88,false))⟩,
 ⟨(some 90),.bin .gtr 89 (kX 64),(some (88,false))⟩,
 oX 91 (.pick 88 (.k (.one (.v (.bool) (true)))) 90)])
 (.cond 91
 (.seq
 (.af false [
 oX 92 (.build [zX,.nil gX] []),
 uX (.store 2 6 92),
 oX 7 (.mv (.k (.one (.v (.bool) (false)))))])
 .ret)
 .skip))
 (.seq
 (.af false [
 oX 93 (.aw 0 3),
 oX 94 (.load false 1 93),
 oX 95 (.mv 10),
 oX 96 (.aw 2 8),
 oX 97 (.load false 1 96),
 oX 98 (.aw 3 8),
 oX 99 (.load false 1 98),
 oX 100 (.build [zX,zX,.nil iX] [(0,1,95),(1,1,97),(2,1,99)]),
 oX 101 (.aw 0 9),
 oX 102 (.load false 1 101),
 oX 103 (.mv 11),
 oX 104 (.aw 3 9),
 oX 105 (.load false 1 104),
 oX 106 (.build [zX,zX,.nil iX] [(0,1,102),(1,1,103),(2,1,105)]),
 oX 107 (.call .ae 73 [94,100,106]),
 oX 12 (.alloc [zX,zX,.nil iX]),
 uX (.store 3 12 107)])
 (.seq
 (.af false [
 oX 108 (.mv 10),
 oX 109 (.mv 11),
 oX 110 (.call .ae 71 [108,109]),
 oX 13 (.alloc [zX,zX,.nil iX]),
 uX (.store 3 13 110)])
 (.seq
 (.seq
 (.af false [
 oX 14 (.mv (kX 0))])
 (.join ⟨[(13,.one (rX 13)),(3,.one (rX 3)),(8,.one (rX 8)),(1,sX),(9,.one (rX 9)),(6,.one (rX 6))],[(3,.box [vX,.c (.v (.list gX))]),(6,.box [vX,fX 500024 4]),(8,.box [vX,vX,vX,.c (.v (lX))]),(9,.box [vX,vX,vX,.c (.v (lX))]),(13,.box [vX,vX,fX 500025 1]),(500024,.row true .ae gX),(500025,.row true .ae iX)]⟩ [3,5,6,8,9,12,13,500000,500001,500002,500024,500025] [(true,6,1,500024,.ae,[]),(true,13,2,500025,.ae,[])]
 (.block 0
 (.loop 0 ⟨[(1,sX),(3,.one (rX 3)),(5,.one (rX 5)),(6,.one (rX 6)),(8,.one (rX 8)),(9,.one (rX 9)),(12,.one (rX 12)),(13,.one (rX 13)),(14,sX)],[(3,.box [vX,.c (.v (.list gX))]),(5,.box [vX,vX,.c (.v (lX))]),(6,.box [vX,fX 500000 4]),(8,.box [vX,vX,vX,.c (.v (lX))]),(9,.box [vX,vX,vX,.c (.v (lX))]),(12,.box [vX,vX,fX 500001 1]),(13,.box [vX,vX,fX 500002 1]),(500000,.row true .ae gX),(500001,.row true .ae iX),(500002,.row true .ae iX)]⟩ [3,5,6,8,9,108000,12,111000,13,500000,500001,500002,500021,500022,500023] [(true,6,1,500000,.ae,[]),(true,12,2,500001,.ae,[]),(true,13,2,500002,.ae,[])]
 (.seq
 (.seq
 (.af false [
 oX 111 (.mv 14),
 oX 112 (.aw 0 8),
 oX 113 (.load false 1 112),
 oX 114 (.bin .lss 111 113)])
 (.cond 114
 .skip
 (.exit 0)))
 (.seq
 (.join ⟨[(14,sX),(1,sX),(3,.one (rX 3)),(5,.one (rX 5)),(6,.one (rX 6)),(8,.one (rX 8)),(9,.one (rX 9)),(12,.one (rX 12)),(13,.one (rX 13))],[(3,.box [vX,.c (.v (.list gX))]),(5,.box [vX,vX,.c (.v (lX))]),(6,.box [vX,fX 500021 4]),(8,.box [vX,vX,vX,.c (.v (lX))]),(9,.box [vX,vX,vX,.c (.v (lX))]),(12,.box [vX,vX,fX 500022 1]),(13,.box [vX,vX,fX 500023 1]),(500021,.row true .ae gX),(500022,.row true .ae iX),(500023,.row true .ae iX)]⟩ [3,5,6,8,9,12,13,500003,500004,500005,500021,500022,500023] [(true,6,1,500021,.ae,[]),(true,12,2,500022,.ae,[]),(true,13,2,500023,.ae,[])]
 (.block 1
 (.seq
 (.af false [
 oX 15 (.mv (kX 0))])
 (.block 2
 (.loop 0 ⟨[(1,sX),(3,.one (rX 3)),(5,.one (rX 5)),(6,.one (rX 6)),(8,.one (rX 8)),(9,.one (rX 9)),(12,.one (rX 12)),(13,.one (rX 13)),(14,sX),(15,sX)],[(3,.box [vX,.c (.v (.list gX))]),(5,.box [vX,vX,.c (.v (lX))]),(6,.box [vX,fX 500003 4]),(8,.box [vX,vX,vX,.c (.v (lX))]),(9,.box [vX,vX,vX,.c (.v (lX))]),(12,.box [vX,vX,fX 500004 1]),(13,.box [vX,vX,fX 500005 1]),(500003,.row true .ae gX),(500004,.row true .ae iX),(500005,.row true .ae iX)]⟩ [3,5,6,8,9,12,13,500000,500001,500002,500003,500004,500005,500018,500019,500020] [(true,6,1,500003,.ae,[]),(true,12,2,500004,.ae,[]),(true,13,2,500005,.ae,[])]
 (.seq
 (.seq
 (.af false [
 oX 117 (.mv 15),
 oX 118 (.aw 2 9),
 oX 119 (.load false 1 118),
 oX 120 (.bin .lss 117 119)])
 (.cond 120
 .skip
 (.exit 2)))
 (.seq
 (.join ⟨[(15,sX),(1,sX),(3,.one (rX 3)),(5,.one (rX 5)),(6,.one (rX 6)),(8,.one (rX 8)),(9,.one (rX 9)),(12,.one (rX 12)),(13,.one (rX 13)),(14,sX)],[(3,.box [vX,.c (.v (.list gX))]),(5,.box [vX,vX,.c (.v (lX))]),(6,.box [vX,fX 500018 4]),(8,.box [vX,vX,vX,.c (.v (lX))]),(9,.box [vX,vX,vX,.c (.v (lX))]),(12,.box [vX,vX,fX 500019 1]),(13,.box [vX,vX,fX 500020 1]),(500018,.row true .ae gX),(500019,.row true .ae iX),(500020,.row true .ae iX)]⟩ [3,5,6,8,9,12,13,500006,500007,500008,500018,500019,500020] [(true,6,1,500018,.ae,[]),(true,12,2,500019,.ae,[]),(true,13,2,500020,.ae,[])]
 (.block 3
 (.seq
 (.af false [
 oX 16 (.mv (kX 0))])
 (.block 4
 (.loop 0 ⟨[(1,sX),(3,.one (rX 3)),(5,.one (rX 5)),(6,.one (rX 6)),(8,.one (rX 8)),(9,.one (rX 9)),(12,.one (rX 12)),(13,.one (rX 13)),(14,sX),(15,sX),(16,sX)],[(3,.box [vX,.c (.v (.list gX))]),(5,.box [vX,vX,.c (.v (lX))]),(6,.box [vX,fX 500006 4]),(8,.box [vX,vX,vX,.c (.v (lX))]),(9,.box [vX,vX,vX,.c (.v (lX))]),(12,.box [vX,vX,fX 500007 1]),(13,.box [vX,vX,fX 500008 1]),(500006,.row true .ae gX),(500007,.row true .ae iX),(500008,.row true .ae iX)]⟩ [3,5,6,8,9,12,13,500003,500004,500005,500006,500007,500008,500015,500016,500017] [(true,6,1,500006,.ae,[]),(true,12,2,500007,.ae,[]),(true,13,2,500008,.ae,[])]
 (.seq
 (.seq
 (.af false [
 oX 123 (.mv 16),
 oX 124 (.aw 0 5),
 oX 125 (.load false 1 124),
 oX 126 (.bin .lss 123 125)])
 (.cond 126
 .skip
 (.exit 4)))
 (.seq
 (.join ⟨[(16,sX),(1,sX),(3,.one (rX 3)),(5,.one (rX 5)),(6,.one (rX 6)),(8,.one (rX 8)),(9,.one (rX 9)),(12,.one (rX 12)),(13,.one (rX 13)),(14,sX),(15,sX)],[(3,.box [vX,.c (.v (.list gX))]),(5,.box [vX,vX,.c (.v (lX))]),(6,.box [vX,fX 500015 4]),(8,.box [vX,vX,vX,.c (.v (lX))]),(9,.box [vX,vX,vX,.c (.v (lX))]),(12,.box [vX,vX,fX 500016 1]),(13,.box [vX,vX,fX 500017 1]),(500015,.row true .ae gX),(500016,.row true .ae iX),(500017,.row true .ae iX)]⟩ [3,5,6,8,9,12,13,500012,500013,500014,500015,500016,500017] [(true,6,1,500015,.ae,[]),(true,12,2,500016,.ae,[]),(true,13,2,500017,.ae,[])]
 (.block 5
 (.seq
 (.af false [
 oX 17 (.mv (kX 0))])
 (.seq
 (.seq
 (.af false [
 oX 18 (.mv (kX 0))])
 (.join ⟨[(17,sX),(16,sX),(1,sX),(3,.one (rX 3)),(5,.one (rX 5)),(6,.one (rX 6)),(8,.one (rX 8)),(9,.one (rX 9)),(12,.one (rX 12)),(13,.one (rX 13)),(14,sX),(15,sX)],[(3,.box [vX,.c (.v (.list gX))]),(5,.box [vX,vX,.c (.v (lX))]),(6,.box [vX,fX 500012 4]),(8,.box [vX,vX,vX,.c (.v (lX))]),(9,.box [vX,vX,vX,.c (.v (lX))]),(12,.box [vX,vX,fX 500013 1]),(13,.box [vX,vX,fX 500014 1]),(500012,.row true .ae gX),(500013,.row true .ae iX),(500014,.row true .ae iX)]⟩ [3,5,6,8,9,12,13,500009,500010,500011,500012,500013,500014] [(true,6,1,500012,.ae,[]),(true,12,2,500013,.ae,[]),(true,13,2,500014,.ae,[])]
 (.block 6
 (.loop 0 ⟨[(1,sX),(3,.one (rX 3)),(5,.one (rX 5)),(6,.one (rX 6)),(8,.one (rX 8)),(9,.one (rX 9)),(12,.one (rX 12)),(13,.one (rX 13)),(14,sX),(15,sX),(16,sX),(17,sX),(18,sX)],[(3,.box [vX,.c (.v (.list gX))]),(5,.box [vX,vX,.c (.v (lX))]),(6,.box [vX,fX 500009 4]),(8,.box [vX,vX,vX,.c (.v (lX))]),(9,.box [vX,vX,vX,.c (.v (lX))]),(12,.box [vX,vX,fX 500010 1]),(13,.box [vX,vX,fX 500011 1]),(500009,.row true .ae gX),(500010,.row true .ae iX),(500011,.row true .ae iX)]⟩ [3,5,6,8,9,12,13,500006,500007,500008,500009,500010,500011] [(true,6,1,500009,.ae,[]),(true,12,2,500010,.ae,[]),(true,13,2,500011,.ae,[])]
 (.seq
 (.seq
 (.af false [
 oX 129 (.mv 18),
 oX 130 (.aw 1 5),
 oX 131 (.load false 1 130),
 oX 132 (.bin .lss 129 131)])
 (.cond 132
 .skip
 (.exit 6)))
 (.seq
 (.block 7
 (.af true [
 oX 135 (.mv 17),
 oX 136 (.load true 3 5),
 oX 137 (.mv 16),
 oX 138 (.mv 18),
 oX 139 (.call .ae 74 [136,137,138]),
 oX 140 (.load true 3 12),
 oX 141 (.mv 14),
 oX 142 (.aw 1 8),
 oX 143 (.load false 1 142),
 oX 144 (.bin .mul 141 143),
 oX 145 (.mv 18),
 oX 146 (.aw 1 9),
 oX 147 (.load false 1 146),
 oX 148 (.bin .quo 145 147),
 oX 149 (.bin .add 144 148),
 oX 150 (.mv 18),
 oX 151 (.aw 1 9),
 oX 152 (.load false 1 151),
 oX 153 (.bin .rem 150 152),
 oX 154 (.aw 2 9),
 oX 155 (.load false 1 154),
 oX 156 (.bin .mul 153 155),
 oX 157 (.mv 15),
 oX 158 (.bin .add 156 157),
 oX 159 (.call .ae 74 [140,149,158]),
 oX 160 (.bin .mul 139 159),
 oX 161 (.bin .add 135 160),
 oX 162 (.aw 0 3),
 oX 163 (.load false 1 162),
 oX 164 (.bin .rem 161 163),
 oX 17 (.mv 164)]))
 (.af false [
 oX 133 (.mv 18),
 oX 134 (.bin .add 133 (kX 1)),
 oX 18 (.mv 134)])))))))
 (.af true [
 oX 165 (.load true 3 13),
 oX 166 (.mv 14),
 oX 167 (.aw 1 8),
 oX 168 (.load false 1 167),
 oX 169 (.bin .mul 166 168),
 oX 170 (.mv 16),
 oX 171 (.aw 1 9),
 oX 172 (.load false 1 171),
 oX 173 (.bin .quo 170 172),
 oX 174 (.bin .add 169 173),
 oX 175 (.mv 16),
 oX 176 (.aw 1 9),
 oX 177 (.load false 1 176),
 oX 178 (.bin .rem 175 177),
 oX 179 (.aw 2 9),
 oX 180 (.load false 1 179),
 oX 181 (.bin .mul 178 180),
 oX 182 (.mv 15),
 oX 183 (.bin .add 181 182),
 oX 184 (.mv 17),
 oX 185 (.fU .ae 72 [165,174,183,184])])))))
 (.af false [
 oX 127 (.mv 16),
 oX 128 (.bin .add 127 (kX 1)),
 oX 16 (.mv 128)]))))))))
 (.af false [
 oX 121 (.mv 15),
 oX 122 (.bin .add 121 (kX 1)),
 oX 15 (.mv 122)]))))))))
 (.af false [
 oX 115 (.mv 14),
 oX 116 (.bin .add 115 (kX 1)),
 oX 14 (.mv 116)])))))))
 (.seq
 (.af false [
 oX 187 (.aw 0 3),
 oX 188 (.load false 1 187),
 oX 189 (.load true 3 13),
 oX 190 (.call .ae 46 [188,189]),
 oX 186 (.mv 190),
 oX 191 (.ext 0 186),
 oX 192 (.ext 1 186),
 oX 193 (.ext 2 186),
 oX 19 (.alloc [zX,zX,.nil iX]),
 oX 20 (.alloc [zX,zX,.nil iX]),
 uX (.store 3 19 191),
 uX (.store 3 20 192),
 oX 21 (.mv 193)])
 (.seq
 (.seq
 (.af false [
 oX 194 (.mv 21),
 oX 195 (.un .not 194)])
 (.cond 195
 (.seq
 (.af false [
 oX 196 (.build [zX,.nil gX] []),
 uX (.store 2 6 196),
 oX 7 (.mv (.k (.one (.v (.bool) (false)))))])
 .ret)
 .skip))
 (.seq
 (.af false [
 oX 197 (.load true 2 3),
 oX 198 (.call .ae 68 [197]),
 oX 22 (.alloc [zX,.nil gX]),
 uX (.store 2 22 198)])
 (.seq
 (.af false [
 oX 199 (.aw 1 22),
 oX 200 (.load false 1 199),
 oX 201 (.mv 1),
 oX 202 (.aw 0 8),
 oX 203 (.load false 1 202),
 oX 204 (.aw 1 8),
 oX 205 (.load false 1 204),
 oX 206 (.aw 1 19),
 oX 207 (.load false 1 206),
 oX 208 (.aw 2 19),
 oX 209 (.load false 1 208),
 oX 210 (.build [zX,zX,zX,.nil iX] [(0,1,203),(1,1,205),(2,1,207),(3,1,209)]),
 oX 211 (.cf 4 200 201),
 uX (.store 4 211 210)])
 (.seq
 (.af false [
 oX 212 (.aw 1 22),
 oX 213 (.load false 1 212),
 oX 214 (.mv 1),
 oX 215 (.bin .add 214 (kX 1)),
 oX 216 (.aw 0 20),
 oX 217 (.load false 1 216),
 oX 218 (.aw 1 9),
 oX 219 (.load false 1 218),
 oX 220 (.aw 2 9),
 oX 221 (.load false 1 220),
 oX 222 (.aw 2 20),
 oX 223 (.load false 1 222),
 oX 224 (.build [zX,zX,zX,.nil iX] [(0,1,217),(1,1,219),(2,1,221),(3,1,223)]),
 oX 225 (.cf 4 213 215),
 uX (.store 4 225 224)])
 (.seq
 (.seq
 (.af false [
 oX 226 (.load true 2 22),
 oX 227 (.call .ae 21 [226]),
 oX 228 (.un .not 227)])
 (.cond 228
 (.seq
 (.af false [
 oX 229 (.build [zX,.nil gX] []),
 uX (.store 2 6 229),
 oX 7 (.mv (.k (.one (.v (.bool) (false)))))])
 .ret)
 .skip))
 (.seq
 (.af false [
 oX 230 (.load true 2 22),
 uX (.store 2 6 230),
 oX 7 (.mv (.k (.one (.v (.bool) (true)))))])
 .ret))))))))))))))))
def RQ:List bD:=[.cell 6 2 true,.tmp 7]
theorem anZ (NN:Nat) (x:aV (ao.aU HI)):dH NN [EO,yS,ER,uM,pJ,nN,Oe,Ou] U0 RQ HI TL x=Mp NN x:=by kernel_rfl
theorem ak7:cj pX 31 U0.er RQ 3=true:=by decide+kernel
theorem apt:dj pX 31 Oc.M/\bH pX 31=true:=
  dN (T:=[EO,yS,ER,uM,pJ,nN,Oe,Ou]) (sc:=U0) (ms:=RQ) (args:=HI) (aF:=TL) (aB.cons acp<|aB.cons Tf<|aB.cons acs<|aB.cons K5<|aB.cons C6<|aB.oK z9<|aB.cons apv<|aB.cons apI<|aB.nil) cL ak7 vV fun x y h=>(anZ aC x).trans (aha x y h)
def Ot:az:=⟨56,H7,ana,T6,DV⟩
def Vk:bz:=
 (.seq
 (.af false [
 oX 1 (.box 2 0),
 oX 2 (.mv (.k (.one (.nil iX))))])
 (.seq
 (.af false [
 oX 3 (.mv (.k (.one (.nil iX))))])
 (.seq
 (.seq
 (.af false [
 oX 6 (.aw 1 1),
 oX 7 (.load false 1 6),
 oX 8 (.len 7),
 oX 9 (.mv (kX 0))])
 (.join ⟨[(3,.one (fX 500001 1))],[(500001,.row true .ae iX)]⟩ [500000,500001] [(false,3,0,500001,.ae,[])]
 (.block 0
 (.loop 0 ⟨[(3,.one (fX 500000 1)),(7,.one (.c (.v (.list gX)))),(8,sX),(9,sX)],[(500000,.row true .ae iX)]⟩ [1,5,16,17,500000] [(false,3,0,500000,.ae,[])]
 (.seq
 (.af false [
 oX 10 (.bin .lss 9 8)])
 (.seq
 (.cond 10
 .skip
 (.exit 0))
 (.seq
 (.block 1
 (.seq
 (.af false [
 oX 11 (.cf 4 7 9),
 oX 12 (.load true 4 11),
 oX 5 (.alloc [zX,zX,zX,.nil iX]),
 uX (.store 4 5 12)])
 (.af false [
 oX 13 (.mv 3),
 oX 14 (.aw 1 5),
 oX 15 (.load false 1 14),
 oX 16 (.gd iX [15]),
 oX 17 (.append true iX 8 13 16),
 oX 3 (.mv 17)])))
 (.af false [
 oX 18 (.bin .add 9 (kX 1)),
 oX 9 (.mv 18)]))))))))
 (.seq
 (.af false [
 oX 19 (.mv 3),
 oX 2 (.mv 19)])
 .ret))))
def Sc:List bD:=[.tmp 2]
theorem aoj (NN:Nat) (x:aV (ao.aU H7)):dH NN [] Vk Sc H7 T6 x=XF NN x:=by kernel_rfl
theorem als:cj pX 56 Vk.er Sc 1=true:=by decide+kernel
theorem apH:dj pX 56 Ot.M/\bH pX 56=true:=
  dN (T:=[]) (sc:=Vk) (ms:=Sc) (args:=H7) (aF:=T6) (aB.nil) cL als DV fun x y h=>(aoj aC x).trans (ahu x y h)
def Ol:az:=⟨97,HX,am4,TZ,x9⟩
def Ve:bz:=
 (.seq
 (.af false [
 oX 4 (.box 4 0),
 oX 8 (.mv (kX 0))])
 (.seq
 (.af false [
 oX 9 (.aw 3 4),
 oX 10 (.load false 1 9),
 oX 11 (.mv 1),
 oX 12 (.aw 1 4),
 oX 13 (.load false 1 12),
 oX 14 (.bin .mul 11 13),
 oX 15 (.mv 2),
 oX 16 (.bin .add 14 15),
 oX 17 (.aw 2 4),
 oX 18 (.load false 1 17),
 oX 19 (.bin .mul 16 18),
 oX 20 (.mv 3),
 oX 21 (.bin .add 19 20),
 oX 22 (.cf 1 10 21),
 oX 23 (.load false 1 22),
 oX 8 (.mv 23)])
 .ret))
def R6:List bD:=[.tmp 8]
theorem aod (NN:Nat) (x:aV (ao.aU HX)):dH NN [] Ve R6 HX TZ x=Mv NN x:=by kernel_rfl
theorem alm:cj pX 97 Ve.er R6 4=true:=by decide+kernel
theorem apC:dj pX 97 Ol.M/\bH pX 97=true:=
  dN (T:=[]) (sc:=Ve) (ms:=R6) (args:=HX) (aF:=TZ) (aB.nil) cL alm x9 fun x y h=>(aod aC x).trans (aho x y h)
def OC:az:=⟨57,Io,ann,Uj,yc⟩
def Vx:bz:=
 (.seq
 (.af false [
 oX 2 (.box 2 0),
 oX 4 (.mv (kX 0))])
 (.seq
 (.af false [
 oX 12 (.gd iX [(kX 1)]),
 oX 5 (.mv 12)])
 (.seq
 (.seq
 (.af false [
 oX 13 (.aw 1 2),
 oX 14 (.load false 1 13),
 oX 15 (.len 14),
 oX 16 (.mv (kX 0))])
 (.join ⟨[(5,.one (fX 500009 1))],[(500009,.row true .ae iX)]⟩ [2,500000,500009] [(false,5,0,500009,.ae,[])]
 (.block 0
 (.loop 0 ⟨[(1,.one (.c (.v (lX)))),(2,.one (rX 2)),(5,.one (fX 500000 1)),(14,.one (.c (.v (.list gX)))),(15,sX),(16,sX)],[(2,.box [vX,.c (.v (.list gX))]),(500000,.row true .ae iX)]⟩ [2,12,500000,500008] [(false,5,0,500000,.ae,[])]
 (.seq
 (.af false [
 oX 17 (.bin .lss 16 15)])
 (.seq
 (.cond 17
 .skip
 (.exit 0))
 (.seq
 (.join ⟨[(16,sX),(1,.one (.c (.v (lX)))),(2,.one (rX 2)),(5,.one (fX 500008 1)),(14,.one (.c (.v (.list gX)))),(15,sX)],[(2,.box [vX,.c (.v (.list gX))]),(500008,.row true .ae iX)]⟩ [2,500007,500008] [(false,5,0,500008,.ae,[])]
 (.block 1
 (.seq
 (.af false [
 oX 18 (.mv 16),
 oX 19 (.cf 4 14 16),
 oX 20 (.load true 4 19),
 oX 7 (.alloc [zX,zX,zX,.nil iX]),
 oX 6 (.mv 18),
 uX (.store 4 7 20)])
 (.seq
 (.af false [
 oX 21 (.aw 2 7),
 oX 22 (.load false 1 21),
 oX 23 (.kF .ae iX 8 (0:Int) 22 22),
 oX 8 (.mv 23)])
 (.seq
 (.seq
 (.af false [
 oX 24 (.mv 8),
 oX 25 (.len 24),
 oX 26 (.mv (kX 0))])
 (.join ⟨[(8,.one (fX 500007 1)),(16,sX),(1,.one (.c (.v (lX)))),(2,.one (rX 2)),(14,.one (.c (.v (.list gX)))),(15,sX)],[(2,.box [vX,.c (.v (.list gX))]),(500007,.row true .ae iX)]⟩ [2,7,500001,500002,500007] [(false,8,0,500007,.ae,[])]
 (.block 2
 (.loop 0 ⟨[(1,.one (.c (.v (lX)))),(2,.one (rX 2)),(5,.one (fX 500001 1)),(6,sX),(7,.one (rX 7)),(8,.one (fX 500002 1)),(14,.one (.c (.v (.list gX)))),(15,sX),(16,sX),(25,sX),(26,sX)],[(2,.box [vX,.c (.v (.list gX))]),(7,.box [vX,vX,vX,.c (.v (lX))]),(500001,.row true .ae iX),(500002,.row true .ae iX)]⟩ [2,7,23,500000,500001,500002,500005,500006] [(false,5,0,500001,.ae,[]),(false,8,0,500002,.ae,[])]
 (.seq
 (.af false [
 oX 27 (.bin .lss 26 25)])
 (.seq
 (.cond 27
 .skip
 (.exit 2))
 (.seq
 (.join ⟨[(26,sX),(1,.one (.c (.v (lX)))),(2,.one (rX 2)),(5,.one (fX 500005 1)),(6,sX),(7,.one (rX 7)),(8,.one (fX 500006 1)),(14,.one (.c (.v (.list gX)))),(15,sX),(16,sX),(25,sX)],[(2,.box [vX,.c (.v (.list gX))]),(7,.box [vX,vX,vX,.c (.v (lX))]),(500005,.row true .ae iX),(500006,.row true .ae iX)]⟩ [2,7,500003,500004,500005,500006] [(false,5,0,500005,.ae,[]),(false,8,0,500006,.ae,[])]
 (.block 3
 (.seq
 (.af false [
 oX 28 (.mv 26),
 oX 9 (.mv 28)])
 (.seq
 (.af false [
 oX 29 (.mv 5),
 oX 30 (.len 29),
 oX 31 (.mv (kX 0))])
 (.block 4
 (.loop 0 ⟨[(1,.one (.c (.v (lX)))),(2,.one (rX 2)),(5,.one (fX 500003 1)),(6,sX),(7,.one (rX 7)),(8,.one (fX 500004 1)),(9,sX),(14,.one (.c (.v (.list gX)))),(15,sX),(16,sX),(25,sX),(26,sX),(29,.one (fX 500003 1)),(30,sX),(31,sX)],[(2,.box [vX,.c (.v (.list gX))]),(7,.box [vX,vX,vX,.c (.v (lX))]),(500003,.row true .ae iX),(500004,.row true .ae iX)]⟩ [2,7,500001,500002,500003,500004] [(false,5,0,500003,.ae,[]),(false,8,0,500004,.ae,[])]
 (.seq
 (.af false [
 oX 32 (.bin .lss 31 30)])
 (.seq
 (.cond 32
 .skip
 (.exit 4))
 (.seq
 (.block 5
 (.seq
 (.af false [
 oX 33 (.mv 31),
 oX 34 (.cf 1 29 31),
 oX 35 (.load false 1 34),
 oX 10 (.mv 33),
 oX 11 (.mv 35)])
 (.af true [
 oX 36 (.mv 8),
 oX 37 (.mv 9),
 oX 38 (.mv 8),
 oX 39 (.mv 9),
 oX 40 (.cf 1 38 39),
 oX 41 (.load false 1 40),
 oX 42 (.mv 11),
 oX 43 (.load true 4 7),
 oX 44 (.mv 10),
 oX 45 (.mv 1),
 oX 46 (.mv 6),
 oX 47 (.cf 1 45 46),
 oX 48 (.load false 1 47),
 oX 49 (.mv 9),
 oX 50 (.call .ae 97 [43,44,48,49]),
 oX 51 (.bin .mul 42 50),
 oX 52 (.bin .add 41 51),
 oX 53 (.aw 0 2),
 oX 54 (.load false 1 53),
 oX 55 (.bin .rem 52 54),
 oX 56 (.cf 1 36 37),
 uX (.store 1 56 55)])))
 (.af false [
 oX 57 (.bin .add 31 (kX 1)),
 oX 31 (.mv 57)]))))))))))
 (.af false [
 oX 58 (.bin .add 26 (kX 1)),
 oX 26 (.mv 58)]))))))))
 (.af false [
 oX 59 (.mv 8),
 oX 5 (.mv 59)]))))))
 (.af false [
 oX 60 (.bin .add 16 (kX 1)),
 oX 16 (.mv 60)]))))))))
 (.seq
 (.af false [
 oX 61 (.mv 5),
 oX 62 (.cf 1 61 (kX 0)),
 oX 63 (.load false 1 62),
 oX 4 (.mv 63)])
 .ret))))
def Sq:List bD:=[.tmp 4]
theorem aow (NN:Nat) (x:aV (ao.aU Io)):dH NN [Ol] Vx Sq Io Uj x=MK NN x:=by kernel_rfl
theorem alF:cj pX 57 Vx.er Sq 2=true:=by decide+kernel
theorem apQ:dj pX 57 OC.M/\bH pX 57=true:=
  dN (T:=[Ol]) (sc:=Vx) (ms:=Sq) (args:=Io) (aF:=Uj) (aB.cons apC<|aB.nil) cL alF yc fun x y h=>(aow aC x).trans (ahH x y h)
def EQ:az:=⟨58,Il,KM,Ui,uk⟩
def Vw:bz:=
 (.seq
 (.af false [
 oX 4 (.mv (.k (.one (.v (.bool) (false)))))])
 (.seq
 (.seq
 (.af false [
 oX 6 (.mv 0),
 oX 7 (.len 6),
 oX 8 (.bin .sub 7 (kX 1)),
 oX 5 (.mv 8)])
 (.join ⟨[],[(1000000,.row false .ae iX)]⟩ [1000000] []
 (.block 0
 (.loop 0 ⟨[(0,.one (.c (.v (lX)))),(1,.one (fX 1000000 1)),(5,sX)],[(1000000,.row false .ae iX)]⟩ [1000000,500000] [(false,1,0,500000,.ae,[])]
 (.seq
 (.seq
 (.af false [
 oX 9 (.mv 5),
 oX 10 (.bin .geq 9 (kX 0))])
 (.cond 10
 .skip
 (.exit 0)))
 (.seq
 (.block 1
 (.seq
 (.af false [
 oX 13 (.mv 1),
 oX 14 (.mv 5),
 oX 15 (.cf 1 13 14),
 oX 16 (.load false 1 15),
 oX 17 (.bin .add 16 (kX 1)),
 oX 18 (.cf 1 13 14),
 uX (.store 1 18 17)])
 (.seq
 (.seq
 (.af true [
 oX 19 (.mv 1),
 oX 20 (.mv 5),
 oX 21 (.cf 1 19 20),
 oX 22 (.load false 1 21),
 oX 23 (.mv 0),
 oX 24 (.mv 5),
 oX 25 (.cf 1 23 24),
 oX 26 (.load false 1 25),
 oX 27 (.bin .lss 22 26)])
 (.cond 27
 (.seq
 (.af false [
 oX 4 (.mv (.k (.one (.v (.bool) (true)))))])
 .ret)
 .skip))
 (.af false [
 oX 28 (.mv 1),
 oX 29 (.mv 5),
 oX 30 (.cf 1 28 29),
 uX (.store 1 30 (kX 0))]))))
 (.af false [
 oX 11 (.mv 5),
 oX 12 (.bin .sub 11 (kX 1)),
 oX 5 (.mv 12)])))))))
 (.seq
 (.af false [
 oX 4 (.mv (.k (.one (.v (.bool) (false)))))])
 .ret)))
def So:List bD:=[.tmp 4]
theorem aov (NN:Nat) (x:aV (ao.aU Il)):vH NN [] Vw So Il KM Ui x=MJ NN x:=by kernel_rfl
theorem alE:cj pX 58 Vw.er So 2=true:=by decide+kernel
theorem acr:qw pX 58 KM EQ.MM/\bH pX 58=true:=
  zY (T:=[]) (sc:=Vw) (ms:=So) (args:=Il) (mu:=KM) (aF:=Ui) (aB.nil) cL alE uk fun x y h=>(aov aC x).trans (ahG x y h)
def Od:az:=⟨18,HK,amV,TN,sS⟩
def U2:bz:=
 (.seq
 (.af false [
 oX 1 (.box 2 0),
 oX 2 (.alloc [.nil iX,.nil iX,.nil iX])])
 (.seq
 (.seq
 (.af false [
 oX 6 (.load true 2 1),
 oX 7 (.call .ae 21 [6]),
 oX 8 (.un .not 7)])
 (.cond 8
 (.seq
 (.af false [
 oX 9 (.build [.nil iX,.nil iX,.nil iX] []),
 uX (.store 3 2 9)])
 .ret)
 .skip))
 (.seq
 (.af false [
 oX 10 (.load true 2 1),
 oX 11 (.call .ae 56 [10]),
 oX 12 (.build [.nil iX,.nil iX,.nil iX] [(1,1,11)]),
 oX 3 (.alloc [.nil iX,.nil iX,.nil iX]),
 uX (.store 3 3 12)])
 (.seq
 (.seq
 (.af false [
 oX 13 (.aw 1 1),
 oX 14 (.load false 1 13),
 oX 15 (.len 14),
 oX 16 (.mv (kX 0))])
 (.join ⟨[(3,.one (rX 3)),(2,.one (rX 2)),(1,.one (rX 1))],[(1,.box [vX,.c (.v (.list gX))]),(2,.box [fX 500006 1,fX 500007 1,fX 500008 1]),(3,.box [fX 500009 1,fX 500010 1,fX 500011 1]),(500006,.row true .ae iX),(500007,.row true .ae iX),(500008,.row true .ae iX),(500009,.row true .ae iX),(500010,.row true .ae iX),(500011,.row true .ae iX)]⟩ [1,2,3,500000,500001,500002,500003,500004,500005,500006,500007,500008,500009,500010,500011] [(true,2,0,500006,.ae,[]),(true,2,1,500007,.ae,[]),(true,2,2,500008,.ae,[]),(true,3,0,500009,.ae,[]),(true,3,1,500010,.ae,[]),(true,3,2,500011,.ae,[])]
 (.block 0
 (.loop 0 ⟨[(1,.one (rX 1)),(2,.one (rX 2)),(3,.one (rX 3)),(15,sX),(16,sX)],[(1,.box [vX,.c (.v (.list gX))]),(2,.box [fX 500000 1,fX 500001 1,fX 500002 1]),(3,.box [fX 500003 1,fX 500004 1,fX 500005 1]),(500000,.row true .ae iX),(500001,.row true .ae iX),(500002,.row true .ae iX),(500003,.row true .ae iX),(500004,.row true .ae iX),(500005,.row true .ae iX)]⟩ [1,2,12000,3,22,23,500000,500001,500002,500003,500004,500005] [(true,2,0,500000,.ae,[]),(true,2,1,500001,.ae,[]),(true,2,2,500002,.ae,[]),(true,3,0,500003,.ae,[]),(true,3,1,500004,.ae,[]),(true,3,2,500005,.ae,[])]
 (.seq
 (.af false [
 oX 17 (.bin .lss 16 15)])
 (.seq
 (.cond 17
 .skip
 (.exit 0))
 (.seq
 (.block 1
 (.seq
 (.af false [
 oX 18 (.mv 16),
 oX 4 (.mv 18)])
 (.af false [
 oX 19 (.aw 0 3),
 oX 20 (.load false 1 19),
 oX 21 (.mv 4),
 oX 22 (.gd iX [21]),
 oX 23 (.append true iX 8 20 22),
 oX 24 (.aw 0 3),
 uX (.store 1 24 23)])))
 (.af false [
 oX 25 (.bin .add 16 (kX 1)),
 oX 16 (.mv 25)]))))))))
 (.seq
 (.af false [
 oX 26 (.aw 1 3),
 oX 27 (.load false 1 26),
 oX 28 (.len 27),
 oX 29 (.kF .ae iX 8 (0:Int) 28 28),
 oX 5 (.mv 29)])
 (.block 2
 (.loop 0 ⟨[(1,.one (rX 1)),(2,.one (rX 2)),(3,.one (rX 3)),(5,.one (fX 500018 1))],[(1,.box [vX,.c (.v (.list gX))]),(2,.box [fX 500012 1,fX 500013 1,fX 500014 1]),(3,.box [fX 500015 1,fX 500016 1,fX 500017 1]),(500012,.row true .ae iX),(500013,.row true .ae iX),(500014,.row true .ae iX),(500015,.row true .ae iX),(500016,.row true .ae iX),(500017,.row true .ae iX),(500018,.row true .ae iX)]⟩ [1,2,3,29,35,36,500006,500007,500008,500009,500010,500011,500012,500013,500014,500015,500016,500017,500018] [(true,2,0,500012,.ae,[]),(true,2,1,500013,.ae,[]),(true,2,2,500014,.ae,[]),(true,3,0,500015,.ae,[]),(true,3,1,500016,.ae,[]),(true,3,2,500017,.ae,[]),(false,5,0,500018,.ae,[])]
 (.block 3
 (.seq
 (.pi [(0,5),(1,5)] [
 oX 30 (.aw 2 3),
 oX 31 (.load false 1 30),
 oX 32 (.load true 2 1),
 oX 33 (.mv 5),
 oX 34 (.call .ae 57 [32,33]),
 oX 35 (.gd iX [34]),
 oX 36 (.append true iX 8 31 35),
 oX 37 (.aw 2 3),
 uX (.store 1 37 36)])
 (.seq
 (.af false [
 oX 38 (.aw 1 3),
 oX 39 (.load false 1 38),
 oX 40 (.mv 5),
 oX 41 (.fU .ae 58 [39,40]),
 oX 42 (.un .not 41)])
 (.cond 42
 (.seq
 (.af false [
 oX 43 (.load true 3 3),
 uX (.store 3 2 43)])
 .ret)
 .skip)))))))))))
def RS:List bD:=[.cell 2 3 true]
theorem an1 (NN:Nat) (x:aV (ao.aU HK)):dH NN [EO,Ot,OC,EQ] U2 RS HK TN x=Mr NN x:=by kernel_rfl
theorem ak9:cj pX 18 U2.er RS 1=true:=by decide+kernel
theorem apu:dj pX 18 Od.M/\bH pX 18=true:=
  dN (T:=[EO,Ot,OC,EQ]) (sc:=U2) (ms:=RS) (args:=HK) (aF:=TN) (aB.cons acp<|aB.cons apH<|aB.cons apQ<|aB.oK acr<|aB.nil) cL ak9 sS fun x y h=>(an1 aC x).trans (ahc x y h)
def ON:az:=⟨28,IA,anB,Ux,v8⟩
def VK:bz:=
 (.seq
 (.af false [
 oX 4 (.mv (.k (.one (.v (.bool) (false)))))])
 (.seq
 (.seq
 (.af false [
 oX 7 (.mv 0),
 oX 8 (.len 7),
 oX 9 (.mv (kX 0))])
 (.join ⟨[(0,.one (.c (.v (lX)))),(1,.one (.c (.v (lX))))],[]⟩ [] []
 (.block 0
 (.loop 0 ⟨[(0,.one (.c (.v (lX)))),(1,.one (.c (.v (lX)))),(7,.one (.c (.v (lX)))),(8,sX),(9,sX)],[]⟩ [] []
 (.seq
 (.af false [
 oX 10 (.bin .lss 9 8)])
 (.seq
 (.cond 10
 .skip
 (.exit 0))
 (.seq
 (.block 1
 (.seq
 (.af false [
 oX 11 (.mv 9),
 oX 12 (.cf 1 7 9),
 oX 13 (.load false 1 12),
 oX 5 (.mv 11),
 oX 6 (.mv 13)])
 (.seq
 (.af false [
 oX 14 (.mv 5),
 oX 15 (.mv 1),
 oX 16 (.len 15),
 oX 17 (.bin .geq 14 16),
 oX 18 (.mv 17),
 ⟨(some 19),.mv 1,(some (18,false))⟩,
 ⟨(some 20),.mv 5,(some (18,false))⟩,
 ⟨(some 21),.cf 1 19 20,(some (18,false))⟩,
 ⟨(some 22),.load false 1 21,(some (18,false))⟩,
 ⟨(some 23),.mv 6,(some (18,false))⟩,
 ⟨(some 24),.bin .neq 22 23,(some (18,false))⟩,
 oX 25 (.pick 18 (.k (.one (.v (.bool) (true)))) 24)])
 (.cond 25
 (.seq
 (.af false [
 oX 4 (.mv (.k (.one (.v (.bool) (false)))))])
 .ret)
 .skip))))
 (.af false [
 oX 26 (.bin .add 9 (kX 1)),
 oX 9 (.mv 26)]))))))))
 (.seq
 (.af false [
 oX 27 (.mv 0),
 oX 28 (.len 27),
 oX 29 (.mv 1),
 oX 30 (.len 29),
 oX 31 (.bin .eql 28 30),
 oX 4 (.mv 31)])
 .ret)))
def SG:List bD:=[.tmp 4]
theorem aoJ (NN:Nat) (x:aV (ao.aU IA)):dH NN [] VK SG IA Ux x=Hk NN x:=by kernel_rfl
theorem alS:cj pX 28 VK.er SG 2=true:=by decide+kernel
theorem ap1:dj pX 28 ON.M/\bH pX 28=true:=
  dN (T:=[]) (sc:=VK) (ms:=SG) (args:=IA) (aF:=Ux) (aB.nil) cL alS v8 fun x y h=>(aoJ aC x).trans (ahU x y h)
def OO:az:=⟨22,IB,anC,Uy,Be⟩
def VL:bz:=
 (.seq
 (.af false [
 oX 2 (.box 3 0),
 oX 3 (.box 3 1),
 oX 4 (.mv (.k (.one (.v (.bool) (false)))))])
 (.seq
 (.af false [
 oX 5 (.aw 0 2),
 oX 6 (.load false 1 5),
 oX 7 (.aw 0 3),
 oX 8 (.load false 1 7),
 oX 9 (.call .ae 28 [6,8]),
 oX 10 (.mv 9),
 ⟨(some 11),.aw 1 2,(some (10,true))⟩,
 ⟨(some 12),.load false 1 11,(some (10,true))⟩,
 ⟨(some 13),.aw 1 3,(some (10,true))⟩,
 ⟨(some 14),.load false 1 13,(some (10,true))⟩,
 ⟨(some 15),.call .ae 28 [12,14],(some (10,true))⟩,
 oX 16 (.pick 10 15 (.k (.one (.v (.bool) (false))))),
 oX 17 (.mv 16),
 ⟨(some 18),.aw 2 2,(some (17,true))⟩,
 ⟨(some 19),.load false 1 18,(some (17,true))⟩,
 ⟨(some 20),.aw 2 3,(some (17,true))⟩,
 ⟨(some 21),.load false 1 20,(some (17,true))⟩,
 ⟨(some 22),.call .ae 28 [19,21],(some (17,true))⟩,
 oX 23 (.pick 17 22 (.k (.one (.v (.bool) (false))))),
 oX 4 (.mv 23)])
 .ret))
def SH:List bD:=[.tmp 4]
theorem aoK (NN:Nat) (x:aV (ao.aU IB)):dH NN [ON] VL SH IB Uy x=Hl NN x:=by kernel_rfl
theorem alT:cj pX 22 VL.er SH 2=true:=by decide+kernel
theorem ap2:dj pX 22 OO.M/\bH pX 22=true:=
  dN (T:=[ON]) (sc:=VL) (ms:=SH) (args:=IB) (aF:=Uy) (aB.cons ap1<|aB.nil) cL alT Be fun x y h=>(aoK aC x).trans (ahV x y h)
def Oj:az:=⟨88,HV,am2,TX,AR⟩
def Vc:bz:=
 (.seq
 (.af false [
 oX 1 (.box 3 0),
 oX 2 (.mv (.k (.one (.v (.bool) (false)))))])
 (.seq
 (.seq
 (.af false [
 oX 3 (.aw 0 1),
 oX 4 (.load false 1 3)])
 (.block 0
 (.seq
 (.af false [
 oX 6 (.bin .eql 4 (kX 1)),
 oX 5 (.mv 6)])
 (.cond 5
 (.seq
 (.af false [
 oX 7 (.aw 1 1),
 oX 8 (.load false 1 7),
 oX 9 (.bin .eql 8 (kX 0)),
 oX 10 (.mv 9),
 ⟨(some 11),.aw 2 1,(some (10,true))⟩,
 ⟨(some 12),.load false 1 11,(some (10,true))⟩,
 ⟨(some 13),.bin .eql 12 (kX 0),(some (10,true))⟩,
 oX 14 (.pick 10 13 (.k (.one (.v (.bool) (false))))),
 oX 2 (.mv 14)])
 .ret)
 (.seq
 (.af false [
 oX 16 (.bin .eql 4 (kX 2)),
 oX 15 (.mv 16)])
 (.cond 15
 (.seq
 (.af false [
 oX 17 (.aw 1 1),
 oX 18 (.load false 1 17),
 oX 19 (.call .ae 60 [18]),
 oX 20 (.mv 19),
 ⟨(some 21),.aw 2 1,(some (20,true))⟩,
 ⟨(some 22),.load false 1 21,(some (20,true))⟩,
 ⟨(some 23),.bin .eql 22 (kX 0),(some (20,true))⟩,
 oX 24 (.pick 20 23 (.k (.one (.v (.bool) (false))))),
 oX 2 (.mv 24)])
 .ret)
 (.seq
 (.seq
 (.af false [
 oX 26 (.bin .eql 4 (kX 3)),
 oX 25 (.mv 26)])
 (.join ⟨[(25,.one (.c (.v (.bool)))),(4,sX),(1,.one (rX 1))],[(1,.box [vX,vX,vX])]⟩ [1] []
 (.cond 25
 .skip
 (.seq
 (.af false [
 oX 27 (.bin .eql 4 (kX 4)),
 oX 25 (.mv 27)])
 (.cond 25
 .skip
 (.af false [
 oX 28 (.bin .eql 4 (kX 5)),
 oX 25 (.mv 28)]))))))
 (.cond 25
 (.seq
 (.af false [
 oX 29 (.aw 1 1),
 oX 30 (.load false 1 29),
 oX 31 (.bin .geq 30 (kX 1)),
 oX 32 (.mv 31),
 ⟨(some 33),.aw 1 1,(some (32,true))⟩,
 ⟨(some 34),.load false 1 33,(some (32,true))⟩,
 ⟨(some 35),.bin .leq 34 (kX 1000000),(some (32,true))⟩,
 oX 36 (.pick 32 35 (.k (.one (.v (.bool) (false))))),
 oX 37 (.mv 36),
 ⟨(some 38),.aw 2 1,(some (37,true))⟩,
 ⟨(some 39),.load false 1 38,(some (37,true))⟩,
 ⟨(some 40),.bin .eql 39 (kX 0),(some (37,true))⟩,
 oX 41 (.pick 37 40 (.k (.one (.v (.bool) (false))))),
 oX 2 (.mv 41)])
 .ret)
 (.seq
 (.af false [
 oX 43 (.bin .eql 4 (kX 6)),
 oX 42 (.mv 43)])
 (.cond 42
 (.seq
 (.af false [
 oX 44 (.aw 1 1),
 oX 45 (.load false 1 44),
 oX 46 (.bin .eql 45 (kX 0)),
 oX 47 (.mv 46),
 ⟨(some 48),.aw 2 1,(some (47,true))⟩,
 ⟨(some 49),.load false 1 48,(some (47,true))⟩,
 ⟨(some 50),.bin .geq 49 (kX 1),(some (47,true))⟩,
 oX 51 (.pick 47 50 (.k (.one (.v (.bool) (false))))),
 oX 52 (.mv 51),
 ⟨(some 53),.aw 2 1,(some (52,true))⟩,
 ⟨(some 54),.load false 1 53,(some (52,true))⟩,
 ⟨(some 55),.bin .leq 54 (kX 20),(some (52,true))⟩,
 oX 56 (.pick 52 55 (.k (.one (.v (.bool) (false))))),
 oX 2 (.mv 56)])
 .ret)
 (.seq
 (.af false [
 oX 58 (.bin .eql 4 (kX 7)),
 oX 57 (.mv 58)])
 (.cond 57
 (.seq
 (.af false [
 oX 59 (.aw 1 1),
 oX 60 (.load false 1 59),
 oX 61 (.call .ae 60 [60]),
 oX 62 (.mv 61),
 ⟨(some 63),.aw 2 1,(some (62,true))⟩,
 ⟨(some 64),.load false 1 63,(some (62,true))⟩,
 ⟨(some 65),.bin .geq 64 (kX 1),(some (62,true))⟩,
 oX 66 (.pick 62 65 (.k (.one (.v (.bool) (false))))),
 oX 67 (.mv 66),
 ⟨(some 68),.aw 2 1,(some (67,true))⟩,
 ⟨(some 69),.load false 1 68,(some (67,true))⟩,
 ⟨(some 70),.bin .leq 69 (kX 6),(some (67,true))⟩,
 oX 71 (.pick 67 70 (.k (.one (.v (.bool) (false))))),
 oX 2 (.mv 71)])
 .ret)
 (.seq
 (.af false [
 oX 73 (.bin .eql 4 (kX 8)),
 oX 72 (.mv 73)])
 (.cond 72
 (.seq
 (.af false [
 oX 74 (.aw 1 1),
 oX 75 (.load false 1 74),
 oX 76 (.call .ae 60 [75]),
 oX 77 (.mv 76),
 ⟨(some 78),.aw 1 1,(some (77,true))⟩,
 ⟨(some 79),.load false 1 78,(some (77,true))⟩,
 ⟨(some 80),.bin .neq 79 (kX 2),(some (77,true))⟩,
 oX 81 (.pick 77 80 (.k (.one (.v (.bool) (false))))),
 oX 82 (.mv 81),
 ⟨(some 83),.aw 2 1,(some (82,true))⟩,
 ⟨(some 84),.load false 1 83,(some (82,true))⟩,
 ⟨(some 85),.bin .eql 84 (kX 0),(some (82,true))⟩,
 oX 86 (.pick 82 85 (.k (.one (.v (.bool) (false))))),
 oX 2 (.mv 86)])
 .ret)
 .skip))))))))))))))
 (.seq
 (.af false [
 oX 2 (.mv (.k (.one (.v (.bool) (false)))))])
 .ret)))
def R4:List bD:=[.tmp 2]
theorem aob (NN:Nat) (x:aV (ao.aU HV)):dH NN [uL] Vc R4 HV TX x=Mu NN x:=by kernel_rfl
theorem alj:cj pX 88 Vc.er R4 1=true:=by decide+kernel
theorem apA:dj pX 88 Oj.M/\bH pX 88=true:=
  dN (T:=[uL]) (sc:=Vc) (ms:=R4) (args:=HV) (aF:=TX) (aB.cons K4<|aB.nil) cL alj AR fun x y h=>(aob aC x).trans (ahm x y h)
def OA:az:=⟨106,Ii,ank,Uf,yb⟩
def Vt:bz:=
 (.seq
 (.af false [
 oX 4 (.mv (.k (.one (.v (.bool) (false)))))])
 (.seq
 (.seq
 (.af false [
 oX 7 (.mv 0),
 oX 8 (.len 7),
 oX 9 (.mv (kX 0))])
 (.join ⟨[],[]⟩ [] []
 (.block 0
 (.loop 0 ⟨[(1,sX),(7,.one (.c (.v (lX)))),(8,sX),(9,sX)],[]⟩ [] []
 (.seq
 (.af false [
 oX 10 (.bin .lss 9 8)])
 (.seq
 (.cond 10
 .skip
 (.exit 0))
 (.seq
 (.block 1
 (.seq
 (.af false [
 oX 11 (.cf 1 7 9),
 oX 12 (.load false 1 11),
 oX 6 (.mv 12)])
 (.seq
 (.af false [
 oX 13 (.mv 1),
 oX 14 (.mv 6),
 oX 15 (.bin .eql 13 14)])
 (.cond 15
 (.seq
 (.af false [
 oX 4 (.mv (.k (.one (.v (.bool) (true)))))])
 .ret)
 .skip))))
 (.af false [
 oX 16 (.bin .add 9 (kX 1)),
 oX 9 (.mv 16)]))))))))
 (.seq
 (.af false [
 oX 4 (.mv (.k (.one (.v (.bool) (false)))))])
 .ret)))
def Sl:List bD:=[.tmp 4]
theorem aos (NN:Nat) (x:aV (ao.aU Ii)):dH NN [] Vt Sl Ii Uf x=MG NN x:=by kernel_rfl
theorem alB:cj pX 106 Vt.er Sl 2=true:=by decide+kernel
theorem apO:dj pX 106 OA.M/\bH pX 106=true:=
  dN (T:=[]) (sc:=Vt) (ms:=Sl) (args:=Ii) (aF:=Uf) (aB.nil) cL alB yb fun x y h=>(aos aC x).trans (ahD x y h)
def Oo:az:=⟨65,H5,am8,T4,AU⟩
def Vi:bz:=
 (.seq
 (.af false [
 oX 1 (.box 3 0),
 oX 2 (.mv (kX 0))])
 (.seq
 (.seq
 (.af false [
 oX 7 (.aw 0 1),
 oX 8 (.load false 1 7),
 oX 9 (.len 8),
 oX 10 (.bin .gtr 9 (kX 12)),
 oX 11 (.mv 10),
 ⟨(some 12),.aw 0 1,(some (11,false))⟩,
 ⟨(some 13),.load false 1 12,(some (11,false))⟩,
 ⟨(some 14),.len 13,(some (11,false))⟩,
 ⟨(some 15),.aw 1 1,(some (11,false))⟩,
 ⟨(some 16),.load false 1 15,(some (11,false))⟩,
 ⟨(some 17),.len 16,(some (11,false))⟩,
 ⟨(some 18),.bin .neq 14 17,(some (11,false))⟩,
 oX 19 (.pick 11 (.k (.one (.v (.bool) (true)))) 18)])
 (.cond 19
 (.seq
 (.af false [
 oX 2 (.mv (kX (-1)))])
 .ret)
 .skip))
 (.seq
 (.af false [
 oX 3 (.mv (kX 1))])
 (.seq
 (.seq
 (.af false [
 oX 20 (.aw 0 1),
 oX 21 (.load false 1 20),
 oX 22 (.len 21),
 oX 23 (.mv (kX 0))])
 (.join ⟨[(3,sX)],[]⟩ [1] []
 (.block 0
 (.loop 0 ⟨[(1,.one (rX 1)),(3,sX),(21,.one (.c (.v (lX)))),(22,sX),(23,sX)],[(1,.box [.c (.v (lX)),.c (.v (lX)),.c (.v (lX))])]⟩ [1] []
 (.seq
 (.af false [
 oX 24 (.bin .lss 23 22)])
 (.seq
 (.cond 24
 .skip
 (.exit 0))
 (.seq
 (.block 1
 (.seq
 (.af false [
 oX 25 (.mv 23),
 oX 26 (.cf 1 21 23),
 oX 27 (.load false 1 26),
 oX 4 (.mv 25),
 oX 5 (.mv 27)])
 (.seq
 (.seq
 (.af false [
 oX 28 (.mv 5),
 oX 29 (.bin .lss 28 (kX 0)),
 oX 30 (.mv 29),
 ⟨(some 31),.mv 5,(some (30,false))⟩,
 ⟨(some 32),.bin .gtr 31 (kX 99),(some (30,false))⟩,
 oX 33 (.pick 30 (.k (.one (.v (.bool) (true)))) 32),
 oX 34 (.mv 33),
 ⟨(some 35),.aw 0 1,(some (34,false))⟩,
 ⟨(some 36),.load false 1 35,(some (34,false))⟩,
 ⟨(some 37),.mv 4,(some (34,false))⟩,
 ⟨(some 38),.slice 1 36 none (some 37),(some (34,false))⟩,
 ⟨(some 39),.mv 5,(some (34,false))⟩,
 ⟨(some 40),.call .ae 106 [38,39],(some (34,false))⟩,
 oX 41 (.pick 34 (.k (.one (.v (.bool) (true)))) 40)])
 (.cond 41
 (.seq
 (.af false [
 oX 2 (.mv (kX (-1)))])
 .ret)
 .skip))
 (.seq
 (.af false [
 oX 42 (.aw 1 1),
 oX 43 (.load false 1 42),
 oX 44 (.mv 4),
 oX 45 (.cf 1 43 44),
 oX 46 (.load false 1 45),
 oX 6 (.mv 46)])
 (.seq
 (.seq
 (.af false [
 oX 47 (.mv 6),
 oX 48 (.bin .lss 47 (kX 1)),
 oX 49 (.mv 48),
 ⟨(some 50),.mv 6,(some (49,false))⟩,
 ⟨(some 51),.bin .gtr 50 (kX 8),(some (49,false))⟩,
 oX 52 (.pick 49 (.k (.one (.v (.bool) (true)))) 51),
 oX 53 (.mv 52),
 ⟨(some 54),.mv 3,(some (53,false))⟩,
 ⟨(some 55),.mv 6,(some (53,false))⟩,
 ⟨(some 56),.bin .mul 54 55,(some (53,false))⟩,
 ⟨(some 57),.bin .gtr 56 (kX 4096),(some (53,false))⟩,
 oX 58 (.pick 53 (.k (.one (.v (.bool) (true)))) 57)])
 (.cond 58
 (.seq
 (.af false [
 oX 2 (.mv (kX (-1)))])
 .ret)
 .skip))
 (.af false [
 oX 59 (.mv 3),
 oX 60 (.mv 6),
 oX 61 (.bin .mul 59 60),
 oX 3 (.mv 61)]))))))
 (.af false [
 oX 62 (.bin .add 23 (kX 1)),
 oX 23 (.mv 62)]))))))))
 (.seq
 (.af false [
 oX 63 (.mv 3),
 oX 2 (.mv 63)])
 .ret)))))
def Sa:List bD:=[.tmp 2]
theorem aoh (NN:Nat) (x:aV (ao.aU H5)):dH NN [OA] Vi Sa H5 T4 x=My NN x:=by kernel_rfl
theorem alq:cj pX 65 Vi.er Sa 1=true:=by decide+kernel
theorem apF:dj pX 65 Oo.M/\bH pX 65=true:=
  dN (T:=[OA]) (sc:=Vi) (ms:=Sa) (args:=H5) (aF:=T4) (aB.cons apO<|aB.nil) cL alq AU fun x y h=>(aoh aC x).trans (ahs x y h)
def ES:az:=⟨89,Iv,anu,Uq,v7⟩
def VE:bz:=
 (.seq
 (.af false [
 oX 1 (.box 3 0),
 oX 2 (.mv (kX 0))])
 (.seq
 (.seq
 (.af false [
 oX 3 (.aw 0 1),
 oX 4 (.load false 1 3)])
 (.block 0
 (.seq
 (.af false [
 oX 6 (.bin .eql 4 (kX 7)),
 oX 5 (.mv 6)])
 (.cond 5
 (.seq
 (.af false [
 oX 7 (.aw 2 1),
 oX 8 (.load false 1 7),
 oX 2 (.mv 8)])
 .ret)
 (.seq
 (.af false [
 oX 10 (.bin .eql 4 (kX 8)),
 oX 9 (.mv 10)])
 (.cond 9
 (.seq
 (.af false [
 oX 2 (.mv (kX 4))])
 .ret)
 .skip))))))
 (.seq
 (.af false [
 oX 2 (.mv (kX 1))])
 .ret)))
def Sy:List bD:=[.tmp 2]
theorem aoD (NN:Nat) (x:aV (ao.aU Iv)):dH NN [] VE Sy Iv Uq x=MQ NN x:=by kernel_rfl
theorem alM:cj pX 89 VE.er Sy 1=true:=by decide+kernel
theorem acu:dj pX 89 ES.M/\bH pX 89=true:=
  dN (T:=[]) (sc:=VE) (ms:=Sy) (args:=Iv) (aF:=Uq) (aB.nil) cL alM v7 fun x y h=>(aoD aC x).trans (ahO x y h)
def OI:az:=⟨117,Iu,ant,Up,A9⟩
def VD:bz:=
 (.seq
 (.af false [
 oX 1 (.box 3 0),
 oX 2 (.mv (kX 0))])
 (.seq
 (.seq
 (.af false [
 oX 3 (.aw 0 1),
 oX 4 (.load false 1 3)])
 (.block 0
 (.seq
 (.af false [
 oX 6 (.bin .eql 4 (kX 1)),
 oX 5 (.mv 6)])
 (.cond 5
 (.seq
 (.af false [
 oX 2 (.mv (kX 1))])
 .ret)
 (.seq
 (.seq
 (.af false [
 oX 8 (.bin .eql 4 (kX 3)),
 oX 7 (.mv 8)])
 (.join ⟨[(7,.one (.c (.v (.bool)))),(4,sX),(1,.one (rX 1))],[(1,.box [vX,vX,vX])]⟩ [1] []
 (.cond 7
 .skip
 (.seq
 (.af false [
 oX 9 (.bin .eql 4 (kX 4)),
 oX 7 (.mv 9)])
 (.cond 7
 .skip
 (.af false [
 oX 10 (.bin .eql 4 (kX 5)),
 oX 7 (.mv 10)]))))))
 (.cond 7
 (.seq
 (.af false [
 oX 11 (.aw 1 1),
 oX 12 (.load false 1 11),
 oX 2 (.mv 12)])
 .ret)
 (.seq
 (.af false [
 oX 14 (.bin .eql 4 (kX 6)),
 oX 13 (.mv 14)])
 (.cond 13
 (.seq
 (.af false [
 oX 15 (.aw 2 1),
 oX 16 (.load false 1 15),
 oX 17 (.bin .shl (kX 1) 16),
 oX 18 (.bin .sub 17 (kX 1)),
 oX 2 (.mv 18)])
 .ret)
 .skip))))))))
 (.seq
 (.af false [
 oX 19 (.aw 1 1),
 oX 20 (.load false 1 19),
 oX 21 (.bin .sub 20 (kX 1)),
 oX 2 (.mv 21)])
 .ret)))
def Sx:List bD:=[.tmp 2]
theorem aoC (NN:Nat) (x:aV (ao.aU Iu)):dH NN [] VD Sx Iu Up x=XH NN x:=by kernel_rfl
theorem alL:cj pX 117 VD.er Sx 1=true:=by decide+kernel
theorem apV:dj pX 117 OI.M/\bH pX 117=true:=
  dN (T:=[]) (sc:=VD) (ms:=Sx) (args:=Iu) (aF:=Up) (aB.nil) cL alL A9 fun x y h=>(aoC aC x).trans (ahN x y h)
def OB:az:=⟨90,Ik,anm,Uh,A6⟩
def Vv:bz:=
 (.seq
 (.af false [
 oX 2 (.box 3 0),
 oX 4 (.mv (.k (.one (.v (.bool) (false)))))])
 (.seq
 (.af false [
 oX 8 (.load true 3 2),
 oX 9 (.call .ae 117 [8]),
 oX 5 (.mv 9)])
 (.seq
 (.seq
 (.af false [
 oX 10 (.mv 1),
 oX 11 (.len 10),
 oX 12 (.mv (kX 0))])
 (.join ⟨[],[]⟩ [] []
 (.block 0
 (.loop 0 ⟨[(5,sX),(10,.one (.c (.v (lX)))),(11,sX),(12,sX)],[]⟩ [2] []
 (.seq
 (.af false [
 oX 13 (.bin .lss 12 11)])
 (.seq
 (.cond 13
 .skip
 (.exit 0))
 (.seq
 (.block 1
 (.seq
 (.af false [
 oX 14 (.cf 1 10 12),
 oX 15 (.load false 1 14),
 oX 7 (.mv 15)])
 (.seq
 (.af false [
 oX 16 (.mv 7),
 oX 17 (.bin .lss 16 (kX 0)),
 oX 18 (.mv 17),
 ⟨(some 19),.mv 7,(some (18,false))⟩,
 ⟨(some 20),.mv 5,(some (18,false))⟩,
 ⟨(some 21),.bin .gtr 19 20,(some (18,false))⟩,
 oX 22 (.pick 18 (.k (.one (.v (.bool) (true)))) 21)])
 (.cond 22
 (.seq
 (.af false [
 oX 4 (.mv (.k (.one (.v (.bool) (false)))))])
 .ret)
 .skip))))
 (.af false [
 oX 23 (.bin .add 12 (kX 1)),
 oX 12 (.mv 23)]))))))))
 (.seq
 (.af false [
 oX 4 (.mv (.k (.one (.v (.bool) (true)))))])
 .ret))))
def Sn:List bD:=[.tmp 4]
theorem aou (NN:Nat) (x:aV (ao.aU Ik)):dH NN [OI] Vv Sn Ik Uh x=MI NN x:=by kernel_rfl
theorem alD:cj pX 90 Vv.er Sn 2=true:=by decide+kernel
theorem apP:dj pX 90 OB.M/\bH pX 90=true:=
  dN (T:=[OI]) (sc:=Vv) (ms:=Sn) (args:=Ik) (aF:=Uh) (aB.cons apV<|aB.nil) cL alD A6 fun x y h=>(aou aC x).trans (ahF x y h)
def yT:az:=⟨43,H4,am7,T2,oE⟩
def Vh:bz:=
 (.seq
 (.af false [
 oX 2 (.box 3 0),
 oX 3 (.box 3 1),
 oX 4 (.mv (.k (.one (.v (.bool) (false)))))])
 (.seq
 (.seq
 (.af false [
 oX 6 (.load true 3 2),
 oX 7 (.call .ae 88 [6]),
 oX 8 (.un .not 7)])
 (.cond 8
 (.seq
 (.af false [
 oX 4 (.mv (.k (.one (.v (.bool) (false)))))])
 .ret)
 .skip))
 (.seq
 (.af false [
 oX 9 (.load true 3 3),
 oX 10 (.call .ae 65 [9]),
 oX 5 (.mv 10)])
 (.seq
 (.af true [
 oX 11 (.mv 5),
 oX 12 (.bin .neq 11 (kX (-1))),
 oX 13 (.mv 12),
 ⟨(some 14),.aw 2 3,(some (13,true))⟩,
 ⟨(some 15),.load false 1 14,(some (13,true))⟩,
 ⟨(some 16),.len 15,(some (13,true))⟩,
 ⟨(some 17),.mv 5,(some (13,true))⟩,
 ⟨(some 18),.load true 3 2,(some (13,true))⟩,
 ⟨(some 19),.call .ae 89 [18],(some (13,true))⟩,
 ⟨(some 20),.bin .mul 17 19,(some (13,true))⟩,
 ⟨(some 21),.bin .eql 16 20,(some (13,true))⟩,
 oX 22 (.pick 13 21 (.k (.one (.v (.bool) (false))))),
 oX 23 (.mv 22),
 ⟨(some 24),.load true 3 2,(some (23,true))⟩,
 ⟨(some 25),.aw 2 3,(some (23,true))⟩,
 ⟨(some 26),.load false 1 25,(some (23,true))⟩,
 ⟨(some 27),.call .ae 90 [24,26],(some (23,true))⟩,
 oX 28 (.pick 23 27 (.k (.one (.v (.bool) (false))))),
 oX 4 (.mv 28)])
 .ret))))
def R9:List bD:=[.tmp 4]
theorem aog (NN:Nat) (x:aV (ao.aU H4)):dH NN [Oj,Oo,ES,OB] Vh R9 H4 T2 x=Mx NN x:=by kernel_rfl
theorem alp:cj pX 43 Vh.er R9 2=true:=by decide+kernel
theorem Tg:dj pX 43 yT.M/\bH pX 43=true:=
  dN (T:=[Oj,Oo,ES,OB]) (sc:=Vh) (ms:=R9) (args:=H4) (aF:=T2) (aB.cons apA<|aB.cons apF<|aB.cons acu<|aB.cons apP<|aB.nil) cL alp oE fun x y h=>(aog aC x).trans (ahr x y h)
def Ow:az:=⟨75,Ib,anf,Ua,AY⟩
def Vo:bz:=
 (.seq
 (.af false [
 oX 1 (.box 3 0),
 oX 2 (.alloc [.nil iX,.nil iX,.nil iX])])
 (.seq
 (.af true [
 oX 3 (.aw 0 1),
 oX 4 (.load false 1 3),
 oX 5 (.call .ae 47 [4]),
 oX 6 (.aw 1 1),
 oX 7 (.load false 1 6),
 oX 8 (.call .ae 47 [7]),
 oX 9 (.aw 2 1),
 oX 10 (.load false 1 9),
 oX 11 (.call .ae 47 [10]),
 oX 12 (.build [.nil iX,.nil iX,.nil iX] [(0,1,5),(1,1,8),(2,1,11)]),
 uX (.store 3 2 12)])
 .ret))
def Sg:List bD:=[.cell 2 3 true]
theorem aon (NN:Nat) (x:aV (ao.aU Ib)):dH NN [pK] Vo Sg Ib Ua x=MD NN x:=by kernel_rfl
theorem alw:cj pX 75 Vo.er Sg 1=true:=by decide+kernel
theorem apK:dj pX 75 Ow.M/\bH pX 75=true:=
  dN (T:=[pK]) (sc:=Vo) (ms:=Sg) (args:=Ib) (aF:=Ua) (aB.cons C7<|aB.nil) cL alw AY fun x y h=>(aon aC x).trans (ahy x y h)
def OJ:az:=⟨76,Iw,anv,Ur,Ba⟩
def VF:bz:=
 (.seq
 (.af false [
 oX 6 (.mv (kX 0))])
 (.seq
 (.seq
 (.af false [
 oX 9 (.mv 1),
 oX 10 (.len 9),
 oX 11 (.mv (kX 0))])
 (.join ⟨[(0,sX)],[]⟩ [] []
 (.block 0
 (.loop 0 ⟨[(0,sX),(2,.one (.c (.v (lX)))),(9,.one (.c (.v (lX)))),(10,sX),(11,sX)],[]⟩ [] []
 (.seq
 (.af false [
 oX 12 (.bin .lss 11 10)])
 (.seq
 (.cond 12
 .skip
 (.exit 0))
 (.seq
 (.block 1
 (.seq
 (.af false [
 oX 13 (.mv 11),
 oX 14 (.cf 1 9 11),
 oX 15 (.load false 1 14),
 oX 7 (.mv 13),
 oX 8 (.mv 15)])
 (.seq
 (.af false [
 oX 16 (.mv 8),
 oX 17 (.mv 0),
 oX 18 (.bin .eql 16 17)])
 (.cond 18
 (.seq
 (.af false [
 oX 19 (.mv 2),
 oX 20 (.mv 7),
 oX 21 (.cf 1 19 20),
 oX 22 (.load false 1 21),
 oX 6 (.mv 22)])
 .ret)
 .skip))))
 (.af false [
 oX 23 (.bin .add 11 (kX 1)),
 oX 11 (.mv 23)]))))))))
 (.seq
 (.af false [
 oX 24 (.mv 0),
 oX 6 (.mv 24)])
 .ret)))
def Sz:List bD:=[.tmp 6]
theorem aoE (NN:Nat) (x:aV (ao.aU Iw)):dH NN [] VF Sz Iw Ur x=Hi NN x:=by kernel_rfl
theorem alN:cj pX 76 VF.er Sz 3=true:=by decide+kernel
theorem apW:dj pX 76 OJ.M/\bH pX 76=true:=
  dN (T:=[]) (sc:=VF) (ms:=Sz) (args:=Iw) (aF:=Ur) (aB.nil) cL alN Ba fun x y h=>(aoE aC x).trans (ahP x y h)
def Oi:az:=⟨32,HU,am1,TW,AQ⟩
def Vb:bz:=
 (.seq
 (.af false [
 oX 4 (.box 3 0),
 oX 5 (.box 3 1),
 oX 8 (.alloc [.nil iX,.nil iX,.nil iX]),
 oX 9 (.mv (.k (.one (.v (.bool) (false)))))])
 (.seq
 (.seq
 (.af false [
 oX 13 (.load true 3 4),
 oX 14 (.load true 3 5),
 oX 15 (.call .ae 43 [13,14]),
 oX 16 (.un .not 15),
 oX 17 (.mv 16),
 ⟨(some 18),.mv 2,(some (17,false))⟩,
 ⟨(some 19),.len 18,(some (17,false))⟩,
 ⟨(some 20),.mv 3,(some (17,false))⟩,
 ⟨(some 21),.len 20,(some (17,false))⟩,
 ⟨(some 22),.bin .neq 19 21,(some (17,false))⟩,
 oX 23 (.pick 17 (.k (.one (.v (.bool) (true)))) 22)])
 (.cond 23
 (.seq
 (.af false [
 oX 24 (.build [.nil iX,.nil iX,.nil iX] []),
 uX (.store 3 8 24),
 oX 9 (.mv (.k (.one (.v (.bool) (false)))))])
 .ret)
 .skip))
 (.seq
 (.af false [
 oX 25 (.load true 3 5),
 oX 26 (.call .ae 75 [25]),
 oX 10 (.alloc [.nil iX,.nil iX,.nil iX]),
 uX (.store 3 10 26)])
 (.seq
 (.seq
 (.af false [
 oX 27 (.aw 0 10),
 oX 28 (.load false 1 27),
 oX 29 (.len 28),
 oX 30 (.mv (kX 0))])
 (.join ⟨[(4,.one (rX 4)),(10,.one (rX 10)),(8,.one (rX 8))],[(4,.box [vX,vX,vX]),(8,.box [fX 500006 1,fX 500007 1,fX 500008 1]),(10,.box [fX 500009 1,fX 500010 1,fX 500011 1]),(500006,.row true .ae iX),(500007,.row true .ae iX),(500008,.row true .ae iX),(500009,.row true .ae iX),(500010,.row true .ae iX),(500011,.row true .ae iX)]⟩ [4,8,10,500000,500001,500002,500003,500004,500005,500006,500007,500008,500009,500010,500011] [(true,8,0,500006,.ae,[]),(true,8,1,500007,.ae,[]),(true,8,2,500008,.ae,[]),(true,10,0,500009,.ae,[]),(true,10,1,500010,.ae,[]),(true,10,2,500011,.ae,[])]
 (.block 0
 (.loop 0 ⟨[(2,.one (.c (.v (lX)))),(3,.one (.c (.v (lX)))),(4,.one (rX 4)),(8,.one (rX 8)),(10,.one (rX 10)),(28,.one (fX 500003 1)),(29,sX),(30,sX)],[(4,.box [vX,vX,vX]),(8,.box [fX 500000 1,fX 500001 1,fX 500002 1]),(10,.box [fX 500003 1,fX 500004 1,fX 500005 1]),(500000,.row true .ae iX),(500001,.row true .ae iX),(500002,.row true .ae iX),(500003,.row true .ae iX),(500004,.row true .ae iX),(500005,.row true .ae iX)]⟩ [4,5,8,27000,27001,27002,10,500000,500001,500002,500003,500004,500005] [(true,8,0,500000,.ae,[]),(true,8,1,500001,.ae,[]),(true,8,2,500002,.ae,[]),(true,10,0,500003,.ae,[]),(true,10,1,500004,.ae,[]),(true,10,2,500005,.ae,[])]
 (.seq
 (.af false [
 oX 31 (.bin .lss 30 29)])
 (.seq
 (.cond 31
 .skip
 (.exit 0))
 (.seq
 (.block 1
 (.seq
 (.af false [
 oX 32 (.mv 30),
 oX 33 (.cf 1 28 30),
 oX 34 (.load false 1 33),
 oX 11 (.mv 32),
 oX 12 (.mv 34)])
 (.af true [
 oX 35 (.aw 0 10),
 oX 36 (.load false 1 35),
 oX 37 (.mv 11),
 oX 38 (.mv 12),
 oX 39 (.mv 2),
 oX 40 (.mv 3),
 oX 41 (.call .ae 76 [38,39,40]),
 oX 42 (.cf 1 36 37),
 uX (.store 1 42 41)])))
 (.af false [
 oX 43 (.bin .add 30 (kX 1)),
 oX 30 (.mv 43)]))))))))
 (.seq
 (.seq
 (.af false [
 oX 44 (.load true 3 4),
 oX 45 (.load true 3 10),
 oX 46 (.call .ae 43 [44,45]),
 oX 47 (.un .not 46)])
 (.cond 47
 (.seq
 (.af false [
 oX 48 (.build [.nil iX,.nil iX,.nil iX] []),
 uX (.store 3 8 48),
 oX 9 (.mv (.k (.one (.v (.bool) (false)))))])
 .ret)
 .skip))
 (.seq
 (.af false [
 oX 49 (.load true 3 10),
 uX (.store 3 8 49),
 oX 9 (.mv (.k (.one (.v (.bool) (true)))))])
 .ret))))))
def R3:List bD:=[.cell 8 3 true,.tmp 9]
theorem aoa (NN:Nat) (x:aV (ao.aU HU)):dH NN [yT,Ow,OJ] Vb R3 HU TW x=Hc NN x:=by kernel_rfl
theorem ali:cj pX 32 Vb.er R3 4=true:=by decide+kernel
theorem apz:dj pX 32 Oi.M/\bH pX 32=true:=
  dN (T:=[yT,Ow,OJ]) (sc:=Vb) (ms:=R3) (args:=HU) (aF:=TW) (aB.cons Tg<|aB.cons apK<|aB.cons apW<|aB.nil) cL ali AQ fun x y h=>(aoa aC x).trans (ahl x y h)
def Ob:az:=⟨141,HH,amS,TK,x6⟩
def UZ:bz:=
 (.seq
 (.af false [
 oX 2 (.mv (.k (.one (.v (.bool) (false)))))])
 (.seq
 (.af false [
 oX 3 (.mv 0),
 oX 4 (.mv 0),
 oX 5 (.bin .neq 3 4),
 oX 2 (.mv 5)])
 .ret))
def RP:List bD:=[.tmp 2]
theorem anY (NN:Nat) (x:aV (ao.aU HH)):dH NN [] UZ RP HH TK x=Mo NN x:=by kernel_rfl
theorem ak6:cj pX 141 UZ.er RP 1=true:=by decide+kernel
theorem aps:dj pX 141 Ob.M/\bH pX 141=true:=
  dN (T:=[]) (sc:=UZ) (ms:=RP) (args:=HH) (aF:=TK) (aB.nil) cL ak6 x6 fun x y h=>(anY aC x).trans (ag9 x y h)
def EN:az:=⟨131,HG,amR,TJ,DU⟩
def UY:bz:=
 (.seq
 (.af false [
 oX 4 (.mv (.k (.one (.v (.bool) (false)))))])
 (.seq
 (.af false [
 oX 5 (.mv 0),
 oX 6 (.call .ae 141 [5]),
 oX 7 (.mv 6),
 ⟨(some 8),.mv 1,(some (7,true))⟩,
 ⟨(some 9),.call .ae 141 [8],(some (7,true))⟩,
 ⟨(some 10),.un .not 9,(some (7,true))⟩,
 oX 11 (.pick 7 10 (.k (.one (.v (.bool) (false))))),
 oX 12 (.mv 11),
 ⟨(some 13),.mv 0,(some (12,false))⟩,
 ⟨(some 14),.mv 1,(some (12,false))⟩,
 ⟨(some 15),.bin .lss 13 14,(some (12,false))⟩,
 oX 16 (.pick 12 (.k (.one (.v (.bool) (true)))) 15),
 oX 4 (.mv 16)])
 .ret))
def RO:List bD:=[.tmp 4]
theorem anX (NN:Nat) (x:aV (ao.aU HG)):dH NN [Ob] UY RO HG TJ x=Mn NN x:=by kernel_rfl
theorem ak5:cj pX 131 UY.er RO 2=true:=by decide+kernel
theorem aco:dj pX 131 EN.M/\bH pX 131=true:=
  dN (T:=[Ob]) (sc:=UY) (ms:=RO) (args:=HG) (aF:=TJ) (aB.cons aps<|aB.nil) cL ak5 DU fun x y h=>(anX aC x).trans (ag8 x y h)
def OR:az:=⟨125,ID,KO,UA,v9⟩
def VN:bz:=
 (.seq
 (.af false [
 oX 8 (.mv 1),
 oX 9 (.bin .add 8 (kX 1)),
 oX 6 (.mv 9)])
 (.block 0
 (.loop 0 ⟨[(0,.one (fX 1000000 1)),(1,sX),(2,sX),(6,sX)],[(1000000,.row false .ae iX)]⟩ [1000000,500000] [(false,0,0,500000,.ae,[])]
 (.seq
 (.seq
 (.af false [
 oX 10 (.mv 6),
 oX 11 (.mv 2),
 oX 12 (.bin .lss 10 11)])
 (.cond 12
 .skip
 (.exit 0)))
 (.seq
 (.join ⟨[(6,sX),(0,.one (fX 1000000 1)),(1,sX),(2,sX)],[(1000000,.row false .ae iX)]⟩ [1000000,500002] [(false,0,0,500002,.ae,[])]
 (.block 1
 (.seq
 (.af false [
 oX 15 (.mv 6),
 oX 7 (.mv 15)])
 (.block 2
 (.loop 0 ⟨[(0,.one (fX 1000000 1)),(1,sX),(2,sX),(6,sX),(7,sX)],[(1000000,.row false .ae iX)]⟩ [1000000,500001] [(false,0,0,500001,.ae,[])]
 (.seq
 (.seq
 (.af true [
 oX 16 (.mv 7),
 oX 17 (.mv 1),
 oX 18 (.bin .gtr 16 17),
 oX 19 (.mv 18),
 ⟨(some 20),.mv 0,(some (19,true))⟩,
 ⟨(some 21),.mv 7,(some (19,true))⟩,
 ⟨(some 22),.cf 1 20 21,(some (19,true))⟩,
 ⟨(some 23),.load false 1 22,(some (19,true))⟩,
 ⟨(some 24),.mv 0,(some (19,true))⟩,
 ⟨(some 25),.mv 7,(some (19,true))⟩,
 ⟨(some 26),.bin .sub 25 (kX 1),(some (19,true))⟩,
 ⟨(some 27),.cf 1 24 26,(some (19,true))⟩,
 ⟨(some 28),.load false 1 27,(some (19,true))⟩,
 ⟨(some 29),.call .ae 131 [23,28],(some (19,true))⟩,
 oX 30 (.pick 19 29 (.k (.one (.v (.bool) (false)))))])
 (.cond 30
 .skip
 (.exit 2)))
 (.seq
 (.block 3
 (.af true [
 oX 33 (.mv 0),
 oX 34 (.mv 7),
 oX 35 (.mv 0),
 oX 36 (.mv 7),
 oX 37 (.bin .sub 36 (kX 1)),
 oX 38 (.mv 0),
 oX 39 (.mv 7),
 oX 40 (.bin .sub 39 (kX 1)),
 oX 41 (.cf 1 38 40),
 oX 42 (.load false 1 41),
 oX 43 (.mv 0),
 oX 44 (.mv 7),
 oX 45 (.cf 1 43 44),
 oX 46 (.load false 1 45),
 oX 47 (.cf 1 33 34),
 uX (.store 1 47 42),
 oX 48 (.cf 1 35 37),
 uX (.store 1 48 46)]))
 (.af false [
 oX 31 (.mv 7),
 oX 32 (.bin .sub 31 (kX 1)),
 oX 7 (.mv 32)]))))))))
 (.af false [
 oX 13 (.mv 6),
 oX 14 (.bin .add 13 (kX 1)),
 oX 6 (.mv 14)]))))))
def SJ:List bD:=[]
theorem aoM (NN:Nat) (x:aV (ao.aU ID)):vH NN [EN] VN SJ ID KO UA x=MX NN x:=by kernel_rfl
theorem alV:cj pX 125 VN.er SJ 3=true:=by decide+kernel
theorem ap5:qw pX 125 KO OR.MM/\bH pX 125=true:=
  zY (T:=[EN]) (sc:=VN) (ms:=SJ) (args:=ID) (mu:=KO) (aF:=UA) (aB.cons aco<|aB.nil) cL alV v9 fun x y h=>(aoM aC x).trans (ahX x y h)
def OS:az:=⟨123,IE,KP,UB,Bg⟩
def VO:bz:=
 (.seq
 (.af false [
 oX 8 (.mv (.k (.one (.v (.bool) (true)))))])
 (.seq
 (.af false [
 oX 9 (.mv (.k (.one (.v (.bool) (true)))))])
 (.block 0
 (.loop 0 ⟨[(0,.one (fX 1000000 1)),(1,sX),(2,sX),(3,sX),(8,.one (.c (.v (.bool)))),(9,.one (.c (.v (.bool))))],[(1000000,.row false .ae iX)]⟩ [1000000,500000] [(false,0,0,500000,.ae,[])]
 (.block 1
 (.seq
 (.af false [
 oX 19 (.mv 2),
 oX 20 (.mv 1),
 oX 21 (.bin .sub 19 20),
 oX 10 (.mv 21)])
 (.seq
 (.seq
 (.af false [
 oX 22 (.mv 10),
 oX 23 (.bin .leq 22 (kX 12))])
 (.cond 23
 (.seq
 (.af false [
 oX 24 (.mv 0),
 oX 25 (.mv 1),
 oX 26 (.mv 2),
 oX 27 (.fU .ae 125 [24,25,26])])
 .ret)
 .skip))
 (.seq
 (.seq
 (.af false [
 oX 28 (.mv 3),
 oX 29 (.bin .eql 28 (kX 0))])
 (.cond 29
 (.seq
 (.af false [
 oX 30 (.mv 0),
 oX 31 (.mv 1),
 oX 32 (.mv 2),
 oX 33 (.call .ae 126 [30,31,32])])
 .ret)
 .skip))
 (.seq
 (.seq
 (.af false [
 oX 34 (.mv 8),
 oX 35 (.un .not 34)])
 (.join ⟨[(9,.one (.c (.v (.bool)))),(8,.one (.c (.v (.bool)))),(10,sX),(2,sX),(0,.one (fX 1000000 1)),(1,sX),(3,sX)],[(1000000,.row false .ae iX)]⟩ [1000000,500001] [(false,0,0,500001,.ae,[])]
 (.cond 35
 (.seq
 (.af false [
 oX 36 (.mv 0),
 oX 37 (.mv 1),
 oX 38 (.mv 2),
 oX 39 (.call .ae 127 [36,37,38])])
 (.af false [
 oX 40 (.mv 3),
 oX 41 (.bin .sub 40 (kX 1)),
 oX 3 (.mv 41)]))
 .skip)))
 (.seq
 (.af false [
 oX 43 (.mv 0),
 oX 44 (.mv 1),
 oX 45 (.mv 2),
 oX 46 (.call .ae 128 [43,44,45]),
 oX 42 (.mv 46),
 oX 47 (.ext 0 42),
 oX 48 (.ext 1 42),
 oX 11 (.mv 47),
 oX 12 (.mv 48)])
 (.seq
 (.seq
 (.af false [
 oX 49 (.mv 12),
 oX 50 (.bin .eql 49 (kX 2))])
 (.join ⟨[(12,sX),(9,.one (.c (.v (.bool)))),(8,.one (.c (.v (.bool)))),(11,sX),(10,sX),(2,sX),(0,.one (fX 1000000 1)),(1,sX),(3,sX)],[(1000000,.row false .ae iX)]⟩ [1000000,500002] [(false,0,0,500002,.ae,[])]
 (.cond 50
 (.seq
 (.af false [
 oX 51 (.mv 0),
 oX 52 (.mv 1),
 oX 53 (.mv 2),
 oX 54 (.call .ae 129 [51,52,53])])
 (.seq
 (.af false [
 oX 55 (.mv 2),
 oX 56 (.bin .sub 55 (kX 1)),
 oX 57 (.mv 11),
 oX 58 (.mv 1),
 oX 59 (.bin .sub 57 58),
 oX 60 (.bin .sub 56 59),
 oX 11 (.mv 60)])
 (.af false [
 oX 12 (.mv (kX 1))])))
 .skip)))
 (.seq
 (.seq
 (.af false [
 oX 61 (.mv 8),
 oX 62 (.mv 61),
 ⟨(some 63),.mv 9,(some (62,true))⟩,
 oX 64 (.pick 62 63 (.k (.one (.v (.bool) (false))))),
 oX 65 (.mv 64),
 ⟨(some 66),.mv 12,(some (65,true))⟩,
 ⟨(some 67),.bin .eql 66 (kX 1),(some (65,true))⟩,
 oX 68 (.pick 65 67 (.k (.one (.v (.bool) (false)))))])
 (.join ⟨[(9,.one (.c (.v (.bool)))),(8,.one (.c (.v (.bool)))),(11,sX),(10,sX),(2,sX),(0,.one (fX 1000000 1)),(1,sX),(3,sX)],[(1000000,.row false .ae iX)]⟩ [1000000,500003] [(false,0,0,500003,.ae,[])]
 (.cond 68
 (.seq
 (.af false [
 oX 69 (.mv 0),
 oX 70 (.mv 1),
 oX 71 (.mv 2),
 oX 72 (.call .ae 130 [69,70,71])])
 (.cond 72
 .ret
 .skip))
 .skip)))
 (.seq
 (.seq
 (.af true [
 oX 73 (.mv 1),
 oX 74 (.bin .gtr 73 (kX 0)),
 oX 75 (.mv 74),
 ⟨(some 76),.mv 0,(some (75,true))⟩,
 ⟨(some 77),.mv 1,(some (75,true))⟩,
 ⟨(some 78),.bin .sub 77 (kX 1),(some (75,true))⟩,
 ⟨(some 79),.cf 1 76 78,(some (75,true))⟩,
 ⟨(some 80),.load false 1 79,(some (75,true))⟩,
 ⟨(some 81),.mv 0,(some (75,true))⟩,
 ⟨(some 82),.mv 11,(some (75,true))⟩,
 ⟨(some 83),.cf 1 81 82,(some (75,true))⟩,
 ⟨(some 84),.load false 1 83,(some (75,true))⟩,
 ⟨(some 85),.call .ae 131 [80,84],(some (75,true))⟩,
 ⟨(some 86),.un .not 85,(some (75,true))⟩,
 oX 87 (.pick 75 86 (.k (.one (.v (.bool) (false)))))])
 (.cond 87
 (.seq
 (.af false [
 oX 88 (.mv 0),
 oX 89 (.mv 1),
 oX 90 (.mv 2),
 oX 91 (.mv 11),
 oX 92 (.call .ae 132 [88,89,90,91]),
 oX 13 (.mv 92)])
 (.seq
 (.af false [
 oX 93 (.mv 13),
 oX 1 (.mv 93)])
 (.exit 1)))
 .skip))
 (.seq
 (.af false [
 oX 95 (.mv 0),
 oX 96 (.mv 1),
 oX 97 (.mv 2),
 oX 98 (.mv 11),
 oX 99 (.call .ae 133 [95,96,97,98]),
 oX 94 (.mv 99),
 oX 100 (.ext 0 94),
 oX 101 (.ext 1 94),
 oX 14 (.mv 100),
 oX 15 (.mv 101)])
 (.seq
 (.af false [
 oX 102 (.mv 15),
 oX 9 (.mv 102)])
 (.seq
 (.af false [
 oX 103 (.mv 14),
 oX 104 (.mv 1),
 oX 105 (.bin .sub 103 104),
 oX 106 (.mv 2),
 oX 107 (.mv 14),
 oX 108 (.bin .sub 106 107),
 oX 16 (.mv 105),
 oX 17 (.mv 108)])
 (.seq
 (.af false [
 oX 109 (.mv 10),
 oX 110 (.bin .quo 109 (kX 8)),
 oX 18 (.mv 110)])
 (.seq
 (.af false [
 oX 111 (.mv 16),
 oX 112 (.mv 17),
 oX 113 (.bin .lss 111 112)])
 (.cond 113
 (.seq
 (.af false [
 oX 114 (.mv 16),
 oX 115 (.mv 18),
 oX 116 (.bin .geq 114 115),
 oX 8 (.mv 116)])
 (.seq
 (.af false [
 oX 117 (.mv 0),
 oX 118 (.mv 1),
 oX 119 (.mv 14),
 oX 120 (.mv 3),
 oX 121 (.fU .ae 123 [117,118,119,120])])
 (.af false [
 oX 122 (.mv 14),
 oX 123 (.bin .add 122 (kX 1)),
 oX 1 (.mv 123)])))
 (.seq
 (.af false [
 oX 124 (.mv 17),
 oX 125 (.mv 18),
 oX 126 (.bin .geq 124 125),
 oX 8 (.mv 126)])
 (.seq
 (.af false [
 oX 127 (.mv 0),
 oX 128 (.mv 14),
 oX 129 (.bin .add 128 (kX 1)),
 oX 130 (.mv 2),
 oX 131 (.mv 3),
 oX 132 (.fU .ae 123 [127,129,130,131])])
 (.af false [
 oX 133 (.mv 14),
 oX 2 (.mv 133)]))))))))))))))))))))))
def SK:List bD:=[]
theorem aoN (NN:Nat) (x:aV (ao.aU IE)):vH NN [OR,EN] VO SK IE KP UB x=MY NN x:=by kernel_rfl
theorem alW:cj pX 123 VO.er SK 4=true:=by decide+kernel
theorem ap6:qw pX 123 KP OS.MM/\bH pX 123=true:=
  zY (T:=[OR,EN]) (sc:=VO) (ms:=SK) (args:=IE) (mu:=KP) (aF:=UB) (aB.oK ap5<|aB.cons aco<|aB.nil) cL alW Bg fun x y h=>(aoN aC x).trans (ahY x y h)
def OQ:az:=⟨122,IC,KN,Uz,Bf⟩
def VM:bz:=
 (.seq
 (.af false [
 oX 3 (.mv 0),
 oX 4 (.len 3),
 oX 2 (.mv 4)])
 (.af false [
 oX 5 (.mv 0),
 oX 6 (.mv 2),
 oX 7 (.mv 2),
 oX 8 (.conv .u64 7),
 oX 9 (.call .ae 124 [8]),
 oX 10 (.fU .ae 123 [5,(kX 0),6,9])]))
def SI:List bD:=[]
theorem aoL (NN:Nat) (x:aV (ao.aU IC)):vH NN [OP,OS] VM SI IC KN Uz x=MU NN x:=by kernel_rfl
theorem alU:cj pX 122 VM.er SI 1=true:=by decide+kernel
theorem ap4:qw pX 122 KN OQ.MM/\bH pX 122=true:=
  zY (T:=[OP,OS]) (sc:=VM) (ms:=SI) (args:=IC) (mu:=KN) (aF:=Uz) (aB.cons ap3<|aB.oK ap6<|aB.nil) cL alU Bf fun x y h=>(aoL aC x).trans (ahW x y h)
def OL:az:=⟨92,Iy,anx,Uu,Bb⟩
def VH:bz:=
 (.seq
 (.af false [
 oX 2 (.mv (.k (.one (.nil iX))))])
 (.seq
 (.af false [
 oX 4 (.mv 0),
 oX 5 (.call .ae 47 [4]),
 oX 3 (.mv 5)])
 (.seq
 (.af false [
 oX 6 (.mv 3),
 oX 7 (.fU .ae 122 [6])])
 (.seq
 (.af false [
 oX 8 (.mv 3),
 oX 2 (.mv 8)])
 .ret))))
def SD:List bD:=[.tmp 2]
theorem aoG (NN:Nat) (x:aV (ao.aU Iy)):dH NN [pK,OQ] VH SD Iy Uu x=MS NN x:=by kernel_rfl
theorem alP:cj pX 92 VH.er SD 1=true:=by decide+kernel
theorem apY:dj pX 92 OL.M/\bH pX 92=true:=
  dN (T:=[pK,OQ]) (sc:=VH) (ms:=SD) (args:=Iy) (aF:=Uu) (aB.cons C7<|aB.oK ap4<|aB.nil) cL alP Bb fun x y h=>(aoG aC x).trans (ahR x y h)
def Oq:az:=⟨118,H6,am9,T5,AV⟩
def Vj:bz:=
 (.seq
 (.af false [
 oX 2 (.box 3 0),
 oX 4 (.mv (kX 0))])
 (.seq
 (.seq
 (.af false [
 oX 7 (.aw 0 2),
 oX 8 (.load false 1 7),
 oX 9 (.len 8),
 oX 10 (.mv (kX 0))])
 (.join ⟨[],[]⟩ [] []
 (.block 0
 (.loop 0 ⟨[(1,sX),(8,.one (.c (.v (lX)))),(9,sX),(10,sX)],[]⟩ [2] []
 (.seq
 (.af false [
 oX 11 (.bin .lss 10 9)])
 (.seq
 (.cond 11
 .skip
 (.exit 0))
 (.seq
 (.block 1
 (.seq
 (.af false [
 oX 12 (.mv 10),
 oX 13 (.cf 1 8 10),
 oX 14 (.load false 1 13),
 oX 5 (.mv 12),
 oX 6 (.mv 14)])
 (.seq
 (.af false [
 oX 15 (.mv 6),
 oX 16 (.mv 1),
 oX 17 (.bin .eql 15 16)])
 (.cond 17
 (.seq
 (.af false [
 oX 18 (.mv 5),
 oX 4 (.mv 18)])
 .ret)
 .skip))))
 (.af false [
 oX 19 (.bin .add 10 (kX 1)),
 oX 10 (.mv 19)]))))))))
 (.seq
 (.af false [
 oX 4 (.mv (kX (-1)))])
 .ret)))
def Sb:List bD:=[.tmp 4]
theorem aoi (NN:Nat) (x:aV (ao.aU H6)):dH NN [] Vj Sb H6 T5 x=Mz NN x:=by kernel_rfl
theorem alr:cj pX 118 Vj.er Sb 2=true:=by decide+kernel
theorem apG:dj pX 118 Oq.M/\bH pX 118=true:=
  dN (T:=[]) (sc:=Vj) (ms:=Sb) (args:=H6) (aF:=T5) (aB.nil) cL alr AV fun x y h=>(aoi aC x).trans (aht x y h)
def OM:az:=⟨119,Iz,anz,Uv,Bc⟩
def VI:bz:=
 (.seq
 (.af false [
 oX 2 (.box 3 0),
 oX 4 (.mv (.k (.one (.nil iX))))])
 (.seq
 (.af false [
 oX 10 (.mv 1),
 oX 11 (.len 10),
 oX 12 (.kF .ae iX 8 (0:Int) 11 11),
 oX 5 (.mv 12)])
 (.seq
 (.af false [
 oX 6 (.mv (kX 1))])
 (.seq
 (.seq
 (.af false [
 oX 13 (.aw 1 2),
 oX 14 (.load false 1 13),
 oX 15 (.len 14),
 oX 16 (.bin .sub 15 (kX 1)),
 oX 7 (.mv 16)])
 (.join ⟨[(5,.one (fX 500004 1))],[(500004,.row true .ae iX)]⟩ [2,500000,500004] [(false,5,0,500004,.ae,[])]
 (.block 0
 (.loop 0 ⟨[(1,.one (.c (.v (lX)))),(2,.one (rX 2)),(5,.one (fX 500000 1)),(6,sX),(7,sX)],[(2,.box [.c (.v (lX)),.c (.v (lX)),.c (.v (lX))]),(500000,.row true .ae iX)]⟩ [2,12,500000,500003] [(false,5,0,500000,.ae,[])]
 (.seq
 (.seq
 (.af false [
 oX 17 (.mv 7),
 oX 18 (.bin .geq 17 (kX 0))])
 (.cond 18
 .skip
 (.exit 0)))
 (.seq
 (.join ⟨[(7,sX),(1,.one (.c (.v (lX)))),(2,.one (rX 2)),(5,.one (fX 500003 1)),(6,sX)],[(2,.box [.c (.v (lX)),.c (.v (lX)),.c (.v (lX))]),(500003,.row true .ae iX)]⟩ [2,500002,500003] [(false,5,0,500003,.ae,[])]
 (.block 1
 (.seq
 (.seq
 (.af false [
 oX 21 (.mv 1),
 oX 22 (.len 21),
 oX 23 (.mv (kX 0))])
 (.join ⟨[(6,sX),(7,sX),(1,.one (.c (.v (lX)))),(2,.one (rX 2)),(5,.one (fX 500002 1))],[(2,.box [.c (.v (lX)),.c (.v (lX)),.c (.v (lX))]),(500002,.row true .ae iX)]⟩ [2,500001,500002] [(false,5,0,500002,.ae,[])]
 (.block 2
 (.loop 0 ⟨[(1,.one (.c (.v (lX)))),(2,.one (rX 2)),(5,.one (fX 500001 1)),(6,sX),(7,sX),(21,.one (.c (.v (lX)))),(22,sX),(23,sX)],[(2,.box [.c (.v (lX)),.c (.v (lX)),.c (.v (lX))]),(500001,.row true .ae iX)]⟩ [2,500000,500001] [(false,5,0,500001,.ae,[])]
 (.seq
 (.af false [
 oX 24 (.bin .lss 23 22)])
 (.seq
 (.cond 24
 .skip
 (.exit 2))
 (.seq
 (.block 3
 (.seq
 (.af false [
 oX 25 (.mv 23),
 oX 26 (.cf 1 21 23),
 oX 27 (.load false 1 26),
 oX 8 (.mv 25),
 oX 9 (.mv 27)])
 (.seq
 (.af false [
 oX 28 (.mv 9),
 oX 29 (.aw 0 2),
 oX 30 (.load false 1 29),
 oX 31 (.mv 7),
 oX 32 (.cf 1 30 31),
 oX 33 (.load false 1 32),
 oX 34 (.bin .eql 28 33)])
 (.cond 34
 (.af false [
 oX 35 (.mv 5),
 oX 36 (.mv 8),
 oX 37 (.mv 6),
 oX 38 (.cf 1 35 36),
 uX (.store 1 38 37)])
 .skip))))
 (.af false [
 oX 39 (.bin .add 23 (kX 1)),
 oX 23 (.mv 39)]))))))))
 (.af false [
 oX 40 (.mv 6),
 oX 41 (.aw 1 2),
 oX 42 (.load false 1 41),
 oX 43 (.mv 7),
 oX 44 (.cf 1 42 43),
 oX 45 (.load false 1 44),
 oX 46 (.bin .mul 40 45),
 oX 6 (.mv 46)]))))
 (.af false [
 oX 19 (.mv 7),
 oX 20 (.bin .sub 19 (kX 1)),
 oX 7 (.mv 20)])))))))
 (.seq
 (.af false [
 oX 47 (.mv 5),
 oX 4 (.mv 47)])
 .ret)))))
def SE:List bD:=[.tmp 4]
theorem aoH (NN:Nat) (x:aV (ao.aU Iz)):dH NN [] VI SE Iz Uv x=MT NN x:=by kernel_rfl
theorem alQ:cj pX 119 VI.er SE 2=true:=by decide+kernel
theorem apZ:dj pX 119 OM.M/\bH pX 119=true:=
  dN (T:=[]) (sc:=VI) (ms:=SE) (args:=Iz) (aF:=Uv) (aB.nil) cL alQ Bc fun x y h=>(aoH aC x).trans (ahS x y h)
def Ox:az:=⟨121,Ic,ang,Ub,AZ⟩
def Vp:bz:=
 (.seq
 (.af false [
 oX 4 (.mv (kX 0))])
 (.seq
 (.af false [
 oX 5 (.mv (kX 0))])
 (.seq
 (.seq
 (.af false [
 oX 7 (.mv 0),
 oX 8 (.len 7),
 oX 9 (.mv (kX 0))])
 (.join ⟨[(5,sX)],[]⟩ [] []
 (.block 0
 (.loop 0 ⟨[(0,.one (.c (.v (lX)))),(1,.one (.c (.v (lX)))),(5,sX),(8,sX),(9,sX)],[]⟩ [] []
 (.seq
 (.af false [
 oX 10 (.bin .lss 9 8)])
 (.seq
 (.cond 10
 .skip
 (.exit 0))
 (.seq
 (.block 1
 (.seq
 (.af false [
 oX 11 (.mv 9),
 oX 6 (.mv 11)])
 (.af true [
 oX 12 (.mv 5),
 oX 13 (.mv 0),
 oX 14 (.mv 6),
 oX 15 (.cf 1 13 14),
 oX 16 (.load false 1 15),
 oX 17 (.mv 1),
 oX 18 (.mv 6),
 oX 19 (.cf 1 17 18),
 oX 20 (.load false 1 19),
 oX 21 (.bin .mul 16 20),
 oX 22 (.bin .add 12 21),
 oX 5 (.mv 22)])))
 (.af false [
 oX 23 (.bin .add 9 (kX 1)),
 oX 9 (.mv 23)]))))))))
 (.seq
 (.af false [
 oX 24 (.mv 5),
 oX 4 (.mv 24)])
 .ret))))
def Sh:List bD:=[.tmp 4]
theorem aoo (NN:Nat) (x:aV (ao.aU Ic)):dH NN [] Vp Sh Ic Ub x=ME NN x:=by kernel_rfl
theorem alx:cj pX 121 Vp.er Sh 2=true:=by decide+kernel
theorem apL:dj pX 121 Ox.M/\bH pX 121=true:=
  dN (T:=[]) (sc:=Vp) (ms:=Sh) (args:=Ic) (aF:=Ub) (aB.nil) cL alx AZ fun x y h=>(aoo aC x).trans (ahz x y h)
def OD:az:=⟨120,Ip,ano,Uk,yd⟩
def Vy:bz:=
 (.seq
 (.af false [
 oX 3 (.box 3 0),
 oX 4 (.box 3 1),
 oX 6 (.mv (.k (.one (.nil iX))))])
 (.seq
 (.af false [
 oX 8 (.load true 3 3),
 oX 9 (.call .ae 89 [8]),
 oX 7 (.mv 9)])
 (.seq
 (.af false [
 oX 10 (.aw 2 4),
 oX 11 (.load false 1 10),
 oX 12 (.mv 2),
 oX 13 (.mv 7),
 oX 14 (.bin .mul 12 13),
 oX 15 (.mv 2),
 oX 16 (.bin .add 15 (kX 1)),
 oX 17 (.mv 7),
 oX 18 (.bin .mul 16 17),
 oX 19 (.slice 1 11 (some 14) (some 18)),
 oX 6 (.mv 19)])
 .ret)))
def Sr:List bD:=[.tmp 6]
theorem aox (NN:Nat) (x:aV (ao.aU Ip)):ov NN [ES] Vy Sr Ip Uk x=ML NN x:=by kernel_rfl
theorem alG:cj pX 120 Vy.er Sr 3=true:=by decide+kernel
theorem apR:lD Go.Proofs.Try.prog 120 OD.MV/\bH pX 120=true:=
  qv (T:=[ES]) (sc:=Vy) (ms:=Sr) (args:=Ip) (aF:=Uk) (aB.cons acu<|aB.nil) cL alG yd fun x y h=>(aox aC x).trans (ahI x y h)
def OG:az:=⟨91,Is,anr,Un,A8⟩
def VB:bz:=
 (.seq
 (.af false [
 oX 3 (.box 3 0),
 oX 4 (.box 3 1),
 oX 6 (.alloc [.nil iX,.nil iX,.nil iX])])
 (.seq
 (.af true [
 oX 12 (.mv 2),
 oX 13 (.call .ae 47 [12]),
 oX 14 (.mv 2),
 oX 15 (.len 14),
 oX 16 (.kF .ae iX 8 (0:Int) 15 15),
 oX 17 (.build [.nil iX,.nil iX,.nil iX] [(0,1,13),(1,1,16)]),
 oX 7 (.alloc [.nil iX,.nil iX,.nil iX]),
 uX (.store 3 7 17)])
 (.seq
 (.seq
 (.af false [
 oX 18 (.mv 2),
 oX 19 (.len 18),
 oX 20 (.mv (kX 0))])
 (.join ⟨[(2,.one (.c (.v (lX)))),(7,.one (rX 7)),(6,.one (rX 6)),(4,.one (rX 4)),(3,.one (rX 3))],[(3,.box [vX,vX,vX]),(4,.box [.c (.v (lX)),.c (.v (lX)),.c (.v (lX))]),(6,.box [fX 500006 1,fX 500007 1,fX 500008 1]),(7,.box [fX 500009 1,fX 500010 1,fX 500011 1]),(500006,.row true .ae iX),(500007,.row true .ae iX),(500008,.row true .ae iX),(500009,.row true .ae iX),(500010,.row true .ae iX),(500011,.row true .ae iX)]⟩ [3,4,6,7,500000,500001,500002,500003,500004,500005,500006,500007,500008,500009,500010,500011] [(true,6,0,500006,.ae,[]),(true,6,1,500007,.ae,[]),(true,6,2,500008,.ae,[]),(true,7,0,500009,.ae,[]),(true,7,1,500010,.ae,[]),(true,7,2,500011,.ae,[])]
 (.block 0
 (.loop 0 ⟨[(2,.one (.c (.v (lX)))),(3,.one (rX 3)),(4,.one (rX 4)),(6,.one (rX 6)),(7,.one (rX 7)),(18,.one (.c (.v (lX)))),(19,sX),(20,sX)],[(3,.box [vX,vX,vX]),(4,.box [.c (.v (lX)),.c (.v (lX)),.c (.v (lX))]),(6,.box [fX 500000 1,fX 500001 1,fX 500002 1]),(7,.box [fX 500003 1,fX 500004 1,fX 500005 1]),(500000,.row true .ae iX),(500001,.row true .ae iX),(500002,.row true .ae iX),(500003,.row true .ae iX),(500004,.row true .ae iX),(500005,.row true .ae iX)]⟩ [3,4,6,14000,16,7,500000,500001,500002,500003,500004,500005] [(true,6,0,500000,.ae,[]),(true,6,1,500001,.ae,[]),(true,6,2,500002,.ae,[]),(true,7,0,500003,.ae,[]),(true,7,1,500004,.ae,[]),(true,7,2,500005,.ae,[])]
 (.seq
 (.af false [
 oX 21 (.bin .lss 20 19)])
 (.seq
 (.cond 21
 .skip
 (.exit 0))
 (.seq
 (.block 1
 (.seq
 (.af false [
 oX 22 (.mv 20),
 oX 23 (.cf 1 18 20),
 oX 24 (.load false 1 23),
 oX 8 (.mv 22),
 oX 9 (.mv 24)])
 (.af true [
 oX 25 (.aw 1 7),
 oX 26 (.load false 1 25),
 oX 27 (.mv 8),
 oX 28 (.aw 1 4),
 oX 29 (.load false 1 28),
 oX 30 (.load true 3 4),
 oX 31 (.mv 9),
 oX 32 (.call .ae 118 [30,31]),
 oX 33 (.cf 1 29 32),
 oX 34 (.load false 1 33),
 oX 35 (.cf 1 26 27),
 uX (.store 1 35 34)])))
 (.af false [
 oX 36 (.bin .add 20 (kX 1)),
 oX 20 (.mv 36)]))))))))
 (.seq
 (.af false [
 oX 37 (.load true 3 4),
 oX 38 (.mv 2),
 oX 39 (.call .ae 119 [37,38]),
 oX 10 (.mv 39)])
 (.seq
 (.af false [
 oX 40 (.mv 2),
 oX 41 (.len 40),
 oX 42 (.kF .ae iX 8 (0:Int) 41 41),
 oX 11 (.mv 42)])
 (.block 2
 (.loop 0 ⟨[(3,.one (rX 3)),(4,.one (rX 4)),(6,.one (rX 6)),(7,.one (rX 7)),(10,.one (fX 500018 1)),(11,.one (fX 500019 1))],[(3,.box [vX,vX,vX]),(4,.box [.c (.v (lX)),.c (.v (lX)),.c (.v (lX))]),(6,.box [fX 500012 1,fX 500013 1,fX 500014 1]),(7,.box [fX 500015 1,fX 500016 1,fX 500017 1]),(500012,.row true .ae iX),(500013,.row true .ae iX),(500014,.row true .ae iX),(500015,.row true .ae iX),(500016,.row true .ae iX),(500017,.row true .ae iX),(500018,.row true .ae iX),(500019,.row true .ae iX)]⟩ [3,4,6,7,40000,42,51,500006,500007,500008,500009,500010,500011,500012,500013,500014,500015,500016,500017,500018,500019] [(true,6,0,500012,.ae,[]),(true,6,1,500013,.ae,[]),(true,6,2,500014,.ae,[]),(true,7,0,500015,.ae,[]),(true,7,1,500016,.ae,[]),(true,7,2,500017,.ae,[]),(false,10,0,500018,.ae,[]),(false,11,0,500019,.ae,[])]
 (.block 3
 (.seq
 (.af true [
 oX 43 (.aw 2 7),
 oX 44 (.load false 1 43),
 oX 45 (.load true 3 3),
 oX 46 (.load true 3 4),
 oX 47 (.mv 10),
 oX 48 (.mv 11),
 oX 49 (.call .ae 121 [47,48]),
 oX 50 (.mz 120 [45,46,49]),
 oX 51 (.append true iX 8 44 50),
 oX 52 (.aw 2 7),
 uX (.store 1 52 51)])
 (.seq
 (.af false [
 oX 53 (.aw 1 7),
 oX 54 (.load false 1 53),
 oX 55 (.mv 11),
 oX 56 (.fU .ae 58 [54,55]),
 oX 57 (.un .not 56)])
 (.cond 57
 (.seq
 (.af false [
 oX 58 (.load true 3 7),
 uX (.store 3 6 58)])
 .ret)
 .skip)))))))))))
def Sv:List bD:=[.cell 6 3 true]
theorem aoA (NN:Nat) (x:aV (ao.aU Is)):dH NN [pK,Oq,OM,Ox,OD,EQ] VB Sv Is Un x=MP NN x:=by kernel_rfl
theorem alJ:cj pX 91 VB.er Sv 3=true:=by decide+kernel
theorem apT:dj pX 91 OG.M/\bH pX 91=true:=
  dN (T:=[pK,Oq,OM,Ox,OD,EQ]) (sc:=VB) (ms:=Sv) (args:=Is) (aF:=Un) (aB.cons C7<|aB.cons apG<|aB.cons apZ<|aB.cons apL<|aB.kl apR<|aB.oK acr<|aB.nil) cL alJ A8 fun x y h=>(aoA aC x).trans (ahL x y h)
def Om:az:=⟨44,HY,am5,T0,vW⟩
def Vf:bz:=
 (.seq
 (.af false [
 oX 2 (.box 3 0),
 oX 3 (.box 3 1),
 oX 4 (.alloc [.nil iX,.nil iX,.nil iX])])
 (.seq
 (.seq
 (.af false [
 oX 5 (.load true 3 2),
 oX 6 (.load true 3 3),
 oX 7 (.call .ae 43 [5,6]),
 oX 8 (.un .not 7)])
 (.cond 8
 (.seq
 (.af false [
 oX 9 (.build [.nil iX,.nil iX,.nil iX] []),
 uX (.store 3 4 9)])
 .ret)
 .skip))
 (.seq
 (.af true [
 oX 10 (.load true 3 2),
 oX 11 (.load true 3 3),
 oX 12 (.aw 0 3),
 oX 13 (.load false 1 12),
 oX 14 (.call .ae 92 [13]),
 oX 15 (.call .ae 91 [10,11,14]),
 uX (.store 3 4 15)])
 .ret)))
def R7:List bD:=[.cell 4 3 true]
theorem aoe (NN:Nat) (x:aV (ao.aU HY)):dH NN [yT,OL,OG] Vf R7 HY T0 x=Mw NN x:=by kernel_rfl
theorem aln:cj pX 44 Vf.er R7 2=true:=by decide+kernel
theorem apD:dj pX 44 Om.M/\bH pX 44=true:=
  dN (T:=[yT,OL,OG]) (sc:=Vf) (ms:=R7) (args:=HY) (aF:=T0) (aB.cons Tg<|aB.cons apY<|aB.cons apT<|aB.nil) cL aln vW fun x y h=>(aoe aC x).trans (ahp x y h)
def Oy:az:=⟨107,Ig,ani,Ud,sT⟩
def Vr:bz:=
 (.seq
 (.af false [
 oX 4 (.mv (.k (.one (.v (.bool) (false)))))])
 (.seq
 (.seq
 (.af false [
 oX 6 (.mv 0),
 oX 7 (.len 6),
 oX 8 (.mv 1),
 oX 9 (.len 8),
 oX 10 (.bin .neq 7 9)])
 (.cond 10
 (.seq
 (.af false [
 oX 4 (.mv (.k (.one (.v (.bool) (false)))))])
 .ret)
 .skip))
 (.seq
 (.seq
 (.af false [
 oX 11 (.mv 0),
 oX 12 (.len 11),
 oX 13 (.mv (kX 0))])
 (.join ⟨[],[]⟩ [] []
 (.block 0
 (.loop 0 ⟨[(0,.one (.c (.v (lX)))),(1,.one (.c (.v (lX)))),(12,sX),(13,sX)],[]⟩ [] []
 (.seq
 (.af false [
 oX 14 (.bin .lss 13 12)])
 (.seq
 (.cond 14
 .skip
 (.exit 0))
 (.seq
 (.block 1
 (.seq
 (.af false [
 oX 15 (.mv 13),
 oX 5 (.mv 15)])
 (.seq
 (.af true [
 oX 16 (.mv 0),
 oX 17 (.mv 5),
 oX 18 (.cf 1 16 17),
 oX 19 (.load false 1 18),
 oX 20 (.mv 1),
 oX 21 (.mv 5),
 oX 22 (.cf 1 20 21),
 oX 23 (.load false 1 22),
 oX 24 (.bin .neq 19 23)])
 (.cond 24
 (.seq
 (.af false [
 oX 4 (.mv (.k (.one (.v (.bool) (false)))))])
 .ret)
 .skip))))
 (.af false [
 oX 25 (.bin .add 13 (kX 1)),
 oX 13 (.mv 25)]))))))))
 (.seq
 (.af false [
 oX 4 (.mv (.k (.one (.v (.bool) (true)))))])
 .ret))))
def Sj:List bD:=[.tmp 4]
theorem aoq (NN:Nat) (x:aV (ao.aU Ig)):dH NN [] Vr Sj Ig Ud x=MF NN x:=by kernel_rfl
theorem alz:cj pX 107 Vr.er Sj 2=true:=by decide+kernel
theorem apM:dj pX 107 Oy.M/\bH pX 107=true:=
  dN (T:=[]) (sc:=Vr) (ms:=Sj) (args:=Ig) (aF:=Ud) (aB.nil) cL alz sT fun x y h=>(aoq aC x).trans (ahB x y h)
def Oz:az:=⟨77,Ih,anj,Ue,DW⟩
def Vs:bz:=
 (.seq
 (.af false [
 oX 2 (.box 3 0),
 oX 3 (.box 3 1),
 oX 4 (.mv (.k (.one (.v (.bool) (false)))))])
 (.seq
 (.af false [
 oX 5 (.aw 0 2),
 oX 6 (.load false 1 5),
 oX 7 (.aw 0 3),
 oX 8 (.load false 1 7),
 oX 9 (.call .ae 107 [6,8]),
 oX 10 (.mv 9),
 ⟨(some 11),.aw 1 2,(some (10,true))⟩,
 ⟨(some 12),.load false 1 11,(some (10,true))⟩,
 ⟨(some 13),.aw 1 3,(some (10,true))⟩,
 ⟨(some 14),.load false 1 13,(some (10,true))⟩,
 ⟨(some 15),.call .ae 107 [12,14],(some (10,true))⟩,
 oX 16 (.pick 10 15 (.k (.one (.v (.bool) (false))))),
 oX 17 (.mv 16),
 ⟨(some 18),.aw 2 2,(some (17,true))⟩,
 ⟨(some 19),.load false 1 18,(some (17,true))⟩,
 ⟨(some 20),.aw 2 3,(some (17,true))⟩,
 ⟨(some 21),.load false 1 20,(some (17,true))⟩,
 ⟨(some 22),.call .ae 107 [19,21],(some (17,true))⟩,
 oX 23 (.pick 17 22 (.k (.one (.v (.bool) (false))))),
 oX 4 (.mv 23)])
 .ret))
def Sk:List bD:=[.tmp 4]
theorem aor (NN:Nat) (x:aV (ao.aU Ih)):dH NN [Oy] Vs Sk Ih Ue x=He NN x:=by kernel_rfl
theorem alA:cj pX 77 Vs.er Sk 2=true:=by decide+kernel
theorem apN:dj pX 77 Oz.M/\bH pX 77=true:=
  dN (T:=[Oy]) (sc:=Vs) (ms:=Sk) (args:=Ih) (aF:=Ue) (aB.cons apM<|aB.nil) cL alA DW fun x y h=>(aor aC x).trans (ahC x y h)
def Ok:az:=⟨33,HW,am3,TY,AS⟩
def Vd:bz:=
 (.seq
 (.af false [
 oX 3 (.box 3 0),
 oX 4 (.box 3 1),
 oX 5 (.box 3 2),
 oX 6 (.mv (.k (.one (.v (.bool) (false)))))])
 (.seq
 (.af true [
 oX 7 (.load true 3 3),
 oX 8 (.load true 3 4),
 oX 9 (.call .ae 43 [7,8]),
 oX 10 (.mv 9),
 ⟨(some 11),.load true 3 3,(some (10,true))⟩,
 ⟨(some 12),.load true 3 5,(some (10,true))⟩,
 ⟨(some 13),.call .ae 43 [11,12],(some (10,true))⟩,
 oX 14 (.pick 10 13 (.k (.one (.v (.bool) (false))))),
 oX 15 (.mv 14),
 ⟨(some 16),.load true 3 3,(some (15,true))⟩,
 ⟨(some 17),.load true 3 4,(some (15,true))⟩,
 ⟨(some 18),.call .ae 44 [16,17],(some (15,true))⟩,
 ⟨(some 19),.load true 3 3,(some (15,true))⟩,
 ⟨(some 20),.load true 3 5,(some (15,true))⟩,
 ⟨(some 21),.call .ae 44 [19,20],(some (15,true))⟩,
 ⟨(some 22),.call .ae 77 [18,21],(some (15,true))⟩,
 oX 23 (.pick 15 22 (.k (.one (.v (.bool) (false))))),
 oX 6 (.mv 23)])
 .ret))
def R5:List bD:=[.tmp 6]
theorem aoc (NN:Nat) (x:aV (ao.aU HW)):dH NN [yT,Om,Oz] Vd R5 HW TY x=Hd NN x:=by kernel_rfl
theorem alk:cj pX 33 Vd.er R5 3=true:=by decide+kernel
theorem apB:dj pX 33 Ok.M/\bH pX 33=true:=
  dN (T:=[yT,Om,Oz]) (sc:=Vd) (ms:=R5) (args:=HW) (aF:=TY) (aB.cons Tg<|aB.cons apD<|aB.cons apN<|aB.nil) cL alk AS fun x y h=>(aoc aC x).trans (ahn x y h)
def JK:az:=⟨6,wk,anA,Uw,Mi⟩
def VJ:bz:=
 (.seq
 (.af false [
 oX 2 (.mv (.k (.one (.v (.bool) (false)))))])
 (.seq
 (.seq
 (.af false [
 oX 24 (.mv 0),
 oX 25 (.len 24),
 oX 26 (.bin .gtr 25 (kX 1048576))])
 (.cond 26
 (.seq
 (.af false [
 oX 2 (.mv (.k (.one (.v (.bool) (true)))))])
 .ret)
 .skip))
 (.seq
 (.af false [
 oX 27 (.mv 0),
 oX 28 (.dT 16 [27,(kX 0)]),
 oX 3 (.mv 28)])
 (.seq
 (.af false [
 oX 29 (.mv 0),
 oX 30 (.dT 24 [29,(kX 2),(kX 1),(kX 3)]),
 oX 4 (.mv 30)])
 (.seq
 (.af false [
 oX 31 (.mv 0),
 oX 32 (.dT 24 [31,(kX 4),(kX 1),(kX 3)]),
 oX 5 (.mv 32)])
 (.seq
 (.af false [
 oX 33 (.mv 0),
 oX 34 (.mv 3),
 oX 35 (.mv 4),
 oX 36 (.mv 4),
 oX 37 (.mv 5),
 oX 38 (.gd iX [35,36,37]),
 oX 39 (.dT 19 [33,(kX 30),34,38]),
 oX 6 (.alloc [zX,.nil gX]),
 uX (.store 2 6 39)])
 (.seq
 (.af false [
 oX 41 (.mv 3),
 oX 42 (.mv 4),
 oX 43 (.mv 5),
 oX 44 (.call .ae 29 [41,42,43]),
 oX 40 (.mv 44),
 oX 45 (.ext 0 40),
 oX 46 (.ext 1 40),
 oX 7 (.alloc [zX,zX,.nil iX]),
 uX (.store 3 7 45),
 oX 8 (.mv 46)])
 (.seq
 (.af false [
 oX 48 (.mv 3),
 oX 49 (.mv 5),
 oX 50 (.mv 4),
 oX 51 (.call .ae 29 [48,49,50]),
 oX 47 (.mv 51),
 oX 52 (.ext 0 47),
 oX 53 (.ext 1 47),
 oX 9 (.alloc [zX,zX,.nil iX]),
 uX (.store 3 9 52),
 oX 10 (.mv 53)])
 (.seq
 (.af false [
 oX 55 (.mv 3),
 oX 56 (.load true 3 9),
 oX 57 (.load true 3 7),
 oX 58 (.call .ae 30 [55,56,57]),
 oX 54 (.mv 58),
 oX 59 (.ext 0 54),
 oX 60 (.ext 1 54),
 oX 11 (.alloc [zX,zX,.nil iX]),
 uX (.store 3 11 59),
 oX 12 (.mv 60)])
 (.seq
 (.af false [
 oX 62 (.mv 3),
 oX 63 (.mv 4),
 oX 64 (.mv 4),
 oX 65 (.call .ae 29 [62,63,64]),
 oX 61 (.mv 65),
 oX 66 (.ext 0 61),
 oX 67 (.ext 1 61),
 oX 13 (.alloc [zX,zX,.nil iX]),
 uX (.store 3 13 66),
 oX 14 (.mv 67)])
 (.seq
 (.af false [
 oX 69 (.load true 2 6),
 oX 70 (.load true 3 13),
 oX 71 (.call .ae 31 [69,(kX 0),70]),
 oX 68 (.mv 71),
 oX 72 (.ext 0 68),
 oX 73 (.ext 1 68),
 oX 15 (.alloc [zX,.nil gX]),
 uX (.store 2 15 72),
 oX 16 (.mv 73)])
 (.seq
 (.af false [
 oX 75 (.load true 2 15),
 oX 76 (.load true 3 13),
 oX 77 (.call .ae 31 [75,(kX 0),76]),
 oX 74 (.mv 77),
 oX 78 (.ext 0 74),
 oX 79 (.ext 1 74),
 oX 17 (.alloc [zX,.nil gX]),
 uX (.store 2 17 78),
 oX 18 (.mv 79)])
 (.seq
 (.seq
 (.af true [
 oX 80 (.mv 8),
 oX 81 (.un .not 80),
 oX 82 (.mv 81),
 ⟨(some 83),.mv 10,(some (82,false))⟩,
 ⟨(some 84),.un .not 83,(some (82,false))⟩,
 oX 85 (.pick 82 (.k (.one (.v (.bool) (true)))) 84),
 oX 86 (.mv 85),
 ⟨(some 87),.mv 12,(some (86,false))⟩,
 ⟨(some 88),.un .not 87,(some (86,false))⟩,
 oX 89 (.pick 86 (.k (.one (.v (.bool) (true)))) 88),
 oX 90 (.mv 89),
 ⟨(some 91),.mv 14,(some (90,false))⟩,
 ⟨(some 92),.un .not 91,(some (90,false))⟩,
 oX 93 (.pick 90 (.k (.one (.v (.bool) (true)))) 92),
 oX 94 (.mv 93),
 ⟨(some 95),.mv 16,(some (94,false))⟩,
 ⟨(some 96),.un .not 95,(some (94,false))⟩,
 oX 97 (.pick 94 (.k (.one (.v (.bool) (true)))) 96),
 oX 98 (.mv 97),
 ⟨(some 99),.mv 18,(some (98,false))⟩,
 ⟨(some 100),.un .not 99,(some (98,false))⟩,
 oX 101 (.pick 98 (.k (.one (.v (.bool) (true)))) 100),
 oX 102 (.mv 101),
 ⟨(some 103),.load true 2 17,(some (102,false))⟩,
 ⟨(some 104),.call .ae 18 [103],(some (102,false))⟩,
 ⟨(some 105),.load true 2 6,(some (102,false))⟩,
 ⟨(some 106),.call .ae 18 [105],(some (102,false))⟩,
 ⟨(some 107),.call .ae 22 [104,106],(some (102,false))⟩,
 ⟨(some 108),.un .not 107,(some (102,false))⟩,
 oX 109 (.pick 102 (.k (.one (.v (.bool) (true)))) 108),
 oX 110 (.mv 109),
 ⟨(some 111),.aw 2 11,(some (110,false))⟩,
 ⟨(some 112),.load false 1 111,(some (110,false))⟩,
 ⟨(some 113),.len 112,(some (110,false))⟩,
 ⟨(some 114),.mv 4,(some (110,false))⟩,
 ⟨(some 115),.mv 5,(some (110,false))⟩,
 ⟨(some 116),.bin .mul 114 115,(some (110,false))⟩,
 ⟨(some 117),.mv 4,(some (110,false))⟩,
 ⟨(some 118),.bin .mul 116 117,(some (110,false))⟩,
 ⟨(some 119),.mv 5,(some (110,false))⟩,
 ⟨(some 120),.bin .mul 118 119,(some (110,false))⟩,
 ⟨(some 121),.bin .neq 113 120,(some (110,false))⟩,
 oX 122 (.pick 110 (.k (.one (.v (.bool) (true)))) 121)])
 (.cond 122
 (.seq
 (.af false [
 oX 2 (.mv (.k (.one (.v (.bool) (false)))))])
 .ret)
 .skip))
 (.seq
 (.seq
 (.af false [
 oX 123 (.aw 2 11),
 oX 124 (.load false 1 123),
 oX 125 (.len 124),
 oX 126 (.mv (kX 0))])
 (.join ⟨[(3,sX),(15,.one (rX 15)),(6,.one (rX 6))],[(6,.box [vX,.c (.v (.list gX))]),(15,.box [vX,fX 500002 4]),(500002,.row true .ae gX)]⟩ [6,15,500000,500001,500002] [(true,15,1,500002,.ae,[])]
 (.block 0
 (.loop 0 ⟨[(3,sX),(4,sX),(5,sX),(6,.one (rX 6)),(15,.one (rX 15)),(124,.one (fX 500001 1)),(125,sX),(126,sX)],[(6,.box [vX,.c (.v (.list gX))]),(15,.box [vX,fX 500000 4]),(500000,.row true .ae gX),(500001,.row true .ae iX)]⟩ [6,45000,7,52000,9,59000,11,66000,13,72000,15,78000,17,105000,105001,105002,107000,107001,107002,500000,500001] [(true,15,1,500000,.ae,[]),(false,124,0,500001,.ae,[])]
 (.seq
 (.af false [
 oX 127 (.bin .lss 126 125)])
 (.seq
 (.cond 127
 .skip
 (.exit 0))
 (.seq
 (.block 1
 (.seq
 (.af false [
 oX 128 (.mv 126),
 oX 129 (.cf 1 124 126),
 oX 130 (.load false 1 129),
 oX 19 (.mv 128),
 oX 20 (.mv 130)])
 (.seq
 (.af false [
 oX 131 (.mv 20),
 oX 132 (.bin .eql 131 (kX 1)),
 oX 133 (.mv 19),
 oX 134 (.mv 4),
 oX 135 (.mv 5),
 oX 136 (.bin .mul 134 135),
 oX 137 (.bin .add 136 (kX 1)),
 oX 138 (.bin .rem 133 137),
 oX 139 (.bin .eql 138 (kX 0)),
 oX 140 (.oJ .neq 132 139),
 oX 141 (.mv 140),
 ⟨(some 142),.mv 20,(some (141,false))⟩,
 ⟨(some 143),.bin .gtr 142 (kX 1),(some (141,false))⟩,
 oX 144 (.pick 141 (.k (.one (.v (.bool) (true)))) 143)])
 (.cond 144
 (.seq
 (.af false [
 oX 2 (.mv (.k (.one (.v (.bool) (false)))))])
 .ret)
 .skip))))
 (.af false [
 oX 145 (.bin .add 126 (kX 1)),
 oX 126 (.mv 145)]))))))))
 (.seq
 (.af false [
 oX 146 (.mv 3),
 oX 147 (.build [zX,zX,zX] [(0,1,(kX 2)),(1,1,146)]),
 oX 21 (.alloc [zX,zX,zX]),
 uX (.store 3 21 147)])
 (.seq
 (.pi [(0,3),(1,3),(2,3),(0,4),(1,4),(2,4),(3,4),(3,9),(4,9)] [
 oX 149 (.load true 3 21),
 oX 150 (.load true 2 15),
 oX 151 (.call .ae 18 [150]),
 oX 152 (.gd iX [(kX 0),(kX 1)]),
 oX 153 (.gd iX [(kX 1),(kX 0)]),
 oX 154 (.call .ae 32 [149,151,152,153]),
 oX 148 (.mv 154),
 oX 155 (.ext 0 148),
 oX 156 (.ext 1 148),
 oX 22 (.alloc [.nil iX,.nil iX,.nil iX]),
 uX (.store 3 22 155),
 oX 23 (.mv 156)])
 (.seq
 (.af true [
 oX 157 (.mv 23),
 oX 158 (.mv 157),
 ⟨(some 159),.load true 3 21,(some (158,true))⟩,
 ⟨(some 160),.load true 3 22,(some (158,true))⟩,
 ⟨(some 161),.load true 2 6,(some (158,true))⟩,
 ⟨(some 162),.call .ae 18 [161],(some (158,true))⟩,
 ⟨(some 163),.call .ae 33 [159,160,162],(some (158,true))⟩,
 oX 164 (.pick 158 163 (.k (.one (.v (.bool) (false))))),
 oX 2 (.mv 164)])
 .ret)))))))))))))))))
def SF:List bD:=[.tmp 2]
theorem aoI (NN:Nat) (x:aV (ao.aU wk)):dH NN [OV,OW,OT,On,Oh,Oc,Od,OO,Oi,Ok] VJ SF wk Uw x=Hj NN x:=by kernel_rfl
theorem alR:cj pX 6 VJ.er SF 1=true:=by decide+kernel
theorem ap0:dj pX 6 JK.M/\bH pX 6=true:=
  dN (T:=[OV,OW,OT,On,Oh,Oc,Od,OO,Oi,Ok]) (sc:=VJ) (ms:=SF) (args:=wk) (aF:=Uw) (aB.kl ap9<|aB.kl aqa<|aB.kl ap7<|aB.cons apE<|aB.cons apy<|aB.cons apt<|aB.cons apu<|aB.cons ap2<|aB.cons apz<|aB.cons apB<|aB.nil) cL alR Mi fun x y h=>(aoI aC x).trans (ahT x y h)
end Go.Am
