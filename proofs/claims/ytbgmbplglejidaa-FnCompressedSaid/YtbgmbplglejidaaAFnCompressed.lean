/- A_FnCompressed: the code of the functions of FnCompressed. No condition. -/
import Derived.Test.YtbgmbplglejidaaLFnCompressed
import Derived.Test.YtbgmbplglejidaaBr2
import Derived.KernelRfl
import Derived.Test.YtbgmbplglejidaaRows
import Derived.Test.YtbgmbplglejidaaTLen
set_option linter.unusedVariables false
set_option maxRecDepth 100000
namespace Go.Am
theorem cL:Go.Proofs.Try.prog.follows .mixedOrders=true:=by decide+kernel
noncomputable abbrev pX:=Go.Proofs.Try.prog
def oX (n:Nat) (x:cI):fm:=⟨some n,x,none⟩
def uX (x:cI):fm:=⟨none,x,none⟩
def kX (n:Int):cE:=.k (.one (.v (.int .i64) n))
def sX:jc:=.one (.c (.v (.int .i64)))
def iX:List Ty:=[.int .i64]
def lX:Ty:=.list iX
def gX:List Ty:=[.int .i64,.int .i64,.int .i64,lX]
def zX:SC:=.v (.int .i64) (0:Int)
def vX:dY:=.c (.v (.int .i64))
def fX (n k:Nat):dY:=.c (.full n k)
def rX (n:Nat):dY:=.c (.Fs n 0)
instance tX (n:Nat):OfNat cE n:=⟨.t n⟩
def Oq:aw:=⟨96,HY,akW,TF,As⟩
def UQ:bA:=
 (.seq
 (.ae false [
 oX 2 (.mv (.k (.one (.bn))))])
 (.seq
 (.ae false [
 oX 5 (.mv 0),
 oX 6 (.len 5),
 oX 7 (.bin .add (kX 55127) 6),
 oX 3 (.mv 7)])
 (.seq
 (.seq
 (.ae false [
 oX 4 (.mv (kX 0))])
 (.join ⟨[(0,.one (.c (.v (.list [.int .u8])))),(3,sX)],[]⟩ [] []
 (.block 0
 (.loop 0 ⟨[(0,.one (.c (.v (.list [.int .u8])))),(3,sX),(4,sX)],[]⟩ [] []
 (.seq
 (.seq
 (.ae false [
 oX 8 (.mv 4),
 oX 9 (.mv 0),
 oX 10 (.len 9),
 oX 11 (.bin .lss 8 10),
 oX 12 (.mv 11),
 ⟨(some 13),.mv 4,(some (12,true))⟩,
 ⟨(some 14),.bin .lss 13 (kX 4000),(some (12,true))⟩,
 oX 15 (.pick 12 14 (.k (.one (.v (.bool) (false)))))])
 (.cond 15
 .skip
 (.exit 0)))
 (.seq
 (.block 1
 (.ae false [
 oX 18 (.mv 3),
 oX 19 (.bin .mul 18 (kX 131)),
 oX 20 (.mv 0),
 oX 21 (.mv 4),
 oX 22 (.cb 1 20 21),
 oX 23 (.load false 1 22),
 oX 24 (.conv .i64 23),
 oX 25 (.bin .add 19 24),
 oX 26 (.bin .add 25 (kX 7)),
 oX 27 (.bin .and 26 (kX 1073741823)),
 oX 3 (.mv 27)]))
 (.ae false [
 oX 16 (.mv 4),
 oX 17 (.bin .add 16 (kX 1)),
 oX 4 (.mv 17)])))))))
 (.seq
 (.ae false [
 oX 28 (.mv 0),
 oX 29 (.mv 3),
 oX 30 (.build [.nil [.int .u8],zX,zX] [(0,1,28),(2,1,29)]),
 oX 31 (.box 3 30),
 oX 2 (.mv 31)])
 .ret))))
def RS:List bC:=[.tmp 2]
theorem al2 (NN:Nat) (x:aS (ak.aR HY)):n5 NN [] UQ RS HY TF x=GH NN x:=by kernel_rfl
theorem ajH:ct pX 96 UQ.er RS 1=true:=by decide+kernel
theorem ang:kT Go.Proofs.Try.prog 96 Oq.MV/\bD pX 96=true:=
  qk (T:=[]) (sc:=UQ) (ms:=RS) (args:=HY) (aD:=TF) (aB.nil) cL ajH As fun x y h=>(al2 aE x).trans (ag7 x y h)
def ym:aw:=⟨54,H9,ak3,TM,vJ⟩
def UY:bA:=
 (.seq
 (.ae false [
 oX 4 (.mv (.k (.one (.bn))))])
 (.seq
 (.ae false [
 oX 6 (.mv 0),
 oX 7 (.dZ 96 [6]),
 oX 5 (.mv 7)])
 (.seq
 (.ae false [
 oX 8 (.mv 5),
 oX 9 (.mv 1),
 oX 10 (.mv 0),
 oX 11 (.len 10),
 oX 12 (.mm false 9 11),
 oX 13 (.gR 8),
 oX 14 (.ar 1 13),
 uX (.store 1 14 12)])
 (.seq
 (.ae false [
 oX 15 (.mv 5),
 oX 16 (.mv 5),
 oX 17 (.gR 16),
 oX 18 (.ar 2 17),
 oX 19 (.load false 1 18),
 oX 20 (.bin .mul 19 (kX 31)),
 oX 21 (.mv 1),
 oX 22 (.bin .mul 21 (kX 7919)),
 oX 23 (.bin .add 20 22),
 oX 24 (.bin .add 23 (kX 1)),
 oX 25 (.bin .and 24 (kX 1073741823)),
 oX 26 (.gR 15),
 oX 27 (.ar 2 26),
 uX (.store 1 27 25)])
 (.seq
 (.ae false [
 oX 28 (.mv 5),
 oX 4 (.mv 28)])
 .ret)))))
def R0:List bC:=[.tmp 4]
theorem al9 (NN:Nat) (x:aS (ak.aR H9)):n5 NN [Oq] UY R0 H9 TM x=GO NN x:=by kernel_rfl
theorem ajO:ct pX 54 UY.er R0 2=true:=by decide+kernel
theorem Sg:kT Go.Proofs.Try.prog 54 ym.MV/\bD pX 54=true:=
  qk (T:=[Oq]) (sc:=UY) (ms:=R0) (args:=H9) (aD:=TM) (aB.jV ang<|aB.nil) cL ajO vJ fun x y h=>(al9 aE x).trans (ahe x y h)
def Oo:aw:=⟨105,HX,akV,TE,Ar⟩
def UP:bA:=
 (.seq
 (.ae false [
 oX 2 (.mv (kX 0))])
 (.seq
 (.ae false [
 oX 4 (.mv 0),
 oX 5 (.mv 0),
 oX 6 (.gR 5),
 oX 7 (.ar 2 6),
 oX 8 (.load false 1 7),
 oX 9 (.bin .mul 8 (kX 6364136223846793005)),
 oX 10 (.bin .add 9 (kX 1442695040888963407)),
 oX 11 (.gR 4),
 oX 12 (.ar 2 11),
 uX (.store 1 12 10)])
 (.seq
 (.ae true [
 oX 13 (.mv 0),
 oX 14 (.gR 13),
 oX 15 (.ar 2 14),
 oX 16 (.load false 1 15),
 oX 17 (.bin .shr 16 (.k (.one (.v (.int .u64) ((33:Int)))))),
 oX 18 (.mv 0),
 oX 19 (.gR 18),
 oX 20 (.ar 2 19),
 oX 21 (.load false 1 20),
 oX 22 (.bin .shr 21 (.k (.one (.v (.int .u64) ((45:Int)))))),
 oX 23 (.bin .xor 17 22),
 oX 24 (.bin .and 23 (kX 255)),
 oX 3 (.mv 24)])
 (.seq
 (.seq
 (.ae true [
 oX 25 (.mv 0),
 oX 26 (.gR 25),
 oX 27 (.ar 1 26),
 oX 28 (.load false 1 27),
 oX 29 (.mv 0),
 oX 30 (.gR 29),
 oX 31 (.ar 0 30),
 oX 32 (.load false 1 31),
 oX 33 (.len 32),
 oX 34 (.bin .lss 28 33)])
 (.join ⟨[(3,sX)],[(1000000,.box [.c (.v (.list [.int .u8])),vX,vX])]⟩ [1000000] []
 (.cond 34
 (.seq
 (.ae true [
 oX 35 (.mv 3),
 oX 36 (.mv 0),
 oX 37 (.gR 36),
 oX 38 (.ar 0 37),
 oX 39 (.load false 1 38),
 oX 40 (.mv 0),
 oX 41 (.gR 40),
 oX 42 (.ar 1 41),
 oX 43 (.load false 1 42),
 oX 44 (.cb 1 39 43),
 oX 45 (.load false 1 44),
 oX 46 (.conv .i64 45),
 oX 47 (.bin .add 35 46),
 oX 48 (.bin .and 47 (kX 255)),
 oX 3 (.mv 48)])
 (.ae false [
 oX 49 (.mv 0),
 oX 50 (.mv 0),
 oX 51 (.gR 50),
 oX 52 (.ar 1 51),
 oX 53 (.load false 1 52),
 oX 54 (.bin .add 53 (kX 1)),
 oX 55 (.gR 49),
 oX 56 (.ar 1 55),
 uX (.store 1 56 54)]))
 .skip)))
 (.seq
 (.ae false [
 oX 57 (.mv 3),
 oX 2 (.mv 57)])
 .ret)))))
def RR:List bC:=[.tmp 2]
theorem al1 (NN:Nat) (x:aS (ak.aR HX)):n5 NN [] UP RR HX TE x=GG NN x:=by kernel_rfl
theorem ajG:ct pX 105 UP.er RR 1=true:=by decide+kernel
theorem anf:kT Go.Proofs.Try.prog 105 Oo.MV/\bD pX 105=true:=
  qk (T:=[]) (sc:=UP) (ms:=RR) (args:=HX) (aD:=TE) (aB.nil) cL ajG Ar fun x y h=>(al1 aE x).trans (ag6 x y h)
def rY:aw:=⟨95,HW,akU,TC,rH⟩
def UO:bA:=
 (.seq
 (.ae false [
 oX 4 (.mv (kX 0))])
 (.seq
 (.seq
 (.ae false [
 oX 5 (.mv 1),
 oX 6 (.bin .leq 5 (kX 0))])
 (.cond 6
 (.seq
 (.ae false [
 oX 4 (.mv (kX 0))])
 .ret)
 .skip))
 (.seq
 (.ae false [
 oX 7 (.mv 0),
 oX 8 (.dZ 105 [7]),
 oX 9 (.mv 1),
 oX 10 (.bin .rem 8 9),
 oX 4 (.mv 10)])
 .ret)))
def RQ:List bC:=[.tmp 4]
theorem al0 (NN:Nat) (x:aS (ak.aR HW)):n5 NN [Oo] UO RQ HW TC x=GF NN x:=by kernel_rfl
theorem ajF:ct pX 95 UO.er RQ 2=true:=by decide+kernel
theorem Fj:kT Go.Proofs.Try.prog 95 rY.MV/\bD pX 95=true:=
  qk (T:=[Oo]) (sc:=UO) (ms:=RQ) (args:=HW) (aD:=TC) (aB.jV anf<|aB.nil) cL ajF rH fun x y h=>(al0 aE x).trans (ag5 x y h)
def Ot:aw:=⟨53,H4,akY,TH,Au⟩
def US:bA:=
 (.seq
 (.ae false [
 oX 4 (.mv (kX 0))])
 (.seq
 (.ae false [
 oX 5 (.mv 1),
 oX 6 (.mv 0),
 oX 7 (.mv 1),
 oX 8 (.len 7),
 oX 9 (.dZ 95 [6,8]),
 oX 10 (.cb 1 5 9),
 oX 11 (.load false 1 10),
 oX 4 (.mv 11)])
 .ret))
def RU:List bC:=[.tmp 4]
theorem al4 (NN:Nat) (x:aS (ak.aR H4)):n5 NN [rY] US RU H4 TH x=GJ NN x:=by kernel_rfl
theorem ajJ:ct pX 53 US.er RU 2=true:=by decide+kernel
theorem anh:kT Go.Proofs.Try.prog 53 Ot.MV/\bD pX 53=true:=
  qk (T:=[rY]) (sc:=US) (ms:=RU) (args:=H4) (aD:=TH) (aB.jV Fj<|aB.nil) cL ajJ Au fun x y h=>(al4 aE x).trans (ag9 x y h)
def On:aw:=⟨16,HV,akT,TB,Aq⟩
def UN:bA:=
 (.seq
 (.ae false [
 oX 4 (.mv (kX 0))])
 (.seq
 (.ae false [
 oX 5 (.mv 0),
 oX 6 (.mv 1),
 oX 7 (.dZ 54 [5,6]),
 oX 8 (.fC iX [(kX 2),(kX 3),(kX 7),(kX 101),(kX 1000003)]),
 oX 9 (.dZ 53 [7,8]),
 oX 4 (.mv 9)])
 .ret))
def RP:List bC:=[.tmp 4]
theorem alZ (NN:Nat) (x:aS (ak.aR HV)):n5 NN [ym,Ot] UN RP HV TB x=GD NN x:=by kernel_rfl
theorem ajE:ct pX 16 UN.er RP 2=true:=by decide+kernel
theorem ane:kT Go.Proofs.Try.prog 16 On.MV/\bD pX 16=true:=
  qk (T:=[ym,Ot]) (sc:=UN) (ms:=RP) (args:=HV) (aD:=TB) (aB.jV Sg<|aB.jV anh<|aB.nil) cL ajE Aq fun x y h=>(alZ aE x).trans (ag4 x y h)
def Ox:aw:=⟨55,H8,ak2,TL,Ax⟩
def UX:bA:=
 (.seq
 (.ae false [
 oX 2 (.mv (.k (.one (.nil iX))))])
 (.seq
 (.ae false [
 oX 5 (.fC iX []),
 oX 3 (.mv 5)])
 (.seq
 (.seq
 (.ae false [
 oX 6 (.mv 0),
 oX 7 (.dZ 95 [6,(kX 4)]),
 oX 8 (.bin .add (kX 1) 7),
 oX 4 (.mv 8)])
 (.join ⟨[(3,.one (fX 500001 1))],[(1000000,.box [.c (.v (.list [.int .u8])),vX,vX]),(500001,.row true .ab iX)]⟩ [1000000,500000,500001] [(false,3,0,500001,.ab,[])]
 (.block 0
 (.loop 0 ⟨[(0,.one (rX 1000000)),(3,.one (fX 500000 1)),(4,sX)],[(1000000,.box [.c (.v (.list [.int .u8])),vX,vX]),(500000,.row true .ab iX)]⟩ [1000000,5,17,18,500000] [(false,3,0,500000,.ab,[])]
 (.seq
 (.seq
 (.ae false [
 oX 9 (.mv 4),
 oX 10 (.bin .gtr 9 (kX 0))])
 (.cond 10
 .skip
 (.exit 0)))
 (.seq
 (.block 1
 (.ae false [
 oX 13 (.mv 3),
 oX 14 (.mv 0),
 oX 15 (.dZ 95 [14,(kX 3)]),
 oX 16 (.bin .add (kX 1) 15),
 oX 17 (.fC iX [16]),
 oX 18 (.append true iX 8 13 17),
 oX 3 (.mv 18)]))
 (.ae false [
 oX 11 (.mv 4),
 oX 12 (.bin .sub 11 (kX 1)),
 oX 4 (.mv 12)])))))))
 (.seq
 (.ae false [
 oX 19 (.mv 3),
 oX 2 (.mv 19)])
 .ret))))
def RZ:List bC:=[.tmp 2]
theorem al8 (NN:Nat) (x:aS (ak.aR H8)):n5 NN [rY] UX RZ H8 TL x=GN NN x:=by kernel_rfl
theorem ajN:ct pX 55 UX.er RZ 1=true:=by decide+kernel
theorem anl:kT Go.Proofs.Try.prog 55 Ox.MV/\bD pX 55=true:=
  qk (T:=[rY]) (sc:=UX) (ms:=RZ) (args:=H8) (aD:=TL) (aB.jV Fj<|aB.nil) cL ajN Ax fun x y h=>(al8 aE x).trans (ahd x y h)
def Om:aw:=⟨17,HU,akS,TA,Ap⟩
def UM:bA:=
 (.seq
 (.ae false [
 oX 4 (.mv (.k (.one (.nil iX))))])
 (.seq
 (.ae false [
 oX 5 (.mv 0),
 oX 6 (.mv 1),
 oX 7 (.dZ 54 [5,6]),
 oX 8 (.dZ 55 [7]),
 oX 4 (.mv 8)])
 .ret))
def RO:List bC:=[.tmp 4]
theorem alY (NN:Nat) (x:aS (ak.aR HU)):n5 NN [ym,Ox] UM RO HU TA x=GC NN x:=by kernel_rfl
theorem ajD:ct pX 17 UM.er RO 2=true:=by decide+kernel
theorem anc:kT Go.Proofs.Try.prog 17 Om.MV/\bD pX 17=true:=
  qk (T:=[ym,Ox]) (sc:=UM) (ms:=RO) (args:=HU) (aD:=TA) (aB.jV Sg<|aB.jV anl<|aB.nil) cL ajD Ap fun x y h=>(alY aE x).trans (ag3 x y h)
def Ec:aw:=⟨98,HZ,akX,TG,vH⟩
def UR:bA:=
 (.seq
 (.ae false [
 oX 4 (.mv (.k (.one (.v (.bool) (false)))))])
 (.seq
 (.ae false [
 oX 5 (.mv 0),
 oX 6 (.mv 1),
 oX 7 (.dZ 95 [5,6]),
 oX 8 (.bin .eql 7 (kX 0)),
 oX 4 (.mv 8)])
 .ret))
def RT:List bC:=[.tmp 4]
theorem al3 (NN:Nat) (x:aS (ak.aR HZ)):n5 NN [rY] UR RT HZ TG x=GI NN x:=by kernel_rfl
theorem ajI:ct pX 98 UR.er RT 2=true:=by decide+kernel
theorem abC:kT Go.Proofs.Try.prog 98 Ec.MV/\bD pX 98=true:=
  qk (T:=[rY]) (sc:=UR) (ms:=RT) (args:=HZ) (aD:=TG) (aB.jV Fj<|aB.nil) cL ajI vH fun x y h=>(al3 aE x).trans (ag8 x y h)
def Ov:aw:=⟨85,H6,ak0,TJ,xL⟩
def UU:bA:=
 (.seq
 (.ae false [
 oX 4 (.alloc [zX,zX,.nil iX])])
 (.seq
 (.ae false [
 oX 5 (.mv 0),
 oX 6 (.mv 1),
 oX 7 (.mv 0),
 oX 8 (.mv 1),
 oX 9 (.bin .mul 7 8),
 oX 10 (.kc .ab iX 8 (0:Int) 9 9),
 oX 11 (.build [zX,zX,.nil iX] [(0,1,5),(1,1,6),(2,1,10)]),
 uX (.store 3 4 11)])
 .ret))
def RX:List bC:=[.cell 4 3 true]
theorem al6 (NN:Nat) (x:aS (ak.aR H6)):dN NN [] UU RX H6 TJ x=GL NN x:=by kernel_rfl
theorem ajL:ct pX 85 UU.er RX 2=true:=by decide+kernel
theorem anj:du pX 85 Ov.M/\bD pX 85=true:=
  dW (T:=[]) (sc:=UU) (ms:=RX) (args:=H6) (aD:=TJ) (aB.nil) cL ajL xL fun x y h=>(al6 aE x).trans (Yw x y h)
def Ou:aw:=⟨99,H5,akZ,TI,Av⟩
def UT:bA:=
 (.seq
 (.ae false [
 oX 8 (.alloc [zX,zX,.nil iX])])
 (.seq
 (.ae false [
 oX 12 (.mv 2),
 oX 13 (.mv 3),
 oX 14 (.call .ab 85 [12,13]),
 oX 9 (.alloc [zX,zX,.nil iX]),
 uX (.store 3 9 14)])
 (.seq
 (.seq
 (.ae false [
 oX 15 (.ar 2 9),
 oX 16 (.load false 1 15),
 oX 17 (.len 16),
 oX 18 (.mv (kX 0))])
 (.join ⟨[(2,sX),(0,.one (rX 1000000)),(3,sX),(9,.one (rX 9)),(8,.one (rX 8))],[(1000000,.box [.c (.v (.list [.int .u8])),vX,vX]),(8,.box [vX,vX,fX 500002 1]),(9,.box [vX,vX,fX 500003 1]),(500002,.row true .ab iX),(500003,.row true .ab iX)]⟩ [1000000,8,9,500000,500001,500002,500003] [(true,8,2,500002,.ab,[]),(true,9,2,500003,.ab,[])]
 (.block 0
 (.loop 0 ⟨[(0,.one (rX 1000000)),(1,sX),(2,sX),(3,sX),(8,.one (rX 8)),(9,.one (rX 9)),(17,sX),(18,sX)],[(1000000,.box [.c (.v (.list [.int .u8])),vX,vX]),(8,.box [vX,vX,fX 500000 1]),(9,.box [vX,vX,fX 500001 1]),(500000,.row true .ab iX),(500001,.row true .ab iX)]⟩ [1000000,8,15000,9,500000,500001] [(true,8,2,500000,.ab,[]),(true,9,2,500001,.ab,[])]
 (.seq
 (.ae false [
 oX 19 (.bin .lss 18 17)])
 (.seq
 (.cond 19
 .skip
 (.exit 0))
 (.seq
 (.block 1
 (.seq
 (.ae false [
 oX 20 (.mv 18),
 oX 10 (.mv 20)])
 (.seq
 (.ae false [
 oX 21 (.mv 0),
 oX 22 (.dZ 98 [21,(kX 3)]),
 oX 23 (.un .not 22)])
 (.cond 23
 (.qb [(0,6),(1,6)] [
 oX 24 (.ar 2 9),
 oX 25 (.load false 1 24),
 oX 26 (.mv 10),
 oX 27 (.mv 0),
 oX 28 (.mv 1),
 oX 29 (.mm false 28 (kX 256)),
 oX 30 (.dZ 95 [27,29]),
 oX 31 (.cb 1 25 26),
 uX (.store 1 31 30)])
 .skip))))
 (.ae false [
 oX 32 (.bin .add 18 (kX 1)),
 oX 18 (.mv 32)]))))))))
 (.seq
 (.seq
 (.ae false [
 oX 33 (.mv 2),
 oX 34 (.bin .gtr 33 (kX 1)),
 oX 35 (.mv 34),
 ⟨(some 36),.mv 0,(some (35,true))⟩,
 ⟨(some 37),.dZ 98 [36,(kX 3)],(some (35,true))⟩,
 oX 38 (.pick 35 37 (.k (.one (.v (.bool) (false)))))])
 (.join ⟨[(9,.one (rX 9)),(8,.one (rX 8))],[(1000000,.box [.c (.v (.list [.int .u8])),vX,vX]),(8,.box [vX,vX,fX 500006 1]),(9,.box [vX,vX,fX 500007 1]),(500006,.row true .ab iX),(500007,.row true .ab iX)]⟩ [1000000,8,9,500002,500003,500004,500005,500006,500007] [(true,8,2,500006,.ab,[]),(true,9,2,500007,.ab,[])]
 (.cond 38
 (.seq
 (.ae false [
 oX 11 (.mv (kX 0))])
 (.block 2
 (.loop 0 ⟨[(3,sX),(8,.one (rX 8)),(9,.one (rX 9)),(11,sX)],[(1000000,.box [.c (.v (.list [.int .u8])),vX,vX]),(8,.box [vX,vX,fX 500004 1]),(9,.box [vX,vX,fX 500005 1]),(500004,.row true .ab iX),(500005,.row true .ab iX)]⟩ [1000000,8,9,500002,500003,500004,500005] [(true,8,2,500004,.ab,[]),(true,9,2,500005,.ab,[])]
 (.seq
 (.seq
 (.ae false [
 oX 39 (.mv 11),
 oX 40 (.mv 3),
 oX 41 (.bin .lss 39 40)])
 (.cond 41
 .skip
 (.exit 2)))
 (.seq
 (.block 3
 (.ae true [
 oX 44 (.ar 2 9),
 oX 45 (.load false 1 44),
 oX 46 (.mv 3),
 oX 47 (.mv 11),
 oX 48 (.bin .add 46 47),
 oX 49 (.ar 2 9),
 oX 50 (.load false 1 49),
 oX 51 (.mv 11),
 oX 52 (.cb 1 50 51),
 oX 53 (.load false 1 52),
 oX 54 (.cb 1 45 48),
 uX (.store 1 54 53)]))
 (.ae false [
 oX 42 (.mv 11),
 oX 43 (.bin .add 42 (kX 1)),
 oX 11 (.mv 43)]))))))
 .skip)))
 (.seq
 (.ae false [
 oX 55 (.load true 3 9),
 uX (.store 3 8 55)])
 .ret)))))
def RW:List bC:=[.cell 8 3 true]
theorem al5 (NN:Nat) (x:aS (ak.aR H5)):n5 NN [Ov,Ec,rY] UT RW H5 TI x=GK NN x:=by kernel_rfl
theorem ajK:ct pX 99 UT.er RW 4=true:=by decide+kernel
theorem ani:kT Go.Proofs.Try.prog 99 Ou.MV/\bD pX 99=true:=
  qk (T:=[Ov,Ec,rY]) (sc:=UT) (ms:=RW) (args:=H5) (aD:=TI) (aB.cons anj<|aB.jV abC<|aB.jV Fj<|aB.nil) cL ajK Av fun x y h=>(al5 aE x).trans (aha x y h)
def Ow:aw:=⟨59,H7,ak1,TK,Aw⟩
def UW:bA:=
 (.seq
 (.ae false [
 oX 6 (.alloc [zX,.nil gX])])
 (.seq
 (.ae false [
 oX 13 (.mv 1),
 oX 14 (.build [zX,.nil gX] [(0,1,13)]),
 oX 7 (.alloc [zX,.nil gX]),
 uX (.store 2 7 14)])
 (.seq
 (.ae false [
 oX 8 (.mv (kX 1))])
 (.seq
 (.seq
 (.ae false [
 oX 15 (.mv 2),
 oX 16 (.len 15),
 oX 17 (.mv (kX 0))])
 (.join ⟨[(7,.one (rX 7)),(6,.one (rX 6))],[(1000000,.box [.c (.v (.list [.int .u8])),vX,vX]),(6,.box [vX,fX 500006 4]),(7,.box [vX,fX 500007 4]),(500006,.row true .ab gX),(500007,.row true .aF gX)]⟩ [1000000,6,7,500000,500001,500006,500007] [(true,6,1,500006,.ab,[]),(true,7,1,500007,.aF,[])]
 (.block 0
 (.loop 0 ⟨[(0,.one (rX 1000000)),(1,sX),(2,.one (.c (.v (lX)))),(6,.one (rX 6)),(7,.one (rX 7)),(8,sX),(15,.one (.c (.v (lX)))),(16,sX),(17,sX)],[(1000000,.box [.c (.v (.list [.int .u8])),vX,vX]),(6,.box [vX,fX 500000 4]),(7,.box [vX,fX 500001 4]),(500000,.row true .ab gX),(500001,.row true .aF gX)]⟩ [1000000,6,7,12,51,500000,500001,500004] [(true,6,1,500000,.ab,[]),(true,7,1,500001,.aF,[])]
 (.seq
 (.ae false [
 oX 18 (.bin .lss 17 16)])
 (.seq
 (.cond 18
 .skip
 (.exit 0))
 (.seq
 (.block 1
 (.seq
 (.ae false [
 oX 19 (.mv 17),
 oX 20 (.cb 1 15 17),
 oX 21 (.load false 1 20),
 oX 9 (.mv 19),
 oX 10 (.mv 21)])
 (.seq
 (.ae false [
 oX 22 (.mv 10),
 oX 23 (.mm false (kX 4) 22),
 oX 24 (.mm true (kX 1) 23),
 oX 10 (.mv 24)])
 (.seq
 (.ae false [
 oX 25 (.mv 0),
 oX 26 (.dZ 95 [25,(kX 4)]),
 oX 27 (.bin .add (kX 1) 26),
 oX 11 (.mv 27)])
 (.seq
 (.seq
 (.ae false [
 oX 28 (.mv 0),
 oX 29 (.dZ 98 [28,(kX 16)])])
 (.join ⟨[(9,sX),(8,sX),(10,sX),(11,sX),(17,sX),(0,.one (rX 1000000)),(1,sX),(2,.one (.c (.v (lX)))),(6,.one (rX 6)),(7,.one (rX 7)),(15,.one (.c (.v (lX)))),(16,sX)],[(1000000,.box [.c (.v (.list [.int .u8])),vX,vX]),(6,.box [vX,fX 500002 4]),(7,.box [vX,fX 500003 4]),(500002,.row true .ab gX),(500003,.row true .aF gX)]⟩ [1000000,6,7,500000,500001,500002,500003] [(true,6,1,500002,.ab,[]),(true,7,1,500003,.aF,[])]
 (.cond 29
 (.ae false [
 oX 11 (.mv (kX 0))])
 .skip)))
 (.seq
 (.seq
 (.ae false [
 oX 30 (.mv 9),
 oX 31 (.mv 2),
 oX 32 (.len 31),
 oX 33 (.bin .sub 32 (kX 1)),
 oX 34 (.bin .eql 30 33)])
 (.join ⟨[(8,sX),(10,sX),(11,sX),(17,sX),(0,.one (rX 1000000)),(1,sX),(2,.one (.c (.v (lX)))),(6,.one (rX 6)),(7,.one (rX 7)),(15,.one (.c (.v (lX)))),(16,sX)],[(1000000,.box [.c (.v (.list [.int .u8])),vX,vX]),(6,.box [vX,fX 500004 4]),(7,.box [vX,fX 500005 4]),(500004,.row true .ab gX),(500005,.row true .aF gX)]⟩ [1000000,6,7,500002,500003,500004,500005] [(true,6,1,500004,.ab,[]),(true,7,1,500005,.aF,[])]
 (.cond 34
 (.ae false [
 oX 11 (.mv (kX 1))])
 .skip)))
 (.seq
 (.ae false [
 oX 35 (.mv 0),
 oX 36 (.mv 1),
 oX 37 (.mv 8),
 oX 38 (.mv 10),
 oX 39 (.bin .mul 37 38),
 oX 40 (.mv 11),
 oX 41 (.dZ 99 [35,36,39,40]),
 oX 12 (.alloc [zX,zX,.nil iX]),
 uX (.store 3 12 41)])
 (.seq
 (.ae false [
 oX 42 (.ar 1 7),
 oX 43 (.load false 1 42),
 oX 44 (.mv 8),
 oX 45 (.mv 10),
 oX 46 (.mv 11),
 oX 47 (.ar 2 12),
 oX 48 (.load false 1 47),
 oX 49 (.build [zX,zX,zX,.nil iX] [(0,1,44),(1,1,45),(2,1,46),(3,1,48)]),
 oX 50 (.fC gX [49]),
 oX 51 (.append false gX 48 43 50),
 oX 52 (.ar 1 7),
 uX (.store 1 52 51)])
 (.ae false [
 oX 53 (.mv 11),
 oX 8 (.mv 53)])))))))))
 (.ae false [
 oX 54 (.bin .add 17 (kX 1)),
 oX 17 (.mv 54)]))))))))
 (.seq
 (.ae false [
 oX 55 (.load true 2 7),
 uX (.store 2 6 55)])
 .ret)))))
def RY:List bC:=[.cell 6 2 true]
theorem al7 (NN:Nat) (x:aS (ak.aR H7)):n5 NN [rY,Ec,Ou] UW RY H7 TK x=GM NN x:=by kernel_rfl
theorem ajM:ct pX 59 UW.er RY 3=true:=by decide+kernel
theorem ank:kT Go.Proofs.Try.prog 59 Ow.MV/\bD pX 59=true:=
  qk (T:=[rY,Ec,Ou]) (sc:=UW) (ms:=RY) (args:=H7) (aD:=TK) (aB.jV Fj<|aB.jV abC<|aB.jV ani<|aB.nil) cL ajM Aw fun x y h=>(al7 aE x).trans (ahc x y h)
def Ol:aw:=⟨19,HT,akR,Tz,Ao⟩
def UL:bA:=
 (.seq
 (.ae false [
 oX 8 (.alloc [zX,.nil gX])])
 (.seq
 (.ae false [
 oX 9 (.mv 0),
 oX 10 (.mv 1),
 oX 11 (.dZ 54 [9,10]),
 oX 12 (.mv 2),
 oX 13 (.mv 3),
 oX 14 (.dZ 59 [11,12,13]),
 uX (.store 2 8 14)])
 .ret))
def RN:List bC:=[.cell 8 2 true]
theorem alX (NN:Nat) (x:aS (ak.aR HT)):n5 NN [ym,Ow] UL RN HT Tz x=GA NN x:=by kernel_rfl
theorem ajC:ct pX 19 UL.er RN 4=true:=by decide+kernel
theorem anb:kT Go.Proofs.Try.prog 19 Ol.MV/\bD pX 19=true:=
  qk (T:=[ym,Ow]) (sc:=UL) (ms:=RN) (args:=HT) (aD:=Tz) (aB.jV Sg<|aB.jV ank<|aB.nil) cL ajC Ao fun x y h=>(alX aE x).trans (ag2 x y h)
def yl:aw:=⟨60,G8,akh,SQ,qm⟩
def T4:bA:=
 (.seq
 (.ae false [
 oX 2 (.mv (.k (.one (.v (.bool) (false)))))])
 (.seq
 (.seq
 (.ae false [
 oX 4 (.mv 0),
 oX 5 (.bin .lss 4 (kX 2)),
 oX 6 (.mv 5),
 ⟨(some 7),.mv 0,(some (6,false))⟩,
 ⟨(some 8),.bin .gtr 7 (kX 1000003),(some (6,false))⟩,
 oX 9 (.pick 6 (.k (.one (.v (.bool) (true)))) 8)])
 (.cond 9
 (.seq
 (.ae false [
 oX 2 (.mv (.k (.one (.v (.bool) (false)))))])
 .ret)
 .skip))
 (.seq
 (.seq
 (.ae false [
 oX 3 (.mv (kX 2))])
 (.join ⟨[],[]⟩ [] []
 (.block 0
 (.loop 0 ⟨[(0,sX),(3,sX)],[]⟩ [] []
 (.seq
 (.seq
 (.ae false [
 oX 10 (.mv 3),
 oX 11 (.mv 3),
 oX 12 (.bin .mul 10 11),
 oX 13 (.mv 0),
 oX 14 (.bin .leq 12 13)])
 (.cond 14
 .skip
 (.exit 0)))
 (.seq
 (.block 1
 (.seq
 (.ae false [
 oX 17 (.mv 0),
 oX 18 (.mv 3),
 oX 19 (.bin .rem 17 18),
 oX 20 (.bin .eql 19 (kX 0))])
 (.cond 20
 (.seq
 (.ae false [
 oX 2 (.mv (.k (.one (.v (.bool) (false)))))])
 .ret)
 .skip)))
 (.ae false [
 oX 15 (.mv 3),
 oX 16 (.bin .add 15 (kX 1)),
 oX 3 (.mv 16)])))))))
 (.seq
 (.ae false [
 oX 2 (.mv (.k (.one (.v (.bool) (true)))))])
 .ret))))
def Q0:List bC:=[.tmp 2]
theorem alg (NN:Nat) (x:aS (ak.aR G8)):dN NN [] T4 Q0 G8 SQ x=LX NN x:=by kernel_rfl
theorem aiW:ct pX 60 T4.er Q0 1=true:=by decide+kernel
theorem Sf:du pX 60 yl.M/\bD pX 60=true:=
  dW (T:=[]) (sc:=T4) (ms:=Q0) (args:=G8) (aD:=SQ) (aB.nil) cL aiW qm fun x y h=>(alg aE x).trans (agm x y h)
def D7:aw:=⟨100,Hu,akx,Tb,vD⟩
def Un:bA:=
 (.seq
 (.ae false [
 oX 4 (.mv (.k (.one (.v (.bool) (false)))))])
 (.seq
 (.seq
 (.ae false [
 oX 7 (.mv 1),
 oX 8 (.len 7),
 oX 9 (.mv (kX 0))])
 (.join ⟨[],[]⟩ [] []
 (.block 0
 (.loop 0 ⟨[(0,sX),(7,.one (.c (.v (lX)))),(8,sX),(9,sX)],[]⟩ [] []
 (.seq
 (.ae false [
 oX 10 (.bin .lss 9 8)])
 (.seq
 (.cond 10
 .skip
 (.exit 0))
 (.seq
 (.block 1
 (.seq
 (.ae false [
 oX 11 (.cb 1 7 9),
 oX 12 (.load false 1 11),
 oX 6 (.mv 12)])
 (.seq
 (.ae false [
 oX 13 (.mv 6),
 oX 14 (.bin .lss 13 (kX 0)),
 oX 15 (.mv 14),
 ⟨(some 16),.mv 6,(some (15,false))⟩,
 ⟨(some 17),.mv 0,(some (15,false))⟩,
 ⟨(some 18),.bin .geq 16 17,(some (15,false))⟩,
 oX 19 (.pick 15 (.k (.one (.v (.bool) (true)))) 18)])
 (.cond 19
 (.seq
 (.ae false [
 oX 4 (.mv (.k (.one (.v (.bool) (false)))))])
 .ret)
 .skip))))
 (.ae false [
 oX 20 (.bin .add 9 (kX 1)),
 oX 9 (.mv 20)]))))))))
 (.seq
 (.ae false [
 oX 4 (.mv (.k (.one (.v (.bool) (true)))))])
 .ret)))
def Rk:List bC:=[.tmp 4]
theorem alA (NN:Nat) (x:aS (ak.aR Hu)):dN NN [] Un Rk Hu Tb x=Md NN x:=by kernel_rfl
theorem ajf:ct pX 100 Un.er Rk 2=true:=by decide+kernel
theorem abx:du pX 100 D7.M/\bD pX 100=true:=
  dW (T:=[]) (sc:=Un) (ms:=Rk) (args:=Hu) (aD:=Tb) (aB.nil) cL ajf vD fun x y h=>(alA aE x).trans (agF x y h)
def Od:aw:=⟨61,HK,akK,Tp,xK⟩
def UC:bA:=
 (.seq
 (.ae false [
 oX 3 (.box 4 1),
 oX 4 (.mv (.k (.one (.v (.bool) (false)))))])
 (.seq
 (.seq
 (.ae false [
 oX 5 (.ar 0 3),
 oX 6 (.load false 1 5),
 oX 7 (.bin .lss 6 (kX 0)),
 oX 8 (.mv 7),
 ⟨(some 9),.ar 0 3,(some (8,false))⟩,
 ⟨(some 10),.load false 1 9,(some (8,false))⟩,
 ⟨(some 11),.bin .gtr 10 (kX 32),(some (8,false))⟩,
 oX 12 (.pick 8 (.k (.one (.v (.bool) (true)))) 11),
 oX 13 (.mv 12),
 ⟨(some 14),.ar 2 3,(some (13,false))⟩,
 ⟨(some 15),.load false 1 14,(some (13,false))⟩,
 ⟨(some 16),.bin .lss 15 (kX 0),(some (13,false))⟩,
 oX 17 (.pick 13 (.k (.one (.v (.bool) (true)))) 16),
 oX 18 (.mv 17),
 ⟨(some 19),.ar 2 3,(some (18,false))⟩,
 ⟨(some 20),.load false 1 19,(some (18,false))⟩,
 ⟨(some 21),.bin .gtr 20 (kX 32),(some (18,false))⟩,
 oX 22 (.pick 18 (.k (.one (.v (.bool) (true)))) 21),
 oX 23 (.mv 22),
 ⟨(some 24),.ar 1 3,(some (23,false))⟩,
 ⟨(some 25),.load false 1 24,(some (23,false))⟩,
 ⟨(some 26),.bin .lss 25 (kX 1),(some (23,false))⟩,
 oX 27 (.pick 23 (.k (.one (.v (.bool) (true)))) 26),
 oX 28 (.mv 27),
 ⟨(some 29),.ar 1 3,(some (28,false))⟩,
 ⟨(some 30),.load false 1 29,(some (28,false))⟩,
 ⟨(some 31),.bin .gtr 30 (kX 8),(some (28,false))⟩,
 oX 32 (.pick 28 (.k (.one (.v (.bool) (true)))) 31)])
 (.cond 32
 (.seq
 (.ae false [
 oX 4 (.mv (.k (.one (.v (.bool) (false)))))])
 .ret)
 .skip))
 (.seq
 (.ae false [
 oX 33 (.ar 3 3),
 oX 34 (.load false 1 33),
 oX 35 (.len 34),
 oX 36 (.ar 0 3),
 oX 37 (.load false 1 36),
 oX 38 (.ar 1 3),
 oX 39 (.load false 1 38),
 oX 40 (.bin .mul 37 39),
 oX 41 (.ar 2 3),
 oX 42 (.load false 1 41),
 oX 43 (.bin .mul 40 42),
 oX 44 (.bin .eql 35 43),
 oX 45 (.mv 44),
 ⟨(some 46),.mv 0,(some (45,true))⟩,
 ⟨(some 47),.ar 3 3,(some (45,true))⟩,
 ⟨(some 48),.load false 1 47,(some (45,true))⟩,
 ⟨(some 49),.call .ab 100 [46,48],(some (45,true))⟩,
 oX 50 (.pick 45 49 (.k (.one (.v (.bool) (false))))),
 oX 4 (.mv 50)])
 .ret)))
def Rz:List bC:=[.tmp 4]
theorem alO (NN:Nat) (x:aS (ak.aR HK)):dN NN [D7] UC Rz HK Tp x=Mo NN x:=by kernel_rfl
theorem ajt:ct pX 61 UC.er Rz 2=true:=by decide+kernel
theorem am2:du pX 61 Od.M/\bD pX 61=true:=
  dW (T:=[D7]) (sc:=UC) (ms:=Rz) (args:=HK) (aD:=Tp) (aB.cons abx<|aB.nil) cL ajt xK fun x y h=>(alO aE x).trans (agT x y h)
def uk:aw:=⟨21,G4,akd,SM,ql⟩
def TZ:bA:=
 (.seq
 (.ae false [
 oX 1 (.box 2 0),
 oX 2 (.mv (.k (.one (.v (.bool) (false)))))])
 (.seq
 (.seq
 (.ae false [
 oX 7 (.ar 0 1),
 oX 8 (.load false 1 7),
 oX 9 (.call .ab 60 [8]),
 oX 10 (.un .not 9),
 oX 11 (.mv 10),
 ⟨(some 12),.ar 1 1,(some (11,false))⟩,
 ⟨(some 13),.load false 1 12,(some (11,false))⟩,
 ⟨(some 14),.len 13,(some (11,false))⟩,
 ⟨(some 15),.bin .lss 14 (kX 1),(some (11,false))⟩,
 oX 16 (.pick 11 (.k (.one (.v (.bool) (true)))) 15),
 oX 17 (.mv 16),
 ⟨(some 18),.ar 1 1,(some (17,false))⟩,
 ⟨(some 19),.load false 1 18,(some (17,false))⟩,
 ⟨(some 20),.len 19,(some (17,false))⟩,
 ⟨(some 21),.bin .gtr 20 (kX 8),(some (17,false))⟩,
 oX 22 (.pick 17 (.k (.one (.v (.bool) (true)))) 21)])
 (.cond 22
 (.seq
 (.ae false [
 oX 2 (.mv (.k (.one (.v (.bool) (false)))))])
 .ret)
 .skip))
 (.seq
 (.ae false [
 oX 3 (.mv (kX 1)),
 oX 4 (.mv (kX 1))])
 (.seq
 (.seq
 (.ae false [
 oX 23 (.ar 1 1),
 oX 24 (.load false 1 23),
 oX 25 (.len 24),
 oX 26 (.mv (kX 0))])
 (.join ⟨[(3,sX),(4,sX)],[]⟩ [1] []
 (.block 0
 (.loop 0 ⟨[(1,.one (rX 1)),(3,sX),(4,sX),(24,.one (.c (.v (.list gX)))),(25,sX),(26,sX)],[(1,.box [vX,.c (.v (.list gX))])]⟩ [1,6] []
 (.seq
 (.ae false [
 oX 27 (.bin .lss 26 25)])
 (.seq
 (.cond 27
 .skip
 (.exit 0))
 (.seq
 (.block 1
 (.seq
 (.ae false [
 oX 28 (.cb 4 24 26),
 oX 29 (.load true 4 28),
 oX 6 (.alloc [zX,zX,zX,.nil iX]),
 uX (.store 4 6 29)])
 (.seq
 (.seq
 (.ae false [
 oX 30 (.ar 0 1),
 oX 31 (.load false 1 30),
 oX 32 (.load true 4 6),
 oX 33 (.call .ab 61 [31,32]),
 oX 34 (.un .not 33),
 oX 35 (.mv 34),
 ⟨(some 36),.ar 0 6,(some (35,false))⟩,
 ⟨(some 37),.load false 1 36,(some (35,false))⟩,
 ⟨(some 38),.mv 3,(some (35,false))⟩,
 ⟨(some 39),.bin .neq 37 38,(some (35,false))⟩,
 oX 40 (.pick 35 (.k (.one (.v (.bool) (true)))) 39)])
 (.cond 40
 (.seq
 (.ae false [
 oX 2 (.mv (.k (.one (.v (.bool) (false)))))])
 .ret)
 .skip))
 (.seq
 (.ae false [
 oX 41 (.ar 2 6),
 oX 42 (.load false 1 41),
 oX 3 (.mv 42)])
 (.ae false [
 oX 43 (.mv 4),
 oX 44 (.ar 1 6),
 oX 45 (.load false 1 44),
 oX 46 (.bin .mul 43 45),
 oX 4 (.mv 46)])))))
 (.ae false [
 oX 47 (.bin .add 26 (kX 1)),
 oX 26 (.mv 47)]))))))))
 (.seq
 (.ae false [
 oX 48 (.mv 3),
 oX 49 (.bin .eql 48 (kX 1)),
 oX 50 (.mv 49),
 ⟨(some 51),.mv 4,(some (50,true))⟩,
 ⟨(some 52),.bin .leq 51 (kX 4096),(some (50,true))⟩,
 oX 53 (.pick 50 52 (.k (.one (.v (.bool) (false))))),
 oX 2 (.mv 53)])
 .ret)))))
def QW:List bC:=[.tmp 2]
theorem alc (NN:Nat) (x:aS (ak.aR G4)):dN NN [yl,Od] TZ QW G4 SM x=LU NN x:=by kernel_rfl
theorem aiS:ct pX 21 TZ.er QW 1=true:=by decide+kernel
theorem Kx:du pX 21 uk.M/\bD pX 21=true:=
  dW (T:=[yl,Od]) (sc:=TZ) (ms:=QW) (args:=G4) (aD:=SM) (aB.cons Sf<|aB.cons am2<|aB.nil) cL aiS ql fun x y h=>(alc aE x).trans (agi x y h)
def pA:aw:=⟨47,Hp,aks,S6,mM⟩
def Ui:bA:=
 (.seq
 (.ae false [
 oX 2 (.mv (.k (.one (.nil iX))))])
 (.seq
 (.ae false [
 oX 3 (.mv 0),
 oX 4 (.append true iX 8 (.k (.one (.nil iX))) 3),
 oX 2 (.mv 4)])
 .ret))
def Re:List bC:=[.tmp 2]
theorem alv (NN:Nat) (x:aS (ak.aR Hp)):dN NN [] Ui Re Hp S6 x=L9 NN x:=by kernel_rfl
theorem aja:ct pX 47 Ui.er Re 1=true:=by decide+kernel
theorem Cr:du pX 47 pA.M/\bD pX 47=true:=
  dW (T:=[]) (sc:=Ui) (ms:=Re) (args:=Hp) (aD:=S6) (aB.nil) cL aja mM fun x y h=>(alv aE x).trans (agA x y h)
def NZ:aw:=⟨68,Ho,akr,S5,z9⟩
def Uh:bA:=
 (.seq
 (.ae false [
 oX 1 (.box 2 0),
 oX 2 (.alloc [zX,.nil gX])])
 (.seq
 (.ae false [
 oX 6 (.ar 0 1),
 oX 7 (.load false 1 6),
 oX 8 (.build [zX,.nil gX] [(0,1,7)]),
 oX 3 (.alloc [zX,.nil gX]),
 uX (.store 2 3 8)])
 (.seq
 (.seq
 (.ae false [
 oX 9 (.ar 1 1),
 oX 10 (.load false 1 9),
 oX 11 (.len 10),
 oX 12 (.mv (kX 0))])
 (.join ⟨[(3,.one (rX 3)),(2,.one (rX 2))],[(2,.box [vX,fX 500002 4]),(3,.box [vX,fX 500003 4]),(500002,.row true .ab gX),(500003,.row true .ab gX)]⟩ [2,3,500000,500001,500002,500003] [(true,2,1,500002,.ab,[]),(true,3,1,500003,.ab,[])]
 (.block 0
 (.loop 0 ⟨[(2,.one (rX 2)),(3,.one (rX 3)),(10,.one (.c (.v (.list gX)))),(11,sX),(12,sX)],[(2,.box [vX,fX 500000 4]),(3,.box [vX,fX 500001 4]),(500000,.row true .ab gX),(500001,.row true .ab gX)]⟩ [1,2,3,5,29,500000,500001] [(true,2,1,500000,.ab,[]),(true,3,1,500001,.ab,[])]
 (.seq
 (.ae false [
 oX 13 (.bin .lss 12 11)])
 (.seq
 (.cond 13
 .skip
 (.exit 0))
 (.seq
 (.block 1
 (.seq
 (.ae false [
 oX 14 (.cb 4 10 12),
 oX 15 (.load true 4 14),
 oX 5 (.alloc [zX,zX,zX,.nil iX]),
 uX (.store 4 5 15)])
 (.qb [(0,12),(1,12)] [
 oX 16 (.ar 1 3),
 oX 17 (.load false 1 16),
 oX 18 (.ar 0 5),
 oX 19 (.load false 1 18),
 oX 20 (.ar 1 5),
 oX 21 (.load false 1 20),
 oX 22 (.ar 2 5),
 oX 23 (.load false 1 22),
 oX 24 (.ar 3 5),
 oX 25 (.load false 1 24),
 oX 26 (.call .ab 47 [25]),
 oX 27 (.build [zX,zX,zX,.nil iX] [(0,1,19),(1,1,21),(2,1,23),(3,1,26)]),
 oX 28 (.fC gX [27]),
 oX 29 (.append false gX 48 17 28),
 oX 30 (.ar 1 3),
 uX (.store 1 30 29)])))
 (.ae false [
 oX 31 (.bin .add 12 (kX 1)),
 oX 12 (.mv 31)]))))))))
 (.seq
 (.ae false [
 oX 32 (.load true 2 3),
 uX (.store 2 2 32)])
 .ret))))
def Rd:List bC:=[.cell 2 2 true]
theorem alu (NN:Nat) (x:aS (ak.aR Ho)):dN NN [pA] Uh Rd Ho S5 x=L8 NN x:=by kernel_rfl
theorem ai9:ct pX 68 Uh.er Rd 1=true:=by decide+kernel
theorem amO:du pX 68 NZ.M/\bD pX 68=true:=
  dW (T:=[pA]) (sc:=Uh) (ms:=Rd) (args:=Ho) (aD:=S5) (aB.cons Cr<|aB.nil) cL ai9 z9 fun x y h=>(alu aE x).trans (agz x y h)
def NQ:aw:=⟨62,G9,aki,SR,xB⟩
def T5:bA:=
 (.seq
 (.ae false [
 oX 3 (.box 3 1),
 oX 4 (.mv (.k (.one (.v (.bool) (false)))))])
 (.seq
 (.seq
 (.ae false [
 oX 5 (.mv 0),
 oX 6 (.call .ab 60 [5]),
 oX 7 (.un .not 6),
 oX 8 (.mv 7),
 ⟨(some 9),.ar 0 3,(some (8,false))⟩,
 ⟨(some 10),.load false 1 9,(some (8,false))⟩,
 ⟨(some 11),.bin .lss 10 (kX 0),(some (8,false))⟩,
 oX 12 (.pick 8 (.k (.one (.v (.bool) (true)))) 11),
 oX 13 (.mv 12),
 ⟨(some 14),.ar 1 3,(some (13,false))⟩,
 ⟨(some 15),.load false 1 14,(some (13,false))⟩,
 ⟨(some 16),.bin .lss 15 (kX 0),(some (13,false))⟩,
 oX 17 (.pick 13 (.k (.one (.v (.bool) (true)))) 16),
 oX 18 (.mv 17),
 ⟨(some 19),.ar 0 3,(some (18,false))⟩,
 ⟨(some 20),.load false 1 19,(some (18,false))⟩,
 ⟨(some 21),.bin .gtr 20 (kX 64),(some (18,false))⟩,
 oX 22 (.pick 18 (.k (.one (.v (.bool) (true)))) 21),
 oX 23 (.mv 22),
 ⟨(some 24),.ar 1 3,(some (23,false))⟩,
 ⟨(some 25),.load false 1 24,(some (23,false))⟩,
 ⟨(some 26),.bin .gtr 25 (kX 64),(some (23,false))⟩,
 oX 27 (.pick 23 (.k (.one (.v (.bool) (true)))) 26)])
 (.cond 27
 (.seq
 (.ae false [
 oX 4 (.mv (.k (.one (.v (.bool) (false)))))])
 .ret)
 .skip))
 (.seq
 (.ae false [
 oX 28 (.ar 2 3),
 oX 29 (.load false 1 28),
 oX 30 (.len 29),
 oX 31 (.ar 0 3),
 oX 32 (.load false 1 31),
 oX 33 (.ar 1 3),
 oX 34 (.load false 1 33),
 oX 35 (.bin .mul 32 34),
 oX 36 (.bin .eql 30 35),
 oX 37 (.mv 36),
 ⟨(some 38),.mv 0,(some (37,true))⟩,
 ⟨(some 39),.ar 2 3,(some (37,true))⟩,
 ⟨(some 40),.load false 1 39,(some (37,true))⟩,
 ⟨(some 41),.call .ab 100 [38,40],(some (37,true))⟩,
 oX 42 (.pick 37 41 (.k (.one (.v (.bool) (false))))),
 oX 4 (.mv 42)])
 .ret)))
def Q1:List bC:=[.tmp 4]
theorem alh (NN:Nat) (x:aS (ak.aR G9)):dN NN [yl,D7] T5 Q1 G9 SR x=LY NN x:=by kernel_rfl
theorem aiX:ct pX 62 T5.er Q1 2=true:=by decide+kernel
theorem amF:du pX 62 NQ.M/\bD pX 62=true:=
  dW (T:=[yl,D7]) (sc:=T5) (ms:=Q1) (args:=G9) (aD:=SR) (aB.cons Sf<|aB.cons abx<|aB.nil) cL aiX xB fun x y h=>(alh aE x).trans (agn x y h)
def N0:aw:=⟨101,Hq,akt,S7,Aa⟩
def Uj:bA:=
 (.seq
 (.ae false [
 oX 1 (.box 3 0),
 oX 2 (.alloc [zX,zX,.nil iX])])
 (.seq
 (.ae true [
 oX 3 (.ar 0 1),
 oX 4 (.load false 1 3),
 oX 5 (.ar 1 1),
 oX 6 (.load false 1 5),
 oX 7 (.ar 2 1),
 oX 8 (.load false 1 7),
 oX 9 (.call .ab 47 [8]),
 oX 10 (.build [zX,zX,.nil iX] [(0,1,4),(1,1,6),(2,1,9)]),
 uX (.store 3 2 10)])
 .ret))
def Rf:List bC:=[.cell 2 3 true]
theorem alw (NN:Nat) (x:aS (ak.aR Hq)):dN NN [pA] Uj Rf Hq S7 x=Ma NN x:=by kernel_rfl
theorem ajb:ct pX 101 Uj.er Rf 1=true:=by decide+kernel
theorem amP:du pX 101 N0.M/\bD pX 101=true:=
  dW (T:=[pA]) (sc:=Uj) (ms:=Rf) (args:=Hq) (aD:=S7) (aB.cons Cr<|aB.nil) cL ajb Aa fun x y h=>(alw aE x).trans (agB x y h)
def rV:aw:=⟨74,Hc,akj,SU,kS⟩
def T7:bA:=
 (.seq
 (.ae false [
 oX 3 (.box 3 0),
 oX 6 (.mv (kX 0))])
 (.seq
 (.ae false [
 oX 7 (.ar 2 3),
 oX 8 (.load false 1 7),
 oX 9 (.mv 1),
 oX 10 (.ar 1 3),
 oX 11 (.load false 1 10),
 oX 12 (.bin .mul 9 11),
 oX 13 (.mv 2),
 oX 14 (.bin .add 12 13),
 oX 15 (.cb 1 8 14),
 oX 16 (.load false 1 15),
 oX 6 (.mv 16)])
 .ret))
def Q3:List bC:=[.tmp 6]
theorem alj (NN:Nat) (x:aS (ak.aR Hc)):dN NN [] T7 Q3 Hc SU x=Gs NN x:=by kernel_rfl
theorem aiZ:ct pX 74 T7.er Q3 3=true:=by decide+kernel
theorem Fh:du pX 74 rV.M/\bD pX 74=true:=
  dW (T:=[]) (sc:=T7) (ms:=Q3) (args:=Hc) (aD:=SU) (aB.nil) cL aiZ kS fun x y h=>(alj aE x).trans (agp x y h)
def rW:aw:=⟨72,Hd,Ke,SW,qn⟩
def T8:bA:=
 (.seq
 (.ae false [
 oX 4 (.box 3 0)])
 (.ae false [
 oX 8 (.ar 2 4),
 oX 9 (.load false 1 8),
 oX 10 (.mv 1),
 oX 11 (.ar 1 4),
 oX 12 (.load false 1 11),
 oX 13 (.bin .mul 10 12),
 oX 14 (.mv 2),
 oX 15 (.bin .add 13 14),
 oX 16 (.mv 3),
 oX 17 (.cb 1 9 15),
 uX (.store 1 17 16)]))
def Q4:List bC:=[]
theorem alk (NN:Nat) (x:aS (ak.aR Hd)):vj NN [] T8 Q4 Hd Ke SW x=Gt NN x:=by kernel_rfl
theorem ai0:ct pX 72 T8.er Q4 4=true:=by decide+kernel
theorem Fi:qp pX 72 Ke rW.MM/\bD pX 72=true:=
  zn (T:=[]) (sc:=T8) (ms:=Q4) (args:=Hd) (mu:=Ke) (aD:=SW) (aB.nil) cL ai0 qn fun x y h=>(alk aE x).trans (agq x y h)
def NS:aw:=⟨102,He,Kf,SX,z4⟩
def T9:bA:=
 (.seq
 (.ae false [
 oX 3 (.box 3 0)])
 (.seq
 (.ae false [
 oX 6 (.mv (kX 0))])
 (.block 0
 (.loop 0 ⟨[(1,sX),(2,sX),(3,.one (rX 3)),(6,sX)],[(1000000,.row false .ab iX),(3,.box [vX,vX,fX 1000000 1])]⟩ [1000000,3,500000] [(true,3,2,500000,.ab,[])]
 (.seq
 (.seq
 (.ae false [
 oX 9 (.mv 6),
 oX 10 (.ar 1 3),
 oX 11 (.load false 1 10),
 oX 12 (.bin .lss 9 11)])
 (.cond 12
 .skip
 (.exit 0)))
 (.seq
 (.block 1
 (.seq
 (.ae true [
 oX 15 (.load true 3 3),
 oX 16 (.mv 1),
 oX 17 (.mv 6),
 oX 18 (.call .ab 74 [15,16,17]),
 oX 19 (.load true 3 3),
 oX 20 (.mv 2),
 oX 21 (.mv 6),
 oX 22 (.call .ab 74 [19,20,21]),
 oX 7 (.mv 18),
 oX 8 (.mv 22)])
 (.seq
 (.ae false [
 oX 23 (.load true 3 3),
 oX 24 (.mv 1),
 oX 25 (.mv 6),
 oX 26 (.mv 8),
 oX 27 (.gb .ab 72 [23,24,25,26])])
 (.ae false [
 oX 28 (.load true 3 3),
 oX 29 (.mv 2),
 oX 30 (.mv 6),
 oX 31 (.mv 7),
 oX 32 (.gb .ab 72 [28,29,30,31])]))))
 (.ae false [
 oX 13 (.mv 6),
 oX 14 (.bin .add 13 (kX 1)),
 oX 6 (.mv 14)])))))))
def Q5:List bC:=[]
theorem alm (NN:Nat) (x:aS (ak.aR He)):vj NN [rV,rW] T9 Q5 He Kf SX x=Gu NN x:=by kernel_rfl
theorem ai1:ct pX 102 T9.er Q5 3=true:=by decide+kernel
theorem amH:qp pX 102 Kf NS.MM/\bD pX 102=true:=
  zn (T:=[rV,rW]) (sc:=T9) (ms:=Q5) (args:=He) (mu:=Kf) (aD:=SX) (aB.cons Fh<|aB.qx Fi<|aB.nil) cL ai1 z4 fun x y h=>(alm aE x).trans (agr x y h)
def N9:aw:=⟨103,HC,akE,Tj,Af⟩
def Uw:bA:=
 (.seq
 (.ae false [
 oX 4 (.mv (kX 0))])
 (.seq
 (.ae false [
 oX 5 (.mv (kX 1))])
 (.seq
 (.seq
 (.ae false [
 oX 7 (.mv 0),
 oX 8 (.bin .sub 7 (kX 2)),
 oX 6 (.mv 8)])
 (.join ⟨[(5,sX)],[]⟩ [] []
 (.block 0
 (.loop 0 ⟨[(0,sX),(1,sX),(5,sX),(6,sX)],[]⟩ [] []
 (.seq
 (.seq
 (.ae false [
 oX 9 (.mv 6),
 oX 10 (.bin .gtr 9 (kX 0))])
 (.cond 10
 .skip
 (.exit 0)))
 (.seq
 (.block 1
 (.seq
 (.seq
 (.ae false [
 oX 13 (.mv 6),
 oX 14 (.bin .and 13 (kX 1)),
 oX 15 (.bin .eql 14 (kX 1))])
 (.join ⟨[(1,sX),(6,sX),(0,sX),(5,sX)],[]⟩ [] []
 (.cond 15
 (.ae false [
 oX 16 (.mv 5),
 oX 17 (.mv 1),
 oX 18 (.bin .mul 16 17),
 oX 19 (.mv 0),
 oX 20 (.bin .rem 18 19),
 oX 5 (.mv 20)])
 .skip)))
 (.ae false [
 oX 21 (.mv 1),
 oX 22 (.mv 1),
 oX 23 (.bin .mul 21 22),
 oX 24 (.mv 0),
 oX 25 (.bin .rem 23 24),
 oX 1 (.mv 25)])))
 (.ae false [
 oX 11 (.mv 6),
 oX 12 (.bin .shr 11 (.k (.one (.v (.int .u64) ((1:Int)))))),
 oX 6 (.mv 12)])))))))
 (.seq
 (.ae false [
 oX 26 (.mv 5),
 oX 4 (.mv 26)])
 .ret))))
def Rs:List bC:=[.tmp 4]
theorem alI (NN:Nat) (x:aS (ak.aR HC)):dN NN [] Uw Rs HC Tj x=Ml NN x:=by kernel_rfl
theorem ajn:ct pX 103 Uw.er Rs 2=true:=by decide+kernel
theorem amY:du pX 103 N9.M/\bD pX 103=true:=
  dW (T:=[]) (sc:=Uw) (ms:=Rs) (args:=HC) (aD:=Tj) (aB.nil) cL ajn Af fun x y h=>(alI aE x).trans (agN x y h)
def NR:aw:=⟨104,Ha,Kd,SS,xC⟩
def T6:bA:=
 (.seq
 (.ae false [
 oX 5 (.box 3 0)])
 (.seq
 (.ae false [
 oX 10 (.mv (kX 0))])
 (.block 0
 (.loop 0 ⟨[(1,sX),(2,sX),(3,sX),(4,sX),(5,.one (rX 5)),(10,sX)],[(1000000,.row false .ab iX),(5,.box [vX,vX,fX 1000000 1])]⟩ [1000000,5,500000] [(true,5,2,500000,.ab,[])]
 (.seq
 (.seq
 (.ae false [
 oX 11 (.mv 10),
 oX 12 (.ar 1 5),
 oX 13 (.load false 1 12),
 oX 14 (.bin .lss 11 13)])
 (.cond 14
 .skip
 (.exit 0)))
 (.seq
 (.block 1
 (.ae true [
 oX 17 (.load true 3 5),
 oX 18 (.mv 2),
 oX 19 (.mv 10),
 oX 20 (.load true 3 5),
 oX 21 (.mv 2),
 oX 22 (.mv 10),
 oX 23 (.call .ab 74 [20,21,22]),
 oX 24 (.mv 4),
 oX 25 (.load true 3 5),
 oX 26 (.mv 3),
 oX 27 (.mv 10),
 oX 28 (.call .ab 74 [25,26,27]),
 oX 29 (.bin .mul 24 28),
 oX 30 (.bin .add 23 29),
 oX 31 (.mv 1),
 oX 32 (.bin .rem 30 31),
 oX 33 (.gb .ab 72 [17,18,19,32])]))
 (.ae false [
 oX 15 (.mv 10),
 oX 16 (.bin .add 15 (kX 1)),
 oX 10 (.mv 16)])))))))
def Q2:List bC:=[]
theorem ali (NN:Nat) (x:aS (ak.aR Ha)):vj NN [rV,rW] T6 Q2 Ha Kd SS x=Gr NN x:=by kernel_rfl
theorem aiY:ct pX 104 T6.er Q2 5=true:=by decide+kernel
theorem amG:qp pX 104 Kd NR.MM/\bD pX 104=true:=
  zn (T:=[rV,rW]) (sc:=T6) (ms:=Q2) (args:=Ha) (mu:=Kd) (aD:=SS) (aB.cons Fh<|aB.qx Fi<|aB.nil) cL aiY xC fun x y h=>(ali aE x).trans (ago x y h)
def Ob:aw:=⟨63,HH,akH,Tm,xJ⟩
def Uz:bA:=
 (.seq
 (.ae false [
 oX 3 (.box 3 1),
 oX 4 (.alloc [zX,zX,.nil iX]),
 oX 5 (.mv (.k (.one (.nil iX))))])
 (.seq
 (.ae false [
 oX 14 (.load true 3 3),
 oX 15 (.call .ab 101 [14]),
 oX 6 (.alloc [zX,zX,.nil iX]),
 uX (.store 3 6 15)])
 (.seq
 (.ae false [
 oX 7 (.mv (.k (.one (.nil iX))))])
 (.seq
 (.seq
 (.ae false [
 oX 8 (.mv (kX 0))])
 (.join ⟨[(6,.one (rX 6)),(7,.one (fX 500026 1)),(4,.one (rX 4))],[(4,.box [vX,vX,fX 500024 1]),(6,.box [vX,vX,fX 500025 1]),(500024,.row true .ab iX),(500025,.row true .ab iX),(500026,.row true .ab iX)]⟩ [4,6,500000,500001,500002,500024,500025,500026] [(true,4,2,500024,.ab,[]),(true,6,2,500025,.ab,[]),(false,7,0,500026,.ab,[])]
 (.block 0
 (.loop 0 ⟨[(0,sX),(4,.one (rX 4)),(6,.one (rX 6)),(7,.one (fX 500002 1)),(8,sX)],[(4,.box [vX,vX,fX 500000 1]),(6,.box [vX,vX,fX 500001 1]),(500000,.row true .ab iX),(500001,.row true .ab iX),(500002,.row true .ab iX)]⟩ [3,4,16000,6,500000,500001,500002,500021,500022,500023] [(true,4,2,500000,.ab,[]),(true,6,2,500001,.ab,[]),(false,7,0,500002,.ab,[])]
 (.seq
 (.seq
 (.ae false [
 oX 16 (.mv 8),
 oX 17 (.ar 1 6),
 oX 18 (.load false 1 17),
 oX 19 (.bin .lss 16 18)])
 (.cond 19
 .skip
 (.exit 0)))
 (.seq
 (.join ⟨[(8,sX),(0,sX),(4,.one (rX 4)),(6,.one (rX 6)),(7,.one (fX 500023 1))],[(4,.box [vX,vX,fX 500021 1]),(6,.box [vX,vX,fX 500022 1]),(500021,.row true .ab iX),(500022,.row true .ab iX),(500023,.row true .ab iX)]⟩ [4,6,99,100,500006,500007,500008,500018,500019,500021,500022,500023] [(true,4,2,500021,.ab,[]),(true,6,2,500022,.ab,[]),(false,7,0,500023,.ab,[])]
 (.block 1
 (.seq
 (.ae false [
 oX 22 (.mv 7),
 oX 23 (.len 22),
 oX 9 (.mv 23)])
 (.seq
 (.ae false [
 oX 24 (.mv 9),
 oX 10 (.mv 24)])
 (.seq
 (.join ⟨[(10,sX),(9,sX),(7,.one (fX 500008 1)),(8,sX),(0,sX),(4,.one (rX 4)),(6,.one (rX 6))],[(4,.box [vX,vX,fX 500006 1]),(6,.box [vX,vX,fX 500007 1]),(500006,.row true .ab iX),(500007,.row true .ab iX),(500008,.row true .ab iX)]⟩ [4,6,500003,500004,500005,500006,500007,500008] [(true,4,2,500006,.ab,[]),(true,6,2,500007,.ab,[]),(false,7,0,500008,.ab,[])]
 (.block 2
 (.loop 0 ⟨[(0,sX),(4,.one (rX 4)),(6,.one (rX 6)),(7,.one (fX 500005 1)),(8,sX),(9,sX),(10,sX)],[(4,.box [vX,vX,fX 500003 1]),(6,.box [vX,vX,fX 500004 1]),(500003,.row true .ab iX),(500004,.row true .ab iX),(500005,.row true .ab iX)]⟩ [4,6,500000,500001,500002,500003,500004,500005] [(true,4,2,500003,.ab,[]),(true,6,2,500004,.ab,[]),(false,7,0,500005,.ab,[])]
 (.seq
 (.seq
 (.ae false [
 oX 25 (.mv 10),
 oX 26 (.ar 0 6),
 oX 27 (.load false 1 26),
 oX 28 (.bin .lss 25 27),
 oX 29 (.mv 28),
 ⟨(some 30),.load true 3 6,(some (29,true))⟩,
 ⟨(some 31),.mv 10,(some (29,true))⟩,
 ⟨(some 32),.mv 8,(some (29,true))⟩,
 ⟨(some 33),.call .ab 74 [30,31,32],(some (29,true))⟩,
 ⟨(some 34),.bin .eql 33 (kX 0),(some (29,true))⟩,
 oX 35 (.pick 29 34 (.k (.one (.v (.bool) (false)))))])
 (.cond 35
 .skip
 (.exit 2)))
 (.block 3
 (.ae false [
 oX 36 (.mv 10),
 oX 37 (.bin .add 36 (kX 1)),
 oX 10 (.mv 37)]))))))
 (.seq
 (.seq
 (.ae false [
 oX 38 (.mv 10),
 oX 39 (.ar 0 6),
 oX 40 (.load false 1 39),
 oX 41 (.bin .eql 38 40)])
 (.cond 41
 (.exit 1)
 .skip))
 (.seq
 (.ae false [
 oX 42 (.load true 3 6),
 oX 43 (.mv 9),
 oX 44 (.mv 10),
 oX 45 (.gb .ab 102 [42,43,44])])
 (.seq
 (.ae false [
 oX 46 (.mv 0),
 oX 47 (.load true 3 6),
 oX 48 (.mv 9),
 oX 49 (.mv 8),
 oX 50 (.call .ab 74 [47,48,49]),
 oX 51 (.call .ab 103 [46,50]),
 oX 11 (.mv 51)])
 (.seq
 (.seq
 (.ae false [
 oX 12 (.mv (kX 0))])
 (.join ⟨[(6,.one (rX 6)),(4,.one (rX 4)),(0,sX),(8,sX),(7,.one (fX 500014 1)),(9,sX)],[(4,.box [vX,vX,fX 500012 1]),(6,.box [vX,vX,fX 500013 1]),(500012,.row true .ab iX),(500013,.row true .ab iX),(500014,.row true .ab iX)]⟩ [4,6,500009,500010,500011,500012,500013,500014] [(true,4,2,500012,.ab,[]),(true,6,2,500013,.ab,[]),(false,7,0,500014,.ab,[])]
 (.block 4
 (.loop 0 ⟨[(0,sX),(4,.one (rX 4)),(6,.one (rX 6)),(7,.one (fX 500011 1)),(8,sX),(9,sX),(11,sX),(12,sX)],[(4,.box [vX,vX,fX 500009 1]),(6,.box [vX,vX,fX 500010 1]),(500009,.row true .ab iX),(500010,.row true .ab iX),(500011,.row true .ab iX)]⟩ [4,6,500006,500007,500008,500009,500010,500011] [(true,4,2,500009,.ab,[]),(true,6,2,500010,.ab,[]),(false,7,0,500011,.ab,[])]
 (.seq
 (.seq
 (.ae false [
 oX 52 (.mv 12),
 oX 53 (.ar 1 6),
 oX 54 (.load false 1 53),
 oX 55 (.bin .lss 52 54)])
 (.cond 55
 .skip
 (.exit 4)))
 (.seq
 (.block 5
 (.ae true [
 oX 58 (.load true 3 6),
 oX 59 (.mv 9),
 oX 60 (.mv 12),
 oX 61 (.load true 3 6),
 oX 62 (.mv 9),
 oX 63 (.mv 12),
 oX 64 (.call .ab 74 [61,62,63]),
 oX 65 (.mv 11),
 oX 66 (.bin .mul 64 65),
 oX 67 (.mv 0),
 oX 68 (.bin .rem 66 67),
 oX 69 (.gb .ab 72 [58,59,60,68])]))
 (.ae false [
 oX 56 (.mv 12),
 oX 57 (.bin .add 56 (kX 1)),
 oX 12 (.mv 57)])))))))
 (.seq
 (.seq
 (.ae false [
 oX 13 (.mv (kX 0))])
 (.join ⟨[(7,.one (fX 500020 1)),(8,sX),(0,sX),(4,.one (rX 4)),(6,.one (rX 6))],[(4,.box [vX,vX,fX 500018 1]),(6,.box [vX,vX,fX 500019 1]),(500018,.row true .ab iX),(500019,.row true .ab iX),(500020,.row true .ab iX)]⟩ [4,6,500015,500016,500017,500018,500019,500020] [(true,4,2,500018,.ab,[]),(true,6,2,500019,.ab,[]),(false,7,0,500020,.ab,[])]
 (.block 6
 (.loop 0 ⟨[(0,sX),(4,.one (rX 4)),(6,.one (rX 6)),(7,.one (fX 500017 1)),(8,sX),(9,sX),(13,sX)],[(4,.box [vX,vX,fX 500015 1]),(6,.box [vX,vX,fX 500016 1]),(500015,.row true .ab iX),(500016,.row true .ab iX),(500017,.row true .ab iX)]⟩ [4,6,500012,500013,500014,500015,500016,500017] [(true,4,2,500015,.ab,[]),(true,6,2,500016,.ab,[]),(false,7,0,500017,.ab,[])]
 (.seq
 (.seq
 (.ae false [
 oX 70 (.mv 13),
 oX 71 (.ar 0 6),
 oX 72 (.load false 1 71),
 oX 73 (.bin .lss 70 72)])
 (.cond 73
 .skip
 (.exit 6)))
 (.seq
 (.block 7
 (.seq
 (.ae false [
 oX 76 (.mv 13),
 oX 77 (.mv 9),
 oX 78 (.bin .neq 76 77),
 oX 79 (.mv 78),
 ⟨(some 80),.load true 3 6,(some (79,true))⟩,
 ⟨(some 81),.mv 13,(some (79,true))⟩,
 ⟨(some 82),.mv 8,(some (79,true))⟩,
 ⟨(some 83),.call .ab 74 [80,81,82],(some (79,true))⟩,
 ⟨(some 84),.bin .neq 83 (kX 0),(some (79,true))⟩,
 oX 85 (.pick 79 84 (.k (.one (.v (.bool) (false)))))])
 (.cond 85
 (.ae true [
 oX 86 (.load true 3 6),
 oX 87 (.mv 0),
 oX 88 (.mv 13),
 oX 89 (.mv 9),
 oX 90 (.mv 0),
 oX 91 (.load true 3 6),
 oX 92 (.mv 13),
 oX 93 (.mv 8),
 oX 94 (.call .ab 74 [91,92,93]),
 oX 95 (.bin .sub 90 94),
 oX 96 (.gb .ab 104 [86,87,88,89,95])])
 .skip)))
 (.ae false [
 oX 74 (.mv 13),
 oX 75 (.bin .add 74 (kX 1)),
 oX 13 (.mv 75)])))))))
 (.ae false [
 oX 97 (.mv 7),
 oX 98 (.mv 8),
 oX 99 (.fC iX [98]),
 oX 100 (.append true iX 8 97 99),
 oX 7 (.mv 100)])))))))))))
 (.ae false [
 oX 20 (.mv 8),
 oX 21 (.bin .add 20 (kX 1)),
 oX 8 (.mv 21)])))))))
 (.seq
 (.ae false [
 oX 101 (.load true 3 6),
 oX 102 (.mv 7),
 uX (.store 3 4 101),
 oX 5 (.mv 102)])
 .ret)))))
def Rv:List bC:=[.cell 4 3 true,.tmp 5]
theorem alL (NN:Nat) (x:aS (ak.aR HH)):dN NN [N0,rV,NS,N9,rW,NR] Uz Rv HH Tm x=Gw NN x:=by kernel_rfl
theorem ajq:ct pX 63 Uz.er Rv 2=true:=by decide+kernel
theorem am0:du pX 63 Ob.M/\bD pX 63=true:=
  dW (T:=[N0,rV,NS,N9,rW,NR]) (sc:=Uz) (ms:=Rv) (args:=HH) (aD:=Tm) (aB.cons amP<|aB.cons Fh<|aB.qx amH<|aB.cons amY<|aB.qx Fi<|aB.qx amG<|aB.nil) cL ajq xJ fun x y h=>(alL aE x).trans (agQ x y h)
def D6:aw:=⟨71,Hs,akv,S9,Ac⟩
def Ul:bA:=
 (.seq
 (.ae false [
 oX 4 (.alloc [zX,zX,.nil iX])])
 (.seq
 (.ae false [
 oX 5 (.mv 0),
 oX 6 (.mv 1),
 oX 7 (.mv 0),
 oX 8 (.mv 1),
 oX 9 (.bin .mul 7 8),
 oX 10 (.kc .ab iX 8 (0:Int) 9 9),
 oX 11 (.build [zX,zX,.nil iX] [(0,1,5),(1,1,6),(2,1,10)]),
 uX (.store 3 4 11)])
 .ret))
def Ri:List bC:=[.cell 4 3 true]
theorem aly (NN:Nat) (x:aS (ak.aR Hs)):dN NN [] Ul Ri Hs S9 x=Ww NN x:=by kernel_rfl
theorem ajd:ct pX 71 Ul.er Ri 2=true:=by decide+kernel
theorem abw:du pX 71 D6.M/\bD pX 71=true:=
  dW (T:=[]) (sc:=Ul) (ms:=Ri) (args:=Hs) (aD:=S9) (aB.nil) cL ajd Ac fun x y h=>(aly aE x).trans (agD x y h)
def D4:aw:=⟨46,G7,akg,SP,o9⟩
def T2:bA:=
 (.seq
 (.ae false [
 oX 3 (.box 3 1),
 oX 4 (.alloc [zX,zX,.nil iX]),
 oX 5 (.alloc [zX,zX,.nil iX]),
 oX 6 (.mv (.k (.one (.v (.bool) (false)))))])
 (.seq
 (.seq
 (.ae false [
 oX 15 (.mv 0),
 oX 16 (.load true 3 3),
 oX 17 (.call .ab 62 [15,16]),
 oX 18 (.un .not 17)])
 (.cond 18
 (.seq
 (.ae false [
 oX 19 (.build [zX,zX,.nil iX] []),
 oX 20 (.build [zX,zX,.nil iX] []),
 uX (.store 3 4 19),
 uX (.store 3 5 20),
 oX 6 (.mv (.k (.one (.v (.bool) (false)))))])
 .ret)
 .skip))
 (.seq
 (.ae false [
 oX 22 (.mv 0),
 oX 23 (.load true 3 3),
 oX 24 (.call .ab 63 [22,23]),
 oX 21 (.mv 24),
 oX 25 (.ext 0 21),
 oX 26 (.ext 1 21),
 oX 7 (.alloc [zX,zX,.nil iX]),
 uX (.store 3 7 25),
 oX 8 (.mv 26)])
 (.seq
 (.ae false [
 oX 27 (.mv 8),
 oX 28 (.len 27),
 oX 9 (.mv 28)])
 (.seq
 (.ae false [
 oX 29 (.ar 0 3),
 oX 30 (.load false 1 29),
 oX 31 (.mv 9),
 oX 32 (.call .ab 71 [30,31]),
 oX 10 (.alloc [zX,zX,.nil iX]),
 uX (.store 3 10 32)])
 (.seq
 (.seq
 (.ae false [
 oX 11 (.mv (kX 0))])
 (.join ⟨[(7,.one (rX 7)),(9,sX),(3,.one (rX 3)),(10,.one (rX 10)),(4,.one (rX 4)),(5,.one (rX 5))],[(3,.box [vX,vX,.c (.v (lX))]),(4,.box [vX,vX,fX 500015 1]),(5,.box [vX,vX,fX 500016 1]),(7,.box [vX,vX,fX 500017 1]),(10,.box [vX,vX,fX 500018 1]),(500015,.row true .ab iX),(500016,.row true .ab iX),(500017,.row true .ab iX),(500018,.row true .ab iX)]⟩ [3,4,5,7,10,500000,500001,500002,500003,500004,500015,500016,500017,500018] [(true,4,2,500015,.ab,[]),(true,5,2,500016,.ab,[]),(true,7,2,500017,.ab,[]),(true,10,2,500018,.ab,[])]
 (.block 0
 (.loop 0 ⟨[(3,.one (rX 3)),(4,.one (rX 4)),(5,.one (rX 5)),(7,.one (rX 7)),(8,.one (fX 500004 1)),(9,sX),(10,.one (rX 10)),(11,sX)],[(3,.box [vX,vX,.c (.v (lX))]),(4,.box [vX,vX,fX 500000 1]),(5,.box [vX,vX,fX 500001 1]),(7,.box [vX,vX,fX 500002 1]),(10,.box [vX,vX,fX 500003 1]),(500000,.row true .ab iX),(500001,.row true .ab iX),(500002,.row true .ab iX),(500003,.row true .ab iX),(500004,.row true .ab iX)]⟩ [3,4,5,25000,25001,7,33000,10,500000,500001,500002,500003,500004,500010,500011,500012,500013,500014] [(true,4,2,500000,.ab,[]),(true,5,2,500001,.ab,[]),(true,7,2,500002,.ab,[]),(true,10,2,500003,.ab,[]),(false,8,0,500004,.ab,[])]
 (.seq
 (.seq
 (.ae false [
 oX 33 (.mv 11),
 oX 34 (.ar 0 3),
 oX 35 (.load false 1 34),
 oX 36 (.bin .lss 33 35)])
 (.cond 36
 .skip
 (.exit 0)))
 (.seq
 (.join ⟨[(11,sX),(3,.one (rX 3)),(4,.one (rX 4)),(5,.one (rX 5)),(7,.one (rX 7)),(8,.one (fX 500014 1)),(9,sX),(10,.one (rX 10))],[(3,.box [vX,vX,.c (.v (lX))]),(4,.box [vX,vX,fX 500010 1]),(5,.box [vX,vX,fX 500011 1]),(7,.box [vX,vX,fX 500012 1]),(10,.box [vX,vX,fX 500013 1]),(500010,.row true .ab iX),(500011,.row true .ab iX),(500012,.row true .ab iX),(500013,.row true .ab iX),(500014,.row true .ab iX)]⟩ [3,4,5,7,10,500005,500006,500007,500008,500009,500010,500011,500012,500013,500014] [(true,4,2,500010,.ab,[]),(true,5,2,500011,.ab,[]),(true,7,2,500012,.ab,[]),(true,10,2,500013,.ab,[]),(false,8,0,500014,.ab,[])]
 (.block 1
 (.seq
 (.ae false [
 oX 39 (.mv 8),
 oX 40 (.len 39),
 oX 41 (.mv (kX 0))])
 (.block 2
 (.loop 0 ⟨[(3,.one (rX 3)),(4,.one (rX 4)),(5,.one (rX 5)),(7,.one (rX 7)),(8,.one (fX 500009 1)),(9,sX),(10,.one (rX 10)),(11,sX),(39,.one (fX 500009 1)),(40,sX),(41,sX)],[(3,.box [vX,vX,.c (.v (lX))]),(4,.box [vX,vX,fX 500005 1]),(5,.box [vX,vX,fX 500006 1]),(7,.box [vX,vX,fX 500007 1]),(10,.box [vX,vX,fX 500008 1]),(500005,.row true .ab iX),(500006,.row true .ab iX),(500007,.row true .ab iX),(500008,.row true .ab iX),(500009,.row true .ab iX)]⟩ [3,4,5,7,10,500000,500001,500002,500003,500004,500005,500006,500007,500008,500009] [(true,4,2,500005,.ab,[]),(true,5,2,500006,.ab,[]),(true,7,2,500007,.ab,[]),(true,10,2,500008,.ab,[]),(false,8,0,500009,.ab,[])]
 (.seq
 (.ae false [
 oX 42 (.bin .lss 41 40)])
 (.seq
 (.cond 42
 .skip
 (.exit 2))
 (.seq
 (.block 3
 (.seq
 (.ae false [
 oX 43 (.mv 41),
 oX 44 (.cb 1 39 41),
 oX 45 (.load false 1 44),
 oX 12 (.mv 43),
 oX 13 (.mv 45)])
 (.ae true [
 oX 46 (.load true 3 10),
 oX 47 (.mv 11),
 oX 48 (.mv 12),
 oX 49 (.load true 3 3),
 oX 50 (.mv 11),
 oX 51 (.mv 13),
 oX 52 (.call .ab 74 [49,50,51]),
 oX 53 (.gb .ab 72 [46,47,48,52])])))
 (.ae false [
 oX 54 (.bin .add 41 (kX 1)),
 oX 41 (.mv 54)])))))))))
 (.ae false [
 oX 37 (.mv 11),
 oX 38 (.bin .add 37 (kX 1)),
 oX 11 (.mv 38)])))))))
 (.seq
 (.ae true [
 oX 55 (.mv 9),
 oX 56 (.ar 1 3),
 oX 57 (.load false 1 56),
 oX 58 (.ar 2 7),
 oX 59 (.load false 1 58),
 oX 60 (.mv 9),
 oX 61 (.ar 1 3),
 oX 62 (.load false 1 61),
 oX 63 (.bin .mul 60 62),
 oX 64 (.slice 1 59 none (some 63)),
 oX 65 (.call .ab 47 [64]),
 oX 66 (.build [zX,zX,.nil iX] [(0,1,55),(1,1,57),(2,1,65)]),
 oX 14 (.alloc [zX,zX,.nil iX]),
 uX (.store 3 14 66)])
 (.seq
 (.qb [(1,2)] [
 oX 67 (.load true 3 10),
 oX 68 (.load true 3 14),
 uX (.store 3 4 67),
 uX (.store 3 5 68),
 oX 6 (.mv (.k (.one (.v (.bool) (true)))))])
 .ret))))))))
def QZ:List bC:=[.cell 4 3 true,.cell 5 3 true,.tmp 6]
theorem alf (NN:Nat) (x:aS (ak.aR G7)):dN NN [NQ,Ob,D6,rV,rW,pA] T2 QZ G7 SP x=Dd NN x:=by kernel_rfl
theorem aiV:ct pX 46 T2.er QZ 2=true:=by decide+kernel
theorem abu:du pX 46 D4.M/\bD pX 46=true:=
  dW (T:=[NQ,Ob,D6,rV,rW,pA]) (sc:=T2) (ms:=QZ) (args:=G7) (aD:=SP) (aB.cons amF<|aB.cons am0<|aB.cons abw<|aB.cons Fh<|aB.qx Fi<|aB.cons Cr<|aB.nil) cL aiV o9 fun x y h=>(alf aE x).trans (agl x y h)
def D9:aw:=⟨73,HE,akF,Tk,vE⟩
def Ux:bA:=
 (.seq
 (.ae false [
 oX 4 (.box 3 1),
 oX 5 (.box 3 2),
 oX 6 (.alloc [zX,zX,.nil iX])])
 (.seq
 (.ae false [
 oX 12 (.ar 0 4),
 oX 13 (.load false 1 12),
 oX 14 (.ar 1 5),
 oX 15 (.load false 1 14),
 oX 16 (.call .ab 71 [13,15]),
 oX 7 (.alloc [zX,zX,.nil iX]),
 uX (.store 3 7 16)])
 (.seq
 (.seq
 (.ae false [
 oX 8 (.mv (kX 0))])
 (.join ⟨[(7,.one (rX 7)),(6,.one (rX 6))],[(6,.box [vX,vX,fX 500012 1]),(7,.box [vX,vX,fX 500013 1]),(500012,.row true .ab iX),(500013,.row true .ab iX)]⟩ [4,5,6,7,500000,500001,500012,500013] [(true,6,2,500012,.ab,[]),(true,7,2,500013,.ab,[])]
 (.block 0
 (.loop 0 ⟨[(0,sX),(4,.one (rX 4)),(5,.one (rX 5)),(6,.one (rX 6)),(7,.one (rX 7)),(8,sX)],[(4,.box [vX,vX,.c (.v (lX))]),(5,.box [vX,vX,.c (.v (lX))]),(6,.box [vX,vX,fX 500000 1]),(7,.box [vX,vX,fX 500001 1]),(500000,.row true .ab iX),(500001,.row true .ab iX)]⟩ [4,5,6,17000,7,500000,500001,500010,500011] [(true,6,2,500000,.ab,[]),(true,7,2,500001,.ab,[])]
 (.seq
 (.seq
 (.ae false [
 oX 17 (.mv 8),
 oX 18 (.ar 0 4),
 oX 19 (.load false 1 18),
 oX 20 (.bin .lss 17 19)])
 (.cond 20
 .skip
 (.exit 0)))
 (.seq
 (.join ⟨[(8,sX),(0,sX),(4,.one (rX 4)),(5,.one (rX 5)),(6,.one (rX 6)),(7,.one (rX 7))],[(4,.box [vX,vX,.c (.v (lX))]),(5,.box [vX,vX,.c (.v (lX))]),(6,.box [vX,vX,fX 500010 1]),(7,.box [vX,vX,fX 500011 1]),(500010,.row true .ab iX),(500011,.row true .ab iX)]⟩ [4,5,6,7,500002,500003,500010,500011] [(true,6,2,500010,.ab,[]),(true,7,2,500011,.ab,[])]
 (.block 1
 (.seq
 (.ae false [
 oX 9 (.mv (kX 0))])
 (.block 2
 (.loop 0 ⟨[(0,sX),(4,.one (rX 4)),(5,.one (rX 5)),(6,.one (rX 6)),(7,.one (rX 7)),(8,sX),(9,sX)],[(4,.box [vX,vX,.c (.v (lX))]),(5,.box [vX,vX,.c (.v (lX))]),(6,.box [vX,vX,fX 500002 1]),(7,.box [vX,vX,fX 500003 1]),(500002,.row true .ab iX),(500003,.row true .ab iX)]⟩ [4,5,6,7,500000,500001,500002,500003,500008,500009] [(true,6,2,500002,.ab,[]),(true,7,2,500003,.ab,[])]
 (.seq
 (.seq
 (.ae false [
 oX 23 (.mv 9),
 oX 24 (.ar 1 5),
 oX 25 (.load false 1 24),
 oX 26 (.bin .lss 23 25)])
 (.cond 26
 .skip
 (.exit 2)))
 (.seq
 (.join ⟨[(9,sX),(0,sX),(4,.one (rX 4)),(5,.one (rX 5)),(6,.one (rX 6)),(7,.one (rX 7)),(8,sX)],[(4,.box [vX,vX,.c (.v (lX))]),(5,.box [vX,vX,.c (.v (lX))]),(6,.box [vX,vX,fX 500008 1]),(7,.box [vX,vX,fX 500009 1]),(500008,.row true .ab iX),(500009,.row true .ab iX)]⟩ [4,5,6,7,500006,500007,500008,500009] [(true,6,2,500008,.ab,[]),(true,7,2,500009,.ab,[])]
 (.block 3
 (.seq
 (.ae false [
 oX 10 (.mv (kX 0))])
 (.seq
 (.seq
 (.ae false [
 oX 11 (.mv (kX 0))])
 (.join ⟨[(10,sX),(9,sX),(0,sX),(4,.one (rX 4)),(5,.one (rX 5)),(6,.one (rX 6)),(7,.one (rX 7)),(8,sX)],[(4,.box [vX,vX,.c (.v (lX))]),(5,.box [vX,vX,.c (.v (lX))]),(6,.box [vX,vX,fX 500006 1]),(7,.box [vX,vX,fX 500007 1]),(500006,.row true .ab iX),(500007,.row true .ab iX)]⟩ [4,5,6,7,500004,500005,500006,500007] [(true,6,2,500006,.ab,[]),(true,7,2,500007,.ab,[])]
 (.block 4
 (.loop 0 ⟨[(0,sX),(4,.one (rX 4)),(5,.one (rX 5)),(6,.one (rX 6)),(7,.one (rX 7)),(8,sX),(9,sX),(10,sX),(11,sX)],[(4,.box [vX,vX,.c (.v (lX))]),(5,.box [vX,vX,.c (.v (lX))]),(6,.box [vX,vX,fX 500004 1]),(7,.box [vX,vX,fX 500005 1]),(500004,.row true .ab iX),(500005,.row true .ab iX)]⟩ [4,5,6,7,500002,500003,500004,500005] [(true,6,2,500004,.ab,[]),(true,7,2,500005,.ab,[])]
 (.seq
 (.seq
 (.ae false [
 oX 29 (.mv 11),
 oX 30 (.ar 1 4),
 oX 31 (.load false 1 30),
 oX 32 (.bin .lss 29 31)])
 (.cond 32
 .skip
 (.exit 4)))
 (.seq
 (.block 5
 (.ae true [
 oX 35 (.mv 10),
 oX 36 (.load true 3 4),
 oX 37 (.mv 8),
 oX 38 (.mv 11),
 oX 39 (.call .ab 74 [36,37,38]),
 oX 40 (.load true 3 5),
 oX 41 (.mv 11),
 oX 42 (.mv 9),
 oX 43 (.call .ab 74 [40,41,42]),
 oX 44 (.bin .mul 39 43),
 oX 45 (.bin .add 35 44),
 oX 46 (.mv 0),
 oX 47 (.bin .rem 45 46),
 oX 10 (.mv 47)]))
 (.ae false [
 oX 33 (.mv 11),
 oX 34 (.bin .add 33 (kX 1)),
 oX 11 (.mv 34)])))))))
 (.ae false [
 oX 48 (.load true 3 7),
 oX 49 (.mv 8),
 oX 50 (.mv 9),
 oX 51 (.mv 10),
 oX 52 (.gb .ab 72 [48,49,50,51])])))))
 (.ae false [
 oX 27 (.mv 9),
 oX 28 (.bin .add 27 (kX 1)),
 oX 9 (.mv 28)]))))))))
 (.ae false [
 oX 21 (.mv 8),
 oX 22 (.bin .add 21 (kX 1)),
 oX 8 (.mv 22)])))))))
 (.seq
 (.ae false [
 oX 53 (.load true 3 7),
 uX (.store 3 6 53)])
 .ret))))
def Rt:List bC:=[.cell 6 3 true]
theorem alJ (NN:Nat) (x:aS (ak.aR HE)):dN NN [D6,rV,rW] Ux Rt HE Tk x=Gv NN x:=by kernel_rfl
theorem ajo:ct pX 73 Ux.er Rt 3=true:=by decide+kernel
theorem abz:du pX 73 D9.M/\bD pX 73=true:=
  dW (T:=[D6,rV,rW]) (sc:=Ux) (ms:=Rt) (args:=HE) (aD:=Tk) (aB.cons abw<|aB.cons Fh<|aB.qx Fi<|aB.nil) cL ajo vE fun x y h=>(alJ aE x).trans (agO x y h)
def N4:aw:=⟨69,Hw,akz,Td,xF⟩
def Up:bA:=
 (.seq
 (.ae false [
 oX 4 (.box 3 1),
 oX 5 (.box 4 2),
 oX 6 (.alloc [zX,zX,zX,.nil iX])])
 (.seq
 (.ae false [
 oX 8 (.mv 0),
 oX 9 (.load true 3 4),
 oX 10 (.ar 0 5),
 oX 11 (.load false 1 10),
 oX 12 (.ar 1 5),
 oX 13 (.load false 1 12),
 oX 14 (.ar 2 5),
 oX 15 (.load false 1 14),
 oX 16 (.bin .mul 13 15),
 oX 17 (.ar 3 5),
 oX 18 (.load false 1 17),
 oX 19 (.build [zX,zX,.nil iX] [(0,1,11),(1,1,16),(2,1,18)]),
 oX 20 (.call .ab 73 [8,9,19]),
 oX 7 (.alloc [zX,zX,.nil iX]),
 uX (.store 3 7 20)])
 (.seq
 (.ae false [
 oX 21 (.ar 0 4),
 oX 22 (.load false 1 21),
 oX 23 (.ar 1 5),
 oX 24 (.load false 1 23),
 oX 25 (.ar 2 5),
 oX 26 (.load false 1 25),
 oX 27 (.ar 2 7),
 oX 28 (.load false 1 27),
 oX 29 (.build [zX,zX,zX,.nil iX] [(0,1,22),(1,1,24),(2,1,26),(3,1,28)]),
 uX (.store 4 6 29)])
 .ret)))
def Rm:List bC:=[.cell 6 4 true]
theorem alC (NN:Nat) (x:aS (ak.aR Hw)):dN NN [D9] Up Rm Hw Td x=Mf NN x:=by kernel_rfl
theorem ajh:ct pX 69 Up.er Rm 3=true:=by decide+kernel
theorem amT:du pX 69 N4.M/\bD pX 69=true:=
  dW (T:=[D9]) (sc:=Up) (ms:=Rm) (args:=Hw) (aD:=Td) (aB.cons abz<|aB.nil) cL ajh xF fun x y h=>(alC aE x).trans (agH x y h)
def N5:aw:=⟨70,Hx,akA,Te,xG⟩
def Uq:bA:=
 (.seq
 (.ae false [
 oX 4 (.box 4 1),
 oX 5 (.box 3 2),
 oX 6 (.alloc [zX,zX,zX,.nil iX])])
 (.seq
 (.ae false [
 oX 8 (.mv 0),
 oX 9 (.ar 0 4),
 oX 10 (.load false 1 9),
 oX 11 (.ar 1 4),
 oX 12 (.load false 1 11),
 oX 13 (.bin .mul 10 12),
 oX 14 (.ar 2 4),
 oX 15 (.load false 1 14),
 oX 16 (.ar 3 4),
 oX 17 (.load false 1 16),
 oX 18 (.build [zX,zX,.nil iX] [(0,1,13),(1,1,15),(2,1,17)]),
 oX 19 (.load true 3 5),
 oX 20 (.call .ab 73 [8,18,19]),
 oX 7 (.alloc [zX,zX,.nil iX]),
 uX (.store 3 7 20)])
 (.seq
 (.ae false [
 oX 21 (.ar 0 4),
 oX 22 (.load false 1 21),
 oX 23 (.ar 1 4),
 oX 24 (.load false 1 23),
 oX 25 (.ar 1 5),
 oX 26 (.load false 1 25),
 oX 27 (.ar 2 7),
 oX 28 (.load false 1 27),
 oX 29 (.build [zX,zX,zX,.nil iX] [(0,1,22),(1,1,24),(2,1,26),(3,1,28)]),
 uX (.store 4 6 29)])
 .ret)))
def Rn:List bC:=[.cell 6 4 true]
theorem alD (NN:Nat) (x:aS (ak.aR Hx)):dN NN [D9] Uq Rn Hx Te x=Mg NN x:=by kernel_rfl
theorem aji:ct pX 70 Uq.er Rn 3=true:=by decide+kernel
theorem amU:du pX 70 N5.M/\bD pX 70=true:=
  dW (T:=[D9]) (sc:=Uq) (ms:=Rn) (args:=Hx) (aD:=Te) (aB.cons abz<|aB.nil) cL aji xG fun x y h=>(alD aE x).trans (agI x y h)
def NP:aw:=⟨27,G6,akf,SO,xA⟩
def T1:bA:=
 (.seq
 (.ae false [
 oX 1 (.box 2 0),
 oX 2 (.alloc [zX,.nil gX])])
 (.seq
 (.seq
 (.ae false [
 oX 15 (.load true 2 1),
 oX 16 (.call .ab 21 [15]),
 oX 17 (.un .not 16)])
 (.cond 17
 (.seq
 (.ae false [
 oX 18 (.build [zX,.nil gX] []),
 uX (.store 2 2 18)])
 .ret)
 .skip))
 (.seq
 (.ae false [
 oX 19 (.load true 2 1),
 oX 20 (.call .ab 68 [19]),
 oX 3 (.alloc [zX,.nil gX]),
 uX (.store 2 3 20)])
 (.seq
 (.ae false [
 oX 21 (.ar 1 3),
 oX 22 (.load false 1 21),
 oX 23 (.len 22),
 oX 24 (.bin .sub 23 (kX 1)),
 oX 4 (.mv 24)])
 (.seq
 (.seq
 (.ae false [
 oX 5 (.mv (kX 0))])
 (.join ⟨[(4,sX),(2,.one (rX 2)),(3,.one (rX 3)),(1,.one (rX 1))],[(1,.box [vX,.c (.v (.list gX))]),(2,.box [vX,fX 500002 4]),(3,.box [vX,fX 500003 4]),(500002,.row true .ab gX),(500003,.row true .ab gX)]⟩ [1,2,3,500000,500001,500002,500003] [(true,2,1,500002,.ab,[]),(true,3,1,500003,.ab,[])]
 (.block 0
 (.loop 0 ⟨[(1,.one (rX 1)),(2,.one (rX 2)),(3,.one (rX 3)),(4,sX),(5,sX)],[(1,.box [vX,.c (.v (.list gX))]),(2,.box [vX,fX 500000 4]),(3,.box [vX,fX 500001 4]),(500000,.row true .ab gX),(500001,.row true .ab gX)]⟩ [1,2,21000,3,6,49001,7,8,500000,500001] [(true,2,1,500000,.ab,[]),(true,3,1,500001,.ab,[])]
 (.seq
 (.seq
 (.ae false [
 oX 25 (.mv 5),
 oX 26 (.mv 4),
 oX 27 (.bin .lss 25 26)])
 (.cond 27
 .skip
 (.exit 0)))
 (.seq
 (.block 1
 (.seq
 (.ae false [
 oX 30 (.ar 1 3),
 oX 31 (.load false 1 30),
 oX 32 (.mv 5),
 oX 33 (.cb 4 31 32),
 oX 34 (.load true 4 33),
 oX 6 (.alloc [zX,zX,zX,.nil iX]),
 uX (.store 4 6 34)])
 (.seq
 (.ae false [
 oX 36 (.ar 0 1),
 oX 37 (.load false 1 36),
 oX 38 (.ar 0 6),
 oX 39 (.load false 1 38),
 oX 40 (.ar 1 6),
 oX 41 (.load false 1 40),
 oX 42 (.bin .mul 39 41),
 oX 43 (.ar 2 6),
 oX 44 (.load false 1 43),
 oX 45 (.ar 3 6),
 oX 46 (.load false 1 45),
 oX 47 (.build [zX,zX,.nil iX] [(0,1,42),(1,1,44),(2,1,46)]),
 oX 48 (.call .ab 46 [37,47]),
 oX 35 (.mv 48),
 oX 49 (.ext 0 35),
 oX 50 (.ext 1 35),
 oX 51 (.ext 2 35),
 oX 7 (.alloc [zX,zX,.nil iX]),
 oX 8 (.alloc [zX,zX,.nil iX]),
 uX (.store 3 7 49),
 uX (.store 3 8 50),
 oX 9 (.mv 51)])
 (.seq
 (.seq
 (.ae false [
 oX 52 (.mv 9),
 oX 53 (.un .not 52)])
 (.cond 53
 (.seq
 (.ae false [
 oX 54 (.build [zX,.nil gX] []),
 uX (.store 2 2 54)])
 .ret)
 .skip))
 (.seq
 (.ae false [
 oX 55 (.ar 1 3),
 oX 56 (.load false 1 55),
 oX 57 (.mv 5),
 oX 58 (.ar 0 6),
 oX 59 (.load false 1 58),
 oX 60 (.ar 1 6),
 oX 61 (.load false 1 60),
 oX 62 (.ar 1 7),
 oX 63 (.load false 1 62),
 oX 64 (.ar 2 7),
 oX 65 (.load false 1 64),
 oX 66 (.build [zX,zX,zX,.nil iX] [(0,1,59),(1,1,61),(2,1,63),(3,1,65)]),
 oX 67 (.cb 4 56 57),
 uX (.store 4 67 66)])
 (.ae true [
 oX 68 (.ar 1 3),
 oX 69 (.load false 1 68),
 oX 70 (.mv 5),
 oX 71 (.bin .add 70 (kX 1)),
 oX 72 (.ar 0 1),
 oX 73 (.load false 1 72),
 oX 74 (.load true 3 8),
 oX 75 (.ar 1 3),
 oX 76 (.load false 1 75),
 oX 77 (.mv 5),
 oX 78 (.bin .add 77 (kX 1)),
 oX 79 (.cb 4 76 78),
 oX 80 (.load true 4 79),
 oX 81 (.call .ab 69 [73,74,80]),
 oX 82 (.cb 4 69 71),
 uX (.store 4 82 81)]))))))
 (.ae false [
 oX 28 (.mv 5),
 oX 29 (.bin .add 28 (kX 1)),
 oX 5 (.mv 29)])))))))
 (.seq
 (.seq
 (.ae false [
 oX 83 (.mv 4),
 oX 10 (.mv 83)])
 (.join ⟨[(3,.one (rX 3)),(2,.one (rX 2))],[(2,.box [vX,fX 500006 4]),(3,.box [vX,fX 500007 4]),(500006,.row true .ab gX),(500007,.row true .ab gX)]⟩ [1,2,3,500004,500005,500006,500007] [(true,2,1,500006,.ab,[]),(true,3,1,500007,.ab,[])]
 (.block 2
 (.loop 0 ⟨[(1,.one (rX 1)),(2,.one (rX 2)),(3,.one (rX 3)),(10,sX)],[(1,.box [vX,.c (.v (.list gX))]),(2,.box [vX,fX 500004 4]),(3,.box [vX,fX 500005 4]),(500004,.row true .ab gX),(500005,.row true .ab gX)]⟩ [1,2,3,11,107000,12,13,500002,500003,500004,500005] [(true,2,1,500004,.ab,[]),(true,3,1,500005,.ab,[])]
 (.seq
 (.seq
 (.ae false [
 oX 84 (.mv 10),
 oX 85 (.bin .gtr 84 (kX 0))])
 (.cond 85
 .skip
 (.exit 2)))
 (.seq
 (.block 3
 (.seq
 (.ae false [
 oX 88 (.ar 1 3),
 oX 89 (.load false 1 88),
 oX 90 (.mv 10),
 oX 91 (.cb 4 89 90),
 oX 92 (.load true 4 91),
 oX 11 (.alloc [zX,zX,zX,.nil iX]),
 uX (.store 4 11 92)])
 (.seq
 (.ae false [
 oX 94 (.ar 0 1),
 oX 95 (.load false 1 94),
 oX 96 (.ar 0 11),
 oX 97 (.load false 1 96),
 oX 98 (.ar 1 11),
 oX 99 (.load false 1 98),
 oX 100 (.ar 2 11),
 oX 101 (.load false 1 100),
 oX 102 (.bin .mul 99 101),
 oX 103 (.ar 3 11),
 oX 104 (.load false 1 103),
 oX 105 (.build [zX,zX,.nil iX] [(0,1,97),(1,1,102),(2,1,104)]),
 oX 106 (.call .ab 46 [95,105]),
 oX 93 (.mv 106),
 oX 107 (.ext 0 93),
 oX 108 (.ext 1 93),
 oX 109 (.ext 2 93),
 oX 12 (.alloc [zX,zX,.nil iX]),
 oX 13 (.alloc [zX,zX,.nil iX]),
 uX (.store 3 12 107),
 uX (.store 3 13 108),
 oX 14 (.mv 109)])
 (.seq
 (.seq
 (.ae false [
 oX 110 (.mv 14),
 oX 111 (.un .not 110)])
 (.cond 111
 (.seq
 (.ae false [
 oX 112 (.build [zX,.nil gX] []),
 uX (.store 2 2 112)])
 .ret)
 .skip))
 (.seq
 (.ae false [
 oX 113 (.ar 1 3),
 oX 114 (.load false 1 113),
 oX 115 (.mv 10),
 oX 116 (.ar 0 13),
 oX 117 (.load false 1 116),
 oX 118 (.ar 1 11),
 oX 119 (.load false 1 118),
 oX 120 (.ar 2 11),
 oX 121 (.load false 1 120),
 oX 122 (.ar 2 13),
 oX 123 (.load false 1 122),
 oX 124 (.build [zX,zX,zX,.nil iX] [(0,1,117),(1,1,119),(2,1,121),(3,1,123)]),
 oX 125 (.cb 4 114 115),
 uX (.store 4 125 124)])
 (.ae true [
 oX 126 (.ar 1 3),
 oX 127 (.load false 1 126),
 oX 128 (.mv 10),
 oX 129 (.bin .sub 128 (kX 1)),
 oX 130 (.ar 0 1),
 oX 131 (.load false 1 130),
 oX 132 (.ar 1 3),
 oX 133 (.load false 1 132),
 oX 134 (.mv 10),
 oX 135 (.bin .sub 134 (kX 1)),
 oX 136 (.cb 4 133 135),
 oX 137 (.load true 4 136),
 oX 138 (.load true 3 12),
 oX 139 (.call .ab 70 [131,137,138]),
 oX 140 (.cb 4 127 129),
 uX (.store 4 140 139)]))))))
 (.ae false [
 oX 86 (.mv 10),
 oX 87 (.bin .sub 86 (kX 1)),
 oX 10 (.mv 87)])))))))
 (.seq
 (.ae false [
 oX 141 (.load true 2 3),
 uX (.store 2 2 141)])
 .ret)))))))
def QY:List bC:=[.cell 2 2 true]
theorem ale (NN:Nat) (x:aS (ak.aR G6)):dN NN [uk,NZ,D4,N4,N5] T1 QY G6 SO x=LW NN x:=by kernel_rfl
theorem aiU:ct pX 27 T1.er QY 1=true:=by decide+kernel
theorem amE:du pX 27 NP.M/\bD pX 27=true:=
  dW (T:=[uk,NZ,D4,N4,N5]) (sc:=T1) (ms:=QY) (args:=G6) (aD:=SO) (aB.cons Kx<|aB.cons amO<|aB.cons abu<|aB.cons amT<|aB.cons amU<|aB.nil) cL aiU xA fun x y h=>(ale aE x).trans (agk x y h)
def NY:aw:=⟨56,Hm,akq,S4,Da⟩
def Ug:bA:=
 (.seq
 (.ae false [
 oX 1 (.box 2 0),
 oX 2 (.mv (.k (.one (.nil iX))))])
 (.seq
 (.ae false [
 oX 3 (.mv (.k (.one (.nil iX))))])
 (.seq
 (.seq
 (.ae false [
 oX 6 (.ar 1 1),
 oX 7 (.load false 1 6),
 oX 8 (.len 7),
 oX 9 (.mv (kX 0))])
 (.join ⟨[(3,.one (fX 500001 1))],[(500001,.row true .ab iX)]⟩ [500000,500001] [(false,3,0,500001,.ab,[])]
 (.block 0
 (.loop 0 ⟨[(3,.one (fX 500000 1)),(7,.one (.c (.v (.list gX)))),(8,sX),(9,sX)],[(500000,.row true .ab iX)]⟩ [1,5,16,17,500000] [(false,3,0,500000,.ab,[])]
 (.seq
 (.ae false [
 oX 10 (.bin .lss 9 8)])
 (.seq
 (.cond 10
 .skip
 (.exit 0))
 (.seq
 (.block 1
 (.seq
 (.ae false [
 oX 11 (.cb 4 7 9),
 oX 12 (.load true 4 11),
 oX 5 (.alloc [zX,zX,zX,.nil iX]),
 uX (.store 4 5 12)])
 (.ae false [
 oX 13 (.mv 3),
 oX 14 (.ar 1 5),
 oX 15 (.load false 1 14),
 oX 16 (.fC iX [15]),
 oX 17 (.append true iX 8 13 16),
 oX 3 (.mv 17)])))
 (.ae false [
 oX 18 (.bin .add 9 (kX 1)),
 oX 9 (.mv 18)]))))))))
 (.seq
 (.ae false [
 oX 19 (.mv 3),
 oX 2 (.mv 19)])
 .ret))))
def Rc:List bC:=[.tmp 2]
theorem alt (NN:Nat) (x:aS (ak.aR Hm)):dN NN [] Ug Rc Hm S4 x=Wv NN x:=by kernel_rfl
theorem ai8:ct pX 56 Ug.er Rc 1=true:=by decide+kernel
theorem amN:du pX 56 NY.M/\bD pX 56=true:=
  dW (T:=[]) (sc:=Ug) (ms:=Rc) (args:=Hm) (aD:=S4) (aB.nil) cL ai8 Da fun x y h=>(alt aE x).trans (agy x y h)
def NU:aw:=⟨97,Hh,akl,SZ,xD⟩
def Ub:bA:=
 (.seq
 (.ae false [
 oX 4 (.box 4 0),
 oX 8 (.mv (kX 0))])
 (.seq
 (.ae false [
 oX 9 (.ar 3 4),
 oX 10 (.load false 1 9),
 oX 11 (.mv 1),
 oX 12 (.ar 1 4),
 oX 13 (.load false 1 12),
 oX 14 (.bin .mul 11 13),
 oX 15 (.mv 2),
 oX 16 (.bin .add 14 15),
 oX 17 (.ar 2 4),
 oX 18 (.load false 1 17),
 oX 19 (.bin .mul 16 18),
 oX 20 (.mv 3),
 oX 21 (.bin .add 19 20),
 oX 22 (.cb 1 10 21),
 oX 23 (.load false 1 22),
 oX 8 (.mv 23)])
 .ret))
def Q7:List bC:=[.tmp 8]
theorem alo (NN:Nat) (x:aS (ak.aR Hh)):dN NN [] Ub Q7 Hh SZ x=L3 NN x:=by kernel_rfl
theorem ai3:ct pX 97 Ub.er Q7 4=true:=by decide+kernel
theorem amJ:du pX 97 NU.M/\bD pX 97=true:=
  dW (T:=[]) (sc:=Ub) (ms:=Q7) (args:=Hh) (aD:=SZ) (aB.nil) cL ai3 xD fun x y h=>(alo aE x).trans (agt x y h)
def N7:aw:=⟨57,HA,akC,Th,xH⟩
def Uu:bA:=
 (.seq
 (.ae false [
 oX 2 (.box 2 0),
 oX 4 (.mv (kX 0))])
 (.seq
 (.ae false [
 oX 12 (.fC iX [(kX 1)]),
 oX 5 (.mv 12)])
 (.seq
 (.seq
 (.ae false [
 oX 13 (.ar 1 2),
 oX 14 (.load false 1 13),
 oX 15 (.len 14),
 oX 16 (.mv (kX 0))])
 (.join ⟨[(5,.one (fX 500009 1))],[(500009,.row true .ab iX)]⟩ [2,500000,500009] [(false,5,0,500009,.ab,[])]
 (.block 0
 (.loop 0 ⟨[(1,.one (.c (.v (lX)))),(2,.one (rX 2)),(5,.one (fX 500000 1)),(14,.one (.c (.v (.list gX)))),(15,sX),(16,sX)],[(2,.box [vX,.c (.v (.list gX))]),(500000,.row true .ab iX)]⟩ [2,12,500000,500008] [(false,5,0,500000,.ab,[])]
 (.seq
 (.ae false [
 oX 17 (.bin .lss 16 15)])
 (.seq
 (.cond 17
 .skip
 (.exit 0))
 (.seq
 (.join ⟨[(16,sX),(1,.one (.c (.v (lX)))),(2,.one (rX 2)),(5,.one (fX 500008 1)),(14,.one (.c (.v (.list gX)))),(15,sX)],[(2,.box [vX,.c (.v (.list gX))]),(500008,.row true .ab iX)]⟩ [2,500007,500008] [(false,5,0,500008,.ab,[])]
 (.block 1
 (.seq
 (.ae false [
 oX 18 (.mv 16),
 oX 19 (.cb 4 14 16),
 oX 20 (.load true 4 19),
 oX 7 (.alloc [zX,zX,zX,.nil iX]),
 oX 6 (.mv 18),
 uX (.store 4 7 20)])
 (.seq
 (.ae false [
 oX 21 (.ar 2 7),
 oX 22 (.load false 1 21),
 oX 23 (.kc .ab iX 8 (0:Int) 22 22),
 oX 8 (.mv 23)])
 (.seq
 (.seq
 (.ae false [
 oX 24 (.mv 8),
 oX 25 (.len 24),
 oX 26 (.mv (kX 0))])
 (.join ⟨[(8,.one (fX 500007 1)),(16,sX),(1,.one (.c (.v (lX)))),(2,.one (rX 2)),(14,.one (.c (.v (.list gX)))),(15,sX)],[(2,.box [vX,.c (.v (.list gX))]),(500007,.row true .ab iX)]⟩ [2,7,500001,500002,500007] [(false,8,0,500007,.ab,[])]
 (.block 2
 (.loop 0 ⟨[(1,.one (.c (.v (lX)))),(2,.one (rX 2)),(5,.one (fX 500001 1)),(6,sX),(7,.one (rX 7)),(8,.one (fX 500002 1)),(14,.one (.c (.v (.list gX)))),(15,sX),(16,sX),(25,sX),(26,sX)],[(2,.box [vX,.c (.v (.list gX))]),(7,.box [vX,vX,vX,.c (.v (lX))]),(500001,.row true .ab iX),(500002,.row true .ab iX)]⟩ [2,7,23,500000,500001,500002,500005,500006] [(false,5,0,500001,.ab,[]),(false,8,0,500002,.ab,[])]
 (.seq
 (.ae false [
 oX 27 (.bin .lss 26 25)])
 (.seq
 (.cond 27
 .skip
 (.exit 2))
 (.seq
 (.join ⟨[(26,sX),(1,.one (.c (.v (lX)))),(2,.one (rX 2)),(5,.one (fX 500005 1)),(6,sX),(7,.one (rX 7)),(8,.one (fX 500006 1)),(14,.one (.c (.v (.list gX)))),(15,sX),(16,sX),(25,sX)],[(2,.box [vX,.c (.v (.list gX))]),(7,.box [vX,vX,vX,.c (.v (lX))]),(500005,.row true .ab iX),(500006,.row true .ab iX)]⟩ [2,7,500003,500004,500005,500006] [(false,5,0,500005,.ab,[]),(false,8,0,500006,.ab,[])]
 (.block 3
 (.seq
 (.ae false [
 oX 28 (.mv 26),
 oX 9 (.mv 28)])
 (.seq
 (.ae false [
 oX 29 (.mv 5),
 oX 30 (.len 29),
 oX 31 (.mv (kX 0))])
 (.block 4
 (.loop 0 ⟨[(1,.one (.c (.v (lX)))),(2,.one (rX 2)),(5,.one (fX 500003 1)),(6,sX),(7,.one (rX 7)),(8,.one (fX 500004 1)),(9,sX),(14,.one (.c (.v (.list gX)))),(15,sX),(16,sX),(25,sX),(26,sX),(29,.one (fX 500003 1)),(30,sX),(31,sX)],[(2,.box [vX,.c (.v (.list gX))]),(7,.box [vX,vX,vX,.c (.v (lX))]),(500003,.row true .ab iX),(500004,.row true .ab iX)]⟩ [2,7,500001,500002,500003,500004] [(false,5,0,500003,.ab,[]),(false,8,0,500004,.ab,[])]
 (.seq
 (.ae false [
 oX 32 (.bin .lss 31 30)])
 (.seq
 (.cond 32
 .skip
 (.exit 4))
 (.seq
 (.block 5
 (.seq
 (.ae false [
 oX 33 (.mv 31),
 oX 34 (.cb 1 29 31),
 oX 35 (.load false 1 34),
 oX 10 (.mv 33),
 oX 11 (.mv 35)])
 (.ae true [
 oX 36 (.mv 8),
 oX 37 (.mv 9),
 oX 38 (.mv 8),
 oX 39 (.mv 9),
 oX 40 (.cb 1 38 39),
 oX 41 (.load false 1 40),
 oX 42 (.mv 11),
 oX 43 (.load true 4 7),
 oX 44 (.mv 10),
 oX 45 (.mv 1),
 oX 46 (.mv 6),
 oX 47 (.cb 1 45 46),
 oX 48 (.load false 1 47),
 oX 49 (.mv 9),
 oX 50 (.call .ab 97 [43,44,48,49]),
 oX 51 (.bin .mul 42 50),
 oX 52 (.bin .add 41 51),
 oX 53 (.ar 0 2),
 oX 54 (.load false 1 53),
 oX 55 (.bin .rem 52 54),
 oX 56 (.cb 1 36 37),
 uX (.store 1 56 55)])))
 (.ae false [
 oX 57 (.bin .add 31 (kX 1)),
 oX 31 (.mv 57)]))))))))))
 (.ae false [
 oX 58 (.bin .add 26 (kX 1)),
 oX 26 (.mv 58)]))))))))
 (.ae false [
 oX 59 (.mv 8),
 oX 5 (.mv 59)]))))))
 (.ae false [
 oX 60 (.bin .add 16 (kX 1)),
 oX 16 (.mv 60)]))))))))
 (.seq
 (.ae false [
 oX 61 (.mv 5),
 oX 62 (.cb 1 61 (kX 0)),
 oX 63 (.load false 1 62),
 oX 4 (.mv 63)])
 .ret))))
def Rq:List bC:=[.tmp 4]
theorem alG (NN:Nat) (x:aS (ak.aR HA)):dN NN [NU] Uu Rq HA Th x=Mj NN x:=by kernel_rfl
theorem ajl:ct pX 57 Uu.er Rq 2=true:=by decide+kernel
theorem amW:du pX 57 N7.M/\bD pX 57=true:=
  dW (T:=[NU]) (sc:=Uu) (ms:=Rq) (args:=HA) (aD:=Th) (aB.cons amJ<|aB.nil) cL ajl xH fun x y h=>(alG aE x).trans (agL x y h)
def D8:aw:=⟨58,Hy,Kg,Tf,tO⟩
def Ur:bA:=
 (.seq
 (.ae false [
 oX 4 (.mv (.k (.one (.v (.bool) (false)))))])
 (.seq
 (.seq
 (.ae false [
 oX 6 (.mv 0),
 oX 7 (.len 6),
 oX 8 (.bin .sub 7 (kX 1)),
 oX 5 (.mv 8)])
 (.join ⟨[],[(1000000,.row false .ab iX)]⟩ [1000000] []
 (.block 0
 (.loop 0 ⟨[(0,.one (.c (.v (lX)))),(1,.one (fX 1000000 1)),(5,sX)],[(1000000,.row false .ab iX)]⟩ [1000000,500000] [(false,1,0,500000,.ab,[])]
 (.seq
 (.seq
 (.ae false [
 oX 9 (.mv 5),
 oX 10 (.bin .geq 9 (kX 0))])
 (.cond 10
 .skip
 (.exit 0)))
 (.seq
 (.block 1
 (.seq
 (.ae false [
 oX 13 (.mv 1),
 oX 14 (.mv 5),
 oX 15 (.cb 1 13 14),
 oX 16 (.load false 1 15),
 oX 17 (.bin .add 16 (kX 1)),
 oX 18 (.cb 1 13 14),
 uX (.store 1 18 17)])
 (.seq
 (.seq
 (.ae true [
 oX 19 (.mv 1),
 oX 20 (.mv 5),
 oX 21 (.cb 1 19 20),
 oX 22 (.load false 1 21),
 oX 23 (.mv 0),
 oX 24 (.mv 5),
 oX 25 (.cb 1 23 24),
 oX 26 (.load false 1 25),
 oX 27 (.bin .lss 22 26)])
 (.cond 27
 (.seq
 (.ae false [
 oX 4 (.mv (.k (.one (.v (.bool) (true)))))])
 .ret)
 .skip))
 (.ae false [
 oX 28 (.mv 1),
 oX 29 (.mv 5),
 oX 30 (.cb 1 28 29),
 uX (.store 1 30 (kX 0))]))))
 (.ae false [
 oX 11 (.mv 5),
 oX 12 (.bin .sub 11 (kX 1)),
 oX 5 (.mv 12)])))))))
 (.seq
 (.ae false [
 oX 4 (.mv (.k (.one (.v (.bool) (false)))))])
 .ret)))
def Ro:List bC:=[.tmp 4]
theorem alE (NN:Nat) (x:aS (ak.aR Hy)):vj NN [] Ur Ro Hy Kg Tf x=Mh NN x:=by kernel_rfl
theorem ajj:ct pX 58 Ur.er Ro 2=true:=by decide+kernel
theorem aby:qp pX 58 Kg D8.MM/\bD pX 58=true:=
  zn (T:=[]) (sc:=Ur) (ms:=Ro) (args:=Hy) (mu:=Kg) (aD:=Tf) (aB.nil) cL ajj tO fun x y h=>(alE aE x).trans (agJ x y h)
def NO:aw:=⟨18,G5,ake,SN,tN⟩
def T0:bA:=
 (.seq
 (.ae false [
 oX 1 (.box 2 0),
 oX 2 (.alloc [.nil iX,.nil iX,.nil iX])])
 (.seq
 (.seq
 (.ae false [
 oX 6 (.load true 2 1),
 oX 7 (.call .ab 21 [6]),
 oX 8 (.un .not 7)])
 (.cond 8
 (.seq
 (.ae false [
 oX 9 (.build [.nil iX,.nil iX,.nil iX] []),
 uX (.store 3 2 9)])
 .ret)
 .skip))
 (.seq
 (.ae false [
 oX 10 (.load true 2 1),
 oX 11 (.call .ab 56 [10]),
 oX 12 (.build [.nil iX,.nil iX,.nil iX] [(1,1,11)]),
 oX 3 (.alloc [.nil iX,.nil iX,.nil iX]),
 uX (.store 3 3 12)])
 (.seq
 (.seq
 (.ae false [
 oX 13 (.ar 1 1),
 oX 14 (.load false 1 13),
 oX 15 (.len 14),
 oX 16 (.mv (kX 0))])
 (.join ⟨[(3,.one (rX 3)),(2,.one (rX 2)),(1,.one (rX 1))],[(1,.box [vX,.c (.v (.list gX))]),(2,.box [fX 500006 1,fX 500007 1,fX 500008 1]),(3,.box [fX 500009 1,fX 500010 1,fX 500011 1]),(500006,.row true .ab iX),(500007,.row true .ab iX),(500008,.row true .ab iX),(500009,.row true .ab iX),(500010,.row true .ab iX),(500011,.row true .ab iX)]⟩ [1,2,3,500000,500001,500002,500003,500004,500005,500006,500007,500008,500009,500010,500011] [(true,2,0,500006,.ab,[]),(true,2,1,500007,.ab,[]),(true,2,2,500008,.ab,[]),(true,3,0,500009,.ab,[]),(true,3,1,500010,.ab,[]),(true,3,2,500011,.ab,[])]
 (.block 0
 (.loop 0 ⟨[(1,.one (rX 1)),(2,.one (rX 2)),(3,.one (rX 3)),(15,sX),(16,sX)],[(1,.box [vX,.c (.v (.list gX))]),(2,.box [fX 500000 1,fX 500001 1,fX 500002 1]),(3,.box [fX 500003 1,fX 500004 1,fX 500005 1]),(500000,.row true .ab iX),(500001,.row true .ab iX),(500002,.row true .ab iX),(500003,.row true .ab iX),(500004,.row true .ab iX),(500005,.row true .ab iX)]⟩ [1,2,12000,3,22,23,500000,500001,500002,500003,500004,500005] [(true,2,0,500000,.ab,[]),(true,2,1,500001,.ab,[]),(true,2,2,500002,.ab,[]),(true,3,0,500003,.ab,[]),(true,3,1,500004,.ab,[]),(true,3,2,500005,.ab,[])]
 (.seq
 (.ae false [
 oX 17 (.bin .lss 16 15)])
 (.seq
 (.cond 17
 .skip
 (.exit 0))
 (.seq
 (.block 1
 (.seq
 (.ae false [
 oX 18 (.mv 16),
 oX 4 (.mv 18)])
 (.ae false [
 oX 19 (.ar 0 3),
 oX 20 (.load false 1 19),
 oX 21 (.mv 4),
 oX 22 (.fC iX [21]),
 oX 23 (.append true iX 8 20 22),
 oX 24 (.ar 0 3),
 uX (.store 1 24 23)])))
 (.ae false [
 oX 25 (.bin .add 16 (kX 1)),
 oX 16 (.mv 25)]))))))))
 (.seq
 (.ae false [
 oX 26 (.ar 1 3),
 oX 27 (.load false 1 26),
 oX 28 (.len 27),
 oX 29 (.kc .ab iX 8 (0:Int) 28 28),
 oX 5 (.mv 29)])
 (.block 2
 (.loop 0 ⟨[(1,.one (rX 1)),(2,.one (rX 2)),(3,.one (rX 3)),(5,.one (fX 500018 1))],[(1,.box [vX,.c (.v (.list gX))]),(2,.box [fX 500012 1,fX 500013 1,fX 500014 1]),(3,.box [fX 500015 1,fX 500016 1,fX 500017 1]),(500012,.row true .ab iX),(500013,.row true .ab iX),(500014,.row true .ab iX),(500015,.row true .ab iX),(500016,.row true .ab iX),(500017,.row true .ab iX),(500018,.row true .ab iX)]⟩ [1,2,3,29,35,36,500006,500007,500008,500009,500010,500011,500012,500013,500014,500015,500016,500017,500018] [(true,2,0,500012,.ab,[]),(true,2,1,500013,.ab,[]),(true,2,2,500014,.ab,[]),(true,3,0,500015,.ab,[]),(true,3,1,500016,.ab,[]),(true,3,2,500017,.ab,[]),(false,5,0,500018,.ab,[])]
 (.block 3
 (.seq
 (.qb [(0,5),(1,5)] [
 oX 30 (.ar 2 3),
 oX 31 (.load false 1 30),
 oX 32 (.load true 2 1),
 oX 33 (.mv 5),
 oX 34 (.call .ab 57 [32,33]),
 oX 35 (.fC iX [34]),
 oX 36 (.append true iX 8 31 35),
 oX 37 (.ar 2 3),
 uX (.store 1 37 36)])
 (.seq
 (.ae false [
 oX 38 (.ar 1 3),
 oX 39 (.load false 1 38),
 oX 40 (.mv 5),
 oX 41 (.gb .ab 58 [39,40]),
 oX 42 (.un .not 41)])
 (.cond 42
 (.seq
 (.ae false [
 oX 43 (.load true 3 3),
 uX (.store 3 2 43)])
 .ret)
 .skip)))))))))))
def QX:List bC:=[.cell 2 3 true]
theorem ald (NN:Nat) (x:aS (ak.aR G5)):dN NN [uk,NY,N7,D8] T0 QX G5 SN x=LV NN x:=by kernel_rfl
theorem aiT:ct pX 18 T0.er QX 1=true:=by decide+kernel
theorem amD:du pX 18 NO.M/\bD pX 18=true:=
  dW (T:=[uk,NY,N7,D8]) (sc:=T0) (ms:=QX) (args:=G5) (aD:=SN) (aB.cons Kx<|aB.cons amN<|aB.cons amW<|aB.qx aby<|aB.nil) cL aiT tN fun x y h=>(ald aE x).trans (agj x y h)
def NT:aw:=⟨88,Hf,akk,SY,z5⟩
def Ua:bA:=
 (.seq
 (.ae false [
 oX 1 (.box 3 0),
 oX 2 (.mv (.k (.one (.v (.bool) (false)))))])
 (.seq
 (.seq
 (.ae false [
 oX 3 (.ar 0 1),
 oX 4 (.load false 1 3)])
 (.block 0
 (.seq
 (.ae false [
 oX 6 (.bin .eql 4 (kX 1)),
 oX 5 (.mv 6)])
 (.cond 5
 (.seq
 (.ae false [
 oX 7 (.ar 1 1),
 oX 8 (.load false 1 7),
 oX 9 (.bin .eql 8 (kX 0)),
 oX 10 (.mv 9),
 ⟨(some 11),.ar 2 1,(some (10,true))⟩,
 ⟨(some 12),.load false 1 11,(some (10,true))⟩,
 ⟨(some 13),.bin .eql 12 (kX 0),(some (10,true))⟩,
 oX 14 (.pick 10 13 (.k (.one (.v (.bool) (false))))),
 oX 2 (.mv 14)])
 .ret)
 (.seq
 (.ae false [
 oX 16 (.bin .eql 4 (kX 2)),
 oX 15 (.mv 16)])
 (.cond 15
 (.seq
 (.ae false [
 oX 17 (.ar 1 1),
 oX 18 (.load false 1 17),
 oX 19 (.call .ab 60 [18]),
 oX 20 (.mv 19),
 ⟨(some 21),.ar 2 1,(some (20,true))⟩,
 ⟨(some 22),.load false 1 21,(some (20,true))⟩,
 ⟨(some 23),.bin .eql 22 (kX 0),(some (20,true))⟩,
 oX 24 (.pick 20 23 (.k (.one (.v (.bool) (false))))),
 oX 2 (.mv 24)])
 .ret)
 (.seq
 (.seq
 (.ae false [
 oX 26 (.bin .eql 4 (kX 3)),
 oX 25 (.mv 26)])
 (.join ⟨[(25,.one (.c (.v (.bool)))),(4,sX),(1,.one (rX 1))],[(1,.box [vX,vX,vX])]⟩ [1] []
 (.cond 25
 .skip
 (.seq
 (.ae false [
 oX 27 (.bin .eql 4 (kX 4)),
 oX 25 (.mv 27)])
 (.cond 25
 .skip
 (.ae false [
 oX 28 (.bin .eql 4 (kX 5)),
 oX 25 (.mv 28)]))))))
 (.cond 25
 (.seq
 (.ae false [
 oX 29 (.ar 1 1),
 oX 30 (.load false 1 29),
 oX 31 (.bin .geq 30 (kX 1)),
 oX 32 (.mv 31),
 ⟨(some 33),.ar 1 1,(some (32,true))⟩,
 ⟨(some 34),.load false 1 33,(some (32,true))⟩,
 ⟨(some 35),.bin .leq 34 (kX 1000000),(some (32,true))⟩,
 oX 36 (.pick 32 35 (.k (.one (.v (.bool) (false))))),
 oX 37 (.mv 36),
 ⟨(some 38),.ar 2 1,(some (37,true))⟩,
 ⟨(some 39),.load false 1 38,(some (37,true))⟩,
 ⟨(some 40),.bin .eql 39 (kX 0),(some (37,true))⟩,
 oX 41 (.pick 37 40 (.k (.one (.v (.bool) (false))))),
 oX 2 (.mv 41)])
 .ret)
 (.seq
 (.ae false [
 oX 43 (.bin .eql 4 (kX 6)),
 oX 42 (.mv 43)])
 (.cond 42
 (.seq
 (.ae false [
 oX 44 (.ar 1 1),
 oX 45 (.load false 1 44),
 oX 46 (.bin .eql 45 (kX 0)),
 oX 47 (.mv 46),
 ⟨(some 48),.ar 2 1,(some (47,true))⟩,
 ⟨(some 49),.load false 1 48,(some (47,true))⟩,
 ⟨(some 50),.bin .geq 49 (kX 1),(some (47,true))⟩,
 oX 51 (.pick 47 50 (.k (.one (.v (.bool) (false))))),
 oX 52 (.mv 51),
 ⟨(some 53),.ar 2 1,(some (52,true))⟩,
 ⟨(some 54),.load false 1 53,(some (52,true))⟩,
 ⟨(some 55),.bin .leq 54 (kX 20),(some (52,true))⟩,
 oX 56 (.pick 52 55 (.k (.one (.v (.bool) (false))))),
 oX 2 (.mv 56)])
 .ret)
 (.seq
 (.ae false [
 oX 58 (.bin .eql 4 (kX 7)),
 oX 57 (.mv 58)])
 (.cond 57
 (.seq
 (.ae false [
 oX 59 (.ar 1 1),
 oX 60 (.load false 1 59),
 oX 61 (.call .ab 60 [60]),
 oX 62 (.mv 61),
 ⟨(some 63),.ar 2 1,(some (62,true))⟩,
 ⟨(some 64),.load false 1 63,(some (62,true))⟩,
 ⟨(some 65),.bin .geq 64 (kX 1),(some (62,true))⟩,
 oX 66 (.pick 62 65 (.k (.one (.v (.bool) (false))))),
 oX 67 (.mv 66),
 ⟨(some 68),.ar 2 1,(some (67,true))⟩,
 ⟨(some 69),.load false 1 68,(some (67,true))⟩,
 ⟨(some 70),.bin .leq 69 (kX 6),(some (67,true))⟩,
 oX 71 (.pick 67 70 (.k (.one (.v (.bool) (false))))),
 oX 2 (.mv 71)])
 .ret)
 (.seq
 (.ae false [
 oX 73 (.bin .eql 4 (kX 8)),
 oX 72 (.mv 73)])
 (.cond 72
 (.seq
 (.ae false [
 oX 74 (.ar 1 1),
 oX 75 (.load false 1 74),
 oX 76 (.call .ab 60 [75]),
 oX 77 (.mv 76),
 ⟨(some 78),.ar 1 1,(some (77,true))⟩,
 ⟨(some 79),.load false 1 78,(some (77,true))⟩,
 ⟨(some 80),.bin .neq 79 (kX 2),(some (77,true))⟩,
 oX 81 (.pick 77 80 (.k (.one (.v (.bool) (false))))),
 oX 82 (.mv 81),
 ⟨(some 83),.ar 2 1,(some (82,true))⟩,
 ⟨(some 84),.load false 1 83,(some (82,true))⟩,
 ⟨(some 85),.bin .eql 84 (kX 0),(some (82,true))⟩,
 oX 86 (.pick 82 85 (.k (.one (.v (.bool) (false))))),
 oX 2 (.mv 86)])
 .ret)
 .skip))))))))))))))
 (.seq
 (.ae false [
 oX 2 (.mv (.k (.one (.v (.bool) (false)))))])
 .ret)))
def Q6:List bC:=[.tmp 2]
theorem aln (NN:Nat) (x:aS (ak.aR Hf)):dN NN [yl] Ua Q6 Hf SY x=LZ NN x:=by kernel_rfl
theorem ai2:ct pX 88 Ua.er Q6 1=true:=by decide+kernel
theorem amI:du pX 88 NT.M/\bD pX 88=true:=
  dW (T:=[yl]) (sc:=Ua) (ms:=Q6) (args:=Hf) (aD:=SY) (aB.cons Sf<|aB.nil) cL ai2 z5 fun x y h=>(aln aE x).trans (ags x y h)
def N2:aw:=⟨106,Ht,akw,Ta,xE⟩
def Um:bA:=
 (.seq
 (.ae false [
 oX 4 (.mv (.k (.one (.v (.bool) (false)))))])
 (.seq
 (.seq
 (.ae false [
 oX 7 (.mv 0),
 oX 8 (.len 7),
 oX 9 (.mv (kX 0))])
 (.join ⟨[],[]⟩ [] []
 (.block 0
 (.loop 0 ⟨[(1,sX),(7,.one (.c (.v (lX)))),(8,sX),(9,sX)],[]⟩ [] []
 (.seq
 (.ae false [
 oX 10 (.bin .lss 9 8)])
 (.seq
 (.cond 10
 .skip
 (.exit 0))
 (.seq
 (.block 1
 (.seq
 (.ae false [
 oX 11 (.cb 1 7 9),
 oX 12 (.load false 1 11),
 oX 6 (.mv 12)])
 (.seq
 (.ae false [
 oX 13 (.mv 1),
 oX 14 (.mv 6),
 oX 15 (.bin .eql 13 14)])
 (.cond 15
 (.seq
 (.ae false [
 oX 4 (.mv (.k (.one (.v (.bool) (true)))))])
 .ret)
 .skip))))
 (.ae false [
 oX 16 (.bin .add 9 (kX 1)),
 oX 9 (.mv 16)]))))))))
 (.seq
 (.ae false [
 oX 4 (.mv (.k (.one (.v (.bool) (false)))))])
 .ret)))
def Rj:List bC:=[.tmp 4]
theorem alz (NN:Nat) (x:aS (ak.aR Ht)):dN NN [] Um Rj Ht Ta x=Mc NN x:=by kernel_rfl
theorem aje:ct pX 106 Um.er Rj 2=true:=by decide+kernel
theorem amR:du pX 106 N2.M/\bD pX 106=true:=
  dW (T:=[]) (sc:=Um) (ms:=Rj) (args:=Ht) (aD:=Ta) (aB.nil) cL aje xE fun x y h=>(alz aE x).trans (agE x y h)
def NW:aw:=⟨65,Hk,ako,S2,z7⟩
def Ue:bA:=
 (.seq
 (.ae false [
 oX 1 (.box 3 0),
 oX 2 (.mv (kX 0))])
 (.seq
 (.seq
 (.ae false [
 oX 7 (.ar 0 1),
 oX 8 (.load false 1 7),
 oX 9 (.len 8),
 oX 10 (.bin .gtr 9 (kX 12)),
 oX 11 (.mv 10),
 ⟨(some 12),.ar 0 1,(some (11,false))⟩,
 ⟨(some 13),.load false 1 12,(some (11,false))⟩,
 ⟨(some 14),.len 13,(some (11,false))⟩,
 ⟨(some 15),.ar 1 1,(some (11,false))⟩,
 ⟨(some 16),.load false 1 15,(some (11,false))⟩,
 ⟨(some 17),.len 16,(some (11,false))⟩,
 ⟨(some 18),.bin .neq 14 17,(some (11,false))⟩,
 oX 19 (.pick 11 (.k (.one (.v (.bool) (true)))) 18)])
 (.cond 19
 (.seq
 (.ae false [
 oX 2 (.mv (kX (-1)))])
 .ret)
 .skip))
 (.seq
 (.ae false [
 oX 3 (.mv (kX 1))])
 (.seq
 (.seq
 (.ae false [
 oX 20 (.ar 0 1),
 oX 21 (.load false 1 20),
 oX 22 (.len 21),
 oX 23 (.mv (kX 0))])
 (.join ⟨[(3,sX)],[]⟩ [1] []
 (.block 0
 (.loop 0 ⟨[(1,.one (rX 1)),(3,sX),(21,.one (.c (.v (lX)))),(22,sX),(23,sX)],[(1,.box [.c (.v (lX)),.c (.v (lX)),.c (.v (lX))])]⟩ [1] []
 (.seq
 (.ae false [
 oX 24 (.bin .lss 23 22)])
 (.seq
 (.cond 24
 .skip
 (.exit 0))
 (.seq
 (.block 1
 (.seq
 (.ae false [
 oX 25 (.mv 23),
 oX 26 (.cb 1 21 23),
 oX 27 (.load false 1 26),
 oX 4 (.mv 25),
 oX 5 (.mv 27)])
 (.seq
 (.seq
 (.ae false [
 oX 28 (.mv 5),
 oX 29 (.bin .lss 28 (kX 0)),
 oX 30 (.mv 29),
 ⟨(some 31),.mv 5,(some (30,false))⟩,
 ⟨(some 32),.bin .gtr 31 (kX 99),(some (30,false))⟩,
 oX 33 (.pick 30 (.k (.one (.v (.bool) (true)))) 32),
 oX 34 (.mv 33),
 ⟨(some 35),.ar 0 1,(some (34,false))⟩,
 ⟨(some 36),.load false 1 35,(some (34,false))⟩,
 ⟨(some 37),.mv 4,(some (34,false))⟩,
 ⟨(some 38),.slice 1 36 none (some 37),(some (34,false))⟩,
 ⟨(some 39),.mv 5,(some (34,false))⟩,
 ⟨(some 40),.call .ab 106 [38,39],(some (34,false))⟩,
 oX 41 (.pick 34 (.k (.one (.v (.bool) (true)))) 40)])
 (.cond 41
 (.seq
 (.ae false [
 oX 2 (.mv (kX (-1)))])
 .ret)
 .skip))
 (.seq
 (.ae false [
 oX 42 (.ar 1 1),
 oX 43 (.load false 1 42),
 oX 44 (.mv 4),
 oX 45 (.cb 1 43 44),
 oX 46 (.load false 1 45),
 oX 6 (.mv 46)])
 (.seq
 (.seq
 (.ae false [
 oX 47 (.mv 6),
 oX 48 (.bin .lss 47 (kX 1)),
 oX 49 (.mv 48),
 ⟨(some 50),.mv 6,(some (49,false))⟩,
 ⟨(some 51),.bin .gtr 50 (kX 8),(some (49,false))⟩,
 oX 52 (.pick 49 (.k (.one (.v (.bool) (true)))) 51),
 oX 53 (.mv 52),
 ⟨(some 54),.mv 3,(some (53,false))⟩,
 ⟨(some 55),.mv 6,(some (53,false))⟩,
 ⟨(some 56),.bin .mul 54 55,(some (53,false))⟩,
 ⟨(some 57),.bin .gtr 56 (kX 4096),(some (53,false))⟩,
 oX 58 (.pick 53 (.k (.one (.v (.bool) (true)))) 57)])
 (.cond 58
 (.seq
 (.ae false [
 oX 2 (.mv (kX (-1)))])
 .ret)
 .skip))
 (.ae false [
 oX 59 (.mv 3),
 oX 60 (.mv 6),
 oX 61 (.bin .mul 59 60),
 oX 3 (.mv 61)]))))))
 (.ae false [
 oX 62 (.bin .add 23 (kX 1)),
 oX 23 (.mv 62)]))))))))
 (.seq
 (.ae false [
 oX 63 (.mv 3),
 oX 2 (.mv 63)])
 .ret)))))
def Ra:List bC:=[.tmp 2]
theorem alr (NN:Nat) (x:aS (ak.aR Hk)):dN NN [N2] Ue Ra Hk S2 x=L6 NN x:=by kernel_rfl
theorem ai6:ct pX 65 Ue.er Ra 1=true:=by decide+kernel
theorem amL:du pX 65 NW.M/\bD pX 65=true:=
  dW (T:=[N2]) (sc:=Ue) (ms:=Ra) (args:=Hk) (aD:=S2) (aB.cons amR<|aB.nil) cL ai6 z7 fun x y h=>(alr aE x).trans (agw x y h)
def Ea:aw:=⟨89,HJ,akJ,To,vF⟩
def UB:bA:=
 (.seq
 (.ae false [
 oX 1 (.box 3 0),
 oX 2 (.mv (kX 0))])
 (.seq
 (.seq
 (.ae false [
 oX 3 (.ar 0 1),
 oX 4 (.load false 1 3)])
 (.block 0
 (.seq
 (.ae false [
 oX 6 (.bin .eql 4 (kX 7)),
 oX 5 (.mv 6)])
 (.cond 5
 (.seq
 (.ae false [
 oX 7 (.ar 2 1),
 oX 8 (.load false 1 7),
 oX 2 (.mv 8)])
 .ret)
 (.seq
 (.ae false [
 oX 10 (.bin .eql 4 (kX 8)),
 oX 9 (.mv 10)])
 (.cond 9
 (.seq
 (.ae false [
 oX 2 (.mv (kX 4))])
 .ret)
 .skip))))))
 (.seq
 (.ae false [
 oX 2 (.mv (kX 1))])
 .ret)))
def Rx:List bC:=[.tmp 2]
theorem alN (NN:Nat) (x:aS (ak.aR HJ)):dN NN [] UB Rx HJ To x=Mn NN x:=by kernel_rfl
theorem ajs:ct pX 89 UB.er Rx 1=true:=by decide+kernel
theorem abA:du pX 89 Ea.M/\bD pX 89=true:=
  dW (T:=[]) (sc:=UB) (ms:=Rx) (args:=HJ) (aD:=To) (aB.nil) cL ajs vF fun x y h=>(alN aE x).trans (agS x y h)
def Oc:aw:=⟨117,HI,akI,Tn,Ah⟩
def UA:bA:=
 (.seq
 (.ae false [
 oX 1 (.box 3 0),
 oX 2 (.mv (kX 0))])
 (.seq
 (.seq
 (.ae false [
 oX 3 (.ar 0 1),
 oX 4 (.load false 1 3)])
 (.block 0
 (.seq
 (.ae false [
 oX 6 (.bin .eql 4 (kX 1)),
 oX 5 (.mv 6)])
 (.cond 5
 (.seq
 (.ae false [
 oX 2 (.mv (kX 1))])
 .ret)
 (.seq
 (.seq
 (.ae false [
 oX 8 (.bin .eql 4 (kX 3)),
 oX 7 (.mv 8)])
 (.join ⟨[(7,.one (.c (.v (.bool)))),(4,sX),(1,.one (rX 1))],[(1,.box [vX,vX,vX])]⟩ [1] []
 (.cond 7
 .skip
 (.seq
 (.ae false [
 oX 9 (.bin .eql 4 (kX 4)),
 oX 7 (.mv 9)])
 (.cond 7
 .skip
 (.ae false [
 oX 10 (.bin .eql 4 (kX 5)),
 oX 7 (.mv 10)]))))))
 (.cond 7
 (.seq
 (.ae false [
 oX 11 (.ar 1 1),
 oX 12 (.load false 1 11),
 oX 2 (.mv 12)])
 .ret)
 (.seq
 (.ae false [
 oX 14 (.bin .eql 4 (kX 6)),
 oX 13 (.mv 14)])
 (.cond 13
 (.seq
 (.ae false [
 oX 15 (.ar 2 1),
 oX 16 (.load false 1 15),
 oX 17 (.bin .shl (kX 1) 16),
 oX 18 (.bin .sub 17 (kX 1)),
 oX 2 (.mv 18)])
 .ret)
 .skip))))))))
 (.seq
 (.ae false [
 oX 19 (.ar 1 1),
 oX 20 (.load false 1 19),
 oX 21 (.bin .sub 20 (kX 1)),
 oX 2 (.mv 21)])
 .ret)))
def Rw:List bC:=[.tmp 2]
theorem alM (NN:Nat) (x:aS (ak.aR HI)):dN NN [] UA Rw HI Tn x=Wx NN x:=by kernel_rfl
theorem ajr:ct pX 117 UA.er Rw 1=true:=by decide+kernel
theorem am1:du pX 117 Oc.M/\bD pX 117=true:=
  dW (T:=[]) (sc:=UA) (ms:=Rw) (args:=HI) (aD:=Tn) (aB.nil) cL ajr Ah fun x y h=>(alM aE x).trans (agR x y h)
def N3:aw:=⟨90,Hv,aky,Tc,Ad⟩
def Uo:bA:=
 (.seq
 (.ae false [
 oX 2 (.box 3 0),
 oX 4 (.mv (.k (.one (.v (.bool) (false)))))])
 (.seq
 (.ae false [
 oX 8 (.load true 3 2),
 oX 9 (.call .ab 117 [8]),
 oX 5 (.mv 9)])
 (.seq
 (.seq
 (.ae false [
 oX 10 (.mv 1),
 oX 11 (.len 10),
 oX 12 (.mv (kX 0))])
 (.join ⟨[],[]⟩ [] []
 (.block 0
 (.loop 0 ⟨[(5,sX),(10,.one (.c (.v (lX)))),(11,sX),(12,sX)],[]⟩ [2] []
 (.seq
 (.ae false [
 oX 13 (.bin .lss 12 11)])
 (.seq
 (.cond 13
 .skip
 (.exit 0))
 (.seq
 (.block 1
 (.seq
 (.ae false [
 oX 14 (.cb 1 10 12),
 oX 15 (.load false 1 14),
 oX 7 (.mv 15)])
 (.seq
 (.ae false [
 oX 16 (.mv 7),
 oX 17 (.bin .lss 16 (kX 0)),
 oX 18 (.mv 17),
 ⟨(some 19),.mv 7,(some (18,false))⟩,
 ⟨(some 20),.mv 5,(some (18,false))⟩,
 ⟨(some 21),.bin .gtr 19 20,(some (18,false))⟩,
 oX 22 (.pick 18 (.k (.one (.v (.bool) (true)))) 21)])
 (.cond 22
 (.seq
 (.ae false [
 oX 4 (.mv (.k (.one (.v (.bool) (false)))))])
 .ret)
 .skip))))
 (.ae false [
 oX 23 (.bin .add 12 (kX 1)),
 oX 12 (.mv 23)]))))))))
 (.seq
 (.ae false [
 oX 4 (.mv (.k (.one (.v (.bool) (true)))))])
 .ret))))
def Rl:List bC:=[.tmp 4]
theorem alB (NN:Nat) (x:aS (ak.aR Hv)):dN NN [Oc] Uo Rl Hv Tc x=Me NN x:=by kernel_rfl
theorem ajg:ct pX 90 Uo.er Rl 2=true:=by decide+kernel
theorem amS:du pX 90 N3.M/\bD pX 90=true:=
  dW (T:=[Oc]) (sc:=Uo) (ms:=Rl) (args:=Hv) (aD:=Tc) (aB.cons am1<|aB.nil) cL ajg Ad fun x y h=>(alB aE x).trans (agG x y h)
def D5:aw:=⟨43,Hj,akn,S1,vC⟩
def Ud:bA:=
 (.seq
 (.ae false [
 oX 2 (.box 3 0),
 oX 3 (.box 3 1),
 oX 4 (.mv (.k (.one (.v (.bool) (false)))))])
 (.seq
 (.seq
 (.ae false [
 oX 6 (.load true 3 2),
 oX 7 (.call .ab 88 [6]),
 oX 8 (.un .not 7)])
 (.cond 8
 (.seq
 (.ae false [
 oX 4 (.mv (.k (.one (.v (.bool) (false)))))])
 .ret)
 .skip))
 (.seq
 (.ae false [
 oX 9 (.load true 3 3),
 oX 10 (.call .ab 65 [9]),
 oX 5 (.mv 10)])
 (.seq
 (.ae true [
 oX 11 (.mv 5),
 oX 12 (.bin .neq 11 (kX (-1))),
 oX 13 (.mv 12),
 ⟨(some 14),.ar 2 3,(some (13,true))⟩,
 ⟨(some 15),.load false 1 14,(some (13,true))⟩,
 ⟨(some 16),.len 15,(some (13,true))⟩,
 ⟨(some 17),.mv 5,(some (13,true))⟩,
 ⟨(some 18),.load true 3 2,(some (13,true))⟩,
 ⟨(some 19),.call .ab 89 [18],(some (13,true))⟩,
 ⟨(some 20),.bin .mul 17 19,(some (13,true))⟩,
 ⟨(some 21),.bin .eql 16 20,(some (13,true))⟩,
 oX 22 (.pick 13 21 (.k (.one (.v (.bool) (false))))),
 oX 23 (.mv 22),
 ⟨(some 24),.load true 3 2,(some (23,true))⟩,
 ⟨(some 25),.ar 2 3,(some (23,true))⟩,
 ⟨(some 26),.load false 1 25,(some (23,true))⟩,
 ⟨(some 27),.call .ab 90 [24,26],(some (23,true))⟩,
 oX 28 (.pick 23 27 (.k (.one (.v (.bool) (false))))),
 oX 4 (.mv 28)])
 .ret))))
def Q9:List bC:=[.tmp 4]
theorem alq (NN:Nat) (x:aS (ak.aR Hj)):dN NN [NT,NW,Ea,N3] Ud Q9 Hj S1 x=L5 NN x:=by kernel_rfl
theorem ai5:ct pX 43 Ud.er Q9 2=true:=by decide+kernel
theorem abv:du pX 43 D5.M/\bD pX 43=true:=
  dW (T:=[NT,NW,Ea,N3]) (sc:=Ud) (ms:=Q9) (args:=Hj) (aD:=S1) (aB.cons amI<|aB.cons amL<|aB.cons abA<|aB.cons amS<|aB.nil) cL ai5 vC fun x y h=>(alq aE x).trans (agv x y h)
def NK:aw:=⟨141,GY,aka,SJ,xy⟩
def TW:bA:=
 (.seq
 (.ae false [
 oX 2 (.mv (.k (.one (.v (.bool) (false)))))])
 (.seq
 (.ae false [
 oX 3 (.mv 0),
 oX 4 (.mv 0),
 oX 5 (.bin .neq 3 4),
 oX 2 (.mv 5)])
 .ret))
def QT:List bC:=[.tmp 2]
theorem ak9 (NN:Nat) (x:aS (ak.aR GY)):dN NN [] TW QT GY SJ x=LQ NN x:=by kernel_rfl
theorem aiP:ct pX 141 TW.er QT 1=true:=by decide+kernel
theorem amA:du pX 141 NK.M/\bD pX 141=true:=
  dW (T:=[]) (sc:=TW) (ms:=QT) (args:=GY) (aD:=SJ) (aB.nil) cL aiP xy fun x y h=>(ak9 aE x).trans (age x y h)
def D3:aw:=⟨131,GX,aj9,SI,C9⟩
def TV:bA:=
 (.seq
 (.ae false [
 oX 4 (.mv (.k (.one (.v (.bool) (false)))))])
 (.seq
 (.ae false [
 oX 5 (.mv 0),
 oX 6 (.call .ab 141 [5]),
 oX 7 (.mv 6),
 ⟨(some 8),.mv 1,(some (7,true))⟩,
 ⟨(some 9),.call .ab 141 [8],(some (7,true))⟩,
 ⟨(some 10),.un .not 9,(some (7,true))⟩,
 oX 11 (.pick 7 10 (.k (.one (.v (.bool) (false))))),
 oX 12 (.mv 11),
 ⟨(some 13),.mv 0,(some (12,false))⟩,
 ⟨(some 14),.mv 1,(some (12,false))⟩,
 ⟨(some 15),.bin .lss 13 14,(some (12,false))⟩,
 oX 16 (.pick 12 (.k (.one (.v (.bool) (true)))) 15),
 oX 4 (.mv 16)])
 .ret))
def QS:List bC:=[.tmp 4]
theorem ak8 (NN:Nat) (x:aS (ak.aR GX)):dN NN [NK] TV QS GX SI x=LP NN x:=by kernel_rfl
theorem aiO:ct pX 131 TV.er QS 2=true:=by decide+kernel
theorem abt:du pX 131 D3.M/\bD pX 131=true:=
  dW (T:=[NK]) (sc:=TV) (ms:=QS) (args:=GX) (aD:=SI) (aB.cons amA<|aB.nil) cL aiO C9 fun x y h=>(ak8 aE x).trans (agd x y h)
def Oj:aw:=⟨125,HQ,Ki,Tw,vG⟩
def UJ:bA:=
 (.seq
 (.ae false [
 oX 8 (.mv 1),
 oX 9 (.bin .add 8 (kX 1)),
 oX 6 (.mv 9)])
 (.block 0
 (.loop 0 ⟨[(0,.one (fX 1000000 1)),(1,sX),(2,sX),(6,sX)],[(1000000,.row false .ab iX)]⟩ [1000000,500000] [(false,0,0,500000,.ab,[])]
 (.seq
 (.seq
 (.ae false [
 oX 10 (.mv 6),
 oX 11 (.mv 2),
 oX 12 (.bin .lss 10 11)])
 (.cond 12
 .skip
 (.exit 0)))
 (.seq
 (.join ⟨[(6,sX),(0,.one (fX 1000000 1)),(1,sX),(2,sX)],[(1000000,.row false .ab iX)]⟩ [1000000,500002] [(false,0,0,500002,.ab,[])]
 (.block 1
 (.seq
 (.ae false [
 oX 15 (.mv 6),
 oX 7 (.mv 15)])
 (.block 2
 (.loop 0 ⟨[(0,.one (fX 1000000 1)),(1,sX),(2,sX),(6,sX),(7,sX)],[(1000000,.row false .ab iX)]⟩ [1000000,500001] [(false,0,0,500001,.ab,[])]
 (.seq
 (.seq
 (.ae true [
 oX 16 (.mv 7),
 oX 17 (.mv 1),
 oX 18 (.bin .gtr 16 17),
 oX 19 (.mv 18),
 ⟨(some 20),.mv 0,(some (19,true))⟩,
 ⟨(some 21),.mv 7,(some (19,true))⟩,
 ⟨(some 22),.cb 1 20 21,(some (19,true))⟩,
 ⟨(some 23),.load false 1 22,(some (19,true))⟩,
 ⟨(some 24),.mv 0,(some (19,true))⟩,
 ⟨(some 25),.mv 7,(some (19,true))⟩,
 ⟨(some 26),.bin .sub 25 (kX 1),(some (19,true))⟩,
 ⟨(some 27),.cb 1 24 26,(some (19,true))⟩,
 ⟨(some 28),.load false 1 27,(some (19,true))⟩,
 ⟨(some 29),.call .ab 131 [23,28],(some (19,true))⟩,
 oX 30 (.pick 19 29 (.k (.one (.v (.bool) (false)))))])
 (.cond 30
 .skip
 (.exit 2)))
 (.seq
 (.block 3
 (.ae true [
 oX 33 (.mv 0),
 oX 34 (.mv 7),
 oX 35 (.mv 0),
 oX 36 (.mv 7),
 oX 37 (.bin .sub 36 (kX 1)),
 oX 38 (.mv 0),
 oX 39 (.mv 7),
 oX 40 (.bin .sub 39 (kX 1)),
 oX 41 (.cb 1 38 40),
 oX 42 (.load false 1 41),
 oX 43 (.mv 0),
 oX 44 (.mv 7),
 oX 45 (.cb 1 43 44),
 oX 46 (.load false 1 45),
 oX 47 (.cb 1 33 34),
 uX (.store 1 47 42),
 oX 48 (.cb 1 35 37),
 uX (.store 1 48 46)]))
 (.ae false [
 oX 31 (.mv 7),
 oX 32 (.bin .sub 31 (kX 1)),
 oX 7 (.mv 32)]))))))))
 (.ae false [
 oX 13 (.mv 6),
 oX 14 (.bin .add 13 (kX 1)),
 oX 6 (.mv 14)]))))))
def RL:List bC:=[]
theorem alV (NN:Nat) (x:aS (ak.aR HQ)):vj NN [D3] UJ RL HQ Ki Tw x=Ms NN x:=by kernel_rfl
theorem ajA:ct pX 125 UJ.er RL 3=true:=by decide+kernel
theorem am9:qp pX 125 Ki Oj.MM/\bD pX 125=true:=
  zn (T:=[D3]) (sc:=UJ) (ms:=RL) (args:=HQ) (mu:=Ki) (aD:=Tw) (aB.cons abt<|aB.nil) cL ajA vG fun x y h=>(alV aE x).trans (ag0 x y h)
def Ok:aw:=⟨123,HS,Kj,Tx,An⟩
def UK:bA:=
 (.seq
 (.ae false [
 oX 8 (.mv (.k (.one (.v (.bool) (true)))))])
 (.seq
 (.ae false [
 oX 9 (.mv (.k (.one (.v (.bool) (true)))))])
 (.block 0
 (.loop 0 ⟨[(0,.one (fX 1000000 1)),(1,sX),(2,sX),(3,sX),(8,.one (.c (.v (.bool)))),(9,.one (.c (.v (.bool))))],[(1000000,.row false .ab iX)]⟩ [1000000,500000] [(false,0,0,500000,.ab,[])]
 (.block 1
 (.seq
 (.ae false [
 oX 19 (.mv 2),
 oX 20 (.mv 1),
 oX 21 (.bin .sub 19 20),
 oX 10 (.mv 21)])
 (.seq
 (.seq
 (.ae false [
 oX 22 (.mv 10),
 oX 23 (.bin .leq 22 (kX 12))])
 (.cond 23
 (.seq
 (.ae false [
 oX 24 (.mv 0),
 oX 25 (.mv 1),
 oX 26 (.mv 2),
 oX 27 (.gb .ab 125 [24,25,26])])
 .ret)
 .skip))
 (.seq
 (.seq
 (.ae false [
 oX 28 (.mv 3),
 oX 29 (.bin .eql 28 (kX 0))])
 (.cond 29
 (.seq
 (.ae false [
 oX 30 (.mv 0),
 oX 31 (.mv 1),
 oX 32 (.mv 2),
 oX 33 (.call .ab 126 [30,31,32])])
 .ret)
 .skip))
 (.seq
 (.seq
 (.ae false [
 oX 34 (.mv 8),
 oX 35 (.un .not 34)])
 (.join ⟨[(9,.one (.c (.v (.bool)))),(8,.one (.c (.v (.bool)))),(10,sX),(2,sX),(0,.one (fX 1000000 1)),(1,sX),(3,sX)],[(1000000,.row false .ab iX)]⟩ [1000000,500001] [(false,0,0,500001,.ab,[])]
 (.cond 35
 (.seq
 (.ae false [
 oX 36 (.mv 0),
 oX 37 (.mv 1),
 oX 38 (.mv 2),
 oX 39 (.call .ab 127 [36,37,38])])
 (.ae false [
 oX 40 (.mv 3),
 oX 41 (.bin .sub 40 (kX 1)),
 oX 3 (.mv 41)]))
 .skip)))
 (.seq
 (.ae false [
 oX 43 (.mv 0),
 oX 44 (.mv 1),
 oX 45 (.mv 2),
 oX 46 (.call .ab 128 [43,44,45]),
 oX 42 (.mv 46),
 oX 47 (.ext 0 42),
 oX 48 (.ext 1 42),
 oX 11 (.mv 47),
 oX 12 (.mv 48)])
 (.seq
 (.seq
 (.ae false [
 oX 49 (.mv 12),
 oX 50 (.bin .eql 49 (kX 2))])
 (.join ⟨[(12,sX),(9,.one (.c (.v (.bool)))),(8,.one (.c (.v (.bool)))),(11,sX),(10,sX),(2,sX),(0,.one (fX 1000000 1)),(1,sX),(3,sX)],[(1000000,.row false .ab iX)]⟩ [1000000,500002] [(false,0,0,500002,.ab,[])]
 (.cond 50
 (.seq
 (.ae false [
 oX 51 (.mv 0),
 oX 52 (.mv 1),
 oX 53 (.mv 2),
 oX 54 (.call .ab 129 [51,52,53])])
 (.seq
 (.ae false [
 oX 55 (.mv 2),
 oX 56 (.bin .sub 55 (kX 1)),
 oX 57 (.mv 11),
 oX 58 (.mv 1),
 oX 59 (.bin .sub 57 58),
 oX 60 (.bin .sub 56 59),
 oX 11 (.mv 60)])
 (.ae false [
 oX 12 (.mv (kX 1))])))
 .skip)))
 (.seq
 (.seq
 (.ae false [
 oX 61 (.mv 8),
 oX 62 (.mv 61),
 ⟨(some 63),.mv 9,(some (62,true))⟩,
 oX 64 (.pick 62 63 (.k (.one (.v (.bool) (false))))),
 oX 65 (.mv 64),
 ⟨(some 66),.mv 12,(some (65,true))⟩,
 ⟨(some 67),.bin .eql 66 (kX 1),(some (65,true))⟩,
 oX 68 (.pick 65 67 (.k (.one (.v (.bool) (false)))))])
 (.join ⟨[(9,.one (.c (.v (.bool)))),(8,.one (.c (.v (.bool)))),(11,sX),(10,sX),(2,sX),(0,.one (fX 1000000 1)),(1,sX),(3,sX)],[(1000000,.row false .ab iX)]⟩ [1000000,500003] [(false,0,0,500003,.ab,[])]
 (.cond 68
 (.seq
 (.ae false [
 oX 69 (.mv 0),
 oX 70 (.mv 1),
 oX 71 (.mv 2),
 oX 72 (.call .ab 130 [69,70,71])])
 (.cond 72
 .ret
 .skip))
 .skip)))
 (.seq
 (.seq
 (.ae true [
 oX 73 (.mv 1),
 oX 74 (.bin .gtr 73 (kX 0)),
 oX 75 (.mv 74),
 ⟨(some 76),.mv 0,(some (75,true))⟩,
 ⟨(some 77),.mv 1,(some (75,true))⟩,
 ⟨(some 78),.bin .sub 77 (kX 1),(some (75,true))⟩,
 ⟨(some 79),.cb 1 76 78,(some (75,true))⟩,
 ⟨(some 80),.load false 1 79,(some (75,true))⟩,
 ⟨(some 81),.mv 0,(some (75,true))⟩,
 ⟨(some 82),.mv 11,(some (75,true))⟩,
 ⟨(some 83),.cb 1 81 82,(some (75,true))⟩,
 ⟨(some 84),.load false 1 83,(some (75,true))⟩,
 ⟨(some 85),.call .ab 131 [80,84],(some (75,true))⟩,
 ⟨(some 86),.un .not 85,(some (75,true))⟩,
 oX 87 (.pick 75 86 (.k (.one (.v (.bool) (false)))))])
 (.cond 87
 (.seq
 (.ae false [
 oX 88 (.mv 0),
 oX 89 (.mv 1),
 oX 90 (.mv 2),
 oX 91 (.mv 11),
 oX 92 (.call .ab 132 [88,89,90,91]),
 oX 13 (.mv 92)])
 (.seq
 (.ae false [
 oX 93 (.mv 13),
 oX 1 (.mv 93)])
 (.exit 1)))
 .skip))
 (.seq
 (.ae false [
 oX 95 (.mv 0),
 oX 96 (.mv 1),
 oX 97 (.mv 2),
 oX 98 (.mv 11),
 oX 99 (.call .ab 133 [95,96,97,98]),
 oX 94 (.mv 99),
 oX 100 (.ext 0 94),
 oX 101 (.ext 1 94),
 oX 14 (.mv 100),
 oX 15 (.mv 101)])
 (.seq
 (.ae false [
 oX 102 (.mv 15),
 oX 9 (.mv 102)])
 (.seq
 (.ae false [
 oX 103 (.mv 14),
 oX 104 (.mv 1),
 oX 105 (.bin .sub 103 104),
 oX 106 (.mv 2),
 oX 107 (.mv 14),
 oX 108 (.bin .sub 106 107),
 oX 16 (.mv 105),
 oX 17 (.mv 108)])
 (.seq
 (.ae false [
 oX 109 (.mv 10),
 oX 110 (.bin .quo 109 (kX 8)),
 oX 18 (.mv 110)])
 (.seq
 (.ae false [
 oX 111 (.mv 16),
 oX 112 (.mv 17),
 oX 113 (.bin .lss 111 112)])
 (.cond 113
 (.seq
 (.ae false [
 oX 114 (.mv 16),
 oX 115 (.mv 18),
 oX 116 (.bin .geq 114 115),
 oX 8 (.mv 116)])
 (.seq
 (.ae false [
 oX 117 (.mv 0),
 oX 118 (.mv 1),
 oX 119 (.mv 14),
 oX 120 (.mv 3),
 oX 121 (.gb .ab 123 [117,118,119,120])])
 (.ae false [
 oX 122 (.mv 14),
 oX 123 (.bin .add 122 (kX 1)),
 oX 1 (.mv 123)])))
 (.seq
 (.ae false [
 oX 124 (.mv 17),
 oX 125 (.mv 18),
 oX 126 (.bin .geq 124 125),
 oX 8 (.mv 126)])
 (.seq
 (.ae false [
 oX 127 (.mv 0),
 oX 128 (.mv 14),
 oX 129 (.bin .add 128 (kX 1)),
 oX 130 (.mv 2),
 oX 131 (.mv 3),
 oX 132 (.gb .ab 123 [127,129,130,131])])
 (.ae false [
 oX 133 (.mv 14),
 oX 2 (.mv 133)]))))))))))))))))))))))
def RM:List bC:=[]
theorem alW (NN:Nat) (x:aS (ak.aR HS)):vj NN [Oj,D3] UK RM HS Kj Tx x=Mt NN x:=by kernel_rfl
theorem ajB:ct pX 123 UK.er RM 4=true:=by decide+kernel
theorem ana:qp pX 123 Kj Ok.MM/\bD pX 123=true:=
  zn (T:=[Oj,D3]) (sc:=UK) (ms:=RM) (args:=HS) (mu:=Kj) (aD:=Tx) (aB.qx am9<|aB.cons abt<|aB.nil) cL ajB An fun x y h=>(alW aE x).trans (ag1 x y h)
def Oi:aw:=⟨122,HP,Kh,Tv,Al⟩
def UI:bA:=
 (.seq
 (.ae false [
 oX 3 (.mv 0),
 oX 4 (.len 3),
 oX 2 (.mv 4)])
 (.ae false [
 oX 5 (.mv 0),
 oX 6 (.mv 2),
 oX 7 (.mv 2),
 oX 8 (.conv .u64 7),
 oX 9 (.call .ab 124 [8]),
 oX 10 (.gb .ab 123 [5,(kX 0),6,9])]))
def RJ:List bC:=[]
theorem alU (NN:Nat) (x:aS (ak.aR HP)):vj NN [Oh,Ok] UI RJ HP Kh Tv x=Mr NN x:=by kernel_rfl
theorem ajz:ct pX 122 UI.er RJ 1=true:=by decide+kernel
theorem am8:qp pX 122 Kh Oi.MM/\bD pX 122=true:=
  zn (T:=[Oh,Ok]) (sc:=UI) (ms:=RJ) (args:=HP) (mu:=Kh) (aD:=Tv) (aB.cons am7<|aB.qx ana<|aB.nil) cL ajz Al fun x y h=>(alU aE x).trans (agZ x y h)
def Oe:aw:=⟨92,HL,akL,Tq,Ai⟩
def UD:bA:=
 (.seq
 (.ae false [
 oX 2 (.mv (.k (.one (.nil iX))))])
 (.seq
 (.ae false [
 oX 4 (.mv 0),
 oX 5 (.call .ab 47 [4]),
 oX 3 (.mv 5)])
 (.seq
 (.ae false [
 oX 6 (.mv 3),
 oX 7 (.gb .ab 122 [6])])
 (.seq
 (.ae false [
 oX 8 (.mv 3),
 oX 2 (.mv 8)])
 .ret))))
def RB:List bC:=[.tmp 2]
theorem alP (NN:Nat) (x:aS (ak.aR HL)):dN NN [pA,Oi] UD RB HL Tq x=Mp NN x:=by kernel_rfl
theorem aju:ct pX 92 UD.er RB 1=true:=by decide+kernel
theorem am3:du pX 92 Oe.M/\bD pX 92=true:=
  dW (T:=[pA,Oi]) (sc:=UD) (ms:=RB) (args:=HL) (aD:=Tq) (aB.cons Cr<|aB.qx am8<|aB.nil) cL aju Ai fun x y h=>(alP aE x).trans (agU x y h)
def NX:aw:=⟨118,Hl,akp,S3,z8⟩
def Uf:bA:=
 (.seq
 (.ae false [
 oX 2 (.box 3 0),
 oX 4 (.mv (kX 0))])
 (.seq
 (.seq
 (.ae false [
 oX 7 (.ar 0 2),
 oX 8 (.load false 1 7),
 oX 9 (.len 8),
 oX 10 (.mv (kX 0))])
 (.join ⟨[],[]⟩ [] []
 (.block 0
 (.loop 0 ⟨[(1,sX),(8,.one (.c (.v (lX)))),(9,sX),(10,sX)],[]⟩ [2] []
 (.seq
 (.ae false [
 oX 11 (.bin .lss 10 9)])
 (.seq
 (.cond 11
 .skip
 (.exit 0))
 (.seq
 (.block 1
 (.seq
 (.ae false [
 oX 12 (.mv 10),
 oX 13 (.cb 1 8 10),
 oX 14 (.load false 1 13),
 oX 5 (.mv 12),
 oX 6 (.mv 14)])
 (.seq
 (.ae false [
 oX 15 (.mv 6),
 oX 16 (.mv 1),
 oX 17 (.bin .eql 15 16)])
 (.cond 17
 (.seq
 (.ae false [
 oX 18 (.mv 5),
 oX 4 (.mv 18)])
 .ret)
 .skip))))
 (.ae false [
 oX 19 (.bin .add 10 (kX 1)),
 oX 10 (.mv 19)]))))))))
 (.seq
 (.ae false [
 oX 4 (.mv (kX (-1)))])
 .ret)))
def Rb:List bC:=[.tmp 4]
theorem als (NN:Nat) (x:aS (ak.aR Hl)):dN NN [] Uf Rb Hl S3 x=L7 NN x:=by kernel_rfl
theorem ai7:ct pX 118 Uf.er Rb 2=true:=by decide+kernel
theorem amM:du pX 118 NX.M/\bD pX 118=true:=
  dW (T:=[]) (sc:=Uf) (ms:=Rb) (args:=Hl) (aD:=S3) (aB.nil) cL ai7 z8 fun x y h=>(als aE x).trans (agx x y h)
def Of:aw:=⟨119,HM,akM,Tr,Aj⟩
def UE:bA:=
 (.seq
 (.ae false [
 oX 2 (.box 3 0),
 oX 4 (.mv (.k (.one (.nil iX))))])
 (.seq
 (.ae false [
 oX 10 (.mv 1),
 oX 11 (.len 10),
 oX 12 (.kc .ab iX 8 (0:Int) 11 11),
 oX 5 (.mv 12)])
 (.seq
 (.ae false [
 oX 6 (.mv (kX 1))])
 (.seq
 (.seq
 (.ae false [
 oX 13 (.ar 1 2),
 oX 14 (.load false 1 13),
 oX 15 (.len 14),
 oX 16 (.bin .sub 15 (kX 1)),
 oX 7 (.mv 16)])
 (.join ⟨[(5,.one (fX 500004 1))],[(500004,.row true .ab iX)]⟩ [2,500000,500004] [(false,5,0,500004,.ab,[])]
 (.block 0
 (.loop 0 ⟨[(1,.one (.c (.v (lX)))),(2,.one (rX 2)),(5,.one (fX 500000 1)),(6,sX),(7,sX)],[(2,.box [.c (.v (lX)),.c (.v (lX)),.c (.v (lX))]),(500000,.row true .ab iX)]⟩ [2,12,500000,500003] [(false,5,0,500000,.ab,[])]
 (.seq
 (.seq
 (.ae false [
 oX 17 (.mv 7),
 oX 18 (.bin .geq 17 (kX 0))])
 (.cond 18
 .skip
 (.exit 0)))
 (.seq
 (.join ⟨[(7,sX),(1,.one (.c (.v (lX)))),(2,.one (rX 2)),(5,.one (fX 500003 1)),(6,sX)],[(2,.box [.c (.v (lX)),.c (.v (lX)),.c (.v (lX))]),(500003,.row true .ab iX)]⟩ [2,500002,500003] [(false,5,0,500003,.ab,[])]
 (.block 1
 (.seq
 (.seq
 (.ae false [
 oX 21 (.mv 1),
 oX 22 (.len 21),
 oX 23 (.mv (kX 0))])
 (.join ⟨[(6,sX),(7,sX),(1,.one (.c (.v (lX)))),(2,.one (rX 2)),(5,.one (fX 500002 1))],[(2,.box [.c (.v (lX)),.c (.v (lX)),.c (.v (lX))]),(500002,.row true .ab iX)]⟩ [2,500001,500002] [(false,5,0,500002,.ab,[])]
 (.block 2
 (.loop 0 ⟨[(1,.one (.c (.v (lX)))),(2,.one (rX 2)),(5,.one (fX 500001 1)),(6,sX),(7,sX),(21,.one (.c (.v (lX)))),(22,sX),(23,sX)],[(2,.box [.c (.v (lX)),.c (.v (lX)),.c (.v (lX))]),(500001,.row true .ab iX)]⟩ [2,500000,500001] [(false,5,0,500001,.ab,[])]
 (.seq
 (.ae false [
 oX 24 (.bin .lss 23 22)])
 (.seq
 (.cond 24
 .skip
 (.exit 2))
 (.seq
 (.block 3
 (.seq
 (.ae false [
 oX 25 (.mv 23),
 oX 26 (.cb 1 21 23),
 oX 27 (.load false 1 26),
 oX 8 (.mv 25),
 oX 9 (.mv 27)])
 (.seq
 (.ae false [
 oX 28 (.mv 9),
 oX 29 (.ar 0 2),
 oX 30 (.load false 1 29),
 oX 31 (.mv 7),
 oX 32 (.cb 1 30 31),
 oX 33 (.load false 1 32),
 oX 34 (.bin .eql 28 33)])
 (.cond 34
 (.ae false [
 oX 35 (.mv 5),
 oX 36 (.mv 8),
 oX 37 (.mv 6),
 oX 38 (.cb 1 35 36),
 uX (.store 1 38 37)])
 .skip))))
 (.ae false [
 oX 39 (.bin .add 23 (kX 1)),
 oX 23 (.mv 39)]))))))))
 (.ae false [
 oX 40 (.mv 6),
 oX 41 (.ar 1 2),
 oX 42 (.load false 1 41),
 oX 43 (.mv 7),
 oX 44 (.cb 1 42 43),
 oX 45 (.load false 1 44),
 oX 46 (.bin .mul 40 45),
 oX 6 (.mv 46)]))))
 (.ae false [
 oX 19 (.mv 7),
 oX 20 (.bin .sub 19 (kX 1)),
 oX 7 (.mv 20)])))))))
 (.seq
 (.ae false [
 oX 47 (.mv 5),
 oX 4 (.mv 47)])
 .ret)))))
def RD:List bC:=[.tmp 4]
theorem alQ (NN:Nat) (x:aS (ak.aR HM)):dN NN [] UE RD HM Tr x=Mq NN x:=by kernel_rfl
theorem ajv:ct pX 119 UE.er RD 2=true:=by decide+kernel
theorem am4:du pX 119 Of.M/\bD pX 119=true:=
  dW (T:=[]) (sc:=UE) (ms:=RD) (args:=HM) (aD:=Tr) (aB.nil) cL ajv Aj fun x y h=>(alQ aE x).trans (agV x y h)
def N1:aw:=⟨121,Hr,aku,S8,Ab⟩
def Uk:bA:=
 (.seq
 (.ae false [
 oX 4 (.mv (kX 0))])
 (.seq
 (.ae false [
 oX 5 (.mv (kX 0))])
 (.seq
 (.seq
 (.ae false [
 oX 7 (.mv 0),
 oX 8 (.len 7),
 oX 9 (.mv (kX 0))])
 (.join ⟨[(5,sX)],[]⟩ [] []
 (.block 0
 (.loop 0 ⟨[(0,.one (.c (.v (lX)))),(1,.one (.c (.v (lX)))),(5,sX),(8,sX),(9,sX)],[]⟩ [] []
 (.seq
 (.ae false [
 oX 10 (.bin .lss 9 8)])
 (.seq
 (.cond 10
 .skip
 (.exit 0))
 (.seq
 (.block 1
 (.seq
 (.ae false [
 oX 11 (.mv 9),
 oX 6 (.mv 11)])
 (.ae true [
 oX 12 (.mv 5),
 oX 13 (.mv 0),
 oX 14 (.mv 6),
 oX 15 (.cb 1 13 14),
 oX 16 (.load false 1 15),
 oX 17 (.mv 1),
 oX 18 (.mv 6),
 oX 19 (.cb 1 17 18),
 oX 20 (.load false 1 19),
 oX 21 (.bin .mul 16 20),
 oX 22 (.bin .add 12 21),
 oX 5 (.mv 22)])))
 (.ae false [
 oX 23 (.bin .add 9 (kX 1)),
 oX 9 (.mv 23)]))))))))
 (.seq
 (.ae false [
 oX 24 (.mv 5),
 oX 4 (.mv 24)])
 .ret))))
def Rh:List bC:=[.tmp 4]
theorem alx (NN:Nat) (x:aS (ak.aR Hr)):dN NN [] Uk Rh Hr S8 x=Mb NN x:=by kernel_rfl
theorem ajc:ct pX 121 Uk.er Rh 2=true:=by decide+kernel
theorem amQ:du pX 121 N1.M/\bD pX 121=true:=
  dW (T:=[]) (sc:=Uk) (ms:=Rh) (args:=Hr) (aD:=S8) (aB.nil) cL ajc Ab fun x y h=>(alx aE x).trans (agC x y h)
def N8:aw:=⟨120,HB,akD,Ti,xI⟩
def Uv:bA:=
 (.seq
 (.ae false [
 oX 3 (.box 3 0),
 oX 4 (.box 3 1),
 oX 6 (.mv (.k (.one (.nil iX))))])
 (.seq
 (.ae false [
 oX 8 (.load true 3 3),
 oX 9 (.call .ab 89 [8]),
 oX 7 (.mv 9)])
 (.seq
 (.ae false [
 oX 10 (.ar 2 4),
 oX 11 (.load false 1 10),
 oX 12 (.mv 2),
 oX 13 (.mv 7),
 oX 14 (.bin .mul 12 13),
 oX 15 (.mv 2),
 oX 16 (.bin .add 15 (kX 1)),
 oX 17 (.mv 7),
 oX 18 (.bin .mul 16 17),
 oX 19 (.slice 1 11 (some 14) (some 18)),
 oX 6 (.mv 19)])
 .ret)))
def Rr:List bC:=[.tmp 6]
theorem alH (NN:Nat) (x:aS (ak.aR HB)):n5 NN [Ea] Uv Rr HB Ti x=Mk NN x:=by kernel_rfl
theorem ajm:ct pX 120 Uv.er Rr 3=true:=by decide+kernel
theorem amX:kT Go.Proofs.Try.prog 120 N8.MV/\bD pX 120=true:=
  qk (T:=[Ea]) (sc:=Uv) (ms:=Rr) (args:=HB) (aD:=Ti) (aB.cons abA<|aB.nil) cL ajm xI fun x y h=>(alH aE x).trans (agM x y h)
def Oa:aw:=⟨91,HG,akG,Tl,Ag⟩
def Uy:bA:=
 (.seq
 (.ae false [
 oX 3 (.box 3 0),
 oX 4 (.box 3 1),
 oX 6 (.alloc [.nil iX,.nil iX,.nil iX])])
 (.seq
 (.ae true [
 oX 12 (.mv 2),
 oX 13 (.call .ab 47 [12]),
 oX 14 (.mv 2),
 oX 15 (.len 14),
 oX 16 (.kc .ab iX 8 (0:Int) 15 15),
 oX 17 (.build [.nil iX,.nil iX,.nil iX] [(0,1,13),(1,1,16)]),
 oX 7 (.alloc [.nil iX,.nil iX,.nil iX]),
 uX (.store 3 7 17)])
 (.seq
 (.seq
 (.ae false [
 oX 18 (.mv 2),
 oX 19 (.len 18),
 oX 20 (.mv (kX 0))])
 (.join ⟨[(2,.one (.c (.v (lX)))),(7,.one (rX 7)),(6,.one (rX 6)),(4,.one (rX 4)),(3,.one (rX 3))],[(3,.box [vX,vX,vX]),(4,.box [.c (.v (lX)),.c (.v (lX)),.c (.v (lX))]),(6,.box [fX 500006 1,fX 500007 1,fX 500008 1]),(7,.box [fX 500009 1,fX 500010 1,fX 500011 1]),(500006,.row true .ab iX),(500007,.row true .ab iX),(500008,.row true .ab iX),(500009,.row true .ab iX),(500010,.row true .ab iX),(500011,.row true .ab iX)]⟩ [3,4,6,7,500000,500001,500002,500003,500004,500005,500006,500007,500008,500009,500010,500011] [(true,6,0,500006,.ab,[]),(true,6,1,500007,.ab,[]),(true,6,2,500008,.ab,[]),(true,7,0,500009,.ab,[]),(true,7,1,500010,.ab,[]),(true,7,2,500011,.ab,[])]
 (.block 0
 (.loop 0 ⟨[(2,.one (.c (.v (lX)))),(3,.one (rX 3)),(4,.one (rX 4)),(6,.one (rX 6)),(7,.one (rX 7)),(18,.one (.c (.v (lX)))),(19,sX),(20,sX)],[(3,.box [vX,vX,vX]),(4,.box [.c (.v (lX)),.c (.v (lX)),.c (.v (lX))]),(6,.box [fX 500000 1,fX 500001 1,fX 500002 1]),(7,.box [fX 500003 1,fX 500004 1,fX 500005 1]),(500000,.row true .ab iX),(500001,.row true .ab iX),(500002,.row true .ab iX),(500003,.row true .ab iX),(500004,.row true .ab iX),(500005,.row true .ab iX)]⟩ [3,4,6,14000,16,7,500000,500001,500002,500003,500004,500005] [(true,6,0,500000,.ab,[]),(true,6,1,500001,.ab,[]),(true,6,2,500002,.ab,[]),(true,7,0,500003,.ab,[]),(true,7,1,500004,.ab,[]),(true,7,2,500005,.ab,[])]
 (.seq
 (.ae false [
 oX 21 (.bin .lss 20 19)])
 (.seq
 (.cond 21
 .skip
 (.exit 0))
 (.seq
 (.block 1
 (.seq
 (.ae false [
 oX 22 (.mv 20),
 oX 23 (.cb 1 18 20),
 oX 24 (.load false 1 23),
 oX 8 (.mv 22),
 oX 9 (.mv 24)])
 (.ae true [
 oX 25 (.ar 1 7),
 oX 26 (.load false 1 25),
 oX 27 (.mv 8),
 oX 28 (.ar 1 4),
 oX 29 (.load false 1 28),
 oX 30 (.load true 3 4),
 oX 31 (.mv 9),
 oX 32 (.call .ab 118 [30,31]),
 oX 33 (.cb 1 29 32),
 oX 34 (.load false 1 33),
 oX 35 (.cb 1 26 27),
 uX (.store 1 35 34)])))
 (.ae false [
 oX 36 (.bin .add 20 (kX 1)),
 oX 20 (.mv 36)]))))))))
 (.seq
 (.ae false [
 oX 37 (.load true 3 4),
 oX 38 (.mv 2),
 oX 39 (.call .ab 119 [37,38]),
 oX 10 (.mv 39)])
 (.seq
 (.ae false [
 oX 40 (.mv 2),
 oX 41 (.len 40),
 oX 42 (.kc .ab iX 8 (0:Int) 41 41),
 oX 11 (.mv 42)])
 (.block 2
 (.loop 0 ⟨[(3,.one (rX 3)),(4,.one (rX 4)),(6,.one (rX 6)),(7,.one (rX 7)),(10,.one (fX 500018 1)),(11,.one (fX 500019 1))],[(3,.box [vX,vX,vX]),(4,.box [.c (.v (lX)),.c (.v (lX)),.c (.v (lX))]),(6,.box [fX 500012 1,fX 500013 1,fX 500014 1]),(7,.box [fX 500015 1,fX 500016 1,fX 500017 1]),(500012,.row true .ab iX),(500013,.row true .ab iX),(500014,.row true .ab iX),(500015,.row true .ab iX),(500016,.row true .ab iX),(500017,.row true .ab iX),(500018,.row true .ab iX),(500019,.row true .ab iX)]⟩ [3,4,6,7,40000,42,51,500006,500007,500008,500009,500010,500011,500012,500013,500014,500015,500016,500017,500018,500019] [(true,6,0,500012,.ab,[]),(true,6,1,500013,.ab,[]),(true,6,2,500014,.ab,[]),(true,7,0,500015,.ab,[]),(true,7,1,500016,.ab,[]),(true,7,2,500017,.ab,[]),(false,10,0,500018,.ab,[]),(false,11,0,500019,.ab,[])]
 (.block 3
 (.seq
 (.ae true [
 oX 43 (.ar 2 7),
 oX 44 (.load false 1 43),
 oX 45 (.load true 3 3),
 oX 46 (.load true 3 4),
 oX 47 (.mv 10),
 oX 48 (.mv 11),
 oX 49 (.call .ab 121 [47,48]),
 oX 50 (.lZ 120 [45,46,49]),
 oX 51 (.append true iX 8 44 50),
 oX 52 (.ar 2 7),
 uX (.store 1 52 51)])
 (.seq
 (.ae false [
 oX 53 (.ar 1 7),
 oX 54 (.load false 1 53),
 oX 55 (.mv 11),
 oX 56 (.gb .ab 58 [54,55]),
 oX 57 (.un .not 56)])
 (.cond 57
 (.seq
 (.ae false [
 oX 58 (.load true 3 7),
 uX (.store 3 6 58)])
 .ret)
 .skip)))))))))))
def Ru:List bC:=[.cell 6 3 true]
theorem alK (NN:Nat) (x:aS (ak.aR HG)):dN NN [pA,NX,Of,N1,N8,D8] Uy Ru HG Tl x=Mm NN x:=by kernel_rfl
theorem ajp:ct pX 91 Uy.er Ru 3=true:=by decide+kernel
theorem amZ:du pX 91 Oa.M/\bD pX 91=true:=
  dW (T:=[pA,NX,Of,N1,N8,D8]) (sc:=Uy) (ms:=Ru) (args:=HG) (aD:=Tl) (aB.cons Cr<|aB.cons amM<|aB.cons am4<|aB.cons amQ<|aB.jV amX<|aB.qx aby<|aB.nil) cL ajp Ag fun x y h=>(alK aE x).trans (agP x y h)
def NV:aw:=⟨44,Hi,akm,S0,z6⟩
def Uc:bA:=
 (.seq
 (.ae false [
 oX 2 (.box 3 0),
 oX 3 (.box 3 1),
 oX 4 (.alloc [.nil iX,.nil iX,.nil iX])])
 (.seq
 (.seq
 (.ae false [
 oX 5 (.load true 3 2),
 oX 6 (.load true 3 3),
 oX 7 (.call .ab 43 [5,6]),
 oX 8 (.un .not 7)])
 (.cond 8
 (.seq
 (.ae false [
 oX 9 (.build [.nil iX,.nil iX,.nil iX] []),
 uX (.store 3 4 9)])
 .ret)
 .skip))
 (.seq
 (.ae true [
 oX 10 (.load true 3 2),
 oX 11 (.load true 3 3),
 oX 12 (.ar 0 3),
 oX 13 (.load false 1 12),
 oX 14 (.call .ab 92 [13]),
 oX 15 (.call .ab 91 [10,11,14]),
 uX (.store 3 4 15)])
 .ret)))
def Q8:List bC:=[.cell 4 3 true]
theorem alp (NN:Nat) (x:aS (ak.aR Hi)):dN NN [D5,Oe,Oa] Uc Q8 Hi S0 x=L4 NN x:=by kernel_rfl
theorem ai4:ct pX 44 Uc.er Q8 2=true:=by decide+kernel
theorem amK:du pX 44 NV.M/\bD pX 44=true:=
  dW (T:=[D5,Oe,Oa]) (sc:=Uc) (ms:=Q8) (args:=Hi) (aD:=S0) (aB.cons abv<|aB.cons am3<|aB.cons amZ<|aB.nil) cL ai4 z6 fun x y h=>(alp aE x).trans (agu x y h)
def N6:aw:=⟨45,Hz,akB,Tg,Ae⟩
def Ut:bA:=
 (.seq
 (.ae false [
 oX 2 (.mv (kX 0))])
 (.seq
 (.ae false [
 oX 3 (.mv (kX 1))])
 (.seq
 (.seq
 (.ae false [
 oX 6 (.mv 0),
 oX 7 (.len 6),
 oX 8 (.mv (kX 0))])
 (.join ⟨[(3,sX)],[]⟩ [] []
 (.block 0
 (.loop 0 ⟨[(3,sX),(6,.one (.c (.v (lX)))),(7,sX),(8,sX)],[]⟩ [] []
 (.seq
 (.ae false [
 oX 9 (.bin .lss 8 7)])
 (.seq
 (.cond 9
 .skip
 (.exit 0))
 (.seq
 (.block 1
 (.seq
 (.ae false [
 oX 10 (.cb 1 6 8),
 oX 11 (.load false 1 10),
 oX 5 (.mv 11)])
 (.ae false [
 oX 12 (.mv 3),
 oX 13 (.mv 5),
 oX 14 (.bin .mul 12 13),
 oX 3 (.mv 14)])))
 (.ae false [
 oX 15 (.bin .add 8 (kX 1)),
 oX 8 (.mv 15)]))))))))
 (.seq
 (.ae false [
 oX 16 (.mv 3),
 oX 2 (.mv 16)])
 .ret))))
def Rp:List bC:=[.tmp 2]
theorem alF (NN:Nat) (x:aS (ak.aR Hz)):dN NN [] Ut Rp Hz Tg x=Mi NN x:=by kernel_rfl
theorem ajk:ct pX 45 Ut.er Rp 1=true:=by decide+kernel
theorem amV:du pX 45 N6.M/\bD pX 45=true:=
  dW (T:=[]) (sc:=Ut) (ms:=Rp) (args:=Hz) (aD:=Tg) (aB.nil) cL ajk Ae fun x y h=>(alF aE x).trans (agK x y h)
def NM:aw:=⟨10,G0,akc,SL,xz⟩
def TY:bA:=
 (.seq
 (.ae false [
 oX 3 (.box 3 1),
 oX 4 (.alloc [zX,.nil gX]),
 oX 5 (.mv (.k (.one (.v (.bool) (false)))))])
 (.seq
 (.ae false [
 oX 18 (.mv 0),
 oX 19 (.build [zX,zX,zX] [(0,1,(kX 2)),(1,1,18)]),
 oX 6 (.alloc [zX,zX,zX]),
 uX (.store 3 6 19)])
 (.seq
 (.seq
 (.ae false [
 oX 20 (.load true 3 6),
 oX 21 (.load true 3 3),
 oX 22 (.call .ab 43 [20,21]),
 oX 23 (.un .not 22),
 oX 24 (.mv 23),
 ⟨(some 25),.ar 0 3,(some (24,false))⟩,
 ⟨(some 26),.load false 1 25,(some (24,false))⟩,
 ⟨(some 27),.len 26,(some (24,false))⟩,
 ⟨(some 28),.bin .eql 27 (kX 0),(some (24,false))⟩,
 oX 29 (.pick 24 (.k (.one (.v (.bool) (true)))) 28),
 oX 30 (.mv 29),
 ⟨(some 31),.ar 0 3,(some (30,false))⟩,
 ⟨(some 32),.load false 1 31,(some (30,false))⟩,
 ⟨(some 33),.len 32,(some (30,false))⟩,
 ⟨(some 34),.bin .gtr 33 (kX 8),(some (30,false))⟩,
 oX 35 (.pick 30 (.k (.one (.v (.bool) (true)))) 34)])
 (.cond 35
 (.seq
 (.ae false [
 oX 36 (.build [zX,.nil gX] []),
 uX (.store 2 4 36),
 oX 5 (.mv (.k (.one (.v (.bool) (false)))))])
 .ret)
 .skip))
 (.seq
 (.ae false [
 oX 37 (.load true 3 6),
 oX 38 (.load true 3 3),
 oX 39 (.call .ab 44 [37,38]),
 oX 7 (.alloc [.nil iX,.nil iX,.nil iX]),
 uX (.store 3 7 39)])
 (.seq
 (.ae false [
 oX 40 (.mv 0),
 oX 41 (.build [zX,.nil gX] [(0,1,40)]),
 oX 8 (.alloc [zX,.nil gX]),
 uX (.store 2 8 41)])
 (.seq
 (.ae false [
 oX 9 (.mv (kX 1))])
 (.seq
 (.ae false [
 oX 42 (.ar 2 7),
 oX 43 (.nh false 1 42),
 oX 10 (.mv 43)])
 (.seq
 (.ae false [
 oX 44 (.ar 1 7),
 oX 45 (.load false 1 44),
 oX 46 (.len 45),
 oX 47 (.bin .sub 46 (kX 1)),
 oX 11 (.mv 47)])
 (.seq
 (.seq
 (.ae false [
 oX 48 (.ar 1 7),
 oX 49 (.load false 1 48),
 oX 50 (.mv 11),
 oX 51 (.slice 1 49 none (some 50)),
 oX 52 (.len 51),
 oX 53 (.mv (kX 0))])
 (.join ⟨[(9,sX),(7,.one (rX 7)),(11,sX),(10,.one (.c (.v (lX)))),(8,.one (rX 8)),(4,.one (rX 4))],[(4,.box [vX,fX 500002 4]),(7,.box [.c (.v (lX)),.c (.v (lX)),.c (.v (lX))]),(8,.box [vX,fX 500003 4]),(500002,.row true .ab gX),(500003,.row true .ab gX)]⟩ [4,7,8,500000,500001,500002,500003] [(true,4,1,500002,.ab,[]),(true,8,1,500003,.ab,[])]
 (.block 0
 (.loop 0 ⟨[(0,sX),(4,.one (rX 4)),(7,.one (rX 7)),(8,.one (rX 8)),(9,sX),(10,.one (.c (.v (lX)))),(11,sX),(51,.one (.c (.v (lX)))),(52,sX),(53,sX)],[(4,.box [vX,fX 500000 4]),(7,.box [.c (.v (lX)),.c (.v (lX)),.c (.v (lX))]),(8,.box [vX,fX 500001 4]),(500000,.row true .ab gX),(500001,.row true .ab gX)]⟩ [3,4,6,7,8,14,15,16,94,500000,500001] [(true,4,1,500000,.ab,[]),(true,8,1,500001,.ab,[])]
 (.seq
 (.ae false [
 oX 54 (.bin .lss 53 52)])
 (.seq
 (.cond 54
 .skip
 (.exit 0))
 (.seq
 (.block 1
 (.seq
 (.ae false [
 oX 55 (.mv 53),
 oX 56 (.cb 1 51 53),
 oX 57 (.load false 1 56),
 oX 12 (.mv 55),
 oX 13 (.mv 57)])
 (.seq
 (.ae false [
 oX 58 (.mv 9),
 oX 59 (.mv 13),
 oX 60 (.bin .mul 58 59),
 oX 61 (.ar 1 7),
 oX 62 (.load false 1 61),
 oX 63 (.mv 12),
 oX 64 (.bin .add 63 (kX 1)),
 oX 65 (.slice 1 62 (some 64) none),
 oX 66 (.call .ab 45 [65]),
 oX 67 (.mv 10),
 oX 68 (.build [zX,zX,.nil iX] [(0,1,60),(1,1,66),(2,1,67)]),
 oX 14 (.alloc [zX,zX,.nil iX]),
 uX (.store 3 14 68)])
 (.seq
 (.ae false [
 oX 70 (.mv 0),
 oX 71 (.load true 3 14),
 oX 72 (.call .ab 46 [70,71]),
 oX 69 (.mv 72),
 oX 73 (.ext 0 69),
 oX 74 (.ext 1 69),
 oX 75 (.ext 2 69),
 oX 15 (.alloc [zX,zX,.nil iX]),
 oX 16 (.alloc [zX,zX,.nil iX]),
 uX (.store 3 15 73),
 uX (.store 3 16 74),
 oX 17 (.mv 75)])
 (.seq
 (.seq
 (.ae false [
 oX 76 (.mv 17),
 oX 77 (.un .not 76),
 oX 78 (.mv 77),
 ⟨(some 79),.ar 1 15,(some (78,false))⟩,
 ⟨(some 80),.load false 1 79,(some (78,false))⟩,
 ⟨(some 81),.bin .gtr 80 (kX 32),(some (78,false))⟩,
 oX 82 (.pick 78 (.k (.one (.v (.bool) (true)))) 81)])
 (.cond 82
 (.seq
 (.ae false [
 oX 83 (.build [zX,.nil gX] []),
 uX (.store 2 4 83),
 oX 5 (.mv (.k (.one (.v (.bool) (false)))))])
 .ret)
 .skip))
 (.seq
 (.ae false [
 oX 84 (.ar 1 8),
 oX 85 (.load false 1 84),
 oX 86 (.mv 9),
 oX 87 (.mv 13),
 oX 88 (.ar 1 15),
 oX 89 (.load false 1 88),
 oX 90 (.ar 2 15),
 oX 91 (.load false 1 90),
 oX 92 (.build [zX,zX,zX,.nil iX] [(0,1,86),(1,1,87),(2,1,89),(3,1,91)]),
 oX 93 (.fC gX [92]),
 oX 94 (.append false gX 48 85 93),
 oX 95 (.ar 1 8),
 uX (.store 1 95 94)])
 (.seq
 (.ae false [
 oX 96 (.ar 1 15),
 oX 97 (.load false 1 96),
 oX 9 (.mv 97)])
 (.ae false [
 oX 98 (.ar 2 16),
 oX 99 (.nh false 1 98),
 oX 10 (.mv 99)]))))))))
 (.ae false [
 oX 100 (.bin .add 53 (kX 1)),
 oX 53 (.mv 100)]))))))))
 (.seq
 (.qb [(0,11),(1,11)] [
 oX 101 (.ar 1 8),
 oX 102 (.load false 1 101),
 oX 103 (.mv 9),
 oX 104 (.ar 1 7),
 oX 105 (.load false 1 104),
 oX 106 (.mv 11),
 oX 107 (.cb 1 105 106),
 oX 108 (.load false 1 107),
 oX 109 (.mv 10),
 oX 110 (.call .ab 47 [109]),
 oX 111 (.build [zX,zX,zX,.nil iX] [(0,1,103),(1,1,108),(2,1,(kX 1)),(3,1,110)]),
 oX 112 (.fC gX [111]),
 oX 113 (.append false gX 48 102 112),
 oX 114 (.ar 1 8),
 uX (.store 1 114 113)])
 (.seq
 (.ae false [
 oX 115 (.load true 2 8),
 uX (.store 2 4 115),
 oX 5 (.mv (.k (.one (.v (.bool) (true)))))])
 .ret)))))))))))
def QV:List bC:=[.cell 4 2 true,.tmp 5]
theorem alb (NN:Nat) (x:aS (ak.aR G0)):dN NN [D5,NV,N6,D4,pA] TY QV G0 SL x=LS NN x:=by kernel_rfl
theorem aiR:ct pX 10 TY.er QV 2=true:=by decide+kernel
theorem amC:du pX 10 NM.M/\bD pX 10=true:=
  dW (T:=[D5,NV,N6,D4,pA]) (sc:=TY) (ms:=QV) (args:=G0) (aD:=SL) (aB.cons abv<|aB.cons amK<|aB.cons amV<|aB.cons abu<|aB.cons Cr<|aB.nil) cL aiR xz fun x y h=>(alb aE x).trans (agh x y h)
def Eb:aw:=⟨28,HN,akO,Tt,tP⟩
def UG:bA:=
 (.seq
 (.ae false [
 oX 4 (.mv (.k (.one (.v (.bool) (false)))))])
 (.seq
 (.seq
 (.ae false [
 oX 7 (.mv 0),
 oX 8 (.len 7),
 oX 9 (.mv (kX 0))])
 (.join ⟨[(0,.one (.c (.v (lX)))),(1,.one (.c (.v (lX))))],[]⟩ [] []
 (.block 0
 (.loop 0 ⟨[(0,.one (.c (.v (lX)))),(1,.one (.c (.v (lX)))),(7,.one (.c (.v (lX)))),(8,sX),(9,sX)],[]⟩ [] []
 (.seq
 (.ae false [
 oX 10 (.bin .lss 9 8)])
 (.seq
 (.cond 10
 .skip
 (.exit 0))
 (.seq
 (.block 1
 (.seq
 (.ae false [
 oX 11 (.mv 9),
 oX 12 (.cb 1 7 9),
 oX 13 (.load false 1 12),
 oX 5 (.mv 11),
 oX 6 (.mv 13)])
 (.seq
 (.ae false [
 oX 14 (.mv 5),
 oX 15 (.mv 1),
 oX 16 (.len 15),
 oX 17 (.bin .geq 14 16),
 oX 18 (.mv 17),
 ⟨(some 19),.mv 1,(some (18,false))⟩,
 ⟨(some 20),.mv 5,(some (18,false))⟩,
 ⟨(some 21),.cb 1 19 20,(some (18,false))⟩,
 ⟨(some 22),.load false 1 21,(some (18,false))⟩,
 ⟨(some 23),.mv 6,(some (18,false))⟩,
 ⟨(some 24),.bin .neq 22 23,(some (18,false))⟩,
 oX 25 (.pick 18 (.k (.one (.v (.bool) (true)))) 24)])
 (.cond 25
 (.seq
 (.ae false [
 oX 4 (.mv (.k (.one (.v (.bool) (false)))))])
 .ret)
 .skip))))
 (.ae false [
 oX 26 (.bin .add 9 (kX 1)),
 oX 9 (.mv 26)]))))))))
 (.seq
 (.ae false [
 oX 27 (.mv 0),
 oX 28 (.len 27),
 oX 29 (.mv 1),
 oX 30 (.len 29),
 oX 31 (.bin .eql 28 30),
 oX 4 (.mv 31)])
 .ret)))
def RG:List bC:=[.tmp 4]
theorem alS (NN:Nat) (x:aS (ak.aR HN)):dN NN [] UG RG HN Tt x=Gy NN x:=by kernel_rfl
theorem ajx:ct pX 28 UG.er RG 2=true:=by decide+kernel
theorem abB:du pX 28 Eb.M/\bD pX 28=true:=
  dW (T:=[]) (sc:=UG) (ms:=RG) (args:=HN) (aD:=Tt) (aB.nil) cL ajx tP fun x y h=>(alS aE x).trans (agX x y h)
def Og:aw:=⟨22,HO,akP,Tu,Ak⟩
def UH:bA:=
 (.seq
 (.ae false [
 oX 2 (.box 3 0),
 oX 3 (.box 3 1),
 oX 4 (.mv (.k (.one (.v (.bool) (false)))))])
 (.seq
 (.ae false [
 oX 5 (.ar 0 2),
 oX 6 (.load false 1 5),
 oX 7 (.ar 0 3),
 oX 8 (.load false 1 7),
 oX 9 (.call .ab 28 [6,8]),
 oX 10 (.mv 9),
 ⟨(some 11),.ar 1 2,(some (10,true))⟩,
 ⟨(some 12),.load false 1 11,(some (10,true))⟩,
 ⟨(some 13),.ar 1 3,(some (10,true))⟩,
 ⟨(some 14),.load false 1 13,(some (10,true))⟩,
 ⟨(some 15),.call .ab 28 [12,14],(some (10,true))⟩,
 oX 16 (.pick 10 15 (.k (.one (.v (.bool) (false))))),
 oX 17 (.mv 16),
 ⟨(some 18),.ar 2 2,(some (17,true))⟩,
 ⟨(some 19),.load false 1 18,(some (17,true))⟩,
 ⟨(some 20),.ar 2 3,(some (17,true))⟩,
 ⟨(some 21),.load false 1 20,(some (17,true))⟩,
 ⟨(some 22),.call .ab 28 [19,21],(some (17,true))⟩,
 oX 23 (.pick 17 22 (.k (.one (.v (.bool) (false))))),
 oX 4 (.mv 23)])
 .ret))
def RH:List bC:=[.tmp 4]
theorem alT (NN:Nat) (x:aS (ak.aR HO)):dN NN [Eb] UH RH HO Tu x=Gz NN x:=by kernel_rfl
theorem ajy:ct pX 22 UH.er RH 2=true:=by decide+kernel
theorem am6:du pX 22 Og.M/\bD pX 22=true:=
  dW (T:=[Eb]) (sc:=UH) (ms:=RH) (args:=HO) (aD:=Tu) (aB.cons abB<|aB.nil) cL ajy Ak fun x y h=>(alT aE x).trans (agY x y h)
def NL:aw:=⟨20,GZ,akb,SK,vB⟩
def TX:bA:=
 (.seq
 (.ae false [
 oX 1 (.box 2 0),
 oX 2 (.mv (.k (.one (.nil iX))))])
 (.seq
 (.seq
 (.ae false [
 oX 6 (.load true 2 1),
 oX 7 (.call .ab 21 [6]),
 oX 8 (.un .not 7)])
 (.cond 8
 (.seq
 (.ae false [
 oX 2 (.mv (.k (.one (.nil iX))))])
 .ret)
 .skip))
 (.seq
 (.ae false [
 oX 3 (.mv (.k (.one (.nil iX))))])
 (.seq
 (.seq
 (.ae false [
 oX 9 (.ar 1 1),
 oX 10 (.load false 1 9),
 oX 11 (.ar 1 1),
 oX 12 (.load false 1 11),
 oX 13 (.len 12),
 oX 14 (.bin .sub 13 (kX 1)),
 oX 15 (.slice 4 10 none (some 14)),
 oX 16 (.len 15),
 oX 17 (.mv (kX 0))])
 (.join ⟨[(3,.one (fX 500001 1))],[(500001,.row true .ab iX)]⟩ [500000,500001] [(false,3,0,500001,.ab,[])]
 (.block 0
 (.loop 0 ⟨[(3,.one (fX 500000 1)),(15,.one (.c (.v (.list gX)))),(16,sX),(17,sX)],[(500000,.row true .ab iX)]⟩ [1,5,24,25,500000] [(false,3,0,500000,.ab,[])]
 (.seq
 (.ae false [
 oX 18 (.bin .lss 17 16)])
 (.seq
 (.cond 18
 .skip
 (.exit 0))
 (.seq
 (.block 1
 (.seq
 (.ae false [
 oX 19 (.cb 4 15 17),
 oX 20 (.load true 4 19),
 oX 5 (.alloc [zX,zX,zX,.nil iX]),
 uX (.store 4 5 20)])
 (.ae false [
 oX 21 (.mv 3),
 oX 22 (.ar 2 5),
 oX 23 (.load false 1 22),
 oX 24 (.fC iX [23]),
 oX 25 (.append true iX 8 21 24),
 oX 3 (.mv 25)])))
 (.ae false [
 oX 26 (.bin .add 17 (kX 1)),
 oX 17 (.mv 26)]))))))))
 (.seq
 (.ae false [
 oX 27 (.mv 3),
 oX 2 (.mv 27)])
 .ret)))))
def QU:List bC:=[.tmp 2]
theorem ala (NN:Nat) (x:aS (ak.aR GZ)):dN NN [uk] TX QU GZ SK x=LR NN x:=by kernel_rfl
theorem aiQ:ct pX 20 TX.er QU 1=true:=by decide+kernel
theorem amB:du pX 20 NL.M/\bD pX 20=true:=
  dW (T:=[uk]) (sc:=TX) (ms:=QU) (args:=GZ) (aD:=SK) (aB.cons Kx<|aB.nil) cL aiQ vB fun x y h=>(ala aE x).trans (agf x y h)
def I7:aw:=⟨5,vN,akN,Ts,LJ⟩
def UF:bA:=
 (.seq
 (.ae false [
 oX 2 (.mv (.k (.one (.v (.bool) (false)))))])
 (.seq
 (.seq
 (.ae false [
 oX 10 (.mv 0),
 oX 11 (.len 10),
 oX 12 (.bin .gtr 11 (kX 1048576))])
 (.cond 12
 (.seq
 (.ae false [
 oX 2 (.mv (.k (.one (.v (.bool) (true)))))])
 .ret)
 .skip))
 (.seq
 (.ae false [
 oX 13 (.mv 0),
 oX 14 (.dZ 16 [13,(kX 0)]),
 oX 3 (.mv 14)])
 (.seq
 (.ae false [
 oX 15 (.mv 0),
 oX 16 (.dZ 17 [15,(kX 10)]),
 oX 4 (.mv 16)])
 (.seq
 (.ae false [
 oX 17 (.mv 0),
 oX 18 (.mv 3),
 oX 19 (.mv 4),
 oX 20 (.dZ 19 [17,(kX 30),18,19]),
 oX 5 (.alloc [zX,.nil gX]),
 uX (.store 2 5 20)])
 (.seq
 (.ae false [
 oX 21 (.load true 2 5),
 oX 22 (.call .ab 27 [21]),
 oX 6 (.alloc [zX,.nil gX]),
 uX (.store 2 6 22)])
 (.seq
 (.ae false [
 oX 23 (.load true 2 5),
 oX 24 (.call .ab 18 [23]),
 oX 7 (.alloc [.nil iX,.nil iX,.nil iX]),
 uX (.store 3 7 24)])
 (.seq
 (.ae false [
 oX 26 (.mv 3),
 oX 27 (.load true 3 7),
 oX 28 (.call .ab 10 [26,27]),
 oX 25 (.mv 28),
 oX 29 (.ext 0 25),
 oX 30 (.ext 1 25),
 oX 8 (.alloc [zX,.nil gX]),
 uX (.store 2 8 29),
 oX 9 (.mv 30)])
 (.seq
 (.ae true [
 oX 31 (.mv 9),
 oX 32 (.mv 31),
 ⟨(some 33),.load true 2 6,(some (32,true))⟩,
 ⟨(some 34),.call .ab 21 [33],(some (32,true))⟩,
 oX 35 (.pick 32 34 (.k (.one (.v (.bool) (false))))),
 oX 36 (.mv 35),
 ⟨(some 37),.load true 2 6,(some (36,true))⟩,
 ⟨(some 38),.call .ab 18 [37],(some (36,true))⟩,
 ⟨(some 39),.load true 3 7,(some (36,true))⟩,
 ⟨(some 40),.call .ab 22 [38,39],(some (36,true))⟩,
 oX 41 (.pick 36 40 (.k (.one (.v (.bool) (false))))),
 oX 42 (.mv 41),
 ⟨(some 43),.load true 2 6,(some (42,true))⟩,
 ⟨(some 44),.call .ab 20 [43],(some (42,true))⟩,
 ⟨(some 45),.load true 2 8,(some (42,true))⟩,
 ⟨(some 46),.call .ab 20 [45],(some (42,true))⟩,
 ⟨(some 47),.call .ab 28 [44,46],(some (42,true))⟩,
 oX 48 (.pick 42 47 (.k (.one (.v (.bool) (false))))),
 oX 2 (.mv 48)])
 .ret)))))))))
def RE:List bC:=[.tmp 2]
theorem alR (NN:Nat) (x:aS (ak.aR vN)):dN NN [On,Om,Ol,NP,NO,NM,uk,Og,NL,Eb] UF RE vN Ts x=Gx NN x:=by kernel_rfl
theorem ajw:ct pX 5 UF.er RE 1=true:=by decide+kernel
theorem am5:du pX 5 I7.M/\bD pX 5=true:=
  dW (T:=[On,Om,Ol,NP,NO,NM,uk,Og,NL,Eb]) (sc:=UF) (ms:=RE) (args:=vN) (aD:=Ts) (aB.jV ane<|aB.jV anc<|aB.jV anb<|aB.cons amE<|aB.cons amD<|aB.cons amC<|aB.cons Kx<|aB.cons am6<|aB.cons amB<|aB.cons abB<|aB.nil) cL ajw LJ fun x y h=>(alR aE x).trans (agW x y h)
end Go.Am
