/- A_ChainOf: the code of the functions of FnExactChainOf. No condition. -/
import Derived.Test.YtbgmbplglejidaaLChainOf
import Derived.Test.YtbgmbplglejidaaBr2
import Derived.KernelRfl
import Derived.Test.YtbgmbplglejidaaRows
import Derived.Test.YtbgmbplglejidaaTLen
set_option linter.unusedVariables false
set_option maxRecDepth 100000
namespace Go.Am
theorem bP:Go.Proofs.Try.prog.follows .mixedOrders=true:=by decide+kernel
noncomputable abbrev pX:=Go.Proofs.Try.prog
def oX (n:Nat) (x:cE):eY:=⟨some n,x,none⟩
def uX (x:cE):eY:=⟨none,x,none⟩
def kX (n:Int):cz:=.k (.one (.v (.int .i64) n))
def sX:iS:=.one (.c (.v (.int .i64)))
def iX:List Ty:=[.int .i64]
def lX:Ty:=.list iX
def gX:List Ty:=[.int .i64,.int .i64,.int .i64,lX]
def zX:SC:=.v (.int .i64) (0:Int)
def vX:dW:=.c (.v (.int .i64))
def fX (n k:Nat):dW:=.c (.full n k)
def rX (n:Nat):dW:=.c (.EP n 0)
instance tX (n:Nat):OfNat cz n:=⟨.t n⟩
def NV:au:=⟨34,GX,aln,Tq,sd⟩
def UT:bf:=
 (.seq
 (.aa false [
 oX 4 (.mv (kX 0))])
 (.seq
 (.aa false [
 oX 5 (.mv 1),
 oX 6 (.mv 0),
 oX 7 (.len 6),
 oX 8 (.bin .sub 5 7),
 oX 1 (.mv 8)])
 (.seq
 (.seq
 (.aa false [
 oX 9 (.mv 1),
 oX 10 (.bin .lss 9 (kX 0))])
 (.cond 10
 (.seq
 (.aa false [
 oX 4 (.mv (kX (-1)))])
 .ret)
 .skip))
 (.seq
 (.aa false [
 oX 11 (.mv 1),
 oX 4 (.mv 11)])
 .ret))))
def Rq:List bh:=[.tmp 4]
theorem amB (NN:Nat) (x:aQ (ai.aP GX)):cm NN [] UT Rq GX Tq x=LD NN x:=by kernel_rfl
theorem ajJ:bH pX 34 UT.er Rq 2=true:=by decide+kernel
theorem aoa:bV pX 34 NV.M/\bi pX 34=true:=
  cD (T:=[]) (sc:=UT) (ms:=Rq) (args:=GX) (aA:=Tq) (av.nil) bP ajJ sd fun x y h=>(amB az x).trans (agO x y h)
def NW:au:=⟨7,GY,alo,Tr,z3⟩
def UU:bf:=
 (.seq
 (.aa false [
 oX 2 (.box 3 0),
 oX 4 (.mv (kX 0))])
 (.seq
 (.aa false [
 oX 5 (.ao 0 2),
 oX 6 (.load false 1 5),
 oX 7 (.mv 1),
 oX 8 (.call .ab 34 [6,7]),
 oX 1 (.mv 8)])
 (.seq
 (.seq
 (.aa false [
 oX 9 (.mv 1),
 oX 10 (.bin .lss 9 (kX 0))])
 (.cond 10
 (.seq
 (.aa false [
 oX 4 (.mv (kX (-1)))])
 .ret)
 .skip))
 (.seq
 (.aa false [
 oX 11 (.ao 1 2),
 oX 12 (.load false 1 11),
 oX 13 (.mv 1),
 oX 14 (.call .ab 34 [12,13]),
 oX 1 (.mv 14)])
 (.seq
 (.seq
 (.aa false [
 oX 15 (.mv 1),
 oX 16 (.bin .lss 15 (kX 0))])
 (.cond 16
 (.seq
 (.aa false [
 oX 4 (.mv (kX (-1)))])
 .ret)
 .skip))
 (.seq
 (.aa false [
 oX 17 (.ao 2 2),
 oX 18 (.load false 1 17),
 oX 19 (.mv 1),
 oX 20 (.call .ab 34 [18,19]),
 oX 1 (.mv 20)])
 (.seq
 (.seq
 (.aa false [
 oX 21 (.mv 1),
 oX 22 (.bin .lss 21 (kX 0))])
 (.cond 22
 (.seq
 (.aa false [
 oX 4 (.mv (kX (-1)))])
 .ret)
 .skip))
 (.seq
 (.aa false [
 oX 23 (.mv 1),
 oX 4 (.mv 23)])
 .ret))))))))
def Rr:List bh:=[.tmp 4]
theorem amC (NN:Nat) (x:aQ (ai.aP GY)):cm NN [NV] UU Rr GY Tr x=LF NN x:=by kernel_rfl
theorem ajK:bH pX 7 UU.er Rr 2=true:=by decide+kernel
theorem aob:bV pX 7 NW.M/\bi pX 7=true:=
  cD (T:=[NV]) (sc:=UU) (ms:=Rr) (args:=GY) (aA:=Tr) (av.cons aoa<|av.nil) bP ajK z3 fun x y h=>(amC az x).trans (agP x y h)
def NX:au:=⟨42,GZ,alp,Ts,vq⟩
def UW:bf:=
 (.seq
 (.aa false [
 oX 2 (.mv (.k (.one (.nil iX))))])
 (.seq
 (.aa false [
 oX 5 (.mv 0),
 oX 6 (.len 5),
 oX 7 (.jC .ab iX 8 (0:Int) 6 6),
 oX 3 (.mv 7)])
 (.seq
 (.seq
 (.aa false [
 oX 4 (.mv (kX 0))])
 (.join ⟨[(3,.one (fX 500001 1))],[(500001,.row true .ab iX)]⟩ [500000,500001] [(false,3,0,500001,.ab,[])]
 (.block 0
 (.loop 0 ⟨[(0,.one (.c (.v (lX)))),(3,.one (fX 500000 1)),(4,sX)],[(500000,.row true .ab iX)]⟩ [7,500000] [(false,3,0,500000,.ab,[])]
 (.seq
 (.seq
 (.aa false [
 oX 8 (.mv 4),
 oX 9 (.mv 0),
 oX 10 (.len 9),
 oX 11 (.bin .lss 8 10)])
 (.cond 11
 .skip
 (.exit 0)))
 (.seq
 (.block 1
 (.aa false [
 oX 14 (.mv 3),
 oX 15 (.mv 4),
 oX 16 (.mv 0),
 oX 17 (.mv 4),
 oX 18 (.bm 1 16 17),
 oX 19 (.load false 1 18),
 oX 20 (.bm 1 14 15),
 uX (.store 1 20 19)]))
 (.aa false [
 oX 12 (.mv 4),
 oX 13 (.bin .add 12 (kX 1)),
 oX 4 (.mv 13)])))))))
 (.seq
 (.aa false [
 oX 21 (.mv 3),
 oX 2 (.mv 21)])
 .ret))))
def Rs:List bh:=[.tmp 2]
theorem amD (NN:Nat) (x:aQ (ai.aP GZ)):cm NN [] UW Rs GZ Ts x=LG NN x:=by kernel_rfl
theorem ajL:bH pX 42 UW.er Rs 1=true:=by decide+kernel
theorem aoc:bV pX 42 NX.M/\bi pX 42=true:=
  cD (T:=[]) (sc:=UW) (ms:=Rs) (args:=GZ) (aA:=Ts) (av.nil) bP ajL vq fun x y h=>(amD az x).trans (agQ x y h)
def NY:au:=⟨9,G0,alq,Tt,se⟩
def UX:bf:=
 (.seq
 (.aa false [
 oX 1 (.box 3 0),
 oX 2 (.alloc [.nil iX,.nil iX,.nil iX])])
 (.seq
 (.aa false [
 oX 3 (.alloc [.nil iX,.nil iX,.nil iX])])
 (.seq
 (.aa false [
 oX 4 (.ao 0 1),
 oX 5 (.load false 1 4),
 oX 6 (.call .ab 42 [5]),
 oX 7 (.ao 0 3),
 uX (.store 1 7 6)])
 (.seq
 (.aa false [
 oX 8 (.ao 1 1),
 oX 9 (.load false 1 8),
 oX 10 (.call .ab 42 [9]),
 oX 11 (.ao 1 3),
 uX (.store 1 11 10)])
 (.seq
 (.aa false [
 oX 12 (.ao 2 1),
 oX 13 (.load false 1 12),
 oX 14 (.call .ab 42 [13]),
 oX 15 (.ao 2 3),
 uX (.store 1 15 14)])
 (.seq
 (.aa false [
 oX 16 (.load true 3 3),
 uX (.store 3 2 16)])
 .ret))))))
def Rt:List bh:=[.cell 2 3 true]
theorem amE (NN:Nat) (x:aQ (ai.aP G0)):cm NN [NX] UX Rt G0 Tt x=LH NN x:=by kernel_rfl
theorem ajM:bH pX 9 UX.er Rt 1=true:=by decide+kernel
theorem aod:bV pX 9 NY.M/\bi pX 9=true:=
  cD (T:=[NX]) (sc:=UX) (ms:=Rt) (args:=G0) (aA:=Tt) (av.cons aoc<|av.nil) bP ajM se fun x y h=>(amE az x).trans (agR x y h)
def oN:au:=⟨36,Hf,alz,TG,gS⟩
def U8:bf:=
 (.seq
 (.aa false [
 oX 6 (.mv (.k (.one (.v (.bool) (false)))))])
 (.seq
 (.aa false [
 oX 7 (.mv 0),
 oX 8 (.mv 1),
 oX 9 (.bin .geq 7 8),
 oX 10 (.mv 9),
 ⟨(some 11),.mv 0,(some (10,true))⟩,
 ⟨(some 12),.mv 2,(some (10,true))⟩,
 ⟨(some 13),.bin .leq 11 12,(some (10,true))⟩,
 oX 14 (.pick 10 13 (.k (.one (.v (.bool) (false))))),
 oX 6 (.mv 14)])
 .ret))
def RH:List bh:=[.tmp 6]
theorem amP (NN:Nat) (x:aQ (ai.aP Hf)):cm NN [] U8 RH Hf TG x=LU NN x:=by kernel_rfl
theorem ajX:bH pX 36 U8.er RH 3=true:=by decide+kernel
theorem BQ:bV pX 36 oN.M/\bi pX 36=true:=
  cD (T:=[]) (sc:=U8) (ms:=RH) (args:=Hf) (aA:=TG) (av.nil) bP ajX gS fun x y h=>(amP az x).trans (ag2 x y h)
def Dy:au:=⟨109,Hk,alD,TK,tC⟩
def Vc:bf:=
 (.seq
 (.aa false [
 oX 4 (.mv (kX 0))])
 (.seq
 (.seq
 (.aa false [
 oX 7 (.mv 0),
 oX 8 (.len 7),
 oX 9 (.mv (kX 0))])
 (.join ⟨[],[]⟩ [] []
 (.block 0
 (.loop 0 ⟨[(1,sX),(7,.one (.c (.v (lX)))),(8,sX),(9,sX)],[]⟩ [] []
 (.seq
 (.aa false [
 oX 10 (.bin .lss 9 8)])
 (.seq
 (.cond 10
 .skip
 (.exit 0))
 (.seq
 (.block 1
 (.seq
 (.aa false [
 oX 11 (.mv 9),
 oX 12 (.bm 1 7 9),
 oX 13 (.load false 1 12),
 oX 5 (.mv 11),
 oX 6 (.mv 13)])
 (.seq
 (.aa false [
 oX 14 (.mv 6),
 oX 15 (.mv 1),
 oX 16 (.bin .eql 14 15)])
 (.cond 16
 (.seq
 (.aa false [
 oX 17 (.mv 5),
 oX 4 (.mv 17)])
 .ret)
 .skip))))
 (.aa false [
 oX 18 (.bin .add 9 (kX 1)),
 oX 9 (.mv 18)]))))))))
 (.seq
 (.aa false [
 oX 4 (.mv (kX (-1)))])
 .ret)))
def RN:List bh:=[.tmp 4]
theorem amT (NN:Nat) (x:aQ (ai.aP Hk)):cm NN [] Vc RN Hk TK x=LW NN x:=by kernel_rfl
theorem aj1:bH pX 109 Vc.er RN 2=true:=by decide+kernel
theorem abF:bV pX 109 Dy.M/\bi pX 109=true:=
  cD (T:=[]) (sc:=Vc) (ms:=RN) (args:=Hk) (aA:=TK) (av.nil) bP aj1 tC fun x y h=>(amT az x).trans (ag6 x y h)
def N9:au:=⟨108,Hj,alC,TJ,z8⟩
def Vb:bf:=
 (.seq
 (.aa false [
 oX 4 (.mv (.k (.one (.v (.bool) (false)))))])
 (.seq
 (.seq
 (.aa false [
 oX 7 (.mv 0),
 oX 8 (.len 7),
 oX 9 (.bin .gtr 8 (kX 12)),
 oX 10 (.mv 9),
 ⟨(some 11),.mv 0,(some (10,false))⟩,
 ⟨(some 12),.len 11,(some (10,false))⟩,
 ⟨(some 13),.mv 1,(some (10,false))⟩,
 ⟨(some 14),.len 13,(some (10,false))⟩,
 ⟨(some 15),.bin .neq 12 14,(some (10,false))⟩,
 oX 16 (.pick 10 (.k (.one (.v (.bool) (true)))) 15)])
 (.cond 16
 (.seq
 (.aa false [
 oX 4 (.mv (.k (.one (.v (.bool) (false)))))])
 .ret)
 .skip))
 (.seq
 (.seq
 (.aa false [
 oX 17 (.mv 0),
 oX 18 (.len 17),
 oX 19 (.mv (kX 0))])
 (.join ⟨[],[]⟩ [] []
 (.block 0
 (.loop 0 ⟨[(0,.one (.c (.v (lX)))),(1,.one (.c (.v (lX)))),(17,.one (.c (.v (lX)))),(18,sX),(19,sX)],[]⟩ [] []
 (.seq
 (.aa false [
 oX 20 (.bin .lss 19 18)])
 (.seq
 (.cond 20
 .skip
 (.exit 0))
 (.seq
 (.block 1
 (.seq
 (.aa false [
 oX 21 (.mv 19),
 oX 22 (.bm 1 17 19),
 oX 23 (.load false 1 22),
 oX 5 (.mv 21),
 oX 6 (.mv 23)])
 (.seq
 (.aa false [
 oX 24 (.mv 6),
 oX 25 (.call .ab 36 [24,(kX 0),(kX 99)]),
 oX 26 (.un .not 25),
 oX 27 (.mv 26),
 ⟨(some 28),.mv 1,(some (27,false))⟩,
 ⟨(some 29),.mv 5,(some (27,false))⟩,
 ⟨(some 30),.bm 1 28 29,(some (27,false))⟩,
 ⟨(some 31),.load false 1 30,(some (27,false))⟩,
 ⟨(some 32),.call .ab 36 [31,(kX 1),(kX 8)],(some (27,false))⟩,
 ⟨(some 33),.un .not 32,(some (27,false))⟩,
 oX 34 (.pick 27 (.k (.one (.v (.bool) (true)))) 33),
 oX 35 (.mv 34),
 ⟨(some 36),.mv 0,(some (35,false))⟩,
 ⟨(some 37),.mv 5,(some (35,false))⟩,
 ⟨(some 38),.slice 1 36 none (some 37),(some (35,false))⟩,
 ⟨(some 39),.mv 6,(some (35,false))⟩,
 ⟨(some 40),.call .ab 109 [38,39],(some (35,false))⟩,
 ⟨(some 41),.bin .geq 40 (kX 0),(some (35,false))⟩,
 oX 42 (.pick 35 (.k (.one (.v (.bool) (true)))) 41)])
 (.cond 42
 (.seq
 (.aa false [
 oX 4 (.mv (.k (.one (.v (.bool) (false)))))])
 .ret)
 .skip))))
 (.aa false [
 oX 43 (.bin .add 19 (kX 1)),
 oX 19 (.mv 43)]))))))))
 (.seq
 (.aa false [
 oX 4 (.mv (.k (.one (.v (.bool) (true)))))])
 .ret))))
def RM:List bh:=[.tmp 4]
theorem amS (NN:Nat) (x:aQ (ai.aP Hj)):cm NN [oN,Dy] Vb RM Hj TJ x=LV NN x:=by kernel_rfl
theorem aj0:bH pX 108 Vb.er RM 2=true:=by decide+kernel
theorem aoo:bV pX 108 N9.M/\bi pX 108=true:=
  cD (T:=[oN,Dy]) (sc:=Vb) (ms:=RM) (args:=Hj) (aA:=TJ) (av.cons BQ<|av.cons abF<|av.nil) bP aj0 z8 fun x y h=>(amS az x).trans (ag5 x y h)
def ud:au:=⟨39,Hq,alI,TP,oA⟩
def Vh:bf:=
 (.seq
 (.aa false [
 oX 4 (.mv (kX 0))])
 (.seq
 (.aa false [
 oX 5 (.mv (kX 1))])
 (.seq
 (.seq
 (.aa false [
 oX 8 (.mv 0),
 oX 9 (.len 8),
 oX 10 (.mv (kX 0))])
 (.join ⟨[(5,sX)],[]⟩ [] []
 (.block 0
 (.loop 0 ⟨[(1,sX),(5,sX),(8,.one (.c (.v (lX)))),(9,sX),(10,sX)],[]⟩ [] []
 (.seq
 (.aa false [
 oX 11 (.bin .lss 10 9)])
 (.seq
 (.cond 11
 .skip
 (.exit 0))
 (.seq
 (.block 1
 (.seq
 (.aa false [
 oX 12 (.bm 1 8 10),
 oX 13 (.load false 1 12),
 oX 7 (.mv 13)])
 (.aa false [
 oX 14 (.mv 5),
 oX 15 (.mv 7),
 oX 16 (.bin .mul 14 15),
 oX 17 (.mv 1),
 oX 18 (.bin .add 17 (kX 1)),
 oX 19 (.mm false 16 18),
 oX 5 (.mv 19)])))
 (.aa false [
 oX 20 (.bin .add 10 (kX 1)),
 oX 10 (.mv 20)]))))))))
 (.seq
 (.aa false [
 oX 21 (.mv 5),
 oX 4 (.mv 21)])
 .ret))))
def RS:List bh:=[.tmp 4]
theorem amY (NN:Nat) (x:aQ (ai.aP Hq)):cm NN [] Vh RS Hq TP x=L4 NN x:=by kernel_rfl
theorem aj6:bH pX 39 Vh.er RS 2=true:=by decide+kernel
theorem JV:bV pX 39 ud.M/\bi pX 39=true:=
  cD (T:=[]) (sc:=Vh) (ms:=RS) (args:=Hq) (aA:=TP) (av.nil) bP aj6 oA fun x y h=>(amY az x).trans (ahb x y h)
def N7:au:=⟨78,He,aly,TF,vw⟩
def U7:bf:=
 (.seq
 (.aa false [
 oX 1 (.box 3 0),
 oX 2 (.mv (kX 0))])
 (.seq
 (.seq
 (.aa false [
 oX 4 (.ao 0 1),
 oX 5 (.load false 1 4),
 oX 6 (.ao 1 1),
 oX 7 (.load false 1 6),
 oX 8 (.call .ab 108 [5,7]),
 oX 9 (.un .not 8)])
 (.cond 9
 (.seq
 (.aa false [
 oX 2 (.mv (kX (-1)))])
 .ret)
 .skip))
 (.seq
 (.aa false [
 oX 10 (.ao 1 1),
 oX 11 (.load false 1 10),
 oX 12 (.call .ab 39 [11,(kX 4096)]),
 oX 3 (.mv 12)])
 (.seq
 (.seq
 (.aa false [
 oX 13 (.mv 3),
 oX 14 (.bin .gtr 13 (kX 4096))])
 (.cond 14
 (.seq
 (.aa false [
 oX 2 (.mv (kX (-1)))])
 .ret)
 .skip))
 (.seq
 (.aa false [
 oX 15 (.mv 3),
 oX 2 (.mv 15)])
 .ret)))))
def RG:List bh:=[.tmp 2]
theorem amO (NN:Nat) (x:aQ (ai.aP He)):cm NN [N9,ud] U7 RG He TF x=LS NN x:=by kernel_rfl
theorem ajW:bH pX 78 U7.er RG 1=true:=by decide+kernel
theorem aom:bV pX 78 N7.M/\bi pX 78=true:=
  cD (T:=[N9,ud]) (sc:=U7) (ms:=RG) (args:=He) (aA:=TF) (av.cons aoo<|av.cons JV<|av.nil) bP ajW vw fun x y h=>(amO az x).trans (ag1 x y h)
def Du:au:=⟨86,G9,alu,TA,sf⟩
def U3:bf:=
 (.seq
 (.aa false [
 oX 2 (.mv (.k (.one (.v (.bool) (false)))))])
 (.seq
 (.seq
 (.aa false [
 oX 3 (.mv (kX 2))])
 (.join ⟨[(0,sX)],[]⟩ [] []
 (.block 0
 (.loop 0 ⟨[(0,sX),(3,sX)],[]⟩ [] []
 (.seq
 (.seq
 (.aa false [
 oX 4 (.mv 3),
 oX 5 (.mv 3),
 oX 6 (.bin .mul 4 5),
 oX 7 (.mv 0),
 oX 8 (.bin .leq 6 7),
 oX 9 (.mv 8),
 ⟨(some 10),.mv 0,(some (9,true))⟩,
 ⟨(some 11),.bin .leq 10 (kX 1000003),(some (9,true))⟩,
 oX 12 (.pick 9 11 (.k (.one (.v (.bool) (false)))))])
 (.cond 12
 .skip
 (.exit 0)))
 (.seq
 (.block 1
 (.seq
 (.aa false [
 oX 15 (.mv 0),
 oX 16 (.mv 3),
 oX 17 (.bin .rem 15 16),
 oX 18 (.bin .eql 17 (kX 0))])
 (.cond 18
 (.seq
 (.aa false [
 oX 2 (.mv (.k (.one (.v (.bool) (false)))))])
 .ret)
 .skip)))
 (.aa false [
 oX 13 (.mv 3),
 oX 14 (.bin .add 13 (kX 1)),
 oX 3 (.mv 14)])))))))
 (.seq
 (.aa false [
 oX 19 (.mv 0),
 oX 20 (.call .ab 36 [19,(kX 2),(kX 1000003)]),
 oX 2 (.mv 20)])
 .ret)))
def RB:List bh:=[.tmp 2]
theorem amK (NN:Nat) (x:aQ (ai.aP G9)):cm NN [oN] U3 RB G9 TA x=LO NN x:=by kernel_rfl
theorem ajS:bH pX 86 U3.er RB 1=true:=by decide+kernel
theorem abC:bV pX 86 Du.M/\bi pX 86=true:=
  cD (T:=[oN]) (sc:=U3) (ms:=RB) (args:=G9) (aA:=TA) (av.cons BQ<|av.nil) bP ajS sf fun x y h=>(amK az x).trans (agX x y h)
def N5:au:=⟨79,Ha,alv,TB,z7⟩
def U4:bf:=
 (.seq
 (.aa false [
 oX 1 (.box 3 0),
 oX 2 (.mv (.k (.one (.v (.bool) (false)))))])
 (.seq
 (.seq
 (.aa false [
 oX 3 (.ao 0 1),
 oX 4 (.load false 1 3)])
 (.block 0
 (.seq
 (.aa false [
 oX 6 (.bin .eql 4 (kX 1)),
 oX 5 (.mv 6)])
 (.cond 5
 (.seq
 (.aa false [
 oX 7 (.ao 1 1),
 oX 8 (.load false 1 7),
 oX 9 (.bin .eql 8 (kX 0)),
 oX 10 (.mv 9),
 ⟨(some 11),.ao 2 1,(some (10,true))⟩,
 ⟨(some 12),.load false 1 11,(some (10,true))⟩,
 ⟨(some 13),.bin .eql 12 (kX 0),(some (10,true))⟩,
 oX 14 (.pick 10 13 (.k (.one (.v (.bool) (false))))),
 oX 2 (.mv 14)])
 .ret)
 (.seq
 (.aa false [
 oX 16 (.bin .eql 4 (kX 2)),
 oX 15 (.mv 16)])
 (.cond 15
 (.seq
 (.aa false [
 oX 17 (.ao 1 1),
 oX 18 (.load false 1 17),
 oX 19 (.call .ab 86 [18]),
 oX 20 (.mv 19),
 ⟨(some 21),.ao 2 1,(some (20,true))⟩,
 ⟨(some 22),.load false 1 21,(some (20,true))⟩,
 ⟨(some 23),.bin .eql 22 (kX 0),(some (20,true))⟩,
 oX 24 (.pick 20 23 (.k (.one (.v (.bool) (false))))),
 oX 2 (.mv 24)])
 .ret)
 (.seq
 (.seq
 (.aa false [
 oX 26 (.bin .eql 4 (kX 3)),
 oX 25 (.mv 26)])
 (.join ⟨[(25,.one (.c (.v (.bool)))),(4,sX),(1,.one (rX 1))],[(1,.box [vX,vX,vX])]⟩ [1] []
 (.cond 25
 .skip
 (.seq
 (.aa false [
 oX 27 (.bin .eql 4 (kX 4)),
 oX 25 (.mv 27)])
 (.cond 25
 .skip
 (.aa false [
 oX 28 (.bin .eql 4 (kX 5)),
 oX 25 (.mv 28)]))))))
 (.cond 25
 (.seq
 (.aa false [
 oX 29 (.ao 1 1),
 oX 30 (.load false 1 29),
 oX 31 (.call .ab 36 [30,(kX 1),(kX 1000000)]),
 oX 32 (.mv 31),
 ⟨(some 33),.ao 2 1,(some (32,true))⟩,
 ⟨(some 34),.load false 1 33,(some (32,true))⟩,
 ⟨(some 35),.bin .eql 34 (kX 0),(some (32,true))⟩,
 oX 36 (.pick 32 35 (.k (.one (.v (.bool) (false))))),
 oX 2 (.mv 36)])
 .ret)
 (.seq
 (.aa false [
 oX 38 (.bin .eql 4 (kX 6)),
 oX 37 (.mv 38)])
 (.cond 37
 (.seq
 (.aa false [
 oX 39 (.ao 1 1),
 oX 40 (.load false 1 39),
 oX 41 (.bin .eql 40 (kX 0)),
 oX 42 (.mv 41),
 ⟨(some 43),.ao 2 1,(some (42,true))⟩,
 ⟨(some 44),.load false 1 43,(some (42,true))⟩,
 ⟨(some 45),.call .ab 36 [44,(kX 1),(kX 20)],(some (42,true))⟩,
 oX 46 (.pick 42 45 (.k (.one (.v (.bool) (false))))),
 oX 2 (.mv 46)])
 .ret)
 (.seq
 (.aa false [
 oX 48 (.bin .eql 4 (kX 7)),
 oX 47 (.mv 48)])
 (.cond 47
 (.seq
 (.aa false [
 oX 49 (.ao 1 1),
 oX 50 (.load false 1 49),
 oX 51 (.call .ab 86 [50]),
 oX 52 (.mv 51),
 ⟨(some 53),.ao 2 1,(some (52,true))⟩,
 ⟨(some 54),.load false 1 53,(some (52,true))⟩,
 ⟨(some 55),.call .ab 36 [54,(kX 1),(kX 6)],(some (52,true))⟩,
 oX 56 (.pick 52 55 (.k (.one (.v (.bool) (false))))),
 oX 2 (.mv 56)])
 .ret)
 (.seq
 (.aa false [
 oX 58 (.bin .eql 4 (kX 8)),
 oX 57 (.mv 58)])
 (.cond 57
 (.seq
 (.aa false [
 oX 59 (.ao 1 1),
 oX 60 (.load false 1 59),
 oX 61 (.call .ab 86 [60]),
 oX 62 (.mv 61),
 ⟨(some 63),.ao 1 1,(some (62,true))⟩,
 ⟨(some 64),.load false 1 63,(some (62,true))⟩,
 ⟨(some 65),.bin .gtr 64 (kX 2),(some (62,true))⟩,
 oX 66 (.pick 62 65 (.k (.one (.v (.bool) (false))))),
 oX 67 (.mv 66),
 ⟨(some 68),.ao 2 1,(some (67,true))⟩,
 ⟨(some 69),.load false 1 68,(some (67,true))⟩,
 ⟨(some 70),.bin .eql 69 (kX 0),(some (67,true))⟩,
 oX 71 (.pick 67 70 (.k (.one (.v (.bool) (false))))),
 oX 2 (.mv 71)])
 .ret)
 .skip))))))))))))))
 (.seq
 (.aa false [
 oX 2 (.mv (.k (.one (.v (.bool) (false)))))])
 .ret)))
def RD:List bh:=[.tmp 2]
theorem amL (NN:Nat) (x:aQ (ai.aP Ha)):cm NN [Du,oN] U4 RD Ha TB x=LP NN x:=by kernel_rfl
theorem ajT:bH pX 79 U4.er RD 1=true:=by decide+kernel
theorem aok:bV pX 79 N5.M/\bi pX 79=true:=
  cD (T:=[Du,oN]) (sc:=U4) (ms:=RD) (args:=Ha) (aA:=TB) (av.cons abC<|av.cons BQ<|av.nil) bP ajT z7 fun x y h=>(amL az x).trans (agY x y h)
def Dx:au:=⟨80,Hi,alB,TI,xI⟩
def Va:bf:=
 (.seq
 (.aa false [
 oX 1 (.box 3 0),
 oX 2 (.mv (kX 0))])
 (.seq
 (.seq
 (.aa false [
 oX 3 (.ao 0 1),
 oX 4 (.load false 1 3)])
 (.block 0
 (.seq
 (.aa false [
 oX 6 (.bin .eql 4 (kX 7)),
 oX 5 (.mv 6)])
 (.cond 5
 (.seq
 (.aa false [
 oX 7 (.ao 2 1),
 oX 8 (.load false 1 7),
 oX 2 (.mv 8)])
 .ret)
 (.seq
 (.aa false [
 oX 10 (.bin .eql 4 (kX 8)),
 oX 9 (.mv 10)])
 (.cond 9
 (.seq
 (.aa false [
 oX 2 (.mv (kX 4))])
 .ret)
 .skip))))))
 (.seq
 (.aa false [
 oX 2 (.mv (kX 1))])
 .ret)))
def RL:List bh:=[.tmp 2]
theorem amR (NN:Nat) (x:aQ (ai.aP Hi)):cm NN [] Va RL Hi TI x=WR NN x:=by kernel_rfl
theorem ajZ:bH pX 80 Va.er RL 1=true:=by decide+kernel
theorem abE:bV pX 80 Dx.M/\bi pX 80=true:=
  cD (T:=[]) (sc:=Va) (ms:=RL) (args:=Hi) (aA:=TI) (av.nil) bP ajZ xI fun x y h=>(amR az x).trans (ag4 x y h)
def N8:au:=⟨81,Hh,alA,TH,CH⟩
def U9:bf:=
 (.seq
 (.aa false [
 oX 1 (.box 3 0),
 oX 2 (.mv (kX 0))])
 (.seq
 (.seq
 (.aa false [
 oX 3 (.ao 0 1),
 oX 4 (.load false 1 3)])
 (.block 0
 (.seq
 (.aa false [
 oX 6 (.bin .eql 4 (kX 1)),
 oX 5 (.mv 6)])
 (.cond 5
 (.seq
 (.aa false [
 oX 2 (.mv (kX 1))])
 .ret)
 (.seq
 (.seq
 (.aa false [
 oX 8 (.bin .eql 4 (kX 3)),
 oX 7 (.mv 8)])
 (.join ⟨[(7,.one (.c (.v (.bool)))),(4,sX),(1,.one (rX 1))],[(1,.box [vX,vX,vX])]⟩ [1] []
 (.cond 7
 .skip
 (.seq
 (.aa false [
 oX 9 (.bin .eql 4 (kX 4)),
 oX 7 (.mv 9)])
 (.cond 7
 .skip
 (.aa false [
 oX 10 (.bin .eql 4 (kX 5)),
 oX 7 (.mv 10)]))))))
 (.cond 7
 (.seq
 (.aa false [
 oX 11 (.ao 1 1),
 oX 12 (.load false 1 11),
 oX 2 (.mv 12)])
 .ret)
 (.seq
 (.aa false [
 oX 14 (.bin .eql 4 (kX 6)),
 oX 13 (.mv 14)])
 (.cond 13
 (.seq
 (.aa false [
 oX 15 (.ao 2 1),
 oX 16 (.load false 1 15),
 oX 17 (.bin .shl (kX 1) 16),
 oX 18 (.bin .sub 17 (kX 1)),
 oX 2 (.mv 18)])
 .ret)
 .skip))))))))
 (.seq
 (.aa false [
 oX 19 (.ao 1 1),
 oX 20 (.load false 1 19),
 oX 21 (.bin .sub 20 (kX 1)),
 oX 2 (.mv 21)])
 .ret)))
def RJ:List bh:=[.tmp 2]
theorem amQ (NN:Nat) (x:aQ (ai.aP Hh)):cm NN [] U9 RJ Hh TH x=WQ NN x:=by kernel_rfl
theorem ajY:bH pX 81 U9.er RJ 1=true:=by decide+kernel
theorem aon:bV pX 81 N8.M/\bi pX 81=true:=
  cD (T:=[]) (sc:=U9) (ms:=RJ) (args:=Hh) (aA:=TH) (av.nil) bP ajY CH fun x y h=>(amQ az x).trans (ag3 x y h)
def Dw:au:=⟨35,Hd,alx,TE,si⟩
def U6:bf:=
 (.seq
 (.aa false [
 oX 2 (.box 3 0),
 oX 3 (.box 3 1),
 oX 4 (.mv (.k (.one (.v (.bool) (false)))))])
 (.seq
 (.aa false [
 oX 8 (.load true 3 3),
 oX 9 (.call .ab 78 [8]),
 oX 5 (.mv 9)])
 (.seq
 (.seq
 (.aa true [
 oX 10 (.load true 3 2),
 oX 11 (.call .ab 79 [10]),
 oX 12 (.un .not 11),
 oX 13 (.mv 12),
 ⟨(some 14),.mv 5,(some (13,false))⟩,
 ⟨(some 15),.bin .lss 14 (kX 0),(some (13,false))⟩,
 oX 16 (.pick 13 (.k (.one (.v (.bool) (true)))) 15),
 oX 17 (.mv 16),
 ⟨(some 18),.ao 2 3,(some (17,false))⟩,
 ⟨(some 19),.load false 1 18,(some (17,false))⟩,
 ⟨(some 20),.len 19,(some (17,false))⟩,
 ⟨(some 21),.mv 5,(some (17,false))⟩,
 ⟨(some 22),.load true 3 2,(some (17,false))⟩,
 ⟨(some 23),.call .ab 80 [22],(some (17,false))⟩,
 ⟨(some 24),.bin .mul 21 23,(some (17,false))⟩,
 ⟨(some 25),.bin .neq 20 24,(some (17,false))⟩,
 oX 26 (.pick 17 (.k (.one (.v (.bool) (true)))) 25)])
 (.cond 26
 (.seq
 (.aa false [
 oX 4 (.mv (.k (.one (.v (.bool) (false)))))])
 .ret)
 .skip))
 (.seq
 (.seq
 (.aa false [
 oX 27 (.ao 2 3),
 oX 28 (.load false 1 27),
 oX 29 (.len 28),
 oX 30 (.mv (kX 0))])
 (.join ⟨[],[]⟩ [2] []
 (.block 0
 (.loop 0 ⟨[(2,.one (rX 2)),(28,.one (.c (.v (lX)))),(29,sX),(30,sX)],[(2,.box [vX,vX,vX])]⟩ [2,3] []
 (.seq
 (.aa false [
 oX 31 (.bin .lss 30 29)])
 (.seq
 (.cond 31
 .skip
 (.exit 0))
 (.seq
 (.block 1
 (.seq
 (.aa false [
 oX 32 (.bm 1 28 30),
 oX 33 (.load false 1 32),
 oX 7 (.mv 33)])
 (.seq
 (.aa false [
 oX 34 (.mv 7),
 oX 35 (.load true 3 2),
 oX 36 (.call .ab 81 [35]),
 oX 37 (.call .ab 36 [34,(kX 0),36]),
 oX 38 (.un .not 37)])
 (.cond 38
 (.seq
 (.aa false [
 oX 4 (.mv (.k (.one (.v (.bool) (false)))))])
 .ret)
 .skip))))
 (.aa false [
 oX 39 (.bin .add 30 (kX 1)),
 oX 30 (.mv 39)]))))))))
 (.seq
 (.aa false [
 oX 4 (.mv (.k (.one (.v (.bool) (true)))))])
 .ret)))))
def RF:List bh:=[.tmp 4]
theorem amN (NN:Nat) (x:aQ (ai.aP Hd)):cm NN [N7,N5,Dx,N8,oN] U6 RF Hd TE x=LR NN x:=by kernel_rfl
theorem ajV:bH pX 35 U6.er RF 2=true:=by decide+kernel
theorem abD:bV pX 35 Dw.M/\bi pX 35=true:=
  cD (T:=[N7,N5,Dx,N8,oN]) (sc:=U6) (ms:=RF) (args:=Hd) (aA:=TE) (av.cons aom<|av.cons aok<|av.cons abE<|av.cons aon<|av.cons BQ<|av.nil) bP ajV si fun x y h=>(amN az x).trans (ag0 x y h)
def rn:au:=⟨38,Ho,alG,TN,nG⟩
def Vf:bf:=
 (.seq
 (.aa false [
 oX 2 (.mv (.k (.one (.nil iX))))])
 (.seq
 (.aa false [
 oX 3 (.e7 iX []),
 oX 4 (.mv 0),
 oX 5 (.append true iX 8 3 4),
 oX 2 (.mv 5)])
 .ret))
def RQ:List bh:=[.tmp 2]
theorem amW (NN:Nat) (x:aQ (ai.aP Ho)):cm NN [] Vf RQ Ho TN x=LZ NN x:=by kernel_rfl
theorem aj4:bH pX 38 Vf.er RQ 1=true:=by decide+kernel
theorem EK:bV pX 38 rn.M/\bi pX 38=true:=
  cD (T:=[]) (sc:=Vf) (ms:=RQ) (args:=Ho) (aA:=TN) (av.nil) bP aj4 nG fun x y h=>(amW az x).trans (ag9 x y h)
def Oe:au:=⟨83,Hs,alK,TR,sj⟩
def Vj:bf:=
 (.seq
 (.aa false [
 oX 2 (.mv (.k (.one (.nil iX))))])
 (.seq
 (.aa false [
 oX 7 (.mv 0),
 oX 8 (.call .ab 38 [7]),
 oX 3 (.mv 8)])
 (.seq
 (.seq
 (.aa false [
 oX 9 (.mv 3),
 oX 10 (.len 9),
 oX 11 (.mv (kX 0))])
 (.join ⟨[(3,.one (fX 500003 1))],[(500003,.row true .ab iX)]⟩ [500000,500003] [(false,3,0,500003,.ab,[])]
 (.block 0
 (.loop 0 ⟨[(3,.one (fX 500000 1)),(10,sX),(11,sX)],[(500000,.row true .ab iX)]⟩ [9000,500000,500002] [(false,3,0,500000,.ab,[])]
 (.seq
 (.aa false [
 oX 12 (.bin .lss 11 10)])
 (.seq
 (.cond 12
 .skip
 (.exit 0))
 (.seq
 (.join ⟨[(11,sX),(3,.one (fX 500002 1)),(10,sX)],[(500002,.row true .ab iX)]⟩ [500001,500002] [(false,3,0,500002,.ab,[])]
 (.block 1
 (.seq
 (.aa false [
 oX 13 (.mv 11),
 oX 4 (.mv 13)])
 (.seq
 (.aa false [
 oX 14 (.mv 4),
 oX 5 (.mv 14)])
 (.block 2
 (.loop 0 ⟨[(3,.one (fX 500001 1)),(5,sX),(10,sX),(11,sX)],[(500001,.row true .ab iX)]⟩ [500000,500001] [(false,3,0,500001,.ab,[])]
 (.seq
 (.seq
 (.aa true [
 oX 15 (.mv 5),
 oX 16 (.bin .gtr 15 (kX 0)),
 oX 17 (.mv 16),
 ⟨(some 18),.mv 3,(some (17,true))⟩,
 ⟨(some 19),.mv 5,(some (17,true))⟩,
 ⟨(some 20),.bin .sub 19 (kX 1),(some (17,true))⟩,
 ⟨(some 21),.bm 1 18 20,(some (17,true))⟩,
 ⟨(some 22),.load false 1 21,(some (17,true))⟩,
 ⟨(some 23),.mv 3,(some (17,true))⟩,
 ⟨(some 24),.mv 5,(some (17,true))⟩,
 ⟨(some 25),.bm 1 23 24,(some (17,true))⟩,
 ⟨(some 26),.load false 1 25,(some (17,true))⟩,
 ⟨(some 27),.bin .gtr 22 26,(some (17,true))⟩,
 oX 28 (.pick 17 27 (.k (.one (.v (.bool) (false)))))])
 (.cond 28
 .skip
 (.exit 2)))
 (.seq
 (.block 3
 (.seq
 (.aa false [
 oX 31 (.mv 3),
 oX 32 (.mv 5),
 oX 33 (.bm 1 31 32),
 oX 34 (.load false 1 33),
 oX 6 (.mv 34)])
 (.seq
 (.aa false [
 oX 35 (.mv 3),
 oX 36 (.mv 5),
 oX 37 (.mv 3),
 oX 38 (.mv 5),
 oX 39 (.bin .sub 38 (kX 1)),
 oX 40 (.bm 1 37 39),
 oX 41 (.load false 1 40),
 oX 42 (.bm 1 35 36),
 uX (.store 1 42 41)])
 (.aa false [
 oX 43 (.mv 3),
 oX 44 (.mv 5),
 oX 45 (.bin .sub 44 (kX 1)),
 oX 46 (.mv 6),
 oX 47 (.bm 1 43 45),
 uX (.store 1 47 46)]))))
 (.aa false [
 oX 29 (.mv 5),
 oX 30 (.bin .sub 29 (kX 1)),
 oX 5 (.mv 30)])))))))))
 (.aa false [
 oX 48 (.bin .add 11 (kX 1)),
 oX 11 (.mv 48)]))))))))
 (.seq
 (.aa false [
 oX 49 (.mv 3),
 oX 2 (.mv 49)])
 .ret))))
def RU:List bh:=[.tmp 2]
theorem am0 (NN:Nat) (x:aQ (ai.aP Hs)):cm NN [rn] Vj RU Hs TR x=L6 NN x:=by kernel_rfl
theorem aj8:bH pX 83 Vj.er RU 1=true:=by decide+kernel
theorem aot:bV pX 83 Oe.M/\bi pX 83=true:=
  cD (T:=[rn]) (sc:=Vj) (ms:=RU) (args:=Hs) (aA:=TR) (av.cons EK<|av.nil) bP aj8 sj fun x y h=>(am0 az x).trans (ahd x y h)
def Ob:au:=⟨110,Hm,alF,TM,z9⟩
def Ve:bf:=
 (.seq
 (.aa false [
 oX 4 (.mv (.k (.one (.nil iX))))])
 (.seq
 (.aa false [
 oX 7 (.mv 0),
 oX 8 (.len 7),
 oX 9 (.jC .ab iX 8 (0:Int) 8 8),
 oX 5 (.mv 9)])
 (.seq
 (.seq
 (.aa false [
 oX 10 (.mv 0),
 oX 11 (.len 10),
 oX 12 (.bin .sub 11 (kX 1)),
 oX 6 (.mv 12)])
 (.join ⟨[(5,.one (fX 500001 1))],[(500001,.row true .ab iX)]⟩ [500000,500001] [(false,5,0,500001,.ab,[])]
 (.block 0
 (.loop 0 ⟨[(0,.one (.c (.v (lX)))),(1,sX),(5,.one (fX 500000 1)),(6,sX)],[(500000,.row true .ab iX)]⟩ [9,500000] [(false,5,0,500000,.ab,[])]
 (.seq
 (.seq
 (.aa false [
 oX 13 (.mv 6),
 oX 14 (.bin .geq 13 (kX 0))])
 (.cond 14
 .skip
 (.exit 0)))
 (.seq
 (.block 1
 (.seq
 (.aa false [
 oX 17 (.mv 5),
 oX 18 (.mv 6),
 oX 19 (.mv 1),
 oX 20 (.mv 0),
 oX 21 (.mv 6),
 oX 22 (.bm 1 20 21),
 oX 23 (.load false 1 22),
 oX 24 (.bin .rem 19 23),
 oX 25 (.bm 1 17 18),
 uX (.store 1 25 24)])
 (.aa false [
 oX 26 (.mv 1),
 oX 27 (.mv 0),
 oX 28 (.mv 6),
 oX 29 (.bm 1 27 28),
 oX 30 (.load false 1 29),
 oX 31 (.bin .quo 26 30),
 oX 1 (.mv 31)])))
 (.aa false [
 oX 15 (.mv 6),
 oX 16 (.bin .sub 15 (kX 1)),
 oX 6 (.mv 16)])))))))
 (.seq
 (.aa false [
 oX 32 (.mv 5),
 oX 4 (.mv 32)])
 .ret))))
def RP:List bh:=[.tmp 4]
theorem amV (NN:Nat) (x:aQ (ai.aP Hm)):cm NN [] Ve RP Hm TM x=LY NN x:=by kernel_rfl
theorem aj3:bH pX 110 Ve.er RP 2=true:=by decide+kernel
theorem aoq:bV pX 110 Ob.M/\bi pX 110=true:=
  cD (T:=[]) (sc:=Ve) (ms:=RP) (args:=Hm) (aA:=TM) (av.nil) bP aj3 z9 fun x y h=>(amV az x).trans (ag8 x y h)
def Oc:au:=⟨112,Hp,alH,TO,Aa⟩
def Vg:bf:=
 (.seq
 (.aa false [
 oX 4 (.mv (kX 0))])
 (.seq
 (.aa false [
 oX 5 (.mv (kX 0))])
 (.seq
 (.seq
 (.aa false [
 oX 8 (.mv 0),
 oX 9 (.len 8),
 oX 10 (.mv (kX 0))])
 (.join ⟨[(5,sX)],[]⟩ [] []
 (.block 0
 (.loop 0 ⟨[(1,.one (.c (.v (lX)))),(5,sX),(8,.one (.c (.v (lX)))),(9,sX),(10,sX)],[]⟩ [] []
 (.seq
 (.aa false [
 oX 11 (.bin .lss 10 9)])
 (.seq
 (.cond 11
 .skip
 (.exit 0))
 (.seq
 (.block 1
 (.seq
 (.aa false [
 oX 12 (.mv 10),
 oX 13 (.bm 1 8 10),
 oX 14 (.load false 1 13),
 oX 6 (.mv 12),
 oX 7 (.mv 14)])
 (.aa false [
 oX 15 (.mv 5),
 oX 16 (.mv 7),
 oX 17 (.bin .mul 15 16),
 oX 18 (.mv 1),
 oX 19 (.mv 6),
 oX 20 (.bm 1 18 19),
 oX 21 (.load false 1 20),
 oX 22 (.bin .add 17 21),
 oX 5 (.mv 22)])))
 (.aa false [
 oX 23 (.bin .add 10 (kX 1)),
 oX 10 (.mv 23)]))))))))
 (.seq
 (.aa false [
 oX 24 (.mv 5),
 oX 4 (.mv 24)])
 .ret))))
def RR:List bh:=[.tmp 4]
theorem amX (NN:Nat) (x:aQ (ai.aP Hp)):cm NN [] Vg RR Hp TO x=L3 NN x:=by kernel_rfl
theorem aj5:bH pX 112 Vg.er RR 2=true:=by decide+kernel
theorem aor:bV pX 112 Oc.M/\bi pX 112=true:=
  cD (T:=[]) (sc:=Vg) (ms:=RR) (args:=Hp) (aA:=TO) (av.nil) bP aj5 Aa fun x y h=>(amX az x).trans (aha x y h)
def Oa:au:=⟨111,Hl,alE,TL,tD⟩
def Vd:bf:=
 (.seq
 (.aa false [
 oX 3 (.box 3 0),
 oX 4 (.box 3 1),
 oX 6 (.mv (.k (.one (.nil iX))))])
 (.seq
 (.aa false [
 oX 8 (.load true 3 3),
 oX 9 (.call .ab 80 [8]),
 oX 7 (.mv 9)])
 (.seq
 (.aa false [
 oX 10 (.e7 iX []),
 oX 11 (.ao 2 4),
 oX 12 (.load false 1 11),
 oX 13 (.mv 2),
 oX 14 (.mv 7),
 oX 15 (.bin .mul 13 14),
 oX 16 (.mv 2),
 oX 17 (.mv 7),
 oX 18 (.bin .mul 16 17),
 oX 19 (.mv 7),
 oX 20 (.bin .add 18 19),
 oX 21 (.slice 1 12 (some 15) (some 20)),
 oX 22 (.append true iX 8 10 21),
 oX 6 (.mv 22)])
 .ret)))
def RO:List bh:=[.tmp 6]
theorem amU (NN:Nat) (x:aQ (ai.aP Hl)):cm NN [Dx] Vd RO Hl TL x=LX NN x:=by kernel_rfl
theorem aj2:bH pX 111 Vd.er RO 3=true:=by decide+kernel
theorem aop:bV pX 111 Oa.M/\bi pX 111=true:=
  cD (T:=[Dx]) (sc:=Vd) (ms:=RO) (args:=Hl) (aA:=TL) (av.cons abE<|av.nil) bP aj2 tD fun x y h=>(amU az x).trans (ag7 x y h)
def Od:au:=⟨82,Hr,alJ,TQ,vz⟩
def Vi:bf:=
 (.seq
 (.aa false [
 oX 3 (.box 3 0),
 oX 4 (.box 3 1),
 oX 6 (.alloc [.nil iX,.nil iX,.nil iX])])
 (.seq
 (.aa false [
 oX 17 (.e7 iX []),
 oX 7 (.mv 17)])
 (.seq
 (.aa false [
 oX 18 (.e7 iX []),
 oX 8 (.mv 18)])
 (.seq
 (.seq
 (.aa false [
 oX 19 (.mv 2),
 oX 20 (.len 19),
 oX 21 (.mv (kX 0))])
 (.join ⟨[(2,.one (.c (.v (lX)))),(6,.one (rX 6)),(7,.one (fX 500008 1)),(4,.one (rX 4)),(3,.one (rX 3)),(8,.one (fX 500009 1))],[(3,.box [vX,vX,vX]),(4,.box [.c (.v (lX)),.c (.v (lX)),.c (.v (lX))]),(6,.box [fX 500005 1,fX 500006 1,fX 500007 1]),(500005,.row true .ab iX),(500006,.row true .ab iX),(500007,.row true .ab iX),(500008,.row true .ab iX),(500009,.row true .ab iX)]⟩ [3,4,6,500000,500001,500002,500003,500004,500005,500006,500007,500008,500009] [(true,6,0,500005,.ab,[]),(true,6,1,500006,.ab,[]),(true,6,2,500007,.ab,[]),(false,7,0,500008,.ab,[]),(false,8,0,500009,.ab,[])]
 (.block 0
 (.loop 0 ⟨[(2,.one (.c (.v (lX)))),(3,.one (rX 3)),(4,.one (rX 4)),(6,.one (rX 6)),(7,.one (fX 500003 1)),(8,.one (fX 500004 1)),(19,.one (.c (.v (lX)))),(20,sX),(21,sX)],[(3,.box [vX,vX,vX]),(4,.box [.c (.v (lX)),.c (.v (lX)),.c (.v (lX))]),(6,.box [fX 500000 1,fX 500001 1,fX 500002 1]),(500000,.row true .ab iX),(500001,.row true .ab iX),(500002,.row true .ab iX),(500003,.row true .ab iX),(500004,.row true .ab iX)]⟩ [3,4,6,17,18,31,32,39,40,500000,500001,500002,500003,500004] [(true,6,0,500000,.ab,[]),(true,6,1,500001,.ab,[]),(true,6,2,500002,.ab,[]),(false,7,0,500003,.ab,[]),(false,8,0,500004,.ab,[])]
 (.seq
 (.aa false [
 oX 22 (.bin .lss 21 20)])
 (.seq
 (.cond 22
 .skip
 (.exit 0))
 (.seq
 (.block 1
 (.seq
 (.aa false [
 oX 23 (.bm 1 19 21),
 oX 24 (.load false 1 23),
 oX 10 (.mv 24)])
 (.seq
 (.aa false [
 oX 25 (.ao 0 4),
 oX 26 (.load false 1 25),
 oX 27 (.mv 10),
 oX 28 (.call .ab 109 [26,27]),
 oX 11 (.mv 28)])
 (.seq
 (.aa false [
 oX 29 (.mv 8),
 oX 30 (.mv 11),
 oX 31 (.e7 iX [30]),
 oX 32 (.append true iX 8 29 31),
 oX 8 (.mv 32)])
 (.aa false [
 oX 33 (.mv 7),
 oX 34 (.ao 1 4),
 oX 35 (.load false 1 34),
 oX 36 (.mv 11),
 oX 37 (.bm 1 35 36),
 oX 38 (.load false 1 37),
 oX 39 (.e7 iX [38]),
 oX 40 (.append true iX 8 33 39),
 oX 7 (.mv 40)])))))
 (.aa false [
 oX 41 (.bin .add 21 (kX 1)),
 oX 21 (.mv 41)]))))))))
 (.seq
 (.aa false [
 oX 42 (.mv 2),
 oX 43 (.call .ab 38 [42]),
 oX 44 (.mv 7),
 oX 45 (.build [.nil iX,.nil iX,.nil iX] [(0,1,43),(1,1,44)]),
 oX 12 (.alloc [.nil iX,.nil iX,.nil iX]),
 uX (.store 3 12 45)])
 (.seq
 (.aa false [
 oX 46 (.mv 8),
 oX 47 (.len 46),
 oX 48 (.jC .ab iX 8 (0:Int) 47 47),
 oX 13 (.mv 48)])
 (.seq
 (.seq
 (.aa false [
 oX 14 (.mv (kX 0))])
 (.join ⟨[(12,.one (rX 12)),(6,.one (rX 6))],[(6,.box [fX 500043 1,fX 500044 1,fX 500045 1]),(12,.box [fX 500046 1,fX 500047 1,fX 500048 1]),(500043,.row true .ab iX),(500044,.row true .ab iX),(500045,.row true .ab iX),(500046,.row true .ab iX),(500047,.row true .ab iX),(500048,.row true .ab iX)]⟩ [3,4,6,12,500010,500011,500012,500013,500014,500015,500016,500017,500043,500044,500045,500046,500047,500048] [(true,6,0,500043,.ab,[]),(true,6,1,500044,.ab,[]),(true,6,2,500045,.ab,[]),(true,12,0,500046,.ab,[]),(true,12,1,500047,.ab,[]),(true,12,2,500048,.ab,[])]
 (.block 2
 (.loop 0 ⟨[(3,.one (rX 3)),(4,.one (rX 4)),(6,.one (rX 6)),(7,.one (fX 500014 1)),(8,.one (fX 500016 1)),(12,.one (rX 12)),(13,.one (fX 500017 1)),(14,sX)],[(3,.box [vX,vX,vX]),(4,.box [.c (.v (lX)),.c (.v (lX)),.c (.v (lX))]),(6,.box [fX 500010 1,fX 500011 1,fX 500012 1]),(12,.box [fX 500013 1,fX 500014 1,fX 500015 1]),(500010,.row true .ab iX),(500011,.row true .ab iX),(500012,.row true .ab iX),(500013,.row true .ab iX),(500014,.row true .ab iX),(500015,.row true .ab iX),(500016,.row true .ab iX),(500017,.row true .ab iX)]⟩ [3,4,6,44000,12,48,500005,500006,500007,500008,500009,500010,500011,500012,500013,500014,500015,500016,500017,500035,500036,500037,500038,500039,500040,500041,500042] [(true,6,0,500010,.ab,[]),(true,6,1,500011,.ab,[]),(true,6,2,500012,.ab,[]),(true,12,0,500013,.ab,[]),(true,12,1,500014,.ab,[]),(true,12,2,500015,.ab,[]),(false,8,0,500016,.ab,[]),(false,13,0,500017,.ab,[])]
 (.seq
 (.seq
 (.aa false [
 oX 49 (.mv 14),
 oX 50 (.mv 7),
 oX 51 (.call .ab 39 [50,(kX 4096)]),
 oX 52 (.bin .lss 49 51)])
 (.cond 52
 .skip
 (.exit 2)))
 (.seq
 (.join ⟨[(14,sX),(3,.one (rX 3)),(4,.one (rX 4)),(6,.one (rX 6)),(7,.one (fX 500039 1)),(8,.one (fX 500041 1)),(12,.one (rX 12)),(13,.one (fX 500042 1))],[(3,.box [vX,vX,vX]),(4,.box [.c (.v (lX)),.c (.v (lX)),.c (.v (lX))]),(6,.box [fX 500035 1,fX 500036 1,fX 500037 1]),(12,.box [fX 500038 1,fX 500039 1,fX 500040 1]),(500035,.row true .ab iX),(500036,.row true .ab iX),(500037,.row true .ab iX),(500038,.row true .ab iX),(500039,.row true .ab iX),(500040,.row true .ab iX),(500041,.row true .ab iX),(500042,.row true .ab iX)]⟩ [3,4,6,12,81000,81,500027,500028,500029,500030,500031,500033,500034,500035,500036,500037,500038,500039,500040,500041,500042] [(true,6,0,500035,.ab,[]),(true,6,1,500036,.ab,[]),(true,6,2,500037,.ab,[]),(true,12,0,500038,.ab,[]),(true,12,1,500039,.ab,[]),(true,12,2,500040,.ab,[]),(false,8,0,500041,.ab,[]),(false,13,0,500042,.ab,[])]
 (.block 3
 (.seq
 (.seq
 (.aa false [
 oX 55 (.mv 7),
 oX 56 (.mv 14),
 oX 57 (.call .ab 110 [55,56]),
 oX 58 (.len 57),
 oX 59 (.mv (kX 0))])
 (.join ⟨[(14,sX),(3,.one (rX 3)),(4,.one (rX 4)),(6,.one (rX 6)),(7,.one (fX 500031 1)),(8,.one (fX 500033 1)),(12,.one (rX 12)),(13,.one (fX 500034 1))],[(3,.box [vX,vX,vX]),(4,.box [.c (.v (lX)),.c (.v (lX)),.c (.v (lX))]),(6,.box [fX 500027 1,fX 500028 1,fX 500029 1]),(12,.box [fX 500030 1,fX 500031 1,fX 500032 1]),(500027,.row true .ab iX),(500028,.row true .ab iX),(500029,.row true .ab iX),(500030,.row true .ab iX),(500031,.row true .ab iX),(500032,.row true .ab iX),(500033,.row true .ab iX),(500034,.row true .ab iX)]⟩ [3,4,6,12,500018,500019,500020,500021,500022,500023,500024,500025,500026,500027,500028,500029,500030,500031,500032,500033,500034] [(true,6,0,500027,.ab,[]),(true,6,1,500028,.ab,[]),(true,6,2,500029,.ab,[]),(true,12,0,500030,.ab,[]),(true,12,1,500031,.ab,[]),(true,12,2,500032,.ab,[]),(false,8,0,500033,.ab,[]),(false,13,0,500034,.ab,[])]
 (.block 4
 (.loop 0 ⟨[(3,.one (rX 3)),(4,.one (rX 4)),(6,.one (rX 6)),(7,.one (fX 500022 1)),(8,.one (fX 500024 1)),(12,.one (rX 12)),(13,.one (fX 500025 1)),(14,sX),(57,.one (fX 500026 1)),(58,sX),(59,sX)],[(3,.box [vX,vX,vX]),(4,.box [.c (.v (lX)),.c (.v (lX)),.c (.v (lX))]),(6,.box [fX 500018 1,fX 500019 1,fX 500020 1]),(12,.box [fX 500021 1,fX 500022 1,fX 500023 1]),(500018,.row true .ab iX),(500019,.row true .ab iX),(500020,.row true .ab iX),(500021,.row true .ab iX),(500022,.row true .ab iX),(500023,.row true .ab iX),(500024,.row true .ab iX),(500025,.row true .ab iX),(500026,.row true .ab iX)]⟩ [3,4,6,12,58000,500010,500011,500012,500013,500014,500015,500016,500017,500018,500019,500020,500021,500022,500023,500024,500025,500026] [(true,6,0,500018,.ab,[]),(true,6,1,500019,.ab,[]),(true,6,2,500020,.ab,[]),(true,12,0,500021,.ab,[]),(true,12,1,500022,.ab,[]),(true,12,2,500023,.ab,[]),(false,8,0,500024,.ab,[]),(false,13,0,500025,.ab,[]),(false,57,0,500026,.ab,[])]
 (.seq
 (.aa false [
 oX 60 (.bin .lss 59 58)])
 (.seq
 (.cond 60
 .skip
 (.exit 4))
 (.seq
 (.block 5
 (.seq
 (.aa false [
 oX 61 (.mv 59),
 oX 62 (.bm 1 57 59),
 oX 63 (.load false 1 62),
 oX 15 (.mv 61),
 oX 16 (.mv 63)])
 (.aa false [
 oX 64 (.mv 13),
 oX 65 (.mv 8),
 oX 66 (.mv 15),
 oX 67 (.bm 1 65 66),
 oX 68 (.load false 1 67),
 oX 69 (.mv 16),
 oX 70 (.bm 1 64 68),
 uX (.store 1 70 69)])))
 (.aa false [
 oX 71 (.bin .add 59 (kX 1)),
 oX 59 (.mv 71)]))))))))
 (.aa true [
 oX 72 (.ao 2 12),
 oX 73 (.load false 1 72),
 oX 74 (.load true 3 3),
 oX 75 (.load true 3 4),
 oX 76 (.ao 1 4),
 oX 77 (.load false 1 76),
 oX 78 (.mv 13),
 oX 79 (.call .ab 112 [77,78]),
 oX 80 (.call .ab 111 [74,75,79]),
 oX 81 (.append true iX 8 73 80),
 oX 82 (.ao 2 12),
 uX (.store 1 82 81)]))))
 (.aa false [
 oX 53 (.mv 14),
 oX 54 (.bin .add 53 (kX 1)),
 oX 14 (.mv 54)])))))))
 (.seq
 (.aa false [
 oX 83 (.load true 3 12),
 uX (.store 3 6 83)])
 .ret))))))))
def RT:List bh:=[.cell 6 3 true]
theorem amZ (NN:Nat) (x:aQ (ai.aP Hr)):cm NN [Dy,rn,ud,Ob,Oc,Oa] Vi RT Hr TQ x=L5 NN x:=by kernel_rfl
theorem aj7:bH pX 82 Vi.er RT 3=true:=by decide+kernel
theorem aos:bV pX 82 Od.M/\bi pX 82=true:=
  cD (T:=[Dy,rn,ud,Ob,Oc,Oa]) (sc:=Vi) (ms:=RT) (args:=Hr) (aA:=TQ) (av.cons abF<|av.cons EK<|av.cons JV<|av.cons aoq<|av.cons aor<|av.cons aop<|av.nil) bP aj7 vz fun x y h=>(amZ az x).trans (ahc x y h)
def N6:au:=⟨37,Hc,alw,TC,vu⟩
def U5:bf:=
 (.seq
 (.aa false [
 oX 2 (.box 3 0),
 oX 3 (.box 3 1),
 oX 4 (.alloc [.nil iX,.nil iX,.nil iX])])
 (.seq
 (.seq
 (.aa false [
 oX 5 (.load true 3 2),
 oX 6 (.load true 3 3),
 oX 7 (.call .ab 35 [5,6]),
 oX 8 (.un .not 7)])
 (.cond 8
 (.seq
 (.aa false [
 oX 9 (.build [.nil iX,.nil iX,.nil iX] []),
 uX (.store 3 4 9)])
 .ret)
 .skip))
 (.seq
 (.aa true [
 oX 10 (.load true 3 2),
 oX 11 (.load true 3 3),
 oX 12 (.ao 0 3),
 oX 13 (.load false 1 12),
 oX 14 (.call .ab 83 [13]),
 oX 15 (.call .ab 82 [10,11,14]),
 uX (.store 3 4 15)])
 .ret)))
def RE:List bh:=[.cell 4 3 true]
theorem amM (NN:Nat) (x:aQ (ai.aP Hc)):cm NN [Dw,Oe,Od] U5 RE Hc TC x=LQ NN x:=by kernel_rfl
theorem ajU:bH pX 37 U5.er RE 2=true:=by decide+kernel
theorem aol:bV pX 37 N6.M/\bi pX 37=true:=
  cD (T:=[Dw,Oe,Od]) (sc:=U5) (ms:=RE) (args:=Hc) (aA:=TC) (av.cons abD<|av.cons aot<|av.cons aos<|av.nil) bP ajU vu fun x y h=>(amM az x).trans (agZ x y h)
def Oj:au:=⟨113,Hx,alO,TW,xL⟩
def Vo:bf:=
 (.seq
 (.aa false [
 oX 3 (.box 3 0),
 oX 6 (.mv (kX 0))])
 (.seq
 (.seq
 (.aa false [
 oX 8 (.mv 1),
 oX 7 (.mv 8)])
 (.join ⟨[],[]⟩ [3] []
 (.block 0
 (.loop 0 ⟨[(2,sX),(3,.one (rX 3)),(7,sX)],[(3,.box [vX,vX,.c (.v (lX))])]⟩ [3] []
 (.seq
 (.seq
 (.aa false [
 oX 9 (.mv 7),
 oX 10 (.ao 0 3),
 oX 11 (.load false 1 10),
 oX 12 (.bin .lss 9 11)])
 (.cond 12
 .skip
 (.exit 0)))
 (.seq
 (.block 1
 (.seq
 (.aa false [
 oX 15 (.ao 2 3),
 oX 16 (.load false 1 15),
 oX 17 (.mv 7),
 oX 18 (.ao 1 3),
 oX 19 (.load false 1 18),
 oX 20 (.bin .mul 17 19),
 oX 21 (.mv 2),
 oX 22 (.bin .add 20 21),
 oX 23 (.bm 1 16 22),
 oX 24 (.load false 1 23),
 oX 25 (.bin .neq 24 (kX 0))])
 (.cond 25
 (.seq
 (.aa false [
 oX 26 (.mv 7),
 oX 6 (.mv 26)])
 .ret)
 .skip)))
 (.aa false [
 oX 13 (.mv 7),
 oX 14 (.bin .add 13 (kX 1)),
 oX 7 (.mv 14)])))))))
 (.seq
 (.aa false [
 oX 6 (.mv (kX (-1)))])
 .ret)))
def R0:List bh:=[.tmp 6]
theorem am5 (NN:Nat) (x:aQ (ai.aP Hx)):cm NN [] Vo R0 Hx TW x=F0 NN x:=by kernel_rfl
theorem akd:bH pX 113 Vo.er R0 3=true:=by decide+kernel
theorem aoy:bV pX 113 Oj.M/\bi pX 113=true:=
  cD (T:=[]) (sc:=Vo) (ms:=R0) (args:=Hx) (aA:=TW) (av.nil) bP akd xL fun x y h=>(am5 az x).trans (ahh x y h)
def Ol:au:=⟨114,Hz,JJ,TY,sk⟩
def Vq:bf:=
 (.seq
 (.aa false [
 oX 3 (.box 3 0)])
 (.seq
 (.aa false [
 oX 6 (.mv (kX 0))])
 (.block 0
 (.loop 0 ⟨[(1,sX),(2,sX),(3,.one (rX 3)),(6,sX)],[(1000000,.row false .ab iX),(3,.box [vX,vX,fX 1000000 1])]⟩ [1000000,3,500000] [(true,3,2,500000,.ab,[])]
 (.seq
 (.seq
 (.aa false [
 oX 8 (.mv 6),
 oX 9 (.ao 1 3),
 oX 10 (.load false 1 9),
 oX 11 (.bin .lss 8 10)])
 (.cond 11
 .skip
 (.exit 0)))
 (.seq
 (.block 1
 (.seq
 (.aa false [
 oX 14 (.ao 2 3),
 oX 15 (.load false 1 14),
 oX 16 (.mv 1),
 oX 17 (.ao 1 3),
 oX 18 (.load false 1 17),
 oX 19 (.bin .mul 16 18),
 oX 20 (.mv 6),
 oX 21 (.bin .add 19 20),
 oX 22 (.bm 1 15 21),
 oX 23 (.load false 1 22),
 oX 7 (.mv 23)])
 (.seq
 (.aa true [
 oX 24 (.ao 2 3),
 oX 25 (.load false 1 24),
 oX 26 (.mv 1),
 oX 27 (.ao 1 3),
 oX 28 (.load false 1 27),
 oX 29 (.bin .mul 26 28),
 oX 30 (.mv 6),
 oX 31 (.bin .add 29 30),
 oX 32 (.ao 2 3),
 oX 33 (.load false 1 32),
 oX 34 (.mv 2),
 oX 35 (.ao 1 3),
 oX 36 (.load false 1 35),
 oX 37 (.bin .mul 34 36),
 oX 38 (.mv 6),
 oX 39 (.bin .add 37 38),
 oX 40 (.bm 1 33 39),
 oX 41 (.load false 1 40),
 oX 42 (.bm 1 25 31),
 uX (.store 1 42 41)])
 (.aa false [
 oX 43 (.ao 2 3),
 oX 44 (.load false 1 43),
 oX 45 (.mv 2),
 oX 46 (.ao 1 3),
 oX 47 (.load false 1 46),
 oX 48 (.bin .mul 45 47),
 oX 49 (.mv 6),
 oX 50 (.bin .add 48 49),
 oX 51 (.mv 7),
 oX 52 (.bm 1 44 50),
 uX (.store 1 52 51)]))))
 (.aa false [
 oX 12 (.mv 6),
 oX 13 (.bin .add 12 (kX 1)),
 oX 6 (.mv 13)])))))))
def R3:List bh:=[]
theorem am7 (NN:Nat) (x:aQ (ai.aP Hz)):nz NN [] Vq R3 Hz JJ TY x=F4 NN x:=by kernel_rfl
theorem akf:bH pX 114 Vq.er R3 3=true:=by decide+kernel
theorem aoA:kA pX 114 JJ Ol.MM/\bi pX 114=true:=
  pg (T:=[]) (sc:=Vq) (ms:=R3) (args:=Hz) (mu:=JJ) (aA:=TY) (av.nil) bP akf sk fun x y h=>(am7 az x).trans (ahj x y h)
def Oh:au:=⟨115,Hv,alM,TU,vA⟩
def Vm:bf:=
 (.seq
 (.aa false [
 oX 4 (.mv (kX 0))])
 (.seq
 (.aa false [
 oX 5 (.mv (kX 1))])
 (.seq
 (.seq
 (.aa false [
 oX 7 (.mv 0),
 oX 8 (.bin .sub 7 (kX 2)),
 oX 6 (.mv 8)])
 (.join ⟨[(5,sX)],[]⟩ [] []
 (.block 0
 (.loop 0 ⟨[(0,sX),(1,sX),(5,sX),(6,sX)],[]⟩ [] []
 (.seq
 (.seq
 (.aa false [
 oX 9 (.mv 6),
 oX 10 (.bin .gtr 9 (kX 0))])
 (.cond 10
 .skip
 (.exit 0)))
 (.seq
 (.block 1
 (.seq
 (.seq
 (.aa false [
 oX 13 (.mv 6),
 oX 14 (.bin .rem 13 (kX 2)),
 oX 15 (.bin .eql 14 (kX 1))])
 (.join ⟨[(1,sX),(6,sX),(0,sX),(5,sX)],[]⟩ [] []
 (.cond 15
 (.aa false [
 oX 16 (.mv 5),
 oX 17 (.mv 1),
 oX 18 (.bin .mul 16 17),
 oX 19 (.mv 0),
 oX 20 (.bin .rem 18 19),
 oX 5 (.mv 20)])
 .skip)))
 (.aa false [
 oX 21 (.mv 1),
 oX 22 (.mv 1),
 oX 23 (.bin .mul 21 22),
 oX 24 (.mv 0),
 oX 25 (.bin .rem 23 24),
 oX 1 (.mv 25)])))
 (.aa false [
 oX 11 (.mv 6),
 oX 12 (.bin .quo 11 (kX 2)),
 oX 6 (.mv 12)])))))))
 (.seq
 (.aa false [
 oX 26 (.mv 5),
 oX 4 (.mv 26)])
 .ret))))
def RY:List bh:=[.tmp 4]
theorem am3 (NN:Nat) (x:aQ (ai.aP Hv)):cm NN [] Vm RY Hv TU x=L7 NN x:=by kernel_rfl
theorem akb:bH pX 115 Vm.er RY 2=true:=by decide+kernel
theorem aow:bV pX 115 Oh.M/\bi pX 115=true:=
  cD (T:=[]) (sc:=Vm) (ms:=RY) (args:=Hv) (aA:=TU) (av.nil) bP akb vA fun x y h=>(am3 az x).trans (ahg x y h)
def Of:au:=⟨116,Ht,JI,TS,xJ⟩
def Vk:bf:=
 (.seq
 (.aa false [
 oX 6 (.box 3 1)])
 (.seq
 (.aa false [
 oX 10 (.mv (kX 0))])
 (.block 0
 (.loop 0 ⟨[(0,sX),(2,sX),(3,sX),(4,sX),(6,.one (rX 6)),(10,sX)],[(1000000,.row false .ab iX),(6,.box [vX,vX,fX 1000000 1])]⟩ [1000000,6,500000] [(true,6,2,500000,.ab,[])]
 (.seq
 (.seq
 (.aa false [
 oX 11 (.mv 10),
 oX 12 (.ao 1 6),
 oX 13 (.load false 1 12),
 oX 14 (.bin .lss 11 13)])
 (.cond 14
 .skip
 (.exit 0)))
 (.seq
 (.block 1
 (.aa true [
 oX 17 (.ao 2 6),
 oX 18 (.load false 1 17),
 oX 19 (.mv 2),
 oX 20 (.ao 1 6),
 oX 21 (.load false 1 20),
 oX 22 (.bin .mul 19 21),
 oX 23 (.mv 10),
 oX 24 (.bin .add 22 23),
 oX 25 (.ao 2 6),
 oX 26 (.load false 1 25),
 oX 27 (.mv 2),
 oX 28 (.ao 1 6),
 oX 29 (.load false 1 28),
 oX 30 (.bin .mul 27 29),
 oX 31 (.mv 10),
 oX 32 (.bin .add 30 31),
 oX 33 (.bm 1 26 32),
 oX 34 (.load false 1 33),
 oX 35 (.mv 0),
 oX 36 (.mv 4),
 oX 37 (.bin .sub 35 36),
 oX 38 (.ao 2 6),
 oX 39 (.load false 1 38),
 oX 40 (.mv 3),
 oX 41 (.ao 1 6),
 oX 42 (.load false 1 41),
 oX 43 (.bin .mul 40 42),
 oX 44 (.mv 10),
 oX 45 (.bin .add 43 44),
 oX 46 (.bm 1 39 45),
 oX 47 (.load false 1 46),
 oX 48 (.bin .mul 37 47),
 oX 49 (.bin .add 34 48),
 oX 50 (.mv 0),
 oX 51 (.bin .rem 49 50),
 oX 52 (.bm 1 18 24),
 uX (.store 1 52 51)]))
 (.aa false [
 oX 15 (.mv 10),
 oX 16 (.bin .add 15 (kX 1)),
 oX 10 (.mv 16)])))))))
def RW:List bh:=[]
theorem am1 (NN:Nat) (x:aQ (ai.aP Ht)):nz NN [] Vk RW Ht JI TS x=FX NN x:=by kernel_rfl
theorem aj9:bH pX 116 Vk.er RW 5=true:=by decide+kernel
theorem aou:kA pX 116 JI Of.MM/\bi pX 116=true:=
  pg (T:=[]) (sc:=Vk) (ms:=RW) (args:=Ht) (mu:=JI) (aA:=TS) (av.nil) bP aj9 xJ fun x y h=>(am1 az x).trans (ahe x y h)
def Ok:au:=⟨84,Hy,alP,TX,xM⟩
def Vp:bf:=
 (.seq
 (.aa false [
 oX 3 (.box 3 1),
 oX 4 (.alloc [zX,zX,.nil iX]),
 oX 5 (.mv (.k (.one (.nil iX)))),
 oX 6 (.mv (kX 0))])
 (.seq
 (.aa true [
 oX 17 (.ao 0 3),
 oX 18 (.load false 1 17),
 oX 19 (.ao 1 3),
 oX 20 (.load false 1 19),
 oX 21 (.ao 2 3),
 oX 22 (.load false 1 21),
 oX 23 (.call .ab 38 [22]),
 oX 24 (.build [zX,zX,.nil iX] [(0,1,18),(1,1,20),(2,1,23)]),
 oX 7 (.alloc [zX,zX,.nil iX]),
 uX (.store 3 7 24)])
 (.seq
 (.aa false [
 oX 25 (.e7 iX []),
 oX 8 (.mv 25)])
 (.seq
 (.aa false [
 oX 9 (.mv (kX 1))])
 (.seq
 (.seq
 (.aa false [
 oX 10 (.mv (kX 0))])
 (.join ⟨[(7,.one (rX 7)),(8,.one (fX 500023 1)),(9,sX),(4,.one (rX 4))],[(4,.box [vX,vX,fX 500021 1]),(7,.box [vX,vX,fX 500022 1]),(500021,.row true .ab iX),(500022,.row true .ab iX),(500023,.row true .ab iX)]⟩ [3,4,7,500000,500001,500002,500021,500022,500023] [(true,4,2,500021,.ab,[]),(true,7,2,500022,.ab,[]),(false,8,0,500023,.ab,[])]
 (.block 0
 (.loop 0 ⟨[(0,sX),(3,.one (rX 3)),(4,.one (rX 4)),(7,.one (rX 7)),(8,.one (fX 500002 1)),(9,sX),(10,sX)],[(3,.box [vX,vX,.c (.v (lX))]),(4,.box [vX,vX,fX 500000 1]),(7,.box [vX,vX,fX 500001 1]),(500000,.row true .ab iX),(500001,.row true .ab iX),(500002,.row true .ab iX)]⟩ [3,4,24000,7,25,500000,500001,500002,500018,500019,500020] [(true,4,2,500000,.ab,[]),(true,7,2,500001,.ab,[]),(false,8,0,500002,.ab,[])]
 (.seq
 (.seq
 (.aa false [
 oX 26 (.mv 10),
 oX 27 (.ao 1 3),
 oX 28 (.load false 1 27),
 oX 29 (.bin .lss 26 28),
 oX 30 (.mv 29),
 ⟨(some 31),.mv 8,(some (30,true))⟩,
 ⟨(some 32),.len 31,(some (30,true))⟩,
 ⟨(some 33),.ao 0 3,(some (30,true))⟩,
 ⟨(some 34),.load false 1 33,(some (30,true))⟩,
 ⟨(some 35),.bin .lss 32 34,(some (30,true))⟩,
 oX 36 (.pick 30 35 (.k (.one (.v (.bool) (false)))))])
 (.cond 36
 .skip
 (.exit 0)))
 (.seq
 (.join ⟨[(10,sX),(0,sX),(3,.one (rX 3)),(4,.one (rX 4)),(7,.one (rX 7)),(8,.one (fX 500020 1)),(9,sX)],[(3,.box [vX,vX,.c (.v (lX))]),(4,.box [vX,vX,fX 500018 1]),(7,.box [vX,vX,fX 500019 1]),(500018,.row true .ab iX),(500019,.row true .ab iX),(500020,.row true .ab iX)]⟩ [3,4,7,132,133,500000,500001,500002,500015,500016,500018,500019,500020] [(true,4,2,500018,.ab,[]),(true,7,2,500019,.ab,[]),(false,8,0,500020,.ab,[])]
 (.block 1
 (.seq
 (.aa false [
 oX 39 (.mv 8),
 oX 40 (.len 39),
 oX 11 (.mv 40)])
 (.seq
 (.aa false [
 oX 41 (.load true 3 7),
 oX 42 (.mv 11),
 oX 43 (.mv 10),
 oX 44 (.call .ab 113 [41,42,43]),
 oX 12 (.mv 44)])
 (.seq
 (.seq
 (.aa false [
 oX 45 (.mv 12),
 oX 46 (.bin .lss 45 (kX 0))])
 (.cond 46
 (.exit 1)
 .skip))
 (.seq
 (.seq
 (.aa false [
 oX 47 (.mv 12),
 oX 48 (.mv 11),
 oX 49 (.bin .neq 47 48)])
 (.join ⟨[(9,sX),(11,sX),(8,.one (fX 500005 1)),(10,sX),(0,sX),(3,.one (rX 3)),(4,.one (rX 4)),(7,.one (rX 7))],[(3,.box [vX,vX,.c (.v (lX))]),(4,.box [vX,vX,fX 500003 1]),(7,.box [vX,vX,fX 500004 1]),(500003,.row true .ab iX),(500004,.row true .ab iX),(500005,.row true .ab iX)]⟩ [3,4,7,500000,500001,500002,500003,500004,500005] [(true,4,2,500003,.ab,[]),(true,7,2,500004,.ab,[]),(false,8,0,500005,.ab,[])]
 (.cond 49
 (.seq
 (.aa false [
 oX 50 (.load true 3 7),
 oX 51 (.mv 11),
 oX 52 (.mv 12),
 oX 53 (.eN .ab 114 [50,51,52])])
 (.aa false [
 oX 54 (.mv 0),
 oX 55 (.mv 9),
 oX 56 (.bin .sub 54 55),
 oX 57 (.mv 0),
 oX 58 (.bin .rem 56 57),
 oX 9 (.mv 58)]))
 .skip)))
 (.seq
 (.aa false [
 oX 59 (.ao 2 7),
 oX 60 (.load false 1 59),
 oX 61 (.mv 11),
 oX 62 (.ao 1 3),
 oX 63 (.load false 1 62),
 oX 64 (.bin .mul 61 63),
 oX 65 (.mv 10),
 oX 66 (.bin .add 64 65),
 oX 67 (.bm 1 60 66),
 oX 68 (.load false 1 67),
 oX 13 (.mv 68)])
 (.seq
 (.aa false [
 oX 69 (.mv 9),
 oX 70 (.mv 13),
 oX 71 (.bin .mul 69 70),
 oX 72 (.mv 0),
 oX 73 (.bin .rem 71 72),
 oX 9 (.mv 73)])
 (.seq
 (.aa false [
 oX 74 (.mv 0),
 oX 75 (.mv 13),
 oX 76 (.call .ab 115 [74,75]),
 oX 14 (.mv 76)])
 (.seq
 (.seq
 (.aa false [
 oX 15 (.mv (kX 0))])
 (.join ⟨[(9,sX),(7,.one (rX 7)),(4,.one (rX 4)),(3,.one (rX 3)),(0,sX),(10,sX),(8,.one (fX 500011 1)),(11,sX)],[(3,.box [vX,vX,.c (.v (lX))]),(4,.box [vX,vX,fX 500009 1]),(7,.box [vX,vX,fX 500010 1]),(500009,.row true .ab iX),(500010,.row true .ab iX),(500011,.row true .ab iX)]⟩ [3,4,7,500006,500007,500008,500009,500010,500011] [(true,4,2,500009,.ab,[]),(true,7,2,500010,.ab,[]),(false,8,0,500011,.ab,[])]
 (.block 2
 (.loop 0 ⟨[(0,sX),(3,.one (rX 3)),(4,.one (rX 4)),(7,.one (rX 7)),(8,.one (fX 500008 1)),(9,sX),(10,sX),(11,sX),(14,sX),(15,sX)],[(3,.box [vX,vX,.c (.v (lX))]),(4,.box [vX,vX,fX 500006 1]),(7,.box [vX,vX,fX 500007 1]),(500006,.row true .ab iX),(500007,.row true .ab iX),(500008,.row true .ab iX)]⟩ [3,4,7,500003,500004,500005,500006,500007,500008] [(true,4,2,500006,.ab,[]),(true,7,2,500007,.ab,[]),(false,8,0,500008,.ab,[])]
 (.seq
 (.seq
 (.aa false [
 oX 77 (.mv 15),
 oX 78 (.ao 1 3),
 oX 79 (.load false 1 78),
 oX 80 (.bin .lss 77 79)])
 (.cond 80
 .skip
 (.exit 2)))
 (.seq
 (.block 3
 (.aa true [
 oX 83 (.ao 2 7),
 oX 84 (.load false 1 83),
 oX 85 (.mv 11),
 oX 86 (.ao 1 3),
 oX 87 (.load false 1 86),
 oX 88 (.bin .mul 85 87),
 oX 89 (.mv 15),
 oX 90 (.bin .add 88 89),
 oX 91 (.ao 2 7),
 oX 92 (.load false 1 91),
 oX 93 (.mv 11),
 oX 94 (.ao 1 3),
 oX 95 (.load false 1 94),
 oX 96 (.bin .mul 93 95),
 oX 97 (.mv 15),
 oX 98 (.bin .add 96 97),
 oX 99 (.bm 1 92 98),
 oX 100 (.load false 1 99),
 oX 101 (.mv 14),
 oX 102 (.bin .mul 100 101),
 oX 103 (.mv 0),
 oX 104 (.bin .rem 102 103),
 oX 105 (.bm 1 84 90),
 uX (.store 1 105 104)]))
 (.aa false [
 oX 81 (.mv 15),
 oX 82 (.bin .add 81 (kX 1)),
 oX 15 (.mv 82)])))))))
 (.seq
 (.seq
 (.aa false [
 oX 16 (.mv (kX 0))])
 (.join ⟨[(8,.one (fX 500017 1)),(10,sX),(0,sX),(3,.one (rX 3)),(4,.one (rX 4)),(7,.one (rX 7)),(9,sX)],[(3,.box [vX,vX,.c (.v (lX))]),(4,.box [vX,vX,fX 500015 1]),(7,.box [vX,vX,fX 500016 1]),(500015,.row true .ab iX),(500016,.row true .ab iX),(500017,.row true .ab iX)]⟩ [3,4,7,500012,500013,500014,500015,500016,500017] [(true,4,2,500015,.ab,[]),(true,7,2,500016,.ab,[]),(false,8,0,500017,.ab,[])]
 (.block 4
 (.loop 0 ⟨[(0,sX),(3,.one (rX 3)),(4,.one (rX 4)),(7,.one (rX 7)),(8,.one (fX 500014 1)),(9,sX),(10,sX),(11,sX),(16,sX)],[(3,.box [vX,vX,.c (.v (lX))]),(4,.box [vX,vX,fX 500012 1]),(7,.box [vX,vX,fX 500013 1]),(500012,.row true .ab iX),(500013,.row true .ab iX),(500014,.row true .ab iX)]⟩ [3,4,7,500009,500010,500011,500012,500013,500014] [(true,4,2,500012,.ab,[]),(true,7,2,500013,.ab,[]),(false,8,0,500014,.ab,[])]
 (.seq
 (.seq
 (.aa false [
 oX 106 (.mv 16),
 oX 107 (.ao 0 3),
 oX 108 (.load false 1 107),
 oX 109 (.bin .lss 106 108)])
 (.cond 109
 .skip
 (.exit 4)))
 (.seq
 (.block 5
 (.seq
 (.aa false [
 oX 112 (.mv 16),
 oX 113 (.mv 11),
 oX 114 (.bin .neq 112 113)])
 (.cond 114
 (.aa true [
 oX 115 (.mv 0),
 oX 116 (.load true 3 7),
 oX 117 (.mv 16),
 oX 118 (.mv 11),
 oX 119 (.ao 2 7),
 oX 120 (.load false 1 119),
 oX 121 (.mv 16),
 oX 122 (.ao 1 3),
 oX 123 (.load false 1 122),
 oX 124 (.bin .mul 121 123),
 oX 125 (.mv 10),
 oX 126 (.bin .add 124 125),
 oX 127 (.bm 1 120 126),
 oX 128 (.load false 1 127),
 oX 129 (.eN .ab 116 [115,116,117,118,128])])
 .skip)))
 (.aa false [
 oX 110 (.mv 16),
 oX 111 (.bin .add 110 (kX 1)),
 oX 16 (.mv 111)])))))))
 (.aa false [
 oX 130 (.mv 8),
 oX 131 (.mv 10),
 oX 132 (.e7 iX [131]),
 oX 133 (.append true iX 8 130 132),
 oX 8 (.mv 133)]))))))))))))
 (.aa false [
 oX 37 (.mv 10),
 oX 38 (.bin .add 37 (kX 1)),
 oX 10 (.mv 38)])))))))
 (.seq
 (.aa false [
 oX 134 (.load true 3 7),
 oX 135 (.mv 8),
 oX 136 (.mv 9),
 uX (.store 3 4 134),
 oX 5 (.mv 135),
 oX 6 (.mv 136)])
 .ret))))))
def R1:List bh:=[.cell 4 3 true,.tmp 5,.tmp 6]
theorem am6 (NN:Nat) (x:aQ (ai.aP Hy)):cm NN [rn,Oj,Ol,Oh,Of] Vp R1 Hy TX x=F3 NN x:=by kernel_rfl
theorem ake:bH pX 84 Vp.er R1 2=true:=by decide+kernel
theorem aoz:bV pX 84 Ok.M/\bi pX 84=true:=
  cD (T:=[rn,Oj,Ol,Oh,Of]) (sc:=Vp) (ms:=R1) (args:=Hy) (aA:=TX) (av.cons EK<|av.cons aoy<|av.lA aoA<|av.cons aow<|av.lA aou<|av.nil) bP ake xM fun x y h=>(am6 az x).trans (ahi x y h)
def Oi:au:=⟨85,Hw,alN,TV,xK⟩
def Vn:bf:=
 (.seq
 (.aa false [
 oX 4 (.alloc [zX,zX,.nil iX])])
 (.seq
 (.aa false [
 oX 5 (.mv 0),
 oX 6 (.mv 1),
 oX 7 (.mv 0),
 oX 8 (.mv 1),
 oX 9 (.bin .mul 7 8),
 oX 10 (.jC .ab iX 8 (0:Int) 9 9),
 oX 11 (.build [zX,zX,.nil iX] [(0,1,5),(1,1,6),(2,1,10)]),
 uX (.store 3 4 11)])
 .ret))
def RZ:List bh:=[.cell 4 3 true]
theorem am4 (NN:Nat) (x:aQ (ai.aP Hw)):cm NN [] Vn RZ Hw TV x=FZ NN x:=by kernel_rfl
theorem akc:bH pX 85 Vn.er RZ 2=true:=by decide+kernel
theorem aox:bV pX 85 Oi.M/\bi pX 85=true:=
  cD (T:=[]) (sc:=Vn) (ms:=RZ) (args:=Hw) (aA:=TV) (av.nil) bP akc xK fun x y h=>(am4 az x).trans (YM x y h)
def Og:au:=⟨40,Hu,alL,TT,Ab⟩
def Vl:bf:=
 (.seq
 (.aa false [
 oX 3 (.box 3 1),
 oX 4 (.alloc [zX,zX,.nil iX]),
 oX 5 (.alloc [zX,zX,.nil iX])])
 (.seq
 (.aa false [
 oX 14 (.mv 0),
 oX 15 (.load true 3 3),
 oX 16 (.call .ab 84 [14,15]),
 oX 13 (.mv 16),
 oX 17 (.ext 0 13),
 oX 18 (.ext 1 13),
 oX 19 (.ext 2 13),
 oX 6 (.alloc [zX,zX,.nil iX]),
 uX (.store 3 6 17),
 oX 7 (.mv 18),
 oX 8 (.mv 19)])
 (.seq
 (.aa false [
 oX 20 (.ao 0 3),
 oX 21 (.load false 1 20),
 oX 22 (.mv 7),
 oX 23 (.len 22),
 oX 24 (.call .ab 85 [21,23]),
 oX 9 (.alloc [zX,zX,.nil iX]),
 uX (.store 3 9 24)])
 (.seq
 (.seq
 (.aa false [
 oX 10 (.mv (kX 0))])
 (.join ⟨[(9,.one (rX 9)),(6,.one (rX 6)),(7,.one (fX 500019 1)),(3,.one (rX 3)),(4,.one (rX 4)),(5,.one (rX 5))],[(3,.box [vX,vX,.c (.v (lX))]),(4,.box [vX,vX,fX 500015 1]),(5,.box [vX,vX,fX 500016 1]),(6,.box [vX,vX,fX 500017 1]),(9,.box [vX,vX,fX 500018 1]),(500015,.row true .ab iX),(500016,.row true .ab iX),(500017,.row true .ab iX),(500018,.row true .ab iX),(500019,.row true .ab iX)]⟩ [3,4,5,6,9,500000,500001,500002,500003,500004,500015,500016,500017,500018,500019] [(true,4,2,500015,.ab,[]),(true,5,2,500016,.ab,[]),(true,6,2,500017,.ab,[]),(true,9,2,500018,.ab,[]),(false,7,0,500019,.ab,[])]
 (.block 0
 (.loop 0 ⟨[(3,.one (rX 3)),(4,.one (rX 4)),(5,.one (rX 5)),(6,.one (rX 6)),(7,.one (fX 500004 1)),(9,.one (rX 9)),(10,sX)],[(3,.box [vX,vX,.c (.v (lX))]),(4,.box [vX,vX,fX 500000 1]),(5,.box [vX,vX,fX 500001 1]),(6,.box [vX,vX,fX 500002 1]),(9,.box [vX,vX,fX 500003 1]),(500000,.row true .ab iX),(500001,.row true .ab iX),(500002,.row true .ab iX),(500003,.row true .ab iX),(500004,.row true .ab iX)]⟩ [3,4,5,17000,17001,6,25000,9,500000,500001,500002,500003,500004,500010,500011,500012,500013,500014] [(true,4,2,500000,.ab,[]),(true,5,2,500001,.ab,[]),(true,6,2,500002,.ab,[]),(true,9,2,500003,.ab,[]),(false,7,0,500004,.ab,[])]
 (.seq
 (.seq
 (.aa false [
 oX 25 (.mv 10),
 oX 26 (.ao 0 3),
 oX 27 (.load false 1 26),
 oX 28 (.bin .lss 25 27)])
 (.cond 28
 .skip
 (.exit 0)))
 (.seq
 (.join ⟨[(10,sX),(3,.one (rX 3)),(4,.one (rX 4)),(5,.one (rX 5)),(6,.one (rX 6)),(7,.one (fX 500014 1)),(9,.one (rX 9))],[(3,.box [vX,vX,.c (.v (lX))]),(4,.box [vX,vX,fX 500010 1]),(5,.box [vX,vX,fX 500011 1]),(6,.box [vX,vX,fX 500012 1]),(9,.box [vX,vX,fX 500013 1]),(500010,.row true .ab iX),(500011,.row true .ab iX),(500012,.row true .ab iX),(500013,.row true .ab iX),(500014,.row true .ab iX)]⟩ [3,4,5,6,9,500005,500006,500007,500008,500009,500010,500011,500012,500013,500014] [(true,4,2,500010,.ab,[]),(true,5,2,500011,.ab,[]),(true,6,2,500012,.ab,[]),(true,9,2,500013,.ab,[]),(false,7,0,500014,.ab,[])]
 (.block 1
 (.seq
 (.aa false [
 oX 31 (.mv 7),
 oX 32 (.len 31),
 oX 33 (.mv (kX 0))])
 (.block 2
 (.loop 0 ⟨[(3,.one (rX 3)),(4,.one (rX 4)),(5,.one (rX 5)),(6,.one (rX 6)),(7,.one (fX 500009 1)),(9,.one (rX 9)),(10,sX),(31,.one (fX 500009 1)),(32,sX),(33,sX)],[(3,.box [vX,vX,.c (.v (lX))]),(4,.box [vX,vX,fX 500005 1]),(5,.box [vX,vX,fX 500006 1]),(6,.box [vX,vX,fX 500007 1]),(9,.box [vX,vX,fX 500008 1]),(500005,.row true .ab iX),(500006,.row true .ab iX),(500007,.row true .ab iX),(500008,.row true .ab iX),(500009,.row true .ab iX)]⟩ [3,4,5,6,9,500000,500001,500002,500003,500004,500005,500006,500007,500008,500009] [(true,4,2,500005,.ab,[]),(true,5,2,500006,.ab,[]),(true,6,2,500007,.ab,[]),(true,9,2,500008,.ab,[]),(false,7,0,500009,.ab,[])]
 (.seq
 (.aa false [
 oX 34 (.bin .lss 33 32)])
 (.seq
 (.cond 34
 .skip
 (.exit 2))
 (.seq
 (.block 3
 (.seq
 (.aa false [
 oX 35 (.mv 33),
 oX 36 (.bm 1 31 33),
 oX 37 (.load false 1 36),
 oX 11 (.mv 35),
 oX 12 (.mv 37)])
 (.aa true [
 oX 38 (.ao 2 9),
 oX 39 (.load false 1 38),
 oX 40 (.mv 10),
 oX 41 (.mv 7),
 oX 42 (.len 41),
 oX 43 (.bin .mul 40 42),
 oX 44 (.mv 11),
 oX 45 (.bin .add 43 44),
 oX 46 (.ao 2 3),
 oX 47 (.load false 1 46),
 oX 48 (.mv 10),
 oX 49 (.ao 1 3),
 oX 50 (.load false 1 49),
 oX 51 (.bin .mul 48 50),
 oX 52 (.mv 12),
 oX 53 (.bin .add 51 52),
 oX 54 (.bm 1 47 53),
 oX 55 (.load false 1 54),
 oX 56 (.bm 1 39 45),
 uX (.store 1 56 55)])))
 (.aa false [
 oX 57 (.bin .add 33 (kX 1)),
 oX 33 (.mv 57)])))))))))
 (.aa false [
 oX 29 (.mv 10),
 oX 30 (.bin .add 29 (kX 1)),
 oX 10 (.mv 30)])))))))
 (.seq
 (.rS [(2,15),(3,15),(4,15)] [
 oX 58 (.load true 3 9),
 oX 59 (.mv 7),
 oX 60 (.len 59),
 oX 61 (.ao 1 3),
 oX 62 (.load false 1 61),
 oX 63 (.ao 2 6),
 oX 64 (.load false 1 63),
 oX 65 (.mv 7),
 oX 66 (.len 65),
 oX 67 (.ao 1 3),
 oX 68 (.load false 1 67),
 oX 69 (.bin .mul 66 68),
 oX 70 (.slice 1 64 none (some 69)),
 oX 71 (.call .ab 38 [70]),
 oX 72 (.build [zX,zX,.nil iX] [(0,1,60),(1,1,62),(2,1,71)]),
 uX (.store 3 4 58),
 uX (.store 3 5 72)])
 .ret)))))
def RX:List bh:=[.cell 4 3 true,.cell 5 3 true]
theorem am2 (NN:Nat) (x:aQ (ai.aP Hu)):cm NN [Ok,Oi,rn] Vl RX Hu TT x=FY NN x:=by kernel_rfl
theorem aka:bH pX 40 Vl.er RX 2=true:=by decide+kernel
theorem aov:bV pX 40 Og.M/\bi pX 40=true:=
  cD (T:=[Ok,Oi,rn]) (sc:=Vl) (ms:=RX) (args:=Hu) (aA:=TT) (av.cons aoz<|av.cons aox<|av.cons EK<|av.nil) bP aka Ab fun x y h=>(am2 az x).trans (ahf x y h)
def Om:au:=⟨87,HA,alQ,TZ,Ac⟩
def Vr:bf:=
 (.seq
 (.aa false [
 oX 1 (.box 2 0),
 oX 2 (.mv (.k (.one (.nil iX))))])
 (.seq
 (.aa false [
 oX 6 (.e7 iX []),
 oX 3 (.mv 6)])
 (.seq
 (.seq
 (.aa false [
 oX 7 (.ao 1 1),
 oX 8 (.load false 1 7),
 oX 9 (.len 8),
 oX 10 (.mv (kX 0))])
 (.join ⟨[(3,.one (fX 500001 1))],[(500001,.row true .ab iX)]⟩ [500000,500001] [(false,3,0,500001,.ab,[])]
 (.block 0
 (.loop 0 ⟨[(3,.one (fX 500000 1)),(8,.one (.c (.v (.list gX)))),(9,sX),(10,sX)],[(500000,.row true .ab iX)]⟩ [1,6,5,17,18,500000] [(false,3,0,500000,.ab,[])]
 (.seq
 (.aa false [
 oX 11 (.bin .lss 10 9)])
 (.seq
 (.cond 11
 .skip
 (.exit 0))
 (.seq
 (.block 1
 (.seq
 (.aa false [
 oX 12 (.bm 4 8 10),
 oX 13 (.load true 4 12),
 oX 5 (.alloc [zX,zX,zX,.nil iX]),
 uX (.store 4 5 13)])
 (.aa false [
 oX 14 (.mv 3),
 oX 15 (.ao 1 5),
 oX 16 (.load false 1 15),
 oX 17 (.e7 iX [16]),
 oX 18 (.append true iX 8 14 17),
 oX 3 (.mv 18)])))
 (.aa false [
 oX 19 (.bin .add 10 (kX 1)),
 oX 10 (.mv 19)]))))))))
 (.seq
 (.aa false [
 oX 20 (.mv 3),
 oX 2 (.mv 20)])
 .ret))))
def R4:List bh:=[.tmp 2]
theorem am8 (NN:Nat) (x:aQ (ai.aP HA)):cm NN [] Vr R4 HA TZ x=L8 NN x:=by kernel_rfl
theorem akg:bH pX 87 Vr.er R4 1=true:=by decide+kernel
theorem aoB:bV pX 87 Om.M/\bi pX 87=true:=
  cD (T:=[]) (sc:=Vr) (ms:=R4) (args:=HA) (aA:=TZ) (av.nil) bP akg Ac fun x y h=>(am8 az x).trans (ahk x y h)
def N4:au:=⟨41,G8,alt,Tz,z6⟩
def U2:bf:=
 (.seq
 (.aa false [
 oX 1 (.box 2 0),
 oX 2 (.mv (.k (.one (.v (.bool) (false)))))])
 (.seq
 (.seq
 (.aa false [
 oX 8 (.ao 0 1),
 oX 9 (.load false 1 8),
 oX 10 (.call .ab 86 [9]),
 oX 11 (.un .not 10),
 oX 12 (.mv 11),
 ⟨(some 13),.ao 1 1,(some (12,false))⟩,
 ⟨(some 14),.load false 1 13,(some (12,false))⟩,
 ⟨(some 15),.len 14,(some (12,false))⟩,
 ⟨(some 16),.call .ab 36 [15,(kX 1),(kX 8)],(some (12,false))⟩,
 ⟨(some 17),.un .not 16,(some (12,false))⟩,
 oX 18 (.pick 12 (.k (.one (.v (.bool) (true)))) 17)])
 (.cond 18
 (.seq
 (.aa false [
 oX 2 (.mv (.k (.one (.v (.bool) (false)))))])
 .ret)
 .skip))
 (.seq
 (.aa false [
 oX 3 (.mv (kX 1))])
 (.seq
 (.seq
 (.aa false [
 oX 19 (.ao 1 1),
 oX 20 (.load false 1 19),
 oX 21 (.len 20),
 oX 22 (.mv (kX 0))])
 (.join ⟨[(3,sX),(1,.one (rX 1))],[(1,.box [vX,.c (.v (.list gX))])]⟩ [1] []
 (.block 0
 (.loop 0 ⟨[(1,.one (rX 1)),(3,sX),(20,.one (.c (.v (.list gX)))),(21,sX),(22,sX)],[(1,.box [vX,.c (.v (.list gX))])]⟩ [1] []
 (.seq
 (.aa false [
 oX 23 (.bin .lss 22 21)])
 (.seq
 (.cond 23
 .skip
 (.exit 0))
 (.seq
 (.join ⟨[(22,sX),(1,.one (rX 1)),(3,sX),(20,.one (.c (.v (.list gX)))),(21,sX)],[(1,.box [vX,.c (.v (.list gX))])]⟩ [1,5] []
 (.block 1
 (.seq
 (.aa false [
 oX 24 (.bm 4 20 22),
 oX 25 (.load true 4 24),
 oX 5 (.alloc [zX,zX,zX,.nil iX]),
 uX (.store 4 5 25)])
 (.seq
 (.seq
 (.aa false [
 oX 26 (.ao 0 5),
 oX 27 (.load false 1 26),
 oX 28 (.mv 3),
 oX 29 (.bin .neq 27 28),
 oX 30 (.mv 29),
 ⟨(some 31),.ao 1 5,(some (30,false))⟩,
 ⟨(some 32),.load false 1 31,(some (30,false))⟩,
 ⟨(some 33),.call .ab 36 [32,(kX 1),(kX 8)],(some (30,false))⟩,
 ⟨(some 34),.un .not 33,(some (30,false))⟩,
 oX 35 (.pick 30 (.k (.one (.v (.bool) (true)))) 34),
 oX 36 (.mv 35),
 ⟨(some 37),.ao 2 5,(some (36,false))⟩,
 ⟨(some 38),.load false 1 37,(some (36,false))⟩,
 ⟨(some 39),.call .ab 36 [38,(kX 0),(kX 32)],(some (36,false))⟩,
 ⟨(some 40),.un .not 39,(some (36,false))⟩,
 oX 41 (.pick 36 (.k (.one (.v (.bool) (true)))) 40),
 oX 42 (.mv 41),
 ⟨(some 43),.ao 3 5,(some (42,false))⟩,
 ⟨(some 44),.load false 1 43,(some (42,false))⟩,
 ⟨(some 45),.len 44,(some (42,false))⟩,
 ⟨(some 46),.ao 0 5,(some (42,false))⟩,
 ⟨(some 47),.load false 1 46,(some (42,false))⟩,
 ⟨(some 48),.ao 1 5,(some (42,false))⟩,
 ⟨(some 49),.load false 1 48,(some (42,false))⟩,
 ⟨(some 50),.bin .mul 47 49,(some (42,false))⟩,
 ⟨(some 51),.ao 2 5,(some (42,false))⟩,
 ⟨(some 52),.load false 1 51,(some (42,false))⟩,
 ⟨(some 53),.bin .mul 50 52,(some (42,false))⟩,
 ⟨(some 54),.bin .neq 45 53,(some (42,false))⟩,
 oX 55 (.pick 42 (.k (.one (.v (.bool) (true)))) 54)])
 (.cond 55
 (.seq
 (.aa false [
 oX 2 (.mv (.k (.one (.v (.bool) (false)))))])
 .ret)
 .skip))
 (.seq
 (.seq
 (.aa false [
 oX 56 (.ao 3 5),
 oX 57 (.load false 1 56),
 oX 58 (.len 57),
 oX 59 (.mv (kX 0))])
 (.join ⟨[(5,.one (rX 5)),(22,sX),(1,.one (rX 1)),(20,.one (.c (.v (.list gX)))),(21,sX)],[(1,.box [vX,.c (.v (.list gX))]),(5,.box [vX,vX,vX,.c (.v (lX))])]⟩ [1,5] []
 (.block 2
 (.loop 0 ⟨[(1,.one (rX 1)),(5,.one (rX 5)),(20,.one (.c (.v (.list gX)))),(21,sX),(22,sX),(57,.one (.c (.v (lX)))),(58,sX),(59,sX)],[(1,.box [vX,.c (.v (.list gX))]),(5,.box [vX,vX,vX,.c (.v (lX))])]⟩ [1,5] []
 (.seq
 (.aa false [
 oX 60 (.bin .lss 59 58)])
 (.seq
 (.cond 60
 .skip
 (.exit 2))
 (.seq
 (.block 3
 (.seq
 (.aa false [
 oX 61 (.bm 1 57 59),
 oX 62 (.load false 1 61),
 oX 7 (.mv 62)])
 (.seq
 (.aa false [
 oX 63 (.mv 7),
 oX 64 (.ao 0 1),
 oX 65 (.load false 1 64),
 oX 66 (.bin .sub 65 (kX 1)),
 oX 67 (.call .ab 36 [63,(kX 0),66]),
 oX 68 (.un .not 67)])
 (.cond 68
 (.seq
 (.aa false [
 oX 2 (.mv (.k (.one (.v (.bool) (false)))))])
 .ret)
 .skip))))
 (.aa false [
 oX 69 (.bin .add 59 (kX 1)),
 oX 59 (.mv 69)]))))))))
 (.aa false [
 oX 70 (.ao 2 5),
 oX 71 (.load false 1 70),
 oX 3 (.mv 71)]))))))
 (.aa false [
 oX 72 (.bin .add 22 (kX 1)),
 oX 22 (.mv 72)]))))))))
 (.seq
 (.aa false [
 oX 73 (.mv 3),
 oX 74 (.bin .eql 73 (kX 1)),
 oX 75 (.mv 74),
 ⟨(some 76),.load true 2 1,(some (75,true))⟩,
 ⟨(some 77),.call .ab 87 [76],(some (75,true))⟩,
 ⟨(some 78),.call .ab 39 [77,(kX 4096)],(some (75,true))⟩,
 ⟨(some 79),.bin .leq 78 (kX 4096),(some (75,true))⟩,
 oX 80 (.pick 75 79 (.k (.one (.v (.bool) (false))))),
 oX 2 (.mv 80)])
 .ret)))))
def Rz:List bh:=[.tmp 2]
theorem amJ (NN:Nat) (x:aQ (ai.aP G8)):cm NN [Du,oN,Om,ud] U2 Rz G8 Tz x=LN NN x:=by kernel_rfl
theorem ajR:bH pX 41 U2.er Rz 1=true:=by decide+kernel
theorem aoj:bV pX 41 N4.M/\bi pX 41=true:=
  cD (T:=[Du,oN,Om,ud]) (sc:=U2) (ms:=Rz) (args:=G8) (aA:=Tz) (av.cons abC<|av.cons BQ<|av.cons aoB<|av.cons JV<|av.nil) bP ajR z6 fun x y h=>(amJ az x).trans (agW x y h)
def N3:au:=⟨8,G7,als,Tx,vt⟩
def U1:bf:=
 (.seq
 (.aa false [
 oX 3 (.box 3 1),
 oX 4 (.alloc [zX,.nil gX]),
 oX 5 (.mv (.k (.one (.v (.bool) (false)))))])
 (.seq
 (.aa false [
 oX 16 (.mv 0),
 oX 17 (.build [zX,zX,zX] [(0,1,(kX 2)),(1,1,16)]),
 oX 6 (.alloc [zX,zX,zX]),
 uX (.store 3 6 17)])
 (.seq
 (.seq
 (.aa false [
 oX 18 (.load true 3 6),
 oX 19 (.load true 3 3),
 oX 20 (.call .ab 35 [18,19]),
 oX 21 (.un .not 20),
 oX 22 (.mv 21),
 ⟨(some 23),.ao 0 3,(some (22,false))⟩,
 ⟨(some 24),.load false 1 23,(some (22,false))⟩,
 ⟨(some 25),.len 24,(some (22,false))⟩,
 ⟨(some 26),.call .ab 36 [25,(kX 1),(kX 8)],(some (22,false))⟩,
 ⟨(some 27),.un .not 26,(some (22,false))⟩,
 oX 28 (.pick 22 (.k (.one (.v (.bool) (true)))) 27)])
 (.cond 28
 (.seq
 (.aa false [
 oX 29 (.build [zX,.nil gX] []),
 uX (.store 2 4 29),
 oX 5 (.mv (.k (.one (.v (.bool) (false)))))])
 .ret)
 .skip))
 (.seq
 (.aa false [
 oX 30 (.load true 3 6),
 oX 31 (.load true 3 3),
 oX 32 (.call .ab 37 [30,31]),
 oX 7 (.alloc [.nil iX,.nil iX,.nil iX]),
 uX (.store 3 7 32)])
 (.seq
 (.aa false [
 oX 33 (.mv 0),
 oX 34 (.build [zX,.nil gX] [(0,1,33)]),
 oX 8 (.alloc [zX,.nil gX]),
 uX (.store 2 8 34)])
 (.seq
 (.aa false [
 oX 9 (.mv (kX 1))])
 (.seq
 (.aa false [
 oX 35 (.ao 2 7),
 oX 36 (.load false 1 35),
 oX 37 (.call .ab 38 [36]),
 oX 10 (.mv 37)])
 (.seq
 (.seq
 (.aa false [
 oX 38 (.ao 1 7),
 oX 39 (.load false 1 38),
 oX 40 (.len 39),
 oX 41 (.mv (kX 0))])
 (.join ⟨[(8,.one (rX 8)),(4,.one (rX 4))],[(4,.box [vX,fX 500006 4]),(8,.box [vX,fX 500007 4]),(500006,.row true .ab gX),(500007,.row true .ab gX)]⟩ [4,7,8,59,500000,500001,500002,500003,500004,500005,500006,500007] [(true,4,1,500006,.ab,[]),(true,8,1,500007,.ab,[])]
 (.block 0
 (.loop 0 ⟨[(0,sX),(4,.one (rX 4)),(7,.one (rX 7)),(8,.one (rX 8)),(9,sX),(10,.one (fX 500005 1)),(39,.one (fX 500002 1)),(40,sX),(41,sX)],[(4,.box [vX,fX 500000 4]),(7,.box [fX 500001 1,fX 500002 1,fX 500003 1]),(8,.box [vX,fX 500004 4]),(500000,.row true .ab gX),(500001,.row true .ab iX),(500002,.row true .ab iX),(500003,.row true .ab iX),(500004,.row true .ab gX),(500005,.row true .ab iX)]⟩ [3,4,6,33000,33001,33002,7,8,38000,13,86001,14,15,98,500000,500001,500002,500003,500004,500005] [(true,4,1,500000,.ab,[]),(true,7,0,500001,.ab,[]),(true,7,1,500002,.ab,[]),(true,7,2,500003,.ab,[]),(true,8,1,500004,.ab,[]),(false,10,0,500005,.ab,[])]
 (.seq
 (.aa false [
 oX 42 (.bin .lss 41 40)])
 (.seq
 (.cond 42
 .skip
 (.exit 0))
 (.seq
 (.block 1
 (.seq
 (.aa false [
 oX 43 (.mv 41),
 oX 44 (.bm 1 39 41),
 oX 45 (.load false 1 44),
 oX 11 (.mv 43),
 oX 12 (.mv 45)])
 (.seq
 (.seq
 (.aa false [
 oX 46 (.mv 11),
 oX 47 (.ao 1 7),
 oX 48 (.load false 1 47),
 oX 49 (.len 48),
 oX 50 (.bin .sub 49 (kX 1)),
 oX 51 (.bin .eql 46 50)])
 (.cond 51
 (.seq
 (.aa false [
 oX 52 (.ao 1 8),
 oX 53 (.load false 1 52),
 oX 54 (.mv 9),
 oX 55 (.mv 12),
 oX 56 (.mv 10),
 oX 57 (.build [zX,zX,zX,.nil iX] [(0,1,54),(1,1,55),(2,1,(kX 1)),(3,1,56)]),
 oX 58 (.e7 gX [57]),
 oX 59 (.append false gX 48 53 58),
 oX 60 (.ao 1 8),
 uX (.store 1 60 59)])
 (.exit 0))
 .skip))
 (.seq
 (.aa false [
 oX 61 (.mv 9),
 oX 62 (.mv 12),
 oX 63 (.bin .mul 61 62),
 oX 64 (.mv 10),
 oX 65 (.build [zX,zX,.nil iX] [(0,1,63),(2,1,64)]),
 oX 13 (.alloc [zX,zX,.nil iX]),
 uX (.store 3 13 65)])
 (.seq
 (.aa false [
 oX 66 (.ao 1 7),
 oX 67 (.load false 1 66),
 oX 68 (.mv 11),
 oX 69 (.bin .add 68 (kX 1)),
 oX 70 (.slice 1 67 (some 69) none),
 oX 71 (.call .ab 39 [70,(kX 4096)]),
 oX 72 (.ao 1 13),
 uX (.store 1 72 71)])
 (.seq
 (.seq
 (.aa false [
 oX 73 (.ao 0 13),
 oX 74 (.load false 1 73),
 oX 75 (.bin .gtr 74 (kX 64)),
 oX 76 (.mv 75),
 ⟨(some 77),.ao 1 13,(some (76,false))⟩,
 ⟨(some 78),.load false 1 77,(some (76,false))⟩,
 ⟨(some 79),.bin .gtr 78 (kX 64),(some (76,false))⟩,
 oX 80 (.pick 76 (.k (.one (.v (.bool) (true)))) 79)])
 (.cond 80
 (.seq
 (.aa false [
 oX 81 (.build [zX,.nil gX] []),
 uX (.store 2 4 81),
 oX 5 (.mv (.k (.one (.v (.bool) (false)))))])
 .ret)
 .skip))
 (.seq
 (.aa false [
 oX 83 (.mv 0),
 oX 84 (.load true 3 13),
 oX 85 (.call .ab 40 [83,84]),
 oX 82 (.mv 85),
 oX 86 (.ext 0 82),
 oX 87 (.ext 1 82),
 oX 14 (.alloc [zX,zX,.nil iX]),
 oX 15 (.alloc [zX,zX,.nil iX]),
 uX (.store 3 14 86),
 uX (.store 3 15 87)])
 (.seq
 (.aa false [
 oX 88 (.ao 1 8),
 oX 89 (.load false 1 88),
 oX 90 (.mv 9),
 oX 91 (.mv 12),
 oX 92 (.ao 1 14),
 oX 93 (.load false 1 92),
 oX 94 (.ao 2 14),
 oX 95 (.load false 1 94),
 oX 96 (.build [zX,zX,zX,.nil iX] [(0,1,90),(1,1,91),(2,1,93),(3,1,95)]),
 oX 97 (.e7 gX [96]),
 oX 98 (.append false gX 48 89 97),
 oX 99 (.ao 1 8),
 uX (.store 1 99 98)])
 (.seq
 (.aa false [
 oX 100 (.ao 1 14),
 oX 101 (.load false 1 100),
 oX 9 (.mv 101)])
 (.aa false [
 oX 102 (.ao 2 15),
 oX 103 (.load false 1 102),
 oX 10 (.mv 103)]))))))))))
 (.aa false [
 oX 104 (.bin .add 41 (kX 1)),
 oX 41 (.mv 104)]))))))))
 (.seq
 (.seq
 (.aa false [
 oX 105 (.load true 2 8),
 oX 106 (.call .ab 41 [105]),
 oX 107 (.un .not 106)])
 (.cond 107
 (.seq
 (.aa false [
 oX 108 (.build [zX,.nil gX] []),
 uX (.store 2 4 108),
 oX 5 (.mv (.k (.one (.v (.bool) (false)))))])
 .ret)
 .skip))
 (.seq
 (.aa false [
 oX 109 (.load true 2 8),
 uX (.store 2 4 109),
 oX 5 (.mv (.k (.one (.v (.bool) (true)))))])
 .ret))))))))))
def Rx:List bh:=[.cell 4 2 true,.tmp 5]
theorem amI (NN:Nat) (x:aQ (ai.aP G7)):cm NN [Dw,oN,N6,rn,ud,Og,N4] U1 Rx G7 Tx x=LM NN x:=by kernel_rfl
theorem ajQ:bH pX 8 U1.er Rx 2=true:=by decide+kernel
theorem aoi:bV pX 8 N3.M/\bi pX 8=true:=
  cD (T:=[Dw,oN,N6,rn,ud,Og,N4]) (sc:=U1) (ms:=Rx) (args:=G7) (aA:=Tx) (av.cons abD<|av.cons BQ<|av.cons aol<|av.cons EK<|av.cons JV<|av.cons aov<|av.cons aoj<|av.nil) bP ajQ vt fun x y h=>(amI az x).trans (agV x y h)
def Dp:au:=⟨60,Ge,akP,SJ,r9⟩
def Ud:bf:=
 (.seq
 (.aa false [
 oX 2 (.mv (.k (.one (.v (.bool) (false)))))])
 (.seq
 (.seq
 (.aa false [
 oX 4 (.mv 0),
 oX 5 (.bin .lss 4 (kX 2)),
 oX 6 (.mv 5),
 ⟨(some 7),.mv 0,(some (6,false))⟩,
 ⟨(some 8),.bin .gtr 7 (kX 1000003),(some (6,false))⟩,
 oX 9 (.pick 6 (.k (.one (.v (.bool) (true)))) 8)])
 (.cond 9
 (.seq
 (.aa false [
 oX 2 (.mv (.k (.one (.v (.bool) (false)))))])
 .ret)
 .skip))
 (.seq
 (.seq
 (.aa false [
 oX 3 (.mv (kX 2))])
 (.join ⟨[],[]⟩ [] []
 (.block 0
 (.loop 0 ⟨[(0,sX),(3,sX)],[]⟩ [] []
 (.seq
 (.seq
 (.aa false [
 oX 10 (.mv 3),
 oX 11 (.mv 3),
 oX 12 (.bin .mul 10 11),
 oX 13 (.mv 0),
 oX 14 (.bin .leq 12 13)])
 (.cond 14
 .skip
 (.exit 0)))
 (.seq
 (.block 1
 (.seq
 (.aa false [
 oX 17 (.mv 0),
 oX 18 (.mv 3),
 oX 19 (.bin .rem 17 18),
 oX 20 (.bin .eql 19 (kX 0))])
 (.cond 20
 (.seq
 (.aa false [
 oX 2 (.mv (.k (.one (.v (.bool) (false)))))])
 .ret)
 .skip)))
 (.aa false [
 oX 15 (.mv 3),
 oX 16 (.bin .add 15 (kX 1)),
 oX 3 (.mv 16)])))))))
 (.seq
 (.aa false [
 oX 2 (.mv (.k (.one (.v (.bool) (true)))))])
 .ret))))
def QK:List bh:=[.tmp 2]
theorem alW (NN:Nat) (x:aQ (ai.aP Ge)):cm NN [] Ud QK Ge SJ x=K7 NN x:=by kernel_rfl
theorem ai4:bH pX 60 Ud.er QK 1=true:=by decide+kernel
theorem abx:bV pX 60 Dp.M/\bi pX 60=true:=
  cD (T:=[]) (sc:=Ud) (ms:=QK) (args:=Ge) (aA:=SJ) (av.nil) bP ai4 r9 fun x y h=>(alW az x).trans (aga x y h)
def Nq:au:=⟨88,Gl,akS,SP,zE⟩
def Uj:bf:=
 (.seq
 (.aa false [
 oX 1 (.box 3 0),
 oX 2 (.mv (.k (.one (.v (.bool) (false)))))])
 (.seq
 (.seq
 (.aa false [
 oX 3 (.ao 0 1),
 oX 4 (.load false 1 3)])
 (.block 0
 (.seq
 (.aa false [
 oX 6 (.bin .eql 4 (kX 1)),
 oX 5 (.mv 6)])
 (.cond 5
 (.seq
 (.aa false [
 oX 7 (.ao 1 1),
 oX 8 (.load false 1 7),
 oX 9 (.bin .eql 8 (kX 0)),
 oX 10 (.mv 9),
 ⟨(some 11),.ao 2 1,(some (10,true))⟩,
 ⟨(some 12),.load false 1 11,(some (10,true))⟩,
 ⟨(some 13),.bin .eql 12 (kX 0),(some (10,true))⟩,
 oX 14 (.pick 10 13 (.k (.one (.v (.bool) (false))))),
 oX 2 (.mv 14)])
 .ret)
 (.seq
 (.aa false [
 oX 16 (.bin .eql 4 (kX 2)),
 oX 15 (.mv 16)])
 (.cond 15
 (.seq
 (.aa false [
 oX 17 (.ao 1 1),
 oX 18 (.load false 1 17),
 oX 19 (.call .ab 60 [18]),
 oX 20 (.mv 19),
 ⟨(some 21),.ao 2 1,(some (20,true))⟩,
 ⟨(some 22),.load false 1 21,(some (20,true))⟩,
 ⟨(some 23),.bin .eql 22 (kX 0),(some (20,true))⟩,
 oX 24 (.pick 20 23 (.k (.one (.v (.bool) (false))))),
 oX 2 (.mv 24)])
 .ret)
 (.seq
 (.seq
 (.aa false [
 oX 26 (.bin .eql 4 (kX 3)),
 oX 25 (.mv 26)])
 (.join ⟨[(25,.one (.c (.v (.bool)))),(4,sX),(1,.one (rX 1))],[(1,.box [vX,vX,vX])]⟩ [1] []
 (.cond 25
 .skip
 (.seq
 (.aa false [
 oX 27 (.bin .eql 4 (kX 4)),
 oX 25 (.mv 27)])
 (.cond 25
 .skip
 (.aa false [
 oX 28 (.bin .eql 4 (kX 5)),
 oX 25 (.mv 28)]))))))
 (.cond 25
 (.seq
 (.aa false [
 oX 29 (.ao 1 1),
 oX 30 (.load false 1 29),
 oX 31 (.bin .geq 30 (kX 1)),
 oX 32 (.mv 31),
 ⟨(some 33),.ao 1 1,(some (32,true))⟩,
 ⟨(some 34),.load false 1 33,(some (32,true))⟩,
 ⟨(some 35),.bin .leq 34 (kX 1000000),(some (32,true))⟩,
 oX 36 (.pick 32 35 (.k (.one (.v (.bool) (false))))),
 oX 37 (.mv 36),
 ⟨(some 38),.ao 2 1,(some (37,true))⟩,
 ⟨(some 39),.load false 1 38,(some (37,true))⟩,
 ⟨(some 40),.bin .eql 39 (kX 0),(some (37,true))⟩,
 oX 41 (.pick 37 40 (.k (.one (.v (.bool) (false))))),
 oX 2 (.mv 41)])
 .ret)
 (.seq
 (.aa false [
 oX 43 (.bin .eql 4 (kX 6)),
 oX 42 (.mv 43)])
 (.cond 42
 (.seq
 (.aa false [
 oX 44 (.ao 1 1),
 oX 45 (.load false 1 44),
 oX 46 (.bin .eql 45 (kX 0)),
 oX 47 (.mv 46),
 ⟨(some 48),.ao 2 1,(some (47,true))⟩,
 ⟨(some 49),.load false 1 48,(some (47,true))⟩,
 ⟨(some 50),.bin .geq 49 (kX 1),(some (47,true))⟩,
 oX 51 (.pick 47 50 (.k (.one (.v (.bool) (false))))),
 oX 52 (.mv 51),
 ⟨(some 53),.ao 2 1,(some (52,true))⟩,
 ⟨(some 54),.load false 1 53,(some (52,true))⟩,
 ⟨(some 55),.bin .leq 54 (kX 20),(some (52,true))⟩,
 oX 56 (.pick 52 55 (.k (.one (.v (.bool) (false))))),
 oX 2 (.mv 56)])
 .ret)
 (.seq
 (.aa false [
 oX 58 (.bin .eql 4 (kX 7)),
 oX 57 (.mv 58)])
 (.cond 57
 (.seq
 (.aa false [
 oX 59 (.ao 1 1),
 oX 60 (.load false 1 59),
 oX 61 (.call .ab 60 [60]),
 oX 62 (.mv 61),
 ⟨(some 63),.ao 2 1,(some (62,true))⟩,
 ⟨(some 64),.load false 1 63,(some (62,true))⟩,
 ⟨(some 65),.bin .geq 64 (kX 1),(some (62,true))⟩,
 oX 66 (.pick 62 65 (.k (.one (.v (.bool) (false))))),
 oX 67 (.mv 66),
 ⟨(some 68),.ao 2 1,(some (67,true))⟩,
 ⟨(some 69),.load false 1 68,(some (67,true))⟩,
 ⟨(some 70),.bin .leq 69 (kX 6),(some (67,true))⟩,
 oX 71 (.pick 67 70 (.k (.one (.v (.bool) (false))))),
 oX 2 (.mv 71)])
 .ret)
 (.seq
 (.aa false [
 oX 73 (.bin .eql 4 (kX 8)),
 oX 72 (.mv 73)])
 (.cond 72
 (.seq
 (.aa false [
 oX 74 (.ao 1 1),
 oX 75 (.load false 1 74),
 oX 76 (.call .ab 60 [75]),
 oX 77 (.mv 76),
 ⟨(some 78),.ao 1 1,(some (77,true))⟩,
 ⟨(some 79),.load false 1 78,(some (77,true))⟩,
 ⟨(some 80),.bin .neq 79 (kX 2),(some (77,true))⟩,
 oX 81 (.pick 77 80 (.k (.one (.v (.bool) (false))))),
 oX 82 (.mv 81),
 ⟨(some 83),.ao 2 1,(some (82,true))⟩,
 ⟨(some 84),.load false 1 83,(some (82,true))⟩,
 ⟨(some 85),.bin .eql 84 (kX 0),(some (82,true))⟩,
 oX 86 (.pick 82 85 (.k (.one (.v (.bool) (false))))),
 oX 2 (.mv 86)])
 .ret)
 .skip))))))))))))))
 (.seq
 (.aa false [
 oX 2 (.mv (.k (.one (.v (.bool) (false)))))])
 .ret)))
def QQ:List bh:=[.tmp 2]
theorem al2 (NN:Nat) (x:aQ (ai.aP Gl)):cm NN [Dp] Uj QQ Gl SP x=K9 NN x:=by kernel_rfl
theorem aja:bH pX 88 Uj.er QQ 1=true:=by decide+kernel
theorem anG:bV pX 88 Nq.M/\bi pX 88=true:=
  cD (T:=[Dp]) (sc:=Uj) (ms:=QQ) (args:=Gl) (aA:=SP) (av.cons abx<|av.nil) bP aja zE fun x y h=>(al2 az x).trans (agh x y h)
def Ny:au:=⟨106,Gv,ak1,S0,xF⟩
def Ut:bf:=
 (.seq
 (.aa false [
 oX 4 (.mv (.k (.one (.v (.bool) (false)))))])
 (.seq
 (.seq
 (.aa false [
 oX 7 (.mv 0),
 oX 8 (.len 7),
 oX 9 (.mv (kX 0))])
 (.join ⟨[],[]⟩ [] []
 (.block 0
 (.loop 0 ⟨[(1,sX),(7,.one (.c (.v (lX)))),(8,sX),(9,sX)],[]⟩ [] []
 (.seq
 (.aa false [
 oX 10 (.bin .lss 9 8)])
 (.seq
 (.cond 10
 .skip
 (.exit 0))
 (.seq
 (.block 1
 (.seq
 (.aa false [
 oX 11 (.bm 1 7 9),
 oX 12 (.load false 1 11),
 oX 6 (.mv 12)])
 (.seq
 (.aa false [
 oX 13 (.mv 1),
 oX 14 (.mv 6),
 oX 15 (.bin .eql 13 14)])
 (.cond 15
 (.seq
 (.aa false [
 oX 4 (.mv (.k (.one (.v (.bool) (true)))))])
 .ret)
 .skip))))
 (.aa false [
 oX 16 (.bin .add 9 (kX 1)),
 oX 9 (.mv 16)]))))))))
 (.seq
 (.aa false [
 oX 4 (.mv (.k (.one (.v (.bool) (false)))))])
 .ret)))
def QZ:List bh:=[.tmp 4]
theorem amb (NN:Nat) (x:aQ (ai.aP Gv)):cm NN [] Ut QZ Gv S0 x=Lh NN x:=by kernel_rfl
theorem ajj:bH pX 106 Ut.er QZ 2=true:=by decide+kernel
theorem anN:bV pX 106 Ny.M/\bi pX 106=true:=
  cD (T:=[]) (sc:=Ut) (ms:=QZ) (args:=Gv) (aA:=S0) (av.nil) bP ajj xF fun x y h=>(amb az x).trans (agq x y h)
def Ns:au:=⟨65,Gp,akV,SS,zG⟩
def Um:bf:=
 (.seq
 (.aa false [
 oX 1 (.box 3 0),
 oX 2 (.mv (kX 0))])
 (.seq
 (.seq
 (.aa false [
 oX 7 (.ao 0 1),
 oX 8 (.load false 1 7),
 oX 9 (.len 8),
 oX 10 (.bin .gtr 9 (kX 12)),
 oX 11 (.mv 10),
 ⟨(some 12),.ao 0 1,(some (11,false))⟩,
 ⟨(some 13),.load false 1 12,(some (11,false))⟩,
 ⟨(some 14),.len 13,(some (11,false))⟩,
 ⟨(some 15),.ao 1 1,(some (11,false))⟩,
 ⟨(some 16),.load false 1 15,(some (11,false))⟩,
 ⟨(some 17),.len 16,(some (11,false))⟩,
 ⟨(some 18),.bin .neq 14 17,(some (11,false))⟩,
 oX 19 (.pick 11 (.k (.one (.v (.bool) (true)))) 18)])
 (.cond 19
 (.seq
 (.aa false [
 oX 2 (.mv (kX (-1)))])
 .ret)
 .skip))
 (.seq
 (.aa false [
 oX 3 (.mv (kX 1))])
 (.seq
 (.seq
 (.aa false [
 oX 20 (.ao 0 1),
 oX 21 (.load false 1 20),
 oX 22 (.len 21),
 oX 23 (.mv (kX 0))])
 (.join ⟨[(3,sX)],[]⟩ [1] []
 (.block 0
 (.loop 0 ⟨[(1,.one (rX 1)),(3,sX),(21,.one (.c (.v (lX)))),(22,sX),(23,sX)],[(1,.box [.c (.v (lX)),.c (.v (lX)),.c (.v (lX))])]⟩ [1] []
 (.seq
 (.aa false [
 oX 24 (.bin .lss 23 22)])
 (.seq
 (.cond 24
 .skip
 (.exit 0))
 (.seq
 (.block 1
 (.seq
 (.aa false [
 oX 25 (.mv 23),
 oX 26 (.bm 1 21 23),
 oX 27 (.load false 1 26),
 oX 4 (.mv 25),
 oX 5 (.mv 27)])
 (.seq
 (.seq
 (.aa false [
 oX 28 (.mv 5),
 oX 29 (.bin .lss 28 (kX 0)),
 oX 30 (.mv 29),
 ⟨(some 31),.mv 5,(some (30,false))⟩,
 ⟨(some 32),.bin .gtr 31 (kX 99),(some (30,false))⟩,
 oX 33 (.pick 30 (.k (.one (.v (.bool) (true)))) 32),
 oX 34 (.mv 33),
 ⟨(some 35),.ao 0 1,(some (34,false))⟩,
 ⟨(some 36),.load false 1 35,(some (34,false))⟩,
 ⟨(some 37),.mv 4,(some (34,false))⟩,
 ⟨(some 38),.slice 1 36 none (some 37),(some (34,false))⟩,
 ⟨(some 39),.mv 5,(some (34,false))⟩,
 ⟨(some 40),.call .ab 106 [38,39],(some (34,false))⟩,
 oX 41 (.pick 34 (.k (.one (.v (.bool) (true)))) 40)])
 (.cond 41
 (.seq
 (.aa false [
 oX 2 (.mv (kX (-1)))])
 .ret)
 .skip))
 (.seq
 (.aa false [
 oX 42 (.ao 1 1),
 oX 43 (.load false 1 42),
 oX 44 (.mv 4),
 oX 45 (.bm 1 43 44),
 oX 46 (.load false 1 45),
 oX 6 (.mv 46)])
 (.seq
 (.seq
 (.aa false [
 oX 47 (.mv 6),
 oX 48 (.bin .lss 47 (kX 1)),
 oX 49 (.mv 48),
 ⟨(some 50),.mv 6,(some (49,false))⟩,
 ⟨(some 51),.bin .gtr 50 (kX 8),(some (49,false))⟩,
 oX 52 (.pick 49 (.k (.one (.v (.bool) (true)))) 51),
 oX 53 (.mv 52),
 ⟨(some 54),.mv 3,(some (53,false))⟩,
 ⟨(some 55),.mv 6,(some (53,false))⟩,
 ⟨(some 56),.bin .mul 54 55,(some (53,false))⟩,
 ⟨(some 57),.bin .gtr 56 (kX 4096),(some (53,false))⟩,
 oX 58 (.pick 53 (.k (.one (.v (.bool) (true)))) 57)])
 (.cond 58
 (.seq
 (.aa false [
 oX 2 (.mv (kX (-1)))])
 .ret)
 .skip))
 (.aa false [
 oX 59 (.mv 3),
 oX 60 (.mv 6),
 oX 61 (.bin .mul 59 60),
 oX 3 (.mv 61)]))))))
 (.aa false [
 oX 62 (.bin .add 23 (kX 1)),
 oX 23 (.mv 62)]))))))))
 (.seq
 (.aa false [
 oX 63 (.mv 3),
 oX 2 (.mv 63)])
 .ret)))))
def QT:List bh:=[.tmp 2]
theorem al5 (NN:Nat) (x:aQ (ai.aP Gp)):cm NN [Ny] Um QT Gp SS x=Lc NN x:=by kernel_rfl
theorem ajd:bH pX 65 Um.er QT 1=true:=by decide+kernel
theorem anI:bV pX 65 Ns.M/\bi pX 65=true:=
  cD (T:=[Ny]) (sc:=Um) (ms:=QT) (args:=Gp) (aA:=SS) (av.cons anN<|av.nil) bP ajd zG fun x y h=>(al5 az x).trans (agk x y h)
def Dr:au:=⟨89,GH,ala,Ta,vo⟩
def UD:bf:=
 (.seq
 (.aa false [
 oX 1 (.box 3 0),
 oX 2 (.mv (kX 0))])
 (.seq
 (.seq
 (.aa false [
 oX 3 (.ao 0 1),
 oX 4 (.load false 1 3)])
 (.block 0
 (.seq
 (.aa false [
 oX 6 (.bin .eql 4 (kX 7)),
 oX 5 (.mv 6)])
 (.cond 5
 (.seq
 (.aa false [
 oX 7 (.ao 2 1),
 oX 8 (.load false 1 7),
 oX 2 (.mv 8)])
 .ret)
 (.seq
 (.aa false [
 oX 10 (.bin .eql 4 (kX 8)),
 oX 9 (.mv 10)])
 (.cond 9
 (.seq
 (.aa false [
 oX 2 (.mv (kX 4))])
 .ret)
 .skip))))))
 (.seq
 (.aa false [
 oX 2 (.mv (kX 1))])
 .ret)))
def Q9:List bh:=[.tmp 2]
theorem aml (NN:Nat) (x:aQ (ai.aP GH)):cm NN [] UD Q9 GH Ta x=Lp NN x:=by kernel_rfl
theorem ajt:bH pX 89 UD.er Q9 1=true:=by decide+kernel
theorem abz:bV pX 89 Dr.M/\bi pX 89=true:=
  cD (T:=[]) (sc:=UD) (ms:=Q9) (args:=GH) (aA:=Ta) (av.nil) bP ajt vo fun x y h=>(aml az x).trans (YL x y h)
def NH:au:=⟨117,GG,ak9,S9,zP⟩
def UC:bf:=
 (.seq
 (.aa false [
 oX 1 (.box 3 0),
 oX 2 (.mv (kX 0))])
 (.seq
 (.seq
 (.aa false [
 oX 3 (.ao 0 1),
 oX 4 (.load false 1 3)])
 (.block 0
 (.seq
 (.aa false [
 oX 6 (.bin .eql 4 (kX 1)),
 oX 5 (.mv 6)])
 (.cond 5
 (.seq
 (.aa false [
 oX 2 (.mv (kX 1))])
 .ret)
 (.seq
 (.seq
 (.aa false [
 oX 8 (.bin .eql 4 (kX 3)),
 oX 7 (.mv 8)])
 (.join ⟨[(7,.one (.c (.v (.bool)))),(4,sX),(1,.one (rX 1))],[(1,.box [vX,vX,vX])]⟩ [1] []
 (.cond 7
 .skip
 (.seq
 (.aa false [
 oX 9 (.bin .eql 4 (kX 4)),
 oX 7 (.mv 9)])
 (.cond 7
 .skip
 (.aa false [
 oX 10 (.bin .eql 4 (kX 5)),
 oX 7 (.mv 10)]))))))
 (.cond 7
 (.seq
 (.aa false [
 oX 11 (.ao 1 1),
 oX 12 (.load false 1 11),
 oX 2 (.mv 12)])
 .ret)
 (.seq
 (.aa false [
 oX 14 (.bin .eql 4 (kX 6)),
 oX 13 (.mv 14)])
 (.cond 13
 (.seq
 (.aa false [
 oX 15 (.ao 2 1),
 oX 16 (.load false 1 15),
 oX 17 (.bin .shl (kX 1) 16),
 oX 18 (.bin .sub 17 (kX 1)),
 oX 2 (.mv 18)])
 .ret)
 .skip))))))))
 (.seq
 (.aa false [
 oX 19 (.ao 1 1),
 oX 20 (.load false 1 19),
 oX 21 (.bin .sub 20 (kX 1)),
 oX 2 (.mv 21)])
 .ret)))
def Q8:List bh:=[.tmp 2]
theorem amk (NN:Nat) (x:aQ (ai.aP GG)):cm NN [] UC Q8 GG S9 x=WM NN x:=by kernel_rfl
theorem ajs:bH pX 117 UC.er Q8 1=true:=by decide+kernel
theorem anW:bV pX 117 NH.M/\bi pX 117=true:=
  cD (T:=[]) (sc:=UC) (ms:=Q8) (args:=GG) (aA:=S9) (av.nil) bP ajs zP fun x y h=>(amk az x).trans (YK x y h)
def NA:au:=⟨90,Gx,ak3,S2,zL⟩
def Uv:bf:=
 (.seq
 (.aa false [
 oX 2 (.box 3 0),
 oX 4 (.mv (.k (.one (.v (.bool) (false)))))])
 (.seq
 (.aa false [
 oX 8 (.load true 3 2),
 oX 9 (.call .ab 117 [8]),
 oX 5 (.mv 9)])
 (.seq
 (.seq
 (.aa false [
 oX 10 (.mv 1),
 oX 11 (.len 10),
 oX 12 (.mv (kX 0))])
 (.join ⟨[],[]⟩ [] []
 (.block 0
 (.loop 0 ⟨[(5,sX),(10,.one (.c (.v (lX)))),(11,sX),(12,sX)],[]⟩ [2] []
 (.seq
 (.aa false [
 oX 13 (.bin .lss 12 11)])
 (.seq
 (.cond 13
 .skip
 (.exit 0))
 (.seq
 (.block 1
 (.seq
 (.aa false [
 oX 14 (.bm 1 10 12),
 oX 15 (.load false 1 14),
 oX 7 (.mv 15)])
 (.seq
 (.aa false [
 oX 16 (.mv 7),
 oX 17 (.bin .lss 16 (kX 0)),
 oX 18 (.mv 17),
 ⟨(some 19),.mv 7,(some (18,false))⟩,
 ⟨(some 20),.mv 5,(some (18,false))⟩,
 ⟨(some 21),.bin .gtr 19 20,(some (18,false))⟩,
 oX 22 (.pick 18 (.k (.one (.v (.bool) (true)))) 21)])
 (.cond 22
 (.seq
 (.aa false [
 oX 4 (.mv (.k (.one (.v (.bool) (false)))))])
 .ret)
 .skip))))
 (.aa false [
 oX 23 (.bin .add 12 (kX 1)),
 oX 12 (.mv 23)]))))))))
 (.seq
 (.aa false [
 oX 4 (.mv (.k (.one (.v (.bool) (true)))))])
 .ret))))
def Q1:List bh:=[.tmp 4]
theorem amd (NN:Nat) (x:aQ (ai.aP Gx)):cm NN [NH] Uv Q1 Gx S2 x=Lj NN x:=by kernel_rfl
theorem ajl:bH pX 90 Uv.er Q1 2=true:=by decide+kernel
theorem anP:bV pX 90 NA.M/\bi pX 90=true:=
  cD (T:=[NH]) (sc:=Uv) (ms:=Q1) (args:=Gx) (aA:=S2) (av.cons anW<|av.nil) bP ajl zL fun x y h=>(amd az x).trans (ags x y h)
def Dq:au:=⟨43,Gn,akU,SR,vm⟩
def Ul:bf:=
 (.seq
 (.aa false [
 oX 2 (.box 3 0),
 oX 3 (.box 3 1),
 oX 4 (.mv (.k (.one (.v (.bool) (false)))))])
 (.seq
 (.seq
 (.aa false [
 oX 6 (.load true 3 2),
 oX 7 (.call .ab 88 [6]),
 oX 8 (.un .not 7)])
 (.cond 8
 (.seq
 (.aa false [
 oX 4 (.mv (.k (.one (.v (.bool) (false)))))])
 .ret)
 .skip))
 (.seq
 (.aa false [
 oX 9 (.load true 3 3),
 oX 10 (.call .ab 65 [9]),
 oX 5 (.mv 10)])
 (.seq
 (.aa true [
 oX 11 (.mv 5),
 oX 12 (.bin .neq 11 (kX (-1))),
 oX 13 (.mv 12),
 ⟨(some 14),.ao 2 3,(some (13,true))⟩,
 ⟨(some 15),.load false 1 14,(some (13,true))⟩,
 ⟨(some 16),.len 15,(some (13,true))⟩,
 ⟨(some 17),.mv 5,(some (13,true))⟩,
 ⟨(some 18),.load true 3 2,(some (13,true))⟩,
 ⟨(some 19),.call .ab 89 [18],(some (13,true))⟩,
 ⟨(some 20),.bin .mul 17 19,(some (13,true))⟩,
 ⟨(some 21),.bin .eql 16 20,(some (13,true))⟩,
 oX 22 (.pick 13 21 (.k (.one (.v (.bool) (false))))),
 oX 23 (.mv 22),
 ⟨(some 24),.load true 3 2,(some (23,true))⟩,
 ⟨(some 25),.ao 2 3,(some (23,true))⟩,
 ⟨(some 26),.load false 1 25,(some (23,true))⟩,
 ⟨(some 27),.call .ab 90 [24,26],(some (23,true))⟩,
 oX 28 (.pick 23 27 (.k (.one (.v (.bool) (false))))),
 oX 4 (.mv 28)])
 .ret))))
def QS:List bh:=[.tmp 4]
theorem al4 (NN:Nat) (x:aQ (ai.aP Gn)):cm NN [Nq,Ns,Dr,NA] Ul QS Gn SR x=Lb NN x:=by kernel_rfl
theorem ajc:bH pX 43 Ul.er QS 2=true:=by decide+kernel
theorem aby:bV pX 43 Dq.M/\bi pX 43=true:=
  cD (T:=[Nq,Ns,Dr,NA]) (sc:=Ul) (ms:=QS) (args:=Gn) (aA:=SR) (av.cons anG<|av.cons anI<|av.cons abz<|av.cons anP<|av.nil) bP ajc vm fun x y h=>(al4 az x).trans (agj x y h)
def rm:au:=⟨47,Gr,akX,SW,nF⟩
def Uo:bf:=
 (.seq
 (.aa false [
 oX 2 (.mv (.k (.one (.nil iX))))])
 (.seq
 (.aa false [
 oX 3 (.mv 0),
 oX 4 (.append true iX 8 (.k (.one (.nil iX))) 3),
 oX 2 (.mv 4)])
 .ret))
def QV:List bh:=[.tmp 2]
theorem al7 (NN:Nat) (x:aQ (ai.aP Gr)):cm NN [] Uo QV Gr SW x=Le NN x:=by kernel_rfl
theorem ajf:bH pX 47 Uo.er QV 1=true:=by decide+kernel
theorem EJ:bV pX 47 rm.M/\bi pX 47=true:=
  cD (T:=[]) (sc:=Uo) (ms:=QV) (args:=Gr) (aA:=SW) (av.nil) bP ajf nF fun x y h=>(al7 az x).trans (agm x y h)
def Nj:au:=⟨141,Gb,akM,SG,xB⟩
def Ua:bf:=
 (.seq
 (.aa false [
 oX 2 (.mv (.k (.one (.v (.bool) (false)))))])
 (.seq
 (.aa false [
 oX 3 (.mv 0),
 oX 4 (.mv 0),
 oX 5 (.bin .neq 3 4),
 oX 2 (.mv 5)])
 .ret))
def QH:List bh:=[.tmp 2]
theorem alT (NN:Nat) (x:aQ (ai.aP Gb)):cm NN [] Ua QH Gb SG x=K5 NN x:=by kernel_rfl
theorem ai1:bH pX 141 Ua.er QH 1=true:=by decide+kernel
theorem anA:bV pX 141 Nj.M/\bi pX 141=true:=
  cD (T:=[]) (sc:=Ua) (ms:=QH) (args:=Gb) (aA:=SG) (av.nil) bP ai1 xB fun x y h=>(alT az x).trans (af7 x y h)
def Dn:au:=⟨131,Ga,akL,SF,CE⟩
def T9:bf:=
 (.seq
 (.aa false [
 oX 4 (.mv (.k (.one (.v (.bool) (false)))))])
 (.seq
 (.aa false [
 oX 5 (.mv 0),
 oX 6 (.call .ab 141 [5]),
 oX 7 (.mv 6),
 ⟨(some 8),.mv 1,(some (7,true))⟩,
 ⟨(some 9),.call .ab 141 [8],(some (7,true))⟩,
 ⟨(some 10),.un .not 9,(some (7,true))⟩,
 oX 11 (.pick 7 10 (.k (.one (.v (.bool) (false))))),
 oX 12 (.mv 11),
 ⟨(some 13),.mv 0,(some (12,false))⟩,
 ⟨(some 14),.mv 1,(some (12,false))⟩,
 ⟨(some 15),.bin .lss 13 14,(some (12,false))⟩,
 oX 16 (.pick 12 (.k (.one (.v (.bool) (true)))) 15),
 oX 4 (.mv 16)])
 .ret))
def QG:List bh:=[.tmp 4]
theorem alS (NN:Nat) (x:aQ (ai.aP Ga)):cm NN [Nj] T9 QG Ga SF x=K4 NN x:=by kernel_rfl
theorem ai0:bH pX 131 T9.er QG 2=true:=by decide+kernel
theorem abw:bV pX 131 Dn.M/\bi pX 131=true:=
  cD (T:=[Nj]) (sc:=T9) (ms:=QG) (args:=Ga) (aA:=SF) (av.cons anA<|av.nil) bP ai0 CE fun x y h=>(alS az x).trans (af6 x y h)
def N1:au:=⟨125,G5,JG,Tv,vr⟩
def UZ:bf:=
 (.seq
 (.aa false [
 oX 8 (.mv 1),
 oX 9 (.bin .add 8 (kX 1)),
 oX 6 (.mv 9)])
 (.block 0
 (.loop 0 ⟨[(0,.one (fX 1000000 1)),(1,sX),(2,sX),(6,sX)],[(1000000,.row false .ab iX)]⟩ [1000000,500000] [(false,0,0,500000,.ab,[])]
 (.seq
 (.seq
 (.aa false [
 oX 10 (.mv 6),
 oX 11 (.mv 2),
 oX 12 (.bin .lss 10 11)])
 (.cond 12
 .skip
 (.exit 0)))
 (.seq
 (.join ⟨[(6,sX),(0,.one (fX 1000000 1)),(1,sX),(2,sX)],[(1000000,.row false .ab iX)]⟩ [1000000,500002] [(false,0,0,500002,.ab,[])]
 (.block 1
 (.seq
 (.aa false [
 oX 15 (.mv 6),
 oX 7 (.mv 15)])
 (.block 2
 (.loop 0 ⟨[(0,.one (fX 1000000 1)),(1,sX),(2,sX),(6,sX),(7,sX)],[(1000000,.row false .ab iX)]⟩ [1000000,500001] [(false,0,0,500001,.ab,[])]
 (.seq
 (.seq
 (.aa true [
 oX 16 (.mv 7),
 oX 17 (.mv 1),
 oX 18 (.bin .gtr 16 17),
 oX 19 (.mv 18),
 ⟨(some 20),.mv 0,(some (19,true))⟩,
 ⟨(some 21),.mv 7,(some (19,true))⟩,
 ⟨(some 22),.bm 1 20 21,(some (19,true))⟩,
 ⟨(some 23),.load false 1 22,(some (19,true))⟩,
 ⟨(some 24),.mv 0,(some (19,true))⟩,
 ⟨(some 25),.mv 7,(some (19,true))⟩,
 ⟨(some 26),.bin .sub 25 (kX 1),(some (19,true))⟩,
 ⟨(some 27),.bm 1 24 26,(some (19,true))⟩,
 ⟨(some 28),.load false 1 27,(some (19,true))⟩,
 ⟨(some 29),.call .ab 131 [23,28],(some (19,true))⟩,
 oX 30 (.pick 19 29 (.k (.one (.v (.bool) (false)))))])
 (.cond 30
 .skip
 (.exit 2)))
 (.seq
 (.block 3
 (.aa true [
 oX 33 (.mv 0),
 oX 34 (.mv 7),
 oX 35 (.mv 0),
 oX 36 (.mv 7),
 oX 37 (.bin .sub 36 (kX 1)),
 oX 38 (.mv 0),
 oX 39 (.mv 7),
 oX 40 (.bin .sub 39 (kX 1)),
 oX 41 (.bm 1 38 40),
 oX 42 (.load false 1 41),
 oX 43 (.mv 0),
 oX 44 (.mv 7),
 oX 45 (.bm 1 43 44),
 oX 46 (.load false 1 45),
 oX 47 (.bm 1 33 34),
 uX (.store 1 47 42),
 oX 48 (.bm 1 35 37),
 uX (.store 1 48 46)]))
 (.aa false [
 oX 31 (.mv 7),
 oX 32 (.bin .sub 31 (kX 1)),
 oX 7 (.mv 32)]))))))))
 (.aa false [
 oX 13 (.mv 6),
 oX 14 (.bin .add 13 (kX 1)),
 oX 6 (.mv 14)]))))))
def Rv:List bh:=[]
theorem amG (NN:Nat) (x:aQ (ai.aP G5)):nz NN [Dn] UZ Rv G5 JG Tv x=LJ NN x:=by kernel_rfl
theorem ajO:bH pX 125 UZ.er Rv 3=true:=by decide+kernel
theorem aog:kA pX 125 JG N1.MM/\bi pX 125=true:=
  pg (T:=[Dn]) (sc:=UZ) (ms:=Rv) (args:=G5) (mu:=JG) (aA:=Tv) (av.cons abw<|av.nil) bP ajO vr fun x y h=>(amG az x).trans (agT x y h)
def N2:au:=⟨123,G6,JH,Tw,z5⟩
def U0:bf:=
 (.seq
 (.aa false [
 oX 8 (.mv (.k (.one (.v (.bool) (true)))))])
 (.seq
 (.aa false [
 oX 9 (.mv (.k (.one (.v (.bool) (true)))))])
 (.block 0
 (.loop 0 ⟨[(0,.one (fX 1000000 1)),(1,sX),(2,sX),(3,sX),(8,.one (.c (.v (.bool)))),(9,.one (.c (.v (.bool))))],[(1000000,.row false .ab iX)]⟩ [1000000,500000] [(false,0,0,500000,.ab,[])]
 (.block 1
 (.seq
 (.aa false [
 oX 19 (.mv 2),
 oX 20 (.mv 1),
 oX 21 (.bin .sub 19 20),
 oX 10 (.mv 21)])
 (.seq
 (.seq
 (.aa false [
 oX 22 (.mv 10),
 oX 23 (.bin .leq 22 (kX 12))])
 (.cond 23
 (.seq
 (.aa false [
 oX 24 (.mv 0),
 oX 25 (.mv 1),
 oX 26 (.mv 2),
 oX 27 (.eN .ab 125 [24,25,26])])
 .ret)
 .skip))
 (.seq
 (.seq
 (.aa false [
 oX 28 (.mv 3),
 oX 29 (.bin .eql 28 (kX 0))])
 (.cond 29
 (.seq
 (.aa false [
 oX 30 (.mv 0),
 oX 31 (.mv 1),
 oX 32 (.mv 2),
 oX 33 (.call .ab 126 [30,31,32])])
 .ret)
 .skip))
 (.seq
 (.seq
 (.aa false [
 oX 34 (.mv 8),
 oX 35 (.un .not 34)])
 (.join ⟨[(9,.one (.c (.v (.bool)))),(8,.one (.c (.v (.bool)))),(10,sX),(2,sX),(0,.one (fX 1000000 1)),(1,sX),(3,sX)],[(1000000,.row false .ab iX)]⟩ [1000000,500001] [(false,0,0,500001,.ab,[])]
 (.cond 35
 (.seq
 (.aa false [
 oX 36 (.mv 0),
 oX 37 (.mv 1),
 oX 38 (.mv 2),
 oX 39 (.call .ab 127 [36,37,38])])
 (.aa false [
 oX 40 (.mv 3),
 oX 41 (.bin .sub 40 (kX 1)),
 oX 3 (.mv 41)]))
 .skip)))
 (.seq
 (.aa false [
 oX 43 (.mv 0),
 oX 44 (.mv 1),
 oX 45 (.mv 2),
 oX 46 (.call .ab 128 [43,44,45]),
 oX 42 (.mv 46),
 oX 47 (.ext 0 42),
 oX 48 (.ext 1 42),
 oX 11 (.mv 47),
 oX 12 (.mv 48)])
 (.seq
 (.seq
 (.aa false [
 oX 49 (.mv 12),
 oX 50 (.bin .eql 49 (kX 2))])
 (.join ⟨[(12,sX),(9,.one (.c (.v (.bool)))),(8,.one (.c (.v (.bool)))),(11,sX),(10,sX),(2,sX),(0,.one (fX 1000000 1)),(1,sX),(3,sX)],[(1000000,.row false .ab iX)]⟩ [1000000,500002] [(false,0,0,500002,.ab,[])]
 (.cond 50
 (.seq
 (.aa false [
 oX 51 (.mv 0),
 oX 52 (.mv 1),
 oX 53 (.mv 2),
 oX 54 (.call .ab 129 [51,52,53])])
 (.seq
 (.aa false [
 oX 55 (.mv 2),
 oX 56 (.bin .sub 55 (kX 1)),
 oX 57 (.mv 11),
 oX 58 (.mv 1),
 oX 59 (.bin .sub 57 58),
 oX 60 (.bin .sub 56 59),
 oX 11 (.mv 60)])
 (.aa false [
 oX 12 (.mv (kX 1))])))
 .skip)))
 (.seq
 (.seq
 (.aa false [
 oX 61 (.mv 8),
 oX 62 (.mv 61),
 ⟨(some 63),.mv 9,(some (62,true))⟩,
 oX 64 (.pick 62 63 (.k (.one (.v (.bool) (false))))),
 oX 65 (.mv 64),
 ⟨(some 66),.mv 12,(some (65,true))⟩,
 ⟨(some 67),.bin .eql 66 (kX 1),(some (65,true))⟩,
 oX 68 (.pick 65 67 (.k (.one (.v (.bool) (false)))))])
 (.join ⟨[(9,.one (.c (.v (.bool)))),(8,.one (.c (.v (.bool)))),(11,sX),(10,sX),(2,sX),(0,.one (fX 1000000 1)),(1,sX),(3,sX)],[(1000000,.row false .ab iX)]⟩ [1000000,500003] [(false,0,0,500003,.ab,[])]
 (.cond 68
 (.seq
 (.aa false [
 oX 69 (.mv 0),
 oX 70 (.mv 1),
 oX 71 (.mv 2),
 oX 72 (.call .ab 130 [69,70,71])])
 (.cond 72
 .ret
 .skip))
 .skip)))
 (.seq
 (.seq
 (.aa true [
 oX 73 (.mv 1),
 oX 74 (.bin .gtr 73 (kX 0)),
 oX 75 (.mv 74),
 ⟨(some 76),.mv 0,(some (75,true))⟩,
 ⟨(some 77),.mv 1,(some (75,true))⟩,
 ⟨(some 78),.bin .sub 77 (kX 1),(some (75,true))⟩,
 ⟨(some 79),.bm 1 76 78,(some (75,true))⟩,
 ⟨(some 80),.load false 1 79,(some (75,true))⟩,
 ⟨(some 81),.mv 0,(some (75,true))⟩,
 ⟨(some 82),.mv 11,(some (75,true))⟩,
 ⟨(some 83),.bm 1 81 82,(some (75,true))⟩,
 ⟨(some 84),.load false 1 83,(some (75,true))⟩,
 ⟨(some 85),.call .ab 131 [80,84],(some (75,true))⟩,
 ⟨(some 86),.un .not 85,(some (75,true))⟩,
 oX 87 (.pick 75 86 (.k (.one (.v (.bool) (false)))))])
 (.cond 87
 (.seq
 (.aa false [
 oX 88 (.mv 0),
 oX 89 (.mv 1),
 oX 90 (.mv 2),
 oX 91 (.mv 11),
 oX 92 (.call .ab 132 [88,89,90,91]),
 oX 13 (.mv 92)])
 (.seq
 (.aa false [
 oX 93 (.mv 13),
 oX 1 (.mv 93)])
 (.exit 1)))
 .skip))
 (.seq
 (.aa false [
 oX 95 (.mv 0),
 oX 96 (.mv 1),
 oX 97 (.mv 2),
 oX 98 (.mv 11),
 oX 99 (.call .ab 133 [95,96,97,98]),
 oX 94 (.mv 99),
 oX 100 (.ext 0 94),
 oX 101 (.ext 1 94),
 oX 14 (.mv 100),
 oX 15 (.mv 101)])
 (.seq
 (.aa false [
 oX 102 (.mv 15),
 oX 9 (.mv 102)])
 (.seq
 (.aa false [
 oX 103 (.mv 14),
 oX 104 (.mv 1),
 oX 105 (.bin .sub 103 104),
 oX 106 (.mv 2),
 oX 107 (.mv 14),
 oX 108 (.bin .sub 106 107),
 oX 16 (.mv 105),
 oX 17 (.mv 108)])
 (.seq
 (.aa false [
 oX 109 (.mv 10),
 oX 110 (.bin .quo 109 (kX 8)),
 oX 18 (.mv 110)])
 (.seq
 (.aa false [
 oX 111 (.mv 16),
 oX 112 (.mv 17),
 oX 113 (.bin .lss 111 112)])
 (.cond 113
 (.seq
 (.aa false [
 oX 114 (.mv 16),
 oX 115 (.mv 18),
 oX 116 (.bin .geq 114 115),
 oX 8 (.mv 116)])
 (.seq
 (.aa false [
 oX 117 (.mv 0),
 oX 118 (.mv 1),
 oX 119 (.mv 14),
 oX 120 (.mv 3),
 oX 121 (.eN .ab 123 [117,118,119,120])])
 (.aa false [
 oX 122 (.mv 14),
 oX 123 (.bin .add 122 (kX 1)),
 oX 1 (.mv 123)])))
 (.seq
 (.aa false [
 oX 124 (.mv 17),
 oX 125 (.mv 18),
 oX 126 (.bin .geq 124 125),
 oX 8 (.mv 126)])
 (.seq
 (.aa false [
 oX 127 (.mv 0),
 oX 128 (.mv 14),
 oX 129 (.bin .add 128 (kX 1)),
 oX 130 (.mv 2),
 oX 131 (.mv 3),
 oX 132 (.eN .ab 123 [127,129,130,131])])
 (.aa false [
 oX 133 (.mv 14),
 oX 2 (.mv 133)]))))))))))))))))))))))
def Rw:List bh:=[]
theorem amH (NN:Nat) (x:aQ (ai.aP G6)):nz NN [N1,Dn] U0 Rw G6 JH Tw x=LK NN x:=by kernel_rfl
theorem ajP:bH pX 123 U0.er Rw 4=true:=by decide+kernel
theorem aoh:kA pX 123 JH N2.MM/\bi pX 123=true:=
  pg (T:=[N1,Dn]) (sc:=U0) (ms:=Rw) (args:=G6) (mu:=JH) (aA:=Tw) (av.lA aog<|av.cons abw<|av.nil) bP ajP z5 fun x y h=>(amH az x).trans (agU x y h)
def N0:au:=⟨122,G4,JF,Tu,z4⟩
def UY:bf:=
 (.seq
 (.aa false [
 oX 3 (.mv 0),
 oX 4 (.len 3),
 oX 2 (.mv 4)])
 (.aa false [
 oX 5 (.mv 0),
 oX 6 (.mv 2),
 oX 7 (.mv 2),
 oX 8 (.conv .u64 7),
 oX 9 (.call .ab 124 [8]),
 oX 10 (.eN .ab 123 [5,(kX 0),6,9])]))
def Ru:List bh:=[]
theorem amF (NN:Nat) (x:aQ (ai.aP G4)):nz NN [NZ,N2] UY Ru G4 JF Tu x=LI NN x:=by kernel_rfl
theorem ajN:bH pX 122 UY.er Ru 1=true:=by decide+kernel
theorem aof:kA pX 122 JF N0.MM/\bi pX 122=true:=
  pg (T:=[NZ,N2]) (sc:=UY) (ms:=Ru) (args:=G4) (mu:=JF) (aA:=Tu) (av.cons aoe<|av.lA aoh<|av.nil) bP ajN z4 fun x y h=>(amF az x).trans (agS x y h)
def NI:au:=⟨92,GI,alb,Tb,zQ⟩
def UE:bf:=
 (.seq
 (.aa false [
 oX 2 (.mv (.k (.one (.nil iX))))])
 (.seq
 (.aa false [
 oX 4 (.mv 0),
 oX 5 (.call .ab 47 [4]),
 oX 3 (.mv 5)])
 (.seq
 (.aa false [
 oX 6 (.mv 3),
 oX 7 (.eN .ab 122 [6])])
 (.seq
 (.aa false [
 oX 8 (.mv 3),
 oX 2 (.mv 8)])
 .ret))))
def Ra:List bh:=[.tmp 2]
theorem amm (NN:Nat) (x:aQ (ai.aP GI)):cm NN [rm,N0] UE Ra GI Tb x=Lq NN x:=by kernel_rfl
theorem aju:bH pX 92 UE.er Ra 1=true:=by decide+kernel
theorem anX:bV pX 92 NI.M/\bi pX 92=true:=
  cD (T:=[rm,N0]) (sc:=UE) (ms:=Ra) (args:=GI) (aA:=Tb) (av.cons EJ<|av.lA aof<|av.nil) bP aju zQ fun x y h=>(amm az x).trans (agz x y h)
def Nt:au:=⟨118,Gq,akW,SU,zH⟩
def Un:bf:=
 (.seq
 (.aa false [
 oX 2 (.box 3 0),
 oX 4 (.mv (kX 0))])
 (.seq
 (.seq
 (.aa false [
 oX 7 (.ao 0 2),
 oX 8 (.load false 1 7),
 oX 9 (.len 8),
 oX 10 (.mv (kX 0))])
 (.join ⟨[],[]⟩ [] []
 (.block 0
 (.loop 0 ⟨[(1,sX),(8,.one (.c (.v (lX)))),(9,sX),(10,sX)],[]⟩ [2] []
 (.seq
 (.aa false [
 oX 11 (.bin .lss 10 9)])
 (.seq
 (.cond 11
 .skip
 (.exit 0))
 (.seq
 (.block 1
 (.seq
 (.aa false [
 oX 12 (.mv 10),
 oX 13 (.bm 1 8 10),
 oX 14 (.load false 1 13),
 oX 5 (.mv 12),
 oX 6 (.mv 14)])
 (.seq
 (.aa false [
 oX 15 (.mv 6),
 oX 16 (.mv 1),
 oX 17 (.bin .eql 15 16)])
 (.cond 17
 (.seq
 (.aa false [
 oX 18 (.mv 5),
 oX 4 (.mv 18)])
 .ret)
 .skip))))
 (.aa false [
 oX 19 (.bin .add 10 (kX 1)),
 oX 10 (.mv 19)]))))))))
 (.seq
 (.aa false [
 oX 4 (.mv (kX (-1)))])
 .ret)))
def QU:List bh:=[.tmp 4]
theorem al6 (NN:Nat) (x:aQ (ai.aP Gq)):cm NN [] Un QU Gq SU x=Ld NN x:=by kernel_rfl
theorem aje:bH pX 118 Un.er QU 2=true:=by decide+kernel
theorem anJ:bV pX 118 Nt.M/\bi pX 118=true:=
  cD (T:=[]) (sc:=Un) (ms:=QU) (args:=Gq) (aA:=SU) (av.nil) bP aje zH fun x y h=>(al6 az x).trans (agl x y h)
def NJ:au:=⟨119,GJ,alc,Tc,zR⟩
def UF:bf:=
 (.seq
 (.aa false [
 oX 2 (.box 3 0),
 oX 4 (.mv (.k (.one (.nil iX))))])
 (.seq
 (.aa false [
 oX 10 (.mv 1),
 oX 11 (.len 10),
 oX 12 (.jC .ab iX 8 (0:Int) 11 11),
 oX 5 (.mv 12)])
 (.seq
 (.aa false [
 oX 6 (.mv (kX 1))])
 (.seq
 (.seq
 (.aa false [
 oX 13 (.ao 1 2),
 oX 14 (.load false 1 13),
 oX 15 (.len 14),
 oX 16 (.bin .sub 15 (kX 1)),
 oX 7 (.mv 16)])
 (.join ⟨[(5,.one (fX 500004 1))],[(500004,.row true .ab iX)]⟩ [2,500000,500004] [(false,5,0,500004,.ab,[])]
 (.block 0
 (.loop 0 ⟨[(1,.one (.c (.v (lX)))),(2,.one (rX 2)),(5,.one (fX 500000 1)),(6,sX),(7,sX)],[(2,.box [.c (.v (lX)),.c (.v (lX)),.c (.v (lX))]),(500000,.row true .ab iX)]⟩ [2,12,500000,500003] [(false,5,0,500000,.ab,[])]
 (.seq
 (.seq
 (.aa false [
 oX 17 (.mv 7),
 oX 18 (.bin .geq 17 (kX 0))])
 (.cond 18
 .skip
 (.exit 0)))
 (.seq
 (.join ⟨[(7,sX),(1,.one (.c (.v (lX)))),(2,.one (rX 2)),(5,.one (fX 500003 1)),(6,sX)],[(2,.box [.c (.v (lX)),.c (.v (lX)),.c (.v (lX))]),(500003,.row true .ab iX)]⟩ [2,500002,500003] [(false,5,0,500003,.ab,[])]
 (.block 1
 (.seq
 (.seq
 (.aa false [
 oX 21 (.mv 1),
 oX 22 (.len 21),
 oX 23 (.mv (kX 0))])
 (.join ⟨[(6,sX),(7,sX),(1,.one (.c (.v (lX)))),(2,.one (rX 2)),(5,.one (fX 500002 1))],[(2,.box [.c (.v (lX)),.c (.v (lX)),.c (.v (lX))]),(500002,.row true .ab iX)]⟩ [2,500001,500002] [(false,5,0,500002,.ab,[])]
 (.block 2
 (.loop 0 ⟨[(1,.one (.c (.v (lX)))),(2,.one (rX 2)),(5,.one (fX 500001 1)),(6,sX),(7,sX),(21,.one (.c (.v (lX)))),(22,sX),(23,sX)],[(2,.box [.c (.v (lX)),.c (.v (lX)),.c (.v (lX))]),(500001,.row true .ab iX)]⟩ [2,500000,500001] [(false,5,0,500001,.ab,[])]
 (.seq
 (.aa false [
 oX 24 (.bin .lss 23 22)])
 (.seq
 (.cond 24
 .skip
 (.exit 2))
 (.seq
 (.block 3
 (.seq
 (.aa false [
 oX 25 (.mv 23),
 oX 26 (.bm 1 21 23),
 oX 27 (.load false 1 26),
 oX 8 (.mv 25),
 oX 9 (.mv 27)])
 (.seq
 (.aa false [
 oX 28 (.mv 9),
 oX 29 (.ao 0 2),
 oX 30 (.load false 1 29),
 oX 31 (.mv 7),
 oX 32 (.bm 1 30 31),
 oX 33 (.load false 1 32),
 oX 34 (.bin .eql 28 33)])
 (.cond 34
 (.aa false [
 oX 35 (.mv 5),
 oX 36 (.mv 8),
 oX 37 (.mv 6),
 oX 38 (.bm 1 35 36),
 uX (.store 1 38 37)])
 .skip))))
 (.aa false [
 oX 39 (.bin .add 23 (kX 1)),
 oX 23 (.mv 39)]))))))))
 (.aa false [
 oX 40 (.mv 6),
 oX 41 (.ao 1 2),
 oX 42 (.load false 1 41),
 oX 43 (.mv 7),
 oX 44 (.bm 1 42 43),
 oX 45 (.load false 1 44),
 oX 46 (.bin .mul 40 45),
 oX 6 (.mv 46)]))))
 (.aa false [
 oX 19 (.mv 7),
 oX 20 (.bin .sub 19 (kX 1)),
 oX 7 (.mv 20)])))))))
 (.seq
 (.aa false [
 oX 47 (.mv 5),
 oX 4 (.mv 47)])
 .ret)))))
def Rb:List bh:=[.tmp 4]
theorem amn (NN:Nat) (x:aQ (ai.aP GJ)):cm NN [] UF Rb GJ Tc x=Lr NN x:=by kernel_rfl
theorem ajv:bH pX 119 UF.er Rb 2=true:=by decide+kernel
theorem anY:bV pX 119 NJ.M/\bi pX 119=true:=
  cD (T:=[]) (sc:=UF) (ms:=Rb) (args:=GJ) (aA:=Tc) (av.nil) bP ajv zR fun x y h=>(amn az x).trans (agA x y h)
def Nv:au:=⟨121,Gt,akZ,SY,zJ⟩
def Uq:bf:=
 (.seq
 (.aa false [
 oX 4 (.mv (kX 0))])
 (.seq
 (.aa false [
 oX 5 (.mv (kX 0))])
 (.seq
 (.seq
 (.aa false [
 oX 7 (.mv 0),
 oX 8 (.len 7),
 oX 9 (.mv (kX 0))])
 (.join ⟨[(5,sX)],[]⟩ [] []
 (.block 0
 (.loop 0 ⟨[(0,.one (.c (.v (lX)))),(1,.one (.c (.v (lX)))),(5,sX),(8,sX),(9,sX)],[]⟩ [] []
 (.seq
 (.aa false [
 oX 10 (.bin .lss 9 8)])
 (.seq
 (.cond 10
 .skip
 (.exit 0))
 (.seq
 (.block 1
 (.seq
 (.aa false [
 oX 11 (.mv 9),
 oX 6 (.mv 11)])
 (.aa true [
 oX 12 (.mv 5),
 oX 13 (.mv 0),
 oX 14 (.mv 6),
 oX 15 (.bm 1 13 14),
 oX 16 (.load false 1 15),
 oX 17 (.mv 1),
 oX 18 (.mv 6),
 oX 19 (.bm 1 17 18),
 oX 20 (.load false 1 19),
 oX 21 (.bin .mul 16 20),
 oX 22 (.bin .add 12 21),
 oX 5 (.mv 22)])))
 (.aa false [
 oX 23 (.bin .add 9 (kX 1)),
 oX 9 (.mv 23)]))))))))
 (.seq
 (.aa false [
 oX 24 (.mv 5),
 oX 4 (.mv 24)])
 .ret))))
def QX:List bh:=[.tmp 4]
theorem al9 (NN:Nat) (x:aQ (ai.aP Gt)):cm NN [] Uq QX Gt SY x=Lg NN x:=by kernel_rfl
theorem ajh:bH pX 121 Uq.er QX 2=true:=by decide+kernel
theorem anL:bV pX 121 Nv.M/\bi pX 121=true:=
  cD (T:=[]) (sc:=Uq) (ms:=QX) (args:=Gt) (aA:=SY) (av.nil) bP ajh zJ fun x y h=>(al9 az x).trans (ago x y h)
def ND:au:=⟨120,GA,ak5,S5,xG⟩
def Uy:bf:=
 (.seq
 (.aa false [
 oX 3 (.box 3 0),
 oX 4 (.box 3 1),
 oX 6 (.mv (.k (.one (.nil iX))))])
 (.seq
 (.aa false [
 oX 8 (.load true 3 3),
 oX 9 (.call .ab 89 [8]),
 oX 7 (.mv 9)])
 (.seq
 (.aa false [
 oX 10 (.ao 2 4),
 oX 11 (.load false 1 10),
 oX 12 (.mv 2),
 oX 13 (.mv 7),
 oX 14 (.bin .mul 12 13),
 oX 15 (.mv 2),
 oX 16 (.bin .add 15 (kX 1)),
 oX 17 (.mv 7),
 oX 18 (.bin .mul 16 17),
 oX 19 (.slice 1 11 (some 14) (some 18)),
 oX 6 (.mv 19)])
 .ret)))
def Q4:List bh:=[.tmp 6]
theorem amg (NN:Nat) (x:aQ (ai.aP GA)):T0 NN [Dr] Uy Q4 GA S5 x=Lm NN x:=by kernel_rfl
theorem ajo:bH pX 120 Uy.er Q4 3=true:=by decide+kernel
theorem anS:Af Go.Proofs.Try.prog 120 ND.MV/\bi pX 120=true:=
  aqA (T:=[Dr]) (sc:=Uy) (ms:=Q4) (args:=GA) (aA:=S5) (av.cons abz<|av.nil) bP ajo xG fun x y h=>(amg az x).trans (agv x y h)
def NB:au:=⟨58,Gy,JA,S3,vn⟩
def Uw:bf:=
 (.seq
 (.aa false [
 oX 4 (.mv (.k (.one (.v (.bool) (false)))))])
 (.seq
 (.seq
 (.aa false [
 oX 6 (.mv 0),
 oX 7 (.len 6),
 oX 8 (.bin .sub 7 (kX 1)),
 oX 5 (.mv 8)])
 (.join ⟨[],[(1000000,.row false .ab iX)]⟩ [1000000] []
 (.block 0
 (.loop 0 ⟨[(0,.one (.c (.v (lX)))),(1,.one (fX 1000000 1)),(5,sX)],[(1000000,.row false .ab iX)]⟩ [1000000,500000] [(false,1,0,500000,.ab,[])]
 (.seq
 (.seq
 (.aa false [
 oX 9 (.mv 5),
 oX 10 (.bin .geq 9 (kX 0))])
 (.cond 10
 .skip
 (.exit 0)))
 (.seq
 (.block 1
 (.seq
 (.aa false [
 oX 13 (.mv 1),
 oX 14 (.mv 5),
 oX 15 (.bm 1 13 14),
 oX 16 (.load false 1 15),
 oX 17 (.bin .add 16 (kX 1)),
 oX 18 (.bm 1 13 14),
 uX (.store 1 18 17)])
 (.seq
 (.seq
 (.aa true [
 oX 19 (.mv 1),
 oX 20 (.mv 5),
 oX 21 (.bm 1 19 20),
 oX 22 (.load false 1 21),
 oX 23 (.mv 0),
 oX 24 (.mv 5),
 oX 25 (.bm 1 23 24),
 oX 26 (.load false 1 25),
 oX 27 (.bin .lss 22 26)])
 (.cond 27
 (.seq
 (.aa false [
 oX 4 (.mv (.k (.one (.v (.bool) (true)))))])
 .ret)
 .skip))
 (.aa false [
 oX 28 (.mv 1),
 oX 29 (.mv 5),
 oX 30 (.bm 1 28 29),
 uX (.store 1 30 (kX 0))]))))
 (.aa false [
 oX 11 (.mv 5),
 oX 12 (.bin .sub 11 (kX 1)),
 oX 5 (.mv 12)])))))))
 (.seq
 (.aa false [
 oX 4 (.mv (.k (.one (.v (.bool) (false)))))])
 .ret)))
def Q2:List bh:=[.tmp 4]
theorem ame (NN:Nat) (x:aQ (ai.aP Gy)):nz NN [] Uw Q2 Gy JA S3 x=Lk NN x:=by kernel_rfl
theorem ajm:bH pX 58 Uw.er Q2 2=true:=by decide+kernel
theorem anQ:kA pX 58 JA NB.MM/\bi pX 58=true:=
  pg (T:=[]) (sc:=Uw) (ms:=Q2) (args:=Gy) (mu:=JA) (aA:=S3) (av.nil) bP ajm vn fun x y h=>(ame az x).trans (agt x y h)
def NF:au:=⟨91,GD,ak7,S7,zO⟩
def UA:bf:=
 (.seq
 (.aa false [
 oX 3 (.box 3 0),
 oX 4 (.box 3 1),
 oX 6 (.alloc [.nil iX,.nil iX,.nil iX])])
 (.seq
 (.aa true [
 oX 12 (.mv 2),
 oX 13 (.call .ab 47 [12]),
 oX 14 (.mv 2),
 oX 15 (.len 14),
 oX 16 (.jC .ab iX 8 (0:Int) 15 15),
 oX 17 (.build [.nil iX,.nil iX,.nil iX] [(0,1,13),(1,1,16)]),
 oX 7 (.alloc [.nil iX,.nil iX,.nil iX]),
 uX (.store 3 7 17)])
 (.seq
 (.seq
 (.aa false [
 oX 18 (.mv 2),
 oX 19 (.len 18),
 oX 20 (.mv (kX 0))])
 (.join ⟨[(2,.one (.c (.v (lX)))),(7,.one (rX 7)),(6,.one (rX 6)),(4,.one (rX 4)),(3,.one (rX 3))],[(3,.box [vX,vX,vX]),(4,.box [.c (.v (lX)),.c (.v (lX)),.c (.v (lX))]),(6,.box [fX 500006 1,fX 500007 1,fX 500008 1]),(7,.box [fX 500009 1,fX 500010 1,fX 500011 1]),(500006,.row true .ab iX),(500007,.row true .ab iX),(500008,.row true .ab iX),(500009,.row true .ab iX),(500010,.row true .ab iX),(500011,.row true .ab iX)]⟩ [3,4,6,7,500000,500001,500002,500003,500004,500005,500006,500007,500008,500009,500010,500011] [(true,6,0,500006,.ab,[]),(true,6,1,500007,.ab,[]),(true,6,2,500008,.ab,[]),(true,7,0,500009,.ab,[]),(true,7,1,500010,.ab,[]),(true,7,2,500011,.ab,[])]
 (.block 0
 (.loop 0 ⟨[(2,.one (.c (.v (lX)))),(3,.one (rX 3)),(4,.one (rX 4)),(6,.one (rX 6)),(7,.one (rX 7)),(18,.one (.c (.v (lX)))),(19,sX),(20,sX)],[(3,.box [vX,vX,vX]),(4,.box [.c (.v (lX)),.c (.v (lX)),.c (.v (lX))]),(6,.box [fX 500000 1,fX 500001 1,fX 500002 1]),(7,.box [fX 500003 1,fX 500004 1,fX 500005 1]),(500000,.row true .ab iX),(500001,.row true .ab iX),(500002,.row true .ab iX),(500003,.row true .ab iX),(500004,.row true .ab iX),(500005,.row true .ab iX)]⟩ [3,4,6,14000,16,7,500000,500001,500002,500003,500004,500005] [(true,6,0,500000,.ab,[]),(true,6,1,500001,.ab,[]),(true,6,2,500002,.ab,[]),(true,7,0,500003,.ab,[]),(true,7,1,500004,.ab,[]),(true,7,2,500005,.ab,[])]
 (.seq
 (.aa false [
 oX 21 (.bin .lss 20 19)])
 (.seq
 (.cond 21
 .skip
 (.exit 0))
 (.seq
 (.block 1
 (.seq
 (.aa false [
 oX 22 (.mv 20),
 oX 23 (.bm 1 18 20),
 oX 24 (.load false 1 23),
 oX 8 (.mv 22),
 oX 9 (.mv 24)])
 (.aa true [
 oX 25 (.ao 1 7),
 oX 26 (.load false 1 25),
 oX 27 (.mv 8),
 oX 28 (.ao 1 4),
 oX 29 (.load false 1 28),
 oX 30 (.load true 3 4),
 oX 31 (.mv 9),
 oX 32 (.call .ab 118 [30,31]),
 oX 33 (.bm 1 29 32),
 oX 34 (.load false 1 33),
 oX 35 (.bm 1 26 27),
 uX (.store 1 35 34)])))
 (.aa false [
 oX 36 (.bin .add 20 (kX 1)),
 oX 20 (.mv 36)]))))))))
 (.seq
 (.aa false [
 oX 37 (.load true 3 4),
 oX 38 (.mv 2),
 oX 39 (.call .ab 119 [37,38]),
 oX 10 (.mv 39)])
 (.seq
 (.aa false [
 oX 40 (.mv 2),
 oX 41 (.len 40),
 oX 42 (.jC .ab iX 8 (0:Int) 41 41),
 oX 11 (.mv 42)])
 (.block 2
 (.loop 0 ⟨[(3,.one (rX 3)),(4,.one (rX 4)),(6,.one (rX 6)),(7,.one (rX 7)),(10,.one (fX 500018 1)),(11,.one (fX 500019 1))],[(3,.box [vX,vX,vX]),(4,.box [.c (.v (lX)),.c (.v (lX)),.c (.v (lX))]),(6,.box [fX 500012 1,fX 500013 1,fX 500014 1]),(7,.box [fX 500015 1,fX 500016 1,fX 500017 1]),(500012,.row true .ab iX),(500013,.row true .ab iX),(500014,.row true .ab iX),(500015,.row true .ab iX),(500016,.row true .ab iX),(500017,.row true .ab iX),(500018,.row true .ab iX),(500019,.row true .ab iX)]⟩ [3,4,6,7,40000,42,51,500006,500007,500008,500009,500010,500011,500012,500013,500014,500015,500016,500017,500018,500019] [(true,6,0,500012,.ab,[]),(true,6,1,500013,.ab,[]),(true,6,2,500014,.ab,[]),(true,7,0,500015,.ab,[]),(true,7,1,500016,.ab,[]),(true,7,2,500017,.ab,[]),(false,10,0,500018,.ab,[]),(false,11,0,500019,.ab,[])]
 (.block 3
 (.seq
 (.aa true [
 oX 43 (.ao 2 7),
 oX 44 (.load false 1 43),
 oX 45 (.load true 3 3),
 oX 46 (.load true 3 4),
 oX 47 (.mv 10),
 oX 48 (.mv 11),
 oX 49 (.call .ab 121 [47,48]),
 oX 50 (.lv 120 [45,46,49]),
 oX 51 (.append true iX 8 44 50),
 oX 52 (.ao 2 7),
 uX (.store 1 52 51)])
 (.seq
 (.aa false [
 oX 53 (.ao 1 7),
 oX 54 (.load false 1 53),
 oX 55 (.mv 11),
 oX 56 (.eN .ab 58 [54,55]),
 oX 57 (.un .not 56)])
 (.cond 57
 (.seq
 (.aa false [
 oX 58 (.load true 3 7),
 uX (.store 3 6 58)])
 .ret)
 .skip)))))))))))
def Q6:List bh:=[.cell 6 3 true]
theorem ami (NN:Nat) (x:aQ (ai.aP GD)):cm NN [rm,Nt,NJ,Nv,ND,NB] UA Q6 GD S7 x=Lo NN x:=by kernel_rfl
theorem ajq:bH pX 91 UA.er Q6 3=true:=by decide+kernel
theorem anU:bV pX 91 NF.M/\bi pX 91=true:=
  cD (T:=[rm,Nt,NJ,Nv,ND,NB]) (sc:=UA) (ms:=Q6) (args:=GD) (aA:=S7) (av.cons EJ<|av.cons anJ<|av.cons anY<|av.cons anL<|av.afa anS<|av.lA anQ<|av.nil) bP ajq zO fun x y h=>(ami az x).trans (agx x y h)
def Nr:au:=⟨44,Gm,akT,SQ,zF⟩
def Uk:bf:=
 (.seq
 (.aa false [
 oX 2 (.box 3 0),
 oX 3 (.box 3 1),
 oX 4 (.alloc [.nil iX,.nil iX,.nil iX])])
 (.seq
 (.seq
 (.aa false [
 oX 5 (.load true 3 2),
 oX 6 (.load true 3 3),
 oX 7 (.call .ab 43 [5,6]),
 oX 8 (.un .not 7)])
 (.cond 8
 (.seq
 (.aa false [
 oX 9 (.build [.nil iX,.nil iX,.nil iX] []),
 uX (.store 3 4 9)])
 .ret)
 .skip))
 (.seq
 (.aa true [
 oX 10 (.load true 3 2),
 oX 11 (.load true 3 3),
 oX 12 (.ao 0 3),
 oX 13 (.load false 1 12),
 oX 14 (.call .ab 92 [13]),
 oX 15 (.call .ab 91 [10,11,14]),
 uX (.store 3 4 15)])
 .ret)))
def QR:List bh:=[.cell 4 3 true]
theorem al3 (NN:Nat) (x:aQ (ai.aP Gm)):cm NN [Dq,NI,NF] Uk QR Gm SQ x=La NN x:=by kernel_rfl
theorem ajb:bH pX 44 Uk.er QR 2=true:=by decide+kernel
theorem anH:bV pX 44 Nr.M/\bi pX 44=true:=
  cD (T:=[Dq,NI,NF]) (sc:=Uk) (ms:=QR) (args:=Gm) (aA:=SQ) (av.cons aby<|av.cons anX<|av.cons anU<|av.nil) bP ajb zF fun x y h=>(al3 az x).trans (agi x y h)
def NC:au:=⟨45,Gz,ak4,S4,zM⟩
def Ux:bf:=
 (.seq
 (.aa false [
 oX 2 (.mv (kX 0))])
 (.seq
 (.aa false [
 oX 3 (.mv (kX 1))])
 (.seq
 (.seq
 (.aa false [
 oX 6 (.mv 0),
 oX 7 (.len 6),
 oX 8 (.mv (kX 0))])
 (.join ⟨[(3,sX)],[]⟩ [] []
 (.block 0
 (.loop 0 ⟨[(3,sX),(6,.one (.c (.v (lX)))),(7,sX),(8,sX)],[]⟩ [] []
 (.seq
 (.aa false [
 oX 9 (.bin .lss 8 7)])
 (.seq
 (.cond 9
 .skip
 (.exit 0))
 (.seq
 (.block 1
 (.seq
 (.aa false [
 oX 10 (.bm 1 6 8),
 oX 11 (.load false 1 10),
 oX 5 (.mv 11)])
 (.aa false [
 oX 12 (.mv 3),
 oX 13 (.mv 5),
 oX 14 (.bin .mul 12 13),
 oX 3 (.mv 14)])))
 (.aa false [
 oX 15 (.bin .add 8 (kX 1)),
 oX 8 (.mv 15)]))))))))
 (.seq
 (.aa false [
 oX 16 (.mv 3),
 oX 2 (.mv 16)])
 .ret))))
def Q3:List bh:=[.tmp 2]
theorem amf (NN:Nat) (x:aQ (ai.aP Gz)):cm NN [] Ux Q3 Gz S4 x=Ll NN x:=by kernel_rfl
theorem ajn:bH pX 45 Ux.er Q3 1=true:=by decide+kernel
theorem anR:bV pX 45 NC.M/\bi pX 45=true:=
  cD (T:=[]) (sc:=Ux) (ms:=Q3) (args:=Gz) (aA:=S4) (av.nil) bP ajn zM fun x y h=>(amf az x).trans (agu x y h)
def Nz:au:=⟨100,Gw,ak2,S1,zK⟩
def Uu:bf:=
 (.seq
 (.aa false [
 oX 4 (.mv (.k (.one (.v (.bool) (false)))))])
 (.seq
 (.seq
 (.aa false [
 oX 7 (.mv 1),
 oX 8 (.len 7),
 oX 9 (.mv (kX 0))])
 (.join ⟨[],[]⟩ [] []
 (.block 0
 (.loop 0 ⟨[(0,sX),(7,.one (.c (.v (lX)))),(8,sX),(9,sX)],[]⟩ [] []
 (.seq
 (.aa false [
 oX 10 (.bin .lss 9 8)])
 (.seq
 (.cond 10
 .skip
 (.exit 0))
 (.seq
 (.block 1
 (.seq
 (.aa false [
 oX 11 (.bm 1 7 9),
 oX 12 (.load false 1 11),
 oX 6 (.mv 12)])
 (.seq
 (.aa false [
 oX 13 (.mv 6),
 oX 14 (.bin .lss 13 (kX 0)),
 oX 15 (.mv 14),
 ⟨(some 16),.mv 6,(some (15,false))⟩,
 ⟨(some 17),.mv 0,(some (15,false))⟩,
 ⟨(some 18),.bin .geq 16 17,(some (15,false))⟩,
 oX 19 (.pick 15 (.k (.one (.v (.bool) (true)))) 18)])
 (.cond 19
 (.seq
 (.aa false [
 oX 4 (.mv (.k (.one (.v (.bool) (false)))))])
 .ret)
 .skip))))
 (.aa false [
 oX 20 (.bin .add 9 (kX 1)),
 oX 9 (.mv 20)]))))))))
 (.seq
 (.aa false [
 oX 4 (.mv (.k (.one (.v (.bool) (true)))))])
 .ret)))
def Q0:List bh:=[.tmp 4]
theorem amc (NN:Nat) (x:aQ (ai.aP Gw)):cm NN [] Uu Q0 Gw S1 x=Li NN x:=by kernel_rfl
theorem ajk:bH pX 100 Uu.er Q0 2=true:=by decide+kernel
theorem anO:bV pX 100 Nz.M/\bi pX 100=true:=
  cD (T:=[]) (sc:=Uu) (ms:=Q0) (args:=Gw) (aA:=S1) (av.nil) bP ajk zK fun x y h=>(amc az x).trans (agr x y h)
def Nm:au:=⟨62,Gf,akQ,SK,xD⟩
def Ue:bf:=
 (.seq
 (.aa false [
 oX 3 (.box 3 1),
 oX 4 (.mv (.k (.one (.v (.bool) (false)))))])
 (.seq
 (.seq
 (.aa false [
 oX 5 (.mv 0),
 oX 6 (.call .ab 60 [5]),
 oX 7 (.un .not 6),
 oX 8 (.mv 7),
 ⟨(some 9),.ao 0 3,(some (8,false))⟩,
 ⟨(some 10),.load false 1 9,(some (8,false))⟩,
 ⟨(some 11),.bin .lss 10 (kX 0),(some (8,false))⟩,
 oX 12 (.pick 8 (.k (.one (.v (.bool) (true)))) 11),
 oX 13 (.mv 12),
 ⟨(some 14),.ao 1 3,(some (13,false))⟩,
 ⟨(some 15),.load false 1 14,(some (13,false))⟩,
 ⟨(some 16),.bin .lss 15 (kX 0),(some (13,false))⟩,
 oX 17 (.pick 13 (.k (.one (.v (.bool) (true)))) 16),
 oX 18 (.mv 17),
 ⟨(some 19),.ao 0 3,(some (18,false))⟩,
 ⟨(some 20),.load false 1 19,(some (18,false))⟩,
 ⟨(some 21),.bin .gtr 20 (kX 64),(some (18,false))⟩,
 oX 22 (.pick 18 (.k (.one (.v (.bool) (true)))) 21),
 oX 23 (.mv 22),
 ⟨(some 24),.ao 1 3,(some (23,false))⟩,
 ⟨(some 25),.load false 1 24,(some (23,false))⟩,
 ⟨(some 26),.bin .gtr 25 (kX 64),(some (23,false))⟩,
 oX 27 (.pick 23 (.k (.one (.v (.bool) (true)))) 26)])
 (.cond 27
 (.seq
 (.aa false [
 oX 4 (.mv (.k (.one (.v (.bool) (false)))))])
 .ret)
 .skip))
 (.seq
 (.aa false [
 oX 28 (.ao 2 3),
 oX 29 (.load false 1 28),
 oX 30 (.len 29),
 oX 31 (.ao 0 3),
 oX 32 (.load false 1 31),
 oX 33 (.ao 1 3),
 oX 34 (.load false 1 33),
 oX 35 (.bin .mul 32 34),
 oX 36 (.bin .eql 30 35),
 oX 37 (.mv 36),
 ⟨(some 38),.mv 0,(some (37,true))⟩,
 ⟨(some 39),.ao 2 3,(some (37,true))⟩,
 ⟨(some 40),.load false 1 39,(some (37,true))⟩,
 ⟨(some 41),.call .ab 100 [38,40],(some (37,true))⟩,
 oX 42 (.pick 37 41 (.k (.one (.v (.bool) (false))))),
 oX 4 (.mv 42)])
 .ret)))
def QL:List bh:=[.tmp 4]
theorem alX (NN:Nat) (x:aQ (ai.aP Gf)):cm NN [Dp,Nz] Ue QL Gf SK x=K8 NN x:=by kernel_rfl
theorem ai5:bH pX 62 Ue.er QL 2=true:=by decide+kernel
theorem anD:bV pX 62 Nm.M/\bi pX 62=true:=
  cD (T:=[Dp,Nz]) (sc:=Ue) (ms:=QL) (args:=Gf) (aA:=SK) (av.cons abx<|av.cons anO<|av.nil) bP ai5 xD fun x y h=>(alX az x).trans (agb x y h)
def Nu:au:=⟨101,Gs,akY,SX,zI⟩
def Up:bf:=
 (.seq
 (.aa false [
 oX 1 (.box 3 0),
 oX 2 (.alloc [zX,zX,.nil iX])])
 (.seq
 (.aa true [
 oX 3 (.ao 0 1),
 oX 4 (.load false 1 3),
 oX 5 (.ao 1 1),
 oX 6 (.load false 1 5),
 oX 7 (.ao 2 1),
 oX 8 (.load false 1 7),
 oX 9 (.call .ab 47 [8]),
 oX 10 (.build [zX,zX,.nil iX] [(0,1,4),(1,1,6),(2,1,9)]),
 uX (.store 3 2 10)])
 .ret))
def QW:List bh:=[.cell 2 3 true]
theorem al8 (NN:Nat) (x:aQ (ai.aP Gs)):cm NN [rm] Up QW Gs SX x=Lf NN x:=by kernel_rfl
theorem ajg:bH pX 101 Up.er QW 1=true:=by decide+kernel
theorem anK:bV pX 101 Nu.M/\bi pX 101=true:=
  cD (T:=[rm]) (sc:=Up) (ms:=QW) (args:=Gs) (aA:=SX) (av.cons EJ<|av.nil) bP ajg zI fun x y h=>(al8 az x).trans (agn x y h)
def ua:au:=⟨74,Gi,akR,SM,lY⟩
def Ug:bf:=
 (.seq
 (.aa false [
 oX 3 (.box 3 0),
 oX 6 (.mv (kX 0))])
 (.seq
 (.aa false [
 oX 7 (.ao 2 3),
 oX 8 (.load false 1 7),
 oX 9 (.mv 1),
 oX 10 (.ao 1 3),
 oX 11 (.load false 1 10),
 oX 12 (.bin .mul 9 11),
 oX 13 (.mv 2),
 oX 14 (.bin .add 12 13),
 oX 15 (.bm 1 8 14),
 oX 16 (.load false 1 15),
 oX 6 (.mv 16)])
 .ret))
def QN:List bh:=[.tmp 6]
theorem alZ (NN:Nat) (x:aQ (ai.aP Gi)):cm NN [] Ug QN Gi SM x=FT NN x:=by kernel_rfl
theorem ai7:bH pX 74 Ug.er QN 3=true:=by decide+kernel
theorem JT:bV pX 74 ua.M/\bi pX 74=true:=
  cD (T:=[]) (sc:=Ug) (ms:=QN) (args:=Gi) (aA:=SM) (av.nil) bP ai7 lY fun x y h=>(alZ az x).trans (agd x y h)
def ub:au:=⟨72,Gj,Jy,SN,qW⟩
def Uh:bf:=
 (.seq
 (.aa false [
 oX 4 (.box 3 0)])
 (.aa false [
 oX 8 (.ao 2 4),
 oX 9 (.load false 1 8),
 oX 10 (.mv 1),
 oX 11 (.ao 1 4),
 oX 12 (.load false 1 11),
 oX 13 (.bin .mul 10 12),
 oX 14 (.mv 2),
 oX 15 (.bin .add 13 14),
 oX 16 (.mv 3),
 oX 17 (.bm 1 9 15),
 uX (.store 1 17 16)]))
def QO:List bh:=[]
theorem al0 (NN:Nat) (x:aQ (ai.aP Gj)):nz NN [] Uh QO Gj Jy SN x=FU NN x:=by kernel_rfl
theorem ai8:bH pX 72 Uh.er QO 4=true:=by decide+kernel
theorem JU:kA pX 72 Jy ub.MM/\bi pX 72=true:=
  pg (T:=[]) (sc:=Uh) (ms:=QO) (args:=Gj) (mu:=Jy) (aA:=SN) (av.nil) bP ai8 qW fun x y h=>(al0 az x).trans (age x y h)
def Np:au:=⟨102,Gk,Jz,SO,zD⟩
def Ui:bf:=
 (.seq
 (.aa false [
 oX 3 (.box 3 0)])
 (.seq
 (.aa false [
 oX 6 (.mv (kX 0))])
 (.block 0
 (.loop 0 ⟨[(1,sX),(2,sX),(3,.one (rX 3)),(6,sX)],[(1000000,.row false .ab iX),(3,.box [vX,vX,fX 1000000 1])]⟩ [1000000,3,500000] [(true,3,2,500000,.ab,[])]
 (.seq
 (.seq
 (.aa false [
 oX 9 (.mv 6),
 oX 10 (.ao 1 3),
 oX 11 (.load false 1 10),
 oX 12 (.bin .lss 9 11)])
 (.cond 12
 .skip
 (.exit 0)))
 (.seq
 (.block 1
 (.seq
 (.aa true [
 oX 15 (.load true 3 3),
 oX 16 (.mv 1),
 oX 17 (.mv 6),
 oX 18 (.call .ab 74 [15,16,17]),
 oX 19 (.load true 3 3),
 oX 20 (.mv 2),
 oX 21 (.mv 6),
 oX 22 (.call .ab 74 [19,20,21]),
 oX 7 (.mv 18),
 oX 8 (.mv 22)])
 (.seq
 (.aa false [
 oX 23 (.load true 3 3),
 oX 24 (.mv 1),
 oX 25 (.mv 6),
 oX 26 (.mv 8),
 oX 27 (.eN .ab 72 [23,24,25,26])])
 (.aa false [
 oX 28 (.load true 3 3),
 oX 29 (.mv 2),
 oX 30 (.mv 6),
 oX 31 (.mv 7),
 oX 32 (.eN .ab 72 [28,29,30,31])]))))
 (.aa false [
 oX 13 (.mv 6),
 oX 14 (.bin .add 13 (kX 1)),
 oX 6 (.mv 14)])))))))
def QP:List bh:=[]
theorem al1 (NN:Nat) (x:aQ (ai.aP Gk)):nz NN [ua,ub] Ui QP Gk Jz SO x=FV NN x:=by kernel_rfl
theorem ai9:bH pX 102 Ui.er QP 3=true:=by decide+kernel
theorem anF:kA pX 102 Jz Np.MM/\bi pX 102=true:=
  pg (T:=[ua,ub]) (sc:=Ui) (ms:=QP) (args:=Gk) (mu:=Jz) (aA:=SO) (av.cons JT<|av.lA JU<|av.nil) bP ai9 zD fun x y h=>(al1 az x).trans (agf x y h)
def NE:au:=⟨103,GC,ak6,S6,zN⟩
def Uz:bf:=
 (.seq
 (.aa false [
 oX 4 (.mv (kX 0))])
 (.seq
 (.aa false [
 oX 5 (.mv (kX 1))])
 (.seq
 (.seq
 (.aa false [
 oX 7 (.mv 0),
 oX 8 (.bin .sub 7 (kX 2)),
 oX 6 (.mv 8)])
 (.join ⟨[(5,sX)],[]⟩ [] []
 (.block 0
 (.loop 0 ⟨[(0,sX),(1,sX),(5,sX),(6,sX)],[]⟩ [] []
 (.seq
 (.seq
 (.aa false [
 oX 9 (.mv 6),
 oX 10 (.bin .gtr 9 (kX 0))])
 (.cond 10
 .skip
 (.exit 0)))
 (.seq
 (.block 1
 (.seq
 (.seq
 (.aa false [
 oX 13 (.mv 6),
 oX 14 (.bin .and 13 (kX 1)),
 oX 15 (.bin .eql 14 (kX 1))])
 (.join ⟨[(1,sX),(6,sX),(0,sX),(5,sX)],[]⟩ [] []
 (.cond 15
 (.aa false [
 oX 16 (.mv 5),
 oX 17 (.mv 1),
 oX 18 (.bin .mul 16 17),
 oX 19 (.mv 0),
 oX 20 (.bin .rem 18 19),
 oX 5 (.mv 20)])
 .skip)))
 (.aa false [
 oX 21 (.mv 1),
 oX 22 (.mv 1),
 oX 23 (.bin .mul 21 22),
 oX 24 (.mv 0),
 oX 25 (.bin .rem 23 24),
 oX 1 (.mv 25)])))
 (.aa false [
 oX 11 (.mv 6),
 oX 12 (.bin .shr 11 (.k (.one (.v (.int .u64) ((1:Int)))))),
 oX 6 (.mv 12)])))))))
 (.seq
 (.aa false [
 oX 26 (.mv 5),
 oX 4 (.mv 26)])
 .ret))))
def Q5:List bh:=[.tmp 4]
theorem amh (NN:Nat) (x:aQ (ai.aP GC)):cm NN [] Uz Q5 GC S6 x=Ln NN x:=by kernel_rfl
theorem ajp:bH pX 103 Uz.er Q5 2=true:=by decide+kernel
theorem anT:bV pX 103 NE.M/\bi pX 103=true:=
  cD (T:=[]) (sc:=Uz) (ms:=Q5) (args:=GC) (aA:=S6) (av.nil) bP ajp zN fun x y h=>(amh az x).trans (agw x y h)
def Nn:au:=⟨104,Gg,Jx,SL,xE⟩
def Uf:bf:=
 (.seq
 (.aa false [
 oX 5 (.box 3 0)])
 (.seq
 (.aa false [
 oX 10 (.mv (kX 0))])
 (.block 0
 (.loop 0 ⟨[(1,sX),(2,sX),(3,sX),(4,sX),(5,.one (rX 5)),(10,sX)],[(1000000,.row false .ab iX),(5,.box [vX,vX,fX 1000000 1])]⟩ [1000000,5,500000] [(true,5,2,500000,.ab,[])]
 (.seq
 (.seq
 (.aa false [
 oX 11 (.mv 10),
 oX 12 (.ao 1 5),
 oX 13 (.load false 1 12),
 oX 14 (.bin .lss 11 13)])
 (.cond 14
 .skip
 (.exit 0)))
 (.seq
 (.block 1
 (.aa true [
 oX 17 (.load true 3 5),
 oX 18 (.mv 2),
 oX 19 (.mv 10),
 oX 20 (.load true 3 5),
 oX 21 (.mv 2),
 oX 22 (.mv 10),
 oX 23 (.call .ab 74 [20,21,22]),
 oX 24 (.mv 4),
 oX 25 (.load true 3 5),
 oX 26 (.mv 3),
 oX 27 (.mv 10),
 oX 28 (.call .ab 74 [25,26,27]),
 oX 29 (.bin .mul 24 28),
 oX 30 (.bin .add 23 29),
 oX 31 (.mv 1),
 oX 32 (.bin .rem 30 31),
 oX 33 (.eN .ab 72 [17,18,19,32])]))
 (.aa false [
 oX 15 (.mv 10),
 oX 16 (.bin .add 15 (kX 1)),
 oX 10 (.mv 16)])))))))
def QM:List bh:=[]
theorem alY (NN:Nat) (x:aQ (ai.aP Gg)):nz NN [ua,ub] Uf QM Gg Jx SL x=FR NN x:=by kernel_rfl
theorem ai6:bH pX 104 Uf.er QM 5=true:=by decide+kernel
theorem anE:kA pX 104 Jx Nn.MM/\bi pX 104=true:=
  pg (T:=[ua,ub]) (sc:=Uf) (ms:=QM) (args:=Gg) (mu:=Jx) (aA:=SL) (av.cons JT<|av.lA JU<|av.nil) bP ai6 xE fun x y h=>(alY az x).trans (agc x y h)
def NG:au:=⟨63,GF,ak8,S8,xH⟩
def UB:bf:=
 (.seq
 (.aa false [
 oX 3 (.box 3 1),
 oX 4 (.alloc [zX,zX,.nil iX]),
 oX 5 (.mv (.k (.one (.nil iX))))])
 (.seq
 (.aa false [
 oX 14 (.load true 3 3),
 oX 15 (.call .ab 101 [14]),
 oX 6 (.alloc [zX,zX,.nil iX]),
 uX (.store 3 6 15)])
 (.seq
 (.aa false [
 oX 7 (.mv (.k (.one (.nil iX))))])
 (.seq
 (.seq
 (.aa false [
 oX 8 (.mv (kX 0))])
 (.join ⟨[(6,.one (rX 6)),(7,.one (fX 500026 1)),(4,.one (rX 4))],[(4,.box [vX,vX,fX 500024 1]),(6,.box [vX,vX,fX 500025 1]),(500024,.row true .ab iX),(500025,.row true .ab iX),(500026,.row true .ab iX)]⟩ [4,6,500000,500001,500002,500024,500025,500026] [(true,4,2,500024,.ab,[]),(true,6,2,500025,.ab,[]),(false,7,0,500026,.ab,[])]
 (.block 0
 (.loop 0 ⟨[(0,sX),(4,.one (rX 4)),(6,.one (rX 6)),(7,.one (fX 500002 1)),(8,sX)],[(4,.box [vX,vX,fX 500000 1]),(6,.box [vX,vX,fX 500001 1]),(500000,.row true .ab iX),(500001,.row true .ab iX),(500002,.row true .ab iX)]⟩ [3,4,16000,6,500000,500001,500002,500021,500022,500023] [(true,4,2,500000,.ab,[]),(true,6,2,500001,.ab,[]),(false,7,0,500002,.ab,[])]
 (.seq
 (.seq
 (.aa false [
 oX 16 (.mv 8),
 oX 17 (.ao 1 6),
 oX 18 (.load false 1 17),
 oX 19 (.bin .lss 16 18)])
 (.cond 19
 .skip
 (.exit 0)))
 (.seq
 (.join ⟨[(8,sX),(0,sX),(4,.one (rX 4)),(6,.one (rX 6)),(7,.one (fX 500023 1))],[(4,.box [vX,vX,fX 500021 1]),(6,.box [vX,vX,fX 500022 1]),(500021,.row true .ab iX),(500022,.row true .ab iX),(500023,.row true .ab iX)]⟩ [4,6,99,100,500006,500007,500008,500018,500019,500021,500022,500023] [(true,4,2,500021,.ab,[]),(true,6,2,500022,.ab,[]),(false,7,0,500023,.ab,[])]
 (.block 1
 (.seq
 (.aa false [
 oX 22 (.mv 7),
 oX 23 (.len 22),
 oX 9 (.mv 23)])
 (.seq
 (.aa false [
 oX 24 (.mv 9),
 oX 10 (.mv 24)])
 (.seq
 (.join ⟨[(10,sX),(9,sX),(7,.one (fX 500008 1)),(8,sX),(0,sX),(4,.one (rX 4)),(6,.one (rX 6))],[(4,.box [vX,vX,fX 500006 1]),(6,.box [vX,vX,fX 500007 1]),(500006,.row true .ab iX),(500007,.row true .ab iX),(500008,.row true .ab iX)]⟩ [4,6,500003,500004,500005,500006,500007,500008] [(true,4,2,500006,.ab,[]),(true,6,2,500007,.ab,[]),(false,7,0,500008,.ab,[])]
 (.block 2
 (.loop 0 ⟨[(0,sX),(4,.one (rX 4)),(6,.one (rX 6)),(7,.one (fX 500005 1)),(8,sX),(9,sX),(10,sX)],[(4,.box [vX,vX,fX 500003 1]),(6,.box [vX,vX,fX 500004 1]),(500003,.row true .ab iX),(500004,.row true .ab iX),(500005,.row true .ab iX)]⟩ [4,6,500000,500001,500002,500003,500004,500005] [(true,4,2,500003,.ab,[]),(true,6,2,500004,.ab,[]),(false,7,0,500005,.ab,[])]
 (.seq
 (.seq
 (.aa false [
 oX 25 (.mv 10),
 oX 26 (.ao 0 6),
 oX 27 (.load false 1 26),
 oX 28 (.bin .lss 25 27),
 oX 29 (.mv 28),
 ⟨(some 30),.load true 3 6,(some (29,true))⟩,
 ⟨(some 31),.mv 10,(some (29,true))⟩,
 ⟨(some 32),.mv 8,(some (29,true))⟩,
 ⟨(some 33),.call .ab 74 [30,31,32],(some (29,true))⟩,
 ⟨(some 34),.bin .eql 33 (kX 0),(some (29,true))⟩,
 oX 35 (.pick 29 34 (.k (.one (.v (.bool) (false)))))])
 (.cond 35
 .skip
 (.exit 2)))
 (.block 3
 (.aa false [
 oX 36 (.mv 10),
 oX 37 (.bin .add 36 (kX 1)),
 oX 10 (.mv 37)]))))))
 (.seq
 (.seq
 (.aa false [
 oX 38 (.mv 10),
 oX 39 (.ao 0 6),
 oX 40 (.load false 1 39),
 oX 41 (.bin .eql 38 40)])
 (.cond 41
 (.exit 1)
 .skip))
 (.seq
 (.aa false [
 oX 42 (.load true 3 6),
 oX 43 (.mv 9),
 oX 44 (.mv 10),
 oX 45 (.eN .ab 102 [42,43,44])])
 (.seq
 (.aa false [
 oX 46 (.mv 0),
 oX 47 (.load true 3 6),
 oX 48 (.mv 9),
 oX 49 (.mv 8),
 oX 50 (.call .ab 74 [47,48,49]),
 oX 51 (.call .ab 103 [46,50]),
 oX 11 (.mv 51)])
 (.seq
 (.seq
 (.aa false [
 oX 12 (.mv (kX 0))])
 (.join ⟨[(6,.one (rX 6)),(4,.one (rX 4)),(0,sX),(8,sX),(7,.one (fX 500014 1)),(9,sX)],[(4,.box [vX,vX,fX 500012 1]),(6,.box [vX,vX,fX 500013 1]),(500012,.row true .ab iX),(500013,.row true .ab iX),(500014,.row true .ab iX)]⟩ [4,6,500009,500010,500011,500012,500013,500014] [(true,4,2,500012,.ab,[]),(true,6,2,500013,.ab,[]),(false,7,0,500014,.ab,[])]
 (.block 4
 (.loop 0 ⟨[(0,sX),(4,.one (rX 4)),(6,.one (rX 6)),(7,.one (fX 500011 1)),(8,sX),(9,sX),(11,sX),(12,sX)],[(4,.box [vX,vX,fX 500009 1]),(6,.box [vX,vX,fX 500010 1]),(500009,.row true .ab iX),(500010,.row true .ab iX),(500011,.row true .ab iX)]⟩ [4,6,500006,500007,500008,500009,500010,500011] [(true,4,2,500009,.ab,[]),(true,6,2,500010,.ab,[]),(false,7,0,500011,.ab,[])]
 (.seq
 (.seq
 (.aa false [
 oX 52 (.mv 12),
 oX 53 (.ao 1 6),
 oX 54 (.load false 1 53),
 oX 55 (.bin .lss 52 54)])
 (.cond 55
 .skip
 (.exit 4)))
 (.seq
 (.block 5
 (.aa true [
 oX 58 (.load true 3 6),
 oX 59 (.mv 9),
 oX 60 (.mv 12),
 oX 61 (.load true 3 6),
 oX 62 (.mv 9),
 oX 63 (.mv 12),
 oX 64 (.call .ab 74 [61,62,63]),
 oX 65 (.mv 11),
 oX 66 (.bin .mul 64 65),
 oX 67 (.mv 0),
 oX 68 (.bin .rem 66 67),
 oX 69 (.eN .ab 72 [58,59,60,68])]))
 (.aa false [
 oX 56 (.mv 12),
 oX 57 (.bin .add 56 (kX 1)),
 oX 12 (.mv 57)])))))))
 (.seq
 (.seq
 (.aa false [
 oX 13 (.mv (kX 0))])
 (.join ⟨[(7,.one (fX 500020 1)),(8,sX),(0,sX),(4,.one (rX 4)),(6,.one (rX 6))],[(4,.box [vX,vX,fX 500018 1]),(6,.box [vX,vX,fX 500019 1]),(500018,.row true .ab iX),(500019,.row true .ab iX),(500020,.row true .ab iX)]⟩ [4,6,500015,500016,500017,500018,500019,500020] [(true,4,2,500018,.ab,[]),(true,6,2,500019,.ab,[]),(false,7,0,500020,.ab,[])]
 (.block 6
 (.loop 0 ⟨[(0,sX),(4,.one (rX 4)),(6,.one (rX 6)),(7,.one (fX 500017 1)),(8,sX),(9,sX),(13,sX)],[(4,.box [vX,vX,fX 500015 1]),(6,.box [vX,vX,fX 500016 1]),(500015,.row true .ab iX),(500016,.row true .ab iX),(500017,.row true .ab iX)]⟩ [4,6,500012,500013,500014,500015,500016,500017] [(true,4,2,500015,.ab,[]),(true,6,2,500016,.ab,[]),(false,7,0,500017,.ab,[])]
 (.seq
 (.seq
 (.aa false [
 oX 70 (.mv 13),
 oX 71 (.ao 0 6),
 oX 72 (.load false 1 71),
 oX 73 (.bin .lss 70 72)])
 (.cond 73
 .skip
 (.exit 6)))
 (.seq
 (.block 7
 (.seq
 (.aa false [
 oX 76 (.mv 13),
 oX 77 (.mv 9),
 oX 78 (.bin .neq 76 77),
 oX 79 (.mv 78),
 ⟨(some 80),.load true 3 6,(some (79,true))⟩,
 ⟨(some 81),.mv 13,(some (79,true))⟩,
 ⟨(some 82),.mv 8,(some (79,true))⟩,
 ⟨(some 83),.call .ab 74 [80,81,82],(some (79,true))⟩,
 ⟨(some 84),.bin .neq 83 (kX 0),(some (79,true))⟩,
 oX 85 (.pick 79 84 (.k (.one (.v (.bool) (false)))))])
 (.cond 85
 (.aa true [
 oX 86 (.load true 3 6),
 oX 87 (.mv 0),
 oX 88 (.mv 13),
 oX 89 (.mv 9),
 oX 90 (.mv 0),
 oX 91 (.load true 3 6),
 oX 92 (.mv 13),
 oX 93 (.mv 8),
 oX 94 (.call .ab 74 [91,92,93]),
 oX 95 (.bin .sub 90 94),
 oX 96 (.eN .ab 104 [86,87,88,89,95])])
 .skip)))
 (.aa false [
 oX 74 (.mv 13),
 oX 75 (.bin .add 74 (kX 1)),
 oX 13 (.mv 75)])))))))
 (.aa false [
 oX 97 (.mv 7),
 oX 98 (.mv 8),
 oX 99 (.e7 iX [98]),
 oX 100 (.append true iX 8 97 99),
 oX 7 (.mv 100)])))))))))))
 (.aa false [
 oX 20 (.mv 8),
 oX 21 (.bin .add 20 (kX 1)),
 oX 8 (.mv 21)])))))))
 (.seq
 (.aa false [
 oX 101 (.load true 3 6),
 oX 102 (.mv 7),
 uX (.store 3 4 101),
 oX 5 (.mv 102)])
 .ret)))))
def Q7:List bh:=[.cell 4 3 true,.tmp 5]
theorem amj (NN:Nat) (x:aQ (ai.aP GF)):cm NN [Nu,ua,Np,NE,ub,Nn] UB Q7 GF S8 x=FW NN x:=by kernel_rfl
theorem ajr:bH pX 63 UB.er Q7 2=true:=by decide+kernel
theorem anV:bV pX 63 NG.M/\bi pX 63=true:=
  cD (T:=[Nu,ua,Np,NE,ub,Nn]) (sc:=UB) (ms:=Q7) (args:=GF) (aA:=S8) (av.cons anK<|av.cons JT<|av.lA anF<|av.cons anT<|av.lA JU<|av.lA anE<|av.nil) bP ajr xH fun x y h=>(amj az x).trans (agy x y h)
def Nw:au:=⟨71,Gu,ak0,SZ,CF⟩
def Ur:bf:=
 (.seq
 (.aa false [
 oX 4 (.alloc [zX,zX,.nil iX])])
 (.seq
 (.aa false [
 oX 5 (.mv 0),
 oX 6 (.mv 1),
 oX 7 (.mv 0),
 oX 8 (.mv 1),
 oX 9 (.bin .mul 7 8),
 oX 10 (.jC .ab iX 8 (0:Int) 9 9),
 oX 11 (.build [zX,zX,.nil iX] [(0,1,5),(1,1,6),(2,1,10)]),
 uX (.store 3 4 11)])
 .ret))
def QY:List bh:=[.cell 4 3 true]
theorem ama (NN:Nat) (x:aQ (ai.aP Gu)):cm NN [] Ur QY Gu SZ x=WL NN x:=by kernel_rfl
theorem aji:bH pX 71 Ur.er QY 2=true:=by decide+kernel
theorem anM:bV pX 71 Nw.M/\bi pX 71=true:=
  cD (T:=[]) (sc:=Ur) (ms:=QY) (args:=Gu) (aA:=SZ) (av.nil) bP aji CF fun x y h=>(ama az x).trans (agp x y h)
def Nl:au:=⟨46,Gd,akO,SI,tA⟩
def Uc:bf:=
 (.seq
 (.aa false [
 oX 3 (.box 3 1),
 oX 4 (.alloc [zX,zX,.nil iX]),
 oX 5 (.alloc [zX,zX,.nil iX]),
 oX 6 (.mv (.k (.one (.v (.bool) (false)))))])
 (.seq
 (.seq
 (.aa false [
 oX 15 (.mv 0),
 oX 16 (.load true 3 3),
 oX 17 (.call .ab 62 [15,16]),
 oX 18 (.un .not 17)])
 (.cond 18
 (.seq
 (.aa false [
 oX 19 (.build [zX,zX,.nil iX] []),
 oX 20 (.build [zX,zX,.nil iX] []),
 uX (.store 3 4 19),
 uX (.store 3 5 20),
 oX 6 (.mv (.k (.one (.v (.bool) (false)))))])
 .ret)
 .skip))
 (.seq
 (.aa false [
 oX 22 (.mv 0),
 oX 23 (.load true 3 3),
 oX 24 (.call .ab 63 [22,23]),
 oX 21 (.mv 24),
 oX 25 (.ext 0 21),
 oX 26 (.ext 1 21),
 oX 7 (.alloc [zX,zX,.nil iX]),
 uX (.store 3 7 25),
 oX 8 (.mv 26)])
 (.seq
 (.aa false [
 oX 27 (.mv 8),
 oX 28 (.len 27),
 oX 9 (.mv 28)])
 (.seq
 (.aa false [
 oX 29 (.ao 0 3),
 oX 30 (.load false 1 29),
 oX 31 (.mv 9),
 oX 32 (.call .ab 71 [30,31]),
 oX 10 (.alloc [zX,zX,.nil iX]),
 uX (.store 3 10 32)])
 (.seq
 (.seq
 (.aa false [
 oX 11 (.mv (kX 0))])
 (.join ⟨[(7,.one (rX 7)),(9,sX),(3,.one (rX 3)),(10,.one (rX 10)),(4,.one (rX 4)),(5,.one (rX 5))],[(3,.box [vX,vX,.c (.v (lX))]),(4,.box [vX,vX,fX 500015 1]),(5,.box [vX,vX,fX 500016 1]),(7,.box [vX,vX,fX 500017 1]),(10,.box [vX,vX,fX 500018 1]),(500015,.row true .ab iX),(500016,.row true .ab iX),(500017,.row true .ab iX),(500018,.row true .ab iX)]⟩ [3,4,5,7,10,500000,500001,500002,500003,500004,500015,500016,500017,500018] [(true,4,2,500015,.ab,[]),(true,5,2,500016,.ab,[]),(true,7,2,500017,.ab,[]),(true,10,2,500018,.ab,[])]
 (.block 0
 (.loop 0 ⟨[(3,.one (rX 3)),(4,.one (rX 4)),(5,.one (rX 5)),(7,.one (rX 7)),(8,.one (fX 500004 1)),(9,sX),(10,.one (rX 10)),(11,sX)],[(3,.box [vX,vX,.c (.v (lX))]),(4,.box [vX,vX,fX 500000 1]),(5,.box [vX,vX,fX 500001 1]),(7,.box [vX,vX,fX 500002 1]),(10,.box [vX,vX,fX 500003 1]),(500000,.row true .ab iX),(500001,.row true .ab iX),(500002,.row true .ab iX),(500003,.row true .ab iX),(500004,.row true .ab iX)]⟩ [3,4,5,25000,25001,7,33000,10,500000,500001,500002,500003,500004,500010,500011,500012,500013,500014] [(true,4,2,500000,.ab,[]),(true,5,2,500001,.ab,[]),(true,7,2,500002,.ab,[]),(true,10,2,500003,.ab,[]),(false,8,0,500004,.ab,[])]
 (.seq
 (.seq
 (.aa false [
 oX 33 (.mv 11),
 oX 34 (.ao 0 3),
 oX 35 (.load false 1 34),
 oX 36 (.bin .lss 33 35)])
 (.cond 36
 .skip
 (.exit 0)))
 (.seq
 (.join ⟨[(11,sX),(3,.one (rX 3)),(4,.one (rX 4)),(5,.one (rX 5)),(7,.one (rX 7)),(8,.one (fX 500014 1)),(9,sX),(10,.one (rX 10))],[(3,.box [vX,vX,.c (.v (lX))]),(4,.box [vX,vX,fX 500010 1]),(5,.box [vX,vX,fX 500011 1]),(7,.box [vX,vX,fX 500012 1]),(10,.box [vX,vX,fX 500013 1]),(500010,.row true .ab iX),(500011,.row true .ab iX),(500012,.row true .ab iX),(500013,.row true .ab iX),(500014,.row true .ab iX)]⟩ [3,4,5,7,10,500005,500006,500007,500008,500009,500010,500011,500012,500013,500014] [(true,4,2,500010,.ab,[]),(true,5,2,500011,.ab,[]),(true,7,2,500012,.ab,[]),(true,10,2,500013,.ab,[]),(false,8,0,500014,.ab,[])]
 (.block 1
 (.seq
 (.aa false [
 oX 39 (.mv 8),
 oX 40 (.len 39),
 oX 41 (.mv (kX 0))])
 (.block 2
 (.loop 0 ⟨[(3,.one (rX 3)),(4,.one (rX 4)),(5,.one (rX 5)),(7,.one (rX 7)),(8,.one (fX 500009 1)),(9,sX),(10,.one (rX 10)),(11,sX),(39,.one (fX 500009 1)),(40,sX),(41,sX)],[(3,.box [vX,vX,.c (.v (lX))]),(4,.box [vX,vX,fX 500005 1]),(5,.box [vX,vX,fX 500006 1]),(7,.box [vX,vX,fX 500007 1]),(10,.box [vX,vX,fX 500008 1]),(500005,.row true .ab iX),(500006,.row true .ab iX),(500007,.row true .ab iX),(500008,.row true .ab iX),(500009,.row true .ab iX)]⟩ [3,4,5,7,10,500000,500001,500002,500003,500004,500005,500006,500007,500008,500009] [(true,4,2,500005,.ab,[]),(true,5,2,500006,.ab,[]),(true,7,2,500007,.ab,[]),(true,10,2,500008,.ab,[]),(false,8,0,500009,.ab,[])]
 (.seq
 (.aa false [
 oX 42 (.bin .lss 41 40)])
 (.seq
 (.cond 42
 .skip
 (.exit 2))
 (.seq
 (.block 3
 (.seq
 (.aa false [
 oX 43 (.mv 41),
 oX 44 (.bm 1 39 41),
 oX 45 (.load false 1 44),
 oX 12 (.mv 43),
 oX 13 (.mv 45)])
 (.aa true [
 oX 46 (.load true 3 10),
 oX 47 (.mv 11),
 oX 48 (.mv 12),
 oX 49 (.load true 3 3),
 oX 50 (.mv 11),
 oX 51 (.mv 13),
 oX 52 (.call .ab 74 [49,50,51]),
 oX 53 (.eN .ab 72 [46,47,48,52])])))
 (.aa false [
 oX 54 (.bin .add 41 (kX 1)),
 oX 41 (.mv 54)])))))))))
 (.aa false [
 oX 37 (.mv 11),
 oX 38 (.bin .add 37 (kX 1)),
 oX 11 (.mv 38)])))))))
 (.seq
 (.aa true [
 oX 55 (.mv 9),
 oX 56 (.ao 1 3),
 oX 57 (.load false 1 56),
 oX 58 (.ao 2 7),
 oX 59 (.load false 1 58),
 oX 60 (.mv 9),
 oX 61 (.ao 1 3),
 oX 62 (.load false 1 61),
 oX 63 (.bin .mul 60 62),
 oX 64 (.slice 1 59 none (some 63)),
 oX 65 (.call .ab 47 [64]),
 oX 66 (.build [zX,zX,.nil iX] [(0,1,55),(1,1,57),(2,1,65)]),
 oX 14 (.alloc [zX,zX,.nil iX]),
 uX (.store 3 14 66)])
 (.seq
 (.rS [(1,2)] [
 oX 67 (.load true 3 10),
 oX 68 (.load true 3 14),
 uX (.store 3 4 67),
 uX (.store 3 5 68),
 oX 6 (.mv (.k (.one (.v (.bool) (true)))))])
 .ret))))))))
def QJ:List bh:=[.cell 4 3 true,.cell 5 3 true,.tmp 6]
theorem alV (NN:Nat) (x:aQ (ai.aP Gd)):cm NN [Nm,NG,Nw,ua,ub,rm] Uc QJ Gd SI x=CI NN x:=by kernel_rfl
theorem ai3:bH pX 46 Uc.er QJ 2=true:=by decide+kernel
theorem anC:bV pX 46 Nl.M/\bi pX 46=true:=
  cD (T:=[Nm,NG,Nw,ua,ub,rm]) (sc:=Uc) (ms:=QJ) (args:=Gd) (aA:=SI) (av.cons anD<|av.cons anV<|av.cons anM<|av.cons JT<|av.lA JU<|av.cons EJ<|av.nil) bP ai3 tA fun x y h=>(alV az x).trans (af9 x y h)
def Nk:au:=⟨10,Gc,akN,SH,xC⟩
def Ub:bf:=
 (.seq
 (.aa false [
 oX 3 (.box 3 1),
 oX 4 (.alloc [zX,.nil gX]),
 oX 5 (.mv (.k (.one (.v (.bool) (false)))))])
 (.seq
 (.aa false [
 oX 18 (.mv 0),
 oX 19 (.build [zX,zX,zX] [(0,1,(kX 2)),(1,1,18)]),
 oX 6 (.alloc [zX,zX,zX]),
 uX (.store 3 6 19)])
 (.seq
 (.seq
 (.aa false [
 oX 20 (.load true 3 6),
 oX 21 (.load true 3 3),
 oX 22 (.call .ab 43 [20,21]),
 oX 23 (.un .not 22),
 oX 24 (.mv 23),
 ⟨(some 25),.ao 0 3,(some (24,false))⟩,
 ⟨(some 26),.load false 1 25,(some (24,false))⟩,
 ⟨(some 27),.len 26,(some (24,false))⟩,
 ⟨(some 28),.bin .eql 27 (kX 0),(some (24,false))⟩,
 oX 29 (.pick 24 (.k (.one (.v (.bool) (true)))) 28),
 oX 30 (.mv 29),
 ⟨(some 31),.ao 0 3,(some (30,false))⟩,
 ⟨(some 32),.load false 1 31,(some (30,false))⟩,
 ⟨(some 33),.len 32,(some (30,false))⟩,
 ⟨(some 34),.bin .gtr 33 (kX 8),(some (30,false))⟩,
 oX 35 (.pick 30 (.k (.one (.v (.bool) (true)))) 34)])
 (.cond 35
 (.seq
 (.aa false [
 oX 36 (.build [zX,.nil gX] []),
 uX (.store 2 4 36),
 oX 5 (.mv (.k (.one (.v (.bool) (false)))))])
 .ret)
 .skip))
 (.seq
 (.aa false [
 oX 37 (.load true 3 6),
 oX 38 (.load true 3 3),
 oX 39 (.call .ab 44 [37,38]),
 oX 7 (.alloc [.nil iX,.nil iX,.nil iX]),
 uX (.store 3 7 39)])
 (.seq
 (.aa false [
 oX 40 (.mv 0),
 oX 41 (.build [zX,.nil gX] [(0,1,40)]),
 oX 8 (.alloc [zX,.nil gX]),
 uX (.store 2 8 41)])
 (.seq
 (.aa false [
 oX 9 (.mv (kX 1))])
 (.seq
 (.aa false [
 oX 42 (.ao 2 7),
 oX 43 (.mO false 1 42),
 oX 10 (.mv 43)])
 (.seq
 (.aa false [
 oX 44 (.ao 1 7),
 oX 45 (.load false 1 44),
 oX 46 (.len 45),
 oX 47 (.bin .sub 46 (kX 1)),
 oX 11 (.mv 47)])
 (.seq
 (.seq
 (.aa false [
 oX 48 (.ao 1 7),
 oX 49 (.load false 1 48),
 oX 50 (.mv 11),
 oX 51 (.slice 1 49 none (some 50)),
 oX 52 (.len 51),
 oX 53 (.mv (kX 0))])
 (.join ⟨[(9,sX),(7,.one (rX 7)),(11,sX),(10,.one (.c (.v (lX)))),(8,.one (rX 8)),(4,.one (rX 4))],[(4,.box [vX,fX 500002 4]),(7,.box [.c (.v (lX)),.c (.v (lX)),.c (.v (lX))]),(8,.box [vX,fX 500003 4]),(500002,.row true .ab gX),(500003,.row true .ab gX)]⟩ [4,7,8,500000,500001,500002,500003] [(true,4,1,500002,.ab,[]),(true,8,1,500003,.ab,[])]
 (.block 0
 (.loop 0 ⟨[(0,sX),(4,.one (rX 4)),(7,.one (rX 7)),(8,.one (rX 8)),(9,sX),(10,.one (.c (.v (lX)))),(11,sX),(51,.one (.c (.v (lX)))),(52,sX),(53,sX)],[(4,.box [vX,fX 500000 4]),(7,.box [.c (.v (lX)),.c (.v (lX)),.c (.v (lX))]),(8,.box [vX,fX 500001 4]),(500000,.row true .ab gX),(500001,.row true .ab gX)]⟩ [3,4,6,7,8,14,15,16,94,500000,500001] [(true,4,1,500000,.ab,[]),(true,8,1,500001,.ab,[])]
 (.seq
 (.aa false [
 oX 54 (.bin .lss 53 52)])
 (.seq
 (.cond 54
 .skip
 (.exit 0))
 (.seq
 (.block 1
 (.seq
 (.aa false [
 oX 55 (.mv 53),
 oX 56 (.bm 1 51 53),
 oX 57 (.load false 1 56),
 oX 12 (.mv 55),
 oX 13 (.mv 57)])
 (.seq
 (.aa false [
 oX 58 (.mv 9),
 oX 59 (.mv 13),
 oX 60 (.bin .mul 58 59),
 oX 61 (.ao 1 7),
 oX 62 (.load false 1 61),
 oX 63 (.mv 12),
 oX 64 (.bin .add 63 (kX 1)),
 oX 65 (.slice 1 62 (some 64) none),
 oX 66 (.call .ab 45 [65]),
 oX 67 (.mv 10),
 oX 68 (.build [zX,zX,.nil iX] [(0,1,60),(1,1,66),(2,1,67)]),
 oX 14 (.alloc [zX,zX,.nil iX]),
 uX (.store 3 14 68)])
 (.seq
 (.aa false [
 oX 70 (.mv 0),
 oX 71 (.load true 3 14),
 oX 72 (.call .ab 46 [70,71]),
 oX 69 (.mv 72),
 oX 73 (.ext 0 69),
 oX 74 (.ext 1 69),
 oX 75 (.ext 2 69),
 oX 15 (.alloc [zX,zX,.nil iX]),
 oX 16 (.alloc [zX,zX,.nil iX]),
 uX (.store 3 15 73),
 uX (.store 3 16 74),
 oX 17 (.mv 75)])
 (.seq
 (.seq
 (.aa false [
 oX 76 (.mv 17),
 oX 77 (.un .not 76),
 oX 78 (.mv 77),
 ⟨(some 79),.ao 1 15,(some (78,false))⟩,
 ⟨(some 80),.load false 1 79,(some (78,false))⟩,
 ⟨(some 81),.bin .gtr 80 (kX 32),(some (78,false))⟩,
 oX 82 (.pick 78 (.k (.one (.v (.bool) (true)))) 81)])
 (.cond 82
 (.seq
 (.aa false [
 oX 83 (.build [zX,.nil gX] []),
 uX (.store 2 4 83),
 oX 5 (.mv (.k (.one (.v (.bool) (false)))))])
 .ret)
 .skip))
 (.seq
 (.aa false [
 oX 84 (.ao 1 8),
 oX 85 (.load false 1 84),
 oX 86 (.mv 9),
 oX 87 (.mv 13),
 oX 88 (.ao 1 15),
 oX 89 (.load false 1 88),
 oX 90 (.ao 2 15),
 oX 91 (.load false 1 90),
 oX 92 (.build [zX,zX,zX,.nil iX] [(0,1,86),(1,1,87),(2,1,89),(3,1,91)]),
 oX 93 (.e7 gX [92]),
 oX 94 (.append false gX 48 85 93),
 oX 95 (.ao 1 8),
 uX (.store 1 95 94)])
 (.seq
 (.aa false [
 oX 96 (.ao 1 15),
 oX 97 (.load false 1 96),
 oX 9 (.mv 97)])
 (.aa false [
 oX 98 (.ao 2 16),
 oX 99 (.mO false 1 98),
 oX 10 (.mv 99)]))))))))
 (.aa false [
 oX 100 (.bin .add 53 (kX 1)),
 oX 53 (.mv 100)]))))))))
 (.seq
 (.rS [(0,11),(1,11)] [
 oX 101 (.ao 1 8),
 oX 102 (.load false 1 101),
 oX 103 (.mv 9),
 oX 104 (.ao 1 7),
 oX 105 (.load false 1 104),
 oX 106 (.mv 11),
 oX 107 (.bm 1 105 106),
 oX 108 (.load false 1 107),
 oX 109 (.mv 10),
 oX 110 (.call .ab 47 [109]),
 oX 111 (.build [zX,zX,zX,.nil iX] [(0,1,103),(1,1,108),(2,1,(kX 1)),(3,1,110)]),
 oX 112 (.e7 gX [111]),
 oX 113 (.append false gX 48 102 112),
 oX 114 (.ao 1 8),
 uX (.store 1 114 113)])
 (.seq
 (.aa false [
 oX 115 (.load true 2 8),
 uX (.store 2 4 115),
 oX 5 (.mv (.k (.one (.v (.bool) (true)))))])
 .ret)))))))))))
def QI:List bh:=[.cell 4 2 true,.tmp 5]
theorem alU (NN:Nat) (x:aQ (ai.aP Gc)):cm NN [Dq,Nr,NC,Nl,rm] Ub QI Gc SH x=K6 NN x:=by kernel_rfl
theorem ai2:bH pX 10 Ub.er QI 2=true:=by decide+kernel
theorem anB:bV pX 10 Nk.M/\bi pX 10=true:=
  cD (T:=[Dq,Nr,NC,Nl,rm]) (sc:=Ub) (ms:=QI) (args:=Gc) (aA:=SH) (av.cons aby<|av.cons anH<|av.cons anR<|av.cons anC<|av.cons EJ<|av.nil) bP ai2 xC fun x y h=>(alU az x).trans (af8 x y h)
def Ds:au:=⟨49,GL,alf,Tf,sb⟩
def UI:bf:=
 (.seq
 (.aa false [
 oX 4 (.mv (.k (.one (.v (.bool) (false)))))])
 (.seq
 (.seq
 (.aa false [
 oX 6 (.mv 0),
 oX 7 (.len 6),
 oX 8 (.mv 1),
 oX 9 (.len 8),
 oX 10 (.bin .neq 7 9)])
 (.cond 10
 (.seq
 (.aa false [
 oX 4 (.mv (.k (.one (.v (.bool) (false)))))])
 .ret)
 .skip))
 (.seq
 (.seq
 (.aa false [
 oX 5 (.mv (kX 0))])
 (.join ⟨[],[]⟩ [] []
 (.block 0
 (.loop 0 ⟨[(0,.one (.c (.v (lX)))),(1,.one (.c (.v (lX)))),(5,sX)],[]⟩ [] []
 (.seq
 (.seq
 (.aa false [
 oX 11 (.mv 5),
 oX 12 (.mv 0),
 oX 13 (.len 12),
 oX 14 (.bin .lss 11 13)])
 (.cond 14
 .skip
 (.exit 0)))
 (.seq
 (.block 1
 (.seq
 (.aa true [
 oX 17 (.mv 0),
 oX 18 (.mv 5),
 oX 19 (.bm 1 17 18),
 oX 20 (.load false 1 19),
 oX 21 (.mv 1),
 oX 22 (.mv 5),
 oX 23 (.bm 1 21 22),
 oX 24 (.load false 1 23),
 oX 25 (.bin .neq 20 24)])
 (.cond 25
 (.seq
 (.aa false [
 oX 4 (.mv (.k (.one (.v (.bool) (false)))))])
 .ret)
 .skip)))
 (.aa false [
 oX 15 (.mv 5),
 oX 16 (.bin .add 15 (kX 1)),
 oX 5 (.mv 16)])))))))
 (.seq
 (.aa false [
 oX 4 (.mv (.k (.one (.v (.bool) (true)))))])
 .ret))))
def Re:List bh:=[.tmp 4]
theorem amq (NN:Nat) (x:aQ (ai.aP GL)):cm NN [] UI Re GL Tf x=WN NN x:=by kernel_rfl
theorem ajy:bH pX 49 UI.er Re 2=true:=by decide+kernel
theorem abA:bV pX 49 Ds.M/\bi pX 49=true:=
  cD (T:=[]) (sc:=UI) (ms:=Re) (args:=GL) (aA:=Tf) (av.nil) bP ajy sb fun x y h=>(amq az x).trans (agD x y h)
def NL:au:=⟨93,GM,alg,Tg,zS⟩
def UJ:bf:=
 (.seq
 (.aa false [
 oX 2 (.box 4 0),
 oX 3 (.box 4 1),
 oX 4 (.mv (.k (.one (.v (.bool) (false)))))])
 (.seq
 (.seq
 (.aa false [
 oX 5 (.ao 0 2),
 oX 6 (.load false 1 5),
 oX 7 (.ao 0 3),
 oX 8 (.load false 1 7),
 oX 9 (.bin .neq 6 8)])
 (.cond 9
 (.seq
 (.aa false [
 oX 4 (.mv (.k (.one (.v (.bool) (false)))))])
 .ret)
 .skip))
 (.seq
 (.seq
 (.aa false [
 oX 10 (.ao 1 2),
 oX 11 (.load false 1 10),
 oX 12 (.ao 1 3),
 oX 13 (.load false 1 12),
 oX 14 (.bin .neq 11 13)])
 (.cond 14
 (.seq
 (.aa false [
 oX 4 (.mv (.k (.one (.v (.bool) (false)))))])
 .ret)
 .skip))
 (.seq
 (.seq
 (.aa false [
 oX 15 (.ao 2 2),
 oX 16 (.load false 1 15),
 oX 17 (.ao 2 3),
 oX 18 (.load false 1 17),
 oX 19 (.bin .neq 16 18)])
 (.cond 19
 (.seq
 (.aa false [
 oX 4 (.mv (.k (.one (.v (.bool) (false)))))])
 .ret)
 .skip))
 (.seq
 (.seq
 (.aa false [
 oX 20 (.ao 3 2),
 oX 21 (.load false 1 20),
 oX 22 (.ao 3 3),
 oX 23 (.load false 1 22),
 oX 24 (.call .ab 49 [21,23]),
 oX 25 (.un .not 24)])
 (.cond 25
 (.seq
 (.aa false [
 oX 4 (.mv (.k (.one (.v (.bool) (false)))))])
 .ret)
 .skip))
 (.seq
 (.aa false [
 oX 4 (.mv (.k (.one (.v (.bool) (true)))))])
 .ret))))))
def Rf:List bh:=[.tmp 4]
theorem amr (NN:Nat) (x:aQ (ai.aP GM)):cm NN [Ds] UJ Rf GM Tg x=Lu NN x:=by kernel_rfl
theorem ajz:bH pX 93 UJ.er Rf 2=true:=by decide+kernel
theorem an1:bV pX 93 NL.M/\bi pX 93=true:=
  cD (T:=[Ds]) (sc:=UJ) (ms:=Rf) (args:=GM) (aA:=Tg) (av.cons abA<|av.nil) bP ajz zS fun x y h=>(amr az x).trans (agE x y h)
def NM:au:=⟨48,GN,alh,Th,zT⟩
def UK:bf:=
 (.seq
 (.aa false [
 oX 4 (.mv (.k (.one (.v (.bool) (false)))))])
 (.seq
 (.seq
 (.aa false [
 oX 6 (.mv 0),
 oX 7 (.len 6),
 oX 8 (.mv 1),
 oX 9 (.len 8),
 oX 10 (.bin .neq 7 9)])
 (.cond 10
 (.seq
 (.aa false [
 oX 4 (.mv (.k (.one (.v (.bool) (false)))))])
 .ret)
 .skip))
 (.seq
 (.seq
 (.aa false [
 oX 5 (.mv (kX 0))])
 (.join ⟨[],[]⟩ [] []
 (.block 0
 (.loop 0 ⟨[(0,.one (.c (.v (.list gX)))),(1,.one (.c (.v (.list gX)))),(5,sX)],[]⟩ [] []
 (.seq
 (.seq
 (.aa false [
 oX 11 (.mv 5),
 oX 12 (.mv 0),
 oX 13 (.len 12),
 oX 14 (.bin .lss 11 13)])
 (.cond 14
 .skip
 (.exit 0)))
 (.seq
 (.block 1
 (.seq
 (.aa true [
 oX 17 (.mv 0),
 oX 18 (.mv 5),
 oX 19 (.bm 4 17 18),
 oX 20 (.load true 4 19),
 oX 21 (.mv 1),
 oX 22 (.mv 5),
 oX 23 (.bm 4 21 22),
 oX 24 (.load true 4 23),
 oX 25 (.call .ab 93 [20,24]),
 oX 26 (.un .not 25)])
 (.cond 26
 (.seq
 (.aa false [
 oX 4 (.mv (.k (.one (.v (.bool) (false)))))])
 .ret)
 .skip)))
 (.aa false [
 oX 15 (.mv 5),
 oX 16 (.bin .add 15 (kX 1)),
 oX 5 (.mv 16)])))))))
 (.seq
 (.aa false [
 oX 4 (.mv (.k (.one (.v (.bool) (true)))))])
 .ret))))
def Rh:List bh:=[.tmp 4]
theorem ams (NN:Nat) (x:aQ (ai.aP GN)):cm NN [NL] UK Rh GN Th x=WO NN x:=by kernel_rfl
theorem ajA:bH pX 48 UK.er Rh 2=true:=by decide+kernel
theorem an2:bV pX 48 NM.M/\bi pX 48=true:=
  cD (T:=[NL]) (sc:=UK) (ms:=Rh) (args:=GN) (aA:=Th) (av.cons an1<|av.nil) bP ajA zT fun x y h=>(ams az x).trans (agF x y h)
def NK:au:=⟨11,GK,ale,Te,sa⟩
def UH:bf:=
 (.seq
 (.aa false [
 oX 2 (.box 2 0),
 oX 3 (.box 2 1),
 oX 4 (.mv (.k (.one (.v (.bool) (false)))))])
 (.seq
 (.seq
 (.aa false [
 oX 5 (.ao 0 2),
 oX 6 (.load false 1 5),
 oX 7 (.ao 0 3),
 oX 8 (.load false 1 7),
 oX 9 (.bin .neq 6 8)])
 (.cond 9
 (.seq
 (.aa false [
 oX 4 (.mv (.k (.one (.v (.bool) (false)))))])
 .ret)
 .skip))
 (.seq
 (.seq
 (.aa false [
 oX 10 (.ao 1 2),
 oX 11 (.load false 1 10),
 oX 12 (.ao 1 3),
 oX 13 (.load false 1 12),
 oX 14 (.call .ab 48 [11,13]),
 oX 15 (.un .not 14)])
 (.cond 15
 (.seq
 (.aa false [
 oX 4 (.mv (.k (.one (.v (.bool) (false)))))])
 .ret)
 .skip))
 (.seq
 (.aa false [
 oX 4 (.mv (.k (.one (.v (.bool) (true)))))])
 .ret))))
def Rd:List bh:=[.tmp 4]
theorem amp (NN:Nat) (x:aQ (ai.aP GK)):cm NN [NM] UH Rd GK Te x=Lt NN x:=by kernel_rfl
theorem ajx:bH pX 11 UH.er Rd 2=true:=by decide+kernel
theorem an0:bV pX 11 NK.M/\bi pX 11=true:=
  cD (T:=[NM]) (sc:=UH) (ms:=Rd) (args:=GK) (aA:=Te) (av.cons an2<|av.nil) bP ajx sa fun x y h=>(amp az x).trans (agC x y h)
def NO:au:=⟨12,GO,ali,Ti,vp⟩
def UL:bf:=
 (.seq
 (.aa false [
 oX 2 (.box 3 0),
 oX 3 (.box 3 1),
 oX 4 (.mv (.k (.one (.v (.bool) (false)))))])
 (.seq
 (.seq
 (.aa false [
 oX 5 (.ao 0 2),
 oX 6 (.load false 1 5),
 oX 7 (.ao 0 3),
 oX 8 (.load false 1 7),
 oX 9 (.call .ab 49 [6,8]),
 oX 10 (.un .not 9)])
 (.cond 10
 (.seq
 (.aa false [
 oX 4 (.mv (.k (.one (.v (.bool) (false)))))])
 .ret)
 .skip))
 (.seq
 (.seq
 (.aa false [
 oX 11 (.ao 1 2),
 oX 12 (.load false 1 11),
 oX 13 (.ao 1 3),
 oX 14 (.load false 1 13),
 oX 15 (.call .ab 49 [12,14]),
 oX 16 (.un .not 15)])
 (.cond 16
 (.seq
 (.aa false [
 oX 4 (.mv (.k (.one (.v (.bool) (false)))))])
 .ret)
 .skip))
 (.seq
 (.seq
 (.aa false [
 oX 17 (.ao 2 2),
 oX 18 (.load false 1 17),
 oX 19 (.ao 2 3),
 oX 20 (.load false 1 19),
 oX 21 (.call .ab 49 [18,20]),
 oX 22 (.un .not 21)])
 (.cond 22
 (.seq
 (.aa false [
 oX 4 (.mv (.k (.one (.v (.bool) (false)))))])
 .ret)
 .skip))
 (.seq
 (.aa false [
 oX 4 (.mv (.k (.one (.v (.bool) (true)))))])
 .ret)))))
def Ri:List bh:=[.tmp 4]
theorem amt (NN:Nat) (x:aQ (ai.aP GO)):cm NN [Ds] UL Ri GO Ti x=Lv NN x:=by kernel_rfl
theorem ajB:bH pX 12 UL.er Ri 2=true:=by decide+kernel
theorem an3:bV pX 12 NO.M/\bi pX 12=true:=
  cD (T:=[Ds]) (sc:=UL) (ms:=Ri) (args:=GO) (aA:=Ti) (av.cons abA<|av.nil) bP ajB vp fun x y h=>(amt az x).trans (agG x y h)
def Dt:au:=⟨50,GU,JC,Tn,pG⟩
def UQ:bf:=
 (.seq
 (.aa false [
 oX 4 (.mv (kX 0))])
 (.seq
 (.seq
 (.aa false [
 oX 5 (.mv (kX 0))])
 (.join ⟨[(1,sX)],[(1000000,.row false .ab iX)]⟩ [1000000] []
 (.block 0
 (.loop 0 ⟨[(0,.one (fX 1000000 1)),(1,sX),(5,sX)],[(1000000,.row false .ab iX)]⟩ [1000000,500000] [(false,0,0,500000,.ab,[])]
 (.seq
 (.seq
 (.aa false [
 oX 6 (.mv 5),
 oX 7 (.mv 0),
 oX 8 (.len 7),
 oX 9 (.bin .lss 6 8)])
 (.cond 9
 .skip
 (.exit 0)))
 (.seq
 (.block 1
 (.seq
 (.aa false [
 oX 12 (.mv 0),
 oX 13 (.mv 5),
 oX 14 (.mv 1),
 oX 15 (.bm 1 12 13),
 uX (.store 1 15 14)])
 (.aa false [
 oX 16 (.mv 1),
 oX 17 (.bin .add 16 (kX 1)),
 oX 1 (.mv 17)])))
 (.aa false [
 oX 10 (.mv 5),
 oX 11 (.bin .add 10 (kX 1)),
 oX 5 (.mv 11)])))))))
 (.seq
 (.aa false [
 oX 18 (.mv 1),
 oX 4 (.mv 18)])
 .ret)))
def Rn:List bh:=[.tmp 4]
theorem amy (NN:Nat) (x:aQ (ai.aP GU)):nz NN [] UQ Rn GU JC Tn x=LA NN x:=by kernel_rfl
theorem ajG:bH pX 50 UQ.er Rn 2=true:=by decide+kernel
theorem abB:kA pX 50 JC Dt.MM/\bi pX 50=true:=
  pg (T:=[]) (sc:=UQ) (ms:=Rn) (args:=GU) (mu:=JC) (aA:=Tn) (av.nil) bP ajG pG fun x y h=>(amy az x).trans (agL x y h)
def NU:au:=⟨13,GW,JE,Tp,zZ⟩
def US:bf:=
 (.seq
 (.aa false [
 oX 2 (.box 3 0),
 oX 4 (.mv (kX 0))])
 (.seq
 (.aa false [
 oX 5 (.ao 0 2),
 oX 6 (.load false 1 5),
 oX 7 (.mv 1),
 oX 8 (.eN .ab 50 [6,7]),
 oX 1 (.mv 8)])
 (.seq
 (.aa false [
 oX 9 (.ao 1 2),
 oX 10 (.load false 1 9),
 oX 11 (.mv 1),
 oX 12 (.eN .ab 50 [10,11]),
 oX 1 (.mv 12)])
 (.seq
 (.aa false [
 oX 13 (.ao 2 2),
 oX 14 (.load false 1 13),
 oX 15 (.mv 1),
 oX 16 (.eN .ab 50 [14,15]),
 oX 1 (.mv 16)])
 (.seq
 (.aa false [
 oX 17 (.mv 1),
 oX 4 (.mv 17)])
 .ret)))))
def Rp:List bh:=[.tmp 4]
theorem amA (NN:Nat) (x:aQ (ai.aP GW)):nz NN [Dt] US Rp GW JE Tp x=LC NN x:=by kernel_rfl
theorem ajI:bH pX 13 US.er Rp 2=true:=by decide+kernel
theorem an9:kA pX 13 JE NU.MM/\bi pX 13=true:=
  pg (T:=[Dt]) (sc:=US) (ms:=Rp) (args:=GW) (mu:=JE) (aA:=Tp) (av.lA abB<|av.nil) bP ajI zZ fun x y h=>(amA az x).trans (agN x y h)
def NT:au:=⟨51,GV,JD,To,zY⟩
def UR:bf:=
 (.seq
 (.aa false [
 oX 4 (.mv (kX 0))])
 (.seq
 (.seq
 (.aa false [
 oX 5 (.mv (kX 0))])
 (.join ⟨[(1,sX)],[(1000000,.row false .live gX)]⟩ [1000000] []
 (.block 0
 (.loop 0 ⟨[(0,.one (fX 1000000 4)),(1,sX),(5,sX)],[(1000000,.row false .live gX)]⟩ [1000000,500000] [(false,0,0,500000,.ab,[])]
 (.seq
 (.seq
 (.aa false [
 oX 6 (.mv 5),
 oX 7 (.mv 0),
 oX 8 (.len 7),
 oX 9 (.bin .lss 6 8)])
 (.cond 9
 .skip
 (.exit 0)))
 (.seq
 (.block 1
 (.seq
 (.aa false [
 oX 12 (.mv 0),
 oX 13 (.mv 5),
 oX 14 (.mv 1),
 oX 15 (.bm 4 12 13),
 oX 16 (.ao 0 15),
 uX (.store 1 16 14)])
 (.seq
 (.aa false [
 oX 17 (.mv 1),
 oX 18 (.bin .add 17 (kX 1)),
 oX 1 (.mv 18)])
 (.seq
 (.aa false [
 oX 19 (.mv 0),
 oX 20 (.mv 5),
 oX 21 (.mv 1),
 oX 22 (.bm 4 19 20),
 oX 23 (.ao 1 22),
 uX (.store 1 23 21)])
 (.seq
 (.aa false [
 oX 24 (.mv 1),
 oX 25 (.bin .add 24 (kX 1)),
 oX 1 (.mv 25)])
 (.seq
 (.aa false [
 oX 26 (.mv 0),
 oX 27 (.mv 5),
 oX 28 (.mv 1),
 oX 29 (.bm 4 26 27),
 oX 30 (.ao 2 29),
 uX (.store 1 30 28)])
 (.seq
 (.aa false [
 oX 31 (.mv 1),
 oX 32 (.bin .add 31 (kX 1)),
 oX 1 (.mv 32)])
 (.aa false [
 oX 33 (.mv 0),
 oX 34 (.mv 5),
 oX 35 (.bm 4 33 34),
 oX 36 (.ao 3 35),
 oX 37 (.load false 1 36),
 oX 38 (.mv 1),
 oX 39 (.eN .ab 50 [37,38]),
 oX 1 (.mv 39)]))))))))
 (.aa false [
 oX 10 (.mv 5),
 oX 11 (.bin .add 10 (kX 1)),
 oX 5 (.mv 11)])))))))
 (.seq
 (.aa false [
 oX 40 (.mv 1),
 oX 4 (.mv 40)])
 .ret)))
def Ro:List bh:=[.tmp 4]
theorem amz (NN:Nat) (x:aQ (ai.aP GV)):nz NN [Dt] UR Ro GV JD To x=LB NN x:=by kernel_rfl
theorem ajH:bH pX 51 UR.er Ro 2=true:=by decide+kernel
theorem an8:kA pX 51 JD NT.MM/\bi pX 51=true:=
  pg (T:=[Dt]) (sc:=UR) (ms:=Ro) (args:=GV) (mu:=JD) (aA:=To) (av.lA abB<|av.nil) bP ajH zY fun x y h=>(amz az x).trans (agM x y h)
def NS:au:=⟨14,GS,JB,Tm,zW⟩
def UP:bf:=
 (.seq
 (.aa false [
 oX 2 (.box 2 0),
 oX 4 (.mv (kX 0))])
 (.seq
 (.aa false [
 oX 5 (.ao 1 2),
 oX 6 (.load false 1 5),
 oX 7 (.mv 1),
 oX 8 (.eN .live 51 [6,7]),
 oX 1 (.mv 8)])
 (.seq
 (.aa false [
 oX 9 (.mv 1),
 oX 4 (.mv 9)])
 .ret)))
def Rm:List bh:=[.tmp 4]
theorem amx (NN:Nat) (x:aQ (ai.aP GS)):nz NN [NT] UP Rm GS JB Tm x=Lz NN x:=by kernel_rfl
theorem ajF:bH pX 14 UP.er Rm 2=true:=by decide+kernel
theorem an7:kA pX 14 JB NS.MM/\bi pX 14=true:=
  pg (T:=[NT]) (sc:=UP) (ms:=Rm) (args:=GS) (mu:=JB) (aA:=Tm) (av.lA an8<|av.nil) bP ajF zW fun x y h=>(amx az x).trans (agK x y h)
def NQ:au:=⟨94,GQ,alk,Tk,zU⟩
def UN:bf:=
 (.seq
 (.aa false [
 oX 4 (.mv (kX 0))])
 (.seq
 (.seq
 (.aa false [
 oX 5 (.mv (kX 0))])
 (.join ⟨[(1,sX)],[]⟩ [] []
 (.block 0
 (.loop 0 ⟨[(0,.one (.c (.v (lX)))),(1,sX),(5,sX)],[]⟩ [] []
 (.seq
 (.seq
 (.aa false [
 oX 6 (.mv 5),
 oX 7 (.mv 0),
 oX 8 (.len 7),
 oX 9 (.bin .lss 6 8)])
 (.cond 9
 .skip
 (.exit 0)))
 (.seq
 (.block 1
 (.seq
 (.seq
 (.aa false [
 oX 12 (.mv 0),
 oX 13 (.mv 5),
 oX 14 (.bm 1 12 13),
 oX 15 (.load false 1 14),
 oX 16 (.mv 1),
 oX 17 (.bin .neq 15 16)])
 (.cond 17
 (.seq
 (.aa false [
 oX 4 (.mv (kX (-1)))])
 .ret)
 .skip))
 (.aa false [
 oX 18 (.mv 1),
 oX 19 (.bin .add 18 (kX 1)),
 oX 1 (.mv 19)])))
 (.aa false [
 oX 10 (.mv 5),
 oX 11 (.bin .add 10 (kX 1)),
 oX 5 (.mv 11)])))))))
 (.seq
 (.aa false [
 oX 20 (.mv 1),
 oX 4 (.mv 20)])
 .ret)))
def Rk:List bh:=[.tmp 4]
theorem amv (NN:Nat) (x:aQ (ai.aP GQ)):cm NN [] UN Rk GQ Tk x=Lx NN x:=by kernel_rfl
theorem ajD:bH pX 94 UN.er Rk 2=true:=by decide+kernel
theorem an5:bV pX 94 NQ.M/\bi pX 94=true:=
  cD (T:=[]) (sc:=UN) (ms:=Rk) (args:=GQ) (aA:=Tk) (av.nil) bP ajD zU fun x y h=>(amv az x).trans (agI x y h)
def NR:au:=⟨52,GR,alm,Tl,zV⟩
def UO:bf:=
 (.seq
 (.aa false [
 oX 4 (.mv (kX 0))])
 (.seq
 (.seq
 (.aa false [
 oX 5 (.mv (kX 0))])
 (.join ⟨[(1,sX)],[]⟩ [] []
 (.block 0
 (.loop 0 ⟨[(0,.one (.c (.v (.list gX)))),(1,sX),(5,sX)],[]⟩ [] []
 (.seq
 (.seq
 (.aa false [
 oX 6 (.mv 5),
 oX 7 (.mv 0),
 oX 8 (.len 7),
 oX 9 (.bin .lss 6 8)])
 (.cond 9
 .skip
 (.exit 0)))
 (.seq
 (.block 1
 (.seq
 (.seq
 (.aa false [
 oX 12 (.mv 0),
 oX 13 (.mv 5),
 oX 14 (.bm 4 12 13),
 oX 15 (.ao 0 14),
 oX 16 (.load false 1 15),
 oX 17 (.mv 1),
 oX 18 (.bin .neq 16 17)])
 (.cond 18
 (.seq
 (.aa false [
 oX 4 (.mv (kX (-1)))])
 .ret)
 .skip))
 (.seq
 (.aa false [
 oX 19 (.mv 1),
 oX 20 (.bin .add 19 (kX 1)),
 oX 1 (.mv 20)])
 (.seq
 (.seq
 (.aa false [
 oX 21 (.mv 0),
 oX 22 (.mv 5),
 oX 23 (.bm 4 21 22),
 oX 24 (.ao 1 23),
 oX 25 (.load false 1 24),
 oX 26 (.mv 1),
 oX 27 (.bin .neq 25 26)])
 (.cond 27
 (.seq
 (.aa false [
 oX 4 (.mv (kX (-1)))])
 .ret)
 .skip))
 (.seq
 (.aa false [
 oX 28 (.mv 1),
 oX 29 (.bin .add 28 (kX 1)),
 oX 1 (.mv 29)])
 (.seq
 (.seq
 (.aa false [
 oX 30 (.mv 0),
 oX 31 (.mv 5),
 oX 32 (.bm 4 30 31),
 oX 33 (.ao 2 32),
 oX 34 (.load false 1 33),
 oX 35 (.mv 1),
 oX 36 (.bin .neq 34 35)])
 (.cond 36
 (.seq
 (.aa false [
 oX 4 (.mv (kX (-1)))])
 .ret)
 .skip))
 (.seq
 (.aa false [
 oX 37 (.mv 1),
 oX 38 (.bin .add 37 (kX 1)),
 oX 1 (.mv 38)])
 (.seq
 (.aa false [
 oX 39 (.mv 0),
 oX 40 (.mv 5),
 oX 41 (.bm 4 39 40),
 oX 42 (.ao 3 41),
 oX 43 (.load false 1 42),
 oX 44 (.mv 1),
 oX 45 (.call .ab 94 [43,44]),
 oX 1 (.mv 45)])
 (.seq
 (.aa false [
 oX 46 (.mv 1),
 oX 47 (.bin .lss 46 (kX 0))])
 (.cond 47
 (.seq
 (.aa false [
 oX 4 (.mv (kX (-1)))])
 .ret)
 .skip))))))))))
 (.aa false [
 oX 10 (.mv 5),
 oX 11 (.bin .add 10 (kX 1)),
 oX 5 (.mv 11)])))))))
 (.seq
 (.aa false [
 oX 48 (.mv 1),
 oX 4 (.mv 48)])
 .ret)))
def Rl:List bh:=[.tmp 4]
theorem amw (NN:Nat) (x:aQ (ai.aP GR)):cm NN [NQ] UO Rl GR Tl x=Ly NN x:=by kernel_rfl
theorem ajE:bH pX 52 UO.er Rl 2=true:=by decide+kernel
theorem an6:bV pX 52 NR.M/\bi pX 52=true:=
  cD (T:=[NQ]) (sc:=UO) (ms:=Rl) (args:=GR) (aA:=Tl) (av.cons an5<|av.nil) bP ajE zV fun x y h=>(amw az x).trans (agJ x y h)
def NP:au:=⟨15,GP,alj,Tj,tB⟩
def UM:bf:=
 (.seq
 (.aa false [
 oX 2 (.box 2 0),
 oX 4 (.mv (kX 0))])
 (.seq
 (.aa false [
 oX 5 (.ao 1 2),
 oX 6 (.load false 1 5),
 oX 7 (.mv 1),
 oX 8 (.call .ab 52 [6,7]),
 oX 1 (.mv 8)])
 (.seq
 (.seq
 (.aa false [
 oX 9 (.mv 1),
 oX 10 (.bin .lss 9 (kX 0))])
 (.cond 10
 (.seq
 (.aa false [
 oX 4 (.mv (kX (-1)))])
 .ret)
 .skip))
 (.seq
 (.aa false [
 oX 11 (.mv 1),
 oX 4 (.mv 11)])
 .ret))))
def Rj:List bh:=[.tmp 4]
theorem amu (NN:Nat) (x:aQ (ai.aP GP)):cm NN [NR] UM Rj GP Tj x=Lw NN x:=by kernel_rfl
theorem ajC:bH pX 15 UM.er Rj 2=true:=by decide+kernel
theorem an4:bV pX 15 NP.M/\bi pX 15=true:=
  cD (T:=[NR]) (sc:=UM) (ms:=Rj) (args:=GP) (aA:=Tj) (av.cons an6<|av.nil) bP ajC tB fun x y h=>(amu az x).trans (agH x y h)
def Iz:au:=⟨3,vD,ald,Td,FQ⟩
def UG:bf:=
 (.seq
 (.aa false [
 oX 3 (.box 3 1),
 oX 4 (.mv (.k (.one (.v (.bool) (false)))))])
 (.seq
 (.aa false [
 oX 5 (.mv (kX 1048576))])
 (.seq
 (.aa false [
 oX 16 (.load true 3 3),
 oX 17 (.mv 5),
 oX 18 (.call .live 7 [16,17]),
 oX 5 (.mv 18)])
 (.seq
 (.seq
 (.aa false [
 oX 19 (.mv 5),
 oX 20 (.bin .lss 19 (kX 0))])
 (.cond 20
 (.seq
 (.aa false [
 oX 4 (.mv (.k (.one (.v (.bool) (true)))))])
 .ret)
 .skip))
 (.seq
 (.aa false [
 oX 22 (.mv 0),
 oX 23 (.load true 3 3),
 oX 24 (.call .live 9 [23]),
 oX 25 (.call .live 8 [22,24]),
 oX 21 (.mv 25),
 oX 26 (.ext 0 21),
 oX 27 (.ext 1 21),
 oX 6 (.alloc [zX,.nil gX]),
 uX (.store 2 6 26),
 oX 7 (.mv 27)])
 (.seq
 (.aa false [
 oX 28 (.load true 3 3),
 oX 29 (.call .live 9 [28]),
 oX 8 (.alloc [.nil iX,.nil iX,.nil iX]),
 uX (.store 3 8 29)])
 (.seq
 (.aa false [
 oX 31 (.mv 0),
 oX 32 (.load true 3 8),
 oX 33 (.call .live 10 [31,32]),
 oX 30 (.mv 33),
 oX 34 (.ext 0 30),
 oX 35 (.ext 1 30),
 oX 9 (.alloc [zX,.nil gX]),
 uX (.store 2 9 34),
 oX 10 (.mv 35)])
 (.seq
 (.seq
 (.aa false [
 oX 36 (.load true 2 9),
 oX 37 (.load true 2 6),
 oX 38 (.call .live 11 [36,37]),
 oX 39 (.un .not 38),
 oX 40 (.mv 39),
 ⟨(some 41),.mv 10,(some (40,false))⟩,
 ⟨(some 42),.mv 7,(some (40,false))⟩,
 ⟨(some 43),.me .neq 41 42,(some (40,false))⟩,
 oX 44 (.pick 40 (.k (.one (.v (.bool) (true)))) 43)])
 (.cond 44
 (.seq
 (.aa false [
 oX 4 (.mv (.k (.one (.v (.bool) (false)))))])
 .ret)
 .skip))
 (.seq
 (.seq
 (.aa true [
 oX 45 (.load true 3 8),
 oX 46 (.load true 3 3),
 oX 47 (.call .live 9 [46]),
 oX 48 (.call .live 12 [45,47]),
 oX 49 (.un .not 48)])
 (.cond 49
 (.seq
 (.aa false [
 oX 4 (.mv (.k (.one (.v (.bool) (false)))))])
 .ret)
 .skip))
 (.seq
 (.aa false [
 oX 11 (.mv (kX 1))])
 (.seq
 (.aa false [
 oX 50 (.load true 3 8),
 oX 51 (.mv 11),
 oX 52 (.eN .live 13 [50,51]),
 oX 11 (.mv 52)])
 (.seq
 (.seq
 (.aa false [
 oX 53 (.mv 11),
 oX 54 (.bin .lss 53 (kX 0)),
 oX 55 (.mv 54),
 ⟨(some 56),.load true 2 9,(some (55,false))⟩,
 ⟨(some 57),.load true 2 6,(some (55,false))⟩,
 ⟨(some 58),.call .live 11 [56,57],(some (55,false))⟩,
 ⟨(some 59),.un .not 58,(some (55,false))⟩,
 oX 60 (.pick 55 (.k (.one (.v (.bool) (true)))) 59),
 oX 61 (.mv 60),
 ⟨(some 62),.mv 10,(some (61,false))⟩,
 ⟨(some 63),.mv 7,(some (61,false))⟩,
 ⟨(some 64),.me .neq 62 63,(some (61,false))⟩,
 oX 65 (.pick 61 (.k (.one (.v (.bool) (true)))) 64)])
 (.cond 65
 (.seq
 (.aa false [
 oX 4 (.mv (.k (.one (.v (.bool) (false)))))])
 .ret)
 .skip))
 (.seq
 (.aa false [
 oX 12 (.mv (kX 1))])
 (.seq
 (.aa false [
 oX 66 (.load true 2 9),
 oX 67 (.mv 12),
 oX 68 (.eN .live 14 [66,67]),
 oX 12 (.mv 68)])
 (.seq
 (.aa false [
 oX 13 (.mv (kX 1))])
 (.seq
 (.aa false [
 oX 69 (.load true 2 9),
 oX 70 (.mv 13),
 oX 71 (.call .live 15 [69,70]),
 oX 13 (.mv 71)])
 (.seq
 (.seq
 (.aa false [
 oX 72 (.mv 13),
 oX 73 (.bin .lss 72 (kX 0))])
 (.cond 73
 (.seq
 (.aa false [
 oX 4 (.mv (.k (.one (.v (.bool) (false)))))])
 .ret)
 .skip))
 (.seq
 (.seq
 (.aa false [
 oX 74 (.mv 13),
 oX 75 (.mv 12),
 oX 76 (.bin .neq 74 75)])
 (.cond 76
 (.seq
 (.aa false [
 oX 4 (.mv (.k (.one (.v (.bool) (false)))))])
 .ret)
 .skip))
 (.seq
 (.aa false [
 oX 78 (.mv 0),
 oX 79 (.load true 3 3),
 oX 80 (.call .live 9 [79]),
 oX 81 (.call .live 10 [78,80]),
 oX 77 (.mv 81),
 oX 82 (.ext 0 77),
 oX 83 (.ext 1 77),
 oX 14 (.alloc [zX,.nil gX]),
 uX (.store 2 14 82),
 oX 15 (.mv 83)])
 (.seq
 (.seq
 (.aa false [
 oX 84 (.load true 2 14),
 oX 85 (.load true 2 6),
 oX 86 (.call .live 11 [84,85]),
 oX 87 (.un .not 86),
 oX 88 (.mv 87),
 ⟨(some 89),.mv 15,(some (88,false))⟩,
 ⟨(some 90),.mv 7,(some (88,false))⟩,
 ⟨(some 91),.me .neq 89 90,(some (88,false))⟩,
 oX 92 (.pick 88 (.k (.one (.v (.bool) (true)))) 91)])
 (.cond 92
 (.seq
 (.aa false [
 oX 4 (.mv (.k (.one (.v (.bool) (false)))))])
 .ret)
 .skip))
 (.seq
 (.aa false [
 oX 13 (.mv (kX 1))])
 (.seq
 (.aa false [
 oX 93 (.load true 2 9),
 oX 94 (.mv 13),
 oX 95 (.call .live 15 [93,94]),
 oX 13 (.mv 95)])
 (.seq
 (.seq
 (.aa false [
 oX 96 (.mv 13),
 oX 97 (.bin .lss 96 (kX 0))])
 (.cond 97
 (.seq
 (.aa false [
 oX 4 (.mv (.k (.one (.v (.bool) (false)))))])
 .ret)
 .skip))
 (.seq
 (.seq
 (.aa false [
 oX 98 (.mv 13),
 oX 99 (.mv 12),
 oX 100 (.bin .neq 98 99)])
 (.cond 100
 (.seq
 (.aa false [
 oX 4 (.mv (.k (.one (.v (.bool) (false)))))])
 .ret)
 .skip))
 (.seq
 (.aa false [
 oX 4 (.mv (.k (.one (.v (.bool) (true)))))])
 .ret)))))))))))))))))))))))))
def Rc:List bh:=[.tmp 4]
theorem amo (NN:Nat) (x:aQ (ai.aP vD)):cm NN [NW,NY,N3,Nk,NK,NO,NU,NS,NP] UG Rc vD Td x=Ls NN x:=by kernel_rfl
theorem ajw:bH pX 3 UG.er Rc 2=true:=by decide+kernel
theorem anZ:bV pX 3 Iz.M/\bi pX 3=true:=
  cD (T:=[NW,NY,N3,Nk,NK,NO,NU,NS,NP]) (sc:=UG) (ms:=Rc) (args:=vD) (aA:=Td) (av.cons aob<|av.cons aod<|av.cons aoi<|av.cons anB<|av.cons an0<|av.cons an3<|av.lA an9<|av.lA an7<|av.cons an4<|av.nil) bP ajw FQ fun x y h=>(amo az x).trans (agB x y h)
end Go.Am
