/- A_DifferentWord: the code of the functions of FnExactDifferentWord. No condition. -/
import Derived.Test.YtifmggmhdcdgbaaLDifferentWord
import Derived.Test.YtifmggmhdcdgbaaBr2
import Derived.KernelRfl
import Derived.Test.YtifmggmhdcdgbaaRows
set_option linter.unusedVariables false
set_option maxRecDepth 100000
namespace Go.Am
theorem cE:Go.Proofs.Try.prog.follows .mixedOrders=true:=by decide+kernel
noncomputable abbrev pX:=Go.Proofs.Try.prog
def oX (n:Nat) (x:cm):ez:=⟨some n,x,none⟩
def uX (x:cm):ez:=⟨none,x,none⟩
def kX (n:Int):cl:=.k (.one (.v (.int .i64) n))
def sX:ij:=.one (.c (.v (.int .i64)))
def iX:List Ty:=[.int .i64]
def lX:Ty:=.list iX
def mX:List Ty:=[.int .i64,.int .i64,lX]
def zX:SC:=.v (.int .i64) (0:Int)
def vX:du:=.c (.v (.int .i64))
def fX (n k:Nat):du:=.c (.full n k)
def rX (n:Nat):du:=.c (.Ev n 0)
instance tX (n:Nat):OfNat cl n:=⟨.t n⟩
def CV:aG:=⟨30,Gi,aj5,RZ,rB⟩
def S7:bt:=
 (.seq
 (.ae false [
 oX 4 (.mv (kX 0))])
 (.seq
 (.ae false [
 oX 5 (.mv 1),
 oX 6 (.mv 0),
 oX 7 (.len 6),
 oX 8 (.bin .sub 5 7),
 oX 1 (.mv 8)])
 (.seq
 (.seq
 (.ae false [
 oX 9 (.mv 1),
 oX 10 (.bin .lss 9 (kX 0))])
 (.cond 10
 (.seq
 (.ae false [
 oX 4 (.mv (kX (-1)))])
 .ret)
 .skip))
 (.seq
 (.ae false [
 oX 11 (.mv 1),
 oX 4 (.mv 11)])
 .ret))))
def Qr:List bx:=[.tmp 4]
theorem ak5 (NN:Nat) (x:aQ (ao.aP Gi)):cW NN [] S7 Qr Gi RZ x=Lb NN x:=by kernel_rfl
theorem ah7:bU pX 30 S7.er Qr 2=true:=by decide+kernel
theorem ZZ:cJ pX 30 CV.M/\bD pX 30=true:=
  c9 (T:=[]) (sc:=S7) (ms:=Qr) (args:=Gi) (aB:=RZ) (az.nil) cE ah7 rB fun x y h=>(ak5 aD x).trans (aep x y h)
def MN:aG:=⟨60,Gj,aj6,R0,zp⟩
def S8:bt:=
 (.seq
 (.ae false [
 oX 2 (.box 3 0),
 oX 4 (.mv (kX 0))])
 (.seq
 (.ae false [
 oX 5 (.ak 2 2),
 oX 6 (.load false 1 5),
 oX 7 (.mv 1),
 oX 8 (.call .aa 30 [6,7]),
 oX 1 (.mv 8)])
 (.seq
 (.seq
 (.ae false [
 oX 9 (.mv 1),
 oX 10 (.bin .lss 9 (kX 0))])
 (.cond 10
 (.seq
 (.ae false [
 oX 4 (.mv (kX (-1)))])
 .ret)
 .skip))
 (.seq
 (.ae false [
 oX 11 (.mv 1),
 oX 4 (.mv 11)])
 .ret))))
def Qs:List bx:=[.tmp 4]
theorem ak6 (NN:Nat) (x:aQ (ao.aP Gj)):cW NN [CV] S8 Qs Gj R0 x=Lc NN x:=by kernel_rfl
theorem ah8:bU pX 60 S8.er Qs 2=true:=by decide+kernel
theorem amf:cJ pX 60 MN.M/\bD pX 60=true:=
  c9 (T:=[CV]) (sc:=S8) (ms:=Qs) (args:=Gj) (aB:=R0) (az.cons ZZ<|az.nil) cE ah8 zp fun x y h=>(ak6 aD x).trans (aeq x y h)
def MP:aG:=⟨31,Gk,aj7,R1,zq⟩
def S9:bt:=
 (.seq
 (.ae false [
 oX 4 (.mv (kX 0))])
 (.seq
 (.ae false [
 oX 6 (.mv 1),
 oX 7 (.mv 0),
 oX 8 (.len 7),
 oX 9 (.bin .sub 6 8),
 oX 1 (.mv 9)])
 (.seq
 (.seq
 (.ae false [
 oX 10 (.mv 1),
 oX 11 (.bin .lss 10 (kX 0))])
 (.cond 11
 (.seq
 (.ae false [
 oX 4 (.mv (kX (-1)))])
 .ret)
 .skip))
 (.seq
 (.seq
 (.ae false [
 oX 5 (.mv (kX 0))])
 (.join ⟨[(1,sX)],[]⟩ [] []
 (.block 0
 (.loop 0 ⟨[(0,.one (.c (.v (.list mX)))),(1,sX),(5,sX)],[]⟩ [] []
 (.seq
 (.seq
 (.ae false [
 oX 12 (.mv 5),
 oX 13 (.mv 0),
 oX 14 (.len 13),
 oX 15 (.bin .lss 12 14)])
 (.cond 15
 .skip
 (.exit 0)))
 (.seq
 (.block 1
 (.seq
 (.ae false [
 oX 18 (.mv 0),
 oX 19 (.mv 5),
 oX 20 (.bO 3 18 19),
 oX 21 (.load true 3 20),
 oX 22 (.mv 1),
 oX 23 (.call .aa 60 [21,22]),
 oX 1 (.mv 23)])
 (.seq
 (.ae false [
 oX 24 (.mv 1),
 oX 25 (.bin .lss 24 (kX 0))])
 (.cond 25
 (.seq
 (.ae false [
 oX 4 (.mv (kX (-1)))])
 .ret)
 .skip))))
 (.ae false [
 oX 16 (.mv 5),
 oX 17 (.bin .add 16 (kX 1)),
 oX 5 (.mv 17)])))))))
 (.seq
 (.ae false [
 oX 26 (.mv 1),
 oX 4 (.mv 26)])
 .ret)))))
def Qt:List bx:=[.tmp 4]
theorem ak7 (NN:Nat) (x:aQ (ao.aP Gk)):cW NN [MN] S9 Qt Gk R1 x=UT NN x:=by kernel_rfl
theorem ah9:bU pX 31 S9.er Qt 2=true:=by decide+kernel
theorem amg:cJ pX 31 MP.M/\bD pX 31=true:=
  c9 (T:=[MN]) (sc:=S9) (ms:=Qt) (args:=Gk) (aB:=R1) (az.cons amf<|az.nil) cE ah9 zq fun x y h=>(ak7 aD x).trans (aer x y h)
def ML:aG:=⟨8,Gg,aj4,RY,uV⟩
def S6:bt:=
 (.seq
 (.ae false [
 oX 2 (.box 5 0),
 oX 4 (.mv (kX 0))])
 (.seq
 (.ae false [
 oX 5 (.ak 2 2),
 oX 6 (.load false 1 5),
 oX 7 (.mv 1),
 oX 8 (.call .aa 30 [6,7]),
 oX 1 (.mv 8)])
 (.seq
 (.seq
 (.ae false [
 oX 9 (.mv 1),
 oX 10 (.bin .lss 9 (kX 0))])
 (.cond 10
 (.seq
 (.ae false [
 oX 4 (.mv (kX (-1)))])
 .ret)
 .skip))
 (.seq
 (.ae false [
 oX 11 (.ak 3 2),
 oX 12 (.load false 1 11),
 oX 13 (.mv 1),
 oX 14 (.call .aa 31 [12,13]),
 oX 1 (.mv 14)])
 (.seq
 (.seq
 (.ae false [
 oX 15 (.mv 1),
 oX 16 (.bin .lss 15 (kX 0))])
 (.cond 16
 (.seq
 (.ae false [
 oX 4 (.mv (kX (-1)))])
 .ret)
 .skip))
 (.seq
 (.ae false [
 oX 17 (.ak 4 2),
 oX 18 (.load false 1 17),
 oX 19 (.mv 1),
 oX 20 (.call .aa 30 [18,19]),
 oX 1 (.mv 20)])
 (.seq
 (.seq
 (.ae false [
 oX 21 (.mv 1),
 oX 22 (.bin .lss 21 (kX 0))])
 (.cond 22
 (.seq
 (.ae false [
 oX 4 (.mv (kX (-1)))])
 .ret)
 .skip))
 (.seq
 (.ae false [
 oX 23 (.mv 1),
 oX 4 (.mv 23)])
 .ret))))))))
def Qq:List bx:=[.tmp 4]
theorem ak4 (NN:Nat) (x:aQ (ao.aP Gg)):cW NN [CV,MP] S6 Qq Gg RY x=La NN x:=by kernel_rfl
theorem ah6:bU pX 8 S6.er Qq 2=true:=by decide+kernel
theorem ame:cJ pX 8 ML.M/\bD pX 8=true:=
  c9 (T:=[CV,MP]) (sc:=S6) (ms:=Qq) (args:=Gg) (aB:=RY) (az.cons ZZ<|az.cons amg<|az.nil) cE ah6 uV fun x y h=>(ak4 aD x).trans (aeo x y h)
def CW:aG:=⟨38,Gm,aj9,R4,tg⟩
def Tb:bt:=
 (.seq
 (.ae false [
 oX 2 (.mv (.k (.one (.nil iX))))])
 (.seq
 (.ae false [
 oX 5 (.mv 0),
 oX 6 (.len 5),
 oX 7 (.ld .aa iX 8 (0:Int) 6 6),
 oX 3 (.mv 7)])
 (.seq
 (.seq
 (.ae false [
 oX 4 (.mv (kX 0))])
 (.join ⟨[(3,.one (fX 500001 1))],[(500001,.row true .aa iX)]⟩ [500000,500001] [(false,3,0,500001,.aa,[])]
 (.block 0
 (.loop 0 ⟨[(0,.one (.c (.v (lX)))),(3,.one (fX 500000 1)),(4,sX)],[(500000,.row true .aa iX)]⟩ [7,500000] [(false,3,0,500000,.aa,[])]
 (.seq
 (.seq
 (.ae false [
 oX 8 (.mv 4),
 oX 9 (.mv 0),
 oX 10 (.len 9),
 oX 11 (.bin .lss 8 10)])
 (.cond 11
 .skip
 (.exit 0)))
 (.seq
 (.block 1
 (.ae false [
 oX 14 (.mv 3),
 oX 15 (.mv 4),
 oX 16 (.mv 0),
 oX 17 (.mv 4),
 oX 18 (.bO 1 16 17),
 oX 19 (.load false 1 18),
 oX 20 (.bO 1 14 15),
 uX (.store 1 20 19)]))
 (.ae false [
 oX 12 (.mv 4),
 oX 13 (.bin .add 12 (kX 1)),
 oX 4 (.mv 13)])))))))
 (.seq
 (.ae false [
 oX 21 (.mv 3),
 oX 2 (.mv 21)])
 .ret))))
def Qv:List bx:=[.tmp 2]
theorem ak9 (NN:Nat) (x:aQ (ao.aP Gm)):cW NN [] Tb Qv Gm R4 x=Le NN x:=by kernel_rfl
theorem aib:bU pX 38 Tb.er Qv 1=true:=by decide+kernel
theorem Z0:cJ pX 38 CW.M/\bD pX 38=true:=
  c9 (T:=[]) (sc:=Tb) (ms:=Qv) (args:=Gm) (aB:=R4) (az.nil) cE aib tg fun x y h=>(ak9 aD x).trans (aet x y h)
def MR:aG:=⟨64,Gn,aka,R5,zr⟩
def Tc:bt:=
 (.seq
 (.ae false [
 oX 1 (.box 3 0),
 oX 2 (.alloc [zX,zX,.nil iX])])
 (.seq
 (.ae false [
 oX 3 (.alloc [zX,zX,.nil iX])])
 (.seq
 (.ae false [
 oX 4 (.ak 0 1),
 oX 5 (.load false 1 4),
 oX 6 (.ak 0 3),
 uX (.store 1 6 5)])
 (.seq
 (.ae false [
 oX 7 (.ak 1 1),
 oX 8 (.load false 1 7),
 oX 9 (.ak 1 3),
 uX (.store 1 9 8)])
 (.seq
 (.ae false [
 oX 10 (.ak 2 1),
 oX 11 (.load false 1 10),
 oX 12 (.call .aa 38 [11]),
 oX 13 (.ak 2 3),
 uX (.store 1 13 12)])
 (.seq
 (.ae false [
 oX 14 (.load true 3 3),
 uX (.store 3 2 14)])
 .ret))))))
def Qw:List bx:=[.cell 2 3 true]
theorem ala (NN:Nat) (x:aQ (ao.aP Gn)):cW NN [CW] Tc Qw Gn R5 x=Lf NN x:=by kernel_rfl
theorem aic:bU pX 64 Tc.er Qw 1=true:=by decide+kernel
theorem ami:cJ pX 64 MR.M/\bD pX 64=true:=
  c9 (T:=[CW]) (sc:=Tc) (ms:=Qw) (args:=Gn) (aB:=R5) (az.cons Z0<|az.nil) cE aic zr fun x y h=>(ala aD x).trans (aeu x y h)
def MS:aG:=⟨39,Gp,akb,R6,zt⟩
def Td:bt:=
 (.seq
 (.ae false [
 oX 2 (.mv (.k (.one (.nil mX))))])
 (.seq
 (.ae false [
 oX 5 (.mv 0),
 oX 6 (.len 5),
 oX 7 (.ld .aa mX 40 ((0:Int),((0:Int),[])) 6 6),
 oX 3 (.mv 7)])
 (.seq
 (.seq
 (.ae false [
 oX 4 (.mv (kX 0))])
 (.join ⟨[(3,.one (fX 500001 3))],[(500001,.row true .aa mX)]⟩ [500000,500001] [(false,3,0,500001,.aa,[])]
 (.block 0
 (.loop 0 ⟨[(0,.one (.c (.v (.list mX)))),(3,.one (fX 500000 3)),(4,sX)],[(500000,.row true .aa mX)]⟩ [7,500000] [(false,3,0,500000,.aa,[])]
 (.seq
 (.seq
 (.ae false [
 oX 8 (.mv 4),
 oX 9 (.mv 0),
 oX 10 (.len 9),
 oX 11 (.bin .lss 8 10)])
 (.cond 11
 .skip
 (.exit 0)))
 (.seq
 (.block 1
 (.ae false [
 oX 14 (.mv 3),
 oX 15 (.mv 4),
 oX 16 (.mv 0),
 oX 17 (.mv 4),
 oX 18 (.bO 3 16 17),
 oX 19 (.load true 3 18),
 oX 20 (.call .aa 64 [19]),
 oX 21 (.bO 3 14 15),
 uX (.store 3 21 20)]))
 (.ae false [
 oX 12 (.mv 4),
 oX 13 (.bin .add 12 (kX 1)),
 oX 4 (.mv 13)])))))))
 (.seq
 (.ae false [
 oX 22 (.mv 3),
 oX 2 (.mv 22)])
 .ret))))
def Qx:List bx:=[.tmp 2]
theorem alb (NN:Nat) (x:aQ (ao.aP Gp)):cW NN [MR] Td Qx Gp R6 x=Lg NN x:=by kernel_rfl
theorem aid:bU pX 39 Td.er Qx 1=true:=by decide+kernel
theorem amj:cJ pX 39 MS.M/\bD pX 39=true:=
  c9 (T:=[MR]) (sc:=Td) (ms:=Qx) (args:=Gp) (aB:=R6) (az.cons ami<|az.nil) cE aid zt fun x y h=>(alb aD x).trans (aev x y h)
def MQ:aG:=⟨10,Gl,aj8,R3,mn⟩
def Ta:bt:=
 (.seq
 (.ae false [
 oX 1 (.box 5 0),
 oX 2 (.alloc [zX,zX,.nil iX,.nil mX,.nil iX])])
 (.seq
 (.ae false [
 oX 3 (.alloc [zX,zX,.nil iX,.nil mX,.nil iX])])
 (.seq
 (.ae false [
 oX 4 (.ak 0 1),
 oX 5 (.load false 1 4),
 oX 6 (.ak 0 3),
 uX (.store 1 6 5)])
 (.seq
 (.ae false [
 oX 7 (.ak 1 1),
 oX 8 (.load false 1 7),
 oX 9 (.ak 1 3),
 uX (.store 1 9 8)])
 (.seq
 (.ae false [
 oX 10 (.ak 2 1),
 oX 11 (.load false 1 10),
 oX 12 (.call .aa 38 [11]),
 oX 13 (.ak 2 3),
 uX (.store 1 13 12)])
 (.seq
 (.ae false [
 oX 14 (.ak 3 1),
 oX 15 (.load false 1 14),
 oX 16 (.call .aa 39 [15]),
 oX 17 (.ak 3 3),
 uX (.store 1 17 16)])
 (.seq
 (.ae false [
 oX 18 (.ak 4 1),
 oX 19 (.load false 1 18),
 oX 20 (.call .aa 38 [19]),
 oX 21 (.ak 4 3),
 uX (.store 1 21 20)])
 (.seq
 (.ae false [
 oX 22 (.load true 5 3),
 uX (.store 5 2 22)])
 .ret))))))))
def Qu:List bx:=[.cell 2 5 true]
theorem ak8 (NN:Nat) (x:aQ (ao.aP Gl)):cW NN [CW,MS] Ta Qu Gl R3 x=Ld NN x:=by kernel_rfl
theorem aia:bU pX 10 Ta.er Qu 1=true:=by decide+kernel
theorem amh:cJ pX 10 MQ.M/\bD pX 10=true:=
  c9 (T:=[CW,MS]) (sc:=Ta) (ms:=Qu) (args:=Gl) (aB:=R3) (az.cons Z0<|az.cons amj<|az.nil) cE aia mn fun x y h=>(ak8 aD x).trans (aes x y h)
def tz:aG:=⟨75,Gu,akg,Sb,kG⟩
def Ti:bt:=
 (.seq
 (.ae false [
 oX 6 (.mv (.k (.one (.v (.bool) (false)))))])
 (.seq
 (.ae false [
 oX 7 (.mv 0),
 oX 8 (.mv 1),
 oX 9 (.bin .geq 7 8),
 oX 10 (.mv 9),
 ⟨(some 11),.mv 0,(some (10,true))⟩,
 ⟨(some 12),.mv 2,(some (10,true))⟩,
 ⟨(some 13),.bin .leq 11 12,(some (10,true))⟩,
 oX 14 (.pick 10 13 (.k (.one (.v (.bool) (false))))),
 oX 6 (.mv 14)])
 .ret))
def QC:List bx:=[.tmp 6]
theorem alg (NN:Nat) (x:aQ (ao.aP Gu)):cW NN [] Ti QC Gu Sb x=Lk NN x:=by kernel_rfl
theorem aij:bU pX 75 Ti.er QC 3=true:=by decide+kernel
theorem JT:cJ pX 75 tz.M/\bD pX 75=true:=
  c9 (T:=[]) (sc:=Ti) (ms:=QC) (args:=Gu) (aB:=Sb) (az.nil) cE aij kG fun x y h=>(alg aD x).trans (aeA x y h)
def CX:aG:=⟨74,Gs,ake,R9,uY⟩
def Tg:bt:=
 (.seq
 (.ae false [
 oX 2 (.mv (.k (.one (.v (.bool) (false)))))])
 (.seq
 (.seq
 (.ae false [
 oX 3 (.mv (kX 2))])
 (.join ⟨[(0,sX)],[]⟩ [] []
 (.block 0
 (.loop 0 ⟨[(0,sX),(3,sX)],[]⟩ [] []
 (.seq
 (.seq
 (.ae false [
 oX 4 (.mv 3),
 oX 5 (.mv 3),
 oX 6 (.bin .mul 4 5),
 oX 7 (.mv 0),
 oX 8 (.bin .leq 6 7),
 oX 9 (.mv 8),
 ⟨(some 10),.mv 0,(some (9,true))⟩,
 ⟨(some 11),.bin .leq 10 (kX 1000003),(some (9,true))⟩,
 oX 12 (.pick 9 11 (.k (.one (.v (.bool) (false)))))])
 (.cond 12
 .skip
 (.exit 0)))
 (.seq
 (.block 1
 (.seq
 (.ae false [
 oX 15 (.mv 0),
 oX 16 (.mv 3),
 oX 17 (.bin .rem 15 16),
 oX 18 (.bin .eql 17 (kX 0))])
 (.cond 18
 (.seq
 (.ae false [
 oX 2 (.mv (.k (.one (.v (.bool) (false)))))])
 .ret)
 .skip)))
 (.ae false [
 oX 13 (.mv 3),
 oX 14 (.bin .add 13 (kX 1)),
 oX 3 (.mv 14)])))))))
 (.seq
 (.ae false [
 oX 19 (.mv 0),
 oX 20 (.call .aa 75 [19,(kX 2),(kX 1000003)]),
 oX 2 (.mv 20)])
 .ret)))
def QA:List bx:=[.tmp 2]
theorem ale (NN:Nat) (x:aQ (ao.aP Gs)):cW NN [tz] Tg QA Gs R9 x=Li NN x:=by kernel_rfl
theorem aih:bU pX 74 Tg.er QA 1=true:=by decide+kernel
theorem Z1:cJ pX 74 CX.M/\bD pX 74=true:=
  c9 (T:=[tz]) (sc:=Tg) (ms:=QA) (args:=Gs) (aB:=R9) (az.cons JT<|az.nil) cE aih uY fun x y h=>(ale aD x).trans (aey x y h)
def M8:aG:=⟨76,GJ,akr,So,u4⟩
def Tv:bt:=
 (.seq
 (.ae false [
 oX 6 (.mv (.k (.one (.v (.bool) (false)))))])
 (.seq
 (.seq
 (.ae false [
 oX 9 (.mv 1),
 oX 10 (.len 9),
 oX 11 (.mv (kX 0))])
 (.join ⟨[(1,.one (.c (.v (lX)))),(2,sX)],[]⟩ [] []
 (.block 0
 (.loop 0 ⟨[(0,sX),(1,.one (.c (.v (lX)))),(2,sX),(9,.one (.c (.v (lX)))),(10,sX),(11,sX)],[]⟩ [] []
 (.seq
 (.ae false [
 oX 12 (.bin .lss 11 10)])
 (.seq
 (.cond 12
 .skip
 (.exit 0))
 (.seq
 (.block 1
 (.seq
 (.ae false [
 oX 13 (.bO 1 9 11),
 oX 14 (.load false 1 13),
 oX 8 (.mv 14)])
 (.seq
 (.ae false [
 oX 15 (.mv 8),
 oX 16 (.mv 0),
 oX 17 (.bin .sub 16 (kX 1)),
 oX 18 (.call .aa 75 [15,(kX 0),17]),
 oX 19 (.un .not 18)])
 (.cond 19
 (.seq
 (.ae false [
 oX 6 (.mv (.k (.one (.v (.bool) (false)))))])
 .ret)
 .skip))))
 (.ae false [
 oX 20 (.bin .add 11 (kX 1)),
 oX 11 (.mv 20)]))))))))
 (.seq
 (.ae false [
 oX 21 (.mv 1),
 oX 22 (.len 21),
 oX 23 (.mv 2),
 oX 24 (.bin .eql 22 23),
 oX 6 (.mv 24)])
 .ret)))
def QP:List bx:=[.tmp 6]
theorem alu (NN:Nat) (x:aQ (ao.aP GJ)):cW NN [tz] Tv QP GJ So x=Lp NN x:=by kernel_rfl
theorem aiw:bU pX 76 Tv.er QP 3=true:=by decide+kernel
theorem amw:cJ pX 76 M8.M/\bD pX 76=true:=
  c9 (T:=[tz]) (sc:=Tv) (ms:=QP) (args:=GJ) (aB:=So) (az.cons JT<|az.nil) cE aiw u4 fun x y h=>(alu aD x).trans (aeM x y h)
def MW:aG:=⟨77,Gt,akf,Sa,xc⟩
def Th:bt:=
 (.seq
 (.ae false [
 oX 3 (.box 3 1),
 oX 4 (.mv (.k (.one (.v (.bool) (false)))))])
 (.seq
 (.seq
 (.ae false [
 oX 7 (.mv 0),
 oX 8 (.call .aa 74 [7]),
 oX 9 (.un .not 8),
 oX 10 (.mv 9),
 ⟨(some 11),.ak 0 3,(some (10,false))⟩,
 ⟨(some 12),.load false 1 11,(some (10,false))⟩,
 ⟨(some 13),.call .aa 75 [12,(kX 0),(kX 64)],(some (10,false))⟩,
 ⟨(some 14),.un .not 13,(some (10,false))⟩,
 oX 15 (.pick 10 (.k (.one (.v (.bool) (true)))) 14),
 oX 16 (.mv 15),
 ⟨(some 17),.ak 1 3,(some (16,false))⟩,
 ⟨(some 18),.load false 1 17,(some (16,false))⟩,
 ⟨(some 19),.call .aa 75 [18,(kX 0),(kX 64)],(some (16,false))⟩,
 ⟨(some 20),.un .not 19,(some (16,false))⟩,
 oX 21 (.pick 16 (.k (.one (.v (.bool) (true)))) 20),
 oX 22 (.mv 21),
 ⟨(some 23),.ak 2 3,(some (22,false))⟩,
 ⟨(some 24),.load false 1 23,(some (22,false))⟩,
 ⟨(some 25),.len 24,(some (22,false))⟩,
 ⟨(some 26),.ak 0 3,(some (22,false))⟩,
 ⟨(some 27),.load false 1 26,(some (22,false))⟩,
 ⟨(some 28),.ak 1 3,(some (22,false))⟩,
 ⟨(some 29),.load false 1 28,(some (22,false))⟩,
 ⟨(some 30),.bin .mul 27 29,(some (22,false))⟩,
 ⟨(some 31),.bin .neq 25 30,(some (22,false))⟩,
 oX 32 (.pick 22 (.k (.one (.v (.bool) (true)))) 31)])
 (.cond 32
 (.seq
 (.ae false [
 oX 4 (.mv (.k (.one (.v (.bool) (false)))))])
 .ret)
 .skip))
 (.seq
 (.seq
 (.ae false [
 oX 33 (.ak 2 3),
 oX 34 (.load false 1 33),
 oX 35 (.len 34),
 oX 36 (.mv (kX 0))])
 (.join ⟨[],[]⟩ [] []
 (.block 0
 (.loop 0 ⟨[(0,sX),(34,.one (.c (.v (lX)))),(35,sX),(36,sX)],[]⟩ [3] []
 (.seq
 (.ae false [
 oX 37 (.bin .lss 36 35)])
 (.seq
 (.cond 37
 .skip
 (.exit 0))
 (.seq
 (.block 1
 (.seq
 (.ae false [
 oX 38 (.bO 1 34 36),
 oX 39 (.load false 1 38),
 oX 6 (.mv 39)])
 (.seq
 (.ae false [
 oX 40 (.mv 6),
 oX 41 (.mv 0),
 oX 42 (.bin .sub 41 (kX 1)),
 oX 43 (.call .aa 75 [40,(kX 0),42]),
 oX 44 (.un .not 43)])
 (.cond 44
 (.seq
 (.ae false [
 oX 4 (.mv (.k (.one (.v (.bool) (false)))))])
 .ret)
 .skip))))
 (.ae false [
 oX 45 (.bin .add 36 (kX 1)),
 oX 36 (.mv 45)]))))))))
 (.seq
 (.ae false [
 oX 4 (.mv (.k (.one (.v (.bool) (true)))))])
 .ret))))
def QB:List bx:=[.tmp 4]
theorem alf (NN:Nat) (x:aQ (ao.aP Gt)):cW NN [CX,tz] Th QB Gt Sa x=Lj NN x:=by kernel_rfl
theorem aii:bU pX 77 Th.er QB 2=true:=by decide+kernel
theorem amm:cJ pX 77 MW.M/\bD pX 77=true:=
  c9 (T:=[CX,tz]) (sc:=Th) (ms:=QB) (args:=Gt) (aB:=Sa) (az.cons Z1<|az.cons JT<|az.nil) cE aii xc fun x y h=>(alf aD x).trans (aez x y h)
def MT:aG:=⟨47,Gq,akc,R7,uW⟩
def Te:bt:=
 (.seq
 (.ae false [
 oX 1 (.box 5 0),
 oX 2 (.mv (.k (.one (.v (.bool) (false)))))])
 (.seq
 (.seq
 (.ae false [
 oX 5 (.ak 0 1),
 oX 6 (.load false 1 5),
 oX 7 (.call .aa 74 [6]),
 oX 8 (.un .not 7),
 oX 9 (.mv 8),
 ⟨(some 10),.ak 1 1,(some (9,false))⟩,
 ⟨(some 11),.load false 1 10,(some (9,false))⟩,
 ⟨(some 12),.call .aa 75 [11,(kX 0),(kX 12)],(some (9,false))⟩,
 ⟨(some 13),.un .not 12,(some (9,false))⟩,
 oX 14 (.pick 9 (.k (.one (.v (.bool) (true)))) 13),
 oX 15 (.mv 14),
 ⟨(some 16),.ak 0 1,(some (15,false))⟩,
 ⟨(some 17),.load false 1 16,(some (15,false))⟩,
 ⟨(some 18),.ak 2 1,(some (15,false))⟩,
 ⟨(some 19),.load false 1 18,(some (15,false))⟩,
 ⟨(some 20),.ak 1 1,(some (15,false))⟩,
 ⟨(some 21),.load false 1 20,(some (15,false))⟩,
 ⟨(some 22),.call .aa 76 [17,19,21],(some (15,false))⟩,
 ⟨(some 23),.un .not 22,(some (15,false))⟩,
 oX 24 (.pick 15 (.k (.one (.v (.bool) (true)))) 23),
 oX 25 (.mv 24),
 ⟨(some 26),.ak 0 1,(some (25,false))⟩,
 ⟨(some 27),.load false 1 26,(some (25,false))⟩,
 ⟨(some 28),.ak 4 1,(some (25,false))⟩,
 ⟨(some 29),.load false 1 28,(some (25,false))⟩,
 ⟨(some 30),.ak 1 1,(some (25,false))⟩,
 ⟨(some 31),.load false 1 30,(some (25,false))⟩,
 ⟨(some 32),.call .aa 76 [27,29,31],(some (25,false))⟩,
 ⟨(some 33),.un .not 32,(some (25,false))⟩,
 oX 34 (.pick 25 (.k (.one (.v (.bool) (true)))) 33),
 oX 35 (.mv 34),
 ⟨(some 36),.ak 3 1,(some (35,false))⟩,
 ⟨(some 37),.load false 1 36,(some (35,false))⟩,
 ⟨(some 38),.len 37,(some (35,false))⟩,
 ⟨(some 39),.call .aa 75 [38,(kX 1),(kX 4)],(some (35,false))⟩,
 ⟨(some 40),.un .not 39,(some (35,false))⟩,
 oX 41 (.pick 35 (.k (.one (.v (.bool) (true)))) 40)])
 (.cond 41
 (.seq
 (.ae false [
 oX 2 (.mv (.k (.one (.v (.bool) (false)))))])
 .ret)
 .skip))
 (.seq
 (.seq
 (.ae false [
 oX 42 (.ak 3 1),
 oX 43 (.load false 1 42),
 oX 44 (.len 43),
 oX 45 (.mv (kX 0))])
 (.join ⟨[],[]⟩ [1] []
 (.block 0
 (.loop 0 ⟨[(1,.one (rX 1)),(43,.one (.c (.v (.list mX)))),(44,sX),(45,sX)],[(1,.box [vX,vX,.c (.v (lX)),.c (.v (.list mX)),.c (.v (lX))])]⟩ [1,4] []
 (.seq
 (.ae false [
 oX 46 (.bin .lss 45 44)])
 (.seq
 (.cond 46
 .skip
 (.exit 0))
 (.seq
 (.block 1
 (.seq
 (.ae false [
 oX 47 (.bO 3 43 45),
 oX 48 (.load true 3 47),
 oX 4 (.alloc [zX,zX,.nil iX]),
 uX (.store 3 4 48)])
 (.seq
 (.ae false [
 oX 49 (.ak 0 1),
 oX 50 (.load false 1 49),
 oX 51 (.load true 3 4),
 oX 52 (.call .aa 77 [50,51]),
 oX 53 (.un .not 52),
 oX 54 (.mv 53),
 ⟨(some 55),.ak 0 4,(some (54,false))⟩,
 ⟨(some 56),.load false 1 55,(some (54,false))⟩,
 ⟨(some 57),.ak 1 1,(some (54,false))⟩,
 ⟨(some 58),.load false 1 57,(some (54,false))⟩,
 ⟨(some 59),.bin .neq 56 58,(some (54,false))⟩,
 oX 60 (.pick 54 (.k (.one (.v (.bool) (true)))) 59),
 oX 61 (.mv 60),
 ⟨(some 62),.ak 1 4,(some (61,false))⟩,
 ⟨(some 63),.load false 1 62,(some (61,false))⟩,
 ⟨(some 64),.ak 1 1,(some (61,false))⟩,
 ⟨(some 65),.load false 1 64,(some (61,false))⟩,
 ⟨(some 66),.bin .neq 63 65,(some (61,false))⟩,
 oX 67 (.pick 61 (.k (.one (.v (.bool) (true)))) 66)])
 (.cond 67
 (.seq
 (.ae false [
 oX 2 (.mv (.k (.one (.v (.bool) (false)))))])
 .ret)
 .skip))))
 (.ae false [
 oX 68 (.bin .add 45 (kX 1)),
 oX 45 (.mv 68)]))))))))
 (.seq
 (.ae false [
 oX 2 (.mv (.k (.one (.v (.bool) (true)))))])
 .ret))))
def Qy:List bx:=[.tmp 2]
theorem alc (NN:Nat) (x:aQ (ao.aP Gq)):cW NN [CX,tz,M8,MW] Te Qy Gq R7 x=Lh NN x:=by kernel_rfl
theorem aie:bU pX 47 Te.er Qy 1=true:=by decide+kernel
theorem amk:cJ pX 47 MT.M/\bD pX 47=true:=
  c9 (T:=[CX,tz,M8,MW]) (sc:=Te) (ms:=Qy) (args:=Gq) (aB:=R7) (az.cons Z1<|az.cons JT<|az.cons amw<|az.cons amm<|az.nil) cE aie uW fun x y h=>(alc aD x).trans (aew x y h)
def M5:aG:=⟨32,GF,akn,Sk,nX⟩
def Tr:bt:=
 (.seq
 (.ae false [
 oX 2 (.box 5 0),
 oX 3 (.box 5 1),
 oX 4 (.mv (.k (.one (.v (.bool) (false)))))])
 (.seq
 (.ae false [
 oX 5 (.load true 5 2),
 oX 6 (.call .aa 47 [5]),
 oX 7 (.mv 6),
 ⟨(some 8),.load true 5 3,(some (7,true))⟩,
 ⟨(some 9),.call .aa 47 [8],(some (7,true))⟩,
 oX 10 (.pick 7 9 (.k (.one (.v (.bool) (false))))),
 oX 11 (.mv 10),
 ⟨(some 12),.ak 0 2,(some (11,true))⟩,
 ⟨(some 13),.load false 1 12,(some (11,true))⟩,
 ⟨(some 14),.ak 0 3,(some (11,true))⟩,
 ⟨(some 15),.load false 1 14,(some (11,true))⟩,
 ⟨(some 16),.bin .eql 13 15,(some (11,true))⟩,
 oX 17 (.pick 11 16 (.k (.one (.v (.bool) (false))))),
 oX 18 (.mv 17),
 ⟨(some 19),.ak 3 2,(some (18,true))⟩,
 ⟨(some 20),.load false 1 19,(some (18,true))⟩,
 ⟨(some 21),.len 20,(some (18,true))⟩,
 ⟨(some 22),.ak 3 3,(some (18,true))⟩,
 ⟨(some 23),.load false 1 22,(some (18,true))⟩,
 ⟨(some 24),.len 23,(some (18,true))⟩,
 ⟨(some 25),.bin .eql 21 24,(some (18,true))⟩,
 oX 26 (.pick 18 25 (.k (.one (.v (.bool) (false))))),
 oX 4 (.mv 26)])
 .ret))
def QL:List bx:=[.tmp 4]
theorem alq (NN:Nat) (x:aQ (ao.aP GF)):cW NN [MT] Tr QL GF Sk x=Ln NN x:=by kernel_rfl
theorem ais:bU pX 32 Tr.er QL 2=true:=by decide+kernel
theorem amt:cJ pX 32 M5.M/\bD pX 32=true:=
  c9 (T:=[MT]) (sc:=Tr) (ms:=QL) (args:=GF) (aB:=Sk) (az.cons amk<|az.nil) cE ais nX fun x y h=>(alq aD x).trans (aeI x y h)
def qE:aG:=⟨37,Gv,akh,Sc,jZ⟩
def Tj:bt:=
 (.seq
 (.ae false [
 oX 2 (.mv (.k (.one (.nil iX))))])
 (.seq
 (.ae false [
 oX 3 (.dT iX []),
 oX 4 (.mv 0),
 oX 5 (.append true iX 8 3 4),
 oX 2 (.mv 5)])
 .ret))
def QD:List bx:=[.tmp 2]
theorem alh (NN:Nat) (x:aQ (ao.aP Gv)):cW NN [] Tj QD Gv Sc x=Ll NN x:=by kernel_rfl
theorem aik:bU pX 37 Tj.er QD 1=true:=by decide+kernel
theorem Es:cJ pX 37 qE.M/\bD pX 37=true:=
  c9 (T:=[]) (sc:=Tj) (ms:=QD) (args:=Gv) (aB:=Sc) (az.nil) cE aik jZ fun x y h=>(alh aD x).trans (aeB x y h)
def CY:aG:=⟨61,Gz,akk,Sg,u0⟩
def Tn:bt:=
 (.seq
 (.ae false [
 oX 4 (.alloc [zX,zX,.nil iX])])
 (.seq
 (.ae false [
 oX 5 (.mv 0),
 oX 6 (.mv 1),
 oX 7 (.mv 0),
 oX 8 (.mv 1),
 oX 9 (.bin .mul 7 8),
 oX 10 (.ld .aa iX 8 (0:Int) 9 9),
 oX 11 (.build [zX,zX,.nil iX] [(0,1,5),(1,1,6),(2,1,10)]),
 uX (.store 3 4 11)])
 .ret))
def QH:List bx:=[.cell 4 3 true]
theorem alm (NN:Nat) (x:aQ (ao.aP Gz)):cW NN [] Tn QH Gz Sg x=Fy NN x:=by kernel_rfl
theorem aio:bU pX 61 Tn.er QH 2=true:=by decide+kernel
theorem Z2:cJ pX 61 CY.M/\bD pX 61=true:=
  c9 (T:=[]) (sc:=Tn) (ms:=QH) (args:=Gz) (aB:=Sg) (az.nil) cE aio u0 fun x y h=>(alm aD x).trans (Wt x y h)
def M9:aG:=⟨33,GK,aks,Sp,xi⟩
def Tw:bt:=
 (.seq
 (.ae false [
 oX 3 (.box 5 0),
 oX 4 (.box 5 1),
 oX 6 (.alloc [zX,zX,.nil iX,.nil mX,.nil iX])])
 (.seq
 (.ae false [
 oX 18 (.ak 1 3),
 oX 19 (.load false 1 18),
 oX 20 (.ak 1 4),
 oX 21 (.load false 1 20),
 oX 22 (.bin .add 19 21),
 oX 7 (.mv 22)])
 (.seq
 (.pZ [(0,8),(1,8),(8,9),(8,10),(8,13)] [
 oX 23 (.ak 0 3),
 oX 24 (.load false 1 23),
 oX 25 (.mv 7),
 oX 26 (.ak 2 3),
 oX 27 (.load false 1 26),
 oX 28 (.call .aa 37 [27]),
 oX 29 (.ak 2 4),
 oX 30 (.load false 1 29),
 oX 31 (.append true iX 8 28 30),
 oX 32 (.ak 4 3),
 oX 33 (.load false 1 32),
 oX 34 (.call .aa 37 [33]),
 oX 35 (.build [zX,zX,.nil iX,.nil mX,.nil iX] [(0,1,24),(1,1,25),(2,1,31),(4,1,34)]),
 oX 8 (.alloc [zX,zX,.nil iX,.nil mX,.nil iX]),
 uX (.store 5 8 35)])
 (.seq
 (.seq
 (.ae false [
 oX 36 (.ak 4 4),
 oX 37 (.load false 1 36),
 oX 38 (.len 37),
 oX 39 (.mv (kX 0))])
 (.join ⟨[(6,.one (rX 6)),(8,.one (rX 8)),(4,.one (rX 4)),(3,.one (rX 3)),(7,sX)],[(3,.box [vX,vX,.c (.v (lX)),.c (.v (.list mX)),.c (.v (lX))]),(4,.box [vX,vX,.c (.v (lX)),.c (.v (.list mX)),.c (.v (lX))]),(6,.box [vX,vX,fX 500006 1,fX 500007 3,fX 500008 1]),(8,.box [vX,vX,fX 500009 1,fX 500010 3,fX 500011 1]),(500006,.row true .aa iX),(500007,.row true .aa mX),(500008,.row true .aa iX),(500009,.row true .aa iX),(500010,.row true .aa mX),(500011,.row true .aa iX)]⟩ [3,4,6,8,500000,500001,500002,500003,500004,500005,500006,500007,500008,500009,500010,500011] [(true,6,2,500006,.aa,[]),(true,6,3,500007,.aa,[]),(true,6,4,500008,.aa,[]),(true,8,2,500009,.aa,[]),(true,8,3,500010,.aa,[]),(true,8,4,500011,.aa,[])]
 (.block 0
 (.loop 0 ⟨[(2,sX),(3,.one (rX 3)),(4,.one (rX 4)),(6,.one (rX 6)),(7,sX),(8,.one (rX 8)),(37,.one (.c (.v (lX)))),(38,sX),(39,sX)],[(3,.box [vX,vX,.c (.v (lX)),.c (.v (.list mX)),.c (.v (lX))]),(4,.box [vX,vX,.c (.v (lX)),.c (.v (.list mX)),.c (.v (lX))]),(6,.box [vX,vX,fX 500000 1,fX 500001 3,fX 500002 1]),(8,.box [vX,vX,fX 500003 1,fX 500004 3,fX 500005 1]),(500000,.row true .aa iX),(500001,.row true .aa mX),(500002,.row true .aa iX),(500003,.row true .aa iX),(500004,.row true .aa mX),(500005,.row true .aa iX)]⟩ [3,4,6,31,35000,8,51,52,500000,500001,500002,500003,500004,500005] [(true,6,2,500000,.aa,[]),(true,6,3,500001,.aa,[]),(true,6,4,500002,.aa,[]),(true,8,2,500003,.aa,[]),(true,8,3,500004,.aa,[]),(true,8,4,500005,.aa,[])]
 (.seq
 (.ae false [
 oX 40 (.bin .lss 39 38)])
 (.seq
 (.cond 40
 .skip
 (.exit 0))
 (.seq
 (.block 1
 (.seq
 (.ae false [
 oX 41 (.bO 1 37 39),
 oX 42 (.load false 1 41),
 oX 10 (.mv 42)])
 (.pZ [(0,8),(1,8)] [
 oX 43 (.ak 4 8),
 oX 44 (.load false 1 43),
 oX 45 (.mv 10),
 oX 46 (.mv 2),
 oX 47 (.bin .mul 45 46),
 oX 48 (.ak 0 3),
 oX 49 (.load false 1 48),
 oX 50 (.bin .rem 47 49),
 oX 51 (.dT iX [50]),
 oX 52 (.append true iX 8 44 51),
 oX 53 (.ak 4 8),
 uX (.store 1 53 52)])))
 (.ae false [
 oX 54 (.bin .add 39 (kX 1)),
 oX 39 (.mv 54)]))))))))
 (.seq
 (.seq
 (.ae false [
 oX 55 (.ak 3 3),
 oX 56 (.load false 1 55),
 oX 57 (.len 56),
 oX 58 (.mv (kX 0))])
 (.join ⟨[(8,.one (rX 8)),(6,.one (rX 6))],[(6,.box [vX,vX,fX 500080 1,fX 500081 3,fX 500082 1]),(8,.box [vX,vX,fX 500083 1,fX 500084 3,fX 500085 1]),(500080,.row true .aa iX),(500081,.row true .aa mX),(500082,.row true .aa iX),(500083,.row true .aa iX),(500084,.row true .aa mX),(500085,.row true .aa iX)]⟩ [3,4,6,8,500012,500013,500014,500015,500016,500017,500080,500081,500082,500083,500084,500085] [(true,6,2,500080,.aa,[]),(true,6,3,500081,.aa,[]),(true,6,4,500082,.aa,[]),(true,8,2,500083,.aa,[]),(true,8,3,500084,.aa,[]),(true,8,4,500085,.aa,[])]
 (.block 2
 (.loop 0 ⟨[(3,.one (rX 3)),(4,.one (rX 4)),(6,.one (rX 6)),(7,sX),(8,.one (rX 8)),(56,.one (.c (.v (.list mX)))),(57,sX),(58,sX)],[(3,.box [vX,vX,.c (.v (lX)),.c (.v (.list mX)),.c (.v (lX))]),(4,.box [vX,vX,.c (.v (lX)),.c (.v (.list mX)),.c (.v (lX))]),(6,.box [vX,vX,fX 500012 1,fX 500013 3,fX 500014 1]),(8,.box [vX,vX,fX 500015 1,fX 500016 3,fX 500017 1]),(500012,.row true .aa iX),(500013,.row true .aa mX),(500014,.row true .aa iX),(500015,.row true .aa iX),(500016,.row true .aa mX),(500017,.row true .aa iX)]⟩ [3,4,6,8,500006,500007,500008,500009,500010,500011,500012,500013,500014,500015,500016,500017,500074,500075,500076,500077,500078,500079] [(true,6,2,500012,.aa,[]),(true,6,3,500013,.aa,[]),(true,6,4,500014,.aa,[]),(true,8,2,500015,.aa,[]),(true,8,3,500016,.aa,[]),(true,8,4,500017,.aa,[])]
 (.seq
 (.ae false [
 oX 59 (.bin .lss 58 57)])
 (.seq
 (.cond 59
 .skip
 (.exit 2))
 (.seq
 (.join ⟨[(58,sX),(3,.one (rX 3)),(4,.one (rX 4)),(6,.one (rX 6)),(7,sX),(8,.one (rX 8)),(56,.one (.c (.v (.list mX)))),(57,sX)],[(3,.box [vX,vX,.c (.v (lX)),.c (.v (.list mX)),.c (.v (lX))]),(4,.box [vX,vX,.c (.v (lX)),.c (.v (.list mX)),.c (.v (lX))]),(6,.box [vX,vX,fX 500074 1,fX 500075 3,fX 500076 1]),(8,.box [vX,vX,fX 500077 1,fX 500078 3,fX 500079 1]),(500074,.row true .aa iX),(500075,.row true .aa mX),(500076,.row true .aa iX),(500077,.row true .aa iX),(500078,.row true .aa mX),(500079,.row true .aa iX)]⟩ [3,4,6,8,13,140,500067,500068,500069,500070,500072,500074,500075,500076,500077,500078,500079] [(true,6,2,500074,.aa,[]),(true,6,3,500075,.aa,[]),(true,6,4,500076,.aa,[]),(true,8,2,500077,.aa,[]),(true,8,3,500078,.aa,[]),(true,8,4,500079,.aa,[])]
 (.block 3
 (.seq
 (.ae false [
 oX 60 (.mv 58),
 oX 61 (.bO 3 56 58),
 oX 62 (.load true 3 61),
 oX 12 (.alloc [zX,zX,.nil iX]),
 oX 11 (.mv 60),
 uX (.store 3 12 62)])
 (.seq
 (.ae false [
 oX 63 (.mv 7),
 oX 64 (.mv 7),
 oX 65 (.call .aa 61 [63,64]),
 oX 13 (.alloc [zX,zX,.nil iX]),
 uX (.store 3 13 65)])
 (.seq
 (.seq
 (.ae false [
 oX 14 (.mv (kX 0))])
 (.join ⟨[(57,sX),(56,.one (.c (.v (.list mX)))),(8,.one (rX 8)),(7,sX),(6,.one (rX 6)),(4,.one (rX 4)),(3,.one (rX 3)),(58,sX),(13,.one (rX 13)),(11,sX)],[(3,.box [vX,vX,.c (.v (lX)),.c (.v (.list mX)),.c (.v (lX))]),(4,.box [vX,vX,.c (.v (lX)),.c (.v (.list mX)),.c (.v (lX))]),(6,.box [vX,vX,fX 500039 1,fX 500040 3,fX 500041 1]),(8,.box [vX,vX,fX 500042 1,fX 500043 3,fX 500044 1]),(13,.box [vX,vX,fX 500045 1]),(500039,.row true .aa iX),(500040,.row true .aa mX),(500041,.row true .aa iX),(500042,.row true .aa iX),(500043,.row true .aa mX),(500044,.row true .aa iX),(500045,.row true .aa iX)]⟩ [3,4,6,8,12,13,500018,500019,500020,500021,500022,500023,500024,500039,500040,500041,500042,500043,500044,500045] [(true,6,2,500039,.aa,[]),(true,6,3,500040,.aa,[]),(true,6,4,500041,.aa,[]),(true,8,2,500042,.aa,[]),(true,8,3,500043,.aa,[]),(true,8,4,500044,.aa,[]),(true,13,2,500045,.aa,[])]
 (.block 4
 (.loop 0 ⟨[(3,.one (rX 3)),(4,.one (rX 4)),(6,.one (rX 6)),(7,sX),(8,.one (rX 8)),(11,sX),(12,.one (rX 12)),(13,.one (rX 13)),(14,sX),(56,.one (.c (.v (.list mX)))),(57,sX),(58,sX)],[(3,.box [vX,vX,.c (.v (lX)),.c (.v (.list mX)),.c (.v (lX))]),(4,.box [vX,vX,.c (.v (lX)),.c (.v (.list mX)),.c (.v (lX))]),(6,.box [vX,vX,fX 500018 1,fX 500019 3,fX 500020 1]),(8,.box [vX,vX,fX 500021 1,fX 500022 3,fX 500023 1]),(12,.box [vX,vX,.c (.v (lX))]),(13,.box [vX,vX,fX 500024 1]),(500018,.row true .aa iX),(500019,.row true .aa mX),(500020,.row true .aa iX),(500021,.row true .aa iX),(500022,.row true .aa mX),(500023,.row true .aa iX),(500024,.row true .aa iX)]⟩ [3,4,6,8,12,66000,13,500012,500013,500014,500015,500016,500017,500018,500019,500020,500021,500022,500023,500024,500032,500033,500034,500035,500036,500037,500038] [(true,6,2,500018,.aa,[]),(true,6,3,500019,.aa,[]),(true,6,4,500020,.aa,[]),(true,8,2,500021,.aa,[]),(true,8,3,500022,.aa,[]),(true,8,4,500023,.aa,[]),(true,13,2,500024,.aa,[])]
 (.seq
 (.seq
 (.ae false [
 oX 66 (.mv 14),
 oX 67 (.ak 1 3),
 oX 68 (.load false 1 67),
 oX 69 (.bin .lss 66 68)])
 (.cond 69
 .skip
 (.exit 4)))
 (.seq
 (.join ⟨[(14,sX),(3,.one (rX 3)),(4,.one (rX 4)),(6,.one (rX 6)),(7,sX),(8,.one (rX 8)),(11,sX),(12,.one (rX 12)),(13,.one (rX 13)),(56,.one (.c (.v (.list mX)))),(57,sX),(58,sX)],[(3,.box [vX,vX,.c (.v (lX)),.c (.v (.list mX)),.c (.v (lX))]),(4,.box [vX,vX,.c (.v (lX)),.c (.v (.list mX)),.c (.v (lX))]),(6,.box [vX,vX,fX 500032 1,fX 500033 3,fX 500034 1]),(8,.box [vX,vX,fX 500035 1,fX 500036 3,fX 500037 1]),(12,.box [vX,vX,.c (.v (lX))]),(13,.box [vX,vX,fX 500038 1]),(500032,.row true .aa iX),(500033,.row true .aa mX),(500034,.row true .aa iX),(500035,.row true .aa iX),(500036,.row true .aa mX),(500037,.row true .aa iX),(500038,.row true .aa iX)]⟩ [3,4,6,8,12,13,500025,500026,500027,500028,500029,500030,500031,500032,500033,500034,500035,500036,500037,500038] [(true,6,2,500032,.aa,[]),(true,6,3,500033,.aa,[]),(true,6,4,500034,.aa,[]),(true,8,2,500035,.aa,[]),(true,8,3,500036,.aa,[]),(true,8,4,500037,.aa,[]),(true,13,2,500038,.aa,[])]
 (.block 5
 (.seq
 (.ae false [
 oX 15 (.mv (kX 0))])
 (.block 6
 (.loop 0 ⟨[(3,.one (rX 3)),(4,.one (rX 4)),(6,.one (rX 6)),(7,sX),(8,.one (rX 8)),(11,sX),(12,.one (rX 12)),(13,.one (rX 13)),(14,sX),(15,sX),(56,.one (.c (.v (.list mX)))),(57,sX),(58,sX)],[(3,.box [vX,vX,.c (.v (lX)),.c (.v (.list mX)),.c (.v (lX))]),(4,.box [vX,vX,.c (.v (lX)),.c (.v (.list mX)),.c (.v (lX))]),(6,.box [vX,vX,fX 500025 1,fX 500026 3,fX 500027 1]),(8,.box [vX,vX,fX 500028 1,fX 500029 3,fX 500030 1]),(12,.box [vX,vX,.c (.v (lX))]),(13,.box [vX,vX,fX 500031 1]),(500025,.row true .aa iX),(500026,.row true .aa mX),(500027,.row true .aa iX),(500028,.row true .aa iX),(500029,.row true .aa mX),(500030,.row true .aa iX),(500031,.row true .aa iX)]⟩ [3,4,6,8,12,13,500018,500019,500020,500021,500022,500023,500024,500025,500026,500027,500028,500029,500030,500031] [(true,6,2,500025,.aa,[]),(true,6,3,500026,.aa,[]),(true,6,4,500027,.aa,[]),(true,8,2,500028,.aa,[]),(true,8,3,500029,.aa,[]),(true,8,4,500030,.aa,[]),(true,13,2,500031,.aa,[])]
 (.seq
 (.seq
 (.ae false [
 oX 72 (.mv 15),
 oX 73 (.ak 1 3),
 oX 74 (.load false 1 73),
 oX 75 (.bin .lss 72 74)])
 (.cond 75
 .skip
 (.exit 6)))
 (.seq
 (.block 7
 (.ae true [
 oX 78 (.ak 2 13),
 oX 79 (.load false 1 78),
 oX 80 (.mv 14),
 oX 81 (.mv 7),
 oX 82 (.bin .mul 80 81),
 oX 83 (.mv 15),
 oX 84 (.bin .add 82 83),
 oX 85 (.ak 2 12),
 oX 86 (.load false 1 85),
 oX 87 (.mv 14),
 oX 88 (.ak 1 3),
 oX 89 (.load false 1 88),
 oX 90 (.bin .mul 87 89),
 oX 91 (.mv 15),
 oX 92 (.bin .add 90 91),
 oX 93 (.bO 1 86 92),
 oX 94 (.load false 1 93),
 oX 95 (.bO 1 79 84),
 uX (.store 1 95 94)]))
 (.ae false [
 oX 76 (.mv 15),
 oX 77 (.bin .add 76 (kX 1)),
 oX 15 (.mv 77)]))))))))
 (.ae false [
 oX 70 (.mv 14),
 oX 71 (.bin .add 70 (kX 1)),
 oX 14 (.mv 71)])))))))
 (.seq
 (.seq
 (.ae false [
 oX 16 (.mv (kX 0))])
 (.join ⟨[(13,.one (rX 13)),(58,sX),(3,.one (rX 3)),(4,.one (rX 4)),(6,.one (rX 6)),(7,sX),(8,.one (rX 8)),(56,.one (.c (.v (.list mX)))),(57,sX)],[(3,.box [vX,vX,.c (.v (lX)),.c (.v (.list mX)),.c (.v (lX))]),(4,.box [vX,vX,.c (.v (lX)),.c (.v (.list mX)),.c (.v (lX))]),(6,.box [vX,vX,fX 500067 1,fX 500068 3,fX 500069 1]),(8,.box [vX,vX,fX 500070 1,fX 500071 3,fX 500072 1]),(13,.box [vX,vX,fX 500073 1]),(500067,.row true .aa iX),(500068,.row true .aa mX),(500069,.row true .aa iX),(500070,.row true .aa iX),(500071,.row true .aa mX),(500072,.row true .aa iX),(500073,.row true .aa iX)]⟩ [3,4,6,8,13,500046,500047,500048,500049,500050,500051,500052,500067,500068,500069,500070,500071,500072,500073] [(true,6,2,500067,.aa,[]),(true,6,3,500068,.aa,[]),(true,6,4,500069,.aa,[]),(true,8,2,500070,.aa,[]),(true,8,3,500071,.aa,[]),(true,8,4,500072,.aa,[]),(true,13,2,500073,.aa,[])]
 (.block 8
 (.loop 0 ⟨[(3,.one (rX 3)),(4,.one (rX 4)),(6,.one (rX 6)),(7,sX),(8,.one (rX 8)),(11,sX),(13,.one (rX 13)),(16,sX),(56,.one (.c (.v (.list mX)))),(57,sX),(58,sX)],[(3,.box [vX,vX,.c (.v (lX)),.c (.v (.list mX)),.c (.v (lX))]),(4,.box [vX,vX,.c (.v (lX)),.c (.v (.list mX)),.c (.v (lX))]),(6,.box [vX,vX,fX 500046 1,fX 500047 3,fX 500048 1]),(8,.box [vX,vX,fX 500049 1,fX 500050 3,fX 500051 1]),(13,.box [vX,vX,fX 500052 1]),(500046,.row true .aa iX),(500047,.row true .aa mX),(500048,.row true .aa iX),(500049,.row true .aa iX),(500050,.row true .aa mX),(500051,.row true .aa iX),(500052,.row true .aa iX)]⟩ [3,4,6,8,13,500039,500040,500041,500042,500043,500044,500045,500046,500047,500048,500049,500050,500051,500052,500060,500061,500062,500063,500064,500065,500066] [(true,6,2,500046,.aa,[]),(true,6,3,500047,.aa,[]),(true,6,4,500048,.aa,[]),(true,8,2,500049,.aa,[]),(true,8,3,500050,.aa,[]),(true,8,4,500051,.aa,[]),(true,13,2,500052,.aa,[])]
 (.seq
 (.seq
 (.ae false [
 oX 96 (.mv 16),
 oX 97 (.ak 1 4),
 oX 98 (.load false 1 97),
 oX 99 (.bin .lss 96 98)])
 (.cond 99
 .skip
 (.exit 8)))
 (.seq
 (.join ⟨[(16,sX),(3,.one (rX 3)),(4,.one (rX 4)),(6,.one (rX 6)),(7,sX),(8,.one (rX 8)),(11,sX),(13,.one (rX 13)),(56,.one (.c (.v (.list mX)))),(57,sX),(58,sX)],[(3,.box [vX,vX,.c (.v (lX)),.c (.v (.list mX)),.c (.v (lX))]),(4,.box [vX,vX,.c (.v (lX)),.c (.v (.list mX)),.c (.v (lX))]),(6,.box [vX,vX,fX 500060 1,fX 500061 3,fX 500062 1]),(8,.box [vX,vX,fX 500063 1,fX 500064 3,fX 500065 1]),(13,.box [vX,vX,fX 500066 1]),(500060,.row true .aa iX),(500061,.row true .aa mX),(500062,.row true .aa iX),(500063,.row true .aa iX),(500064,.row true .aa mX),(500065,.row true .aa iX),(500066,.row true .aa iX)]⟩ [3,4,6,8,13,500053,500054,500055,500056,500057,500058,500059,500060,500061,500062,500063,500064,500065,500066] [(true,6,2,500060,.aa,[]),(true,6,3,500061,.aa,[]),(true,6,4,500062,.aa,[]),(true,8,2,500063,.aa,[]),(true,8,3,500064,.aa,[]),(true,8,4,500065,.aa,[]),(true,13,2,500066,.aa,[])]
 (.block 9
 (.seq
 (.ae false [
 oX 17 (.mv (kX 0))])
 (.block 10
 (.loop 0 ⟨[(3,.one (rX 3)),(4,.one (rX 4)),(6,.one (rX 6)),(7,sX),(8,.one (rX 8)),(11,sX),(13,.one (rX 13)),(16,sX),(17,sX),(56,.one (.c (.v (.list mX)))),(57,sX),(58,sX)],[(3,.box [vX,vX,.c (.v (lX)),.c (.v (.list mX)),.c (.v (lX))]),(4,.box [vX,vX,.c (.v (lX)),.c (.v (.list mX)),.c (.v (lX))]),(6,.box [vX,vX,fX 500053 1,fX 500054 3,fX 500055 1]),(8,.box [vX,vX,fX 500056 1,fX 500057 3,fX 500058 1]),(13,.box [vX,vX,fX 500059 1]),(500053,.row true .aa iX),(500054,.row true .aa mX),(500055,.row true .aa iX),(500056,.row true .aa iX),(500057,.row true .aa mX),(500058,.row true .aa iX),(500059,.row true .aa iX)]⟩ [3,4,6,8,13,500046,500047,500048,500049,500050,500051,500052,500053,500054,500055,500056,500057,500058,500059] [(true,6,2,500053,.aa,[]),(true,6,3,500054,.aa,[]),(true,6,4,500055,.aa,[]),(true,8,2,500056,.aa,[]),(true,8,3,500057,.aa,[]),(true,8,4,500058,.aa,[]),(true,13,2,500059,.aa,[])]
 (.seq
 (.seq
 (.ae false [
 oX 102 (.mv 17),
 oX 103 (.ak 1 4),
 oX 104 (.load false 1 103),
 oX 105 (.bin .lss 102 104)])
 (.cond 105
 .skip
 (.exit 10)))
 (.seq
 (.block 11
 (.ae true [
 oX 108 (.ak 2 13),
 oX 109 (.load false 1 108),
 oX 110 (.ak 1 3),
 oX 111 (.load false 1 110),
 oX 112 (.mv 16),
 oX 113 (.bin .add 111 112),
 oX 114 (.mv 7),
 oX 115 (.bin .mul 113 114),
 oX 116 (.ak 1 3),
 oX 117 (.load false 1 116),
 oX 118 (.bin .add 115 117),
 oX 119 (.mv 17),
 oX 120 (.bin .add 118 119),
 oX 121 (.ak 3 4),
 oX 122 (.load false 1 121),
 oX 123 (.mv 11),
 oX 124 (.bO 3 122 123),
 oX 125 (.ak 2 124),
 oX 126 (.load false 1 125),
 oX 127 (.mv 16),
 oX 128 (.ak 1 4),
 oX 129 (.load false 1 128),
 oX 130 (.bin .mul 127 129),
 oX 131 (.mv 17),
 oX 132 (.bin .add 130 131),
 oX 133 (.bO 1 126 132),
 oX 134 (.load false 1 133),
 oX 135 (.bO 1 109 120),
 uX (.store 1 135 134)]))
 (.ae false [
 oX 106 (.mv 17),
 oX 107 (.bin .add 106 (kX 1)),
 oX 17 (.mv 107)]))))))))
 (.ae false [
 oX 100 (.mv 16),
 oX 101 (.bin .add 100 (kX 1)),
 oX 16 (.mv 101)])))))))
 (.ae false [
 oX 136 (.ak 3 8),
 oX 137 (.load false 1 136),
 oX 138 (.load true 3 13),
 oX 139 (.dT mX [138]),
 oX 140 (.append false mX 40 137 139),
 oX 141 (.ak 3 8),
 uX (.store 1 141 140)])))))))
 (.ae false [
 oX 142 (.bin .add 58 (kX 1)),
 oX 58 (.mv 142)]))))))))
 (.seq
 (.ae false [
 oX 143 (.load true 5 8),
 uX (.store 5 6 143)])
 .ret))))))
def QQ:List bx:=[.cell 6 5 true]
theorem alv (NN:Nat) (x:aQ (ao.aP GK)):cW NN [qE,CY] Tw QQ GK Sp x=FE NN x:=by kernel_rfl
theorem aix:bU pX 33 Tw.er QQ 3=true:=by decide+kernel
theorem amx:cJ pX 33 M9.M/\bD pX 33=true:=
  c9 (T:=[qE,CY]) (sc:=Tw) (ms:=QQ) (args:=GK) (aB:=Sp) (az.cons Es<|az.cons Z2<|az.nil) cE aix xi fun x y h=>(alv aD x).trans (aeN x y h)
def MZ:aG:=⟨80,Gy,akj,Sf,pb⟩
def Tm:bt:=
 (.seq
 (.ae false [
 oX 4 (.box 3 1),
 oX 5 (.box 3 2),
 oX 6 (.alloc [zX,zX,.nil iX])])
 (.seq
 (.ae false [
 oX 12 (.ak 0 4),
 oX 13 (.load false 1 12),
 oX 14 (.ak 1 5),
 oX 15 (.load false 1 14),
 oX 16 (.call .aa 61 [13,15]),
 oX 7 (.alloc [zX,zX,.nil iX]),
 uX (.store 3 7 16)])
 (.seq
 (.seq
 (.ae false [
 oX 8 (.mv (kX 0))])
 (.join ⟨[(7,.one (rX 7)),(6,.one (rX 6))],[(6,.box [vX,vX,fX 500012 1]),(7,.box [vX,vX,fX 500013 1]),(500012,.row true .aa iX),(500013,.row true .aa iX)]⟩ [4,5,6,7,500000,500001,500012,500013] [(true,6,2,500012,.aa,[]),(true,7,2,500013,.aa,[])]
 (.block 0
 (.loop 0 ⟨[(0,sX),(4,.one (rX 4)),(5,.one (rX 5)),(6,.one (rX 6)),(7,.one (rX 7)),(8,sX)],[(4,.box [vX,vX,.c (.v (lX))]),(5,.box [vX,vX,.c (.v (lX))]),(6,.box [vX,vX,fX 500000 1]),(7,.box [vX,vX,fX 500001 1]),(500000,.row true .aa iX),(500001,.row true .aa iX)]⟩ [4,5,6,17000,7,500000,500001,500010,500011] [(true,6,2,500000,.aa,[]),(true,7,2,500001,.aa,[])]
 (.seq
 (.seq
 (.ae false [
 oX 17 (.mv 8),
 oX 18 (.ak 0 4),
 oX 19 (.load false 1 18),
 oX 20 (.bin .lss 17 19)])
 (.cond 20
 .skip
 (.exit 0)))
 (.seq
 (.join ⟨[(8,sX),(0,sX),(4,.one (rX 4)),(5,.one (rX 5)),(6,.one (rX 6)),(7,.one (rX 7))],[(4,.box [vX,vX,.c (.v (lX))]),(5,.box [vX,vX,.c (.v (lX))]),(6,.box [vX,vX,fX 500010 1]),(7,.box [vX,vX,fX 500011 1]),(500010,.row true .aa iX),(500011,.row true .aa iX)]⟩ [4,5,6,7,500002,500003,500010,500011] [(true,6,2,500010,.aa,[]),(true,7,2,500011,.aa,[])]
 (.block 1
 (.seq
 (.ae false [
 oX 9 (.mv (kX 0))])
 (.block 2
 (.loop 0 ⟨[(0,sX),(4,.one (rX 4)),(5,.one (rX 5)),(6,.one (rX 6)),(7,.one (rX 7)),(8,sX),(9,sX)],[(4,.box [vX,vX,.c (.v (lX))]),(5,.box [vX,vX,.c (.v (lX))]),(6,.box [vX,vX,fX 500002 1]),(7,.box [vX,vX,fX 500003 1]),(500002,.row true .aa iX),(500003,.row true .aa iX)]⟩ [4,5,6,7,500000,500001,500002,500003,500008,500009] [(true,6,2,500002,.aa,[]),(true,7,2,500003,.aa,[])]
 (.seq
 (.seq
 (.ae false [
 oX 23 (.mv 9),
 oX 24 (.ak 1 5),
 oX 25 (.load false 1 24),
 oX 26 (.bin .lss 23 25)])
 (.cond 26
 .skip
 (.exit 2)))
 (.seq
 (.join ⟨[(9,sX),(0,sX),(4,.one (rX 4)),(5,.one (rX 5)),(6,.one (rX 6)),(7,.one (rX 7)),(8,sX)],[(4,.box [vX,vX,.c (.v (lX))]),(5,.box [vX,vX,.c (.v (lX))]),(6,.box [vX,vX,fX 500008 1]),(7,.box [vX,vX,fX 500009 1]),(500008,.row true .aa iX),(500009,.row true .aa iX)]⟩ [4,5,6,7,500006,500007,500008,500009] [(true,6,2,500008,.aa,[]),(true,7,2,500009,.aa,[])]
 (.block 3
 (.seq
 (.ae false [
 oX 10 (.mv (kX 0))])
 (.seq
 (.seq
 (.ae false [
 oX 11 (.mv (kX 0))])
 (.join ⟨[(10,sX),(9,sX),(0,sX),(4,.one (rX 4)),(5,.one (rX 5)),(6,.one (rX 6)),(7,.one (rX 7)),(8,sX)],[(4,.box [vX,vX,.c (.v (lX))]),(5,.box [vX,vX,.c (.v (lX))]),(6,.box [vX,vX,fX 500006 1]),(7,.box [vX,vX,fX 500007 1]),(500006,.row true .aa iX),(500007,.row true .aa iX)]⟩ [4,5,6,7,500004,500005,500006,500007] [(true,6,2,500006,.aa,[]),(true,7,2,500007,.aa,[])]
 (.block 4
 (.loop 0 ⟨[(0,sX),(4,.one (rX 4)),(5,.one (rX 5)),(6,.one (rX 6)),(7,.one (rX 7)),(8,sX),(9,sX),(10,sX),(11,sX)],[(4,.box [vX,vX,.c (.v (lX))]),(5,.box [vX,vX,.c (.v (lX))]),(6,.box [vX,vX,fX 500004 1]),(7,.box [vX,vX,fX 500005 1]),(500004,.row true .aa iX),(500005,.row true .aa iX)]⟩ [4,5,6,7,500002,500003,500004,500005] [(true,6,2,500004,.aa,[]),(true,7,2,500005,.aa,[])]
 (.seq
 (.seq
 (.ae false [
 oX 29 (.mv 11),
 oX 30 (.ak 1 4),
 oX 31 (.load false 1 30),
 oX 32 (.bin .lss 29 31)])
 (.cond 32
 .skip
 (.exit 4)))
 (.seq
 (.block 5
 (.ae true [
 oX 35 (.mv 10),
 oX 36 (.ak 2 4),
 oX 37 (.load false 1 36),
 oX 38 (.mv 8),
 oX 39 (.ak 1 4),
 oX 40 (.load false 1 39),
 oX 41 (.bin .mul 38 40),
 oX 42 (.mv 11),
 oX 43 (.bin .add 41 42),
 oX 44 (.bO 1 37 43),
 oX 45 (.load false 1 44),
 oX 46 (.ak 2 5),
 oX 47 (.load false 1 46),
 oX 48 (.mv 11),
 oX 49 (.ak 1 5),
 oX 50 (.load false 1 49),
 oX 51 (.bin .mul 48 50),
 oX 52 (.mv 9),
 oX 53 (.bin .add 51 52),
 oX 54 (.bO 1 47 53),
 oX 55 (.load false 1 54),
 oX 56 (.bin .mul 45 55),
 oX 57 (.bin .add 35 56),
 oX 58 (.mv 0),
 oX 59 (.bin .rem 57 58),
 oX 10 (.mv 59)]))
 (.ae false [
 oX 33 (.mv 11),
 oX 34 (.bin .add 33 (kX 1)),
 oX 11 (.mv 34)])))))))
 (.ae false [
 oX 60 (.ak 2 7),
 oX 61 (.load false 1 60),
 oX 62 (.mv 8),
 oX 63 (.ak 1 5),
 oX 64 (.load false 1 63),
 oX 65 (.bin .mul 62 64),
 oX 66 (.mv 9),
 oX 67 (.bin .add 65 66),
 oX 68 (.mv 10),
 oX 69 (.bO 1 61 67),
 uX (.store 1 69 68)])))))
 (.ae false [
 oX 27 (.mv 9),
 oX 28 (.bin .add 27 (kX 1)),
 oX 9 (.mv 28)]))))))))
 (.ae false [
 oX 21 (.mv 8),
 oX 22 (.bin .add 21 (kX 1)),
 oX 8 (.mv 22)])))))))
 (.seq
 (.ae false [
 oX 70 (.load true 3 7),
 uX (.store 3 6 70)])
 .ret))))
def QG:List bx:=[.cell 6 3 true]
theorem alk (NN:Nat) (x:aQ (ao.aP Gy)):cW NN [CY] Tm QG Gy Sf x=Fx NN x:=by kernel_rfl
theorem ain:bU pX 80 Tm.er QG 3=true:=by decide+kernel
theorem amp:cJ pX 80 MZ.M/\bD pX 80=true:=
  c9 (T:=[CY]) (sc:=Tm) (ms:=QG) (args:=Gy) (aB:=Sf) (az.cons Z2<|az.nil) cE ain pb fun x y h=>(alk aD x).trans (aeE x y h)
def Na:aG:=⟨63,GL,akt,Sq,xj⟩
def Tx:bt:=
 (.seq
 (.ae false [
 oX 5 (.box 3 2),
 oX 6 (.mv (.k (.one (.nil iX))))])
 (.seq
 (.ae false [
 oX 7 (.mv 0),
 oX 8 (.ak 0 5),
 oX 9 (.load false 1 8),
 oX 10 (.mv 1),
 oX 11 (.build [zX,zX,.nil iX] [(0,1,(kX 1)),(1,1,9),(2,1,10)]),
 oX 12 (.load true 3 5),
 oX 13 (.call .aa 80 [7,11,12]),
 oX 14 (.mA false 2 1 13),
 oX 6 (.mv 14)])
 .ret))
def QR:List bx:=[.tmp 6]
theorem alw (NN:Nat) (x:aQ (ao.aP GL)):cW NN [MZ] Tx QR GL Sq x=Lq NN x:=by kernel_rfl
theorem aiy:bU pX 63 Tx.er QR 3=true:=by decide+kernel
theorem amy:cJ pX 63 Na.M/\bD pX 63=true:=
  c9 (T:=[MZ]) (sc:=Tx) (ms:=QR) (args:=GL) (aB:=Sq) (az.cons amp<|az.nil) cE aiy xj fun x y h=>(alw aD x).trans (aeO x y h)
def CZ:aG:=⟨36,GI,akq,Sn,nY⟩
def Tu:bt:=
 (.seq
 (.ae false [
 oX 2 (.box 5 0),
 oX 4 (.mv (.k (.one (.nil iX))))])
 (.seq
 (.ae false [
 oX 8 (.ak 2 2),
 oX 9 (.load false 1 8),
 oX 10 (.call .aa 37 [9]),
 oX 5 (.mv 10)])
 (.seq
 (.seq
 (.ae false [
 oX 11 (.mv 1),
 oX 12 (.len 11),
 oX 13 (.mv (kX 0))])
 (.join ⟨[(5,.one (fX 500001 1))],[(500001,.row true .aa iX)]⟩ [2,500000,500001] [(false,5,0,500001,.aa,[])]
 (.block 0
 (.loop 0 ⟨[(2,.one (rX 2)),(5,.one (fX 500000 1)),(11,.one (.c (.v (lX)))),(12,sX),(13,sX)],[(2,.box [vX,vX,.c (.v (lX)),.c (.v (.list mX)),.c (.v (lX))]),(500000,.row true .aa iX)]⟩ [2,11000,26000,500000] [(false,5,0,500000,.aa,[])]
 (.seq
 (.ae false [
 oX 14 (.bin .lss 13 12)])
 (.seq
 (.cond 14
 .skip
 (.exit 0))
 (.seq
 (.block 1
 (.seq
 (.ae false [
 oX 15 (.bO 1 11 13),
 oX 16 (.load false 1 15),
 oX 7 (.mv 16)])
 (.ae true [
 oX 17 (.ak 0 2),
 oX 18 (.load false 1 17),
 oX 19 (.mv 5),
 oX 20 (.ak 3 2),
 oX 21 (.load false 1 20),
 oX 22 (.mv 7),
 oX 23 (.bO 3 21 22),
 oX 24 (.load true 3 23),
 oX 25 (.call .aa 63 [18,19,24]),
 oX 5 (.mv 25)])))
 (.ae false [
 oX 26 (.bin .add 13 (kX 1)),
 oX 13 (.mv 26)]))))))))
 (.seq
 (.ae false [
 oX 27 (.mv 5),
 oX 4 (.mv 27)])
 .ret))))
def QO:List bx:=[.tmp 4]
theorem alt (NN:Nat) (x:aQ (ao.aP GI)):cW NN [qE,Na] Tu QO GI Sn x=FD NN x:=by kernel_rfl
theorem aiv:bU pX 36 Tu.er QO 2=true:=by decide+kernel
theorem Z3:cJ pX 36 CZ.M/\bD pX 36=true:=
  c9 (T:=[qE,Na]) (sc:=Tu) (ms:=QO) (args:=GI) (aB:=Sn) (az.cons Es<|az.cons amy<|az.nil) cE aiv nY fun x y h=>(alt aD x).trans (aeL x y h)
def M1:aG:=⟨86,GA,akl,Sh,xf⟩
def To:bt:=
 (.seq
 (.ae false [
 oX 3 (.box 3 0),
 oX 6 (.mv (kX 0))])
 (.seq
 (.seq
 (.ae false [
 oX 8 (.mv 1),
 oX 7 (.mv 8)])
 (.join ⟨[],[]⟩ [3] []
 (.block 0
 (.loop 0 ⟨[(2,sX),(3,.one (rX 3)),(7,sX)],[(3,.box [vX,vX,.c (.v (lX))])]⟩ [3] []
 (.seq
 (.seq
 (.ae false [
 oX 9 (.mv 7),
 oX 10 (.ak 0 3),
 oX 11 (.load false 1 10),
 oX 12 (.bin .lss 9 11)])
 (.cond 12
 .skip
 (.exit 0)))
 (.seq
 (.block 1
 (.seq
 (.ae false [
 oX 15 (.ak 2 3),
 oX 16 (.load false 1 15),
 oX 17 (.mv 7),
 oX 18 (.ak 1 3),
 oX 19 (.load false 1 18),
 oX 20 (.bin .mul 17 19),
 oX 21 (.mv 2),
 oX 22 (.bin .add 20 21),
 oX 23 (.bO 1 16 22),
 oX 24 (.load false 1 23),
 oX 25 (.bin .neq 24 (kX 0))])
 (.cond 25
 (.seq
 (.ae false [
 oX 26 (.mv 7),
 oX 6 (.mv 26)])
 .ret)
 .skip)))
 (.ae false [
 oX 13 (.mv 7),
 oX 14 (.bin .add 13 (kX 1)),
 oX 7 (.mv 14)])))))))
 (.seq
 (.ae false [
 oX 6 (.mv (kX (-1)))])
 .ret)))
def QI:List bx:=[.tmp 6]
theorem aln (NN:Nat) (x:aQ (ao.aP GA)):cW NN [] To QI GA Sh x=Fz NN x:=by kernel_rfl
theorem aip:bU pX 86 To.er QI 3=true:=by decide+kernel
theorem amq:cJ pX 86 M1.M/\bD pX 86=true:=
  c9 (T:=[]) (sc:=To) (ms:=QI) (args:=GA) (aB:=Sh) (az.nil) cE aip xf fun x y h=>(aln aD x).trans (aeF x y h)
def M4:aG:=⟨87,GD,JJ,Sj,rD⟩
def Tq:bt:=
 (.seq
 (.ae false [
 oX 3 (.box 3 0)])
 (.seq
 (.ae false [
 oX 6 (.mv (kX 0))])
 (.block 0
 (.loop 0 ⟨[(1,sX),(2,sX),(3,.one (rX 3)),(6,sX)],[(1000000,.row false .aa iX),(3,.box [vX,vX,fX 1000000 1])]⟩ [1000000,3,500000] [(true,3,2,500000,.aa,[])]
 (.seq
 (.seq
 (.ae false [
 oX 8 (.mv 6),
 oX 9 (.ak 1 3),
 oX 10 (.load false 1 9),
 oX 11 (.bin .lss 8 10)])
 (.cond 11
 .skip
 (.exit 0)))
 (.seq
 (.block 1
 (.seq
 (.ae false [
 oX 14 (.ak 2 3),
 oX 15 (.load false 1 14),
 oX 16 (.mv 1),
 oX 17 (.ak 1 3),
 oX 18 (.load false 1 17),
 oX 19 (.bin .mul 16 18),
 oX 20 (.mv 6),
 oX 21 (.bin .add 19 20),
 oX 22 (.bO 1 15 21),
 oX 23 (.load false 1 22),
 oX 7 (.mv 23)])
 (.seq
 (.ae true [
 oX 24 (.ak 2 3),
 oX 25 (.load false 1 24),
 oX 26 (.mv 1),
 oX 27 (.ak 1 3),
 oX 28 (.load false 1 27),
 oX 29 (.bin .mul 26 28),
 oX 30 (.mv 6),
 oX 31 (.bin .add 29 30),
 oX 32 (.ak 2 3),
 oX 33 (.load false 1 32),
 oX 34 (.mv 2),
 oX 35 (.ak 1 3),
 oX 36 (.load false 1 35),
 oX 37 (.bin .mul 34 36),
 oX 38 (.mv 6),
 oX 39 (.bin .add 37 38),
 oX 40 (.bO 1 33 39),
 oX 41 (.load false 1 40),
 oX 42 (.bO 1 25 31),
 uX (.store 1 42 41)])
 (.ae false [
 oX 43 (.ak 2 3),
 oX 44 (.load false 1 43),
 oX 45 (.mv 2),
 oX 46 (.ak 1 3),
 oX 47 (.load false 1 46),
 oX 48 (.bin .mul 45 47),
 oX 49 (.mv 6),
 oX 50 (.bin .add 48 49),
 oX 51 (.mv 7),
 oX 52 (.bO 1 44 50),
 uX (.store 1 52 51)]))))
 (.ae false [
 oX 12 (.mv 6),
 oX 13 (.bin .add 12 (kX 1)),
 oX 6 (.mv 13)])))))))
def QK:List bx:=[]
theorem alp (NN:Nat) (x:aQ (ao.aP GD)):sZ NN [] Tq QK GD JJ Sj x=FB NN x:=by kernel_rfl
theorem air:bU pX 87 Tq.er QK 3=true:=by decide+kernel
theorem ams:n4 pX 87 JJ M4.MM/\bD pX 87=true:=
  wA (T:=[]) (sc:=Tq) (ms:=QK) (args:=GD) (mu:=JJ) (aB:=Sj) (az.nil) cE air rD fun x y h=>(alp aD x).trans (aeH x y h)
def MY:aG:=⟨88,Gx,aki,Se,uZ⟩
def Tl:bt:=
 (.seq
 (.ae false [
 oX 4 (.mv (kX 0))])
 (.seq
 (.ae false [
 oX 5 (.mv (kX 1))])
 (.seq
 (.seq
 (.ae false [
 oX 7 (.mv 0),
 oX 8 (.bin .sub 7 (kX 2)),
 oX 6 (.mv 8)])
 (.join ⟨[(5,sX)],[]⟩ [] []
 (.block 0
 (.loop 0 ⟨[(0,sX),(1,sX),(5,sX),(6,sX)],[]⟩ [] []
 (.seq
 (.seq
 (.ae false [
 oX 9 (.mv 6),
 oX 10 (.bin .gtr 9 (kX 0))])
 (.cond 10
 .skip
 (.exit 0)))
 (.seq
 (.block 1
 (.seq
 (.seq
 (.ae false [
 oX 13 (.mv 6),
 oX 14 (.bin .rem 13 (kX 2)),
 oX 15 (.bin .eql 14 (kX 1))])
 (.join ⟨[(1,sX),(6,sX),(0,sX),(5,sX)],[]⟩ [] []
 (.cond 15
 (.ae false [
 oX 16 (.mv 5),
 oX 17 (.mv 1),
 oX 18 (.bin .mul 16 17),
 oX 19 (.mv 0),
 oX 20 (.bin .rem 18 19),
 oX 5 (.mv 20)])
 .skip)))
 (.ae false [
 oX 21 (.mv 1),
 oX 22 (.mv 1),
 oX 23 (.bin .mul 21 22),
 oX 24 (.mv 0),
 oX 25 (.bin .rem 23 24),
 oX 1 (.mv 25)])))
 (.ae false [
 oX 11 (.mv 6),
 oX 12 (.bin .quo 11 (kX 2)),
 oX 6 (.mv 12)])))))))
 (.seq
 (.ae false [
 oX 26 (.mv 5),
 oX 4 (.mv 26)])
 .ret))))
def QF:List bx:=[.tmp 4]
theorem alj (NN:Nat) (x:aQ (ao.aP Gx)):cW NN [] Tl QF Gx Se x=Lm NN x:=by kernel_rfl
theorem aim:bU pX 88 Tl.er QF 2=true:=by decide+kernel
theorem amo:cJ pX 88 MY.M/\bD pX 88=true:=
  c9 (T:=[]) (sc:=Tl) (ms:=QF) (args:=Gx) (aB:=Se) (az.nil) cE aim uZ fun x y h=>(alj aD x).trans (aeD x y h)
def MX:aG:=⟨89,Gw,JI,Sd,xd⟩
def Tk:bt:=
 (.seq
 (.ae false [
 oX 6 (.box 3 1)])
 (.seq
 (.ae false [
 oX 10 (.mv (kX 0))])
 (.block 0
 (.loop 0 ⟨[(0,sX),(2,sX),(3,sX),(4,sX),(6,.one (rX 6)),(10,sX)],[(1000000,.row false .aa iX),(6,.box [vX,vX,fX 1000000 1])]⟩ [1000000,6,500000] [(true,6,2,500000,.aa,[])]
 (.seq
 (.seq
 (.ae false [
 oX 11 (.mv 10),
 oX 12 (.ak 1 6),
 oX 13 (.load false 1 12),
 oX 14 (.bin .lss 11 13)])
 (.cond 14
 .skip
 (.exit 0)))
 (.seq
 (.block 1
 (.ae true [
 oX 17 (.ak 2 6),
 oX 18 (.load false 1 17),
 oX 19 (.mv 2),
 oX 20 (.ak 1 6),
 oX 21 (.load false 1 20),
 oX 22 (.bin .mul 19 21),
 oX 23 (.mv 10),
 oX 24 (.bin .add 22 23),
 oX 25 (.ak 2 6),
 oX 26 (.load false 1 25),
 oX 27 (.mv 2),
 oX 28 (.ak 1 6),
 oX 29 (.load false 1 28),
 oX 30 (.bin .mul 27 29),
 oX 31 (.mv 10),
 oX 32 (.bin .add 30 31),
 oX 33 (.bO 1 26 32),
 oX 34 (.load false 1 33),
 oX 35 (.mv 0),
 oX 36 (.mv 4),
 oX 37 (.bin .sub 35 36),
 oX 38 (.ak 2 6),
 oX 39 (.load false 1 38),
 oX 40 (.mv 3),
 oX 41 (.ak 1 6),
 oX 42 (.load false 1 41),
 oX 43 (.bin .mul 40 42),
 oX 44 (.mv 10),
 oX 45 (.bin .add 43 44),
 oX 46 (.bO 1 39 45),
 oX 47 (.load false 1 46),
 oX 48 (.bin .mul 37 47),
 oX 49 (.bin .add 34 48),
 oX 50 (.mv 0),
 oX 51 (.bin .rem 49 50),
 oX 52 (.bO 1 18 24),
 uX (.store 1 52 51)]))
 (.ae false [
 oX 15 (.mv 10),
 oX 16 (.bin .add 15 (kX 1)),
 oX 10 (.mv 16)])))))))
def QE:List bx:=[]
theorem ali (NN:Nat) (x:aQ (ao.aP Gw)):sZ NN [] Tk QE Gw JI Sd x=Fw NN x:=by kernel_rfl
theorem ail:bU pX 89 Tk.er QE 5=true:=by decide+kernel
theorem amn:n4 pX 89 JI MX.MM/\bD pX 89=true:=
  wA (T:=[]) (sc:=Tk) (ms:=QE) (args:=Gw) (mu:=JI) (aB:=Sd) (az.nil) cE ail xd fun x y h=>(ali aD x).trans (aeC x y h)
def M3:aG:=⟨62,GC,akm,Si,zu⟩
def Tp:bt:=
 (.seq
 (.ae false [
 oX 3 (.box 3 1),
 oX 4 (.alloc [zX,zX,.nil iX]),
 oX 5 (.mv (.k (.one (.nil iX)))),
 oX 6 (.mv (kX 0))])
 (.seq
 (.ae true [
 oX 17 (.ak 0 3),
 oX 18 (.load false 1 17),
 oX 19 (.ak 1 3),
 oX 20 (.load false 1 19),
 oX 21 (.ak 2 3),
 oX 22 (.load false 1 21),
 oX 23 (.call .aa 37 [22]),
 oX 24 (.build [zX,zX,.nil iX] [(0,1,18),(1,1,20),(2,1,23)]),
 oX 7 (.alloc [zX,zX,.nil iX]),
 uX (.store 3 7 24)])
 (.seq
 (.ae false [
 oX 25 (.dT iX []),
 oX 8 (.mv 25)])
 (.seq
 (.ae false [
 oX 9 (.mv (kX 1))])
 (.seq
 (.seq
 (.ae false [
 oX 10 (.mv (kX 0))])
 (.join ⟨[(7,.one (rX 7)),(8,.one (fX 500023 1)),(9,sX),(4,.one (rX 4))],[(4,.box [vX,vX,fX 500021 1]),(7,.box [vX,vX,fX 500022 1]),(500021,.row true .aa iX),(500022,.row true .aa iX),(500023,.row true .aa iX)]⟩ [3,4,7,500000,500001,500002,500021,500022,500023] [(true,4,2,500021,.aa,[]),(true,7,2,500022,.aa,[]),(false,8,0,500023,.aa,[])]
 (.block 0
 (.loop 0 ⟨[(0,sX),(3,.one (rX 3)),(4,.one (rX 4)),(7,.one (rX 7)),(8,.one (fX 500002 1)),(9,sX),(10,sX)],[(3,.box [vX,vX,.c (.v (lX))]),(4,.box [vX,vX,fX 500000 1]),(7,.box [vX,vX,fX 500001 1]),(500000,.row true .aa iX),(500001,.row true .aa iX),(500002,.row true .aa iX)]⟩ [3,4,24000,7,25,500000,500001,500002,500018,500019,500020] [(true,4,2,500000,.aa,[]),(true,7,2,500001,.aa,[]),(false,8,0,500002,.aa,[])]
 (.seq
 (.seq
 (.ae false [
 oX 26 (.mv 10),
 oX 27 (.ak 1 3),
 oX 28 (.load false 1 27),
 oX 29 (.bin .lss 26 28),
 oX 30 (.mv 29),
 ⟨(some 31),.mv 8,(some (30,true))⟩,
 ⟨(some 32),.len 31,(some (30,true))⟩,
 ⟨(some 33),.ak 0 3,(some (30,true))⟩,
 ⟨(some 34),.load false 1 33,(some (30,true))⟩,
 ⟨(some 35),.bin .lss 32 34,(some (30,true))⟩,
 oX 36 (.pick 30 35 (.k (.one (.v (.bool) (false)))))])
 (.cond 36
 .skip
 (.exit 0)))
 (.seq
 (.join ⟨[(10,sX),(0,sX),(3,.one (rX 3)),(4,.one (rX 4)),(7,.one (rX 7)),(8,.one (fX 500020 1)),(9,sX)],[(3,.box [vX,vX,.c (.v (lX))]),(4,.box [vX,vX,fX 500018 1]),(7,.box [vX,vX,fX 500019 1]),(500018,.row true .aa iX),(500019,.row true .aa iX),(500020,.row true .aa iX)]⟩ [3,4,7,132,133,500000,500001,500002,500015,500016,500018,500019,500020] [(true,4,2,500018,.aa,[]),(true,7,2,500019,.aa,[]),(false,8,0,500020,.aa,[])]
 (.block 1
 (.seq
 (.ae false [
 oX 39 (.mv 8),
 oX 40 (.len 39),
 oX 11 (.mv 40)])
 (.seq
 (.ae false [
 oX 41 (.load true 3 7),
 oX 42 (.mv 11),
 oX 43 (.mv 10),
 oX 44 (.call .aa 86 [41,42,43]),
 oX 12 (.mv 44)])
 (.seq
 (.seq
 (.ae false [
 oX 45 (.mv 12),
 oX 46 (.bin .lss 45 (kX 0))])
 (.cond 46
 (.exit 1)
 .skip))
 (.seq
 (.seq
 (.ae false [
 oX 47 (.mv 12),
 oX 48 (.mv 11),
 oX 49 (.bin .neq 47 48)])
 (.join ⟨[(9,sX),(11,sX),(8,.one (fX 500005 1)),(10,sX),(0,sX),(3,.one (rX 3)),(4,.one (rX 4)),(7,.one (rX 7))],[(3,.box [vX,vX,.c (.v (lX))]),(4,.box [vX,vX,fX 500003 1]),(7,.box [vX,vX,fX 500004 1]),(500003,.row true .aa iX),(500004,.row true .aa iX),(500005,.row true .aa iX)]⟩ [3,4,7,500000,500001,500002,500003,500004,500005] [(true,4,2,500003,.aa,[]),(true,7,2,500004,.aa,[]),(false,8,0,500005,.aa,[])]
 (.cond 49
 (.seq
 (.ae false [
 oX 50 (.load true 3 7),
 oX 51 (.mv 11),
 oX 52 (.mv 12),
 oX 53 (.eQ .aa 87 [50,51,52])])
 (.ae false [
 oX 54 (.mv 0),
 oX 55 (.mv 9),
 oX 56 (.bin .sub 54 55),
 oX 57 (.mv 0),
 oX 58 (.bin .rem 56 57),
 oX 9 (.mv 58)]))
 .skip)))
 (.seq
 (.ae false [
 oX 59 (.ak 2 7),
 oX 60 (.load false 1 59),
 oX 61 (.mv 11),
 oX 62 (.ak 1 3),
 oX 63 (.load false 1 62),
 oX 64 (.bin .mul 61 63),
 oX 65 (.mv 10),
 oX 66 (.bin .add 64 65),
 oX 67 (.bO 1 60 66),
 oX 68 (.load false 1 67),
 oX 13 (.mv 68)])
 (.seq
 (.ae false [
 oX 69 (.mv 9),
 oX 70 (.mv 13),
 oX 71 (.bin .mul 69 70),
 oX 72 (.mv 0),
 oX 73 (.bin .rem 71 72),
 oX 9 (.mv 73)])
 (.seq
 (.ae false [
 oX 74 (.mv 0),
 oX 75 (.mv 13),
 oX 76 (.call .aa 88 [74,75]),
 oX 14 (.mv 76)])
 (.seq
 (.seq
 (.ae false [
 oX 15 (.mv (kX 0))])
 (.join ⟨[(9,sX),(7,.one (rX 7)),(4,.one (rX 4)),(3,.one (rX 3)),(0,sX),(10,sX),(8,.one (fX 500011 1)),(11,sX)],[(3,.box [vX,vX,.c (.v (lX))]),(4,.box [vX,vX,fX 500009 1]),(7,.box [vX,vX,fX 500010 1]),(500009,.row true .aa iX),(500010,.row true .aa iX),(500011,.row true .aa iX)]⟩ [3,4,7,500006,500007,500008,500009,500010,500011] [(true,4,2,500009,.aa,[]),(true,7,2,500010,.aa,[]),(false,8,0,500011,.aa,[])]
 (.block 2
 (.loop 0 ⟨[(0,sX),(3,.one (rX 3)),(4,.one (rX 4)),(7,.one (rX 7)),(8,.one (fX 500008 1)),(9,sX),(10,sX),(11,sX),(14,sX),(15,sX)],[(3,.box [vX,vX,.c (.v (lX))]),(4,.box [vX,vX,fX 500006 1]),(7,.box [vX,vX,fX 500007 1]),(500006,.row true .aa iX),(500007,.row true .aa iX),(500008,.row true .aa iX)]⟩ [3,4,7,500003,500004,500005,500006,500007,500008] [(true,4,2,500006,.aa,[]),(true,7,2,500007,.aa,[]),(false,8,0,500008,.aa,[])]
 (.seq
 (.seq
 (.ae false [
 oX 77 (.mv 15),
 oX 78 (.ak 1 3),
 oX 79 (.load false 1 78),
 oX 80 (.bin .lss 77 79)])
 (.cond 80
 .skip
 (.exit 2)))
 (.seq
 (.block 3
 (.ae true [
 oX 83 (.ak 2 7),
 oX 84 (.load false 1 83),
 oX 85 (.mv 11),
 oX 86 (.ak 1 3),
 oX 87 (.load false 1 86),
 oX 88 (.bin .mul 85 87),
 oX 89 (.mv 15),
 oX 90 (.bin .add 88 89),
 oX 91 (.ak 2 7),
 oX 92 (.load false 1 91),
 oX 93 (.mv 11),
 oX 94 (.ak 1 3),
 oX 95 (.load false 1 94),
 oX 96 (.bin .mul 93 95),
 oX 97 (.mv 15),
 oX 98 (.bin .add 96 97),
 oX 99 (.bO 1 92 98),
 oX 100 (.load false 1 99),
 oX 101 (.mv 14),
 oX 102 (.bin .mul 100 101),
 oX 103 (.mv 0),
 oX 104 (.bin .rem 102 103),
 oX 105 (.bO 1 84 90),
 uX (.store 1 105 104)]))
 (.ae false [
 oX 81 (.mv 15),
 oX 82 (.bin .add 81 (kX 1)),
 oX 15 (.mv 82)])))))))
 (.seq
 (.seq
 (.ae false [
 oX 16 (.mv (kX 0))])
 (.join ⟨[(8,.one (fX 500017 1)),(10,sX),(0,sX),(3,.one (rX 3)),(4,.one (rX 4)),(7,.one (rX 7)),(9,sX)],[(3,.box [vX,vX,.c (.v (lX))]),(4,.box [vX,vX,fX 500015 1]),(7,.box [vX,vX,fX 500016 1]),(500015,.row true .aa iX),(500016,.row true .aa iX),(500017,.row true .aa iX)]⟩ [3,4,7,500012,500013,500014,500015,500016,500017] [(true,4,2,500015,.aa,[]),(true,7,2,500016,.aa,[]),(false,8,0,500017,.aa,[])]
 (.block 4
 (.loop 0 ⟨[(0,sX),(3,.one (rX 3)),(4,.one (rX 4)),(7,.one (rX 7)),(8,.one (fX 500014 1)),(9,sX),(10,sX),(11,sX),(16,sX)],[(3,.box [vX,vX,.c (.v (lX))]),(4,.box [vX,vX,fX 500012 1]),(7,.box [vX,vX,fX 500013 1]),(500012,.row true .aa iX),(500013,.row true .aa iX),(500014,.row true .aa iX)]⟩ [3,4,7,500009,500010,500011,500012,500013,500014] [(true,4,2,500012,.aa,[]),(true,7,2,500013,.aa,[]),(false,8,0,500014,.aa,[])]
 (.seq
 (.seq
 (.ae false [
 oX 106 (.mv 16),
 oX 107 (.ak 0 3),
 oX 108 (.load false 1 107),
 oX 109 (.bin .lss 106 108)])
 (.cond 109
 .skip
 (.exit 4)))
 (.seq
 (.block 5
 (.seq
 (.ae false [
 oX 112 (.mv 16),
 oX 113 (.mv 11),
 oX 114 (.bin .neq 112 113)])
 (.cond 114
 (.ae true [
 oX 115 (.mv 0),
 oX 116 (.load true 3 7),
 oX 117 (.mv 16),
 oX 118 (.mv 11),
 oX 119 (.ak 2 7),
 oX 120 (.load false 1 119),
 oX 121 (.mv 16),
 oX 122 (.ak 1 3),
 oX 123 (.load false 1 122),
 oX 124 (.bin .mul 121 123),
 oX 125 (.mv 10),
 oX 126 (.bin .add 124 125),
 oX 127 (.bO 1 120 126),
 oX 128 (.load false 1 127),
 oX 129 (.eQ .aa 89 [115,116,117,118,128])])
 .skip)))
 (.ae false [
 oX 110 (.mv 16),
 oX 111 (.bin .add 110 (kX 1)),
 oX 16 (.mv 111)])))))))
 (.ae false [
 oX 130 (.mv 8),
 oX 131 (.mv 10),
 oX 132 (.dT iX [131]),
 oX 133 (.append true iX 8 130 132),
 oX 8 (.mv 133)]))))))))))))
 (.ae false [
 oX 37 (.mv 10),
 oX 38 (.bin .add 37 (kX 1)),
 oX 10 (.mv 38)])))))))
 (.seq
 (.ae false [
 oX 134 (.load true 3 7),
 oX 135 (.mv 8),
 oX 136 (.mv 9),
 uX (.store 3 4 134),
 oX 5 (.mv 135),
 oX 6 (.mv 136)])
 .ret))))))
def QJ:List bx:=[.cell 4 3 true,.tmp 5,.tmp 6]
theorem alo (NN:Nat) (x:aQ (ao.aP GC)):cW NN [qE,M1,M4,MY,MX] Tp QJ GC Si x=FA NN x:=by kernel_rfl
theorem aiq:bU pX 62 Tp.er QJ 2=true:=by decide+kernel
theorem amr:cJ pX 62 M3.M/\bD pX 62=true:=
  c9 (T:=[qE,M1,M4,MY,MX]) (sc:=Tp) (ms:=QJ) (args:=GC) (aB:=Si) (az.cons Es<|az.cons amq<|az.ng ams<|az.cons amo<|az.ng amn<|az.nil) cE aiq zu fun x y h=>(alo aD x).trans (aeG x y h)
def M6:aG:=⟨34,GG,ako,Sl,zv⟩
def Ts:bt:=
 (.seq
 (.ae false [
 oX 1 (.box 5 0),
 oX 2 (.mv (.k (.one (.nil [lX])))),
 oX 3 (.alloc [zX,zX,.nil iX])])
 (.seq
 (.ae false [
 oX 16 (.dT [lX] []),
 oX 4 (.mv 16)])
 (.seq
 (.ae false [
 oX 17 (.ak 1 1),
 oX 18 (.load false 1 17),
 oX 19 (.build [zX,zX,.nil iX] [(1,1,18)]),
 oX 5 (.alloc [zX,zX,.nil iX]),
 uX (.store 3 5 19)])
 (.seq
 (.ae false [
 oX 20 (.dT iX []),
 oX 21 (.dT [lX] [20]),
 oX 6 (.mv 21)])
 (.seq
 (.join ⟨[(4,.one (fX 500025 1)),(5,.one (rX 5)),(3,.one (rX 3))],[(3,.box [vX,vX,fX 500023 1]),(5,.box [vX,vX,fX 500024 1]),(500023,.row true .aa iX),(500024,.row true .aa iX),(500025,.row true .aE [lX])]⟩ [1,3,5,500000,500001,500002,500003,500023,500024,500025] [(true,3,2,500023,.aa,[]),(true,5,2,500024,.aa,[]),(false,4,0,500025,.aE,[])]
 (.block 0
 (.loop 0 ⟨[(1,.one (rX 1)),(3,.one (rX 3)),(4,.one (fX 500002 1)),(5,.one (rX 5)),(6,.one (fX 500003 1))],[(1,.box [vX,vX,.c (.v (lX)),.c (.v (.list mX)),.c (.v (lX))]),(3,.box [vX,vX,fX 500000 1]),(5,.box [vX,vX,fX 500001 1]),(500000,.row true .aa iX),(500001,.row true .aa iX),(500002,.row true .aE [lX]),(500003,.row true .aa [lX])]⟩ [1,3,16,5,21,500000,500001,500002,500003,500019,500020,500021,500022] [(true,3,2,500000,.aa,[]),(true,5,2,500001,.aa,[]),(false,4,0,500002,.aE,[]),(false,6,0,500003,.aa,[])]
 (.seq
 (.seq
 (.ae false [
 oX 22 (.mv 6),
 oX 23 (.len 22),
 oX 24 (.bin .gtr 23 (kX 0))])
 (.cond 24
 .skip
 (.exit 0)))
 (.block 1
 (.seq
 (.ae false [
 oX 25 (.dT [lX] []),
 oX 7 (.mv 25)])
 (.seq
 (.seq
 (.ae false [
 oX 26 (.mv 6),
 oX 27 (.len 26),
 oX 28 (.mv (kX 0))])
 (.join ⟨[(7,.one (fX 500021 1)),(1,.one (rX 1)),(3,.one (rX 3)),(4,.one (fX 500022 1)),(5,.one (rX 5))],[(1,.box [vX,vX,.c (.v (lX)),.c (.v (.list mX)),.c (.v (lX))]),(3,.box [vX,vX,fX 500019 1]),(5,.box [vX,vX,fX 500020 1]),(500019,.row true .aa iX),(500020,.row true .aa iX),(500021,.row true .aa [lX]),(500022,.row true .aE [lX])]⟩ [1,3,5,500004,500005,500006,500007,500008,500019,500020,500021,500022] [(true,3,2,500019,.aa,[]),(true,5,2,500020,.aa,[]),(false,7,0,500021,.aa,[]),(false,4,0,500022,.aE,[])]
 (.block 2
 (.loop 0 ⟨[(1,.one (rX 1)),(3,.one (rX 3)),(4,.one (fX 500006 1)),(5,.one (rX 5)),(7,.one (fX 500007 1)),(26,.one (fX 500008 1)),(27,sX),(28,sX)],[(1,.box [vX,vX,.c (.v (lX)),.c (.v (.list mX)),.c (.v (lX))]),(3,.box [vX,vX,fX 500004 1]),(5,.box [vX,vX,fX 500005 1]),(500004,.row true .aa iX),(500005,.row true .aa iX),(500006,.row true .aE [lX]),(500007,.row true .aa [lX]),(500008,.row true .aa [lX])]⟩ [1,3,5,25,500000,500001,500002,500003,500004,500005,500006,500007,500008,500014,500015,500016,500017,500018] [(true,3,2,500004,.aa,[]),(true,5,2,500005,.aa,[]),(false,4,0,500006,.aE,[]),(false,7,0,500007,.aa,[]),(false,26,0,500008,.aa,[])]
 (.seq
 (.ae false [
 oX 29 (.bin .lss 28 27)])
 (.seq
 (.cond 29
 .skip
 (.exit 2))
 (.seq
 (.join ⟨[(28,sX),(1,.one (rX 1)),(3,.one (rX 3)),(4,.one (fX 500016 1)),(5,.one (rX 5)),(7,.one (fX 500017 1)),(26,.one (fX 500018 1)),(27,sX)],[(1,.box [vX,vX,.c (.v (lX)),.c (.v (.list mX)),.c (.v (lX))]),(3,.box [vX,vX,fX 500014 1]),(5,.box [vX,vX,fX 500015 1]),(500014,.row true .aa iX),(500015,.row true .aa iX),(500016,.row true .aE [lX]),(500017,.row true .aa [lX]),(500018,.row true .aa [lX])]⟩ [1,3,5,35000,44,11,51000,51001,12,500004,500005,500006,500007,500008,500009,500010,500011,500012,500013,500014,500015,500016,500017,500018] [(true,3,2,500014,.aa,[]),(true,5,2,500015,.aa,[]),(false,4,0,500016,.aE,[]),(false,7,0,500017,.aa,[]),(false,26,0,500018,.aa,[])]
 (.block 3
 (.seq
 (.ae false [
 oX 30 (.bO 1 26 28),
 oX 31 (.load false 1 30),
 oX 9 (.mv 31)])
 (.seq
 (.ae false [
 oX 32 (.load true 5 1),
 oX 33 (.mv 9),
 oX 34 (.call .aa 36 [32,33]),
 oX 10 (.mv 34)])
 (.seq
 (.pZ [(0,9),(1,9),(3,9),(4,9),(9,11)] [
 oX 35 (.ak 0 5),
 oX 36 (.load false 1 35),
 oX 37 (.bin .add 36 (kX 1)),
 oX 38 (.ak 1 1),
 oX 39 (.load false 1 38),
 oX 40 (.ak 2 5),
 oX 41 (.load false 1 40),
 oX 42 (.call .aa 37 [41]),
 oX 43 (.mv 10),
 oX 44 (.append true iX 8 42 43),
 oX 45 (.build [zX,zX,.nil iX] [(0,1,37),(1,1,39),(2,1,44)]),
 oX 11 (.alloc [zX,zX,.nil iX]),
 uX (.store 3 11 45)])
 (.seq
 (.ae false [
 oX 47 (.ak 0 1),
 oX 48 (.load false 1 47),
 oX 49 (.load true 3 11),
 oX 50 (.call .aa 62 [48,49]),
 oX 46 (.mv 50),
 oX 51 (.ext 0 46),
 oX 52 (.ext 1 46),
 oX 53 (.ext 2 46),
 oX 12 (.alloc [zX,zX,.nil iX]),
 uX (.store 3 12 51),
 oX 13 (.mv 52),
 oX 14 (.mv 53)])
 (.seq
 (.seq
 (.ae false [
 oX 54 (.mv 13),
 oX 55 (.len 54),
 oX 56 (.ak 0 5),
 oX 57 (.load false 1 56),
 oX 58 (.bin .leq 55 57)])
 (.cond 58
 (.exit 3)
 .skip))
 (.seq
 (.ae false [
 oX 59 (.load true 3 11),
 uX (.store 3 5 59)])
 (.seq
 (.ae false [
 oX 60 (.mv 4),
 oX 61 (.mv 9),
 oX 62 (.dT [lX] [61]),
 oX 63 (.append false [lX] 24 60 62),
 oX 4 (.mv 63)])
 (.seq
 (.ae false [
 oX 64 (.ak 3 1),
 oX 65 (.load false 1 64),
 oX 66 (.len 65),
 oX 67 (.mv (kX 0))])
 (.block 4
 (.loop 0 ⟨[(1,.one (rX 1)),(3,.one (rX 3)),(4,.one (fX 500011 1)),(5,.one (rX 5)),(7,.one (fX 500012 1)),(9,.one (.c (.v (lX)))),(26,.one (fX 500013 1)),(27,sX),(28,sX),(66,sX),(67,sX)],[(1,.box [vX,vX,.c (.v (lX)),.c (.v (.list mX)),.c (.v (lX))]),(3,.box [vX,vX,fX 500009 1]),(5,.box [vX,vX,fX 500010 1]),(500009,.row true .aa iX),(500010,.row true .aa iX),(500011,.row true .aE [lX]),(500012,.row true .aa [lX]),(500013,.row true .aa [lX])]⟩ [1,3,5,35000,44,11,51000,51001,12,63,74,77,500004,500005,500007,500008,500009,500010,500011,500012,500013] [(true,3,2,500009,.aa,[]),(true,5,2,500010,.aa,[]),(false,4,0,500011,.aE,[]),(false,7,0,500012,.aa,[]),(false,26,0,500013,.aa,[])]
 (.seq
 (.ae false [
 oX 68 (.bin .lss 67 66)])
 (.seq
 (.cond 68
 .skip
 (.exit 4))
 (.seq
 (.block 5
 (.seq
 (.ae false [
 oX 69 (.mv 67),
 oX 15 (.mv 69)])
 (.ae false [
 oX 70 (.mv 7),
 oX 71 (.mv 9),
 oX 72 (.call .aa 37 [71]),
 oX 73 (.mv 15),
 oX 74 (.dT iX [73]),
 oX 75 (.append true iX 8 72 74),
 oX 76 (.dT [lX] [75]),
 oX 77 (.append false [lX] 24 70 76),
 oX 7 (.mv 77)])))
 (.ae false [
 oX 78 (.bin .add 67 (kX 1)),
 oX 67 (.mv 78)]))))))))))))))))
 (.ae false [
 oX 79 (.bin .add 28 (kX 1)),
 oX 28 (.mv 79)]))))))))
 (.ae false [
 oX 80 (.mv 7),
 oX 6 (.mv 80)]))))))))
 (.seq
 (.ae true [
 oX 81 (.mv 4),
 oX 82 (.load true 3 5),
 oX 2 (.mv 81),
 uX (.store 3 3 82)])
 .ret))))))
def QM:List bx:=[.tmp 2,.cell 3 3 true]
theorem alr (NN:Nat) (x:aQ (ao.aP GG)):J4 NN [CZ,qE,M3] Ts QM GG Sl x=FC NN x:=by kernel_rfl
theorem ait:bU pX 34 Ts.er QM 1=true:=by decide+kernel
theorem amu:xr Go.Proofs.Try.prog 34 M6.MV/\bD pX 34=true:=
  abX (T:=[CZ,qE,M3]) (sc:=Ts) (ms:=QM) (args:=GG) (aB:=Sl) (az.cons Z3<|az.cons Es<|az.cons amr<|az.nil) cE ait zv fun x y h=>(alr aD x).trans (aeJ x y h)
def M7:aG:=⟨35,GH,akp,Sm,xg⟩
def Tt:bt:=
 (.seq
 (.ae false [
 oX 6 (.mv (kX 0))])
 (.seq
 (.ae false [
 oX 7 (.mv (kX 0))])
 (.seq
 (.seq
 (.ae false [
 oX 10 (.mv 1),
 oX 11 (.len 10),
 oX 12 (.mv (kX 0))])
 (.join ⟨[(7,sX)],[]⟩ [] []
 (.block 0
 (.loop 0 ⟨[(0,sX),(2,.one (.c (.v (lX)))),(7,sX),(10,.one (.c (.v (lX)))),(11,sX),(12,sX)],[]⟩ [] []
 (.seq
 (.ae false [
 oX 13 (.bin .lss 12 11)])
 (.seq
 (.cond 13
 .skip
 (.exit 0))
 (.seq
 (.block 1
 (.seq
 (.ae false [
 oX 14 (.mv 12),
 oX 15 (.bO 1 10 12),
 oX 16 (.load false 1 15),
 oX 8 (.mv 14),
 oX 9 (.mv 16)])
 (.ae false [
 oX 17 (.mv 7),
 oX 18 (.mv 9),
 oX 19 (.mv 2),
 oX 20 (.mv 8),
 oX 21 (.bO 1 19 20),
 oX 22 (.load false 1 21),
 oX 23 (.bin .mul 18 22),
 oX 24 (.bin .add 17 23),
 oX 25 (.mv 0),
 oX 26 (.bin .rem 24 25),
 oX 7 (.mv 26)])))
 (.ae false [
 oX 27 (.bin .add 12 (kX 1)),
 oX 12 (.mv 27)]))))))))
 (.seq
 (.ae false [
 oX 28 (.mv 7),
 oX 6 (.mv 28)])
 .ret))))
def QN:List bx:=[.tmp 6]
theorem als (NN:Nat) (x:aQ (ao.aP GH)):cW NN [] Tt QN GH Sm x=Lo NN x:=by kernel_rfl
theorem aiu:bU pX 35 Tt.er QN 3=true:=by decide+kernel
theorem amv:cJ pX 35 M7.M/\bD pX 35=true:=
  c9 (T:=[]) (sc:=Tt) (ms:=QN) (args:=GH) (aB:=Sm) (az.nil) cE aiu xg fun x y h=>(als aD x).trans (aeK x y h)
def MU:aG:=⟨9,Gr,akd,R8,rC⟩
def Tf:bt:=
 (.seq
 (.ae false [
 oX 2 (.box 5 0),
 oX 3 (.box 5 1),
 oX 4 (.mv (.k (.one (.nil iX)))),
 oX 5 (.mv (.k (.one (.v (.bool) (false)))))])
 (.seq
 (.seq
 (.ae false [
 oX 11 (.load true 5 2),
 oX 12 (.load true 5 3),
 oX 13 (.call .aa 32 [11,12]),
 oX 14 (.un .not 13)])
 (.cond 14
 (.seq
 (.ae false [
 oX 4 (.mv (.k (.one (.nil iX)))),
 oX 5 (.mv (.k (.one (.v (.bool) (false)))))])
 .ret)
 .skip))
 (.seq
 (.ae false [
 oX 15 (.load true 5 2),
 oX 16 (.load true 5 3),
 oX 17 (.ak 0 2),
 oX 18 (.load false 1 17),
 oX 19 (.bin .sub 18 (kX 1)),
 oX 20 (.call .aa 33 [15,16,19]),
 oX 6 (.alloc [zX,zX,.nil iX,.nil mX,.nil iX]),
 uX (.store 5 6 20)])
 (.seq
 (.ae false [
 oX 22 (.lV true 5 6),
 oX 23 (.iJ 34 [22]),
 oX 21 (.mv 23),
 oX 24 (.ext 0 21),
 oX 25 (.ext 1 21),
 oX 8 (.alloc [zX,zX,.nil iX]),
 oX 7 (.mv 24),
 uX (.store 3 8 25)])
 (.seq
 (.seq
 (.ae false [
 oX 26 (.mv 7),
 oX 27 (.len 26),
 oX 28 (.mv (kX 0))])
 (.join ⟨[],[]⟩ [6] []
 (.block 0
 (.loop 0 ⟨[(6,.one (rX 6)),(26,.one (.c (.v (.list [lX])))),(27,sX),(28,sX)],[(6,.box [vX,vX,.c (.v (lX)),.c (.v (.list mX)),.c (.v (lX))])]⟩ [2,3,6,8,37000] []
 (.seq
 (.ae false [
 oX 29 (.bin .lss 28 27)])
 (.seq
 (.cond 29
 .skip
 (.exit 0))
 (.seq
 (.block 1
 (.seq
 (.ae false [
 oX 30 (.bO 1 26 28),
 oX 31 (.load false 1 30),
 oX 10 (.mv 31)])
 (.seq
 (.ae true [
 oX 32 (.ak 0 6),
 oX 33 (.load false 1 32),
 oX 34 (.load true 5 6),
 oX 35 (.mv 10),
 oX 36 (.call .aa 36 [34,35]),
 oX 37 (.ak 4 6),
 oX 38 (.load false 1 37),
 oX 39 (.call .aa 35 [33,36,38]),
 oX 40 (.bin .neq 39 (kX 0))])
 (.cond 40
 (.seq
 (.ae false [
 oX 41 (.mv 10),
 oX 42 (.call .aa 37 [41]),
 oX 4 (.mv 42),
 oX 5 (.mv (.k (.one (.v (.bool) (true)))))])
 .ret)
 .skip))))
 (.ae false [
 oX 43 (.bin .add 28 (kX 1)),
 oX 28 (.mv 43)]))))))))
 (.seq
 (.ae false [
 oX 4 (.mv (.k (.one (.nil iX)))),
 oX 5 (.mv (.k (.one (.v (.bool) (false)))))])
 .ret))))))
def Qz:List bx:=[.tmp 4,.tmp 5]
theorem ald (NN:Nat) (x:aQ (ao.aP Gr)):cW NN [M5,M9,M6,CZ,M7,qE] Tf Qz Gr R8 x=Ce NN x:=by kernel_rfl
theorem aif:bU pX 9 Tf.er Qz 2=true:=by decide+kernel
theorem aml:cJ pX 9 MU.M/\bD pX 9=true:=
  c9 (T:=[M5,M9,M6,CZ,M7,qE]) (sc:=Tf) (ms:=Qz) (args:=Gr) (aB:=R8) (az.cons amt<|az.cons amx<|az.VJ amu<|az.cons Z3<|az.cons amv<|az.cons Es<|az.nil) cE aif rC fun x y h=>(ald aD x).trans (aex x y h)
def CR:aG:=⟨57,FM,ajJ,Rr,uR⟩
def SA:bt:=
 (.seq
 (.ae false [
 oX 2 (.mv (.k (.one (.v (.bool) (false)))))])
 (.seq
 (.seq
 (.ae false [
 oX 4 (.mv 0),
 oX 5 (.bin .lss 4 (kX 2)),
 oX 6 (.mv 5),
 ⟨(some 7),.mv 0,(some (6,false))⟩,
 ⟨(some 8),.bin .gtr 7 (kX 1000003),(some (6,false))⟩,
 oX 9 (.pick 6 (.k (.one (.v (.bool) (true)))) 8)])
 (.cond 9
 (.seq
 (.ae false [
 oX 2 (.mv (.k (.one (.v (.bool) (false)))))])
 .ret)
 .skip))
 (.seq
 (.seq
 (.ae false [
 oX 3 (.mv (kX 2))])
 (.join ⟨[],[]⟩ [] []
 (.block 0
 (.loop 0 ⟨[(0,sX),(3,sX)],[]⟩ [] []
 (.seq
 (.seq
 (.ae false [
 oX 10 (.mv 3),
 oX 11 (.mv 3),
 oX 12 (.bin .mul 10 11),
 oX 13 (.mv 0),
 oX 14 (.bin .leq 12 13)])
 (.cond 14
 .skip
 (.exit 0)))
 (.seq
 (.block 1
 (.seq
 (.ae false [
 oX 17 (.mv 0),
 oX 18 (.mv 3),
 oX 19 (.bin .rem 17 18),
 oX 20 (.bin .eql 19 (kX 0))])
 (.cond 20
 (.seq
 (.ae false [
 oX 2 (.mv (.k (.one (.v (.bool) (false)))))])
 .ret)
 .skip)))
 (.ae false [
 oX 15 (.mv 3),
 oX 16 (.bin .add 15 (kX 1)),
 oX 3 (.mv 16)])))))))
 (.seq
 (.ae false [
 oX 2 (.mv (.k (.one (.v (.bool) (true)))))])
 .ret))))
def PZ:List bx:=[.tmp 2]
theorem akD (NN:Nat) (x:aQ (ao.aP FM)):cW NN [] SA PZ FM Rr x=KS NN x:=by kernel_rfl
theorem ahF:bU pX 57 SA.er PZ 1=true:=by decide+kernel
theorem ZV:cJ pX 57 CR.M/\bD pX 57=true:=
  c9 (T:=[]) (sc:=SA) (ms:=PZ) (args:=FM) (aB:=Rr) (az.nil) cE ahF uR fun x y h=>(akD aD x).trans (adX x y h)
def CS:aG:=⟨58,FX,ajP,RD,rz⟩
def SL:bt:=
 (.seq
 (.ae false [
 oX 4 (.mv (.k (.one (.v (.bool) (false)))))])
 (.seq
 (.seq
 (.ae false [
 oX 7 (.mv 1),
 oX 8 (.len 7),
 oX 9 (.mv (kX 0))])
 (.join ⟨[],[]⟩ [] []
 (.block 0
 (.loop 0 ⟨[(0,sX),(7,.one (.c (.v (lX)))),(8,sX),(9,sX)],[]⟩ [] []
 (.seq
 (.ae false [
 oX 10 (.bin .lss 9 8)])
 (.seq
 (.cond 10
 .skip
 (.exit 0))
 (.seq
 (.block 1
 (.seq
 (.ae false [
 oX 11 (.bO 1 7 9),
 oX 12 (.load false 1 11),
 oX 6 (.mv 12)])
 (.seq
 (.ae false [
 oX 13 (.mv 6),
 oX 14 (.bin .lss 13 (kX 0)),
 oX 15 (.mv 14),
 ⟨(some 16),.mv 6,(some (15,false))⟩,
 ⟨(some 17),.mv 0,(some (15,false))⟩,
 ⟨(some 18),.bin .geq 16 17,(some (15,false))⟩,
 oX 19 (.pick 15 (.k (.one (.v (.bool) (true)))) 18)])
 (.cond 19
 (.seq
 (.ae false [
 oX 4 (.mv (.k (.one (.v (.bool) (false)))))])
 .ret)
 .skip))))
 (.ae false [
 oX 20 (.bin .add 9 (kX 1)),
 oX 9 (.mv 20)]))))))))
 (.seq
 (.ae false [
 oX 4 (.mv (.k (.one (.v (.bool) (true)))))])
 .ret)))
def P8:List bx:=[.tmp 4]
theorem akM (NN:Nat) (x:aQ (ao.aP FX)):cW NN [] SL P8 FX RD x=KW NN x:=by kernel_rfl
theorem ahO:bU pX 58 SL.er P8 2=true:=by decide+kernel
theorem ZW:cJ pX 58 CS.M/\bD pX 58=true:=
  c9 (T:=[]) (sc:=SL) (ms:=P8) (args:=FX) (aB:=RD) (az.nil) cE ahO rz fun x y h=>(akM aD x).trans (ad6 x y h)
def Mv:aG:=⟨59,FN,ajK,Rs,w7⟩
def SD:bt:=
 (.seq
 (.ae false [
 oX 3 (.box 3 1),
 oX 4 (.mv (.k (.one (.v (.bool) (false)))))])
 (.seq
 (.seq
 (.ae false [
 oX 5 (.mv 0),
 oX 6 (.call .aa 57 [5]),
 oX 7 (.un .not 6),
 oX 8 (.mv 7),
 ⟨(some 9),.ak 0 3,(some (8,false))⟩,
 ⟨(some 10),.load false 1 9,(some (8,false))⟩,
 ⟨(some 11),.bin .lss 10 (kX 0),(some (8,false))⟩,
 oX 12 (.pick 8 (.k (.one (.v (.bool) (true)))) 11),
 oX 13 (.mv 12),
 ⟨(some 14),.ak 1 3,(some (13,false))⟩,
 ⟨(some 15),.load false 1 14,(some (13,false))⟩,
 ⟨(some 16),.bin .lss 15 (kX 0),(some (13,false))⟩,
 oX 17 (.pick 13 (.k (.one (.v (.bool) (true)))) 16),
 oX 18 (.mv 17),
 ⟨(some 19),.ak 0 3,(some (18,false))⟩,
 ⟨(some 20),.load false 1 19,(some (18,false))⟩,
 ⟨(some 21),.bin .gtr 20 (kX 64),(some (18,false))⟩,
 oX 22 (.pick 18 (.k (.one (.v (.bool) (true)))) 21),
 oX 23 (.mv 22),
 ⟨(some 24),.ak 1 3,(some (23,false))⟩,
 ⟨(some 25),.load false 1 24,(some (23,false))⟩,
 ⟨(some 26),.bin .gtr 25 (kX 64),(some (23,false))⟩,
 oX 27 (.pick 23 (.k (.one (.v (.bool) (true)))) 26)])
 (.cond 27
 (.seq
 (.ae false [
 oX 4 (.mv (.k (.one (.v (.bool) (false)))))])
 .ret)
 .skip))
 (.seq
 (.ae false [
 oX 28 (.ak 2 3),
 oX 29 (.load false 1 28),
 oX 30 (.len 29),
 oX 31 (.ak 0 3),
 oX 32 (.load false 1 31),
 oX 33 (.ak 1 3),
 oX 34 (.load false 1 33),
 oX 35 (.bin .mul 32 34),
 oX 36 (.bin .eql 30 35),
 oX 37 (.mv 36),
 ⟨(some 38),.mv 0,(some (37,true))⟩,
 ⟨(some 39),.ak 2 3,(some (37,true))⟩,
 ⟨(some 40),.load false 1 39,(some (37,true))⟩,
 ⟨(some 41),.call .aa 58 [38,40],(some (37,true))⟩,
 oX 42 (.pick 37 41 (.k (.one (.v (.bool) (false))))),
 oX 4 (.mv 42)])
 .ret)))
def P0:List bx:=[.tmp 4]
theorem akE (NN:Nat) (x:aQ (ao.aP FN)):cW NN [CR,CS] SD P0 FN Rs x=KT NN x:=by kernel_rfl
theorem ahG:bU pX 59 SD.er P0 2=true:=by decide+kernel
theorem alX:cJ pX 59 Mv.M/\bD pX 59=true:=
  c9 (T:=[CR,CS]) (sc:=SD) (ms:=P0) (args:=FN) (aB:=Rs) (az.cons ZV<|az.cons ZW<|az.nil) cE ahG w7 fun x y h=>(akE aD x).trans (adY x y h)
def Mt:aG:=⟨28,FK,ajH,Rp,uQ⟩
def Sy:bt:=
 (.seq
 (.ae false [
 oX 1 (.box 5 0),
 oX 2 (.mv (.k (.one (.v (.bool) (false)))))])
 (.seq
 (.seq
 (.ae false [
 oX 5 (.ak 0 1),
 oX 6 (.load false 1 5),
 oX 7 (.call .aa 57 [6]),
 oX 8 (.un .not 7),
 oX 9 (.mv 8),
 ⟨(some 10),.ak 1 1,(some (9,false))⟩,
 ⟨(some 11),.load false 1 10,(some (9,false))⟩,
 ⟨(some 12),.bin .lss 11 (kX 0),(some (9,false))⟩,
 oX 13 (.pick 9 (.k (.one (.v (.bool) (true)))) 12),
 oX 14 (.mv 13),
 ⟨(some 15),.ak 1 1,(some (14,false))⟩,
 ⟨(some 16),.load false 1 15,(some (14,false))⟩,
 ⟨(some 17),.bin .gtr 16 (kX 12),(some (14,false))⟩,
 oX 18 (.pick 14 (.k (.one (.v (.bool) (true)))) 17),
 oX 19 (.mv 18),
 ⟨(some 20),.ak 2 1,(some (19,false))⟩,
 ⟨(some 21),.load false 1 20,(some (19,false))⟩,
 ⟨(some 22),.len 21,(some (19,false))⟩,
 ⟨(some 23),.ak 1 1,(some (19,false))⟩,
 ⟨(some 24),.load false 1 23,(some (19,false))⟩,
 ⟨(some 25),.bin .neq 22 24,(some (19,false))⟩,
 oX 26 (.pick 19 (.k (.one (.v (.bool) (true)))) 25),
 oX 27 (.mv 26),
 ⟨(some 28),.ak 4 1,(some (27,false))⟩,
 ⟨(some 29),.load false 1 28,(some (27,false))⟩,
 ⟨(some 30),.len 29,(some (27,false))⟩,
 ⟨(some 31),.ak 1 1,(some (27,false))⟩,
 ⟨(some 32),.load false 1 31,(some (27,false))⟩,
 ⟨(some 33),.bin .neq 30 32,(some (27,false))⟩,
 oX 34 (.pick 27 (.k (.one (.v (.bool) (true)))) 33)])
 (.cond 34
 (.seq
 (.ae false [
 oX 2 (.mv (.k (.one (.v (.bool) (false)))))])
 .ret)
 .skip))
 (.seq
 (.seq
 (.ae false [
 oX 35 (.ak 0 1),
 oX 36 (.load false 1 35),
 oX 37 (.ak 2 1),
 oX 38 (.load false 1 37),
 oX 39 (.call .aa 58 [36,38]),
 oX 40 (.un .not 39),
 oX 41 (.mv 40),
 ⟨(some 42),.ak 0 1,(some (41,false))⟩,
 ⟨(some 43),.load false 1 42,(some (41,false))⟩,
 ⟨(some 44),.ak 4 1,(some (41,false))⟩,
 ⟨(some 45),.load false 1 44,(some (41,false))⟩,
 ⟨(some 46),.call .aa 58 [43,45],(some (41,false))⟩,
 ⟨(some 47),.un .not 46,(some (41,false))⟩,
 oX 48 (.pick 41 (.k (.one (.v (.bool) (true)))) 47),
 oX 49 (.mv 48),
 ⟨(some 50),.ak 3 1,(some (49,false))⟩,
 ⟨(some 51),.load false 1 50,(some (49,false))⟩,
 ⟨(some 52),.len 51,(some (49,false))⟩,
 ⟨(some 53),.bin .lss 52 (kX 1),(some (49,false))⟩,
 oX 54 (.pick 49 (.k (.one (.v (.bool) (true)))) 53),
 oX 55 (.mv 54),
 ⟨(some 56),.ak 3 1,(some (55,false))⟩,
 ⟨(some 57),.load false 1 56,(some (55,false))⟩,
 ⟨(some 58),.len 57,(some (55,false))⟩,
 ⟨(some 59),.bin .gtr 58 (kX 4),(some (55,false))⟩,
 oX 60 (.pick 55 (.k (.one (.v (.bool) (true)))) 59)])
 (.cond 60
 (.seq
 (.ae false [
 oX 2 (.mv (.k (.one (.v (.bool) (false)))))])
 .ret)
 .skip))
 (.seq
 (.seq
 (.ae false [
 oX 61 (.ak 3 1),
 oX 62 (.load false 1 61),
 oX 63 (.len 62),
 oX 64 (.mv (kX 0))])
 (.join ⟨[],[]⟩ [1] []
 (.block 0
 (.loop 0 ⟨[(1,.one (rX 1)),(62,.one (.c (.v (.list mX)))),(63,sX),(64,sX)],[(1,.box [vX,vX,.c (.v (lX)),.c (.v (.list mX)),.c (.v (lX))])]⟩ [1,4] []
 (.seq
 (.ae false [
 oX 65 (.bin .lss 64 63)])
 (.seq
 (.cond 65
 .skip
 (.exit 0))
 (.seq
 (.block 1
 (.seq
 (.ae false [
 oX 66 (.bO 3 62 64),
 oX 67 (.load true 3 66),
 oX 4 (.alloc [zX,zX,.nil iX]),
 uX (.store 3 4 67)])
 (.seq
 (.ae false [
 oX 68 (.ak 0 1),
 oX 69 (.load false 1 68),
 oX 70 (.load true 3 4),
 oX 71 (.call .aa 59 [69,70]),
 oX 72 (.un .not 71),
 oX 73 (.mv 72),
 ⟨(some 74),.ak 0 4,(some (73,false))⟩,
 ⟨(some 75),.load false 1 74,(some (73,false))⟩,
 ⟨(some 76),.ak 1 1,(some (73,false))⟩,
 ⟨(some 77),.load false 1 76,(some (73,false))⟩,
 ⟨(some 78),.bin .neq 75 77,(some (73,false))⟩,
 oX 79 (.pick 73 (.k (.one (.v (.bool) (true)))) 78),
 oX 80 (.mv 79),
 ⟨(some 81),.ak 1 4,(some (80,false))⟩,
 ⟨(some 82),.load false 1 81,(some (80,false))⟩,
 ⟨(some 83),.ak 1 1,(some (80,false))⟩,
 ⟨(some 84),.load false 1 83,(some (80,false))⟩,
 ⟨(some 85),.bin .neq 82 84,(some (80,false))⟩,
 oX 86 (.pick 80 (.k (.one (.v (.bool) (true)))) 85)])
 (.cond 86
 (.seq
 (.ae false [
 oX 2 (.mv (.k (.one (.v (.bool) (false)))))])
 .ret)
 .skip))))
 (.ae false [
 oX 87 (.bin .add 64 (kX 1)),
 oX 64 (.mv 87)]))))))))
 (.seq
 (.ae false [
 oX 2 (.mv (.k (.one (.v (.bool) (true)))))])
 .ret)))))
def PX:List bx:=[.tmp 2]
theorem akB (NN:Nat) (x:aQ (ao.aP FK)):cW NN [CR,CS,Mv] Sy PX FK Rp x=KR NN x:=by kernel_rfl
theorem ahD:bU pX 28 Sy.er PX 1=true:=by decide+kernel
theorem alV:cJ pX 28 Mt.M/\bD pX 28=true:=
  c9 (T:=[CR,CS,Mv]) (sc:=Sy) (ms:=PX) (args:=FK) (aB:=Rp) (az.cons ZV<|az.cons ZW<|az.cons alX<|az.nil) cE ahD uQ fun x y h=>(akB aD x).trans (adV x y h)
def ME:aG:=⟨40,F6,ajW,RM,td⟩
def SS:bt:=
 (.seq
 (.ae false [
 oX 2 (.box 5 0),
 oX 3 (.box 5 1),
 oX 4 (.mv (.k (.one (.v (.bool) (false)))))])
 (.seq
 (.ae false [
 oX 5 (.load true 5 2),
 oX 6 (.call .aa 28 [5]),
 oX 7 (.mv 6),
 ⟨(some 8),.load true 5 3,(some (7,true))⟩,
 ⟨(some 9),.call .aa 28 [8],(some (7,true))⟩,
 oX 10 (.pick 7 9 (.k (.one (.v (.bool) (false))))),
 oX 11 (.mv 10),
 ⟨(some 12),.ak 0 2,(some (11,true))⟩,
 ⟨(some 13),.load false 1 12,(some (11,true))⟩,
 ⟨(some 14),.ak 0 3,(some (11,true))⟩,
 ⟨(some 15),.load false 1 14,(some (11,true))⟩,
 ⟨(some 16),.bin .eql 13 15,(some (11,true))⟩,
 oX 17 (.pick 11 16 (.k (.one (.v (.bool) (false))))),
 oX 18 (.mv 17),
 ⟨(some 19),.ak 3 2,(some (18,true))⟩,
 ⟨(some 20),.load false 1 19,(some (18,true))⟩,
 ⟨(some 21),.len 20,(some (18,true))⟩,
 ⟨(some 22),.ak 3 3,(some (18,true))⟩,
 ⟨(some 23),.load false 1 22,(some (18,true))⟩,
 ⟨(some 24),.len 23,(some (18,true))⟩,
 ⟨(some 25),.bin .eql 21 24,(some (18,true))⟩,
 oX 26 (.pick 18 25 (.k (.one (.v (.bool) (false))))),
 oX 4 (.mv 26)])
 .ret))
def Qf:List bx:=[.tmp 4]
theorem akT (NN:Nat) (x:aQ (ao.aP F6)):cW NN [Mt] SS Qf F6 RM x=KZ NN x:=by kernel_rfl
theorem ahV:bU pX 40 SS.er Qf 2=true:=by decide+kernel
theorem al6:cJ pX 40 ME.M/\bD pX 40=true:=
  c9 (T:=[Mt]) (sc:=SS) (ms:=Qf) (args:=F6) (aB:=RM) (az.cons alV<|az.nil) cE ahV td fun x y h=>(akT aD x).trans (aed x y h)
def qD:aG:=⟨44,FU,ajM,Rx,jY⟩
def SI:bt:=
 (.seq
 (.ae false [
 oX 2 (.mv (.k (.one (.nil iX))))])
 (.seq
 (.ae false [
 oX 3 (.mv 0),
 oX 4 (.append true iX 8 (.k (.one (.nil iX))) 3),
 oX 2 (.mv 4)])
 .ret))
def P5:List bx:=[.tmp 2]
theorem akJ (NN:Nat) (x:aQ (ao.aP FU)):cW NN [] SI P5 FU Rx x=KU NN x:=by kernel_rfl
theorem ahL:bU pX 44 SI.er P5 1=true:=by decide+kernel
theorem Er:cJ pX 44 qD.M/\bD pX 44=true:=
  c9 (T:=[]) (sc:=SI) (ms:=P5) (args:=FU) (aB:=Rx) (az.nil) cE ahL jY fun x y h=>(akJ aD x).trans (ad3 x y h)
def xM:aG:=⟨65,FW,ajO,RB,uS⟩
def SK:bt:=
 (.seq
 (.ae false [
 oX 4 (.alloc [zX,zX,.nil iX])])
 (.seq
 (.ae false [
 oX 5 (.mv 0),
 oX 6 (.mv 1),
 oX 7 (.mv 0),
 oX 8 (.mv 1),
 oX 9 (.bin .mul 7 8),
 oX 10 (.ld .aa iX 8 (0:Int) 9 9),
 oX 11 (.build [zX,zX,.nil iX] [(0,1,5),(1,1,6),(2,1,10)]),
 uX (.store 3 4 11)])
 .ret))
def P7:List bx:=[.cell 4 3 true]
theorem akL (NN:Nat) (x:aQ (ao.aP FW)):cW NN [] SK P7 FW RB x=UQ NN x:=by kernel_rfl
theorem ahN:bU pX 65 SK.er P7 2=true:=by decide+kernel
theorem Q3:cJ pX 65 xM.M/\bD pX 65=true:=
  c9 (T:=[]) (sc:=SK) (ms:=P7) (args:=FW) (aB:=RB) (az.nil) cE ahN uS fun x y h=>(akL aD x).trans (ad5 x y h)
def qB:aG:=⟨67,FQ,ajL,Ru,jv⟩
def SF:bt:=
 (.seq
 (.ae false [
 oX 3 (.box 3 0),
 oX 6 (.mv (kX 0))])
 (.seq
 (.ae false [
 oX 7 (.ak 2 3),
 oX 8 (.load false 1 7),
 oX 9 (.mv 1),
 oX 10 (.ak 1 3),
 oX 11 (.load false 1 10),
 oX 12 (.bin .mul 9 11),
 oX 13 (.mv 2),
 oX 14 (.bin .add 12 13),
 oX 15 (.bO 1 8 14),
 oX 16 (.load false 1 15),
 oX 6 (.mv 16)])
 .ret))
def P2:List bx:=[.tmp 6]
theorem akG (NN:Nat) (x:aQ (ao.aP FQ)):cW NN [] SF P2 FQ Ru x=Fm NN x:=by kernel_rfl
theorem ahI:bU pX 67 SF.er P2 3=true:=by decide+kernel
theorem Eo:cJ pX 67 qB.M/\bD pX 67=true:=
  c9 (T:=[]) (sc:=SF) (ms:=P2) (args:=FQ) (aB:=Ru) (az.nil) cE ahI jv fun x y h=>(akG aD x).trans (ad0 x y h)
def qC:aG:=⟨66,FR,JD,Rv,nW⟩
def SG:bt:=
 (.seq
 (.ae false [
 oX 4 (.box 3 0)])
 (.ae false [
 oX 8 (.ak 2 4),
 oX 9 (.load false 1 8),
 oX 10 (.mv 1),
 oX 11 (.ak 1 4),
 oX 12 (.load false 1 11),
 oX 13 (.bin .mul 10 12),
 oX 14 (.mv 2),
 oX 15 (.bin .add 13 14),
 oX 16 (.mv 3),
 oX 17 (.bO 1 9 15),
 uX (.store 1 17 16)]))
def P3:List bx:=[]
theorem akH (NN:Nat) (x:aQ (ao.aP FR)):sZ NN [] SG P3 FR JD Rv x=Fo NN x:=by kernel_rfl
theorem ahJ:bU pX 66 SG.er P3 4=true:=by decide+kernel
theorem Ep:n4 pX 66 JD qC.MM/\bD pX 66=true:=
  wA (T:=[]) (sc:=SG) (ms:=P3) (args:=FR) (mu:=JD) (aB:=Rv) (az.nil) cE ahJ nW fun x y h=>(akH aD x).trans (ad1 x y h)
def Mz:aG:=⟨41,FY,ajQ,RE,xa⟩
def SM:bt:=
 (.seq
 (.ae false [
 oX 2 (.box 5 0),
 oX 3 (.box 5 1),
 oX 4 (.alloc [zX,zX,.nil iX,.nil mX,.nil iX])])
 (.seq
 (.ae false [
 oX 13 (.ak 0 2),
 oX 14 (.load false 1 13),
 oX 15 (.ak 1 2),
 oX 16 (.load false 1 15),
 oX 17 (.ak 1 3),
 oX 18 (.load false 1 17),
 oX 19 (.bin .add 16 18),
 oX 20 (.build [zX,zX,.nil iX,.nil mX,.nil iX] [(0,1,14),(1,1,19)]),
 oX 5 (.alloc [zX,zX,.nil iX,.nil mX,.nil iX]),
 uX (.store 5 5 20)])
 (.seq
 (.ae true [
 oX 21 (.ak 2 2),
 oX 22 (.load false 1 21),
 oX 23 (.call .aa 44 [22]),
 oX 24 (.ak 2 3),
 oX 25 (.load false 1 24),
 oX 26 (.append true iX 8 23 25),
 oX 27 (.ak 2 5),
 uX (.store 1 27 26)])
 (.seq
 (.ae true [
 oX 28 (.ak 4 2),
 oX 29 (.load false 1 28),
 oX 30 (.call .aa 44 [29]),
 oX 31 (.ak 4 3),
 oX 32 (.load false 1 31),
 oX 33 (.append true iX 8 30 32),
 oX 34 (.ak 4 5),
 uX (.store 1 34 33)])
 (.seq
 (.seq
 (.ae false [
 oX 35 (.ak 3 2),
 oX 36 (.load false 1 35),
 oX 37 (.len 36),
 oX 38 (.mv (kX 0))])
 (.join ⟨[(5,.one (rX 5)),(4,.one (rX 4))],[(4,.box [vX,vX,fX 500068 1,fX 500069 3,fX 500070 1]),(5,.box [vX,vX,fX 500071 1,fX 500072 3,fX 500073 1]),(500068,.row true .aa iX),(500069,.row true .aa mX),(500070,.row true .aa iX),(500071,.row true .aa iX),(500072,.row true .aa mX),(500073,.row true .aa iX)]⟩ [2,3,4,5,500000,500001,500002,500003,500004,500005,500068,500069,500070,500071,500072,500073] [(true,4,2,500068,.aa,[]),(true,4,3,500069,.aa,[]),(true,4,4,500070,.aa,[]),(true,5,2,500071,.aa,[]),(true,5,3,500072,.aa,[]),(true,5,4,500073,.aa,[])]
 (.block 0
 (.loop 0 ⟨[(2,.one (rX 2)),(3,.one (rX 3)),(4,.one (rX 4)),(5,.one (rX 5)),(36,.one (.c (.v (.list mX)))),(37,sX),(38,sX)],[(2,.box [vX,vX,.c (.v (lX)),.c (.v (.list mX)),.c (.v (lX))]),(3,.box [vX,vX,.c (.v (lX)),.c (.v (.list mX)),.c (.v (lX))]),(4,.box [vX,vX,fX 500000 1,fX 500001 3,fX 500002 1]),(5,.box [vX,vX,fX 500003 1,fX 500004 3,fX 500005 1]),(500000,.row true .aa iX),(500001,.row true .aa mX),(500002,.row true .aa iX),(500003,.row true .aa iX),(500004,.row true .aa mX),(500005,.row true .aa iX)]⟩ [2,3,4,5,26,33,500000,500001,500002,500003,500004,500005,500062,500063,500064,500065,500066,500067] [(true,4,2,500000,.aa,[]),(true,4,3,500001,.aa,[]),(true,4,4,500002,.aa,[]),(true,5,2,500003,.aa,[]),(true,5,3,500004,.aa,[]),(true,5,4,500005,.aa,[])]
 (.seq
 (.ae false [
 oX 39 (.bin .lss 38 37)])
 (.seq
 (.cond 39
 .skip
 (.exit 0))
 (.seq
 (.join ⟨[(38,sX),(2,.one (rX 2)),(3,.one (rX 3)),(4,.one (rX 4)),(5,.one (rX 5)),(36,.one (.c (.v (.list mX)))),(37,sX)],[(2,.box [vX,vX,.c (.v (lX)),.c (.v (.list mX)),.c (.v (lX))]),(3,.box [vX,vX,.c (.v (lX)),.c (.v (.list mX)),.c (.v (lX))]),(4,.box [vX,vX,fX 500062 1,fX 500063 3,fX 500064 1]),(5,.box [vX,vX,fX 500065 1,fX 500066 3,fX 500067 1]),(500062,.row true .aa iX),(500063,.row true .aa mX),(500064,.row true .aa iX),(500065,.row true .aa iX),(500066,.row true .aa mX),(500067,.row true .aa iX)]⟩ [2,3,4,5,8,102,500055,500056,500057,500058,500060,500062,500063,500064,500065,500066,500067] [(true,4,2,500062,.aa,[]),(true,4,3,500063,.aa,[]),(true,4,4,500064,.aa,[]),(true,5,2,500065,.aa,[]),(true,5,3,500066,.aa,[]),(true,5,4,500067,.aa,[])]
 (.block 1
 (.seq
 (.ae false [
 oX 40 (.mv 38),
 oX 41 (.bO 3 36 38),
 oX 42 (.load true 3 41),
 oX 7 (.alloc [zX,zX,.nil iX]),
 oX 6 (.mv 40),
 uX (.store 3 7 42)])
 (.seq
 (.ae false [
 oX 43 (.ak 1 5),
 oX 44 (.load false 1 43),
 oX 45 (.ak 1 5),
 oX 46 (.load false 1 45),
 oX 47 (.call .aa 65 [44,46]),
 oX 8 (.alloc [zX,zX,.nil iX]),
 uX (.store 3 8 47)])
 (.seq
 (.seq
 (.ae false [
 oX 9 (.mv (kX 0))])
 (.join ⟨[(37,sX),(36,.one (.c (.v (.list mX)))),(5,.one (rX 5)),(4,.one (rX 4)),(3,.one (rX 3)),(2,.one (rX 2)),(38,sX),(8,.one (rX 8)),(6,sX)],[(2,.box [vX,vX,.c (.v (lX)),.c (.v (.list mX)),.c (.v (lX))]),(3,.box [vX,vX,.c (.v (lX)),.c (.v (.list mX)),.c (.v (lX))]),(4,.box [vX,vX,fX 500027 1,fX 500028 3,fX 500029 1]),(5,.box [vX,vX,fX 500030 1,fX 500031 3,fX 500032 1]),(8,.box [vX,vX,fX 500033 1]),(500027,.row true .aa iX),(500028,.row true .aa mX),(500029,.row true .aa iX),(500030,.row true .aa iX),(500031,.row true .aa mX),(500032,.row true .aa iX),(500033,.row true .aa iX)]⟩ [2,3,4,5,7,8,500006,500007,500008,500009,500010,500011,500012,500027,500028,500029,500030,500031,500032,500033] [(true,4,2,500027,.aa,[]),(true,4,3,500028,.aa,[]),(true,4,4,500029,.aa,[]),(true,5,2,500030,.aa,[]),(true,5,3,500031,.aa,[]),(true,5,4,500032,.aa,[]),(true,8,2,500033,.aa,[])]
 (.block 2
 (.loop 0 ⟨[(2,.one (rX 2)),(3,.one (rX 3)),(4,.one (rX 4)),(5,.one (rX 5)),(6,sX),(7,.one (rX 7)),(8,.one (rX 8)),(9,sX),(36,.one (.c (.v (.list mX)))),(37,sX),(38,sX)],[(2,.box [vX,vX,.c (.v (lX)),.c (.v (.list mX)),.c (.v (lX))]),(3,.box [vX,vX,.c (.v (lX)),.c (.v (.list mX)),.c (.v (lX))]),(4,.box [vX,vX,fX 500006 1,fX 500007 3,fX 500008 1]),(5,.box [vX,vX,fX 500009 1,fX 500010 3,fX 500011 1]),(7,.box [vX,vX,.c (.v (lX))]),(8,.box [vX,vX,fX 500012 1]),(500006,.row true .aa iX),(500007,.row true .aa mX),(500008,.row true .aa iX),(500009,.row true .aa iX),(500010,.row true .aa mX),(500011,.row true .aa iX),(500012,.row true .aa iX)]⟩ [2,3,4,5,7,48000,8,500000,500001,500002,500003,500004,500005,500006,500007,500008,500009,500010,500011,500012,500020,500021,500022,500023,500024,500025,500026] [(true,4,2,500006,.aa,[]),(true,4,3,500007,.aa,[]),(true,4,4,500008,.aa,[]),(true,5,2,500009,.aa,[]),(true,5,3,500010,.aa,[]),(true,5,4,500011,.aa,[]),(true,8,2,500012,.aa,[])]
 (.seq
 (.seq
 (.ae false [
 oX 48 (.mv 9),
 oX 49 (.ak 1 2),
 oX 50 (.load false 1 49),
 oX 51 (.bin .lss 48 50)])
 (.cond 51
 .skip
 (.exit 2)))
 (.seq
 (.join ⟨[(9,sX),(2,.one (rX 2)),(3,.one (rX 3)),(4,.one (rX 4)),(5,.one (rX 5)),(6,sX),(7,.one (rX 7)),(8,.one (rX 8)),(36,.one (.c (.v (.list mX)))),(37,sX),(38,sX)],[(2,.box [vX,vX,.c (.v (lX)),.c (.v (.list mX)),.c (.v (lX))]),(3,.box [vX,vX,.c (.v (lX)),.c (.v (.list mX)),.c (.v (lX))]),(4,.box [vX,vX,fX 500020 1,fX 500021 3,fX 500022 1]),(5,.box [vX,vX,fX 500023 1,fX 500024 3,fX 500025 1]),(7,.box [vX,vX,.c (.v (lX))]),(8,.box [vX,vX,fX 500026 1]),(500020,.row true .aa iX),(500021,.row true .aa mX),(500022,.row true .aa iX),(500023,.row true .aa iX),(500024,.row true .aa mX),(500025,.row true .aa iX),(500026,.row true .aa iX)]⟩ [2,3,4,5,7,8,500013,500014,500015,500016,500017,500018,500019,500020,500021,500022,500023,500024,500025,500026] [(true,4,2,500020,.aa,[]),(true,4,3,500021,.aa,[]),(true,4,4,500022,.aa,[]),(true,5,2,500023,.aa,[]),(true,5,3,500024,.aa,[]),(true,5,4,500025,.aa,[]),(true,8,2,500026,.aa,[])]
 (.block 3
 (.seq
 (.ae false [
 oX 10 (.mv (kX 0))])
 (.block 4
 (.loop 0 ⟨[(2,.one (rX 2)),(3,.one (rX 3)),(4,.one (rX 4)),(5,.one (rX 5)),(6,sX),(7,.one (rX 7)),(8,.one (rX 8)),(9,sX),(10,sX),(36,.one (.c (.v (.list mX)))),(37,sX),(38,sX)],[(2,.box [vX,vX,.c (.v (lX)),.c (.v (.list mX)),.c (.v (lX))]),(3,.box [vX,vX,.c (.v (lX)),.c (.v (.list mX)),.c (.v (lX))]),(4,.box [vX,vX,fX 500013 1,fX 500014 3,fX 500015 1]),(5,.box [vX,vX,fX 500016 1,fX 500017 3,fX 500018 1]),(7,.box [vX,vX,.c (.v (lX))]),(8,.box [vX,vX,fX 500019 1]),(500013,.row true .aa iX),(500014,.row true .aa mX),(500015,.row true .aa iX),(500016,.row true .aa iX),(500017,.row true .aa mX),(500018,.row true .aa iX),(500019,.row true .aa iX)]⟩ [2,3,4,5,7,8,500006,500007,500008,500009,500010,500011,500012,500013,500014,500015,500016,500017,500018,500019] [(true,4,2,500013,.aa,[]),(true,4,3,500014,.aa,[]),(true,4,4,500015,.aa,[]),(true,5,2,500016,.aa,[]),(true,5,3,500017,.aa,[]),(true,5,4,500018,.aa,[]),(true,8,2,500019,.aa,[])]
 (.seq
 (.seq
 (.ae false [
 oX 54 (.mv 10),
 oX 55 (.ak 1 2),
 oX 56 (.load false 1 55),
 oX 57 (.bin .lss 54 56)])
 (.cond 57
 .skip
 (.exit 4)))
 (.seq
 (.block 5
 (.ae true [
 oX 60 (.load true 3 8),
 oX 61 (.mv 9),
 oX 62 (.mv 10),
 oX 63 (.load true 3 7),
 oX 64 (.mv 9),
 oX 65 (.mv 10),
 oX 66 (.call .aa 67 [63,64,65]),
 oX 67 (.eQ .aa 66 [60,61,62,66])]))
 (.ae false [
 oX 58 (.mv 10),
 oX 59 (.bin .add 58 (kX 1)),
 oX 10 (.mv 59)]))))))))
 (.ae false [
 oX 52 (.mv 9),
 oX 53 (.bin .add 52 (kX 1)),
 oX 9 (.mv 53)])))))))
 (.seq
 (.seq
 (.ae false [
 oX 11 (.mv (kX 0))])
 (.join ⟨[(8,.one (rX 8)),(38,sX),(2,.one (rX 2)),(3,.one (rX 3)),(4,.one (rX 4)),(5,.one (rX 5)),(36,.one (.c (.v (.list mX)))),(37,sX)],[(2,.box [vX,vX,.c (.v (lX)),.c (.v (.list mX)),.c (.v (lX))]),(3,.box [vX,vX,.c (.v (lX)),.c (.v (.list mX)),.c (.v (lX))]),(4,.box [vX,vX,fX 500055 1,fX 500056 3,fX 500057 1]),(5,.box [vX,vX,fX 500058 1,fX 500059 3,fX 500060 1]),(8,.box [vX,vX,fX 500061 1]),(500055,.row true .aa iX),(500056,.row true .aa mX),(500057,.row true .aa iX),(500058,.row true .aa iX),(500059,.row true .aa mX),(500060,.row true .aa iX),(500061,.row true .aa iX)]⟩ [2,3,4,5,8,500034,500035,500036,500037,500038,500039,500040,500055,500056,500057,500058,500059,500060,500061] [(true,4,2,500055,.aa,[]),(true,4,3,500056,.aa,[]),(true,4,4,500057,.aa,[]),(true,5,2,500058,.aa,[]),(true,5,3,500059,.aa,[]),(true,5,4,500060,.aa,[]),(true,8,2,500061,.aa,[])]
 (.block 6
 (.loop 0 ⟨[(2,.one (rX 2)),(3,.one (rX 3)),(4,.one (rX 4)),(5,.one (rX 5)),(6,sX),(8,.one (rX 8)),(11,sX),(36,.one (.c (.v (.list mX)))),(37,sX),(38,sX)],[(2,.box [vX,vX,.c (.v (lX)),.c (.v (.list mX)),.c (.v (lX))]),(3,.box [vX,vX,.c (.v (lX)),.c (.v (.list mX)),.c (.v (lX))]),(4,.box [vX,vX,fX 500034 1,fX 500035 3,fX 500036 1]),(5,.box [vX,vX,fX 500037 1,fX 500038 3,fX 500039 1]),(8,.box [vX,vX,fX 500040 1]),(500034,.row true .aa iX),(500035,.row true .aa mX),(500036,.row true .aa iX),(500037,.row true .aa iX),(500038,.row true .aa mX),(500039,.row true .aa iX),(500040,.row true .aa iX)]⟩ [2,3,4,5,8,500027,500028,500029,500030,500031,500032,500033,500034,500035,500036,500037,500038,500039,500040,500048,500049,500050,500051,500052,500053,500054] [(true,4,2,500034,.aa,[]),(true,4,3,500035,.aa,[]),(true,4,4,500036,.aa,[]),(true,5,2,500037,.aa,[]),(true,5,3,500038,.aa,[]),(true,5,4,500039,.aa,[]),(true,8,2,500040,.aa,[])]
 (.seq
 (.seq
 (.ae false [
 oX 68 (.mv 11),
 oX 69 (.ak 1 3),
 oX 70 (.load false 1 69),
 oX 71 (.bin .lss 68 70)])
 (.cond 71
 .skip
 (.exit 6)))
 (.seq
 (.join ⟨[(11,sX),(2,.one (rX 2)),(3,.one (rX 3)),(4,.one (rX 4)),(5,.one (rX 5)),(6,sX),(8,.one (rX 8)),(36,.one (.c (.v (.list mX)))),(37,sX),(38,sX)],[(2,.box [vX,vX,.c (.v (lX)),.c (.v (.list mX)),.c (.v (lX))]),(3,.box [vX,vX,.c (.v (lX)),.c (.v (.list mX)),.c (.v (lX))]),(4,.box [vX,vX,fX 500048 1,fX 500049 3,fX 500050 1]),(5,.box [vX,vX,fX 500051 1,fX 500052 3,fX 500053 1]),(8,.box [vX,vX,fX 500054 1]),(500048,.row true .aa iX),(500049,.row true .aa mX),(500050,.row true .aa iX),(500051,.row true .aa iX),(500052,.row true .aa mX),(500053,.row true .aa iX),(500054,.row true .aa iX)]⟩ [2,3,4,5,8,500041,500042,500043,500044,500045,500046,500047,500048,500049,500050,500051,500052,500053,500054] [(true,4,2,500048,.aa,[]),(true,4,3,500049,.aa,[]),(true,4,4,500050,.aa,[]),(true,5,2,500051,.aa,[]),(true,5,3,500052,.aa,[]),(true,5,4,500053,.aa,[]),(true,8,2,500054,.aa,[])]
 (.block 7
 (.seq
 (.ae false [
 oX 12 (.mv (kX 0))])
 (.block 8
 (.loop 0 ⟨[(2,.one (rX 2)),(3,.one (rX 3)),(4,.one (rX 4)),(5,.one (rX 5)),(6,sX),(8,.one (rX 8)),(11,sX),(12,sX),(36,.one (.c (.v (.list mX)))),(37,sX),(38,sX)],[(2,.box [vX,vX,.c (.v (lX)),.c (.v (.list mX)),.c (.v (lX))]),(3,.box [vX,vX,.c (.v (lX)),.c (.v (.list mX)),.c (.v (lX))]),(4,.box [vX,vX,fX 500041 1,fX 500042 3,fX 500043 1]),(5,.box [vX,vX,fX 500044 1,fX 500045 3,fX 500046 1]),(8,.box [vX,vX,fX 500047 1]),(500041,.row true .aa iX),(500042,.row true .aa mX),(500043,.row true .aa iX),(500044,.row true .aa iX),(500045,.row true .aa mX),(500046,.row true .aa iX),(500047,.row true .aa iX)]⟩ [2,3,4,5,8,500034,500035,500036,500037,500038,500039,500040,500041,500042,500043,500044,500045,500046,500047] [(true,4,2,500041,.aa,[]),(true,4,3,500042,.aa,[]),(true,4,4,500043,.aa,[]),(true,5,2,500044,.aa,[]),(true,5,3,500045,.aa,[]),(true,5,4,500046,.aa,[]),(true,8,2,500047,.aa,[])]
 (.seq
 (.seq
 (.ae false [
 oX 74 (.mv 12),
 oX 75 (.ak 1 3),
 oX 76 (.load false 1 75),
 oX 77 (.bin .lss 74 76)])
 (.cond 77
 .skip
 (.exit 8)))
 (.seq
 (.block 9
 (.ae true [
 oX 80 (.load true 3 8),
 oX 81 (.ak 1 2),
 oX 82 (.load false 1 81),
 oX 83 (.mv 11),
 oX 84 (.bin .add 82 83),
 oX 85 (.ak 1 2),
 oX 86 (.load false 1 85),
 oX 87 (.mv 12),
 oX 88 (.bin .add 86 87),
 oX 89 (.ak 3 3),
 oX 90 (.load false 1 89),
 oX 91 (.mv 6),
 oX 92 (.bO 3 90 91),
 oX 93 (.load true 3 92),
 oX 94 (.mv 11),
 oX 95 (.mv 12),
 oX 96 (.call .aa 67 [93,94,95]),
 oX 97 (.eQ .aa 66 [80,84,88,96])]))
 (.ae false [
 oX 78 (.mv 12),
 oX 79 (.bin .add 78 (kX 1)),
 oX 12 (.mv 79)]))))))))
 (.ae false [
 oX 72 (.mv 11),
 oX 73 (.bin .add 72 (kX 1)),
 oX 11 (.mv 73)])))))))
 (.ae false [
 oX 98 (.ak 3 5),
 oX 99 (.load false 1 98),
 oX 100 (.load true 3 8),
 oX 101 (.dT mX [100]),
 oX 102 (.append false mX 40 99 101),
 oX 103 (.ak 3 5),
 uX (.store 1 103 102)])))))))
 (.ae false [
 oX 104 (.bin .add 38 (kX 1)),
 oX 38 (.mv 104)]))))))))
 (.seq
 (.ae false [
 oX 105 (.load true 5 5),
 uX (.store 5 4 105)])
 .ret))))))
def P9:List bx:=[.cell 4 5 true]
theorem akN (NN:Nat) (x:aQ (ao.aP FY)):cW NN [qD,xM,qB,qC] SM P9 FY RE x=Fq NN x:=by kernel_rfl
theorem ahP:bU pX 41 SM.er P9 2=true:=by decide+kernel
theorem al1:cJ pX 41 Mz.M/\bD pX 41=true:=
  c9 (T:=[qD,xM,qB,qC]) (sc:=SM) (ms:=P9) (args:=FY) (aB:=RE) (az.cons Er<|az.cons Q3<|az.cons Eo<|az.ng Ep<|az.nil) cE ahP xa fun x y h=>(akN aD x).trans (ad7 x y h)
def CT:aG:=⟨70,F0,ajS,RG,uT⟩
def SO:bt:=
 (.seq
 (.ae false [
 oX 4 (.box 3 1),
 oX 5 (.box 3 2),
 oX 6 (.alloc [zX,zX,.nil iX])])
 (.seq
 (.ae false [
 oX 12 (.ak 0 4),
 oX 13 (.load false 1 12),
 oX 14 (.ak 1 5),
 oX 15 (.load false 1 14),
 oX 16 (.call .aa 65 [13,15]),
 oX 7 (.alloc [zX,zX,.nil iX]),
 uX (.store 3 7 16)])
 (.seq
 (.seq
 (.ae false [
 oX 8 (.mv (kX 0))])
 (.join ⟨[(7,.one (rX 7)),(6,.one (rX 6))],[(6,.box [vX,vX,fX 500012 1]),(7,.box [vX,vX,fX 500013 1]),(500012,.row true .aa iX),(500013,.row true .aa iX)]⟩ [4,5,6,7,500000,500001,500012,500013] [(true,6,2,500012,.aa,[]),(true,7,2,500013,.aa,[])]
 (.block 0
 (.loop 0 ⟨[(0,sX),(4,.one (rX 4)),(5,.one (rX 5)),(6,.one (rX 6)),(7,.one (rX 7)),(8,sX)],[(4,.box [vX,vX,.c (.v (lX))]),(5,.box [vX,vX,.c (.v (lX))]),(6,.box [vX,vX,fX 500000 1]),(7,.box [vX,vX,fX 500001 1]),(500000,.row true .aa iX),(500001,.row true .aa iX)]⟩ [4,5,6,17000,7,500000,500001,500010,500011] [(true,6,2,500000,.aa,[]),(true,7,2,500001,.aa,[])]
 (.seq
 (.seq
 (.ae false [
 oX 17 (.mv 8),
 oX 18 (.ak 0 4),
 oX 19 (.load false 1 18),
 oX 20 (.bin .lss 17 19)])
 (.cond 20
 .skip
 (.exit 0)))
 (.seq
 (.join ⟨[(8,sX),(0,sX),(4,.one (rX 4)),(5,.one (rX 5)),(6,.one (rX 6)),(7,.one (rX 7))],[(4,.box [vX,vX,.c (.v (lX))]),(5,.box [vX,vX,.c (.v (lX))]),(6,.box [vX,vX,fX 500010 1]),(7,.box [vX,vX,fX 500011 1]),(500010,.row true .aa iX),(500011,.row true .aa iX)]⟩ [4,5,6,7,500002,500003,500010,500011] [(true,6,2,500010,.aa,[]),(true,7,2,500011,.aa,[])]
 (.block 1
 (.seq
 (.ae false [
 oX 9 (.mv (kX 0))])
 (.block 2
 (.loop 0 ⟨[(0,sX),(4,.one (rX 4)),(5,.one (rX 5)),(6,.one (rX 6)),(7,.one (rX 7)),(8,sX),(9,sX)],[(4,.box [vX,vX,.c (.v (lX))]),(5,.box [vX,vX,.c (.v (lX))]),(6,.box [vX,vX,fX 500002 1]),(7,.box [vX,vX,fX 500003 1]),(500002,.row true .aa iX),(500003,.row true .aa iX)]⟩ [4,5,6,7,500000,500001,500002,500003,500008,500009] [(true,6,2,500002,.aa,[]),(true,7,2,500003,.aa,[])]
 (.seq
 (.seq
 (.ae false [
 oX 23 (.mv 9),
 oX 24 (.ak 1 5),
 oX 25 (.load false 1 24),
 oX 26 (.bin .lss 23 25)])
 (.cond 26
 .skip
 (.exit 2)))
 (.seq
 (.join ⟨[(9,sX),(0,sX),(4,.one (rX 4)),(5,.one (rX 5)),(6,.one (rX 6)),(7,.one (rX 7)),(8,sX)],[(4,.box [vX,vX,.c (.v (lX))]),(5,.box [vX,vX,.c (.v (lX))]),(6,.box [vX,vX,fX 500008 1]),(7,.box [vX,vX,fX 500009 1]),(500008,.row true .aa iX),(500009,.row true .aa iX)]⟩ [4,5,6,7,500006,500007,500008,500009] [(true,6,2,500008,.aa,[]),(true,7,2,500009,.aa,[])]
 (.block 3
 (.seq
 (.ae false [
 oX 10 (.mv (kX 0))])
 (.seq
 (.seq
 (.ae false [
 oX 11 (.mv (kX 0))])
 (.join ⟨[(10,sX),(9,sX),(0,sX),(4,.one (rX 4)),(5,.one (rX 5)),(6,.one (rX 6)),(7,.one (rX 7)),(8,sX)],[(4,.box [vX,vX,.c (.v (lX))]),(5,.box [vX,vX,.c (.v (lX))]),(6,.box [vX,vX,fX 500006 1]),(7,.box [vX,vX,fX 500007 1]),(500006,.row true .aa iX),(500007,.row true .aa iX)]⟩ [4,5,6,7,500004,500005,500006,500007] [(true,6,2,500006,.aa,[]),(true,7,2,500007,.aa,[])]
 (.block 4
 (.loop 0 ⟨[(0,sX),(4,.one (rX 4)),(5,.one (rX 5)),(6,.one (rX 6)),(7,.one (rX 7)),(8,sX),(9,sX),(10,sX),(11,sX)],[(4,.box [vX,vX,.c (.v (lX))]),(5,.box [vX,vX,.c (.v (lX))]),(6,.box [vX,vX,fX 500004 1]),(7,.box [vX,vX,fX 500005 1]),(500004,.row true .aa iX),(500005,.row true .aa iX)]⟩ [4,5,6,7,500002,500003,500004,500005] [(true,6,2,500004,.aa,[]),(true,7,2,500005,.aa,[])]
 (.seq
 (.seq
 (.ae false [
 oX 29 (.mv 11),
 oX 30 (.ak 1 4),
 oX 31 (.load false 1 30),
 oX 32 (.bin .lss 29 31)])
 (.cond 32
 .skip
 (.exit 4)))
 (.seq
 (.block 5
 (.ae true [
 oX 35 (.mv 10),
 oX 36 (.load true 3 4),
 oX 37 (.mv 8),
 oX 38 (.mv 11),
 oX 39 (.call .aa 67 [36,37,38]),
 oX 40 (.load true 3 5),
 oX 41 (.mv 11),
 oX 42 (.mv 9),
 oX 43 (.call .aa 67 [40,41,42]),
 oX 44 (.bin .mul 39 43),
 oX 45 (.bin .add 35 44),
 oX 46 (.mv 0),
 oX 47 (.bin .rem 45 46),
 oX 10 (.mv 47)]))
 (.ae false [
 oX 33 (.mv 11),
 oX 34 (.bin .add 33 (kX 1)),
 oX 11 (.mv 34)])))))))
 (.ae false [
 oX 48 (.load true 3 7),
 oX 49 (.mv 8),
 oX 50 (.mv 9),
 oX 51 (.mv 10),
 oX 52 (.eQ .aa 66 [48,49,50,51])])))))
 (.ae false [
 oX 27 (.mv 9),
 oX 28 (.bin .add 27 (kX 1)),
 oX 9 (.mv 28)]))))))))
 (.ae false [
 oX 21 (.mv 8),
 oX 22 (.bin .add 21 (kX 1)),
 oX 8 (.mv 22)])))))))
 (.seq
 (.ae false [
 oX 53 (.load true 3 7),
 uX (.store 3 6 53)])
 .ret))))
def Qb:List bx:=[.cell 6 3 true]
theorem akP (NN:Nat) (x:aQ (ao.aP F0)):cW NN [xM,qB,qC] SO Qb F0 RG x=Fs NN x:=by kernel_rfl
theorem ahR:bU pX 70 SO.er Qb 3=true:=by decide+kernel
theorem ZX:cJ pX 70 CT.M/\bD pX 70=true:=
  c9 (T:=[xM,qB,qC]) (sc:=SO) (ms:=Qb) (args:=F0) (aB:=RG) (az.cons Q3<|az.cons Eo<|az.ng Ep<|az.nil) cE ahR uT fun x y h=>(akP aD x).trans (ad9 x y h)
def CU:aG:=⟨68,F7,ajX,RN,te⟩
def SU:bt:=
 (.seq
 (.ae false [
 oX 2 (.box 5 0),
 oX 4 (.mv (.k (.one (.nil iX))))])
 (.seq
 (.ae false [
 oX 8 (.ak 2 2),
 oX 9 (.load false 1 8),
 oX 10 (.call .aa 44 [9]),
 oX 11 (.lr 71 false 10),
 oX 5 (.alloc [zX,zX,.nil iX]),
 uX (.store 3 5 11)])
 (.seq
 (.seq
 (.ae false [
 oX 12 (.mv 1),
 oX 13 (.len 12),
 oX 14 (.mv (kX 0))])
 (.join ⟨[(5,.one (rX 5))],[(5,.box [vX,vX,fX 500001 1]),(500001,.row true .aa iX)]⟩ [2,5,500000,500001] [(true,5,2,500001,.aa,[])]
 (.block 0
 (.loop 0 ⟨[(2,.one (rX 2)),(5,.one (rX 5)),(12,.one (.c (.v (lX)))),(13,sX),(14,sX)],[(2,.box [vX,vX,.c (.v (lX)),.c (.v (.list mX)),.c (.v (lX))]),(5,.box [vX,vX,fX 500000 1]),(500000,.row true .aa iX)]⟩ [2,11000,5,27000,500000] [(true,5,2,500000,.aa,[])]
 (.seq
 (.ae false [
 oX 15 (.bin .lss 14 13)])
 (.seq
 (.cond 15
 .skip
 (.exit 0))
 (.seq
 (.block 1
 (.seq
 (.ae false [
 oX 16 (.bO 1 12 14),
 oX 17 (.load false 1 16),
 oX 7 (.mv 17)])
 (.ae true [
 oX 18 (.ak 0 2),
 oX 19 (.load false 1 18),
 oX 20 (.load true 3 5),
 oX 21 (.ak 3 2),
 oX 22 (.load false 1 21),
 oX 23 (.mv 7),
 oX 24 (.bO 3 22 23),
 oX 25 (.load true 3 24),
 oX 26 (.call .aa 70 [19,20,25]),
 uX (.store 3 5 26)])))
 (.ae false [
 oX 27 (.bin .add 14 (kX 1)),
 oX 14 (.mv 27)]))))))))
 (.seq
 (.ae false [
 oX 28 (.ak 2 5),
 oX 29 (.load false 1 28),
 oX 4 (.mv 29)])
 .ret))))
def Qg:List bx:=[.tmp 4]
theorem akU (NN:Nat) (x:aQ (ao.aP F7)):cW NN [qD,CT] SU Qg F7 RN x=Fv NN x:=by kernel_rfl
theorem ahW:bU pX 68 SU.er Qg 2=true:=by decide+kernel
theorem ZY:cJ pX 68 CU.M/\bD pX 68=true:=
  c9 (T:=[qD,CT]) (sc:=SU) (ms:=Qg) (args:=F7) (aB:=RN) (az.cons Er<|az.cons ZX<|az.nil) cE ahW te fun x y h=>(akU aD x).trans (aee x y h)
def My:aG:=⟨90,FV,ajN,Rz,zi⟩
def SJ:bt:=
 (.seq
 (.ae false [
 oX 1 (.box 3 0),
 oX 2 (.alloc [zX,zX,.nil iX])])
 (.seq
 (.ae true [
 oX 3 (.ak 0 1),
 oX 4 (.load false 1 3),
 oX 5 (.ak 1 1),
 oX 6 (.load false 1 5),
 oX 7 (.ak 2 1),
 oX 8 (.load false 1 7),
 oX 9 (.call .aa 44 [8]),
 oX 10 (.build [zX,zX,.nil iX] [(0,1,4),(1,1,6),(2,1,9)]),
 uX (.store 3 2 10)])
 .ret))
def P6:List bx:=[.cell 2 3 true]
theorem akK (NN:Nat) (x:aQ (ao.aP FV)):cW NN [qD] SJ P6 FV Rz x=KV NN x:=by kernel_rfl
theorem ahM:bU pX 90 SJ.er P6 1=true:=by decide+kernel
theorem al0:cJ pX 90 My.M/\bD pX 90=true:=
  c9 (T:=[qD]) (sc:=SJ) (ms:=P6) (args:=FV) (aB:=Rz) (az.cons Er<|az.nil) cE ahM zi fun x y h=>(akK aD x).trans (ad4 x y h)
def Mx:aG:=⟨91,FT,JE,Rw,zh⟩
def SH:bt:=
 (.seq
 (.ae false [
 oX 3 (.box 3 0)])
 (.seq
 (.ae false [
 oX 6 (.mv (kX 0))])
 (.block 0
 (.loop 0 ⟨[(1,sX),(2,sX),(3,.one (rX 3)),(6,sX)],[(1000000,.row false .aa iX),(3,.box [vX,vX,fX 1000000 1])]⟩ [1000000,3,500000] [(true,3,2,500000,.aa,[])]
 (.seq
 (.seq
 (.ae false [
 oX 9 (.mv 6),
 oX 10 (.ak 1 3),
 oX 11 (.load false 1 10),
 oX 12 (.bin .lss 9 11)])
 (.cond 12
 .skip
 (.exit 0)))
 (.seq
 (.block 1
 (.seq
 (.ae true [
 oX 15 (.load true 3 3),
 oX 16 (.mv 1),
 oX 17 (.mv 6),
 oX 18 (.call .aa 67 [15,16,17]),
 oX 19 (.load true 3 3),
 oX 20 (.mv 2),
 oX 21 (.mv 6),
 oX 22 (.call .aa 67 [19,20,21]),
 oX 7 (.mv 18),
 oX 8 (.mv 22)])
 (.seq
 (.ae false [
 oX 23 (.load true 3 3),
 oX 24 (.mv 1),
 oX 25 (.mv 6),
 oX 26 (.mv 8),
 oX 27 (.eQ .aa 66 [23,24,25,26])])
 (.ae false [
 oX 28 (.load true 3 3),
 oX 29 (.mv 2),
 oX 30 (.mv 6),
 oX 31 (.mv 7),
 oX 32 (.eQ .aa 66 [28,29,30,31])]))))
 (.ae false [
 oX 13 (.mv 6),
 oX 14 (.bin .add 13 (kX 1)),
 oX 6 (.mv 14)])))))))
def P4:List bx:=[]
theorem akI (NN:Nat) (x:aQ (ao.aP FT)):sZ NN [qB,qC] SH P4 FT JE Rw x=Fp NN x:=by kernel_rfl
theorem ahK:bU pX 91 SH.er P4 3=true:=by decide+kernel
theorem alZ:n4 pX 91 JE Mx.MM/\bD pX 91=true:=
  wA (T:=[qB,qC]) (sc:=SH) (ms:=P4) (args:=FT) (mu:=JE) (aB:=Rw) (az.cons Eo<|az.ng Ep<|az.nil) cE ahK zh fun x y h=>(akI aD x).trans (ad2 x y h)
def MA:aG:=⟨92,FZ,ajR,RF,zj⟩
def SN:bt:=
 (.seq
 (.ae false [
 oX 4 (.mv (kX 0))])
 (.seq
 (.ae false [
 oX 5 (.mv (kX 1))])
 (.seq
 (.seq
 (.ae false [
 oX 7 (.mv 0),
 oX 8 (.bin .sub 7 (kX 2)),
 oX 6 (.mv 8)])
 (.join ⟨[(5,sX)],[]⟩ [] []
 (.block 0
 (.loop 0 ⟨[(0,sX),(1,sX),(5,sX),(6,sX)],[]⟩ [] []
 (.seq
 (.seq
 (.ae false [
 oX 9 (.mv 6),
 oX 10 (.bin .gtr 9 (kX 0))])
 (.cond 10
 .skip
 (.exit 0)))
 (.seq
 (.block 1
 (.seq
 (.seq
 (.ae false [
 oX 13 (.mv 6),
 oX 14 (.bin .and 13 (kX 1)),
 oX 15 (.bin .eql 14 (kX 1))])
 (.join ⟨[(1,sX),(6,sX),(0,sX),(5,sX)],[]⟩ [] []
 (.cond 15
 (.ae false [
 oX 16 (.mv 5),
 oX 17 (.mv 1),
 oX 18 (.bin .mul 16 17),
 oX 19 (.mv 0),
 oX 20 (.bin .rem 18 19),
 oX 5 (.mv 20)])
 .skip)))
 (.ae false [
 oX 21 (.mv 1),
 oX 22 (.mv 1),
 oX 23 (.bin .mul 21 22),
 oX 24 (.mv 0),
 oX 25 (.bin .rem 23 24),
 oX 1 (.mv 25)])))
 (.ae false [
 oX 11 (.mv 6),
 oX 12 (.bin .shr 11 (.k (.one (.v (.int .u64) ((1:Int)))))),
 oX 6 (.mv 12)])))))))
 (.seq
 (.ae false [
 oX 26 (.mv 5),
 oX 4 (.mv 26)])
 .ret))))
def Qa:List bx:=[.tmp 4]
theorem akO (NN:Nat) (x:aQ (ao.aP FZ)):cW NN [] SN Qa FZ RF x=KX NN x:=by kernel_rfl
theorem ahQ:bU pX 92 SN.er Qa 2=true:=by decide+kernel
theorem al2:cJ pX 92 MA.M/\bD pX 92=true:=
  c9 (T:=[]) (sc:=SN) (ms:=Qa) (args:=FZ) (aB:=RF) (az.nil) cE ahQ zj fun x y h=>(akO aD x).trans (ad8 x y h)
def Mw:aG:=⟨93,FO,JC,Rt,w9⟩
def SE:bt:=
 (.seq
 (.ae false [
 oX 5 (.box 3 0)])
 (.seq
 (.ae false [
 oX 10 (.mv (kX 0))])
 (.block 0
 (.loop 0 ⟨[(1,sX),(2,sX),(3,sX),(4,sX),(5,.one (rX 5)),(10,sX)],[(1000000,.row false .aa iX),(5,.box [vX,vX,fX 1000000 1])]⟩ [1000000,5,500000] [(true,5,2,500000,.aa,[])]
 (.seq
 (.seq
 (.ae false [
 oX 11 (.mv 10),
 oX 12 (.ak 1 5),
 oX 13 (.load false 1 12),
 oX 14 (.bin .lss 11 13)])
 (.cond 14
 .skip
 (.exit 0)))
 (.seq
 (.block 1
 (.ae true [
 oX 17 (.load true 3 5),
 oX 18 (.mv 2),
 oX 19 (.mv 10),
 oX 20 (.load true 3 5),
 oX 21 (.mv 2),
 oX 22 (.mv 10),
 oX 23 (.call .aa 67 [20,21,22]),
 oX 24 (.mv 4),
 oX 25 (.load true 3 5),
 oX 26 (.mv 3),
 oX 27 (.mv 10),
 oX 28 (.call .aa 67 [25,26,27]),
 oX 29 (.bin .mul 24 28),
 oX 30 (.bin .add 23 29),
 oX 31 (.mv 1),
 oX 32 (.bin .rem 30 31),
 oX 33 (.eQ .aa 66 [17,18,19,32])]))
 (.ae false [
 oX 15 (.mv 10),
 oX 16 (.bin .add 15 (kX 1)),
 oX 10 (.mv 16)])))))))
def P1:List bx:=[]
theorem akF (NN:Nat) (x:aQ (ao.aP FO)):sZ NN [qB,qC] SE P1 FO JC Rt x=Fl NN x:=by kernel_rfl
theorem ahH:bU pX 93 SE.er P1 5=true:=by decide+kernel
theorem alY:n4 pX 93 JC Mw.MM/\bD pX 93=true:=
  wA (T:=[qB,qC]) (sc:=SE) (ms:=P1) (args:=FO) (mu:=JC) (aB:=Rt) (az.cons Eo<|az.ng Ep<|az.nil) cE ahH w9 fun x y h=>(akF aD x).trans (adZ x y h)
def MC:aG:=⟨69,F4,ajU,RJ,zl⟩
def SQ:bt:=
 (.seq
 (.ae false [
 oX 3 (.box 3 1),
 oX 4 (.alloc [zX,zX,.nil iX]),
 oX 5 (.mv (.k (.one (.nil iX))))])
 (.seq
 (.ae false [
 oX 14 (.load true 3 3),
 oX 15 (.call .aa 90 [14]),
 oX 6 (.alloc [zX,zX,.nil iX]),
 uX (.store 3 6 15)])
 (.seq
 (.ae false [
 oX 7 (.mv (.k (.one (.nil iX))))])
 (.seq
 (.seq
 (.ae false [
 oX 8 (.mv (kX 0))])
 (.join ⟨[(6,.one (rX 6)),(7,.one (fX 500026 1)),(4,.one (rX 4))],[(4,.box [vX,vX,fX 500024 1]),(6,.box [vX,vX,fX 500025 1]),(500024,.row true .aa iX),(500025,.row true .aa iX),(500026,.row true .aa iX)]⟩ [4,6,500000,500001,500002,500024,500025,500026] [(true,4,2,500024,.aa,[]),(true,6,2,500025,.aa,[]),(false,7,0,500026,.aa,[])]
 (.block 0
 (.loop 0 ⟨[(0,sX),(4,.one (rX 4)),(6,.one (rX 6)),(7,.one (fX 500002 1)),(8,sX)],[(4,.box [vX,vX,fX 500000 1]),(6,.box [vX,vX,fX 500001 1]),(500000,.row true .aa iX),(500001,.row true .aa iX),(500002,.row true .aa iX)]⟩ [3,4,16000,6,500000,500001,500002,500021,500022,500023] [(true,4,2,500000,.aa,[]),(true,6,2,500001,.aa,[]),(false,7,0,500002,.aa,[])]
 (.seq
 (.seq
 (.ae false [
 oX 16 (.mv 8),
 oX 17 (.ak 1 6),
 oX 18 (.load false 1 17),
 oX 19 (.bin .lss 16 18)])
 (.cond 19
 .skip
 (.exit 0)))
 (.seq
 (.join ⟨[(8,sX),(0,sX),(4,.one (rX 4)),(6,.one (rX 6)),(7,.one (fX 500023 1))],[(4,.box [vX,vX,fX 500021 1]),(6,.box [vX,vX,fX 500022 1]),(500021,.row true .aa iX),(500022,.row true .aa iX),(500023,.row true .aa iX)]⟩ [4,6,99,100,500006,500007,500008,500018,500019,500021,500022,500023] [(true,4,2,500021,.aa,[]),(true,6,2,500022,.aa,[]),(false,7,0,500023,.aa,[])]
 (.block 1
 (.seq
 (.ae false [
 oX 22 (.mv 7),
 oX 23 (.len 22),
 oX 9 (.mv 23)])
 (.seq
 (.ae false [
 oX 24 (.mv 9),
 oX 10 (.mv 24)])
 (.seq
 (.join ⟨[(10,sX),(9,sX),(7,.one (fX 500008 1)),(8,sX),(0,sX),(4,.one (rX 4)),(6,.one (rX 6))],[(4,.box [vX,vX,fX 500006 1]),(6,.box [vX,vX,fX 500007 1]),(500006,.row true .aa iX),(500007,.row true .aa iX),(500008,.row true .aa iX)]⟩ [4,6,500003,500004,500005,500006,500007,500008] [(true,4,2,500006,.aa,[]),(true,6,2,500007,.aa,[]),(false,7,0,500008,.aa,[])]
 (.block 2
 (.loop 0 ⟨[(0,sX),(4,.one (rX 4)),(6,.one (rX 6)),(7,.one (fX 500005 1)),(8,sX),(9,sX),(10,sX)],[(4,.box [vX,vX,fX 500003 1]),(6,.box [vX,vX,fX 500004 1]),(500003,.row true .aa iX),(500004,.row true .aa iX),(500005,.row true .aa iX)]⟩ [4,6,500000,500001,500002,500003,500004,500005] [(true,4,2,500003,.aa,[]),(true,6,2,500004,.aa,[]),(false,7,0,500005,.aa,[])]
 (.seq
 (.seq
 (.ae false [
 oX 25 (.mv 10),
 oX 26 (.ak 0 6),
 oX 27 (.load false 1 26),
 oX 28 (.bin .lss 25 27),
 oX 29 (.mv 28),
 ⟨(some 30),.load true 3 6,(some (29,true))⟩,
 ⟨(some 31),.mv 10,(some (29,true))⟩,
 ⟨(some 32),.mv 8,(some (29,true))⟩,
 ⟨(some 33),.call .aa 67 [30,31,32],(some (29,true))⟩,
 ⟨(some 34),.bin .eql 33 (kX 0),(some (29,true))⟩,
 oX 35 (.pick 29 34 (.k (.one (.v (.bool) (false)))))])
 (.cond 35
 .skip
 (.exit 2)))
 (.block 3
 (.ae false [
 oX 36 (.mv 10),
 oX 37 (.bin .add 36 (kX 1)),
 oX 10 (.mv 37)]))))))
 (.seq
 (.seq
 (.ae false [
 oX 38 (.mv 10),
 oX 39 (.ak 0 6),
 oX 40 (.load false 1 39),
 oX 41 (.bin .eql 38 40)])
 (.cond 41
 (.exit 1)
 .skip))
 (.seq
 (.ae false [
 oX 42 (.load true 3 6),
 oX 43 (.mv 9),
 oX 44 (.mv 10),
 oX 45 (.eQ .aa 91 [42,43,44])])
 (.seq
 (.ae false [
 oX 46 (.mv 0),
 oX 47 (.load true 3 6),
 oX 48 (.mv 9),
 oX 49 (.mv 8),
 oX 50 (.call .aa 67 [47,48,49]),
 oX 51 (.call .aa 92 [46,50]),
 oX 11 (.mv 51)])
 (.seq
 (.seq
 (.ae false [
 oX 12 (.mv (kX 0))])
 (.join ⟨[(6,.one (rX 6)),(4,.one (rX 4)),(0,sX),(8,sX),(7,.one (fX 500014 1)),(9,sX)],[(4,.box [vX,vX,fX 500012 1]),(6,.box [vX,vX,fX 500013 1]),(500012,.row true .aa iX),(500013,.row true .aa iX),(500014,.row true .aa iX)]⟩ [4,6,500009,500010,500011,500012,500013,500014] [(true,4,2,500012,.aa,[]),(true,6,2,500013,.aa,[]),(false,7,0,500014,.aa,[])]
 (.block 4
 (.loop 0 ⟨[(0,sX),(4,.one (rX 4)),(6,.one (rX 6)),(7,.one (fX 500011 1)),(8,sX),(9,sX),(11,sX),(12,sX)],[(4,.box [vX,vX,fX 500009 1]),(6,.box [vX,vX,fX 500010 1]),(500009,.row true .aa iX),(500010,.row true .aa iX),(500011,.row true .aa iX)]⟩ [4,6,500006,500007,500008,500009,500010,500011] [(true,4,2,500009,.aa,[]),(true,6,2,500010,.aa,[]),(false,7,0,500011,.aa,[])]
 (.seq
 (.seq
 (.ae false [
 oX 52 (.mv 12),
 oX 53 (.ak 1 6),
 oX 54 (.load false 1 53),
 oX 55 (.bin .lss 52 54)])
 (.cond 55
 .skip
 (.exit 4)))
 (.seq
 (.block 5
 (.ae true [
 oX 58 (.load true 3 6),
 oX 59 (.mv 9),
 oX 60 (.mv 12),
 oX 61 (.load true 3 6),
 oX 62 (.mv 9),
 oX 63 (.mv 12),
 oX 64 (.call .aa 67 [61,62,63]),
 oX 65 (.mv 11),
 oX 66 (.bin .mul 64 65),
 oX 67 (.mv 0),
 oX 68 (.bin .rem 66 67),
 oX 69 (.eQ .aa 66 [58,59,60,68])]))
 (.ae false [
 oX 56 (.mv 12),
 oX 57 (.bin .add 56 (kX 1)),
 oX 12 (.mv 57)])))))))
 (.seq
 (.seq
 (.ae false [
 oX 13 (.mv (kX 0))])
 (.join ⟨[(7,.one (fX 500020 1)),(8,sX),(0,sX),(4,.one (rX 4)),(6,.one (rX 6))],[(4,.box [vX,vX,fX 500018 1]),(6,.box [vX,vX,fX 500019 1]),(500018,.row true .aa iX),(500019,.row true .aa iX),(500020,.row true .aa iX)]⟩ [4,6,500015,500016,500017,500018,500019,500020] [(true,4,2,500018,.aa,[]),(true,6,2,500019,.aa,[]),(false,7,0,500020,.aa,[])]
 (.block 6
 (.loop 0 ⟨[(0,sX),(4,.one (rX 4)),(6,.one (rX 6)),(7,.one (fX 500017 1)),(8,sX),(9,sX),(13,sX)],[(4,.box [vX,vX,fX 500015 1]),(6,.box [vX,vX,fX 500016 1]),(500015,.row true .aa iX),(500016,.row true .aa iX),(500017,.row true .aa iX)]⟩ [4,6,500012,500013,500014,500015,500016,500017] [(true,4,2,500015,.aa,[]),(true,6,2,500016,.aa,[]),(false,7,0,500017,.aa,[])]
 (.seq
 (.seq
 (.ae false [
 oX 70 (.mv 13),
 oX 71 (.ak 0 6),
 oX 72 (.load false 1 71),
 oX 73 (.bin .lss 70 72)])
 (.cond 73
 .skip
 (.exit 6)))
 (.seq
 (.block 7
 (.seq
 (.ae false [
 oX 76 (.mv 13),
 oX 77 (.mv 9),
 oX 78 (.bin .neq 76 77),
 oX 79 (.mv 78),
 ⟨(some 80),.load true 3 6,(some (79,true))⟩,
 ⟨(some 81),.mv 13,(some (79,true))⟩,
 ⟨(some 82),.mv 8,(some (79,true))⟩,
 ⟨(some 83),.call .aa 67 [80,81,82],(some (79,true))⟩,
 ⟨(some 84),.bin .neq 83 (kX 0),(some (79,true))⟩,
 oX 85 (.pick 79 84 (.k (.one (.v (.bool) (false)))))])
 (.cond 85
 (.ae true [
 oX 86 (.load true 3 6),
 oX 87 (.mv 0),
 oX 88 (.mv 13),
 oX 89 (.mv 9),
 oX 90 (.mv 0),
 oX 91 (.load true 3 6),
 oX 92 (.mv 13),
 oX 93 (.mv 8),
 oX 94 (.call .aa 67 [91,92,93]),
 oX 95 (.bin .sub 90 94),
 oX 96 (.eQ .aa 93 [86,87,88,89,95])])
 .skip)))
 (.ae false [
 oX 74 (.mv 13),
 oX 75 (.bin .add 74 (kX 1)),
 oX 13 (.mv 75)])))))))
 (.ae false [
 oX 97 (.mv 7),
 oX 98 (.mv 8),
 oX 99 (.dT iX [98]),
 oX 100 (.append true iX 8 97 99),
 oX 7 (.mv 100)])))))))))))
 (.ae false [
 oX 20 (.mv 8),
 oX 21 (.bin .add 20 (kX 1)),
 oX 8 (.mv 21)])))))))
 (.seq
 (.ae false [
 oX 101 (.load true 3 6),
 oX 102 (.mv 7),
 uX (.store 3 4 101),
 oX 5 (.mv 102)])
 .ret)))))
def Qd:List bx:=[.cell 4 3 true,.tmp 5]
theorem akR (NN:Nat) (x:aQ (ao.aP F4)):cW NN [My,qB,Mx,MA,qC,Mw] SQ Qd F4 RJ x=Fu NN x:=by kernel_rfl
theorem ahT:bU pX 69 SQ.er Qd 2=true:=by decide+kernel
theorem al4:cJ pX 69 MC.M/\bD pX 69=true:=
  c9 (T:=[My,qB,Mx,MA,qC,Mw]) (sc:=SQ) (ms:=Qd) (args:=F4) (aB:=RJ) (az.cons al0<|az.cons Eo<|az.ng alZ<|az.cons al2<|az.ng Ep<|az.ng alY<|az.nil) cE ahT zl fun x y h=>(akR aD x).trans (aeb x y h)
def MB:aG:=⟨42,F3,ajT,RH,zk⟩
def SP:bt:=
 (.seq
 (.ae false [
 oX 1 (.box 5 0),
 oX 2 (.mv (.k (.one (.nil [lX])))),
 oX 3 (.alloc [zX,zX,.nil iX])])
 (.seq
 (.ae false [
 oX 4 (.mv (.k (.one (.nil [lX]))))])
 (.seq
 (.ae false [
 oX 12 (.ak 1 1),
 oX 13 (.load false 1 12),
 oX 14 (.call .aa 65 [(kX 0),13]),
 oX 5 (.alloc [zX,zX,.nil iX]),
 uX (.store 3 5 14)])
 (.seq
 (.ae false [
 oX 15 (.dT [lX] [(.k (.one (.nil iX)))]),
 oX 6 (.mv 15)])
 (.seq
 (.join ⟨[(4,.one (fX 500010 1)),(5,.one (rX 5)),(3,.one (rX 3))],[(3,.box [vX,vX,fX 500008 1]),(5,.box [vX,vX,fX 500009 1]),(500008,.row true .aa iX),(500009,.row true .aa iX),(500010,.row true .aE [lX])]⟩ [1,3,5,500000,500001,500002,500003,500008,500009,500010] [(true,3,2,500008,.aa,[]),(true,5,2,500009,.aa,[]),(false,4,0,500010,.aE,[])]
 (.block 0
 (.loop 0 ⟨[(1,.one (rX 1)),(3,.one (rX 3)),(4,.one (fX 500002 1)),(5,.one (rX 5)),(6,.one (fX 500003 1))],[(1,.box [vX,vX,.c (.v (lX)),.c (.v (.list mX)),.c (.v (lX))]),(3,.box [vX,vX,fX 500000 1]),(5,.box [vX,vX,fX 500001 1]),(500000,.row true .aa iX),(500001,.row true .aa iX),(500002,.row true .aE [lX]),(500003,.row true .aa [lX])]⟩ [1,3,15000,5,15,23,35000,35,8,42000,42001,9,500000,500001,500002,500003,500004,500005,500006,500007] [(true,3,2,500000,.aa,[]),(true,5,2,500001,.aa,[]),(false,4,0,500002,.aE,[]),(false,6,0,500003,.aa,[])]
 (.seq
 (.seq
 (.ae false [
 oX 16 (.mv 6),
 oX 17 (.len 16),
 oX 18 (.bin .gtr 17 (kX 0))])
 (.cond 18
 .skip
 (.exit 0)))
 (.block 1
 (.seq
 (.ae false [
 oX 19 (.mv 6),
 oX 20 (.bO 1 19 (kX 0)),
 oX 21 (.load false 1 20),
 oX 7 (.mv 21)])
 (.seq
 (.ae false [
 oX 22 (.mv 6),
 oX 23 (.tail 1 22 (kX 1)),
 oX 6 (.mv 23)])
 (.seq
 (.pZ [(0,11),(1,11),(3,11),(4,11),(11,13)] [
 oX 24 (.ak 0 5),
 oX 25 (.load false 1 24),
 oX 26 (.bin .add 25 (kX 1)),
 oX 27 (.ak 1 1),
 oX 28 (.load false 1 27),
 oX 29 (.ak 2 5),
 oX 30 (.load false 1 29),
 oX 31 (.call .aa 44 [30]),
 oX 32 (.load true 5 1),
 oX 33 (.mv 7),
 oX 34 (.call .aa 68 [32,33]),
 oX 35 (.append true iX 8 31 34),
 oX 36 (.build [zX,zX,.nil iX] [(0,1,26),(1,1,28),(2,1,35)]),
 oX 8 (.alloc [zX,zX,.nil iX]),
 uX (.store 3 8 36)])
 (.seq
 (.ae false [
 oX 38 (.ak 0 1),
 oX 39 (.load false 1 38),
 oX 40 (.load true 3 8),
 oX 41 (.call .aa 69 [39,40]),
 oX 37 (.mv 41),
 oX 42 (.ext 0 37),
 oX 43 (.ext 1 37),
 oX 9 (.alloc [zX,zX,.nil iX]),
 uX (.store 3 9 42),
 oX 10 (.mv 43)])
 (.seq
 (.seq
 (.ae false [
 oX 44 (.mv 10),
 oX 45 (.len 44),
 oX 46 (.ak 0 8),
 oX 47 (.load false 1 46),
 oX 48 (.bin .lss 45 47)])
 (.cond 48
 (.exit 1)
 .skip))
 (.seq
 (.ae false [
 oX 49 (.load true 3 8),
 uX (.store 3 5 49)])
 (.seq
 (.ae false [
 oX 50 (.mv 4),
 oX 51 (.mv 7),
 oX 52 (.dT [lX] [51]),
 oX 53 (.append false [lX] 24 50 52),
 oX 4 (.mv 53)])
 (.seq
 (.ae false [
 oX 54 (.ak 3 1),
 oX 55 (.load false 1 54),
 oX 56 (.len 55),
 oX 57 (.mv (kX 0))])
 (.block 2
 (.loop 0 ⟨[(1,.one (rX 1)),(3,.one (rX 3)),(4,.one (fX 500006 1)),(5,.one (rX 5)),(6,.one (fX 500007 1)),(7,.one (.c (.v (lX)))),(56,sX),(57,sX)],[(1,.box [vX,vX,.c (.v (lX)),.c (.v (.list mX)),.c (.v (lX))]),(3,.box [vX,vX,fX 500004 1]),(5,.box [vX,vX,fX 500005 1]),(500004,.row true .aa iX),(500005,.row true .aa iX),(500006,.row true .aE [lX]),(500007,.row true .aa [lX])]⟩ [1,3,5,23,35000,35,8,42000,42001,9,53,64,67,500000,500001,500004,500005,500006,500007] [(true,3,2,500004,.aa,[]),(true,5,2,500005,.aa,[]),(false,4,0,500006,.aE,[]),(false,6,0,500007,.aa,[])]
 (.seq
 (.ae false [
 oX 58 (.bin .lss 57 56)])
 (.seq
 (.cond 58
 .skip
 (.exit 2))
 (.seq
 (.block 3
 (.seq
 (.ae false [
 oX 59 (.mv 57),
 oX 11 (.mv 59)])
 (.ae false [
 oX 60 (.mv 6),
 oX 61 (.mv 7),
 oX 62 (.call .aa 44 [61]),
 oX 63 (.mv 11),
 oX 64 (.dT iX [63]),
 oX 65 (.append true iX 8 62 64),
 oX 66 (.dT [lX] [65]),
 oX 67 (.append false [lX] 24 60 66),
 oX 6 (.mv 67)])))
 (.ae false [
 oX 68 (.bin .add 57 (kX 1)),
 oX 57 (.mv 68)])))))))))))))))))))
 (.seq
 (.ae true [
 oX 69 (.mv 4),
 oX 70 (.load true 3 5),
 oX 2 (.mv 69),
 uX (.store 3 3 70)])
 .ret))))))
def Qc:List bx:=[.tmp 2,.cell 3 3 true]
theorem akQ (NN:Nat) (x:aQ (ao.aP F3)):J4 NN [xM,qD,CU,MC] SP Qc F3 RH x=Ft NN x:=by kernel_rfl
theorem ahS:bU pX 42 SP.er Qc 1=true:=by decide+kernel
theorem al3:xr Go.Proofs.Try.prog 42 MB.MV/\bD pX 42=true:=
  abX (T:=[xM,qD,CU,MC]) (sc:=SP) (ms:=Qc) (args:=F3) (aB:=RH) (az.cons Q3<|az.cons Er<|az.cons ZY<|az.cons al4<|az.nil) cE ahS zk fun x y h=>(akQ aD x).trans (aea x y h)
def MD:aG:=⟨43,F5,ajV,RL,xb⟩
def SR:bt:=
 (.seq
 (.ae false [
 oX 2 (.box 5 0),
 oX 4 (.mv (kX 0))])
 (.seq
 (.ae true [
 oX 5 (.ak 0 2),
 oX 6 (.load false 1 5),
 oX 7 (.load true 5 2),
 oX 8 (.mv 1),
 oX 9 (.call .aa 68 [7,8]),
 oX 10 (.lr 71 false 9),
 oX 11 (.ak 4 2),
 oX 12 (.load false 1 11),
 oX 13 (.lr 72 true 12),
 oX 14 (.call .aa 70 [6,10,13]),
 oX 15 (.mA false 2 1 14),
 oX 16 (.bO 1 15 (kX 0)),
 oX 17 (.load false 1 16),
 oX 4 (.mv 17)])
 .ret))
def Qe:List bx:=[.tmp 4]
theorem akS (NN:Nat) (x:aQ (ao.aP F5)):cW NN [CU,CT] SR Qe F5 RL x=KY NN x:=by kernel_rfl
theorem ahU:bU pX 43 SR.er Qe 2=true:=by decide+kernel
theorem al5:cJ pX 43 MD.M/\bD pX 43=true:=
  c9 (T:=[CU,CT]) (sc:=SR) (ms:=Qe) (args:=F5) (aB:=RL) (az.cons ZY<|az.cons ZX<|az.nil) cE ahU xb fun x y h=>(akS aD x).trans (aec x y h)
def Mu:aG:=⟨11,FL,ajI,Rq,w6⟩
def Sz:bt:=
 (.seq
 (.ae false [
 oX 2 (.box 5 0),
 oX 3 (.box 5 1),
 oX 4 (.mv (.k (.one (.nil iX)))),
 oX 5 (.mv (.k (.one (.v (.bool) (false)))))])
 (.seq
 (.seq
 (.ae false [
 oX 12 (.load true 5 2),
 oX 13 (.load true 5 3),
 oX 14 (.call .aa 40 [12,13]),
 oX 15 (.un .not 14)])
 (.cond 15
 (.seq
 (.ae false [
 oX 4 (.mv (.k (.one (.nil iX)))),
 oX 5 (.mv (.k (.one (.v (.bool) (false)))))])
 .ret)
 .skip))
 (.seq
 (.ae false [
 oX 16 (.load true 5 2),
 oX 17 (.load true 5 3),
 oX 18 (.call .aa 41 [16,17]),
 oX 6 (.alloc [zX,zX,.nil iX,.nil mX,.nil iX]),
 uX (.store 5 6 18)])
 (.seq
 (.seq
 (.ae false [
 oX 19 (.ak 1 2),
 oX 20 (.load false 1 19),
 oX 7 (.mv 20)])
 (.join ⟨[(6,.one (rX 6))],[(6,.box [vX,vX,fX 500003 1,fX 500004 3,fX 500005 1]),(500003,.row true .aa iX),(500004,.row true .aa mX),(500005,.row true .aa iX)]⟩ [2,6,500000,500001,500002,500003,500004,500005] [(true,6,2,500003,.aa,[]),(true,6,3,500004,.aa,[]),(true,6,4,500005,.aa,[])]
 (.block 0
 (.loop 0 ⟨[(2,.one (rX 2)),(6,.one (rX 6)),(7,sX)],[(2,.box [vX,vX,.c (.v (lX)),.c (.v (.list mX)),.c (.v (lX))]),(6,.box [vX,vX,fX 500000 1,fX 500001 3,fX 500002 1]),(500000,.row true .aa iX),(500001,.row true .aa mX),(500002,.row true .aa iX)]⟩ [2,3,19000,19001,19002,6,500000,500001,500002] [(true,6,2,500000,.aa,[]),(true,6,3,500001,.aa,[]),(true,6,4,500002,.aa,[])]
 (.seq
 (.seq
 (.ae false [
 oX 21 (.mv 7),
 oX 22 (.ak 1 6),
 oX 23 (.load false 1 22),
 oX 24 (.bin .lss 21 23)])
 (.cond 24
 .skip
 (.exit 0)))
 (.seq
 (.block 1
 (.ae true [
 oX 27 (.ak 4 6),
 oX 28 (.load false 1 27),
 oX 29 (.mv 7),
 oX 30 (.ak 0 2),
 oX 31 (.load false 1 30),
 oX 32 (.ak 4 6),
 oX 33 (.load false 1 32),
 oX 34 (.mv 7),
 oX 35 (.bO 1 33 34),
 oX 36 (.load false 1 35),
 oX 37 (.bin .sub 31 36),
 oX 38 (.ak 0 2),
 oX 39 (.load false 1 38),
 oX 40 (.bin .rem 37 39),
 oX 41 (.bO 1 28 29),
 uX (.store 1 41 40)]))
 (.ae false [
 oX 25 (.mv 7),
 oX 26 (.bin .add 25 (kX 1)),
 oX 7 (.mv 26)])))))))
 (.seq
 (.ae false [
 oX 43 (.lV true 5 6),
 oX 44 (.iJ 42 [43]),
 oX 42 (.mv 44),
 oX 45 (.ext 0 42),
 oX 46 (.ext 1 42),
 oX 9 (.alloc [zX,zX,.nil iX]),
 oX 8 (.mv 45),
 uX (.store 3 9 46)])
 (.seq
 (.seq
 (.ae false [
 oX 47 (.mv 8),
 oX 48 (.len 47),
 oX 49 (.mv (kX 0))])
 (.join ⟨[],[]⟩ [6] []
 (.block 2
 (.loop 0 ⟨[(6,.one (rX 6)),(47,.one (.c (.v (.list [lX])))),(48,sX),(49,sX)],[(6,.box [vX,vX,.c (.v (lX)),.c (.v (.list mX)),.c (.v (lX))])]⟩ [6,9] []
 (.seq
 (.ae false [
 oX 50 (.bin .lss 49 48)])
 (.seq
 (.cond 50
 .skip
 (.exit 2))
 (.seq
 (.block 3
 (.seq
 (.ae false [
 oX 51 (.bO 1 47 49),
 oX 52 (.load false 1 51),
 oX 11 (.mv 52)])
 (.seq
 (.ae false [
 oX 53 (.load true 5 6),
 oX 54 (.mv 11),
 oX 55 (.call .aa 43 [53,54]),
 oX 56 (.bin .neq 55 (kX 0))])
 (.cond 56
 (.seq
 (.ae false [
 oX 57 (.mv 11),
 oX 58 (.call .aa 44 [57]),
 oX 4 (.mv 58),
 oX 5 (.mv (.k (.one (.v (.bool) (true)))))])
 .ret)
 .skip))))
 (.ae false [
 oX 59 (.bin .add 49 (kX 1)),
 oX 49 (.mv 59)]))))))))
 (.seq
 (.ae false [
 oX 4 (.mv (.k (.one (.nil iX)))),
 oX 5 (.mv (.k (.one (.v (.bool) (false)))))])
 .ret)))))))
def PY:List bx:=[.tmp 4,.tmp 5]
theorem akC (NN:Nat) (x:aQ (ao.aP FL)):cW NN [ME,Mz,MB,MD,qD] Sz PY FL Rq x=Cd NN x:=by kernel_rfl
theorem ahE:bU pX 11 Sz.er PY 2=true:=by decide+kernel
theorem alW:cJ pX 11 Mu.M/\bD pX 11=true:=
  c9 (T:=[ME,Mz,MB,MD,qD]) (sc:=Sz) (ms:=PY) (args:=FL) (aB:=Rq) (az.cons al6<|az.cons al1<|az.VJ al3<|az.cons al5<|az.cons Er<|az.nil) cE ahE w6 fun x y h=>(akC aD x).trans (adW x y h)
def xN:aG:=⟨12,F9,aj0,RQ,mh⟩
def SY:bt:=
 (.seq
 (.ae false [
 oX 4 (.mv (.k (.one (.v (.bool) (false)))))])
 (.seq
 (.seq
 (.ae false [
 oX 6 (.mv 0),
 oX 7 (.len 6),
 oX 8 (.mv 1),
 oX 9 (.len 8),
 oX 10 (.bin .neq 7 9)])
 (.cond 10
 (.seq
 (.ae false [
 oX 4 (.mv (.k (.one (.v (.bool) (false)))))])
 .ret)
 .skip))
 (.seq
 (.seq
 (.ae false [
 oX 5 (.mv (kX 0))])
 (.join ⟨[],[]⟩ [] []
 (.block 0
 (.loop 0 ⟨[(0,.one (.c (.v (lX)))),(1,.one (.c (.v (lX)))),(5,sX)],[]⟩ [] []
 (.seq
 (.seq
 (.ae false [
 oX 11 (.mv 5),
 oX 12 (.mv 0),
 oX 13 (.len 12),
 oX 14 (.bin .lss 11 13)])
 (.cond 14
 .skip
 (.exit 0)))
 (.seq
 (.block 1
 (.seq
 (.ae true [
 oX 17 (.mv 0),
 oX 18 (.mv 5),
 oX 19 (.bO 1 17 18),
 oX 20 (.load false 1 19),
 oX 21 (.mv 1),
 oX 22 (.mv 5),
 oX 23 (.bO 1 21 22),
 oX 24 (.load false 1 23),
 oX 25 (.bin .neq 20 24)])
 (.cond 25
 (.seq
 (.ae false [
 oX 4 (.mv (.k (.one (.v (.bool) (false)))))])
 .ret)
 .skip)))
 (.ae false [
 oX 15 (.mv 5),
 oX 16 (.bin .add 15 (kX 1)),
 oX 5 (.mv 16)])))))))
 (.seq
 (.ae false [
 oX 4 (.mv (.k (.one (.v (.bool) (true)))))])
 .ret))))
def Qj:List bx:=[.tmp 4]
theorem akX (NN:Nat) (x:aQ (ao.aP F9)):cW NN [] SY Qj F9 RQ x=UR NN x:=by kernel_rfl
theorem ahZ:bU pX 12 SY.er Qj 2=true:=by decide+kernel
theorem Q4:cJ pX 12 xN.M/\bD pX 12=true:=
  c9 (T:=[]) (sc:=SY) (ms:=Qj) (args:=F9) (aB:=RQ) (az.nil) cE ahZ mh fun x y h=>(akX aD x).trans (aeh x y h)
def MG:aG:=⟨73,Ga,aj1,RR,zm⟩
def SZ:bt:=
 (.seq
 (.ae false [
 oX 2 (.box 3 0),
 oX 3 (.box 3 1),
 oX 4 (.mv (.k (.one (.v (.bool) (false)))))])
 (.seq
 (.seq
 (.ae false [
 oX 5 (.ak 0 2),
 oX 6 (.load false 1 5),
 oX 7 (.ak 0 3),
 oX 8 (.load false 1 7),
 oX 9 (.bin .neq 6 8)])
 (.cond 9
 (.seq
 (.ae false [
 oX 4 (.mv (.k (.one (.v (.bool) (false)))))])
 .ret)
 .skip))
 (.seq
 (.seq
 (.ae false [
 oX 10 (.ak 1 2),
 oX 11 (.load false 1 10),
 oX 12 (.ak 1 3),
 oX 13 (.load false 1 12),
 oX 14 (.bin .neq 11 13)])
 (.cond 14
 (.seq
 (.ae false [
 oX 4 (.mv (.k (.one (.v (.bool) (false)))))])
 .ret)
 .skip))
 (.seq
 (.seq
 (.ae false [
 oX 15 (.ak 2 2),
 oX 16 (.load false 1 15),
 oX 17 (.ak 2 3),
 oX 18 (.load false 1 17),
 oX 19 (.call .aa 12 [16,18]),
 oX 20 (.un .not 19)])
 (.cond 20
 (.seq
 (.ae false [
 oX 4 (.mv (.k (.one (.v (.bool) (false)))))])
 .ret)
 .skip))
 (.seq
 (.ae false [
 oX 4 (.mv (.k (.one (.v (.bool) (true)))))])
 .ret)))))
def Qk:List bx:=[.tmp 4]
theorem akY (NN:Nat) (x:aQ (ao.aP Ga)):cW NN [xN] SZ Qk Ga RR x=K5 NN x:=by kernel_rfl
theorem ah0:bU pX 73 SZ.er Qk 2=true:=by decide+kernel
theorem al9:cJ pX 73 MG.M/\bD pX 73=true:=
  c9 (T:=[xN]) (sc:=SZ) (ms:=Qk) (args:=Ga) (aB:=RR) (az.cons Q4<|az.nil) cE ah0 zm fun x y h=>(akY aD x).trans (aei x y h)
def MH:aG:=⟨45,Gb,aj2,RS,zn⟩
def S1:bt:=
 (.seq
 (.ae false [
 oX 4 (.mv (.k (.one (.v (.bool) (false)))))])
 (.seq
 (.seq
 (.ae false [
 oX 6 (.mv 0),
 oX 7 (.len 6),
 oX 8 (.mv 1),
 oX 9 (.len 8),
 oX 10 (.bin .neq 7 9)])
 (.cond 10
 (.seq
 (.ae false [
 oX 4 (.mv (.k (.one (.v (.bool) (false)))))])
 .ret)
 .skip))
 (.seq
 (.seq
 (.ae false [
 oX 5 (.mv (kX 0))])
 (.join ⟨[],[]⟩ [] []
 (.block 0
 (.loop 0 ⟨[(0,.one (.c (.v (.list mX)))),(1,.one (.c (.v (.list mX)))),(5,sX)],[]⟩ [] []
 (.seq
 (.seq
 (.ae false [
 oX 11 (.mv 5),
 oX 12 (.mv 0),
 oX 13 (.len 12),
 oX 14 (.bin .lss 11 13)])
 (.cond 14
 .skip
 (.exit 0)))
 (.seq
 (.block 1
 (.seq
 (.ae true [
 oX 17 (.mv 0),
 oX 18 (.mv 5),
 oX 19 (.bO 3 17 18),
 oX 20 (.load true 3 19),
 oX 21 (.mv 1),
 oX 22 (.mv 5),
 oX 23 (.bO 3 21 22),
 oX 24 (.load true 3 23),
 oX 25 (.call .aa 73 [20,24]),
 oX 26 (.un .not 25)])
 (.cond 26
 (.seq
 (.ae false [
 oX 4 (.mv (.k (.one (.v (.bool) (false)))))])
 .ret)
 .skip)))
 (.ae false [
 oX 15 (.mv 5),
 oX 16 (.bin .add 15 (kX 1)),
 oX 5 (.mv 16)])))))))
 (.seq
 (.ae false [
 oX 4 (.mv (.k (.one (.v (.bool) (true)))))])
 .ret))))
def Ql:List bx:=[.tmp 4]
theorem akZ (NN:Nat) (x:aQ (ao.aP Gb)):cW NN [MG] S1 Ql Gb RS x=US NN x:=by kernel_rfl
theorem ah1:bU pX 45 S1.er Ql 2=true:=by decide+kernel
theorem ama:cJ pX 45 MH.M/\bD pX 45=true:=
  c9 (T:=[MG]) (sc:=S1) (ms:=Ql) (args:=Gb) (aB:=RS) (az.cons al9<|az.nil) cE ah1 zn fun x y h=>(akZ aD x).trans (aej x y h)
def MF:aG:=⟨13,F8,ajZ,RP,rA⟩
def SX:bt:=
 (.seq
 (.ae false [
 oX 2 (.box 5 0),
 oX 3 (.box 5 1),
 oX 4 (.mv (.k (.one (.v (.bool) (false)))))])
 (.seq
 (.seq
 (.ae false [
 oX 5 (.ak 0 2),
 oX 6 (.load false 1 5),
 oX 7 (.ak 0 3),
 oX 8 (.load false 1 7),
 oX 9 (.bin .neq 6 8)])
 (.cond 9
 (.seq
 (.ae false [
 oX 4 (.mv (.k (.one (.v (.bool) (false)))))])
 .ret)
 .skip))
 (.seq
 (.seq
 (.ae false [
 oX 10 (.ak 1 2),
 oX 11 (.load false 1 10),
 oX 12 (.ak 1 3),
 oX 13 (.load false 1 12),
 oX 14 (.bin .neq 11 13)])
 (.cond 14
 (.seq
 (.ae false [
 oX 4 (.mv (.k (.one (.v (.bool) (false)))))])
 .ret)
 .skip))
 (.seq
 (.seq
 (.ae false [
 oX 15 (.ak 2 2),
 oX 16 (.load false 1 15),
 oX 17 (.ak 2 3),
 oX 18 (.load false 1 17),
 oX 19 (.call .aa 12 [16,18]),
 oX 20 (.un .not 19)])
 (.cond 20
 (.seq
 (.ae false [
 oX 4 (.mv (.k (.one (.v (.bool) (false)))))])
 .ret)
 .skip))
 (.seq
 (.seq
 (.ae false [
 oX 21 (.ak 3 2),
 oX 22 (.load false 1 21),
 oX 23 (.ak 3 3),
 oX 24 (.load false 1 23),
 oX 25 (.call .aa 45 [22,24]),
 oX 26 (.un .not 25)])
 (.cond 26
 (.seq
 (.ae false [
 oX 4 (.mv (.k (.one (.v (.bool) (false)))))])
 .ret)
 .skip))
 (.seq
 (.seq
 (.ae false [
 oX 27 (.ak 4 2),
 oX 28 (.load false 1 27),
 oX 29 (.ak 4 3),
 oX 30 (.load false 1 29),
 oX 31 (.call .aa 12 [28,30]),
 oX 32 (.un .not 31)])
 (.cond 32
 (.seq
 (.ae false [
 oX 4 (.mv (.k (.one (.v (.bool) (false)))))])
 .ret)
 .skip))
 (.seq
 (.ae false [
 oX 4 (.mv (.k (.one (.v (.bool) (true)))))])
 .ret)))))))
def Qi:List bx:=[.tmp 4]
theorem akW (NN:Nat) (x:aQ (ao.aP F8)):cW NN [xN,MH] SX Qi F8 RP x=K4 NN x:=by kernel_rfl
theorem ahY:bU pX 13 SX.er Qi 2=true:=by decide+kernel
theorem al8:cJ pX 13 MF.M/\bD pX 13=true:=
  c9 (T:=[xN,MH]) (sc:=SX) (ms:=Qi) (args:=F8) (aB:=RP) (az.cons Q4<|az.cons ama<|az.nil) cE ahY rA fun x y h=>(akW aD x).trans (aeg x y h)
def xO:aG:=⟨15,Ge,JG,RW,o9⟩
def S4:bt:=
 (.seq
 (.ae false [
 oX 4 (.mv (kX 0))])
 (.seq
 (.seq
 (.ae false [
 oX 5 (.mv (kX 0))])
 (.join ⟨[(1,sX)],[(1000000,.row false .aa iX)]⟩ [1000000] []
 (.block 0
 (.loop 0 ⟨[(0,.one (fX 1000000 1)),(1,sX),(5,sX)],[(1000000,.row false .aa iX)]⟩ [1000000,500000] [(false,0,0,500000,.aa,[])]
 (.seq
 (.seq
 (.ae false [
 oX 6 (.mv 5),
 oX 7 (.mv 0),
 oX 8 (.len 7),
 oX 9 (.bin .lss 6 8)])
 (.cond 9
 .skip
 (.exit 0)))
 (.seq
 (.block 1
 (.seq
 (.ae false [
 oX 12 (.mv 0),
 oX 13 (.mv 5),
 oX 14 (.mv 1),
 oX 15 (.bO 1 12 13),
 uX (.store 1 15 14)])
 (.ae false [
 oX 16 (.mv 1),
 oX 17 (.bin .add 16 (kX 1)),
 oX 1 (.mv 17)])))
 (.ae false [
 oX 10 (.mv 5),
 oX 11 (.bin .add 10 (kX 1)),
 oX 5 (.mv 11)])))))))
 (.seq
 (.ae false [
 oX 18 (.mv 1),
 oX 4 (.mv 18)])
 .ret)))
def Qo:List bx:=[.tmp 4]
theorem ak2 (NN:Nat) (x:aQ (ao.aP Ge)):sZ NN [] S4 Qo Ge JG RW x=K8 NN x:=by kernel_rfl
theorem ah4:bU pX 15 S4.er Qo 2=true:=by decide+kernel
theorem Q5:n4 pX 15 JG xO.MM/\bD pX 15=true:=
  wA (T:=[]) (sc:=S4) (ms:=Qo) (args:=Ge) (mu:=JG) (aB:=RW) (az.nil) cE ah4 o9 fun x y h=>(ak2 aD x).trans (aem x y h)
def MK:aG:=⟨46,Gf,JH,RX,zo⟩
def S5:bt:=
 (.seq
 (.ae false [
 oX 4 (.mv (kX 0))])
 (.seq
 (.seq
 (.ae false [
 oX 5 (.mv (kX 0))])
 (.join ⟨[(1,sX)],[(1000000,.row false .live mX)]⟩ [1000000] []
 (.block 0
 (.loop 0 ⟨[(0,.one (fX 1000000 3)),(1,sX),(5,sX)],[(1000000,.row false .live mX)]⟩ [1000000,500000] [(false,0,0,500000,.aa,[])]
 (.seq
 (.seq
 (.ae false [
 oX 6 (.mv 5),
 oX 7 (.mv 0),
 oX 8 (.len 7),
 oX 9 (.bin .lss 6 8)])
 (.cond 9
 .skip
 (.exit 0)))
 (.seq
 (.block 1
 (.seq
 (.ae false [
 oX 12 (.mv 0),
 oX 13 (.mv 5),
 oX 14 (.mv 1),
 oX 15 (.bO 3 12 13),
 oX 16 (.ak 0 15),
 uX (.store 1 16 14)])
 (.seq
 (.ae false [
 oX 17 (.mv 1),
 oX 18 (.bin .add 17 (kX 1)),
 oX 1 (.mv 18)])
 (.seq
 (.ae false [
 oX 19 (.mv 0),
 oX 20 (.mv 5),
 oX 21 (.mv 1),
 oX 22 (.bO 3 19 20),
 oX 23 (.ak 1 22),
 uX (.store 1 23 21)])
 (.seq
 (.ae false [
 oX 24 (.mv 1),
 oX 25 (.bin .add 24 (kX 1)),
 oX 1 (.mv 25)])
 (.ae false [
 oX 26 (.mv 0),
 oX 27 (.mv 5),
 oX 28 (.bO 3 26 27),
 oX 29 (.ak 2 28),
 oX 30 (.load false 1 29),
 oX 31 (.mv 1),
 oX 32 (.eQ .aa 15 [30,31]),
 oX 1 (.mv 32)]))))))
 (.ae false [
 oX 10 (.mv 5),
 oX 11 (.bin .add 10 (kX 1)),
 oX 5 (.mv 11)])))))))
 (.seq
 (.ae false [
 oX 33 (.mv 1),
 oX 4 (.mv 33)])
 .ret)))
def Qp:List bx:=[.tmp 4]
theorem ak3 (NN:Nat) (x:aQ (ao.aP Gf)):sZ NN [xO] S5 Qp Gf JH RX x=K9 NN x:=by kernel_rfl
theorem ah5:bU pX 46 S5.er Qp 2=true:=by decide+kernel
theorem amd:n4 pX 46 JH MK.MM/\bD pX 46=true:=
  wA (T:=[xO]) (sc:=S5) (ms:=Qp) (args:=Gf) (mu:=JH) (aB:=RX) (az.ng Q5<|az.nil) cE ah5 zo fun x y h=>(ak3 aD x).trans (aen x y h)
def MJ:aG:=⟨14,Gd,JF,RU,uU⟩
def S3:bt:=
 (.seq
 (.ae false [
 oX 2 (.box 5 0),
 oX 4 (.mv (kX 0))])
 (.seq
 (.ae false [
 oX 5 (.ak 2 2),
 oX 6 (.load false 1 5),
 oX 7 (.mv 1),
 oX 8 (.eQ .live 15 [6,7]),
 oX 1 (.mv 8)])
 (.seq
 (.ae false [
 oX 9 (.ak 3 2),
 oX 10 (.load false 1 9),
 oX 11 (.mv 1),
 oX 12 (.eQ .live 46 [10,11]),
 oX 1 (.mv 12)])
 (.seq
 (.ae false [
 oX 13 (.ak 4 2),
 oX 14 (.load false 1 13),
 oX 15 (.mv 1),
 oX 16 (.eQ .live 15 [14,15]),
 oX 1 (.mv 16)])
 (.seq
 (.ae false [
 oX 17 (.mv 1),
 oX 4 (.mv 17)])
 .ret)))))
def Qn:List bx:=[.tmp 4]
theorem ak1 (NN:Nat) (x:aQ (ao.aP Gd)):sZ NN [xO,MK] S3 Qn Gd JF RU x=K7 NN x:=by kernel_rfl
theorem ah3:bU pX 14 S3.er Qn 2=true:=by decide+kernel
theorem amc:n4 pX 14 JF MJ.MM/\bD pX 14=true:=
  wA (T:=[xO,MK]) (sc:=S3) (ms:=Qn) (args:=Gd) (mu:=JF) (aB:=RU) (az.ng Q5<|az.ng amd<|az.nil) cE ah3 uU fun x y h=>(ak1 aD x).trans (ael x y h)
def MI:aG:=⟨16,Gc,aj3,RT,tf⟩
def S2:bt:=
 (.seq
 (.ae false [
 oX 4 (.mv (kX 0))])
 (.seq
 (.seq
 (.ae false [
 oX 5 (.mv (kX 0))])
 (.join ⟨[(1,sX)],[]⟩ [] []
 (.block 0
 (.loop 0 ⟨[(0,.one (.c (.v (lX)))),(1,sX),(5,sX)],[]⟩ [] []
 (.seq
 (.seq
 (.ae false [
 oX 6 (.mv 5),
 oX 7 (.mv 0),
 oX 8 (.len 7),
 oX 9 (.bin .lss 6 8)])
 (.cond 9
 .skip
 (.exit 0)))
 (.seq
 (.block 1
 (.seq
 (.seq
 (.ae false [
 oX 12 (.mv 0),
 oX 13 (.mv 5),
 oX 14 (.bO 1 12 13),
 oX 15 (.load false 1 14),
 oX 16 (.mv 1),
 oX 17 (.bin .neq 15 16)])
 (.cond 17
 (.seq
 (.ae false [
 oX 4 (.mv (kX (-1)))])
 .ret)
 .skip))
 (.ae false [
 oX 18 (.mv 1),
 oX 19 (.bin .add 18 (kX 1)),
 oX 1 (.mv 19)])))
 (.ae false [
 oX 10 (.mv 5),
 oX 11 (.bin .add 10 (kX 1)),
 oX 5 (.mv 11)])))))))
 (.seq
 (.ae false [
 oX 20 (.mv 1),
 oX 4 (.mv 20)])
 .ret)))
def Qm:List bx:=[.tmp 4]
theorem ak0 (NN:Nat) (x:aQ (ao.aP Gc)):cW NN [] S2 Qm Gc RT x=K6 NN x:=by kernel_rfl
theorem ah2:bU pX 16 S2.er Qm 2=true:=by decide+kernel
theorem amb:cJ pX 16 MI.M/\bD pX 16=true:=
  c9 (T:=[]) (sc:=S2) (ms:=Qm) (args:=Gc) (aB:=RT) (az.nil) cE ah2 tf fun x y h=>(ak0 aD x).trans (aek x y h)
def HH:aG:=⟨3,vb,ajY,RO,Fk⟩
def SW:bt:=
 (.seq
 (.ae false [
 oX 2 (.box 5 0),
 oX 3 (.box 5 1),
 oX 4 (.mv (.k (.one (.v (.bool) (false)))))])
 (.seq
 (.ae false [
 oX 5 (.mv (kX 1048576))])
 (.seq
 (.ae false [
 oX 17 (.load true 5 2),
 oX 18 (.mv 5),
 oX 19 (.call .live 8 [17,18]),
 oX 5 (.mv 19)])
 (.seq
 (.seq
 (.ae false [
 oX 20 (.mv 5),
 oX 21 (.bin .lss 20 (kX 0))])
 (.cond 21
 (.seq
 (.ae false [
 oX 4 (.mv (.k (.one (.v (.bool) (true)))))])
 .ret)
 .skip))
 (.seq
 (.ae false [
 oX 22 (.load true 5 3),
 oX 23 (.mv 5),
 oX 24 (.call .live 8 [22,23]),
 oX 5 (.mv 24)])
 (.seq
 (.seq
 (.ae false [
 oX 25 (.mv 5),
 oX 26 (.bin .lss 25 (kX 0))])
 (.cond 26
 (.seq
 (.ae false [
 oX 4 (.mv (.k (.one (.v (.bool) (true)))))])
 .ret)
 .skip))
 (.seq
 (.ae true [
 oX 28 (.load true 5 2),
 oX 29 (.call .live 10 [28]),
 oX 30 (.load true 5 3),
 oX 31 (.call .live 10 [30]),
 oX 32 (.call .live 9 [29,31]),
 oX 27 (.mv 32),
 oX 33 (.ext 0 27),
 oX 34 (.ext 1 27),
 oX 6 (.mv 33),
 oX 7 (.mv 34)])
 (.seq
 (.ae false [
 oX 35 (.load true 5 2),
 oX 36 (.call .live 10 [35]),
 oX 8 (.alloc [zX,zX,.nil iX,.nil mX,.nil iX]),
 uX (.store 5 8 36)])
 (.seq
 (.ae false [
 oX 37 (.load true 5 3),
 oX 38 (.call .live 10 [37]),
 oX 9 (.alloc [zX,zX,.nil iX,.nil mX,.nil iX]),
 uX (.store 5 9 38)])
 (.seq
 (.ae false [
 oX 40 (.load true 5 8),
 oX 41 (.load true 5 9),
 oX 42 (.call .live 11 [40,41]),
 oX 39 (.mv 42),
 oX 43 (.ext 0 39),
 oX 44 (.ext 1 39),
 oX 10 (.mv 43),
 oX 11 (.mv 44)])
 (.seq
 (.seq
 (.ae false [
 oX 45 (.mv 10),
 oX 46 (.mv 6),
 oX 47 (.call .live 12 [45,46]),
 oX 48 (.un .not 47),
 oX 49 (.mv 48),
 ⟨(some 50),.mv 11,(some (49,false))⟩,
 ⟨(some 51),.mv 7,(some (49,false))⟩,
 ⟨(some 52),.lz .neq 50 51,(some (49,false))⟩,
 oX 53 (.pick 49 (.k (.one (.v (.bool) (true)))) 52)])
 (.cond 53
 (.seq
 (.ae false [
 oX 4 (.mv (.k (.one (.v (.bool) (false)))))])
 .ret)
 .skip))
 (.seq
 (.seq
 (.ae true [
 oX 54 (.load true 5 8),
 oX 55 (.load true 5 2),
 oX 56 (.call .live 10 [55]),
 oX 57 (.call .live 13 [54,56]),
 oX 58 (.un .not 57)])
 (.cond 58
 (.seq
 (.ae false [
 oX 4 (.mv (.k (.one (.v (.bool) (false)))))])
 .ret)
 .skip))
 (.seq
 (.seq
 (.ae true [
 oX 59 (.load true 5 9),
 oX 60 (.load true 5 3),
 oX 61 (.call .live 10 [60]),
 oX 62 (.call .live 13 [59,61]),
 oX 63 (.un .not 62)])
 (.cond 63
 (.seq
 (.ae false [
 oX 4 (.mv (.k (.one (.v (.bool) (false)))))])
 .ret)
 .skip))
 (.seq
 (.ae false [
 oX 12 (.mv (kX 1))])
 (.seq
 (.ae false [
 oX 64 (.load true 5 8),
 oX 65 (.mv 12),
 oX 66 (.eQ .live 14 [64,65]),
 oX 12 (.mv 66)])
 (.seq
 (.ae false [
 oX 67 (.load true 5 9),
 oX 68 (.mv 12),
 oX 69 (.eQ .live 14 [67,68]),
 oX 12 (.mv 69)])
 (.seq
 (.seq
 (.ae false [
 oX 70 (.mv 12),
 oX 71 (.bin .lss 70 (kX 0)),
 oX 72 (.mv 71),
 ⟨(some 73),.mv 10,(some (72,false))⟩,
 ⟨(some 74),.mv 6,(some (72,false))⟩,
 ⟨(some 75),.call .live 12 [73,74],(some (72,false))⟩,
 ⟨(some 76),.un .not 75,(some (72,false))⟩,
 oX 77 (.pick 72 (.k (.one (.v (.bool) (true)))) 76),
 oX 78 (.mv 77),
 ⟨(some 79),.mv 11,(some (78,false))⟩,
 ⟨(some 80),.mv 7,(some (78,false))⟩,
 ⟨(some 81),.lz .neq 79 80,(some (78,false))⟩,
 oX 82 (.pick 78 (.k (.one (.v (.bool) (true)))) 81)])
 (.cond 82
 (.seq
 (.ae false [
 oX 4 (.mv (.k (.one (.v (.bool) (false)))))])
 .ret)
 .skip))
 (.seq
 (.ae false [
 oX 13 (.mv (kX 1))])
 (.seq
 (.ae false [
 oX 83 (.mv 10),
 oX 84 (.mv 13),
 oX 85 (.eQ .live 15 [83,84]),
 oX 13 (.mv 85)])
 (.seq
 (.ae false [
 oX 14 (.mv (kX 1))])
 (.seq
 (.ae false [
 oX 86 (.mv 10),
 oX 87 (.mv 14),
 oX 88 (.call .live 16 [86,87]),
 oX 14 (.mv 88)])
 (.seq
 (.seq
 (.ae false [
 oX 89 (.mv 14),
 oX 90 (.bin .lss 89 (kX 0))])
 (.cond 90
 (.seq
 (.ae false [
 oX 4 (.mv (.k (.one (.v (.bool) (false)))))])
 .ret)
 .skip))
 (.seq
 (.seq
 (.ae false [
 oX 91 (.mv 14),
 oX 92 (.mv 13),
 oX 93 (.bin .neq 91 92)])
 (.cond 93
 (.seq
 (.ae false [
 oX 4 (.mv (.k (.one (.v (.bool) (false)))))])
 .ret)
 .skip))
 (.seq
 (.ae true [
 oX 95 (.load true 5 2),
 oX 96 (.call .live 10 [95]),
 oX 97 (.load true 5 3),
 oX 98 (.call .live 10 [97]),
 oX 99 (.call .live 11 [96,98]),
 oX 94 (.mv 99),
 oX 100 (.ext 0 94),
 oX 101 (.ext 1 94),
 oX 15 (.mv 100),
 oX 16 (.mv 101)])
 (.seq
 (.seq
 (.ae false [
 oX 102 (.mv 15),
 oX 103 (.mv 6),
 oX 104 (.call .live 12 [102,103]),
 oX 105 (.un .not 104),
 oX 106 (.mv 105),
 ⟨(some 107),.mv 16,(some (106,false))⟩,
 ⟨(some 108),.mv 7,(some (106,false))⟩,
 ⟨(some 109),.lz .neq 107 108,(some (106,false))⟩,
 oX 110 (.pick 106 (.k (.one (.v (.bool) (true)))) 109)])
 (.cond 110
 (.seq
 (.ae false [
 oX 4 (.mv (.k (.one (.v (.bool) (false)))))])
 .ret)
 .skip))
 (.seq
 (.ae false [
 oX 14 (.mv (kX 1))])
 (.seq
 (.ae false [
 oX 111 (.mv 10),
 oX 112 (.mv 14),
 oX 113 (.call .live 16 [111,112]),
 oX 14 (.mv 113)])
 (.seq
 (.seq
 (.ae false [
 oX 114 (.mv 14),
 oX 115 (.bin .lss 114 (kX 0))])
 (.cond 115
 (.seq
 (.ae false [
 oX 4 (.mv (.k (.one (.v (.bool) (false)))))])
 .ret)
 .skip))
 (.seq
 (.seq
 (.ae false [
 oX 116 (.mv 14),
 oX 117 (.mv 13),
 oX 118 (.bin .neq 116 117)])
 (.cond 118
 (.seq
 (.ae false [
 oX 4 (.mv (.k (.one (.v (.bool) (false)))))])
 .ret)
 .skip))
 (.seq
 (.ae false [
 oX 4 (.mv (.k (.one (.v (.bool) (true)))))])
 .ret))))))))))))))))))))))))))))))
def Qh:List bx:=[.tmp 4]
theorem akV (NN:Nat) (x:aQ (ao.aP vb)):cW NN [ML,MQ,MU,Mu,xN,MF,MJ,xO,MI] SW Qh vb RO x=K3 NN x:=by kernel_rfl
theorem ahX:bU pX 3 SW.er Qh 2=true:=by decide+kernel
theorem al7:cJ pX 3 HH.M/\bD pX 3=true:=
  c9 (T:=[ML,MQ,MU,Mu,xN,MF,MJ,xO,MI]) (sc:=SW) (ms:=Qh) (args:=vb) (aB:=RO) (az.cons ame<|az.cons amh<|az.cons aml<|az.cons alW<|az.cons Q4<|az.cons al8<|az.ng amc<|az.ng Q5<|az.cons amb<|az.nil) cE ahX Fk fun x y h=>(akV aD x).trans (aef x y h)
end Go.Am
