/- A_MinimizeAutomaton: the code of the functions of FnExactMinimizeAutomaton. No condition. -/
import Derived.Test.YtifmggmhdcdgbaaLMinimizeAutomaton
import Derived.Test.YtifmggmhdcdgbaaBr2
import Derived.KernelRfl
import Derived.Test.YtifmggmhdcdgbaaRows
set_option linter.unusedVariables false
set_option maxRecDepth 100000
namespace Go.Am
theorem cu:Go.Proofs.Try.prog.follows .mixedOrders=true:=by decide+kernel
noncomputable abbrev pX:=Go.Proofs.Try.prog
def oX (n:Nat) (x:cE):eX:=⟨some n,x,none⟩
def uX (x:cE):eX:=⟨none,x,none⟩
def kX (n:Int):cD:=.k (.one (.v (.int .i64) n))
def sX:iZ:=.one (.c (.v (.int .i64)))
def iX:List Ty:=[.int .i64]
def lX:Ty:=.list iX
def mX:List Ty:=[.int .i64,.int .i64,lX]
def zX:SC:=.v (.int .i64) (0:Int)
def vX:dH:=.c (.v (.int .i64))
def fX (n k:Nat):dH:=.c (.full n k)
def rX (n:Nat):dH:=.c (.DJ n 0)
instance tX (n:Nat):OfNat cD n:=⟨.t n⟩
def Cr:aG:=⟨30,FC,agU,QC,rN⟩
def RO:bw:=
 (.seq
 (.ab false [
 oX 4 (.mv (kX 0))])
 (.seq
 (.ab false [
 oX 5 (.mv 1),
 oX 6 (.mv 0),
 oX 7 (.len 6),
 oX 8 (.bin .sub 5 7),
 oX 1 (.mv 8)])
 (.seq
 (.seq
 (.ab false [
 oX 9 (.mv 1),
 oX 10 (.bin .lss 9 (kX 0))])
 (.cond 10
 (.seq
 (.ab false [
 oX 4 (.mv (kX (-1)))])
 .ret)
 .skip))
 (.seq
 (.ab false [
 oX 11 (.mv 1),
 oX 4 (.mv 11)])
 .ret))))
def O0:List bA:=[.tmp 4]
theorem ahW (NN:Nat) (x:aQ (ao.aP FC)):cZ NN [] RO O0 FC QC x=J0 NN x:=by kernel_rfl
theorem afy:bW pX 30 RO.er O0 2=true:=by decide+kernel
theorem Yk:cJ pX 30 Cr.M/\bF pX 30=true:=
  dd (T:=[]) (sc:=RO) (ms:=O0) (args:=FC) (aB:=QC) (az.nil) cu afy rN fun x y h=>(ahW aA x).trans (acJ x y h)
def LH:aG:=⟨60,FD,agV,QD,y6⟩
def RP:bw:=
 (.seq
 (.ab false [
 oX 2 (.box 3 0),
 oX 4 (.mv (kX 0))])
 (.seq
 (.ab false [
 oX 5 (.ak 2 2),
 oX 6 (.load false 1 5),
 oX 7 (.mv 1),
 oX 8 (.call .aa 30 [6,7]),
 oX 1 (.mv 8)])
 (.seq
 (.seq
 (.ab false [
 oX 9 (.mv 1),
 oX 10 (.bin .lss 9 (kX 0))])
 (.cond 10
 (.seq
 (.ab false [
 oX 4 (.mv (kX (-1)))])
 .ret)
 .skip))
 (.seq
 (.ab false [
 oX 11 (.mv 1),
 oX 4 (.mv 11)])
 .ret))))
def O1:List bA:=[.tmp 4]
theorem ahX (NN:Nat) (x:aQ (ao.aP FD)):cZ NN [Cr] RP O1 FD QD x=J1 NN x:=by kernel_rfl
theorem afz:bW pX 60 RP.er O1 2=true:=by decide+kernel
theorem ai7:cJ pX 60 LH.M/\bF pX 60=true:=
  dd (T:=[Cr]) (sc:=RP) (ms:=O1) (args:=FD) (aB:=QD) (az.cons Yk<|az.nil) cu afz y6 fun x y h=>(ahX aA x).trans (acK x y h)
def LI:aG:=⟨31,FE,agW,QE,y7⟩
def RQ:bw:=
 (.seq
 (.ab false [
 oX 4 (.mv (kX 0))])
 (.seq
 (.ab false [
 oX 6 (.mv 1),
 oX 7 (.mv 0),
 oX 8 (.len 7),
 oX 9 (.bin .sub 6 8),
 oX 1 (.mv 9)])
 (.seq
 (.seq
 (.ab false [
 oX 10 (.mv 1),
 oX 11 (.bin .lss 10 (kX 0))])
 (.cond 11
 (.seq
 (.ab false [
 oX 4 (.mv (kX (-1)))])
 .ret)
 .skip))
 (.seq
 (.seq
 (.ab false [
 oX 5 (.mv (kX 0))])
 (.join ⟨[(1,sX)],[]⟩ [] []
 (.block 0
 (.loop 0 ⟨[(0,.one (.c (.v (.list mX)))),(1,sX),(5,sX)],[]⟩ [] []
 (.seq
 (.seq
 (.ab false [
 oX 12 (.mv 5),
 oX 13 (.mv 0),
 oX 14 (.len 13),
 oX 15 (.bin .lss 12 14)])
 (.cond 15
 .skip
 (.exit 0)))
 (.seq
 (.block 1
 (.seq
 (.ab false [
 oX 18 (.mv 0),
 oX 19 (.mv 5),
 oX 20 (.bT 3 18 19),
 oX 21 (.load true 3 20),
 oX 22 (.mv 1),
 oX 23 (.call .aa 60 [21,22]),
 oX 1 (.mv 23)])
 (.seq
 (.ab false [
 oX 24 (.mv 1),
 oX 25 (.bin .lss 24 (kX 0))])
 (.cond 25
 (.seq
 (.ab false [
 oX 4 (.mv (kX (-1)))])
 .ret)
 .skip))))
 (.ab false [
 oX 16 (.mv 5),
 oX 17 (.bin .add 16 (kX 1)),
 oX 5 (.mv 17)])))))))
 (.seq
 (.ab false [
 oX 26 (.mv 1),
 oX 4 (.mv 26)])
 .ret)))))
def O2:List bA:=[.tmp 4]
theorem ahY (NN:Nat) (x:aQ (ao.aP FE)):cZ NN [LH] RQ O2 FE QE x=TK NN x:=by kernel_rfl
theorem afA:bW pX 31 RQ.er O2 2=true:=by decide+kernel
theorem ai8:cJ pX 31 LI.M/\bF pX 31=true:=
  dd (T:=[LH]) (sc:=RQ) (ms:=O2) (args:=FE) (aB:=QE) (az.cons ai7<|az.nil) cu afA y7 fun x y h=>(ahY aA x).trans (acL x y h)
def LG:aG:=⟨8,FB,agT,QB,y5⟩
def RN:bw:=
 (.seq
 (.ab false [
 oX 2 (.box 5 0),
 oX 4 (.mv (kX 0))])
 (.seq
 (.ab false [
 oX 5 (.ak 2 2),
 oX 6 (.load false 1 5),
 oX 7 (.mv 1),
 oX 8 (.call .aa 30 [6,7]),
 oX 1 (.mv 8)])
 (.seq
 (.seq
 (.ab false [
 oX 9 (.mv 1),
 oX 10 (.bin .lss 9 (kX 0))])
 (.cond 10
 (.seq
 (.ab false [
 oX 4 (.mv (kX (-1)))])
 .ret)
 .skip))
 (.seq
 (.ab false [
 oX 11 (.ak 3 2),
 oX 12 (.load false 1 11),
 oX 13 (.mv 1),
 oX 14 (.call .aa 31 [12,13]),
 oX 1 (.mv 14)])
 (.seq
 (.seq
 (.ab false [
 oX 15 (.mv 1),
 oX 16 (.bin .lss 15 (kX 0))])
 (.cond 16
 (.seq
 (.ab false [
 oX 4 (.mv (kX (-1)))])
 .ret)
 .skip))
 (.seq
 (.ab false [
 oX 17 (.ak 4 2),
 oX 18 (.load false 1 17),
 oX 19 (.mv 1),
 oX 20 (.call .aa 30 [18,19]),
 oX 1 (.mv 20)])
 (.seq
 (.seq
 (.ab false [
 oX 21 (.mv 1),
 oX 22 (.bin .lss 21 (kX 0))])
 (.cond 22
 (.seq
 (.ab false [
 oX 4 (.mv (kX (-1)))])
 .ret)
 .skip))
 (.seq
 (.ab false [
 oX 23 (.mv 1),
 oX 4 (.mv 23)])
 .ret))))))))
def OZ:List bA:=[.tmp 4]
theorem ahV (NN:Nat) (x:aQ (ao.aP FB)):cZ NN [Cr,LI] RN OZ FB QB x=JZ NN x:=by kernel_rfl
theorem afx:bW pX 8 RN.er OZ 2=true:=by decide+kernel
theorem ai6:cJ pX 8 LG.M/\bF pX 8=true:=
  dd (T:=[Cr,LI]) (sc:=RN) (ms:=OZ) (args:=FB) (aB:=QB) (az.cons Yk<|az.cons ai8<|az.nil) cu afx y5 fun x y h=>(ahV aA x).trans (acI x y h)
def Cs:aG:=⟨38,FG,agY,QG,tf⟩
def RS:bw:=
 (.seq
 (.ab false [
 oX 2 (.mv (.k (.one (.nil iX))))])
 (.seq
 (.ab false [
 oX 5 (.mv 0),
 oX 6 (.len 5),
 oX 7 (.kB .aa iX 8 (0:Int) 6 6),
 oX 3 (.mv 7)])
 (.seq
 (.seq
 (.ab false [
 oX 4 (.mv (kX 0))])
 (.join ⟨[(3,.one (fX 500001 1))],[(500001,.row true .aa iX)]⟩ [500000,500001] [(false,3,0,500001,.aa,[])]
 (.block 0
 (.loop 0 ⟨[(0,.one (.c (.v (lX)))),(3,.one (fX 500000 1)),(4,sX)],[(500000,.row true .aa iX)]⟩ [7,500000] [(false,3,0,500000,.aa,[])]
 (.seq
 (.seq
 (.ab false [
 oX 8 (.mv 4),
 oX 9 (.mv 0),
 oX 10 (.len 9),
 oX 11 (.bin .lss 8 10)])
 (.cond 11
 .skip
 (.exit 0)))
 (.seq
 (.block 1
 (.ab false [
 oX 14 (.mv 3),
 oX 15 (.mv 4),
 oX 16 (.mv 0),
 oX 17 (.mv 4),
 oX 18 (.bT 1 16 17),
 oX 19 (.load false 1 18),
 oX 20 (.bT 1 14 15),
 uX (.store 1 20 19)]))
 (.ab false [
 oX 12 (.mv 4),
 oX 13 (.bin .add 12 (kX 1)),
 oX 4 (.mv 13)])))))))
 (.seq
 (.ab false [
 oX 21 (.mv 3),
 oX 2 (.mv 21)])
 .ret))))
def O4:List bA:=[.tmp 2]
theorem ah0 (NN:Nat) (x:aQ (ao.aP FG)):cZ NN [] RS O4 FG QG x=J3 NN x:=by kernel_rfl
theorem afC:bW pX 38 RS.er O4 1=true:=by decide+kernel
theorem Yl:cJ pX 38 Cs.M/\bF pX 38=true:=
  dd (T:=[]) (sc:=RS) (ms:=O4) (args:=FG) (aB:=QG) (az.nil) cu afC tf fun x y h=>(ah0 aA x).trans (acN x y h)
def LK:aG:=⟨64,FH,agZ,QH,y8⟩
def RT:bw:=
 (.seq
 (.ab false [
 oX 1 (.box 3 0),
 oX 2 (.alloc [zX,zX,.nil iX])])
 (.seq
 (.ab false [
 oX 3 (.alloc [zX,zX,.nil iX])])
 (.seq
 (.ab false [
 oX 4 (.ak 0 1),
 oX 5 (.load false 1 4),
 oX 6 (.ak 0 3),
 uX (.store 1 6 5)])
 (.seq
 (.ab false [
 oX 7 (.ak 1 1),
 oX 8 (.load false 1 7),
 oX 9 (.ak 1 3),
 uX (.store 1 9 8)])
 (.seq
 (.ab false [
 oX 10 (.ak 2 1),
 oX 11 (.load false 1 10),
 oX 12 (.call .aa 38 [11]),
 oX 13 (.ak 2 3),
 uX (.store 1 13 12)])
 (.seq
 (.ab false [
 oX 14 (.load true 3 3),
 uX (.store 3 2 14)])
 .ret))))))
def O5:List bA:=[.cell 2 3 true]
theorem ah1 (NN:Nat) (x:aQ (ao.aP FH)):cZ NN [Cs] RT O5 FH QH x=J4 NN x:=by kernel_rfl
theorem afD:bW pX 64 RT.er O5 1=true:=by decide+kernel
theorem aja:cJ pX 64 LK.M/\bF pX 64=true:=
  dd (T:=[Cs]) (sc:=RT) (ms:=O5) (args:=FH) (aB:=QH) (az.cons Yl<|az.nil) cu afD y8 fun x y h=>(ah1 aA x).trans (acO x y h)
def LM:aG:=⟨39,FI,ag0,QI,y9⟩
def RU:bw:=
 (.seq
 (.ab false [
 oX 2 (.mv (.k (.one (.nil mX))))])
 (.seq
 (.ab false [
 oX 5 (.mv 0),
 oX 6 (.len 5),
 oX 7 (.kB .aa mX 40 ((0:Int),((0:Int),[])) 6 6),
 oX 3 (.mv 7)])
 (.seq
 (.seq
 (.ab false [
 oX 4 (.mv (kX 0))])
 (.join ⟨[(3,.one (fX 500001 3))],[(500001,.row true .aa mX)]⟩ [500000,500001] [(false,3,0,500001,.aa,[])]
 (.block 0
 (.loop 0 ⟨[(0,.one (.c (.v (.list mX)))),(3,.one (fX 500000 3)),(4,sX)],[(500000,.row true .aa mX)]⟩ [7,500000] [(false,3,0,500000,.aa,[])]
 (.seq
 (.seq
 (.ab false [
 oX 8 (.mv 4),
 oX 9 (.mv 0),
 oX 10 (.len 9),
 oX 11 (.bin .lss 8 10)])
 (.cond 11
 .skip
 (.exit 0)))
 (.seq
 (.block 1
 (.ab false [
 oX 14 (.mv 3),
 oX 15 (.mv 4),
 oX 16 (.mv 0),
 oX 17 (.mv 4),
 oX 18 (.bT 3 16 17),
 oX 19 (.load true 3 18),
 oX 20 (.call .aa 64 [19]),
 oX 21 (.bT 3 14 15),
 uX (.store 3 21 20)]))
 (.ab false [
 oX 12 (.mv 4),
 oX 13 (.bin .add 12 (kX 1)),
 oX 4 (.mv 13)])))))))
 (.seq
 (.ab false [
 oX 22 (.mv 3),
 oX 2 (.mv 22)])
 .ret))))
def O6:List bA:=[.tmp 2]
theorem ah2 (NN:Nat) (x:aQ (ao.aP FI)):cZ NN [LK] RU O6 FI QI x=J5 NN x:=by kernel_rfl
theorem afE:bW pX 39 RU.er O6 1=true:=by decide+kernel
theorem ajb:cJ pX 39 LM.M/\bF pX 39=true:=
  dd (T:=[LK]) (sc:=RU) (ms:=O6) (args:=FI) (aB:=QI) (az.cons aja<|az.nil) cu afE y9 fun x y h=>(ah2 aA x).trans (acP x y h)
def LJ:aG:=⟨10,FF,agX,QF,rO⟩
def RR:bw:=
 (.seq
 (.ab false [
 oX 1 (.box 5 0),
 oX 2 (.alloc [zX,zX,.nil iX,.nil mX,.nil iX])])
 (.seq
 (.ab false [
 oX 3 (.alloc [zX,zX,.nil iX,.nil mX,.nil iX])])
 (.seq
 (.ab false [
 oX 4 (.ak 0 1),
 oX 5 (.load false 1 4),
 oX 6 (.ak 0 3),
 uX (.store 1 6 5)])
 (.seq
 (.ab false [
 oX 7 (.ak 1 1),
 oX 8 (.load false 1 7),
 oX 9 (.ak 1 3),
 uX (.store 1 9 8)])
 (.seq
 (.ab false [
 oX 10 (.ak 2 1),
 oX 11 (.load false 1 10),
 oX 12 (.call .aa 38 [11]),
 oX 13 (.ak 2 3),
 uX (.store 1 13 12)])
 (.seq
 (.ab false [
 oX 14 (.ak 3 1),
 oX 15 (.load false 1 14),
 oX 16 (.call .aa 39 [15]),
 oX 17 (.ak 3 3),
 uX (.store 1 17 16)])
 (.seq
 (.ab false [
 oX 18 (.ak 4 1),
 oX 19 (.load false 1 18),
 oX 20 (.call .aa 38 [19]),
 oX 21 (.ak 4 3),
 uX (.store 1 21 20)])
 (.seq
 (.ab false [
 oX 22 (.load true 5 3),
 uX (.store 5 2 22)])
 .ret))))))))
def O3:List bA:=[.cell 2 5 true]
theorem ahZ (NN:Nat) (x:aQ (ao.aP FF)):cZ NN [Cs,LM] RR O3 FF QF x=J2 NN x:=by kernel_rfl
theorem afB:bW pX 10 RR.er O3 1=true:=by decide+kernel
theorem ai9:cJ pX 10 LJ.M/\bF pX 10=true:=
  dd (T:=[Cs,LM]) (sc:=RR) (ms:=O3) (args:=FF) (aB:=QF) (az.cons Yl<|az.cons ajb<|az.nil) cu afB rO fun x y h=>(ahZ aA x).trans (acM x y h)
def tD:aG:=⟨75,FN,ag5,QN,lx⟩
def R0:bw:=
 (.seq
 (.ab false [
 oX 6 (.mv (.k (.one (.v (.bool) (false)))))])
 (.seq
 (.ab false [
 oX 7 (.mv 0),
 oX 8 (.mv 1),
 oX 9 (.bin .geq 7 8),
 oX 10 (.mv 9),
 ⟨(some 11),.mv 0,(some (10,true))⟩,
 ⟨(some 12),.mv 2,(some (10,true))⟩,
 ⟨(some 13),.bin .leq 11 12,(some (10,true))⟩,
 oX 14 (.pick 10 13 (.k (.one (.v (.bool) (false))))),
 oX 6 (.mv 14)])
 .ret))
def Pb:List bA:=[.tmp 6]
theorem ah7 (NN:Nat) (x:aQ (ao.aP FN)):cZ NN [] R0 Pb FN QN x=J9 NN x:=by kernel_rfl
theorem afJ:bW pX 75 R0.er Pb 3=true:=by decide+kernel
theorem Ix:cJ pX 75 tD.M/\bF pX 75=true:=
  dd (T:=[]) (sc:=R0) (ms:=Pb) (args:=FN) (aB:=QN) (az.nil) cu afJ lx fun x y h=>(ah7 aA x).trans (acU x y h)
def Ct:aG:=⟨74,FK,ag2,QK,uZ⟩
def RX:bw:=
 (.seq
 (.ab false [
 oX 2 (.mv (.k (.one (.v (.bool) (false)))))])
 (.seq
 (.seq
 (.ab false [
 oX 3 (.mv (kX 2))])
 (.join ⟨[(0,sX)],[]⟩ [] []
 (.block 0
 (.loop 0 ⟨[(0,sX),(3,sX)],[]⟩ [] []
 (.seq
 (.seq
 (.ab false [
 oX 4 (.mv 3),
 oX 5 (.mv 3),
 oX 6 (.bin .mul 4 5),
 oX 7 (.mv 0),
 oX 8 (.bin .leq 6 7),
 oX 9 (.mv 8),
 ⟨(some 10),.mv 0,(some (9,true))⟩,
 ⟨(some 11),.bin .leq 10 (kX 1000003),(some (9,true))⟩,
 oX 12 (.pick 9 11 (.k (.one (.v (.bool) (false)))))])
 (.cond 12
 .skip
 (.exit 0)))
 (.seq
 (.block 1
 (.seq
 (.ab false [
 oX 15 (.mv 0),
 oX 16 (.mv 3),
 oX 17 (.bin .rem 15 16),
 oX 18 (.bin .eql 17 (kX 0))])
 (.cond 18
 (.seq
 (.ab false [
 oX 2 (.mv (.k (.one (.v (.bool) (false)))))])
 .ret)
 .skip)))
 (.ab false [
 oX 13 (.mv 3),
 oX 14 (.bin .add 13 (kX 1)),
 oX 3 (.mv 14)])))))))
 (.seq
 (.ab false [
 oX 19 (.mv 0),
 oX 20 (.call .aa 75 [19,(kX 2),(kX 1000003)]),
 oX 2 (.mv 20)])
 .ret)))
def O8:List bA:=[.tmp 2]
theorem ah4 (NN:Nat) (x:aQ (ao.aP FK)):cZ NN [tD] RX O8 FK QK x=J7 NN x:=by kernel_rfl
theorem afG:bW pX 74 RX.er O8 1=true:=by decide+kernel
theorem Ym:cJ pX 74 Ct.M/\bF pX 74=true:=
  dd (T:=[tD]) (sc:=RX) (ms:=O8) (args:=FK) (aB:=QK) (az.cons Ix<|az.nil) cu afG uZ fun x y h=>(ah4 aA x).trans (acR x y h)
def L4:aG:=⟨76,F6,ahi,Q2,u6⟩
def Sg:bw:=
 (.seq
 (.ab false [
 oX 6 (.mv (.k (.one (.v (.bool) (false)))))])
 (.seq
 (.seq
 (.ab false [
 oX 9 (.mv 1),
 oX 10 (.len 9),
 oX 11 (.mv (kX 0))])
 (.join ⟨[(1,.one (.c (.v (lX)))),(2,sX)],[]⟩ [] []
 (.block 0
 (.loop 0 ⟨[(0,sX),(1,.one (.c (.v (lX)))),(2,sX),(9,.one (.c (.v (lX)))),(10,sX),(11,sX)],[]⟩ [] []
 (.seq
 (.ab false [
 oX 12 (.bin .lss 11 10)])
 (.seq
 (.cond 12
 .skip
 (.exit 0))
 (.seq
 (.block 1
 (.seq
 (.ab false [
 oX 13 (.bT 1 9 11),
 oX 14 (.load false 1 13),
 oX 8 (.mv 14)])
 (.seq
 (.ab false [
 oX 15 (.mv 8),
 oX 16 (.mv 0),
 oX 17 (.bin .sub 16 (kX 1)),
 oX 18 (.call .aa 75 [15,(kX 0),17]),
 oX 19 (.un .not 18)])
 (.cond 19
 (.seq
 (.ab false [
 oX 6 (.mv (.k (.one (.v (.bool) (false)))))])
 .ret)
 .skip))))
 (.ab false [
 oX 20 (.bin .add 11 (kX 1)),
 oX 11 (.mv 20)]))))))))
 (.seq
 (.ab false [
 oX 21 (.mv 1),
 oX 22 (.len 21),
 oX 23 (.mv 2),
 oX 24 (.bin .eql 22 23),
 oX 6 (.mv 24)])
 .ret)))
def Pt:List bA:=[.tmp 6]
theorem ain (NN:Nat) (x:aQ (ao.aP F6)):cZ NN [tD] Sg Pt F6 Q2 x=Kg NN x:=by kernel_rfl
theorem afY:bW pX 76 Sg.er Pt 3=true:=by decide+kernel
theorem ajp:cJ pX 76 L4.M/\bF pX 76=true:=
  dd (T:=[tD]) (sc:=Sg) (ms:=Pt) (args:=F6) (aB:=Q2) (az.cons Ix<|az.nil) cu afY u6 fun x y h=>(ain aA x).trans (ac8 x y h)
def LO:aG:=⟨77,FL,ag3,QL,wW⟩
def RY:bw:=
 (.seq
 (.ab false [
 oX 3 (.box 3 1),
 oX 4 (.mv (.k (.one (.v (.bool) (false)))))])
 (.seq
 (.seq
 (.ab false [
 oX 7 (.mv 0),
 oX 8 (.call .aa 74 [7]),
 oX 9 (.un .not 8),
 oX 10 (.mv 9),
 ⟨(some 11),.ak 0 3,(some (10,false))⟩,
 ⟨(some 12),.load false 1 11,(some (10,false))⟩,
 ⟨(some 13),.call .aa 75 [12,(kX 0),(kX 64)],(some (10,false))⟩,
 ⟨(some 14),.un .not 13,(some (10,false))⟩,
 oX 15 (.pick 10 (.k (.one (.v (.bool) (true)))) 14),
 oX 16 (.mv 15),
 ⟨(some 17),.ak 1 3,(some (16,false))⟩,
 ⟨(some 18),.load false 1 17,(some (16,false))⟩,
 ⟨(some 19),.call .aa 75 [18,(kX 0),(kX 64)],(some (16,false))⟩,
 ⟨(some 20),.un .not 19,(some (16,false))⟩,
 oX 21 (.pick 16 (.k (.one (.v (.bool) (true)))) 20),
 oX 22 (.mv 21),
 ⟨(some 23),.ak 2 3,(some (22,false))⟩,
 ⟨(some 24),.load false 1 23,(some (22,false))⟩,
 ⟨(some 25),.len 24,(some (22,false))⟩,
 ⟨(some 26),.ak 0 3,(some (22,false))⟩,
 ⟨(some 27),.load false 1 26,(some (22,false))⟩,
 ⟨(some 28),.ak 1 3,(some (22,false))⟩,
 ⟨(some 29),.load false 1 28,(some (22,false))⟩,
 ⟨(some 30),.bin .mul 27 29,(some (22,false))⟩,
 ⟨(some 31),.bin .neq 25 30,(some (22,false))⟩,
 oX 32 (.pick 22 (.k (.one (.v (.bool) (true)))) 31)])
 (.cond 32
 (.seq
 (.ab false [
 oX 4 (.mv (.k (.one (.v (.bool) (false)))))])
 .ret)
 .skip))
 (.seq
 (.seq
 (.ab false [
 oX 33 (.ak 2 3),
 oX 34 (.load false 1 33),
 oX 35 (.len 34),
 oX 36 (.mv (kX 0))])
 (.join ⟨[],[]⟩ [] []
 (.block 0
 (.loop 0 ⟨[(0,sX),(34,.one (.c (.v (lX)))),(35,sX),(36,sX)],[]⟩ [3] []
 (.seq
 (.ab false [
 oX 37 (.bin .lss 36 35)])
 (.seq
 (.cond 37
 .skip
 (.exit 0))
 (.seq
 (.block 1
 (.seq
 (.ab false [
 oX 38 (.bT 1 34 36),
 oX 39 (.load false 1 38),
 oX 6 (.mv 39)])
 (.seq
 (.ab false [
 oX 40 (.mv 6),
 oX 41 (.mv 0),
 oX 42 (.bin .sub 41 (kX 1)),
 oX 43 (.call .aa 75 [40,(kX 0),42]),
 oX 44 (.un .not 43)])
 (.cond 44
 (.seq
 (.ab false [
 oX 4 (.mv (.k (.one (.v (.bool) (false)))))])
 .ret)
 .skip))))
 (.ab false [
 oX 45 (.bin .add 36 (kX 1)),
 oX 36 (.mv 45)]))))))))
 (.seq
 (.ab false [
 oX 4 (.mv (.k (.one (.v (.bool) (true)))))])
 .ret))))
def O9:List bA:=[.tmp 4]
theorem ah5 (NN:Nat) (x:aQ (ao.aP FL)):cZ NN [Ct,tD] RY O9 FL QL x=J8 NN x:=by kernel_rfl
theorem afH:bW pX 77 RY.er O9 2=true:=by decide+kernel
theorem ajd:cJ pX 77 LO.M/\bF pX 77=true:=
  dd (T:=[Ct,tD]) (sc:=RY) (ms:=O9) (args:=FL) (aB:=QL) (az.cons Ym<|az.cons Ix<|az.nil) cu afH wW fun x y h=>(ah5 aA x).trans (acS x y h)
def LN:aG:=⟨47,FJ,ag1,QJ,tg⟩
def RW:bw:=
 (.seq
 (.ab false [
 oX 1 (.box 5 0),
 oX 2 (.mv (.k (.one (.v (.bool) (false)))))])
 (.seq
 (.seq
 (.ab false [
 oX 5 (.ak 0 1),
 oX 6 (.load false 1 5),
 oX 7 (.call .aa 74 [6]),
 oX 8 (.un .not 7),
 oX 9 (.mv 8),
 ⟨(some 10),.ak 1 1,(some (9,false))⟩,
 ⟨(some 11),.load false 1 10,(some (9,false))⟩,
 ⟨(some 12),.call .aa 75 [11,(kX 0),(kX 12)],(some (9,false))⟩,
 ⟨(some 13),.un .not 12,(some (9,false))⟩,
 oX 14 (.pick 9 (.k (.one (.v (.bool) (true)))) 13),
 oX 15 (.mv 14),
 ⟨(some 16),.ak 0 1,(some (15,false))⟩,
 ⟨(some 17),.load false 1 16,(some (15,false))⟩,
 ⟨(some 18),.ak 2 1,(some (15,false))⟩,
 ⟨(some 19),.load false 1 18,(some (15,false))⟩,
 ⟨(some 20),.ak 1 1,(some (15,false))⟩,
 ⟨(some 21),.load false 1 20,(some (15,false))⟩,
 ⟨(some 22),.call .aa 76 [17,19,21],(some (15,false))⟩,
 ⟨(some 23),.un .not 22,(some (15,false))⟩,
 oX 24 (.pick 15 (.k (.one (.v (.bool) (true)))) 23),
 oX 25 (.mv 24),
 ⟨(some 26),.ak 0 1,(some (25,false))⟩,
 ⟨(some 27),.load false 1 26,(some (25,false))⟩,
 ⟨(some 28),.ak 4 1,(some (25,false))⟩,
 ⟨(some 29),.load false 1 28,(some (25,false))⟩,
 ⟨(some 30),.ak 1 1,(some (25,false))⟩,
 ⟨(some 31),.load false 1 30,(some (25,false))⟩,
 ⟨(some 32),.call .aa 76 [27,29,31],(some (25,false))⟩,
 ⟨(some 33),.un .not 32,(some (25,false))⟩,
 oX 34 (.pick 25 (.k (.one (.v (.bool) (true)))) 33),
 oX 35 (.mv 34),
 ⟨(some 36),.ak 3 1,(some (35,false))⟩,
 ⟨(some 37),.load false 1 36,(some (35,false))⟩,
 ⟨(some 38),.len 37,(some (35,false))⟩,
 ⟨(some 39),.call .aa 75 [38,(kX 1),(kX 4)],(some (35,false))⟩,
 ⟨(some 40),.un .not 39,(some (35,false))⟩,
 oX 41 (.pick 35 (.k (.one (.v (.bool) (true)))) 40)])
 (.cond 41
 (.seq
 (.ab false [
 oX 2 (.mv (.k (.one (.v (.bool) (false)))))])
 .ret)
 .skip))
 (.seq
 (.seq
 (.ab false [
 oX 42 (.ak 3 1),
 oX 43 (.load false 1 42),
 oX 44 (.len 43),
 oX 45 (.mv (kX 0))])
 (.join ⟨[],[]⟩ [1] []
 (.block 0
 (.loop 0 ⟨[(1,.one (rX 1)),(43,.one (.c (.v (.list mX)))),(44,sX),(45,sX)],[(1,.box [vX,vX,.c (.v (lX)),.c (.v (.list mX)),.c (.v (lX))])]⟩ [1,4] []
 (.seq
 (.ab false [
 oX 46 (.bin .lss 45 44)])
 (.seq
 (.cond 46
 .skip
 (.exit 0))
 (.seq
 (.block 1
 (.seq
 (.ab false [
 oX 47 (.bT 3 43 45),
 oX 48 (.load true 3 47),
 oX 4 (.alloc [zX,zX,.nil iX]),
 uX (.store 3 4 48)])
 (.seq
 (.ab false [
 oX 49 (.ak 0 1),
 oX 50 (.load false 1 49),
 oX 51 (.load true 3 4),
 oX 52 (.call .aa 77 [50,51]),
 oX 53 (.un .not 52),
 oX 54 (.mv 53),
 ⟨(some 55),.ak 0 4,(some (54,false))⟩,
 ⟨(some 56),.load false 1 55,(some (54,false))⟩,
 ⟨(some 57),.ak 1 1,(some (54,false))⟩,
 ⟨(some 58),.load false 1 57,(some (54,false))⟩,
 ⟨(some 59),.bin .neq 56 58,(some (54,false))⟩,
 oX 60 (.pick 54 (.k (.one (.v (.bool) (true)))) 59),
 oX 61 (.mv 60),
 ⟨(some 62),.ak 1 4,(some (61,false))⟩,
 ⟨(some 63),.load false 1 62,(some (61,false))⟩,
 ⟨(some 64),.ak 1 1,(some (61,false))⟩,
 ⟨(some 65),.load false 1 64,(some (61,false))⟩,
 ⟨(some 66),.bin .neq 63 65,(some (61,false))⟩,
 oX 67 (.pick 61 (.k (.one (.v (.bool) (true)))) 66)])
 (.cond 67
 (.seq
 (.ab false [
 oX 2 (.mv (.k (.one (.v (.bool) (false)))))])
 .ret)
 .skip))))
 (.ab false [
 oX 68 (.bin .add 45 (kX 1)),
 oX 45 (.mv 68)]))))))))
 (.seq
 (.ab false [
 oX 2 (.mv (.k (.one (.v (.bool) (true)))))])
 .ret))))
def O7:List bA:=[.tmp 2]
theorem ah3 (NN:Nat) (x:aQ (ao.aP FJ)):cZ NN [Ct,tD,L4,LO] RW O7 FJ QJ x=J6 NN x:=by kernel_rfl
theorem afF:bW pX 47 RW.er O7 1=true:=by decide+kernel
theorem ajc:cJ pX 47 LN.M/\bF pX 47=true:=
  dd (T:=[Ct,tD,L4,LO]) (sc:=RW) (ms:=O7) (args:=FJ) (aB:=QJ) (az.cons Ym<|az.cons Ix<|az.cons ajp<|az.cons ajd<|az.nil) cu afF tg fun x y h=>(ah3 aA x).trans (acQ x y h)
def tE:aG:=⟨37,FO,ag6,QO,mh⟩
def R1:bw:=
 (.seq
 (.ab false [
 oX 2 (.mv (.k (.one (.nil iX))))])
 (.seq
 (.ab false [
 oX 3 (.d8 iX []),
 oX 4 (.mv 0),
 oX 5 (.append true iX 8 3 4),
 oX 2 (.mv 5)])
 .ret))
def Pc:List bA:=[.tmp 2]
theorem ah8 (NN:Nat) (x:aQ (ao.aP FO)):cZ NN [] R1 Pc FO QO x=Ka NN x:=by kernel_rfl
theorem afK:bW pX 37 R1.er Pc 1=true:=by decide+kernel
theorem Iy:cJ pX 37 tE.M/\bF pX 37=true:=
  dd (T:=[]) (sc:=R1) (ms:=Pc) (args:=FO) (aB:=QO) (az.nil) cu afK mh fun x y h=>(ah8 aA x).trans (acV x y h)
def xx:aG:=⟨61,FU,ag9,QS,rP⟩
def R6:bw:=
 (.seq
 (.ab false [
 oX 4 (.alloc [zX,zX,.nil iX])])
 (.seq
 (.ab false [
 oX 5 (.mv 0),
 oX 6 (.mv 1),
 oX 7 (.mv 0),
 oX 8 (.mv 1),
 oX 9 (.bin .mul 7 8),
 oX 10 (.kB .aa iX 8 (0:Int) 9 9),
 oX 11 (.build [zX,zX,.nil iX] [(0,1,5),(1,1,6),(2,1,10)]),
 uX (.store 3 4 11)])
 .ret))
def Pj:List bA:=[.cell 4 3 true]
theorem aic (NN:Nat) (x:aQ (ao.aP FU)):cZ NN [] R6 Pj FU QS x=EO NN x:=by kernel_rfl
theorem afO:bW pX 61 R6.er Pj 2=true:=by decide+kernel
theorem PK:cJ pX 61 xx.M/\bF pX 61=true:=
  dd (T:=[]) (sc:=R6) (ms:=Pj) (args:=FU) (aB:=QS) (az.nil) cu afO rP fun x y h=>(aic aA x).trans (Vd x y h)
def Cu:aG:=⟨80,FT,ag8,QR,nL⟩
def R5:bw:=
 (.seq
 (.ab false [
 oX 4 (.box 3 1),
 oX 5 (.box 3 2),
 oX 6 (.alloc [zX,zX,.nil iX])])
 (.seq
 (.ab false [
 oX 12 (.ak 0 4),
 oX 13 (.load false 1 12),
 oX 14 (.ak 1 5),
 oX 15 (.load false 1 14),
 oX 16 (.call .aa 61 [13,15]),
 oX 7 (.alloc [zX,zX,.nil iX]),
 uX (.store 3 7 16)])
 (.seq
 (.seq
 (.ab false [
 oX 8 (.mv (kX 0))])
 (.join ⟨[(7,.one (rX 7)),(6,.one (rX 6))],[(6,.box [vX,vX,fX 500012 1]),(7,.box [vX,vX,fX 500013 1]),(500012,.row true .aa iX),(500013,.row true .aa iX)]⟩ [4,5,6,7,500000,500001,500012,500013] [(true,6,2,500012,.aa,[]),(true,7,2,500013,.aa,[])]
 (.block 0
 (.loop 0 ⟨[(0,sX),(4,.one (rX 4)),(5,.one (rX 5)),(6,.one (rX 6)),(7,.one (rX 7)),(8,sX)],[(4,.box [vX,vX,.c (.v (lX))]),(5,.box [vX,vX,.c (.v (lX))]),(6,.box [vX,vX,fX 500000 1]),(7,.box [vX,vX,fX 500001 1]),(500000,.row true .aa iX),(500001,.row true .aa iX)]⟩ [4,5,6,17000,7,500000,500001,500010,500011] [(true,6,2,500000,.aa,[]),(true,7,2,500001,.aa,[])]
 (.seq
 (.seq
 (.ab false [
 oX 17 (.mv 8),
 oX 18 (.ak 0 4),
 oX 19 (.load false 1 18),
 oX 20 (.bin .lss 17 19)])
 (.cond 20
 .skip
 (.exit 0)))
 (.seq
 (.join ⟨[(8,sX),(0,sX),(4,.one (rX 4)),(5,.one (rX 5)),(6,.one (rX 6)),(7,.one (rX 7))],[(4,.box [vX,vX,.c (.v (lX))]),(5,.box [vX,vX,.c (.v (lX))]),(6,.box [vX,vX,fX 500010 1]),(7,.box [vX,vX,fX 500011 1]),(500010,.row true .aa iX),(500011,.row true .aa iX)]⟩ [4,5,6,7,500002,500003,500010,500011] [(true,6,2,500010,.aa,[]),(true,7,2,500011,.aa,[])]
 (.block 1
 (.seq
 (.ab false [
 oX 9 (.mv (kX 0))])
 (.block 2
 (.loop 0 ⟨[(0,sX),(4,.one (rX 4)),(5,.one (rX 5)),(6,.one (rX 6)),(7,.one (rX 7)),(8,sX),(9,sX)],[(4,.box [vX,vX,.c (.v (lX))]),(5,.box [vX,vX,.c (.v (lX))]),(6,.box [vX,vX,fX 500002 1]),(7,.box [vX,vX,fX 500003 1]),(500002,.row true .aa iX),(500003,.row true .aa iX)]⟩ [4,5,6,7,500000,500001,500002,500003,500008,500009] [(true,6,2,500002,.aa,[]),(true,7,2,500003,.aa,[])]
 (.seq
 (.seq
 (.ab false [
 oX 23 (.mv 9),
 oX 24 (.ak 1 5),
 oX 25 (.load false 1 24),
 oX 26 (.bin .lss 23 25)])
 (.cond 26
 .skip
 (.exit 2)))
 (.seq
 (.join ⟨[(9,sX),(0,sX),(4,.one (rX 4)),(5,.one (rX 5)),(6,.one (rX 6)),(7,.one (rX 7)),(8,sX)],[(4,.box [vX,vX,.c (.v (lX))]),(5,.box [vX,vX,.c (.v (lX))]),(6,.box [vX,vX,fX 500008 1]),(7,.box [vX,vX,fX 500009 1]),(500008,.row true .aa iX),(500009,.row true .aa iX)]⟩ [4,5,6,7,500006,500007,500008,500009] [(true,6,2,500008,.aa,[]),(true,7,2,500009,.aa,[])]
 (.block 3
 (.seq
 (.ab false [
 oX 10 (.mv (kX 0))])
 (.seq
 (.seq
 (.ab false [
 oX 11 (.mv (kX 0))])
 (.join ⟨[(10,sX),(9,sX),(0,sX),(4,.one (rX 4)),(5,.one (rX 5)),(6,.one (rX 6)),(7,.one (rX 7)),(8,sX)],[(4,.box [vX,vX,.c (.v (lX))]),(5,.box [vX,vX,.c (.v (lX))]),(6,.box [vX,vX,fX 500006 1]),(7,.box [vX,vX,fX 500007 1]),(500006,.row true .aa iX),(500007,.row true .aa iX)]⟩ [4,5,6,7,500004,500005,500006,500007] [(true,6,2,500006,.aa,[]),(true,7,2,500007,.aa,[])]
 (.block 4
 (.loop 0 ⟨[(0,sX),(4,.one (rX 4)),(5,.one (rX 5)),(6,.one (rX 6)),(7,.one (rX 7)),(8,sX),(9,sX),(10,sX),(11,sX)],[(4,.box [vX,vX,.c (.v (lX))]),(5,.box [vX,vX,.c (.v (lX))]),(6,.box [vX,vX,fX 500004 1]),(7,.box [vX,vX,fX 500005 1]),(500004,.row true .aa iX),(500005,.row true .aa iX)]⟩ [4,5,6,7,500002,500003,500004,500005] [(true,6,2,500004,.aa,[]),(true,7,2,500005,.aa,[])]
 (.seq
 (.seq
 (.ab false [
 oX 29 (.mv 11),
 oX 30 (.ak 1 4),
 oX 31 (.load false 1 30),
 oX 32 (.bin .lss 29 31)])
 (.cond 32
 .skip
 (.exit 4)))
 (.seq
 (.block 5
 (.ab true [
 oX 35 (.mv 10),
 oX 36 (.ak 2 4),
 oX 37 (.load false 1 36),
 oX 38 (.mv 8),
 oX 39 (.ak 1 4),
 oX 40 (.load false 1 39),
 oX 41 (.bin .mul 38 40),
 oX 42 (.mv 11),
 oX 43 (.bin .add 41 42),
 oX 44 (.bT 1 37 43),
 oX 45 (.load false 1 44),
 oX 46 (.ak 2 5),
 oX 47 (.load false 1 46),
 oX 48 (.mv 11),
 oX 49 (.ak 1 5),
 oX 50 (.load false 1 49),
 oX 51 (.bin .mul 48 50),
 oX 52 (.mv 9),
 oX 53 (.bin .add 51 52),
 oX 54 (.bT 1 47 53),
 oX 55 (.load false 1 54),
 oX 56 (.bin .mul 45 55),
 oX 57 (.bin .add 35 56),
 oX 58 (.mv 0),
 oX 59 (.bin .rem 57 58),
 oX 10 (.mv 59)]))
 (.ab false [
 oX 33 (.mv 11),
 oX 34 (.bin .add 33 (kX 1)),
 oX 11 (.mv 34)])))))))
 (.ab false [
 oX 60 (.ak 2 7),
 oX 61 (.load false 1 60),
 oX 62 (.mv 8),
 oX 63 (.ak 1 5),
 oX 64 (.load false 1 63),
 oX 65 (.bin .mul 62 64),
 oX 66 (.mv 9),
 oX 67 (.bin .add 65 66),
 oX 68 (.mv 10),
 oX 69 (.bT 1 61 67),
 uX (.store 1 69 68)])))))
 (.ab false [
 oX 27 (.mv 9),
 oX 28 (.bin .add 27 (kX 1)),
 oX 9 (.mv 28)]))))))))
 (.ab false [
 oX 21 (.mv 8),
 oX 22 (.bin .add 21 (kX 1)),
 oX 8 (.mv 22)])))))))
 (.seq
 (.ab false [
 oX 70 (.load true 3 7),
 uX (.store 3 6 70)])
 .ret))))
def Ph:List bA:=[.cell 6 3 true]
theorem aib (NN:Nat) (x:aQ (ao.aP FT)):cZ NN [xx] R5 Ph FT QR x=EN NN x:=by kernel_rfl
theorem afN:bW pX 80 R5.er Ph 3=true:=by decide+kernel
theorem Yn:cJ pX 80 Cu.M/\bF pX 80=true:=
  dd (T:=[xx]) (sc:=R5) (ms:=Ph) (args:=FT) (aB:=QR) (az.cons PK<|az.nil) cu afN nL fun x y h=>(aib aA x).trans (acY x y h)
def L6:aG:=⟨63,F8,ahk,Q4,w4⟩
def Si:bw:=
 (.seq
 (.ab false [
 oX 5 (.box 3 2),
 oX 6 (.mv (.k (.one (.nil iX))))])
 (.seq
 (.ab false [
 oX 7 (.mv 0),
 oX 8 (.ak 0 5),
 oX 9 (.load false 1 8),
 oX 10 (.mv 1),
 oX 11 (.build [zX,zX,.nil iX] [(0,1,(kX 1)),(1,1,9),(2,1,10)]),
 oX 12 (.load true 3 5),
 oX 13 (.call .aa 80 [7,11,12]),
 oX 14 (.nf false 2 1 13),
 oX 6 (.mv 14)])
 .ret))
def Pv:List bA:=[.tmp 6]
theorem aip (NN:Nat) (x:aQ (ao.aP F8)):cZ NN [Cu] Si Pv F8 Q4 x=Ki NN x:=by kernel_rfl
theorem af0:bW pX 63 Si.er Pv 3=true:=by decide+kernel
theorem ajr:cJ pX 63 L6.M/\bF pX 63=true:=
  dd (T:=[Cu]) (sc:=Si) (ms:=Pv) (args:=F8) (aB:=Q4) (az.cons Yn<|az.nil) cu af0 w4 fun x y h=>(aip aA x).trans (ada x y h)
def LZ:aG:=⟨36,F4,ahg,Q0,rR⟩
def Se:bw:=
 (.seq
 (.ab false [
 oX 2 (.box 5 0),
 oX 4 (.mv (.k (.one (.nil iX))))])
 (.seq
 (.ab false [
 oX 8 (.ak 2 2),
 oX 9 (.load false 1 8),
 oX 10 (.call .aa 37 [9]),
 oX 5 (.mv 10)])
 (.seq
 (.seq
 (.ab false [
 oX 11 (.mv 1),
 oX 12 (.len 11),
 oX 13 (.mv (kX 0))])
 (.join ⟨[(5,.one (fX 500001 1))],[(500001,.row true .aa iX)]⟩ [2,500000,500001] [(false,5,0,500001,.aa,[])]
 (.block 0
 (.loop 0 ⟨[(2,.one (rX 2)),(5,.one (fX 500000 1)),(11,.one (.c (.v (lX)))),(12,sX),(13,sX)],[(2,.box [vX,vX,.c (.v (lX)),.c (.v (.list mX)),.c (.v (lX))]),(500000,.row true .aa iX)]⟩ [2,11000,26000,500000] [(false,5,0,500000,.aa,[])]
 (.seq
 (.ab false [
 oX 14 (.bin .lss 13 12)])
 (.seq
 (.cond 14
 .skip
 (.exit 0))
 (.seq
 (.block 1
 (.seq
 (.ab false [
 oX 15 (.bT 1 11 13),
 oX 16 (.load false 1 15),
 oX 7 (.mv 16)])
 (.ab true [
 oX 17 (.ak 0 2),
 oX 18 (.load false 1 17),
 oX 19 (.mv 5),
 oX 20 (.ak 3 2),
 oX 21 (.load false 1 20),
 oX 22 (.mv 7),
 oX 23 (.bT 3 21 22),
 oX 24 (.load true 3 23),
 oX 25 (.call .aa 63 [18,19,24]),
 oX 5 (.mv 25)])))
 (.ab false [
 oX 26 (.bin .add 13 (kX 1)),
 oX 13 (.mv 26)]))))))))
 (.seq
 (.ab false [
 oX 27 (.mv 5),
 oX 4 (.mv 27)])
 .ret))))
def Pr:List bA:=[.tmp 4]
theorem ail (NN:Nat) (x:aQ (ao.aP F4)):cZ NN [tE,L6] Se Pr F4 Q0 x=EU NN x:=by kernel_rfl
theorem afW:bW pX 36 Se.er Pr 2=true:=by decide+kernel
theorem ajn:cJ pX 36 LZ.M/\bF pX 36=true:=
  dd (T:=[tE,L6]) (sc:=Se) (ms:=Pr) (args:=F4) (aB:=Q0) (az.cons Iy<|az.cons ajr<|az.nil) cu afW rR fun x y h=>(ail aA x).trans (ac6 x y h)
def LS:aG:=⟨86,FV,aha,QT,wY⟩
def R7:bw:=
 (.seq
 (.ab false [
 oX 3 (.box 3 0),
 oX 6 (.mv (kX 0))])
 (.seq
 (.seq
 (.ab false [
 oX 8 (.mv 1),
 oX 7 (.mv 8)])
 (.join ⟨[],[]⟩ [3] []
 (.block 0
 (.loop 0 ⟨[(2,sX),(3,.one (rX 3)),(7,sX)],[(3,.box [vX,vX,.c (.v (lX))])]⟩ [3] []
 (.seq
 (.seq
 (.ab false [
 oX 9 (.mv 7),
 oX 10 (.ak 0 3),
 oX 11 (.load false 1 10),
 oX 12 (.bin .lss 9 11)])
 (.cond 12
 .skip
 (.exit 0)))
 (.seq
 (.block 1
 (.seq
 (.ab false [
 oX 15 (.ak 2 3),
 oX 16 (.load false 1 15),
 oX 17 (.mv 7),
 oX 18 (.ak 1 3),
 oX 19 (.load false 1 18),
 oX 20 (.bin .mul 17 19),
 oX 21 (.mv 2),
 oX 22 (.bin .add 20 21),
 oX 23 (.bT 1 16 22),
 oX 24 (.load false 1 23),
 oX 25 (.bin .neq 24 (kX 0))])
 (.cond 25
 (.seq
 (.ab false [
 oX 26 (.mv 7),
 oX 6 (.mv 26)])
 .ret)
 .skip)))
 (.ab false [
 oX 13 (.mv 7),
 oX 14 (.bin .add 13 (kX 1)),
 oX 7 (.mv 14)])))))))
 (.seq
 (.ab false [
 oX 6 (.mv (kX (-1)))])
 .ret)))
def Pk:List bA:=[.tmp 6]
theorem aid (NN:Nat) (x:aQ (ao.aP FV)):cZ NN [] R7 Pk FV QT x=EP NN x:=by kernel_rfl
theorem afP:bW pX 86 R7.er Pk 3=true:=by decide+kernel
theorem ajh:cJ pX 86 LS.M/\bF pX 86=true:=
  dd (T:=[]) (sc:=R7) (ms:=Pk) (args:=FV) (aB:=QT) (az.nil) cu afP wY fun x y h=>(aid aA x).trans (acZ x y h)
def LU:aG:=⟨87,FX,Ij,QV,rQ⟩
def R9:bw:=
 (.seq
 (.ab false [
 oX 3 (.box 3 0)])
 (.seq
 (.ab false [
 oX 6 (.mv (kX 0))])
 (.block 0
 (.loop 0 ⟨[(1,sX),(2,sX),(3,.one (rX 3)),(6,sX)],[(1000000,.row false .aa iX),(3,.box [vX,vX,fX 1000000 1])]⟩ [1000000,3,500000] [(true,3,2,500000,.aa,[])]
 (.seq
 (.seq
 (.ab false [
 oX 8 (.mv 6),
 oX 9 (.ak 1 3),
 oX 10 (.load false 1 9),
 oX 11 (.bin .lss 8 10)])
 (.cond 11
 .skip
 (.exit 0)))
 (.seq
 (.block 1
 (.seq
 (.ab false [
 oX 14 (.ak 2 3),
 oX 15 (.load false 1 14),
 oX 16 (.mv 1),
 oX 17 (.ak 1 3),
 oX 18 (.load false 1 17),
 oX 19 (.bin .mul 16 18),
 oX 20 (.mv 6),
 oX 21 (.bin .add 19 20),
 oX 22 (.bT 1 15 21),
 oX 23 (.load false 1 22),
 oX 7 (.mv 23)])
 (.seq
 (.ab true [
 oX 24 (.ak 2 3),
 oX 25 (.load false 1 24),
 oX 26 (.mv 1),
 oX 27 (.ak 1 3),
 oX 28 (.load false 1 27),
 oX 29 (.bin .mul 26 28),
 oX 30 (.mv 6),
 oX 31 (.bin .add 29 30),
 oX 32 (.ak 2 3),
 oX 33 (.load false 1 32),
 oX 34 (.mv 2),
 oX 35 (.ak 1 3),
 oX 36 (.load false 1 35),
 oX 37 (.bin .mul 34 36),
 oX 38 (.mv 6),
 oX 39 (.bin .add 37 38),
 oX 40 (.bT 1 33 39),
 oX 41 (.load false 1 40),
 oX 42 (.bT 1 25 31),
 uX (.store 1 42 41)])
 (.ab false [
 oX 43 (.ak 2 3),
 oX 44 (.load false 1 43),
 oX 45 (.mv 2),
 oX 46 (.ak 1 3),
 oX 47 (.load false 1 46),
 oX 48 (.bin .mul 45 47),
 oX 49 (.mv 6),
 oX 50 (.bin .add 48 49),
 oX 51 (.mv 7),
 oX 52 (.bT 1 44 50),
 uX (.store 1 52 51)]))))
 (.ab false [
 oX 12 (.mv 6),
 oX 13 (.bin .add 12 (kX 1)),
 oX 6 (.mv 13)])))))))
def Pm:List bA:=[]
theorem aif (NN:Nat) (x:aQ (ao.aP FX)):sV NN [] R9 Pm FX Ij QV x=ER NN x:=by kernel_rfl
theorem afR:bW pX 87 R9.er Pm 3=true:=by decide+kernel
theorem aji:oK pX 87 Ij LU.MM/\bF pX 87=true:=
  wi (T:=[]) (sc:=R9) (ms:=Pm) (args:=FX) (mu:=Ij) (aB:=QV) (az.nil) cu afR rQ fun x y h=>(aif aA x).trans (ac1 x y h)
def LR:aG:=⟨88,FR,ag7,QQ,u4⟩
def R4:bw:=
 (.seq
 (.ab false [
 oX 4 (.mv (kX 0))])
 (.seq
 (.ab false [
 oX 5 (.mv (kX 1))])
 (.seq
 (.seq
 (.ab false [
 oX 7 (.mv 0),
 oX 8 (.bin .sub 7 (kX 2)),
 oX 6 (.mv 8)])
 (.join ⟨[(5,sX)],[]⟩ [] []
 (.block 0
 (.loop 0 ⟨[(0,sX),(1,sX),(5,sX),(6,sX)],[]⟩ [] []
 (.seq
 (.seq
 (.ab false [
 oX 9 (.mv 6),
 oX 10 (.bin .gtr 9 (kX 0))])
 (.cond 10
 .skip
 (.exit 0)))
 (.seq
 (.block 1
 (.seq
 (.seq
 (.ab false [
 oX 13 (.mv 6),
 oX 14 (.bin .rem 13 (kX 2)),
 oX 15 (.bin .eql 14 (kX 1))])
 (.join ⟨[(1,sX),(6,sX),(0,sX),(5,sX)],[]⟩ [] []
 (.cond 15
 (.ab false [
 oX 16 (.mv 5),
 oX 17 (.mv 1),
 oX 18 (.bin .mul 16 17),
 oX 19 (.mv 0),
 oX 20 (.bin .rem 18 19),
 oX 5 (.mv 20)])
 .skip)))
 (.ab false [
 oX 21 (.mv 1),
 oX 22 (.mv 1),
 oX 23 (.bin .mul 21 22),
 oX 24 (.mv 0),
 oX 25 (.bin .rem 23 24),
 oX 1 (.mv 25)])))
 (.ab false [
 oX 11 (.mv 6),
 oX 12 (.bin .quo 11 (kX 2)),
 oX 6 (.mv 12)])))))))
 (.seq
 (.ab false [
 oX 26 (.mv 5),
 oX 4 (.mv 26)])
 .ret))))
def Pg:List bA:=[.tmp 4]
theorem aia (NN:Nat) (x:aQ (ao.aP FR)):cZ NN [] R4 Pg FR QQ x=Kc NN x:=by kernel_rfl
theorem afM:bW pX 88 R4.er Pg 2=true:=by decide+kernel
theorem ajg:cJ pX 88 LR.M/\bF pX 88=true:=
  dd (T:=[]) (sc:=R4) (ms:=Pg) (args:=FR) (aB:=QQ) (az.nil) cu afM u4 fun x y h=>(aia aA x).trans (acX x y h)
def LQ:aG:=⟨89,FQ,Ii,QP,wX⟩
def R3:bw:=
 (.seq
 (.ab false [
 oX 6 (.box 3 1)])
 (.seq
 (.ab false [
 oX 10 (.mv (kX 0))])
 (.block 0
 (.loop 0 ⟨[(0,sX),(2,sX),(3,sX),(4,sX),(6,.one (rX 6)),(10,sX)],[(1000000,.row false .aa iX),(6,.box [vX,vX,fX 1000000 1])]⟩ [1000000,6,500000] [(true,6,2,500000,.aa,[])]
 (.seq
 (.seq
 (.ab false [
 oX 11 (.mv 10),
 oX 12 (.ak 1 6),
 oX 13 (.load false 1 12),
 oX 14 (.bin .lss 11 13)])
 (.cond 14
 .skip
 (.exit 0)))
 (.seq
 (.block 1
 (.ab true [
 oX 17 (.ak 2 6),
 oX 18 (.load false 1 17),
 oX 19 (.mv 2),
 oX 20 (.ak 1 6),
 oX 21 (.load false 1 20),
 oX 22 (.bin .mul 19 21),
 oX 23 (.mv 10),
 oX 24 (.bin .add 22 23),
 oX 25 (.ak 2 6),
 oX 26 (.load false 1 25),
 oX 27 (.mv 2),
 oX 28 (.ak 1 6),
 oX 29 (.load false 1 28),
 oX 30 (.bin .mul 27 29),
 oX 31 (.mv 10),
 oX 32 (.bin .add 30 31),
 oX 33 (.bT 1 26 32),
 oX 34 (.load false 1 33),
 oX 35 (.mv 0),
 oX 36 (.mv 4),
 oX 37 (.bin .sub 35 36),
 oX 38 (.ak 2 6),
 oX 39 (.load false 1 38),
 oX 40 (.mv 3),
 oX 41 (.ak 1 6),
 oX 42 (.load false 1 41),
 oX 43 (.bin .mul 40 42),
 oX 44 (.mv 10),
 oX 45 (.bin .add 43 44),
 oX 46 (.bT 1 39 45),
 oX 47 (.load false 1 46),
 oX 48 (.bin .mul 37 47),
 oX 49 (.bin .add 34 48),
 oX 50 (.mv 0),
 oX 51 (.bin .rem 49 50),
 oX 52 (.bT 1 18 24),
 uX (.store 1 52 51)]))
 (.ab false [
 oX 15 (.mv 10),
 oX 16 (.bin .add 15 (kX 1)),
 oX 10 (.mv 16)])))))))
def Pf:List bA:=[]
theorem ah9 (NN:Nat) (x:aQ (ao.aP FQ)):sV NN [] R3 Pf FQ Ii QP x=EM NN x:=by kernel_rfl
theorem afL:bW pX 89 R3.er Pf 5=true:=by decide+kernel
theorem ajf:oK pX 89 Ii LQ.MM/\bF pX 89=true:=
  wi (T:=[]) (sc:=R3) (ms:=Pf) (args:=FQ) (mu:=Ii) (aB:=QP) (az.nil) cu afL wX fun x y h=>(ah9 aA x).trans (acW x y h)
def Cv:aG:=⟨62,FW,ahb,QU,u5⟩
def R8:bw:=
 (.seq
 (.ab false [
 oX 3 (.box 3 1),
 oX 4 (.alloc [zX,zX,.nil iX]),
 oX 5 (.mv (.k (.one (.nil iX)))),
 oX 6 (.mv (kX 0))])
 (.seq
 (.ab true [
 oX 17 (.ak 0 3),
 oX 18 (.load false 1 17),
 oX 19 (.ak 1 3),
 oX 20 (.load false 1 19),
 oX 21 (.ak 2 3),
 oX 22 (.load false 1 21),
 oX 23 (.call .aa 37 [22]),
 oX 24 (.build [zX,zX,.nil iX] [(0,1,18),(1,1,20),(2,1,23)]),
 oX 7 (.alloc [zX,zX,.nil iX]),
 uX (.store 3 7 24)])
 (.seq
 (.ab false [
 oX 25 (.d8 iX []),
 oX 8 (.mv 25)])
 (.seq
 (.ab false [
 oX 9 (.mv (kX 1))])
 (.seq
 (.seq
 (.ab false [
 oX 10 (.mv (kX 0))])
 (.join ⟨[(7,.one (rX 7)),(8,.one (fX 500023 1)),(9,sX),(4,.one (rX 4))],[(4,.box [vX,vX,fX 500021 1]),(7,.box [vX,vX,fX 500022 1]),(500021,.row true .aa iX),(500022,.row true .aa iX),(500023,.row true .aa iX)]⟩ [3,4,7,500000,500001,500002,500021,500022,500023] [(true,4,2,500021,.aa,[]),(true,7,2,500022,.aa,[]),(false,8,0,500023,.aa,[])]
 (.block 0
 (.loop 0 ⟨[(0,sX),(3,.one (rX 3)),(4,.one (rX 4)),(7,.one (rX 7)),(8,.one (fX 500002 1)),(9,sX),(10,sX)],[(3,.box [vX,vX,.c (.v (lX))]),(4,.box [vX,vX,fX 500000 1]),(7,.box [vX,vX,fX 500001 1]),(500000,.row true .aa iX),(500001,.row true .aa iX),(500002,.row true .aa iX)]⟩ [3,4,24000,7,25,500000,500001,500002,500018,500019,500020] [(true,4,2,500000,.aa,[]),(true,7,2,500001,.aa,[]),(false,8,0,500002,.aa,[])]
 (.seq
 (.seq
 (.ab false [
 oX 26 (.mv 10),
 oX 27 (.ak 1 3),
 oX 28 (.load false 1 27),
 oX 29 (.bin .lss 26 28),
 oX 30 (.mv 29),
 ⟨(some 31),.mv 8,(some (30,true))⟩,
 ⟨(some 32),.len 31,(some (30,true))⟩,
 ⟨(some 33),.ak 0 3,(some (30,true))⟩,
 ⟨(some 34),.load false 1 33,(some (30,true))⟩,
 ⟨(some 35),.bin .lss 32 34,(some (30,true))⟩,
 oX 36 (.pick 30 35 (.k (.one (.v (.bool) (false)))))])
 (.cond 36
 .skip
 (.exit 0)))
 (.seq
 (.join ⟨[(10,sX),(0,sX),(3,.one (rX 3)),(4,.one (rX 4)),(7,.one (rX 7)),(8,.one (fX 500020 1)),(9,sX)],[(3,.box [vX,vX,.c (.v (lX))]),(4,.box [vX,vX,fX 500018 1]),(7,.box [vX,vX,fX 500019 1]),(500018,.row true .aa iX),(500019,.row true .aa iX),(500020,.row true .aa iX)]⟩ [3,4,7,132,133,500000,500001,500002,500015,500016,500018,500019,500020] [(true,4,2,500018,.aa,[]),(true,7,2,500019,.aa,[]),(false,8,0,500020,.aa,[])]
 (.block 1
 (.seq
 (.ab false [
 oX 39 (.mv 8),
 oX 40 (.len 39),
 oX 11 (.mv 40)])
 (.seq
 (.ab false [
 oX 41 (.load true 3 7),
 oX 42 (.mv 11),
 oX 43 (.mv 10),
 oX 44 (.call .aa 86 [41,42,43]),
 oX 12 (.mv 44)])
 (.seq
 (.seq
 (.ab false [
 oX 45 (.mv 12),
 oX 46 (.bin .lss 45 (kX 0))])
 (.cond 46
 (.exit 1)
 .skip))
 (.seq
 (.seq
 (.ab false [
 oX 47 (.mv 12),
 oX 48 (.mv 11),
 oX 49 (.bin .neq 47 48)])
 (.join ⟨[(9,sX),(11,sX),(8,.one (fX 500005 1)),(10,sX),(0,sX),(3,.one (rX 3)),(4,.one (rX 4)),(7,.one (rX 7))],[(3,.box [vX,vX,.c (.v (lX))]),(4,.box [vX,vX,fX 500003 1]),(7,.box [vX,vX,fX 500004 1]),(500003,.row true .aa iX),(500004,.row true .aa iX),(500005,.row true .aa iX)]⟩ [3,4,7,500000,500001,500002,500003,500004,500005] [(true,4,2,500003,.aa,[]),(true,7,2,500004,.aa,[]),(false,8,0,500005,.aa,[])]
 (.cond 49
 (.seq
 (.ab false [
 oX 50 (.load true 3 7),
 oX 51 (.mv 11),
 oX 52 (.mv 12),
 oX 53 (.e9 .aa 87 [50,51,52])])
 (.ab false [
 oX 54 (.mv 0),
 oX 55 (.mv 9),
 oX 56 (.bin .sub 54 55),
 oX 57 (.mv 0),
 oX 58 (.bin .rem 56 57),
 oX 9 (.mv 58)]))
 .skip)))
 (.seq
 (.ab false [
 oX 59 (.ak 2 7),
 oX 60 (.load false 1 59),
 oX 61 (.mv 11),
 oX 62 (.ak 1 3),
 oX 63 (.load false 1 62),
 oX 64 (.bin .mul 61 63),
 oX 65 (.mv 10),
 oX 66 (.bin .add 64 65),
 oX 67 (.bT 1 60 66),
 oX 68 (.load false 1 67),
 oX 13 (.mv 68)])
 (.seq
 (.ab false [
 oX 69 (.mv 9),
 oX 70 (.mv 13),
 oX 71 (.bin .mul 69 70),
 oX 72 (.mv 0),
 oX 73 (.bin .rem 71 72),
 oX 9 (.mv 73)])
 (.seq
 (.ab false [
 oX 74 (.mv 0),
 oX 75 (.mv 13),
 oX 76 (.call .aa 88 [74,75]),
 oX 14 (.mv 76)])
 (.seq
 (.seq
 (.ab false [
 oX 15 (.mv (kX 0))])
 (.join ⟨[(9,sX),(7,.one (rX 7)),(4,.one (rX 4)),(3,.one (rX 3)),(0,sX),(10,sX),(8,.one (fX 500011 1)),(11,sX)],[(3,.box [vX,vX,.c (.v (lX))]),(4,.box [vX,vX,fX 500009 1]),(7,.box [vX,vX,fX 500010 1]),(500009,.row true .aa iX),(500010,.row true .aa iX),(500011,.row true .aa iX)]⟩ [3,4,7,500006,500007,500008,500009,500010,500011] [(true,4,2,500009,.aa,[]),(true,7,2,500010,.aa,[]),(false,8,0,500011,.aa,[])]
 (.block 2
 (.loop 0 ⟨[(0,sX),(3,.one (rX 3)),(4,.one (rX 4)),(7,.one (rX 7)),(8,.one (fX 500008 1)),(9,sX),(10,sX),(11,sX),(14,sX),(15,sX)],[(3,.box [vX,vX,.c (.v (lX))]),(4,.box [vX,vX,fX 500006 1]),(7,.box [vX,vX,fX 500007 1]),(500006,.row true .aa iX),(500007,.row true .aa iX),(500008,.row true .aa iX)]⟩ [3,4,7,500003,500004,500005,500006,500007,500008] [(true,4,2,500006,.aa,[]),(true,7,2,500007,.aa,[]),(false,8,0,500008,.aa,[])]
 (.seq
 (.seq
 (.ab false [
 oX 77 (.mv 15),
 oX 78 (.ak 1 3),
 oX 79 (.load false 1 78),
 oX 80 (.bin .lss 77 79)])
 (.cond 80
 .skip
 (.exit 2)))
 (.seq
 (.block 3
 (.ab true [
 oX 83 (.ak 2 7),
 oX 84 (.load false 1 83),
 oX 85 (.mv 11),
 oX 86 (.ak 1 3),
 oX 87 (.load false 1 86),
 oX 88 (.bin .mul 85 87),
 oX 89 (.mv 15),
 oX 90 (.bin .add 88 89),
 oX 91 (.ak 2 7),
 oX 92 (.load false 1 91),
 oX 93 (.mv 11),
 oX 94 (.ak 1 3),
 oX 95 (.load false 1 94),
 oX 96 (.bin .mul 93 95),
 oX 97 (.mv 15),
 oX 98 (.bin .add 96 97),
 oX 99 (.bT 1 92 98),
 oX 100 (.load false 1 99),
 oX 101 (.mv 14),
 oX 102 (.bin .mul 100 101),
 oX 103 (.mv 0),
 oX 104 (.bin .rem 102 103),
 oX 105 (.bT 1 84 90),
 uX (.store 1 105 104)]))
 (.ab false [
 oX 81 (.mv 15),
 oX 82 (.bin .add 81 (kX 1)),
 oX 15 (.mv 82)])))))))
 (.seq
 (.seq
 (.ab false [
 oX 16 (.mv (kX 0))])
 (.join ⟨[(8,.one (fX 500017 1)),(10,sX),(0,sX),(3,.one (rX 3)),(4,.one (rX 4)),(7,.one (rX 7)),(9,sX)],[(3,.box [vX,vX,.c (.v (lX))]),(4,.box [vX,vX,fX 500015 1]),(7,.box [vX,vX,fX 500016 1]),(500015,.row true .aa iX),(500016,.row true .aa iX),(500017,.row true .aa iX)]⟩ [3,4,7,500012,500013,500014,500015,500016,500017] [(true,4,2,500015,.aa,[]),(true,7,2,500016,.aa,[]),(false,8,0,500017,.aa,[])]
 (.block 4
 (.loop 0 ⟨[(0,sX),(3,.one (rX 3)),(4,.one (rX 4)),(7,.one (rX 7)),(8,.one (fX 500014 1)),(9,sX),(10,sX),(11,sX),(16,sX)],[(3,.box [vX,vX,.c (.v (lX))]),(4,.box [vX,vX,fX 500012 1]),(7,.box [vX,vX,fX 500013 1]),(500012,.row true .aa iX),(500013,.row true .aa iX),(500014,.row true .aa iX)]⟩ [3,4,7,500009,500010,500011,500012,500013,500014] [(true,4,2,500012,.aa,[]),(true,7,2,500013,.aa,[]),(false,8,0,500014,.aa,[])]
 (.seq
 (.seq
 (.ab false [
 oX 106 (.mv 16),
 oX 107 (.ak 0 3),
 oX 108 (.load false 1 107),
 oX 109 (.bin .lss 106 108)])
 (.cond 109
 .skip
 (.exit 4)))
 (.seq
 (.block 5
 (.seq
 (.ab false [
 oX 112 (.mv 16),
 oX 113 (.mv 11),
 oX 114 (.bin .neq 112 113)])
 (.cond 114
 (.ab true [
 oX 115 (.mv 0),
 oX 116 (.load true 3 7),
 oX 117 (.mv 16),
 oX 118 (.mv 11),
 oX 119 (.ak 2 7),
 oX 120 (.load false 1 119),
 oX 121 (.mv 16),
 oX 122 (.ak 1 3),
 oX 123 (.load false 1 122),
 oX 124 (.bin .mul 121 123),
 oX 125 (.mv 10),
 oX 126 (.bin .add 124 125),
 oX 127 (.bT 1 120 126),
 oX 128 (.load false 1 127),
 oX 129 (.e9 .aa 89 [115,116,117,118,128])])
 .skip)))
 (.ab false [
 oX 110 (.mv 16),
 oX 111 (.bin .add 110 (kX 1)),
 oX 16 (.mv 111)])))))))
 (.ab false [
 oX 130 (.mv 8),
 oX 131 (.mv 10),
 oX 132 (.d8 iX [131]),
 oX 133 (.append true iX 8 130 132),
 oX 8 (.mv 133)]))))))))))))
 (.ab false [
 oX 37 (.mv 10),
 oX 38 (.bin .add 37 (kX 1)),
 oX 10 (.mv 38)])))))))
 (.seq
 (.ab false [
 oX 134 (.load true 3 7),
 oX 135 (.mv 8),
 oX 136 (.mv 9),
 uX (.store 3 4 134),
 oX 5 (.mv 135),
 oX 6 (.mv 136)])
 .ret))))))
def Pl:List bA:=[.cell 4 3 true,.tmp 5,.tmp 6]
theorem aie (NN:Nat) (x:aQ (ao.aP FW)):cZ NN [tE,LS,LU,LR,LQ] R8 Pl FW QU x=EQ NN x:=by kernel_rfl
theorem afQ:bW pX 62 R8.er Pl 2=true:=by decide+kernel
theorem Yo:cJ pX 62 Cv.M/\bF pX 62=true:=
  dd (T:=[tE,LS,LU,LR,LQ]) (sc:=R8) (ms:=Pl) (args:=FW) (aB:=QU) (az.cons Iy<|az.cons ajh<|az.nS aji<|az.cons ajg<|az.nS ajf<|az.nil) cu afQ u5 fun x y h=>(aie aA x).trans (ac0 x y h)
def LW:aG:=⟨34,FZ,ahd,QX,za⟩
def Sb:bw:=
 (.seq
 (.ab false [
 oX 1 (.box 5 0),
 oX 2 (.mv (.k (.one (.nil [lX])))),
 oX 3 (.alloc [zX,zX,.nil iX])])
 (.seq
 (.ab false [
 oX 16 (.d8 [lX] []),
 oX 4 (.mv 16)])
 (.seq
 (.ab false [
 oX 17 (.ak 1 1),
 oX 18 (.load false 1 17),
 oX 19 (.build [zX,zX,.nil iX] [(1,1,18)]),
 oX 5 (.alloc [zX,zX,.nil iX]),
 uX (.store 3 5 19)])
 (.seq
 (.ab false [
 oX 20 (.d8 iX []),
 oX 21 (.d8 [lX] [20]),
 oX 6 (.mv 21)])
 (.seq
 (.join ⟨[(4,.one (fX 500025 1)),(5,.one (rX 5)),(3,.one (rX 3))],[(3,.box [vX,vX,fX 500023 1]),(5,.box [vX,vX,fX 500024 1]),(500023,.row true .aa iX),(500024,.row true .aa iX),(500025,.row true .aF [lX])]⟩ [1,3,5,500000,500001,500002,500003,500023,500024,500025] [(true,3,2,500023,.aa,[]),(true,5,2,500024,.aa,[]),(false,4,0,500025,.aF,[])]
 (.block 0
 (.loop 0 ⟨[(1,.one (rX 1)),(3,.one (rX 3)),(4,.one (fX 500002 1)),(5,.one (rX 5)),(6,.one (fX 500003 1))],[(1,.box [vX,vX,.c (.v (lX)),.c (.v (.list mX)),.c (.v (lX))]),(3,.box [vX,vX,fX 500000 1]),(5,.box [vX,vX,fX 500001 1]),(500000,.row true .aa iX),(500001,.row true .aa iX),(500002,.row true .aF [lX]),(500003,.row true .aa [lX])]⟩ [1,3,16,5,21,500000,500001,500002,500003,500019,500020,500021,500022] [(true,3,2,500000,.aa,[]),(true,5,2,500001,.aa,[]),(false,4,0,500002,.aF,[]),(false,6,0,500003,.aa,[])]
 (.seq
 (.seq
 (.ab false [
 oX 22 (.mv 6),
 oX 23 (.len 22),
 oX 24 (.bin .gtr 23 (kX 0))])
 (.cond 24
 .skip
 (.exit 0)))
 (.block 1
 (.seq
 (.ab false [
 oX 25 (.d8 [lX] []),
 oX 7 (.mv 25)])
 (.seq
 (.seq
 (.ab false [
 oX 26 (.mv 6),
 oX 27 (.len 26),
 oX 28 (.mv (kX 0))])
 (.join ⟨[(7,.one (fX 500021 1)),(1,.one (rX 1)),(3,.one (rX 3)),(4,.one (fX 500022 1)),(5,.one (rX 5))],[(1,.box [vX,vX,.c (.v (lX)),.c (.v (.list mX)),.c (.v (lX))]),(3,.box [vX,vX,fX 500019 1]),(5,.box [vX,vX,fX 500020 1]),(500019,.row true .aa iX),(500020,.row true .aa iX),(500021,.row true .aa [lX]),(500022,.row true .aF [lX])]⟩ [1,3,5,500004,500005,500006,500007,500008,500019,500020,500021,500022] [(true,3,2,500019,.aa,[]),(true,5,2,500020,.aa,[]),(false,7,0,500021,.aa,[]),(false,4,0,500022,.aF,[])]
 (.block 2
 (.loop 0 ⟨[(1,.one (rX 1)),(3,.one (rX 3)),(4,.one (fX 500006 1)),(5,.one (rX 5)),(7,.one (fX 500007 1)),(26,.one (fX 500008 1)),(27,sX),(28,sX)],[(1,.box [vX,vX,.c (.v (lX)),.c (.v (.list mX)),.c (.v (lX))]),(3,.box [vX,vX,fX 500004 1]),(5,.box [vX,vX,fX 500005 1]),(500004,.row true .aa iX),(500005,.row true .aa iX),(500006,.row true .aF [lX]),(500007,.row true .aa [lX]),(500008,.row true .aa [lX])]⟩ [1,3,5,25,500000,500001,500002,500003,500004,500005,500006,500007,500008,500014,500015,500016,500017,500018] [(true,3,2,500004,.aa,[]),(true,5,2,500005,.aa,[]),(false,4,0,500006,.aF,[]),(false,7,0,500007,.aa,[]),(false,26,0,500008,.aa,[])]
 (.seq
 (.ab false [
 oX 29 (.bin .lss 28 27)])
 (.seq
 (.cond 29
 .skip
 (.exit 2))
 (.seq
 (.join ⟨[(28,sX),(1,.one (rX 1)),(3,.one (rX 3)),(4,.one (fX 500016 1)),(5,.one (rX 5)),(7,.one (fX 500017 1)),(26,.one (fX 500018 1)),(27,sX)],[(1,.box [vX,vX,.c (.v (lX)),.c (.v (.list mX)),.c (.v (lX))]),(3,.box [vX,vX,fX 500014 1]),(5,.box [vX,vX,fX 500015 1]),(500014,.row true .aa iX),(500015,.row true .aa iX),(500016,.row true .aF [lX]),(500017,.row true .aa [lX]),(500018,.row true .aa [lX])]⟩ [1,3,5,35000,44,11,51000,51001,12,500004,500005,500006,500007,500008,500009,500010,500011,500012,500013,500014,500015,500016,500017,500018] [(true,3,2,500014,.aa,[]),(true,5,2,500015,.aa,[]),(false,4,0,500016,.aF,[]),(false,7,0,500017,.aa,[]),(false,26,0,500018,.aa,[])]
 (.block 3
 (.seq
 (.ab false [
 oX 30 (.bT 1 26 28),
 oX 31 (.load false 1 30),
 oX 9 (.mv 31)])
 (.seq
 (.ab false [
 oX 32 (.load true 5 1),
 oX 33 (.mv 9),
 oX 34 (.call .aa 36 [32,33]),
 oX 10 (.mv 34)])
 (.seq
 (.nF [(0,9),(1,9),(3,9),(4,9),(9,11)] [
 oX 35 (.ak 0 5),
 oX 36 (.load false 1 35),
 oX 37 (.bin .add 36 (kX 1)),
 oX 38 (.ak 1 1),
 oX 39 (.load false 1 38),
 oX 40 (.ak 2 5),
 oX 41 (.load false 1 40),
 oX 42 (.call .aa 37 [41]),
 oX 43 (.mv 10),
 oX 44 (.append true iX 8 42 43),
 oX 45 (.build [zX,zX,.nil iX] [(0,1,37),(1,1,39),(2,1,44)]),
 oX 11 (.alloc [zX,zX,.nil iX]),
 uX (.store 3 11 45)])
 (.seq
 (.ab false [
 oX 47 (.ak 0 1),
 oX 48 (.load false 1 47),
 oX 49 (.load true 3 11),
 oX 50 (.call .aa 62 [48,49]),
 oX 46 (.mv 50),
 oX 51 (.ext 0 46),
 oX 52 (.ext 1 46),
 oX 53 (.ext 2 46),
 oX 12 (.alloc [zX,zX,.nil iX]),
 uX (.store 3 12 51),
 oX 13 (.mv 52),
 oX 14 (.mv 53)])
 (.seq
 (.seq
 (.ab false [
 oX 54 (.mv 13),
 oX 55 (.len 54),
 oX 56 (.ak 0 5),
 oX 57 (.load false 1 56),
 oX 58 (.bin .leq 55 57)])
 (.cond 58
 (.exit 3)
 .skip))
 (.seq
 (.ab false [
 oX 59 (.load true 3 11),
 uX (.store 3 5 59)])
 (.seq
 (.ab false [
 oX 60 (.mv 4),
 oX 61 (.mv 9),
 oX 62 (.d8 [lX] [61]),
 oX 63 (.append false [lX] 24 60 62),
 oX 4 (.mv 63)])
 (.seq
 (.ab false [
 oX 64 (.ak 3 1),
 oX 65 (.load false 1 64),
 oX 66 (.len 65),
 oX 67 (.mv (kX 0))])
 (.block 4
 (.loop 0 ⟨[(1,.one (rX 1)),(3,.one (rX 3)),(4,.one (fX 500011 1)),(5,.one (rX 5)),(7,.one (fX 500012 1)),(9,.one (.c (.v (lX)))),(26,.one (fX 500013 1)),(27,sX),(28,sX),(66,sX),(67,sX)],[(1,.box [vX,vX,.c (.v (lX)),.c (.v (.list mX)),.c (.v (lX))]),(3,.box [vX,vX,fX 500009 1]),(5,.box [vX,vX,fX 500010 1]),(500009,.row true .aa iX),(500010,.row true .aa iX),(500011,.row true .aF [lX]),(500012,.row true .aa [lX]),(500013,.row true .aa [lX])]⟩ [1,3,5,35000,44,11,51000,51001,12,63,74,77,500004,500005,500007,500008,500009,500010,500011,500012,500013] [(true,3,2,500009,.aa,[]),(true,5,2,500010,.aa,[]),(false,4,0,500011,.aF,[]),(false,7,0,500012,.aa,[]),(false,26,0,500013,.aa,[])]
 (.seq
 (.ab false [
 oX 68 (.bin .lss 67 66)])
 (.seq
 (.cond 68
 .skip
 (.exit 4))
 (.seq
 (.block 5
 (.seq
 (.ab false [
 oX 69 (.mv 67),
 oX 15 (.mv 69)])
 (.ab false [
 oX 70 (.mv 7),
 oX 71 (.mv 9),
 oX 72 (.call .aa 37 [71]),
 oX 73 (.mv 15),
 oX 74 (.d8 iX [73]),
 oX 75 (.append true iX 8 72 74),
 oX 76 (.d8 [lX] [75]),
 oX 77 (.append false [lX] 24 70 76),
 oX 7 (.mv 77)])))
 (.ab false [
 oX 78 (.bin .add 67 (kX 1)),
 oX 67 (.mv 78)]))))))))))))))))
 (.ab false [
 oX 79 (.bin .add 28 (kX 1)),
 oX 28 (.mv 79)]))))))))
 (.ab false [
 oX 80 (.mv 7),
 oX 6 (.mv 80)]))))))))
 (.seq
 (.ab true [
 oX 81 (.mv 4),
 oX 82 (.load true 3 5),
 oX 2 (.mv 81),
 uX (.store 3 3 82)])
 .ret))))))
def Po:List bA:=[.tmp 2,.cell 3 3 true]
theorem aii (NN:Nat) (x:aQ (ao.aP FZ)):IK NN [LZ,tE,Cv] Sb Po FZ QX x=ET NN x:=by kernel_rfl
theorem afT:bW pX 34 Sb.er Po 1=true:=by decide+kernel
theorem ajk:xc Go.Proofs.Try.prog 34 LW.MV/\bF pX 34=true:=
  aah (T:=[LZ,tE,Cv]) (sc:=Sb) (ms:=Po) (args:=FZ) (aB:=QX) (az.cons ajn<|az.cons Iy<|az.cons Yo<|az.nil) cu afT za fun x y h=>(aii aA x).trans (ac3 x y h)
def LX:aG:=⟨35,F0,ahe,QY,zb⟩
def Sc:bw:=
 (.seq
 (.ab false [
 oX 6 (.mv (kX 0))])
 (.seq
 (.ab false [
 oX 7 (.mv (kX 0))])
 (.seq
 (.seq
 (.ab false [
 oX 10 (.mv 1),
 oX 11 (.len 10),
 oX 12 (.mv (kX 0))])
 (.join ⟨[(7,sX)],[]⟩ [] []
 (.block 0
 (.loop 0 ⟨[(0,sX),(2,.one (.c (.v (lX)))),(7,sX),(10,.one (.c (.v (lX)))),(11,sX),(12,sX)],[]⟩ [] []
 (.seq
 (.ab false [
 oX 13 (.bin .lss 12 11)])
 (.seq
 (.cond 13
 .skip
 (.exit 0))
 (.seq
 (.block 1
 (.seq
 (.ab false [
 oX 14 (.mv 12),
 oX 15 (.bT 1 10 12),
 oX 16 (.load false 1 15),
 oX 8 (.mv 14),
 oX 9 (.mv 16)])
 (.ab false [
 oX 17 (.mv 7),
 oX 18 (.mv 9),
 oX 19 (.mv 2),
 oX 20 (.mv 8),
 oX 21 (.bT 1 19 20),
 oX 22 (.load false 1 21),
 oX 23 (.bin .mul 18 22),
 oX 24 (.bin .add 17 23),
 oX 25 (.mv 0),
 oX 26 (.bin .rem 24 25),
 oX 7 (.mv 26)])))
 (.ab false [
 oX 27 (.bin .add 12 (kX 1)),
 oX 12 (.mv 27)]))))))))
 (.seq
 (.ab false [
 oX 28 (.mv 7),
 oX 6 (.mv 28)])
 .ret))))
def Pp:List bA:=[.tmp 6]
theorem aij (NN:Nat) (x:aQ (ao.aP F0)):cZ NN [] Sc Pp F0 QY x=Kd NN x:=by kernel_rfl
theorem afU:bW pX 35 Sc.er Pp 3=true:=by decide+kernel
theorem ajl:cJ pX 35 LX.M/\bF pX 35=true:=
  dd (T:=[]) (sc:=Sc) (ms:=Pp) (args:=F0) (aB:=QY) (az.nil) cu afU zb fun x y h=>(aij aA x).trans (ac4 x y h)
def L5:aG:=⟨79,F7,ahj,Q3,wZ⟩
def Sh:bw:=
 (.seq
 (.ab false [
 oX 4 (.box 3 1),
 oX 5 (.box 3 2),
 oX 6 (.alloc [zX,zX,.nil iX])])
 (.seq
 (.ab false [
 oX 17 (.ak 1 4),
 oX 18 (.load false 1 17),
 oX 19 (.ak 0 4),
 oX 20 (.load false 1 19),
 oX 21 (.ak 0 5),
 oX 22 (.load false 1 21),
 oX 23 (.bin .add 20 22),
 oX 24 (.call .aa 61 [18,23]),
 oX 7 (.alloc [zX,zX,.nil iX]),
 uX (.store 3 7 24)])
 (.seq
 (.seq
 (.ab false [
 oX 8 (.mv (kX 0))])
 (.join ⟨[(0,sX),(6,.one (rX 6)),(7,.one (rX 7)),(4,.one (rX 4)),(5,.one (rX 5))],[(4,.box [vX,vX,.c (.v (lX))]),(5,.box [vX,vX,.c (.v (lX))]),(6,.box [vX,vX,fX 500010 1]),(7,.box [vX,vX,fX 500011 1]),(500010,.row true .aa iX),(500011,.row true .aa iX)]⟩ [4,5,6,7,500000,500001,500010,500011] [(true,6,2,500010,.aa,[]),(true,7,2,500011,.aa,[])]
 (.block 0
 (.loop 0 ⟨[(0,sX),(4,.one (rX 4)),(5,.one (rX 5)),(6,.one (rX 6)),(7,.one (rX 7)),(8,sX)],[(4,.box [vX,vX,.c (.v (lX))]),(5,.box [vX,vX,.c (.v (lX))]),(6,.box [vX,vX,fX 500000 1]),(7,.box [vX,vX,fX 500001 1]),(500000,.row true .aa iX),(500001,.row true .aa iX)]⟩ [4,5,6,25000,7,500000,500001,500008,500009] [(true,6,2,500000,.aa,[]),(true,7,2,500001,.aa,[])]
 (.seq
 (.seq
 (.ab false [
 oX 25 (.mv 8),
 oX 26 (.ak 1 4),
 oX 27 (.load false 1 26),
 oX 28 (.bin .lss 25 27)])
 (.cond 28
 .skip
 (.exit 0)))
 (.seq
 (.join ⟨[(8,sX),(0,sX),(4,.one (rX 4)),(5,.one (rX 5)),(6,.one (rX 6)),(7,.one (rX 7))],[(4,.box [vX,vX,.c (.v (lX))]),(5,.box [vX,vX,.c (.v (lX))]),(6,.box [vX,vX,fX 500008 1]),(7,.box [vX,vX,fX 500009 1]),(500008,.row true .aa iX),(500009,.row true .aa iX)]⟩ [4,5,6,7,500006,500007,500008,500009] [(true,6,2,500008,.aa,[]),(true,7,2,500009,.aa,[])]
 (.block 1
 (.seq
 (.seq
 (.ab false [
 oX 9 (.mv (kX 0))])
 (.join ⟨[(7,.one (rX 7)),(6,.one (rX 6)),(5,.one (rX 5)),(4,.one (rX 4)),(0,sX),(8,sX)],[(4,.box [vX,vX,.c (.v (lX))]),(5,.box [vX,vX,.c (.v (lX))]),(6,.box [vX,vX,fX 500004 1]),(7,.box [vX,vX,fX 500005 1]),(500004,.row true .aa iX),(500005,.row true .aa iX)]⟩ [4,5,6,7,500002,500003,500004,500005] [(true,6,2,500004,.aa,[]),(true,7,2,500005,.aa,[])]
 (.block 2
 (.loop 0 ⟨[(0,sX),(4,.one (rX 4)),(5,.one (rX 5)),(6,.one (rX 6)),(7,.one (rX 7)),(8,sX),(9,sX)],[(4,.box [vX,vX,.c (.v (lX))]),(5,.box [vX,vX,.c (.v (lX))]),(6,.box [vX,vX,fX 500002 1]),(7,.box [vX,vX,fX 500003 1]),(500002,.row true .aa iX),(500003,.row true .aa iX)]⟩ [4,5,6,7,500000,500001,500002,500003] [(true,6,2,500002,.aa,[]),(true,7,2,500003,.aa,[])]
 (.seq
 (.seq
 (.ab false [
 oX 31 (.mv 9),
 oX 32 (.ak 0 4),
 oX 33 (.load false 1 32),
 oX 34 (.bin .lss 31 33)])
 (.cond 34
 .skip
 (.exit 2)))
 (.seq
 (.block 3
 (.ab true [
 oX 37 (.ak 2 7),
 oX 38 (.load false 1 37),
 oX 39 (.mv 8),
 oX 40 (.ak 1 7),
 oX 41 (.load false 1 40),
 oX 42 (.bin .mul 39 41),
 oX 43 (.mv 9),
 oX 44 (.bin .add 42 43),
 oX 45 (.ak 2 4),
 oX 46 (.load false 1 45),
 oX 47 (.mv 9),
 oX 48 (.ak 1 4),
 oX 49 (.load false 1 48),
 oX 50 (.bin .mul 47 49),
 oX 51 (.mv 8),
 oX 52 (.bin .add 50 51),
 oX 53 (.bT 1 46 52),
 oX 54 (.load false 1 53),
 oX 55 (.bT 1 38 44),
 uX (.store 1 55 54)]))
 (.ab false [
 oX 35 (.mv 9),
 oX 36 (.bin .add 35 (kX 1)),
 oX 9 (.mv 36)])))))))
 (.seq
 (.ab false [
 oX 10 (.mv (kX 0))])
 (.block 4
 (.loop 0 ⟨[(0,sX),(4,.one (rX 4)),(5,.one (rX 5)),(6,.one (rX 6)),(7,.one (rX 7)),(8,sX),(10,sX)],[(4,.box [vX,vX,.c (.v (lX))]),(5,.box [vX,vX,.c (.v (lX))]),(6,.box [vX,vX,fX 500006 1]),(7,.box [vX,vX,fX 500007 1]),(500006,.row true .aa iX),(500007,.row true .aa iX)]⟩ [4,5,6,7,500004,500005,500006,500007] [(true,6,2,500006,.aa,[]),(true,7,2,500007,.aa,[])]
 (.seq
 (.seq
 (.ab false [
 oX 56 (.mv 10),
 oX 57 (.ak 0 5),
 oX 58 (.load false 1 57),
 oX 59 (.bin .lss 56 58)])
 (.cond 59
 .skip
 (.exit 4)))
 (.seq
 (.block 5
 (.ab true [
 oX 62 (.ak 2 7),
 oX 63 (.load false 1 62),
 oX 64 (.mv 8),
 oX 65 (.ak 1 7),
 oX 66 (.load false 1 65),
 oX 67 (.bin .mul 64 66),
 oX 68 (.ak 0 4),
 oX 69 (.load false 1 68),
 oX 70 (.bin .add 67 69),
 oX 71 (.mv 10),
 oX 72 (.bin .add 70 71),
 oX 73 (.ak 2 5),
 oX 74 (.load false 1 73),
 oX 75 (.mv 10),
 oX 76 (.ak 1 5),
 oX 77 (.load false 1 76),
 oX 78 (.bin .mul 75 77),
 oX 79 (.mv 8),
 oX 80 (.bin .add 78 79),
 oX 81 (.bT 1 74 80),
 oX 82 (.load false 1 81),
 oX 83 (.bT 1 63 72),
 uX (.store 1 83 82)]))
 (.ab false [
 oX 60 (.mv 10),
 oX 61 (.bin .add 60 (kX 1)),
 oX 10 (.mv 61)])))))))))
 (.ab false [
 oX 29 (.mv 8),
 oX 30 (.bin .add 29 (kX 1)),
 oX 8 (.mv 30)])))))))
 (.seq
 (.ab false [
 oX 85 (.mv 0),
 oX 86 (.load true 3 7),
 oX 87 (.call .aa 62 [85,86]),
 oX 84 (.mv 87),
 oX 88 (.ext 0 84),
 oX 89 (.ext 1 84),
 oX 90 (.ext 2 84),
 oX 11 (.alloc [zX,zX,.nil iX]),
 uX (.store 3 11 88),
 oX 12 (.mv 89),
 oX 13 (.mv 90)])
 (.seq
 (.ab false [
 oX 91 (.ak 0 5),
 oX 92 (.load false 1 91),
 oX 93 (.ak 0 4),
 oX 94 (.load false 1 93),
 oX 95 (.call .aa 61 [92,94]),
 oX 14 (.alloc [zX,zX,.nil iX]),
 uX (.store 3 14 95)])
 (.seq
 (.seq
 (.ab false [
 oX 15 (.mv (kX 0))])
 (.join ⟨[(14,.one (rX 14)),(6,.one (rX 6))],[(6,.box [vX,vX,fX 500024 1]),(14,.box [vX,vX,fX 500025 1]),(500024,.row true .aa iX),(500025,.row true .aa iX)]⟩ [4,5,6,7,11,14,500012,500013,500014,500015,500024,500025] [(true,6,2,500024,.aa,[]),(true,14,2,500025,.aa,[])]
 (.block 6
 (.loop 0 ⟨[(4,.one (rX 4)),(5,.one (rX 5)),(6,.one (rX 6)),(7,.one (rX 7)),(11,.one (rX 11)),(14,.one (rX 14)),(15,sX)],[(4,.box [vX,vX,.c (.v (lX))]),(5,.box [vX,vX,.c (.v (lX))]),(6,.box [vX,vX,fX 500012 1]),(7,.box [vX,vX,fX 500013 1]),(11,.box [vX,vX,fX 500014 1]),(14,.box [vX,vX,fX 500015 1]),(500012,.row true .aa iX),(500013,.row true .aa iX),(500014,.row true .aa iX),(500015,.row true .aa iX)]⟩ [4,5,6,7,88000,88001,11,96000,14,500010,500011,500012,500013,500014,500015,500020,500021,500022,500023] [(true,6,2,500012,.aa,[]),(true,7,2,500013,.aa,[]),(true,11,2,500014,.aa,[]),(true,14,2,500015,.aa,[])]
 (.seq
 (.seq
 (.ab false [
 oX 96 (.mv 15),
 oX 97 (.ak 0 5),
 oX 98 (.load false 1 97),
 oX 99 (.bin .lss 96 98)])
 (.cond 99
 .skip
 (.exit 6)))
 (.seq
 (.join ⟨[(15,sX),(4,.one (rX 4)),(5,.one (rX 5)),(6,.one (rX 6)),(7,.one (rX 7)),(11,.one (rX 11)),(14,.one (rX 14))],[(4,.box [vX,vX,.c (.v (lX))]),(5,.box [vX,vX,.c (.v (lX))]),(6,.box [vX,vX,fX 500020 1]),(7,.box [vX,vX,fX 500021 1]),(11,.box [vX,vX,fX 500022 1]),(14,.box [vX,vX,fX 500023 1]),(500020,.row true .aa iX),(500021,.row true .aa iX),(500022,.row true .aa iX),(500023,.row true .aa iX)]⟩ [4,5,6,7,11,14,500016,500017,500018,500019,500020,500021,500022,500023] [(true,6,2,500020,.aa,[]),(true,7,2,500021,.aa,[]),(true,11,2,500022,.aa,[]),(true,14,2,500023,.aa,[])]
 (.block 7
 (.seq
 (.ab false [
 oX 16 (.mv (kX 0))])
 (.block 8
 (.loop 0 ⟨[(4,.one (rX 4)),(5,.one (rX 5)),(6,.one (rX 6)),(7,.one (rX 7)),(11,.one (rX 11)),(14,.one (rX 14)),(15,sX),(16,sX)],[(4,.box [vX,vX,.c (.v (lX))]),(5,.box [vX,vX,.c (.v (lX))]),(6,.box [vX,vX,fX 500016 1]),(7,.box [vX,vX,fX 500017 1]),(11,.box [vX,vX,fX 500018 1]),(14,.box [vX,vX,fX 500019 1]),(500016,.row true .aa iX),(500017,.row true .aa iX),(500018,.row true .aa iX),(500019,.row true .aa iX)]⟩ [4,5,6,7,11,14,500012,500013,500014,500015,500016,500017,500018,500019] [(true,6,2,500016,.aa,[]),(true,7,2,500017,.aa,[]),(true,11,2,500018,.aa,[]),(true,14,2,500019,.aa,[])]
 (.seq
 (.seq
 (.ab false [
 oX 102 (.mv 16),
 oX 103 (.ak 0 4),
 oX 104 (.load false 1 103),
 oX 105 (.bin .lss 102 104)])
 (.cond 105
 .skip
 (.exit 8)))
 (.seq
 (.block 9
 (.ab true [
 oX 108 (.ak 2 14),
 oX 109 (.load false 1 108),
 oX 110 (.mv 15),
 oX 111 (.ak 0 4),
 oX 112 (.load false 1 111),
 oX 113 (.bin .mul 110 112),
 oX 114 (.mv 16),
 oX 115 (.bin .add 113 114),
 oX 116 (.ak 2 11),
 oX 117 (.load false 1 116),
 oX 118 (.mv 16),
 oX 119 (.ak 1 7),
 oX 120 (.load false 1 119),
 oX 121 (.bin .mul 118 120),
 oX 122 (.ak 0 4),
 oX 123 (.load false 1 122),
 oX 124 (.bin .add 121 123),
 oX 125 (.mv 15),
 oX 126 (.bin .add 124 125),
 oX 127 (.bT 1 117 126),
 oX 128 (.load false 1 127),
 oX 129 (.bT 1 109 115),
 uX (.store 1 129 128)]))
 (.ab false [
 oX 106 (.mv 16),
 oX 107 (.bin .add 106 (kX 1)),
 oX 16 (.mv 107)]))))))))
 (.ab false [
 oX 100 (.mv 15),
 oX 101 (.bin .add 100 (kX 1)),
 oX 15 (.mv 101)])))))))
 (.seq
 (.ab false [
 oX 130 (.load true 3 14),
 uX (.store 3 6 130)])
 .ret)))))))
def Pu:List bA:=[.cell 6 3 true]
theorem aio (NN:Nat) (x:aQ (ao.aP F7)):cZ NN [xx,Cv] Sh Pu F7 Q3 x=Kh NN x:=by kernel_rfl
theorem afZ:bW pX 79 Sh.er Pu 3=true:=by decide+kernel
theorem ajq:cJ pX 79 L5.M/\bF pX 79=true:=
  dd (T:=[xx,Cv]) (sc:=Sh) (ms:=Pu) (args:=F7) (aB:=Q3) (az.cons PK<|az.cons Yo<|az.nil) cu afZ wZ fun x y h=>(aio aA x).trans (ac9 x y h)
def LY:aG:=⟨49,F3,ahf,QZ,th⟩
def Sd:bw:=
 (.seq
 (.ab false [
 oX 1 (.box 5 0),
 oX 2 (.alloc [zX,zX,.nil iX,.nil mX,.nil iX])])
 (.seq
 (.ab false [
 oX 11 (.load true 5 1),
 oX 12 (.jv 34 [11]),
 oX 10 (.mv 12),
 oX 13 (.ext 0 10),
 oX 14 (.ext 1 10),
 oX 4 (.alloc [zX,zX,.nil iX]),
 oX 3 (.mv 13),
 uX (.store 3 4 14)])
 (.seq
 (.ab false [
 oX 15 (.mv 3),
 oX 16 (.len 15),
 oX 5 (.mv 16)])
 (.seq
 (.ab true [
 oX 17 (.ak 0 1),
 oX 18 (.load false 1 17),
 oX 19 (.mv 5),
 oX 20 (.mv 5),
 oX 21 (.kB .aa iX 8 (0:Int) 20 20),
 oX 22 (.build [zX,zX,.nil iX,.nil mX,.nil iX] [(0,1,18),(1,1,19),(2,1,21)]),
 oX 6 (.alloc [zX,zX,.nil iX,.nil mX,.nil iX]),
 uX (.store 5 6 22)])
 (.seq
 (.seq
 (.ab false [
 oX 23 (.mv 5),
 oX 24 (.bin .gtr 23 (kX 0))])
 (.join ⟨[(4,.one (rX 4)),(1,.one (rX 1)),(6,.one (rX 6)),(2,.one (rX 2)),(5,sX)],[(1,.box [vX,vX,.c (.v (lX)),.c (.v (.list mX)),.c (.v (lX))]),(2,.box [vX,vX,fX 500000 1,fX 500001 3,fX 500002 1]),(4,.box [vX,vX,.c (.v (lX))]),(6,.box [vX,vX,fX 500003 1,fX 500004 3,fX 500005 1]),(500000,.row true .aa iX),(500001,.row true .aa mX),(500002,.row true .aa iX),(500003,.row true .aa iX),(500004,.row true .aa mX),(500005,.row true .aa iX)]⟩ [1,2,4,21,6,500000,500001,500002,500003,500004,500005] [(true,2,2,500000,.aa,[]),(true,2,3,500001,.aa,[]),(true,2,4,500002,.aa,[]),(true,6,2,500003,.aa,[]),(true,6,3,500004,.aa,[]),(true,6,4,500005,.aa,[])]
 (.cond 24
 (.ab false [
 oX 25 (.ak 2 6),
 oX 26 (.load false 1 25),
 oX 27 (.bT 1 26 (kX 0)),
 uX (.store 1 27 (kX 1))])
 .skip)))
 (.seq
 (.seq
 (.ab false [
 oX 7 (.mv (kX 0))])
 (.join ⟨[(2,.one (rX 2)),(6,.one (rX 6)),(1,.one (rX 1)),(4,.one (rX 4))],[(1,.box [vX,vX,.c (.v (lX)),.c (.v (.list mX)),.c (.v (lX))]),(2,.box [vX,vX,fX 500012 1,fX 500013 3,fX 500014 1]),(4,.box [vX,vX,.c (.v (lX))]),(6,.box [vX,vX,fX 500015 1,fX 500016 3,fX 500017 1]),(500012,.row true .aa iX),(500013,.row true .aa mX),(500014,.row true .aa iX),(500015,.row true .aa iX),(500016,.row true .aa mX),(500017,.row true .aa iX)]⟩ [1,2,4,6,500006,500007,500008,500009,500010,500011,500012,500013,500014,500015,500016,500017] [(true,2,2,500012,.aa,[]),(true,2,3,500013,.aa,[]),(true,2,4,500014,.aa,[]),(true,6,2,500015,.aa,[]),(true,6,3,500016,.aa,[]),(true,6,4,500017,.aa,[])]
 (.block 0
 (.loop 0 ⟨[(1,.one (rX 1)),(2,.one (rX 2)),(4,.one (rX 4)),(5,sX),(6,.one (rX 6)),(7,sX)],[(1,.box [vX,vX,.c (.v (lX)),.c (.v (.list mX)),.c (.v (lX))]),(2,.box [vX,vX,fX 500006 1,fX 500007 3,fX 500008 1]),(4,.box [vX,vX,.c (.v (lX))]),(6,.box [vX,vX,fX 500009 1,fX 500010 3,fX 500011 1]),(500006,.row true .aa iX),(500007,.row true .aa mX),(500008,.row true .aa iX),(500009,.row true .aa iX),(500010,.row true .aa mX),(500011,.row true .aa iX)]⟩ [1,2,4,6,52,53,500000,500001,500002,500003,500004,500005,500006,500007,500008,500009,500010,500011] [(true,2,2,500006,.aa,[]),(true,2,3,500007,.aa,[]),(true,2,4,500008,.aa,[]),(true,6,2,500009,.aa,[]),(true,6,3,500010,.aa,[]),(true,6,4,500011,.aa,[])]
 (.seq
 (.seq
 (.ab false [
 oX 28 (.mv 7),
 oX 29 (.mv 5),
 oX 30 (.bin .lss 28 29)])
 (.cond 30
 .skip
 (.exit 0)))
 (.seq
 (.block 1
 (.nF [(0,19),(1,19)] [
 oX 33 (.ak 4 6),
 oX 34 (.load false 1 33),
 oX 35 (.ak 0 1),
 oX 36 (.load false 1 35),
 oX 37 (.ak 2 4),
 oX 38 (.load false 1 37),
 oX 39 (.mv 7),
 oX 40 (.ak 1 1),
 oX 41 (.load false 1 40),
 oX 42 (.bin .mul 39 41),
 oX 43 (.mv 7),
 oX 44 (.bin .add 43 (kX 1)),
 oX 45 (.ak 1 1),
 oX 46 (.load false 1 45),
 oX 47 (.bin .mul 44 46),
 oX 48 (.slice 1 38 (some 42) (some 47)),
 oX 49 (.ak 4 1),
 oX 50 (.load false 1 49),
 oX 51 (.call .aa 35 [36,48,50]),
 oX 52 (.d8 iX [51]),
 oX 53 (.append true iX 8 34 52),
 oX 54 (.ak 4 6),
 uX (.store 1 54 53)]))
 (.ab false [
 oX 31 (.mv 7),
 oX 32 (.bin .add 31 (kX 1)),
 oX 7 (.mv 32)])))))))
 (.seq
 (.seq
 (.ab false [
 oX 55 (.ak 3 1),
 oX 56 (.load false 1 55),
 oX 57 (.len 56),
 oX 58 (.mv (kX 0))])
 (.join ⟨[(6,.one (rX 6)),(2,.one (rX 2))],[(2,.box [vX,vX,fX 500024 1,fX 500025 3,fX 500026 1]),(6,.box [vX,vX,fX 500027 1,fX 500028 3,fX 500029 1]),(500024,.row true .aa iX),(500025,.row true .aa mX),(500026,.row true .aa iX),(500027,.row true .aa iX),(500028,.row true .aa mX),(500029,.row true .aa iX)]⟩ [1,2,4,6,500018,500019,500020,500021,500022,500023,500024,500025,500026,500027,500028,500029] [(true,2,2,500024,.aa,[]),(true,2,3,500025,.aa,[]),(true,2,4,500026,.aa,[]),(true,6,2,500027,.aa,[]),(true,6,3,500028,.aa,[]),(true,6,4,500029,.aa,[])]
 (.block 2
 (.loop 0 ⟨[(1,.one (rX 1)),(2,.one (rX 2)),(4,.one (rX 4)),(6,.one (rX 6)),(56,.one (.c (.v (.list mX)))),(57,sX),(58,sX)],[(1,.box [vX,vX,.c (.v (lX)),.c (.v (.list mX)),.c (.v (lX))]),(2,.box [vX,vX,fX 500018 1,fX 500019 3,fX 500020 1]),(4,.box [vX,vX,.c (.v (lX))]),(6,.box [vX,vX,fX 500021 1,fX 500022 3,fX 500023 1]),(500018,.row true .aa iX),(500019,.row true .aa mX),(500020,.row true .aa iX),(500021,.row true .aa iX),(500022,.row true .aa mX),(500023,.row true .aa iX)]⟩ [1,2,4,6,9,72000,74,500012,500013,500014,500015,500016,500017,500018,500019,500020,500021,500022,500023] [(true,2,2,500018,.aa,[]),(true,2,3,500019,.aa,[]),(true,2,4,500020,.aa,[]),(true,6,2,500021,.aa,[]),(true,6,3,500022,.aa,[]),(true,6,4,500023,.aa,[])]
 (.seq
 (.ab false [
 oX 59 (.bin .lss 58 57)])
 (.seq
 (.cond 59
 .skip
 (.exit 2))
 (.seq
 (.block 3
 (.seq
 (.ab false [
 oX 60 (.bT 3 56 58),
 oX 61 (.load true 3 60),
 oX 9 (.alloc [zX,zX,.nil iX]),
 uX (.store 3 9 61)])
 (.nF [(0,11),(1,11)] [
 oX 62 (.ak 3 6),
 oX 63 (.load false 1 62),
 oX 64 (.ak 0 1),
 oX 65 (.load false 1 64),
 oX 66 (.load true 3 4),
 oX 67 (.ak 0 1),
 oX 68 (.load false 1 67),
 oX 69 (.load true 3 4),
 oX 70 (.load true 3 9),
 oX 71 (.call .aa 80 [68,69,70]),
 oX 72 (.call .aa 79 [65,66,71]),
 oX 73 (.d8 mX [72]),
 oX 74 (.append false mX 40 63 73),
 oX 75 (.ak 3 6),
 uX (.store 1 75 74)])))
 (.ab false [
 oX 76 (.bin .add 58 (kX 1)),
 oX 58 (.mv 76)]))))))))
 (.seq
 (.ab false [
 oX 77 (.load true 5 6),
 uX (.store 5 2 77)])
 .ret))))))))
def Pq:List bA:=[.cell 2 5 true]
theorem aik (NN:Nat) (x:aQ (ao.aP F3)):cZ NN [LW,LX,Cu,L5] Sd Pq F3 QZ x=Ke NN x:=by kernel_rfl
theorem afV:bW pX 49 Sd.er Pq 1=true:=by decide+kernel
theorem ajm:cJ pX 49 LY.M/\bF pX 49=true:=
  dd (T:=[LW,LX,Cu,L5]) (sc:=Sd) (ms:=Pq) (args:=F3) (aB:=QZ) (az.Uv ajk<|az.cons ajl<|az.cons Yn<|az.cons ajq<|az.nil) cu afV th fun x y h=>(aik aA x).trans (ac5 x y h)
def LV:aG:=⟨78,FY,ahc,QW,qK⟩
def Sa:bw:=
 (.seq
 (.ab false [
 oX 1 (.box 3 0),
 oX 2 (.alloc [zX,zX,.nil iX])])
 (.seq
 (.ab false [
 oX 6 (.ak 1 1),
 oX 7 (.load false 1 6),
 oX 8 (.ak 0 1),
 oX 9 (.load false 1 8),
 oX 10 (.call .aa 61 [7,9]),
 oX 3 (.alloc [zX,zX,.nil iX]),
 uX (.store 3 3 10)])
 (.seq
 (.seq
 (.ab false [
 oX 4 (.mv (kX 0))])
 (.join ⟨[(3,.one (rX 3)),(2,.one (rX 2))],[(2,.box [vX,vX,fX 500006 1]),(3,.box [vX,vX,fX 500007 1]),(500006,.row true .aa iX),(500007,.row true .aa iX)]⟩ [1,2,3,500000,500001,500006,500007] [(true,2,2,500006,.aa,[]),(true,3,2,500007,.aa,[])]
 (.block 0
 (.loop 0 ⟨[(1,.one (rX 1)),(2,.one (rX 2)),(3,.one (rX 3)),(4,sX)],[(1,.box [vX,vX,.c (.v (lX))]),(2,.box [vX,vX,fX 500000 1]),(3,.box [vX,vX,fX 500001 1]),(500000,.row true .aa iX),(500001,.row true .aa iX)]⟩ [1,2,11000,3,500000,500001,500004,500005] [(true,2,2,500000,.aa,[]),(true,3,2,500001,.aa,[])]
 (.seq
 (.seq
 (.ab false [
 oX 11 (.mv 4),
 oX 12 (.ak 0 1),
 oX 13 (.load false 1 12),
 oX 14 (.bin .lss 11 13)])
 (.cond 14
 .skip
 (.exit 0)))
 (.seq
 (.join ⟨[(4,sX),(1,.one (rX 1)),(2,.one (rX 2)),(3,.one (rX 3))],[(1,.box [vX,vX,.c (.v (lX))]),(2,.box [vX,vX,fX 500004 1]),(3,.box [vX,vX,fX 500005 1]),(500004,.row true .aa iX),(500005,.row true .aa iX)]⟩ [1,2,3,500002,500003,500004,500005] [(true,2,2,500004,.aa,[]),(true,3,2,500005,.aa,[])]
 (.block 1
 (.seq
 (.ab false [
 oX 5 (.mv (kX 0))])
 (.block 2
 (.loop 0 ⟨[(1,.one (rX 1)),(2,.one (rX 2)),(3,.one (rX 3)),(4,sX),(5,sX)],[(1,.box [vX,vX,.c (.v (lX))]),(2,.box [vX,vX,fX 500002 1]),(3,.box [vX,vX,fX 500003 1]),(500002,.row true .aa iX),(500003,.row true .aa iX)]⟩ [1,2,3,500000,500001,500002,500003] [(true,2,2,500002,.aa,[]),(true,3,2,500003,.aa,[])]
 (.seq
 (.seq
 (.ab false [
 oX 17 (.mv 5),
 oX 18 (.ak 1 1),
 oX 19 (.load false 1 18),
 oX 20 (.bin .lss 17 19)])
 (.cond 20
 .skip
 (.exit 2)))
 (.seq
 (.block 3
 (.ab true [
 oX 23 (.ak 2 3),
 oX 24 (.load false 1 23),
 oX 25 (.mv 5),
 oX 26 (.ak 0 1),
 oX 27 (.load false 1 26),
 oX 28 (.bin .mul 25 27),
 oX 29 (.mv 4),
 oX 30 (.bin .add 28 29),
 oX 31 (.ak 2 1),
 oX 32 (.load false 1 31),
 oX 33 (.mv 4),
 oX 34 (.ak 1 1),
 oX 35 (.load false 1 34),
 oX 36 (.bin .mul 33 35),
 oX 37 (.mv 5),
 oX 38 (.bin .add 36 37),
 oX 39 (.bT 1 32 38),
 oX 40 (.load false 1 39),
 oX 41 (.bT 1 24 30),
 uX (.store 1 41 40)]))
 (.ab false [
 oX 21 (.mv 5),
 oX 22 (.bin .add 21 (kX 1)),
 oX 5 (.mv 22)]))))))))
 (.ab false [
 oX 15 (.mv 4),
 oX 16 (.bin .add 15 (kX 1)),
 oX 4 (.mv 16)])))))))
 (.seq
 (.ab false [
 oX 42 (.load true 3 3),
 uX (.store 3 2 42)])
 .ret))))
def Pn:List bA:=[.cell 2 3 true]
theorem aih (NN:Nat) (x:aQ (ao.aP FY)):cZ NN [xx] Sa Pn FY QW x=ES NN x:=by kernel_rfl
theorem afS:bW pX 78 Sa.er Pn 1=true:=by decide+kernel
theorem ajj:cJ pX 78 LV.M/\bF pX 78=true:=
  dd (T:=[xx]) (sc:=Sa) (ms:=Pn) (args:=FY) (aB:=QW) (az.cons PK<|az.nil) cu afS qK fun x y h=>(aih aA x).trans (ac2 x y h)
def L3:aG:=⟨48,F5,ahh,Q1,ti⟩
def Sf:bw:=
 (.seq
 (.ab false [
 oX 1 (.box 5 0),
 oX 2 (.alloc [zX,zX,.nil iX,.nil mX,.nil iX])])
 (.seq
 (.ab true [
 oX 6 (.ak 0 1),
 oX 7 (.load false 1 6),
 oX 8 (.ak 1 1),
 oX 9 (.load false 1 8),
 oX 10 (.ak 4 1),
 oX 11 (.load false 1 10),
 oX 12 (.call .aa 37 [11]),
 oX 13 (.ak 2 1),
 oX 14 (.load false 1 13),
 oX 15 (.call .aa 37 [14]),
 oX 16 (.build [zX,zX,.nil iX,.nil mX,.nil iX] [(0,1,7),(1,1,9),(2,1,12),(4,1,15)]),
 oX 3 (.alloc [zX,zX,.nil iX,.nil mX,.nil iX]),
 uX (.store 5 3 16)])
 (.seq
 (.seq
 (.ab false [
 oX 17 (.ak 3 1),
 oX 18 (.load false 1 17),
 oX 19 (.len 18),
 oX 20 (.mv (kX 0))])
 (.join ⟨[(3,.one (rX 3)),(2,.one (rX 2))],[(2,.box [vX,vX,fX 500006 1,fX 500007 3,fX 500008 1]),(3,.box [vX,vX,fX 500009 1,fX 500010 3,fX 500011 1]),(500006,.row true .aa iX),(500007,.row true .aa mX),(500008,.row true .aa iX),(500009,.row true .aa iX),(500010,.row true .aa mX),(500011,.row true .aa iX)]⟩ [2,3,500000,500001,500002,500003,500004,500005,500006,500007,500008,500009,500010,500011] [(true,2,2,500006,.aa,[]),(true,2,3,500007,.aa,[]),(true,2,4,500008,.aa,[]),(true,3,2,500009,.aa,[]),(true,3,3,500010,.aa,[]),(true,3,4,500011,.aa,[])]
 (.block 0
 (.loop 0 ⟨[(2,.one (rX 2)),(3,.one (rX 3)),(18,.one (.c (.v (.list mX)))),(19,sX),(20,sX)],[(2,.box [vX,vX,fX 500000 1,fX 500001 3,fX 500002 1]),(3,.box [vX,vX,fX 500003 1,fX 500004 3,fX 500005 1]),(500000,.row true .aa iX),(500001,.row true .aa mX),(500002,.row true .aa iX),(500003,.row true .aa iX),(500004,.row true .aa mX),(500005,.row true .aa iX)]⟩ [1,2,13000,16000,3,5,29,500000,500001,500002,500003,500004,500005] [(true,2,2,500000,.aa,[]),(true,2,3,500001,.aa,[]),(true,2,4,500002,.aa,[]),(true,3,2,500003,.aa,[]),(true,3,3,500004,.aa,[]),(true,3,4,500005,.aa,[])]
 (.seq
 (.ab false [
 oX 21 (.bin .lss 20 19)])
 (.seq
 (.cond 21
 .skip
 (.exit 0))
 (.seq
 (.block 1
 (.seq
 (.ab false [
 oX 22 (.bT 3 18 20),
 oX 23 (.load true 3 22),
 oX 5 (.alloc [zX,zX,.nil iX]),
 uX (.store 3 5 23)])
 (.nF [(0,4),(1,4)] [
 oX 24 (.ak 3 3),
 oX 25 (.load false 1 24),
 oX 26 (.load true 3 5),
 oX 27 (.call .aa 78 [26]),
 oX 28 (.d8 mX [27]),
 oX 29 (.append false mX 40 25 28),
 oX 30 (.ak 3 3),
 uX (.store 1 30 29)])))
 (.ab false [
 oX 31 (.bin .add 20 (kX 1)),
 oX 20 (.mv 31)]))))))))
 (.seq
 (.ab false [
 oX 32 (.load true 5 3),
 uX (.store 5 2 32)])
 .ret))))
def Ps:List bA:=[.cell 2 5 true]
theorem aim (NN:Nat) (x:aQ (ao.aP F5)):cZ NN [tE,LV] Sf Ps F5 Q1 x=Kf NN x:=by kernel_rfl
theorem afX:bW pX 48 Sf.er Ps 1=true:=by decide+kernel
theorem ajo:cJ pX 48 L3.M/\bF pX 48=true:=
  dd (T:=[tE,LV]) (sc:=Sf) (ms:=Ps) (args:=F5) (aB:=Q1) (az.cons Iy<|az.cons ajj<|az.nil) cu afX ti fun x y h=>(aim aA x).trans (ac7 x y h)
def LP:aG:=⟨17,FM,ag4,QM,u0⟩
def RZ:bw:=
 (.seq
 (.ab false [
 oX 1 (.box 5 0),
 oX 2 (.alloc [zX,zX,.nil iX,.nil mX,.nil iX])])
 (.seq
 (.seq
 (.ab false [
 oX 3 (.load true 5 1),
 oX 4 (.call .aa 47 [3]),
 oX 5 (.un .not 4)])
 (.cond 5
 (.seq
 (.ab false [
 oX 6 (.build [zX,zX,.nil iX,.nil mX,.nil iX] []),
 uX (.store 5 2 6)])
 .ret)
 .skip))
 (.seq
 (.ab false [
 oX 7 (.load true 5 1),
 oX 8 (.call .aa 49 [7]),
 oX 9 (.call .aa 48 [8]),
 oX 10 (.call .aa 49 [9]),
 oX 11 (.call .aa 48 [10]),
 uX (.store 5 2 11)])
 .ret)))
def Pa:List bA:=[.cell 2 5 true]
theorem ah6 (NN:Nat) (x:aQ (ao.aP FM)):cZ NN [LN,LY,L3] RZ Pa FM QM x=EL NN x:=by kernel_rfl
theorem afI:bW pX 17 RZ.er Pa 1=true:=by decide+kernel
theorem aje:cJ pX 17 LP.M/\bF pX 17=true:=
  dd (T:=[LN,LY,L3]) (sc:=RZ) (ms:=Pa) (args:=FM) (aB:=QM) (az.cons ajc<|az.cons ajm<|az.cons ajo<|az.nil) cu afI u0 fun x y h=>(ah6 aA x).trans (acT x y h)
def Cj:aG:=⟨57,E4,agu,P6,uV⟩
def Rc:bw:=
 (.seq
 (.ab false [
 oX 2 (.mv (.k (.one (.v (.bool) (false)))))])
 (.seq
 (.seq
 (.ab false [
 oX 4 (.mv 0),
 oX 5 (.bin .lss 4 (kX 2)),
 oX 6 (.mv 5),
 ⟨(some 7),.mv 0,(some (6,false))⟩,
 ⟨(some 8),.bin .gtr 7 (kX 1000003),(some (6,false))⟩,
 oX 9 (.pick 6 (.k (.one (.v (.bool) (true)))) 8)])
 (.cond 9
 (.seq
 (.ab false [
 oX 2 (.mv (.k (.one (.v (.bool) (false)))))])
 .ret)
 .skip))
 (.seq
 (.seq
 (.ab false [
 oX 3 (.mv (kX 2))])
 (.join ⟨[],[]⟩ [] []
 (.block 0
 (.loop 0 ⟨[(0,sX),(3,sX)],[]⟩ [] []
 (.seq
 (.seq
 (.ab false [
 oX 10 (.mv 3),
 oX 11 (.mv 3),
 oX 12 (.bin .mul 10 11),
 oX 13 (.mv 0),
 oX 14 (.bin .leq 12 13)])
 (.cond 14
 .skip
 (.exit 0)))
 (.seq
 (.block 1
 (.seq
 (.ab false [
 oX 17 (.mv 0),
 oX 18 (.mv 3),
 oX 19 (.bin .rem 17 18),
 oX 20 (.bin .eql 19 (kX 0))])
 (.cond 20
 (.seq
 (.ab false [
 oX 2 (.mv (.k (.one (.v (.bool) (false)))))])
 .ret)
 .skip)))
 (.ab false [
 oX 15 (.mv 3),
 oX 16 (.bin .add 15 (kX 1)),
 oX 3 (.mv 16)])))))))
 (.seq
 (.ab false [
 oX 2 (.mv (.k (.one (.v (.bool) (true)))))])
 .ret))))
def Ot:List bA:=[.tmp 2]
theorem ahq (NN:Nat) (x:aQ (ao.aP E4)):cZ NN [] Rc Ot E4 P6 x=JH NN x:=by kernel_rfl
theorem ae2:bW pX 57 Rc.er Ot 1=true:=by decide+kernel
theorem Yd:cJ pX 57 Cj.M/\bF pX 57=true:=
  dd (T:=[]) (sc:=Rc) (ms:=Ot) (args:=E4) (aB:=P6) (az.nil) cu ae2 uV fun x y h=>(ahq aA x).trans (aca x y h)
def Ck:aG:=⟨58,Ff,agB,Qg,rJ⟩
def Rn:bw:=
 (.seq
 (.ab false [
 oX 4 (.mv (.k (.one (.v (.bool) (false)))))])
 (.seq
 (.seq
 (.ab false [
 oX 7 (.mv 1),
 oX 8 (.len 7),
 oX 9 (.mv (kX 0))])
 (.join ⟨[],[]⟩ [] []
 (.block 0
 (.loop 0 ⟨[(0,sX),(7,.one (.c (.v (lX)))),(8,sX),(9,sX)],[]⟩ [] []
 (.seq
 (.ab false [
 oX 10 (.bin .lss 9 8)])
 (.seq
 (.cond 10
 .skip
 (.exit 0))
 (.seq
 (.block 1
 (.seq
 (.ab false [
 oX 11 (.bT 1 7 9),
 oX 12 (.load false 1 11),
 oX 6 (.mv 12)])
 (.seq
 (.ab false [
 oX 13 (.mv 6),
 oX 14 (.bin .lss 13 (kX 0)),
 oX 15 (.mv 14),
 ⟨(some 16),.mv 6,(some (15,false))⟩,
 ⟨(some 17),.mv 0,(some (15,false))⟩,
 ⟨(some 18),.bin .geq 16 17,(some (15,false))⟩,
 oX 19 (.pick 15 (.k (.one (.v (.bool) (true)))) 18)])
 (.cond 19
 (.seq
 (.ab false [
 oX 4 (.mv (.k (.one (.v (.bool) (false)))))])
 .ret)
 .skip))))
 (.ab false [
 oX 20 (.bin .add 9 (kX 1)),
 oX 9 (.mv 20)]))))))))
 (.seq
 (.ab false [
 oX 4 (.mv (.k (.one (.v (.bool) (true)))))])
 .ret)))
def OD:List bA:=[.tmp 4]
theorem ahA (NN:Nat) (x:aQ (ao.aP Ff)):cZ NN [] Rn OD Ff Qg x=JL NN x:=by kernel_rfl
theorem afc:bW pX 58 Rn.er OD 2=true:=by decide+kernel
theorem Ye:cJ pX 58 Ck.M/\bF pX 58=true:=
  dd (T:=[]) (sc:=Rn) (ms:=OD) (args:=Ff) (aB:=Qg) (az.nil) cu afc rJ fun x y h=>(ahA aA x).trans (acm x y h)
def Lm:aG:=⟨59,E5,agv,P7,wR⟩
def Re:bw:=
 (.seq
 (.ab false [
 oX 3 (.box 3 1),
 oX 4 (.mv (.k (.one (.v (.bool) (false)))))])
 (.seq
 (.seq
 (.ab false [
 oX 5 (.mv 0),
 oX 6 (.call .aa 57 [5]),
 oX 7 (.un .not 6),
 oX 8 (.mv 7),
 ⟨(some 9),.ak 0 3,(some (8,false))⟩,
 ⟨(some 10),.load false 1 9,(some (8,false))⟩,
 ⟨(some 11),.bin .lss 10 (kX 0),(some (8,false))⟩,
 oX 12 (.pick 8 (.k (.one (.v (.bool) (true)))) 11),
 oX 13 (.mv 12),
 ⟨(some 14),.ak 1 3,(some (13,false))⟩,
 ⟨(some 15),.load false 1 14,(some (13,false))⟩,
 ⟨(some 16),.bin .lss 15 (kX 0),(some (13,false))⟩,
 oX 17 (.pick 13 (.k (.one (.v (.bool) (true)))) 16),
 oX 18 (.mv 17),
 ⟨(some 19),.ak 0 3,(some (18,false))⟩,
 ⟨(some 20),.load false 1 19,(some (18,false))⟩,
 ⟨(some 21),.bin .gtr 20 (kX 64),(some (18,false))⟩,
 oX 22 (.pick 18 (.k (.one (.v (.bool) (true)))) 21),
 oX 23 (.mv 22),
 ⟨(some 24),.ak 1 3,(some (23,false))⟩,
 ⟨(some 25),.load false 1 24,(some (23,false))⟩,
 ⟨(some 26),.bin .gtr 25 (kX 64),(some (23,false))⟩,
 oX 27 (.pick 23 (.k (.one (.v (.bool) (true)))) 26)])
 (.cond 27
 (.seq
 (.ab false [
 oX 4 (.mv (.k (.one (.v (.bool) (false)))))])
 .ret)
 .skip))
 (.seq
 (.ab false [
 oX 28 (.ak 2 3),
 oX 29 (.load false 1 28),
 oX 30 (.len 29),
 oX 31 (.ak 0 3),
 oX 32 (.load false 1 31),
 oX 33 (.ak 1 3),
 oX 34 (.load false 1 33),
 oX 35 (.bin .mul 32 34),
 oX 36 (.bin .eql 30 35),
 oX 37 (.mv 36),
 ⟨(some 38),.mv 0,(some (37,true))⟩,
 ⟨(some 39),.ak 2 3,(some (37,true))⟩,
 ⟨(some 40),.load false 1 39,(some (37,true))⟩,
 ⟨(some 41),.call .aa 58 [38,40],(some (37,true))⟩,
 oX 42 (.pick 37 41 (.k (.one (.v (.bool) (false))))),
 oX 4 (.mv 42)])
 .ret)))
def Ou:List bA:=[.tmp 4]
theorem ahr (NN:Nat) (x:aQ (ao.aP E5)):cZ NN [Cj,Ck] Re Ou E5 P7 x=JI NN x:=by kernel_rfl
theorem ae3:bW pX 59 Re.er Ou 2=true:=by decide+kernel
theorem aiM:cJ pX 59 Lm.M/\bF pX 59=true:=
  dd (T:=[Cj,Ck]) (sc:=Re) (ms:=Ou) (args:=E5) (aB:=P7) (az.cons Yd<|az.cons Ye<|az.nil) cu ae3 wR fun x y h=>(ahr aA x).trans (acb x y h)
def Ll:aG:=⟨28,E3,agt,P5,s9⟩
def Rb:bw:=
 (.seq
 (.ab false [
 oX 1 (.box 5 0),
 oX 2 (.mv (.k (.one (.v (.bool) (false)))))])
 (.seq
 (.seq
 (.ab false [
 oX 5 (.ak 0 1),
 oX 6 (.load false 1 5),
 oX 7 (.call .aa 57 [6]),
 oX 8 (.un .not 7),
 oX 9 (.mv 8),
 ⟨(some 10),.ak 1 1,(some (9,false))⟩,
 ⟨(some 11),.load false 1 10,(some (9,false))⟩,
 ⟨(some 12),.bin .lss 11 (kX 0),(some (9,false))⟩,
 oX 13 (.pick 9 (.k (.one (.v (.bool) (true)))) 12),
 oX 14 (.mv 13),
 ⟨(some 15),.ak 1 1,(some (14,false))⟩,
 ⟨(some 16),.load false 1 15,(some (14,false))⟩,
 ⟨(some 17),.bin .gtr 16 (kX 12),(some (14,false))⟩,
 oX 18 (.pick 14 (.k (.one (.v (.bool) (true)))) 17),
 oX 19 (.mv 18),
 ⟨(some 20),.ak 2 1,(some (19,false))⟩,
 ⟨(some 21),.load false 1 20,(some (19,false))⟩,
 ⟨(some 22),.len 21,(some (19,false))⟩,
 ⟨(some 23),.ak 1 1,(some (19,false))⟩,
 ⟨(some 24),.load false 1 23,(some (19,false))⟩,
 ⟨(some 25),.bin .neq 22 24,(some (19,false))⟩,
 oX 26 (.pick 19 (.k (.one (.v (.bool) (true)))) 25),
 oX 27 (.mv 26),
 ⟨(some 28),.ak 4 1,(some (27,false))⟩,
 ⟨(some 29),.load false 1 28,(some (27,false))⟩,
 ⟨(some 30),.len 29,(some (27,false))⟩,
 ⟨(some 31),.ak 1 1,(some (27,false))⟩,
 ⟨(some 32),.load false 1 31,(some (27,false))⟩,
 ⟨(some 33),.bin .neq 30 32,(some (27,false))⟩,
 oX 34 (.pick 27 (.k (.one (.v (.bool) (true)))) 33)])
 (.cond 34
 (.seq
 (.ab false [
 oX 2 (.mv (.k (.one (.v (.bool) (false)))))])
 .ret)
 .skip))
 (.seq
 (.seq
 (.ab false [
 oX 35 (.ak 0 1),
 oX 36 (.load false 1 35),
 oX 37 (.ak 2 1),
 oX 38 (.load false 1 37),
 oX 39 (.call .aa 58 [36,38]),
 oX 40 (.un .not 39),
 oX 41 (.mv 40),
 ⟨(some 42),.ak 0 1,(some (41,false))⟩,
 ⟨(some 43),.load false 1 42,(some (41,false))⟩,
 ⟨(some 44),.ak 4 1,(some (41,false))⟩,
 ⟨(some 45),.load false 1 44,(some (41,false))⟩,
 ⟨(some 46),.call .aa 58 [43,45],(some (41,false))⟩,
 ⟨(some 47),.un .not 46,(some (41,false))⟩,
 oX 48 (.pick 41 (.k (.one (.v (.bool) (true)))) 47),
 oX 49 (.mv 48),
 ⟨(some 50),.ak 3 1,(some (49,false))⟩,
 ⟨(some 51),.load false 1 50,(some (49,false))⟩,
 ⟨(some 52),.len 51,(some (49,false))⟩,
 ⟨(some 53),.bin .lss 52 (kX 1),(some (49,false))⟩,
 oX 54 (.pick 49 (.k (.one (.v (.bool) (true)))) 53),
 oX 55 (.mv 54),
 ⟨(some 56),.ak 3 1,(some (55,false))⟩,
 ⟨(some 57),.load false 1 56,(some (55,false))⟩,
 ⟨(some 58),.len 57,(some (55,false))⟩,
 ⟨(some 59),.bin .gtr 58 (kX 4),(some (55,false))⟩,
 oX 60 (.pick 55 (.k (.one (.v (.bool) (true)))) 59)])
 (.cond 60
 (.seq
 (.ab false [
 oX 2 (.mv (.k (.one (.v (.bool) (false)))))])
 .ret)
 .skip))
 (.seq
 (.seq
 (.ab false [
 oX 61 (.ak 3 1),
 oX 62 (.load false 1 61),
 oX 63 (.len 62),
 oX 64 (.mv (kX 0))])
 (.join ⟨[],[]⟩ [1] []
 (.block 0
 (.loop 0 ⟨[(1,.one (rX 1)),(62,.one (.c (.v (.list mX)))),(63,sX),(64,sX)],[(1,.box [vX,vX,.c (.v (lX)),.c (.v (.list mX)),.c (.v (lX))])]⟩ [1,4] []
 (.seq
 (.ab false [
 oX 65 (.bin .lss 64 63)])
 (.seq
 (.cond 65
 .skip
 (.exit 0))
 (.seq
 (.block 1
 (.seq
 (.ab false [
 oX 66 (.bT 3 62 64),
 oX 67 (.load true 3 66),
 oX 4 (.alloc [zX,zX,.nil iX]),
 uX (.store 3 4 67)])
 (.seq
 (.ab false [
 oX 68 (.ak 0 1),
 oX 69 (.load false 1 68),
 oX 70 (.load true 3 4),
 oX 71 (.call .aa 59 [69,70]),
 oX 72 (.un .not 71),
 oX 73 (.mv 72),
 ⟨(some 74),.ak 0 4,(some (73,false))⟩,
 ⟨(some 75),.load false 1 74,(some (73,false))⟩,
 ⟨(some 76),.ak 1 1,(some (73,false))⟩,
 ⟨(some 77),.load false 1 76,(some (73,false))⟩,
 ⟨(some 78),.bin .neq 75 77,(some (73,false))⟩,
 oX 79 (.pick 73 (.k (.one (.v (.bool) (true)))) 78),
 oX 80 (.mv 79),
 ⟨(some 81),.ak 1 4,(some (80,false))⟩,
 ⟨(some 82),.load false 1 81,(some (80,false))⟩,
 ⟨(some 83),.ak 1 1,(some (80,false))⟩,
 ⟨(some 84),.load false 1 83,(some (80,false))⟩,
 ⟨(some 85),.bin .neq 82 84,(some (80,false))⟩,
 oX 86 (.pick 80 (.k (.one (.v (.bool) (true)))) 85)])
 (.cond 86
 (.seq
 (.ab false [
 oX 2 (.mv (.k (.one (.v (.bool) (false)))))])
 .ret)
 .skip))))
 (.ab false [
 oX 87 (.bin .add 64 (kX 1)),
 oX 64 (.mv 87)]))))))))
 (.seq
 (.ab false [
 oX 2 (.mv (.k (.one (.v (.bool) (true)))))])
 .ret)))))
def Oq:List bA:=[.tmp 2]
theorem ahp (NN:Nat) (x:aQ (ao.aP E3)):cZ NN [Cj,Ck,Lm] Rb Oq E3 P5 x=JG NN x:=by kernel_rfl
theorem ae1:bW pX 28 Rb.er Oq 1=true:=by decide+kernel
theorem aiL:cJ pX 28 Ll.M/\bF pX 28=true:=
  dd (T:=[Cj,Ck,Lm]) (sc:=Rb) (ms:=Oq) (args:=E3) (aB:=P5) (az.cons Yd<|az.cons Ye<|az.cons aiM<|az.nil) cu ae1 s9 fun x y h=>(ahp aA x).trans (ab9 x y h)
def tC:aG:=⟨65,Fe,agA,Qf,rI⟩
def Rm:bw:=
 (.seq
 (.ab false [
 oX 4 (.alloc [zX,zX,.nil iX])])
 (.seq
 (.ab false [
 oX 5 (.mv 0),
 oX 6 (.mv 1),
 oX 7 (.mv 0),
 oX 8 (.mv 1),
 oX 9 (.bin .mul 7 8),
 oX 10 (.kB .aa iX 8 (0:Int) 9 9),
 oX 11 (.build [zX,zX,.nil iX] [(0,1,5),(1,1,6),(2,1,10)]),
 uX (.store 3 4 11)])
 .ret))
def OC:List bA:=[.cell 4 3 true]
theorem ahz (NN:Nat) (x:aQ (ao.aP Fe)):cZ NN [] Rm OC Fe Qf x=TH NN x:=by kernel_rfl
theorem afb:bW pX 65 Rm.er OC 2=true:=by decide+kernel
theorem Iw:cJ pX 65 tC.M/\bF pX 65=true:=
  dd (T:=[]) (sc:=Rm) (ms:=OC) (args:=Fe) (aB:=Qf) (az.nil) cu afb rI fun x y h=>(ahz aA x).trans (ack x y h)
def tB:aG:=⟨44,Fb,agy,Qd,mg⟩
def Rk:bw:=
 (.seq
 (.ab false [
 oX 2 (.mv (.k (.one (.nil iX))))])
 (.seq
 (.ab false [
 oX 3 (.mv 0),
 oX 4 (.append true iX 8 (.k (.one (.nil iX))) 3),
 oX 2 (.mv 4)])
 .ret))
def OA:List bA:=[.tmp 2]
theorem ahx (NN:Nat) (x:aQ (ao.aP Fb)):cZ NN [] Rk OA Fb Qd x=JJ NN x:=by kernel_rfl
theorem ae9:bW pX 44 Rk.er OA 1=true:=by decide+kernel
theorem Iv:cJ pX 44 tB.M/\bF pX 44=true:=
  dd (T:=[]) (sc:=Rk) (ms:=OA) (args:=Fb) (aB:=Qd) (az.nil) cu ae9 mg fun x y h=>(ahx aA x).trans (aci x y h)
def oS:aG:=⟨67,E7,agw,P9,jq⟩
def Rg:bw:=
 (.seq
 (.ab false [
 oX 3 (.box 3 0),
 oX 6 (.mv (kX 0))])
 (.seq
 (.ab false [
 oX 7 (.ak 2 3),
 oX 8 (.load false 1 7),
 oX 9 (.mv 1),
 oX 10 (.ak 1 3),
 oX 11 (.load false 1 10),
 oX 12 (.bin .mul 9 11),
 oX 13 (.mv 2),
 oX 14 (.bin .add 12 13),
 oX 15 (.bT 1 8 14),
 oX 16 (.load false 1 15),
 oX 6 (.mv 16)])
 .ret))
def Ow:List bA:=[.tmp 6]
theorem aht (NN:Nat) (x:aQ (ao.aP E7)):cZ NN [] Rg Ow E7 P9 x=EC NN x:=by kernel_rfl
theorem ae5:bW pX 67 Rg.er Ow 3=true:=by decide+kernel
theorem AZ:cJ pX 67 oS.M/\bF pX 67=true:=
  dd (T:=[]) (sc:=Rg) (ms:=Ow) (args:=E7) (aB:=P9) (az.nil) cu ae5 jq fun x y h=>(aht aA x).trans (ace x y h)
def oT:aG:=⟨66,E8,Ib,Qa,m6⟩
def Rh:bw:=
 (.seq
 (.ab false [
 oX 4 (.box 3 0)])
 (.ab false [
 oX 8 (.ak 2 4),
 oX 9 (.load false 1 8),
 oX 10 (.mv 1),
 oX 11 (.ak 1 4),
 oX 12 (.load false 1 11),
 oX 13 (.bin .mul 10 12),
 oX 14 (.mv 2),
 oX 15 (.bin .add 13 14),
 oX 16 (.mv 3),
 oX 17 (.bT 1 9 15),
 uX (.store 1 17 16)]))
def Ox:List bA:=[]
theorem ahu (NN:Nat) (x:aQ (ao.aP E8)):sV NN [] Rh Ox E8 Ib Qa x=ED NN x:=by kernel_rfl
theorem ae6:bW pX 66 Rh.er Ox 4=true:=by decide+kernel
theorem A2:oK pX 66 Ib oT.MM/\bF pX 66=true:=
  wi (T:=[]) (sc:=Rh) (ms:=Ox) (args:=E8) (mu:=Ib) (aB:=Qa) (az.nil) cu ae6 m6 fun x y h=>(ahu aA x).trans (acf x y h)
def Cl:aG:=⟨70,Fh,agD,Qi,rK⟩
def Rp:bw:=
 (.seq
 (.ab false [
 oX 4 (.box 3 1),
 oX 5 (.box 3 2),
 oX 6 (.alloc [zX,zX,.nil iX])])
 (.seq
 (.ab false [
 oX 12 (.ak 0 4),
 oX 13 (.load false 1 12),
 oX 14 (.ak 1 5),
 oX 15 (.load false 1 14),
 oX 16 (.call .aa 65 [13,15]),
 oX 7 (.alloc [zX,zX,.nil iX]),
 uX (.store 3 7 16)])
 (.seq
 (.seq
 (.ab false [
 oX 8 (.mv (kX 0))])
 (.join ⟨[(7,.one (rX 7)),(6,.one (rX 6))],[(6,.box [vX,vX,fX 500012 1]),(7,.box [vX,vX,fX 500013 1]),(500012,.row true .aa iX),(500013,.row true .aa iX)]⟩ [4,5,6,7,500000,500001,500012,500013] [(true,6,2,500012,.aa,[]),(true,7,2,500013,.aa,[])]
 (.block 0
 (.loop 0 ⟨[(0,sX),(4,.one (rX 4)),(5,.one (rX 5)),(6,.one (rX 6)),(7,.one (rX 7)),(8,sX)],[(4,.box [vX,vX,.c (.v (lX))]),(5,.box [vX,vX,.c (.v (lX))]),(6,.box [vX,vX,fX 500000 1]),(7,.box [vX,vX,fX 500001 1]),(500000,.row true .aa iX),(500001,.row true .aa iX)]⟩ [4,5,6,17000,7,500000,500001,500010,500011] [(true,6,2,500000,.aa,[]),(true,7,2,500001,.aa,[])]
 (.seq
 (.seq
 (.ab false [
 oX 17 (.mv 8),
 oX 18 (.ak 0 4),
 oX 19 (.load false 1 18),
 oX 20 (.bin .lss 17 19)])
 (.cond 20
 .skip
 (.exit 0)))
 (.seq
 (.join ⟨[(8,sX),(0,sX),(4,.one (rX 4)),(5,.one (rX 5)),(6,.one (rX 6)),(7,.one (rX 7))],[(4,.box [vX,vX,.c (.v (lX))]),(5,.box [vX,vX,.c (.v (lX))]),(6,.box [vX,vX,fX 500010 1]),(7,.box [vX,vX,fX 500011 1]),(500010,.row true .aa iX),(500011,.row true .aa iX)]⟩ [4,5,6,7,500002,500003,500010,500011] [(true,6,2,500010,.aa,[]),(true,7,2,500011,.aa,[])]
 (.block 1
 (.seq
 (.ab false [
 oX 9 (.mv (kX 0))])
 (.block 2
 (.loop 0 ⟨[(0,sX),(4,.one (rX 4)),(5,.one (rX 5)),(6,.one (rX 6)),(7,.one (rX 7)),(8,sX),(9,sX)],[(4,.box [vX,vX,.c (.v (lX))]),(5,.box [vX,vX,.c (.v (lX))]),(6,.box [vX,vX,fX 500002 1]),(7,.box [vX,vX,fX 500003 1]),(500002,.row true .aa iX),(500003,.row true .aa iX)]⟩ [4,5,6,7,500000,500001,500002,500003,500008,500009] [(true,6,2,500002,.aa,[]),(true,7,2,500003,.aa,[])]
 (.seq
 (.seq
 (.ab false [
 oX 23 (.mv 9),
 oX 24 (.ak 1 5),
 oX 25 (.load false 1 24),
 oX 26 (.bin .lss 23 25)])
 (.cond 26
 .skip
 (.exit 2)))
 (.seq
 (.join ⟨[(9,sX),(0,sX),(4,.one (rX 4)),(5,.one (rX 5)),(6,.one (rX 6)),(7,.one (rX 7)),(8,sX)],[(4,.box [vX,vX,.c (.v (lX))]),(5,.box [vX,vX,.c (.v (lX))]),(6,.box [vX,vX,fX 500008 1]),(7,.box [vX,vX,fX 500009 1]),(500008,.row true .aa iX),(500009,.row true .aa iX)]⟩ [4,5,6,7,500006,500007,500008,500009] [(true,6,2,500008,.aa,[]),(true,7,2,500009,.aa,[])]
 (.block 3
 (.seq
 (.ab false [
 oX 10 (.mv (kX 0))])
 (.seq
 (.seq
 (.ab false [
 oX 11 (.mv (kX 0))])
 (.join ⟨[(10,sX),(9,sX),(0,sX),(4,.one (rX 4)),(5,.one (rX 5)),(6,.one (rX 6)),(7,.one (rX 7)),(8,sX)],[(4,.box [vX,vX,.c (.v (lX))]),(5,.box [vX,vX,.c (.v (lX))]),(6,.box [vX,vX,fX 500006 1]),(7,.box [vX,vX,fX 500007 1]),(500006,.row true .aa iX),(500007,.row true .aa iX)]⟩ [4,5,6,7,500004,500005,500006,500007] [(true,6,2,500006,.aa,[]),(true,7,2,500007,.aa,[])]
 (.block 4
 (.loop 0 ⟨[(0,sX),(4,.one (rX 4)),(5,.one (rX 5)),(6,.one (rX 6)),(7,.one (rX 7)),(8,sX),(9,sX),(10,sX),(11,sX)],[(4,.box [vX,vX,.c (.v (lX))]),(5,.box [vX,vX,.c (.v (lX))]),(6,.box [vX,vX,fX 500004 1]),(7,.box [vX,vX,fX 500005 1]),(500004,.row true .aa iX),(500005,.row true .aa iX)]⟩ [4,5,6,7,500002,500003,500004,500005] [(true,6,2,500004,.aa,[]),(true,7,2,500005,.aa,[])]
 (.seq
 (.seq
 (.ab false [
 oX 29 (.mv 11),
 oX 30 (.ak 1 4),
 oX 31 (.load false 1 30),
 oX 32 (.bin .lss 29 31)])
 (.cond 32
 .skip
 (.exit 4)))
 (.seq
 (.block 5
 (.ab true [
 oX 35 (.mv 10),
 oX 36 (.load true 3 4),
 oX 37 (.mv 8),
 oX 38 (.mv 11),
 oX 39 (.call .aa 67 [36,37,38]),
 oX 40 (.load true 3 5),
 oX 41 (.mv 11),
 oX 42 (.mv 9),
 oX 43 (.call .aa 67 [40,41,42]),
 oX 44 (.bin .mul 39 43),
 oX 45 (.bin .add 35 44),
 oX 46 (.mv 0),
 oX 47 (.bin .rem 45 46),
 oX 10 (.mv 47)]))
 (.ab false [
 oX 33 (.mv 11),
 oX 34 (.bin .add 33 (kX 1)),
 oX 11 (.mv 34)])))))))
 (.ab false [
 oX 48 (.load true 3 7),
 oX 49 (.mv 8),
 oX 50 (.mv 9),
 oX 51 (.mv 10),
 oX 52 (.e9 .aa 66 [48,49,50,51])])))))
 (.ab false [
 oX 27 (.mv 9),
 oX 28 (.bin .add 27 (kX 1)),
 oX 9 (.mv 28)]))))))))
 (.ab false [
 oX 21 (.mv 8),
 oX 22 (.bin .add 21 (kX 1)),
 oX 8 (.mv 22)])))))))
 (.seq
 (.ab false [
 oX 53 (.load true 3 7),
 uX (.store 3 6 53)])
 .ret))))
def OG:List bA:=[.cell 6 3 true]
theorem ahC (NN:Nat) (x:aQ (ao.aP Fh)):cZ NN [tC,oS,oT] Rp OG Fh Qi x=EG NN x:=by kernel_rfl
theorem afe:bW pX 70 Rp.er OG 3=true:=by decide+kernel
theorem Yf:cJ pX 70 Cl.M/\bF pX 70=true:=
  dd (T:=[tC,oS,oT]) (sc:=Rp) (ms:=OG) (args:=Fh) (aB:=Qi) (az.cons Iw<|az.cons AZ<|az.nS A2<|az.nil) cu afe rK fun x y h=>(ahC aA x).trans (aco x y h)
def Lx:aG:=⟨68,Fp,agK,Qp,wV⟩
def Rw:bw:=
 (.seq
 (.ab false [
 oX 2 (.box 5 0),
 oX 4 (.mv (.k (.one (.nil iX))))])
 (.seq
 (.ab false [
 oX 8 (.ak 2 2),
 oX 9 (.load false 1 8),
 oX 10 (.call .aa 44 [9]),
 oX 11 (.mU 71 false 10),
 oX 5 (.alloc [zX,zX,.nil iX]),
 uX (.store 3 5 11)])
 (.seq
 (.seq
 (.ab false [
 oX 12 (.mv 1),
 oX 13 (.len 12),
 oX 14 (.mv (kX 0))])
 (.join ⟨[(5,.one (rX 5))],[(5,.box [vX,vX,fX 500001 1]),(500001,.row true .aa iX)]⟩ [2,5,500000,500001] [(true,5,2,500001,.aa,[])]
 (.block 0
 (.loop 0 ⟨[(2,.one (rX 2)),(5,.one (rX 5)),(12,.one (.c (.v (lX)))),(13,sX),(14,sX)],[(2,.box [vX,vX,.c (.v (lX)),.c (.v (.list mX)),.c (.v (lX))]),(5,.box [vX,vX,fX 500000 1]),(500000,.row true .aa iX)]⟩ [2,11000,5,27000,500000] [(true,5,2,500000,.aa,[])]
 (.seq
 (.ab false [
 oX 15 (.bin .lss 14 13)])
 (.seq
 (.cond 15
 .skip
 (.exit 0))
 (.seq
 (.block 1
 (.seq
 (.ab false [
 oX 16 (.bT 1 12 14),
 oX 17 (.load false 1 16),
 oX 7 (.mv 17)])
 (.ab true [
 oX 18 (.ak 0 2),
 oX 19 (.load false 1 18),
 oX 20 (.load true 3 5),
 oX 21 (.ak 3 2),
 oX 22 (.load false 1 21),
 oX 23 (.mv 7),
 oX 24 (.bT 3 22 23),
 oX 25 (.load true 3 24),
 oX 26 (.call .aa 70 [19,20,25]),
 uX (.store 3 5 26)])))
 (.ab false [
 oX 27 (.bin .add 14 (kX 1)),
 oX 14 (.mv 27)]))))))))
 (.seq
 (.ab false [
 oX 28 (.ak 2 5),
 oX 29 (.load false 1 28),
 oX 4 (.mv 29)])
 .ret))))
def ON:List bA:=[.tmp 4]
theorem ahJ (NN:Nat) (x:aQ (ao.aP Fp)):cZ NN [tB,Cl] Rw ON Fp Qp x=EK NN x:=by kernel_rfl
theorem afl:bW pX 68 Rw.er ON 2=true:=by decide+kernel
theorem aiX:cJ pX 68 Lx.M/\bF pX 68=true:=
  dd (T:=[tB,Cl]) (sc:=Rw) (ms:=ON) (args:=Fp) (aB:=Qp) (az.cons Iv<|az.cons Yf<|az.nil) cu afl wV fun x y h=>(ahJ aA x).trans (acw x y h)
def Lq:aG:=⟨90,Fc,agz,Qe,yS⟩
def Rl:bw:=
 (.seq
 (.ab false [
 oX 1 (.box 3 0),
 oX 2 (.alloc [zX,zX,.nil iX])])
 (.seq
 (.ab true [
 oX 3 (.ak 0 1),
 oX 4 (.load false 1 3),
 oX 5 (.ak 1 1),
 oX 6 (.load false 1 5),
 oX 7 (.ak 2 1),
 oX 8 (.load false 1 7),
 oX 9 (.call .aa 44 [8]),
 oX 10 (.build [zX,zX,.nil iX] [(0,1,4),(1,1,6),(2,1,9)]),
 uX (.store 3 2 10)])
 .ret))
def OB:List bA:=[.cell 2 3 true]
theorem ahy (NN:Nat) (x:aQ (ao.aP Fc)):cZ NN [tB] Rl OB Fc Qe x=JK NN x:=by kernel_rfl
theorem afa:bW pX 90 Rl.er OB 1=true:=by decide+kernel
theorem aiQ:cJ pX 90 Lq.M/\bF pX 90=true:=
  dd (T:=[tB]) (sc:=Rl) (ms:=OB) (args:=Fc) (aB:=Qe) (az.cons Iv<|az.nil) cu afa yS fun x y h=>(ahy aA x).trans (acj x y h)
def Lo:aG:=⟨91,E9,Ic,Qb,yR⟩
def Ri:bw:=
 (.seq
 (.ab false [
 oX 3 (.box 3 0)])
 (.seq
 (.ab false [
 oX 6 (.mv (kX 0))])
 (.block 0
 (.loop 0 ⟨[(1,sX),(2,sX),(3,.one (rX 3)),(6,sX)],[(1000000,.row false .aa iX),(3,.box [vX,vX,fX 1000000 1])]⟩ [1000000,3,500000] [(true,3,2,500000,.aa,[])]
 (.seq
 (.seq
 (.ab false [
 oX 9 (.mv 6),
 oX 10 (.ak 1 3),
 oX 11 (.load false 1 10),
 oX 12 (.bin .lss 9 11)])
 (.cond 12
 .skip
 (.exit 0)))
 (.seq
 (.block 1
 (.seq
 (.ab true [
 oX 15 (.load true 3 3),
 oX 16 (.mv 1),
 oX 17 (.mv 6),
 oX 18 (.call .aa 67 [15,16,17]),
 oX 19 (.load true 3 3),
 oX 20 (.mv 2),
 oX 21 (.mv 6),
 oX 22 (.call .aa 67 [19,20,21]),
 oX 7 (.mv 18),
 oX 8 (.mv 22)])
 (.seq
 (.ab false [
 oX 23 (.load true 3 3),
 oX 24 (.mv 1),
 oX 25 (.mv 6),
 oX 26 (.mv 8),
 oX 27 (.e9 .aa 66 [23,24,25,26])])
 (.ab false [
 oX 28 (.load true 3 3),
 oX 29 (.mv 2),
 oX 30 (.mv 6),
 oX 31 (.mv 7),
 oX 32 (.e9 .aa 66 [28,29,30,31])]))))
 (.ab false [
 oX 13 (.mv 6),
 oX 14 (.bin .add 13 (kX 1)),
 oX 6 (.mv 14)])))))))
def Oy:List bA:=[]
theorem ahv (NN:Nat) (x:aQ (ao.aP E9)):sV NN [oS,oT] Ri Oy E9 Ic Qb x=EE NN x:=by kernel_rfl
theorem ae7:bW pX 91 Ri.er Oy 3=true:=by decide+kernel
theorem aiO:oK pX 91 Ic Lo.MM/\bF pX 91=true:=
  wi (T:=[oS,oT]) (sc:=Ri) (ms:=Oy) (args:=E9) (mu:=Ic) (aB:=Qb) (az.cons AZ<|az.nS A2<|az.nil) cu ae7 yR fun x y h=>(ahv aA x).trans (acg x y h)
def Lr:aG:=⟨92,Fg,agC,Qh,yT⟩
def Ro:bw:=
 (.seq
 (.ab false [
 oX 4 (.mv (kX 0))])
 (.seq
 (.ab false [
 oX 5 (.mv (kX 1))])
 (.seq
 (.seq
 (.ab false [
 oX 7 (.mv 0),
 oX 8 (.bin .sub 7 (kX 2)),
 oX 6 (.mv 8)])
 (.join ⟨[(5,sX)],[]⟩ [] []
 (.block 0
 (.loop 0 ⟨[(0,sX),(1,sX),(5,sX),(6,sX)],[]⟩ [] []
 (.seq
 (.seq
 (.ab false [
 oX 9 (.mv 6),
 oX 10 (.bin .gtr 9 (kX 0))])
 (.cond 10
 .skip
 (.exit 0)))
 (.seq
 (.block 1
 (.seq
 (.seq
 (.ab false [
 oX 13 (.mv 6),
 oX 14 (.bin .and 13 (kX 1)),
 oX 15 (.bin .eql 14 (kX 1))])
 (.join ⟨[(1,sX),(6,sX),(0,sX),(5,sX)],[]⟩ [] []
 (.cond 15
 (.ab false [
 oX 16 (.mv 5),
 oX 17 (.mv 1),
 oX 18 (.bin .mul 16 17),
 oX 19 (.mv 0),
 oX 20 (.bin .rem 18 19),
 oX 5 (.mv 20)])
 .skip)))
 (.ab false [
 oX 21 (.mv 1),
 oX 22 (.mv 1),
 oX 23 (.bin .mul 21 22),
 oX 24 (.mv 0),
 oX 25 (.bin .rem 23 24),
 oX 1 (.mv 25)])))
 (.ab false [
 oX 11 (.mv 6),
 oX 12 (.bin .shr 11 (.k (.one (.v (.int .u64) ((1:Int)))))),
 oX 6 (.mv 12)])))))))
 (.seq
 (.ab false [
 oX 26 (.mv 5),
 oX 4 (.mv 26)])
 .ret))))
def OE:List bA:=[.tmp 4]
theorem ahB (NN:Nat) (x:aQ (ao.aP Fg)):cZ NN [] Ro OE Fg Qh x=JM NN x:=by kernel_rfl
theorem afd:bW pX 92 Ro.er OE 2=true:=by decide+kernel
theorem aiR:cJ pX 92 Lr.M/\bF pX 92=true:=
  dd (T:=[]) (sc:=Ro) (ms:=OE) (args:=Fg) (aB:=Qh) (az.nil) cu afd yT fun x y h=>(ahB aA x).trans (acn x y h)
def Ln:aG:=⟨93,E6,Ia,P8,wS⟩
def Rf:bw:=
 (.seq
 (.ab false [
 oX 5 (.box 3 0)])
 (.seq
 (.ab false [
 oX 10 (.mv (kX 0))])
 (.block 0
 (.loop 0 ⟨[(1,sX),(2,sX),(3,sX),(4,sX),(5,.one (rX 5)),(10,sX)],[(1000000,.row false .aa iX),(5,.box [vX,vX,fX 1000000 1])]⟩ [1000000,5,500000] [(true,5,2,500000,.aa,[])]
 (.seq
 (.seq
 (.ab false [
 oX 11 (.mv 10),
 oX 12 (.ak 1 5),
 oX 13 (.load false 1 12),
 oX 14 (.bin .lss 11 13)])
 (.cond 14
 .skip
 (.exit 0)))
 (.seq
 (.block 1
 (.ab true [
 oX 17 (.load true 3 5),
 oX 18 (.mv 2),
 oX 19 (.mv 10),
 oX 20 (.load true 3 5),
 oX 21 (.mv 2),
 oX 22 (.mv 10),
 oX 23 (.call .aa 67 [20,21,22]),
 oX 24 (.mv 4),
 oX 25 (.load true 3 5),
 oX 26 (.mv 3),
 oX 27 (.mv 10),
 oX 28 (.call .aa 67 [25,26,27]),
 oX 29 (.bin .mul 24 28),
 oX 30 (.bin .add 23 29),
 oX 31 (.mv 1),
 oX 32 (.bin .rem 30 31),
 oX 33 (.e9 .aa 66 [17,18,19,32])]))
 (.ab false [
 oX 15 (.mv 10),
 oX 16 (.bin .add 15 (kX 1)),
 oX 10 (.mv 16)])))))))
def Ov:List bA:=[]
theorem ahs (NN:Nat) (x:aQ (ao.aP E6)):sV NN [oS,oT] Rf Ov E6 Ia P8 x=EB NN x:=by kernel_rfl
theorem ae4:bW pX 93 Rf.er Ov 5=true:=by decide+kernel
theorem aiN:oK pX 93 Ia Ln.MM/\bF pX 93=true:=
  wi (T:=[oS,oT]) (sc:=Rf) (ms:=Ov) (args:=E6) (mu:=Ia) (aB:=P8) (az.cons AZ<|az.nS A2<|az.nil) cu ae4 wS fun x y h=>(ahs aA x).trans (acd x y h)
def Cm:aG:=⟨69,Fj,agF,Qk,uW⟩
def Rr:bw:=
 (.seq
 (.ab false [
 oX 3 (.box 3 1),
 oX 4 (.alloc [zX,zX,.nil iX]),
 oX 5 (.mv (.k (.one (.nil iX))))])
 (.seq
 (.ab false [
 oX 14 (.load true 3 3),
 oX 15 (.call .aa 90 [14]),
 oX 6 (.alloc [zX,zX,.nil iX]),
 uX (.store 3 6 15)])
 (.seq
 (.ab false [
 oX 7 (.mv (.k (.one (.nil iX))))])
 (.seq
 (.seq
 (.ab false [
 oX 8 (.mv (kX 0))])
 (.join ⟨[(6,.one (rX 6)),(7,.one (fX 500026 1)),(4,.one (rX 4))],[(4,.box [vX,vX,fX 500024 1]),(6,.box [vX,vX,fX 500025 1]),(500024,.row true .aa iX),(500025,.row true .aa iX),(500026,.row true .aa iX)]⟩ [4,6,500000,500001,500002,500024,500025,500026] [(true,4,2,500024,.aa,[]),(true,6,2,500025,.aa,[]),(false,7,0,500026,.aa,[])]
 (.block 0
 (.loop 0 ⟨[(0,sX),(4,.one (rX 4)),(6,.one (rX 6)),(7,.one (fX 500002 1)),(8,sX)],[(4,.box [vX,vX,fX 500000 1]),(6,.box [vX,vX,fX 500001 1]),(500000,.row true .aa iX),(500001,.row true .aa iX),(500002,.row true .aa iX)]⟩ [3,4,16000,6,500000,500001,500002,500021,500022,500023] [(true,4,2,500000,.aa,[]),(true,6,2,500001,.aa,[]),(false,7,0,500002,.aa,[])]
 (.seq
 (.seq
 (.ab false [
 oX 16 (.mv 8),
 oX 17 (.ak 1 6),
 oX 18 (.load false 1 17),
 oX 19 (.bin .lss 16 18)])
 (.cond 19
 .skip
 (.exit 0)))
 (.seq
 (.join ⟨[(8,sX),(0,sX),(4,.one (rX 4)),(6,.one (rX 6)),(7,.one (fX 500023 1))],[(4,.box [vX,vX,fX 500021 1]),(6,.box [vX,vX,fX 500022 1]),(500021,.row true .aa iX),(500022,.row true .aa iX),(500023,.row true .aa iX)]⟩ [4,6,99,100,500006,500007,500008,500018,500019,500021,500022,500023] [(true,4,2,500021,.aa,[]),(true,6,2,500022,.aa,[]),(false,7,0,500023,.aa,[])]
 (.block 1
 (.seq
 (.ab false [
 oX 22 (.mv 7),
 oX 23 (.len 22),
 oX 9 (.mv 23)])
 (.seq
 (.ab false [
 oX 24 (.mv 9),
 oX 10 (.mv 24)])
 (.seq
 (.join ⟨[(10,sX),(9,sX),(7,.one (fX 500008 1)),(8,sX),(0,sX),(4,.one (rX 4)),(6,.one (rX 6))],[(4,.box [vX,vX,fX 500006 1]),(6,.box [vX,vX,fX 500007 1]),(500006,.row true .aa iX),(500007,.row true .aa iX),(500008,.row true .aa iX)]⟩ [4,6,500003,500004,500005,500006,500007,500008] [(true,4,2,500006,.aa,[]),(true,6,2,500007,.aa,[]),(false,7,0,500008,.aa,[])]
 (.block 2
 (.loop 0 ⟨[(0,sX),(4,.one (rX 4)),(6,.one (rX 6)),(7,.one (fX 500005 1)),(8,sX),(9,sX),(10,sX)],[(4,.box [vX,vX,fX 500003 1]),(6,.box [vX,vX,fX 500004 1]),(500003,.row true .aa iX),(500004,.row true .aa iX),(500005,.row true .aa iX)]⟩ [4,6,500000,500001,500002,500003,500004,500005] [(true,4,2,500003,.aa,[]),(true,6,2,500004,.aa,[]),(false,7,0,500005,.aa,[])]
 (.seq
 (.seq
 (.ab false [
 oX 25 (.mv 10),
 oX 26 (.ak 0 6),
 oX 27 (.load false 1 26),
 oX 28 (.bin .lss 25 27),
 oX 29 (.mv 28),
 ⟨(some 30),.load true 3 6,(some (29,true))⟩,
 ⟨(some 31),.mv 10,(some (29,true))⟩,
 ⟨(some 32),.mv 8,(some (29,true))⟩,
 ⟨(some 33),.call .aa 67 [30,31,32],(some (29,true))⟩,
 ⟨(some 34),.bin .eql 33 (kX 0),(some (29,true))⟩,
 oX 35 (.pick 29 34 (.k (.one (.v (.bool) (false)))))])
 (.cond 35
 .skip
 (.exit 2)))
 (.block 3
 (.ab false [
 oX 36 (.mv 10),
 oX 37 (.bin .add 36 (kX 1)),
 oX 10 (.mv 37)]))))))
 (.seq
 (.seq
 (.ab false [
 oX 38 (.mv 10),
 oX 39 (.ak 0 6),
 oX 40 (.load false 1 39),
 oX 41 (.bin .eql 38 40)])
 (.cond 41
 (.exit 1)
 .skip))
 (.seq
 (.ab false [
 oX 42 (.load true 3 6),
 oX 43 (.mv 9),
 oX 44 (.mv 10),
 oX 45 (.e9 .aa 91 [42,43,44])])
 (.seq
 (.ab false [
 oX 46 (.mv 0),
 oX 47 (.load true 3 6),
 oX 48 (.mv 9),
 oX 49 (.mv 8),
 oX 50 (.call .aa 67 [47,48,49]),
 oX 51 (.call .aa 92 [46,50]),
 oX 11 (.mv 51)])
 (.seq
 (.seq
 (.ab false [
 oX 12 (.mv (kX 0))])
 (.join ⟨[(6,.one (rX 6)),(4,.one (rX 4)),(0,sX),(8,sX),(7,.one (fX 500014 1)),(9,sX)],[(4,.box [vX,vX,fX 500012 1]),(6,.box [vX,vX,fX 500013 1]),(500012,.row true .aa iX),(500013,.row true .aa iX),(500014,.row true .aa iX)]⟩ [4,6,500009,500010,500011,500012,500013,500014] [(true,4,2,500012,.aa,[]),(true,6,2,500013,.aa,[]),(false,7,0,500014,.aa,[])]
 (.block 4
 (.loop 0 ⟨[(0,sX),(4,.one (rX 4)),(6,.one (rX 6)),(7,.one (fX 500011 1)),(8,sX),(9,sX),(11,sX),(12,sX)],[(4,.box [vX,vX,fX 500009 1]),(6,.box [vX,vX,fX 500010 1]),(500009,.row true .aa iX),(500010,.row true .aa iX),(500011,.row true .aa iX)]⟩ [4,6,500006,500007,500008,500009,500010,500011] [(true,4,2,500009,.aa,[]),(true,6,2,500010,.aa,[]),(false,7,0,500011,.aa,[])]
 (.seq
 (.seq
 (.ab false [
 oX 52 (.mv 12),
 oX 53 (.ak 1 6),
 oX 54 (.load false 1 53),
 oX 55 (.bin .lss 52 54)])
 (.cond 55
 .skip
 (.exit 4)))
 (.seq
 (.block 5
 (.ab true [
 oX 58 (.load true 3 6),
 oX 59 (.mv 9),
 oX 60 (.mv 12),
 oX 61 (.load true 3 6),
 oX 62 (.mv 9),
 oX 63 (.mv 12),
 oX 64 (.call .aa 67 [61,62,63]),
 oX 65 (.mv 11),
 oX 66 (.bin .mul 64 65),
 oX 67 (.mv 0),
 oX 68 (.bin .rem 66 67),
 oX 69 (.e9 .aa 66 [58,59,60,68])]))
 (.ab false [
 oX 56 (.mv 12),
 oX 57 (.bin .add 56 (kX 1)),
 oX 12 (.mv 57)])))))))
 (.seq
 (.seq
 (.ab false [
 oX 13 (.mv (kX 0))])
 (.join ⟨[(7,.one (fX 500020 1)),(8,sX),(0,sX),(4,.one (rX 4)),(6,.one (rX 6))],[(4,.box [vX,vX,fX 500018 1]),(6,.box [vX,vX,fX 500019 1]),(500018,.row true .aa iX),(500019,.row true .aa iX),(500020,.row true .aa iX)]⟩ [4,6,500015,500016,500017,500018,500019,500020] [(true,4,2,500018,.aa,[]),(true,6,2,500019,.aa,[]),(false,7,0,500020,.aa,[])]
 (.block 6
 (.loop 0 ⟨[(0,sX),(4,.one (rX 4)),(6,.one (rX 6)),(7,.one (fX 500017 1)),(8,sX),(9,sX),(13,sX)],[(4,.box [vX,vX,fX 500015 1]),(6,.box [vX,vX,fX 500016 1]),(500015,.row true .aa iX),(500016,.row true .aa iX),(500017,.row true .aa iX)]⟩ [4,6,500012,500013,500014,500015,500016,500017] [(true,4,2,500015,.aa,[]),(true,6,2,500016,.aa,[]),(false,7,0,500017,.aa,[])]
 (.seq
 (.seq
 (.ab false [
 oX 70 (.mv 13),
 oX 71 (.ak 0 6),
 oX 72 (.load false 1 71),
 oX 73 (.bin .lss 70 72)])
 (.cond 73
 .skip
 (.exit 6)))
 (.seq
 (.block 7
 (.seq
 (.ab false [
 oX 76 (.mv 13),
 oX 77 (.mv 9),
 oX 78 (.bin .neq 76 77),
 oX 79 (.mv 78),
 ⟨(some 80),.load true 3 6,(some (79,true))⟩,
 ⟨(some 81),.mv 13,(some (79,true))⟩,
 ⟨(some 82),.mv 8,(some (79,true))⟩,
 ⟨(some 83),.call .aa 67 [80,81,82],(some (79,true))⟩,
 ⟨(some 84),.bin .neq 83 (kX 0),(some (79,true))⟩,
 oX 85 (.pick 79 84 (.k (.one (.v (.bool) (false)))))])
 (.cond 85
 (.ab true [
 oX 86 (.load true 3 6),
 oX 87 (.mv 0),
 oX 88 (.mv 13),
 oX 89 (.mv 9),
 oX 90 (.mv 0),
 oX 91 (.load true 3 6),
 oX 92 (.mv 13),
 oX 93 (.mv 8),
 oX 94 (.call .aa 67 [91,92,93]),
 oX 95 (.bin .sub 90 94),
 oX 96 (.e9 .aa 93 [86,87,88,89,95])])
 .skip)))
 (.ab false [
 oX 74 (.mv 13),
 oX 75 (.bin .add 74 (kX 1)),
 oX 13 (.mv 75)])))))))
 (.ab false [
 oX 97 (.mv 7),
 oX 98 (.mv 8),
 oX 99 (.d8 iX [98]),
 oX 100 (.append true iX 8 97 99),
 oX 7 (.mv 100)])))))))))))
 (.ab false [
 oX 20 (.mv 8),
 oX 21 (.bin .add 20 (kX 1)),
 oX 8 (.mv 21)])))))))
 (.seq
 (.ab false [
 oX 101 (.load true 3 6),
 oX 102 (.mv 7),
 uX (.store 3 4 101),
 oX 5 (.mv 102)])
 .ret)))))
def OI:List bA:=[.cell 4 3 true,.tmp 5]
theorem ahE (NN:Nat) (x:aQ (ao.aP Fj)):cZ NN [Lq,oS,Lo,Lr,oT,Ln] Rr OI Fj Qk x=EI NN x:=by kernel_rfl
theorem afg:bW pX 69 Rr.er OI 2=true:=by decide+kernel
theorem Yg:cJ pX 69 Cm.M/\bF pX 69=true:=
  dd (T:=[Lq,oS,Lo,Lr,oT,Ln]) (sc:=Rr) (ms:=OI) (args:=Fj) (aB:=Qk) (az.cons aiQ<|az.cons AZ<|az.nS aiO<|az.cons aiR<|az.nS A2<|az.nS aiN<|az.nil) cu afg uW fun x y h=>(ahE aA x).trans (acq x y h)
def Ls:aG:=⟨42,Fi,agE,Qj,yU⟩
def Rq:bw:=
 (.seq
 (.ab false [
 oX 1 (.box 5 0),
 oX 2 (.mv (.k (.one (.nil [lX])))),
 oX 3 (.alloc [zX,zX,.nil iX])])
 (.seq
 (.ab false [
 oX 4 (.mv (.k (.one (.nil [lX]))))])
 (.seq
 (.ab false [
 oX 12 (.ak 1 1),
 oX 13 (.load false 1 12),
 oX 14 (.call .aa 65 [(kX 0),13]),
 oX 5 (.alloc [zX,zX,.nil iX]),
 uX (.store 3 5 14)])
 (.seq
 (.ab false [
 oX 15 (.d8 [lX] [(.k (.one (.nil iX)))]),
 oX 6 (.mv 15)])
 (.seq
 (.join ⟨[(4,.one (fX 500010 1)),(5,.one (rX 5)),(3,.one (rX 3))],[(3,.box [vX,vX,fX 500008 1]),(5,.box [vX,vX,fX 500009 1]),(500008,.row true .aa iX),(500009,.row true .aa iX),(500010,.row true .aF [lX])]⟩ [1,3,5,500000,500001,500002,500003,500008,500009,500010] [(true,3,2,500008,.aa,[]),(true,5,2,500009,.aa,[]),(false,4,0,500010,.aF,[])]
 (.block 0
 (.loop 0 ⟨[(1,.one (rX 1)),(3,.one (rX 3)),(4,.one (fX 500002 1)),(5,.one (rX 5)),(6,.one (fX 500003 1))],[(1,.box [vX,vX,.c (.v (lX)),.c (.v (.list mX)),.c (.v (lX))]),(3,.box [vX,vX,fX 500000 1]),(5,.box [vX,vX,fX 500001 1]),(500000,.row true .aa iX),(500001,.row true .aa iX),(500002,.row true .aF [lX]),(500003,.row true .aa [lX])]⟩ [1,3,15000,5,15,23,35000,35,8,42000,42001,9,500000,500001,500002,500003,500004,500005,500006,500007] [(true,3,2,500000,.aa,[]),(true,5,2,500001,.aa,[]),(false,4,0,500002,.aF,[]),(false,6,0,500003,.aa,[])]
 (.seq
 (.seq
 (.ab false [
 oX 16 (.mv 6),
 oX 17 (.len 16),
 oX 18 (.bin .gtr 17 (kX 0))])
 (.cond 18
 .skip
 (.exit 0)))
 (.block 1
 (.seq
 (.ab false [
 oX 19 (.mv 6),
 oX 20 (.bT 1 19 (kX 0)),
 oX 21 (.load false 1 20),
 oX 7 (.mv 21)])
 (.seq
 (.ab false [
 oX 22 (.mv 6),
 oX 23 (.tail 1 22 (kX 1)),
 oX 6 (.mv 23)])
 (.seq
 (.nF [(0,11),(1,11),(3,11),(4,11),(11,13)] [
 oX 24 (.ak 0 5),
 oX 25 (.load false 1 24),
 oX 26 (.bin .add 25 (kX 1)),
 oX 27 (.ak 1 1),
 oX 28 (.load false 1 27),
 oX 29 (.ak 2 5),
 oX 30 (.load false 1 29),
 oX 31 (.call .aa 44 [30]),
 oX 32 (.load true 5 1),
 oX 33 (.mv 7),
 oX 34 (.call .aa 68 [32,33]),
 oX 35 (.append true iX 8 31 34),
 oX 36 (.build [zX,zX,.nil iX] [(0,1,26),(1,1,28),(2,1,35)]),
 oX 8 (.alloc [zX,zX,.nil iX]),
 uX (.store 3 8 36)])
 (.seq
 (.ab false [
 oX 38 (.ak 0 1),
 oX 39 (.load false 1 38),
 oX 40 (.load true 3 8),
 oX 41 (.call .aa 69 [39,40]),
 oX 37 (.mv 41),
 oX 42 (.ext 0 37),
 oX 43 (.ext 1 37),
 oX 9 (.alloc [zX,zX,.nil iX]),
 uX (.store 3 9 42),
 oX 10 (.mv 43)])
 (.seq
 (.seq
 (.ab false [
 oX 44 (.mv 10),
 oX 45 (.len 44),
 oX 46 (.ak 0 8),
 oX 47 (.load false 1 46),
 oX 48 (.bin .lss 45 47)])
 (.cond 48
 (.exit 1)
 .skip))
 (.seq
 (.ab false [
 oX 49 (.load true 3 8),
 uX (.store 3 5 49)])
 (.seq
 (.ab false [
 oX 50 (.mv 4),
 oX 51 (.mv 7),
 oX 52 (.d8 [lX] [51]),
 oX 53 (.append false [lX] 24 50 52),
 oX 4 (.mv 53)])
 (.seq
 (.ab false [
 oX 54 (.ak 3 1),
 oX 55 (.load false 1 54),
 oX 56 (.len 55),
 oX 57 (.mv (kX 0))])
 (.block 2
 (.loop 0 ⟨[(1,.one (rX 1)),(3,.one (rX 3)),(4,.one (fX 500006 1)),(5,.one (rX 5)),(6,.one (fX 500007 1)),(7,.one (.c (.v (lX)))),(56,sX),(57,sX)],[(1,.box [vX,vX,.c (.v (lX)),.c (.v (.list mX)),.c (.v (lX))]),(3,.box [vX,vX,fX 500004 1]),(5,.box [vX,vX,fX 500005 1]),(500004,.row true .aa iX),(500005,.row true .aa iX),(500006,.row true .aF [lX]),(500007,.row true .aa [lX])]⟩ [1,3,5,23,35000,35,8,42000,42001,9,53,64,67,500000,500001,500004,500005,500006,500007] [(true,3,2,500004,.aa,[]),(true,5,2,500005,.aa,[]),(false,4,0,500006,.aF,[]),(false,6,0,500007,.aa,[])]
 (.seq
 (.ab false [
 oX 58 (.bin .lss 57 56)])
 (.seq
 (.cond 58
 .skip
 (.exit 2))
 (.seq
 (.block 3
 (.seq
 (.ab false [
 oX 59 (.mv 57),
 oX 11 (.mv 59)])
 (.ab false [
 oX 60 (.mv 6),
 oX 61 (.mv 7),
 oX 62 (.call .aa 44 [61]),
 oX 63 (.mv 11),
 oX 64 (.d8 iX [63]),
 oX 65 (.append true iX 8 62 64),
 oX 66 (.d8 [lX] [65]),
 oX 67 (.append false [lX] 24 60 66),
 oX 6 (.mv 67)])))
 (.ab false [
 oX 68 (.bin .add 57 (kX 1)),
 oX 57 (.mv 68)])))))))))))))))))))
 (.seq
 (.ab true [
 oX 69 (.mv 4),
 oX 70 (.load true 3 5),
 oX 2 (.mv 69),
 uX (.store 3 3 70)])
 .ret))))))
def OH:List bA:=[.tmp 2,.cell 3 3 true]
theorem ahD (NN:Nat) (x:aQ (ao.aP Fi)):IK NN [tC,tB,Lx,Cm] Rq OH Fi Qj x=EH NN x:=by kernel_rfl
theorem aff:bW pX 42 Rq.er OH 1=true:=by decide+kernel
theorem aiS:xc Go.Proofs.Try.prog 42 Ls.MV/\bF pX 42=true:=
  aah (T:=[tC,tB,Lx,Cm]) (sc:=Rq) (ms:=OH) (args:=Fi) (aB:=Qj) (az.cons Iw<|az.cons Iv<|az.cons aiX<|az.cons Yg<|az.nil) cu aff yU fun x y h=>(ahD aA x).trans (acp x y h)
def Lv:aG:=⟨82,Fm,agI,Qn,wU⟩
def Ru:bw:=
 (.seq
 (.ab false [
 oX 4 (.box 3 1),
 oX 5 (.box 3 2),
 oX 6 (.alloc [zX,zX,.nil iX])])
 (.seq
 (.ab false [
 oX 16 (.ak 1 4),
 oX 17 (.load false 1 16),
 oX 18 (.ak 0 4),
 oX 19 (.load false 1 18),
 oX 20 (.ak 0 5),
 oX 21 (.load false 1 20),
 oX 22 (.bin .add 19 21),
 oX 23 (.call .aa 65 [17,22]),
 oX 7 (.alloc [zX,zX,.nil iX]),
 uX (.store 3 7 23)])
 (.seq
 (.seq
 (.ab false [
 oX 8 (.mv (kX 0))])
 (.join ⟨[(0,sX),(7,.one (rX 7)),(6,.one (rX 6)),(4,.one (rX 4)),(5,.one (rX 5))],[(4,.box [vX,vX,.c (.v (lX))]),(5,.box [vX,vX,.c (.v (lX))]),(6,.box [vX,vX,fX 500010 1]),(7,.box [vX,vX,fX 500011 1]),(500010,.row true .aa iX),(500011,.row true .aa iX)]⟩ [4,5,6,7,500000,500001,500010,500011] [(true,6,2,500010,.aa,[]),(true,7,2,500011,.aa,[])]
 (.block 0
 (.loop 0 ⟨[(0,sX),(4,.one (rX 4)),(5,.one (rX 5)),(6,.one (rX 6)),(7,.one (rX 7)),(8,sX)],[(4,.box [vX,vX,.c (.v (lX))]),(5,.box [vX,vX,.c (.v (lX))]),(6,.box [vX,vX,fX 500000 1]),(7,.box [vX,vX,fX 500001 1]),(500000,.row true .aa iX),(500001,.row true .aa iX)]⟩ [4,5,6,24000,7,500000,500001,500008,500009] [(true,6,2,500000,.aa,[]),(true,7,2,500001,.aa,[])]
 (.seq
 (.seq
 (.ab false [
 oX 24 (.mv 8),
 oX 25 (.ak 1 4),
 oX 26 (.load false 1 25),
 oX 27 (.bin .lss 24 26)])
 (.cond 27
 .skip
 (.exit 0)))
 (.seq
 (.join ⟨[(8,sX),(0,sX),(4,.one (rX 4)),(5,.one (rX 5)),(6,.one (rX 6)),(7,.one (rX 7))],[(4,.box [vX,vX,.c (.v (lX))]),(5,.box [vX,vX,.c (.v (lX))]),(6,.box [vX,vX,fX 500008 1]),(7,.box [vX,vX,fX 500009 1]),(500008,.row true .aa iX),(500009,.row true .aa iX)]⟩ [4,5,6,7,500006,500007,500008,500009] [(true,6,2,500008,.aa,[]),(true,7,2,500009,.aa,[])]
 (.block 1
 (.seq
 (.seq
 (.ab false [
 oX 9 (.mv (kX 0))])
 (.join ⟨[(7,.one (rX 7)),(6,.one (rX 6)),(5,.one (rX 5)),(4,.one (rX 4)),(0,sX),(8,sX)],[(4,.box [vX,vX,.c (.v (lX))]),(5,.box [vX,vX,.c (.v (lX))]),(6,.box [vX,vX,fX 500004 1]),(7,.box [vX,vX,fX 500005 1]),(500004,.row true .aa iX),(500005,.row true .aa iX)]⟩ [4,5,6,7,500002,500003,500004,500005] [(true,6,2,500004,.aa,[]),(true,7,2,500005,.aa,[])]
 (.block 2
 (.loop 0 ⟨[(0,sX),(4,.one (rX 4)),(5,.one (rX 5)),(6,.one (rX 6)),(7,.one (rX 7)),(8,sX),(9,sX)],[(4,.box [vX,vX,.c (.v (lX))]),(5,.box [vX,vX,.c (.v (lX))]),(6,.box [vX,vX,fX 500002 1]),(7,.box [vX,vX,fX 500003 1]),(500002,.row true .aa iX),(500003,.row true .aa iX)]⟩ [4,5,6,7,500000,500001,500002,500003] [(true,6,2,500002,.aa,[]),(true,7,2,500003,.aa,[])]
 (.seq
 (.seq
 (.ab false [
 oX 30 (.mv 9),
 oX 31 (.ak 0 4),
 oX 32 (.load false 1 31),
 oX 33 (.bin .lss 30 32)])
 (.cond 33
 .skip
 (.exit 2)))
 (.seq
 (.block 3
 (.ab true [
 oX 36 (.load true 3 7),
 oX 37 (.mv 8),
 oX 38 (.mv 9),
 oX 39 (.load true 3 4),
 oX 40 (.mv 9),
 oX 41 (.mv 8),
 oX 42 (.call .aa 67 [39,40,41]),
 oX 43 (.e9 .aa 66 [36,37,38,42])]))
 (.ab false [
 oX 34 (.mv 9),
 oX 35 (.bin .add 34 (kX 1)),
 oX 9 (.mv 35)])))))))
 (.seq
 (.ab false [
 oX 10 (.mv (kX 0))])
 (.block 4
 (.loop 0 ⟨[(0,sX),(4,.one (rX 4)),(5,.one (rX 5)),(6,.one (rX 6)),(7,.one (rX 7)),(8,sX),(10,sX)],[(4,.box [vX,vX,.c (.v (lX))]),(5,.box [vX,vX,.c (.v (lX))]),(6,.box [vX,vX,fX 500006 1]),(7,.box [vX,vX,fX 500007 1]),(500006,.row true .aa iX),(500007,.row true .aa iX)]⟩ [4,5,6,7,500004,500005,500006,500007] [(true,6,2,500006,.aa,[]),(true,7,2,500007,.aa,[])]
 (.seq
 (.seq
 (.ab false [
 oX 44 (.mv 10),
 oX 45 (.ak 0 5),
 oX 46 (.load false 1 45),
 oX 47 (.bin .lss 44 46)])
 (.cond 47
 .skip
 (.exit 4)))
 (.seq
 (.block 5
 (.ab true [
 oX 50 (.load true 3 7),
 oX 51 (.mv 8),
 oX 52 (.ak 0 4),
 oX 53 (.load false 1 52),
 oX 54 (.mv 10),
 oX 55 (.bin .add 53 54),
 oX 56 (.load true 3 5),
 oX 57 (.mv 10),
 oX 58 (.mv 8),
 oX 59 (.call .aa 67 [56,57,58]),
 oX 60 (.e9 .aa 66 [50,51,55,59])]))
 (.ab false [
 oX 48 (.mv 10),
 oX 49 (.bin .add 48 (kX 1)),
 oX 10 (.mv 49)])))))))))
 (.ab false [
 oX 28 (.mv 8),
 oX 29 (.bin .add 28 (kX 1)),
 oX 8 (.mv 29)])))))))
 (.seq
 (.ab false [
 oX 62 (.mv 0),
 oX 63 (.load true 3 7),
 oX 64 (.call .aa 69 [62,63]),
 oX 61 (.mv 64),
 oX 65 (.ext 0 61),
 oX 66 (.ext 1 61),
 oX 11 (.alloc [zX,zX,.nil iX]),
 uX (.store 3 11 65),
 oX 12 (.mv 66)])
 (.seq
 (.ab false [
 oX 67 (.ak 0 5),
 oX 68 (.load false 1 67),
 oX 69 (.ak 0 4),
 oX 70 (.load false 1 69),
 oX 71 (.call .aa 65 [68,70]),
 oX 13 (.alloc [zX,zX,.nil iX]),
 uX (.store 3 13 71)])
 (.seq
 (.seq
 (.ab false [
 oX 14 (.mv (kX 0))])
 (.join ⟨[(13,.one (rX 13)),(6,.one (rX 6))],[(6,.box [vX,vX,fX 500021 1]),(13,.box [vX,vX,fX 500022 1]),(500021,.row true .aa iX),(500022,.row true .aa iX)]⟩ [4,5,6,11,13,500012,500013,500014,500021,500022] [(true,6,2,500021,.aa,[]),(true,13,2,500022,.aa,[])]
 (.block 6
 (.loop 0 ⟨[(4,.one (rX 4)),(5,.one (rX 5)),(6,.one (rX 6)),(11,.one (rX 11)),(13,.one (rX 13)),(14,sX)],[(4,.box [vX,vX,.c (.v (lX))]),(5,.box [vX,vX,.c (.v (lX))]),(6,.box [vX,vX,fX 500012 1]),(11,.box [vX,vX,fX 500013 1]),(13,.box [vX,vX,fX 500014 1]),(500012,.row true .aa iX),(500013,.row true .aa iX),(500014,.row true .aa iX)]⟩ [4,5,6,7,65000,65001,11,72000,13,500010,500011,500012,500013,500014,500018,500019,500020] [(true,6,2,500012,.aa,[]),(true,11,2,500013,.aa,[]),(true,13,2,500014,.aa,[])]
 (.seq
 (.seq
 (.ab false [
 oX 72 (.mv 14),
 oX 73 (.ak 0 5),
 oX 74 (.load false 1 73),
 oX 75 (.bin .lss 72 74)])
 (.cond 75
 .skip
 (.exit 6)))
 (.seq
 (.join ⟨[(14,sX),(4,.one (rX 4)),(5,.one (rX 5)),(6,.one (rX 6)),(11,.one (rX 11)),(13,.one (rX 13))],[(4,.box [vX,vX,.c (.v (lX))]),(5,.box [vX,vX,.c (.v (lX))]),(6,.box [vX,vX,fX 500018 1]),(11,.box [vX,vX,fX 500019 1]),(13,.box [vX,vX,fX 500020 1]),(500018,.row true .aa iX),(500019,.row true .aa iX),(500020,.row true .aa iX)]⟩ [4,5,6,11,13,500015,500016,500017,500018,500019,500020] [(true,6,2,500018,.aa,[]),(true,11,2,500019,.aa,[]),(true,13,2,500020,.aa,[])]
 (.block 7
 (.seq
 (.ab false [
 oX 15 (.mv (kX 0))])
 (.block 8
 (.loop 0 ⟨[(4,.one (rX 4)),(5,.one (rX 5)),(6,.one (rX 6)),(11,.one (rX 11)),(13,.one (rX 13)),(14,sX),(15,sX)],[(4,.box [vX,vX,.c (.v (lX))]),(5,.box [vX,vX,.c (.v (lX))]),(6,.box [vX,vX,fX 500015 1]),(11,.box [vX,vX,fX 500016 1]),(13,.box [vX,vX,fX 500017 1]),(500015,.row true .aa iX),(500016,.row true .aa iX),(500017,.row true .aa iX)]⟩ [4,5,6,11,13,500012,500013,500014,500015,500016,500017] [(true,6,2,500015,.aa,[]),(true,11,2,500016,.aa,[]),(true,13,2,500017,.aa,[])]
 (.seq
 (.seq
 (.ab false [
 oX 78 (.mv 15),
 oX 79 (.ak 0 4),
 oX 80 (.load false 1 79),
 oX 81 (.bin .lss 78 80)])
 (.cond 81
 .skip
 (.exit 8)))
 (.seq
 (.block 9
 (.ab true [
 oX 84 (.load true 3 13),
 oX 85 (.mv 14),
 oX 86 (.mv 15),
 oX 87 (.load true 3 11),
 oX 88 (.mv 15),
 oX 89 (.ak 0 4),
 oX 90 (.load false 1 89),
 oX 91 (.mv 14),
 oX 92 (.bin .add 90 91),
 oX 93 (.call .aa 67 [87,88,92]),
 oX 94 (.e9 .aa 66 [84,85,86,93])]))
 (.ab false [
 oX 82 (.mv 15),
 oX 83 (.bin .add 82 (kX 1)),
 oX 15 (.mv 83)]))))))))
 (.ab false [
 oX 76 (.mv 14),
 oX 77 (.bin .add 76 (kX 1)),
 oX 14 (.mv 77)])))))))
 (.seq
 (.ab false [
 oX 95 (.load true 3 13),
 uX (.store 3 6 95)])
 .ret)))))))
def OL:List bA:=[.cell 6 3 true]
theorem ahH (NN:Nat) (x:aQ (ao.aP Fm)):cZ NN [tC,oS,oT,Cm] Ru OL Fm Qn x=JO NN x:=by kernel_rfl
theorem afj:bW pX 82 Ru.er OL 3=true:=by decide+kernel
theorem aiV:cJ pX 82 Lv.M/\bF pX 82=true:=
  dd (T:=[tC,oS,oT,Cm]) (sc:=Ru) (ms:=OL) (args:=Fm) (aB:=Qn) (az.cons Iw<|az.cons AZ<|az.nS A2<|az.cons Yg<|az.nil) cu afj wU fun x y h=>(ahH aA x).trans (acu x y h)
def Lu:aG:=⟨51,Fl,agH,Qm,ta⟩
def Rt:bw:=
 (.seq
 (.ab false [
 oX 1 (.box 5 0),
 oX 2 (.alloc [zX,zX,.nil iX,.nil mX,.nil iX])])
 (.seq
 (.ab false [
 oX 9 (.load true 5 1),
 oX 10 (.jv 42 [9]),
 oX 8 (.mv 10),
 oX 11 (.ext 0 8),
 oX 12 (.ext 1 8),
 oX 4 (.alloc [zX,zX,.nil iX]),
 oX 3 (.mv 11),
 uX (.store 3 4 12)])
 (.seq
 (.ab true [
 oX 13 (.ak 0 1),
 oX 14 (.load false 1 13),
 oX 15 (.mv 3),
 oX 16 (.len 15),
 oX 17 (.mv 3),
 oX 18 (.len 17),
 oX 19 (.kB .aa iX 8 (0:Int) 18 18),
 oX 20 (.build [zX,zX,.nil iX,.nil mX,.nil iX] [(0,1,14),(1,1,16),(2,1,19)]),
 oX 5 (.alloc [zX,zX,.nil iX,.nil mX,.nil iX]),
 uX (.store 5 5 20)])
 (.seq
 (.seq
 (.ab false [
 oX 21 (.mv 3),
 oX 22 (.len 21),
 oX 23 (.bin .gtr 22 (kX 0))])
 (.join ⟨[(2,.one (rX 2)),(5,.one (rX 5)),(1,.one (rX 1)),(4,.one (rX 4))],[(1,.box [vX,vX,.c (.v (lX)),.c (.v (.list mX)),.c (.v (lX))]),(2,.box [vX,vX,fX 500000 1,fX 500001 3,fX 500002 1]),(4,.box [vX,vX,.c (.v (lX))]),(5,.box [vX,vX,fX 500003 1,fX 500004 3,fX 500005 1]),(500000,.row true .aa iX),(500001,.row true .aa mX),(500002,.row true .aa iX),(500003,.row true .aa iX),(500004,.row true .aa mX),(500005,.row true .aa iX)]⟩ [1,2,4,19,5,500000,500001,500002,500003,500004,500005] [(true,2,2,500000,.aa,[]),(true,2,3,500001,.aa,[]),(true,2,4,500002,.aa,[]),(true,5,2,500003,.aa,[]),(true,5,3,500004,.aa,[]),(true,5,4,500005,.aa,[])]
 (.cond 23
 (.ab false [
 oX 24 (.ak 2 5),
 oX 25 (.load false 1 24),
 oX 26 (.bT 1 25 (kX 0)),
 uX (.store 1 26 (kX 1))])
 .skip)))
 (.seq
 (.ab true [
 oX 27 (.ak 0 1),
 oX 28 (.load false 1 27),
 oX 29 (.load true 3 4),
 oX 30 (.ak 4 1),
 oX 31 (.load false 1 30),
 oX 32 (.mU 72 true 31),
 oX 33 (.call .aa 70 [28,29,32]),
 oX 34 (.nf false 2 1 33),
 oX 35 (.ak 4 5),
 uX (.store 1 35 34)])
 (.seq
 (.seq
 (.ab false [
 oX 36 (.ak 3 1),
 oX 37 (.load false 1 36),
 oX 38 (.len 37),
 oX 39 (.mv (kX 0))])
 (.join ⟨[(5,.one (rX 5)),(2,.one (rX 2))],[(2,.box [vX,vX,fX 500012 1,fX 500013 3,fX 500014 1]),(5,.box [vX,vX,fX 500015 1,fX 500016 3,fX 500017 1]),(500012,.row true .aa iX),(500013,.row true .aa mX),(500014,.row true .aa iX),(500015,.row true .aa iX),(500016,.row true .aa mX),(500017,.row true .aa iX)]⟩ [1,2,4,5,500006,500007,500008,500009,500010,500011,500012,500013,500014,500015,500016,500017] [(true,2,2,500012,.aa,[]),(true,2,3,500013,.aa,[]),(true,2,4,500014,.aa,[]),(true,5,2,500015,.aa,[]),(true,5,3,500016,.aa,[]),(true,5,4,500017,.aa,[])]
 (.block 0
 (.loop 0 ⟨[(1,.one (rX 1)),(2,.one (rX 2)),(4,.one (rX 4)),(5,.one (rX 5)),(37,.one (.c (.v (.list mX)))),(38,sX),(39,sX)],[(1,.box [vX,vX,.c (.v (lX)),.c (.v (.list mX)),.c (.v (lX))]),(2,.box [vX,vX,fX 500006 1,fX 500007 3,fX 500008 1]),(4,.box [vX,vX,.c (.v (lX))]),(5,.box [vX,vX,fX 500009 1,fX 500010 3,fX 500011 1]),(500006,.row true .aa iX),(500007,.row true .aa mX),(500008,.row true .aa iX),(500009,.row true .aa iX),(500010,.row true .aa mX),(500011,.row true .aa iX)]⟩ [1,2,4,5,34000,7,53000,55,500000,500001,500002,500003,500004,500005,500006,500007,500008,500009,500010,500011] [(true,2,2,500006,.aa,[]),(true,2,3,500007,.aa,[]),(true,2,4,500008,.aa,[]),(true,5,2,500009,.aa,[]),(true,5,3,500010,.aa,[]),(true,5,4,500011,.aa,[])]
 (.seq
 (.ab false [
 oX 40 (.bin .lss 39 38)])
 (.seq
 (.cond 40
 .skip
 (.exit 0))
 (.seq
 (.block 1
 (.seq
 (.ab false [
 oX 41 (.bT 3 37 39),
 oX 42 (.load true 3 41),
 oX 7 (.alloc [zX,zX,.nil iX]),
 uX (.store 3 7 42)])
 (.nF [(0,11),(1,11)] [
 oX 43 (.ak 3 5),
 oX 44 (.load false 1 43),
 oX 45 (.ak 0 1),
 oX 46 (.load false 1 45),
 oX 47 (.load true 3 4),
 oX 48 (.ak 0 1),
 oX 49 (.load false 1 48),
 oX 50 (.load true 3 4),
 oX 51 (.load true 3 7),
 oX 52 (.call .aa 70 [49,50,51]),
 oX 53 (.call .aa 82 [46,47,52]),
 oX 54 (.d8 mX [53]),
 oX 55 (.append false mX 40 44 54),
 oX 56 (.ak 3 5),
 uX (.store 1 56 55)])))
 (.ab false [
 oX 57 (.bin .add 39 (kX 1)),
 oX 39 (.mv 57)]))))))))
 (.seq
 (.ab false [
 oX 58 (.load true 5 5),
 uX (.store 5 2 58)])
 .ret)))))))
def OK:List bA:=[.cell 2 5 true]
theorem ahG (NN:Nat) (x:aQ (ao.aP Fl)):cZ NN [Ls,Cl,Lv] Rt OK Fl Qm x=JN NN x:=by kernel_rfl
theorem afi:bW pX 51 Rt.er OK 1=true:=by decide+kernel
theorem aiU:cJ pX 51 Lu.M/\bF pX 51=true:=
  dd (T:=[Ls,Cl,Lv]) (sc:=Rt) (ms:=OK) (args:=Fl) (aB:=Qm) (az.Uv aiS<|az.cons Yf<|az.cons aiV<|az.nil) cu afi ta fun x y h=>(ahG aA x).trans (acs x y h)
def Lt:aG:=⟨81,Fk,agG,Ql,yV⟩
def Rs:bw:=
 (.seq
 (.ab false [
 oX 1 (.box 3 0),
 oX 2 (.alloc [zX,zX,.nil iX])])
 (.seq
 (.ab false [
 oX 6 (.ak 1 1),
 oX 7 (.load false 1 6),
 oX 8 (.ak 0 1),
 oX 9 (.load false 1 8),
 oX 10 (.call .aa 65 [7,9]),
 oX 3 (.alloc [zX,zX,.nil iX]),
 uX (.store 3 3 10)])
 (.seq
 (.seq
 (.ab false [
 oX 4 (.mv (kX 0))])
 (.join ⟨[(3,.one (rX 3)),(2,.one (rX 2))],[(2,.box [vX,vX,fX 500006 1]),(3,.box [vX,vX,fX 500007 1]),(500006,.row true .aa iX),(500007,.row true .aa iX)]⟩ [1,2,3,500000,500001,500006,500007] [(true,2,2,500006,.aa,[]),(true,3,2,500007,.aa,[])]
 (.block 0
 (.loop 0 ⟨[(1,.one (rX 1)),(2,.one (rX 2)),(3,.one (rX 3)),(4,sX)],[(1,.box [vX,vX,.c (.v (lX))]),(2,.box [vX,vX,fX 500000 1]),(3,.box [vX,vX,fX 500001 1]),(500000,.row true .aa iX),(500001,.row true .aa iX)]⟩ [1,2,11000,3,500000,500001,500004,500005] [(true,2,2,500000,.aa,[]),(true,3,2,500001,.aa,[])]
 (.seq
 (.seq
 (.ab false [
 oX 11 (.mv 4),
 oX 12 (.ak 0 1),
 oX 13 (.load false 1 12),
 oX 14 (.bin .lss 11 13)])
 (.cond 14
 .skip
 (.exit 0)))
 (.seq
 (.join ⟨[(4,sX),(1,.one (rX 1)),(2,.one (rX 2)),(3,.one (rX 3))],[(1,.box [vX,vX,.c (.v (lX))]),(2,.box [vX,vX,fX 500004 1]),(3,.box [vX,vX,fX 500005 1]),(500004,.row true .aa iX),(500005,.row true .aa iX)]⟩ [1,2,3,500002,500003,500004,500005] [(true,2,2,500004,.aa,[]),(true,3,2,500005,.aa,[])]
 (.block 1
 (.seq
 (.ab false [
 oX 5 (.mv (kX 0))])
 (.block 2
 (.loop 0 ⟨[(1,.one (rX 1)),(2,.one (rX 2)),(3,.one (rX 3)),(4,sX),(5,sX)],[(1,.box [vX,vX,.c (.v (lX))]),(2,.box [vX,vX,fX 500002 1]),(3,.box [vX,vX,fX 500003 1]),(500002,.row true .aa iX),(500003,.row true .aa iX)]⟩ [1,2,3,500000,500001,500002,500003] [(true,2,2,500002,.aa,[]),(true,3,2,500003,.aa,[])]
 (.seq
 (.seq
 (.ab false [
 oX 17 (.mv 5),
 oX 18 (.ak 1 1),
 oX 19 (.load false 1 18),
 oX 20 (.bin .lss 17 19)])
 (.cond 20
 .skip
 (.exit 2)))
 (.seq
 (.block 3
 (.ab true [
 oX 23 (.load true 3 3),
 oX 24 (.mv 5),
 oX 25 (.mv 4),
 oX 26 (.load true 3 1),
 oX 27 (.mv 4),
 oX 28 (.mv 5),
 oX 29 (.call .aa 67 [26,27,28]),
 oX 30 (.e9 .aa 66 [23,24,25,29])]))
 (.ab false [
 oX 21 (.mv 5),
 oX 22 (.bin .add 21 (kX 1)),
 oX 5 (.mv 22)]))))))))
 (.ab false [
 oX 15 (.mv 4),
 oX 16 (.bin .add 15 (kX 1)),
 oX 4 (.mv 16)])))))))
 (.seq
 (.ab false [
 oX 31 (.load true 3 3),
 uX (.store 3 2 31)])
 .ret))))
def OJ:List bA:=[.cell 2 3 true]
theorem ahF (NN:Nat) (x:aQ (ao.aP Fk)):cZ NN [tC,oS,oT] Rs OJ Fk Ql x=EJ NN x:=by kernel_rfl
theorem afh:bW pX 81 Rs.er OJ 1=true:=by decide+kernel
theorem aiT:cJ pX 81 Lt.M/\bF pX 81=true:=
  dd (T:=[tC,oS,oT]) (sc:=Rs) (ms:=OJ) (args:=Fk) (aB:=Ql) (az.cons Iw<|az.cons AZ<|az.nS A2<|az.nil) cu afh yV fun x y h=>(ahF aA x).trans (acr x y h)
def Lw:aG:=⟨50,Fo,agJ,Qo,tc⟩
def Rv:bw:=
 (.seq
 (.ab false [
 oX 1 (.box 5 0),
 oX 2 (.alloc [zX,zX,.nil iX,.nil mX,.nil iX])])
 (.seq
 (.ab true [
 oX 6 (.ak 0 1),
 oX 7 (.load false 1 6),
 oX 8 (.ak 1 1),
 oX 9 (.load false 1 8),
 oX 10 (.ak 4 1),
 oX 11 (.load false 1 10),
 oX 12 (.call .aa 44 [11]),
 oX 13 (.ak 2 1),
 oX 14 (.load false 1 13),
 oX 15 (.call .aa 44 [14]),
 oX 16 (.build [zX,zX,.nil iX,.nil mX,.nil iX] [(0,1,7),(1,1,9),(2,1,12),(4,1,15)]),
 oX 3 (.alloc [zX,zX,.nil iX,.nil mX,.nil iX]),
 uX (.store 5 3 16)])
 (.seq
 (.seq
 (.ab false [
 oX 17 (.ak 3 1),
 oX 18 (.load false 1 17),
 oX 19 (.len 18),
 oX 20 (.mv (kX 0))])
 (.join ⟨[(3,.one (rX 3)),(2,.one (rX 2))],[(2,.box [vX,vX,fX 500006 1,fX 500007 3,fX 500008 1]),(3,.box [vX,vX,fX 500009 1,fX 500010 3,fX 500011 1]),(500006,.row true .aa iX),(500007,.row true .aa mX),(500008,.row true .aa iX),(500009,.row true .aa iX),(500010,.row true .aa mX),(500011,.row true .aa iX)]⟩ [2,3,500000,500001,500002,500003,500004,500005,500006,500007,500008,500009,500010,500011] [(true,2,2,500006,.aa,[]),(true,2,3,500007,.aa,[]),(true,2,4,500008,.aa,[]),(true,3,2,500009,.aa,[]),(true,3,3,500010,.aa,[]),(true,3,4,500011,.aa,[])]
 (.block 0
 (.loop 0 ⟨[(2,.one (rX 2)),(3,.one (rX 3)),(18,.one (.c (.v (.list mX)))),(19,sX),(20,sX)],[(2,.box [vX,vX,fX 500000 1,fX 500001 3,fX 500002 1]),(3,.box [vX,vX,fX 500003 1,fX 500004 3,fX 500005 1]),(500000,.row true .aa iX),(500001,.row true .aa mX),(500002,.row true .aa iX),(500003,.row true .aa iX),(500004,.row true .aa mX),(500005,.row true .aa iX)]⟩ [1,2,13000,16000,3,5,29,500000,500001,500002,500003,500004,500005] [(true,2,2,500000,.aa,[]),(true,2,3,500001,.aa,[]),(true,2,4,500002,.aa,[]),(true,3,2,500003,.aa,[]),(true,3,3,500004,.aa,[]),(true,3,4,500005,.aa,[])]
 (.seq
 (.ab false [
 oX 21 (.bin .lss 20 19)])
 (.seq
 (.cond 21
 .skip
 (.exit 0))
 (.seq
 (.block 1
 (.seq
 (.ab false [
 oX 22 (.bT 3 18 20),
 oX 23 (.load true 3 22),
 oX 5 (.alloc [zX,zX,.nil iX]),
 uX (.store 3 5 23)])
 (.nF [(0,4),(1,4)] [
 oX 24 (.ak 3 3),
 oX 25 (.load false 1 24),
 oX 26 (.load true 3 5),
 oX 27 (.call .aa 81 [26]),
 oX 28 (.d8 mX [27]),
 oX 29 (.append false mX 40 25 28),
 oX 30 (.ak 3 3),
 uX (.store 1 30 29)])))
 (.ab false [
 oX 31 (.bin .add 20 (kX 1)),
 oX 20 (.mv 31)]))))))))
 (.seq
 (.ab false [
 oX 32 (.load true 5 3),
 uX (.store 5 2 32)])
 .ret))))
def OM:List bA:=[.cell 2 5 true]
theorem ahI (NN:Nat) (x:aQ (ao.aP Fo)):cZ NN [tB,Lt] Rv OM Fo Qo x=JP NN x:=by kernel_rfl
theorem afk:bW pX 50 Rv.er OM 1=true:=by decide+kernel
theorem aiW:cJ pX 50 Lw.M/\bF pX 50=true:=
  dd (T:=[tB,Lt]) (sc:=Rv) (ms:=OM) (args:=Fo) (aB:=Qo) (az.cons Iv<|az.cons aiT<|az.nil) cu afk tc fun x y h=>(ahI aA x).trans (acv x y h)
def Lp:aG:=⟨18,Fa,agx,Qc,wT⟩
def Rj:bw:=
 (.seq
 (.ab false [
 oX 1 (.box 5 0),
 oX 2 (.alloc [zX,zX,.nil iX,.nil mX,.nil iX])])
 (.seq
 (.seq
 (.ab false [
 oX 3 (.load true 5 1),
 oX 4 (.call .aa 28 [3]),
 oX 5 (.un .not 4)])
 (.cond 5
 (.seq
 (.ab false [
 oX 6 (.build [zX,zX,.nil iX,.nil mX,.nil iX] []),
 uX (.store 5 2 6)])
 .ret)
 .skip))
 (.seq
 (.ab false [
 oX 7 (.load true 5 1),
 oX 8 (.call .aa 51 [7]),
 oX 9 (.call .aa 50 [8]),
 oX 10 (.call .aa 51 [9]),
 oX 11 (.call .aa 50 [10]),
 uX (.store 5 2 11)])
 .ret)))
def Oz:List bA:=[.cell 2 5 true]
theorem ahw (NN:Nat) (x:aQ (ao.aP Fa)):cZ NN [Ll,Lu,Lw] Rj Oz Fa Qc x=EF NN x:=by kernel_rfl
theorem ae8:bW pX 18 Rj.er Oz 1=true:=by decide+kernel
theorem aiP:cJ pX 18 Lp.M/\bF pX 18=true:=
  dd (T:=[Ll,Lu,Lw]) (sc:=Rj) (ms:=Oz) (args:=Fa) (aB:=Qc) (az.cons aiL<|az.cons aiU<|az.cons aiW<|az.nil) cu ae8 wT fun x y h=>(ahw aA x).trans (ach x y h)
def Co:aG:=⟨12,Fs,agN,Qs,td⟩
def RB:bw:=
 (.seq
 (.ab false [
 oX 4 (.mv (.k (.one (.v (.bool) (false)))))])
 (.seq
 (.seq
 (.ab false [
 oX 6 (.mv 0),
 oX 7 (.len 6),
 oX 8 (.mv 1),
 oX 9 (.len 8),
 oX 10 (.bin .neq 7 9)])
 (.cond 10
 (.seq
 (.ab false [
 oX 4 (.mv (.k (.one (.v (.bool) (false)))))])
 .ret)
 .skip))
 (.seq
 (.seq
 (.ab false [
 oX 5 (.mv (kX 0))])
 (.join ⟨[],[]⟩ [] []
 (.block 0
 (.loop 0 ⟨[(0,.one (.c (.v (lX)))),(1,.one (.c (.v (lX)))),(5,sX)],[]⟩ [] []
 (.seq
 (.seq
 (.ab false [
 oX 11 (.mv 5),
 oX 12 (.mv 0),
 oX 13 (.len 12),
 oX 14 (.bin .lss 11 13)])
 (.cond 14
 .skip
 (.exit 0)))
 (.seq
 (.block 1
 (.seq
 (.ab true [
 oX 17 (.mv 0),
 oX 18 (.mv 5),
 oX 19 (.bT 1 17 18),
 oX 20 (.load false 1 19),
 oX 21 (.mv 1),
 oX 22 (.mv 5),
 oX 23 (.bT 1 21 22),
 oX 24 (.load false 1 23),
 oX 25 (.bin .neq 20 24)])
 (.cond 25
 (.seq
 (.ab false [
 oX 4 (.mv (.k (.one (.v (.bool) (false)))))])
 .ret)
 .skip)))
 (.ab false [
 oX 15 (.mv 5),
 oX 16 (.bin .add 15 (kX 1)),
 oX 5 (.mv 16)])))))))
 (.seq
 (.ab false [
 oX 4 (.mv (.k (.one (.v (.bool) (true)))))])
 .ret))))
def OQ:List bA:=[.tmp 4]
theorem ahM (NN:Nat) (x:aQ (ao.aP Fs)):cZ NN [] RB OQ Fs Qs x=TI NN x:=by kernel_rfl
theorem afo:bW pX 12 RB.er OQ 2=true:=by decide+kernel
theorem Yh:cJ pX 12 Co.M/\bF pX 12=true:=
  dd (T:=[]) (sc:=RB) (ms:=OQ) (args:=Fs) (aB:=Qs) (az.nil) cu afo td fun x y h=>(ahM aA x).trans (acz x y h)
def Lz:aG:=⟨73,Ft,agO,Qt,yW⟩
def RD:bw:=
 (.seq
 (.ab false [
 oX 2 (.box 3 0),
 oX 3 (.box 3 1),
 oX 4 (.mv (.k (.one (.v (.bool) (false)))))])
 (.seq
 (.seq
 (.ab false [
 oX 5 (.ak 0 2),
 oX 6 (.load false 1 5),
 oX 7 (.ak 0 3),
 oX 8 (.load false 1 7),
 oX 9 (.bin .neq 6 8)])
 (.cond 9
 (.seq
 (.ab false [
 oX 4 (.mv (.k (.one (.v (.bool) (false)))))])
 .ret)
 .skip))
 (.seq
 (.seq
 (.ab false [
 oX 10 (.ak 1 2),
 oX 11 (.load false 1 10),
 oX 12 (.ak 1 3),
 oX 13 (.load false 1 12),
 oX 14 (.bin .neq 11 13)])
 (.cond 14
 (.seq
 (.ab false [
 oX 4 (.mv (.k (.one (.v (.bool) (false)))))])
 .ret)
 .skip))
 (.seq
 (.seq
 (.ab false [
 oX 15 (.ak 2 2),
 oX 16 (.load false 1 15),
 oX 17 (.ak 2 3),
 oX 18 (.load false 1 17),
 oX 19 (.call .aa 12 [16,18]),
 oX 20 (.un .not 19)])
 (.cond 20
 (.seq
 (.ab false [
 oX 4 (.mv (.k (.one (.v (.bool) (false)))))])
 .ret)
 .skip))
 (.seq
 (.ab false [
 oX 4 (.mv (.k (.one (.v (.bool) (true)))))])
 .ret)))))
def OR:List bA:=[.tmp 4]
theorem ahN (NN:Nat) (x:aQ (ao.aP Ft)):cZ NN [Co] RD OR Ft Qt x=JS NN x:=by kernel_rfl
theorem afp:bW pX 73 RD.er OR 2=true:=by decide+kernel
theorem ai0:cJ pX 73 Lz.M/\bF pX 73=true:=
  dd (T:=[Co]) (sc:=RD) (ms:=OR) (args:=Ft) (aB:=Qt) (az.cons Yh<|az.nil) cu afp yW fun x y h=>(ahN aA x).trans (acA x y h)
def LA:aG:=⟨45,Fu,agP,Qu,yX⟩
def RE:bw:=
 (.seq
 (.ab false [
 oX 4 (.mv (.k (.one (.v (.bool) (false)))))])
 (.seq
 (.seq
 (.ab false [
 oX 6 (.mv 0),
 oX 7 (.len 6),
 oX 8 (.mv 1),
 oX 9 (.len 8),
 oX 10 (.bin .neq 7 9)])
 (.cond 10
 (.seq
 (.ab false [
 oX 4 (.mv (.k (.one (.v (.bool) (false)))))])
 .ret)
 .skip))
 (.seq
 (.seq
 (.ab false [
 oX 5 (.mv (kX 0))])
 (.join ⟨[],[]⟩ [] []
 (.block 0
 (.loop 0 ⟨[(0,.one (.c (.v (.list mX)))),(1,.one (.c (.v (.list mX)))),(5,sX)],[]⟩ [] []
 (.seq
 (.seq
 (.ab false [
 oX 11 (.mv 5),
 oX 12 (.mv 0),
 oX 13 (.len 12),
 oX 14 (.bin .lss 11 13)])
 (.cond 14
 .skip
 (.exit 0)))
 (.seq
 (.block 1
 (.seq
 (.ab true [
 oX 17 (.mv 0),
 oX 18 (.mv 5),
 oX 19 (.bT 3 17 18),
 oX 20 (.load true 3 19),
 oX 21 (.mv 1),
 oX 22 (.mv 5),
 oX 23 (.bT 3 21 22),
 oX 24 (.load true 3 23),
 oX 25 (.call .aa 73 [20,24]),
 oX 26 (.un .not 25)])
 (.cond 26
 (.seq
 (.ab false [
 oX 4 (.mv (.k (.one (.v (.bool) (false)))))])
 .ret)
 .skip)))
 (.ab false [
 oX 15 (.mv 5),
 oX 16 (.bin .add 15 (kX 1)),
 oX 5 (.mv 16)])))))))
 (.seq
 (.ab false [
 oX 4 (.mv (.k (.one (.v (.bool) (true)))))])
 .ret))))
def OS:List bA:=[.tmp 4]
theorem ahO (NN:Nat) (x:aQ (ao.aP Fu)):cZ NN [Lz] RE OS Fu Qu x=TJ NN x:=by kernel_rfl
theorem afq:bW pX 45 RE.er OS 2=true:=by decide+kernel
theorem ai1:cJ pX 45 LA.M/\bF pX 45=true:=
  dd (T:=[Lz]) (sc:=RE) (ms:=OS) (args:=Fu) (aB:=Qu) (az.cons ai0<|az.nil) cu afq yX fun x y h=>(ahO aA x).trans (acB x y h)
def Ly:aG:=⟨13,Fq,agM,Qr,pI⟩
def Rz:bw:=
 (.seq
 (.ab false [
 oX 2 (.box 5 0),
 oX 3 (.box 5 1),
 oX 4 (.mv (.k (.one (.v (.bool) (false)))))])
 (.seq
 (.seq
 (.ab false [
 oX 5 (.ak 0 2),
 oX 6 (.load false 1 5),
 oX 7 (.ak 0 3),
 oX 8 (.load false 1 7),
 oX 9 (.bin .neq 6 8)])
 (.cond 9
 (.seq
 (.ab false [
 oX 4 (.mv (.k (.one (.v (.bool) (false)))))])
 .ret)
 .skip))
 (.seq
 (.seq
 (.ab false [
 oX 10 (.ak 1 2),
 oX 11 (.load false 1 10),
 oX 12 (.ak 1 3),
 oX 13 (.load false 1 12),
 oX 14 (.bin .neq 11 13)])
 (.cond 14
 (.seq
 (.ab false [
 oX 4 (.mv (.k (.one (.v (.bool) (false)))))])
 .ret)
 .skip))
 (.seq
 (.seq
 (.ab false [
 oX 15 (.ak 2 2),
 oX 16 (.load false 1 15),
 oX 17 (.ak 2 3),
 oX 18 (.load false 1 17),
 oX 19 (.call .aa 12 [16,18]),
 oX 20 (.un .not 19)])
 (.cond 20
 (.seq
 (.ab false [
 oX 4 (.mv (.k (.one (.v (.bool) (false)))))])
 .ret)
 .skip))
 (.seq
 (.seq
 (.ab false [
 oX 21 (.ak 3 2),
 oX 22 (.load false 1 21),
 oX 23 (.ak 3 3),
 oX 24 (.load false 1 23),
 oX 25 (.call .aa 45 [22,24]),
 oX 26 (.un .not 25)])
 (.cond 26
 (.seq
 (.ab false [
 oX 4 (.mv (.k (.one (.v (.bool) (false)))))])
 .ret)
 .skip))
 (.seq
 (.seq
 (.ab false [
 oX 27 (.ak 4 2),
 oX 28 (.load false 1 27),
 oX 29 (.ak 4 3),
 oX 30 (.load false 1 29),
 oX 31 (.call .aa 12 [28,30]),
 oX 32 (.un .not 31)])
 (.cond 32
 (.seq
 (.ab false [
 oX 4 (.mv (.k (.one (.v (.bool) (false)))))])
 .ret)
 .skip))
 (.seq
 (.ab false [
 oX 4 (.mv (.k (.one (.v (.bool) (true)))))])
 .ret)))))))
def OP:List bA:=[.tmp 4]
theorem ahL (NN:Nat) (x:aQ (ao.aP Fq)):cZ NN [Co,LA] Rz OP Fq Qr x=JR NN x:=by kernel_rfl
theorem afn:bW pX 13 Rz.er OP 2=true:=by decide+kernel
theorem aiZ:cJ pX 13 Ly.M/\bF pX 13=true:=
  dd (T:=[Co,LA]) (sc:=Rz) (ms:=OP) (args:=Fq) (aB:=Qr) (az.cons Yh<|az.cons ai1<|az.nil) cu afn pI fun x y h=>(ahL aA x).trans (acy x y h)
def Cq:aG:=⟨15,Fz,Ig,Qz,rM⟩
def RL:bw:=
 (.seq
 (.ab false [
 oX 4 (.mv (kX 0))])
 (.seq
 (.seq
 (.ab false [
 oX 5 (.mv (kX 0))])
 (.join ⟨[(1,sX)],[(1000000,.row false .aa iX)]⟩ [1000000] []
 (.block 0
 (.loop 0 ⟨[(0,.one (fX 1000000 1)),(1,sX),(5,sX)],[(1000000,.row false .aa iX)]⟩ [1000000,500000] [(false,0,0,500000,.aa,[])]
 (.seq
 (.seq
 (.ab false [
 oX 6 (.mv 5),
 oX 7 (.mv 0),
 oX 8 (.len 7),
 oX 9 (.bin .lss 6 8)])
 (.cond 9
 .skip
 (.exit 0)))
 (.seq
 (.block 1
 (.seq
 (.ab false [
 oX 12 (.mv 0),
 oX 13 (.mv 5),
 oX 14 (.mv 1),
 oX 15 (.bT 1 12 13),
 uX (.store 1 15 14)])
 (.ab false [
 oX 16 (.mv 1),
 oX 17 (.bin .add 16 (kX 1)),
 oX 1 (.mv 17)])))
 (.ab false [
 oX 10 (.mv 5),
 oX 11 (.bin .add 10 (kX 1)),
 oX 5 (.mv 11)])))))))
 (.seq
 (.ab false [
 oX 18 (.mv 1),
 oX 4 (.mv 18)])
 .ret)))
def OX:List bA:=[.tmp 4]
theorem ahT (NN:Nat) (x:aQ (ao.aP Fz)):sV NN [] RL OX Fz Ig Qz x=JX NN x:=by kernel_rfl
theorem afv:bW pX 15 RL.er OX 2=true:=by decide+kernel
theorem Yj:oK pX 15 Ig Cq.MM/\bF pX 15=true:=
  wi (T:=[]) (sc:=RL) (ms:=OX) (args:=Fz) (mu:=Ig) (aB:=Qz) (az.nil) cu afv rM fun x y h=>(ahT aA x).trans (acG x y h)
def LF:aG:=⟨46,FA,Ih,QA,yZ⟩
def RM:bw:=
 (.seq
 (.ab false [
 oX 4 (.mv (kX 0))])
 (.seq
 (.seq
 (.ab false [
 oX 5 (.mv (kX 0))])
 (.join ⟨[(1,sX)],[(1000000,.row false .live mX)]⟩ [1000000] []
 (.block 0
 (.loop 0 ⟨[(0,.one (fX 1000000 3)),(1,sX),(5,sX)],[(1000000,.row false .live mX)]⟩ [1000000,500000] [(false,0,0,500000,.aa,[])]
 (.seq
 (.seq
 (.ab false [
 oX 6 (.mv 5),
 oX 7 (.mv 0),
 oX 8 (.len 7),
 oX 9 (.bin .lss 6 8)])
 (.cond 9
 .skip
 (.exit 0)))
 (.seq
 (.block 1
 (.seq
 (.ab false [
 oX 12 (.mv 0),
 oX 13 (.mv 5),
 oX 14 (.mv 1),
 oX 15 (.bT 3 12 13),
 oX 16 (.ak 0 15),
 uX (.store 1 16 14)])
 (.seq
 (.ab false [
 oX 17 (.mv 1),
 oX 18 (.bin .add 17 (kX 1)),
 oX 1 (.mv 18)])
 (.seq
 (.ab false [
 oX 19 (.mv 0),
 oX 20 (.mv 5),
 oX 21 (.mv 1),
 oX 22 (.bT 3 19 20),
 oX 23 (.ak 1 22),
 uX (.store 1 23 21)])
 (.seq
 (.ab false [
 oX 24 (.mv 1),
 oX 25 (.bin .add 24 (kX 1)),
 oX 1 (.mv 25)])
 (.ab false [
 oX 26 (.mv 0),
 oX 27 (.mv 5),
 oX 28 (.bT 3 26 27),
 oX 29 (.ak 2 28),
 oX 30 (.load false 1 29),
 oX 31 (.mv 1),
 oX 32 (.e9 .aa 15 [30,31]),
 oX 1 (.mv 32)]))))))
 (.ab false [
 oX 10 (.mv 5),
 oX 11 (.bin .add 10 (kX 1)),
 oX 5 (.mv 11)])))))))
 (.seq
 (.ab false [
 oX 33 (.mv 1),
 oX 4 (.mv 33)])
 .ret)))
def OY:List bA:=[.tmp 4]
theorem ahU (NN:Nat) (x:aQ (ao.aP FA)):sV NN [Cq] RM OY FA Ih QA x=JY NN x:=by kernel_rfl
theorem afw:bW pX 46 RM.er OY 2=true:=by decide+kernel
theorem ai5:oK pX 46 Ih LF.MM/\bF pX 46=true:=
  wi (T:=[Cq]) (sc:=RM) (ms:=OY) (args:=FA) (mu:=Ih) (aB:=QA) (az.nS Yj<|az.nil) cu afw yZ fun x y h=>(ahU aA x).trans (acH x y h)
def LD:aG:=⟨14,Fy,Ie,Qy,uY⟩
def RJ:bw:=
 (.seq
 (.ab false [
 oX 2 (.box 5 0),
 oX 4 (.mv (kX 0))])
 (.seq
 (.ab false [
 oX 5 (.ak 2 2),
 oX 6 (.load false 1 5),
 oX 7 (.mv 1),
 oX 8 (.e9 .live 15 [6,7]),
 oX 1 (.mv 8)])
 (.seq
 (.ab false [
 oX 9 (.ak 3 2),
 oX 10 (.load false 1 9),
 oX 11 (.mv 1),
 oX 12 (.e9 .live 46 [10,11]),
 oX 1 (.mv 12)])
 (.seq
 (.ab false [
 oX 13 (.ak 4 2),
 oX 14 (.load false 1 13),
 oX 15 (.mv 1),
 oX 16 (.e9 .live 15 [14,15]),
 oX 1 (.mv 16)])
 (.seq
 (.ab false [
 oX 17 (.mv 1),
 oX 4 (.mv 17)])
 .ret)))))
def OW:List bA:=[.tmp 4]
theorem ahS (NN:Nat) (x:aQ (ao.aP Fy)):sV NN [Cq,LF] RJ OW Fy Ie Qy x=JW NN x:=by kernel_rfl
theorem afu:bW pX 14 RJ.er OW 2=true:=by decide+kernel
theorem ai4:oK pX 14 Ie LD.MM/\bF pX 14=true:=
  wi (T:=[Cq,LF]) (sc:=RJ) (ms:=OW) (args:=Fy) (mu:=Ie) (aB:=Qy) (az.nS Yj<|az.nS ai5<|az.nil) cu afu uY fun x y h=>(ahS aA x).trans (acF x y h)
def Cp:aG:=⟨16,Fw,agR,Qw,rL⟩
def RG:bw:=
 (.seq
 (.ab false [
 oX 4 (.mv (kX 0))])
 (.seq
 (.seq
 (.ab false [
 oX 5 (.mv (kX 0))])
 (.join ⟨[(1,sX)],[]⟩ [] []
 (.block 0
 (.loop 0 ⟨[(0,.one (.c (.v (lX)))),(1,sX),(5,sX)],[]⟩ [] []
 (.seq
 (.seq
 (.ab false [
 oX 6 (.mv 5),
 oX 7 (.mv 0),
 oX 8 (.len 7),
 oX 9 (.bin .lss 6 8)])
 (.cond 9
 .skip
 (.exit 0)))
 (.seq
 (.block 1
 (.seq
 (.seq
 (.ab false [
 oX 12 (.mv 0),
 oX 13 (.mv 5),
 oX 14 (.bT 1 12 13),
 oX 15 (.load false 1 14),
 oX 16 (.mv 1),
 oX 17 (.bin .neq 15 16)])
 (.cond 17
 (.seq
 (.ab false [
 oX 4 (.mv (kX (-1)))])
 .ret)
 .skip))
 (.ab false [
 oX 18 (.mv 1),
 oX 19 (.bin .add 18 (kX 1)),
 oX 1 (.mv 19)])))
 (.ab false [
 oX 10 (.mv 5),
 oX 11 (.bin .add 10 (kX 1)),
 oX 5 (.mv 11)])))))))
 (.seq
 (.ab false [
 oX 20 (.mv 1),
 oX 4 (.mv 20)])
 .ret)))
def OU:List bA:=[.tmp 4]
theorem ahQ (NN:Nat) (x:aQ (ao.aP Fw)):cZ NN [] RG OU Fw Qw x=JU NN x:=by kernel_rfl
theorem afs:bW pX 16 RG.er OU 2=true:=by decide+kernel
theorem Yi:cJ pX 16 Cp.M/\bF pX 16=true:=
  dd (T:=[]) (sc:=RG) (ms:=OU) (args:=Fw) (aB:=Qw) (az.nil) cu afs rL fun x y h=>(ahQ aA x).trans (acD x y h)
def LC:aG:=⟨52,Fx,agS,Qx,yY⟩
def RH:bw:=
 (.seq
 (.ab false [
 oX 4 (.mv (kX 0))])
 (.seq
 (.seq
 (.ab false [
 oX 5 (.mv (kX 0))])
 (.join ⟨[(1,sX)],[]⟩ [] []
 (.block 0
 (.loop 0 ⟨[(0,.one (.c (.v (.list mX)))),(1,sX),(5,sX)],[]⟩ [] []
 (.seq
 (.seq
 (.ab false [
 oX 6 (.mv 5),
 oX 7 (.mv 0),
 oX 8 (.len 7),
 oX 9 (.bin .lss 6 8)])
 (.cond 9
 .skip
 (.exit 0)))
 (.seq
 (.block 1
 (.seq
 (.seq
 (.ab false [
 oX 12 (.mv 0),
 oX 13 (.mv 5),
 oX 14 (.bT 3 12 13),
 oX 15 (.ak 0 14),
 oX 16 (.load false 1 15),
 oX 17 (.mv 1),
 oX 18 (.bin .neq 16 17)])
 (.cond 18
 (.seq
 (.ab false [
 oX 4 (.mv (kX (-1)))])
 .ret)
 .skip))
 (.seq
 (.ab false [
 oX 19 (.mv 1),
 oX 20 (.bin .add 19 (kX 1)),
 oX 1 (.mv 20)])
 (.seq
 (.seq
 (.ab false [
 oX 21 (.mv 0),
 oX 22 (.mv 5),
 oX 23 (.bT 3 21 22),
 oX 24 (.ak 1 23),
 oX 25 (.load false 1 24),
 oX 26 (.mv 1),
 oX 27 (.bin .neq 25 26)])
 (.cond 27
 (.seq
 (.ab false [
 oX 4 (.mv (kX (-1)))])
 .ret)
 .skip))
 (.seq
 (.ab false [
 oX 28 (.mv 1),
 oX 29 (.bin .add 28 (kX 1)),
 oX 1 (.mv 29)])
 (.seq
 (.ab false [
 oX 30 (.mv 0),
 oX 31 (.mv 5),
 oX 32 (.bT 3 30 31),
 oX 33 (.ak 2 32),
 oX 34 (.load false 1 33),
 oX 35 (.mv 1),
 oX 36 (.call .aa 16 [34,35]),
 oX 1 (.mv 36)])
 (.seq
 (.ab false [
 oX 37 (.mv 1),
 oX 38 (.bin .lss 37 (kX 0))])
 (.cond 38
 (.seq
 (.ab false [
 oX 4 (.mv (kX (-1)))])
 .ret)
 .skip))))))))
 (.ab false [
 oX 10 (.mv 5),
 oX 11 (.bin .add 10 (kX 1)),
 oX 5 (.mv 11)])))))))
 (.seq
 (.ab false [
 oX 39 (.mv 1),
 oX 4 (.mv 39)])
 .ret)))
def OV:List bA:=[.tmp 4]
theorem ahR (NN:Nat) (x:aQ (ao.aP Fx)):cZ NN [Cp] RH OV Fx Qx x=JV NN x:=by kernel_rfl
theorem aft:bW pX 52 RH.er OV 2=true:=by decide+kernel
theorem ai3:cJ pX 52 LC.M/\bF pX 52=true:=
  dd (T:=[Cp]) (sc:=RH) (ms:=OV) (args:=Fx) (aB:=Qx) (az.cons Yi<|az.nil) cu aft yY fun x y h=>(ahR aA x).trans (acE x y h)
def LB:aG:=⟨19,Fv,agQ,Qv,te⟩
def RF:bw:=
 (.seq
 (.ab false [
 oX 2 (.box 5 0),
 oX 4 (.mv (kX 0))])
 (.seq
 (.ab false [
 oX 5 (.ak 2 2),
 oX 6 (.load false 1 5),
 oX 7 (.mv 1),
 oX 8 (.call .aa 16 [6,7]),
 oX 1 (.mv 8)])
 (.seq
 (.seq
 (.ab false [
 oX 9 (.mv 1),
 oX 10 (.bin .lss 9 (kX 0))])
 (.cond 10
 (.seq
 (.ab false [
 oX 4 (.mv (kX (-1)))])
 .ret)
 .skip))
 (.seq
 (.ab false [
 oX 11 (.ak 3 2),
 oX 12 (.load false 1 11),
 oX 13 (.mv 1),
 oX 14 (.call .aa 52 [12,13]),
 oX 1 (.mv 14)])
 (.seq
 (.seq
 (.ab false [
 oX 15 (.mv 1),
 oX 16 (.bin .lss 15 (kX 0))])
 (.cond 16
 (.seq
 (.ab false [
 oX 4 (.mv (kX (-1)))])
 .ret)
 .skip))
 (.seq
 (.ab false [
 oX 17 (.ak 4 2),
 oX 18 (.load false 1 17),
 oX 19 (.mv 1),
 oX 20 (.call .aa 16 [18,19]),
 oX 1 (.mv 20)])
 (.seq
 (.seq
 (.ab false [
 oX 21 (.mv 1),
 oX 22 (.bin .lss 21 (kX 0))])
 (.cond 22
 (.seq
 (.ab false [
 oX 4 (.mv (kX (-1)))])
 .ret)
 .skip))
 (.seq
 (.ab false [
 oX 23 (.mv 1),
 oX 4 (.mv 23)])
 .ret))))))))
def OT:List bA:=[.tmp 4]
theorem ahP (NN:Nat) (x:aQ (ao.aP Fv)):cZ NN [Cp,LC] RF OT Fv Qv x=JT NN x:=by kernel_rfl
theorem afr:bW pX 19 RF.er OT 2=true:=by decide+kernel
theorem ai2:cJ pX 19 LB.M/\bF pX 19=true:=
  dd (T:=[Cp,LC]) (sc:=RF) (ms:=OT) (args:=Fv) (aB:=Qv) (az.cons Yi<|az.cons ai3<|az.nil) cu afr te fun x y h=>(ahP aA x).trans (acC x y h)
def GY:aG:=⟨4,vc,agL,Qq,EA⟩
def Rx:bw:=
 (.seq
 (.ab false [
 oX 1 (.box 5 0),
 oX 2 (.mv (.k (.one (.v (.bool) (false)))))])
 (.seq
 (.ab false [
 oX 3 (.mv (kX 1048576))])
 (.seq
 (.ab false [
 oX 11 (.load true 5 1),
 oX 12 (.mv 3),
 oX 13 (.call .live 8 [11,12]),
 oX 3 (.mv 13)])
 (.seq
 (.seq
 (.ab false [
 oX 14 (.mv 3),
 oX 15 (.bin .lss 14 (kX 0))])
 (.cond 15
 (.seq
 (.ab false [
 oX 2 (.mv (.k (.one (.v (.bool) (true)))))])
 .ret)
 .skip))
 (.seq
 (.ab false [
 oX 16 (.load true 5 1),
 oX 17 (.call .live 10 [16]),
 oX 18 (.call .live 17 [17]),
 oX 4 (.alloc [zX,zX,.nil iX,.nil mX,.nil iX]),
 uX (.store 5 4 18)])
 (.seq
 (.ab false [
 oX 19 (.load true 5 1),
 oX 20 (.call .live 10 [19]),
 oX 5 (.alloc [zX,zX,.nil iX,.nil mX,.nil iX]),
 uX (.store 5 5 20)])
 (.seq
 (.ab false [
 oX 21 (.load true 5 5),
 oX 22 (.call .live 18 [21]),
 oX 6 (.alloc [zX,zX,.nil iX,.nil mX,.nil iX]),
 uX (.store 5 6 22)])
 (.seq
 (.seq
 (.ab false [
 oX 23 (.load true 5 6),
 oX 24 (.load true 5 4),
 oX 25 (.call .live 13 [23,24]),
 oX 26 (.un .not 25)])
 (.cond 26
 (.seq
 (.ab false [
 oX 2 (.mv (.k (.one (.v (.bool) (false)))))])
 .ret)
 .skip))
 (.seq
 (.seq
 (.ab true [
 oX 27 (.load true 5 5),
 oX 28 (.load true 5 1),
 oX 29 (.call .live 10 [28]),
 oX 30 (.call .live 13 [27,29]),
 oX 31 (.un .not 30)])
 (.cond 31
 (.seq
 (.ab false [
 oX 2 (.mv (.k (.one (.v (.bool) (false)))))])
 .ret)
 .skip))
 (.seq
 (.ab false [
 oX 7 (.mv (kX 1))])
 (.seq
 (.ab false [
 oX 32 (.load true 5 5),
 oX 33 (.mv 7),
 oX 34 (.e9 .live 14 [32,33]),
 oX 7 (.mv 34)])
 (.seq
 (.seq
 (.ab false [
 oX 35 (.mv 7),
 oX 36 (.bin .lss 35 (kX 0)),
 oX 37 (.mv 36),
 ⟨(some 38),.load true 5 6,(some (37,false))⟩,
 ⟨(some 39),.load true 5 4,(some (37,false))⟩,
 ⟨(some 40),.call .live 13 [38,39],(some (37,false))⟩,
 ⟨(some 41),.un .not 40,(some (37,false))⟩,
 oX 42 (.pick 37 (.k (.one (.v (.bool) (true)))) 41)])
 (.cond 42
 (.seq
 (.ab false [
 oX 2 (.mv (.k (.one (.v (.bool) (false)))))])
 .ret)
 .skip))
 (.seq
 (.ab false [
 oX 8 (.mv (kX 1))])
 (.seq
 (.ab false [
 oX 43 (.load true 5 6),
 oX 44 (.mv 8),
 oX 45 (.e9 .live 14 [43,44]),
 oX 8 (.mv 45)])
 (.seq
 (.ab false [
 oX 9 (.mv (kX 1))])
 (.seq
 (.ab false [
 oX 46 (.load true 5 6),
 oX 47 (.mv 9),
 oX 48 (.call .live 19 [46,47]),
 oX 9 (.mv 48)])
 (.seq
 (.seq
 (.ab false [
 oX 49 (.mv 9),
 oX 50 (.bin .lss 49 (kX 0))])
 (.cond 50
 (.seq
 (.ab false [
 oX 2 (.mv (.k (.one (.v (.bool) (false)))))])
 .ret)
 .skip))
 (.seq
 (.seq
 (.ab false [
 oX 51 (.mv 9),
 oX 52 (.mv 8),
 oX 53 (.bin .neq 51 52)])
 (.cond 53
 (.seq
 (.ab false [
 oX 2 (.mv (.k (.one (.v (.bool) (false)))))])
 .ret)
 .skip))
 (.seq
 (.ab false [
 oX 54 (.load true 5 1),
 oX 55 (.call .live 10 [54]),
 oX 56 (.call .live 18 [55]),
 oX 10 (.alloc [zX,zX,.nil iX,.nil mX,.nil iX]),
 uX (.store 5 10 56)])
 (.seq
 (.seq
 (.ab false [
 oX 57 (.load true 5 10),
 oX 58 (.load true 5 4),
 oX 59 (.call .live 13 [57,58]),
 oX 60 (.un .not 59)])
 (.cond 60
 (.seq
 (.ab false [
 oX 2 (.mv (.k (.one (.v (.bool) (false)))))])
 .ret)
 .skip))
 (.seq
 (.ab false [
 oX 9 (.mv (kX 1))])
 (.seq
 (.ab false [
 oX 61 (.load true 5 6),
 oX 62 (.mv 9),
 oX 63 (.call .live 19 [61,62]),
 oX 9 (.mv 63)])
 (.seq
 (.seq
 (.ab false [
 oX 64 (.mv 9),
 oX 65 (.bin .lss 64 (kX 0))])
 (.cond 65
 (.seq
 (.ab false [
 oX 2 (.mv (.k (.one (.v (.bool) (false)))))])
 .ret)
 .skip))
 (.seq
 (.seq
 (.ab false [
 oX 66 (.mv 9),
 oX 67 (.mv 8),
 oX 68 (.bin .neq 66 67)])
 (.cond 68
 (.seq
 (.ab false [
 oX 2 (.mv (.k (.one (.v (.bool) (false)))))])
 .ret)
 .skip))
 (.seq
 (.ab false [
 oX 2 (.mv (.k (.one (.v (.bool) (true)))))])
 .ret)))))))))))))))))))))))))
def OO:List bA:=[.tmp 2]
theorem ahK (NN:Nat) (x:aQ (ao.aP vc)):cZ NN [LG,LJ,LP,Lp,Ly,LD,LB] Rx OO vc Qq x=JQ NN x:=by kernel_rfl
theorem afm:bW pX 4 Rx.er OO 1=true:=by decide+kernel
theorem aiY:cJ pX 4 GY.M/\bF pX 4=true:=
  dd (T:=[LG,LJ,LP,Lp,Ly,LD,LB]) (sc:=Rx) (ms:=OO) (args:=vc) (aB:=Qq) (az.cons ai6<|az.cons ai9<|az.cons aje<|az.cons aiP<|az.cons aiZ<|az.nS ai4<|az.cons ai2<|az.nil) cu afm EA fun x y h=>(ahK aA x).trans (acx x y h)
end Go.Am
