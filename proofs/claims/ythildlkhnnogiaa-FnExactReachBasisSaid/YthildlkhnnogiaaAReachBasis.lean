/- A_ReachBasis: the code of the functions of FnExactReachBasis. No condition. -/
import Derived.Test.YthildlkhnnogiaaLReachBasis
import Derived.Test.YthildlkhnnogiaaBr2
import Derived.KernelRfl
import Derived.Test.YthildlkhnnogiaaRows
set_option linter.unusedVariables false
set_option maxRecDepth 100000
namespace Go.Am
theorem cV:Go.Proofs.Try.prog.follows .mixedOrders=true:=by decide+kernel
noncomputable abbrev pX:=Go.Proofs.Try.prog
def oX (n:Nat) (x:cl):ez:=⟨some n,x,none⟩
def uX (x:cl):ez:=⟨none,x,none⟩
def kX (n:Int):bV:=.k (.one (.v (.int .i64) n))
def sX:iZ:=.one (.c (.v (.int .i64)))
def iX:List Ty:=[.int .i64]
def lX:Ty:=.list iX
def mX:List Ty:=[.int .i64,.int .i64,lX]
def zX:SC:=.v (.int .i64) (0:Int)
def vX:dW:=.c (.v (.int .i64))
def fX (n k:Nat):dW:=.c (.full n k)
def rX (n:Nat):dW:=.c (.FB n 0)
instance tX (n:Nat):OfNat bV n:=⟨.t n⟩
def D9:ar:=⟨72,Hu,aip,Sc,sM⟩
def Th:bE:=
 (.seq
 (.ae false [
 oX 4 (.mv (kX 0))])
 (.seq
 (.ae false [
 oX 5 (.mv 1),
 oX 6 (.mv 0),
 oX 7 (.len 6),
 oX 8 (.bin .sub 5 7),
 oX 1 (.mv 8)])
 (.seq
 (.seq
 (.ae false [
 oX 9 (.mv 1),
 oX 10 (.bin .lss 9 (kX 0))])
 (.cond 10
 (.seq
 (.ae false [
 oX 4 (.mv (kX (-1)))])
 .ret)
 .skip))
 (.seq
 (.ae false [
 oX 11 (.mv 1),
 oX 4 (.mv 11)])
 .ret))))
def QA:List bN:=[.tmp 4]
theorem ajl (NN:Nat) (x:aZ (aq.aY Hu)):dK NN [] Th QA Hu Sc x=Ly NN x:=by kernel_rfl
theorem ahh:cC pX 72 Th.er QA 2=true:=by decide+kernel
theorem ZH:de pX 72 D9.M/\bJ pX 72=true:=
  dV (T:=[]) (sc:=Th) (ms:=QA) (args:=Hu) (aB:=Sc) (aO.nil) cV ahh sM fun x y h=>(ajl aM x).trans (aeB x y h)
def Nz:ar:=⟨175,Hv,aiq,Sd,AL⟩
def Ti:bE:=
 (.seq
 (.ae false [
 oX 2 (.box 3 0),
 oX 4 (.mv (kX 0))])
 (.seq
 (.ae false [
 oX 5 (.aC 2 2),
 oX 6 (.load false 1 5),
 oX 7 (.mv 1),
 oX 8 (.call .af 72 [6,7]),
 oX 1 (.mv 8)])
 (.seq
 (.seq
 (.ae false [
 oX 9 (.mv 1),
 oX 10 (.bin .lss 9 (kX 0))])
 (.cond 10
 (.seq
 (.ae false [
 oX 4 (.mv (kX (-1)))])
 .ret)
 .skip))
 (.seq
 (.ae false [
 oX 11 (.mv 1),
 oX 4 (.mv 11)])
 .ret))))
def QB:List bN:=[.tmp 4]
theorem ajm (NN:Nat) (x:aZ (aq.aY Hv)):dK NN [D9] Ti QB Hv Sd x=Lz NN x:=by kernel_rfl
theorem ahi:cC pX 175 Ti.er QB 2=true:=by decide+kernel
theorem akt:de pX 175 Nz.M/\bJ pX 175=true:=
  dV (T:=[D9]) (sc:=Ti) (ms:=QB) (args:=Hv) (aB:=Sd) (aO.cons ZH<|aO.nil) cV ahi AL fun x y h=>(ajm aM x).trans (aeC x y h)
def NA:ar:=⟨73,Hw,air,Se,AM⟩
def Tj:bE:=
 (.seq
 (.ae false [
 oX 4 (.mv (kX 0))])
 (.seq
 (.ae false [
 oX 6 (.mv 1),
 oX 7 (.mv 0),
 oX 8 (.len 7),
 oX 9 (.bin .sub 6 8),
 oX 1 (.mv 9)])
 (.seq
 (.seq
 (.ae false [
 oX 10 (.mv 1),
 oX 11 (.bin .lss 10 (kX 0))])
 (.cond 11
 (.seq
 (.ae false [
 oX 4 (.mv (kX (-1)))])
 .ret)
 .skip))
 (.seq
 (.seq
 (.ae false [
 oX 5 (.mv (kX 0))])
 (.join ⟨[(1,sX)],[]⟩ [] []
 (.block 0
 (.loop 0 ⟨[(0,.one (.c (.v (.list mX)))),(1,sX),(5,sX)],[]⟩ [] []
 (.seq
 (.seq
 (.ae false [
 oX 12 (.mv 5),
 oX 13 (.mv 0),
 oX 14 (.len 13),
 oX 15 (.bin .lss 12 14)])
 (.cond 15
 .skip
 (.exit 0)))
 (.seq
 (.block 1
 (.seq
 (.ae false [
 oX 18 (.mv 0),
 oX 19 (.mv 5),
 oX 20 (.cH 3 18 19),
 oX 21 (.load true 3 20),
 oX 22 (.mv 1),
 oX 23 (.call .af 175 [21,22]),
 oX 1 (.mv 23)])
 (.seq
 (.ae false [
 oX 24 (.mv 1),
 oX 25 (.bin .lss 24 (kX 0))])
 (.cond 25
 (.seq
 (.ae false [
 oX 4 (.mv (kX (-1)))])
 .ret)
 .skip))))
 (.ae false [
 oX 16 (.mv 5),
 oX 17 (.bin .add 16 (kX 1)),
 oX 5 (.mv 17)])))))))
 (.seq
 (.ae false [
 oX 26 (.mv 1),
 oX 4 (.mv 26)])
 .ret)))))
def QC:List bN:=[.tmp 4]
theorem ajn (NN:Nat) (x:aZ (aq.aY Hw)):dK NN [Nz] Tj QC Hw Se x=U5 NN x:=by kernel_rfl
theorem ahj:cC pX 73 Tj.er QC 2=true:=by decide+kernel
theorem aku:de pX 73 NA.M/\bJ pX 73=true:=
  dV (T:=[Nz]) (sc:=Tj) (ms:=QC) (args:=Hw) (aB:=Se) (aO.cons akt<|aO.nil) cV ahj AM fun x y h=>(ajn aM x).trans (aeD x y h)
def Ny:ar:=⟨10,Ht,aio,Sb,AK⟩
def Tg:bE:=
 (.seq
 (.ae false [
 oX 2 (.box 5 0),
 oX 4 (.mv (kX 0))])
 (.seq
 (.ae false [
 oX 5 (.aC 2 2),
 oX 6 (.load false 1 5),
 oX 7 (.mv 1),
 oX 8 (.call .af 72 [6,7]),
 oX 1 (.mv 8)])
 (.seq
 (.seq
 (.ae false [
 oX 9 (.mv 1),
 oX 10 (.bin .lss 9 (kX 0))])
 (.cond 10
 (.seq
 (.ae false [
 oX 4 (.mv (kX (-1)))])
 .ret)
 .skip))
 (.seq
 (.ae false [
 oX 11 (.aC 3 2),
 oX 12 (.load false 1 11),
 oX 13 (.mv 1),
 oX 14 (.call .af 73 [12,13]),
 oX 1 (.mv 14)])
 (.seq
 (.seq
 (.ae false [
 oX 15 (.mv 1),
 oX 16 (.bin .lss 15 (kX 0))])
 (.cond 16
 (.seq
 (.ae false [
 oX 4 (.mv (kX (-1)))])
 .ret)
 .skip))
 (.seq
 (.ae false [
 oX 17 (.aC 4 2),
 oX 18 (.load false 1 17),
 oX 19 (.mv 1),
 oX 20 (.call .af 72 [18,19]),
 oX 1 (.mv 20)])
 (.seq
 (.seq
 (.ae false [
 oX 21 (.mv 1),
 oX 22 (.bin .lss 21 (kX 0))])
 (.cond 22
 (.seq
 (.ae false [
 oX 4 (.mv (kX (-1)))])
 .ret)
 .skip))
 (.seq
 (.ae false [
 oX 23 (.mv 1),
 oX 4 (.mv 23)])
 .ret))))))))
def Qz:List bN:=[.tmp 4]
theorem ajk (NN:Nat) (x:aZ (aq.aY Ht)):dK NN [D9,NA] Tg Qz Ht Sb x=Lx NN x:=by kernel_rfl
theorem ahg:cC pX 10 Tg.er Qz 2=true:=by decide+kernel
theorem aks:de pX 10 Ny.M/\bJ pX 10=true:=
  dV (T:=[D9,NA]) (sc:=Tg) (ms:=Qz) (args:=Ht) (aB:=Sb) (aO.cons ZH<|aO.cons aku<|aO.nil) cV ahg AK fun x y h=>(ajk aM x).trans (aeA x y h)
def Ea:ar:=⟨23,Hy,ait,Sg,uo⟩
def Tl:bE:=
 (.seq
 (.ae false [
 oX 2 (.mv (.k (.one (.nil iX))))])
 (.seq
 (.ae false [
 oX 5 (.mv 0),
 oX 6 (.len 5),
 oX 7 (.lK .af iX 8 (0:Int) 6 6),
 oX 3 (.mv 7)])
 (.seq
 (.seq
 (.ae false [
 oX 4 (.mv (kX 0))])
 (.join ⟨[(3,.one (fX 500001 1))],[(500001,.row true .af iX)]⟩ [500000,500001] [(false,3,0,500001,.af,[])]
 (.block 0
 (.loop 0 ⟨[(0,.one (.c (.v (lX)))),(3,.one (fX 500000 1)),(4,sX)],[(500000,.row true .af iX)]⟩ [7,500000] [(false,3,0,500000,.af,[])]
 (.seq
 (.seq
 (.ae false [
 oX 8 (.mv 4),
 oX 9 (.mv 0),
 oX 10 (.len 9),
 oX 11 (.bin .lss 8 10)])
 (.cond 11
 .skip
 (.exit 0)))
 (.seq
 (.block 1
 (.ae false [
 oX 14 (.mv 3),
 oX 15 (.mv 4),
 oX 16 (.mv 0),
 oX 17 (.mv 4),
 oX 18 (.cH 1 16 17),
 oX 19 (.load false 1 18),
 oX 20 (.cH 1 14 15),
 uX (.store 1 20 19)]))
 (.ae false [
 oX 12 (.mv 4),
 oX 13 (.bin .add 12 (kX 1)),
 oX 4 (.mv 13)])))))))
 (.seq
 (.ae false [
 oX 21 (.mv 3),
 oX 2 (.mv 21)])
 .ret))))
def QE:List bN:=[.tmp 2]
theorem ajp (NN:Nat) (x:aZ (aq.aY Hy)):dK NN [] Tl QE Hy Sg x=LB NN x:=by kernel_rfl
theorem ahl:cC pX 23 Tl.er QE 1=true:=by decide+kernel
theorem ZI:de pX 23 Ea.M/\bJ pX 23=true:=
  dV (T:=[]) (sc:=Tl) (ms:=QE) (args:=Hy) (aB:=Sg) (aO.nil) cV ahl uo fun x y h=>(ajp aM x).trans (aeF x y h)
def NC:ar:=⟨183,Hz,aiu,Sh,AO⟩
def Tm:bE:=
 (.seq
 (.ae false [
 oX 1 (.box 3 0),
 oX 2 (.alloc [zX,zX,.nil iX])])
 (.seq
 (.ae false [
 oX 3 (.alloc [zX,zX,.nil iX])])
 (.seq
 (.ae false [
 oX 4 (.aC 0 1),
 oX 5 (.load false 1 4),
 oX 6 (.aC 0 3),
 uX (.store 1 6 5)])
 (.seq
 (.ae false [
 oX 7 (.aC 1 1),
 oX 8 (.load false 1 7),
 oX 9 (.aC 1 3),
 uX (.store 1 9 8)])
 (.seq
 (.ae false [
 oX 10 (.aC 2 1),
 oX 11 (.load false 1 10),
 oX 12 (.call .af 23 [11]),
 oX 13 (.aC 2 3),
 uX (.store 1 13 12)])
 (.seq
 (.ae false [
 oX 14 (.load true 3 3),
 uX (.store 3 2 14)])
 .ret))))))
def QF:List bN:=[.cell 2 3 true]
theorem ajq (NN:Nat) (x:aZ (aq.aY Hz)):dK NN [Ea] Tm QF Hz Sh x=LC NN x:=by kernel_rfl
theorem ahm:cC pX 183 Tm.er QF 1=true:=by decide+kernel
theorem akw:de pX 183 NC.M/\bJ pX 183=true:=
  dV (T:=[Ea]) (sc:=Tm) (ms:=QF) (args:=Hz) (aB:=Sh) (aO.cons ZI<|aO.nil) cV ahm AO fun x y h=>(ajq aM x).trans (aeG x y h)
def ND:ar:=⟨76,HA,aiv,Si,AP⟩
def Tn:bE:=
 (.seq
 (.ae false [
 oX 2 (.mv (.k (.one (.nil mX))))])
 (.seq
 (.ae false [
 oX 5 (.mv 0),
 oX 6 (.len 5),
 oX 7 (.lK .af mX 40 ((0:Int),((0:Int),[])) 6 6),
 oX 3 (.mv 7)])
 (.seq
 (.seq
 (.ae false [
 oX 4 (.mv (kX 0))])
 (.join ⟨[(3,.one (fX 500001 3))],[(500001,.row true .af mX)]⟩ [500000,500001] [(false,3,0,500001,.af,[])]
 (.block 0
 (.loop 0 ⟨[(0,.one (.c (.v (.list mX)))),(3,.one (fX 500000 3)),(4,sX)],[(500000,.row true .af mX)]⟩ [7,500000] [(false,3,0,500000,.af,[])]
 (.seq
 (.seq
 (.ae false [
 oX 8 (.mv 4),
 oX 9 (.mv 0),
 oX 10 (.len 9),
 oX 11 (.bin .lss 8 10)])
 (.cond 11
 .skip
 (.exit 0)))
 (.seq
 (.block 1
 (.ae false [
 oX 14 (.mv 3),
 oX 15 (.mv 4),
 oX 16 (.mv 0),
 oX 17 (.mv 4),
 oX 18 (.cH 3 16 17),
 oX 19 (.load true 3 18),
 oX 20 (.call .af 183 [19]),
 oX 21 (.cH 3 14 15),
 uX (.store 3 21 20)]))
 (.ae false [
 oX 12 (.mv 4),
 oX 13 (.bin .add 12 (kX 1)),
 oX 4 (.mv 13)])))))))
 (.seq
 (.ae false [
 oX 22 (.mv 3),
 oX 2 (.mv 22)])
 .ret))))
def QG:List bN:=[.tmp 2]
theorem ajr (NN:Nat) (x:aZ (aq.aY HA)):dK NN [NC] Tn QG HA Si x=LD NN x:=by kernel_rfl
theorem ahn:cC pX 76 Tn.er QG 1=true:=by decide+kernel
theorem akx:de pX 76 ND.M/\bJ pX 76=true:=
  dV (T:=[NC]) (sc:=Tn) (ms:=QG) (args:=HA) (aB:=Si) (aO.cons akw<|aO.nil) cV ahn AP fun x y h=>(ajr aM x).trans (aeH x y h)
def NB:ar:=⟨12,Hx,ais,Sf,sN⟩
def Tk:bE:=
 (.seq
 (.ae false [
 oX 1 (.box 5 0),
 oX 2 (.alloc [zX,zX,.nil iX,.nil mX,.nil iX])])
 (.seq
 (.ae false [
 oX 3 (.alloc [zX,zX,.nil iX,.nil mX,.nil iX])])
 (.seq
 (.ae false [
 oX 4 (.aC 0 1),
 oX 5 (.load false 1 4),
 oX 6 (.aC 0 3),
 uX (.store 1 6 5)])
 (.seq
 (.ae false [
 oX 7 (.aC 1 1),
 oX 8 (.load false 1 7),
 oX 9 (.aC 1 3),
 uX (.store 1 9 8)])
 (.seq
 (.ae false [
 oX 10 (.aC 2 1),
 oX 11 (.load false 1 10),
 oX 12 (.call .af 23 [11]),
 oX 13 (.aC 2 3),
 uX (.store 1 13 12)])
 (.seq
 (.ae false [
 oX 14 (.aC 3 1),
 oX 15 (.load false 1 14),
 oX 16 (.call .af 76 [15]),
 oX 17 (.aC 3 3),
 uX (.store 1 17 16)])
 (.seq
 (.ae false [
 oX 18 (.aC 4 1),
 oX 19 (.load false 1 18),
 oX 20 (.call .af 23 [19]),
 oX 21 (.aC 4 3),
 uX (.store 1 21 20)])
 (.seq
 (.ae false [
 oX 22 (.load true 5 3),
 uX (.store 5 2 22)])
 .ret))))))))
def QD:List bN:=[.cell 2 5 true]
theorem ajo (NN:Nat) (x:aZ (aq.aY Hx)):dK NN [Ea,ND] Tk QD Hx Sf x=LA NN x:=by kernel_rfl
theorem ahk:cC pX 12 Tk.er QD 1=true:=by decide+kernel
theorem akv:de pX 12 NB.M/\bJ pX 12=true:=
  dV (T:=[Ea,ND]) (sc:=Tk) (ms:=QD) (args:=Hx) (aB:=Sf) (aO.cons ZI<|aO.cons akx<|aO.nil) cV ahk sN fun x y h=>(ajo aM x).trans (aeE x y h)
def uT:ar:=⟨177,HG,aiA,Sn,kQ⟩
def Ts:bE:=
 (.seq
 (.ae false [
 oX 6 (.mv (.k (.one (.v (.bool) (false)))))])
 (.seq
 (.ae false [
 oX 7 (.mv 0),
 oX 8 (.mv 1),
 oX 9 (.bin .geq 7 8),
 oX 10 (.mv 9),
 ⟨(some 11),.mv 0,(some (10,true))⟩,
 ⟨(some 12),.mv 2,(some (10,true))⟩,
 ⟨(some 13),.bin .leq 11 12,(some (10,true))⟩,
 oX 14 (.pick 10 13 (.k (.one (.v (.bool) (false))))),
 oX 6 (.mv 14)])
 .ret))
def QL:List bN:=[.tmp 6]
theorem ajw (NN:Nat) (x:aZ (aq.aY HG)):dK NN [] Ts QL HG Sn x=LJ NN x:=by kernel_rfl
theorem ahs:cC pX 177 Ts.er QL 3=true:=by decide+kernel
theorem J3:de pX 177 uT.M/\bJ pX 177=true:=
  dV (T:=[]) (sc:=Ts) (ms:=QL) (args:=HG) (aB:=Sn) (aO.nil) cV ahs kQ fun x y h=>(ajw aM x).trans (aeM x y h)
def Eb:ar:=⟨176,HC,aix,Sk,wC⟩
def Tp:bE:=
 (.seq
 (.ae false [
 oX 2 (.mv (.k (.one (.v (.bool) (false)))))])
 (.seq
 (.seq
 (.ae false [
 oX 3 (.mv (kX 2))])
 (.join ⟨[(0,sX)],[]⟩ [] []
 (.block 0
 (.loop 0 ⟨[(0,sX),(3,sX)],[]⟩ [] []
 (.seq
 (.seq
 (.ae false [
 oX 4 (.mv 3),
 oX 5 (.mv 3),
 oX 6 (.bin .mul 4 5),
 oX 7 (.mv 0),
 oX 8 (.bin .leq 6 7),
 oX 9 (.mv 8),
 ⟨(some 10),.mv 0,(some (9,true))⟩,
 ⟨(some 11),.bin .leq 10 (kX 1000003),(some (9,true))⟩,
 oX 12 (.pick 9 11 (.k (.one (.v (.bool) (false)))))])
 (.cond 12
 .skip
 (.exit 0)))
 (.seq
 (.block 1
 (.seq
 (.ae false [
 oX 15 (.mv 0),
 oX 16 (.mv 3),
 oX 17 (.bin .rem 15 16),
 oX 18 (.bin .eql 17 (kX 0))])
 (.cond 18
 (.seq
 (.ae false [
 oX 2 (.mv (.k (.one (.v (.bool) (false)))))])
 .ret)
 .skip)))
 (.ae false [
 oX 13 (.mv 3),
 oX 14 (.bin .add 13 (kX 1)),
 oX 3 (.mv 14)])))))))
 (.seq
 (.ae false [
 oX 19 (.mv 0),
 oX 20 (.call .af 177 [19,(kX 2),(kX 1000003)]),
 oX 2 (.mv 20)])
 .ret)))
def QI:List bN:=[.tmp 2]
theorem ajt (NN:Nat) (x:aZ (aq.aY HC)):dK NN [uT] Tp QI HC Sk x=LG NN x:=by kernel_rfl
theorem ahp:cC pX 176 Tp.er QI 1=true:=by decide+kernel
theorem ZJ:de pX 176 Eb.M/\bJ pX 176=true:=
  dV (T:=[uT]) (sc:=Tp) (ms:=QI) (args:=HC) (aB:=Sk) (aO.cons J3<|aO.nil) cV ahp wC fun x y h=>(ajt aM x).trans (aeJ x y h)
def NR:ar:=⟨178,HS,aiJ,Sz,wE⟩
def TF:bE:=
 (.seq
 (.ae false [
 oX 6 (.mv (.k (.one (.v (.bool) (false)))))])
 (.seq
 (.seq
 (.ae false [
 oX 9 (.mv 1),
 oX 10 (.len 9),
 oX 11 (.mv (kX 0))])
 (.join ⟨[(1,.one (.c (.v (lX)))),(2,sX)],[]⟩ [] []
 (.block 0
 (.loop 0 ⟨[(0,sX),(1,.one (.c (.v (lX)))),(2,sX),(9,.one (.c (.v (lX)))),(10,sX),(11,sX)],[]⟩ [] []
 (.seq
 (.ae false [
 oX 12 (.bin .lss 11 10)])
 (.seq
 (.cond 12
 .skip
 (.exit 0))
 (.seq
 (.block 1
 (.seq
 (.ae false [
 oX 13 (.cH 1 9 11),
 oX 14 (.load false 1 13),
 oX 8 (.mv 14)])
 (.seq
 (.ae false [
 oX 15 (.mv 8),
 oX 16 (.mv 0),
 oX 17 (.bin .sub 16 (kX 1)),
 oX 18 (.call .af 177 [15,(kX 0),17]),
 oX 19 (.un .not 18)])
 (.cond 19
 (.seq
 (.ae false [
 oX 6 (.mv (.k (.one (.v (.bool) (false)))))])
 .ret)
 .skip))))
 (.ae false [
 oX 20 (.bin .add 11 (kX 1)),
 oX 11 (.mv 20)]))))))))
 (.seq
 (.ae false [
 oX 21 (.mv 1),
 oX 22 (.len 21),
 oX 23 (.mv 2),
 oX 24 (.bin .eql 22 23),
 oX 6 (.mv 24)])
 .ret)))
def QW:List bN:=[.tmp 6]
theorem ajH (NN:Nat) (x:aZ (aq.aY HS)):dK NN [uT] TF QW HS Sz x=LN NN x:=by kernel_rfl
theorem ahD:cC pX 178 TF.er QW 3=true:=by decide+kernel
theorem akK:de pX 178 NR.M/\bJ pX 178=true:=
  dV (T:=[uT]) (sc:=TF) (ms:=QW) (args:=HS) (aB:=Sz) (aO.cons J3<|aO.nil) cV ahD wE fun x y h=>(ajH aM x).trans (aeW x y h)
def NF:ar:=⟨179,HD,aiy,Sl,yC⟩
def Tq:bE:=
 (.seq
 (.ae false [
 oX 3 (.box 3 1),
 oX 4 (.mv (.k (.one (.v (.bool) (false)))))])
 (.seq
 (.seq
 (.ae false [
 oX 7 (.mv 0),
 oX 8 (.call .af 176 [7]),
 oX 9 (.un .not 8),
 oX 10 (.mv 9),
 ⟨(some 11),.aC 0 3,(some (10,false))⟩,
 ⟨(some 12),.load false 1 11,(some (10,false))⟩,
 ⟨(some 13),.call .af 177 [12,(kX 0),(kX 64)],(some (10,false))⟩,
 ⟨(some 14),.un .not 13,(some (10,false))⟩,
 oX 15 (.pick 10 (.k (.one (.v (.bool) (true)))) 14),
 oX 16 (.mv 15),
 ⟨(some 17),.aC 1 3,(some (16,false))⟩,
 ⟨(some 18),.load false 1 17,(some (16,false))⟩,
 ⟨(some 19),.call .af 177 [18,(kX 0),(kX 64)],(some (16,false))⟩,
 ⟨(some 20),.un .not 19,(some (16,false))⟩,
 oX 21 (.pick 16 (.k (.one (.v (.bool) (true)))) 20),
 oX 22 (.mv 21),
 ⟨(some 23),.aC 2 3,(some (22,false))⟩,
 ⟨(some 24),.load false 1 23,(some (22,false))⟩,
 ⟨(some 25),.len 24,(some (22,false))⟩,
 ⟨(some 26),.aC 0 3,(some (22,false))⟩,
 ⟨(some 27),.load false 1 26,(some (22,false))⟩,
 ⟨(some 28),.aC 1 3,(some (22,false))⟩,
 ⟨(some 29),.load false 1 28,(some (22,false))⟩,
 ⟨(some 30),.bin .mul 27 29,(some (22,false))⟩,
 ⟨(some 31),.bin .neq 25 30,(some (22,false))⟩,
 oX 32 (.pick 22 (.k (.one (.v (.bool) (true)))) 31)])
 (.cond 32
 (.seq
 (.ae false [
 oX 4 (.mv (.k (.one (.v (.bool) (false)))))])
 .ret)
 .skip))
 (.seq
 (.seq
 (.ae false [
 oX 33 (.aC 2 3),
 oX 34 (.load false 1 33),
 oX 35 (.len 34),
 oX 36 (.mv (kX 0))])
 (.join ⟨[],[]⟩ [] []
 (.block 0
 (.loop 0 ⟨[(0,sX),(34,.one (.c (.v (lX)))),(35,sX),(36,sX)],[]⟩ [3] []
 (.seq
 (.ae false [
 oX 37 (.bin .lss 36 35)])
 (.seq
 (.cond 37
 .skip
 (.exit 0))
 (.seq
 (.block 1
 (.seq
 (.ae false [
 oX 38 (.cH 1 34 36),
 oX 39 (.load false 1 38),
 oX 6 (.mv 39)])
 (.seq
 (.ae false [
 oX 40 (.mv 6),
 oX 41 (.mv 0),
 oX 42 (.bin .sub 41 (kX 1)),
 oX 43 (.call .af 177 [40,(kX 0),42]),
 oX 44 (.un .not 43)])
 (.cond 44
 (.seq
 (.ae false [
 oX 4 (.mv (.k (.one (.v (.bool) (false)))))])
 .ret)
 .skip))))
 (.ae false [
 oX 45 (.bin .add 36 (kX 1)),
 oX 36 (.mv 45)]))))))))
 (.seq
 (.ae false [
 oX 4 (.mv (.k (.one (.v (.bool) (true)))))])
 .ret))))
def QJ:List bN:=[.tmp 4]
theorem aju (NN:Nat) (x:aZ (aq.aY HD)):dK NN [Eb,uT] Tq QJ HD Sl x=LH NN x:=by kernel_rfl
theorem ahq:cC pX 179 Tq.er QJ 2=true:=by decide+kernel
theorem akz:de pX 179 NF.M/\bJ pX 179=true:=
  dV (T:=[Eb,uT]) (sc:=Tq) (ms:=QJ) (args:=HD) (aB:=Sl) (aO.cons ZJ<|aO.cons J3<|aO.nil) cV ahq yC fun x y h=>(aju aM x).trans (aeK x y h)
def NE:ar:=⟨74,HB,aiw,Sj,AQ⟩
def To:bE:=
 (.seq
 (.ae false [
 oX 1 (.box 5 0),
 oX 2 (.mv (.k (.one (.v (.bool) (false)))))])
 (.seq
 (.seq
 (.ae false [
 oX 5 (.aC 0 1),
 oX 6 (.load false 1 5),
 oX 7 (.call .af 176 [6]),
 oX 8 (.un .not 7),
 oX 9 (.mv 8),
 ⟨(some 10),.aC 1 1,(some (9,false))⟩,
 ⟨(some 11),.load false 1 10,(some (9,false))⟩,
 ⟨(some 12),.call .af 177 [11,(kX 0),(kX 12)],(some (9,false))⟩,
 ⟨(some 13),.un .not 12,(some (9,false))⟩,
 oX 14 (.pick 9 (.k (.one (.v (.bool) (true)))) 13),
 oX 15 (.mv 14),
 ⟨(some 16),.aC 0 1,(some (15,false))⟩,
 ⟨(some 17),.load false 1 16,(some (15,false))⟩,
 ⟨(some 18),.aC 2 1,(some (15,false))⟩,
 ⟨(some 19),.load false 1 18,(some (15,false))⟩,
 ⟨(some 20),.aC 1 1,(some (15,false))⟩,
 ⟨(some 21),.load false 1 20,(some (15,false))⟩,
 ⟨(some 22),.call .af 178 [17,19,21],(some (15,false))⟩,
 ⟨(some 23),.un .not 22,(some (15,false))⟩,
 oX 24 (.pick 15 (.k (.one (.v (.bool) (true)))) 23),
 oX 25 (.mv 24),
 ⟨(some 26),.aC 0 1,(some (25,false))⟩,
 ⟨(some 27),.load false 1 26,(some (25,false))⟩,
 ⟨(some 28),.aC 4 1,(some (25,false))⟩,
 ⟨(some 29),.load false 1 28,(some (25,false))⟩,
 ⟨(some 30),.aC 1 1,(some (25,false))⟩,
 ⟨(some 31),.load false 1 30,(some (25,false))⟩,
 ⟨(some 32),.call .af 178 [27,29,31],(some (25,false))⟩,
 ⟨(some 33),.un .not 32,(some (25,false))⟩,
 oX 34 (.pick 25 (.k (.one (.v (.bool) (true)))) 33),
 oX 35 (.mv 34),
 ⟨(some 36),.aC 3 1,(some (35,false))⟩,
 ⟨(some 37),.load false 1 36,(some (35,false))⟩,
 ⟨(some 38),.len 37,(some (35,false))⟩,
 ⟨(some 39),.call .af 177 [38,(kX 1),(kX 4)],(some (35,false))⟩,
 ⟨(some 40),.un .not 39,(some (35,false))⟩,
 oX 41 (.pick 35 (.k (.one (.v (.bool) (true)))) 40)])
 (.cond 41
 (.seq
 (.ae false [
 oX 2 (.mv (.k (.one (.v (.bool) (false)))))])
 .ret)
 .skip))
 (.seq
 (.seq
 (.ae false [
 oX 42 (.aC 3 1),
 oX 43 (.load false 1 42),
 oX 44 (.len 43),
 oX 45 (.mv (kX 0))])
 (.join ⟨[],[]⟩ [1] []
 (.block 0
 (.loop 0 ⟨[(1,.one (rX 1)),(43,.one (.c (.v (.list mX)))),(44,sX),(45,sX)],[(1,.box [vX,vX,.c (.v (lX)),.c (.v (.list mX)),.c (.v (lX))])]⟩ [1,4] []
 (.seq
 (.ae false [
 oX 46 (.bin .lss 45 44)])
 (.seq
 (.cond 46
 .skip
 (.exit 0))
 (.seq
 (.block 1
 (.seq
 (.ae false [
 oX 47 (.cH 3 43 45),
 oX 48 (.load true 3 47),
 oX 4 (.alloc [zX,zX,.nil iX]),
 uX (.store 3 4 48)])
 (.seq
 (.ae false [
 oX 49 (.aC 0 1),
 oX 50 (.load false 1 49),
 oX 51 (.load true 3 4),
 oX 52 (.call .af 179 [50,51]),
 oX 53 (.un .not 52),
 oX 54 (.mv 53),
 ⟨(some 55),.aC 0 4,(some (54,false))⟩,
 ⟨(some 56),.load false 1 55,(some (54,false))⟩,
 ⟨(some 57),.aC 1 1,(some (54,false))⟩,
 ⟨(some 58),.load false 1 57,(some (54,false))⟩,
 ⟨(some 59),.bin .neq 56 58,(some (54,false))⟩,
 oX 60 (.pick 54 (.k (.one (.v (.bool) (true)))) 59),
 oX 61 (.mv 60),
 ⟨(some 62),.aC 1 4,(some (61,false))⟩,
 ⟨(some 63),.load false 1 62,(some (61,false))⟩,
 ⟨(some 64),.aC 1 1,(some (61,false))⟩,
 ⟨(some 65),.load false 1 64,(some (61,false))⟩,
 ⟨(some 66),.bin .neq 63 65,(some (61,false))⟩,
 oX 67 (.pick 61 (.k (.one (.v (.bool) (true)))) 66)])
 (.cond 67
 (.seq
 (.ae false [
 oX 2 (.mv (.k (.one (.v (.bool) (false)))))])
 .ret)
 .skip))))
 (.ae false [
 oX 68 (.bin .add 45 (kX 1)),
 oX 45 (.mv 68)]))))))))
 (.seq
 (.ae false [
 oX 2 (.mv (.k (.one (.v (.bool) (true)))))])
 .ret))))
def QH:List bN:=[.tmp 2]
theorem ajs (NN:Nat) (x:aZ (aq.aY HB)):dK NN [Eb,uT,NR,NF] To QH HB Sj x=LF NN x:=by kernel_rfl
theorem aho:cC pX 74 To.er QH 1=true:=by decide+kernel
theorem aky:de pX 74 NE.M/\bJ pX 74=true:=
  dV (T:=[Eb,uT,NR,NF]) (sc:=To) (ms:=QH) (args:=HB) (aB:=Sj) (aO.cons ZJ<|aO.cons J3<|aO.cons akK<|aO.cons akz<|aO.nil) cV aho AQ fun x y h=>(ajs aM x).trans (aeI x y h)
def zf:ar:=⟨181,HH,aiB,So,qd⟩
def Tt:bE:=
 (.seq
 (.ae false [
 oX 2 (.mv (.k (.one (.nil iX))))])
 (.seq
 (.ae false [
 oX 3 (.fF iX []),
 oX 4 (.mv 0),
 oX 5 (.append true iX 8 3 4),
 oX 2 (.mv 5)])
 .ret))
def QM:List bN:=[.tmp 2]
theorem ajx (NN:Nat) (x:aZ (aq.aY HH)):dK NN [] Tt QM HH So x=LK NN x:=by kernel_rfl
theorem aht:cC pX 181 Tt.er QM 1=true:=by decide+kernel
theorem Rc:de pX 181 zf.M/\bJ pX 181=true:=
  dV (T:=[]) (sc:=Tt) (ms:=QM) (args:=HH) (aB:=So) (aO.nil) cV aht qd fun x y h=>(ajx aM x).trans (aeN x y h)
def NK:ar:=⟨255,HL,aiE,Ss,yE⟩
def Tx:bE:=
 (.seq
 (.ae false [
 oX 4 (.alloc [zX,zX,.nil iX])])
 (.seq
 (.ae false [
 oX 5 (.mv 0),
 oX 6 (.mv 1),
 oX 7 (.mv 0),
 oX 8 (.mv 1),
 oX 9 (.bin .mul 7 8),
 oX 10 (.lK .af iX 8 (0:Int) 9 9),
 oX 11 (.build [zX,zX,.nil iX] [(0,1,5),(1,1,6),(2,1,10)]),
 uX (.store 3 4 11)])
 .ret))
def QQ:List bN:=[.cell 4 3 true]
theorem ajB (NN:Nat) (x:aZ (aq.aY HL)):dK NN [] Tx QQ HL Ss x=GJ NN x:=by kernel_rfl
theorem ahx:cC pX 255 Tx.er QQ 2=true:=by decide+kernel
theorem akE:de pX 255 NK.M/\bJ pX 255=true:=
  dV (T:=[]) (sc:=Tx) (ms:=QQ) (args:=HL) (aB:=Ss) (aO.nil) cV ahx yE fun x y h=>(ajB aM x).trans (WI x y h)
def NJ:ar:=⟨251,HK,aiD,Sr,qf⟩
def Tw:bE:=
 (.seq
 (.ae false [
 oX 4 (.box 3 1),
 oX 5 (.box 3 2),
 oX 6 (.alloc [zX,zX,.nil iX])])
 (.seq
 (.ae false [
 oX 12 (.aC 0 4),
 oX 13 (.load false 1 12),
 oX 14 (.aC 1 5),
 oX 15 (.load false 1 14),
 oX 16 (.call .af 255 [13,15]),
 oX 7 (.alloc [zX,zX,.nil iX]),
 uX (.store 3 7 16)])
 (.seq
 (.seq
 (.ae false [
 oX 8 (.mv (kX 0))])
 (.join ⟨[(7,.one (rX 7)),(6,.one (rX 6))],[(6,.box [vX,vX,fX 500012 1]),(7,.box [vX,vX,fX 500013 1]),(500012,.row true .af iX),(500013,.row true .af iX)]⟩ [4,5,6,7,500000,500001,500012,500013] [(true,6,2,500012,.af,[]),(true,7,2,500013,.af,[])]
 (.block 0
 (.loop 0 ⟨[(0,sX),(4,.one (rX 4)),(5,.one (rX 5)),(6,.one (rX 6)),(7,.one (rX 7)),(8,sX)],[(4,.box [vX,vX,.c (.v (lX))]),(5,.box [vX,vX,.c (.v (lX))]),(6,.box [vX,vX,fX 500000 1]),(7,.box [vX,vX,fX 500001 1]),(500000,.row true .af iX),(500001,.row true .af iX)]⟩ [4,5,6,17000,7,500000,500001,500010,500011] [(true,6,2,500000,.af,[]),(true,7,2,500001,.af,[])]
 (.seq
 (.seq
 (.ae false [
 oX 17 (.mv 8),
 oX 18 (.aC 0 4),
 oX 19 (.load false 1 18),
 oX 20 (.bin .lss 17 19)])
 (.cond 20
 .skip
 (.exit 0)))
 (.seq
 (.join ⟨[(8,sX),(0,sX),(4,.one (rX 4)),(5,.one (rX 5)),(6,.one (rX 6)),(7,.one (rX 7))],[(4,.box [vX,vX,.c (.v (lX))]),(5,.box [vX,vX,.c (.v (lX))]),(6,.box [vX,vX,fX 500010 1]),(7,.box [vX,vX,fX 500011 1]),(500010,.row true .af iX),(500011,.row true .af iX)]⟩ [4,5,6,7,500002,500003,500010,500011] [(true,6,2,500010,.af,[]),(true,7,2,500011,.af,[])]
 (.block 1
 (.seq
 (.ae false [
 oX 9 (.mv (kX 0))])
 (.block 2
 (.loop 0 ⟨[(0,sX),(4,.one (rX 4)),(5,.one (rX 5)),(6,.one (rX 6)),(7,.one (rX 7)),(8,sX),(9,sX)],[(4,.box [vX,vX,.c (.v (lX))]),(5,.box [vX,vX,.c (.v (lX))]),(6,.box [vX,vX,fX 500002 1]),(7,.box [vX,vX,fX 500003 1]),(500002,.row true .af iX),(500003,.row true .af iX)]⟩ [4,5,6,7,500000,500001,500002,500003,500008,500009] [(true,6,2,500002,.af,[]),(true,7,2,500003,.af,[])]
 (.seq
 (.seq
 (.ae false [
 oX 23 (.mv 9),
 oX 24 (.aC 1 5),
 oX 25 (.load false 1 24),
 oX 26 (.bin .lss 23 25)])
 (.cond 26
 .skip
 (.exit 2)))
 (.seq
 (.join ⟨[(9,sX),(0,sX),(4,.one (rX 4)),(5,.one (rX 5)),(6,.one (rX 6)),(7,.one (rX 7)),(8,sX)],[(4,.box [vX,vX,.c (.v (lX))]),(5,.box [vX,vX,.c (.v (lX))]),(6,.box [vX,vX,fX 500008 1]),(7,.box [vX,vX,fX 500009 1]),(500008,.row true .af iX),(500009,.row true .af iX)]⟩ [4,5,6,7,500006,500007,500008,500009] [(true,6,2,500008,.af,[]),(true,7,2,500009,.af,[])]
 (.block 3
 (.seq
 (.ae false [
 oX 10 (.mv (kX 0))])
 (.seq
 (.seq
 (.ae false [
 oX 11 (.mv (kX 0))])
 (.join ⟨[(10,sX),(9,sX),(0,sX),(4,.one (rX 4)),(5,.one (rX 5)),(6,.one (rX 6)),(7,.one (rX 7)),(8,sX)],[(4,.box [vX,vX,.c (.v (lX))]),(5,.box [vX,vX,.c (.v (lX))]),(6,.box [vX,vX,fX 500006 1]),(7,.box [vX,vX,fX 500007 1]),(500006,.row true .af iX),(500007,.row true .af iX)]⟩ [4,5,6,7,500004,500005,500006,500007] [(true,6,2,500006,.af,[]),(true,7,2,500007,.af,[])]
 (.block 4
 (.loop 0 ⟨[(0,sX),(4,.one (rX 4)),(5,.one (rX 5)),(6,.one (rX 6)),(7,.one (rX 7)),(8,sX),(9,sX),(10,sX),(11,sX)],[(4,.box [vX,vX,.c (.v (lX))]),(5,.box [vX,vX,.c (.v (lX))]),(6,.box [vX,vX,fX 500004 1]),(7,.box [vX,vX,fX 500005 1]),(500004,.row true .af iX),(500005,.row true .af iX)]⟩ [4,5,6,7,500002,500003,500004,500005] [(true,6,2,500004,.af,[]),(true,7,2,500005,.af,[])]
 (.seq
 (.seq
 (.ae false [
 oX 29 (.mv 11),
 oX 30 (.aC 1 4),
 oX 31 (.load false 1 30),
 oX 32 (.bin .lss 29 31)])
 (.cond 32
 .skip
 (.exit 4)))
 (.seq
 (.block 5
 (.ae true [
 oX 35 (.mv 10),
 oX 36 (.aC 2 4),
 oX 37 (.load false 1 36),
 oX 38 (.mv 8),
 oX 39 (.aC 1 4),
 oX 40 (.load false 1 39),
 oX 41 (.bin .mul 38 40),
 oX 42 (.mv 11),
 oX 43 (.bin .add 41 42),
 oX 44 (.cH 1 37 43),
 oX 45 (.load false 1 44),
 oX 46 (.aC 2 5),
 oX 47 (.load false 1 46),
 oX 48 (.mv 11),
 oX 49 (.aC 1 5),
 oX 50 (.load false 1 49),
 oX 51 (.bin .mul 48 50),
 oX 52 (.mv 9),
 oX 53 (.bin .add 51 52),
 oX 54 (.cH 1 47 53),
 oX 55 (.load false 1 54),
 oX 56 (.bin .mul 45 55),
 oX 57 (.bin .add 35 56),
 oX 58 (.mv 0),
 oX 59 (.bin .rem 57 58),
 oX 10 (.mv 59)]))
 (.ae false [
 oX 33 (.mv 11),
 oX 34 (.bin .add 33 (kX 1)),
 oX 11 (.mv 34)])))))))
 (.ae false [
 oX 60 (.aC 2 7),
 oX 61 (.load false 1 60),
 oX 62 (.mv 8),
 oX 63 (.aC 1 5),
 oX 64 (.load false 1 63),
 oX 65 (.bin .mul 62 64),
 oX 66 (.mv 9),
 oX 67 (.bin .add 65 66),
 oX 68 (.mv 10),
 oX 69 (.cH 1 61 67),
 uX (.store 1 69 68)])))))
 (.ae false [
 oX 27 (.mv 9),
 oX 28 (.bin .add 27 (kX 1)),
 oX 9 (.mv 28)]))))))))
 (.ae false [
 oX 21 (.mv 8),
 oX 22 (.bin .add 21 (kX 1)),
 oX 8 (.mv 22)])))))))
 (.seq
 (.ae false [
 oX 70 (.load true 3 7),
 uX (.store 3 6 70)])
 .ret))))
def QP:List bN:=[.cell 6 3 true]
theorem ajA (NN:Nat) (x:aZ (aq.aY HK)):dK NN [NK] Tw QP HK Sr x=GI NN x:=by kernel_rfl
theorem ahw:cC pX 251 Tw.er QP 3=true:=by decide+kernel
theorem akD:de pX 251 NJ.M/\bJ pX 251=true:=
  dV (T:=[NK]) (sc:=Tw) (ms:=QP) (args:=HK) (aB:=Sr) (aO.cons akE<|aO.nil) cV ahw qf fun x y h=>(ajA aM x).trans (aeQ x y h)
def NS:ar:=⟨228,HT,aiK,SA,yG⟩
def TG:bE:=
 (.seq
 (.ae false [
 oX 5 (.box 3 2),
 oX 6 (.mv (.k (.one (.nil iX))))])
 (.seq
 (.ae false [
 oX 7 (.mv 0),
 oX 8 (.aC 0 5),
 oX 9 (.load false 1 8),
 oX 10 (.mv 1),
 oX 11 (.build [zX,zX,.nil iX] [(0,1,(kX 1)),(1,1,9),(2,1,10)]),
 oX 12 (.load true 3 5),
 oX 13 (.call .af 251 [7,11,12]),
 oX 14 (.n8 false 2 1 13),
 oX 6 (.mv 14)])
 .ret))
def QX:List bN:=[.tmp 6]
theorem ajI (NN:Nat) (x:aZ (aq.aY HT)):dK NN [NJ] TG QX HT SA x=LO NN x:=by kernel_rfl
theorem ahE:cC pX 228 TG.er QX 3=true:=by decide+kernel
theorem akL:de pX 228 NS.M/\bJ pX 228=true:=
  dV (T:=[NJ]) (sc:=TG) (ms:=QX) (args:=HT) (aB:=SA) (aO.cons akD<|aO.nil) cV ahE yG fun x y h=>(ajI aM x).trans (aeX x y h)
def NQ:ar:=⟨180,HQ,aiI,Sy,sP⟩
def TE:bE:=
 (.seq
 (.ae false [
 oX 2 (.box 5 0),
 oX 4 (.mv (.k (.one (.nil iX))))])
 (.seq
 (.ae false [
 oX 8 (.aC 2 2),
 oX 9 (.load false 1 8),
 oX 10 (.call .af 181 [9]),
 oX 5 (.mv 10)])
 (.seq
 (.seq
 (.ae false [
 oX 11 (.mv 1),
 oX 12 (.len 11),
 oX 13 (.mv (kX 0))])
 (.join ⟨[(5,.one (fX 500001 1))],[(500001,.row true .af iX)]⟩ [2,500000,500001] [(false,5,0,500001,.af,[])]
 (.block 0
 (.loop 0 ⟨[(2,.one (rX 2)),(5,.one (fX 500000 1)),(11,.one (.c (.v (lX)))),(12,sX),(13,sX)],[(2,.box [vX,vX,.c (.v (lX)),.c (.v (.list mX)),.c (.v (lX))]),(500000,.row true .af iX)]⟩ [2,11000,26000,500000] [(false,5,0,500000,.af,[])]
 (.seq
 (.ae false [
 oX 14 (.bin .lss 13 12)])
 (.seq
 (.cond 14
 .skip
 (.exit 0))
 (.seq
 (.block 1
 (.seq
 (.ae false [
 oX 15 (.cH 1 11 13),
 oX 16 (.load false 1 15),
 oX 7 (.mv 16)])
 (.ae true [
 oX 17 (.aC 0 2),
 oX 18 (.load false 1 17),
 oX 19 (.mv 5),
 oX 20 (.aC 3 2),
 oX 21 (.load false 1 20),
 oX 22 (.mv 7),
 oX 23 (.cH 3 21 22),
 oX 24 (.load true 3 23),
 oX 25 (.call .af 228 [18,19,24]),
 oX 5 (.mv 25)])))
 (.ae false [
 oX 26 (.bin .add 13 (kX 1)),
 oX 13 (.mv 26)]))))))))
 (.seq
 (.ae false [
 oX 27 (.mv 5),
 oX 4 (.mv 27)])
 .ret))))
def QV:List bN:=[.tmp 4]
theorem ajG (NN:Nat) (x:aZ (aq.aY HQ)):dK NN [zf,NS] TE QV HQ Sy x=GO NN x:=by kernel_rfl
theorem ahC:cC pX 180 TE.er QV 2=true:=by decide+kernel
theorem akJ:de pX 180 NQ.M/\bJ pX 180=true:=
  dV (T:=[zf,NS]) (sc:=TE) (ms:=QV) (args:=HQ) (aB:=Sy) (aO.cons Rc<|aO.cons akL<|aO.nil) cV ahC sP fun x y h=>(ajG aM x).trans (aeV x y h)
def NL:ar:=⟨229,HM,aiF,Su,yF⟩
def Tz:bE:=
 (.seq
 (.ae false [
 oX 3 (.box 3 0),
 oX 6 (.mv (kX 0))])
 (.seq
 (.seq
 (.ae false [
 oX 8 (.mv 1),
 oX 7 (.mv 8)])
 (.join ⟨[],[]⟩ [3] []
 (.block 0
 (.loop 0 ⟨[(2,sX),(3,.one (rX 3)),(7,sX)],[(3,.box [vX,vX,.c (.v (lX))])]⟩ [3] []
 (.seq
 (.seq
 (.ae false [
 oX 9 (.mv 7),
 oX 10 (.aC 0 3),
 oX 11 (.load false 1 10),
 oX 12 (.bin .lss 9 11)])
 (.cond 12
 .skip
 (.exit 0)))
 (.seq
 (.block 1
 (.seq
 (.ae false [
 oX 15 (.aC 2 3),
 oX 16 (.load false 1 15),
 oX 17 (.mv 7),
 oX 18 (.aC 1 3),
 oX 19 (.load false 1 18),
 oX 20 (.bin .mul 17 19),
 oX 21 (.mv 2),
 oX 22 (.bin .add 20 21),
 oX 23 (.cH 1 16 22),
 oX 24 (.load false 1 23),
 oX 25 (.bin .neq 24 (kX 0))])
 (.cond 25
 (.seq
 (.ae false [
 oX 26 (.mv 7),
 oX 6 (.mv 26)])
 .ret)
 .skip)))
 (.ae false [
 oX 13 (.mv 7),
 oX 14 (.bin .add 13 (kX 1)),
 oX 7 (.mv 14)])))))))
 (.seq
 (.ae false [
 oX 6 (.mv (kX (-1)))])
 .ret)))
def QR:List bN:=[.tmp 6]
theorem ajC (NN:Nat) (x:aZ (aq.aY HM)):dK NN [] Tz QR HM Su x=GK NN x:=by kernel_rfl
theorem ahy:cC pX 229 Tz.er QR 3=true:=by decide+kernel
theorem akF:de pX 229 NL.M/\bJ pX 229=true:=
  dV (T:=[]) (sc:=Tz) (ms:=QR) (args:=HM) (aB:=Su) (aO.nil) cV ahy yF fun x y h=>(ajC aM x).trans (aeR x y h)
def NO:ar:=⟨230,HO,JR,Sw,sO⟩
def TB:bE:=
 (.seq
 (.ae false [
 oX 3 (.box 3 0)])
 (.seq
 (.ae false [
 oX 6 (.mv (kX 0))])
 (.block 0
 (.loop 0 ⟨[(1,sX),(2,sX),(3,.one (rX 3)),(6,sX)],[(1000000,.row false .af iX),(3,.box [vX,vX,fX 1000000 1])]⟩ [1000000,3,500000] [(true,3,2,500000,.af,[])]
 (.seq
 (.seq
 (.ae false [
 oX 8 (.mv 6),
 oX 9 (.aC 1 3),
 oX 10 (.load false 1 9),
 oX 11 (.bin .lss 8 10)])
 (.cond 11
 .skip
 (.exit 0)))
 (.seq
 (.block 1
 (.seq
 (.ae false [
 oX 14 (.aC 2 3),
 oX 15 (.load false 1 14),
 oX 16 (.mv 1),
 oX 17 (.aC 1 3),
 oX 18 (.load false 1 17),
 oX 19 (.bin .mul 16 18),
 oX 20 (.mv 6),
 oX 21 (.bin .add 19 20),
 oX 22 (.cH 1 15 21),
 oX 23 (.load false 1 22),
 oX 7 (.mv 23)])
 (.seq
 (.ae true [
 oX 24 (.aC 2 3),
 oX 25 (.load false 1 24),
 oX 26 (.mv 1),
 oX 27 (.aC 1 3),
 oX 28 (.load false 1 27),
 oX 29 (.bin .mul 26 28),
 oX 30 (.mv 6),
 oX 31 (.bin .add 29 30),
 oX 32 (.aC 2 3),
 oX 33 (.load false 1 32),
 oX 34 (.mv 2),
 oX 35 (.aC 1 3),
 oX 36 (.load false 1 35),
 oX 37 (.bin .mul 34 36),
 oX 38 (.mv 6),
 oX 39 (.bin .add 37 38),
 oX 40 (.cH 1 33 39),
 oX 41 (.load false 1 40),
 oX 42 (.cH 1 25 31),
 uX (.store 1 42 41)])
 (.ae false [
 oX 43 (.aC 2 3),
 oX 44 (.load false 1 43),
 oX 45 (.mv 2),
 oX 46 (.aC 1 3),
 oX 47 (.load false 1 46),
 oX 48 (.bin .mul 45 47),
 oX 49 (.mv 6),
 oX 50 (.bin .add 48 49),
 oX 51 (.mv 7),
 oX 52 (.cH 1 44 50),
 uX (.store 1 52 51)]))))
 (.ae false [
 oX 12 (.mv 6),
 oX 13 (.bin .add 12 (kX 1)),
 oX 6 (.mv 13)])))))))
def QT:List bN:=[]
theorem ajE (NN:Nat) (x:aZ (aq.aY HO)):sx NN [] TB QT HO JR Sw x=GM NN x:=by kernel_rfl
theorem ahA:cC pX 230 TB.er QT 3=true:=by decide+kernel
theorem akH:nQ pX 230 JR NO.MM/\bJ pX 230=true:=
  vR (T:=[]) (sc:=TB) (ms:=QT) (args:=HO) (mu:=JR) (aB:=Sw) (aO.nil) cV ahA sO fun x y h=>(ajE aM x).trans (aeT x y h)
def NI:ar:=⟨231,HJ,aiC,Sq,wD⟩
def Tv:bE:=
 (.seq
 (.ae false [
 oX 4 (.mv (kX 0))])
 (.seq
 (.ae false [
 oX 5 (.mv (kX 1))])
 (.seq
 (.seq
 (.ae false [
 oX 7 (.mv 0),
 oX 8 (.bin .sub 7 (kX 2)),
 oX 6 (.mv 8)])
 (.join ⟨[(5,sX)],[]⟩ [] []
 (.block 0
 (.loop 0 ⟨[(0,sX),(1,sX),(5,sX),(6,sX)],[]⟩ [] []
 (.seq
 (.seq
 (.ae false [
 oX 9 (.mv 6),
 oX 10 (.bin .gtr 9 (kX 0))])
 (.cond 10
 .skip
 (.exit 0)))
 (.seq
 (.block 1
 (.seq
 (.seq
 (.ae false [
 oX 13 (.mv 6),
 oX 14 (.bin .rem 13 (kX 2)),
 oX 15 (.bin .eql 14 (kX 1))])
 (.join ⟨[(1,sX),(6,sX),(0,sX),(5,sX)],[]⟩ [] []
 (.cond 15
 (.ae false [
 oX 16 (.mv 5),
 oX 17 (.mv 1),
 oX 18 (.bin .mul 16 17),
 oX 19 (.mv 0),
 oX 20 (.bin .rem 18 19),
 oX 5 (.mv 20)])
 .skip)))
 (.ae false [
 oX 21 (.mv 1),
 oX 22 (.mv 1),
 oX 23 (.bin .mul 21 22),
 oX 24 (.mv 0),
 oX 25 (.bin .rem 23 24),
 oX 1 (.mv 25)])))
 (.ae false [
 oX 11 (.mv 6),
 oX 12 (.bin .quo 11 (kX 2)),
 oX 6 (.mv 12)])))))))
 (.seq
 (.ae false [
 oX 26 (.mv 5),
 oX 4 (.mv 26)])
 .ret))))
def QO:List bN:=[.tmp 4]
theorem ajz (NN:Nat) (x:aZ (aq.aY HJ)):dK NN [] Tv QO HJ Sq x=LM NN x:=by kernel_rfl
theorem ahv:cC pX 231 Tv.er QO 2=true:=by decide+kernel
theorem akC:de pX 231 NI.M/\bJ pX 231=true:=
  dV (T:=[]) (sc:=Tv) (ms:=QO) (args:=HJ) (aB:=Sq) (aO.nil) cV ahv wD fun x y h=>(ajz aM x).trans (aeP x y h)
def NH:ar:=⟨232,HI,JQ,Sp,yD⟩
def Tu:bE:=
 (.seq
 (.ae false [
 oX 6 (.box 3 1)])
 (.seq
 (.ae false [
 oX 10 (.mv (kX 0))])
 (.block 0
 (.loop 0 ⟨[(0,sX),(2,sX),(3,sX),(4,sX),(6,.one (rX 6)),(10,sX)],[(1000000,.row false .af iX),(6,.box [vX,vX,fX 1000000 1])]⟩ [1000000,6,500000] [(true,6,2,500000,.af,[])]
 (.seq
 (.seq
 (.ae false [
 oX 11 (.mv 10),
 oX 12 (.aC 1 6),
 oX 13 (.load false 1 12),
 oX 14 (.bin .lss 11 13)])
 (.cond 14
 .skip
 (.exit 0)))
 (.seq
 (.block 1
 (.ae true [
 oX 17 (.aC 2 6),
 oX 18 (.load false 1 17),
 oX 19 (.mv 2),
 oX 20 (.aC 1 6),
 oX 21 (.load false 1 20),
 oX 22 (.bin .mul 19 21),
 oX 23 (.mv 10),
 oX 24 (.bin .add 22 23),
 oX 25 (.aC 2 6),
 oX 26 (.load false 1 25),
 oX 27 (.mv 2),
 oX 28 (.aC 1 6),
 oX 29 (.load false 1 28),
 oX 30 (.bin .mul 27 29),
 oX 31 (.mv 10),
 oX 32 (.bin .add 30 31),
 oX 33 (.cH 1 26 32),
 oX 34 (.load false 1 33),
 oX 35 (.mv 0),
 oX 36 (.mv 4),
 oX 37 (.bin .sub 35 36),
 oX 38 (.aC 2 6),
 oX 39 (.load false 1 38),
 oX 40 (.mv 3),
 oX 41 (.aC 1 6),
 oX 42 (.load false 1 41),
 oX 43 (.bin .mul 40 42),
 oX 44 (.mv 10),
 oX 45 (.bin .add 43 44),
 oX 46 (.cH 1 39 45),
 oX 47 (.load false 1 46),
 oX 48 (.bin .mul 37 47),
 oX 49 (.bin .add 34 48),
 oX 50 (.mv 0),
 oX 51 (.bin .rem 49 50),
 oX 52 (.cH 1 18 24),
 uX (.store 1 52 51)]))
 (.ae false [
 oX 15 (.mv 10),
 oX 16 (.bin .add 15 (kX 1)),
 oX 10 (.mv 16)])))))))
def QN:List bN:=[]
theorem ajy (NN:Nat) (x:aZ (aq.aY HI)):sx NN [] Tu QN HI JQ Sp x=GH NN x:=by kernel_rfl
theorem ahu:cC pX 232 Tu.er QN 5=true:=by decide+kernel
theorem akB:nQ pX 232 JQ NH.MM/\bJ pX 232=true:=
  vR (T:=[]) (sc:=Tu) (ms:=QN) (args:=HI) (mu:=JQ) (aB:=Sp) (aO.nil) cV ahu yD fun x y h=>(ajy aM x).trans (aeO x y h)
def NM:ar:=⟨182,HN,aiG,Sv,AS⟩
def TA:bE:=
 (.seq
 (.ae false [
 oX 3 (.box 3 1),
 oX 4 (.alloc [zX,zX,.nil iX]),
 oX 5 (.mv (.k (.one (.nil iX)))),
 oX 6 (.mv (kX 0))])
 (.seq
 (.ae true [
 oX 17 (.aC 0 3),
 oX 18 (.load false 1 17),
 oX 19 (.aC 1 3),
 oX 20 (.load false 1 19),
 oX 21 (.aC 2 3),
 oX 22 (.load false 1 21),
 oX 23 (.call .af 181 [22]),
 oX 24 (.build [zX,zX,.nil iX] [(0,1,18),(1,1,20),(2,1,23)]),
 oX 7 (.alloc [zX,zX,.nil iX]),
 uX (.store 3 7 24)])
 (.seq
 (.ae false [
 oX 25 (.fF iX []),
 oX 8 (.mv 25)])
 (.seq
 (.ae false [
 oX 9 (.mv (kX 1))])
 (.seq
 (.seq
 (.ae false [
 oX 10 (.mv (kX 0))])
 (.join ⟨[(7,.one (rX 7)),(8,.one (fX 500023 1)),(9,sX),(4,.one (rX 4))],[(4,.box [vX,vX,fX 500021 1]),(7,.box [vX,vX,fX 500022 1]),(500021,.row true .af iX),(500022,.row true .af iX),(500023,.row true .af iX)]⟩ [3,4,7,500000,500001,500002,500021,500022,500023] [(true,4,2,500021,.af,[]),(true,7,2,500022,.af,[]),(false,8,0,500023,.af,[])]
 (.block 0
 (.loop 0 ⟨[(0,sX),(3,.one (rX 3)),(4,.one (rX 4)),(7,.one (rX 7)),(8,.one (fX 500002 1)),(9,sX),(10,sX)],[(3,.box [vX,vX,.c (.v (lX))]),(4,.box [vX,vX,fX 500000 1]),(7,.box [vX,vX,fX 500001 1]),(500000,.row true .af iX),(500001,.row true .af iX),(500002,.row true .af iX)]⟩ [3,4,24000,7,25,500000,500001,500002,500018,500019,500020] [(true,4,2,500000,.af,[]),(true,7,2,500001,.af,[]),(false,8,0,500002,.af,[])]
 (.seq
 (.seq
 (.ae false [
 oX 26 (.mv 10),
 oX 27 (.aC 1 3),
 oX 28 (.load false 1 27),
 oX 29 (.bin .lss 26 28),
 oX 30 (.mv 29),
 ⟨(some 31),.mv 8,(some (30,true))⟩,
 ⟨(some 32),.len 31,(some (30,true))⟩,
 ⟨(some 33),.aC 0 3,(some (30,true))⟩,
 ⟨(some 34),.load false 1 33,(some (30,true))⟩,
 ⟨(some 35),.bin .lss 32 34,(some (30,true))⟩,
 oX 36 (.pick 30 35 (.k (.one (.v (.bool) (false)))))])
 (.cond 36
 .skip
 (.exit 0)))
 (.seq
 (.join ⟨[(10,sX),(0,sX),(3,.one (rX 3)),(4,.one (rX 4)),(7,.one (rX 7)),(8,.one (fX 500020 1)),(9,sX)],[(3,.box [vX,vX,.c (.v (lX))]),(4,.box [vX,vX,fX 500018 1]),(7,.box [vX,vX,fX 500019 1]),(500018,.row true .af iX),(500019,.row true .af iX),(500020,.row true .af iX)]⟩ [3,4,7,132,133,500000,500001,500002,500015,500016,500018,500019,500020] [(true,4,2,500018,.af,[]),(true,7,2,500019,.af,[]),(false,8,0,500020,.af,[])]
 (.block 1
 (.seq
 (.ae false [
 oX 39 (.mv 8),
 oX 40 (.len 39),
 oX 11 (.mv 40)])
 (.seq
 (.ae false [
 oX 41 (.load true 3 7),
 oX 42 (.mv 11),
 oX 43 (.mv 10),
 oX 44 (.call .af 229 [41,42,43]),
 oX 12 (.mv 44)])
 (.seq
 (.seq
 (.ae false [
 oX 45 (.mv 12),
 oX 46 (.bin .lss 45 (kX 0))])
 (.cond 46
 (.exit 1)
 .skip))
 (.seq
 (.seq
 (.ae false [
 oX 47 (.mv 12),
 oX 48 (.mv 11),
 oX 49 (.bin .neq 47 48)])
 (.join ⟨[(9,sX),(11,sX),(8,.one (fX 500005 1)),(10,sX),(0,sX),(3,.one (rX 3)),(4,.one (rX 4)),(7,.one (rX 7))],[(3,.box [vX,vX,.c (.v (lX))]),(4,.box [vX,vX,fX 500003 1]),(7,.box [vX,vX,fX 500004 1]),(500003,.row true .af iX),(500004,.row true .af iX),(500005,.row true .af iX)]⟩ [3,4,7,500000,500001,500002,500003,500004,500005] [(true,4,2,500003,.af,[]),(true,7,2,500004,.af,[]),(false,8,0,500005,.af,[])]
 (.cond 49
 (.seq
 (.ae false [
 oX 50 (.load true 3 7),
 oX 51 (.mv 11),
 oX 52 (.mv 12),
 oX 53 (.fN .af 230 [50,51,52])])
 (.ae false [
 oX 54 (.mv 0),
 oX 55 (.mv 9),
 oX 56 (.bin .sub 54 55),
 oX 57 (.mv 0),
 oX 58 (.bin .rem 56 57),
 oX 9 (.mv 58)]))
 .skip)))
 (.seq
 (.ae false [
 oX 59 (.aC 2 7),
 oX 60 (.load false 1 59),
 oX 61 (.mv 11),
 oX 62 (.aC 1 3),
 oX 63 (.load false 1 62),
 oX 64 (.bin .mul 61 63),
 oX 65 (.mv 10),
 oX 66 (.bin .add 64 65),
 oX 67 (.cH 1 60 66),
 oX 68 (.load false 1 67),
 oX 13 (.mv 68)])
 (.seq
 (.ae false [
 oX 69 (.mv 9),
 oX 70 (.mv 13),
 oX 71 (.bin .mul 69 70),
 oX 72 (.mv 0),
 oX 73 (.bin .rem 71 72),
 oX 9 (.mv 73)])
 (.seq
 (.ae false [
 oX 74 (.mv 0),
 oX 75 (.mv 13),
 oX 76 (.call .af 231 [74,75]),
 oX 14 (.mv 76)])
 (.seq
 (.seq
 (.ae false [
 oX 15 (.mv (kX 0))])
 (.join ⟨[(9,sX),(7,.one (rX 7)),(4,.one (rX 4)),(3,.one (rX 3)),(0,sX),(10,sX),(8,.one (fX 500011 1)),(11,sX)],[(3,.box [vX,vX,.c (.v (lX))]),(4,.box [vX,vX,fX 500009 1]),(7,.box [vX,vX,fX 500010 1]),(500009,.row true .af iX),(500010,.row true .af iX),(500011,.row true .af iX)]⟩ [3,4,7,500006,500007,500008,500009,500010,500011] [(true,4,2,500009,.af,[]),(true,7,2,500010,.af,[]),(false,8,0,500011,.af,[])]
 (.block 2
 (.loop 0 ⟨[(0,sX),(3,.one (rX 3)),(4,.one (rX 4)),(7,.one (rX 7)),(8,.one (fX 500008 1)),(9,sX),(10,sX),(11,sX),(14,sX),(15,sX)],[(3,.box [vX,vX,.c (.v (lX))]),(4,.box [vX,vX,fX 500006 1]),(7,.box [vX,vX,fX 500007 1]),(500006,.row true .af iX),(500007,.row true .af iX),(500008,.row true .af iX)]⟩ [3,4,7,500003,500004,500005,500006,500007,500008] [(true,4,2,500006,.af,[]),(true,7,2,500007,.af,[]),(false,8,0,500008,.af,[])]
 (.seq
 (.seq
 (.ae false [
 oX 77 (.mv 15),
 oX 78 (.aC 1 3),
 oX 79 (.load false 1 78),
 oX 80 (.bin .lss 77 79)])
 (.cond 80
 .skip
 (.exit 2)))
 (.seq
 (.block 3
 (.ae true [
 oX 83 (.aC 2 7),
 oX 84 (.load false 1 83),
 oX 85 (.mv 11),
 oX 86 (.aC 1 3),
 oX 87 (.load false 1 86),
 oX 88 (.bin .mul 85 87),
 oX 89 (.mv 15),
 oX 90 (.bin .add 88 89),
 oX 91 (.aC 2 7),
 oX 92 (.load false 1 91),
 oX 93 (.mv 11),
 oX 94 (.aC 1 3),
 oX 95 (.load false 1 94),
 oX 96 (.bin .mul 93 95),
 oX 97 (.mv 15),
 oX 98 (.bin .add 96 97),
 oX 99 (.cH 1 92 98),
 oX 100 (.load false 1 99),
 oX 101 (.mv 14),
 oX 102 (.bin .mul 100 101),
 oX 103 (.mv 0),
 oX 104 (.bin .rem 102 103),
 oX 105 (.cH 1 84 90),
 uX (.store 1 105 104)]))
 (.ae false [
 oX 81 (.mv 15),
 oX 82 (.bin .add 81 (kX 1)),
 oX 15 (.mv 82)])))))))
 (.seq
 (.seq
 (.ae false [
 oX 16 (.mv (kX 0))])
 (.join ⟨[(8,.one (fX 500017 1)),(10,sX),(0,sX),(3,.one (rX 3)),(4,.one (rX 4)),(7,.one (rX 7)),(9,sX)],[(3,.box [vX,vX,.c (.v (lX))]),(4,.box [vX,vX,fX 500015 1]),(7,.box [vX,vX,fX 500016 1]),(500015,.row true .af iX),(500016,.row true .af iX),(500017,.row true .af iX)]⟩ [3,4,7,500012,500013,500014,500015,500016,500017] [(true,4,2,500015,.af,[]),(true,7,2,500016,.af,[]),(false,8,0,500017,.af,[])]
 (.block 4
 (.loop 0 ⟨[(0,sX),(3,.one (rX 3)),(4,.one (rX 4)),(7,.one (rX 7)),(8,.one (fX 500014 1)),(9,sX),(10,sX),(11,sX),(16,sX)],[(3,.box [vX,vX,.c (.v (lX))]),(4,.box [vX,vX,fX 500012 1]),(7,.box [vX,vX,fX 500013 1]),(500012,.row true .af iX),(500013,.row true .af iX),(500014,.row true .af iX)]⟩ [3,4,7,500009,500010,500011,500012,500013,500014] [(true,4,2,500012,.af,[]),(true,7,2,500013,.af,[]),(false,8,0,500014,.af,[])]
 (.seq
 (.seq
 (.ae false [
 oX 106 (.mv 16),
 oX 107 (.aC 0 3),
 oX 108 (.load false 1 107),
 oX 109 (.bin .lss 106 108)])
 (.cond 109
 .skip
 (.exit 4)))
 (.seq
 (.block 5
 (.seq
 (.ae false [
 oX 112 (.mv 16),
 oX 113 (.mv 11),
 oX 114 (.bin .neq 112 113)])
 (.cond 114
 (.ae true [
 oX 115 (.mv 0),
 oX 116 (.load true 3 7),
 oX 117 (.mv 16),
 oX 118 (.mv 11),
 oX 119 (.aC 2 7),
 oX 120 (.load false 1 119),
 oX 121 (.mv 16),
 oX 122 (.aC 1 3),
 oX 123 (.load false 1 122),
 oX 124 (.bin .mul 121 123),
 oX 125 (.mv 10),
 oX 126 (.bin .add 124 125),
 oX 127 (.cH 1 120 126),
 oX 128 (.load false 1 127),
 oX 129 (.fN .af 232 [115,116,117,118,128])])
 .skip)))
 (.ae false [
 oX 110 (.mv 16),
 oX 111 (.bin .add 110 (kX 1)),
 oX 16 (.mv 111)])))))))
 (.ae false [
 oX 130 (.mv 8),
 oX 131 (.mv 10),
 oX 132 (.fF iX [131]),
 oX 133 (.append true iX 8 130 132),
 oX 8 (.mv 133)]))))))))))))
 (.ae false [
 oX 37 (.mv 10),
 oX 38 (.bin .add 37 (kX 1)),
 oX 10 (.mv 38)])))))))
 (.seq
 (.ae false [
 oX 134 (.load true 3 7),
 oX 135 (.mv 8),
 oX 136 (.mv 9),
 uX (.store 3 4 134),
 oX 5 (.mv 135),
 oX 6 (.mv 136)])
 .ret))))))
def QS:List bN:=[.cell 4 3 true,.tmp 5,.tmp 6]
theorem ajD (NN:Nat) (x:aZ (aq.aY HN)):dK NN [zf,NL,NO,NI,NH] TA QS HN Sv x=GL NN x:=by kernel_rfl
theorem ahz:cC pX 182 TA.er QS 2=true:=by decide+kernel
theorem akG:de pX 182 NM.M/\bJ pX 182=true:=
  dV (T:=[zf,NL,NO,NI,NH]) (sc:=TA) (ms:=QS) (args:=HN) (aB:=Sv) (aO.cons Rc<|aO.cons akF<|aO.n4 akH<|aO.cons akC<|aO.n4 akB<|aO.nil) cV ahz AS fun x y h=>(ajD aM x).trans (aeS x y h)
def NP:ar:=⟨75,HP,aiH,Sx,AU⟩
def TC:bE:=
 (.seq
 (.ae false [
 oX 1 (.box 5 0),
 oX 2 (.mv (.k (.one (.nil [lX])))),
 oX 3 (.alloc [zX,zX,.nil iX])])
 (.seq
 (.ae false [
 oX 16 (.fF [lX] []),
 oX 4 (.mv 16)])
 (.seq
 (.ae false [
 oX 17 (.aC 1 1),
 oX 18 (.load false 1 17),
 oX 19 (.build [zX,zX,.nil iX] [(1,1,18)]),
 oX 5 (.alloc [zX,zX,.nil iX]),
 uX (.store 3 5 19)])
 (.seq
 (.ae false [
 oX 20 (.fF iX []),
 oX 21 (.fF [lX] [20]),
 oX 6 (.mv 21)])
 (.seq
 (.join ⟨[(4,.one (fX 500025 1)),(5,.one (rX 5)),(3,.one (rX 3))],[(3,.box [vX,vX,fX 500023 1]),(5,.box [vX,vX,fX 500024 1]),(500023,.row true .af iX),(500024,.row true .af iX),(500025,.row true .aG [lX])]⟩ [1,3,5,500000,500001,500002,500003,500023,500024,500025] [(true,3,2,500023,.af,[]),(true,5,2,500024,.af,[]),(false,4,0,500025,.aG,[])]
 (.block 0
 (.loop 0 ⟨[(1,.one (rX 1)),(3,.one (rX 3)),(4,.one (fX 500002 1)),(5,.one (rX 5)),(6,.one (fX 500003 1))],[(1,.box [vX,vX,.c (.v (lX)),.c (.v (.list mX)),.c (.v (lX))]),(3,.box [vX,vX,fX 500000 1]),(5,.box [vX,vX,fX 500001 1]),(500000,.row true .af iX),(500001,.row true .af iX),(500002,.row true .aG [lX]),(500003,.row true .af [lX])]⟩ [1,3,16,5,21,500000,500001,500002,500003,500019,500020,500021,500022] [(true,3,2,500000,.af,[]),(true,5,2,500001,.af,[]),(false,4,0,500002,.aG,[]),(false,6,0,500003,.af,[])]
 (.seq
 (.seq
 (.ae false [
 oX 22 (.mv 6),
 oX 23 (.len 22),
 oX 24 (.bin .gtr 23 (kX 0))])
 (.cond 24
 .skip
 (.exit 0)))
 (.block 1
 (.seq
 (.ae false [
 oX 25 (.fF [lX] []),
 oX 7 (.mv 25)])
 (.seq
 (.seq
 (.ae false [
 oX 26 (.mv 6),
 oX 27 (.len 26),
 oX 28 (.mv (kX 0))])
 (.join ⟨[(7,.one (fX 500021 1)),(1,.one (rX 1)),(3,.one (rX 3)),(4,.one (fX 500022 1)),(5,.one (rX 5))],[(1,.box [vX,vX,.c (.v (lX)),.c (.v (.list mX)),.c (.v (lX))]),(3,.box [vX,vX,fX 500019 1]),(5,.box [vX,vX,fX 500020 1]),(500019,.row true .af iX),(500020,.row true .af iX),(500021,.row true .af [lX]),(500022,.row true .aG [lX])]⟩ [1,3,5,500004,500005,500006,500007,500008,500019,500020,500021,500022] [(true,3,2,500019,.af,[]),(true,5,2,500020,.af,[]),(false,7,0,500021,.af,[]),(false,4,0,500022,.aG,[])]
 (.block 2
 (.loop 0 ⟨[(1,.one (rX 1)),(3,.one (rX 3)),(4,.one (fX 500006 1)),(5,.one (rX 5)),(7,.one (fX 500007 1)),(26,.one (fX 500008 1)),(27,sX),(28,sX)],[(1,.box [vX,vX,.c (.v (lX)),.c (.v (.list mX)),.c (.v (lX))]),(3,.box [vX,vX,fX 500004 1]),(5,.box [vX,vX,fX 500005 1]),(500004,.row true .af iX),(500005,.row true .af iX),(500006,.row true .aG [lX]),(500007,.row true .af [lX]),(500008,.row true .af [lX])]⟩ [1,3,5,25,500000,500001,500002,500003,500004,500005,500006,500007,500008,500014,500015,500016,500017,500018] [(true,3,2,500004,.af,[]),(true,5,2,500005,.af,[]),(false,4,0,500006,.aG,[]),(false,7,0,500007,.af,[]),(false,26,0,500008,.af,[])]
 (.seq
 (.ae false [
 oX 29 (.bin .lss 28 27)])
 (.seq
 (.cond 29
 .skip
 (.exit 2))
 (.seq
 (.join ⟨[(28,sX),(1,.one (rX 1)),(3,.one (rX 3)),(4,.one (fX 500016 1)),(5,.one (rX 5)),(7,.one (fX 500017 1)),(26,.one (fX 500018 1)),(27,sX)],[(1,.box [vX,vX,.c (.v (lX)),.c (.v (.list mX)),.c (.v (lX))]),(3,.box [vX,vX,fX 500014 1]),(5,.box [vX,vX,fX 500015 1]),(500014,.row true .af iX),(500015,.row true .af iX),(500016,.row true .aG [lX]),(500017,.row true .af [lX]),(500018,.row true .af [lX])]⟩ [1,3,5,35000,44,11,51000,51001,12,500004,500005,500006,500007,500008,500009,500010,500011,500012,500013,500014,500015,500016,500017,500018] [(true,3,2,500014,.af,[]),(true,5,2,500015,.af,[]),(false,4,0,500016,.aG,[]),(false,7,0,500017,.af,[]),(false,26,0,500018,.af,[])]
 (.block 3
 (.seq
 (.ae false [
 oX 30 (.cH 1 26 28),
 oX 31 (.load false 1 30),
 oX 9 (.mv 31)])
 (.seq
 (.ae false [
 oX 32 (.load true 5 1),
 oX 33 (.mv 9),
 oX 34 (.call .af 180 [32,33]),
 oX 10 (.mv 34)])
 (.seq
 (.t9 [(0,9),(1,9),(3,9),(4,9),(9,11)] [
 oX 35 (.aC 0 5),
 oX 36 (.load false 1 35),
 oX 37 (.bin .add 36 (kX 1)),
 oX 38 (.aC 1 1),
 oX 39 (.load false 1 38),
 oX 40 (.aC 2 5),
 oX 41 (.load false 1 40),
 oX 42 (.call .af 181 [41]),
 oX 43 (.mv 10),
 oX 44 (.append true iX 8 42 43),
 oX 45 (.build [zX,zX,.nil iX] [(0,1,37),(1,1,39),(2,1,44)]),
 oX 11 (.alloc [zX,zX,.nil iX]),
 uX (.store 3 11 45)])
 (.seq
 (.ae false [
 oX 47 (.aC 0 1),
 oX 48 (.load false 1 47),
 oX 49 (.load true 3 11),
 oX 50 (.call .af 182 [48,49]),
 oX 46 (.mv 50),
 oX 51 (.ext 0 46),
 oX 52 (.ext 1 46),
 oX 53 (.ext 2 46),
 oX 12 (.alloc [zX,zX,.nil iX]),
 uX (.store 3 12 51),
 oX 13 (.mv 52),
 oX 14 (.mv 53)])
 (.seq
 (.seq
 (.ae false [
 oX 54 (.mv 13),
 oX 55 (.len 54),
 oX 56 (.aC 0 5),
 oX 57 (.load false 1 56),
 oX 58 (.bin .leq 55 57)])
 (.cond 58
 (.exit 3)
 .skip))
 (.seq
 (.ae false [
 oX 59 (.load true 3 11),
 uX (.store 3 5 59)])
 (.seq
 (.ae false [
 oX 60 (.mv 4),
 oX 61 (.mv 9),
 oX 62 (.fF [lX] [61]),
 oX 63 (.append false [lX] 24 60 62),
 oX 4 (.mv 63)])
 (.seq
 (.ae false [
 oX 64 (.aC 3 1),
 oX 65 (.load false 1 64),
 oX 66 (.len 65),
 oX 67 (.mv (kX 0))])
 (.block 4
 (.loop 0 ⟨[(1,.one (rX 1)),(3,.one (rX 3)),(4,.one (fX 500011 1)),(5,.one (rX 5)),(7,.one (fX 500012 1)),(9,.one (.c (.v (lX)))),(26,.one (fX 500013 1)),(27,sX),(28,sX),(66,sX),(67,sX)],[(1,.box [vX,vX,.c (.v (lX)),.c (.v (.list mX)),.c (.v (lX))]),(3,.box [vX,vX,fX 500009 1]),(5,.box [vX,vX,fX 500010 1]),(500009,.row true .af iX),(500010,.row true .af iX),(500011,.row true .aG [lX]),(500012,.row true .af [lX]),(500013,.row true .af [lX])]⟩ [1,3,5,35000,44,11,51000,51001,12,63,74,77,500004,500005,500007,500008,500009,500010,500011,500012,500013] [(true,3,2,500009,.af,[]),(true,5,2,500010,.af,[]),(false,4,0,500011,.aG,[]),(false,7,0,500012,.af,[]),(false,26,0,500013,.af,[])]
 (.seq
 (.ae false [
 oX 68 (.bin .lss 67 66)])
 (.seq
 (.cond 68
 .skip
 (.exit 4))
 (.seq
 (.block 5
 (.seq
 (.ae false [
 oX 69 (.mv 67),
 oX 15 (.mv 69)])
 (.ae false [
 oX 70 (.mv 7),
 oX 71 (.mv 9),
 oX 72 (.call .af 181 [71]),
 oX 73 (.mv 15),
 oX 74 (.fF iX [73]),
 oX 75 (.append true iX 8 72 74),
 oX 76 (.fF [lX] [75]),
 oX 77 (.append false [lX] 24 70 76),
 oX 7 (.mv 77)])))
 (.ae false [
 oX 78 (.bin .add 67 (kX 1)),
 oX 67 (.mv 78)]))))))))))))))))
 (.ae false [
 oX 79 (.bin .add 28 (kX 1)),
 oX 28 (.mv 79)]))))))))
 (.ae false [
 oX 80 (.mv 7),
 oX 6 (.mv 80)]))))))))
 (.seq
 (.ae true [
 oX 81 (.mv 4),
 oX 82 (.load true 3 5),
 oX 2 (.mv 81),
 uX (.store 3 3 82)])
 .ret))))))
def QU:List bN:=[.tmp 2,.cell 3 3 true]
theorem ajF (NN:Nat) (x:aZ (aq.aY HP)):Ki NN [NQ,zf,NM] TC QU HP Sx x=GN NN x:=by kernel_rfl
theorem ahB:cC pX 75 TC.er QU 1=true:=by decide+kernel
theorem akI:yO Go.Proofs.Try.prog 75 NP.MV/\bJ pX 75=true:=
  abM (T:=[NQ,zf,NM]) (sc:=TC) (ms:=QU) (args:=HP) (aB:=Sx) (aO.cons akJ<|aO.cons Rc<|aO.cons akG<|aO.nil) cV ahB AU fun x y h=>(ajF aM x).trans (aeU x y h)
def NG:ar:=⟨11,HE,aiz,Sm,AR⟩
def Tr:bE:=
 (.seq
 (.ae false [
 oX 1 (.box 5 0),
 oX 2 (.mv (.k (.one (.nil [lX]))))])
 (.seq
 (.seq
 (.ae false [
 oX 5 (.load true 5 1),
 oX 6 (.call .af 74 [5]),
 oX 7 (.un .not 6)])
 (.cond 7
 (.seq
 (.ae false [
 oX 2 (.mv (.k (.one (.nil [lX]))))])
 .ret)
 .skip))
 (.seq
 (.ae false [
 oX 9 (.load true 5 1),
 oX 10 (.iA 75 [9]),
 oX 8 (.mv 10),
 oX 11 (.ext 0 8),
 oX 12 (.ext 1 8),
 oX 4 (.alloc [zX,zX,.nil iX]),
 oX 3 (.mv 11),
 uX (.store 3 4 12)])
 (.seq
 (.ae false [
 oX 13 (.mv 3),
 oX 2 (.mv 13)])
 .ret))))
def QK:List bN:=[.tmp 2]
theorem ajv (NN:Nat) (x:aZ (aq.aY HE)):Ki NN [NE,NP] Tr QK HE Sm x=LI NN x:=by kernel_rfl
theorem ahr:cC pX 11 Tr.er QK 1=true:=by decide+kernel
theorem akA:yO Go.Proofs.Try.prog 11 NG.MV/\bJ pX 11=true:=
  abM (T:=[NE,NP]) (sc:=Tr) (ms:=QK) (args:=HE) (aB:=Sm) (aO.cons aky<|aO.VW akI<|aO.nil) cV ahr AR fun x y h=>(ajv aM x).trans (aeL x y h)
def D6:ar:=⟨184,GW,ah2,RF,wA⟩
def SL:bE:=
 (.seq
 (.ae false [
 oX 2 (.mv (.k (.one (.v (.bool) (false)))))])
 (.seq
 (.seq
 (.ae false [
 oX 4 (.mv 0),
 oX 5 (.bin .lss 4 (kX 2)),
 oX 6 (.mv 5),
 ⟨(some 7),.mv 0,(some (6,false))⟩,
 ⟨(some 8),.bin .gtr 7 (kX 1000003),(some (6,false))⟩,
 oX 9 (.pick 6 (.k (.one (.v (.bool) (true)))) 8)])
 (.cond 9
 (.seq
 (.ae false [
 oX 2 (.mv (.k (.one (.v (.bool) (false)))))])
 .ret)
 .skip))
 (.seq
 (.seq
 (.ae false [
 oX 3 (.mv (kX 2))])
 (.join ⟨[],[]⟩ [] []
 (.block 0
 (.loop 0 ⟨[(0,sX),(3,sX)],[]⟩ [] []
 (.seq
 (.seq
 (.ae false [
 oX 10 (.mv 3),
 oX 11 (.mv 3),
 oX 12 (.bin .mul 10 11),
 oX 13 (.mv 0),
 oX 14 (.bin .leq 12 13)])
 (.cond 14
 .skip
 (.exit 0)))
 (.seq
 (.block 1
 (.seq
 (.ae false [
 oX 17 (.mv 0),
 oX 18 (.mv 3),
 oX 19 (.bin .rem 17 18),
 oX 20 (.bin .eql 19 (kX 0))])
 (.cond 20
 (.seq
 (.ae false [
 oX 2 (.mv (.k (.one (.v (.bool) (false)))))])
 .ret)
 .skip)))
 (.ae false [
 oX 15 (.mv 3),
 oX 16 (.bin .add 15 (kX 1)),
 oX 3 (.mv 16)])))))))
 (.seq
 (.ae false [
 oX 2 (.mv (.k (.one (.v (.bool) (true)))))])
 .ret))))
def P7:List bN:=[.tmp 2]
theorem aiS (NN:Nat) (x:aZ (aq.aY GW)):dK NN [] SL P7 GW RF x=Lh NN x:=by kernel_rfl
theorem agO:cC pX 184 SL.er P7 1=true:=by decide+kernel
theorem ZE:de pX 184 D6.M/\bJ pX 184=true:=
  dV (T:=[]) (sc:=SL) (ms:=P7) (args:=GW) (aB:=RF) (aO.nil) cV agO wA fun x y h=>(aiS aM x).trans (ad8 x y h)
def D8:ar:=⟨166,G9,ah9,RR,sK⟩
def SX:bE:=
 (.seq
 (.ae false [
 oX 4 (.mv (.k (.one (.v (.bool) (false)))))])
 (.seq
 (.seq
 (.ae false [
 oX 7 (.mv 1),
 oX 8 (.len 7),
 oX 9 (.mv (kX 0))])
 (.join ⟨[],[]⟩ [] []
 (.block 0
 (.loop 0 ⟨[(0,sX),(7,.one (.c (.v (lX)))),(8,sX),(9,sX)],[]⟩ [] []
 (.seq
 (.ae false [
 oX 10 (.bin .lss 9 8)])
 (.seq
 (.cond 10
 .skip
 (.exit 0))
 (.seq
 (.block 1
 (.seq
 (.ae false [
 oX 11 (.cH 1 7 9),
 oX 12 (.load false 1 11),
 oX 6 (.mv 12)])
 (.seq
 (.ae false [
 oX 13 (.mv 6),
 oX 14 (.bin .lss 13 (kX 0)),
 oX 15 (.mv 14),
 ⟨(some 16),.mv 6,(some (15,false))⟩,
 ⟨(some 17),.mv 0,(some (15,false))⟩,
 ⟨(some 18),.bin .geq 16 17,(some (15,false))⟩,
 oX 19 (.pick 15 (.k (.one (.v (.bool) (true)))) 18)])
 (.cond 19
 (.seq
 (.ae false [
 oX 4 (.mv (.k (.one (.v (.bool) (false)))))])
 .ret)
 .skip))))
 (.ae false [
 oX 20 (.bin .add 9 (kX 1)),
 oX 9 (.mv 20)]))))))))
 (.seq
 (.ae false [
 oX 4 (.mv (.k (.one (.v (.bool) (true)))))])
 .ret)))
def Qh:List bN:=[.tmp 4]
theorem ai2 (NN:Nat) (x:aZ (aq.aY G9)):dK NN [] SX Qh G9 RR x=Lm NN x:=by kernel_rfl
theorem agY:cC pX 166 SX.er Qh 2=true:=by decide+kernel
theorem ZG:de pX 166 D8.M/\bJ pX 166=true:=
  dV (T:=[]) (sc:=SX) (ms:=Qh) (args:=G9) (aB:=RR) (aO.nil) cV agY sK fun x y h=>(ai2 aM x).trans (aei x y h)
def Nc:ar:=⟨185,GX,ah3,RG,yx⟩
def SM:bE:=
 (.seq
 (.ae false [
 oX 3 (.box 3 1),
 oX 4 (.mv (.k (.one (.v (.bool) (false)))))])
 (.seq
 (.seq
 (.ae false [
 oX 5 (.mv 0),
 oX 6 (.call .af 184 [5]),
 oX 7 (.un .not 6),
 oX 8 (.mv 7),
 ⟨(some 9),.aC 0 3,(some (8,false))⟩,
 ⟨(some 10),.load false 1 9,(some (8,false))⟩,
 ⟨(some 11),.bin .lss 10 (kX 0),(some (8,false))⟩,
 oX 12 (.pick 8 (.k (.one (.v (.bool) (true)))) 11),
 oX 13 (.mv 12),
 ⟨(some 14),.aC 1 3,(some (13,false))⟩,
 ⟨(some 15),.load false 1 14,(some (13,false))⟩,
 ⟨(some 16),.bin .lss 15 (kX 0),(some (13,false))⟩,
 oX 17 (.pick 13 (.k (.one (.v (.bool) (true)))) 16),
 oX 18 (.mv 17),
 ⟨(some 19),.aC 0 3,(some (18,false))⟩,
 ⟨(some 20),.load false 1 19,(some (18,false))⟩,
 ⟨(some 21),.bin .gtr 20 (kX 64),(some (18,false))⟩,
 oX 22 (.pick 18 (.k (.one (.v (.bool) (true)))) 21),
 oX 23 (.mv 22),
 ⟨(some 24),.aC 1 3,(some (23,false))⟩,
 ⟨(some 25),.load false 1 24,(some (23,false))⟩,
 ⟨(some 26),.bin .gtr 25 (kX 64),(some (23,false))⟩,
 oX 27 (.pick 23 (.k (.one (.v (.bool) (true)))) 26)])
 (.cond 27
 (.seq
 (.ae false [
 oX 4 (.mv (.k (.one (.v (.bool) (false)))))])
 .ret)
 .skip))
 (.seq
 (.ae false [
 oX 28 (.aC 2 3),
 oX 29 (.load false 1 28),
 oX 30 (.len 29),
 oX 31 (.aC 0 3),
 oX 32 (.load false 1 31),
 oX 33 (.aC 1 3),
 oX 34 (.load false 1 33),
 oX 35 (.bin .mul 32 34),
 oX 36 (.bin .eql 30 35),
 oX 37 (.mv 36),
 ⟨(some 38),.mv 0,(some (37,true))⟩,
 ⟨(some 39),.aC 2 3,(some (37,true))⟩,
 ⟨(some 40),.load false 1 39,(some (37,true))⟩,
 ⟨(some 41),.call .af 166 [38,40],(some (37,true))⟩,
 oX 42 (.pick 37 41 (.k (.one (.v (.bool) (false))))),
 oX 4 (.mv 42)])
 .ret)))
def P8:List bN:=[.tmp 4]
theorem aiT (NN:Nat) (x:aZ (aq.aY GX)):dK NN [D6,D8] SM P8 GX RG x=Li NN x:=by kernel_rfl
theorem agP:cC pX 185 SM.er P8 2=true:=by decide+kernel
theorem aj8:de pX 185 Nc.M/\bJ pX 185=true:=
  dV (T:=[D6,D8]) (sc:=SM) (ms:=P8) (args:=GX) (aB:=RG) (aO.cons ZE<|aO.cons ZG<|aO.nil) cV agP yx fun x y h=>(aiT aM x).trans (ad9 x y h)
def Nb:ar:=⟨77,GV,ah1,RE,Av⟩
def SK:bE:=
 (.seq
 (.ae false [
 oX 1 (.box 5 0),
 oX 2 (.mv (.k (.one (.v (.bool) (false)))))])
 (.seq
 (.seq
 (.ae false [
 oX 5 (.aC 0 1),
 oX 6 (.load false 1 5),
 oX 7 (.call .af 184 [6]),
 oX 8 (.un .not 7),
 oX 9 (.mv 8),
 ⟨(some 10),.aC 1 1,(some (9,false))⟩,
 ⟨(some 11),.load false 1 10,(some (9,false))⟩,
 ⟨(some 12),.bin .lss 11 (kX 0),(some (9,false))⟩,
 oX 13 (.pick 9 (.k (.one (.v (.bool) (true)))) 12),
 oX 14 (.mv 13),
 ⟨(some 15),.aC 1 1,(some (14,false))⟩,
 ⟨(some 16),.load false 1 15,(some (14,false))⟩,
 ⟨(some 17),.bin .gtr 16 (kX 12),(some (14,false))⟩,
 oX 18 (.pick 14 (.k (.one (.v (.bool) (true)))) 17),
 oX 19 (.mv 18),
 ⟨(some 20),.aC 2 1,(some (19,false))⟩,
 ⟨(some 21),.load false 1 20,(some (19,false))⟩,
 ⟨(some 22),.len 21,(some (19,false))⟩,
 ⟨(some 23),.aC 1 1,(some (19,false))⟩,
 ⟨(some 24),.load false 1 23,(some (19,false))⟩,
 ⟨(some 25),.bin .neq 22 24,(some (19,false))⟩,
 oX 26 (.pick 19 (.k (.one (.v (.bool) (true)))) 25),
 oX 27 (.mv 26),
 ⟨(some 28),.aC 4 1,(some (27,false))⟩,
 ⟨(some 29),.load false 1 28,(some (27,false))⟩,
 ⟨(some 30),.len 29,(some (27,false))⟩,
 ⟨(some 31),.aC 1 1,(some (27,false))⟩,
 ⟨(some 32),.load false 1 31,(some (27,false))⟩,
 ⟨(some 33),.bin .neq 30 32,(some (27,false))⟩,
 oX 34 (.pick 27 (.k (.one (.v (.bool) (true)))) 33)])
 (.cond 34
 (.seq
 (.ae false [
 oX 2 (.mv (.k (.one (.v (.bool) (false)))))])
 .ret)
 .skip))
 (.seq
 (.seq
 (.ae false [
 oX 35 (.aC 0 1),
 oX 36 (.load false 1 35),
 oX 37 (.aC 2 1),
 oX 38 (.load false 1 37),
 oX 39 (.call .af 166 [36,38]),
 oX 40 (.un .not 39),
 oX 41 (.mv 40),
 ⟨(some 42),.aC 0 1,(some (41,false))⟩,
 ⟨(some 43),.load false 1 42,(some (41,false))⟩,
 ⟨(some 44),.aC 4 1,(some (41,false))⟩,
 ⟨(some 45),.load false 1 44,(some (41,false))⟩,
 ⟨(some 46),.call .af 166 [43,45],(some (41,false))⟩,
 ⟨(some 47),.un .not 46,(some (41,false))⟩,
 oX 48 (.pick 41 (.k (.one (.v (.bool) (true)))) 47),
 oX 49 (.mv 48),
 ⟨(some 50),.aC 3 1,(some (49,false))⟩,
 ⟨(some 51),.load false 1 50,(some (49,false))⟩,
 ⟨(some 52),.len 51,(some (49,false))⟩,
 ⟨(some 53),.bin .lss 52 (kX 1),(some (49,false))⟩,
 oX 54 (.pick 49 (.k (.one (.v (.bool) (true)))) 53),
 oX 55 (.mv 54),
 ⟨(some 56),.aC 3 1,(some (55,false))⟩,
 ⟨(some 57),.load false 1 56,(some (55,false))⟩,
 ⟨(some 58),.len 57,(some (55,false))⟩,
 ⟨(some 59),.bin .gtr 58 (kX 4),(some (55,false))⟩,
 oX 60 (.pick 55 (.k (.one (.v (.bool) (true)))) 59)])
 (.cond 60
 (.seq
 (.ae false [
 oX 2 (.mv (.k (.one (.v (.bool) (false)))))])
 .ret)
 .skip))
 (.seq
 (.seq
 (.ae false [
 oX 61 (.aC 3 1),
 oX 62 (.load false 1 61),
 oX 63 (.len 62),
 oX 64 (.mv (kX 0))])
 (.join ⟨[],[]⟩ [1] []
 (.block 0
 (.loop 0 ⟨[(1,.one (rX 1)),(62,.one (.c (.v (.list mX)))),(63,sX),(64,sX)],[(1,.box [vX,vX,.c (.v (lX)),.c (.v (.list mX)),.c (.v (lX))])]⟩ [1,4] []
 (.seq
 (.ae false [
 oX 65 (.bin .lss 64 63)])
 (.seq
 (.cond 65
 .skip
 (.exit 0))
 (.seq
 (.block 1
 (.seq
 (.ae false [
 oX 66 (.cH 3 62 64),
 oX 67 (.load true 3 66),
 oX 4 (.alloc [zX,zX,.nil iX]),
 uX (.store 3 4 67)])
 (.seq
 (.ae false [
 oX 68 (.aC 0 1),
 oX 69 (.load false 1 68),
 oX 70 (.load true 3 4),
 oX 71 (.call .af 185 [69,70]),
 oX 72 (.un .not 71),
 oX 73 (.mv 72),
 ⟨(some 74),.aC 0 4,(some (73,false))⟩,
 ⟨(some 75),.load false 1 74,(some (73,false))⟩,
 ⟨(some 76),.aC 1 1,(some (73,false))⟩,
 ⟨(some 77),.load false 1 76,(some (73,false))⟩,
 ⟨(some 78),.bin .neq 75 77,(some (73,false))⟩,
 oX 79 (.pick 73 (.k (.one (.v (.bool) (true)))) 78),
 oX 80 (.mv 79),
 ⟨(some 81),.aC 1 4,(some (80,false))⟩,
 ⟨(some 82),.load false 1 81,(some (80,false))⟩,
 ⟨(some 83),.aC 1 1,(some (80,false))⟩,
 ⟨(some 84),.load false 1 83,(some (80,false))⟩,
 ⟨(some 85),.bin .neq 82 84,(some (80,false))⟩,
 oX 86 (.pick 80 (.k (.one (.v (.bool) (true)))) 85)])
 (.cond 86
 (.seq
 (.ae false [
 oX 2 (.mv (.k (.one (.v (.bool) (false)))))])
 .ret)
 .skip))))
 (.ae false [
 oX 87 (.bin .add 64 (kX 1)),
 oX 64 (.mv 87)]))))))))
 (.seq
 (.ae false [
 oX 2 (.mv (.k (.one (.v (.bool) (true)))))])
 .ret)))))
def P6:List bN:=[.tmp 2]
theorem aiR (NN:Nat) (x:aZ (aq.aY GV)):dK NN [D6,D8,Nc] SK P6 GV RE x=Lg NN x:=by kernel_rfl
theorem agN:cC pX 77 SK.er P6 1=true:=by decide+kernel
theorem aj7:de pX 77 Nb.M/\bJ pX 77=true:=
  dV (T:=[D6,D8,Nc]) (sc:=SK) (ms:=P6) (args:=GV) (aB:=RE) (aO.cons ZE<|aO.cons ZG<|aO.cons aj8<|aO.nil) cV agN Av fun x y h=>(aiR aM x).trans (ad7 x y h)
def D7:ar:=⟨186,G8,ah8,RQ,yA⟩
def SW:bE:=
 (.seq
 (.ae false [
 oX 4 (.alloc [zX,zX,.nil iX])])
 (.seq
 (.ae false [
 oX 5 (.mv 0),
 oX 6 (.mv 1),
 oX 7 (.mv 0),
 oX 8 (.mv 1),
 oX 9 (.bin .mul 7 8),
 oX 10 (.lK .af iX 8 (0:Int) 9 9),
 oX 11 (.build [zX,zX,.nil iX] [(0,1,5),(1,1,6),(2,1,10)]),
 uX (.store 3 4 11)])
 .ret))
def Qg:List bN:=[.cell 4 3 true]
theorem ai1 (NN:Nat) (x:aZ (aq.aY G8)):dK NN [] SW Qg G8 RQ x=U1 NN x:=by kernel_rfl
theorem agX:cC pX 186 SW.er Qg 2=true:=by decide+kernel
theorem ZF:de pX 186 D7.M/\bJ pX 186=true:=
  dV (T:=[]) (sc:=SW) (ms:=Qg) (args:=G8) (aB:=RQ) (aO.nil) cV agX yA fun x y h=>(ai1 aM x).trans (aeh x y h)
def zb:ar:=⟨187,G6,ah6,RO,qb⟩
def SS:bE:=
 (.seq
 (.ae false [
 oX 2 (.mv (.k (.one (.nil iX))))])
 (.seq
 (.ae false [
 oX 3 (.mv 0),
 oX 4 (.append true iX 8 (.k (.one (.nil iX))) 3),
 oX 2 (.mv 4)])
 .ret))
def Qe:List bN:=[.tmp 2]
theorem aiZ (NN:Nat) (x:aZ (aq.aY G6)):dK NN [] SS Qe G6 RO x=Lk NN x:=by kernel_rfl
theorem agV:cC pX 187 SS.er Qe 1=true:=by decide+kernel
theorem Q9:de pX 187 zb.M/\bJ pX 187=true:=
  dV (T:=[]) (sc:=SS) (ms:=Qe) (args:=G6) (aB:=RO) (aO.nil) cV agV qb fun x y h=>(aiZ aM x).trans (aef x y h)
def uR:ar:=⟨236,GZ,ah4,RJ,kP⟩
def SO:bE:=
 (.seq
 (.ae false [
 oX 3 (.box 3 0),
 oX 6 (.mv (kX 0))])
 (.seq
 (.ae false [
 oX 7 (.aC 2 3),
 oX 8 (.load false 1 7),
 oX 9 (.mv 1),
 oX 10 (.aC 1 3),
 oX 11 (.load false 1 10),
 oX 12 (.bin .mul 9 11),
 oX 13 (.mv 2),
 oX 14 (.bin .add 12 13),
 oX 15 (.cH 1 8 14),
 oX 16 (.load false 1 15),
 oX 6 (.mv 16)])
 .ret))
def Qa:List bN:=[.tmp 6]
theorem aiV (NN:Nat) (x:aZ (aq.aY GZ)):dK NN [] SO Qa GZ RJ x=Gy NN x:=by kernel_rfl
theorem agR:cC pX 236 SO.er Qa 3=true:=by decide+kernel
theorem J1:de pX 236 uR.M/\bJ pX 236=true:=
  dV (T:=[]) (sc:=SO) (ms:=Qa) (args:=GZ) (aB:=RJ) (aO.nil) cV agR kP fun x y h=>(aiV aM x).trans (aeb x y h)
def uS:ar:=⟨239,G0,JK,RL,rz⟩
def SP:bE:=
 (.seq
 (.ae false [
 oX 4 (.box 3 0)])
 (.ae false [
 oX 8 (.aC 2 4),
 oX 9 (.load false 1 8),
 oX 10 (.mv 1),
 oX 11 (.aC 1 4),
 oX 12 (.load false 1 11),
 oX 13 (.bin .mul 10 12),
 oX 14 (.mv 2),
 oX 15 (.bin .add 13 14),
 oX 16 (.mv 3),
 oX 17 (.cH 1 9 15),
 uX (.store 1 17 16)]))
def Qb:List bN:=[]
theorem aiW (NN:Nat) (x:aZ (aq.aY G0)):sx NN [] SP Qb G0 JK RL x=Gz NN x:=by kernel_rfl
theorem agS:cC pX 239 SP.er Qb 4=true:=by decide+kernel
theorem J2:nQ pX 239 JK uS.MM/\bJ pX 239=true:=
  vR (T:=[]) (sc:=SP) (ms:=Qb) (args:=G0) (mu:=JK) (aB:=RL) (aO.nil) cV agS rz fun x y h=>(aiW aM x).trans (aec x y h)
def Nj:ar:=⟨234,Hc,aib,RT,Az⟩
def SZ:bE:=
 (.seq
 (.ae false [
 oX 4 (.box 3 1),
 oX 5 (.box 3 2),
 oX 6 (.alloc [zX,zX,.nil iX])])
 (.seq
 (.ae false [
 oX 12 (.aC 0 4),
 oX 13 (.load false 1 12),
 oX 14 (.aC 1 5),
 oX 15 (.load false 1 14),
 oX 16 (.call .af 186 [13,15]),
 oX 7 (.alloc [zX,zX,.nil iX]),
 uX (.store 3 7 16)])
 (.seq
 (.seq
 (.ae false [
 oX 8 (.mv (kX 0))])
 (.join ⟨[(7,.one (rX 7)),(6,.one (rX 6))],[(6,.box [vX,vX,fX 500012 1]),(7,.box [vX,vX,fX 500013 1]),(500012,.row true .af iX),(500013,.row true .af iX)]⟩ [4,5,6,7,500000,500001,500012,500013] [(true,6,2,500012,.af,[]),(true,7,2,500013,.af,[])]
 (.block 0
 (.loop 0 ⟨[(0,sX),(4,.one (rX 4)),(5,.one (rX 5)),(6,.one (rX 6)),(7,.one (rX 7)),(8,sX)],[(4,.box [vX,vX,.c (.v (lX))]),(5,.box [vX,vX,.c (.v (lX))]),(6,.box [vX,vX,fX 500000 1]),(7,.box [vX,vX,fX 500001 1]),(500000,.row true .af iX),(500001,.row true .af iX)]⟩ [4,5,6,17000,7,500000,500001,500010,500011] [(true,6,2,500000,.af,[]),(true,7,2,500001,.af,[])]
 (.seq
 (.seq
 (.ae false [
 oX 17 (.mv 8),
 oX 18 (.aC 0 4),
 oX 19 (.load false 1 18),
 oX 20 (.bin .lss 17 19)])
 (.cond 20
 .skip
 (.exit 0)))
 (.seq
 (.join ⟨[(8,sX),(0,sX),(4,.one (rX 4)),(5,.one (rX 5)),(6,.one (rX 6)),(7,.one (rX 7))],[(4,.box [vX,vX,.c (.v (lX))]),(5,.box [vX,vX,.c (.v (lX))]),(6,.box [vX,vX,fX 500010 1]),(7,.box [vX,vX,fX 500011 1]),(500010,.row true .af iX),(500011,.row true .af iX)]⟩ [4,5,6,7,500002,500003,500010,500011] [(true,6,2,500010,.af,[]),(true,7,2,500011,.af,[])]
 (.block 1
 (.seq
 (.ae false [
 oX 9 (.mv (kX 0))])
 (.block 2
 (.loop 0 ⟨[(0,sX),(4,.one (rX 4)),(5,.one (rX 5)),(6,.one (rX 6)),(7,.one (rX 7)),(8,sX),(9,sX)],[(4,.box [vX,vX,.c (.v (lX))]),(5,.box [vX,vX,.c (.v (lX))]),(6,.box [vX,vX,fX 500002 1]),(7,.box [vX,vX,fX 500003 1]),(500002,.row true .af iX),(500003,.row true .af iX)]⟩ [4,5,6,7,500000,500001,500002,500003,500008,500009] [(true,6,2,500002,.af,[]),(true,7,2,500003,.af,[])]
 (.seq
 (.seq
 (.ae false [
 oX 23 (.mv 9),
 oX 24 (.aC 1 5),
 oX 25 (.load false 1 24),
 oX 26 (.bin .lss 23 25)])
 (.cond 26
 .skip
 (.exit 2)))
 (.seq
 (.join ⟨[(9,sX),(0,sX),(4,.one (rX 4)),(5,.one (rX 5)),(6,.one (rX 6)),(7,.one (rX 7)),(8,sX)],[(4,.box [vX,vX,.c (.v (lX))]),(5,.box [vX,vX,.c (.v (lX))]),(6,.box [vX,vX,fX 500008 1]),(7,.box [vX,vX,fX 500009 1]),(500008,.row true .af iX),(500009,.row true .af iX)]⟩ [4,5,6,7,500006,500007,500008,500009] [(true,6,2,500008,.af,[]),(true,7,2,500009,.af,[])]
 (.block 3
 (.seq
 (.ae false [
 oX 10 (.mv (kX 0))])
 (.seq
 (.seq
 (.ae false [
 oX 11 (.mv (kX 0))])
 (.join ⟨[(10,sX),(9,sX),(0,sX),(4,.one (rX 4)),(5,.one (rX 5)),(6,.one (rX 6)),(7,.one (rX 7)),(8,sX)],[(4,.box [vX,vX,.c (.v (lX))]),(5,.box [vX,vX,.c (.v (lX))]),(6,.box [vX,vX,fX 500006 1]),(7,.box [vX,vX,fX 500007 1]),(500006,.row true .af iX),(500007,.row true .af iX)]⟩ [4,5,6,7,500004,500005,500006,500007] [(true,6,2,500006,.af,[]),(true,7,2,500007,.af,[])]
 (.block 4
 (.loop 0 ⟨[(0,sX),(4,.one (rX 4)),(5,.one (rX 5)),(6,.one (rX 6)),(7,.one (rX 7)),(8,sX),(9,sX),(10,sX),(11,sX)],[(4,.box [vX,vX,.c (.v (lX))]),(5,.box [vX,vX,.c (.v (lX))]),(6,.box [vX,vX,fX 500004 1]),(7,.box [vX,vX,fX 500005 1]),(500004,.row true .af iX),(500005,.row true .af iX)]⟩ [4,5,6,7,500002,500003,500004,500005] [(true,6,2,500004,.af,[]),(true,7,2,500005,.af,[])]
 (.seq
 (.seq
 (.ae false [
 oX 29 (.mv 11),
 oX 30 (.aC 1 4),
 oX 31 (.load false 1 30),
 oX 32 (.bin .lss 29 31)])
 (.cond 32
 .skip
 (.exit 4)))
 (.seq
 (.block 5
 (.ae true [
 oX 35 (.mv 10),
 oX 36 (.load true 3 4),
 oX 37 (.mv 8),
 oX 38 (.mv 11),
 oX 39 (.call .af 236 [36,37,38]),
 oX 40 (.load true 3 5),
 oX 41 (.mv 11),
 oX 42 (.mv 9),
 oX 43 (.call .af 236 [40,41,42]),
 oX 44 (.bin .mul 39 43),
 oX 45 (.bin .add 35 44),
 oX 46 (.mv 0),
 oX 47 (.bin .rem 45 46),
 oX 10 (.mv 47)]))
 (.ae false [
 oX 33 (.mv 11),
 oX 34 (.bin .add 33 (kX 1)),
 oX 11 (.mv 34)])))))))
 (.ae false [
 oX 48 (.load true 3 7),
 oX 49 (.mv 8),
 oX 50 (.mv 9),
 oX 51 (.mv 10),
 oX 52 (.fN .af 239 [48,49,50,51])])))))
 (.ae false [
 oX 27 (.mv 9),
 oX 28 (.bin .add 27 (kX 1)),
 oX 9 (.mv 28)]))))))))
 (.ae false [
 oX 21 (.mv 8),
 oX 22 (.bin .add 21 (kX 1)),
 oX 8 (.mv 22)])))))))
 (.seq
 (.ae false [
 oX 53 (.load true 3 7),
 uX (.store 3 6 53)])
 .ret))))
def Qj:List bN:=[.cell 6 3 true]
theorem ai4 (NN:Nat) (x:aZ (aq.aY Hc)):dK NN [D7,uR,uS] SZ Qj Hc RT x=GC NN x:=by kernel_rfl
theorem ag0:cC pX 234 SZ.er Qj 3=true:=by decide+kernel
theorem ake:de pX 234 Nj.M/\bJ pX 234=true:=
  dV (T:=[D7,uR,uS]) (sc:=SZ) (ms:=Qj) (args:=Hc) (aB:=RT) (aO.cons ZF<|aO.cons J1<|aO.n4 J2<|aO.nil) cV ag0 Az fun x y h=>(ai4 aM x).trans (aek x y h)
def Nm:ar:=⟨188,Hf,aie,RX,yB⟩
def S3:bE:=
 (.seq
 (.ae false [
 oX 2 (.box 5 0),
 oX 4 (.mv (.k (.one (.nil iX))))])
 (.seq
 (.ae false [
 oX 8 (.aC 2 2),
 oX 9 (.load false 1 8),
 oX 10 (.call .af 187 [9]),
 oX 11 (.nJ 233 false 10),
 oX 5 (.alloc [zX,zX,.nil iX]),
 uX (.store 3 5 11)])
 (.seq
 (.seq
 (.ae false [
 oX 12 (.mv 1),
 oX 13 (.len 12),
 oX 14 (.mv (kX 0))])
 (.join ⟨[(5,.one (rX 5))],[(5,.box [vX,vX,fX 500001 1]),(500001,.row true .af iX)]⟩ [2,5,500000,500001] [(true,5,2,500001,.af,[])]
 (.block 0
 (.loop 0 ⟨[(2,.one (rX 2)),(5,.one (rX 5)),(12,.one (.c (.v (lX)))),(13,sX),(14,sX)],[(2,.box [vX,vX,.c (.v (lX)),.c (.v (.list mX)),.c (.v (lX))]),(5,.box [vX,vX,fX 500000 1]),(500000,.row true .af iX)]⟩ [2,11000,5,27000,500000] [(true,5,2,500000,.af,[])]
 (.seq
 (.ae false [
 oX 15 (.bin .lss 14 13)])
 (.seq
 (.cond 15
 .skip
 (.exit 0))
 (.seq
 (.block 1
 (.seq
 (.ae false [
 oX 16 (.cH 1 12 14),
 oX 17 (.load false 1 16),
 oX 7 (.mv 17)])
 (.ae true [
 oX 18 (.aC 0 2),
 oX 19 (.load false 1 18),
 oX 20 (.load true 3 5),
 oX 21 (.aC 3 2),
 oX 22 (.load false 1 21),
 oX 23 (.mv 7),
 oX 24 (.cH 3 22 23),
 oX 25 (.load true 3 24),
 oX 26 (.call .af 234 [19,20,25]),
 uX (.store 3 5 26)])))
 (.ae false [
 oX 27 (.bin .add 14 (kX 1)),
 oX 14 (.mv 27)]))))))))
 (.seq
 (.ae false [
 oX 28 (.aC 2 5),
 oX 29 (.load false 1 28),
 oX 4 (.mv 29)])
 .ret))))
def Qm:List bN:=[.tmp 4]
theorem ai7 (NN:Nat) (x:aZ (aq.aY Hf)):dK NN [zb,Nj] S3 Qm Hf RX x=GG NN x:=by kernel_rfl
theorem ag3:cC pX 188 S3.er Qm 2=true:=by decide+kernel
theorem akh:de pX 188 Nm.M/\bJ pX 188=true:=
  dV (T:=[zb,Nj]) (sc:=S3) (ms:=Qm) (args:=Hf) (aB:=RX) (aO.cons Q9<|aO.cons ake<|aO.nil) cV ag3 yB fun x y h=>(ai7 aM x).trans (aen x y h)
def Nh:ar:=⟨235,G7,ah7,RP,Ax⟩
def SU:bE:=
 (.seq
 (.ae false [
 oX 1 (.box 3 0),
 oX 2 (.alloc [zX,zX,.nil iX])])
 (.seq
 (.ae true [
 oX 3 (.aC 0 1),
 oX 4 (.load false 1 3),
 oX 5 (.aC 1 1),
 oX 6 (.load false 1 5),
 oX 7 (.aC 2 1),
 oX 8 (.load false 1 7),
 oX 9 (.call .af 187 [8]),
 oX 10 (.build [zX,zX,.nil iX] [(0,1,4),(1,1,6),(2,1,9)]),
 uX (.store 3 2 10)])
 .ret))
def Qf:List bN:=[.cell 2 3 true]
theorem ai0 (NN:Nat) (x:aZ (aq.aY G7)):dK NN [zb] SU Qf G7 RP x=Ll NN x:=by kernel_rfl
theorem agW:cC pX 235 SU.er Qf 1=true:=by decide+kernel
theorem akc:de pX 235 Nh.M/\bJ pX 235=true:=
  dV (T:=[zb]) (sc:=SU) (ms:=Qf) (args:=G7) (aB:=RP) (aO.cons Q9<|aO.nil) cV agW Ax fun x y h=>(ai0 aM x).trans (aeg x y h)
def Nf:ar:=⟨237,G4,JL,RM,Aw⟩
def SQ:bE:=
 (.seq
 (.ae false [
 oX 3 (.box 3 0)])
 (.seq
 (.ae false [
 oX 6 (.mv (kX 0))])
 (.block 0
 (.loop 0 ⟨[(1,sX),(2,sX),(3,.one (rX 3)),(6,sX)],[(1000000,.row false .af iX),(3,.box [vX,vX,fX 1000000 1])]⟩ [1000000,3,500000] [(true,3,2,500000,.af,[])]
 (.seq
 (.seq
 (.ae false [
 oX 9 (.mv 6),
 oX 10 (.aC 1 3),
 oX 11 (.load false 1 10),
 oX 12 (.bin .lss 9 11)])
 (.cond 12
 .skip
 (.exit 0)))
 (.seq
 (.block 1
 (.seq
 (.ae true [
 oX 15 (.load true 3 3),
 oX 16 (.mv 1),
 oX 17 (.mv 6),
 oX 18 (.call .af 236 [15,16,17]),
 oX 19 (.load true 3 3),
 oX 20 (.mv 2),
 oX 21 (.mv 6),
 oX 22 (.call .af 236 [19,20,21]),
 oX 7 (.mv 18),
 oX 8 (.mv 22)])
 (.seq
 (.ae false [
 oX 23 (.load true 3 3),
 oX 24 (.mv 1),
 oX 25 (.mv 6),
 oX 26 (.mv 8),
 oX 27 (.fN .af 239 [23,24,25,26])])
 (.ae false [
 oX 28 (.load true 3 3),
 oX 29 (.mv 2),
 oX 30 (.mv 6),
 oX 31 (.mv 7),
 oX 32 (.fN .af 239 [28,29,30,31])]))))
 (.ae false [
 oX 13 (.mv 6),
 oX 14 (.bin .add 13 (kX 1)),
 oX 6 (.mv 14)])))))))
def Qc:List bN:=[]
theorem aiX (NN:Nat) (x:aZ (aq.aY G4)):sx NN [uR,uS] SQ Qc G4 JL RM x=GA NN x:=by kernel_rfl
theorem agT:cC pX 237 SQ.er Qc 3=true:=by decide+kernel
theorem aka:nQ pX 237 JL Nf.MM/\bJ pX 237=true:=
  vR (T:=[uR,uS]) (sc:=SQ) (ms:=Qc) (args:=G4) (mu:=JL) (aB:=RM) (aO.cons J1<|aO.n4 J2<|aO.nil) cV agT Aw fun x y h=>(aiX aM x).trans (aed x y h)
def Ni:ar:=⟨238,Ha,aia,RS,Ay⟩
def SY:bE:=
 (.seq
 (.ae false [
 oX 4 (.mv (kX 0))])
 (.seq
 (.ae false [
 oX 5 (.mv (kX 1))])
 (.seq
 (.seq
 (.ae false [
 oX 7 (.mv 0),
 oX 8 (.bin .sub 7 (kX 2)),
 oX 6 (.mv 8)])
 (.join ⟨[(5,sX)],[]⟩ [] []
 (.block 0
 (.loop 0 ⟨[(0,sX),(1,sX),(5,sX),(6,sX)],[]⟩ [] []
 (.seq
 (.seq
 (.ae false [
 oX 9 (.mv 6),
 oX 10 (.bin .gtr 9 (kX 0))])
 (.cond 10
 .skip
 (.exit 0)))
 (.seq
 (.block 1
 (.seq
 (.seq
 (.ae false [
 oX 13 (.mv 6),
 oX 14 (.bin .and 13 (kX 1)),
 oX 15 (.bin .eql 14 (kX 1))])
 (.join ⟨[(1,sX),(6,sX),(0,sX),(5,sX)],[]⟩ [] []
 (.cond 15
 (.ae false [
 oX 16 (.mv 5),
 oX 17 (.mv 1),
 oX 18 (.bin .mul 16 17),
 oX 19 (.mv 0),
 oX 20 (.bin .rem 18 19),
 oX 5 (.mv 20)])
 .skip)))
 (.ae false [
 oX 21 (.mv 1),
 oX 22 (.mv 1),
 oX 23 (.bin .mul 21 22),
 oX 24 (.mv 0),
 oX 25 (.bin .rem 23 24),
 oX 1 (.mv 25)])))
 (.ae false [
 oX 11 (.mv 6),
 oX 12 (.bin .shr 11 (.k (.one (.v (.int .u64) ((1:Int)))))),
 oX 6 (.mv 12)])))))))
 (.seq
 (.ae false [
 oX 26 (.mv 5),
 oX 4 (.mv 26)])
 .ret))))
def Qi:List bN:=[.tmp 4]
theorem ai3 (NN:Nat) (x:aZ (aq.aY Ha)):dK NN [] SY Qi Ha RS x=Ln NN x:=by kernel_rfl
theorem agZ:cC pX 238 SY.er Qi 2=true:=by decide+kernel
theorem akd:de pX 238 Ni.M/\bJ pX 238=true:=
  dV (T:=[]) (sc:=SY) (ms:=Qi) (args:=Ha) (aB:=RS) (aO.nil) cV agZ Ay fun x y h=>(ai3 aM x).trans (aej x y h)
def Nd:ar:=⟨240,GY,JJ,RH,yy⟩
def SN:bE:=
 (.seq
 (.ae false [
 oX 5 (.box 3 0)])
 (.seq
 (.ae false [
 oX 10 (.mv (kX 0))])
 (.block 0
 (.loop 0 ⟨[(1,sX),(2,sX),(3,sX),(4,sX),(5,.one (rX 5)),(10,sX)],[(1000000,.row false .af iX),(5,.box [vX,vX,fX 1000000 1])]⟩ [1000000,5,500000] [(true,5,2,500000,.af,[])]
 (.seq
 (.seq
 (.ae false [
 oX 11 (.mv 10),
 oX 12 (.aC 1 5),
 oX 13 (.load false 1 12),
 oX 14 (.bin .lss 11 13)])
 (.cond 14
 .skip
 (.exit 0)))
 (.seq
 (.block 1
 (.ae true [
 oX 17 (.load true 3 5),
 oX 18 (.mv 2),
 oX 19 (.mv 10),
 oX 20 (.load true 3 5),
 oX 21 (.mv 2),
 oX 22 (.mv 10),
 oX 23 (.call .af 236 [20,21,22]),
 oX 24 (.mv 4),
 oX 25 (.load true 3 5),
 oX 26 (.mv 3),
 oX 27 (.mv 10),
 oX 28 (.call .af 236 [25,26,27]),
 oX 29 (.bin .mul 24 28),
 oX 30 (.bin .add 23 29),
 oX 31 (.mv 1),
 oX 32 (.bin .rem 30 31),
 oX 33 (.fN .af 239 [17,18,19,32])]))
 (.ae false [
 oX 15 (.mv 10),
 oX 16 (.bin .add 15 (kX 1)),
 oX 10 (.mv 16)])))))))
def P9:List bN:=[]
theorem aiU (NN:Nat) (x:aZ (aq.aY GY)):sx NN [uR,uS] SN P9 GY JJ RH x=Gx NN x:=by kernel_rfl
theorem agQ:cC pX 240 SN.er P9 5=true:=by decide+kernel
theorem aj9:nQ pX 240 JJ Nd.MM/\bJ pX 240=true:=
  vR (T:=[uR,uS]) (sc:=SN) (ms:=P9) (args:=GY) (mu:=JJ) (aB:=RH) (aO.cons J1<|aO.n4 J2<|aO.nil) cV agQ yy fun x y h=>(aiU aM x).trans (aea x y h)
def Nl:ar:=⟨189,He,aid,RW,AB⟩
def S2:bE:=
 (.seq
 (.ae false [
 oX 3 (.box 3 1),
 oX 4 (.alloc [zX,zX,.nil iX]),
 oX 5 (.mv (.k (.one (.nil iX))))])
 (.seq
 (.ae false [
 oX 14 (.load true 3 3),
 oX 15 (.call .af 235 [14]),
 oX 6 (.alloc [zX,zX,.nil iX]),
 uX (.store 3 6 15)])
 (.seq
 (.ae false [
 oX 7 (.mv (.k (.one (.nil iX))))])
 (.seq
 (.seq
 (.ae false [
 oX 8 (.mv (kX 0))])
 (.join ⟨[(6,.one (rX 6)),(7,.one (fX 500026 1)),(4,.one (rX 4))],[(4,.box [vX,vX,fX 500024 1]),(6,.box [vX,vX,fX 500025 1]),(500024,.row true .af iX),(500025,.row true .af iX),(500026,.row true .af iX)]⟩ [4,6,500000,500001,500002,500024,500025,500026] [(true,4,2,500024,.af,[]),(true,6,2,500025,.af,[]),(false,7,0,500026,.af,[])]
 (.block 0
 (.loop 0 ⟨[(0,sX),(4,.one (rX 4)),(6,.one (rX 6)),(7,.one (fX 500002 1)),(8,sX)],[(4,.box [vX,vX,fX 500000 1]),(6,.box [vX,vX,fX 500001 1]),(500000,.row true .af iX),(500001,.row true .af iX),(500002,.row true .af iX)]⟩ [3,4,16000,6,500000,500001,500002,500021,500022,500023] [(true,4,2,500000,.af,[]),(true,6,2,500001,.af,[]),(false,7,0,500002,.af,[])]
 (.seq
 (.seq
 (.ae false [
 oX 16 (.mv 8),
 oX 17 (.aC 1 6),
 oX 18 (.load false 1 17),
 oX 19 (.bin .lss 16 18)])
 (.cond 19
 .skip
 (.exit 0)))
 (.seq
 (.join ⟨[(8,sX),(0,sX),(4,.one (rX 4)),(6,.one (rX 6)),(7,.one (fX 500023 1))],[(4,.box [vX,vX,fX 500021 1]),(6,.box [vX,vX,fX 500022 1]),(500021,.row true .af iX),(500022,.row true .af iX),(500023,.row true .af iX)]⟩ [4,6,99,100,500006,500007,500008,500018,500019,500021,500022,500023] [(true,4,2,500021,.af,[]),(true,6,2,500022,.af,[]),(false,7,0,500023,.af,[])]
 (.block 1
 (.seq
 (.ae false [
 oX 22 (.mv 7),
 oX 23 (.len 22),
 oX 9 (.mv 23)])
 (.seq
 (.ae false [
 oX 24 (.mv 9),
 oX 10 (.mv 24)])
 (.seq
 (.join ⟨[(10,sX),(9,sX),(7,.one (fX 500008 1)),(8,sX),(0,sX),(4,.one (rX 4)),(6,.one (rX 6))],[(4,.box [vX,vX,fX 500006 1]),(6,.box [vX,vX,fX 500007 1]),(500006,.row true .af iX),(500007,.row true .af iX),(500008,.row true .af iX)]⟩ [4,6,500003,500004,500005,500006,500007,500008] [(true,4,2,500006,.af,[]),(true,6,2,500007,.af,[]),(false,7,0,500008,.af,[])]
 (.block 2
 (.loop 0 ⟨[(0,sX),(4,.one (rX 4)),(6,.one (rX 6)),(7,.one (fX 500005 1)),(8,sX),(9,sX),(10,sX)],[(4,.box [vX,vX,fX 500003 1]),(6,.box [vX,vX,fX 500004 1]),(500003,.row true .af iX),(500004,.row true .af iX),(500005,.row true .af iX)]⟩ [4,6,500000,500001,500002,500003,500004,500005] [(true,4,2,500003,.af,[]),(true,6,2,500004,.af,[]),(false,7,0,500005,.af,[])]
 (.seq
 (.seq
 (.ae false [
 oX 25 (.mv 10),
 oX 26 (.aC 0 6),
 oX 27 (.load false 1 26),
 oX 28 (.bin .lss 25 27),
 oX 29 (.mv 28),
 ⟨(some 30),.load true 3 6,(some (29,true))⟩,
 ⟨(some 31),.mv 10,(some (29,true))⟩,
 ⟨(some 32),.mv 8,(some (29,true))⟩,
 ⟨(some 33),.call .af 236 [30,31,32],(some (29,true))⟩,
 ⟨(some 34),.bin .eql 33 (kX 0),(some (29,true))⟩,
 oX 35 (.pick 29 34 (.k (.one (.v (.bool) (false)))))])
 (.cond 35
 .skip
 (.exit 2)))
 (.block 3
 (.ae false [
 oX 36 (.mv 10),
 oX 37 (.bin .add 36 (kX 1)),
 oX 10 (.mv 37)]))))))
 (.seq
 (.seq
 (.ae false [
 oX 38 (.mv 10),
 oX 39 (.aC 0 6),
 oX 40 (.load false 1 39),
 oX 41 (.bin .eql 38 40)])
 (.cond 41
 (.exit 1)
 .skip))
 (.seq
 (.ae false [
 oX 42 (.load true 3 6),
 oX 43 (.mv 9),
 oX 44 (.mv 10),
 oX 45 (.fN .af 237 [42,43,44])])
 (.seq
 (.ae false [
 oX 46 (.mv 0),
 oX 47 (.load true 3 6),
 oX 48 (.mv 9),
 oX 49 (.mv 8),
 oX 50 (.call .af 236 [47,48,49]),
 oX 51 (.call .af 238 [46,50]),
 oX 11 (.mv 51)])
 (.seq
 (.seq
 (.ae false [
 oX 12 (.mv (kX 0))])
 (.join ⟨[(6,.one (rX 6)),(4,.one (rX 4)),(0,sX),(8,sX),(7,.one (fX 500014 1)),(9,sX)],[(4,.box [vX,vX,fX 500012 1]),(6,.box [vX,vX,fX 500013 1]),(500012,.row true .af iX),(500013,.row true .af iX),(500014,.row true .af iX)]⟩ [4,6,500009,500010,500011,500012,500013,500014] [(true,4,2,500012,.af,[]),(true,6,2,500013,.af,[]),(false,7,0,500014,.af,[])]
 (.block 4
 (.loop 0 ⟨[(0,sX),(4,.one (rX 4)),(6,.one (rX 6)),(7,.one (fX 500011 1)),(8,sX),(9,sX),(11,sX),(12,sX)],[(4,.box [vX,vX,fX 500009 1]),(6,.box [vX,vX,fX 500010 1]),(500009,.row true .af iX),(500010,.row true .af iX),(500011,.row true .af iX)]⟩ [4,6,500006,500007,500008,500009,500010,500011] [(true,4,2,500009,.af,[]),(true,6,2,500010,.af,[]),(false,7,0,500011,.af,[])]
 (.seq
 (.seq
 (.ae false [
 oX 52 (.mv 12),
 oX 53 (.aC 1 6),
 oX 54 (.load false 1 53),
 oX 55 (.bin .lss 52 54)])
 (.cond 55
 .skip
 (.exit 4)))
 (.seq
 (.block 5
 (.ae true [
 oX 58 (.load true 3 6),
 oX 59 (.mv 9),
 oX 60 (.mv 12),
 oX 61 (.load true 3 6),
 oX 62 (.mv 9),
 oX 63 (.mv 12),
 oX 64 (.call .af 236 [61,62,63]),
 oX 65 (.mv 11),
 oX 66 (.bin .mul 64 65),
 oX 67 (.mv 0),
 oX 68 (.bin .rem 66 67),
 oX 69 (.fN .af 239 [58,59,60,68])]))
 (.ae false [
 oX 56 (.mv 12),
 oX 57 (.bin .add 56 (kX 1)),
 oX 12 (.mv 57)])))))))
 (.seq
 (.seq
 (.ae false [
 oX 13 (.mv (kX 0))])
 (.join ⟨[(7,.one (fX 500020 1)),(8,sX),(0,sX),(4,.one (rX 4)),(6,.one (rX 6))],[(4,.box [vX,vX,fX 500018 1]),(6,.box [vX,vX,fX 500019 1]),(500018,.row true .af iX),(500019,.row true .af iX),(500020,.row true .af iX)]⟩ [4,6,500015,500016,500017,500018,500019,500020] [(true,4,2,500018,.af,[]),(true,6,2,500019,.af,[]),(false,7,0,500020,.af,[])]
 (.block 6
 (.loop 0 ⟨[(0,sX),(4,.one (rX 4)),(6,.one (rX 6)),(7,.one (fX 500017 1)),(8,sX),(9,sX),(13,sX)],[(4,.box [vX,vX,fX 500015 1]),(6,.box [vX,vX,fX 500016 1]),(500015,.row true .af iX),(500016,.row true .af iX),(500017,.row true .af iX)]⟩ [4,6,500012,500013,500014,500015,500016,500017] [(true,4,2,500015,.af,[]),(true,6,2,500016,.af,[]),(false,7,0,500017,.af,[])]
 (.seq
 (.seq
 (.ae false [
 oX 70 (.mv 13),
 oX 71 (.aC 0 6),
 oX 72 (.load false 1 71),
 oX 73 (.bin .lss 70 72)])
 (.cond 73
 .skip
 (.exit 6)))
 (.seq
 (.block 7
 (.seq
 (.ae false [
 oX 76 (.mv 13),
 oX 77 (.mv 9),
 oX 78 (.bin .neq 76 77),
 oX 79 (.mv 78),
 ⟨(some 80),.load true 3 6,(some (79,true))⟩,
 ⟨(some 81),.mv 13,(some (79,true))⟩,
 ⟨(some 82),.mv 8,(some (79,true))⟩,
 ⟨(some 83),.call .af 236 [80,81,82],(some (79,true))⟩,
 ⟨(some 84),.bin .neq 83 (kX 0),(some (79,true))⟩,
 oX 85 (.pick 79 84 (.k (.one (.v (.bool) (false)))))])
 (.cond 85
 (.ae true [
 oX 86 (.load true 3 6),
 oX 87 (.mv 0),
 oX 88 (.mv 13),
 oX 89 (.mv 9),
 oX 90 (.mv 0),
 oX 91 (.load true 3 6),
 oX 92 (.mv 13),
 oX 93 (.mv 8),
 oX 94 (.call .af 236 [91,92,93]),
 oX 95 (.bin .sub 90 94),
 oX 96 (.fN .af 240 [86,87,88,89,95])])
 .skip)))
 (.ae false [
 oX 74 (.mv 13),
 oX 75 (.bin .add 74 (kX 1)),
 oX 13 (.mv 75)])))))))
 (.ae false [
 oX 97 (.mv 7),
 oX 98 (.mv 8),
 oX 99 (.fF iX [98]),
 oX 100 (.append true iX 8 97 99),
 oX 7 (.mv 100)])))))))))))
 (.ae false [
 oX 20 (.mv 8),
 oX 21 (.bin .add 20 (kX 1)),
 oX 8 (.mv 21)])))))))
 (.seq
 (.ae false [
 oX 101 (.load true 3 6),
 oX 102 (.mv 7),
 uX (.store 3 4 101),
 oX 5 (.mv 102)])
 .ret)))))
def Ql:List bN:=[.cell 4 3 true,.tmp 5]
theorem ai6 (NN:Nat) (x:aZ (aq.aY He)):dK NN [Nh,uR,Nf,Ni,uS,Nd] S2 Ql He RW x=GF NN x:=by kernel_rfl
theorem ag2:cC pX 189 S2.er Ql 2=true:=by decide+kernel
theorem akg:de pX 189 Nl.M/\bJ pX 189=true:=
  dV (T:=[Nh,uR,Nf,Ni,uS,Nd]) (sc:=S2) (ms:=Ql) (args:=He) (aB:=RW) (aO.cons akc<|aO.cons J1<|aO.n4 aka<|aO.cons akd<|aO.n4 J2<|aO.n4 aj9<|aO.nil) cV ag2 AB fun x y h=>(ai6 aM x).trans (aem x y h)
def Nk:ar:=⟨78,Hd,aic,RU,AA⟩
def S1:bE:=
 (.seq
 (.ae false [
 oX 1 (.box 5 0),
 oX 2 (.mv (.k (.one (.nil [lX])))),
 oX 3 (.alloc [zX,zX,.nil iX])])
 (.seq
 (.ae false [
 oX 4 (.mv (.k (.one (.nil [lX]))))])
 (.seq
 (.ae false [
 oX 12 (.aC 1 1),
 oX 13 (.load false 1 12),
 oX 14 (.call .af 186 [(kX 0),13]),
 oX 5 (.alloc [zX,zX,.nil iX]),
 uX (.store 3 5 14)])
 (.seq
 (.re [
 .m7 15 (.s6 [lX] (.k (.one (.nil iX)))),
 .op (oX 6 (.mv 15))])
 (.seq
 (.join ⟨[(4,.one (fX 500010 1)),(5,.one (rX 5)),(3,.one (rX 3))],[(3,.box [vX,vX,fX 500008 1]),(5,.box [vX,vX,fX 500009 1]),(500008,.row true .af iX),(500009,.row true .af iX),(500010,.row true .af [lX])]⟩ [1,3,5,500000,500001,500002,500003,500008,500009,500010] [(true,3,2,500008,.af,[]),(true,5,2,500009,.af,[]),(false,4,0,500010,.af,[])]
 (.block 0
 (.loop 0 ⟨[(1,.one (rX 1)),(3,.one (rX 3)),(4,.one (fX 500002 1)),(5,.one (rX 5)),(6,.one (fX 500003 1))],[(1,.box [vX,vX,.c (.v (lX)),.c (.v (.list mX)),.c (.v (lX))]),(3,.box [vX,vX,fX 500000 1]),(5,.box [vX,vX,fX 500001 1]),(500000,.row true .af iX),(500001,.row true .af iX),(500002,.row true .af [lX]),(500003,.row true .live [lX])]⟩ [1,3,15000,5,15,23,24000,35000,35,8,42000,42001,9,500000,500001,500002,500003,500004,500005,500006,500007] [(true,3,2,500000,.af,[]),(true,5,2,500001,.af,[]),(false,4,0,500002,.af,[]),(false,6,0,500003,.live,[])]
 (.seq
 (.seq
 (.ae false [
 oX 16 (.mv 6),
 oX 17 (.len 16),
 oX 18 (.bin .gtr 17 (kX 0))])
 (.cond 18
 .skip
 (.exit 0)))
 (.block 1
 (.seq
 (.ae false [
 oX 19 (.mv 6),
 oX 20 (.cH 1 19 (kX 0)),
 oX 21 (.load false 1 20),
 oX 7 (.mv 21)])
 (.seq
 (.re [
 .op (oX 22 (.mv 6)),
 .m7 23 (.pop 22 (kX 1) 7),
 .op (oX 6 (.mv 23))])
 (.seq
 (.t9 [(0,11),(1,11),(3,11),(4,11),(11,13)] [
 oX 24 (.aC 0 5),
 oX 25 (.load false 1 24),
 oX 26 (.bin .add 25 (kX 1)),
 oX 27 (.aC 1 1),
 oX 28 (.load false 1 27),
 oX 29 (.aC 2 5),
 oX 30 (.load false 1 29),
 oX 31 (.call .af 187 [30]),
 oX 32 (.load true 5 1),
 oX 33 (.mv 7),
 oX 34 (.call .af 188 [32,33]),
 oX 35 (.append true iX 8 31 34),
 oX 36 (.build [zX,zX,.nil iX] [(0,1,26),(1,1,28),(2,1,35)]),
 oX 8 (.alloc [zX,zX,.nil iX]),
 uX (.store 3 8 36)])
 (.seq
 (.ae false [
 oX 38 (.aC 0 1),
 oX 39 (.load false 1 38),
 oX 40 (.load true 3 8),
 oX 41 (.call .af 189 [39,40]),
 oX 37 (.mv 41),
 oX 42 (.ext 0 37),
 oX 43 (.ext 1 37),
 oX 9 (.alloc [zX,zX,.nil iX]),
 uX (.store 3 9 42),
 oX 10 (.mv 43)])
 (.seq
 (.seq
 (.ae false [
 oX 44 (.mv 10),
 oX 45 (.len 44),
 oX 46 (.aC 0 8),
 oX 47 (.load false 1 46),
 oX 48 (.bin .lss 45 47)])
 (.cond 48
 (.exit 1)
 .skip))
 (.seq
 (.ae false [
 oX 49 (.load true 3 8),
 uX (.store 3 5 49)])
 (.seq
 (.re [
 .op (oX 50 (.mv 4)),
 .op (oX 51 (.mv 7)),
 .m7 52 (.uE 51 7),
 .op (oX 53 (.append false [lX] 24 50 52)),
 .op (oX 4 (.mv 53))])
 (.seq
 (.ae false [
 oX 54 (.aC 3 1),
 oX 55 (.load false 1 54),
 oX 56 (.len 55),
 oX 57 (.mv (kX 0))])
 (.block 2
 (.loop 0 ⟨[(1,.one (rX 1)),(3,.one (rX 3)),(4,.one (fX 500006 1)),(5,.one (rX 5)),(6,.one (fX 500007 1)),(7,.one (.c (.v (lX)))),(56,sX),(57,sX)],[(1,.box [vX,vX,.c (.v (lX)),.c (.v (.list mX)),.c (.v (lX))]),(3,.box [vX,vX,fX 500004 1]),(5,.box [vX,vX,fX 500005 1]),(500004,.row true .af iX),(500005,.row true .af iX),(500006,.row true .af [lX]),(500007,.row true .live [lX])]⟩ [1,3,5,23,35000,35,8,42000,42001,9,53,64,67,500000,500001,500004,500005,500006,500007] [(true,3,2,500004,.af,[]),(true,5,2,500005,.af,[]),(false,4,0,500006,.af,[]),(false,6,0,500007,.live,[])]
 (.seq
 (.ae false [
 oX 58 (.bin .lss 57 56)])
 (.seq
 (.cond 58
 .skip
 (.exit 2))
 (.seq
 (.block 3
 (.seq
 (.ae false [
 oX 59 (.mv 57),
 oX 11 (.mv 59)])
 (.re [
 .op (oX 60 (.mv 6)),
 .op (oX 61 (.mv 7)),
 .op (oX 62 (.call .af 187 [61])),
 .op (oX 63 (.mv 11)),
 .op (oX 64 (.fF iX [63])),
 .op (oX 65 (.append true iX 8 62 64)),
 .m7 66 (.s6 [lX] 65),
 .op (oX 67 (.append false [lX] 24 60 66)),
 .op (oX 6 (.mv 67))])))
 (.ae false [
 oX 68 (.bin .add 57 (kX 1)),
 oX 57 (.mv 68)])))))))))))))))))))
 (.seq
 (.ae true [
 oX 69 (.mv 4),
 oX 70 (.load true 3 5),
 oX 2 (.mv 69),
 uX (.store 3 3 70)])
 .ret))))))
def Qk:List bN:=[.tmp 2,.cell 3 3 true]
theorem ai5 (NN:Nat) (x:aZ (aq.aY Hd)):dK NN [D7,zb,Nm,Nl] S1 Qk Hd RU x=GD NN x:=by kernel_rfl
theorem ag1:cC pX 78 S1.er Qk 1=true:=by decide+kernel
theorem akf:de pX 78 Nk.M/\bJ pX 78=true:=
  dV (T:=[D7,zb,Nm,Nl]) (sc:=S1) (ms:=Qk) (args:=Hd) (aB:=RU) (aO.cons ZF<|aO.cons Q9<|aO.cons akh<|aO.cons akg<|aO.nil) cV ag1 AA fun x y h=>(ai5 aM x).trans (ael x y h)
def Ng:ar:=⟨13,G5,ah5,RN,yz⟩
def SR:bE:=
 (.seq
 (.ae false [
 oX 1 (.box 5 0),
 oX 2 (.mv (.k (.one (.nil [lX]))))])
 (.seq
 (.seq
 (.ae false [
 oX 5 (.load true 5 1),
 oX 6 (.call .af 77 [5]),
 oX 7 (.un .not 6)])
 (.cond 7
 (.seq
 (.ae false [
 oX 2 (.mv (.k (.one (.nil [lX]))))])
 .ret)
 .skip))
 (.seq
 (.ae false [
 oX 9 (.load true 5 1),
 oX 10 (.call .af 78 [9]),
 oX 8 (.mv 10),
 oX 11 (.ext 0 8),
 oX 12 (.ext 1 8),
 oX 4 (.alloc [zX,zX,.nil iX]),
 oX 3 (.mv 11),
 uX (.store 3 4 12)])
 (.seq
 (.ae false [
 oX 13 (.mv 3),
 oX 2 (.mv 13)])
 .ret))))
def Qd:List bN:=[.tmp 2]
theorem aiY (NN:Nat) (x:aZ (aq.aY G5)):dK NN [Nb,Nk] SR Qd G5 RN x=Lj NN x:=by kernel_rfl
theorem agU:cC pX 13 SR.er Qd 1=true:=by decide+kernel
theorem akb:de pX 13 Ng.M/\bJ pX 13=true:=
  dV (T:=[Nb,Nk]) (sc:=SR) (ms:=Qd) (args:=G5) (aB:=RN) (aO.cons aj7<|aO.cons akf<|aO.nil) cV agU yz fun x y h=>(aiY aM x).trans (aee x y h)
def zd:ar:=⟨27,Hi,aii,R0,rA⟩
def S6:bE:=
 (.seq
 (.ae false [
 oX 4 (.mv (.k (.one (.v (.bool) (false)))))])
 (.seq
 (.seq
 (.ae false [
 oX 6 (.mv 0),
 oX 7 (.len 6),
 oX 8 (.mv 1),
 oX 9 (.len 8),
 oX 10 (.bin .neq 7 9)])
 (.cond 10
 (.seq
 (.ae false [
 oX 4 (.mv (.k (.one (.v (.bool) (false)))))])
 .ret)
 .skip))
 (.seq
 (.seq
 (.ae false [
 oX 5 (.mv (kX 0))])
 (.join ⟨[],[]⟩ [] []
 (.block 0
 (.loop 0 ⟨[(0,.one (.c (.v (lX)))),(1,.one (.c (.v (lX)))),(5,sX)],[]⟩ [] []
 (.seq
 (.seq
 (.ae false [
 oX 11 (.mv 5),
 oX 12 (.mv 0),
 oX 13 (.len 12),
 oX 14 (.bin .lss 11 13)])
 (.cond 14
 .skip
 (.exit 0)))
 (.seq
 (.block 1
 (.seq
 (.ae true [
 oX 17 (.mv 0),
 oX 18 (.mv 5),
 oX 19 (.cH 1 17 18),
 oX 20 (.load false 1 19),
 oX 21 (.mv 1),
 oX 22 (.mv 5),
 oX 23 (.cH 1 21 22),
 oX 24 (.load false 1 23),
 oX 25 (.bin .neq 20 24)])
 (.cond 25
 (.seq
 (.ae false [
 oX 4 (.mv (.k (.one (.v (.bool) (false)))))])
 .ret)
 .skip)))
 (.ae false [
 oX 15 (.mv 5),
 oX 16 (.bin .add 15 (kX 1)),
 oX 5 (.mv 16)])))))))
 (.seq
 (.ae false [
 oX 4 (.mv (.k (.one (.v (.bool) (true)))))])
 .ret))))
def Qp:List bN:=[.tmp 4]
theorem aja (NN:Nat) (x:aZ (aq.aY Hi)):dK NN [] S6 Qp Hi R0 x=U2 NN x:=by kernel_rfl
theorem ag6:cC pX 27 S6.er Qp 2=true:=by decide+kernel
theorem Ra:de pX 27 zd.M/\bJ pX 27=true:=
  dV (T:=[]) (sc:=S6) (ms:=Qp) (args:=Hi) (aB:=R0) (aO.nil) cV ag6 rA fun x y h=>(aja aM x).trans (aeq x y h)
def Np:ar:=⟨14,Hj,aij,R1,sL⟩
def S7:bE:=
 (.seq
 (.ae false [
 oX 4 (.mv (.k (.one (.v (.bool) (false)))))])
 (.seq
 (.seq
 (.ae false [
 oX 6 (.mv 0),
 oX 7 (.len 6),
 oX 8 (.mv 1),
 oX 9 (.len 8),
 oX 10 (.bin .neq 7 9)])
 (.cond 10
 (.seq
 (.ae false [
 oX 4 (.mv (.k (.one (.v (.bool) (false)))))])
 .ret)
 .skip))
 (.seq
 (.seq
 (.ae false [
 oX 5 (.mv (kX 0))])
 (.join ⟨[],[]⟩ [] []
 (.block 0
 (.loop 0 ⟨[(0,.one (.c (.v (.list [lX])))),(1,.one (.c (.v (.list [lX])))),(5,sX)],[]⟩ [] []
 (.seq
 (.seq
 (.ae false [
 oX 11 (.mv 5),
 oX 12 (.mv 0),
 oX 13 (.len 12),
 oX 14 (.bin .lss 11 13)])
 (.cond 14
 .skip
 (.exit 0)))
 (.seq
 (.block 1
 (.seq
 (.ae true [
 oX 17 (.mv 0),
 oX 18 (.mv 5),
 oX 19 (.cH 1 17 18),
 oX 20 (.load false 1 19),
 oX 21 (.mv 1),
 oX 22 (.mv 5),
 oX 23 (.cH 1 21 22),
 oX 24 (.load false 1 23),
 oX 25 (.call .af 27 [20,24]),
 oX 26 (.un .not 25)])
 (.cond 26
 (.seq
 (.ae false [
 oX 4 (.mv (.k (.one (.v (.bool) (false)))))])
 .ret)
 .skip)))
 (.ae false [
 oX 15 (.mv 5),
 oX 16 (.bin .add 15 (kX 1)),
 oX 5 (.mv 16)])))))))
 (.seq
 (.ae false [
 oX 4 (.mv (.k (.one (.v (.bool) (true)))))])
 .ret))))
def Qq:List bN:=[.tmp 4]
theorem ajb (NN:Nat) (x:aZ (aq.aY Hj)):dK NN [zd] S7 Qq Hj R1 x=U3 NN x:=by kernel_rfl
theorem ag7:cC pX 14 S7.er Qq 2=true:=by decide+kernel
theorem akk:de pX 14 Np.M/\bJ pX 14=true:=
  dV (T:=[zd]) (sc:=S7) (ms:=Qq) (args:=Hj) (aB:=R1) (aO.cons Ra<|aO.nil) cV ag7 sL fun x y h=>(ajb aM x).trans (aer x y h)
def Nq:ar:=⟨190,Hk,aik,R3,AD⟩
def S8:bE:=
 (.seq
 (.ae false [
 oX 2 (.box 3 0),
 oX 3 (.box 3 1),
 oX 4 (.mv (.k (.one (.v (.bool) (false)))))])
 (.seq
 (.seq
 (.ae false [
 oX 5 (.aC 0 2),
 oX 6 (.load false 1 5),
 oX 7 (.aC 0 3),
 oX 8 (.load false 1 7),
 oX 9 (.bin .neq 6 8)])
 (.cond 9
 (.seq
 (.ae false [
 oX 4 (.mv (.k (.one (.v (.bool) (false)))))])
 .ret)
 .skip))
 (.seq
 (.seq
 (.ae false [
 oX 10 (.aC 1 2),
 oX 11 (.load false 1 10),
 oX 12 (.aC 1 3),
 oX 13 (.load false 1 12),
 oX 14 (.bin .neq 11 13)])
 (.cond 14
 (.seq
 (.ae false [
 oX 4 (.mv (.k (.one (.v (.bool) (false)))))])
 .ret)
 .skip))
 (.seq
 (.seq
 (.ae false [
 oX 15 (.aC 2 2),
 oX 16 (.load false 1 15),
 oX 17 (.aC 2 3),
 oX 18 (.load false 1 17),
 oX 19 (.call .af 27 [16,18]),
 oX 20 (.un .not 19)])
 (.cond 20
 (.seq
 (.ae false [
 oX 4 (.mv (.k (.one (.v (.bool) (false)))))])
 .ret)
 .skip))
 (.seq
 (.ae false [
 oX 4 (.mv (.k (.one (.v (.bool) (true)))))])
 .ret)))))
def Qr:List bN:=[.tmp 4]
theorem ajc (NN:Nat) (x:aZ (aq.aY Hk)):dK NN [zd] S8 Qr Hk R3 x=Lq NN x:=by kernel_rfl
theorem ag8:cC pX 190 S8.er Qr 2=true:=by decide+kernel
theorem akl:de pX 190 Nq.M/\bJ pX 190=true:=
  dV (T:=[zd]) (sc:=S8) (ms:=Qr) (args:=Hk) (aB:=R3) (aO.cons Ra<|aO.nil) cV ag8 AD fun x y h=>(ajc aM x).trans (aes x y h)
def Nr:ar:=⟨79,Hl,ail,R4,AE⟩
def S9:bE:=
 (.seq
 (.ae false [
 oX 4 (.mv (.k (.one (.v (.bool) (false)))))])
 (.seq
 (.seq
 (.ae false [
 oX 6 (.mv 0),
 oX 7 (.len 6),
 oX 8 (.mv 1),
 oX 9 (.len 8),
 oX 10 (.bin .neq 7 9)])
 (.cond 10
 (.seq
 (.ae false [
 oX 4 (.mv (.k (.one (.v (.bool) (false)))))])
 .ret)
 .skip))
 (.seq
 (.seq
 (.ae false [
 oX 5 (.mv (kX 0))])
 (.join ⟨[],[]⟩ [] []
 (.block 0
 (.loop 0 ⟨[(0,.one (.c (.v (.list mX)))),(1,.one (.c (.v (.list mX)))),(5,sX)],[]⟩ [] []
 (.seq
 (.seq
 (.ae false [
 oX 11 (.mv 5),
 oX 12 (.mv 0),
 oX 13 (.len 12),
 oX 14 (.bin .lss 11 13)])
 (.cond 14
 .skip
 (.exit 0)))
 (.seq
 (.block 1
 (.seq
 (.ae true [
 oX 17 (.mv 0),
 oX 18 (.mv 5),
 oX 19 (.cH 3 17 18),
 oX 20 (.load true 3 19),
 oX 21 (.mv 1),
 oX 22 (.mv 5),
 oX 23 (.cH 3 21 22),
 oX 24 (.load true 3 23),
 oX 25 (.call .af 190 [20,24]),
 oX 26 (.un .not 25)])
 (.cond 26
 (.seq
 (.ae false [
 oX 4 (.mv (.k (.one (.v (.bool) (false)))))])
 .ret)
 .skip)))
 (.ae false [
 oX 15 (.mv 5),
 oX 16 (.bin .add 15 (kX 1)),
 oX 5 (.mv 16)])))))))
 (.seq
 (.ae false [
 oX 4 (.mv (.k (.one (.v (.bool) (true)))))])
 .ret))))
def Qs:List bN:=[.tmp 4]
theorem ajd (NN:Nat) (x:aZ (aq.aY Hl)):dK NN [Nq] S9 Qs Hl R4 x=U4 NN x:=by kernel_rfl
theorem ag9:cC pX 79 S9.er Qs 2=true:=by decide+kernel
theorem akm:de pX 79 Nr.M/\bJ pX 79=true:=
  dV (T:=[Nq]) (sc:=S9) (ms:=Qs) (args:=Hl) (aB:=R4) (aO.cons akl<|aO.nil) cV ag9 AE fun x y h=>(ajd aM x).trans (aet x y h)
def Nn:ar:=⟨15,Hh,aih,RZ,wB⟩
def S5:bE:=
 (.seq
 (.ae false [
 oX 2 (.box 5 0),
 oX 3 (.box 5 1),
 oX 4 (.mv (.k (.one (.v (.bool) (false)))))])
 (.seq
 (.seq
 (.ae false [
 oX 5 (.aC 0 2),
 oX 6 (.load false 1 5),
 oX 7 (.aC 0 3),
 oX 8 (.load false 1 7),
 oX 9 (.bin .neq 6 8)])
 (.cond 9
 (.seq
 (.ae false [
 oX 4 (.mv (.k (.one (.v (.bool) (false)))))])
 .ret)
 .skip))
 (.seq
 (.seq
 (.ae false [
 oX 10 (.aC 1 2),
 oX 11 (.load false 1 10),
 oX 12 (.aC 1 3),
 oX 13 (.load false 1 12),
 oX 14 (.bin .neq 11 13)])
 (.cond 14
 (.seq
 (.ae false [
 oX 4 (.mv (.k (.one (.v (.bool) (false)))))])
 .ret)
 .skip))
 (.seq
 (.seq
 (.ae false [
 oX 15 (.aC 2 2),
 oX 16 (.load false 1 15),
 oX 17 (.aC 2 3),
 oX 18 (.load false 1 17),
 oX 19 (.call .af 27 [16,18]),
 oX 20 (.un .not 19)])
 (.cond 20
 (.seq
 (.ae false [
 oX 4 (.mv (.k (.one (.v (.bool) (false)))))])
 .ret)
 .skip))
 (.seq
 (.seq
 (.ae false [
 oX 21 (.aC 3 2),
 oX 22 (.load false 1 21),
 oX 23 (.aC 3 3),
 oX 24 (.load false 1 23),
 oX 25 (.call .af 79 [22,24]),
 oX 26 (.un .not 25)])
 (.cond 26
 (.seq
 (.ae false [
 oX 4 (.mv (.k (.one (.v (.bool) (false)))))])
 .ret)
 .skip))
 (.seq
 (.seq
 (.ae false [
 oX 27 (.aC 4 2),
 oX 28 (.load false 1 27),
 oX 29 (.aC 4 3),
 oX 30 (.load false 1 29),
 oX 31 (.call .af 27 [28,30]),
 oX 32 (.un .not 31)])
 (.cond 32
 (.seq
 (.ae false [
 oX 4 (.mv (.k (.one (.v (.bool) (false)))))])
 .ret)
 .skip))
 (.seq
 (.ae false [
 oX 4 (.mv (.k (.one (.v (.bool) (true)))))])
 .ret)))))))
def Qo:List bN:=[.tmp 4]
theorem ai9 (NN:Nat) (x:aZ (aq.aY Hh)):dK NN [zd,Nr] S5 Qo Hh RZ x=Lp NN x:=by kernel_rfl
theorem ag5:cC pX 15 S5.er Qo 2=true:=by decide+kernel
theorem akj:de pX 15 Nn.M/\bJ pX 15=true:=
  dV (T:=[zd,Nr]) (sc:=S5) (ms:=Qo) (args:=Hh) (aB:=RZ) (aO.cons Ra<|aO.cons akm<|aO.nil) cV ag5 wB fun x y h=>(ai9 aM x).trans (aep x y h)
def ze:ar:=⟨29,Hq,JN,R8,qc⟩
def Td:bE:=
 (.seq
 (.ae false [
 oX 4 (.mv (kX 0))])
 (.seq
 (.seq
 (.ae false [
 oX 5 (.mv (kX 0))])
 (.join ⟨[(1,sX)],[(1000000,.row false .af iX)]⟩ [1000000] []
 (.block 0
 (.loop 0 ⟨[(0,.one (fX 1000000 1)),(1,sX),(5,sX)],[(1000000,.row false .af iX)]⟩ [1000000,500000] [(false,0,0,500000,.af,[])]
 (.seq
 (.seq
 (.ae false [
 oX 6 (.mv 5),
 oX 7 (.mv 0),
 oX 8 (.len 7),
 oX 9 (.bin .lss 6 8)])
 (.cond 9
 .skip
 (.exit 0)))
 (.seq
 (.block 1
 (.seq
 (.ae false [
 oX 12 (.mv 0),
 oX 13 (.mv 5),
 oX 14 (.mv 1),
 oX 15 (.cH 1 12 13),
 uX (.store 1 15 14)])
 (.ae false [
 oX 16 (.mv 1),
 oX 17 (.bin .add 16 (kX 1)),
 oX 1 (.mv 17)])))
 (.ae false [
 oX 10 (.mv 5),
 oX 11 (.bin .add 10 (kX 1)),
 oX 5 (.mv 11)])))))))
 (.seq
 (.ae false [
 oX 18 (.mv 1),
 oX 4 (.mv 18)])
 .ret)))
def Qw:List bN:=[.tmp 4]
theorem ajh (NN:Nat) (x:aZ (aq.aY Hq)):sx NN [] Td Qw Hq JN R8 x=Lu NN x:=by kernel_rfl
theorem ahd:cC pX 29 Td.er Qw 2=true:=by decide+kernel
theorem Rb:nQ pX 29 JN ze.MM/\bJ pX 29=true:=
  vR (T:=[]) (sc:=Td) (ms:=Qw) (args:=Hq) (mu:=JN) (aB:=R8) (aO.nil) cV ahd qc fun x y h=>(ajh aM x).trans (aex x y h)
def Nw:ar:=⟨80,Hs,JP,Sa,AJ⟩
def Tf:bE:=
 (.seq
 (.ae false [
 oX 4 (.mv (kX 0))])
 (.seq
 (.seq
 (.ae false [
 oX 5 (.mv (kX 0))])
 (.join ⟨[(1,sX)],[(1000000,.row false .live mX)]⟩ [1000000] []
 (.block 0
 (.loop 0 ⟨[(0,.one (fX 1000000 3)),(1,sX),(5,sX)],[(1000000,.row false .live mX)]⟩ [1000000,500000] [(false,0,0,500000,.live,[])]
 (.seq
 (.seq
 (.ae false [
 oX 6 (.mv 5),
 oX 7 (.mv 0),
 oX 8 (.len 7),
 oX 9 (.bin .lss 6 8)])
 (.cond 9
 .skip
 (.exit 0)))
 (.seq
 (.block 1
 (.seq
 (.ae false [
 oX 12 (.mv 0),
 oX 13 (.mv 5),
 oX 14 (.mv 1),
 oX 15 (.cH 3 12 13),
 oX 16 (.aC 0 15),
 uX (.store 1 16 14)])
 (.seq
 (.ae false [
 oX 17 (.mv 1),
 oX 18 (.bin .add 17 (kX 1)),
 oX 1 (.mv 18)])
 (.seq
 (.ae false [
 oX 19 (.mv 0),
 oX 20 (.mv 5),
 oX 21 (.mv 1),
 oX 22 (.cH 3 19 20),
 oX 23 (.aC 1 22),
 uX (.store 1 23 21)])
 (.seq
 (.ae false [
 oX 24 (.mv 1),
 oX 25 (.bin .add 24 (kX 1)),
 oX 1 (.mv 25)])
 (.ae false [
 oX 26 (.mv 0),
 oX 27 (.mv 5),
 oX 28 (.cH 3 26 27),
 oX 29 (.aC 2 28),
 oX 30 (.load false 1 29),
 oX 31 (.mv 1),
 oX 32 (.fN .af 29 [30,31]),
 oX 1 (.mv 32)]))))))
 (.ae false [
 oX 10 (.mv 5),
 oX 11 (.bin .add 10 (kX 1)),
 oX 5 (.mv 11)])))))))
 (.seq
 (.ae false [
 oX 33 (.mv 1),
 oX 4 (.mv 33)])
 .ret)))
def Qy:List bN:=[.tmp 4]
theorem ajj (NN:Nat) (x:aZ (aq.aY Hs)):sx NN [ze] Tf Qy Hs JP Sa x=Lw NN x:=by kernel_rfl
theorem ahf:cC pX 80 Tf.er Qy 2=true:=by decide+kernel
theorem akr:nQ pX 80 JP Nw.MM/\bJ pX 80=true:=
  vR (T:=[ze]) (sc:=Tf) (ms:=Qy) (args:=Hs) (mu:=JP) (aB:=Sa) (aO.n4 Rb<|aO.nil) cV ahf AJ fun x y h=>(ajj aM x).trans (aez x y h)
def Nu:ar:=⟨16,Hp,JM,R7,AG⟩
def Tc:bE:=
 (.seq
 (.ae false [
 oX 2 (.box 5 0),
 oX 4 (.mv (kX 0))])
 (.seq
 (.ae false [
 oX 5 (.aC 2 2),
 oX 6 (.load false 1 5),
 oX 7 (.mv 1),
 oX 8 (.fN .live 29 [6,7]),
 oX 1 (.mv 8)])
 (.seq
 (.ae false [
 oX 9 (.aC 3 2),
 oX 10 (.load false 1 9),
 oX 11 (.mv 1),
 oX 12 (.fN .live 80 [10,11]),
 oX 1 (.mv 12)])
 (.seq
 (.ae false [
 oX 13 (.aC 4 2),
 oX 14 (.load false 1 13),
 oX 15 (.mv 1),
 oX 16 (.fN .live 29 [14,15]),
 oX 1 (.mv 16)])
 (.seq
 (.ae false [
 oX 17 (.mv 1),
 oX 4 (.mv 17)])
 .ret)))))
def Qv:List bN:=[.tmp 4]
theorem ajg (NN:Nat) (x:aZ (aq.aY Hp)):sx NN [ze,Nw] Tc Qv Hp JM R7 x=Lt NN x:=by kernel_rfl
theorem ahc:cC pX 16 Tc.er Qv 2=true:=by decide+kernel
theorem akp:nQ pX 16 JM Nu.MM/\bJ pX 16=true:=
  vR (T:=[ze,Nw]) (sc:=Tc) (ms:=Qv) (args:=Hp) (mu:=JM) (aB:=R7) (aO.n4 Rb<|aO.n4 akr<|aO.nil) cV ahc AG fun x y h=>(ajg aM x).trans (aew x y h)
def Nv:ar:=⟨17,Hr,JO,R9,AH⟩
def Te:bE:=
 (.seq
 (.ae false [
 oX 4 (.mv (kX 0))])
 (.seq
 (.seq
 (.ae false [
 oX 5 (.mv (kX 0))])
 (.join ⟨[(1,sX)],[(1000000,.row false .live [lX])]⟩ [1000000] []
 (.block 0
 (.loop 0 ⟨[(0,.one (fX 1000000 1)),(1,sX),(5,sX)],[(1000000,.row false .live [lX])]⟩ [1000000,500000] [(false,0,0,500000,.live,[])]
 (.seq
 (.seq
 (.ae false [
 oX 6 (.mv 5),
 oX 7 (.mv 0),
 oX 8 (.len 7),
 oX 9 (.bin .lss 6 8)])
 (.cond 9
 .skip
 (.exit 0)))
 (.seq
 (.block 1
 (.ae false [
 oX 12 (.mv 0),
 oX 13 (.mv 5),
 oX 14 (.cH 1 12 13),
 oX 15 (.load false 1 14),
 oX 16 (.mv 1),
 oX 17 (.fN .af 29 [15,16]),
 oX 1 (.mv 17)]))
 (.ae false [
 oX 10 (.mv 5),
 oX 11 (.bin .add 10 (kX 1)),
 oX 5 (.mv 11)])))))))
 (.seq
 (.ae false [
 oX 18 (.mv 1),
 oX 4 (.mv 18)])
 .ret)))
def Qx:List bN:=[.tmp 4]
theorem aji (NN:Nat) (x:aZ (aq.aY Hr)):sx NN [ze] Te Qx Hr JO R9 x=Lv NN x:=by kernel_rfl
theorem ahe:cC pX 17 Te.er Qx 2=true:=by decide+kernel
theorem akq:nQ pX 17 JO Nv.MM/\bJ pX 17=true:=
  vR (T:=[ze]) (sc:=Te) (ms:=Qx) (args:=Hr) (mu:=JO) (aB:=R9) (aO.n4 Rb<|aO.nil) cV ahe AH fun x y h=>(aji aM x).trans (aey x y h)
def Ns:ar:=⟨81,Hm,aim,R5,AF⟩
def Ta:bE:=
 (.seq
 (.ae false [
 oX 4 (.mv (kX 0))])
 (.seq
 (.seq
 (.ae false [
 oX 5 (.mv (kX 0))])
 (.join ⟨[(1,sX)],[]⟩ [] []
 (.block 0
 (.loop 0 ⟨[(0,.one (.c (.v (lX)))),(1,sX),(5,sX)],[]⟩ [] []
 (.seq
 (.seq
 (.ae false [
 oX 6 (.mv 5),
 oX 7 (.mv 0),
 oX 8 (.len 7),
 oX 9 (.bin .lss 6 8)])
 (.cond 9
 .skip
 (.exit 0)))
 (.seq
 (.block 1
 (.seq
 (.seq
 (.ae false [
 oX 12 (.mv 0),
 oX 13 (.mv 5),
 oX 14 (.cH 1 12 13),
 oX 15 (.load false 1 14),
 oX 16 (.mv 1),
 oX 17 (.bin .neq 15 16)])
 (.cond 17
 (.seq
 (.ae false [
 oX 4 (.mv (kX (-1)))])
 .ret)
 .skip))
 (.ae false [
 oX 18 (.mv 1),
 oX 19 (.bin .add 18 (kX 1)),
 oX 1 (.mv 19)])))
 (.ae false [
 oX 10 (.mv 5),
 oX 11 (.bin .add 10 (kX 1)),
 oX 5 (.mv 11)])))))))
 (.seq
 (.ae false [
 oX 20 (.mv 1),
 oX 4 (.mv 20)])
 .ret)))
def Qt:List bN:=[.tmp 4]
theorem aje (NN:Nat) (x:aZ (aq.aY Hm)):dK NN [] Ta Qt Hm R5 x=Lr NN x:=by kernel_rfl
theorem aha:cC pX 81 Ta.er Qt 2=true:=by decide+kernel
theorem akn:de pX 81 Ns.M/\bJ pX 81=true:=
  dV (T:=[]) (sc:=Ta) (ms:=Qt) (args:=Hm) (aB:=R5) (aO.nil) cV aha AF fun x y h=>(aje aM x).trans (aeu x y h)
def Nt:ar:=⟨18,Ho,ain,R6,ul⟩
def Tb:bE:=
 (.seq
 (.ae false [
 oX 4 (.mv (kX 0))])
 (.seq
 (.seq
 (.ae false [
 oX 5 (.mv (kX 0))])
 (.join ⟨[(1,sX)],[]⟩ [] []
 (.block 0
 (.loop 0 ⟨[(0,.one (.c (.v (.list [lX])))),(1,sX),(5,sX)],[]⟩ [] []
 (.seq
 (.seq
 (.ae false [
 oX 6 (.mv 5),
 oX 7 (.mv 0),
 oX 8 (.len 7),
 oX 9 (.bin .lss 6 8)])
 (.cond 9
 .skip
 (.exit 0)))
 (.seq
 (.block 1
 (.seq
 (.ae false [
 oX 12 (.mv 0),
 oX 13 (.mv 5),
 oX 14 (.cH 1 12 13),
 oX 15 (.load false 1 14),
 oX 16 (.mv 1),
 oX 17 (.call .af 81 [15,16]),
 oX 1 (.mv 17)])
 (.seq
 (.ae false [
 oX 18 (.mv 1),
 oX 19 (.bin .lss 18 (kX 0))])
 (.cond 19
 (.seq
 (.ae false [
 oX 4 (.mv (kX (-1)))])
 .ret)
 .skip))))
 (.ae false [
 oX 10 (.mv 5),
 oX 11 (.bin .add 10 (kX 1)),
 oX 5 (.mv 11)])))))))
 (.seq
 (.ae false [
 oX 20 (.mv 1),
 oX 4 (.mv 20)])
 .ret)))
def Qu:List bN:=[.tmp 4]
theorem ajf (NN:Nat) (x:aZ (aq.aY Ho)):dK NN [Ns] Tb Qu Ho R6 x=Ls NN x:=by kernel_rfl
theorem ahb:cC pX 18 Tb.er Qu 2=true:=by decide+kernel
theorem ako:de pX 18 Nt.M/\bJ pX 18=true:=
  dV (T:=[Ns]) (sc:=Tb) (ms:=Qu) (args:=Ho) (aB:=R6) (aO.cons akn<|aO.nil) cV ahb ul fun x y h=>(ajf aM x).trans (aev x y h)
def IH:ar:=⟨3,wI,aif,RY,Gw⟩
def S4:bE:=
 (.seq
 (.ae false [
 oX 1 (.box 5 0),
 oX 2 (.mv (.k (.one (.v (.bool) (false)))))])
 (.seq
 (.ae false [
 oX 3 (.mv (kX 1048576))])
 (.seq
 (.ae false [
 oX 11 (.load true 5 1),
 oX 12 (.mv 3),
 oX 13 (.call .live 10 [11,12]),
 oX 3 (.mv 13)])
 (.seq
 (.seq
 (.ae false [
 oX 14 (.mv 3),
 oX 15 (.bin .lss 14 (kX 0))])
 (.cond 15
 (.seq
 (.ae false [
 oX 2 (.mv (.k (.one (.v (.bool) (true)))))])
 .ret)
 .skip))
 (.seq
 (.ae false [
 oX 16 (.load true 5 1),
 oX 17 (.call .live 12 [16]),
 oX 18 (.iA 11 [17]),
 oX 4 (.mv 18)])
 (.seq
 (.ae false [
 oX 19 (.load true 5 1),
 oX 20 (.call .live 12 [19]),
 oX 5 (.alloc [zX,zX,.nil iX,.nil mX,.nil iX]),
 uX (.store 5 5 20)])
 (.seq
 (.ae false [
 oX 21 (.load true 5 5),
 oX 22 (.call .live 13 [21]),
 oX 6 (.mv 22)])
 (.seq
 (.seq
 (.ae false [
 oX 23 (.mv 6),
 oX 24 (.mv 4),
 oX 25 (.call .live 14 [23,24]),
 oX 26 (.un .not 25)])
 (.cond 26
 (.seq
 (.ae false [
 oX 2 (.mv (.k (.one (.v (.bool) (false)))))])
 .ret)
 .skip))
 (.seq
 (.seq
 (.ae true [
 oX 27 (.load true 5 5),
 oX 28 (.load true 5 1),
 oX 29 (.call .live 12 [28]),
 oX 30 (.call .live 15 [27,29]),
 oX 31 (.un .not 30)])
 (.cond 31
 (.seq
 (.ae false [
 oX 2 (.mv (.k (.one (.v (.bool) (false)))))])
 .ret)
 .skip))
 (.seq
 (.ae false [
 oX 7 (.mv (kX 1))])
 (.seq
 (.ae false [
 oX 32 (.load true 5 5),
 oX 33 (.mv 7),
 oX 34 (.fN .live 16 [32,33]),
 oX 7 (.mv 34)])
 (.seq
 (.seq
 (.ae false [
 oX 35 (.mv 7),
 oX 36 (.bin .lss 35 (kX 0)),
 oX 37 (.mv 36),
 ⟨(some 38),.mv 6,(some (37,false))⟩,
 ⟨(some 39),.mv 4,(some (37,false))⟩,
 ⟨(some 40),.call .live 14 [38,39],(some (37,false))⟩,
 ⟨(some 41),.un .not 40,(some (37,false))⟩,
 oX 42 (.pick 37 (.k (.one (.v (.bool) (true)))) 41)])
 (.cond 42
 (.seq
 (.ae false [
 oX 2 (.mv (.k (.one (.v (.bool) (false)))))])
 .ret)
 .skip))
 (.seq
 (.ae false [
 oX 8 (.mv (kX 1))])
 (.seq
 (.ae false [
 oX 43 (.mv 6),
 oX 44 (.mv 8),
 oX 45 (.fN .live 17 [43,44]),
 oX 8 (.mv 45)])
 (.seq
 (.ae false [
 oX 9 (.mv (kX 1))])
 (.seq
 (.ae false [
 oX 46 (.mv 6),
 oX 47 (.mv 9),
 oX 48 (.call .live 18 [46,47]),
 oX 9 (.mv 48)])
 (.seq
 (.seq
 (.ae false [
 oX 49 (.mv 9),
 oX 50 (.bin .lss 49 (kX 0))])
 (.cond 50
 (.seq
 (.ae false [
 oX 2 (.mv (.k (.one (.v (.bool) (false)))))])
 .ret)
 .skip))
 (.seq
 (.seq
 (.ae false [
 oX 51 (.mv 9),
 oX 52 (.mv 8),
 oX 53 (.bin .neq 51 52)])
 (.cond 53
 (.seq
 (.ae false [
 oX 2 (.mv (.k (.one (.v (.bool) (false)))))])
 .ret)
 .skip))
 (.seq
 (.ae false [
 oX 54 (.load true 5 1),
 oX 55 (.call .live 12 [54]),
 oX 56 (.call .live 13 [55]),
 oX 10 (.mv 56)])
 (.seq
 (.seq
 (.ae false [
 oX 57 (.mv 10),
 oX 58 (.mv 4),
 oX 59 (.call .live 14 [57,58]),
 oX 60 (.un .not 59)])
 (.cond 60
 (.seq
 (.ae false [
 oX 2 (.mv (.k (.one (.v (.bool) (false)))))])
 .ret)
 .skip))
 (.seq
 (.ae false [
 oX 9 (.mv (kX 1))])
 (.seq
 (.ae false [
 oX 61 (.mv 6),
 oX 62 (.mv 9),
 oX 63 (.call .live 18 [61,62]),
 oX 9 (.mv 63)])
 (.seq
 (.seq
 (.ae false [
 oX 64 (.mv 9),
 oX 65 (.bin .lss 64 (kX 0))])
 (.cond 65
 (.seq
 (.ae false [
 oX 2 (.mv (.k (.one (.v (.bool) (false)))))])
 .ret)
 .skip))
 (.seq
 (.seq
 (.ae false [
 oX 66 (.mv 9),
 oX 67 (.mv 8),
 oX 68 (.bin .neq 66 67)])
 (.cond 68
 (.seq
 (.ae false [
 oX 2 (.mv (.k (.one (.v (.bool) (false)))))])
 .ret)
 .skip))
 (.seq
 (.ae false [
 oX 2 (.mv (.k (.one (.v (.bool) (true)))))])
 .ret)))))))))))))))))))))))))
def Qn:List bN:=[.tmp 2]
theorem ai8 (NN:Nat) (x:aZ (aq.aY wI)):dK NN [Ny,NB,NG,Ng,Np,Nn,Nu,Nv,Nt] S4 Qn wI RY x=Lo NN x:=by kernel_rfl
theorem ag4:cC pX 3 S4.er Qn 1=true:=by decide+kernel
theorem aki:de pX 3 IH.M/\bJ pX 3=true:=
  dV (T:=[Ny,NB,NG,Ng,Np,Nn,Nu,Nv,Nt]) (sc:=S4) (ms:=Qn) (args:=wI) (aB:=RY) (aO.cons aks<|aO.cons akv<|aO.VW akA<|aO.cons akb<|aO.cons akk<|aO.cons akj<|aO.n4 akp<|aO.n4 akq<|aO.cons ako<|aO.nil) cV ag4 Gw fun x y h=>(ai8 aM x).trans (aeo x y h)
end Go.Am
