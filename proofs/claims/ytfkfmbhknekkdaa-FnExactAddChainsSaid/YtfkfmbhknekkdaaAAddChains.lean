/- A_AddChains: the code of the functions of FnExactAddChains. No condition. -/
import Derived.Test.YtfkfmbhknekkdaaLAddChains
import Derived.Test.YtfkfmbhknekkdaaBr2
import Derived.KernelRfl
import Derived.Test.YtfkfmbhknekkdaaRows
set_option linter.unusedVariables false
set_option maxRecDepth 100000
namespace Go.Am
theorem dV:Go.Proofs.Try.prog.follows .mixedOrders=true:=by decide+kernel
noncomputable abbrev pX:=Go.Proofs.Try.prog
def oX (n:Nat) (x:cj):eJ:=⟨some n,x,none⟩
def uX (x:cj):eJ:=⟨none,x,none⟩
def kX (n:Int):bZ:=.k (.one (.v (.int .i64) n))
def sX:g7:=.one (.c (.v (.int .i64)))
def iX:List Ty:=[.int .i64]
def lX:Ty:=.list iX
def gX:List Ty:=[.int .i64,.int .i64,.int .i64,lX]
def zX:SC:=.v (.int .i64) (0:Int)
def vX:dE:=.c (.v (.int .i64))
def fX (n k:Nat):dE:=.c (.full n k)
def rX (n:Nat):dE:=.c (.CG n 0)
instance tX (n:Nat):OfNat bZ n:=⟨.t n⟩
def J1:ar:=⟨86,DV,ahb,On,xK⟩
def Pf:cg:=
 (.seq
 (.af false [
 oX 4 (.mv (kX 0))])
 (.seq
 (.af false [
 oX 5 (.mv 1),
 oX 6 (.mv 0),
 oX 7 (.len 6),
 oX 8 (.bin .sub 5 7),
 oX 1 (.mv 8)])
 (.seq
 (.seq
 (.af false [
 oX 9 (.mv 1),
 oX 10 (.bin .lss 9 (kX 0))])
 (.cond 10
 (.seq
 (.af false [
 oX 4 (.mv (kX (-1)))])
 .ret)
 .skip))
 (.seq
 (.af false [
 oX 11 (.mv 1),
 oX 4 (.mv 11)])
 .ret))))
def Nf:List cD:=[.tmp 4]
theorem ahP (NN:Nat) (x:bA (ax.bz DV)):eD NN [] Pf Nf DV On x=Ii NN x:=by kernel_rfl
theorem afM:dz pX 86 Pf.er Nf 2=true:=by decide+kernel
theorem aiQ:dO pX 86 J1.M/\ca pX 86=true:=
  eR (T:=[]) (sc:=Pf) (ms:=Nf) (args:=DV) (aG:=On) (bn.nil) dV afM xK fun x y h=>(ahP bh x).trans (acj x y h)
def J2:ar:=⟨56,DW,ahc,Oo,xL⟩
def Pg:cg:=
 (.seq
 (.af false [
 oX 2 (.box 4 0),
 oX 4 (.mv (kX 0))])
 (.seq
 (.af false [
 oX 5 (.aB 3 2),
 oX 6 (.load false 1 5),
 oX 7 (.mv 1),
 oX 8 (.call .aj 86 [6,7]),
 oX 1 (.mv 8)])
 (.seq
 (.seq
 (.af false [
 oX 9 (.mv 1),
 oX 10 (.bin .lss 9 (kX 0))])
 (.cond 10
 (.seq
 (.af false [
 oX 4 (.mv (kX (-1)))])
 .ret)
 .skip))
 (.seq
 (.af false [
 oX 11 (.mv 1),
 oX 4 (.mv 11)])
 .ret))))
def Ng:List cD:=[.tmp 4]
theorem ahQ (NN:Nat) (x:bA (ax.bz DW)):eD NN [J1] Pg Ng DW Oo x=Ij NN x:=by kernel_rfl
theorem afN:dz pX 56 Pg.er Ng 2=true:=by decide+kernel
theorem aiR:dO pX 56 J2.M/\ca pX 56=true:=
  eR (T:=[J1]) (sc:=Pg) (ms:=Ng) (args:=DW) (aG:=Oo) (bn.cons aiQ<|bn.nil) dV afN xL fun x y h=>(ahQ bh x).trans (ack x y h)
def J3:ar:=⟨21,DX,ahd,Oq,xN⟩
def Ph:cg:=
 (.seq
 (.af false [
 oX 4 (.mv (kX 0))])
 (.seq
 (.af false [
 oX 6 (.mv 1),
 oX 7 (.mv 0),
 oX 8 (.len 7),
 oX 9 (.bin .sub 6 8),
 oX 1 (.mv 9)])
 (.seq
 (.seq
 (.af false [
 oX 10 (.mv 1),
 oX 11 (.bin .lss 10 (kX 0))])
 (.cond 11
 (.seq
 (.af false [
 oX 4 (.mv (kX (-1)))])
 .ret)
 .skip))
 (.seq
 (.seq
 (.af false [
 oX 5 (.mv (kX 0))])
 (.join ⟨[(1,sX)],[]⟩ [] []
 (.block 0
 (.loop 0 ⟨[(0,.one (.c (.v (.list gX)))),(1,sX),(5,sX)],[]⟩ [] []
 (.seq
 (.seq
 (.af false [
 oX 12 (.mv 5),
 oX 13 (.mv 0),
 oX 14 (.len 13),
 oX 15 (.bin .lss 12 14)])
 (.cond 15
 .skip
 (.exit 0)))
 (.seq
 (.block 1
 (.seq
 (.af false [
 oX 18 (.mv 0),
 oX 19 (.mv 5),
 oX 20 (.cR 4 18 19),
 oX 21 (.load true 4 20),
 oX 22 (.mv 1),
 oX 23 (.call .aj 56 [21,22]),
 oX 1 (.mv 23)])
 (.seq
 (.af false [
 oX 24 (.mv 1),
 oX 25 (.bin .lss 24 (kX 0))])
 (.cond 25
 (.seq
 (.af false [
 oX 4 (.mv (kX (-1)))])
 .ret)
 .skip))))
 (.af false [
 oX 16 (.mv 5),
 oX 17 (.bin .add 16 (kX 1)),
 oX 5 (.mv 17)])))))))
 (.seq
 (.af false [
 oX 26 (.mv 1),
 oX 4 (.mv 26)])
 .ret)))))
def Nh:List cD:=[.tmp 4]
theorem ahR (NN:Nat) (x:bA (ax.bz DX)):eD NN [J2] Ph Nh DX Oq x=QJ NN x:=by kernel_rfl
theorem afO:dz pX 21 Ph.er Nh 2=true:=by decide+kernel
theorem aiS:dO pX 21 J3.M/\ca pX 21=true:=
  eR (T:=[J2]) (sc:=Ph) (ms:=Nh) (args:=DX) (aG:=Oq) (bn.cons aiR<|bn.nil) dV afO xN fun x y h=>(ahR bh x).trans (acm x y h)
def J0:ar:=⟨5,DU,aha,Om,tn⟩
def Pc:cg:=
 (.seq
 (.af false [
 oX 2 (.box 2 0),
 oX 4 (.mv (kX 0))])
 (.seq
 (.af false [
 oX 5 (.aB 1 2),
 oX 6 (.load false 1 5),
 oX 7 (.mv 1),
 oX 8 (.call .aj 21 [6,7]),
 oX 1 (.mv 8)])
 (.seq
 (.seq
 (.af false [
 oX 9 (.mv 1),
 oX 10 (.bin .lss 9 (kX 0))])
 (.cond 10
 (.seq
 (.af false [
 oX 4 (.mv (kX (-1)))])
 .ret)
 .skip))
 (.seq
 (.af false [
 oX 11 (.mv 1),
 oX 4 (.mv 11)])
 .ret))))
def Nd:List cD:=[.tmp 4]
theorem ahO (NN:Nat) (x:bA (ax.bz DU)):eD NN [J3] Pc Nd DU Om x=Ih NN x:=by kernel_rfl
theorem afL:dz pX 5 Pc.er Nd 2=true:=by decide+kernel
theorem aiP:dO pX 5 J0.M/\ca pX 5=true:=
  eR (T:=[J3]) (sc:=Pc) (ms:=Nd) (args:=DU) (aG:=Om) (bn.cons aiS<|bn.nil) dV afL tn fun x y h=>(ahO bh x).trans (aci x y h)
def J5:ar:=⟨87,DZ,ahf,Ou,xO⟩
def Pk:cg:=
 (.seq
 (.af false [
 oX 2 (.mv (.k (.one (.nil iX))))])
 (.seq
 (.af false [
 oX 5 (.mv 0),
 oX 6 (.len 5),
 oX 7 (.kg .aj iX 8 (0:Int) 6 6),
 oX 3 (.mv 7)])
 (.seq
 (.seq
 (.af false [
 oX 4 (.mv (kX 0))])
 (.join ⟨[(3,.one (fX 500001 1))],[(500001,.row true .aj iX)]⟩ [500000,500001] [(false,3,0,500001,.aj,[])]
 (.block 0
 (.loop 0 ⟨[(0,.one (.c (.v (lX)))),(3,.one (fX 500000 1)),(4,sX)],[(500000,.row true .aj iX)]⟩ [7,500000] [(false,3,0,500000,.aj,[])]
 (.seq
 (.seq
 (.af false [
 oX 8 (.mv 4),
 oX 9 (.mv 0),
 oX 10 (.len 9),
 oX 11 (.bin .lss 8 10)])
 (.cond 11
 .skip
 (.exit 0)))
 (.seq
 (.block 1
 (.af false [
 oX 14 (.mv 3),
 oX 15 (.mv 4),
 oX 16 (.mv 0),
 oX 17 (.mv 4),
 oX 18 (.cR 1 16 17),
 oX 19 (.load false 1 18),
 oX 20 (.cR 1 14 15),
 uX (.store 1 20 19)]))
 (.af false [
 oX 12 (.mv 4),
 oX 13 (.bin .add 12 (kX 1)),
 oX 4 (.mv 13)])))))))
 (.seq
 (.af false [
 oX 21 (.mv 3),
 oX 2 (.mv 21)])
 .ret))))
def Nj:List cD:=[.tmp 2]
theorem ahT (NN:Nat) (x:bA (ax.bz DZ)):eD NN [] Pk Nj DZ Ou x=Il NN x:=by kernel_rfl
theorem afQ:dz pX 87 Pk.er Nj 1=true:=by decide+kernel
theorem aiU:dO pX 87 J5.M/\ca pX 87=true:=
  eR (T:=[]) (sc:=Pk) (ms:=Nj) (args:=DZ) (aG:=Ou) (bn.nil) dV afQ xO fun x y h=>(ahT bh x).trans (aco x y h)
def J6:ar:=⟨62,D2,ahg,Ov,xP⟩
def Pl:cg:=
 (.seq
 (.af false [
 oX 1 (.box 4 0),
 oX 2 (.alloc [zX,zX,zX,.nil iX])])
 (.seq
 (.af false [
 oX 3 (.alloc [zX,zX,zX,.nil iX])])
 (.seq
 (.af false [
 oX 4 (.aB 0 1),
 oX 5 (.load false 1 4),
 oX 6 (.aB 0 3),
 uX (.store 1 6 5)])
 (.seq
 (.af false [
 oX 7 (.aB 1 1),
 oX 8 (.load false 1 7),
 oX 9 (.aB 1 3),
 uX (.store 1 9 8)])
 (.seq
 (.af false [
 oX 10 (.aB 2 1),
 oX 11 (.load false 1 10),
 oX 12 (.aB 2 3),
 uX (.store 1 12 11)])
 (.seq
 (.af false [
 oX 13 (.aB 3 1),
 oX 14 (.load false 1 13),
 oX 15 (.call .aj 87 [14]),
 oX 16 (.aB 3 3),
 uX (.store 1 16 15)])
 (.seq
 (.af false [
 oX 17 (.load true 4 3),
 uX (.store 4 2 17)])
 .ret)))))))
def Nk:List cD:=[.cell 2 4 true]
theorem ahU (NN:Nat) (x:bA (ax.bz D2)):eD NN [J5] Pl Nk D2 Ov x=Io NN x:=by kernel_rfl
theorem afR:dz pX 62 Pl.er Nk 1=true:=by decide+kernel
theorem aiV:dO pX 62 J6.M/\ca pX 62=true:=
  eR (T:=[J5]) (sc:=Pl) (ms:=Nk) (args:=D2) (aG:=Ov) (bn.cons aiU<|bn.nil) dV afR xP fun x y h=>(ahU bh x).trans (acp x y h)
def J7:ar:=⟨24,D3,ahh,Ow,xQ⟩
def Pm:cg:=
 (.seq
 (.af false [
 oX 2 (.mv (.k (.one (.nil gX))))])
 (.seq
 (.af false [
 oX 5 (.mv 0),
 oX 6 (.len 5),
 oX 7 (.kg .aj gX 48 ((0:Int),((0:Int),((0:Int),[]))) 6 6),
 oX 3 (.mv 7)])
 (.seq
 (.seq
 (.af false [
 oX 4 (.mv (kX 0))])
 (.join ⟨[(3,.one (fX 500001 4))],[(500001,.row true .aj gX)]⟩ [500000,500001] [(false,3,0,500001,.aj,[])]
 (.block 0
 (.loop 0 ⟨[(0,.one (.c (.v (.list gX)))),(3,.one (fX 500000 4)),(4,sX)],[(500000,.row true .aj gX)]⟩ [7,500000] [(false,3,0,500000,.aj,[])]
 (.seq
 (.seq
 (.af false [
 oX 8 (.mv 4),
 oX 9 (.mv 0),
 oX 10 (.len 9),
 oX 11 (.bin .lss 8 10)])
 (.cond 11
 .skip
 (.exit 0)))
 (.seq
 (.block 1
 (.af false [
 oX 14 (.mv 3),
 oX 15 (.mv 4),
 oX 16 (.mv 0),
 oX 17 (.mv 4),
 oX 18 (.cR 4 16 17),
 oX 19 (.load true 4 18),
 oX 20 (.call .aj 62 [19]),
 oX 21 (.cR 4 14 15),
 uX (.store 4 21 20)]))
 (.af false [
 oX 12 (.mv 4),
 oX 13 (.bin .add 12 (kX 1)),
 oX 4 (.mv 13)])))))))
 (.seq
 (.af false [
 oX 22 (.mv 3),
 oX 2 (.mv 22)])
 .ret))))
def Nl:List cD:=[.tmp 2]
theorem ahV (NN:Nat) (x:bA (ax.bz D3)):eD NN [J6] Pm Nl D3 Ow x=Ip NN x:=by kernel_rfl
theorem afS:dz pX 24 Pm.er Nl 1=true:=by decide+kernel
theorem aiW:dO pX 24 J7.M/\ca pX 24=true:=
  eR (T:=[J6]) (sc:=Pm) (ms:=Nl) (args:=D3) (aG:=Ow) (bn.cons aiV<|bn.nil) dV afS xQ fun x y h=>(ahV bh x).trans (acq x y h)
def J4:ar:=⟨7,DY,ahe,Ot,lc⟩
def Pj:cg:=
 (.seq
 (.af false [
 oX 1 (.box 2 0),
 oX 2 (.alloc [zX,.nil gX])])
 (.seq
 (.af false [
 oX 3 (.alloc [zX,.nil gX])])
 (.seq
 (.af false [
 oX 4 (.aB 0 1),
 oX 5 (.load false 1 4),
 oX 6 (.aB 0 3),
 uX (.store 1 6 5)])
 (.seq
 (.af false [
 oX 7 (.aB 1 1),
 oX 8 (.load false 1 7),
 oX 9 (.call .aj 24 [8]),
 oX 10 (.aB 1 3),
 uX (.store 1 10 9)])
 (.seq
 (.af false [
 oX 11 (.load true 2 3),
 uX (.store 2 2 11)])
 .ret)))))
def Ni:List cD:=[.cell 2 2 true]
theorem ahS (NN:Nat) (x:bA (ax.bz DY)):eD NN [J7] Pj Ni DY Ot x=Ik NN x:=by kernel_rfl
theorem afP:dz pX 7 Pj.er Ni 1=true:=by decide+kernel
theorem aiT:dO pX 7 J4.M/\ca pX 7=true:=
  eR (T:=[J7]) (sc:=Pj) (ms:=Ni) (args:=DY) (aG:=Ot) (bn.cons aiW<|bn.nil) dV afP lc fun x y h=>(ahS bh x).trans (acn x y h)
def Bl:ar:=⟨60,D7,ahl,OA,nI⟩
def Pq:cg:=
 (.seq
 (.af false [
 oX 6 (.mv (.k (.one (.v (.bool) (false)))))])
 (.seq
 (.af false [
 oX 7 (.mv 0),
 oX 8 (.mv 1),
 oX 9 (.bin .geq 7 8),
 oX 10 (.mv 9),
 ⟨(some 11),.mv 0,(some (10,true))⟩,
 ⟨(some 12),.mv 2,(some (10,true))⟩,
 ⟨(some 13),.bin .leq 11 12,(some (10,true))⟩,
 oX 14 (.pick 10 13 (.k (.one (.v (.bool) (false))))),
 oX 6 (.mv 14)])
 .ret))
def Nq:List cD:=[.tmp 6]
theorem ahZ (NN:Nat) (x:bA (ax.bz D7)):eD NN [] Pq Nq D7 OA x=It NN x:=by kernel_rfl
theorem afW:dz pX 60 Pq.er Nq 3=true:=by decide+kernel
theorem Xt:dO pX 60 Bl.M/\ca pX 60=true:=
  eR (T:=[]) (sc:=Pq) (ms:=Nq) (args:=D7) (aG:=OA) (bn.nil) dV afW nI fun x y h=>(ahZ bh x).trans (acv x y h)
def J9:ar:=⟨59,D6,ahk,Oz,xR⟩
def Pp:cg:=
 (.seq
 (.af false [
 oX 2 (.mv (.k (.one (.v (.bool) (false)))))])
 (.seq
 (.seq
 (.af false [
 oX 3 (.mv (kX 2))])
 (.join ⟨[(0,sX)],[]⟩ [] []
 (.block 0
 (.loop 0 ⟨[(0,sX),(3,sX)],[]⟩ [] []
 (.seq
 (.seq
 (.af false [
 oX 4 (.mv 3),
 oX 5 (.mv 3),
 oX 6 (.bin .mul 4 5),
 oX 7 (.mv 0),
 oX 8 (.bin .leq 6 7),
 oX 9 (.mv 8),
 ⟨(some 10),.mv 0,(some (9,true))⟩,
 ⟨(some 11),.bin .leq 10 (kX 1000003),(some (9,true))⟩,
 oX 12 (.pick 9 11 (.k (.one (.v (.bool) (false)))))])
 (.cond 12
 .skip
 (.exit 0)))
 (.seq
 (.block 1
 (.seq
 (.af false [
 oX 15 (.mv 0),
 oX 16 (.mv 3),
 oX 17 (.bin .rem 15 16),
 oX 18 (.bin .eql 17 (kX 0))])
 (.cond 18
 (.seq
 (.af false [
 oX 2 (.mv (.k (.one (.v (.bool) (false)))))])
 .ret)
 .skip)))
 (.af false [
 oX 13 (.mv 3),
 oX 14 (.bin .add 13 (kX 1)),
 oX 3 (.mv 14)])))))))
 (.seq
 (.af false [
 oX 19 (.mv 0),
 oX 20 (.call .aj 60 [19,(kX 2),(kX 1000003)]),
 oX 2 (.mv 20)])
 .ret)))
def Np:List cD:=[.tmp 2]
theorem ahY (NN:Nat) (x:bA (ax.bz D6)):eD NN [Bl] Pp Np D6 Oz x=Is NN x:=by kernel_rfl
theorem afV:dz pX 59 Pp.er Np 1=true:=by decide+kernel
theorem aiY:dO pX 59 J9.M/\ca pX 59=true:=
  eR (T:=[Bl]) (sc:=Pp) (ms:=Np) (args:=D6) (aG:=Oz) (bn.cons Xt<|bn.nil) dV afV xR fun x y h=>(ahY bh x).trans (acu x y h)
def Bm:ar:=⟨58,Eb,ahp,OE,oY⟩
def Pu:cg:=
 (.seq
 (.af false [
 oX 1 (.box 2 0),
 oX 2 (.mv (.k (.one (.nil iX))))])
 (.seq
 (.af false [
 oX 6 (.gA iX []),
 oX 3 (.mv 6)])
 (.seq
 (.seq
 (.af false [
 oX 7 (.aB 1 1),
 oX 8 (.load false 1 7),
 oX 9 (.len 8),
 oX 10 (.mv (kX 0))])
 (.join ⟨[(3,.one (fX 500001 1))],[(500001,.row true .aj iX)]⟩ [500000,500001] [(false,3,0,500001,.aj,[])]
 (.block 0
 (.loop 0 ⟨[(3,.one (fX 500000 1)),(8,.one (.c (.v (.list gX)))),(9,sX),(10,sX)],[(500000,.row true .aj iX)]⟩ [1,6,5,17,18,500000] [(false,3,0,500000,.aj,[])]
 (.seq
 (.af false [
 oX 11 (.bin .lss 10 9)])
 (.seq
 (.cond 11
 .skip
 (.exit 0))
 (.seq
 (.block 1
 (.seq
 (.af false [
 oX 12 (.cR 4 8 10),
 oX 13 (.load true 4 12),
 oX 5 (.alloc [zX,zX,zX,.nil iX]),
 uX (.store 4 5 13)])
 (.af false [
 oX 14 (.mv 3),
 oX 15 (.aB 1 5),
 oX 16 (.load false 1 15),
 oX 17 (.gA iX [16]),
 oX 18 (.append true iX 8 14 17),
 oX 3 (.mv 18)])))
 (.af false [
 oX 19 (.bin .add 10 (kX 1)),
 oX 10 (.mv 19)]))))))))
 (.seq
 (.af false [
 oX 20 (.mv 3),
 oX 2 (.mv 20)])
 .ret))))
def Nu:List cD:=[.tmp 2]
theorem ah3 (NN:Nat) (x:bA (ax.bz Eb)):eD NN [] Pu Nu Eb OE x=Ix NN x:=by kernel_rfl
theorem af0:dz pX 58 Pu.er Nu 1=true:=by decide+kernel
theorem Xu:dO pX 58 Bm.M/\ca pX 58=true:=
  eR (T:=[]) (sc:=Pu) (ms:=Nu) (args:=Eb) (aG:=OE) (bn.nil) dV af0 oY fun x y h=>(ah3 bh x).trans (SX x y h)
def Ka:ar:=⟨61,D8,ahm,OB,xS⟩
def Pr:cg:=
 (.seq
 (.af false [
 oX 4 (.mv (kX 0))])
 (.seq
 (.af false [
 oX 5 (.mv (kX 1))])
 (.seq
 (.seq
 (.af false [
 oX 8 (.mv 0),
 oX 9 (.len 8),
 oX 10 (.mv (kX 0))])
 (.join ⟨[(5,sX)],[]⟩ [] []
 (.block 0
 (.loop 0 ⟨[(1,sX),(5,sX),(8,.one (.c (.v (lX)))),(9,sX),(10,sX)],[]⟩ [] []
 (.seq
 (.af false [
 oX 11 (.bin .lss 10 9)])
 (.seq
 (.cond 11
 .skip
 (.exit 0))
 (.seq
 (.block 1
 (.seq
 (.af false [
 oX 12 (.cR 1 8 10),
 oX 13 (.load false 1 12),
 oX 7 (.mv 13)])
 (.af false [
 oX 14 (.mv 5),
 oX 15 (.mv 7),
 oX 16 (.bin .mul 14 15),
 oX 17 (.mv 1),
 oX 18 (.bin .add 17 (kX 1)),
 oX 19 (.mm false 16 18),
 oX 5 (.mv 19)])))
 (.af false [
 oX 20 (.bin .add 10 (kX 1)),
 oX 10 (.mv 20)]))))))))
 (.seq
 (.af false [
 oX 21 (.mv 5),
 oX 4 (.mv 21)])
 .ret))))
def Nr:List cD:=[.tmp 4]
theorem ah0 (NN:Nat) (x:bA (ax.bz D8)):eD NN [] Pr Nr D8 OB x=Iu NN x:=by kernel_rfl
theorem afX:dz pX 61 Pr.er Nr 2=true:=by decide+kernel
theorem aiZ:dO pX 61 Ka.M/\ca pX 61=true:=
  eR (T:=[]) (sc:=Pr) (ms:=Nr) (args:=D8) (aG:=OB) (bn.nil) dV afX xS fun x y h=>(ah0 bh x).trans (acw x y h)
def Bk:ar:=⟨23,D5,ahj,Oy,qn⟩
def Po:cg:=
 (.seq
 (.af false [
 oX 1 (.box 2 0),
 oX 2 (.mv (.k (.one (.v (.bool) (false)))))])
 (.seq
 (.seq
 (.af false [
 oX 8 (.aB 0 1),
 oX 9 (.load false 1 8),
 oX 10 (.call .aj 59 [9]),
 oX 11 (.un .not 10),
 oX 12 (.mv 11),
 ⟨(some 13),.aB 1 1,(some (12,false))⟩,
 ⟨(some 14),.load false 1 13,(some (12,false))⟩,
 ⟨(some 15),.len 14,(some (12,false))⟩,
 ⟨(some 16),.call .aj 60 [15,(kX 1),(kX 8)],(some (12,false))⟩,
 ⟨(some 17),.un .not 16,(some (12,false))⟩,
 oX 18 (.pick 12 (.k (.one (.v (.bool) (true)))) 17)])
 (.cond 18
 (.seq
 (.af false [
 oX 2 (.mv (.k (.one (.v (.bool) (false)))))])
 .ret)
 .skip))
 (.seq
 (.af false [
 oX 3 (.mv (kX 1))])
 (.seq
 (.seq
 (.af false [
 oX 19 (.aB 1 1),
 oX 20 (.load false 1 19),
 oX 21 (.len 20),
 oX 22 (.mv (kX 0))])
 (.join ⟨[(3,sX),(1,.one (rX 1))],[(1,.box [vX,.c (.v (.list gX))])]⟩ [1] []
 (.block 0
 (.loop 0 ⟨[(1,.one (rX 1)),(3,sX),(20,.one (.c (.v (.list gX)))),(21,sX),(22,sX)],[(1,.box [vX,.c (.v (.list gX))])]⟩ [1] []
 (.seq
 (.af false [
 oX 23 (.bin .lss 22 21)])
 (.seq
 (.cond 23
 .skip
 (.exit 0))
 (.seq
 (.join ⟨[(22,sX),(1,.one (rX 1)),(3,sX),(20,.one (.c (.v (.list gX)))),(21,sX)],[(1,.box [vX,.c (.v (.list gX))])]⟩ [1,5] []
 (.block 1
 (.seq
 (.af false [
 oX 24 (.cR 4 20 22),
 oX 25 (.load true 4 24),
 oX 5 (.alloc [zX,zX,zX,.nil iX]),
 uX (.store 4 5 25)])
 (.seq
 (.seq
 (.af false [
 oX 26 (.aB 0 5),
 oX 27 (.load false 1 26),
 oX 28 (.mv 3),
 oX 29 (.bin .neq 27 28),
 oX 30 (.mv 29),
 ⟨(some 31),.aB 1 5,(some (30,false))⟩,
 ⟨(some 32),.load false 1 31,(some (30,false))⟩,
 ⟨(some 33),.call .aj 60 [32,(kX 1),(kX 8)],(some (30,false))⟩,
 ⟨(some 34),.un .not 33,(some (30,false))⟩,
 oX 35 (.pick 30 (.k (.one (.v (.bool) (true)))) 34),
 oX 36 (.mv 35),
 ⟨(some 37),.aB 2 5,(some (36,false))⟩,
 ⟨(some 38),.load false 1 37,(some (36,false))⟩,
 ⟨(some 39),.call .aj 60 [38,(kX 0),(kX 32)],(some (36,false))⟩,
 ⟨(some 40),.un .not 39,(some (36,false))⟩,
 oX 41 (.pick 36 (.k (.one (.v (.bool) (true)))) 40),
 oX 42 (.mv 41),
 ⟨(some 43),.aB 3 5,(some (42,false))⟩,
 ⟨(some 44),.load false 1 43,(some (42,false))⟩,
 ⟨(some 45),.len 44,(some (42,false))⟩,
 ⟨(some 46),.aB 0 5,(some (42,false))⟩,
 ⟨(some 47),.load false 1 46,(some (42,false))⟩,
 ⟨(some 48),.aB 1 5,(some (42,false))⟩,
 ⟨(some 49),.load false 1 48,(some (42,false))⟩,
 ⟨(some 50),.bin .mul 47 49,(some (42,false))⟩,
 ⟨(some 51),.aB 2 5,(some (42,false))⟩,
 ⟨(some 52),.load false 1 51,(some (42,false))⟩,
 ⟨(some 53),.bin .mul 50 52,(some (42,false))⟩,
 ⟨(some 54),.bin .neq 45 53,(some (42,false))⟩,
 oX 55 (.pick 42 (.k (.one (.v (.bool) (true)))) 54)])
 (.cond 55
 (.seq
 (.af false [
 oX 2 (.mv (.k (.one (.v (.bool) (false)))))])
 .ret)
 .skip))
 (.seq
 (.seq
 (.af false [
 oX 56 (.aB 3 5),
 oX 57 (.load false 1 56),
 oX 58 (.len 57),
 oX 59 (.mv (kX 0))])
 (.join ⟨[(5,.one (rX 5)),(22,sX),(1,.one (rX 1)),(20,.one (.c (.v (.list gX)))),(21,sX)],[(1,.box [vX,.c (.v (.list gX))]),(5,.box [vX,vX,vX,.c (.v (lX))])]⟩ [1,5] []
 (.block 2
 (.loop 0 ⟨[(1,.one (rX 1)),(5,.one (rX 5)),(20,.one (.c (.v (.list gX)))),(21,sX),(22,sX),(57,.one (.c (.v (lX)))),(58,sX),(59,sX)],[(1,.box [vX,.c (.v (.list gX))]),(5,.box [vX,vX,vX,.c (.v (lX))])]⟩ [1,5] []
 (.seq
 (.af false [
 oX 60 (.bin .lss 59 58)])
 (.seq
 (.cond 60
 .skip
 (.exit 2))
 (.seq
 (.block 3
 (.seq
 (.af false [
 oX 61 (.cR 1 57 59),
 oX 62 (.load false 1 61),
 oX 7 (.mv 62)])
 (.seq
 (.af false [
 oX 63 (.mv 7),
 oX 64 (.aB 0 1),
 oX 65 (.load false 1 64),
 oX 66 (.bin .sub 65 (kX 1)),
 oX 67 (.call .aj 60 [63,(kX 0),66]),
 oX 68 (.un .not 67)])
 (.cond 68
 (.seq
 (.af false [
 oX 2 (.mv (.k (.one (.v (.bool) (false)))))])
 .ret)
 .skip))))
 (.af false [
 oX 69 (.bin .add 59 (kX 1)),
 oX 59 (.mv 69)]))))))))
 (.af false [
 oX 70 (.aB 2 5),
 oX 71 (.load false 1 70),
 oX 3 (.mv 71)]))))))
 (.af false [
 oX 72 (.bin .add 22 (kX 1)),
 oX 22 (.mv 72)]))))))))
 (.seq
 (.af false [
 oX 73 (.mv 3),
 oX 74 (.bin .eql 73 (kX 1)),
 oX 75 (.mv 74),
 ⟨(some 76),.load true 2 1,(some (75,true))⟩,
 ⟨(some 77),.call .aj 58 [76],(some (75,true))⟩,
 ⟨(some 78),.call .aj 61 [77,(kX 4096)],(some (75,true))⟩,
 ⟨(some 79),.bin .leq 78 (kX 4096),(some (75,true))⟩,
 oX 80 (.pick 75 79 (.k (.one (.v (.bool) (false))))),
 oX 2 (.mv 80)])
 .ret)))))
def Nn:List cD:=[.tmp 2]
theorem ahX (NN:Nat) (x:bA (ax.bz D5)):eD NN [J9,Bl,Bm,Ka] Po Nn D5 Oy x=Ir NN x:=by kernel_rfl
theorem afU:dz pX 23 Po.er Nn 1=true:=by decide+kernel
theorem Xs:dO pX 23 Bk.M/\ca pX 23=true:=
  eR (T:=[J9,Bl,Bm,Ka]) (sc:=Po) (ms:=Nn) (args:=D5) (aG:=Oy) (bn.cons aiY<|bn.cons Xt<|bn.cons Xu<|bn.cons aiZ<|bn.nil) dV afU qn fun x y h=>(ahX bh x).trans (acs x y h)
def Kc:ar:=⟨57,D9,ahn,OC,tq⟩
def Ps:cg:=
 (.seq
 (.af false [
 oX 4 (.mv (.k (.one (.v (.bool) (false)))))])
 (.seq
 (.seq
 (.af false [
 oX 7 (.mv 0),
 oX 8 (.len 7),
 oX 9 (.mv (kX 0))])
 (.join ⟨[(0,.one (.c (.v (lX)))),(1,.one (.c (.v (lX))))],[]⟩ [] []
 (.block 0
 (.loop 0 ⟨[(0,.one (.c (.v (lX)))),(1,.one (.c (.v (lX)))),(7,.one (.c (.v (lX)))),(8,sX),(9,sX)],[]⟩ [] []
 (.seq
 (.af false [
 oX 10 (.bin .lss 9 8)])
 (.seq
 (.cond 10
 .skip
 (.exit 0))
 (.seq
 (.block 1
 (.seq
 (.af false [
 oX 11 (.mv 9),
 oX 12 (.cR 1 7 9),
 oX 13 (.load false 1 12),
 oX 5 (.mv 11),
 oX 6 (.mv 13)])
 (.seq
 (.af false [
 oX 14 (.mv 5),
 oX 15 (.mv 1),
 oX 16 (.len 15),
 oX 17 (.bin .geq 14 16),
 oX 18 (.mv 17),
 ⟨(some 19),.mv 1,(some (18,false))⟩,
 ⟨(some 20),.mv 5,(some (18,false))⟩,
 ⟨(some 21),.cR 1 19 20,(some (18,false))⟩,
 ⟨(some 22),.load false 1 21,(some (18,false))⟩,
 ⟨(some 23),.mv 6,(some (18,false))⟩,
 ⟨(some 24),.bin .neq 22 23,(some (18,false))⟩,
 oX 25 (.pick 18 (.k (.one (.v (.bool) (true)))) 24)])
 (.cond 25
 (.seq
 (.af false [
 oX 4 (.mv (.k (.one (.v (.bool) (false)))))])
 .ret)
 .skip))))
 (.af false [
 oX 26 (.bin .add 9 (kX 1)),
 oX 9 (.mv 26)]))))))))
 (.seq
 (.af false [
 oX 27 (.mv 0),
 oX 28 (.len 27),
 oX 29 (.mv 1),
 oX 30 (.len 29),
 oX 31 (.bin .eql 28 30),
 oX 4 (.mv 31)])
 .ret)))
def Ns:List cD:=[.tmp 4]
theorem ah1 (NN:Nat) (x:bA (ax.bz D9)):eD NN [] Ps Ns D9 OC x=Iv NN x:=by kernel_rfl
theorem afY:dz pX 57 Ps.er Ns 2=true:=by decide+kernel
theorem ai0:dO pX 57 Kc.M/\ca pX 57=true:=
  eR (T:=[]) (sc:=Ps) (ms:=Ns) (args:=D9) (aG:=OC) (bn.nil) dV afY tq fun x y h=>(ah1 bh x).trans (acx x y h)
def Kd:ar:=⟨22,Ea,aho,OD,tr⟩
def Pt:cg:=
 (.seq
 (.af false [
 oX 2 (.box 2 0),
 oX 3 (.box 2 1),
 oX 4 (.mv (.k (.one (.v (.bool) (false)))))])
 (.seq
 (.af true [
 oX 5 (.load true 2 2),
 oX 6 (.call .aj 23 [5]),
 oX 7 (.mv 6),
 ⟨(some 8),.load true 2 3,(some (7,true))⟩,
 ⟨(some 9),.call .aj 23 [8],(some (7,true))⟩,
 oX 10 (.pick 7 9 (.k (.one (.v (.bool) (false))))),
 oX 11 (.mv 10),
 ⟨(some 12),.aB 0 2,(some (11,true))⟩,
 ⟨(some 13),.load false 1 12,(some (11,true))⟩,
 ⟨(some 14),.aB 0 3,(some (11,true))⟩,
 ⟨(some 15),.load false 1 14,(some (11,true))⟩,
 ⟨(some 16),.bin .eql 13 15,(some (11,true))⟩,
 oX 17 (.pick 11 16 (.k (.one (.v (.bool) (false))))),
 oX 18 (.mv 17),
 ⟨(some 19),.load true 2 2,(some (18,true))⟩,
 ⟨(some 20),.call .aj 58 [19],(some (18,true))⟩,
 ⟨(some 21),.load true 2 3,(some (18,true))⟩,
 ⟨(some 22),.call .aj 58 [21],(some (18,true))⟩,
 ⟨(some 23),.call .aj 57 [20,22],(some (18,true))⟩,
 oX 24 (.pick 18 23 (.k (.one (.v (.bool) (false))))),
 oX 4 (.mv 24)])
 .ret))
def Nt:List cD:=[.tmp 4]
theorem ah2 (NN:Nat) (x:bA (ax.bz Ea)):eD NN [Bk,Bm,Kc] Pt Nt Ea OD x=Iw NN x:=by kernel_rfl
theorem afZ:dz pX 22 Pt.er Nt 2=true:=by decide+kernel
theorem ai1:dO pX 22 Kd.M/\ca pX 22=true:=
  eR (T:=[Bk,Bm,Kc]) (sc:=Pt) (ms:=Nt) (args:=Ea) (aG:=OD) (bn.cons Xs<|bn.cons Xu<|bn.cons ai0<|bn.nil) dV afZ tr fun x y h=>(ah2 bh x).trans (acy x y h)
def J8:ar:=⟨6,D4,ahi,Ox,tp⟩
def Pn:cg:=
 (.seq
 (.af false [
 oX 2 (.box 2 0),
 oX 3 (.box 2 1),
 oX 4 (.alloc [zX,.nil gX]),
 oX 5 (.mv (.k (.one (.v (.bool) (false)))))])
 (.seq
 (.seq
 (.af false [
 oX 21 (.load true 2 2),
 oX 22 (.load true 2 3),
 oX 23 (.call .aj 22 [21,22]),
 oX 24 (.un .not 23)])
 (.cond 24
 (.seq
 (.af false [
 oX 25 (.build [zX,.nil gX] []),
 uX (.store 2 4 25),
 oX 5 (.mv (.k (.one (.v (.bool) (false)))))])
 .ret)
 .skip))
 (.seq
 (.af false [
 oX 26 (.aB 0 2),
 oX 27 (.load false 1 26),
 oX 28 (.build [zX,.nil gX] [(0,1,27)]),
 oX 6 (.alloc [zX,.nil gX]),
 uX (.store 2 6 28)])
 (.seq
 (.af false [
 oX 29 (.aB 1 2),
 oX 30 (.load false 1 29),
 oX 31 (.len 30),
 oX 32 (.bin .sub 31 (kX 1)),
 oX 7 (.mv 32)])
 (.seq
 (.seq
 (.af false [
 oX 33 (.aB 1 2),
 oX 34 (.load false 1 33),
 oX 35 (.len 34),
 oX 36 (.mv (kX 0))])
 (.join ⟨[(6,.one (rX 6)),(4,.one (rX 4))],[(4,.box [vX,fX 500040 4]),(6,.box [vX,fX 500041 4]),(500040,.row true .aj gX),(500041,.row true .aj gX)]⟩ [2,3,4,6,500000,500001,500040,500041] [(true,4,1,500040,.aj,[]),(true,6,1,500041,.aj,[])]
 (.block 0
 (.loop 0 ⟨[(2,.one (rX 2)),(3,.one (rX 3)),(4,.one (rX 4)),(6,.one (rX 6)),(7,sX),(34,.one (.c (.v (.list gX)))),(35,sX),(36,sX)],[(2,.box [vX,.c (.v (.list gX))]),(3,.box [vX,.c (.v (.list gX))]),(4,.box [vX,fX 500000 4]),(6,.box [vX,fX 500001 4]),(500000,.row true .aj gX),(500001,.row true .aj gX)]⟩ [2,3,4,6,500000,500001,500038,500039] [(true,4,1,500000,.aj,[]),(true,6,1,500001,.aj,[])]
 (.seq
 (.af false [
 oX 37 (.bin .lss 36 35)])
 (.seq
 (.cond 37
 .skip
 (.exit 0))
 (.seq
 (.join ⟨[(36,sX),(2,.one (rX 2)),(3,.one (rX 3)),(4,.one (rX 4)),(6,.one (rX 6)),(7,sX),(34,.one (.c (.v (.list gX)))),(35,sX)],[(2,.box [vX,.c (.v (.list gX))]),(3,.box [vX,.c (.v (.list gX))]),(4,.box [vX,fX 500038 4]),(6,.box [vX,fX 500039 4]),(500038,.row true .aj gX),(500039,.row true .aj gX)]⟩ [2,3,4,6,11,196,500035,500038,500039] [(true,4,1,500038,.aj,[]),(true,6,1,500039,.aj,[])]
 (.block 1
 (.seq
 (.af false [
 oX 38 (.mv 36),
 oX 39 (.cR 4 34 36),
 oX 40 (.load true 4 39),
 oX 9 (.alloc [zX,zX,zX,.nil iX]),
 oX 8 (.mv 38),
 uX (.store 4 9 40)])
 (.seq
 (.af false [
 oX 41 (.aB 1 3),
 oX 42 (.load false 1 41),
 oX 43 (.mv 8),
 oX 44 (.cR 4 42 43),
 oX 45 (.load true 4 44),
 oX 10 (.alloc [zX,zX,zX,.nil iX]),
 uX (.store 4 10 45)])
 (.seq
 (.af false [
 oX 46 (.aB 0 9),
 oX 47 (.load false 1 46),
 oX 48 (.aB 0 10),
 oX 49 (.load false 1 48),
 oX 50 (.bin .add 47 49),
 oX 51 (.aB 1 9),
 oX 52 (.load false 1 51),
 oX 53 (.aB 2 9),
 oX 54 (.load false 1 53),
 oX 55 (.aB 2 10),
 oX 56 (.load false 1 55),
 oX 57 (.bin .add 54 56),
 oX 58 (.build [zX,zX,zX,.nil iX] [(0,1,50),(1,1,52),(2,1,57)]),
 oX 11 (.alloc [zX,zX,zX,.nil iX]),
 uX (.store 4 11 58)])
 (.seq
 (.af false [
 oX 59 (.aB 0 9),
 oX 60 (.load false 1 59),
 oX 12 (.mv 60)])
 (.seq
 (.af false [
 oX 61 (.aB 2 9),
 oX 62 (.load false 1 61),
 oX 13 (.mv 62)])
 (.seq
 (.seq
 (.af false [
 oX 63 (.mv 8),
 oX 64 (.bin .eql 63 (kX 0))])
 (.join ⟨[(8,sX),(35,sX),(34,.one (.c (.v (.list gX)))),(7,sX),(6,.one (rX 6)),(4,.one (rX 4)),(3,.one (rX 3)),(2,.one (rX 2)),(36,sX),(11,.one (rX 11)),(10,.one (rX 10)),(13,sX),(12,sX),(9,.one (rX 9))],[(2,.box [vX,.c (.v (.list gX))]),(3,.box [vX,.c (.v (.list gX))]),(4,.box [vX,fX 500002 4]),(6,.box [vX,fX 500003 4]),(9,.box [vX,vX,vX,.c (.v (lX))]),(10,.box [vX,vX,vX,.c (.v (lX))]),(11,.box [vX,vX,vX,fX 500004 1]),(500002,.row true .aj gX),(500003,.row true .aj gX),(500004,.row true .aj iX)]⟩ [2,3,4,6,9,10,11,500000,500001,500002,500003,500004] [(true,4,1,500002,.aj,[]),(true,6,1,500003,.aj,[]),(true,11,3,500004,.aj,[])]
 (.cond 64
 (.seq
 (.af false [
 oX 65 (.aB 0 11),
 uX (.store 1 65 (kX 1))])
 (.af false [
 oX 12 (.mv (kX 0))]))
 .skip)))
 (.seq
 (.seq
 (.af false [
 oX 66 (.mv 8),
 oX 67 (.mv 7),
 oX 68 (.bin .eql 66 67)])
 (.join ⟨[(35,sX),(34,.one (.c (.v (.list gX)))),(7,sX),(6,.one (rX 6)),(4,.one (rX 4)),(3,.one (rX 3)),(2,.one (rX 2)),(36,sX),(11,.one (rX 11)),(10,.one (rX 10)),(13,sX),(12,sX),(9,.one (rX 9))],[(2,.box [vX,.c (.v (.list gX))]),(3,.box [vX,.c (.v (.list gX))]),(4,.box [vX,fX 500005 4]),(6,.box [vX,fX 500006 4]),(9,.box [vX,vX,vX,.c (.v (lX))]),(10,.box [vX,vX,vX,.c (.v (lX))]),(11,.box [vX,vX,vX,fX 500007 1]),(500005,.row true .aj gX),(500006,.row true .aj gX),(500007,.row true .aj iX)]⟩ [2,3,4,6,9,10,11,500002,500003,500004,500005,500006,500007] [(true,4,1,500005,.aj,[]),(true,6,1,500006,.aj,[]),(true,11,3,500007,.aj,[])]
 (.cond 68
 (.seq
 (.af false [
 oX 69 (.aB 2 11),
 uX (.store 1 69 (kX 1))])
 (.af false [
 oX 13 (.mv (kX 0))]))
 .skip)))
 (.seq
 (.af false [
 oX 70 (.aB 0 11),
 oX 71 (.load false 1 70),
 oX 72 (.aB 1 11),
 oX 73 (.load false 1 72),
 oX 74 (.bin .mul 71 73),
 oX 75 (.aB 2 11),
 oX 76 (.load false 1 75),
 oX 77 (.bin .mul 74 76),
 oX 78 (.kg .aj iX 8 (0:Int) 77 77),
 oX 79 (.aB 3 11),
 uX (.store 1 79 78)])
 (.seq
 (.seq
 (.af false [
 oX 14 (.mv (kX 0))])
 (.join ⟨[(11,.one (rX 11)),(36,sX),(2,.one (rX 2)),(3,.one (rX 3)),(4,.one (rX 4)),(6,.one (rX 6)),(7,sX),(34,.one (.c (.v (.list gX)))),(35,sX)],[(2,.box [vX,.c (.v (.list gX))]),(3,.box [vX,.c (.v (.list gX))]),(4,.box [vX,fX 500035 4]),(6,.box [vX,fX 500036 4]),(11,.box [vX,vX,vX,fX 500037 1]),(500035,.row true .aj gX),(500036,.row true .aj gX),(500037,.row true .aj iX)]⟩ [2,3,4,6,9,10,11,500008,500009,500010,500035,500036,500037] [(true,4,1,500035,.aj,[]),(true,6,1,500036,.aj,[]),(true,11,3,500037,.aj,[])]
 (.block 2
 (.loop 0 ⟨[(2,.one (rX 2)),(3,.one (rX 3)),(4,.one (rX 4)),(6,.one (rX 6)),(7,sX),(9,.one (rX 9)),(10,.one (rX 10)),(11,.one (rX 11)),(12,sX),(13,sX),(14,sX),(34,.one (.c (.v (.list gX)))),(35,sX),(36,sX)],[(2,.box [vX,.c (.v (.list gX))]),(3,.box [vX,.c (.v (.list gX))]),(4,.box [vX,fX 500008 4]),(6,.box [vX,fX 500009 4]),(9,.box [vX,vX,vX,.c (.v (lX))]),(10,.box [vX,vX,vX,.c (.v (lX))]),(11,.box [vX,vX,vX,fX 500010 1]),(500008,.row true .aj gX),(500009,.row true .aj gX),(500010,.row true .aj iX)]⟩ [2,3,4,6,9,10,11,78,500005,500006,500007,500008,500009,500010,500032,500033,500034] [(true,4,1,500008,.aj,[]),(true,6,1,500009,.aj,[]),(true,11,3,500010,.aj,[])]
 (.seq
 (.seq
 (.af false [
 oX 80 (.mv 14),
 oX 81 (.aB 1 9),
 oX 82 (.load false 1 81),
 oX 83 (.bin .lss 80 82)])
 (.cond 83
 .skip
 (.exit 2)))
 (.seq
 (.join ⟨[(14,sX),(2,.one (rX 2)),(3,.one (rX 3)),(4,.one (rX 4)),(6,.one (rX 6)),(7,sX),(9,.one (rX 9)),(10,.one (rX 10)),(11,.one (rX 11)),(12,sX),(13,sX),(34,.one (.c (.v (.list gX)))),(35,sX),(36,sX)],[(2,.box [vX,.c (.v (.list gX))]),(3,.box [vX,.c (.v (.list gX))]),(4,.box [vX,fX 500032 4]),(6,.box [vX,fX 500033 4]),(9,.box [vX,vX,vX,.c (.v (lX))]),(10,.box [vX,vX,vX,.c (.v (lX))]),(11,.box [vX,vX,vX,fX 500034 1]),(500032,.row true .aj gX),(500033,.row true .aj gX),(500034,.row true .aj iX)]⟩ [2,3,4,6,9,10,11,500023,500024,500025,500032,500033,500034] [(true,4,1,500032,.aj,[]),(true,6,1,500033,.aj,[]),(true,11,3,500034,.aj,[])]
 (.block 3
 (.seq
 (.seq
 (.af false [
 oX 15 (.mv (kX 0))])
 (.join ⟨[(36,sX),(35,sX),(34,.one (.c (.v (.list gX)))),(13,sX),(12,sX),(11,.one (rX 11)),(10,.one (rX 10)),(9,.one (rX 9)),(7,sX),(6,.one (rX 6)),(4,.one (rX 4)),(3,.one (rX 3)),(2,.one (rX 2)),(14,sX)],[(2,.box [vX,.c (.v (.list gX))]),(3,.box [vX,.c (.v (.list gX))]),(4,.box [vX,fX 500020 4]),(6,.box [vX,fX 500021 4]),(9,.box [vX,vX,vX,.c (.v (lX))]),(10,.box [vX,vX,vX,.c (.v (lX))]),(11,.box [vX,vX,vX,fX 500022 1]),(500020,.row true .aj gX),(500021,.row true .aj gX),(500022,.row true .aj iX)]⟩ [2,3,4,6,9,10,11,500011,500012,500013,500020,500021,500022] [(true,4,1,500020,.aj,[]),(true,6,1,500021,.aj,[]),(true,11,3,500022,.aj,[])]
 (.block 4
 (.loop 0 ⟨[(2,.one (rX 2)),(3,.one (rX 3)),(4,.one (rX 4)),(6,.one (rX 6)),(7,sX),(9,.one (rX 9)),(10,.one (rX 10)),(11,.one (rX 11)),(12,sX),(13,sX),(14,sX),(15,sX),(34,.one (.c (.v (.list gX)))),(35,sX),(36,sX)],[(2,.box [vX,.c (.v (.list gX))]),(3,.box [vX,.c (.v (.list gX))]),(4,.box [vX,fX 500011 4]),(6,.box [vX,fX 500012 4]),(9,.box [vX,vX,vX,.c (.v (lX))]),(10,.box [vX,vX,vX,.c (.v (lX))]),(11,.box [vX,vX,vX,fX 500013 1]),(500011,.row true .aj gX),(500012,.row true .aj gX),(500013,.row true .aj iX)]⟩ [2,3,4,6,9,10,11,500008,500009,500010,500011,500012,500013,500017,500018,500019] [(true,4,1,500011,.aj,[]),(true,6,1,500012,.aj,[]),(true,11,3,500013,.aj,[])]
 (.seq
 (.seq
 (.af false [
 oX 86 (.mv 15),
 oX 87 (.aB 0 9),
 oX 88 (.load false 1 87),
 oX 89 (.bin .lss 86 88)])
 (.cond 89
 .skip
 (.exit 4)))
 (.seq
 (.join ⟨[(15,sX),(2,.one (rX 2)),(3,.one (rX 3)),(4,.one (rX 4)),(6,.one (rX 6)),(7,sX),(9,.one (rX 9)),(10,.one (rX 10)),(11,.one (rX 11)),(12,sX),(13,sX),(14,sX),(34,.one (.c (.v (.list gX)))),(35,sX),(36,sX)],[(2,.box [vX,.c (.v (.list gX))]),(3,.box [vX,.c (.v (.list gX))]),(4,.box [vX,fX 500017 4]),(6,.box [vX,fX 500018 4]),(9,.box [vX,vX,vX,.c (.v (lX))]),(10,.box [vX,vX,vX,.c (.v (lX))]),(11,.box [vX,vX,vX,fX 500019 1]),(500017,.row true .aj gX),(500018,.row true .aj gX),(500019,.row true .aj iX)]⟩ [2,3,4,6,9,10,11,500014,500015,500016,500017,500018,500019] [(true,4,1,500017,.aj,[]),(true,6,1,500018,.aj,[]),(true,11,3,500019,.aj,[])]
 (.block 5
 (.seq
 (.af false [
 oX 16 (.mv (kX 0))])
 (.block 6
 (.loop 0 ⟨[(2,.one (rX 2)),(3,.one (rX 3)),(4,.one (rX 4)),(6,.one (rX 6)),(7,sX),(9,.one (rX 9)),(10,.one (rX 10)),(11,.one (rX 11)),(12,sX),(13,sX),(14,sX),(15,sX),(16,sX),(34,.one (.c (.v (.list gX)))),(35,sX),(36,sX)],[(2,.box [vX,.c (.v (.list gX))]),(3,.box [vX,.c (.v (.list gX))]),(4,.box [vX,fX 500014 4]),(6,.box [vX,fX 500015 4]),(9,.box [vX,vX,vX,.c (.v (lX))]),(10,.box [vX,vX,vX,.c (.v (lX))]),(11,.box [vX,vX,vX,fX 500016 1]),(500014,.row true .aj gX),(500015,.row true .aj gX),(500016,.row true .aj iX)]⟩ [2,3,4,6,9,10,11,500011,500012,500013,500014,500015,500016] [(true,4,1,500014,.aj,[]),(true,6,1,500015,.aj,[]),(true,11,3,500016,.aj,[])]
 (.seq
 (.seq
 (.af false [
 oX 92 (.mv 16),
 oX 93 (.aB 2 9),
 oX 94 (.load false 1 93),
 oX 95 (.bin .lss 92 94)])
 (.cond 95
 .skip
 (.exit 6)))
 (.seq
 (.block 7
 (.seq
 (.af false [
 oX 98 (.mv 15),
 oX 99 (.aB 1 11),
 oX 100 (.load false 1 99),
 oX 101 (.bin .mul 98 100),
 oX 102 (.mv 14),
 oX 103 (.bin .add 101 102),
 oX 104 (.aB 2 11),
 oX 105 (.load false 1 104),
 oX 106 (.bin .mul 103 105),
 oX 107 (.mv 16),
 oX 108 (.bin .add 106 107),
 oX 17 (.mv 108)])
 (.af true [
 oX 109 (.aB 3 11),
 oX 110 (.load false 1 109),
 oX 111 (.mv 17),
 oX 112 (.aB 3 11),
 oX 113 (.load false 1 112),
 oX 114 (.mv 17),
 oX 115 (.cR 1 113 114),
 oX 116 (.load false 1 115),
 oX 117 (.aB 3 9),
 oX 118 (.load false 1 117),
 oX 119 (.mv 15),
 oX 120 (.aB 1 9),
 oX 121 (.load false 1 120),
 oX 122 (.bin .mul 119 121),
 oX 123 (.mv 14),
 oX 124 (.bin .add 122 123),
 oX 125 (.aB 2 9),
 oX 126 (.load false 1 125),
 oX 127 (.bin .mul 124 126),
 oX 128 (.mv 16),
 oX 129 (.bin .add 127 128),
 oX 130 (.cR 1 118 129),
 oX 131 (.load false 1 130),
 oX 132 (.bin .add 116 131),
 oX 133 (.aB 0 2),
 oX 134 (.load false 1 133),
 oX 135 (.bin .rem 132 134),
 oX 136 (.cR 1 110 111),
 uX (.store 1 136 135)])))
 (.af false [
 oX 96 (.mv 16),
 oX 97 (.bin .add 96 (kX 1)),
 oX 16 (.mv 97)]))))))))
 (.af false [
 oX 90 (.mv 15),
 oX 91 (.bin .add 90 (kX 1)),
 oX 15 (.mv 91)])))))))
 (.seq
 (.af false [
 oX 18 (.mv (kX 0))])
 (.block 8
 (.loop 0 ⟨[(2,.one (rX 2)),(3,.one (rX 3)),(4,.one (rX 4)),(6,.one (rX 6)),(7,sX),(9,.one (rX 9)),(10,.one (rX 10)),(11,.one (rX 11)),(12,sX),(13,sX),(14,sX),(18,sX),(34,.one (.c (.v (.list gX)))),(35,sX),(36,sX)],[(2,.box [vX,.c (.v (.list gX))]),(3,.box [vX,.c (.v (.list gX))]),(4,.box [vX,fX 500023 4]),(6,.box [vX,fX 500024 4]),(9,.box [vX,vX,vX,.c (.v (lX))]),(10,.box [vX,vX,vX,.c (.v (lX))]),(11,.box [vX,vX,vX,fX 500025 1]),(500023,.row true .aj gX),(500024,.row true .aj gX),(500025,.row true .aj iX)]⟩ [2,3,4,6,9,10,11,500020,500021,500022,500023,500024,500025,500029,500030,500031] [(true,4,1,500023,.aj,[]),(true,6,1,500024,.aj,[]),(true,11,3,500025,.aj,[])]
 (.seq
 (.seq
 (.af false [
 oX 137 (.mv 18),
 oX 138 (.aB 0 10),
 oX 139 (.load false 1 138),
 oX 140 (.bin .lss 137 139)])
 (.cond 140
 .skip
 (.exit 8)))
 (.seq
 (.join ⟨[(18,sX),(2,.one (rX 2)),(3,.one (rX 3)),(4,.one (rX 4)),(6,.one (rX 6)),(7,sX),(9,.one (rX 9)),(10,.one (rX 10)),(11,.one (rX 11)),(12,sX),(13,sX),(14,sX),(34,.one (.c (.v (.list gX)))),(35,sX),(36,sX)],[(2,.box [vX,.c (.v (.list gX))]),(3,.box [vX,.c (.v (.list gX))]),(4,.box [vX,fX 500029 4]),(6,.box [vX,fX 500030 4]),(9,.box [vX,vX,vX,.c (.v (lX))]),(10,.box [vX,vX,vX,.c (.v (lX))]),(11,.box [vX,vX,vX,fX 500031 1]),(500029,.row true .aj gX),(500030,.row true .aj gX),(500031,.row true .aj iX)]⟩ [2,3,4,6,9,10,11,500026,500027,500028,500029,500030,500031] [(true,4,1,500029,.aj,[]),(true,6,1,500030,.aj,[]),(true,11,3,500031,.aj,[])]
 (.block 9
 (.seq
 (.af false [
 oX 19 (.mv (kX 0))])
 (.block 10
 (.loop 0 ⟨[(2,.one (rX 2)),(3,.one (rX 3)),(4,.one (rX 4)),(6,.one (rX 6)),(7,sX),(9,.one (rX 9)),(10,.one (rX 10)),(11,.one (rX 11)),(12,sX),(13,sX),(14,sX),(18,sX),(19,sX),(34,.one (.c (.v (.list gX)))),(35,sX),(36,sX)],[(2,.box [vX,.c (.v (.list gX))]),(3,.box [vX,.c (.v (.list gX))]),(4,.box [vX,fX 500026 4]),(6,.box [vX,fX 500027 4]),(9,.box [vX,vX,vX,.c (.v (lX))]),(10,.box [vX,vX,vX,.c (.v (lX))]),(11,.box [vX,vX,vX,fX 500028 1]),(500026,.row true .aj gX),(500027,.row true .aj gX),(500028,.row true .aj iX)]⟩ [2,3,4,6,9,10,11,500023,500024,500025,500026,500027,500028] [(true,4,1,500026,.aj,[]),(true,6,1,500027,.aj,[]),(true,11,3,500028,.aj,[])]
 (.seq
 (.seq
 (.af false [
 oX 143 (.mv 19),
 oX 144 (.aB 2 10),
 oX 145 (.load false 1 144),
 oX 146 (.bin .lss 143 145)])
 (.cond 146
 .skip
 (.exit 10)))
 (.seq
 (.block 11
 (.seq
 (.af false [
 oX 149 (.mv 18),
 oX 150 (.mv 12),
 oX 151 (.bin .add 149 150),
 oX 152 (.aB 1 11),
 oX 153 (.load false 1 152),
 oX 154 (.bin .mul 151 153),
 oX 155 (.mv 14),
 oX 156 (.bin .add 154 155),
 oX 157 (.aB 2 11),
 oX 158 (.load false 1 157),
 oX 159 (.bin .mul 156 158),
 oX 160 (.mv 19),
 oX 161 (.bin .add 159 160),
 oX 162 (.mv 13),
 oX 163 (.bin .add 161 162),
 oX 20 (.mv 163)])
 (.af true [
 oX 164 (.aB 3 11),
 oX 165 (.load false 1 164),
 oX 166 (.mv 20),
 oX 167 (.aB 3 11),
 oX 168 (.load false 1 167),
 oX 169 (.mv 20),
 oX 170 (.cR 1 168 169),
 oX 171 (.load false 1 170),
 oX 172 (.aB 3 10),
 oX 173 (.load false 1 172),
 oX 174 (.mv 18),
 oX 175 (.aB 1 10),
 oX 176 (.load false 1 175),
 oX 177 (.bin .mul 174 176),
 oX 178 (.mv 14),
 oX 179 (.bin .add 177 178),
 oX 180 (.aB 2 10),
 oX 181 (.load false 1 180),
 oX 182 (.bin .mul 179 181),
 oX 183 (.mv 19),
 oX 184 (.bin .add 182 183),
 oX 185 (.cR 1 173 184),
 oX 186 (.load false 1 185),
 oX 187 (.bin .add 171 186),
 oX 188 (.aB 0 2),
 oX 189 (.load false 1 188),
 oX 190 (.bin .rem 187 189),
 oX 191 (.cR 1 165 166),
 uX (.store 1 191 190)])))
 (.af false [
 oX 147 (.mv 19),
 oX 148 (.bin .add 147 (kX 1)),
 oX 19 (.mv 148)]))))))))
 (.af false [
 oX 141 (.mv 18),
 oX 142 (.bin .add 141 (kX 1)),
 oX 18 (.mv 142)])))))))))
 (.af false [
 oX 84 (.mv 14),
 oX 85 (.bin .add 84 (kX 1)),
 oX 14 (.mv 85)])))))))
 (.af false [
 oX 192 (.aB 1 6),
 oX 193 (.load false 1 192),
 oX 194 (.load true 4 11),
 oX 195 (.gA gX [194]),
 oX 196 (.append false gX 48 193 195),
 oX 197 (.aB 1 6),
 uX (.store 1 197 196)]))))))))))))
 (.af false [
 oX 198 (.bin .add 36 (kX 1)),
 oX 36 (.mv 198)]))))))))
 (.seq
 (.seq
 (.af false [
 oX 199 (.load true 2 6),
 oX 200 (.call .aj 23 [199]),
 oX 201 (.un .not 200)])
 (.cond 201
 (.seq
 (.af false [
 oX 202 (.build [zX,.nil gX] []),
 uX (.store 2 4 202),
 oX 5 (.mv (.k (.one (.v (.bool) (false)))))])
 .ret)
 .skip))
 (.seq
 (.af false [
 oX 203 (.load true 2 6),
 uX (.store 2 4 203),
 oX 5 (.mv (.k (.one (.v (.bool) (true)))))])
 .ret)))))))
def Nm:List cD:=[.cell 4 2 true,.tmp 5]
theorem ahW (NN:Nat) (x:bA (ax.bz D4)):eD NN [Kd,Bk] Pn Nm D4 Ox x=Iq NN x:=by kernel_rfl
theorem afT:dz pX 6 Pn.er Nm 2=true:=by decide+kernel
theorem aiX:dO pX 6 J8.M/\ca pX 6=true:=
  eR (T:=[Kd,Bk]) (sc:=Pn) (ms:=Nm) (args:=D4) (aG:=Ox) (bn.cons ai1<|bn.cons Xs<|bn.nil) dV afT tp fun x y h=>(ahW bh x).trans (acr x y h)
def JH:ar:=⟨66,Dy,agU,N2,xz⟩
def OS:cg:=
 (.seq
 (.af false [
 oX 2 (.mv (.k (.one (.v (.bool) (false)))))])
 (.seq
 (.seq
 (.af false [
 oX 4 (.mv 0),
 oX 5 (.bin .lss 4 (kX 2)),
 oX 6 (.mv 5),
 ⟨(some 7),.mv 0,(some (6,false))⟩,
 ⟨(some 8),.bin .gtr 7 (kX 1000003),(some (6,false))⟩,
 oX 9 (.pick 6 (.k (.one (.v (.bool) (true)))) 8)])
 (.cond 9
 (.seq
 (.af false [
 oX 2 (.mv (.k (.one (.v (.bool) (false)))))])
 .ret)
 .skip))
 (.seq
 (.seq
 (.af false [
 oX 3 (.mv (kX 2))])
 (.join ⟨[],[]⟩ [] []
 (.block 0
 (.loop 0 ⟨[(0,sX),(3,sX)],[]⟩ [] []
 (.seq
 (.seq
 (.af false [
 oX 10 (.mv 3),
 oX 11 (.mv 3),
 oX 12 (.bin .mul 10 11),
 oX 13 (.mv 0),
 oX 14 (.bin .leq 12 13)])
 (.cond 14
 .skip
 (.exit 0)))
 (.seq
 (.block 1
 (.seq
 (.af false [
 oX 17 (.mv 0),
 oX 18 (.mv 3),
 oX 19 (.bin .rem 17 18),
 oX 20 (.bin .eql 19 (kX 0))])
 (.cond 20
 (.seq
 (.af false [
 oX 2 (.mv (.k (.one (.v (.bool) (false)))))])
 .ret)
 .skip)))
 (.af false [
 oX 15 (.mv 3),
 oX 16 (.bin .add 15 (kX 1)),
 oX 3 (.mv 16)])))))))
 (.seq
 (.af false [
 oX 2 (.mv (.k (.one (.v (.bool) (true)))))])
 .ret))))
def MN:List cD:=[.tmp 2]
theorem ahu (NN:Nat) (x:bA (ax.bz Dy)):eD NN [] OS MN Dy N2 x=HW NN x:=by kernel_rfl
theorem afr:dz pX 66 OS.er MN 1=true:=by decide+kernel
theorem aiv:dO pX 66 JH.M/\ca pX 66=true:=
  eR (T:=[]) (sc:=OS) (ms:=MN) (args:=Dy) (aG:=N2) (bn.nil) dV afr xz fun x y h=>(ahu bh x).trans (abX x y h)
def JN:ar:=⟨88,DF,agZ,N8,xB⟩
def OY:cg:=
 (.seq
 (.af false [
 oX 4 (.mv (.k (.one (.v (.bool) (false)))))])
 (.seq
 (.seq
 (.af false [
 oX 7 (.mv 1),
 oX 8 (.len 7),
 oX 9 (.mv (kX 0))])
 (.join ⟨[],[]⟩ [] []
 (.block 0
 (.loop 0 ⟨[(0,sX),(7,.one (.c (.v (lX)))),(8,sX),(9,sX)],[]⟩ [] []
 (.seq
 (.af false [
 oX 10 (.bin .lss 9 8)])
 (.seq
 (.cond 10
 .skip
 (.exit 0))
 (.seq
 (.block 1
 (.seq
 (.af false [
 oX 11 (.cR 1 7 9),
 oX 12 (.load false 1 11),
 oX 6 (.mv 12)])
 (.seq
 (.af false [
 oX 13 (.mv 6),
 oX 14 (.bin .lss 13 (kX 0)),
 oX 15 (.mv 14),
 ⟨(some 16),.mv 6,(some (15,false))⟩,
 ⟨(some 17),.mv 0,(some (15,false))⟩,
 ⟨(some 18),.bin .geq 16 17,(some (15,false))⟩,
 oX 19 (.pick 15 (.k (.one (.v (.bool) (true)))) 18)])
 (.cond 19
 (.seq
 (.af false [
 oX 4 (.mv (.k (.one (.v (.bool) (false)))))])
 .ret)
 .skip))))
 (.af false [
 oX 20 (.bin .add 9 (kX 1)),
 oX 9 (.mv 20)]))))))))
 (.seq
 (.af false [
 oX 4 (.mv (.k (.one (.v (.bool) (true)))))])
 .ret)))
def MU:List cD:=[.tmp 4]
theorem ahA (NN:Nat) (x:bA (ax.bz DF)):eD NN [] OY MU DF N8 x=HZ NN x:=by kernel_rfl
theorem afx:dz pX 88 OY.er MU 2=true:=by decide+kernel
theorem aiB:dO pX 88 JN.M/\ca pX 88=true:=
  eR (T:=[]) (sc:=OY) (ms:=MU) (args:=DF) (aG:=N8) (bn.nil) dV afx xB fun x y h=>(ahA bh x).trans (ab3 x y h)
def JP:ar:=⟨67,DH,ag1,Oa,vp⟩
def O0:cg:=
 (.seq
 (.af false [
 oX 3 (.box 4 1),
 oX 4 (.mv (.k (.one (.v (.bool) (false)))))])
 (.seq
 (.seq
 (.af false [
 oX 5 (.aB 0 3),
 oX 6 (.load false 1 5),
 oX 7 (.bin .lss 6 (kX 0)),
 oX 8 (.mv 7),
 ⟨(some 9),.aB 0 3,(some (8,false))⟩,
 ⟨(some 10),.load false 1 9,(some (8,false))⟩,
 ⟨(some 11),.bin .gtr 10 (kX 32),(some (8,false))⟩,
 oX 12 (.pick 8 (.k (.one (.v (.bool) (true)))) 11),
 oX 13 (.mv 12),
 ⟨(some 14),.aB 2 3,(some (13,false))⟩,
 ⟨(some 15),.load false 1 14,(some (13,false))⟩,
 ⟨(some 16),.bin .lss 15 (kX 0),(some (13,false))⟩,
 oX 17 (.pick 13 (.k (.one (.v (.bool) (true)))) 16),
 oX 18 (.mv 17),
 ⟨(some 19),.aB 2 3,(some (18,false))⟩,
 ⟨(some 20),.load false 1 19,(some (18,false))⟩,
 ⟨(some 21),.bin .gtr 20 (kX 32),(some (18,false))⟩,
 oX 22 (.pick 18 (.k (.one (.v (.bool) (true)))) 21),
 oX 23 (.mv 22),
 ⟨(some 24),.aB 1 3,(some (23,false))⟩,
 ⟨(some 25),.load false 1 24,(some (23,false))⟩,
 ⟨(some 26),.bin .lss 25 (kX 1),(some (23,false))⟩,
 oX 27 (.pick 23 (.k (.one (.v (.bool) (true)))) 26),
 oX 28 (.mv 27),
 ⟨(some 29),.aB 1 3,(some (28,false))⟩,
 ⟨(some 30),.load false 1 29,(some (28,false))⟩,
 ⟨(some 31),.bin .gtr 30 (kX 8),(some (28,false))⟩,
 oX 32 (.pick 28 (.k (.one (.v (.bool) (true)))) 31)])
 (.cond 32
 (.seq
 (.af false [
 oX 4 (.mv (.k (.one (.v (.bool) (false)))))])
 .ret)
 .skip))
 (.seq
 (.af false [
 oX 33 (.aB 3 3),
 oX 34 (.load false 1 33),
 oX 35 (.len 34),
 oX 36 (.aB 0 3),
 oX 37 (.load false 1 36),
 oX 38 (.aB 1 3),
 oX 39 (.load false 1 38),
 oX 40 (.bin .mul 37 39),
 oX 41 (.aB 2 3),
 oX 42 (.load false 1 41),
 oX 43 (.bin .mul 40 42),
 oX 44 (.bin .eql 35 43),
 oX 45 (.mv 44),
 ⟨(some 46),.mv 0,(some (45,true))⟩,
 ⟨(some 47),.aB 3 3,(some (45,true))⟩,
 ⟨(some 48),.load false 1 47,(some (45,true))⟩,
 ⟨(some 49),.call .aj 88 [46,48],(some (45,true))⟩,
 oX 50 (.pick 45 49 (.k (.one (.v (.bool) (false))))),
 oX 4 (.mv 50)])
 .ret)))
def MZ:List cD:=[.tmp 4]
theorem ahC (NN:Nat) (x:bA (ax.bz DH)):eD NN [JN] O0 MZ DH Oa x=H5 NN x:=by kernel_rfl
theorem afz:dz pX 67 O0.er MZ 2=true:=by decide+kernel
theorem aiD:dO pX 67 JP.M/\ca pX 67=true:=
  eR (T:=[JN]) (sc:=O0) (ms:=MZ) (args:=DH) (aG:=Oa) (bn.cons aiB<|bn.nil) dV afz vp fun x y h=>(ahC bh x).trans (ab5 x y h)
def Bj:ar:=⟨27,Dx,agT,N1,ql⟩
def OR:cg:=
 (.seq
 (.af false [
 oX 1 (.box 2 0),
 oX 2 (.mv (.k (.one (.v (.bool) (false)))))])
 (.seq
 (.seq
 (.af false [
 oX 7 (.aB 0 1),
 oX 8 (.load false 1 7),
 oX 9 (.call .aj 66 [8]),
 oX 10 (.un .not 9),
 oX 11 (.mv 10),
 ⟨(some 12),.aB 1 1,(some (11,false))⟩,
 ⟨(some 13),.load false 1 12,(some (11,false))⟩,
 ⟨(some 14),.len 13,(some (11,false))⟩,
 ⟨(some 15),.bin .lss 14 (kX 1),(some (11,false))⟩,
 oX 16 (.pick 11 (.k (.one (.v (.bool) (true)))) 15),
 oX 17 (.mv 16),
 ⟨(some 18),.aB 1 1,(some (17,false))⟩,
 ⟨(some 19),.load false 1 18,(some (17,false))⟩,
 ⟨(some 20),.len 19,(some (17,false))⟩,
 ⟨(some 21),.bin .gtr 20 (kX 8),(some (17,false))⟩,
 oX 22 (.pick 17 (.k (.one (.v (.bool) (true)))) 21)])
 (.cond 22
 (.seq
 (.af false [
 oX 2 (.mv (.k (.one (.v (.bool) (false)))))])
 .ret)
 .skip))
 (.seq
 (.af false [
 oX 3 (.mv (kX 1)),
 oX 4 (.mv (kX 1))])
 (.seq
 (.seq
 (.af false [
 oX 23 (.aB 1 1),
 oX 24 (.load false 1 23),
 oX 25 (.len 24),
 oX 26 (.mv (kX 0))])
 (.join ⟨[(3,sX),(4,sX)],[]⟩ [1] []
 (.block 0
 (.loop 0 ⟨[(1,.one (rX 1)),(3,sX),(4,sX),(24,.one (.c (.v (.list gX)))),(25,sX),(26,sX)],[(1,.box [vX,.c (.v (.list gX))])]⟩ [1,6] []
 (.seq
 (.af false [
 oX 27 (.bin .lss 26 25)])
 (.seq
 (.cond 27
 .skip
 (.exit 0))
 (.seq
 (.block 1
 (.seq
 (.af false [
 oX 28 (.cR 4 24 26),
 oX 29 (.load true 4 28),
 oX 6 (.alloc [zX,zX,zX,.nil iX]),
 uX (.store 4 6 29)])
 (.seq
 (.seq
 (.af false [
 oX 30 (.aB 0 1),
 oX 31 (.load false 1 30),
 oX 32 (.load true 4 6),
 oX 33 (.call .aj 67 [31,32]),
 oX 34 (.un .not 33),
 oX 35 (.mv 34),
 ⟨(some 36),.aB 0 6,(some (35,false))⟩,
 ⟨(some 37),.load false 1 36,(some (35,false))⟩,
 ⟨(some 38),.mv 3,(some (35,false))⟩,
 ⟨(some 39),.bin .neq 37 38,(some (35,false))⟩,
 oX 40 (.pick 35 (.k (.one (.v (.bool) (true)))) 39)])
 (.cond 40
 (.seq
 (.af false [
 oX 2 (.mv (.k (.one (.v (.bool) (false)))))])
 .ret)
 .skip))
 (.seq
 (.af false [
 oX 41 (.aB 2 6),
 oX 42 (.load false 1 41),
 oX 3 (.mv 42)])
 (.af false [
 oX 43 (.mv 4),
 oX 44 (.aB 1 6),
 oX 45 (.load false 1 44),
 oX 46 (.bin .mul 43 45),
 oX 4 (.mv 46)])))))
 (.af false [
 oX 47 (.bin .add 26 (kX 1)),
 oX 26 (.mv 47)]))))))))
 (.seq
 (.af false [
 oX 48 (.mv 3),
 oX 49 (.bin .eql 48 (kX 1)),
 oX 50 (.mv 49),
 ⟨(some 51),.mv 4,(some (50,true))⟩,
 ⟨(some 52),.bin .leq 51 (kX 4096),(some (50,true))⟩,
 oX 53 (.pick 50 52 (.k (.one (.v (.bool) (false))))),
 oX 2 (.mv 53)])
 .ret)))))
def ML:List cD:=[.tmp 2]
theorem aht (NN:Nat) (x:bA (ax.bz Dx)):eD NN [JH,JP] OR ML Dx N1 x=HV NN x:=by kernel_rfl
theorem afq:dz pX 27 OR.er ML 1=true:=by decide+kernel
theorem Xr:dO pX 27 Bj.M/\ca pX 27=true:=
  eR (T:=[JH,JP]) (sc:=OR) (ms:=ML) (args:=Dx) (aG:=N1) (bn.cons aiv<|bn.cons aiD<|bn.nil) dV afq ql fun x y h=>(aht bh x).trans (abW x y h)
def JL:ar:=⟨39,DD,agX,N6,vo⟩
def OW:cg:=
 (.seq
 (.af false [
 oX 1 (.box 2 0),
 oX 2 (.mv (.k (.one (.nil iX))))])
 (.seq
 (.af false [
 oX 3 (.mv (.k (.one (.nil iX))))])
 (.seq
 (.seq
 (.af false [
 oX 6 (.aB 1 1),
 oX 7 (.load false 1 6),
 oX 8 (.len 7),
 oX 9 (.mv (kX 0))])
 (.join ⟨[(3,.one (fX 500001 1))],[(500001,.row true .aj iX)]⟩ [500000,500001] [(false,3,0,500001,.aj,[])]
 (.block 0
 (.loop 0 ⟨[(3,.one (fX 500000 1)),(7,.one (.c (.v (.list gX)))),(8,sX),(9,sX)],[(500000,.row true .aj iX)]⟩ [1,5,16,17,500000] [(false,3,0,500000,.aj,[])]
 (.seq
 (.af false [
 oX 10 (.bin .lss 9 8)])
 (.seq
 (.cond 10
 .skip
 (.exit 0))
 (.seq
 (.block 1
 (.seq
 (.af false [
 oX 11 (.cR 4 7 9),
 oX 12 (.load true 4 11),
 oX 5 (.alloc [zX,zX,zX,.nil iX]),
 uX (.store 4 5 12)])
 (.af false [
 oX 13 (.mv 3),
 oX 14 (.aB 1 5),
 oX 15 (.load false 1 14),
 oX 16 (.gA iX [15]),
 oX 17 (.append true iX 8 13 16),
 oX 3 (.mv 17)])))
 (.af false [
 oX 18 (.bin .add 9 (kX 1)),
 oX 9 (.mv 18)]))))))))
 (.seq
 (.af false [
 oX 19 (.mv 3),
 oX 2 (.mv 19)])
 .ret))))
def MS:List cD:=[.tmp 2]
theorem ahy (NN:Nat) (x:bA (ax.bz DD)):eD NN [] OW MS DD N6 x=QG NN x:=by kernel_rfl
theorem afv:dz pX 39 OW.er MS 1=true:=by decide+kernel
theorem aiz:dO pX 39 JL.M/\ca pX 39=true:=
  eR (T:=[]) (sc:=OW) (ms:=MS) (args:=DD) (aG:=N6) (bn.nil) dV afv vo fun x y h=>(ahy bh x).trans (ab1 x y h)
def JM:ar:=⟨63,DE,agY,N7,xA⟩
def OX:cg:=
 (.seq
 (.af false [
 oX 4 (.mv (.k (.one (.v (.bool) (false)))))])
 (.seq
 (.seq
 (.af false [
 oX 6 (.mv 0),
 oX 7 (.len 6),
 oX 8 (.mv 1),
 oX 9 (.len 8),
 oX 10 (.bin .neq 7 9)])
 (.cond 10
 (.seq
 (.af false [
 oX 4 (.mv (.k (.one (.v (.bool) (false)))))])
 .ret)
 .skip))
 (.seq
 (.seq
 (.af false [
 oX 11 (.mv 0),
 oX 12 (.len 11),
 oX 13 (.mv (kX 0))])
 (.join ⟨[],[]⟩ [] []
 (.block 0
 (.loop 0 ⟨[(0,.one (.c (.v (lX)))),(1,.one (.c (.v (lX)))),(12,sX),(13,sX)],[]⟩ [] []
 (.seq
 (.af false [
 oX 14 (.bin .lss 13 12)])
 (.seq
 (.cond 14
 .skip
 (.exit 0))
 (.seq
 (.block 1
 (.seq
 (.af false [
 oX 15 (.mv 13),
 oX 5 (.mv 15)])
 (.seq
 (.af true [
 oX 16 (.mv 0),
 oX 17 (.mv 5),
 oX 18 (.cR 1 16 17),
 oX 19 (.load false 1 18),
 oX 20 (.mv 1),
 oX 21 (.mv 5),
 oX 22 (.cR 1 20 21),
 oX 23 (.load false 1 22),
 oX 24 (.bin .neq 19 23)])
 (.cond 24
 (.seq
 (.af false [
 oX 4 (.mv (.k (.one (.v (.bool) (false)))))])
 .ret)
 .skip))))
 (.af false [
 oX 25 (.bin .add 13 (kX 1)),
 oX 13 (.mv 25)]))))))))
 (.seq
 (.af false [
 oX 4 (.mv (.k (.one (.v (.bool) (true)))))])
 .ret))))
def MT:List cD:=[.tmp 4]
theorem ahz (NN:Nat) (x:bA (ax.bz DE)):eD NN [] OX MT DE N7 x=HY NN x:=by kernel_rfl
theorem afw:dz pX 63 OX.er MT 2=true:=by decide+kernel
theorem aiA:dO pX 63 JM.M/\ca pX 63=true:=
  eR (T:=[]) (sc:=OX) (ms:=MT) (args:=DE) (aG:=N7) (bn.nil) dV afw xA fun x y h=>(ahz bh x).trans (ab2 x y h)
def JO:ar:=⟨25,DG,ag0,N9,xC⟩
def OZ:cg:=
 (.seq
 (.af false [
 oX 2 (.box 2 0),
 oX 3 (.box 2 1),
 oX 4 (.mv (.k (.one (.v (.bool) (false)))))])
 (.seq
 (.af true [
 oX 5 (.load true 2 2),
 oX 6 (.call .aj 27 [5]),
 oX 7 (.mv 6),
 ⟨(some 8),.load true 2 3,(some (7,true))⟩,
 ⟨(some 9),.call .aj 27 [8],(some (7,true))⟩,
 oX 10 (.pick 7 9 (.k (.one (.v (.bool) (false))))),
 oX 11 (.mv 10),
 ⟨(some 12),.aB 0 2,(some (11,true))⟩,
 ⟨(some 13),.load false 1 12,(some (11,true))⟩,
 ⟨(some 14),.aB 0 3,(some (11,true))⟩,
 ⟨(some 15),.load false 1 14,(some (11,true))⟩,
 ⟨(some 16),.bin .eql 13 15,(some (11,true))⟩,
 oX 17 (.pick 11 16 (.k (.one (.v (.bool) (false))))),
 oX 18 (.mv 17),
 ⟨(some 19),.load true 2 2,(some (18,true))⟩,
 ⟨(some 20),.call .aj 39 [19],(some (18,true))⟩,
 ⟨(some 21),.load true 2 3,(some (18,true))⟩,
 ⟨(some 22),.call .aj 39 [21],(some (18,true))⟩,
 ⟨(some 23),.call .aj 63 [20,22],(some (18,true))⟩,
 oX 24 (.pick 18 23 (.k (.one (.v (.bool) (false))))),
 oX 4 (.mv 24)])
 .ret))
def MY:List cD:=[.tmp 4]
theorem ahB (NN:Nat) (x:bA (ax.bz DG)):eD NN [Bj,JL,JM] OZ MY DG N9 x=H4 NN x:=by kernel_rfl
theorem afy:dz pX 25 OZ.er MY 2=true:=by decide+kernel
theorem aiC:dO pX 25 JO.M/\ca pX 25=true:=
  eR (T:=[Bj,JL,JM]) (sc:=OZ) (ms:=MY) (args:=DG) (aG:=N9) (bn.cons Xr<|bn.cons aiz<|bn.cons aiA<|bn.nil) dV afy xC fun x y h=>(ahB bh x).trans (ab4 x y h)
def JI:ar:=⟨65,Dz,agV,N3,vm⟩
def OT:cg:=
 (.seq
 (.af false [
 oX 4 (.box 4 0),
 oX 8 (.mv (kX 0))])
 (.seq
 (.af false [
 oX 9 (.aB 3 4),
 oX 10 (.load false 1 9),
 oX 11 (.mv 1),
 oX 12 (.aB 1 4),
 oX 13 (.load false 1 12),
 oX 14 (.bin .mul 11 13),
 oX 15 (.mv 2),
 oX 16 (.bin .add 14 15),
 oX 17 (.aB 2 4),
 oX 18 (.load false 1 17),
 oX 19 (.bin .mul 16 18),
 oX 20 (.mv 3),
 oX 21 (.bin .add 19 20),
 oX 22 (.cR 1 10 21),
 oX 23 (.load false 1 22),
 oX 8 (.mv 23)])
 .ret))
def MP:List cD:=[.tmp 8]
theorem ahv (NN:Nat) (x:bA (ax.bz Dz)):eD NN [] OT MP Dz N3 x=HX NN x:=by kernel_rfl
theorem afs:dz pX 65 OT.er MP 4=true:=by decide+kernel
theorem aiw:dO pX 65 JI.M/\ca pX 65=true:=
  eR (T:=[]) (sc:=OT) (ms:=MP) (args:=Dz) (aG:=N3) (bn.nil) dV afs vm fun x y h=>(ahv bh x).trans (abY x y h)
def JK:ar:=⟨64,DB,Gg,N5,rJ⟩
def OV:cg:=
 (.seq
 (.af false [
 oX 5 (.box 4 0)])
 (.seq
 (.af false [
 oX 8 (.mv (kX 0))])
 (.block 0
 (.loop 0 ⟨[(1,sX),(2,sX),(3,.one (.c (.bD gX 0 3 1000000 1))),(4,.one (.c (.bV iX 0))),(5,.one (rX 5)),(8,sX)],[(1000000,.row false .aj iX),(5,.box [vX,vX,vX,.c (.v (lX))])]⟩ [1000000,5] []
 (.seq
 (.seq
 (.af false [
 oX 12 (.mv 8),
 oX 13 (.aB 0 5),
 oX 14 (.load false 1 13),
 oX 15 (.bin .lss 12 14)])
 (.cond 15
 .skip
 (.exit 0)))
 (.seq
 (.join ⟨[(8,sX),(1,sX),(2,sX),(3,.one (.c (.bD gX 0 3 1000000 1))),(4,.one (.c (.bV iX 0))),(5,.one (rX 5))],[(1000000,.row false .aj iX),(5,.box [vX,vX,vX,.c (.v (lX))])]⟩ [1000000,5] []
 (.block 1
 (.seq
 (.af false [
 oX 9 (.mv (kX 0))])
 (.block 2
 (.loop 0 ⟨[(1,sX),(2,sX),(3,.one (.c (.bD gX 0 3 1000000 1))),(4,.one (.c (.bV iX 0))),(5,.one (rX 5)),(8,sX),(9,sX)],[(1000000,.row false .aj iX),(5,.box [vX,vX,vX,.c (.v (lX))])]⟩ [1000000,5] []
 (.seq
 (.seq
 (.af false [
 oX 18 (.mv 9),
 oX 19 (.aB 1 5),
 oX 20 (.load false 1 19),
 oX 21 (.bin .lss 18 20)])
 (.cond 21
 .skip
 (.exit 2)))
 (.seq
 (.join ⟨[(9,sX),(1,sX),(2,sX),(3,.one (.c (.bD gX 0 3 1000000 1))),(4,.one (.c (.bV iX 0))),(5,.one (rX 5)),(8,sX)],[(1000000,.row false .aj iX),(5,.box [vX,vX,vX,.c (.v (lX))])]⟩ [1000000,5] []
 (.block 3
 (.seq
 (.af false [
 oX 10 (.mv (kX 0))])
 (.block 4
 (.loop 0 ⟨[(1,sX),(2,sX),(3,.one (.c (.bD gX 0 3 1000000 1))),(4,.one (.c (.bV iX 0))),(5,.one (rX 5)),(8,sX),(9,sX),(10,sX)],[(1000000,.row false .aj iX),(5,.box [vX,vX,vX,.c (.v (lX))])]⟩ [1000000,5] []
 (.seq
 (.seq
 (.af false [
 oX 24 (.mv 10),
 oX 25 (.aB 2 5),
 oX 26 (.load false 1 25),
 oX 27 (.bin .lss 24 26)])
 (.cond 27
 .skip
 (.exit 4)))
 (.seq
 (.block 5
 (.seq
 (.af false [
 oX 30 (.mv 1),
 oX 31 (.mv 8),
 oX 32 (.bin .add 30 31),
 oX 33 (.aB 1 3),
 oX 34 (.load false 1 33),
 oX 35 (.bin .mul 32 34),
 oX 36 (.mv 9),
 oX 37 (.bin .add 35 36),
 oX 38 (.aB 2 3),
 oX 39 (.load false 1 38),
 oX 40 (.bin .mul 37 39),
 oX 41 (.mv 2),
 oX 42 (.bin .add 40 41),
 oX 43 (.mv 10),
 oX 44 (.bin .add 42 43),
 oX 11 (.mv 44)])
 (.af true [
 oX 45 (.aB 3 3),
 oX 46 (.load false 1 45),
 oX 47 (.mv 11),
 oX 48 (.aB 3 3),
 oX 49 (.load false 1 48),
 oX 50 (.mv 11),
 oX 51 (.cR 1 49 50),
 oX 52 (.load false 1 51),
 oX 53 (.load true 4 5),
 oX 54 (.mv 8),
 oX 55 (.mv 9),
 oX 56 (.mv 10),
 oX 57 (.call .aj 65 [53,54,55,56]),
 oX 58 (.bin .add 52 57),
 oX 59 (.load false 1 4),
 oX 60 (.bin .rem 58 59),
 oX 61 (.cR 1 46 47),
 uX (.store 1 61 60)])))
 (.af false [
 oX 28 (.mv 10),
 oX 29 (.bin .add 28 (kX 1)),
 oX 10 (.mv 29)]))))))))
 (.af false [
 oX 22 (.mv 9),
 oX 23 (.bin .add 22 (kX 1)),
 oX 9 (.mv 23)]))))))))
 (.af false [
 oX 16 (.mv 8),
 oX 17 (.bin .add 16 (kX 1)),
 oX 8 (.mv 17)])))))))
def MR:List cD:=[]
theorem ahx (NN:Nat) (x:bA (ax.bz DB)):zR NN [JI] OV MR DB Gg N5 x=Dp NN x:=by kernel_rfl
theorem afu:dz pX 64 OV.er MR 5=true:=by decide+kernel
theorem aiy:rP pX 64 Gg JK.MM/\ca pX 64=true:=
  Gl (T:=[JI]) (sc:=OV) (ms:=MR) (args:=DB) (mu:=Gg) (aG:=N5) (bn.cons aiw<|bn.nil) dV afu rJ fun x y h=>(ahx bh x).trans (ab0 x y h)
def JJ:ar:=⟨26,DA,agW,N4,vn⟩
def OU:cg:=
 (.seq
 (.af false [
 oX 5 (.box 1 0),
 oX 6 (.box 4 1),
 oX 7 (.box 4 2),
 oX 10 (.alloc [zX,zX,zX,.nil iX])])
 (.seq
 (.af false [
 oX 15 (.aB 0 6),
 oX 16 (.load false 1 15),
 oX 17 (.aB 0 7),
 oX 18 (.load false 1 17),
 oX 19 (.bin .add 16 18),
 oX 20 (.aB 1 6),
 oX 21 (.load false 1 20),
 oX 22 (.aB 2 6),
 oX 23 (.load false 1 22),
 oX 24 (.aB 2 7),
 oX 25 (.load false 1 24),
 oX 26 (.bin .add 23 25),
 oX 27 (.build [zX,zX,zX,.nil iX] [(0,1,19),(1,1,21),(2,1,26)]),
 oX 11 (.alloc [zX,zX,zX,.nil iX]),
 uX (.store 4 11 27)])
 (.seq
 (.af true [
 oX 28 (.aB 0 6),
 oX 29 (.load false 1 28),
 oX 30 (.aB 2 6),
 oX 31 (.load false 1 30),
 oX 12 (.mv 29),
 oX 13 (.mv 31)])
 (.seq
 (.seq
 (.af false [
 oX 32 (.mv 3)])
 (.join ⟨[(4,.one (.c (.v (.bool)))),(5,.one (rX 5)),(6,.one (rX 6)),(7,.one (rX 7)),(12,sX),(13,sX),(11,.one (rX 11)),(10,.one (rX 10))],[(5,.box [vX]),(6,.box [vX,vX,vX,.c (.v (lX))]),(7,.box [vX,vX,vX,.c (.v (lX))]),(10,.box [vX,vX,vX,fX 500000 1]),(11,.box [vX,vX,vX,fX 500001 1]),(500000,.row true .aj iX),(500001,.row true .aj iX)]⟩ [5,6,7,10,11,500000,500001] [(true,10,3,500000,.aj,[]),(true,11,3,500001,.aj,[])]
 (.cond 32
 (.af false [
 oX 33 (.aB 0 11),
 uX (.store 1 33 (kX 1)),
 oX 12 (.mv (kX 0))])
 .skip)))
 (.seq
 (.seq
 (.af false [
 oX 34 (.mv 4)])
 (.join ⟨[(5,.one (rX 5)),(6,.one (rX 6)),(7,.one (rX 7)),(12,sX),(13,sX),(11,.one (rX 11)),(10,.one (rX 10))],[(5,.box [vX]),(6,.box [vX,vX,vX,.c (.v (lX))]),(7,.box [vX,vX,vX,.c (.v (lX))]),(10,.box [vX,vX,vX,fX 500002 1]),(11,.box [vX,vX,vX,fX 500003 1]),(500002,.row true .aj iX),(500003,.row true .aj iX)]⟩ [5,6,7,10,11,500000,500001,500002,500003] [(true,10,3,500002,.aj,[]),(true,11,3,500003,.aj,[])]
 (.cond 34
 (.af false [
 oX 35 (.aB 2 11),
 uX (.store 1 35 (kX 1)),
 oX 13 (.mv (kX 0))])
 .skip)))
 (.seq
 (.af false [
 oX 36 (.aB 0 11),
 oX 37 (.load false 1 36),
 oX 38 (.aB 1 11),
 oX 39 (.load false 1 38),
 oX 40 (.bin .mul 37 39),
 oX 41 (.aB 2 11),
 oX 42 (.load false 1 41),
 oX 43 (.bin .mul 40 42),
 oX 44 (.kg .aj iX 8 (0:Int) 43 43),
 oX 45 (.aB 3 11),
 uX (.store 1 45 44)])
 (.seq
 (.af false [
 oX 46 (.mF 64 [11,5]),
 oX 14 (.mv 46)])
 (.seq
 (.af false [
 oX 47 (.mv 14),
 oX 48 (.load true 4 6),
 oX 49 (.kz .aj 64 47 [48,(kX 0),(kX 0)])])
 (.seq
 (.af false [
 oX 50 (.mv 14),
 oX 51 (.load true 4 7),
 oX 52 (.mv 12),
 oX 53 (.mv 13),
 oX 54 (.kz .aj 64 50 [51,52,53])])
 (.seq
 (.af false [
 oX 55 (.load true 4 11),
 uX (.store 4 10 55)])
 .ret))))))))))
def MQ:List cD:=[.cell 10 4 true]
theorem ahw (NN:Nat) (x:bA (ax.bz DA)):eD NN [JK] OU MQ DA N4 x=Dn NN x:=by kernel_rfl
theorem aft:dz pX 26 OU.er MQ 5=true:=by decide+kernel
theorem aix:dO pX 26 JJ.M/\ca pX 26=true:=
  eR (T:=[JK]) (sc:=OU) (ms:=MQ) (args:=DA) (aG:=N4) (bn.EE aiy<|bn.nil) dV aft vn fun x y h=>(ahw bh x).trans (abZ x y h)
def JG:ar:=⟨8,Dw,agS,N0,vl⟩
def OQ:cg:=
 (.seq
 (.af false [
 oX 2 (.box 2 0),
 oX 3 (.box 2 1),
 oX 4 (.alloc [zX,.nil gX]),
 oX 5 (.mv (.k (.one (.v (.bool) (false)))))])
 (.seq
 (.seq
 (.af false [
 oX 9 (.load true 2 2),
 oX 10 (.load true 2 3),
 oX 11 (.call .aj 25 [9,10]),
 oX 12 (.un .not 11)])
 (.cond 12
 (.seq
 (.af false [
 oX 13 (.build [zX,.nil gX] []),
 uX (.store 2 4 13),
 oX 5 (.mv (.k (.one (.v (.bool) (false)))))])
 .ret)
 .skip))
 (.seq
 (.af false [
 oX 14 (.aB 0 2),
 oX 15 (.load false 1 14),
 oX 16 (.build [zX,.nil gX] [(0,1,15)]),
 oX 6 (.alloc [zX,.nil gX]),
 uX (.store 2 6 16)])
 (.seq
 (.seq
 (.af false [
 oX 17 (.aB 1 2),
 oX 18 (.load false 1 17),
 oX 19 (.len 18),
 oX 20 (.mv (kX 0))])
 (.join ⟨[(6,.one (rX 6)),(4,.one (rX 4))],[(4,.box [vX,fX 500002 4]),(6,.box [vX,fX 500003 4]),(500002,.row true .aj gX),(500003,.row true .aj gX)]⟩ [2,3,4,6,500000,500001,500002,500003] [(true,4,1,500002,.aj,[]),(true,6,1,500003,.aj,[])]
 (.block 0
 (.loop 0 ⟨[(2,.one (rX 2)),(3,.one (rX 3)),(4,.one (rX 4)),(6,.one (rX 6)),(18,.one (.c (.v (.list gX)))),(19,sX),(20,sX)],[(2,.box [vX,.c (.v (.list gX))]),(3,.box [vX,.c (.v (.list gX))]),(4,.box [vX,fX 500000 4]),(6,.box [vX,fX 500001 4]),(500000,.row true .aj gX),(500001,.row true .aj gX)]⟩ [2,3,4,6,8,45,500000,500001] [(true,4,1,500000,.aj,[]),(true,6,1,500001,.aj,[])]
 (.seq
 (.af false [
 oX 21 (.bin .lss 20 19)])
 (.seq
 (.cond 21
 .skip
 (.exit 0))
 (.seq
 (.block 1
 (.seq
 (.af false [
 oX 22 (.mv 20),
 oX 23 (.cR 4 18 20),
 oX 24 (.load true 4 23),
 oX 8 (.alloc [zX,zX,zX,.nil iX]),
 oX 7 (.mv 22),
 uX (.store 4 8 24)])
 (.sV [(0,19),(1,19)] [
 oX 25 (.aB 1 6),
 oX 26 (.load false 1 25),
 oX 27 (.aB 0 2),
 oX 28 (.load false 1 27),
 oX 29 (.load true 4 8),
 oX 30 (.aB 1 3),
 oX 31 (.load false 1 30),
 oX 32 (.mv 7),
 oX 33 (.cR 4 31 32),
 oX 34 (.load true 4 33),
 oX 35 (.mv 7),
 oX 36 (.bin .eql 35 (kX 0)),
 oX 37 (.mv 7),
 oX 38 (.aB 1 2),
 oX 39 (.load false 1 38),
 oX 40 (.len 39),
 oX 41 (.bin .sub 40 (kX 1)),
 oX 42 (.bin .eql 37 41),
 oX 43 (.call .aj 26 [28,29,34,36,42]),
 oX 44 (.gA gX [43]),
 oX 45 (.append false gX 48 26 44),
 oX 46 (.aB 1 6),
 uX (.store 1 46 45)])))
 (.af false [
 oX 47 (.bin .add 20 (kX 1)),
 oX 20 (.mv 47)]))))))))
 (.seq
 (.seq
 (.af false [
 oX 48 (.load true 2 6),
 oX 49 (.call .aj 27 [48]),
 oX 50 (.un .not 49)])
 (.cond 50
 (.seq
 (.af false [
 oX 51 (.build [zX,.nil gX] []),
 uX (.store 2 4 51),
 oX 5 (.mv (.k (.one (.v (.bool) (false)))))])
 .ret)
 .skip))
 (.seq
 (.af false [
 oX 52 (.load true 2 6),
 uX (.store 2 4 52),
 oX 5 (.mv (.k (.one (.v (.bool) (true)))))])
 .ret))))))
def MK:List cD:=[.cell 4 2 true,.tmp 5]
theorem ahs (NN:Nat) (x:bA (ax.bz Dw)):eD NN [JO,JJ,Bj] OQ MK Dw N0 x=HU NN x:=by kernel_rfl
theorem afp:dz pX 8 OQ.er MK 2=true:=by decide+kernel
theorem aiu:dO pX 8 JG.M/\ca pX 8=true:=
  eR (T:=[JO,JJ,Bj]) (sc:=OQ) (ms:=MK) (args:=Dw) (aG:=N0) (bn.cons aiC<|bn.cons aix<|bn.cons Xr<|bn.nil) dV afp vl fun x y h=>(ahs bh x).trans (abV x y h)
def JR:ar:=⟨89,DK,ag4,Od,xD⟩
def O3:cg:=
 (.seq
 (.af false [
 oX 4 (.mv (.k (.one (.v (.bool) (false)))))])
 (.seq
 (.seq
 (.af false [
 oX 6 (.mv 0),
 oX 7 (.len 6),
 oX 8 (.mv 1),
 oX 9 (.len 8),
 oX 10 (.bin .neq 7 9)])
 (.cond 10
 (.seq
 (.af false [
 oX 4 (.mv (.k (.one (.v (.bool) (false)))))])
 .ret)
 .skip))
 (.seq
 (.seq
 (.af false [
 oX 5 (.mv (kX 0))])
 (.join ⟨[],[]⟩ [] []
 (.block 0
 (.loop 0 ⟨[(0,.one (.c (.v (lX)))),(1,.one (.c (.v (lX)))),(5,sX)],[]⟩ [] []
 (.seq
 (.seq
 (.af false [
 oX 11 (.mv 5),
 oX 12 (.mv 0),
 oX 13 (.len 12),
 oX 14 (.bin .lss 11 13)])
 (.cond 14
 .skip
 (.exit 0)))
 (.seq
 (.block 1
 (.seq
 (.af true [
 oX 17 (.mv 0),
 oX 18 (.mv 5),
 oX 19 (.cR 1 17 18),
 oX 20 (.load false 1 19),
 oX 21 (.mv 1),
 oX 22 (.mv 5),
 oX 23 (.cR 1 21 22),
 oX 24 (.load false 1 23),
 oX 25 (.bin .neq 20 24)])
 (.cond 25
 (.seq
 (.af false [
 oX 4 (.mv (.k (.one (.v (.bool) (false)))))])
 .ret)
 .skip)))
 (.af false [
 oX 15 (.mv 5),
 oX 16 (.bin .add 15 (kX 1)),
 oX 5 (.mv 16)])))))))
 (.seq
 (.af false [
 oX 4 (.mv (.k (.one (.v (.bool) (true)))))])
 .ret))))
def M4:List cD:=[.tmp 4]
theorem ahF (NN:Nat) (x:bA (ax.bz DK)):eD NN [] O3 M4 DK Od x=QH NN x:=by kernel_rfl
theorem afC:dz pX 89 O3.er M4 2=true:=by decide+kernel
theorem aiG:dO pX 89 JR.M/\ca pX 89=true:=
  eR (T:=[]) (sc:=O3) (ms:=M4) (args:=DK) (aG:=Od) (bn.nil) dV afC xD fun x y h=>(ahF bh x).trans (ab8 x y h)
def JS:ar:=⟨68,DM,ag5,Oe,xE⟩
def O4:cg:=
 (.seq
 (.af false [
 oX 2 (.box 4 0),
 oX 3 (.box 4 1),
 oX 4 (.mv (.k (.one (.v (.bool) (false)))))])
 (.seq
 (.seq
 (.af false [
 oX 5 (.aB 0 2),
 oX 6 (.load false 1 5),
 oX 7 (.aB 0 3),
 oX 8 (.load false 1 7),
 oX 9 (.bin .neq 6 8)])
 (.cond 9
 (.seq
 (.af false [
 oX 4 (.mv (.k (.one (.v (.bool) (false)))))])
 .ret)
 .skip))
 (.seq
 (.seq
 (.af false [
 oX 10 (.aB 1 2),
 oX 11 (.load false 1 10),
 oX 12 (.aB 1 3),
 oX 13 (.load false 1 12),
 oX 14 (.bin .neq 11 13)])
 (.cond 14
 (.seq
 (.af false [
 oX 4 (.mv (.k (.one (.v (.bool) (false)))))])
 .ret)
 .skip))
 (.seq
 (.seq
 (.af false [
 oX 15 (.aB 2 2),
 oX 16 (.load false 1 15),
 oX 17 (.aB 2 3),
 oX 18 (.load false 1 17),
 oX 19 (.bin .neq 16 18)])
 (.cond 19
 (.seq
 (.af false [
 oX 4 (.mv (.k (.one (.v (.bool) (false)))))])
 .ret)
 .skip))
 (.seq
 (.seq
 (.af false [
 oX 20 (.aB 3 2),
 oX 21 (.load false 1 20),
 oX 22 (.aB 3 3),
 oX 23 (.load false 1 22),
 oX 24 (.call .aj 89 [21,23]),
 oX 25 (.un .not 24)])
 (.cond 25
 (.seq
 (.af false [
 oX 4 (.mv (.k (.one (.v (.bool) (false)))))])
 .ret)
 .skip))
 (.seq
 (.af false [
 oX 4 (.mv (.k (.one (.v (.bool) (true)))))])
 .ret))))))
def M5:List cD:=[.tmp 4]
theorem ahG (NN:Nat) (x:bA (ax.bz DM)):eD NN [JR] O4 M5 DM Oe x=H8 NN x:=by kernel_rfl
theorem afD:dz pX 68 O4.er M5 2=true:=by decide+kernel
theorem aiH:dO pX 68 JS.M/\ca pX 68=true:=
  eR (T:=[JR]) (sc:=O4) (ms:=M5) (args:=DM) (aG:=Oe) (bn.cons aiG<|bn.nil) dV afD xE fun x y h=>(ahG bh x).trans (ab9 x y h)
def JT:ar:=⟨28,DN,ag6,Of,xF⟩
def O5:cg:=
 (.seq
 (.af false [
 oX 4 (.mv (.k (.one (.v (.bool) (false)))))])
 (.seq
 (.seq
 (.af false [
 oX 6 (.mv 0),
 oX 7 (.len 6),
 oX 8 (.mv 1),
 oX 9 (.len 8),
 oX 10 (.bin .neq 7 9)])
 (.cond 10
 (.seq
 (.af false [
 oX 4 (.mv (.k (.one (.v (.bool) (false)))))])
 .ret)
 .skip))
 (.seq
 (.seq
 (.af false [
 oX 5 (.mv (kX 0))])
 (.join ⟨[],[]⟩ [] []
 (.block 0
 (.loop 0 ⟨[(0,.one (.c (.v (.list gX)))),(1,.one (.c (.v (.list gX)))),(5,sX)],[]⟩ [] []
 (.seq
 (.seq
 (.af false [
 oX 11 (.mv 5),
 oX 12 (.mv 0),
 oX 13 (.len 12),
 oX 14 (.bin .lss 11 13)])
 (.cond 14
 .skip
 (.exit 0)))
 (.seq
 (.block 1
 (.seq
 (.af true [
 oX 17 (.mv 0),
 oX 18 (.mv 5),
 oX 19 (.cR 4 17 18),
 oX 20 (.load true 4 19),
 oX 21 (.mv 1),
 oX 22 (.mv 5),
 oX 23 (.cR 4 21 22),
 oX 24 (.load true 4 23),
 oX 25 (.call .aj 68 [20,24]),
 oX 26 (.un .not 25)])
 (.cond 26
 (.seq
 (.af false [
 oX 4 (.mv (.k (.one (.v (.bool) (false)))))])
 .ret)
 .skip)))
 (.af false [
 oX 15 (.mv 5),
 oX 16 (.bin .add 15 (kX 1)),
 oX 5 (.mv 16)])))))))
 (.seq
 (.af false [
 oX 4 (.mv (.k (.one (.v (.bool) (true)))))])
 .ret))))
def M6:List cD:=[.tmp 4]
theorem ahH (NN:Nat) (x:bA (ax.bz DN)):eD NN [JS] O5 M6 DN Of x=QI NN x:=by kernel_rfl
theorem afE:dz pX 28 O5.er M6 2=true:=by decide+kernel
theorem aiI:dO pX 28 JT.M/\ca pX 28=true:=
  eR (T:=[JS]) (sc:=O5) (ms:=M6) (args:=DN) (aG:=Of) (bn.cons aiH<|bn.nil) dV afE xF fun x y h=>(ahH bh x).trans (aca x y h)
def JQ:ar:=⟨9,DI,ag3,Oc,lT⟩
def O2:cg:=
 (.seq
 (.af false [
 oX 2 (.box 2 0),
 oX 3 (.box 2 1),
 oX 4 (.mv (.k (.one (.v (.bool) (false)))))])
 (.seq
 (.seq
 (.af false [
 oX 5 (.aB 0 2),
 oX 6 (.load false 1 5),
 oX 7 (.aB 0 3),
 oX 8 (.load false 1 7),
 oX 9 (.bin .neq 6 8)])
 (.cond 9
 (.seq
 (.af false [
 oX 4 (.mv (.k (.one (.v (.bool) (false)))))])
 .ret)
 .skip))
 (.seq
 (.seq
 (.af false [
 oX 10 (.aB 1 2),
 oX 11 (.load false 1 10),
 oX 12 (.aB 1 3),
 oX 13 (.load false 1 12),
 oX 14 (.call .aj 28 [11,13]),
 oX 15 (.un .not 14)])
 (.cond 15
 (.seq
 (.af false [
 oX 4 (.mv (.k (.one (.v (.bool) (false)))))])
 .ret)
 .skip))
 (.seq
 (.af false [
 oX 4 (.mv (.k (.one (.v (.bool) (true)))))])
 .ret))))
def M3:List cD:=[.tmp 4]
theorem ahE (NN:Nat) (x:bA (ax.bz DI)):eD NN [JT] O2 M3 DI Oc x=H7 NN x:=by kernel_rfl
theorem afB:dz pX 9 O2.er M3 2=true:=by decide+kernel
theorem aiF:dO pX 9 JQ.M/\ca pX 9=true:=
  eR (T:=[JT]) (sc:=O2) (ms:=M3) (args:=DI) (aG:=Oc) (bn.cons aiI<|bn.nil) dV afB lT fun x y h=>(ahE bh x).trans (ab7 x y h)
def JY:ar:=⟨69,DS,Gj,Ok,xI⟩
def Pa:cg:=
 (.seq
 (.af false [
 oX 4 (.mv (kX 0))])
 (.seq
 (.seq
 (.af false [
 oX 5 (.mv (kX 0))])
 (.join ⟨[(1,sX)],[(1000000,.row false .aj iX)]⟩ [1000000] []
 (.block 0
 (.loop 0 ⟨[(0,.one (fX 1000000 1)),(1,sX),(5,sX)],[(1000000,.row false .aj iX)]⟩ [1000000,500000] [(false,0,0,500000,.aj,[])]
 (.seq
 (.seq
 (.af false [
 oX 6 (.mv 5),
 oX 7 (.mv 0),
 oX 8 (.len 7),
 oX 9 (.bin .lss 6 8)])
 (.cond 9
 .skip
 (.exit 0)))
 (.seq
 (.block 1
 (.seq
 (.af false [
 oX 12 (.mv 0),
 oX 13 (.mv 5),
 oX 14 (.mv 1),
 oX 15 (.cR 1 12 13),
 uX (.store 1 15 14)])
 (.af false [
 oX 16 (.mv 1),
 oX 17 (.bin .add 16 (kX 1)),
 oX 1 (.mv 17)])))
 (.af false [
 oX 10 (.mv 5),
 oX 11 (.bin .add 10 (kX 1)),
 oX 5 (.mv 11)])))))))
 (.seq
 (.af false [
 oX 18 (.mv 1),
 oX 4 (.mv 18)])
 .ret)))
def Nb:List cD:=[.tmp 4]
theorem ahM (NN:Nat) (x:bA (ax.bz DS)):zR NN [] Pa Nb DS Gj Ok x=Ie NN x:=by kernel_rfl
theorem afJ:dz pX 69 Pa.er Nb 2=true:=by decide+kernel
theorem aiN:rP pX 69 Gj JY.MM/\ca pX 69=true:=
  Gl (T:=[]) (sc:=Pa) (ms:=Nb) (args:=DS) (mu:=Gj) (aG:=Ok) (bn.nil) dV afJ xI fun x y h=>(ahM bh x).trans (acg x y h)
def JZ:ar:=⟨29,DT,Gk,Ol,xJ⟩
def Pb:cg:=
 (.seq
 (.af false [
 oX 4 (.mv (kX 0))])
 (.seq
 (.seq
 (.af false [
 oX 5 (.mv (kX 0))])
 (.join ⟨[(1,sX)],[(1000000,.row false .live gX)]⟩ [1000000] []
 (.block 0
 (.loop 0 ⟨[(0,.one (fX 1000000 4)),(1,sX),(5,sX)],[(1000000,.row false .live gX)]⟩ [1000000,500000] [(false,0,0,500000,.aj,[])]
 (.seq
 (.seq
 (.af false [
 oX 6 (.mv 5),
 oX 7 (.mv 0),
 oX 8 (.len 7),
 oX 9 (.bin .lss 6 8)])
 (.cond 9
 .skip
 (.exit 0)))
 (.seq
 (.block 1
 (.seq
 (.af false [
 oX 12 (.mv 0),
 oX 13 (.mv 5),
 oX 14 (.mv 1),
 oX 15 (.cR 4 12 13),
 oX 16 (.aB 0 15),
 uX (.store 1 16 14)])
 (.seq
 (.af false [
 oX 17 (.mv 1),
 oX 18 (.bin .add 17 (kX 1)),
 oX 1 (.mv 18)])
 (.seq
 (.af false [
 oX 19 (.mv 0),
 oX 20 (.mv 5),
 oX 21 (.mv 1),
 oX 22 (.cR 4 19 20),
 oX 23 (.aB 1 22),
 uX (.store 1 23 21)])
 (.seq
 (.af false [
 oX 24 (.mv 1),
 oX 25 (.bin .add 24 (kX 1)),
 oX 1 (.mv 25)])
 (.seq
 (.af false [
 oX 26 (.mv 0),
 oX 27 (.mv 5),
 oX 28 (.mv 1),
 oX 29 (.cR 4 26 27),
 oX 30 (.aB 2 29),
 uX (.store 1 30 28)])
 (.seq
 (.af false [
 oX 31 (.mv 1),
 oX 32 (.bin .add 31 (kX 1)),
 oX 1 (.mv 32)])
 (.af false [
 oX 33 (.mv 0),
 oX 34 (.mv 5),
 oX 35 (.cR 4 33 34),
 oX 36 (.aB 3 35),
 oX 37 (.load false 1 36),
 oX 38 (.mv 1),
 oX 39 (.iZ .aj 69 [37,38]),
 oX 1 (.mv 39)]))))))))
 (.af false [
 oX 10 (.mv 5),
 oX 11 (.bin .add 10 (kX 1)),
 oX 5 (.mv 11)])))))))
 (.seq
 (.af false [
 oX 40 (.mv 1),
 oX 4 (.mv 40)])
 .ret)))
def Nc:List cD:=[.tmp 4]
theorem ahN (NN:Nat) (x:bA (ax.bz DT)):zR NN [JY] Pb Nc DT Gk Ol x=Ig NN x:=by kernel_rfl
theorem afK:dz pX 29 Pb.er Nc 2=true:=by decide+kernel
theorem aiO:rP pX 29 Gk JZ.MM/\ca pX 29=true:=
  Gl (T:=[JY]) (sc:=Pb) (ms:=Nc) (args:=DT) (mu:=Gk) (aG:=Ol) (bn.EE aiN<|bn.nil) dV afK xJ fun x y h=>(ahN bh x).trans (ach x y h)
def JX:ar:=⟨10,DR,Gi,Oj,qm⟩
def O9:cg:=
 (.seq
 (.af false [
 oX 2 (.box 2 0),
 oX 4 (.mv (kX 0))])
 (.seq
 (.af false [
 oX 5 (.aB 1 2),
 oX 6 (.load false 1 5),
 oX 7 (.mv 1),
 oX 8 (.iZ .live 29 [6,7]),
 oX 1 (.mv 8)])
 (.seq
 (.af false [
 oX 9 (.mv 1),
 oX 4 (.mv 9)])
 .ret)))
def Na:List cD:=[.tmp 4]
theorem ahL (NN:Nat) (x:bA (ax.bz DR)):zR NN [JZ] O9 Na DR Gi Oj x=Ic NN x:=by kernel_rfl
theorem afI:dz pX 10 O9.er Na 2=true:=by decide+kernel
theorem aiM:rP pX 10 Gi JX.MM/\ca pX 10=true:=
  Gl (T:=[JZ]) (sc:=O9) (ms:=Na) (args:=DR) (mu:=Gi) (aG:=Oj) (bn.EE aiO<|bn.nil) dV afI qm fun x y h=>(ahL bh x).trans (acf x y h)
def JV:ar:=⟨70,DP,ag8,Oh,xG⟩
def O7:cg:=
 (.seq
 (.af false [
 oX 4 (.mv (kX 0))])
 (.seq
 (.seq
 (.af false [
 oX 5 (.mv (kX 0))])
 (.join ⟨[(1,sX)],[]⟩ [] []
 (.block 0
 (.loop 0 ⟨[(0,.one (.c (.v (lX)))),(1,sX),(5,sX)],[]⟩ [] []
 (.seq
 (.seq
 (.af false [
 oX 6 (.mv 5),
 oX 7 (.mv 0),
 oX 8 (.len 7),
 oX 9 (.bin .lss 6 8)])
 (.cond 9
 .skip
 (.exit 0)))
 (.seq
 (.block 1
 (.seq
 (.seq
 (.af false [
 oX 12 (.mv 0),
 oX 13 (.mv 5),
 oX 14 (.cR 1 12 13),
 oX 15 (.load false 1 14),
 oX 16 (.mv 1),
 oX 17 (.bin .neq 15 16)])
 (.cond 17
 (.seq
 (.af false [
 oX 4 (.mv (kX (-1)))])
 .ret)
 .skip))
 (.af false [
 oX 18 (.mv 1),
 oX 19 (.bin .add 18 (kX 1)),
 oX 1 (.mv 19)])))
 (.af false [
 oX 10 (.mv 5),
 oX 11 (.bin .add 10 (kX 1)),
 oX 5 (.mv 11)])))))))
 (.seq
 (.af false [
 oX 20 (.mv 1),
 oX 4 (.mv 20)])
 .ret)))
def M8:List cD:=[.tmp 4]
theorem ahJ (NN:Nat) (x:bA (ax.bz DP)):eD NN [] O7 M8 DP Oh x=Ia NN x:=by kernel_rfl
theorem afG:dz pX 70 O7.er M8 2=true:=by decide+kernel
theorem aiK:dO pX 70 JV.M/\ca pX 70=true:=
  eR (T:=[]) (sc:=O7) (ms:=M8) (args:=DP) (aG:=Oh) (bn.nil) dV afG xG fun x y h=>(ahJ bh x).trans (acd x y h)
def JW:ar:=⟨30,DQ,ag9,Oi,xH⟩
def O8:cg:=
 (.seq
 (.af false [
 oX 4 (.mv (kX 0))])
 (.seq
 (.seq
 (.af false [
 oX 5 (.mv (kX 0))])
 (.join ⟨[(1,sX)],[]⟩ [] []
 (.block 0
 (.loop 0 ⟨[(0,.one (.c (.v (.list gX)))),(1,sX),(5,sX)],[]⟩ [] []
 (.seq
 (.seq
 (.af false [
 oX 6 (.mv 5),
 oX 7 (.mv 0),
 oX 8 (.len 7),
 oX 9 (.bin .lss 6 8)])
 (.cond 9
 .skip
 (.exit 0)))
 (.seq
 (.block 1
 (.seq
 (.seq
 (.af false [
 oX 12 (.mv 0),
 oX 13 (.mv 5),
 oX 14 (.cR 4 12 13),
 oX 15 (.aB 0 14),
 oX 16 (.load false 1 15),
 oX 17 (.mv 1),
 oX 18 (.bin .neq 16 17)])
 (.cond 18
 (.seq
 (.af false [
 oX 4 (.mv (kX (-1)))])
 .ret)
 .skip))
 (.seq
 (.af false [
 oX 19 (.mv 1),
 oX 20 (.bin .add 19 (kX 1)),
 oX 1 (.mv 20)])
 (.seq
 (.seq
 (.af false [
 oX 21 (.mv 0),
 oX 22 (.mv 5),
 oX 23 (.cR 4 21 22),
 oX 24 (.aB 1 23),
 oX 25 (.load false 1 24),
 oX 26 (.mv 1),
 oX 27 (.bin .neq 25 26)])
 (.cond 27
 (.seq
 (.af false [
 oX 4 (.mv (kX (-1)))])
 .ret)
 .skip))
 (.seq
 (.af false [
 oX 28 (.mv 1),
 oX 29 (.bin .add 28 (kX 1)),
 oX 1 (.mv 29)])
 (.seq
 (.seq
 (.af false [
 oX 30 (.mv 0),
 oX 31 (.mv 5),
 oX 32 (.cR 4 30 31),
 oX 33 (.aB 2 32),
 oX 34 (.load false 1 33),
 oX 35 (.mv 1),
 oX 36 (.bin .neq 34 35)])
 (.cond 36
 (.seq
 (.af false [
 oX 4 (.mv (kX (-1)))])
 .ret)
 .skip))
 (.seq
 (.af false [
 oX 37 (.mv 1),
 oX 38 (.bin .add 37 (kX 1)),
 oX 1 (.mv 38)])
 (.seq
 (.af false [
 oX 39 (.mv 0),
 oX 40 (.mv 5),
 oX 41 (.cR 4 39 40),
 oX 42 (.aB 3 41),
 oX 43 (.load false 1 42),
 oX 44 (.mv 1),
 oX 45 (.call .aj 70 [43,44]),
 oX 1 (.mv 45)])
 (.seq
 (.af false [
 oX 46 (.mv 1),
 oX 47 (.bin .lss 46 (kX 0))])
 (.cond 47
 (.seq
 (.af false [
 oX 4 (.mv (kX (-1)))])
 .ret)
 .skip))))))))))
 (.af false [
 oX 10 (.mv 5),
 oX 11 (.bin .add 10 (kX 1)),
 oX 5 (.mv 11)])))))))
 (.seq
 (.af false [
 oX 48 (.mv 1),
 oX 4 (.mv 48)])
 .ret)))
def M9:List cD:=[.tmp 4]
theorem ahK (NN:Nat) (x:bA (ax.bz DQ)):eD NN [JV] O8 M9 DQ Oi x=Ib NN x:=by kernel_rfl
theorem afH:dz pX 30 O8.er M9 2=true:=by decide+kernel
theorem aiL:dO pX 30 JW.M/\ca pX 30=true:=
  eR (T:=[JV]) (sc:=O8) (ms:=M9) (args:=DQ) (aG:=Oi) (bn.cons aiK<|bn.nil) dV afH xH fun x y h=>(ahK bh x).trans (ace x y h)
def JU:ar:=⟨11,DO,ag7,Og,rK⟩
def O6:cg:=
 (.seq
 (.af false [
 oX 2 (.box 2 0),
 oX 4 (.mv (kX 0))])
 (.seq
 (.af false [
 oX 5 (.aB 1 2),
 oX 6 (.load false 1 5),
 oX 7 (.mv 1),
 oX 8 (.call .aj 30 [6,7]),
 oX 1 (.mv 8)])
 (.seq
 (.seq
 (.af false [
 oX 9 (.mv 1),
 oX 10 (.bin .lss 9 (kX 0))])
 (.cond 10
 (.seq
 (.af false [
 oX 4 (.mv (kX (-1)))])
 .ret)
 .skip))
 (.seq
 (.af false [
 oX 11 (.mv 1),
 oX 4 (.mv 11)])
 .ret))))
def M7:List cD:=[.tmp 4]
theorem ahI (NN:Nat) (x:bA (ax.bz DO)):eD NN [JW] O6 M7 DO Og x=H9 NN x:=by kernel_rfl
theorem afF:dz pX 11 O6.er M7 2=true:=by decide+kernel
theorem aiJ:dO pX 11 JU.M/\ca pX 11=true:=
  eR (T:=[JW]) (sc:=O6) (ms:=M7) (args:=DO) (aG:=Og) (bn.cons aiL<|bn.nil) dV afF rK fun x y h=>(ahI bh x).trans (acb x y h)
def E7:ar:=⟨3,tA,ag2,Ob,Dm⟩
def O1:cg:=
 (.seq
 (.af false [
 oX 2 (.box 2 0),
 oX 3 (.box 2 1),
 oX 4 (.mv (.k (.one (.v (.bool) (false)))))])
 (.seq
 (.af false [
 oX 5 (.mv (kX 1048576))])
 (.seq
 (.af false [
 oX 17 (.load true 2 2),
 oX 18 (.mv 5),
 oX 19 (.call .live 5 [17,18]),
 oX 5 (.mv 19)])
 (.seq
 (.seq
 (.af false [
 oX 20 (.mv 5),
 oX 21 (.bin .lss 20 (kX 0))])
 (.cond 21
 (.seq
 (.af false [
 oX 4 (.mv (.k (.one (.v (.bool) (true)))))])
 .ret)
 .skip))
 (.seq
 (.af false [
 oX 22 (.load true 2 3),
 oX 23 (.mv 5),
 oX 24 (.call .live 5 [22,23]),
 oX 5 (.mv 24)])
 (.seq
 (.seq
 (.af false [
 oX 25 (.mv 5),
 oX 26 (.bin .lss 25 (kX 0))])
 (.cond 26
 (.seq
 (.af false [
 oX 4 (.mv (.k (.one (.v (.bool) (true)))))])
 .ret)
 .skip))
 (.seq
 (.af true [
 oX 28 (.load true 2 2),
 oX 29 (.call .live 7 [28]),
 oX 30 (.load true 2 3),
 oX 31 (.call .live 7 [30]),
 oX 32 (.call .live 6 [29,31]),
 oX 27 (.mv 32),
 oX 33 (.ext 0 27),
 oX 34 (.ext 1 27),
 oX 6 (.alloc [zX,.nil gX]),
 uX (.store 2 6 33),
 oX 7 (.mv 34)])
 (.seq
 (.af false [
 oX 35 (.load true 2 2),
 oX 36 (.call .live 7 [35]),
 oX 8 (.alloc [zX,.nil gX]),
 uX (.store 2 8 36)])
 (.seq
 (.af false [
 oX 37 (.load true 2 3),
 oX 38 (.call .live 7 [37]),
 oX 9 (.alloc [zX,.nil gX]),
 uX (.store 2 9 38)])
 (.seq
 (.af false [
 oX 40 (.load true 2 8),
 oX 41 (.load true 2 9),
 oX 42 (.call .live 8 [40,41]),
 oX 39 (.mv 42),
 oX 43 (.ext 0 39),
 oX 44 (.ext 1 39),
 oX 10 (.alloc [zX,.nil gX]),
 uX (.store 2 10 43),
 oX 11 (.mv 44)])
 (.seq
 (.seq
 (.af false [
 oX 45 (.load true 2 10),
 oX 46 (.load true 2 6),
 oX 47 (.call .live 9 [45,46]),
 oX 48 (.un .not 47),
 oX 49 (.mv 48),
 ⟨(some 50),.mv 11,(some (49,false))⟩,
 ⟨(some 51),.mv 7,(some (49,false))⟩,
 ⟨(some 52),.kv .neq 50 51,(some (49,false))⟩,
 oX 53 (.pick 49 (.k (.one (.v (.bool) (true)))) 52)])
 (.cond 53
 (.seq
 (.af false [
 oX 4 (.mv (.k (.one (.v (.bool) (false)))))])
 .ret)
 .skip))
 (.seq
 (.seq
 (.af true [
 oX 54 (.load true 2 8),
 oX 55 (.load true 2 2),
 oX 56 (.call .live 7 [55]),
 oX 57 (.call .live 9 [54,56]),
 oX 58 (.un .not 57)])
 (.cond 58
 (.seq
 (.af false [
 oX 4 (.mv (.k (.one (.v (.bool) (false)))))])
 .ret)
 .skip))
 (.seq
 (.seq
 (.af true [
 oX 59 (.load true 2 9),
 oX 60 (.load true 2 3),
 oX 61 (.call .live 7 [60]),
 oX 62 (.call .live 9 [59,61]),
 oX 63 (.un .not 62)])
 (.cond 63
 (.seq
 (.af false [
 oX 4 (.mv (.k (.one (.v (.bool) (false)))))])
 .ret)
 .skip))
 (.seq
 (.af false [
 oX 12 (.mv (kX 1))])
 (.seq
 (.af false [
 oX 64 (.load true 2 8),
 oX 65 (.mv 12),
 oX 66 (.iZ .live 10 [64,65]),
 oX 12 (.mv 66)])
 (.seq
 (.af false [
 oX 67 (.load true 2 9),
 oX 68 (.mv 12),
 oX 69 (.iZ .live 10 [67,68]),
 oX 12 (.mv 69)])
 (.seq
 (.seq
 (.af false [
 oX 70 (.mv 12),
 oX 71 (.bin .lss 70 (kX 0)),
 oX 72 (.mv 71),
 ⟨(some 73),.load true 2 10,(some (72,false))⟩,
 ⟨(some 74),.load true 2 6,(some (72,false))⟩,
 ⟨(some 75),.call .live 9 [73,74],(some (72,false))⟩,
 ⟨(some 76),.un .not 75,(some (72,false))⟩,
 oX 77 (.pick 72 (.k (.one (.v (.bool) (true)))) 76),
 oX 78 (.mv 77),
 ⟨(some 79),.mv 11,(some (78,false))⟩,
 ⟨(some 80),.mv 7,(some (78,false))⟩,
 ⟨(some 81),.kv .neq 79 80,(some (78,false))⟩,
 oX 82 (.pick 78 (.k (.one (.v (.bool) (true)))) 81)])
 (.cond 82
 (.seq
 (.af false [
 oX 4 (.mv (.k (.one (.v (.bool) (false)))))])
 .ret)
 .skip))
 (.seq
 (.af false [
 oX 13 (.mv (kX 1))])
 (.seq
 (.af false [
 oX 83 (.load true 2 10),
 oX 84 (.mv 13),
 oX 85 (.iZ .live 10 [83,84]),
 oX 13 (.mv 85)])
 (.seq
 (.af false [
 oX 14 (.mv (kX 1))])
 (.seq
 (.af false [
 oX 86 (.load true 2 10),
 oX 87 (.mv 14),
 oX 88 (.call .live 11 [86,87]),
 oX 14 (.mv 88)])
 (.seq
 (.seq
 (.af false [
 oX 89 (.mv 14),
 oX 90 (.bin .lss 89 (kX 0))])
 (.cond 90
 (.seq
 (.af false [
 oX 4 (.mv (.k (.one (.v (.bool) (false)))))])
 .ret)
 .skip))
 (.seq
 (.seq
 (.af false [
 oX 91 (.mv 14),
 oX 92 (.mv 13),
 oX 93 (.bin .neq 91 92)])
 (.cond 93
 (.seq
 (.af false [
 oX 4 (.mv (.k (.one (.v (.bool) (false)))))])
 .ret)
 .skip))
 (.seq
 (.af true [
 oX 95 (.load true 2 2),
 oX 96 (.call .live 7 [95]),
 oX 97 (.load true 2 3),
 oX 98 (.call .live 7 [97]),
 oX 99 (.call .live 8 [96,98]),
 oX 94 (.mv 99),
 oX 100 (.ext 0 94),
 oX 101 (.ext 1 94),
 oX 15 (.alloc [zX,.nil gX]),
 uX (.store 2 15 100),
 oX 16 (.mv 101)])
 (.seq
 (.seq
 (.af false [
 oX 102 (.load true 2 15),
 oX 103 (.load true 2 6),
 oX 104 (.call .live 9 [102,103]),
 oX 105 (.un .not 104),
 oX 106 (.mv 105),
 ⟨(some 107),.mv 16,(some (106,false))⟩,
 ⟨(some 108),.mv 7,(some (106,false))⟩,
 ⟨(some 109),.kv .neq 107 108,(some (106,false))⟩,
 oX 110 (.pick 106 (.k (.one (.v (.bool) (true)))) 109)])
 (.cond 110
 (.seq
 (.af false [
 oX 4 (.mv (.k (.one (.v (.bool) (false)))))])
 .ret)
 .skip))
 (.seq
 (.af false [
 oX 14 (.mv (kX 1))])
 (.seq
 (.af false [
 oX 111 (.load true 2 10),
 oX 112 (.mv 14),
 oX 113 (.call .live 11 [111,112]),
 oX 14 (.mv 113)])
 (.seq
 (.seq
 (.af false [
 oX 114 (.mv 14),
 oX 115 (.bin .lss 114 (kX 0))])
 (.cond 115
 (.seq
 (.af false [
 oX 4 (.mv (.k (.one (.v (.bool) (false)))))])
 .ret)
 .skip))
 (.seq
 (.seq
 (.af false [
 oX 116 (.mv 14),
 oX 117 (.mv 13),
 oX 118 (.bin .neq 116 117)])
 (.cond 118
 (.seq
 (.af false [
 oX 4 (.mv (.k (.one (.v (.bool) (false)))))])
 .ret)
 .skip))
 (.seq
 (.af false [
 oX 4 (.mv (.k (.one (.v (.bool) (true)))))])
 .ret))))))))))))))))))))))))))))))
def M1:List cD:=[.tmp 4]
theorem ahD (NN:Nat) (x:bA (ax.bz tA)):eD NN [J0,J4,J8,JG,JQ,JX,JU] O1 M1 tA Ob x=H6 NN x:=by kernel_rfl
theorem afA:dz pX 3 O1.er M1 2=true:=by decide+kernel
theorem aiE:dO pX 3 E7.M/\ca pX 3=true:=
  eR (T:=[J0,J4,J8,JG,JQ,JX,JU]) (sc:=O1) (ms:=M1) (args:=tA) (aG:=Ob) (bn.cons aiP<|bn.cons aiT<|bn.cons aiX<|bn.cons aiu<|bn.cons aiF<|bn.EE aiM<|bn.cons aiJ<|bn.nil) dV afA Dm fun x y h=>(ahD bh x).trans (ab6 x y h)
end Go.Am
