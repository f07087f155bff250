/- A_FnMinimal: the code of the functions of FnMinimal. No condition. -/
import Derived.Test.YtifmggmhdcdgbaaLFnMinimal
import Derived.Test.YtifmggmhdcdgbaaBr2
import Derived.KernelRfl
import Derived.Test.YtifmggmhdcdgbaaRows
set_option linter.unusedVariables false
set_option maxRecDepth 100000
namespace Go.Am
theorem dK:Go.Proofs.Try.prog.follows .mixedOrders=true:=by decide+kernel
noncomputable abbrev pX:=Go.Proofs.Try.prog
def oX (n:Nat) (x:cC):eM:=⟨some n,x,none⟩
def uX (x:cC):eM:=⟨none,x,none⟩
def kX (n:Int):cB:=.k (.one (.v (.int .i64) n))
def sX:iy:=.one (.c (.v (.int .i64)))
def iX:List Ty:=[.int .i64]
def lX:Ty:=.list iX
def mX:List Ty:=[.int .i64,.int .i64,lX]
def zX:SC:=.v (.int .i64) (0:Int)
def vX:dD:=.c (.v (.int .i64))
def fX (n k:Nat):dD:=.c (.full n k)
def rX (n:Nat):dD:=.c (.DK n 0)
instance tX (n:Nat):OfNat cB n:=⟨.t n⟩
def K9:aJ:=⟨83,FF,ag9,Qp,yZ⟩
def Ra:bT:=
 (.seq
 (.aj false [
 oX 2 (.mv (.k (.one (.bf))))])
 (.seq
 (.aj false [
 oX 5 (.mv 0),
 oX 6 (.len 5),
 oX 7 (.bin .add (kX 55127) 6),
 oX 3 (.mv 7)])
 (.seq
 (.seq
 (.aj false [
 oX 4 (.mv (kX 0))])
 (.join ⟨[(0,.one (.c (.v (.list [.int .u8])))),(3,sX)],[]⟩ [] []
 (.block 0
 (.loop 0 ⟨[(0,.one (.c (.v (.list [.int .u8])))),(3,sX),(4,sX)],[]⟩ [] []
 (.seq
 (.seq
 (.aj false [
 oX 8 (.mv 4),
 oX 9 (.mv 0),
 oX 10 (.len 9),
 oX 11 (.bin .lss 8 10),
 oX 12 (.mv 11),
 ⟨(some 13),.mv 4,(some (12,true))⟩,
 ⟨(some 14),.bin .lss 13 (kX 4000),(some (12,true))⟩,
 oX 15 (.pick 12 14 (.k (.one (.v (.bool) (false)))))])
 (.cond 15
 .skip
 (.exit 0)))
 (.seq
 (.block 1
 (.aj false [
 oX 18 (.mv 3),
 oX 19 (.bin .mul 18 (kX 131)),
 oX 20 (.mv 0),
 oX 21 (.mv 4),
 oX 22 (.dZ 1 20 21),
 oX 23 (.load false 1 22),
 oX 24 (.conv .i64 23),
 oX 25 (.bin .add 19 24),
 oX 26 (.bin .add 25 (kX 7)),
 oX 27 (.bin .and 26 (kX 1073741823)),
 oX 3 (.mv 27)]))
 (.aj false [
 oX 16 (.mv 4),
 oX 17 (.bin .add 16 (kX 1)),
 oX 4 (.mv 17)])))))))
 (.seq
 (.aj false [
 oX 28 (.mv 0),
 oX 29 (.mv 3),
 oX 30 (.build [.nil [.int .u8],zX,zX] [(0,1,28),(2,1,29)]),
 oX 31 (.box 3 30),
 oX 2 (.mv 31)])
 .ret))))
def O3:List bV:=[.tmp 2]
theorem ahS (NN:Nat) (x:be (av.aZ FF)):nJ NN [] Ra O3 FF Qp x=ER NN x:=by kernel_rfl
theorem afy:dh pX 83 Ra.er O3 1=true:=by decide+kernel
theorem aiG:kP Go.Proofs.Try.prog 83 K9.MV/\cg pX 83=true:=
  qd (T:=[]) (sc:=Ra) (ms:=O3) (args:=FF) (aH:=Qp) (aI.nil) dK afy yZ fun x y h=>(ahS aN x).trans (acq x y h)
def CA:aJ:=⟨53,FL,ahf,Qv,wI⟩
def Rh:bT:=
 (.seq
 (.aj false [
 oX 4 (.mv (.k (.one (.bf))))])
 (.seq
 (.aj false [
 oX 6 (.mv 0),
 oX 7 (.dn 83 [6]),
 oX 5 (.mv 7)])
 (.seq
 (.aj false [
 oX 8 (.mv 5),
 oX 9 (.mv 1),
 oX 10 (.mv 0),
 oX 11 (.len 10),
 oX 12 (.mm false 9 11),
 oX 13 (.ga 8),
 oX 14 (.aB 1 13),
 uX (.store 1 14 12)])
 (.seq
 (.aj false [
 oX 15 (.mv 5),
 oX 16 (.mv 5),
 oX 17 (.ga 16),
 oX 18 (.aB 2 17),
 oX 19 (.load false 1 18),
 oX 20 (.bin .mul 19 (kX 31)),
 oX 21 (.mv 1),
 oX 22 (.bin .mul 21 (kX 7919)),
 oX 23 (.bin .add 20 22),
 oX 24 (.bin .add 23 (kX 1)),
 oX 25 (.bin .and 24 (kX 1073741823)),
 oX 26 (.ga 15),
 oX 27 (.aB 2 26),
 uX (.store 1 27 25)])
 (.seq
 (.aj false [
 oX 28 (.mv 5),
 oX 4 (.mv 28)])
 .ret)))))
def O9:List bV:=[.tmp 4]
theorem ahY (NN:Nat) (x:be (av.aZ FL)):nJ NN [K9] Rh O9 FL Qv x=EX NN x:=by kernel_rfl
theorem afE:dh pX 53 Rh.er O9 2=true:=by decide+kernel
theorem Yg:kP Go.Proofs.Try.prog 53 CA.MV/\cg pX 53=true:=
  qd (T:=[K9]) (sc:=Rh) (ms:=O9) (args:=FL) (aH:=Qv) (aI.jI aiG<|aI.nil) dK afE wI fun x y h=>(ahY aN x).trans (acw x y h)
def K8:aJ:=⟨84,FE,ag8,Qo,yY⟩
def Q9:bT:=
 (.seq
 (.aj false [
 oX 2 (.mv (kX 0))])
 (.seq
 (.aj false [
 oX 4 (.mv 0),
 oX 5 (.mv 0),
 oX 6 (.ga 5),
 oX 7 (.aB 2 6),
 oX 8 (.load false 1 7),
 oX 9 (.bin .mul 8 (kX 6364136223846793005)),
 oX 10 (.bin .add 9 (kX 1442695040888963407)),
 oX 11 (.ga 4),
 oX 12 (.aB 2 11),
 uX (.store 1 12 10)])
 (.seq
 (.aj true [
 oX 13 (.mv 0),
 oX 14 (.ga 13),
 oX 15 (.aB 2 14),
 oX 16 (.load false 1 15),
 oX 17 (.bin .shr 16 (.k (.one (.v (.int .u64) ((33:Int)))))),
 oX 18 (.mv 0),
 oX 19 (.ga 18),
 oX 20 (.aB 2 19),
 oX 21 (.load false 1 20),
 oX 22 (.bin .shr 21 (.k (.one (.v (.int .u64) ((45:Int)))))),
 oX 23 (.bin .xor 17 22),
 oX 24 (.bin .and 23 (kX 255)),
 oX 3 (.mv 24)])
 (.seq
 (.seq
 (.aj true [
 oX 25 (.mv 0),
 oX 26 (.ga 25),
 oX 27 (.aB 1 26),
 oX 28 (.load false 1 27),
 oX 29 (.mv 0),
 oX 30 (.ga 29),
 oX 31 (.aB 0 30),
 oX 32 (.load false 1 31),
 oX 33 (.len 32),
 oX 34 (.bin .lss 28 33)])
 (.join ⟨[(3,sX)],[(1000000,.box [.c (.v (.list [.int .u8])),vX,vX])]⟩ [1000000] []
 (.cond 34
 (.seq
 (.aj true [
 oX 35 (.mv 3),
 oX 36 (.mv 0),
 oX 37 (.ga 36),
 oX 38 (.aB 0 37),
 oX 39 (.load false 1 38),
 oX 40 (.mv 0),
 oX 41 (.ga 40),
 oX 42 (.aB 1 41),
 oX 43 (.load false 1 42),
 oX 44 (.dZ 1 39 43),
 oX 45 (.load false 1 44),
 oX 46 (.conv .i64 45),
 oX 47 (.bin .add 35 46),
 oX 48 (.bin .and 47 (kX 255)),
 oX 3 (.mv 48)])
 (.aj false [
 oX 49 (.mv 0),
 oX 50 (.mv 0),
 oX 51 (.ga 50),
 oX 52 (.aB 1 51),
 oX 53 (.load false 1 52),
 oX 54 (.bin .add 53 (kX 1)),
 oX 55 (.ga 49),
 oX 56 (.aB 1 55),
 uX (.store 1 56 54)]))
 .skip)))
 (.seq
 (.aj false [
 oX 57 (.mv 3),
 oX 2 (.mv 57)])
 .ret)))))
def O2:List bV:=[.tmp 2]
theorem ahR (NN:Nat) (x:be (av.aZ FE)):nJ NN [] Q9 O2 FE Qo x=EQ NN x:=by kernel_rfl
theorem afx:dh pX 84 Q9.er O2 1=true:=by decide+kernel
theorem aiF:kP Go.Proofs.Try.prog 84 K8.MV/\cg pX 84=true:=
  qd (T:=[]) (sc:=Q9) (ms:=O2) (args:=FE) (aH:=Qo) (aI.nil) dK afx yY fun x y h=>(ahR aN x).trans (acp x y h)
def qw:aJ:=⟨55,FD,ag7,Qn,nQ⟩
def Q8:bT:=
 (.seq
 (.aj false [
 oX 4 (.mv (kX 0))])
 (.seq
 (.seq
 (.aj false [
 oX 5 (.mv 1),
 oX 6 (.bin .leq 5 (kX 0))])
 (.cond 6
 (.seq
 (.aj false [
 oX 4 (.mv (kX 0))])
 .ret)
 .skip))
 (.seq
 (.aj false [
 oX 7 (.mv 0),
 oX 8 (.dn 84 [7]),
 oX 9 (.mv 1),
 oX 10 (.bin .rem 8 9),
 oX 4 (.mv 10)])
 .ret)))
def O1:List bV:=[.tmp 4]
theorem ahQ (NN:Nat) (x:be (av.aZ FD)):nJ NN [K8] Q8 O1 FD Qn x=EP NN x:=by kernel_rfl
theorem afw:dh pX 55 Q8.er O1 2=true:=by decide+kernel
theorem DG:kP Go.Proofs.Try.prog 55 qw.MV/\cg pX 55=true:=
  qd (T:=[K8]) (sc:=Q8) (ms:=O1) (args:=FD) (aH:=Qn) (aI.jI aiF<|aI.nil) dK afw nQ fun x y h=>(ahQ aN x).trans (aco x y h)
def Lb:aJ:=⟨54,FH,ahb,Qr,y5⟩
def Rc:bT:=
 (.seq
 (.aj false [
 oX 4 (.mv (kX 0))])
 (.seq
 (.aj false [
 oX 5 (.mv 1),
 oX 6 (.mv 0),
 oX 7 (.mv 1),
 oX 8 (.len 7),
 oX 9 (.dn 55 [6,8]),
 oX 10 (.dZ 1 5 9),
 oX 11 (.load false 1 10),
 oX 4 (.mv 11)])
 .ret))
def O5:List bV:=[.tmp 4]
theorem ahU (NN:Nat) (x:be (av.aZ FH)):nJ NN [qw] Rc O5 FH Qr x=ET NN x:=by kernel_rfl
theorem afA:dh pX 54 Rc.er O5 2=true:=by decide+kernel
theorem aiI:kP Go.Proofs.Try.prog 54 Lb.MV/\cg pX 54=true:=
  qd (T:=[qw]) (sc:=Rc) (ms:=O5) (args:=FH) (aH:=Qr) (aI.jI DG<|aI.nil) dK afA y5 fun x y h=>(ahU aN x).trans (acs x y h)
def Ld:aJ:=⟨61,FJ,ahd,Qt,wG⟩
def Rf:bT:=
 (.seq
 (.aj false [
 oX 4 (.alloc [zX,zX,.nil iX])])
 (.seq
 (.aj false [
 oX 5 (.mv 0),
 oX 6 (.mv 1),
 oX 7 (.mv 0),
 oX 8 (.mv 1),
 oX 9 (.bin .mul 7 8),
 oX 10 (.mb .ae iX 8 (0:Int) 9 9),
 oX 11 (.build [zX,zX,.nil iX] [(0,1,5),(1,1,6),(2,1,10)]),
 uX (.store 3 4 11)])
 .ret))
def O7:List bV:=[.cell 4 3 true]
theorem ahW (NN:Nat) (x:be (av.aZ FJ)):gd NN [] Rf O7 FJ Qt x=EV NN x:=by kernel_rfl
theorem afC:dh pX 61 Rf.er O7 2=true:=by decide+kernel
theorem aiK:ff pX 61 Ld.M/\cg pX 61=true:=
  gN (T:=[]) (sc:=Rf) (ms:=O7) (args:=FJ) (aH:=Qt) (aI.nil) dK afC wG fun x y h=>(ahW aN x).trans (Uy x y h)
def La:aJ:=⟨94,FG,aha,Qq,wF⟩
def Rb:bT:=
 (.seq
 (.aj false [
 oX 4 (.mv (.k (.one (.v (.bool) (false)))))])
 (.seq
 (.aj false [
 oX 5 (.mv 0),
 oX 6 (.mv 1),
 oX 7 (.dn 55 [5,6]),
 oX 8 (.bin .eql 7 (kX 0)),
 oX 4 (.mv 8)])
 .ret))
def O4:List bV:=[.tmp 4]
theorem ahT (NN:Nat) (x:be (av.aZ FG)):nJ NN [qw] Rb O4 FG Qq x=ES NN x:=by kernel_rfl
theorem afz:dh pX 94 Rb.er O4 2=true:=by decide+kernel
theorem aiH:kP Go.Proofs.Try.prog 94 La.MV/\cg pX 94=true:=
  qd (T:=[qw]) (sc:=Rb) (ms:=O4) (args:=FG) (aH:=Qq) (aI.jI DG<|aI.nil) dK afz wF fun x y h=>(ahT aN x).trans (acr x y h)
def Lc:aJ:=⟨85,FI,ahc,Qs,uw⟩
def Re:bT:=
 (.seq
 (.aj false [
 oX 8 (.alloc [zX,zX,.nil iX])])
 (.seq
 (.aj false [
 oX 12 (.mv 2),
 oX 13 (.mv 3),
 oX 14 (.call .ae 61 [12,13]),
 oX 9 (.alloc [zX,zX,.nil iX]),
 uX (.store 3 9 14)])
 (.seq
 (.seq
 (.aj false [
 oX 15 (.aB 2 9),
 oX 16 (.load false 1 15),
 oX 17 (.len 16),
 oX 18 (.mv (kX 0))])
 (.join ⟨[(2,sX),(0,.one (rX 1000000)),(3,sX),(9,.one (rX 9)),(8,.one (rX 8))],[(1000000,.box [.c (.v (.list [.int .u8])),vX,vX]),(8,.box [vX,vX,fX 500002 1]),(9,.box [vX,vX,fX 500003 1]),(500002,.row true .ae iX),(500003,.row true .ae iX)]⟩ [1000000,8,9,500000,500001,500002,500003] [(true,8,2,500002,.ae,[]),(true,9,2,500003,.ae,[])]
 (.block 0
 (.loop 0 ⟨[(0,.one (rX 1000000)),(1,sX),(2,sX),(3,sX),(8,.one (rX 8)),(9,.one (rX 9)),(17,sX),(18,sX)],[(1000000,.box [.c (.v (.list [.int .u8])),vX,vX]),(8,.box [vX,vX,fX 500000 1]),(9,.box [vX,vX,fX 500001 1]),(500000,.row true .ae iX),(500001,.row true .ae iX)]⟩ [1000000,8,15000,9,500000,500001] [(true,8,2,500000,.ae,[]),(true,9,2,500001,.ae,[])]
 (.seq
 (.aj false [
 oX 19 (.bin .lss 18 17)])
 (.seq
 (.cond 19
 .skip
 (.exit 0))
 (.seq
 (.block 1
 (.seq
 (.aj false [
 oX 20 (.mv 18),
 oX 10 (.mv 20)])
 (.seq
 (.aj false [
 oX 21 (.mv 0),
 oX 22 (.dn 94 [21,(kX 3)]),
 oX 23 (.un .not 22)])
 (.cond 23
 (.nH [(0,6),(1,6)] [
 oX 24 (.aB 2 9),
 oX 25 (.load false 1 24),
 oX 26 (.mv 10),
 oX 27 (.mv 0),
 oX 28 (.mv 1),
 oX 29 (.mm false 28 (kX 256)),
 oX 30 (.dn 55 [27,29]),
 oX 31 (.dZ 1 25 26),
 uX (.store 1 31 30)])
 .skip))))
 (.aj false [
 oX 32 (.bin .add 18 (kX 1)),
 oX 18 (.mv 32)]))))))))
 (.seq
 (.seq
 (.aj false [
 oX 33 (.mv 2),
 oX 34 (.bin .gtr 33 (kX 1)),
 oX 35 (.mv 34),
 ⟨(some 36),.mv 0,(some (35,true))⟩,
 ⟨(some 37),.dn 94 [36,(kX 3)],(some (35,true))⟩,
 oX 38 (.pick 35 37 (.k (.one (.v (.bool) (false)))))])
 (.join ⟨[(9,.one (rX 9)),(8,.one (rX 8))],[(1000000,.box [.c (.v (.list [.int .u8])),vX,vX]),(8,.box [vX,vX,fX 500006 1]),(9,.box [vX,vX,fX 500007 1]),(500006,.row true .ae iX),(500007,.row true .ae iX)]⟩ [1000000,8,9,500002,500003,500004,500005,500006,500007] [(true,8,2,500006,.ae,[]),(true,9,2,500007,.ae,[])]
 (.cond 38
 (.seq
 (.aj false [
 oX 11 (.mv (kX 0))])
 (.block 2
 (.loop 0 ⟨[(3,sX),(8,.one (rX 8)),(9,.one (rX 9)),(11,sX)],[(1000000,.box [.c (.v (.list [.int .u8])),vX,vX]),(8,.box [vX,vX,fX 500004 1]),(9,.box [vX,vX,fX 500005 1]),(500004,.row true .ae iX),(500005,.row true .ae iX)]⟩ [1000000,8,9,500002,500003,500004,500005] [(true,8,2,500004,.ae,[]),(true,9,2,500005,.ae,[])]
 (.seq
 (.seq
 (.aj false [
 oX 39 (.mv 11),
 oX 40 (.mv 3),
 oX 41 (.bin .lss 39 40)])
 (.cond 41
 .skip
 (.exit 2)))
 (.seq
 (.block 3
 (.aj true [
 oX 44 (.aB 2 9),
 oX 45 (.load false 1 44),
 oX 46 (.mv 3),
 oX 47 (.mv 11),
 oX 48 (.bin .add 46 47),
 oX 49 (.aB 2 9),
 oX 50 (.load false 1 49),
 oX 51 (.mv 11),
 oX 52 (.dZ 1 50 51),
 oX 53 (.load false 1 52),
 oX 54 (.dZ 1 45 48),
 uX (.store 1 54 53)]))
 (.aj false [
 oX 42 (.mv 11),
 oX 43 (.bin .add 42 (kX 1)),
 oX 11 (.mv 43)]))))))
 .skip)))
 (.seq
 (.aj false [
 oX 55 (.load true 3 9),
 uX (.store 3 8 55)])
 .ret)))))
def O6:List bV:=[.cell 8 3 true]
theorem ahV (NN:Nat) (x:be (av.aZ FI)):nJ NN [Ld,La,qw] Re O6 FI Qs x=EU NN x:=by kernel_rfl
theorem afB:dh pX 85 Re.er O6 4=true:=by decide+kernel
theorem aiJ:kP Go.Proofs.Try.prog 85 Lc.MV/\cg pX 85=true:=
  qd (T:=[Ld,La,qw]) (sc:=Re) (ms:=O6) (args:=FI) (aH:=Qs) (aI.cons aiK<|aI.jI aiH<|aI.jI DG<|aI.nil) dK afB uw fun x y h=>(ahV aN x).trans (acu x y h)
def Le:aJ:=⟨56,FK,ahe,Qu,wH⟩
def Rg:bT:=
 (.seq
 (.aj false [
 oX 8 (.alloc [zX,zX,.nil iX,.nil mX,.nil iX])])
 (.seq
 (.aj false [
 oX 10 (.mv 1),
 oX 11 (.mv 2),
 oX 12 (.mv 0),
 oX 13 (.mv 1),
 oX 14 (.mv 2),
 oX 15 (.dn 85 [12,13,(kX 1),14]),
 oX 16 (.kj false 2 1 15),
 oX 17 (.mv 0),
 oX 18 (.mv 1),
 oX 19 (.mv 2),
 oX 20 (.dn 85 [17,18,(kX 1),19]),
 oX 21 (.kj false 2 1 20),
 oX 22 (.build [zX,zX,.nil iX,.nil mX,.nil iX] [(0,1,10),(1,1,11),(2,1,16),(4,1,21)]),
 oX 9 (.alloc [zX,zX,.nil iX,.nil mX,.nil iX]),
 uX (.store 5 9 22)])
 (.seq
 (.join ⟨[(9,.one (rX 9)),(8,.one (rX 8))],[(1000000,.box [.c (.v (.list [.int .u8])),vX,vX]),(8,.box [vX,vX,fX 500004 1,fX 500005 3,fX 500006 1]),(9,.box [vX,vX,.c (.v (lX)),fX 500007 3,.c (.v (lX))]),(500004,.row true .ae iX),(500005,.row true .ae mX),(500006,.row true .ae iX),(500007,.row true .aA mX)]⟩ [1000000,8,9,500000,500001,500002,500003,500004,500005,500006,500007] [(true,8,2,500004,.ae,[]),(true,8,3,500005,.ae,[]),(true,8,4,500006,.ae,[]),(true,9,3,500007,.aA,[])]
 (.block 0
 (.loop 0 ⟨[(0,.one (rX 1000000)),(1,sX),(2,sX),(3,sX),(8,.one (rX 8)),(9,.one (rX 9))],[(1000000,.box [.c (.v (.list [.int .u8])),vX,vX]),(8,.box [vX,vX,fX 500000 1,fX 500001 3,fX 500002 1]),(9,.box [vX,vX,.c (.v (lX)),fX 500003 3,.c (.v (lX))]),(500000,.row true .ae iX),(500001,.row true .ae mX),(500002,.row true .ae iX),(500003,.row true .aA mX)]⟩ [1000000,8,9,35,500000,500001,500002,500003] [(true,8,2,500000,.ae,[]),(true,8,3,500001,.ae,[]),(true,8,4,500002,.ae,[]),(true,9,3,500003,.aA,[])]
 (.seq
 (.seq
 (.aj false [
 oX 23 (.mv 3),
 oX 24 (.bin .gtr 23 (kX 0))])
 (.cond 24
 .skip
 (.exit 0)))
 (.seq
 (.block 1
 (.nH [(0,6),(1,6),(0,7),(1,7)] [
 oX 27 (.aB 3 9),
 oX 28 (.load false 1 27),
 oX 29 (.mv 0),
 oX 30 (.mv 1),
 oX 31 (.mv 2),
 oX 32 (.mv 2),
 oX 33 (.dn 85 [29,30,31,32]),
 oX 34 (.fg mX [33]),
 oX 35 (.append false mX 40 28 34),
 oX 36 (.aB 3 9),
 uX (.store 1 36 35)]))
 (.aj false [
 oX 25 (.mv 3),
 oX 26 (.bin .sub 25 (kX 1)),
 oX 3 (.mv 26)]))))))
 (.seq
 (.aj false [
 oX 37 (.load true 5 9),
 uX (.store 5 8 37)])
 .ret))))
def O8:List bV:=[.cell 8 5 true]
theorem ahX (NN:Nat) (x:be (av.aZ FK)):nJ NN [Lc] Rg O8 FK Qu x=EW NN x:=by kernel_rfl
theorem afD:dh pX 56 Rg.er O8 4=true:=by decide+kernel
theorem aiL:kP Go.Proofs.Try.prog 56 Le.MV/\cg pX 56=true:=
  qd (T:=[Lc]) (sc:=Rg) (ms:=O8) (args:=FK) (aH:=Qu) (aI.jI aiJ<|aI.nil) dK afD wH fun x y h=>(ahX aN x).trans (acv x y h)
def K6:aJ:=⟨25,FB,ag5,Ql,yW⟩
def Q6:bT:=
 (.seq
 (.aj false [
 oX 4 (.alloc [zX,zX,.nil iX,.nil mX,.nil iX]),
 oX 5 (.alloc [zX,zX,.nil iX,.nil mX,.nil iX])])
 (.seq
 (.aj false [
 oX 9 (.mv 0),
 oX 10 (.mv 1),
 oX 11 (.dn 53 [9,10]),
 oX 6 (.mv 11)])
 (.seq
 (.aj false [
 oX 12 (.mv 6),
 oX 13 (.fg iX [(kX 2),(kX 3),(kX 7),(kX 101)]),
 oX 14 (.dn 54 [12,13]),
 oX 7 (.mv 14)])
 (.seq
 (.aj false [
 oX 15 (.mv 6),
 oX 16 (.dn 55 [15,(kX 3)]),
 oX 17 (.bin .add (kX 1) 16),
 oX 8 (.mv 17)])
 (.seq
 (.aj false [
 oX 18 (.mv 6),
 oX 19 (.mv 7),
 oX 20 (.mv 6),
 oX 21 (.dn 55 [20,(kX 4)]),
 oX 22 (.mv 8),
 oX 23 (.dn 56 [18,19,21,22]),
 oX 24 (.mv 6),
 oX 25 (.mv 7),
 oX 26 (.mv 6),
 oX 27 (.dn 55 [26,(kX 4)]),
 oX 28 (.mv 8),
 oX 29 (.dn 56 [24,25,27,28]),
 uX (.store 5 4 23),
 uX (.store 5 5 29)])
 .ret)))))
def OZ:List bV:=[.cell 4 5 true,.cell 5 5 true]
theorem ahO (NN:Nat) (x:be (av.aZ FB)):nJ NN [CA,Lb,qw,Le] Q6 OZ FB Ql x=EN NN x:=by kernel_rfl
theorem afu:dh pX 25 Q6.er OZ 2=true:=by decide+kernel
theorem aiD:kP Go.Proofs.Try.prog 25 K6.MV/\cg pX 25=true:=
  qd (T:=[CA,Lb,qw,Le]) (sc:=Q6) (ms:=OZ) (args:=FB) (aH:=Ql) (aI.jI Yg<|aI.jI aiI<|aI.jI DG<|aI.jI aiL<|aI.nil) dK afu yW fun x y h=>(ahO aN x).trans (acm x y h)
def Cr:aJ:=⟨57,E9,agI,PV,ur⟩
def QG:bT:=
 (.seq
 (.aj false [
 oX 2 (.mv (.k (.one (.v (.bool) (false)))))])
 (.seq
 (.seq
 (.aj false [
 oX 4 (.mv 0),
 oX 5 (.bin .lss 4 (kX 2)),
 oX 6 (.mv 5),
 ⟨(some 7),.mv 0,(some (6,false))⟩,
 ⟨(some 8),.bin .gtr 7 (kX 1000003),(some (6,false))⟩,
 oX 9 (.pick 6 (.k (.one (.v (.bool) (true)))) 8)])
 (.cond 9
 (.seq
 (.aj false [
 oX 2 (.mv (.k (.one (.v (.bool) (false)))))])
 .ret)
 .skip))
 (.seq
 (.seq
 (.aj false [
 oX 3 (.mv (kX 2))])
 (.join ⟨[],[]⟩ [] []
 (.block 0
 (.loop 0 ⟨[(0,sX),(3,sX)],[]⟩ [] []
 (.seq
 (.seq
 (.aj false [
 oX 10 (.mv 3),
 oX 11 (.mv 3),
 oX 12 (.bin .mul 10 11),
 oX 13 (.mv 0),
 oX 14 (.bin .leq 12 13)])
 (.cond 14
 .skip
 (.exit 0)))
 (.seq
 (.block 1
 (.seq
 (.aj false [
 oX 17 (.mv 0),
 oX 18 (.mv 3),
 oX 19 (.bin .rem 17 18),
 oX 20 (.bin .eql 19 (kX 0))])
 (.cond 20
 (.seq
 (.aj false [
 oX 2 (.mv (.k (.one (.v (.bool) (false)))))])
 .ret)
 .skip)))
 (.aj false [
 oX 15 (.mv 3),
 oX 16 (.bin .add 15 (kX 1)),
 oX 3 (.mv 16)])))))))
 (.seq
 (.aj false [
 oX 2 (.mv (.k (.one (.v (.bool) (true)))))])
 .ret))))
def Oy:List bV:=[.tmp 2]
theorem aho (NN:Nat) (x:be (av.aZ E9)):gd NN [] QG Oy E9 PV x=Jx NN x:=by kernel_rfl
theorem ae4:dh pX 57 QG.er Oy 1=true:=by decide+kernel
theorem X9:ff pX 57 Cr.M/\cg pX 57=true:=
  gN (T:=[]) (sc:=QG) (ms:=Oy) (args:=E9) (aH:=PV) (aI.nil) dK ae4 ur fun x y h=>(aho aN x).trans (abU x y h)
def Cs:aJ:=⟨58,Fm,agR,P7,rm⟩
def QS:bT:=
 (.seq
 (.aj false [
 oX 4 (.mv (.k (.one (.v (.bool) (false)))))])
 (.seq
 (.seq
 (.aj false [
 oX 7 (.mv 1),
 oX 8 (.len 7),
 oX 9 (.mv (kX 0))])
 (.join ⟨[],[]⟩ [] []
 (.block 0
 (.loop 0 ⟨[(0,sX),(7,.one (.c (.v (lX)))),(8,sX),(9,sX)],[]⟩ [] []
 (.seq
 (.aj false [
 oX 10 (.bin .lss 9 8)])
 (.seq
 (.cond 10
 .skip
 (.exit 0))
 (.seq
 (.block 1
 (.seq
 (.aj false [
 oX 11 (.dZ 1 7 9),
 oX 12 (.load false 1 11),
 oX 6 (.mv 12)])
 (.seq
 (.aj false [
 oX 13 (.mv 6),
 oX 14 (.bin .lss 13 (kX 0)),
 oX 15 (.mv 14),
 ⟨(some 16),.mv 6,(some (15,false))⟩,
 ⟨(some 17),.mv 0,(some (15,false))⟩,
 ⟨(some 18),.bin .geq 16 17,(some (15,false))⟩,
 oX 19 (.pick 15 (.k (.one (.v (.bool) (true)))) 18)])
 (.cond 19
 (.seq
 (.aj false [
 oX 4 (.mv (.k (.one (.v (.bool) (false)))))])
 .ret)
 .skip))))
 (.aj false [
 oX 20 (.bin .add 9 (kX 1)),
 oX 9 (.mv 20)]))))))))
 (.seq
 (.aj false [
 oX 4 (.mv (.k (.one (.v (.bool) (true)))))])
 .ret)))
def OL:List bV:=[.tmp 4]
theorem ahA (NN:Nat) (x:be (av.aZ Fm)):gd NN [] QS OL Fm P7 x=JC NN x:=by kernel_rfl
theorem afg:dh pX 58 QS.er OL 2=true:=by decide+kernel
theorem Ya:ff pX 58 Cs.M/\cg pX 58=true:=
  gN (T:=[]) (sc:=QS) (ms:=OL) (args:=Fm) (aH:=P7) (aI.nil) dK afg rm fun x y h=>(ahA aN x).trans (ab6 x y h)
def KR:aJ:=⟨59,Fa,agJ,PW,wB⟩
def QH:bT:=
 (.seq
 (.aj false [
 oX 3 (.box 3 1),
 oX 4 (.mv (.k (.one (.v (.bool) (false)))))])
 (.seq
 (.seq
 (.aj false [
 oX 5 (.mv 0),
 oX 6 (.call .ae 57 [5]),
 oX 7 (.un .not 6),
 oX 8 (.mv 7),
 ⟨(some 9),.aB 0 3,(some (8,false))⟩,
 ⟨(some 10),.load false 1 9,(some (8,false))⟩,
 ⟨(some 11),.bin .lss 10 (kX 0),(some (8,false))⟩,
 oX 12 (.pick 8 (.k (.one (.v (.bool) (true)))) 11),
 oX 13 (.mv 12),
 ⟨(some 14),.aB 1 3,(some (13,false))⟩,
 ⟨(some 15),.load false 1 14,(some (13,false))⟩,
 ⟨(some 16),.bin .lss 15 (kX 0),(some (13,false))⟩,
 oX 17 (.pick 13 (.k (.one (.v (.bool) (true)))) 16),
 oX 18 (.mv 17),
 ⟨(some 19),.aB 0 3,(some (18,false))⟩,
 ⟨(some 20),.load false 1 19,(some (18,false))⟩,
 ⟨(some 21),.bin .gtr 20 (kX 64),(some (18,false))⟩,
 oX 22 (.pick 18 (.k (.one (.v (.bool) (true)))) 21),
 oX 23 (.mv 22),
 ⟨(some 24),.aB 1 3,(some (23,false))⟩,
 ⟨(some 25),.load false 1 24,(some (23,false))⟩,
 ⟨(some 26),.bin .gtr 25 (kX 64),(some (23,false))⟩,
 oX 27 (.pick 23 (.k (.one (.v (.bool) (true)))) 26)])
 (.cond 27
 (.seq
 (.aj false [
 oX 4 (.mv (.k (.one (.v (.bool) (false)))))])
 .ret)
 .skip))
 (.seq
 (.aj false [
 oX 28 (.aB 2 3),
 oX 29 (.load false 1 28),
 oX 30 (.len 29),
 oX 31 (.aB 0 3),
 oX 32 (.load false 1 31),
 oX 33 (.aB 1 3),
 oX 34 (.load false 1 33),
 oX 35 (.bin .mul 32 34),
 oX 36 (.bin .eql 30 35),
 oX 37 (.mv 36),
 ⟨(some 38),.mv 0,(some (37,true))⟩,
 ⟨(some 39),.aB 2 3,(some (37,true))⟩,
 ⟨(some 40),.load false 1 39,(some (37,true))⟩,
 ⟨(some 41),.call .ae 58 [38,40],(some (37,true))⟩,
 oX 42 (.pick 37 41 (.k (.one (.v (.bool) (false))))),
 oX 4 (.mv 42)])
 .ret)))
def Oz:List bV:=[.tmp 4]
theorem ahp (NN:Nat) (x:be (av.aZ Fa)):gd NN [Cr,Cs] QH Oz Fa PW x=Jy NN x:=by kernel_rfl
theorem ae5:dh pX 59 QH.er Oz 2=true:=by decide+kernel
theorem aiq:ff pX 59 KR.M/\cg pX 59=true:=
  gN (T:=[Cr,Cs]) (sc:=QH) (ms:=Oz) (args:=Fa) (aH:=PW) (aI.cons X9<|aI.cons Ya<|aI.nil) dK ae5 wB fun x y h=>(ahp aN x).trans (abV x y h)
def qu:aJ:=⟨28,E7,agG,PT,jf⟩
def QE:bT:=
 (.seq
 (.aj false [
 oX 1 (.box 5 0),
 oX 2 (.mv (.k (.one (.v (.bool) (false)))))])
 (.seq
 (.seq
 (.aj false [
 oX 5 (.aB 0 1),
 oX 6 (.load false 1 5),
 oX 7 (.call .ae 57 [6]),
 oX 8 (.un .not 7),
 oX 9 (.mv 8),
 ⟨(some 10),.aB 1 1,(some (9,false))⟩,
 ⟨(some 11),.load false 1 10,(some (9,false))⟩,
 ⟨(some 12),.bin .lss 11 (kX 0),(some (9,false))⟩,
 oX 13 (.pick 9 (.k (.one (.v (.bool) (true)))) 12),
 oX 14 (.mv 13),
 ⟨(some 15),.aB 1 1,(some (14,false))⟩,
 ⟨(some 16),.load false 1 15,(some (14,false))⟩,
 ⟨(some 17),.bin .gtr 16 (kX 12),(some (14,false))⟩,
 oX 18 (.pick 14 (.k (.one (.v (.bool) (true)))) 17),
 oX 19 (.mv 18),
 ⟨(some 20),.aB 2 1,(some (19,false))⟩,
 ⟨(some 21),.load false 1 20,(some (19,false))⟩,
 ⟨(some 22),.len 21,(some (19,false))⟩,
 ⟨(some 23),.aB 1 1,(some (19,false))⟩,
 ⟨(some 24),.load false 1 23,(some (19,false))⟩,
 ⟨(some 25),.bin .neq 22 24,(some (19,false))⟩,
 oX 26 (.pick 19 (.k (.one (.v (.bool) (true)))) 25),
 oX 27 (.mv 26),
 ⟨(some 28),.aB 4 1,(some (27,false))⟩,
 ⟨(some 29),.load false 1 28,(some (27,false))⟩,
 ⟨(some 30),.len 29,(some (27,false))⟩,
 ⟨(some 31),.aB 1 1,(some (27,false))⟩,
 ⟨(some 32),.load false 1 31,(some (27,false))⟩,
 ⟨(some 33),.bin .neq 30 32,(some (27,false))⟩,
 oX 34 (.pick 27 (.k (.one (.v (.bool) (true)))) 33)])
 (.cond 34
 (.seq
 (.aj false [
 oX 2 (.mv (.k (.one (.v (.bool) (false)))))])
 .ret)
 .skip))
 (.seq
 (.seq
 (.aj false [
 oX 35 (.aB 0 1),
 oX 36 (.load false 1 35),
 oX 37 (.aB 2 1),
 oX 38 (.load false 1 37),
 oX 39 (.call .ae 58 [36,38]),
 oX 40 (.un .not 39),
 oX 41 (.mv 40),
 ⟨(some 42),.aB 0 1,(some (41,false))⟩,
 ⟨(some 43),.load false 1 42,(some (41,false))⟩,
 ⟨(some 44),.aB 4 1,(some (41,false))⟩,
 ⟨(some 45),.load false 1 44,(some (41,false))⟩,
 ⟨(some 46),.call .ae 58 [43,45],(some (41,false))⟩,
 ⟨(some 47),.un .not 46,(some (41,false))⟩,
 oX 48 (.pick 41 (.k (.one (.v (.bool) (true)))) 47),
 oX 49 (.mv 48),
 ⟨(some 50),.aB 3 1,(some (49,false))⟩,
 ⟨(some 51),.load false 1 50,(some (49,false))⟩,
 ⟨(some 52),.len 51,(some (49,false))⟩,
 ⟨(some 53),.bin .lss 52 (kX 1),(some (49,false))⟩,
 oX 54 (.pick 49 (.k (.one (.v (.bool) (true)))) 53),
 oX 55 (.mv 54),
 ⟨(some 56),.aB 3 1,(some (55,false))⟩,
 ⟨(some 57),.load false 1 56,(some (55,false))⟩,
 ⟨(some 58),.len 57,(some (55,false))⟩,
 ⟨(some 59),.bin .gtr 58 (kX 4),(some (55,false))⟩,
 oX 60 (.pick 55 (.k (.one (.v (.bool) (true)))) 59)])
 (.cond 60
 (.seq
 (.aj false [
 oX 2 (.mv (.k (.one (.v (.bool) (false)))))])
 .ret)
 .skip))
 (.seq
 (.seq
 (.aj false [
 oX 61 (.aB 3 1),
 oX 62 (.load false 1 61),
 oX 63 (.len 62),
 oX 64 (.mv (kX 0))])
 (.join ⟨[],[]⟩ [1] []
 (.block 0
 (.loop 0 ⟨[(1,.one (rX 1)),(62,.one (.c (.v (.list mX)))),(63,sX),(64,sX)],[(1,.box [vX,vX,.c (.v (lX)),.c (.v (.list mX)),.c (.v (lX))])]⟩ [1,4] []
 (.seq
 (.aj false [
 oX 65 (.bin .lss 64 63)])
 (.seq
 (.cond 65
 .skip
 (.exit 0))
 (.seq
 (.block 1
 (.seq
 (.aj false [
 oX 66 (.dZ 3 62 64),
 oX 67 (.load true 3 66),
 oX 4 (.alloc [zX,zX,.nil iX]),
 uX (.store 3 4 67)])
 (.seq
 (.aj false [
 oX 68 (.aB 0 1),
 oX 69 (.load false 1 68),
 oX 70 (.load true 3 4),
 oX 71 (.call .ae 59 [69,70]),
 oX 72 (.un .not 71),
 oX 73 (.mv 72),
 ⟨(some 74),.aB 0 4,(some (73,false))⟩,
 ⟨(some 75),.load false 1 74,(some (73,false))⟩,
 ⟨(some 76),.aB 1 1,(some (73,false))⟩,
 ⟨(some 77),.load false 1 76,(some (73,false))⟩,
 ⟨(some 78),.bin .neq 75 77,(some (73,false))⟩,
 oX 79 (.pick 73 (.k (.one (.v (.bool) (true)))) 78),
 oX 80 (.mv 79),
 ⟨(some 81),.aB 1 4,(some (80,false))⟩,
 ⟨(some 82),.load false 1 81,(some (80,false))⟩,
 ⟨(some 83),.aB 1 1,(some (80,false))⟩,
 ⟨(some 84),.load false 1 83,(some (80,false))⟩,
 ⟨(some 85),.bin .neq 82 84,(some (80,false))⟩,
 oX 86 (.pick 80 (.k (.one (.v (.bool) (true)))) 85)])
 (.cond 86
 (.seq
 (.aj false [
 oX 2 (.mv (.k (.one (.v (.bool) (false)))))])
 .ret)
 .skip))))
 (.aj false [
 oX 87 (.bin .add 64 (kX 1)),
 oX 64 (.mv 87)]))))))))
 (.seq
 (.aj false [
 oX 2 (.mv (.k (.one (.v (.bool) (true)))))])
 .ret)))))
def Ow:List bV:=[.tmp 2]
theorem ahm (NN:Nat) (x:be (av.aZ E7)):gd NN [Cr,Cs,KR] QE Ow E7 PT x=Jw NN x:=by kernel_rfl
theorem ae2:dh pX 28 QE.er Ow 1=true:=by decide+kernel
theorem DE:ff pX 28 qu.M/\cg pX 28=true:=
  gN (T:=[Cr,Cs,KR]) (sc:=QE) (ms:=Ow) (args:=E7) (aH:=PT) (aI.cons X9<|aI.cons Ya<|aI.cons aiq<|aI.nil) dK ae2 jf fun x y h=>(ahm aN x).trans (abS x y h)
def qv:aJ:=⟨65,Fl,agQ,P6,qf⟩
def QR:bT:=
 (.seq
 (.aj false [
 oX 4 (.alloc [zX,zX,.nil iX])])
 (.seq
 (.aj false [
 oX 5 (.mv 0),
 oX 6 (.mv 1),
 oX 7 (.mv 0),
 oX 8 (.mv 1),
 oX 9 (.bin .mul 7 8),
 oX 10 (.mb .ae iX 8 (0:Int) 9 9),
 oX 11 (.build [zX,zX,.nil iX] [(0,1,5),(1,1,6),(2,1,10)]),
 uX (.store 3 4 11)])
 .ret))
def OK:List bV:=[.cell 4 3 true]
theorem ahz (NN:Nat) (x:be (av.aZ Fl)):gd NN [] QR OK Fl P6 x=SM NN x:=by kernel_rfl
theorem aff:dh pX 65 QR.er OK 2=true:=by decide+kernel
theorem DF:ff pX 65 qv.M/\cg pX 65=true:=
  gN (T:=[]) (sc:=QR) (ms:=OK) (args:=Fl) (aH:=P6) (aI.nil) dK aff qf fun x y h=>(ahz aN x).trans (ab5 x y h)
def n4:aJ:=⟨44,Fj,agO,P4,ix⟩
def QP:bT:=
 (.seq
 (.aj false [
 oX 2 (.mv (.k (.one (.nil iX))))])
 (.seq
 (.aj false [
 oX 3 (.mv 0),
 oX 4 (.append true iX 8 (.k (.one (.nil iX))) 3),
 oX 2 (.mv 4)])
 .ret))
def OI:List bV:=[.tmp 2]
theorem ahx (NN:Nat) (x:be (av.aZ Fj)):gd NN [] QP OI Fj P4 x=JA NN x:=by kernel_rfl
theorem afd:dh pX 44 QP.er OI 1=true:=by decide+kernel
theorem A2:ff pX 44 n4.M/\cg pX 44=true:=
  gN (T:=[]) (sc:=QP) (ms:=OI) (args:=Fj) (aH:=P4) (aI.nil) dK afd ix fun x y h=>(ahx aN x).trans (ab3 x y h)
def mA:aJ:=⟨67,Fc,agK,PY,g9⟩
def QJ:bT:=
 (.seq
 (.aj false [
 oX 3 (.box 3 0),
 oX 6 (.mv (kX 0))])
 (.seq
 (.aj false [
 oX 7 (.aB 2 3),
 oX 8 (.load false 1 7),
 oX 9 (.mv 1),
 oX 10 (.aB 1 3),
 oX 11 (.load false 1 10),
 oX 12 (.bin .mul 9 11),
 oX 13 (.mv 2),
 oX 14 (.bin .add 12 13),
 oX 15 (.dZ 1 8 14),
 oX 16 (.load false 1 15),
 oX 6 (.mv 16)])
 .ret))
def OB:List bV:=[.tmp 6]
theorem ahr (NN:Nat) (x:be (av.aZ Fc)):gd NN [] QJ OB Fc PY x=EB NN x:=by kernel_rfl
theorem ae7:dh pX 67 QJ.er OB 3=true:=by decide+kernel
theorem yo:ff pX 67 mA.M/\cg pX 67=true:=
  gN (T:=[]) (sc:=QJ) (ms:=OB) (args:=Fc) (aH:=PY) (aI.nil) dK ae7 g9 fun x y h=>(ahr aN x).trans (abX x y h)
def mB:aJ:=⟨66,Fe,HX,PZ,kL⟩
def QK:bT:=
 (.seq
 (.aj false [
 oX 4 (.box 3 0)])
 (.aj false [
 oX 8 (.aB 2 4),
 oX 9 (.load false 1 8),
 oX 10 (.mv 1),
 oX 11 (.aB 1 4),
 oX 12 (.load false 1 11),
 oX 13 (.bin .mul 10 12),
 oX 14 (.mv 2),
 oX 15 (.bin .add 13 14),
 oX 16 (.mv 3),
 oX 17 (.dZ 1 9 15),
 uX (.store 1 17 16)]))
def OC:List bV:=[]
theorem ahs (NN:Nat) (x:be (av.aZ Fe)):DP NN [] QK OC Fe HX PZ x=EC NN x:=by kernel_rfl
theorem ae8:dh pX 66 QK.er OC 4=true:=by decide+kernel
theorem yp:uA pX 66 HX mB.MM/\cg pX 66=true:=
  Ph (T:=[]) (sc:=QK) (ms:=OC) (args:=Fe) (mu:=HX) (aH:=PZ) (aI.nil) dK ae8 kL fun x y h=>(ahs aN x).trans (abY x y h)
def xj:aJ:=⟨70,Fq,agU,Qa,oQ⟩
def QV:bT:=
 (.seq
 (.aj false [
 oX 4 (.box 3 1),
 oX 5 (.box 3 2),
 oX 6 (.alloc [zX,zX,.nil iX])])
 (.seq
 (.aj false [
 oX 12 (.aB 0 4),
 oX 13 (.load false 1 12),
 oX 14 (.aB 1 5),
 oX 15 (.load false 1 14),
 oX 16 (.call .ae 65 [13,15]),
 oX 7 (.alloc [zX,zX,.nil iX]),
 uX (.store 3 7 16)])
 (.seq
 (.seq
 (.aj false [
 oX 8 (.mv (kX 0))])
 (.join ⟨[(7,.one (rX 7)),(6,.one (rX 6))],[(6,.box [vX,vX,fX 500012 1]),(7,.box [vX,vX,fX 500013 1]),(500012,.row true .ae iX),(500013,.row true .ae iX)]⟩ [4,5,6,7,500000,500001,500012,500013] [(true,6,2,500012,.ae,[]),(true,7,2,500013,.ae,[])]
 (.block 0
 (.loop 0 ⟨[(0,sX),(4,.one (rX 4)),(5,.one (rX 5)),(6,.one (rX 6)),(7,.one (rX 7)),(8,sX)],[(4,.box [vX,vX,.c (.v (lX))]),(5,.box [vX,vX,.c (.v (lX))]),(6,.box [vX,vX,fX 500000 1]),(7,.box [vX,vX,fX 500001 1]),(500000,.row true .ae iX),(500001,.row true .ae iX)]⟩ [4,5,6,17000,7,500000,500001,500010,500011] [(true,6,2,500000,.ae,[]),(true,7,2,500001,.ae,[])]
 (.seq
 (.seq
 (.aj false [
 oX 17 (.mv 8),
 oX 18 (.aB 0 4),
 oX 19 (.load false 1 18),
 oX 20 (.bin .lss 17 19)])
 (.cond 20
 .skip
 (.exit 0)))
 (.seq
 (.join ⟨[(8,sX),(0,sX),(4,.one (rX 4)),(5,.one (rX 5)),(6,.one (rX 6)),(7,.one (rX 7))],[(4,.box [vX,vX,.c (.v (lX))]),(5,.box [vX,vX,.c (.v (lX))]),(6,.box [vX,vX,fX 500010 1]),(7,.box [vX,vX,fX 500011 1]),(500010,.row true .ae iX),(500011,.row true .ae iX)]⟩ [4,5,6,7,500002,500003,500010,500011] [(true,6,2,500010,.ae,[]),(true,7,2,500011,.ae,[])]
 (.block 1
 (.seq
 (.aj false [
 oX 9 (.mv (kX 0))])
 (.block 2
 (.loop 0 ⟨[(0,sX),(4,.one (rX 4)),(5,.one (rX 5)),(6,.one (rX 6)),(7,.one (rX 7)),(8,sX),(9,sX)],[(4,.box [vX,vX,.c (.v (lX))]),(5,.box [vX,vX,.c (.v (lX))]),(6,.box [vX,vX,fX 500002 1]),(7,.box [vX,vX,fX 500003 1]),(500002,.row true .ae iX),(500003,.row true .ae iX)]⟩ [4,5,6,7,500000,500001,500002,500003,500008,500009] [(true,6,2,500002,.ae,[]),(true,7,2,500003,.ae,[])]
 (.seq
 (.seq
 (.aj false [
 oX 23 (.mv 9),
 oX 24 (.aB 1 5),
 oX 25 (.load false 1 24),
 oX 26 (.bin .lss 23 25)])
 (.cond 26
 .skip
 (.exit 2)))
 (.seq
 (.join ⟨[(9,sX),(0,sX),(4,.one (rX 4)),(5,.one (rX 5)),(6,.one (rX 6)),(7,.one (rX 7)),(8,sX)],[(4,.box [vX,vX,.c (.v (lX))]),(5,.box [vX,vX,.c (.v (lX))]),(6,.box [vX,vX,fX 500008 1]),(7,.box [vX,vX,fX 500009 1]),(500008,.row true .ae iX),(500009,.row true .ae iX)]⟩ [4,5,6,7,500006,500007,500008,500009] [(true,6,2,500008,.ae,[]),(true,7,2,500009,.ae,[])]
 (.block 3
 (.seq
 (.aj false [
 oX 10 (.mv (kX 0))])
 (.seq
 (.seq
 (.aj false [
 oX 11 (.mv (kX 0))])
 (.join ⟨[(10,sX),(9,sX),(0,sX),(4,.one (rX 4)),(5,.one (rX 5)),(6,.one (rX 6)),(7,.one (rX 7)),(8,sX)],[(4,.box [vX,vX,.c (.v (lX))]),(5,.box [vX,vX,.c (.v (lX))]),(6,.box [vX,vX,fX 500006 1]),(7,.box [vX,vX,fX 500007 1]),(500006,.row true .ae iX),(500007,.row true .ae iX)]⟩ [4,5,6,7,500004,500005,500006,500007] [(true,6,2,500006,.ae,[]),(true,7,2,500007,.ae,[])]
 (.block 4
 (.loop 0 ⟨[(0,sX),(4,.one (rX 4)),(5,.one (rX 5)),(6,.one (rX 6)),(7,.one (rX 7)),(8,sX),(9,sX),(10,sX),(11,sX)],[(4,.box [vX,vX,.c (.v (lX))]),(5,.box [vX,vX,.c (.v (lX))]),(6,.box [vX,vX,fX 500004 1]),(7,.box [vX,vX,fX 500005 1]),(500004,.row true .ae iX),(500005,.row true .ae iX)]⟩ [4,5,6,7,500002,500003,500004,500005] [(true,6,2,500004,.ae,[]),(true,7,2,500005,.ae,[])]
 (.seq
 (.seq
 (.aj false [
 oX 29 (.mv 11),
 oX 30 (.aB 1 4),
 oX 31 (.load false 1 30),
 oX 32 (.bin .lss 29 31)])
 (.cond 32
 .skip
 (.exit 4)))
 (.seq
 (.block 5
 (.aj true [
 oX 35 (.mv 10),
 oX 36 (.load true 3 4),
 oX 37 (.mv 8),
 oX 38 (.mv 11),
 oX 39 (.call .ae 67 [36,37,38]),
 oX 40 (.load true 3 5),
 oX 41 (.mv 11),
 oX 42 (.mv 9),
 oX 43 (.call .ae 67 [40,41,42]),
 oX 44 (.bin .mul 39 43),
 oX 45 (.bin .add 35 44),
 oX 46 (.mv 0),
 oX 47 (.bin .rem 45 46),
 oX 10 (.mv 47)]))
 (.aj false [
 oX 33 (.mv 11),
 oX 34 (.bin .add 33 (kX 1)),
 oX 11 (.mv 34)])))))))
 (.aj false [
 oX 48 (.load true 3 7),
 oX 49 (.mv 8),
 oX 50 (.mv 9),
 oX 51 (.mv 10),
 oX 52 (.fT .ae 66 [48,49,50,51])])))))
 (.aj false [
 oX 27 (.mv 9),
 oX 28 (.bin .add 27 (kX 1)),
 oX 9 (.mv 28)]))))))))
 (.aj false [
 oX 21 (.mv 8),
 oX 22 (.bin .add 21 (kX 1)),
 oX 8 (.mv 22)])))))))
 (.seq
 (.aj false [
 oX 53 (.load true 3 7),
 uX (.store 3 6 53)])
 .ret))))
def OO:List bV:=[.cell 6 3 true]
theorem ahD (NN:Nat) (x:be (av.aZ Fq)):gd NN [qv,mA,mB] QV OO Fq Qa x=EH NN x:=by kernel_rfl
theorem afj:dh pX 70 QV.er OO 3=true:=by decide+kernel
theorem Ps:ff pX 70 xj.M/\cg pX 70=true:=
  gN (T:=[qv,mA,mB]) (sc:=QV) (ms:=OO) (args:=Fq) (aH:=Qa) (aI.cons DF<|aI.cons yo<|aI.ta yp<|aI.nil) dK afj oQ fun x y h=>(ahD aN x).trans (ab9 x y h)
def Cy:aJ:=⟨68,FA,ag3,Qj,sR⟩
def Q4:bT:=
 (.seq
 (.aj false [
 oX 2 (.box 5 0),
 oX 4 (.mv (.k (.one (.nil iX))))])
 (.seq
 (.aj false [
 oX 8 (.aB 2 2),
 oX 9 (.load false 1 8),
 oX 10 (.call .ae 44 [9]),
 oX 11 (.kE 71 false 10),
 oX 5 (.alloc [zX,zX,.nil iX]),
 uX (.store 3 5 11)])
 (.seq
 (.seq
 (.aj false [
 oX 12 (.mv 1),
 oX 13 (.len 12),
 oX 14 (.mv (kX 0))])
 (.join ⟨[(5,.one (rX 5))],[(5,.box [vX,vX,fX 500001 1]),(500001,.row true .ae iX)]⟩ [2,5,500000,500001] [(true,5,2,500001,.ae,[])]
 (.block 0
 (.loop 0 ⟨[(2,.one (rX 2)),(5,.one (rX 5)),(12,.one (.c (.v (lX)))),(13,sX),(14,sX)],[(2,.box [vX,vX,.c (.v (lX)),.c (.v (.list mX)),.c (.v (lX))]),(5,.box [vX,vX,fX 500000 1]),(500000,.row true .ae iX)]⟩ [2,11000,5,27000,500000] [(true,5,2,500000,.ae,[])]
 (.seq
 (.aj false [
 oX 15 (.bin .lss 14 13)])
 (.seq
 (.cond 15
 .skip
 (.exit 0))
 (.seq
 (.block 1
 (.seq
 (.aj false [
 oX 16 (.dZ 1 12 14),
 oX 17 (.load false 1 16),
 oX 7 (.mv 17)])
 (.aj true [
 oX 18 (.aB 0 2),
 oX 19 (.load false 1 18),
 oX 20 (.load true 3 5),
 oX 21 (.aB 3 2),
 oX 22 (.load false 1 21),
 oX 23 (.mv 7),
 oX 24 (.dZ 3 22 23),
 oX 25 (.load true 3 24),
 oX 26 (.call .ae 70 [19,20,25]),
 uX (.store 3 5 26)])))
 (.aj false [
 oX 27 (.bin .add 14 (kX 1)),
 oX 14 (.mv 27)]))))))))
 (.seq
 (.aj false [
 oX 28 (.aB 2 5),
 oX 29 (.load false 1 28),
 oX 4 (.mv 29)])
 .ret))))
def OX:List bV:=[.tmp 4]
theorem ahM (NN:Nat) (x:be (av.aZ FA)):gd NN [n4,xj] Q4 OX FA Qj x=EL NN x:=by kernel_rfl
theorem afs:dh pX 68 Q4.er OX 2=true:=by decide+kernel
theorem Yf:ff pX 68 Cy.M/\cg pX 68=true:=
  gN (T:=[n4,xj]) (sc:=Q4) (ms:=OX) (args:=FA) (aH:=Qj) (aI.cons A2<|aI.cons Ps<|aI.nil) dK afs sR fun x y h=>(ahM aN x).trans (acj x y h)
def KX:aJ:=⟨90,Fk,agP,P5,yT⟩
def QQ:bT:=
 (.seq
 (.aj false [
 oX 1 (.box 3 0),
 oX 2 (.alloc [zX,zX,.nil iX])])
 (.seq
 (.aj true [
 oX 3 (.aB 0 1),
 oX 4 (.load false 1 3),
 oX 5 (.aB 1 1),
 oX 6 (.load false 1 5),
 oX 7 (.aB 2 1),
 oX 8 (.load false 1 7),
 oX 9 (.call .ae 44 [8]),
 oX 10 (.build [zX,zX,.nil iX] [(0,1,4),(1,1,6),(2,1,9)]),
 uX (.store 3 2 10)])
 .ret))
def OJ:List bV:=[.cell 2 3 true]
theorem ahy (NN:Nat) (x:be (av.aZ Fk)):gd NN [n4] QQ OJ Fk P5 x=JB NN x:=by kernel_rfl
theorem afe:dh pX 90 QQ.er OJ 1=true:=by decide+kernel
theorem aiw:ff pX 90 KX.M/\cg pX 90=true:=
  gN (T:=[n4]) (sc:=QQ) (ms:=OJ) (args:=Fk) (aH:=P5) (aI.cons A2<|aI.nil) dK afe yT fun x y h=>(ahy aN x).trans (ab4 x y h)
def KT:aJ:=⟨91,Ff,HY,P0,yS⟩
def QL:bT:=
 (.seq
 (.aj false [
 oX 3 (.box 3 0)])
 (.seq
 (.aj false [
 oX 6 (.mv (kX 0))])
 (.block 0
 (.loop 0 ⟨[(1,sX),(2,sX),(3,.one (rX 3)),(6,sX)],[(1000000,.row false .ae iX),(3,.box [vX,vX,fX 1000000 1])]⟩ [1000000,3,500000] [(true,3,2,500000,.ae,[])]
 (.seq
 (.seq
 (.aj false [
 oX 9 (.mv 6),
 oX 10 (.aB 1 3),
 oX 11 (.load false 1 10),
 oX 12 (.bin .lss 9 11)])
 (.cond 12
 .skip
 (.exit 0)))
 (.seq
 (.block 1
 (.seq
 (.aj true [
 oX 15 (.load true 3 3),
 oX 16 (.mv 1),
 oX 17 (.mv 6),
 oX 18 (.call .ae 67 [15,16,17]),
 oX 19 (.load true 3 3),
 oX 20 (.mv 2),
 oX 21 (.mv 6),
 oX 22 (.call .ae 67 [19,20,21]),
 oX 7 (.mv 18),
 oX 8 (.mv 22)])
 (.seq
 (.aj false [
 oX 23 (.load true 3 3),
 oX 24 (.mv 1),
 oX 25 (.mv 6),
 oX 26 (.mv 8),
 oX 27 (.fT .ae 66 [23,24,25,26])])
 (.aj false [
 oX 28 (.load true 3 3),
 oX 29 (.mv 2),
 oX 30 (.mv 6),
 oX 31 (.mv 7),
 oX 32 (.fT .ae 66 [28,29,30,31])]))))
 (.aj false [
 oX 13 (.mv 6),
 oX 14 (.bin .add 13 (kX 1)),
 oX 6 (.mv 14)])))))))
def OD:List bV:=[]
theorem aht (NN:Nat) (x:be (av.aZ Ff)):DP NN [mA,mB] QL OD Ff HY P0 x=ED NN x:=by kernel_rfl
theorem ae9:dh pX 91 QL.er OD 3=true:=by decide+kernel
theorem ais:uA pX 91 HY KT.MM/\cg pX 91=true:=
  Ph (T:=[mA,mB]) (sc:=QL) (ms:=OD) (args:=Ff) (mu:=HY) (aH:=P0) (aI.cons yo<|aI.ta yp<|aI.nil) dK ae9 yS fun x y h=>(aht aN x).trans (abZ x y h)
def KY:aJ:=⟨92,Fp,agT,P9,yU⟩
def QU:bT:=
 (.seq
 (.aj false [
 oX 4 (.mv (kX 0))])
 (.seq
 (.aj false [
 oX 5 (.mv (kX 1))])
 (.seq
 (.seq
 (.aj false [
 oX 7 (.mv 0),
 oX 8 (.bin .sub 7 (kX 2)),
 oX 6 (.mv 8)])
 (.join ⟨[(5,sX)],[]⟩ [] []
 (.block 0
 (.loop 0 ⟨[(0,sX),(1,sX),(5,sX),(6,sX)],[]⟩ [] []
 (.seq
 (.seq
 (.aj false [
 oX 9 (.mv 6),
 oX 10 (.bin .gtr 9 (kX 0))])
 (.cond 10
 .skip
 (.exit 0)))
 (.seq
 (.block 1
 (.seq
 (.seq
 (.aj false [
 oX 13 (.mv 6),
 oX 14 (.bin .and 13 (kX 1)),
 oX 15 (.bin .eql 14 (kX 1))])
 (.join ⟨[(1,sX),(6,sX),(0,sX),(5,sX)],[]⟩ [] []
 (.cond 15
 (.aj false [
 oX 16 (.mv 5),
 oX 17 (.mv 1),
 oX 18 (.bin .mul 16 17),
 oX 19 (.mv 0),
 oX 20 (.bin .rem 18 19),
 oX 5 (.mv 20)])
 .skip)))
 (.aj false [
 oX 21 (.mv 1),
 oX 22 (.mv 1),
 oX 23 (.bin .mul 21 22),
 oX 24 (.mv 0),
 oX 25 (.bin .rem 23 24),
 oX 1 (.mv 25)])))
 (.aj false [
 oX 11 (.mv 6),
 oX 12 (.bin .shr 11 (.k (.one (.v (.int .u64) ((1:Int)))))),
 oX 6 (.mv 12)])))))))
 (.seq
 (.aj false [
 oX 26 (.mv 5),
 oX 4 (.mv 26)])
 .ret))))
def ON:List bV:=[.tmp 4]
theorem ahC (NN:Nat) (x:be (av.aZ Fp)):gd NN [] QU ON Fp P9 x=JD NN x:=by kernel_rfl
theorem afi:dh pX 92 QU.er ON 2=true:=by decide+kernel
theorem aix:ff pX 92 KY.M/\cg pX 92=true:=
  gN (T:=[]) (sc:=QU) (ms:=ON) (args:=Fp) (aH:=P9) (aI.nil) dK afi yU fun x y h=>(ahC aN x).trans (ab8 x y h)
def KS:aJ:=⟨93,Fb,HW,PX,wC⟩
def QI:bT:=
 (.seq
 (.aj false [
 oX 5 (.box 3 0)])
 (.seq
 (.aj false [
 oX 10 (.mv (kX 0))])
 (.block 0
 (.loop 0 ⟨[(1,sX),(2,sX),(3,sX),(4,sX),(5,.one (rX 5)),(10,sX)],[(1000000,.row false .ae iX),(5,.box [vX,vX,fX 1000000 1])]⟩ [1000000,5,500000] [(true,5,2,500000,.ae,[])]
 (.seq
 (.seq
 (.aj false [
 oX 11 (.mv 10),
 oX 12 (.aB 1 5),
 oX 13 (.load false 1 12),
 oX 14 (.bin .lss 11 13)])
 (.cond 14
 .skip
 (.exit 0)))
 (.seq
 (.block 1
 (.aj true [
 oX 17 (.load true 3 5),
 oX 18 (.mv 2),
 oX 19 (.mv 10),
 oX 20 (.load true 3 5),
 oX 21 (.mv 2),
 oX 22 (.mv 10),
 oX 23 (.call .ae 67 [20,21,22]),
 oX 24 (.mv 4),
 oX 25 (.load true 3 5),
 oX 26 (.mv 3),
 oX 27 (.mv 10),
 oX 28 (.call .ae 67 [25,26,27]),
 oX 29 (.bin .mul 24 28),
 oX 30 (.bin .add 23 29),
 oX 31 (.mv 1),
 oX 32 (.bin .rem 30 31),
 oX 33 (.fT .ae 66 [17,18,19,32])]))
 (.aj false [
 oX 15 (.mv 10),
 oX 16 (.bin .add 15 (kX 1)),
 oX 10 (.mv 16)])))))))
def OA:List bV:=[]
theorem ahq (NN:Nat) (x:be (av.aZ Fb)):DP NN [mA,mB] QI OA Fb HW PX x=EA NN x:=by kernel_rfl
theorem ae6:dh pX 93 QI.er OA 5=true:=by decide+kernel
theorem air:uA pX 93 HW KS.MM/\cg pX 93=true:=
  Ph (T:=[mA,mB]) (sc:=QI) (ms:=OA) (args:=Fb) (mu:=HW) (aH:=PX) (aI.cons yo<|aI.ta yp<|aI.nil) dK ae6 wC fun x y h=>(ahq aN x).trans (abW x y h)
def Cv:aJ:=⟨69,Ft,agW,Qc,uv⟩
def QX:bT:=
 (.seq
 (.aj false [
 oX 3 (.box 3 1),
 oX 4 (.alloc [zX,zX,.nil iX]),
 oX 5 (.mv (.k (.one (.nil iX))))])
 (.seq
 (.aj false [
 oX 14 (.load true 3 3),
 oX 15 (.call .ae 90 [14]),
 oX 6 (.alloc [zX,zX,.nil iX]),
 uX (.store 3 6 15)])
 (.seq
 (.aj false [
 oX 7 (.mv (.k (.one (.nil iX))))])
 (.seq
 (.seq
 (.aj false [
 oX 8 (.mv (kX 0))])
 (.join ⟨[(6,.one (rX 6)),(7,.one (fX 500026 1)),(4,.one (rX 4))],[(4,.box [vX,vX,fX 500024 1]),(6,.box [vX,vX,fX 500025 1]),(500024,.row true .ae iX),(500025,.row true .ae iX),(500026,.row true .ae iX)]⟩ [4,6,500000,500001,500002,500024,500025,500026] [(true,4,2,500024,.ae,[]),(true,6,2,500025,.ae,[]),(false,7,0,500026,.ae,[])]
 (.block 0
 (.loop 0 ⟨[(0,sX),(4,.one (rX 4)),(6,.one (rX 6)),(7,.one (fX 500002 1)),(8,sX)],[(4,.box [vX,vX,fX 500000 1]),(6,.box [vX,vX,fX 500001 1]),(500000,.row true .ae iX),(500001,.row true .ae iX),(500002,.row true .ae iX)]⟩ [3,4,16000,6,500000,500001,500002,500021,500022,500023] [(true,4,2,500000,.ae,[]),(true,6,2,500001,.ae,[]),(false,7,0,500002,.ae,[])]
 (.seq
 (.seq
 (.aj false [
 oX 16 (.mv 8),
 oX 17 (.aB 1 6),
 oX 18 (.load false 1 17),
 oX 19 (.bin .lss 16 18)])
 (.cond 19
 .skip
 (.exit 0)))
 (.seq
 (.join ⟨[(8,sX),(0,sX),(4,.one (rX 4)),(6,.one (rX 6)),(7,.one (fX 500023 1))],[(4,.box [vX,vX,fX 500021 1]),(6,.box [vX,vX,fX 500022 1]),(500021,.row true .ae iX),(500022,.row true .ae iX),(500023,.row true .ae iX)]⟩ [4,6,99,100,500006,500007,500008,500018,500019,500021,500022,500023] [(true,4,2,500021,.ae,[]),(true,6,2,500022,.ae,[]),(false,7,0,500023,.ae,[])]
 (.block 1
 (.seq
 (.aj false [
 oX 22 (.mv 7),
 oX 23 (.len 22),
 oX 9 (.mv 23)])
 (.seq
 (.aj false [
 oX 24 (.mv 9),
 oX 10 (.mv 24)])
 (.seq
 (.join ⟨[(10,sX),(9,sX),(7,.one (fX 500008 1)),(8,sX),(0,sX),(4,.one (rX 4)),(6,.one (rX 6))],[(4,.box [vX,vX,fX 500006 1]),(6,.box [vX,vX,fX 500007 1]),(500006,.row true .ae iX),(500007,.row true .ae iX),(500008,.row true .ae iX)]⟩ [4,6,500003,500004,500005,500006,500007,500008] [(true,4,2,500006,.ae,[]),(true,6,2,500007,.ae,[]),(false,7,0,500008,.ae,[])]
 (.block 2
 (.loop 0 ⟨[(0,sX),(4,.one (rX 4)),(6,.one (rX 6)),(7,.one (fX 500005 1)),(8,sX),(9,sX),(10,sX)],[(4,.box [vX,vX,fX 500003 1]),(6,.box [vX,vX,fX 500004 1]),(500003,.row true .ae iX),(500004,.row true .ae iX),(500005,.row true .ae iX)]⟩ [4,6,500000,500001,500002,500003,500004,500005] [(true,4,2,500003,.ae,[]),(true,6,2,500004,.ae,[]),(false,7,0,500005,.ae,[])]
 (.seq
 (.seq
 (.aj false [
 oX 25 (.mv 10),
 oX 26 (.aB 0 6),
 oX 27 (.load false 1 26),
 oX 28 (.bin .lss 25 27),
 oX 29 (.mv 28),
 ⟨(some 30),.load true 3 6,(some (29,true))⟩,
 ⟨(some 31),.mv 10,(some (29,true))⟩,
 ⟨(some 32),.mv 8,(some (29,true))⟩,
 ⟨(some 33),.call .ae 67 [30,31,32],(some (29,true))⟩,
 ⟨(some 34),.bin .eql 33 (kX 0),(some (29,true))⟩,
 oX 35 (.pick 29 34 (.k (.one (.v (.bool) (false)))))])
 (.cond 35
 .skip
 (.exit 2)))
 (.block 3
 (.aj false [
 oX 36 (.mv 10),
 oX 37 (.bin .add 36 (kX 1)),
 oX 10 (.mv 37)]))))))
 (.seq
 (.seq
 (.aj false [
 oX 38 (.mv 10),
 oX 39 (.aB 0 6),
 oX 40 (.load false 1 39),
 oX 41 (.bin .eql 38 40)])
 (.cond 41
 (.exit 1)
 .skip))
 (.seq
 (.aj false [
 oX 42 (.load true 3 6),
 oX 43 (.mv 9),
 oX 44 (.mv 10),
 oX 45 (.fT .ae 91 [42,43,44])])
 (.seq
 (.aj false [
 oX 46 (.mv 0),
 oX 47 (.load true 3 6),
 oX 48 (.mv 9),
 oX 49 (.mv 8),
 oX 50 (.call .ae 67 [47,48,49]),
 oX 51 (.call .ae 92 [46,50]),
 oX 11 (.mv 51)])
 (.seq
 (.seq
 (.aj false [
 oX 12 (.mv (kX 0))])
 (.join ⟨[(6,.one (rX 6)),(4,.one (rX 4)),(0,sX),(8,sX),(7,.one (fX 500014 1)),(9,sX)],[(4,.box [vX,vX,fX 500012 1]),(6,.box [vX,vX,fX 500013 1]),(500012,.row true .ae iX),(500013,.row true .ae iX),(500014,.row true .ae iX)]⟩ [4,6,500009,500010,500011,500012,500013,500014] [(true,4,2,500012,.ae,[]),(true,6,2,500013,.ae,[]),(false,7,0,500014,.ae,[])]
 (.block 4
 (.loop 0 ⟨[(0,sX),(4,.one (rX 4)),(6,.one (rX 6)),(7,.one (fX 500011 1)),(8,sX),(9,sX),(11,sX),(12,sX)],[(4,.box [vX,vX,fX 500009 1]),(6,.box [vX,vX,fX 500010 1]),(500009,.row true .ae iX),(500010,.row true .ae iX),(500011,.row true .ae iX)]⟩ [4,6,500006,500007,500008,500009,500010,500011] [(true,4,2,500009,.ae,[]),(true,6,2,500010,.ae,[]),(false,7,0,500011,.ae,[])]
 (.seq
 (.seq
 (.aj false [
 oX 52 (.mv 12),
 oX 53 (.aB 1 6),
 oX 54 (.load false 1 53),
 oX 55 (.bin .lss 52 54)])
 (.cond 55
 .skip
 (.exit 4)))
 (.seq
 (.block 5
 (.aj true [
 oX 58 (.load true 3 6),
 oX 59 (.mv 9),
 oX 60 (.mv 12),
 oX 61 (.load true 3 6),
 oX 62 (.mv 9),
 oX 63 (.mv 12),
 oX 64 (.call .ae 67 [61,62,63]),
 oX 65 (.mv 11),
 oX 66 (.bin .mul 64 65),
 oX 67 (.mv 0),
 oX 68 (.bin .rem 66 67),
 oX 69 (.fT .ae 66 [58,59,60,68])]))
 (.aj false [
 oX 56 (.mv 12),
 oX 57 (.bin .add 56 (kX 1)),
 oX 12 (.mv 57)])))))))
 (.seq
 (.seq
 (.aj false [
 oX 13 (.mv (kX 0))])
 (.join ⟨[(7,.one (fX 500020 1)),(8,sX),(0,sX),(4,.one (rX 4)),(6,.one (rX 6))],[(4,.box [vX,vX,fX 500018 1]),(6,.box [vX,vX,fX 500019 1]),(500018,.row true .ae iX),(500019,.row true .ae iX),(500020,.row true .ae iX)]⟩ [4,6,500015,500016,500017,500018,500019,500020] [(true,4,2,500018,.ae,[]),(true,6,2,500019,.ae,[]),(false,7,0,500020,.ae,[])]
 (.block 6
 (.loop 0 ⟨[(0,sX),(4,.one (rX 4)),(6,.one (rX 6)),(7,.one (fX 500017 1)),(8,sX),(9,sX),(13,sX)],[(4,.box [vX,vX,fX 500015 1]),(6,.box [vX,vX,fX 500016 1]),(500015,.row true .ae iX),(500016,.row true .ae iX),(500017,.row true .ae iX)]⟩ [4,6,500012,500013,500014,500015,500016,500017] [(true,4,2,500015,.ae,[]),(true,6,2,500016,.ae,[]),(false,7,0,500017,.ae,[])]
 (.seq
 (.seq
 (.aj false [
 oX 70 (.mv 13),
 oX 71 (.aB 0 6),
 oX 72 (.load false 1 71),
 oX 73 (.bin .lss 70 72)])
 (.cond 73
 .skip
 (.exit 6)))
 (.seq
 (.block 7
 (.seq
 (.aj false [
 oX 76 (.mv 13),
 oX 77 (.mv 9),
 oX 78 (.bin .neq 76 77),
 oX 79 (.mv 78),
 ⟨(some 80),.load true 3 6,(some (79,true))⟩,
 ⟨(some 81),.mv 13,(some (79,true))⟩,
 ⟨(some 82),.mv 8,(some (79,true))⟩,
 ⟨(some 83),.call .ae 67 [80,81,82],(some (79,true))⟩,
 ⟨(some 84),.bin .neq 83 (kX 0),(some (79,true))⟩,
 oX 85 (.pick 79 84 (.k (.one (.v (.bool) (false)))))])
 (.cond 85
 (.aj true [
 oX 86 (.load true 3 6),
 oX 87 (.mv 0),
 oX 88 (.mv 13),
 oX 89 (.mv 9),
 oX 90 (.mv 0),
 oX 91 (.load true 3 6),
 oX 92 (.mv 13),
 oX 93 (.mv 8),
 oX 94 (.call .ae 67 [91,92,93]),
 oX 95 (.bin .sub 90 94),
 oX 96 (.fT .ae 93 [86,87,88,89,95])])
 .skip)))
 (.aj false [
 oX 74 (.mv 13),
 oX 75 (.bin .add 74 (kX 1)),
 oX 13 (.mv 75)])))))))
 (.aj false [
 oX 97 (.mv 7),
 oX 98 (.mv 8),
 oX 99 (.fg iX [98]),
 oX 100 (.append true iX 8 97 99),
 oX 7 (.mv 100)])))))))))))
 (.aj false [
 oX 20 (.mv 8),
 oX 21 (.bin .add 20 (kX 1)),
 oX 8 (.mv 21)])))))))
 (.seq
 (.aj false [
 oX 101 (.load true 3 6),
 oX 102 (.mv 7),
 uX (.store 3 4 101),
 oX 5 (.mv 102)])
 .ret)))))
def OQ:List bV:=[.cell 4 3 true,.tmp 5]
theorem ahF (NN:Nat) (x:be (av.aZ Ft)):gd NN [KX,mA,KT,KY,mB,KS] QX OQ Ft Qc x=EJ NN x:=by kernel_rfl
theorem afl:dh pX 69 QX.er OQ 2=true:=by decide+kernel
theorem Yc:ff pX 69 Cv.M/\cg pX 69=true:=
  gN (T:=[KX,mA,KT,KY,mB,KS]) (sc:=QX) (ms:=OQ) (args:=Ft) (aH:=Qc) (aI.cons aiw<|aI.cons yo<|aI.ta ais<|aI.cons aix<|aI.ta yp<|aI.ta air<|aI.nil) dK afl uv fun x y h=>(ahF aN x).trans (acb x y h)
def xk:aJ:=⟨42,Fs,agV,Qb,rn⟩
def QW:bT:=
 (.seq
 (.aj false [
 oX 1 (.box 5 0),
 oX 2 (.mv (.k (.one (.nil [lX])))),
 oX 3 (.alloc [zX,zX,.nil iX])])
 (.seq
 (.aj false [
 oX 4 (.mv (.k (.one (.nil [lX]))))])
 (.seq
 (.aj false [
 oX 12 (.aB 1 1),
 oX 13 (.load false 1 12),
 oX 14 (.call .ae 65 [(kX 0),13]),
 oX 5 (.alloc [zX,zX,.nil iX]),
 uX (.store 3 5 14)])
 (.seq
 (.aj false [
 oX 15 (.fg [lX] [(.k (.one (.nil iX)))]),
 oX 6 (.mv 15)])
 (.seq
 (.join ⟨[(4,.one (fX 500010 1)),(5,.one (rX 5)),(3,.one (rX 3))],[(3,.box [vX,vX,fX 500008 1]),(5,.box [vX,vX,fX 500009 1]),(500008,.row true .ae iX),(500009,.row true .ae iX),(500010,.row true .aA [lX])]⟩ [1,3,5,500000,500001,500002,500003,500008,500009,500010] [(true,3,2,500008,.ae,[]),(true,5,2,500009,.ae,[]),(false,4,0,500010,.aA,[])]
 (.block 0
 (.loop 0 ⟨[(1,.one (rX 1)),(3,.one (rX 3)),(4,.one (fX 500002 1)),(5,.one (rX 5)),(6,.one (fX 500003 1))],[(1,.box [vX,vX,.c (.v (lX)),.c (.v (.list mX)),.c (.v (lX))]),(3,.box [vX,vX,fX 500000 1]),(5,.box [vX,vX,fX 500001 1]),(500000,.row true .ae iX),(500001,.row true .ae iX),(500002,.row true .aA [lX]),(500003,.row true .ae [lX])]⟩ [1,3,15000,5,15,23,35000,35,8,42000,42001,9,500000,500001,500002,500003,500004,500005,500006,500007] [(true,3,2,500000,.ae,[]),(true,5,2,500001,.ae,[]),(false,4,0,500002,.aA,[]),(false,6,0,500003,.ae,[])]
 (.seq
 (.seq
 (.aj false [
 oX 16 (.mv 6),
 oX 17 (.len 16),
 oX 18 (.bin .gtr 17 (kX 0))])
 (.cond 18
 .skip
 (.exit 0)))
 (.block 1
 (.seq
 (.aj false [
 oX 19 (.mv 6),
 oX 20 (.dZ 1 19 (kX 0)),
 oX 21 (.load false 1 20),
 oX 7 (.mv 21)])
 (.seq
 (.aj false [
 oX 22 (.mv 6),
 oX 23 (.tail 1 22 (kX 1)),
 oX 6 (.mv 23)])
 (.seq
 (.nH [(0,11),(1,11),(3,11),(4,11),(11,13)] [
 oX 24 (.aB 0 5),
 oX 25 (.load false 1 24),
 oX 26 (.bin .add 25 (kX 1)),
 oX 27 (.aB 1 1),
 oX 28 (.load false 1 27),
 oX 29 (.aB 2 5),
 oX 30 (.load false 1 29),
 oX 31 (.call .ae 44 [30]),
 oX 32 (.load true 5 1),
 oX 33 (.mv 7),
 oX 34 (.call .ae 68 [32,33]),
 oX 35 (.append true iX 8 31 34),
 oX 36 (.build [zX,zX,.nil iX] [(0,1,26),(1,1,28),(2,1,35)]),
 oX 8 (.alloc [zX,zX,.nil iX]),
 uX (.store 3 8 36)])
 (.seq
 (.aj false [
 oX 38 (.aB 0 1),
 oX 39 (.load false 1 38),
 oX 40 (.load true 3 8),
 oX 41 (.call .ae 69 [39,40]),
 oX 37 (.mv 41),
 oX 42 (.ext 0 37),
 oX 43 (.ext 1 37),
 oX 9 (.alloc [zX,zX,.nil iX]),
 uX (.store 3 9 42),
 oX 10 (.mv 43)])
 (.seq
 (.seq
 (.aj false [
 oX 44 (.mv 10),
 oX 45 (.len 44),
 oX 46 (.aB 0 8),
 oX 47 (.load false 1 46),
 oX 48 (.bin .lss 45 47)])
 (.cond 48
 (.exit 1)
 .skip))
 (.seq
 (.aj false [
 oX 49 (.load true 3 8),
 uX (.store 3 5 49)])
 (.seq
 (.aj false [
 oX 50 (.mv 4),
 oX 51 (.mv 7),
 oX 52 (.fg [lX] [51]),
 oX 53 (.append false [lX] 24 50 52),
 oX 4 (.mv 53)])
 (.seq
 (.aj false [
 oX 54 (.aB 3 1),
 oX 55 (.load false 1 54),
 oX 56 (.len 55),
 oX 57 (.mv (kX 0))])
 (.block 2
 (.loop 0 ⟨[(1,.one (rX 1)),(3,.one (rX 3)),(4,.one (fX 500006 1)),(5,.one (rX 5)),(6,.one (fX 500007 1)),(7,.one (.c (.v (lX)))),(56,sX),(57,sX)],[(1,.box [vX,vX,.c (.v (lX)),.c (.v (.list mX)),.c (.v (lX))]),(3,.box [vX,vX,fX 500004 1]),(5,.box [vX,vX,fX 500005 1]),(500004,.row true .ae iX),(500005,.row true .ae iX),(500006,.row true .aA [lX]),(500007,.row true .ae [lX])]⟩ [1,3,5,23,35000,35,8,42000,42001,9,53,64,67,500000,500001,500004,500005,500006,500007] [(true,3,2,500004,.ae,[]),(true,5,2,500005,.ae,[]),(false,4,0,500006,.aA,[]),(false,6,0,500007,.ae,[])]
 (.seq
 (.aj false [
 oX 58 (.bin .lss 57 56)])
 (.seq
 (.cond 58
 .skip
 (.exit 2))
 (.seq
 (.block 3
 (.seq
 (.aj false [
 oX 59 (.mv 57),
 oX 11 (.mv 59)])
 (.aj false [
 oX 60 (.mv 6),
 oX 61 (.mv 7),
 oX 62 (.call .ae 44 [61]),
 oX 63 (.mv 11),
 oX 64 (.fg iX [63]),
 oX 65 (.append true iX 8 62 64),
 oX 66 (.fg [lX] [65]),
 oX 67 (.append false [lX] 24 60 66),
 oX 6 (.mv 67)])))
 (.aj false [
 oX 68 (.bin .add 57 (kX 1)),
 oX 57 (.mv 68)])))))))))))))))))))
 (.seq
 (.aj true [
 oX 69 (.mv 4),
 oX 70 (.load true 3 5),
 oX 2 (.mv 69),
 uX (.store 3 3 70)])
 .ret))))))
def OP:List bV:=[.tmp 2,.cell 3 3 true]
theorem ahE (NN:Nat) (x:be (av.aZ Fs)):nJ NN [qv,n4,Cy,Cv] QW OP Fs Qb x=EI NN x:=by kernel_rfl
theorem afk:dh pX 42 QW.er OP 1=true:=by decide+kernel
theorem Pt:kP Go.Proofs.Try.prog 42 xk.MV/\cg pX 42=true:=
  qd (T:=[qv,n4,Cy,Cv]) (sc:=QW) (ms:=OP) (args:=Fs) (aH:=Qb) (aI.cons DF<|aI.cons A2<|aI.cons Yf<|aI.cons Yc<|aI.nil) dK afk rn fun x y h=>(ahE aN x).trans (aca x y h)
def K4:aJ:=⟨82,Fy,ag1,Qh,wE⟩
def Q2:bT:=
 (.seq
 (.aj false [
 oX 4 (.box 3 1),
 oX 5 (.box 3 2),
 oX 6 (.alloc [zX,zX,.nil iX])])
 (.seq
 (.aj false [
 oX 16 (.aB 1 4),
 oX 17 (.load false 1 16),
 oX 18 (.aB 0 4),
 oX 19 (.load false 1 18),
 oX 20 (.aB 0 5),
 oX 21 (.load false 1 20),
 oX 22 (.bin .add 19 21),
 oX 23 (.call .ae 65 [17,22]),
 oX 7 (.alloc [zX,zX,.nil iX]),
 uX (.store 3 7 23)])
 (.seq
 (.seq
 (.aj false [
 oX 8 (.mv (kX 0))])
 (.join ⟨[(0,sX),(7,.one (rX 7)),(6,.one (rX 6)),(4,.one (rX 4)),(5,.one (rX 5))],[(4,.box [vX,vX,.c (.v (lX))]),(5,.box [vX,vX,.c (.v (lX))]),(6,.box [vX,vX,fX 500010 1]),(7,.box [vX,vX,fX 500011 1]),(500010,.row true .ae iX),(500011,.row true .ae iX)]⟩ [4,5,6,7,500000,500001,500010,500011] [(true,6,2,500010,.ae,[]),(true,7,2,500011,.ae,[])]
 (.block 0
 (.loop 0 ⟨[(0,sX),(4,.one (rX 4)),(5,.one (rX 5)),(6,.one (rX 6)),(7,.one (rX 7)),(8,sX)],[(4,.box [vX,vX,.c (.v (lX))]),(5,.box [vX,vX,.c (.v (lX))]),(6,.box [vX,vX,fX 500000 1]),(7,.box [vX,vX,fX 500001 1]),(500000,.row true .ae iX),(500001,.row true .ae iX)]⟩ [4,5,6,24000,7,500000,500001,500008,500009] [(true,6,2,500000,.ae,[]),(true,7,2,500001,.ae,[])]
 (.seq
 (.seq
 (.aj false [
 oX 24 (.mv 8),
 oX 25 (.aB 1 4),
 oX 26 (.load false 1 25),
 oX 27 (.bin .lss 24 26)])
 (.cond 27
 .skip
 (.exit 0)))
 (.seq
 (.join ⟨[(8,sX),(0,sX),(4,.one (rX 4)),(5,.one (rX 5)),(6,.one (rX 6)),(7,.one (rX 7))],[(4,.box [vX,vX,.c (.v (lX))]),(5,.box [vX,vX,.c (.v (lX))]),(6,.box [vX,vX,fX 500008 1]),(7,.box [vX,vX,fX 500009 1]),(500008,.row true .ae iX),(500009,.row true .ae iX)]⟩ [4,5,6,7,500006,500007,500008,500009] [(true,6,2,500008,.ae,[]),(true,7,2,500009,.ae,[])]
 (.block 1
 (.seq
 (.seq
 (.aj false [
 oX 9 (.mv (kX 0))])
 (.join ⟨[(7,.one (rX 7)),(6,.one (rX 6)),(5,.one (rX 5)),(4,.one (rX 4)),(0,sX),(8,sX)],[(4,.box [vX,vX,.c (.v (lX))]),(5,.box [vX,vX,.c (.v (lX))]),(6,.box [vX,vX,fX 500004 1]),(7,.box [vX,vX,fX 500005 1]),(500004,.row true .ae iX),(500005,.row true .ae iX)]⟩ [4,5,6,7,500002,500003,500004,500005] [(true,6,2,500004,.ae,[]),(true,7,2,500005,.ae,[])]
 (.block 2
 (.loop 0 ⟨[(0,sX),(4,.one (rX 4)),(5,.one (rX 5)),(6,.one (rX 6)),(7,.one (rX 7)),(8,sX),(9,sX)],[(4,.box [vX,vX,.c (.v (lX))]),(5,.box [vX,vX,.c (.v (lX))]),(6,.box [vX,vX,fX 500002 1]),(7,.box [vX,vX,fX 500003 1]),(500002,.row true .ae iX),(500003,.row true .ae iX)]⟩ [4,5,6,7,500000,500001,500002,500003] [(true,6,2,500002,.ae,[]),(true,7,2,500003,.ae,[])]
 (.seq
 (.seq
 (.aj false [
 oX 30 (.mv 9),
 oX 31 (.aB 0 4),
 oX 32 (.load false 1 31),
 oX 33 (.bin .lss 30 32)])
 (.cond 33
 .skip
 (.exit 2)))
 (.seq
 (.block 3
 (.aj true [
 oX 36 (.load true 3 7),
 oX 37 (.mv 8),
 oX 38 (.mv 9),
 oX 39 (.load true 3 4),
 oX 40 (.mv 9),
 oX 41 (.mv 8),
 oX 42 (.call .ae 67 [39,40,41]),
 oX 43 (.fT .ae 66 [36,37,38,42])]))
 (.aj false [
 oX 34 (.mv 9),
 oX 35 (.bin .add 34 (kX 1)),
 oX 9 (.mv 35)])))))))
 (.seq
 (.aj false [
 oX 10 (.mv (kX 0))])
 (.block 4
 (.loop 0 ⟨[(0,sX),(4,.one (rX 4)),(5,.one (rX 5)),(6,.one (rX 6)),(7,.one (rX 7)),(8,sX),(10,sX)],[(4,.box [vX,vX,.c (.v (lX))]),(5,.box [vX,vX,.c (.v (lX))]),(6,.box [vX,vX,fX 500006 1]),(7,.box [vX,vX,fX 500007 1]),(500006,.row true .ae iX),(500007,.row true .ae iX)]⟩ [4,5,6,7,500004,500005,500006,500007] [(true,6,2,500006,.ae,[]),(true,7,2,500007,.ae,[])]
 (.seq
 (.seq
 (.aj false [
 oX 44 (.mv 10),
 oX 45 (.aB 0 5),
 oX 46 (.load false 1 45),
 oX 47 (.bin .lss 44 46)])
 (.cond 47
 .skip
 (.exit 4)))
 (.seq
 (.block 5
 (.aj true [
 oX 50 (.load true 3 7),
 oX 51 (.mv 8),
 oX 52 (.aB 0 4),
 oX 53 (.load false 1 52),
 oX 54 (.mv 10),
 oX 55 (.bin .add 53 54),
 oX 56 (.load true 3 5),
 oX 57 (.mv 10),
 oX 58 (.mv 8),
 oX 59 (.call .ae 67 [56,57,58]),
 oX 60 (.fT .ae 66 [50,51,55,59])]))
 (.aj false [
 oX 48 (.mv 10),
 oX 49 (.bin .add 48 (kX 1)),
 oX 10 (.mv 49)])))))))))
 (.aj false [
 oX 28 (.mv 8),
 oX 29 (.bin .add 28 (kX 1)),
 oX 8 (.mv 29)])))))))
 (.seq
 (.aj false [
 oX 62 (.mv 0),
 oX 63 (.load true 3 7),
 oX 64 (.call .ae 69 [62,63]),
 oX 61 (.mv 64),
 oX 65 (.ext 0 61),
 oX 66 (.ext 1 61),
 oX 11 (.alloc [zX,zX,.nil iX]),
 uX (.store 3 11 65),
 oX 12 (.mv 66)])
 (.seq
 (.aj false [
 oX 67 (.aB 0 5),
 oX 68 (.load false 1 67),
 oX 69 (.aB 0 4),
 oX 70 (.load false 1 69),
 oX 71 (.call .ae 65 [68,70]),
 oX 13 (.alloc [zX,zX,.nil iX]),
 uX (.store 3 13 71)])
 (.seq
 (.seq
 (.aj false [
 oX 14 (.mv (kX 0))])
 (.join ⟨[(13,.one (rX 13)),(6,.one (rX 6))],[(6,.box [vX,vX,fX 500021 1]),(13,.box [vX,vX,fX 500022 1]),(500021,.row true .ae iX),(500022,.row true .ae iX)]⟩ [4,5,6,11,13,500012,500013,500014,500021,500022] [(true,6,2,500021,.ae,[]),(true,13,2,500022,.ae,[])]
 (.block 6
 (.loop 0 ⟨[(4,.one (rX 4)),(5,.one (rX 5)),(6,.one (rX 6)),(11,.one (rX 11)),(13,.one (rX 13)),(14,sX)],[(4,.box [vX,vX,.c (.v (lX))]),(5,.box [vX,vX,.c (.v (lX))]),(6,.box [vX,vX,fX 500012 1]),(11,.box [vX,vX,fX 500013 1]),(13,.box [vX,vX,fX 500014 1]),(500012,.row true .ae iX),(500013,.row true .ae iX),(500014,.row true .ae iX)]⟩ [4,5,6,7,65000,65001,11,72000,13,500010,500011,500012,500013,500014,500018,500019,500020] [(true,6,2,500012,.ae,[]),(true,11,2,500013,.ae,[]),(true,13,2,500014,.ae,[])]
 (.seq
 (.seq
 (.aj false [
 oX 72 (.mv 14),
 oX 73 (.aB 0 5),
 oX 74 (.load false 1 73),
 oX 75 (.bin .lss 72 74)])
 (.cond 75
 .skip
 (.exit 6)))
 (.seq
 (.join ⟨[(14,sX),(4,.one (rX 4)),(5,.one (rX 5)),(6,.one (rX 6)),(11,.one (rX 11)),(13,.one (rX 13))],[(4,.box [vX,vX,.c (.v (lX))]),(5,.box [vX,vX,.c (.v (lX))]),(6,.box [vX,vX,fX 500018 1]),(11,.box [vX,vX,fX 500019 1]),(13,.box [vX,vX,fX 500020 1]),(500018,.row true .ae iX),(500019,.row true .ae iX),(500020,.row true .ae iX)]⟩ [4,5,6,11,13,500015,500016,500017,500018,500019,500020] [(true,6,2,500018,.ae,[]),(true,11,2,500019,.ae,[]),(true,13,2,500020,.ae,[])]
 (.block 7
 (.seq
 (.aj false [
 oX 15 (.mv (kX 0))])
 (.block 8
 (.loop 0 ⟨[(4,.one (rX 4)),(5,.one (rX 5)),(6,.one (rX 6)),(11,.one (rX 11)),(13,.one (rX 13)),(14,sX),(15,sX)],[(4,.box [vX,vX,.c (.v (lX))]),(5,.box [vX,vX,.c (.v (lX))]),(6,.box [vX,vX,fX 500015 1]),(11,.box [vX,vX,fX 500016 1]),(13,.box [vX,vX,fX 500017 1]),(500015,.row true .ae iX),(500016,.row true .ae iX),(500017,.row true .ae iX)]⟩ [4,5,6,11,13,500012,500013,500014,500015,500016,500017] [(true,6,2,500015,.ae,[]),(true,11,2,500016,.ae,[]),(true,13,2,500017,.ae,[])]
 (.seq
 (.seq
 (.aj false [
 oX 78 (.mv 15),
 oX 79 (.aB 0 4),
 oX 80 (.load false 1 79),
 oX 81 (.bin .lss 78 80)])
 (.cond 81
 .skip
 (.exit 8)))
 (.seq
 (.block 9
 (.aj true [
 oX 84 (.load true 3 13),
 oX 85 (.mv 14),
 oX 86 (.mv 15),
 oX 87 (.load true 3 11),
 oX 88 (.mv 15),
 oX 89 (.aB 0 4),
 oX 90 (.load false 1 89),
 oX 91 (.mv 14),
 oX 92 (.bin .add 90 91),
 oX 93 (.call .ae 67 [87,88,92]),
 oX 94 (.fT .ae 66 [84,85,86,93])]))
 (.aj false [
 oX 82 (.mv 15),
 oX 83 (.bin .add 82 (kX 1)),
 oX 15 (.mv 83)]))))))))
 (.aj false [
 oX 76 (.mv 14),
 oX 77 (.bin .add 76 (kX 1)),
 oX 14 (.mv 77)])))))))
 (.seq
 (.aj false [
 oX 95 (.load true 3 13),
 uX (.store 3 6 95)])
 .ret)))))))
def OV:List bV:=[.cell 6 3 true]
theorem ahK (NN:Nat) (x:be (av.aZ Fy)):gd NN [qv,mA,mB,Cv] Q2 OV Fy Qh x=JH NN x:=by kernel_rfl
theorem afq:dh pX 82 Q2.er OV 3=true:=by decide+kernel
theorem aiA:ff pX 82 K4.M/\cg pX 82=true:=
  gN (T:=[qv,mA,mB,Cv]) (sc:=Q2) (ms:=OV) (args:=Fy) (aH:=Qh) (aI.cons DF<|aI.cons yo<|aI.ta yp<|aI.cons Yc<|aI.nil) dK afq wE fun x y h=>(ahK aN x).trans (ach x y h)
def K3:aJ:=⟨51,Fw,agZ,Qf,sP⟩
def Q0:bT:=
 (.seq
 (.aj false [
 oX 1 (.box 5 0),
 oX 2 (.alloc [zX,zX,.nil iX,.nil mX,.nil iX])])
 (.seq
 (.aj false [
 oX 9 (.load true 5 1),
 oX 10 (.dn 42 [9]),
 oX 8 (.mv 10),
 oX 11 (.ext 0 8),
 oX 12 (.ext 1 8),
 oX 4 (.alloc [zX,zX,.nil iX]),
 oX 3 (.mv 11),
 uX (.store 3 4 12)])
 (.seq
 (.aj true [
 oX 13 (.aB 0 1),
 oX 14 (.load false 1 13),
 oX 15 (.mv 3),
 oX 16 (.len 15),
 oX 17 (.mv 3),
 oX 18 (.len 17),
 oX 19 (.mb .ae iX 8 (0:Int) 18 18),
 oX 20 (.build [zX,zX,.nil iX,.nil mX,.nil iX] [(0,1,14),(1,1,16),(2,1,19)]),
 oX 5 (.alloc [zX,zX,.nil iX,.nil mX,.nil iX]),
 uX (.store 5 5 20)])
 (.seq
 (.seq
 (.aj false [
 oX 21 (.mv 3),
 oX 22 (.len 21),
 oX 23 (.bin .gtr 22 (kX 0))])
 (.join ⟨[(2,.one (rX 2)),(5,.one (rX 5)),(1,.one (rX 1)),(4,.one (rX 4))],[(1,.box [vX,vX,.c (.v (lX)),.c (.v (.list mX)),.c (.v (lX))]),(2,.box [vX,vX,fX 500000 1,fX 500001 3,fX 500002 1]),(4,.box [vX,vX,.c (.v (lX))]),(5,.box [vX,vX,fX 500003 1,fX 500004 3,fX 500005 1]),(500000,.row true .ae iX),(500001,.row true .ae mX),(500002,.row true .ae iX),(500003,.row true .ae iX),(500004,.row true .ae mX),(500005,.row true .ae iX)]⟩ [1,2,4,19,5,500000,500001,500002,500003,500004,500005] [(true,2,2,500000,.ae,[]),(true,2,3,500001,.ae,[]),(true,2,4,500002,.ae,[]),(true,5,2,500003,.ae,[]),(true,5,3,500004,.ae,[]),(true,5,4,500005,.ae,[])]
 (.cond 23
 (.aj false [
 oX 24 (.aB 2 5),
 oX 25 (.load false 1 24),
 oX 26 (.dZ 1 25 (kX 0)),
 uX (.store 1 26 (kX 1))])
 .skip)))
 (.seq
 (.aj true [
 oX 27 (.aB 0 1),
 oX 28 (.load false 1 27),
 oX 29 (.load true 3 4),
 oX 30 (.aB 4 1),
 oX 31 (.load false 1 30),
 oX 32 (.kE 72 true 31),
 oX 33 (.call .ae 70 [28,29,32]),
 oX 34 (.kj false 2 1 33),
 oX 35 (.aB 4 5),
 uX (.store 1 35 34)])
 (.seq
 (.seq
 (.aj false [
 oX 36 (.aB 3 1),
 oX 37 (.load false 1 36),
 oX 38 (.len 37),
 oX 39 (.mv (kX 0))])
 (.join ⟨[(5,.one (rX 5)),(2,.one (rX 2))],[(2,.box [vX,vX,fX 500012 1,fX 500013 3,fX 500014 1]),(5,.box [vX,vX,fX 500015 1,fX 500016 3,fX 500017 1]),(500012,.row true .ae iX),(500013,.row true .ae mX),(500014,.row true .ae iX),(500015,.row true .ae iX),(500016,.row true .ae mX),(500017,.row true .ae iX)]⟩ [1,2,4,5,500006,500007,500008,500009,500010,500011,500012,500013,500014,500015,500016,500017] [(true,2,2,500012,.ae,[]),(true,2,3,500013,.ae,[]),(true,2,4,500014,.ae,[]),(true,5,2,500015,.ae,[]),(true,5,3,500016,.ae,[]),(true,5,4,500017,.ae,[])]
 (.block 0
 (.loop 0 ⟨[(1,.one (rX 1)),(2,.one (rX 2)),(4,.one (rX 4)),(5,.one (rX 5)),(37,.one (.c (.v (.list mX)))),(38,sX),(39,sX)],[(1,.box [vX,vX,.c (.v (lX)),.c (.v (.list mX)),.c (.v (lX))]),(2,.box [vX,vX,fX 500006 1,fX 500007 3,fX 500008 1]),(4,.box [vX,vX,.c (.v (lX))]),(5,.box [vX,vX,fX 500009 1,fX 500010 3,fX 500011 1]),(500006,.row true .ae iX),(500007,.row true .ae mX),(500008,.row true .ae iX),(500009,.row true .ae iX),(500010,.row true .ae mX),(500011,.row true .ae iX)]⟩ [1,2,4,5,34000,7,53000,55,500000,500001,500002,500003,500004,500005,500006,500007,500008,500009,500010,500011] [(true,2,2,500006,.ae,[]),(true,2,3,500007,.ae,[]),(true,2,4,500008,.ae,[]),(true,5,2,500009,.ae,[]),(true,5,3,500010,.ae,[]),(true,5,4,500011,.ae,[])]
 (.seq
 (.aj false [
 oX 40 (.bin .lss 39 38)])
 (.seq
 (.cond 40
 .skip
 (.exit 0))
 (.seq
 (.block 1
 (.seq
 (.aj false [
 oX 41 (.dZ 3 37 39),
 oX 42 (.load true 3 41),
 oX 7 (.alloc [zX,zX,.nil iX]),
 uX (.store 3 7 42)])
 (.nH [(0,11),(1,11)] [
 oX 43 (.aB 3 5),
 oX 44 (.load false 1 43),
 oX 45 (.aB 0 1),
 oX 46 (.load false 1 45),
 oX 47 (.load true 3 4),
 oX 48 (.aB 0 1),
 oX 49 (.load false 1 48),
 oX 50 (.load true 3 4),
 oX 51 (.load true 3 7),
 oX 52 (.call .ae 70 [49,50,51]),
 oX 53 (.call .ae 82 [46,47,52]),
 oX 54 (.fg mX [53]),
 oX 55 (.append false mX 40 44 54),
 oX 56 (.aB 3 5),
 uX (.store 1 56 55)])))
 (.aj false [
 oX 57 (.bin .add 39 (kX 1)),
 oX 39 (.mv 57)]))))))))
 (.seq
 (.aj false [
 oX 58 (.load true 5 5),
 uX (.store 5 2 58)])
 .ret)))))))
def OT:List bV:=[.cell 2 5 true]
theorem ahI (NN:Nat) (x:be (av.aZ Fw)):gd NN [xk,xj,K4] Q0 OT Fw Qf x=JF NN x:=by kernel_rfl
theorem afo:dh pX 51 Q0.er OT 1=true:=by decide+kernel
theorem aiz:ff pX 51 K3.M/\cg pX 51=true:=
  gN (T:=[xk,xj,K4]) (sc:=Q0) (ms:=OT) (args:=Fw) (aH:=Qf) (aI.jI Pt<|aI.cons Ps<|aI.cons aiA<|aI.nil) dK afo sP fun x y h=>(ahI aN x).trans (acf x y h)
def KZ:aJ:=⟨81,Fu,agX,Qd,yV⟩
def QY:bT:=
 (.seq
 (.aj false [
 oX 1 (.box 3 0),
 oX 2 (.alloc [zX,zX,.nil iX])])
 (.seq
 (.aj false [
 oX 6 (.aB 1 1),
 oX 7 (.load false 1 6),
 oX 8 (.aB 0 1),
 oX 9 (.load false 1 8),
 oX 10 (.call .ae 65 [7,9]),
 oX 3 (.alloc [zX,zX,.nil iX]),
 uX (.store 3 3 10)])
 (.seq
 (.seq
 (.aj false [
 oX 4 (.mv (kX 0))])
 (.join ⟨[(3,.one (rX 3)),(2,.one (rX 2))],[(2,.box [vX,vX,fX 500006 1]),(3,.box [vX,vX,fX 500007 1]),(500006,.row true .ae iX),(500007,.row true .ae iX)]⟩ [1,2,3,500000,500001,500006,500007] [(true,2,2,500006,.ae,[]),(true,3,2,500007,.ae,[])]
 (.block 0
 (.loop 0 ⟨[(1,.one (rX 1)),(2,.one (rX 2)),(3,.one (rX 3)),(4,sX)],[(1,.box [vX,vX,.c (.v (lX))]),(2,.box [vX,vX,fX 500000 1]),(3,.box [vX,vX,fX 500001 1]),(500000,.row true .ae iX),(500001,.row true .ae iX)]⟩ [1,2,11000,3,500000,500001,500004,500005] [(true,2,2,500000,.ae,[]),(true,3,2,500001,.ae,[])]
 (.seq
 (.seq
 (.aj false [
 oX 11 (.mv 4),
 oX 12 (.aB 0 1),
 oX 13 (.load false 1 12),
 oX 14 (.bin .lss 11 13)])
 (.cond 14
 .skip
 (.exit 0)))
 (.seq
 (.join ⟨[(4,sX),(1,.one (rX 1)),(2,.one (rX 2)),(3,.one (rX 3))],[(1,.box [vX,vX,.c (.v (lX))]),(2,.box [vX,vX,fX 500004 1]),(3,.box [vX,vX,fX 500005 1]),(500004,.row true .ae iX),(500005,.row true .ae iX)]⟩ [1,2,3,500002,500003,500004,500005] [(true,2,2,500004,.ae,[]),(true,3,2,500005,.ae,[])]
 (.block 1
 (.seq
 (.aj false [
 oX 5 (.mv (kX 0))])
 (.block 2
 (.loop 0 ⟨[(1,.one (rX 1)),(2,.one (rX 2)),(3,.one (rX 3)),(4,sX),(5,sX)],[(1,.box [vX,vX,.c (.v (lX))]),(2,.box [vX,vX,fX 500002 1]),(3,.box [vX,vX,fX 500003 1]),(500002,.row true .ae iX),(500003,.row true .ae iX)]⟩ [1,2,3,500000,500001,500002,500003] [(true,2,2,500002,.ae,[]),(true,3,2,500003,.ae,[])]
 (.seq
 (.seq
 (.aj false [
 oX 17 (.mv 5),
 oX 18 (.aB 1 1),
 oX 19 (.load false 1 18),
 oX 20 (.bin .lss 17 19)])
 (.cond 20
 .skip
 (.exit 2)))
 (.seq
 (.block 3
 (.aj true [
 oX 23 (.load true 3 3),
 oX 24 (.mv 5),
 oX 25 (.mv 4),
 oX 26 (.load true 3 1),
 oX 27 (.mv 4),
 oX 28 (.mv 5),
 oX 29 (.call .ae 67 [26,27,28]),
 oX 30 (.fT .ae 66 [23,24,25,29])]))
 (.aj false [
 oX 21 (.mv 5),
 oX 22 (.bin .add 21 (kX 1)),
 oX 5 (.mv 22)]))))))))
 (.aj false [
 oX 15 (.mv 4),
 oX 16 (.bin .add 15 (kX 1)),
 oX 4 (.mv 16)])))))))
 (.seq
 (.aj false [
 oX 31 (.load true 3 3),
 uX (.store 3 2 31)])
 .ret))))
def OR:List bV:=[.cell 2 3 true]
theorem ahG (NN:Nat) (x:be (av.aZ Fu)):gd NN [qv,mA,mB] QY OR Fu Qd x=EK NN x:=by kernel_rfl
theorem afm:dh pX 81 QY.er OR 1=true:=by decide+kernel
theorem aiy:ff pX 81 KZ.M/\cg pX 81=true:=
  gN (T:=[qv,mA,mB]) (sc:=QY) (ms:=OR) (args:=Fu) (aH:=Qd) (aI.cons DF<|aI.cons yo<|aI.ta yp<|aI.nil) dK afm yV fun x y h=>(ahG aN x).trans (acd x y h)
def K5:aJ:=⟨50,Fz,ag2,Qi,sQ⟩
def Q3:bT:=
 (.seq
 (.aj false [
 oX 1 (.box 5 0),
 oX 2 (.alloc [zX,zX,.nil iX,.nil mX,.nil iX])])
 (.seq
 (.aj true [
 oX 6 (.aB 0 1),
 oX 7 (.load false 1 6),
 oX 8 (.aB 1 1),
 oX 9 (.load false 1 8),
 oX 10 (.aB 4 1),
 oX 11 (.load false 1 10),
 oX 12 (.call .ae 44 [11]),
 oX 13 (.aB 2 1),
 oX 14 (.load false 1 13),
 oX 15 (.call .ae 44 [14]),
 oX 16 (.build [zX,zX,.nil iX,.nil mX,.nil iX] [(0,1,7),(1,1,9),(2,1,12),(4,1,15)]),
 oX 3 (.alloc [zX,zX,.nil iX,.nil mX,.nil iX]),
 uX (.store 5 3 16)])
 (.seq
 (.seq
 (.aj false [
 oX 17 (.aB 3 1),
 oX 18 (.load false 1 17),
 oX 19 (.len 18),
 oX 20 (.mv (kX 0))])
 (.join ⟨[(3,.one (rX 3)),(2,.one (rX 2))],[(2,.box [vX,vX,fX 500006 1,fX 500007 3,fX 500008 1]),(3,.box [vX,vX,fX 500009 1,fX 500010 3,fX 500011 1]),(500006,.row true .ae iX),(500007,.row true .ae mX),(500008,.row true .ae iX),(500009,.row true .ae iX),(500010,.row true .ae mX),(500011,.row true .ae iX)]⟩ [2,3,500000,500001,500002,500003,500004,500005,500006,500007,500008,500009,500010,500011] [(true,2,2,500006,.ae,[]),(true,2,3,500007,.ae,[]),(true,2,4,500008,.ae,[]),(true,3,2,500009,.ae,[]),(true,3,3,500010,.ae,[]),(true,3,4,500011,.ae,[])]
 (.block 0
 (.loop 0 ⟨[(2,.one (rX 2)),(3,.one (rX 3)),(18,.one (.c (.v (.list mX)))),(19,sX),(20,sX)],[(2,.box [vX,vX,fX 500000 1,fX 500001 3,fX 500002 1]),(3,.box [vX,vX,fX 500003 1,fX 500004 3,fX 500005 1]),(500000,.row true .ae iX),(500001,.row true .ae mX),(500002,.row true .ae iX),(500003,.row true .ae iX),(500004,.row true .ae mX),(500005,.row true .ae iX)]⟩ [1,2,13000,16000,3,5,29,500000,500001,500002,500003,500004,500005] [(true,2,2,500000,.ae,[]),(true,2,3,500001,.ae,[]),(true,2,4,500002,.ae,[]),(true,3,2,500003,.ae,[]),(true,3,3,500004,.ae,[]),(true,3,4,500005,.ae,[])]
 (.seq
 (.aj false [
 oX 21 (.bin .lss 20 19)])
 (.seq
 (.cond 21
 .skip
 (.exit 0))
 (.seq
 (.block 1
 (.seq
 (.aj false [
 oX 22 (.dZ 3 18 20),
 oX 23 (.load true 3 22),
 oX 5 (.alloc [zX,zX,.nil iX]),
 uX (.store 3 5 23)])
 (.nH [(0,4),(1,4)] [
 oX 24 (.aB 3 3),
 oX 25 (.load false 1 24),
 oX 26 (.load true 3 5),
 oX 27 (.call .ae 81 [26]),
 oX 28 (.fg mX [27]),
 oX 29 (.append false mX 40 25 28),
 oX 30 (.aB 3 3),
 uX (.store 1 30 29)])))
 (.aj false [
 oX 31 (.bin .add 20 (kX 1)),
 oX 20 (.mv 31)]))))))))
 (.seq
 (.aj false [
 oX 32 (.load true 5 3),
 uX (.store 5 2 32)])
 .ret))))
def OW:List bV:=[.cell 2 5 true]
theorem ahL (NN:Nat) (x:be (av.aZ Fz)):gd NN [n4,KZ] Q3 OW Fz Qi x=JI NN x:=by kernel_rfl
theorem afr:dh pX 50 Q3.er OW 1=true:=by decide+kernel
theorem aiB:ff pX 50 K5.M/\cg pX 50=true:=
  gN (T:=[n4,KZ]) (sc:=Q3) (ms:=OW) (args:=Fz) (aH:=Qi) (aI.cons A2<|aI.cons aiy<|aI.nil) dK afr sQ fun x y h=>(ahL aN x).trans (aci x y h)
def KU:aJ:=⟨18,Fg,agL,P1,rl⟩
def QM:bT:=
 (.seq
 (.aj false [
 oX 1 (.box 5 0),
 oX 2 (.alloc [zX,zX,.nil iX,.nil mX,.nil iX])])
 (.seq
 (.seq
 (.aj false [
 oX 3 (.load true 5 1),
 oX 4 (.call .ae 28 [3]),
 oX 5 (.un .not 4)])
 (.cond 5
 (.seq
 (.aj false [
 oX 6 (.build [zX,zX,.nil iX,.nil mX,.nil iX] []),
 uX (.store 5 2 6)])
 .ret)
 .skip))
 (.seq
 (.aj false [
 oX 7 (.load true 5 1),
 oX 8 (.call .ae 51 [7]),
 oX 9 (.call .ae 50 [8]),
 oX 10 (.call .ae 51 [9]),
 oX 11 (.call .ae 50 [10]),
 uX (.store 5 2 11)])
 .ret)))
def OE:List bV:=[.cell 2 5 true]
theorem ahu (NN:Nat) (x:be (av.aZ Fg)):gd NN [qu,K3,K5] QM OE Fg P1 x=EE NN x:=by kernel_rfl
theorem afa:dh pX 18 QM.er OE 1=true:=by decide+kernel
theorem ait:ff pX 18 KU.M/\cg pX 18=true:=
  gN (T:=[qu,K3,K5]) (sc:=QM) (ms:=OE) (args:=Fg) (aH:=P1) (aI.cons DE<|aI.cons aiz<|aI.cons aiB<|aI.nil) dK afa rl fun x y h=>(ahu aN x).trans (ab0 x y h)
def K7:aJ:=⟨26,FC,ag6,Qm,yX⟩
def Q7:bT:=
 (.seq
 (.aj false [
 oX 6 (.mv (.k (.one (.nil iX))))])
 (.seq
 (.aj false [
 oX 10 (.mv 0),
 oX 11 (.mv 1),
 oX 12 (.dn 53 [10,11]),
 oX 7 (.mv 12)])
 (.seq
 (.aj false [
 oX 13 (.fg iX []),
 oX 8 (.mv 13)])
 (.seq
 (.seq
 (.aj false [
 oX 14 (.mv 7),
 oX 15 (.dn 55 [14,(kX 7)]),
 oX 9 (.mv 15)])
 (.join ⟨[(8,.one (fX 500001 1))],[(500001,.row true .ae iX)]⟩ [12,500000,500001] [(false,8,0,500001,.ae,[])]
 (.block 0
 (.loop 0 ⟨[(2,sX),(7,.one (rX 12)),(8,.one (fX 500000 1)),(9,sX)],[(12,.box [.c (.v (.list [.int .u8])),vX,vX]),(500000,.row true .ae iX)]⟩ [12,13,24,25,500000] [(false,8,0,500000,.ae,[])]
 (.seq
 (.seq
 (.aj false [
 oX 16 (.mv 9),
 oX 17 (.bin .gtr 16 (kX 0))])
 (.cond 17
 .skip
 (.exit 0)))
 (.seq
 (.block 1
 (.aj false [
 oX 20 (.mv 8),
 oX 21 (.mv 7),
 oX 22 (.mv 2),
 oX 23 (.dn 55 [21,22]),
 oX 24 (.fg iX [23]),
 oX 25 (.append true iX 8 20 24),
 oX 8 (.mv 25)]))
 (.aj false [
 oX 18 (.mv 9),
 oX 19 (.bin .sub 18 (kX 1)),
 oX 9 (.mv 19)])))))))
 (.seq
 (.aj false [
 oX 26 (.mv 8),
 oX 6 (.mv 26)])
 .ret)))))
def O0:List bV:=[.tmp 6]
theorem ahP (NN:Nat) (x:be (av.aZ FC)):nJ NN [CA,qw] Q7 O0 FC Qm x=EO NN x:=by kernel_rfl
theorem afv:dh pX 26 Q7.er O0 3=true:=by decide+kernel
theorem aiE:kP Go.Proofs.Try.prog 26 K7.MV/\cg pX 26=true:=
  qd (T:=[CA,qw]) (sc:=Q7) (ms:=O0) (args:=FC) (aH:=Qm) (aI.jI Yg<|aI.jI DG<|aI.nil) dK afv yX fun x y h=>(ahP aN x).trans (acn x y h)
def Cx:aJ:=⟨40,Fx,ag0,Qg,qg⟩
def Q1:bT:=
 (.seq
 (.aj false [
 oX 2 (.box 5 0),
 oX 3 (.box 5 1),
 oX 4 (.mv (.k (.one (.v (.bool) (false)))))])
 (.seq
 (.aj false [
 oX 5 (.load true 5 2),
 oX 6 (.call .ae 28 [5]),
 oX 7 (.mv 6),
 ⟨(some 8),.load true 5 3,(some (7,true))⟩,
 ⟨(some 9),.call .ae 28 [8],(some (7,true))⟩,
 oX 10 (.pick 7 9 (.k (.one (.v (.bool) (false))))),
 oX 11 (.mv 10),
 ⟨(some 12),.aB 0 2,(some (11,true))⟩,
 ⟨(some 13),.load false 1 12,(some (11,true))⟩,
 ⟨(some 14),.aB 0 3,(some (11,true))⟩,
 ⟨(some 15),.load false 1 14,(some (11,true))⟩,
 ⟨(some 16),.bin .eql 13 15,(some (11,true))⟩,
 oX 17 (.pick 11 16 (.k (.one (.v (.bool) (false))))),
 oX 18 (.mv 17),
 ⟨(some 19),.aB 3 2,(some (18,true))⟩,
 ⟨(some 20),.load false 1 19,(some (18,true))⟩,
 ⟨(some 21),.len 20,(some (18,true))⟩,
 ⟨(some 22),.aB 3 3,(some (18,true))⟩,
 ⟨(some 23),.load false 1 22,(some (18,true))⟩,
 ⟨(some 24),.len 23,(some (18,true))⟩,
 ⟨(some 25),.bin .eql 21 24,(some (18,true))⟩,
 oX 26 (.pick 18 25 (.k (.one (.v (.bool) (false))))),
 oX 4 (.mv 26)])
 .ret))
def OU:List bV:=[.tmp 4]
theorem ahJ (NN:Nat) (x:be (av.aZ Fx)):gd NN [qu] Q1 OU Fx Qg x=JG NN x:=by kernel_rfl
theorem afp:dh pX 40 Q1.er OU 2=true:=by decide+kernel
theorem Ye:ff pX 40 Cx.M/\cg pX 40=true:=
  gN (T:=[qu]) (sc:=Q1) (ms:=OU) (args:=Fx) (aH:=Qg) (aI.cons DE<|aI.nil) dK afp qg fun x y h=>(ahJ aN x).trans (acg x y h)
def Ct:aJ:=⟨41,Fo,agS,P8,sN⟩
def QT:bT:=
 (.seq
 (.aj false [
 oX 2 (.box 5 0),
 oX 3 (.box 5 1),
 oX 4 (.alloc [zX,zX,.nil iX,.nil mX,.nil iX])])
 (.seq
 (.aj false [
 oX 13 (.aB 0 2),
 oX 14 (.load false 1 13),
 oX 15 (.aB 1 2),
 oX 16 (.load false 1 15),
 oX 17 (.aB 1 3),
 oX 18 (.load false 1 17),
 oX 19 (.bin .add 16 18),
 oX 20 (.build [zX,zX,.nil iX,.nil mX,.nil iX] [(0,1,14),(1,1,19)]),
 oX 5 (.alloc [zX,zX,.nil iX,.nil mX,.nil iX]),
 uX (.store 5 5 20)])
 (.seq
 (.aj true [
 oX 21 (.aB 2 2),
 oX 22 (.load false 1 21),
 oX 23 (.call .ae 44 [22]),
 oX 24 (.aB 2 3),
 oX 25 (.load false 1 24),
 oX 26 (.append true iX 8 23 25),
 oX 27 (.aB 2 5),
 uX (.store 1 27 26)])
 (.seq
 (.aj true [
 oX 28 (.aB 4 2),
 oX 29 (.load false 1 28),
 oX 30 (.call .ae 44 [29]),
 oX 31 (.aB 4 3),
 oX 32 (.load false 1 31),
 oX 33 (.append true iX 8 30 32),
 oX 34 (.aB 4 5),
 uX (.store 1 34 33)])
 (.seq
 (.seq
 (.aj false [
 oX 35 (.aB 3 2),
 oX 36 (.load false 1 35),
 oX 37 (.len 36),
 oX 38 (.mv (kX 0))])
 (.join ⟨[(5,.one (rX 5)),(4,.one (rX 4))],[(4,.box [vX,vX,fX 500068 1,fX 500069 3,fX 500070 1]),(5,.box [vX,vX,fX 500071 1,fX 500072 3,fX 500073 1]),(500068,.row true .ae iX),(500069,.row true .ae mX),(500070,.row true .ae iX),(500071,.row true .ae iX),(500072,.row true .ae mX),(500073,.row true .ae iX)]⟩ [2,3,4,5,500000,500001,500002,500003,500004,500005,500068,500069,500070,500071,500072,500073] [(true,4,2,500068,.ae,[]),(true,4,3,500069,.ae,[]),(true,4,4,500070,.ae,[]),(true,5,2,500071,.ae,[]),(true,5,3,500072,.ae,[]),(true,5,4,500073,.ae,[])]
 (.block 0
 (.loop 0 ⟨[(2,.one (rX 2)),(3,.one (rX 3)),(4,.one (rX 4)),(5,.one (rX 5)),(36,.one (.c (.v (.list mX)))),(37,sX),(38,sX)],[(2,.box [vX,vX,.c (.v (lX)),.c (.v (.list mX)),.c (.v (lX))]),(3,.box [vX,vX,.c (.v (lX)),.c (.v (.list mX)),.c (.v (lX))]),(4,.box [vX,vX,fX 500000 1,fX 500001 3,fX 500002 1]),(5,.box [vX,vX,fX 500003 1,fX 500004 3,fX 500005 1]),(500000,.row true .ae iX),(500001,.row true .ae mX),(500002,.row true .ae iX),(500003,.row true .ae iX),(500004,.row true .ae mX),(500005,.row true .ae iX)]⟩ [2,3,4,5,26,33,500000,500001,500002,500003,500004,500005,500062,500063,500064,500065,500066,500067] [(true,4,2,500000,.ae,[]),(true,4,3,500001,.ae,[]),(true,4,4,500002,.ae,[]),(true,5,2,500003,.ae,[]),(true,5,3,500004,.ae,[]),(true,5,4,500005,.ae,[])]
 (.seq
 (.aj false [
 oX 39 (.bin .lss 38 37)])
 (.seq
 (.cond 39
 .skip
 (.exit 0))
 (.seq
 (.join ⟨[(38,sX),(2,.one (rX 2)),(3,.one (rX 3)),(4,.one (rX 4)),(5,.one (rX 5)),(36,.one (.c (.v (.list mX)))),(37,sX)],[(2,.box [vX,vX,.c (.v (lX)),.c (.v (.list mX)),.c (.v (lX))]),(3,.box [vX,vX,.c (.v (lX)),.c (.v (.list mX)),.c (.v (lX))]),(4,.box [vX,vX,fX 500062 1,fX 500063 3,fX 500064 1]),(5,.box [vX,vX,fX 500065 1,fX 500066 3,fX 500067 1]),(500062,.row true .ae iX),(500063,.row true .ae mX),(500064,.row true .ae iX),(500065,.row true .ae iX),(500066,.row true .ae mX),(500067,.row true .ae iX)]⟩ [2,3,4,5,8,102,500055,500056,500057,500058,500060,500062,500063,500064,500065,500066,500067] [(true,4,2,500062,.ae,[]),(true,4,3,500063,.ae,[]),(true,4,4,500064,.ae,[]),(true,5,2,500065,.ae,[]),(true,5,3,500066,.ae,[]),(true,5,4,500067,.ae,[])]
 (.block 1
 (.seq
 (.aj false [
 oX 40 (.mv 38),
 oX 41 (.dZ 3 36 38),
 oX 42 (.load true 3 41),
 oX 7 (.alloc [zX,zX,.nil iX]),
 oX 6 (.mv 40),
 uX (.store 3 7 42)])
 (.seq
 (.aj false [
 oX 43 (.aB 1 5),
 oX 44 (.load false 1 43),
 oX 45 (.aB 1 5),
 oX 46 (.load false 1 45),
 oX 47 (.call .ae 65 [44,46]),
 oX 8 (.alloc [zX,zX,.nil iX]),
 uX (.store 3 8 47)])
 (.seq
 (.seq
 (.aj false [
 oX 9 (.mv (kX 0))])
 (.join ⟨[(37,sX),(36,.one (.c (.v (.list mX)))),(5,.one (rX 5)),(4,.one (rX 4)),(3,.one (rX 3)),(2,.one (rX 2)),(38,sX),(8,.one (rX 8)),(6,sX)],[(2,.box [vX,vX,.c (.v (lX)),.c (.v (.list mX)),.c (.v (lX))]),(3,.box [vX,vX,.c (.v (lX)),.c (.v (.list mX)),.c (.v (lX))]),(4,.box [vX,vX,fX 500027 1,fX 500028 3,fX 500029 1]),(5,.box [vX,vX,fX 500030 1,fX 500031 3,fX 500032 1]),(8,.box [vX,vX,fX 500033 1]),(500027,.row true .ae iX),(500028,.row true .ae mX),(500029,.row true .ae iX),(500030,.row true .ae iX),(500031,.row true .ae mX),(500032,.row true .ae iX),(500033,.row true .ae iX)]⟩ [2,3,4,5,7,8,500006,500007,500008,500009,500010,500011,500012,500027,500028,500029,500030,500031,500032,500033] [(true,4,2,500027,.ae,[]),(true,4,3,500028,.ae,[]),(true,4,4,500029,.ae,[]),(true,5,2,500030,.ae,[]),(true,5,3,500031,.ae,[]),(true,5,4,500032,.ae,[]),(true,8,2,500033,.ae,[])]
 (.block 2
 (.loop 0 ⟨[(2,.one (rX 2)),(3,.one (rX 3)),(4,.one (rX 4)),(5,.one (rX 5)),(6,sX),(7,.one (rX 7)),(8,.one (rX 8)),(9,sX),(36,.one (.c (.v (.list mX)))),(37,sX),(38,sX)],[(2,.box [vX,vX,.c (.v (lX)),.c (.v (.list mX)),.c (.v (lX))]),(3,.box [vX,vX,.c (.v (lX)),.c (.v (.list mX)),.c (.v (lX))]),(4,.box [vX,vX,fX 500006 1,fX 500007 3,fX 500008 1]),(5,.box [vX,vX,fX 500009 1,fX 500010 3,fX 500011 1]),(7,.box [vX,vX,.c (.v (lX))]),(8,.box [vX,vX,fX 500012 1]),(500006,.row true .ae iX),(500007,.row true .ae mX),(500008,.row true .ae iX),(500009,.row true .ae iX),(500010,.row true .ae mX),(500011,.row true .ae iX),(500012,.row true .ae iX)]⟩ [2,3,4,5,7,48000,8,500000,500001,500002,500003,500004,500005,500006,500007,500008,500009,500010,500011,500012,500020,500021,500022,500023,500024,500025,500026] [(true,4,2,500006,.ae,[]),(true,4,3,500007,.ae,[]),(true,4,4,500008,.ae,[]),(true,5,2,500009,.ae,[]),(true,5,3,500010,.ae,[]),(true,5,4,500011,.ae,[]),(true,8,2,500012,.ae,[])]
 (.seq
 (.seq
 (.aj false [
 oX 48 (.mv 9),
 oX 49 (.aB 1 2),
 oX 50 (.load false 1 49),
 oX 51 (.bin .lss 48 50)])
 (.cond 51
 .skip
 (.exit 2)))
 (.seq
 (.join ⟨[(9,sX),(2,.one (rX 2)),(3,.one (rX 3)),(4,.one (rX 4)),(5,.one (rX 5)),(6,sX),(7,.one (rX 7)),(8,.one (rX 8)),(36,.one (.c (.v (.list mX)))),(37,sX),(38,sX)],[(2,.box [vX,vX,.c (.v (lX)),.c (.v (.list mX)),.c (.v (lX))]),(3,.box [vX,vX,.c (.v (lX)),.c (.v (.list mX)),.c (.v (lX))]),(4,.box [vX,vX,fX 500020 1,fX 500021 3,fX 500022 1]),(5,.box [vX,vX,fX 500023 1,fX 500024 3,fX 500025 1]),(7,.box [vX,vX,.c (.v (lX))]),(8,.box [vX,vX,fX 500026 1]),(500020,.row true .ae iX),(500021,.row true .ae mX),(500022,.row true .ae iX),(500023,.row true .ae iX),(500024,.row true .ae mX),(500025,.row true .ae iX),(500026,.row true .ae iX)]⟩ [2,3,4,5,7,8,500013,500014,500015,500016,500017,500018,500019,500020,500021,500022,500023,500024,500025,500026] [(true,4,2,500020,.ae,[]),(true,4,3,500021,.ae,[]),(true,4,4,500022,.ae,[]),(true,5,2,500023,.ae,[]),(true,5,3,500024,.ae,[]),(true,5,4,500025,.ae,[]),(true,8,2,500026,.ae,[])]
 (.block 3
 (.seq
 (.aj false [
 oX 10 (.mv (kX 0))])
 (.block 4
 (.loop 0 ⟨[(2,.one (rX 2)),(3,.one (rX 3)),(4,.one (rX 4)),(5,.one (rX 5)),(6,sX),(7,.one (rX 7)),(8,.one (rX 8)),(9,sX),(10,sX),(36,.one (.c (.v (.list mX)))),(37,sX),(38,sX)],[(2,.box [vX,vX,.c (.v (lX)),.c (.v (.list mX)),.c (.v (lX))]),(3,.box [vX,vX,.c (.v (lX)),.c (.v (.list mX)),.c (.v (lX))]),(4,.box [vX,vX,fX 500013 1,fX 500014 3,fX 500015 1]),(5,.box [vX,vX,fX 500016 1,fX 500017 3,fX 500018 1]),(7,.box [vX,vX,.c (.v (lX))]),(8,.box [vX,vX,fX 500019 1]),(500013,.row true .ae iX),(500014,.row true .ae mX),(500015,.row true .ae iX),(500016,.row true .ae iX),(500017,.row true .ae mX),(500018,.row true .ae iX),(500019,.row true .ae iX)]⟩ [2,3,4,5,7,8,500006,500007,500008,500009,500010,500011,500012,500013,500014,500015,500016,500017,500018,500019] [(true,4,2,500013,.ae,[]),(true,4,3,500014,.ae,[]),(true,4,4,500015,.ae,[]),(true,5,2,500016,.ae,[]),(true,5,3,500017,.ae,[]),(true,5,4,500018,.ae,[]),(true,8,2,500019,.ae,[])]
 (.seq
 (.seq
 (.aj false [
 oX 54 (.mv 10),
 oX 55 (.aB 1 2),
 oX 56 (.load false 1 55),
 oX 57 (.bin .lss 54 56)])
 (.cond 57
 .skip
 (.exit 4)))
 (.seq
 (.block 5
 (.aj true [
 oX 60 (.load true 3 8),
 oX 61 (.mv 9),
 oX 62 (.mv 10),
 oX 63 (.load true 3 7),
 oX 64 (.mv 9),
 oX 65 (.mv 10),
 oX 66 (.call .ae 67 [63,64,65]),
 oX 67 (.fT .ae 66 [60,61,62,66])]))
 (.aj false [
 oX 58 (.mv 10),
 oX 59 (.bin .add 58 (kX 1)),
 oX 10 (.mv 59)]))))))))
 (.aj false [
 oX 52 (.mv 9),
 oX 53 (.bin .add 52 (kX 1)),
 oX 9 (.mv 53)])))))))
 (.seq
 (.seq
 (.aj false [
 oX 11 (.mv (kX 0))])
 (.join ⟨[(8,.one (rX 8)),(38,sX),(2,.one (rX 2)),(3,.one (rX 3)),(4,.one (rX 4)),(5,.one (rX 5)),(36,.one (.c (.v (.list mX)))),(37,sX)],[(2,.box [vX,vX,.c (.v (lX)),.c (.v (.list mX)),.c (.v (lX))]),(3,.box [vX,vX,.c (.v (lX)),.c (.v (.list mX)),.c (.v (lX))]),(4,.box [vX,vX,fX 500055 1,fX 500056 3,fX 500057 1]),(5,.box [vX,vX,fX 500058 1,fX 500059 3,fX 500060 1]),(8,.box [vX,vX,fX 500061 1]),(500055,.row true .ae iX),(500056,.row true .ae mX),(500057,.row true .ae iX),(500058,.row true .ae iX),(500059,.row true .ae mX),(500060,.row true .ae iX),(500061,.row true .ae iX)]⟩ [2,3,4,5,8,500034,500035,500036,500037,500038,500039,500040,500055,500056,500057,500058,500059,500060,500061] [(true,4,2,500055,.ae,[]),(true,4,3,500056,.ae,[]),(true,4,4,500057,.ae,[]),(true,5,2,500058,.ae,[]),(true,5,3,500059,.ae,[]),(true,5,4,500060,.ae,[]),(true,8,2,500061,.ae,[])]
 (.block 6
 (.loop 0 ⟨[(2,.one (rX 2)),(3,.one (rX 3)),(4,.one (rX 4)),(5,.one (rX 5)),(6,sX),(8,.one (rX 8)),(11,sX),(36,.one (.c (.v (.list mX)))),(37,sX),(38,sX)],[(2,.box [vX,vX,.c (.v (lX)),.c (.v (.list mX)),.c (.v (lX))]),(3,.box [vX,vX,.c (.v (lX)),.c (.v (.list mX)),.c (.v (lX))]),(4,.box [vX,vX,fX 500034 1,fX 500035 3,fX 500036 1]),(5,.box [vX,vX,fX 500037 1,fX 500038 3,fX 500039 1]),(8,.box [vX,vX,fX 500040 1]),(500034,.row true .ae iX),(500035,.row true .ae mX),(500036,.row true .ae iX),(500037,.row true .ae iX),(500038,.row true .ae mX),(500039,.row true .ae iX),(500040,.row true .ae iX)]⟩ [2,3,4,5,8,500027,500028,500029,500030,500031,500032,500033,500034,500035,500036,500037,500038,500039,500040,500048,500049,500050,500051,500052,500053,500054] [(true,4,2,500034,.ae,[]),(true,4,3,500035,.ae,[]),(true,4,4,500036,.ae,[]),(true,5,2,500037,.ae,[]),(true,5,3,500038,.ae,[]),(true,5,4,500039,.ae,[]),(true,8,2,500040,.ae,[])]
 (.seq
 (.seq
 (.aj false [
 oX 68 (.mv 11),
 oX 69 (.aB 1 3),
 oX 70 (.load false 1 69),
 oX 71 (.bin .lss 68 70)])
 (.cond 71
 .skip
 (.exit 6)))
 (.seq
 (.join ⟨[(11,sX),(2,.one (rX 2)),(3,.one (rX 3)),(4,.one (rX 4)),(5,.one (rX 5)),(6,sX),(8,.one (rX 8)),(36,.one (.c (.v (.list mX)))),(37,sX),(38,sX)],[(2,.box [vX,vX,.c (.v (lX)),.c (.v (.list mX)),.c (.v (lX))]),(3,.box [vX,vX,.c (.v (lX)),.c (.v (.list mX)),.c (.v (lX))]),(4,.box [vX,vX,fX 500048 1,fX 500049 3,fX 500050 1]),(5,.box [vX,vX,fX 500051 1,fX 500052 3,fX 500053 1]),(8,.box [vX,vX,fX 500054 1]),(500048,.row true .ae iX),(500049,.row true .ae mX),(500050,.row true .ae iX),(500051,.row true .ae iX),(500052,.row true .ae mX),(500053,.row true .ae iX),(500054,.row true .ae iX)]⟩ [2,3,4,5,8,500041,500042,500043,500044,500045,500046,500047,500048,500049,500050,500051,500052,500053,500054] [(true,4,2,500048,.ae,[]),(true,4,3,500049,.ae,[]),(true,4,4,500050,.ae,[]),(true,5,2,500051,.ae,[]),(true,5,3,500052,.ae,[]),(true,5,4,500053,.ae,[]),(true,8,2,500054,.ae,[])]
 (.block 7
 (.seq
 (.aj false [
 oX 12 (.mv (kX 0))])
 (.block 8
 (.loop 0 ⟨[(2,.one (rX 2)),(3,.one (rX 3)),(4,.one (rX 4)),(5,.one (rX 5)),(6,sX),(8,.one (rX 8)),(11,sX),(12,sX),(36,.one (.c (.v (.list mX)))),(37,sX),(38,sX)],[(2,.box [vX,vX,.c (.v (lX)),.c (.v (.list mX)),.c (.v (lX))]),(3,.box [vX,vX,.c (.v (lX)),.c (.v (.list mX)),.c (.v (lX))]),(4,.box [vX,vX,fX 500041 1,fX 500042 3,fX 500043 1]),(5,.box [vX,vX,fX 500044 1,fX 500045 3,fX 500046 1]),(8,.box [vX,vX,fX 500047 1]),(500041,.row true .ae iX),(500042,.row true .ae mX),(500043,.row true .ae iX),(500044,.row true .ae iX),(500045,.row true .ae mX),(500046,.row true .ae iX),(500047,.row true .ae iX)]⟩ [2,3,4,5,8,500034,500035,500036,500037,500038,500039,500040,500041,500042,500043,500044,500045,500046,500047] [(true,4,2,500041,.ae,[]),(true,4,3,500042,.ae,[]),(true,4,4,500043,.ae,[]),(true,5,2,500044,.ae,[]),(true,5,3,500045,.ae,[]),(true,5,4,500046,.ae,[]),(true,8,2,500047,.ae,[])]
 (.seq
 (.seq
 (.aj false [
 oX 74 (.mv 12),
 oX 75 (.aB 1 3),
 oX 76 (.load false 1 75),
 oX 77 (.bin .lss 74 76)])
 (.cond 77
 .skip
 (.exit 8)))
 (.seq
 (.block 9
 (.aj true [
 oX 80 (.load true 3 8),
 oX 81 (.aB 1 2),
 oX 82 (.load false 1 81),
 oX 83 (.mv 11),
 oX 84 (.bin .add 82 83),
 oX 85 (.aB 1 2),
 oX 86 (.load false 1 85),
 oX 87 (.mv 12),
 oX 88 (.bin .add 86 87),
 oX 89 (.aB 3 3),
 oX 90 (.load false 1 89),
 oX 91 (.mv 6),
 oX 92 (.dZ 3 90 91),
 oX 93 (.load true 3 92),
 oX 94 (.mv 11),
 oX 95 (.mv 12),
 oX 96 (.call .ae 67 [93,94,95]),
 oX 97 (.fT .ae 66 [80,84,88,96])]))
 (.aj false [
 oX 78 (.mv 12),
 oX 79 (.bin .add 78 (kX 1)),
 oX 12 (.mv 79)]))))))))
 (.aj false [
 oX 72 (.mv 11),
 oX 73 (.bin .add 72 (kX 1)),
 oX 11 (.mv 73)])))))))
 (.aj false [
 oX 98 (.aB 3 5),
 oX 99 (.load false 1 98),
 oX 100 (.load true 3 8),
 oX 101 (.fg mX [100]),
 oX 102 (.append false mX 40 99 101),
 oX 103 (.aB 3 5),
 uX (.store 1 103 102)])))))))
 (.aj false [
 oX 104 (.bin .add 38 (kX 1)),
 oX 38 (.mv 104)]))))))))
 (.seq
 (.aj false [
 oX 105 (.load true 5 5),
 uX (.store 5 4 105)])
 .ret))))))
def OM:List bV:=[.cell 4 5 true]
theorem ahB (NN:Nat) (x:be (av.aZ Fo)):gd NN [n4,qv,mA,mB] QT OM Fo P8 x=EG NN x:=by kernel_rfl
theorem afh:dh pX 41 QT.er OM 2=true:=by decide+kernel
theorem Yb:ff pX 41 Ct.M/\cg pX 41=true:=
  gN (T:=[n4,qv,mA,mB]) (sc:=QT) (ms:=OM) (args:=Fo) (aH:=P8) (aI.cons A2<|aI.cons DF<|aI.cons yo<|aI.ta yp<|aI.nil) dK afh sN fun x y h=>(ahB aN x).trans (ab7 x y h)
def Cw:aJ:=⟨43,Fv,agY,Qe,sO⟩
def QZ:bT:=
 (.seq
 (.aj false [
 oX 2 (.box 5 0),
 oX 4 (.mv (kX 0))])
 (.seq
 (.aj true [
 oX 5 (.aB 0 2),
 oX 6 (.load false 1 5),
 oX 7 (.load true 5 2),
 oX 8 (.mv 1),
 oX 9 (.call .ae 68 [7,8]),
 oX 10 (.kE 71 false 9),
 oX 11 (.aB 4 2),
 oX 12 (.load false 1 11),
 oX 13 (.kE 72 true 12),
 oX 14 (.call .ae 70 [6,10,13]),
 oX 15 (.kj false 2 1 14),
 oX 16 (.dZ 1 15 (kX 0)),
 oX 17 (.load false 1 16),
 oX 4 (.mv 17)])
 .ret))
def OS:List bV:=[.tmp 4]
theorem ahH (NN:Nat) (x:be (av.aZ Fv)):gd NN [Cy,xj] QZ OS Fv Qe x=JE NN x:=by kernel_rfl
theorem afn:dh pX 43 QZ.er OS 2=true:=by decide+kernel
theorem Yd:ff pX 43 Cw.M/\cg pX 43=true:=
  gN (T:=[Cy,xj]) (sc:=QZ) (ms:=OS) (args:=Fv) (aH:=Qe) (aI.cons Yf<|aI.cons Ps<|aI.nil) dK afn sO fun x y h=>(ahH aN x).trans (ace x y h)
def KQ:aJ:=⟨11,E8,agH,PU,wA⟩
def QF:bT:=
 (.seq
 (.aj false [
 oX 2 (.box 5 0),
 oX 3 (.box 5 1),
 oX 4 (.mv (.k (.one (.nil iX)))),
 oX 5 (.mv (.k (.one (.v (.bool) (false)))))])
 (.seq
 (.seq
 (.aj false [
 oX 12 (.load true 5 2),
 oX 13 (.load true 5 3),
 oX 14 (.call .ae 40 [12,13]),
 oX 15 (.un .not 14)])
 (.cond 15
 (.seq
 (.aj false [
 oX 4 (.mv (.k (.one (.nil iX)))),
 oX 5 (.mv (.k (.one (.v (.bool) (false)))))])
 .ret)
 .skip))
 (.seq
 (.aj false [
 oX 16 (.load true 5 2),
 oX 17 (.load true 5 3),
 oX 18 (.call .ae 41 [16,17]),
 oX 6 (.alloc [zX,zX,.nil iX,.nil mX,.nil iX]),
 uX (.store 5 6 18)])
 (.seq
 (.seq
 (.aj false [
 oX 19 (.aB 1 2),
 oX 20 (.load false 1 19),
 oX 7 (.mv 20)])
 (.join ⟨[(6,.one (rX 6))],[(6,.box [vX,vX,fX 500003 1,fX 500004 3,fX 500005 1]),(500003,.row true .ae iX),(500004,.row true .ae mX),(500005,.row true .ae iX)]⟩ [2,6,500000,500001,500002,500003,500004,500005] [(true,6,2,500003,.ae,[]),(true,6,3,500004,.ae,[]),(true,6,4,500005,.ae,[])]
 (.block 0
 (.loop 0 ⟨[(2,.one (rX 2)),(6,.one (rX 6)),(7,sX)],[(2,.box [vX,vX,.c (.v (lX)),.c (.v (.list mX)),.c (.v (lX))]),(6,.box [vX,vX,fX 500000 1,fX 500001 3,fX 500002 1]),(500000,.row true .ae iX),(500001,.row true .ae mX),(500002,.row true .ae iX)]⟩ [2,3,19000,19001,19002,6,500000,500001,500002] [(true,6,2,500000,.ae,[]),(true,6,3,500001,.ae,[]),(true,6,4,500002,.ae,[])]
 (.seq
 (.seq
 (.aj false [
 oX 21 (.mv 7),
 oX 22 (.aB 1 6),
 oX 23 (.load false 1 22),
 oX 24 (.bin .lss 21 23)])
 (.cond 24
 .skip
 (.exit 0)))
 (.seq
 (.block 1
 (.aj true [
 oX 27 (.aB 4 6),
 oX 28 (.load false 1 27),
 oX 29 (.mv 7),
 oX 30 (.aB 0 2),
 oX 31 (.load false 1 30),
 oX 32 (.aB 4 6),
 oX 33 (.load false 1 32),
 oX 34 (.mv 7),
 oX 35 (.dZ 1 33 34),
 oX 36 (.load false 1 35),
 oX 37 (.bin .sub 31 36),
 oX 38 (.aB 0 2),
 oX 39 (.load false 1 38),
 oX 40 (.bin .rem 37 39),
 oX 41 (.dZ 1 28 29),
 uX (.store 1 41 40)]))
 (.aj false [
 oX 25 (.mv 7),
 oX 26 (.bin .add 25 (kX 1)),
 oX 7 (.mv 26)])))))))
 (.seq
 (.aj false [
 oX 43 (.mQ true 5 6),
 oX 44 (.dn 42 [43]),
 oX 42 (.mv 44),
 oX 45 (.ext 0 42),
 oX 46 (.ext 1 42),
 oX 9 (.alloc [zX,zX,.nil iX]),
 oX 8 (.mv 45),
 uX (.store 3 9 46)])
 (.seq
 (.seq
 (.aj false [
 oX 47 (.mv 8),
 oX 48 (.len 47),
 oX 49 (.mv (kX 0))])
 (.join ⟨[],[]⟩ [6] []
 (.block 2
 (.loop 0 ⟨[(6,.one (rX 6)),(47,.one (.c (.v (.list [lX])))),(48,sX),(49,sX)],[(6,.box [vX,vX,.c (.v (lX)),.c (.v (.list mX)),.c (.v (lX))])]⟩ [6,9] []
 (.seq
 (.aj false [
 oX 50 (.bin .lss 49 48)])
 (.seq
 (.cond 50
 .skip
 (.exit 2))
 (.seq
 (.block 3
 (.seq
 (.aj false [
 oX 51 (.dZ 1 47 49),
 oX 52 (.load false 1 51),
 oX 11 (.mv 52)])
 (.seq
 (.aj false [
 oX 53 (.load true 5 6),
 oX 54 (.mv 11),
 oX 55 (.call .ae 43 [53,54]),
 oX 56 (.bin .neq 55 (kX 0))])
 (.cond 56
 (.seq
 (.aj false [
 oX 57 (.mv 11),
 oX 58 (.call .ae 44 [57]),
 oX 4 (.mv 58),
 oX 5 (.mv (.k (.one (.v (.bool) (true)))))])
 .ret)
 .skip))))
 (.aj false [
 oX 59 (.bin .add 49 (kX 1)),
 oX 49 (.mv 59)]))))))))
 (.seq
 (.aj false [
 oX 4 (.mv (.k (.one (.nil iX)))),
 oX 5 (.mv (.k (.one (.v (.bool) (false)))))])
 .ret)))))))
def Ox:List bV:=[.tmp 4,.tmp 5]
theorem ahn (NN:Nat) (x:be (av.aZ E8)):gd NN [Cx,Ct,xk,Cw,n4] QF Ox E8 PU x=BM NN x:=by kernel_rfl
theorem ae3:dh pX 11 QF.er Ox 2=true:=by decide+kernel
theorem aip:ff pX 11 KQ.M/\cg pX 11=true:=
  gN (T:=[Cx,Ct,xk,Cw,n4]) (sc:=QF) (ms:=Ox) (args:=E8) (aH:=PU) (aI.cons Ye<|aI.cons Yb<|aI.jI Pt<|aI.cons Yd<|aI.cons A2<|aI.nil) dK ae3 wA fun x y h=>(ahn aN x).trans (abT x y h)
def KP:aJ:=⟨27,E6,agF,PS,uq⟩
def QD:bT:=
 (.seq
 (.aj false [
 oX 2 (.box 5 0),
 oX 3 (.box 5 1),
 oX 4 (.alloc [zX,zX,.nil iX,.nil mX,.nil iX]),
 oX 5 (.mv (.k (.one (.v (.bool) (false)))))])
 (.seq
 (.seq
 (.aj false [
 oX 6 (.load true 5 2),
 oX 7 (.load true 5 3),
 oX 8 (.call .ae 40 [6,7]),
 oX 9 (.un .not 8),
 oX 10 (.mv 9),
 ⟨(some 11),.aB 1 2,(some (10,false))⟩,
 ⟨(some 12),.load false 1 11,(some (10,false))⟩,
 ⟨(some 13),.aB 1 3,(some (10,false))⟩,
 ⟨(some 14),.load false 1 13,(some (10,false))⟩,
 ⟨(some 15),.bin .add 12 14,(some (10,false))⟩,
 ⟨(some 16),.bin .gtr 15 (kX 12),(some (10,false))⟩,
 oX 17 (.pick 10 (.k (.one (.v (.bool) (true)))) 16)])
 (.cond 17
 (.seq
 (.aj false [
 oX 18 (.build [zX,zX,.nil iX,.nil mX,.nil iX] []),
 uX (.store 5 4 18),
 oX 5 (.mv (.k (.one (.v (.bool) (false)))))])
 .ret)
 .skip))
 (.seq
 (.aj false [
 oX 19 (.load true 5 2),
 oX 20 (.load true 5 3),
 oX 21 (.call .ae 41 [19,20]),
 uX (.store 5 4 21),
 oX 5 (.mv (.k (.one (.v (.bool) (true)))))])
 .ret)))
def Ov:List bV:=[.cell 4 5 true,.tmp 5]
theorem ahl (NN:Nat) (x:be (av.aZ E6)):gd NN [Cx,Ct] QD Ov E6 PS x=Ez NN x:=by kernel_rfl
theorem ae1:dh pX 27 QD.er Ov 2=true:=by decide+kernel
theorem aio:ff pX 27 KP.M/\cg pX 27=true:=
  gN (T:=[Cx,Ct]) (sc:=QD) (ms:=Ov) (args:=E6) (aH:=PS) (aI.cons Ye<|aI.cons Yb<|aI.nil) dK ae1 uq fun x y h=>(ahl aN x).trans (abR x y h)
def KW:aJ:=⟨29,Fi,agN,P3,uu⟩
def QO:bT:=
 (.seq
 (.aj false [
 oX 2 (.box 5 0),
 oX 4 (.mv (kX 0))])
 (.seq
 (.seq
 (.aj false [
 oX 7 (.load true 5 2),
 oX 8 (.call .ae 28 [7]),
 oX 9 (.un .not 8),
 oX 10 (.mv 9),
 ⟨(some 11),.mv 1,(some (10,false))⟩,
 ⟨(some 12),.len 11,(some (10,false))⟩,
 ⟨(some 13),.bin .gtr 12 (kX 24),(some (10,false))⟩,
 oX 14 (.pick 10 (.k (.one (.v (.bool) (true)))) 13)])
 (.cond 14
 (.seq
 (.aj false [
 oX 4 (.mv (kX (-1)))])
 .ret)
 .skip))
 (.seq
 (.seq
 (.aj false [
 oX 15 (.mv 1),
 oX 16 (.len 15),
 oX 17 (.mv (kX 0))])
 (.join ⟨[(2,.one (rX 2)),(1,.one (.c (.v (lX))))],[(2,.box [vX,vX,.c (.v (lX)),.c (.v (.list mX)),.c (.v (lX))])]⟩ [2] []
 (.block 0
 (.loop 0 ⟨[(1,.one (.c (.v (lX)))),(2,.one (rX 2)),(15,.one (.c (.v (lX)))),(16,sX),(17,sX)],[(2,.box [vX,vX,.c (.v (lX)),.c (.v (.list mX)),.c (.v (lX))])]⟩ [2] []
 (.seq
 (.aj false [
 oX 18 (.bin .lss 17 16)])
 (.seq
 (.cond 18
 .skip
 (.exit 0))
 (.seq
 (.block 1
 (.seq
 (.aj false [
 oX 19 (.dZ 1 15 17),
 oX 20 (.load false 1 19),
 oX 6 (.mv 20)])
 (.seq
 (.aj false [
 oX 21 (.mv 6),
 oX 22 (.bin .lss 21 (kX 0)),
 oX 23 (.mv 22),
 ⟨(some 24),.mv 6,(some (23,false))⟩,
 ⟨(some 25),.aB 3 2,(some (23,false))⟩,
 ⟨(some 26),.load false 1 25,(some (23,false))⟩,
 ⟨(some 27),.len 26,(some (23,false))⟩,
 ⟨(some 28),.bin .geq 24 27,(some (23,false))⟩,
 oX 29 (.pick 23 (.k (.one (.v (.bool) (true)))) 28)])
 (.cond 29
 (.seq
 (.aj false [
 oX 4 (.mv (kX (-1)))])
 .ret)
 .skip))))
 (.aj false [
 oX 30 (.bin .add 17 (kX 1)),
 oX 17 (.mv 30)]))))))))
 (.seq
 (.aj false [
 oX 31 (.load true 5 2),
 oX 32 (.mv 1),
 oX 33 (.call .ae 43 [31,32]),
 oX 4 (.mv 33)])
 .ret))))
def OH:List bV:=[.tmp 4]
theorem ahw (NN:Nat) (x:be (av.aZ Fi)):gd NN [qu,Cw] QO OH Fi P3 x=EF NN x:=by kernel_rfl
theorem afc:dh pX 29 QO.er OH 2=true:=by decide+kernel
theorem aiv:ff pX 29 KW.M/\cg pX 29=true:=
  gN (T:=[qu,Cw]) (sc:=QO) (ms:=OH) (args:=Fi) (aH:=P3) (aI.cons DE<|aI.cons Yd<|aI.nil) dK afc uu fun x y h=>(ahw aN x).trans (ab2 x y h)
def KV:aJ:=⟨21,Fh,agM,P2,wD⟩
def QN:bT:=
 (.seq
 (.aj false [
 oX 1 (.box 5 0),
 oX 2 (.mv (.k (.one (.nil [lX]))))])
 (.seq
 (.seq
 (.aj false [
 oX 5 (.load true 5 1),
 oX 6 (.call .ae 28 [5]),
 oX 7 (.un .not 6)])
 (.cond 7
 (.seq
 (.aj false [
 oX 2 (.mv (.k (.one (.nil [lX]))))])
 .ret)
 .skip))
 (.seq
 (.aj false [
 oX 9 (.load true 5 1),
 oX 10 (.dn 42 [9]),
 oX 8 (.mv 10),
 oX 11 (.ext 0 8),
 oX 12 (.ext 1 8),
 oX 4 (.alloc [zX,zX,.nil iX]),
 oX 3 (.mv 11),
 uX (.store 3 4 12)])
 (.seq
 (.aj false [
 oX 13 (.mv 3),
 oX 2 (.mv 13)])
 .ret))))
def OG:List bV:=[.tmp 2]
theorem ahv (NN:Nat) (x:be (av.aZ Fh)):nJ NN [qu,xk] QN OG Fh P2 x=Jz NN x:=by kernel_rfl
theorem afb:dh pX 21 QN.er OG 1=true:=by decide+kernel
theorem aiu:kP Go.Proofs.Try.prog 21 KV.MV/\cg pX 21=true:=
  qd (T:=[qu,xk]) (sc:=QN) (ms:=OG) (args:=Fh) (aH:=P2) (aI.cons DE<|aI.jI Pt<|aI.nil) dK afb wD fun x y h=>(ahv aN x).trans (ab1 x y h)
def GA:aJ:=⟨6,uE,ag4,Qk,Jq⟩
def Q5:bT:=
 (.seq
 (.aj false [
 oX 2 (.mv (.k (.one (.v (.bool) (false)))))])
 (.seq
 (.seq
 (.aj false [
 oX 15 (.mv 0),
 oX 16 (.len 15),
 oX 17 (.bin .gtr 16 (kX 1048576))])
 (.cond 17
 (.seq
 (.aj false [
 oX 2 (.mv (.k (.one (.v (.bool) (true)))))])
 .ret)
 .skip))
 (.seq
 (.aj false [
 oX 19 (.mv 0),
 oX 20 (.dn 25 [19,(kX 0)]),
 oX 18 (.mv 20),
 oX 21 (.ext 0 18),
 oX 22 (.ext 1 18),
 oX 3 (.alloc [zX,zX,.nil iX,.nil mX,.nil iX]),
 oX 4 (.alloc [zX,zX,.nil iX,.nil mX,.nil iX]),
 uX (.store 5 3 21),
 uX (.store 5 4 22)])
 (.seq
 (.aj false [
 oX 23 (.load true 5 3),
 oX 24 (.call .ae 18 [23]),
 oX 5 (.alloc [zX,zX,.nil iX,.nil mX,.nil iX]),
 uX (.store 5 5 24)])
 (.seq
 (.aj false [
 oX 25 (.mv 0),
 oX 26 (.aB 3 3),
 oX 27 (.load false 1 26),
 oX 28 (.len 27),
 oX 29 (.dn 26 [25,(kX 100),28]),
 oX 6 (.mv 29)])
 (.seq
 (.aj false [
 oX 31 (.load true 5 3),
 oX 32 (.load true 5 5),
 oX 33 (.call .ae 11 [31,32]),
 oX 30 (.mv 33),
 oX 34 (.ext 0 30),
 oX 35 (.ext 1 30),
 oX 7 (.mv 34),
 oX 8 (.mv 35)])
 (.seq
 (.aj false [
 oX 37 (.load true 5 3),
 oX 38 (.load true 5 4),
 oX 39 (.call .ae 27 [37,38]),
 oX 36 (.mv 39),
 oX 40 (.ext 0 36),
 oX 41 (.ext 1 36),
 oX 9 (.alloc [zX,zX,.nil iX,.nil mX,.nil iX]),
 uX (.store 5 9 40),
 oX 10 (.mv 41)])
 (.seq
 (.aj false [
 oX 43 (.load true 5 4),
 oX 44 (.load true 5 3),
 oX 45 (.call .ae 27 [43,44]),
 oX 42 (.mv 45),
 oX 46 (.ext 0 42),
 oX 47 (.ext 1 42),
 oX 11 (.alloc [zX,zX,.nil iX,.nil mX,.nil iX]),
 uX (.store 5 11 46),
 oX 12 (.mv 47)])
 (.seq
 (.aj false [
 oX 48 (.load true 5 9),
 oX 49 (.call .ae 18 [48]),
 oX 13 (.alloc [zX,zX,.nil iX,.nil mX,.nil iX]),
 uX (.store 5 13 49)])
 (.seq
 (.aj false [
 oX 50 (.load true 5 11),
 oX 51 (.call .ae 18 [50]),
 oX 14 (.alloc [zX,zX,.nil iX,.nil mX,.nil iX]),
 uX (.store 5 14 51)])
 (.seq
 (.nH [(45,47),(45,48)] [
 oX 52 (.load true 5 5),
 oX 53 (.call .ae 28 [52]),
 oX 54 (.mv 53),
 ⟨(some 55),.aB 1 5,(some (54,true))⟩,
 ⟨(some 56),.load false 1 55,(some (54,true))⟩,
 ⟨(some 57),.aB 1 3,(some (54,true))⟩,
 ⟨(some 58),.load false 1 57,(some (54,true))⟩,
 ⟨(some 59),.bin .leq 56 58,(some (54,true))⟩,
 oX 60 (.pick 54 59 (.k (.one (.v (.bool) (false))))),
 oX 61 (.mv 60),
 ⟨(some 62),.mv 8,(some (61,true))⟩,
 ⟨(some 63),.un .not 62,(some (61,true))⟩,
 oX 64 (.pick 61 63 (.k (.one (.v (.bool) (false))))),
 oX 65 (.mv 64),
 ⟨(some 66),.load true 5 5,(some (65,true))⟩,
 ⟨(some 67),.mv 6,(some (65,true))⟩,
 ⟨(some 68),.call .ae 29 [66,67],(some (65,true))⟩,
 ⟨(some 69),.load true 5 3,(some (65,true))⟩,
 ⟨(some 70),.mv 6,(some (65,true))⟩,
 ⟨(some 71),.call .ae 29 [69,70],(some (65,true))⟩,
 ⟨(some 72),.bin .eql 68 71,(some (65,true))⟩,
 oX 73 (.pick 65 72 (.k (.one (.v (.bool) (false))))),
 oX 74 (.mv 73),
 ⟨(some 75),.mv 10,(some (74,true))⟩,
 oX 76 (.pick 74 75 (.k (.one (.v (.bool) (false))))),
 oX 77 (.mv 76),
 ⟨(some 78),.mv 12,(some (77,true))⟩,
 oX 79 (.pick 77 78 (.k (.one (.v (.bool) (false))))),
 oX 80 (.mv 79),
 ⟨(some 81),.aB 1 13,(some (80,true))⟩,
 ⟨(some 82),.load false 1 81,(some (80,true))⟩,
 ⟨(some 83),.aB 1 14,(some (80,true))⟩,
 ⟨(some 84),.load false 1 83,(some (80,true))⟩,
 ⟨(some 85),.bin .eql 82 84,(some (80,true))⟩,
 oX 86 (.pick 80 85 (.k (.one (.v (.bool) (false))))),
 oX 87 (.mv 86),
 ⟨(some 88),.load true 5 5,(some (87,true))⟩,
 ⟨(some 89),.call .ae 18 [88],(some (87,true))⟩,
 ⟨(some 90),.kj false 1 1 89,(some (87,true))⟩,
 ⟨(some 91),.aB 1 5,(some (87,true))⟩,
 ⟨(some 92),.load false 1 91,(some (87,true))⟩,
 ⟨(some 93),.bin .eql 90 92,(some (87,true))⟩,
 oX 94 (.pick 87 93 (.k (.one (.v (.bool) (false))))),
 oX 95 (.mv 94),
 ⟨(some 96),.load true 5 5,(some (95,true))⟩,
 ⟨(some 97),.dn 21 [96],(some (95,true))⟩,
 ⟨(some 98),.len 97,(some (95,true))⟩,
 ⟨(some 99),.aB 1 5,(some (95,true))⟩,
 ⟨(some 100),.load false 1 99,(some (95,true))⟩,
 ⟨(some 101),.bin .eql 98 100,(some (95,true))⟩,
 oX 102 (.pick 95 101 (.k (.one (.v (.bool) (false))))),
 oX 2 (.mv 102)])
 .ret)))))))))))
def OY:List bV:=[.tmp 2]
theorem ahN (NN:Nat) (x:be (av.aZ uE)):gd NN [K6,KU,K7,KQ,KP,qu,KW,KV] Q5 OY uE Qk x=EM NN x:=by kernel_rfl
theorem aft:dh pX 6 Q5.er OY 1=true:=by decide+kernel
theorem aiC:ff pX 6 GA.M/\cg pX 6=true:=
  gN (T:=[K6,KU,K7,KQ,KP,qu,KW,KV]) (sc:=Q5) (ms:=OY) (args:=uE) (aH:=Qk) (aI.jI aiD<|aI.cons ait<|aI.jI aiE<|aI.cons aip<|aI.cons aio<|aI.cons DE<|aI.cons aiv<|aI.jI aiu<|aI.nil) dK aft Jq fun x y h=>(ahN aN x).trans (ack x y h)
end Go.Am
