/- A_FnDifferent: the code of the functions of FnDifferent. No condition. -/
import Derived.Test.YtifmggmhdcdgbaaLFnDifferent
import Derived.Test.YtifmggmhdcdgbaaBr2
import Derived.KernelRfl
import Derived.Test.YtifmggmhdcdgbaaRows
set_option linter.unusedVariables false
set_option maxRecDepth 100000
namespace Go.Am
theorem cW:Go.Proofs.Try.prog.follows .mixedOrders=true:=by decide+kernel
noncomputable abbrev pX:=Go.Proofs.Try.prog
def oX (n:Nat) (x:cC):eP:=⟨some n,x,none⟩
def uX (x:cC):eP:=⟨none,x,none⟩
def kX (n:Int):cB:=.k (.one (.v (.int .i64) n))
def sX:iP:=.one (.c (.v (.int .i64)))
def iX:List Ty:=[.int .i64]
def lX:Ty:=.list iX
def mX:List Ty:=[.int .i64,.int .i64,lX]
def zX:SC:=.v (.int .i64) (0:Int)
def vX:dF:=.c (.v (.int .i64))
def fX (n k:Nat):dF:=.c (.full n k)
def rX (n:Nat):dF:=.c (.E2 n 0)
instance tX (n:Nat):OfNat cB n:=⟨.t n⟩
def Nt:aI:=⟨83,G5,akw,SJ,zP⟩
def TK:bF:=
 (.seq
 (.af false [
 oX 2 (.mv (.k (.one (.bh))))])
 (.seq
 (.af false [
 oX 5 (.mv 0),
 oX 6 (.len 5),
 oX 7 (.bin .add (kX 55127) 6),
 oX 3 (.mv 7)])
 (.seq
 (.seq
 (.af false [
 oX 4 (.mv (kX 0))])
 (.join ⟨[(0,.one (.c (.v (.list [.int .u8])))),(3,sX)],[]⟩ [] []
 (.block 0
 (.loop 0 ⟨[(0,.one (.c (.v (.list [.int .u8])))),(3,sX),(4,sX)],[]⟩ [] []
 (.seq
 (.seq
 (.af false [
 oX 8 (.mv 4),
 oX 9 (.mv 0),
 oX 10 (.len 9),
 oX 11 (.bin .lss 8 10),
 oX 12 (.mv 11),
 ⟨(some 13),.mv 4,(some (12,true))⟩,
 ⟨(some 14),.bin .lss 13 (kX 4000),(some (12,true))⟩,
 oX 15 (.pick 12 14 (.k (.one (.v (.bool) (false)))))])
 (.cond 15
 .skip
 (.exit 0)))
 (.seq
 (.block 1
 (.af false [
 oX 18 (.mv 3),
 oX 19 (.bin .mul 18 (kX 131)),
 oX 20 (.mv 0),
 oX 21 (.mv 4),
 oX 22 (.bY 1 20 21),
 oX 23 (.load false 1 22),
 oX 24 (.conv .i64 23),
 oX 25 (.bin .add 19 24),
 oX 26 (.bin .add 25 (kX 7)),
 oX 27 (.bin .and 26 (kX 1073741823)),
 oX 3 (.mv 27)]))
 (.af false [
 oX 16 (.mv 4),
 oX 17 (.bin .add 16 (kX 1)),
 oX 4 (.mv 17)])))))))
 (.seq
 (.af false [
 oX 28 (.mv 0),
 oX 29 (.mv 3),
 oX 30 (.build [.nil [.int .u8],zX,zX] [(0,1,28),(2,1,29)]),
 oX 31 (.box 3 30),
 oX 2 (.mv 31)])
 .ret))))
def Q5:List bG:=[.tmp 2]
theorem alr (NN:Nat) (x:aV (au.aU G5)):ot NN [] TK Q5 G5 SJ x=F8 NN x:=by kernel_rfl
theorem aiB:cG pX 83 TK.er Q5 1=true:=by decide+kernel
theorem ams:k8 Go.Proofs.Try.prog 83 Nt.MV/\bM pX 83=true:=
  qJ (T:=[]) (sc:=TK) (ms:=Q5) (args:=G5) (aE:=SJ) (aD.nil) cW aiB zP fun x y h=>(alr aB x).trans (ae0 x y h)
def DB:aI:=⟨53,Hs,akO,S6,xO⟩
def T4:bF:=
 (.seq
 (.af false [
 oX 4 (.mv (.k (.one (.bh))))])
 (.seq
 (.af false [
 oX 6 (.mv 0),
 oX 7 (.dC 83 [6]),
 oX 5 (.mv 7)])
 (.seq
 (.af false [
 oX 8 (.mv 5),
 oX 9 (.mv 1),
 oX 10 (.mv 0),
 oX 11 (.len 10),
 oX 12 (.mm false 9 11),
 oX 13 (.gv 8),
 oX 14 (.aq 1 13),
 uX (.store 1 14 12)])
 (.seq
 (.af false [
 oX 15 (.mv 5),
 oX 16 (.mv 5),
 oX 17 (.gv 16),
 oX 18 (.aq 2 17),
 oX 19 (.load false 1 18),
 oX 20 (.bin .mul 19 (kX 31)),
 oX 21 (.mv 1),
 oX 22 (.bin .mul 21 (kX 7919)),
 oX 23 (.bin .add 20 22),
 oX 24 (.bin .add 23 (kX 1)),
 oX 25 (.bin .and 24 (kX 1073741823)),
 oX 26 (.gv 15),
 oX 27 (.aq 2 26),
 uX (.store 1 27 25)])
 (.seq
 (.af false [
 oX 28 (.mv 5),
 oX 4 (.mv 28)])
 .ret)))))
def Rp:List bG:=[.tmp 4]
theorem alL (NN:Nat) (x:aV (au.aU Hs)):ot NN [Nt] T4 Rp Hs S6 x=Gn NN x:=by kernel_rfl
theorem aiV:cG pX 53 T4.er Rp 2=true:=by decide+kernel
theorem aaJ:k8 Go.Proofs.Try.prog 53 DB.MV/\bM pX 53=true:=
  qJ (T:=[Nt]) (sc:=T4) (ms:=Rp) (args:=Hs) (aE:=S6) (aD.lc ams<|aD.nil) cW aiV xO fun x y h=>(alL aB x).trans (afj x y h)
def Ns:aI:=⟨84,G0,aku,SH,zO⟩
def TI:bF:=
 (.seq
 (.af false [
 oX 2 (.mv (kX 0))])
 (.seq
 (.af false [
 oX 4 (.mv 0),
 oX 5 (.mv 0),
 oX 6 (.gv 5),
 oX 7 (.aq 2 6),
 oX 8 (.load false 1 7),
 oX 9 (.bin .mul 8 (kX 6364136223846793005)),
 oX 10 (.bin .add 9 (kX 1442695040888963407)),
 oX 11 (.gv 4),
 oX 12 (.aq 2 11),
 uX (.store 1 12 10)])
 (.seq
 (.af true [
 oX 13 (.mv 0),
 oX 14 (.gv 13),
 oX 15 (.aq 2 14),
 oX 16 (.load false 1 15),
 oX 17 (.bin .shr 16 (.k (.one (.v (.int .u64) ((33:Int)))))),
 oX 18 (.mv 0),
 oX 19 (.gv 18),
 oX 20 (.aq 2 19),
 oX 21 (.load false 1 20),
 oX 22 (.bin .shr 21 (.k (.one (.v (.int .u64) ((45:Int)))))),
 oX 23 (.bin .xor 17 22),
 oX 24 (.bin .and 23 (kX 255)),
 oX 3 (.mv 24)])
 (.seq
 (.seq
 (.af true [
 oX 25 (.mv 0),
 oX 26 (.gv 25),
 oX 27 (.aq 1 26),
 oX 28 (.load false 1 27),
 oX 29 (.mv 0),
 oX 30 (.gv 29),
 oX 31 (.aq 0 30),
 oX 32 (.load false 1 31),
 oX 33 (.len 32),
 oX 34 (.bin .lss 28 33)])
 (.join ⟨[(3,sX)],[(1000000,.box [.c (.v (.list [.int .u8])),vX,vX])]⟩ [1000000] []
 (.cond 34
 (.seq
 (.af true [
 oX 35 (.mv 3),
 oX 36 (.mv 0),
 oX 37 (.gv 36),
 oX 38 (.aq 0 37),
 oX 39 (.load false 1 38),
 oX 40 (.mv 0),
 oX 41 (.gv 40),
 oX 42 (.aq 1 41),
 oX 43 (.load false 1 42),
 oX 44 (.bY 1 39 43),
 oX 45 (.load false 1 44),
 oX 46 (.conv .i64 45),
 oX 47 (.bin .add 35 46),
 oX 48 (.bin .and 47 (kX 255)),
 oX 3 (.mv 48)])
 (.af false [
 oX 49 (.mv 0),
 oX 50 (.mv 0),
 oX 51 (.gv 50),
 oX 52 (.aq 1 51),
 oX 53 (.load false 1 52),
 oX 54 (.bin .add 53 (kX 1)),
 oX 55 (.gv 49),
 oX 56 (.aq 1 55),
 uX (.store 1 56 54)]))
 .skip)))
 (.seq
 (.af false [
 oX 57 (.mv 3),
 oX 2 (.mv 57)])
 .ret)))))
def Q3:List bG:=[.tmp 2]
theorem alp (NN:Nat) (x:aV (au.aU G0)):ot NN [] TI Q3 G0 SH x=F7 NN x:=by kernel_rfl
theorem aiz:cG pX 84 TI.er Q3 1=true:=by decide+kernel
theorem amr:k8 Go.Proofs.Try.prog 84 Ns.MV/\bM pX 84=true:=
  qJ (T:=[]) (sc:=TI) (ms:=Q3) (args:=G0) (aE:=SH) (aD.nil) cW aiz zO fun x y h=>(alp aB x).trans (aeY x y h)
def qZ:aI:=⟨55,GZ,akt,SG,oA⟩
def TH:bF:=
 (.seq
 (.af false [
 oX 4 (.mv (kX 0))])
 (.seq
 (.seq
 (.af false [
 oX 5 (.mv 1),
 oX 6 (.bin .leq 5 (kX 0))])
 (.cond 6
 (.seq
 (.af false [
 oX 4 (.mv (kX 0))])
 .ret)
 .skip))
 (.seq
 (.af false [
 oX 7 (.mv 0),
 oX 8 (.dC 84 [7]),
 oX 9 (.mv 1),
 oX 10 (.bin .rem 8 9),
 oX 4 (.mv 10)])
 .ret)))
def Q2:List bG:=[.tmp 4]
theorem alo (NN:Nat) (x:aV (au.aU GZ)):ot NN [Ns] TH Q2 GZ SG x=F6 NN x:=by kernel_rfl
theorem aiy:cG pX 55 TH.er Q2 2=true:=by decide+kernel
theorem EZ:k8 Go.Proofs.Try.prog 55 qZ.MV/\bM pX 55=true:=
  qJ (T:=[Ns]) (sc:=TH) (ms:=Q2) (args:=GZ) (aE:=SG) (aD.lc amr<|aD.nil) cW aiy oA fun x y h=>(alo aB x).trans (aeX x y h)
def Nv:aI:=⟨54,G7,aky,SL,zQ⟩
def TM:bF:=
 (.seq
 (.af false [
 oX 4 (.mv (kX 0))])
 (.seq
 (.af false [
 oX 5 (.mv 1),
 oX 6 (.mv 0),
 oX 7 (.mv 1),
 oX 8 (.len 7),
 oX 9 (.dC 55 [6,8]),
 oX 10 (.bY 1 5 9),
 oX 11 (.load false 1 10),
 oX 4 (.mv 11)])
 .ret))
def Q7:List bG:=[.tmp 4]
theorem alt (NN:Nat) (x:aV (au.aU G7)):ot NN [qZ] TM Q7 G7 SL x=Ga NN x:=by kernel_rfl
theorem aiD:cG pX 54 TM.er Q7 2=true:=by decide+kernel
theorem amu:k8 Go.Proofs.Try.prog 54 Nv.MV/\bM pX 54=true:=
  qJ (T:=[qZ]) (sc:=TM) (ms:=Q7) (args:=G7) (aE:=SL) (aD.lc EZ<|aD.nil) cW aiD zQ fun x y h=>(alt aB x).trans (ae2 x y h)
def yp:aI:=⟨61,He,akD,SR,tT⟩
def TS:bF:=
 (.seq
 (.af false [
 oX 4 (.alloc [zX,zX,.nil iX])])
 (.seq
 (.af false [
 oX 5 (.mv 0),
 oX 6 (.mv 1),
 oX 7 (.mv 0),
 oX 8 (.mv 1),
 oX 9 (.bin .mul 7 8),
 oX 10 (.nb .ab iX 8 (0:Int) 9 9),
 oX 11 (.build [zX,zX,.nil iX] [(0,1,5),(1,1,6),(2,1,10)]),
 uX (.store 3 4 11)])
 .ret))
def Rd:List bG:=[.cell 4 3 true]
theorem alz (NN:Nat) (x:aV (au.aU He)):ez NN [] TS Rd He SR x=Ge NN x:=by kernel_rfl
theorem aiJ:cG pX 61 TS.er Rd 2=true:=by decide+kernel
theorem RH:dL pX 61 yp.M/\bM pX 61=true:=
  eO (T:=[]) (sc:=TS) (ms:=Rd) (args:=He) (aE:=SR) (aD.nil) cW aiJ tT fun x y h=>(alz aB x).trans (W6 x y h)
def Nu:aI:=⟨94,G6,akx,SK,xH⟩
def TL:bF:=
 (.seq
 (.af false [
 oX 4 (.mv (.k (.one (.v (.bool) (false)))))])
 (.seq
 (.af false [
 oX 5 (.mv 0),
 oX 6 (.mv 1),
 oX 7 (.dC 55 [5,6]),
 oX 8 (.bin .eql 7 (kX 0)),
 oX 4 (.mv 8)])
 .ret))
def Q6:List bG:=[.tmp 4]
theorem als (NN:Nat) (x:aV (au.aU G6)):ot NN [qZ] TL Q6 G6 SK x=F9 NN x:=by kernel_rfl
theorem aiC:cG pX 94 TL.er Q6 2=true:=by decide+kernel
theorem amt:k8 Go.Proofs.Try.prog 94 Nu.MV/\bM pX 94=true:=
  qJ (T:=[qZ]) (sc:=TL) (ms:=Q6) (args:=G6) (aE:=SK) (aD.lc EZ<|aD.nil) cW aiC xH fun x y h=>(als aB x).trans (ae1 x y h)
def Ny:aI:=⟨85,Ha,akA,SO,vD⟩
def TP:bF:=
 (.seq
 (.af false [
 oX 8 (.alloc [zX,zX,.nil iX])])
 (.seq
 (.af false [
 oX 12 (.mv 2),
 oX 13 (.mv 3),
 oX 14 (.call .ab 61 [12,13]),
 oX 9 (.alloc [zX,zX,.nil iX]),
 uX (.store 3 9 14)])
 (.seq
 (.seq
 (.af false [
 oX 15 (.aq 2 9),
 oX 16 (.load false 1 15),
 oX 17 (.len 16),
 oX 18 (.mv (kX 0))])
 (.join ⟨[(2,sX),(0,.one (rX 1000000)),(3,sX),(9,.one (rX 9)),(8,.one (rX 8))],[(1000000,.box [.c (.v (.list [.int .u8])),vX,vX]),(8,.box [vX,vX,fX 500002 1]),(9,.box [vX,vX,fX 500003 1]),(500002,.row true .ab iX),(500003,.row true .ab iX)]⟩ [1000000,8,9,500000,500001,500002,500003] [(true,8,2,500002,.ab,[]),(true,9,2,500003,.ab,[])]
 (.block 0
 (.loop 0 ⟨[(0,.one (rX 1000000)),(1,sX),(2,sX),(3,sX),(8,.one (rX 8)),(9,.one (rX 9)),(17,sX),(18,sX)],[(1000000,.box [.c (.v (.list [.int .u8])),vX,vX]),(8,.box [vX,vX,fX 500000 1]),(9,.box [vX,vX,fX 500001 1]),(500000,.row true .ab iX),(500001,.row true .ab iX)]⟩ [1000000,8,15000,9,500000,500001] [(true,8,2,500000,.ab,[]),(true,9,2,500001,.ab,[])]
 (.seq
 (.af false [
 oX 19 (.bin .lss 18 17)])
 (.seq
 (.cond 19
 .skip
 (.exit 0))
 (.seq
 (.block 1
 (.seq
 (.af false [
 oX 20 (.mv 18),
 oX 10 (.mv 20)])
 (.seq
 (.af false [
 oX 21 (.mv 0),
 oX 22 (.dC 94 [21,(kX 3)]),
 oX 23 (.un .not 22)])
 (.cond 23
 (.od [(0,6),(1,6)] [
 oX 24 (.aq 2 9),
 oX 25 (.load false 1 24),
 oX 26 (.mv 10),
 oX 27 (.mv 0),
 oX 28 (.mv 1),
 oX 29 (.mm false 28 (kX 256)),
 oX 30 (.dC 55 [27,29]),
 oX 31 (.bY 1 25 26),
 uX (.store 1 31 30)])
 .skip))))
 (.af false [
 oX 32 (.bin .add 18 (kX 1)),
 oX 18 (.mv 32)]))))))))
 (.seq
 (.seq
 (.af false [
 oX 33 (.mv 2),
 oX 34 (.bin .gtr 33 (kX 1)),
 oX 35 (.mv 34),
 ⟨(some 36),.mv 0,(some (35,true))⟩,
 ⟨(some 37),.dC 94 [36,(kX 3)],(some (35,true))⟩,
 oX 38 (.pick 35 37 (.k (.one (.v (.bool) (false)))))])
 (.join ⟨[(9,.one (rX 9)),(8,.one (rX 8))],[(1000000,.box [.c (.v (.list [.int .u8])),vX,vX]),(8,.box [vX,vX,fX 500006 1]),(9,.box [vX,vX,fX 500007 1]),(500006,.row true .ab iX),(500007,.row true .ab iX)]⟩ [1000000,8,9,500002,500003,500004,500005,500006,500007] [(true,8,2,500006,.ab,[]),(true,9,2,500007,.ab,[])]
 (.cond 38
 (.seq
 (.af false [
 oX 11 (.mv (kX 0))])
 (.block 2
 (.loop 0 ⟨[(3,sX),(8,.one (rX 8)),(9,.one (rX 9)),(11,sX)],[(1000000,.box [.c (.v (.list [.int .u8])),vX,vX]),(8,.box [vX,vX,fX 500004 1]),(9,.box [vX,vX,fX 500005 1]),(500004,.row true .ab iX),(500005,.row true .ab iX)]⟩ [1000000,8,9,500002,500003,500004,500005] [(true,8,2,500004,.ab,[]),(true,9,2,500005,.ab,[])]
 (.seq
 (.seq
 (.af false [
 oX 39 (.mv 11),
 oX 40 (.mv 3),
 oX 41 (.bin .lss 39 40)])
 (.cond 41
 .skip
 (.exit 2)))
 (.seq
 (.block 3
 (.af true [
 oX 44 (.aq 2 9),
 oX 45 (.load false 1 44),
 oX 46 (.mv 3),
 oX 47 (.mv 11),
 oX 48 (.bin .add 46 47),
 oX 49 (.aq 2 9),
 oX 50 (.load false 1 49),
 oX 51 (.mv 11),
 oX 52 (.bY 1 50 51),
 oX 53 (.load false 1 52),
 oX 54 (.bY 1 45 48),
 uX (.store 1 54 53)]))
 (.af false [
 oX 42 (.mv 11),
 oX 43 (.bin .add 42 (kX 1)),
 oX 11 (.mv 43)]))))))
 .skip)))
 (.seq
 (.af false [
 oX 55 (.load true 3 9),
 uX (.store 3 8 55)])
 .ret)))))
def Ra:List bG:=[.cell 8 3 true]
theorem alw (NN:Nat) (x:aV (au.aU Ha)):ot NN [yp,Nu,qZ] TP Ra Ha SO x=Gc NN x:=by kernel_rfl
theorem aiG:cG pX 85 TP.er Ra 4=true:=by decide+kernel
theorem amw:k8 Go.Proofs.Try.prog 85 Ny.MV/\bM pX 85=true:=
  qJ (T:=[yp,Nu,qZ]) (sc:=TP) (ms:=Ra) (args:=Ha) (aE:=SO) (aD.cons RH<|aD.lc amt<|aD.lc EZ<|aD.nil) cW aiG vD fun x y h=>(alw aB x).trans (ae5 x y h)
def NH:aI:=⟨56,Hm,akJ,S1,xL⟩
def TZ:bF:=
 (.seq
 (.af false [
 oX 8 (.alloc [zX,zX,.nil iX,.nil mX,.nil iX])])
 (.seq
 (.af false [
 oX 10 (.mv 1),
 oX 11 (.mv 2),
 oX 12 (.mv 0),
 oX 13 (.mv 1),
 oX 14 (.mv 2),
 oX 15 (.dC 85 [12,13,(kX 1),14]),
 oX 16 (.lp false 2 1 15),
 oX 17 (.mv 0),
 oX 18 (.mv 1),
 oX 19 (.mv 2),
 oX 20 (.dC 85 [17,18,(kX 1),19]),
 oX 21 (.lp false 2 1 20),
 oX 22 (.build [zX,zX,.nil iX,.nil mX,.nil iX] [(0,1,10),(1,1,11),(2,1,16),(4,1,21)]),
 oX 9 (.alloc [zX,zX,.nil iX,.nil mX,.nil iX]),
 uX (.store 5 9 22)])
 (.seq
 (.join ⟨[(9,.one (rX 9)),(8,.one (rX 8))],[(1000000,.box [.c (.v (.list [.int .u8])),vX,vX]),(8,.box [vX,vX,fX 500004 1,fX 500005 3,fX 500006 1]),(9,.box [vX,vX,.c (.v (lX)),fX 500007 3,.c (.v (lX))]),(500004,.row true .ab iX),(500005,.row true .ab mX),(500006,.row true .ab iX),(500007,.row true .aA mX)]⟩ [1000000,8,9,500000,500001,500002,500003,500004,500005,500006,500007] [(true,8,2,500004,.ab,[]),(true,8,3,500005,.ab,[]),(true,8,4,500006,.ab,[]),(true,9,3,500007,.aA,[])]
 (.block 0
 (.loop 0 ⟨[(0,.one (rX 1000000)),(1,sX),(2,sX),(3,sX),(8,.one (rX 8)),(9,.one (rX 9))],[(1000000,.box [.c (.v (.list [.int .u8])),vX,vX]),(8,.box [vX,vX,fX 500000 1,fX 500001 3,fX 500002 1]),(9,.box [vX,vX,.c (.v (lX)),fX 500003 3,.c (.v (lX))]),(500000,.row true .ab iX),(500001,.row true .ab mX),(500002,.row true .ab iX),(500003,.row true .aA mX)]⟩ [1000000,8,9,35,500000,500001,500002,500003] [(true,8,2,500000,.ab,[]),(true,8,3,500001,.ab,[]),(true,8,4,500002,.ab,[]),(true,9,3,500003,.aA,[])]
 (.seq
 (.seq
 (.af false [
 oX 23 (.mv 3),
 oX 24 (.bin .gtr 23 (kX 0))])
 (.cond 24
 .skip
 (.exit 0)))
 (.seq
 (.block 1
 (.od [(0,6),(1,6),(0,7),(1,7)] [
 oX 27 (.aq 3 9),
 oX 28 (.load false 1 27),
 oX 29 (.mv 0),
 oX 30 (.mv 1),
 oX 31 (.mv 2),
 oX 32 (.mv 2),
 oX 33 (.dC 85 [29,30,31,32]),
 oX 34 (.dM mX [33]),
 oX 35 (.append false mX 40 28 34),
 oX 36 (.aq 3 9),
 uX (.store 1 36 35)]))
 (.af false [
 oX 25 (.mv 3),
 oX 26 (.bin .sub 25 (kX 1)),
 oX 3 (.mv 26)]))))))
 (.seq
 (.af false [
 oX 37 (.load true 5 9),
 uX (.store 5 8 37)])
 .ret))))
def Rk:List bG:=[.cell 8 5 true]
theorem alG (NN:Nat) (x:aV (au.aU Hm)):ot NN [Ny] TZ Rk Hm S1 x=Gk NN x:=by kernel_rfl
theorem aiQ:cG pX 56 TZ.er Rk 4=true:=by decide+kernel
theorem amF:k8 Go.Proofs.Try.prog 56 NH.MV/\bM pX 56=true:=
  qJ (T:=[Ny]) (sc:=TZ) (ms:=Rk) (args:=Hm) (aE:=S1) (aD.lc amw<|aD.nil) cW aiQ xL fun x y h=>(alG aB x).trans (afe x y h)
def Np:aI:=⟨25,GW,akq,SD,zM⟩
def TE:bF:=
 (.seq
 (.af false [
 oX 4 (.alloc [zX,zX,.nil iX,.nil mX,.nil iX]),
 oX 5 (.alloc [zX,zX,.nil iX,.nil mX,.nil iX])])
 (.seq
 (.af false [
 oX 9 (.mv 0),
 oX 10 (.mv 1),
 oX 11 (.dC 53 [9,10]),
 oX 6 (.mv 11)])
 (.seq
 (.af false [
 oX 12 (.mv 6),
 oX 13 (.dM iX [(kX 2),(kX 3),(kX 7),(kX 101)]),
 oX 14 (.dC 54 [12,13]),
 oX 7 (.mv 14)])
 (.seq
 (.af false [
 oX 15 (.mv 6),
 oX 16 (.dC 55 [15,(kX 3)]),
 oX 17 (.bin .add (kX 1) 16),
 oX 8 (.mv 17)])
 (.seq
 (.af false [
 oX 18 (.mv 6),
 oX 19 (.mv 7),
 oX 20 (.mv 6),
 oX 21 (.dC 55 [20,(kX 4)]),
 oX 22 (.mv 8),
 oX 23 (.dC 56 [18,19,21,22]),
 oX 24 (.mv 6),
 oX 25 (.mv 7),
 oX 26 (.mv 6),
 oX 27 (.dC 55 [26,(kX 4)]),
 oX 28 (.mv 8),
 oX 29 (.dC 56 [24,25,27,28]),
 uX (.store 5 4 23),
 uX (.store 5 5 29)])
 .ret)))))
def QZ:List bG:=[.cell 4 5 true,.cell 5 5 true]
theorem alk (NN:Nat) (x:aV (au.aU GW)):ot NN [DB,Nv,qZ,NH] TE QZ GW SD x=F4 NN x:=by kernel_rfl
theorem aiv:cG pX 25 TE.er QZ 2=true:=by decide+kernel
theorem amo:k8 Go.Proofs.Try.prog 25 Np.MV/\bM pX 25=true:=
  qJ (T:=[DB,Nv,qZ,NH]) (sc:=TE) (ms:=QZ) (args:=GW) (aE:=SD) (aD.lc aaJ<|aD.lc amu<|aD.lc EZ<|aD.lc amF<|aD.nil) cW aiv zM fun x y h=>(alk aB x).trans (aeU x y h)
def Dt:aI:=⟨57,Gx,aj6,Sc,vw⟩
def Tf:bF:=
 (.seq
 (.af false [
 oX 2 (.mv (.k (.one (.v (.bool) (false)))))])
 (.seq
 (.seq
 (.af false [
 oX 4 (.mv 0),
 oX 5 (.bin .lss 4 (kX 2)),
 oX 6 (.mv 5),
 ⟨(some 7),.mv 0,(some (6,false))⟩,
 ⟨(some 8),.bin .gtr 7 (kX 1000003),(some (6,false))⟩,
 oX 9 (.pick 6 (.k (.one (.v (.bool) (true)))) 8)])
 (.cond 9
 (.seq
 (.af false [
 oX 2 (.mv (.k (.one (.v (.bool) (false)))))])
 .ret)
 .skip))
 (.seq
 (.seq
 (.af false [
 oX 3 (.mv (kX 2))])
 (.join ⟨[],[]⟩ [] []
 (.block 0
 (.loop 0 ⟨[(0,sX),(3,sX)],[]⟩ [] []
 (.seq
 (.seq
 (.af false [
 oX 10 (.mv 3),
 oX 11 (.mv 3),
 oX 12 (.bin .mul 10 11),
 oX 13 (.mv 0),
 oX 14 (.bin .leq 12 13)])
 (.cond 14
 .skip
 (.exit 0)))
 (.seq
 (.block 1
 (.seq
 (.af false [
 oX 17 (.mv 0),
 oX 18 (.mv 3),
 oX 19 (.bin .rem 17 18),
 oX 20 (.bin .eql 19 (kX 0))])
 (.cond 20
 (.seq
 (.af false [
 oX 2 (.mv (.k (.one (.v (.bool) (false)))))])
 .ret)
 .skip)))
 (.af false [
 oX 15 (.mv 3),
 oX 16 (.bin .add 15 (kX 1)),
 oX 3 (.mv 16)])))))))
 (.seq
 (.af false [
 oX 2 (.mv (.k (.one (.v (.bool) (true)))))])
 .ret))))
def QC:List bG:=[.tmp 2]
theorem akX (NN:Nat) (x:aV (au.aU Gx)):ez NN [] Tf QC Gx Sc x=LB NN x:=by kernel_rfl
theorem ah7:cG pX 57 Tf.er QC 1=true:=by decide+kernel
theorem aaC:dL pX 57 Dt.M/\bM pX 57=true:=
  eO (T:=[]) (sc:=Tf) (ms:=QC) (args:=Gx) (aE:=Sc) (aD.nil) cW ah7 vw fun x y h=>(akX aB x).trans (aex x y h)
def Du:aI:=⟨58,GJ,akd,Sm,rW⟩
def Tp:bF:=
 (.seq
 (.af false [
 oX 4 (.mv (.k (.one (.v (.bool) (false)))))])
 (.seq
 (.seq
 (.af false [
 oX 7 (.mv 1),
 oX 8 (.len 7),
 oX 9 (.mv (kX 0))])
 (.join ⟨[],[]⟩ [] []
 (.block 0
 (.loop 0 ⟨[(0,sX),(7,.one (.c (.v (lX)))),(8,sX),(9,sX)],[]⟩ [] []
 (.seq
 (.af false [
 oX 10 (.bin .lss 9 8)])
 (.seq
 (.cond 10
 .skip
 (.exit 0))
 (.seq
 (.block 1
 (.seq
 (.af false [
 oX 11 (.bY 1 7 9),
 oX 12 (.load false 1 11),
 oX 6 (.mv 12)])
 (.seq
 (.af false [
 oX 13 (.mv 6),
 oX 14 (.bin .lss 13 (kX 0)),
 oX 15 (.mv 14),
 ⟨(some 16),.mv 6,(some (15,false))⟩,
 ⟨(some 17),.mv 0,(some (15,false))⟩,
 ⟨(some 18),.bin .geq 16 17,(some (15,false))⟩,
 oX 19 (.pick 15 (.k (.one (.v (.bool) (true)))) 18)])
 (.cond 19
 (.seq
 (.af false [
 oX 4 (.mv (.k (.one (.v (.bool) (false)))))])
 .ret)
 .skip))))
 (.af false [
 oX 20 (.bin .add 9 (kX 1)),
 oX 9 (.mv 20)]))))))))
 (.seq
 (.af false [
 oX 4 (.mv (.k (.one (.v (.bool) (true)))))])
 .ret)))
def QM:List bG:=[.tmp 4]
theorem ak7 (NN:Nat) (x:aV (au.aU GJ)):ez NN [] Tp QM GJ Sm x=LG NN x:=by kernel_rfl
theorem aii:cG pX 58 Tp.er QM 2=true:=by decide+kernel
theorem aaD:dL pX 58 Du.M/\bM pX 58=true:=
  eO (T:=[]) (sc:=Tp) (ms:=QM) (args:=GJ) (aE:=Sm) (aD.nil) cW aii rW fun x y h=>(ak7 aB x).trans (aeH x y h)
def Nb:aI:=⟨59,Gy,aj7,Sd,xD⟩
def Tg:bF:=
 (.seq
 (.af false [
 oX 3 (.box 3 1),
 oX 4 (.mv (.k (.one (.v (.bool) (false)))))])
 (.seq
 (.seq
 (.af false [
 oX 5 (.mv 0),
 oX 6 (.call .ab 57 [5]),
 oX 7 (.un .not 6),
 oX 8 (.mv 7),
 ⟨(some 9),.aq 0 3,(some (8,false))⟩,
 ⟨(some 10),.load false 1 9,(some (8,false))⟩,
 ⟨(some 11),.bin .lss 10 (kX 0),(some (8,false))⟩,
 oX 12 (.pick 8 (.k (.one (.v (.bool) (true)))) 11),
 oX 13 (.mv 12),
 ⟨(some 14),.aq 1 3,(some (13,false))⟩,
 ⟨(some 15),.load false 1 14,(some (13,false))⟩,
 ⟨(some 16),.bin .lss 15 (kX 0),(some (13,false))⟩,
 oX 17 (.pick 13 (.k (.one (.v (.bool) (true)))) 16),
 oX 18 (.mv 17),
 ⟨(some 19),.aq 0 3,(some (18,false))⟩,
 ⟨(some 20),.load false 1 19,(some (18,false))⟩,
 ⟨(some 21),.bin .gtr 20 (kX 64),(some (18,false))⟩,
 oX 22 (.pick 18 (.k (.one (.v (.bool) (true)))) 21),
 oX 23 (.mv 22),
 ⟨(some 24),.aq 1 3,(some (23,false))⟩,
 ⟨(some 25),.load false 1 24,(some (23,false))⟩,
 ⟨(some 26),.bin .gtr 25 (kX 64),(some (23,false))⟩,
 oX 27 (.pick 23 (.k (.one (.v (.bool) (true)))) 26)])
 (.cond 27
 (.seq
 (.af false [
 oX 4 (.mv (.k (.one (.v (.bool) (false)))))])
 .ret)
 .skip))
 (.seq
 (.af false [
 oX 28 (.aq 2 3),
 oX 29 (.load false 1 28),
 oX 30 (.len 29),
 oX 31 (.aq 0 3),
 oX 32 (.load false 1 31),
 oX 33 (.aq 1 3),
 oX 34 (.load false 1 33),
 oX 35 (.bin .mul 32 34),
 oX 36 (.bin .eql 30 35),
 oX 37 (.mv 36),
 ⟨(some 38),.mv 0,(some (37,true))⟩,
 ⟨(some 39),.aq 2 3,(some (37,true))⟩,
 ⟨(some 40),.load false 1 39,(some (37,true))⟩,
 ⟨(some 41),.call .ab 58 [38,40],(some (37,true))⟩,
 oX 42 (.pick 37 41 (.k (.one (.v (.bool) (false))))),
 oX 4 (.mv 42)])
 .ret)))
def QD:List bG:=[.tmp 4]
theorem akY (NN:Nat) (x:aV (au.aU Gy)):ez NN [Dt,Du] Tg QD Gy Sd x=LC NN x:=by kernel_rfl
theorem ah8:cG pX 59 Tg.er QD 2=true:=by decide+kernel
theorem amb:dL pX 59 Nb.M/\bM pX 59=true:=
  eO (T:=[Dt,Du]) (sc:=Tg) (ms:=QD) (args:=Gy) (aE:=Sd) (aD.cons aaC<|aD.cons aaD<|aD.nil) cW ah8 xD fun x y h=>(akY aB x).trans (aey x y h)
def Ds:aI:=⟨28,Gv,aj4,Sa,rU⟩
def Td:bF:=
 (.seq
 (.af false [
 oX 1 (.box 5 0),
 oX 2 (.mv (.k (.one (.v (.bool) (false)))))])
 (.seq
 (.seq
 (.af false [
 oX 5 (.aq 0 1),
 oX 6 (.load false 1 5),
 oX 7 (.call .ab 57 [6]),
 oX 8 (.un .not 7),
 oX 9 (.mv 8),
 ⟨(some 10),.aq 1 1,(some (9,false))⟩,
 ⟨(some 11),.load false 1 10,(some (9,false))⟩,
 ⟨(some 12),.bin .lss 11 (kX 0),(some (9,false))⟩,
 oX 13 (.pick 9 (.k (.one (.v (.bool) (true)))) 12),
 oX 14 (.mv 13),
 ⟨(some 15),.aq 1 1,(some (14,false))⟩,
 ⟨(some 16),.load false 1 15,(some (14,false))⟩,
 ⟨(some 17),.bin .gtr 16 (kX 12),(some (14,false))⟩,
 oX 18 (.pick 14 (.k (.one (.v (.bool) (true)))) 17),
 oX 19 (.mv 18),
 ⟨(some 20),.aq 2 1,(some (19,false))⟩,
 ⟨(some 21),.load false 1 20,(some (19,false))⟩,
 ⟨(some 22),.len 21,(some (19,false))⟩,
 ⟨(some 23),.aq 1 1,(some (19,false))⟩,
 ⟨(some 24),.load false 1 23,(some (19,false))⟩,
 ⟨(some 25),.bin .neq 22 24,(some (19,false))⟩,
 oX 26 (.pick 19 (.k (.one (.v (.bool) (true)))) 25),
 oX 27 (.mv 26),
 ⟨(some 28),.aq 4 1,(some (27,false))⟩,
 ⟨(some 29),.load false 1 28,(some (27,false))⟩,
 ⟨(some 30),.len 29,(some (27,false))⟩,
 ⟨(some 31),.aq 1 1,(some (27,false))⟩,
 ⟨(some 32),.load false 1 31,(some (27,false))⟩,
 ⟨(some 33),.bin .neq 30 32,(some (27,false))⟩,
 oX 34 (.pick 27 (.k (.one (.v (.bool) (true)))) 33)])
 (.cond 34
 (.seq
 (.af false [
 oX 2 (.mv (.k (.one (.v (.bool) (false)))))])
 .ret)
 .skip))
 (.seq
 (.seq
 (.af false [
 oX 35 (.aq 0 1),
 oX 36 (.load false 1 35),
 oX 37 (.aq 2 1),
 oX 38 (.load false 1 37),
 oX 39 (.call .ab 58 [36,38]),
 oX 40 (.un .not 39),
 oX 41 (.mv 40),
 ⟨(some 42),.aq 0 1,(some (41,false))⟩,
 ⟨(some 43),.load false 1 42,(some (41,false))⟩,
 ⟨(some 44),.aq 4 1,(some (41,false))⟩,
 ⟨(some 45),.load false 1 44,(some (41,false))⟩,
 ⟨(some 46),.call .ab 58 [43,45],(some (41,false))⟩,
 ⟨(some 47),.un .not 46,(some (41,false))⟩,
 oX 48 (.pick 41 (.k (.one (.v (.bool) (true)))) 47),
 oX 49 (.mv 48),
 ⟨(some 50),.aq 3 1,(some (49,false))⟩,
 ⟨(some 51),.load false 1 50,(some (49,false))⟩,
 ⟨(some 52),.len 51,(some (49,false))⟩,
 ⟨(some 53),.bin .lss 52 (kX 1),(some (49,false))⟩,
 oX 54 (.pick 49 (.k (.one (.v (.bool) (true)))) 53),
 oX 55 (.mv 54),
 ⟨(some 56),.aq 3 1,(some (55,false))⟩,
 ⟨(some 57),.load false 1 56,(some (55,false))⟩,
 ⟨(some 58),.len 57,(some (55,false))⟩,
 ⟨(some 59),.bin .gtr 58 (kX 4),(some (55,false))⟩,
 oX 60 (.pick 55 (.k (.one (.v (.bool) (true)))) 59)])
 (.cond 60
 (.seq
 (.af false [
 oX 2 (.mv (.k (.one (.v (.bool) (false)))))])
 .ret)
 .skip))
 (.seq
 (.seq
 (.af false [
 oX 61 (.aq 3 1),
 oX 62 (.load false 1 61),
 oX 63 (.len 62),
 oX 64 (.mv (kX 0))])
 (.join ⟨[],[]⟩ [1] []
 (.block 0
 (.loop 0 ⟨[(1,.one (rX 1)),(62,.one (.c (.v (.list mX)))),(63,sX),(64,sX)],[(1,.box [vX,vX,.c (.v (lX)),.c (.v (.list mX)),.c (.v (lX))])]⟩ [1,4] []
 (.seq
 (.af false [
 oX 65 (.bin .lss 64 63)])
 (.seq
 (.cond 65
 .skip
 (.exit 0))
 (.seq
 (.block 1
 (.seq
 (.af false [
 oX 66 (.bY 3 62 64),
 oX 67 (.load true 3 66),
 oX 4 (.alloc [zX,zX,.nil iX]),
 uX (.store 3 4 67)])
 (.seq
 (.af false [
 oX 68 (.aq 0 1),
 oX 69 (.load false 1 68),
 oX 70 (.load true 3 4),
 oX 71 (.call .ab 59 [69,70]),
 oX 72 (.un .not 71),
 oX 73 (.mv 72),
 ⟨(some 74),.aq 0 4,(some (73,false))⟩,
 ⟨(some 75),.load false 1 74,(some (73,false))⟩,
 ⟨(some 76),.aq 1 1,(some (73,false))⟩,
 ⟨(some 77),.load false 1 76,(some (73,false))⟩,
 ⟨(some 78),.bin .neq 75 77,(some (73,false))⟩,
 oX 79 (.pick 73 (.k (.one (.v (.bool) (true)))) 78),
 oX 80 (.mv 79),
 ⟨(some 81),.aq 1 4,(some (80,false))⟩,
 ⟨(some 82),.load false 1 81,(some (80,false))⟩,
 ⟨(some 83),.aq 1 1,(some (80,false))⟩,
 ⟨(some 84),.load false 1 83,(some (80,false))⟩,
 ⟨(some 85),.bin .neq 82 84,(some (80,false))⟩,
 oX 86 (.pick 80 (.k (.one (.v (.bool) (true)))) 85)])
 (.cond 86
 (.seq
 (.af false [
 oX 2 (.mv (.k (.one (.v (.bool) (false)))))])
 .ret)
 .skip))))
 (.af false [
 oX 87 (.bin .add 64 (kX 1)),
 oX 64 (.mv 87)]))))))))
 (.seq
 (.af false [
 oX 2 (.mv (.k (.one (.v (.bool) (true)))))])
 .ret)))))
def QA:List bG:=[.tmp 2]
theorem akV (NN:Nat) (x:aV (au.aU Gv)):ez NN [Dt,Du,Nb] Td QA Gv Sa x=LA NN x:=by kernel_rfl
theorem ah5:cG pX 28 Td.er QA 1=true:=by decide+kernel
theorem aaB:dL pX 28 Ds.M/\bM pX 28=true:=
  eO (T:=[Dt,Du,Nb]) (sc:=Td) (ms:=QA) (args:=Gv) (aE:=Sa) (aD.cons aaC<|aD.cons aaD<|aD.cons amb<|aD.nil) cW ah5 rU fun x y h=>(akV aB x).trans (aev x y h)
def Nl:aI:=⟨40,GQ,akk,Sv,tQ⟩
def Tw:bF:=
 (.seq
 (.af false [
 oX 2 (.box 5 0),
 oX 3 (.box 5 1),
 oX 4 (.mv (.k (.one (.v (.bool) (false)))))])
 (.seq
 (.af false [
 oX 5 (.load true 5 2),
 oX 6 (.call .ab 28 [5]),
 oX 7 (.mv 6),
 ⟨(some 8),.load true 5 3,(some (7,true))⟩,
 ⟨(some 9),.call .ab 28 [8],(some (7,true))⟩,
 oX 10 (.pick 7 9 (.k (.one (.v (.bool) (false))))),
 oX 11 (.mv 10),
 ⟨(some 12),.aq 0 2,(some (11,true))⟩,
 ⟨(some 13),.load false 1 12,(some (11,true))⟩,
 ⟨(some 14),.aq 0 3,(some (11,true))⟩,
 ⟨(some 15),.load false 1 14,(some (11,true))⟩,
 ⟨(some 16),.bin .eql 13 15,(some (11,true))⟩,
 oX 17 (.pick 11 16 (.k (.one (.v (.bool) (false))))),
 oX 18 (.mv 17),
 ⟨(some 19),.aq 3 2,(some (18,true))⟩,
 ⟨(some 20),.load false 1 19,(some (18,true))⟩,
 ⟨(some 21),.len 20,(some (18,true))⟩,
 ⟨(some 22),.aq 3 3,(some (18,true))⟩,
 ⟨(some 23),.load false 1 22,(some (18,true))⟩,
 ⟨(some 24),.len 23,(some (18,true))⟩,
 ⟨(some 25),.bin .eql 21 24,(some (18,true))⟩,
 oX 26 (.pick 18 25 (.k (.one (.v (.bool) (false))))),
 oX 4 (.mv 26)])
 .ret))
def QT:List bG:=[.tmp 4]
theorem ale (NN:Nat) (x:aV (au.aU GQ)):ez NN [Ds] Tw QT GQ Sv x=LJ NN x:=by kernel_rfl
theorem aip:cG pX 40 Tw.er QT 2=true:=by decide+kernel
theorem amk:dL pX 40 Nl.M/\bM pX 40=true:=
  eO (T:=[Ds]) (sc:=Tw) (ms:=QT) (args:=GQ) (aE:=Sv) (aD.cons aaB<|aD.nil) cW aip tQ fun x y h=>(ale aB x).trans (aeO x y h)
def qY:aI:=⟨44,GG,aka,Sj,ko⟩
def Tm:bF:=
 (.seq
 (.af false [
 oX 2 (.mv (.k (.one (.nil iX))))])
 (.seq
 (.af false [
 oX 3 (.mv 0),
 oX 4 (.append true iX 8 (.k (.one (.nil iX))) 3),
 oX 2 (.mv 4)])
 .ret))
def QJ:List bG:=[.tmp 2]
theorem ak4 (NN:Nat) (x:aV (au.aU GG)):ez NN [] Tm QJ GG Sj x=LD NN x:=by kernel_rfl
theorem aie:cG pX 44 Tm.er QJ 1=true:=by decide+kernel
theorem EY:dL pX 44 qY.M/\bM pX 44=true:=
  eO (T:=[]) (sc:=Tm) (ms:=QJ) (args:=GG) (aE:=Sj) (aD.nil) cW aie ko fun x y h=>(ak4 aB x).trans (aeE x y h)
def yo:aI:=⟨65,GI,akc,Sl,vz⟩
def To:bF:=
 (.seq
 (.af false [
 oX 4 (.alloc [zX,zX,.nil iX])])
 (.seq
 (.af false [
 oX 5 (.mv 0),
 oX 6 (.mv 1),
 oX 7 (.mv 0),
 oX 8 (.mv 1),
 oX 9 (.bin .mul 7 8),
 oX 10 (.nb .ab iX 8 (0:Int) 9 9),
 oX 11 (.build [zX,zX,.nil iX] [(0,1,5),(1,1,6),(2,1,10)]),
 uX (.store 3 4 11)])
 .ret))
def QL:List bG:=[.cell 4 3 true]
theorem ak6 (NN:Nat) (x:aV (au.aU GI)):ez NN [] To QL GI Sl x=Vm NN x:=by kernel_rfl
theorem aih:cG pX 65 To.er QL 2=true:=by decide+kernel
theorem RG:dL pX 65 yo.M/\bM pX 65=true:=
  eO (T:=[]) (sc:=To) (ms:=QL) (args:=GI) (aE:=Sl) (aD.nil) cW aih vz fun x y h=>(ak6 aB x).trans (aeG x y h)
def qW:aI:=⟨67,GA,aj8,Sf,jW⟩
def Ti:bF:=
 (.seq
 (.af false [
 oX 3 (.box 3 0),
 oX 6 (.mv (kX 0))])
 (.seq
 (.af false [
 oX 7 (.aq 2 3),
 oX 8 (.load false 1 7),
 oX 9 (.mv 1),
 oX 10 (.aq 1 3),
 oX 11 (.load false 1 10),
 oX 12 (.bin .mul 9 11),
 oX 13 (.mv 2),
 oX 14 (.bin .add 12 13),
 oX 15 (.bY 1 8 14),
 oX 16 (.load false 1 15),
 oX 6 (.mv 16)])
 .ret))
def QF:List bG:=[.tmp 6]
theorem ak0 (NN:Nat) (x:aV (au.aU GA)):ez NN [] Ti QF GA Sf x=FR NN x:=by kernel_rfl
theorem aia:cG pX 67 Ti.er QF 3=true:=by decide+kernel
theorem EW:dL pX 67 qW.M/\bM pX 67=true:=
  eO (T:=[]) (sc:=Ti) (ms:=QF) (args:=GA) (aE:=Sf) (aD.nil) cW aia jW fun x y h=>(ak0 aB x).trans (aeA x y h)
def qX:aI:=⟨66,GC,Ke,Sg,oz⟩
def Tj:bF:=
 (.seq
 (.af false [
 oX 4 (.box 3 0)])
 (.af false [
 oX 8 (.aq 2 4),
 oX 9 (.load false 1 8),
 oX 10 (.mv 1),
 oX 11 (.aq 1 4),
 oX 12 (.load false 1 11),
 oX 13 (.bin .mul 10 12),
 oX 14 (.mv 2),
 oX 15 (.bin .add 13 14),
 oX 16 (.mv 3),
 oX 17 (.bY 1 9 15),
 uX (.store 1 17 16)]))
def QG:List bG:=[]
theorem ak1 (NN:Nat) (x:aV (au.aU GC)):zl NN [] Tj QG GC Ke Sg x=FT NN x:=by kernel_rfl
theorem aib:cG pX 66 Tj.er QG 4=true:=by decide+kernel
theorem EX:r5 pX 66 Ke qX.MM/\bM pX 66=true:=
  EO (T:=[]) (sc:=Tj) (ms:=QG) (args:=GC) (mu:=Ke) (aE:=Sg) (aD.nil) cW aib oz fun x y h=>(ak1 aB x).trans (aeB x y h)
def Nh:aI:=⟨41,GK,ake,Sn,xF⟩
def Tq:bF:=
 (.seq
 (.af false [
 oX 2 (.box 5 0),
 oX 3 (.box 5 1),
 oX 4 (.alloc [zX,zX,.nil iX,.nil mX,.nil iX])])
 (.seq
 (.af false [
 oX 13 (.aq 0 2),
 oX 14 (.load false 1 13),
 oX 15 (.aq 1 2),
 oX 16 (.load false 1 15),
 oX 17 (.aq 1 3),
 oX 18 (.load false 1 17),
 oX 19 (.bin .add 16 18),
 oX 20 (.build [zX,zX,.nil iX,.nil mX,.nil iX] [(0,1,14),(1,1,19)]),
 oX 5 (.alloc [zX,zX,.nil iX,.nil mX,.nil iX]),
 uX (.store 5 5 20)])
 (.seq
 (.af true [
 oX 21 (.aq 2 2),
 oX 22 (.load false 1 21),
 oX 23 (.call .ab 44 [22]),
 oX 24 (.aq 2 3),
 oX 25 (.load false 1 24),
 oX 26 (.append true iX 8 23 25),
 oX 27 (.aq 2 5),
 uX (.store 1 27 26)])
 (.seq
 (.af true [
 oX 28 (.aq 4 2),
 oX 29 (.load false 1 28),
 oX 30 (.call .ab 44 [29]),
 oX 31 (.aq 4 3),
 oX 32 (.load false 1 31),
 oX 33 (.append true iX 8 30 32),
 oX 34 (.aq 4 5),
 uX (.store 1 34 33)])
 (.seq
 (.seq
 (.af false [
 oX 35 (.aq 3 2),
 oX 36 (.load false 1 35),
 oX 37 (.len 36),
 oX 38 (.mv (kX 0))])
 (.join ⟨[(5,.one (rX 5)),(4,.one (rX 4))],[(4,.box [vX,vX,fX 500068 1,fX 500069 3,fX 500070 1]),(5,.box [vX,vX,fX 500071 1,fX 500072 3,fX 500073 1]),(500068,.row true .ab iX),(500069,.row true .ab mX),(500070,.row true .ab iX),(500071,.row true .ab iX),(500072,.row true .ab mX),(500073,.row true .ab iX)]⟩ [2,3,4,5,500000,500001,500002,500003,500004,500005,500068,500069,500070,500071,500072,500073] [(true,4,2,500068,.ab,[]),(true,4,3,500069,.ab,[]),(true,4,4,500070,.ab,[]),(true,5,2,500071,.ab,[]),(true,5,3,500072,.ab,[]),(true,5,4,500073,.ab,[])]
 (.block 0
 (.loop 0 ⟨[(2,.one (rX 2)),(3,.one (rX 3)),(4,.one (rX 4)),(5,.one (rX 5)),(36,.one (.c (.v (.list mX)))),(37,sX),(38,sX)],[(2,.box [vX,vX,.c (.v (lX)),.c (.v (.list mX)),.c (.v (lX))]),(3,.box [vX,vX,.c (.v (lX)),.c (.v (.list mX)),.c (.v (lX))]),(4,.box [vX,vX,fX 500000 1,fX 500001 3,fX 500002 1]),(5,.box [vX,vX,fX 500003 1,fX 500004 3,fX 500005 1]),(500000,.row true .ab iX),(500001,.row true .ab mX),(500002,.row true .ab iX),(500003,.row true .ab iX),(500004,.row true .ab mX),(500005,.row true .ab iX)]⟩ [2,3,4,5,26,33,500000,500001,500002,500003,500004,500005,500062,500063,500064,500065,500066,500067] [(true,4,2,500000,.ab,[]),(true,4,3,500001,.ab,[]),(true,4,4,500002,.ab,[]),(true,5,2,500003,.ab,[]),(true,5,3,500004,.ab,[]),(true,5,4,500005,.ab,[])]
 (.seq
 (.af false [
 oX 39 (.bin .lss 38 37)])
 (.seq
 (.cond 39
 .skip
 (.exit 0))
 (.seq
 (.join ⟨[(38,sX),(2,.one (rX 2)),(3,.one (rX 3)),(4,.one (rX 4)),(5,.one (rX 5)),(36,.one (.c (.v (.list mX)))),(37,sX)],[(2,.box [vX,vX,.c (.v (lX)),.c (.v (.list mX)),.c (.v (lX))]),(3,.box [vX,vX,.c (.v (lX)),.c (.v (.list mX)),.c (.v (lX))]),(4,.box [vX,vX,fX 500062 1,fX 500063 3,fX 500064 1]),(5,.box [vX,vX,fX 500065 1,fX 500066 3,fX 500067 1]),(500062,.row true .ab iX),(500063,.row true .ab mX),(500064,.row true .ab iX),(500065,.row true .ab iX),(500066,.row true .ab mX),(500067,.row true .ab iX)]⟩ [2,3,4,5,8,102,500055,500056,500057,500058,500060,500062,500063,500064,500065,500066,500067] [(true,4,2,500062,.ab,[]),(true,4,3,500063,.ab,[]),(true,4,4,500064,.ab,[]),(true,5,2,500065,.ab,[]),(true,5,3,500066,.ab,[]),(true,5,4,500067,.ab,[])]
 (.block 1
 (.seq
 (.af false [
 oX 40 (.mv 38),
 oX 41 (.bY 3 36 38),
 oX 42 (.load true 3 41),
 oX 7 (.alloc [zX,zX,.nil iX]),
 oX 6 (.mv 40),
 uX (.store 3 7 42)])
 (.seq
 (.af false [
 oX 43 (.aq 1 5),
 oX 44 (.load false 1 43),
 oX 45 (.aq 1 5),
 oX 46 (.load false 1 45),
 oX 47 (.call .ab 65 [44,46]),
 oX 8 (.alloc [zX,zX,.nil iX]),
 uX (.store 3 8 47)])
 (.seq
 (.seq
 (.af false [
 oX 9 (.mv (kX 0))])
 (.join ⟨[(37,sX),(36,.one (.c (.v (.list mX)))),(5,.one (rX 5)),(4,.one (rX 4)),(3,.one (rX 3)),(2,.one (rX 2)),(38,sX),(8,.one (rX 8)),(6,sX)],[(2,.box [vX,vX,.c (.v (lX)),.c (.v (.list mX)),.c (.v (lX))]),(3,.box [vX,vX,.c (.v (lX)),.c (.v (.list mX)),.c (.v (lX))]),(4,.box [vX,vX,fX 500027 1,fX 500028 3,fX 500029 1]),(5,.box [vX,vX,fX 500030 1,fX 500031 3,fX 500032 1]),(8,.box [vX,vX,fX 500033 1]),(500027,.row true .ab iX),(500028,.row true .ab mX),(500029,.row true .ab iX),(500030,.row true .ab iX),(500031,.row true .ab mX),(500032,.row true .ab iX),(500033,.row true .ab iX)]⟩ [2,3,4,5,7,8,500006,500007,500008,500009,500010,500011,500012,500027,500028,500029,500030,500031,500032,500033] [(true,4,2,500027,.ab,[]),(true,4,3,500028,.ab,[]),(true,4,4,500029,.ab,[]),(true,5,2,500030,.ab,[]),(true,5,3,500031,.ab,[]),(true,5,4,500032,.ab,[]),(true,8,2,500033,.ab,[])]
 (.block 2
 (.loop 0 ⟨[(2,.one (rX 2)),(3,.one (rX 3)),(4,.one (rX 4)),(5,.one (rX 5)),(6,sX),(7,.one (rX 7)),(8,.one (rX 8)),(9,sX),(36,.one (.c (.v (.list mX)))),(37,sX),(38,sX)],[(2,.box [vX,vX,.c (.v (lX)),.c (.v (.list mX)),.c (.v (lX))]),(3,.box [vX,vX,.c (.v (lX)),.c (.v (.list mX)),.c (.v (lX))]),(4,.box [vX,vX,fX 500006 1,fX 500007 3,fX 500008 1]),(5,.box [vX,vX,fX 500009 1,fX 500010 3,fX 500011 1]),(7,.box [vX,vX,.c (.v (lX))]),(8,.box [vX,vX,fX 500012 1]),(500006,.row true .ab iX),(500007,.row true .ab mX),(500008,.row true .ab iX),(500009,.row true .ab iX),(500010,.row true .ab mX),(500011,.row true .ab iX),(500012,.row true .ab iX)]⟩ [2,3,4,5,7,48000,8,500000,500001,500002,500003,500004,500005,500006,500007,500008,500009,500010,500011,500012,500020,500021,500022,500023,500024,500025,500026] [(true,4,2,500006,.ab,[]),(true,4,3,500007,.ab,[]),(true,4,4,500008,.ab,[]),(true,5,2,500009,.ab,[]),(true,5,3,500010,.ab,[]),(true,5,4,500011,.ab,[]),(true,8,2,500012,.ab,[])]
 (.seq
 (.seq
 (.af false [
 oX 48 (.mv 9),
 oX 49 (.aq 1 2),
 oX 50 (.load false 1 49),
 oX 51 (.bin .lss 48 50)])
 (.cond 51
 .skip
 (.exit 2)))
 (.seq
 (.join ⟨[(9,sX),(2,.one (rX 2)),(3,.one (rX 3)),(4,.one (rX 4)),(5,.one (rX 5)),(6,sX),(7,.one (rX 7)),(8,.one (rX 8)),(36,.one (.c (.v (.list mX)))),(37,sX),(38,sX)],[(2,.box [vX,vX,.c (.v (lX)),.c (.v (.list mX)),.c (.v (lX))]),(3,.box [vX,vX,.c (.v (lX)),.c (.v (.list mX)),.c (.v (lX))]),(4,.box [vX,vX,fX 500020 1,fX 500021 3,fX 500022 1]),(5,.box [vX,vX,fX 500023 1,fX 500024 3,fX 500025 1]),(7,.box [vX,vX,.c (.v (lX))]),(8,.box [vX,vX,fX 500026 1]),(500020,.row true .ab iX),(500021,.row true .ab mX),(500022,.row true .ab iX),(500023,.row true .ab iX),(500024,.row true .ab mX),(500025,.row true .ab iX),(500026,.row true .ab iX)]⟩ [2,3,4,5,7,8,500013,500014,500015,500016,500017,500018,500019,500020,500021,500022,500023,500024,500025,500026] [(true,4,2,500020,.ab,[]),(true,4,3,500021,.ab,[]),(true,4,4,500022,.ab,[]),(true,5,2,500023,.ab,[]),(true,5,3,500024,.ab,[]),(true,5,4,500025,.ab,[]),(true,8,2,500026,.ab,[])]
 (.block 3
 (.seq
 (.af false [
 oX 10 (.mv (kX 0))])
 (.block 4
 (.loop 0 ⟨[(2,.one (rX 2)),(3,.one (rX 3)),(4,.one (rX 4)),(5,.one (rX 5)),(6,sX),(7,.one (rX 7)),(8,.one (rX 8)),(9,sX),(10,sX),(36,.one (.c (.v (.list mX)))),(37,sX),(38,sX)],[(2,.box [vX,vX,.c (.v (lX)),.c (.v (.list mX)),.c (.v (lX))]),(3,.box [vX,vX,.c (.v (lX)),.c (.v (.list mX)),.c (.v (lX))]),(4,.box [vX,vX,fX 500013 1,fX 500014 3,fX 500015 1]),(5,.box [vX,vX,fX 500016 1,fX 500017 3,fX 500018 1]),(7,.box [vX,vX,.c (.v (lX))]),(8,.box [vX,vX,fX 500019 1]),(500013,.row true .ab iX),(500014,.row true .ab mX),(500015,.row true .ab iX),(500016,.row true .ab iX),(500017,.row true .ab mX),(500018,.row true .ab iX),(500019,.row true .ab iX)]⟩ [2,3,4,5,7,8,500006,500007,500008,500009,500010,500011,500012,500013,500014,500015,500016,500017,500018,500019] [(true,4,2,500013,.ab,[]),(true,4,3,500014,.ab,[]),(true,4,4,500015,.ab,[]),(true,5,2,500016,.ab,[]),(true,5,3,500017,.ab,[]),(true,5,4,500018,.ab,[]),(true,8,2,500019,.ab,[])]
 (.seq
 (.seq
 (.af false [
 oX 54 (.mv 10),
 oX 55 (.aq 1 2),
 oX 56 (.load false 1 55),
 oX 57 (.bin .lss 54 56)])
 (.cond 57
 .skip
 (.exit 4)))
 (.seq
 (.block 5
 (.af true [
 oX 60 (.load true 3 8),
 oX 61 (.mv 9),
 oX 62 (.mv 10),
 oX 63 (.load true 3 7),
 oX 64 (.mv 9),
 oX 65 (.mv 10),
 oX 66 (.call .ab 67 [63,64,65]),
 oX 67 (.gI .ab 66 [60,61,62,66])]))
 (.af false [
 oX 58 (.mv 10),
 oX 59 (.bin .add 58 (kX 1)),
 oX 10 (.mv 59)]))))))))
 (.af false [
 oX 52 (.mv 9),
 oX 53 (.bin .add 52 (kX 1)),
 oX 9 (.mv 53)])))))))
 (.seq
 (.seq
 (.af false [
 oX 11 (.mv (kX 0))])
 (.join ⟨[(8,.one (rX 8)),(38,sX),(2,.one (rX 2)),(3,.one (rX 3)),(4,.one (rX 4)),(5,.one (rX 5)),(36,.one (.c (.v (.list mX)))),(37,sX)],[(2,.box [vX,vX,.c (.v (lX)),.c (.v (.list mX)),.c (.v (lX))]),(3,.box [vX,vX,.c (.v (lX)),.c (.v (.list mX)),.c (.v (lX))]),(4,.box [vX,vX,fX 500055 1,fX 500056 3,fX 500057 1]),(5,.box [vX,vX,fX 500058 1,fX 500059 3,fX 500060 1]),(8,.box [vX,vX,fX 500061 1]),(500055,.row true .ab iX),(500056,.row true .ab mX),(500057,.row true .ab iX),(500058,.row true .ab iX),(500059,.row true .ab mX),(500060,.row true .ab iX),(500061,.row true .ab iX)]⟩ [2,3,4,5,8,500034,500035,500036,500037,500038,500039,500040,500055,500056,500057,500058,500059,500060,500061] [(true,4,2,500055,.ab,[]),(true,4,3,500056,.ab,[]),(true,4,4,500057,.ab,[]),(true,5,2,500058,.ab,[]),(true,5,3,500059,.ab,[]),(true,5,4,500060,.ab,[]),(true,8,2,500061,.ab,[])]
 (.block 6
 (.loop 0 ⟨[(2,.one (rX 2)),(3,.one (rX 3)),(4,.one (rX 4)),(5,.one (rX 5)),(6,sX),(8,.one (rX 8)),(11,sX),(36,.one (.c (.v (.list mX)))),(37,sX),(38,sX)],[(2,.box [vX,vX,.c (.v (lX)),.c (.v (.list mX)),.c (.v (lX))]),(3,.box [vX,vX,.c (.v (lX)),.c (.v (.list mX)),.c (.v (lX))]),(4,.box [vX,vX,fX 500034 1,fX 500035 3,fX 500036 1]),(5,.box [vX,vX,fX 500037 1,fX 500038 3,fX 500039 1]),(8,.box [vX,vX,fX 500040 1]),(500034,.row true .ab iX),(500035,.row true .ab mX),(500036,.row true .ab iX),(500037,.row true .ab iX),(500038,.row true .ab mX),(500039,.row true .ab iX),(500040,.row true .ab iX)]⟩ [2,3,4,5,8,500027,500028,500029,500030,500031,500032,500033,500034,500035,500036,500037,500038,500039,500040,500048,500049,500050,500051,500052,500053,500054] [(true,4,2,500034,.ab,[]),(true,4,3,500035,.ab,[]),(true,4,4,500036,.ab,[]),(true,5,2,500037,.ab,[]),(true,5,3,500038,.ab,[]),(true,5,4,500039,.ab,[]),(true,8,2,500040,.ab,[])]
 (.seq
 (.seq
 (.af false [
 oX 68 (.mv 11),
 oX 69 (.aq 1 3),
 oX 70 (.load false 1 69),
 oX 71 (.bin .lss 68 70)])
 (.cond 71
 .skip
 (.exit 6)))
 (.seq
 (.join ⟨[(11,sX),(2,.one (rX 2)),(3,.one (rX 3)),(4,.one (rX 4)),(5,.one (rX 5)),(6,sX),(8,.one (rX 8)),(36,.one (.c (.v (.list mX)))),(37,sX),(38,sX)],[(2,.box [vX,vX,.c (.v (lX)),.c (.v (.list mX)),.c (.v (lX))]),(3,.box [vX,vX,.c (.v (lX)),.c (.v (.list mX)),.c (.v (lX))]),(4,.box [vX,vX,fX 500048 1,fX 500049 3,fX 500050 1]),(5,.box [vX,vX,fX 500051 1,fX 500052 3,fX 500053 1]),(8,.box [vX,vX,fX 500054 1]),(500048,.row true .ab iX),(500049,.row true .ab mX),(500050,.row true .ab iX),(500051,.row true .ab iX),(500052,.row true .ab mX),(500053,.row true .ab iX),(500054,.row true .ab iX)]⟩ [2,3,4,5,8,500041,500042,500043,500044,500045,500046,500047,500048,500049,500050,500051,500052,500053,500054] [(true,4,2,500048,.ab,[]),(true,4,3,500049,.ab,[]),(true,4,4,500050,.ab,[]),(true,5,2,500051,.ab,[]),(true,5,3,500052,.ab,[]),(true,5,4,500053,.ab,[]),(true,8,2,500054,.ab,[])]
 (.block 7
 (.seq
 (.af false [
 oX 12 (.mv (kX 0))])
 (.block 8
 (.loop 0 ⟨[(2,.one (rX 2)),(3,.one (rX 3)),(4,.one (rX 4)),(5,.one (rX 5)),(6,sX),(8,.one (rX 8)),(11,sX),(12,sX),(36,.one (.c (.v (.list mX)))),(37,sX),(38,sX)],[(2,.box [vX,vX,.c (.v (lX)),.c (.v (.list mX)),.c (.v (lX))]),(3,.box [vX,vX,.c (.v (lX)),.c (.v (.list mX)),.c (.v (lX))]),(4,.box [vX,vX,fX 500041 1,fX 500042 3,fX 500043 1]),(5,.box [vX,vX,fX 500044 1,fX 500045 3,fX 500046 1]),(8,.box [vX,vX,fX 500047 1]),(500041,.row true .ab iX),(500042,.row true .ab mX),(500043,.row true .ab iX),(500044,.row true .ab iX),(500045,.row true .ab mX),(500046,.row true .ab iX),(500047,.row true .ab iX)]⟩ [2,3,4,5,8,500034,500035,500036,500037,500038,500039,500040,500041,500042,500043,500044,500045,500046,500047] [(true,4,2,500041,.ab,[]),(true,4,3,500042,.ab,[]),(true,4,4,500043,.ab,[]),(true,5,2,500044,.ab,[]),(true,5,3,500045,.ab,[]),(true,5,4,500046,.ab,[]),(true,8,2,500047,.ab,[])]
 (.seq
 (.seq
 (.af false [
 oX 74 (.mv 12),
 oX 75 (.aq 1 3),
 oX 76 (.load false 1 75),
 oX 77 (.bin .lss 74 76)])
 (.cond 77
 .skip
 (.exit 8)))
 (.seq
 (.block 9
 (.af true [
 oX 80 (.load true 3 8),
 oX 81 (.aq 1 2),
 oX 82 (.load false 1 81),
 oX 83 (.mv 11),
 oX 84 (.bin .add 82 83),
 oX 85 (.aq 1 2),
 oX 86 (.load false 1 85),
 oX 87 (.mv 12),
 oX 88 (.bin .add 86 87),
 oX 89 (.aq 3 3),
 oX 90 (.load false 1 89),
 oX 91 (.mv 6),
 oX 92 (.bY 3 90 91),
 oX 93 (.load true 3 92),
 oX 94 (.mv 11),
 oX 95 (.mv 12),
 oX 96 (.call .ab 67 [93,94,95]),
 oX 97 (.gI .ab 66 [80,84,88,96])]))
 (.af false [
 oX 78 (.mv 12),
 oX 79 (.bin .add 78 (kX 1)),
 oX 12 (.mv 79)]))))))))
 (.af false [
 oX 72 (.mv 11),
 oX 73 (.bin .add 72 (kX 1)),
 oX 11 (.mv 73)])))))))
 (.af false [
 oX 98 (.aq 3 5),
 oX 99 (.load false 1 98),
 oX 100 (.load true 3 8),
 oX 101 (.dM mX [100]),
 oX 102 (.append false mX 40 99 101),
 oX 103 (.aq 3 5),
 uX (.store 1 103 102)])))))))
 (.af false [
 oX 104 (.bin .add 38 (kX 1)),
 oX 38 (.mv 104)]))))))))
 (.seq
 (.af false [
 oX 105 (.load true 5 5),
 uX (.store 5 4 105)])
 .ret))))))
def QN:List bG:=[.cell 4 5 true]
theorem ak8 (NN:Nat) (x:aV (au.aU GK)):ez NN [qY,yo,qW,qX] Tq QN GK Sn x=FW NN x:=by kernel_rfl
theorem aij:cG pX 41 Tq.er QN 2=true:=by decide+kernel
theorem amg:dL pX 41 Nh.M/\bM pX 41=true:=
  eO (T:=[qY,yo,qW,qX]) (sc:=Tq) (ms:=QN) (args:=GK) (aE:=Sn) (aD.cons EY<|aD.cons RG<|aD.cons EW<|aD.ud EX<|aD.nil) cW aij xF fun x y h=>(ak8 aB x).trans (aeI x y h)
def Dw:aI:=⟨70,GM,akg,Sq,vA⟩
def Ts:bF:=
 (.seq
 (.af false [
 oX 4 (.box 3 1),
 oX 5 (.box 3 2),
 oX 6 (.alloc [zX,zX,.nil iX])])
 (.seq
 (.af false [
 oX 12 (.aq 0 4),
 oX 13 (.load false 1 12),
 oX 14 (.aq 1 5),
 oX 15 (.load false 1 14),
 oX 16 (.call .ab 65 [13,15]),
 oX 7 (.alloc [zX,zX,.nil iX]),
 uX (.store 3 7 16)])
 (.seq
 (.seq
 (.af false [
 oX 8 (.mv (kX 0))])
 (.join ⟨[(7,.one (rX 7)),(6,.one (rX 6))],[(6,.box [vX,vX,fX 500012 1]),(7,.box [vX,vX,fX 500013 1]),(500012,.row true .ab iX),(500013,.row true .ab iX)]⟩ [4,5,6,7,500000,500001,500012,500013] [(true,6,2,500012,.ab,[]),(true,7,2,500013,.ab,[])]
 (.block 0
 (.loop 0 ⟨[(0,sX),(4,.one (rX 4)),(5,.one (rX 5)),(6,.one (rX 6)),(7,.one (rX 7)),(8,sX)],[(4,.box [vX,vX,.c (.v (lX))]),(5,.box [vX,vX,.c (.v (lX))]),(6,.box [vX,vX,fX 500000 1]),(7,.box [vX,vX,fX 500001 1]),(500000,.row true .ab iX),(500001,.row true .ab iX)]⟩ [4,5,6,17000,7,500000,500001,500010,500011] [(true,6,2,500000,.ab,[]),(true,7,2,500001,.ab,[])]
 (.seq
 (.seq
 (.af false [
 oX 17 (.mv 8),
 oX 18 (.aq 0 4),
 oX 19 (.load false 1 18),
 oX 20 (.bin .lss 17 19)])
 (.cond 20
 .skip
 (.exit 0)))
 (.seq
 (.join ⟨[(8,sX),(0,sX),(4,.one (rX 4)),(5,.one (rX 5)),(6,.one (rX 6)),(7,.one (rX 7))],[(4,.box [vX,vX,.c (.v (lX))]),(5,.box [vX,vX,.c (.v (lX))]),(6,.box [vX,vX,fX 500010 1]),(7,.box [vX,vX,fX 500011 1]),(500010,.row true .ab iX),(500011,.row true .ab iX)]⟩ [4,5,6,7,500002,500003,500010,500011] [(true,6,2,500010,.ab,[]),(true,7,2,500011,.ab,[])]
 (.block 1
 (.seq
 (.af false [
 oX 9 (.mv (kX 0))])
 (.block 2
 (.loop 0 ⟨[(0,sX),(4,.one (rX 4)),(5,.one (rX 5)),(6,.one (rX 6)),(7,.one (rX 7)),(8,sX),(9,sX)],[(4,.box [vX,vX,.c (.v (lX))]),(5,.box [vX,vX,.c (.v (lX))]),(6,.box [vX,vX,fX 500002 1]),(7,.box [vX,vX,fX 500003 1]),(500002,.row true .ab iX),(500003,.row true .ab iX)]⟩ [4,5,6,7,500000,500001,500002,500003,500008,500009] [(true,6,2,500002,.ab,[]),(true,7,2,500003,.ab,[])]
 (.seq
 (.seq
 (.af false [
 oX 23 (.mv 9),
 oX 24 (.aq 1 5),
 oX 25 (.load false 1 24),
 oX 26 (.bin .lss 23 25)])
 (.cond 26
 .skip
 (.exit 2)))
 (.seq
 (.join ⟨[(9,sX),(0,sX),(4,.one (rX 4)),(5,.one (rX 5)),(6,.one (rX 6)),(7,.one (rX 7)),(8,sX)],[(4,.box [vX,vX,.c (.v (lX))]),(5,.box [vX,vX,.c (.v (lX))]),(6,.box [vX,vX,fX 500008 1]),(7,.box [vX,vX,fX 500009 1]),(500008,.row true .ab iX),(500009,.row true .ab iX)]⟩ [4,5,6,7,500006,500007,500008,500009] [(true,6,2,500008,.ab,[]),(true,7,2,500009,.ab,[])]
 (.block 3
 (.seq
 (.af false [
 oX 10 (.mv (kX 0))])
 (.seq
 (.seq
 (.af false [
 oX 11 (.mv (kX 0))])
 (.join ⟨[(10,sX),(9,sX),(0,sX),(4,.one (rX 4)),(5,.one (rX 5)),(6,.one (rX 6)),(7,.one (rX 7)),(8,sX)],[(4,.box [vX,vX,.c (.v (lX))]),(5,.box [vX,vX,.c (.v (lX))]),(6,.box [vX,vX,fX 500006 1]),(7,.box [vX,vX,fX 500007 1]),(500006,.row true .ab iX),(500007,.row true .ab iX)]⟩ [4,5,6,7,500004,500005,500006,500007] [(true,6,2,500006,.ab,[]),(true,7,2,500007,.ab,[])]
 (.block 4
 (.loop 0 ⟨[(0,sX),(4,.one (rX 4)),(5,.one (rX 5)),(6,.one (rX 6)),(7,.one (rX 7)),(8,sX),(9,sX),(10,sX),(11,sX)],[(4,.box [vX,vX,.c (.v (lX))]),(5,.box [vX,vX,.c (.v (lX))]),(6,.box [vX,vX,fX 500004 1]),(7,.box [vX,vX,fX 500005 1]),(500004,.row true .ab iX),(500005,.row true .ab iX)]⟩ [4,5,6,7,500002,500003,500004,500005] [(true,6,2,500004,.ab,[]),(true,7,2,500005,.ab,[])]
 (.seq
 (.seq
 (.af false [
 oX 29 (.mv 11),
 oX 30 (.aq 1 4),
 oX 31 (.load false 1 30),
 oX 32 (.bin .lss 29 31)])
 (.cond 32
 .skip
 (.exit 4)))
 (.seq
 (.block 5
 (.af true [
 oX 35 (.mv 10),
 oX 36 (.load true 3 4),
 oX 37 (.mv 8),
 oX 38 (.mv 11),
 oX 39 (.call .ab 67 [36,37,38]),
 oX 40 (.load true 3 5),
 oX 41 (.mv 11),
 oX 42 (.mv 9),
 oX 43 (.call .ab 67 [40,41,42]),
 oX 44 (.bin .mul 39 43),
 oX 45 (.bin .add 35 44),
 oX 46 (.mv 0),
 oX 47 (.bin .rem 45 46),
 oX 10 (.mv 47)]))
 (.af false [
 oX 33 (.mv 11),
 oX 34 (.bin .add 33 (kX 1)),
 oX 11 (.mv 34)])))))))
 (.af false [
 oX 48 (.load true 3 7),
 oX 49 (.mv 8),
 oX 50 (.mv 9),
 oX 51 (.mv 10),
 oX 52 (.gI .ab 66 [48,49,50,51])])))))
 (.af false [
 oX 27 (.mv 9),
 oX 28 (.bin .add 27 (kX 1)),
 oX 9 (.mv 28)]))))))))
 (.af false [
 oX 21 (.mv 8),
 oX 22 (.bin .add 21 (kX 1)),
 oX 8 (.mv 22)])))))))
 (.seq
 (.af false [
 oX 53 (.load true 3 7),
 uX (.store 3 6 53)])
 .ret))))
def QP:List bG:=[.cell 6 3 true]
theorem ala (NN:Nat) (x:aV (au.aU GM)):ez NN [yo,qW,qX] Ts QP GM Sq x=FX NN x:=by kernel_rfl
theorem ail:cG pX 70 Ts.er QP 3=true:=by decide+kernel
theorem aaE:dL pX 70 Dw.M/\bM pX 70=true:=
  eO (T:=[yo,qW,qX]) (sc:=Ts) (ms:=QP) (args:=GM) (aE:=Sq) (aD.cons RG<|aD.cons EW<|aD.ud EX<|aD.nil) cW ail vA fun x y h=>(ala aB x).trans (aeK x y h)
def Dy:aI:=⟨68,GR,akl,Sw,tR⟩
def Tx:bF:=
 (.seq
 (.af false [
 oX 2 (.box 5 0),
 oX 4 (.mv (.k (.one (.nil iX))))])
 (.seq
 (.af false [
 oX 8 (.aq 2 2),
 oX 9 (.load false 1 8),
 oX 10 (.call .ab 44 [9]),
 oX 11 (.lO 71 false 10),
 oX 5 (.alloc [zX,zX,.nil iX]),
 uX (.store 3 5 11)])
 (.seq
 (.seq
 (.af false [
 oX 12 (.mv 1),
 oX 13 (.len 12),
 oX 14 (.mv (kX 0))])
 (.join ⟨[(5,.one (rX 5))],[(5,.box [vX,vX,fX 500001 1]),(500001,.row true .ab iX)]⟩ [2,5,500000,500001] [(true,5,2,500001,.ab,[])]
 (.block 0
 (.loop 0 ⟨[(2,.one (rX 2)),(5,.one (rX 5)),(12,.one (.c (.v (lX)))),(13,sX),(14,sX)],[(2,.box [vX,vX,.c (.v (lX)),.c (.v (.list mX)),.c (.v (lX))]),(5,.box [vX,vX,fX 500000 1]),(500000,.row true .ab iX)]⟩ [2,11000,5,27000,500000] [(true,5,2,500000,.ab,[])]
 (.seq
 (.af false [
 oX 15 (.bin .lss 14 13)])
 (.seq
 (.cond 15
 .skip
 (.exit 0))
 (.seq
 (.block 1
 (.seq
 (.af false [
 oX 16 (.bY 1 12 14),
 oX 17 (.load false 1 16),
 oX 7 (.mv 17)])
 (.af true [
 oX 18 (.aq 0 2),
 oX 19 (.load false 1 18),
 oX 20 (.load true 3 5),
 oX 21 (.aq 3 2),
 oX 22 (.load false 1 21),
 oX 23 (.mv 7),
 oX 24 (.bY 3 22 23),
 oX 25 (.load true 3 24),
 oX 26 (.call .ab 70 [19,20,25]),
 uX (.store 3 5 26)])))
 (.af false [
 oX 27 (.bin .add 14 (kX 1)),
 oX 14 (.mv 27)]))))))))
 (.seq
 (.af false [
 oX 28 (.aq 2 5),
 oX 29 (.load false 1 28),
 oX 4 (.mv 29)])
 .ret))))
def QU:List bG:=[.tmp 4]
theorem alf (NN:Nat) (x:aV (au.aU GR)):ez NN [qY,Dw] Tx QU GR Sw x=F0 NN x:=by kernel_rfl
theorem aiq:cG pX 68 Tx.er QU 2=true:=by decide+kernel
theorem aaG:dL pX 68 Dy.M/\bM pX 68=true:=
  eO (T:=[qY,Dw]) (sc:=Tx) (ms:=QU) (args:=GR) (aE:=Sw) (aD.cons EY<|aD.cons aaE<|aD.nil) cW aiq tR fun x y h=>(alf aB x).trans (aeP x y h)
def Ng:aI:=⟨90,GH,akb,Sk,zI⟩
def Tn:bF:=
 (.seq
 (.af false [
 oX 1 (.box 3 0),
 oX 2 (.alloc [zX,zX,.nil iX])])
 (.seq
 (.af true [
 oX 3 (.aq 0 1),
 oX 4 (.load false 1 3),
 oX 5 (.aq 1 1),
 oX 6 (.load false 1 5),
 oX 7 (.aq 2 1),
 oX 8 (.load false 1 7),
 oX 9 (.call .ab 44 [8]),
 oX 10 (.build [zX,zX,.nil iX] [(0,1,4),(1,1,6),(2,1,9)]),
 uX (.store 3 2 10)])
 .ret))
def QK:List bG:=[.cell 2 3 true]
theorem ak5 (NN:Nat) (x:aV (au.aU GH)):ez NN [qY] Tn QK GH Sk x=LF NN x:=by kernel_rfl
theorem aif:cG pX 90 Tn.er QK 1=true:=by decide+kernel
theorem amf:dL pX 90 Ng.M/\bM pX 90=true:=
  eO (T:=[qY]) (sc:=Tn) (ms:=QK) (args:=GH) (aE:=Sk) (aD.cons EY<|aD.nil) cW aif zI fun x y h=>(ak5 aB x).trans (aeF x y h)
def Nd:aI:=⟨91,GD,Kf,Sh,zH⟩
def Tk:bF:=
 (.seq
 (.af false [
 oX 3 (.box 3 0)])
 (.seq
 (.af false [
 oX 6 (.mv (kX 0))])
 (.block 0
 (.loop 0 ⟨[(1,sX),(2,sX),(3,.one (rX 3)),(6,sX)],[(1000000,.row false .ab iX),(3,.box [vX,vX,fX 1000000 1])]⟩ [1000000,3,500000] [(true,3,2,500000,.ab,[])]
 (.seq
 (.seq
 (.af false [
 oX 9 (.mv 6),
 oX 10 (.aq 1 3),
 oX 11 (.load false 1 10),
 oX 12 (.bin .lss 9 11)])
 (.cond 12
 .skip
 (.exit 0)))
 (.seq
 (.block 1
 (.seq
 (.af true [
 oX 15 (.load true 3 3),
 oX 16 (.mv 1),
 oX 17 (.mv 6),
 oX 18 (.call .ab 67 [15,16,17]),
 oX 19 (.load true 3 3),
 oX 20 (.mv 2),
 oX 21 (.mv 6),
 oX 22 (.call .ab 67 [19,20,21]),
 oX 7 (.mv 18),
 oX 8 (.mv 22)])
 (.seq
 (.af false [
 oX 23 (.load true 3 3),
 oX 24 (.mv 1),
 oX 25 (.mv 6),
 oX 26 (.mv 8),
 oX 27 (.gI .ab 66 [23,24,25,26])])
 (.af false [
 oX 28 (.load true 3 3),
 oX 29 (.mv 2),
 oX 30 (.mv 6),
 oX 31 (.mv 7),
 oX 32 (.gI .ab 66 [28,29,30,31])]))))
 (.af false [
 oX 13 (.mv 6),
 oX 14 (.bin .add 13 (kX 1)),
 oX 6 (.mv 14)])))))))
def QH:List bG:=[]
theorem ak2 (NN:Nat) (x:aV (au.aU GD)):zl NN [qW,qX] Tk QH GD Kf Sh x=FU NN x:=by kernel_rfl
theorem aic:cG pX 91 Tk.er QH 3=true:=by decide+kernel
theorem amd:r5 pX 91 Kf Nd.MM/\bM pX 91=true:=
  EO (T:=[qW,qX]) (sc:=Tk) (ms:=QH) (args:=GD) (mu:=Kf) (aE:=Sh) (aD.cons EW<|aD.ud EX<|aD.nil) cW aic zH fun x y h=>(ak2 aB x).trans (aeC x y h)
def Ni:aI:=⟨92,GL,akf,So,zJ⟩
def Tr:bF:=
 (.seq
 (.af false [
 oX 4 (.mv (kX 0))])
 (.seq
 (.af false [
 oX 5 (.mv (kX 1))])
 (.seq
 (.seq
 (.af false [
 oX 7 (.mv 0),
 oX 8 (.bin .sub 7 (kX 2)),
 oX 6 (.mv 8)])
 (.join ⟨[(5,sX)],[]⟩ [] []
 (.block 0
 (.loop 0 ⟨[(0,sX),(1,sX),(5,sX),(6,sX)],[]⟩ [] []
 (.seq
 (.seq
 (.af false [
 oX 9 (.mv 6),
 oX 10 (.bin .gtr 9 (kX 0))])
 (.cond 10
 .skip
 (.exit 0)))
 (.seq
 (.block 1
 (.seq
 (.seq
 (.af false [
 oX 13 (.mv 6),
 oX 14 (.bin .and 13 (kX 1)),
 oX 15 (.bin .eql 14 (kX 1))])
 (.join ⟨[(1,sX),(6,sX),(0,sX),(5,sX)],[]⟩ [] []
 (.cond 15
 (.af false [
 oX 16 (.mv 5),
 oX 17 (.mv 1),
 oX 18 (.bin .mul 16 17),
 oX 19 (.mv 0),
 oX 20 (.bin .rem 18 19),
 oX 5 (.mv 20)])
 .skip)))
 (.af false [
 oX 21 (.mv 1),
 oX 22 (.mv 1),
 oX 23 (.bin .mul 21 22),
 oX 24 (.mv 0),
 oX 25 (.bin .rem 23 24),
 oX 1 (.mv 25)])))
 (.af false [
 oX 11 (.mv 6),
 oX 12 (.bin .shr 11 (.k (.one (.v (.int .u64) ((1:Int)))))),
 oX 6 (.mv 12)])))))))
 (.seq
 (.af false [
 oX 26 (.mv 5),
 oX 4 (.mv 26)])
 .ret))))
def QO:List bG:=[.tmp 4]
theorem ak9 (NN:Nat) (x:aV (au.aU GL)):ez NN [] Tr QO GL So x=LH NN x:=by kernel_rfl
theorem aik:cG pX 92 Tr.er QO 2=true:=by decide+kernel
theorem amh:dL pX 92 Ni.M/\bM pX 92=true:=
  eO (T:=[]) (sc:=Tr) (ms:=QO) (args:=GL) (aE:=So) (aD.nil) cW aik zJ fun x y h=>(ak9 aB x).trans (aeJ x y h)
def Nc:aI:=⟨93,Gz,Kd,Se,xE⟩
def Th:bF:=
 (.seq
 (.af false [
 oX 5 (.box 3 0)])
 (.seq
 (.af false [
 oX 10 (.mv (kX 0))])
 (.block 0
 (.loop 0 ⟨[(1,sX),(2,sX),(3,sX),(4,sX),(5,.one (rX 5)),(10,sX)],[(1000000,.row false .ab iX),(5,.box [vX,vX,fX 1000000 1])]⟩ [1000000,5,500000] [(true,5,2,500000,.ab,[])]
 (.seq
 (.seq
 (.af false [
 oX 11 (.mv 10),
 oX 12 (.aq 1 5),
 oX 13 (.load false 1 12),
 oX 14 (.bin .lss 11 13)])
 (.cond 14
 .skip
 (.exit 0)))
 (.seq
 (.block 1
 (.af true [
 oX 17 (.load true 3 5),
 oX 18 (.mv 2),
 oX 19 (.mv 10),
 oX 20 (.load true 3 5),
 oX 21 (.mv 2),
 oX 22 (.mv 10),
 oX 23 (.call .ab 67 [20,21,22]),
 oX 24 (.mv 4),
 oX 25 (.load true 3 5),
 oX 26 (.mv 3),
 oX 27 (.mv 10),
 oX 28 (.call .ab 67 [25,26,27]),
 oX 29 (.bin .mul 24 28),
 oX 30 (.bin .add 23 29),
 oX 31 (.mv 1),
 oX 32 (.bin .rem 30 31),
 oX 33 (.gI .ab 66 [17,18,19,32])]))
 (.af false [
 oX 15 (.mv 10),
 oX 16 (.bin .add 15 (kX 1)),
 oX 10 (.mv 16)])))))))
def QE:List bG:=[]
theorem akZ (NN:Nat) (x:aV (au.aU Gz)):zl NN [qW,qX] Th QE Gz Kd Se x=FQ NN x:=by kernel_rfl
theorem ah9:cG pX 93 Th.er QE 5=true:=by decide+kernel
theorem amc:r5 pX 93 Kd Nc.MM/\bM pX 93=true:=
  EO (T:=[qW,qX]) (sc:=Th) (ms:=QE) (args:=Gz) (mu:=Kd) (aE:=Se) (aD.cons EW<|aD.ud EX<|aD.nil) cW ah9 xE fun x y h=>(akZ aB x).trans (aez x y h)
def Nk:aI:=⟨69,GO,aki,Ss,zL⟩
def Tu:bF:=
 (.seq
 (.af false [
 oX 3 (.box 3 1),
 oX 4 (.alloc [zX,zX,.nil iX]),
 oX 5 (.mv (.k (.one (.nil iX))))])
 (.seq
 (.af false [
 oX 14 (.load true 3 3),
 oX 15 (.call .ab 90 [14]),
 oX 6 (.alloc [zX,zX,.nil iX]),
 uX (.store 3 6 15)])
 (.seq
 (.af false [
 oX 7 (.mv (.k (.one (.nil iX))))])
 (.seq
 (.seq
 (.af false [
 oX 8 (.mv (kX 0))])
 (.join ⟨[(6,.one (rX 6)),(7,.one (fX 500026 1)),(4,.one (rX 4))],[(4,.box [vX,vX,fX 500024 1]),(6,.box [vX,vX,fX 500025 1]),(500024,.row true .ab iX),(500025,.row true .ab iX),(500026,.row true .ab iX)]⟩ [4,6,500000,500001,500002,500024,500025,500026] [(true,4,2,500024,.ab,[]),(true,6,2,500025,.ab,[]),(false,7,0,500026,.ab,[])]
 (.block 0
 (.loop 0 ⟨[(0,sX),(4,.one (rX 4)),(6,.one (rX 6)),(7,.one (fX 500002 1)),(8,sX)],[(4,.box [vX,vX,fX 500000 1]),(6,.box [vX,vX,fX 500001 1]),(500000,.row true .ab iX),(500001,.row true .ab iX),(500002,.row true .ab iX)]⟩ [3,4,16000,6,500000,500001,500002,500021,500022,500023] [(true,4,2,500000,.ab,[]),(true,6,2,500001,.ab,[]),(false,7,0,500002,.ab,[])]
 (.seq
 (.seq
 (.af false [
 oX 16 (.mv 8),
 oX 17 (.aq 1 6),
 oX 18 (.load false 1 17),
 oX 19 (.bin .lss 16 18)])
 (.cond 19
 .skip
 (.exit 0)))
 (.seq
 (.join ⟨[(8,sX),(0,sX),(4,.one (rX 4)),(6,.one (rX 6)),(7,.one (fX 500023 1))],[(4,.box [vX,vX,fX 500021 1]),(6,.box [vX,vX,fX 500022 1]),(500021,.row true .ab iX),(500022,.row true .ab iX),(500023,.row true .ab iX)]⟩ [4,6,99,100,500006,500007,500008,500018,500019,500021,500022,500023] [(true,4,2,500021,.ab,[]),(true,6,2,500022,.ab,[]),(false,7,0,500023,.ab,[])]
 (.block 1
 (.seq
 (.af false [
 oX 22 (.mv 7),
 oX 23 (.len 22),
 oX 9 (.mv 23)])
 (.seq
 (.af false [
 oX 24 (.mv 9),
 oX 10 (.mv 24)])
 (.seq
 (.join ⟨[(10,sX),(9,sX),(7,.one (fX 500008 1)),(8,sX),(0,sX),(4,.one (rX 4)),(6,.one (rX 6))],[(4,.box [vX,vX,fX 500006 1]),(6,.box [vX,vX,fX 500007 1]),(500006,.row true .ab iX),(500007,.row true .ab iX),(500008,.row true .ab iX)]⟩ [4,6,500003,500004,500005,500006,500007,500008] [(true,4,2,500006,.ab,[]),(true,6,2,500007,.ab,[]),(false,7,0,500008,.ab,[])]
 (.block 2
 (.loop 0 ⟨[(0,sX),(4,.one (rX 4)),(6,.one (rX 6)),(7,.one (fX 500005 1)),(8,sX),(9,sX),(10,sX)],[(4,.box [vX,vX,fX 500003 1]),(6,.box [vX,vX,fX 500004 1]),(500003,.row true .ab iX),(500004,.row true .ab iX),(500005,.row true .ab iX)]⟩ [4,6,500000,500001,500002,500003,500004,500005] [(true,4,2,500003,.ab,[]),(true,6,2,500004,.ab,[]),(false,7,0,500005,.ab,[])]
 (.seq
 (.seq
 (.af false [
 oX 25 (.mv 10),
 oX 26 (.aq 0 6),
 oX 27 (.load false 1 26),
 oX 28 (.bin .lss 25 27),
 oX 29 (.mv 28),
 ⟨(some 30),.load true 3 6,(some (29,true))⟩,
 ⟨(some 31),.mv 10,(some (29,true))⟩,
 ⟨(some 32),.mv 8,(some (29,true))⟩,
 ⟨(some 33),.call .ab 67 [30,31,32],(some (29,true))⟩,
 ⟨(some 34),.bin .eql 33 (kX 0),(some (29,true))⟩,
 oX 35 (.pick 29 34 (.k (.one (.v (.bool) (false)))))])
 (.cond 35
 .skip
 (.exit 2)))
 (.block 3
 (.af false [
 oX 36 (.mv 10),
 oX 37 (.bin .add 36 (kX 1)),
 oX 10 (.mv 37)]))))))
 (.seq
 (.seq
 (.af false [
 oX 38 (.mv 10),
 oX 39 (.aq 0 6),
 oX 40 (.load false 1 39),
 oX 41 (.bin .eql 38 40)])
 (.cond 41
 (.exit 1)
 .skip))
 (.seq
 (.af false [
 oX 42 (.load true 3 6),
 oX 43 (.mv 9),
 oX 44 (.mv 10),
 oX 45 (.gI .ab 91 [42,43,44])])
 (.seq
 (.af false [
 oX 46 (.mv 0),
 oX 47 (.load true 3 6),
 oX 48 (.mv 9),
 oX 49 (.mv 8),
 oX 50 (.call .ab 67 [47,48,49]),
 oX 51 (.call .ab 92 [46,50]),
 oX 11 (.mv 51)])
 (.seq
 (.seq
 (.af false [
 oX 12 (.mv (kX 0))])
 (.join ⟨[(6,.one (rX 6)),(4,.one (rX 4)),(0,sX),(8,sX),(7,.one (fX 500014 1)),(9,sX)],[(4,.box [vX,vX,fX 500012 1]),(6,.box [vX,vX,fX 500013 1]),(500012,.row true .ab iX),(500013,.row true .ab iX),(500014,.row true .ab iX)]⟩ [4,6,500009,500010,500011,500012,500013,500014] [(true,4,2,500012,.ab,[]),(true,6,2,500013,.ab,[]),(false,7,0,500014,.ab,[])]
 (.block 4
 (.loop 0 ⟨[(0,sX),(4,.one (rX 4)),(6,.one (rX 6)),(7,.one (fX 500011 1)),(8,sX),(9,sX),(11,sX),(12,sX)],[(4,.box [vX,vX,fX 500009 1]),(6,.box [vX,vX,fX 500010 1]),(500009,.row true .ab iX),(500010,.row true .ab iX),(500011,.row true .ab iX)]⟩ [4,6,500006,500007,500008,500009,500010,500011] [(true,4,2,500009,.ab,[]),(true,6,2,500010,.ab,[]),(false,7,0,500011,.ab,[])]
 (.seq
 (.seq
 (.af false [
 oX 52 (.mv 12),
 oX 53 (.aq 1 6),
 oX 54 (.load false 1 53),
 oX 55 (.bin .lss 52 54)])
 (.cond 55
 .skip
 (.exit 4)))
 (.seq
 (.block 5
 (.af true [
 oX 58 (.load true 3 6),
 oX 59 (.mv 9),
 oX 60 (.mv 12),
 oX 61 (.load true 3 6),
 oX 62 (.mv 9),
 oX 63 (.mv 12),
 oX 64 (.call .ab 67 [61,62,63]),
 oX 65 (.mv 11),
 oX 66 (.bin .mul 64 65),
 oX 67 (.mv 0),
 oX 68 (.bin .rem 66 67),
 oX 69 (.gI .ab 66 [58,59,60,68])]))
 (.af false [
 oX 56 (.mv 12),
 oX 57 (.bin .add 56 (kX 1)),
 oX 12 (.mv 57)])))))))
 (.seq
 (.seq
 (.af false [
 oX 13 (.mv (kX 0))])
 (.join ⟨[(7,.one (fX 500020 1)),(8,sX),(0,sX),(4,.one (rX 4)),(6,.one (rX 6))],[(4,.box [vX,vX,fX 500018 1]),(6,.box [vX,vX,fX 500019 1]),(500018,.row true .ab iX),(500019,.row true .ab iX),(500020,.row true .ab iX)]⟩ [4,6,500015,500016,500017,500018,500019,500020] [(true,4,2,500018,.ab,[]),(true,6,2,500019,.ab,[]),(false,7,0,500020,.ab,[])]
 (.block 6
 (.loop 0 ⟨[(0,sX),(4,.one (rX 4)),(6,.one (rX 6)),(7,.one (fX 500017 1)),(8,sX),(9,sX),(13,sX)],[(4,.box [vX,vX,fX 500015 1]),(6,.box [vX,vX,fX 500016 1]),(500015,.row true .ab iX),(500016,.row true .ab iX),(500017,.row true .ab iX)]⟩ [4,6,500012,500013,500014,500015,500016,500017] [(true,4,2,500015,.ab,[]),(true,6,2,500016,.ab,[]),(false,7,0,500017,.ab,[])]
 (.seq
 (.seq
 (.af false [
 oX 70 (.mv 13),
 oX 71 (.aq 0 6),
 oX 72 (.load false 1 71),
 oX 73 (.bin .lss 70 72)])
 (.cond 73
 .skip
 (.exit 6)))
 (.seq
 (.block 7
 (.seq
 (.af false [
 oX 76 (.mv 13),
 oX 77 (.mv 9),
 oX 78 (.bin .neq 76 77),
 oX 79 (.mv 78),
 ⟨(some 80),.load true 3 6,(some (79,true))⟩,
 ⟨(some 81),.mv 13,(some (79,true))⟩,
 ⟨(some 82),.mv 8,(some (79,true))⟩,
 ⟨(some 83),.call .ab 67 [80,81,82],(some (79,true))⟩,
 ⟨(some 84),.bin .neq 83 (kX 0),(some (79,true))⟩,
 oX 85 (.pick 79 84 (.k (.one (.v (.bool) (false)))))])
 (.cond 85
 (.af true [
 oX 86 (.load true 3 6),
 oX 87 (.mv 0),
 oX 88 (.mv 13),
 oX 89 (.mv 9),
 oX 90 (.mv 0),
 oX 91 (.load true 3 6),
 oX 92 (.mv 13),
 oX 93 (.mv 8),
 oX 94 (.call .ab 67 [91,92,93]),
 oX 95 (.bin .sub 90 94),
 oX 96 (.gI .ab 93 [86,87,88,89,95])])
 .skip)))
 (.af false [
 oX 74 (.mv 13),
 oX 75 (.bin .add 74 (kX 1)),
 oX 13 (.mv 75)])))))))
 (.af false [
 oX 97 (.mv 7),
 oX 98 (.mv 8),
 oX 99 (.dM iX [98]),
 oX 100 (.append true iX 8 97 99),
 oX 7 (.mv 100)])))))))))))
 (.af false [
 oX 20 (.mv 8),
 oX 21 (.bin .add 20 (kX 1)),
 oX 8 (.mv 21)])))))))
 (.seq
 (.af false [
 oX 101 (.load true 3 6),
 oX 102 (.mv 7),
 uX (.store 3 4 101),
 oX 5 (.mv 102)])
 .ret)))))
def QR:List bG:=[.cell 4 3 true,.tmp 5]
theorem alc (NN:Nat) (x:aV (au.aU GO)):ez NN [Ng,qW,Nd,Ni,qX,Nc] Tu QR GO Ss x=FZ NN x:=by kernel_rfl
theorem ain:cG pX 69 Tu.er QR 2=true:=by decide+kernel
theorem amj:dL pX 69 Nk.M/\bM pX 69=true:=
  eO (T:=[Ng,qW,Nd,Ni,qX,Nc]) (sc:=Tu) (ms:=QR) (args:=GO) (aE:=Ss) (aD.cons amf<|aD.cons EW<|aD.ud amd<|aD.cons amh<|aD.ud EX<|aD.ud amc<|aD.nil) cW ain zL fun x y h=>(alc aB x).trans (aeM x y h)
def Nj:aI:=⟨42,GN,akh,Sr,zK⟩
def Tt:bF:=
 (.seq
 (.af false [
 oX 1 (.box 5 0),
 oX 2 (.mv (.k (.one (.nil [lX])))),
 oX 3 (.alloc [zX,zX,.nil iX])])
 (.seq
 (.af false [
 oX 4 (.mv (.k (.one (.nil [lX]))))])
 (.seq
 (.af false [
 oX 12 (.aq 1 1),
 oX 13 (.load false 1 12),
 oX 14 (.call .ab 65 [(kX 0),13]),
 oX 5 (.alloc [zX,zX,.nil iX]),
 uX (.store 3 5 14)])
 (.seq
 (.af false [
 oX 15 (.dM [lX] [(.k (.one (.nil iX)))]),
 oX 6 (.mv 15)])
 (.seq
 (.join ⟨[(4,.one (fX 500010 1)),(5,.one (rX 5)),(3,.one (rX 3))],[(3,.box [vX,vX,fX 500008 1]),(5,.box [vX,vX,fX 500009 1]),(500008,.row true .ab iX),(500009,.row true .ab iX),(500010,.row true .aA [lX])]⟩ [1,3,5,500000,500001,500002,500003,500008,500009,500010] [(true,3,2,500008,.ab,[]),(true,5,2,500009,.ab,[]),(false,4,0,500010,.aA,[])]
 (.block 0
 (.loop 0 ⟨[(1,.one (rX 1)),(3,.one (rX 3)),(4,.one (fX 500002 1)),(5,.one (rX 5)),(6,.one (fX 500003 1))],[(1,.box [vX,vX,.c (.v (lX)),.c (.v (.list mX)),.c (.v (lX))]),(3,.box [vX,vX,fX 500000 1]),(5,.box [vX,vX,fX 500001 1]),(500000,.row true .ab iX),(500001,.row true .ab iX),(500002,.row true .aA [lX]),(500003,.row true .ab [lX])]⟩ [1,3,15000,5,15,23,35000,35,8,42000,42001,9,500000,500001,500002,500003,500004,500005,500006,500007] [(true,3,2,500000,.ab,[]),(true,5,2,500001,.ab,[]),(false,4,0,500002,.aA,[]),(false,6,0,500003,.ab,[])]
 (.seq
 (.seq
 (.af false [
 oX 16 (.mv 6),
 oX 17 (.len 16),
 oX 18 (.bin .gtr 17 (kX 0))])
 (.cond 18
 .skip
 (.exit 0)))
 (.block 1
 (.seq
 (.af false [
 oX 19 (.mv 6),
 oX 20 (.bY 1 19 (kX 0)),
 oX 21 (.load false 1 20),
 oX 7 (.mv 21)])
 (.seq
 (.af false [
 oX 22 (.mv 6),
 oX 23 (.tail 1 22 (kX 1)),
 oX 6 (.mv 23)])
 (.seq
 (.od [(0,11),(1,11),(3,11),(4,11),(11,13)] [
 oX 24 (.aq 0 5),
 oX 25 (.load false 1 24),
 oX 26 (.bin .add 25 (kX 1)),
 oX 27 (.aq 1 1),
 oX 28 (.load false 1 27),
 oX 29 (.aq 2 5),
 oX 30 (.load false 1 29),
 oX 31 (.call .ab 44 [30]),
 oX 32 (.load true 5 1),
 oX 33 (.mv 7),
 oX 34 (.call .ab 68 [32,33]),
 oX 35 (.append true iX 8 31 34),
 oX 36 (.build [zX,zX,.nil iX] [(0,1,26),(1,1,28),(2,1,35)]),
 oX 8 (.alloc [zX,zX,.nil iX]),
 uX (.store 3 8 36)])
 (.seq
 (.af false [
 oX 38 (.aq 0 1),
 oX 39 (.load false 1 38),
 oX 40 (.load true 3 8),
 oX 41 (.call .ab 69 [39,40]),
 oX 37 (.mv 41),
 oX 42 (.ext 0 37),
 oX 43 (.ext 1 37),
 oX 9 (.alloc [zX,zX,.nil iX]),
 uX (.store 3 9 42),
 oX 10 (.mv 43)])
 (.seq
 (.seq
 (.af false [
 oX 44 (.mv 10),
 oX 45 (.len 44),
 oX 46 (.aq 0 8),
 oX 47 (.load false 1 46),
 oX 48 (.bin .lss 45 47)])
 (.cond 48
 (.exit 1)
 .skip))
 (.seq
 (.af false [
 oX 49 (.load true 3 8),
 uX (.store 3 5 49)])
 (.seq
 (.af false [
 oX 50 (.mv 4),
 oX 51 (.mv 7),
 oX 52 (.dM [lX] [51]),
 oX 53 (.append false [lX] 24 50 52),
 oX 4 (.mv 53)])
 (.seq
 (.af false [
 oX 54 (.aq 3 1),
 oX 55 (.load false 1 54),
 oX 56 (.len 55),
 oX 57 (.mv (kX 0))])
 (.block 2
 (.loop 0 ⟨[(1,.one (rX 1)),(3,.one (rX 3)),(4,.one (fX 500006 1)),(5,.one (rX 5)),(6,.one (fX 500007 1)),(7,.one (.c (.v (lX)))),(56,sX),(57,sX)],[(1,.box [vX,vX,.c (.v (lX)),.c (.v (.list mX)),.c (.v (lX))]),(3,.box [vX,vX,fX 500004 1]),(5,.box [vX,vX,fX 500005 1]),(500004,.row true .ab iX),(500005,.row true .ab iX),(500006,.row true .aA [lX]),(500007,.row true .ab [lX])]⟩ [1,3,5,23,35000,35,8,42000,42001,9,53,64,67,500000,500001,500004,500005,500006,500007] [(true,3,2,500004,.ab,[]),(true,5,2,500005,.ab,[]),(false,4,0,500006,.aA,[]),(false,6,0,500007,.ab,[])]
 (.seq
 (.af false [
 oX 58 (.bin .lss 57 56)])
 (.seq
 (.cond 58
 .skip
 (.exit 2))
 (.seq
 (.block 3
 (.seq
 (.af false [
 oX 59 (.mv 57),
 oX 11 (.mv 59)])
 (.af false [
 oX 60 (.mv 6),
 oX 61 (.mv 7),
 oX 62 (.call .ab 44 [61]),
 oX 63 (.mv 11),
 oX 64 (.dM iX [63]),
 oX 65 (.append true iX 8 62 64),
 oX 66 (.dM [lX] [65]),
 oX 67 (.append false [lX] 24 60 66),
 oX 6 (.mv 67)])))
 (.af false [
 oX 68 (.bin .add 57 (kX 1)),
 oX 57 (.mv 68)])))))))))))))))))))
 (.seq
 (.af true [
 oX 69 (.mv 4),
 oX 70 (.load true 3 5),
 oX 2 (.mv 69),
 uX (.store 3 3 70)])
 .ret))))))
def QQ:List bG:=[.tmp 2,.cell 3 3 true]
theorem alb (NN:Nat) (x:aV (au.aU GN)):ot NN [yo,qY,Dy,Nk] Tt QQ GN Sr x=FY NN x:=by kernel_rfl
theorem aim:cG pX 42 Tt.er QQ 1=true:=by decide+kernel
theorem ami:k8 Go.Proofs.Try.prog 42 Nj.MV/\bM pX 42=true:=
  qJ (T:=[yo,qY,Dy,Nk]) (sc:=Tt) (ms:=QQ) (args:=GN) (aE:=Sr) (aD.cons RG<|aD.cons EY<|aD.cons aaG<|aD.cons amj<|aD.nil) cW aim zK fun x y h=>(alb aB x).trans (aeL x y h)
def Dx:aI:=⟨43,GP,akj,Su,tP⟩
def Tv:bF:=
 (.seq
 (.af false [
 oX 2 (.box 5 0),
 oX 4 (.mv (kX 0))])
 (.seq
 (.af true [
 oX 5 (.aq 0 2),
 oX 6 (.load false 1 5),
 oX 7 (.load true 5 2),
 oX 8 (.mv 1),
 oX 9 (.call .ab 68 [7,8]),
 oX 10 (.lO 71 false 9),
 oX 11 (.aq 4 2),
 oX 12 (.load false 1 11),
 oX 13 (.lO 72 true 12),
 oX 14 (.call .ab 70 [6,10,13]),
 oX 15 (.lp false 2 1 14),
 oX 16 (.bY 1 15 (kX 0)),
 oX 17 (.load false 1 16),
 oX 4 (.mv 17)])
 .ret))
def QS:List bG:=[.tmp 4]
theorem ald (NN:Nat) (x:aV (au.aU GP)):ez NN [Dy,Dw] Tv QS GP Su x=LI NN x:=by kernel_rfl
theorem aio:cG pX 43 Tv.er QS 2=true:=by decide+kernel
theorem aaF:dL pX 43 Dx.M/\bM pX 43=true:=
  eO (T:=[Dy,Dw]) (sc:=Tv) (ms:=QS) (args:=GP) (aE:=Su) (aD.cons aaG<|aD.cons aaE<|aD.nil) cW aio tP fun x y h=>(ald aB x).trans (aeN x y h)
def Na:aI:=⟨11,Gw,aj5,Sb,xC⟩
def Te:bF:=
 (.seq
 (.af false [
 oX 2 (.box 5 0),
 oX 3 (.box 5 1),
 oX 4 (.mv (.k (.one (.nil iX)))),
 oX 5 (.mv (.k (.one (.v (.bool) (false)))))])
 (.seq
 (.seq
 (.af false [
 oX 12 (.load true 5 2),
 oX 13 (.load true 5 3),
 oX 14 (.call .ab 40 [12,13]),
 oX 15 (.un .not 14)])
 (.cond 15
 (.seq
 (.af false [
 oX 4 (.mv (.k (.one (.nil iX)))),
 oX 5 (.mv (.k (.one (.v (.bool) (false)))))])
 .ret)
 .skip))
 (.seq
 (.af false [
 oX 16 (.load true 5 2),
 oX 17 (.load true 5 3),
 oX 18 (.call .ab 41 [16,17]),
 oX 6 (.alloc [zX,zX,.nil iX,.nil mX,.nil iX]),
 uX (.store 5 6 18)])
 (.seq
 (.seq
 (.af false [
 oX 19 (.aq 1 2),
 oX 20 (.load false 1 19),
 oX 7 (.mv 20)])
 (.join ⟨[(6,.one (rX 6))],[(6,.box [vX,vX,fX 500003 1,fX 500004 3,fX 500005 1]),(500003,.row true .ab iX),(500004,.row true .ab mX),(500005,.row true .ab iX)]⟩ [2,6,500000,500001,500002,500003,500004,500005] [(true,6,2,500003,.ab,[]),(true,6,3,500004,.ab,[]),(true,6,4,500005,.ab,[])]
 (.block 0
 (.loop 0 ⟨[(2,.one (rX 2)),(6,.one (rX 6)),(7,sX)],[(2,.box [vX,vX,.c (.v (lX)),.c (.v (.list mX)),.c (.v (lX))]),(6,.box [vX,vX,fX 500000 1,fX 500001 3,fX 500002 1]),(500000,.row true .ab iX),(500001,.row true .ab mX),(500002,.row true .ab iX)]⟩ [2,3,19000,19001,19002,6,500000,500001,500002] [(true,6,2,500000,.ab,[]),(true,6,3,500001,.ab,[]),(true,6,4,500002,.ab,[])]
 (.seq
 (.seq
 (.af false [
 oX 21 (.mv 7),
 oX 22 (.aq 1 6),
 oX 23 (.load false 1 22),
 oX 24 (.bin .lss 21 23)])
 (.cond 24
 .skip
 (.exit 0)))
 (.seq
 (.block 1
 (.af true [
 oX 27 (.aq 4 6),
 oX 28 (.load false 1 27),
 oX 29 (.mv 7),
 oX 30 (.aq 0 2),
 oX 31 (.load false 1 30),
 oX 32 (.aq 4 6),
 oX 33 (.load false 1 32),
 oX 34 (.mv 7),
 oX 35 (.bY 1 33 34),
 oX 36 (.load false 1 35),
 oX 37 (.bin .sub 31 36),
 oX 38 (.aq 0 2),
 oX 39 (.load false 1 38),
 oX 40 (.bin .rem 37 39),
 oX 41 (.bY 1 28 29),
 uX (.store 1 41 40)]))
 (.af false [
 oX 25 (.mv 7),
 oX 26 (.bin .add 25 (kX 1)),
 oX 7 (.mv 26)])))))))
 (.seq
 (.af false [
 oX 43 (.mw true 5 6),
 oX 44 (.dC 42 [43]),
 oX 42 (.mv 44),
 oX 45 (.ext 0 42),
 oX 46 (.ext 1 42),
 oX 9 (.alloc [zX,zX,.nil iX]),
 oX 8 (.mv 45),
 uX (.store 3 9 46)])
 (.seq
 (.seq
 (.af false [
 oX 47 (.mv 8),
 oX 48 (.len 47),
 oX 49 (.mv (kX 0))])
 (.join ⟨[],[]⟩ [6] []
 (.block 2
 (.loop 0 ⟨[(6,.one (rX 6)),(47,.one (.c (.v (.list [lX])))),(48,sX),(49,sX)],[(6,.box [vX,vX,.c (.v (lX)),.c (.v (.list mX)),.c (.v (lX))])]⟩ [6,9] []
 (.seq
 (.af false [
 oX 50 (.bin .lss 49 48)])
 (.seq
 (.cond 50
 .skip
 (.exit 2))
 (.seq
 (.block 3
 (.seq
 (.af false [
 oX 51 (.bY 1 47 49),
 oX 52 (.load false 1 51),
 oX 11 (.mv 52)])
 (.seq
 (.af false [
 oX 53 (.load true 5 6),
 oX 54 (.mv 11),
 oX 55 (.call .ab 43 [53,54]),
 oX 56 (.bin .neq 55 (kX 0))])
 (.cond 56
 (.seq
 (.af false [
 oX 57 (.mv 11),
 oX 58 (.call .ab 44 [57]),
 oX 4 (.mv 58),
 oX 5 (.mv (.k (.one (.v (.bool) (true)))))])
 .ret)
 .skip))))
 (.af false [
 oX 59 (.bin .add 49 (kX 1)),
 oX 49 (.mv 59)]))))))))
 (.seq
 (.af false [
 oX 4 (.mv (.k (.one (.nil iX)))),
 oX 5 (.mv (.k (.one (.v (.bool) (false)))))])
 .ret)))))))
def QB:List bG:=[.tmp 4,.tmp 5]
theorem akW (NN:Nat) (x:aV (au.aU Gw)):ez NN [Nl,Nh,Nj,Dx,qY] Te QB Gw Sb x=CO NN x:=by kernel_rfl
theorem ah6:cG pX 11 Te.er QB 2=true:=by decide+kernel
theorem ama:dL pX 11 Na.M/\bM pX 11=true:=
  eO (T:=[Nl,Nh,Nj,Dx,qY]) (sc:=Te) (ms:=QB) (args:=Gw) (aE:=Sb) (aD.cons amk<|aD.cons amg<|aD.lc ami<|aD.cons aaF<|aD.cons EY<|aD.nil) cW ah6 xC fun x y h=>(akW aB x).trans (aew x y h)
def uf:aI:=⟨75,G4,akv,SI,kU⟩
def TJ:bF:=
 (.seq
 (.af false [
 oX 6 (.mv (.k (.one (.v (.bool) (false)))))])
 (.seq
 (.af false [
 oX 7 (.mv 0),
 oX 8 (.mv 1),
 oX 9 (.bin .geq 7 8),
 oX 10 (.mv 9),
 ⟨(some 11),.mv 0,(some (10,true))⟩,
 ⟨(some 12),.mv 2,(some (10,true))⟩,
 ⟨(some 13),.bin .leq 11 12,(some (10,true))⟩,
 oX 14 (.pick 10 13 (.k (.one (.v (.bool) (false))))),
 oX 6 (.mv 14)])
 .ret))
def Q4:List bG:=[.tmp 6]
theorem alq (NN:Nat) (x:aV (au.aU G4)):ez NN [] TJ Q4 G4 SI x=LO NN x:=by kernel_rfl
theorem aiA:cG pX 75 TJ.er Q4 3=true:=by decide+kernel
theorem Kr:dL pX 75 uf.M/\bM pX 75=true:=
  eO (T:=[]) (sc:=TJ) (ms:=Q4) (args:=G4) (aE:=SI) (aD.nil) cW aiA kU fun x y h=>(alq aB x).trans (aeZ x y h)
def Dz:aI:=⟨74,GV,akp,SA,vC⟩
def TC:bF:=
 (.seq
 (.af false [
 oX 2 (.mv (.k (.one (.v (.bool) (false)))))])
 (.seq
 (.seq
 (.af false [
 oX 3 (.mv (kX 2))])
 (.join ⟨[(0,sX)],[]⟩ [] []
 (.block 0
 (.loop 0 ⟨[(0,sX),(3,sX)],[]⟩ [] []
 (.seq
 (.seq
 (.af false [
 oX 4 (.mv 3),
 oX 5 (.mv 3),
 oX 6 (.bin .mul 4 5),
 oX 7 (.mv 0),
 oX 8 (.bin .leq 6 7),
 oX 9 (.mv 8),
 ⟨(some 10),.mv 0,(some (9,true))⟩,
 ⟨(some 11),.bin .leq 10 (kX 1000003),(some (9,true))⟩,
 oX 12 (.pick 9 11 (.k (.one (.v (.bool) (false)))))])
 (.cond 12
 .skip
 (.exit 0)))
 (.seq
 (.block 1
 (.seq
 (.af false [
 oX 15 (.mv 0),
 oX 16 (.mv 3),
 oX 17 (.bin .rem 15 16),
 oX 18 (.bin .eql 17 (kX 0))])
 (.cond 18
 (.seq
 (.af false [
 oX 2 (.mv (.k (.one (.v (.bool) (false)))))])
 .ret)
 .skip)))
 (.af false [
 oX 13 (.mv 3),
 oX 14 (.bin .add 13 (kX 1)),
 oX 3 (.mv 14)])))))))
 (.seq
 (.af false [
 oX 19 (.mv 0),
 oX 20 (.call .ab 75 [19,(kX 2),(kX 1000003)]),
 oX 2 (.mv 20)])
 .ret)))
def QY:List bG:=[.tmp 2]
theorem alj (NN:Nat) (x:aV (au.aU GV)):ez NN [uf] TC QY GV SA x=LM NN x:=by kernel_rfl
theorem aiu:cG pX 74 TC.er QY 1=true:=by decide+kernel
theorem aaH:dL pX 74 Dz.M/\bM pX 74=true:=
  eO (T:=[uf]) (sc:=TC) (ms:=QY) (args:=GV) (aE:=SA) (aD.cons Kr<|aD.nil) cW aiu vC fun x y h=>(alj aB x).trans (aeT x y h)
def NI:aI:=⟨76,Hp,akL,S3,vF⟩
def T1:bF:=
 (.seq
 (.af false [
 oX 6 (.mv (.k (.one (.v (.bool) (false)))))])
 (.seq
 (.seq
 (.af false [
 oX 9 (.mv 1),
 oX 10 (.len 9),
 oX 11 (.mv (kX 0))])
 (.join ⟨[(1,.one (.c (.v (lX)))),(2,sX)],[]⟩ [] []
 (.block 0
 (.loop 0 ⟨[(0,sX),(1,.one (.c (.v (lX)))),(2,sX),(9,.one (.c (.v (lX)))),(10,sX),(11,sX)],[]⟩ [] []
 (.seq
 (.af false [
 oX 12 (.bin .lss 11 10)])
 (.seq
 (.cond 12
 .skip
 (.exit 0))
 (.seq
 (.block 1
 (.seq
 (.af false [
 oX 13 (.bY 1 9 11),
 oX 14 (.load false 1 13),
 oX 8 (.mv 14)])
 (.seq
 (.af false [
 oX 15 (.mv 8),
 oX 16 (.mv 0),
 oX 17 (.bin .sub 16 (kX 1)),
 oX 18 (.call .ab 75 [15,(kX 0),17]),
 oX 19 (.un .not 18)])
 (.cond 19
 (.seq
 (.af false [
 oX 6 (.mv (.k (.one (.v (.bool) (false)))))])
 .ret)
 .skip))))
 (.af false [
 oX 20 (.bin .add 11 (kX 1)),
 oX 11 (.mv 20)]))))))))
 (.seq
 (.af false [
 oX 21 (.mv 1),
 oX 22 (.len 21),
 oX 23 (.mv 2),
 oX 24 (.bin .eql 22 23),
 oX 6 (.mv 24)])
 .ret)))
def Rm:List bG:=[.tmp 6]
theorem alI (NN:Nat) (x:aV (au.aU Hp)):ez NN [uf] T1 Rm Hp S3 x=LU NN x:=by kernel_rfl
theorem aiS:cG pX 76 T1.er Rm 3=true:=by decide+kernel
theorem amG:dL pX 76 NI.M/\bM pX 76=true:=
  eO (T:=[uf]) (sc:=T1) (ms:=Rm) (args:=Hp) (aE:=S3) (aD.cons Kr<|aD.nil) cW aiS vF fun x y h=>(alI aB x).trans (afg x y h)
def Nr:aI:=⟨77,GY,aks,SF,xG⟩
def TG:bF:=
 (.seq
 (.af false [
 oX 3 (.box 3 1),
 oX 4 (.mv (.k (.one (.v (.bool) (false)))))])
 (.seq
 (.seq
 (.af false [
 oX 7 (.mv 0),
 oX 8 (.call .ab 74 [7]),
 oX 9 (.un .not 8),
 oX 10 (.mv 9),
 ⟨(some 11),.aq 0 3,(some (10,false))⟩,
 ⟨(some 12),.load false 1 11,(some (10,false))⟩,
 ⟨(some 13),.call .ab 75 [12,(kX 0),(kX 64)],(some (10,false))⟩,
 ⟨(some 14),.un .not 13,(some (10,false))⟩,
 oX 15 (.pick 10 (.k (.one (.v (.bool) (true)))) 14),
 oX 16 (.mv 15),
 ⟨(some 17),.aq 1 3,(some (16,false))⟩,
 ⟨(some 18),.load false 1 17,(some (16,false))⟩,
 ⟨(some 19),.call .ab 75 [18,(kX 0),(kX 64)],(some (16,false))⟩,
 ⟨(some 20),.un .not 19,(some (16,false))⟩,
 oX 21 (.pick 16 (.k (.one (.v (.bool) (true)))) 20),
 oX 22 (.mv 21),
 ⟨(some 23),.aq 2 3,(some (22,false))⟩,
 ⟨(some 24),.load false 1 23,(some (22,false))⟩,
 ⟨(some 25),.len 24,(some (22,false))⟩,
 ⟨(some 26),.aq 0 3,(some (22,false))⟩,
 ⟨(some 27),.load false 1 26,(some (22,false))⟩,
 ⟨(some 28),.aq 1 3,(some (22,false))⟩,
 ⟨(some 29),.load false 1 28,(some (22,false))⟩,
 ⟨(some 30),.bin .mul 27 29,(some (22,false))⟩,
 ⟨(some 31),.bin .neq 25 30,(some (22,false))⟩,
 oX 32 (.pick 22 (.k (.one (.v (.bool) (true)))) 31)])
 (.cond 32
 (.seq
 (.af false [
 oX 4 (.mv (.k (.one (.v (.bool) (false)))))])
 .ret)
 .skip))
 (.seq
 (.seq
 (.af false [
 oX 33 (.aq 2 3),
 oX 34 (.load false 1 33),
 oX 35 (.len 34),
 oX 36 (.mv (kX 0))])
 (.join ⟨[],[]⟩ [] []
 (.block 0
 (.loop 0 ⟨[(0,sX),(34,.one (.c (.v (lX)))),(35,sX),(36,sX)],[]⟩ [3] []
 (.seq
 (.af false [
 oX 37 (.bin .lss 36 35)])
 (.seq
 (.cond 37
 .skip
 (.exit 0))
 (.seq
 (.block 1
 (.seq
 (.af false [
 oX 38 (.bY 1 34 36),
 oX 39 (.load false 1 38),
 oX 6 (.mv 39)])
 (.seq
 (.af false [
 oX 40 (.mv 6),
 oX 41 (.mv 0),
 oX 42 (.bin .sub 41 (kX 1)),
 oX 43 (.call .ab 75 [40,(kX 0),42]),
 oX 44 (.un .not 43)])
 (.cond 44
 (.seq
 (.af false [
 oX 4 (.mv (.k (.one (.v (.bool) (false)))))])
 .ret)
 .skip))))
 (.af false [
 oX 45 (.bin .add 36 (kX 1)),
 oX 36 (.mv 45)]))))))))
 (.seq
 (.af false [
 oX 4 (.mv (.k (.one (.v (.bool) (true)))))])
 .ret))))
def Q1:List bG:=[.tmp 4]
theorem aln (NN:Nat) (x:aV (au.aU GY)):ez NN [Dz,uf] TG Q1 GY SF x=LN NN x:=by kernel_rfl
theorem aix:cG pX 77 TG.er Q1 2=true:=by decide+kernel
theorem amq:dL pX 77 Nr.M/\bM pX 77=true:=
  eO (T:=[Dz,uf]) (sc:=TG) (ms:=Q1) (args:=GY) (aE:=SF) (aD.cons aaH<|aD.cons Kr<|aD.nil) cW aix xG fun x y h=>(aln aB x).trans (aeW x y h)
def Nm:aI:=⟨47,GS,akn,Sy,vB⟩
def TA:bF:=
 (.seq
 (.af false [
 oX 1 (.box 5 0),
 oX 2 (.mv (.k (.one (.v (.bool) (false)))))])
 (.seq
 (.seq
 (.af false [
 oX 5 (.aq 0 1),
 oX 6 (.load false 1 5),
 oX 7 (.call .ab 74 [6]),
 oX 8 (.un .not 7),
 oX 9 (.mv 8),
 ⟨(some 10),.aq 1 1,(some (9,false))⟩,
 ⟨(some 11),.load false 1 10,(some (9,false))⟩,
 ⟨(some 12),.call .ab 75 [11,(kX 0),(kX 12)],(some (9,false))⟩,
 ⟨(some 13),.un .not 12,(some (9,false))⟩,
 oX 14 (.pick 9 (.k (.one (.v (.bool) (true)))) 13),
 oX 15 (.mv 14),
 ⟨(some 16),.aq 0 1,(some (15,false))⟩,
 ⟨(some 17),.load false 1 16,(some (15,false))⟩,
 ⟨(some 18),.aq 2 1,(some (15,false))⟩,
 ⟨(some 19),.load false 1 18,(some (15,false))⟩,
 ⟨(some 20),.aq 1 1,(some (15,false))⟩,
 ⟨(some 21),.load false 1 20,(some (15,false))⟩,
 ⟨(some 22),.call .ab 76 [17,19,21],(some (15,false))⟩,
 ⟨(some 23),.un .not 22,(some (15,false))⟩,
 oX 24 (.pick 15 (.k (.one (.v (.bool) (true)))) 23),
 oX 25 (.mv 24),
 ⟨(some 26),.aq 0 1,(some (25,false))⟩,
 ⟨(some 27),.load false 1 26,(some (25,false))⟩,
 ⟨(some 28),.aq 4 1,(some (25,false))⟩,
 ⟨(some 29),.load false 1 28,(some (25,false))⟩,
 ⟨(some 30),.aq 1 1,(some (25,false))⟩,
 ⟨(some 31),.load false 1 30,(some (25,false))⟩,
 ⟨(some 32),.call .ab 76 [27,29,31],(some (25,false))⟩,
 ⟨(some 33),.un .not 32,(some (25,false))⟩,
 oX 34 (.pick 25 (.k (.one (.v (.bool) (true)))) 33),
 oX 35 (.mv 34),
 ⟨(some 36),.aq 3 1,(some (35,false))⟩,
 ⟨(some 37),.load false 1 36,(some (35,false))⟩,
 ⟨(some 38),.len 37,(some (35,false))⟩,
 ⟨(some 39),.call .ab 75 [38,(kX 1),(kX 4)],(some (35,false))⟩,
 ⟨(some 40),.un .not 39,(some (35,false))⟩,
 oX 41 (.pick 35 (.k (.one (.v (.bool) (true)))) 40)])
 (.cond 41
 (.seq
 (.af false [
 oX 2 (.mv (.k (.one (.v (.bool) (false)))))])
 .ret)
 .skip))
 (.seq
 (.seq
 (.af false [
 oX 42 (.aq 3 1),
 oX 43 (.load false 1 42),
 oX 44 (.len 43),
 oX 45 (.mv (kX 0))])
 (.join ⟨[],[]⟩ [1] []
 (.block 0
 (.loop 0 ⟨[(1,.one (rX 1)),(43,.one (.c (.v (.list mX)))),(44,sX),(45,sX)],[(1,.box [vX,vX,.c (.v (lX)),.c (.v (.list mX)),.c (.v (lX))])]⟩ [1,4] []
 (.seq
 (.af false [
 oX 46 (.bin .lss 45 44)])
 (.seq
 (.cond 46
 .skip
 (.exit 0))
 (.seq
 (.block 1
 (.seq
 (.af false [
 oX 47 (.bY 3 43 45),
 oX 48 (.load true 3 47),
 oX 4 (.alloc [zX,zX,.nil iX]),
 uX (.store 3 4 48)])
 (.seq
 (.af false [
 oX 49 (.aq 0 1),
 oX 50 (.load false 1 49),
 oX 51 (.load true 3 4),
 oX 52 (.call .ab 77 [50,51]),
 oX 53 (.un .not 52),
 oX 54 (.mv 53),
 ⟨(some 55),.aq 0 4,(some (54,false))⟩,
 ⟨(some 56),.load false 1 55,(some (54,false))⟩,
 ⟨(some 57),.aq 1 1,(some (54,false))⟩,
 ⟨(some 58),.load false 1 57,(some (54,false))⟩,
 ⟨(some 59),.bin .neq 56 58,(some (54,false))⟩,
 oX 60 (.pick 54 (.k (.one (.v (.bool) (true)))) 59),
 oX 61 (.mv 60),
 ⟨(some 62),.aq 1 4,(some (61,false))⟩,
 ⟨(some 63),.load false 1 62,(some (61,false))⟩,
 ⟨(some 64),.aq 1 1,(some (61,false))⟩,
 ⟨(some 65),.load false 1 64,(some (61,false))⟩,
 ⟨(some 66),.bin .neq 63 65,(some (61,false))⟩,
 oX 67 (.pick 61 (.k (.one (.v (.bool) (true)))) 66)])
 (.cond 67
 (.seq
 (.af false [
 oX 2 (.mv (.k (.one (.v (.bool) (false)))))])
 .ret)
 .skip))))
 (.af false [
 oX 68 (.bin .add 45 (kX 1)),
 oX 45 (.mv 68)]))))))))
 (.seq
 (.af false [
 oX 2 (.mv (.k (.one (.v (.bool) (true)))))])
 .ret))))
def QW:List bG:=[.tmp 2]
theorem alh (NN:Nat) (x:aV (au.aU GS)):ez NN [Dz,uf,NI,Nr] TA QW GS Sy x=LK NN x:=by kernel_rfl
theorem ais:cG pX 47 TA.er QW 1=true:=by decide+kernel
theorem amm:dL pX 47 Nm.M/\bM pX 47=true:=
  eO (T:=[Dz,uf,NI,Nr]) (sc:=TA) (ms:=QW) (args:=GS) (aE:=Sy) (aD.cons aaH<|aD.cons Kr<|aD.cons amG<|aD.cons amq<|aD.nil) cW ais vB fun x y h=>(alh aB x).trans (aeR x y h)
def NE:aI:=⟨32,Hj,akG,SX,oB⟩
def TW:bF:=
 (.seq
 (.af false [
 oX 2 (.box 5 0),
 oX 3 (.box 5 1),
 oX 4 (.mv (.k (.one (.v (.bool) (false)))))])
 (.seq
 (.af false [
 oX 5 (.load true 5 2),
 oX 6 (.call .ab 47 [5]),
 oX 7 (.mv 6),
 ⟨(some 8),.load true 5 3,(some (7,true))⟩,
 ⟨(some 9),.call .ab 47 [8],(some (7,true))⟩,
 oX 10 (.pick 7 9 (.k (.one (.v (.bool) (false))))),
 oX 11 (.mv 10),
 ⟨(some 12),.aq 0 2,(some (11,true))⟩,
 ⟨(some 13),.load false 1 12,(some (11,true))⟩,
 ⟨(some 14),.aq 0 3,(some (11,true))⟩,
 ⟨(some 15),.load false 1 14,(some (11,true))⟩,
 ⟨(some 16),.bin .eql 13 15,(some (11,true))⟩,
 oX 17 (.pick 11 16 (.k (.one (.v (.bool) (false))))),
 oX 18 (.mv 17),
 ⟨(some 19),.aq 3 2,(some (18,true))⟩,
 ⟨(some 20),.load false 1 19,(some (18,true))⟩,
 ⟨(some 21),.len 20,(some (18,true))⟩,
 ⟨(some 22),.aq 3 3,(some (18,true))⟩,
 ⟨(some 23),.load false 1 22,(some (18,true))⟩,
 ⟨(some 24),.len 23,(some (18,true))⟩,
 ⟨(some 25),.bin .eql 21 24,(some (18,true))⟩,
 oX 26 (.pick 18 25 (.k (.one (.v (.bool) (false))))),
 oX 4 (.mv 26)])
 .ret))
def Rh:List bG:=[.tmp 4]
theorem alD (NN:Nat) (x:aV (au.aU Hj)):ez NN [Nm] TW Rh Hj SX x=LR NN x:=by kernel_rfl
theorem aiN:cG pX 32 TW.er Rh 2=true:=by decide+kernel
theorem amC:dL pX 32 NE.M/\bM pX 32=true:=
  eO (T:=[Nm]) (sc:=TW) (ms:=Rh) (args:=Hj) (aE:=SX) (aD.cons amm<|aD.nil) cW aiN oB fun x y h=>(alD aB x).trans (afb x y h)
def q8:aI:=⟨37,G8,akz,SM,kq⟩
def TN:bF:=
 (.seq
 (.af false [
 oX 2 (.mv (.k (.one (.nil iX))))])
 (.seq
 (.af false [
 oX 3 (.dM iX []),
 oX 4 (.mv 0),
 oX 5 (.append true iX 8 3 4),
 oX 2 (.mv 5)])
 .ret))
def Q8:List bG:=[.tmp 2]
theorem alu (NN:Nat) (x:aV (au.aU G8)):ez NN [] TN Q8 G8 SM x=LP NN x:=by kernel_rfl
theorem aiE:cG pX 37 TN.er Q8 1=true:=by decide+kernel
theorem E0:dL pX 37 q8.M/\bM pX 37=true:=
  eO (T:=[]) (sc:=TN) (ms:=Q8) (args:=G8) (aE:=SM) (aD.nil) cW aiE kq fun x y h=>(alu aB x).trans (ae3 x y h)
def NJ:aI:=⟨33,Hq,akM,S4,xM⟩
def T2:bF:=
 (.seq
 (.af false [
 oX 3 (.box 5 0),
 oX 4 (.box 5 1),
 oX 6 (.alloc [zX,zX,.nil iX,.nil mX,.nil iX])])
 (.seq
 (.af false [
 oX 18 (.aq 1 3),
 oX 19 (.load false 1 18),
 oX 20 (.aq 1 4),
 oX 21 (.load false 1 20),
 oX 22 (.bin .add 19 21),
 oX 7 (.mv 22)])
 (.seq
 (.od [(0,8),(1,8),(8,9),(8,10),(8,13)] [
 oX 23 (.aq 0 3),
 oX 24 (.load false 1 23),
 oX 25 (.mv 7),
 oX 26 (.aq 2 3),
 oX 27 (.load false 1 26),
 oX 28 (.call .ab 37 [27]),
 oX 29 (.aq 2 4),
 oX 30 (.load false 1 29),
 oX 31 (.append true iX 8 28 30),
 oX 32 (.aq 4 3),
 oX 33 (.load false 1 32),
 oX 34 (.call .ab 37 [33]),
 oX 35 (.build [zX,zX,.nil iX,.nil mX,.nil iX] [(0,1,24),(1,1,25),(2,1,31),(4,1,34)]),
 oX 8 (.alloc [zX,zX,.nil iX,.nil mX,.nil iX]),
 uX (.store 5 8 35)])
 (.seq
 (.seq
 (.af false [
 oX 36 (.aq 4 4),
 oX 37 (.load false 1 36),
 oX 38 (.len 37),
 oX 39 (.mv (kX 0))])
 (.join ⟨[(6,.one (rX 6)),(8,.one (rX 8)),(4,.one (rX 4)),(3,.one (rX 3)),(7,sX)],[(3,.box [vX,vX,.c (.v (lX)),.c (.v (.list mX)),.c (.v (lX))]),(4,.box [vX,vX,.c (.v (lX)),.c (.v (.list mX)),.c (.v (lX))]),(6,.box [vX,vX,fX 500006 1,fX 500007 3,fX 500008 1]),(8,.box [vX,vX,fX 500009 1,fX 500010 3,fX 500011 1]),(500006,.row true .ab iX),(500007,.row true .ab mX),(500008,.row true .ab iX),(500009,.row true .ab iX),(500010,.row true .ab mX),(500011,.row true .ab iX)]⟩ [3,4,6,8,500000,500001,500002,500003,500004,500005,500006,500007,500008,500009,500010,500011] [(true,6,2,500006,.ab,[]),(true,6,3,500007,.ab,[]),(true,6,4,500008,.ab,[]),(true,8,2,500009,.ab,[]),(true,8,3,500010,.ab,[]),(true,8,4,500011,.ab,[])]
 (.block 0
 (.loop 0 ⟨[(2,sX),(3,.one (rX 3)),(4,.one (rX 4)),(6,.one (rX 6)),(7,sX),(8,.one (rX 8)),(37,.one (.c (.v (lX)))),(38,sX),(39,sX)],[(3,.box [vX,vX,.c (.v (lX)),.c (.v (.list mX)),.c (.v (lX))]),(4,.box [vX,vX,.c (.v (lX)),.c (.v (.list mX)),.c (.v (lX))]),(6,.box [vX,vX,fX 500000 1,fX 500001 3,fX 500002 1]),(8,.box [vX,vX,fX 500003 1,fX 500004 3,fX 500005 1]),(500000,.row true .ab iX),(500001,.row true .ab mX),(500002,.row true .ab iX),(500003,.row true .ab iX),(500004,.row true .ab mX),(500005,.row true .ab iX)]⟩ [3,4,6,31,35000,8,51,52,500000,500001,500002,500003,500004,500005] [(true,6,2,500000,.ab,[]),(true,6,3,500001,.ab,[]),(true,6,4,500002,.ab,[]),(true,8,2,500003,.ab,[]),(true,8,3,500004,.ab,[]),(true,8,4,500005,.ab,[])]
 (.seq
 (.af false [
 oX 40 (.bin .lss 39 38)])
 (.seq
 (.cond 40
 .skip
 (.exit 0))
 (.seq
 (.block 1
 (.seq
 (.af false [
 oX 41 (.bY 1 37 39),
 oX 42 (.load false 1 41),
 oX 10 (.mv 42)])
 (.od [(0,8),(1,8)] [
 oX 43 (.aq 4 8),
 oX 44 (.load false 1 43),
 oX 45 (.mv 10),
 oX 46 (.mv 2),
 oX 47 (.bin .mul 45 46),
 oX 48 (.aq 0 3),
 oX 49 (.load false 1 48),
 oX 50 (.bin .rem 47 49),
 oX 51 (.dM iX [50]),
 oX 52 (.append true iX 8 44 51),
 oX 53 (.aq 4 8),
 uX (.store 1 53 52)])))
 (.af false [
 oX 54 (.bin .add 39 (kX 1)),
 oX 39 (.mv 54)]))))))))
 (.seq
 (.seq
 (.af false [
 oX 55 (.aq 3 3),
 oX 56 (.load false 1 55),
 oX 57 (.len 56),
 oX 58 (.mv (kX 0))])
 (.join ⟨[(8,.one (rX 8)),(6,.one (rX 6))],[(6,.box [vX,vX,fX 500080 1,fX 500081 3,fX 500082 1]),(8,.box [vX,vX,fX 500083 1,fX 500084 3,fX 500085 1]),(500080,.row true .ab iX),(500081,.row true .ab mX),(500082,.row true .ab iX),(500083,.row true .ab iX),(500084,.row true .ab mX),(500085,.row true .ab iX)]⟩ [3,4,6,8,500012,500013,500014,500015,500016,500017,500080,500081,500082,500083,500084,500085] [(true,6,2,500080,.ab,[]),(true,6,3,500081,.ab,[]),(true,6,4,500082,.ab,[]),(true,8,2,500083,.ab,[]),(true,8,3,500084,.ab,[]),(true,8,4,500085,.ab,[])]
 (.block 2
 (.loop 0 ⟨[(3,.one (rX 3)),(4,.one (rX 4)),(6,.one (rX 6)),(7,sX),(8,.one (rX 8)),(56,.one (.c (.v (.list mX)))),(57,sX),(58,sX)],[(3,.box [vX,vX,.c (.v (lX)),.c (.v (.list mX)),.c (.v (lX))]),(4,.box [vX,vX,.c (.v (lX)),.c (.v (.list mX)),.c (.v (lX))]),(6,.box [vX,vX,fX 500012 1,fX 500013 3,fX 500014 1]),(8,.box [vX,vX,fX 500015 1,fX 500016 3,fX 500017 1]),(500012,.row true .ab iX),(500013,.row true .ab mX),(500014,.row true .ab iX),(500015,.row true .ab iX),(500016,.row true .ab mX),(500017,.row true .ab iX)]⟩ [3,4,6,8,500006,500007,500008,500009,500010,500011,500012,500013,500014,500015,500016,500017,500074,500075,500076,500077,500078,500079] [(true,6,2,500012,.ab,[]),(true,6,3,500013,.ab,[]),(true,6,4,500014,.ab,[]),(true,8,2,500015,.ab,[]),(true,8,3,500016,.ab,[]),(true,8,4,500017,.ab,[])]
 (.seq
 (.af false [
 oX 59 (.bin .lss 58 57)])
 (.seq
 (.cond 59
 .skip
 (.exit 2))
 (.seq
 (.join ⟨[(58,sX),(3,.one (rX 3)),(4,.one (rX 4)),(6,.one (rX 6)),(7,sX),(8,.one (rX 8)),(56,.one (.c (.v (.list mX)))),(57,sX)],[(3,.box [vX,vX,.c (.v (lX)),.c (.v (.list mX)),.c (.v (lX))]),(4,.box [vX,vX,.c (.v (lX)),.c (.v (.list mX)),.c (.v (lX))]),(6,.box [vX,vX,fX 500074 1,fX 500075 3,fX 500076 1]),(8,.box [vX,vX,fX 500077 1,fX 500078 3,fX 500079 1]),(500074,.row true .ab iX),(500075,.row true .ab mX),(500076,.row true .ab iX),(500077,.row true .ab iX),(500078,.row true .ab mX),(500079,.row true .ab iX)]⟩ [3,4,6,8,13,140,500067,500068,500069,500070,500072,500074,500075,500076,500077,500078,500079] [(true,6,2,500074,.ab,[]),(true,6,3,500075,.ab,[]),(true,6,4,500076,.ab,[]),(true,8,2,500077,.ab,[]),(true,8,3,500078,.ab,[]),(true,8,4,500079,.ab,[])]
 (.block 3
 (.seq
 (.af false [
 oX 60 (.mv 58),
 oX 61 (.bY 3 56 58),
 oX 62 (.load true 3 61),
 oX 12 (.alloc [zX,zX,.nil iX]),
 oX 11 (.mv 60),
 uX (.store 3 12 62)])
 (.seq
 (.af false [
 oX 63 (.mv 7),
 oX 64 (.mv 7),
 oX 65 (.call .ab 61 [63,64]),
 oX 13 (.alloc [zX,zX,.nil iX]),
 uX (.store 3 13 65)])
 (.seq
 (.seq
 (.af false [
 oX 14 (.mv (kX 0))])
 (.join ⟨[(57,sX),(56,.one (.c (.v (.list mX)))),(8,.one (rX 8)),(7,sX),(6,.one (rX 6)),(4,.one (rX 4)),(3,.one (rX 3)),(58,sX),(13,.one (rX 13)),(11,sX)],[(3,.box [vX,vX,.c (.v (lX)),.c (.v (.list mX)),.c (.v (lX))]),(4,.box [vX,vX,.c (.v (lX)),.c (.v (.list mX)),.c (.v (lX))]),(6,.box [vX,vX,fX 500039 1,fX 500040 3,fX 500041 1]),(8,.box [vX,vX,fX 500042 1,fX 500043 3,fX 500044 1]),(13,.box [vX,vX,fX 500045 1]),(500039,.row true .ab iX),(500040,.row true .ab mX),(500041,.row true .ab iX),(500042,.row true .ab iX),(500043,.row true .ab mX),(500044,.row true .ab iX),(500045,.row true .ab iX)]⟩ [3,4,6,8,12,13,500018,500019,500020,500021,500022,500023,500024,500039,500040,500041,500042,500043,500044,500045] [(true,6,2,500039,.ab,[]),(true,6,3,500040,.ab,[]),(true,6,4,500041,.ab,[]),(true,8,2,500042,.ab,[]),(true,8,3,500043,.ab,[]),(true,8,4,500044,.ab,[]),(true,13,2,500045,.ab,[])]
 (.block 4
 (.loop 0 ⟨[(3,.one (rX 3)),(4,.one (rX 4)),(6,.one (rX 6)),(7,sX),(8,.one (rX 8)),(11,sX),(12,.one (rX 12)),(13,.one (rX 13)),(14,sX),(56,.one (.c (.v (.list mX)))),(57,sX),(58,sX)],[(3,.box [vX,vX,.c (.v (lX)),.c (.v (.list mX)),.c (.v (lX))]),(4,.box [vX,vX,.c (.v (lX)),.c (.v (.list mX)),.c (.v (lX))]),(6,.box [vX,vX,fX 500018 1,fX 500019 3,fX 500020 1]),(8,.box [vX,vX,fX 500021 1,fX 500022 3,fX 500023 1]),(12,.box [vX,vX,.c (.v (lX))]),(13,.box [vX,vX,fX 500024 1]),(500018,.row true .ab iX),(500019,.row true .ab mX),(500020,.row true .ab iX),(500021,.row true .ab iX),(500022,.row true .ab mX),(500023,.row true .ab iX),(500024,.row true .ab iX)]⟩ [3,4,6,8,12,66000,13,500012,500013,500014,500015,500016,500017,500018,500019,500020,500021,500022,500023,500024,500032,500033,500034,500035,500036,500037,500038] [(true,6,2,500018,.ab,[]),(true,6,3,500019,.ab,[]),(true,6,4,500020,.ab,[]),(true,8,2,500021,.ab,[]),(true,8,3,500022,.ab,[]),(true,8,4,500023,.ab,[]),(true,13,2,500024,.ab,[])]
 (.seq
 (.seq
 (.af false [
 oX 66 (.mv 14),
 oX 67 (.aq 1 3),
 oX 68 (.load false 1 67),
 oX 69 (.bin .lss 66 68)])
 (.cond 69
 .skip
 (.exit 4)))
 (.seq
 (.join ⟨[(14,sX),(3,.one (rX 3)),(4,.one (rX 4)),(6,.one (rX 6)),(7,sX),(8,.one (rX 8)),(11,sX),(12,.one (rX 12)),(13,.one (rX 13)),(56,.one (.c (.v (.list mX)))),(57,sX),(58,sX)],[(3,.box [vX,vX,.c (.v (lX)),.c (.v (.list mX)),.c (.v (lX))]),(4,.box [vX,vX,.c (.v (lX)),.c (.v (.list mX)),.c (.v (lX))]),(6,.box [vX,vX,fX 500032 1,fX 500033 3,fX 500034 1]),(8,.box [vX,vX,fX 500035 1,fX 500036 3,fX 500037 1]),(12,.box [vX,vX,.c (.v (lX))]),(13,.box [vX,vX,fX 500038 1]),(500032,.row true .ab iX),(500033,.row true .ab mX),(500034,.row true .ab iX),(500035,.row true .ab iX),(500036,.row true .ab mX),(500037,.row true .ab iX),(500038,.row true .ab iX)]⟩ [3,4,6,8,12,13,500025,500026,500027,500028,500029,500030,500031,500032,500033,500034,500035,500036,500037,500038] [(true,6,2,500032,.ab,[]),(true,6,3,500033,.ab,[]),(true,6,4,500034,.ab,[]),(true,8,2,500035,.ab,[]),(true,8,3,500036,.ab,[]),(true,8,4,500037,.ab,[]),(true,13,2,500038,.ab,[])]
 (.block 5
 (.seq
 (.af false [
 oX 15 (.mv (kX 0))])
 (.block 6
 (.loop 0 ⟨[(3,.one (rX 3)),(4,.one (rX 4)),(6,.one (rX 6)),(7,sX),(8,.one (rX 8)),(11,sX),(12,.one (rX 12)),(13,.one (rX 13)),(14,sX),(15,sX),(56,.one (.c (.v (.list mX)))),(57,sX),(58,sX)],[(3,.box [vX,vX,.c (.v (lX)),.c (.v (.list mX)),.c (.v (lX))]),(4,.box [vX,vX,.c (.v (lX)),.c (.v (.list mX)),.c (.v (lX))]),(6,.box [vX,vX,fX 500025 1,fX 500026 3,fX 500027 1]),(8,.box [vX,vX,fX 500028 1,fX 500029 3,fX 500030 1]),(12,.box [vX,vX,.c (.v (lX))]),(13,.box [vX,vX,fX 500031 1]),(500025,.row true .ab iX),(500026,.row true .ab mX),(500027,.row true .ab iX),(500028,.row true .ab iX),(500029,.row true .ab mX),(500030,.row true .ab iX),(500031,.row true .ab iX)]⟩ [3,4,6,8,12,13,500018,500019,500020,500021,500022,500023,500024,500025,500026,500027,500028,500029,500030,500031] [(true,6,2,500025,.ab,[]),(true,6,3,500026,.ab,[]),(true,6,4,500027,.ab,[]),(true,8,2,500028,.ab,[]),(true,8,3,500029,.ab,[]),(true,8,4,500030,.ab,[]),(true,13,2,500031,.ab,[])]
 (.seq
 (.seq
 (.af false [
 oX 72 (.mv 15),
 oX 73 (.aq 1 3),
 oX 74 (.load false 1 73),
 oX 75 (.bin .lss 72 74)])
 (.cond 75
 .skip
 (.exit 6)))
 (.seq
 (.block 7
 (.af true [
 oX 78 (.aq 2 13),
 oX 79 (.load false 1 78),
 oX 80 (.mv 14),
 oX 81 (.mv 7),
 oX 82 (.bin .mul 80 81),
 oX 83 (.mv 15),
 oX 84 (.bin .add 82 83),
 oX 85 (.aq 2 12),
 oX 86 (.load false 1 85),
 oX 87 (.mv 14),
 oX 88 (.aq 1 3),
 oX 89 (.load false 1 88),
 oX 90 (.bin .mul 87 89),
 oX 91 (.mv 15),
 oX 92 (.bin .add 90 91),
 oX 93 (.bY 1 86 92),
 oX 94 (.load false 1 93),
 oX 95 (.bY 1 79 84),
 uX (.store 1 95 94)]))
 (.af false [
 oX 76 (.mv 15),
 oX 77 (.bin .add 76 (kX 1)),
 oX 15 (.mv 77)]))))))))
 (.af false [
 oX 70 (.mv 14),
 oX 71 (.bin .add 70 (kX 1)),
 oX 14 (.mv 71)])))))))
 (.seq
 (.seq
 (.af false [
 oX 16 (.mv (kX 0))])
 (.join ⟨[(13,.one (rX 13)),(58,sX),(3,.one (rX 3)),(4,.one (rX 4)),(6,.one (rX 6)),(7,sX),(8,.one (rX 8)),(56,.one (.c (.v (.list mX)))),(57,sX)],[(3,.box [vX,vX,.c (.v (lX)),.c (.v (.list mX)),.c (.v (lX))]),(4,.box [vX,vX,.c (.v (lX)),.c (.v (.list mX)),.c (.v (lX))]),(6,.box [vX,vX,fX 500067 1,fX 500068 3,fX 500069 1]),(8,.box [vX,vX,fX 500070 1,fX 500071 3,fX 500072 1]),(13,.box [vX,vX,fX 500073 1]),(500067,.row true .ab iX),(500068,.row true .ab mX),(500069,.row true .ab iX),(500070,.row true .ab iX),(500071,.row true .ab mX),(500072,.row true .ab iX),(500073,.row true .ab iX)]⟩ [3,4,6,8,13,500046,500047,500048,500049,500050,500051,500052,500067,500068,500069,500070,500071,500072,500073] [(true,6,2,500067,.ab,[]),(true,6,3,500068,.ab,[]),(true,6,4,500069,.ab,[]),(true,8,2,500070,.ab,[]),(true,8,3,500071,.ab,[]),(true,8,4,500072,.ab,[]),(true,13,2,500073,.ab,[])]
 (.block 8
 (.loop 0 ⟨[(3,.one (rX 3)),(4,.one (rX 4)),(6,.one (rX 6)),(7,sX),(8,.one (rX 8)),(11,sX),(13,.one (rX 13)),(16,sX),(56,.one (.c (.v (.list mX)))),(57,sX),(58,sX)],[(3,.box [vX,vX,.c (.v (lX)),.c (.v (.list mX)),.c (.v (lX))]),(4,.box [vX,vX,.c (.v (lX)),.c (.v (.list mX)),.c (.v (lX))]),(6,.box [vX,vX,fX 500046 1,fX 500047 3,fX 500048 1]),(8,.box [vX,vX,fX 500049 1,fX 500050 3,fX 500051 1]),(13,.box [vX,vX,fX 500052 1]),(500046,.row true .ab iX),(500047,.row true .ab mX),(500048,.row true .ab iX),(500049,.row true .ab iX),(500050,.row true .ab mX),(500051,.row true .ab iX),(500052,.row true .ab iX)]⟩ [3,4,6,8,13,500039,500040,500041,500042,500043,500044,500045,500046,500047,500048,500049,500050,500051,500052,500060,500061,500062,500063,500064,500065,500066] [(true,6,2,500046,.ab,[]),(true,6,3,500047,.ab,[]),(true,6,4,500048,.ab,[]),(true,8,2,500049,.ab,[]),(true,8,3,500050,.ab,[]),(true,8,4,500051,.ab,[]),(true,13,2,500052,.ab,[])]
 (.seq
 (.seq
 (.af false [
 oX 96 (.mv 16),
 oX 97 (.aq 1 4),
 oX 98 (.load false 1 97),
 oX 99 (.bin .lss 96 98)])
 (.cond 99
 .skip
 (.exit 8)))
 (.seq
 (.join ⟨[(16,sX),(3,.one (rX 3)),(4,.one (rX 4)),(6,.one (rX 6)),(7,sX),(8,.one (rX 8)),(11,sX),(13,.one (rX 13)),(56,.one (.c (.v (.list mX)))),(57,sX),(58,sX)],[(3,.box [vX,vX,.c (.v (lX)),.c (.v (.list mX)),.c (.v (lX))]),(4,.box [vX,vX,.c (.v (lX)),.c (.v (.list mX)),.c (.v (lX))]),(6,.box [vX,vX,fX 500060 1,fX 500061 3,fX 500062 1]),(8,.box [vX,vX,fX 500063 1,fX 500064 3,fX 500065 1]),(13,.box [vX,vX,fX 500066 1]),(500060,.row true .ab iX),(500061,.row true .ab mX),(500062,.row true .ab iX),(500063,.row true .ab iX),(500064,.row true .ab mX),(500065,.row true .ab iX),(500066,.row true .ab iX)]⟩ [3,4,6,8,13,500053,500054,500055,500056,500057,500058,500059,500060,500061,500062,500063,500064,500065,500066] [(true,6,2,500060,.ab,[]),(true,6,3,500061,.ab,[]),(true,6,4,500062,.ab,[]),(true,8,2,500063,.ab,[]),(true,8,3,500064,.ab,[]),(true,8,4,500065,.ab,[]),(true,13,2,500066,.ab,[])]
 (.block 9
 (.seq
 (.af false [
 oX 17 (.mv (kX 0))])
 (.block 10
 (.loop 0 ⟨[(3,.one (rX 3)),(4,.one (rX 4)),(6,.one (rX 6)),(7,sX),(8,.one (rX 8)),(11,sX),(13,.one (rX 13)),(16,sX),(17,sX),(56,.one (.c (.v (.list mX)))),(57,sX),(58,sX)],[(3,.box [vX,vX,.c (.v (lX)),.c (.v (.list mX)),.c (.v (lX))]),(4,.box [vX,vX,.c (.v (lX)),.c (.v (.list mX)),.c (.v (lX))]),(6,.box [vX,vX,fX 500053 1,fX 500054 3,fX 500055 1]),(8,.box [vX,vX,fX 500056 1,fX 500057 3,fX 500058 1]),(13,.box [vX,vX,fX 500059 1]),(500053,.row true .ab iX),(500054,.row true .ab mX),(500055,.row true .ab iX),(500056,.row true .ab iX),(500057,.row true .ab mX),(500058,.row true .ab iX),(500059,.row true .ab iX)]⟩ [3,4,6,8,13,500046,500047,500048,500049,500050,500051,500052,500053,500054,500055,500056,500057,500058,500059] [(true,6,2,500053,.ab,[]),(true,6,3,500054,.ab,[]),(true,6,4,500055,.ab,[]),(true,8,2,500056,.ab,[]),(true,8,3,500057,.ab,[]),(true,8,4,500058,.ab,[]),(true,13,2,500059,.ab,[])]
 (.seq
 (.seq
 (.af false [
 oX 102 (.mv 17),
 oX 103 (.aq 1 4),
 oX 104 (.load false 1 103),
 oX 105 (.bin .lss 102 104)])
 (.cond 105
 .skip
 (.exit 10)))
 (.seq
 (.block 11
 (.af true [
 oX 108 (.aq 2 13),
 oX 109 (.load false 1 108),
 oX 110 (.aq 1 3),
 oX 111 (.load false 1 110),
 oX 112 (.mv 16),
 oX 113 (.bin .add 111 112),
 oX 114 (.mv 7),
 oX 115 (.bin .mul 113 114),
 oX 116 (.aq 1 3),
 oX 117 (.load false 1 116),
 oX 118 (.bin .add 115 117),
 oX 119 (.mv 17),
 oX 120 (.bin .add 118 119),
 oX 121 (.aq 3 4),
 oX 122 (.load false 1 121),
 oX 123 (.mv 11),
 oX 124 (.bY 3 122 123),
 oX 125 (.aq 2 124),
 oX 126 (.load false 1 125),
 oX 127 (.mv 16),
 oX 128 (.aq 1 4),
 oX 129 (.load false 1 128),
 oX 130 (.bin .mul 127 129),
 oX 131 (.mv 17),
 oX 132 (.bin .add 130 131),
 oX 133 (.bY 1 126 132),
 oX 134 (.load false 1 133),
 oX 135 (.bY 1 109 120),
 uX (.store 1 135 134)]))
 (.af false [
 oX 106 (.mv 17),
 oX 107 (.bin .add 106 (kX 1)),
 oX 17 (.mv 107)]))))))))
 (.af false [
 oX 100 (.mv 16),
 oX 101 (.bin .add 100 (kX 1)),
 oX 16 (.mv 101)])))))))
 (.af false [
 oX 136 (.aq 3 8),
 oX 137 (.load false 1 136),
 oX 138 (.load true 3 13),
 oX 139 (.dM mX [138]),
 oX 140 (.append false mX 40 137 139),
 oX 141 (.aq 3 8),
 uX (.store 1 141 140)])))))))
 (.af false [
 oX 142 (.bin .add 58 (kX 1)),
 oX 58 (.mv 142)]))))))))
 (.seq
 (.af false [
 oX 143 (.load true 5 8),
 uX (.store 5 6 143)])
 .ret))))))
def Rn:List bG:=[.cell 6 5 true]
theorem alJ (NN:Nat) (x:aV (au.aU Hq)):ez NN [q8,yp] T2 Rn Hq S4 x=Gm NN x:=by kernel_rfl
theorem aiT:cG pX 33 T2.er Rn 3=true:=by decide+kernel
theorem amH:dL pX 33 NJ.M/\bM pX 33=true:=
  eO (T:=[q8,yp]) (sc:=T2) (ms:=Rn) (args:=Hq) (aE:=S4) (aD.cons E0<|aD.cons RH<|aD.nil) cW aiT xM fun x y h=>(alJ aB x).trans (afh x y h)
def NA:aI:=⟨80,Hd,akC,SQ,pn⟩
def TR:bF:=
 (.seq
 (.af false [
 oX 4 (.box 3 1),
 oX 5 (.box 3 2),
 oX 6 (.alloc [zX,zX,.nil iX])])
 (.seq
 (.af false [
 oX 12 (.aq 0 4),
 oX 13 (.load false 1 12),
 oX 14 (.aq 1 5),
 oX 15 (.load false 1 14),
 oX 16 (.call .ab 61 [13,15]),
 oX 7 (.alloc [zX,zX,.nil iX]),
 uX (.store 3 7 16)])
 (.seq
 (.seq
 (.af false [
 oX 8 (.mv (kX 0))])
 (.join ⟨[(7,.one (rX 7)),(6,.one (rX 6))],[(6,.box [vX,vX,fX 500012 1]),(7,.box [vX,vX,fX 500013 1]),(500012,.row true .ab iX),(500013,.row true .ab iX)]⟩ [4,5,6,7,500000,500001,500012,500013] [(true,6,2,500012,.ab,[]),(true,7,2,500013,.ab,[])]
 (.block 0
 (.loop 0 ⟨[(0,sX),(4,.one (rX 4)),(5,.one (rX 5)),(6,.one (rX 6)),(7,.one (rX 7)),(8,sX)],[(4,.box [vX,vX,.c (.v (lX))]),(5,.box [vX,vX,.c (.v (lX))]),(6,.box [vX,vX,fX 500000 1]),(7,.box [vX,vX,fX 500001 1]),(500000,.row true .ab iX),(500001,.row true .ab iX)]⟩ [4,5,6,17000,7,500000,500001,500010,500011] [(true,6,2,500000,.ab,[]),(true,7,2,500001,.ab,[])]
 (.seq
 (.seq
 (.af false [
 oX 17 (.mv 8),
 oX 18 (.aq 0 4),
 oX 19 (.load false 1 18),
 oX 20 (.bin .lss 17 19)])
 (.cond 20
 .skip
 (.exit 0)))
 (.seq
 (.join ⟨[(8,sX),(0,sX),(4,.one (rX 4)),(5,.one (rX 5)),(6,.one (rX 6)),(7,.one (rX 7))],[(4,.box [vX,vX,.c (.v (lX))]),(5,.box [vX,vX,.c (.v (lX))]),(6,.box [vX,vX,fX 500010 1]),(7,.box [vX,vX,fX 500011 1]),(500010,.row true .ab iX),(500011,.row true .ab iX)]⟩ [4,5,6,7,500002,500003,500010,500011] [(true,6,2,500010,.ab,[]),(true,7,2,500011,.ab,[])]
 (.block 1
 (.seq
 (.af false [
 oX 9 (.mv (kX 0))])
 (.block 2
 (.loop 0 ⟨[(0,sX),(4,.one (rX 4)),(5,.one (rX 5)),(6,.one (rX 6)),(7,.one (rX 7)),(8,sX),(9,sX)],[(4,.box [vX,vX,.c (.v (lX))]),(5,.box [vX,vX,.c (.v (lX))]),(6,.box [vX,vX,fX 500002 1]),(7,.box [vX,vX,fX 500003 1]),(500002,.row true .ab iX),(500003,.row true .ab iX)]⟩ [4,5,6,7,500000,500001,500002,500003,500008,500009] [(true,6,2,500002,.ab,[]),(true,7,2,500003,.ab,[])]
 (.seq
 (.seq
 (.af false [
 oX 23 (.mv 9),
 oX 24 (.aq 1 5),
 oX 25 (.load false 1 24),
 oX 26 (.bin .lss 23 25)])
 (.cond 26
 .skip
 (.exit 2)))
 (.seq
 (.join ⟨[(9,sX),(0,sX),(4,.one (rX 4)),(5,.one (rX 5)),(6,.one (rX 6)),(7,.one (rX 7)),(8,sX)],[(4,.box [vX,vX,.c (.v (lX))]),(5,.box [vX,vX,.c (.v (lX))]),(6,.box [vX,vX,fX 500008 1]),(7,.box [vX,vX,fX 500009 1]),(500008,.row true .ab iX),(500009,.row true .ab iX)]⟩ [4,5,6,7,500006,500007,500008,500009] [(true,6,2,500008,.ab,[]),(true,7,2,500009,.ab,[])]
 (.block 3
 (.seq
 (.af false [
 oX 10 (.mv (kX 0))])
 (.seq
 (.seq
 (.af false [
 oX 11 (.mv (kX 0))])
 (.join ⟨[(10,sX),(9,sX),(0,sX),(4,.one (rX 4)),(5,.one (rX 5)),(6,.one (rX 6)),(7,.one (rX 7)),(8,sX)],[(4,.box [vX,vX,.c (.v (lX))]),(5,.box [vX,vX,.c (.v (lX))]),(6,.box [vX,vX,fX 500006 1]),(7,.box [vX,vX,fX 500007 1]),(500006,.row true .ab iX),(500007,.row true .ab iX)]⟩ [4,5,6,7,500004,500005,500006,500007] [(true,6,2,500006,.ab,[]),(true,7,2,500007,.ab,[])]
 (.block 4
 (.loop 0 ⟨[(0,sX),(4,.one (rX 4)),(5,.one (rX 5)),(6,.one (rX 6)),(7,.one (rX 7)),(8,sX),(9,sX),(10,sX),(11,sX)],[(4,.box [vX,vX,.c (.v (lX))]),(5,.box [vX,vX,.c (.v (lX))]),(6,.box [vX,vX,fX 500004 1]),(7,.box [vX,vX,fX 500005 1]),(500004,.row true .ab iX),(500005,.row true .ab iX)]⟩ [4,5,6,7,500002,500003,500004,500005] [(true,6,2,500004,.ab,[]),(true,7,2,500005,.ab,[])]
 (.seq
 (.seq
 (.af false [
 oX 29 (.mv 11),
 oX 30 (.aq 1 4),
 oX 31 (.load false 1 30),
 oX 32 (.bin .lss 29 31)])
 (.cond 32
 .skip
 (.exit 4)))
 (.seq
 (.block 5
 (.af true [
 oX 35 (.mv 10),
 oX 36 (.aq 2 4),
 oX 37 (.load false 1 36),
 oX 38 (.mv 8),
 oX 39 (.aq 1 4),
 oX 40 (.load false 1 39),
 oX 41 (.bin .mul 38 40),
 oX 42 (.mv 11),
 oX 43 (.bin .add 41 42),
 oX 44 (.bY 1 37 43),
 oX 45 (.load false 1 44),
 oX 46 (.aq 2 5),
 oX 47 (.load false 1 46),
 oX 48 (.mv 11),
 oX 49 (.aq 1 5),
 oX 50 (.load false 1 49),
 oX 51 (.bin .mul 48 50),
 oX 52 (.mv 9),
 oX 53 (.bin .add 51 52),
 oX 54 (.bY 1 47 53),
 oX 55 (.load false 1 54),
 oX 56 (.bin .mul 45 55),
 oX 57 (.bin .add 35 56),
 oX 58 (.mv 0),
 oX 59 (.bin .rem 57 58),
 oX 10 (.mv 59)]))
 (.af false [
 oX 33 (.mv 11),
 oX 34 (.bin .add 33 (kX 1)),
 oX 11 (.mv 34)])))))))
 (.af false [
 oX 60 (.aq 2 7),
 oX 61 (.load false 1 60),
 oX 62 (.mv 8),
 oX 63 (.aq 1 5),
 oX 64 (.load false 1 63),
 oX 65 (.bin .mul 62 64),
 oX 66 (.mv 9),
 oX 67 (.bin .add 65 66),
 oX 68 (.mv 10),
 oX 69 (.bY 1 61 67),
 uX (.store 1 69 68)])))))
 (.af false [
 oX 27 (.mv 9),
 oX 28 (.bin .add 27 (kX 1)),
 oX 9 (.mv 28)]))))))))
 (.af false [
 oX 21 (.mv 8),
 oX 22 (.bin .add 21 (kX 1)),
 oX 8 (.mv 22)])))))))
 (.seq
 (.af false [
 oX 70 (.load true 3 7),
 uX (.store 3 6 70)])
 .ret))))
def Rc:List bG:=[.cell 6 3 true]
theorem aly (NN:Nat) (x:aV (au.aU Hd)):ez NN [yp] TR Rc Hd SQ x=Gd NN x:=by kernel_rfl
theorem aiI:cG pX 80 TR.er Rc 3=true:=by decide+kernel
theorem amy:dL pX 80 NA.M/\bM pX 80=true:=
  eO (T:=[yp]) (sc:=TR) (ms:=Rc) (args:=Hd) (aE:=SQ) (aD.cons RH<|aD.nil) cW aiI pn fun x y h=>(aly aB x).trans (ae7 x y h)
def NK:aI:=⟨63,Hr,akN,S5,xN⟩
def T3:bF:=
 (.seq
 (.af false [
 oX 5 (.box 3 2),
 oX 6 (.mv (.k (.one (.nil iX))))])
 (.seq
 (.af false [
 oX 7 (.mv 0),
 oX 8 (.aq 0 5),
 oX 9 (.load false 1 8),
 oX 10 (.mv 1),
 oX 11 (.build [zX,zX,.nil iX] [(0,1,(kX 1)),(1,1,9),(2,1,10)]),
 oX 12 (.load true 3 5),
 oX 13 (.call .ab 80 [7,11,12]),
 oX 14 (.lp false 2 1 13),
 oX 6 (.mv 14)])
 .ret))
def Ro:List bG:=[.tmp 6]
theorem alK (NN:Nat) (x:aV (au.aU Hr)):ez NN [NA] T3 Ro Hr S5 x=LV NN x:=by kernel_rfl
theorem aiU:cG pX 63 T3.er Ro 3=true:=by decide+kernel
theorem amI:dL pX 63 NK.M/\bM pX 63=true:=
  eO (T:=[NA]) (sc:=T3) (ms:=Ro) (args:=Hr) (aE:=S5) (aD.cons amy<|aD.nil) cW aiU xN fun x y h=>(alK aB x).trans (afi x y h)
def DA:aI:=⟨36,Ho,akK,S2,oC⟩
def T0:bF:=
 (.seq
 (.af false [
 oX 2 (.box 5 0),
 oX 4 (.mv (.k (.one (.nil iX))))])
 (.seq
 (.af false [
 oX 8 (.aq 2 2),
 oX 9 (.load false 1 8),
 oX 10 (.call .ab 37 [9]),
 oX 5 (.mv 10)])
 (.seq
 (.seq
 (.af false [
 oX 11 (.mv 1),
 oX 12 (.len 11),
 oX 13 (.mv (kX 0))])
 (.join ⟨[(5,.one (fX 500001 1))],[(500001,.row true .ab iX)]⟩ [2,500000,500001] [(false,5,0,500001,.ab,[])]
 (.block 0
 (.loop 0 ⟨[(2,.one (rX 2)),(5,.one (fX 500000 1)),(11,.one (.c (.v (lX)))),(12,sX),(13,sX)],[(2,.box [vX,vX,.c (.v (lX)),.c (.v (.list mX)),.c (.v (lX))]),(500000,.row true .ab iX)]⟩ [2,11000,26000,500000] [(false,5,0,500000,.ab,[])]
 (.seq
 (.af false [
 oX 14 (.bin .lss 13 12)])
 (.seq
 (.cond 14
 .skip
 (.exit 0))
 (.seq
 (.block 1
 (.seq
 (.af false [
 oX 15 (.bY 1 11 13),
 oX 16 (.load false 1 15),
 oX 7 (.mv 16)])
 (.af true [
 oX 17 (.aq 0 2),
 oX 18 (.load false 1 17),
 oX 19 (.mv 5),
 oX 20 (.aq 3 2),
 oX 21 (.load false 1 20),
 oX 22 (.mv 7),
 oX 23 (.bY 3 21 22),
 oX 24 (.load true 3 23),
 oX 25 (.call .ab 63 [18,19,24]),
 oX 5 (.mv 25)])))
 (.af false [
 oX 26 (.bin .add 13 (kX 1)),
 oX 13 (.mv 26)]))))))))
 (.seq
 (.af false [
 oX 27 (.mv 5),
 oX 4 (.mv 27)])
 .ret))))
def Rl:List bG:=[.tmp 4]
theorem alH (NN:Nat) (x:aV (au.aU Ho)):ez NN [q8,NK] T0 Rl Ho S2 x=Gl NN x:=by kernel_rfl
theorem aiR:cG pX 36 T0.er Rl 2=true:=by decide+kernel
theorem aaI:dL pX 36 DA.M/\bM pX 36=true:=
  eO (T:=[q8,NK]) (sc:=T0) (ms:=Rl) (args:=Ho) (aE:=S2) (aD.cons E0<|aD.cons amI<|aD.nil) cW aiR oC fun x y h=>(alH aB x).trans (aff x y h)
def NB:aI:=⟨86,Hf,akE,SS,xJ⟩
def TT:bF:=
 (.seq
 (.af false [
 oX 3 (.box 3 0),
 oX 6 (.mv (kX 0))])
 (.seq
 (.seq
 (.af false [
 oX 8 (.mv 1),
 oX 7 (.mv 8)])
 (.join ⟨[],[]⟩ [3] []
 (.block 0
 (.loop 0 ⟨[(2,sX),(3,.one (rX 3)),(7,sX)],[(3,.box [vX,vX,.c (.v (lX))])]⟩ [3] []
 (.seq
 (.seq
 (.af false [
 oX 9 (.mv 7),
 oX 10 (.aq 0 3),
 oX 11 (.load false 1 10),
 oX 12 (.bin .lss 9 11)])
 (.cond 12
 .skip
 (.exit 0)))
 (.seq
 (.block 1
 (.seq
 (.af false [
 oX 15 (.aq 2 3),
 oX 16 (.load false 1 15),
 oX 17 (.mv 7),
 oX 18 (.aq 1 3),
 oX 19 (.load false 1 18),
 oX 20 (.bin .mul 17 19),
 oX 21 (.mv 2),
 oX 22 (.bin .add 20 21),
 oX 23 (.bY 1 16 22),
 oX 24 (.load false 1 23),
 oX 25 (.bin .neq 24 (kX 0))])
 (.cond 25
 (.seq
 (.af false [
 oX 26 (.mv 7),
 oX 6 (.mv 26)])
 .ret)
 .skip)))
 (.af false [
 oX 13 (.mv 7),
 oX 14 (.bin .add 13 (kX 1)),
 oX 7 (.mv 14)])))))))
 (.seq
 (.af false [
 oX 6 (.mv (kX (-1)))])
 .ret)))
def Re:List bG:=[.tmp 6]
theorem alA (NN:Nat) (x:aV (au.aU Hf)):ez NN [] TT Re Hf SS x=Gf NN x:=by kernel_rfl
theorem aiK:cG pX 86 TT.er Re 3=true:=by decide+kernel
theorem amz:dL pX 86 NB.M/\bM pX 86=true:=
  eO (T:=[]) (sc:=TT) (ms:=Re) (args:=Hf) (aE:=SS) (aD.nil) cW aiK xJ fun x y h=>(alA aB x).trans (ae8 x y h)
def ND:aI:=⟨87,Hi,Kh,SW,rY⟩
def TV:bF:=
 (.seq
 (.af false [
 oX 3 (.box 3 0)])
 (.seq
 (.af false [
 oX 6 (.mv (kX 0))])
 (.block 0
 (.loop 0 ⟨[(1,sX),(2,sX),(3,.one (rX 3)),(6,sX)],[(1000000,.row false .ab iX),(3,.box [vX,vX,fX 1000000 1])]⟩ [1000000,3,500000] [(true,3,2,500000,.ab,[])]
 (.seq
 (.seq
 (.af false [
 oX 8 (.mv 6),
 oX 9 (.aq 1 3),
 oX 10 (.load false 1 9),
 oX 11 (.bin .lss 8 10)])
 (.cond 11
 .skip
 (.exit 0)))
 (.seq
 (.block 1
 (.seq
 (.af false [
 oX 14 (.aq 2 3),
 oX 15 (.load false 1 14),
 oX 16 (.mv 1),
 oX 17 (.aq 1 3),
 oX 18 (.load false 1 17),
 oX 19 (.bin .mul 16 18),
 oX 20 (.mv 6),
 oX 21 (.bin .add 19 20),
 oX 22 (.bY 1 15 21),
 oX 23 (.load false 1 22),
 oX 7 (.mv 23)])
 (.seq
 (.af true [
 oX 24 (.aq 2 3),
 oX 25 (.load false 1 24),
 oX 26 (.mv 1),
 oX 27 (.aq 1 3),
 oX 28 (.load false 1 27),
 oX 29 (.bin .mul 26 28),
 oX 30 (.mv 6),
 oX 31 (.bin .add 29 30),
 oX 32 (.aq 2 3),
 oX 33 (.load false 1 32),
 oX 34 (.mv 2),
 oX 35 (.aq 1 3),
 oX 36 (.load false 1 35),
 oX 37 (.bin .mul 34 36),
 oX 38 (.mv 6),
 oX 39 (.bin .add 37 38),
 oX 40 (.bY 1 33 39),
 oX 41 (.load false 1 40),
 oX 42 (.bY 1 25 31),
 uX (.store 1 42 41)])
 (.af false [
 oX 43 (.aq 2 3),
 oX 44 (.load false 1 43),
 oX 45 (.mv 2),
 oX 46 (.aq 1 3),
 oX 47 (.load false 1 46),
 oX 48 (.bin .mul 45 47),
 oX 49 (.mv 6),
 oX 50 (.bin .add 48 49),
 oX 51 (.mv 7),
 oX 52 (.bY 1 44 50),
 uX (.store 1 52 51)]))))
 (.af false [
 oX 12 (.mv 6),
 oX 13 (.bin .add 12 (kX 1)),
 oX 6 (.mv 13)])))))))
def Rg:List bG:=[]
theorem alC (NN:Nat) (x:aV (au.aU Hi)):zl NN [] TV Rg Hi Kh SW x=Gi NN x:=by kernel_rfl
theorem aiM:cG pX 87 TV.er Rg 3=true:=by decide+kernel
theorem amB:r5 pX 87 Kh ND.MM/\bM pX 87=true:=
  EO (T:=[]) (sc:=TV) (ms:=Rg) (args:=Hi) (mu:=Kh) (aE:=SW) (aD.nil) cW aiM rY fun x y h=>(alC aB x).trans (afa x y h)
def Nz:aI:=⟨88,Hc,akB,SP,vE⟩
def TQ:bF:=
 (.seq
 (.af false [
 oX 4 (.mv (kX 0))])
 (.seq
 (.af false [
 oX 5 (.mv (kX 1))])
 (.seq
 (.seq
 (.af false [
 oX 7 (.mv 0),
 oX 8 (.bin .sub 7 (kX 2)),
 oX 6 (.mv 8)])
 (.join ⟨[(5,sX)],[]⟩ [] []
 (.block 0
 (.loop 0 ⟨[(0,sX),(1,sX),(5,sX),(6,sX)],[]⟩ [] []
 (.seq
 (.seq
 (.af false [
 oX 9 (.mv 6),
 oX 10 (.bin .gtr 9 (kX 0))])
 (.cond 10
 .skip
 (.exit 0)))
 (.seq
 (.block 1
 (.seq
 (.seq
 (.af false [
 oX 13 (.mv 6),
 oX 14 (.bin .rem 13 (kX 2)),
 oX 15 (.bin .eql 14 (kX 1))])
 (.join ⟨[(1,sX),(6,sX),(0,sX),(5,sX)],[]⟩ [] []
 (.cond 15
 (.af false [
 oX 16 (.mv 5),
 oX 17 (.mv 1),
 oX 18 (.bin .mul 16 17),
 oX 19 (.mv 0),
 oX 20 (.bin .rem 18 19),
 oX 5 (.mv 20)])
 .skip)))
 (.af false [
 oX 21 (.mv 1),
 oX 22 (.mv 1),
 oX 23 (.bin .mul 21 22),
 oX 24 (.mv 0),
 oX 25 (.bin .rem 23 24),
 oX 1 (.mv 25)])))
 (.af false [
 oX 11 (.mv 6),
 oX 12 (.bin .quo 11 (kX 2)),
 oX 6 (.mv 12)])))))))
 (.seq
 (.af false [
 oX 26 (.mv 5),
 oX 4 (.mv 26)])
 .ret))))
def Rb:List bG:=[.tmp 4]
theorem alx (NN:Nat) (x:aV (au.aU Hc)):ez NN [] TQ Rb Hc SP x=LQ NN x:=by kernel_rfl
theorem aiH:cG pX 88 TQ.er Rb 2=true:=by decide+kernel
theorem amx:dL pX 88 Nz.M/\bM pX 88=true:=
  eO (T:=[]) (sc:=TQ) (ms:=Rb) (args:=Hc) (aE:=SP) (aD.nil) cW aiH vE fun x y h=>(alx aB x).trans (ae6 x y h)
def Nw:aI:=⟨89,G9,Kg,SN,xI⟩
def TO:bF:=
 (.seq
 (.af false [
 oX 6 (.box 3 1)])
 (.seq
 (.af false [
 oX 10 (.mv (kX 0))])
 (.block 0
 (.loop 0 ⟨[(0,sX),(2,sX),(3,sX),(4,sX),(6,.one (rX 6)),(10,sX)],[(1000000,.row false .ab iX),(6,.box [vX,vX,fX 1000000 1])]⟩ [1000000,6,500000] [(true,6,2,500000,.ab,[])]
 (.seq
 (.seq
 (.af false [
 oX 11 (.mv 10),
 oX 12 (.aq 1 6),
 oX 13 (.load false 1 12),
 oX 14 (.bin .lss 11 13)])
 (.cond 14
 .skip
 (.exit 0)))
 (.seq
 (.block 1
 (.af true [
 oX 17 (.aq 2 6),
 oX 18 (.load false 1 17),
 oX 19 (.mv 2),
 oX 20 (.aq 1 6),
 oX 21 (.load false 1 20),
 oX 22 (.bin .mul 19 21),
 oX 23 (.mv 10),
 oX 24 (.bin .add 22 23),
 oX 25 (.aq 2 6),
 oX 26 (.load false 1 25),
 oX 27 (.mv 2),
 oX 28 (.aq 1 6),
 oX 29 (.load false 1 28),
 oX 30 (.bin .mul 27 29),
 oX 31 (.mv 10),
 oX 32 (.bin .add 30 31),
 oX 33 (.bY 1 26 32),
 oX 34 (.load false 1 33),
 oX 35 (.mv 0),
 oX 36 (.mv 4),
 oX 37 (.bin .sub 35 36),
 oX 38 (.aq 2 6),
 oX 39 (.load false 1 38),
 oX 40 (.mv 3),
 oX 41 (.aq 1 6),
 oX 42 (.load false 1 41),
 oX 43 (.bin .mul 40 42),
 oX 44 (.mv 10),
 oX 45 (.bin .add 43 44),
 oX 46 (.bY 1 39 45),
 oX 47 (.load false 1 46),
 oX 48 (.bin .mul 37 47),
 oX 49 (.bin .add 34 48),
 oX 50 (.mv 0),
 oX 51 (.bin .rem 49 50),
 oX 52 (.bY 1 18 24),
 uX (.store 1 52 51)]))
 (.af false [
 oX 15 (.mv 10),
 oX 16 (.bin .add 15 (kX 1)),
 oX 10 (.mv 16)])))))))
def Q9:List bG:=[]
theorem alv (NN:Nat) (x:aV (au.aU G9)):zl NN [] TO Q9 G9 Kg SN x=Gb NN x:=by kernel_rfl
theorem aiF:cG pX 89 TO.er Q9 5=true:=by decide+kernel
theorem amv:r5 pX 89 Kg Nw.MM/\bM pX 89=true:=
  EO (T:=[]) (sc:=TO) (ms:=Q9) (args:=G9) (mu:=Kg) (aE:=SN) (aD.nil) cW aiF xI fun x y h=>(alv aB x).trans (ae4 x y h)
def NC:aI:=⟨62,Hh,akF,SU,zR⟩
def TU:bF:=
 (.seq
 (.af false [
 oX 3 (.box 3 1),
 oX 4 (.alloc [zX,zX,.nil iX]),
 oX 5 (.mv (.k (.one (.nil iX)))),
 oX 6 (.mv (kX 0))])
 (.seq
 (.af true [
 oX 17 (.aq 0 3),
 oX 18 (.load false 1 17),
 oX 19 (.aq 1 3),
 oX 20 (.load false 1 19),
 oX 21 (.aq 2 3),
 oX 22 (.load false 1 21),
 oX 23 (.call .ab 37 [22]),
 oX 24 (.build [zX,zX,.nil iX] [(0,1,18),(1,1,20),(2,1,23)]),
 oX 7 (.alloc [zX,zX,.nil iX]),
 uX (.store 3 7 24)])
 (.seq
 (.af false [
 oX 25 (.dM iX []),
 oX 8 (.mv 25)])
 (.seq
 (.af false [
 oX 9 (.mv (kX 1))])
 (.seq
 (.seq
 (.af false [
 oX 10 (.mv (kX 0))])
 (.join ⟨[(7,.one (rX 7)),(8,.one (fX 500023 1)),(9,sX),(4,.one (rX 4))],[(4,.box [vX,vX,fX 500021 1]),(7,.box [vX,vX,fX 500022 1]),(500021,.row true .ab iX),(500022,.row true .ab iX),(500023,.row true .ab iX)]⟩ [3,4,7,500000,500001,500002,500021,500022,500023] [(true,4,2,500021,.ab,[]),(true,7,2,500022,.ab,[]),(false,8,0,500023,.ab,[])]
 (.block 0
 (.loop 0 ⟨[(0,sX),(3,.one (rX 3)),(4,.one (rX 4)),(7,.one (rX 7)),(8,.one (fX 500002 1)),(9,sX),(10,sX)],[(3,.box [vX,vX,.c (.v (lX))]),(4,.box [vX,vX,fX 500000 1]),(7,.box [vX,vX,fX 500001 1]),(500000,.row true .ab iX),(500001,.row true .ab iX),(500002,.row true .ab iX)]⟩ [3,4,24000,7,25,500000,500001,500002,500018,500019,500020] [(true,4,2,500000,.ab,[]),(true,7,2,500001,.ab,[]),(false,8,0,500002,.ab,[])]
 (.seq
 (.seq
 (.af false [
 oX 26 (.mv 10),
 oX 27 (.aq 1 3),
 oX 28 (.load false 1 27),
 oX 29 (.bin .lss 26 28),
 oX 30 (.mv 29),
 ⟨(some 31),.mv 8,(some (30,true))⟩,
 ⟨(some 32),.len 31,(some (30,true))⟩,
 ⟨(some 33),.aq 0 3,(some (30,true))⟩,
 ⟨(some 34),.load false 1 33,(some (30,true))⟩,
 ⟨(some 35),.bin .lss 32 34,(some (30,true))⟩,
 oX 36 (.pick 30 35 (.k (.one (.v (.bool) (false)))))])
 (.cond 36
 .skip
 (.exit 0)))
 (.seq
 (.join ⟨[(10,sX),(0,sX),(3,.one (rX 3)),(4,.one (rX 4)),(7,.one (rX 7)),(8,.one (fX 500020 1)),(9,sX)],[(3,.box [vX,vX,.c (.v (lX))]),(4,.box [vX,vX,fX 500018 1]),(7,.box [vX,vX,fX 500019 1]),(500018,.row true .ab iX),(500019,.row true .ab iX),(500020,.row true .ab iX)]⟩ [3,4,7,132,133,500000,500001,500002,500015,500016,500018,500019,500020] [(true,4,2,500018,.ab,[]),(true,7,2,500019,.ab,[]),(false,8,0,500020,.ab,[])]
 (.block 1
 (.seq
 (.af false [
 oX 39 (.mv 8),
 oX 40 (.len 39),
 oX 11 (.mv 40)])
 (.seq
 (.af false [
 oX 41 (.load true 3 7),
 oX 42 (.mv 11),
 oX 43 (.mv 10),
 oX 44 (.call .ab 86 [41,42,43]),
 oX 12 (.mv 44)])
 (.seq
 (.seq
 (.af false [
 oX 45 (.mv 12),
 oX 46 (.bin .lss 45 (kX 0))])
 (.cond 46
 (.exit 1)
 .skip))
 (.seq
 (.seq
 (.af false [
 oX 47 (.mv 12),
 oX 48 (.mv 11),
 oX 49 (.bin .neq 47 48)])
 (.join ⟨[(9,sX),(11,sX),(8,.one (fX 500005 1)),(10,sX),(0,sX),(3,.one (rX 3)),(4,.one (rX 4)),(7,.one (rX 7))],[(3,.box [vX,vX,.c (.v (lX))]),(4,.box [vX,vX,fX 500003 1]),(7,.box [vX,vX,fX 500004 1]),(500003,.row true .ab iX),(500004,.row true .ab iX),(500005,.row true .ab iX)]⟩ [3,4,7,500000,500001,500002,500003,500004,500005] [(true,4,2,500003,.ab,[]),(true,7,2,500004,.ab,[]),(false,8,0,500005,.ab,[])]
 (.cond 49
 (.seq
 (.af false [
 oX 50 (.load true 3 7),
 oX 51 (.mv 11),
 oX 52 (.mv 12),
 oX 53 (.gI .ab 87 [50,51,52])])
 (.af false [
 oX 54 (.mv 0),
 oX 55 (.mv 9),
 oX 56 (.bin .sub 54 55),
 oX 57 (.mv 0),
 oX 58 (.bin .rem 56 57),
 oX 9 (.mv 58)]))
 .skip)))
 (.seq
 (.af false [
 oX 59 (.aq 2 7),
 oX 60 (.load false 1 59),
 oX 61 (.mv 11),
 oX 62 (.aq 1 3),
 oX 63 (.load false 1 62),
 oX 64 (.bin .mul 61 63),
 oX 65 (.mv 10),
 oX 66 (.bin .add 64 65),
 oX 67 (.bY 1 60 66),
 oX 68 (.load false 1 67),
 oX 13 (.mv 68)])
 (.seq
 (.af false [
 oX 69 (.mv 9),
 oX 70 (.mv 13),
 oX 71 (.bin .mul 69 70),
 oX 72 (.mv 0),
 oX 73 (.bin .rem 71 72),
 oX 9 (.mv 73)])
 (.seq
 (.af false [
 oX 74 (.mv 0),
 oX 75 (.mv 13),
 oX 76 (.call .ab 88 [74,75]),
 oX 14 (.mv 76)])
 (.seq
 (.seq
 (.af false [
 oX 15 (.mv (kX 0))])
 (.join ⟨[(9,sX),(7,.one (rX 7)),(4,.one (rX 4)),(3,.one (rX 3)),(0,sX),(10,sX),(8,.one (fX 500011 1)),(11,sX)],[(3,.box [vX,vX,.c (.v (lX))]),(4,.box [vX,vX,fX 500009 1]),(7,.box [vX,vX,fX 500010 1]),(500009,.row true .ab iX),(500010,.row true .ab iX),(500011,.row true .ab iX)]⟩ [3,4,7,500006,500007,500008,500009,500010,500011] [(true,4,2,500009,.ab,[]),(true,7,2,500010,.ab,[]),(false,8,0,500011,.ab,[])]
 (.block 2
 (.loop 0 ⟨[(0,sX),(3,.one (rX 3)),(4,.one (rX 4)),(7,.one (rX 7)),(8,.one (fX 500008 1)),(9,sX),(10,sX),(11,sX),(14,sX),(15,sX)],[(3,.box [vX,vX,.c (.v (lX))]),(4,.box [vX,vX,fX 500006 1]),(7,.box [vX,vX,fX 500007 1]),(500006,.row true .ab iX),(500007,.row true .ab iX),(500008,.row true .ab iX)]⟩ [3,4,7,500003,500004,500005,500006,500007,500008] [(true,4,2,500006,.ab,[]),(true,7,2,500007,.ab,[]),(false,8,0,500008,.ab,[])]
 (.seq
 (.seq
 (.af false [
 oX 77 (.mv 15),
 oX 78 (.aq 1 3),
 oX 79 (.load false 1 78),
 oX 80 (.bin .lss 77 79)])
 (.cond 80
 .skip
 (.exit 2)))
 (.seq
 (.block 3
 (.af true [
 oX 83 (.aq 2 7),
 oX 84 (.load false 1 83),
 oX 85 (.mv 11),
 oX 86 (.aq 1 3),
 oX 87 (.load false 1 86),
 oX 88 (.bin .mul 85 87),
 oX 89 (.mv 15),
 oX 90 (.bin .add 88 89),
 oX 91 (.aq 2 7),
 oX 92 (.load false 1 91),
 oX 93 (.mv 11),
 oX 94 (.aq 1 3),
 oX 95 (.load false 1 94),
 oX 96 (.bin .mul 93 95),
 oX 97 (.mv 15),
 oX 98 (.bin .add 96 97),
 oX 99 (.bY 1 92 98),
 oX 100 (.load false 1 99),
 oX 101 (.mv 14),
 oX 102 (.bin .mul 100 101),
 oX 103 (.mv 0),
 oX 104 (.bin .rem 102 103),
 oX 105 (.bY 1 84 90),
 uX (.store 1 105 104)]))
 (.af false [
 oX 81 (.mv 15),
 oX 82 (.bin .add 81 (kX 1)),
 oX 15 (.mv 82)])))))))
 (.seq
 (.seq
 (.af false [
 oX 16 (.mv (kX 0))])
 (.join ⟨[(8,.one (fX 500017 1)),(10,sX),(0,sX),(3,.one (rX 3)),(4,.one (rX 4)),(7,.one (rX 7)),(9,sX)],[(3,.box [vX,vX,.c (.v (lX))]),(4,.box [vX,vX,fX 500015 1]),(7,.box [vX,vX,fX 500016 1]),(500015,.row true .ab iX),(500016,.row true .ab iX),(500017,.row true .ab iX)]⟩ [3,4,7,500012,500013,500014,500015,500016,500017] [(true,4,2,500015,.ab,[]),(true,7,2,500016,.ab,[]),(false,8,0,500017,.ab,[])]
 (.block 4
 (.loop 0 ⟨[(0,sX),(3,.one (rX 3)),(4,.one (rX 4)),(7,.one (rX 7)),(8,.one (fX 500014 1)),(9,sX),(10,sX),(11,sX),(16,sX)],[(3,.box [vX,vX,.c (.v (lX))]),(4,.box [vX,vX,fX 500012 1]),(7,.box [vX,vX,fX 500013 1]),(500012,.row true .ab iX),(500013,.row true .ab iX),(500014,.row true .ab iX)]⟩ [3,4,7,500009,500010,500011,500012,500013,500014] [(true,4,2,500012,.ab,[]),(true,7,2,500013,.ab,[]),(false,8,0,500014,.ab,[])]
 (.seq
 (.seq
 (.af false [
 oX 106 (.mv 16),
 oX 107 (.aq 0 3),
 oX 108 (.load false 1 107),
 oX 109 (.bin .lss 106 108)])
 (.cond 109
 .skip
 (.exit 4)))
 (.seq
 (.block 5
 (.seq
 (.af false [
 oX 112 (.mv 16),
 oX 113 (.mv 11),
 oX 114 (.bin .neq 112 113)])
 (.cond 114
 (.af true [
 oX 115 (.mv 0),
 oX 116 (.load true 3 7),
 oX 117 (.mv 16),
 oX 118 (.mv 11),
 oX 119 (.aq 2 7),
 oX 120 (.load false 1 119),
 oX 121 (.mv 16),
 oX 122 (.aq 1 3),
 oX 123 (.load false 1 122),
 oX 124 (.bin .mul 121 123),
 oX 125 (.mv 10),
 oX 126 (.bin .add 124 125),
 oX 127 (.bY 1 120 126),
 oX 128 (.load false 1 127),
 oX 129 (.gI .ab 89 [115,116,117,118,128])])
 .skip)))
 (.af false [
 oX 110 (.mv 16),
 oX 111 (.bin .add 110 (kX 1)),
 oX 16 (.mv 111)])))))))
 (.af false [
 oX 130 (.mv 8),
 oX 131 (.mv 10),
 oX 132 (.dM iX [131]),
 oX 133 (.append true iX 8 130 132),
 oX 8 (.mv 133)]))))))))))))
 (.af false [
 oX 37 (.mv 10),
 oX 38 (.bin .add 37 (kX 1)),
 oX 10 (.mv 38)])))))))
 (.seq
 (.af false [
 oX 134 (.load true 3 7),
 oX 135 (.mv 8),
 oX 136 (.mv 9),
 uX (.store 3 4 134),
 oX 5 (.mv 135),
 oX 6 (.mv 136)])
 .ret))))))
def Rf:List bG:=[.cell 4 3 true,.tmp 5,.tmp 6]
theorem alB (NN:Nat) (x:aV (au.aU Hh)):ez NN [q8,NB,ND,Nz,Nw] TU Rf Hh SU x=Gg NN x:=by kernel_rfl
theorem aiL:cG pX 62 TU.er Rf 2=true:=by decide+kernel
theorem amA:dL pX 62 NC.M/\bM pX 62=true:=
  eO (T:=[q8,NB,ND,Nz,Nw]) (sc:=TU) (ms:=Rf) (args:=Hh) (aE:=SU) (aD.cons E0<|aD.cons amz<|aD.ud amB<|aD.cons amx<|aD.ud amv<|aD.nil) cW aiL zR fun x y h=>(alB aB x).trans (ae9 x y h)
def NF:aI:=⟨34,Hk,akH,SY,zS⟩
def TX:bF:=
 (.seq
 (.af false [
 oX 1 (.box 5 0),
 oX 2 (.mv (.k (.one (.nil [lX])))),
 oX 3 (.alloc [zX,zX,.nil iX])])
 (.seq
 (.af false [
 oX 16 (.dM [lX] []),
 oX 4 (.mv 16)])
 (.seq
 (.af false [
 oX 17 (.aq 1 1),
 oX 18 (.load false 1 17),
 oX 19 (.build [zX,zX,.nil iX] [(1,1,18)]),
 oX 5 (.alloc [zX,zX,.nil iX]),
 uX (.store 3 5 19)])
 (.seq
 (.af false [
 oX 20 (.dM iX []),
 oX 21 (.dM [lX] [20]),
 oX 6 (.mv 21)])
 (.seq
 (.join ⟨[(4,.one (fX 500025 1)),(5,.one (rX 5)),(3,.one (rX 3))],[(3,.box [vX,vX,fX 500023 1]),(5,.box [vX,vX,fX 500024 1]),(500023,.row true .ab iX),(500024,.row true .ab iX),(500025,.row true .aA [lX])]⟩ [1,3,5,500000,500001,500002,500003,500023,500024,500025] [(true,3,2,500023,.ab,[]),(true,5,2,500024,.ab,[]),(false,4,0,500025,.aA,[])]
 (.block 0
 (.loop 0 ⟨[(1,.one (rX 1)),(3,.one (rX 3)),(4,.one (fX 500002 1)),(5,.one (rX 5)),(6,.one (fX 500003 1))],[(1,.box [vX,vX,.c (.v (lX)),.c (.v (.list mX)),.c (.v (lX))]),(3,.box [vX,vX,fX 500000 1]),(5,.box [vX,vX,fX 500001 1]),(500000,.row true .ab iX),(500001,.row true .ab iX),(500002,.row true .aA [lX]),(500003,.row true .ab [lX])]⟩ [1,3,16,5,21,500000,500001,500002,500003,500019,500020,500021,500022] [(true,3,2,500000,.ab,[]),(true,5,2,500001,.ab,[]),(false,4,0,500002,.aA,[]),(false,6,0,500003,.ab,[])]
 (.seq
 (.seq
 (.af false [
 oX 22 (.mv 6),
 oX 23 (.len 22),
 oX 24 (.bin .gtr 23 (kX 0))])
 (.cond 24
 .skip
 (.exit 0)))
 (.block 1
 (.seq
 (.af false [
 oX 25 (.dM [lX] []),
 oX 7 (.mv 25)])
 (.seq
 (.seq
 (.af false [
 oX 26 (.mv 6),
 oX 27 (.len 26),
 oX 28 (.mv (kX 0))])
 (.join ⟨[(7,.one (fX 500021 1)),(1,.one (rX 1)),(3,.one (rX 3)),(4,.one (fX 500022 1)),(5,.one (rX 5))],[(1,.box [vX,vX,.c (.v (lX)),.c (.v (.list mX)),.c (.v (lX))]),(3,.box [vX,vX,fX 500019 1]),(5,.box [vX,vX,fX 500020 1]),(500019,.row true .ab iX),(500020,.row true .ab iX),(500021,.row true .ab [lX]),(500022,.row true .aA [lX])]⟩ [1,3,5,500004,500005,500006,500007,500008,500019,500020,500021,500022] [(true,3,2,500019,.ab,[]),(true,5,2,500020,.ab,[]),(false,7,0,500021,.ab,[]),(false,4,0,500022,.aA,[])]
 (.block 2
 (.loop 0 ⟨[(1,.one (rX 1)),(3,.one (rX 3)),(4,.one (fX 500006 1)),(5,.one (rX 5)),(7,.one (fX 500007 1)),(26,.one (fX 500008 1)),(27,sX),(28,sX)],[(1,.box [vX,vX,.c (.v (lX)),.c (.v (.list mX)),.c (.v (lX))]),(3,.box [vX,vX,fX 500004 1]),(5,.box [vX,vX,fX 500005 1]),(500004,.row true .ab iX),(500005,.row true .ab iX),(500006,.row true .aA [lX]),(500007,.row true .ab [lX]),(500008,.row true .ab [lX])]⟩ [1,3,5,25,500000,500001,500002,500003,500004,500005,500006,500007,500008,500014,500015,500016,500017,500018] [(true,3,2,500004,.ab,[]),(true,5,2,500005,.ab,[]),(false,4,0,500006,.aA,[]),(false,7,0,500007,.ab,[]),(false,26,0,500008,.ab,[])]
 (.seq
 (.af false [
 oX 29 (.bin .lss 28 27)])
 (.seq
 (.cond 29
 .skip
 (.exit 2))
 (.seq
 (.join ⟨[(28,sX),(1,.one (rX 1)),(3,.one (rX 3)),(4,.one (fX 500016 1)),(5,.one (rX 5)),(7,.one (fX 500017 1)),(26,.one (fX 500018 1)),(27,sX)],[(1,.box [vX,vX,.c (.v (lX)),.c (.v (.list mX)),.c (.v (lX))]),(3,.box [vX,vX,fX 500014 1]),(5,.box [vX,vX,fX 500015 1]),(500014,.row true .ab iX),(500015,.row true .ab iX),(500016,.row true .aA [lX]),(500017,.row true .ab [lX]),(500018,.row true .ab [lX])]⟩ [1,3,5,35000,44,11,51000,51001,12,500004,500005,500006,500007,500008,500009,500010,500011,500012,500013,500014,500015,500016,500017,500018] [(true,3,2,500014,.ab,[]),(true,5,2,500015,.ab,[]),(false,4,0,500016,.aA,[]),(false,7,0,500017,.ab,[]),(false,26,0,500018,.ab,[])]
 (.block 3
 (.seq
 (.af false [
 oX 30 (.bY 1 26 28),
 oX 31 (.load false 1 30),
 oX 9 (.mv 31)])
 (.seq
 (.af false [
 oX 32 (.load true 5 1),
 oX 33 (.mv 9),
 oX 34 (.call .ab 36 [32,33]),
 oX 10 (.mv 34)])
 (.seq
 (.od [(0,9),(1,9),(3,9),(4,9),(9,11)] [
 oX 35 (.aq 0 5),
 oX 36 (.load false 1 35),
 oX 37 (.bin .add 36 (kX 1)),
 oX 38 (.aq 1 1),
 oX 39 (.load false 1 38),
 oX 40 (.aq 2 5),
 oX 41 (.load false 1 40),
 oX 42 (.call .ab 37 [41]),
 oX 43 (.mv 10),
 oX 44 (.append true iX 8 42 43),
 oX 45 (.build [zX,zX,.nil iX] [(0,1,37),(1,1,39),(2,1,44)]),
 oX 11 (.alloc [zX,zX,.nil iX]),
 uX (.store 3 11 45)])
 (.seq
 (.af false [
 oX 47 (.aq 0 1),
 oX 48 (.load false 1 47),
 oX 49 (.load true 3 11),
 oX 50 (.call .ab 62 [48,49]),
 oX 46 (.mv 50),
 oX 51 (.ext 0 46),
 oX 52 (.ext 1 46),
 oX 53 (.ext 2 46),
 oX 12 (.alloc [zX,zX,.nil iX]),
 uX (.store 3 12 51),
 oX 13 (.mv 52),
 oX 14 (.mv 53)])
 (.seq
 (.seq
 (.af false [
 oX 54 (.mv 13),
 oX 55 (.len 54),
 oX 56 (.aq 0 5),
 oX 57 (.load false 1 56),
 oX 58 (.bin .leq 55 57)])
 (.cond 58
 (.exit 3)
 .skip))
 (.seq
 (.af false [
 oX 59 (.load true 3 11),
 uX (.store 3 5 59)])
 (.seq
 (.af false [
 oX 60 (.mv 4),
 oX 61 (.mv 9),
 oX 62 (.dM [lX] [61]),
 oX 63 (.append false [lX] 24 60 62),
 oX 4 (.mv 63)])
 (.seq
 (.af false [
 oX 64 (.aq 3 1),
 oX 65 (.load false 1 64),
 oX 66 (.len 65),
 oX 67 (.mv (kX 0))])
 (.block 4
 (.loop 0 ⟨[(1,.one (rX 1)),(3,.one (rX 3)),(4,.one (fX 500011 1)),(5,.one (rX 5)),(7,.one (fX 500012 1)),(9,.one (.c (.v (lX)))),(26,.one (fX 500013 1)),(27,sX),(28,sX),(66,sX),(67,sX)],[(1,.box [vX,vX,.c (.v (lX)),.c (.v (.list mX)),.c (.v (lX))]),(3,.box [vX,vX,fX 500009 1]),(5,.box [vX,vX,fX 500010 1]),(500009,.row true .ab iX),(500010,.row true .ab iX),(500011,.row true .aA [lX]),(500012,.row true .ab [lX]),(500013,.row true .ab [lX])]⟩ [1,3,5,35000,44,11,51000,51001,12,63,74,77,500004,500005,500007,500008,500009,500010,500011,500012,500013] [(true,3,2,500009,.ab,[]),(true,5,2,500010,.ab,[]),(false,4,0,500011,.aA,[]),(false,7,0,500012,.ab,[]),(false,26,0,500013,.ab,[])]
 (.seq
 (.af false [
 oX 68 (.bin .lss 67 66)])
 (.seq
 (.cond 68
 .skip
 (.exit 4))
 (.seq
 (.block 5
 (.seq
 (.af false [
 oX 69 (.mv 67),
 oX 15 (.mv 69)])
 (.af false [
 oX 70 (.mv 7),
 oX 71 (.mv 9),
 oX 72 (.call .ab 37 [71]),
 oX 73 (.mv 15),
 oX 74 (.dM iX [73]),
 oX 75 (.append true iX 8 72 74),
 oX 76 (.dM [lX] [75]),
 oX 77 (.append false [lX] 24 70 76),
 oX 7 (.mv 77)])))
 (.af false [
 oX 78 (.bin .add 67 (kX 1)),
 oX 67 (.mv 78)]))))))))))))))))
 (.af false [
 oX 79 (.bin .add 28 (kX 1)),
 oX 28 (.mv 79)]))))))))
 (.af false [
 oX 80 (.mv 7),
 oX 6 (.mv 80)]))))))))
 (.seq
 (.af true [
 oX 81 (.mv 4),
 oX 82 (.load true 3 5),
 oX 2 (.mv 81),
 uX (.store 3 3 82)])
 .ret))))))
def Ri:List bG:=[.tmp 2,.cell 3 3 true]
theorem alE (NN:Nat) (x:aV (au.aU Hk)):ot NN [DA,q8,NC] TX Ri Hk SY x=Gj NN x:=by kernel_rfl
theorem aiO:cG pX 34 TX.er Ri 1=true:=by decide+kernel
theorem amD:k8 Go.Proofs.Try.prog 34 NF.MV/\bM pX 34=true:=
  qJ (T:=[DA,q8,NC]) (sc:=TX) (ms:=Ri) (args:=Hk) (aE:=SY) (aD.cons aaI<|aD.cons E0<|aD.cons amA<|aD.nil) cW aiO zS fun x y h=>(alE aB x).trans (afc x y h)
def NG:aI:=⟨35,Hl,akI,SZ,xK⟩
def TY:bF:=
 (.seq
 (.af false [
 oX 6 (.mv (kX 0))])
 (.seq
 (.af false [
 oX 7 (.mv (kX 0))])
 (.seq
 (.seq
 (.af false [
 oX 10 (.mv 1),
 oX 11 (.len 10),
 oX 12 (.mv (kX 0))])
 (.join ⟨[(7,sX)],[]⟩ [] []
 (.block 0
 (.loop 0 ⟨[(0,sX),(2,.one (.c (.v (lX)))),(7,sX),(10,.one (.c (.v (lX)))),(11,sX),(12,sX)],[]⟩ [] []
 (.seq
 (.af false [
 oX 13 (.bin .lss 12 11)])
 (.seq
 (.cond 13
 .skip
 (.exit 0))
 (.seq
 (.block 1
 (.seq
 (.af false [
 oX 14 (.mv 12),
 oX 15 (.bY 1 10 12),
 oX 16 (.load false 1 15),
 oX 8 (.mv 14),
 oX 9 (.mv 16)])
 (.af false [
 oX 17 (.mv 7),
 oX 18 (.mv 9),
 oX 19 (.mv 2),
 oX 20 (.mv 8),
 oX 21 (.bY 1 19 20),
 oX 22 (.load false 1 21),
 oX 23 (.bin .mul 18 22),
 oX 24 (.bin .add 17 23),
 oX 25 (.mv 0),
 oX 26 (.bin .rem 24 25),
 oX 7 (.mv 26)])))
 (.af false [
 oX 27 (.bin .add 12 (kX 1)),
 oX 12 (.mv 27)]))))))))
 (.seq
 (.af false [
 oX 28 (.mv 7),
 oX 6 (.mv 28)])
 .ret))))
def Rj:List bG:=[.tmp 6]
theorem alF (NN:Nat) (x:aV (au.aU Hl)):ez NN [] TY Rj Hl SZ x=LS NN x:=by kernel_rfl
theorem aiP:cG pX 35 TY.er Rj 3=true:=by decide+kernel
theorem amE:dL pX 35 NG.M/\bM pX 35=true:=
  eO (T:=[]) (sc:=TY) (ms:=Rj) (args:=Hl) (aE:=SZ) (aD.nil) cW aiP xK fun x y h=>(alF aB x).trans (afd x y h)
def Nn:aI:=⟨9,GU,ako,Sz,tS⟩
def TB:bF:=
 (.seq
 (.af false [
 oX 2 (.box 5 0),
 oX 3 (.box 5 1),
 oX 4 (.mv (.k (.one (.nil iX)))),
 oX 5 (.mv (.k (.one (.v (.bool) (false)))))])
 (.seq
 (.seq
 (.af false [
 oX 11 (.load true 5 2),
 oX 12 (.load true 5 3),
 oX 13 (.call .ab 32 [11,12]),
 oX 14 (.un .not 13)])
 (.cond 14
 (.seq
 (.af false [
 oX 4 (.mv (.k (.one (.nil iX)))),
 oX 5 (.mv (.k (.one (.v (.bool) (false)))))])
 .ret)
 .skip))
 (.seq
 (.af false [
 oX 15 (.load true 5 2),
 oX 16 (.load true 5 3),
 oX 17 (.aq 0 2),
 oX 18 (.load false 1 17),
 oX 19 (.bin .sub 18 (kX 1)),
 oX 20 (.call .ab 33 [15,16,19]),
 oX 6 (.alloc [zX,zX,.nil iX,.nil mX,.nil iX]),
 uX (.store 5 6 20)])
 (.seq
 (.af false [
 oX 22 (.mw true 5 6),
 oX 23 (.dC 34 [22]),
 oX 21 (.mv 23),
 oX 24 (.ext 0 21),
 oX 25 (.ext 1 21),
 oX 8 (.alloc [zX,zX,.nil iX]),
 oX 7 (.mv 24),
 uX (.store 3 8 25)])
 (.seq
 (.seq
 (.af false [
 oX 26 (.mv 7),
 oX 27 (.len 26),
 oX 28 (.mv (kX 0))])
 (.join ⟨[],[]⟩ [6] []
 (.block 0
 (.loop 0 ⟨[(6,.one (rX 6)),(26,.one (.c (.v (.list [lX])))),(27,sX),(28,sX)],[(6,.box [vX,vX,.c (.v (lX)),.c (.v (.list mX)),.c (.v (lX))])]⟩ [2,3,6,8,37000] []
 (.seq
 (.af false [
 oX 29 (.bin .lss 28 27)])
 (.seq
 (.cond 29
 .skip
 (.exit 0))
 (.seq
 (.block 1
 (.seq
 (.af false [
 oX 30 (.bY 1 26 28),
 oX 31 (.load false 1 30),
 oX 10 (.mv 31)])
 (.seq
 (.af true [
 oX 32 (.aq 0 6),
 oX 33 (.load false 1 32),
 oX 34 (.load true 5 6),
 oX 35 (.mv 10),
 oX 36 (.call .ab 36 [34,35]),
 oX 37 (.aq 4 6),
 oX 38 (.load false 1 37),
 oX 39 (.call .ab 35 [33,36,38]),
 oX 40 (.bin .neq 39 (kX 0))])
 (.cond 40
 (.seq
 (.af false [
 oX 41 (.mv 10),
 oX 42 (.call .ab 37 [41]),
 oX 4 (.mv 42),
 oX 5 (.mv (.k (.one (.v (.bool) (true)))))])
 .ret)
 .skip))))
 (.af false [
 oX 43 (.bin .add 28 (kX 1)),
 oX 28 (.mv 43)]))))))))
 (.seq
 (.af false [
 oX 4 (.mv (.k (.one (.nil iX)))),
 oX 5 (.mv (.k (.one (.v (.bool) (false)))))])
 .ret))))))
def QX:List bG:=[.tmp 4,.tmp 5]
theorem ali (NN:Nat) (x:aV (au.aU GU)):ez NN [NE,NJ,NF,DA,NG,q8] TB QX GU Sz x=CP NN x:=by kernel_rfl
theorem ait:cG pX 9 TB.er QX 2=true:=by decide+kernel
theorem amn:dL pX 9 Nn.M/\bM pX 9=true:=
  eO (T:=[NE,NJ,NF,DA,NG,q8]) (sc:=TB) (ms:=QX) (args:=GU) (aE:=Sz) (aD.cons amC<|aD.cons amH<|aD.lc amD<|aD.cons aaI<|aD.cons amE<|aD.cons E0<|aD.nil) cW ait tS fun x y h=>(ali aB x).trans (aeS x y h)
def Nq:aI:=⟨26,GX,akr,SE,zN⟩
def TF:bF:=
 (.seq
 (.af false [
 oX 6 (.mv (.k (.one (.nil iX))))])
 (.seq
 (.af false [
 oX 10 (.mv 0),
 oX 11 (.mv 1),
 oX 12 (.dC 53 [10,11]),
 oX 7 (.mv 12)])
 (.seq
 (.af false [
 oX 13 (.dM iX []),
 oX 8 (.mv 13)])
 (.seq
 (.seq
 (.af false [
 oX 14 (.mv 7),
 oX 15 (.dC 55 [14,(kX 7)]),
 oX 9 (.mv 15)])
 (.join ⟨[(8,.one (fX 500001 1))],[(500001,.row true .ab iX)]⟩ [12,500000,500001] [(false,8,0,500001,.ab,[])]
 (.block 0
 (.loop 0 ⟨[(2,sX),(7,.one (rX 12)),(8,.one (fX 500000 1)),(9,sX)],[(12,.box [.c (.v (.list [.int .u8])),vX,vX]),(500000,.row true .ab iX)]⟩ [12,13,24,25,500000] [(false,8,0,500000,.ab,[])]
 (.seq
 (.seq
 (.af false [
 oX 16 (.mv 9),
 oX 17 (.bin .gtr 16 (kX 0))])
 (.cond 17
 .skip
 (.exit 0)))
 (.seq
 (.block 1
 (.af false [
 oX 20 (.mv 8),
 oX 21 (.mv 7),
 oX 22 (.mv 2),
 oX 23 (.dC 55 [21,22]),
 oX 24 (.dM iX [23]),
 oX 25 (.append true iX 8 20 24),
 oX 8 (.mv 25)]))
 (.af false [
 oX 18 (.mv 9),
 oX 19 (.bin .sub 18 (kX 1)),
 oX 9 (.mv 19)])))))))
 (.seq
 (.af false [
 oX 26 (.mv 8),
 oX 6 (.mv 26)])
 .ret)))))
def Q0:List bG:=[.tmp 6]
theorem alm (NN:Nat) (x:aV (au.aU GX)):ot NN [DB,qZ] TF Q0 GX SE x=F5 NN x:=by kernel_rfl
theorem aiw:cG pX 26 TF.er Q0 3=true:=by decide+kernel
theorem amp:k8 Go.Proofs.Try.prog 26 Nq.MV/\bM pX 26=true:=
  qJ (T:=[DB,qZ]) (sc:=TF) (ms:=Q0) (args:=GX) (aE:=SE) (aD.lc aaJ<|aD.lc EZ<|aD.nil) cW aiw zN fun x y h=>(alm aB x).trans (aeV x y h)
def Nf:aI:=⟨29,GF,aj9,Si,rV⟩
def Tl:bF:=
 (.seq
 (.af false [
 oX 2 (.box 5 0),
 oX 4 (.mv (kX 0))])
 (.seq
 (.seq
 (.af false [
 oX 7 (.load true 5 2),
 oX 8 (.call .ab 28 [7]),
 oX 9 (.un .not 8),
 oX 10 (.mv 9),
 ⟨(some 11),.mv 1,(some (10,false))⟩,
 ⟨(some 12),.len 11,(some (10,false))⟩,
 ⟨(some 13),.bin .gtr 12 (kX 24),(some (10,false))⟩,
 oX 14 (.pick 10 (.k (.one (.v (.bool) (true)))) 13)])
 (.cond 14
 (.seq
 (.af false [
 oX 4 (.mv (kX (-1)))])
 .ret)
 .skip))
 (.seq
 (.seq
 (.af false [
 oX 15 (.mv 1),
 oX 16 (.len 15),
 oX 17 (.mv (kX 0))])
 (.join ⟨[(2,.one (rX 2)),(1,.one (.c (.v (lX))))],[(2,.box [vX,vX,.c (.v (lX)),.c (.v (.list mX)),.c (.v (lX))])]⟩ [2] []
 (.block 0
 (.loop 0 ⟨[(1,.one (.c (.v (lX)))),(2,.one (rX 2)),(15,.one (.c (.v (lX)))),(16,sX),(17,sX)],[(2,.box [vX,vX,.c (.v (lX)),.c (.v (.list mX)),.c (.v (lX))])]⟩ [2] []
 (.seq
 (.af false [
 oX 18 (.bin .lss 17 16)])
 (.seq
 (.cond 18
 .skip
 (.exit 0))
 (.seq
 (.block 1
 (.seq
 (.af false [
 oX 19 (.bY 1 15 17),
 oX 20 (.load false 1 19),
 oX 6 (.mv 20)])
 (.seq
 (.af false [
 oX 21 (.mv 6),
 oX 22 (.bin .lss 21 (kX 0)),
 oX 23 (.mv 22),
 ⟨(some 24),.mv 6,(some (23,false))⟩,
 ⟨(some 25),.aq 3 2,(some (23,false))⟩,
 ⟨(some 26),.load false 1 25,(some (23,false))⟩,
 ⟨(some 27),.len 26,(some (23,false))⟩,
 ⟨(some 28),.bin .geq 24 27,(some (23,false))⟩,
 oX 29 (.pick 23 (.k (.one (.v (.bool) (true)))) 28)])
 (.cond 29
 (.seq
 (.af false [
 oX 4 (.mv (kX (-1)))])
 .ret)
 .skip))))
 (.af false [
 oX 30 (.bin .add 17 (kX 1)),
 oX 17 (.mv 30)]))))))))
 (.seq
 (.af false [
 oX 31 (.load true 5 2),
 oX 32 (.mv 1),
 oX 33 (.call .ab 43 [31,32]),
 oX 4 (.mv 33)])
 .ret))))
def QI:List bG:=[.tmp 4]
theorem ak3 (NN:Nat) (x:aV (au.aU GF)):ez NN [Ds,Dx] Tl QI GF Si x=FV NN x:=by kernel_rfl
theorem aid:cG pX 29 Tl.er QI 2=true:=by decide+kernel
theorem ame:dL pX 29 Nf.M/\bM pX 29=true:=
  eO (T:=[Ds,Dx]) (sc:=Tl) (ms:=QI) (args:=GF) (aE:=Si) (aD.cons aaB<|aD.cons aaF<|aD.nil) cW aid rV fun x y h=>(ak3 aB x).trans (aeD x y h)
def Ik:aI:=⟨7,vL,akm,Sx,Ly⟩
def Tz:bF:=
 (.seq
 (.af false [
 oX 2 (.mv (.k (.one (.v (.bool) (false)))))])
 (.seq
 (.seq
 (.af false [
 oX 13 (.mv 0),
 oX 14 (.len 13),
 oX 15 (.bin .gtr 14 (kX 1048576))])
 (.cond 15
 (.seq
 (.af false [
 oX 2 (.mv (.k (.one (.v (.bool) (true)))))])
 .ret)
 .skip))
 (.seq
 (.af false [
 oX 17 (.mv 0),
 oX 18 (.dC 25 [17,(kX 0)]),
 oX 16 (.mv 18),
 oX 19 (.ext 0 16),
 oX 20 (.ext 1 16),
 oX 3 (.alloc [zX,zX,.nil iX,.nil mX,.nil iX]),
 oX 4 (.alloc [zX,zX,.nil iX,.nil mX,.nil iX]),
 uX (.store 5 3 19),
 uX (.store 5 4 20)])
 (.seq
 (.af false [
 oX 22 (.load true 5 3),
 oX 23 (.load true 5 4),
 oX 24 (.call .ab 11 [22,23]),
 oX 21 (.mv 24),
 oX 25 (.ext 0 21),
 oX 26 (.ext 1 21),
 oX 5 (.mv 25),
 oX 6 (.mv 26)])
 (.seq
 (.af false [
 oX 28 (.load true 5 3),
 oX 29 (.load true 5 4),
 oX 30 (.call .ab 9 [28,29]),
 oX 27 (.mv 30),
 oX 31 (.ext 0 27),
 oX 32 (.ext 1 27),
 oX 7 (.mv 31),
 oX 8 (.mv 32)])
 (.seq
 (.seq
 (.af false [
 oX 33 (.mv 6),
 oX 34 (.mv 8),
 oX 35 (.nB .neq 33 34)])
 (.cond 35
 (.seq
 (.af false [
 oX 2 (.mv (.k (.one (.v (.bool) (false)))))])
 .ret)
 .skip))
 (.seq
 (.af false [
 oX 36 (.mv 0),
 oX 37 (.aq 3 3),
 oX 38 (.load false 1 37),
 oX 39 (.len 38),
 oX 40 (.dC 26 [36,(kX 100),39]),
 oX 9 (.mv 40)])
 (.seq
 (.af true [
 oX 41 (.load true 5 3),
 oX 42 (.mv 9),
 oX 43 (.call .ab 29 [41,42]),
 oX 44 (.load true 5 4),
 oX 45 (.mv 9),
 oX 46 (.call .ab 29 [44,45]),
 oX 47 (.bin .neq 43 46),
 oX 10 (.mv 47)])
 (.seq
 (.seq
 (.af false [
 oX 48 (.mv 6),
 oX 49 (.un .not 48)])
 (.cond 49
 (.seq
 (.af false [
 oX 50 (.mv 10),
 oX 51 (.un .not 50),
 oX 2 (.mv 51)])
 .ret)
 .skip))
 (.seq
 (.seq
 (.af true [
 oX 52 (.load true 5 3),
 oX 53 (.mv 5),
 oX 54 (.call .ab 29 [52,53]),
 oX 55 (.load true 5 4),
 oX 56 (.mv 5),
 oX 57 (.call .ab 29 [55,56]),
 oX 58 (.bin .eql 54 57)])
 (.cond 58
 (.seq
 (.af false [
 oX 2 (.mv (.k (.one (.v (.bool) (false)))))])
 .ret)
 .skip))
 (.seq
 (.seq
 (.af false [
 oX 59 (.mv 10),
 oX 60 (.un .not 59),
 oX 61 (.mv 60),
 ⟨(some 62),.mv 9,(some (61,false))⟩,
 ⟨(some 63),.len 62,(some (61,false))⟩,
 ⟨(some 64),.mv 5,(some (61,false))⟩,
 ⟨(some 65),.len 64,(some (61,false))⟩,
 ⟨(some 66),.bin .gtr 63 65,(some (61,false))⟩,
 oX 67 (.pick 61 (.k (.one (.v (.bool) (true)))) 66)])
 (.cond 67
 (.seq
 (.af false [
 oX 2 (.mv (.k (.one (.v (.bool) (true)))))])
 .ret)
 .skip))
 (.seq
 (.seq
 (.af false [
 oX 68 (.mv 9),
 oX 69 (.len 68),
 oX 70 (.mv 5),
 oX 71 (.len 70),
 oX 72 (.bin .lss 69 71)])
 (.cond 72
 (.seq
 (.af false [
 oX 2 (.mv (.k (.one (.v (.bool) (false)))))])
 .ret)
 .skip))
 (.seq
 (.seq
 (.af false [
 oX 73 (.mv 9),
 oX 74 (.len 73),
 oX 75 (.mv (kX 0))])
 (.join ⟨[],[]⟩ [500000] []
 (.block 0
 (.loop 0 ⟨[(5,.one (fX 500000 1)),(73,.one (.c (.v (lX)))),(74,sX),(75,sX)],[(500000,.row true .ab iX)]⟩ [3,4,25000,31000,500000] [(false,5,0,500000,.ab,[])]
 (.seq
 (.af false [
 oX 76 (.bin .lss 75 74)])
 (.seq
 (.cond 76
 .skip
 (.exit 0))
 (.seq
 (.block 1
 (.seq
 (.af false [
 oX 77 (.mv 75),
 oX 78 (.bY 1 73 75),
 oX 79 (.load false 1 78),
 oX 11 (.mv 77),
 oX 12 (.mv 79)])
 (.seq
 (.af false [
 oX 80 (.mv 12),
 oX 81 (.mv 5),
 oX 82 (.mv 11),
 oX 83 (.bY 1 81 82),
 oX 84 (.load false 1 83),
 oX 85 (.bin .neq 80 84)])
 (.cond 85
 (.seq
 (.af false [
 oX 86 (.mv 12),
 oX 87 (.mv 5),
 oX 88 (.mv 11),
 oX 89 (.bY 1 87 88),
 oX 90 (.load false 1 89),
 oX 91 (.bin .gtr 86 90),
 oX 2 (.mv 91)])
 .ret)
 .skip))))
 (.af false [
 oX 92 (.bin .add 75 (kX 1)),
 oX 75 (.mv 92)]))))))))
 (.seq
 (.af false [
 oX 2 (.mv (.k (.one (.v (.bool) (true)))))])
 .ret))))))))))))))
def QV:List bG:=[.tmp 2]
theorem alg (NN:Nat) (x:aV (au.aU vL)):ez NN [Np,Na,Nn,Nq,Nf] Tz QV vL Sx x=F3 NN x:=by kernel_rfl
theorem air:cG pX 7 Tz.er QV 1=true:=by decide+kernel
theorem aml:dL pX 7 Ik.M/\bM pX 7=true:=
  eO (T:=[Np,Na,Nn,Nq,Nf]) (sc:=Tz) (ms:=QV) (args:=vL) (aE:=Sx) (aD.lc amo<|aD.cons ama<|aD.cons amn<|aD.lc amp<|aD.cons ame<|aD.nil) cW air Ly fun x y h=>(alg aB x).trans (aeQ x y h)
end Go.Am
