/- A_FnChainSums: the code of the functions of FnChainSums. No condition. -/
import Derived.Test.YtfkfmbhknekkdaaWT
import Derived.Test.YtfkfmbhknekkdaaWT
import Derived.KernelRfl
import Derived.Test.YtfkfmbhknekkdaaRows
set_option linter.unusedVariables false
set_option maxRecDepth 100000
namespace Go.Am
theorem dN:Go.Proofs.Try.prog.follows .mixedOrders=true:=by decide+kernel
noncomputable abbrev pX:=Go.Proofs.Try.prog
def oX (n:Nat) (x:dE):dU:=⟨some n,x,none⟩
def uX (x:dE):dU:=⟨none,x,none⟩
def kX (n:Int):dg:=.k (.one (.v (.int .i64) n))
def sX:jR:=.one (.c (.v (.int .i64)))
def iX:List Ty:=[.int .i64]
def lX:Ty:=.list iX
def gX:List Ty:=[.int .i64,.int .i64,.int .i64,lX]
def zX:SC:=.v (.int .i64) (0:Int)
def vX:fD:=.c (.v (.int .i64))
def fX (n k:Nat):fD:=.c (.full n k)
def rX (n:Nat):fD:=.c (.Ip n 0)
instance tX (n:Nat):OfNat dg n:=⟨.t n⟩
def cb (s:Nat) (o:dU):dU:={o with guard:=some (s,true)}
def cR (s:Nat) (o:dU):dU:={o with guard:=some (s,false)}
def ab (d s:Nat):dU:=oX d (.mv (.t s))
def au (d n s:Nat):dU:=oX d (.load false n (.t s))
def bR (d n s:Nat):dU:=oX d (.load true n (.t s))
def aK (d n s:Nat):dU:=oX d (.qd n (.t s))
def dh (d n x i:Nat):dU:=oX d (.pC n (.t x) (.t i))
def iE (d n x:Nat) (i:Int):dU:=oX d (.pC n (.t x) (kX i))
def cU (d:Nat) (c:Int):dU:=oX d (.mv (kX c))
def X3:dg:=.k (.one (.v .bool true))
def X0:dg:=.k (.one (.v .bool false))
def qH (d:Nat):dU:=oX d (.mv X3)
def fi (d:Nat):dU:=oX d (.mv X0)
def iq (d c x:Nat):dU:=oX d (.pick (.t c) (.t x) X0)
def lp (d c x:Nat):dU:=oX d (.pick (.t c) X3 (.t x))
def bo (o:BinOp) (d x y:Nat):dU:=oX d (.bin o (.t x) (.t y))
def bn (o:BinOp) (d x:Nat) (c:Int):dU:=oX d (.bin o (.t x) (kX c))
def ez (d n s:Nat):dU:=oX d (.box n (.t s))
def dM (d s:Nat):dU:=oX d (.len (.t s))
def cv (d f:Nat) (l:List dg):dU:=oX d (.call .bc f l)
def lS (d s:Nat):dU:=oX d (.un .not (.t s))
def ox (d n s:Nat):dU:=oX d (.ext n (.t s))
def kL (d f:Nat) (l:List dg):dU:=oX d (.lr f l)
def cC (n x v:Nat):dU:=uX (.store n (.t x) (.t v))
def fz (d:Nat) (l:List SC):dU:=oX d (.alloc l)
def o7 (d:Nat):dU:=oX d (.mv (.k (.one (.nil iX))))
def ah (l:List dU):ca:=.eF false l
def aq:List ca->ca
  |[]=>.skip
  |[a]=>a
  |a::l=>.seq a (aq l)
def eZ (n e:Nat):ca:=.cond (.t n) .skip (.exit e)
def aA (n:Nat):Nat×jR:=(n,sX)
def eu (n m k:Nat):Nat×jR:=(n,.one (fX m k))
def aJ (n m:Nat):Nat×jR:=(n,.one (rX m))
def aO (n:Nat):Nat×gO:=(n,.row true .bc iX)
def cq:fD:=.c (.v lX)
def hH:fD:=.c (.v (.list gX))
def aN (n:Nat) (l:List fD):Nat×gO:=(n,.box l)
def bm (a b c:Nat):Bool×Nat×Nat×Nat×Mode×List Ty:=(true,a,b,c,.bc,[])
def eJ (a c:Nat):Bool×Nat×Nat×Nat×Mode×List Ty:=(false,a,0,c,.bc,[])
def eH (n:Nat):Nat×jR:=(n,.one (.c (.v lX)))
def aag:aw:=⟨72,KV,apx,Vx,C6⟩
def afs:ca:=
 (aq [ah [oX 2 (.mv (.k (.one (.cd))))],ah [ab 5 0,dM 6 5,oX 7 (.bin .add (kX 55127) 6),ab 3 7],aq [ah [cU 4 0],.join ⟨[(0,.one (.c (.v (.list [.int .u8])))),aA 3],[]⟩ [] [] (.block 0 (.loop 0 ⟨[(0,.one (.c (.v (.list [.int .u8])))),aA 3,aA 4],[]⟩ [] [] (aq [aq [ah [ab 8 4,ab 9 0,dM 10 9,bo .lss 11 8 10,ab 12 11,cb 12 (ab 13 4),cb 12 (bn .lss 14 13 4000),iq 15 12 14],eZ 15 0],.block 1 (ah [ab 18 3,bn .mul 19 18 131,ab 20 0,ab 21 4,dh 22 1 20 21,au 23 1 22,oX 24 (.conv .i64 23),bo .add 25 19 24,bn .add 26 25 7,bn .and 27 26 1073741823,ab 3 27]),ah [ab 16 4,bn .add 17 16 1,ab 4 17]])))],ah [ab 28 0,ab 29 3,oX 30 (.build [.nil [.int .u8],zX,zX] [(0,1,28),(2,1,29)]),ez 31 3 30,ab 2 31],.ret])
def adb:List bZ:=[.tmp 2]
theorem aqH (NN:Nat) (x:bj (ar.bi KV)):qA NN [] afs adb KV Vx x=JJ NN x:=by kernel_rfl
theorem anV:c6 pX 72 afs.er adb 1=true:=by decide+kernel
theorem arR:nK pX 72 aag.MV/\cz pX 72=true:=
  sy (args:=KV) (ax:=Vx) (aC.nil) dN anV C6 fun x y h=>(aqH aM x).trans (akH x y h)
def L9:aw:=⟨32,K5,apE,VE,yC⟩
def afz:ca:=
 (aq [ah [oX 4 (.mv (.k (.one (.cd))))],ah [ab 6 0,kL 7 72 [6],ab 5 7],ah [ab 8 5,ab 9 1,ab 10 0,dM 11 10,oX 12 (.mm false 9 11),oX 13 (.jM 8),aK 14 1 13,cC 1 14 12],ah [ab 15 5,ab 16 5,oX 17 (.jM 16),aK 18 2 17,au 19 1 18,bn .mul 20 19 31,ab 21 1,bn .mul 22 21 7919,bo .add 23 20 22,bn .add 24 23 1,bn .and 25 24 1073741823,oX 26 (.jM 15),aK 27 2 26,cC 1 27 25],ah [ab 28 5,ab 4 28],.ret])
def adk:List bZ:=[.tmp 4]
theorem aqO (NN:Nat) (x:bj (ar.bi K5)):qA NN [aag] afz adk K5 VE x=JQ NN x:=by kernel_rfl
theorem an2:c6 pX 32 afz.er adk 2=true:=by decide+kernel
theorem Ua:nK pX 32 L9.MV/\cz pX 32=true:=
  sy (args:=K5) (ax:=VE) (aC.lx arR<|aC.nil) dN an2 yC fun x y h=>(aqO aM x).trans (akO x y h)
def aaf:aw:=⟨90,KU,apw,Vw,C5⟩
def afr:ca:=
 (aq [ah [cU 2 0],ah [ab 4 0,ab 5 0,oX 6 (.jM 5),aK 7 2 6,au 8 1 7,bn .mul 9 8 6364136223846793005,bn .add 10 9 1442695040888963407,oX 11 (.jM 4),aK 12 2 11,cC 1 12 10],.eF true [ab 13 0,oX 14 (.jM 13),aK 15 2 14,au 16 1 15,oX 17 (.bin .shr 16 (.k (.one (.v (.int .u64) ((33:Int)))))),ab 18 0,oX 19 (.jM 18),aK 20 2 19,au 21 1 20,oX 22 (.bin .shr 21 (.k (.one (.v (.int .u64) ((45:Int)))))),bo .xor 23 17 22,bn .and 24 23 255,ab 3 24],aq [.eF true [ab 25 0,oX 26 (.jM 25),aK 27 1 26,au 28 1 27,ab 29 0,oX 30 (.jM 29),aK 31 0 30,au 32 1 31,dM 33 32,bo .lss 34 28 33],.join ⟨[aA 3],[(1000000,.box [.c (.v (.list [.int .u8])),vX,vX])]⟩ [1000000] [] (.cond 34 (aq [.eF true [ab 35 3,ab 36 0,oX 37 (.jM 36),aK 38 0 37,au 39 1 38,ab 40 0,oX 41 (.jM 40),aK 42 1 41,au 43 1 42,dh 44 1 39 43,au 45 1 44,oX 46 (.conv .i64 45),bo .add 47 35 46,bn .and 48 47 255,ab 3 48],ah [ab 49 0,ab 50 0,oX 51 (.jM 50),aK 52 1 51,au 53 1 52,bn .add 54 53 1,oX 55 (.jM 49),aK 56 1 55,cC 1 56 54]]) .skip)],ah [ab 57 3,ab 2 57],.ret])
def ada:List bZ:=[.tmp 2]
theorem aqG (NN:Nat) (x:bj (ar.bi KU)):qA NN [] afr ada KU Vw x=JI NN x:=by kernel_rfl
theorem anU:c6 pX 90 afr.er ada 1=true:=by decide+kernel
theorem arQ:nK pX 90 aaf.MV/\cz pX 90=true:=
  sy (args:=KU) (ax:=Vw) (aC.nil) dN anU C5 fun x y h=>(aqG aM x).trans (akG x y h)
def DW:aw:=⟨71,KT,apv,Vv,t9⟩
def afq:ca:=
 (aq [ah [cU 4 0],aq [ah [ab 5 1,bn .leq 6 5 0],.cond 6 (aq [ah [cU 4 0],.ret]) .skip],ah [ab 7 0,kL 8 90 [7],ab 9 1,bo .rem 10 8 9,ab 4 10],.ret])
def ac9:List bZ:=[.tmp 4]
theorem aqF (NN:Nat) (x:bj (ar.bi KT)):qA NN [aaf] afq ac9 KT Vv x=JH NN x:=by kernel_rfl
theorem anT:c6 pX 71 afq.er ac9 2=true:=by decide+kernel
theorem Ij:nK pX 71 DW.MV/\cz pX 71=true:=
  sy (args:=KT) (ax:=Vv) (aC.lx arQ<|aC.nil) dN anT t9 fun x y h=>(aqF aM x).trans (akF x y h)
def aah:aw:=⟨31,KX,apz,Vz,C7⟩
def afu:ca:=
 (aq [ah [cU 4 0],ah [ab 5 1,ab 6 0,ab 7 1,dM 8 7,kL 9 71 [6,8],dh 10 1 5 9,au 11 1 10,ab 4 11],.ret])
def adf:List bZ:=[.tmp 4]
theorem aqJ (NN:Nat) (x:bj (ar.bi KX)):qA NN [DW] afu adf KX Vz x=JL NN x:=by kernel_rfl
theorem anX:c6 pX 31 afu.er adf 2=true:=by decide+kernel
theorem arS:nK pX 31 aah.MV/\cz pX 31=true:=
  sy (args:=KX) (ax:=Vz) (aC.lx Ij<|aC.nil) dN anX C7 fun x y h=>(aqJ aM x).trans (akJ x y h)
def aae:aw:=⟨12,KS,apu,Vu,C4⟩
def afp:ca:=
 (aq [ah [cU 4 0],ah [ab 5 0,ab 6 1,kL 7 32 [5,6],oX 8 (.hZ iX [(kX 2),(kX 3),(kX 7),(kX 101),(kX 1000003)]),kL 9 31 [7,8],ab 4 9],.ret])
def ac8:List bZ:=[.tmp 4]
theorem aqE (NN:Nat) (x:bj (ar.bi KS)):qA NN [L9,aah] afp ac8 KS Vu x=JG NN x:=by kernel_rfl
theorem anS:c6 pX 12 afp.er ac8 2=true:=by decide+kernel
theorem arP:nK pX 12 aae.MV/\cz pX 12=true:=
  sy (args:=KS) (ax:=Vu) (aC.lx Ua<|aC.lx arS<|aC.nil) dN anS C4 fun x y h=>(aqE aM x).trans (akE x y h)
def aal:aw:=⟨33,K4,apD,VD,Dc⟩
def afy:ca:=
 (aq [ah [o7 2],ah [oX 5 (.hZ iX []),ab 3 5],aq [ah [ab 6 0,kL 7 71 [6,(kX 4)],oX 8 (.bin .add (kX 1) 7),ab 4 8],.join ⟨[eu 3 701 1],[(1000000,.box [.c (.v (.list [.int .u8])),vX,vX]),aO 701]⟩ [1000000,700,701] [eJ 3 701] (.block 0 (.loop 0 ⟨[aJ 0 1000000,eu 3 700 1,aA 4],[(1000000,.box [.c (.v (.list [.int .u8])),vX,vX]),aO 700]⟩ [1000000,5,17,18,700] [eJ 3 700] (aq [aq [ah [ab 9 4,bn .gtr 10 9 0],eZ 10 0],.block 1 (ah [ab 13 3,ab 14 0,kL 15 71 [14,(kX 3)],oX 16 (.bin .add (kX 1) 15),oX 17 (.hZ iX [16]),oX 18 (.append true iX 8 13 17),ab 3 18]),ah [ab 11 4,bn .sub 12 11 1,ab 4 12]])))],ah [ab 19 3,ab 2 19],.ret])
def adj:List bZ:=[.tmp 2]
theorem aqN (NN:Nat) (x:bj (ar.bi K4)):qA NN [DW] afy adj K4 VD x=JP NN x:=by kernel_rfl
theorem an1:c6 pX 33 afy.er adj 1=true:=by decide+kernel
theorem arW:nK pX 33 aal.MV/\cz pX 33=true:=
  sy (args:=K4) (ax:=VD) (aC.lx Ij<|aC.nil) dN an1 Dc fun x y h=>(aqN aM x).trans (akN x y h)
def aad:aw:=⟨13,KR,apt,Vt,C3⟩
def afo:ca:=
 (aq [ah [o7 4],ah [ab 5 0,ab 6 1,kL 7 32 [5,6],kL 8 33 [7],ab 4 8],.ret])
def ac7:List bZ:=[.tmp 4]
theorem aqD (NN:Nat) (x:bj (ar.bi KR)):qA NN [L9,aal] afo ac7 KR Vt x=JF NN x:=by kernel_rfl
theorem anR:c6 pX 13 afo.er ac7 2=true:=by decide+kernel
theorem arO:nK pX 13 aad.MV/\cz pX 13=true:=
  sy (args:=KR) (ax:=Vt) (aC.lx Ua<|aC.lx arW<|aC.nil) dN anR C3 fun x y h=>(aqD aM x).trans (akD x y h)
def Ra:aw:=⟨73,KW,apy,Vy,yB⟩
def aft:ca:=
 (aq [ah [fi 4],ah [ab 5 0,ab 6 1,kL 7 71 [5,6],bn .eql 8 7 0,ab 4 8],.ret])
def ade:List bZ:=[.tmp 4]
theorem aqI (NN:Nat) (x:bj (ar.bi KW)):qA NN [DW] aft ade KW Vy x=JK NN x:=by kernel_rfl
theorem anW:c6 pX 73 aft.er ade 2=true:=by decide+kernel
theorem adO:nK pX 73 Ra.MV/\cz pX 73=true:=
  sy (args:=KW) (ax:=Vy) (aC.lx Ij<|aC.nil) dN anW yB fun x y h=>(aqI aM x).trans (akI x y h)
def aaj:aw:=⟨91,KZ,apB,VB,AA⟩
def afw:ca:=
 (aq [ah [fz 4 [zX,zX,.nil iX]],ah [ab 5 0,ab 6 1,ab 7 0,ab 8 1,bo .mul 9 7 8,oX 10 (.jK .bc iX 8 (0:Int) 9 9),oX 11 (.build [zX,zX,.nil iX] [(0,1,5),(1,1,6),(2,1,10)]),cC 3 4 11],.ret])
def adh:List bZ:=[.cell 4 3 true]
theorem aqL (NN:Nat) (x:bj (ar.bi KZ)):fB NN [] afw adh KZ VB x=JN NN x:=by kernel_rfl
theorem anZ:c6 pX 91 afw.er adh 2=true:=by decide+kernel
theorem arU:eY pX 91 aaj.M/\cz pX 91=true:=
  fO (args:=KZ) (ax:=VB) (aC.nil) dN anZ AA fun x y h=>(aqL aM x).trans (Zp x y h)
def aai:aw:=⟨74,KY,apA,VA,C8⟩
def afv:ca:=
 (aq [ah [fz 8 [zX,zX,.nil iX]],ah [ab 12 2,ab 13 3,cv 14 91 [12,13],fz 9 [zX,zX,.nil iX],cC 3 9 14],aq [ah [aK 15 2 9,au 16 1 15,dM 17 16,cU 18 0],.join ⟨[aA 2,aJ 0 1000000,aA 3,aJ 9 9,aJ 8 8],[(1000000,.box [.c (.v (.list [.int .u8])),vX,vX]),aN 8 [vX,vX,fX 702 1],aN 9 [vX,vX,fX 703 1],aO 702,aO 703]⟩ [1000000,8,9,700,701,702,703] [bm 8 2 702,bm 9 2 703] (.block 0 (.loop 0 ⟨[aJ 0 1000000,aA 1,aA 2,aA 3,aJ 8 8,aJ 9 9,aA 17,aA 18],[(1000000,.box [.c (.v (.list [.int .u8])),vX,vX]),aN 8 [vX,vX,fX 700 1],aN 9 [vX,vX,fX 701 1],aO 700,aO 701]⟩ [1000000,8,15000,9,700,701] [bm 8 2 700,bm 9 2 701] (aq [ah [bo .lss 19 18 17],eZ 19 0,.block 1 (aq [ah [ab 20 18,ab 10 20],ah [ab 21 0,kL 22 73 [21,(kX 3)],lS 23 22],.cond 23 (.rl [(0,6),(1,6)] [aK 24 2 9,au 25 1 24,ab 26 10,ab 27 0,ab 28 1,oX 29 (.mm false 28 (kX 256)),kL 30 71 [27,29],dh 31 1 25 26,cC 1 31 30]) .skip]),ah [bn .add 32 18 1,ab 18 32]])))],aq [ah [ab 33 2,bn .gtr 34 33 1,ab 35 34,cb 35 (ab 36 0),cb 35 (kL 37 73 [36,(kX 3)]),iq 38 35 37],.join ⟨[aJ 9 9,aJ 8 8],[(1000000,.box [.c (.v (.list [.int .u8])),vX,vX]),aN 8 [vX,vX,fX 706 1],aN 9 [vX,vX,fX 707 1],aO 706,aO 707]⟩ [1000000,8,9,702,703,704,705,706,707] [bm 8 2 706,bm 9 2 707] (.cond 38 (aq [ah [cU 11 0],.block 2 (.loop 0 ⟨[aA 3,aJ 8 8,aJ 9 9,aA 11],[(1000000,.box [.c (.v (.list [.int .u8])),vX,vX]),aN 8 [vX,vX,fX 704 1],aN 9 [vX,vX,fX 705 1],aO 704,aO 705]⟩ [1000000,8,9,702,703,704,705] [bm 8 2 704,bm 9 2 705] (aq [aq [ah [ab 39 11,ab 40 3,bo .lss 41 39 40],eZ 41 2],.block 3 (.eF true [aK 44 2 9,au 45 1 44,ab 46 3,ab 47 11,bo .add 48 46 47,aK 49 2 9,au 50 1 49,ab 51 11,dh 52 1 50 51,au 53 1 52,dh 54 1 45 48,cC 1 54 53]),ah [ab 42 11,bn .add 43 42 1,ab 11 43]]))]) .skip)],ah [bR 55 3 9,cC 3 8 55],.ret])
def adg:List bZ:=[.cell 8 3 true]
theorem aqK (NN:Nat) (x:bj (ar.bi KY)):qA NN [aaj,Ra,DW] afv adg KY VA x=JM NN x:=by kernel_rfl
theorem anY:c6 pX 74 afv.er adg 4=true:=by decide+kernel
theorem arT:nK pX 74 aai.MV/\cz pX 74=true:=
  sy (args:=KY) (ax:=VA) (aC.cons arU<|aC.lx adO<|aC.lx Ij<|aC.nil) dN anY C8 fun x y h=>(aqK aM x).trans (akK x y h)
def aak:aw:=⟨34,K3,apC,VC,C9⟩
def afx:ca:=
 (aq [ah [fz 6 [zX,.nil gX]],ah [ab 13 1,oX 14 (.build [zX,.nil gX] [(0,1,13)]),fz 7 [zX,.nil gX],cC 2 7 14],ah [cU 8 1],aq [ah [ab 15 2,dM 16 15,cU 17 0],.join ⟨[aJ 7 7,aJ 6 6],[(1000000,.box [.c (.v (.list [.int .u8])),vX,vX]),aN 6 [vX,fX 706 4],aN 7 [vX,fX 707 4],(706,.row true .bc gX),(707,.row true .aL gX)]⟩ [1000000,6,7,700,701,706,707] [bm 6 1 706,(true,7,1,707,.aL,[])] (.block 0 (.loop 0 ⟨[aJ 0 1000000,aA 1,eH 2,aJ 6 6,aJ 7 7,aA 8,eH 15,aA 16,aA 17],[(1000000,.box [.c (.v (.list [.int .u8])),vX,vX]),aN 6 [vX,fX 700 4],aN 7 [vX,fX 701 4],(700,.row true .bc gX),(701,.row true .aL gX)]⟩ [1000000,6,7,12,51,700,701,704] [bm 6 1 700,(true,7,1,701,.aL,[])] (aq [ah [bo .lss 18 17 16],eZ 18 0,.block 1 (aq [ah [ab 19 17,dh 20 1 15 17,au 21 1 20,ab 9 19,ab 10 21],ah [ab 22 10,oX 23 (.mm false (kX 4) 22),oX 24 (.mm true (kX 1) 23),ab 10 24],ah [ab 25 0,kL 26 71 [25,(kX 4)],oX 27 (.bin .add (kX 1) 26),ab 11 27],aq [ah [ab 28 0,kL 29 73 [28,(kX 16)]],.join ⟨[aA 9,aA 8,aA 10,aA 11,aA 17,aJ 0 1000000,aA 1,eH 2,aJ 6 6,aJ 7 7,eH 15,aA 16],[(1000000,.box [.c (.v (.list [.int .u8])),vX,vX]),aN 6 [vX,fX 702 4],aN 7 [vX,fX 703 4],(702,.row true .bc gX),(703,.row true .aL gX)]⟩ [1000000,6,7,700,701,702,703] [bm 6 1 702,(true,7,1,703,.aL,[])] (.cond 29 (ah [cU 11 0]) .skip)],aq [ah [ab 30 9,ab 31 2,dM 32 31,bn .sub 33 32 1,bo .eql 34 30 33],.join ⟨[aA 8,aA 10,aA 11,aA 17,aJ 0 1000000,aA 1,eH 2,aJ 6 6,aJ 7 7,eH 15,aA 16],[(1000000,.box [.c (.v (.list [.int .u8])),vX,vX]),aN 6 [vX,fX 704 4],aN 7 [vX,fX 705 4],(704,.row true .bc gX),(705,.row true .aL gX)]⟩ [1000000,6,7,702,703,704,705] [bm 6 1 704,(true,7,1,705,.aL,[])] (.cond 34 (ah [cU 11 1]) .skip)],ah [ab 35 0,ab 36 1,ab 37 8,ab 38 10,bo .mul 39 37 38,ab 40 11,kL 41 74 [35,36,39,40],fz 12 [zX,zX,.nil iX],cC 3 12 41],ah [aK 42 1 7,au 43 1 42,ab 44 8,ab 45 10,ab 46 11,aK 47 2 12,au 48 1 47,oX 49 (.build [zX,zX,zX,.nil iX] [(0,1,44),(1,1,45),(2,1,46),(3,1,48)]),oX 50 (.hZ gX [49]),oX 51 (.append false gX 48 43 50),aK 52 1 7,cC 1 52 51],ah [ab 53 11,ab 8 53]]),ah [bn .add 54 17 1,ab 17 54]])))],ah [bR 55 2 7,cC 2 6 55],.ret])
def adi:List bZ:=[.cell 6 2 true]
theorem aqM (NN:Nat) (x:bj (ar.bi K3)):qA NN [DW,Ra,aai] afx adi K3 VC x=JO NN x:=by kernel_rfl
theorem an0:c6 pX 34 afx.er adi 3=true:=by decide+kernel
theorem arV:nK pX 34 aak.MV/\cz pX 34=true:=
  sy (args:=K3) (ax:=VC) (aC.lx Ij<|aC.lx adO<|aC.lx arT<|aC.nil) dN an0 C9 fun x y h=>(aqM aM x).trans (akM x y h)
def aac:aw:=⟨14,KQ,aps,Vs,yA⟩
def afn:ca:=
 (aq [ah [fz 8 [zX,.nil gX]],ah [ab 9 0,ab 10 1,kL 11 32 [9,10],ab 12 2,ab 13 3,kL 14 34 [11,12,13],cC 2 8 14],.ret])
def ac6:List bZ:=[.cell 8 2 true]
theorem aqC (NN:Nat) (x:bj (ar.bi KQ)):qA NN [L9,aak] afn ac6 KQ Vs x=JE NN x:=by kernel_rfl
theorem anQ:c6 pX 14 afn.er ac6 4=true:=by decide+kernel
theorem arN:nK pX 14 aac.MV/\cz pX 14=true:=
  sy (args:=KQ) (ax:=Vs) (aC.lx Ua<|aC.lx arV<|aC.nil) dN anQ yA fun x y h=>(aqC aM x).trans (akC x y h)
def QX:aw:=⟨66,J8,aoQ,UJ,vi⟩
def aeE:ca:=
 (aq [ah [fi 2],aq [ah [ab 4 0,bn .lss 5 4 2,ab 6 5,cR 6 (ab 7 0),cR 6 (bn .gtr 8 7 1000003),lp 9 6 8],.cond 9 (aq [ah [fi 2],.ret]) .skip],aq [ah [cU 3 2],.join ⟨[],[]⟩ [] [] (.block 0 (.loop 0 ⟨[aA 0,aA 3],[]⟩ [] [] (aq [aq [ah [ab 10 3,ab 11 3,bo .mul 12 10 11,ab 13 0,bo .leq 14 12 13],eZ 14 0],.block 1 (aq [ah [ab 17 0,ab 18 3,bo .rem 19 17 18,bn .eql 20 19 0],.cond 20 (aq [ah [fi 2],.ret]) .skip]),ah [ab 15 3,bn .add 16 15 1,ab 3 16]])))],ah [qH 2],.ret])
def ack:List bZ:=[.tmp 2]
theorem apR (NN:Nat) (x:bj (ar.bi J8)):fB NN [] aeE ack J8 UJ x=Ph NN x:=by kernel_rfl
theorem am5:c6 pX 66 aeE.er ack 1=true:=by decide+kernel
theorem adB:eY pX 66 QX.M/\cz pX 66=true:=
  fO (args:=J8) (ax:=UJ) (aC.nil) dN am5 vi fun x y h=>(apR aM x).trans (ajT x y h)
def ZV:aw:=⟨88,Kr,ao6,U3,CS⟩
def aeX:ca:=
 (aq [ah [fi 4],aq [ah [ab 7 1,dM 8 7,cU 9 0],.join ⟨[],[]⟩ [] [] (.block 0 (.loop 0 ⟨[aA 0,eH 7,aA 8,aA 9],[]⟩ [] [] (aq [ah [bo .lss 10 9 8],eZ 10 0,.block 1 (aq [ah [dh 11 1 7 9,au 12 1 11,ab 6 12],ah [ab 13 6,bn .lss 14 13 0,ab 15 14,cR 15 (ab 16 6),cR 15 (ab 17 0),cR 15 (bo .geq 18 16 17),lp 19 15 18],.cond 19 (aq [ah [fi 4],.ret]) .skip]),ah [bn .add 20 9 1,ab 9 20]])))],ah [qH 4],.ret])
def acF:List bZ:=[.tmp 4]
theorem aqc (NN:Nat) (x:bj (ar.bi Kr)):fB NN [] aeX acF Kr U3 x=Ps NN x:=by kernel_rfl
theorem anp:c6 pX 88 aeX.er acF 2=true:=by decide+kernel
theorem arv:eY pX 88 ZV.M/\cz pX 88=true:=
  fO (args:=Kr) (ax:=U3) (aC.nil) dN anp CS fun x y h=>(aqc aM x).trans (akc x y h)
def Z9:aw:=⟨67,KL,apm,Vm,Ax⟩
def afh:ca:=
 (aq [ah [ez 3 4 1,fi 4],aq [ah [aK 5 0 3,au 6 1 5,bn .lss 7 6 0,ab 8 7,cR 8 (aK 9 0 3),cR 8 (au 10 1 9),cR 8 (bn .gtr 11 10 32),lp 12 8 11,ab 13 12,cR 13 (aK 14 2 3),cR 13 (au 15 1 14),cR 13 (bn .lss 16 15 0),lp 17 13 16,ab 18 17,cR 18 (aK 19 2 3),cR 18 (au 20 1 19),cR 18 (bn .gtr 21 20 32),lp 22 18 21,ab 23 22,cR 23 (aK 24 1 3),cR 23 (au 25 1 24),cR 23 (bn .lss 26 25 1),lp 27 23 26,ab 28 27,cR 28 (aK 29 1 3),cR 28 (au 30 1 29),cR 28 (bn .gtr 31 30 8),lp 32 28 31],.cond 32 (aq [ah [fi 4],.ret]) .skip],ah [aK 33 3 3,au 34 1 33,dM 35 34,aK 36 0 3,au 37 1 36,aK 38 1 3,au 39 1 38,bo .mul 40 37 39,aK 41 2 3,au 42 1 41,bo .mul 43 40 42,bo .eql 44 35 43,ab 45 44,cb 45 (ab 46 0),cb 45 (aK 47 3 3),cb 45 (au 48 1 47),cb 45 (cv 49 88 [46,48]),iq 50 45 49,ab 4 50],.ret])
def ac0:List bZ:=[.tmp 4]
theorem aqw (NN:Nat) (x:bj (ar.bi KL)):fB NN [ZV] afh ac0 KL Vm x=PH NN x:=by kernel_rfl
theorem anK:c6 pX 67 afh.er ac0 2=true:=by decide+kernel
theorem arJ:eY pX 67 Z9.M/\cz pX 67=true:=
  fO (args:=KL) (ax:=Vm) (aC.cons arv<|aC.nil) dN anK Ax fun x y h=>(aqw aM x).trans (akw x y h)
def LZ:aw:=⟨27,J4,aoM,UF,sC⟩
def aeA:ca:=
 (aq [ah [ez 1 2 0,fi 2],aq [ah [aK 7 0 1,au 8 1 7,cv 9 66 [8],lS 10 9,ab 11 10,cR 11 (aK 12 1 1),cR 11 (au 13 1 12),cR 11 (dM 14 13),cR 11 (bn .lss 15 14 1),lp 16 11 15,ab 17 16,cR 17 (aK 18 1 1),cR 17 (au 19 1 18),cR 17 (dM 20 19),cR 17 (bn .gtr 21 20 8),lp 22 17 21],.cond 22 (aq [ah [fi 2],.ret]) .skip],ah [cU 3 1,cU 4 1],aq [ah [aK 23 1 1,au 24 1 23,dM 25 24,cU 26 0],.join ⟨[aA 3,aA 4],[]⟩ [1] [] (.block 0 (.loop 0 ⟨[aJ 1 1,aA 3,aA 4,(24,.one (hH)),aA 25,aA 26],[aN 1 [vX,hH]]⟩ [1,6] [] (aq [ah [bo .lss 27 26 25],eZ 27 0,.block 1 (aq [ah [dh 28 4 24 26,bR 29 4 28,fz 6 [zX,zX,zX,.nil iX],cC 4 6 29],aq [ah [aK 30 0 1,au 31 1 30,bR 32 4 6,cv 33 67 [31,32],lS 34 33,ab 35 34,cR 35 (aK 36 0 6),cR 35 (au 37 1 36),cR 35 (ab 38 3),cR 35 (bo .neq 39 37 38),lp 40 35 39],.cond 40 (aq [ah [fi 2],.ret]) .skip],ah [aK 41 2 6,au 42 1 41,ab 3 42],ah [ab 43 4,aK 44 1 6,au 45 1 44,bo .mul 46 43 45,ab 4 46]]),ah [bn .add 47 26 1,ab 26 47]])))],ah [ab 48 3,bn .eql 49 48 1,ab 50 49,cb 50 (ab 51 4),cb 50 (bn .leq 52 51 4096),iq 53 50 52,ab 2 53],.ret])
def acg:List bZ:=[.tmp 2]
theorem apN (NN:Nat) (x:bj (ar.bi J4)):fB NN [QX,Z9] aeA acg J4 UF x=Pc NN x:=by kernel_rfl
theorem am1:c6 pX 27 aeA.er acg 1=true:=by decide+kernel
theorem T2:eY pX 27 LZ.M/\cz pX 27=true:=
  fO (args:=J4) (ax:=UF) (aC.cons adB<|aC.cons arJ<|aC.nil) dN am1 sC fun x y h=>(apN aM x).trans (ajP x y h)
def Q3:aw:=⟨39,Kk,aoZ,UW,wP⟩
def aeQ:ca:=
 (aq [ah [ez 1 2 0,o7 2],ah [o7 3],aq [ah [aK 6 1 1,au 7 1 6,dM 8 7,cU 9 0],.join ⟨[eu 3 701 1],[aO 701]⟩ [700,701] [eJ 3 701] (.block 0 (.loop 0 ⟨[eu 3 700 1,(7,.one (hH)),aA 8,aA 9],[aO 700]⟩ [1,5,16,17,700] [eJ 3 700] (aq [ah [bo .lss 10 9 8],eZ 10 0,.block 1 (aq [ah [dh 11 4 7 9,bR 12 4 11,fz 5 [zX,zX,zX,.nil iX],cC 4 5 12],ah [ab 13 3,aK 14 1 5,au 15 1 14,oX 16 (.hZ iX [15]),oX 17 (.append true iX 8 13 16),ab 3 17]]),ah [bn .add 18 9 1,ab 9 18]])))],ah [ab 19 3,ab 2 19],.ret])
def acy:List bZ:=[.tmp 2]
theorem ap5 (NN:Nat) (x:bj (ar.bi Kk)):fB NN [] aeQ acy Kk UW x=Xq NN x:=by kernel_rfl
theorem ani:c6 pX 39 aeQ.er acy 1=true:=by decide+kernel
theorem adH:eY pX 39 Q3.M/\cz pX 39=true:=
  fO (args:=Kk) (ax:=UW) (aC.nil) dN ani wP fun x y h=>(ap5 aM x).trans (aj5 x y h)
def Q5:aw:=⟨63,Ko,ao3,U0,yw⟩
def aeU:ca:=
 (aq [ah [fi 4],aq [ah [ab 6 0,dM 7 6,ab 8 1,dM 9 8,bo .neq 10 7 9],.cond 10 (aq [ah [fi 4],.ret]) .skip],aq [ah [ab 11 0,dM 12 11,cU 13 0],.join ⟨[],[]⟩ [] [] (.block 0 (.loop 0 ⟨[eH 0,eH 1,aA 12,aA 13],[]⟩ [] [] (aq [ah [bo .lss 14 13 12],eZ 14 0,.block 1 (aq [ah [ab 15 13,ab 5 15],.eF true [ab 16 0,ab 17 5,dh 18 1 16 17,au 19 1 18,ab 20 1,ab 21 5,dh 22 1 20 21,au 23 1 22,bo .neq 24 19 23],.cond 24 (aq [ah [fi 4],.ret]) .skip]),ah [bn .add 25 13 1,ab 13 25]])))],ah [qH 4],.ret])
def acC:List bZ:=[.tmp 4]
theorem ap9 (NN:Nat) (x:bj (ar.bi Ko)):fB NN [] aeU acC Ko U0 x=Pq NN x:=by kernel_rfl
theorem anm:c6 pX 63 aeU.er acC 2=true:=by decide+kernel
theorem adJ:eY pX 63 Q5.M/\cz pX 63=true:=
  fO (args:=Ko) (ax:=U0) (aC.nil) dN anm yw fun x y h=>(ap9 aM x).trans (aj9 x y h)
def Q7:aw:=⟨25,KK,apl,Vl,yy⟩
def afg:ca:=
 (aq [ah [ez 2 2 0,ez 3 2 1,fi 4],.eF true [bR 5 2 2,cv 6 27 [5],ab 7 6,cb 7 (bR 8 2 3),cb 7 (cv 9 27 [8]),iq 10 7 9,ab 11 10,cb 11 (aK 12 0 2),cb 11 (au 13 1 12),cb 11 (aK 14 0 3),cb 11 (au 15 1 14),cb 11 (bo .eql 16 13 15),iq 17 11 16,ab 18 17,cb 18 (bR 19 2 2),cb 18 (cv 20 39 [19]),cb 18 (bR 21 2 3),cb 18 (cv 22 39 [21]),cb 18 (cv 23 63 [20,22]),iq 24 18 23,ab 4 24],.ret])
def acZ:List bZ:=[.tmp 4]
theorem aqv (NN:Nat) (x:bj (ar.bi KK)):fB NN [LZ,Q3,Q5] afg acZ KK Vl x=PG NN x:=by kernel_rfl
theorem anJ:c6 pX 25 afg.er acZ 2=true:=by decide+kernel
theorem adL:eY pX 25 Q7.M/\cz pX 25=true:=
  fO (args:=KK) (ax:=Vl) (aC.cons T2<|aC.cons adH<|aC.cons adJ<|aC.nil) dN anJ yy fun x y h=>(aqv aM x).trans (akv x y h)
def L3:aw:=⟨65,Kd,aoT,UN,t7⟩
def aeI:ca:=
 (aq [ah [ez 4 4 0,cU 8 0],ah [aK 9 3 4,au 10 1 9,ab 11 1,aK 12 1 4,au 13 1 12,bo .mul 14 11 13,ab 15 2,bo .add 16 14 15,aK 17 2 4,au 18 1 17,bo .mul 19 16 18,ab 20 3,bo .add 21 19 20,dh 22 1 10 21,au 23 1 22,ab 8 23],.ret])
def acp:List bZ:=[.tmp 8]
theorem apV (NN:Nat) (x:bj (ar.bi Kd)):fB NN [] aeI acp Kd UN x=Pk NN x:=by kernel_rfl
theorem am9:c6 pX 65 aeI.er acp 4=true:=by decide+kernel
theorem T5:eY pX 65 L3.M/\cz pX 65=true:=
  fO (args:=Kd) (ax:=UN) (aC.nil) dN am9 t7 fun x y h=>(apV aM x).trans (ajX x y h)
def ZS:aw:=⟨64,Kh,Nw,US,wO⟩
def aeN:ca:=
 (aq [ah [ez 5 4 0],ah [cU 8 0],.block 0 (.loop 0 ⟨[aA 1,aA 2,(3,.one (.c (.cN gX 0 3 1000000 1))),(4,.one (.c (.dr iX 0))),aJ 5 5,aA 8],[(1000000,.row false .bc iX),aN 5 [vX,vX,vX,cq]]⟩ [1000000,5] [] (aq [aq [ah [ab 12 8,aK 13 0 5,au 14 1 13,bo .lss 15 12 14],eZ 15 0],.join ⟨[aA 8,aA 1,aA 2,(3,.one (.c (.cN gX 0 3 1000000 1))),(4,.one (.c (.dr iX 0))),aJ 5 5],[(1000000,.row false .bc iX),aN 5 [vX,vX,vX,cq]]⟩ [1000000,5] [] (.block 1 (aq [ah [cU 9 0],.block 2 (.loop 0 ⟨[aA 1,aA 2,(3,.one (.c (.cN gX 0 3 1000000 1))),(4,.one (.c (.dr iX 0))),aJ 5 5,aA 8,aA 9],[(1000000,.row false .bc iX),aN 5 [vX,vX,vX,cq]]⟩ [1000000,5] [] (aq [aq [ah [ab 18 9,aK 19 1 5,au 20 1 19,bo .lss 21 18 20],eZ 21 2],.join ⟨[aA 9,aA 1,aA 2,(3,.one (.c (.cN gX 0 3 1000000 1))),(4,.one (.c (.dr iX 0))),aJ 5 5,aA 8],[(1000000,.row false .bc iX),aN 5 [vX,vX,vX,cq]]⟩ [1000000,5] [] (.block 3 (aq [ah [cU 10 0],.block 4 (.loop 0 ⟨[aA 1,aA 2,(3,.one (.c (.cN gX 0 3 1000000 1))),(4,.one (.c (.dr iX 0))),aJ 5 5,aA 8,aA 9,aA 10],[(1000000,.row false .bc iX),aN 5 [vX,vX,vX,cq]]⟩ [1000000,5] [] (aq [aq [ah [ab 24 10,aK 25 2 5,au 26 1 25,bo .lss 27 24 26],eZ 27 4],.block 5 (aq [ah [ab 30 1,ab 31 8,bo .add 32 30 31,aK 33 1 3,au 34 1 33,bo .mul 35 32 34,ab 36 9,bo .add 37 35 36,aK 38 2 3,au 39 1 38,bo .mul 40 37 39,ab 41 2,bo .add 42 40 41,ab 43 10,bo .add 44 42 43,ab 11 44],.eF true [aK 45 3 3,au 46 1 45,ab 47 11,aK 48 3 3,au 49 1 48,ab 50 11,dh 51 1 49 50,au 52 1 51,bR 53 4 5,ab 54 8,ab 55 9,ab 56 10,cv 57 65 [53,54,55,56],bo .add 58 52 57,au 59 1 4,bo .rem 60 58 59,dh 61 1 46 47,cC 1 61 60]]),ah [ab 28 10,bn .add 29 28 1,ab 10 29]]))])),ah [ab 22 9,bn .add 23 22 1,ab 9 23]]))])),ah [ab 16 8,bn .add 17 16 1,ab 8 17]]))])
def acv:List bZ:=[]
theorem ap0 (NN:Nat) (x:bj (ar.bi Kh)):Co NN [L3] aeN acv Kh Nw US x=Jr NN x:=by kernel_rfl
theorem anf:c6 pX 64 aeN.er acv 5=true:=by decide+kernel
theorem ars:vo pX 64 Nw ZS.MM/\cz pX 64=true:=
  H5 (args:=Kh) (mu:=Nw) (ax:=US) (aC.cons T5<|aC.nil) dN anf wO fun x y h=>(ap0 aM x).trans (aj2 x y h)
def ZR:aw:=⟨26,Kg,aoW,UR,Au⟩
def aeM:ca:=
 (aq [ah [ez 5 1 0,ez 6 4 1,ez 7 4 2,fz 10 [zX,zX,zX,.nil iX]],ah [aK 15 0 6,au 16 1 15,aK 17 0 7,au 18 1 17,bo .add 19 16 18,aK 20 1 6,au 21 1 20,aK 22 2 6,au 23 1 22,aK 24 2 7,au 25 1 24,bo .add 26 23 25,oX 27 (.build [zX,zX,zX,.nil iX] [(0,1,19),(1,1,21),(2,1,26)]),fz 11 [zX,zX,zX,.nil iX],cC 4 11 27],.eF true [aK 28 0 6,au 29 1 28,aK 30 2 6,au 31 1 30,ab 12 29,ab 13 31],aq [ah [ab 32 3],.join ⟨[(4,.one (.c (.v (.bool)))),aJ 5 5,aJ 6 6,aJ 7 7,aA 12,aA 13,aJ 11 11,aJ 10 10],[aN 5 [vX],aN 6 [vX,vX,vX,cq],aN 7 [vX,vX,vX,cq],aN 10 [vX,vX,vX,fX 700 1],aN 11 [vX,vX,vX,fX 701 1],aO 700,aO 701]⟩ [5,6,7,10,11,700,701] [bm 10 3 700,bm 11 3 701] (.cond 32 (ah [aK 33 0 11,uX (.store 1 33 (kX 1)),cU 12 0]) .skip)],aq [ah [ab 34 4],.join ⟨[aJ 5 5,aJ 6 6,aJ 7 7,aA 12,aA 13,aJ 11 11,aJ 10 10],[aN 5 [vX],aN 6 [vX,vX,vX,cq],aN 7 [vX,vX,vX,cq],aN 10 [vX,vX,vX,fX 702 1],aN 11 [vX,vX,vX,fX 703 1],aO 702,aO 703]⟩ [5,6,7,10,11,700,701,702,703] [bm 10 3 702,bm 11 3 703] (.cond 34 (ah [aK 35 2 11,uX (.store 1 35 (kX 1)),cU 13 0]) .skip)],ah [aK 36 0 11,au 37 1 36,aK 38 1 11,au 39 1 38,bo .mul 40 37 39,aK 41 2 11,au 42 1 41,bo .mul 43 40 42,oX 44 (.jK .bc iX 8 (0:Int) 43 43),aK 45 3 11,cC 1 45 44],ah [oX 46 (.re 64 [11,5]),ab 14 46],ah [ab 47 14,bR 48 4 6,oX 49 (.o8 .bc 64 47 [48,(kX 0),(kX 0)])],ah [ab 50 14,bR 51 4 7,ab 52 12,ab 53 13,oX 54 (.o8 .bc 64 50 [51,52,53])],ah [bR 55 4 11,cC 4 10 55],.ret])
def acu:List bZ:=[.cell 10 4 true]
theorem apZ (NN:Nat) (x:bj (ar.bi Kg)):fB NN [ZS] aeM acu Kg UR x=Jq NN x:=by kernel_rfl
theorem ane:c6 pX 26 aeM.er acu 5=true:=by decide+kernel
theorem arq:eY pX 26 ZR.M/\cz pX 26=true:=
  fO (args:=Kg) (ax:=UR) (aC.w6 ars<|aC.nil) dN ane Au fun x y h=>(apZ aM x).trans (aj1 x y h)
def ZL:aw:=⟨8,J2,aoK,UD,As⟩
def aey:ca:=
 (aq [ah [ez 2 2 0,ez 3 2 1,fz 4 [zX,.nil gX],fi 5],aq [ah [bR 9 2 2,bR 10 2 3,cv 11 25 [9,10],lS 12 11],.cond 12 (aq [ah [oX 13 (.build [zX,.nil gX] []),cC 2 4 13,fi 5],.ret]) .skip],ah [aK 14 0 2,au 15 1 14,oX 16 (.build [zX,.nil gX] [(0,1,15)]),fz 6 [zX,.nil gX],cC 2 6 16],aq [ah [aK 17 1 2,au 18 1 17,dM 19 18,cU 20 0],.join ⟨[aJ 6 6,aJ 4 4],[aN 4 [vX,fX 702 4],aN 6 [vX,fX 703 4],(702,.row true .bc gX),(703,.row true .bc gX)]⟩ [2,3,4,6,700,701,702,703] [bm 4 1 702,bm 6 1 703] (.block 0 (.loop 0 ⟨[aJ 2 2,aJ 3 3,aJ 4 4,aJ 6 6,(18,.one (hH)),aA 19,aA 20],[aN 2 [vX,hH],aN 3 [vX,hH],aN 4 [vX,fX 700 4],aN 6 [vX,fX 701 4],(700,.row true .bc gX),(701,.row true .bc gX)]⟩ [2,3,4,6,8,45,700,701] [bm 4 1 700,bm 6 1 701] (aq [ah [bo .lss 21 20 19],eZ 21 0,.block 1 (aq [ah [ab 22 20,dh 23 4 18 20,bR 24 4 23,fz 8 [zX,zX,zX,.nil iX],ab 7 22,cC 4 8 24],.rl [(0,19),(1,19)] [aK 25 1 6,au 26 1 25,aK 27 0 2,au 28 1 27,bR 29 4 8,aK 30 1 3,au 31 1 30,ab 32 7,dh 33 4 31 32,bR 34 4 33,ab 35 7,bn .eql 36 35 0,ab 37 7,aK 38 1 2,au 39 1 38,dM 40 39,bn .sub 41 40 1,bo .eql 42 37 41,cv 43 26 [28,29,34,36,42],oX 44 (.hZ gX [43]),oX 45 (.append false gX 48 26 44),aK 46 1 6,cC 1 46 45]]),ah [bn .add 47 20 1,ab 20 47]])))],aq [ah [bR 48 2 6,cv 49 27 [48],lS 50 49],.cond 50 (aq [ah [oX 51 (.build [zX,.nil gX] []),cC 2 4 51,fi 5],.ret]) .skip],ah [bR 52 2 6,cC 2 4 52,qH 5],.ret])
def ace:List bZ:=[.cell 4 2 true,.tmp 5]
theorem apL (NN:Nat) (x:bj (ar.bi J2)):fB NN [Q7,ZR,LZ] aey ace J2 UD x=Pb NN x:=by kernel_rfl
theorem amZ:c6 pX 8 aey.er ace 2=true:=by decide+kernel
theorem ark:eY pX 8 ZL.M/\cz pX 8=true:=
  fO (args:=J2) (ax:=UD) (aC.cons adL<|aC.cons arq<|aC.cons T2<|aC.nil) dN amZ As fun x y h=>(apL aM x).trans (ajN x y h)
def Z2:aw:=⟨40,KA,apc,Vc,Aw⟩
def ae6:ca:=
 (aq [ah [ez 2 2 0,cU 4 0],ah [oX 12 (.hZ iX [(kX 1)]),ab 5 12],aq [ah [aK 13 1 2,au 14 1 13,dM 15 14,cU 16 0],.join ⟨[eu 5 709 1],[aO 709]⟩ [2,700,709] [eJ 5 709] (.block 0 (.loop 0 ⟨[eH 1,aJ 2 2,eu 5 700 1,(14,.one (hH)),aA 15,aA 16],[aN 2 [vX,hH],aO 700]⟩ [2,12,700,708] [eJ 5 700] (aq [ah [bo .lss 17 16 15],eZ 17 0,.join ⟨[aA 16,eH 1,aJ 2 2,eu 5 708 1,(14,.one (hH)),aA 15],[aN 2 [vX,hH],aO 708]⟩ [2,707,708] [eJ 5 708] (.block 1 (aq [ah [ab 18 16,dh 19 4 14 16,bR 20 4 19,fz 7 [zX,zX,zX,.nil iX],ab 6 18,cC 4 7 20],ah [aK 21 2 7,au 22 1 21,oX 23 (.jK .bc iX 8 (0:Int) 22 22),ab 8 23],aq [ah [ab 24 8,dM 25 24,cU 26 0],.join ⟨[eu 8 707 1,aA 16,eH 1,aJ 2 2,(14,.one (hH)),aA 15],[aN 2 [vX,hH],aO 707]⟩ [2,7,701,702,707] [eJ 8 707] (.block 2 (.loop 0 ⟨[eH 1,aJ 2 2,eu 5 701 1,aA 6,aJ 7 7,eu 8 702 1,(14,.one (hH)),aA 15,aA 16,aA 25,aA 26],[aN 2 [vX,hH],aN 7 [vX,vX,vX,cq],aO 701,aO 702]⟩ [2,7,23,700,701,702,705,706] [eJ 5 701,eJ 8 702] (aq [ah [bo .lss 27 26 25],eZ 27 2,.join ⟨[aA 26,eH 1,aJ 2 2,eu 5 705 1,aA 6,aJ 7 7,eu 8 706 1,(14,.one (hH)),aA 15,aA 16,aA 25],[aN 2 [vX,hH],aN 7 [vX,vX,vX,cq],aO 705,aO 706]⟩ [2,7,703,704,705,706] [eJ 5 705,eJ 8 706] (.block 3 (aq [ah [ab 28 26,ab 9 28],ah [ab 29 5,dM 30 29,cU 31 0],.block 4 (.loop 0 ⟨[eH 1,aJ 2 2,eu 5 703 1,aA 6,aJ 7 7,eu 8 704 1,aA 9,(14,.one (hH)),aA 15,aA 16,aA 25,aA 26,eu 29 703 1,aA 30,aA 31],[aN 2 [vX,hH],aN 7 [vX,vX,vX,cq],aO 703,aO 704]⟩ [2,7,701,702,703,704] [eJ 5 703,eJ 8 704] (aq [ah [bo .lss 32 31 30],eZ 32 4,.block 5 (aq [ah [ab 33 31,dh 34 1 29 31,au 35 1 34,ab 10 33,ab 11 35],.eF true [ab 36 8,ab 37 9,ab 38 8,ab 39 9,dh 40 1 38 39,au 41 1 40,ab 42 11,bR 43 4 7,ab 44 10,ab 45 1,ab 46 6,dh 47 1 45 46,au 48 1 47,ab 49 9,cv 50 65 [43,44,48,49],bo .mul 51 42 50,bo .add 52 41 51,aK 53 0 2,au 54 1 53,bo .rem 55 52 54,dh 56 1 36 37,cC 1 56 55]]),ah [bn .add 57 31 1,ab 31 57]]))])),ah [bn .add 58 26 1,ab 26 58]])))],ah [ab 59 8,ab 5 59]])),ah [bn .add 60 16 1,ab 16 60]])))],ah [ab 61 5,iE 62 1 61 0,au 63 1 62,ab 4 63],.ret])
def acP:List bZ:=[.tmp 4]
theorem aql (NN:Nat) (x:bj (ar.bi KA)):fB NN [L3] ae6 acP KA Vc x=Px NN x:=by kernel_rfl
theorem anz:c6 pX 40 ae6.er acP 2=true:=by decide+kernel
theorem arC:eY pX 40 Z2.M/\cz pX 40=true:=
  fO (args:=KA) (ax:=Vc) (aC.cons T5<|aC.nil) dN anz Aw fun x y h=>(aql aM x).trans (akl x y h)
def L5:aw:=⟨41,Ky,NA,Va,sF⟩
def ae4:ca:=
 (aq [ah [fi 4],aq [ah [ab 6 0,dM 7 6,bn .sub 8 7 1,ab 5 8],.join ⟨[],[(1000000,.row false .bc iX)]⟩ [1000000] [] (.block 0 (.loop 0 ⟨[eH 0,eu 1 1000000 1,aA 5],[(1000000,.row false .bc iX)]⟩ [1000000,700] [eJ 1 700] (aq [aq [ah [ab 9 5,bn .geq 10 9 0],eZ 10 0],.block 1 (aq [ah [ab 13 1,ab 14 5,dh 15 1 13 14,au 16 1 15,bn .add 17 16 1,dh 18 1 13 14,cC 1 18 17],aq [.eF true [ab 19 1,ab 20 5,dh 21 1 19 20,au 22 1 21,ab 23 0,ab 24 5,dh 25 1 23 24,au 26 1 25,bo .lss 27 22 26],.cond 27 (aq [ah [qH 4],.ret]) .skip],ah [ab 28 1,ab 29 5,dh 30 1 28 29,uX (.store 1 30 (kX 0))]]),ah [ab 11 5,bn .sub 12 11 1,ab 5 12]])))],ah [fi 4],.ret])
def acM:List bZ:=[.tmp 4]
theorem aqj (NN:Nat) (x:bj (ar.bi Ky)):Co NN [] ae4 acM Ky NA Va x=Pv NN x:=by kernel_rfl
theorem anw:c6 pX 41 ae4.er acM 2=true:=by decide+kernel
theorem T7:vo pX 41 NA L5.MM/\cz pX 41=true:=
  H5 (args:=Ky) (mu:=NA) (ax:=Va) (aC.nil) dN anw sF fun x y h=>(aqj aM x).trans (akj x y h)
def ZN:aw:=⟨16,J5,aoN,UG,t6⟩
def aeB:ca:=
 (aq [ah [ez 1 2 0,fz 2 [.nil iX,.nil iX,.nil iX]],aq [ah [bR 6 2 1,cv 7 27 [6],lS 8 7],.cond 8 (aq [ah [oX 9 (.build [.nil iX,.nil iX,.nil iX] []),cC 3 2 9],.ret]) .skip],ah [bR 10 2 1,cv 11 39 [10],oX 12 (.build [.nil iX,.nil iX,.nil iX] [(1,1,11)]),fz 3 [.nil iX,.nil iX,.nil iX],cC 3 3 12],aq [ah [aK 13 1 1,au 14 1 13,dM 15 14,cU 16 0],.join ⟨[aJ 3 3,aJ 2 2,aJ 1 1],[aN 1 [vX,hH],aN 2 [fX 706 1,fX 707 1,fX 708 1],aN 3 [fX 709 1,fX 710 1,fX 711 1],aO 706,aO 707,aO 708,aO 709,aO 710,aO 711]⟩ [1,2,3,700,701,702,703,704,705,706,707,708,709,710,711] [bm 2 0 706,bm 2 1 707,bm 2 2 708,bm 3 0 709,bm 3 1 710,bm 3 2 711] (.block 0 (.loop 0 ⟨[aJ 1 1,aJ 2 2,aJ 3 3,aA 15,aA 16],[aN 1 [vX,hH],aN 2 [fX 700 1,fX 701 1,fX 702 1],aN 3 [fX 703 1,fX 704 1,fX 705 1],aO 700,aO 701,aO 702,aO 703,aO 704,aO 705]⟩ [1,2,12000,3,22,23,700,701,702,703,704,705] [bm 2 0 700,bm 2 1 701,bm 2 2 702,bm 3 0 703,bm 3 1 704,bm 3 2 705] (aq [ah [bo .lss 17 16 15],eZ 17 0,.block 1 (aq [ah [ab 18 16,ab 4 18],ah [aK 19 0 3,au 20 1 19,ab 21 4,oX 22 (.hZ iX [21]),oX 23 (.append true iX 8 20 22),aK 24 0 3,cC 1 24 23]]),ah [bn .add 25 16 1,ab 16 25]])))],ah [aK 26 1 3,au 27 1 26,dM 28 27,oX 29 (.jK .bc iX 8 (0:Int) 28 28),ab 5 29],.block 2 (.loop 0 ⟨[aJ 1 1,aJ 2 2,aJ 3 3,eu 5 718 1],[aN 1 [vX,hH],aN 2 [fX 712 1,fX 713 1,fX 714 1],aN 3 [fX 715 1,fX 716 1,fX 717 1],aO 712,aO 713,aO 714,aO 715,aO 716,aO 717,aO 718]⟩ [1,2,3,29,35,36,706,707,708,709,710,711,712,713,714,715,716,717,718] [bm 2 0 712,bm 2 1 713,bm 2 2 714,bm 3 0 715,bm 3 1 716,bm 3 2 717,eJ 5 718] (.block 3 (aq [.rl [(0,5),(1,5)] [aK 30 2 3,au 31 1 30,bR 32 2 1,ab 33 5,cv 34 40 [32,33],oX 35 (.hZ iX [34]),oX 36 (.append true iX 8 31 35),aK 37 2 3,cC 1 37 36],ah [aK 38 1 3,au 39 1 38,ab 40 5,oX 41 (.lv .bc 41 [39,40]),lS 42 41],.cond 42 (aq [ah [bR 43 3 3,cC 3 2 43],.ret]) .skip])))])
def ach:List bZ:=[.cell 2 3 true]
theorem apO (NN:Nat) (x:bj (ar.bi J5)):fB NN [LZ,Q3,Z2,L5] aeB ach J5 UG x=Pf NN x:=by kernel_rfl
theorem am2:c6 pX 16 aeB.er ach 1=true:=by decide+kernel
theorem arm:eY pX 16 ZN.M/\cz pX 16=true:=
  fO (args:=J5) (ax:=UG) (aC.cons T2<|aC.cons adH<|aC.cons arC<|aC.w6 T7<|aC.nil) dN am2 t6 fun x y h=>(apO aM x).trans (ajQ x y h)
def ZQ:aw:=⟨79,Kc,aoS,UM,CP⟩
def aeH:ca:=
 (aq [ah [ez 1 3 0,fi 2],aq [ah [aK 3 0 1,au 4 1 3],.block 0 (aq [ah [bn .eql 6 4 1,ab 5 6],.cond 5 (aq [ah [aK 7 1 1,au 8 1 7,bn .eql 9 8 0,ab 10 9,cb 10 (aK 11 2 1),cb 10 (au 12 1 11),cb 10 (bn .eql 13 12 0),iq 14 10 13,ab 2 14],.ret]) (aq [ah [bn .eql 16 4 2,ab 15 16],.cond 15 (aq [ah [aK 17 1 1,au 18 1 17,cv 19 66 [18],ab 20 19,cb 20 (aK 21 2 1),cb 20 (au 22 1 21),cb 20 (bn .eql 23 22 0),iq 24 20 23,ab 2 24],.ret]) (aq [aq [ah [bn .eql 26 4 3,ab 25 26],.join ⟨[(25,.one (.c (.v (.bool)))),aA 4,aJ 1 1],[aN 1 [vX,vX,vX]]⟩ [1] [] (.cond 25 .skip (aq [ah [bn .eql 27 4 4,ab 25 27],.cond 25 .skip (ah [bn .eql 28 4 5,ab 25 28])]))],.cond 25 (aq [ah [aK 29 1 1,au 30 1 29,bn .geq 31 30 1,ab 32 31,cb 32 (aK 33 1 1),cb 32 (au 34 1 33),cb 32 (bn .leq 35 34 1000000),iq 36 32 35,ab 37 36,cb 37 (aK 38 2 1),cb 37 (au 39 1 38),cb 37 (bn .eql 40 39 0),iq 41 37 40,ab 2 41],.ret]) (aq [ah [bn .eql 43 4 6,ab 42 43],.cond 42 (aq [ah [aK 44 1 1,au 45 1 44,bn .eql 46 45 0,ab 47 46,cb 47 (aK 48 2 1),cb 47 (au 49 1 48),cb 47 (bn .geq 50 49 1),iq 51 47 50,ab 52 51,cb 52 (aK 53 2 1),cb 52 (au 54 1 53),cb 52 (bn .leq 55 54 20),iq 56 52 55,ab 2 56],.ret]) (aq [ah [bn .eql 58 4 7,ab 57 58],.cond 57 (aq [ah [aK 59 1 1,au 60 1 59,cv 61 66 [60],ab 62 61,cb 62 (aK 63 2 1),cb 62 (au 64 1 63),cb 62 (bn .geq 65 64 1),iq 66 62 65,ab 67 66,cb 67 (aK 68 2 1),cb 67 (au 69 1 68),cb 67 (bn .leq 70 69 6),iq 71 67 70,ab 2 71],.ret]) (aq [ah [bn .eql 73 4 8,ab 72 73],.cond 72 (aq [ah [aK 74 1 1,au 75 1 74,cv 76 66 [75],ab 77 76,cb 77 (aK 78 1 1),cb 77 (au 79 1 78),cb 77 (bn .neq 80 79 2),iq 81 77 80,ab 82 81,cb 82 (aK 83 2 1),cb 82 (au 84 1 83),cb 82 (bn .eql 85 84 0),iq 86 82 85,ab 2 86],.ret]) .skip])])])])])])],ah [fi 2],.ret])
def aco:List bZ:=[.tmp 2]
theorem apU (NN:Nat) (x:bj (ar.bi Kc)):fB NN [QX] aeH aco Kc UM x=Pj NN x:=by kernel_rfl
theorem am8:c6 pX 79 aeH.er aco 1=true:=by decide+kernel
theorem arp:eY pX 79 ZQ.M/\cz pX 79=true:=
  fO (args:=Kc) (ax:=UM) (aC.cons adB<|aC.nil) dN am8 CP fun x y h=>(apU aM x).trans (ajW x y h)
def GF:aw:=⟨83,Kq,ao5,U2,pW⟩
def aeW:ca:=
 (aq [ah [fi 4],aq [ah [ab 7 0,dM 8 7,cU 9 0],.join ⟨[],[]⟩ [] [] (.block 0 (.loop 0 ⟨[aA 1,eH 7,aA 8,aA 9],[]⟩ [] [] (aq [ah [bo .lss 10 9 8],eZ 10 0,.block 1 (aq [ah [dh 11 1 7 9,au 12 1 11,ab 6 12],ah [ab 13 1,ab 14 6,bo .eql 15 13 14],.cond 15 (aq [ah [qH 4],.ret]) .skip]),ah [bn .add 16 9 1,ab 9 16]])))],ah [fi 4],.ret])
def acE:List bZ:=[.tmp 4]
theorem aqb (NN:Nat) (x:bj (ar.bi Kq)):fB NN [] aeW acE Kq U2 x=Pr NN x:=by kernel_rfl
theorem ano:c6 pX 83 aeW.er acE 2=true:=by decide+kernel
theorem NS:eY pX 83 GF.M/\cz pX 83=true:=
  fO (args:=Kq) (ax:=U2) (aC.nil) dN ano pW fun x y h=>(aqb aM x).trans (akb x y h)
def Q0:aw:=⟨49,Kf,aoV,UP,yr⟩
def aeK:ca:=
 (aq [ah [ez 1 3 0,cU 2 0],aq [ah [aK 7 0 1,au 8 1 7,dM 9 8,bn .gtr 10 9 12,ab 11 10,cR 11 (aK 12 0 1),cR 11 (au 13 1 12),cR 11 (dM 14 13),cR 11 (aK 15 1 1),cR 11 (au 16 1 15),cR 11 (dM 17 16),cR 11 (bo .neq 18 14 17),lp 19 11 18],.cond 19 (aq [ah [cU 2 (-1)],.ret]) .skip],ah [cU 3 1],aq [ah [aK 20 0 1,au 21 1 20,dM 22 21,cU 23 0],.join ⟨[aA 3],[]⟩ [1] [] (.block 0 (.loop 0 ⟨[aJ 1 1,aA 3,eH 21,aA 22,aA 23],[aN 1 [cq,cq,cq]]⟩ [1] [] (aq [ah [bo .lss 24 23 22],eZ 24 0,.block 1 (aq [ah [ab 25 23,dh 26 1 21 23,au 27 1 26,ab 4 25,ab 5 27],aq [ah [ab 28 5,bn .lss 29 28 0,ab 30 29,cR 30 (ab 31 5),cR 30 (bn .gtr 32 31 99),lp 33 30 32,ab 34 33,cR 34 (aK 35 0 1),cR 34 (au 36 1 35),cR 34 (ab 37 4),cR 34 (oX 38 (.slice 1 36 none (some 37))),cR 34 (ab 39 5),cR 34 (cv 40 83 [38,39]),lp 41 34 40],.cond 41 (aq [ah [cU 2 (-1)],.ret]) .skip],ah [aK 42 1 1,au 43 1 42,ab 44 4,dh 45 1 43 44,au 46 1 45,ab 6 46],aq [ah [ab 47 6,bn .lss 48 47 1,ab 49 48,cR 49 (ab 50 6),cR 49 (bn .gtr 51 50 8),lp 52 49 51,ab 53 52,cR 53 (ab 54 3),cR 53 (ab 55 6),cR 53 (bo .mul 56 54 55),cR 53 (bn .gtr 57 56 4096),lp 58 53 57],.cond 58 (aq [ah [cU 2 (-1)],.ret]) .skip],ah [ab 59 3,ab 60 6,bo .mul 61 59 60,ab 3 61]]),ah [bn .add 62 23 1,ab 23 62]])))],ah [ab 63 3,ab 2 63],.ret])
def acr:List bZ:=[.tmp 2]
theorem apX (NN:Nat) (x:bj (ar.bi Kf)):fB NN [GF] aeK acr Kf UP x=Pm NN x:=by kernel_rfl
theorem anb:c6 pX 49 aeK.er acr 1=true:=by decide+kernel
theorem adE:eY pX 49 Q0.M/\cz pX 49=true:=
  fO (args:=Kf) (ax:=UP) (aC.cons NS<|aC.nil) dN anb yr fun x y h=>(apX aM x).trans (ajZ x y h)
def DV:aw:=⟨53,KH,api,Vi,qE⟩
def afd:ca:=
 (aq [ah [ez 1 3 0,cU 2 0],aq [ah [aK 3 0 1,au 4 1 3],.block 0 (aq [ah [bn .eql 6 4 7,ab 5 6],.cond 5 (aq [ah [aK 7 2 1,au 8 1 7,ab 2 8],.ret]) (aq [ah [bn .eql 10 4 8,ab 9 10],.cond 9 (aq [ah [cU 2 4],.ret]) .skip])])],ah [cU 2 1],.ret])
def acW:List bZ:=[.tmp 2]
theorem aqs (NN:Nat) (x:bj (ar.bi KH)):fB NN [] afd acW KH Vi x=PE NN x:=by kernel_rfl
theorem anG:c6 pX 53 afd.er acW 1=true:=by decide+kernel
theorem Ii:eY pX 53 DV.M/\cz pX 53=true:=
  fO (args:=KH) (ax:=Vi) (aC.nil) dN anG qE fun x y h=>(aqs aM x).trans (aks x y h)
def Z5:aw:=⟨92,KF,apg,Vg,CZ⟩
def afb:ca:=
 (aq [ah [ez 1 3 0,cU 2 0],aq [ah [aK 3 0 1,au 4 1 3],.block 0 (aq [ah [bn .eql 6 4 1,ab 5 6],.cond 5 (aq [ah [cU 2 1],.ret]) (aq [aq [ah [bn .eql 8 4 3,ab 7 8],.join ⟨[(7,.one (.c (.v (.bool)))),aA 4,aJ 1 1],[aN 1 [vX,vX,vX]]⟩ [1] [] (.cond 7 .skip (aq [ah [bn .eql 9 4 4,ab 7 9],.cond 7 .skip (ah [bn .eql 10 4 5,ab 7 10])]))],.cond 7 (aq [ah [aK 11 1 1,au 12 1 11,ab 2 12],.ret]) (aq [ah [bn .eql 14 4 6,ab 13 14],.cond 13 (aq [ah [aK 15 2 1,au 16 1 15,oX 17 (.bin .shl (kX 1) 16),bn .sub 18 17 1,ab 2 18],.ret]) .skip])])])],ah [aK 19 1 1,au 20 1 19,bn .sub 21 20 1,ab 2 21],.ret])
def acU:List bZ:=[.tmp 2]
theorem aqq (NN:Nat) (x:bj (ar.bi KF)):fB NN [] afb acU KF Vg x=Xs NN x:=by kernel_rfl
theorem anE:c6 pX 92 afb.er acU 1=true:=by decide+kernel
theorem arF:eY pX 92 Z5.M/\cz pX 92=true:=
  fO (args:=KF) (ax:=Vg) (aC.nil) dN anE CZ fun x y h=>(aqq aM x).trans (akq x y h)
def ZW:aw:=⟨80,Ks,ao7,U4,CT⟩
def aeY:ca:=
 (aq [ah [ez 2 3 0,fi 4],ah [bR 8 3 2,cv 9 92 [8],ab 5 9],aq [ah [ab 10 1,dM 11 10,cU 12 0],.join ⟨[],[]⟩ [] [] (.block 0 (.loop 0 ⟨[aA 5,eH 10,aA 11,aA 12],[]⟩ [2] [] (aq [ah [bo .lss 13 12 11],eZ 13 0,.block 1 (aq [ah [dh 14 1 10 12,au 15 1 14,ab 7 15],ah [ab 16 7,bn .lss 17 16 0,ab 18 17,cR 18 (ab 19 7),cR 18 (ab 20 5),cR 18 (bo .gtr 21 19 20),lp 22 18 21],.cond 22 (aq [ah [fi 4],.ret]) .skip]),ah [bn .add 23 12 1,ab 12 23]])))],ah [qH 4],.ret])
def acG:List bZ:=[.tmp 4]
theorem aqd (NN:Nat) (x:bj (ar.bi Ks)):fB NN [Z5] aeY acG Ks U4 x=Pt NN x:=by kernel_rfl
theorem anq:c6 pX 80 aeY.er acG 2=true:=by decide+kernel
theorem arw:eY pX 80 ZW.M/\cz pX 80=true:=
  fO (args:=Ks) (ax:=U4) (aC.cons arF<|aC.nil) dN anq CT fun x y h=>(aqd aM x).trans (akd x y h)
def QZ:aw:=⟨46,Ke,aoU,UO,sD⟩
def aeJ:ca:=
 (aq [ah [ez 2 3 0,ez 3 3 1,fi 4],aq [ah [bR 6 3 2,cv 7 79 [6],lS 8 7],.cond 8 (aq [ah [fi 4],.ret]) .skip],ah [bR 9 3 3,cv 10 49 [9],ab 5 10],.eF true [ab 11 5,bn .neq 12 11 (-1),ab 13 12,cb 13 (aK 14 2 3),cb 13 (au 15 1 14),cb 13 (dM 16 15),cb 13 (ab 17 5),cb 13 (bR 18 3 2),cb 13 (cv 19 53 [18]),cb 13 (bo .mul 20 17 19),cb 13 (bo .eql 21 16 20),iq 22 13 21,ab 23 22,cb 23 (bR 24 3 2),cb 23 (aK 25 2 3),cb 23 (au 26 1 25),cb 23 (cv 27 80 [24,26]),iq 28 23 27,ab 4 28],.ret])
def acq:List bZ:=[.tmp 4]
theorem apW (NN:Nat) (x:bj (ar.bi Ke)):fB NN [ZQ,Q0,DV,ZW] aeJ acq Ke UO x=Pl NN x:=by kernel_rfl
theorem ana:c6 pX 46 aeJ.er acq 2=true:=by decide+kernel
theorem adD:eY pX 46 QZ.M/\cz pX 46=true:=
  fO (args:=Ke) (ax:=UO) (aC.cons arp<|aC.cons adE<|aC.cons Ii<|aC.cons arw<|aC.nil) dN ana sD fun x y h=>(apW aM x).trans (ajY x y h)
def Z8:aw:=⟨75,KJ,apk,Vk,C2⟩
def aff:ca:=
 (aq [ah [fi 4],aq [ah [ab 7 1,dM 8 7,ab 9 0,dM 10 9,bo .neq 11 8 10],.cond 11 (aq [ah [fi 4],.ret]) .skip],aq [ah [ab 12 1,dM 13 12,cU 14 0],.join ⟨[],[]⟩ [] [] (.block 0 (.loop 0 ⟨[eH 0,eH 1,eH 12,aA 13,aA 14],[]⟩ [] [] (aq [ah [bo .lss 15 14 13],eZ 15 0,.block 1 (aq [ah [ab 16 14,dh 17 1 12 14,au 18 1 17,ab 5 16,ab 6 18],ah [ab 19 1,ab 20 5,oX 21 (.slice 1 19 none (some 20)),ab 22 6,cv 23 83 [21,22],ab 24 23,cR 24 (ab 25 0),cR 24 (ab 26 6),cR 24 (cv 27 83 [25,26]),cR 24 (lS 28 27),lp 29 24 28],.cond 29 (aq [ah [fi 4],.ret]) .skip]),ah [bn .add 30 14 1,ab 14 30]])))],ah [qH 4],.ret])
def acY:List bZ:=[.tmp 4]
theorem aqu (NN:Nat) (x:bj (ar.bi KJ)):fB NN [GF] aff acY KJ Vk x=JA NN x:=by kernel_rfl
theorem anI:c6 pX 75 aff.er acY 2=true:=by decide+kernel
theorem arI:eY pX 75 Z8.M/\cz pX 75=true:=
  fO (args:=KJ) (ax:=Vk) (aC.cons NS<|aC.nil) dN anI C2 fun x y h=>(aqu aM x).trans (aku x y h)
def L4:aw:=⟨84,Kl,ao0,UX,sE⟩
def aeR:ca:=
 (aq [ah [o7 2],ah [ab 3 0,oX 4 (.append true iX 8 (.k (.one (.nil iX))) 3),ab 2 4],.ret])
def acz:List bZ:=[.tmp 2]
theorem ap6 (NN:Nat) (x:bj (ar.bi Kl)):fB NN [] aeR acz Kl UX x=Po NN x:=by kernel_rfl
theorem anj:c6 pX 84 aeR.er acz 1=true:=by decide+kernel
theorem T6:eY pX 84 L4.M/\cz pX 84=true:=
  fO (args:=Kl) (ax:=UX) (aC.nil) dN anj sE fun x y h=>(ap6 aM x).trans (aj6 x y h)
def Q2:aw:=⟨82,Kj,aoY,UU,vj⟩
def aeP:ca:=
 (aq [ah [ez 2 3 0,cU 4 0],aq [ah [aK 7 0 2,au 8 1 7,dM 9 8,cU 10 0],.join ⟨[],[]⟩ [] [] (.block 0 (.loop 0 ⟨[aA 1,eH 8,aA 9,aA 10],[]⟩ [2] [] (aq [ah [bo .lss 11 10 9],eZ 11 0,.block 1 (aq [ah [ab 12 10,dh 13 1 8 10,au 14 1 13,ab 5 12,ab 6 14],ah [ab 15 6,ab 16 1,bo .eql 17 15 16],.cond 17 (aq [ah [ab 18 5,ab 4 18],.ret]) .skip]),ah [bn .add 19 10 1,ab 10 19]])))],ah [cU 4 (-1)],.ret])
def acx:List bZ:=[.tmp 4]
theorem ap4 (NN:Nat) (x:bj (ar.bi Kj)):fB NN [] aeP acx Kj UU x=Pn NN x:=by kernel_rfl
theorem anh:c6 pX 82 aeP.er acx 2=true:=by decide+kernel
theorem adG:eY pX 82 Q2.M/\cz pX 82=true:=
  fO (args:=Kj) (ax:=UU) (aC.nil) dN anh vj fun x y h=>(ap4 aM x).trans (aj4 x y h)
def Q8:aw:=⟨52,KM,apn,Vn,sG⟩
def afi:ca:=
 (aq [ah [ez 2 3 0,o7 4],ah [ab 10 1,dM 11 10,oX 12 (.jK .bc iX 8 (0:Int) 11 11),ab 5 12],ah [cU 6 1],aq [ah [aK 13 1 2,au 14 1 13,dM 15 14,bn .sub 16 15 1,ab 7 16],.join ⟨[eu 5 704 1],[aO 704]⟩ [2,700,704] [eJ 5 704] (.block 0 (.loop 0 ⟨[eH 1,aJ 2 2,eu 5 700 1,aA 6,aA 7],[aN 2 [cq,cq,cq],aO 700]⟩ [2,12,700,703] [eJ 5 700] (aq [aq [ah [ab 17 7,bn .geq 18 17 0],eZ 18 0],.join ⟨[aA 7,eH 1,aJ 2 2,eu 5 703 1,aA 6],[aN 2 [cq,cq,cq],aO 703]⟩ [2,702,703] [eJ 5 703] (.block 1 (aq [aq [ah [ab 21 1,dM 22 21,cU 23 0],.join ⟨[aA 6,aA 7,eH 1,aJ 2 2,eu 5 702 1],[aN 2 [cq,cq,cq],aO 702]⟩ [2,701,702] [eJ 5 702] (.block 2 (.loop 0 ⟨[eH 1,aJ 2 2,eu 5 701 1,aA 6,aA 7,eH 21,aA 22,aA 23],[aN 2 [cq,cq,cq],aO 701]⟩ [2,700,701] [eJ 5 701] (aq [ah [bo .lss 24 23 22],eZ 24 2,.block 3 (aq [ah [ab 25 23,dh 26 1 21 23,au 27 1 26,ab 8 25,ab 9 27],ah [ab 28 9,aK 29 0 2,au 30 1 29,ab 31 7,dh 32 1 30 31,au 33 1 32,bo .eql 34 28 33],.cond 34 (ah [ab 35 5,ab 36 8,ab 37 6,dh 38 1 35 36,cC 1 38 37]) .skip]),ah [bn .add 39 23 1,ab 23 39]])))],ah [ab 40 6,aK 41 1 2,au 42 1 41,ab 43 7,dh 44 1 42 43,au 45 1 44,bo .mul 46 40 45,ab 6 46]])),ah [ab 19 7,bn .sub 20 19 1,ab 7 20]])))],ah [ab 47 5,ab 4 47],.ret])
def ac1:List bZ:=[.tmp 4]
theorem aqx (NN:Nat) (x:bj (ar.bi KM)):fB NN [] afi ac1 KM Vn x=PI NN x:=by kernel_rfl
theorem anL:c6 pX 52 afi.er ac1 2=true:=by decide+kernel
theorem adM:eY pX 52 Q8.M/\cz pX 52=true:=
  fO (args:=KM) (ax:=Vn) (aC.nil) dN anL sG fun x y h=>(aqx aM x).trans (akx x y h)
def Q4:aw:=⟨55,Km,ao1,UY,t8⟩
def aeS:ca:=
 (aq [ah [cU 4 0],ah [cU 5 0],aq [ah [ab 7 0,dM 8 7,cU 9 0],.join ⟨[aA 5],[]⟩ [] [] (.block 0 (.loop 0 ⟨[eH 0,eH 1,aA 5,aA 8,aA 9],[]⟩ [] [] (aq [ah [bo .lss 10 9 8],eZ 10 0,.block 1 (aq [ah [ab 11 9,ab 6 11],.eF true [ab 12 5,ab 13 0,ab 14 6,dh 15 1 13 14,au 16 1 15,ab 17 1,ab 18 6,dh 19 1 17 18,au 20 1 19,bo .mul 21 16 20,bo .add 22 12 21,ab 5 22]]),ah [bn .add 23 9 1,ab 9 23]])))],ah [ab 24 5,ab 4 24],.ret])
def acA:List bZ:=[.tmp 4]
theorem ap7 (NN:Nat) (x:bj (ar.bi Km)):fB NN [] aeS acA Km UY x=Pp NN x:=by kernel_rfl
theorem ank:c6 pX 55 aeS.er acA 2=true:=by decide+kernel
theorem adI:eY pX 55 Q4.M/\cz pX 55=true:=
  fO (args:=Km) (ax:=UY) (aC.nil) dN ank t8 fun x y h=>(ap7 aM x).trans (aj7 x y h)
def L7:aw:=⟨38,KC,apd,Vd,oW⟩
def ae8:ca:=
 (aq [ah [ez 3 3 0,ez 4 3 1,o7 6],ah [bR 8 3 3,cv 9 53 [8],ab 7 9],ah [aK 10 2 4,au 11 1 10,ab 12 2,ab 13 7,bo .mul 14 12 13,ab 15 2,bn .add 16 15 1,ab 17 7,bo .mul 18 16 17,oX 19 (.slice 1 11 (some 14) (some 18)),ab 6 19],.ret])
def acR:List bZ:=[.tmp 6]
theorem aqn (NN:Nat) (x:bj (ar.bi KC)):qA NN [DV] ae8 acR KC Vd x=Pz NN x:=by kernel_rfl
theorem anB:c6 pX 38 ae8.er acR 3=true:=by decide+kernel
theorem T9:nK pX 38 L7.MV/\cz pX 38=true:=
  sy (args:=KC) (ax:=Vd) (aC.cons Ii<|aC.nil) dN anB oW fun x y h=>(aqn aM x).trans (akn x y h)
def Z4:aw:=⟨76,KE,apf,Vf,CY⟩
def afa:ca:=
 (aq [ah [ez 3 3 0,ez 4 3 1,fz 6 [.nil iX,.nil iX,.nil iX]],.eF true [ab 12 2,cv 13 84 [12],ab 14 2,dM 15 14,oX 16 (.jK .bc iX 8 (0:Int) 15 15),oX 17 (.build [.nil iX,.nil iX,.nil iX] [(0,1,13),(1,1,16)]),fz 7 [.nil iX,.nil iX,.nil iX],cC 3 7 17],aq [ah [ab 18 2,dM 19 18,cU 20 0],.join ⟨[eH 2,aJ 7 7,aJ 6 6,aJ 4 4,aJ 3 3],[aN 3 [vX,vX,vX],aN 4 [cq,cq,cq],aN 6 [fX 706 1,fX 707 1,fX 708 1],aN 7 [fX 709 1,fX 710 1,fX 711 1],aO 706,aO 707,aO 708,aO 709,aO 710,aO 711]⟩ [3,4,6,7,700,701,702,703,704,705,706,707,708,709,710,711] [bm 6 0 706,bm 6 1 707,bm 6 2 708,bm 7 0 709,bm 7 1 710,bm 7 2 711] (.block 0 (.loop 0 ⟨[eH 2,aJ 3 3,aJ 4 4,aJ 6 6,aJ 7 7,eH 18,aA 19,aA 20],[aN 3 [vX,vX,vX],aN 4 [cq,cq,cq],aN 6 [fX 700 1,fX 701 1,fX 702 1],aN 7 [fX 703 1,fX 704 1,fX 705 1],aO 700,aO 701,aO 702,aO 703,aO 704,aO 705]⟩ [3,4,6,14000,16,7,700,701,702,703,704,705] [bm 6 0 700,bm 6 1 701,bm 6 2 702,bm 7 0 703,bm 7 1 704,bm 7 2 705] (aq [ah [bo .lss 21 20 19],eZ 21 0,.block 1 (aq [ah [ab 22 20,dh 23 1 18 20,au 24 1 23,ab 8 22,ab 9 24],.eF true [aK 25 1 7,au 26 1 25,ab 27 8,aK 28 1 4,au 29 1 28,bR 30 3 4,ab 31 9,cv 32 82 [30,31],dh 33 1 29 32,au 34 1 33,dh 35 1 26 27,cC 1 35 34]]),ah [bn .add 36 20 1,ab 20 36]])))],ah [bR 37 3 4,ab 38 2,cv 39 52 [37,38],ab 10 39],ah [ab 40 2,dM 41 40,oX 42 (.jK .bc iX 8 (0:Int) 41 41),ab 11 42],.block 2 (.loop 0 ⟨[aJ 3 3,aJ 4 4,aJ 6 6,aJ 7 7,eu 10 718 1,eu 11 719 1],[aN 3 [vX,vX,vX],aN 4 [cq,cq,cq],aN 6 [fX 712 1,fX 713 1,fX 714 1],aN 7 [fX 715 1,fX 716 1,fX 717 1],aO 712,aO 713,aO 714,aO 715,aO 716,aO 717,aO 718,aO 719]⟩ [3,4,6,7,40000,42,51,706,707,708,709,710,711,712,713,714,715,716,717,718,719] [bm 6 0 712,bm 6 1 713,bm 6 2 714,bm 7 0 715,bm 7 1 716,bm 7 2 717,eJ 10 718,eJ 11 719] (.block 3 (aq [.eF true [aK 43 2 7,au 44 1 43,bR 45 3 3,bR 46 3 4,ab 47 10,ab 48 11,cv 49 55 [47,48],oX 50 (.mD 38 [45,46,49]),oX 51 (.append true iX 8 44 50),aK 52 2 7,cC 1 52 51],ah [aK 53 1 7,au 54 1 53,ab 55 11,oX 56 (.lv .bc 41 [54,55]),lS 57 56],.cond 57 (aq [ah [bR 58 3 7,cC 3 6 58],.ret]) .skip])))])
def acT:List bZ:=[.cell 6 3 true]
theorem aqp (NN:Nat) (x:bj (ar.bi KE)):fB NN [L4,Q2,Q8,Q4,L7,L5] afa acT KE Vf x=PD NN x:=by kernel_rfl
theorem anD:c6 pX 76 afa.er acT 3=true:=by decide+kernel
theorem arE:eY pX 76 Z4.M/\cz pX 76=true:=
  fO (args:=KE) (ax:=Vf) (aC.cons T6<|aC.cons adG<|aC.cons adM<|aC.cons adI<|aC.lx T9<|aC.w6 T7<|aC.nil) dN anD CY fun x y h=>(aqp aM x).trans (akp x y h)
def ZT:aw:=⟨35,Ki,aoX,UT,CQ⟩
def aeO:ca:=
 (aq [ah [ez 3 3 0,ez 4 3 1,ez 5 3 2,fz 6 [.nil iX,.nil iX,.nil iX],fi 7],aq [ah [bR 9 3 3,bR 10 3 4,cv 11 46 [9,10],lS 12 11,ab 13 12,cR 13 (bR 14 3 3),cR 13 (bR 15 3 5),cR 13 (cv 16 46 [14,15]),cR 13 (lS 17 16),lp 18 13 17,ab 19 18,cR 19 (aK 20 0 4),cR 19 (au 21 1 20),cR 19 (aK 22 0 5),cR 19 (au 23 1 22),cR 19 (cv 24 75 [21,23]),cR 19 (lS 25 24),lp 26 19 25],.cond 26 (aq [ah [oX 27 (.build [.nil iX,.nil iX,.nil iX] []),cC 3 6 27,fi 7],.ret]) .skip],ah [bR 28 3 3,bR 29 3 5,aK 30 0 4,au 31 1 30,cv 32 76 [28,29,31],fz 8 [.nil iX,.nil iX,.nil iX],cC 3 8 32],aq [ah [aK 33 1 4,au 34 1 33,aK 35 1 8,au 36 1 35,cv 37 63 [34,36],lS 38 37],.cond 38 (aq [ah [oX 39 (.build [.nil iX,.nil iX,.nil iX] []),cC 3 6 39,fi 7],.ret]) .skip],ah [bR 40 3 8,cC 3 6 40,qH 7],.ret])
def acw:List bZ:=[.cell 6 3 true,.tmp 7]
theorem ap3 (NN:Nat) (x:bj (ar.bi Ki)):fB NN [QZ,Z8,Z4,Q5] aeO acw Ki UT x=Js NN x:=by kernel_rfl
theorem ang:c6 pX 35 aeO.er acw 3=true:=by decide+kernel
theorem art:eY pX 35 ZT.M/\cz pX 35=true:=
  fO (args:=Ki) (ax:=UT) (aC.cons adD<|aC.cons arI<|aC.cons arE<|aC.cons adJ<|aC.nil) dN ang CQ fun x y h=>(ap3 aM x).trans (aj3 x y h)
def L6:aw:=⟨36,Kz,apb,Vb,vk⟩
def ae5:ca:=
 (aq [ah [cU 2 0],ah [cU 3 1],aq [ah [ab 6 0,dM 7 6,cU 8 0],.join ⟨[aA 3],[]⟩ [] [] (.block 0 (.loop 0 ⟨[aA 3,eH 6,aA 7,aA 8],[]⟩ [] [] (aq [ah [bo .lss 9 8 7],eZ 9 0,.block 1 (aq [ah [dh 10 1 6 8,au 11 1 10,ab 5 11],ah [ab 12 3,ab 13 5,bo .mul 14 12 13,ab 3 14]]),ah [bn .add 15 8 1,ab 8 15]])))],ah [ab 16 3,ab 2 16],.ret])
def acO:List bZ:=[.tmp 2]
theorem aqk (NN:Nat) (x:bj (ar.bi Kz)):fB NN [] ae5 acO Kz Vb x=Pw NN x:=by kernel_rfl
theorem anx:c6 pX 36 ae5.er acO 1=true:=by decide+kernel
theorem T8:eY pX 36 L6.M/\cz pX 36=true:=
  fO (args:=Kz) (ax:=Vb) (aC.nil) dN anx vk fun x y h=>(aqk aM x).trans (akk x y h)
def Q6:aw:=⟨38,KB,NB,asW,vl⟩
def ae7:ca:=
 (aq [ah [ez 3 3 0,ez 4 3 1,o7 6],ah [bR 8 3 3,cv 9 53 [8],ab 7 9],ah [aK 10 2 4,au 11 1 10,ab 12 2,ab 13 7,bo .mul 14 12 13,ab 15 2,bn .add 16 15 1,ab 17 7,bo .mul 18 16 17,oX 19 (.slice 1 11 (some 14) (some 18)),ab 6 19],.ret])
def acQ:List bZ:=[.tmp 6]
theorem aqm (NN:Nat) (x:bj (ar.bi KB)):N5 NN [DV] ae7 acQ KB NB.tl x=Py NN x:=by kernel_rfl
theorem anA:c6 pX 38 ae7.er acQ 3=true:=by decide+kernel
theorem adK:Dg pX 38 NB.tl Q6.MW/\cz pX 38=true:=
  auO (args:=KB) (mu:=NB.tl) (aC.cons Ii<|aC.nil) dN anA (by decide+kernel) vl fun x y h=>(aqm aM x).trans (akm x y h)
def Q1:aw:=⟨37,XK,Nv,UQ,yt⟩
def aeL:ca:=
 (aq [ah [ez 3 3 0],ah [aK 7 0 3,au 8 1 7],.block 0 (aq [aq [ah [bn .eql 31 8 1,ab 30 31],.join ⟨[(30,.one (.c (.v (.bool)))),aA 8,(1,.one (.c (.sl 1000000 1))),eH 2,aJ 3 3],[(1000000,.row false .bc iX),aN 3 [vX,vX,vX]]⟩ [1000000,3,700] [eJ 1 700] (.cond 30 .skip (ah [bn .eql 32 8 5,ab 30 32]))],.cond 30 (.eF true [ab 33 1,ab 34 1,iE 35 1 34 0,au 36 1 35,ab 37 2,iE 38 1 37 0,au 39 1 38,oX 40 (.mm true 36 39),iE 41 1 33 0,cC 1 41 40]) (aq [ah [bn .eql 43 8 3,ab 42 43],.cond 42 (.eF true [ab 44 1,ab 45 1,iE 46 1 45 0,au 47 1 46,ab 48 2,iE 49 1 48 0,au 50 1 49,bo .add 51 47 50,aK 52 1 3,au 53 1 52,oX 54 (.mm false 51 53),iE 55 1 44 0,cC 1 55 54]) (aq [ah [bn .eql 57 8 4,ab 56 57],.cond 56 (.eF true [ab 58 1,ab 59 1,iE 60 1 59 0,au 61 1 60,ab 62 2,iE 63 1 62 0,au 64 1 63,oX 65 (.mm false 61 64),iE 66 1 58 0,cC 1 66 65]) (aq [ah [bn .eql 68 8 6,ab 67 68],.cond 67 (.eF true [ab 69 1,iE 70 1 69 0,au 71 1 70,ab 72 2,iE 73 1 72 0,au 74 1 73,bo .or 75 71 74,iE 76 1 69 0,cC 1 76 75]) (aq [ah [ab 9 1,dM 10 9,cU 11 0],.block 1 (.loop 0 ⟨[(1,.one (.c (.sl 1000000 1))),eH 2,aJ 3 3,aA 10,aA 11],[(1000000,.row false .bc iX),aN 3 [vX,vX,vX]]⟩ [1000000,3,701] [eJ 1 701] (aq [ah [bo .lss 12 11 10],eZ 12 1,.block 2 (aq [ah [ab 13 11,ab 6 13],.eF true [ab 14 1,ab 15 6,ab 16 1,ab 17 6,dh 18 1 16 17,au 19 1 18,ab 20 2,ab 21 6,dh 22 1 20 21,au 23 1 22,bo .add 24 19 23,aK 25 1 3,au 26 1 25,bo .rem 27 24 26,dh 28 1 14 15,cC 1 28 27]]),ah [bn .add 29 11 1,ab 11 29]]))])])])])])])
def acs:List bZ:=[]
theorem apY (NN:Nat) (x:bj (ar.bi XK)):Is NN [] aeL acs Nv.lM X6 UQ x.1 x.2.1 x.2.2=Jp NN x:=by kernel_rfl
theorem anc:c6 pX 37 aeL.er acs 3=true:=by decide+kernel
theorem adF:AJ pX 37 Nv.lM Q1.MX/\cz pX 37=true:=
  auY (bg:=X6) rfl (mu:=Nv) (ax:=UQ) (aC.nil) dN anc yt fun x y h=>(apY aM x).trans (aj0 x y h)
def ZM:aw:=⟨15,J3,aoL,UE,yp⟩
def aez:ca:=
 (aq [ah [ez 3 3 0,ez 4 3 1,ez 5 3 2,fz 6 [.nil iX,.nil iX,.nil iX],fi 7],ah [bR 12 3 3,bR 13 3 4,bR 14 3 5,cv 15 35 [12,13,14],ab 11 15,ox 16 0 11,ox 17 1 11,fz 8 [.nil iX,.nil iX,.nil iX],cC 3 8 16,ab 9 17],aq [ah [ab 18 9,lS 19 18],.cond 19 (aq [ah [oX 20 (.build [.nil iX,.nil iX,.nil iX] []),cC 3 6 20,fi 7],.ret]) .skip],aq [ah [cU 10 0],.join ⟨[aJ 8 8,aJ 6 6],[aN 6 [fX 706 1,fX 707 1,fX 708 1],aN 8 [fX 709 1,fX 710 1,fX 711 1],aO 706,aO 707,aO 708,aO 709,aO 710,aO 711]⟩ [3,4,6,8,700,701,702,703,704,705,706,707,708,709,710,711] [bm 6 0 706,bm 6 1 707,bm 6 2 708,bm 8 0 709,bm 8 1 710,bm 8 2 711] (.block 0 (.loop 0 ⟨[aJ 3 3,aJ 4 4,aJ 6 6,aJ 8 8,aA 10],[aN 3 [vX,vX,vX],aN 4 [cq,cq,cq],aN 6 [fX 700 1,fX 701 1,fX 702 1],aN 8 [fX 703 1,fX 704 1,fX 705 1],aO 700,aO 701,aO 702,aO 703,aO 704,aO 705]⟩ [3,4,5,6,16000,16001,16002,8,700,701,702,703,704,705] [bm 6 0 700,bm 6 1 701,bm 6 2 702,bm 8 0 703,bm 8 1 704,bm 8 2 705] (aq [aq [ah [ab 21 10,aK 22 1 8,au 23 1 22,cv 24 36 [23],bo .lss 25 21 24],eZ 25 0],.block 1 (.eF true [bR 28 3 3,bR 29 3 3,bR 30 3 8,ab 31 10,oX 32 (.nM 38 [29,30,31]),bR 33 3 3,bR 34 3 4,ab 35 10,oX 36 (.mD 38 [33,34,35]),oX 37 (.nN .bc 37 [28,32,36])]),ah [ab 26 10,bn .add 27 26 1,ab 10 27]])))],ah [bR 38 3 8,cC 3 6 38,qH 7],.ret])
def acf:List bZ:=[.cell 6 3 true,.tmp 7]
theorem apM (NN:Nat) (x:bj (ar.bi J3)):fB NN [ZT,L6,Q6,L7,Q1] aez acf J3 UE x=Jl NN x:=by kernel_rfl
theorem am0:c6 pX 15 aez.er acf 3=true:=by decide+kernel
theorem arl:eY pX 15 ZM.M/\cz pX 15=true:=
  fO (args:=J3) (ax:=UE) (aC.cons art<|aC.cons T8<|aC.Yw adK<|aC.lx T9<|aC.Qw adF<|aC.nil) dN am0 yp fun x y h=>(apM aM x).trans (ajO x y h)
def GD:aw:=⟨42,Kn,ao2,UZ,yu⟩
def aeT:ca:=
 (aq [ah [fz 4 [zX,zX,.nil iX]],ah [ab 5 0,ab 6 1,ab 7 0,ab 8 1,bo .mul 9 7 8,oX 10 (.jK .bc iX 8 (0:Int) 9 9),oX 11 (.build [zX,zX,.nil iX] [(0,1,5),(1,1,6),(2,1,10)]),cC 3 4 11],.ret])
def acB:List bZ:=[.cell 4 3 true]
theorem ap8 (NN:Nat) (x:bj (ar.bi Kn)):fB NN [] aeT acB Kn UZ x=Xr NN x:=by kernel_rfl
theorem anl:c6 pX 42 aeT.er acB 2=true:=by decide+kernel
theorem NR:eY pX 42 GD.M/\cz pX 42=true:=
  fO (args:=Kn) (ax:=UZ) (aC.nil) dN anl yu fun x y h=>(ap8 aM x).trans (aj8 x y h)
def L0:aw:=⟨78,Ka,Nu,UL,wN⟩
def aeG:ca:=
 (aq [ah [ez 4 3 0],ah [aK 8 2 4,au 9 1 8,ab 10 1,aK 11 1 4,au 12 1 11,bo .mul 13 10 12,ab 14 2,bo .add 15 13 14,ab 16 3,dh 17 1 9 15,cC 1 17 16]])
def acn:List bZ:=[]
theorem apT (NN:Nat) (x:bj (ar.bi Ka)):Co NN [] aeG acn Ka Nu UL x=Jo NN x:=by kernel_rfl
theorem am7:c6 pX 78 aeG.er acn 4=true:=by decide+kernel
theorem T4:vo pX 78 Nu L0.MM/\cz pX 78=true:=
  H5 (args:=Ka) (mu:=Nu) (ax:=UL) (aC.nil) dN am7 wN fun x y h=>(apT aM x).trans (ajV x y h)
def aaa:aw:=⟨45,KN,apo,Vo,yz⟩
def afj:ca:=
 (aq [ah [ez 2 4 0,fz 4 [zX,zX,.nil iX]],ah [aK 8 0 2,au 9 1 8,aK 10 2 2,au 11 1 10,cv 12 42 [9,11],fz 5 [zX,zX,.nil iX],cC 3 5 12],aq [ah [cU 6 0],.join ⟨[aJ 5 5,aJ 4 4],[aN 4 [vX,vX,fX 706 1],aN 5 [vX,vX,fX 707 1],aO 706,aO 707]⟩ [2,4,5,700,701,706,707] [bm 4 2 706,bm 5 2 707] (.block 0 (.loop 0 ⟨[aA 1,aJ 2 2,aJ 4 4,aJ 5 5,aA 6],[aN 2 [vX,vX,vX,cq],aN 4 [vX,vX,fX 700 1],aN 5 [vX,vX,fX 701 1],aO 700,aO 701]⟩ [2,4,13000,5,700,701,704,705] [bm 4 2 700,bm 5 2 701] (aq [aq [ah [ab 13 6,aK 14 0 2,au 15 1 14,bo .lss 16 13 15],eZ 16 0],.join ⟨[aA 6,aA 1,aJ 2 2,aJ 4 4,aJ 5 5],[aN 2 [vX,vX,vX,cq],aN 4 [vX,vX,fX 704 1],aN 5 [vX,vX,fX 705 1],aO 704,aO 705]⟩ [2,4,5,702,703,704,705] [bm 4 2 704,bm 5 2 705] (.block 1 (aq [ah [cU 7 0],.block 2 (.loop 0 ⟨[aA 1,aJ 2 2,aJ 4 4,aJ 5 5,aA 6,aA 7],[aN 2 [vX,vX,vX,cq],aN 4 [vX,vX,fX 702 1],aN 5 [vX,vX,fX 703 1],aO 702,aO 703]⟩ [2,4,5,700,701,702,703] [bm 4 2 702,bm 5 2 703] (aq [aq [ah [ab 19 7,aK 20 2 2,au 21 1 20,bo .lss 22 19 21],eZ 22 2],.block 3 (.eF true [bR 25 3 5,ab 26 6,ab 27 7,bR 28 4 2,ab 29 6,ab 30 1,ab 31 7,cv 32 65 [28,29,30,31],oX 33 (.lv .bc 78 [25,26,27,32])]),ah [ab 23 7,bn .add 24 23 1,ab 7 24]]))])),ah [ab 17 6,bn .add 18 17 1,ab 6 18]])))],ah [bR 34 3 5,cC 3 4 34],.ret])
def ac2:List bZ:=[.cell 4 3 true]
theorem aqy (NN:Nat) (x:bj (ar.bi KN)):fB NN [GD,L3,L0] afj ac2 KN Vo x=PJ NN x:=by kernel_rfl
theorem anM:c6 pX 45 afj.er ac2 2=true:=by decide+kernel
theorem arK:eY pX 45 aaa.M/\cz pX 45=true:=
  fO (args:=KN) (ax:=Vo) (aC.cons NR<|aC.cons T5<|aC.w6 T4<|aC.nil) dN anM yz fun x y h=>(aqy aM x).trans (aky x y h)
def QY:aw:=⟨77,J9,aoR,UK,wM⟩
def aeF:ca:=
 (aq [ah [ez 3 3 0,cU 6 0],ah [aK 7 2 3,au 8 1 7,ab 9 1,aK 10 1 3,au 11 1 10,bo .mul 12 9 11,ab 13 2,bo .add 14 12 13,dh 15 1 8 14,au 16 1 15,ab 6 16],.ret])
def acm:List bZ:=[.tmp 6]
theorem apS (NN:Nat) (x:bj (ar.bi J9)):fB NN [] aeF acm J9 UK x=Jn NN x:=by kernel_rfl
theorem am6:c6 pX 77 aeF.er acm 3=true:=by decide+kernel
theorem adC:eY pX 77 QY.M/\cz pX 77=true:=
  fO (args:=J9) (ax:=UK) (aC.nil) dN am6 wM fun x y h=>(apS aM x).trans (ajU x y h)
def Z6:aw:=⟨44,KG,aph,Vh,C0⟩
def afc:ca:=
 (aq [ah [ez 1 3 0,fz 2 [zX,zX,.nil iX]],ah [aK 6 1 1,au 7 1 6,aK 8 0 1,au 9 1 8,cv 10 42 [7,9],fz 3 [zX,zX,.nil iX],cC 3 3 10],aq [ah [cU 4 0],.join ⟨[aJ 3 3,aJ 2 2],[aN 2 [vX,vX,fX 706 1],aN 3 [vX,vX,fX 707 1],aO 706,aO 707]⟩ [1,2,3,700,701,706,707] [bm 2 2 706,bm 3 2 707] (.block 0 (.loop 0 ⟨[aJ 1 1,aJ 2 2,aJ 3 3,aA 4],[aN 1 [vX,vX,cq],aN 2 [vX,vX,fX 700 1],aN 3 [vX,vX,fX 701 1],aO 700,aO 701]⟩ [1,2,11000,3,700,701,704,705] [bm 2 2 700,bm 3 2 701] (aq [aq [ah [ab 11 4,aK 12 0 1,au 13 1 12,bo .lss 14 11 13],eZ 14 0],.join ⟨[aA 4,aJ 1 1,aJ 2 2,aJ 3 3],[aN 1 [vX,vX,cq],aN 2 [vX,vX,fX 704 1],aN 3 [vX,vX,fX 705 1],aO 704,aO 705]⟩ [1,2,3,702,703,704,705] [bm 2 2 704,bm 3 2 705] (.block 1 (aq [ah [cU 5 0],.block 2 (.loop 0 ⟨[aJ 1 1,aJ 2 2,aJ 3 3,aA 4,aA 5],[aN 1 [vX,vX,cq],aN 2 [vX,vX,fX 702 1],aN 3 [vX,vX,fX 703 1],aO 702,aO 703]⟩ [1,2,3,700,701,702,703] [bm 2 2 702,bm 3 2 703] (aq [aq [ah [ab 17 5,aK 18 1 1,au 19 1 18,bo .lss 20 17 19],eZ 20 2],.block 3 (.eF true [bR 23 3 3,ab 24 5,ab 25 4,bR 26 3 1,ab 27 4,ab 28 5,cv 29 77 [26,27,28],oX 30 (.lv .bc 78 [23,24,25,29])]),ah [ab 21 5,bn .add 22 21 1,ab 5 22]]))])),ah [ab 15 4,bn .add 16 15 1,ab 4 16]])))],ah [bR 31 3 3,cC 3 2 31],.ret])
def acV:List bZ:=[.cell 2 3 true]
theorem aqr (NN:Nat) (x:bj (ar.bi KG)):fB NN [GD,QY,L0] afc acV KG Vh x=Jz NN x:=by kernel_rfl
theorem anF:c6 pX 44 afc.er acV 1=true:=by decide+kernel
theorem arG:eY pX 44 Z6.M/\cz pX 44=true:=
  fO (args:=KG) (ax:=Vh) (aC.cons NR<|aC.cons adC<|aC.w6 T4<|aC.nil) dN anF C0 fun x y h=>(aqr aM x).trans (akr x y h)
def Z3:aw:=⟨43,KD,ape,Ve,yx⟩
def ae9:ca:=
 (aq [ah [ez 4 3 1,ez 5 3 2,fz 6 [zX,zX,.nil iX]],ah [aK 12 0 4,au 13 1 12,aK 14 1 5,au 15 1 14,cv 16 42 [13,15],fz 7 [zX,zX,.nil iX],cC 3 7 16],aq [ah [cU 8 0],.join ⟨[aJ 7 7,aJ 6 6],[aN 6 [vX,vX,fX 712 1],aN 7 [vX,vX,fX 713 1],aO 712,aO 713]⟩ [4,5,6,7,700,701,712,713] [bm 6 2 712,bm 7 2 713] (.block 0 (.loop 0 ⟨[aA 0,aJ 4 4,aJ 5 5,aJ 6 6,aJ 7 7,aA 8],[aN 4 [vX,vX,cq],aN 5 [vX,vX,cq],aN 6 [vX,vX,fX 700 1],aN 7 [vX,vX,fX 701 1],aO 700,aO 701]⟩ [4,5,6,17000,7,700,701,710,711] [bm 6 2 700,bm 7 2 701] (aq [aq [ah [ab 17 8,aK 18 0 4,au 19 1 18,bo .lss 20 17 19],eZ 20 0],.join ⟨[aA 8,aA 0,aJ 4 4,aJ 5 5,aJ 6 6,aJ 7 7],[aN 4 [vX,vX,cq],aN 5 [vX,vX,cq],aN 6 [vX,vX,fX 710 1],aN 7 [vX,vX,fX 711 1],aO 710,aO 711]⟩ [4,5,6,7,702,703,710,711] [bm 6 2 710,bm 7 2 711] (.block 1 (aq [ah [cU 9 0],.block 2 (.loop 0 ⟨[aA 0,aJ 4 4,aJ 5 5,aJ 6 6,aJ 7 7,aA 8,aA 9],[aN 4 [vX,vX,cq],aN 5 [vX,vX,cq],aN 6 [vX,vX,fX 702 1],aN 7 [vX,vX,fX 703 1],aO 702,aO 703]⟩ [4,5,6,7,700,701,702,703,708,709] [bm 6 2 702,bm 7 2 703] (aq [aq [ah [ab 23 9,aK 24 1 5,au 25 1 24,bo .lss 26 23 25],eZ 26 2],.join ⟨[aA 9,aA 0,aJ 4 4,aJ 5 5,aJ 6 6,aJ 7 7,aA 8],[aN 4 [vX,vX,cq],aN 5 [vX,vX,cq],aN 6 [vX,vX,fX 708 1],aN 7 [vX,vX,fX 709 1],aO 708,aO 709]⟩ [4,5,6,7,706,707,708,709] [bm 6 2 708,bm 7 2 709] (.block 3 (aq [ah [cU 10 0],aq [ah [cU 11 0],.join ⟨[aA 10,aA 9,aA 0,aJ 4 4,aJ 5 5,aJ 6 6,aJ 7 7,aA 8],[aN 4 [vX,vX,cq],aN 5 [vX,vX,cq],aN 6 [vX,vX,fX 706 1],aN 7 [vX,vX,fX 707 1],aO 706,aO 707]⟩ [4,5,6,7,704,705,706,707] [bm 6 2 706,bm 7 2 707] (.block 4 (.loop 0 ⟨[aA 0,aJ 4 4,aJ 5 5,aJ 6 6,aJ 7 7,aA 8,aA 9,aA 10,aA 11],[aN 4 [vX,vX,cq],aN 5 [vX,vX,cq],aN 6 [vX,vX,fX 704 1],aN 7 [vX,vX,fX 705 1],aO 704,aO 705]⟩ [4,5,6,7,702,703,704,705] [bm 6 2 704,bm 7 2 705] (aq [aq [ah [ab 29 11,aK 30 1 4,au 31 1 30,bo .lss 32 29 31],eZ 32 4],.block 5 (.eF true [ab 35 10,bR 36 3 4,ab 37 8,ab 38 11,cv 39 77 [36,37,38],bR 40 3 5,ab 41 11,ab 42 9,cv 43 77 [40,41,42],bo .mul 44 39 43,bo .add 45 35 44,ab 46 0,bo .rem 47 45 46,ab 10 47]),ah [ab 33 11,bn .add 34 33 1,ab 11 34]])))],ah [bR 48 3 7,ab 49 8,ab 50 9,ab 51 10,oX 52 (.lv .bc 78 [48,49,50,51])]])),ah [ab 27 9,bn .add 28 27 1,ab 9 28]]))])),ah [ab 21 8,bn .add 22 21 1,ab 8 22]])))],ah [bR 53 3 7,cC 3 6 53],.ret])
def acS:List bZ:=[.cell 6 3 true]
theorem aqo (NN:Nat) (x:bj (ar.bi KD)):fB NN [GD,QY,L0] ae9 acS KD Ve x=Jy NN x:=by kernel_rfl
theorem anC:c6 pX 43 ae9.er acS 3=true:=by decide+kernel
theorem arD:eY pX 43 Z3.M/\cz pX 43=true:=
  fO (args:=KD) (ax:=Ve) (aC.cons NR<|aC.cons adC<|aC.w6 T4<|aC.nil) dN anC yx fun x y h=>(aqo aM x).trans (ako x y h)
def ZP:aw:=⟨17,J7,aoP,UI,wL⟩
def aeD:ca:=
 (aq [ah [ez 2 2 0,ez 3 2 1,cU 4 0,fi 5],aq [ah [bR 16 2 2,bR 17 2 3,cv 18 25 [16,17],lS 19 18],.cond 19 (aq [ah [cU 4 0,fi 5],.ret]) .skip],ah [aK 20 0 2,au 21 1 20,ab 6 21],ah [oX 22 (.hZ iX [(kX 1)]),oX 23 (.build [zX,zX,.nil iX] [(0,1,(kX 1)),(1,1,(kX 1)),(2,1,22)]),fz 7 [zX,zX,.nil iX],cC 3 7 23],aq [ah [aK 24 1 2,au 25 1 24,dM 26 25,cU 27 0],.join ⟨[aJ 7 7],[aN 7 [vX,vX,fX 711 1],aO 711]⟩ [3,7,700,711] [bm 7 2 711] (.block 0 (.loop 0 ⟨[aJ 3 3,aA 6,aJ 7 7,(25,.one (hH)),aA 26,aA 27],[aN 3 [vX,hH],aN 7 [vX,vX,fX 700 1],aO 700]⟩ [2,3,22,7,700,710] [bm 7 2 700] (aq [ah [bo .lss 28 27 26],eZ 28 0,.join ⟨[aA 27,aJ 3 3,aA 6,aJ 7 7,(25,.one (hH)),aA 26],[aN 3 [vX,hH],aN 7 [vX,vX,fX 710 1],aO 710]⟩ [3,7,11,708,709,710] [bm 7 2 710] (.block 1 (aq [ah [ab 29 27,dh 30 4 25 27,bR 31 4 30,fz 9 [zX,zX,zX,.nil iX],ab 8 29,cC 4 9 31],ah [aK 32 1 3,au 33 1 32,ab 34 8,dh 35 4 33 34,bR 36 4 35,fz 10 [zX,zX,zX,.nil iX],cC 4 10 36],ah [aK 37 2 9,au 38 1 37,aK 39 2 10,au 40 1 39,cv 41 42 [38,40],fz 11 [zX,zX,.nil iX],cC 3 11 41],aq [ah [cU 12 0],.join ⟨[aJ 11 11,aA 27,aJ 3 3,aA 6,aJ 7 7,(25,.one (hH)),aA 26],[aN 3 [vX,hH],aN 7 [vX,vX,fX 708 1],aN 11 [vX,vX,fX 709 1],aO 708,aO 709]⟩ [3,7,9,10,11,701,702,708,709] [bm 7 2 708,bm 11 2 709] (.block 2 (.loop 0 ⟨[aJ 3 3,aA 6,aJ 7 7,aJ 9 9,aJ 10 10,aJ 11 11,aA 12,(25,.one (hH)),aA 26,aA 27],[aN 3 [vX,hH],aN 7 [vX,vX,fX 701 1],aN 9 [vX,vX,vX,cq],aN 10 [vX,vX,vX,cq],aN 11 [vX,vX,fX 702 1],aO 701,aO 702]⟩ [3,7,9,10,42000,11,700,701,702,706,707] [bm 7 2 701,bm 11 2 702] (aq [aq [ah [ab 42 12,aK 43 1 9,au 44 1 43,bo .lss 45 42 44],eZ 45 2],.join ⟨[aA 12,aJ 3 3,aA 6,aJ 7 7,aJ 9 9,aJ 10 10,aJ 11 11,(25,.one (hH)),aA 26,aA 27],[aN 3 [vX,hH],aN 7 [vX,vX,fX 706 1],aN 9 [vX,vX,vX,cq],aN 10 [vX,vX,vX,cq],aN 11 [vX,vX,fX 707 1],aO 706,aO 707]⟩ [3,7,9,10,11,703,704,705,706,707] [bm 7 2 706,bm 11 2 707] (.block 3 (aq [.eF true [ab 48 6,bR 49 4 9,ab 50 12,cv 51 45 [49,50],cv 52 44 [51],bR 53 3 7,cv 54 43 [48,52,53],fz 13 [zX,zX,.nil iX],cC 3 13 54],.eF true [ab 55 6,bR 56 3 13,bR 57 4 10,ab 58 12,cv 59 45 [57,58],cv 60 43 [55,56,59],cC 3 13 60],ah [aK 61 2 13,au 62 1 61,dM 63 62,cU 64 0],.block 4 (.loop 0 ⟨[aJ 3 3,aA 6,aJ 7 7,aJ 9 9,aJ 10 10,aJ 11 11,aA 12,(25,.one (hH)),aA 26,aA 27,eu 62 705 1,aA 63,aA 64],[aN 3 [vX,hH],aN 7 [vX,vX,fX 703 1],aN 9 [vX,vX,vX,cq],aN 10 [vX,vX,vX,cq],aN 11 [vX,vX,fX 704 1],aO 703,aO 704,aO 705]⟩ [3,7,9,10,11,52000,53000,55000,13,60000,61000,701,702,703,704,705] [bm 7 2 703,bm 11 2 704,eJ 62 705] (aq [ah [bo .lss 65 64 63],eZ 65 4,.block 5 (aq [ah [ab 66 64,dh 67 1 62 64,au 68 1 67,ab 14 66,ab 15 68],.eF true [aK 69 2 11,au 70 1 69,ab 71 14,aK 72 2 11,au 73 1 72,ab 74 14,dh 75 1 73 74,au 76 1 75,ab 77 15,bo .add 78 76 77,ab 79 6,bo .rem 80 78 79,dh 81 1 70 71,cC 1 81 80]]),ah [bn .add 82 64 1,ab 64 82]]))])),ah [ab 46 12,bn .add 47 46 1,ab 12 47]])))],ah [bR 83 3 11,cC 3 7 83]])),ah [bn .add 84 27 1,ab 27 84]])))],ah [aK 85 2 7,au 86 1 85,iE 87 1 86 0,au 88 1 87,ab 4 88,qH 5],.ret])
def acj:List bZ:=[.tmp 4,.tmp 5]
theorem apQ (NN:Nat) (x:bj (ar.bi J7)):fB NN [Q7,GD,aaa,Z6,Z3] aeD acj J7 UI x=Pg NN x:=by kernel_rfl
theorem am4:c6 pX 17 aeD.er acj 2=true:=by decide+kernel
theorem aro:eY pX 17 ZP.M/\cz pX 17=true:=
  fO (args:=J7) (ax:=UI) (aC.cons adL<|aC.cons NR<|aC.cons arK<|aC.cons arG<|aC.cons arD<|aC.nil) dN am4 wL fun x y h=>(apQ aM x).trans (ajS x y h)
def ZY:aw:=⟨81,Ku,ao9,U6,CV⟩
def ae0:ca:=
 (aq [ah [o7 4],ah [ab 8 0,cv 9 84 [8],ab 5 9],aq [ah [ab 10 1,dM 11 10,cU 12 0],.join ⟨[eu 5 701 1],[aO 701]⟩ [700,701] [eJ 5 701] (.block 0 (.loop 0 ⟨[eH 0,eu 5 700 1,eH 10,aA 11,aA 12],[aO 700]⟩ [10000,22,23,700] [eJ 5 700] (aq [ah [bo .lss 13 12 11],eZ 13 0,.block 1 (aq [ah [dh 14 1 10 12,au 15 1 14,ab 7 15],ah [ab 16 0,ab 17 7,cv 18 83 [16,17],lS 19 18],.cond 19 (ah [ab 20 5,ab 21 7,oX 22 (.hZ iX [21]),oX 23 (.append true iX 8 20 22),ab 5 23]) .skip]),ah [bn .add 24 12 1,ab 12 24]])))],ah [ab 25 5,ab 4 25],.ret])
def acI:List bZ:=[.tmp 4]
theorem aqf (NN:Nat) (x:bj (ar.bi Ku)):fB NN [L4,GF] ae0 acI Ku U6 x=Jv NN x:=by kernel_rfl
theorem ans:c6 pX 81 ae0.er acI 2=true:=by decide+kernel
theorem ary:eY pX 81 ZY.M/\cz pX 81=true:=
  fO (args:=Ku) (ax:=U6) (aC.cons T6<|aC.cons NS<|aC.nil) dN ans CV fun x y h=>(aqf aM x).trans (akf x y h)
def ZX:aw:=⟨47,Kt,ao8,U5,CU⟩
def aeZ:ca:=
 (aq [ah [ez 2 3 0,ez 3 3 1,o7 4,o7 5,fi 6],ah [aK 13 0 2,au 14 1 13,aK 15 0 3,au 16 1 15,cv 17 81 [14,16],ab 7 17],ah [ab 18 7,dM 19 18,oX 20 (.jK .bc iX 8 (0:Int) 19 19),ab 8 20],aq [ah [ab 21 7,dM 22 21,cU 23 0],.join ⟨[eu 7 702 1,eu 8 703 1],[aO 702,aO 703]⟩ [2,3,700,701,702,703] [eJ 7 702,eJ 8 703] (.block 0 (.loop 0 ⟨[aJ 2 2,aJ 3 3,eu 7 700 1,eu 8 701 1,eu 21 700 1,aA 22,aA 23],[aN 2 [cq,cq,cq],aN 3 [cq,cq,cq],aO 700,aO 701]⟩ [2,3,18000,20,700,701] [eJ 7 700,eJ 8 701] (aq [ah [bo .lss 24 23 22],eZ 24 0,.block 1 (aq [ah [ab 25 23,dh 26 1 21 23,au 27 1 26,ab 9 25,ab 10 27],.eF true [bR 28 3 2,ab 29 10,cv 30 82 [28,29],bR 31 3 3,ab 32 10,cv 33 82 [31,32],ab 11 30,ab 12 33],aq [.eF true [ab 34 11,bn .geq 35 34 0,ab 36 35,cb 36 (ab 37 12),cb 36 (bn .geq 38 37 0),iq 39 36 38,ab 40 39,cb 40 (aK 41 1 2),cb 40 (au 42 1 41),cb 40 (ab 43 11),cb 40 (dh 44 1 42 43),cb 40 (au 45 1 44),cb 40 (aK 46 1 3),cb 40 (au 47 1 46),cb 40 (ab 48 12),cb 40 (dh 49 1 47 48),cb 40 (au 50 1 49),cb 40 (bo .neq 51 45 50),iq 52 40 51],.cond 52 (aq [ah [o7 4,o7 5,fi 6],.ret]) .skip],ah [ab 53 11,bn .geq 54 53 0],.cond 54 (ah [ab 55 8,ab 56 9,aK 57 1 2,au 58 1 57,ab 59 11,dh 60 1 58 59,au 61 1 60,dh 62 1 55 56,cC 1 62 61]) (ah [ab 63 8,ab 64 9,aK 65 1 3,au 66 1 65,ab 67 12,dh 68 1 66 67,au 69 1 68,dh 70 1 63 64,cC 1 70 69])]),ah [bn .add 71 23 1,ab 23 71]])))],ah [ab 72 7,ab 73 8,ab 4 72,ab 5 73,qH 6],.ret])
def acH:List bZ:=[.tmp 4,.tmp 5,.tmp 6]
theorem aqe (NN:Nat) (x:bj (ar.bi Kt)):fB NN [ZY,Q2] aeZ acH Kt U5 x=Ju NN x:=by kernel_rfl
theorem anr:c6 pX 47 aeZ.er acH 2=true:=by decide+kernel
theorem arx:eY pX 47 ZX.M/\cz pX 47=true:=
  fO (args:=Kt) (ax:=U5) (aC.cons ary<|aC.cons adG<|aC.nil) dN anr CU fun x y h=>(aqe aM x).trans (ake x y h)
def ZZ:aw:=⟨48,Kv,apa,U7,CW⟩
def ae1:ca:=
 (aq [ah [o7 4],ah [o7 5],aq [ah [ab 8 0,dM 9 8,cU 10 0],.join ⟨[eu 5 701 1],[aO 701]⟩ [700,701] [eJ 5 701] (.block 0 (.loop 0 ⟨[eH 1,eu 5 700 1,eH 8,aA 9,aA 10],[aO 700]⟩ [19,20,700] [eJ 5 700] (aq [ah [bo .lss 11 10 9],eZ 11 0,.block 1 (aq [ah [dh 12 1 8 10,au 13 1 12,ab 7 13],ah [ab 14 1,ab 15 7,cv 16 83 [14,15]],.cond 16 (ah [ab 17 5,ab 18 7,oX 19 (.hZ iX [18]),oX 20 (.append true iX 8 17 19),ab 5 20]) .skip]),ah [bn .add 21 10 1,ab 10 21]])))],ah [ab 22 5,ab 4 22],.ret])
def acJ:List bZ:=[.tmp 4]
theorem aqg (NN:Nat) (x:bj (ar.bi Kv)):fB NN [GF] ae1 acJ Kv U7 x=Jw NN x:=by kernel_rfl
theorem ant:c6 pX 48 ae1.er acJ 2=true:=by decide+kernel
theorem arz:eY pX 48 ZZ.M/\cz pX 48=true:=
  fO (args:=Kv) (ax:=U7) (aC.cons NS<|aC.nil) dN ant CW fun x y h=>(aqg aM x).trans (akg x y h)
def Z7:aw:=⟨51,KI,apj,Vj,C1⟩
def afe:ca:=
 (aq [ah [ez 1 3 0,o7 2],ah [bR 4 3 1,cv 5 53 [4],oX 6 (.jK .bc iX 8 (0:Int) 5 5),ab 3 6],aq [ah [aK 7 0 1,au 8 1 7,bn .eql 9 8 4],.join ⟨[eu 3 700 1],[aO 700]⟩ [1,6,700] [eJ 3 700] (.cond 9 (ah [ab 10 3,aK 11 1 1,au 12 1 11,iE 13 1 10 0,cC 1 13 12]) .skip)],ah [ab 14 3,ab 2 14],.ret])
def acX:List bZ:=[.tmp 2]
theorem aqt (NN:Nat) (x:bj (ar.bi KI)):fB NN [DV] afe acX KI Vj x=PF NN x:=by kernel_rfl
theorem anH:c6 pX 51 afe.er acX 1=true:=by decide+kernel
theorem arH:eY pX 51 Z7.M/\cz pX 51=true:=
  fO (args:=KI) (ax:=Vj) (aC.cons Ii<|aC.nil) dN anH C1 fun x y h=>(aqt aM x).trans (akt x y h)
def ZU:aw:=⟨50,Kp,ao4,U1,CR⟩
def aeV:ca:=
 (aq [ah [ez 4 3 0,fz 8 [.nil iX,.nil iX,.nil iX]],ah [ab 12 1,cv 13 84 [12],ab 14 2,cv 15 84 [14],oX 16 (.build [.nil iX,.nil iX,.nil iX] [(0,1,13),(1,1,15)]),fz 9 [.nil iX,.nil iX,.nil iX],cC 3 9 16],ah [ab 17 2,cv 18 36 [17],ab 10 18],ah [ab 19 10,ab 20 3,dM 21 20,bo .mul 22 19 21,oX 23 (.jK .bc iX 8 (0:Int) (kX 0) 22),aK 24 2 9,cC 1 24 23],aq [ah [cU 11 0],.join ⟨[aJ 9 9,aJ 8 8],[aN 8 [fX 706 1,fX 707 1,fX 708 1],aN 9 [fX 709 1,fX 710 1,fX 711 1],aO 706,aO 707,aO 708,aO 709,aO 710,aO 711]⟩ [8,9,700,701,702,703,704,705,706,707,708,709,710,711] [bm 8 0 706,bm 8 1 707,bm 8 2 708,bm 9 0 709,bm 9 1 710,bm 9 2 711] (.block 0 (.loop 0 ⟨[eH 3,aJ 8 8,aJ 9 9,aA 10,aA 11],[aN 8 [fX 700 1,fX 701 1,fX 702 1],aN 9 [fX 703 1,fX 704 1,fX 705 1],aO 700,aO 701,aO 702,aO 703,aO 704,aO 705]⟩ [4,8,14000,16000,9,23,33,700,701,702,703,704,705] [bm 8 0 700,bm 8 1 701,bm 8 2 702,bm 9 0 703,bm 9 1 704,bm 9 2 705] (aq [aq [ah [ab 25 11,ab 26 10,bo .lss 27 25 26],eZ 27 0],.block 1 (ah [aK 30 2 9,au 31 1 30,ab 32 3,oX 33 (.append true iX 8 31 32),aK 34 2 9,cC 1 34 33]),ah [ab 28 11,bn .add 29 28 1,ab 11 29]])))],ah [bR 35 3 9,cC 3 8 35],.ret])
def acD:List bZ:=[.cell 8 3 true]
theorem aqa (NN:Nat) (x:bj (ar.bi Kp)):fB NN [L4,L6] aeV acD Kp U1 x=Jt NN x:=by kernel_rfl
theorem ann:c6 pX 50 aeV.er acD 4=true:=by decide+kernel
theorem aru:eY pX 50 ZU.M/\cz pX 50=true:=
  fO (args:=Kp) (ax:=U1) (aC.cons T6<|aC.cons T8<|aC.nil) dN ann CR fun x y h=>(aqa aM x).trans (aka x y h)
def Z0:aw:=⟨85,Kw,Ny,U8,Av⟩
def ae2:ca:=
 (aq [ah [ez 4 3 0],ah [ab 12 1,uX (.m6 (.int .i64) ((0:Int)) 12)],ah [ab 13 2,dM 14 13,cU 15 0],.block 0 (.loop 0 ⟨[eu 1 1000000 1,eH 2,eH 3,aJ 4 4,aA 14,aA 15],[(1000000,.row false .bc iX),aN 4 [vX,vX,vX]]⟩ [1000000,4,700] [eJ 1 700] (aq [ah [bo .lss 16 15 14],eZ 16 0,.join ⟨[aA 15,eu 1 1000000 1,eH 2,eH 3,aJ 4 4,aA 14],[(1000000,.row false .bc iX),aN 4 [vX,vX,vX]]⟩ [1000000,4,702] [eJ 1 702] (.block 1 (aq [ah [ab 17 15,ab 8 17],ah [ab 18 3,dM 19 18,cU 20 0],.block 2 (.loop 0 ⟨[eu 1 1000000 1,eH 2,eH 3,aJ 4 4,aA 8,aA 14,aA 15,aA 19,aA 20],[(1000000,.row false .bc iX),aN 4 [vX,vX,vX]]⟩ [1000000,4,701] [eJ 1 701] (aq [ah [bo .lss 21 20 19],eZ 21 2,.block 3 (aq [ah [ab 22 20,ab 9 22],.eF true [ab 23 2,ab 24 8,dh 25 1 23 24,au 26 1 25,ab 27 3,ab 28 9,dh 29 1 27 28,au 30 1 29,bo .mul 31 26 30,aK 32 1 4,au 33 1 32,bo .rem 34 31 33,ab 10 34],ah [ab 35 8,ab 36 9,bo .add 37 35 36,ab 11 37],ah [ab 38 11,ab 39 1,dM 40 39,bo .lss 41 38 40],.cond 41 (.eF true [ab 42 1,ab 43 11,ab 44 1,ab 45 11,dh 46 1 44 45,au 47 1 46,ab 48 10,bo .add 49 47 48,aK 50 1 4,au 51 1 50,bo .rem 52 49 51,dh 53 1 42 43,cC 1 53 52]) (aq [ah [aK 54 0 4,au 55 1 54,bn .eql 56 55 8],.cond 56 (.eF true [ab 57 1,ab 58 11,bn .sub 59 58 4,ab 60 1,ab 61 11,bn .sub 62 61 4,dh 63 1 60 62,au 64 1 63,aK 65 1 4,au 66 1 65,bo .add 67 64 66,ab 68 10,bo .sub 69 67 68,aK 70 1 4,au 71 1 70,bo .rem 72 69 71,dh 73 1 57 59,cC 1 73 72]) .skip])]),ah [bn .add 74 20 1,ab 20 74]]))])),ah [bn .add 75 15 1,ab 15 75]]))])
def acK:List bZ:=[]
theorem aqh (NN:Nat) (x:bj (ar.bi Kw)):Co NN [] ae2 acK Kw Ny U8 x=Pu NN x:=by kernel_rfl
theorem anu:c6 pX 85 ae2.er acK 4=true:=by decide+kernel
theorem arA:vo pX 85 Ny Z0.MM/\cz pX 85=true:=
  H5 (args:=Kw) (mu:=Ny) (ax:=U8) (aC.nil) dN anu Av fun x y h=>(aqh aM x).trans (akh x y h)
def Z1:aw:=⟨54,Kx,Nz,U9,CX⟩
def ae3:ca:=
 (aq [ah [ez 4 3 0],ah [aK 8 0 4,au 9 1 8],.block 0 (aq [aq [ah [bn .eql 16 9 1,ab 15 16],.join ⟨[(15,.one (.c (.v (.bool)))),aA 9,aJ 4 4,eu 1 1000000 1,eH 2,eH 3],[(1000000,.row false .bc iX),aN 4 [vX,vX,vX]]⟩ [1000000,4,700] [eJ 1 700] (.cond 15 .skip (ah [bn .eql 17 9 5,ab 15 17]))],.cond 15 (.eF true [ab 18 1,ab 19 2,iE 20 1 19 0,au 21 1 20,ab 22 3,iE 23 1 22 0,au 24 1 23,oX 25 (.mm false 21 24),iE 26 1 18 0,cC 1 26 25]) (aq [ah [bn .eql 28 9 2,ab 27 28],.cond 27 (.eF true [ab 29 1,ab 30 2,iE 31 1 30 0,au 32 1 31,ab 33 3,iE 34 1 33 0,au 35 1 34,bo .mul 36 32 35,aK 37 1 4,au 38 1 37,bo .rem 39 36 38,iE 40 1 29 0,cC 1 40 39]) (aq [ah [bn .eql 42 9 3,ab 41 42],.cond 41 (.eF true [ab 43 1,ab 44 2,iE 45 1 44 0,au 46 1 45,ab 47 3,iE 48 1 47 0,au 49 1 48,bo .mul 50 46 49,aK 51 1 4,au 52 1 51,oX 53 (.mm false 50 52),iE 54 1 43 0,cC 1 54 53]) (aq [ah [bn .eql 56 9 4,ab 55 56],.cond 55 (.eF true [ab 57 1,ab 58 2,iE 59 1 58 0,au 60 1 59,ab 61 3,iE 62 1 61 0,au 63 1 62,bo .add 64 60 63,aK 65 1 4,au 66 1 65,oX 67 (.mm false 64 66),iE 68 1 57 0,cC 1 68 67]) (aq [ah [bn .eql 70 9 6,ab 69 70],.cond 69 (.eF true [ab 71 1,ab 72 2,iE 73 1 72 0,au 74 1 73,ab 75 3,iE 76 1 75 0,au 77 1 76,bo .and 78 74 77,iE 79 1 71 0,cC 1 79 78]) (ah [bR 10 3 4,ab 11 1,ab 12 2,ab 13 3,oX 14 (.lv .bc 85 [10,11,12,13])])])])])])])])
def acL:List bZ:=[]
theorem aqi (NN:Nat) (x:bj (ar.bi Kx)):Co NN [Z0] ae3 acL Kx Nz U9 x=Jx NN x:=by kernel_rfl
theorem anv:c6 pX 54 ae3.er acL 4=true:=by decide+kernel
theorem arB:vo pX 54 Nz Z1.MM/\cz pX 54=true:=
  H5 (args:=Kx) (mu:=Nz) (ax:=U9) (aC.w6 arA<|aC.nil) dN anv CX fun x y h=>(aqi aM x).trans (aki x y h)
def ZO:aw:=⟨18,J6,aoO,UH,yq⟩
def aeC:ca:=
 (aq [ah [ez 4 3 0,ez 5 3 1,ez 6 3 2,fz 8 [.nil iX,.nil iX,.nil iX],fi 9],aq [ah [bR 24 3 4,bR 25 3 5,cv 26 46 [24,25],lS 27 26,ab 28 27,cR 28 (bR 29 3 4),cR 28 (bR 30 3 6),cR 28 (cv 31 46 [29,30]),cR 28 (lS 32 31),lp 33 28 32],.cond 33 (aq [ah [oX 34 (.build [.nil iX,.nil iX,.nil iX] []),cC 3 8 34,fi 9],.ret]) .skip],ah [bR 36 3 5,bR 37 3 6,cv 38 47 [36,37],ab 35 38,ox 39 0 35,ox 40 1 35,ox 41 2 35,ab 10 39,ab 11 40,ab 12 41],aq [ah [ab 42 12,lS 43 42,ab 44 43,cR 44 (ab 45 11),cR 44 (cv 46 36 [45]),cR 44 (bn .gtr 47 46 65536),lp 48 44 47],.cond 48 (aq [ah [oX 49 (.build [.nil iX,.nil iX,.nil iX] []),cC 3 8 49,fi 9],.ret]) .skip],ah [ab 50 10,ab 51 3,cv 52 48 [50,51],ab 13 52],ah [ab 53 13,ab 54 13,dM 55 54,oX 56 (.jK .bc iX 8 (0:Int) 55 55),oX 57 (.build [.nil iX,.nil iX,.nil iX] [(0,1,53),(1,1,56)]),fz 14 [.nil iX,.nil iX,.nil iX],cC 3 14 57],aq [ah [ab 58 13,dM 59 58,cU 60 0],.join ⟨[eu 10 730 1,aJ 14 14,aJ 8 8,eu 11 731 1,aJ 4 4,aJ 6 6,aJ 5 5],[aN 4 [vX,vX,vX],aN 5 [cq,cq,cq],aN 6 [cq,cq,cq],aN 8 [fX 724 1,fX 725 1,fX 726 1],aN 14 [fX 727 1,fX 728 1,fX 729 1],aO 724,aO 725,aO 726,aO 727,aO 728,aO 729,aO 730,aO 731]⟩ [4,5,6,8,14,700,701,702,703,704,705,706,707,724,725,726,727,728,729,730,731] [bm 8 0 724,bm 8 1 725,bm 8 2 726,bm 14 0 727,bm 14 1 728,bm 14 2 729,eJ 10 730,eJ 11 731] (.block 0 (.loop 0 ⟨[aJ 4 4,aJ 5 5,aJ 6 6,aJ 8 8,eu 10 706 1,eu 11 707 1,aJ 14 14,eu 58 703 1,aA 59,aA 60],[aN 4 [vX,vX,vX],aN 5 [cq,cq,cq],aN 6 [cq,cq,cq],aN 8 [fX 700 1,fX 701 1,fX 702 1],aN 14 [fX 703 1,fX 704 1,fX 705 1],aO 700,aO 701,aO 702,aO 703,aO 704,aO 705,aO 706,aO 707]⟩ [4,5,6,8,39000,39001,53000,56,14,700,701,702,703,704,705,706,707,716,717,718,719,720,721,722,723] [bm 8 0 700,bm 8 1 701,bm 8 2 702,bm 14 0 703,bm 14 1 704,bm 14 2 705,eJ 10 706,eJ 11 707] (aq [ah [bo .lss 61 60 59],eZ 61 0,.join ⟨[aA 60,aJ 4 4,aJ 5 5,aJ 6 6,aJ 8 8,eu 10 722 1,eu 11 723 1,aJ 14 14,eu 58 719 1,aA 59],[aN 4 [vX,vX,vX],aN 5 [cq,cq,cq],aN 6 [cq,cq,cq],aN 8 [fX 716 1,fX 717 1,fX 718 1],aN 14 [fX 719 1,fX 720 1,fX 721 1],aO 716,aO 717,aO 718,aO 719,aO 720,aO 721,aO 722,aO 723]⟩ [4,5,6,8,14,708,709,710,711,712,713,714,715,716,717,718,719,720,721,722,723] [bm 8 0 716,bm 8 1 717,bm 8 2 718,bm 14 0 719,bm 14 1 720,bm 14 2 721,eJ 10 722,eJ 11 723] (.block 1 (aq [ah [ab 62 60,dh 63 1 58 60,au 64 1 63,ab 15 62,ab 16 64],ah [ab 65 10,dM 66 65,cU 67 0],.block 2 (.loop 0 ⟨[aJ 4 4,aJ 5 5,aJ 6 6,aJ 8 8,eu 10 714 1,eu 11 715 1,aJ 14 14,aA 15,aA 16,eu 58 711 1,aA 59,aA 60,eu 65 714 1,aA 66,aA 67],[aN 4 [vX,vX,vX],aN 5 [cq,cq,cq],aN 6 [cq,cq,cq],aN 8 [fX 708 1,fX 709 1,fX 710 1],aN 14 [fX 711 1,fX 712 1,fX 713 1],aO 708,aO 709,aO 710,aO 711,aO 712,aO 713,aO 714,aO 715]⟩ [4,5,6,8,14,700,701,702,703,704,705,706,707,708,709,710,711,712,713,714,715] [bm 8 0 708,bm 8 1 709,bm 8 2 710,bm 14 0 711,bm 14 1 712,bm 14 2 713,eJ 10 714,eJ 11 715] (aq [ah [bo .lss 68 67 66],eZ 68 2,.block 3 (aq [ah [ab 69 67,dh 70 1 65 67,au 71 1 70,ab 17 69,ab 18 71],ah [ab 72 18,ab 73 16,bo .eql 74 72 73],.cond 74 (.eF true [aK 75 1 14,au 76 1 75,ab 77 15,ab 78 11,ab 79 17,dh 80 1 78 79,au 81 1 80,dh 82 1 76 77,cC 1 82 81]) .skip]),ah [bn .add 83 67 1,ab 67 83]]))])),ah [bn .add 84 60 1,ab 60 84]])))],aq [ah [bR 85 3 14,cv 86 49 [85],bn .eql 87 86 (-1)],.cond 87 (aq [ah [oX 88 (.build [.nil iX,.nil iX,.nil iX] []),cC 3 8 88,fi 9],.ret]) .skip],.eF true [bR 89 3 4,aK 90 0 14,au 91 1 90,aK 92 1 14,au 93 1 92,bR 94 3 4,cv 95 51 [94],cv 96 50 [89,91,93,95],cC 3 14 96],.eF true [bR 97 3 5,ab 98 10,cv 99 52 [97,98],bR 100 3 6,ab 101 10,cv 102 52 [100,101],bR 103 3 14,ab 104 10,cv 105 52 [103,104],ab 19 99,ab 20 102,ab 21 105],ah [ab 106 10,dM 107 106,oX 108 (.jK .bc iX 8 (0:Int) 107 107),ab 22 108],ah [bR 109 3 4,cv 110 53 [109],oX 111 (.jK .bc iX 8 (0:Int) 110 110),ab 23 111],.block 4 (.loop 0 ⟨[aJ 4 4,aJ 5 5,aJ 6 6,aJ 8 8,eu 11 738 1,aJ 14 14,eu 19 739 1,eu 20 740 1,eu 21 741 1,eu 22 742 1,eu 23 743 1],[aN 4 [vX,vX,vX],aN 5 [cq,cq,cq],aN 6 [cq,cq,cq],aN 8 [fX 732 1,fX 733 1,fX 734 1],aN 14 [fX 735 1,fX 736 1,fX 737 1],aO 732,aO 733,aO 734,aO 735,aO 736,aO 737,aO 738,aO 739,aO 740,aO 741,aO 742,aO 743]⟩ [4,5,6,8,14,96000,97000,97001,97002,100000,103000,106000,108,111,724,725,726,727,728,729,730,731,732,733,734,735,736,737,738,739,740,741,742,743] [bm 8 0 732,bm 8 1 733,bm 8 2 734,bm 14 0 735,bm 14 1 736,bm 14 2 737,eJ 11 738,eJ 19 739,eJ 20 740,eJ 21 741,eJ 22 742,eJ 23 743] (.block 5 (aq [.eF true [bR 112 3 4,ab 113 23,bR 114 3 4,bR 115 3 5,ab 116 19,ab 117 22,cv 118 55 [116,117],oX 119 (.mD 38 [114,115,118]),bR 120 3 4,bR 121 3 6,ab 122 20,ab 123 22,cv 124 55 [122,123],oX 125 (.mD 38 [120,121,124]),oX 126 (.lv .bc 54 [112,113,119,125])],.eF true [bR 127 3 4,bR 128 3 4,bR 129 3 14,ab 130 21,ab 131 22,cv 132 55 [130,131],oX 133 (.nM 38 [128,129,132]),ab 134 23,oX 135 (.nN .bc 37 [127,133,134])],ah [ab 136 11,ab 137 22,oX 138 (.lv .bc 41 [136,137]),lS 139 138],.cond 139 (aq [ah [bR 140 3 14,cC 3 8 140,qH 9],.ret]) .skip])))])
def aci:List bZ:=[.cell 8 3 true,.tmp 9]
theorem apP (NN:Nat) (x:bj (ar.bi J6)):fB NN [QZ,ZX,L6,ZZ,Q0,Z7,ZU,Q8,DV,Q4,L7,Z1,Q6,Q1,L5] aeC aci J6 UH x=Jm NN x:=by kernel_rfl
theorem am3:c6 pX 18 aeC.er aci 4=true:=by decide+kernel
theorem arn:eY pX 18 ZO.M/\cz pX 18=true:=
  fO (args:=J6) (ax:=UH) (aC.cons adD<|aC.cons arx<|aC.cons T8<|aC.cons arz<|aC.cons adE<|aC.cons arH<|aC.cons aru<|aC.cons adM<|aC.cons Ii<|aC.cons adI<|aC.lx T9<|aC.w6 arB<|aC.Yw adK<|aC.Qw adF<|aC.w6 T7<|aC.nil) dN am3 yq fun x y h=>(apP aM x).trans (ajR x y h)
def Q9:aw:=⟨20,KO,apq,Vq,wQ⟩
def afl:ca:=
 (aq [ah [fi 4],aq [ah [ab 7 0,dM 8 7,cU 9 0],.join ⟨[eH 0,eH 1],[]⟩ [] [] (.block 0 (.loop 0 ⟨[eH 0,eH 1,eH 7,aA 8,aA 9],[]⟩ [] [] (aq [ah [bo .lss 10 9 8],eZ 10 0,.block 1 (aq [ah [ab 11 9,dh 12 1 7 9,au 13 1 12,ab 5 11,ab 6 13],ah [ab 14 5,ab 15 1,dM 16 15,bo .geq 17 14 16,ab 18 17,cR 18 (ab 19 1),cR 18 (ab 20 5),cR 18 (dh 21 1 19 20),cR 18 (au 22 1 21),cR 18 (ab 23 6),cR 18 (bo .neq 24 22 23),lp 25 18 24],.cond 25 (aq [ah [fi 4],.ret]) .skip]),ah [bn .add 26 9 1,ab 9 26]])))],ah [ab 27 0,dM 28 27,ab 29 1,dM 30 29,bo .eql 31 28 30,ab 4 31],.ret])
def ac4:List bZ:=[.tmp 4]
theorem aqA (NN:Nat) (x:bj (ar.bi KO)):fB NN [] afl ac4 KO Vq x=JC NN x:=by kernel_rfl
theorem anO:c6 pX 20 afl.er ac4 2=true:=by decide+kernel
theorem adN:eY pX 20 Q9.M/\cz pX 20=true:=
  fO (args:=KO) (ax:=Vq) (aC.nil) dN anO wQ fun x y h=>(aqA aM x).trans (akA x y h)
def aab:aw:=⟨19,KP,apr,Vr,Ay⟩
def afm:ca:=
 (aq [ah [ez 2 3 0,ez 3 3 1,fi 4],ah [aK 5 0 2,au 6 1 5,aK 7 0 3,au 8 1 7,cv 9 20 [6,8],ab 10 9,cb 10 (aK 11 1 2),cb 10 (au 12 1 11),cb 10 (aK 13 1 3),cb 10 (au 14 1 13),cb 10 (cv 15 20 [12,14]),iq 16 10 15,ab 17 16,cb 17 (aK 18 2 2),cb 17 (au 19 1 18),cb 17 (aK 20 2 3),cb 17 (au 21 1 20),cb 17 (cv 22 20 [19,21]),iq 23 17 22,ab 4 23],.ret])
def ac5:List bZ:=[.tmp 4]
theorem aqB (NN:Nat) (x:bj (ar.bi KP)):fB NN [Q9] afm ac5 KP Vr x=JD NN x:=by kernel_rfl
theorem anP:c6 pX 19 afm.er ac5 2=true:=by decide+kernel
theorem arM:eY pX 19 aab.M/\cz pX 19=true:=
  fO (args:=KP) (ax:=Vr) (aC.cons adN<|aC.nil) dN anP Ay fun x y h=>(aqB aM x).trans (akB x y h)
def L8:aw:=⟨4,yL,app,Vp,O8⟩
def afk:ca:=
 (aq [ah [fi 2],aq [ah [ab 21 0,dM 22 21,bn .gtr 23 22 1048576],.cond 23 (aq [ah [qH 2],.ret]) .skip],ah [ab 24 0,kL 25 12 [24,(kX 0)],ab 3 25],ah [ab 26 0,kL 27 13 [26,(kX 10)],ab 4 27],ah [ab 28 0,ab 29 3,ab 30 4,kL 31 14 [28,(kX 30),29,30],fz 5 [zX,.nil gX],cC 2 5 31],ah [ab 32 0,ab 33 3,ab 34 4,kL 35 14 [32,(kX 80),33,34],fz 6 [zX,.nil gX],cC 2 6 35],ah [ab 36 0,ab 37 3,ab 38 4,kL 39 14 [36,(kX 130),37,38],fz 7 [zX,.nil gX],cC 2 7 39],ah [ab 40 3,oX 41 (.build [zX,zX,zX] [(0,1,(kX 2)),(1,1,40)]),fz 8 [zX,zX,zX],cC 3 8 41],ah [bR 43 2 5,bR 44 2 6,cv 45 8 [43,44],ab 42 45,ox 46 0 42,ox 47 1 42,fz 9 [zX,.nil gX],cC 2 9 46,ab 10 47],.eF true [bR 49 3 8,bR 50 2 5,cv 51 16 [50],bR 52 2 6,cv 53 16 [52],cv 54 15 [49,51,53],ab 48 54,ox 55 0 48,ox 56 1 48,fz 11 [.nil iX,.nil iX,.nil iX],cC 3 11 55,ab 12 56],ah [bR 58 2 5,bR 59 2 7,cv 60 17 [58,59],ab 57 60,ox 61 0 57,ox 62 1 57,ab 13 61,ab 14 62],ah [bR 64 2 6,bR 65 2 7,cv 66 17 [64,65],ab 63 66,ox 67 0 63,ox 68 1 63,ab 15 67,ab 16 68],ah [bR 70 2 9,bR 71 2 7,cv 72 17 [70,71],ab 69 72,ox 73 0 69,ox 74 1 69,ab 17 73,ab 18 74],.eF true [bR 76 3 8,bR 77 2 5,cv 78 16 [77],bR 79 2 7,cv 80 16 [79],cv 81 18 [76,78,80,(.k (.one (.nil iX)))],ab 75 81,ox 82 0 75,ox 83 1 75,fz 19 [.nil iX,.nil iX,.nil iX],cC 3 19 82,ab 20 83],.rl [(32,35),(33,35)] [ab 84 10,ab 85 84,cb 85 (ab 86 12),iq 87 85 86,ab 88 87,cb 88 (ab 89 14),iq 90 88 89,ab 91 90,cb 91 (ab 92 16),iq 93 91 92,ab 94 93,cb 94 (ab 95 18),iq 96 94 95,ab 97 96,cb 97 (ab 98 20),iq 99 97 98,ab 100 99,cb 100 (bR 101 2 9),cb 100 (cv 102 16 [101]),cb 100 (bR 103 3 11),cb 100 (cv 104 19 [102,103]),iq 105 100 104,ab 106 105,cb 106 (ab 107 17),cb 106 (ab 108 13),cb 106 (ab 109 15),cb 106 (bo .add 110 108 109),cb 106 (ab 111 3),cb 106 (bo .rem 112 110 111),cb 106 (bo .eql 113 107 112),iq 114 106 113,ab 115 114,cb 115 (aK 116 2 19),cb 115 (au 117 1 116),cb 115 (ab 118 13),cb 115 (oX 119 (.hZ iX [118])),cb 115 (cv 120 20 [117,119]),iq 121 115 120,ab 2 121],.ret])
def ac3:List bZ:=[.tmp 2]
theorem aqz (NN:Nat) (x:bj (ar.bi yL)):fB NN [aae,aad,aac,ZL,ZN,ZM,ZP,ZO,aab,Q9] afk ac3 yL Vp x=JB NN x:=by kernel_rfl
theorem anN:c6 pX 4 afk.er ac3 1=true:=by decide+kernel
theorem arL:eY pX 4 L8.M/\cz pX 4=true:=
  fO (args:=yL) (ax:=Vp) (aC.lx arP<|aC.lx arO<|aC.lx arN<|aC.cons ark<|aC.cons arm<|aC.cons arl<|aC.cons aro<|aC.cons arn<|aC.cons arM<|aC.cons adN<|aC.nil) dN anN O8 fun x y h=>(aqz aM x).trans (akz x y h)
end Go.Am
