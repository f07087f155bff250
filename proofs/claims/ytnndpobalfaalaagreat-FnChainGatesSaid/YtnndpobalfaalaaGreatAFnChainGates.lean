/- A_FnChainGates: the code of the functions of FnChainGates. No condition. -/
import Derived.Test.YtnndpobalfaalaaGreatWT
import Derived.Test.YtnndpobalfaalaaGreatWT
import Derived.KernelRfl
import Derived.Test.YtnndpobalfaalaaGreatRows
import Derived.Test.YtnndpobalfaalaaGreatTLen
set_option linter.unusedVariables false
set_option maxRecDepth 100000
namespace Go.Am
theorem cU:Go.Proofs.Tryz.prog.follows .mixedOrders=true:=by decide+kernel
noncomputable abbrev pX:=Go.Proofs.Tryz.prog
def oX (n:Nat) (x:d7):eD:=⟨some n,x,none⟩
def uX (x:d7):eD:=⟨none,x,none⟩
def kX (n:Int):dD:=.k (.one (.v (.int .i64) n))
def sX:kc:=.one (.c (.v (.int .i64)))
def iX:List Ty:=[.int .i64]
def lX:Ty:=.list iX
def gX:List Ty:=[.int .i64,.int .i64,.int .i64,lX]
def zX:SC:=.v (.int .i64) (0:Int)
def vX:fQ:=.c (.v (.int .i64))
def fX (n k:Nat):fQ:=.c (.full n k)
def rX (n:Nat):fQ:=.c (.KV n 0)
instance tX (n:Nat):OfNat dD n:=⟨.t n⟩
def bz (s:Nat) (o:eD):eD:={o with guard:=some (s,true)}
def bA (s:Nat) (o:eD):eD:={o with guard:=some (s,false)}
def ab (d s:Nat):eD:=oX d (.mv (.t s))
def au (d n s:Nat):eD:=oX d (.load false n (.t s))
def bj (d n s:Nat):eD:=oX d (.load true n (.t s))
def aC (d n s:Nat):eD:=oX d (.q8 n (.t s))
def cL (d n x i:Nat):eD:=oX d (.qE n (.t x) (.t i))
def iZ (d n x:Nat) (i:Int):eD:=oX d (.qE n (.t x) (kX i))
def cz (d:Nat) (c:Int):eD:=oX d (.mv (kX c))
def bX1:dD:=.k (.one (.v .bool true))
def bX0:dD:=.k (.one (.v .bool false))
def pA (d:Nat):eD:=oX d (.mv bX1)
def eu (d:Nat):eD:=oX d (.mv bX0)
def gD (d c x:Nat):eD:=oX d (.pick (.t c) (.t x) bX0)
def gh (d c x:Nat):eD:=oX d (.pick (.t c) bX1 (.t x))
def aN (o:BinOp) (d x y:Nat):eD:=oX d (.bin o (.t x) (.t y))
def aQ (o:BinOp) (d x:Nat) (c:Int):eD:=oX d (.bin o (.t x) (kX c))
def dF (d n s:Nat):eD:=oX d (.box n (.t s))
def dk (d s:Nat):eD:=oX d (.len (.t s))
def bD (d f:Nat) (l:List dD):eD:=oX d (.call .aZ f l)
def gR (d s:Nat):eD:=oX d (.un .not (.t s))
def gW (d n s:Nat):eD:=oX d (.ext n (.t s))
def iP (d f:Nat) (l:List dD):eD:=oX d (.mn f l)
def bJ (n x v:Nat):eD:=uX (.store n (.t x) (.t v))
def du (d:Nat) (l:List SC):eD:=oX d (.alloc l)
def mM (d:Nat):eD:=oX d (.mv (.k (.one (.nil iX))))
def ah (l:List eD):bN:=.dB false l
def aj:List bN->bN
  |[]=>.skip
  |[a]=>a
  |a::l=>.seq a (aj l)
def dQ (n e:Nat):bN:=.cond (.t n) .skip (.exit e)
def ar (n:Nat):Nat×kc:=(n,sX)
def de (n m k:Nat):Nat×kc:=(n,.one (fX m k))
def aw (n m:Nat):Nat×kc:=(n,.one (rX m))
def aF (n:Nat):Nat×ie:=(n,.row true .aZ iX)
def bL:fQ:=.c (.v lX)
def fF:fQ:=.c (.v (.list gX))
def az (n:Nat) (l:List fQ):Nat×ie:=(n,.box l)
def aO (a b c:Nat):Bool×Nat×Nat×Nat×Mode×List Ty:=(true,a,b,c,.aZ,[])
def dn (a c:Nat):Bool×Nat×Nat×Nat×Mode×List Ty:=(false,a,0,c,.aZ,[])
def eX (n:Nat):Nat×kc:=(n,.one (.c (.v lX)))
def aeQ:aE:=⟨61,Oe,axe,ZW,Fh⟩
def alc:bN:=
 (aj [ah [oX 2 (.mv (.k (.one (.cD))))],ah [ab 5 0,dk 6 5,oX 7 (.bin .add (kX 55127) 6),ab 3 7],aj [ah [cz 4 0],.join ⟨[(0,.one (.c (.v (.list [.int .u8])))),ar 3],[]⟩ [] [] (.block 0 (.loop 0 ⟨[(0,.one (.c (.v (.list [.int .u8])))),ar 3,ar 4],[]⟩ [] [] (aj [aj [ah [ab 8 4,ab 9 0,dk 10 9,aN .lss 11 8 10,ab 12 11,bz 12 (ab 13 4),bz 12 (aQ .lss 14 13 4000),gD 15 12 14],dQ 15 0],.block 1 (ah [ab 18 3,aQ .mul 19 18 131,ab 20 0,ab 21 4,cL 22 1 20 21,au 23 1 22,oX 24 (.conv .i64 23),aN .add 25 19 24,aQ .add 26 25 7,aQ .and 27 26 1073741823,ab 3 27]),ah [ab 16 4,aQ .add 17 16 1,ab 4 17]])))],ah [ab 28 0,ab 29 3,oX 30 (.build [.nil [.int .u8],zX,zX] [(0,1,28),(2,1,29)]),dF 31 3 30,ab 2 31],.ret])
def aiD:List bK:=[.tmp 2]
theorem ayM (NN:Nat) (x:bf (aq.be Oe)):pg NN [] alc aiD Oe ZW x=MA NN x:=by kernel_rfl
theorem avj:cG pX 61 alc.er aiD 1=true:=by decide+kernel
theorem aAc:mL pX 61 aeQ.MV/\cc pX 61=true:=
  qO (args:=Oe) (aH:=ZW) (aB.nil) cU avj Fh fun x y h=>(ayM aI x).trans (aqV x y h)
def F4:aE:=⟨22,Ol,axl,Z3,wW⟩
def alj:bN:=
 (aj [ah [oX 4 (.mv (.k (.one (.cD))))],ah [ab 6 0,iP 7 61 [6],ab 5 7],ah [ab 8 5,ab 9 1,ab 10 0,dk 11 10,oX 12 (.mm false 9 11),oX 13 (.jZ 8),aC 14 1 13,bJ 1 14 12],ah [ab 15 5,ab 16 5,oX 17 (.jZ 16),aC 18 2 17,au 19 1 18,aQ .mul 20 19 31,ab 21 1,aQ .mul 22 21 7919,aN .add 23 20 22,aQ .add 24 23 1,aQ .and 25 24 1073741823,oX 26 (.jZ 15),aC 27 2 26,bJ 1 27 25],ah [ab 28 5,ab 4 28],.ret])
def aiK:List bK:=[.tmp 4]
theorem ayT (NN:Nat) (x:bf (aq.be Ol)):pg NN [aeQ] alj aiK Ol Z3 x=MH NN x:=by kernel_rfl
theorem avq:cG pX 22 alj.er aiK 2=true:=by decide+kernel
theorem KP:mL pX 22 F4.MV/\cc pX 22=true:=
  qO (args:=Ol) (aH:=Z3) (aB.jB aAc<|aB.nil) cU avq wW fun x y h=>(ayT aI x).trans (aq2 x y h)
def UJ:aE:=⟨63,Od,axd,ZV,An⟩
def alb:bN:=
 (aj [ah [cz 2 0],ah [ab 4 0,ab 5 0,oX 6 (.jZ 5),aC 7 2 6,au 8 1 7,aQ .mul 9 8 6364136223846793005,aQ .add 10 9 1442695040888963407,oX 11 (.jZ 4),aC 12 2 11,bJ 1 12 10],.dB true [ab 13 0,oX 14 (.jZ 13),aC 15 2 14,au 16 1 15,oX 17 (.bin .shr 16 (.k (.one (.v (.int .u64) ((33:Int)))))),ab 18 0,oX 19 (.jZ 18),aC 20 2 19,au 21 1 20,oX 22 (.bin .shr 21 (.k (.one (.v (.int .u64) ((45:Int)))))),aN .xor 23 17 22,aQ .and 24 23 255,ab 3 24],aj [.dB true [ab 25 0,oX 26 (.jZ 25),aC 27 1 26,au 28 1 27,ab 29 0,oX 30 (.jZ 29),aC 31 0 30,au 32 1 31,dk 33 32,aN .lss 34 28 33],.join ⟨[ar 3],[(1000000,.box [.c (.v (.list [.int .u8])),vX,vX])]⟩ [1000000] [] (.cond 34 (aj [.dB true [ab 35 3,ab 36 0,oX 37 (.jZ 36),aC 38 0 37,au 39 1 38,ab 40 0,oX 41 (.jZ 40),aC 42 1 41,au 43 1 42,cL 44 1 39 43,au 45 1 44,oX 46 (.conv .i64 45),aN .add 47 35 46,aQ .and 48 47 255,ab 3 48],ah [ab 49 0,ab 50 0,oX 51 (.jZ 50),aC 52 1 51,au 53 1 52,aQ .add 54 53 1,oX 55 (.jZ 49),aC 56 1 55,bJ 1 56 54]]) .skip)],ah [ab 57 3,ab 2 57],.ret])
def aiC:List bK:=[.tmp 2]
theorem ayL (NN:Nat) (x:bf (aq.be Od)):pg NN [] alb aiC Od ZV x=Mz NN x:=by kernel_rfl
theorem avi:cG pX 63 alb.er aiC 1=true:=by decide+kernel
theorem ajc:mL pX 63 UJ.MV/\cc pX 63=true:=
  qO (args:=Od) (aH:=ZV) (aB.nil) cU avi An fun x y h=>(ayL aI x).trans (aqU x y h)
def F3:aE:=⟨60,Oc,axc,ZU,vA⟩
def ala:bN:=
 (aj [ah [cz 4 0],aj [ah [ab 5 1,aQ .leq 6 5 0],.cond 6 (aj [ah [cz 4 0],.ret]) .skip],ah [ab 7 0,iP 8 63 [7],ab 9 1,aN .rem 10 8 9,ab 4 10],.ret])
def aiB:List bK:=[.tmp 4]
theorem ayK (NN:Nat) (x:bf (aq.be Oc)):pg NN [UJ] ala aiB Oc ZU x=My NN x:=by kernel_rfl
theorem avh:cG pX 60 ala.er aiB 2=true:=by decide+kernel
theorem KO:mL pX 60 F3.MV/\cc pX 60=true:=
  qO (args:=Oc) (aH:=ZU) (aB.jB ajc<|aB.nil) cU avh vA fun x y h=>(ayK aI x).trans (aqT x y h)
def aeR:aE:=⟨21,Og,axg,ZY,Fi⟩
def ale:bN:=
 (aj [ah [cz 4 0],ah [ab 5 1,ab 6 0,ab 7 1,dk 8 7,iP 9 60 [6,8],cL 10 1 5 9,au 11 1 10,ab 4 11],.ret])
def aiF:List bK:=[.tmp 4]
theorem ayO (NN:Nat) (x:bf (aq.be Og)):pg NN [F3] ale aiF Og ZY x=MC NN x:=by kernel_rfl
theorem avl:cG pX 21 ale.er aiF 2=true:=by decide+kernel
theorem aAd:mL pX 21 aeR.MV/\cc pX 21=true:=
  qO (args:=Og) (aH:=ZY) (aB.jB KO<|aB.nil) cU avl Fi fun x y h=>(ayO aI x).trans (aqX x y h)
def aeO:aE:=⟨4,Oa,axa,ZS,Ff⟩
def ak8:bN:=
 (aj [ah [cz 4 0],ah [ab 5 0,ab 6 1,iP 7 22 [5,6],oX 8 (.gy iX [(kX 2),(kX 3),(kX 7),(kX 101),(kX 1000003)]),iP 9 21 [7,8],ab 4 9],.ret])
def aiz:List bK:=[.tmp 4]
theorem ayI (NN:Nat) (x:bf (aq.be Oa)):pg NN [F4,aeR] ak8 aiz Oa ZS x=Mw NN x:=by kernel_rfl
theorem avf:cG pX 4 ak8.er aiz 2=true:=by decide+kernel
theorem aAa:mL pX 4 aeO.MV/\cc pX 4=true:=
  qO (args:=Oa) (aH:=ZS) (aB.jB KP<|aB.jB aAd<|aB.nil) cU avf Ff fun x y h=>(ayI aI x).trans (aqQ x y h)
def aeU:aE:=⟨23,Ok,axk,Z2,Fk⟩
def ali:bN:=
 (aj [ah [mM 2],ah [oX 5 (.gy iX []),ab 3 5],aj [ah [ab 6 0,iP 7 60 [6,(kX 4)],oX 8 (.bin .add (kX 1) 7),ab 4 8],.join ⟨[de 3 701 1],[(1000000,.box [.c (.v (.list [.int .u8])),vX,vX]),aF 701]⟩ [1000000,700,701] [dn 3 701] (.block 0 (.loop 0 ⟨[aw 0 1000000,de 3 700 1,ar 4],[(1000000,.box [.c (.v (.list [.int .u8])),vX,vX]),aF 700]⟩ [1000000,5,17,18,700] [dn 3 700] (aj [aj [ah [ab 9 4,aQ .gtr 10 9 0],dQ 10 0],.block 1 (ah [ab 13 3,ab 14 0,iP 15 60 [14,(kX 3)],oX 16 (.bin .add (kX 1) 15),oX 17 (.gy iX [16]),oX 18 (.append true iX 8 13 17),ab 3 18]),ah [ab 11 4,aQ .sub 12 11 1,ab 4 12]])))],ah [ab 19 3,ab 2 19],.ret])
def aiJ:List bK:=[.tmp 2]
theorem ayS (NN:Nat) (x:bf (aq.be Ok)):pg NN [F3] ali aiJ Ok Z2 x=MG NN x:=by kernel_rfl
theorem avp:cG pX 23 ali.er aiJ 1=true:=by decide+kernel
theorem aAg:mL pX 23 aeU.MV/\cc pX 23=true:=
  qO (args:=Ok) (aH:=Z2) (aB.jB KO<|aB.nil) cU avp Fk fun x y h=>(ayS aI x).trans (aq1 x y h)
def aeL:aE:=⟨5,N7,aw7,ZP,Fc⟩
def ak5:bN:=
 (aj [ah [mM 4],ah [ab 5 0,ab 6 1,iP 7 22 [5,6],iP 8 23 [7],ab 4 8],.ret])
def aiw:List bK:=[.tmp 4]
theorem ayF (NN:Nat) (x:bf (aq.be N7)):pg NN [F4,aeU] ak5 aiw N7 ZP x=Mt NN x:=by kernel_rfl
theorem avc:cG pX 5 ak5.er aiw 2=true:=by decide+kernel
theorem az7:mL pX 5 aeL.MV/\cc pX 5=true:=
  qO (args:=N7) (aH:=ZP) (aB.jB KP<|aB.jB aAg<|aB.nil) cU avc Fc fun x y h=>(ayF aI x).trans (aqN x y h)
def UK:aE:=⟨62,Of,axf,ZX,Ao⟩
def ald:bN:=
 (aj [ah [eu 4],ah [ab 5 0,ab 6 1,iP 7 60 [5,6],aQ .eql 8 7 0,ab 4 8],.ret])
def aiE:List bK:=[.tmp 4]
theorem ayN (NN:Nat) (x:bf (aq.be Of)):pg NN [F3] ald aiE Of ZX x=MB NN x:=by kernel_rfl
theorem avk:cG pX 62 ald.er aiE 2=true:=by decide+kernel
theorem ajd:mL pX 62 UK.MV/\cc pX 62=true:=
  qO (args:=Of) (aH:=ZX) (aB.jB KO<|aB.nil) cU avk Ao fun x y h=>(ayN aI x).trans (aqW x y h)
def aeS:aE:=⟨64,Oi,axi,Z0,CD⟩
def alg:bN:=
 (aj [ah [du 4 [zX,zX,.nil iX]],ah [ab 5 0,ab 6 1,ab 7 0,ab 8 1,aN .mul 9 7 8,oX 10 (.kv .aZ iX 8 (0:Int) 9 9),oX 11 (.build [zX,zX,.nil iX] [(0,1,5),(1,1,6),(2,1,10)]),bJ 3 4 11],.ret])
def aiH:List bK:=[.cell 4 3 true]
theorem ayQ (NN:Nat) (x:bf (aq.be Oi)):eA NN [] alg aiH Oi Z0 x=ME NN x:=by kernel_rfl
theorem avn:cG pX 64 alg.er aiH 2=true:=by decide+kernel
theorem aAe:dP pX 64 aeS.M/\cc pX 64=true:=
  eK (args:=Oi) (aH:=Z0) (aB.nil) cU avn CD fun x y h=>(ayQ aI x).trans (adF x y h)
def UL:aE:=⟨26,Oh,axh,ZZ,CC⟩
def alf:bN:=
 (aj [ah [du 8 [zX,zX,.nil iX]],ah [ab 12 2,ab 13 3,bD 14 64 [12,13],du 9 [zX,zX,.nil iX],bJ 3 9 14],aj [ah [aC 15 2 9,au 16 1 15,dk 17 16,cz 18 0],.join ⟨[ar 2,aw 0 1000000,ar 3,aw 9 9,aw 8 8],[(1000000,.box [.c (.v (.list [.int .u8])),vX,vX]),az 8 [vX,vX,fX 702 1],az 9 [vX,vX,fX 703 1],aF 702,aF 703]⟩ [1000000,8,9,700,701,702,703] [aO 8 2 702,aO 9 2 703] (.block 0 (.loop 0 ⟨[aw 0 1000000,ar 1,ar 2,ar 3,aw 8 8,aw 9 9,ar 17,ar 18],[(1000000,.box [.c (.v (.list [.int .u8])),vX,vX]),az 8 [vX,vX,fX 700 1],az 9 [vX,vX,fX 701 1],aF 700,aF 701]⟩ [1000000,8,15000,9,700,701] [aO 8 2 700,aO 9 2 701] (aj [ah [aN .lss 19 18 17],dQ 19 0,.block 1 (aj [ah [ab 20 18,ab 10 20],ah [ab 21 0,iP 22 62 [21,(kX 3)],gR 23 22],.cond 23 (.o9 [(0,6),(1,6)] [aC 24 2 9,au 25 1 24,ab 26 10,ab 27 0,ab 28 1,oX 29 (.mm false 28 (kX 256)),iP 30 60 [27,29],cL 31 1 25 26,bJ 1 31 30]) .skip]),ah [aQ .add 32 18 1,ab 18 32]])))],aj [ah [ab 33 2,aQ .gtr 34 33 1,ab 35 34,bz 35 (ab 36 0),bz 35 (iP 37 62 [36,(kX 3)]),gD 38 35 37],.join ⟨[aw 9 9,aw 8 8],[(1000000,.box [.c (.v (.list [.int .u8])),vX,vX]),az 8 [vX,vX,fX 706 1],az 9 [vX,vX,fX 707 1],aF 706,aF 707]⟩ [1000000,8,9,702,703,704,705,706,707] [aO 8 2 706,aO 9 2 707] (.cond 38 (aj [ah [cz 11 0],.block 2 (.loop 0 ⟨[ar 3,aw 8 8,aw 9 9,ar 11],[(1000000,.box [.c (.v (.list [.int .u8])),vX,vX]),az 8 [vX,vX,fX 704 1],az 9 [vX,vX,fX 705 1],aF 704,aF 705]⟩ [1000000,8,9,702,703,704,705] [aO 8 2 704,aO 9 2 705] (aj [aj [ah [ab 39 11,ab 40 3,aN .lss 41 39 40],dQ 41 2],.block 3 (.dB true [aC 44 2 9,au 45 1 44,ab 46 3,ab 47 11,aN .add 48 46 47,aC 49 2 9,au 50 1 49,ab 51 11,cL 52 1 50 51,au 53 1 52,cL 54 1 45 48,bJ 1 54 53]),ah [ab 42 11,aQ .add 43 42 1,ab 11 43]]))]) .skip)],ah [bj 55 3 9,bJ 3 8 55],.ret])
def aiG:List bK:=[.cell 8 3 true]
theorem ayP (NN:Nat) (x:bf (aq.be Oh)):pg NN [aeS,UK,F3] alf aiG Oh ZZ x=MD NN x:=by kernel_rfl
theorem avm:cG pX 26 alf.er aiG 4=true:=by decide+kernel
theorem aje:mL pX 26 UL.MV/\cc pX 26=true:=
  qO (args:=Oh) (aH:=ZZ) (aB.cons aAe<|aB.jB ajd<|aB.jB KO<|aB.nil) cU avm CC fun x y h=>(ayP aI x).trans (aqY x y h)
def aeT:aE:=⟨24,Oj,axj,Z1,Fj⟩
def alh:bN:=
 (aj [ah [du 6 [zX,.nil gX]],ah [ab 13 1,oX 14 (.build [zX,.nil gX] [(0,1,13)]),du 7 [zX,.nil gX],bJ 2 7 14],ah [cz 8 1],aj [ah [ab 15 2,dk 16 15,cz 17 0],.join ⟨[aw 7 7,aw 6 6],[(1000000,.box [.c (.v (.list [.int .u8])),vX,vX]),az 6 [vX,fX 706 4],az 7 [vX,fX 707 4],(706,.row true .aZ gX),(707,.row true .aV gX)]⟩ [1000000,6,7,700,701,706,707] [aO 6 1 706,(true,7,1,707,.aV,[])] (.block 0 (.loop 0 ⟨[aw 0 1000000,ar 1,eX 2,aw 6 6,aw 7 7,ar 8,eX 15,ar 16,ar 17],[(1000000,.box [.c (.v (.list [.int .u8])),vX,vX]),az 6 [vX,fX 700 4],az 7 [vX,fX 701 4],(700,.row true .aZ gX),(701,.row true .aV gX)]⟩ [1000000,6,7,12,51,700,701,704] [aO 6 1 700,(true,7,1,701,.aV,[])] (aj [ah [aN .lss 18 17 16],dQ 18 0,.block 1 (aj [ah [ab 19 17,cL 20 1 15 17,au 21 1 20,ab 9 19,ab 10 21],ah [ab 22 10,oX 23 (.mm false (kX 4) 22),oX 24 (.mm true (kX 1) 23),ab 10 24],ah [ab 25 0,iP 26 60 [25,(kX 4)],oX 27 (.bin .add (kX 1) 26),ab 11 27],aj [ah [ab 28 0,iP 29 62 [28,(kX 16)]],.join ⟨[ar 9,ar 8,ar 10,ar 11,ar 17,aw 0 1000000,ar 1,eX 2,aw 6 6,aw 7 7,eX 15,ar 16],[(1000000,.box [.c (.v (.list [.int .u8])),vX,vX]),az 6 [vX,fX 702 4],az 7 [vX,fX 703 4],(702,.row true .aZ gX),(703,.row true .aV gX)]⟩ [1000000,6,7,700,701,702,703] [aO 6 1 702,(true,7,1,703,.aV,[])] (.cond 29 (ah [cz 11 0]) .skip)],aj [ah [ab 30 9,ab 31 2,dk 32 31,aQ .sub 33 32 1,aN .eql 34 30 33],.join ⟨[ar 8,ar 10,ar 11,ar 17,aw 0 1000000,ar 1,eX 2,aw 6 6,aw 7 7,eX 15,ar 16],[(1000000,.box [.c (.v (.list [.int .u8])),vX,vX]),az 6 [vX,fX 704 4],az 7 [vX,fX 705 4],(704,.row true .aZ gX),(705,.row true .aV gX)]⟩ [1000000,6,7,702,703,704,705] [aO 6 1 704,(true,7,1,705,.aV,[])] (.cond 34 (ah [cz 11 1]) .skip)],ah [ab 35 0,ab 36 1,ab 37 8,ab 38 10,aN .mul 39 37 38,ab 40 11,iP 41 26 [35,36,39,40],du 12 [zX,zX,.nil iX],bJ 3 12 41],ah [aC 42 1 7,au 43 1 42,ab 44 8,ab 45 10,ab 46 11,aC 47 2 12,au 48 1 47,oX 49 (.build [zX,zX,zX,.nil iX] [(0,1,44),(1,1,45),(2,1,46),(3,1,48)]),oX 50 (.gy gX [49]),oX 51 (.append false gX 48 43 50),aC 52 1 7,bJ 1 52 51],ah [ab 53 11,ab 8 53]]),ah [aQ .add 54 17 1,ab 17 54]])))],ah [bj 55 2 7,bJ 2 6 55],.ret])
def aiI:List bK:=[.cell 6 2 true]
theorem ayR (NN:Nat) (x:bf (aq.be Oj)):pg NN [F3,UK,UL] alh aiI Oj Z1 x=MF NN x:=by kernel_rfl
theorem avo:cG pX 24 alh.er aiI 3=true:=by decide+kernel
theorem aAf:mL pX 24 aeT.MV/\cc pX 24=true:=
  qO (args:=Oj) (aH:=Z1) (aB.jB KO<|aB.jB ajd<|aB.jB aje<|aB.nil) cU avo Fj fun x y h=>(ayR aI x).trans (aq0 x y h)
def aeK:aE:=⟨6,N6,aw6,ZO,Fb⟩
def ak4:bN:=
 (aj [ah [du 8 [zX,.nil gX]],ah [ab 9 0,ab 10 1,iP 11 22 [9,10],ab 12 2,ab 13 3,iP 14 24 [11,12,13],bJ 2 8 14],.ret])
def aiv:List bK:=[.cell 8 2 true]
theorem ayE (NN:Nat) (x:bf (aq.be N6)):pg NN [F4,aeT] ak4 aiv N6 ZO x=Ms NN x:=by kernel_rfl
theorem avb:cG pX 6 ak4.er aiv 4=true:=by decide+kernel
theorem az6:mL pX 6 aeK.MV/\cc pX 6=true:=
  qO (args:=N6) (aH:=ZO) (aB.jB KP<|aB.jB aAf<|aB.nil) cU avb Fb fun x y h=>(ayE aI x).trans (aqM x y h)
def aeN:aE:=⟨25,N9,aw9,ZR,Fe⟩
def ak7:bN:=
 (aj [ah [cz 4 0],ah [ab 6 0,ab 7 1,iP 8 22 [6,7],ab 5 8],ah [ab 9 5,iP 10 63 [9],oX 11 (.bin .mul (kX 256) 10),ab 12 5,iP 13 63 [12],aN .add 14 11 13,ab 4 14],.ret])
def aiy:List bK:=[.tmp 4]
theorem ayH (NN:Nat) (x:bf (aq.be N9)):pg NN [F4,UJ] ak7 aiy N9 ZR x=Mv NN x:=by kernel_rfl
theorem ave:cG pX 25 ak7.er aiy 2=true:=by decide+kernel
theorem az9:mL pX 25 aeN.MV/\cc pX 25=true:=
  qO (args:=N9) (aH:=ZR) (aB.jB KP<|aB.jB ajc<|aB.nil) cU ave Fe fun x y h=>(ayH aI x).trans (aqP x y h)
def aeP:aE:=⟨7,Ob,axb,ZT,Fg⟩
def ak9:bN:=
 (aj [ah [cz 8 0],ah [ab 9 2,ab 10 0,ab 11 1,iP 12 25 [10,11],ab 13 3,ab 14 2,aN .sub 15 13 14,aQ .add 16 15 1,aN .rem 17 12 16,aN .add 18 9 17,ab 8 18],.ret])
def aiA:List bK:=[.tmp 8]
theorem ayJ (NN:Nat) (x:bf (aq.be Ob)):pg NN [aeN] ak9 aiA Ob ZT x=Mx NN x:=by kernel_rfl
theorem avg:cG pX 7 ak9.er aiA 4=true:=by decide+kernel
theorem aAb:mL pX 7 aeP.MV/\cc pX 7=true:=
  qO (args:=Ob) (aH:=ZT) (aB.jB az9<|aB.nil) cU avg Fg fun x y h=>(ayJ aI x).trans (aqR x y h)
def aeM:aE:=⟨8,N8,aw8,ZQ,Al⟩
def ak6:bN:=
 (aj [ah [du 10 [zX,zX,.nil iX]],ah [ab 11 0,ab 12 1,iP 13 22 [11,12],ab 14 2,ab 15 3,ab 16 4,iP 17 26 [13,14,15,16],bJ 3 10 17],.ret])
def aix:List bK:=[.cell 10 3 true]
theorem ayG (NN:Nat) (x:bf (aq.be N8)):pg NN [F4,UL] ak6 aix N8 ZQ x=Mu NN x:=by kernel_rfl
theorem avd:cG pX 8 ak6.er aix 5=true:=by decide+kernel
theorem az8:mL pX 8 aeM.MV/\cc pX 8=true:=
  qO (args:=N8) (aH:=ZQ) (aB.jB KP<|aB.jB aje<|aB.nil) cU avd Al fun x y h=>(ayG aI x).trans (aqO x y h)
def Pn:aE:=⟨65,M4,awg,YP,tZ⟩
def aj4:bN:=
 (aj [ah [eu 2],aj [ah [ab 4 0,aQ .lss 5 4 2,ab 6 5,bA 6 (ab 7 0),bA 6 (aQ .gtr 8 7 1000003),gh 9 6 8],.cond 9 (aj [ah [eu 2],.ret]) .skip],aj [ah [cz 3 2],.join ⟨[],[]⟩ [] [] (.block 0 (.loop 0 ⟨[ar 0,ar 3],[]⟩ [] [] (aj [aj [ah [ab 10 3,ab 11 3,aN .mul 12 10 11,ab 13 0,aN .leq 14 12 13],dQ 14 0],.block 1 (aj [ah [ab 17 0,ab 18 3,aN .rem 19 17 18,aQ .eql 20 19 0],.cond 20 (aj [ah [eu 2],.ret]) .skip]),ah [ab 15 3,aQ .add 16 15 1,ab 3 16]])))],ah [pA 2],.ret])
def ahu:List bK:=[.tmp 2]
theorem axC (NN:Nat) (x:bf (aq.be M4)):eA NN [] aj4 ahu M4 YP x=SA NN x:=by kernel_rfl
theorem aua:cG pX 65 aj4.er ahu 1=true:=by decide+kernel
theorem Yd:dP pX 65 Pn.M/\cc pX 65=true:=
  eK (args:=M4) (aH:=YP) (aB.nil) cU aua tZ fun x y h=>(axC aI x).trans (apJ x y h)
def UF:aE:=⟨67,Ny,awE,Zh,Ag⟩
def akw:bN:=
 (aj [ah [eu 4],aj [ah [ab 7 1,dk 8 7,cz 9 0],.join ⟨[],[]⟩ [] [] (.block 0 (.loop 0 ⟨[ar 0,eX 7,ar 8,ar 9],[]⟩ [] [] (aj [ah [aN .lss 10 9 8],dQ 10 0,.block 1 (aj [ah [cL 11 1 7 9,au 12 1 11,ab 6 12],ah [ab 13 6,aQ .lss 14 13 0,ab 15 14,bA 15 (ab 16 6),bA 15 (ab 17 0),bA 15 (aN .geq 18 16 17),gh 19 15 18],.cond 19 (aj [ah [eu 4],.ret]) .skip]),ah [aQ .add 20 9 1,ab 9 20]])))],ah [pA 4],.ret])
def ahW:List bK:=[.tmp 4]
theorem ax6 (NN:Nat) (x:bf (aq.be Ny)):eA NN [] akw ahW Ny Zh x=SS NN x:=by kernel_rfl
theorem auD:cG pX 67 akw.er ahW 2=true:=by decide+kernel
theorem ai8:dP pX 67 UF.M/\cc pX 67=true:=
  eK (args:=Ny) (aH:=Zh) (aB.nil) cU auD Ag fun x y h=>(ax6 aI x).trans (aqe x y h)
def aez:aE:=⟨66,NV,awW,ZC,Cy⟩
def akS:bN:=
 (aj [ah [dF 3 4 1,eu 4],aj [ah [aC 5 0 3,au 6 1 5,aQ .lss 7 6 0,ab 8 7,bA 8 (aC 9 0 3),bA 8 (au 10 1 9),bA 8 (aQ .gtr 11 10 32),gh 12 8 11,ab 13 12,bA 13 (aC 14 2 3),bA 13 (au 15 1 14),bA 13 (aQ .lss 16 15 0),gh 17 13 16,ab 18 17,bA 18 (aC 19 2 3),bA 18 (au 20 1 19),bA 18 (aQ .gtr 21 20 32),gh 22 18 21,ab 23 22,bA 23 (aC 24 1 3),bA 23 (au 25 1 24),bA 23 (aQ .lss 26 25 1),gh 27 23 26,ab 28 27,bA 28 (aC 29 1 3),bA 28 (au 30 1 29),bA 28 (aQ .gtr 31 30 8),gh 32 28 31],.cond 32 (aj [ah [eu 4],.ret]) .skip],ah [aC 33 3 3,au 34 1 33,dk 35 34,aC 36 0 3,au 37 1 36,aC 38 1 3,au 39 1 38,aN .mul 40 37 39,aC 41 2 3,au 42 1 41,aN .mul 43 40 42,aN .eql 44 35 43,ab 45 44,bz 45 (ab 46 0),bz 45 (aC 47 3 3),bz 45 (au 48 1 47),bz 45 (bD 49 67 [46,48]),gD 50 45 49,ab 4 50],.ret])
def aij:List bK:=[.tmp 4]
theorem ays (NN:Nat) (x:bf (aq.be NV)):eA NN [UF] akS aij NV ZC x=S9 NN x:=by kernel_rfl
theorem auZ:cG pX 66 akS.er aij 2=true:=by decide+kernel
theorem azU:dP pX 66 aez.M/\cc pX 66=true:=
  eK (args:=NV) (aH:=ZC) (aB.cons ai8<|aB.nil) cU auZ Cy fun x y h=>(ays aI x).trans (aqA x y h)
def Jj:aE:=⟨27,MU,awb,YK,qi⟩
def ajZ:bN:=
 (aj [ah [dF 1 2 0,eu 2],aj [ah [aC 7 0 1,au 8 1 7,bD 9 65 [8],gR 10 9,ab 11 10,bA 11 (aC 12 1 1),bA 11 (au 13 1 12),bA 11 (dk 14 13),bA 11 (aQ .lss 15 14 1),gh 16 11 15,ab 17 16,bA 17 (aC 18 1 1),bA 17 (au 19 1 18),bA 17 (dk 20 19),bA 17 (aQ .gtr 21 20 8),gh 22 17 21],.cond 22 (aj [ah [eu 2],.ret]) .skip],ah [cz 3 1,cz 4 1],aj [ah [aC 23 1 1,au 24 1 23,dk 25 24,cz 26 0],.join ⟨[ar 3,ar 4],[]⟩ [1] [] (.block 0 (.loop 0 ⟨[aw 1 1,ar 3,ar 4,(24,.one (fF)),ar 25,ar 26],[az 1 [vX,fF]]⟩ [1,6] [] (aj [ah [aN .lss 27 26 25],dQ 27 0,.block 1 (aj [ah [cL 28 4 24 26,bj 29 4 28,du 6 [zX,zX,zX,.nil iX],bJ 4 6 29],aj [ah [aC 30 0 1,au 31 1 30,bj 32 4 6,bD 33 66 [31,32],gR 34 33,ab 35 34,bA 35 (aC 36 0 6),bA 35 (au 37 1 36),bA 35 (ab 38 3),bA 35 (aN .neq 39 37 38),gh 40 35 39],.cond 40 (aj [ah [eu 2],.ret]) .skip],ah [aC 41 2 6,au 42 1 41,ab 3 42],ah [ab 43 4,aC 44 1 6,au 45 1 44,aN .mul 46 43 45,ab 4 46]]),ah [aQ .add 47 26 1,ab 26 47]])))],ah [ab 48 3,aQ .eql 49 48 1,ab 50 49,bz 50 (ab 51 4),bz 50 (aQ .leq 52 51 4096),gD 53 50 52,ab 2 53],.ret])
def ahp:List bK:=[.tmp 2]
theorem axx (NN:Nat) (x:bf (aq.be MU)):eA NN [Pn,aez] ajZ ahp MU YK x=Sx NN x:=by kernel_rfl
theorem at5:cG pX 27 ajZ.er ahp 1=true:=by decide+kernel
theorem Q2:dP pX 27 Jj.M/\cc pX 27=true:=
  eK (args:=MU) (aH:=YK) (aB.cons Yd<|aB.cons azU<|aB.nil) cU at5 qi fun x y h=>(axx aI x).trans (apE x y h)
def Jk:aE:=⟨28,M5,awh,YQ,sP⟩
def aj5:bN:=
 (aj [ah [dF 3 3 1,eu 4],aj [ah [ab 5 0,bD 6 65 [5],gR 7 6,ab 8 7,bA 8 (aC 9 0 3),bA 8 (au 10 1 9),bA 8 (aQ .lss 11 10 0),gh 12 8 11,ab 13 12,bA 13 (aC 14 1 3),bA 13 (au 15 1 14),bA 13 (aQ .lss 16 15 0),gh 17 13 16,ab 18 17,bA 18 (aC 19 0 3),bA 18 (au 20 1 19),bA 18 (aQ .gtr 21 20 64),gh 22 18 21,ab 23 22,bA 23 (aC 24 1 3),bA 23 (au 25 1 24),bA 23 (aQ .gtr 26 25 64),gh 27 23 26],.cond 27 (aj [ah [eu 4],.ret]) .skip],ah [aC 28 2 3,au 29 1 28,dk 30 29,aC 31 0 3,au 32 1 31,aC 33 1 3,au 34 1 33,aN .mul 35 32 34,aN .eql 36 30 35,ab 37 36,bz 37 (ab 38 0),bz 37 (aC 39 2 3),bz 37 (au 40 1 39),bz 37 (bD 41 67 [38,40]),gD 42 37 41,ab 4 42],.ret])
def ahv:List bK:=[.tmp 4]
theorem axD (NN:Nat) (x:bf (aq.be M5)):eA NN [Pn,UF] aj5 ahv M5 YQ x=SD NN x:=by kernel_rfl
theorem aub:cG pX 28 aj5.er ahv 2=true:=by decide+kernel
theorem Q3:dP pX 28 Jk.M/\cc pX 28=true:=
  eK (args:=M5) (aH:=YQ) (aB.cons Yd<|aB.cons ai8<|aB.nil) cU aub sP fun x y h=>(axD aI x).trans (apK x y h)
def yO:aE:=⟨68,Nn,awv,Y8,j9⟩
def akn:bN:=
 (aj [ah [mM 2],ah [ab 3 0,oX 4 (.append true iX 8 (.k (.one (.nil iX))) 3),ab 2 4],.ret])
def ahN:List bK:=[.tmp 2]
theorem axX (NN:Nat) (x:bf (aq.be Nn)):eA NN [] akn ahN Nn Y8 x=SM NN x:=by kernel_rfl
theorem aut:cG pX 68 akn.er ahN 1=true:=by decide+kernel
theorem BS:dP pX 68 yO.M/\cc pX 68=true:=
  eK (args:=Nn) (aH:=Y8) (aB.nil) cU aut j9 fun x y h=>(axX aI x).trans (ap5 x y h)
def UC:aE:=⟨29,Nm,awu,Y7,Af⟩
def akm:bN:=
 (aj [ah [dF 1 2 0,du 2 [zX,.nil gX]],ah [aC 6 0 1,au 7 1 6,oX 8 (.build [zX,.nil gX] [(0,1,7)]),du 3 [zX,.nil gX],bJ 2 3 8],aj [ah [aC 9 1 1,au 10 1 9,dk 11 10,cz 12 0],.join ⟨[aw 3 3,aw 2 2],[az 2 [vX,fX 702 4],az 3 [vX,fX 703 4],(702,.row true .aZ gX),(703,.row true .aZ gX)]⟩ [2,3,700,701,702,703] [aO 2 1 702,aO 3 1 703] (.block 0 (.loop 0 ⟨[aw 2 2,aw 3 3,(10,.one (fF)),ar 11,ar 12],[az 2 [vX,fX 700 4],az 3 [vX,fX 701 4],(700,.row true .aZ gX),(701,.row true .aZ gX)]⟩ [1,2,3,5,29,700,701] [aO 2 1 700,aO 3 1 701] (aj [ah [aN .lss 13 12 11],dQ 13 0,.block 1 (aj [ah [cL 14 4 10 12,bj 15 4 14,du 5 [zX,zX,zX,.nil iX],bJ 4 5 15],.o9 [(0,12),(1,12)] [aC 16 1 3,au 17 1 16,aC 18 0 5,au 19 1 18,aC 20 1 5,au 21 1 20,aC 22 2 5,au 23 1 22,aC 24 3 5,au 25 1 24,bD 26 68 [25],oX 27 (.build [zX,zX,zX,.nil iX] [(0,1,19),(1,1,21),(2,1,23),(3,1,26)]),oX 28 (.gy gX [27]),oX 29 (.append false gX 48 17 28),aC 30 1 3,bJ 1 30 29]]),ah [aQ .add 31 12 1,ab 12 31]])))],ah [bj 32 2 3,bJ 2 2 32],.ret])
def ahM:List bK:=[.cell 2 2 true]
theorem axW (NN:Nat) (x:bf (aq.be Nm)):eA NN [yO] akm ahM Nm Y7 x=SL NN x:=by kernel_rfl
theorem aus:cG pX 29 akm.er ahM 1=true:=by decide+kernel
theorem ai5:dP pX 29 UC.M/\cc pX 29=true:=
  eK (args:=Nm) (aH:=Y7) (aB.cons BS<|aB.nil) cU aus Af fun x y h=>(axW aI x).trans (ap4 x y h)
def yM:aE:=⟨30,M7,awi,YS,mg⟩
def aj7:bN:=
 (aj [ah [dF 3 3 0,cz 6 0],ah [aC 7 2 3,au 8 1 7,ab 9 1,aC 10 1 3,au 11 1 10,aN .mul 12 9 11,ab 13 2,aN .add 14 12 13,cL 15 1 8 14,au 16 1 15,ab 6 16],.ret])
def ahx:List bK:=[.tmp 6]
theorem axF (NN:Nat) (x:bf (aq.be M7)):eA NN [] aj7 ahx M7 YS x=L7 NN x:=by kernel_rfl
theorem aud:cG pX 30 aj7.er ahx 3=true:=by decide+kernel
theorem BQ:dP pX 30 yM.M/\cc pX 30=true:=
  eK (args:=M7) (aH:=YS) (aB.nil) cU aud mg fun x y h=>(axF aI x).trans (apM x y h)
def Po:aE:=⟨31,Ng,awo,Y0,vt⟩
def akf:bN:=
 (aj [ah [dF 4 4 0,cz 8 0],ah [aC 9 3 4,au 10 1 9,ab 11 1,aC 12 1 4,au 13 1 12,aN .mul 14 11 13,ab 15 2,aN .add 16 14 15,aC 17 2 4,au 18 1 17,aN .mul 19 16 18,ab 20 3,aN .add 21 19 20,cL 22 1 10 21,au 23 1 22,ab 8 23],.ret])
def ahF:List bK:=[.tmp 8]
theorem axN (NN:Nat) (x:bf (aq.be Ng)):eA NN [] akf ahF Ng Y0 x=SG NN x:=by kernel_rfl
theorem aul:cG pX 31 akf.er ahF 4=true:=by decide+kernel
theorem Ye:dP pX 31 Po.M/\cc pX 31=true:=
  eK (args:=Ng) (aH:=Y0) (aB.nil) cU aul vt fun x y h=>(axN aI x).trans (apU x y h)
def Ux:aE:=⟨9,MT,awa,YJ,yr⟩
def ajY:bN:=
 (aj [ah [dF 3 2 0,dF 5 3 2,du 6 [zX,.nil gX],eu 7],aj [ah [bj 15 2 3,oX 16 (.call .live 27 [15]),gR 17 16,ab 18 17,bA 18 (ab 19 1),bA 18 (aQ .lss 20 19 0),gh 21 18 20,ab 22 21,bA 22 (ab 23 1),bA 22 (aC 24 1 3),bA 22 (au 25 1 24),bA 22 (dk 26 25),bA 22 (aN .geq 27 23 26),gh 28 22 27,ab 29 28,bA 29 (aC 30 0 3),bA 29 (au 31 1 30),bA 29 (bj 32 3 5),bA 29 (oX 33 (.call .live 28 [31,32])),bA 29 (gR 34 33),gh 35 29 34],.cond 35 (aj [ah [oX 36 (.build [zX,.nil gX] []),bJ 2 6 36,eu 7],.ret]) .skip],ah [aC 37 1 3,au 38 1 37,ab 39 1,cL 40 4 38 39,bj 41 4 40,du 8 [zX,zX,zX,.nil iX],bJ 4 8 41],aj [ah [aC 42 0 5,au 43 1 42,aC 44 1 8,au 45 1 44,aN .neq 46 43 45,ab 47 46,bA 47 (aC 48 1 5),bA 47 (au 49 1 48),bA 47 (aC 50 1 8),bA 47 (au 51 1 50),bA 47 (aN .neq 52 49 51),gh 53 47 52],.cond 53 (aj [ah [oX 54 (.build [zX,.nil gX] []),bJ 2 6 54,eu 7],.ret]) .skip],ah [bj 55 2 3,oX 56 (.call .live 29 [55]),du 9 [zX,.nil gX],bJ 2 9 56],aj [ah [cz 10 0],.join ⟨[aw 9 9,aw 6 6],[az 6 [vX,fX 716 4],az 9 [vX,fX 717 4],(716,.row true .live gX),(717,.row true .live gX)]⟩ [3,5,6,8,9,700,701,716,717] [(true,6,1,716,.live,[]),(true,9,1,717,.live,[])] (.block 0 (.loop 0 ⟨[ar 1,aw 3 3,aw 5 5,aw 6 6,aw 8 8,aw 9 9,ar 10],[az 3 [vX,fF],az 5 [vX,vX,bL],az 6 [vX,fX 700 4],az 8 [vX,vX,vX,bL],az 9 [vX,fX 701 4],(700,.row true .live gX),(701,.row true .live gX)]⟩ [3,5,6,8,57000,9,700,701,714,715] [(true,6,1,700,.live,[]),(true,9,1,701,.live,[])] (aj [aj [ah [ab 57 10,aC 58 0 8,au 59 1 58,aN .lss 60 57 59],dQ 60 0],.join ⟨[ar 10,ar 1,aw 3 3,aw 5 5,aw 6 6,aw 8 8,aw 9 9],[az 3 [vX,fF],az 5 [vX,vX,bL],az 6 [vX,fX 714 4],az 8 [vX,vX,vX,bL],az 9 [vX,fX 715 4],(714,.row true .live gX),(715,.row true .live gX)]⟩ [3,5,6,8,9,702,703,714,715] [(true,6,1,714,.live,[]),(true,9,1,715,.live,[])] (.block 1 (aj [ah [cz 11 0],.block 2 (.loop 0 ⟨[ar 1,aw 3 3,aw 5 5,aw 6 6,aw 8 8,aw 9 9,ar 10,ar 11],[az 3 [vX,fF],az 5 [vX,vX,bL],az 6 [vX,fX 702 4],az 8 [vX,vX,vX,bL],az 9 [vX,fX 703 4],(702,.row true .live gX),(703,.row true .live gX)]⟩ [3,5,6,8,9,700,701,702,703,712,713] [(true,6,1,702,.live,[]),(true,9,1,703,.live,[])] (aj [aj [ah [ab 63 11,aC 64 1 8,au 65 1 64,aN .lss 66 63 65],dQ 66 2],.join ⟨[ar 11,ar 1,aw 3 3,aw 5 5,aw 6 6,aw 8 8,aw 9 9,ar 10],[az 3 [vX,fF],az 5 [vX,vX,bL],az 6 [vX,fX 712 4],az 8 [vX,vX,vX,bL],az 9 [vX,fX 713 4],(712,.row true .live gX),(713,.row true .live gX)]⟩ [3,5,6,8,9,704,705,712,713] [(true,6,1,712,.live,[]),(true,9,1,713,.live,[])] (.block 3 (aj [ah [cz 12 0],.block 4 (.loop 0 ⟨[ar 1,aw 3 3,aw 5 5,aw 6 6,aw 8 8,aw 9 9,ar 10,ar 11,ar 12],[az 3 [vX,fF],az 5 [vX,vX,bL],az 6 [vX,fX 704 4],az 8 [vX,vX,vX,bL],az 9 [vX,fX 705 4],(704,.row true .live gX),(705,.row true .live gX)]⟩ [3,5,6,8,9,702,703,704,705,710,711] [(true,6,1,704,.live,[]),(true,9,1,705,.live,[])] (aj [aj [ah [ab 69 12,aC 70 2 8,au 71 1 70,aN .lss 72 69 71],dQ 72 4],.join ⟨[ar 12,ar 1,aw 3 3,aw 5 5,aw 6 6,aw 8 8,aw 9 9,ar 10,ar 11],[az 3 [vX,fF],az 5 [vX,vX,bL],az 6 [vX,fX 710 4],az 8 [vX,vX,vX,bL],az 9 [vX,fX 711 4],(710,.row true .live gX),(711,.row true .live gX)]⟩ [3,5,6,8,9,708,709,710,711] [(true,6,1,710,.live,[]),(true,9,1,711,.live,[])] (.block 5 (aj [ah [cz 13 0],aj [ah [cz 14 0],.join ⟨[ar 13,ar 12,ar 1,aw 3 3,aw 5 5,aw 6 6,aw 8 8,aw 9 9,ar 10,ar 11],[az 3 [vX,fF],az 5 [vX,vX,bL],az 6 [vX,fX 708 4],az 8 [vX,vX,vX,bL],az 9 [vX,fX 709 4],(708,.row true .live gX),(709,.row true .live gX)]⟩ [3,5,6,8,9,706,707,708,709] [(true,6,1,708,.live,[]),(true,9,1,709,.live,[])] (.block 6 (.loop 0 ⟨[ar 1,aw 3 3,aw 5 5,aw 6 6,aw 8 8,aw 9 9,ar 10,ar 11,ar 12,ar 13,ar 14],[az 3 [vX,fF],az 5 [vX,vX,bL],az 6 [vX,fX 706 4],az 8 [vX,vX,vX,bL],az 9 [vX,fX 707 4],(706,.row true .live gX),(707,.row true .live gX)]⟩ [3,5,6,8,9,704,705,706,707] [(true,6,1,706,.live,[]),(true,9,1,707,.live,[])] (aj [aj [ah [ab 75 14,aC 76 1 8,au 77 1 76,aN .lss 78 75 77],dQ 78 6],.block 7 (.dB true [ab 81 13,bj 82 3 5,ab 83 11,ab 84 14,oX 85 (.call .live 30 [82,83,84]),bj 86 4 8,ab 87 10,ab 88 14,ab 89 12,oX 90 (.call .live 31 [86,87,88,89]),aN .mul 91 85 90,aN .add 92 81 91,aC 93 0 3,au 94 1 93,aN .rem 95 92 94,ab 13 95]),ah [ab 79 14,aQ .add 80 79 1,ab 14 80]])))],.dB true [aC 96 1 9,au 97 1 96,ab 98 1,cL 99 4 97 98,aC 100 3 99,au 101 1 100,ab 102 10,aC 103 1 8,au 104 1 103,aN .mul 105 102 104,ab 106 11,aN .add 107 105 106,aC 108 2 8,au 109 1 108,aN .mul 110 107 109,ab 111 12,aN .add 112 110 111,ab 113 13,cL 114 1 101 112,bJ 1 114 113]])),ah [ab 73 12,aQ .add 74 73 1,ab 12 74]]))])),ah [ab 67 11,aQ .add 68 67 1,ab 11 68]]))])),ah [ab 61 10,aQ .add 62 61 1,ab 10 62]])))],ah [bj 115 2 9,bJ 2 6 115,pA 7],.ret])
def aho:List bK:=[.cell 6 2 true,.tmp 7]
theorem axw (NN:Nat) (x:bf (aq.be MT)):eA NN [Jj,Jk,UC,yM,Po] ajY aho MT YJ x=Sw NN x:=by kernel_rfl
theorem at4:cG pX 9 ajY.er aho 3=true:=by decide+kernel
theorem ai0:dP pX 9 Ux.M/\cc pX 9=true:=
  eK (args:=MT) (aH:=YJ) (aB.cons Q2<|aB.cons Q3<|aB.cons ai5<|aB.cons BQ<|aB.cons Ye<|aB.nil) cU at4 yr fun x y h=>(axw aI x).trans (apC x y h)
def UB:aE:=⟨32,Nl,awt,Y6,yt⟩
def akl:bN:=
 (aj [ah [dF 1 2 0,mM 2],ah [mM 3],aj [ah [aC 6 1 1,au 7 1 6,dk 8 7,cz 9 0],.join ⟨[de 3 701 1],[aF 701]⟩ [700,701] [dn 3 701] (.block 0 (.loop 0 ⟨[de 3 700 1,(7,.one (fF)),ar 8,ar 9],[aF 700]⟩ [1,5,16,17,700] [dn 3 700] (aj [ah [aN .lss 10 9 8],dQ 10 0,.block 1 (aj [ah [cL 11 4 7 9,bj 12 4 11,du 5 [zX,zX,zX,.nil iX],bJ 4 5 12],ah [ab 13 3,aC 14 1 5,au 15 1 14,oX 16 (.gy iX [15]),oX 17 (.append true iX 8 13 16),ab 3 17]]),ah [aQ .add 18 9 1,ab 9 18]])))],ah [ab 19 3,ab 2 19],.ret])
def ahL:List bK:=[.tmp 2]
theorem axV (NN:Nat) (x:bf (aq.be Nl)):eA NN [] akl ahL Nl Y6 x=abL NN x:=by kernel_rfl
theorem aur:cG pX 32 akl.er ahL 1=true:=by decide+kernel
theorem ai4:dP pX 32 UB.M/\cc pX 32=true:=
  eK (args:=Nl) (aH:=Y6) (aB.nil) cU aur yt fun x y h=>(axV aI x).trans (ap3 x y h)
def aep:aE:=⟨33,NH,awK,Zq,Cv⟩
def akF:bN:=
 (aj [ah [dF 2 2 0,cz 4 0],ah [oX 12 (.gy iX [(kX 1)]),ab 5 12],aj [ah [aC 13 1 2,au 14 1 13,dk 15 14,cz 16 0],.join ⟨[de 5 709 1],[aF 709]⟩ [2,700,709] [dn 5 709] (.block 0 (.loop 0 ⟨[eX 1,aw 2 2,de 5 700 1,(14,.one (fF)),ar 15,ar 16],[az 2 [vX,fF],aF 700]⟩ [2,12,700,708] [dn 5 700] (aj [ah [aN .lss 17 16 15],dQ 17 0,.join ⟨[ar 16,eX 1,aw 2 2,de 5 708 1,(14,.one (fF)),ar 15],[az 2 [vX,fF],aF 708]⟩ [2,707,708] [dn 5 708] (.block 1 (aj [ah [ab 18 16,cL 19 4 14 16,bj 20 4 19,du 7 [zX,zX,zX,.nil iX],ab 6 18,bJ 4 7 20],ah [aC 21 2 7,au 22 1 21,oX 23 (.kv .aZ iX 8 (0:Int) 22 22),ab 8 23],aj [ah [ab 24 8,dk 25 24,cz 26 0],.join ⟨[de 8 707 1,ar 16,eX 1,aw 2 2,(14,.one (fF)),ar 15],[az 2 [vX,fF],aF 707]⟩ [2,7,701,702,707] [dn 8 707] (.block 2 (.loop 0 ⟨[eX 1,aw 2 2,de 5 701 1,ar 6,aw 7 7,de 8 702 1,(14,.one (fF)),ar 15,ar 16,ar 25,ar 26],[az 2 [vX,fF],az 7 [vX,vX,vX,bL],aF 701,aF 702]⟩ [2,7,23,700,701,702,705,706] [dn 5 701,dn 8 702] (aj [ah [aN .lss 27 26 25],dQ 27 2,.join ⟨[ar 26,eX 1,aw 2 2,de 5 705 1,ar 6,aw 7 7,de 8 706 1,(14,.one (fF)),ar 15,ar 16,ar 25],[az 2 [vX,fF],az 7 [vX,vX,vX,bL],aF 705,aF 706]⟩ [2,7,703,704,705,706] [dn 5 705,dn 8 706] (.block 3 (aj [ah [ab 28 26,ab 9 28],ah [ab 29 5,dk 30 29,cz 31 0],.block 4 (.loop 0 ⟨[eX 1,aw 2 2,de 5 703 1,ar 6,aw 7 7,de 8 704 1,ar 9,(14,.one (fF)),ar 15,ar 16,ar 25,ar 26,de 29 703 1,ar 30,ar 31],[az 2 [vX,fF],az 7 [vX,vX,vX,bL],aF 703,aF 704]⟩ [2,7,701,702,703,704] [dn 5 703,dn 8 704] (aj [ah [aN .lss 32 31 30],dQ 32 4,.block 5 (aj [ah [ab 33 31,cL 34 1 29 31,au 35 1 34,ab 10 33,ab 11 35],.dB true [ab 36 8,ab 37 9,ab 38 8,ab 39 9,cL 40 1 38 39,au 41 1 40,ab 42 11,bj 43 4 7,ab 44 10,ab 45 1,ab 46 6,cL 47 1 45 46,au 48 1 47,ab 49 9,bD 50 31 [43,44,48,49],aN .mul 51 42 50,aN .add 52 41 51,aC 53 0 2,au 54 1 53,aN .rem 55 52 54,cL 56 1 36 37,bJ 1 56 55]]),ah [aQ .add 57 31 1,ab 31 57]]))])),ah [aQ .add 58 26 1,ab 26 58]])))],ah [ab 59 8,ab 5 59]])),ah [aQ .add 60 16 1,ab 16 60]])))],ah [ab 61 5,iZ 62 1 61 0,au 63 1 62,ab 4 63],.ret])
def ah5:List bK:=[.tmp 4]
theorem ayf (NN:Nat) (x:bf (aq.be NH)):eA NN [Po] akF ah5 NH Zq x=SZ NN x:=by kernel_rfl
theorem auM:cG pX 33 akF.er ah5 2=true:=by decide+kernel
theorem azK:dP pX 33 aep.M/\cc pX 33=true:=
  eK (args:=NH) (aH:=Zq) (aB.cons Ye<|aB.nil) cU auM Cv fun x y h=>(ayf aI x).trans (aqn x y h)
def Pq:aE:=⟨34,NF,QK,Zo,t7⟩
def akD:bN:=
 (aj [ah [eu 4],aj [ah [ab 6 0,dk 7 6,aQ .sub 8 7 1,ab 5 8],.join ⟨[],[(1000000,.row false .aZ iX)]⟩ [1000000] [] (.block 0 (.loop 0 ⟨[eX 0,de 1 1000000 1,ar 5],[(1000000,.row false .aZ iX)]⟩ [1000000,700] [dn 1 700] (aj [aj [ah [ab 9 5,aQ .geq 10 9 0],dQ 10 0],.block 1 (aj [ah [ab 13 1,ab 14 5,cL 15 1 13 14,au 16 1 15,aQ .add 17 16 1,cL 18 1 13 14,bJ 1 18 17],aj [.dB true [ab 19 1,ab 20 5,cL 21 1 19 20,au 22 1 21,ab 23 0,ab 24 5,cL 25 1 23 24,au 26 1 25,aN .lss 27 22 26],.cond 27 (aj [ah [pA 4],.ret]) .skip],ah [ab 28 1,ab 29 5,cL 30 1 28 29,uX (.store 1 30 (kX 0))]]),ah [ab 11 5,aQ .sub 12 11 1,ab 5 12]])))],ah [eu 4],.ret])
def ah3:List bK:=[.tmp 4]
theorem ayd (NN:Nat) (x:bf (aq.be NF)):wJ NN [] akD ah3 NF QK Zo x=SX NN x:=by kernel_rfl
theorem auK:cG pX 34 akD.er ah3 2=true:=by decide+kernel
theorem Yg:rM pX 34 QK Pq.MM/\cc pX 34=true:=
  zD (args:=NF) (mu:=QK) (aH:=Zo) (aB.nil) cU auK t7 fun x y h=>(ayd aI x).trans (aql x y h)
def ad3:aE:=⟨10,MY,awc,YL,wT⟩
def aj0:bN:=
 (aj [ah [dF 1 2 0,du 2 [.nil iX,.nil iX,.nil iX]],aj [ah [bj 6 2 1,bD 7 27 [6],gR 8 7],.cond 8 (aj [ah [oX 9 (.build [.nil iX,.nil iX,.nil iX] []),bJ 3 2 9],.ret]) .skip],ah [bj 10 2 1,bD 11 32 [10],oX 12 (.build [.nil iX,.nil iX,.nil iX] [(1,1,11)]),du 3 [.nil iX,.nil iX,.nil iX],bJ 3 3 12],aj [ah [aC 13 1 1,au 14 1 13,dk 15 14,cz 16 0],.join ⟨[aw 3 3,aw 2 2,aw 1 1],[az 1 [vX,fF],az 2 [fX 706 1,fX 707 1,fX 708 1],az 3 [fX 709 1,fX 710 1,fX 711 1],aF 706,aF 707,aF 708,aF 709,aF 710,aF 711]⟩ [1,2,3,700,701,702,703,704,705,706,707,708,709,710,711] [aO 2 0 706,aO 2 1 707,aO 2 2 708,aO 3 0 709,aO 3 1 710,aO 3 2 711] (.block 0 (.loop 0 ⟨[aw 1 1,aw 2 2,aw 3 3,ar 15,ar 16],[az 1 [vX,fF],az 2 [fX 700 1,fX 701 1,fX 702 1],az 3 [fX 703 1,fX 704 1,fX 705 1],aF 700,aF 701,aF 702,aF 703,aF 704,aF 705]⟩ [1,2,12000,3,22,23,700,701,702,703,704,705] [aO 2 0 700,aO 2 1 701,aO 2 2 702,aO 3 0 703,aO 3 1 704,aO 3 2 705] (aj [ah [aN .lss 17 16 15],dQ 17 0,.block 1 (aj [ah [ab 18 16,ab 4 18],ah [aC 19 0 3,au 20 1 19,ab 21 4,oX 22 (.gy iX [21]),oX 23 (.append true iX 8 20 22),aC 24 0 3,bJ 1 24 23]]),ah [aQ .add 25 16 1,ab 16 25]])))],ah [aC 26 1 3,au 27 1 26,dk 28 27,oX 29 (.kv .aZ iX 8 (0:Int) 28 28),ab 5 29],.block 2 (.loop 0 ⟨[aw 1 1,aw 2 2,aw 3 3,de 5 718 1],[az 1 [vX,fF],az 2 [fX 712 1,fX 713 1,fX 714 1],az 3 [fX 715 1,fX 716 1,fX 717 1],aF 712,aF 713,aF 714,aF 715,aF 716,aF 717,aF 718]⟩ [1,2,3,29,35,36,706,707,708,709,710,711,712,713,714,715,716,717,718] [aO 2 0 712,aO 2 1 713,aO 2 2 714,aO 3 0 715,aO 3 1 716,aO 3 2 717,dn 5 718] (.block 3 (aj [.o9 [(0,5),(1,5)] [aC 30 2 3,au 31 1 30,bj 32 2 1,ab 33 5,bD 34 33 [32,33],oX 35 (.gy iX [34]),oX 36 (.append true iX 8 31 35),aC 37 2 3,bJ 1 37 36],ah [aC 38 1 3,au 39 1 38,ab 40 5,oX 41 (.g7 .aZ 34 [39,40]),gR 42 41],.cond 42 (aj [ah [bj 43 3 3,bJ 3 2 43],.ret]) .skip])))])
def ahq:List bK:=[.cell 2 3 true]
theorem axy (NN:Nat) (x:bf (aq.be MY)):eA NN [Jj,UB,aep,Pq] aj0 ahq MY YL x=Sy NN x:=by kernel_rfl
theorem at6:cG pX 10 aj0.er ahq 1=true:=by decide+kernel
theorem azo:dP pX 10 ad3.M/\cc pX 10=true:=
  eK (args:=MY) (aH:=YL) (aB.cons Q2<|aB.cons ai4<|aB.cons azK<|aB.oP Yg<|aB.nil) cU at6 wT fun x y h=>(axy aI x).trans (apF x y h)
def aeC:aE:=⟨13,NZ,aw1,ZH,CA⟩
def akX:bN:=
 (aj [ah [mM 4],ah [oX 8 (.gy iX []),ab 5 8],aj [ah [ab 9 0,dk 10 9,cz 11 0],.join ⟨[de 5 701 1],[aF 701]⟩ [700,701] [dn 5 701] (.block 0 (.loop 0 ⟨[ar 1,de 5 700 1,eX 9,ar 10,ar 11],[aF 700]⟩ [8,20,21,700] [dn 5 700] (aj [ah [aN .lss 12 11 10],dQ 12 0,.block 1 (aj [ah [cL 13 1 9 11,au 14 1 13,ab 7 14],ah [ab 15 7,ab 16 1,aN .neq 17 15 16],.cond 17 (ah [ab 18 5,ab 19 7,oX 20 (.gy iX [19]),oX 21 (.append true iX 8 18 20),ab 5 21]) .skip]),ah [aQ .add 22 11 1,ab 11 22]])))],ah [ab 23 5,ab 4 23],.ret])
def aio:List bK:=[.tmp 4]
theorem ayx (NN:Nat) (x:bf (aq.be NZ)):eA NN [] akX aio NZ ZH x=Mo NN x:=by kernel_rfl
theorem au4:cG pX 13 akX.er aio 2=true:=by decide+kernel
theorem azY:dP pX 13 aeC.M/\cc pX 13=true:=
  eK (args:=NZ) (aH:=ZH) (aB.nil) cU au4 CA fun x y h=>(ayx aI x).trans (aqF x y h)
def aeE:aE:=⟨12,N1,aw3,ZJ,CB⟩
def akZ:bN:=
 (aj [ah [mM 4],ah [oX 5 (.gy iX []),ab 6 0,oX 7 (.append true iX 8 5 6),ab 8 1,oX 9 (.append true iX 8 7 8),ab 4 9],.ret])
def aiq:List bK:=[.tmp 4]
theorem ayz (NN:Nat) (x:bf (aq.be N1)):eA NN [] akZ aiq N1 ZJ x=Mq NN x:=by kernel_rfl
theorem au6:cG pX 12 akZ.er aiq 2=true:=by decide+kernel
theorem az0:dP pX 12 aeE.M/\cc pX 12=true:=
  eK (args:=N1) (aH:=ZJ) (aB.nil) cU au6 CB fun x y h=>(ayz aI x).trans (aqH x y h)
def aeb:aE:=⟨69,Nd,awm,YY,EQ⟩
def akd:bN:=
 (aj [ah [dF 1 3 0,eu 2],aj [ah [aC 3 0 1,au 4 1 3],.block 0 (aj [ah [aQ .eql 6 4 1,ab 5 6],.cond 5 (aj [ah [aC 7 1 1,au 8 1 7,aQ .eql 9 8 0,ab 10 9,bz 10 (aC 11 2 1),bz 10 (au 12 1 11),bz 10 (aQ .eql 13 12 0),gD 14 10 13,ab 2 14],.ret]) (aj [ah [aQ .eql 16 4 2,ab 15 16],.cond 15 (aj [ah [aC 17 1 1,au 18 1 17,bD 19 65 [18],ab 20 19,bz 20 (aC 21 2 1),bz 20 (au 22 1 21),bz 20 (aQ .eql 23 22 0),gD 24 20 23,ab 2 24],.ret]) (aj [aj [ah [aQ .eql 26 4 3,ab 25 26],.join ⟨[(25,.one (.c (.v (.bool)))),ar 4,aw 1 1],[az 1 [vX,vX,vX]]⟩ [1] [] (.cond 25 .skip (aj [ah [aQ .eql 27 4 4,ab 25 27],.cond 25 .skip (ah [aQ .eql 28 4 5,ab 25 28])]))],.cond 25 (aj [ah [aC 29 1 1,au 30 1 29,aQ .geq 31 30 1,ab 32 31,bz 32 (aC 33 1 1),bz 32 (au 34 1 33),bz 32 (aQ .leq 35 34 1000000),gD 36 32 35,ab 37 36,bz 37 (aC 38 2 1),bz 37 (au 39 1 38),bz 37 (aQ .eql 40 39 0),gD 41 37 40,ab 2 41],.ret]) (aj [ah [aQ .eql 43 4 6,ab 42 43],.cond 42 (aj [ah [aC 44 1 1,au 45 1 44,aQ .eql 46 45 0,ab 47 46,bz 47 (aC 48 2 1),bz 47 (au 49 1 48),bz 47 (aQ .geq 50 49 1),gD 51 47 50,ab 52 51,bz 52 (aC 53 2 1),bz 52 (au 54 1 53),bz 52 (aQ .leq 55 54 20),gD 56 52 55,ab 2 56],.ret]) (aj [ah [aQ .eql 58 4 7,ab 57 58],.cond 57 (aj [ah [aC 59 1 1,au 60 1 59,bD 61 65 [60],ab 62 61,bz 62 (aC 63 2 1),bz 62 (au 64 1 63),bz 62 (aQ .geq 65 64 1),gD 66 62 65,ab 67 66,bz 67 (aC 68 2 1),bz 67 (au 69 1 68),bz 67 (aQ .leq 70 69 6),gD 71 67 70,ab 2 71],.ret]) (aj [ah [aQ .eql 73 4 8,ab 72 73],.cond 72 (aj [ah [aC 74 1 1,au 75 1 74,bD 76 65 [75],ab 77 76,bz 77 (aC 78 1 1),bz 77 (au 79 1 78),bz 77 (aQ .neq 80 79 2),gD 81 77 80,ab 82 81,bz 82 (aC 83 2 1),bz 82 (au 84 1 83),bz 82 (aQ .eql 85 84 0),gD 86 82 85,ab 2 86],.ret]) .skip])])])])])])],ah [eu 2],.ret])
def ahD:List bK:=[.tmp 2]
theorem axL (NN:Nat) (x:bf (aq.be Nd)):eA NN [Pn] akd ahD Nd YY x=SF NN x:=by kernel_rfl
theorem auj:cG pX 69 akd.er ahD 1=true:=by decide+kernel
theorem azw:dP pX 69 aeb.M/\cc pX 69=true:=
  eK (args:=Nd) (aH:=YY) (aB.cons Yd<|aB.nil) cU auj EQ fun x y h=>(axL aI x).trans (apS x y h)
def Pp:aE:=⟨73,Nw,awD,Zg,vw⟩
def akv:bN:=
 (aj [ah [eu 4],aj [ah [ab 7 0,dk 8 7,cz 9 0],.join ⟨[],[]⟩ [] [] (.block 0 (.loop 0 ⟨[ar 1,eX 7,ar 8,ar 9],[]⟩ [] [] (aj [ah [aN .lss 10 9 8],dQ 10 0,.block 1 (aj [ah [cL 11 1 7 9,au 12 1 11,ab 6 12],ah [ab 13 1,ab 14 6,aN .eql 15 13 14],.cond 15 (aj [ah [pA 4],.ret]) .skip]),ah [aQ .add 16 9 1,ab 9 16]])))],ah [eu 4],.ret])
def ahV:List bK:=[.tmp 4]
theorem ax5 (NN:Nat) (x:bf (aq.be Nw)):eA NN [] akv ahV Nw Zg x=SR NN x:=by kernel_rfl
theorem auC:cG pX 73 akv.er ahV 2=true:=by decide+kernel
theorem Yf:dP pX 73 Pp.M/\cc pX 73=true:=
  eK (args:=Nw) (aH:=Zg) (aB.nil) cU auC vw fun x y h=>(ax5 aI x).trans (aqd x y h)
def Uz:aE:=⟨39,Nj,awr,Y3,Ae⟩
def aki:bN:=
 (aj [ah [dF 1 3 0,cz 2 0],aj [ah [aC 7 0 1,au 8 1 7,dk 9 8,aQ .gtr 10 9 12,ab 11 10,bA 11 (aC 12 0 1),bA 11 (au 13 1 12),bA 11 (dk 14 13),bA 11 (aC 15 1 1),bA 11 (au 16 1 15),bA 11 (dk 17 16),bA 11 (aN .neq 18 14 17),gh 19 11 18],.cond 19 (aj [ah [cz 2 (-1)],.ret]) .skip],ah [cz 3 1],aj [ah [aC 20 0 1,au 21 1 20,dk 22 21,cz 23 0],.join ⟨[ar 3],[]⟩ [1] [] (.block 0 (.loop 0 ⟨[aw 1 1,ar 3,eX 21,ar 22,ar 23],[az 1 [bL,bL,bL]]⟩ [1] [] (aj [ah [aN .lss 24 23 22],dQ 24 0,.block 1 (aj [ah [ab 25 23,cL 26 1 21 23,au 27 1 26,ab 4 25,ab 5 27],aj [ah [ab 28 5,aQ .lss 29 28 0,ab 30 29,bA 30 (ab 31 5),bA 30 (aQ .gtr 32 31 99),gh 33 30 32,ab 34 33,bA 34 (aC 35 0 1),bA 34 (au 36 1 35),bA 34 (ab 37 4),bA 34 (oX 38 (.slice 1 36 none (some 37))),bA 34 (ab 39 5),bA 34 (bD 40 73 [38,39]),gh 41 34 40],.cond 41 (aj [ah [cz 2 (-1)],.ret]) .skip],ah [aC 42 1 1,au 43 1 42,ab 44 4,cL 45 1 43 44,au 46 1 45,ab 6 46],aj [ah [ab 47 6,aQ .lss 48 47 1,ab 49 48,bA 49 (ab 50 6),bA 49 (aQ .gtr 51 50 8),gh 52 49 51,ab 53 52,bA 53 (ab 54 3),bA 53 (ab 55 6),bA 53 (aN .mul 56 54 55),bA 53 (aQ .gtr 57 56 4096),gh 58 53 57],.cond 58 (aj [ah [cz 2 (-1)],.ret]) .skip],ah [ab 59 3,ab 60 6,aN .mul 61 59 60,ab 3 61]]),ah [aQ .add 62 23 1,ab 23 62]])))],ah [ab 63 3,ab 2 63],.ret])
def ahI:List bK:=[.tmp 2]
theorem axS (NN:Nat) (x:bf (aq.be Nj)):eA NN [Pp] aki ahI Nj Y3 x=SJ NN x:=by kernel_rfl
theorem auo:cG pX 39 aki.er ahI 1=true:=by decide+kernel
theorem ai2:dP pX 39 Uz.M/\cc pX 39=true:=
  eK (args:=Nj) (aH:=Y3) (aB.cons Yf<|aB.nil) cU auo Ae fun x y h=>(axS aI x).trans (apY x y h)
def F0:aE:=⟨43,NR,awS,Zy,rK⟩
def akO:bN:=
 (aj [ah [dF 1 3 0,cz 2 0],aj [ah [aC 3 0 1,au 4 1 3],.block 0 (aj [ah [aQ .eql 6 4 7,ab 5 6],.cond 5 (aj [ah [aC 7 2 1,au 8 1 7,ab 2 8],.ret]) (aj [ah [aQ .eql 10 4 8,ab 9 10],.cond 9 (aj [ah [cz 2 4],.ret]) .skip])])],ah [cz 2 1],.ret])
def aie:List bK:=[.tmp 2]
theorem ayo (NN:Nat) (x:bf (aq.be NR)):eA NN [] akO aie NR Zy x=S6 NN x:=by kernel_rfl
theorem auV:cG pX 43 akO.er aie 1=true:=by decide+kernel
theorem KN:dP pX 43 F0.M/\cc pX 43=true:=
  eK (args:=NR) (aH:=Zy) (aB.nil) cU auV rK fun x y h=>(ayo aI x).trans (aqw x y h)
def aeu:aE:=⟨79,NP,awQ,Zw,E2⟩
def akM:bN:=
 (aj [ah [dF 1 3 0,cz 2 0],aj [ah [aC 3 0 1,au 4 1 3],.block 0 (aj [ah [aQ .eql 6 4 1,ab 5 6],.cond 5 (aj [ah [cz 2 1],.ret]) (aj [aj [ah [aQ .eql 8 4 3,ab 7 8],.join ⟨[(7,.one (.c (.v (.bool)))),ar 4,aw 1 1],[az 1 [vX,vX,vX]]⟩ [1] [] (.cond 7 .skip (aj [ah [aQ .eql 9 4 4,ab 7 9],.cond 7 .skip (ah [aQ .eql 10 4 5,ab 7 10])]))],.cond 7 (aj [ah [aC 11 1 1,au 12 1 11,ab 2 12],.ret]) (aj [ah [aQ .eql 14 4 6,ab 13 14],.cond 13 (aj [ah [aC 15 2 1,au 16 1 15,oX 17 (.bin .shl (kX 1) 16),aQ .sub 18 17 1,ab 2 18],.ret]) .skip])])])],ah [aC 19 1 1,au 20 1 19,aQ .sub 21 20 1,ab 2 21],.ret])
def aic:List bK:=[.tmp 2]
theorem aym (NN:Nat) (x:bf (aq.be NP)):eA NN [] akM aic NP Zw x=abN NN x:=by kernel_rfl
theorem auT:cG pX 79 akM.er aic 1=true:=by decide+kernel
theorem azP:dP pX 79 aeu.M/\cc pX 79=true:=
  eK (args:=NP) (aH:=Zw) (aB.nil) cU auT E2 fun x y h=>(aym aI x).trans (aqu x y h)
def aej:aE:=⟨70,Nz,awF,Zi,EV⟩
def akx:bN:=
 (aj [ah [dF 2 3 0,eu 4],ah [bj 8 3 2,bD 9 79 [8],ab 5 9],aj [ah [ab 10 1,dk 11 10,cz 12 0],.join ⟨[],[]⟩ [] [] (.block 0 (.loop 0 ⟨[ar 5,eX 10,ar 11,ar 12],[]⟩ [2] [] (aj [ah [aN .lss 13 12 11],dQ 13 0,.block 1 (aj [ah [cL 14 1 10 12,au 15 1 14,ab 7 15],ah [ab 16 7,aQ .lss 17 16 0,ab 18 17,bA 18 (ab 19 7),bA 18 (ab 20 5),bA 18 (aN .gtr 21 19 20),gh 22 18 21],.cond 22 (aj [ah [eu 4],.ret]) .skip]),ah [aQ .add 23 12 1,ab 12 23]])))],ah [pA 4],.ret])
def ahX:List bK:=[.tmp 4]
theorem ax7 (NN:Nat) (x:bf (aq.be Nz)):eA NN [aeu] akx ahX Nz Zi x=SU NN x:=by kernel_rfl
theorem auE:cG pX 70 akx.er ahX 2=true:=by decide+kernel
theorem azE:dP pX 70 aej.M/\cc pX 70=true:=
  eK (args:=Nz) (aH:=Zi) (aB.cons azP<|aB.nil) cU auE EV fun x y h=>(ax7 aI x).trans (aqf x y h)
def Jl:aE:=⟨35,Ni,awq,Y2,oM⟩
def akh:bN:=
 (aj [ah [dF 2 3 0,dF 3 3 1,eu 4],aj [ah [bj 6 3 2,bD 7 69 [6],gR 8 7],.cond 8 (aj [ah [eu 4],.ret]) .skip],ah [bj 9 3 3,bD 10 39 [9],ab 5 10],.dB true [ab 11 5,aQ .neq 12 11 (-1),ab 13 12,bz 13 (aC 14 2 3),bz 13 (au 15 1 14),bz 13 (dk 16 15),bz 13 (ab 17 5),bz 13 (bj 18 3 2),bz 13 (bD 19 43 [18]),bz 13 (aN .mul 20 17 19),bz 13 (aN .eql 21 16 20),gD 22 13 21,ab 23 22,bz 23 (bj 24 3 2),bz 23 (aC 25 2 3),bz 23 (au 26 1 25),bz 23 (bD 27 70 [24,26]),gD 28 23 27,ab 4 28],.ret])
def ahH:List bK:=[.tmp 4]
theorem axR (NN:Nat) (x:bf (aq.be Ni)):eA NN [aeb,Uz,F0,aej] akh ahH Ni Y2 x=SI NN x:=by kernel_rfl
theorem aun:cG pX 35 akh.er ahH 2=true:=by decide+kernel
theorem Q4:dP pX 35 Jl.M/\cc pX 35=true:=
  eK (args:=Ni) (aH:=Y2) (aB.cons azw<|aB.cons ai2<|aB.cons KN<|aB.cons azE<|aB.nil) cU aun oM fun x y h=>(axR aI x).trans (apX x y h)
def ael:aE:=⟨71,NB,awH,Zk,EX⟩
def akz:bN:=
 (aj [ah [mM 4],ah [ab 8 0,bD 9 68 [8],ab 5 9],aj [ah [ab 10 1,dk 11 10,cz 12 0],.join ⟨[de 5 701 1],[aF 701]⟩ [700,701] [dn 5 701] (.block 0 (.loop 0 ⟨[eX 0,de 5 700 1,eX 10,ar 11,ar 12],[aF 700]⟩ [10000,22,23,700] [dn 5 700] (aj [ah [aN .lss 13 12 11],dQ 13 0,.block 1 (aj [ah [cL 14 1 10 12,au 15 1 14,ab 7 15],ah [ab 16 0,ab 17 7,bD 18 73 [16,17],gR 19 18],.cond 19 (ah [ab 20 5,ab 21 7,oX 22 (.gy iX [21]),oX 23 (.append true iX 8 20 22),ab 5 23]) .skip]),ah [aQ .add 24 12 1,ab 12 24]])))],ah [ab 25 5,ab 4 25],.ret])
def ahZ:List bK:=[.tmp 4]
theorem ax9 (NN:Nat) (x:bf (aq.be NB)):eA NN [yO,Pp] akz ahZ NB Zk x=Mg NN x:=by kernel_rfl
theorem auG:cG pX 71 akz.er ahZ 2=true:=by decide+kernel
theorem azG:dP pX 71 ael.M/\cc pX 71=true:=
  eK (args:=NB) (aH:=Zk) (aB.cons BS<|aB.cons Yf<|aB.nil) cU auG EX fun x y h=>(ax9 aI x).trans (aqh x y h)
def UA:aE:=⟨72,Nk,aws,Y5,wU⟩
def akk:bN:=
 (aj [ah [dF 2 3 0,cz 4 0],aj [ah [aC 7 0 2,au 8 1 7,dk 9 8,cz 10 0],.join ⟨[],[]⟩ [] [] (.block 0 (.loop 0 ⟨[ar 1,eX 8,ar 9,ar 10],[]⟩ [2] [] (aj [ah [aN .lss 11 10 9],dQ 11 0,.block 1 (aj [ah [ab 12 10,cL 13 1 8 10,au 14 1 13,ab 5 12,ab 6 14],ah [ab 15 6,ab 16 1,aN .eql 17 15 16],.cond 17 (aj [ah [ab 18 5,ab 4 18],.ret]) .skip]),ah [aQ .add 19 10 1,ab 10 19]])))],ah [cz 4 (-1)],.ret])
def ahK:List bK:=[.tmp 4]
theorem axU (NN:Nat) (x:bf (aq.be Nk)):eA NN [] akk ahK Nk Y5 x=SK NN x:=by kernel_rfl
theorem auq:cG pX 72 akk.er ahK 2=true:=by decide+kernel
theorem ai3:dP pX 72 UA.M/\cc pX 72=true:=
  eK (args:=Nk) (aH:=Y5) (aB.nil) cU auq wU fun x y h=>(axU aI x).trans (ap0 x y h)
def aek:aE:=⟨36,NA,awG,Zj,EW⟩
def aky:bN:=
 (aj [ah [dF 2 3 0,dF 3 3 1,mM 4,mM 5,eu 6],ah [aC 13 0 2,au 14 1 13,aC 15 0 3,au 16 1 15,bD 17 71 [14,16],ab 7 17],ah [ab 18 7,dk 19 18,oX 20 (.kv .aZ iX 8 (0:Int) 19 19),ab 8 20],aj [ah [ab 21 7,dk 22 21,cz 23 0],.join ⟨[de 7 702 1,de 8 703 1],[aF 702,aF 703]⟩ [2,3,700,701,702,703] [dn 7 702,dn 8 703] (.block 0 (.loop 0 ⟨[aw 2 2,aw 3 3,de 7 700 1,de 8 701 1,de 21 700 1,ar 22,ar 23],[az 2 [bL,bL,bL],az 3 [bL,bL,bL],aF 700,aF 701]⟩ [2,3,18000,20,700,701] [dn 7 700,dn 8 701] (aj [ah [aN .lss 24 23 22],dQ 24 0,.block 1 (aj [ah [ab 25 23,cL 26 1 21 23,au 27 1 26,ab 9 25,ab 10 27],.dB true [bj 28 3 2,ab 29 10,bD 30 72 [28,29],bj 31 3 3,ab 32 10,bD 33 72 [31,32],ab 11 30,ab 12 33],aj [.dB true [ab 34 11,aQ .geq 35 34 0,ab 36 35,bz 36 (ab 37 12),bz 36 (aQ .geq 38 37 0),gD 39 36 38,ab 40 39,bz 40 (aC 41 1 2),bz 40 (au 42 1 41),bz 40 (ab 43 11),bz 40 (cL 44 1 42 43),bz 40 (au 45 1 44),bz 40 (aC 46 1 3),bz 40 (au 47 1 46),bz 40 (ab 48 12),bz 40 (cL 49 1 47 48),bz 40 (au 50 1 49),bz 40 (aN .neq 51 45 50),gD 52 40 51],.cond 52 (aj [ah [mM 4,mM 5,eu 6],.ret]) .skip],ah [ab 53 11,aQ .geq 54 53 0],.cond 54 (ah [ab 55 8,ab 56 9,aC 57 1 2,au 58 1 57,ab 59 11,cL 60 1 58 59,au 61 1 60,cL 62 1 55 56,bJ 1 62 61]) (ah [ab 63 8,ab 64 9,aC 65 1 3,au 66 1 65,ab 67 12,cL 68 1 66 67,au 69 1 68,cL 70 1 63 64,bJ 1 70 69])]),ah [aQ .add 71 23 1,ab 23 71]])))],ah [ab 72 7,ab 73 8,ab 4 72,ab 5 73,pA 6],.ret])
def ahY:List bK:=[.tmp 4,.tmp 5,.tmp 6]
theorem ax8 (NN:Nat) (x:bf (aq.be NA)):eA NN [ael,UA] aky ahY NA Zj x=Mf NN x:=by kernel_rfl
theorem auF:cG pX 36 aky.er ahY 2=true:=by decide+kernel
theorem azF:dP pX 36 aek.M/\cc pX 36=true:=
  eK (args:=NA) (aH:=Zj) (aB.cons azG<|aB.cons ai3<|aB.nil) cU auF EW fun x y h=>(ax8 aI x).trans (aqg x y h)
def UG:aE:=⟨37,NG,awJ,Zp,Ah⟩
def akE:bN:=
 (aj [ah [cz 2 0],ah [cz 3 1],aj [ah [ab 6 0,dk 7 6,cz 8 0],.join ⟨[ar 3],[]⟩ [] [] (.block 0 (.loop 0 ⟨[ar 3,eX 6,ar 7,ar 8],[]⟩ [] [] (aj [ah [aN .lss 9 8 7],dQ 9 0,.block 1 (aj [ah [cL 10 1 6 8,au 11 1 10,ab 5 11],ah [ab 12 3,ab 13 5,aN .mul 14 12 13,ab 3 14]]),ah [aQ .add 15 8 1,ab 8 15]])))],ah [ab 16 3,ab 2 16],.ret])
def ah4:List bK:=[.tmp 2]
theorem aye (NN:Nat) (x:bf (aq.be NG)):eA NN [] akE ah4 NG Zp x=SY NN x:=by kernel_rfl
theorem auL:cG pX 37 akE.er ah4 1=true:=by decide+kernel
theorem ai9:dP pX 37 UG.M/\cc pX 37=true:=
  eK (args:=NG) (aH:=Zp) (aB.nil) cU auL Ah fun x y h=>(aye aI x).trans (aqm x y h)
def aem:aE:=⟨38,NC,awI,Zl,EY⟩
def akA:bN:=
 (aj [ah [mM 4],ah [mM 5],aj [ah [ab 8 0,dk 9 8,cz 10 0],.join ⟨[de 5 701 1],[aF 701]⟩ [700,701] [dn 5 701] (.block 0 (.loop 0 ⟨[eX 1,de 5 700 1,eX 8,ar 9,ar 10],[aF 700]⟩ [19,20,700] [dn 5 700] (aj [ah [aN .lss 11 10 9],dQ 11 0,.block 1 (aj [ah [cL 12 1 8 10,au 13 1 12,ab 7 13],ah [ab 14 1,ab 15 7,bD 16 73 [14,15]],.cond 16 (ah [ab 17 5,ab 18 7,oX 19 (.gy iX [18]),oX 20 (.append true iX 8 17 19),ab 5 20]) .skip]),ah [aQ .add 21 10 1,ab 10 21]])))],ah [ab 22 5,ab 4 22],.ret])
def ah0:List bK:=[.tmp 4]
theorem aya (NN:Nat) (x:bf (aq.be NC)):eA NN [Pp] akA ah0 NC Zl x=Mh NN x:=by kernel_rfl
theorem auH:cG pX 38 akA.er ah0 2=true:=by decide+kernel
theorem azH:dP pX 38 aem.M/\cc pX 38=true:=
  eK (args:=NC) (aH:=Zl) (aB.cons Yf<|aB.nil) cU auH EY fun x y h=>(aya aI x).trans (aqi x y h)
def aew:aE:=⟨41,NS,awT,Zz,E4⟩
def akP:bN:=
 (aj [ah [dF 1 3 0,mM 2],ah [bj 4 3 1,bD 5 43 [4],oX 6 (.kv .aZ iX 8 (0:Int) 5 5),ab 3 6],aj [ah [aC 7 0 1,au 8 1 7,aQ .eql 9 8 4],.join ⟨[de 3 700 1],[aF 700]⟩ [1,6,700] [dn 3 700] (.cond 9 (ah [ab 10 3,aC 11 1 1,au 12 1 11,iZ 13 1 10 0,bJ 1 13 12]) .skip)],ah [ab 14 3,ab 2 14],.ret])
def aif:List bK:=[.tmp 2]
theorem ayp (NN:Nat) (x:bf (aq.be NS)):eA NN [F0] akP aif NS Zz x=S7 NN x:=by kernel_rfl
theorem auW:cG pX 41 akP.er aif 1=true:=by decide+kernel
theorem azR:dP pX 41 aew.M/\cc pX 41=true:=
  eK (args:=NS) (aH:=Zz) (aB.cons KN<|aB.nil) cU auW E4 fun x y h=>(ayp aI x).trans (aqx x y h)
def aei:aE:=⟨40,Nv,awC,Zf,EU⟩
def aku:bN:=
 (aj [ah [dF 4 3 0,du 8 [.nil iX,.nil iX,.nil iX]],ah [ab 12 1,bD 13 68 [12],ab 14 2,bD 15 68 [14],oX 16 (.build [.nil iX,.nil iX,.nil iX] [(0,1,13),(1,1,15)]),du 9 [.nil iX,.nil iX,.nil iX],bJ 3 9 16],ah [ab 17 2,bD 18 37 [17],ab 10 18],ah [ab 19 10,ab 20 3,dk 21 20,aN .mul 22 19 21,oX 23 (.kv .aZ iX 8 (0:Int) (kX 0) 22),aC 24 2 9,bJ 1 24 23],aj [ah [cz 11 0],.join ⟨[aw 9 9,aw 8 8],[az 8 [fX 706 1,fX 707 1,fX 708 1],az 9 [fX 709 1,fX 710 1,fX 711 1],aF 706,aF 707,aF 708,aF 709,aF 710,aF 711]⟩ [8,9,700,701,702,703,704,705,706,707,708,709,710,711] [aO 8 0 706,aO 8 1 707,aO 8 2 708,aO 9 0 709,aO 9 1 710,aO 9 2 711] (.block 0 (.loop 0 ⟨[eX 3,aw 8 8,aw 9 9,ar 10,ar 11],[az 8 [fX 700 1,fX 701 1,fX 702 1],az 9 [fX 703 1,fX 704 1,fX 705 1],aF 700,aF 701,aF 702,aF 703,aF 704,aF 705]⟩ [4,8,14000,16000,9,23,33,700,701,702,703,704,705] [aO 8 0 700,aO 8 1 701,aO 8 2 702,aO 9 0 703,aO 9 1 704,aO 9 2 705] (aj [aj [ah [ab 25 11,ab 26 10,aN .lss 27 25 26],dQ 27 0],.block 1 (ah [aC 30 2 9,au 31 1 30,ab 32 3,oX 33 (.append true iX 8 31 32),aC 34 2 9,bJ 1 34 33]),ah [ab 28 11,aQ .add 29 28 1,ab 11 29]])))],ah [bj 35 3 9,bJ 3 8 35],.ret])
def ahU:List bK:=[.cell 8 3 true]
theorem ax4 (NN:Nat) (x:bf (aq.be Nv)):eA NN [yO,UG] aku ahU Nv Zf x=Me NN x:=by kernel_rfl
theorem auB:cG pX 40 aku.er ahU 4=true:=by decide+kernel
theorem azD:dP pX 40 aei.M/\cc pX 40=true:=
  eK (args:=Nv) (aH:=Zf) (aB.cons BS<|aB.cons ai9<|aB.nil) cU auB EU fun x y h=>(ax4 aI x).trans (aqc x y h)
def UI:aE:=⟨42,NX,awY,ZE,t9⟩
def akU:bN:=
 (aj [ah [dF 2 3 0,mM 4],ah [ab 10 1,dk 11 10,oX 12 (.kv .aZ iX 8 (0:Int) 11 11),ab 5 12],ah [cz 6 1],aj [ah [aC 13 1 2,au 14 1 13,dk 15 14,aQ .sub 16 15 1,ab 7 16],.join ⟨[de 5 704 1],[aF 704]⟩ [2,700,704] [dn 5 704] (.block 0 (.loop 0 ⟨[eX 1,aw 2 2,de 5 700 1,ar 6,ar 7],[az 2 [bL,bL,bL],aF 700]⟩ [2,12,700,703] [dn 5 700] (aj [aj [ah [ab 17 7,aQ .geq 18 17 0],dQ 18 0],.join ⟨[ar 7,eX 1,aw 2 2,de 5 703 1,ar 6],[az 2 [bL,bL,bL],aF 703]⟩ [2,702,703] [dn 5 703] (.block 1 (aj [aj [ah [ab 21 1,dk 22 21,cz 23 0],.join ⟨[ar 6,ar 7,eX 1,aw 2 2,de 5 702 1],[az 2 [bL,bL,bL],aF 702]⟩ [2,701,702] [dn 5 702] (.block 2 (.loop 0 ⟨[eX 1,aw 2 2,de 5 701 1,ar 6,ar 7,eX 21,ar 22,ar 23],[az 2 [bL,bL,bL],aF 701]⟩ [2,700,701] [dn 5 701] (aj [ah [aN .lss 24 23 22],dQ 24 2,.block 3 (aj [ah [ab 25 23,cL 26 1 21 23,au 27 1 26,ab 8 25,ab 9 27],ah [ab 28 9,aC 29 0 2,au 30 1 29,ab 31 7,cL 32 1 30 31,au 33 1 32,aN .eql 34 28 33],.cond 34 (ah [ab 35 5,ab 36 8,ab 37 6,cL 38 1 35 36,bJ 1 38 37]) .skip]),ah [aQ .add 39 23 1,ab 23 39]])))],ah [ab 40 6,aC 41 1 2,au 42 1 41,ab 43 7,cL 44 1 42 43,au 45 1 44,aN .mul 46 40 45,ab 6 46]])),ah [ab 19 7,aQ .sub 20 19 1,ab 7 20]])))],ah [ab 47 5,ab 4 47],.ret])
def ail:List bK:=[.tmp 4]
theorem ayu (NN:Nat) (x:bf (aq.be NX)):eA NN [] akU ail NX ZE x=Tb NN x:=by kernel_rfl
theorem au1:cG pX 42 akU.er ail 2=true:=by decide+kernel
theorem ajb:dP pX 42 UI.M/\cc pX 42=true:=
  eK (args:=NX) (aH:=ZE) (aB.nil) cU au1 t9 fun x y h=>(ayu aI x).trans (aqC x y h)
def UD:aE:=⟨46,Nr,awy,Zb,vu⟩
def akq:bN:=
 (aj [ah [cz 4 0],ah [cz 5 0],aj [ah [ab 7 0,dk 8 7,cz 9 0],.join ⟨[ar 5],[]⟩ [] [] (.block 0 (.loop 0 ⟨[eX 0,eX 1,ar 5,ar 8,ar 9],[]⟩ [] [] (aj [ah [aN .lss 10 9 8],dQ 10 0,.block 1 (aj [ah [ab 11 9,ab 6 11],.dB true [ab 12 5,ab 13 0,ab 14 6,cL 15 1 13 14,au 16 1 15,ab 17 1,ab 18 6,cL 19 1 17 18,au 20 1 19,aN .mul 21 16 20,aN .add 22 12 21,ab 5 22]]),ah [aQ .add 23 9 1,ab 9 23]])))],ah [ab 24 5,ab 4 24],.ret])
def ahQ:List bK:=[.tmp 4]
theorem ax0 (NN:Nat) (x:bf (aq.be Nr)):eA NN [] akq ahQ Nr Zb x=SP NN x:=by kernel_rfl
theorem auw:cG pX 46 akq.er ahQ 2=true:=by decide+kernel
theorem ai6:dP pX 46 UD.M/\cc pX 46=true:=
  eK (args:=Nr) (aH:=Zb) (aB.nil) cU auw vu fun x y h=>(ax0 aI x).trans (ap8 x y h)
def UH:aE:=⟨45,NJ,awL,Zr,sQ⟩
def akH:bN:=
 (aj [ah [dF 3 3 0,dF 4 3 1,mM 6],ah [bj 8 3 3,bD 9 43 [8],ab 7 9],ah [aC 10 2 4,au 11 1 10,ab 12 2,ab 13 7,aN .mul 14 12 13,ab 15 2,aQ .add 16 15 1,ab 17 7,aN .mul 18 16 17,oX 19 (.slice 1 11 (some 14) (some 18)),ab 6 19],.ret])
def ah7:List bK:=[.tmp 6]
theorem ayh (NN:Nat) (x:bf (aq.be NJ)):pg NN [F0] akH ah7 NJ Zr x=S3 NN x:=by kernel_rfl
theorem auO:cG pX 45 akH.er ah7 3=true:=by decide+kernel
theorem aja:mL pX 45 UH.MV/\cc pX 45=true:=
  qO (args:=NJ) (aH:=Zr) (aB.cons KN<|aB.nil) cU auO sQ fun x y h=>(ayh aI x).trans (aqp x y h)
def aen:aE:=⟨74,ND,QI,Zm,Ct⟩
def akB:bN:=
 (aj [ah [dF 4 3 0],ah [ab 12 1,uX (.nY (.int .i64) ((0:Int)) 12)],ah [ab 13 2,dk 14 13,cz 15 0],.block 0 (.loop 0 ⟨[de 1 1000000 1,eX 2,eX 3,aw 4 4,ar 14,ar 15],[(1000000,.row false .aZ iX),az 4 [vX,vX,vX]]⟩ [1000000,4,700] [dn 1 700] (aj [ah [aN .lss 16 15 14],dQ 16 0,.join ⟨[ar 15,de 1 1000000 1,eX 2,eX 3,aw 4 4,ar 14],[(1000000,.row false .aZ iX),az 4 [vX,vX,vX]]⟩ [1000000,4,702] [dn 1 702] (.block 1 (aj [ah [ab 17 15,ab 8 17],ah [ab 18 3,dk 19 18,cz 20 0],.block 2 (.loop 0 ⟨[de 1 1000000 1,eX 2,eX 3,aw 4 4,ar 8,ar 14,ar 15,ar 19,ar 20],[(1000000,.row false .aZ iX),az 4 [vX,vX,vX]]⟩ [1000000,4,701] [dn 1 701] (aj [ah [aN .lss 21 20 19],dQ 21 2,.block 3 (aj [ah [ab 22 20,ab 9 22],.dB true [ab 23 2,ab 24 8,cL 25 1 23 24,au 26 1 25,ab 27 3,ab 28 9,cL 29 1 27 28,au 30 1 29,aN .mul 31 26 30,aC 32 1 4,au 33 1 32,aN .rem 34 31 33,ab 10 34],ah [ab 35 8,ab 36 9,aN .add 37 35 36,ab 11 37],ah [ab 38 11,ab 39 1,dk 40 39,aN .lss 41 38 40],.cond 41 (.dB true [ab 42 1,ab 43 11,ab 44 1,ab 45 11,cL 46 1 44 45,au 47 1 46,ab 48 10,aN .add 49 47 48,aC 50 1 4,au 51 1 50,aN .rem 52 49 51,cL 53 1 42 43,bJ 1 53 52]) (aj [ah [aC 54 0 4,au 55 1 54,aQ .eql 56 55 8],.cond 56 (.dB true [ab 57 1,ab 58 11,aQ .sub 59 58 4,ab 60 1,ab 61 11,aQ .sub 62 61 4,cL 63 1 60 62,au 64 1 63,aC 65 1 4,au 66 1 65,aN .add 67 64 66,ab 68 10,aN .sub 69 67 68,aC 70 1 4,au 71 1 70,aN .rem 72 69 71,cL 73 1 57 59,bJ 1 73 72]) .skip])]),ah [aQ .add 74 20 1,ab 20 74]]))])),ah [aQ .add 75 15 1,ab 15 75]]))])
def ah1:List bK:=[]
theorem ayb (NN:Nat) (x:bf (aq.be ND)):wJ NN [] akB ah1 ND QI Zm x=SW NN x:=by kernel_rfl
theorem auI:cG pX 74 akB.er ah1 4=true:=by decide+kernel
theorem azI:rM pX 74 QI aen.MM/\cc pX 74=true:=
  zD (args:=ND) (mu:=QI) (aH:=Zm) (aB.nil) cU auI Ct fun x y h=>(ayb aI x).trans (aqj x y h)
def aeo:aE:=⟨44,NE,QJ,Zn,EZ⟩
def akC:bN:=
 (aj [ah [dF 4 3 0],ah [aC 8 0 4,au 9 1 8],.block 0 (aj [aj [ah [aQ .eql 16 9 1,ab 15 16],.join ⟨[(15,.one (.c (.v (.bool)))),ar 9,aw 4 4,de 1 1000000 1,eX 2,eX 3],[(1000000,.row false .aZ iX),az 4 [vX,vX,vX]]⟩ [1000000,4,700] [dn 1 700] (.cond 15 .skip (ah [aQ .eql 17 9 5,ab 15 17]))],.cond 15 (.dB true [ab 18 1,ab 19 2,iZ 20 1 19 0,au 21 1 20,ab 22 3,iZ 23 1 22 0,au 24 1 23,oX 25 (.mm false 21 24),iZ 26 1 18 0,bJ 1 26 25]) (aj [ah [aQ .eql 28 9 2,ab 27 28],.cond 27 (.dB true [ab 29 1,ab 30 2,iZ 31 1 30 0,au 32 1 31,ab 33 3,iZ 34 1 33 0,au 35 1 34,aN .mul 36 32 35,aC 37 1 4,au 38 1 37,aN .rem 39 36 38,iZ 40 1 29 0,bJ 1 40 39]) (aj [ah [aQ .eql 42 9 3,ab 41 42],.cond 41 (.dB true [ab 43 1,ab 44 2,iZ 45 1 44 0,au 46 1 45,ab 47 3,iZ 48 1 47 0,au 49 1 48,aN .mul 50 46 49,aC 51 1 4,au 52 1 51,oX 53 (.mm false 50 52),iZ 54 1 43 0,bJ 1 54 53]) (aj [ah [aQ .eql 56 9 4,ab 55 56],.cond 55 (.dB true [ab 57 1,ab 58 2,iZ 59 1 58 0,au 60 1 59,ab 61 3,iZ 62 1 61 0,au 63 1 62,aN .add 64 60 63,aC 65 1 4,au 66 1 65,oX 67 (.mm false 64 66),iZ 68 1 57 0,bJ 1 68 67]) (aj [ah [aQ .eql 70 9 6,ab 69 70],.cond 69 (.dB true [ab 71 1,ab 72 2,iZ 73 1 72 0,au 74 1 73,ab 75 3,iZ 76 1 75 0,au 77 1 76,aN .and 78 74 77,iZ 79 1 71 0,bJ 1 79 78]) (ah [bj 10 3 4,ab 11 1,ab 12 2,ab 13 3,oX 14 (.g7 .aZ 74 [10,11,12,13])])])])])])])])
def ah2:List bK:=[]
theorem ayc (NN:Nat) (x:bf (aq.be NE)):wJ NN [aen] akC ah2 NE QJ Zn x=Mi NN x:=by kernel_rfl
theorem auJ:cG pX 44 akC.er ah2 4=true:=by decide+kernel
theorem azJ:rM pX 44 QJ aeo.MM/\cc pX 44=true:=
  zD (args:=NE) (mu:=QJ) (aH:=Zn) (aB.oP azI<|aB.nil) cU auJ EZ fun x y h=>(ayc aI x).trans (aqk x y h)
def aeq:aE:=⟨45,NI,QL,aBc,Cw⟩
def akG:bN:=
 (aj [ah [dF 3 3 0,dF 4 3 1,mM 6],ah [bj 8 3 3,bD 9 43 [8],ab 7 9],ah [aC 10 2 4,au 11 1 10,ab 12 2,ab 13 7,aN .mul 14 12 13,ab 15 2,aQ .add 16 15 1,ab 17 7,aN .mul 18 16 17,oX 19 (.slice 1 11 (some 14) (some 18)),ab 6 19],.ret])
def ah6:List bK:=[.tmp 6]
theorem ayg (NN:Nat) (x:bf (aq.be NI)):Ri NN [F0] akG ah6 NI QL.tl x=S0 NN x:=by kernel_rfl
theorem auN:cG pX 45 akG.er ah6 3=true:=by decide+kernel
theorem azL:Fp pX 45 QL.tl aeq.MW/\cc pX 45=true:=
  aDm (args:=NI) (mu:=QL.tl) (aB.cons KN<|aB.nil) cU auN (by decide+kernel) Cw fun x y h=>(ayg aI x).trans (aqo x y h)
def aee:aE:=⟨47,ab0,QH,Y4,Cs⟩
def akj:bN:=
 (aj [ah [dF 3 3 0],ah [aC 7 0 3,au 8 1 7],.block 0 (aj [aj [ah [aQ .eql 31 8 1,ab 30 31],.join ⟨[(30,.one (.c (.v (.bool)))),ar 8,(1,.one (.c (.sl 1000000 1))),eX 2,aw 3 3],[(1000000,.row false .aZ iX),az 3 [vX,vX,vX]]⟩ [1000000,3,700] [dn 1 700] (.cond 30 .skip (ah [aQ .eql 32 8 5,ab 30 32]))],.cond 30 (.dB true [ab 33 1,ab 34 1,iZ 35 1 34 0,au 36 1 35,ab 37 2,iZ 38 1 37 0,au 39 1 38,oX 40 (.mm true 36 39),iZ 41 1 33 0,bJ 1 41 40]) (aj [ah [aQ .eql 43 8 3,ab 42 43],.cond 42 (.dB true [ab 44 1,ab 45 1,iZ 46 1 45 0,au 47 1 46,ab 48 2,iZ 49 1 48 0,au 50 1 49,aN .add 51 47 50,aC 52 1 3,au 53 1 52,oX 54 (.mm false 51 53),iZ 55 1 44 0,bJ 1 55 54]) (aj [ah [aQ .eql 57 8 4,ab 56 57],.cond 56 (.dB true [ab 58 1,ab 59 1,iZ 60 1 59 0,au 61 1 60,ab 62 2,iZ 63 1 62 0,au 64 1 63,oX 65 (.mm false 61 64),iZ 66 1 58 0,bJ 1 66 65]) (aj [ah [aQ .eql 68 8 6,ab 67 68],.cond 67 (.dB true [ab 69 1,iZ 70 1 69 0,au 71 1 70,ab 72 2,iZ 73 1 72 0,au 74 1 73,aN .or 75 71 74,iZ 76 1 69 0,bJ 1 76 75]) (aj [ah [ab 9 1,dk 10 9,cz 11 0],.block 1 (.loop 0 ⟨[(1,.one (.c (.sl 1000000 1))),eX 2,aw 3 3,ar 10,ar 11],[(1000000,.row false .aZ iX),az 3 [vX,vX,vX]]⟩ [1000000,3,701] [dn 1 701] (aj [ah [aN .lss 12 11 10],dQ 12 1,.block 2 (aj [ah [ab 13 11,ab 6 13],.dB true [ab 14 1,ab 15 6,ab 16 1,ab 17 6,cL 18 1 16 17,au 19 1 18,ab 20 2,ab 21 6,cL 22 1 20 21,au 23 1 22,aN .add 24 19 23,aC 25 1 3,au 26 1 25,aN .rem 27 24 26,cL 28 1 14 15,bJ 1 28 27]]),ah [aQ .add 29 11 1,ab 11 29]]))])])])])])])
def ahJ:List bK:=[]
theorem axT (NN:Nat) (x:bf (aq.be ab0)):K7 NN [] akj ahJ QH.mI acj Y4 x.1 x.2.1 x.2.2=Mc NN x:=by kernel_rfl
theorem aup:cG pX 47 akj.er ahJ 3=true:=by decide+kernel
theorem azz:CL pX 47 QH.mI aee.MX/\cc pX 47=true:=
  aDx (bg:=acj) rfl (mu:=QH) (aH:=Y4) (aB.nil) cU aup Cs fun x y h=>(axT aI x).trans (apZ x y h)
def ad4:aE:=⟨11,MZ,awd,YM,Co⟩
def aj1:bN:=
 (aj [ah [dF 4 3 0,dF 5 3 1,dF 6 3 2,du 8 [.nil iX,.nil iX,.nil iX],eu 9],aj [ah [bj 24 3 4,bj 25 3 5,bD 26 35 [24,25],gR 27 26,ab 28 27,bA 28 (bj 29 3 4),bA 28 (bj 30 3 6),bA 28 (bD 31 35 [29,30]),bA 28 (gR 32 31),gh 33 28 32],.cond 33 (aj [ah [oX 34 (.build [.nil iX,.nil iX,.nil iX] []),bJ 3 8 34,eu 9],.ret]) .skip],ah [bj 36 3 5,bj 37 3 6,bD 38 36 [36,37],ab 35 38,gW 39 0 35,gW 40 1 35,gW 41 2 35,ab 10 39,ab 11 40,ab 12 41],aj [ah [ab 42 12,gR 43 42,ab 44 43,bA 44 (ab 45 11),bA 44 (bD 46 37 [45]),bA 44 (aQ .gtr 47 46 65536),gh 48 44 47],.cond 48 (aj [ah [oX 49 (.build [.nil iX,.nil iX,.nil iX] []),bJ 3 8 49,eu 9],.ret]) .skip],ah [ab 50 10,ab 51 3,bD 52 38 [50,51],ab 13 52],ah [ab 53 13,ab 54 13,dk 55 54,oX 56 (.kv .aZ iX 8 (0:Int) 55 55),oX 57 (.build [.nil iX,.nil iX,.nil iX] [(0,1,53),(1,1,56)]),du 14 [.nil iX,.nil iX,.nil iX],bJ 3 14 57],aj [ah [ab 58 13,dk 59 58,cz 60 0],.join ⟨[de 10 730 1,aw 14 14,aw 8 8,de 11 731 1,aw 4 4,aw 6 6,aw 5 5],[az 4 [vX,vX,vX],az 5 [bL,bL,bL],az 6 [bL,bL,bL],az 8 [fX 724 1,fX 725 1,fX 726 1],az 14 [fX 727 1,fX 728 1,fX 729 1],aF 724,aF 725,aF 726,aF 727,aF 728,aF 729,aF 730,aF 731]⟩ [4,5,6,8,14,700,701,702,703,704,705,706,707,724,725,726,727,728,729,730,731] [aO 8 0 724,aO 8 1 725,aO 8 2 726,aO 14 0 727,aO 14 1 728,aO 14 2 729,dn 10 730,dn 11 731] (.block 0 (.loop 0 ⟨[aw 4 4,aw 5 5,aw 6 6,aw 8 8,de 10 706 1,de 11 707 1,aw 14 14,de 58 703 1,ar 59,ar 60],[az 4 [vX,vX,vX],az 5 [bL,bL,bL],az 6 [bL,bL,bL],az 8 [fX 700 1,fX 701 1,fX 702 1],az 14 [fX 703 1,fX 704 1,fX 705 1],aF 700,aF 701,aF 702,aF 703,aF 704,aF 705,aF 706,aF 707]⟩ [4,5,6,8,39000,39001,53000,56,14,700,701,702,703,704,705,706,707,716,717,718,719,720,721,722,723] [aO 8 0 700,aO 8 1 701,aO 8 2 702,aO 14 0 703,aO 14 1 704,aO 14 2 705,dn 10 706,dn 11 707] (aj [ah [aN .lss 61 60 59],dQ 61 0,.join ⟨[ar 60,aw 4 4,aw 5 5,aw 6 6,aw 8 8,de 10 722 1,de 11 723 1,aw 14 14,de 58 719 1,ar 59],[az 4 [vX,vX,vX],az 5 [bL,bL,bL],az 6 [bL,bL,bL],az 8 [fX 716 1,fX 717 1,fX 718 1],az 14 [fX 719 1,fX 720 1,fX 721 1],aF 716,aF 717,aF 718,aF 719,aF 720,aF 721,aF 722,aF 723]⟩ [4,5,6,8,14,708,709,710,711,712,713,714,715,716,717,718,719,720,721,722,723] [aO 8 0 716,aO 8 1 717,aO 8 2 718,aO 14 0 719,aO 14 1 720,aO 14 2 721,dn 10 722,dn 11 723] (.block 1 (aj [ah [ab 62 60,cL 63 1 58 60,au 64 1 63,ab 15 62,ab 16 64],ah [ab 65 10,dk 66 65,cz 67 0],.block 2 (.loop 0 ⟨[aw 4 4,aw 5 5,aw 6 6,aw 8 8,de 10 714 1,de 11 715 1,aw 14 14,ar 15,ar 16,de 58 711 1,ar 59,ar 60,de 65 714 1,ar 66,ar 67],[az 4 [vX,vX,vX],az 5 [bL,bL,bL],az 6 [bL,bL,bL],az 8 [fX 708 1,fX 709 1,fX 710 1],az 14 [fX 711 1,fX 712 1,fX 713 1],aF 708,aF 709,aF 710,aF 711,aF 712,aF 713,aF 714,aF 715]⟩ [4,5,6,8,14,700,701,702,703,704,705,706,707,708,709,710,711,712,713,714,715] [aO 8 0 708,aO 8 1 709,aO 8 2 710,aO 14 0 711,aO 14 1 712,aO 14 2 713,dn 10 714,dn 11 715] (aj [ah [aN .lss 68 67 66],dQ 68 2,.block 3 (aj [ah [ab 69 67,cL 70 1 65 67,au 71 1 70,ab 17 69,ab 18 71],ah [ab 72 18,ab 73 16,aN .eql 74 72 73],.cond 74 (.dB true [aC 75 1 14,au 76 1 75,ab 77 15,ab 78 11,ab 79 17,cL 80 1 78 79,au 81 1 80,cL 82 1 76 77,bJ 1 82 81]) .skip]),ah [aQ .add 83 67 1,ab 67 83]]))])),ah [aQ .add 84 60 1,ab 60 84]])))],aj [ah [bj 85 3 14,bD 86 39 [85],aQ .eql 87 86 (-1)],.cond 87 (aj [ah [oX 88 (.build [.nil iX,.nil iX,.nil iX] []),bJ 3 8 88,eu 9],.ret]) .skip],.dB true [bj 89 3 4,aC 90 0 14,au 91 1 90,aC 92 1 14,au 93 1 92,bj 94 3 4,bD 95 41 [94],bD 96 40 [89,91,93,95],bJ 3 14 96],.dB true [bj 97 3 5,ab 98 10,bD 99 42 [97,98],bj 100 3 6,ab 101 10,bD 102 42 [100,101],bj 103 3 14,ab 104 10,bD 105 42 [103,104],ab 19 99,ab 20 102,ab 21 105],ah [ab 106 10,dk 107 106,oX 108 (.kv .aZ iX 8 (0:Int) 107 107),ab 22 108],ah [bj 109 3 4,bD 110 43 [109],oX 111 (.kv .aZ iX 8 (0:Int) 110 110),ab 23 111],.block 4 (.loop 0 ⟨[aw 4 4,aw 5 5,aw 6 6,aw 8 8,de 11 738 1,aw 14 14,de 19 739 1,de 20 740 1,de 21 741 1,de 22 742 1,de 23 743 1],[az 4 [vX,vX,vX],az 5 [bL,bL,bL],az 6 [bL,bL,bL],az 8 [fX 732 1,fX 733 1,fX 734 1],az 14 [fX 735 1,fX 736 1,fX 737 1],aF 732,aF 733,aF 734,aF 735,aF 736,aF 737,aF 738,aF 739,aF 740,aF 741,aF 742,aF 743]⟩ [4,5,6,8,14,96000,97000,97001,97002,100000,103000,106000,108,111,724,725,726,727,728,729,730,731,732,733,734,735,736,737,738,739,740,741,742,743] [aO 8 0 732,aO 8 1 733,aO 8 2 734,aO 14 0 735,aO 14 1 736,aO 14 2 737,dn 11 738,dn 19 739,dn 20 740,dn 21 741,dn 22 742,dn 23 743] (.block 5 (aj [.dB true [bj 112 3 4,ab 113 23,bj 114 3 4,bj 115 3 5,ab 116 19,ab 117 22,bD 118 46 [116,117],oX 119 (.nX 45 [114,115,118]),bj 120 3 4,bj 121 3 6,ab 122 20,ab 123 22,bD 124 46 [122,123],oX 125 (.nX 45 [120,121,124]),oX 126 (.g7 .aZ 44 [112,113,119,125])],.dB true [bj 127 3 4,bj 128 3 4,bj 129 3 14,ab 130 21,ab 131 22,bD 132 46 [130,131],oX 133 (.pF 45 [128,129,132]),ab 134 23,oX 135 (.pG .aZ 47 [127,133,134])],ah [ab 136 11,ab 137 22,oX 138 (.g7 .aZ 34 [136,137]),gR 139 138],.cond 139 (aj [ah [bj 140 3 14,bJ 3 8 140,pA 9],.ret]) .skip])))])
def ahr:List bK:=[.cell 8 3 true,.tmp 9]
theorem axz (NN:Nat) (x:bf (aq.be MZ)):eA NN [Jl,aek,UG,aem,Uz,aew,aei,UI,F0,UD,UH,aeo,aeq,aee,Pq] aj1 ahr MZ YM x=L5 NN x:=by kernel_rfl
theorem at7:cG pX 11 aj1.er ahr 4=true:=by decide+kernel
theorem azp:dP pX 11 ad4.M/\cc pX 11=true:=
  eK (args:=MZ) (aH:=YM) (aB.cons Q4<|aB.cons azF<|aB.cons ai9<|aB.cons azH<|aB.cons ai2<|aB.cons azR<|aB.cons azD<|aB.cons ajb<|aB.cons KN<|aB.cons ai6<|aB.jB aja<|aB.oP azJ<|aB.aos azL<|aB.acQ azz<|aB.oP Yg<|aB.nil) cU at7 Co fun x y h=>(axz aI x).trans (apG x y h)
def aeg:aE:=⟨48,Nq,awx,Za,ET⟩
def akp:bN:=
 (aj [ah [dF 1 3 0,du 2 [.nil iX,.nil iX,.nil iX]],.dB true [aC 3 0 1,au 4 1 3,bD 5 68 [4],aC 6 1 1,au 7 1 6,bD 8 68 [7],aC 9 2 1,au 10 1 9,bD 11 68 [10],oX 12 (.build [.nil iX,.nil iX,.nil iX] [(0,1,5),(1,1,8),(2,1,11)]),bJ 3 2 12],.ret])
def ahP:List bK:=[.cell 2 3 true]
theorem axZ (NN:Nat) (x:bf (aq.be Nq)):eA NN [yO] akp ahP Nq Za x=SO NN x:=by kernel_rfl
theorem auv:cG pX 48 akp.er ahP 1=true:=by decide+kernel
theorem azB:dP pX 48 aeg.M/\cc pX 48=true:=
  eK (args:=Nq) (aH:=Za) (aB.cons BS<|aB.nil) cU auv ET fun x y h=>(axZ aI x).trans (ap7 x y h)
def aex:aE:=⟨49,NT,awU,ZA,E5⟩
def akQ:bN:=
 (aj [ah [cz 6 0],aj [ah [ab 9 1,dk 10 9,cz 11 0],.join ⟨[ar 0],[]⟩ [] [] (.block 0 (.loop 0 ⟨[ar 0,eX 2,eX 9,ar 10,ar 11],[]⟩ [] [] (aj [ah [aN .lss 12 11 10],dQ 12 0,.block 1 (aj [ah [ab 13 11,cL 14 1 9 11,au 15 1 14,ab 7 13,ab 8 15],ah [ab 16 8,ab 17 0,aN .eql 18 16 17],.cond 18 (aj [ah [ab 19 2,ab 20 7,cL 21 1 19 20,au 22 1 21,ab 6 22],.ret]) .skip]),ah [aQ .add 23 11 1,ab 11 23]])))],ah [ab 24 0,ab 6 24],.ret])
def aih:List bK:=[.tmp 6]
theorem ayq (NN:Nat) (x:bf (aq.be NT)):eA NN [] akQ aih NT ZA x=Mm NN x:=by kernel_rfl
theorem auX:cG pX 49 akQ.er aih 3=true:=by decide+kernel
theorem azS:dP pX 49 aex.M/\cc pX 49=true:=
  eK (args:=NT) (aH:=ZA) (aB.nil) cU auX E5 fun x y h=>(ayq aI x).trans (aqy x y h)
def aea:aE:=⟨14,Nc,awl,YX,EP⟩
def akc:bN:=
 (aj [ah [dF 4 3 0,dF 5 3 1,du 8 [.nil iX,.nil iX,.nil iX],eu 9],aj [ah [bj 13 3 4,bj 14 3 5,bD 15 35 [13,14],gR 16 15,ab 17 16,bA 17 (ab 18 2),bA 17 (dk 19 18),bA 17 (ab 20 3),bA 17 (dk 21 20),bA 17 (aN .neq 22 19 21),gh 23 17 22],.cond 23 (aj [ah [oX 24 (.build [.nil iX,.nil iX,.nil iX] []),bJ 3 8 24,eu 9],.ret]) .skip],ah [bj 25 3 5,bD 26 48 [25],du 10 [.nil iX,.nil iX,.nil iX],bJ 3 10 26],aj [ah [aC 27 0 10,au 28 1 27,dk 29 28,cz 30 0],.join ⟨[aw 4 4,aw 10 10,aw 8 8],[az 4 [vX,vX,vX],az 8 [fX 706 1,fX 707 1,fX 708 1],az 10 [fX 709 1,fX 710 1,fX 711 1],aF 706,aF 707,aF 708,aF 709,aF 710,aF 711]⟩ [4,8,10,700,701,702,703,704,705,706,707,708,709,710,711] [aO 8 0 706,aO 8 1 707,aO 8 2 708,aO 10 0 709,aO 10 1 710,aO 10 2 711] (.block 0 (.loop 0 ⟨[eX 2,eX 3,aw 4 4,aw 8 8,aw 10 10,de 28 703 1,ar 29,ar 30],[az 4 [vX,vX,vX],az 8 [fX 700 1,fX 701 1,fX 702 1],az 10 [fX 703 1,fX 704 1,fX 705 1],aF 700,aF 701,aF 702,aF 703,aF 704,aF 705]⟩ [4,5,8,27000,27001,27002,10,700,701,702,703,704,705] [aO 8 0 700,aO 8 1 701,aO 8 2 702,aO 10 0 703,aO 10 1 704,aO 10 2 705] (aj [ah [aN .lss 31 30 29],dQ 31 0,.block 1 (aj [ah [ab 32 30,cL 33 1 28 30,au 34 1 33,ab 11 32,ab 12 34],.dB true [aC 35 0 10,au 36 1 35,ab 37 11,ab 38 12,ab 39 2,ab 40 3,bD 41 49 [38,39,40],cL 42 1 36 37,bJ 1 42 41]]),ah [aQ .add 43 30 1,ab 30 43]])))],aj [ah [bj 44 3 4,bj 45 3 10,bD 46 35 [44,45],gR 47 46],.cond 47 (aj [ah [oX 48 (.build [.nil iX,.nil iX,.nil iX] []),bJ 3 8 48,eu 9],.ret]) .skip],ah [bj 49 3 10,bJ 3 8 49,pA 9],.ret])
def ahC:List bK:=[.cell 8 3 true,.tmp 9]
theorem axK (NN:Nat) (x:bf (aq.be Nc)):eA NN [Jl,aeg,aex] akc ahC Nc YX x=Ma NN x:=by kernel_rfl
theorem aui:cG pX 14 akc.er ahC 4=true:=by decide+kernel
theorem azv:dP pX 14 aea.M/\cc pX 14=true:=
  eK (args:=Nc) (aH:=YX) (aB.cons Q4<|aB.cons azB<|aB.cons azS<|aB.nil) cU aui EP fun x y h=>(axK aI x).trans (apR x y h)
def UE:aE:=⟨75,Nt,awA,Zd,t6⟩
def aks:bN:=
 (aj [ah [eu 4],aj [ah [ab 6 0,dk 7 6,ab 8 1,dk 9 8,aN .neq 10 7 9],.cond 10 (aj [ah [eu 4],.ret]) .skip],aj [ah [ab 11 0,dk 12 11,cz 13 0],.join ⟨[],[]⟩ [] [] (.block 0 (.loop 0 ⟨[eX 0,eX 1,ar 12,ar 13],[]⟩ [] [] (aj [ah [aN .lss 14 13 12],dQ 14 0,.block 1 (aj [ah [ab 15 13,ab 5 15],.dB true [ab 16 0,ab 17 5,cL 18 1 16 17,au 19 1 18,ab 20 1,ab 21 5,cL 22 1 20 21,au 23 1 22,aN .neq 24 19 23],.cond 24 (aj [ah [eu 4],.ret]) .skip]),ah [aQ .add 25 13 1,ab 13 25]])))],ah [pA 4],.ret])
def ahS:List bK:=[.tmp 4]
theorem ax2 (NN:Nat) (x:bf (aq.be Nt)):eA NN [] aks ahS Nt Zd x=SQ NN x:=by kernel_rfl
theorem auz:cG pX 75 aks.er ahS 2=true:=by decide+kernel
theorem ai7:dP pX 75 UE.M/\cc pX 75=true:=
  eK (args:=Nt) (aH:=Zd) (aB.nil) cU auz t6 fun x y h=>(ax2 aI x).trans (aqa x y h)
def aey:aE:=⟨50,NU,awV,ZB,E6⟩
def akR:bN:=
 (aj [ah [dF 2 2 0,dF 3 2 1,eu 4],.dB true [bj 5 2 2,bD 6 27 [5],ab 7 6,bz 7 (bj 8 2 3),bz 7 (bD 9 27 [8]),gD 10 7 9,ab 11 10,bz 11 (aC 12 0 2),bz 11 (au 13 1 12),bz 11 (aC 14 0 3),bz 11 (au 15 1 14),bz 11 (aN .eql 16 13 15),gD 17 11 16,ab 18 17,bz 18 (bj 19 2 2),bz 18 (bD 20 32 [19]),bz 18 (bj 21 2 3),bz 18 (bD 22 32 [21]),bz 18 (bD 23 75 [20,22]),gD 24 18 23,ab 4 24],.ret])
def aii:List bK:=[.tmp 4]
theorem ayr (NN:Nat) (x:bf (aq.be NU)):eA NN [Jj,UB,UE] akR aii NU ZB x=S8 NN x:=by kernel_rfl
theorem auY:cG pX 50 akR.er aii 2=true:=by decide+kernel
theorem azT:dP pX 50 aey.M/\cc pX 50=true:=
  eK (args:=NU) (aH:=ZB) (aB.cons Q2<|aB.cons ai4<|aB.cons ai7<|aB.nil) cU auY E6 fun x y h=>(ayr aI x).trans (aqz x y h)
def C7:aE:=⟨51,Ns,awz,Zc,wV⟩
def akr:bN:=
 (aj [ah [du 4 [zX,zX,.nil iX]],ah [ab 5 0,ab 6 1,ab 7 0,ab 8 1,aN .mul 9 7 8,oX 10 (.kv .aZ iX 8 (0:Int) 9 9),oX 11 (.build [zX,zX,.nil iX] [(0,1,5),(1,1,6),(2,1,10)]),bJ 3 4 11],.ret])
def ahR:List bK:=[.cell 4 3 true]
theorem ax1 (NN:Nat) (x:bf (aq.be Ns)):eA NN [] akr ahR Ns Zc x=abM NN x:=by kernel_rfl
theorem auy:cG pX 51 akr.er ahR 2=true:=by decide+kernel
theorem Ht:dP pX 51 C7.M/\cc pX 51=true:=
  eK (args:=Ns) (aH:=Zc) (aB.nil) cU auy wV fun x y h=>(ax1 aI x).trans (ap9 x y h)
def yN:aE:=⟨57,M8,QF,YT,qQ⟩
def aj8:bN:=
 (aj [ah [dF 4 3 0],ah [aC 8 2 4,au 9 1 8,ab 10 1,aC 11 1 4,au 12 1 11,aN .mul 13 10 12,ab 14 2,aN .add 15 13 14,ab 16 3,cL 17 1 9 15,bJ 1 17 16]])
def ahy:List bK:=[]
theorem axG (NN:Nat) (x:bf (aq.be M8)):wJ NN [] aj8 ahy M8 QF YT x=L8 NN x:=by kernel_rfl
theorem aue:cG pX 57 aj8.er ahy 4=true:=by decide+kernel
theorem BR:rM pX 57 QF yN.MM/\cc pX 57=true:=
  zD (args:=M8) (mu:=QF) (aH:=YT) (aB.nil) cU aue qQ fun x y h=>(axG aI x).trans (apN x y h)
def aeB:aE:=⟨54,NY,awZ,ZF,Ai⟩
def akV:bN:=
 (aj [ah [dF 2 4 0,du 4 [zX,zX,.nil iX]],ah [aC 8 0 2,au 9 1 8,aC 10 2 2,au 11 1 10,bD 12 51 [9,11],du 5 [zX,zX,.nil iX],bJ 3 5 12],aj [ah [cz 6 0],.join ⟨[aw 5 5,aw 4 4],[az 4 [vX,vX,fX 706 1],az 5 [vX,vX,fX 707 1],aF 706,aF 707]⟩ [2,4,5,700,701,706,707] [aO 4 2 706,aO 5 2 707] (.block 0 (.loop 0 ⟨[ar 1,aw 2 2,aw 4 4,aw 5 5,ar 6],[az 2 [vX,vX,vX,bL],az 4 [vX,vX,fX 700 1],az 5 [vX,vX,fX 701 1],aF 700,aF 701]⟩ [2,4,13000,5,700,701,704,705] [aO 4 2 700,aO 5 2 701] (aj [aj [ah [ab 13 6,aC 14 0 2,au 15 1 14,aN .lss 16 13 15],dQ 16 0],.join ⟨[ar 6,ar 1,aw 2 2,aw 4 4,aw 5 5],[az 2 [vX,vX,vX,bL],az 4 [vX,vX,fX 704 1],az 5 [vX,vX,fX 705 1],aF 704,aF 705]⟩ [2,4,5,702,703,704,705] [aO 4 2 704,aO 5 2 705] (.block 1 (aj [ah [cz 7 0],.block 2 (.loop 0 ⟨[ar 1,aw 2 2,aw 4 4,aw 5 5,ar 6,ar 7],[az 2 [vX,vX,vX,bL],az 4 [vX,vX,fX 702 1],az 5 [vX,vX,fX 703 1],aF 702,aF 703]⟩ [2,4,5,700,701,702,703] [aO 4 2 702,aO 5 2 703] (aj [aj [ah [ab 19 7,aC 20 2 2,au 21 1 20,aN .lss 22 19 21],dQ 22 2],.block 3 (.dB true [bj 25 3 5,ab 26 6,ab 27 7,bj 28 4 2,ab 29 6,ab 30 1,ab 31 7,bD 32 31 [28,29,30,31],oX 33 (.g7 .aZ 57 [25,26,27,32])]),ah [ab 23 7,aQ .add 24 23 1,ab 7 24]]))])),ah [ab 17 6,aQ .add 18 17 1,ab 6 18]])))],ah [bj 34 3 5,bJ 3 4 34],.ret])
def aim:List bK:=[.cell 4 3 true]
theorem ayv (NN:Nat) (x:bf (aq.be NY)):eA NN [C7,Po,yN] akV aim NY ZF x=Tc NN x:=by kernel_rfl
theorem au2:cG pX 54 akV.er aim 2=true:=by decide+kernel
theorem azW:dP pX 54 aeB.M/\cc pX 54=true:=
  eK (args:=NY) (aH:=ZF) (aB.cons Ht<|aB.cons Ye<|aB.oP BR<|aB.nil) cU au2 Ai fun x y h=>(ayv aI x).trans (aqD x y h)
def aev:aE:=⟨53,NQ,awR,Zx,E3⟩
def akN:bN:=
 (aj [ah [dF 1 3 0,du 2 [zX,zX,.nil iX]],ah [aC 6 1 1,au 7 1 6,aC 8 0 1,au 9 1 8,bD 10 51 [7,9],du 3 [zX,zX,.nil iX],bJ 3 3 10],aj [ah [cz 4 0],.join ⟨[aw 3 3,aw 2 2],[az 2 [vX,vX,fX 706 1],az 3 [vX,vX,fX 707 1],aF 706,aF 707]⟩ [1,2,3,700,701,706,707] [aO 2 2 706,aO 3 2 707] (.block 0 (.loop 0 ⟨[aw 1 1,aw 2 2,aw 3 3,ar 4],[az 1 [vX,vX,bL],az 2 [vX,vX,fX 700 1],az 3 [vX,vX,fX 701 1],aF 700,aF 701]⟩ [1,2,11000,3,700,701,704,705] [aO 2 2 700,aO 3 2 701] (aj [aj [ah [ab 11 4,aC 12 0 1,au 13 1 12,aN .lss 14 11 13],dQ 14 0],.join ⟨[ar 4,aw 1 1,aw 2 2,aw 3 3],[az 1 [vX,vX,bL],az 2 [vX,vX,fX 704 1],az 3 [vX,vX,fX 705 1],aF 704,aF 705]⟩ [1,2,3,702,703,704,705] [aO 2 2 704,aO 3 2 705] (.block 1 (aj [ah [cz 5 0],.block 2 (.loop 0 ⟨[aw 1 1,aw 2 2,aw 3 3,ar 4,ar 5],[az 1 [vX,vX,bL],az 2 [vX,vX,fX 702 1],az 3 [vX,vX,fX 703 1],aF 702,aF 703]⟩ [1,2,3,700,701,702,703] [aO 2 2 702,aO 3 2 703] (aj [aj [ah [ab 17 5,aC 18 1 1,au 19 1 18,aN .lss 20 17 19],dQ 20 2],.block 3 (.dB true [bj 23 3 3,ab 24 5,ab 25 4,bj 26 3 1,ab 27 4,ab 28 5,bD 29 30 [26,27,28],oX 30 (.g7 .aZ 57 [23,24,25,29])]),ah [ab 21 5,aQ .add 22 21 1,ab 5 22]]))])),ah [ab 15 4,aQ .add 16 15 1,ab 4 16]])))],ah [bj 31 3 3,bJ 3 2 31],.ret])
def aid:List bK:=[.cell 2 3 true]
theorem ayn (NN:Nat) (x:bf (aq.be NQ)):eA NN [C7,yM,yN] akN aid NQ Zx x=Ml NN x:=by kernel_rfl
theorem auU:cG pX 53 akN.er aid 1=true:=by decide+kernel
theorem azQ:dP pX 53 aev.M/\cc pX 53=true:=
  eK (args:=NQ) (aH:=Zx) (aB.cons Ht<|aB.cons BQ<|aB.oP BR<|aB.nil) cU auU E3 fun x y h=>(ayn aI x).trans (aqv x y h)
def Pr:aE:=⟨52,NL,awN,Zt,vz⟩
def akJ:bN:=
 (aj [ah [dF 4 3 1,dF 5 3 2,du 6 [zX,zX,.nil iX]],ah [aC 12 0 4,au 13 1 12,aC 14 1 5,au 15 1 14,bD 16 51 [13,15],du 7 [zX,zX,.nil iX],bJ 3 7 16],aj [ah [cz 8 0],.join ⟨[aw 7 7,aw 6 6],[az 6 [vX,vX,fX 712 1],az 7 [vX,vX,fX 713 1],aF 712,aF 713]⟩ [4,5,6,7,700,701,712,713] [aO 6 2 712,aO 7 2 713] (.block 0 (.loop 0 ⟨[ar 0,aw 4 4,aw 5 5,aw 6 6,aw 7 7,ar 8],[az 4 [vX,vX,bL],az 5 [vX,vX,bL],az 6 [vX,vX,fX 700 1],az 7 [vX,vX,fX 701 1],aF 700,aF 701]⟩ [4,5,6,17000,7,700,701,710,711] [aO 6 2 700,aO 7 2 701] (aj [aj [ah [ab 17 8,aC 18 0 4,au 19 1 18,aN .lss 20 17 19],dQ 20 0],.join ⟨[ar 8,ar 0,aw 4 4,aw 5 5,aw 6 6,aw 7 7],[az 4 [vX,vX,bL],az 5 [vX,vX,bL],az 6 [vX,vX,fX 710 1],az 7 [vX,vX,fX 711 1],aF 710,aF 711]⟩ [4,5,6,7,702,703,710,711] [aO 6 2 710,aO 7 2 711] (.block 1 (aj [ah [cz 9 0],.block 2 (.loop 0 ⟨[ar 0,aw 4 4,aw 5 5,aw 6 6,aw 7 7,ar 8,ar 9],[az 4 [vX,vX,bL],az 5 [vX,vX,bL],az 6 [vX,vX,fX 702 1],az 7 [vX,vX,fX 703 1],aF 702,aF 703]⟩ [4,5,6,7,700,701,702,703,708,709] [aO 6 2 702,aO 7 2 703] (aj [aj [ah [ab 23 9,aC 24 1 5,au 25 1 24,aN .lss 26 23 25],dQ 26 2],.join ⟨[ar 9,ar 0,aw 4 4,aw 5 5,aw 6 6,aw 7 7,ar 8],[az 4 [vX,vX,bL],az 5 [vX,vX,bL],az 6 [vX,vX,fX 708 1],az 7 [vX,vX,fX 709 1],aF 708,aF 709]⟩ [4,5,6,7,706,707,708,709] [aO 6 2 708,aO 7 2 709] (.block 3 (aj [ah [cz 10 0],aj [ah [cz 11 0],.join ⟨[ar 10,ar 9,ar 0,aw 4 4,aw 5 5,aw 6 6,aw 7 7,ar 8],[az 4 [vX,vX,bL],az 5 [vX,vX,bL],az 6 [vX,vX,fX 706 1],az 7 [vX,vX,fX 707 1],aF 706,aF 707]⟩ [4,5,6,7,704,705,706,707] [aO 6 2 706,aO 7 2 707] (.block 4 (.loop 0 ⟨[ar 0,aw 4 4,aw 5 5,aw 6 6,aw 7 7,ar 8,ar 9,ar 10,ar 11],[az 4 [vX,vX,bL],az 5 [vX,vX,bL],az 6 [vX,vX,fX 704 1],az 7 [vX,vX,fX 705 1],aF 704,aF 705]⟩ [4,5,6,7,702,703,704,705] [aO 6 2 704,aO 7 2 705] (aj [aj [ah [ab 29 11,aC 30 1 4,au 31 1 30,aN .lss 32 29 31],dQ 32 4],.block 5 (.dB true [ab 35 10,bj 36 3 4,ab 37 8,ab 38 11,bD 39 30 [36,37,38],bj 40 3 5,ab 41 11,ab 42 9,bD 43 30 [40,41,42],aN .mul 44 39 43,aN .add 45 35 44,ab 46 0,aN .rem 47 45 46,ab 10 47]),ah [ab 33 11,aQ .add 34 33 1,ab 11 34]])))],ah [bj 48 3 7,ab 49 8,ab 50 9,ab 51 10,oX 52 (.g7 .aZ 57 [48,49,50,51])]])),ah [ab 27 9,aQ .add 28 27 1,ab 9 28]]))])),ah [ab 21 8,aQ .add 22 21 1,ab 8 22]])))],ah [bj 53 3 7,bJ 3 6 53],.ret])
def ah9:List bK:=[.cell 6 3 true]
theorem ayj (NN:Nat) (x:bf (aq.be NL)):eA NN [C7,yM,yN] akJ ah9 NL Zt x=Mj NN x:=by kernel_rfl
theorem auQ:cG pX 52 akJ.er ah9 3=true:=by decide+kernel
theorem Yh:dP pX 52 Pr.M/\cc pX 52=true:=
  eK (args:=NL) (aH:=Zt) (aB.cons Ht<|aB.cons BQ<|aB.oP BR<|aB.nil) cU auQ vz fun x y h=>(ayj aI x).trans (aqr x y h)
def Uy:aE:=⟨16,M3,awf,YO,Ac⟩
def aj3:bN:=
 (aj [ah [dF 2 2 0,dF 3 2 1,cz 4 0,eu 5],aj [ah [bj 16 2 2,bj 17 2 3,bD 18 50 [16,17],gR 19 18],.cond 19 (aj [ah [cz 4 0,eu 5],.ret]) .skip],ah [aC 20 0 2,au 21 1 20,ab 6 21],ah [oX 22 (.gy iX [(kX 1)]),oX 23 (.build [zX,zX,.nil iX] [(0,1,(kX 1)),(1,1,(kX 1)),(2,1,22)]),du 7 [zX,zX,.nil iX],bJ 3 7 23],aj [ah [aC 24 1 2,au 25 1 24,dk 26 25,cz 27 0],.join ⟨[aw 7 7],[az 7 [vX,vX,fX 711 1],aF 711]⟩ [3,7,700,711] [aO 7 2 711] (.block 0 (.loop 0 ⟨[aw 3 3,ar 6,aw 7 7,(25,.one (fF)),ar 26,ar 27],[az 3 [vX,fF],az 7 [vX,vX,fX 700 1],aF 700]⟩ [2,3,22,7,700,710] [aO 7 2 700] (aj [ah [aN .lss 28 27 26],dQ 28 0,.join ⟨[ar 27,aw 3 3,ar 6,aw 7 7,(25,.one (fF)),ar 26],[az 3 [vX,fF],az 7 [vX,vX,fX 710 1],aF 710]⟩ [3,7,11,708,709,710] [aO 7 2 710] (.block 1 (aj [ah [ab 29 27,cL 30 4 25 27,bj 31 4 30,du 9 [zX,zX,zX,.nil iX],ab 8 29,bJ 4 9 31],ah [aC 32 1 3,au 33 1 32,ab 34 8,cL 35 4 33 34,bj 36 4 35,du 10 [zX,zX,zX,.nil iX],bJ 4 10 36],ah [aC 37 2 9,au 38 1 37,aC 39 2 10,au 40 1 39,bD 41 51 [38,40],du 11 [zX,zX,.nil iX],bJ 3 11 41],aj [ah [cz 12 0],.join ⟨[aw 11 11,ar 27,aw 3 3,ar 6,aw 7 7,(25,.one (fF)),ar 26],[az 3 [vX,fF],az 7 [vX,vX,fX 708 1],az 11 [vX,vX,fX 709 1],aF 708,aF 709]⟩ [3,7,9,10,11,701,702,708,709] [aO 7 2 708,aO 11 2 709] (.block 2 (.loop 0 ⟨[aw 3 3,ar 6,aw 7 7,aw 9 9,aw 10 10,aw 11 11,ar 12,(25,.one (fF)),ar 26,ar 27],[az 3 [vX,fF],az 7 [vX,vX,fX 701 1],az 9 [vX,vX,vX,bL],az 10 [vX,vX,vX,bL],az 11 [vX,vX,fX 702 1],aF 701,aF 702]⟩ [3,7,9,10,42000,11,700,701,702,706,707] [aO 7 2 701,aO 11 2 702] (aj [aj [ah [ab 42 12,aC 43 1 9,au 44 1 43,aN .lss 45 42 44],dQ 45 2],.join ⟨[ar 12,aw 3 3,ar 6,aw 7 7,aw 9 9,aw 10 10,aw 11 11,(25,.one (fF)),ar 26,ar 27],[az 3 [vX,fF],az 7 [vX,vX,fX 706 1],az 9 [vX,vX,vX,bL],az 10 [vX,vX,vX,bL],az 11 [vX,vX,fX 707 1],aF 706,aF 707]⟩ [3,7,9,10,11,703,704,705,706,707] [aO 7 2 706,aO 11 2 707] (.block 3 (aj [.dB true [ab 48 6,bj 49 4 9,ab 50 12,bD 51 54 [49,50],bD 52 53 [51],bj 53 3 7,bD 54 52 [48,52,53],du 13 [zX,zX,.nil iX],bJ 3 13 54],.dB true [ab 55 6,bj 56 3 13,bj 57 4 10,ab 58 12,bD 59 54 [57,58],bD 60 52 [55,56,59],bJ 3 13 60],ah [aC 61 2 13,au 62 1 61,dk 63 62,cz 64 0],.block 4 (.loop 0 ⟨[aw 3 3,ar 6,aw 7 7,aw 9 9,aw 10 10,aw 11 11,ar 12,(25,.one (fF)),ar 26,ar 27,de 62 705 1,ar 63,ar 64],[az 3 [vX,fF],az 7 [vX,vX,fX 703 1],az 9 [vX,vX,vX,bL],az 10 [vX,vX,vX,bL],az 11 [vX,vX,fX 704 1],aF 703,aF 704,aF 705]⟩ [3,7,9,10,11,52000,53000,55000,13,60000,61000,701,702,703,704,705] [aO 7 2 703,aO 11 2 704,dn 62 705] (aj [ah [aN .lss 65 64 63],dQ 65 4,.block 5 (aj [ah [ab 66 64,cL 67 1 62 64,au 68 1 67,ab 14 66,ab 15 68],.dB true [aC 69 2 11,au 70 1 69,ab 71 14,aC 72 2 11,au 73 1 72,ab 74 14,cL 75 1 73 74,au 76 1 75,ab 77 15,aN .add 78 76 77,ab 79 6,aN .rem 80 78 79,cL 81 1 70 71,bJ 1 81 80]]),ah [aQ .add 82 64 1,ab 64 82]]))])),ah [ab 46 12,aQ .add 47 46 1,ab 12 47]])))],ah [bj 83 3 11,bJ 3 7 83]])),ah [aQ .add 84 27 1,ab 27 84]])))],ah [aC 85 2 7,au 86 1 85,iZ 87 1 86 0,au 88 1 87,ab 4 88,pA 5],.ret])
def aht:List bK:=[.tmp 4,.tmp 5]
theorem axB (NN:Nat) (x:bf (aq.be M3)):eA NN [aey,C7,aeB,aev,Pr] aj3 aht M3 YO x=Sz NN x:=by kernel_rfl
theorem at9:cG pX 16 aj3.er aht 2=true:=by decide+kernel
theorem ai1:dP pX 16 Uy.M/\cc pX 16=true:=
  eK (args:=M3) (aH:=YO) (aB.cons azT<|aB.cons Ht<|aB.cons azW<|aB.cons azQ<|aB.cons Yh<|aB.nil) cU at9 Ac fun x y h=>(axB aI x).trans (apI x y h)
def ad9:aE:=⟨15,Nb,awk,YW,Cr⟩
def akb:bN:=
 (aj [ah [dF 4 2 0,dF 6 3 2,dF 7 2 3,cz 8 0,eu 9],ah [bj 13 2 7,ab 14 1,bj 15 3 6,bD 16 9 [13,14,15],ab 12 16,gW 17 0 12,gW 18 1 12,du 10 [zX,.nil gX],bJ 2 10 17,ab 11 18],aj [ah [ab 19 11,gR 20 19],.cond 20 (aj [ah [cz 8 0,eu 9],.ret]) .skip],ah [bj 21 2 4,bj 22 2 10,bD 23 16 [21,22],gW 24 0 23,gW 25 1 23,ab 8 24,ab 9 25],.ret])
def ahB:List bK:=[.tmp 8,.tmp 9]
theorem axJ (NN:Nat) (x:bf (aq.be Nb)):eA NN [Ux,Uy] akb ahB Nb YW x=SE NN x:=by kernel_rfl
theorem auh:cG pX 15 akb.er ahB 4=true:=by decide+kernel
theorem azu:dP pX 15 ad9.M/\cc pX 15=true:=
  eK (args:=Nb) (aH:=YW) (aB.cons ai0<|aB.cons ai1<|aB.nil) cU auh Cr fun x y h=>(axJ aI x).trans (apQ x y h)
def adY:aE:=⟨103,MR,av8,YH,Cm⟩
def ajW:bN:=
 (aj [ah [eu 2],ah [ab 3 0,ab 4 0,aN .neq 5 3 4,ab 2 5],.ret])
def ahm:List bK:=[.tmp 2]
theorem axu (NN:Nat) (x:bf (aq.be MR)):eA NN [] ajW ahm MR YH x=Su NN x:=by kernel_rfl
theorem at2:cG pX 103 ajW.er ahm 1=true:=by decide+kernel
theorem azm:dP pX 103 adY.M/\cc pX 103=true:=
  eK (args:=MR) (aH:=YH) (aB.nil) cU at2 Cm fun x y h=>(axu aI x).trans (apA x y h)
def Uw:aE:=⟨93,MQ,av7,YG,Io⟩
def ajV:bN:=
 (aj [ah [eu 4],ah [ab 5 0,bD 6 103 [5],ab 7 6,bz 7 (ab 8 1),bz 7 (bD 9 103 [8]),bz 7 (gR 10 9),gD 11 7 10,ab 12 11,bA 12 (ab 13 0),bA 12 (ab 14 1),bA 12 (aN .lss 15 13 14),gh 16 12 15,ab 4 16],.ret])
def ahl:List bK:=[.tmp 4]
theorem axt (NN:Nat) (x:bf (aq.be MQ)):eA NN [adY] ajV ahl MQ YG x=Ss NN x:=by kernel_rfl
theorem at1:cG pX 93 ajV.er ahl 2=true:=by decide+kernel
theorem aiZ:dP pX 93 Uw.M/\cc pX 93=true:=
  eK (args:=MQ) (aH:=YG) (aB.cons azm<|aB.nil) cU at1 Io fun x y h=>(axt aI x).trans (apz x y h)
def aeI:aE:=⟨87,N4,QN,ZM,Ak⟩
def ak2:bN:=
 (aj [ah [ab 8 1,aQ .add 9 8 1,ab 6 9],.block 0 (.loop 0 ⟨[de 0 1000000 1,ar 1,ar 2,ar 6],[(1000000,.row false .aZ iX)]⟩ [1000000,700] [dn 0 700] (aj [aj [ah [ab 10 6,ab 11 2,aN .lss 12 10 11],dQ 12 0],.join ⟨[ar 6,de 0 1000000 1,ar 1,ar 2],[(1000000,.row false .aZ iX)]⟩ [1000000,702] [dn 0 702] (.block 1 (aj [ah [ab 15 6,ab 7 15],.block 2 (.loop 0 ⟨[de 0 1000000 1,ar 1,ar 2,ar 6,ar 7],[(1000000,.row false .aZ iX)]⟩ [1000000,701] [dn 0 701] (aj [aj [.dB true [ab 16 7,ab 17 1,aN .gtr 18 16 17,ab 19 18,bz 19 (ab 20 0),bz 19 (ab 21 7),bz 19 (cL 22 1 20 21),bz 19 (au 23 1 22),bz 19 (ab 24 0),bz 19 (ab 25 7),bz 19 (aQ .sub 26 25 1),bz 19 (cL 27 1 24 26),bz 19 (au 28 1 27),bz 19 (bD 29 93 [23,28]),gD 30 19 29],dQ 30 2],.block 3 (.dB true [ab 33 0,ab 34 7,ab 35 0,ab 36 7,aQ .sub 37 36 1,ab 38 0,ab 39 7,aQ .sub 40 39 1,cL 41 1 38 40,au 42 1 41,ab 43 0,ab 44 7,cL 45 1 43 44,au 46 1 45,cL 47 1 33 34,bJ 1 47 42,cL 48 1 35 37,bJ 1 48 46]),ah [ab 31 7,aQ .sub 32 31 1,ab 7 32]]))])),ah [ab 13 6,aQ .add 14 13 1,ab 6 14]]))])
def ait:List bK:=[]
theorem ayC (NN:Nat) (x:bf (aq.be N4)):wJ NN [Uw] ak2 ait N4 QN ZM x=Te NN x:=by kernel_rfl
theorem au9:cG pX 87 ak2.er ait 3=true:=by decide+kernel
theorem az4:rM pX 87 QN aeI.MM/\cc pX 87=true:=
  zD (args:=N4) (mu:=QN) (aH:=ZM) (aB.cons aiZ<|aB.nil) cU au9 Ak fun x y h=>(ayC aI x).trans (aqK x y h)
def aeJ:aE:=⟨85,N5,QO,ZN,Fa⟩
def ak3:bN:=
 (aj [ah [pA 8],ah [pA 9],.block 0 (.loop 0 ⟨[de 0 1000000 1,ar 1,ar 2,ar 3,(8,.one (.c (.v (.bool)))),(9,.one (.c (.v (.bool))))],[(1000000,.row false .aZ iX)]⟩ [1000000,700] [dn 0 700] (.block 1 (aj [ah [ab 19 2,ab 20 1,aN .sub 21 19 20,ab 10 21],aj [ah [ab 22 10,aQ .leq 23 22 12],.cond 23 (aj [ah [ab 24 0,ab 25 1,ab 26 2,oX 27 (.g7 .aZ 87 [24,25,26])],.ret]) .skip],aj [ah [ab 28 3,aQ .eql 29 28 0],.cond 29 (aj [ah [ab 30 0,ab 31 1,ab 32 2,bD 33 88 [30,31,32]],.ret]) .skip],aj [ah [ab 34 8,gR 35 34],.join ⟨[(9,.one (.c (.v (.bool)))),(8,.one (.c (.v (.bool)))),ar 10,ar 2,de 0 1000000 1,ar 1,ar 3],[(1000000,.row false .aZ iX)]⟩ [1000000,701] [dn 0 701] (.cond 35 (aj [ah [ab 36 0,ab 37 1,ab 38 2,bD 39 89 [36,37,38]],ah [ab 40 3,aQ .sub 41 40 1,ab 3 41]]) .skip)],ah [ab 43 0,ab 44 1,ab 45 2,bD 46 90 [43,44,45],ab 42 46,gW 47 0 42,gW 48 1 42,ab 11 47,ab 12 48],aj [ah [ab 49 12,aQ .eql 50 49 2],.join ⟨[ar 12,(9,.one (.c (.v (.bool)))),(8,.one (.c (.v (.bool)))),ar 11,ar 10,ar 2,de 0 1000000 1,ar 1,ar 3],[(1000000,.row false .aZ iX)]⟩ [1000000,702] [dn 0 702] (.cond 50 (aj [ah [ab 51 0,ab 52 1,ab 53 2,bD 54 91 [51,52,53]],ah [ab 55 2,aQ .sub 56 55 1,ab 57 11,ab 58 1,aN .sub 59 57 58,aN .sub 60 56 59,ab 11 60],ah [cz 12 1]]) .skip)],aj [ah [ab 61 8,ab 62 61,bz 62 (ab 63 9),gD 64 62 63,ab 65 64,bz 65 (ab 66 12),bz 65 (aQ .eql 67 66 1),gD 68 65 67],.join ⟨[(9,.one (.c (.v (.bool)))),(8,.one (.c (.v (.bool)))),ar 11,ar 10,ar 2,de 0 1000000 1,ar 1,ar 3],[(1000000,.row false .aZ iX)]⟩ [1000000,703] [dn 0 703] (.cond 68 (aj [ah [ab 69 0,ab 70 1,ab 71 2,bD 72 92 [69,70,71]],.cond 72 .ret .skip]) .skip)],aj [.dB true [ab 73 1,aQ .gtr 74 73 0,ab 75 74,bz 75 (ab 76 0),bz 75 (ab 77 1),bz 75 (aQ .sub 78 77 1),bz 75 (cL 79 1 76 78),bz 75 (au 80 1 79),bz 75 (ab 81 0),bz 75 (ab 82 11),bz 75 (cL 83 1 81 82),bz 75 (au 84 1 83),bz 75 (bD 85 93 [80,84]),bz 75 (gR 86 85),gD 87 75 86],.cond 87 (aj [ah [ab 88 0,ab 89 1,ab 90 2,ab 91 11,bD 92 94 [88,89,90,91],ab 13 92],ah [ab 93 13,ab 1 93],.exit 1]) .skip],ah [ab 95 0,ab 96 1,ab 97 2,ab 98 11,bD 99 95 [95,96,97,98],ab 94 99,gW 100 0 94,gW 101 1 94,ab 14 100,ab 15 101],ah [ab 102 15,ab 9 102],ah [ab 103 14,ab 104 1,aN .sub 105 103 104,ab 106 2,ab 107 14,aN .sub 108 106 107,ab 16 105,ab 17 108],ah [ab 109 10,aQ .quo 110 109 8,ab 18 110],ah [ab 111 16,ab 112 17,aN .lss 113 111 112],.cond 113 (aj [ah [ab 114 16,ab 115 18,aN .geq 116 114 115,ab 8 116],ah [ab 117 0,ab 118 1,ab 119 14,ab 120 3,oX 121 (.g7 .aZ 85 [117,118,119,120])],ah [ab 122 14,aQ .add 123 122 1,ab 1 123]]) (aj [ah [ab 124 17,ab 125 18,aN .geq 126 124 125,ab 8 126],ah [ab 127 0,ab 128 14,aQ .add 129 128 1,ab 130 2,ab 131 3,oX 132 (.g7 .aZ 85 [127,129,130,131])],ah [ab 133 14,ab 2 133]])])))])
def aiu:List bK:=[]
theorem ayD (NN:Nat) (x:bf (aq.be N5)):wJ NN [aeI,Uw] ak3 aiu N5 QO ZN x=Tf NN x:=by kernel_rfl
theorem ava:cG pX 85 ak3.er aiu 4=true:=by decide+kernel
theorem az5:rM pX 85 QO aeJ.MM/\cc pX 85=true:=
  zD (args:=N5) (mu:=QO) (aH:=ZN) (aB.oP az4<|aB.cons aiZ<|aB.nil) cU ava Fa fun x y h=>(ayD aI x).trans (aqL x y h)
def aeH:aE:=⟨80,N3,QM,ZL,E9⟩
def ak1:bN:=
 (aj [ah [ab 3 0,dk 4 3,ab 2 4],ah [ab 5 0,ab 6 2,ab 7 2,oX 8 (.conv .u64 7),bD 9 86 [8],oX 10 (.g7 .aZ 85 [5,(kX 0),6,9])]])
def ais:List bK:=[]
theorem ayB (NN:Nat) (x:bf (aq.be N3)):wJ NN [aeG,aeJ] ak1 ais N3 QM ZL x=Td NN x:=by kernel_rfl
theorem au8:cG pX 80 ak1.er ais 1=true:=by decide+kernel
theorem az3:rM pX 80 QM aeH.MM/\cc pX 80=true:=
  zD (args:=N3) (mu:=QM) (aH:=ZL) (aB.cons az2<|aB.oP az5<|aB.nil) cU au8 E9 fun x y h=>(ayB aI x).trans (aqJ x y h)
def aeA:aE:=⟨77,NW,awX,ZD,E7⟩
def akT:bN:=
 (aj [ah [mM 2],ah [ab 4 0,bD 5 68 [4],ab 3 5],ah [ab 6 3,oX 7 (.g7 .aZ 80 [6])],ah [ab 8 3,ab 2 8],.ret])
def aik:List bK:=[.tmp 2]
theorem ayt (NN:Nat) (x:bf (aq.be NW)):eA NN [yO,aeH] akT aik NW ZD x=Ta NN x:=by kernel_rfl
theorem au0:cG pX 77 akT.er aik 1=true:=by decide+kernel
theorem azV:dP pX 77 aeA.M/\cc pX 77=true:=
  eK (args:=NW) (aH:=ZD) (aB.cons BS<|aB.oP az3<|aB.nil) cU au0 E7 fun x y h=>(ayt aI x).trans (aqB x y h)
def aes:aE:=⟨76,NM,awO,Zu,E1⟩
def akK:bN:=
 (aj [ah [dF 3 3 0,dF 4 3 1,du 6 [.nil iX,.nil iX,.nil iX]],.dB true [ab 12 2,bD 13 68 [12],ab 14 2,dk 15 14,oX 16 (.kv .aZ iX 8 (0:Int) 15 15),oX 17 (.build [.nil iX,.nil iX,.nil iX] [(0,1,13),(1,1,16)]),du 7 [.nil iX,.nil iX,.nil iX],bJ 3 7 17],aj [ah [ab 18 2,dk 19 18,cz 20 0],.join ⟨[eX 2,aw 7 7,aw 6 6,aw 4 4,aw 3 3],[az 3 [vX,vX,vX],az 4 [bL,bL,bL],az 6 [fX 706 1,fX 707 1,fX 708 1],az 7 [fX 709 1,fX 710 1,fX 711 1],aF 706,aF 707,aF 708,aF 709,aF 710,aF 711]⟩ [3,4,6,7,700,701,702,703,704,705,706,707,708,709,710,711] [aO 6 0 706,aO 6 1 707,aO 6 2 708,aO 7 0 709,aO 7 1 710,aO 7 2 711] (.block 0 (.loop 0 ⟨[eX 2,aw 3 3,aw 4 4,aw 6 6,aw 7 7,eX 18,ar 19,ar 20],[az 3 [vX,vX,vX],az 4 [bL,bL,bL],az 6 [fX 700 1,fX 701 1,fX 702 1],az 7 [fX 703 1,fX 704 1,fX 705 1],aF 700,aF 701,aF 702,aF 703,aF 704,aF 705]⟩ [3,4,6,14000,16,7,700,701,702,703,704,705] [aO 6 0 700,aO 6 1 701,aO 6 2 702,aO 7 0 703,aO 7 1 704,aO 7 2 705] (aj [ah [aN .lss 21 20 19],dQ 21 0,.block 1 (aj [ah [ab 22 20,cL 23 1 18 20,au 24 1 23,ab 8 22,ab 9 24],.dB true [aC 25 1 7,au 26 1 25,ab 27 8,aC 28 1 4,au 29 1 28,bj 30 3 4,ab 31 9,bD 32 72 [30,31],cL 33 1 29 32,au 34 1 33,cL 35 1 26 27,bJ 1 35 34]]),ah [aQ .add 36 20 1,ab 20 36]])))],ah [bj 37 3 4,ab 38 2,bD 39 42 [37,38],ab 10 39],ah [ab 40 2,dk 41 40,oX 42 (.kv .aZ iX 8 (0:Int) 41 41),ab 11 42],.block 2 (.loop 0 ⟨[aw 3 3,aw 4 4,aw 6 6,aw 7 7,de 10 718 1,de 11 719 1],[az 3 [vX,vX,vX],az 4 [bL,bL,bL],az 6 [fX 712 1,fX 713 1,fX 714 1],az 7 [fX 715 1,fX 716 1,fX 717 1],aF 712,aF 713,aF 714,aF 715,aF 716,aF 717,aF 718,aF 719]⟩ [3,4,6,7,40000,42,51,706,707,708,709,710,711,712,713,714,715,716,717,718,719] [aO 6 0 712,aO 6 1 713,aO 6 2 714,aO 7 0 715,aO 7 1 716,aO 7 2 717,dn 10 718,dn 11 719] (.block 3 (aj [.dB true [aC 43 2 7,au 44 1 43,bj 45 3 3,bj 46 3 4,ab 47 10,ab 48 11,bD 49 46 [47,48],oX 50 (.nX 45 [45,46,49]),oX 51 (.append true iX 8 44 50),aC 52 2 7,bJ 1 52 51],ah [aC 53 1 7,au 54 1 53,ab 55 11,oX 56 (.g7 .aZ 34 [54,55]),gR 57 56],.cond 57 (aj [ah [bj 58 3 7,bJ 3 6 58],.ret]) .skip])))])
def aia:List bK:=[.cell 6 3 true]
theorem ayk (NN:Nat) (x:bf (aq.be NM)):eA NN [yO,UA,UI,UD,UH,Pq] akK aia NM Zu x=S5 NN x:=by kernel_rfl
theorem auR:cG pX 76 akK.er aia 3=true:=by decide+kernel
theorem azN:dP pX 76 aes.M/\cc pX 76=true:=
  eK (args:=NM) (aH:=Zu) (aB.cons BS<|aB.cons ai3<|aB.cons ajb<|aB.cons ai6<|aB.jB aja<|aB.oP Yg<|aB.nil) cU auR E1 fun x y h=>(ayk aI x).trans (aqs x y h)
def aed:aE:=⟨56,Nh,awp,Y1,Ad⟩
def akg:bN:=
 (aj [ah [dF 2 3 0,dF 3 3 1,du 4 [.nil iX,.nil iX,.nil iX]],aj [ah [bj 5 3 2,bj 6 3 3,bD 7 35 [5,6],gR 8 7],.cond 8 (aj [ah [oX 9 (.build [.nil iX,.nil iX,.nil iX] []),bJ 3 4 9],.ret]) .skip],.dB true [bj 10 3 2,bj 11 3 3,aC 12 0 3,au 13 1 12,bD 14 77 [13],bD 15 76 [10,11,14],bJ 3 4 15],.ret])
def ahG:List bK:=[.cell 4 3 true]
theorem axO (NN:Nat) (x:bf (aq.be Nh)):eA NN [Jl,aeA,aes] akg ahG Nh Y1 x=SH NN x:=by kernel_rfl
theorem aum:cG pX 56 akg.er ahG 2=true:=by decide+kernel
theorem azy:dP pX 56 aed.M/\cc pX 56=true:=
  eK (args:=Nh) (aH:=Y1) (aB.cons Q4<|aB.cons azV<|aB.cons azN<|aB.nil) cU aum Ad fun x y h=>(axO aI x).trans (apV x y h)
def aeh:aE:=⟨55,Nu,awB,Ze,Ip⟩
def akt:bN:=
 (aj [ah [dF 2 3 0,dF 3 3 1,eu 4],ah [aC 5 0 2,au 6 1 5,aC 7 0 3,au 8 1 7,bD 9 75 [6,8],ab 10 9,bz 10 (aC 11 1 2),bz 10 (au 12 1 11),bz 10 (aC 13 1 3),bz 10 (au 14 1 13),bz 10 (bD 15 75 [12,14]),gD 16 10 15,ab 17 16,bz 17 (aC 18 2 2),bz 17 (au 19 1 18),bz 17 (aC 20 2 3),bz 17 (au 21 1 20),bz 17 (bD 22 75 [19,21]),gD 23 17 22,ab 4 23],.ret])
def ahT:List bK:=[.tmp 4]
theorem ax3 (NN:Nat) (x:bf (aq.be Nu)):eA NN [UE] akt ahT Nu Ze x=Md NN x:=by kernel_rfl
theorem auA:cG pX 55 akt.er ahT 2=true:=by decide+kernel
theorem azC:dP pX 55 aeh.M/\cc pX 55=true:=
  eK (args:=Nu) (aH:=Ze) (aB.cons ai7<|aB.nil) cU auA Ip fun x y h=>(ax3 aI x).trans (aqb x y h)
def aec:aE:=⟨17,Nf,awn,YZ,ER⟩
def ake:bN:=
 (aj [ah [dF 3 3 0,dF 4 3 1,dF 5 3 2,eu 6],.dB true [bj 7 3 3,bj 8 3 4,bD 9 35 [7,8],ab 10 9,bz 10 (bj 11 3 3),bz 10 (bj 12 3 5),bz 10 (bD 13 35 [11,12]),gD 14 10 13,ab 15 14,bz 15 (bj 16 3 3),bz 15 (bj 17 3 4),bz 15 (bD 18 56 [16,17]),bz 15 (bj 19 3 3),bz 15 (bj 20 3 5),bz 15 (bD 21 56 [19,20]),bz 15 (bD 22 55 [18,21]),gD 23 15 22,ab 6 23],.ret])
def ahE:List bK:=[.tmp 6]
theorem axM (NN:Nat) (x:bf (aq.be Nf)):eA NN [Jl,aed,aeh] ake ahE Nf YZ x=Mb NN x:=by kernel_rfl
theorem auk:cG pX 17 ake.er ahE 3=true:=by decide+kernel
theorem azx:dP pX 17 aec.M/\cc pX 17=true:=
  eK (args:=Nf) (aH:=YZ) (aB.cons Q4<|aB.cons azy<|aB.cons azC<|aB.nil) cU auk ER fun x y h=>(axM aI x).trans (apT x y h)
def aef:aE:=⟨81,Np,aww,Y9,ES⟩
def ako:bN:=
 (aj [ah [dF 1 3 0,du 2 [zX,zX,.nil iX]],.dB true [aC 3 0 1,au 4 1 3,aC 5 1 1,au 6 1 5,aC 7 2 1,au 8 1 7,bD 9 68 [8],oX 10 (.build [zX,zX,.nil iX] [(0,1,4),(1,1,6),(2,1,9)]),bJ 3 2 10],.ret])
def ahO:List bK:=[.cell 2 3 true]
theorem axY (NN:Nat) (x:bf (aq.be Np)):eA NN [yO] ako ahO Np Y9 x=SN NN x:=by kernel_rfl
theorem auu:cG pX 81 ako.er ahO 1=true:=by decide+kernel
theorem azA:dP pX 81 aef.M/\cc pX 81=true:=
  eK (args:=Np) (aH:=Y9) (aB.cons BS<|aB.nil) cU auu ES fun x y h=>(axY aI x).trans (ap6 x y h)
def ad7:aE:=⟨82,M9,QG,YU,EN⟩
def aj9:bN:=
 (aj [ah [dF 3 3 0],ah [cz 6 0],.block 0 (.loop 0 ⟨[ar 1,ar 2,aw 3 3,ar 6],[(1000000,.row false .aZ iX),az 3 [vX,vX,fX 1000000 1]]⟩ [1000000,3,700] [aO 3 2 700] (aj [aj [ah [ab 9 6,aC 10 1 3,au 11 1 10,aN .lss 12 9 11],dQ 12 0],.block 1 (aj [.dB true [bj 15 3 3,ab 16 1,ab 17 6,bD 18 30 [15,16,17],bj 19 3 3,ab 20 2,ab 21 6,bD 22 30 [19,20,21],ab 7 18,ab 8 22],ah [bj 23 3 3,ab 24 1,ab 25 6,ab 26 8,oX 27 (.g7 .aZ 57 [23,24,25,26])],ah [bj 28 3 3,ab 29 2,ab 30 6,ab 31 7,oX 32 (.g7 .aZ 57 [28,29,30,31])]]),ah [ab 13 6,aQ .add 14 13 1,ab 6 14]]))])
def ahz:List bK:=[]
theorem axH (NN:Nat) (x:bf (aq.be M9)):wJ NN [yM,yN] aj9 ahz M9 QG YU x=L9 NN x:=by kernel_rfl
theorem auf:cG pX 82 aj9.er ahz 3=true:=by decide+kernel
theorem azs:rM pX 82 QG ad7.MM/\cc pX 82=true:=
  zD (args:=M9) (mu:=QG) (aH:=YU) (aB.cons BQ<|aB.oP BR<|aB.nil) cU auf EN fun x y h=>(axH aI x).trans (apO x y h)
def aer:aE:=⟨83,NK,awM,Zs,E0⟩
def akI:bN:=
 (aj [ah [cz 4 0],ah [cz 5 1],aj [ah [ab 7 0,aQ .sub 8 7 2,ab 6 8],.join ⟨[ar 5],[]⟩ [] [] (.block 0 (.loop 0 ⟨[ar 0,ar 1,ar 5,ar 6],[]⟩ [] [] (aj [aj [ah [ab 9 6,aQ .gtr 10 9 0],dQ 10 0],.block 1 (aj [aj [ah [ab 13 6,aQ .and 14 13 1,aQ .eql 15 14 1],.join ⟨[ar 1,ar 6,ar 0,ar 5],[]⟩ [] [] (.cond 15 (ah [ab 16 5,ab 17 1,aN .mul 18 16 17,ab 19 0,aN .rem 20 18 19,ab 5 20]) .skip)],ah [ab 21 1,ab 22 1,aN .mul 23 21 22,ab 24 0,aN .rem 25 23 24,ab 1 25]]),ah [ab 11 6,oX 12 (.bin .shr 11 (.k (.one (.v (.int .u64) ((1:Int)))))),ab 6 12]])))],ah [ab 26 5,ab 4 26],.ret])
def ah8:List bK:=[.tmp 4]
theorem ayi (NN:Nat) (x:bf (aq.be NK)):eA NN [] akI ah8 NK Zs x=S4 NN x:=by kernel_rfl
theorem auP:cG pX 83 akI.er ah8 2=true:=by decide+kernel
theorem azM:dP pX 83 aer.M/\cc pX 83=true:=
  eK (args:=NK) (aH:=Zs) (aB.nil) cU auP E0 fun x y h=>(ayi aI x).trans (aqq x y h)
def ad6:aE:=⟨84,M6,QE,YR,Cq⟩
def aj6:bN:=
 (aj [ah [dF 5 3 0],ah [cz 10 0],.block 0 (.loop 0 ⟨[ar 1,ar 2,ar 3,ar 4,aw 5 5,ar 10],[(1000000,.row false .aZ iX),az 5 [vX,vX,fX 1000000 1]]⟩ [1000000,5,700] [aO 5 2 700] (aj [aj [ah [ab 11 10,aC 12 1 5,au 13 1 12,aN .lss 14 11 13],dQ 14 0],.block 1 (.dB true [bj 17 3 5,ab 18 2,ab 19 10,bj 20 3 5,ab 21 2,ab 22 10,bD 23 30 [20,21,22],ab 24 4,bj 25 3 5,ab 26 3,ab 27 10,bD 28 30 [25,26,27],aN .mul 29 24 28,aN .add 30 23 29,ab 31 1,aN .rem 32 30 31,oX 33 (.g7 .aZ 57 [17,18,19,32])]),ah [ab 15 10,aQ .add 16 15 1,ab 10 16]]))])
def ahw:List bK:=[]
theorem axE (NN:Nat) (x:bf (aq.be M6)):wJ NN [yM,yN] aj6 ahw M6 QE YR x=L6 NN x:=by kernel_rfl
theorem auc:cG pX 84 aj6.er ahw 5=true:=by decide+kernel
theorem azr:rM pX 84 QE ad6.MM/\cc pX 84=true:=
  zD (args:=M6) (mu:=QE) (aH:=YR) (aB.cons BQ<|aB.oP BR<|aB.nil) cU auc Cq fun x y h=>(axE aI x).trans (apL x y h)
def aet:aE:=⟨78,NO,awP,Zv,Cx⟩
def akL:bN:=
 (aj [ah [dF 3 3 1,du 4 [zX,zX,.nil iX],mM 5],ah [bj 14 3 3,bD 15 81 [14],du 6 [zX,zX,.nil iX],bJ 3 6 15],ah [mM 7],aj [ah [cz 8 0],.join ⟨[aw 6 6,de 7 726 1,aw 4 4],[az 4 [vX,vX,fX 724 1],az 6 [vX,vX,fX 725 1],aF 724,aF 725,aF 726]⟩ [4,6,700,701,702,724,725,726] [aO 4 2 724,aO 6 2 725,dn 7 726] (.block 0 (.loop 0 ⟨[ar 0,aw 4 4,aw 6 6,de 7 702 1,ar 8],[az 4 [vX,vX,fX 700 1],az 6 [vX,vX,fX 701 1],aF 700,aF 701,aF 702]⟩ [3,4,16000,6,700,701,702,721,722,723] [aO 4 2 700,aO 6 2 701,dn 7 702] (aj [aj [ah [ab 16 8,aC 17 1 6,au 18 1 17,aN .lss 19 16 18],dQ 19 0],.join ⟨[ar 8,ar 0,aw 4 4,aw 6 6,de 7 723 1],[az 4 [vX,vX,fX 721 1],az 6 [vX,vX,fX 722 1],aF 721,aF 722,aF 723]⟩ [4,6,99,100,706,707,708,718,719,721,722,723] [aO 4 2 721,aO 6 2 722,dn 7 723] (.block 1 (aj [ah [ab 22 7,dk 23 22,ab 9 23],ah [ab 24 9,ab 10 24],.join ⟨[ar 10,ar 9,de 7 708 1,ar 8,ar 0,aw 4 4,aw 6 6],[az 4 [vX,vX,fX 706 1],az 6 [vX,vX,fX 707 1],aF 706,aF 707,aF 708]⟩ [4,6,703,704,705,706,707,708] [aO 4 2 706,aO 6 2 707,dn 7 708] (.block 2 (.loop 0 ⟨[ar 0,aw 4 4,aw 6 6,de 7 705 1,ar 8,ar 9,ar 10],[az 4 [vX,vX,fX 703 1],az 6 [vX,vX,fX 704 1],aF 703,aF 704,aF 705]⟩ [4,6,700,701,702,703,704,705] [aO 4 2 703,aO 6 2 704,dn 7 705] (aj [aj [ah [ab 25 10,aC 26 0 6,au 27 1 26,aN .lss 28 25 27,ab 29 28,bz 29 (bj 30 3 6),bz 29 (ab 31 10),bz 29 (ab 32 8),bz 29 (bD 33 30 [30,31,32]),bz 29 (aQ .eql 34 33 0),gD 35 29 34],dQ 35 2],.block 3 (ah [ab 36 10,aQ .add 37 36 1,ab 10 37])]))),aj [ah [ab 38 10,aC 39 0 6,au 40 1 39,aN .eql 41 38 40],.cond 41 (.exit 1) .skip],ah [bj 42 3 6,ab 43 9,ab 44 10,oX 45 (.g7 .aZ 82 [42,43,44])],ah [ab 46 0,bj 47 3 6,ab 48 9,ab 49 8,bD 50 30 [47,48,49],bD 51 83 [46,50],ab 11 51],aj [ah [cz 12 0],.join ⟨[aw 6 6,aw 4 4,ar 0,ar 8,de 7 714 1,ar 9],[az 4 [vX,vX,fX 712 1],az 6 [vX,vX,fX 713 1],aF 712,aF 713,aF 714]⟩ [4,6,709,710,711,712,713,714] [aO 4 2 712,aO 6 2 713,dn 7 714] (.block 4 (.loop 0 ⟨[ar 0,aw 4 4,aw 6 6,de 7 711 1,ar 8,ar 9,ar 11,ar 12],[az 4 [vX,vX,fX 709 1],az 6 [vX,vX,fX 710 1],aF 709,aF 710,aF 711]⟩ [4,6,706,707,708,709,710,711] [aO 4 2 709,aO 6 2 710,dn 7 711] (aj [aj [ah [ab 52 12,aC 53 1 6,au 54 1 53,aN .lss 55 52 54],dQ 55 4],.block 5 (.dB true [bj 58 3 6,ab 59 9,ab 60 12,bj 61 3 6,ab 62 9,ab 63 12,bD 64 30 [61,62,63],ab 65 11,aN .mul 66 64 65,ab 67 0,aN .rem 68 66 67,oX 69 (.g7 .aZ 57 [58,59,60,68])]),ah [ab 56 12,aQ .add 57 56 1,ab 12 57]])))],aj [ah [cz 13 0],.join ⟨[de 7 720 1,ar 8,ar 0,aw 4 4,aw 6 6],[az 4 [vX,vX,fX 718 1],az 6 [vX,vX,fX 719 1],aF 718,aF 719,aF 720]⟩ [4,6,715,716,717,718,719,720] [aO 4 2 718,aO 6 2 719,dn 7 720] (.block 6 (.loop 0 ⟨[ar 0,aw 4 4,aw 6 6,de 7 717 1,ar 8,ar 9,ar 13],[az 4 [vX,vX,fX 715 1],az 6 [vX,vX,fX 716 1],aF 715,aF 716,aF 717]⟩ [4,6,712,713,714,715,716,717] [aO 4 2 715,aO 6 2 716,dn 7 717] (aj [aj [ah [ab 70 13,aC 71 0 6,au 72 1 71,aN .lss 73 70 72],dQ 73 6],.block 7 (aj [ah [ab 76 13,ab 77 9,aN .neq 78 76 77,ab 79 78,bz 79 (bj 80 3 6),bz 79 (ab 81 13),bz 79 (ab 82 8),bz 79 (bD 83 30 [80,81,82]),bz 79 (aQ .neq 84 83 0),gD 85 79 84],.cond 85 (.dB true [bj 86 3 6,ab 87 0,ab 88 13,ab 89 9,ab 90 0,bj 91 3 6,ab 92 13,ab 93 8,bD 94 30 [91,92,93],aN .sub 95 90 94,oX 96 (.g7 .aZ 84 [86,87,88,89,95])]) .skip]),ah [ab 74 13,aQ .add 75 74 1,ab 13 75]])))],ah [ab 97 7,ab 98 8,oX 99 (.gy iX [98]),oX 100 (.append true iX 8 97 99),ab 7 100]])),ah [ab 20 8,aQ .add 21 20 1,ab 8 21]])))],ah [bj 101 3 6,ab 102 7,bJ 3 4 101,ab 5 102],.ret])
def aib:List bK:=[.cell 4 3 true,.tmp 5]
theorem ayl (NN:Nat) (x:bf (aq.be NO)):eA NN [aef,yM,ad7,aer,yN,ad6] akL aib NO Zv x=Mk NN x:=by kernel_rfl
theorem auS:cG pX 78 akL.er aib 2=true:=by decide+kernel
theorem azO:dP pX 78 aet.M/\cc pX 78=true:=
  eK (args:=NO) (aH:=Zv) (aB.cons azA<|aB.cons BQ<|aB.oP azs<|aB.cons azM<|aB.oP BR<|aB.oP azr<|aB.nil) cU auS Cx fun x y h=>(ayl aI x).trans (aqt x y h)
def ad5:aE:=⟨58,M1,awe,YN,Cp⟩
def aj2:bN:=
 (aj [ah [dF 3 3 1,du 4 [zX,zX,.nil iX],du 5 [zX,zX,.nil iX],eu 6],aj [ah [ab 15 0,bj 16 3 3,bD 17 28 [15,16],gR 18 17],.cond 18 (aj [ah [oX 19 (.build [zX,zX,.nil iX] []),oX 20 (.build [zX,zX,.nil iX] []),bJ 3 4 19,bJ 3 5 20,eu 6],.ret]) .skip],ah [ab 22 0,bj 23 3 3,bD 24 78 [22,23],ab 21 24,gW 25 0 21,gW 26 1 21,du 7 [zX,zX,.nil iX],bJ 3 7 25,ab 8 26],ah [ab 27 8,dk 28 27,ab 9 28],ah [aC 29 0 3,au 30 1 29,ab 31 9,bD 32 51 [30,31],du 10 [zX,zX,.nil iX],bJ 3 10 32],aj [ah [cz 11 0],.join ⟨[aw 7 7,ar 9,aw 3 3,aw 10 10,aw 4 4,aw 5 5],[az 3 [vX,vX,bL],az 4 [vX,vX,fX 715 1],az 5 [vX,vX,fX 716 1],az 7 [vX,vX,fX 717 1],az 10 [vX,vX,fX 718 1],aF 715,aF 716,aF 717,aF 718]⟩ [3,4,5,7,10,700,701,702,703,704,715,716,717,718] [aO 4 2 715,aO 5 2 716,aO 7 2 717,aO 10 2 718] (.block 0 (.loop 0 ⟨[aw 3 3,aw 4 4,aw 5 5,aw 7 7,de 8 704 1,ar 9,aw 10 10,ar 11],[az 3 [vX,vX,bL],az 4 [vX,vX,fX 700 1],az 5 [vX,vX,fX 701 1],az 7 [vX,vX,fX 702 1],az 10 [vX,vX,fX 703 1],aF 700,aF 701,aF 702,aF 703,aF 704]⟩ [3,4,5,25000,25001,7,33000,10,700,701,702,703,704,710,711,712,713,714] [aO 4 2 700,aO 5 2 701,aO 7 2 702,aO 10 2 703,dn 8 704] (aj [aj [ah [ab 33 11,aC 34 0 3,au 35 1 34,aN .lss 36 33 35],dQ 36 0],.join ⟨[ar 11,aw 3 3,aw 4 4,aw 5 5,aw 7 7,de 8 714 1,ar 9,aw 10 10],[az 3 [vX,vX,bL],az 4 [vX,vX,fX 710 1],az 5 [vX,vX,fX 711 1],az 7 [vX,vX,fX 712 1],az 10 [vX,vX,fX 713 1],aF 710,aF 711,aF 712,aF 713,aF 714]⟩ [3,4,5,7,10,705,706,707,708,709,710,711,712,713,714] [aO 4 2 710,aO 5 2 711,aO 7 2 712,aO 10 2 713,dn 8 714] (.block 1 (aj [ah [ab 39 8,dk 40 39,cz 41 0],.block 2 (.loop 0 ⟨[aw 3 3,aw 4 4,aw 5 5,aw 7 7,de 8 709 1,ar 9,aw 10 10,ar 11,de 39 709 1,ar 40,ar 41],[az 3 [vX,vX,bL],az 4 [vX,vX,fX 705 1],az 5 [vX,vX,fX 706 1],az 7 [vX,vX,fX 707 1],az 10 [vX,vX,fX 708 1],aF 705,aF 706,aF 707,aF 708,aF 709]⟩ [3,4,5,7,10,700,701,702,703,704,705,706,707,708,709] [aO 4 2 705,aO 5 2 706,aO 7 2 707,aO 10 2 708,dn 8 709] (aj [ah [aN .lss 42 41 40],dQ 42 2,.block 3 (aj [ah [ab 43 41,cL 44 1 39 41,au 45 1 44,ab 12 43,ab 13 45],.dB true [bj 46 3 10,ab 47 11,ab 48 12,bj 49 3 3,ab 50 11,ab 51 13,bD 52 30 [49,50,51],oX 53 (.g7 .aZ 57 [46,47,48,52])]]),ah [aQ .add 54 41 1,ab 41 54]]))])),ah [ab 37 11,aQ .add 38 37 1,ab 11 38]])))],.dB true [ab 55 9,aC 56 1 3,au 57 1 56,aC 58 2 7,au 59 1 58,ab 60 9,aC 61 1 3,au 62 1 61,aN .mul 63 60 62,oX 64 (.slice 1 59 none (some 63)),bD 65 68 [64],oX 66 (.build [zX,zX,.nil iX] [(0,1,55),(1,1,57),(2,1,65)]),du 14 [zX,zX,.nil iX],bJ 3 14 66],.o9 [(1,2)] [bj 67 3 10,bj 68 3 14,bJ 3 4 67,bJ 3 5 68,pA 6],.ret])
def ahs:List bK:=[.cell 4 3 true,.cell 5 3 true,.tmp 6]
theorem axA (NN:Nat) (x:bf (aq.be M1)):eA NN [Jk,aet,C7,yM,yN,yO] aj2 ahs M1 YN x=It NN x:=by kernel_rfl
theorem at8:cG pX 58 aj2.er ahs 2=true:=by decide+kernel
theorem azq:dP pX 58 ad5.M/\cc pX 58=true:=
  eK (args:=M1) (aH:=YN) (aB.cons Q3<|aB.cons azO<|aB.cons Ht<|aB.cons BQ<|aB.oP BR<|aB.cons BS<|aB.nil) cU at8 Cp fun x y h=>(axA aI x).trans (apH x y h)
def adZ:aE:=⟨18,MS,av9,YI,tY⟩
def ajX:bN:=
 (aj [ah [dF 3 2 0,dF 5 3 2,du 6 [zX,.nil gX],eu 7],aj [ah [bj 23 2 3,bD 24 27 [23],gR 25 24,ab 26 25,bA 26 (ab 27 1),bA 26 (aQ .lss 28 27 0),gh 29 26 28,ab 30 29,bA 30 (ab 31 1),bA 30 (aC 32 1 3),bA 30 (au 33 1 32),bA 30 (dk 34 33),bA 30 (aQ .sub 35 34 1),bA 30 (aN .geq 36 31 35),gh 37 30 36,ab 38 37,bA 38 (aC 39 0 3),bA 38 (au 40 1 39),bA 38 (bj 41 3 5),bA 38 (bD 42 28 [40,41]),bA 38 (gR 43 42),gh 44 38 43],.cond 44 (aj [ah [oX 45 (.build [zX,.nil gX] []),bJ 2 6 45,eu 7],.ret]) .skip],.o9 [(5,13),(6,13),(9,13),(10,13)] [aC 46 1 3,au 47 1 46,ab 48 1,cL 49 4 47 48,bj 50 4 49,aC 51 1 3,au 52 1 51,ab 53 1,aQ .add 54 53 1,cL 55 4 52 54,bj 56 4 55,du 8 [zX,zX,zX,.nil iX],du 9 [zX,zX,zX,.nil iX],bJ 4 8 50,bJ 4 9 56],aj [ah [aC 57 0 5,au 58 1 57,aC 59 1 8,au 60 1 59,aC 61 1 9,au 62 1 61,aN .mul 63 60 62,aN .neq 64 58 63,ab 65 64,bA 65 (aC 66 1 5),bA 65 (au 67 1 66),bA 65 (aC 68 1 8),bA 65 (au 69 1 68),bA 65 (aC 70 1 9),bA 65 (au 71 1 70),bA 65 (aN .mul 72 69 71),bA 65 (aN .neq 73 67 72),gh 74 65 73],.cond 74 (aj [ah [oX 75 (.build [zX,.nil gX] []),bJ 2 6 75,eu 7],.ret]) .skip],.dB true [aC 76 0 8,au 77 1 76,aC 78 1 8,au 79 1 78,aN .mul 80 77 79,aC 81 1 9,au 82 1 81,aC 83 2 9,au 84 1 83,aN .mul 85 82 84,ab 10 80,ab 11 85],aj [ah [ab 86 10,aQ .gtr 87 86 64,ab 88 87,bA 88 (ab 89 11),bA 88 (aQ .gtr 90 89 64),gh 91 88 90],.cond 91 (aj [ah [oX 92 (.build [zX,.nil gX] []),bJ 2 6 92,eu 7],.ret]) .skip],ah [aC 93 0 3,au 94 1 93,ab 95 10,aC 96 2 8,au 97 1 96,aC 98 3 8,au 99 1 98,oX 100 (.build [zX,zX,.nil iX] [(0,1,95),(1,1,97),(2,1,99)]),aC 101 0 9,au 102 1 101,ab 103 11,aC 104 3 9,au 105 1 104,oX 106 (.build [zX,zX,.nil iX] [(0,1,102),(1,1,103),(2,1,105)]),bD 107 52 [94,100,106],du 12 [zX,zX,.nil iX],bJ 3 12 107],ah [ab 108 10,ab 109 11,bD 110 51 [108,109],du 13 [zX,zX,.nil iX],bJ 3 13 110],aj [ah [cz 14 0],.join ⟨[aw 13 13,aw 3 3,aw 8 8,ar 1,aw 9 9,aw 6 6],[az 3 [vX,fF],az 6 [vX,fX 724 4],az 8 [vX,vX,vX,bL],az 9 [vX,vX,vX,bL],az 13 [vX,vX,fX 725 1],(724,.row true .aZ gX),aF 725]⟩ [3,5,6,8,9,12,13,700,701,702,724,725] [aO 6 1 724,aO 13 2 725] (.block 0 (.loop 0 ⟨[ar 1,aw 3 3,aw 5 5,aw 6 6,aw 8 8,aw 9 9,aw 12 12,aw 13 13,ar 14],[az 3 [vX,fF],az 5 [vX,vX,bL],az 6 [vX,fX 700 4],az 8 [vX,vX,vX,bL],az 9 [vX,vX,vX,bL],az 12 [vX,vX,fX 701 1],az 13 [vX,vX,fX 702 1],(700,.row true .aZ gX),aF 701,aF 702]⟩ [3,5,6,8,9,108000,12,111000,13,700,701,702,721,722,723] [aO 6 1 700,aO 12 2 701,aO 13 2 702] (aj [aj [ah [ab 111 14,aC 112 0 8,au 113 1 112,aN .lss 114 111 113],dQ 114 0],.join ⟨[ar 14,ar 1,aw 3 3,aw 5 5,aw 6 6,aw 8 8,aw 9 9,aw 12 12,aw 13 13],[az 3 [vX,fF],az 5 [vX,vX,bL],az 6 [vX,fX 721 4],az 8 [vX,vX,vX,bL],az 9 [vX,vX,vX,bL],az 12 [vX,vX,fX 722 1],az 13 [vX,vX,fX 723 1],(721,.row true .aZ gX),aF 722,aF 723]⟩ [3,5,6,8,9,12,13,703,704,705,721,722,723] [aO 6 1 721,aO 12 2 722,aO 13 2 723] (.block 1 (aj [ah [cz 15 0],.block 2 (.loop 0 ⟨[ar 1,aw 3 3,aw 5 5,aw 6 6,aw 8 8,aw 9 9,aw 12 12,aw 13 13,ar 14,ar 15],[az 3 [vX,fF],az 5 [vX,vX,bL],az 6 [vX,fX 703 4],az 8 [vX,vX,vX,bL],az 9 [vX,vX,vX,bL],az 12 [vX,vX,fX 704 1],az 13 [vX,vX,fX 705 1],(703,.row true .aZ gX),aF 704,aF 705]⟩ [3,5,6,8,9,12,13,700,701,702,703,704,705,718,719,720] [aO 6 1 703,aO 12 2 704,aO 13 2 705] (aj [aj [ah [ab 117 15,aC 118 2 9,au 119 1 118,aN .lss 120 117 119],dQ 120 2],.join ⟨[ar 15,ar 1,aw 3 3,aw 5 5,aw 6 6,aw 8 8,aw 9 9,aw 12 12,aw 13 13,ar 14],[az 3 [vX,fF],az 5 [vX,vX,bL],az 6 [vX,fX 718 4],az 8 [vX,vX,vX,bL],az 9 [vX,vX,vX,bL],az 12 [vX,vX,fX 719 1],az 13 [vX,vX,fX 720 1],(718,.row true .aZ gX),aF 719,aF 720]⟩ [3,5,6,8,9,12,13,706,707,708,718,719,720] [aO 6 1 718,aO 12 2 719,aO 13 2 720] (.block 3 (aj [ah [cz 16 0],.block 4 (.loop 0 ⟨[ar 1,aw 3 3,aw 5 5,aw 6 6,aw 8 8,aw 9 9,aw 12 12,aw 13 13,ar 14,ar 15,ar 16],[az 3 [vX,fF],az 5 [vX,vX,bL],az 6 [vX,fX 706 4],az 8 [vX,vX,vX,bL],az 9 [vX,vX,vX,bL],az 12 [vX,vX,fX 707 1],az 13 [vX,vX,fX 708 1],(706,.row true .aZ gX),aF 707,aF 708]⟩ [3,5,6,8,9,12,13,703,704,705,706,707,708,715,716,717] [aO 6 1 706,aO 12 2 707,aO 13 2 708] (aj [aj [ah [ab 123 16,aC 124 0 5,au 125 1 124,aN .lss 126 123 125],dQ 126 4],.join ⟨[ar 16,ar 1,aw 3 3,aw 5 5,aw 6 6,aw 8 8,aw 9 9,aw 12 12,aw 13 13,ar 14,ar 15],[az 3 [vX,fF],az 5 [vX,vX,bL],az 6 [vX,fX 715 4],az 8 [vX,vX,vX,bL],az 9 [vX,vX,vX,bL],az 12 [vX,vX,fX 716 1],az 13 [vX,vX,fX 717 1],(715,.row true .aZ gX),aF 716,aF 717]⟩ [3,5,6,8,9,12,13,712,713,714,715,716,717] [aO 6 1 715,aO 12 2 716,aO 13 2 717] (.block 5 (aj [ah [cz 17 0],aj [ah [cz 18 0],.join ⟨[ar 17,ar 16,ar 1,aw 3 3,aw 5 5,aw 6 6,aw 8 8,aw 9 9,aw 12 12,aw 13 13,ar 14,ar 15],[az 3 [vX,fF],az 5 [vX,vX,bL],az 6 [vX,fX 712 4],az 8 [vX,vX,vX,bL],az 9 [vX,vX,vX,bL],az 12 [vX,vX,fX 713 1],az 13 [vX,vX,fX 714 1],(712,.row true .aZ gX),aF 713,aF 714]⟩ [3,5,6,8,9,12,13,709,710,711,712,713,714] [aO 6 1 712,aO 12 2 713,aO 13 2 714] (.block 6 (.loop 0 ⟨[ar 1,aw 3 3,aw 5 5,aw 6 6,aw 8 8,aw 9 9,aw 12 12,aw 13 13,ar 14,ar 15,ar 16,ar 17,ar 18],[az 3 [vX,fF],az 5 [vX,vX,bL],az 6 [vX,fX 709 4],az 8 [vX,vX,vX,bL],az 9 [vX,vX,vX,bL],az 12 [vX,vX,fX 710 1],az 13 [vX,vX,fX 711 1],(709,.row true .aZ gX),aF 710,aF 711]⟩ [3,5,6,8,9,12,13,706,707,708,709,710,711] [aO 6 1 709,aO 12 2 710,aO 13 2 711] (aj [aj [ah [ab 129 18,aC 130 1 5,au 131 1 130,aN .lss 132 129 131],dQ 132 6],.block 7 (.dB true [ab 135 17,bj 136 3 5,ab 137 16,ab 138 18,bD 139 30 [136,137,138],bj 140 3 12,ab 141 14,aC 142 1 8,au 143 1 142,aN .mul 144 141 143,ab 145 18,aC 146 1 9,au 147 1 146,aN .quo 148 145 147,aN .add 149 144 148,ab 150 18,aC 151 1 9,au 152 1 151,aN .rem 153 150 152,aC 154 2 9,au 155 1 154,aN .mul 156 153 155,ab 157 15,aN .add 158 156 157,bD 159 30 [140,149,158],aN .mul 160 139 159,aN .add 161 135 160,aC 162 0 3,au 163 1 162,aN .rem 164 161 163,ab 17 164]),ah [ab 133 18,aQ .add 134 133 1,ab 18 134]])))],.dB true [bj 165 3 13,ab 166 14,aC 167 1 8,au 168 1 167,aN .mul 169 166 168,ab 170 16,aC 171 1 9,au 172 1 171,aN .quo 173 170 172,aN .add 174 169 173,ab 175 16,aC 176 1 9,au 177 1 176,aN .rem 178 175 177,aC 179 2 9,au 180 1 179,aN .mul 181 178 180,ab 182 15,aN .add 183 181 182,ab 184 17,oX 185 (.g7 .aZ 57 [165,174,183,184])]])),ah [ab 127 16,aQ .add 128 127 1,ab 16 128]]))])),ah [ab 121 15,aQ .add 122 121 1,ab 15 122]]))])),ah [ab 115 14,aQ .add 116 115 1,ab 14 116]])))],ah [aC 187 0 3,au 188 1 187,bj 189 3 13,bD 190 58 [188,189],ab 186 190,gW 191 0 186,gW 192 1 186,gW 193 2 186,du 19 [zX,zX,.nil iX],du 20 [zX,zX,.nil iX],bJ 3 19 191,bJ 3 20 192,ab 21 193],aj [ah [ab 194 21,gR 195 194],.cond 195 (aj [ah [oX 196 (.build [zX,.nil gX] []),bJ 2 6 196,eu 7],.ret]) .skip],ah [bj 197 2 3,bD 198 29 [197],du 22 [zX,.nil gX],bJ 2 22 198],ah [aC 199 1 22,au 200 1 199,ab 201 1,aC 202 0 8,au 203 1 202,aC 204 1 8,au 205 1 204,aC 206 1 19,au 207 1 206,aC 208 2 19,au 209 1 208,oX 210 (.build [zX,zX,zX,.nil iX] [(0,1,203),(1,1,205),(2,1,207),(3,1,209)]),cL 211 4 200 201,bJ 4 211 210],ah [aC 212 1 22,au 213 1 212,ab 214 1,aQ .add 215 214 1,aC 216 0 20,au 217 1 216,aC 218 1 9,au 219 1 218,aC 220 2 9,au 221 1 220,aC 222 2 20,au 223 1 222,oX 224 (.build [zX,zX,zX,.nil iX] [(0,1,217),(1,1,219),(2,1,221),(3,1,223)]),cL 225 4 213 215,bJ 4 225 224],aj [ah [bj 226 2 22,bD 227 27 [226],gR 228 227],.cond 228 (aj [ah [oX 229 (.build [zX,.nil gX] []),bJ 2 6 229,eu 7],.ret]) .skip],ah [bj 230 2 22,bJ 2 6 230,pA 7],.ret])
def ahn:List bK:=[.cell 6 2 true,.tmp 7]
theorem axv (NN:Nat) (x:bf (aq.be MS)):eA NN [Jj,Jk,Pr,C7,yM,yN,ad5,UC] ajX ahn MS YI x=Sv NN x:=by kernel_rfl
theorem at3:cG pX 18 ajX.er ahn 3=true:=by decide+kernel
theorem azn:dP pX 18 adZ.M/\cc pX 18=true:=
  eK (args:=MS) (aH:=YI) (aB.cons Q2<|aB.cons Q3<|aB.cons Yh<|aB.cons Ht<|aB.cons BQ<|aB.oP BR<|aB.cons azq<|aB.cons ai5<|aB.nil) cU at3 tY fun x y h=>(axv aI x).trans (apB x y h)
def ad8:aE:=⟨19,Na,awj,YV,EO⟩
def aka:bN:=
 (aj [ah [dF 4 3 1,dF 5 3 2,du 6 [zX,zX,.nil iX],eu 7],aj [ah [ab 8 0,bj 9 3 4,bD 10 28 [8,9],gR 11 10,ab 12 11,bA 12 (ab 13 0),bA 12 (bj 14 3 5),bA 12 (bD 15 28 [13,14]),bA 12 (gR 16 15),gh 17 12 16,ab 18 17,bA 18 (aC 19 1 4),bA 18 (au 20 1 19),bA 18 (aC 21 0 5),bA 18 (au 22 1 21),bA 18 (aN .neq 23 20 22),gh 24 18 23],.cond 24 (aj [ah [oX 25 (.build [zX,zX,.nil iX] []),bJ 3 6 25,eu 7],.ret]) .skip],ah [ab 26 0,bj 27 3 4,bj 28 3 5,bD 29 52 [26,27,28],bJ 3 6 29,pA 7],.ret])
def ahA:List bK:=[.cell 6 3 true,.tmp 7]
theorem axI (NN:Nat) (x:bf (aq.be Na)):eA NN [Jk,Pr] aka ahA Na YV x=abK NN x:=by kernel_rfl
theorem aug:cG pX 19 aka.er ahA 3=true:=by decide+kernel
theorem azt:dP pX 19 ad8.M/\cc pX 19=true:=
  eK (args:=Na) (aH:=YV) (aB.cons Q3<|aB.cons Yh<|aB.nil) cU aug EO fun x y h=>(axI aI x).trans (apP x y h)
def aeD:aE:=⟨59,N0,aw2,ZI,Aj⟩
def akY:bN:=
 (aj [ah [eu 4],aj [ah [ab 7 0,dk 8 7,cz 9 0],.join ⟨[eX 0,eX 1],[]⟩ [] [] (.block 0 (.loop 0 ⟨[eX 0,eX 1,eX 7,ar 8,ar 9],[]⟩ [] [] (aj [ah [aN .lss 10 9 8],dQ 10 0,.block 1 (aj [ah [ab 11 9,cL 12 1 7 9,au 13 1 12,ab 5 11,ab 6 13],ah [ab 14 5,ab 15 1,dk 16 15,aN .geq 17 14 16,ab 18 17,bA 18 (ab 19 1),bA 18 (ab 20 5),bA 18 (cL 21 1 19 20),bA 18 (au 22 1 21),bA 18 (ab 23 6),bA 18 (aN .neq 24 22 23),gh 25 18 24],.cond 25 (aj [ah [eu 4],.ret]) .skip]),ah [aQ .add 26 9 1,ab 9 26]])))],ah [ab 27 0,dk 28 27,ab 29 1,dk 30 29,aN .eql 31 28 30,ab 4 31],.ret])
def aip:List bK:=[.tmp 4]
theorem ayy (NN:Nat) (x:bf (aq.be N0)):eA NN [] akY aip N0 ZI x=Mp NN x:=by kernel_rfl
theorem au5:cG pX 59 akY.er aip 2=true:=by decide+kernel
theorem azZ:dP pX 59 aeD.M/\cc pX 59=true:=
  eK (args:=N0) (aH:=ZI) (aB.nil) cU au5 Aj fun x y h=>(ayy aI x).trans (aqG x y h)
def aeF:aE:=⟨20,N2,aw4,ZK,E8⟩
def ak0:bN:=
 (aj [ah [dF 2 3 0,dF 3 3 1,eu 4],ah [aC 5 0 2,au 6 1 5,aC 7 0 3,au 8 1 7,bD 9 59 [6,8],ab 10 9,bz 10 (aC 11 1 2),bz 10 (au 12 1 11),bz 10 (aC 13 1 3),bz 10 (au 14 1 13),bz 10 (bD 15 59 [12,14]),gD 16 10 15,ab 17 16,bz 17 (aC 18 2 2),bz 17 (au 19 1 18),bz 17 (aC 20 2 3),bz 17 (au 21 1 20),bz 17 (bD 22 59 [19,21]),gD 23 17 22,ab 4 23],.ret])
def air:List bK:=[.tmp 4]
theorem ayA (NN:Nat) (x:bf (aq.be N2)):eA NN [aeD] ak0 air N2 ZK x=Mr NN x:=by kernel_rfl
theorem au7:cG pX 20 ak0.er air 2=true:=by decide+kernel
theorem az1:dP pX 20 aeF.M/\cc pX 20=true:=
  eK (args:=N2) (aH:=ZK) (aB.cons azZ<|aB.nil) cU au7 E8 fun x y h=>(ayA aI x).trans (aqI x y h)
def Ps:aE:=⟨3,Aw,aw0,ZG,Sl⟩
def akW:bN:=
 (aj [ah [eu 2],aj [ah [ab 33 0,dk 34 33,aQ .gtr 35 34 1048576],.cond 35 (aj [ah [pA 2],.ret]) .skip],ah [ab 36 0,iP 37 4 [36,(kX 0)],ab 3 37],ah [ab 38 0,iP 39 5 [38,(kX 10)],ab 4 39],ah [ab 40 0,ab 41 3,ab 42 4,iP 43 6 [40,(kX 30),41,42],du 5 [zX,.nil gX],bJ 2 5 43],ah [ab 44 3,oX 45 (.build [zX,zX,zX] [(0,1,(kX 2)),(1,1,44)]),du 6 [zX,zX,zX],bJ 3 6 45],ah [ab 46 0,ab 47 4,dk 48 47,aQ .sub 49 48 1,iP 50 7 [46,(kX 4),(kX 0),49],ab 7 50],.o9 [(10,11)] [ab 51 0,ab 52 3,ab 53 4,ab 54 7,cL 55 1 53 54,au 56 1 55,ab 57 4,ab 58 7,cL 59 1 57 58,au 60 1 59,iP 61 8 [51,(kX 80),52,56,60],du 8 [zX,zX,.nil iX],bJ 3 8 61],ah [bj 63 2 5,ab 64 7,bj 65 3 8,bD 66 9 [63,64,65],ab 62 66,gW 67 0 62,gW 68 1 62,du 9 [zX,.nil gX],bJ 2 9 67,ab 10 68],ah [bj 69 2 5,bD 70 10 [69],du 11 [.nil iX,.nil iX,.nil iX],bJ 3 11 70],.o9 [(1,4),(1,5),(1,8),(1,9),(1,10),(1,11),(10,11),(1,12),(10,12),(1,14),(10,14)] [ab 71 7,oX 72 (.gy iX [(kX 50),71]),ab 73 4,ab 74 7,cL 75 1 73 74,au 76 1 75,ab 77 4,ab 78 7,cL 79 1 77 78,au 80 1 79,oX 81 (.gy iX [76,80]),aC 82 2 8,au 83 1 82,oX 84 (.build [.nil iX,.nil iX,.nil iX] [(0,1,72),(1,1,81),(2,1,83)]),du 12 [.nil iX,.nil iX,.nil iX],bJ 3 12 84],.o9 [(0,7),(1,7),(2,7),(3,7),(4,7),(6,7),(7,13)] [bj 86 3 6,bj 87 3 11,bj 88 3 12,aC 89 0 11,au 90 1 89,ab 91 7,bD 92 13 [90,91],oX 93 (.gy iX [(kX 50)]),bD 94 12 [92,93],bD 95 11 [86,87,88,94],ab 85 95,gW 96 0 85,gW 97 1 85,du 13 [.nil iX,.nil iX,.nil iX],bJ 3 13 96,ab 14 97],ah [bj 99 3 6,bj 100 3 13,oX 101 (.gy iX [(kX 50)]),ab 102 7,oX 103 (.gy iX [102]),bD 104 14 [99,100,101,103],ab 98 104,gW 105 0 98,gW 106 1 98,du 15 [.nil iX,.nil iX,.nil iX],bJ 3 15 105,ab 16 106],ah [bj 108 2 5,ab 109 7,bj 110 3 8,bj 111 2 5,bD 112 15 [108,109,110,111],ab 107 112,gW 113 0 107,gW 114 1 107,ab 17 113,ab 18 114],ah [bj 116 2 5,bj 117 2 9,bD 118 16 [116,117],ab 115 118,gW 119 0 115,gW 120 1 115,ab 19 119,ab 20 120],aj [.dB true [ab 121 10,gR 122 121,ab 123 122,bA 123 (ab 124 14),bA 123 (gR 125 124),gh 126 123 125,ab 127 126,bA 127 (ab 128 16),bA 127 (gR 129 128),gh 130 127 129,ab 131 130,bA 131 (ab 132 18),bA 131 (gR 133 132),gh 134 131 133,ab 135 134,bA 135 (ab 136 20),bA 135 (gR 137 136),gh 138 135 137,ab 139 138,bA 139 (bj 140 3 6),bA 139 (bj 141 2 9),bA 139 (bD 142 10 [141]),bA 139 (bj 143 3 15),bA 139 (bD 144 17 [140,142,143]),bA 139 (gR 145 144),gh 146 139 145,ab 147 146,bA 147 (ab 148 17),bA 147 (ab 149 19),bA 147 (aN .neq 150 148 149),gh 151 147 150],.cond 151 (aj [ah [eu 2],.ret]) .skip],aj [ah [ab 152 7,aQ .add 153 152 1,ab 154 4,dk 155 154,aN .eql 156 153 155],.cond 156 (aj [ah [bj 158 2 5,ab 159 7,bj 160 3 8,bD 161 18 [158,159,160],ab 157 161,gW 162 0 157,gW 163 1 157,du 21 [zX,.nil gX],bJ 2 21 162,ab 22 163],ah [ab 164 22,gR 165 164,ab 2 165],.ret]) .skip],.dB true [ab 166 4,ab 167 7,cL 168 1 166 167,au 169 1 168,ab 170 4,ab 171 7,aQ .add 172 171 1,cL 173 1 170 172,au 174 1 173,aN .mul 175 169 174,ab 23 175],ah [ab 176 0,ab 177 3,ab 178 23,ab 179 23,iP 180 8 [176,(kX 110),177,178,179],du 24 [zX,zX,.nil iX],bJ 3 24 180],ah [ab 181 0,ab 182 3,ab 183 23,ab 184 23,iP 185 8 [181,(kX 140),182,183,184],du 25 [zX,zX,.nil iX],bJ 3 25 185],ah [ab 187 3,bj 188 3 24,bj 189 3 25,bD 190 19 [187,188,189],ab 186 190,gW 191 0 186,gW 192 1 186,du 26 [zX,zX,.nil iX],bJ 3 26 191,ab 27 192],ah [bj 194 2 5,ab 195 7,bj 196 3 25,bD 197 18 [194,195,196],ab 193 197,gW 198 0 193,gW 199 1 193,du 28 [zX,.nil gX],bJ 2 28 198,ab 29 199],ah [bj 201 2 28,ab 202 7,bj 203 3 24,bD 204 18 [201,202,203],ab 200 204,gW 205 0 200,gW 206 1 200,bJ 2 28 205,ab 30 206],ah [bj 208 2 5,ab 209 7,bj 210 3 26,bD 211 18 [208,209,210],ab 207 211,gW 212 0 207,gW 213 1 207,du 31 [zX,.nil gX],bJ 2 31 212,ab 32 213],.dB true [ab 214 27,ab 215 214,bz 215 (ab 216 29),gD 217 215 216,ab 218 217,bz 218 (ab 219 30),gD 220 218 219,ab 221 220,bz 221 (ab 222 32),gD 223 221 222,ab 224 223,bz 224 (bj 225 2 28),bz 224 (bD 226 10 [225]),bz 224 (bj 227 2 31),bz 224 (bD 228 10 [227]),bz 224 (bD 229 20 [226,228]),gD 230 224 229,ab 2 230],.ret])
def ain:List bK:=[.tmp 2]
theorem ayw (NN:Nat) (x:bf (aq.be Aw)):eA NN [aeO,aeL,aeK,aeP,aeM,Ux,ad3,aeC,aeE,ad4,aea,ad9,Uy,aec,adZ,ad8,aeF] akW ain Aw ZG x=Mn NN x:=by kernel_rfl
theorem au3:cG pX 3 akW.er ain 1=true:=by decide+kernel
theorem azX:dP pX 3 Ps.M/\cc pX 3=true:=
  eK (args:=Aw) (aH:=ZG) (aB.jB aAa<|aB.jB az7<|aB.jB az6<|aB.jB aAb<|aB.jB az8<|aB.cons ai0<|aB.cons azo<|aB.cons azY<|aB.cons az0<|aB.cons azp<|aB.cons azv<|aB.cons azu<|aB.cons ai1<|aB.cons azx<|aB.cons azn<|aB.cons azt<|aB.cons az1<|aB.nil) cU au3 Sl fun x y h=>(ayw aI x).trans (aqE x y h)
end Go.Am
