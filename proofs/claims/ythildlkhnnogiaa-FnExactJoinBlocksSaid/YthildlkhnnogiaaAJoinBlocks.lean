/- A_JoinBlocks: the code of the functions of FnExactJoinBlocks. No condition. -/
import Derived.Test.YthildlkhnnogiaaLJoinBlocks
import Derived.Test.YthildlkhnnogiaaWTB
import Derived.KernelRfl
import Derived.Test.YthildlkhnnogiaaRows
set_option linter.unusedVariables false
set_option maxRecDepth 100000
namespace Go.Am
theorem de:Go.Proofs.Try.prog.follows .mixedOrders=true:=by decide+kernel
noncomputable abbrev pX:=Go.Proofs.Try.prog
def oX (n:Nat) (x:dA):dE:=⟨some n,x,none⟩
def uX (x:dA):dE:=⟨none,x,none⟩
def kX (n:Int):cQ:=.k (.one (.v (.int .i64) n))
def sX:iP:=.one (.c (.v (.int .i64)))
def iX:List Ty:=[.int .i64]
def lX:Ty:=.list iX
def zX:SC:=.v (.int .i64) (0:Int)
def vX:fo:=.c (.v (.int .i64))
def fX (n k:Nat):fo:=.c (.full n k)
def rX (n:Nat):fo:=.c (.H5 n 0)
instance tX (n:Nat):OfNat cQ n:=⟨.t n⟩
def dz (s:Nat) (o:dE):dE:={o with guard:=some (s,true)}
def bf (s:Nat) (o:dE):dE:={o with guard:=some (s,false)}
def U (d s:Nat):dE:=oX d (.mv (.t s))
def aC (d n s:Nat):dE:=oX d (.load false n (.t s))
def cB (d n s:Nat):dE:=oX d (.load true n (.t s))
def aM (d n s:Nat):dE:=oX d (.nP n (.t s))
def cE (d n x i:Nat):dE:=oX d (.nw n (.t x) (.t i))
def W4 (d n x:Nat) (i:Int):dE:=oX d (.nw n (.t x) (kX i))
def bH (d:Nat) (c:Int):dE:=oX d (.mv (kX c))
def Xl:cQ:=.k (.one (.v .bool true))
def Xk:cQ:=.k (.one (.v .bool false))
def kj (d:Nat):dE:=oX d (.mv Xl)
def da (d:Nat):dE:=oX d (.mv Xk)
def kJ (d c x:Nat):dE:=oX d (.pick (.t c) (.t x) Xk)
def gI (d c x:Nat):dE:=oX d (.pick (.t c) Xl (.t x))
def bF (o:BinOp) (d x y:Nat):dE:=oX d (.bin o (.t x) (.t y))
def aV (o:BinOp) (d x:Nat) (c:Int):dE:=oX d (.bin o (.t x) (kX c))
def dO (d n s:Nat):dE:=oX d (.box n (.t s))
def cj (d s:Nat):dE:=oX d (.len (.t s))
def bY (d f:Nat) (l:List cQ):dE:=oX d (.call .aN f l)
def fT (d s:Nat):dE:=oX d (.un .not (.t s))
def yk (d n s:Nat):dE:=oX d (.ext n (.t s))
def aXj (d f:Nat) (l:List cQ):dE:=oX d (.km f l)
def eB (n x v:Nat):dE:=uX (.store n (.t x) (.t v))
def kl (d:Nat) (l:List SC):dE:=oX d (.alloc l)
def nH (d:Nat):dE:=oX d (.mv (.k (.one (.nil iX))))
def ab (l:List dE):bx:=.gT false l
def ai:List bx->bx
  |[]=>.skip
  |[a]=>a
  |a::l=>.seq a (ai l)
def eo (n e:Nat):bx:=.cond (.t n) .skip (.exit e)
def aS (n:Nat):Nat×iP:=(n,sX)
def cd (n m k:Nat):Nat×iP:=(n,.one (fX m k))
def bX (n m:Nat):Nat×iP:=(n,.one (rX m))
def bz (n:Nat):Nat×gp:=(n,.row true .aN iX)
def cb:fo:=.c (.v lX)
def du (n:Nat) (l:List fo):Nat×gp:=(n,.box l)
def cX (a b c:Nat):Bool×Nat×Nat×Nat×Mode×List Ty:=(true,a,b,c,.aN,[])
def df (a c:Nat):Bool×Nat×Nat×Nat×Mode×List Ty:=(false,a,0,c,.aN,[])
def e8 (n:Nat):Nat×iP:=(n,.one (.c (.v lX)))
def K8:au:=⟨72,JJ,aoL,UN,pH⟩
def ae0:bx:=
 (ai [ab [bH 4 0],ab [U 5 1,U 6 0,cj 7 6,bF .sub 8 5 7,U 1 8],ai [ab [U 9 1,aV .lss 10 9 0],.cond 10 (ai [ab [bH 4 (-1)],.ret]) .skip],ab [U 11 1,U 4 11],.ret])
def aco:List br:=[.tmp 4]
theorem apZ (NN:Nat) (x:aY (ak.aX JJ)):dH NN [] ae0 aco JJ UN x=O3 NN x:=by kernel_rfl
theorem amZ:cI pX 72 ae0.er aco 2=true:=by decide+kernel
theorem TF:dh pX 72 K8.M/\bS pX 72=true:=
  dK (args:=JJ) (ax:=UN) (aG.nil) de amZ pH fun x y h=>(apZ aP x).trans (aj8 x y h)
def QY:au:=⟨43,JL,aoN,UP,x7⟩
def ae2:bx:=
 (ai [ab [dO 2 3 0,bH 4 0],ab [aM 5 0 2,aC 6 1 5,U 7 1,bY 8 72 [6,7],U 1 8],ai [ab [U 9 1,aV .lss 10 9 0],.cond 10 (ai [ab [bH 4 (-1)],.ret]) .skip],ab [aM 11 1 2,aC 12 1 11,U 13 1,bY 14 72 [12,13],U 1 14],ai [ab [U 15 1,aV .lss 16 15 0],.cond 16 (ai [ab [bH 4 (-1)],.ret]) .skip],ab [aM 17 2 2,aC 18 1 17,U 19 1,bY 20 72 [18,19],U 1 20],ai [ab [U 21 1,aV .lss 22 21 0],.cond 22 (ai [ab [bH 4 (-1)],.ret]) .skip],ab [U 23 1,U 4 23],.ret])
def acq:List br:=[.tmp 4]
theorem ap1 (NN:Nat) (x:aY (ak.aX JL)):dH NN [K8] ae2 acq JL UP x=O4 NN x:=by kernel_rfl
theorem am1:cI pX 43 ae2.er acq 2=true:=by decide+kernel
theorem adl:dh pX 43 QY.M/\bS pX 43=true:=
  dK (args:=JL) (ax:=UP) (aG.cons TF<|aG.nil) de am1 x7 fun x y h=>(ap1 aP x).trans (aka x y h)
def ZA:au:=⟨120,JK,aoM,UO,CD⟩
def ae1:bx:=
 (ai [ab [bH 4 0],ab [U 6 1,U 7 0,cj 8 7,bF .sub 9 6 8,U 1 9],ai [ab [U 10 1,aV .lss 11 10 0],.cond 11 (ai [ab [bH 4 (-1)],.ret]) .skip],ai [ab [bH 5 0],.join ⟨[aS 1],[]⟩ [] [] (.block 0 (.loop 0 ⟨[(0,.one (.c (.v (.list [lX])))),aS 1,aS 5],[]⟩ [] [] (ai [ai [ab [U 12 5,U 13 0,cj 14 13,bF .lss 15 12 14],eo 15 0],.block 1 (ai [ab [U 18 0,U 19 5,cE 20 1 18 19,aC 21 1 20,U 22 1,bY 23 72 [21,22],U 1 23],ab [U 24 1,aV .lss 25 24 0],.cond 25 (ai [ab [bH 4 (-1)],.ret]) .skip]),ab [U 16 5,aV .add 17 16 1,U 5 17]])))],ab [U 26 1,U 4 26],.ret])
def acp:List br:=[.tmp 4]
theorem ap0 (NN:Nat) (x:aY (ak.aX JK)):dH NN [K8] ae1 acp JK UO x=WT NN x:=by kernel_rfl
theorem am0:cI pX 120 ae1.er acp 2=true:=by decide+kernel
theorem arw:dh pX 120 ZA.M/\bS pX 120=true:=
  dK (args:=JK) (ax:=UO) (aG.cons TF<|aG.nil) de am0 CD fun x y h=>(ap0 aP x).trans (aj9 x y h)
def Zz:au:=⟨44,JI,aoK,UM,CC⟩
def aeZ:bx:=
 (ai [ab [dO 2 2 0,bH 4 0],ab [aM 5 1 2,aC 6 1 5,U 7 1,bY 8 120 [6,7],U 1 8],ai [ab [U 9 1,aV .lss 10 9 0],.cond 10 (ai [ab [bH 4 (-1)],.ret]) .skip],ab [U 11 1,U 4 11],.ret])
def acn:List br:=[.tmp 4]
theorem apY (NN:Nat) (x:aY (ak.aX JI)):dH NN [ZA] aeZ acn JI UM x=O2 NN x:=by kernel_rfl
theorem amY:cI pX 44 aeZ.er acn 2=true:=by decide+kernel
theorem arv:dh pX 44 Zz.M/\bS pX 44=true:=
  dK (args:=JI) (ax:=UM) (aG.cons arw<|aG.nil) de amY CC fun x y h=>(apY aP x).trans (aj7 x y h)
def Zx:au:=⟨127,JG,aoI,UK,CA⟩
def aeX:bx:=
 (ai [ab [dO 2 4 0,bH 4 0],ab [aM 5 0 2,aC 6 1 5,U 7 1,bY 8 72 [6,7],U 1 8],ai [ab [U 9 1,aV .lss 10 9 0],.cond 10 (ai [ab [bH 4 (-1)],.ret]) .skip],ab [aM 11 1 2,cB 12 3 11,U 13 1,bY 14 43 [12,13],U 1 14],ai [ab [U 15 1,aV .lss 16 15 0],.cond 16 (ai [ab [bH 4 (-1)],.ret]) .skip],ab [U 17 1,U 4 17],.ret])
def ack:List br:=[.tmp 4]
theorem apW (NN:Nat) (x:aY (ak.aX JG)):dH NN [K8,QY] aeX ack JG UK x=O1 NN x:=by kernel_rfl
theorem amW:cI pX 127 aeX.er ack 2=true:=by decide+kernel
theorem art:dh pX 127 Zx.M/\bS pX 127=true:=
  dK (args:=JG) (ax:=UK) (aG.cons TF<|aG.cons adl<|aG.nil) de amW CA fun x y h=>(apW aP x).trans (aj5 x y h)
def Zy:au:=⟨56,JH,aoJ,UL,CB⟩
def aeY:bx:=
 (ai [ab [bH 4 0],ab [U 6 1,U 7 0,cj 8 7,bF .sub 9 6 8,U 1 9],ai [ab [U 10 1,aV .lss 11 10 0],.cond 11 (ai [ab [bH 4 (-1)],.ret]) .skip],ai [ab [bH 5 0],.join ⟨[aS 1],[]⟩ [] [] (.block 0 (.loop 0 ⟨[(0,.one (.c (.v (.list [lX,lX,lX,lX])))),aS 1,aS 5],[]⟩ [] [] (ai [ai [ab [U 12 5,U 13 0,cj 14 13,bF .lss 15 12 14],eo 15 0],.block 1 (ai [ab [U 18 0,U 19 5,cE 20 4 18 19,cB 21 4 20,U 22 1,bY 23 127 [21,22],U 1 23],ab [U 24 1,aV .lss 25 24 0],.cond 25 (ai [ab [bH 4 (-1)],.ret]) .skip]),ab [U 16 5,aV .add 17 16 1,U 5 17]])))],ab [U 26 1,U 4 26],.ret])
def acm:List br:=[.tmp 4]
theorem apX (NN:Nat) (x:aY (ak.aX JH)):dH NN [Zx] aeY acm JH UL x=WS NN x:=by kernel_rfl
theorem amX:cI pX 56 aeY.er acm 2=true:=by decide+kernel
theorem aru:dh pX 56 Zy.M/\bS pX 56=true:=
  dK (args:=JH) (ax:=UL) (aG.cons art<|aG.nil) de amX CB fun x y h=>(apX aP x).trans (aj6 x y h)
def ZF:au:=⟨21,JR,aoT,UW,z6⟩
def ae8:bx:=
 (ai [ab [dO 1 3 0,kl 2 [zX,zX,zX]],ab [kl 3 [zX,zX,zX]],ab [aM 4 0 1,aC 5 1 4,aM 6 0 3,eB 1 6 5],ab [aM 7 1 1,aC 8 1 7,aM 9 1 3,eB 1 9 8],ab [aM 10 2 1,aC 11 1 10,aM 12 2 3,eB 1 12 11],ab [cB 13 3 3,eB 3 2 13],.ret])
def acx:List br:=[.cell 2 3 true]
theorem ap7 (NN:Nat) (x:aY (ak.aX JR)):dH NN [] ae8 acx JR UW x=WU NN x:=by kernel_rfl
theorem am7:cI pX 21 ae8.er acx 1=true:=by decide+kernel
theorem arB:dh pX 21 ZF.M/\bS pX 21=true:=
  dK (args:=JR) (ax:=UW) (aG.nil) de am7 z6 fun x y h=>(ap7 aP x).trans (akg x y h)
def K9:au:=⟨23,JP,aoR,UT,rN⟩
def ae6:bx:=
 (ai [ab [nH 2],ab [U 5 0,cj 6 5,oX 7 (.iK .aN iX 8 (0:Int) 6 6),U 3 7],ai [ab [bH 4 0],.join ⟨[cd 3 701 1],[bz 701]⟩ [700,701] [df 3 701] (.block 0 (.loop 0 ⟨[e8 0,cd 3 700 1,aS 4],[bz 700]⟩ [7,700] [df 3 700] (ai [ai [ab [U 8 4,U 9 0,cj 10 9,bF .lss 11 8 10],eo 11 0],.block 1 (ab [U 14 3,U 15 4,U 16 0,U 17 4,cE 18 1 16 17,aC 19 1 18,cE 20 1 14 15,eB 1 20 19]),ab [U 12 4,aV .add 13 12 1,U 4 13]])))],ab [U 21 3,U 2 21],.ret])
def acv:List br:=[.tmp 2]
theorem ap5 (NN:Nat) (x:aY (ak.aX JP)):dH NN [] ae6 acv JP UT x=O8 NN x:=by kernel_rfl
theorem am5:cI pX 23 ae6.er acv 1=true:=by decide+kernel
theorem TG:dh pX 23 K9.M/\bS pX 23=true:=
  dK (args:=JP) (ax:=UT) (aG.nil) de am5 rN fun x y h=>(ap5 aP x).trans (ake x y h)
def QZ:au:=⟨46,JS,aoU,UX,rO⟩
def ae9:bx:=
 (ai [ab [dO 1 3 0,kl 2 [.nil iX,.nil iX,.nil iX]],ab [kl 3 [.nil iX,.nil iX,.nil iX]],ab [aM 4 0 1,aC 5 1 4,bY 6 23 [5],aM 7 0 3,eB 1 7 6],ab [aM 8 1 1,aC 9 1 8,bY 10 23 [9],aM 11 1 3,eB 1 11 10],ab [aM 12 2 1,aC 13 1 12,bY 14 23 [13],aM 15 2 3,eB 1 15 14],ab [cB 16 3 3,eB 3 2 16],.ret])
def acy:List br:=[.cell 2 3 true]
theorem ap8 (NN:Nat) (x:aY (ak.aX JS)):dH NN [K9] ae9 acy JS UX x=Pa NN x:=by kernel_rfl
theorem am8:cI pX 46 ae9.er acy 1=true:=by decide+kernel
theorem adm:dh pX 46 QZ.M/\bS pX 46=true:=
  dK (args:=JS) (ax:=UX) (aG.cons TG<|aG.nil) de am8 rO fun x y h=>(ap8 aP x).trans (akh x y h)
def ZE:au:=⟨123,JQ,aoS,UU,CF⟩
def ae7:bx:=
 (ai [ab [oX 2 (.mv (.k (.one (.nil [lX]))))],ab [U 5 0,cj 6 5,oX 7 (.iK .aN [lX] 24 [] 6 6),U 3 7],ai [ab [bH 4 0],.join ⟨[cd 3 701 1],[(701,.row true .aN [lX])]⟩ [700,701] [df 3 701] (.block 0 (.loop 0 ⟨[(0,.one (.c (.v (.list [lX])))),cd 3 700 1,aS 4],[(700,.row true .aN [lX])]⟩ [7,700] [df 3 700] (ai [ai [ab [U 8 4,U 9 0,cj 10 9,bF .lss 11 8 10],eo 11 0],.block 1 (ab [U 14 3,U 15 4,U 16 0,U 17 4,cE 18 1 16 17,aC 19 1 18,bY 20 23 [19],cE 21 1 14 15,eB 1 21 20]),ab [U 12 4,aV .add 13 12 1,U 4 13]])))],ab [U 22 3,U 2 22],.ret])
def acw:List br:=[.tmp 2]
theorem ap6 (NN:Nat) (x:aY (ak.aX JQ)):dH NN [K9] ae7 acw JQ UU x=O9 NN x:=by kernel_rfl
theorem am6:cI pX 123 ae7.er acw 1=true:=by decide+kernel
theorem arA:dh pX 123 ZE.M/\bS pX 123=true:=
  dK (args:=JQ) (ax:=UU) (aG.cons TG<|aG.nil) de am6 CF fun x y h=>(ap6 aP x).trans (akf x y h)
def ZD:au:=⟨47,JO,aoQ,US,uq⟩
def ae5:bx:=
 (ai [ab [dO 1 2 0,oX 2 (.alloc [zX,.nil [lX]])],ab [oX 3 (.alloc [zX,.nil [lX]])],ab [aM 4 0 1,aC 5 1 4,aM 6 0 3,eB 1 6 5],ab [aM 7 1 1,aC 8 1 7,bY 9 123 [8],aM 10 1 3,eB 1 10 9],ab [cB 11 2 3,eB 2 2 11],.ret])
def acu:List br:=[.cell 2 2 true]
theorem ap4 (NN:Nat) (x:aY (ak.aX JO)):dH NN [ZE] ae5 acu JO US x=O7 NN x:=by kernel_rfl
theorem am4:cI pX 47 ae5.er acu 1=true:=by decide+kernel
theorem arz:dh pX 47 ZD.M/\bS pX 47=true:=
  dK (args:=JO) (ax:=US) (aG.cons arA<|aG.nil) de am4 uq fun x y h=>(ap4 aP x).trans (akd x y h)
def ZB:au:=⟨140,JM,aoO,UQ,CE⟩
def ae3:bx:=
 (ai [ab [dO 1 4 0,kl 2 [.nil iX,.nil iX,.nil iX,.nil iX]],ab [kl 3 [.nil iX,.nil iX,.nil iX,.nil iX]],ab [aM 4 0 1,aC 5 1 4,bY 6 23 [5],aM 7 0 3,eB 1 7 6],ab [aM 8 1 1,cB 9 3 8,bY 10 46 [9],aM 11 1 3,eB 3 11 10],ab [cB 12 4 3,eB 4 2 12],.ret])
def acr:List br:=[.cell 2 4 true]
theorem ap2 (NN:Nat) (x:aY (ak.aX JM)):dH NN [K9,QZ] ae3 acr JM UQ x=O5 NN x:=by kernel_rfl
theorem am2:cI pX 140 ae3.er acr 1=true:=by decide+kernel
theorem arx:dh pX 140 ZB.M/\bS pX 140=true:=
  dK (args:=JM) (ax:=UQ) (aG.cons TG<|aG.cons adm<|aG.nil) de am2 CE fun x y h=>(ap2 aP x).trans (akb x y h)
def ZC:au:=⟨58,JN,aoP,UR,uo⟩
def ae4:bx:=
 (ai [ab [oX 2 (.mv (.k (.one (.nil [lX,lX,lX,lX]))))],ab [U 5 0,cj 6 5,oX 7 (.iK .aN [lX,lX,lX,lX] 96 ([],([],([],[]))) 6 6),U 3 7],ai [ab [bH 4 0],.join ⟨[cd 3 701 4],[(701,.row true .aN [lX,lX,lX,lX])]⟩ [700,701] [df 3 701] (.block 0 (.loop 0 ⟨[(0,.one (.c (.v (.list [lX,lX,lX,lX])))),cd 3 700 4,aS 4],[(700,.row true .aN [lX,lX,lX,lX])]⟩ [7,700] [df 3 700] (ai [ai [ab [U 8 4,U 9 0,cj 10 9,bF .lss 11 8 10],eo 11 0],.block 1 (ab [U 14 3,U 15 4,U 16 0,U 17 4,cE 18 4 16 17,cB 19 4 18,bY 20 140 [19],cE 21 4 14 15,eB 4 21 20]),ab [U 12 4,aV .add 13 12 1,U 4 13]])))],ab [U 22 3,U 2 22],.ret])
def acs:List br:=[.tmp 2]
theorem ap3 (NN:Nat) (x:aY (ak.aX JN)):dH NN [ZB] ae4 acs JN UR x=O6 NN x:=by kernel_rfl
theorem am3:cI pX 58 ae4.er acs 1=true:=by decide+kernel
theorem ary:dh pX 58 ZC.M/\bS pX 58=true:=
  dK (args:=JN) (ax:=UR) (aG.cons arx<|aG.nil) de am3 uo fun x y h=>(ap3 aP x).trans (akc x y h)
def Du:au:=⟨177,JZ,ao1,U4,kG⟩
def afg:bx:=
 (ai [ab [da 6],ab [U 7 0,U 8 1,bF .geq 9 7 8,U 10 9,dz 10 (U 11 0),dz 10 (U 12 2),dz 10 (bF .leq 13 11 12),kJ 14 10 13,U 6 14],.ret])
def acF:List br:=[.tmp 6]
theorem aqh (NN:Nat) (x:aY (ak.aX JZ)):dH NN [] afg acF JZ U4 x=Pk NN x:=by kernel_rfl
theorem ang:cI pX 177 afg.er acF 3=true:=by decide+kernel
theorem HY:dh pX 177 Du.M/\bS pX 177=true:=
  dK (args:=JZ) (ax:=U4) (aG.nil) de ang kG fun x y h=>(aqh aP x).trans (ako x y h)
def ZH:au:=⟨176,JU,aoW,UZ,x9⟩
def afb:bx:=
 (ai [ab [da 2],ai [ab [bH 3 2],.join ⟨[aS 0],[]⟩ [] [] (.block 0 (.loop 0 ⟨[aS 0,aS 3],[]⟩ [] [] (ai [ai [ab [U 4 3,U 5 3,bF .mul 6 4 5,U 7 0,bF .leq 8 6 7,U 9 8,dz 9 (U 10 0),dz 9 (aV .leq 11 10 1000003),kJ 12 9 11],eo 12 0],.block 1 (ai [ab [U 15 0,U 16 3,bF .rem 17 15 16,aV .eql 18 17 0],.cond 18 (ai [ab [da 2],.ret]) .skip]),ab [U 13 3,aV .add 14 13 1,U 3 14]])))],ab [U 19 0,bY 20 177 [19,(kX 2),(kX 1000003)],U 2 20],.ret])
def acA:List br:=[.tmp 2]
theorem aqc (NN:Nat) (x:aY (ak.aX JU)):dH NN [Du] afb acA JU UZ x=Pc NN x:=by kernel_rfl
theorem ana:cI pX 176 afb.er acA 1=true:=by decide+kernel
theorem arD:dh pX 176 ZH.M/\bS pX 176=true:=
  dK (args:=JU) (ax:=UZ) (aG.cons HY<|aG.nil) de ana x9 fun x y h=>(aqc aP x).trans (akj x y h)
def Q0:au:=⟨128,JW,aoY,U1,yd⟩
def afd:bx:=
 (ai [ab [dO 1 3 0,da 2],ai [ab [aM 3 0 1,aC 4 1 3],.block 0 (ai [ab [aV .eql 6 4 1,U 5 6],.cond 5 (ai [ab [aM 7 1 1,aC 8 1 7,aV .eql 9 8 0,U 10 9,dz 10 (aM 11 2 1),dz 10 (aC 12 1 11),dz 10 (aV .eql 13 12 0),kJ 14 10 13,U 2 14],.ret]) (ai [ab [aV .eql 16 4 2,U 15 16],.cond 15 (ai [ab [aM 17 1 1,aC 18 1 17,bY 19 176 [18],U 20 19,dz 20 (aM 21 2 1),dz 20 (aC 22 1 21),dz 20 (aV .eql 23 22 0),kJ 24 20 23,U 2 24],.ret]) (ai [ai [ab [aV .eql 26 4 3,U 25 26],.join ⟨[(25,.one (.c (.v (.bool)))),aS 4,bX 1 1],[du 1 [vX,vX,vX]]⟩ [1] [] (.cond 25 .skip (ai [ab [aV .eql 27 4 4,U 25 27],.cond 25 .skip (ab [aV .eql 28 4 5,U 25 28])]))],.cond 25 (ai [ab [aM 29 1 1,aC 30 1 29,bY 31 177 [30,(kX 1),(kX 1000000)],U 32 31,dz 32 (aM 33 2 1),dz 32 (aC 34 1 33),dz 32 (aV .eql 35 34 0),kJ 36 32 35,U 2 36],.ret]) (ai [ab [aV .eql 38 4 6,U 37 38],.cond 37 (ai [ab [aM 39 1 1,aC 40 1 39,aV .eql 41 40 0,U 42 41,dz 42 (aM 43 2 1),dz 42 (aC 44 1 43),dz 42 (bY 45 177 [44,(kX 1),(kX 20)]),kJ 46 42 45,U 2 46],.ret]) (ai [ab [aV .eql 48 4 7,U 47 48],.cond 47 (ai [ab [aM 49 1 1,aC 50 1 49,bY 51 176 [50],U 52 51,dz 52 (aM 53 2 1),dz 52 (aC 54 1 53),dz 52 (bY 55 177 [54,(kX 1),(kX 6)]),kJ 56 52 55,U 2 56],.ret]) (ai [ab [aV .eql 58 4 8,U 57 58],.cond 57 (ai [ab [aM 59 1 1,aC 60 1 59,bY 61 176 [60],U 62 61,dz 62 (aM 63 1 1),dz 62 (aC 64 1 63),dz 62 (aV .gtr 65 64 2),kJ 66 62 65,U 67 66,dz 67 (aM 68 2 1),dz 67 (aC 69 1 68),dz 67 (aV .eql 70 69 0),kJ 71 67 70,U 2 71],.ret]) .skip])])])])])])],ab [da 2],.ret])
def acC:List br:=[.tmp 2]
theorem aqe (NN:Nat) (x:aY (ak.aX JW)):dH NN [ZH,Du] afd acC JW U1 x=Pg NN x:=by kernel_rfl
theorem anc:cI pX 128 afd.er acC 1=true:=by decide+kernel
theorem adn:dh pX 128 Q0.M/\bS pX 128=true:=
  dK (args:=JW) (ax:=U1) (aG.cons arD<|aG.cons HY<|aG.nil) de anc yd fun x y h=>(aqe aP x).trans (akl x y h)
def ZN:au:=⟨151,J4,ao6,U9,z7⟩
def afl:bx:=
 (ai [ab [bH 4 0],ai [ab [U 7 0,cj 8 7,bH 9 0],.join ⟨[],[]⟩ [] [] (.block 0 (.loop 0 ⟨[aS 1,e8 7,aS 8,aS 9],[]⟩ [] [] (ai [ab [bF .lss 10 9 8],eo 10 0,.block 1 (ai [ab [U 11 9,cE 12 1 7 9,aC 13 1 12,U 5 11,U 6 13],ab [U 14 6,U 15 1,bF .eql 16 14 15],.cond 16 (ai [ab [U 17 5,U 4 17],.ret]) .skip]),ab [aV .add 18 9 1,U 9 18]])))],ab [bH 4 (-1)],.ret])
def acK:List br:=[.tmp 4]
theorem aqm (NN:Nat) (x:aY (ak.aX J4)):dH NN [] afl acK J4 U9 x=Pm NN x:=by kernel_rfl
theorem anl:cI pX 151 afl.er acK 2=true:=by decide+kernel
theorem arJ:dh pX 151 ZN.M/\bS pX 151=true:=
  dK (args:=J4) (ax:=U9) (aG.nil) de anl z7 fun x y h=>(aqm aP x).trans (akt x y h)
def ZM:au:=⟨242,J3,ao5,U8,CG⟩
def afk:bx:=
 (ai [ab [da 4],ai [ab [U 7 0,cj 8 7,aV .gtr 9 8 12,U 10 9,bf 10 (U 11 0),bf 10 (cj 12 11),bf 10 (U 13 1),bf 10 (cj 14 13),bf 10 (bF .neq 15 12 14),gI 16 10 15],.cond 16 (ai [ab [da 4],.ret]) .skip],ai [ab [U 17 0,cj 18 17,bH 19 0],.join ⟨[],[]⟩ [] [] (.block 0 (.loop 0 ⟨[e8 0,e8 1,e8 17,aS 18,aS 19],[]⟩ [] [] (ai [ab [bF .lss 20 19 18],eo 20 0,.block 1 (ai [ab [U 21 19,cE 22 1 17 19,aC 23 1 22,U 5 21,U 6 23],ab [U 24 6,bY 25 177 [24,(kX 0),(kX 99)],fT 26 25,U 27 26,bf 27 (U 28 1),bf 27 (U 29 5),bf 27 (cE 30 1 28 29),bf 27 (aC 31 1 30),bf 27 (bY 32 177 [31,(kX 1),(kX 8)]),bf 27 (fT 33 32),gI 34 27 33,U 35 34,bf 35 (U 36 0),bf 35 (U 37 5),bf 35 (oX 38 (.slice 1 36 none (some 37))),bf 35 (U 39 6),bf 35 (bY 40 151 [38,39]),bf 35 (aV .geq 41 40 0),gI 42 35 41],.cond 42 (ai [ab [da 4],.ret]) .skip]),ab [aV .add 43 19 1,U 19 43]])))],ab [kj 4],.ret])
def acJ:List br:=[.tmp 4]
theorem aql (NN:Nat) (x:aY (ak.aX J3)):dH NN [Du,ZN] afk acJ J3 U8 x=Pl NN x:=by kernel_rfl
theorem ank:cI pX 242 afk.er acJ 2=true:=by decide+kernel
theorem arI:dh pX 242 ZM.M/\bS pX 242=true:=
  dK (args:=J3) (ax:=U8) (aG.cons HY<|aG.cons arJ<|aG.nil) de ank CG fun x y h=>(aql aP x).trans (aks x y h)
def La:au:=⟨135,J9,apb,Ve,uw⟩
def afq:bx:=
 (ai [ab [bH 4 0],ab [bH 5 1],ai [ab [U 8 0,cj 9 8,bH 10 0],.join ⟨[aS 5],[]⟩ [] [] (.block 0 (.loop 0 ⟨[aS 1,aS 5,e8 8,aS 9,aS 10],[]⟩ [] [] (ai [ab [bF .lss 11 10 9],eo 11 0,.block 1 (ai [ab [cE 12 1 8 10,aC 13 1 12,U 7 13],ab [U 14 5,U 15 7,bF .mul 16 14 15,U 17 1,aV .add 18 17 1,oX 19 (.mm false 16 18),U 5 19]]),ab [aV .add 20 10 1,U 10 20]])))],ab [U 21 5,U 4 21],.ret])
def acP:List br:=[.tmp 4]
theorem aqr (NN:Nat) (x:aY (ak.aX J9)):dH NN [] afq acP J9 Ve x=Pr NN x:=by kernel_rfl
theorem anq:cI pX 135 afq.er acP 2=true:=by decide+kernel
theorem TH:dh pX 135 La.M/\bS pX 135=true:=
  dK (args:=J9) (ax:=Ve) (aG.nil) de anq uw fun x y h=>(aqr aP x).trans (aky x y h)
def Q1:au:=⟨196,JY,ao0,U3,ur⟩
def aff:bx:=
 (ai [ab [dO 1 3 0,bH 2 0],ai [ab [aM 4 0 1,aC 5 1 4,aM 6 1 1,aC 7 1 6,bY 8 242 [5,7],fT 9 8],.cond 9 (ai [ab [bH 2 (-1)],.ret]) .skip],ab [aM 10 1 1,aC 11 1 10,bY 12 135 [11,(kX 4096)],U 3 12],ai [ab [U 13 3,aV .gtr 14 13 4096],.cond 14 (ai [ab [bH 2 (-1)],.ret]) .skip],ab [U 15 3,U 2 15],.ret])
def acE:List br:=[.tmp 2]
theorem aqg (NN:Nat) (x:aY (ak.aX JY)):dH NN [ZM,La] aff acE JY U3 x=Pj NN x:=by kernel_rfl
theorem anf:cI pX 196 aff.er acE 1=true:=by decide+kernel
theorem ado:dh pX 196 Q1.M/\bS pX 196=true:=
  dK (args:=JY) (ax:=U3) (aG.cons arI<|aG.cons TH<|aG.nil) de anf ur fun x y h=>(aqg aP x).trans (akn x y h)
def ZG:au:=⟨129,JT,aoV,UY,x8⟩
def afa:bx:=
 (ai [ab [dO 2 3 0,dO 3 2 1,da 4],ai [ab [cB 9 3 2,bY 10 196 [9],aV .lss 11 10 0,U 12 11,bf 12 (aM 13 0 3),bf 12 (aC 14 1 13),bf 12 (bY 15 177 [14,(kX 1),(kX 12)]),bf 12 (fT 16 15),gI 17 12 16,U 18 17,bf 18 (aM 19 1 3),bf 18 (aC 20 1 19),bf 18 (cj 21 20),bf 18 (aM 22 1 2),bf 18 (aC 23 1 22),bf 18 (cj 24 23),bf 18 (bF .neq 25 21 24),gI 26 18 25],.cond 26 (ai [ab [da 4],.ret]) .skip],ai [ab [aM 27 1 2,aC 28 1 27,cj 29 28,bH 30 0],.join ⟨[],[]⟩ [3] [] (.block 0 (.loop 0 ⟨[bX 3 3,e8 28,aS 29,aS 30],[(3,.box [vX,.c (.v (.list [lX]))])]⟩ [2,3] [] (ai [ab [bF .lss 31 30 29],eo 31 0,.join ⟨[aS 30,bX 3 3,e8 28,aS 29],[(3,.box [vX,.c (.v (.list [lX]))])]⟩ [3] [] (.block 1 (ai [ab [U 32 30,cE 33 1 28 30,aC 34 1 33,U 5 32,U 6 34],ai [ab [aM 35 1 3,aC 36 1 35,U 37 5,cE 38 1 36 37,aC 39 1 38,cj 40 39,U 41 6,bF .neq 42 40 41],.cond 42 (ai [ab [da 4],.ret]) .skip],ab [aM 43 1 3,aC 44 1 43,U 45 5,cE 46 1 44 45,aC 47 1 46,cj 48 47,bH 49 0],.block 2 (.loop 0 ⟨[bX 3 3,e8 28,aS 29,aS 30,e8 47,aS 48,aS 49],[(3,.box [vX,.c (.v (.list [lX]))])]⟩ [3] [] (ai [ab [bF .lss 50 49 48],eo 50 2,.block 3 (ai [ab [cE 51 1 47 49,aC 52 1 51,U 8 52],ab [U 53 8,aM 54 0 3,aC 55 1 54,aV .sub 56 55 1,bY 57 177 [53,(kX 0),56],fT 58 57],.cond 58 (ai [ab [da 4],.ret]) .skip]),ab [aV .add 59 49 1,U 49 59]]))])),ab [aV .add 60 30 1,U 30 60]])))],ab [kj 4],.ret])
def acz:List br:=[.tmp 4]
theorem aqb (NN:Nat) (x:aY (ak.aX JT)):dH NN [Q1,Du] afa acz JT UY x=Pb NN x:=by kernel_rfl
theorem am9:cI pX 129 afa.er acz 2=true:=by decide+kernel
theorem arC:dh pX 129 ZG.M/\bS pX 129=true:=
  dK (args:=JT) (ax:=UY) (aG.cons ado<|aG.cons HY<|aG.nil) de am9 x8 fun x y h=>(aqb aP x).trans (aki x y h)
def Q3:au:=⟨152,Kh,aph,Vl,yg⟩
def afx:bx:=
 (ai [ab [nH 4],ab [oX 8 (.fI iX []),U 5 8],ai [ab [U 9 0,cj 10 9,bH 11 0],.join ⟨[cd 5 701 1],[bz 701]⟩ [700,701] [df 5 701] (.block 0 (.loop 0 ⟨[aS 1,cd 5 700 1,e8 9,aS 10,aS 11],[bz 700]⟩ [8,21,22,700] [df 5 700] (ai [ab [bF .lss 12 11 10],eo 12 0,.block 1 (ai [ab [U 13 11,cE 14 1 9 11,aC 15 1 14,U 6 13,U 7 15],ab [U 16 7,U 17 1,bF .eql 18 16 17],.cond 18 (ab [U 19 5,U 20 6,oX 21 (.fI iX [20]),oX 22 (.append true iX 8 19 21),U 5 22]) .skip]),ab [aV .add 23 11 1,U 11 23]])))],ab [U 24 5,U 4 24],.ret])
def acW:List br:=[.tmp 4]
theorem aqy (NN:Nat) (x:aY (ak.aX Kh)):dH NN [] afx acW Kh Vl x=Py NN x:=by kernel_rfl
theorem anx:cI pX 152 afx.er acW 2=true:=by decide+kernel
theorem adq:dh pX 152 Q3.M/\bS pX 152=true:=
  dK (args:=Kh) (ax:=Vl) (aG.nil) de anx yg fun x y h=>(aqy aP x).trans (akF x y h)
def Q2:au:=⟨181,J7,ao9,Vc,uv⟩
def afo:bx:=
 (ai [ab [nH 2],ab [oX 3 (.fI iX []),U 4 0,oX 5 (.append true iX 8 3 4),U 2 5],.ret])
def acN:List br:=[.tmp 2]
theorem aqp (NN:Nat) (x:aY (ak.aX J7)):dH NN [] afo acN J7 Vc x=Pp NN x:=by kernel_rfl
theorem ano:cI pX 181 afo.er acN 1=true:=by decide+kernel
theorem adp:dh pX 181 Q2.M/\bS pX 181=true:=
  dK (args:=J7) (ax:=Vc) (aG.nil) de ano uv fun x y h=>(aqp aP x).trans (akw x y h)
def ZV:au:=⟨130,Kf,apf,Vj,CK⟩
def afv:bx:=
 (ai [ab [dO 1 2 0,oX 2 (.mv (.k (.one (.nil [lX]))))],ab [oX 16 (.fI iX []),oX 17 (.fI [lX] [16]),U 3 17],ai [ab [aM 18 1 1,aC 19 1 18,cj 20 19,bH 21 0],.join ⟨[cd 3 709 1,bX 1 1],[(1,.box [vX,.c (.v (.list [lX]))]),(709,.row true .aN [lX])]⟩ [1,700,709] [df 3 709] (.block 0 (.loop 0 ⟨[bX 1 1,cd 3 700 1,(19,.one (.c (.v (.list [lX])))),aS 20,aS 21],[(1,.box [vX,.c (.v (.list [lX]))]),(700,.row true .aN [lX])]⟩ [1,17,700,708] [df 3 700] (ai [ab [bF .lss 22 21 20],eo 22 0,.join ⟨[aS 21,bX 1 1,cd 3 708 1,(19,.one (.c (.v (.list [lX])))),aS 20],[(1,.box [vX,.c (.v (.list [lX]))]),(708,.row true .aN [lX])]⟩ [1,707,708] [df 3 708] (.block 1 (ai [ab [cE 23 1 19 21,aC 24 1 23,U 5 24],ab [oX 25 (.fI [lX] []),U 6 25],ai [ab [U 26 3,cj 27 26,bH 28 0],.join ⟨[cd 6 707 1,aS 21,bX 1 1,(19,.one (.c (.v (.list [lX])))),aS 20],[(1,.box [vX,.c (.v (.list [lX]))]),(707,.row true .aN [lX])]⟩ [1,701,702,707] [df 6 707] (.block 2 (.loop 0 ⟨[bX 1 1,e8 5,cd 6 701 1,(19,.one (.c (.v (.list [lX])))),aS 20,aS 21,cd 26 702 1,aS 27,aS 28],[(1,.box [vX,.c (.v (.list [lX]))]),(701,.row true .aN [lX]),(702,.row true .aN [lX])]⟩ [1,25,700,701,702,705,706] [df 6 701,df 26 702] (ai [ab [bF .lss 29 28 27],eo 29 2,.join ⟨[aS 28,bX 1 1,e8 5,cd 6 705 1,(19,.one (.c (.v (.list [lX])))),aS 20,aS 21,cd 26 706 1,aS 27],[(1,.box [vX,.c (.v (.list [lX]))]),(705,.row true .aN [lX]),(706,.row true .aN [lX])]⟩ [1,703,704,705,706] [df 6 705,df 26 706] (.block 3 (ai [ab [cE 30 1 26 28,aC 31 1 30,U 8 31],ab [bH 9 0],.block 4 (.loop 0 ⟨[bX 1 1,e8 5,cd 6 703 1,e8 8,aS 9,(19,.one (.c (.v (.list [lX])))),aS 20,aS 21,cd 26 704 1,aS 27,aS 28],[(1,.box [vX,.c (.v (.list [lX]))]),(703,.row true .aN [lX]),(704,.row true .aN [lX])]⟩ [1,41000,47,50,701,702,703,704] [df 6 703,df 26 704] (ai [ai [ab [U 32 9,aM 33 0 1,aC 34 1 33,bF .lss 35 32 34],eo 35 4],.block 5 (ai [ab [U 38 5,U 39 9,bY 40 152 [38,39],cj 41 40,aV .gtr 42 41 0],.cond 42 (ab [U 43 6,U 44 8,bY 45 181 [44],U 46 9,oX 47 (.fI iX [46]),oX 48 (.append true iX 8 45 47),oX 49 (.fI [lX] [48]),oX 50 (.append false [lX] 24 43 49),U 6 50]) .skip]),ab [U 36 9,aV .add 37 36 1,U 9 37]]))])),ab [aV .add 51 28 1,U 28 51]])))],ab [U 52 6,U 3 52]])),ab [aV .add 53 21 1,U 21 53]])))],ab [oX 54 (.fI [lX] []),U 10 54],ai [ab [U 55 3,cj 56 55,bH 57 0],.join ⟨[cd 10 718 1],[(718,.row true .aJ [lX])]⟩ [1,710,711,718] [(false,10,0,718,.aJ,[])] (.block 6 (.loop 0 ⟨[bX 1 1,cd 10 710 1,cd 55 711 1,aS 56,aS 57],[(1,.box [vX,.c (.v (.list [lX]))]),(710,.row true .aJ [lX]),(711,.row true .aN [lX])]⟩ [1,54,709,710,711,716,717] [(false,10,0,710,.aJ,[]),df 55 711] (ai [ab [bF .lss 58 57 56],eo 58 6,.join ⟨[aS 57,bX 1 1,cd 10 716 1,cd 55 717 1,aS 56],[(1,.box [vX,.c (.v (.list [lX]))]),(716,.row true .aJ [lX]),(717,.row true .aN [lX])]⟩ [1,79,714,715,716,717] [(false,10,0,716,.aJ,[]),df 55 717] (.block 7 (ai [ab [cE 59 1 55 57,aC 60 1 59,U 12 60],ab [bH 13 0],ai [ab [U 61 12,cj 62 61,bH 63 0],.join ⟨[aS 13,e8 12,aS 57,bX 1 1,cd 10 714 1,cd 55 715 1,aS 56],[(1,.box [vX,.c (.v (.list [lX]))]),(714,.row true .aJ [lX]),(715,.row true .aN [lX])]⟩ [1,712,713,714,715] [(false,10,0,714,.aJ,[]),df 55 715] (.block 8 (.loop 0 ⟨[bX 1 1,cd 10 712 1,e8 12,aS 13,cd 55 713 1,aS 56,aS 57,e8 61,aS 62,aS 63],[(1,.box [vX,.c (.v (.list [lX]))]),(712,.row true .aJ [lX]),(713,.row true .aN [lX])]⟩ [1,710,711,712,713] [(false,10,0,712,.aJ,[]),df 55 713] (ai [ab [bF .lss 64 63 62],eo 64 8,.block 9 (ai [ab [cE 65 1 61 63,aC 66 1 65,U 15 66],ab [U 67 13,U 68 15,bF .add 69 67 68,U 13 69]]),ab [aV .add 70 63 1,U 63 70]])))],ab [U 71 13,aM 72 0 1,aC 73 1 72,bF .rem 74 71 73,aV .eql 75 74 0],.cond 75 (ab [U 76 10,U 77 12,oX 78 (.fI [lX] [77]),oX 79 (.append false [lX] 24 76 78),U 10 79]) .skip])),ab [aV .add 80 57 1,U 57 80]])))],ab [U 81 10,U 2 81],.ret])
def acU:List br:=[.tmp 2]
theorem aqw (NN:Nat) (x:aY (ak.aX Kf)):Na NN [Q3,Q2] afv acU Kf Vj x=Pw NN x:=by kernel_rfl
theorem anv:cI pX 130 afv.er acU 1=true:=by decide+kernel
theorem arR:Ad pX 130 ZV.MV/\bS pX 130=true:=
  ag0 (args:=Kf) (ax:=Vj) (aG.cons adq<|aG.cons adp<|aG.nil) de anv CK fun x y h=>(aqw aP x).trans (akD x y h)
def GF:au:=⟨193,J1,ao3,U6,uu⟩
def afi:bx:=
 (ai [ab [dO 1 3 0,bH 2 0],ai [ab [aM 3 0 1,aC 4 1 3],.block 0 (ai [ab [aV .eql 6 4 7,U 5 6],.cond 5 (ai [ab [aM 7 2 1,aC 8 1 7,U 2 8],.ret]) (ai [ab [aV .eql 10 4 8,U 9 10],.cond 9 (ai [ab [bH 2 4],.ret]) .skip])])],ab [bH 2 1],.ret])
def acH:List br:=[.tmp 2]
theorem aqj (NN:Nat) (x:aY (ak.aX J1)):dH NN [] afi acH J1 U6 x=WW NN x:=by kernel_rfl
theorem ani:cI pX 193 afi.er acH 1=true:=by decide+kernel
theorem MP:dh pX 193 GF.M/\bS pX 193=true:=
  dK (args:=J1) (ax:=U6) (aG.nil) de ani uu fun x y h=>(aqj aP x).trans (akq x y h)
def ZL:au:=⟨208,J2,ao4,U7,FJ⟩
def afj:bx:=
 (ai [ab [dO 1 3 0,nH 2],ab [cB 4 3 1,bY 5 193 [4],oX 6 (.iK .aN iX 8 (0:Int) 5 5),U 3 6],ai [ab [aM 7 0 1,aC 8 1 7,aV .eql 9 8 4],.join ⟨[cd 3 700 1],[bz 700]⟩ [1,6,700] [df 3 700] (.cond 9 (ab [U 10 3,aM 11 1 1,aC 12 1 11,W4 13 1 10 0,eB 1 13 12]) .skip)],ab [U 14 3,U 2 14],.ret])
def acI:List br:=[.tmp 2]
theorem aqk (NN:Nat) (x:aY (ak.aX J2)):dH NN [GF] afj acI J2 U7 x=WX NN x:=by kernel_rfl
theorem anj:cI pX 208 afj.er acI 1=true:=by decide+kernel
theorem arH:dh pX 208 ZL.M/\bS pX 208=true:=
  dK (args:=J2) (ax:=U7) (aG.cons MP<|aG.nil) de anj FJ fun x y h=>(aqk aP x).trans (akr x y h)
def ZS:au:=⟨131,Kc,apc,Vg,CI⟩
def afs:bx:=
 (ai [ab [dO 3 3 0,kl 6 [.nil iX,.nil iX,.nil iX]],ab [U 9 1,bY 10 181 [9],U 11 2,bY 12 181 [11],oX 13 (.build [.nil iX,.nil iX,.nil iX] [(0,1,10),(1,1,12)]),kl 7 [.nil iX,.nil iX,.nil iX],eB 3 7 13],ai [ab [U 14 2,bY 15 135 [14,(kX 4096)],U 8 15],.join ⟨[bX 7 7,bX 6 6],[du 6 [fX 706 1,fX 707 1,fX 708 1],du 7 [fX 709 1,fX 710 1,fX 711 1],bz 706,bz 707,bz 708,bz 709,bz 710,bz 711]⟩ [3,6,7,700,701,702,703,704,705,706,707,708,709,710,711] [cX 6 0 706,cX 6 1 707,cX 6 2 708,cX 7 0 709,cX 7 1 710,cX 7 2 711] (.block 0 (.loop 0 ⟨[bX 3 3,bX 6 6,bX 7 7,aS 8],[du 3 [vX,vX,vX],du 6 [fX 700 1,fX 701 1,fX 702 1],du 7 [fX 703 1,fX 704 1,fX 705 1],bz 700,bz 701,bz 702,bz 703,bz 704,bz 705]⟩ [3,6,11000,13000,7,24000,24,700,701,702,703,704,705] [cX 6 0 700,cX 6 1 701,cX 6 2 702,cX 7 0 703,cX 7 1 704,cX 7 2 705] (ai [ai [ab [U 16 8,aV .gtr 17 16 0],eo 17 0],.block 1 (.gT true [aM 20 2 7,aC 21 1 20,cB 22 3 3,bY 23 208 [22],oX 24 (.append true iX 8 21 23),aM 25 2 7,eB 1 25 24]),ab [U 18 8,aV .sub 19 18 1,U 8 19]])))],ab [cB 26 3 7,eB 3 6 26],.ret])
def acR:List br:=[.cell 6 3 true]
theorem aqt (NN:Nat) (x:aY (ak.aX Kc)):dH NN [Q2,La,ZL] afs acR Kc Vg x=Pt NN x:=by kernel_rfl
theorem ans:cI pX 131 afs.er acR 3=true:=by decide+kernel
theorem arO:dh pX 131 ZS.M/\bS pX 131=true:=
  dK (args:=Kc) (ax:=Vg) (aG.cons adp<|aG.cons TH<|aG.cons arH<|aG.nil) de ans CI fun x y h=>(aqt aP x).trans (akA x y h)
def ZW:au:=⟨132,Kg,apg,Vk,CL⟩
def afw:bx:=
 (ai [ab [dO 2 2 0,oX 4 (.mv (.k (.one (.nil [lX])))),nH 5],ab [oX 11 (.fI [lX] []),U 6 11],ab [oX 12 (.fI iX []),U 7 12],ai [ab [U 13 1,cj 14 13,bH 15 0],.join ⟨[cd 6 702 1,cd 7 703 1],[(702,.row true .aN [lX]),bz 703]⟩ [2,700,701,702,703] [df 6 702,df 7 703] (.block 0 (.loop 0 ⟨[bX 2 2,cd 6 700 1,cd 7 701 1,e8 13,aS 14,aS 15],[(2,.box [vX,.c (.v (.list [lX]))]),(700,.row true .aN [lX]),bz 701]⟩ [2,11,12,30,34,35,700,701] [df 6 700,df 7 701] (ai [ab [bF .lss 16 15 14],eo 16 0,.block 1 (ai [ab [U 17 15,cE 18 1 13 15,aC 19 1 18,U 8 17,U 9 19],ab [aM 20 1 2,aC 21 1 20,U 22 8,cE 23 1 21 22,aC 24 1 23,U 25 9,bY 26 152 [24,25],U 10 26],.vM [.op (oX 27 (.mv 6)),.op (oX 28 (.mv 10)),.qD 29 (.wk 28 10),.op (oX 30 (.append false [lX] 24 27 29)),.op (oX 6 (.mv 30))],ab [U 31 7,U 32 10,cj 33 32,oX 34 (.fI iX [33]),oX 35 (.append true iX 8 31 34),U 7 35]]),ab [aV .add 36 15 1,U 15 36]])))],ab [U 37 6,U 38 7,U 4 37,U 5 38],.ret])
def acV:List br:=[.tmp 4,.tmp 5]
theorem aqx (NN:Nat) (x:aY (ak.aX Kg)):dH NN [Q3] afw acV Kg Vk x=Px NN x:=by kernel_rfl
theorem anw:cI pX 132 afw.er acV 2=true:=by decide+kernel
theorem arS:dh pX 132 ZW.M/\bS pX 132=true:=
  dK (args:=Kg) (ax:=Vk) (aG.cons adq<|aG.nil) de anw CL fun x y h=>(aqx aP x).trans (akE x y h)
def ZT:au:=⟨133,Kd,apd,Vh,rP⟩
def aft:bx:=
 (ai [ab [da 4],ai [ab [U 7 0,cj 8 7,bH 9 0],.join ⟨[e8 0,e8 1],[]⟩ [] [] (.block 0 (.loop 0 ⟨[e8 0,e8 1,e8 7,aS 8,aS 9],[]⟩ [] [] (ai [ab [bF .lss 10 9 8],eo 10 0,.block 1 (ai [ab [U 11 9,cE 12 1 7 9,aC 13 1 12,U 5 11,U 6 13],ab [U 14 5,U 15 1,cj 16 15,bF .geq 17 14 16,U 18 17,bf 18 (U 19 1),bf 18 (U 20 5),bf 18 (cE 21 1 19 20),bf 18 (aC 22 1 21),bf 18 (U 23 6),bf 18 (bF .neq 24 22 23),gI 25 18 24],.cond 25 (ai [ab [da 4],.ret]) .skip]),ab [aV .add 26 9 1,U 9 26]])))],ab [U 27 0,cj 28 27,U 29 1,cj 30 29,bF .eql 31 28 30,U 4 31],.ret])
def acS:List br:=[.tmp 4]
theorem aqu (NN:Nat) (x:aY (ak.aX Kd)):dH NN [] aft acS Kd Vh x=Pu NN x:=by kernel_rfl
theorem ant:cI pX 133 aft.er acS 2=true:=by decide+kernel
theorem arP:dh pX 133 ZT.M/\bS pX 133=true:=
  dK (args:=Kd) (ax:=Vh) (aG.nil) de ant rP fun x y h=>(aqu aP x).trans (akB x y h)
def ZK:au:=⟨194,J0,ao2,U5,FI⟩
def afh:bx:=
 (ai [ab [dO 1 3 0,bH 2 0],ai [ab [aM 3 0 1,aC 4 1 3],.block 0 (ai [ab [aV .eql 6 4 1,U 5 6],.cond 5 (ai [ab [bH 2 1],.ret]) (ai [ai [ab [aV .eql 8 4 3,U 7 8],.join ⟨[(7,.one (.c (.v (.bool)))),aS 4,bX 1 1],[du 1 [vX,vX,vX]]⟩ [1] [] (.cond 7 .skip (ai [ab [aV .eql 9 4 4,U 7 9],.cond 7 .skip (ab [aV .eql 10 4 5,U 7 10])]))],.cond 7 (ai [ab [aM 11 1 1,aC 12 1 11,U 2 12],.ret]) (ai [ab [aV .eql 14 4 6,U 13 14],.cond 13 (ai [ab [aM 15 2 1,aC 16 1 15,oX 17 (.bin .shl (kX 1) 16),aV .sub 18 17 1,U 2 18],.ret]) .skip])])])],ab [aM 19 1 1,aC 20 1 19,aV .sub 21 20 1,U 2 21],.ret])
def acG:List br:=[.tmp 2]
theorem aqi (NN:Nat) (x:aY (ak.aX J0)):dH NN [] afh acG J0 U5 x=WV NN x:=by kernel_rfl
theorem anh:cI pX 194 afh.er acG 1=true:=by decide+kernel
theorem arG:dh pX 194 ZK.M/\bS pX 194=true:=
  dK (args:=J0) (ax:=U5) (aG.nil) de anh FI fun x y h=>(aqi aP x).trans (akp x y h)
def ZJ:au:=⟨134,JX,aoZ,U2,ye⟩
def afe:bx:=
 (ai [ab [dO 2 3 0,dO 3 3 1,da 4],ab [cB 8 3 3,bY 9 196 [8],U 5 9],ai [.gT true [cB 10 3 2,bY 11 128 [10],fT 12 11,U 13 12,bf 13 (U 14 5),bf 13 (aV .lss 15 14 0),gI 16 13 15,U 17 16,bf 17 (aM 18 2 3),bf 17 (aC 19 1 18),bf 17 (cj 20 19),bf 17 (U 21 5),bf 17 (cB 22 3 2),bf 17 (bY 23 193 [22]),bf 17 (bF .mul 24 21 23),bf 17 (bF .neq 25 20 24),gI 26 17 25],.cond 26 (ai [ab [da 4],.ret]) .skip],ai [ab [aM 27 2 3,aC 28 1 27,cj 29 28,bH 30 0],.join ⟨[],[]⟩ [2] [] (.block 0 (.loop 0 ⟨[bX 2 2,e8 28,aS 29,aS 30],[du 2 [vX,vX,vX]]⟩ [2,3] [] (ai [ab [bF .lss 31 30 29],eo 31 0,.block 1 (ai [ab [cE 32 1 28 30,aC 33 1 32,U 7 33],ab [U 34 7,cB 35 3 2,bY 36 194 [35],bY 37 177 [34,(kX 0),36],fT 38 37],.cond 38 (ai [ab [da 4],.ret]) .skip]),ab [aV .add 39 30 1,U 30 39]])))],ab [kj 4],.ret])
def acD:List br:=[.tmp 4]
theorem aqf (NN:Nat) (x:aY (ak.aX JX)):dH NN [Q1,Q0,GF,ZK,Du] afe acD JX U2 x=Ph NN x:=by kernel_rfl
theorem ane:cI pX 134 afe.er acD 2=true:=by decide+kernel
theorem arF:dh pX 134 ZJ.M/\bS pX 134=true:=
  dK (args:=JX) (ax:=U2) (aG.cons ado<|aG.cons adn<|aG.cons MP<|aG.cons arG<|aG.cons HY<|aG.nil) de ane ye fun x y h=>(aqf aP x).trans (akm x y h)
def ZP:au:=⟨138,J6,ao8,Vb,CH⟩
def afn:bx:=
 (ai [ab [nH 4],ab [U 7 0,cj 8 7,oX 9 (.iK .aN iX 8 (0:Int) 8 8),U 5 9],ai [ab [U 10 0,cj 11 10,aV .sub 12 11 1,U 6 12],.join ⟨[cd 5 701 1],[bz 701]⟩ [700,701] [df 5 701] (.block 0 (.loop 0 ⟨[e8 0,aS 1,cd 5 700 1,aS 6],[bz 700]⟩ [9,700] [df 5 700] (ai [ai [ab [U 13 6,aV .geq 14 13 0],eo 14 0],.block 1 (ai [ab [U 17 5,U 18 6,U 19 1,U 20 0,U 21 6,cE 22 1 20 21,aC 23 1 22,bF .rem 24 19 23,cE 25 1 17 18,eB 1 25 24],ab [U 26 1,U 27 0,U 28 6,cE 29 1 27 28,aC 30 1 29,bF .quo 31 26 30,U 1 31]]),ab [U 15 6,aV .sub 16 15 1,U 6 16]])))],ab [U 32 5,U 4 32],.ret])
def acM:List br:=[.tmp 4]
theorem aqo (NN:Nat) (x:aY (ak.aX J6)):dH NN [] afn acM J6 Vb x=Po NN x:=by kernel_rfl
theorem ann:cI pX 138 afn.er acM 2=true:=by decide+kernel
theorem arL:dh pX 138 ZP.M/\bS pX 138=true:=
  dK (args:=J6) (ax:=Vb) (aG.nil) de ann CH fun x y h=>(aqo aP x).trans (akv x y h)
def ZU:au:=⟨137,Ke,ape,Vi,CJ⟩
def afu:bx:=
 (ai [ab [nH 4],ab [oX 8 (.fI iX []),U 5 8],ai [ab [U 9 1,cj 10 9,bH 11 0],.join ⟨[cd 5 701 1],[bz 701]⟩ [700,701] [df 5 701] (.block 0 (.loop 0 ⟨[(0,.one (.c (.v (.list [lX])))),cd 5 700 1,e8 9,aS 10,aS 11],[bz 700]⟩ [8,24,25,700] [df 5 700] (ai [ab [bF .lss 12 11 10],eo 12 0,.block 1 (ai [ab [U 13 11,cE 14 1 9 11,aC 15 1 14,U 6 13,U 7 15],ab [U 16 5,U 17 0,U 18 6,cE 19 1 17 18,aC 20 1 19,U 21 7,cE 22 1 20 21,aC 23 1 22,oX 24 (.fI iX [23]),oX 25 (.append true iX 8 16 24),U 5 25]]),ab [aV .add 26 11 1,U 11 26]])))],ab [U 27 5,U 4 27],.ret])
def acT:List br:=[.tmp 4]
theorem aqv (NN:Nat) (x:aY (ak.aX Ke)):dH NN [] afu acT Ke Vi x=Pv NN x:=by kernel_rfl
theorem anu:cI pX 137 afu.er acT 2=true:=by decide+kernel
theorem arQ:dh pX 137 ZU.M/\bS pX 137=true:=
  dK (args:=Ke) (ax:=Vi) (aG.nil) de anu CJ fun x y h=>(aqv aP x).trans (akC x y h)
def ZQ:au:=⟨136,J8,apa,Vd,yf⟩
def afp:bx:=
 (ai [ab [bH 4 0],ab [bH 5 0],ai [ab [U 8 0,cj 9 8,bH 10 0],.join ⟨[aS 5],[]⟩ [] [] (.block 0 (.loop 0 ⟨[e8 1,aS 5,e8 8,aS 9,aS 10],[]⟩ [] [] (ai [ab [bF .lss 11 10 9],eo 11 0,.block 1 (ai [ab [U 12 10,cE 13 1 8 10,aC 14 1 13,U 6 12,U 7 14],ab [U 15 5,U 16 7,bF .mul 17 15 16,U 18 1,U 19 6,cE 20 1 18 19,aC 21 1 20,bF .add 22 17 21,U 5 22]]),ab [aV .add 23 10 1,U 10 23]])))],ab [U 24 5,U 4 24],.ret])
def acO:List br:=[.tmp 4]
theorem aqq (NN:Nat) (x:aY (ak.aX J8)):dH NN [] afp acO J8 Vd x=Pq NN x:=by kernel_rfl
theorem anp:cI pX 136 afp.er acO 2=true:=by decide+kernel
theorem arM:dh pX 136 ZQ.M/\bS pX 136=true:=
  dK (args:=J8) (ax:=Vd) (aG.nil) de anp yf fun x y h=>(aqq aP x).trans (akx x y h)
def ZO:au:=⟨139,J5,ao7,Va,v5⟩
def afm:bx:=
 (ai [ab [dO 3 3 0,dO 4 3 1,nH 6],ab [cB 8 3 3,bY 9 193 [8],U 7 9],ab [oX 10 (.fI iX []),aM 11 2 4,aC 12 1 11,U 13 2,U 14 7,bF .mul 15 13 14,U 16 2,U 17 7,bF .mul 18 16 17,U 19 7,bF .add 20 18 19,oX 21 (.slice 1 12 (some 15) (some 20)),oX 22 (.append true iX 8 10 21),U 6 22],.ret])
def acL:List br:=[.tmp 6]
theorem aqn (NN:Nat) (x:aY (ak.aX J5)):dH NN [GF] afm acL J5 Va x=Pn NN x:=by kernel_rfl
theorem anm:cI pX 139 afm.er acL 3=true:=by decide+kernel
theorem arK:dh pX 139 ZO.M/\bS pX 139=true:=
  dK (args:=J5) (ax:=Va) (aG.cons MP<|aG.nil) de anm v5 fun x y h=>(aqn aP x).trans (aku x y h)
def ZR:au:=⟨85,Ka,MA,Vf,z8⟩
def afr:bx:=
 (ai [ab [dO 4 3 0,dO 5 3 1],ab [cB 10 3 4,bY 11 193 [10],U 8 11],ab [U 12 3,cj 13 12,bH 14 0],.block 0 (.loop 0 ⟨[aS 2,e8 3,bX 5 5,aS 8,aS 13,aS 14],[(1000000,.row false .aN iX),du 5 [cb,cb,fX 1000000 1]]⟩ [1000000,4,5,700] [cX 5 2 700] (ai [ab [bF .lss 15 14 13],eo 15 0,.block 1 (ai [ab [U 16 14,U 9 16],.gT true [aM 17 2 5,aC 18 1 17,U 19 2,U 20 8,bF .mul 21 19 20,U 22 9,bF .add 23 21 22,U 24 3,U 25 9,cE 26 1 24 25,aC 27 1 26,cE 28 1 18 23,eB 1 28 27]]),ab [aV .add 29 14 1,U 14 29]]))])
def acQ:List br:=[]
theorem aqs (NN:Nat) (x:aY (ak.aX Ka)):xK NN [GF] afr acQ Ka MA Vf x=Ps NN x:=by kernel_rfl
theorem anr:cI pX 85 afr.er acQ 4=true:=by decide+kernel
theorem arN:rQ pX 85 MA ZR.MM/\bS pX 85=true:=
  BD (args:=Ka) (mu:=MA) (ax:=Vf) (aG.cons MP<|aG.nil) de anr z8 fun x y h=>(aqs aP x).trans (akz x y h)
def ZI:au:=⟨57,JV,aoX,U0,yb⟩
def afc:bx:=
 (ai [ab [dO 4 3 0,dO 5 3 1,dO 6 2 2,kl 8 [.nil iX,.nil iX,.nil iX],da 9],ai [ab [cB 17 3 4,bY 18 128 [17],fT 19 18,U 20 19,bf 20 (cB 21 3 5),bf 20 (cB 22 2 6),bf 20 (bY 23 129 [21,22]),bf 20 (fT 24 23),gI 25 20 24],.cond 25 (ai [ab [oX 26 (.build [.nil iX,.nil iX,.nil iX] []),eB 3 8 26,da 9],.ret]) .skip],ab [cB 27 2 6,aXj 28 130 [27],U 10 28],ai [ab [U 29 10,cj 30 29,U 31 3,cj 32 31,bF .neq 33 30 32],.cond 33 (ai [ab [oX 34 (.build [.nil iX,.nil iX,.nil iX] []),eB 3 8 34,da 9],.ret]) .skip],ab [cB 35 3 4,aM 36 0 5,aC 37 1 36,aM 38 1 5,aC 39 1 38,bY 40 131 [35,37,39],kl 11 [.nil iX,.nil iX,.nil iX],eB 3 11 40],ai [ab [U 41 3,cj 42 41,bH 43 0],.join ⟨[bX 11 11,bX 8 8],[du 8 [fX 720 1,fX 721 1,fX 722 1],du 11 [fX 723 1,fX 724 1,fX 725 1],bz 720,bz 721,bz 722,bz 723,bz 724,bz 725]⟩ [4,5,6,8,11,700,701,702,703,704,705,720,721,722,723,724,725] [cX 8 0 720,cX 8 1 721,cX 8 2 722,cX 11 0 723,cX 11 1 724,cX 11 2 725] (.block 0 (.loop 0 ⟨[bX 4 4,bX 5 5,bX 6 6,bX 8 8,(10,.one (.c (.v (.list [lX])))),bX 11 11,(41,.one (.c (.v (.list [lX,lX,lX,lX])))),aS 42,aS 43],[du 4 [vX,vX,vX],du 5 [cb,cb,cb],(6,.box [vX,.c (.v (.list [lX]))]),du 8 [fX 700 1,fX 701 1,fX 702 1],du 11 [fX 703 1,fX 704 1,fX 705 1],bz 700,bz 701,bz 702,bz 703,bz 704,bz 705]⟩ [4,5,6,8,41000,41001,41002,11,700,701,702,703,704,705,714,715,716,717,718,719] [cX 8 0 700,cX 8 1 701,cX 8 2 702,cX 11 0 703,cX 11 1 704,cX 11 2 705] (ai [ab [bF .lss 44 43 42],eo 44 0,.join ⟨[aS 43,bX 4 4,bX 5 5,bX 6 6,bX 8 8,(10,.one (.c (.v (.list [lX])))),bX 11 11,(41,.one (.c (.v (.list [lX,lX,lX,lX])))),aS 42],[du 4 [vX,vX,vX],du 5 [cb,cb,cb],(6,.box [vX,.c (.v (.list [lX]))]),du 8 [fX 714 1,fX 715 1,fX 716 1],du 11 [fX 717 1,fX 718 1,fX 719 1],bz 714,bz 715,bz 716,bz 717,bz 718,bz 719]⟩ [4,5,6,8,11,13,706,707,708,709,710,711,712,713,714,715,716,717,718,719] [cX 8 0 714,cX 8 1 715,cX 8 2 716,cX 11 0 717,cX 11 1 718,cX 11 2 719] (.block 1 (ai [ab [U 45 43,cE 46 4 41 43,cB 47 4 46,kl 13 [.nil iX,.nil iX,.nil iX,.nil iX],U 12 45,eB 4 13 47],.gT true [cB 49 2 6,U 50 10,U 51 12,cE 52 1 50 51,aC 53 1 52,bY 54 132 [49,53],U 48 54,yk 55 0 48,yk 56 1 48,U 14 55,U 15 56],ai [.gT true [aM 57 0 13,aC 58 1 57,U 59 10,U 60 12,cE 61 1 59 60,aC 62 1 61,bY 63 133 [58,62],fT 64 63,U 65 64,bf 65 (cB 66 3 4),bf 65 (aM 67 1 13),bf 65 (cB 68 3 67),bf 65 (bY 69 134 [66,68]),bf 65 (fT 70 69),gI 71 65 70,U 72 71,bf 72 (aM 73 1 13),bf 72 (aM 74 0 73),bf 72 (aC 75 1 74),bf 72 (aM 76 0 5),bf 72 (aC 77 1 76),bf 72 (bY 78 133 [75,77]),bf 72 (fT 79 78),gI 80 72 79,U 81 80,bf 81 (aM 82 1 13),bf 81 (aM 83 1 82),bf 81 (aC 84 1 83),bf 81 (U 85 15),bf 81 (bY 86 133 [84,85]),bf 81 (fT 87 86),gI 88 81 87],.cond 88 (ai [ab [oX 89 (.build [.nil iX,.nil iX,.nil iX] []),eB 3 8 89,da 9],.ret]) .skip],ab [bH 16 0],.block 2 (.loop 0 ⟨[bX 4 4,bX 5 5,bX 6 6,bX 8 8,(10,.one (.c (.v (.list [lX])))),bX 11 11,bX 13 13,cd 14 712 1,cd 15 713 1,aS 16,(41,.one (.c (.v (.list [lX,lX,lX,lX])))),aS 42,aS 43],[du 4 [vX,vX,vX],du 5 [cb,cb,cb],(6,.box [vX,.c (.v (.list [lX]))]),du 8 [fX 706 1,fX 707 1,fX 708 1],du 11 [fX 709 1,fX 710 1,fX 711 1],du 13 [cb,cb,cb,cb],bz 706,bz 707,bz 708,bz 709,bz 710,bz 711,(712,.row true .aN [lX]),bz 713]⟩ [4,5,6,8,11,13,55000,55001,104000,105000,111000,700,701,702,703,704,705,706,707,708,709,710,711,712,713] [cX 8 0 706,cX 8 1 707,cX 8 2 708,cX 11 0 709,cX 11 1 710,cX 11 2 711,df 14 712,df 15 713] (ai [ai [ab [U 90 16,U 91 15,bY 92 135 [91,(kX 4096)],bF .lss 93 90 92],eo 93 2],.block 3 (.gT true [cB 96 3 4,cB 97 3 11,aM 98 1 5,aC 99 1 98,U 100 14,U 101 15,U 102 16,bY 103 138 [101,102],bY 104 137 [100,103],bY 105 136 [99,104],cB 106 3 4,aM 107 1 13,cB 108 3 107,U 109 16,bY 110 139 [106,108,109],oX 111 (.gU .aN 85 [96,97,105,110])]),ab [U 94 16,aV .add 95 94 1,U 16 95]]))])),ab [aV .add 112 43 1,U 43 112]])))],ab [cB 113 3 11,eB 3 8 113,kj 9],.ret])
def acB:List br:=[.cell 8 3 true,.tmp 9]
theorem aqd (NN:Nat) (x:aY (ak.aX JV)):dH NN [Q0,ZG,ZV,ZS,ZW,ZT,ZJ,La,ZP,ZU,ZQ,ZO,ZR] afc acB JV U0 x=Pf NN x:=by kernel_rfl
theorem anb:cI pX 57 afc.er acB 4=true:=by decide+kernel
theorem arE:dh pX 57 ZI.M/\bS pX 57=true:=
  dK (args:=JV) (ax:=U0) (aG.cons adn<|aG.cons arC<|aG.XU arR<|aG.cons arO<|aG.cons arS<|aG.cons arP<|aG.cons arF<|aG.cons TH<|aG.cons arL<|aG.cons arQ<|aG.cons arM<|aG.cons arK<|aG.uN arN<|aG.nil) de anb yb fun x y h=>(aqd aP x).trans (akk x y h)
def Y7:au:=⟨184,I6,aoe,T9,xX⟩
def aem:bx:=
 (ai [ab [da 2],ai [ab [U 4 0,aV .lss 5 4 2,U 6 5,bf 6 (U 7 0),bf 6 (aV .gtr 8 7 1000003),gI 9 6 8],.cond 9 (ai [ab [da 2],.ret]) .skip],ai [ab [bH 3 2],.join ⟨[],[]⟩ [] [] (.block 0 (.loop 0 ⟨[aS 0,aS 3],[]⟩ [] [] (ai [ai [ab [U 10 3,U 11 3,bF .mul 12 10 11,U 13 0,bF .leq 14 12 13],eo 14 0],.block 1 (ai [ab [U 17 0,U 18 3,bF .rem 19 17 18,aV .eql 20 19 0],.cond 20 (ai [ab [da 2],.ret]) .skip]),ab [U 15 3,aV .add 16 15 1,U 3 16]])))],ab [kj 2],.ret])
def abI:List br:=[.tmp 2]
theorem apk (NN:Nat) (x:aY (ak.aX I6)):dH NN [] aem abI I6 T9 x=Ot NN x:=by kernel_rfl
theorem aml:cI pX 184 aem.er abI 1=true:=by decide+kernel
theorem aqY:dh pX 184 Y7.M/\bS pX 184=true:=
  dK (args:=I6) (ax:=T9) (aG.nil) de aml xX fun x y h=>(apk aP x).trans (ajx x y h)
def QR:au:=⟨119,I8,aog,Ub,xY⟩
def aeo:bx:=
 (ai [ab [dO 1 3 0,da 2],ai [ab [aM 3 0 1,aC 4 1 3],.block 0 (ai [ab [aV .eql 6 4 1,U 5 6],.cond 5 (ai [ab [aM 7 1 1,aC 8 1 7,aV .eql 9 8 0,U 10 9,dz 10 (aM 11 2 1),dz 10 (aC 12 1 11),dz 10 (aV .eql 13 12 0),kJ 14 10 13,U 2 14],.ret]) (ai [ab [aV .eql 16 4 2,U 15 16],.cond 15 (ai [ab [aM 17 1 1,aC 18 1 17,bY 19 184 [18],U 20 19,dz 20 (aM 21 2 1),dz 20 (aC 22 1 21),dz 20 (aV .eql 23 22 0),kJ 24 20 23,U 2 24],.ret]) (ai [ai [ab [aV .eql 26 4 3,U 25 26],.join ⟨[(25,.one (.c (.v (.bool)))),aS 4,bX 1 1],[du 1 [vX,vX,vX]]⟩ [1] [] (.cond 25 .skip (ai [ab [aV .eql 27 4 4,U 25 27],.cond 25 .skip (ab [aV .eql 28 4 5,U 25 28])]))],.cond 25 (ai [ab [aM 29 1 1,aC 30 1 29,aV .geq 31 30 1,U 32 31,dz 32 (aM 33 1 1),dz 32 (aC 34 1 33),dz 32 (aV .leq 35 34 1000000),kJ 36 32 35,U 37 36,dz 37 (aM 38 2 1),dz 37 (aC 39 1 38),dz 37 (aV .eql 40 39 0),kJ 41 37 40,U 2 41],.ret]) (ai [ab [aV .eql 43 4 6,U 42 43],.cond 42 (ai [ab [aM 44 1 1,aC 45 1 44,aV .eql 46 45 0,U 47 46,dz 47 (aM 48 2 1),dz 47 (aC 49 1 48),dz 47 (aV .geq 50 49 1),kJ 51 47 50,U 52 51,dz 52 (aM 53 2 1),dz 52 (aC 54 1 53),dz 52 (aV .leq 55 54 20),kJ 56 52 55,U 2 56],.ret]) (ai [ab [aV .eql 58 4 7,U 57 58],.cond 57 (ai [ab [aM 59 1 1,aC 60 1 59,bY 61 184 [60],U 62 61,dz 62 (aM 63 2 1),dz 62 (aC 64 1 63),dz 62 (aV .geq 65 64 1),kJ 66 62 65,U 67 66,dz 67 (aM 68 2 1),dz 67 (aC 69 1 68),dz 67 (aV .leq 70 69 6),kJ 71 67 70,U 2 71],.ret]) (ai [ab [aV .eql 73 4 8,U 72 73],.cond 72 (ai [ab [aM 74 1 1,aC 75 1 74,bY 76 184 [75],U 77 76,dz 77 (aM 78 1 1),dz 77 (aC 79 1 78),dz 77 (aV .neq 80 79 2),kJ 81 77 80,U 82 81,dz 82 (aM 83 2 1),dz 82 (aC 84 1 83),dz 82 (aV .eql 85 84 0),kJ 86 82 85,U 2 86],.ret]) .skip])])])])])])],ab [da 2],.ret])
def abK:List br:=[.tmp 2]
theorem apm (NN:Nat) (x:aY (ak.aX I8)):dH NN [Y7] aeo abK I8 Ub x=Ov NN x:=by kernel_rfl
theorem amn:cI pX 119 aeo.er abK 1=true:=by decide+kernel
theorem ade:dh pX 119 QR.M/\bS pX 119=true:=
  dK (args:=I8) (ax:=Ub) (aG.cons aqY<|aG.nil) de amn xY fun x y h=>(apm aP x).trans (ajz x y h)
def QU:au:=⟨217,Jg,aoo,Uj,vY⟩
def aew:bx:=
 (ai [ab [da 4],ai [ab [U 7 0,cj 8 7,bH 9 0],.join ⟨[],[]⟩ [] [] (.block 0 (.loop 0 ⟨[aS 1,e8 7,aS 8,aS 9],[]⟩ [] [] (ai [ab [bF .lss 10 9 8],eo 10 0,.block 1 (ai [ab [cE 11 1 7 9,aC 12 1 11,U 6 12],ab [U 13 1,U 14 6,bF .eql 15 13 14],.cond 15 (ai [ab [kj 4],.ret]) .skip]),ab [aV .add 16 9 1,U 9 16]])))],ab [da 4],.ret])
def abS:List br:=[.tmp 4]
theorem apv (NN:Nat) (x:aY (ak.aX Jg)):dH NN [] aew abS Jg Uj x=OD NN x:=by kernel_rfl
theorem amv:cI pX 217 aew.er abS 2=true:=by decide+kernel
theorem adh:dh pX 217 QU.M/\bS pX 217=true:=
  dK (args:=Jg) (ax:=Uj) (aG.nil) de amv vY fun x y h=>(apv aP x).trans (ajH x y h)
def QS:au:=⟨165,Ja,aoi,Ud,xZ⟩
def aeq:bx:=
 (ai [ab [dO 1 3 0,bH 2 0],ai [ab [aM 7 0 1,aC 8 1 7,cj 9 8,aV .gtr 10 9 12,U 11 10,bf 11 (aM 12 0 1),bf 11 (aC 13 1 12),bf 11 (cj 14 13),bf 11 (aM 15 1 1),bf 11 (aC 16 1 15),bf 11 (cj 17 16),bf 11 (bF .neq 18 14 17),gI 19 11 18],.cond 19 (ai [ab [bH 2 (-1)],.ret]) .skip],ab [bH 3 1],ai [ab [aM 20 0 1,aC 21 1 20,cj 22 21,bH 23 0],.join ⟨[aS 3],[]⟩ [1] [] (.block 0 (.loop 0 ⟨[bX 1 1,aS 3,e8 21,aS 22,aS 23],[du 1 [cb,cb,cb]]⟩ [1] [] (ai [ab [bF .lss 24 23 22],eo 24 0,.block 1 (ai [ab [U 25 23,cE 26 1 21 23,aC 27 1 26,U 4 25,U 5 27],ai [ab [U 28 5,aV .lss 29 28 0,U 30 29,bf 30 (U 31 5),bf 30 (aV .gtr 32 31 99),gI 33 30 32,U 34 33,bf 34 (aM 35 0 1),bf 34 (aC 36 1 35),bf 34 (U 37 4),bf 34 (oX 38 (.slice 1 36 none (some 37))),bf 34 (U 39 5),bf 34 (bY 40 217 [38,39]),gI 41 34 40],.cond 41 (ai [ab [bH 2 (-1)],.ret]) .skip],ab [aM 42 1 1,aC 43 1 42,U 44 4,cE 45 1 43 44,aC 46 1 45,U 6 46],ai [ab [U 47 6,aV .lss 48 47 1,U 49 48,bf 49 (U 50 6),bf 49 (aV .gtr 51 50 8),gI 52 49 51,U 53 52,bf 53 (U 54 3),bf 53 (U 55 6),bf 53 (bF .mul 56 54 55),bf 53 (aV .gtr 57 56 4096),gI 58 53 57],.cond 58 (ai [ab [bH 2 (-1)],.ret]) .skip],ab [U 59 3,U 60 6,bF .mul 61 59 60,U 3 61]]),ab [aV .add 62 23 1,U 23 62]])))],ab [U 63 3,U 2 63],.ret])
def abM:List br:=[.tmp 2]
theorem apo (NN:Nat) (x:aY (ak.aX Ja)):dH NN [QU] aeq abM Ja Ud x=Ox NN x:=by kernel_rfl
theorem amp:cI pX 165 aeq.er abM 1=true:=by decide+kernel
theorem adf:dh pX 165 QS.M/\bS pX 165=true:=
  dK (args:=Ja) (ax:=Ud) (aG.cons adh<|aG.nil) de amp xZ fun x y h=>(apo aP x).trans (ajB x y h)
def Ze:au:=⟨166,Jh,aop,Uk,z5⟩
def aex:bx:=
 (ai [ab [da 4],ai [ab [U 7 1,cj 8 7,bH 9 0],.join ⟨[],[]⟩ [] [] (.block 0 (.loop 0 ⟨[aS 0,e8 7,aS 8,aS 9],[]⟩ [] [] (ai [ab [bF .lss 10 9 8],eo 10 0,.block 1 (ai [ab [cE 11 1 7 9,aC 12 1 11,U 6 12],ab [U 13 6,aV .lss 14 13 0,U 15 14,bf 15 (U 16 6),bf 15 (U 17 0),bf 15 (bF .geq 18 16 17),gI 19 15 18],.cond 19 (ai [ab [da 4],.ret]) .skip]),ab [aV .add 20 9 1,U 9 20]])))],ab [kj 4],.ret])
def abT:List br:=[.tmp 4]
theorem apw (NN:Nat) (x:aY (ak.aX Jh)):dH NN [] aex abT Jh Uk x=OE NN x:=by kernel_rfl
theorem amw:cI pX 166 aex.er abT 2=true:=by decide+kernel
theorem aq6:dh pX 166 Ze.M/\bS pX 166=true:=
  dK (args:=Jh) (ax:=Uk) (aG.nil) de amw z5 fun x y h=>(apw aP x).trans (ajI x y h)
def Y6:au:=⟨66,I5,aod,T8,Ch⟩
def ael:bx:=
 (ai [ab [dO 2 3 0,dO 3 2 1,da 4],ai [ab [cB 7 3 2,bY 8 165 [7],aV .eql 9 8 (-1),U 10 9,bf 10 (aM 11 0 3),bf 10 (aC 12 1 11),bf 10 (aV .lss 13 12 1),gI 14 10 13,U 15 14,bf 15 (aM 16 0 3),bf 15 (aC 17 1 16),bf 15 (aV .gtr 18 17 12),gI 19 15 18,U 20 19,bf 20 (aM 21 1 3),bf 20 (aC 22 1 21),bf 20 (cj 23 22),bf 20 (aM 24 1 2),bf 20 (aC 25 1 24),bf 20 (cj 26 25),bf 20 (bF .neq 27 23 26),gI 28 20 27],.cond 28 (ai [ab [da 4],.ret]) .skip],ai [ab [aM 29 1 3,aC 30 1 29,cj 31 30,bH 32 0],.join ⟨[],[]⟩ [2,3] [] (.block 0 (.loop 0 ⟨[bX 2 2,bX 3 3,(30,.one (.c (.v (.list [lX])))),aS 31,aS 32],[du 2 [cb,cb,cb],(3,.box [vX,.c (.v (.list [lX]))])]⟩ [2,3] [] (ai [ab [bF .lss 33 32 31],eo 33 0,.block 1 (ai [ab [U 34 32,cE 35 1 30 32,aC 36 1 35,U 5 34,U 6 36],ab [U 37 6,cj 38 37,aM 39 1 2,aC 40 1 39,U 41 5,cE 42 1 40 41,aC 43 1 42,bF .neq 44 38 43,U 45 44,bf 45 (aM 46 0 3),bf 45 (aC 47 1 46),bf 45 (U 48 6),bf 45 (bY 49 166 [47,48]),bf 45 (fT 50 49),gI 51 45 50],.cond 51 (ai [ab [da 4],.ret]) .skip]),ab [aV .add 52 32 1,U 32 52]])))],ab [kj 4],.ret])
def abH:List br:=[.tmp 4]
theorem apj (NN:Nat) (x:aY (ak.aX I5)):dH NN [QS,Ze] ael abH I5 T8 x=Oq NN x:=by kernel_rfl
theorem amk:cI pX 66 ael.er abH 2=true:=by decide+kernel
theorem aqX:dh pX 66 Y6.M/\bS pX 66=true:=
  dK (args:=I5) (ax:=T8) (aG.cons adf<|aG.cons aq6<|aG.nil) de amk Ch fun x y h=>(apj aP x).trans (ajw x y h)
def Zm:au:=⟨162,Jr,aox,Uu,Ct⟩
def aeH:bx:=
 (ai [ab [bH 2 0],ab [bH 3 0],ai [ab [U 6 0,cj 7 6,bH 8 0],.join ⟨[aS 3],[]⟩ [] [] (.block 0 (.loop 0 ⟨[aS 3,e8 6,aS 7,aS 8],[]⟩ [] [] (ai [ab [bF .lss 9 8 7],eo 9 0,.block 1 (ai [ab [cE 10 1 6 8,aC 11 1 10,U 5 11],ab [U 12 3,U 13 5,bF .add 14 12 13,U 3 14]]),ab [aV .add 15 8 1,U 8 15]])))],ab [U 16 3,U 2 16],.ret])
def ab3:List br:=[.tmp 2]
theorem apG (NN:Nat) (x:aY (ak.aX Jr)):dH NN [] aeH ab3 Jr Uu x=OO NN x:=by kernel_rfl
theorem amG:cI pX 162 aeH.er ab3 1=true:=by decide+kernel
theorem arf:dh pX 162 Zm.M/\bS pX 162=true:=
  dK (args:=Jr) (ax:=Uu) (aG.nil) de amG Ct fun x y h=>(apG aP x).trans (ajP x y h)
def QT:au:=⟨187,Jd,aol,Ug,te⟩
def aet:bx:=
 (ai [ab [nH 2],ab [U 3 0,oX 4 (.append true iX 8 (.k (.one (.nil iX))) 3),U 2 4],.ret])
def abP:List br:=[.tmp 2]
theorem aps (NN:Nat) (x:aY (ak.aX Jd)):dH NN [] aet abP Jd Ug x=OA NN x:=by kernel_rfl
theorem ams:cI pX 187 aet.er abP 1=true:=by decide+kernel
theorem adg:dh pX 187 QT.M/\bS pX 187=true:=
  dK (args:=Jd) (ax:=Ug) (aG.nil) de ams te fun x y h=>(aps aP x).trans (ajE x y h)
def QW:au:=⟨218,Js,aoy,Uv,tf⟩
def aeI:bx:=
 (ai [ab [nH 4],ab [nH 5],ai [ab [U 8 0,cj 9 8,bH 10 0],.join ⟨[cd 5 701 1],[bz 701]⟩ [700,701] [df 5 701] (.block 0 (.loop 0 ⟨[aS 1,cd 5 700 1,e8 8,aS 9,aS 10],[bz 700]⟩ [20,21,700] [df 5 700] (ai [ab [bF .lss 11 10 9],eo 11 0,.block 1 (ai [ab [U 12 10,cE 13 1 8 10,aC 14 1 13,U 6 12,U 7 14],ab [U 15 7,U 16 1,bF .eql 17 15 16],.cond 17 (ab [U 18 5,U 19 6,oX 20 (.fI iX [19]),oX 21 (.append true iX 8 18 20),U 5 21]) .skip]),ab [aV .add 22 10 1,U 10 22]])))],ab [U 23 5,U 4 23],.ret])
def ab4:List br:=[.tmp 4]
theorem apH (NN:Nat) (x:aY (ak.aX Js)):dH NN [] aeI ab4 Js Uv x=OP NN x:=by kernel_rfl
theorem amH:cI pX 218 aeI.er ab4 2=true:=by decide+kernel
theorem adj:dh pX 218 QW.M/\bS pX 218=true:=
  dK (args:=Js) (ax:=Uv) (aG.nil) de amH tf fun x y h=>(apH aP x).trans (ajQ x y h)
def QV:au:=⟨173,Jj,Mt,Um,x3⟩
def aez:bx:=
 (ai [ab [da 4],ai [ab [U 6 0,cj 7 6,aV .sub 8 7 1,U 5 8],.join ⟨[],[(1000000,.row false .aN iX)]⟩ [1000000] [] (.block 0 (.loop 0 ⟨[e8 0,cd 1 1000000 1,aS 5],[(1000000,.row false .aN iX)]⟩ [1000000,700] [df 1 700] (ai [ai [ab [U 9 5,aV .geq 10 9 0],eo 10 0],.block 1 (ai [ab [U 13 1,U 14 5,cE 15 1 13 14,aC 16 1 15,aV .add 17 16 1,cE 18 1 13 14,eB 1 18 17],ai [.gT true [U 19 1,U 20 5,cE 21 1 19 20,aC 22 1 21,U 23 0,U 24 5,cE 25 1 23 24,aC 26 1 25,bF .lss 27 22 26],.cond 27 (ai [ab [kj 4],.ret]) .skip],ab [U 28 1,U 29 5,cE 30 1 28 29,uX (.store 1 30 (kX 0))]]),ab [U 11 5,aV .sub 12 11 1,U 5 12]])))],ab [da 4],.ret])
def abV:List br:=[.tmp 4]
theorem apy (NN:Nat) (x:aY (ak.aX Jj)):xK NN [] aez abV Jj Mt Um x=OH NN x:=by kernel_rfl
theorem amy:cI pX 173 aez.er abV 2=true:=by decide+kernel
theorem adi:rQ pX 173 Mt QV.MM/\bS pX 173=true:=
  BD (args:=Jj) (mu:=Mt) (ax:=Um) (aG.nil) de amy x3 fun x y h=>(apy aP x).trans (ajK x y h)
def akK:au:=⟨124,Jb,acX,Ue,FH⟩
def aer:bx:=
 (ai [ab [dO 2 3 0,dO 3 2 1,oX 4 (.mv (.k (.one (.nil [lX,lX,lX,lX]))))],ab [aM 18 1 3,aC 19 1 18,cj 20 19,oX 21 (.iK .live [lX] 24 [] 20 20),U 5 21],ab [aM 22 1 3,aC 23 1 22,cj 24 23,oX 25 (.iK .aN iX 8 (0:Int) 24 24),U 6 25],ai [ab [aM 26 1 3,aC 27 1 26,cj 28 27,bH 29 0],.join ⟨[cd 5 708 1,bX 3 3,bX 2 2,cd 6 709 1],[du 2 [cb,cb,cb],(3,.box [vX,.c (.v (.list [lX]))]),(708,.row true .live [lX]),bz 709]⟩ [2,3,700,701,708,709] [(false,5,0,708,.live,[]),df 6 709] (.block 0 (.loop 0 ⟨[bX 2 2,bX 3 3,cd 5 700 1,cd 6 701 1,(27,.one (.c (.v (.list [lX])))),aS 28,aS 29],[du 2 [cb,cb,cb],(3,.box [vX,.c (.v (.list [lX]))]),(700,.row true .live [lX]),bz 701]⟩ [2,3,21,25,700,701,706,707] [(false,5,0,700,.live,[]),df 6 701] (ai [ab [bF .lss 30 29 28],eo 30 0,.join ⟨[aS 29,bX 2 2,bX 3 3,cd 5 706 1,cd 6 707 1,(27,.one (.c (.v (.list [lX])))),aS 28],[du 2 [cb,cb,cb],(3,.box [vX,.c (.v (.list [lX]))]),(706,.row true .live [lX]),bz 707]⟩ [2,3,704,705,706,707] [(false,5,0,706,.live,[]),df 6 707] (.block 1 (ai [ab [U 31 29,cE 32 1 27 29,aC 33 1 32,U 7 31,U 8 33],ai [ab [bH 9 0],.join ⟨[aS 7,aS 29,bX 2 2,bX 3 3,cd 5 704 1,cd 6 705 1,(27,.one (.c (.v (.list [lX])))),aS 28],[du 2 [cb,cb,cb],(3,.box [vX,.c (.v (.list [lX]))]),(704,.row true .live [lX]),bz 705]⟩ [2,3,702,703,704,705] [(false,5,0,704,.live,[]),df 6 705] (.block 2 (.loop 0 ⟨[bX 2 2,bX 3 3,cd 5 702 1,cd 6 703 1,aS 7,e8 8,aS 9,(27,.one (.c (.v (.list [lX])))),aS 28,aS 29],[du 2 [cb,cb,cb],(3,.box [vX,.c (.v (.list [lX]))]),(702,.row true .live [lX]),bz 703]⟩ [2,3,50,700,701,702,703] [(false,5,0,702,.live,[]),df 6 703] (ai [ai [ab [U 34 9,aM 35 0 3,aC 36 1 35,bF .lss 37 34 36],eo 37 2],.block 3 (ai [ab [U 40 8,U 41 9,bY 42 217 [40,41]],.cond 42 (.sS false [] [U 43 5,U 44 7,U 45 5,U 46 7,cE 47 1 45 46,aC 48 1 47,U 49 9,oX 50 (.fI iX [49]),oX 51 (.mv (.k (.one (.bq)))),cE 52 1 43 44,uX (.mv (.k (.one (.bq))))] ⟨8,1,8,52,48,50,51⟩) .skip]),ab [U 38 9,aV .add 39 38 1,U 9 39]])))],ab [U 53 6,U 54 7,U 55 5,U 56 7,cE 57 1 55 56,aC 58 1 57,cj 59 58,cE 60 1 53 54,eB 1 60 59]])),ab [aV .add 61 29 1,U 29 61]])))],ab [oX 10 (.mv (.k (.one (.nil [lX,lX,lX,lX]))))],ab [U 62 6,cj 63 62,oX 64 (.iK .aN iX 8 (0:Int) 63 63),U 11 64],.block 4 (.loop 0 ⟨[bX 2 2,bX 3 3,cd 5 710 1,cd 6 711 1,cd 10 712 4,cd 11 713 1],[du 2 [cb,cb,cb],(3,.box [vX,.c (.v (.list [lX]))]),(710,.row true .live [lX]),bz 711,(712,.row true .live [lX,lX,lX,lX]),bz 713]⟩ [2,3,64,708,709,710,711,712,713,738,739,740,741] [(false,5,0,710,.live,[]),df 6 711,(false,10,0,712,.live,[]),df 11 713] (.block 5 (ai [ab [U 65 6,cj 66 65,oX 67 (.iK .aN iX 8 (0:Int) 66 66),U 12 67],ai [ab [U 68 11,cj 69 68,bH 70 0],.join ⟨[cd 12 719 1,bX 2 2,bX 3 3,cd 5 720 1,cd 6 721 1,cd 10 722 4,cd 11 723 1],[du 2 [cb,cb,cb],(3,.box [vX,.c (.v (.list [lX]))]),bz 719,(720,.row true .live [lX]),bz 721,(722,.row true .live [lX,lX,lX,lX]),bz 723]⟩ [2,3,714,715,716,717,718,719,720,721,722,723] [df 12 719,(false,5,0,720,.live,[]),df 6 721,(false,10,0,722,.live,[]),df 11 723] (.block 6 (.loop 0 ⟨[bX 2 2,bX 3 3,cd 5 714 1,cd 6 715 1,cd 10 716 4,cd 11 717 1,cd 12 718 1,cd 68 717 1,aS 69,aS 70],[du 2 [cb,cb,cb],(3,.box [vX,.c (.v (.list [lX]))]),(714,.row true .live [lX]),bz 715,(716,.row true .live [lX,lX,lX,lX]),bz 717,bz 718]⟩ [2,3,67,710,711,712,713,714,715,716,717,718] [(false,5,0,714,.live,[]),df 6 715,(false,10,0,716,.live,[]),df 11 717,df 12 718] (ai [ab [bF .lss 71 70 69],eo 71 6,.block 7 (ai [ab [U 72 70,cE 73 1 68 70,aC 74 1 73,U 13 72,U 14 74],ab [U 75 12,U 76 13,U 77 5,U 78 13,cE 79 1 77 78,aC 80 1 79,U 81 14,cE 82 1 80 81,aC 83 1 82,cE 84 1 75 76,eB 1 84 83]]),ab [aV .add 85 70 1,U 70 85]])))],ai [.gT true [U 86 12,bY 87 162 [86],aM 88 0 3,aC 89 1 88,bF .rem 90 87 89,aV .eql 91 90 0],.join ⟨[bX 2 2,bX 3 3,cd 5 738 1,cd 6 739 1,cd 10 740 4,cd 11 741 1],[du 2 [cb,cb,cb],(3,.box [vX,.c (.v (.list [lX]))]),(738,.row true .live [lX]),bz 739,(740,.row true .live [lX,lX,lX,lX]),bz 741]⟩ [2,3,15,124,719,720,721,722,723,735,736,737,738,739,740,741] [(false,5,0,738,.live,[]),df 6 739,(false,10,0,740,.live,[]),df 11 741] (.cond 91 (ai [ab [U 92 12,aM 93 0 2,aC 94 1 93,bY 95 187 [94],oX 96 (.build [.nil iX,.nil iX,.nil iX] [(0,1,95)]),oX 97 (.build [.nil iX,.nil iX,.nil iX,.nil iX] [(0,1,92),(1,3,96)]),kl 15 [.nil iX,.nil iX,.nil iX,.nil iX],eB 4 15 97],ai [ab [U 98 12,cj 99 98,bH 100 0],.join ⟨[cd 10 734 4,bX 15 15,bX 2 2,bX 3 3,cd 5 735 1,cd 6 736 1,cd 11 737 1],[du 2 [cb,cb,cb],(3,.box [vX,.c (.v (.list [lX]))]),du 15 [fX 731 1,fX 732 1,fX 733 1,.c (.nil iX)],bz 731,bz 732,bz 733,(734,.row true .live [lX,lX,lX,lX]),(735,.row true .live [lX]),bz 736,bz 737]⟩ [2,3,15,724,725,726,727,728,729,730,731,732,733,734,735,736,737] [cX 15 0 731,cX 15 1 732,cX 15 2 733,(false,10,0,734,.live,[]),(false,5,0,735,.live,[]),df 6 736,df 11 737] (.block 8 (.loop 0 ⟨[bX 2 2,bX 3 3,cd 5 727 1,cd 6 728 1,cd 10 729 4,cd 11 730 1,bX 15 15,cd 98 724 1,aS 99,aS 100],[du 2 [cb,cb,cb],(3,.box [vX,.c (.v (.list [lX]))]),du 15 [fX 724 1,fX 725 1,fX 726 1,.c (.nil iX)],bz 724,bz 725,bz 726,(727,.row true .live [lX]),bz 728,(729,.row true .live [lX,lX,lX,lX]),bz 730]⟩ [2,3,96000,15,115000,116,117,719,720,721,722,723,724,725,726,727,728,729,730] [cX 15 0 724,cX 15 1 725,cX 15 2 726,(false,5,0,727,.live,[]),df 6 728,(false,10,0,729,.live,[]),df 11 730] (ai [ab [bF .lss 101 100 99],eo 101 8,.block 9 (ai [ab [U 102 100,cE 103 1 98 100,aC 104 1 103,U 16 102,U 17 104],.ub [(0,11),(1,11),(2,11)] [aM 105 1 15,aM 106 1 105,aC 107 1 106,aM 108 1 3,aC 109 1 108,U 110 16,cE 111 1 109 110,aC 112 1 111,U 113 17,bY 114 218 [112,113],cj 115 114,oX 116 (.fI iX [115]),oX 117 (.append true iX 8 107 116),aM 118 1 15,aM 119 1 118,eB 1 119 117]]),ab [aV .add 120 100 1,U 100 120]])))],.vM [.op (oX 121 (.mv 10)),.op (oX 122 (.load true 4 15)),.qD 123 (.wj [lX,lX,lX,lX] 122),.op (oX 124 (.append false [lX,lX,lX,lX] 96 121 123)),.op (oX 10 (.mv 124))]]) .skip)],ab [U 125 6,U 126 11,oX 127 (.gU .aN 173 [125,126]),fT 128 127],.cond 128 (ai [ab [U 129 10,U 4 129],.ret]) .skip])))])
def abN:List br:=[.tmp 4]
theorem apq (NN:Nat) (x:aY (ak.aX Jb)):Vm NN [QU,Zm,QT,QW,QV] aer abN Jb Ue x=Oy NN x:=by kernel_rfl
theorem amq:cI pX 124 aer.er abN 2=true:=by decide+kernel
theorem aq2:v9 pX 124 akK.M/\bS pX 124=true:=
  aqa (args:=Jb) (ax:=Ue) (aG.cons adh<|aG.cons arf<|aG.cons adg<|aG.cons adj<|aG.uN adi<|aG.nil) de amq FH fun x y h=>(apq aP x).trans (ajC x y h)
def Za:au:=⟨124,ahp,aoj,asF,Oo⟩
theorem aq1:dh pX 124 Za.M/\bS pX 124=true:=ar9 (mu:=acX) aq2
def GD:au:=⟨170,Jp,aov,Ur,rL⟩
def aeF:bx:=
 (ai [ab [dO 1 3 0,bH 2 0],ai [ab [aM 3 0 1,aC 4 1 3],.block 0 (ai [ab [aV .eql 6 4 7,U 5 6],.cond 5 (ai [ab [aM 7 2 1,aC 8 1 7,U 2 8],.ret]) (ai [ab [aV .eql 10 4 8,U 9 10],.cond 9 (ai [ab [bH 2 4],.ret]) .skip])])],ab [bH 2 1],.ret])
def ab1:List br:=[.tmp 2]
theorem apE (NN:Nat) (x:aY (ak.aX Jp)):dH NN [] aeF ab1 Jp Ur x=OM NN x:=by kernel_rfl
theorem amE:cI pX 170 aeF.er ab1 1=true:=by decide+kernel
theorem MN:dh pX 170 GD.M/\bS pX 170=true:=
  dK (args:=Jp) (ax:=Ur) (aG.nil) de amE rL fun x y h=>(apE aP x).trans (YK x y h)
def Zl:au:=⟨111,Jq,aow,Ut,Cs⟩
def aeG:bx:=
 (ai [ab [dO 1 3 0,nH 2],ab [cB 4 3 1,bY 5 170 [4],oX 6 (.iK .aN iX 8 (0:Int) 5 5),U 3 6],ai [ab [aM 7 0 1,aC 8 1 7,aV .eql 9 8 4],.join ⟨[cd 3 700 1],[bz 700]⟩ [1,6,700] [df 3 700] (.cond 9 (ab [U 10 3,aM 11 1 1,aC 12 1 11,W4 13 1 10 0,eB 1 13 12]) .skip)],ab [U 14 3,U 2 14],.ret])
def ab2:List br:=[.tmp 2]
theorem apF (NN:Nat) (x:aY (ak.aX Jq)):dH NN [GD] aeG ab2 Jq Ut x=ON NN x:=by kernel_rfl
theorem amF:cI pX 111 aeG.er ab2 1=true:=by decide+kernel
theorem ard:dh pX 111 Zl.M/\bS pX 111=true:=
  dK (args:=Jq) (ax:=Ut) (aG.cons MN<|aG.nil) de amF Cs fun x y h=>(apF aP x).trans (YL x y h)
def Zh:au:=⟨161,Jl,aos,Uo,Co⟩
def aeB:bx:=
 (ai [ab [bH 2 0],ab [bH 3 1],ai [ab [U 6 0,cj 7 6,bH 8 0],.join ⟨[aS 3],[]⟩ [] [] (.block 0 (.loop 0 ⟨[aS 3,e8 6,aS 7,aS 8],[]⟩ [] [] (ai [ab [bF .lss 9 8 7],eo 9 0,.block 1 (ai [ab [cE 10 1 6 8,aC 11 1 10,U 5 11],ab [U 12 3,U 13 5,bF .mul 14 12 13,U 3 14]]),ab [aV .add 15 8 1,U 8 15]])))],ab [U 16 3,U 2 16],.ret])
def abX:List br:=[.tmp 2]
theorem apA (NN:Nat) (x:aY (ak.aX Jl)):dH NN [] aeB abX Jl Uo x=OJ NN x:=by kernel_rfl
theorem amA:cI pX 161 aeB.er abX 1=true:=by decide+kernel
theorem aq9:dh pX 161 Zh.M/\bS pX 161=true:=
  dK (args:=Jl) (ax:=Uo) (aG.nil) de amA Co fun x y h=>(apA aP x).trans (ajM x y h)
def Zd:au:=⟨94,Jf,aon,Ui,Ck⟩
def aev:bx:=
 (ai [ab [dO 4 3 0,kl 8 [.nil iX,.nil iX,.nil iX]],ab [U 12 1,bY 13 187 [12],U 14 2,bY 15 187 [14],oX 16 (.build [.nil iX,.nil iX,.nil iX] [(0,1,13),(1,1,15)]),kl 9 [.nil iX,.nil iX,.nil iX],eB 3 9 16],ab [U 17 2,bY 18 161 [17],U 10 18],ab [U 19 10,U 20 3,cj 21 20,bF .mul 22 19 21,oX 23 (.iK .aN iX 8 (0:Int) (kX 0) 22),aM 24 2 9,eB 1 24 23],ai [ab [bH 11 0],.join ⟨[bX 9 9,bX 8 8],[du 8 [fX 706 1,fX 707 1,fX 708 1],du 9 [fX 709 1,fX 710 1,fX 711 1],bz 706,bz 707,bz 708,bz 709,bz 710,bz 711]⟩ [8,9,700,701,702,703,704,705,706,707,708,709,710,711] [cX 8 0 706,cX 8 1 707,cX 8 2 708,cX 9 0 709,cX 9 1 710,cX 9 2 711] (.block 0 (.loop 0 ⟨[e8 3,bX 8 8,bX 9 9,aS 10,aS 11],[du 8 [fX 700 1,fX 701 1,fX 702 1],du 9 [fX 703 1,fX 704 1,fX 705 1],bz 700,bz 701,bz 702,bz 703,bz 704,bz 705]⟩ [4,8,14000,16000,9,23,33,700,701,702,703,704,705] [cX 8 0 700,cX 8 1 701,cX 8 2 702,cX 9 0 703,cX 9 1 704,cX 9 2 705] (ai [ai [ab [U 25 11,U 26 10,bF .lss 27 25 26],eo 27 0],.block 1 (ab [aM 30 2 9,aC 31 1 30,U 32 3,oX 33 (.append true iX 8 31 32),aM 34 2 9,eB 1 34 33]),ab [U 28 11,aV .add 29 28 1,U 11 29]])))],ab [cB 35 3 9,eB 3 8 35],.ret])
def abR:List br:=[.cell 8 3 true]
theorem apu (NN:Nat) (x:aY (ak.aX Jf)):dH NN [QT,Zh] aev abR Jf Ui x=OC NN x:=by kernel_rfl
theorem amu:cI pX 94 aev.er abR 4=true:=by decide+kernel
theorem aq5:dh pX 94 Zd.M/\bS pX 94=true:=
  dK (args:=Jf) (ax:=Ui) (aG.cons adg<|aG.cons aq9<|aG.nil) de amu Ck fun x y h=>(apu aP x).trans (ajG x y h)
def Zk:au:=⟨201,Jo,aou,Uq,Cr⟩
def aeE:bx:=
 (ai [ab [dO 1 3 0,bH 2 0],ai [ab [aM 3 0 1,aC 4 1 3],.block 0 (ai [ab [aV .eql 6 4 1,U 5 6],.cond 5 (ai [ab [bH 2 1],.ret]) (ai [ai [ab [aV .eql 8 4 3,U 7 8],.join ⟨[(7,.one (.c (.v (.bool)))),aS 4,bX 1 1],[du 1 [vX,vX,vX]]⟩ [1] [] (.cond 7 .skip (ai [ab [aV .eql 9 4 4,U 7 9],.cond 7 .skip (ab [aV .eql 10 4 5,U 7 10])]))],.cond 7 (ai [ab [aM 11 1 1,aC 12 1 11,U 2 12],.ret]) (ai [ab [aV .eql 14 4 6,U 13 14],.cond 13 (ai [ab [aM 15 2 1,aC 16 1 15,oX 17 (.bin .shl (kX 1) 16),aV .sub 18 17 1,U 2 18],.ret]) .skip])])])],ab [aM 19 1 1,aC 20 1 19,aV .sub 21 20 1,U 2 21],.ret])
def ab0:List br:=[.tmp 2]
theorem apD (NN:Nat) (x:aY (ak.aX Jo)):dH NN [] aeE ab0 Jo Uq x=WN NN x:=by kernel_rfl
theorem amD:cI pX 201 aeE.er ab0 1=true:=by decide+kernel
theorem arc:dh pX 201 Zk.M/\bS pX 201=true:=
  dK (args:=Jo) (ax:=Uq) (aG.nil) de amD Cr fun x y h=>(apD aP x).trans (YJ x y h)
def Zf:au:=⟨220,Ji,aoq,Ul,Cl⟩
def aey:bx:=
 (ai [ab [dO 2 3 0,da 4],ab [cB 8 3 2,bY 9 201 [8],U 5 9],ai [ab [U 10 1,cj 11 10,bH 12 0],.join ⟨[],[]⟩ [] [] (.block 0 (.loop 0 ⟨[aS 5,e8 10,aS 11,aS 12],[]⟩ [2] [] (ai [ab [bF .lss 13 12 11],eo 13 0,.block 1 (ai [ab [cE 14 1 10 12,aC 15 1 14,U 7 15],ab [U 16 7,aV .lss 17 16 0,U 18 17,bf 18 (U 19 7),bf 18 (U 20 5),bf 18 (bF .gtr 21 19 20),gI 22 18 21],.cond 22 (ai [ab [da 4],.ret]) .skip]),ab [aV .add 23 12 1,U 12 23]])))],ab [kj 4],.ret])
def abU:List br:=[.tmp 4]
theorem apx (NN:Nat) (x:aY (ak.aX Ji)):dH NN [Zk] aey abU Ji Ul x=OG NN x:=by kernel_rfl
theorem amx:cI pX 220 aey.er abU 2=true:=by decide+kernel
theorem aq7:dh pX 220 Zf.M/\bS pX 220=true:=
  dK (args:=Ji) (ax:=Ul) (aG.cons arc<|aG.nil) de amx Cl fun x y h=>(apx aP x).trans (ajJ x y h)
def Y9:au:=⟨141,I9,aoh,Uc,Ci⟩
def aep:bx:=
 (ai [ab [dO 2 3 0,dO 3 3 1,da 4],ai [ab [cB 6 3 2,bY 7 119 [6],fT 8 7],.cond 8 (ai [ab [da 4],.ret]) .skip],ab [cB 9 3 3,bY 10 165 [9],U 5 10],.gT true [U 11 5,aV .neq 12 11 (-1),U 13 12,dz 13 (aM 14 2 3),dz 13 (aC 15 1 14),dz 13 (cj 16 15),dz 13 (U 17 5),dz 13 (cB 18 3 2),dz 13 (bY 19 170 [18]),dz 13 (bF .mul 20 17 19),dz 13 (bF .eql 21 16 20),kJ 22 13 21,U 23 22,dz 23 (cB 24 3 2),dz 23 (aM 25 2 3),dz 23 (aC 26 1 25),dz 23 (bY 27 220 [24,26]),kJ 28 23 27,U 4 28],.ret])
def abL:List br:=[.tmp 4]
theorem apn (NN:Nat) (x:aY (ak.aX I9)):dH NN [QR,QS,GD,Zf] aep abL I9 Uc x=Ow NN x:=by kernel_rfl
theorem amo:cI pX 141 aep.er abL 2=true:=by decide+kernel
theorem aq0:dh pX 141 Y9.M/\bS pX 141=true:=
  dK (args:=I9) (ax:=Uc) (aG.cons ade<|aG.cons adf<|aG.cons MN<|aG.cons aq7<|aG.nil) de amo Ci fun x y h=>(apn aP x).trans (ajA x y h)
def Zc:au:=⟨142,Je,aom,Uh,uk⟩
def aeu:bx:=
 (ai [ab [da 4],ai [ab [U 6 0,cj 7 6,U 8 1,cj 9 8,bF .neq 10 7 9],.cond 10 (ai [ab [da 4],.ret]) .skip],ai [ab [U 11 0,cj 12 11,bH 13 0],.join ⟨[],[]⟩ [] [] (.block 0 (.loop 0 ⟨[e8 0,e8 1,aS 12,aS 13],[]⟩ [] [] (ai [ab [bF .lss 14 13 12],eo 14 0,.block 1 (ai [ab [U 15 13,U 5 15],.gT true [U 16 0,U 17 5,cE 18 1 16 17,aC 19 1 18,U 20 1,U 21 5,cE 22 1 20 21,aC 23 1 22,bF .neq 24 19 23],.cond 24 (ai [ab [da 4],.ret]) .skip]),ab [aV .add 25 13 1,U 13 25]])))],ab [kj 4],.ret])
def abQ:List br:=[.tmp 4]
theorem apt (NN:Nat) (x:aY (ak.aX Je)):dH NN [] aeu abQ Je Uh x=OB NN x:=by kernel_rfl
theorem amt:cI pX 142 aeu.er abQ 2=true:=by decide+kernel
theorem aq4:dh pX 142 Zc.M/\bS pX 142=true:=
  dK (args:=Je) (ax:=Uh) (aG.nil) de amt uk fun x y h=>(apt aP x).trans (ajF x y h)
def Zg:au:=⟨219,Jk,aor,Un,Cm⟩
def aeA:bx:=
 (ai [ab [bH 4 0],ab [bH 5 0],ai [ab [U 8 1,cj 9 8,bH 10 0],.join ⟨[aS 5],[]⟩ [] [] (.block 0 (.loop 0 ⟨[e8 0,aS 5,e8 8,aS 9,aS 10],[]⟩ [] [] (ai [ab [bF .lss 11 10 9],eo 11 0,.block 1 (ai [ab [U 12 10,cE 13 1 8 10,aC 14 1 13,U 6 12,U 7 14],ab [U 15 5,U 16 0,U 17 6,cE 18 1 16 17,aC 19 1 18,bF .mul 20 15 19,U 21 7,bF .add 22 20 21,U 5 22]]),ab [aV .add 23 10 1,U 10 23]])))],ab [U 24 5,U 4 24],.ret])
def abW:List br:=[.tmp 4]
theorem apz (NN:Nat) (x:aY (ak.aX Jk)):dH NN [] aeA abW Jk Un x=OI NN x:=by kernel_rfl
theorem amz:cI pX 219 aeA.er abW 2=true:=by decide+kernel
theorem aq8:dh pX 219 Zg.M/\bS pX 219=true:=
  dK (args:=Jk) (ax:=Un) (aG.nil) de amz Cm fun x y h=>(apz aP x).trans (ajL x y h)
def Zb:au:=⟨125,Jc,aok,Uf,Cj⟩
def aes:bx:=
 (ai [ab [dO 3 3 0,dO 4 2 1,dO 5 4 2,nH 6],ab [aM 15 0 5,aC 16 1 15,cj 17 16,oX 18 (.iK .aN [lX] 24 [] 17 17),U 7 18],ai [ab [aM 19 0 5,aC 20 1 19,cj 21 20,bH 22 0],.join ⟨[cd 7 701 1,bX 3 3,bX 5 5],[du 3 [cb,cb,cb],du 5 [cb,cb,cb,cb],(701,.row true .aN [lX])]⟩ [3,4,5,700,701] [df 7 701] (.block 0 (.loop 0 ⟨[bX 3 3,bX 4 4,bX 5 5,cd 7 700 1,e8 20,aS 21,aS 22],[du 3 [cb,cb,cb],(4,.box [vX,.c (.v (.list [lX]))]),du 5 [cb,cb,cb,cb],(700,.row true .aN [lX])]⟩ [3,4,5,18,700] [df 7 700] (ai [ab [bF .lss 23 22 21],eo 23 0,.block 1 (ai [ab [U 24 22,cE 25 1 20 22,aC 26 1 25,U 8 24,U 9 26],ab [U 27 7,U 28 8,aM 29 1 4,aC 30 1 29,U 31 8,cE 32 1 30 31,aC 33 1 32,U 34 9,bY 35 218 [33,34],cE 36 1 27 28,eB 1 36 35]]),ab [aV .add 37 22 1,U 22 37]])))],ab [nH 10],ab [aM 38 0 5,aC 39 1 38,cj 40 39,oX 41 (.iK .aN iX 8 (0:Int) 40 40),U 11 41],.block 2 (.loop 0 ⟨[bX 3 3,bX 5 5,cd 7 702 1,cd 10 703 1,cd 11 704 1],[du 3 [cb,cb,cb],du 5 [cb,cb,cb,cb],(702,.row true .aN [lX]),bz 703,bz 704]⟩ [3,5,41,68,69,701,702,703,704,710,711,712] [df 7 702,df 10 703,df 11 704] (.block 3 (ai [ab [U 42 11,cj 43 42,oX 44 (.iK .aN iX 8 (0:Int) 43 43),U 12 44],ai [ab [U 45 11,cj 46 45,bH 47 0],.join ⟨[cd 10 709 1,cd 12 710 1,bX 3 3,bX 5 5,cd 7 711 1,cd 11 712 1],[du 3 [cb,cb,cb],du 5 [cb,cb,cb,cb],bz 709,bz 710,(711,.row true .aN [lX]),bz 712]⟩ [3,5,705,706,707,708,709,710,711,712] [df 10 709,df 12 710,df 7 711,df 11 712] (.block 4 (.loop 0 ⟨[bX 3 3,bX 5 5,cd 7 705 1,cd 10 706 1,cd 11 707 1,cd 12 708 1,cd 45 707 1,aS 46,aS 47],[du 3 [cb,cb,cb],du 5 [cb,cb,cb,cb],(705,.row true .aN [lX]),bz 706,bz 707,bz 708]⟩ [3,5,44,702,703,704,705,706,707,708] [df 7 705,df 10 706,df 11 707,df 12 708] (ai [ab [bF .lss 48 47 46],eo 48 4,.block 5 (ai [ab [U 49 47,cE 50 1 45 47,aC 51 1 50,U 13 49,U 14 51],ab [U 52 12,U 53 13,U 54 7,U 55 13,cE 56 1 54 55,aC 57 1 56,U 58 14,cE 59 1 57 58,aC 60 1 59,cE 61 1 52 53,eB 1 61 60]]),ab [aV .add 62 47 1,U 47 62]])))],ab [U 63 10,aM 64 1 3,aC 65 1 64,U 66 12,bY 67 219 [65,66],oX 68 (.fI iX [67]),oX 69 (.append true iX 8 63 68),U 10 69],ab [aM 70 1 5,aM 71 1 70,aC 72 1 71,U 73 11,oX 74 (.gU .aN 173 [72,73]),fT 75 74],.cond 75 (ai [ab [U 76 10,U 6 76],.ret]) .skip])))])
def abO:List br:=[.tmp 6]
theorem apr (NN:Nat) (x:aY (ak.aX Jc)):dH NN [QW,Zg,QV] aes abO Jc Uf x=Oz NN x:=by kernel_rfl
theorem amr:cI pX 125 aes.er abO 3=true:=by decide+kernel
theorem aq3:dh pX 125 Zb.M/\bS pX 125=true:=
  dK (args:=Jc) (ax:=Uf) (aG.cons adj<|aG.cons aq8<|aG.uN adi<|aG.nil) de amr Cj fun x y h=>(apr aP x).trans (ajD x y h)
def Zi:au:=⟨95,Jm,Mu,asG,Cp⟩
def aeC:bx:=
 (ai [ab [dO 3 3 0,dO 4 3 1,nH 6],ab [cB 8 3 3,bY 9 170 [8],U 7 9],ab [aM 10 2 4,aC 11 1 10,U 12 2,U 13 7,bF .mul 14 12 13,U 15 2,aV .add 16 15 1,U 17 7,bF .mul 18 16 17,oX 19 (.slice 1 11 (some 14) (some 18)),U 6 19],.ret])
def abY:List br:=[.tmp 6]
theorem apB (NN:Nat) (x:aY (ak.aX Jm)):Nc NN [GD] aeC abY Jm Mu.tl x=OK NN x:=by kernel_rfl
theorem amB:cI pX 95 aeC.er abY 3=true:=by decide+kernel
theorem ara:CU pX 95 Mu.tl Zi.MW/\bS pX 95=true:=
  aug (args:=Jm) (mu:=Mu.tl) (aG.cons MN<|aG.nil) de amB (by decide+kernel) Cp fun x y h=>(apB aP x).trans (ajN x y h)
def Zj:au:=⟨95,Jn,aot,Up,Cq⟩
def aeD:bx:=
 (ai [ab [dO 3 3 0,dO 4 3 1,nH 6],ab [cB 8 3 3,bY 9 170 [8],U 7 9],ab [aM 10 2 4,aC 11 1 10,U 12 2,U 13 7,bF .mul 14 12 13,U 15 2,aV .add 16 15 1,U 17 7,bF .mul 18 16 17,oX 19 (.slice 1 11 (some 14) (some 18)),U 6 19],.ret])
def abZ:List br:=[.tmp 6]
theorem apC (NN:Nat) (x:aY (ak.aX Jn)):Na NN [GD] aeD abZ Jn Up x=OL NN x:=by kernel_rfl
theorem amC:cI pX 95 aeD.er abZ 3=true:=by decide+kernel
theorem arb:Ad pX 95 Zj.MV/\bS pX 95=true:=
  ag0 (args:=Jn) (ax:=Up) (aG.cons MN<|aG.nil) de amC Cq fun x y h=>(apC aP x).trans (ajO x y h)
def Y8:au:=⟨59,I7,aof,Ua,z4⟩
def aen:bx:=
 (ai [ab [dO 4 3 0,dO 5 3 1,dO 6 2 2,kl 8 [.nil iX,.nil iX,.nil iX],da 9],ai [ab [cB 17 3 4,bY 18 119 [17],fT 19 18,U 20 19,bf 20 (cB 21 3 5),bf 20 (cB 22 2 6),bf 20 (bY 23 66 [21,22]),bf 20 (fT 24 23),gI 25 20 24],.cond 25 (ai [ab [oX 26 (.build [.nil iX,.nil iX,.nil iX] []),eB 3 8 26,da 9],.ret]) .skip],ab [cB 27 3 5,cB 28 2 6,bY 29 124 [27,28],U 10 29],ai [ab [U 30 3,cj 31 30,U 32 10,cj 33 32,bF .neq 34 31 33],.cond 34 (ai [ab [oX 35 (.build [.nil iX,.nil iX,.nil iX] []),eB 3 8 35,da 9],.ret]) .skip],.gT true [cB 36 3 4,aM 37 0 5,aC 38 1 37,aM 39 1 5,aC 40 1 39,cB 41 3 4,bY 42 111 [41],bY 43 94 [36,38,40,42],kl 11 [.nil iX,.nil iX,.nil iX],eB 3 11 43],ai [ab [U 44 10,cj 45 44,bH 46 0],.join ⟨[bX 11 11,bX 8 8],[du 8 [fX 722 1,fX 723 1,fX 724 1],du 11 [fX 725 1,fX 726 1,fX 727 1],bz 722,bz 723,bz 724,bz 725,bz 726,bz 727]⟩ [4,5,6,8,11,700,701,702,703,704,705,706,722,723,724,725,726,727] [cX 8 0 722,cX 8 1 723,cX 8 2 724,cX 11 0 725,cX 11 1 726,cX 11 2 727] (.block 0 (.loop 0 ⟨[(3,.one (.c (.v (.list [lX,lX,lX,lX])))),bX 4 4,bX 5 5,bX 6 6,bX 8 8,bX 11 11,cd 44 706 4,aS 45,aS 46],[du 4 [vX,vX,vX],du 5 [cb,cb,cb],(6,.box [vX,.c (.v (.list [lX]))]),du 8 [fX 700 1,fX 701 1,fX 702 1],du 11 [fX 703 1,fX 704 1,fX 705 1],bz 700,bz 701,bz 702,bz 703,bz 704,bz 705,(706,.row true .aN [lX,lX,lX,lX])]⟩ [4,5,6,8,30000,43000,44000,44001,44002,11,700,701,702,703,704,705,706,715,716,717,718,719,720,721] [cX 8 0 700,cX 8 1 701,cX 8 2 702,cX 11 0 703,cX 11 1 704,cX 11 2 705,df 44 706] (ai [ab [bF .lss 47 46 45],eo 47 0,.join ⟨[aS 46,(3,.one (.c (.v (.list [lX,lX,lX,lX])))),bX 4 4,bX 5 5,bX 6 6,bX 8 8,bX 11 11,cd 44 721 4,aS 45],[du 4 [vX,vX,vX],du 5 [cb,cb,cb],(6,.box [vX,.c (.v (.list [lX]))]),du 8 [fX 715 1,fX 716 1,fX 717 1],du 11 [fX 718 1,fX 719 1,fX 720 1],bz 715,bz 716,bz 717,bz 718,bz 719,bz 720,(721,.row true .aN [lX,lX,lX,lX])]⟩ [4,5,6,8,11,14,707,708,709,710,711,712,713,714,715,716,717,718,719,720,721] [cX 8 0 715,cX 8 1 716,cX 8 2 717,cX 11 0 718,cX 11 1 719,cX 11 2 720,df 44 721] (.block 1 (ai [ab [U 48 46,cE 49 4 44 46,cB 50 4 49,kl 13 [.nil iX,.nil iX,.nil iX,.nil iX],U 12 48,eB 4 13 50],ab [U 51 3,U 52 12,cE 53 4 51 52,cB 54 4 53,kl 14 [.nil iX,.nil iX,.nil iX,.nil iX],eB 4 14 54],ai [ab [cB 55 3 4,aM 56 1 14,cB 57 3 56,bY 58 141 [55,57],fT 59 58,U 60 59,bf 60 (aM 61 0 14),bf 60 (aC 62 1 61),bf 60 (aM 63 0 13),bf 60 (aC 64 1 63),bf 60 (bY 65 142 [62,64]),bf 60 (fT 66 65),gI 67 60 66,U 68 67,bf 68 (aM 69 1 14),bf 68 (aM 70 0 69),bf 68 (aC 71 1 70),bf 68 (aM 72 1 13),bf 68 (aM 73 0 72),bf 68 (aC 74 1 73),bf 68 (bY 75 142 [71,74]),bf 68 (fT 76 75),gI 77 68 76,U 78 77,bf 78 (aM 79 1 14),bf 78 (aM 80 1 79),bf 78 (aC 81 1 80),bf 78 (aM 82 1 13),bf 78 (aM 83 1 82),bf 78 (aC 84 1 83),bf 78 (bY 85 142 [81,84]),bf 78 (fT 86 85),gI 87 78 86],.cond 87 (ai [ab [oX 88 (.build [.nil iX,.nil iX,.nil iX] []),eB 3 8 88,da 9],.ret]) .skip],ab [cB 89 3 5,cB 90 2 6,cB 91 4 13,bY 92 125 [89,90,91],cj 93 92,bH 94 0],.block 2 (.loop 0 ⟨[(3,.one (.c (.v (.list [lX,lX,lX,lX])))),bX 4 4,bX 5 5,bX 6 6,bX 8 8,bX 11 11,bX 14 14,cd 44 713 4,aS 45,aS 46,cd 92 714 1,aS 93,aS 94],[du 4 [vX,vX,vX],du 5 [cb,cb,cb],(6,.box [vX,.c (.v (.list [lX]))]),du 8 [fX 707 1,fX 708 1,fX 709 1],du 11 [fX 710 1,fX 711 1,fX 712 1],du 14 [cb,cb,cb,cb],bz 707,bz 708,bz 709,bz 710,bz 711,bz 712,(713,.row true .aN [lX,lX,lX,lX]),bz 714]⟩ [4,5,6,8,11,13,14,93000,700,701,702,703,704,705,706,707,708,709,710,711,712,713,714] [cX 8 0 707,cX 8 1 708,cX 8 2 709,cX 11 0 710,cX 11 1 711,cX 11 2 712,df 44 713,df 92 714] (ai [ab [bF .lss 95 94 93],eo 95 2,.block 3 (ai [ab [U 96 94,cE 97 1 92 94,aC 98 1 97,U 15 96,U 16 98],.gT true [cB 99 3 4,cB 100 3 11,U 101 16,oX 102 (.m6 95 [99,100,101]),cB 103 3 4,aM 104 1 14,cB 105 3 104,U 106 15,oX 107 (.m5 95 [103,105,106]),oX 108 (.copy 102 107)]]),ab [aV .add 109 94 1,U 94 109]]))])),ab [aV .add 110 46 1,U 46 110]])))],ab [cB 111 3 11,eB 3 8 111,kj 9],.ret])
def abJ:List br:=[.cell 8 3 true,.tmp 9]
theorem apl (NN:Nat) (x:aY (ak.aX I7)):dH NN [QR,Y6,Za,Zl,Zd,Y9,Zc,Zb,Zi,Zj] aen abJ I7 Ua x=Ou NN x:=by kernel_rfl
theorem amm:cI pX 59 aen.er abJ 4=true:=by decide+kernel
theorem aqZ:dh pX 59 Y8.M/\bS pX 59=true:=
  dK (args:=I7) (ax:=Ua) (aG.cons ade<|aG.cons aqX<|aG.cons aq1<|aG.cons ard<|aG.cons aq5<|aG.cons aq0<|aG.cons aq4<|aG.cons aq3<|aG.aih ara<|aG.XU arb<|aG.nil) de amm z4 fun x y h=>(apl aP x).trans (ajy x y h)
def K6:au:=⟨27,Jw,aoD,UA,rM⟩
def aeN:bx:=
 (ai [ab [da 4],ai [ab [U 6 0,cj 7 6,U 8 1,cj 9 8,bF .neq 10 7 9],.cond 10 (ai [ab [da 4],.ret]) .skip],ai [ab [bH 5 0],.join ⟨[],[]⟩ [] [] (.block 0 (.loop 0 ⟨[e8 0,e8 1,aS 5],[]⟩ [] [] (ai [ai [ab [U 11 5,U 12 0,cj 13 12,bF .lss 14 11 13],eo 14 0],.block 1 (ai [.gT true [U 17 0,U 18 5,cE 19 1 17 18,aC 20 1 19,U 21 1,U 22 5,cE 23 1 21 22,aC 24 1 23,bF .neq 25 20 24],.cond 25 (ai [ab [da 4],.ret]) .skip]),ab [U 15 5,aV .add 16 15 1,U 5 16]])))],ab [kj 4],.ret])
def ab9:List br:=[.tmp 4]
theorem apM (NN:Nat) (x:aY (ak.aX Jw)):dH NN [] aeN ab9 Jw UA x=WQ NN x:=by kernel_rfl
theorem amM:cI pX 27 aeN.er ab9 2=true:=by decide+kernel
theorem TC:dh pX 27 K6.M/\bS pX 27=true:=
  dK (args:=Jw) (ax:=UA) (aG.nil) de amM rM fun x y h=>(apM aP x).trans (ajV x y h)
def QX:au:=⟨50,Jy,aoF,UC,pG⟩
def aeP:bx:=
 (ai [ab [dO 2 3 0,dO 3 3 1,da 4],ai [ab [aM 5 0 2,aC 6 1 5,aM 7 0 3,aC 8 1 7,bY 9 27 [6,8],fT 10 9],.cond 10 (ai [ab [da 4],.ret]) .skip],ai [ab [aM 11 1 2,aC 12 1 11,aM 13 1 3,aC 14 1 13,bY 15 27 [12,14],fT 16 15],.cond 16 (ai [ab [da 4],.ret]) .skip],ai [ab [aM 17 2 2,aC 18 1 17,aM 19 2 3,aC 20 1 19,bY 21 27 [18,20],fT 22 21],.cond 22 (ai [ab [da 4],.ret]) .skip],ab [kj 4],.ret])
def acb:List br:=[.tmp 4]
theorem apO (NN:Nat) (x:aY (ak.aX Jy)):dH NN [K6] aeP acb Jy UC x=OT NN x:=by kernel_rfl
theorem amO:cI pX 50 aeP.er acb 2=true:=by decide+kernel
theorem adk:dh pX 50 QX.M/\bS pX 50=true:=
  dK (args:=Jy) (ax:=UC) (aG.cons TC<|aG.nil) de amO pG fun x y h=>(apO aP x).trans (ajX x y h)
def Zq:au:=⟨14,Jx,aoE,UB,Cv⟩
def aeO:bx:=
 (ai [ab [da 4],ai [ab [U 6 0,cj 7 6,U 8 1,cj 9 8,bF .neq 10 7 9],.cond 10 (ai [ab [da 4],.ret]) .skip],ai [ab [bH 5 0],.join ⟨[],[]⟩ [] [] (.block 0 (.loop 0 ⟨[(0,.one (.c (.v (.list [lX])))),(1,.one (.c (.v (.list [lX])))),aS 5],[]⟩ [] [] (ai [ai [ab [U 11 5,U 12 0,cj 13 12,bF .lss 14 11 13],eo 14 0],.block 1 (ai [.gT true [U 17 0,U 18 5,cE 19 1 17 18,aC 20 1 19,U 21 1,U 22 5,cE 23 1 21 22,aC 24 1 23,bY 25 27 [20,24],fT 26 25],.cond 26 (ai [ab [da 4],.ret]) .skip]),ab [U 15 5,aV .add 16 15 1,U 5 16]])))],ab [kj 4],.ret])
def aca:List br:=[.tmp 4]
theorem apN (NN:Nat) (x:aY (ak.aX Jx)):dH NN [K6] aeO aca Jx UB x=WR NN x:=by kernel_rfl
theorem amN:cI pX 14 aeO.er aca 2=true:=by decide+kernel
theorem arl:dh pX 14 Zq.M/\bS pX 14=true:=
  dK (args:=Jx) (ax:=UB) (aG.cons TC<|aG.nil) de amN Cv fun x y h=>(apN aP x).trans (ajW x y h)
def Zp:au:=⟨51,Jv,aoC,Uz,x5⟩
def aeM:bx:=
 (ai [ab [dO 2 2 0,dO 3 2 1,da 4],ai [ab [aM 5 0 2,aC 6 1 5,aM 7 0 3,aC 8 1 7,bF .neq 9 6 8],.cond 9 (ai [ab [da 4],.ret]) .skip],ai [ab [aM 10 1 2,aC 11 1 10,aM 12 1 3,aC 13 1 12,bY 14 14 [11,13],fT 15 14],.cond 15 (ai [ab [da 4],.ret]) .skip],ab [kj 4],.ret])
def ab8:List br:=[.tmp 4]
theorem apL (NN:Nat) (x:aY (ak.aX Jv)):dH NN [Zq] aeM ab8 Jv Uz x=OS NN x:=by kernel_rfl
theorem amL:cI pX 51 aeM.er ab8 2=true:=by decide+kernel
theorem ark:dh pX 51 Zp.M/\bS pX 51=true:=
  dK (args:=Jv) (ax:=Uz) (aG.cons arl<|aG.nil) de amL x5 fun x y h=>(apL aP x).trans (ajU x y h)
def Zn:au:=⟨126,Jt,aoA,Ux,Cu⟩
def aeK:bx:=
 (ai [ab [dO 2 4 0,dO 3 4 1,da 4],ai [ab [aM 5 0 2,aC 6 1 5,aM 7 0 3,aC 8 1 7,bY 9 27 [6,8],fT 10 9],.cond 10 (ai [ab [da 4],.ret]) .skip],ai [ab [aM 11 1 2,cB 12 3 11,aM 13 1 3,cB 14 3 13,bY 15 50 [12,14],fT 16 15],.cond 16 (ai [ab [da 4],.ret]) .skip],ab [kj 4],.ret])
def ab6:List br:=[.tmp 4]
theorem apJ (NN:Nat) (x:aY (ak.aX Jt)):dH NN [K6,QX] aeK ab6 Jt Ux x=OR NN x:=by kernel_rfl
theorem amJ:cI pX 126 aeK.er ab6 2=true:=by decide+kernel
theorem ari:dh pX 126 Zn.M/\bS pX 126=true:=
  dK (args:=Jt) (ax:=Ux) (aG.cons TC<|aG.cons adk<|aG.nil) de amJ Cu fun x y h=>(apJ aP x).trans (ajS x y h)
def Zo:au:=⟨49,Ju,aoB,Uy,x4⟩
def aeL:bx:=
 (ai [ab [da 4],ai [ab [U 6 0,cj 7 6,U 8 1,cj 9 8,bF .neq 10 7 9],.cond 10 (ai [ab [da 4],.ret]) .skip],ai [ab [bH 5 0],.join ⟨[],[]⟩ [] [] (.block 0 (.loop 0 ⟨[(0,.one (.c (.v (.list [lX,lX,lX,lX])))),(1,.one (.c (.v (.list [lX,lX,lX,lX])))),aS 5],[]⟩ [] [] (ai [ai [ab [U 11 5,U 12 0,cj 13 12,bF .lss 14 11 13],eo 14 0],.block 1 (ai [.gT true [U 17 0,U 18 5,cE 19 4 17 18,cB 20 4 19,U 21 1,U 22 5,cE 23 4 21 22,cB 24 4 23,bY 25 126 [20,24],fT 26 25],.cond 26 (ai [ab [da 4],.ret]) .skip]),ab [U 15 5,aV .add 16 15 1,U 5 16]])))],ab [kj 4],.ret])
def ab7:List br:=[.tmp 4]
theorem apK (NN:Nat) (x:aY (ak.aX Ju)):dH NN [Zn] aeL ab7 Ju Uy x=WO NN x:=by kernel_rfl
theorem amK:cI pX 49 aeL.er ab7 2=true:=by decide+kernel
theorem arj:dh pX 49 Zo.M/\bS pX 49=true:=
  dK (args:=Ju) (ax:=Uy) (aG.cons ari<|aG.nil) de amK x4 fun x y h=>(apK aP x).trans (ajT x y h)
def K7:au:=⟨29,JD,Mx,UH,lx⟩
def aeU:bx:=
 (ai [ab [bH 4 0],ai [ab [bH 5 0],.join ⟨[aS 1],[(1000000,.row false .aN iX)]⟩ [1000000] [] (.block 0 (.loop 0 ⟨[cd 0 1000000 1,aS 1,aS 5],[(1000000,.row false .aN iX)]⟩ [1000000,700] [df 0 700] (ai [ai [ab [U 6 5,U 7 0,cj 8 7,bF .lss 9 6 8],eo 9 0],.block 1 (ai [ab [U 12 0,U 13 5,U 14 1,cE 15 1 12 13,eB 1 15 14],ab [U 16 1,aV .add 17 16 1,U 1 17]]),ab [U 10 5,aV .add 11 10 1,U 5 11]])))],ab [U 18 1,U 4 18],.ret])
def ach:List br:=[.tmp 4]
theorem apT (NN:Nat) (x:aY (ak.aX JD)):xK NN [] aeU ach JD Mx UH x=OY NN x:=by kernel_rfl
theorem amT:cI pX 29 aeU.er ach 2=true:=by decide+kernel
theorem TE:rQ pX 29 Mx K7.MM/\bS pX 29=true:=
  BD (args:=JD) (mu:=Mx) (ax:=UH) (aG.nil) de amT lx fun x y h=>(apT aP x).trans (aj2 x y h)
def Zw:au:=⟨52,JF,Mz,UJ,x6⟩
def aeW:bx:=
 (ai [ab [dO 2 3 0,bH 4 0],ab [aM 5 0 2,aC 6 1 5,U 7 1,oX 8 (.gU .aN 29 [6,7]),U 1 8],ab [aM 9 1 2,aC 10 1 9,U 11 1,oX 12 (.gU .aN 29 [10,11]),U 1 12],ab [aM 13 2 2,aC 14 1 13,U 15 1,oX 16 (.gU .aN 29 [14,15]),U 1 16],ab [U 17 1,U 4 17],.ret])
def acj:List br:=[.tmp 4]
theorem apV (NN:Nat) (x:aY (ak.aX JF)):xK NN [K7] aeW acj JF Mz UJ x=O0 NN x:=by kernel_rfl
theorem amV:cI pX 52 aeW.er acj 2=true:=by decide+kernel
theorem ars:rQ pX 52 Mz Zw.MM/\bS pX 52=true:=
  BD (args:=JF) (mu:=Mz) (ax:=UJ) (aG.uN TE<|aG.nil) de amV x6 fun x y h=>(apV aP x).trans (aj4 x y h)
def Zv:au:=⟨17,JE,My,UI,Cy⟩
def aeV:bx:=
 (ai [ab [bH 4 0],ai [ab [bH 5 0],.join ⟨[aS 1],[(1000000,.row false .live [lX])]⟩ [1000000] [] (.block 0 (.loop 0 ⟨[cd 0 1000000 1,aS 1,aS 5],[(1000000,.row false .live [lX])]⟩ [1000000,700] [(false,0,0,700,.live,[])] (ai [ai [ab [U 6 5,U 7 0,cj 8 7,bF .lss 9 6 8],eo 9 0],.block 1 (ab [U 12 0,U 13 5,cE 14 1 12 13,aC 15 1 14,U 16 1,oX 17 (.gU .aN 29 [15,16]),U 1 17]),ab [U 10 5,aV .add 11 10 1,U 5 11]])))],ab [U 18 1,U 4 18],.ret])
def aci:List br:=[.tmp 4]
theorem apU (NN:Nat) (x:aY (ak.aX JE)):xK NN [K7] aeV aci JE My UI x=OZ NN x:=by kernel_rfl
theorem amU:cI pX 17 aeV.er aci 2=true:=by decide+kernel
theorem arq:rQ pX 17 My Zv.MM/\bS pX 17=true:=
  BD (args:=JE) (mu:=My) (ax:=UI) (aG.uN TE<|aG.nil) de amU Cy fun x y h=>(apU aP x).trans (aj3 x y h)
def Zu:au:=⟨53,JC,Mw,UG,Cx⟩
def aeT:bx:=
 (ai [ab [dO 2 2 0,bH 4 0],ab [aM 5 1 2,aC 6 1 5,U 7 1,oX 8 (.gU .live 17 [6,7]),U 1 8],ab [U 9 1,U 4 9],.ret])
def acg:List br:=[.tmp 4]
theorem apS (NN:Nat) (x:aY (ak.aX JC)):xK NN [Zv] aeT acg JC Mw UG x=OX NN x:=by kernel_rfl
theorem amS:cI pX 53 aeT.er acg 2=true:=by decide+kernel
theorem arp:rQ pX 53 Mw Zu.MM/\bS pX 53=true:=
  BD (args:=JC) (mu:=Mw) (ax:=UG) (aG.uN arq<|aG.nil) de amS Cx fun x y h=>(apS aP x).trans (aj1 x y h)
def Zt:au:=⟨54,JB,Mv,UF,Cw⟩
def aeS:bx:=
 (ai [ab [bH 4 0],ai [ab [bH 5 0],.join ⟨[aS 1],[(1000000,.row false .live [lX,lX,lX,lX])]⟩ [1000000] [] (.block 0 (.loop 0 ⟨[cd 0 1000000 4,aS 1,aS 5],[(1000000,.row false .live [lX,lX,lX,lX])]⟩ [1000000,700] [(false,0,0,700,.live,[])] (ai [ai [ab [U 6 5,U 7 0,cj 8 7,bF .lss 9 6 8],eo 9 0],.block 1 (ai [ab [U 12 0,U 13 5,cE 14 4 12 13,aM 15 0 14,aC 16 1 15,U 17 1,oX 18 (.gU .aN 29 [16,17]),U 1 18],ab [U 19 0,U 20 5,cE 21 4 19 20,aM 22 1 21,aM 23 0 22,aC 24 1 23,U 25 1,oX 26 (.gU .aN 29 [24,25]),U 1 26],ab [U 27 0,U 28 5,cE 29 4 27 28,aM 30 1 29,aM 31 1 30,aC 32 1 31,U 33 1,oX 34 (.gU .aN 29 [32,33]),U 1 34],ab [U 35 0,U 36 5,cE 37 4 35 36,aM 38 1 37,aM 39 2 38,aC 40 1 39,U 41 1,oX 42 (.gU .aN 29 [40,41]),U 1 42]]),ab [U 10 5,aV .add 11 10 1,U 5 11]])))],ab [U 43 1,U 4 43],.ret])
def acf:List br:=[.tmp 4]
theorem apR (NN:Nat) (x:aY (ak.aX JB)):xK NN [K7] aeS acf JB Mv UF x=OW NN x:=by kernel_rfl
theorem amR:cI pX 54 aeS.er acf 2=true:=by decide+kernel
theorem aro:rQ pX 54 Mv Zt.MM/\bS pX 54=true:=
  BD (args:=JB) (mu:=Mv) (ax:=UF) (aG.uN TE<|aG.nil) de amR Cw fun x y h=>(apR aP x).trans (aj0 x y h)
def Zr:au:=⟨81,Jz,aoG,UD,ul⟩
def aeQ:bx:=
 (ai [ab [bH 4 0],ai [ab [bH 5 0],.join ⟨[aS 1],[]⟩ [] [] (.block 0 (.loop 0 ⟨[e8 0,aS 1,aS 5],[]⟩ [] [] (ai [ai [ab [U 6 5,U 7 0,cj 8 7,bF .lss 9 6 8],eo 9 0],.block 1 (ai [ai [ab [U 12 0,U 13 5,cE 14 1 12 13,aC 15 1 14,U 16 1,bF .neq 17 15 16],.cond 17 (ai [ab [bH 4 (-1)],.ret]) .skip],ab [U 18 1,aV .add 19 18 1,U 1 19]]),ab [U 10 5,aV .add 11 10 1,U 5 11]])))],ab [U 20 1,U 4 20],.ret])
def acd:List br:=[.tmp 4]
theorem apP (NN:Nat) (x:aY (ak.aX Jz)):dH NN [] aeQ acd Jz UD x=OU NN x:=by kernel_rfl
theorem amP:cI pX 81 aeQ.er acd 2=true:=by decide+kernel
theorem arm:dh pX 81 Zr.M/\bS pX 81=true:=
  dK (args:=Jz) (ax:=UD) (aG.nil) de amP ul fun x y h=>(apP aP x).trans (ajY x y h)
def Zs:au:=⟨60,JA,aoH,UE,vZ⟩
def aeR:bx:=
 (ai [ab [dO 2 3 0,bH 4 0],ab [aM 5 0 2,aC 6 1 5,U 7 1,bY 8 81 [6,7],U 1 8],ai [ab [U 9 1,aV .lss 10 9 0],.cond 10 (ai [ab [bH 4 (-1)],.ret]) .skip],ab [aM 11 1 2,aC 12 1 11,U 13 1,bY 14 81 [12,13],U 1 14],ai [ab [U 15 1,aV .lss 16 15 0],.cond 16 (ai [ab [bH 4 (-1)],.ret]) .skip],ab [aM 17 2 2,aC 18 1 17,U 19 1,bY 20 81 [18,19],U 1 20],ai [ab [U 21 1,aV .lss 22 21 0],.cond 22 (ai [ab [bH 4 (-1)],.ret]) .skip],ab [U 23 1,U 4 23],.ret])
def ace:List br:=[.tmp 4]
theorem apQ (NN:Nat) (x:aY (ak.aX JA)):dH NN [Zr] aeR ace JA UE x=OV NN x:=by kernel_rfl
theorem amQ:cI pX 60 aeR.er ace 2=true:=by decide+kernel
theorem arn:dh pX 60 Zs.M/\bS pX 60=true:=
  dK (args:=JA) (ax:=UE) (aG.cons arm<|aG.nil) de amQ vZ fun x y h=>(apQ aP x).trans (ajZ x y h)
def K5:au:=⟨7,yl,aoz,Uw,IY⟩
def aeJ:bx:=
 (ai [ab [dO 4 3 0,dO 5 3 1,dO 6 2 2,da 8],ab [bH 9 1048576],ab [cB 22 3 5,U 23 9,oX 24 (.call .live 43 [22,23]),U 9 24],ai [ab [U 25 9,aV .lss 26 25 0],.cond 26 (ai [ab [kj 8],.ret]) .skip],ab [cB 27 2 6,U 28 9,oX 29 (.call .live 44 [27,28]),U 9 29],ai [ab [U 30 9,aV .lss 31 30 0],.cond 31 (ai [ab [kj 8],.ret]) .skip],ab [U 32 3,U 33 9,oX 34 (.call .live 56 [32,33]),U 9 34],ai [ab [U 35 9,aV .lss 36 35 0],.cond 36 (ai [ab [kj 8],.ret]) .skip],.gT true [cB 38 3 4,oX 39 (.call .live 21 [38]),cB 40 3 5,oX 41 (.call .live 46 [40]),cB 42 2 6,oX 43 (.call .live 47 [42]),U 44 3,oX 45 (.call .live 58 [44]),oX 46 (.call .live 57 [39,41,43,45]),U 37 46,yk 47 0 37,yk 48 1 37,kl 10 [.nil iX,.nil iX,.nil iX],eB 3 10 47,U 11 48],ab [cB 49 3 5,oX 50 (.call .live 46 [49]),kl 12 [.nil iX,.nil iX,.nil iX],eB 3 12 50],ab [cB 51 2 6,oX 52 (.call .live 47 [51]),oX 13 (.alloc [zX,.nil [lX]]),eB 2 13 52],ab [U 53 3,oX 54 (.call .live 58 [53]),U 14 54],.gT true [cB 56 3 4,oX 57 (.call .live 21 [56]),cB 58 3 12,cB 59 2 13,U 60 14,oX 61 (.call .live 59 [57,58,59,60]),U 55 61,yk 62 0 55,yk 63 1 55,kl 15 [.nil iX,.nil iX,.nil iX],eB 3 15 62,U 16 63],ai [ab [cB 64 3 15,cB 65 3 10,oX 66 (.call .live 50 [64,65]),fT 67 66,U 68 67,bf 68 (U 69 16),bf 68 (U 70 11),bf 68 (oX 71 (.nI .neq 69 70)),gI 72 68 71],.cond 72 (ai [ab [da 8],.ret]) .skip],ai [.gT true [cB 73 3 12,cB 74 3 5,oX 75 (.call .live 46 [74]),oX 76 (.call .live 50 [73,75]),fT 77 76],.cond 77 (ai [ab [da 8],.ret]) .skip],ai [.gT true [cB 78 2 13,cB 79 2 6,oX 80 (.call .live 47 [79]),oX 81 (.call .live 51 [78,80]),fT 82 81],.cond 82 (ai [ab [da 8],.ret]) .skip],ai [ab [U 83 14,U 84 3,oX 85 (.call .live 58 [84]),oX 86 (.call .live 49 [83,85]),fT 87 86],.cond 87 (ai [ab [da 8],.ret]) .skip],ab [bH 17 1],ab [cB 88 3 12,U 89 17,oX 90 (.gU .live 52 [88,89]),U 17 90],ab [cB 91 2 13,U 92 17,oX 93 (.gU .live 53 [91,92]),U 17 93],ab [U 94 14,U 95 17,oX 96 (.gU .live 54 [94,95]),U 17 96],ai [ab [U 97 17,aV .lss 98 97 0,U 99 98,bf 99 (cB 100 3 15),bf 99 (cB 101 3 10),bf 99 (oX 102 (.call .live 50 [100,101])),bf 99 (fT 103 102),gI 104 99 103,U 105 104,bf 105 (U 106 16),bf 105 (U 107 11),bf 105 (oX 108 (.nI .neq 106 107)),gI 109 105 108],.cond 109 (ai [ab [da 8],.ret]) .skip],ab [bH 18 1],ab [cB 110 3 15,U 111 18,oX 112 (.gU .live 52 [110,111]),U 18 112],ab [bH 19 1],ab [cB 113 3 15,U 114 19,oX 115 (.call .live 60 [113,114]),U 19 115],ai [ab [U 116 19,aV .lss 117 116 0],.cond 117 (ai [ab [da 8],.ret]) .skip],ai [ab [U 118 19,U 119 18,bF .neq 120 118 119],.cond 120 (ai [ab [da 8],.ret]) .skip],.gT true [cB 122 3 4,oX 123 (.call .live 21 [122]),cB 124 3 5,oX 125 (.call .live 46 [124]),cB 126 2 6,oX 127 (.call .live 47 [126]),U 128 3,oX 129 (.call .live 58 [128]),oX 130 (.call .live 59 [123,125,127,129]),U 121 130,yk 131 0 121,yk 132 1 121,kl 20 [.nil iX,.nil iX,.nil iX],eB 3 20 131,U 21 132],ai [ab [cB 133 3 20,cB 134 3 10,oX 135 (.call .live 50 [133,134]),fT 136 135,U 137 136,bf 137 (U 138 21),bf 137 (U 139 11),bf 137 (oX 140 (.nI .neq 138 139)),gI 141 137 140],.cond 141 (ai [ab [da 8],.ret]) .skip],ab [bH 19 1],ab [cB 142 3 15,U 143 19,oX 144 (.call .live 60 [142,143]),U 19 144],ai [ab [U 145 19,aV .lss 146 145 0],.cond 146 (ai [ab [da 8],.ret]) .skip],ai [ab [U 147 19,U 148 18,bF .neq 149 147 148],.cond 149 (ai [ab [da 8],.ret]) .skip],ab [kj 8],.ret])
def ab5:List br:=[.tmp 8]
theorem apI (NN:Nat) (x:aY (ak.aX yl)):dH NN [QY,Zz,Zy,ZF,QZ,ZD,ZC,ZI,Y8,QX,Zp,Zo,Zw,Zu,Zt,Zs] aeJ ab5 yl Uw x=OQ NN x:=by kernel_rfl
theorem amI:cI pX 7 aeJ.er ab5 4=true:=by decide+kernel
theorem arh:dh pX 7 K5.M/\bS pX 7=true:=
  dK (args:=yl) (ax:=Uw) (aG.cons adl<|aG.cons arv<|aG.cons aru<|aG.cons arB<|aG.cons adm<|aG.cons arz<|aG.cons ary<|aG.cons arE<|aG.cons aqZ<|aG.cons adk<|aG.cons ark<|aG.cons arj<|aG.uN ars<|aG.uN arp<|aG.uN aro<|aG.cons arn<|aG.nil) de amI IY fun x y h=>(apI aP x).trans (ajR x y h)
end Go.Am
