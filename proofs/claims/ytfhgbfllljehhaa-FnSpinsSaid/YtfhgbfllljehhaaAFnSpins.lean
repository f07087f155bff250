/- A_FnSpins: the code of the functions of FnSpins. No condition. -/
import Derived.Test.YtfhgbfllljehhaaWT
import Derived.Test.YtfhgbfllljehhaaWT
import Derived.KernelRfl
import Derived.Test.YtfhgbfllljehhaaRows
set_option linter.unusedVariables false
set_option maxRecDepth 100000
namespace Go.Am
theorem c9:Go.Proofs.Try.prog.follows .mixedOrders=true:=by decide+kernel
noncomputable abbrev pX:=Go.Proofs.Try.prog
def oX (n:Nat) (x:dP):eM:=⟨some n,x,none⟩
def uX (x:dP):eM:=⟨none,x,none⟩
def kX (n:Int):cT:=.k (.one (.v (.int .i64) n))
def sX:kH:=.one (.c (.v (.int .i64)))
def iX:List Ty:=[.int .i64]
def lX:Ty:=.list iX
def zX:SC:=.v (.int .i64) (0:Int)
def vX:ff:=.c (.v (.int .i64))
def fX (n k:Nat):ff:=.c (.full n k)
def rX (n:Nat):ff:=.c (.Fz n 0)
instance tX (n:Nat):OfNat cT n:=⟨.t n⟩
def bV (s:Nat) (o:eM):eM:={o with guard:=some (s,true)}
def bS (s:Nat) (o:eM):eM:={o with guard:=some (s,false)}
def aa (d s:Nat):eM:=oX d (.mv (.t s))
def aB (d n s:Nat):eM:=oX d (.load false n (.t s))
def aY (d n s:Nat):eM:=oX d (.load true n (.t s))
def aI (d n s:Nat):eM:=oX d (.ri n (.t s))
def cO (d n x i:Nat):eM:=oX d (.qL n (.t x) (.t i))
def g8 (d n x:Nat) (i:Int):eM:=oX d (.qL n (.t x) (kX i))
def c7 (d:Nat) (c:Int):eM:=oX d (.mv (kX c))
def bX1:cT:=.k (.one (.v .bool true))
def bX0:cT:=.k (.one (.v .bool false))
def mr (d:Nat):eM:=oX d (.mv bX1)
def ee (d:Nat):eM:=oX d (.mv bX0)
def jq (d c x:Nat):eM:=oX d (.pick (.t c) (.t x) bX0)
def jh (d c x:Nat):eM:=oX d (.pick (.t c) bX1 (.t x))
def bJ (o:BinOp) (d x y:Nat):eM:=oX d (.bin o (.t x) (.t y))
def aN (o:BinOp) (d x:Nat) (c:Int):eM:=oX d (.bin o (.t x) (kX c))
def dZ (d n s:Nat):eM:=oX d (.box n (.t s))
def df (d s:Nat):eM:=oX d (.len (.t s))
def bB (d f:Nat) (l:List cT):eM:=oX d (.call .aS f l)
def g9 (d s:Nat):eM:=oX d (.un .not (.t s))
def jr (d n s:Nat):eM:=oX d (.ext n (.t s))
def iY (d f:Nat) (l:List cT):eM:=oX d (.lN f l)
def bH (n x v:Nat):eM:=uX (.store n (.t x) (.t v))
def gO (d:Nat) (l:List SC):eM:=oX d (.alloc l)
def iH (d:Nat):eM:=oX d (.mv (.k (.one (.nil iX))))
def af (l:List eM):bO:=.eH false l
def ao:List bO->bO
  |[]=>.skip
  |[a]=>a
  |a::l=>.seq a (ao l)
def fk (n e:Nat):bO:=.cond (.t n) .skip (.exit e)
def aR (n:Nat):Nat×kH:=(n,sX)
def dt (n m k:Nat):Nat×kH:=(n,.one (fX m k))
def bu (n m:Nat):Nat×kH:=(n,.one (rX m))
def bf (n:Nat):Nat×iG:=(n,.row true .aS iX)
def dD:ff:=.c (.v lX)
def bU (n:Nat) (l:List ff):Nat×iG:=(n,.box l)
def bw (a b c:Nat):Bool×Nat×Nat×Nat×Mode×List Ty:=(true,a,b,c,.aS,[])
def dQ (a c:Nat):Bool×Nat×Nat×Nat×Mode×List Ty:=(false,a,0,c,.aS,[])
def gh (n:Nat):Nat×kH:=(n,.one (.c (.v lX)))
def ae1:ax:=⟨95,wk,pA,tR,JT⟩
def alL:bO:=
 (ao [af [oX 2 (.mv (.k (.one (.bZ))))],af [aa 5 0,df 6 5,oX 7 (.bin .add (kX 55127) 6),aa 3 7],ao [af [c7 4 0],.join ⟨[(0,.one (.c (.v (.list [.int .u8])))),aR 3],[]⟩ [] [] (.block 0 (.loop 0 ⟨[(0,.one (.c (.v (.list [.int .u8])))),aR 3,aR 4],[]⟩ [] [] (ao [ao [af [aa 8 4,aa 9 0,df 10 9,bJ .lss 11 8 10,aa 12 11,bV 12 (aa 13 4),bV 12 (aN .lss 14 13 4000),jq 15 12 14],fk 15 0],.block 1 (af [aa 18 3,aN .mul 19 18 131,aa 20 0,aa 21 4,cO 22 1 20 21,aB 23 1 22,oX 24 (.conv .i64 23),bJ .add 25 19 24,aN .add 26 25 7,aN .and 27 26 1073741823,aa 3 27]),af [aa 16 4,aN .add 17 16 1,aa 4 17]])))],af [aa 28 0,aa 29 3,oX 30 (.build [.nil [.int .u8],zX,zX] [(0,1,28),(2,1,29)]),dZ 31 3 30,aa 2 31],.ret])
def aiz:List bI:=[.tmp 2]
theorem aw3 (NN:Nat) (x:aX (aF.aW wk)):n6 NN [] alL aiz wk tR x=Uo NN x:=by kernel_rfl
theorem auL:cK pX 95 alL.er aiz 1=true:=by decide+kernel
theorem ayu:lL pX 95 ae1.MV/\bX pX 95=true:= pB (args:=wk) (aC:=tR) (av.nil) c9 auL JT fun x y h=>(aw3 aP x).trans h
def K6:ax:=⟨52,rP,pA,tR,BJ⟩
def alV:bO:=
 (ao [af [oX 4 (.mv (.k (.one (.bZ))))],af [aa 6 0,iY 7 95 [6],aa 5 7],af [aa 8 5,aa 9 1,aa 10 0,df 11 10,oX 12 (.mm false 9 11),oX 13 (.gS 8),aI 14 1 13,bH 1 14 12],af [aa 15 5,aa 16 5,oX 17 (.gS 16),aI 18 2 17,aB 19 1 18,aN .mul 20 19 31,aa 21 1,aN .mul 22 21 7919,bJ .add 23 20 22,aN .add 24 23 1,aN .and 25 24 1073741823,oX 26 (.gS 15),aI 27 2 26,bH 1 27 25],af [aa 28 5,aa 4 28],.ret])
def aiJ:List bI:=[.tmp 4]
theorem axd (NN:Nat) (x:aX (aF.aW rP)):n6 NN [ae1] alV aiJ rP tR x=Uw NN x:=by kernel_rfl
theorem auV:cK pX 52 alV.er aiJ 2=true:=by decide+kernel
theorem Q6:lL pX 52 K6.MV/\bX pX 52=true:= pB (args:=rP) (aC:=tR) (av.jH ayu<|av.nil) c9 auV BJ fun x y h=>(axd aP x).trans h
def Wo:ax:=⟨96,tR,pA,Ba,DN⟩
def alK:bO:=
 (ao [af [c7 2 0],af [aa 4 0,aa 5 0,oX 6 (.gS 5),aI 7 2 6,aB 8 1 7,aN .mul 9 8 6364136223846793005,aN .add 10 9 1442695040888963407,oX 11 (.gS 4),aI 12 2 11,bH 1 12 10],.eH true [aa 13 0,oX 14 (.gS 13),aI 15 2 14,aB 16 1 15,oX 17 (.bin .shr 16 (.k (.one (.v (.int .u64) ((33:Int)))))),aa 18 0,oX 19 (.gS 18),aI 20 2 19,aB 21 1 20,oX 22 (.bin .shr 21 (.k (.one (.v (.int .u64) ((45:Int)))))),bJ .xor 23 17 22,aN .and 24 23 255,aa 3 24],ao [.eH true [aa 25 0,oX 26 (.gS 25),aI 27 1 26,aB 28 1 27,aa 29 0,oX 30 (.gS 29),aI 31 0 30,aB 32 1 31,df 33 32,bJ .lss 34 28 33],.join ⟨[aR 3],[(1000000,.box [.c (.v (.list [.int .u8])),vX,vX])]⟩ [1000000] [] (.cond 34 (ao [.eH true [aa 35 3,aa 36 0,oX 37 (.gS 36),aI 38 0 37,aB 39 1 38,aa 40 0,oX 41 (.gS 40),aI 42 1 41,aB 43 1 42,cO 44 1 39 43,aB 45 1 44,oX 46 (.conv .i64 45),bJ .add 47 35 46,aN .and 48 47 255,aa 3 48],af [aa 49 0,aa 50 0,oX 51 (.gS 50),aI 52 1 51,aB 53 1 52,aN .add 54 53 1,oX 55 (.gS 49),aI 56 1 55,bH 1 56 54]]) .skip)],af [aa 57 3,aa 2 57],.ret])
def aiy:List bI:=[.tmp 2]
theorem aw2 (NN:Nat) (x:aX (aF.aW tR)):n6 NN [] alK aiy tR Ba x=Un NN x:=by kernel_rfl
theorem auK:cK pX 96 alK.er aiy 1=true:=by decide+kernel
theorem ajC:lL pX 96 Wo.MV/\bX pX 96=true:= pB (args:=tR) (aC:=Ba) (av.nil) c9 auK DN fun x y h=>(aw2 aP x).trans h
def Hv:ax:=⟨93,Dk,pA,Ba,sV⟩
def alJ:bO:=
 (ao [af [c7 4 0],ao [af [aa 5 1,aN .leq 6 5 0],.cond 6 (ao [af [c7 4 0],.ret]) .skip],af [aa 7 0,iY 8 96 [7],aa 9 1,bJ .rem 10 8 9,aa 4 10],.ret])
def aix:List bI:=[.tmp 4]
theorem aw1 (NN:Nat) (x:aX (aF.aW Dk)):n6 NN [Wo] alJ aix Dk Ba x=Um NN x:=by kernel_rfl
theorem auJ:cK pX 93 alJ.er aix 2=true:=by decide+kernel
theorem MS:lL pX 93 Hv.MV/\bX pX 93=true:= pB (args:=Dk) (aC:=Ba) (av.jH ajC<|av.nil) c9 auJ sV fun x y h=>(aw1 aP x).trans h
def ae3:ax:=⟨94,RG,pA,Ba,zD⟩
def alN:bO:=
 (ao [af [c7 4 0],af [aa 5 1,aa 6 0,aa 7 1,df 8 7,iY 9 93 [6,8],cO 10 1 5 9,aB 11 1 10,aa 4 11],.ret])
def aiB:List bI:=[.tmp 4]
theorem aw5 (NN:Nat) (x:aX (aF.aW RG)):n6 NN [Hv] alN aiB RG Ba x=Uq NN x:=by kernel_rfl
theorem auN:cK pX 94 alN.er aiB 2=true:=by decide+kernel
theorem ayw:lL pX 94 ae3.MV/\bX pX 94=true:= pB (args:=RG) (aC:=Ba) (av.jH MS<|av.nil) c9 auN zD fun x y h=>(aw5 aP x).trans h
def ae6:ax:=⟨51,tR,pA,aan,JW⟩
def alQ:bO:=
 (ao [af [gO 2 [zX,zX,zX]],af [aa 4 0,iY 5 93 [4,(kX 8)],oX 6 (.bin .add (kX 1) 5),aa 3 6],ao [af [aa 7 3],.block 0 (ao [af [aN .eql 9 7 2,aa 8 9],.cond 8 (ao [af [aa 10 3,aa 11 0,oX 12 (.f8 iX [(kX 2),(kX 3),(kX 7),(kX 97),(kX 1000003)]),iY 13 94 [11,12],oX 14 (.build [zX,zX,zX] [(0,1,10),(1,1,13)]),bH 3 2 14],.ret]) (ao [ao [af [aN .eql 16 7 3,aa 15 16],.join ⟨[(15,.one (.c (.v (.bool)))),aR 7,bu 0 1000000,aR 3,bu 2 2],[(1000000,.box [.c (.v (.list [.int .u8])),vX,vX]),bU 2 [vX,vX,vX]]⟩ [1000000,2] [] (.cond 15 .skip (ao [af [aN .eql 17 7 4,aa 15 17],.cond 15 .skip (af [aN .eql 18 7 5,aa 15 18])]))],.cond 15 (ao [af [aa 19 3,aa 20 0,oX 21 (.f8 iX [(kX 1),(kX 2),(kX 9),(kX 40),(kX 1000000)]),iY 22 94 [20,21],oX 23 (.build [zX,zX,zX] [(0,1,19),(1,1,22)]),bH 3 2 23],.ret]) (ao [af [aN .eql 25 7 6,aa 24 25],.cond 24 (ao [af [aa 26 3,aa 27 0,oX 28 (.f8 iX [(kX 1),(kX 3),(kX 5),(kX 20)]),iY 29 94 [27,28],oX 30 (.build [zX,zX,zX] [(0,1,26),(2,1,29)]),bH 3 2 30],.ret]) (ao [af [aN .eql 32 7 7,aa 31 32],.cond 31 (ao [af [aa 33 3,aa 34 0,oX 35 (.f8 iX [(kX 2),(kX 5),(kX 101)]),iY 36 94 [34,35],aa 37 0,iY 38 93 [37,(kX 4)],oX 39 (.bin .add (kX 1) 38),oX 40 (.build [zX,zX,zX] [(0,1,33),(1,1,36),(2,1,39)]),bH 3 2 40],.ret]) (ao [af [aN .eql 42 7 8,aa 41 42],.cond 41 (ao [af [aa 43 3,aa 44 0,oX 45 (.f8 iX [(kX 3),(kX 17),(kX 97),(kX 1000003)]),iY 46 94 [44,45],oX 47 (.build [zX,zX,zX] [(0,1,43),(1,1,46)]),bH 3 2 47],.ret]) .skip])])])])])],af [aa 48 3,oX 49 (.build [zX,zX,zX] [(0,1,48)]),bH 3 2 49],.ret])
def aiE:List bI:=[.cell 2 3 true]
theorem aw8 (NN:Nat) (x:aX (aF.aW tR)):n6 NN [Hv,ae3] alQ aiE tR aan x=Uu NN x:=by kernel_rfl
theorem auQ:cK pX 51 alQ.er aiE 1=true:=by decide+kernel
theorem ayz:lL pX 51 ae6.MV/\bX pX 51=true:= pB (args:=tR) (aC:=aan) (av.jH MS<|av.jH ayw<|av.nil) c9 auQ JW fun x y h=>(aw8 aP x).trans h
def aeZ:ax:=⟨18,rP,pA,f7,JR⟩
def alH:bO:=
 (ao [af [gO 4 [zX,zX,zX]],af [aa 5 0,aa 6 1,iY 7 52 [5,6],iY 8 51 [7],bH 3 4 8],.ret])
def aiv:List bI:=[.cell 4 3 true]
theorem awZ (NN:Nat) (x:aX (aF.aW rP)):n6 NN [K6,ae6] alH aiv rP f7 x=Uk NN x:=by kernel_rfl
theorem auH:cK pX 18 alH.er aiv 2=true:=by decide+kernel
theorem ays:lL pX 18 aeZ.MV/\bX pX 18=true:= pB (args:=rP) (aC:=f7) (av.jH Q6<|av.jH ayz<|av.nil) c9 auH JR fun x y h=>(awZ aP x).trans h
def ae8:ax:=⟨53,RJ,pA,aaf,JZ⟩
def alU:bO:=
 (ao [af [oX 6 (.alloc [zX,.nil [.int .i64,.int .i64]])],af [aa 9 0,aa 10 1,iY 11 93 [9,10],oX 12 (.bin .add (kX 1) 11),oX 13 (.build [zX,.nil [.int .i64,.int .i64]] [(0,1,12)]),oX 7 (.alloc [zX,.nil [.int .i64,.int .i64]]),bH 2 7 13],ao [af [aa 14 0,aa 15 2,aN .add 16 15 1,iY 17 93 [14,16],aa 8 17],.join ⟨[bu 7 7,bu 6 6],[(1000000,.box [.c (.v (.list [.int .u8])),vX,vX]),bU 6 [vX,fX 702 2],bU 7 [vX,fX 703 2],(702,.row true .aS [.int .i64,.int .i64]),(703,.row true .aS [.int .i64,.int .i64])]⟩ [1000000,6,7,700,701,702,703] [bw 6 1 702,bw 7 1 703] (.block 0 (.loop 0 ⟨[bu 0 1000000,bu 6 6,bu 7 7,aR 8],[(1000000,.box [.c (.v (.list [.int .u8])),vX,vX]),bU 6 [vX,fX 700 2],bU 7 [vX,fX 701 2],(700,.row true .aS [.int .i64,.int .i64]),(701,.row true .aS [.int .i64,.int .i64])]⟩ [1000000,6,7,33,34,700,701] [bw 6 1 700,bw 7 1 701] (ao [ao [af [aa 18 8,aN .gtr 19 18 0],fk 19 0],.block 1 (.qR [(0,5),(1,5),(5,7),(5,8),(0,9),(1,9)] [aI 22 1 7,aB 23 1 22,aa 24 0,aI 25 0 7,aB 26 1 25,iY 27 93 [24,26],aa 28 0,aI 29 0 7,aB 30 1 29,iY 31 93 [28,30],oX 32 (.build [zX,zX] [(0,1,27),(1,1,31)]),oX 33 (.f8 [.int .i64,.int .i64] [32]),oX 34 (.append true [.int .i64,.int .i64] 16 23 33),aI 35 1 7,bH 1 35 34]),af [aa 20 8,aN .sub 21 20 1,aa 8 21]])))],af [aY 36 2 7,bH 2 6 36],.ret])
def aiI:List bI:=[.cell 6 2 true]
theorem axc (NN:Nat) (x:aX (aF.aW RJ)):n6 NN [Hv] alU aiI RJ aaf x=Uv NN x:=by kernel_rfl
theorem auU:cK pX 53 alU.er aiI 3=true:=by decide+kernel
theorem ayB:lL pX 53 ae8.MV/\bX pX 53=true:= pB (args:=RJ) (aC:=aaf) (av.jH MS<|av.nil) c9 auU JZ fun x y h=>(axc aP x).trans h
def aeX:ax:=⟨19,rP,pA,FM,JP⟩
def alF:bO:=
 (ao [af [oX 4 (.alloc [zX,.nil [.int .i64,.int .i64]])],af [aa 5 0,aa 6 1,iY 7 52 [5,6],iY 8 53 [7,(kX 5),(kX 6)],bH 2 4 8],.ret])
def ait:List bI:=[.cell 4 2 true]
theorem awX (NN:Nat) (x:aX (aF.aW rP)):n6 NN [K6,ae8] alF ait rP FM x=Ui NN x:=by kernel_rfl
theorem auF:cK pX 19 alF.er ait 2=true:=by decide+kernel
theorem ayq:lL pX 19 aeX.MV/\bX pX 19=true:= pB (args:=rP) (aC:=FM) (av.jH Q6<|av.jH ayB<|av.nil) c9 auF JP fun x y h=>(awX aP x).trans h
def aeY:ax:=⟨54,rP,pA,fz,JQ⟩
def alG:bO:=
 (ao [af [c7 4 0],af [aa 6 0,aa 7 1,iY 8 52 [6,7],aa 5 8],af [aa 9 5,iY 10 96 [9],oX 11 (.bin .mul (kX 256) 10),aa 12 5,iY 13 96 [12],bJ .add 14 11 13,aa 4 14],.ret])
def aiu:List bI:=[.tmp 4]
theorem awY (NN:Nat) (x:aX (aF.aW rP)):n6 NN [K6,Wo] alG aiu rP fz x=Uj NN x:=by kernel_rfl
theorem auG:cK pX 54 alG.er aiu 2=true:=by decide+kernel
theorem ayr:lL pX 54 aeY.MV/\bX pX 54=true:= pB (args:=rP) (aC:=fz) (av.jH Q6<|av.jH ajC<|av.nil) c9 auG JQ fun x y h=>(awY aP x).trans h
def ae0:ax:=⟨20,RH,pA,fz,JS⟩
def alI:bO:=
 (ao [af [c7 8 0],af [aa 9 2,aa 10 0,aa 11 1,iY 12 54 [10,11],aa 13 3,aa 14 2,bJ .sub 15 13 14,aN .add 16 15 1,bJ .rem 17 12 16,bJ .add 18 9 17,aa 8 18],.ret])
def aiw:List bI:=[.tmp 8]
theorem aw0 (NN:Nat) (x:aX (aF.aW RH)):n6 NN [aeY] alI aiw RH fz x=Ul NN x:=by kernel_rfl
theorem auI:cK pX 20 alI.er aiw 4=true:=by decide+kernel
theorem ayt:lL pX 20 ae0.MV/\bX pX 20=true:= pB (args:=RH) (aC:=fz) (av.jH ayr<|av.nil) c9 auI JS fun x y h=>(aw0 aP x).trans h
def Pt:ax:=⟨73,f7,eI,fz,BH⟩
def alS:bO:=
 (ao [af [dZ 1 3 0,c7 2 0],ao [af [aI 3 0 1,aB 4 1 3],.block 0 (ao [af [aN .eql 6 4 7,aa 5 6],.cond 5 (ao [af [aI 7 2 1,aB 8 1 7,aa 2 8],.ret]) (ao [af [aN .eql 10 4 8,aa 9 10],.cond 9 (ao [af [c7 2 4],.ret]) .skip])])],af [c7 2 1],.ret])
def aiG:List bI:=[.tmp 2]
theorem axa (NN:Nat) (x:aX (aF.aW f7)):eE NN [] alS aiG f7 fz x=abQ NN x:=by kernel_rfl
theorem auS:cK pX 73 alS.er aiG 1=true:=by decide+kernel
theorem Zn:dV pX 73 Pt.M/\bX pX 73=true:= eJ (args:=f7) (aC:=fz) (av.nil) c9 auS BH fun x y h=>(axa aP x).trans (ard x y h)
def ae7:ax:=⟨97,f7,eI,dO,JX⟩
def alT:bO:=
 (ao [af [dZ 1 3 0,iH 2],af [aY 4 3 1,bB 5 73 [4],oX 6 (.jP .aS iX 8 (0:Int) 5 5),aa 3 6],ao [af [aI 7 0 1,aB 8 1 7,aN .eql 9 8 4],.join ⟨[dt 3 700 1],[bf 700]⟩ [1,6,700] [dQ 3 700] (.cond 9 (af [aa 10 3,aI 11 1 1,aB 12 1 11,g8 13 1 10 0,bH 1 13 12]) .skip)],af [aa 14 3,aa 2 14],.ret])
def aiH:List bI:=[.tmp 2]
theorem axb (NN:Nat) (x:aX (aF.aW f7)):eE NN [Pt] alT aiH f7 dO x=abR NN x:=by kernel_rfl
theorem auT:cK pX 97 alT.er aiH 1=true:=by decide+kernel
theorem ayA:dV pX 97 ae7.M/\bX pX 97=true:= eJ (args:=f7) (aC:=dO) (av.cons Zn<|av.nil) c9 auT JX fun x y h=>(axb aP x).trans (arf x y h)
def Wp:ax:=⟨74,f7,eI,fz,BG⟩
def alR:bO:=
 (ao [af [dZ 1 3 0,c7 2 0],ao [af [aI 3 0 1,aB 4 1 3],.block 0 (ao [af [aN .eql 6 4 1,aa 5 6],.cond 5 (ao [af [c7 2 1],.ret]) (ao [ao [af [aN .eql 8 4 3,aa 7 8],.join ⟨[(7,.one (.c (.v (.bool)))),aR 4,bu 1 1],[bU 1 [vX,vX,vX]]⟩ [1] [] (.cond 7 .skip (ao [af [aN .eql 9 4 4,aa 7 9],.cond 7 .skip (af [aN .eql 10 4 5,aa 7 10])]))],.cond 7 (ao [af [aI 11 1 1,aB 12 1 11,aa 2 12],.ret]) (ao [af [aN .eql 14 4 6,aa 13 14],.cond 13 (ao [af [aI 15 2 1,aB 16 1 15,oX 17 (.bin .shl (kX 1) 16),aN .sub 18 17 1,aa 2 18],.ret]) .skip])])])],af [aI 19 1 1,aB 20 1 19,aN .sub 21 20 1,aa 2 21],.ret])
def aiF:List bI:=[.tmp 2]
theorem aw9 (NN:Nat) (x:aX (aF.aW f7)):eE NN [] alR aiF f7 fz x=abP NN x:=by kernel_rfl
theorem auR:cK pX 74 alR.er aiF 1=true:=by decide+kernel
theorem ajD:dV pX 74 Wp.M/\bX pX 74=true:= eJ (args:=f7) (aC:=fz) (av.nil) c9 auR BG fun x y h=>(aw9 aP x).trans (arc x y h)
def ae5:ax:=⟨34,f7,eI,dO,Gx⟩
def alP:bO:=
 (ao [af [dZ 1 3 0,iH 2],af [aY 4 3 1,bB 5 73 [4],oX 6 (.jP .aS iX 8 (0:Int) 5 5),aa 3 6],ao [af [aI 7 0 1,aB 8 1 7],.block 0 (ao [ao [af [aN .eql 12 8 5,aa 11 12],.join ⟨[(11,.one (.c (.v (.bool)))),bu 1 1,aR 8,dt 3 700 1],[bU 1 [vX,vX,vX],bf 700]⟩ [1,6,700] [dQ 3 700] (.cond 11 .skip (af [aN .eql 13 8 6,aa 11 13]))],.cond 11 (af [aa 14 3,aY 15 3 1,bB 16 74 [15],g8 17 1 14 0,bH 1 17 16]) (ao [af [aN .eql 19 8 4,aa 18 19],.cond 18 (af [aa 20 3,g8 21 1 20 0,uX (.store 1 21 (kX 0))]) (af [aa 9 3,g8 10 1 9 0,uX (.store 1 10 (kX 1))])])])],af [aa 22 3,aa 2 22],.ret])
def aiD:List bI:=[.tmp 2]
theorem aw7 (NN:Nat) (x:aX (aF.aW f7)):eE NN [Pt,Wp] alP aiD f7 dO x=Ut NN x:=by kernel_rfl
theorem auP:cK pX 34 alP.er aiD 1=true:=by decide+kernel
theorem ayy:dV pX 34 ae5.M/\bX pX 34=true:= eJ (args:=f7) (aC:=dO) (av.cons Zn<|av.cons ajD<|av.nil) c9 auP Gx fun x y h=>(aw7 aP x).trans (arb x y h)
def ae2:ax:=⟨98,Dk,pA,aae,JU⟩
def alM:bO:=
 (ao [af [ee 4],af [aa 5 0,aa 6 1,iY 7 93 [5,6],aN .eql 8 7 0,aa 4 8],.ret])
def aiA:List bI:=[.tmp 4]
theorem aw4 (NN:Nat) (x:aX (aF.aW Dk)):n6 NN [Hv] alM aiA Dk aae x=Up NN x:=by kernel_rfl
theorem auM:cK pX 98 alM.er aiA 2=true:=by decide+kernel
theorem ayv:lL pX 98 ae2.MV/\bX pX 98=true:= pB (args:=Dk) (aC:=aae) (av.jH MS<|av.nil) c9 auM JU fun x y h=>(aw4 aP x).trans h
def ae4:ax:=⟨55,RZ,pA,aao,JV⟩
def alO:bO:=
 (ao [af [dZ 3 3 1,iH 4],ao [af [aa 7 0,iY 8 93 [7,(kX 6)]],.block 0 (ao [af [aN .eql 10 8 0,aa 9 10],.cond 9 (ao [af [aY 11 3 3,bB 12 97 [11],aa 4 12],.ret]) (ao [af [aN .eql 14 8 1,aa 13 14],.cond 13 (ao [af [aY 15 3 3,bB 16 34 [15],aa 4 16],.ret]) .skip])])],af [aY 17 3 3,bB 18 73 [17],oX 19 (.jP .aS iX 8 (0:Int) 18 18),aa 5 19],ao [af [aa 20 5,df 21 20,c7 22 0],.join ⟨[dt 5 701 1],[(1000000,.box [.c (.v (.list [.int .u8])),vX,vX]),bf 701]⟩ [1000000,3,700,701] [dQ 5 701] (.block 1 (.loop 0 ⟨[bu 0 1000000,bu 3 3,dt 5 700 1,aR 21,aR 22],[(1000000,.box [.c (.v (.list [.int .u8])),vX,vX]),bU 3 [vX,vX,vX],bf 700]⟩ [1000000,3,19,700] [dQ 5 700] (ao [af [bJ .lss 23 22 21],fk 23 1,.block 2 (ao [af [aa 24 22,aa 6 24],af [aa 25 5,aa 26 6,aa 27 0,aY 28 3 3,bB 29 74 [28],aN .add 30 29 1,oX 31 (.mm false (kX 256) 30),iY 32 93 [27,31],cO 33 1 25 26,bH 1 33 32],af [aa 34 0,iY 35 98 [34,(kX 12)]],.cond 35 (af [aa 36 5,aa 37 6,aY 38 3 3,bB 39 74 [38],cO 40 1 36 37,bH 1 40 39]) .skip]),af [aN .add 41 22 1,aa 22 41]])))],af [aa 42 5,aa 4 42],.ret])
def aiC:List bI:=[.tmp 4]
theorem aw6 (NN:Nat) (x:aX (aF.aW RZ)):n6 NN [Hv,ae7,ae5,Pt,Wp,ae2] alO aiC RZ aao x=Ur NN x:=by kernel_rfl
theorem auO:cK pX 55 alO.er aiC 2=true:=by decide+kernel
theorem ayx:lL pX 55 ae4.MV/\bX pX 55=true:= pB (args:=RZ) (aC:=aao) (av.jH MS<|av.cons ayA<|av.cons ayy<|av.cons Zn<|av.cons ajD<|av.jH ayv<|av.nil) c9 auO JV fun x y h=>(aw6 aP x).trans h
def aeW:ax:=⟨21,R0,pA,dO,JO⟩
def alE:bO:=
 (ao [af [dZ 5 3 2,iH 6],.qR [(2,3)] [aa 7 0,aa 8 1,iY 9 52 [7,8],aY 10 3 5,iY 11 55 [9,10],aa 6 11],.ret])
def ais:List bI:=[.tmp 6]
theorem awW (NN:Nat) (x:aX (aF.aW R0)):n6 NN [K6,ae4] alE ais R0 dO x=Uh NN x:=by kernel_rfl
theorem auE:cK pX 21 alE.er ais 3=true:=by decide+kernel
theorem ayp:lL pX 21 aeW.MV/\bX pX 21=true:= pB (args:=R0) (aC:=dO) (av.jH Q6<|av.jH ayx<|av.nil) c9 auE JO fun x y h=>(awW aP x).trans h
def aey:ax:=⟨106,fz,eI,gM,BB⟩
def akM:bO:=
 (ao [af [ee 2],ao [af [aa 4 0,aN .lss 5 4 2,aa 6 5,bS 6 (aa 7 0),bS 6 (aN .gtr 8 7 1000003),jh 9 6 8],.cond 9 (ao [af [ee 2],.ret]) .skip],ao [af [c7 3 2],.join ⟨[],[]⟩ [] [] (.block 0 (.loop 0 ⟨[aR 0,aR 3],[]⟩ [] [] (ao [ao [af [aa 10 3,aa 11 3,bJ .mul 12 10 11,aa 13 0,bJ .leq 14 12 13],fk 14 0],.block 1 (ao [af [aa 17 0,aa 18 3,bJ .rem 19 17 18,aN .eql 20 19 0],.cond 20 (ao [af [ee 2],.ret]) .skip]),af [aa 15 3,aN .add 16 15 1,aa 3 16]])))],af [mr 2],.ret])
def ahA:List bI:=[.tmp 2]
theorem av4 (NN:Nat) (x:aX (aF.aW fz)):eE NN [] akM ahA fz gM x=Tp NN x:=by kernel_rfl
theorem atJ:cK pX 106 akM.er ahA 1=true:=by decide+kernel
theorem ax0:dV pX 106 aey.M/\bX pX 106=true:= eJ (args:=fz) (aC:=gM) (av.nil) c9 atJ BB fun x y h=>(av4 aP x).trans (aqJ x y h)
def En:ax:=⟨67,f7,eI,gM,qW⟩
def akT:bO:=
 (ao [af [dZ 1 3 0,ee 2],ao [af [aI 3 0 1,aB 4 1 3],.block 0 (ao [af [aN .eql 6 4 1,aa 5 6],.cond 5 (ao [af [aI 7 1 1,aB 8 1 7,aN .eql 9 8 0,aa 10 9,bV 10 (aI 11 2 1),bV 10 (aB 12 1 11),bV 10 (aN .eql 13 12 0),jq 14 10 13,aa 2 14],.ret]) (ao [af [aN .eql 16 4 2,aa 15 16],.cond 15 (ao [af [aI 17 1 1,aB 18 1 17,bB 19 106 [18],aa 20 19,bV 20 (aI 21 2 1),bV 20 (aB 22 1 21),bV 20 (aN .eql 23 22 0),jq 24 20 23,aa 2 24],.ret]) (ao [ao [af [aN .eql 26 4 3,aa 25 26],.join ⟨[(25,.one (.c (.v (.bool)))),aR 4,bu 1 1],[bU 1 [vX,vX,vX]]⟩ [1] [] (.cond 25 .skip (ao [af [aN .eql 27 4 4,aa 25 27],.cond 25 .skip (af [aN .eql 28 4 5,aa 25 28])]))],.cond 25 (ao [af [aI 29 1 1,aB 30 1 29,aN .geq 31 30 1,aa 32 31,bV 32 (aI 33 1 1),bV 32 (aB 34 1 33),bV 32 (aN .leq 35 34 1000000),jq 36 32 35,aa 37 36,bV 37 (aI 38 2 1),bV 37 (aB 39 1 38),bV 37 (aN .eql 40 39 0),jq 41 37 40,aa 2 41],.ret]) (ao [af [aN .eql 43 4 6,aa 42 43],.cond 42 (ao [af [aI 44 1 1,aB 45 1 44,aN .eql 46 45 0,aa 47 46,bV 47 (aI 48 2 1),bV 47 (aB 49 1 48),bV 47 (aN .geq 50 49 1),jq 51 47 50,aa 52 51,bV 52 (aI 53 2 1),bV 52 (aB 54 1 53),bV 52 (aN .leq 55 54 20),jq 56 52 55,aa 2 56],.ret]) (ao [af [aN .eql 58 4 7,aa 57 58],.cond 57 (ao [af [aI 59 1 1,aB 60 1 59,bB 61 106 [60],aa 62 61,bV 62 (aI 63 2 1),bV 62 (aB 64 1 63),bV 62 (aN .geq 65 64 1),jq 66 62 65,aa 67 66,bV 67 (aI 68 2 1),bV 67 (aB 69 1 68),bV 67 (aN .leq 70 69 6),jq 71 67 70,aa 2 71],.ret]) (ao [af [aN .eql 73 4 8,aa 72 73],.cond 72 (ao [af [aI 74 1 1,aB 75 1 74,bB 76 106 [75],aa 77 76,bV 77 (aI 78 1 1),bV 77 (aB 79 1 78),bV 77 (aN .neq 80 79 2),jq 81 77 80,aa 82 81,bV 82 (aI 83 2 1),bV 82 (aB 84 1 83),bV 82 (aN .eql 85 84 0),jq 86 82 85,aa 2 86],.ret]) .skip])])])])])])],af [ee 2],.ret])
def ahH:List bI:=[.tmp 2]
theorem awb (NN:Nat) (x:aX (aF.aW f7)):eE NN [aey] akT ahH f7 gM x=Tw NN x:=by kernel_rfl
theorem atS:cK pX 67 akT.er ahH 1=true:=by decide+kernel
theorem IE:dV pX 67 En.M/\bX pX 67=true:= eJ (args:=f7) (aC:=gM) (av.cons ax0<|av.nil) c9 atS qW fun x y h=>(awb aP x).trans (aqK x y h)
def V5:ax:=⟨81,FM,eI,gM,BA⟩
def akL:bO:=
 (ao [af [dZ 1 2 0,ee 2],ao [af [aI 5 0 1,aB 6 1 5,aN .lss 7 6 0,aa 8 7,bS 8 (aI 9 0 1),bS 8 (aB 10 1 9),bS 8 (aN .gtr 11 10 10),jh 12 8 11,aa 13 12,bS 13 (aI 14 1 1),bS 13 (aB 15 1 14),bS 13 (df 16 15),bS 13 (aN .gtr 17 16 10),jh 18 13 17],.cond 18 (ao [af [ee 2],.ret]) .skip],ao [af [aI 19 1 1,aB 20 1 19,df 21 20,c7 22 0],.join ⟨[],[]⟩ [1] [] (.block 0 (.loop 0 ⟨[bu 1 1,(20,.one (.c (.v (.list [.int .i64,.int .i64])))),aR 21,aR 22],[(1,.box [vX,.c (.v (.list [.int .i64,.int .i64]))])]⟩ [1,4] [] (ao [af [bJ .lss 23 22 21],fk 23 0,.block 1 (ao [af [cO 24 2 20 22,aY 25 2 24,gO 4 [zX,zX],bH 2 4 25],af [aI 26 0 4,aB 27 1 26,aN .lss 28 27 0,aa 29 28,bS 29 (aI 30 1 4),bS 29 (aB 31 1 30),bS 29 (aN .lss 32 31 0),jh 33 29 32,aa 34 33,bS 34 (aI 35 0 4),bS 34 (aB 36 1 35),bS 34 (aI 37 0 1),bS 34 (aB 38 1 37),bS 34 (bJ .geq 39 36 38),jh 40 34 39,aa 41 40,bS 41 (aI 42 1 4),bS 41 (aB 43 1 42),bS 41 (aI 44 0 1),bS 41 (aB 45 1 44),bS 41 (bJ .geq 46 43 45),jh 47 41 46],.cond 47 (ao [af [ee 2],.ret]) .skip]),af [aN .add 48 22 1,aa 22 48]])))],af [mr 2],.ret])
def ahz:List bI:=[.tmp 2]
theorem av3 (NN:Nat) (x:aX (aF.aW FM)):eE NN [] akL ahz FM gM x=To NN x:=by kernel_rfl
theorem atH:cK pX 81 akL.er ahz 1=true:=by decide+kernel
theorem ajk:dV pX 81 V5.M/\bX pX 81=true:= eJ (args:=FM) (aC:=gM) (av.nil) c9 atH BA fun x y h=>(av3 aP x).trans (aqI x y h)
def z7:ax:=⟨84,f7,eI,fz,ov⟩
def alu:bO:=
 (ao [af [dZ 1 3 0,c7 2 0],ao [af [aI 3 0 1,aB 4 1 3],.block 0 (ao [af [aN .eql 6 4 7,aa 5 6],.cond 5 (ao [af [aI 7 2 1,aB 8 1 7,aa 2 8],.ret]) (ao [af [aN .eql 10 4 8,aa 9 10],.cond 9 (ao [af [c7 2 4],.ret]) .skip])])],af [c7 2 1],.ret])
def aii:List bI:=[.tmp 2]
theorem awM (NN:Nat) (x:aX (aF.aW f7)):eE NN [] alu aii f7 fz x=T7 NN x:=by kernel_rfl
theorem aus:cK pX 84 alu.er aii 1=true:=by decide+kernel
theorem C2:dV pX 84 z7.M/\bX pX 84=true:= eJ (args:=f7) (aC:=fz) (av.nil) c9 aus ov fun x y h=>(awM aP x).trans (ad9 x y h)
def Wk:ax:=⟨85,f7,eI,fz,BF⟩
def alt:bO:=
 (ao [af [dZ 1 3 0,c7 2 0],ao [af [aI 3 0 1,aB 4 1 3],.block 0 (ao [af [aN .eql 6 4 1,aa 5 6],.cond 5 (ao [af [c7 2 1],.ret]) (ao [ao [af [aN .eql 8 4 3,aa 7 8],.join ⟨[(7,.one (.c (.v (.bool)))),aR 4,bu 1 1],[bU 1 [vX,vX,vX]]⟩ [1] [] (.cond 7 .skip (ao [af [aN .eql 9 4 4,aa 7 9],.cond 7 .skip (af [aN .eql 10 4 5,aa 7 10])]))],.cond 7 (ao [af [aI 11 1 1,aB 12 1 11,aa 2 12],.ret]) (ao [af [aN .eql 14 4 6,aa 13 14],.cond 13 (ao [af [aI 15 2 1,aB 16 1 15,oX 17 (.bin .shl (kX 1) 16),aN .sub 18 17 1,aa 2 18],.ret]) .skip])])])],af [aI 19 1 1,aB 20 1 19,aN .sub 21 20 1,aa 2 21],.ret])
def aih:List bI:=[.tmp 2]
theorem awL (NN:Nat) (x:aX (aF.aW f7)):eE NN [] alt aih f7 fz x=abO NN x:=by kernel_rfl
theorem aur:cK pX 85 alt.er aih 1=true:=by decide+kernel
theorem ajy:dV pX 85 Wk.M/\bX pX 85=true:= eJ (args:=f7) (aC:=fz) (av.nil) c9 aur BF fun x y h=>(awL aP x).trans (ad8 x y h)
def Wb:ax:=⟨112,Dh,eI,gM,BC⟩
def ald:bO:=
 (ao [af [dZ 2 3 0,ee 4],af [aY 8 3 2,bB 9 85 [8],aa 5 9],ao [af [aa 10 1,df 11 10,c7 12 0],.join ⟨[],[]⟩ [] [] (.block 0 (.loop 0 ⟨[aR 5,gh 10,aR 11,aR 12],[]⟩ [2] [] (ao [af [bJ .lss 13 12 11],fk 13 0,.block 1 (ao [af [cO 14 1 10 12,aB 15 1 14,aa 7 15],af [aa 16 7,aN .lss 17 16 0,aa 18 17,bS 18 (aa 19 7),bS 18 (aa 20 5),bS 18 (bJ .gtr 21 19 20),jh 22 18 21],.cond 22 (ao [af [ee 4],.ret]) .skip]),af [aN .add 23 12 1,aa 12 23]])))],af [mr 4],.ret])
def ah1:List bI:=[.tmp 4]
theorem aww (NN:Nat) (x:aX (aF.aW Dh)):eE NN [Wk] ald ah1 Dh gM x=TS NN x:=by kernel_rfl
theorem auc:cK pX 112 ald.er ah1 2=true:=by decide+kernel
theorem ajq:dV pX 112 Wb.M/\bX pX 112=true:= eJ (args:=Dh) (aC:=gM) (av.cons ajy<|av.nil) c9 auc BC fun x y h=>(aww aP x).trans (aqW x y h)
def V4:ax:=⟨82,Dh,eI,gM,xW⟩
def akJ:bO:=
 (ao [af [dZ 2 3 0,ee 4],af [aY 5 3 2,bB 6 67 [5],aa 7 6,bV 7 (aa 8 1),bV 7 (df 9 8),bV 7 (aY 10 3 2),bV 7 (bB 11 84 [10]),bV 7 (bJ .eql 12 9 11),jq 13 7 12,aa 14 13,bV 14 (aY 15 3 2),bV 14 (aa 16 1),bV 14 (bB 17 112 [15,16]),jq 18 14 17,aa 4 18],.ret])
def ahx:List bI:=[.tmp 4]
theorem av1 (NN:Nat) (x:aX (aF.aW Dh)):eE NN [En,z7,Wb] akJ ahx Dh gM x=Tm NN x:=by kernel_rfl
theorem atF:cK pX 82 akJ.er ahx 2=true:=by decide+kernel
theorem ajj:dV pX 82 V4.M/\bX pX 82=true:= eJ (args:=Dh) (aC:=gM) (av.cons IE<|av.cons C2<|av.cons ajq<|av.nil) c9 atF xW fun x y h=>(av1 aP x).trans (aqH x y h)
def K5:ax:=⟨38,qU,eI,gM,x5⟩
def aly:bO:=
 (ao [af [dZ 4 3 0,dZ 5 2 1,ee 8],af [aY 9 3 4,bB 10 67 [9],aa 11 10,bV 11 (aY 12 2 5),bV 11 (bB 13 81 [12]),jq 14 11 13,aa 15 14,bV 15 (aY 16 3 4),bV 15 (aa 17 3),bV 15 (bB 18 82 [16,17]),jq 19 15 18,aa 20 19,bV 20 (aa 21 2),bV 20 (aN .geq 22 21 1),jq 23 20 22,aa 24 23,bV 24 (aa 25 2),bV 24 (aN .leq 26 25 4),jq 27 24 26,aa 8 27],.ret])
def aim:List bI:=[.tmp 8]
theorem awQ (NN:Nat) (x:aX (aF.aW qU)):eE NN [En,V5,V4] aly aim qU gM x=Ub NN x:=by kernel_rfl
theorem auw:cK pX 38 aly.er aim 4=true:=by decide+kernel
theorem Zm:dV pX 38 K5.M/\bX pX 38=true:= eJ (args:=qU) (aC:=gM) (av.cons IE<|av.cons ajk<|av.cons ajj<|av.nil) c9 auw x5 fun x y h=>(awQ aP x).trans (aq8 x y h)
def K3:ax:=⟨40,f7,eI,dO,qY⟩
def alq:bO:=
 (ao [af [dZ 1 3 0,iH 2],af [aY 4 3 1,bB 5 84 [4],oX 6 (.jP .aS iX 8 (0:Int) 5 5),aa 3 6],ao [af [aI 7 0 1,aB 8 1 7],.block 0 (ao [af [aN .eql 12 8 4,aa 11 12],.cond 11 (af [aa 13 3,g8 14 1 13 0,uX (.store 1 14 (kX 0))]) (ao [af [aN .eql 16 8 5,aa 15 16],.cond 15 (af [aa 17 3,aI 18 1 1,aB 19 1 18,g8 20 1 17 0,bH 1 20 19]) (ao [af [aN .eql 22 8 6,aa 21 22],.cond 21 (af [aa 23 3,aY 24 3 1,bB 25 85 [24],g8 26 1 23 0,bH 1 26 25]) (af [aa 9 3,g8 10 1 9 0,uX (.store 1 10 (kX 1))])])])])],af [aa 27 3,aa 2 27],.ret])
def aid:List bI:=[.tmp 2]
theorem awI (NN:Nat) (x:aX (aF.aW f7)):eE NN [z7,Wk] alq aid f7 dO x=T4 NN x:=by kernel_rfl
theorem auo:cK pX 40 alq.er aid 1=true:=by decide+kernel
theorem Q4:dV pX 40 K3.M/\bX pX 40=true:= eJ (args:=f7) (aC:=dO) (av.cons C2<|av.cons ajy<|av.nil) c9 auo qY fun x y h=>(awI aP x).trans (aq5 x y h)
def yr:ax:=⟨83,dO,eI,dO,j7⟩
def ak6:bO:=
 (ao [af [iH 2],af [aa 3 0,oX 4 (.append true iX 8 (.k (.one (.nil iX))) 3),aa 2 4],.ret])
def ahU:List bI:=[.tmp 2]
theorem awp (NN:Nat) (x:aX (aF.aW dO)):eE NN [] ak6 ahU dO dO x=TL NN x:=by kernel_rfl
theorem at5:cK pX 83 ak6.er ahU 1=true:=by decide+kernel
theorem AQ:dV pX 83 yr.M/\bX pX 83=true:= eJ (args:=dO) (aC:=dO) (av.nil) c9 at5 j7 fun x y h=>(awp aP x).trans (aqR x y h)
def Hu:ax:=⟨62,ama,RO,dO,mU⟩
def ak0:bO:=
 (ao [af [dZ 3 3 0],af [aI 7 0 3,aB 8 1 7],.block 0 (ao [ao [af [aN .eql 31 8 1,aa 30 31],.join ⟨[(30,.one (.c (.v (.bool)))),aR 8,(1,.one (.c (.sl 1000000 1))),gh 2,bu 3 3],[(1000000,.row false .aS iX),bU 3 [vX,vX,vX]]⟩ [1000000,3,700] [dQ 1 700] (.cond 30 .skip (af [aN .eql 32 8 5,aa 30 32]))],.cond 30 (.eH true [aa 33 1,aa 34 1,g8 35 1 34 0,aB 36 1 35,aa 37 2,g8 38 1 37 0,aB 39 1 38,oX 40 (.mm true 36 39),g8 41 1 33 0,bH 1 41 40]) (ao [af [aN .eql 43 8 3,aa 42 43],.cond 42 (.eH true [aa 44 1,aa 45 1,g8 46 1 45 0,aB 47 1 46,aa 48 2,g8 49 1 48 0,aB 50 1 49,bJ .add 51 47 50,aI 52 1 3,aB 53 1 52,oX 54 (.mm false 51 53),g8 55 1 44 0,bH 1 55 54]) (ao [af [aN .eql 57 8 4,aa 56 57],.cond 56 (.eH true [aa 58 1,aa 59 1,g8 60 1 59 0,aB 61 1 60,aa 62 2,g8 63 1 62 0,aB 64 1 63,oX 65 (.mm false 61 64),g8 66 1 58 0,bH 1 66 65]) (ao [af [aN .eql 68 8 6,aa 67 68],.cond 67 (.eH true [aa 69 1,g8 70 1 69 0,aB 71 1 70,aa 72 2,g8 73 1 72 0,aB 74 1 73,bJ .or 75 71 74,g8 76 1 69 0,bH 1 76 75]) (ao [af [aa 9 1,df 10 9,c7 11 0],.block 1 (.loop 0 ⟨[(1,.one (.c (.sl 1000000 1))),gh 2,bu 3 3,aR 10,aR 11],[(1000000,.row false .aS iX),bU 3 [vX,vX,vX]]⟩ [1000000,3,701] [dQ 1 701] (ao [af [bJ .lss 12 11 10],fk 12 1,.block 2 (ao [af [aa 13 11,aa 6 13],.eH true [aa 14 1,aa 15 6,aa 16 1,aa 17 6,cO 18 1 16 17,aB 19 1 18,aa 20 2,aa 21 6,cO 22 1 20 21,aB 23 1 22,bJ .add 24 19 23,aI 25 1 3,aB 26 1 25,bJ .rem 27 24 26,cO 28 1 14 15,bH 1 28 27]]),af [aN .add 29 11 1,aa 11 29]]))])])])])])])
def ahO:List bI:=[]
theorem awj (NN:Nat) (x:aX (aF.aW ama)):Nd NN [] ak0 ahO RO.nq acs dO x.1 x.2.1 x.2.2=BK NN x:=by kernel_rfl
theorem atZ:cK pX 62 ak0.er ahO 3=true:=by decide+kernel
theorem Q3:DU pX 62 RO.nq Hu.MX/\bX pX 62=true:= aBR (bg:=acs) rfl (mu:=RO) (aC:=dO) (av.nil) c9 atZ mU fun x y h=>(awj aP x).trans h
def aet:ax:=⟨39,Di,eI,dO,JB⟩
def akB:bO:=
 (ao [af [dZ 3 3 0,iH 6],ao [af [aY 8 3 3,aa 9 1,bB 10 82 [8,9],g9 11 10,aa 12 11,bS 12 (aY 13 3 3),bS 12 (aa 14 2),bS 12 (bB 15 82 [13,14]),bS 12 (g9 16 15),jh 17 12 16],.cond 17 (ao [af [iH 6],.ret]) .skip],af [aa 18 1,bB 19 83 [18],aa 7 19],af [aY 20 3 3,aa 21 7,aa 22 2,oX 23 (.ox .aS 62 [20,21,22])],af [aa 24 7,aa 6 24],.ret])
def ahp:List bI:=[.tmp 6]
theorem avT (NN:Nat) (x:aX (aF.aW Di)):eE NN [V4,yr,Hu] akB ahp Di dO x=Te NN x:=by kernel_rfl
theorem atx:cK pX 39 akB.er ahp 3=true:=by decide+kernel
theorem axU:dV pX 39 aet.M/\bX pX 39=true:= eJ (args:=Di) (aC:=dO) (av.cons ajj<|av.cons AQ<|av.KD Q3<|av.nil) c9 atx JB fun x y h=>(avT aP x).trans h
def Wh:ax:=⟨86,dO,eI,fz,BE⟩
def alk:bO:=
 (ao [af [c7 2 0],af [c7 3 1],ao [af [aa 6 0,df 7 6,c7 8 0],.join ⟨[aR 3],[]⟩ [] [] (.block 0 (.loop 0 ⟨[aR 3,gh 6,aR 7,aR 8],[]⟩ [] [] (ao [af [bJ .lss 9 8 7],fk 9 0,.block 1 (ao [af [cO 10 1 6 8,aB 11 1 10,aa 5 11],af [aa 12 3,aa 13 5,bJ .mul 14 12 13,aa 3 14]]),af [aN .add 15 8 1,aa 8 15]])))],af [aa 16 3,aa 2 16],.ret])
def ah8:List bI:=[.tmp 2]
theorem awD (NN:Nat) (x:aX (aF.aW dO)):eE NN [] alk ah8 dO fz x=TY NN x:=by kernel_rfl
theorem auj:cK pX 86 alk.er ah8 1=true:=by decide+kernel
theorem aju:dV pX 86 Wh.M/\bX pX 86=true:= eJ (args:=dO) (aC:=fz) (av.nil) c9 auj BE fun x y h=>(awD aP x).trans (aq0 x y h)
def Wa:ax:=⟨41,wj,eI,kS,xZ⟩
def alb:bO:=
 (ao [af [dZ 4 3 0,gO 8 [.nil iX,.nil iX,.nil iX]],af [aa 12 1,bB 13 83 [12],aa 14 2,bB 15 83 [14],oX 16 (.build [.nil iX,.nil iX,.nil iX] [(0,1,13),(1,1,15)]),gO 9 [.nil iX,.nil iX,.nil iX],bH 3 9 16],af [aa 17 2,bB 18 86 [17],aa 10 18],af [aa 19 10,aa 20 3,df 21 20,bJ .mul 22 19 21,oX 23 (.jP .aS iX 8 (0:Int) (kX 0) 22),aI 24 2 9,bH 1 24 23],ao [af [c7 11 0],.join ⟨[bu 9 9,bu 8 8],[bU 8 [fX 706 1,fX 707 1,fX 708 1],bU 9 [fX 709 1,fX 710 1,fX 711 1],bf 706,bf 707,bf 708,bf 709,bf 710,bf 711]⟩ [8,9,700,701,702,703,704,705,706,707,708,709,710,711] [bw 8 0 706,bw 8 1 707,bw 8 2 708,bw 9 0 709,bw 9 1 710,bw 9 2 711] (.block 0 (.loop 0 ⟨[gh 3,bu 8 8,bu 9 9,aR 10,aR 11],[bU 8 [fX 700 1,fX 701 1,fX 702 1],bU 9 [fX 703 1,fX 704 1,fX 705 1],bf 700,bf 701,bf 702,bf 703,bf 704,bf 705]⟩ [4,8,14000,16000,9,23,33,700,701,702,703,704,705] [bw 8 0 700,bw 8 1 701,bw 8 2 702,bw 9 0 703,bw 9 1 704,bw 9 2 705] (ao [ao [af [aa 25 11,aa 26 10,bJ .lss 27 25 26],fk 27 0],.block 1 (af [aI 30 2 9,aB 31 1 30,aa 32 3,oX 33 (.append true iX 8 31 32),aI 34 2 9,bH 1 34 33]),af [aa 28 11,aN .add 29 28 1,aa 11 29]])))],af [aY 35 3 9,bH 3 8 35],.ret])
def ahZ:List bI:=[.cell 8 3 true]
theorem awu (NN:Nat) (x:aX (aF.aW wj)):eE NN [yr,Wh] alb ahZ wj kS x=TQ NN x:=by kernel_rfl
theorem aua:cK pX 41 alb.er ahZ 4=true:=by decide+kernel
theorem ajp:dV pX 41 Wa.M/\bX pX 41=true:= eJ (args:=wj) (aC:=kS) (av.cons AQ<|av.cons aju<|av.nil) c9 aua xZ fun x y h=>(awu aP x).trans (aqU x y h)
def Wi:ax:=⟨42,Dj,RF,Nn,zC⟩
def aln:bO:=
 (ao [af [dZ 3 3 0,dZ 4 3 1,iH 6],af [aY 8 3 3,bB 9 84 [8],aa 7 9],af [aI 10 2 4,aB 11 1 10,aa 12 2,aa 13 7,bJ .mul 14 12 13,aa 15 2,aN .add 16 15 1,aa 17 7,bJ .mul 18 16 17,oX 19 (.slice 1 11 (some 14) (some 18)),aa 6 19],.ret])
def aia:List bI:=[.tmp 6]
theorem awF (NN:Nat) (x:aX (aF.aW Dj)):Ro NN [z7] aln aia Dj RF.tl x=T0 NN x:=by kernel_rfl
theorem aul:cK pX 42 aln.er aia 3=true:=by decide+kernel
theorem ajv:GF pX 42 RF.tl Wi.MW/\bX pX 42=true:= aBF (args:=Dj) (mu:=RF.tl) (av.cons C2<|av.nil) c9 aul (by decide+kernel) zC fun x y h=>(awF aP x).trans (aq2 x y h)
def Eo:ax:=⟨113,RY,eI,gM,pF⟩
def alc:bO:=
 (ao [af [ee 4],ao [af [aa 7 0,df 8 7,c7 9 0],.join ⟨[],[]⟩ [] [] (.block 0 (.loop 0 ⟨[aR 1,gh 7,aR 8,aR 9],[]⟩ [] [] (ao [af [bJ .lss 10 9 8],fk 10 0,.block 1 (ao [af [cO 11 1 7 9,aB 12 1 11,aa 6 12],af [aa 13 1,aa 14 6,bJ .eql 15 13 14],.cond 15 (ao [af [mr 4],.ret]) .skip]),af [aN .add 16 9 1,aa 9 16]])))],af [ee 4],.ret])
def ah0:List bI:=[.tmp 4]
theorem awv (NN:Nat) (x:aX (aF.aW RY)):eE NN [] alc ah0 RY gM x=TR NN x:=by kernel_rfl
theorem aub:cK pX 113 alc.er ah0 2=true:=by decide+kernel
theorem IF:dV pX 113 Eo.M/\bX pX 113=true:= eJ (args:=RY) (aC:=gM) (av.nil) c9 aub pF fun x y h=>(awv aP x).trans (aqV x y h)
def Pq:ax:=⟨89,kS,eI,fz,zB⟩
def akX:bO:=
 (ao [af [dZ 1 3 0,c7 2 0],ao [af [aI 7 0 1,aB 8 1 7,df 9 8,aN .gtr 10 9 12,aa 11 10,bS 11 (aI 12 0 1),bS 11 (aB 13 1 12),bS 11 (df 14 13),bS 11 (aI 15 1 1),bS 11 (aB 16 1 15),bS 11 (df 17 16),bS 11 (bJ .neq 18 14 17),jh 19 11 18],.cond 19 (ao [af [c7 2 (-1)],.ret]) .skip],af [c7 3 1],ao [af [aI 20 0 1,aB 21 1 20,df 22 21,c7 23 0],.join ⟨[aR 3],[]⟩ [1] [] (.block 0 (.loop 0 ⟨[bu 1 1,aR 3,gh 21,aR 22,aR 23],[bU 1 [dD,dD,dD]]⟩ [1] [] (ao [af [bJ .lss 24 23 22],fk 24 0,.block 1 (ao [af [aa 25 23,cO 26 1 21 23,aB 27 1 26,aa 4 25,aa 5 27],ao [af [aa 28 5,aN .lss 29 28 0,aa 30 29,bS 30 (aa 31 5),bS 30 (aN .gtr 32 31 99),jh 33 30 32,aa 34 33,bS 34 (aI 35 0 1),bS 34 (aB 36 1 35),bS 34 (aa 37 4),bS 34 (oX 38 (.slice 1 36 none (some 37))),bS 34 (aa 39 5),bS 34 (bB 40 113 [38,39]),jh 41 34 40],.cond 41 (ao [af [c7 2 (-1)],.ret]) .skip],af [aI 42 1 1,aB 43 1 42,aa 44 4,cO 45 1 43 44,aB 46 1 45,aa 6 46],ao [af [aa 47 6,aN .lss 48 47 1,aa 49 48,bS 49 (aa 50 6),bS 49 (aN .gtr 51 50 8),jh 52 49 51,aa 53 52,bS 53 (aa 54 3),bS 53 (aa 55 6),bS 53 (bJ .mul 56 54 55),bS 53 (aN .gtr 57 56 4096),jh 58 53 57],.cond 58 (ao [af [c7 2 (-1)],.ret]) .skip],af [aa 59 3,aa 60 6,bJ .mul 61 59 60,aa 3 61]]),af [aN .add 62 23 1,aa 23 62]])))],af [aa 63 3,aa 2 63],.ret])
def ahL:List bI:=[.tmp 2]
theorem awg (NN:Nat) (x:aX (aF.aW kS)):eE NN [Eo] akX ahL kS fz x=TC NN x:=by kernel_rfl
theorem atW:cK pX 89 akX.er ahL 1=true:=by decide+kernel
theorem Zk:dV pX 89 Pq.M/\bX pX 89=true:= eJ (args:=kS) (aC:=fz) (av.cons IF<|av.nil) c9 atW zB fun x y h=>(awg aP x).trans (aqN x y h)
def Ht:ax:=⟨87,RE,eI,gM,qX⟩
def akW:bO:=
 (ao [af [dZ 2 3 0,dZ 3 3 1,ee 4],ao [af [aY 6 3 2,bB 7 67 [6],g9 8 7],.cond 8 (ao [af [ee 4],.ret]) .skip],af [aY 9 3 3,bB 10 89 [9],aa 5 10],.eH true [aa 11 5,aN .neq 12 11 (-1),aa 13 12,bV 13 (aI 14 2 3),bV 13 (aB 15 1 14),bV 13 (df 16 15),bV 13 (aa 17 5),bV 13 (aY 18 3 2),bV 13 (bB 19 84 [18]),bV 13 (bJ .mul 20 17 19),bV 13 (bJ .eql 21 16 20),jq 22 13 21,aa 23 22,bV 23 (aY 24 3 2),bV 23 (aI 25 2 3),bV 23 (aB 26 1 25),bV 23 (bB 27 112 [24,26]),jq 28 23 27,aa 4 28],.ret])
def ahK:List bI:=[.tmp 4]
theorem awf (NN:Nat) (x:aX (aF.aW RE)):eE NN [En,Pq,z7,Wb] akW ahK RE gM x=TB NN x:=by kernel_rfl
theorem atV:cK pX 87 akW.er ahK 2=true:=by decide+kernel
theorem MR:dV pX 87 Ht.M/\bX pX 87=true:= eJ (args:=RE) (aC:=gM) (av.cons IE<|av.cons Zk<|av.cons C2<|av.cons ajq<|av.nil) c9 atV qX fun x y h=>(awf aP x).trans (aqM x y h)
def V8:ax:=⟨88,RQ,eI,aah,Gq⟩
def ak9:bO:=
 (ao [af [oX 2 (.DV 100),ee 3],af [oX 4 (.DV 100)],ao [af [aa 9 0,df 10 9,c7 11 0],.join ⟨[bu 4 4,bu 2 2],[(2,.ef (List.replicate 100 (.int .i64)) []),(4,.ef (List.replicate 100 (.int .i64)) [])]⟩ [2,4] [] (.block 0 (.loop 0 ⟨[bu 2 2,bu 4 4,(9,.one (.c (.v (.list [lX,lX,lX])))),aR 10,aR 11],[(2,.ef (List.replicate 100 (.int .i64)) []),(4,.ef (List.replicate 100 (.int .i64)) [])]⟩ [2,4] [] (ao [af [bJ .lss 12 11 10],fk 12 0,.join ⟨[aR 11,bu 2 2,bu 4 4,(9,.one (.c (.v (.list [lX,lX,lX])))),aR 10],[(2,.ef (List.replicate 100 (.int .i64)) []),(4,.ef (List.replicate 100 (.int .i64)) [])]⟩ [2,4,6] [] (.block 1 (ao [af [cO 13 3 9 11,aY 14 3 13,gO 6 [.nil iX,.nil iX,.nil iX],bH 3 6 14],af [aI 15 0 6,aB 16 1 15,df 17 16,c7 18 0],.block 2 (.loop 0 ⟨[bu 2 2,bu 4 4,bu 6 6,(9,.one (.c (.v (.list [lX,lX,lX])))),aR 10,aR 11,gh 16,aR 17,aR 18],[(2,.ef (List.replicate 100 (.int .i64)) []),(4,.ef (List.replicate 100 (.int .i64)) []),bU 6 [dD,dD,dD]]⟩ [2,4,6] [] (ao [af [bJ .lss 19 18 17],fk 19 2,.block 3 (ao [af [aa 20 18,cO 21 1 16 18,aB 22 1 21,aa 7 20,aa 8 22],ao [.eH true [aa 23 8,oX 24 (.oF 100 4 23),aB 25 1 24,aN .neq 26 25 0,aa 27 26,bV 27 (aa 28 8),bV 27 (oX 29 (.oF 100 4 28)),bV 27 (aB 30 1 29),bV 27 (aI 31 1 6),bV 27 (aB 32 1 31),bV 27 (aa 33 7),bV 27 (cO 34 1 32 33),bV 27 (aB 35 1 34),bV 27 (bJ .neq 36 30 35),jq 37 27 36],.cond 37 (ao [af [oX 38 (.Fj (List.replicate 100 (.int .i64)) 4),uX (.FZ (List.replicate 100 (.int .i64)) 2 38),ee 3],.ret]) .skip],af [aa 39 8,aI 40 1 6,aB 41 1 40,aa 42 7,cO 43 1 41 42,aB 44 1 43,oX 45 (.oF 100 4 39),bH 1 45 44]]),af [aN .add 46 18 1,aa 18 46]]))])),af [aN .add 47 11 1,aa 11 47]])))],af [oX 48 (.Fj (List.replicate 100 (.int .i64)) 4),uX (.FZ (List.replicate 100 (.int .i64)) 2 48),mr 3],.ret])
def ahX:List bI:=[.cell 2 100 true,.tmp 3]
theorem aws (NN:Nat) (x:aX (aF.aW RQ)):eE NN [] ak9 ahX RQ aah x=TO NN x:=by kernel_rfl
theorem at8:cK pX 88 ak9.er ahX 1=true:=by decide+kernel
theorem ajn:dV pX 88 V8.M/\bX pX 88=true:= eJ (args:=RQ) (aC:=aah) (av.nil) c9 at8 Gq fun x y h=>(aws aP x).trans h
def aeK:ax:=⟨90,RR,eI,kS,JK⟩
def ak2:bO:=
 (ao [af [oX 2 (.Kl (List.replicate 100 (.int .i64)) 0 0),gO 4 [.nil iX,.nil iX,.nil iX]],.eH true [aa 8 1,bB 9 83 [8],aa 10 1,df 11 10,oX 12 (.jP .aS iX 8 (0:Int) 11 11),oX 13 (.build [.nil iX,.nil iX,.nil iX] [(0,1,9),(1,1,12)]),gO 5 [.nil iX,.nil iX,.nil iX],bH 3 5 13],ao [af [aa 14 1,df 15 14,c7 16 0],.join ⟨[bu 5 5,bu 4 4],[bU 4 [fX 706 1,fX 707 1,fX 708 1],bU 5 [fX 709 1,fX 710 1,fX 711 1],bf 706,bf 707,bf 708,bf 709,bf 710,bf 711]⟩ [2,4,5,700,701,702,703,704,705,706,707,708,709,710,711] [bw 4 0 706,bw 4 1 707,bw 4 2 708,bw 5 0 709,bw 5 1 710,bw 5 2 711] (.block 0 (.loop 0 ⟨[bu 2 2,bu 4 4,bu 5 5,gh 14,aR 15,aR 16],[(2,.ef (List.replicate 100 (.int .i64)) []),bU 4 [fX 700 1,fX 701 1,fX 702 1],bU 5 [fX 703 1,fX 704 1,fX 705 1],bf 700,bf 701,bf 702,bf 703,bf 704,bf 705]⟩ [2,4,10000,12,5,700,701,702,703,704,705] [bw 4 0 700,bw 4 1 701,bw 4 2 702,bw 5 0 703,bw 5 1 704,bw 5 2 705] (ao [af [bJ .lss 17 16 15],fk 17 0,.block 1 (ao [af [aa 18 16,cO 19 1 14 16,aB 20 1 19,aa 6 18,aa 7 20],.eH true [aI 21 1 5,aB 22 1 21,aa 23 6,aa 24 7,oX 25 (.oF 100 2 24),aB 26 1 25,cO 27 1 22 23,bH 1 27 26]]),af [aN .add 28 16 1,aa 16 28]])))],af [aY 29 3 5,bH 3 4 29],.ret])
def ahQ:List bI:=[.cell 4 3 true]
theorem awl (NN:Nat) (x:aX (aF.aW RR)):eE NN [yr] ak2 ahQ RR kS x=TH NN x:=by kernel_rfl
theorem at1:cK pX 90 ak2.er ahQ 2=true:=by decide+kernel
theorem ayc:dV pX 90 aeK.M/\bX pX 90=true:= eJ (args:=RR) (aC:=kS) (av.cons AQ<|av.nil) c9 at1 JK fun x y h=>(awl aP x).trans h
def Hs:ax:=⟨43,mP,eI,gM,xX⟩
def akN:bO:=
 (ao [af [dZ 1 5 0,ee 2],ao [af [aI 9 0 1,aY 10 3 9,bB 11 67 [10],g9 12 11,aa 13 12,bS 13 (aI 14 3 1),bS 13 (aB 15 1 14),bS 13 (df 16 15),bS 13 (aN .gtr 17 16 12),jh 18 13 17,aa 19 18,bS 19 (aI 20 4 1),bS 19 (aB 21 1 20),bS 19 (df 22 21),bS 19 (aN .gtr 23 22 12),jh 24 19 23],.cond 24 (ao [af [ee 2],.ret]) .skip],ao [af [aI 25 3 1,aB 26 1 25,df 27 26,c7 28 0],.join ⟨[bu 1 1],[(1,.box [vX,vX,vX,.c (.v (.list [lX,lX,lX])),dD])]⟩ [1] [] (.block 0 (.loop 0 ⟨[bu 1 1,(26,.one (.c (.v (.list [lX,lX,lX])))),aR 27,aR 28],[(1,.box [vX,vX,vX,.c (.v (.list [lX,lX,lX])),dD])]⟩ [1,4] [] (ao [af [bJ .lss 29 28 27],fk 29 0,.block 1 (ao [af [cO 30 3 26 28,aY 31 3 30,gO 4 [.nil iX,.nil iX,.nil iX],bH 3 4 31],af [aI 32 0 1,aY 33 3 32,aY 34 3 4,bB 35 87 [33,34],g9 36 35],.cond 36 (ao [af [ee 2],.ret]) .skip]),af [aN .add 37 28 1,aa 28 37]])))],af [aI 39 3 1,aB 40 1 39,oX 41 (.Kn .aS 88 [40]),aa 38 41,jr 42 0 38,jr 43 1 38,oX 5 (.DV 100),uX (.FZ (List.replicate 100 (.int .i64)) 5 42),aa 6 43],ao [af [aa 44 6,g9 45 44],.cond 45 (ao [af [ee 2],.ret]) .skip],ao [af [aI 46 4 1,aB 47 1 46,df 48 47,c7 49 0],.join ⟨[bu 5 5,bu 1 1],[(1,.box [vX,vX,vX,.c (.v (.list [lX,lX,lX])),dD]),(5,.ef (List.replicate 100 (.int .i64)) [])]⟩ [1,5] [] (.block 2 (.loop 0 ⟨[bu 1 1,bu 5 5,gh 47,aR 48,aR 49],[(1,.box [vX,vX,vX,.c (.v (.list [lX,lX,lX])),dD]),(5,.ef (List.replicate 100 (.int .i64)) [])]⟩ [1,5] [] (ao [af [bJ .lss 50 49 48],fk 50 2,.block 3 (ao [af [cO 51 1 47 49,aB 52 1 51,aa 8 52],af [aa 53 8,aN .lss 54 53 0,aa 55 54,bS 55 (aa 56 8),bS 55 (aN .gtr 57 56 99),jh 58 55 57,aa 59 58,bS 59 (aa 60 8),bS 59 (oX 61 (.oF 100 5 60)),bS 59 (aB 62 1 61),bS 59 (aN .eql 63 62 0),jh 64 59 63],.cond 64 (ao [af [ee 2],.ret]) .skip]),af [aN .add 65 49 1,aa 49 65]])))],af [oX 66 (.Fj (List.replicate 100 (.int .i64)) 5),aI 67 4 1,aB 68 1 67,oX 69 (.Ox .aS 90 66 [68]),bB 70 89 [69],aN .neq 71 70 (-1),aa 2 71],.ret])
def ahB:List bI:=[.tmp 2]
theorem av5 (NN:Nat) (x:aX (aF.aW mP)):eE NN [En,Ht,V8,aeK,Pq] akN ahB mP gM x=Tq NN x:=by kernel_rfl
theorem atK:cK pX 43 akN.er ahB 1=true:=by decide+kernel
theorem MQ:dV pX 43 Hs.M/\bX pX 43=true:= eJ (args:=mP) (aC:=gM) (av.cons IE<|av.cons MR<|av.cons ajn<|av.cons ayc<|av.cons Zk<|av.nil) c9 atK xX fun x y h=>(av5 aP x).trans h
def aeF:ax:=⟨10,qU,eI,Bb,Gj⟩
def akU:bO:=
 (ao [af [dZ 4 3 0,dZ 5 2 1,oX 8 (.alloc [zX,zX,zX,.nil [lX,lX,lX],.nil iX]),ee 9],ao [af [aY 19 3 4,aY 20 2 5,aa 21 2,aa 22 3,bB 23 38 [19,20,21,22],g9 24 23],.cond 24 (ao [af [oX 25 (.build [zX,zX,zX,.nil [lX,lX,lX],.nil iX] []),bH 5 8 25,ee 9],.ret]) .skip],.eH true [aY 26 3 4,aY 27 3 4,bB 28 40 [27],aa 29 3,bB 30 39 [26,28,29],aa 10 30],af [aY 31 3 4,oX 32 (.build [zX,zX,zX,.nil [lX,lX,lX],.nil iX] [(0,3,31)]),oX 11 (.alloc [zX,zX,zX,.nil [lX,lX,lX],.nil iX]),bH 5 11 32],af [aI 33 0 5,aB 34 1 33,oX 35 (.jP .aS [.bool] 1 false 34 34),aa 12 35],ao [af [aI 36 1 5,aB 37 1 36,df 38 37,c7 39 0],.join ⟨[dt 12 734 1,bu 8 8,bu 11 11,bu 4 4,aR 2],[bU 4 [vX,vX,vX],bU 8 [vX,vX,vX,fX 730 3,fX 731 1],bU 11 [vX,vX,vX,fX 732 3,fX 733 1],(730,.row true .aS [lX,lX,lX]),bf 731,(732,.row true .aS [lX,lX,lX]),bf 733,(734,.row true .aS [.bool])]⟩ [4,8,11,700,701,702,703,704,705,730,731,732,733,734] [bw 8 3 730,bw 8 4 731,bw 11 3 732,bw 11 4 733,dQ 12 734] (.block 0 (.loop 0 ⟨[aR 2,bu 4 4,bu 8 8,dt 10 704 1,bu 11 11,dt 12 705 1,(37,.one (.c (.v (.list [.int .i64,.int .i64])))),aR 38,aR 39],[bU 4 [vX,vX,vX],bU 8 [vX,vX,vX,fX 700 3,fX 701 1],bU 11 [vX,vX,vX,fX 702 3,fX 703 1],(700,.row true .aS [lX,lX,lX]),bf 701,(702,.row true .aS [lX,lX,lX]),bf 703,bf 704,(705,.row true .aS [.bool])]⟩ [4,5,8,29000,31000,11,35,700,701,702,703,704,705,724,725,726,727,728,729] [bw 8 3 700,bw 8 4 701,bw 11 3 702,bw 11 4 703,dQ 10 704,dQ 12 705] (ao [af [bJ .lss 40 39 38],fk 40 0,.join ⟨[aR 39,aR 2,bu 4 4,bu 8 8,dt 10 728 1,bu 11 11,dt 12 729 1,(37,.one (.c (.v (.list [.int .i64,.int .i64])))),aR 38],[bU 4 [vX,vX,vX],bU 8 [vX,vX,vX,fX 724 3,fX 725 1],bU 11 [vX,vX,vX,fX 726 3,fX 727 1],(724,.row true .aS [lX,lX,lX]),bf 725,(726,.row true .aS [lX,lX,lX]),bf 727,bf 728,(729,.row true .aS [.bool])]⟩ [4,8,11,14,61,63,67,15,100,700,701,703,704,705,715,716,718,722,723,724,725,726,727,728,729] [bw 8 3 724,bw 8 4 725,bw 11 3 726,bw 11 4 727,dQ 10 728,dQ 12 729] (.block 1 (ao [af [cO 41 2 37 39,aY 42 2 41,gO 14 [zX,zX],bH 2 14 42],af [aa 43 12,aI 44 0 14,aB 45 1 44,cO 46 1 43 45,uX (.store 1 46 (.k (.one (.v (.bool) (true)))))],af [aa 47 12,aI 48 1 14,aB 49 1 48,cO 50 1 47 49,uX (.store 1 50 (.k (.one (.v (.bool) (true)))))],ao [af [aI 51 0 14,aB 52 1 51,aI 53 1 14,aB 54 1 53,bJ .eql 55 52 54],.cond 55 (ao [.qR [(0,10),(1,10)] [aI 56 3 11,aB 57 1 56,aY 58 3 4,aI 59 0 14,aB 60 1 59,oX 61 (.f8 iX [60]),aa 62 2,oX 63 (.f8 iX [62]),aa 64 10,bB 65 41 [58,61,63,64],oX 66 (.f8 [lX,lX,lX] [65]),oX 67 (.append false [lX,lX,lX] 72 57 66),aI 68 3 11,bH 1 68 67],.exit 1]) .skip],.eH true [aY 69 3 4,aI 70 0 14,aB 71 1 70,aI 72 1 14,aB 73 1 72,oX 74 (.f8 iX [71,73]),aa 75 2,aa 76 2,oX 77 (.f8 iX [75,76]),aY 78 3 4,bB 79 40 [78],bB 80 41 [69,74,77,79],gO 15 [.nil iX,.nil iX,.nil iX],bH 3 15 80],ao [af [c7 16 0],.join ⟨[bu 15 15,aR 39,aR 2,bu 4 4,bu 8 8,dt 10 722 1,bu 11 11,dt 12 723 1,(37,.one (.c (.v (.list [.int .i64,.int .i64])))),aR 38],[bU 4 [vX,vX,vX],bU 8 [vX,vX,vX,fX 715 3,fX 716 1],bU 11 [vX,vX,vX,fX 717 3,fX 718 1],bU 15 [fX 719 1,fX 720 1,fX 721 1],(715,.row true .aS [lX,lX,lX]),bf 716,(717,.row true .aS [lX,lX,lX]),bf 718,bf 719,bf 720,bf 721,bf 722,(723,.row true .aS [.bool])]⟩ [4,8,11,15,706,707,708,709,710,711,712,713,714,715,716,717,718,719,720,721,722,723] [bw 8 3 715,bw 8 4 716,bw 11 3 717,bw 11 4 718,bw 15 0 719,bw 15 1 720,bw 15 2 721,dQ 10 722,dQ 12 723] (.block 2 (.loop 0 ⟨[aR 2,bu 4 4,bu 8 8,dt 10 713 1,bu 11 11,dt 12 714 1,bu 15 15,aR 16,(37,.one (.c (.v (.list [.int .i64,.int .i64])))),aR 38,aR 39],[bU 4 [vX,vX,vX],bU 8 [vX,vX,vX,fX 706 3,fX 707 1],bU 11 [vX,vX,vX,fX 708 3,fX 709 1],bU 15 [fX 710 1,fX 711 1,fX 712 1],(706,.row true .aS [lX,lX,lX]),bf 707,(708,.row true .aS [lX,lX,lX]),bf 709,bf 710,bf 711,bf 712,bf 713,(714,.row true .aS [.bool])]⟩ [4,8,11,14,74,77,80000,81000,81001,81002,15,700,701,702,703,704,705,706,707,708,709,710,711,712,713,714] [bw 8 3 706,bw 8 4 707,bw 11 3 708,bw 11 4 709,bw 15 0 710,bw 15 1 711,bw 15 2 712,dQ 10 713,dQ 12 714] (ao [ao [af [aa 81 16,aa 82 2,bJ .lss 83 81 82],fk 83 2],.block 3 (af [aY 86 3 4,aY 87 3 15,aa 88 16,aa 89 2,bJ .mul 90 88 89,aa 91 16,bJ .add 92 90 91,oX 93 (.pL 42 [86,87,92]),aa 94 10,oX 95 (.copy 93 94)]),af [aa 84 16,aN .add 85 84 1,aa 16 85]])))],af [aI 96 3 11,aB 97 1 96,aY 98 3 15,oX 99 (.f8 [lX,lX,lX] [98]),oX 100 (.append false [lX,lX,lX] 72 97 99),aI 101 3 11,bH 1 101 100]])),af [aN .add 102 39 1,aa 39 102]])))],ao [af [aa 103 12,df 104 103,c7 105 0],.join ⟨[bu 11 11,bu 8 8],[bU 8 [vX,vX,vX,fX 740 3,fX 741 1],bU 11 [vX,vX,vX,fX 742 3,fX 743 1],(740,.row true .aS [lX,lX,lX]),bf 741,(742,.row true .aS [lX,lX,lX]),bf 743]⟩ [4,8,11,735,736,737,738,739,740,741,742,743] [bw 8 3 740,bw 8 4 741,bw 11 3 742,bw 11 4 743] (.block 4 (.loop 0 ⟨[aR 2,bu 4 4,bu 8 8,bu 11 11,dt 103 739 1,aR 104,aR 105],[bU 4 [vX,vX,vX],bU 8 [vX,vX,vX,fX 735 3,fX 736 1],bU 11 [vX,vX,vX,fX 737 3,fX 738 1],(735,.row true .aS [lX,lX,lX]),bf 736,(737,.row true .aS [lX,lX,lX]),bf 738,(739,.row true .aS [.bool])]⟩ [4,8,11,116,118,121000,123,730,731,732,733,734,735,736,737,738,739] [bw 8 3 735,bw 8 4 736,bw 11 3 737,bw 11 4 738,dQ 103 739] (ao [af [bJ .lss 106 105 104],fk 106 4,.block 5 (ao [af [aa 107 105,cO 108 1 103 105,aB 109 1 108,aa 17 107,aa 18 109],af [aa 110 18,g9 111 110],.cond 111 (.qR [(0,10),(1,10)] [aI 112 3 11,aB 113 1 112,aY 114 3 4,aa 115 17,oX 116 (.f8 iX [115]),aa 117 2,oX 118 (.f8 iX [117]),aY 119 3 4,bB 120 40 [119],bB 121 41 [114,116,118,120],oX 122 (.f8 [lX,lX,lX] [121]),oX 123 (.append false [lX,lX,lX] 72 113 122),aI 124 3 11,bH 1 124 123]) .skip]),af [aN .add 125 105 1,aa 105 125]])))],ao [af [aY 126 5 11,bB 127 43 [126],g9 128 127],.cond 128 (ao [af [oX 129 (.build [zX,zX,zX,.nil [lX,lX,lX],.nil iX] []),bH 5 8 129,ee 9],.ret]) .skip],af [aY 130 5 11,bH 5 8 130,mr 9],.ret])
def ahI:List bI:=[.cell 8 5 true,.tmp 9]
theorem awd (NN:Nat) (x:aX (aF.aW qU)):eE NN [K5,K3,aet,Wa,Wi,Hs] akU ahI qU Bb x=Tz NN x:=by kernel_rfl
theorem atT:cK pX 10 akU.er ahI 4=true:=by decide+kernel
theorem ax7:dV pX 10 aeF.M/\bX pX 10=true:= eJ (args:=qU) (aC:=Bb) (av.cons Zm<|av.cons Q4<|av.cons axU<|av.cons ajp<|av.ac6 ajv<|av.cons MQ<|av.nil) c9 atT Gj fun x y h=>(awd aP x).trans h
def aeN:ax:=⟨114,kS,eI,kS,Gp⟩
def ak8:bO:=
 (ao [af [dZ 1 3 0,gO 2 [.nil iX,.nil iX,.nil iX]],.eH true [aI 3 0 1,aB 4 1 3,bB 5 83 [4],aI 6 1 1,aB 7 1 6,bB 8 83 [7],aI 9 2 1,aB 10 1 9,bB 11 83 [10],oX 12 (.build [.nil iX,.nil iX,.nil iX] [(0,1,5),(1,1,8),(2,1,11)]),bH 3 2 12],.ret])
def ahW:List bI:=[.cell 2 3 true]
theorem awr (NN:Nat) (x:aX (aF.aW kS)):eE NN [yr] ak8 ahW kS kS x=TN NN x:=by kernel_rfl
theorem at7:cK pX 114 ak8.er ahW 1=true:=by decide+kernel
theorem ayf:dV pX 114 aeN.M/\bX pX 114=true:= eJ (args:=kS) (aC:=kS) (av.cons AQ<|av.nil) c9 at7 Gp fun x y h=>(awr aP x).trans (aqS x y h)
def V7:ax:=⟨99,mP,eI,mP,Gn⟩
def ak7:bO:=
 (ao [af [dZ 1 5 0,oX 2 (.alloc [zX,zX,zX,.nil [lX,lX,lX],.nil iX])],.eH true [aI 6 0 1,aY 7 3 6,aI 8 4 1,aB 9 1 8,bB 10 83 [9],oX 11 (.build [zX,zX,zX,.nil [lX,lX,lX],.nil iX] [(0,3,7),(4,1,10)]),oX 3 (.alloc [zX,zX,zX,.nil [lX,lX,lX],.nil iX]),bH 5 3 11],ao [af [aI 12 3 1,aB 13 1 12,df 14 13,c7 15 0],.join ⟨[bu 3 3,bu 2 2],[bU 2 [vX,vX,vX,fX 704 3,fX 705 1],bU 3 [vX,vX,vX,fX 706 3,fX 707 1],(704,.row true .aS [lX,lX,lX]),bf 705,(706,.row true .aS [lX,lX,lX]),bf 707]⟩ [2,3,700,701,702,703,704,705,706,707] [bw 2 3 704,bw 2 4 705,bw 3 3 706,bw 3 4 707] (.block 0 (.loop 0 ⟨[bu 2 2,bu 3 3,(13,.one (.c (.v (.list [lX,lX,lX])))),aR 14,aR 15],[bU 2 [vX,vX,vX,fX 700 3,fX 701 1],bU 3 [vX,vX,vX,fX 702 3,fX 703 1],(700,.row true .aS [lX,lX,lX]),bf 701,(702,.row true .aS [lX,lX,lX]),bf 703]⟩ [1,2,11000,3,5,24,700,701,702,703] [bw 2 3 700,bw 2 4 701,bw 3 3 702,bw 3 4 703] (ao [af [bJ .lss 16 15 14],fk 16 0,.block 1 (ao [af [cO 17 3 13 15,aY 18 3 17,gO 5 [.nil iX,.nil iX,.nil iX],bH 3 5 18],.qR [(0,4),(1,4)] [aI 19 3 3,aB 20 1 19,aY 21 3 5,bB 22 114 [21],oX 23 (.f8 [lX,lX,lX] [22]),oX 24 (.append false [lX,lX,lX] 72 20 23),aI 25 3 3,bH 1 25 24]]),af [aN .add 26 15 1,aa 15 26]])))],af [aY 27 5 3,bH 5 2 27],.ret])
def ahV:List bI:=[.cell 2 5 true]
theorem awq (NN:Nat) (x:aX (aF.aW mP)):eE NN [yr,aeN] ak7 ahV mP mP x=TM NN x:=by kernel_rfl
theorem at6:cK pX 99 ak7.er ahV 1=true:=by decide+kernel
theorem ajm:dV pX 99 V7.M/\bX pX 99=true:= eJ (args:=mP) (aC:=mP) (av.cons AQ<|av.cons ayf<|av.nil) c9 at6 Gn fun x y h=>(awq aP x).trans h
def aez:ax:=⟨56,RU,eI,Bb,JD⟩
def akO:bO:=
 (ao [af [dZ 2 5 0,oX 4 (.alloc [zX,zX,zX,.nil [lX,lX,lX],.nil iX]),ee 5],ao [af [aY 7 5 2,bB 8 43 [7],g9 9 8],.cond 9 (ao [af [oX 10 (.build [zX,zX,zX,.nil [lX,lX,lX],.nil iX] []),bH 5 4 10,ee 5],.ret]) .skip],af [aY 11 5 2,bB 12 99 [11],oX 6 (.alloc [zX,zX,zX,.nil [lX,lX,lX],.nil iX]),bH 5 6 12],af [aa 13 1,bB 14 83 [13],aI 15 4 6,bH 1 15 14],ao [af [aY 16 5 6,bB 17 43 [16],g9 18 17],.cond 18 (ao [af [oX 19 (.build [zX,zX,zX,.nil [lX,lX,lX],.nil iX] []),bH 5 4 19,ee 5],.ret]) .skip],af [aY 20 5 6,bH 5 4 20,mr 5],.ret])
def ahC:List bI:=[.cell 4 5 true,.tmp 5]
theorem av6 (NN:Nat) (x:aX (aF.aW RU)):eE NN [Hs,V7,yr] akO ahC RU Bb x=Tr NN x:=by kernel_rfl
theorem atL:cK pX 56 akO.er ahC 2=true:=by decide+kernel
theorem ax1:dV pX 56 aez.M/\bX pX 56=true:= eJ (args:=RU) (aC:=Bb) (av.cons MQ<|av.cons ajm<|av.cons AQ<|av.nil) c9 atL JD fun x y h=>(av6 aP x).trans h
def aeD:ax:=⟨58,mP,eI,aal,JG⟩
def akS:bO:=
 (ao [af [dZ 1 5 0,oX 2 (.mv (.k (.one (.nil [.int .i64,.int .i64]))))],ao [af [aY 6 5 1,bB 7 43 [6],g9 8 7],.cond 8 (ao [af [oX 2 (.mv (.k (.one (.nil [.int .i64,.int .i64]))))],.ret]) .skip],af [oX 3 (.mv (.k (.one (.nil [.int .i64,.int .i64]))))],af [aI 9 3 1,aB 10 1 9,df 11 10,aa 4 11],ao [af [c7 5 0],.join ⟨[dt 3 701 2],[(701,.row true .aS [.int .i64,.int .i64])]⟩ [700,701] [dQ 3 701] (.block 0 (.loop 0 ⟨[dt 3 700 2,aR 4,aR 5],[(700,.row true .aS [.int .i64,.int .i64])]⟩ [1,22,23,32,33,700] [dQ 3 700] (ao [ao [af [aa 12 5,aa 13 4,aN .sub 14 13 1,bJ .lss 15 12 14],fk 15 0],.block 1 (ao [af [aa 18 5,aN .eql 19 18 0],.cond 19 (af [aa 20 3,oX 21 (.build [zX,zX] [(0,1,(kX 0)),(1,1,(kX 1))]),oX 22 (.f8 [.int .i64,.int .i64] [21]),oX 23 (.append true [.int .i64,.int .i64] 16 20 22),aa 3 23]) (af [aa 24 3,aa 25 5,aN .add 26 25 1,aa 27 4,aa 28 5,bJ .add 29 27 28,aN .sub 30 29 1,oX 31 (.build [zX,zX] [(0,1,26),(1,1,30)]),oX 32 (.f8 [.int .i64,.int .i64] [31]),oX 33 (.append true [.int .i64,.int .i64] 16 24 32),aa 3 33])]),af [aa 16 5,aN .add 17 16 1,aa 5 17]])))],af [aa 34 3,aa 2 34],.ret])
def ahG:List bI:=[.tmp 2]
theorem awa (NN:Nat) (x:aX (aF.aW mP)):eE NN [Hs] akS ahG mP aal x=Tv NN x:=by kernel_rfl
theorem atQ:cK pX 58 akS.er ahG 1=true:=by decide+kernel
theorem ax5:dV pX 58 aeD.M/\bX pX 58=true:= eJ (args:=mP) (aC:=aal) (av.cons MQ<|av.nil) c9 atQ JG fun x y h=>(awa aP x).trans h
def Wm:ax:=⟨116,mP,pA,aai,Gw⟩
def alz:bO:=
 (ao [af [dZ 1 5 0,oX 2 (.mv (.k (.one (.bZ))))],af [aI 9 3 1,aB 10 1 9,oX 11 (.Kn .aS 88 [10]),aa 8 11,jr 12 0 8,jr 13 1 8,oX 3 (.DV 100),uX (.FZ (List.replicate 100 (.int .i64)) 3 12),aa 4 13],af [oX 14 (.Fj (List.replicate 100 (.int .i64)) 3),aI 15 4 1,aB 16 1 15,aI 17 3 1,aB 18 1 17,df 19 18,oX 20 (.Ov [.nil iX,.nil [.int .i64,lX],zX] 100 14 [(0,1,16),(2,1,19)]),oX 21 (.Kl (List.replicate 100 (.int .i64)) 3 20),aa 5 21],ao [af [aI 22 3 1,aB 23 1 22,df 24 23,c7 25 0],.join ⟨[bu 5 21],[(21,.ef (List.replicate 100 (.int .i64)) [dD,fX 701 2,vX]),(701,.row true .aS [.int .i64,lX])]⟩ [21,700,701] [bw 21 101 701] (.block 0 (.loop 0 ⟨[bu 5 21,(23,.one (.c (.v (.list [lX,lX,lX])))),aR 24,aR 25],[(21,.ef (List.replicate 100 (.int .i64)) [dD,fX 700 2,vX]),(700,.row true .aS [.int .i64,lX])]⟩ [1,3,21,7,41,700] [bw 21 101 700] (ao [af [bJ .lss 26 25 24],fk 26 0,.block 1 (ao [af [aa 27 25,cO 28 3 23 25,aY 29 3 28,gO 7 [.nil iX,.nil iX,.nil iX],aa 6 27,bH 3 7 29],.qR [(2,10),(3,10),(4,10)] [aa 30 5,aa 31 5,oX 32 (.gS 31),aI 33 101 32,aB 34 1 33,aa 35 6,aI 36 0 7,aB 37 1 36,bB 38 83 [37],oX 39 (.build [zX,.nil iX] [(0,1,35),(1,1,38)]),oX 40 (.f8 [.int .i64,lX] [39]),oX 41 (.append false [.int .i64,lX] 32 34 40),oX 42 (.gS 30),aI 43 101 42,bH 1 43 41]]),af [aN .add 44 25 1,aa 25 44]])))],af [aa 45 5,aa 2 45],.ret])
def ain:List bI:=[.tmp 2]
theorem awR (NN:Nat) (x:aX (aF.aW mP)):n6 NN [V8,yr] alz ain mP aai x=Uc NN x:=by kernel_rfl
theorem auy:cK pX 116 alz.er ain 1=true:=by decide+kernel
theorem ajA:lL pX 116 Wm.MV/\bX pX 116=true:= pB (args:=mP) (aC:=aai) (av.cons ajn<|av.cons AQ<|av.nil) c9 auy Gw fun x y h=>(awR aP x).trans h
def V0:ax:=⟨117,RS,eI,fz,Bu⟩
def akz:bO:=
 (ao [af [c7 4 0],ao [af [aa 7 0,oX 8 (.gS 7),aI 9 101 8,aB 10 1 9,df 11 10,c7 12 0],.join ⟨[],[]⟩ [] [] (.block 0 (.loop 0 ⟨[aR 1,(10,.one (.c (.v (.list [.int .i64,lX])))),aR 11,aR 12],[]⟩ [6] [] (ao [af [bJ .lss 13 12 11],fk 13 0,.block 1 (ao [af [aa 14 12,cO 15 2 10 12,aY 16 2 15,gO 6 [zX,.nil iX],aa 5 14,bH 2 6 16],af [aI 17 0 6,aB 18 1 17,aa 19 1,bJ .eql 20 18 19],.cond 20 (ao [af [aa 21 5,aa 4 21],.ret]) .skip]),af [aN .add 22 12 1,aa 12 22]])))],af [c7 4 (-1)],.ret])
def ahn:List bI:=[.tmp 4]
theorem avR (NN:Nat) (x:aX (aF.aW RS)):eE NN [] akz ahn RS fz x=Tc NN x:=by kernel_rfl
theorem atv:cK pX 117 akz.er ahn 2=true:=by decide+kernel
theorem ajf:dV pX 117 V0.M/\bX pX 117=true:= eJ (args:=RS) (aC:=fz) (av.nil) c9 atv Bu fun x y h=>(avR aP x).trans h
def Wc:ax:=⟨131,km,eI,dO,Gs⟩
def alf:bO:=
 (ao [af [iH 4],af [aa 8 0,bB 9 83 [8],aa 5 9],ao [af [aa 10 1,df 11 10,c7 12 0],.join ⟨[dt 5 701 1],[bf 701]⟩ [700,701] [dQ 5 701] (.block 0 (.loop 0 ⟨[gh 0,dt 5 700 1,gh 10,aR 11,aR 12],[bf 700]⟩ [10000,22,23,700] [dQ 5 700] (ao [af [bJ .lss 13 12 11],fk 13 0,.block 1 (ao [af [cO 14 1 10 12,aB 15 1 14,aa 7 15],af [aa 16 0,aa 17 7,bB 18 113 [16,17],g9 19 18],.cond 19 (af [aa 20 5,aa 21 7,oX 22 (.f8 iX [21]),oX 23 (.append true iX 8 20 22),aa 5 23]) .skip]),af [aN .add 24 12 1,aa 12 24]])))],af [aa 25 5,aa 4 25],.ret])
def ah3:List bI:=[.tmp 4]
theorem awy (NN:Nat) (x:aX (aF.aW km)):eE NN [yr,Eo] alf ah3 km dO x=TU NN x:=by kernel_rfl
theorem aue:cK pX 131 alf.er ah3 2=true:=by decide+kernel
theorem ajr:dV pX 131 Wc.M/\bX pX 131=true:= eJ (args:=km) (aC:=dO) (av.cons AQ<|av.cons IF<|av.nil) c9 aue Gs fun x y h=>(awy aP x).trans h
def V1:ax:=⟨119,Dl,eI,dO,Ge⟩
def akA:bO:=
 (ao [af [iH 6],af [iH 7],ao [.eH true [aa 13 0,oX 14 (.gS 13),aI 15 101 14,aB 16 1 15,aa 17 1,cO 18 2 16 17,aI 19 1 18,aB 20 1 19,aa 21 0,oX 22 (.gS 21),aI 23 101 22,aB 24 1 23,aa 25 2,cO 26 2 24 25,aI 27 1 26,aB 28 1 27,bB 29 131 [20,28],df 30 29,c7 31 0],.join ⟨[dt 7 708 1],[bf 708]⟩ [700,701,708] [dQ 7 708] (.block 0 (.loop 0 ⟨[(0,.one (.c (.dN (List.replicate 100 (.int .i64)++[lX,.list [.int .i64,lX],.int .i64]) 0))),aR 1,aR 2,dt 7 700 1,dt 29 701 1,aR 30,aR 31],[bf 700,bf 701]⟩ [30000,700,701,706,707] [dQ 7 700,dQ 29 701] (ao [af [bJ .lss 32 31 30],fk 32 0,.join ⟨[aR 31,(0,.one (.c (.dN (List.replicate 100 (.int .i64)++[lX,.list [.int .i64,lX],.int .i64]) 0))),aR 1,aR 2,dt 7 706 1,dt 29 707 1,aR 30],[bf 706,bf 707]⟩ [69,70,704,705,706,707] [dQ 7 706,dQ 29 707] (.block 1 (ao [af [cO 33 1 29 31,aB 34 1 33,aa 9 34],af [aa 35 0,oX 36 (.gS 35),aI 37 100 36,aB 38 1 37,aa 39 9,bB 40 113 [38,39],aa 10 40],ao [af [aa 41 0,oX 42 (.gS 41),aI 43 101 42,aB 44 1 43,df 45 44,c7 46 0],.join ⟨[(10,.one (.c (.v (.bool)))),aR 9,aR 31,(0,.one (.c (.dN (List.replicate 100 (.int .i64)++[lX,.list [.int .i64,lX],.int .i64]) 0))),aR 1,aR 2,dt 7 704 1,dt 29 705 1,aR 30],[bf 704,bf 705]⟩ [702,703,704,705] [dQ 7 704,dQ 29 705] (.block 2 (.loop 0 ⟨[(0,.one (.c (.dN (List.replicate 100 (.int .i64)++[lX,.list [.int .i64,lX],.int .i64]) 0))),aR 1,aR 2,dt 7 702 1,aR 9,(10,.one (.c (.v (.bool)))),dt 29 703 1,aR 30,aR 31,(44,.one (.c (.v (.list [.int .i64,lX])))),aR 45,aR 46],[bf 702,bf 703]⟩ [12,700,701,702,703] [dQ 7 702,dQ 29 703] (ao [af [bJ .lss 47 46 45],fk 47 2,.block 3 (ao [af [aa 48 46,cO 49 2 44 46,aY 50 2 49,gO 12 [zX,.nil iX],aa 11 48,bH 2 12 50],af [aa 51 11,aa 52 1,bJ .neq 53 51 52,aa 54 53,bV 54 (aa 55 11),bV 54 (aa 56 2),bV 54 (bJ .neq 57 55 56),jq 58 54 57,aa 59 58,bV 59 (aI 60 1 12),bV 59 (aB 61 1 60),bV 59 (aa 62 9),bV 59 (bB 63 113 [61,62]),jq 64 59 63],.cond 64 (af [mr 10]) .skip]),af [aN .add 65 46 1,aa 46 65]])))],af [aa 66 10],.cond 66 (af [aa 67 7,aa 68 9,oX 69 (.f8 iX [68]),oX 70 (.append true iX 8 67 69),aa 7 70]) .skip])),af [aN .add 71 31 1,aa 31 71]])))],af [aa 72 7,aa 6 72],.ret])
def aho:List bI:=[.tmp 6]
theorem avS (NN:Nat) (x:aX (aF.aW Dl)):eE NN [Wc,Eo] akA aho Dl dO x=Td NN x:=by kernel_rfl
theorem atw:cK pX 119 akA.er aho 3=true:=by decide+kernel
theorem ajg:dV pX 119 V1.M/\bX pX 119=true:= eJ (args:=Dl) (aC:=dO) (av.cons ajr<|av.cons IF<|av.nil) c9 atw Ge fun x y h=>(avS aP x).trans h
def VZ:ax:=⟨120,Dl,pA,aaj,Gc⟩
def akx:bO:=
 (ao [af [gO 6 [zX,zX]],.eH true [aa 12 0,oX 13 (.gS 12),aI 14 101 13,aB 15 1 14,aa 16 1,cO 17 2 15 16,aI 18 0 17,aB 19 1 18,aa 20 0,oX 21 (.gS 20),aI 22 101 21,aB 23 1 22,aa 24 2,cO 25 2 23 24,aI 26 0 25,aB 27 1 26,oX 28 (.build [zX,zX] [(0,1,19),(1,1,27)]),gO 7 [zX,zX],bH 2 7 28],.eH true [aa 29 0,oX 30 (.gS 29),aI 31 102 30,aB 32 1 31,aa 33 0,aa 34 1,aa 35 2,oX 36 (.zN .aS 119 33 [34,35]),oX 37 (.build [zX,.nil iX] [(0,1,32),(1,1,36)]),gO 8 [zX,.nil iX],bH 2 8 37],af [oX 9 (.mv (.k (.one (.nil [.int .i64,lX]))))],ao [af [aa 38 0,oX 39 (.gS 38),aI 40 101 39,aB 41 1 40,df 42 41,c7 43 0],.join ⟨[dt 9 703 2,bu 8 8,bu 0 1000000,bu 7 7,bu 6 6],[(1000000,.ef (List.replicate 100 (.int .i64)) [dD,.c (.v (.list [.int .i64,lX])),vX]),bU 6 [vX,vX],bU 7 [vX,vX],bU 8 [vX,fX 702 1],bf 702,(703,.row true .aQ [.int .i64,lX])]⟩ [1000000,6,7,8,700,701,702,703] [bw 8 1 702,(false,9,0,703,.aQ,[])] (.block 0 (.loop 0 ⟨[bu 0 1000000,aR 1,aR 2,bu 6 6,bu 7 7,bu 8 8,dt 9 701 2,(41,.one (.c (.v (.list [.int .i64,lX])))),aR 42,aR 43],[(1000000,.ef (List.replicate 100 (.int .i64)) [dD,.c (.v (.list [.int .i64,lX])),vX]),bU 6 [vX,vX],bU 7 [vX,vX],bU 8 [vX,fX 700 1],bf 700,(701,.row true .aQ [.int .i64,lX])]⟩ [1000000,6,7,37000,8,11,59,700,701] [bw 8 1 700,(false,9,0,701,.aQ,[])] (ao [af [bJ .lss 44 43 42],fk 44 0,.block 1 (ao [af [aa 45 43,cO 46 2 41 43,aY 47 2 46,gO 11 [zX,.nil iX],aa 10 45,bH 2 11 47],af [aa 48 10,aa 49 1,bJ .neq 50 48 49,aa 51 50,bV 51 (aa 52 10),bV 51 (aa 53 2),bV 51 (bJ .neq 54 52 53),jq 55 51 54],.cond 55 (af [aa 56 9,aY 57 2 11,oX 58 (.f8 [.int .i64,lX] [57]),oX 59 (.append false [.int .i64,lX] 32 56 58),aa 9 59]) .skip]),af [aN .add 60 43 1,aa 43 60]])))],af [aa 61 0,aa 62 9,aY 63 2 8,oX 64 (.f8 [.int .i64,lX] [63]),oX 65 (.append false [.int .i64,lX] 32 62 64),oX 66 (.gS 61),aI 67 101 66,bH 1 67 65],af [aa 68 0,oX 69 (.gS 68),aI 70 102 69,aB 71 1 70,aN .add 72 71 1,oX 73 (.gS 68),aI 74 102 73,bH 1 74 72],af [aY 75 2 7,bH 2 6 75],.ret])
def ahl:List bI:=[.cell 6 2 true]
theorem avP (NN:Nat) (x:aX (aF.aW Dl)):n6 NN [V1] akx ahl Dl aaj x=Ta NN x:=by kernel_rfl
theorem att:cK pX 120 akx.er ahl 3=true:=by decide+kernel
theorem aje:lL pX 120 VZ.MV/\bX pX 120=true:= pB (args:=Dl) (aC:=aaj) (av.cons ajg<|av.nil) c9 att Gc fun x y h=>(avP aP x).trans h
def aes:ax:=⟨125,RT,pA,aak,Gd⟩
def aky:bO:=
 (ao [af [dZ 3 2 1,ee 4],.eH true [aa 7 0,aI 8 0 3,aB 9 1 8,oX 10 (.zN .aS 117 7 [9]),aa 11 0,aI 12 1 3,aB 13 1 12,oX 14 (.zN .aS 117 11 [13]),aa 5 10,aa 6 14],ao [af [aa 15 5,aN .lss 16 15 0,aa 17 16,bS 17 (aa 18 6),bS 17 (aN .lss 19 18 0),jh 20 17 19,aa 21 20,bS 21 (aI 22 0 3),bS 21 (aB 23 1 22),bS 21 (aI 24 1 3),bS 21 (aB 25 1 24),bS 21 (bJ .geq 26 23 25),jh 27 21 26],.cond 27 (ao [af [ee 4],.ret]) .skip],af [aa 28 0,aa 29 5,aa 30 6,oX 31 (.GR 120 28 [29,30])],af [mr 4],.ret])
def ahm:List bI:=[.tmp 4]
theorem avQ (NN:Nat) (x:aX (aF.aW RT)):n6 NN [V0,VZ] aky ahm RT aak x=Tb NN x:=by kernel_rfl
theorem atu:cK pX 125 aky.er ahm 2=true:=by decide+kernel
theorem axT:lL pX 125 aes.MV/\bX pX 125=true:= pB (args:=RT) (aC:=aak) (av.cons ajf<|av.jH aje<|av.nil) c9 atu Gd fun x y h=>(avQ aP x).trans h
def aeA:ax:=⟨115,Dm,eI,gM,JE⟩
def akP:bO:=
 (ao [af [dZ 2 5 0,ee 4],ao [af [aY 8 5 2,bB 9 43 [8],g9 10 9,aa 11 10,bS 11 (aa 12 1),bS 11 (df 13 12),bS 11 (aI 14 3 2),bS 11 (aB 15 1 14),bS 11 (df 16 15),bS 11 (aN .sub 17 16 1),bS 11 (oX 18 (.mm true 17 (kX 0))),bS 11 (bJ .neq 19 13 18),jh 20 11 19],.cond 20 (ao [af [ee 4],.ret]) .skip],af [aY 21 5 2,oX 22 (.Ko 116 [21]),aa 5 22],ao [af [aa 23 1,df 24 23,c7 25 0],.join ⟨[],[]⟩ [22] [] (.block 0 (.loop 0 ⟨[bu 5 22,(23,.one (.c (.v (.list [.int .i64,.int .i64])))),aR 24,aR 25],[(22,.ef (List.replicate 100 (.int .i64)) [dD,.c (.v (.list [.int .i64,lX])),vX])]⟩ [2,22,7] [] (ao [af [bJ .lss 26 25 24],fk 26 0,.block 1 (ao [af [cO 27 2 23 25,aY 28 2 27,gO 7 [zX,zX],bH 2 7 28],af [aa 29 5,aY 30 2 7,oX 31 (.GR 125 29 [30]),g9 32 31],.cond 32 (ao [af [ee 4],.ret]) .skip]),af [aN .add 33 25 1,aa 25 33]])))],af [mr 4],.ret])
def ahD:List bI:=[.tmp 4]
theorem av7 (NN:Nat) (x:aX (aF.aW Dm)):eE NN [Hs,Wm,aes] akP ahD Dm gM x=Ts NN x:=by kernel_rfl
theorem atM:cK pX 115 akP.er ahD 2=true:=by decide+kernel
theorem ax2:dV pX 115 aeA.M/\bX pX 115=true:= eJ (args:=Dm) (aC:=gM) (av.cons MQ<|av.jH ajA<|av.jH axT<|av.nil) c9 atM JE fun x y h=>(av7 aP x).trans h
def V6:ax:=⟨134,RL,eI,fz,xY⟩
def ak3:bO:=
 (ao [af [dZ 2 3 0,c7 4 0],ao [af [aI 7 0 2,aB 8 1 7,df 9 8,c7 10 0],.join ⟨[],[]⟩ [] [] (.block 0 (.loop 0 ⟨[aR 1,gh 8,aR 9,aR 10],[]⟩ [2] [] (ao [af [bJ .lss 11 10 9],fk 11 0,.block 1 (ao [af [aa 12 10,cO 13 1 8 10,aB 14 1 13,aa 5 12,aa 6 14],af [aa 15 6,aa 16 1,bJ .eql 17 15 16],.cond 17 (ao [af [aa 18 5,aa 4 18],.ret]) .skip]),af [aN .add 19 10 1,aa 10 19]])))],af [c7 4 (-1)],.ret])
def ahR:List bI:=[.tmp 4]
theorem awm (NN:Nat) (x:aX (aF.aW RL)):eE NN [] ak3 ahR RL fz x=TI NN x:=by kernel_rfl
theorem at2:cK pX 134 ak3.er ahR 2=true:=by decide+kernel
theorem ajl:dV pX 134 V6.M/\bX pX 134=true:= eJ (args:=RL) (aC:=fz) (av.nil) c9 at2 xY fun x y h=>(awm aP x).trans (aqO x y h)
def aeO:ax:=⟨126,RN,eI,aag,Gr⟩
def ale:bO:=
 (ao [af [dZ 2 3 0,dZ 3 3 1,iH 4,iH 5,ee 6],af [aI 13 0 2,aB 14 1 13,aI 15 0 3,aB 16 1 15,bB 17 131 [14,16],aa 7 17],af [aa 18 7,df 19 18,oX 20 (.jP .aS iX 8 (0:Int) 19 19),aa 8 20],ao [af [aa 21 7,df 22 21,c7 23 0],.join ⟨[dt 7 702 1,dt 8 703 1],[bf 702,bf 703]⟩ [2,3,700,701,702,703] [dQ 7 702,dQ 8 703] (.block 0 (.loop 0 ⟨[bu 2 2,bu 3 3,dt 7 700 1,dt 8 701 1,dt 21 700 1,aR 22,aR 23],[bU 2 [dD,dD,dD],bU 3 [dD,dD,dD],bf 700,bf 701]⟩ [2,3,18000,20,700,701] [dQ 7 700,dQ 8 701] (ao [af [bJ .lss 24 23 22],fk 24 0,.block 1 (ao [af [aa 25 23,cO 26 1 21 23,aB 27 1 26,aa 9 25,aa 10 27],.eH true [aY 28 3 2,aa 29 10,bB 30 134 [28,29],aY 31 3 3,aa 32 10,bB 33 134 [31,32],aa 11 30,aa 12 33],ao [.eH true [aa 34 11,aN .geq 35 34 0,aa 36 35,bV 36 (aa 37 12),bV 36 (aN .geq 38 37 0),jq 39 36 38,aa 40 39,bV 40 (aI 41 1 2),bV 40 (aB 42 1 41),bV 40 (aa 43 11),bV 40 (cO 44 1 42 43),bV 40 (aB 45 1 44),bV 40 (aI 46 1 3),bV 40 (aB 47 1 46),bV 40 (aa 48 12),bV 40 (cO 49 1 47 48),bV 40 (aB 50 1 49),bV 40 (bJ .neq 51 45 50),jq 52 40 51],.cond 52 (ao [af [iH 4,iH 5,ee 6],.ret]) .skip],af [aa 53 11,aN .geq 54 53 0],.cond 54 (af [aa 55 8,aa 56 9,aI 57 1 2,aB 58 1 57,aa 59 11,cO 60 1 58 59,aB 61 1 60,cO 62 1 55 56,bH 1 62 61]) (af [aa 63 8,aa 64 9,aI 65 1 3,aB 66 1 65,aa 67 12,cO 68 1 66 67,aB 69 1 68,cO 70 1 63 64,bH 1 70 69])]),af [aN .add 71 23 1,aa 23 71]])))],af [aa 72 7,aa 73 8,aa 4 72,aa 5 73,mr 6],.ret])
def ah2:List bI:=[.tmp 4,.tmp 5,.tmp 6]
theorem awx (NN:Nat) (x:aX (aF.aW RN)):eE NN [Wc,V6] ale ah2 RN aag x=TT NN x:=by kernel_rfl
theorem aud:cK pX 126 ale.er ah2 2=true:=by decide+kernel
theorem ayg:dV pX 126 aeO.M/\bX pX 126=true:= eJ (args:=RN) (aC:=aag) (av.cons ajr<|av.cons ajl<|av.nil) c9 aud Gr fun x y h=>(awx aP x).trans h
def aeP:ax:=⟨127,km,eI,dO,JL⟩
def alg:bO:=
 (ao [af [iH 4],af [iH 5],ao [af [aa 8 0,df 9 8,c7 10 0],.join ⟨[dt 5 701 1],[bf 701]⟩ [700,701] [dQ 5 701] (.block 0 (.loop 0 ⟨[gh 1,dt 5 700 1,gh 8,aR 9,aR 10],[bf 700]⟩ [19,20,700] [dQ 5 700] (ao [af [bJ .lss 11 10 9],fk 11 0,.block 1 (ao [af [cO 12 1 8 10,aB 13 1 12,aa 7 13],af [aa 14 1,aa 15 7,bB 16 113 [14,15]],.cond 16 (af [aa 17 5,aa 18 7,oX 19 (.f8 iX [18]),oX 20 (.append true iX 8 17 19),aa 5 20]) .skip]),af [aN .add 21 10 1,aa 10 21]])))],af [aa 22 5,aa 4 22],.ret])
def ah4:List bI:=[.tmp 4]
theorem awz (NN:Nat) (x:aX (aF.aW km)):eE NN [Eo] alg ah4 km dO x=TV NN x:=by kernel_rfl
theorem auf:cK pX 127 alg.er ah4 2=true:=by decide+kernel
theorem ayh:dV pX 127 aeP.M/\bX pX 127=true:= eJ (args:=km) (aC:=dO) (av.cons IF<|av.nil) c9 auf JL fun x y h=>(awz aP x).trans h
def K4:ax:=⟨59,f7,eI,dO,ve⟩
def alv:bO:=
 (ao [af [dZ 1 3 0,iH 2],af [aY 4 3 1,bB 5 84 [4],oX 6 (.jP .aS iX 8 (0:Int) 5 5),aa 3 6],ao [af [aI 7 0 1,aB 8 1 7,aN .eql 9 8 4],.join ⟨[dt 3 700 1],[bf 700]⟩ [1,6,700] [dQ 3 700] (.cond 9 (af [aa 10 3,aI 11 1 1,aB 12 1 11,g8 13 1 10 0,bH 1 13 12]) .skip)],af [aa 14 3,aa 2 14],.ret])
def aij:List bI:=[.tmp 2]
theorem awN (NN:Nat) (x:aX (aF.aW f7)):eE NN [z7] alv aij f7 dO x=T8 NN x:=by kernel_rfl
theorem aut:cK pX 59 alv.er aij 1=true:=by decide+kernel
theorem Q5:dV pX 59 K4.M/\bX pX 59=true:= eJ (args:=f7) (aC:=dO) (av.cons C2<|av.nil) c9 aut ve fun x y h=>(awN aP x).trans (aea x y h)
def Wn:ax:=⟨128,RM,eI,dO,vf⟩
def alA:bO:=
 (ao [af [dZ 2 3 0,iH 4],af [aa 10 1,df 11 10,oX 12 (.jP .aS iX 8 (0:Int) 11 11),aa 5 12],af [c7 6 1],ao [af [aI 13 1 2,aB 14 1 13,df 15 14,aN .sub 16 15 1,aa 7 16],.join ⟨[dt 5 704 1],[bf 704]⟩ [2,700,704] [dQ 5 704] (.block 0 (.loop 0 ⟨[gh 1,bu 2 2,dt 5 700 1,aR 6,aR 7],[bU 2 [dD,dD,dD],bf 700]⟩ [2,12,700,703] [dQ 5 700] (ao [ao [af [aa 17 7,aN .geq 18 17 0],fk 18 0],.join ⟨[aR 7,gh 1,bu 2 2,dt 5 703 1,aR 6],[bU 2 [dD,dD,dD],bf 703]⟩ [2,702,703] [dQ 5 703] (.block 1 (ao [ao [af [aa 21 1,df 22 21,c7 23 0],.join ⟨[aR 6,aR 7,gh 1,bu 2 2,dt 5 702 1],[bU 2 [dD,dD,dD],bf 702]⟩ [2,701,702] [dQ 5 702] (.block 2 (.loop 0 ⟨[gh 1,bu 2 2,dt 5 701 1,aR 6,aR 7,gh 21,aR 22,aR 23],[bU 2 [dD,dD,dD],bf 701]⟩ [2,700,701] [dQ 5 701] (ao [af [bJ .lss 24 23 22],fk 24 2,.block 3 (ao [af [aa 25 23,cO 26 1 21 23,aB 27 1 26,aa 8 25,aa 9 27],af [aa 28 9,aI 29 0 2,aB 30 1 29,aa 31 7,cO 32 1 30 31,aB 33 1 32,bJ .eql 34 28 33],.cond 34 (af [aa 35 5,aa 36 8,aa 37 6,cO 38 1 35 36,bH 1 38 37]) .skip]),af [aN .add 39 23 1,aa 23 39]])))],af [aa 40 6,aI 41 1 2,aB 42 1 41,aa 43 7,cO 44 1 42 43,aB 45 1 44,bJ .mul 46 40 45,aa 6 46]])),af [aa 19 7,aN .sub 20 19 1,aa 7 20]])))],af [aa 47 5,aa 4 47],.ret])
def aio:List bI:=[.tmp 4]
theorem awS (NN:Nat) (x:aX (aF.aW RM)):eE NN [] alA aio RM dO x=Ud NN x:=by kernel_rfl
theorem auz:cK pX 128 alA.er aio 2=true:=by decide+kernel
theorem ajB:dV pX 128 Wn.M/\bX pX 128=true:= eJ (args:=RM) (aC:=dO) (av.nil) c9 auz vf fun x y h=>(awS aP x).trans (aq9 x y h)
def V9:ax:=⟨129,km,eI,fz,wH⟩
def ala:bO:=
 (ao [af [c7 4 0],af [c7 5 0],ao [af [aa 7 0,df 8 7,c7 9 0],.join ⟨[aR 5],[]⟩ [] [] (.block 0 (.loop 0 ⟨[gh 0,gh 1,aR 5,aR 8,aR 9],[]⟩ [] [] (ao [af [bJ .lss 10 9 8],fk 10 0,.block 1 (ao [af [aa 11 9,aa 6 11],.eH true [aa 12 5,aa 13 0,aa 14 6,cO 15 1 13 14,aB 16 1 15,aa 17 1,aa 18 6,cO 19 1 17 18,aB 20 1 19,bJ .mul 21 16 20,bJ .add 22 12 21,aa 5 22]]),af [aN .add 23 9 1,aa 9 23]])))],af [aa 24 5,aa 4 24],.ret])
def ahY:List bI:=[.tmp 4]
theorem awt (NN:Nat) (x:aX (aF.aW km)):eE NN [] ala ahY km fz x=TP NN x:=by kernel_rfl
theorem at9:cK pX 129 ala.er ahY 2=true:=by decide+kernel
theorem ajo:dV pX 129 V9.M/\bX pX 129=true:= eJ (args:=km) (aC:=fz) (av.nil) c9 at9 wH fun x y h=>(awt aP x).trans (aqT x y h)
def Wj:ax:=⟨42,Dj,pA,dO,wI⟩
def alo:bO:=
 (ao [af [dZ 3 3 0,dZ 4 3 1,iH 6],af [aY 8 3 3,bB 9 84 [8],aa 7 9],af [aI 10 2 4,aB 11 1 10,aa 12 2,aa 13 7,bJ .mul 14 12 13,aa 15 2,aN .add 16 15 1,aa 17 7,bJ .mul 18 16 17,oX 19 (.slice 1 11 (some 14) (some 18)),aa 6 19],.ret])
def aib:List bI:=[.tmp 6]
theorem awG (NN:Nat) (x:aX (aF.aW Dj)):n6 NN [z7] alo aib Dj dO x=T1 NN x:=by kernel_rfl
theorem aum:cK pX 42 alo.er aib 3=true:=by decide+kernel
theorem ajw:lL pX 42 Wj.MV/\bX pX 42=true:= pB (args:=Dj) (aC:=dO) (av.cons C2<|av.nil) c9 aum wI fun x y h=>(awG aP x).trans (aq3 x y h)
def aeQ:ax:=⟨124,wj,wi,dO,DK⟩
def alh:bO:=
 (ao [af [dZ 4 3 0],af [aa 12 1,uX (.oW (.int .i64) ((0:Int)) 12)],af [aa 13 2,df 14 13,c7 15 0],.block 0 (.loop 0 ⟨[dt 1 1000000 1,gh 2,gh 3,bu 4 4,aR 14,aR 15],[(1000000,.row false .aS iX),bU 4 [vX,vX,vX]]⟩ [1000000,4,700] [dQ 1 700] (ao [af [bJ .lss 16 15 14],fk 16 0,.join ⟨[aR 15,dt 1 1000000 1,gh 2,gh 3,bu 4 4,aR 14],[(1000000,.row false .aS iX),bU 4 [vX,vX,vX]]⟩ [1000000,4,702] [dQ 1 702] (.block 1 (ao [af [aa 17 15,aa 8 17],af [aa 18 3,df 19 18,c7 20 0],.block 2 (.loop 0 ⟨[dt 1 1000000 1,gh 2,gh 3,bu 4 4,aR 8,aR 14,aR 15,aR 19,aR 20],[(1000000,.row false .aS iX),bU 4 [vX,vX,vX]]⟩ [1000000,4,701] [dQ 1 701] (ao [af [bJ .lss 21 20 19],fk 21 2,.block 3 (ao [af [aa 22 20,aa 9 22],.eH true [aa 23 2,aa 24 8,cO 25 1 23 24,aB 26 1 25,aa 27 3,aa 28 9,cO 29 1 27 28,aB 30 1 29,bJ .mul 31 26 30,aI 32 1 4,aB 33 1 32,bJ .rem 34 31 33,aa 10 34],af [aa 35 8,aa 36 9,bJ .add 37 35 36,aa 11 37],af [aa 38 11,aa 39 1,df 40 39,bJ .lss 41 38 40],.cond 41 (.eH true [aa 42 1,aa 43 11,aa 44 1,aa 45 11,cO 46 1 44 45,aB 47 1 46,aa 48 10,bJ .add 49 47 48,aI 50 1 4,aB 51 1 50,bJ .rem 52 49 51,cO 53 1 42 43,bH 1 53 52]) (ao [af [aI 54 0 4,aB 55 1 54,aN .eql 56 55 8],.cond 56 (.eH true [aa 57 1,aa 58 11,aN .sub 59 58 4,aa 60 1,aa 61 11,aN .sub 62 61 4,cO 63 1 60 62,aB 64 1 63,aI 65 1 4,aB 66 1 65,bJ .add 67 64 66,aa 68 10,bJ .sub 69 67 68,aI 70 1 4,aB 71 1 70,bJ .rem 72 69 71,cO 73 1 57 59,bH 1 73 72]) .skip])]),af [aN .add 74 20 1,aa 20 74]]))])),af [aN .add 75 15 1,aa 15 75]]))])
def ah5:List bI:=[]
theorem awA (NN:Nat) (x:aX (aF.aW wj)):Nc NN [] alh ah5 wj wi dO x=TW NN x:=by kernel_rfl
theorem aug:cK pX 124 alh.er ah5 4=true:=by decide+kernel
theorem ayi:BN pX 124 wi aeQ.MM/\bX pX 124=true:= Y3 (args:=wj) (mu:=wi) (aC:=dO) (av.nil) c9 aug DK fun x y h=>(awA aP x).trans (aqX x y h)
def We:ax:=⟨104,wj,wi,dO,BD⟩
def ali:bO:=
 (ao [af [dZ 4 3 0],af [aI 8 0 4,aB 9 1 8],.block 0 (ao [ao [af [aN .eql 16 9 1,aa 15 16],.join ⟨[(15,.one (.c (.v (.bool)))),aR 9,bu 4 4,dt 1 1000000 1,gh 2,gh 3],[(1000000,.row false .aS iX),bU 4 [vX,vX,vX]]⟩ [1000000,4,700] [dQ 1 700] (.cond 15 .skip (af [aN .eql 17 9 5,aa 15 17]))],.cond 15 (.eH true [aa 18 1,aa 19 2,g8 20 1 19 0,aB 21 1 20,aa 22 3,g8 23 1 22 0,aB 24 1 23,oX 25 (.mm false 21 24),g8 26 1 18 0,bH 1 26 25]) (ao [af [aN .eql 28 9 2,aa 27 28],.cond 27 (.eH true [aa 29 1,aa 30 2,g8 31 1 30 0,aB 32 1 31,aa 33 3,g8 34 1 33 0,aB 35 1 34,bJ .mul 36 32 35,aI 37 1 4,aB 38 1 37,bJ .rem 39 36 38,g8 40 1 29 0,bH 1 40 39]) (ao [af [aN .eql 42 9 3,aa 41 42],.cond 41 (.eH true [aa 43 1,aa 44 2,g8 45 1 44 0,aB 46 1 45,aa 47 3,g8 48 1 47 0,aB 49 1 48,bJ .mul 50 46 49,aI 51 1 4,aB 52 1 51,oX 53 (.mm false 50 52),g8 54 1 43 0,bH 1 54 53]) (ao [af [aN .eql 56 9 4,aa 55 56],.cond 55 (.eH true [aa 57 1,aa 58 2,g8 59 1 58 0,aB 60 1 59,aa 61 3,g8 62 1 61 0,aB 63 1 62,bJ .add 64 60 63,aI 65 1 4,aB 66 1 65,oX 67 (.mm false 64 66),g8 68 1 57 0,bH 1 68 67]) (ao [af [aN .eql 70 9 6,aa 69 70],.cond 69 (.eH true [aa 71 1,aa 72 2,g8 73 1 72 0,aB 74 1 73,aa 75 3,g8 76 1 75 0,aB 77 1 76,bJ .and 78 74 77,g8 79 1 71 0,bH 1 79 78]) (af [aY 10 3 4,aa 11 1,aa 12 2,aa 13 3,oX 14 (.oU .aS 124 [10,11,12,13])])])])])])])])
def ah6:List bI:=[]
theorem awB (NN:Nat) (x:aX (aF.aW wj)):Nc NN [aeQ] ali ah6 wj wi dO x=N3 NN x:=by kernel_rfl
theorem auh:cK pX 104 ali.er ah6 4=true:=by decide+kernel
theorem ajs:BN pX 104 wi We.MM/\bX pX 104=true:= Y3 (args:=wj) (mu:=wi) (aC:=dO) (av.KC ayi<|av.nil) c9 auh BD fun x y h=>(awB aP x).trans (aqY x y h)
def Wg:ax:=⟨130,km,wi,aad,vd⟩
def alj:bO:=
 (ao [af [ee 4],ao [af [aa 6 0,df 7 6,aN .sub 8 7 1,aa 5 8],.join ⟨[],[(1000000,.row false .aS iX)]⟩ [1000000] [] (.block 0 (.loop 0 ⟨[gh 0,dt 1 1000000 1,aR 5],[(1000000,.row false .aS iX)]⟩ [1000000,700] [dQ 1 700] (ao [ao [af [aa 9 5,aN .geq 10 9 0],fk 10 0],.block 1 (ao [af [aa 13 1,aa 14 5,cO 15 1 13 14,aB 16 1 15,aN .add 17 16 1,cO 18 1 13 14,bH 1 18 17],ao [.eH true [aa 19 1,aa 20 5,cO 21 1 19 20,aB 22 1 21,aa 23 0,aa 24 5,cO 25 1 23 24,aB 26 1 25,bJ .lss 27 22 26],.cond 27 (ao [af [mr 4],.ret]) .skip],af [aa 28 1,aa 29 5,cO 30 1 28 29,uX (.store 1 30 (kX 0))]]),af [aa 11 5,aN .sub 12 11 1,aa 5 12]])))],af [ee 4],.ret])
def ah7:List bI:=[.tmp 4]
theorem awC (NN:Nat) (x:aX (aF.aW km)):Nc NN [] alj ah7 km wi aad x=TX NN x:=by kernel_rfl
theorem aui:cK pX 130 alj.er ah7 2=true:=by decide+kernel
theorem ajt:BN pX 130 wi Wg.MM/\bX pX 130=true:= Y3 (args:=km) (mu:=wi) (aC:=aad) (av.nil) c9 aui vd fun x y h=>(awC aP x).trans (aqZ x y h)
def V3:ax:=⟨118,RP,eI,wq,Bx⟩
def akG:bO:=
 (ao [af [dZ 4 3 0,dZ 5 3 1,dZ 6 3 2,gO 8 [.nil iX,.nil iX,.nil iX],ee 9],ao [af [aY 24 3 4,aY 25 3 5,bB 26 87 [24,25],g9 27 26,aa 28 27,bS 28 (aY 29 3 4),bS 28 (aY 30 3 6),bS 28 (bB 31 87 [29,30]),bS 28 (g9 32 31),jh 33 28 32],.cond 33 (ao [af [oX 34 (.build [.nil iX,.nil iX,.nil iX] []),bH 3 8 34,ee 9],.ret]) .skip],af [aY 36 3 5,aY 37 3 6,bB 38 126 [36,37],aa 35 38,jr 39 0 35,jr 40 1 35,jr 41 2 35,aa 10 39,aa 11 40,aa 12 41],ao [af [aa 42 12,g9 43 42,aa 44 43,bS 44 (aa 45 11),bS 44 (bB 46 86 [45]),bS 44 (aN .gtr 47 46 65536),jh 48 44 47],.cond 48 (ao [af [oX 49 (.build [.nil iX,.nil iX,.nil iX] []),bH 3 8 49,ee 9],.ret]) .skip],af [aa 50 10,aa 51 3,bB 52 127 [50,51],aa 13 52],af [aa 53 13,aa 54 13,df 55 54,oX 56 (.jP .aS iX 8 (0:Int) 55 55),oX 57 (.build [.nil iX,.nil iX,.nil iX] [(0,1,53),(1,1,56)]),gO 14 [.nil iX,.nil iX,.nil iX],bH 3 14 57],ao [af [aa 58 13,df 59 58,c7 60 0],.join ⟨[dt 10 730 1,bu 14 14,bu 8 8,dt 11 731 1,bu 4 4,bu 6 6,bu 5 5],[bU 4 [vX,vX,vX],bU 5 [dD,dD,dD],bU 6 [dD,dD,dD],bU 8 [fX 724 1,fX 725 1,fX 726 1],bU 14 [fX 727 1,fX 728 1,fX 729 1],bf 724,bf 725,bf 726,bf 727,bf 728,bf 729,bf 730,bf 731]⟩ [4,5,6,8,14,700,701,702,703,704,705,706,707,724,725,726,727,728,729,730,731] [bw 8 0 724,bw 8 1 725,bw 8 2 726,bw 14 0 727,bw 14 1 728,bw 14 2 729,dQ 10 730,dQ 11 731] (.block 0 (.loop 0 ⟨[bu 4 4,bu 5 5,bu 6 6,bu 8 8,dt 10 706 1,dt 11 707 1,bu 14 14,dt 58 703 1,aR 59,aR 60],[bU 4 [vX,vX,vX],bU 5 [dD,dD,dD],bU 6 [dD,dD,dD],bU 8 [fX 700 1,fX 701 1,fX 702 1],bU 14 [fX 703 1,fX 704 1,fX 705 1],bf 700,bf 701,bf 702,bf 703,bf 704,bf 705,bf 706,bf 707]⟩ [4,5,6,8,39000,39001,53000,56,14,700,701,702,703,704,705,706,707,716,717,718,719,720,721,722,723] [bw 8 0 700,bw 8 1 701,bw 8 2 702,bw 14 0 703,bw 14 1 704,bw 14 2 705,dQ 10 706,dQ 11 707] (ao [af [bJ .lss 61 60 59],fk 61 0,.join ⟨[aR 60,bu 4 4,bu 5 5,bu 6 6,bu 8 8,dt 10 722 1,dt 11 723 1,bu 14 14,dt 58 719 1,aR 59],[bU 4 [vX,vX,vX],bU 5 [dD,dD,dD],bU 6 [dD,dD,dD],bU 8 [fX 716 1,fX 717 1,fX 718 1],bU 14 [fX 719 1,fX 720 1,fX 721 1],bf 716,bf 717,bf 718,bf 719,bf 720,bf 721,bf 722,bf 723]⟩ [4,5,6,8,14,708,709,710,711,712,713,714,715,716,717,718,719,720,721,722,723] [bw 8 0 716,bw 8 1 717,bw 8 2 718,bw 14 0 719,bw 14 1 720,bw 14 2 721,dQ 10 722,dQ 11 723] (.block 1 (ao [af [aa 62 60,cO 63 1 58 60,aB 64 1 63,aa 15 62,aa 16 64],af [aa 65 10,df 66 65,c7 67 0],.block 2 (.loop 0 ⟨[bu 4 4,bu 5 5,bu 6 6,bu 8 8,dt 10 714 1,dt 11 715 1,bu 14 14,aR 15,aR 16,dt 58 711 1,aR 59,aR 60,dt 65 714 1,aR 66,aR 67],[bU 4 [vX,vX,vX],bU 5 [dD,dD,dD],bU 6 [dD,dD,dD],bU 8 [fX 708 1,fX 709 1,fX 710 1],bU 14 [fX 711 1,fX 712 1,fX 713 1],bf 708,bf 709,bf 710,bf 711,bf 712,bf 713,bf 714,bf 715]⟩ [4,5,6,8,14,700,701,702,703,704,705,706,707,708,709,710,711,712,713,714,715] [bw 8 0 708,bw 8 1 709,bw 8 2 710,bw 14 0 711,bw 14 1 712,bw 14 2 713,dQ 10 714,dQ 11 715] (ao [af [bJ .lss 68 67 66],fk 68 2,.block 3 (ao [af [aa 69 67,cO 70 1 65 67,aB 71 1 70,aa 17 69,aa 18 71],af [aa 72 18,aa 73 16,bJ .eql 74 72 73],.cond 74 (.eH true [aI 75 1 14,aB 76 1 75,aa 77 15,aa 78 11,aa 79 17,cO 80 1 78 79,aB 81 1 80,cO 82 1 76 77,bH 1 82 81]) .skip]),af [aN .add 83 67 1,aa 67 83]]))])),af [aN .add 84 60 1,aa 60 84]])))],ao [af [aY 85 3 14,bB 86 89 [85],aN .eql 87 86 (-1)],.cond 87 (ao [af [oX 88 (.build [.nil iX,.nil iX,.nil iX] []),bH 3 8 88,ee 9],.ret]) .skip],.eH true [aY 89 3 4,aI 90 0 14,aB 91 1 90,aI 92 1 14,aB 93 1 92,aY 94 3 4,bB 95 59 [94],bB 96 41 [89,91,93,95],bH 3 14 96],.eH true [aY 97 3 5,aa 98 10,bB 99 128 [97,98],aY 100 3 6,aa 101 10,bB 102 128 [100,101],aY 103 3 14,aa 104 10,bB 105 128 [103,104],aa 19 99,aa 20 102,aa 21 105],af [aa 106 10,df 107 106,oX 108 (.jP .aS iX 8 (0:Int) 107 107),aa 22 108],af [aY 109 3 4,bB 110 84 [109],oX 111 (.jP .aS iX 8 (0:Int) 110 110),aa 23 111],.block 4 (.loop 0 ⟨[bu 4 4,bu 5 5,bu 6 6,bu 8 8,dt 11 738 1,bu 14 14,dt 19 739 1,dt 20 740 1,dt 21 741 1,dt 22 742 1,dt 23 743 1],[bU 4 [vX,vX,vX],bU 5 [dD,dD,dD],bU 6 [dD,dD,dD],bU 8 [fX 732 1,fX 733 1,fX 734 1],bU 14 [fX 735 1,fX 736 1,fX 737 1],bf 732,bf 733,bf 734,bf 735,bf 736,bf 737,bf 738,bf 739,bf 740,bf 741,bf 742,bf 743]⟩ [4,5,6,8,14,96000,97000,97001,97002,100000,103000,106000,108,111,724,725,726,727,728,729,730,731,732,733,734,735,736,737,738,739,740,741,742,743] [bw 8 0 732,bw 8 1 733,bw 8 2 734,bw 14 0 735,bw 14 1 736,bw 14 2 737,dQ 11 738,dQ 19 739,dQ 20 740,dQ 21 741,dQ 22 742,dQ 23 743] (.block 5 (ao [.eH true [aY 112 3 4,aa 113 23,aY 114 3 4,aY 115 3 5,aa 116 19,aa 117 22,bB 118 129 [116,117],oX 119 (.oV 42 [114,115,118]),aY 120 3 4,aY 121 3 6,aa 122 20,aa 123 22,bB 124 129 [122,123],oX 125 (.oV 42 [120,121,124]),oX 126 (.oU .aS 104 [112,113,119,125])],.eH true [aY 127 3 4,aY 128 3 4,aY 129 3 14,aa 130 21,aa 131 22,bB 132 129 [130,131],oX 133 (.pL 42 [128,129,132]),aa 134 23,oX 135 (.ox .aS 62 [127,133,134])],af [aa 136 11,aa 137 22,oX 138 (.oU .aS 130 [136,137]),g9 139 138],.cond 139 (ao [af [aY 140 3 14,bH 3 8 140,mr 9],.ret]) .skip])))])
def ahu:List bI:=[.cell 8 3 true,.tmp 9]
theorem avY (NN:Nat) (x:aX (aF.aW RP)):eE NN [Ht,aeO,Wh,aeP,Pq,K4,Wa,Wn,z7,V9,Wj,We,Wi,Hu,Wg] akG ahu RP wq x=Tj NN x:=by kernel_rfl
theorem atC:cK pX 118 akG.er ahu 4=true:=by decide+kernel
theorem ajh:dV pX 118 V3.M/\bX pX 118=true:= eJ (args:=RP) (aC:=wq) (av.cons MR<|av.cons ayg<|av.cons aju<|av.cons ayh<|av.cons Zk<|av.cons Q5<|av.cons ajp<|av.cons ajB<|av.cons C2<|av.cons ajo<|av.jH ajw<|av.KC ajs<|av.ac6 ajv<|av.KD Q3<|av.KC ajt<|av.nil) c9 atC Bx fun x y h=>(avY aP x).trans h
def aeB:ax:=⟨100,RX,pA,Bb,Gi⟩
def akQ:bO:=
 (ao [af [dZ 3 5 0,oX 6 (.alloc [zX,zX,zX,.nil [lX,lX,lX],.nil iX]),ee 7],ao [af [aY 19 5 3,aa 20 1,bB 21 115 [19,20],g9 22 21,aa 23 22,bS 23 (aa 24 2),bS 23 (aN .lss 25 24 0),jh 26 23 25,aa 27 26,bS 27 (aa 28 2),bS 27 (aa 29 1),bS 27 (df 30 29),bS 27 (bJ .gtr 31 28 30),jh 32 27 31],.cond 32 (ao [af [oX 33 (.build [zX,zX,zX,.nil [lX,lX,lX],.nil iX] []),bH 5 6 33,ee 7],.ret]) .skip],af [aY 34 5 3,oX 35 (.Ko 116 [34]),aa 8 35],af [aY 36 5 3,bB 37 99 [36],oX 9 (.alloc [zX,zX,zX,.nil [lX,lX,lX],.nil iX]),bH 5 9 37],ao [af [aa 38 1,aa 39 2,oX 40 (.slice 2 38 none (some 39)),df 41 40,c7 42 0],.join ⟨[bu 9 9,bu 6 6],[bU 6 [vX,vX,vX,fX 724 3,fX 725 1],bU 9 [vX,vX,vX,fX 726 3,fX 727 1],(724,.row true .aS [lX,lX,lX]),bf 725,(726,.row true .aQ [lX,lX,lX]),bf 727]⟩ [3,6,35,9,700,701,702,703,724,725,726,727] [bw 6 3 724,bw 6 4 725,(true,9,3,726,.aQ,[]),bw 9 4 727] (.block 0 (.loop 0 ⟨[bu 3 3,bu 6 6,bu 8 35,bu 9 9,(40,.one (.c (.v (.list [.int .i64,.int .i64])))),aR 41,aR 42],[(3,.box [vX,vX,vX,.c (.v (.list [lX,lX,lX])),dD]),bU 6 [vX,vX,vX,fX 700 3,fX 701 1],(35,.ef (List.replicate 100 (.int .i64)) [dD,.c (.v (.list [.int .i64,lX])),vX]),bU 9 [vX,vX,vX,fX 702 3,fX 703 1],(700,.row true .aS [lX,lX,lX]),bf 701,(702,.row true .aQ [lX,lX,lX]),bf 703]⟩ [3,6,35,38000,38001,9,700,701,702,703,720,721,722,723] [bw 6 3 700,bw 6 4 701,(true,9,3,702,.aQ,[]),bw 9 4 703] (ao [af [bJ .lss 43 42 41],fk 43 0,.join ⟨[aR 42,bu 3 3,bu 6 6,bu 8 35,bu 9 9,(40,.one (.c (.v (.list [.int .i64,.int .i64])))),aR 41],[(3,.box [vX,vX,vX,.c (.v (.list [lX,lX,lX])),dD]),bU 6 [vX,vX,vX,fX 720 3,fX 721 1],(35,.ef (List.replicate 100 (.int .i64)) [dD,.c (.v (.list [.int .i64,lX])),vX]),bU 9 [vX,vX,vX,fX 722 3,fX 723 1],(720,.row true .aS [lX,lX,lX]),bf 721,(722,.row true .aQ [lX,lX,lX]),bf 723]⟩ [3,6,35,9,14,101,712,713,714,715,720,721,722,723] [bw 6 3 720,bw 6 4 721,(true,9,3,722,.aQ,[]),bw 9 4 723] (.block 1 (ao [af [cO 44 2 40 42,aY 45 2 44,gO 11 [zX,zX],bH 2 11 45],.eH true [aa 46 8,aI 47 0 11,aB 48 1 47,oX 49 (.zN .aS 117 46 [48]),aa 50 8,aI 51 1 11,aB 52 1 51,oX 53 (.zN .aS 117 50 [52]),aa 12 49,aa 13 53],.eH true [aI 55 0 3,aY 56 3 55,aI 57 3 9,aB 58 1 57,aa 59 12,cO 60 3 58 59,aY 61 3 60,aI 62 3 9,aB 63 1 62,aa 64 13,cO 65 3 63 64,aY 66 3 65,aa 67 8,aa 68 12,aa 69 13,oX 70 (.zN .aS 119 67 [68,69]),bB 71 118 [56,61,66,70],aa 54 71,jr 72 0 54,jr 73 1 54,gO 14 [.nil iX,.nil iX,.nil iX],bH 3 14 72,aa 15 73],ao [af [aa 74 15,g9 75 74],.cond 75 (ao [af [oX 76 (.build [zX,zX,zX,.nil [lX,lX,lX],.nil iX] []),bH 5 6 76,ee 7],.ret]) .skip],af [oX 16 (.mv (.k (.one (.nil [lX,lX,lX]))))],ao [af [aI 77 3 9,aB 78 1 77,df 79 78,c7 80 0],.join ⟨[dt 16 719 3,bu 14 14,aR 12,aR 13,aR 42,bu 3 3,bu 6 6,bu 8 35,bu 9 9,(40,.one (.c (.v (.list [.int .i64,.int .i64])))),aR 41],[(3,.box [vX,vX,vX,.c (.v (.list [lX,lX,lX])),dD]),bU 6 [vX,vX,vX,fX 712 3,fX 713 1],(35,.ef (List.replicate 100 (.int .i64)) [dD,.c (.v (.list [.int .i64,lX])),vX]),bU 9 [vX,vX,vX,fX 714 3,fX 715 1],bU 14 [fX 716 1,fX 717 1,fX 718 1],(712,.row true .aS [lX,lX,lX]),bf 713,(714,.row true .aQ [lX,lX,lX]),bf 715,bf 716,bf 717,bf 718,(719,.row true .aQ [lX,lX,lX])]⟩ [3,6,35,9,14,704,705,706,707,708,709,710,711,712,713,714,715,716,717,718,719] [bw 6 3 712,bw 6 4 713,(true,9,3,714,.aQ,[]),bw 9 4 715,bw 14 0 716,bw 14 1 717,bw 14 2 718,(false,16,0,719,.aQ,[])] (.block 2 (.loop 0 ⟨[bu 3 3,bu 6 6,bu 8 35,bu 9 9,aR 12,aR 13,bu 14 14,dt 16 711 3,(40,.one (.c (.v (.list [.int .i64,.int .i64])))),aR 41,aR 42,dt 78 706 3,aR 79,aR 80],[(3,.box [vX,vX,vX,.c (.v (.list [lX,lX,lX])),dD]),bU 6 [vX,vX,vX,fX 704 3,fX 705 1],(35,.ef (List.replicate 100 (.int .i64)) [dD,.c (.v (.list [.int .i64,lX])),vX]),bU 9 [vX,vX,vX,fX 706 3,fX 707 1],bU 14 [fX 708 1,fX 709 1,fX 710 1],(704,.row true .aS [lX,lX,lX]),bf 705,(706,.row true .aQ [lX,lX,lX]),bf 707,bf 708,bf 709,bf 710,(711,.row true .aQ [lX,lX,lX])]⟩ [3,6,35,9,11,71000,72000,72001,72002,14,18,96,700,701,702,703,704,705,706,707,708,709,710,711] [bw 6 3 704,bw 6 4 705,(true,9,3,706,.aQ,[]),bw 9 4 707,bw 14 0 708,bw 14 1 709,bw 14 2 710,(false,16,0,711,.aQ,[])] (ao [af [bJ .lss 81 80 79],fk 81 2,.block 3 (ao [af [aa 82 80,cO 83 3 78 80,aY 84 3 83,gO 18 [.nil iX,.nil iX,.nil iX],aa 17 82,bH 3 18 84],af [aa 85 17,aa 86 12,bJ .neq 87 85 86,aa 88 87,bV 88 (aa 89 17),bV 88 (aa 90 13),bV 88 (bJ .neq 91 89 90),jq 92 88 91],.cond 92 (af [aa 93 16,aY 94 3 18,oX 95 (.f8 [lX,lX,lX] [94]),oX 96 (.append false [lX,lX,lX] 72 93 95),aa 16 96]) .skip]),af [aN .add 97 80 1,aa 80 97]])))],af [aa 98 16,aY 99 3 14,oX 100 (.f8 [lX,lX,lX] [99]),oX 101 (.append false [lX,lX,lX] 72 98 100),aI 102 3 9,bH 1 102 101],af [aa 103 8,aa 104 12,aa 105 13,oX 106 (.GR 120 103 [104,105])]])),af [aN .add 107 42 1,aa 42 107]])))],af [aY 108 5 9,bH 5 6 108,mr 7],.ret])
def ahE:List bI:=[.cell 6 5 true,.tmp 7]
theorem av8 (NN:Nat) (x:aX (aF.aW RX)):n6 NN [aeA,Wm,V7,V0,V1,V3,VZ] akQ ahE RX Bb x=Tt NN x:=by kernel_rfl
theorem atO:cK pX 100 akQ.er ahE 3=true:=by decide+kernel
theorem ax3:lL pX 100 aeB.MV/\bX pX 100=true:= pB (args:=RX) (aC:=Bb) (av.cons ax2<|av.jH ajA<|av.cons ajm<|av.cons ajf<|av.cons ajg<|av.cons ajh<|av.jH aje<|av.nil) c9 atO Gi fun x y h=>(av8 aP x).trans h
def Wl:ax:=⟨101,f7,eI,kS,Gv⟩
def alx:bO:=
 (ao [af [dZ 1 3 0,gO 2 [.nil iX,.nil iX,.nil iX]],af [aY 3 3 1,bB 4 40 [3],oX 5 (.build [.nil iX,.nil iX,.nil iX] [(2,1,4)]),bH 3 2 5],.ret])
def ail:List bI:=[.cell 2 3 true]
theorem awP (NN:Nat) (x:aX (aF.aW f7)):eE NN [K3] alx ail f7 kS x=Ua NN x:=by kernel_rfl
theorem auv:cK pX 101 alx.er ail 1=true:=by decide+kernel
theorem ajz:dV pX 101 Wl.M/\bX pX 101=true:= eJ (args:=f7) (aC:=kS) (av.cons Q4<|av.nil) c9 auv Gv fun x y h=>(awP aP x).trans h
def aeJ:ax:=⟨121,km,eI,gM,JJ⟩
def ak1:bO:=
 (ao [af [ee 4],ao [af [aa 7 0,df 8 7,c7 9 0],.join ⟨[],[]⟩ [] [] (.block 0 (.loop 0 ⟨[gh 1,gh 7,aR 8,aR 9],[]⟩ [] [] (ao [af [bJ .lss 10 9 8],fk 10 0,.block 1 (ao [af [cO 11 1 7 9,aB 12 1 11,aa 6 12],af [aa 13 1,aa 14 6,bB 15 113 [13,14],g9 16 15],.cond 16 (ao [af [ee 4],.ret]) .skip]),af [aN .add 17 9 1,aa 9 17]])))],af [mr 4],.ret])
def ahP:List bI:=[.tmp 4]
theorem awk (NN:Nat) (x:aX (aF.aW km)):eE NN [Eo] ak1 ahP km gM x=TG NN x:=by kernel_rfl
theorem at0:cK pX 121 ak1.er ahP 2=true:=by decide+kernel
theorem ayb:dV pX 121 aeJ.M/\bX pX 121=true:= eJ (args:=km) (aC:=gM) (av.cons IF<|av.nil) c9 at0 JJ fun x y h=>(awk aP x).trans h
def aeG:ax:=⟨123,wm,eI,kS,JH⟩
def akV:bO:=
 (ao [af [dZ 3 3 0,dZ 4 3 1,gO 6 [.nil iX,.nil iX,.nil iX]],ao [af [aY 9 3 3,aY 10 3 4,bB 11 87 [9,10],g9 12 11],.cond 12 (ao [af [oX 13 (.build [.nil iX,.nil iX,.nil iX] []),bH 3 6 13],.ret]) .skip],.eH true [aY 15 3 3,aY 16 3 4,aY 17 3 3,bB 18 101 [17],aa 19 2,bB 20 118 [15,16,18,19],aa 14 20,jr 21 0 14,jr 22 1 14,gO 7 [.nil iX,.nil iX,.nil iX],bH 3 7 21,aa 8 22],af [aY 23 3 7,bH 3 6 23],.ret])
def ahJ:List bI:=[.cell 6 3 true]
theorem awe (NN:Nat) (x:aX (aF.aW wm)):eE NN [Ht,Wl,V3] akV ahJ wm kS x=TA NN x:=by kernel_rfl
theorem atU:cK pX 123 akV.er ahJ 3=true:=by decide+kernel
theorem ax8:dV pX 123 aeG.M/\bX pX 123=true:= eJ (args:=wm) (aC:=kS) (av.cons MR<|av.cons ajz<|av.cons ajh<|av.nil) c9 atU JH fun x y h=>(awe aP x).trans h
def aeT:ax:=⟨132,km,eI,gM,JM⟩
def alw:bO:=
 (ao [af [ee 4],ao [af [aa 7 1,df 8 7,aa 9 0,df 10 9,bJ .neq 11 8 10],.cond 11 (ao [af [ee 4],.ret]) .skip],ao [af [aa 12 1,df 13 12,c7 14 0],.join ⟨[],[]⟩ [] [] (.block 0 (.loop 0 ⟨[gh 0,gh 1,gh 12,aR 13,aR 14],[]⟩ [] [] (ao [af [bJ .lss 15 14 13],fk 15 0,.block 1 (ao [af [aa 16 14,cO 17 1 12 14,aB 18 1 17,aa 5 16,aa 6 18],af [aa 19 1,aa 20 5,oX 21 (.slice 1 19 none (some 20)),aa 22 6,bB 23 113 [21,22],aa 24 23,bS 24 (aa 25 0),bS 24 (aa 26 6),bS 24 (bB 27 113 [25,26]),bS 24 (g9 28 27),jh 29 24 28],.cond 29 (ao [af [ee 4],.ret]) .skip]),af [aN .add 30 14 1,aa 14 30]])))],af [mr 4],.ret])
def aik:List bI:=[.tmp 4]
theorem awO (NN:Nat) (x:aX (aF.aW km)):eE NN [Eo] alw aik km gM x=T9 NN x:=by kernel_rfl
theorem auu:cK pX 132 alw.er aik 2=true:=by decide+kernel
theorem ayl:dV pX 132 aeT.M/\bX pX 132=true:= eJ (args:=km) (aC:=gM) (av.cons IF<|av.nil) c9 auu JM fun x y h=>(awO aP x).trans h
def aeS:ax:=⟨133,wm,eI,kS,Gu⟩
def alr:bO:=
 (ao [af [dZ 3 3 0,dZ 4 3 1,gO 6 [.nil iX,.nil iX,.nil iX]],.eH true [aa 12 2,bB 13 83 [12],aa 14 2,df 15 14,oX 16 (.jP .aS iX 8 (0:Int) 15 15),oX 17 (.build [.nil iX,.nil iX,.nil iX] [(0,1,13),(1,1,16)]),gO 7 [.nil iX,.nil iX,.nil iX],bH 3 7 17],ao [af [aa 18 2,df 19 18,c7 20 0],.join ⟨[gh 2,bu 7 7,bu 6 6,bu 4 4,bu 3 3],[bU 3 [vX,vX,vX],bU 4 [dD,dD,dD],bU 6 [fX 706 1,fX 707 1,fX 708 1],bU 7 [fX 709 1,fX 710 1,fX 711 1],bf 706,bf 707,bf 708,bf 709,bf 710,bf 711]⟩ [3,4,6,7,700,701,702,703,704,705,706,707,708,709,710,711] [bw 6 0 706,bw 6 1 707,bw 6 2 708,bw 7 0 709,bw 7 1 710,bw 7 2 711] (.block 0 (.loop 0 ⟨[gh 2,bu 3 3,bu 4 4,bu 6 6,bu 7 7,gh 18,aR 19,aR 20],[bU 3 [vX,vX,vX],bU 4 [dD,dD,dD],bU 6 [fX 700 1,fX 701 1,fX 702 1],bU 7 [fX 703 1,fX 704 1,fX 705 1],bf 700,bf 701,bf 702,bf 703,bf 704,bf 705]⟩ [3,4,6,14000,16,7,700,701,702,703,704,705] [bw 6 0 700,bw 6 1 701,bw 6 2 702,bw 7 0 703,bw 7 1 704,bw 7 2 705] (ao [af [bJ .lss 21 20 19],fk 21 0,.block 1 (ao [af [aa 22 20,cO 23 1 18 20,aB 24 1 23,aa 8 22,aa 9 24],.eH true [aI 25 1 7,aB 26 1 25,aa 27 8,aI 28 1 4,aB 29 1 28,aY 30 3 4,aa 31 9,bB 32 134 [30,31],cO 33 1 29 32,aB 34 1 33,cO 35 1 26 27,bH 1 35 34]]),af [aN .add 36 20 1,aa 20 36]])))],af [aY 37 3 4,aa 38 2,bB 39 128 [37,38],aa 10 39],af [aa 40 2,df 41 40,oX 42 (.jP .aS iX 8 (0:Int) 41 41),aa 11 42],.block 2 (.loop 0 ⟨[bu 3 3,bu 4 4,bu 6 6,bu 7 7,dt 10 718 1,dt 11 719 1],[bU 3 [vX,vX,vX],bU 4 [dD,dD,dD],bU 6 [fX 712 1,fX 713 1,fX 714 1],bU 7 [fX 715 1,fX 716 1,fX 717 1],bf 712,bf 713,bf 714,bf 715,bf 716,bf 717,bf 718,bf 719]⟩ [3,4,6,7,40000,42,51,706,707,708,709,710,711,712,713,714,715,716,717,718,719] [bw 6 0 712,bw 6 1 713,bw 6 2 714,bw 7 0 715,bw 7 1 716,bw 7 2 717,dQ 10 718,dQ 11 719] (.block 3 (ao [.eH true [aI 43 2 7,aB 44 1 43,aY 45 3 3,aY 46 3 4,aa 47 10,aa 48 11,bB 49 129 [47,48],oX 50 (.oV 42 [45,46,49]),oX 51 (.append true iX 8 44 50),aI 52 2 7,bH 1 52 51],af [aI 53 1 7,aB 54 1 53,aa 55 11,oX 56 (.oU .aS 130 [54,55]),g9 57 56],.cond 57 (ao [af [aY 58 3 7,bH 3 6 58],.ret]) .skip])))])
def aie:List bI:=[.cell 6 3 true]
theorem awJ (NN:Nat) (x:aX (aF.aW wm)):eE NN [yr,V6,Wn,V9,Wj,Wg] alr aie wm kS x=T5 NN x:=by kernel_rfl
theorem aup:cK pX 133 alr.er aie 3=true:=by decide+kernel
theorem ayk:dV pX 133 aeS.M/\bX pX 133=true:= eJ (args:=wm) (aC:=kS) (av.cons AQ<|av.cons ajl<|av.cons ajB<|av.cons ajo<|av.jH ajw<|av.KC ajt<|av.nil) c9 aup Gu fun x y h=>(awJ aP x).trans (aq6 x y h)
def aeC:ax:=⟨122,wm,eI,wq,JF⟩
def akR:bO:=
 (ao [af [dZ 3 3 0,dZ 4 3 1,gO 6 [.nil iX,.nil iX,.nil iX],ee 7],ao [af [aY 8 3 3,aY 9 3 4,bB 10 87 [8,9],g9 11 10,aa 12 11,bS 12 (aI 13 0 4),bS 12 (aB 14 1 13),bS 12 (aa 15 2),bS 12 (bB 16 132 [14,15]),bS 12 (g9 17 16),jh 18 12 17],.cond 18 (ao [af [oX 19 (.build [.nil iX,.nil iX,.nil iX] []),bH 3 6 19,ee 7],.ret]) .skip],af [aY 20 3 3,aY 21 3 4,aa 22 2,bB 23 133 [20,21,22],bH 3 6 23,mr 7],.ret])
def ahF:List bI:=[.cell 6 3 true,.tmp 7]
theorem av9 (NN:Nat) (x:aX (aF.aW wm)):eE NN [Ht,aeT,aeS] akR ahF wm wq x=Tu NN x:=by kernel_rfl
theorem atP:cK pX 122 akR.er ahF 3=true:=by decide+kernel
theorem ax4:dV pX 122 aeC.M/\bX pX 122=true:= eJ (args:=wm) (aC:=wq) (av.cons MR<|av.cons ayl<|av.cons ayk<|av.nil) c9 atP JF fun x y h=>(av9 aP x).trans h
def aex:ax:=⟨102,RW,eI,wq,Gg⟩
def akK:bO:=
 (ao [af [dZ 2 5 0,dZ 3 3 1,gO 4 [.nil iX,.nil iX,.nil iX],ee 5],ao [af [aY 6 5 2,bB 7 43 [6],g9 8 7,aa 9 8,bS 9 (aI 10 0 2),bS 9 (aY 11 3 10),bS 9 (aY 12 3 3),bS 9 (bB 13 87 [11,12]),bS 9 (g9 14 13),jh 15 9 14,aa 16 15,bS 16 (aI 17 4 2),bS 16 (aB 18 1 17),bS 16 (aI 19 0 3),bS 16 (aB 20 1 19),bS 16 (bB 21 121 [18,20]),bS 16 (g9 22 21),jh 23 16 22],.cond 23 (ao [af [oX 24 (.build [.nil iX,.nil iX,.nil iX] []),bH 3 4 24,ee 5],.ret]) .skip],.eH true [aI 25 0 2,aY 26 3 25,aI 27 0 2,aY 28 3 27,aY 29 3 3,aI 30 4 2,aB 31 1 30,bB 32 123 [28,29,31],aI 33 4 2,aB 34 1 33,bB 35 122 [26,32,34],jr 36 0 35,jr 37 1 35,bH 3 4 36,aa 5 37],.ret])
def ahy:List bI:=[.cell 4 3 true,.tmp 5]
theorem av2 (NN:Nat) (x:aX (aF.aW RW)):eE NN [Hs,Ht,aeJ,aeG,aeC] akK ahy RW wq x=Tn NN x:=by kernel_rfl
theorem atG:cK pX 102 akK.er ahy 2=true:=by decide+kernel
theorem axZ:dV pX 102 aex.M/\bX pX 102=true:= eJ (args:=RW) (aC:=wq) (av.cons MQ<|av.cons MR<|av.cons ayb<|av.cons ax8<|av.cons ax4<|av.nil) c9 atG Gg fun x y h=>(av2 aP x).trans h
def aev:ax:=⟨57,Dm,eI,wq,JC⟩
def akD:bO:=
 (ao [af [dZ 2 5 0,gO 4 [.nil iX,.nil iX,.nil iX],ee 5],af [aY 9 5 2,aa 10 1,aa 11 1,df 12 11,iY 13 100 [9,10,12],aa 8 13,jr 14 0 8,jr 15 1 8,oX 6 (.alloc [zX,zX,zX,.nil [lX,lX,lX],.nil iX]),bH 5 6 14,aa 7 15],ao [af [aa 16 7,g9 17 16],.cond 17 (ao [af [oX 18 (.build [.nil iX,.nil iX,.nil iX] []),bH 3 4 18,ee 5],.ret]) .skip],ao [af [aI 19 3 6,aB 20 1 19,df 21 20,aN .eql 22 21 0],.cond 22 (ao [af [aI 23 0 2,aY 24 3 23,bB 25 101 [24],bH 3 4 25,mr 5],.ret]) .skip],.eH true [aY 26 5 2,aI 27 3 6,aB 28 1 27,g8 29 3 28 0,aY 30 3 29,bB 31 102 [26,30],jr 32 0 31,jr 33 1 31,bH 3 4 32,aa 5 33],.ret])
def ahr:List bI:=[.cell 4 3 true,.tmp 5]
theorem avV (NN:Nat) (x:aX (aF.aW Dm)):eE NN [aeB,Wl,aex] akD ahr Dm wq x=Tg NN x:=by kernel_rfl
theorem atz:cK pX 57 akD.er ahr 2=true:=by decide+kernel
theorem axW:dV pX 57 aev.M/\bX pX 57=true:= eJ (args:=Dm) (aC:=wq) (av.jH ax3<|av.cons ajz<|av.cons axZ<|av.nil) c9 atz JC fun x y h=>(avV aP x).trans h
def aeH:ax:=⟨22,mP,eI,aam,Gk⟩
def akY:bO:=
 (ao [af [dZ 1 5 0,iH 2,ee 3],af [aY 9 5 1,bB 10 56 [9,(.k (.one (.nil iX)))],aa 8 10,jr 11 0 8,jr 12 1 8,oX 4 (.alloc [zX,zX,zX,.nil [lX,lX,lX],.nil iX]),bH 5 4 11,aa 5 12],ao [af [aa 13 5,g9 14 13],.cond 14 (ao [af [iH 2,ee 3],.ret]) .skip],.eH true [aY 16 5 4,aY 17 5 4,bB 18 58 [17],bB 19 57 [16,18],aa 15 19,jr 20 0 15,jr 21 1 15,gO 6 [.nil iX,.nil iX,.nil iX],bH 3 6 20,aa 7 21],ao [af [aa 22 7,g9 23 22],.cond 23 (ao [af [iH 2,ee 3],.ret]) .skip],af [aI 24 2 6,aB 25 1 24,aa 2 25,mr 3],.ret])
def ahM:List bI:=[.tmp 2,.tmp 3]
theorem awh (NN:Nat) (x:aX (aF.aW mP)):eE NN [aez,aeD,aev] akY ahM mP aam x=TE NN x:=by kernel_rfl
theorem atX:cK pX 22 akY.er ahM 1=true:=by decide+kernel
theorem ax9:dV pX 22 aeH.M/\bX pX 22=true:= eJ (args:=mP) (aC:=aam) (av.cons ax1<|av.cons ax5<|av.cons axW<|av.nil) c9 atX Gk fun x y h=>(awh aP x).trans h
def KY:ax:=⟨27,RB,eI,dO,xV⟩
def akH:bO:=
 (ao [af [dZ 2 3 0,iH 4],ao [af [aY 6 3 2,bB 7 67 [6],g9 8 7,aa 9 8,bS 9 (aa 10 1),bS 9 (aN .lss 11 10 0),jh 12 9 11],.cond 12 (ao [af [iH 4],.ret]) .skip],ao [af [aa 13 1,aN .eql 14 13 0],.cond 14 (ao [af [aY 15 3 2,bB 16 59 [15],aa 4 16],.ret]) .skip],af [aY 17 3 2,bB 18 40 [17],aa 5 18],ao [af [aI 19 0 2,aB 20 1 19],.block 0 (ao [af [aN .eql 22 20 3,aa 21 22],.cond 21 (af [aa 23 5,aa 24 1,aI 25 1 2,aB 26 1 25,oX 27 (.mm false 24 26),g8 28 1 23 0,bH 1 28 27]) (ao [ao [af [aN .eql 30 20 2,aa 29 30],.join ⟨[(29,.one (.c (.v (.bool)))),bu 2 2,aR 1,dt 5 700 1],[bU 2 [vX,vX,vX],bf 700]⟩ [2,19000,700] [dQ 5 700] (.cond 29 .skip (ao [af [aN .eql 31 20 7,aa 29 31],.cond 29 .skip (af [aN .eql 32 20 8,aa 29 32])]))],.cond 29 (af [aa 33 5,aa 34 1,aI 35 1 2,aB 36 1 35,bJ .rem 37 34 36,g8 38 1 33 0,bH 1 38 37]) .skip])])],af [aa 39 5,aa 4 39],.ret])
def ahv:List bI:=[.tmp 4]
theorem avZ (NN:Nat) (x:aX (aF.aW RB)):eE NN [En,K4,K3] akH ahv RB dO x=Tk NN x:=by kernel_rfl
theorem atD:cK pX 27 akH.er ahv 2=true:=by decide+kernel
theorem Zj:dV pX 27 KY.M/\bX pX 27=true:= eJ (args:=RB) (aC:=dO) (av.cons IE<|av.cons Q5<|av.cons Q4<|av.nil) c9 atD xV fun x y h=>(avZ aP x).trans (aqF x y h)
def aeM:ax:=⟨103,rQ,eI,dO,Gm⟩
def ak5:bO:=
 (ao [af [dZ 2 2 0,iH 4],af [aI 12 0 2,aB 13 1 12,oX 14 (.jP .aS iX 8 (0:Int) 13 13),aa 5 14],ao [af [aa 15 5,df 16 15,c7 17 0],.join ⟨[bu 2 2,dt 5 701 1,aR 1],[(2,.box [vX,.c (.v (.list [.int .i64,.int .i64]))]),bf 701]⟩ [2,700,701] [dQ 5 701] (.block 0 (.loop 0 ⟨[aR 1,bu 2 2,dt 5 700 1,aR 16,aR 17],[(2,.box [vX,.c (.v (.list [.int .i64,.int .i64]))]),bf 700]⟩ [2,14,700] [dQ 5 700] (ao [af [bJ .lss 18 17 16],fk 18 0,.block 1 (ao [af [aa 19 17,aa 6 19],af [aa 20 5,aa 21 6,aa 22 6,cO 23 1 20 21,bH 1 23 22]]),af [aN .add 24 17 1,aa 17 24]])))],ao [af [aI 25 1 2,aB 26 1 25,df 27 26,c7 28 0],.join ⟨[dt 5 705 1],[bf 705]⟩ [702,705] [dQ 5 705] (.block 2 (.loop 0 ⟨[aR 1,dt 5 702 1,(26,.one (.c (.v (.list [.int .i64,.int .i64])))),aR 27,aR 28],[bf 702]⟩ [2,701,702,704] [dQ 5 702] (ao [af [bJ .lss 29 28 27],fk 29 2,.join ⟨[aR 28,aR 1,dt 5 704 1,(26,.one (.c (.v (.list [.int .i64,.int .i64])))),aR 27],[bf 704]⟩ [8,702,703,704] [dQ 5 704] (.block 3 (ao [af [aa 30 28,cO 31 2 26 28,aY 32 2 31,gO 8 [zX,zX],aa 7 30,bH 2 8 32],ao [af [aa 33 1,aa 34 7,bJ .shr 35 33 34,aN .and 36 35 1,aN .eql 37 36 0],.cond 37 (.exit 3) .skip],.eH true [aa 38 5,aI 39 0 8,aB 40 1 39,cO 41 1 38 40,aB 42 1 41,aa 43 5,aI 44 1 8,aB 45 1 44,cO 46 1 43 45,aB 47 1 46,oX 48 (.mm false 42 47),aa 49 5,aI 50 0 8,aB 51 1 50,cO 52 1 49 51,aB 53 1 52,aa 54 5,aI 55 1 8,aB 56 1 55,cO 57 1 54 56,aB 58 1 57,oX 59 (.mm true 53 58),aa 9 48,aa 10 59],af [aa 60 5,df 61 60,c7 62 0],.block 4 (.loop 0 ⟨[aR 1,dt 5 703 1,aR 9,aR 10,(26,.one (.c (.v (.list [.int .i64,.int .i64])))),aR 27,aR 28,aR 61,aR 62],[bf 703]⟩ [8,702,703] [dQ 5 703] (ao [af [bJ .lss 63 62 61],fk 63 4,.block 5 (ao [af [aa 64 62,aa 11 64],af [aa 65 5,aa 66 11,cO 67 1 65 66,aB 68 1 67,aa 69 10,bJ .eql 70 68 69],.cond 70 (af [aa 71 5,aa 72 11,aa 73 9,cO 74 1 71 72,bH 1 74 73]) .skip]),af [aN .add 75 62 1,aa 62 75]]))])),af [aN .add 76 28 1,aa 28 76]])))],af [aa 77 5,aa 4 77],.ret])
def ahT:List bI:=[.tmp 4]
theorem awo (NN:Nat) (x:aX (aF.aW rQ)):eE NN [] ak5 ahT rQ dO x=TK NN x:=by kernel_rfl
theorem at4:cK pX 103 ak5.er ahT 2=true:=by decide+kernel
theorem aye:dV pX 103 aeM.M/\bX pX 103=true:= eJ (args:=rQ) (aC:=dO) (av.nil) c9 at4 Gm fun x y h=>(awo aP x).trans (aqQ x y h)
def aeR:ax:=⟨61,rQ,eI,fz,Gt⟩
def alm:bO:=
 (ao [af [dZ 2 2 0,c7 4 0],af [c7 5 0],ao [af [aY 8 2 2,aa 9 1,bB 10 103 [8,9],df 11 10,c7 12 0],.join ⟨[aR 5],[]⟩ [700] [] (.block 0 (.loop 0 ⟨[aR 5,dt 10 700 1,aR 11,aR 12],[bf 700]⟩ [2,11000,700] [dQ 10 700] (ao [af [bJ .lss 13 12 11],fk 13 0,.block 1 (ao [af [aa 14 12,cO 15 1 10 12,aB 16 1 15,aa 6 14,aa 7 16],af [aa 17 6,aa 18 7,bJ .eql 19 17 18],.cond 19 (af [aa 20 5,aN .add 21 20 1,aa 5 21]) .skip]),af [aN .add 22 12 1,aa 12 22]])))],af [aa 23 5,aa 4 23],.ret])
def ah9:List bI:=[.tmp 4]
theorem awE (NN:Nat) (x:aX (aF.aW rQ)):eE NN [aeM] alm ah9 rQ fz x=TZ NN x:=by kernel_rfl
theorem auk:cK pX 61 alm.er ah9 2=true:=by decide+kernel
theorem ayj:dV pX 61 aeR.M/\bX pX 61=true:= eJ (args:=rQ) (aC:=fz) (av.cons aye<|av.nil) c9 auk Gt fun x y h=>(awE aP x).trans (aq1 x y h)
def KZ:ax:=⟨63,Di,eI,dO,x3⟩
def alp:bO:=
 (ao [af [dZ 3 3 0,iH 6],af [aY 8 3 3,bB 9 84 [8],oX 10 (.jP .aS iX 8 (0:Int) 9 9),aa 7 10],af [aY 11 3 3,aa 12 7,aa 13 1,aa 14 2,oX 15 (.oU .aS 104 [11,12,13,14])],af [aa 16 7,aa 6 16],.ret])
def aic:List bI:=[.tmp 6]
theorem awH (NN:Nat) (x:aX (aF.aW Di)):eE NN [z7,We] alp aic Di dO x=T2 NN x:=by kernel_rfl
theorem aun:cK pX 63 alp.er aic 3=true:=by decide+kernel
theorem Zl:dV pX 63 KZ.M/\bX pX 63=true:= eJ (args:=Di) (aC:=dO) (av.cons C2<|av.KC ajs<|av.nil) c9 aun x3 fun x y h=>(awH aP x).trans (aq4 x y h)
def Pr:ax:=⟨60,Rz,eI,dO,x4⟩
def als:bO:=
 (ao [af [dZ 3 3 0,iH 6],af [aY 9 3 3,bB 10 40 [9],aa 7 10],ao [af [c7 8 0],.join ⟨[dt 7 701 1],[bf 701]⟩ [3,700,701] [dQ 7 701] (.block 0 (.loop 0 ⟨[gh 1,aR 2,bu 3 3,dt 7 700 1,aR 8],[bU 3 [vX,vX,vX],bf 700]⟩ [3,11000,20000,700] [dQ 7 700] (ao [ao [af [aa 11 8,aa 12 2,bJ .lss 13 11 12],fk 13 0],.block 1 (af [aY 16 3 3,aa 17 7,aa 18 1,bB 19 63 [16,17,18],aa 7 19]),af [aa 14 8,aN .add 15 14 1,aa 8 15]])))],af [aa 20 7,aa 6 20],.ret])
def aif:List bI:=[.tmp 6]
theorem awK (NN:Nat) (x:aX (aF.aW Rz)):eE NN [K3,KZ] als aif Rz dO x=T6 NN x:=by kernel_rfl
theorem auq:cK pX 60 als.er aif 3=true:=by decide+kernel
theorem ajx:dV pX 60 Pr.M/\bX pX 60=true:= eJ (args:=Rz) (aC:=dO) (av.cons Q4<|av.cons Zl<|av.nil) c9 auq x4 fun x y h=>(awK aP x).trans (aq7 x y h)
def aeL:ax:=⟨64,fz,eI,fz,Gl⟩
def ak4:bO:=
 (ao [af [c7 2 0],af [c7 3 0],.join ⟨[aR 3],[]⟩ [] [] (.block 0 (.loop 0 ⟨[aR 0,aR 3],[]⟩ [] [] (ao [ao [af [aa 4 0,aN .neq 5 4 0],fk 5 0],.block 1 (af [aa 10 3,aN .add 11 10 1,aa 3 11]),af [aa 6 0,aa 7 0,aN .sub 8 7 1,bJ .and 9 6 8,aa 0 9]]))),af [aa 12 3,aa 2 12],.ret])
def ahS:List bI:=[.tmp 2]
theorem awn (NN:Nat) (x:aX (aF.aW fz)):eE NN [] ak4 ahS fz fz x=TJ NN x:=by kernel_rfl
theorem at3:cK pX 64 ak4.er ahS 1=true:=by decide+kernel
theorem ayd:dV pX 64 aeL.M/\bX pX 64=true:= eJ (args:=fz) (aC:=fz) (av.nil) c9 at3 Gl fun x y h=>(awn aP x).trans (aqP x y h)
def aeu:ax:=⟨23,qU,eI,dO,Bv⟩
def akC:bO:=
 (ao [af [dZ 4 3 0,dZ 5 2 1,iH 8],ao [af [aY 12 3 4,aY 13 2 5,aa 14 2,aa 15 3,bB 16 38 [12,13,14,15],g9 17 16],.cond 17 (ao [af [iH 8],.ret]) .skip],af [aY 18 3 4,bB 19 59 [18],aa 9 19],ao [af [c7 10 0],.join ⟨[dt 9 701 1],[bf 701]⟩ [4,5,700,701] [dQ 9 701] (.block 0 (.loop 0 ⟨[aR 2,gh 3,bu 4 4,bu 5 5,dt 9 700 1,aR 10],[bU 4 [vX,vX,vX],(5,.box [vX,.c (.v (.list [.int .i64,.int .i64]))]),bf 700]⟩ [4,5,20000,32000,36000,45000,46000,700] [dQ 9 700] (ao [ao [af [aa 20 10,aI 21 1 5,aB 22 1 21,df 23 22,oX 24 (.bin .shl (kX 1) 23),bJ .lss 25 20 24],fk 25 0],.block 1 (ao [.eH true [aY 28 3 4,aY 29 3 4,aa 30 2,bB 31 27 [29,30],aY 32 2 5,aa 33 10,bB 34 61 [32,33],bB 35 60 [28,31,34],aa 11 35],.eH true [aY 36 3 4,aa 37 9,aY 38 3 4,aa 39 11,aY 40 3 4,aa 41 3,aa 42 10,bB 43 64 [42],bB 44 60 [40,41,43],bB 45 63 [38,39,44],oX 46 (.ox .aS 62 [36,37,45])]]),af [aa 26 10,aN .add 27 26 1,aa 10 27]])))],af [aa 47 9,aa 8 47],.ret])
def ahq:List bI:=[.tmp 8]
theorem avU (NN:Nat) (x:aX (aF.aW qU)):eE NN [K5,K4,KY,aeR,Pr,aeL,KZ,Hu] akC ahq qU dO x=Tf NN x:=by kernel_rfl
theorem aty:cK pX 23 akC.er ahq 4=true:=by decide+kernel
theorem axV:dV pX 23 aeu.M/\bX pX 23=true:= eJ (args:=qU) (aC:=dO) (av.cons Zm<|av.cons Q5<|av.cons Zj<|av.cons ayj<|av.cons ajx<|av.cons ayd<|av.cons Zl<|av.KD Q3<|av.nil) c9 aty Bv fun x y h=>(avU aP x).trans h
def aeU:ax:=⟨24,km,eI,gM,DM⟩
def alC:bO:=
 (ao [af [ee 4],ao [af [aa 7 0,df 8 7,c7 9 0],.join ⟨[gh 0,gh 1],[]⟩ [] [] (.block 0 (.loop 0 ⟨[gh 0,gh 1,gh 7,aR 8,aR 9],[]⟩ [] [] (ao [af [bJ .lss 10 9 8],fk 10 0,.block 1 (ao [af [aa 11 9,cO 12 1 7 9,aB 13 1 12,aa 5 11,aa 6 13],af [aa 14 5,aa 15 1,df 16 15,bJ .geq 17 14 16,aa 18 17,bS 18 (aa 19 1),bS 18 (aa 20 5),bS 18 (cO 21 1 19 20),bS 18 (aB 22 1 21),bS 18 (aa 23 6),bS 18 (bJ .neq 24 22 23),jh 25 18 24],.cond 25 (ao [af [ee 4],.ret]) .skip]),af [aN .add 26 9 1,aa 9 26]])))],af [aa 27 0,df 28 27,aa 29 1,df 30 29,bJ .eql 31 28 30,aa 4 31],.ret])
def aiq:List bI:=[.tmp 4]
theorem awU (NN:Nat) (x:aX (aF.aW km)):eE NN [] alC aiq km gM x=Uf NN x:=by kernel_rfl
theorem auB:cK pX 24 alC.er aiq 2=true:=by decide+kernel
theorem ayn:dV pX 24 aeU.M/\bX pX 24=true:= eJ (args:=km) (aC:=gM) (av.nil) c9 auB DM fun x y h=>(awU aP x).trans h
def Pp:ax:=⟨65,rQ,eI,I4,Bz⟩
def akI:bO:=
 (ao [af [dZ 2 2 0,oX 4 (.alloc [zX,.nil [.int .i64,.int .i64]]),ee 5],ao [af [aY 9 2 2,bB 10 81 [9],g9 11 10,aa 12 11,bS 12 (aa 13 1),bS 12 (aN .lss 14 13 0),jh 15 12 14,aa 16 15,bS 16 (aa 17 1),bS 16 (aI 18 1 2),bS 16 (aB 19 1 18),bS 16 (df 20 19),bS 16 (bJ .geq 21 17 20),jh 22 16 21],.cond 22 (ao [af [oX 23 (.build [zX,.nil [.int .i64,.int .i64]] []),bH 2 4 23,ee 5],.ret]) .skip],af [aI 24 0 2,aB 25 1 24,oX 26 (.build [zX,.nil [.int .i64,.int .i64]] [(0,1,25)]),oX 6 (.alloc [zX,.nil [.int .i64,.int .i64]]),bH 2 6 26],ao [af [aI 27 1 2,aB 28 1 27,df 29 28,c7 30 0],.join ⟨[bu 6 6,bu 4 4],[bU 4 [vX,fX 702 2],bU 6 [vX,fX 703 2],(702,.row true .aS [.int .i64,.int .i64]),(703,.row true .aS [.int .i64,.int .i64])]⟩ [4,6,700,701,702,703] [bw 4 1 702,bw 6 1 703] (.block 0 (.loop 0 ⟨[aR 1,bu 4 4,bu 6 6,(28,.one (.c (.v (.list [.int .i64,.int .i64])))),aR 29,aR 30],[bU 4 [vX,fX 700 2],bU 6 [vX,fX 701 2],(700,.row true .aS [.int .i64,.int .i64]),(701,.row true .aS [.int .i64,.int .i64])]⟩ [2,4,6,8,41,42,700,701] [bw 4 1 700,bw 6 1 701] (ao [af [bJ .lss 31 30 29],fk 31 0,.block 1 (ao [af [aa 32 30,cO 33 2 28 30,aY 34 2 33,gO 8 [zX,zX],aa 7 32,bH 2 8 34],af [aa 35 7,aa 36 1,bJ .neq 37 35 36],.cond 37 (af [aI 38 1 6,aB 39 1 38,aY 40 2 8,oX 41 (.f8 [.int .i64,.int .i64] [40]),oX 42 (.append true [.int .i64,.int .i64] 16 39 41),aI 43 1 6,bH 1 43 42]) .skip]),af [aN .add 44 30 1,aa 30 44]])))],af [aY 45 2 6,bH 2 4 45,mr 5],.ret])
def ahw:List bI:=[.cell 4 2 true,.tmp 5]
theorem av0 (NN:Nat) (x:aX (aF.aW rQ)):eE NN [V5] akI ahw rQ I4 x=Tl NN x:=by kernel_rfl
theorem atE:cK pX 65 akI.er ahw 2=true:=by decide+kernel
theorem aji:dV pX 65 Pp.M/\bX pX 65=true:= eJ (args:=rQ) (aC:=I4) (av.cons ajk<|av.nil) c9 atE Bz fun x y h=>(av0 aP x).trans (aqG x y h)
def aew:ax:=⟨105,RD,eI,fz,Bw⟩
def akF:bO:=
 (ao [af [c7 4 0],ao [af [aa 5 0,aB 6 1 1,bJ .eql 7 5 6],.cond 7 (ao [af [aB 8 1 2,aa 4 8],.ret]) .skip],ao [af [aa 9 0,aB 10 1 1,bJ .gtr 11 9 10],.cond 11 (ao [af [aa 12 0,aN .sub 13 12 1,aa 4 13],.ret]) .skip],af [aa 14 0,aa 4 14],.ret])
def aht:List bI:=[.tmp 4]
theorem avX (NN:Nat) (x:aX (aF.aW RD)):eE NN [] akF aht RD fz x=Ti NN x:=by kernel_rfl
theorem atB:cK pX 105 akF.er aht 3=true:=by decide+kernel
theorem axY:dV pX 105 aew.M/\bX pX 105=true:= eJ (args:=RD) (aC:=fz) (av.nil) c9 atB Bw fun x y h=>(avX aP x).trans (aqE x y h)
def V2:ax:=⟨66,rQ,eI,I4,Gf⟩
def akE:bO:=
 (ao [af [dZ 2 2 0,oX 4 (.alloc [zX,.nil [.int .i64,.int .i64]]),ee 5],af [aY 14 2 2,aa 15 1,bB 16 65 [14,15],aa 13 16,jr 17 0 13,jr 18 1 13,oX 6 (.alloc [zX,.nil [.int .i64,.int .i64]]),bH 2 6 17,aa 7 18],ao [af [aa 19 7,g9 20 19],.cond 20 (ao [af [oX 21 (.build [zX,.nil [.int .i64,.int .i64]] []),bH 2 4 21,ee 5],.ret]) .skip],.qR [(13,28),(14,28),(16,28),(17,28),(18,28),(19,28),(20,28),(22,28),(23,28),(24,28)] [aI 22 1 2,aB 23 1 22,aa 24 1,cO 25 2 23 24,aI 26 0 25,aB 27 1 26,aI 28 1 2,aB 29 1 28,aa 30 1,cO 31 2 29 30,aI 32 1 31,aB 33 1 32,oX 34 (.mm false 27 33),aI 35 1 2,aB 36 1 35,aa 37 1,cO 38 2 36 37,aI 39 0 38,aB 40 1 39,aI 41 1 2,aB 42 1 41,aa 43 1,cO 44 2 42 43,aI 45 1 44,aB 46 1 45,oX 47 (.mm true 40 46),gO 8 [zX],gO 9 [zX],bH 1 8 34,bH 1 9 47],ao [af [aB 48 1 8,aB 49 1 9,bJ .eql 50 48 49],.cond 50 (ao [af [aY 51 2 6,bH 2 4 51,mr 5],.ret]) .skip],af [oX 52 (.tJ 105 [9,8]),aa 10 52],af [aI 53 0 6,aB 54 1 53,aN .sub 55 54 1,aI 56 0 6,bH 1 56 55],ao [af [aI 57 1 6,aB 58 1 57,df 59 58,c7 60 0],.join ⟨[bu 6 6,bu 4 4],[bU 4 [vX,fX 702 2],bU 6 [vX,fX 703 2],(702,.row true .aS [.int .i64,.int .i64]),(703,.row true .aS [.int .i64,.int .i64])]⟩ [4,6,8,9,700,701,702,703] [bw 4 1 702,bw 6 1 703] (.block 0 (.loop 0 ⟨[bu 4 4,bu 6 6,(10,.one (.fn 105 [.Fz 9 0,.Fz 8 0])),dt 58 701 2,aR 59,aR 60],[bU 4 [vX,fX 700 2],bU 6 [vX,fX 701 2],bU 8 [vX],bU 9 [vX],(700,.row true .aS [.int .i64,.int .i64]),(701,.row true .aS [.int .i64,.int .i64])]⟩ [2,4,17000,6,8,9,12,700,701] [bw 4 1 700,bw 6 1 701] (ao [af [bJ .lss 61 60 59],fk 61 0,.block 1 (ao [af [aa 62 60,cO 63 2 58 60,aY 64 2 63,gO 12 [zX,zX],aa 11 62,bH 2 12 64],.eH true [aI 65 1 6,aB 66 1 65,aa 67 11,aa 68 10,aI 69 0 12,aB 70 1 69,oX 71 (.pK .aS 68 [70]),aa 72 10,aI 73 1 12,aB 74 1 73,oX 75 (.pK .aS 72 [74]),oX 76 (.build [zX,zX] [(0,1,71),(1,1,75)]),cO 77 2 66 67,bH 2 77 76]]),af [aN .add 78 60 1,aa 60 78]])))],af [aY 79 2 6,bH 2 4 79,mr 5],.ret])
def ahs:List bI:=[.cell 4 2 true,.tmp 5]
theorem avW (NN:Nat) (x:aX (aF.aW rQ)):eE NN [Pp,aew] akE ahs rQ I4 x=Th NN x:=by kernel_rfl
theorem atA:cK pX 66 akE.er ahs 2=true:=by decide+kernel
theorem axX:dV pX 66 V2.M/\bX pX 66=true:= eJ (args:=rQ) (aC:=I4) (av.cons aji<|av.cons axY<|av.nil) c9 atA Gf fun x y h=>(avW aP x).trans (aqD x y h)
def Wq (k:Nat):ax:=⟨25,qU,eI,dO,wJ k⟩
def aeE:ax:=⟨25,qU,eI,dO,S8⟩
def Z0:bO:=
 (ao [af [dZ 4 3 0,dZ 5 2 1,iH 8],ao [af [aY 15 3 4,aY 16 2 5,aa 17 2,aa 18 3,bB 19 38 [15,16,17,18],g9 20 19],.cond 20 (ao [af [iH 8],.ret]) .skip],ao [af [aI 21 1 5,aB 22 1 21,df 23 22,aN .eql 24 23 0],.cond 24 (ao [.eH true [aY 25 3 4,aY 26 3 4,aa 27 2,bB 28 27 [26,27],aI 29 0 5,aB 30 1 29,bB 31 60 [25,28,30],aa 8 31],.ret]) .skip],af [aI 32 1 5,aB 33 1 32,df 34 33,aN .sub 35 34 1,aa 9 35],af [aY 37 2 5,aa 38 9,bB 39 65 [37,38],aa 36 39,jr 40 0 36,jr 41 1 36,oX 10 (.alloc [zX,.nil [.int .i64,.int .i64]]),bH 2 10 40,aa 11 41],af [aY 43 2 5,aa 44 9,bB 45 66 [43,44],aa 42 45,jr 46 0 42,jr 47 1 42,oX 12 (.alloc [zX,.nil [.int .i64,.int .i64]]),bH 2 12 46,aa 13 47],af [aY 48 3 4,aY 49 2 10,aa 50 2,aa 51 3,bB 52 25 [48,49,50,51],aa 14 52],.eH true [aY 53 3 4,aa 54 14,aY 55 3 4,aa 56 3,aY 57 3 4,aY 58 2 12,aa 59 2,aa 60 3,bB 61 25 [57,58,59,60],bB 62 63 [55,56,61],oX 63 (.ox .aS 62 [53,54,62])],af [aa 64 14,aa 8 64],.ret])
def Y2:List bI:=[.tmp 8]
theorem awc (k NN:Nat) (x:aX (aF.aW qU)):eE NN [K5,KY,Pr,Pp,V2,Wq k,KZ,Hu] Z0 Y2 qU dO x=Tx k NN x:=by kernel_rfl
theorem ags:cK pX 25 Z0.er Y2 4=true:=by decide+kernel
theorem ayY (k:Nat):dV pX 25 (Wq k).M/\bX pX 25=true:=by induction k with|zero=>exact⟨fun ds rs h=>by obtain⟨x,y,_,h2,_⟩:=ax.Gz h;exact absurd h2 (arq x y),G4 ags⟩|succ k ih=>exact eJ (T:=[K5,KY,Pr,Pp,V2,Wq k,KZ,Hu]) (sc:=Z0) (ms:=Y2) (args:=qU) (aC:=dO) (av.cons Zm<|av.cons Zj<|av.cons ajx<|av.cons aji<|av.cons axX<|av.cons ih<|av.cons Zl<|av.KD Q3<|av.nil) c9 ags (wJ (k+1)) fun x y h=>(awc k aP x).trans (aqL k x y h)
theorem ax6:dV pX 25 aeE.M/\bX pX 25=true:=ayY 12
def aeI:ax:=⟨26,f7,eI,dO,JI⟩
def akZ:bO:=
 (ao [af [dZ 1 3 0,iH 2],ao [af [aY 3 3 1,bB 4 67 [3],g9 5 4],.cond 5 (ao [af [iH 2],.ret]) .skip],af [aY 6 3 1,bB 7 59 [6],aa 2 7],.ret])
def ahN:List bI:=[.tmp 2]
theorem awi (NN:Nat) (x:aX (aF.aW f7)):eE NN [En,K4] akZ ahN f7 dO x=TF NN x:=by kernel_rfl
theorem atY:cK pX 26 akZ.er ahN 1=true:=by decide+kernel
theorem aya:dV pX 26 aeI.M/\bX pX 26=true:= eJ (args:=f7) (aC:=dO) (av.cons IE<|av.cons Q5<|av.nil) c9 atY JI fun x y h=>(awi aP x).trans h
def aeV:ax:=⟨28,Nn,eI,fz,JN⟩
def alD:bO:=
 (ao [af [c7 4 0],af [c7 5 1],.join ⟨[aR 5],[]⟩ [] [] (.block 0 (.loop 0 ⟨[aR 0,aR 1,aR 5],[]⟩ [] [] (ao [ao [af [aa 6 1,aN .gtr 7 6 0],fk 7 0],.block 1 (af [aa 10 5,aa 11 0,bJ .mul 12 10 11,aa 5 12]),af [aa 8 1,aN .sub 9 8 1,aa 1 9]]))),af [aa 13 5,aa 4 13],.ret])
def air:List bI:=[.tmp 4]
theorem awV (NN:Nat) (x:aX (aF.aW Nn)):eE NN [] alD air Nn fz x=Ug NN x:=by kernel_rfl
theorem auC:cK pX 28 alD.er air 2=true:=by decide+kernel
theorem ayo:dV pX 28 aeV.M/\bX pX 28=true:= eJ (args:=Nn) (aC:=fz) (av.nil) c9 auC JN fun x y h=>(awV aP x).trans h
def Ps:ax:=⟨4,wk,eI,gM,S9⟩
def alB:bO:=
 (ao [af [ee 2],ao [af [aa 12 0,df 13 12,aN .gtr 14 13 1048576],.cond 14 (ao [af [mr 2],.ret]) .skip],af [aa 15 0,iY 16 18 [15,(kX 0)],gO 3 [zX,zX,zX],bH 3 3 16],af [aa 17 0,iY 18 19 [17,(kX 10)],oX 4 (.alloc [zX,.nil [.int .i64,.int .i64]]),bH 2 4 18],af [aa 19 0,iY 20 20 [19,(kX 60),(kX 1),(kX 3)],aa 5 20],af [aa 21 0,aY 22 3 3,iY 23 21 [21,(kX 62),22],aa 6 23],af [aY 25 3 3,aY 26 2 4,aa 27 5,aa 28 6,bB 29 10 [25,26,27,28],aa 24 29,jr 30 0 24,jr 31 1 24,oX 7 (.alloc [zX,zX,zX,.nil [lX,lX,lX],.nil iX]),bH 5 7 30,aa 8 31],af [aY 33 5 7,bB 34 22 [33],aa 32 34,jr 35 0 32,jr 36 1 32,aa 9 35,aa 10 36],af [aY 37 3 3,aY 38 2 4,aa 39 5,aa 40 6,bB 41 23 [37,38,39,40],aa 11 41],.eH true [aa 42 8,aa 43 42,bV 43 (aa 44 10),jq 45 43 44,aa 46 45,bV 46 (aa 47 11),bV 46 (df 48 47),bV 46 (aa 49 9),bV 46 (df 50 49),bV 46 (bJ .eql 51 48 50),jq 52 46 51,aa 53 52,bV 53 (aa 54 9),bV 53 (aa 55 11),bV 53 (bB 56 24 [54,55]),jq 57 53 56,aa 58 57,bV 58 (aY 59 3 3),bV 58 (aY 60 2 4),bV 58 (aa 61 5),bV 58 (aa 62 6),bV 58 (bB 63 25 [59,60,61,62]),bV 58 (aa 64 11),bV 58 (bB 65 24 [63,64]),jq 66 58 65,aa 67 66,bV 67 (aY 68 3 3),bV 67 (aY 69 2 4),bV 67 (aa 70 5),bV 67 (aY 71 3 3),bV 67 (bB 72 26 [71]),bV 67 (bB 73 23 [68,69,70,72]),bV 67 (aY 74 3 3),bV 67 (aa 75 5),bV 67 (aI 76 0 4),bV 67 (aB 77 1 76),bV 67 (bB 78 28 [75,77]),bV 67 (bB 79 27 [74,78]),bV 67 (bB 80 24 [73,79]),jq 81 67 80,aa 2 81],.ret])
def aip:List bI:=[.tmp 2]
theorem awT (NN:Nat) (x:aX (aF.aW wk)):eE NN [aeZ,aeX,ae0,aeW,aeF,aeH,aeu,aeU,aeE,aeI,aeV,KY] alB aip wk gM x=Ue NN x:=by kernel_rfl
theorem auA:cK pX 4 alB.er aip 1=true:=by decide+kernel
theorem aym:dV pX 4 Ps.M/\bX pX 4=true:= eJ (args:=wk) (aC:=gM) (av.jH ays<|av.jH ayq<|av.jH ayt<|av.jH ayp<|av.cons ax7<|av.cons ax9<|av.cons axV<|av.cons ayn<|av.cons ax6<|av.cons aya<|av.cons ayo<|av.cons Zj<|av.nil) c9 auA S9 fun x y h=>(awT aP x).trans (ara x y h)
end Go.Am
