/- A_SpinNetwork: the code of the functions of FnExactSpinNetwork. No condition. -/
import Derived.Test.YtfhgbfllljehhaaWT
import Derived.Test.YtfhgbfllljehhaaWT
import Derived.KernelRfl
import Derived.Test.YtfhgbfllljehhaaRows
set_option linter.unusedVariables false
set_option maxRecDepth 100000
namespace Go.Am
theorem dc:Go.Proofs.Try.prog.follows .mixedOrders=true:=by decide+kernel
noncomputable abbrev pX:=Go.Proofs.Try.prog
def oX (n:Nat) (x:dt):dB:=⟨some n,x,none⟩
def uX (x:dt):dB:=⟨none,x,none⟩
def kX (n:Int):cR:=.k (.one (.v (.int .i64) n))
def sX:ja:=.one (.c (.v (.int .i64)))
def iX:List Ty:=[.int .i64]
def lX:Ty:=.list iX
def zX:SC:=.v (.int .i64) (0:Int)
def vX:fa:=.c (.v (.int .i64))
def fX (n k:Nat):fa:=.c (.full n k)
def rX (n:Nat):fa:=.c (.Io n 0)
instance tX (n:Nat):OfNat cR n:=⟨.t n⟩
def bx (s:Nat) (o:dB):dB:={o with guard:=some (s,true)}
def bq (s:Nat) (o:dB):dB:={o with guard:=some (s,false)}
def aa (d s:Nat):dB:=oX d (.mv (.t s))
def az (d n s:Nat):dB:=oX d (.load false n (.t s))
def bA (d n s:Nat):dB:=oX d (.load true n (.t s))
def aG (d n s:Nat):dB:=oX d (.nZ n (.t s))
def da (d n x i:Nat):dB:=oX d (.nz n (.t x) (.t i))
def lg (d n x:Nat) (i:Int):dB:=oX d (.nz n (.t x) (kX i))
def bZ (d:Nat) (c:Int):dB:=oX d (.mv (kX c))
def Vz:cR:=.k (.one (.v .bool true))
def Vy:cR:=.k (.one (.v .bool false))
def ki (d:Nat):dB:=oX d (.mv Vz)
def cB (d:Nat):dB:=oX d (.mv Vy)
def gm (d c x:Nat):dB:=oX d (.pick (.t c) (.t x) Vy)
def ii (d c x:Nat):dB:=oX d (.pick (.t c) Vz (.t x))
def bK (o:BinOp) (d x y:Nat):dB:=oX d (.bin o (.t x) (.t y))
def aP (o:BinOp) (d x:Nat) (c:Int):dB:=oX d (.bin o (.t x) (kX c))
def dE (d n s:Nat):dB:=oX d (.box n (.t s))
def du (d s:Nat):dB:=oX d (.len (.t s))
def bI (d f:Nat) (l:List cR):dB:=oX d (.call .aN f l)
def fS (d s:Nat):dB:=oX d (.un .not (.t s))
def xJ (d n s:Nat):dB:=oX d (.ext n (.t s))
def aXj (d f:Nat) (l:List cR):dB:=oX d (.kj f l)
def db (n x v:Nat):dB:=uX (.store n (.t x) (.t v))
def jV (d:Nat) (l:List SC):dB:=oX d (.alloc l)
def tc (d:Nat):dB:=oX d (.mv (.k (.one (.nil iX))))
def ab (l:List dB):bB:=.fE false l
def aj:List bB->bB
  |[]=>.skip
  |[a]=>a
  |a::l=>.seq a (aj l)
def eY (n e:Nat):bB:=.cond (.t n) .skip (.exit e)
def aW (n:Nat):Nat×ja:=(n,sX)
def iw (n m k:Nat):Nat×ja:=(n,.one (fX m k))
def bo (n m:Nat):Nat×ja:=(n,.one (rX m))
def bJ (n:Nat):Nat×f8:=(n,.row true .aN iX)
def kG:fa:=.c (.v lX)
def cA (n:Nat) (l:List fa):Nat×f8:=(n,.box l)
def bn (a b c:Nat):Bool×Nat×Nat×Nat×Mode×List Ty:=(true,a,b,c,.aN,[])
def g0 (a c:Nat):Bool×Nat×Nat×Nat×Mode×List Ty:=(false,a,0,c,.aN,[])
def fZ (n:Nat):Nat×ja:=(n,.one (.c (.v lX)))
def XK:aw:=⟨29,zk,dD,eu,B8⟩
def adW:bB:=
 (aj [ab [bZ 4 0],ab [aa 5 1,aa 6 0,du 7 6,bK .sub 8 5 7,aa 1 8],aj [ab [aa 9 1,aP .lss 10 9 0],.cond 10 (aj [ab [bZ 4 (-1)],.ret]) .skip],ab [aa 11 1,aa 4 11],.ret])
def abz:List bE:=[.tmp 4]
theorem aom (NN:Nat) (x:aZ (aH.aY zk)):dq NN [] adW abz zk eu x=N7 NN x:=by kernel_rfl
theorem amu:cI pX 29 adW.er abz 2=true:=by decide+kernel
theorem apS:dd pX 29 XK.M/\bL pX 29=true:= dC (args:=zk) (aC:=eu) (aF.nil) dc amu B8 fun x y h=>(aom aK x).trans (ajf x y h)
def XL:aw:=⟨5,ze,dD,eu,B9⟩
def adX:bB:=
 (aj [ab [dE 2 2 0,bZ 4 0],ab [aG 5 1 2,az 6 1 5,aa 7 1,bI 8 29 [6,7],aa 1 8],aj [ab [aa 9 1,aP .lss 10 9 0],.cond 10 (aj [ab [bZ 4 (-1)],.ret]) .skip],ab [aa 11 1,aa 4 11],.ret])
def abA:List bE:=[.tmp 4]
theorem aon (NN:Nat) (x:aZ (aH.aY ze)):dq NN [XK] adX abA ze eu x=N8 NN x:=by kernel_rfl
theorem amv:cI pX 5 adX.er abA 2=true:=by decide+kernel
theorem apT:dd pX 5 XL.M/\bL pX 5=true:= dC (args:=ze) (aC:=eu) (aF.cons apS<|aF.nil) dc amv B9 fun x y h=>(aon aK x).trans (ajg x y h)
def XQ:aw:=⟨7,fj,dD,fj,zG⟩
def ad5:bB:=
 (aj [ab [dE 1 3 0,jV 2 [zX,zX,zX]],ab [jV 3 [zX,zX,zX]],ab [aG 4 0 1,az 5 1 4,aG 6 0 3,db 1 6 5],ab [aG 7 1 1,az 8 1 7,aG 9 1 3,db 1 9 8],ab [aG 10 2 1,az 11 1 10,aG 12 2 3,db 1 12 11],ab [bA 13 3 3,db 3 2 13],.ret])
def abF:List bE:=[.cell 2 3 true]
theorem aos (NN:Nat) (x:aZ (aH.aY fj)):dq NN [] ad5 abF fj fj x=UZ NN x:=by kernel_rfl
theorem amA:cI pX 7 ad5.er abF 1=true:=by decide+kernel
theorem apY:dd pX 7 XQ.M/\bL pX 7=true:= dC (args:=fj) (aC:=fj) (aF.nil) dc amA zG fun x y h=>(aos aK x).trans (ajl x y h)
def XM:aw:=⟨80,Bu,dD,Bu,Fj⟩
def adY:bB:=
 (aj [ab [dE 1 2 0,jV 2 [zX,zX]],ab [jV 3 [zX,zX]],ab [aG 4 0 1,az 5 1 4,aG 6 0 3,db 1 6 5],ab [aG 7 1 1,az 8 1 7,aG 9 1 3,db 1 9 8],ab [bA 10 2 3,db 2 2 10],.ret])
def abB:List bE:=[.cell 2 2 true]
theorem aoo (NN:Nat) (x:aZ (aH.aY Bu)):dq NN [] adY abB Bu Bu x=UY NN x:=by kernel_rfl
theorem amw:cI pX 80 adY.er abB 1=true:=by decide+kernel
theorem apU:dd pX 80 XM.M/\bL pX 80=true:= dC (args:=Bu) (aC:=Bu) (aF.nil) dc amw Fj fun x y h=>(aoo aK x).trans (ajh x y h)
def XN:aw:=⟨37,Bv,dD,Bv,Ca⟩
def adZ:bB:=
 (aj [ab [oX 2 (.mv (.k (.one (.nil [.int .i64,.int .i64]))))],ab [aa 5 0,du 6 5,oX 7 (.kx .aN [.int .i64,.int .i64] 16 ((0:Int),(0:Int)) 6 6),aa 3 7],aj [ab [bZ 4 0],.join ⟨[iw 3 701 2],[(701,.row true .aN [.int .i64,.int .i64])]⟩ [700,701] [g0 3 701] (.block 0 (.loop 0 ⟨[(0,.one (.c (.v (.list [.int .i64,.int .i64])))),iw 3 700 2,aW 4],[(700,.row true .aN [.int .i64,.int .i64])]⟩ [7,700] [g0 3 700] (aj [aj [ab [aa 8 4,aa 9 0,du 10 9,bK .lss 11 8 10],eY 11 0],.block 1 (ab [aa 14 3,aa 15 4,aa 16 0,aa 17 4,da 18 2 16 17,bA 19 2 18,bI 20 80 [19],da 21 2 14 15,db 2 21 20]),ab [aa 12 4,aP .add 13 12 1,aa 4 13]])))],ab [aa 22 3,aa 2 22],.ret])
def abC:List bE:=[.tmp 2]
theorem aop (NN:Nat) (x:aZ (aH.aY Bv)):dq NN [XM] adZ abC Bv Bv x=N9 NN x:=by kernel_rfl
theorem amx:cI pX 37 adZ.er abC 1=true:=by decide+kernel
theorem apV:dd pX 37 XN.M/\bL pX 37=true:= dC (args:=Bv) (aC:=Bv) (aF.cons apU<|aF.nil) dc amx Ca fun x y h=>(aop aK x).trans (aji x y h)
def XO:aw:=⟨8,pA,dD,pA,ug⟩
def ad3:bB:=
 (aj [ab [dE 1 2 0,oX 2 (.alloc [zX,.nil [.int .i64,.int .i64]])],ab [oX 3 (.alloc [zX,.nil [.int .i64,.int .i64]])],ab [aG 4 0 1,az 5 1 4,aG 6 0 3,db 1 6 5],ab [aG 7 1 1,az 8 1 7,bI 9 37 [8],aG 10 1 3,db 1 10 9],ab [bA 11 2 3,db 2 2 11],.ret])
def abD:List bE:=[.cell 2 2 true]
theorem aoq (NN:Nat) (x:aZ (aH.aY pA)):dq NN [XN] ad3 abD pA pA x=Oa NN x:=by kernel_rfl
theorem amy:cI pX 8 ad3.er abD 1=true:=by decide+kernel
theorem apW:dd pX 8 XO.M/\bL pX 8=true:= dC (args:=pA) (aC:=pA) (aF.cons apV<|aF.nil) dc amy ug fun x y h=>(aoq aK x).trans (ajj x y h)
def XP:aw:=⟨9,eN,dD,eN,uh⟩
def ad4:bB:=
 (aj [ab [tc 2],ab [aa 5 0,du 6 5,oX 7 (.kx .aN iX 8 (0:Int) 6 6),aa 3 7],aj [ab [bZ 4 0],.join ⟨[iw 3 701 1],[bJ 701]⟩ [700,701] [g0 3 701] (.block 0 (.loop 0 ⟨[fZ 0,iw 3 700 1,aW 4],[bJ 700]⟩ [7,700] [g0 3 700] (aj [aj [ab [aa 8 4,aa 9 0,du 10 9,bK .lss 11 8 10],eY 11 0],.block 1 (ab [aa 14 3,aa 15 4,aa 16 0,aa 17 4,da 18 1 16 17,az 19 1 18,da 20 1 14 15,db 1 20 19]),ab [aa 12 4,aP .add 13 12 1,aa 4 13]])))],ab [aa 21 3,aa 2 21],.ret])
def abE:List bE:=[.tmp 2]
theorem aor (NN:Nat) (x:aZ (aH.aY eN)):dq NN [] ad4 abE eN eN x=Ob NN x:=by kernel_rfl
theorem amz:cI pX 9 ad4.er abE 1=true:=by decide+kernel
theorem apX:dd pX 9 XP.M/\bL pX 9=true:= dC (args:=eN) (aC:=eN) (aF.nil) dc amz uh fun x y h=>(aor aK x).trans (ajk x y h)
def xZ:aw:=⟨70,Mn,dD,cG,iL⟩
def aee:bB:=
 (aj [ab [cB 6],ab [aa 7 0,aa 8 1,bK .geq 9 7 8,aa 10 9,bx 10 (aa 11 0),bx 10 (aa 12 2),bx 10 (bK .leq 13 11 12),gm 14 10 13,aa 6 14],.ret])
def abO:List bE:=[.tmp 6]
theorem aoB (NN:Nat) (x:aZ (aH.aY Mn)):dq NN [] aee abO Mn cG x=Oi NN x:=by kernel_rfl
theorem amK:cI pX 70 aee.er abO 3=true:=by decide+kernel
theorem Bi:dd pX 70 xZ.M/\bL pX 70=true:= dC (args:=Mn) (aC:=cG) (aF.nil) dc amK iL fun x y h=>(aoB aK x).trans (aju x y h)
def XT:aw:=⟨109,eu,dD,cG,xB⟩
def ad8:bB:=
 (aj [ab [cB 2],aj [ab [bZ 3 2],.join ⟨[aW 0],[]⟩ [] [] (.block 0 (.loop 0 ⟨[aW 0,aW 3],[]⟩ [] [] (aj [aj [ab [aa 4 3,aa 5 3,bK .mul 6 4 5,aa 7 0,bK .leq 8 6 7,aa 9 8,bx 9 (aa 10 0),bx 9 (aP .leq 11 10 1000003),gm 12 9 11],eY 12 0],.block 1 (aj [ab [aa 15 0,aa 16 3,bK .rem 17 15 16,aP .eql 18 17 0],.cond 18 (aj [ab [cB 2],.ret]) .skip]),ab [aa 13 3,aP .add 14 13 1,aa 3 14]])))],ab [aa 19 0,bI 20 70 [19,(kX 2),(kX 1000003)],aa 2 20],.ret])
def abI:List bE:=[.tmp 2]
theorem aov (NN:Nat) (x:aZ (aH.aY eu)):dq NN [xZ] ad8 abI eu cG x=Oe NN x:=by kernel_rfl
theorem amE:cI pX 109 ad8.er abI 1=true:=by decide+kernel
theorem ap1:dd pX 109 XT.M/\bL pX 109=true:= dC (args:=eu) (aC:=cG) (aF.cons Bi<|aF.nil) dc amE xB fun x y h=>(aov aK x).trans (ajo x y h)
def Kt:aw:=⟨75,fj,dD,cG,ui⟩
def aea:bB:=
 (aj [ab [dE 1 3 0,cB 2],aj [ab [aG 3 0 1,az 4 1 3],.block 0 (aj [ab [aP .eql 6 4 1,aa 5 6],.cond 5 (aj [ab [aG 7 1 1,az 8 1 7,aP .eql 9 8 0,aa 10 9,bx 10 (aG 11 2 1),bx 10 (az 12 1 11),bx 10 (aP .eql 13 12 0),gm 14 10 13,aa 2 14],.ret]) (aj [ab [aP .eql 16 4 2,aa 15 16],.cond 15 (aj [ab [aG 17 1 1,az 18 1 17,bI 19 109 [18],aa 20 19,bx 20 (aG 21 2 1),bx 20 (az 22 1 21),bx 20 (aP .eql 23 22 0),gm 24 20 23,aa 2 24],.ret]) (aj [aj [ab [aP .eql 26 4 3,aa 25 26],.join ⟨[(25,.one (.c (.v (.bool)))),aW 4,bo 1 1],[cA 1 [vX,vX,vX]]⟩ [1] [] (.cond 25 .skip (aj [ab [aP .eql 27 4 4,aa 25 27],.cond 25 .skip (ab [aP .eql 28 4 5,aa 25 28])]))],.cond 25 (aj [ab [aG 29 1 1,az 30 1 29,bI 31 70 [30,(kX 1),(kX 1000000)],aa 32 31,bx 32 (aG 33 2 1),bx 32 (az 34 1 33),bx 32 (aP .eql 35 34 0),gm 36 32 35,aa 2 36],.ret]) (aj [ab [aP .eql 38 4 6,aa 37 38],.cond 37 (aj [ab [aG 39 1 1,az 40 1 39,aP .eql 41 40 0,aa 42 41,bx 42 (aG 43 2 1),bx 42 (az 44 1 43),bx 42 (bI 45 70 [44,(kX 1),(kX 20)]),gm 46 42 45,aa 2 46],.ret]) (aj [ab [aP .eql 48 4 7,aa 47 48],.cond 47 (aj [ab [aG 49 1 1,az 50 1 49,bI 51 109 [50],aa 52 51,bx 52 (aG 53 2 1),bx 52 (az 54 1 53),bx 52 (bI 55 70 [54,(kX 1),(kX 6)]),gm 56 52 55,aa 2 56],.ret]) (aj [ab [aP .eql 58 4 8,aa 57 58],.cond 57 (aj [ab [aG 59 1 1,az 60 1 59,bI 61 109 [60],aa 62 61,bx 62 (aG 63 1 1),bx 62 (az 64 1 63),bx 62 (aP .gtr 65 64 2),gm 66 62 65,aa 67 66,bx 67 (aG 68 2 1),bx 67 (az 69 1 68),bx 67 (aP .eql 70 69 0),gm 71 67 70,aa 2 71],.ret]) .skip])])])])])])],ab [cB 2],.ret])
def abK:List bE:=[.tmp 2]
theorem aox (NN:Nat) (x:aZ (aH.aY fj)):dq NN [XT,xZ] aea abK fj cG x=Of NN x:=by kernel_rfl
theorem amG:cI pX 75 aea.er abK 1=true:=by decide+kernel
theorem S3:dd pX 75 Kt.M/\bL pX 75=true:= dC (args:=fj) (aC:=cG) (aF.cons ap1<|aF.cons Bi<|aF.nil) dc amG ui fun x y h=>(aox aK x).trans (ajq x y h)
def Ku:aw:=⟨74,fj,dD,eu,vF⟩
def aei:bB:=
 (aj [ab [dE 1 3 0,bZ 2 0],aj [ab [aG 3 0 1,az 4 1 3],.block 0 (aj [ab [aP .eql 6 4 1,aa 5 6],.cond 5 (aj [ab [bZ 2 1],.ret]) (aj [aj [ab [aP .eql 8 4 3,aa 7 8],.join ⟨[(7,.one (.c (.v (.bool)))),aW 4,bo 1 1],[cA 1 [vX,vX,vX]]⟩ [1] [] (.cond 7 .skip (aj [ab [aP .eql 9 4 4,aa 7 9],.cond 7 .skip (ab [aP .eql 10 4 5,aa 7 10])]))],.cond 7 (aj [ab [aG 11 1 1,az 12 1 11,aa 2 12],.ret]) (aj [ab [aP .eql 14 4 6,aa 13 14],.cond 13 (aj [ab [aG 15 2 1,az 16 1 15,oX 17 (.bin .shl (kX 1) 16),aP .sub 18 17 1,aa 2 18],.ret]) .skip])])])],ab [aG 19 1 1,az 20 1 19,aP .sub 21 20 1,aa 2 21],.ret])
def abS:List bE:=[.tmp 2]
theorem aoF (NN:Nat) (x:aZ (aH.aY fj)):dq NN [] aei abS fj eu x=U0 NN x:=by kernel_rfl
theorem amO:cI pX 74 aei.er abS 1=true:=by decide+kernel
theorem S4:dd pX 74 Ku.M/\bL pX 74=true:= dC (args:=fj) (aC:=eu) (aF.nil) dc amO vF fun x y h=>(aoF aK x).trans (ajy x y h)
def C7:aw:=⟨73,fj,dD,eu,rD⟩
def aej:bB:=
 (aj [ab [dE 1 3 0,bZ 2 0],aj [ab [aG 3 0 1,az 4 1 3],.block 0 (aj [ab [aP .eql 6 4 7,aa 5 6],.cond 5 (aj [ab [aG 7 2 1,az 8 1 7,aa 2 8],.ret]) (aj [ab [aP .eql 10 4 8,aa 9 10],.cond 9 (aj [ab [bZ 2 4],.ret]) .skip])])],ab [bZ 2 1],.ret])
def abT:List bE:=[.tmp 2]
theorem aoG (NN:Nat) (x:aZ (aH.aY fj)):dq NN [] aej abT fj eu x=U1 NN x:=by kernel_rfl
theorem amP:cI pX 73 aej.er abT 1=true:=by decide+kernel
theorem Ic:dd pX 73 C7.M/\bL pX 73=true:= dC (args:=fj) (aC:=eu) (aF.nil) dc amP rD fun x y h=>(aoG aK x).trans (ajz x y h)
def XY:aw:=⟨107,oJ,dD,cG,Ce⟩
def aeg:bB:=
 (aj [ab [dE 2 3 0,cB 4],aj [ab [aa 7 1,du 8 7,bZ 9 0],.join ⟨[fZ 1,bo 2 2],[cA 2 [vX,vX,vX]]⟩ [2] [] (.block 0 (.loop 0 ⟨[fZ 1,bo 2 2,fZ 7,aW 8,aW 9],[cA 2 [vX,vX,vX]]⟩ [2] [] (aj [ab [bK .lss 10 9 8],eY 10 0,.block 1 (aj [ab [da 11 1 7 9,az 12 1 11,aa 6 12],ab [aa 13 6,bA 14 3 2,bI 15 74 [14],bI 16 70 [13,(kX 0),15],fS 17 16],.cond 17 (aj [ab [cB 4],.ret]) .skip]),ab [aP .add 18 9 1,aa 9 18]])))],ab [aa 19 1,du 20 19,bA 21 3 2,bI 22 73 [21],bK .eql 23 20 22,aa 4 23],.ret])
def abQ:List bE:=[.tmp 4]
theorem aoD (NN:Nat) (x:aZ (aH.aY oJ)):dq NN [Ku,xZ,C7] aeg abQ oJ cG x=Ok NN x:=by kernel_rfl
theorem amM:cI pX 107 aeg.er abQ 2=true:=by decide+kernel
theorem ap6:dd pX 107 XY.M/\bL pX 107=true:= dC (args:=oJ) (aC:=cG) (aF.cons S4<|aF.cons Bi<|aF.cons Ic<|aF.nil) dc amM Ce fun x y h=>(aoD aK x).trans (ajw x y h)
def XR:aw:=⟨68,oJ,dD,cG,Cb⟩
def ad6:bB:=
 (aj [ab [dE 2 3 0,cB 4],ab [bA 5 3 2,bI 6 75 [5],aa 7 6,bx 7 (bA 8 3 2),bx 7 (aa 9 1),bx 7 (bI 10 107 [8,9]),gm 11 7 10,aa 4 11],.ret])
def abG:List bE:=[.tmp 4]
theorem aot (NN:Nat) (x:aZ (aH.aY oJ)):dq NN [Kt,XY] ad6 abG oJ cG x=Oc NN x:=by kernel_rfl
theorem amC:cI pX 68 ad6.er abG 2=true:=by decide+kernel
theorem apZ:dd pX 68 XR.M/\bL pX 68=true:= dC (args:=oJ) (aC:=cG) (aF.cons S3<|aF.cons ap6<|aF.nil) dc amC Cb fun x y h=>(aot aK x).trans (ajm x y h)
def XS:aw:=⟨69,pA,dD,cG,Cc⟩
def ad7:bB:=
 (aj [ab [dE 1 2 0,cB 2],aj [ab [aG 5 0 1,az 6 1 5,bI 7 70 [6,(kX 0),(kX 10)],fS 8 7,aa 9 8,bq 9 (aG 10 1 1),bq 9 (az 11 1 10),bq 9 (du 12 11),bq 9 (aP .gtr 13 12 10),ii 14 9 13],.cond 14 (aj [ab [cB 2],.ret]) .skip],aj [ab [aG 15 1 1,az 16 1 15,du 17 16,bZ 18 0],.join ⟨[],[]⟩ [1] [] (.block 0 (.loop 0 ⟨[bo 1 1,(16,.one (.c (.v (.list [.int .i64,.int .i64])))),aW 17,aW 18],[(1,.box [vX,.c (.v (.list [.int .i64,.int .i64]))])]⟩ [1,4] [] (aj [ab [bK .lss 19 18 17],eY 19 0,.block 1 (aj [ab [da 20 2 16 18,bA 21 2 20,jV 4 [zX,zX],db 2 4 21],ab [aG 22 0 4,az 23 1 22,aG 24 0 1,az 25 1 24,aP .sub 26 25 1,bI 27 70 [23,(kX 0),26],fS 28 27,aa 29 28,bq 29 (aG 30 1 4),bq 29 (az 31 1 30),bq 29 (aG 32 0 1),bq 29 (az 33 1 32),bq 29 (aP .sub 34 33 1),bq 29 (bI 35 70 [31,(kX 0),34]),bq 29 (fS 36 35),ii 37 29 36],.cond 37 (aj [ab [cB 2],.ret]) .skip]),ab [aP .add 38 18 1,aa 18 38]])))],ab [ki 2],.ret])
def abH:List bE:=[.tmp 2]
theorem aou (NN:Nat) (x:aZ (aH.aY pA)):dq NN [xZ] ad7 abH pA cG x=Od NN x:=by kernel_rfl
theorem amD:cI pX 69 ad7.er abH 1=true:=by decide+kernel
theorem ap0:dd pX 69 XS.M/\bL pX 69=true:= dC (args:=pA) (aC:=cG) (aF.cons Bi<|aF.nil) dc amD Cc fun x y h=>(aou aK x).trans (ajn x y h)
def X6:aw:=⟨30,jS,dD,cG,Ci⟩
def aeu:bB:=
 (aj [ab [dE 4 3 0,dE 5 2 1,cB 8],ab [bA 9 3 4,aa 10 3,bI 11 68 [9,10],aa 12 11,bx 12 (bA 13 2 5),bx 12 (bI 14 69 [13]),gm 15 12 14,aa 16 15,bx 16 (aa 17 2),bx 16 (bI 18 70 [17,(kX 1),(kX 4)]),gm 19 16 18,aa 8 19],.ret])
def ab4:List bE:=[.tmp 8]
theorem aoR (NN:Nat) (x:aZ (aH.aY jS)):dq NN [XR,XS,xZ] aeu ab4 jS cG x=Ov NN x:=by kernel_rfl
theorem am0:cI pX 30 aeu.er ab4 4=true:=by decide+kernel
theorem aqc:dd pX 30 X6.M/\bL pX 30=true:= dC (args:=jS) (aC:=cG) (aF.cons apZ<|aF.cons ap0<|aF.cons Bi<|aF.nil) dc am0 Ci fun x y h=>(aoR aK x).trans (ajK x y h)
def X3:aw:=⟨108,eN,dD,eN,xD⟩
def aen:bB:=
 (aj [ab [tc 2],ab [oX 3 (.fG iX []),aa 4 0,oX 5 (.append true iX 8 3 4),aa 2 5],.ret])
def abX:List bE:=[.tmp 2]
theorem aoK (NN:Nat) (x:aZ (aH.aY eN)):dq NN [] aen abX eN eN x=Oo NN x:=by kernel_rfl
theorem amT:cI pX 108 aen.er abX 1=true:=by decide+kernel
theorem ap9:dd pX 108 X3.M/\bL pX 108=true:= dC (args:=eN) (aC:=eN) (aF.nil) dc amT xD fun x y h=>(aoK aK x).trans (ajD x y h)
def Kv:aw:=⟨72,lR,dD,eu,vG⟩
def aeo:bB:=
 (aj [ab [bZ 4 0],ab [bZ 5 1],aj [ab [aa 8 0,du 9 8,bZ 10 0],.join ⟨[aW 5],[]⟩ [] [] (.block 0 (.loop 0 ⟨[aW 1,aW 5,fZ 8,aW 9,aW 10],[]⟩ [] [] (aj [ab [bK .lss 11 10 9],eY 11 0,.block 1 (aj [ab [da 12 1 8 10,az 13 1 12,aa 7 13],ab [aa 14 5,aa 15 7,bK .mul 16 14 15,aa 17 1,aP .add 18 17 1,oX 19 (.mm false 16 18),aa 5 19]]),ab [aP .add 20 10 1,aa 10 20]])))],ab [aa 21 5,aa 4 21],.ret])
def abY:List bE:=[.tmp 4]
theorem aoL (NN:Nat) (x:aZ (aH.aY lR)):dq NN [] aeo abY lR eu x=Oq NN x:=by kernel_rfl
theorem amU:cI pX 72 aeo.er abY 2=true:=by decide+kernel
theorem S5:dd pX 72 Kv.M/\bL pX 72=true:= dC (args:=lR) (aC:=eu) (aF.nil) dc amU vG fun x y h=>(aoL aK x).trans (ajE x y h)
def XZ:aw:=⟨97,fj,dD,eN,Fk⟩
def aek:bB:=
 (aj [ab [dE 1 3 0,tc 2],ab [bA 4 3 1,bI 5 73 [4],oX 6 (.kx .aN iX 8 (0:Int) 5 5),aa 3 6],aj [ab [aG 7 0 1,az 8 1 7,aP .eql 9 8 4],.join ⟨[iw 3 700 1],[bJ 700]⟩ [1,6,700] [g0 3 700] (.cond 9 (ab [aa 10 3,aG 11 1 1,az 12 1 11,lg 13 1 10 0,db 1 13 12]) .skip)],ab [aa 14 3,aa 2 14],.ret])
def abU:List bE:=[.tmp 2]
theorem aoH (NN:Nat) (x:aZ (aH.aY fj)):dq NN [C7] aek abU fj eN x=U2 NN x:=by kernel_rfl
theorem amQ:cI pX 97 aek.er abU 1=true:=by decide+kernel
theorem ap7:dd pX 97 XZ.M/\bL pX 97=true:= dC (args:=fj) (aC:=eN) (aF.cons Ic<|aF.nil) dc amQ Fk fun x y h=>(aoH aK x).trans (ajA x y h)
def X4:aw:=⟨71,sP,dD,lS,Cg⟩
def aeq:bB:=
 (aj [ab [dE 3 3 0,jV 6 [.nil iX,.nil iX,.nil iX]],ab [aa 9 1,bI 10 108 [9],aa 11 2,bI 12 108 [11],oX 13 (.build [.nil iX,.nil iX,.nil iX] [(0,1,10),(1,1,12)]),jV 7 [.nil iX,.nil iX,.nil iX],db 3 7 13],aj [ab [aa 14 2,bI 15 72 [14,(kX 4096)],aa 8 15],.join ⟨[bo 7 7,bo 6 6],[cA 6 [fX 706 1,fX 707 1,fX 708 1],cA 7 [fX 709 1,fX 710 1,fX 711 1],bJ 706,bJ 707,bJ 708,bJ 709,bJ 710,bJ 711]⟩ [3,6,7,700,701,702,703,704,705,706,707,708,709,710,711] [bn 6 0 706,bn 6 1 707,bn 6 2 708,bn 7 0 709,bn 7 1 710,bn 7 2 711] (.block 0 (.loop 0 ⟨[bo 3 3,bo 6 6,bo 7 7,aW 8],[cA 3 [vX,vX,vX],cA 6 [fX 700 1,fX 701 1,fX 702 1],cA 7 [fX 703 1,fX 704 1,fX 705 1],bJ 700,bJ 701,bJ 702,bJ 703,bJ 704,bJ 705]⟩ [3,6,11000,13000,7,24000,24,700,701,702,703,704,705] [bn 6 0 700,bn 6 1 701,bn 6 2 702,bn 7 0 703,bn 7 1 704,bn 7 2 705] (aj [aj [ab [aa 16 8,aP .gtr 17 16 0],eY 17 0],.block 1 (.fE true [aG 20 2 7,az 21 1 20,bA 22 3 3,bI 23 97 [22],oX 24 (.append true iX 8 21 23),aG 25 2 7,db 1 25 24]),ab [aa 18 8,aP .sub 19 18 1,aa 8 19]])))],ab [bA 26 3 7,db 3 6 26],.ret])
def ab0:List bE:=[.cell 6 3 true]
theorem aoN (NN:Nat) (x:aZ (aH.aY sP)):dq NN [X3,Kv,XZ] aeq ab0 sP lS x=Ou NN x:=by kernel_rfl
theorem amW:cI pX 71 aeq.er ab0 3=true:=by decide+kernel
theorem aqa:dd pX 71 X4.M/\bL pX 71=true:= dC (args:=sP) (aC:=lS) (aF.cons ap9<|aF.cons S5<|aF.cons ap7<|aF.nil) dc amW Cg fun x y h=>(aoN aK x).trans (ajG x y h)
def P1:aw:=⟨34,fj,dD,eN,vE⟩
def aeh:bB:=
 (aj [ab [dE 1 3 0,tc 2],ab [bA 4 3 1,bI 5 73 [4],oX 6 (.kx .aN iX 8 (0:Int) 5 5),aa 3 6],aj [ab [aG 7 0 1,az 8 1 7],.block 0 (aj [aj [ab [aP .eql 12 8 5,aa 11 12],.join ⟨[(11,.one (.c (.v (.bool)))),bo 1 1,aW 8,iw 3 700 1],[cA 1 [vX,vX,vX],bJ 700]⟩ [1,6,700] [g0 3 700] (.cond 11 .skip (ab [aP .eql 13 8 6,aa 11 13]))],.cond 11 (ab [aa 14 3,bA 15 3 1,bI 16 74 [15],lg 17 1 14 0,db 1 17 16]) (aj [ab [aP .eql 19 8 4,aa 18 19],.cond 18 (ab [aa 20 3,lg 21 1 20 0,uX (.store 1 21 (kX 0))]) (ab [aa 9 3,lg 10 1 9 0,uX (.store 1 10 (kX 1))])])])],ab [aa 22 3,aa 2 22],.ret])
def abR:List bE:=[.tmp 2]
theorem aoE (NN:Nat) (x:aZ (aH.aY fj)):dq NN [C7,Ku] aeh abR fj eN x=Ol NN x:=by kernel_rfl
theorem amN:cI pX 34 aeh.er abR 1=true:=by decide+kernel
theorem acs:dd pX 34 P1.M/\bL pX 34=true:= dC (args:=fj) (aC:=eN) (aF.cons Ic<|aF.cons S4<|aF.nil) dc amN vE fun x y h=>(aoE aK x).trans (ajx x y h)
def P3:aw:=⟨32,Mo,Mp,eN,vH⟩
def aep:bB:=
 (aj [ab [dE 4 3 0,dE 5 3 1],ab [bA 10 3 4,bI 11 73 [10],aa 8 11],ab [aa 12 3,du 13 12,bZ 14 0],.block 0 (.loop 0 ⟨[aW 2,fZ 3,bo 5 5,aW 8,aW 13,aW 14],[(1000000,.row false .aN iX),cA 5 [kG,kG,fX 1000000 1]]⟩ [1000000,4,5,700] [bn 5 2 700] (aj [ab [bK .lss 15 14 13],eY 15 0,.block 1 (aj [ab [aa 16 14,aa 9 16],.fE true [aG 17 2 5,az 18 1 17,aa 19 2,aa 20 8,bK .mul 21 19 20,aa 22 9,bK .add 23 21 22,aa 24 3,aa 25 9,da 26 1 24 25,az 27 1 26,da 28 1 18 23,db 1 28 27]]),ab [aP .add 29 14 1,aa 14 29]]))])
def abZ:List bE:=[]
theorem aoM (NN:Nat) (x:aZ (aH.aY Mo)):y5 NN [C7] aep abZ Mo Mp eN x=Ot NN x:=by kernel_rfl
theorem amV:cI pX 32 aep.er abZ 4=true:=by decide+kernel
theorem acv:sZ pX 32 Mp P3.MM/\bL pX 32=true:= Ed (args:=Mo) (mu:=Mp) (aC:=eN) (aF.cons Ic<|aF.nil) dc amV vH fun x y h=>(aoM aK x).trans (ajF x y h)
def P5:aw:=⟨31,sQ,dD,lS,zK⟩
def aet:bB:=
 (aj [ab [dE 2 3 0,dE 3 3 1,jV 4 [.nil iX,.nil iX,.nil iX]],ab [bA 7 3 2,aG 8 0 3,az 9 1 8,aG 10 1 3,az 11 1 10,bI 12 71 [7,9,11],jV 5 [.nil iX,.nil iX,.nil iX],db 3 5 12],aj [ab [bZ 6 0],.join ⟨[bo 5 5,bo 4 4],[cA 4 [fX 706 1,fX 707 1,fX 708 1],cA 5 [fX 709 1,fX 710 1,fX 711 1],bJ 706,bJ 707,bJ 708,bJ 709,bJ 710,bJ 711]⟩ [2,3,4,5,700,701,702,703,704,705,706,707,708,709,710,711] [bn 4 0 706,bn 4 1 707,bn 4 2 708,bn 5 0 709,bn 5 1 710,bn 5 2 711] (.block 0 (.loop 0 ⟨[bo 2 2,bo 3 3,bo 4 4,bo 5 5,aW 6],[cA 2 [vX,vX,vX],cA 3 [kG,kG,kG],cA 4 [fX 700 1,fX 701 1,fX 702 1],cA 5 [fX 703 1,fX 704 1,fX 705 1],bJ 700,bJ 701,bJ 702,bJ 703,bJ 704,bJ 705]⟩ [2,3,4,13000,13001,13002,5,25000,700,701,702,703,704,705] [bn 4 0 700,bn 4 1 701,bn 4 2 702,bn 5 0 703,bn 5 1 704,bn 5 2 705] (aj [aj [ab [aa 13 6,aG 14 1 3,az 15 1 14,bI 16 72 [15,(kX 4096)],bK .lss 17 13 16],eY 17 0],.block 1 (.fE true [bA 20 3 2,bA 21 3 5,aa 22 6,bA 23 3 2,bI 24 34 [23],oX 25 (.jo .aN 32 [20,21,22,24])]),ab [aa 18 6,aP .add 19 18 1,aa 6 19]])))],ab [bA 26 3 5,db 3 4 26],.ret])
def ab3:List bE:=[.cell 4 3 true]
theorem aoQ (NN:Nat) (x:aZ (aH.aY sQ)):dq NN [X4,Kv,P1,P3] aet ab3 sQ lS x=Jp NN x:=by kernel_rfl
theorem amZ:cI pX 31 aet.er ab3 2=true:=by decide+kernel
theorem acx:dd pX 31 P5.M/\bL pX 31=true:= dC (args:=sQ) (aC:=lS) (aF.cons aqa<|aF.cons S5<|aF.cons acs<|aF.vY acv<|aF.nil) dc amZ zK fun x y h=>(aoQ aK x).trans (ajJ x y h)
def XX:aw:=⟨33,sP,dD,eN,zI⟩
def aef:bB:=
 (aj [ab [dE 3 3 0,tc 6],ab [aa 9 1,du 10 9,oX 11 (.kx .aN iX 8 (0:Int) 10 10),aa 7 11],aj [ab [aa 12 1,du 13 12,bZ 14 0],.join ⟨[iw 7 702 1],[bJ 702]⟩ [3,700,702] [g0 7 702] (.block 0 (.loop 0 ⟨[fZ 1,fZ 2,bo 3 3,iw 7 700 1,aW 13,aW 14],[cA 3 [vX,vX,vX],bJ 700]⟩ [3,11,700,701] [g0 7 700] (aj [ab [bK .lss 15 14 13],eY 15 0,.block 1 (aj [ab [aa 16 14,aa 8 16],ab [aG 17 0 3,az 18 1 17],.block 2 (aj [aj [ab [aP .eql 35 18 1,aa 34 35],.join ⟨[(34,.one (.c (.v (.bool)))),aW 18,aW 8,aW 14,fZ 1,fZ 2,bo 3 3,iw 7 701 1,aW 13],[cA 3 [vX,vX,vX],bJ 701]⟩ [3,700,701] [g0 7 701] (.cond 34 .skip (ab [aP .eql 36 18 6,aa 34 36]))],.cond 34 (.fE true [aa 37 7,aa 38 8,aa 39 1,aa 40 8,da 41 1 39 40,az 42 1 41,aa 43 2,aa 44 8,da 45 1 43 44,az 46 1 45,bK .or 47 42 46,da 48 1 37 38,db 1 48 47]) (aj [ab [aP .eql 50 18 3,aa 49 50],.cond 49 (.fE true [aa 51 7,aa 52 8,aa 53 1,aa 54 8,da 55 1 53 54,az 56 1 55,aa 57 2,aa 58 8,da 59 1 57 58,az 60 1 59,bK .add 61 56 60,aG 62 1 3,az 63 1 62,oX 64 (.mm false 61 63),da 65 1 51 52,db 1 65 64]) (aj [ab [aP .eql 67 18 4,aa 66 67],.cond 66 (.fE true [aa 68 7,aa 69 8,aa 70 1,aa 71 8,da 72 1 70 71,az 73 1 72,aa 74 2,aa 75 8,da 76 1 74 75,az 77 1 76,oX 78 (.mm false 73 77),da 79 1 68 69,db 1 79 78]) (aj [ab [aP .eql 81 18 5,aa 80 81],.cond 80 (.fE true [aa 82 7,aa 83 8,aa 84 1,aa 85 8,da 86 1 84 85,az 87 1 86,aa 88 2,aa 89 8,da 90 1 88 89,az 91 1 90,oX 92 (.mm true 87 91),da 93 1 82 83,db 1 93 92]) (.fE true [aa 19 7,aa 20 8,aa 21 1,aa 22 8,da 23 1 21 22,az 24 1 23,aa 25 2,aa 26 8,da 27 1 25 26,az 28 1 27,bK .add 29 24 28,aG 30 1 3,az 31 1 30,bK .rem 32 29 31,da 33 1 19 20,db 1 33 32])])])])])]),ab [aP .add 94 14 1,aa 14 94]])))],ab [aa 95 7,aa 6 95],.ret])
def abP:List bE:=[.tmp 6]
theorem aoC (NN:Nat) (x:aZ (aH.aY sP)):dq NN [] aef abP sP eN x=Oj NN x:=by kernel_rfl
theorem amL:cI pX 33 aef.er abP 3=true:=by decide+kernel
theorem ap5:dd pX 33 XX.M/\bL pX 33=true:= dC (args:=sP) (aC:=eN) (aF.nil) dc amL zI fun x y h=>(aoC aK x).trans (ajv x y h)
def X7:aw:=⟨35,Mx,dD,Bt,Cj⟩
def aev:bB:=
 (aj [ab [dE 3 3 0,dE 4 2 1,oX 6 (.mv (.k (.one (.nil [lX,lX,lX]))))],ab [oX 12 (.fG [lX,lX,lX] []),aa 7 12],aj [ab [bZ 8 0],.join ⟨[iw 7 704 3],[(704,.row true .aN [lX,lX,lX])]⟩ [3,4,700,704] [g0 7 704] (.block 0 (.loop 0 ⟨[aW 2,bo 3 3,bo 4 4,iw 7 700 3,aW 8],[cA 3 [vX,vX,vX],(4,.box [vX,.c (.v (.list [.int .i64,.int .i64]))]),(700,.row true .aN [lX,lX,lX])]⟩ [3,4,12,700,703] [g0 7 700] (aj [aj [ab [aa 13 8,aG 14 0 4,az 15 1 14,bK .lss 16 13 15],eY 16 0],.join ⟨[aW 8,aW 2,bo 3 3,bo 4 4,iw 7 703 3],[cA 3 [vX,vX,vX],(4,.box [vX,.c (.v (.list [.int .i64,.int .i64]))]),(703,.row true .aN [lX,lX,lX])]⟩ [3,4,44,46,50,702,703] [g0 7 703] (.block 1 (aj [ab [ki 9],aj [ab [aG 19 1 4,az 20 1 19,du 21 20,bZ 22 0],.join ⟨[(9,.one (.c (.v (.bool)))),aW 8,aW 2,bo 3 3,bo 4 4,iw 7 702 3],[cA 3 [vX,vX,vX],(4,.box [vX,.c (.v (.list [.int .i64,.int .i64]))]),(702,.row true .aN [lX,lX,lX])]⟩ [3,4,701,702] [g0 7 702] (.block 2 (.loop 0 ⟨[aW 2,bo 3 3,bo 4 4,iw 7 701 3,aW 8,(9,.one (.c (.v (.bool)))),(20,.one (.c (.v (.list [.int .i64,.int .i64])))),aW 21,aW 22],[cA 3 [vX,vX,vX],(4,.box [vX,.c (.v (.list [.int .i64,.int .i64]))]),(701,.row true .aN [lX,lX,lX])]⟩ [3,4,11,700,701] [g0 7 701] (aj [ab [bK .lss 23 22 21],eY 23 2,.block 3 (aj [ab [da 24 2 20 22,bA 25 2 24,jV 11 [zX,zX],db 2 11 25],ab [aa 26 9,aa 27 26,bx 27 (aG 28 0 11),bx 27 (az 29 1 28),bx 27 (aa 30 8),bx 27 (bK .neq 31 29 30),gm 32 27 31,aa 33 32,bx 33 (aG 34 1 11),bx 33 (az 35 1 34),bx 33 (aa 36 8),bx 33 (bK .neq 37 35 36),gm 38 33 37,aa 9 38]]),ab [aP .add 39 22 1,aa 22 39]])))],ab [aa 40 9],.cond 40 (ab [aa 41 7,bA 42 3 3,aa 43 8,oX 44 (.fG iX [43]),aa 45 2,oX 46 (.fG iX [45]),oX 47 (.build [.nil iX,.nil iX,.nil iX] [(0,1,44),(1,1,46)]),bI 48 31 [42,47],oX 49 (.fG [lX,lX,lX] [48]),oX 50 (.append false [lX,lX,lX] 72 41 49),aa 7 50]) .skip])),ab [aa 17 8,aP .add 18 17 1,aa 8 18]])))],ab [aa 51 7,aa 6 51],.ret])
def ab5:List bE:=[.tmp 6]
theorem aoS (NN:Nat) (x:aZ (aH.aY Mx)):dq NN [P5] aev ab5 Mx Bt x=Jq NN x:=by kernel_rfl
theorem am1:cI pX 35 aev.er ab5 3=true:=by decide+kernel
theorem aqd:dd pX 35 X7.M/\bL pX 35=true:= dC (args:=Mx) (aC:=Bt) (aF.cons acx<|aF.nil) dc am1 Cj fun x y h=>(aoS aK x).trans (ajL x y h)
def P2:aw:=⟨110,lR,dD,eu,uj⟩
def aem:bB:=
 (aj [ab [bZ 4 0],aj [ab [aa 7 0,du 8 7,bZ 9 0],.join ⟨[],[]⟩ [] [] (.block 0 (.loop 0 ⟨[aW 1,fZ 7,aW 8,aW 9],[]⟩ [] [] (aj [ab [bK .lss 10 9 8],eY 10 0,.block 1 (aj [ab [aa 11 9,da 12 1 7 9,az 13 1 12,aa 5 11,aa 6 13],ab [aa 14 6,aa 15 1,bK .eql 16 14 15],.cond 16 (aj [ab [aa 17 5,aa 4 17],.ret]) .skip]),ab [aP .add 18 9 1,aa 9 18]])))],ab [bZ 4 (-1)],.ret])
def abW:List bE:=[.tmp 4]
theorem aoJ (NN:Nat) (x:aZ (aH.aY lR)):dq NN [] aem abW lR eu x=On NN x:=by kernel_rfl
theorem amS:cI pX 110 aem.er abW 2=true:=by decide+kernel
theorem acu:dd pX 110 P2.M/\bL pX 110=true:= dC (args:=lR) (aC:=eu) (aF.nil) dc amS uj fun x y h=>(aoJ aK x).trans (ajC x y h)
def X0:aw:=⟨111,zg,dD,cG,Cf⟩
def ael:bB:=
 (aj [ab [cB 4],aj [ab [aa 7 0,du 8 7,aP .gtr 9 8 12,aa 10 9,bq 10 (aa 11 0),bq 10 (du 12 11),bq 10 (aa 13 1),bq 10 (du 14 13),bq 10 (bK .neq 15 12 14),ii 16 10 15],.cond 16 (aj [ab [cB 4],.ret]) .skip],aj [ab [aa 17 0,du 18 17,bZ 19 0],.join ⟨[],[]⟩ [] [] (.block 0 (.loop 0 ⟨[fZ 0,fZ 1,fZ 17,aW 18,aW 19],[]⟩ [] [] (aj [ab [bK .lss 20 19 18],eY 20 0,.block 1 (aj [ab [aa 21 19,da 22 1 17 19,az 23 1 22,aa 5 21,aa 6 23],ab [aa 24 6,bI 25 70 [24,(kX 0),(kX 99)],fS 26 25,aa 27 26,bq 27 (aa 28 1),bq 27 (aa 29 5),bq 27 (da 30 1 28 29),bq 27 (az 31 1 30),bq 27 (bI 32 70 [31,(kX 1),(kX 8)]),bq 27 (fS 33 32),ii 34 27 33,aa 35 34,bq 35 (aa 36 0),bq 35 (aa 37 5),bq 35 (oX 38 (.slice 1 36 none (some 37))),bq 35 (aa 39 6),bq 35 (bI 40 110 [38,39]),bq 35 (aP .geq 41 40 0),ii 42 35 41],.cond 42 (aj [ab [cB 4],.ret]) .skip]),ab [aP .add 43 19 1,aa 19 43]])))],ab [ki 4],.ret])
def abV:List bE:=[.tmp 4]
theorem aoI (NN:Nat) (x:aZ (aH.aY zg)):dq NN [xZ,P2] ael abV zg cG x=Om NN x:=by kernel_rfl
theorem amR:cI pX 111 ael.er abV 2=true:=by decide+kernel
theorem ap8:dd pX 111 X0.M/\bL pX 111=true:= dC (args:=zg) (aC:=cG) (aF.cons Bi<|aF.cons acu<|aF.nil) dc amR Cf fun x y h=>(aoI aK x).trans (ajB x y h)
def P0:aw:=⟨78,lS,dD,eu,vD⟩
def aed:bB:=
 (aj [ab [dE 1 3 0,bZ 2 0],aj [ab [aG 4 0 1,az 5 1 4,aG 6 1 1,az 7 1 6,bI 8 111 [5,7],fS 9 8],.cond 9 (aj [ab [bZ 2 (-1)],.ret]) .skip],ab [aG 10 1 1,az 11 1 10,bI 12 72 [11,(kX 4096)],aa 3 12],aj [ab [aa 13 3,aP .gtr 14 13 4096],.cond 14 (aj [ab [bZ 2 (-1)],.ret]) .skip],ab [aa 15 3,aa 2 15],.ret])
def abN:List bE:=[.tmp 2]
theorem aoA (NN:Nat) (x:aZ (aH.aY lS)):dq NN [X0,Kv] aed abN lS eu x=Oh NN x:=by kernel_rfl
theorem amJ:cI pX 78 aed.er abN 1=true:=by decide+kernel
theorem acr:dd pX 78 P0.M/\bL pX 78=true:= dC (args:=lS) (aC:=eu) (aF.cons ap8<|aF.cons S5<|aF.nil) dc amJ vD fun x y h=>(aoA aK x).trans (ajt x y h)
def XW:aw:=⟨76,sQ,dD,cG,xC⟩
def aec:bB:=
 (aj [ab [dE 2 3 0,dE 3 3 1,cB 4],ab [bA 8 3 3,bI 9 78 [8],aa 5 9],aj [.fE true [bA 10 3 2,bI 11 75 [10],fS 12 11,aa 13 12,bq 13 (aa 14 5),bq 13 (aP .lss 15 14 0),ii 16 13 15,aa 17 16,bq 17 (aG 18 2 3),bq 17 (az 19 1 18),bq 17 (du 20 19),bq 17 (aa 21 5),bq 17 (bA 22 3 2),bq 17 (bI 23 73 [22]),bq 17 (bK .mul 24 21 23),bq 17 (bK .neq 25 20 24),ii 26 17 25],.cond 26 (aj [ab [cB 4],.ret]) .skip],aj [ab [aG 27 2 3,az 28 1 27,du 29 28,bZ 30 0],.join ⟨[],[]⟩ [2] [] (.block 0 (.loop 0 ⟨[bo 2 2,fZ 28,aW 29,aW 30],[cA 2 [vX,vX,vX]]⟩ [2,3] [] (aj [ab [bK .lss 31 30 29],eY 31 0,.block 1 (aj [ab [da 32 1 28 30,az 33 1 32,aa 7 33],ab [aa 34 7,bA 35 3 2,bI 36 74 [35],bI 37 70 [34,(kX 0),36],fS 38 37],.cond 38 (aj [ab [cB 4],.ret]) .skip]),ab [aP .add 39 30 1,aa 30 39]])))],ab [ki 4],.ret])
def abM:List bE:=[.tmp 4]
theorem aoz (NN:Nat) (x:aZ (aH.aY sQ)):dq NN [P0,Kt,C7,Ku,xZ] aec abM sQ cG x=Og NN x:=by kernel_rfl
theorem amI:cI pX 76 aec.er abM 2=true:=by decide+kernel
theorem ap4:dd pX 76 XW.M/\bL pX 76=true:= dC (args:=sQ) (aC:=cG) (aF.cons acr<|aF.cons S3<|aF.cons Ic<|aF.cons S4<|aF.cons Bi<|aF.nil) dc amI xC fun x y h=>(aoz aK x).trans (ajs x y h)
def P4:aw:=⟨77,sR,dD,eu,zJ⟩
def aer:bB:=
 (aj [ab [bZ 4 0],aj [ab [aa 8 0,du 9 8,bZ 10 0],.join ⟨[],[]⟩ [] [] (.block 0 (.loop 0 ⟨[aW 1,(8,.one (.c (.v (.list [lX,lX,lX])))),aW 9,aW 10],[]⟩ [6] [] (aj [ab [bK .lss 11 10 9],eY 11 0,.block 1 (aj [ab [da 12 3 8 10,bA 13 3 12,jV 6 [.nil iX,.nil iX,.nil iX],db 3 6 13],ab [aG 14 0 6,az 15 1 14,aa 16 1,bI 17 110 [15,16],aa 7 17],ab [aa 18 7,aP .geq 19 18 0],.cond 19 (aj [ab [aG 20 1 6,az 21 1 20,aa 22 7,da 23 1 21 22,az 24 1 23,aa 4 24],.ret]) .skip]),ab [aP .add 25 10 1,aa 10 25]])))],ab [bZ 4 0],.ret])
def ab1:List bE:=[.tmp 4]
theorem aoO (NN:Nat) (x:aZ (aH.aY sR)):dq NN [P2] aer ab1 sR eu x=Jm NN x:=by kernel_rfl
theorem amX:cI pX 77 aer.er ab1 2=true:=by decide+kernel
theorem acw:dd pX 77 P4.M/\bL pX 77=true:= dC (args:=sR) (aC:=eu) (aF.cons acu<|aF.nil) dc amX zJ fun x y h=>(aoO aK x).trans (ajH x y h)
def X5:aw:=⟨79,Mv,dD,eN,Ch⟩
def aes:bB:=
 (aj [ab [tc 4],ab [oX 8 (.fG iX []),aa 5 8],aj [ab [aa 9 1,du 10 9,bZ 11 0],.join ⟨[iw 5 701 1],[bJ 701]⟩ [700,701] [g0 5 701] (.block 0 (.loop 0 ⟨[(0,.one (.c (.v (.list [lX,lX,lX])))),iw 5 700 1,fZ 9,aW 10,aW 11],[bJ 700]⟩ [8,19,20,700] [g0 5 700] (aj [ab [bK .lss 12 11 10],eY 12 0,.block 1 (aj [ab [da 13 1 9 11,az 14 1 13,aa 7 14],ab [aa 15 5,aa 16 0,aa 17 7,bI 18 77 [16,17],oX 19 (.fG iX [18]),oX 20 (.append true iX 8 15 19),aa 5 20]]),ab [aP .add 21 11 1,aa 11 21]])))],ab [aa 22 5,aa 4 22],.ret])
def ab2:List bE:=[.tmp 4]
theorem aoP (NN:Nat) (x:aZ (aH.aY Mv)):dq NN [P4] aes ab2 Mv eN x=Jo NN x:=by kernel_rfl
theorem amY:cI pX 79 aes.er ab2 2=true:=by decide+kernel
theorem aqb:dd pX 79 X5.M/\bL pX 79=true:= dC (args:=Mv) (aC:=eN) (aF.cons acw<|aF.nil) dc amY Ch fun x y h=>(aoP aK x).trans (ajI x y h)
def XU:aw:=⟨36,zh,dD,cG,Cd⟩
def ad9:bB:=
 (aj [ab [dE 1 5 0,cB 2],aj [ab [aG 8 0 1,bA 9 3 8,bI 10 75 [9],fS 11 10,aa 12 11,bq 12 (aG 13 3 1),bq 12 (az 14 1 13),bq 12 (du 15 14),bq 12 (aP .gtr 16 15 12),ii 17 12 16],.cond 17 (aj [ab [cB 2],.ret]) .skip],aj [ab [aG 18 3 1,az 19 1 18,du 20 19,bZ 21 0],.join ⟨[bo 1 1],[(1,.box [vX,vX,vX,.c (.v (.list [lX,lX,lX])),kG])]⟩ [1] [] (.block 0 (.loop 0 ⟨[bo 1 1,(19,.one (.c (.v (.list [lX,lX,lX])))),aW 20,aW 21],[(1,.box [vX,vX,vX,.c (.v (.list [lX,lX,lX])),kG])]⟩ [1] [] (aj [ab [bK .lss 22 21 20],eY 22 0,.join ⟨[aW 21,bo 1 1,(19,.one (.c (.v (.list [lX,lX,lX])))),aW 20],[(1,.box [vX,vX,vX,.c (.v (.list [lX,lX,lX])),kG])]⟩ [1,4] [] (.block 1 (aj [ab [aa 23 21,da 24 3 19 21,bA 25 3 24,jV 4 [.nil iX,.nil iX,.nil iX],aa 3 23,db 3 4 25],aj [ab [aG 26 0 1,bA 27 3 26,bA 28 3 4,bI 29 76 [27,28],fS 30 29],.cond 30 (aj [ab [cB 2],.ret]) .skip],ab [aG 31 0 4,az 32 1 31,du 33 32,bZ 34 0],.block 2 (.loop 0 ⟨[bo 1 1,aW 3,bo 4 4,(19,.one (.c (.v (.list [lX,lX,lX])))),aW 20,aW 21,fZ 32,aW 33,aW 34],[(1,.box [vX,vX,vX,.c (.v (.list [lX,lX,lX])),kG]),cA 4 [kG,kG,kG]]⟩ [1,4] [] (aj [ab [bK .lss 35 34 33],eY 35 2,.block 3 (aj [ab [aa 36 34,da 37 1 32 34,az 38 1 37,aa 5 36,aa 6 38],ab [aG 39 3 1,az 40 1 39,aa 41 3,oX 42 (.slice 3 40 none (some 41)),aa 43 6,bI 44 77 [42,43],aa 7 44],ab [aa 45 7,aP .gtr 46 45 0,aa 47 46,bx 47 (aa 48 7),bx 47 (aG 49 1 4),bx 47 (az 50 1 49),bx 47 (aa 51 5),bx 47 (da 52 1 50 51),bx 47 (az 53 1 52),bx 47 (bK .neq 54 48 53),gm 55 47 54],.cond 55 (aj [ab [cB 2],.ret]) .skip]),ab [aP .add 56 34 1,aa 34 56]]))])),ab [aP .add 57 21 1,aa 21 57]])))],.fE true [aG 58 4 1,az 59 1 58,aG 60 3 1,az 61 1 60,aG 62 4 1,az 63 1 62,bI 64 79 [61,63],oX 65 (.build [.nil iX,.nil iX,.nil iX] [(0,1,59),(1,1,64)]),bI 66 78 [65],aP .geq 67 66 0,aa 2 67],.ret])
def abJ:List bE:=[.tmp 2]
theorem aow (NN:Nat) (x:aZ (aH.aY zh)):dq NN [Kt,XW,P4,X5,P0] ad9 abJ zh cG x=Jk NN x:=by kernel_rfl
theorem amF:cI pX 36 ad9.er abJ 1=true:=by decide+kernel
theorem ap2:dd pX 36 XU.M/\bL pX 36=true:= dC (args:=zh) (aC:=cG) (aF.cons S3<|aF.cons ap4<|aF.cons acw<|aF.cons aqb<|aF.cons acr<|aF.nil) dc amF Cd fun x y h=>(aow aK x).trans (ajp x y h)
def XV:aw:=⟨6,jS,dD,EE,zH⟩
def aeb:bB:=
 (aj [ab [dE 4 3 0,dE 5 2 1,oX 8 (.alloc [zX,zX,zX,.nil [lX,lX,lX],.nil iX]),cB 9],aj [ab [bA 16 3 4,bA 17 2 5,aa 18 2,aa 19 3,bI 20 30 [16,17,18,19],fS 21 20],.cond 21 (aj [ab [oX 22 (.build [zX,zX,zX,.nil [lX,lX,lX],.nil iX] []),db 5 8 22,cB 9],.ret]) .skip],ab [bA 23 3 4,oX 24 (.build [zX,zX,zX,.nil [lX,lX,lX],.nil iX] [(0,3,23)]),oX 10 (.alloc [zX,zX,zX,.nil [lX,lX,lX],.nil iX]),db 5 10 24],aj [ab [aG 25 1 5,az 26 1 25,du 27 26,bZ 28 0],.join ⟨[bo 4 4,bo 5 5,aW 2,bo 10 10,bo 8 8],[cA 4 [vX,vX,vX],(5,.box [vX,.c (.v (.list [.int .i64,.int .i64]))]),cA 8 [vX,vX,vX,fX 736 3,fX 737 1],cA 10 [vX,vX,vX,fX 738 3,fX 739 1],(736,.row true .aN [lX,lX,lX]),bJ 737,(738,.row true .aN [lX,lX,lX]),bJ 739]⟩ [4,5,8,10,700,701,702,703,736,737,738,739] [bn 8 3 736,bn 8 4 737,bn 10 3 738,bn 10 4 739] (.block 0 (.loop 0 ⟨[aW 2,fZ 3,bo 4 4,bo 5 5,bo 8 8,bo 10 10,(26,.one (.c (.v (.list [.int .i64,.int .i64])))),aW 27,aW 28],[cA 4 [vX,vX,vX],(5,.box [vX,.c (.v (.list [.int .i64,.int .i64]))]),cA 8 [vX,vX,vX,fX 700 3,fX 701 1],cA 10 [vX,vX,vX,fX 702 3,fX 703 1],(700,.row true .aN [lX,lX,lX]),bJ 701,(702,.row true .aN [lX,lX,lX]),bJ 703]⟩ [4,5,8,10,700,701,702,703,732,733,734,735] [bn 8 3 700,bn 8 4 701,bn 10 3 702,bn 10 4 703] (aj [ab [bK .lss 29 28 27],eY 29 0,.join ⟨[aW 28,aW 2,fZ 3,bo 4 4,bo 5 5,bo 8 8,bo 10 10,(26,.one (.c (.v (.list [.int .i64,.int .i64])))),aW 27],[cA 4 [vX,vX,vX],(5,.box [vX,.c (.v (.list [.int .i64,.int .i64]))]),cA 8 [vX,vX,vX,fX 732 3,fX 733 1],cA 10 [vX,vX,vX,fX 734 3,fX 735 1],(732,.row true .aN [lX,lX,lX]),bJ 733,(734,.row true .aN [lX,lX,lX]),bJ 735]⟩ [4,5,8,10,13,84,725,726,728,732,733,734,735] [bn 8 3 732,bn 8 4 733,bn 10 3 734,bn 10 4 735] (.block 1 (aj [ab [da 30 2 26 28,bA 31 2 30,jV 12 [zX,zX],db 2 12 31],ab [aG 32 0 12,az 33 1 32,aG 34 1 12,az 35 1 34,oX 36 (.fG iX [33,35]),aa 37 2,aa 38 2,oX 39 (.fG iX [37,38]),oX 40 (.build [.nil iX,.nil iX,.nil iX] [(0,1,36),(1,1,39)]),jV 13 [.nil iX,.nil iX,.nil iX],db 3 13 40],aj [ab [aG 41 0 12,az 42 1 41,aG 43 1 12,az 44 1 43,bK .eql 45 42 44],.join ⟨[aW 27,(26,.one (.c (.v (.list [.int .i64,.int .i64])))),bo 10 10,bo 8 8,bo 5 5,bo 4 4,fZ 3,aW 2,aW 28,bo 13 13,bo 12 12],[cA 4 [vX,vX,vX],(5,.box [vX,.c (.v (.list [.int .i64,.int .i64]))]),cA 8 [vX,vX,vX,fX 704 3,fX 705 1],cA 10 [vX,vX,vX,fX 706 3,fX 707 1],cA 12 [vX,vX],cA 13 [fX 708 1,fX 709 1,fX 710 1],(704,.row true .aN [lX,lX,lX]),bJ 705,(706,.row true .aN [lX,lX,lX]),bJ 707,bJ 708,bJ 709,bJ 710]⟩ [4,5,8,10,12,36,39,13,48,50,700,701,702,703,704,705,706,707,708,709,710] [bn 8 3 704,bn 8 4 705,bn 10 3 706,bn 10 4 707,bn 13 0 708,bn 13 1 709,bn 13 2 710] (.cond 45 (ab [aG 46 0 12,az 47 1 46,oX 48 (.fG iX [47]),aa 49 2,oX 50 (.fG iX [49]),oX 51 (.build [.nil iX,.nil iX,.nil iX] [(0,1,48),(1,1,50)]),db 3 13 51]) .skip)],ab [bA 52 3 4,bA 53 3 13,bI 54 31 [52,53],db 3 13 54],aj [ab [bZ 14 0],.join ⟨[bo 13 13,aW 28,aW 2,fZ 3,bo 4 4,bo 5 5,bo 8 8,bo 10 10,(26,.one (.c (.v (.list [.int .i64,.int .i64])))),aW 27],[cA 4 [vX,vX,vX],(5,.box [vX,.c (.v (.list [.int .i64,.int .i64]))]),cA 8 [vX,vX,vX,fX 725 3,fX 726 1],cA 10 [vX,vX,vX,fX 727 3,fX 728 1],cA 13 [fX 729 1,fX 730 1,fX 731 1],(725,.row true .aN [lX,lX,lX]),bJ 726,(727,.row true .aN [lX,lX,lX]),bJ 728,bJ 729,bJ 730,bJ 731]⟩ [4,5,8,10,12,13,711,712,713,714,715,716,717,725,726,727,728,729,730,731] [bn 8 3 725,bn 8 4 726,bn 10 3 727,bn 10 4 728,bn 13 0 729,bn 13 1 730,bn 13 2 731] (.block 2 (.loop 0 ⟨[aW 2,fZ 3,bo 4 4,bo 5 5,bo 8 8,bo 10 10,bo 12 12,bo 13 13,aW 14,(26,.one (.c (.v (.list [.int .i64,.int .i64])))),aW 27,aW 28],[cA 4 [vX,vX,vX],(5,.box [vX,.c (.v (.list [.int .i64,.int .i64]))]),cA 8 [vX,vX,vX,fX 711 3,fX 712 1],cA 10 [vX,vX,vX,fX 713 3,fX 714 1],cA 12 [vX,vX],cA 13 [fX 715 1,fX 716 1,fX 717 1],(711,.row true .aN [lX,lX,lX]),bJ 712,(713,.row true .aN [lX,lX,lX]),bJ 714,bJ 715,bJ 716,bJ 717]⟩ [4,5,8,10,12,13,55000,55001,55002,77000,79000,704,705,706,707,708,709,710,711,712,713,714,715,716,717,718,719,720,721,722,723,724] [bn 8 3 711,bn 8 4 712,bn 10 3 713,bn 10 4 714,bn 13 0 715,bn 13 1 716,bn 13 2 717] (aj [aj [ab [aa 55 14,aa 56 2,bK .lss 57 55 56],eY 57 2],.block 3 (aj [ab [aa 60 14,aa 15 60],aj [ab [aG 61 0 12,az 62 1 61,aG 63 1 12,az 64 1 63,bK .neq 65 62 64],.join ⟨[aW 15,aW 14,aW 2,fZ 3,bo 4 4,bo 5 5,bo 8 8,bo 10 10,bo 12 12,bo 13 13,(26,.one (.c (.v (.list [.int .i64,.int .i64])))),aW 27,aW 28],[cA 4 [vX,vX,vX],(5,.box [vX,.c (.v (.list [.int .i64,.int .i64]))]),cA 8 [vX,vX,vX,fX 718 3,fX 719 1],cA 10 [vX,vX,vX,fX 720 3,fX 721 1],cA 12 [vX,vX],cA 13 [fX 722 1,fX 723 1,fX 724 1],(718,.row true .aN [lX,lX,lX]),bJ 719,(720,.row true .aN [lX,lX,lX]),bJ 721,bJ 722,bJ 723,bJ 724]⟩ [4,5,8,10,12,13,711,712,713,714,715,716,717,718,719,720,721,722,723,724] [bn 8 3 718,bn 8 4 719,bn 10 3 720,bn 10 4 721,bn 13 0 722,bn 13 1 723,bn 13 2 724] (.cond 65 (ab [aa 66 14,aa 67 2,bK .mul 68 66 67,aa 69 14,bK .add 70 68 69,aa 15 70]) .skip)],.fE true [bA 71 3 4,bA 72 3 13,aa 73 15,bA 74 3 4,bA 75 3 4,bI 76 34 [75],aa 77 3,bI 78 33 [74,76,77],oX 79 (.jo .aN 32 [71,72,73,78])]]),ab [aa 58 14,aP .add 59 58 1,aa 14 59]])))],ab [aG 80 3 10,az 81 1 80,bA 82 3 13,oX 83 (.fG [lX,lX,lX] [82]),oX 84 (.append false [lX,lX,lX] 72 81 83),aG 85 3 10,db 1 85 84]])),ab [aP .add 86 28 1,aa 28 86]])))],.fE true [aG 87 3 10,az 88 1 87,bA 89 3 4,bA 90 2 5,aa 91 2,bI 92 35 [89,90,91],oX 93 (.append false [lX,lX,lX] 72 88 92),aG 94 3 10,db 1 94 93],aj [ab [bA 95 5 10,bI 96 36 [95],fS 97 96],.cond 97 (aj [ab [oX 98 (.build [zX,zX,zX,.nil [lX,lX,lX],.nil iX] []),db 5 8 98,cB 9],.ret]) .skip],ab [bA 99 5 10,db 5 8 99,ki 9],.ret])
def abL:List bE:=[.cell 8 5 true,.tmp 9]
theorem aoy (NN:Nat) (x:aZ (aH.aY jS)):dq NN [X6,P5,P1,XX,P3,X7,XU] aeb abL jS EE x=Jl NN x:=by kernel_rfl
theorem amH:cI pX 6 aeb.er abL 4=true:=by decide+kernel
theorem ap3:dd pX 6 XV.M/\bL pX 6=true:= dC (args:=jS) (aC:=EE) (aF.cons aqc<|aF.cons acx<|aF.cons acs<|aF.cons ap5<|aF.vY acv<|aF.cons aqd<|aF.cons ap2<|aF.nil) dc amH zH fun x y h=>(aoy aK x).trans (ajr x y h)
def Xk:aw:=⟨106,eu,dD,cG,xv⟩
def adm:bB:=
 (aj [ab [cB 2],aj [ab [aa 4 0,aP .lss 5 4 2,aa 6 5,bq 6 (aa 7 0),bq 6 (aP .gtr 8 7 1000003),ii 9 6 8],.cond 9 (aj [ab [cB 2],.ret]) .skip],aj [ab [bZ 3 2],.join ⟨[],[]⟩ [] [] (.block 0 (.loop 0 ⟨[aW 0,aW 3],[]⟩ [] [] (aj [aj [ab [aa 10 3,aa 11 3,bK .mul 12 10 11,aa 13 0,bK .leq 14 12 13],eY 14 0],.block 1 (aj [ab [aa 17 0,aa 18 3,bK .rem 19 17 18,aP .eql 20 19 0],.cond 20 (aj [ab [cB 2],.ret]) .skip]),ab [aa 15 3,aP .add 16 15 1,aa 3 16]])))],ab [ki 2],.ret])
def aaY:List bE:=[.tmp 2]
theorem anM (NN:Nat) (x:aZ (aH.aY eu)):dq NN [] adm aaY eu cG x=NF NN x:=by kernel_rfl
theorem alU:cI pX 106 adm.er aaY 1=true:=by decide+kernel
theorem apr:dd pX 106 Xk.M/\bL pX 106=true:= dC (args:=eu) (aC:=cG) (aF.nil) dc alU xv fun x y h=>(anM aK x).trans (aiG x y h)
def Gf:aw:=⟨67,fj,dD,cG,rA⟩
def ado:bB:=
 (aj [ab [dE 1 3 0,cB 2],aj [ab [aG 3 0 1,az 4 1 3],.block 0 (aj [ab [aP .eql 6 4 1,aa 5 6],.cond 5 (aj [ab [aG 7 1 1,az 8 1 7,aP .eql 9 8 0,aa 10 9,bx 10 (aG 11 2 1),bx 10 (az 12 1 11),bx 10 (aP .eql 13 12 0),gm 14 10 13,aa 2 14],.ret]) (aj [ab [aP .eql 16 4 2,aa 15 16],.cond 15 (aj [ab [aG 17 1 1,az 18 1 17,bI 19 106 [18],aa 20 19,bx 20 (aG 21 2 1),bx 20 (az 22 1 21),bx 20 (aP .eql 23 22 0),gm 24 20 23,aa 2 24],.ret]) (aj [aj [ab [aP .eql 26 4 3,aa 25 26],.join ⟨[(25,.one (.c (.v (.bool)))),aW 4,bo 1 1],[cA 1 [vX,vX,vX]]⟩ [1] [] (.cond 25 .skip (aj [ab [aP .eql 27 4 4,aa 25 27],.cond 25 .skip (ab [aP .eql 28 4 5,aa 25 28])]))],.cond 25 (aj [ab [aG 29 1 1,az 30 1 29,aP .geq 31 30 1,aa 32 31,bx 32 (aG 33 1 1),bx 32 (az 34 1 33),bx 32 (aP .leq 35 34 1000000),gm 36 32 35,aa 37 36,bx 37 (aG 38 2 1),bx 37 (az 39 1 38),bx 37 (aP .eql 40 39 0),gm 41 37 40,aa 2 41],.ret]) (aj [ab [aP .eql 43 4 6,aa 42 43],.cond 42 (aj [ab [aG 44 1 1,az 45 1 44,aP .eql 46 45 0,aa 47 46,bx 47 (aG 48 2 1),bx 47 (az 49 1 48),bx 47 (aP .geq 50 49 1),gm 51 47 50,aa 52 51,bx 52 (aG 53 2 1),bx 52 (az 54 1 53),bx 52 (aP .leq 55 54 20),gm 56 52 55,aa 2 56],.ret]) (aj [ab [aP .eql 58 4 7,aa 57 58],.cond 57 (aj [ab [aG 59 1 1,az 60 1 59,bI 61 106 [60],aa 62 61,bx 62 (aG 63 2 1),bx 62 (az 64 1 63),bx 62 (aP .geq 65 64 1),gm 66 62 65,aa 67 66,bx 67 (aG 68 2 1),bx 67 (az 69 1 68),bx 67 (aP .leq 70 69 6),gm 71 67 70,aa 2 71],.ret]) (aj [ab [aP .eql 73 4 8,aa 72 73],.cond 72 (aj [ab [aG 74 1 1,az 75 1 74,bI 76 106 [75],aa 77 76,bx 77 (aG 78 1 1),bx 77 (az 79 1 78),bx 77 (aP .neq 80 79 2),gm 81 77 80,aa 82 81,bx 82 (aG 83 2 1),bx 82 (az 84 1 83),bx 82 (aP .eql 85 84 0),gm 86 82 85,aa 2 86],.ret]) .skip])])])])])])],ab [cB 2],.ret])
def aa0:List bE:=[.tmp 2]
theorem anO (NN:Nat) (x:aZ (aH.aY fj)):dq NN [Xk] ado aa0 fj cG x=NG NN x:=by kernel_rfl
theorem alW:cI pX 67 ado.er aa0 1=true:=by decide+kernel
theorem LP:dd pX 67 Gf.M/\bL pX 67=true:= dC (args:=fj) (aC:=cG) (aF.cons apr<|aF.nil) dc alW rA fun x y h=>(anO aK x).trans (aiI x y h)
def Xj:aw:=⟨81,pA,dD,cG,BP⟩
def adl:bB:=
 (aj [ab [dE 1 2 0,cB 2],aj [ab [aG 5 0 1,az 6 1 5,aP .lss 7 6 0,aa 8 7,bq 8 (aG 9 0 1),bq 8 (az 10 1 9),bq 8 (aP .gtr 11 10 10),ii 12 8 11,aa 13 12,bq 13 (aG 14 1 1),bq 13 (az 15 1 14),bq 13 (du 16 15),bq 13 (aP .gtr 17 16 10),ii 18 13 17],.cond 18 (aj [ab [cB 2],.ret]) .skip],aj [ab [aG 19 1 1,az 20 1 19,du 21 20,bZ 22 0],.join ⟨[],[]⟩ [1] [] (.block 0 (.loop 0 ⟨[bo 1 1,(20,.one (.c (.v (.list [.int .i64,.int .i64])))),aW 21,aW 22],[(1,.box [vX,.c (.v (.list [.int .i64,.int .i64]))])]⟩ [1,4] [] (aj [ab [bK .lss 23 22 21],eY 23 0,.block 1 (aj [ab [da 24 2 20 22,bA 25 2 24,jV 4 [zX,zX],db 2 4 25],ab [aG 26 0 4,az 27 1 26,aP .lss 28 27 0,aa 29 28,bq 29 (aG 30 1 4),bq 29 (az 31 1 30),bq 29 (aP .lss 32 31 0),ii 33 29 32,aa 34 33,bq 34 (aG 35 0 4),bq 34 (az 36 1 35),bq 34 (aG 37 0 1),bq 34 (az 38 1 37),bq 34 (bK .geq 39 36 38),ii 40 34 39,aa 41 40,bq 41 (aG 42 1 4),bq 41 (az 43 1 42),bq 41 (aG 44 0 1),bq 41 (az 45 1 44),bq 41 (bK .geq 46 43 45),ii 47 41 46],.cond 47 (aj [ab [cB 2],.ret]) .skip]),ab [aP .add 48 22 1,aa 22 48]])))],ab [ki 2],.ret])
def aaX:List bE:=[.tmp 2]
theorem anL (NN:Nat) (x:aZ (aH.aY pA)):dq NN [] adl aaX pA cG x=NE NN x:=by kernel_rfl
theorem alT:cI pX 81 adl.er aaX 1=true:=by decide+kernel
theorem apq:dd pX 81 Xj.M/\bL pX 81=true:= dC (args:=pA) (aC:=cG) (aF.nil) dc alT BP fun x y h=>(anL aK x).trans (aiF x y h)
def Gg:aw:=⟨84,fj,dD,eu,pH⟩
def adD:bB:=
 (aj [ab [dE 1 3 0,bZ 2 0],aj [ab [aG 3 0 1,az 4 1 3],.block 0 (aj [ab [aP .eql 6 4 7,aa 5 6],.cond 5 (aj [ab [aG 7 2 1,az 8 1 7,aa 2 8],.ret]) (aj [ab [aP .eql 10 4 8,aa 9 10],.cond 9 (aj [ab [bZ 2 4],.ret]) .skip])])],ab [bZ 2 1],.ret])
def abf:List bE:=[.tmp 2]
theorem an3 (NN:Nat) (x:aZ (aH.aY fj)):dq NN [] adD abf fj eu x=NR NN x:=by kernel_rfl
theorem amb:cI pX 84 adD.er abf 1=true:=by decide+kernel
theorem LQ:dd pX 84 Gg.M/\bL pX 84=true:= dC (args:=fj) (aC:=eu) (aF.nil) dc amb pH fun x y h=>(an3 aK x).trans (WW x y h)
def PY:aw:=⟨85,fj,dD,eu,xz⟩
def adC:bB:=
 (aj [ab [dE 1 3 0,bZ 2 0],aj [ab [aG 3 0 1,az 4 1 3],.block 0 (aj [ab [aP .eql 6 4 1,aa 5 6],.cond 5 (aj [ab [bZ 2 1],.ret]) (aj [aj [ab [aP .eql 8 4 3,aa 7 8],.join ⟨[(7,.one (.c (.v (.bool)))),aW 4,bo 1 1],[cA 1 [vX,vX,vX]]⟩ [1] [] (.cond 7 .skip (aj [ab [aP .eql 9 4 4,aa 7 9],.cond 7 .skip (ab [aP .eql 10 4 5,aa 7 10])]))],.cond 7 (aj [ab [aG 11 1 1,az 12 1 11,aa 2 12],.ret]) (aj [ab [aP .eql 14 4 6,aa 13 14],.cond 13 (aj [ab [aG 15 2 1,az 16 1 15,oX 17 (.bin .shl (kX 1) 16),aP .sub 18 17 1,aa 2 18],.ret]) .skip])])])],ab [aG 19 1 1,az 20 1 19,aP .sub 21 20 1,aa 2 21],.ret])
def abe:List bE:=[.tmp 2]
theorem an2 (NN:Nat) (x:aZ (aH.aY fj)):dq NN [] adC abe fj eu x=US NN x:=by kernel_rfl
theorem ama:cI pX 85 adC.er abe 1=true:=by decide+kernel
theorem acp:dd pX 85 PY.M/\bL pX 85=true:= dC (args:=fj) (aC:=eu) (aF.nil) dc ama xz fun x y h=>(an2 aK x).trans (WV x y h)
def PX:aw:=⟨112,oJ,dD,cG,xy⟩
def ady:bB:=
 (aj [ab [dE 2 3 0,cB 4],ab [bA 8 3 2,bI 9 85 [8],aa 5 9],aj [ab [aa 10 1,du 11 10,bZ 12 0],.join ⟨[],[]⟩ [] [] (.block 0 (.loop 0 ⟨[aW 5,fZ 10,aW 11,aW 12],[]⟩ [2] [] (aj [ab [bK .lss 13 12 11],eY 13 0,.block 1 (aj [ab [da 14 1 10 12,az 15 1 14,aa 7 15],ab [aa 16 7,aP .lss 17 16 0,aa 18 17,bq 18 (aa 19 7),bq 18 (aa 20 5),bq 18 (bK .gtr 21 19 20),ii 22 18 21],.cond 22 (aj [ab [cB 4],.ret]) .skip]),ab [aP .add 23 12 1,aa 12 23]])))],ab [ki 4],.ret])
def aba:List bE:=[.tmp 4]
theorem anY (NN:Nat) (x:aZ (aH.aY oJ)):dq NN [PY] ady aba oJ cG x=NM NN x:=by kernel_rfl
theorem al6:cI pX 112 ady.er aba 2=true:=by decide+kernel
theorem aco:dd pX 112 PX.M/\bL pX 112=true:= dC (args:=oJ) (aC:=cG) (aF.cons acp<|aF.nil) dc al6 xy fun x y h=>(anY aK x).trans (aiS x y h)
def PV:aw:=⟨82,oJ,dD,cG,ud⟩
def adk:bB:=
 (aj [ab [dE 2 3 0,cB 4],ab [bA 5 3 2,bI 6 67 [5],aa 7 6,bx 7 (aa 8 1),bx 7 (du 9 8),bx 7 (bA 10 3 2),bx 7 (bI 11 84 [10]),bx 7 (bK .eql 12 9 11),gm 13 7 12,aa 14 13,bx 14 (bA 15 3 2),bx 14 (aa 16 1),bx 14 (bI 17 112 [15,16]),gm 18 14 17,aa 4 18],.ret])
def aaW:List bE:=[.tmp 4]
theorem anK (NN:Nat) (x:aZ (aH.aY oJ)):dq NN [Gf,Gg,PX] adk aaW oJ cG x=ND NN x:=by kernel_rfl
theorem alS:cI pX 82 adk.er aaW 2=true:=by decide+kernel
theorem acm:dd pX 82 PV.M/\bL pX 82=true:= dC (args:=oJ) (aC:=cG) (aF.cons LP<|aF.cons LQ<|aF.cons aco<|aF.nil) dc alS ud fun x y h=>(anK aK x).trans (aiE x y h)
def Xw:aw:=⟨38,jS,dD,cG,BW⟩
def adE:bB:=
 (aj [ab [dE 4 3 0,dE 5 2 1,cB 8],ab [bA 9 3 4,bI 10 67 [9],aa 11 10,bx 11 (bA 12 2 5),bx 11 (bI 13 81 [12]),gm 14 11 13,aa 15 14,bx 15 (bA 16 3 4),bx 15 (aa 17 3),bx 15 (bI 18 82 [16,17]),gm 19 15 18,aa 20 19,bx 20 (aa 21 2),bx 20 (aP .geq 22 21 1),gm 23 20 22,aa 24 23,bx 24 (aa 25 2),bx 24 (aP .leq 26 25 4),gm 27 24 26,aa 8 27],.ret])
def abg:List bE:=[.tmp 8]
theorem an4 (NN:Nat) (x:aZ (aH.aY jS)):dq NN [Gf,Xj,PV] adE abg jS cG x=NS NN x:=by kernel_rfl
theorem amc:cI pX 38 adE.er abg 4=true:=by decide+kernel
theorem apD:dd pX 38 Xw.M/\bL pX 38=true:= dC (args:=jS) (aC:=cG) (aF.cons LP<|aF.cons apq<|aF.cons acm<|aF.nil) dc amc BW fun x y h=>(an4 aK x).trans (aiX x y h)
def Xv:aw:=⟨40,fj,dD,eN,ue⟩
def adB:bB:=
 (aj [ab [dE 1 3 0,tc 2],ab [bA 4 3 1,bI 5 84 [4],oX 6 (.kx .aN iX 8 (0:Int) 5 5),aa 3 6],aj [ab [aG 7 0 1,az 8 1 7],.block 0 (aj [ab [aP .eql 12 8 4,aa 11 12],.cond 11 (ab [aa 13 3,lg 14 1 13 0,uX (.store 1 14 (kX 0))]) (aj [ab [aP .eql 16 8 5,aa 15 16],.cond 15 (ab [aa 17 3,aG 18 1 1,az 19 1 18,lg 20 1 17 0,db 1 20 19]) (aj [ab [aP .eql 22 8 6,aa 21 22],.cond 21 (ab [aa 23 3,bA 24 3 1,bI 25 85 [24],lg 26 1 23 0,db 1 26 25]) (ab [aa 9 3,lg 10 1 9 0,uX (.store 1 10 (kX 1))])])])])],ab [aa 27 3,aa 2 27],.ret])
def abd:List bE:=[.tmp 2]
theorem an1 (NN:Nat) (x:aZ (aH.aY fj)):dq NN [Gg,PY] adB abd fj eN x=NQ NN x:=by kernel_rfl
theorem al9:cI pX 40 adB.er abd 1=true:=by decide+kernel
theorem apC:dd pX 40 Xv.M/\bL pX 40=true:= dC (args:=fj) (aC:=eN) (aF.cons LQ<|aF.cons acp<|aF.nil) dc al9 ue fun x y h=>(an1 aK x).trans (aiV x y h)
def Kp:aw:=⟨83,eN,dD,eN,rB⟩
def adu:bB:=
 (aj [ab [tc 2],ab [aa 3 0,oX 4 (.append true iX 8 (.k (.one (.nil iX))) 3),aa 2 4],.ret])
def aa6:List bE:=[.tmp 2]
theorem anU (NN:Nat) (x:aZ (aH.aY eN)):dq NN [] adu aa6 eN eN x=NJ NN x:=by kernel_rfl
theorem al2:cI pX 83 adu.er aa6 1=true:=by decide+kernel
theorem S0:dd pX 83 Kp.M/\bL pX 83=true:= dC (args:=eN) (aC:=eN) (aF.nil) dc al2 rB fun x y h=>(anU aK x).trans (aiO x y h)
def Xo:aw:=⟨62,aeG,Mt,eN,mE⟩
def ads:bB:=
 (aj [ab [dE 3 3 0],ab [aG 7 0 3,az 8 1 7],.block 0 (aj [aj [ab [aP .eql 31 8 1,aa 30 31],.join ⟨[(30,.one (.c (.v (.bool)))),aW 8,(1,.one (.c (.sl 1000000 1))),fZ 2,bo 3 3],[(1000000,.row false .aN iX),cA 3 [vX,vX,vX]]⟩ [1000000,3,700] [g0 1 700] (.cond 30 .skip (ab [aP .eql 32 8 5,aa 30 32]))],.cond 30 (.fE true [aa 33 1,aa 34 1,lg 35 1 34 0,az 36 1 35,aa 37 2,lg 38 1 37 0,az 39 1 38,oX 40 (.mm true 36 39),lg 41 1 33 0,db 1 41 40]) (aj [ab [aP .eql 43 8 3,aa 42 43],.cond 42 (.fE true [aa 44 1,aa 45 1,lg 46 1 45 0,az 47 1 46,aa 48 2,lg 49 1 48 0,az 50 1 49,bK .add 51 47 50,aG 52 1 3,az 53 1 52,oX 54 (.mm false 51 53),lg 55 1 44 0,db 1 55 54]) (aj [ab [aP .eql 57 8 4,aa 56 57],.cond 56 (.fE true [aa 58 1,aa 59 1,lg 60 1 59 0,az 61 1 60,aa 62 2,lg 63 1 62 0,az 64 1 63,oX 65 (.mm false 61 64),lg 66 1 58 0,db 1 66 65]) (aj [ab [aP .eql 68 8 6,aa 67 68],.cond 67 (.fE true [aa 69 1,lg 70 1 69 0,az 71 1 70,aa 72 2,lg 73 1 72 0,az 74 1 73,bK .or 75 71 74,lg 76 1 69 0,db 1 76 75]) (aj [ab [aa 9 1,du 10 9,bZ 11 0],.block 1 (.loop 0 ⟨[(1,.one (.c (.sl 1000000 1))),fZ 2,bo 3 3,aW 10,aW 11],[(1000000,.row false .aN iX),cA 3 [vX,vX,vX]]⟩ [1000000,3,701] [g0 1 701] (aj [ab [bK .lss 12 11 10],eY 12 1,.block 2 (aj [ab [aa 13 11,aa 6 13],.fE true [aa 14 1,aa 15 6,aa 16 1,aa 17 6,da 18 1 16 17,az 19 1 18,aa 20 2,aa 21 6,da 22 1 20 21,az 23 1 22,bK .add 24 19 23,aG 25 1 3,az 26 1 25,bK .rem 27 24 26,da 28 1 14 15,db 1 28 27]]),ab [aP .add 29 11 1,aa 11 29]]))])])])])])])
def aa4:List bE:=[]
theorem anS (NN:Nat) (x:aZ (aH.aY aeG)):Ix NN [] ads aa4 Mt.kH VC eN x.1 x.2.1 x.2.2=vI NN x:=by kernel_rfl
theorem al0:cI pX 62 ads.er aa4 3=true:=by decide+kernel
theorem apv:zO pX 62 Mt.kH Xo.MX/\bL pX 62=true:= as5 (bg:=VC) rfl (mu:=Mt) (aC:=eN) (aF.nil) dc al0 mE fun x y h=>(anS aK x).trans (aiM x y h)
def Xi:aw:=⟨39,sP,dD,eN,BO⟩
def adj:bB:=
 (aj [ab [dE 3 3 0,tc 6],aj [ab [bA 8 3 3,aa 9 1,bI 10 82 [8,9],fS 11 10,aa 12 11,bq 12 (bA 13 3 3),bq 12 (aa 14 2),bq 12 (bI 15 82 [13,14]),bq 12 (fS 16 15),ii 17 12 16],.cond 17 (aj [ab [tc 6],.ret]) .skip],ab [aa 18 1,bI 19 83 [18],aa 7 19],ab [bA 20 3 3,aa 21 7,aa 22 2,oX 23 (.nc .aN 62 [20,21,22])],ab [aa 24 7,aa 6 24],.ret])
def aaV:List bE:=[.tmp 6]
theorem anJ (NN:Nat) (x:aZ (aH.aY sP)):dq NN [PV,Kp,Xo] adj aaV sP eN x=Jf NN x:=by kernel_rfl
theorem alR:cI pX 39 adj.er aaV 3=true:=by decide+kernel
theorem apo:dd pX 39 Xi.M/\bL pX 39=true:= dC (args:=sP) (aC:=eN) (aF.cons acm<|aF.cons S0<|aF.V5 apv<|aF.nil) dc alR BO fun x y h=>(anJ aK x).trans (aiD x y h)
def Xt:aw:=⟨86,eN,dD,eu,BU⟩
def adz:bB:=
 (aj [ab [bZ 2 0],ab [bZ 3 1],aj [ab [aa 6 0,du 7 6,bZ 8 0],.join ⟨[aW 3],[]⟩ [] [] (.block 0 (.loop 0 ⟨[aW 3,fZ 6,aW 7,aW 8],[]⟩ [] [] (aj [ab [bK .lss 9 8 7],eY 9 0,.block 1 (aj [ab [da 10 1 6 8,az 11 1 10,aa 5 11],ab [aa 12 3,aa 13 5,bK .mul 14 12 13,aa 3 14]]),ab [aP .add 15 8 1,aa 8 15]])))],ab [aa 16 3,aa 2 16],.ret])
def abb:List bE:=[.tmp 2]
theorem anZ (NN:Nat) (x:aZ (aH.aY eN)):dq NN [] adz abb eN eu x=NO NN x:=by kernel_rfl
theorem al7:cI pX 86 adz.er abb 1=true:=by decide+kernel
theorem apA:dd pX 86 Xt.M/\bL pX 86=true:= dC (args:=eN) (aC:=eu) (aF.nil) dc al7 BU fun x y h=>(anZ aK x).trans (aiT x y h)
def Xr:aw:=⟨41,Ms,dD,lS,xx⟩
def adw:bB:=
 (aj [ab [dE 4 3 0,jV 8 [.nil iX,.nil iX,.nil iX]],ab [aa 12 1,bI 13 83 [12],aa 14 2,bI 15 83 [14],oX 16 (.build [.nil iX,.nil iX,.nil iX] [(0,1,13),(1,1,15)]),jV 9 [.nil iX,.nil iX,.nil iX],db 3 9 16],ab [aa 17 2,bI 18 86 [17],aa 10 18],ab [aa 19 10,aa 20 3,du 21 20,bK .mul 22 19 21,oX 23 (.kx .aN iX 8 (0:Int) (kX 0) 22),aG 24 2 9,db 1 24 23],aj [ab [bZ 11 0],.join ⟨[bo 9 9,bo 8 8],[cA 8 [fX 706 1,fX 707 1,fX 708 1],cA 9 [fX 709 1,fX 710 1,fX 711 1],bJ 706,bJ 707,bJ 708,bJ 709,bJ 710,bJ 711]⟩ [8,9,700,701,702,703,704,705,706,707,708,709,710,711] [bn 8 0 706,bn 8 1 707,bn 8 2 708,bn 9 0 709,bn 9 1 710,bn 9 2 711] (.block 0 (.loop 0 ⟨[fZ 3,bo 8 8,bo 9 9,aW 10,aW 11],[cA 8 [fX 700 1,fX 701 1,fX 702 1],cA 9 [fX 703 1,fX 704 1,fX 705 1],bJ 700,bJ 701,bJ 702,bJ 703,bJ 704,bJ 705]⟩ [4,8,14000,16000,9,23,33,700,701,702,703,704,705] [bn 8 0 700,bn 8 1 701,bn 8 2 702,bn 9 0 703,bn 9 1 704,bn 9 2 705] (aj [aj [ab [aa 25 11,aa 26 10,bK .lss 27 25 26],eY 27 0],.block 1 (ab [aG 30 2 9,az 31 1 30,aa 32 3,oX 33 (.append true iX 8 31 32),aG 34 2 9,db 1 34 33]),ab [aa 28 11,aP .add 29 28 1,aa 11 29]])))],ab [bA 35 3 9,db 3 8 35],.ret])
def aa8:List bE:=[.cell 8 3 true]
theorem anW (NN:Nat) (x:aZ (aH.aY Ms)):dq NN [Kp,Xt] adw aa8 Ms lS x=NK NN x:=by kernel_rfl
theorem al4:cI pX 41 adw.er aa8 4=true:=by decide+kernel
theorem apy:dd pX 41 Xr.M/\bL pX 41=true:= dC (args:=Ms) (aC:=lS) (aF.cons S0<|aF.cons apA<|aF.nil) dc al4 xx fun x y h=>(anW aK x).trans (aiQ x y h)
def Xu:aw:=⟨42,Mq,Mr,arI,BV⟩
def adA:bB:=
 (aj [ab [dE 3 3 0,dE 4 3 1,tc 6],ab [bA 8 3 3,bI 9 84 [8],aa 7 9],ab [aG 10 2 4,az 11 1 10,aa 12 2,aa 13 7,bK .mul 14 12 13,aa 15 2,aP .add 16 15 1,aa 17 7,bK .mul 18 16 17,oX 19 (.slice 1 11 (some 14) (some 18)),aa 6 19],.ret])
def abc:List bE:=[.tmp 6]
theorem an0 (NN:Nat) (x:aZ (aH.aY Mq)):Ma NN [Gg] adA abc Mq Mr.tl x=NP NN x:=by kernel_rfl
theorem al8:cI pX 42 adA.er abc 3=true:=by decide+kernel
theorem apB:Cs pX 42 Mr.tl Xu.MW/\bL pX 42=true:= asR (args:=Mq) (mu:=Mr.tl) (aF.cons LQ<|aF.nil) dc al8 (by decide+kernel) BV fun x y h=>(an0 aK x).trans (aiU x y h)
def Xs:aw:=⟨113,lR,dD,cG,zF⟩
def adx:bB:=
 (aj [ab [cB 4],aj [ab [aa 7 0,du 8 7,bZ 9 0],.join ⟨[],[]⟩ [] [] (.block 0 (.loop 0 ⟨[aW 1,fZ 7,aW 8,aW 9],[]⟩ [] [] (aj [ab [bK .lss 10 9 8],eY 10 0,.block 1 (aj [ab [da 11 1 7 9,az 12 1 11,aa 6 12],ab [aa 13 1,aa 14 6,bK .eql 15 13 14],.cond 15 (aj [ab [ki 4],.ret]) .skip]),ab [aP .add 16 9 1,aa 9 16]])))],ab [cB 4],.ret])
def aa9:List bE:=[.tmp 4]
theorem anX (NN:Nat) (x:aZ (aH.aY lR)):dq NN [] adx aa9 lR cG x=NL NN x:=by kernel_rfl
theorem al5:cI pX 113 adx.er aa9 2=true:=by decide+kernel
theorem apz:dd pX 113 Xs.M/\bL pX 113=true:= dC (args:=lR) (aC:=cG) (aF.nil) dc al5 zF fun x y h=>(anX aK x).trans (aiR x y h)
def PW:aw:=⟨89,lS,dD,eu,zE⟩
def adr:bB:=
 (aj [ab [dE 1 3 0,bZ 2 0],aj [ab [aG 7 0 1,az 8 1 7,du 9 8,aP .gtr 10 9 12,aa 11 10,bq 11 (aG 12 0 1),bq 11 (az 13 1 12),bq 11 (du 14 13),bq 11 (aG 15 1 1),bq 11 (az 16 1 15),bq 11 (du 17 16),bq 11 (bK .neq 18 14 17),ii 19 11 18],.cond 19 (aj [ab [bZ 2 (-1)],.ret]) .skip],ab [bZ 3 1],aj [ab [aG 20 0 1,az 21 1 20,du 22 21,bZ 23 0],.join ⟨[aW 3],[]⟩ [1] [] (.block 0 (.loop 0 ⟨[bo 1 1,aW 3,fZ 21,aW 22,aW 23],[cA 1 [kG,kG,kG]]⟩ [1] [] (aj [ab [bK .lss 24 23 22],eY 24 0,.block 1 (aj [ab [aa 25 23,da 26 1 21 23,az 27 1 26,aa 4 25,aa 5 27],aj [ab [aa 28 5,aP .lss 29 28 0,aa 30 29,bq 30 (aa 31 5),bq 30 (aP .gtr 32 31 99),ii 33 30 32,aa 34 33,bq 34 (aG 35 0 1),bq 34 (az 36 1 35),bq 34 (aa 37 4),bq 34 (oX 38 (.slice 1 36 none (some 37))),bq 34 (aa 39 5),bq 34 (bI 40 113 [38,39]),ii 41 34 40],.cond 41 (aj [ab [bZ 2 (-1)],.ret]) .skip],ab [aG 42 1 1,az 43 1 42,aa 44 4,da 45 1 43 44,az 46 1 45,aa 6 46],aj [ab [aa 47 6,aP .lss 48 47 1,aa 49 48,bq 49 (aa 50 6),bq 49 (aP .gtr 51 50 8),ii 52 49 51,aa 53 52,bq 53 (aa 54 3),bq 53 (aa 55 6),bq 53 (bK .mul 56 54 55),bq 53 (aP .gtr 57 56 4096),ii 58 53 57],.cond 58 (aj [ab [bZ 2 (-1)],.ret]) .skip],ab [aa 59 3,aa 60 6,bK .mul 61 59 60,aa 3 61]]),ab [aP .add 62 23 1,aa 23 62]])))],ab [aa 63 3,aa 2 63],.ret])
def aa3:List bE:=[.tmp 2]
theorem anR (NN:Nat) (x:aZ (aH.aY lS)):dq NN [Xs] adr aa3 lS eu x=NI NN x:=by kernel_rfl
theorem alZ:cI pX 89 adr.er aa3 1=true:=by decide+kernel
theorem acn:dd pX 89 PW.M/\bL pX 89=true:= dC (args:=lS) (aC:=eu) (aF.cons apz<|aF.nil) dc alZ zE fun x y h=>(anR aK x).trans (aiL x y h)
def Xn:aw:=⟨87,sQ,dD,cG,BR⟩
def adq:bB:=
 (aj [ab [dE 2 3 0,dE 3 3 1,cB 4],aj [ab [bA 6 3 2,bI 7 67 [6],fS 8 7],.cond 8 (aj [ab [cB 4],.ret]) .skip],ab [bA 9 3 3,bI 10 89 [9],aa 5 10],.fE true [aa 11 5,aP .neq 12 11 (-1),aa 13 12,bx 13 (aG 14 2 3),bx 13 (az 15 1 14),bx 13 (du 16 15),bx 13 (aa 17 5),bx 13 (bA 18 3 2),bx 13 (bI 19 84 [18]),bx 13 (bK .mul 20 17 19),bx 13 (bK .eql 21 16 20),gm 22 13 21,aa 23 22,bx 23 (bA 24 3 2),bx 23 (aG 25 2 3),bx 23 (az 26 1 25),bx 23 (bI 27 112 [24,26]),gm 28 23 27,aa 4 28],.ret])
def aa2:List bE:=[.tmp 4]
theorem anQ (NN:Nat) (x:aZ (aH.aY sQ)):dq NN [Gf,PW,Gg,PX] adq aa2 sQ cG x=NH NN x:=by kernel_rfl
theorem alY:cI pX 87 adq.er aa2 2=true:=by decide+kernel
theorem apu:dd pX 87 Xn.M/\bL pX 87=true:= dC (args:=sQ) (aC:=cG) (aF.cons LP<|aF.cons acn<|aF.cons LQ<|aF.cons aco<|aF.nil) dc alY BR fun x y h=>(anQ aK x).trans (aiK x y h)
def Xq:aw:=⟨88,Bt,dD,TL,BT⟩
def adv:bB:=
 (aj [ab [oX 2 (.Cx 100),cB 3],ab [oX 4 (.Cx 100)],aj [ab [aa 9 0,du 10 9,bZ 11 0],.join ⟨[bo 4 4,bo 2 2],[(2,.eP (List.replicate 100 (.int .i64))),(4,.eP (List.replicate 100 (.int .i64)))]⟩ [2,4] [] (.block 0 (.loop 0 ⟨[bo 2 2,bo 4 4,(9,.one (.c (.v (.list [lX,lX,lX])))),aW 10,aW 11],[(2,.eP (List.replicate 100 (.int .i64))),(4,.eP (List.replicate 100 (.int .i64)))]⟩ [2,4] [] (aj [ab [bK .lss 12 11 10],eY 12 0,.join ⟨[aW 11,bo 2 2,bo 4 4,(9,.one (.c (.v (.list [lX,lX,lX])))),aW 10],[(2,.eP (List.replicate 100 (.int .i64))),(4,.eP (List.replicate 100 (.int .i64)))]⟩ [2,4,6] [] (.block 1 (aj [ab [da 13 3 9 11,bA 14 3 13,jV 6 [.nil iX,.nil iX,.nil iX],db 3 6 14],ab [aG 15 0 6,az 16 1 15,du 17 16,bZ 18 0],.block 2 (.loop 0 ⟨[bo 2 2,bo 4 4,bo 6 6,(9,.one (.c (.v (.list [lX,lX,lX])))),aW 10,aW 11,fZ 16,aW 17,aW 18],[(2,.eP (List.replicate 100 (.int .i64))),(4,.eP (List.replicate 100 (.int .i64))),cA 6 [kG,kG,kG]]⟩ [2,4,6] [] (aj [ab [bK .lss 19 18 17],eY 19 2,.block 3 (aj [ab [aa 20 18,da 21 1 16 18,az 22 1 21,aa 7 20,aa 8 22],aj [.fE true [aa 23 8,oX 24 (.lH 100 4 23),az 25 1 24,aP .neq 26 25 0,aa 27 26,bx 27 (aa 28 8),bx 27 (oX 29 (.lH 100 4 28)),bx 27 (az 30 1 29),bx 27 (aG 31 1 6),bx 27 (az 32 1 31),bx 27 (aa 33 7),bx 27 (da 34 1 32 33),bx 27 (az 35 1 34),bx 27 (bK .neq 36 30 35),gm 37 27 36],.cond 37 (aj [ab [oX 38 (.D9 (List.replicate 100 (.int .i64)) 4),uX (.ET (List.replicate 100 (.int .i64)) 2 38),cB 3],.ret]) .skip],ab [aa 39 8,aG 40 1 6,az 41 1 40,aa 42 7,da 43 1 41 42,az 44 1 43,oX 45 (.lH 100 4 39),db 1 45 44]]),ab [aP .add 46 18 1,aa 18 46]]))])),ab [aP .add 47 11 1,aa 11 47]])))],ab [oX 48 (.D9 (List.replicate 100 (.int .i64)) 4),uX (.ET (List.replicate 100 (.int .i64)) 2 48),ki 3],.ret])
def aa7:List bE:=[.cell 2 100 true,.tmp 3]
theorem anV (NN:Nat) (x:aZ (aH.aY Bt)):dq NN [] adv aa7 Bt TL x=Jj NN x:=by kernel_rfl
theorem al3:cI pX 88 adv.er aa7 1=true:=by decide+kernel
theorem apx:dd pX 88 Xq.M/\bL pX 88=true:= dC (args:=Bt) (aC:=TL) (aF.nil) dc al3 BT fun x y h=>(anV aK x).trans (aiP x y h)
def Xp:aw:=⟨90,Mu,dD,lS,BS⟩
def adt:bB:=
 (aj [ab [oX 2 (.JE (List.replicate 100 (.int .i64)) 0),jV 4 [.nil iX,.nil iX,.nil iX]],.fE true [aa 8 1,bI 9 83 [8],aa 10 1,du 11 10,oX 12 (.kx .aN iX 8 (0:Int) 11 11),oX 13 (.build [.nil iX,.nil iX,.nil iX] [(0,1,9),(1,1,12)]),jV 5 [.nil iX,.nil iX,.nil iX],db 3 5 13],aj [ab [aa 14 1,du 15 14,bZ 16 0],.join ⟨[bo 5 5,bo 4 4],[cA 4 [fX 706 1,fX 707 1,fX 708 1],cA 5 [fX 709 1,fX 710 1,fX 711 1],bJ 706,bJ 707,bJ 708,bJ 709,bJ 710,bJ 711]⟩ [2,4,5,700,701,702,703,704,705,706,707,708,709,710,711] [bn 4 0 706,bn 4 1 707,bn 4 2 708,bn 5 0 709,bn 5 1 710,bn 5 2 711] (.block 0 (.loop 0 ⟨[bo 2 2,bo 4 4,bo 5 5,fZ 14,aW 15,aW 16],[(2,.eP (List.replicate 100 (.int .i64))),cA 4 [fX 700 1,fX 701 1,fX 702 1],cA 5 [fX 703 1,fX 704 1,fX 705 1],bJ 700,bJ 701,bJ 702,bJ 703,bJ 704,bJ 705]⟩ [2,4,10000,12,5,700,701,702,703,704,705] [bn 4 0 700,bn 4 1 701,bn 4 2 702,bn 5 0 703,bn 5 1 704,bn 5 2 705] (aj [ab [bK .lss 17 16 15],eY 17 0,.block 1 (aj [ab [aa 18 16,da 19 1 14 16,az 20 1 19,aa 6 18,aa 7 20],.fE true [aG 21 1 5,az 22 1 21,aa 23 6,aa 24 7,oX 25 (.lH 100 2 24),az 26 1 25,da 27 1 22 23,db 1 27 26]]),ab [aP .add 28 16 1,aa 16 28]])))],ab [bA 29 3 5,db 3 4 29],.ret])
def aa5:List bE:=[.cell 4 3 true]
theorem anT (NN:Nat) (x:aZ (aH.aY Mu)):dq NN [Kp] adt aa5 Mu lS x=Ji NN x:=by kernel_rfl
theorem al1:cI pX 90 adt.er aa5 2=true:=by decide+kernel
theorem apw:dd pX 90 Xp.M/\bL pX 90=true:= dC (args:=Mu) (aC:=lS) (aF.cons S0<|aF.nil) dc al1 BS fun x y h=>(anT aK x).trans (aiN x y h)
def Xl:aw:=⟨43,zh,dD,cG,BQ⟩
def adn:bB:=
 (aj [ab [dE 1 5 0,cB 2],aj [ab [aG 9 0 1,bA 10 3 9,bI 11 67 [10],fS 12 11,aa 13 12,bq 13 (aG 14 3 1),bq 13 (az 15 1 14),bq 13 (du 16 15),bq 13 (aP .gtr 17 16 12),ii 18 13 17,aa 19 18,bq 19 (aG 20 4 1),bq 19 (az 21 1 20),bq 19 (du 22 21),bq 19 (aP .gtr 23 22 12),ii 24 19 23],.cond 24 (aj [ab [cB 2],.ret]) .skip],aj [ab [aG 25 3 1,az 26 1 25,du 27 26,bZ 28 0],.join ⟨[bo 1 1],[(1,.box [vX,vX,vX,.c (.v (.list [lX,lX,lX])),kG])]⟩ [1] [] (.block 0 (.loop 0 ⟨[bo 1 1,(26,.one (.c (.v (.list [lX,lX,lX])))),aW 27,aW 28],[(1,.box [vX,vX,vX,.c (.v (.list [lX,lX,lX])),kG])]⟩ [1,4] [] (aj [ab [bK .lss 29 28 27],eY 29 0,.block 1 (aj [ab [da 30 3 26 28,bA 31 3 30,jV 4 [.nil iX,.nil iX,.nil iX],db 3 4 31],ab [aG 32 0 1,bA 33 3 32,bA 34 3 4,bI 35 87 [33,34],fS 36 35],.cond 36 (aj [ab [cB 2],.ret]) .skip]),ab [aP .add 37 28 1,aa 28 37]])))],ab [aG 39 3 1,az 40 1 39,oX 41 (.JH .aN 88 [40]),aa 38 41,xJ 42 0 38,xJ 43 1 38,oX 5 (.Cx 100),uX (.ET (List.replicate 100 (.int .i64)) 5 42),aa 6 43],aj [ab [aa 44 6,fS 45 44],.cond 45 (aj [ab [cB 2],.ret]) .skip],aj [ab [aG 46 4 1,az 47 1 46,du 48 47,bZ 49 0],.join ⟨[bo 5 5,bo 1 1],[(1,.box [vX,vX,vX,.c (.v (.list [lX,lX,lX])),kG]),(5,.eP (List.replicate 100 (.int .i64)))]⟩ [1,5] [] (.block 2 (.loop 0 ⟨[bo 1 1,bo 5 5,fZ 47,aW 48,aW 49],[(1,.box [vX,vX,vX,.c (.v (.list [lX,lX,lX])),kG]),(5,.eP (List.replicate 100 (.int .i64)))]⟩ [1,5] [] (aj [ab [bK .lss 50 49 48],eY 50 2,.block 3 (aj [ab [da 51 1 47 49,az 52 1 51,aa 8 52],ab [aa 53 8,aP .lss 54 53 0,aa 55 54,bq 55 (aa 56 8),bq 55 (aP .gtr 57 56 99),ii 58 55 57,aa 59 58,bq 59 (aa 60 8),bq 59 (oX 61 (.lH 100 5 60)),bq 59 (az 62 1 61),bq 59 (aP .eql 63 62 0),ii 64 59 63],.cond 64 (aj [ab [cB 2],.ret]) .skip]),ab [aP .add 65 49 1,aa 49 65]])))],ab [oX 66 (.D9 (List.replicate 100 (.int .i64)) 5),aG 67 4 1,az 68 1 67,oX 69 (.JF .aN 90 66 [68]),bI 70 89 [69],aP .neq 71 70 (-1),aa 2 71],.ret])
def aaZ:List bE:=[.tmp 2]
theorem anN (NN:Nat) (x:aZ (aH.aY zh)):dq NN [Gf,Xn,Xq,Xp,PW] adn aaZ zh cG x=Jg NN x:=by kernel_rfl
theorem alV:cI pX 43 adn.er aaZ 1=true:=by decide+kernel
theorem aps:dd pX 43 Xl.M/\bL pX 43=true:= dC (args:=zh) (aC:=cG) (aF.cons LP<|aF.cons apu<|aF.cons apx<|aF.cons apw<|aF.cons acn<|aF.nil) dc alV BQ fun x y h=>(anN aK x).trans (aiH x y h)
def Xm:aw:=⟨10,jS,dD,EE,xw⟩
def adp:bB:=
 (aj [ab [dE 4 3 0,dE 5 2 1,oX 8 (.alloc [zX,zX,zX,.nil [lX,lX,lX],.nil iX]),cB 9],aj [ab [bA 19 3 4,bA 20 2 5,aa 21 2,aa 22 3,bI 23 38 [19,20,21,22],fS 24 23],.cond 24 (aj [ab [oX 25 (.build [zX,zX,zX,.nil [lX,lX,lX],.nil iX] []),db 5 8 25,cB 9],.ret]) .skip],.fE true [bA 26 3 4,bA 27 3 4,bI 28 40 [27],aa 29 3,bI 30 39 [26,28,29],aa 10 30],ab [bA 31 3 4,oX 32 (.build [zX,zX,zX,.nil [lX,lX,lX],.nil iX] [(0,3,31)]),oX 11 (.alloc [zX,zX,zX,.nil [lX,lX,lX],.nil iX]),db 5 11 32],ab [aG 33 0 5,az 34 1 33,oX 35 (.kx .aN [.bool] 1 false 34 34),aa 12 35],aj [ab [aG 36 1 5,az 37 1 36,du 38 37,bZ 39 0],.join ⟨[iw 12 734 1,bo 8 8,bo 11 11,bo 4 4,aW 2],[cA 4 [vX,vX,vX],cA 8 [vX,vX,vX,fX 730 3,fX 731 1],cA 11 [vX,vX,vX,fX 732 3,fX 733 1],(730,.row true .aN [lX,lX,lX]),bJ 731,(732,.row true .aN [lX,lX,lX]),bJ 733,(734,.row true .aN [.bool])]⟩ [4,8,11,700,701,702,703,704,705,730,731,732,733,734] [bn 8 3 730,bn 8 4 731,bn 11 3 732,bn 11 4 733,g0 12 734] (.block 0 (.loop 0 ⟨[aW 2,bo 4 4,bo 8 8,iw 10 704 1,bo 11 11,iw 12 705 1,(37,.one (.c (.v (.list [.int .i64,.int .i64])))),aW 38,aW 39],[cA 4 [vX,vX,vX],cA 8 [vX,vX,vX,fX 700 3,fX 701 1],cA 11 [vX,vX,vX,fX 702 3,fX 703 1],(700,.row true .aN [lX,lX,lX]),bJ 701,(702,.row true .aN [lX,lX,lX]),bJ 703,bJ 704,(705,.row true .aN [.bool])]⟩ [4,5,8,29000,31000,11,35,700,701,702,703,704,705,724,725,726,727,728,729] [bn 8 3 700,bn 8 4 701,bn 11 3 702,bn 11 4 703,g0 10 704,g0 12 705] (aj [ab [bK .lss 40 39 38],eY 40 0,.join ⟨[aW 39,aW 2,bo 4 4,bo 8 8,iw 10 728 1,bo 11 11,iw 12 729 1,(37,.one (.c (.v (.list [.int .i64,.int .i64])))),aW 38],[cA 4 [vX,vX,vX],cA 8 [vX,vX,vX,fX 724 3,fX 725 1],cA 11 [vX,vX,vX,fX 726 3,fX 727 1],(724,.row true .aN [lX,lX,lX]),bJ 725,(726,.row true .aN [lX,lX,lX]),bJ 727,bJ 728,(729,.row true .aN [.bool])]⟩ [4,8,11,14,61,63,67,15,100,700,701,703,704,705,715,716,718,722,723,724,725,726,727,728,729] [bn 8 3 724,bn 8 4 725,bn 11 3 726,bn 11 4 727,g0 10 728,g0 12 729] (.block 1 (aj [ab [da 41 2 37 39,bA 42 2 41,jV 14 [zX,zX],db 2 14 42],ab [aa 43 12,aG 44 0 14,az 45 1 44,da 46 1 43 45,uX (.store 1 46 (.k (.one (.v (.bool) (true)))))],ab [aa 47 12,aG 48 1 14,az 49 1 48,da 50 1 47 49,uX (.store 1 50 (.k (.one (.v (.bool) (true)))))],aj [ab [aG 51 0 14,az 52 1 51,aG 53 1 14,az 54 1 53,bK .eql 55 52 54],.cond 55 (aj [.sF [(0,10),(1,10)] [aG 56 3 11,az 57 1 56,bA 58 3 4,aG 59 0 14,az 60 1 59,oX 61 (.fG iX [60]),aa 62 2,oX 63 (.fG iX [62]),aa 64 10,bI 65 41 [58,61,63,64],oX 66 (.fG [lX,lX,lX] [65]),oX 67 (.append false [lX,lX,lX] 72 57 66),aG 68 3 11,db 1 68 67],.exit 1]) .skip],.fE true [bA 69 3 4,aG 70 0 14,az 71 1 70,aG 72 1 14,az 73 1 72,oX 74 (.fG iX [71,73]),aa 75 2,aa 76 2,oX 77 (.fG iX [75,76]),bA 78 3 4,bI 79 40 [78],bI 80 41 [69,74,77,79],jV 15 [.nil iX,.nil iX,.nil iX],db 3 15 80],aj [ab [bZ 16 0],.join ⟨[bo 15 15,aW 39,aW 2,bo 4 4,bo 8 8,iw 10 722 1,bo 11 11,iw 12 723 1,(37,.one (.c (.v (.list [.int .i64,.int .i64])))),aW 38],[cA 4 [vX,vX,vX],cA 8 [vX,vX,vX,fX 715 3,fX 716 1],cA 11 [vX,vX,vX,fX 717 3,fX 718 1],cA 15 [fX 719 1,fX 720 1,fX 721 1],(715,.row true .aN [lX,lX,lX]),bJ 716,(717,.row true .aN [lX,lX,lX]),bJ 718,bJ 719,bJ 720,bJ 721,bJ 722,(723,.row true .aN [.bool])]⟩ [4,8,11,15,706,707,708,709,710,711,712,713,714,715,716,717,718,719,720,721,722,723] [bn 8 3 715,bn 8 4 716,bn 11 3 717,bn 11 4 718,bn 15 0 719,bn 15 1 720,bn 15 2 721,g0 10 722,g0 12 723] (.block 2 (.loop 0 ⟨[aW 2,bo 4 4,bo 8 8,iw 10 713 1,bo 11 11,iw 12 714 1,bo 15 15,aW 16,(37,.one (.c (.v (.list [.int .i64,.int .i64])))),aW 38,aW 39],[cA 4 [vX,vX,vX],cA 8 [vX,vX,vX,fX 706 3,fX 707 1],cA 11 [vX,vX,vX,fX 708 3,fX 709 1],cA 15 [fX 710 1,fX 711 1,fX 712 1],(706,.row true .aN [lX,lX,lX]),bJ 707,(708,.row true .aN [lX,lX,lX]),bJ 709,bJ 710,bJ 711,bJ 712,bJ 713,(714,.row true .aN [.bool])]⟩ [4,8,11,14,74,77,80000,81000,81001,81002,15,700,701,702,703,704,705,706,707,708,709,710,711,712,713,714] [bn 8 3 706,bn 8 4 707,bn 11 3 708,bn 11 4 709,bn 15 0 710,bn 15 1 711,bn 15 2 712,g0 10 713,g0 12 714] (aj [aj [ab [aa 81 16,aa 82 2,bK .lss 83 81 82],eY 83 2],.block 3 (ab [bA 86 3 4,bA 87 3 15,aa 88 16,aa 89 2,bK .mul 90 88 89,aa 91 16,bK .add 92 90 91,oX 93 (.m9 42 [86,87,92]),aa 94 10,oX 95 (.copy 93 94)]),ab [aa 84 16,aP .add 85 84 1,aa 16 85]])))],ab [aG 96 3 11,az 97 1 96,bA 98 3 15,oX 99 (.fG [lX,lX,lX] [98]),oX 100 (.append false [lX,lX,lX] 72 97 99),aG 101 3 11,db 1 101 100]])),ab [aP .add 102 39 1,aa 39 102]])))],aj [ab [aa 103 12,du 104 103,bZ 105 0],.join ⟨[bo 11 11,bo 8 8],[cA 8 [vX,vX,vX,fX 740 3,fX 741 1],cA 11 [vX,vX,vX,fX 742 3,fX 743 1],(740,.row true .aN [lX,lX,lX]),bJ 741,(742,.row true .aN [lX,lX,lX]),bJ 743]⟩ [4,8,11,735,736,737,738,739,740,741,742,743] [bn 8 3 740,bn 8 4 741,bn 11 3 742,bn 11 4 743] (.block 4 (.loop 0 ⟨[aW 2,bo 4 4,bo 8 8,bo 11 11,iw 103 739 1,aW 104,aW 105],[cA 4 [vX,vX,vX],cA 8 [vX,vX,vX,fX 735 3,fX 736 1],cA 11 [vX,vX,vX,fX 737 3,fX 738 1],(735,.row true .aN [lX,lX,lX]),bJ 736,(737,.row true .aN [lX,lX,lX]),bJ 738,(739,.row true .aN [.bool])]⟩ [4,8,11,116,118,121000,123,730,731,732,733,734,735,736,737,738,739] [bn 8 3 735,bn 8 4 736,bn 11 3 737,bn 11 4 738,g0 103 739] (aj [ab [bK .lss 106 105 104],eY 106 4,.block 5 (aj [ab [aa 107 105,da 108 1 103 105,az 109 1 108,aa 17 107,aa 18 109],ab [aa 110 18,fS 111 110],.cond 111 (.sF [(0,10),(1,10)] [aG 112 3 11,az 113 1 112,bA 114 3 4,aa 115 17,oX 116 (.fG iX [115]),aa 117 2,oX 118 (.fG iX [117]),bA 119 3 4,bI 120 40 [119],bI 121 41 [114,116,118,120],oX 122 (.fG [lX,lX,lX] [121]),oX 123 (.append false [lX,lX,lX] 72 113 122),aG 124 3 11,db 1 124 123]) .skip]),ab [aP .add 125 105 1,aa 105 125]])))],aj [ab [bA 126 5 11,bI 127 43 [126],fS 128 127],.cond 128 (aj [ab [oX 129 (.build [zX,zX,zX,.nil [lX,lX,lX],.nil iX] []),db 5 8 129,cB 9],.ret]) .skip],ab [bA 130 5 11,db 5 8 130,ki 9],.ret])
def aa1:List bE:=[.cell 8 5 true,.tmp 9]
theorem anP (NN:Nat) (x:aZ (aH.aY jS)):dq NN [Xw,Xv,Xi,Xr,Xu,Xl] adp aa1 jS EE x=Jh NN x:=by kernel_rfl
theorem alX:cI pX 10 adp.er aa1 4=true:=by decide+kernel
theorem apt:dd pX 10 Xm.M/\bL pX 10=true:= dC (args:=jS) (aC:=EE) (aF.cons apD<|aF.cons apC<|aF.cons apo<|aF.cons apy<|aF.ahx apB<|aF.cons aps<|aF.nil) dc alX xw fun x y h=>(anP aK x).trans (aiJ x y h)
def XB:aw:=⟨44,My,dD,cG,B0⟩
def adL:bB:=
 (aj [ab [dE 2 3 0,dE 3 3 1,cB 4],aj [ab [aG 5 0 2,az 6 1 5,aG 7 0 3,az 8 1 7,bK .neq 9 6 8],.cond 9 (aj [ab [cB 4],.ret]) .skip],aj [ab [aG 10 1 2,az 11 1 10,aG 12 1 3,az 13 1 12,bK .neq 14 11 13],.cond 14 (aj [ab [cB 4],.ret]) .skip],aj [ab [aG 15 2 2,az 16 1 15,aG 17 2 3,az 18 1 17,bK .neq 19 16 18],.cond 19 (aj [ab [cB 4],.ret]) .skip],ab [ki 4],.ret])
def abn:List bE:=[.tmp 4]
theorem aob (NN:Nat) (x:aZ (aH.aY My)):dq NN [] adL abn My cG x=NX NN x:=by kernel_rfl
theorem amj:cI pX 44 adL.er abn 2=true:=by decide+kernel
theorem apJ:dd pX 44 XB.M/\bL pX 44=true:= dC (args:=My) (aC:=cG) (aF.nil) dc amj B0 fun x y h=>(aob aK x).trans (ai4 x y h)
def Kr:aw:=⟨13,zg,dD,cG,pI⟩
def adJ:bB:=
 (aj [ab [cB 4],aj [ab [aa 6 0,du 7 6,aa 8 1,du 9 8,bK .neq 10 7 9],.cond 10 (aj [ab [cB 4],.ret]) .skip],aj [ab [bZ 5 0],.join ⟨[],[]⟩ [] [] (.block 0 (.loop 0 ⟨[fZ 0,fZ 1,aW 5],[]⟩ [] [] (aj [aj [ab [aa 11 5,aa 12 0,du 13 12,bK .lss 14 11 13],eY 14 0],.block 1 (aj [.fE true [aa 17 0,aa 18 5,da 19 1 17 18,az 20 1 19,aa 21 1,aa 22 5,da 23 1 21 22,az 24 1 23,bK .neq 25 20 24],.cond 25 (aj [ab [cB 4],.ret]) .skip]),ab [aa 15 5,aP .add 16 15 1,aa 5 16]])))],ab [ki 4],.ret])
def abl:List bE:=[.tmp 4]
theorem an9 (NN:Nat) (x:aZ (aH.aY zg)):dq NN [] adJ abl zg cG x=UW NN x:=by kernel_rfl
theorem amh:cI pX 13 adJ.er abl 2=true:=by decide+kernel
theorem S1:dd pX 13 Kr.M/\bL pX 13=true:= dC (args:=zg) (aC:=cG) (aF.nil) dc amh pI fun x y h=>(an9 aK x).trans (ai2 x y h)
def XC:aw:=⟨91,Mw,dD,cG,B1⟩
def adM:bB:=
 (aj [ab [dE 2 3 0,dE 3 3 1,cB 4],aj [ab [aG 5 0 2,az 6 1 5,aG 7 0 3,az 8 1 7,bI 9 13 [6,8],fS 10 9],.cond 10 (aj [ab [cB 4],.ret]) .skip],aj [ab [aG 11 1 2,az 12 1 11,aG 13 1 3,az 14 1 13,bI 15 13 [12,14],fS 16 15],.cond 16 (aj [ab [cB 4],.ret]) .skip],aj [ab [aG 17 2 2,az 18 1 17,aG 19 2 3,az 20 1 19,bI 21 13 [18,20],fS 22 21],.cond 22 (aj [ab [cB 4],.ret]) .skip],ab [ki 4],.ret])
def abo:List bE:=[.tmp 4]
theorem aoc (NN:Nat) (x:aZ (aH.aY Mw)):dq NN [Kr] adM abo Mw cG x=NY NN x:=by kernel_rfl
theorem amk:cI pX 91 adM.er abo 2=true:=by decide+kernel
theorem apK:dd pX 91 XC.M/\bL pX 91=true:= dC (args:=Mw) (aC:=cG) (aF.cons S1<|aF.nil) dc amk B1 fun x y h=>(aoc aK x).trans (ai5 x y h)
def XD:aw:=⟨45,Mz,dD,cG,B2⟩
def adN:bB:=
 (aj [ab [cB 4],aj [ab [aa 6 0,du 7 6,aa 8 1,du 9 8,bK .neq 10 7 9],.cond 10 (aj [ab [cB 4],.ret]) .skip],aj [ab [bZ 5 0],.join ⟨[],[]⟩ [] [] (.block 0 (.loop 0 ⟨[(0,.one (.c (.v (.list [lX,lX,lX])))),(1,.one (.c (.v (.list [lX,lX,lX])))),aW 5],[]⟩ [] [] (aj [aj [ab [aa 11 5,aa 12 0,du 13 12,bK .lss 14 11 13],eY 14 0],.block 1 (aj [.fE true [aa 17 0,aa 18 5,da 19 3 17 18,bA 20 3 19,aa 21 1,aa 22 5,da 23 3 21 22,bA 24 3 23,bI 25 91 [20,24],fS 26 25],.cond 26 (aj [ab [cB 4],.ret]) .skip]),ab [aa 15 5,aP .add 16 15 1,aa 5 16]])))],ab [ki 4],.ret])
def abp:List bE:=[.tmp 4]
theorem aod (NN:Nat) (x:aZ (aH.aY Mz)):dq NN [XC] adN abp Mz cG x=UX NN x:=by kernel_rfl
theorem aml:cI pX 45 adN.er abp 2=true:=by decide+kernel
theorem apL:dd pX 45 XD.M/\bL pX 45=true:= dC (args:=Mz) (aC:=cG) (aF.cons apK<|aF.nil) dc aml B2 fun x y h=>(aod aK x).trans (ai6 x y h)
def XA:aw:=⟨11,MA,dD,cG,uf⟩
def adK:bB:=
 (aj [ab [dE 2 5 0,dE 3 5 1,cB 4],aj [ab [aG 5 0 2,bA 6 3 5,aG 7 0 3,bA 8 3 7,bI 9 44 [6,8],fS 10 9],.cond 10 (aj [ab [cB 4],.ret]) .skip],aj [ab [aG 11 3 2,az 12 1 11,aG 13 3 3,az 14 1 13,bI 15 45 [12,14],fS 16 15],.cond 16 (aj [ab [cB 4],.ret]) .skip],aj [ab [aG 17 4 2,az 18 1 17,aG 19 4 3,az 20 1 19,bI 21 13 [18,20],fS 22 21],.cond 22 (aj [ab [cB 4],.ret]) .skip],ab [ki 4],.ret])
def abm:List bE:=[.tmp 4]
theorem aoa (NN:Nat) (x:aZ (aH.aY MA)):dq NN [XB,XD,Kr] adK abm MA cG x=NW NN x:=by kernel_rfl
theorem ami:cI pX 11 adK.er abm 2=true:=by decide+kernel
theorem apI:dd pX 11 XA.M/\bL pX 11=true:= dC (args:=MA) (aC:=cG) (aF.cons apJ<|aF.cons apL<|aF.cons S1<|aF.nil) dc ami uf fun x y h=>(aoa aK x).trans (ai3 x y h)
def Xx:aw:=⟨92,MD,dD,cG,BX⟩
def adG:bB:=
 (aj [ab [dE 2 2 0,dE 3 2 1,cB 4],aj [ab [aG 5 0 2,az 6 1 5,aG 7 0 3,az 8 1 7,bK .neq 9 6 8],.cond 9 (aj [ab [cB 4],.ret]) .skip],aj [ab [aG 10 1 2,az 11 1 10,aG 12 1 3,az 13 1 12,bK .neq 14 11 13],.cond 14 (aj [ab [cB 4],.ret]) .skip],ab [ki 4],.ret])
def abi:List bE:=[.tmp 4]
theorem an6 (NN:Nat) (x:aZ (aH.aY MD)):dq NN [] adG abi MD cG x=NU NN x:=by kernel_rfl
theorem ame:cI pX 92 adG.er abi 2=true:=by decide+kernel
theorem apF:dd pX 92 Xx.M/\bL pX 92=true:= dC (args:=MD) (aC:=cG) (aF.nil) dc ame BX fun x y h=>(an6 aK x).trans (aiZ x y h)
def Xy:aw:=⟨46,Mk,dD,cG,BZ⟩
def adH:bB:=
 (aj [ab [cB 4],aj [ab [aa 6 0,du 7 6,aa 8 1,du 9 8,bK .neq 10 7 9],.cond 10 (aj [ab [cB 4],.ret]) .skip],aj [ab [bZ 5 0],.join ⟨[],[]⟩ [] [] (.block 0 (.loop 0 ⟨[(0,.one (.c (.v (.list [.int .i64,.int .i64])))),(1,.one (.c (.v (.list [.int .i64,.int .i64])))),aW 5],[]⟩ [] [] (aj [aj [ab [aa 11 5,aa 12 0,du 13 12,bK .lss 14 11 13],eY 14 0],.block 1 (aj [.fE true [aa 17 0,aa 18 5,da 19 2 17 18,bA 20 2 19,aa 21 1,aa 22 5,da 23 2 21 22,bA 24 2 23,bI 25 92 [20,24],fS 26 25],.cond 26 (aj [ab [cB 4],.ret]) .skip]),ab [aa 15 5,aP .add 16 15 1,aa 5 16]])))],ab [ki 4],.ret])
def abj:List bE:=[.tmp 4]
theorem an7 (NN:Nat) (x:aZ (aH.aY Mk)):dq NN [Xx] adH abj Mk cG x=UU NN x:=by kernel_rfl
theorem amf:cI pX 46 adH.er abj 2=true:=by decide+kernel
theorem apG:dd pX 46 Xy.M/\bL pX 46=true:= dC (args:=Mk) (aC:=cG) (aF.cons apF<|aF.nil) dc amf BZ fun x y h=>(an7 aK x).trans (ai0 x y h)
def Xz:aw:=⟨12,Ml,dD,cG,xA⟩
def adI:bB:=
 (aj [ab [dE 2 2 0,dE 3 2 1,cB 4],aj [ab [aG 5 0 2,az 6 1 5,aG 7 0 3,az 8 1 7,bK .neq 9 6 8],.cond 9 (aj [ab [cB 4],.ret]) .skip],aj [ab [aG 10 1 2,az 11 1 10,aG 12 1 3,az 13 1 12,bI 14 46 [11,13],fS 15 14],.cond 15 (aj [ab [cB 4],.ret]) .skip],ab [ki 4],.ret])
def abk:List bE:=[.tmp 4]
theorem an8 (NN:Nat) (x:aZ (aH.aY Ml)):dq NN [Xy] adI abk Ml cG x=NV NN x:=by kernel_rfl
theorem amg:cI pX 12 adI.er abk 2=true:=by decide+kernel
theorem apH:dd pX 12 Xz.M/\bL pX 12=true:= dC (args:=Ml) (aC:=cG) (aF.cons apG<|aF.nil) dc amg xA fun x y h=>(an8 aK x).trans (ai1 x y h)
def XG:aw:=⟨47,zk,zf,ED,B4⟩
def adR:bB:=
 (aj [ab [bZ 4 0],aj [ab [bZ 5 0],.join ⟨[aW 1],[(1000000,.row false .aN [.int .i64,.int .i64])]⟩ [1000000] [] (.block 0 (.loop 0 ⟨[iw 0 1000000 2,aW 1,aW 5],[(1000000,.row false .aN [.int .i64,.int .i64])]⟩ [1000000,700] [g0 0 700] (aj [aj [ab [aa 6 5,aa 7 0,du 8 7,bK .lss 9 6 8],eY 9 0],.block 1 (aj [ab [aa 12 0,aa 13 5,aa 14 1,da 15 2 12 13,aG 16 0 15,db 1 16 14],ab [aa 17 1,aP .add 18 17 1,aa 1 18],ab [aa 19 0,aa 20 5,aa 21 1,da 22 2 19 20,aG 23 1 22,db 1 23 21],ab [aa 24 1,aP .add 25 24 1,aa 1 25]]),ab [aa 10 5,aP .add 11 10 1,aa 5 11]])))],ab [aa 26 1,aa 4 26],.ret])
def abu:List bE:=[.tmp 4]
theorem aoh (NN:Nat) (x:aZ (aH.aY zk)):y5 NN [] adR abu zk zf ED x=N2 NN x:=by kernel_rfl
theorem amp:cI pX 47 adR.er abu 2=true:=by decide+kernel
theorem apO:sZ pX 47 zf XG.MM/\bL pX 47=true:= Ed (args:=zk) (mu:=zf) (aC:=ED) (aF.nil) dc amp B4 fun x y h=>(aoh aK x).trans (aja x y h)
def XH:aw:=⟨14,ze,Mm,ED,B5⟩
def adS:bB:=
 (aj [ab [dE 2 2 0,bZ 4 0],ab [aG 5 1 2,az 6 1 5,aa 7 1,oX 8 (.jo .aN 47 [6,7]),aa 1 8],ab [aa 9 1,aa 4 9],.ret])
def abv:List bE:=[.tmp 4]
theorem aoi (NN:Nat) (x:aZ (aH.aY ze)):y5 NN [XG] adS abv ze Mm ED x=N3 NN x:=by kernel_rfl
theorem amq:cI pX 14 adS.er abv 2=true:=by decide+kernel
theorem apP:sZ pX 14 Mm XH.MM/\bL pX 14=true:= Ed (args:=ze) (mu:=Mm) (aC:=ED) (aF.vY apO<|aF.nil) dc amq B5 fun x y h=>(aoi aK x).trans (ajb x y h)
def Ks:aw:=⟨15,lR,zf,TK,pJ⟩
def adT:bB:=
 (aj [ab [bZ 4 0],aj [ab [bZ 5 0],.join ⟨[aW 1],[(1000000,.row false .aN iX)]⟩ [1000000] [] (.block 0 (.loop 0 ⟨[iw 0 1000000 1,aW 1,aW 5],[(1000000,.row false .aN iX)]⟩ [1000000,700] [g0 0 700] (aj [aj [ab [aa 6 5,aa 7 0,du 8 7,bK .lss 9 6 8],eY 9 0],.block 1 (aj [ab [aa 12 0,aa 13 5,aa 14 1,da 15 1 12 13,db 1 15 14],ab [aa 16 1,aP .add 17 16 1,aa 1 17]]),ab [aa 10 5,aP .add 11 10 1,aa 5 11]])))],ab [aa 18 1,aa 4 18],.ret])
def abw:List bE:=[.tmp 4]
theorem aoj (NN:Nat) (x:aZ (aH.aY lR)):y5 NN [] adT abw lR zf TK x=N4 NN x:=by kernel_rfl
theorem amr:cI pX 15 adT.er abw 2=true:=by decide+kernel
theorem S2:sZ pX 15 zf Ks.MM/\bL pX 15=true:= Ed (args:=lR) (mu:=zf) (aC:=TK) (aF.nil) dc amr pJ fun x y h=>(aoj aK x).trans (ajc x y h)
def XJ:aw:=⟨48,sR,MB,TM,B7⟩
def adV:bB:=
 (aj [ab [bZ 4 0],aj [ab [bZ 5 0],.join ⟨[aW 1],[(1000000,.row false .live [lX,lX,lX])]⟩ [1000000] [] (.block 0 (.loop 0 ⟨[iw 0 1000000 3,aW 1,aW 5],[(1000000,.row false .live [lX,lX,lX])]⟩ [1000000,700] [(false,0,0,700,.live,[])] (aj [aj [ab [aa 6 5,aa 7 0,du 8 7,bK .lss 9 6 8],eY 9 0],.block 1 (aj [ab [aa 12 0,aa 13 5,da 14 3 12 13,aG 15 0 14,az 16 1 15,aa 17 1,oX 18 (.jo .aN 15 [16,17]),aa 1 18],ab [aa 19 0,aa 20 5,da 21 3 19 20,aG 22 1 21,az 23 1 22,aa 24 1,oX 25 (.jo .aN 15 [23,24]),aa 1 25],ab [aa 26 0,aa 27 5,da 28 3 26 27,aG 29 2 28,az 30 1 29,aa 31 1,oX 32 (.jo .aN 15 [30,31]),aa 1 32]]),ab [aa 10 5,aP .add 11 10 1,aa 5 11]])))],ab [aa 33 1,aa 4 33],.ret])
def aby:List bE:=[.tmp 4]
theorem aol (NN:Nat) (x:aZ (aH.aY sR)):y5 NN [Ks] adV aby sR MB TM x=N6 NN x:=by kernel_rfl
theorem amt:cI pX 48 adV.er aby 2=true:=by decide+kernel
theorem apR:sZ pX 48 MB XJ.MM/\bL pX 48=true:= Ed (args:=sR) (mu:=MB) (aC:=TM) (aF.vY S2<|aF.nil) dc amt B7 fun x y h=>(aol aK x).trans (aje x y h)
def XI:aw:=⟨16,zj,MC,TN,B6⟩
def adU:bB:=
 (aj [ab [dE 2 5 0,bZ 4 0],ab [aG 5 3 2,az 6 1 5,aa 7 1,oX 8 (.jo .live 48 [6,7]),aa 1 8],ab [aG 9 4 2,az 10 1 9,aa 11 1,oX 12 (.jo .live 15 [10,11]),aa 1 12],ab [aa 13 1,aa 4 13],.ret])
def abx:List bE:=[.tmp 4]
theorem aok (NN:Nat) (x:aZ (aH.aY zj)):y5 NN [XJ,Ks] adU abx zj MC TN x=N5 NN x:=by kernel_rfl
theorem ams:cI pX 16 adU.er abx 2=true:=by decide+kernel
theorem apQ:sZ pX 16 MC XI.MM/\bL pX 16=true:= Ed (args:=zj) (mu:=MC) (aC:=TN) (aF.vY apR<|aF.vY S2<|aF.nil) dc ams B6 fun x y h=>(aok aK x).trans (ajd x y h)
def PZ:aw:=⟨50,lR,dD,eu,rC⟩
def adO:bB:=
 (aj [ab [bZ 4 0],aj [ab [bZ 5 0],.join ⟨[aW 1],[]⟩ [] [] (.block 0 (.loop 0 ⟨[fZ 0,aW 1,aW 5],[]⟩ [] [] (aj [aj [ab [aa 6 5,aa 7 0,du 8 7,bK .lss 9 6 8],eY 9 0],.block 1 (aj [aj [ab [aa 12 0,aa 13 5,da 14 1 12 13,az 15 1 14,aa 16 1,bK .neq 17 15 16],.cond 17 (aj [ab [bZ 4 (-1)],.ret]) .skip],ab [aa 18 1,aP .add 19 18 1,aa 1 19]]),ab [aa 10 5,aP .add 11 10 1,aa 5 11]])))],ab [aa 20 1,aa 4 20],.ret])
def abq:List bE:=[.tmp 4]
theorem aoe (NN:Nat) (x:aZ (aH.aY lR)):dq NN [] adO abq lR eu x=NZ NN x:=by kernel_rfl
theorem amm:cI pX 50 adO.er abq 2=true:=by decide+kernel
theorem acq:dd pX 50 PZ.M/\bL pX 50=true:= dC (args:=lR) (aC:=eu) (aF.nil) dc amm rC fun x y h=>(aoe aK x).trans (ai7 x y h)
def XF:aw:=⟨49,sR,dD,eu,B3⟩
def adQ:bB:=
 (aj [ab [bZ 4 0],aj [ab [bZ 5 0],.join ⟨[aW 1],[]⟩ [] [] (.block 0 (.loop 0 ⟨[(0,.one (.c (.v (.list [lX,lX,lX])))),aW 1,aW 5],[]⟩ [] [] (aj [aj [ab [aa 6 5,aa 7 0,du 8 7,bK .lss 9 6 8],eY 9 0],.block 1 (aj [ab [aa 12 0,aa 13 5,da 14 3 12 13,aG 15 0 14,az 16 1 15,aa 17 1,bI 18 50 [16,17],aa 1 18],aj [ab [aa 19 1,aP .lss 20 19 0],.cond 20 (aj [ab [bZ 4 (-1)],.ret]) .skip],ab [aa 21 0,aa 22 5,da 23 3 21 22,aG 24 1 23,az 25 1 24,aa 26 1,bI 27 50 [25,26],aa 1 27],aj [ab [aa 28 1,aP .lss 29 28 0],.cond 29 (aj [ab [bZ 4 (-1)],.ret]) .skip],ab [aa 30 0,aa 31 5,da 32 3 30 31,aG 33 2 32,az 34 1 33,aa 35 1,bI 36 50 [34,35],aa 1 36],ab [aa 37 1,aP .lss 38 37 0],.cond 38 (aj [ab [bZ 4 (-1)],.ret]) .skip]),ab [aa 10 5,aP .add 11 10 1,aa 5 11]])))],ab [aa 39 1,aa 4 39],.ret])
def abt:List bE:=[.tmp 4]
theorem aog (NN:Nat) (x:aZ (aH.aY sR)):dq NN [PZ] adQ abt sR eu x=N1 NN x:=by kernel_rfl
theorem amo:cI pX 49 adQ.er abt 2=true:=by decide+kernel
theorem apN:dd pX 49 XF.M/\bL pX 49=true:= dC (args:=sR) (aC:=eu) (aF.cons acq<|aF.nil) dc amo B3 fun x y h=>(aog aK x).trans (ai9 x y h)
def XE:aw:=⟨17,zj,dD,eu,vC⟩
def adP:bB:=
 (aj [ab [dE 2 5 0,bZ 4 0],ab [aG 5 3 2,az 6 1 5,aa 7 1,bI 8 49 [6,7],aa 1 8],aj [ab [aa 9 1,aP .lss 10 9 0],.cond 10 (aj [ab [bZ 4 (-1)],.ret]) .skip],ab [aG 11 4 2,az 12 1 11,aa 13 1,bI 14 50 [12,13],aa 1 14],aj [ab [aa 15 1,aP .lss 16 15 0],.cond 16 (aj [ab [bZ 4 (-1)],.ret]) .skip],ab [aa 17 1,aa 4 17],.ret])
def abr:List bE:=[.tmp 4]
theorem aof (NN:Nat) (x:aZ (aH.aY zj)):dq NN [XF,PZ] adP abr zj eu x=N0 NN x:=by kernel_rfl
theorem amn:cI pX 17 adP.er abr 2=true:=by decide+kernel
theorem apM:dd pX 17 XE.M/\bL pX 17=true:= dC (args:=zj) (aC:=eu) (aF.cons apN<|aF.cons acq<|aF.nil) dc amn vC fun x y h=>(aof aK x).trans (ai8 x y h)
def Kq:aw:=⟨3,jS,dD,cG,Je⟩
def adF:bB:=
 (aj [ab [dE 4 3 0,dE 5 2 1,cB 8],aj [ab [aa 21 3,du 22 21,aP .gtr 23 22 1048576],.cond 23 (aj [ab [ki 8],.ret]) .skip],ab [bZ 9 1048576],ab [bA 24 2 5,aa 25 9,oX 26 (.call .live 5 [24,25]),aa 9 26],aj [ab [aa 27 9,aP .lss 28 27 0],.cond 28 (aj [ab [ki 8],.ret]) .skip],.fE true [bA 30 3 4,oX 31 (.call .live 7 [30]),bA 32 2 5,oX 33 (.call .live 8 [32]),aa 34 2,aa 35 3,oX 36 (.call .live 9 [35]),oX 37 (.call .live 6 [31,33,34,36]),aa 29 37,xJ 38 0 29,xJ 39 1 29,oX 10 (.alloc [zX,zX,zX,.nil [lX,lX,lX],.nil iX]),db 5 10 38,aa 11 39],ab [bA 40 2 5,oX 41 (.call .live 8 [40]),oX 12 (.alloc [zX,.nil [.int .i64,.int .i64]]),db 2 12 41],ab [aa 42 3,oX 43 (.call .live 9 [42]),aa 13 43],.fE true [bA 45 3 4,oX 46 (.call .live 7 [45]),bA 47 2 12,aa 48 2,aa 49 13,oX 50 (.call .live 10 [46,47,48,49]),aa 44 50,xJ 51 0 44,xJ 52 1 44,oX 14 (.alloc [zX,zX,zX,.nil [lX,lX,lX],.nil iX]),db 5 14 51,aa 15 52],aj [ab [bA 53 5 14,bA 54 5 10,oX 55 (.call .live 11 [53,54]),fS 56 55,aa 57 56,bq 57 (aa 58 15),bq 57 (aa 59 11),bq 57 (oX 60 (.nO .neq 58 59)),ii 61 57 60],.cond 61 (aj [ab [cB 8],.ret]) .skip],aj [.fE true [bA 62 2 12,bA 63 2 5,oX 64 (.call .live 8 [63]),oX 65 (.call .live 12 [62,64]),fS 66 65],.cond 66 (aj [ab [cB 8],.ret]) .skip],aj [ab [aa 67 13,aa 68 3,oX 69 (.call .live 9 [68]),oX 70 (.call .live 13 [67,69]),fS 71 70],.cond 71 (aj [ab [cB 8],.ret]) .skip],ab [bZ 16 1],ab [bA 72 2 12,aa 73 16,oX 74 (.jo .live 14 [72,73]),aa 16 74],ab [aa 75 13,aa 76 16,oX 77 (.jo .live 15 [75,76]),aa 16 77],aj [ab [aa 78 16,aP .lss 79 78 0,aa 80 79,bq 80 (bA 81 5 14),bq 80 (bA 82 5 10),bq 80 (oX 83 (.call .live 11 [81,82])),bq 80 (fS 84 83),ii 85 80 84,aa 86 85,bq 86 (aa 87 15),bq 86 (aa 88 11),bq 86 (oX 89 (.nO .neq 87 88)),ii 90 86 89],.cond 90 (aj [ab [cB 8],.ret]) .skip],ab [bZ 17 1],ab [bA 91 5 14,aa 92 17,oX 93 (.jo .live 16 [91,92]),aa 17 93],ab [bZ 18 1],ab [bA 94 5 14,aa 95 18,oX 96 (.call .live 17 [94,95]),aa 18 96],aj [ab [aa 97 18,aP .lss 98 97 0],.cond 98 (aj [ab [cB 8],.ret]) .skip],aj [ab [aa 99 18,aa 100 17,bK .neq 101 99 100],.cond 101 (aj [ab [cB 8],.ret]) .skip],.fE true [bA 103 3 4,oX 104 (.call .live 7 [103]),bA 105 2 5,oX 106 (.call .live 8 [105]),aa 107 2,aa 108 3,oX 109 (.call .live 9 [108]),oX 110 (.call .live 10 [104,106,107,109]),aa 102 110,xJ 111 0 102,xJ 112 1 102,oX 19 (.alloc [zX,zX,zX,.nil [lX,lX,lX],.nil iX]),db 5 19 111,aa 20 112],aj [ab [bA 113 5 19,bA 114 5 10,oX 115 (.call .live 11 [113,114]),fS 116 115,aa 117 116,bq 117 (aa 118 20),bq 117 (aa 119 11),bq 117 (oX 120 (.nO .neq 118 119)),ii 121 117 120],.cond 121 (aj [ab [cB 8],.ret]) .skip],ab [bZ 18 1],ab [bA 122 5 14,aa 123 18,oX 124 (.call .live 17 [122,123]),aa 18 124],aj [ab [aa 125 18,aP .lss 126 125 0],.cond 126 (aj [ab [cB 8],.ret]) .skip],aj [ab [aa 127 18,aa 128 17,bK .neq 129 127 128],.cond 129 (aj [ab [cB 8],.ret]) .skip],ab [ki 8],.ret])
def abh:List bE:=[.tmp 8]
theorem an5 (NN:Nat) (x:aZ (aH.aY jS)):dq NN [XL,XQ,XO,XP,XV,Xm,XA,Xz,Kr,XH,Ks,XI,XE] adF abh jS cG x=NT NN x:=by kernel_rfl
theorem amd:cI pX 3 adF.er abh 4=true:=by decide+kernel
theorem apE:dd pX 3 Kq.M/\bL pX 3=true:= dC (args:=jS) (aC:=cG) (aF.cons apT<|aF.cons apY<|aF.cons apW<|aF.cons apX<|aF.cons ap3<|aF.cons apt<|aF.cons apI<|aF.cons apH<|aF.cons S1<|aF.vY apP<|aF.vY S2<|aF.vY apQ<|aF.cons apM<|aF.nil) dc amd Je fun x y h=>(an5 aK x).trans (aiY x y h)
end Go.Am
