/- A_BlocksOf: the code of the functions of FnExactBlocksOf. No condition. -/
import Derived.Test.YthildlkhnnogiaaWT
import Derived.Test.YthildlkhnnogiaaWT
import Derived.KernelRfl
import Derived.Test.YthildlkhnnogiaaRows
set_option linter.unusedVariables false
set_option maxRecDepth 100000
namespace Go.Am
theorem cV:Go.Proofs.Try.prog.follows .mixedOrders=true:=by decide+kernel
noncomputable abbrev pX:=Go.Proofs.Try.prog
def oX (n:Nat) (x:du):dA:=⟨some n,x,none⟩
def uX (x:du):dA:=⟨none,x,none⟩
def kX (n:Int):cL:=.k (.one (.v (.int .i64) n))
def sX:iN:=.one (.c (.v (.int .i64)))
def iX:List Ty:=[.int .i64]
def lX:Ty:=.list iX
def zX:SC:=.v (.int .i64) (0:Int)
def vX:fg:=.c (.v (.int .i64))
def fX (n k:Nat):fg:=.c (.full n k)
def rX (n:Nat):fg:=.c (.Hh n 0)
instance tX (n:Nat):OfNat cL n:=⟨.t n⟩
def cQ (s:Nat) (o:dA):dA:={o with guard:=some (s,true)}
def bI (s:Nat) (o:dA):dA:={o with guard:=some (s,false)}
def U (d s:Nat):dA:=oX d (.mv (.t s))
def az (d n s:Nat):dA:=oX d (.load false n (.t s))
def cH (d n s:Nat):dA:=oX d (.load true n (.t s))
def aS (d n s:Nat):dA:=oX d (.nN n (.t s))
def bW (d n x i:Nat):dA:=oX d (.nj n (.t x) (.t i))
def Wp (d n x:Nat) (i:Int):dA:=oX d (.nj n (.t x) (kX i))
def bE (d:Nat) (c:Int):dA:=oX d (.mv (kX c))
def WK:cL:=.k (.one (.v .bool true))
def WJ:cL:=.k (.one (.v .bool false))
def jN (d:Nat):dA:=oX d (.mv WK)
def cU (d:Nat):dA:=oX d (.mv WJ)
def jO (d c x:Nat):dA:=oX d (.pick (.t c) (.t x) WJ)
def iO (d c x:Nat):dA:=oX d (.pick (.t c) WK (.t x))
def bB (o:BinOp) (d x y:Nat):dA:=oX d (.bin o (.t x) (.t y))
def aV (o:BinOp) (d x:Nat) (c:Int):dA:=oX d (.bin o (.t x) (kX c))
def di (d n s:Nat):dA:=oX d (.box n (.t s))
def cq (d s:Nat):dA:=oX d (.len (.t s))
def bZ (d f:Nat) (l:List cL):dA:=oX d (.call .aO f l)
def gN (d s:Nat):dA:=oX d (.un .not (.t s))
def ud (d n s:Nat):dA:=oX d (.ext n (.t s))
def aXj (d f:Nat) (l:List cL):dA:=oX d (.ki f l)
def fK (n x v:Nat):dA:=uX (.store n (.t x) (.t v))
def qg (d:Nat) (l:List SC):dA:=oX d (.alloc l)
def mW (d:Nat):dA:=oX d (.mv (.k (.one (.nil iX))))
def ab (l:List dA):bt:=.ij false l
def ai:List bt->bt
  |[]=>.skip
  |[a]=>a
  |a::l=>.seq a (ai l)
def dX (n e:Nat):bt:=.cond (.t n) .skip (.exit e)
def aQ (n:Nat):Nat×iN:=(n,sX)
def bM (n m k:Nat):Nat×iN:=(n,.one (fX m k))
def cB (n m:Nat):Nat×iN:=(n,.one (rX m))
def cT (n:Nat):Nat×gk:=(n,.row true .aO iX)
def cf:fg:=.c (.v lX)
def eB (n:Nat) (l:List fg):Nat×gk:=(n,.box l)
def gz (a b c:Nat):Bool×Nat×Nat×Nat×Mode×List Ty:=(true,a,b,c,.aO,[])
def da (a c:Nat):Bool×Nat×Nat×Nat×Mode×List Ty:=(false,a,0,c,.aO,[])
def eE (n:Nat):Nat×iN:=(n,.one (.c (.v lX)))
def Qf:au:=⟨72,I5,aov,Uc,rp⟩
def aeH:bt:=
 (ai [ab [bE 4 0],ab [U 5 1,U 6 0,cq 7 6,bB .sub 8 5 7,U 1 8],ai [ab [U 9 1,aV .lss 10 9 0],.cond 10 (ai [ab [bE 4 (-1)],.ret]) .skip],ab [U 11 1,U 4 11],.ret])
def ab9:List bz:=[.tmp 4]
theorem apL (NN:Nat) (x:ba (ak.aZ I5)):dt NN [] aeH ab9 I5 Uc x=N9 NN x:=by kernel_rfl
theorem amF:cF pX 72 aeH.er ab9 2=true:=by decide+kernel
theorem ac6:dd pX 72 Qf.M/\bP pX 72=true:=
  dw (args:=I5) (aw:=Uc) (aD.nil) cV amF rp fun x y h=>(apL aL x).trans (ajR x y h)
def Y2:au:=⟨43,I7,aox,Ue,BX⟩
def aeJ:bt:=
 (ai [ab [di 2 3 0,bE 4 0],ab [aS 5 0 2,az 6 1 5,U 7 1,bZ 8 72 [6,7],U 1 8],ai [ab [U 9 1,aV .lss 10 9 0],.cond 10 (ai [ab [bE 4 (-1)],.ret]) .skip],ab [aS 11 1 2,az 12 1 11,U 13 1,bZ 14 72 [12,13],U 1 14],ai [ab [U 15 1,aV .lss 16 15 0],.cond 16 (ai [ab [bE 4 (-1)],.ret]) .skip],ab [aS 17 2 2,az 18 1 17,U 19 1,bZ 20 72 [18,19],U 1 20],ai [ab [U 21 1,aV .lss 22 21 0],.cond 22 (ai [ab [bE 4 (-1)],.ret]) .skip],ab [U 23 1,U 4 23],.ret])
def acb:List bz:=[.tmp 4]
theorem apN (NN:Nat) (x:ba (ak.aZ I7)):dt NN [Qf] aeJ acb I7 Ue x=Oa NN x:=by kernel_rfl
theorem amH:cF pX 43 aeJ.er acb 2=true:=by decide+kernel
theorem arj:dd pX 43 Y2.M/\bP pX 43=true:=
  dw (args:=I7) (aw:=Ue) (aD.cons ac6<|aD.nil) cV amH BX fun x y h=>(apN aL x).trans (ajT x y h)
def Y1:au:=⟨120,I6,aow,Ud,BW⟩
def aeI:bt:=
 (ai [ab [bE 4 0],ab [U 6 1,U 7 0,cq 8 7,bB .sub 9 6 8,U 1 9],ai [ab [U 10 1,aV .lss 11 10 0],.cond 11 (ai [ab [bE 4 (-1)],.ret]) .skip],ai [ab [bE 5 0],.join ⟨[aQ 1],[]⟩ [] [] (.block 0 (.loop 0 ⟨[(0,.one (.c (.v (.list [lX])))),aQ 1,aQ 5],[]⟩ [] [] (ai [ai [ab [U 12 5,U 13 0,cq 14 13,bB .lss 15 12 14],dX 15 0],.block 1 (ai [ab [U 18 0,U 19 5,bW 20 1 18 19,az 21 1 20,U 22 1,bZ 23 72 [21,22],U 1 23],ab [U 24 1,aV .lss 25 24 0],.cond 25 (ai [ab [bE 4 (-1)],.ret]) .skip]),ab [U 16 5,aV .add 17 16 1,U 5 17]])))],ab [U 26 1,U 4 26],.ret])
def aca:List bz:=[.tmp 4]
theorem apM (NN:Nat) (x:ba (ak.aZ I6)):dt NN [Qf] aeI aca I6 Ud x=Wg NN x:=by kernel_rfl
theorem amG:cF pX 120 aeI.er aca 2=true:=by decide+kernel
theorem ari:dd pX 120 Y1.M/\bP pX 120=true:=
  dw (args:=I6) (aw:=Ud) (aD.cons ac6<|aD.nil) cV amG BW fun x y h=>(apM aL x).trans (ajS x y h)
def Y0:au:=⟨44,I4,aou,Ub,BV⟩
def aeG:bt:=
 (ai [ab [di 2 2 0,bE 4 0],ab [aS 5 1 2,az 6 1 5,U 7 1,bZ 8 120 [6,7],U 1 8],ai [ab [U 9 1,aV .lss 10 9 0],.cond 10 (ai [ab [bE 4 (-1)],.ret]) .skip],ab [U 11 1,U 4 11],.ret])
def ab8:List bz:=[.tmp 4]
theorem apK (NN:Nat) (x:ba (ak.aZ I4)):dt NN [Y1] aeG ab8 I4 Ub x=N8 NN x:=by kernel_rfl
theorem amE:cF pX 44 aeG.er ab8 2=true:=by decide+kernel
theorem arh:dd pX 44 Y0.M/\bP pX 44=true:=
  dw (args:=I4) (aw:=Ub) (aD.cons ari<|aD.nil) cV amE BV fun x y h=>(apK aL x).trans (ajQ x y h)
def Y5:au:=⟨21,Jb,aoB,Ui,zv⟩
def aeN:bt:=
 (ai [ab [di 1 3 0,qg 2 [zX,zX,zX]],ab [qg 3 [zX,zX,zX]],ab [aS 4 0 1,az 5 1 4,aS 6 0 3,fK 1 6 5],ab [aS 7 1 1,az 8 1 7,aS 9 1 3,fK 1 9 8],ab [aS 10 2 1,az 11 1 10,aS 12 2 3,fK 1 12 11],ab [cH 13 3 3,fK 3 2 13],.ret])
def acg:List bz:=[.cell 2 3 true]
theorem apR (NN:Nat) (x:ba (ak.aZ Jb)):dt NN [] aeN acg Jb Ui x=Wh NN x:=by kernel_rfl
theorem amL:cF pX 21 aeN.er acg 1=true:=by decide+kernel
theorem arm:dd pX 21 Y5.M/\bP pX 21=true:=
  dw (args:=Jb) (aw:=Ui) (aD.nil) cV amL zv fun x y h=>(apR aL x).trans (ajX x y h)
def Qg:au:=⟨23,I9,aoz,Ug,tT⟩
def aeL:bt:=
 (ai [ab [mW 2],ab [U 5 0,cq 6 5,oX 7 (.iJ .aO iX 8 (0:Int) 6 6),U 3 7],ai [ab [bE 4 0],.join ⟨[bM 3 701 1],[cT 701]⟩ [700,701] [da 3 701] (.block 0 (.loop 0 ⟨[eE 0,bM 3 700 1,aQ 4],[cT 700]⟩ [7,700] [da 3 700] (ai [ai [ab [U 8 4,U 9 0,cq 10 9,bB .lss 11 8 10],dX 11 0],.block 1 (ab [U 14 3,U 15 4,U 16 0,U 17 4,bW 18 1 16 17,az 19 1 18,bW 20 1 14 15,fK 1 20 19]),ab [U 12 4,aV .add 13 12 1,U 4 13]])))],ab [U 21 3,U 2 21],.ret])
def ace:List bz:=[.tmp 2]
theorem apP (NN:Nat) (x:ba (ak.aZ I9)):dt NN [] aeL ace I9 Ug x=Oc NN x:=by kernel_rfl
theorem amJ:cF pX 23 aeL.er ace 1=true:=by decide+kernel
theorem ac7:dd pX 23 Qg.M/\bP pX 23=true:=
  dw (args:=I9) (aw:=Ug) (aD.nil) cV amJ tT fun x y h=>(apP aL x).trans (ajV x y h)
def Y6:au:=⟨46,Jc,aoC,Uj,tU⟩
def aeO:bt:=
 (ai [ab [di 1 3 0,qg 2 [.nil iX,.nil iX,.nil iX]],ab [qg 3 [.nil iX,.nil iX,.nil iX]],ab [aS 4 0 1,az 5 1 4,bZ 6 23 [5],aS 7 0 3,fK 1 7 6],ab [aS 8 1 1,az 9 1 8,bZ 10 23 [9],aS 11 1 3,fK 1 11 10],ab [aS 12 2 1,az 13 1 12,bZ 14 23 [13],aS 15 2 3,fK 1 15 14],ab [cH 16 3 3,fK 3 2 16],.ret])
def ach:List bz:=[.cell 2 3 true]
theorem apS (NN:Nat) (x:ba (ak.aZ Jc)):dt NN [Qg] aeO ach Jc Uj x=Oe NN x:=by kernel_rfl
theorem amM:cF pX 46 aeO.er ach 1=true:=by decide+kernel
theorem arn:dd pX 46 Y6.M/\bP pX 46=true:=
  dw (args:=Jc) (aw:=Uj) (aD.cons ac7<|aD.nil) cV amM tU fun x y h=>(apS aL x).trans (ajY x y h)
def Y4:au:=⟨123,Ja,aoA,Uh,BZ⟩
def aeM:bt:=
 (ai [ab [oX 2 (.mv (.k (.one (.nil [lX]))))],ab [U 5 0,cq 6 5,oX 7 (.iJ .aO [lX] 24 [] 6 6),U 3 7],ai [ab [bE 4 0],.join ⟨[bM 3 701 1],[(701,.row true .aO [lX])]⟩ [700,701] [da 3 701] (.block 0 (.loop 0 ⟨[(0,.one (.c (.v (.list [lX])))),bM 3 700 1,aQ 4],[(700,.row true .aO [lX])]⟩ [7,700] [da 3 700] (ai [ai [ab [U 8 4,U 9 0,cq 10 9,bB .lss 11 8 10],dX 11 0],.block 1 (ab [U 14 3,U 15 4,U 16 0,U 17 4,bW 18 1 16 17,az 19 1 18,bZ 20 23 [19],bW 21 1 14 15,fK 1 21 20]),ab [U 12 4,aV .add 13 12 1,U 4 13]])))],ab [U 22 3,U 2 22],.ret])
def acf:List bz:=[.tmp 2]
theorem apQ (NN:Nat) (x:ba (ak.aZ Ja)):dt NN [Qg] aeM acf Ja Uh x=Od NN x:=by kernel_rfl
theorem amK:cF pX 123 aeM.er acf 1=true:=by decide+kernel
theorem arl:dd pX 123 Y4.M/\bP pX 123=true:=
  dw (args:=Ja) (aw:=Uh) (aD.cons ac7<|aD.nil) cV amK BZ fun x y h=>(apQ aL x).trans (ajW x y h)
def Y3:au:=⟨47,I8,aoy,Uf,tS⟩
def aeK:bt:=
 (ai [ab [di 1 2 0,oX 2 (.alloc [zX,.nil [lX]])],ab [oX 3 (.alloc [zX,.nil [lX]])],ab [aS 4 0 1,az 5 1 4,aS 6 0 3,fK 1 6 5],ab [aS 7 1 1,az 8 1 7,bZ 9 123 [8],aS 10 1 3,fK 1 10 9],ab [cH 11 2 3,fK 2 2 11],.ret])
def acd:List bz:=[.cell 2 2 true]
theorem apO (NN:Nat) (x:ba (ak.aZ I8)):dt NN [Y4] aeK acd I8 Uf x=Ob NN x:=by kernel_rfl
theorem amI:cF pX 47 aeK.er acd 1=true:=by decide+kernel
theorem ark:dd pX 47 Y3.M/\bP pX 47=true:=
  dw (args:=I8) (aw:=Uf) (aD.cons arl<|aD.nil) cV amI tS fun x y h=>(apO aL x).trans (ajU x y h)
def CW:au:=⟨177,Jl,aoL,Ut,ky⟩
def aeX:bt:=
 (ai [ab [cU 6],ab [U 7 0,U 8 1,bB .geq 9 7 8,U 10 9,cQ 10 (U 11 0),cQ 10 (U 12 2),cQ 10 (bB .leq 13 11 12),jO 14 10 13,U 6 14],.ret])
def acr:List bz:=[.tmp 6]
theorem ap3 (NN:Nat) (x:ba (ak.aZ Jl)):dt NN [] aeX acr Jl Ut x=On NN x:=by kernel_rfl
theorem amV:cF pX 177 aeX.er acr 3=true:=by decide+kernel
theorem Ha:dd pX 177 CW.M/\bP pX 177=true:=
  dw (args:=Jl) (aw:=Ut) (aD.nil) cV amV ky fun x y h=>(ap3 aL x).trans (aj7 x y h)
def Zi:au:=⟨151,Jr,aoR,Uz,zw⟩
def ae3:bt:=
 (ai [ab [bE 4 0],ai [ab [U 7 0,cq 8 7,bE 9 0],.join ⟨[],[]⟩ [] [] (.block 0 (.loop 0 ⟨[aQ 1,eE 7,aQ 8,aQ 9],[]⟩ [] [] (ai [ab [bB .lss 10 9 8],dX 10 0,.block 1 (ai [ab [U 11 9,bW 12 1 7 9,az 13 1 12,U 5 11,U 6 13],ab [U 14 6,U 15 1,bB .eql 16 14 15],.cond 16 (ai [ab [U 17 5,U 4 17],.ret]) .skip]),ab [aV .add 18 9 1,U 9 18]])))],ab [bE 4 (-1)],.ret])
def acy:List bz:=[.tmp 4]
theorem ap9 (NN:Nat) (x:ba (ak.aZ Jr)):dt NN [] ae3 acy Jr Uz x=Ot NN x:=by kernel_rfl
theorem am1:cF pX 151 ae3.er acy 2=true:=by decide+kernel
theorem arA:dd pX 151 Zi.M/\bP pX 151=true:=
  dw (args:=Jr) (aw:=Uz) (aD.nil) cV am1 zw fun x y h=>(ap9 aL x).trans (akd x y h)
def Zg:au:=⟨242,Jp,aoP,Ux,B2⟩
def ae1:bt:=
 (ai [ab [cU 4],ai [ab [U 7 0,cq 8 7,aV .gtr 9 8 12,U 10 9,bI 10 (U 11 0),bI 10 (cq 12 11),bI 10 (U 13 1),bI 10 (cq 14 13),bI 10 (bB .neq 15 12 14),iO 16 10 15],.cond 16 (ai [ab [cU 4],.ret]) .skip],ai [ab [U 17 0,cq 18 17,bE 19 0],.join ⟨[],[]⟩ [] [] (.block 0 (.loop 0 ⟨[eE 0,eE 1,eE 17,aQ 18,aQ 19],[]⟩ [] [] (ai [ab [bB .lss 20 19 18],dX 20 0,.block 1 (ai [ab [U 21 19,bW 22 1 17 19,az 23 1 22,U 5 21,U 6 23],ab [U 24 6,bZ 25 177 [24,(kX 0),(kX 99)],gN 26 25,U 27 26,bI 27 (U 28 1),bI 27 (U 29 5),bI 27 (bW 30 1 28 29),bI 27 (az 31 1 30),bI 27 (bZ 32 177 [31,(kX 1),(kX 8)]),bI 27 (gN 33 32),iO 34 27 33,U 35 34,bI 35 (U 36 0),bI 35 (U 37 5),bI 35 (oX 38 (.slice 1 36 none (some 37))),bI 35 (U 39 6),bI 35 (bZ 40 151 [38,39]),bI 35 (aV .geq 41 40 0),iO 42 35 41],.cond 42 (ai [ab [cU 4],.ret]) .skip]),ab [aV .add 43 19 1,U 19 43]])))],ab [jN 4],.ret])
def acw:List bz:=[.tmp 4]
theorem ap7 (NN:Nat) (x:ba (ak.aZ Jp)):dt NN [CW,Zi] ae1 acw Jp Ux x=Oo NN x:=by kernel_rfl
theorem amZ:cF pX 242 ae1.er acw 2=true:=by decide+kernel
theorem ary:dd pX 242 Zg.M/\bP pX 242=true:=
  dw (args:=Jp) (aw:=Ux) (aD.cons Ha<|aD.cons arA<|aD.nil) cV amZ B2 fun x y h=>(ap7 aL x).trans (akb x y h)
def Kw:au:=⟨135,Jw,aoW,UE,rq⟩
def ae8:bt:=
 (ai [ab [bE 4 0],ab [bE 5 1],ai [ab [U 8 0,cq 9 8,bE 10 0],.join ⟨[aQ 5],[]⟩ [] [] (.block 0 (.loop 0 ⟨[aQ 1,aQ 5,eE 8,aQ 9,aQ 10],[]⟩ [] [] (ai [ab [bB .lss 11 10 9],dX 11 0,.block 1 (ai [ab [bW 12 1 8 10,az 13 1 12,U 7 13],ab [U 14 5,U 15 7,bB .mul 16 14 15,U 17 1,aV .add 18 17 1,oX 19 (.mm false 16 18),U 5 19]]),ab [aV .add 20 10 1,U 10 20]])))],ab [U 21 5,U 4 21],.ret])
def acD:List bz:=[.tmp 4]
theorem aqe (NN:Nat) (x:ba (ak.aZ Jw)):dt NN [] ae8 acD Jw UE x=Oy NN x:=by kernel_rfl
theorem am6:cF pX 135 ae8.er acD 2=true:=by decide+kernel
theorem S3:dd pX 135 Kw.M/\bP pX 135=true:=
  dw (args:=Jw) (aw:=UE) (aD.nil) cV am6 rq fun x y h=>(aqe aL x).trans (akh x y h)
def Qh:au:=⟨196,Jk,aoK,Ur,tV⟩
def aeW:bt:=
 (ai [ab [di 1 3 0,bE 2 0],ai [ab [aS 4 0 1,az 5 1 4,aS 6 1 1,az 7 1 6,bZ 8 242 [5,7],gN 9 8],.cond 9 (ai [ab [bE 2 (-1)],.ret]) .skip],ab [aS 10 1 1,az 11 1 10,bZ 12 135 [11,(kX 4096)],U 3 12],ai [ab [U 13 3,aV .gtr 14 13 4096],.cond 14 (ai [ab [bE 2 (-1)],.ret]) .skip],ab [U 15 3,U 2 15],.ret])
def acq:List bz:=[.tmp 2]
theorem ap2 (NN:Nat) (x:ba (ak.aZ Jk)):dt NN [Zg,Kw] aeW acq Jk Ur x=Om NN x:=by kernel_rfl
theorem amU:cF pX 196 aeW.er acq 1=true:=by decide+kernel
theorem ac8:dd pX 196 Qh.M/\bP pX 196=true:=
  dw (args:=Jk) (aw:=Ur) (aD.cons ary<|aD.cons S3<|aD.nil) cV amU tV fun x y h=>(ap2 aL x).trans (aj6 x y h)
def Zb:au:=⟨176,Jh,aoH,Uo,xt⟩
def aeT:bt:=
 (ai [ab [cU 2],ai [ab [bE 3 2],.join ⟨[aQ 0],[]⟩ [] [] (.block 0 (.loop 0 ⟨[aQ 0,aQ 3],[]⟩ [] [] (ai [ai [ab [U 4 3,U 5 3,bB .mul 6 4 5,U 7 0,bB .leq 8 6 7,U 9 8,cQ 9 (U 10 0),cQ 9 (aV .leq 11 10 1000003),jO 12 9 11],dX 12 0],.block 1 (ai [ab [U 15 0,U 16 3,bB .rem 17 15 16,aV .eql 18 17 0],.cond 18 (ai [ab [cU 2],.ret]) .skip]),ab [U 13 3,aV .add 14 13 1,U 3 14]])))],ab [U 19 0,bZ 20 177 [19,(kX 2),(kX 1000003)],U 2 20],.ret])
def acn:List bz:=[.tmp 2]
theorem apZ (NN:Nat) (x:ba (ak.aZ Jh)):dt NN [CW] aeT acn Jh Uo x=Oj NN x:=by kernel_rfl
theorem amR:cF pX 176 aeT.er acn 1=true:=by decide+kernel
theorem art:dd pX 176 Zb.M/\bP pX 176=true:=
  dw (args:=Jh) (aw:=Uo) (aD.cons Ha<|aD.nil) cV amR xt fun x y h=>(apZ aL x).trans (aj3 x y h)
def Zc:au:=⟨128,Ji,aoI,Up,B1⟩
def aeU:bt:=
 (ai [ab [di 1 3 0,cU 2],ai [ab [aS 3 0 1,az 4 1 3],.block 0 (ai [ab [aV .eql 6 4 1,U 5 6],.cond 5 (ai [ab [aS 7 1 1,az 8 1 7,aV .eql 9 8 0,U 10 9,cQ 10 (aS 11 2 1),cQ 10 (az 12 1 11),cQ 10 (aV .eql 13 12 0),jO 14 10 13,U 2 14],.ret]) (ai [ab [aV .eql 16 4 2,U 15 16],.cond 15 (ai [ab [aS 17 1 1,az 18 1 17,bZ 19 176 [18],U 20 19,cQ 20 (aS 21 2 1),cQ 20 (az 22 1 21),cQ 20 (aV .eql 23 22 0),jO 24 20 23,U 2 24],.ret]) (ai [ai [ab [aV .eql 26 4 3,U 25 26],.join ⟨[(25,.one (.c (.v (.bool)))),aQ 4,cB 1 1],[eB 1 [vX,vX,vX]]⟩ [1] [] (.cond 25 .skip (ai [ab [aV .eql 27 4 4,U 25 27],.cond 25 .skip (ab [aV .eql 28 4 5,U 25 28])]))],.cond 25 (ai [ab [aS 29 1 1,az 30 1 29,bZ 31 177 [30,(kX 1),(kX 1000000)],U 32 31,cQ 32 (aS 33 2 1),cQ 32 (az 34 1 33),cQ 32 (aV .eql 35 34 0),jO 36 32 35,U 2 36],.ret]) (ai [ab [aV .eql 38 4 6,U 37 38],.cond 37 (ai [ab [aS 39 1 1,az 40 1 39,aV .eql 41 40 0,U 42 41,cQ 42 (aS 43 2 1),cQ 42 (az 44 1 43),cQ 42 (bZ 45 177 [44,(kX 1),(kX 20)]),jO 46 42 45,U 2 46],.ret]) (ai [ab [aV .eql 48 4 7,U 47 48],.cond 47 (ai [ab [aS 49 1 1,az 50 1 49,bZ 51 176 [50],U 52 51,cQ 52 (aS 53 2 1),cQ 52 (az 54 1 53),cQ 52 (bZ 55 177 [54,(kX 1),(kX 6)]),jO 56 52 55,U 2 56],.ret]) (ai [ab [aV .eql 58 4 8,U 57 58],.cond 57 (ai [ab [aS 59 1 1,az 60 1 59,bZ 61 176 [60],U 62 61,cQ 62 (aS 63 1 1),cQ 62 (az 64 1 63),cQ 62 (aV .gtr 65 64 2),jO 66 62 65,U 67 66,cQ 67 (aS 68 2 1),cQ 67 (az 69 1 68),cQ 67 (aV .eql 70 69 0),jO 71 67 70,U 2 71],.ret]) .skip])])])])])])],ab [cU 2],.ret])
def aco:List bz:=[.tmp 2]
theorem ap0 (NN:Nat) (x:ba (ak.aZ Ji)):dt NN [Zb,CW] aeU aco Ji Up x=Ok NN x:=by kernel_rfl
theorem amS:cF pX 128 aeU.er aco 1=true:=by decide+kernel
theorem aru:dd pX 128 Zc.M/\bP pX 128=true:=
  dw (args:=Ji) (aw:=Up) (aD.cons art<|aD.cons Ha<|aD.nil) cV amS B1 fun x y h=>(ap0 aL x).trans (aj4 x y h)
def FM:au:=⟨193,Jn,aoN,Uv,tW⟩
def aeZ:bt:=
 (ai [ab [di 1 3 0,bE 2 0],ai [ab [aS 3 0 1,az 4 1 3],.block 0 (ai [ab [aV .eql 6 4 7,U 5 6],.cond 5 (ai [ab [aS 7 2 1,az 8 1 7,U 2 8],.ret]) (ai [ab [aV .eql 10 4 8,U 9 10],.cond 9 (ai [ab [bE 2 4],.ret]) .skip])])],ab [bE 2 1],.ret])
def acu:List bz:=[.tmp 2]
theorem ap5 (NN:Nat) (x:ba (ak.aZ Jn)):dt NN [] aeZ acu Jn Uv x=Wj NN x:=by kernel_rfl
theorem amX:cF pX 193 aeZ.er acu 1=true:=by decide+kernel
theorem L5:dd pX 193 FM.M/\bP pX 193=true:=
  dw (args:=Jn) (aw:=Uv) (aD.nil) cV amX tW fun x y h=>(ap5 aL x).trans (aj9 x y h)
def Ze:au:=⟨194,Jm,aoM,Uu,EW⟩
def aeY:bt:=
 (ai [ab [di 1 3 0,bE 2 0],ai [ab [aS 3 0 1,az 4 1 3],.block 0 (ai [ab [aV .eql 6 4 1,U 5 6],.cond 5 (ai [ab [bE 2 1],.ret]) (ai [ai [ab [aV .eql 8 4 3,U 7 8],.join ⟨[(7,.one (.c (.v (.bool)))),aQ 4,cB 1 1],[eB 1 [vX,vX,vX]]⟩ [1] [] (.cond 7 .skip (ai [ab [aV .eql 9 4 4,U 7 9],.cond 7 .skip (ab [aV .eql 10 4 5,U 7 10])]))],.cond 7 (ai [ab [aS 11 1 1,az 12 1 11,U 2 12],.ret]) (ai [ab [aV .eql 14 4 6,U 13 14],.cond 13 (ai [ab [aS 15 2 1,az 16 1 15,oX 17 (.bin .shl (kX 1) 16),aV .sub 18 17 1,U 2 18],.ret]) .skip])])])],ab [aS 19 1 1,az 20 1 19,aV .sub 21 20 1,U 2 21],.ret])
def acs:List bz:=[.tmp 2]
theorem ap4 (NN:Nat) (x:ba (ak.aZ Jm)):dt NN [] aeY acs Jm Uu x=Wi NN x:=by kernel_rfl
theorem amW:cF pX 194 aeY.er acs 1=true:=by decide+kernel
theorem arw:dd pX 194 Ze.M/\bP pX 194=true:=
  dw (args:=Jm) (aw:=Uu) (aD.nil) cV amW EW fun x y h=>(ap4 aL x).trans (aj8 x y h)
def Zd:au:=⟨134,Jj,aoJ,Uq,xu⟩
def aeV:bt:=
 (ai [ab [di 2 3 0,di 3 3 1,cU 4],ab [cH 8 3 3,bZ 9 196 [8],U 5 9],ai [.ij true [cH 10 3 2,bZ 11 128 [10],gN 12 11,U 13 12,bI 13 (U 14 5),bI 13 (aV .lss 15 14 0),iO 16 13 15,U 17 16,bI 17 (aS 18 2 3),bI 17 (az 19 1 18),bI 17 (cq 20 19),bI 17 (U 21 5),bI 17 (cH 22 3 2),bI 17 (bZ 23 193 [22]),bI 17 (bB .mul 24 21 23),bI 17 (bB .neq 25 20 24),iO 26 17 25],.cond 26 (ai [ab [cU 4],.ret]) .skip],ai [ab [aS 27 2 3,az 28 1 27,cq 29 28,bE 30 0],.join ⟨[],[]⟩ [2] [] (.block 0 (.loop 0 ⟨[cB 2 2,eE 28,aQ 29,aQ 30],[eB 2 [vX,vX,vX]]⟩ [2,3] [] (ai [ab [bB .lss 31 30 29],dX 31 0,.block 1 (ai [ab [bW 32 1 28 30,az 33 1 32,U 7 33],ab [U 34 7,cH 35 3 2,bZ 36 194 [35],bZ 37 177 [34,(kX 0),36],gN 38 37],.cond 38 (ai [ab [cU 4],.ret]) .skip]),ab [aV .add 39 30 1,U 30 39]])))],ab [jN 4],.ret])
def acp:List bz:=[.tmp 4]
theorem ap1 (NN:Nat) (x:ba (ak.aZ Jj)):dt NN [Qh,Zc,FM,Ze,CW] aeV acp Jj Uq x=Ol NN x:=by kernel_rfl
theorem amT:cF pX 134 aeV.er acp 2=true:=by decide+kernel
theorem arv:dd pX 134 Zd.M/\bP pX 134=true:=
  dw (args:=Jj) (aw:=Uq) (aD.cons ac8<|aD.cons aru<|aD.cons L5<|aD.cons arw<|aD.cons Ha<|aD.nil) cV amT xu fun x y h=>(ap1 aL x).trans (aj5 x y h)
def Y8:au:=⟨129,Je,aoE,Ul,xq⟩
def aeQ:bt:=
 (ai [ab [di 2 3 0,di 3 2 1,cU 4],ai [ab [cH 9 3 2,bZ 10 196 [9],aV .lss 11 10 0,U 12 11,bI 12 (aS 13 0 3),bI 12 (az 14 1 13),bI 12 (bZ 15 177 [14,(kX 1),(kX 12)]),bI 12 (gN 16 15),iO 17 12 16,U 18 17,bI 18 (aS 19 1 3),bI 18 (az 20 1 19),bI 18 (cq 21 20),bI 18 (aS 22 1 2),bI 18 (az 23 1 22),bI 18 (cq 24 23),bI 18 (bB .neq 25 21 24),iO 26 18 25],.cond 26 (ai [ab [cU 4],.ret]) .skip],ai [ab [aS 27 1 2,az 28 1 27,cq 29 28,bE 30 0],.join ⟨[],[]⟩ [3] [] (.block 0 (.loop 0 ⟨[cB 3 3,eE 28,aQ 29,aQ 30],[(3,.box [vX,.c (.v (.list [lX]))])]⟩ [2,3] [] (ai [ab [bB .lss 31 30 29],dX 31 0,.join ⟨[aQ 30,cB 3 3,eE 28,aQ 29],[(3,.box [vX,.c (.v (.list [lX]))])]⟩ [3] [] (.block 1 (ai [ab [U 32 30,bW 33 1 28 30,az 34 1 33,U 5 32,U 6 34],ai [ab [aS 35 1 3,az 36 1 35,U 37 5,bW 38 1 36 37,az 39 1 38,cq 40 39,U 41 6,bB .neq 42 40 41],.cond 42 (ai [ab [cU 4],.ret]) .skip],ab [aS 43 1 3,az 44 1 43,U 45 5,bW 46 1 44 45,az 47 1 46,cq 48 47,bE 49 0],.block 2 (.loop 0 ⟨[cB 3 3,eE 28,aQ 29,aQ 30,eE 47,aQ 48,aQ 49],[(3,.box [vX,.c (.v (.list [lX]))])]⟩ [3] [] (ai [ab [bB .lss 50 49 48],dX 50 2,.block 3 (ai [ab [bW 51 1 47 49,az 52 1 51,U 8 52],ab [U 53 8,aS 54 0 3,az 55 1 54,aV .sub 56 55 1,bZ 57 177 [53,(kX 0),56],gN 58 57],.cond 58 (ai [ab [cU 4],.ret]) .skip]),ab [aV .add 59 49 1,U 49 59]]))])),ab [aV .add 60 30 1,U 30 60]])))],ab [jN 4],.ret])
def acj:List bz:=[.tmp 4]
theorem apW (NN:Nat) (x:ba (ak.aZ Je)):dt NN [Qh,CW] aeQ acj Je Ul x=Og NN x:=by kernel_rfl
theorem amO:cF pX 129 aeQ.er acj 2=true:=by decide+kernel
theorem arp:dd pX 129 Y8.M/\bP pX 129=true:=
  dw (args:=Je) (aw:=Ul) (aD.cons ac8<|aD.cons Ha<|aD.nil) cV amO xq fun x y h=>(apW aL x).trans (aj0 x y h)
def Kv:au:=⟨181,Ju,aoU,UC,nC⟩
def ae6:bt:=
 (ai [ab [mW 2],ab [oX 3 (.ft iX []),U 4 0,oX 5 (.append true iX 8 3 4),U 2 5],.ret])
def acB:List bz:=[.tmp 2]
theorem aqc (NN:Nat) (x:ba (ak.aZ Ju)):dt NN [] ae6 acB Ju UC x=Ow NN x:=by kernel_rfl
theorem am4:cF pX 181 ae6.er acB 1=true:=by decide+kernel
theorem S2:dd pX 181 Kv.M/\bP pX 181=true:=
  dw (args:=Ju) (aw:=UC) (aD.nil) cV am4 nC fun x y h=>(aqc aL x).trans (akf x y h)
def Zh:au:=⟨225,Jq,aoQ,Uy,B3⟩
def ae2:bt:=
 (ai [ab [di 1 3 0,qg 2 [.nil iX,.nil iX,.nil iX]],.ij true [aS 3 0 1,az 4 1 3,bZ 5 181 [4],aS 6 1 1,az 7 1 6,bZ 8 181 [7],aS 9 2 1,az 10 1 9,bZ 11 181 [10],oX 12 (.build [.nil iX,.nil iX,.nil iX] [(0,1,5),(1,1,8),(2,1,11)]),fK 3 2 12],.ret])
def acx:List bz:=[.cell 2 3 true]
theorem ap8 (NN:Nat) (x:ba (ak.aZ Jq)):dt NN [Kv] ae2 acx Jq Uy x=Oq NN x:=by kernel_rfl
theorem am0:cF pX 225 ae2.er acx 1=true:=by decide+kernel
theorem arz:dd pX 225 Zh.M/\bP pX 225=true:=
  dw (args:=Jq) (aw:=Uy) (aD.cons S2<|aD.nil) cV am0 B3 fun x y h=>(ap8 aL x).trans (akc x y h)
def Qi:au:=⟨138,Jt,aoT,UB,vn⟩
def ae5:bt:=
 (ai [ab [mW 4],ab [U 7 0,cq 8 7,oX 9 (.iJ .aO iX 8 (0:Int) 8 8),U 5 9],ai [ab [U 10 0,cq 11 10,aV .sub 12 11 1,U 6 12],.join ⟨[bM 5 701 1],[cT 701]⟩ [700,701] [da 5 701] (.block 0 (.loop 0 ⟨[eE 0,aQ 1,bM 5 700 1,aQ 6],[cT 700]⟩ [9,700] [da 5 700] (ai [ai [ab [U 13 6,aV .geq 14 13 0],dX 14 0],.block 1 (ai [ab [U 17 5,U 18 6,U 19 1,U 20 0,U 21 6,bW 22 1 20 21,az 23 1 22,bB .rem 24 19 23,bW 25 1 17 18,fK 1 25 24],ab [U 26 1,U 27 0,U 28 6,bW 29 1 27 28,az 30 1 29,bB .quo 31 26 30,U 1 31]]),ab [U 15 6,aV .sub 16 15 1,U 6 16]])))],ab [U 32 5,U 4 32],.ret])
def acA:List bz:=[.tmp 4]
theorem aqb (NN:Nat) (x:ba (ak.aZ Jt)):dt NN [] ae5 acA Jt UB x=Ov NN x:=by kernel_rfl
theorem am3:cF pX 138 ae5.er acA 2=true:=by decide+kernel
theorem ac9:dd pX 138 Qi.M/\bP pX 138=true:=
  dw (args:=Jt) (aw:=UB) (aD.nil) cV am3 vn fun x y h=>(aqb aL x).trans (Yd x y h)
def Zs:au:=⟨226,JE,ao3,UM,zy⟩
def afg:bt:=
 (ai [ab [di 2 2 0,bE 4 0],ab [bE 5 0],ai [ab [U 8 1,cq 9 8,bE 10 0],.join ⟨[aQ 5,cB 2 2],[(2,.box [vX,.c (.v (.list [lX]))])]⟩ [2] [] (.block 0 (.loop 0 ⟨[cB 2 2,aQ 5,eE 8,aQ 9,aQ 10],[(2,.box [vX,.c (.v (.list [lX]))])]⟩ [2] [] (ai [ab [bB .lss 11 10 9],dX 11 0,.block 1 (ai [ab [U 12 10,bW 13 1 8 10,az 14 1 13,U 6 12,U 7 14],ab [U 15 5,aS 16 1 2,az 17 1 16,U 18 6,bW 19 1 17 18,az 20 1 19,U 21 7,bW 22 1 20 21,az 23 1 22,bB .add 24 15 23,U 5 24]]),ab [aV .add 25 10 1,U 10 25]])))],ab [U 26 5,aS 27 0 2,az 28 1 27,bB .rem 29 26 28,U 4 29],.ret])
def acL:List bz:=[.tmp 4]
theorem aqm (NN:Nat) (x:ba (ak.aZ JE)):dt NN [] afg acL JE UM x=OH NN x:=by kernel_rfl
theorem anf:cF pX 226 afg.er acL 2=true:=by decide+kernel
theorem arK:dd pX 226 Zs.M/\bP pX 226=true:=
  dw (args:=JE) (aw:=UM) (aD.nil) cV anf zy fun x y h=>(aqm aL x).trans (akp x y h)
def Zf:au:=⟨208,Jo,aoO,Uw,EX⟩
def ae0:bt:=
 (ai [ab [di 1 3 0,mW 2],ab [cH 4 3 1,bZ 5 193 [4],oX 6 (.iJ .aO iX 8 (0:Int) 5 5),U 3 6],ai [ab [aS 7 0 1,az 8 1 7,aV .eql 9 8 4],.join ⟨[bM 3 700 1],[cT 700]⟩ [1,6,700] [da 3 700] (.cond 9 (ab [U 10 3,aS 11 1 1,az 12 1 11,Wp 13 1 10 0,fK 1 13 12]) .skip)],ab [U 14 3,U 2 14],.ret])
def acv:List bz:=[.tmp 2]
theorem ap6 (NN:Nat) (x:ba (ak.aZ Jo)):dt NN [FM] ae0 acv Jo Uw x=Wk NN x:=by kernel_rfl
theorem amY:cF pX 208 ae0.er acv 1=true:=by decide+kernel
theorem arx:dd pX 208 Zf.M/\bP pX 208=true:=
  dw (args:=Jo) (aw:=Uw) (aD.cons L5<|aD.nil) cV amY EX fun x y h=>(ap6 aL x).trans (aka x y h)
def Zl:au:=⟨85,Jx,LQ,UF,zx⟩
def ae9:bt:=
 (ai [ab [di 4 3 0,di 5 3 1],ab [cH 10 3 4,bZ 11 193 [10],U 8 11],ab [U 12 3,cq 13 12,bE 14 0],.block 0 (.loop 0 ⟨[aQ 2,eE 3,cB 5 5,aQ 8,aQ 13,aQ 14],[(1000000,.row false .aO iX),eB 5 [cf,cf,fX 1000000 1]]⟩ [1000000,4,5,700] [gz 5 2 700] (ai [ab [bB .lss 15 14 13],dX 15 0,.block 1 (ai [ab [U 16 14,U 9 16],.ij true [aS 17 2 5,az 18 1 17,U 19 2,U 20 8,bB .mul 21 19 20,U 22 9,bB .add 23 21 22,U 24 3,U 25 9,bW 26 1 24 25,az 27 1 26,bW 28 1 18 23,fK 1 28 27]]),ab [aV .add 29 14 1,U 14 29]]))])
def acE:List bz:=[]
theorem aqf (NN:Nat) (x:ba (ak.aZ Jx)):wZ NN [FM] ae9 acE Jx LQ UF x=Oz NN x:=by kernel_rfl
theorem am7:cF pX 85 ae9.er acE 4=true:=by decide+kernel
theorem arD:rr pX 85 LQ Zl.MM/\bP pX 85=true:=
  A4 (args:=Jx) (mu:=LQ) (aw:=UF) (aD.cons L5<|aD.nil) cV am7 zx fun x y h=>(aqf aL x).trans (aki x y h)
def Y9:au:=⟨160,Jf,aoF,Um,B0⟩
def aeR:bt:=
 (ai [ab [di 3 3 0,di 4 3 1,di 5 2 2,qg 6 [.nil iX,.nil iX,.nil iX],cU 7],ai [ab [cH 10 3 3,cH 11 3 4,bZ 12 134 [10,11],gN 13 12,U 14 13,bI 14 (cH 15 3 4),bI 14 (cH 16 2 5),bI 14 (bZ 17 129 [15,16]),bI 14 (gN 18 17),iO 19 14 18],.cond 19 (ai [ab [oX 20 (.build [.nil iX,.nil iX,.nil iX] []),fK 3 6 20,cU 7],.ret]) .skip],ab [cH 21 3 4,bZ 22 225 [21],qg 8 [.nil iX,.nil iX,.nil iX],fK 3 8 22],ai [ab [bE 9 0],.join ⟨[cB 8 8,cB 6 6],[eB 6 [fX 706 1,fX 707 1,fX 708 1],eB 8 [fX 709 1,fX 710 1,fX 711 1],cT 706,cT 707,cT 708,cT 709,cT 710,cT 711]⟩ [3,4,5,6,8,700,701,702,703,704,705,706,707,708,709,710,711] [gz 6 0 706,gz 6 1 707,gz 6 2 708,gz 8 0 709,gz 8 1 710,gz 8 2 711] (.block 0 (.loop 0 ⟨[cB 3 3,cB 4 4,cB 5 5,cB 6 6,cB 8 8,aQ 9],[eB 3 [vX,vX,vX],eB 4 [cf,cf,cf],(5,.box [vX,.c (.v (.list [lX]))]),eB 6 [fX 700 1,fX 701 1,fX 702 1],eB 8 [fX 703 1,fX 704 1,fX 705 1],cT 700,cT 701,cT 702,cT 703,cT 704,cT 705]⟩ [3,4,5,6,23000,23001,23002,8,35000,42000,700,701,702,703,704,705] [gz 6 0 700,gz 6 1 701,gz 6 2 702,gz 8 0 703,gz 8 1 704,gz 8 2 705] (ai [ai [ab [U 23 9,aS 24 1 4,az 25 1 24,bZ 26 135 [25,(kX 4096)],bB .lss 27 23 26],dX 27 0],.block 1 (ai [.ij true [cH 30 2 5,aS 31 1 4,az 32 1 31,U 33 9,bZ 34 138 [32,33],bZ 35 226 [30,34],aV .neq 36 35 0],.cond 36 (.ij true [cH 37 3 3,cH 38 3 8,U 39 9,cH 40 3 3,bZ 41 208 [40],oX 42 (.hZ .aO 85 [37,38,39,41])]) .skip]),ab [U 28 9,aV .add 29 28 1,U 9 29]])))],ab [cH 43 3 8,fK 3 6 43,jN 7],.ret])
def ack:List bz:=[.cell 6 3 true,.tmp 7]
theorem apX (NN:Nat) (x:ba (ak.aZ Jf)):dt NN [Zd,Y8,Zh,Kw,Qi,Zs,Zf,Zl] aeR ack Jf Um x=Oh NN x:=by kernel_rfl
theorem amP:cF pX 160 aeR.er ack 3=true:=by decide+kernel
theorem arq:dd pX 160 Y9.M/\bP pX 160=true:=
  dw (args:=Jf) (aw:=Um) (aD.cons arv<|aD.cons arp<|aD.cons arz<|aD.cons S3<|aD.cons ac9<|aD.cons arK<|aD.cons arx<|aD.uo arD<|aD.nil) cV amP B0 fun x y h=>(apX aL x).trans (aj1 x y h)
def Zm:au:=⟨133,Jy,aoX,UG,xw⟩
def afa:bt:=
 (ai [ab [cU 4],ai [ab [U 7 0,cq 8 7,bE 9 0],.join ⟨[eE 0,eE 1],[]⟩ [] [] (.block 0 (.loop 0 ⟨[eE 0,eE 1,eE 7,aQ 8,aQ 9],[]⟩ [] [] (ai [ab [bB .lss 10 9 8],dX 10 0,.block 1 (ai [ab [U 11 9,bW 12 1 7 9,az 13 1 12,U 5 11,U 6 13],ab [U 14 5,U 15 1,cq 16 15,bB .geq 17 14 16,U 18 17,bI 18 (U 19 1),bI 18 (U 20 5),bI 18 (bW 21 1 19 20),bI 18 (az 22 1 21),bI 18 (U 23 6),bI 18 (bB .neq 24 22 23),iO 25 18 24],.cond 25 (ai [ab [cU 4],.ret]) .skip]),ab [aV .add 26 9 1,U 9 26]])))],ab [U 27 0,cq 28 27,U 29 1,cq 30 29,bB .eql 31 28 30,U 4 31],.ret])
def acF:List bz:=[.tmp 4]
theorem aqg (NN:Nat) (x:ba (ak.aZ Jy)):dt NN [] afa acF Jy UG x=OA NN x:=by kernel_rfl
theorem am8:cF pX 133 afa.er acF 2=true:=by decide+kernel
theorem arE:dd pX 133 Zm.M/\bP pX 133=true:=
  dw (args:=Jy) (aw:=UG) (aD.nil) cV am8 xw fun x y h=>(aqg aL x).trans (akj x y h)
def Za:au:=⟨121,Jg,aoG,Un,xr⟩
def aeS:bt:=
 (ai [ab [di 3 3 0,di 4 3 1,di 5 2 2,cU 6],ab [cH 10 3 3,cH 11 3 4,cH 12 2 5,bZ 13 160 [10,11,12],U 9 13,ud 14 0 9,ud 15 1 9,qg 7 [.nil iX,.nil iX,.nil iX],fK 3 7 14,U 8 15],ab [U 16 8,U 17 16,cQ 17 (aS 18 2 7),cQ 17 (az 19 1 18),cQ 17 (aS 20 2 4),cQ 17 (az 21 1 20),cQ 17 (bZ 22 133 [19,21]),jO 23 17 22,U 6 23],.ret])
def acm:List bz:=[.tmp 6]
theorem apY (NN:Nat) (x:ba (ak.aZ Jg)):dt NN [Y9,Zm] aeS acm Jg Un x=Oi NN x:=by kernel_rfl
theorem amQ:cF pX 121 aeS.er acm 3=true:=by decide+kernel
theorem ars:dd pX 121 Za.M/\bP pX 121=true:=
  dw (args:=Jg) (aw:=Un) (aD.cons arq<|aD.cons arE<|aD.nil) cV amQ xr fun x y h=>(apY aL x).trans (aj2 x y h)
def Qj:au:=⟨152,JF,ao4,UN,xy⟩
def afh:bt:=
 (ai [ab [mW 4],ab [oX 8 (.ft iX []),U 5 8],ai [ab [U 9 0,cq 10 9,bE 11 0],.join ⟨[bM 5 701 1],[cT 701]⟩ [700,701] [da 5 701] (.block 0 (.loop 0 ⟨[aQ 1,bM 5 700 1,eE 9,aQ 10,aQ 11],[cT 700]⟩ [8,21,22,700] [da 5 700] (ai [ab [bB .lss 12 11 10],dX 12 0,.block 1 (ai [ab [U 13 11,bW 14 1 9 11,az 15 1 14,U 6 13,U 7 15],ab [U 16 7,U 17 1,bB .eql 18 16 17],.cond 18 (ab [U 19 5,U 20 6,oX 21 (.ft iX [20]),oX 22 (.append true iX 8 19 21),U 5 22]) .skip]),ab [aV .add 23 11 1,U 11 23]])))],ab [U 24 5,U 4 24],.ret])
def acM:List bz:=[.tmp 4]
theorem aqn (NN:Nat) (x:ba (ak.aZ JF)):dt NN [] afh acM JF UN x=OI NN x:=by kernel_rfl
theorem ang:cF pX 152 afh.er acM 2=true:=by decide+kernel
theorem ada:dd pX 152 Qj.M/\bP pX 152=true:=
  dw (args:=JF) (aw:=UN) (aD.nil) cV ang xy fun x y h=>(aqn aL x).trans (akq x y h)
def Zq:au:=⟨130,JC,ao1,UK,B7⟩
def afe:bt:=
 (ai [ab [di 1 2 0,oX 2 (.mv (.k (.one (.nil [lX]))))],ab [oX 16 (.ft iX []),oX 17 (.ft [lX] [16]),U 3 17],ai [ab [aS 18 1 1,az 19 1 18,cq 20 19,bE 21 0],.join ⟨[bM 3 709 1,cB 1 1],[(1,.box [vX,.c (.v (.list [lX]))]),(709,.row true .aO [lX])]⟩ [1,700,709] [da 3 709] (.block 0 (.loop 0 ⟨[cB 1 1,bM 3 700 1,(19,.one (.c (.v (.list [lX])))),aQ 20,aQ 21],[(1,.box [vX,.c (.v (.list [lX]))]),(700,.row true .aO [lX])]⟩ [1,17,700,708] [da 3 700] (ai [ab [bB .lss 22 21 20],dX 22 0,.join ⟨[aQ 21,cB 1 1,bM 3 708 1,(19,.one (.c (.v (.list [lX])))),aQ 20],[(1,.box [vX,.c (.v (.list [lX]))]),(708,.row true .aO [lX])]⟩ [1,707,708] [da 3 708] (.block 1 (ai [ab [bW 23 1 19 21,az 24 1 23,U 5 24],ab [oX 25 (.ft [lX] []),U 6 25],ai [ab [U 26 3,cq 27 26,bE 28 0],.join ⟨[bM 6 707 1,aQ 21,cB 1 1,(19,.one (.c (.v (.list [lX])))),aQ 20],[(1,.box [vX,.c (.v (.list [lX]))]),(707,.row true .aO [lX])]⟩ [1,701,702,707] [da 6 707] (.block 2 (.loop 0 ⟨[cB 1 1,eE 5,bM 6 701 1,(19,.one (.c (.v (.list [lX])))),aQ 20,aQ 21,bM 26 702 1,aQ 27,aQ 28],[(1,.box [vX,.c (.v (.list [lX]))]),(701,.row true .aO [lX]),(702,.row true .aO [lX])]⟩ [1,25,700,701,702,705,706] [da 6 701,da 26 702] (ai [ab [bB .lss 29 28 27],dX 29 2,.join ⟨[aQ 28,cB 1 1,eE 5,bM 6 705 1,(19,.one (.c (.v (.list [lX])))),aQ 20,aQ 21,bM 26 706 1,aQ 27],[(1,.box [vX,.c (.v (.list [lX]))]),(705,.row true .aO [lX]),(706,.row true .aO [lX])]⟩ [1,703,704,705,706] [da 6 705,da 26 706] (.block 3 (ai [ab [bW 30 1 26 28,az 31 1 30,U 8 31],ab [bE 9 0],.block 4 (.loop 0 ⟨[cB 1 1,eE 5,bM 6 703 1,eE 8,aQ 9,(19,.one (.c (.v (.list [lX])))),aQ 20,aQ 21,bM 26 704 1,aQ 27,aQ 28],[(1,.box [vX,.c (.v (.list [lX]))]),(703,.row true .aO [lX]),(704,.row true .aO [lX])]⟩ [1,41000,47,50,701,702,703,704] [da 6 703,da 26 704] (ai [ai [ab [U 32 9,aS 33 0 1,az 34 1 33,bB .lss 35 32 34],dX 35 4],.block 5 (ai [ab [U 38 5,U 39 9,bZ 40 152 [38,39],cq 41 40,aV .gtr 42 41 0],.cond 42 (ab [U 43 6,U 44 8,bZ 45 181 [44],U 46 9,oX 47 (.ft iX [46]),oX 48 (.append true iX 8 45 47),oX 49 (.ft [lX] [48]),oX 50 (.append false [lX] 24 43 49),U 6 50]) .skip]),ab [U 36 9,aV .add 37 36 1,U 9 37]]))])),ab [aV .add 51 28 1,U 28 51]])))],ab [U 52 6,U 3 52]])),ab [aV .add 53 21 1,U 21 53]])))],ab [oX 54 (.ft [lX] []),U 10 54],ai [ab [U 55 3,cq 56 55,bE 57 0],.join ⟨[bM 10 718 1],[(718,.row true .aI [lX])]⟩ [1,710,711,718] [(false,10,0,718,.aI,[])] (.block 6 (.loop 0 ⟨[cB 1 1,bM 10 710 1,bM 55 711 1,aQ 56,aQ 57],[(1,.box [vX,.c (.v (.list [lX]))]),(710,.row true .aI [lX]),(711,.row true .aO [lX])]⟩ [1,54,709,710,711,716,717] [(false,10,0,710,.aI,[]),da 55 711] (ai [ab [bB .lss 58 57 56],dX 58 6,.join ⟨[aQ 57,cB 1 1,bM 10 716 1,bM 55 717 1,aQ 56],[(1,.box [vX,.c (.v (.list [lX]))]),(716,.row true .aI [lX]),(717,.row true .aO [lX])]⟩ [1,79,714,715,716,717] [(false,10,0,716,.aI,[]),da 55 717] (.block 7 (ai [ab [bW 59 1 55 57,az 60 1 59,U 12 60],ab [bE 13 0],ai [ab [U 61 12,cq 62 61,bE 63 0],.join ⟨[aQ 13,eE 12,aQ 57,cB 1 1,bM 10 714 1,bM 55 715 1,aQ 56],[(1,.box [vX,.c (.v (.list [lX]))]),(714,.row true .aI [lX]),(715,.row true .aO [lX])]⟩ [1,712,713,714,715] [(false,10,0,714,.aI,[]),da 55 715] (.block 8 (.loop 0 ⟨[cB 1 1,bM 10 712 1,eE 12,aQ 13,bM 55 713 1,aQ 56,aQ 57,eE 61,aQ 62,aQ 63],[(1,.box [vX,.c (.v (.list [lX]))]),(712,.row true .aI [lX]),(713,.row true .aO [lX])]⟩ [1,710,711,712,713] [(false,10,0,712,.aI,[]),da 55 713] (ai [ab [bB .lss 64 63 62],dX 64 8,.block 9 (ai [ab [bW 65 1 61 63,az 66 1 65,U 15 66],ab [U 67 13,U 68 15,bB .add 69 67 68,U 13 69]]),ab [aV .add 70 63 1,U 63 70]])))],ab [U 71 13,aS 72 0 1,az 73 1 72,bB .rem 74 71 73,aV .eql 75 74 0],.cond 75 (ab [U 76 10,U 77 12,oX 78 (.ft [lX] [77]),oX 79 (.append false [lX] 24 76 78),U 10 79]) .skip])),ab [aV .add 80 57 1,U 57 80]])))],ab [U 81 10,U 2 81],.ret])
def acJ:List bz:=[.tmp 2]
theorem aqk (NN:Nat) (x:ba (ak.aZ JC)):Mi NN [Qj,Kv] afe acJ JC UK x=OE NN x:=by kernel_rfl
theorem anc:cF pX 130 afe.er acJ 1=true:=by decide+kernel
theorem arI:zD pX 130 Zq.MV/\bP pX 130=true:=
  agI (args:=JC) (aw:=UK) (aD.cons ada<|aD.cons S2<|aD.nil) cV anc B7 fun x y h=>(aqk aL x).trans (akn x y h)
def Zr:au:=⟨132,JD,ao2,UL,B8⟩
def aff:bt:=
 (ai [ab [di 2 2 0,oX 4 (.mv (.k (.one (.nil [lX])))),mW 5],ab [oX 11 (.ft [lX] []),U 6 11],ab [oX 12 (.ft iX []),U 7 12],ai [ab [U 13 1,cq 14 13,bE 15 0],.join ⟨[bM 6 702 1,bM 7 703 1],[(702,.row true .aO [lX]),cT 703]⟩ [2,700,701,702,703] [da 6 702,da 7 703] (.block 0 (.loop 0 ⟨[cB 2 2,bM 6 700 1,bM 7 701 1,eE 13,aQ 14,aQ 15],[(2,.box [vX,.c (.v (.list [lX]))]),(700,.row true .aO [lX]),cT 701]⟩ [2,11,12,30,34,35,700,701] [da 6 700,da 7 701] (ai [ab [bB .lss 16 15 14],dX 16 0,.block 1 (ai [ab [U 17 15,bW 18 1 13 15,az 19 1 18,U 8 17,U 9 19],ab [aS 20 1 2,az 21 1 20,U 22 8,bW 23 1 21 22,az 24 1 23,U 25 9,bZ 26 152 [24,25],U 10 26],.tE [.op (oX 27 (.mv 6)),.op (oX 28 (.mv 10)),.pu 29 (.vD 28 10),.op (oX 30 (.append false [lX] 24 27 29)),.op (oX 6 (.mv 30))],ab [U 31 7,U 32 10,cq 33 32,oX 34 (.ft iX [33]),oX 35 (.append true iX 8 31 34),U 7 35]]),ab [aV .add 36 15 1,U 15 36]])))],ab [U 37 6,U 38 7,U 4 37,U 5 38],.ret])
def acK:List bz:=[.tmp 4,.tmp 5]
theorem aql (NN:Nat) (x:ba (ak.aZ JD)):dt NN [Qj] aff acK JD UL x=OG NN x:=by kernel_rfl
theorem ane:cF pX 132 aff.er acK 2=true:=by decide+kernel
theorem arJ:dd pX 132 Zr.M/\bP pX 132=true:=
  dw (args:=JD) (aw:=UL) (aD.cons ada<|aD.nil) cV ane B8 fun x y h=>(aql aL x).trans (ako x y h)
def Zn:au:=⟨137,Jz,aoY,UH,B4⟩
def afb:bt:=
 (ai [ab [mW 4],ab [oX 8 (.ft iX []),U 5 8],ai [ab [U 9 1,cq 10 9,bE 11 0],.join ⟨[bM 5 701 1],[cT 701]⟩ [700,701] [da 5 701] (.block 0 (.loop 0 ⟨[(0,.one (.c (.v (.list [lX])))),bM 5 700 1,eE 9,aQ 10,aQ 11],[cT 700]⟩ [8,24,25,700] [da 5 700] (ai [ab [bB .lss 12 11 10],dX 12 0,.block 1 (ai [ab [U 13 11,bW 14 1 9 11,az 15 1 14,U 6 13,U 7 15],ab [U 16 5,U 17 0,U 18 6,bW 19 1 17 18,az 20 1 19,U 21 7,bW 22 1 20 21,az 23 1 22,oX 24 (.ft iX [23]),oX 25 (.append true iX 8 16 24),U 5 25]]),ab [aV .add 26 11 1,U 11 26]])))],ab [U 27 5,U 4 27],.ret])
def acG:List bz:=[.tmp 4]
theorem aqh (NN:Nat) (x:ba (ak.aZ Jz)):dt NN [] afb acG Jz UH x=OB NN x:=by kernel_rfl
theorem am9:cF pX 137 afb.er acG 2=true:=by decide+kernel
theorem arF:dd pX 137 Zn.M/\bP pX 137=true:=
  dw (args:=Jz) (aw:=UH) (aD.nil) cV am9 B4 fun x y h=>(aqh aL x).trans (akk x y h)
def Zk:au:=⟨136,Jv,aoV,UD,xv⟩
def ae7:bt:=
 (ai [ab [bE 4 0],ab [bE 5 0],ai [ab [U 8 0,cq 9 8,bE 10 0],.join ⟨[aQ 5],[]⟩ [] [] (.block 0 (.loop 0 ⟨[eE 1,aQ 5,eE 8,aQ 9,aQ 10],[]⟩ [] [] (ai [ab [bB .lss 11 10 9],dX 11 0,.block 1 (ai [ab [U 12 10,bW 13 1 8 10,az 14 1 13,U 6 12,U 7 14],ab [U 15 5,U 16 7,bB .mul 17 15 16,U 18 1,U 19 6,bW 20 1 18 19,az 21 1 20,bB .add 22 17 21,U 5 22]]),ab [aV .add 23 10 1,U 10 23]])))],ab [U 24 5,U 4 24],.ret])
def acC:List bz:=[.tmp 4]
theorem aqd (NN:Nat) (x:ba (ak.aZ Jv)):dt NN [] ae7 acC Jv UD x=Ox NN x:=by kernel_rfl
theorem am5:cF pX 136 ae7.er acC 2=true:=by decide+kernel
theorem arC:dd pX 136 Zk.M/\bP pX 136=true:=
  dw (args:=Jv) (aw:=UD) (aD.nil) cV am5 xv fun x y h=>(aqd aL x).trans (akg x y h)
def Zj:au:=⟨139,Js,aoS,UA,vm⟩
def ae4:bt:=
 (ai [ab [di 3 3 0,di 4 3 1,mW 6],ab [cH 8 3 3,bZ 9 193 [8],U 7 9],ab [oX 10 (.ft iX []),aS 11 2 4,az 12 1 11,U 13 2,U 14 7,bB .mul 15 13 14,U 16 2,U 17 7,bB .mul 18 16 17,U 19 7,bB .add 20 18 19,oX 21 (.slice 1 12 (some 15) (some 20)),oX 22 (.append true iX 8 10 21),U 6 22],.ret])
def acz:List bz:=[.tmp 6]
theorem aqa (NN:Nat) (x:ba (ak.aZ Js)):dt NN [FM] ae4 acz Js UA x=Ou NN x:=by kernel_rfl
theorem am2:cF pX 139 ae4.er acz 3=true:=by decide+kernel
theorem arB:dd pX 139 Zj.M/\bP pX 139=true:=
  dw (args:=Js) (aw:=UA) (aD.cons L5<|aD.nil) cV am2 vm fun x y h=>(aqa aL x).trans (ake x y h)
def Zo:au:=⟨216,JA,aoZ,UI,B5⟩
def afc:bt:=
 (ai [ab [di 4 3 0,di 5 3 1,di 6 2 2,qg 8 [.nil iX,.nil iX,.nil iX,.nil iX]],ab [cH 14 2 6,U 15 3,bZ 16 132 [14,15],U 13 16,ud 17 0 13,ud 18 1 13,U 9 17,U 10 18],ab [aS 19 0 5,az 20 1 19,bZ 21 181 [20],U 22 10,oX 23 (.build [.nil iX,.nil iX,.nil iX] [(0,1,21),(1,1,22)]),qg 11 [.nil iX,.nil iX,.nil iX],fK 3 11 23],ai [ab [bE 12 0],.join ⟨[eE 3,cB 11 11,cB 8 8],[eB 8 [fX 708 1,fX 709 1,fX 710 1,fX 711 1],eB 11 [fX 712 1,fX 713 1,fX 714 1],cT 708,cT 709,cT 710,cT 711,cT 712,cT 713,cT 714]⟩ [4,5,8,11,700,701,702,703,704,705,706,707,708,709,710,711,712,713,714] [gz 8 0 708,gz 8 1 709,gz 8 2 710,gz 8 3 711,gz 11 0 712,gz 11 1 713,gz 11 2 714] (.block 0 (.loop 0 ⟨[eE 3,cB 4 4,cB 5 5,cB 8 8,bM 9 707 1,bM 10 705 1,cB 11 11,aQ 12],[eB 4 [vX,vX,vX],eB 5 [cf,cf,cf],eB 8 [fX 700 1,fX 701 1,fX 702 1,fX 703 1],eB 11 [fX 704 1,fX 705 1,fX 706 1],cT 700,cT 701,cT 702,cT 703,cT 704,cT 705,cT 706,(707,.row true .aO [lX])]⟩ [4,5,6,8,17000,17001,22000,11,40000,41000,43000,43,700,701,702,703,704,705,706,707] [gz 8 0 700,gz 8 1 701,gz 8 2 702,gz 8 3 703,gz 11 0 704,gz 11 1 705,gz 11 2 706,da 9 707] (ai [ai [ab [U 24 12,U 25 10,bZ 26 135 [25,(kX 4096)],bB .lss 27 24 26],dX 27 0],.block 1 (.ij true [aS 30 2 11,az 31 1 30,cH 32 3 4,cH 33 3 5,aS 34 1 5,az 35 1 34,U 36 9,U 37 10,U 38 12,bZ 39 138 [37,38],bZ 40 137 [36,39],bZ 41 136 [35,40],bZ 42 139 [32,33,41],oX 43 (.append true iX 8 31 42),aS 44 2 11,fK 1 44 43]),ab [U 28 12,aV .add 29 28 1,U 12 29]])))],.ij true [U 45 3,bZ 46 181 [45],cH 47 3 11,oX 48 (.build [.nil iX,.nil iX,.nil iX,.nil iX] [(0,1,46),(1,3,47)]),fK 4 8 48],.ret])
def acH:List bz:=[.cell 8 4 true]
theorem aqi (NN:Nat) (x:ba (ak.aZ JA)):dt NN [Zr,Kv,Kw,Qi,Zn,Zk,Zj] afc acH JA UI x=OC NN x:=by kernel_rfl
theorem ana:cF pX 216 afc.er acH 4=true:=by decide+kernel
theorem arG:dd pX 216 Zo.M/\bP pX 216=true:=
  dw (args:=JA) (aw:=UI) (aD.cons arJ<|aD.cons S2<|aD.cons S3<|aD.cons ac9<|aD.cons arF<|aD.cons arC<|aD.cons arB<|aD.nil) cV ana B5 fun x y h=>(aqi aL x).trans (akl x y h)
def Zp:au:=⟨122,JB,ao0,UJ,B6⟩
def afd:bt:=
 (ai [ab [di 3 3 0,di 4 3 1,di 5 2 2,oX 6 (.mv (.k (.one (.nil [lX,lX,lX,lX]))))],ab [oX 10 (.ft [lX,lX,lX,lX] []),U 7 10],ai [ab [cH 11 2 5,aXj 12 130 [11],cq 13 12,bE 14 0],.join ⟨[bM 7 701 4],[(701,.row true .aO [lX,lX,lX,lX])]⟩ [3,4,5,700,701] [da 7 701] (.block 0 (.loop 0 ⟨[cB 3 3,cB 4 4,cB 5 5,bM 7 700 4,(12,.one (.c (.v (.list [lX])))),aQ 13,aQ 14],[eB 3 [vX,vX,vX],eB 4 [cf,cf,cf],(5,.box [vX,.c (.v (.list [lX]))]),(700,.row true .aO [lX,lX,lX,lX])]⟩ [3,4,5,10,25,700] [da 7 700] (ai [ab [bB .lss 15 14 13],dX 15 0,.block 1 (ai [ab [bW 16 1 12 14,az 17 1 16,U 9 17],ab [U 18 7,cH 19 3 3,cH 20 3 4,cH 21 2 5,U 22 9,bZ 23 216 [19,20,21,22],oX 24 (.ft [lX,lX,lX,lX] [23]),oX 25 (.append false [lX,lX,lX,lX] 96 18 24),U 7 25]]),ab [aV .add 26 14 1,U 14 26]])))],ab [U 27 7,U 6 27],.ret])
def acI:List bz:=[.tmp 6]
theorem aqj (NN:Nat) (x:ba (ak.aZ JB)):dt NN [Zq,Zo] afd acI JB UJ x=OD NN x:=by kernel_rfl
theorem anb:cF pX 122 afd.er acI 3=true:=by decide+kernel
theorem arH:dd pX 122 Zp.M/\bP pX 122=true:=
  dw (args:=JB) (aw:=UJ) (aD.PD arI<|aD.cons arG<|aD.nil) cV anb B6 fun x y h=>(aqj aL x).trans (akm x y h)
def Y7:au:=⟨45,Jd,aoD,Uk,xp⟩
def aeP:bt:=
 (ai [ab [di 3 3 0,di 4 3 1,di 5 2 2,oX 6 (.mv (.k (.one (.nil [lX,lX,lX,lX])))),cU 7],ai [ab [cH 8 3 3,cH 9 3 4,cH 10 2 5,bZ 11 121 [8,9,10],gN 12 11],.cond 12 (ai [ab [oX 6 (.mv (.k (.one (.nil [lX,lX,lX,lX])))),cU 7],.ret]) .skip],ab [cH 13 3 3,cH 14 3 4,cH 15 2 5,bZ 16 122 [13,14,15],U 6 16,jN 7],.ret])
def aci:List bz:=[.tmp 6,.tmp 7]
theorem apV (NN:Nat) (x:ba (ak.aZ Jd)):dt NN [Za,Zp] aeP aci Jd Uk x=Of NN x:=by kernel_rfl
theorem amN:cF pX 45 aeP.er aci 3=true:=by decide+kernel
theorem aro:dd pX 45 Y7.M/\bP pX 45=true:=
  dw (args:=Jd) (aw:=Uk) (aD.cons ars<|aD.cons arH<|aD.nil) cV amN xp fun x y h=>(apV aL x).trans (ajZ x y h)
def YB:au:=⟨184,Iq,an0,Tz,xk⟩
def ad6:bt:=
 (ai [ab [cU 2],ai [ab [U 4 0,aV .lss 5 4 2,U 6 5,bI 6 (U 7 0),bI 6 (aV .gtr 8 7 1000003),iO 9 6 8],.cond 9 (ai [ab [cU 2],.ret]) .skip],ai [ab [bE 3 2],.join ⟨[],[]⟩ [] [] (.block 0 (.loop 0 ⟨[aQ 0,aQ 3],[]⟩ [] [] (ai [ai [ab [U 10 3,U 11 3,bB .mul 12 10 11,U 13 0,bB .leq 14 12 13],dX 14 0],.block 1 (ai [ab [U 17 0,U 18 3,bB .rem 19 17 18,aV .eql 20 19 0],.cond 20 (ai [ab [cU 2],.ret]) .skip]),ab [U 15 3,aV .add 16 15 1,U 3 16]])))],ab [jN 2],.ret])
def aby:List bz:=[.tmp 2]
theorem ao9 (NN:Nat) (x:ba (ak.aZ Iq)):dt NN [] ad6 aby Iq Tz x=NC NN x:=by kernel_rfl
theorem al4:cF pX 184 ad6.er aby 1=true:=by decide+kernel
theorem aqP:dd pX 184 YB.M/\bP pX 184=true:=
  dw (args:=Iq) (aw:=Tz) (aD.nil) cV al4 xk fun x y h=>(ao9 aL x).trans (ajj x y h)
def YC:au:=⟨119,Ir,an1,TA,BF⟩
def ad7:bt:=
 (ai [ab [di 1 3 0,cU 2],ai [ab [aS 3 0 1,az 4 1 3],.block 0 (ai [ab [aV .eql 6 4 1,U 5 6],.cond 5 (ai [ab [aS 7 1 1,az 8 1 7,aV .eql 9 8 0,U 10 9,cQ 10 (aS 11 2 1),cQ 10 (az 12 1 11),cQ 10 (aV .eql 13 12 0),jO 14 10 13,U 2 14],.ret]) (ai [ab [aV .eql 16 4 2,U 15 16],.cond 15 (ai [ab [aS 17 1 1,az 18 1 17,bZ 19 184 [18],U 20 19,cQ 20 (aS 21 2 1),cQ 20 (az 22 1 21),cQ 20 (aV .eql 23 22 0),jO 24 20 23,U 2 24],.ret]) (ai [ai [ab [aV .eql 26 4 3,U 25 26],.join ⟨[(25,.one (.c (.v (.bool)))),aQ 4,cB 1 1],[eB 1 [vX,vX,vX]]⟩ [1] [] (.cond 25 .skip (ai [ab [aV .eql 27 4 4,U 25 27],.cond 25 .skip (ab [aV .eql 28 4 5,U 25 28])]))],.cond 25 (ai [ab [aS 29 1 1,az 30 1 29,aV .geq 31 30 1,U 32 31,cQ 32 (aS 33 1 1),cQ 32 (az 34 1 33),cQ 32 (aV .leq 35 34 1000000),jO 36 32 35,U 37 36,cQ 37 (aS 38 2 1),cQ 37 (az 39 1 38),cQ 37 (aV .eql 40 39 0),jO 41 37 40,U 2 41],.ret]) (ai [ab [aV .eql 43 4 6,U 42 43],.cond 42 (ai [ab [aS 44 1 1,az 45 1 44,aV .eql 46 45 0,U 47 46,cQ 47 (aS 48 2 1),cQ 47 (az 49 1 48),cQ 47 (aV .geq 50 49 1),jO 51 47 50,U 52 51,cQ 52 (aS 53 2 1),cQ 52 (az 54 1 53),cQ 52 (aV .leq 55 54 20),jO 56 52 55,U 2 56],.ret]) (ai [ab [aV .eql 58 4 7,U 57 58],.cond 57 (ai [ab [aS 59 1 1,az 60 1 59,bZ 61 184 [60],U 62 61,cQ 62 (aS 63 2 1),cQ 62 (az 64 1 63),cQ 62 (aV .geq 65 64 1),jO 66 62 65,U 67 66,cQ 67 (aS 68 2 1),cQ 67 (az 69 1 68),cQ 67 (aV .leq 70 69 6),jO 71 67 70,U 2 71],.ret]) (ai [ab [aV .eql 73 4 8,U 72 73],.cond 72 (ai [ab [aS 74 1 1,az 75 1 74,bZ 76 184 [75],U 77 76,cQ 77 (aS 78 1 1),cQ 77 (az 79 1 78),cQ 77 (aV .neq 80 79 2),jO 81 77 80,U 82 81,cQ 82 (aS 83 2 1),cQ 82 (az 84 1 83),cQ 82 (aV .eql 85 84 0),jO 86 82 85,U 2 86],.ret]) .skip])])])])])])],ab [cU 2],.ret])
def abz:List bz:=[.tmp 2]
theorem apa (NN:Nat) (x:ba (ak.aZ Ir)):dt NN [YB] ad7 abz Ir TA x=ND NN x:=by kernel_rfl
theorem al5:cF pX 119 ad7.er abz 1=true:=by decide+kernel
theorem aqQ:dd pX 119 YC.M/\bP pX 119=true:=
  dw (args:=Ir) (aw:=TA) (aD.cons aqP<|aD.nil) cV al5 BF fun x y h=>(apa aL x).trans (ajk x y h)
def P9:au:=⟨217,Iz,an9,TJ,vk⟩
def aef:bt:=
 (ai [ab [cU 4],ai [ab [U 7 0,cq 8 7,bE 9 0],.join ⟨[],[]⟩ [] [] (.block 0 (.loop 0 ⟨[aQ 1,eE 7,aQ 8,aQ 9],[]⟩ [] [] (ai [ab [bB .lss 10 9 8],dX 10 0,.block 1 (ai [ab [bW 11 1 7 9,az 12 1 11,U 6 12],ab [U 13 1,U 14 6,bB .eql 15 13 14],.cond 15 (ai [ab [jN 4],.ret]) .skip]),ab [aV .add 16 9 1,U 9 16]])))],ab [cU 4],.ret])
def abH:List bz:=[.tmp 4]
theorem api (NN:Nat) (x:ba (ak.aZ Iz)):dt NN [] aef abH Iz TJ x=NL NN x:=by kernel_rfl
theorem amd:cF pX 217 aef.er abH 2=true:=by decide+kernel
theorem ac0:dd pX 217 P9.M/\bP pX 217=true:=
  dw (args:=Iz) (aw:=TJ) (aD.nil) cV amd vk fun x y h=>(api aL x).trans (ajs x y h)
def P8:au:=⟨165,It,an3,TC,xl⟩
def ad9:bt:=
 (ai [ab [di 1 3 0,bE 2 0],ai [ab [aS 7 0 1,az 8 1 7,cq 9 8,aV .gtr 10 9 12,U 11 10,bI 11 (aS 12 0 1),bI 11 (az 13 1 12),bI 11 (cq 14 13),bI 11 (aS 15 1 1),bI 11 (az 16 1 15),bI 11 (cq 17 16),bI 11 (bB .neq 18 14 17),iO 19 11 18],.cond 19 (ai [ab [bE 2 (-1)],.ret]) .skip],ab [bE 3 1],ai [ab [aS 20 0 1,az 21 1 20,cq 22 21,bE 23 0],.join ⟨[aQ 3],[]⟩ [1] [] (.block 0 (.loop 0 ⟨[cB 1 1,aQ 3,eE 21,aQ 22,aQ 23],[eB 1 [cf,cf,cf]]⟩ [1] [] (ai [ab [bB .lss 24 23 22],dX 24 0,.block 1 (ai [ab [U 25 23,bW 26 1 21 23,az 27 1 26,U 4 25,U 5 27],ai [ab [U 28 5,aV .lss 29 28 0,U 30 29,bI 30 (U 31 5),bI 30 (aV .gtr 32 31 99),iO 33 30 32,U 34 33,bI 34 (aS 35 0 1),bI 34 (az 36 1 35),bI 34 (U 37 4),bI 34 (oX 38 (.slice 1 36 none (some 37))),bI 34 (U 39 5),bI 34 (bZ 40 217 [38,39]),iO 41 34 40],.cond 41 (ai [ab [bE 2 (-1)],.ret]) .skip],ab [aS 42 1 1,az 43 1 42,U 44 4,bW 45 1 43 44,az 46 1 45,U 6 46],ai [ab [U 47 6,aV .lss 48 47 1,U 49 48,bI 49 (U 50 6),bI 49 (aV .gtr 51 50 8),iO 52 49 51,U 53 52,bI 53 (U 54 3),bI 53 (U 55 6),bI 53 (bB .mul 56 54 55),bI 53 (aV .gtr 57 56 4096),iO 58 53 57],.cond 58 (ai [ab [bE 2 (-1)],.ret]) .skip],ab [U 59 3,U 60 6,bB .mul 61 59 60,U 3 61]]),ab [aV .add 62 23 1,U 23 62]])))],ab [U 63 3,U 2 63],.ret])
def abB:List bz:=[.tmp 2]
theorem apc (NN:Nat) (x:ba (ak.aZ It)):dt NN [P9] ad9 abB It TC x=NF NN x:=by kernel_rfl
theorem al7:cF pX 165 ad9.er abB 1=true:=by decide+kernel
theorem acZ:dd pX 165 P8.M/\bP pX 165=true:=
  dw (args:=It) (aw:=TC) (aD.cons ac0<|aD.nil) cV al7 xl fun x y h=>(apc aL x).trans (ajm x y h)
def Kr:au:=⟨170,II,aoh,TS,tO⟩
def aeo:bt:=
 (ai [ab [di 1 3 0,bE 2 0],ai [ab [aS 3 0 1,az 4 1 3],.block 0 (ai [ab [aV .eql 6 4 7,U 5 6],.cond 5 (ai [ab [aS 7 2 1,az 8 1 7,U 2 8],.ret]) (ai [ab [aV .eql 10 4 8,U 9 10],.cond 9 (ai [ab [bE 2 4],.ret]) .skip])])],ab [bE 2 1],.ret])
def abQ:List bz:=[.tmp 2]
theorem aps (NN:Nat) (x:ba (ak.aZ II)):dt NN [] aeo abQ II TS x=NT NN x:=by kernel_rfl
theorem amm:cF pX 170 aeo.er abQ 1=true:=by decide+kernel
theorem SZ:dd pX 170 Kr.M/\bP pX 170=true:=
  dw (args:=II) (aw:=TS) (aD.nil) cV amm tO fun x y h=>(aps aL x).trans (Yb x y h)
def YO:au:=⟨201,IH,aog,TR,BN⟩
def aen:bt:=
 (ai [ab [di 1 3 0,bE 2 0],ai [ab [aS 3 0 1,az 4 1 3],.block 0 (ai [ab [aV .eql 6 4 1,U 5 6],.cond 5 (ai [ab [bE 2 1],.ret]) (ai [ai [ab [aV .eql 8 4 3,U 7 8],.join ⟨[(7,.one (.c (.v (.bool)))),aQ 4,cB 1 1],[eB 1 [vX,vX,vX]]⟩ [1] [] (.cond 7 .skip (ai [ab [aV .eql 9 4 4,U 7 9],.cond 7 .skip (ab [aV .eql 10 4 5,U 7 10])]))],.cond 7 (ai [ab [aS 11 1 1,az 12 1 11,U 2 12],.ret]) (ai [ab [aV .eql 14 4 6,U 13 14],.cond 13 (ai [ab [aS 15 2 1,az 16 1 15,oX 17 (.bin .shl (kX 1) 16),aV .sub 18 17 1,U 2 18],.ret]) .skip])])])],ab [aS 19 1 1,az 20 1 19,aV .sub 21 20 1,U 2 21],.ret])
def abP:List bz:=[.tmp 2]
theorem apr (NN:Nat) (x:ba (ak.aZ IH)):dt NN [] aen abP IH TR x=Wa NN x:=by kernel_rfl
theorem aml:cF pX 201 aen.er abP 1=true:=by decide+kernel
theorem aq2:dd pX 201 YO.M/\bP pX 201=true:=
  dw (args:=IH) (aw:=TR) (aD.nil) cV aml BN fun x y h=>(apr aL x).trans (Ya x y h)
def YK:au:=⟨220,IB,aob,TL,BK⟩
def aeh:bt:=
 (ai [ab [di 2 3 0,cU 4],ab [cH 8 3 2,bZ 9 201 [8],U 5 9],ai [ab [U 10 1,cq 11 10,bE 12 0],.join ⟨[],[]⟩ [] [] (.block 0 (.loop 0 ⟨[aQ 5,eE 10,aQ 11,aQ 12],[]⟩ [2] [] (ai [ab [bB .lss 13 12 11],dX 13 0,.block 1 (ai [ab [bW 14 1 10 12,az 15 1 14,U 7 15],ab [U 16 7,aV .lss 17 16 0,U 18 17,bI 18 (U 19 7),bI 18 (U 20 5),bI 18 (bB .gtr 21 19 20),iO 22 18 21],.cond 22 (ai [ab [cU 4],.ret]) .skip]),ab [aV .add 23 12 1,U 12 23]])))],ab [jN 4],.ret])
def abJ:List bz:=[.tmp 4]
theorem apk (NN:Nat) (x:ba (ak.aZ IB)):dt NN [YO] aeh abJ IB TL x=NO NN x:=by kernel_rfl
theorem amf:cF pX 220 aeh.er abJ 2=true:=by decide+kernel
theorem aqY:dd pX 220 YK.M/\bP pX 220=true:=
  dw (args:=IB) (aw:=TL) (aD.cons aq2<|aD.nil) cV amf BK fun x y h=>(apk aL x).trans (aju x y h)
def YD:au:=⟨141,Is,an2,TB,BG⟩
def ad8:bt:=
 (ai [ab [di 2 3 0,di 3 3 1,cU 4],ai [ab [cH 6 3 2,bZ 7 119 [6],gN 8 7],.cond 8 (ai [ab [cU 4],.ret]) .skip],ab [cH 9 3 3,bZ 10 165 [9],U 5 10],.ij true [U 11 5,aV .neq 12 11 (-1),U 13 12,cQ 13 (aS 14 2 3),cQ 13 (az 15 1 14),cQ 13 (cq 16 15),cQ 13 (U 17 5),cQ 13 (cH 18 3 2),cQ 13 (bZ 19 170 [18]),cQ 13 (bB .mul 20 17 19),cQ 13 (bB .eql 21 16 20),jO 22 13 21,U 23 22,cQ 23 (cH 24 3 2),cQ 23 (aS 25 2 3),cQ 23 (az 26 1 25),cQ 23 (bZ 27 220 [24,26]),jO 28 23 27,U 4 28],.ret])
def abA:List bz:=[.tmp 4]
theorem apb (NN:Nat) (x:ba (ak.aZ Is)):dt NN [YC,P8,Kr,YK] ad8 abA Is TB x=NE NN x:=by kernel_rfl
theorem al6:cF pX 141 ad8.er abA 2=true:=by decide+kernel
theorem aqR:dd pX 141 YD.M/\bP pX 141=true:=
  dw (args:=Is) (aw:=TB) (aD.cons aqQ<|aD.cons acZ<|aD.cons SZ<|aD.cons aqY<|aD.nil) cV al6 BG fun x y h=>(apb aL x).trans (ajl x y h)
def YJ:au:=⟨166,IA,aoa,TK,zt⟩
def aeg:bt:=
 (ai [ab [cU 4],ai [ab [U 7 1,cq 8 7,bE 9 0],.join ⟨[],[]⟩ [] [] (.block 0 (.loop 0 ⟨[aQ 0,eE 7,aQ 8,aQ 9],[]⟩ [] [] (ai [ab [bB .lss 10 9 8],dX 10 0,.block 1 (ai [ab [bW 11 1 7 9,az 12 1 11,U 6 12],ab [U 13 6,aV .lss 14 13 0,U 15 14,bI 15 (U 16 6),bI 15 (U 17 0),bI 15 (bB .geq 18 16 17),iO 19 15 18],.cond 19 (ai [ab [cU 4],.ret]) .skip]),ab [aV .add 20 9 1,U 9 20]])))],ab [jN 4],.ret])
def abI:List bz:=[.tmp 4]
theorem apj (NN:Nat) (x:ba (ak.aZ IA)):dt NN [] aeg abI IA TK x=NM NN x:=by kernel_rfl
theorem ame:cF pX 166 aeg.er abI 2=true:=by decide+kernel
theorem aqX:dd pX 166 YJ.M/\bP pX 166=true:=
  dw (args:=IA) (aw:=TK) (aD.nil) cV ame zt fun x y h=>(apj aL x).trans (ajt x y h)
def Yz:au:=⟨66,Io,anY,Tw,BD⟩
def ad4:bt:=
 (ai [ab [di 2 3 0,di 3 2 1,cU 4],ai [ab [cH 7 3 2,bZ 8 165 [7],aV .eql 9 8 (-1),U 10 9,bI 10 (aS 11 0 3),bI 10 (az 12 1 11),bI 10 (aV .lss 13 12 1),iO 14 10 13,U 15 14,bI 15 (aS 16 0 3),bI 15 (az 17 1 16),bI 15 (aV .gtr 18 17 12),iO 19 15 18,U 20 19,bI 20 (aS 21 1 3),bI 20 (az 22 1 21),bI 20 (cq 23 22),bI 20 (aS 24 1 2),bI 20 (az 25 1 24),bI 20 (cq 26 25),bI 20 (bB .neq 27 23 26),iO 28 20 27],.cond 28 (ai [ab [cU 4],.ret]) .skip],ai [ab [aS 29 1 3,az 30 1 29,cq 31 30,bE 32 0],.join ⟨[],[]⟩ [2,3] [] (.block 0 (.loop 0 ⟨[cB 2 2,cB 3 3,(30,.one (.c (.v (.list [lX])))),aQ 31,aQ 32],[eB 2 [cf,cf,cf],(3,.box [vX,.c (.v (.list [lX]))])]⟩ [2,3] [] (ai [ab [bB .lss 33 32 31],dX 33 0,.block 1 (ai [ab [U 34 32,bW 35 1 30 32,az 36 1 35,U 5 34,U 6 36],ab [U 37 6,cq 38 37,aS 39 1 2,az 40 1 39,U 41 5,bW 42 1 40 41,az 43 1 42,bB .neq 44 38 43,U 45 44,bI 45 (aS 46 0 3),bI 45 (az 47 1 46),bI 45 (U 48 6),bI 45 (bZ 49 166 [47,48]),bI 45 (gN 50 49),iO 51 45 50],.cond 51 (ai [ab [cU 4],.ret]) .skip]),ab [aV .add 52 32 1,U 32 52]])))],ab [jN 4],.ret])
def abw:List bz:=[.tmp 4]
theorem ao7 (NN:Nat) (x:ba (ak.aZ Io)):dt NN [P8,YJ] ad4 abw Io Tw x=NA NN x:=by kernel_rfl
theorem al2:cF pX 66 ad4.er abw 2=true:=by decide+kernel
theorem aqN:dd pX 66 Yz.M/\bP pX 66=true:=
  dw (args:=Io) (aw:=Tw) (aD.cons acZ<|aD.cons aqX<|aD.nil) cV al2 BD fun x y h=>(ao7 aL x).trans (ajh x y h)
def YP:au:=⟨111,IJ,aoi,TT,BO⟩
def aep:bt:=
 (ai [ab [di 1 3 0,mW 2],ab [cH 4 3 1,bZ 5 170 [4],oX 6 (.iJ .aO iX 8 (0:Int) 5 5),U 3 6],ai [ab [aS 7 0 1,az 8 1 7,aV .eql 9 8 4],.join ⟨[bM 3 700 1],[cT 700]⟩ [1,6,700] [da 3 700] (.cond 9 (ab [U 10 3,aS 11 1 1,az 12 1 11,Wp 13 1 10 0,fK 1 13 12]) .skip)],ab [U 14 3,U 2 14],.ret])
def abR:List bz:=[.tmp 2]
theorem apt (NN:Nat) (x:ba (ak.aZ IJ)):dt NN [Kr] aep abR IJ TT x=NU NN x:=by kernel_rfl
theorem amn:cF pX 111 aep.er abR 1=true:=by decide+kernel
theorem aq3:dd pX 111 YP.M/\bP pX 111=true:=
  dw (args:=IJ) (aw:=TT) (aD.cons SZ<|aD.nil) cV amn BO fun x y h=>(apt aL x).trans (Yc x y h)
def YN:au:=⟨161,IF,aoe,TP,zu⟩
def ael:bt:=
 (ai [ab [bE 2 0],ab [bE 3 1],ai [ab [U 6 0,cq 7 6,bE 8 0],.join ⟨[aQ 3],[]⟩ [] [] (.block 0 (.loop 0 ⟨[aQ 3,eE 6,aQ 7,aQ 8],[]⟩ [] [] (ai [ab [bB .lss 9 8 7],dX 9 0,.block 1 (ai [ab [bW 10 1 6 8,az 11 1 10,U 5 11],ab [U 12 3,U 13 5,bB .mul 14 12 13,U 3 14]]),ab [aV .add 15 8 1,U 8 15]])))],ab [U 16 3,U 2 16],.ret])
def abN:List bz:=[.tmp 2]
theorem apo (NN:Nat) (x:ba (ak.aZ IF)):dt NN [] ael abN IF TP x=NR NN x:=by kernel_rfl
theorem amj:cF pX 161 ael.er abN 1=true:=by decide+kernel
theorem aq1:dd pX 161 YN.M/\bP pX 161=true:=
  dw (args:=IF) (aw:=TP) (aD.nil) cV amj zu fun x y h=>(apo aL x).trans (ajy x y h)
def YL:au:=⟨164,IC,aoc,TM,BL⟩
def aei:bt:=
 (ai [ab [mW 4],ab [U 7 0,cq 8 7,oX 9 (.iJ .aO iX 8 (0:Int) 8 8),U 5 9],ai [ab [U 10 0,cq 11 10,aV .sub 12 11 1,U 6 12],.join ⟨[bM 5 701 1],[cT 701]⟩ [700,701] [da 5 701] (.block 0 (.loop 0 ⟨[eE 0,aQ 1,bM 5 700 1,aQ 6],[cT 700]⟩ [9,700] [da 5 700] (ai [ai [ab [U 13 6,aV .geq 14 13 0],dX 14 0],.block 1 (ai [ab [U 17 5,U 18 6,U 19 1,U 20 0,U 21 6,bW 22 1 20 21,az 23 1 22,bB .rem 24 19 23,bW 25 1 17 18,fK 1 25 24],ab [U 26 1,U 27 0,U 28 6,bW 29 1 27 28,az 30 1 29,bB .quo 31 26 30,U 1 31]]),ab [U 15 6,aV .sub 16 15 1,U 6 16]])))],ab [U 32 5,U 4 32],.ret])
def abK:List bz:=[.tmp 4]
theorem apl (NN:Nat) (x:ba (ak.aZ IC)):dt NN [] aei abK IC TM x=V9 NN x:=by kernel_rfl
theorem amg:cF pX 164 aei.er abK 2=true:=by decide+kernel
theorem aqZ:dd pX 164 YL.M/\bP pX 164=true:=
  dw (args:=IC) (aw:=TM) (aD.nil) cV amg BL fun x y h=>(apl aL x).trans (ajv x y h)
def YG:au:=⟨163,Iw,an6,TG,xm⟩
def aec:bt:=
 (ai [ab [di 2 2 0,mW 4],ab [U 8 1,cq 9 8,oX 10 (.iJ .aO iX 8 (0:Int) 9 9),U 5 10],ai [ab [U 11 1,cq 12 11,bE 13 0],.join ⟨[bM 5 701 1],[cT 701]⟩ [2,700,701] [da 5 701] (.block 0 (.loop 0 ⟨[cB 2 2,bM 5 700 1,eE 11,aQ 12,aQ 13],[(2,.box [vX,.c (.v (.list [lX]))]),cT 700]⟩ [2,10,700] [da 5 700] (ai [ab [bB .lss 14 13 12],dX 14 0,.block 1 (ai [ab [U 15 13,bW 16 1 11 13,az 17 1 16,U 6 15,U 7 17],ab [U 18 5,U 19 6,aS 20 1 2,az 21 1 20,U 22 6,bW 23 1 21 22,az 24 1 23,U 25 7,bW 26 1 24 25,az 27 1 26,bW 28 1 18 19,fK 1 28 27]]),ab [aV .add 29 13 1,U 13 29]])))],ab [U 30 5,U 4 30],.ret])
def abE:List bz:=[.tmp 4]
theorem apf (NN:Nat) (x:ba (ak.aZ Iw)):dt NN [] aec abE Iw TG x=NI NN x:=by kernel_rfl
theorem ama:cF pX 163 aec.er abE 2=true:=by decide+kernel
theorem aqU:dd pX 163 YG.M/\bP pX 163=true:=
  dw (args:=Iw) (aw:=TG) (aD.nil) cV ama xm fun x y h=>(apf aL x).trans (ajp x y h)
def Qc:au:=⟨162,IK,aoj,TU,tP⟩
def aeq:bt:=
 (ai [ab [bE 2 0],ab [bE 3 0],ai [ab [U 6 0,cq 7 6,bE 8 0],.join ⟨[aQ 3],[]⟩ [] [] (.block 0 (.loop 0 ⟨[aQ 3,eE 6,aQ 7,aQ 8],[]⟩ [] [] (ai [ab [bB .lss 9 8 7],dX 9 0,.block 1 (ai [ab [bW 10 1 6 8,az 11 1 10,U 5 11],ab [U 12 3,U 13 5,bB .add 14 12 13,U 3 14]]),ab [aV .add 15 8 1,U 8 15]])))],ab [U 16 3,U 2 16],.ret])
def abS:List bz:=[.tmp 2]
theorem apu (NN:Nat) (x:ba (ak.aZ IK)):dt NN [] aeq abS IK TU x=NV NN x:=by kernel_rfl
theorem amo:cF pX 162 aeq.er abS 1=true:=by decide+kernel
theorem ac3:dd pX 162 Qc.M/\bP pX 162=true:=
  dw (args:=IK) (aw:=TU) (aD.nil) cV amo tP fun x y h=>(apu aL x).trans (ajA x y h)
def Qb:au:=⟨95,IG,aof,TQ,tN⟩
def aem:bt:=
 (ai [ab [di 3 3 0,di 4 3 1,mW 6],ab [cH 8 3 3,bZ 9 170 [8],U 7 9],ab [aS 10 2 4,az 11 1 10,U 12 2,U 13 7,bB .mul 14 12 13,U 15 2,aV .add 16 15 1,U 17 7,bB .mul 18 16 17,oX 19 (.slice 1 11 (some 14) (some 18)),U 6 19],.ret])
def abO:List bz:=[.tmp 6]
theorem apq (NN:Nat) (x:ba (ak.aZ IG)):Mi NN [Kr] aem abO IG TQ x=NS NN x:=by kernel_rfl
theorem amk:cF pX 95 aem.er abO 3=true:=by decide+kernel
theorem ac2:zD pX 95 Qb.MV/\bP pX 95=true:=
  agI (args:=IG) (aw:=TQ) (aD.cons SZ<|aD.nil) cV amk tN fun x y h=>(apq aL x).trans (ajz x y h)
def YI:au:=⟨142,Iy,an8,TI,zr⟩
def aee:bt:=
 (ai [ab [cU 4],ai [ab [U 6 0,cq 7 6,U 8 1,cq 9 8,bB .neq 10 7 9],.cond 10 (ai [ab [cU 4],.ret]) .skip],ai [ab [U 11 0,cq 12 11,bE 13 0],.join ⟨[],[]⟩ [] [] (.block 0 (.loop 0 ⟨[eE 0,eE 1,aQ 12,aQ 13],[]⟩ [] [] (ai [ab [bB .lss 14 13 12],dX 14 0,.block 1 (ai [ab [U 15 13,U 5 15],.ij true [U 16 0,U 17 5,bW 18 1 16 17,az 19 1 18,U 20 1,U 21 5,bW 22 1 20 21,az 23 1 22,bB .neq 24 19 23],.cond 24 (ai [ab [cU 4],.ret]) .skip]),ab [aV .add 25 13 1,U 13 25]])))],ab [jN 4],.ret])
def abG:List bz:=[.tmp 4]
theorem aph (NN:Nat) (x:ba (ak.aZ Iy)):dt NN [] aee abG Iy TI x=NK NN x:=by kernel_rfl
theorem amc:cF pX 142 aee.er abG 2=true:=by decide+kernel
theorem aqW:dd pX 142 YI.M/\bP pX 142=true:=
  dw (args:=Iy) (aw:=TI) (aD.nil) cV amc zr fun x y h=>(aph aL x).trans (ajr x y h)
def YA:au:=⟨65,Ip,anZ,Tx,BE⟩
def ad5:bt:=
 (ai [ab [di 3 3 0,di 4 3 1,di 5 2 2,cU 6],ai [ab [cH 10 3 3,cH 11 3 4,bZ 12 141 [10,11],gN 13 12,U 14 13,bI 14 (cH 15 3 4),bI 14 (cH 16 2 5),bI 14 (bZ 17 66 [15,16]),bI 14 (gN 18 17),iO 19 14 18],.cond 19 (ai [ab [cU 6],.ret]) .skip],ab [cH 20 3 3,bZ 21 111 [20],U 7 21],ai [ab [bE 8 0],.join ⟨[],[]⟩ [3,4,5,700] [] (.block 0 (.loop 0 ⟨[cB 3 3,cB 4 4,cB 5 5,bM 7 700 1,aQ 8],[eB 3 [vX,vX,vX],eB 4 [cf,cf,cf],(5,.box [vX,.c (.v (.list [lX]))]),cT 700]⟩ [3,4,5,22000,34000,35000,700] [da 7 700] (ai [ai [ab [U 22 8,aS 23 1 4,az 24 1 23,bZ 25 161 [24],bB .lss 26 22 25],dX 26 0],.block 1 (ai [.ij true [cH 29 2 5,aS 30 1 4,az 31 1 30,U 32 8,bZ 33 164 [31,32],bZ 34 163 [29,33],bZ 35 162 [34],U 9 35],ab [U 36 9,aS 37 0 5,az 38 1 37,bB .rem 39 36 38,aV .neq 40 39 0,U 41 40,cQ 41 (cH 42 3 3),cQ 41 (cH 43 3 4),cQ 41 (U 44 8),cQ 41 (oX 45 (.mr 95 [42,43,44])),cQ 41 (U 46 7),cQ 41 (bZ 47 142 [45,46]),cQ 41 (gN 48 47),jO 49 41 48],.cond 49 (ai [ab [cU 6],.ret]) .skip]),ab [U 27 8,aV .add 28 27 1,U 8 28]])))],ab [jN 6],.ret])
def abx:List bz:=[.tmp 6]
theorem ao8 (NN:Nat) (x:ba (ak.aZ Ip)):dt NN [YD,Yz,YP,YN,YL,YG,Qc,Qb,YI] ad5 abx Ip Tx x=NB NN x:=by kernel_rfl
theorem al3:cF pX 65 ad5.er abx 3=true:=by decide+kernel
theorem aqO:dd pX 65 YA.M/\bP pX 65=true:=
  dw (args:=Ip) (aw:=Tx) (aD.cons aqR<|aD.cons aqN<|aD.cons aq3<|aD.cons aq1<|aD.cons aqZ<|aD.cons aqU<|aD.cons ac3<|aD.PD ac2<|aD.cons aqW<|aD.nil) cV al3 BE fun x y h=>(ao8 aL x).trans (aji x y h)
def YH:au:=⟨187,Ix,an7,TH,zq⟩
def aed:bt:=
 (ai [ab [mW 2],ab [U 3 0,oX 4 (.append true iX 8 (.k (.one (.nil iX))) 3),U 2 4],.ret])
def abF:List bz:=[.tmp 2]
theorem apg (NN:Nat) (x:ba (ak.aZ Ix)):dt NN [] aed abF Ix TH x=NJ NN x:=by kernel_rfl
theorem amb:cF pX 187 aed.er abF 1=true:=by decide+kernel
theorem aqV:dd pX 187 YH.M/\bP pX 187=true:=
  dw (args:=Ix) (aw:=TH) (aD.nil) cV amb zq fun x y h=>(apg aL x).trans (ajq x y h)
def Qd:au:=⟨218,IL,aok,TV,sM⟩
def aer:bt:=
 (ai [ab [mW 4],ab [mW 5],ai [ab [U 8 0,cq 9 8,bE 10 0],.join ⟨[bM 5 701 1],[cT 701]⟩ [700,701] [da 5 701] (.block 0 (.loop 0 ⟨[aQ 1,bM 5 700 1,eE 8,aQ 9,aQ 10],[cT 700]⟩ [20,21,700] [da 5 700] (ai [ab [bB .lss 11 10 9],dX 11 0,.block 1 (ai [ab [U 12 10,bW 13 1 8 10,az 14 1 13,U 6 12,U 7 14],ab [U 15 7,U 16 1,bB .eql 17 15 16],.cond 17 (ab [U 18 5,U 19 6,oX 20 (.ft iX [19]),oX 21 (.append true iX 8 18 20),U 5 21]) .skip]),ab [aV .add 22 10 1,U 10 22]])))],ab [U 23 5,U 4 23],.ret])
def abT:List bz:=[.tmp 4]
theorem apv (NN:Nat) (x:ba (ak.aZ IL)):dt NN [] aer abT IL TV x=NW NN x:=by kernel_rfl
theorem amp:cF pX 218 aer.er abT 2=true:=by decide+kernel
theorem ac4:dd pX 218 Qd.M/\bP pX 218=true:=
  dw (args:=IL) (aw:=TV) (aD.nil) cV amp sM fun x y h=>(apv aL x).trans (ajB x y h)
def Qa:au:=⟨173,ID,LJ,TN,xn⟩
def aej:bt:=
 (ai [ab [cU 4],ai [ab [U 6 0,cq 7 6,aV .sub 8 7 1,U 5 8],.join ⟨[],[(1000000,.row false .aO iX)]⟩ [1000000] [] (.block 0 (.loop 0 ⟨[eE 0,bM 1 1000000 1,aQ 5],[(1000000,.row false .aO iX)]⟩ [1000000,700] [da 1 700] (ai [ai [ab [U 9 5,aV .geq 10 9 0],dX 10 0],.block 1 (ai [ab [U 13 1,U 14 5,bW 15 1 13 14,az 16 1 15,aV .add 17 16 1,bW 18 1 13 14,fK 1 18 17],ai [.ij true [U 19 1,U 20 5,bW 21 1 19 20,az 22 1 21,U 23 0,U 24 5,bW 25 1 23 24,az 26 1 25,bB .lss 27 22 26],.cond 27 (ai [ab [jN 4],.ret]) .skip],ab [U 28 1,U 29 5,bW 30 1 28 29,uX (.store 1 30 (kX 0))]]),ab [U 11 5,aV .sub 12 11 1,U 5 12]])))],ab [cU 4],.ret])
def abL:List bz:=[.tmp 4]
theorem apm (NN:Nat) (x:ba (ak.aZ ID)):wZ NN [] aej abL ID LJ TN x=NP NN x:=by kernel_rfl
theorem amh:cF pX 173 aej.er abL 2=true:=by decide+kernel
theorem ac1:rr pX 173 LJ Qa.MM/\bP pX 173=true:=
  A4 (args:=ID) (mu:=LJ) (aw:=TN) (aD.nil) cV amh xn fun x y h=>(apm aL x).trans (ajw x y h)
def YE:au:=⟨124,Iu,an4,TE,BH⟩
def aea:bt:=
 (ai [ab [di 2 3 0,di 3 2 1,oX 4 (.mv (.k (.one (.nil [lX,lX,lX,lX]))))],ab [aS 18 1 3,az 19 1 18,cq 20 19,oX 21 (.iJ .live [lX] 24 [] 20 20),U 5 21],ab [aS 22 1 3,az 23 1 22,cq 24 23,oX 25 (.iJ .aO iX 8 (0:Int) 24 24),U 6 25],ai [ab [aS 26 1 3,az 27 1 26,cq 28 27,bE 29 0],.join ⟨[bM 5 708 1,cB 3 3,cB 2 2,bM 6 709 1],[eB 2 [cf,cf,cf],(3,.box [vX,.c (.v (.list [lX]))]),(708,.row true .live [lX]),cT 709]⟩ [2,3,700,701,708,709] [(false,5,0,708,.live,[]),da 6 709] (.block 0 (.loop 0 ⟨[cB 2 2,cB 3 3,bM 5 700 1,bM 6 701 1,(27,.one (.c (.v (.list [lX])))),aQ 28,aQ 29],[eB 2 [cf,cf,cf],(3,.box [vX,.c (.v (.list [lX]))]),(700,.row true .live [lX]),cT 701]⟩ [2,3,21,25,700,701,706,707] [(false,5,0,700,.live,[]),da 6 701] (ai [ab [bB .lss 30 29 28],dX 30 0,.join ⟨[aQ 29,cB 2 2,cB 3 3,bM 5 706 1,bM 6 707 1,(27,.one (.c (.v (.list [lX])))),aQ 28],[eB 2 [cf,cf,cf],(3,.box [vX,.c (.v (.list [lX]))]),(706,.row true .live [lX]),cT 707]⟩ [2,3,704,705,706,707] [(false,5,0,706,.live,[]),da 6 707] (.block 1 (ai [ab [U 31 29,bW 32 1 27 29,az 33 1 32,U 7 31,U 8 33],ai [ab [bE 9 0],.join ⟨[aQ 7,aQ 29,cB 2 2,cB 3 3,bM 5 704 1,bM 6 705 1,(27,.one (.c (.v (.list [lX])))),aQ 28],[eB 2 [cf,cf,cf],(3,.box [vX,.c (.v (.list [lX]))]),(704,.row true .live [lX]),cT 705]⟩ [2,3,702,703,704,705] [(false,5,0,704,.live,[]),da 6 705] (.block 2 (.loop 0 ⟨[cB 2 2,cB 3 3,bM 5 702 1,bM 6 703 1,aQ 7,eE 8,aQ 9,(27,.one (.c (.v (.list [lX])))),aQ 28,aQ 29],[eB 2 [cf,cf,cf],(3,.box [vX,.c (.v (.list [lX]))]),(702,.row true .live [lX]),cT 703]⟩ [2,3,50,700,701,702,703] [(false,5,0,702,.live,[]),da 6 703] (ai [ai [ab [U 34 9,aS 35 0 3,az 36 1 35,bB .lss 37 34 36],dX 37 2],.block 3 (ai [ab [U 40 8,U 41 9,bZ 42 217 [40,41]],.cond 42 (.qZ false [] [U 43 5,U 44 7,U 45 5,U 46 7,bW 47 1 45 46,az 48 1 47,U 49 9,oX 50 (.ft iX [49]),oX 51 (.mv (.k (.one (.bm)))),bW 52 1 43 44,uX (.mv (.k (.one (.bm))))] ⟨8,1,8,52,48,50,51⟩) .skip]),ab [U 38 9,aV .add 39 38 1,U 9 39]])))],ab [U 53 6,U 54 7,U 55 5,U 56 7,bW 57 1 55 56,az 58 1 57,cq 59 58,bW 60 1 53 54,fK 1 60 59]])),ab [aV .add 61 29 1,U 29 61]])))],ab [oX 10 (.mv (.k (.one (.nil [lX,lX,lX,lX]))))],ab [U 62 6,cq 63 62,oX 64 (.iJ .aO iX 8 (0:Int) 63 63),U 11 64],.block 4 (.loop 0 ⟨[cB 2 2,cB 3 3,bM 5 710 1,bM 6 711 1,bM 10 712 4,bM 11 713 1],[eB 2 [cf,cf,cf],(3,.box [vX,.c (.v (.list [lX]))]),(710,.row true .live [lX]),cT 711,(712,.row true .live [lX,lX,lX,lX]),cT 713]⟩ [2,3,64,708,709,710,711,712,713,738,739,740,741] [(false,5,0,710,.live,[]),da 6 711,(false,10,0,712,.live,[]),da 11 713] (.block 5 (ai [ab [U 65 6,cq 66 65,oX 67 (.iJ .aO iX 8 (0:Int) 66 66),U 12 67],ai [ab [U 68 11,cq 69 68,bE 70 0],.join ⟨[bM 12 719 1,cB 2 2,cB 3 3,bM 5 720 1,bM 6 721 1,bM 10 722 4,bM 11 723 1],[eB 2 [cf,cf,cf],(3,.box [vX,.c (.v (.list [lX]))]),cT 719,(720,.row true .live [lX]),cT 721,(722,.row true .live [lX,lX,lX,lX]),cT 723]⟩ [2,3,714,715,716,717,718,719,720,721,722,723] [da 12 719,(false,5,0,720,.live,[]),da 6 721,(false,10,0,722,.live,[]),da 11 723] (.block 6 (.loop 0 ⟨[cB 2 2,cB 3 3,bM 5 714 1,bM 6 715 1,bM 10 716 4,bM 11 717 1,bM 12 718 1,bM 68 717 1,aQ 69,aQ 70],[eB 2 [cf,cf,cf],(3,.box [vX,.c (.v (.list [lX]))]),(714,.row true .live [lX]),cT 715,(716,.row true .live [lX,lX,lX,lX]),cT 717,cT 718]⟩ [2,3,67,710,711,712,713,714,715,716,717,718] [(false,5,0,714,.live,[]),da 6 715,(false,10,0,716,.live,[]),da 11 717,da 12 718] (ai [ab [bB .lss 71 70 69],dX 71 6,.block 7 (ai [ab [U 72 70,bW 73 1 68 70,az 74 1 73,U 13 72,U 14 74],ab [U 75 12,U 76 13,U 77 5,U 78 13,bW 79 1 77 78,az 80 1 79,U 81 14,bW 82 1 80 81,az 83 1 82,bW 84 1 75 76,fK 1 84 83]]),ab [aV .add 85 70 1,U 70 85]])))],ai [.ij true [U 86 12,bZ 87 162 [86],aS 88 0 3,az 89 1 88,bB .rem 90 87 89,aV .eql 91 90 0],.join ⟨[cB 2 2,cB 3 3,bM 5 738 1,bM 6 739 1,bM 10 740 4,bM 11 741 1],[eB 2 [cf,cf,cf],(3,.box [vX,.c (.v (.list [lX]))]),(738,.row true .live [lX]),cT 739,(740,.row true .live [lX,lX,lX,lX]),cT 741]⟩ [2,3,15,124,719,720,721,722,723,735,736,737,738,739,740,741] [(false,5,0,738,.live,[]),da 6 739,(false,10,0,740,.live,[]),da 11 741] (.cond 91 (ai [ab [U 92 12,aS 93 0 2,az 94 1 93,bZ 95 187 [94],oX 96 (.build [.nil iX,.nil iX,.nil iX] [(0,1,95)]),oX 97 (.build [.nil iX,.nil iX,.nil iX,.nil iX] [(0,1,92),(1,3,96)]),qg 15 [.nil iX,.nil iX,.nil iX,.nil iX],fK 4 15 97],ai [ab [U 98 12,cq 99 98,bE 100 0],.join ⟨[bM 10 734 4,cB 15 15,cB 2 2,cB 3 3,bM 5 735 1,bM 6 736 1,bM 11 737 1],[eB 2 [cf,cf,cf],(3,.box [vX,.c (.v (.list [lX]))]),eB 15 [fX 731 1,fX 732 1,fX 733 1,.c (.nil iX)],cT 731,cT 732,cT 733,(734,.row true .live [lX,lX,lX,lX]),(735,.row true .live [lX]),cT 736,cT 737]⟩ [2,3,15,724,725,726,727,728,729,730,731,732,733,734,735,736,737] [gz 15 0 731,gz 15 1 732,gz 15 2 733,(false,10,0,734,.live,[]),(false,5,0,735,.live,[]),da 6 736,da 11 737] (.block 8 (.loop 0 ⟨[cB 2 2,cB 3 3,bM 5 727 1,bM 6 728 1,bM 10 729 4,bM 11 730 1,cB 15 15,bM 98 724 1,aQ 99,aQ 100],[eB 2 [cf,cf,cf],(3,.box [vX,.c (.v (.list [lX]))]),eB 15 [fX 724 1,fX 725 1,fX 726 1,.c (.nil iX)],cT 724,cT 725,cT 726,(727,.row true .live [lX]),cT 728,(729,.row true .live [lX,lX,lX,lX]),cT 730]⟩ [2,3,96000,15,115000,116,117,719,720,721,722,723,724,725,726,727,728,729,730] [gz 15 0 724,gz 15 1 725,gz 15 2 726,(false,5,0,727,.live,[]),da 6 728,(false,10,0,729,.live,[]),da 11 730] (ai [ab [bB .lss 101 100 99],dX 101 8,.block 9 (ai [ab [U 102 100,bW 103 1 98 100,az 104 1 103,U 16 102,U 17 104],.wT [(0,11),(1,11),(2,11)] [aS 105 1 15,aS 106 1 105,az 107 1 106,aS 108 1 3,az 109 1 108,U 110 16,bW 111 1 109 110,az 112 1 111,U 113 17,bZ 114 218 [112,113],cq 115 114,oX 116 (.ft iX [115]),oX 117 (.append true iX 8 107 116),aS 118 1 15,aS 119 1 118,fK 1 119 117]]),ab [aV .add 120 100 1,U 100 120]])))],.tE [.op (oX 121 (.mv 10)),.op (oX 122 (.load true 4 15)),.pu 123 (.vC [lX,lX,lX,lX] 122),.op (oX 124 (.append false [lX,lX,lX,lX] 96 121 123)),.op (oX 10 (.mv 124))]]) .skip)],ab [U 125 6,U 126 11,oX 127 (.hZ .aO 173 [125,126]),gN 128 127],.cond 128 (ai [ab [U 129 10,U 4 129],.ret]) .skip])))])
def abC:List bz:=[.tmp 4]
theorem apd (NN:Nat) (x:ba (ak.aZ Iu)):UO NN [P9,Qc,YH,Qd,Qa] aea abC Iu TE x=NG NN x:=by kernel_rfl
theorem al8:cF pX 124 aea.er abC 2=true:=by decide+kernel
theorem aqS:xB pX 124 YE.M/\bP pX 124=true:=
  apU (args:=Iu) (aw:=TE) (aD.cons ac0<|aD.cons ac3<|aD.cons aqV<|aD.cons ac4<|aD.uo ac1<|aD.nil) cV al8 BH fun x y h=>(apd aL x).trans (ajn x y h)
def YM:au:=⟨219,IE,aod,TO,BM⟩
def aek:bt:=
 (ai [ab [bE 4 0],ab [bE 5 0],ai [ab [U 8 1,cq 9 8,bE 10 0],.join ⟨[aQ 5],[]⟩ [] [] (.block 0 (.loop 0 ⟨[eE 0,aQ 5,eE 8,aQ 9,aQ 10],[]⟩ [] [] (ai [ab [bB .lss 11 10 9],dX 11 0,.block 1 (ai [ab [U 12 10,bW 13 1 8 10,az 14 1 13,U 6 12,U 7 14],ab [U 15 5,U 16 0,U 17 6,bW 18 1 16 17,az 19 1 18,bB .mul 20 15 19,U 21 7,bB .add 22 20 21,U 5 22]]),ab [aV .add 23 10 1,U 10 23]])))],ab [U 24 5,U 4 24],.ret])
def abM:List bz:=[.tmp 4]
theorem apn (NN:Nat) (x:ba (ak.aZ IE)):dt NN [] aek abM IE TO x=NQ NN x:=by kernel_rfl
theorem ami:cF pX 219 aek.er abM 2=true:=by decide+kernel
theorem aq0:dd pX 219 YM.M/\bP pX 219=true:=
  dw (args:=IE) (aw:=TO) (aD.nil) cV ami BM fun x y h=>(apn aL x).trans (ajx x y h)
def YF:au:=⟨125,Iv,an5,TF,BJ⟩
def aeb:bt:=
 (ai [ab [di 3 3 0,di 4 2 1,di 5 4 2,mW 6],ab [aS 15 0 5,az 16 1 15,cq 17 16,oX 18 (.iJ .aO [lX] 24 [] 17 17),U 7 18],ai [ab [aS 19 0 5,az 20 1 19,cq 21 20,bE 22 0],.join ⟨[bM 7 701 1,cB 3 3,cB 5 5],[eB 3 [cf,cf,cf],eB 5 [cf,cf,cf,cf],(701,.row true .aO [lX])]⟩ [3,4,5,700,701] [da 7 701] (.block 0 (.loop 0 ⟨[cB 3 3,cB 4 4,cB 5 5,bM 7 700 1,eE 20,aQ 21,aQ 22],[eB 3 [cf,cf,cf],(4,.box [vX,.c (.v (.list [lX]))]),eB 5 [cf,cf,cf,cf],(700,.row true .aO [lX])]⟩ [3,4,5,18,700] [da 7 700] (ai [ab [bB .lss 23 22 21],dX 23 0,.block 1 (ai [ab [U 24 22,bW 25 1 20 22,az 26 1 25,U 8 24,U 9 26],ab [U 27 7,U 28 8,aS 29 1 4,az 30 1 29,U 31 8,bW 32 1 30 31,az 33 1 32,U 34 9,bZ 35 218 [33,34],bW 36 1 27 28,fK 1 36 35]]),ab [aV .add 37 22 1,U 22 37]])))],ab [mW 10],ab [aS 38 0 5,az 39 1 38,cq 40 39,oX 41 (.iJ .aO iX 8 (0:Int) 40 40),U 11 41],.block 2 (.loop 0 ⟨[cB 3 3,cB 5 5,bM 7 702 1,bM 10 703 1,bM 11 704 1],[eB 3 [cf,cf,cf],eB 5 [cf,cf,cf,cf],(702,.row true .aO [lX]),cT 703,cT 704]⟩ [3,5,41,68,69,701,702,703,704,710,711,712] [da 7 702,da 10 703,da 11 704] (.block 3 (ai [ab [U 42 11,cq 43 42,oX 44 (.iJ .aO iX 8 (0:Int) 43 43),U 12 44],ai [ab [U 45 11,cq 46 45,bE 47 0],.join ⟨[bM 10 709 1,bM 12 710 1,cB 3 3,cB 5 5,bM 7 711 1,bM 11 712 1],[eB 3 [cf,cf,cf],eB 5 [cf,cf,cf,cf],cT 709,cT 710,(711,.row true .aO [lX]),cT 712]⟩ [3,5,705,706,707,708,709,710,711,712] [da 10 709,da 12 710,da 7 711,da 11 712] (.block 4 (.loop 0 ⟨[cB 3 3,cB 5 5,bM 7 705 1,bM 10 706 1,bM 11 707 1,bM 12 708 1,bM 45 707 1,aQ 46,aQ 47],[eB 3 [cf,cf,cf],eB 5 [cf,cf,cf,cf],(705,.row true .aO [lX]),cT 706,cT 707,cT 708]⟩ [3,5,44,702,703,704,705,706,707,708] [da 7 705,da 10 706,da 11 707,da 12 708] (ai [ab [bB .lss 48 47 46],dX 48 4,.block 5 (ai [ab [U 49 47,bW 50 1 45 47,az 51 1 50,U 13 49,U 14 51],ab [U 52 12,U 53 13,U 54 7,U 55 13,bW 56 1 54 55,az 57 1 56,U 58 14,bW 59 1 57 58,az 60 1 59,bW 61 1 52 53,fK 1 61 60]]),ab [aV .add 62 47 1,U 47 62]])))],ab [U 63 10,aS 64 1 3,az 65 1 64,U 66 12,bZ 67 219 [65,66],oX 68 (.ft iX [67]),oX 69 (.append true iX 8 63 68),U 10 69],ab [aS 70 1 5,aS 71 1 70,az 72 1 71,U 73 11,oX 74 (.hZ .aO 173 [72,73]),gN 75 74],.cond 75 (ai [ab [U 76 10,U 6 76],.ret]) .skip])))])
def abD:List bz:=[.tmp 6]
theorem ape (NN:Nat) (x:ba (ak.aZ Iv)):dt NN [Qd,YM,Qa] aeb abD Iv TF x=NH NN x:=by kernel_rfl
theorem al9:cF pX 125 aeb.er abD 3=true:=by decide+kernel
theorem aqT:dd pX 125 YF.M/\bP pX 125=true:=
  dw (args:=Iv) (aw:=TF) (aD.cons ac4<|aD.cons aq0<|aD.uo ac1<|aD.nil) cV al9 BJ fun x y h=>(ape aL x).trans (ajo x y h)
def Yy:au:=⟨48,Il,anX,Tv,zp⟩
def ad3:bt:=
 (ai [ab [di 3 3 0,di 4 3 1,di 5 2 2,oX 6 (.mv (.k (.one (.nil [lX,lX,lX,lX])))),cU 7],ai [ab [cH 13 3 3,cH 14 3 4,cH 15 2 5,bZ 16 65 [13,14,15],gN 17 16],.cond 17 (ai [ab [oX 6 (.mv (.k (.one (.nil [lX,lX,lX,lX])))),cU 7],.ret]) .skip],.tE [.op (oX 18 (.load true 3 4)),.op (oX 19 (.load true 2 5)),.pu 20 (.vE 124 [18,19]),.op (oX 8 (.mv 20))],ai [ab [U 21 8,cq 22 21,bE 23 0],.join ⟨[bM 8 704 4],[(704,.row true .live [lX,lX,lX,lX])]⟩ [3,4,5,700,704] [(false,8,0,704,.live,[])] (.block 0 (.loop 0 ⟨[cB 3 3,cB 4 4,cB 5 5,bM 8 700 4,bM 21 700 4,aQ 22,aQ 23],[eB 3 [vX,vX,vX],eB 4 [cf,cf,cf],(5,.box [vX,.c (.v (.list [lX]))]),(700,.row true .live [lX,lX,lX,lX])]⟩ [3,4,5,21000,700,703] [(false,8,0,700,.live,[])] (ai [ab [bB .lss 24 23 22],dX 24 0,.join ⟨[aQ 23,cB 3 3,cB 4 4,cB 5 5,bM 8 703 4,bM 21 703 4,aQ 22],[eB 3 [vX,vX,vX],eB 4 [cf,cf,cf],(5,.box [vX,.c (.v (.list [lX]))]),(703,.row true .live [lX,lX,lX,lX])]⟩ [3,4,5,701,702,703] [(false,8,0,703,.live,[])] (.block 1 (ai [ab [U 25 23,bW 26 4 21 23,cH 27 4 26,qg 10 [.nil iX,.nil iX,.nil iX,.nil iX],U 9 25,fK 4 10 27],ab [cH 28 3 4,cH 29 2 5,cH 30 4 10,bZ 31 125 [28,29,30],cq 32 31,bE 33 0],.block 2 (.loop 0 ⟨[cB 3 3,cB 4 4,cB 5 5,bM 8 701 4,aQ 9,bM 21 701 4,aQ 22,aQ 23,bM 31 702 1,aQ 32,aQ 33],[eB 3 [vX,vX,vX],eB 4 [cf,cf,cf],(5,.box [vX,.c (.v (.list [lX]))]),(701,.row true .live [lX,lX,lX,lX]),cT 702]⟩ [3,4,5,10,32000,700,701,702] [(false,8,0,701,.live,[]),da 31 702] (ai [ab [bB .lss 34 33 32],dX 34 2,.block 3 (ai [ab [bW 35 1 31 33,az 36 1 35,U 12 36],.qZ true [] [U 37 8,U 38 9,U 39 8,U 40 9,bW 41 4 39 40,aS 42 1 41,aS 43 2 42,az 44 1 43,cH 45 3 3,cH 46 3 4,U 47 12,oX 48 (.mr 95 [45,46,47]),oX 49 (.mv (.k (.one (.bm)))),bW 50 4 37 38,aS 51 1 50,aS 52 2 51,uX (.mv (.k (.one (.bm))))] ⟨12,1,8,52,44,48,49⟩]),ab [aV .add 53 33 1,U 33 53]]))])),ab [aV .add 54 23 1,U 23 54]])))],ab [U 55 8,U 6 55,jN 7],.ret])
def abv:List bz:=[.tmp 6,.tmp 7]
theorem ao6 (NN:Nat) (x:ba (ak.aZ Il)):dt NN [YA,YE,YF,Qb] ad3 abv Il Tv x=Nz NN x:=by kernel_rfl
theorem al1:cF pX 48 ad3.er abv 3=true:=by decide+kernel
theorem aqM:dd pX 48 Yy.M/\bP pX 48=true:=
  dw (args:=Il) (aw:=Tv) (aD.cons aqO<|aD.jh aqS<|aD.cons aqT<|aD.PD ac2<|aD.nil) cV al1 zp fun x y h=>(ao6 aL x).trans (ajg x y h)
def Kt:au:=⟨27,IU,aop,T0,rm⟩
def aew:bt:=
 (ai [ab [cU 4],ai [ab [U 6 0,cq 7 6,U 8 1,cq 9 8,bB .neq 10 7 9],.cond 10 (ai [ab [cU 4],.ret]) .skip],ai [ab [bE 5 0],.join ⟨[],[]⟩ [] [] (.block 0 (.loop 0 ⟨[eE 0,eE 1,aQ 5],[]⟩ [] [] (ai [ai [ab [U 11 5,U 12 0,cq 13 12,bB .lss 14 11 13],dX 14 0],.block 1 (ai [.ij true [U 17 0,U 18 5,bW 19 1 17 18,az 20 1 19,U 21 1,U 22 5,bW 23 1 21 22,az 24 1 23,bB .neq 25 20 24],.cond 25 (ai [ab [cU 4],.ret]) .skip]),ab [U 15 5,aV .add 16 15 1,U 5 16]])))],ab [jN 4],.ret])
def abY:List bz:=[.tmp 4]
theorem apA (NN:Nat) (x:ba (ak.aZ IU)):dt NN [] aew abY IU T0 x=Wc NN x:=by kernel_rfl
theorem amu:cF pX 27 aew.er abY 2=true:=by decide+kernel
theorem S0:dd pX 27 Kt.M/\bP pX 27=true:=
  dw (args:=IU) (aw:=T0) (aD.nil) cV amu rm fun x y h=>(apA aL x).trans (ajG x y h)
def Qe:au:=⟨50,IW,aor,T2,tR⟩
def aey:bt:=
 (ai [ab [di 2 3 0,di 3 3 1,cU 4],ai [ab [aS 5 0 2,az 6 1 5,aS 7 0 3,az 8 1 7,bZ 9 27 [6,8],gN 10 9],.cond 10 (ai [ab [cU 4],.ret]) .skip],ai [ab [aS 11 1 2,az 12 1 11,aS 13 1 3,az 14 1 13,bZ 15 27 [12,14],gN 16 15],.cond 16 (ai [ab [cU 4],.ret]) .skip],ai [ab [aS 17 2 2,az 18 1 17,aS 19 2 3,az 20 1 19,bZ 21 27 [18,20],gN 22 21],.cond 22 (ai [ab [cU 4],.ret]) .skip],ab [jN 4],.ret])
def ab0:List bz:=[.tmp 4]
theorem apC (NN:Nat) (x:ba (ak.aZ IW)):dt NN [Kt] aey ab0 IW T2 x=N0 NN x:=by kernel_rfl
theorem amw:cF pX 50 aey.er ab0 2=true:=by decide+kernel
theorem ac5:dd pX 50 Qe.M/\bP pX 50=true:=
  dw (args:=IW) (aw:=T2) (aD.cons S0<|aD.nil) cV amw tR fun x y h=>(apC aL x).trans (ajI x y h)
def YQ:au:=⟨126,IM,aom,TX,BP⟩
def aet:bt:=
 (ai [ab [di 2 4 0,di 3 4 1,cU 4],ai [ab [aS 5 0 2,az 6 1 5,aS 7 0 3,az 8 1 7,bZ 9 27 [6,8],gN 10 9],.cond 10 (ai [ab [cU 4],.ret]) .skip],ai [ab [aS 11 1 2,cH 12 3 11,aS 13 1 3,cH 14 3 13,bZ 15 50 [12,14],gN 16 15],.cond 16 (ai [ab [cU 4],.ret]) .skip],ab [jN 4],.ret])
def abV:List bz:=[.tmp 4]
theorem apx (NN:Nat) (x:ba (ak.aZ IM)):dt NN [Kt,Qe] aet abV IM TX x=NY NN x:=by kernel_rfl
theorem amr:cF pX 126 aet.er abV 2=true:=by decide+kernel
theorem aq5:dd pX 126 YQ.M/\bP pX 126=true:=
  dw (args:=IM) (aw:=TX) (aD.cons S0<|aD.cons ac5<|aD.nil) cV amr BP fun x y h=>(apx aL x).trans (ajD x y h)
def YR:au:=⟨49,IP,aon,TY,tQ⟩
def aeu:bt:=
 (ai [ab [cU 4],ai [ab [U 6 0,cq 7 6,U 8 1,cq 9 8,bB .neq 10 7 9],.cond 10 (ai [ab [cU 4],.ret]) .skip],ai [ab [bE 5 0],.join ⟨[],[]⟩ [] [] (.block 0 (.loop 0 ⟨[(0,.one (.c (.v (.list [lX,lX,lX,lX])))),(1,.one (.c (.v (.list [lX,lX,lX,lX])))),aQ 5],[]⟩ [] [] (ai [ai [ab [U 11 5,U 12 0,cq 13 12,bB .lss 14 11 13],dX 14 0],.block 1 (ai [.ij true [U 17 0,U 18 5,bW 19 4 17 18,cH 20 4 19,U 21 1,U 22 5,bW 23 4 21 22,cH 24 4 23,bZ 25 126 [20,24],gN 26 25],.cond 26 (ai [ab [cU 4],.ret]) .skip]),ab [U 15 5,aV .add 16 15 1,U 5 16]])))],ab [jN 4],.ret])
def abW:List bz:=[.tmp 4]
theorem apy (NN:Nat) (x:ba (ak.aZ IP)):dt NN [YQ] aeu abW IP TY x=Wb NN x:=by kernel_rfl
theorem ams:cF pX 49 aeu.er abW 2=true:=by decide+kernel
theorem aq6:dd pX 49 YR.M/\bP pX 49=true:=
  dw (args:=IP) (aw:=TY) (aD.cons aq5<|aD.nil) cV ams tQ fun x y h=>(apy aL x).trans (ajE x y h)
def YT:au:=⟨14,IV,aoq,T1,BQ⟩
def aex:bt:=
 (ai [ab [cU 4],ai [ab [U 6 0,cq 7 6,U 8 1,cq 9 8,bB .neq 10 7 9],.cond 10 (ai [ab [cU 4],.ret]) .skip],ai [ab [bE 5 0],.join ⟨[],[]⟩ [] [] (.block 0 (.loop 0 ⟨[(0,.one (.c (.v (.list [lX])))),(1,.one (.c (.v (.list [lX])))),aQ 5],[]⟩ [] [] (ai [ai [ab [U 11 5,U 12 0,cq 13 12,bB .lss 14 11 13],dX 14 0],.block 1 (ai [.ij true [U 17 0,U 18 5,bW 19 1 17 18,az 20 1 19,U 21 1,U 22 5,bW 23 1 21 22,az 24 1 23,bZ 25 27 [20,24],gN 26 25],.cond 26 (ai [ab [cU 4],.ret]) .skip]),ab [U 15 5,aV .add 16 15 1,U 5 16]])))],ab [jN 4],.ret])
def abZ:List bz:=[.tmp 4]
theorem apB (NN:Nat) (x:ba (ak.aZ IV)):dt NN [Kt] aex abZ IV T1 x=We NN x:=by kernel_rfl
theorem amv:cF pX 14 aex.er abZ 2=true:=by decide+kernel
theorem aq8:dd pX 14 YT.M/\bP pX 14=true:=
  dw (args:=IV) (aw:=T1) (aD.cons S0<|aD.nil) cV amv BQ fun x y h=>(apB aL x).trans (ajH x y h)
def YS:au:=⟨51,IQ,aoo,TZ,xo⟩
def aev:bt:=
 (ai [ab [di 2 2 0,di 3 2 1,cU 4],ai [ab [aS 5 0 2,az 6 1 5,aS 7 0 3,az 8 1 7,bB .neq 9 6 8],.cond 9 (ai [ab [cU 4],.ret]) .skip],ai [ab [aS 10 1 2,az 11 1 10,aS 12 1 3,az 13 1 12,bZ 14 14 [11,13],gN 15 14],.cond 15 (ai [ab [cU 4],.ret]) .skip],ab [jN 4],.ret])
def abX:List bz:=[.tmp 4]
theorem apz (NN:Nat) (x:ba (ak.aZ IQ)):dt NN [YT] aev abX IQ TZ x=NZ NN x:=by kernel_rfl
theorem amt:cF pX 51 aev.er abX 2=true:=by decide+kernel
theorem aq7:dd pX 51 YS.M/\bP pX 51=true:=
  dw (args:=IQ) (aw:=TZ) (aD.cons aq8<|aD.nil) cV amt xo fun x y h=>(apz aL x).trans (ajF x y h)
def Ku:au:=⟨29,I1,LN,T8,lc⟩
def aeD:bt:=
 (ai [ab [bE 4 0],ai [ab [bE 5 0],.join ⟨[aQ 1],[(1000000,.row false .aO iX)]⟩ [1000000] [] (.block 0 (.loop 0 ⟨[bM 0 1000000 1,aQ 1,aQ 5],[(1000000,.row false .aO iX)]⟩ [1000000,700] [da 0 700] (ai [ai [ab [U 6 5,U 7 0,cq 8 7,bB .lss 9 6 8],dX 9 0],.block 1 (ai [ab [U 12 0,U 13 5,U 14 1,bW 15 1 12 13,fK 1 15 14],ab [U 16 1,aV .add 17 16 1,U 1 17]]),ab [U 10 5,aV .add 11 10 1,U 5 11]])))],ab [U 18 1,U 4 18],.ret])
def ab5:List bz:=[.tmp 4]
theorem apH (NN:Nat) (x:ba (ak.aZ I1)):wZ NN [] aeD ab5 I1 LN T8 x=N5 NN x:=by kernel_rfl
theorem amB:cF pX 29 aeD.er ab5 2=true:=by decide+kernel
theorem S1:rr pX 29 LN Ku.MM/\bP pX 29=true:=
  A4 (args:=I1) (mu:=LN) (aw:=T8) (aD.nil) cV amB lc fun x y h=>(apH aL x).trans (ajN x y h)
def YZ:au:=⟨52,I3,LP,Ua,BU⟩
def aeF:bt:=
 (ai [ab [di 2 3 0,bE 4 0],ab [aS 5 0 2,az 6 1 5,U 7 1,oX 8 (.hZ .aO 29 [6,7]),U 1 8],ab [aS 9 1 2,az 10 1 9,U 11 1,oX 12 (.hZ .aO 29 [10,11]),U 1 12],ab [aS 13 2 2,az 14 1 13,U 15 1,oX 16 (.hZ .aO 29 [14,15]),U 1 16],ab [U 17 1,U 4 17],.ret])
def ab7:List bz:=[.tmp 4]
theorem apJ (NN:Nat) (x:ba (ak.aZ I3)):wZ NN [Ku] aeF ab7 I3 LP Ua x=N7 NN x:=by kernel_rfl
theorem amD:cF pX 52 aeF.er ab7 2=true:=by decide+kernel
theorem arf:rr pX 52 LP YZ.MM/\bP pX 52=true:=
  A4 (args:=I3) (mu:=LP) (aw:=Ua) (aD.uo S1<|aD.nil) cV amD BU fun x y h=>(apJ aL x).trans (ajP x y h)
def YY:au:=⟨17,I2,LO,T9,BT⟩
def aeE:bt:=
 (ai [ab [bE 4 0],ai [ab [bE 5 0],.join ⟨[aQ 1],[(1000000,.row false .live [lX])]⟩ [1000000] [] (.block 0 (.loop 0 ⟨[bM 0 1000000 1,aQ 1,aQ 5],[(1000000,.row false .live [lX])]⟩ [1000000,700] [(false,0,0,700,.live,[])] (ai [ai [ab [U 6 5,U 7 0,cq 8 7,bB .lss 9 6 8],dX 9 0],.block 1 (ab [U 12 0,U 13 5,bW 14 1 12 13,az 15 1 14,U 16 1,oX 17 (.hZ .aO 29 [15,16]),U 1 17]),ab [U 10 5,aV .add 11 10 1,U 5 11]])))],ab [U 18 1,U 4 18],.ret])
def ab6:List bz:=[.tmp 4]
theorem apI (NN:Nat) (x:ba (ak.aZ I2)):wZ NN [Ku] aeE ab6 I2 LO T9 x=N6 NN x:=by kernel_rfl
theorem amC:cF pX 17 aeE.er ab6 2=true:=by decide+kernel
theorem ard:rr pX 17 LO YY.MM/\bP pX 17=true:=
  A4 (args:=I2) (mu:=LO) (aw:=T9) (aD.uo S1<|aD.nil) cV amC BT fun x y h=>(apI aL x).trans (ajO x y h)
def YX:au:=⟨53,I0,LM,T7,BS⟩
def aeC:bt:=
 (ai [ab [di 2 2 0,bE 4 0],ab [aS 5 1 2,az 6 1 5,U 7 1,oX 8 (.hZ .live 17 [6,7]),U 1 8],ab [U 9 1,U 4 9],.ret])
def ab4:List bz:=[.tmp 4]
theorem apG (NN:Nat) (x:ba (ak.aZ I0)):wZ NN [YY] aeC ab4 I0 LM T7 x=N4 NN x:=by kernel_rfl
theorem amA:cF pX 53 aeC.er ab4 2=true:=by decide+kernel
theorem arc:rr pX 53 LM YX.MM/\bP pX 53=true:=
  A4 (args:=I0) (mu:=LM) (aw:=T7) (aD.uo ard<|aD.nil) cV amA BS fun x y h=>(apG aL x).trans (ajM x y h)
def YW:au:=⟨54,IZ,LK,T6,BR⟩
def aeB:bt:=
 (ai [ab [bE 4 0],ai [ab [bE 5 0],.join ⟨[aQ 1],[(1000000,.row false .live [lX,lX,lX,lX])]⟩ [1000000] [] (.block 0 (.loop 0 ⟨[bM 0 1000000 4,aQ 1,aQ 5],[(1000000,.row false .live [lX,lX,lX,lX])]⟩ [1000000,700] [(false,0,0,700,.live,[])] (ai [ai [ab [U 6 5,U 7 0,cq 8 7,bB .lss 9 6 8],dX 9 0],.block 1 (ai [ab [U 12 0,U 13 5,bW 14 4 12 13,aS 15 0 14,az 16 1 15,U 17 1,oX 18 (.hZ .aO 29 [16,17]),U 1 18],ab [U 19 0,U 20 5,bW 21 4 19 20,aS 22 1 21,aS 23 0 22,az 24 1 23,U 25 1,oX 26 (.hZ .aO 29 [24,25]),U 1 26],ab [U 27 0,U 28 5,bW 29 4 27 28,aS 30 1 29,aS 31 1 30,az 32 1 31,U 33 1,oX 34 (.hZ .aO 29 [32,33]),U 1 34],ab [U 35 0,U 36 5,bW 37 4 35 36,aS 38 1 37,aS 39 2 38,az 40 1 39,U 41 1,oX 42 (.hZ .aO 29 [40,41]),U 1 42]]),ab [U 10 5,aV .add 11 10 1,U 5 11]])))],ab [U 43 1,U 4 43],.ret])
def ab3:List bz:=[.tmp 4]
theorem apF (NN:Nat) (x:ba (ak.aZ IZ)):wZ NN [Ku] aeB ab3 IZ LK T6 x=N3 NN x:=by kernel_rfl
theorem amz:cF pX 54 aeB.er ab3 2=true:=by decide+kernel
theorem arb:rr pX 54 LK YW.MM/\bP pX 54=true:=
  A4 (args:=IZ) (mu:=LK) (aw:=T6) (aD.uo S1<|aD.nil) cV amz BR fun x y h=>(apF aL x).trans (ajL x y h)
def YV:au:=⟨81,IY,aot,T5,rn⟩
def aeA:bt:=
 (ai [ab [bE 4 0],ai [ab [bE 5 0],.join ⟨[aQ 1],[]⟩ [] [] (.block 0 (.loop 0 ⟨[eE 0,aQ 1,aQ 5],[]⟩ [] [] (ai [ai [ab [U 6 5,U 7 0,cq 8 7,bB .lss 9 6 8],dX 9 0],.block 1 (ai [ai [ab [U 12 0,U 13 5,bW 14 1 12 13,az 15 1 14,U 16 1,bB .neq 17 15 16],.cond 17 (ai [ab [bE 4 (-1)],.ret]) .skip],ab [U 18 1,aV .add 19 18 1,U 1 19]]),ab [U 10 5,aV .add 11 10 1,U 5 11]])))],ab [U 20 1,U 4 20],.ret])
def ab2:List bz:=[.tmp 4]
theorem apE (NN:Nat) (x:ba (ak.aZ IY)):dt NN [] aeA ab2 IY T5 x=N2 NN x:=by kernel_rfl
theorem amy:cF pX 81 aeA.er ab2 2=true:=by decide+kernel
theorem ara:dd pX 81 YV.M/\bP pX 81=true:=
  dw (args:=IY) (aw:=T5) (aD.nil) cV amy rn fun x y h=>(apE aL x).trans (ajK x y h)
def YU:au:=⟨55,IX,aos,T4,vl⟩
def aez:bt:=
 (ai [ab [bE 4 0],ai [ab [bE 5 0],.join ⟨[aQ 1],[]⟩ [] [] (.block 0 (.loop 0 ⟨[(0,.one (.c (.v (.list [lX,lX,lX,lX])))),aQ 1,aQ 5],[]⟩ [] [] (ai [ai [ab [U 6 5,U 7 0,cq 8 7,bB .lss 9 6 8],dX 9 0],.block 1 (ai [ab [U 12 0,U 13 5,bW 14 4 12 13,aS 15 0 14,az 16 1 15,U 17 1,bZ 18 81 [16,17],U 1 18],ai [ab [U 19 1,aV .lss 20 19 0],.cond 20 (ai [ab [bE 4 (-1)],.ret]) .skip],ab [U 21 0,U 22 5,bW 23 4 21 22,aS 24 1 23,aS 25 0 24,az 26 1 25,U 27 1,bZ 28 81 [26,27],U 1 28],ai [ab [U 29 1,aV .lss 30 29 0],.cond 30 (ai [ab [bE 4 (-1)],.ret]) .skip],ab [U 31 0,U 32 5,bW 33 4 31 32,aS 34 1 33,aS 35 1 34,az 36 1 35,U 37 1,bZ 38 81 [36,37],U 1 38],ai [ab [U 39 1,aV .lss 40 39 0],.cond 40 (ai [ab [bE 4 (-1)],.ret]) .skip],ab [U 41 0,U 42 5,bW 43 4 41 42,aS 44 1 43,aS 45 2 44,az 46 1 45,U 47 1,bZ 48 81 [46,47],U 1 48],ab [U 49 1,aV .lss 50 49 0],.cond 50 (ai [ab [bE 4 (-1)],.ret]) .skip]),ab [U 10 5,aV .add 11 10 1,U 5 11]])))],ab [U 51 1,U 4 51],.ret])
def ab1:List bz:=[.tmp 4]
theorem apD (NN:Nat) (x:ba (ak.aZ IX)):dt NN [YV] aez ab1 IX T4 x=N1 NN x:=by kernel_rfl
theorem amx:cF pX 55 aez.er ab1 2=true:=by decide+kernel
theorem aq9:dd pX 55 YU.M/\bP pX 55=true:=
  dw (args:=IX) (aw:=T4) (aD.cons ara<|aD.nil) cV amx vl fun x y h=>(apD aL x).trans (ajJ x y h)
def Ks:au:=⟨6,xD,aol,TW,Ib⟩
def aes:bt:=
 (ai [ab [di 3 3 0,di 4 3 1,di 5 2 2,cU 6],ab [bE 7 1048576],ab [cH 19 3 4,U 20 7,oX 21 (.call .live 43 [19,20]),U 7 21],ai [ab [U 22 7,aV .lss 23 22 0],.cond 23 (ai [ab [jN 6],.ret]) .skip],ab [cH 24 2 5,U 25 7,oX 26 (.call .live 44 [24,25]),U 7 26],ai [ab [U 27 7,aV .lss 28 27 0],.cond 28 (ai [ab [jN 6],.ret]) .skip],.ij true [cH 30 3 3,oX 31 (.call .live 21 [30]),cH 32 3 4,oX 33 (.call .live 46 [32]),cH 34 2 5,oX 35 (.call .live 47 [34]),oX 36 (.call .live 45 [31,33,35]),U 29 36,ud 37 0 29,ud 38 1 29,U 8 37,U 9 38],ab [cH 39 3 4,oX 40 (.call .live 46 [39]),qg 10 [.nil iX,.nil iX,.nil iX],fK 3 10 40],ab [cH 41 2 5,oX 42 (.call .live 47 [41]),oX 11 (.alloc [zX,.nil [lX]]),fK 2 11 42],.ij true [cH 44 3 3,oX 45 (.call .live 21 [44]),cH 46 3 10,cH 47 2 11,oX 48 (.call .live 48 [45,46,47]),U 43 48,ud 49 0 43,ud 50 1 43,U 12 49,U 13 50],ai [ab [U 51 12,U 52 8,oX 53 (.call .live 49 [51,52]),gN 54 53,U 55 54,bI 55 (U 56 13),bI 55 (U 57 9),bI 55 (oX 58 (.nE .neq 56 57)),iO 59 55 58],.cond 59 (ai [ab [cU 6],.ret]) .skip],ai [.ij true [cH 60 3 10,cH 61 3 4,oX 62 (.call .live 46 [61]),oX 63 (.call .live 50 [60,62]),gN 64 63],.cond 64 (ai [ab [cU 6],.ret]) .skip],ai [.ij true [cH 65 2 11,cH 66 2 5,oX 67 (.call .live 47 [66]),oX 68 (.call .live 51 [65,67]),gN 69 68],.cond 69 (ai [ab [cU 6],.ret]) .skip],ab [bE 14 1],ab [cH 70 3 10,U 71 14,oX 72 (.hZ .live 52 [70,71]),U 14 72],ab [cH 73 2 11,U 74 14,oX 75 (.hZ .live 53 [73,74]),U 14 75],ai [ab [U 76 14,aV .lss 77 76 0,U 78 77,bI 78 (U 79 12),bI 78 (U 80 8),bI 78 (oX 81 (.call .live 49 [79,80])),bI 78 (gN 82 81),iO 83 78 82,U 84 83,bI 84 (U 85 13),bI 84 (U 86 9),bI 84 (oX 87 (.nE .neq 85 86)),iO 88 84 87],.cond 88 (ai [ab [cU 6],.ret]) .skip],ab [bE 15 1],ab [U 89 12,U 90 15,oX 91 (.hZ .live 54 [89,90]),U 15 91],ab [bE 16 1],ab [U 92 12,U 93 16,oX 94 (.call .live 55 [92,93]),U 16 94],ai [ab [U 95 16,aV .lss 96 95 0],.cond 96 (ai [ab [cU 6],.ret]) .skip],ai [ab [U 97 16,U 98 15,bB .neq 99 97 98],.cond 99 (ai [ab [cU 6],.ret]) .skip],.ij true [cH 101 3 3,oX 102 (.call .live 21 [101]),cH 103 3 4,oX 104 (.call .live 46 [103]),cH 105 2 5,oX 106 (.call .live 47 [105]),oX 107 (.call .live 48 [102,104,106]),U 100 107,ud 108 0 100,ud 109 1 100,U 17 108,U 18 109],ai [ab [U 110 17,U 111 8,oX 112 (.call .live 49 [110,111]),gN 113 112,U 114 113,bI 114 (U 115 18),bI 114 (U 116 9),bI 114 (oX 117 (.nE .neq 115 116)),iO 118 114 117],.cond 118 (ai [ab [cU 6],.ret]) .skip],ab [bE 16 1],ab [U 119 12,U 120 16,oX 121 (.call .live 55 [119,120]),U 16 121],ai [ab [U 122 16,aV .lss 123 122 0],.cond 123 (ai [ab [cU 6],.ret]) .skip],ai [ab [U 124 16,U 125 15,bB .neq 126 124 125],.cond 126 (ai [ab [cU 6],.ret]) .skip],ab [jN 6],.ret])
def abU:List bz:=[.tmp 6]
theorem apw (NN:Nat) (x:ba (ak.aZ xD)):dt NN [Y2,Y0,Y5,Y6,Y3,Y7,Yy,YR,Qe,YS,YZ,YX,YW,YU] aes abU xD TW x=NX NN x:=by kernel_rfl
theorem amq:cF pX 6 aes.er abU 3=true:=by decide+kernel
theorem aq4:dd pX 6 Ks.M/\bP pX 6=true:=
  dw (args:=xD) (aw:=TW) (aD.cons arj<|aD.cons arh<|aD.cons arm<|aD.cons arn<|aD.cons ark<|aD.cons aro<|aD.cons aqM<|aD.cons aq6<|aD.cons ac5<|aD.cons aq7<|aD.uo arf<|aD.uo arc<|aD.uo arb<|aD.cons aq9<|aD.nil) cV amq Ib fun x y h=>(apw aL x).trans (ajC x y h)
end Go.Am
