/- A_BlockPair: the code of the functions of FnExactBlockPair. No condition. -/
import Derived.Test.YtaaeocdagekdcaaWT
import Derived.Test.YtaaeocdagekdcaaWT
import Derived.KernelRfl
import Derived.Test.YtaaeocdagekdcaaRows
set_option linter.unusedVariables false
set_option maxRecDepth 100000
namespace Go.Am
theorem cW:Go.Proofs.Try.prog.follows .mixedOrders=true:=by decide+kernel
noncomputable abbrev pX:=Go.Proofs.Try.prog
def oX (n:Nat) (x:fA):f7:=⟨some n,x,none⟩
def uX (x:fA):f7:=⟨none,x,none⟩
def kX (n:Int):eK:=.k (.one (.v (.int .i64) n))
def sX:lx:=.one (.c (.v (.int .i64)))
def iX:List Ty:=[.int .i64]
def lX:Ty:=.list iX
def zX:SC:=.v (.int .i64) (0:Int)
def vX:gE:=.c (.v (.int .i64))
def fX (n k:Nat):gE:=.c (.full n k)
def rX (n:Nat):gE:=.c (.MU n 0)
instance tX (n:Nat):OfNat eK n:=⟨.t n⟩
def bZ (s:Nat) (o:f7):f7:={o with guard:=some (s,true)}
def bC (s:Nat) (o:f7):f7:={o with guard:=some (s,false)}
def aa (d s:Nat):f7:=oX d (.mv (.t s))
def ao (d n s:Nat):f7:=oX d (.load false n (.t s))
def aU (d n s:Nat):f7:=oX d (.load true n (.t s))
def aL (d n s:Nat):f7:=oX d (.rQ n (.t s))
def bE (d n x i:Nat):f7:=oX d (.ru n (.t x) (.t i))
def gG (d n x:Nat) (i:Int):f7:=oX d (.ru n (.t x) (kX i))
def bM (d:Nat) (c:Int):f7:=oX d (.mv (kX c))
def bX1:eK:=.k (.one (.v .bool true))
def bX0:eK:=.k (.one (.v .bool false))
def j8 (d:Nat):f7:=oX d (.mv bX1)
def dj (d:Nat):f7:=oX d (.mv bX0)
def j9 (d c x:Nat):f7:=oX d (.pick (.t c) (.t x) bX0)
def ik (d c x:Nat):f7:=oX d (.pick (.t c) bX1 (.t x))
def aV (o:BinOp) (d x y:Nat):f7:=oX d (.bin o (.t x) (.t y))
def aK (o:BinOp) (d x:Nat) (c:Int):f7:=oX d (.bin o (.t x) (kX c))
def cH (d n s:Nat):f7:=oX d (.box n (.t s))
def ci (d s:Nat):f7:=oX d (.len (.t s))
def bA (d f:Nat) (l:List eK):f7:=oX d (.call .bq f l)
def gN (d s:Nat):f7:=oX d (.un .not (.t s))
def jr (d n s:Nat):f7:=oX d (.ext n (.t s))
def KE (d f:Nat) (l:List eK):f7:=oX d (.tR f l)
def cQ (n x v:Nat):f7:=uX (.store n (.t x) (.t v))
def iT (d:Nat) (l:List SC):f7:=oX d (.alloc l)
def jt (d:Nat):f7:=oX d (.mv (.k (.one (.nil iX))))
def af (l:List f7):bV:=.dM false l
def ai:List bV->bV
  |[]=>.skip
  |[a]=>a
  |a::l=>.seq a (ai l)
def dG (n e:Nat):bV:=.cond (.t n) .skip (.exit e)
def az (n:Nat):Nat×lx:=(n,sX)
def bz (n m k:Nat):Nat×lx:=(n,.one (fX m k))
def aH (n m:Nat):Nat×lx:=(n,.one (rX m))
def aw (n:Nat):Nat×jc:=(n,.row true .bq iX)
def aI:gE:=.c (.v lX)
def bi (n:Nat) (l:List gE):Nat×jc:=(n,.box l)
def aS (a b c:Nat):Bool×Nat×Nat×Nat×Mode×List Ty:=(true,a,b,c,.bq,[])
def bN (a c:Nat):Bool×Nat×Nat×Nat×Mode×List Ty:=(false,a,0,c,.bq,[])
def cP (n:Nat):Nat×lx:=(n,.one (.c (.v lX)))
def U6:aF:=⟨28,iv,dN,ew,vM⟩
def aj6:bV:=
 (ai [af [bM 4 0],af [aa 5 1,aa 6 0,ci 7 6,aV .sub 8 5 7,aa 1 8],ai [af [aa 9 1,aK .lss 10 9 0],.cond 10 (ai [af [bM 4 (-1)],.ret]) .skip],af [aa 11 1,aa 4 11],.ret])
def ahd:List bU:=[.tmp 4]
theorem awz (NN:Nat) (x:bt (aR.br iv)):dK NN [] aj6 ahd iv ew x=S6 NN x:=by kernel_rfl
theorem atD:cK pX 28 aj6.er ahd 2=true:=by decide+kernel
theorem aio:dz pX 28 U6.M/\cg pX 28=true:= dL (args:=iv) (aJ:=ew) (aA.nil) cW atD vM fun x y h=>(awz aN x).trans (apI x y h)
def ada:aF:=⟨5,sI,dN,ew,Ch⟩
def aj8:bV:=
 (ai [af [cH 2 3 0,bM 4 0],af [aL 5 0 2,ao 6 1 5,aa 7 1,bA 8 28 [6,7],aa 1 8],ai [af [aa 9 1,aK .lss 10 9 0],.cond 10 (ai [af [bM 4 (-1)],.ret]) .skip],af [aL 11 1 2,ao 12 1 11,aa 13 1,bA 14 28 [12,13],aa 1 14],ai [af [aa 15 1,aK .lss 16 15 0],.cond 16 (ai [af [bM 4 (-1)],.ret]) .skip],af [aL 17 2 2,ao 18 1 17,aa 19 1,bA 20 28 [18,19],aa 1 20],ai [af [aa 21 1,aK .lss 22 21 0],.cond 22 (ai [af [bM 4 (-1)],.ret]) .skip],af [aa 23 1,aa 4 23],.ret])
def ahf:List bU:=[.tmp 4]
theorem awB (NN:Nat) (x:bt (aR.br sI)):dK NN [U6] aj8 ahf sI ew x=S7 NN x:=by kernel_rfl
theorem atF:cK pX 5 aj8.er ahf 2=true:=by decide+kernel
theorem ayu:dz pX 5 ada.M/\cg pX 5=true:= dL (args:=sI) (aJ:=ew) (aA.cons aio<|aA.nil) cW atF Ch fun x y h=>(awB aN x).trans (apK x y h)
def ac9:aF:=⟨29,D7,dN,ew,GU⟩
def aj7:bV:=
 (ai [af [bM 4 0],af [aa 6 1,aa 7 0,ci 8 7,aV .sub 9 6 8,aa 1 9],ai [af [aa 10 1,aK .lss 11 10 0],.cond 11 (ai [af [bM 4 (-1)],.ret]) .skip],ai [af [bM 5 0],.join ⟨[az 1],[]⟩ [] [] (.block 0 (.loop 0 ⟨[(0,.one (.c (.v (.list [lX])))),az 1,az 5],[]⟩ [] [] (ai [ai [af [aa 12 5,aa 13 0,ci 14 13,aV .lss 15 12 14],dG 15 0],.block 1 (ai [af [aa 18 0,aa 19 5,bE 20 1 18 19,ao 21 1 20,aa 22 1,bA 23 28 [21,22],aa 1 23],af [aa 24 1,aK .lss 25 24 0],.cond 25 (ai [af [bM 4 (-1)],.ret]) .skip]),af [aa 16 5,aK .add 17 16 1,aa 5 17]])))],af [aa 26 1,aa 4 26],.ret])
def ahe:List bU:=[.tmp 4]
theorem awA (NN:Nat) (x:bt (aR.br D7)):dK NN [U6] aj7 ahe D7 ew x=aah NN x:=by kernel_rfl
theorem atE:cK pX 29 aj7.er ahe 2=true:=by decide+kernel
theorem ayt:dz pX 29 ac9.M/\cg pX 29=true:= dL (args:=D7) (aJ:=ew) (aA.cons aio<|aA.nil) cW atE GU fun x y h=>(awA aN x).trans (apJ x y h)
def ac8:aF:=⟨6,D3,dN,ew,Cg⟩
def aj5:bV:=
 (ai [af [cH 2 2 0,bM 4 0],af [aL 5 1 2,ao 6 1 5,aa 7 1,bA 8 29 [6,7],aa 1 8],ai [af [aa 9 1,aK .lss 10 9 0],.cond 10 (ai [af [bM 4 (-1)],.ret]) .skip],af [aa 11 1,aa 4 11],.ret])
def ahc:List bU:=[.tmp 4]
theorem awy (NN:Nat) (x:bt (aR.br D3)):dK NN [ac9] aj5 ahc D3 ew x=S5 NN x:=by kernel_rfl
theorem atC:cK pX 6 aj5.er ahc 2=true:=by decide+kernel
theorem ays:dz pX 6 ac8.M/\cg pX 6=true:= dL (args:=D3) (aJ:=ew) (aA.cons ayt<|aA.nil) cW atC Cg fun x y h=>(awy aN x).trans (apH x y h)
def adf:aF:=⟨8,iD,dN,iD,Eu⟩
def akc:bV:=
 (ai [af [cH 1 3 0,iT 2 [zX,zX,zX]],af [iT 3 [zX,zX,zX]],af [aL 4 0 1,ao 5 1 4,aL 6 0 3,cQ 1 6 5],af [aL 7 1 1,ao 8 1 7,aL 9 1 3,cQ 1 9 8],af [aL 10 2 1,ao 11 1 10,aL 12 2 3,cQ 1 12 11],af [aU 13 3 3,cQ 3 2 13],.ret])
def ahj:List bU:=[.cell 2 3 true]
theorem awF (NN:Nat) (x:bt (aR.br iD)):dK NN [] akc ahj iD iD x=aai NN x:=by kernel_rfl
theorem atK:cK pX 8 akc.er ahj 1=true:=by decide+kernel
theorem ayx:dz pX 8 adf.M/\cg pX 8=true:= dL (args:=iD) (aJ:=iD) (aA.nil) cW atK Eu fun x y h=>(awF aN x).trans (apO x y h)
def U7:aF:=⟨50,dw,dN,dw,yD⟩
def aka:bV:=
 (ai [af [jt 2],af [aa 5 0,ci 6 5,oX 7 (.ji .bq iX 8 (0:Int) 6 6),aa 3 7],ai [af [bM 4 0],.join ⟨[bz 3 701 1],[aw 701]⟩ [700,701] [bN 3 701] (.block 0 (.loop 0 ⟨[cP 0,bz 3 700 1,az 4],[aw 700]⟩ [7,700] [bN 3 700] (ai [ai [af [aa 8 4,aa 9 0,ci 10 9,aV .lss 11 8 10],dG 11 0],.block 1 (af [aa 14 3,aa 15 4,aa 16 0,aa 17 4,bE 18 1 16 17,ao 19 1 18,bE 20 1 14 15,cQ 1 20 19]),af [aa 12 4,aK .add 13 12 1,aa 4 13]])))],af [aa 21 3,aa 2 21],.ret])
def ahh:List bU:=[.tmp 2]
theorem awD (NN:Nat) (x:bt (aR.br dw)):dK NN [] aka ahh dw dw x=S9 NN x:=by kernel_rfl
theorem atH:cK pX 50 aka.er ahh 1=true:=by decide+kernel
theorem aip:dz pX 50 U7.M/\cg pX 50=true:= dL (args:=dw) (aJ:=dw) (aA.nil) cW atH yD fun x y h=>(awD aN x).trans (apM x y h)
def adg:aF:=⟨9,jo,dN,jo,sL⟩
def akd:bV:=
 (ai [af [cH 1 3 0,iT 2 [.nil iX,.nil iX,.nil iX]],af [iT 3 [.nil iX,.nil iX,.nil iX]],af [aL 4 0 1,ao 5 1 4,bA 6 50 [5],aL 7 0 3,cQ 1 7 6],af [aL 8 1 1,ao 9 1 8,bA 10 50 [9],aL 11 1 3,cQ 1 11 10],af [aL 12 2 1,ao 13 1 12,bA 14 50 [13],aL 15 2 3,cQ 1 15 14],af [aU 16 3 3,cQ 3 2 16],.ret])
def ahk:List bU:=[.cell 2 3 true]
theorem awG (NN:Nat) (x:bt (aR.br jo)):dK NN [U7] akd ahk jo jo x=Tb NN x:=by kernel_rfl
theorem atL:cK pX 9 akd.er ahk 1=true:=by decide+kernel
theorem ayy:dz pX 9 adg.M/\cg pX 9=true:= dL (args:=jo) (aJ:=jo) (aA.cons aip<|aA.nil) cW atL sL fun x y h=>(awG aN x).trans (apP x y h)
def ade:aF:=⟨51,zZ,dN,zZ,GV⟩
def akb:bV:=
 (ai [af [oX 2 (.mv (.k (.one (.nil [lX]))))],af [aa 5 0,ci 6 5,oX 7 (.ji .bq [lX] 24 [] 6 6),aa 3 7],ai [af [bM 4 0],.join ⟨[bz 3 701 1],[(701,.row true .bq [lX])]⟩ [700,701] [bN 3 701] (.block 0 (.loop 0 ⟨[(0,.one (.c (.v (.list [lX])))),bz 3 700 1,az 4],[(700,.row true .bq [lX])]⟩ [7,700] [bN 3 700] (ai [ai [af [aa 8 4,aa 9 0,ci 10 9,aV .lss 11 8 10],dG 11 0],.block 1 (af [aa 14 3,aa 15 4,aa 16 0,aa 17 4,bE 18 1 16 17,ao 19 1 18,bA 20 50 [19],bE 21 1 14 15,cQ 1 21 20]),af [aa 12 4,aK .add 13 12 1,aa 4 13]])))],af [aa 22 3,aa 2 22],.ret])
def ahi:List bU:=[.tmp 2]
theorem awE (NN:Nat) (x:bt (aR.br zZ)):dK NN [U7] akb ahi zZ zZ x=Ta NN x:=by kernel_rfl
theorem atJ:cK pX 51 akb.er ahi 1=true:=by decide+kernel
theorem ayw:dz pX 51 ade.M/\cg pX 51=true:= dL (args:=zZ) (aJ:=zZ) (aA.cons aip<|aA.nil) cW atJ GV fun x y h=>(awE aN x).trans (apN x y h)
def adb:aF:=⟨10,yl,dN,yl,sK⟩
def aj9:bV:=
 (ai [af [cH 1 2 0,oX 2 (.alloc [zX,.nil [lX]])],af [oX 3 (.alloc [zX,.nil [lX]])],af [aL 4 0 1,ao 5 1 4,aL 6 0 3,cQ 1 6 5],af [aL 7 1 1,ao 8 1 7,bA 9 51 [8],aL 10 1 3,cQ 1 10 9],af [aU 11 2 3,cQ 2 2 11],.ret])
def ahg:List bU:=[.cell 2 2 true]
theorem awC (NN:Nat) (x:bt (aR.br yl)):dK NN [ade] aj9 ahg yl yl x=S8 NN x:=by kernel_rfl
theorem atG:cK pX 10 aj9.er ahg 1=true:=by decide+kernel
theorem ayv:dz pX 10 adb.M/\cg pX 10=true:= dL (args:=yl) (aJ:=yl) (aA.cons ayw<|aA.nil) cW atG sK fun x y h=>(awC aN x).trans (apL x y h)
def H8:aF:=⟨120,Rh,dN,dR,nY⟩
def akn:bV:=
 (ai [af [dj 6],af [aa 7 0,aa 8 1,aV .geq 9 7 8,aa 10 9,bZ 10 (aa 11 0),bZ 10 (aa 12 2),bZ 10 (aV .leq 13 11 12),j9 14 10 13,aa 6 14],.ret])
def ahu:List bU:=[.tmp 6]
theorem awQ (NN:Nat) (x:bt (aR.br Rh)):dK NN [] akn ahu Rh dR x=Tj NN x:=by kernel_rfl
theorem atY:cK pX 120 akn.er ahu 3=true:=by decide+kernel
theorem MP:dz pX 120 H8.M/\cg pX 120=true:= dL (args:=Rh) (aJ:=dR) (aA.nil) cW atY nY fun x y h=>(awQ aN x).trans (apZ x y h)
def AO:aF:=⟨41,iv,dN,ew,mW⟩
def akv:bV:=
 (ai [af [bM 4 0],ai [af [aa 7 0,ci 8 7,bM 9 0],.join ⟨[],[]⟩ [] [] (.block 0 (.loop 0 ⟨[az 1,cP 7,az 8,az 9],[]⟩ [] [] (ai [af [aV .lss 10 9 8],dG 10 0,.block 1 (ai [af [aa 11 9,bE 12 1 7 9,ao 13 1 12,aa 5 11,aa 6 13],af [aa 14 6,aa 15 1,aV .eql 16 14 15],.cond 16 (ai [af [aa 17 5,aa 4 17],.ret]) .skip]),af [aK .add 18 9 1,aa 9 18]])))],af [bM 4 (-1)],.ret])
def ahC:List bU:=[.tmp 4]
theorem awY (NN:Nat) (x:bt (aR.br iv)):dK NN [] akv ahC iv ew x=To NN x:=by kernel_rfl
theorem at6:cK pX 41 akv.er ahC 2=true:=by decide+kernel
theorem DR:dz pX 41 AO.M/\cg pX 41=true:= dL (args:=iv) (aJ:=ew) (aA.nil) cW at6 mW fun x y h=>(awY aN x).trans (ap9 x y h)
def adr:aF:=⟨116,iS,dN,dR,G0⟩
def akt:bV:=
 (ai [af [dj 4],ai [af [aa 7 0,ci 8 7,aK .gtr 9 8 12,aa 10 9,bC 10 (aa 11 0),bC 10 (ci 12 11),bC 10 (aa 13 1),bC 10 (ci 14 13),bC 10 (aV .neq 15 12 14),ik 16 10 15],.cond 16 (ai [af [dj 4],.ret]) .skip],ai [af [aa 17 0,ci 18 17,bM 19 0],.join ⟨[],[]⟩ [] [] (.block 0 (.loop 0 ⟨[cP 0,cP 1,cP 17,az 18,az 19],[]⟩ [] [] (ai [af [aV .lss 20 19 18],dG 20 0,.block 1 (ai [af [aa 21 19,bE 22 1 17 19,ao 23 1 22,aa 5 21,aa 6 23],af [aa 24 6,bA 25 120 [24,(kX 0),(kX 99)],gN 26 25,aa 27 26,bC 27 (aa 28 1),bC 27 (aa 29 5),bC 27 (bE 30 1 28 29),bC 27 (ao 31 1 30),bC 27 (bA 32 120 [31,(kX 1),(kX 8)]),bC 27 (gN 33 32),ik 34 27 33,aa 35 34,bC 35 (aa 36 0),bC 35 (aa 37 5),bC 35 (oX 38 (.slice 1 36 none (some 37))),bC 35 (aa 39 6),bC 35 (bA 40 41 [38,39]),bC 35 (aK .geq 41 40 0),ik 42 35 41],.cond 42 (ai [af [dj 4],.ret]) .skip]),af [aK .add 43 19 1,aa 19 43]])))],af [j8 4],.ret])
def ahA:List bU:=[.tmp 4]
theorem awW (NN:Nat) (x:bt (aR.br iS)):dK NN [H8,AO] akt ahA iS dR x=Tm NN x:=by kernel_rfl
theorem at4:cK pX 116 akt.er ahA 2=true:=by decide+kernel
theorem ayJ:dz pX 116 adr.M/\cg pX 116=true:= dL (args:=iS) (aJ:=dR) (aA.cons MP<|aA.cons DR<|aA.nil) cW at4 G0 fun x y h=>(awW aN x).trans (ap7 x y h)
def AP:aF:=⟨43,iv,dN,ew,pC⟩
def akA:bV:=
 (ai [af [bM 4 0],af [bM 5 1],ai [af [aa 8 0,ci 9 8,bM 10 0],.join ⟨[az 5],[]⟩ [] [] (.block 0 (.loop 0 ⟨[az 1,az 5,cP 8,az 9,az 10],[]⟩ [] [] (ai [af [aV .lss 11 10 9],dG 11 0,.block 1 (ai [af [bE 12 1 8 10,ao 13 1 12,aa 7 13],af [aa 14 5,aa 15 7,aV .mul 16 14 15,aa 17 1,aK .add 18 17 1,oX 19 (.mm false 16 18),aa 5 19]]),af [aK .add 20 10 1,aa 10 20]])))],af [aa 21 5,aa 4 21],.ret])
def ahH:List bU:=[.tmp 4]
theorem aw3 (NN:Nat) (x:bt (aR.br iv)):dK NN [] akA ahH iv ew x=Tt NN x:=by kernel_rfl
theorem aub:cK pX 43 akA.er ahH 2=true:=by decide+kernel
theorem DT:dz pX 43 AP.M/\cg pX 43=true:= dL (args:=iv) (aJ:=ew) (aA.nil) cW aub pC fun x y h=>(aw3 aN x).trans (aqd x y h)
def Ln:aF:=⟨92,jo,dN,ew,rL⟩
def akm:bV:=
 (ai [af [cH 1 3 0,bM 2 0],ai [af [aL 4 0 1,ao 5 1 4,aL 6 1 1,ao 7 1 6,bA 8 116 [5,7],gN 9 8],.cond 9 (ai [af [bM 2 (-1)],.ret]) .skip],af [aL 10 1 1,ao 11 1 10,bA 12 43 [11,(kX 4096)],aa 3 12],ai [af [aa 13 3,aK .gtr 14 13 4096],.cond 14 (ai [af [bM 2 (-1)],.ret]) .skip],af [aa 15 3,aa 2 15],.ret])
def aht:List bU:=[.tmp 2]
theorem awP (NN:Nat) (x:bt (aR.br jo)):dK NN [adr,AP] akm aht jo ew x=Ti NN x:=by kernel_rfl
theorem atX:cK pX 92 akm.er aht 1=true:=by decide+kernel
theorem QK:dz pX 92 Ln.M/\cg pX 92=true:= dL (args:=jo) (aJ:=ew) (aA.cons ayJ<|aA.cons DT<|aA.nil) cW atX rL fun x y h=>(awP aN x).trans (apY x y h)
def adl:aF:=⟨125,ew,dN,dR,Cj⟩
def aki:bV:=
 (ai [af [dj 2],ai [af [bM 3 2],.join ⟨[az 0],[]⟩ [] [] (.block 0 (.loop 0 ⟨[az 0,az 3],[]⟩ [] [] (ai [ai [af [aa 4 3,aa 5 3,aV .mul 6 4 5,aa 7 0,aV .leq 8 6 7,aa 9 8,bZ 9 (aa 10 0),bZ 9 (aK .leq 11 10 1000003),j9 12 9 11],dG 12 0],.block 1 (ai [af [aa 15 0,aa 16 3,aV .rem 17 15 16,aK .eql 18 17 0],.cond 18 (ai [af [dj 2],.ret]) .skip]),af [aa 13 3,aK .add 14 13 1,aa 3 14]])))],af [aa 19 0,bA 20 120 [19,(kX 2),(kX 1000003)],aa 2 20],.ret])
def ahp:List bU:=[.tmp 2]
theorem awL (NN:Nat) (x:bt (aR.br ew)):dK NN [H8] aki ahp ew dR x=Tf NN x:=by kernel_rfl
theorem atT:cK pX 125 aki.er ahp 1=true:=by decide+kernel
theorem ayD:dz pX 125 adl.M/\cg pX 125=true:= dL (args:=ew) (aJ:=dR) (aA.cons MP<|aA.nil) cW atT Cj fun x y h=>(awL aN x).trans (apU x y h)
def adn:aF:=⟨119,iD,dN,dR,GY⟩
def akk:bV:=
 (ai [af [cH 1 3 0,dj 2],ai [af [aL 3 0 1,ao 4 1 3],.block 0 (ai [af [aK .eql 6 4 1,aa 5 6],.cond 5 (ai [af [aL 7 1 1,ao 8 1 7,aK .eql 9 8 0,aa 10 9,bZ 10 (aL 11 2 1),bZ 10 (ao 12 1 11),bZ 10 (aK .eql 13 12 0),j9 14 10 13,aa 2 14],.ret]) (ai [af [aK .eql 16 4 2,aa 15 16],.cond 15 (ai [af [aL 17 1 1,ao 18 1 17,bA 19 125 [18],aa 20 19,bZ 20 (aL 21 2 1),bZ 20 (ao 22 1 21),bZ 20 (aK .eql 23 22 0),j9 24 20 23,aa 2 24],.ret]) (ai [ai [af [aK .eql 26 4 3,aa 25 26],.join ⟨[(25,.one (.c (.v (.bool)))),az 4,aH 1 1],[bi 1 [vX,vX,vX]]⟩ [1] [] (.cond 25 .skip (ai [af [aK .eql 27 4 4,aa 25 27],.cond 25 .skip (af [aK .eql 28 4 5,aa 25 28])]))],.cond 25 (ai [af [aL 29 1 1,ao 30 1 29,bA 31 120 [30,(kX 1),(kX 1000000)],aa 32 31,bZ 32 (aL 33 2 1),bZ 32 (ao 34 1 33),bZ 32 (aK .eql 35 34 0),j9 36 32 35,aa 2 36],.ret]) (ai [af [aK .eql 38 4 6,aa 37 38],.cond 37 (ai [af [aL 39 1 1,ao 40 1 39,aK .eql 41 40 0,aa 42 41,bZ 42 (aL 43 2 1),bZ 42 (ao 44 1 43),bZ 42 (bA 45 120 [44,(kX 1),(kX 20)]),j9 46 42 45,aa 2 46],.ret]) (ai [af [aK .eql 48 4 7,aa 47 48],.cond 47 (ai [af [aL 49 1 1,ao 50 1 49,bA 51 125 [50],aa 52 51,bZ 52 (aL 53 2 1),bZ 52 (ao 54 1 53),bZ 52 (bA 55 120 [54,(kX 1),(kX 6)]),j9 56 52 55,aa 2 56],.ret]) (ai [af [aK .eql 58 4 8,aa 57 58],.cond 57 (ai [af [aL 59 1 1,ao 60 1 59,bA 61 125 [60],aa 62 61,bZ 62 (aL 63 1 1),bZ 62 (ao 64 1 63),bZ 62 (aK .gtr 65 64 2),j9 66 62 65,aa 67 66,bZ 67 (aL 68 2 1),bZ 67 (ao 69 1 68),bZ 67 (aK .eql 70 69 0),j9 71 67 70,aa 2 71],.ret]) .skip])])])])])])],af [dj 2],.ret])
def ahr:List bU:=[.tmp 2]
theorem awN (NN:Nat) (x:bt (aR.br iD)):dK NN [adl,H8] akk ahr iD dR x=Tg NN x:=by kernel_rfl
theorem atV:cK pX 119 akk.er ahr 1=true:=by decide+kernel
theorem ayF:dz pX 119 adn.M/\cg pX 119=true:= dL (args:=iD) (aJ:=dR) (aA.cons ayD<|aA.cons MP<|aA.nil) cW atV GY fun x y h=>(awN aN x).trans (apW x y h)
def Lo:aF:=⟨99,iD,dN,ew,yE⟩
def akr:bV:=
 (ai [af [cH 1 3 0,bM 2 0],ai [af [aL 3 0 1,ao 4 1 3],.block 0 (ai [af [aK .eql 6 4 7,aa 5 6],.cond 5 (ai [af [aL 7 2 1,ao 8 1 7,aa 2 8],.ret]) (ai [af [aK .eql 10 4 8,aa 9 10],.cond 9 (ai [af [bM 2 4],.ret]) .skip])])],af [bM 2 1],.ret])
def ahy:List bU:=[.tmp 2]
theorem awU (NN:Nat) (x:bt (aR.br iD)):dK NN [] akr ahy iD ew x=aak NN x:=by kernel_rfl
theorem at2:cK pX 99 akr.er ahy 1=true:=by decide+kernel
theorem QL:dz pX 99 Lo.M/\cg pX 99=true:= dL (args:=iD) (aJ:=ew) (aA.nil) cW at2 yE fun x y h=>(awU aN x).trans (ap5 x y h)
def adq:aF:=⟨121,iD,dN,ew,Kq⟩
def akq:bV:=
 (ai [af [cH 1 3 0,bM 2 0],ai [af [aL 3 0 1,ao 4 1 3],.block 0 (ai [af [aK .eql 6 4 1,aa 5 6],.cond 5 (ai [af [bM 2 1],.ret]) (ai [ai [af [aK .eql 8 4 3,aa 7 8],.join ⟨[(7,.one (.c (.v (.bool)))),az 4,aH 1 1],[bi 1 [vX,vX,vX]]⟩ [1] [] (.cond 7 .skip (ai [af [aK .eql 9 4 4,aa 7 9],.cond 7 .skip (af [aK .eql 10 4 5,aa 7 10])]))],.cond 7 (ai [af [aL 11 1 1,ao 12 1 11,aa 2 12],.ret]) (ai [af [aK .eql 14 4 6,aa 13 14],.cond 13 (ai [af [aL 15 2 1,ao 16 1 15,oX 17 (.bin .shl (kX 1) 16),aK .sub 18 17 1,aa 2 18],.ret]) .skip])])])],af [aL 19 1 1,ao 20 1 19,aK .sub 21 20 1,aa 2 21],.ret])
def ahx:List bU:=[.tmp 2]
theorem awT (NN:Nat) (x:bt (aR.br iD)):dK NN [] akq ahx iD ew x=aaj NN x:=by kernel_rfl
theorem at1:cK pX 121 akq.er ahx 1=true:=by decide+kernel
theorem ayI:dz pX 121 adq.M/\cg pX 121=true:= dL (args:=iD) (aJ:=ew) (aA.nil) cW at1 Kq fun x y h=>(awT aN x).trans (ap4 x y h)
def ado:aF:=⟨108,D4,dN,dR,Ck⟩
def akl:bV:=
 (ai [af [cH 2 3 0,cH 3 3 1,dj 4],af [aU 8 3 3,bA 9 92 [8],aa 5 9],ai [.dM true [aU 10 3 2,bA 11 119 [10],gN 12 11,aa 13 12,bC 13 (aa 14 5),bC 13 (aK .lss 15 14 0),ik 16 13 15,aa 17 16,bC 17 (aL 18 2 3),bC 17 (ao 19 1 18),bC 17 (ci 20 19),bC 17 (aa 21 5),bC 17 (aU 22 3 2),bC 17 (bA 23 99 [22]),bC 17 (aV .mul 24 21 23),bC 17 (aV .neq 25 20 24),ik 26 17 25],.cond 26 (ai [af [dj 4],.ret]) .skip],ai [af [aL 27 2 3,ao 28 1 27,ci 29 28,bM 30 0],.join ⟨[],[]⟩ [2] [] (.block 0 (.loop 0 ⟨[aH 2 2,cP 28,az 29,az 30],[bi 2 [vX,vX,vX]]⟩ [2,3] [] (ai [af [aV .lss 31 30 29],dG 31 0,.block 1 (ai [af [bE 32 1 28 30,ao 33 1 32,aa 7 33],af [aa 34 7,aU 35 3 2,bA 36 121 [35],bA 37 120 [34,(kX 0),36],gN 38 37],.cond 38 (ai [af [dj 4],.ret]) .skip]),af [aK .add 39 30 1,aa 30 39]])))],af [j8 4],.ret])
def ahs:List bU:=[.tmp 4]
theorem awO (NN:Nat) (x:bt (aR.br D4)):dK NN [Ln,adn,Lo,adq,H8] akl ahs D4 dR x=Th NN x:=by kernel_rfl
theorem atW:cK pX 108 akl.er ahs 2=true:=by decide+kernel
theorem ayG:dz pX 108 ado.M/\cg pX 108=true:= dL (args:=D4) (aJ:=dR) (aA.cons QK<|aA.cons ayF<|aA.cons QL<|aA.cons ayI<|aA.cons MP<|aA.nil) cW atW Ck fun x y h=>(awO aN x).trans (apX x y h)
def adi:aF:=⟨109,wP,dN,dR,Ci⟩
def akf:bV:=
 (ai [af [cH 2 3 0,cH 3 2 1,dj 4],ai [af [aU 9 3 2,bA 10 92 [9],aK .lss 11 10 0,aa 12 11,bC 12 (aL 13 0 3),bC 12 (ao 14 1 13),bC 12 (bA 15 120 [14,(kX 1),(kX 12)]),bC 12 (gN 16 15),ik 17 12 16,aa 18 17,bC 18 (aL 19 1 3),bC 18 (ao 20 1 19),bC 18 (ci 21 20),bC 18 (aL 22 1 2),bC 18 (ao 23 1 22),bC 18 (ci 24 23),bC 18 (aV .neq 25 21 24),ik 26 18 25],.cond 26 (ai [af [dj 4],.ret]) .skip],ai [af [aL 27 1 2,ao 28 1 27,ci 29 28,bM 30 0],.join ⟨[],[]⟩ [3] [] (.block 0 (.loop 0 ⟨[aH 3 3,cP 28,az 29,az 30],[(3,.box [vX,.c (.v (.list [lX]))])]⟩ [2,3] [] (ai [af [aV .lss 31 30 29],dG 31 0,.join ⟨[az 30,aH 3 3,cP 28,az 29],[(3,.box [vX,.c (.v (.list [lX]))])]⟩ [3] [] (.block 1 (ai [af [aa 32 30,bE 33 1 28 30,ao 34 1 33,aa 5 32,aa 6 34],ai [af [aL 35 1 3,ao 36 1 35,aa 37 5,bE 38 1 36 37,ao 39 1 38,ci 40 39,aa 41 6,aV .neq 42 40 41],.cond 42 (ai [af [dj 4],.ret]) .skip],af [aL 43 1 3,ao 44 1 43,aa 45 5,bE 46 1 44 45,ao 47 1 46,ci 48 47,bM 49 0],.block 2 (.loop 0 ⟨[aH 3 3,cP 28,az 29,az 30,cP 47,az 48,az 49],[(3,.box [vX,.c (.v (.list [lX]))])]⟩ [3] [] (ai [af [aV .lss 50 49 48],dG 50 2,.block 3 (ai [af [bE 51 1 47 49,ao 52 1 51,aa 8 52],af [aa 53 8,aL 54 0 3,ao 55 1 54,aK .sub 56 55 1,bA 57 120 [53,(kX 0),56],gN 58 57],.cond 58 (ai [af [dj 4],.ret]) .skip]),af [aK .add 59 49 1,aa 49 59]]))])),af [aK .add 60 30 1,aa 30 60]])))],af [j8 4],.ret])
def ahm:List bU:=[.tmp 4]
theorem awI (NN:Nat) (x:bt (aR.br wP)):dK NN [Ln,H8] akf ahm wP dR x=Tc NN x:=by kernel_rfl
theorem atP:cK pX 109 akf.er ahm 2=true:=by decide+kernel
theorem ayA:dz pX 109 adi.M/\cg pX 109=true:= dL (args:=wP) (aJ:=dR) (aA.cons QK<|aA.cons MP<|aA.nil) cW atP Ci fun x y h=>(awI aN x).trans (apR x y h)
def H9:aF:=⟨93,dw,dN,dw,mw⟩
def aky:bV:=
 (ai [af [jt 2],af [oX 3 (.gk iX []),aa 4 0,oX 5 (.append true iX 8 3 4),aa 2 5],.ret])
def ahF:List bU:=[.tmp 2]
theorem aw1 (NN:Nat) (x:bt (aR.br dw)):dK NN [] aky ahF dw dw x=Tr NN x:=by kernel_rfl
theorem at9:cK pX 93 aky.er ahF 1=true:=by decide+kernel
theorem MQ:dz pX 93 H9.M/\cg pX 93=true:= dL (args:=dw) (aJ:=dw) (aA.nil) cW at9 mw fun x y h=>(aw1 aN x).trans (aqb x y h)
def ads:aF:=⟨110,jo,dN,jo,G4⟩
def aku:bV:=
 (ai [af [cH 1 3 0,iT 2 [.nil iX,.nil iX,.nil iX]],.dM true [aL 3 0 1,ao 4 1 3,bA 5 93 [4],aL 6 1 1,ao 7 1 6,bA 8 93 [7],aL 9 2 1,ao 10 1 9,bA 11 93 [10],oX 12 (.build [.nil iX,.nil iX,.nil iX] [(0,1,5),(1,1,8),(2,1,11)]),cQ 3 2 12],.ret])
def ahB:List bU:=[.cell 2 3 true]
theorem awX (NN:Nat) (x:bt (aR.br jo)):dK NN [H9] aku ahB jo jo x=Tn NN x:=by kernel_rfl
theorem at5:cK pX 110 aku.er ahB 1=true:=by decide+kernel
theorem ayK:dz pX 110 ads.M/\cg pX 110=true:= dL (args:=jo) (aJ:=jo) (aA.cons MQ<|aA.nil) cW at5 G4 fun x y h=>(awX aN x).trans (ap8 x y h)
def O8:aF:=⟨46,iv,dN,dw,xg⟩
def akx:bV:=
 (ai [af [jt 4],af [aa 7 0,ci 8 7,oX 9 (.ji .bq iX 8 (0:Int) 8 8),aa 5 9],ai [af [aa 10 0,ci 11 10,aK .sub 12 11 1,aa 6 12],.join ⟨[bz 5 701 1],[aw 701]⟩ [700,701] [bN 5 701] (.block 0 (.loop 0 ⟨[cP 0,az 1,bz 5 700 1,az 6],[aw 700]⟩ [9,700] [bN 5 700] (ai [ai [af [aa 13 6,aK .geq 14 13 0],dG 14 0],.block 1 (ai [af [aa 17 5,aa 18 6,aa 19 1,aa 20 0,aa 21 6,bE 22 1 20 21,ao 23 1 22,aV .rem 24 19 23,bE 25 1 17 18,cQ 1 25 24],af [aa 26 1,aa 27 0,aa 28 6,bE 29 1 27 28,ao 30 1 29,aV .quo 31 26 30,aa 1 31]]),af [aa 15 6,aK .sub 16 15 1,aa 6 16]])))],af [aa 32 5,aa 4 32],.ret])
def ahE:List bU:=[.tmp 4]
theorem aw0 (NN:Nat) (x:bt (aR.br iv)):dK NN [] akx ahE iv dw x=Tq NN x:=by kernel_rfl
theorem at8:cK pX 46 akx.er ahE 2=true:=by decide+kernel
theorem Yc:dz pX 46 O8.M/\cg pX 46=true:= dL (args:=iv) (aJ:=dw) (aA.nil) cW at8 xg fun x y h=>(aw0 aN x).trans (acf x y h)
def adE:aF:=⟨111,wT,dN,ew,Ey⟩
def akR:bV:=
 (ai [af [cH 2 2 0,bM 4 0],af [bM 5 0],ai [af [aa 8 1,ci 9 8,bM 10 0],.join ⟨[az 5,aH 2 2],[(2,.box [vX,.c (.v (.list [lX]))])]⟩ [2] [] (.block 0 (.loop 0 ⟨[aH 2 2,az 5,cP 8,az 9,az 10],[(2,.box [vX,.c (.v (.list [lX]))])]⟩ [2] [] (ai [af [aV .lss 11 10 9],dG 11 0,.block 1 (ai [af [aa 12 10,bE 13 1 8 10,ao 14 1 13,aa 6 12,aa 7 14],af [aa 15 5,aL 16 1 2,ao 17 1 16,aa 18 6,bE 19 1 17 18,ao 20 1 19,aa 21 7,bE 22 1 20 21,ao 23 1 22,aV .add 24 15 23,aa 5 24]]),af [aK .add 25 10 1,aa 10 25]])))],af [aa 26 5,aL 27 0 2,ao 28 1 27,aV .rem 29 26 28,aa 4 29],.ret])
def ahY:List bU:=[.tmp 4]
theorem axk (NN:Nat) (x:bt (aR.br wT)):dK NN [] akR ahY wT ew x=TE NN x:=by kernel_rfl
theorem aus:cK pX 111 akR.er ahY 2=true:=by decide+kernel
theorem ayW:dz pX 111 adE.M/\cg pX 111=true:= dL (args:=wT) (aJ:=ew) (aA.nil) cW aus Ey fun x y h=>(axk aN x).trans (aqu x y h)
def U9:aF:=⟨94,iD,dN,dw,Ev⟩
def aks:bV:=
 (ai [af [cH 1 3 0,jt 2],af [aU 4 3 1,bA 5 99 [4],oX 6 (.ji .bq iX 8 (0:Int) 5 5),aa 3 6],ai [af [aL 7 0 1,ao 8 1 7,aK .eql 9 8 4],.join ⟨[bz 3 700 1],[aw 700]⟩ [1,6,700] [bN 3 700] (.cond 9 (af [aa 10 3,aL 11 1 1,ao 12 1 11,gG 13 1 10 0,cQ 1 13 12]) .skip)],af [aa 14 3,aa 2 14],.ret])
def ahz:List bU:=[.tmp 2]
theorem awV (NN:Nat) (x:bt (aR.br iD)):dK NN [Lo] aks ahz iD dw x=aal NN x:=by kernel_rfl
theorem at3:cK pX 94 aks.er ahz 1=true:=by decide+kernel
theorem air:dz pX 94 U9.M/\cg pX 94=true:= dL (args:=iD) (aJ:=dw) (aA.cons QL<|aA.nil) cW at3 Ev fun x y h=>(awV aN x).trans (ap6 x y h)
def O9:aF:=⟨47,Rj,Rk,dw,xi⟩
def akB:bV:=
 (ai [af [cH 4 3 0,cH 5 3 1],af [aU 10 3 4,bA 11 99 [10],aa 8 11],af [aa 12 3,ci 13 12,bM 14 0],.block 0 (.loop 0 ⟨[az 2,cP 3,aH 5 5,az 8,az 13,az 14],[(1000000,.row false .bq iX),bi 5 [aI,aI,fX 1000000 1]]⟩ [1000000,4,5,700] [aS 5 2 700] (ai [af [aV .lss 15 14 13],dG 15 0,.block 1 (ai [af [aa 16 14,aa 9 16],.dM true [aL 17 2 5,ao 18 1 17,aa 19 2,aa 20 8,aV .mul 21 19 20,aa 22 9,aV .add 23 21 22,aa 24 3,aa 25 9,bE 26 1 24 25,ao 27 1 26,bE 28 1 18 23,cQ 1 28 27]]),af [aK .add 29 14 1,aa 14 29]]))])
def ahI:List bU:=[]
theorem aw4 (NN:Nat) (x:bt (aR.br Rj)):zW NN [Lo] akB ahI Rj Rk dw x=Tu NN x:=by kernel_rfl
theorem auc:cK pX 47 akB.er ahI 4=true:=by decide+kernel
theorem Yd:uM pX 47 Rk O9.MM/\cg pX 47=true:= DF (args:=Rj) (mu:=Rk) (aJ:=dw) (aA.cons QL<|aA.nil) cW auc xi fun x y h=>(aw4 aN x).trans (aqe x y h)
def adj:aF:=⟨67,sG,dN,JN,GW⟩
def akg:bV:=
 (ai [af [cH 3 3 0,cH 4 3 1,cH 5 2 2,iT 6 [.nil iX,.nil iX,.nil iX],dj 7],ai [af [aU 10 3 3,aU 11 3 4,bA 12 108 [10,11],gN 13 12,aa 14 13,bC 14 (aU 15 3 4),bC 14 (aU 16 2 5),bC 14 (bA 17 109 [15,16]),bC 14 (gN 18 17),ik 19 14 18],.cond 19 (ai [af [oX 20 (.build [.nil iX,.nil iX,.nil iX] []),cQ 3 6 20,dj 7],.ret]) .skip],af [aU 21 3 4,bA 22 110 [21],iT 8 [.nil iX,.nil iX,.nil iX],cQ 3 8 22],ai [af [bM 9 0],.join ⟨[aH 8 8,aH 6 6],[bi 6 [fX 706 1,fX 707 1,fX 708 1],bi 8 [fX 709 1,fX 710 1,fX 711 1],aw 706,aw 707,aw 708,aw 709,aw 710,aw 711]⟩ [3,4,5,6,8,700,701,702,703,704,705,706,707,708,709,710,711] [aS 6 0 706,aS 6 1 707,aS 6 2 708,aS 8 0 709,aS 8 1 710,aS 8 2 711] (.block 0 (.loop 0 ⟨[aH 3 3,aH 4 4,aH 5 5,aH 6 6,aH 8 8,az 9],[bi 3 [vX,vX,vX],bi 4 [aI,aI,aI],(5,.box [vX,.c (.v (.list [lX]))]),bi 6 [fX 700 1,fX 701 1,fX 702 1],bi 8 [fX 703 1,fX 704 1,fX 705 1],aw 700,aw 701,aw 702,aw 703,aw 704,aw 705]⟩ [3,4,5,6,23000,23001,23002,8,35000,42000,700,701,702,703,704,705] [aS 6 0 700,aS 6 1 701,aS 6 2 702,aS 8 0 703,aS 8 1 704,aS 8 2 705] (ai [ai [af [aa 23 9,aL 24 1 4,ao 25 1 24,bA 26 43 [25,(kX 4096)],aV .lss 27 23 26],dG 27 0],.block 1 (ai [.dM true [aU 30 2 5,aL 31 1 4,ao 32 1 31,aa 33 9,bA 34 46 [32,33],bA 35 111 [30,34],aK .neq 36 35 0],.cond 36 (.dM true [aU 37 3 3,aU 38 3 8,aa 39 9,aU 40 3 3,bA 41 94 [40],oX 42 (.kH .bq 47 [37,38,39,41])]) .skip]),af [aa 28 9,aK .add 29 28 1,aa 9 29]])))],af [aU 43 3 8,cQ 3 6 43,j8 7],.ret])
def ahn:List bU:=[.cell 6 3 true,.tmp 7]
theorem awJ (NN:Nat) (x:bt (aR.br sG)):dK NN [ado,adi,ads,AP,O8,adE,U9,O9] akg ahn sG JN x=Td NN x:=by kernel_rfl
theorem atQ:cK pX 67 akg.er ahn 3=true:=by decide+kernel
theorem ayB:dz pX 67 adj.M/\cg pX 67=true:= dL (args:=sG) (aJ:=JN) (aA.cons ayG<|aA.cons ayA<|aA.cons ayK<|aA.cons DT<|aA.cons Yc<|aA.cons ayW<|aA.cons air<|aA.vS Yd<|aA.nil) cW atQ GW fun x y h=>(awJ aN x).trans (apS x y h)
def adt:aF:=⟨91,iS,dN,dR,Cm⟩
def akD:bV:=
 (ai [af [dj 4],ai [af [aa 7 0,ci 8 7,bM 9 0],.join ⟨[cP 0,cP 1],[]⟩ [] [] (.block 0 (.loop 0 ⟨[cP 0,cP 1,cP 7,az 8,az 9],[]⟩ [] [] (ai [af [aV .lss 10 9 8],dG 10 0,.block 1 (ai [af [aa 11 9,bE 12 1 7 9,ao 13 1 12,aa 5 11,aa 6 13],af [aa 14 5,aa 15 1,ci 16 15,aV .geq 17 14 16,aa 18 17,bC 18 (aa 19 1),bC 18 (aa 20 5),bC 18 (bE 21 1 19 20),bC 18 (ao 22 1 21),bC 18 (aa 23 6),bC 18 (aV .neq 24 22 23),ik 25 18 24],.cond 25 (ai [af [dj 4],.ret]) .skip]),af [aK .add 26 9 1,aa 9 26]])))],af [aa 27 0,ci 28 27,aa 29 1,ci 30 29,aV .eql 31 28 30,aa 4 31],.ret])
def ahK:List bU:=[.tmp 4]
theorem aw6 (NN:Nat) (x:bt (aR.br iS)):dK NN [] akD ahK iS dR x=Tw NN x:=by kernel_rfl
theorem aue:cK pX 91 akD.er ahK 2=true:=by decide+kernel
theorem ayL:dz pX 91 adt.M/\cg pX 91=true:= dL (args:=iS) (aJ:=dR) (aA.nil) cW aue Cm fun x y h=>(aw6 aN x).trans (aqg x y h)
def adk:aF:=⟨30,sG,dN,dR,vN⟩
def akh:bV:=
 (ai [af [cH 3 3 0,cH 4 3 1,cH 5 2 2,dj 6],af [aU 10 3 3,aU 11 3 4,aU 12 2 5,bA 13 67 [10,11,12],aa 9 13,jr 14 0 9,jr 15 1 9,iT 7 [.nil iX,.nil iX,.nil iX],cQ 3 7 14,aa 8 15],af [aa 16 8,aa 17 16,bZ 17 (aL 18 2 7),bZ 17 (ao 19 1 18),bZ 17 (aL 20 2 4),bZ 17 (ao 21 1 20),bZ 17 (bA 22 91 [19,21]),j9 23 17 22,aa 6 23],.ret])
def aho:List bU:=[.tmp 6]
theorem awK (NN:Nat) (x:bt (aR.br sG)):dK NN [adj,adt] akh aho sG dR x=Te NN x:=by kernel_rfl
theorem atS:cK pX 30 akh.er aho 3=true:=by decide+kernel
theorem ayC:dz pX 30 adk.M/\cg pX 30=true:= dL (args:=sG) (aJ:=dR) (aA.cons ayB<|aA.cons ayL<|aA.nil) cW atS vN fun x y h=>(awK aN x).trans (apT x y h)
def adD:aF:=⟨31,D5,dN,dR,Hc⟩
def akQ:bV:=
 (ai [af [cH 4 3 0,cH 5 2 1,cH 6 3 2,cH 7 2 3,dj 8],ai [af [aL 14 0 4,ao 15 1 14,ci 16 15,bM 17 0],.join ⟨[],[]⟩ [5,6,7] [] (.block 0 (.loop 0 ⟨[aH 5 5,aH 6 6,aH 7 7,cP 15,az 16,az 17],[(5,.box [vX,.c (.v (.list [lX]))]),bi 6 [aI,aI,aI],(7,.box [vX,.c (.v (.list [lX]))])]⟩ [4,5,6,7] [] (ai [af [aV .lss 18 17 16],dG 18 0,.join ⟨[az 17,aH 5 5,aH 6 6,aH 7 7,cP 15,az 16],[(5,.box [vX,.c (.v (.list [lX]))]),bi 6 [aI,aI,aI],(7,.box [vX,.c (.v (.list [lX]))])]⟩ [5,6,7] [] (.block 1 (ai [af [aa 19 17,bE 20 1 15 17,ao 21 1 20,aa 9 19,aa 10 21],af [aL 22 0 6,ao 23 1 22,aa 24 10,bA 25 41 [23,24],aa 11 25],ai [af [aa 26 11,aK .lss 27 26 0],.cond 27 (.exit 1) .skip],ai [af [aL 28 1 5,ao 29 1 28,aa 30 9,bE 31 1 29 30,ao 32 1 31,ci 33 32,bM 34 0],.join ⟨[az 9,az 11,az 17,aH 5 5,aH 6 6,aH 7 7,cP 15,az 16],[(5,.box [vX,.c (.v (.list [lX]))]),bi 6 [aI,aI,aI],(7,.box [vX,.c (.v (.list [lX]))])]⟩ [5,6,7] [] (.block 2 (.loop 0 ⟨[aH 5 5,aH 6 6,aH 7 7,az 9,az 11,cP 15,az 16,az 17,cP 32,az 33,az 34],[(5,.box [vX,.c (.v (.list [lX]))]),bi 6 [aI,aI,aI],(7,.box [vX,.c (.v (.list [lX]))])]⟩ [5,6,7] [] (ai [af [aV .lss 35 34 33],dG 35 2,.block 3 (ai [af [aa 36 34,bE 37 1 32 34,ao 38 1 37,aa 12 36,aa 13 38],.dM true [aa 39 12,aL 40 1 7,ao 41 1 40,aa 42 11,bE 43 1 41 42,ao 44 1 43,ci 45 44,aV .geq 46 39 45,aa 47 46,bC 47 (aa 48 13),bC 47 (aL 49 1 7),bC 47 (ao 50 1 49),bC 47 (aa 51 11),bC 47 (bE 52 1 50 51),bC 47 (ao 53 1 52),bC 47 (aa 54 12),bC 47 (bE 55 1 53 54),bC 47 (ao 56 1 55),bC 47 (aV .add 57 48 56),bC 47 (aL 58 0 5),bC 47 (ao 59 1 58),bC 47 (aV .rem 60 57 59),bC 47 (aK .neq 61 60 0),ik 62 47 61],.cond 62 (ai [af [dj 8],.ret]) .skip]),af [aK .add 63 34 1,aa 34 63]])))],.dM true [aL 64 1 5,ao 65 1 64,aa 66 9,bE 67 1 65 66,ao 68 1 67,ci 69 68,aL 70 1 7,ao 71 1 70,aa 72 11,bE 73 1 71 72,ao 74 1 73,ci 75 74,aV .neq 76 69 75],.cond 76 (ai [af [dj 8],.ret]) .skip])),af [aK .add 77 17 1,aa 17 77]])))],af [j8 8],.ret])
def ahX:List bU:=[.tmp 8]
theorem axj (NN:Nat) (x:bt (aR.br D5)):dK NN [AO] akQ ahX D5 dR x=N4 NN x:=by kernel_rfl
theorem aur:cK pX 31 akQ.er ahX 4=true:=by decide+kernel
theorem ayV:dz pX 31 adD.M/\cg pX 31=true:= dL (args:=D5) (aJ:=dR) (aA.cons DR<|aA.nil) cW aur Hc fun x y h=>(axj aN x).trans (aqt x y h)
def adx:aF:=⟨32,wV,dN,dw,Ew⟩
def akJ:bV:=
 (ai [af [cH 2 3 0,jt 4],af [oX 8 (.gk iX []),aa 5 8],ai [af [aL 9 0 2,ao 10 1 9,ci 11 10,bM 12 0],.join ⟨[bz 5 701 1],[aw 701]⟩ [700,701] [bN 5 701] (.block 0 (.loop 0 ⟨[cP 1,bz 5 700 1,cP 10,az 11,az 12],[aw 700]⟩ [2,8,22,23,700] [bN 5 700] (ai [af [aV .lss 13 12 11],dG 13 0,.block 1 (ai [af [bE 14 1 10 12,ao 15 1 14,aa 7 15],af [aa 16 1,aa 17 7,bA 18 41 [16,17],aK .lss 19 18 0],.cond 19 (af [aa 20 5,aa 21 7,oX 22 (.gk iX [21]),oX 23 (.append true iX 8 20 22),aa 5 23]) .skip]),af [aK .add 24 12 1,aa 12 24]])))],af [aa 25 5,aa 4 25],.ret])
def ahQ:List bU:=[.tmp 4]
theorem axc (NN:Nat) (x:bt (aR.br wV)):dK NN [AO] akJ ahQ wV dw x=N2 NN x:=by kernel_rfl
theorem auk:cK pX 32 akJ.er ahQ 2=true:=by decide+kernel
theorem ayP:dz pX 32 adx.M/\cg pX 32=true:= dL (args:=wV) (aJ:=dw) (aA.cons DR<|aA.nil) cW auk Ew fun x y h=>(axc aN x).trans (aqm x y h)
def Lp:aF:=⟨34,pw,dN,JP,yF⟩
def akF:bV:=
 (ai [af [cH 2 3 0,cH 3 3 1,jt 4,jt 5,dj 6],af [aL 12 0 2,ao 13 1 12,bA 14 93 [13],aa 7 14],af [aL 15 1 2,ao 16 1 15,bA 17 93 [16],aa 8 17],ai [af [aL 18 0 3,ao 19 1 18,ci 20 19,bM 21 0],.join ⟨[bz 7 702 1,bz 8 703 1],[aw 702,aw 703]⟩ [3,700,701,702,703] [bN 7 702,bN 8 703] (.block 0 (.loop 0 ⟨[aH 3 3,bz 7 700 1,bz 8 701 1,cP 19,az 20,az 21],[bi 3 [aI,aI,aI],aw 700,aw 701]⟩ [2,3,15000,18000,47,48,55,56,700,701] [bN 7 700,bN 8 701] (ai [af [aV .lss 22 21 20],dG 22 0,.block 1 (ai [af [aa 23 21,bE 24 1 19 21,ao 25 1 24,aa 9 23,aa 10 25],af [aa 26 7,aa 27 10,bA 28 41 [26,27],aa 11 28],ai [.dM true [aa 29 11,aK .geq 30 29 0,aa 31 30,bZ 31 (aa 32 8),bZ 31 (aa 33 11),bZ 31 (bE 34 1 32 33),bZ 31 (ao 35 1 34),bZ 31 (aL 36 1 3),bZ 31 (ao 37 1 36),bZ 31 (aa 38 9),bZ 31 (bE 39 1 37 38),bZ 31 (ao 40 1 39),bZ 31 (aV .neq 41 35 40),j9 42 31 41],.cond 42 (ai [af [jt 4,jt 5,dj 6],.ret]) .skip],af [aa 43 11,aK .lss 44 43 0],.cond 44 (ai [af [aa 45 7,aa 46 10,oX 47 (.gk iX [46]),oX 48 (.append true iX 8 45 47),aa 7 48],af [aa 49 8,aL 50 1 3,ao 51 1 50,aa 52 9,bE 53 1 51 52,ao 54 1 53,oX 55 (.gk iX [54]),oX 56 (.append true iX 8 49 55),aa 8 56]]) .skip]),af [aK .add 57 21 1,aa 21 57]])))],af [aa 58 7,aa 59 8,aa 4 58,aa 5 59,j8 6],.ret])
def ahM:List bU:=[.tmp 4,.tmp 5,.tmp 6]
theorem aw8 (NN:Nat) (x:bt (aR.br pw)):dK NN [H9,AO] akF ahM pw JP x=NY NN x:=by kernel_rfl
theorem aug:cK pX 34 akF.er ahM 2=true:=by decide+kernel
theorem QM:dz pX 34 Lp.M/\cg pX 34=true:= dL (args:=pw) (aJ:=JP) (aA.cons MQ<|aA.cons DR<|aA.nil) cW aug yF fun x y h=>(aw8 aN x).trans (aqi x y h)
def Pa:aF:=⟨35,Rn,dN,jo,Aj⟩
def akG:bV:=
 (ai [af [iT 6 [.nil iX,.nil iX,.nil iX]],af [oX 10 (.build [.nil iX,.nil iX,.nil iX] []),iT 7 [.nil iX,.nil iX,.nil iX],cQ 3 7 10],ai [af [aa 11 0,ci 12 11,bM 13 0],.join ⟨[aH 7 7,aH 6 6],[bi 6 [fX 706 1,fX 707 1,fX 708 1],bi 7 [fX 709 1,fX 710 1,fX 711 1],aw 706,aw 707,aw 708,aw 709,aw 710,aw 711]⟩ [6,7,700,701,702,703,704,705,706,707,708,709,710,711] [aS 6 0 706,aS 6 1 707,aS 6 2 708,aS 7 0 709,aS 7 1 710,aS 7 2 711] (.block 0 (.loop 0 ⟨[cP 1,cP 2,aH 6 6,aH 7 7,cP 11,az 12,az 13],[bi 6 [fX 700 1,fX 701 1,fX 702 1],bi 7 [fX 703 1,fX 704 1,fX 705 1],aw 700,aw 701,aw 702,aw 703,aw 704,aw 705]⟩ [6,7,25,26,34,35,700,701,702,703,704,705] [aS 6 0 700,aS 6 1 701,aS 6 2 702,aS 7 0 703,aS 7 1 704,aS 7 2 705] (ai [af [aV .lss 14 13 12],dG 14 0,.block 1 (ai [af [aa 15 13,bE 16 1 11 13,ao 17 1 16,aa 8 15,aa 9 17],af [aa 18 2,aa 19 9,bA 20 41 [18,19],aK .geq 21 20 0],.cond 21 (ai [af [aL 22 0 7,ao 23 1 22,aa 24 9,oX 25 (.gk iX [24]),oX 26 (.append true iX 8 23 25),aL 27 0 7,cQ 1 27 26],.dM true [aL 28 1 7,ao 29 1 28,aa 30 1,aa 31 8,bE 32 1 30 31,ao 33 1 32,oX 34 (.gk iX [33]),oX 35 (.append true iX 8 29 34),aL 36 1 7,cQ 1 36 35]]) .skip]),af [aK .add 37 13 1,aa 13 37]])))],af [aU 38 3 7,cQ 3 6 38],.ret])
def ahN:List bU:=[.cell 6 3 true]
theorem aw9 (NN:Nat) (x:bt (aR.br Rn)):dK NN [AO] akG ahN Rn jo x=NZ NN x:=by kernel_rfl
theorem auh:cK pX 35 akG.er ahN 3=true:=by decide+kernel
theorem Ye:dz pX 35 Pa.M/\cg pX 35=true:= dL (args:=Rn) (aJ:=jo) (aA.cons DR<|aA.nil) cW auh Aj fun x y h=>(aw9 aN x).trans (aqj x y h)
def adu:aF:=⟨33,Ro,dN,dR,G5⟩
def akE:bV:=
 (ai [af [cH 3 3 0,cH 4 3 1,dj 6],af [aU 11 3 3,aU 12 3 4,bA 13 34 [11,12],aa 10 13,jr 14 0 10,jr 15 1 10,jr 16 2 10,aa 7 14,aa 8 15,aa 9 16],af [aa 17 9,aa 18 17,bZ 18 (aa 19 8),bZ 18 (bA 20 43 [19,(kX 65536)]),bZ 18 (aK .leq 21 20 65536),j9 22 18 21,aa 23 22,bZ 23 (aa 24 7),bZ 23 (aa 25 8),bZ 23 (aa 26 2),bZ 23 (bA 27 35 [24,25,26]),bZ 23 (bA 28 92 [27]),bZ 23 (aK .geq 29 28 0),j9 30 23 29,aa 6 30],.ret])
def ahL:List bU:=[.tmp 6]
theorem aw7 (NN:Nat) (x:bt (aR.br Ro)):dK NN [Lp,AP,Pa,Ln] akE ahL Ro dR x=NX NN x:=by kernel_rfl
theorem auf:cK pX 33 akE.er ahL 3=true:=by decide+kernel
theorem ayM:dz pX 33 adu.M/\cg pX 33=true:= dL (args:=Ro) (aJ:=dR) (aA.cons QM<|aA.cons DT<|aA.cons Ye<|aA.cons QK<|aA.nil) cW auf G5 fun x y h=>(aw7 aN x).trans (aqh x y h)
def Vb:aF:=⟨36,wR,dN,jo,Ai⟩
def akC:bV:=
 (ai [af [cH 3 3 0,iT 6 [.nil iX,.nil iX,.nil iX]],af [aa 9 1,bA 10 93 [9],aa 11 2,bA 12 93 [11],oX 13 (.build [.nil iX,.nil iX,.nil iX] [(0,1,10),(1,1,12)]),iT 7 [.nil iX,.nil iX,.nil iX],cQ 3 7 13],ai [af [aa 14 2,bA 15 43 [14,(kX 4096)],aa 8 15],.join ⟨[aH 7 7,aH 6 6],[bi 6 [fX 706 1,fX 707 1,fX 708 1],bi 7 [fX 709 1,fX 710 1,fX 711 1],aw 706,aw 707,aw 708,aw 709,aw 710,aw 711]⟩ [3,6,7,700,701,702,703,704,705,706,707,708,709,710,711] [aS 6 0 706,aS 6 1 707,aS 6 2 708,aS 7 0 709,aS 7 1 710,aS 7 2 711] (.block 0 (.loop 0 ⟨[aH 3 3,aH 6 6,aH 7 7,az 8],[bi 3 [vX,vX,vX],bi 6 [fX 700 1,fX 701 1,fX 702 1],bi 7 [fX 703 1,fX 704 1,fX 705 1],aw 700,aw 701,aw 702,aw 703,aw 704,aw 705]⟩ [3,6,11000,13000,7,24000,24,700,701,702,703,704,705] [aS 6 0 700,aS 6 1 701,aS 6 2 702,aS 7 0 703,aS 7 1 704,aS 7 2 705] (ai [ai [af [aa 16 8,aK .gtr 17 16 0],dG 17 0],.block 1 (.dM true [aL 20 2 7,ao 21 1 20,aU 22 3 3,bA 23 94 [22],oX 24 (.append true iX 8 21 23),aL 25 2 7,cQ 1 25 24]),af [aa 18 8,aK .sub 19 18 1,aa 8 19]])))],af [aU 26 3 7,cQ 3 6 26],.ret])
def ahJ:List bU:=[.cell 6 3 true]
theorem aw5 (NN:Nat) (x:bt (aR.br wR)):dK NN [H9,AP,U9] akC ahJ wR jo x=Tv NN x:=by kernel_rfl
theorem aud:cK pX 36 akC.er ahJ 3=true:=by decide+kernel
theorem ait:dz pX 36 Vb.M/\cg pX 36=true:= dL (args:=wR) (aJ:=jo) (aA.cons MQ<|aA.cons DT<|aA.cons air<|aA.nil) cW aud Ai fun x y h=>(aw5 aN x).trans (aqf x y h)
def Pb:aF:=⟨42,iv,dN,dw,vO⟩
def akS:bV:=
 (ai [af [jt 4],af [oX 8 (.gk iX []),aa 5 8],ai [af [aa 9 0,ci 10 9,bM 11 0],.join ⟨[bz 5 701 1],[aw 701]⟩ [700,701] [bN 5 701] (.block 0 (.loop 0 ⟨[az 1,bz 5 700 1,cP 9,az 10,az 11],[aw 700]⟩ [8,21,22,700] [bN 5 700] (ai [af [aV .lss 12 11 10],dG 12 0,.block 1 (ai [af [aa 13 11,bE 14 1 9 11,ao 15 1 14,aa 6 13,aa 7 15],af [aa 16 7,aa 17 1,aV .eql 18 16 17],.cond 18 (af [aa 19 5,aa 20 6,oX 21 (.gk iX [20]),oX 22 (.append true iX 8 19 21),aa 5 22]) .skip]),af [aK .add 23 11 1,aa 11 23]])))],af [aa 24 5,aa 4 24],.ret])
def ahZ:List bU:=[.tmp 4]
theorem axl (NN:Nat) (x:bt (aR.br iv)):dK NN [] akS ahZ iv dw x=TF NN x:=by kernel_rfl
theorem aut:cK pX 42 akS.er ahZ 2=true:=by decide+kernel
theorem Yf:dz pX 42 Pb.M/\cg pX 42=true:= dL (args:=iv) (aJ:=dw) (aA.nil) cW aut vO fun x y h=>(axl aN x).trans (aqv x y h)
def adA:aF:=⟨95,yl,Ng,zZ,G8⟩
def akN:bV:=
 (ai [af [cH 1 2 0,oX 2 (.mv (.k (.one (.nil [lX]))))],af [oX 16 (.gk iX []),oX 17 (.gk [lX] [16]),aa 3 17],ai [af [aL 18 1 1,ao 19 1 18,ci 20 19,bM 21 0],.join ⟨[bz 3 709 1,aH 1 1],[(1,.box [vX,.c (.v (.list [lX]))]),(709,.row true .bq [lX])]⟩ [1,700,709] [bN 3 709] (.block 0 (.loop 0 ⟨[aH 1 1,bz 3 700 1,(19,.one (.c (.v (.list [lX])))),az 20,az 21],[(1,.box [vX,.c (.v (.list [lX]))]),(700,.row true .bq [lX])]⟩ [1,17,700,708] [bN 3 700] (ai [af [aV .lss 22 21 20],dG 22 0,.join ⟨[az 21,aH 1 1,bz 3 708 1,(19,.one (.c (.v (.list [lX])))),az 20],[(1,.box [vX,.c (.v (.list [lX]))]),(708,.row true .bq [lX])]⟩ [1,707,708] [bN 3 708] (.block 1 (ai [af [bE 23 1 19 21,ao 24 1 23,aa 5 24],af [oX 25 (.gk [lX] []),aa 6 25],ai [af [aa 26 3,ci 27 26,bM 28 0],.join ⟨[bz 6 707 1,az 21,aH 1 1,(19,.one (.c (.v (.list [lX])))),az 20],[(1,.box [vX,.c (.v (.list [lX]))]),(707,.row true .bq [lX])]⟩ [1,701,702,707] [bN 6 707] (.block 2 (.loop 0 ⟨[aH 1 1,cP 5,bz 6 701 1,(19,.one (.c (.v (.list [lX])))),az 20,az 21,bz 26 702 1,az 27,az 28],[(1,.box [vX,.c (.v (.list [lX]))]),(701,.row true .bq [lX]),(702,.row true .bq [lX])]⟩ [1,25,700,701,702,705,706] [bN 6 701,bN 26 702] (ai [af [aV .lss 29 28 27],dG 29 2,.join ⟨[az 28,aH 1 1,cP 5,bz 6 705 1,(19,.one (.c (.v (.list [lX])))),az 20,az 21,bz 26 706 1,az 27],[(1,.box [vX,.c (.v (.list [lX]))]),(705,.row true .bq [lX]),(706,.row true .bq [lX])]⟩ [1,703,704,705,706] [bN 6 705,bN 26 706] (.block 3 (ai [af [bE 30 1 26 28,ao 31 1 30,aa 8 31],af [bM 9 0],.block 4 (.loop 0 ⟨[aH 1 1,cP 5,bz 6 703 1,cP 8,az 9,(19,.one (.c (.v (.list [lX])))),az 20,az 21,bz 26 704 1,az 27,az 28],[(1,.box [vX,.c (.v (.list [lX]))]),(703,.row true .bq [lX]),(704,.row true .bq [lX])]⟩ [1,41000,47,50,701,702,703,704] [bN 6 703,bN 26 704] (ai [ai [af [aa 32 9,aL 33 0 1,ao 34 1 33,aV .lss 35 32 34],dG 35 4],.block 5 (ai [af [aa 38 5,aa 39 9,bA 40 42 [38,39],ci 41 40,aK .gtr 42 41 0],.cond 42 (af [aa 43 6,aa 44 8,bA 45 93 [44],aa 46 9,oX 47 (.gk iX [46]),oX 48 (.append true iX 8 45 47),oX 49 (.gk [lX] [48]),oX 50 (.append false [lX] 24 43 49),aa 6 50]) .skip]),af [aa 36 9,aK .add 37 36 1,aa 9 37]]))])),af [aK .add 51 28 1,aa 28 51]])))],af [aa 52 6,aa 3 52]])),af [aK .add 53 21 1,aa 21 53]])))],af [oX 54 (.gk [lX] []),aa 10 54],ai [af [aa 55 3,ci 56 55,bM 57 0],.join ⟨[bz 10 718 1],[(718,.row true .bn [lX])]⟩ [1,710,711,718] [(false,10,0,718,.bn,[])] (.block 6 (.loop 0 ⟨[aH 1 1,bz 10 710 1,bz 55 711 1,az 56,az 57],[(1,.box [vX,.c (.v (.list [lX]))]),(710,.row true .bn [lX]),(711,.row true .bq [lX])]⟩ [1,54,709,710,711,716,717] [(false,10,0,710,.bn,[]),bN 55 711] (ai [af [aV .lss 58 57 56],dG 58 6,.join ⟨[az 57,aH 1 1,bz 10 716 1,bz 55 717 1,az 56],[(1,.box [vX,.c (.v (.list [lX]))]),(716,.row true .bn [lX]),(717,.row true .bq [lX])]⟩ [1,79,714,715,716,717] [(false,10,0,716,.bn,[]),bN 55 717] (.block 7 (ai [af [bE 59 1 55 57,ao 60 1 59,aa 12 60],af [bM 13 0],ai [af [aa 61 12,ci 62 61,bM 63 0],.join ⟨[az 13,cP 12,az 57,aH 1 1,bz 10 714 1,bz 55 715 1,az 56],[(1,.box [vX,.c (.v (.list [lX]))]),(714,.row true .bn [lX]),(715,.row true .bq [lX])]⟩ [1,712,713,714,715] [(false,10,0,714,.bn,[]),bN 55 715] (.block 8 (.loop 0 ⟨[aH 1 1,bz 10 712 1,cP 12,az 13,bz 55 713 1,az 56,az 57,cP 61,az 62,az 63],[(1,.box [vX,.c (.v (.list [lX]))]),(712,.row true .bn [lX]),(713,.row true .bq [lX])]⟩ [1,710,711,712,713] [(false,10,0,712,.bn,[]),bN 55 713] (ai [af [aV .lss 64 63 62],dG 64 8,.block 9 (ai [af [bE 65 1 61 63,ao 66 1 65,aa 15 66],af [aa 67 13,aa 68 15,aV .add 69 67 68,aa 13 69]]),af [aK .add 70 63 1,aa 63 70]])))],af [aa 71 13,aL 72 0 1,ao 73 1 72,aV .rem 74 71 73,aK .eql 75 74 0],.cond 75 (af [aa 76 10,aa 77 12,oX 78 (.gk [lX] [77]),oX 79 (.append false [lX] 24 76 78),aa 10 79]) .skip])),af [aK .add 80 57 1,aa 57 80]])))],af [aa 81 10,aa 2 81],.ret])
def ahU:List bU:=[.tmp 2]
theorem axg (NN:Nat) (x:bt (aR.br yl)):F9 NN [Pb,H9] akN ahU yl zZ x=TB NN x:=by kernel_rfl
theorem auo:cK pX 95 akN.er ahU 1=true:=by decide+kernel
theorem ayS:yL pX 95 adA.MV/\cg pX 95=true:= NG (args:=yl) (aJ:=zZ) (aA.cons Yf<|aA.cons MQ<|aA.nil) cW auo G8 fun x y h=>(axg aN x).trans (aqq x y h)
def adB:aF:=⟨117,wT,Ng,Gg,G9⟩
def akO:bV:=
 (ai [af [cH 2 2 0,oX 4 (.mv (.k (.one (.nil [lX])))),jt 5],af [oX 11 (.gk [lX] []),aa 6 11],af [oX 12 (.gk iX []),aa 7 12],ai [af [aa 13 1,ci 14 13,bM 15 0],.join ⟨[bz 6 702 1,bz 7 703 1],[(702,.row true .bn [lX]),aw 703]⟩ [2,700,701,702,703] [(false,6,0,702,.bn,[]),bN 7 703] (.block 0 (.loop 0 ⟨[aH 2 2,bz 6 700 1,bz 7 701 1,cP 13,az 14,az 15],[(2,.box [vX,.c (.v (.list [lX]))]),(700,.row true .bn [lX]),aw 701]⟩ [2,11,12,30,34,35,700,701] [(false,6,0,700,.bn,[]),bN 7 701] (ai [af [aV .lss 16 15 14],dG 16 0,.block 1 (ai [af [aa 17 15,bE 18 1 13 15,ao 19 1 18,aa 8 17,aa 9 19],af [aL 20 1 2,ao 21 1 20,aa 22 8,bE 23 1 21 22,ao 24 1 23,aa 25 9,oX 26 (.qW 42 [24,25]),aa 10 26],af [aa 27 6,aa 28 10,oX 29 (.gk [lX] [28]),oX 30 (.append false [lX] 24 27 29),aa 6 30],af [aa 31 7,aa 32 10,ci 33 32,oX 34 (.gk iX [33]),oX 35 (.append true iX 8 31 34),aa 7 35]]),af [aK .add 36 15 1,aa 15 36]])))],af [aa 37 6,aa 38 7,aa 4 37,aa 5 38],.ret])
def ahV:List bU:=[.tmp 4,.tmp 5]
theorem axh (NN:Nat) (x:bt (aR.br wT)):F9 NN [Pb] akO ahV wT Gg x=TC NN x:=by kernel_rfl
theorem aup:cK pX 117 akO.er ahV 2=true:=by decide+kernel
theorem ayT:yL pX 117 adB.MV/\cg pX 117=true:= NG (args:=wT) (aJ:=Gg) (aA.cons Yf<|aA.nil) cW aup G9 fun x y h=>(axh aN x).trans (aqr x y h)
def Vc:aF:=⟨45,Gg,dN,dw,Cp⟩
def akK:bV:=
 (ai [af [jt 4],af [oX 8 (.gk iX []),aa 5 8],ai [af [aa 9 1,ci 10 9,bM 11 0],.join ⟨[bz 5 701 1],[aw 701]⟩ [700,701] [bN 5 701] (.block 0 (.loop 0 ⟨[(0,.one (.c (.v (.list [lX])))),bz 5 700 1,cP 9,az 10,az 11],[aw 700]⟩ [8,24,25,700] [bN 5 700] (ai [af [aV .lss 12 11 10],dG 12 0,.block 1 (ai [af [aa 13 11,bE 14 1 9 11,ao 15 1 14,aa 6 13,aa 7 15],af [aa 16 5,aa 17 0,aa 18 6,bE 19 1 17 18,ao 20 1 19,aa 21 7,bE 22 1 20 21,ao 23 1 22,oX 24 (.gk iX [23]),oX 25 (.append true iX 8 16 24),aa 5 25]]),af [aK .add 26 11 1,aa 11 26]])))],af [aa 27 5,aa 4 27],.ret])
def ahR:List bU:=[.tmp 4]
theorem axd (NN:Nat) (x:bt (aR.br Gg)):dK NN [] akK ahR Gg dw x=Tx NN x:=by kernel_rfl
theorem aul:cK pX 45 akK.er ahR 2=true:=by decide+kernel
theorem aiu:dz pX 45 Vc.M/\cg pX 45=true:= dL (args:=Gg) (aJ:=dw) (aA.nil) cW aul Cp fun x y h=>(axd aN x).trans (aqn x y h)
def Va:aF:=⟨44,iS,dN,ew,Ah⟩
def akz:bV:=
 (ai [af [bM 4 0],af [bM 5 0],ai [af [aa 8 0,ci 9 8,bM 10 0],.join ⟨[az 5],[]⟩ [] [] (.block 0 (.loop 0 ⟨[cP 1,az 5,cP 8,az 9,az 10],[]⟩ [] [] (ai [af [aV .lss 11 10 9],dG 11 0,.block 1 (ai [af [aa 12 10,bE 13 1 8 10,ao 14 1 13,aa 6 12,aa 7 14],af [aa 15 5,aa 16 7,aV .mul 17 15 16,aa 18 1,aa 19 6,bE 20 1 18 19,ao 21 1 20,aV .add 22 17 21,aa 5 22]]),af [aK .add 23 10 1,aa 10 23]])))],af [aa 24 5,aa 4 24],.ret])
def ahG:List bU:=[.tmp 4]
theorem aw2 (NN:Nat) (x:bt (aR.br iS)):dK NN [] akz ahG iS ew x=Ts NN x:=by kernel_rfl
theorem aua:cK pX 44 akz.er ahG 2=true:=by decide+kernel
theorem ais:dz pX 44 Va.M/\cg pX 44=true:= dL (args:=iS) (aJ:=ew) (aA.nil) cW aua Ah fun x y h=>(aw2 aN x).trans (aqc x y h)
def O7:aF:=⟨49,wU,dN,dw,pB⟩
def akw:bV:=
 (ai [af [cH 3 3 0,cH 4 3 1,jt 6],af [aU 8 3 3,bA 9 99 [8],aa 7 9],af [oX 10 (.gk iX []),aL 11 2 4,ao 12 1 11,aa 13 2,aa 14 7,aV .mul 15 13 14,aa 16 2,aa 17 7,aV .mul 18 16 17,aa 19 7,aV .add 20 18 19,oX 21 (.slice 1 12 (some 15) (some 20)),oX 22 (.append true iX 8 10 21),aa 6 22],.ret])
def ahD:List bU:=[.tmp 6]
theorem awZ (NN:Nat) (x:bt (aR.br wU)):dK NN [Lo] akw ahD wU dw x=Tp NN x:=by kernel_rfl
theorem at7:cK pX 49 akw.er ahD 3=true:=by decide+kernel
theorem Yb:dz pX 49 O7.M/\cg pX 49=true:= dL (args:=wU) (aJ:=dw) (aA.cons QL<|aA.nil) cW at7 pB fun x y h=>(awZ aN x).trans (aqa x y h)
def ady:aF:=⟨96,Rm,Ng,YZ,G7⟩
def akL:bV:=
 (ai [af [cH 4 3 0,cH 5 3 1,cH 6 2 2,iT 8 [.nil iX,.nil iX,.nil iX,.nil iX]],af [aU 14 2 6,aa 15 3,KE 16 117 [14,15],aa 13 16,jr 17 0 13,jr 18 1 13,aa 9 17,aa 10 18],af [aL 19 0 5,ao 20 1 19,bA 21 93 [20],aa 22 10,oX 23 (.build [.nil iX,.nil iX,.nil iX] [(0,1,21),(1,1,22)]),iT 11 [.nil iX,.nil iX,.nil iX],cQ 3 11 23],ai [af [bM 12 0],.join ⟨[cP 3,aH 11 11,aH 8 8],[bi 8 [fX 706 1,fX 707 1,fX 708 1,fX 709 1],bi 11 [fX 710 1,aI,fX 711 1],aw 706,aw 707,aw 708,aw 709,aw 710,aw 711]⟩ [4,5,8,11,700,701,702,703,704,705,706,707,708,709,710,711] [aS 8 0 706,aS 8 1 707,aS 8 2 708,aS 8 3 709,aS 11 0 710,aS 11 2 711] (.block 0 (.loop 0 ⟨[cP 3,aH 4 4,aH 5 5,aH 8 8,(9,.one (.c (.v (.list [lX])))),cP 10,aH 11 11,az 12],[bi 4 [vX,vX,vX],bi 5 [aI,aI,aI],bi 8 [fX 700 1,fX 701 1,fX 702 1,fX 703 1],bi 11 [fX 704 1,aI,fX 705 1],aw 700,aw 701,aw 702,aw 703,aw 704,aw 705]⟩ [4,5,6,8,22000,11,40000,41000,43000,43,700,701,702,703,704,705] [aS 8 0 700,aS 8 1 701,aS 8 2 702,aS 8 3 703,aS 11 0 704,aS 11 2 705] (ai [ai [af [aa 24 12,aa 25 10,bA 26 43 [25,(kX 4096)],aV .lss 27 24 26],dG 27 0],.block 1 (.dM true [aL 30 2 11,ao 31 1 30,aU 32 3 4,aU 33 3 5,aL 34 1 5,ao 35 1 34,aa 36 9,aa 37 10,aa 38 12,bA 39 46 [37,38],bA 40 45 [36,39],bA 41 44 [35,40],bA 42 49 [32,33,41],oX 43 (.append true iX 8 31 42),aL 44 2 11,cQ 1 44 43]),af [aa 28 12,aK .add 29 28 1,aa 12 29]])))],.dM true [aa 45 3,bA 46 93 [45],aU 47 3 11,oX 48 (.build [.nil iX,.nil iX,.nil iX,.nil iX] [(0,1,46),(1,3,47)]),cQ 4 8 48],.ret])
def ahS:List bU:=[.cell 8 4 true]
theorem axe (NN:Nat) (x:bt (aR.br Rm)):F9 NN [adB,H9,AP,O8,Vc,Va,O7] akL ahS Rm YZ x=Tz NN x:=by kernel_rfl
theorem aum:cK pX 96 akL.er ahS 4=true:=by decide+kernel
theorem ayQ:yL pX 96 ady.MV/\cg pX 96=true:= NG (args:=Rm) (aJ:=YZ) (aA.HM ayT<|aA.cons MQ<|aA.cons DT<|aA.cons Yc<|aA.cons aiu<|aA.cons ais<|aA.cons Yb<|aA.nil) cW aum G7 fun x y h=>(axe aN x).trans (aqo x y h)
def adz:aF:=⟨37,sG,Ng,JO,Cq⟩
def akM:bV:=
 (ai [af [cH 3 3 0,cH 4 3 1,cH 5 2 2,oX 6 (.mv (.k (.one (.nil [lX,lX,lX,lX]))))],af [oX 10 (.gk [lX,lX,lX,lX] []),aa 7 10],ai [af [aU 11 2 5,KE 12 95 [11],ci 13 12,bM 14 0],.join ⟨[bz 7 701 4],[(701,.row true .bn [lX,lX,lX,lX])]⟩ [3,4,5,700,701] [(false,7,0,701,.bn,[])] (.block 0 (.loop 0 ⟨[aH 3 3,aH 4 4,aH 5 5,bz 7 700 4,(12,.one (.c (.v (.list [lX])))),az 13,az 14],[bi 3 [vX,vX,vX],bi 4 [aI,aI,aI],(5,.box [vX,.c (.v (.list [lX]))]),(700,.row true .bn [lX,lX,lX,lX])]⟩ [3,4,5,10,25,700] [(false,7,0,700,.bn,[])] (ai [af [aV .lss 15 14 13],dG 15 0,.block 1 (ai [af [bE 16 1 12 14,ao 17 1 16,aa 9 17],af [aa 18 7,aU 19 3 3,aU 20 3 4,aU 21 2 5,aa 22 9,KE 23 96 [19,20,21,22],oX 24 (.gk [lX,lX,lX,lX] [23]),oX 25 (.append false [lX,lX,lX,lX] 96 18 24),aa 7 25]]),af [aK .add 26 14 1,aa 14 26]])))],af [aa 27 7,aa 6 27],.ret])
def ahT:List bU:=[.tmp 6]
theorem axf (NN:Nat) (x:bt (aR.br sG)):F9 NN [adA,ady] akM ahT sG JO x=TA NN x:=by kernel_rfl
theorem aun:cK pX 37 akM.er ahT 3=true:=by decide+kernel
theorem ayR:yL pX 37 adz.MV/\cg pX 37=true:= NG (args:=sG) (aJ:=JO) (aA.HM ayS<|aA.HM ayQ<|aA.nil) cW aun Cq fun x y h=>(axf aN x).trans (aqp x y h)
def adC:aF:=⟨38,Rp,dN,dR,Ha⟩
def akP:bV:=
 (ai [af [cH 5 3 0,cH 7 3 2,dj 10],ai [af [aL 14 0 5,ao 15 1 14,ci 16 15,bM 17 0],.join ⟨[],[]⟩ [7] [] (.block 0 (.loop 0 ⟨[cP 1,cP 3,az 4,aH 7 7,cP 15,az 16,az 17],[bi 7 [aI,aI,aI]]⟩ [5,7] [] (ai [af [aV .lss 18 17 16],dG 18 0,.block 1 (ai [af [aa 19 17,bE 20 1 15 17,ao 21 1 20,aa 11 19,aa 12 21],af [aL 22 0 7,ao 23 1 22,aa 24 12,bA 25 41 [23,24],aa 13 25],.dM true [aa 26 13,aK .geq 27 26 0,aa 28 27,bZ 28 (aa 29 1),bZ 28 (aa 30 11),bZ 28 (bE 31 1 29 30),bZ 28 (ao 32 1 31),bZ 28 (aa 33 3),bZ 28 (aa 34 13),bZ 28 (bE 35 1 33 34),bZ 28 (ao 36 1 35),bZ 28 (aV .add 37 32 36),bZ 28 (aa 38 4),bZ 28 (aV .rem 39 37 38),bZ 28 (aK .neq 40 39 0),j9 41 28 40],.cond 41 (ai [af [dj 10],.ret]) .skip]),af [aK .add 42 17 1,aa 17 42]])))],af [j8 10],.ret])
def ahW:List bU:=[.tmp 10]
theorem axi (NN:Nat) (x:bt (aR.br Rp)):dK NN [AO] akP ahW Rp dR x=N3 NN x:=by kernel_rfl
theorem auq:cK pX 38 akP.er ahW 5=true:=by decide+kernel
theorem ayU:dz pX 38 adC.M/\cg pX 38=true:= dL (args:=Rp) (aJ:=dR) (aA.cons DR<|aA.nil) cW auq Ha fun x y h=>(axi aN x).trans (aqs x y h)
def adw:aF:=⟨97,wV,dN,dw,Co⟩
def akI:bV:=
 (ai [af [cH 2 3 0,jt 4],af [aa 9 1,ci 10 9,oX 11 (.ji .bq iX 8 (0:Int) 10 10),aa 5 11],af [bM 6 1],ai [af [aL 12 0 2,ao 13 1 12,ci 14 13,aK .sub 15 14 1,aa 7 15],.join ⟨[bz 5 702 1],[aw 702]⟩ [2,700,702] [bN 5 702] (.block 0 (.loop 0 ⟨[cP 1,aH 2 2,bz 5 700 1,az 6,az 7],[bi 2 [aI,aI,aI],aw 700]⟩ [2,11,700,701] [bN 5 700] (ai [ai [af [aa 16 7,aK .geq 17 16 0],dG 17 0],.block 1 (ai [ai [af [aa 20 1,aL 21 0 2,ao 22 1 21,aa 23 7,bE 24 1 22 23,ao 25 1 24,bA 26 41 [20,25],aa 8 26],af [aa 27 8,aK .geq 28 27 0],.join ⟨[az 6,az 7,cP 1,aH 2 2,bz 5 701 1],[bi 2 [aI,aI,aI],aw 701]⟩ [2,700,701] [bN 5 701] (.cond 28 (af [aa 29 5,aa 30 8,aa 31 6,bE 32 1 29 30,cQ 1 32 31]) .skip)],af [aa 33 6,aL 34 1 2,ao 35 1 34,aa 36 7,bE 37 1 35 36,ao 38 1 37,aV .mul 39 33 38,aa 6 39]]),af [aa 18 7,aK .sub 19 18 1,aa 7 19]])))],af [aa 40 5,aa 4 40],.ret])
def ahP:List bU:=[.tmp 4]
theorem axb (NN:Nat) (x:bt (aR.br wV)):dK NN [AO] akI ahP wV dw x=N1 NN x:=by kernel_rfl
theorem auj:cK pX 97 akI.er ahP 2=true:=by decide+kernel
theorem ayO:dz pX 97 adw.M/\cg pX 97=true:= dL (args:=wV) (aJ:=dw) (aA.cons DR<|aA.nil) cW auj Co fun x y h=>(axb aN x).trans (aql x y h)
def adp:aF:=⟨98,wR,dN,dw,GZ⟩
def akp:bV:=
 (ai [af [cH 3 3 0,jt 6],af [aa 12 1,ci 13 12,oX 14 (.ji .bq iX 8 (0:Int) 13 13),aa 7 14],ai [af [aL 15 0 3,ao 16 1 15],.join ⟨[bz 7 704 1],[aw 704]⟩ [3,700,701,704] [bN 7 704] (.block 0 (ai [ai [af [aK .eql 86 16 1,aa 85 86],.join ⟨[(85,.one (.c (.v (.bool)))),az 16,cP 1,bz 7 700 1,cP 2,aH 3 3],[bi 3 [vX,vX,vX],aw 700]⟩ [3,14,700] [bN 7 700] (.cond 85 .skip (af [aK .eql 87 16 6,aa 85 87]))],.cond 85 (.dM true [aa 88 7,aa 89 1,gG 90 1 89 0,ao 91 1 90,aa 92 2,gG 93 1 92 0,ao 94 1 93,aV .and 95 91 94,gG 96 1 88 0,cQ 1 96 95]) (ai [af [aK .eql 98 16 2,aa 97 98],.cond 97 (.dM true [aa 99 7,aa 100 1,gG 101 1 100 0,ao 102 1 101,aa 103 2,gG 104 1 103 0,ao 105 1 104,aV .mul 106 102 105,aL 107 1 3,ao 108 1 107,aV .rem 109 106 108,gG 110 1 99 0,cQ 1 110 109]) (ai [af [aK .eql 112 16 3,aa 111 112],.cond 111 (.dM true [aa 113 7,aa 114 1,gG 115 1 114 0,ao 116 1 115,aa 117 2,gG 118 1 117 0,ao 119 1 118,aV .mul 120 116 119,aL 121 1 3,ao 122 1 121,oX 123 (.mm false 120 122),gG 124 1 113 0,cQ 1 124 123]) (ai [af [aK .eql 126 16 4,aa 125 126],.cond 125 (.dM true [aa 127 7,aa 128 1,gG 129 1 128 0,ao 130 1 129,aa 131 2,gG 132 1 131 0,ao 133 1 132,aV .add 134 130 133,aL 135 1 3,ao 136 1 135,oX 137 (.mm false 134 136),gG 138 1 127 0,cQ 1 138 137]) (ai [af [aK .eql 140 16 5,aa 139 140],.cond 139 (.dM true [aa 141 7,aa 142 1,gG 143 1 142 0,ao 144 1 143,aa 145 2,gG 146 1 145 0,ao 147 1 146,oX 148 (.mm false 144 147),gG 149 1 141 0,cQ 1 149 148]) (ai [af [aa 17 1,ci 18 17,bM 19 0],.block 1 (.loop 0 ⟨[cP 2,aH 3 3,bz 7 701 1,cP 17,az 18,az 19],[bi 3 [vX,vX,vX],aw 701]⟩ [3,700,701,703] [bN 7 701] (ai [af [aV .lss 20 19 18],dG 20 1,.join ⟨[az 19,cP 2,aH 3 3,bz 7 703 1,cP 17,az 18],[bi 3 [vX,vX,vX],aw 703]⟩ [3,702,703] [bN 7 703] (.block 2 (ai [af [aa 21 19,bE 22 1 17 19,ao 23 1 22,aa 8 21,aa 9 23],af [aa 24 2,ci 25 24,bM 26 0],.block 3 (.loop 0 ⟨[cP 2,aH 3 3,bz 7 702 1,az 8,az 9,cP 17,az 18,az 19,cP 24,az 25,az 26],[bi 3 [vX,vX,vX],aw 702]⟩ [3,701,702] [bN 7 702] (ai [af [aV .lss 27 26 25],dG 27 3,.block 4 (ai [af [aa 28 26,bE 29 1 24 26,ao 30 1 29,aa 10 28,aa 11 30],.block 5 (ai [af [aa 32 8,aa 33 10,aV .add 34 32 33,aa 35 7,ci 36 35,aV .lss 37 34 36,aa 31 37],.cond 31 (.dM true [aa 38 7,aa 39 8,aa 40 10,aV .add 41 39 40,aa 42 7,aa 43 8,aa 44 10,aV .add 45 43 44,bE 46 1 42 45,ao 47 1 46,aa 48 9,aa 49 11,aV .mul 50 48 49,aV .add 51 47 50,aL 52 1 3,ao 53 1 52,aV .rem 54 51 53,bE 55 1 38 41,cQ 1 55 54]) (ai [af [aL 57 0 3,ao 58 1 57,aK .eql 59 58 8,aa 56 59],.cond 56 (.dM true [aa 60 7,aa 61 8,aa 62 10,aV .add 63 61 62,aK .sub 64 63 4,aa 65 7,aa 66 8,aa 67 10,aV .add 68 66 67,aK .sub 69 68 4,bE 70 1 65 69,ao 71 1 70,aL 72 1 3,ao 73 1 72,aa 74 9,aV .sub 75 73 74,aa 76 11,aV .mul 77 75 76,aV .add 78 71 77,aL 79 1 3,ao 80 1 79,aV .rem 81 78 80,bE 82 1 60 64,cQ 1 82 81]) .skip])])]),af [aK .add 83 26 1,aa 26 83]]))])),af [aK .add 84 19 1,aa 19 84]]))])])])])])]))],af [aa 150 7,aa 6 150],.ret])
def ahw:List bU:=[.tmp 6]
theorem awS (NN:Nat) (x:bt (aR.br wR)):dK NN [] akp ahw wR dw x=Tl NN x:=by kernel_rfl
theorem at0:cK pX 98 akp.er ahw 3=true:=by decide+kernel
theorem ayH:dz pX 98 adp.M/\cg pX 98=true:= dL (args:=wR) (aJ:=dw) (aA.nil) cW at0 GZ fun x y h=>(awS aN x).trans (ap3 x y h)
def U8:aF:=⟨48,wR,dN,dw,Cl⟩
def ako:bV:=
 (ai [af [cH 3 3 0,jt 6],af [aa 9 1,ci 10 9,oX 11 (.ji .bq iX 8 (0:Int) 10 10),aa 7 11],ai [af [aa 12 1,ci 13 12,bM 14 0],.join ⟨[bz 7 702 1],[aw 702]⟩ [3,700,702] [bN 7 702] (.block 0 (.loop 0 ⟨[cP 1,cP 2,aH 3 3,bz 7 700 1,az 13,az 14],[bi 3 [vX,vX,vX],aw 700]⟩ [3,11,700,701] [bN 7 700] (ai [af [aV .lss 15 14 13],dG 15 0,.block 1 (ai [af [aa 16 14,aa 8 16],af [aL 17 0 3,ao 18 1 17],.block 2 (ai [ai [af [aK .eql 35 18 1,aa 34 35],.join ⟨[(34,.one (.c (.v (.bool)))),az 18,az 8,az 14,cP 1,cP 2,aH 3 3,bz 7 701 1,az 13],[bi 3 [vX,vX,vX],aw 701]⟩ [3,700,701] [bN 7 701] (.cond 34 .skip (af [aK .eql 36 18 6,aa 34 36]))],.cond 34 (.dM true [aa 37 7,aa 38 8,aa 39 1,aa 40 8,bE 41 1 39 40,ao 42 1 41,aa 43 2,aa 44 8,bE 45 1 43 44,ao 46 1 45,aV .or 47 42 46,bE 48 1 37 38,cQ 1 48 47]) (ai [af [aK .eql 50 18 3,aa 49 50],.cond 49 (.dM true [aa 51 7,aa 52 8,aa 53 1,aa 54 8,bE 55 1 53 54,ao 56 1 55,aa 57 2,aa 58 8,bE 59 1 57 58,ao 60 1 59,aV .add 61 56 60,aL 62 1 3,ao 63 1 62,oX 64 (.mm false 61 63),bE 65 1 51 52,cQ 1 65 64]) (ai [af [aK .eql 67 18 4,aa 66 67],.cond 66 (.dM true [aa 68 7,aa 69 8,aa 70 1,aa 71 8,bE 72 1 70 71,ao 73 1 72,aa 74 2,aa 75 8,bE 76 1 74 75,ao 77 1 76,oX 78 (.mm false 73 77),bE 79 1 68 69,cQ 1 79 78]) (ai [af [aK .eql 81 18 5,aa 80 81],.cond 80 (.dM true [aa 82 7,aa 83 8,aa 84 1,aa 85 8,bE 86 1 84 85,ao 87 1 86,aa 88 2,aa 89 8,bE 90 1 88 89,ao 91 1 90,oX 92 (.mm true 87 91),bE 93 1 82 83,cQ 1 93 92]) (.dM true [aa 19 7,aa 20 8,aa 21 1,aa 22 8,bE 23 1 21 22,ao 24 1 23,aa 25 2,aa 26 8,bE 27 1 25 26,ao 28 1 27,aV .add 29 24 28,aL 30 1 3,ao 31 1 30,aV .rem 32 29 31,bE 33 1 19 20,cQ 1 33 32])])])])])]),af [aK .add 94 14 1,aa 14 94]])))],af [aa 95 7,aa 6 95],.ret])
def ahv:List bU:=[.tmp 6]
theorem awR (NN:Nat) (x:bt (aR.br wR)):dK NN [] ako ahv wR dw x=Tk NN x:=by kernel_rfl
theorem atZ:cK pX 48 ako.er ahv 3=true:=by decide+kernel
theorem aiq:dz pX 48 U8.M/\cg pX 48=true:= dL (args:=wR) (aJ:=dw) (aA.nil) cW atZ Cl fun x y h=>(awR aN x).trans (ap0 x y h)
def adv:aF:=⟨39,D6,dN,jo,G6⟩
def akH:bV:=
 (ai [af [cH 4 3 0,cH 5 3 1,cH 6 3 2,iT 8 [.nil iX,.nil iX,.nil iX]],af [aU 25 3 5,aU 26 3 6,bA 27 34 [25,26],aa 24 27,jr 28 0 24,jr 29 1 24,jr 30 2 24,aa 9 28,aa 10 29,aa 11 30],af [aa 31 9,aa 32 10,aa 33 3,bA 34 35 [31,32,33],iT 12 [.nil iX,.nil iX,.nil iX],cQ 3 12 34],af [aU 35 3 4,aL 36 0 12,ao 37 1 36,aL 38 1 12,ao 39 1 38,bA 40 36 [35,37,39],cQ 3 12 40],af [aU 41 3 5,aa 42 9,bA 43 97 [41,42],aa 13 43],af [aU 44 3 6,aa 45 9,bA 46 97 [44,45],aa 14 46],af [aU 47 3 12,aa 48 9,bA 49 97 [47,48],aa 15 49],af [aa 50 9,ci 51 50,oX 52 (.ji .bq iX 8 (0:Int) 51 51),aa 16 52],ai [af [aa 53 10,bA 54 43 [53,(kX 65536)],aa 17 54],.join ⟨[aH 12 12,aH 8 8],[bi 8 [fX 755 1,fX 756 1,fX 757 1],bi 12 [fX 758 1,fX 759 1,fX 760 1],aw 755,aw 756,aw 757,aw 758,aw 759,aw 760]⟩ [4,5,6,8,12,700,701,702,703,704,705,706,707,708,709,710,755,756,757,758,759,760] [aS 8 0 755,aS 8 1 756,aS 8 2 757,aS 12 0 758,aS 12 1 759,aS 12 2 760] (.block 0 (.loop 0 ⟨[aH 4 4,aH 5 5,aH 6 6,aH 8 8,bz 10 706 1,aH 12 12,bz 13 707 1,bz 14 708 1,bz 15 709 1,bz 16 710 1,az 17],[bi 4 [vX,vX,vX],bi 5 [aI,aI,aI],bi 6 [aI,aI,aI],bi 8 [fX 700 1,fX 701 1,fX 702 1],bi 12 [fX 703 1,fX 704 1,fX 705 1],aw 700,aw 701,aw 702,aw 703,aw 704,aw 705,aw 706,aw 707,aw 708,aw 709,aw 710]⟩ [4,5,6,8,28000,28001,35000,35001,35002,12,41000,41001,41002,44000,47000,50000,52,700,701,702,703,704,705,706,707,708,709,710,744,745,746,747,748,749,750,751,752,753,754] [aS 8 0 700,aS 8 1 701,aS 8 2 702,aS 12 0 703,aS 12 1 704,aS 12 2 705,bN 10 706,bN 13 707,bN 14 708,bN 15 709,bN 16 710] (ai [ai [af [aa 55 17,aK .gtr 56 55 0],dG 56 0],.join ⟨[az 17,aH 4 4,aH 5 5,aH 6 6,aH 8 8,bz 10 750 1,aH 12 12,bz 13 751 1,bz 14 752 1,bz 15 753 1,bz 16 754 1],[bi 4 [vX,vX,vX],bi 5 [aI,aI,aI],bi 6 [aI,aI,aI],bi 8 [fX 744 1,fX 745 1,fX 746 1],bi 12 [fX 747 1,fX 748 1,fX 749 1],aw 744,aw 745,aw 746,aw 747,aw 748,aw 749,aw 750,aw 751,aw 752,aw 753,aw 754]⟩ [4,5,6,8,12,733,734,735,736,737,738,739,740,741,742,743,744,745,746,747,748,749,750,751,752,753,754] [aS 8 0 744,aS 8 1 745,aS 8 2 746,aS 12 0 747,aS 12 1 748,aS 12 2 749,bN 10 750,bN 13 751,bN 14 752,bN 15 753,bN 16 754] (.block 1 (ai [af [bM 18 0],af [bM 19 0],af [bM 20 0],ai [af [aa 59 16,ci 60 59,bM 61 0],.join ⟨[az 20,az 18,az 19,bz 16 728 1,bz 15 729 1,bz 14 730 1,bz 13 731 1,aH 12 12,bz 10 732 1,aH 8 8,aH 6 6,aH 5 5,aH 4 4,az 17],[bi 4 [vX,vX,vX],bi 5 [aI,aI,aI],bi 6 [aI,aI,aI],bi 8 [fX 722 1,fX 723 1,fX 724 1],bi 12 [fX 725 1,fX 726 1,fX 727 1],aw 722,aw 723,aw 724,aw 725,aw 726,aw 727,aw 728,aw 729,aw 730,aw 731,aw 732]⟩ [4,5,6,8,12,711,712,713,714,715,716,717,718,719,720,721,722,723,724,725,726,727,728,729,730,731,732] [aS 8 0 722,aS 8 1 723,aS 8 2 724,aS 12 0 725,aS 12 1 726,aS 12 2 727,bN 16 728,bN 15 729,bN 14 730,bN 13 731,bN 10 732] (.block 2 (.loop 0 ⟨[aH 4 4,aH 5 5,aH 6 6,aH 8 8,bz 10 717 1,aH 12 12,bz 13 718 1,bz 14 719 1,bz 15 720 1,bz 16 721 1,az 17,az 18,az 19,az 20,bz 59 721 1,az 60,az 61],[bi 4 [vX,vX,vX],bi 5 [aI,aI,aI],bi 6 [aI,aI,aI],bi 8 [fX 711 1,fX 712 1,fX 713 1],bi 12 [fX 714 1,fX 715 1,fX 716 1],aw 711,aw 712,aw 713,aw 714,aw 715,aw 716,aw 717,aw 718,aw 719,aw 720,aw 721]⟩ [4,5,6,8,12,700,701,702,703,704,705,706,707,708,709,710,711,712,713,714,715,716,717,718,719,720,721] [aS 8 0 711,aS 8 1 712,aS 8 2 713,aS 12 0 714,aS 12 1 715,aS 12 2 716,bN 10 717,bN 13 718,bN 14 719,bN 15 720,bN 16 721] (ai [af [aV .lss 62 61 60],dG 62 2,.block 3 (ai [af [aa 63 61,bE 64 1 59 61,ao 65 1 64,aa 21 63,aa 22 65],af [aa 66 18,aa 67 22,aa 68 13,aa 69 21,bE 70 1 68 69,ao 71 1 70,aV .mul 72 67 71,aV .add 73 66 72,aa 18 73],af [aa 74 19,aa 75 22,aa 76 14,aa 77 21,bE 78 1 76 77,ao 79 1 78,aV .mul 80 75 79,aV .add 81 74 80,aa 19 81],af [aa 82 20,aa 83 22,aa 84 15,aa 85 21,bE 86 1 84 85,ao 87 1 86,aV .mul 88 83 87,aV .add 89 82 88,aa 20 89]]),af [aK .add 90 61 1,aa 61 90]])))],.dM true [aU 91 3 4,aU 92 3 12,aa 93 20,aU 94 3 4,aU 95 3 4,aU 96 3 12,aa 97 20,bA 98 49 [95,96,97],aU 99 3 4,aU 100 3 4,aU 101 3 5,aa 102 18,bA 103 49 [100,101,102],aU 104 3 4,aU 105 3 6,aa 106 19,bA 107 49 [104,105,106],bA 108 98 [99,103,107],bA 109 48 [94,98,108],oX 110 (.kH .bq 47 [91,92,93,109])],af [aa 111 16,ci 112 111,aK .sub 113 112 1,aa 23 113],.block 4 (.loop 0 ⟨[aH 4 4,aH 5 5,aH 6 6,aH 8 8,bz 10 739 1,aH 12 12,bz 13 740 1,bz 14 741 1,bz 15 742 1,bz 16 743 1,az 17,az 23],[bi 4 [vX,vX,vX],bi 5 [aI,aI,aI],bi 6 [aI,aI,aI],bi 8 [fX 733 1,fX 734 1,fX 735 1],bi 12 [fX 736 1,fX 737 1,fX 738 1],aw 733,aw 734,aw 735,aw 736,aw 737,aw 738,aw 739,aw 740,aw 741,aw 742,aw 743]⟩ [4,5,6,8,12,99000,104000,108000,109000,110000,722,723,724,725,726,727,728,729,730,731,732,733,734,735,736,737,738,739,740,741,742,743] [aS 8 0 733,aS 8 1 734,aS 8 2 735,aS 12 0 736,aS 12 1 737,aS 12 2 738,bN 10 739,bN 13 740,bN 14 741,bN 15 742,bN 16 743] (ai [ai [af [aa 114 23,aK .geq 115 114 0],dG 115 4],.block 5 (ai [af [aa 118 16,aa 119 23,bE 120 1 118 119,ao 121 1 120,aK .add 122 121 1,bE 123 1 118 119,cQ 1 123 122],ai [.dM true [aa 124 16,aa 125 23,bE 126 1 124 125,ao 127 1 126,aa 128 10,aa 129 23,bE 130 1 128 129,ao 131 1 130,aV .lss 132 127 131],.cond 132 (.exit 4) .skip],af [aa 133 16,aa 134 23,bE 135 1 133 134,uX (.store 1 135 (kX 0))]]),af [aa 116 23,aK .sub 117 116 1,aa 23 117]]))])),af [aa 57 17,aK .sub 58 57 1,aa 17 58]])))],af [aU 136 3 12,cQ 3 8 136],.ret])
def ahO:List bU:=[.cell 8 3 true]
theorem axa (NN:Nat) (x:bt (aR.br D6)):dK NN [Lp,Pa,Vb,adw,AP,O7,adp,U8,O9] akH ahO D6 jo x=N0 NN x:=by kernel_rfl
theorem aui:cK pX 39 akH.er ahO 4=true:=by decide+kernel
theorem ayN:dz pX 39 adv.M/\cg pX 39=true:= dL (args:=D6) (aJ:=jo) (aA.cons QM<|aA.cons Ye<|aA.cons ait<|aA.cons ayO<|aA.cons DT<|aA.cons Yb<|aA.cons ayH<|aA.cons aiq<|aA.vS Yd<|aA.nil) cW aui G6 fun x y h=>(axa aN x).trans (aqk x y h)
def adm:aF:=⟨40,pw,dN,ew,GX⟩
def akj:bV:=
 (ai [af [cH 2 3 0,cH 3 3 1,bM 4 0],ai [af [aU 8 3 2,bA 9 92 [8],aK .lss 10 9 0,aa 11 10,bC 11 (aU 12 3 3),bC 11 (bA 13 92 [12]),bC 11 (aK .lss 14 13 0),ik 15 11 14],.cond 15 (ai [af [bM 4 (-1)],.ret]) .skip],af [aU 17 3 2,aU 18 3 3,bA 19 34 [17,18],aa 16 19,jr 20 0 16,jr 21 1 16,jr 22 2 16,aa 5 20,aa 6 21,aa 7 22],ai [af [aa 23 7,gN 24 23],.cond 24 (ai [af [bM 4 (-1)],.ret]) .skip],af [aa 25 6,bA 26 43 [25,(kX 65536)],aa 4 26],.ret])
def ahq:List bU:=[.tmp 4]
theorem awM (NN:Nat) (x:bt (aR.br pw)):dK NN [Ln,Lp,AP] akj ahq pw ew x=NW NN x:=by kernel_rfl
theorem atU:cK pX 40 akj.er ahq 2=true:=by decide+kernel
theorem ayE:dz pX 40 adm.M/\cg pX 40=true:= dL (args:=pw) (aJ:=ew) (aA.cons QK<|aA.cons QM<|aA.cons DT<|aA.nil) cW atU GX fun x y h=>(awM aN x).trans (apV x y h)
def adh:aF:=⟨7,sH,dN,JQ,Ag⟩
def ake:bV:=
 (ai [af [cH 5 3 0,cH 6 3 1,cH 7 2 2,cH 8 3 3,cH 9 2 4,iT 10 [.nil iX,.nil iX,.nil iX],bM 11 0,dj 12],ai [af [aU 30 3 5,aU 31 3 6,aU 32 2 7,bA 33 30 [30,31,32],gN 34 33,aa 35 34,bC 35 (aU 36 3 5),bC 35 (aU 37 3 8),bC 35 (aU 38 2 9),bC 35 (bA 39 30 [36,37,38]),bC 35 (gN 40 39),ik 41 35 40,aa 42 41,bC 42 (aL 43 0 7),bC 42 (ao 44 1 43),bC 42 (aL 45 0 9),bC 42 (ao 46 1 45),bC 42 (aV .neq 47 44 46),ik 48 42 47,aa 49 48,bC 49 (aU 50 3 6),bC 49 (aU 51 2 7),bC 49 (aU 52 3 8),bC 49 (aU 53 2 9),bC 49 (bA 54 31 [50,51,52,53]),bC 49 (gN 55 54),ik 56 49 55],.cond 56 (ai [af [oX 57 (.build [.nil iX,.nil iX,.nil iX] []),cQ 3 10 57,bM 11 0,dj 12],.ret]) .skip],.dM true [aU 58 3 6,aL 59 0 8,ao 60 1 59,bA 61 32 [58,60],aU 62 3 8,aL 63 0 6,ao 64 1 63,bA 65 32 [62,64],oX 66 (.append true iX 8 61 65),aa 13 66],ai [af [aU 67 3 6,aU 68 3 8,aa 69 13,bA 70 33 [67,68,69],gN 71 70],.cond 71 (ai [af [oX 72 (.build [.nil iX,.nil iX,.nil iX] []),cQ 3 10 72,bM 11 0,dj 12],.ret]) .skip],af [aU 74 3 6,aU 75 3 8,bA 76 34 [74,75],aa 73 76,jr 77 0 73,jr 78 1 73,jr 79 2 73,aa 14 77,aa 15 78,aa 16 79],af [aa 80 14,aa 81 15,aa 82 13,bA 83 35 [80,81,82],iT 17 [.nil iX,.nil iX,.nil iX],cQ 3 17 83],af [aU 84 3 5,aL 85 0 17,ao 86 1 85,aL 87 1 17,ao 88 1 87,bA 89 36 [84,86,88],cQ 3 17 89],af [bM 18 0],ai [af [aU 90 3 5,aU 91 3 6,aU 92 2 7,KE 93 37 [90,91,92],ci 94 93,bM 95 0],.join ⟨[aH 17 17,az 18,aH 10 10],[bi 10 [fX 761 1,fX 762 1,fX 763 1],bi 17 [fX 764 1,fX 765 1,fX 766 1],aw 761,aw 762,aw 763,aw 764,aw 765,aw 766]⟩ [5,6,7,8,9,10,17,700,701,702,703,704,705,706,761,762,763,764,765,766] [aS 10 0 761,aS 10 1 762,aS 10 2 763,aS 17 0 764,aS 17 1 765,aS 17 2 766] (.block 0 (.loop 0 ⟨[aH 5 5,aH 6 6,aH 7 7,aH 8 8,aH 9 9,aH 10 10,bz 13 706 1,aH 17 17,az 18,(93,.one (.c (.v (.list [lX,lX,lX,lX])))),az 94,az 95],[bi 5 [vX,vX,vX],bi 6 [aI,aI,aI],(7,.box [vX,.c (.v (.list [lX]))]),bi 8 [aI,aI,aI],(9,.box [vX,.c (.v (.list [lX]))]),bi 10 [fX 700 1,fX 701 1,fX 702 1],bi 17 [fX 703 1,fX 704 1,fX 705 1],aw 700,aw 701,aw 702,aw 703,aw 704,aw 705,aw 706]⟩ [5,6,7,8,9,10,66000,66,77000,77001,84000,84001,84002,17,90000,90001,90002,700,701,702,703,704,705,706,754,755,756,757,758,759,760] [aS 10 0 700,aS 10 1 701,aS 10 2 702,aS 17 0 703,aS 17 1 704,aS 17 2 705,bN 13 706] (ai [af [aV .lss 96 95 94],dG 96 0,.join ⟨[az 95,aH 5 5,aH 6 6,aH 7 7,aH 8 8,aH 9 9,aH 10 10,bz 13 760 1,aH 17 17,az 18,(93,.one (.c (.v (.list [lX,lX,lX,lX])))),az 94],[bi 5 [vX,vX,vX],bi 6 [aI,aI,aI],(7,.box [vX,.c (.v (.list [lX]))]),bi 8 [aI,aI,aI],(9,.box [vX,.c (.v (.list [lX]))]),bi 10 [fX 754 1,fX 755 1,fX 756 1],bi 17 [fX 757 1,fX 758 1,fX 759 1],aw 754,aw 755,aw 756,aw 757,aw 758,aw 759,aw 760]⟩ [5,6,7,8,9,10,17,20,707,708,709,710,711,712,713,754,755,756,757,758,759,760] [aS 10 0 754,aS 10 1 755,aS 10 2 756,aS 17 0 757,aS 17 1 758,aS 17 2 759,bN 13 760] (.block 1 (ai [af [bE 97 4 93 95,aU 98 4 97,iT 20 [.nil iX,.nil iX,.nil iX,.nil iX],cQ 4 20 98],af [aU 99 3 5,aU 100 3 8,aU 101 2 9,KE 102 37 [99,100,101],ci 103 102,bM 104 0],.block 2 (.loop 0 ⟨[aH 5 5,aH 6 6,aH 7 7,aH 8 8,aH 9 9,aH 10 10,bz 13 713 1,aH 17 17,az 18,aH 20 20,(93,.one (.c (.v (.list [lX,lX,lX,lX])))),az 94,az 95,(102,.one (.c (.v (.list [lX,lX,lX,lX])))),az 103,az 104],[bi 5 [vX,vX,vX],bi 6 [aI,aI,aI],(7,.box [vX,.c (.v (.list [lX]))]),bi 8 [aI,aI,aI],(9,.box [vX,.c (.v (.list [lX]))]),bi 10 [fX 707 1,fX 708 1,fX 709 1],bi 17 [fX 710 1,fX 711 1,fX 712 1],bi 20 [aI,aI,aI,aI],aw 707,aw 708,aw 709,aw 710,aw 711,aw 712,aw 713]⟩ [5,6,7,8,9,10,17,20,700,701,702,703,704,705,706,707,708,709,710,711,712,713,747,748,749,750,751,752,753] [aS 10 0 707,aS 10 1 708,aS 10 2 709,aS 17 0 710,aS 17 1 711,aS 17 2 712,bN 13 713] (ai [af [aV .lss 105 104 103],dG 105 2,.join ⟨[az 104,aH 5 5,aH 6 6,aH 7 7,aH 8 8,aH 9 9,aH 10 10,bz 13 753 1,aH 17 17,az 18,aH 20 20,(93,.one (.c (.v (.list [lX,lX,lX,lX])))),az 94,az 95,(102,.one (.c (.v (.list [lX,lX,lX,lX])))),az 103],[bi 5 [vX,vX,vX],bi 6 [aI,aI,aI],(7,.box [vX,.c (.v (.list [lX]))]),bi 8 [aI,aI,aI],(9,.box [vX,.c (.v (.list [lX]))]),bi 10 [fX 747 1,fX 748 1,fX 749 1],bi 17 [fX 750 1,fX 751 1,fX 752 1],bi 20 [aI,aI,aI,aI],aw 747,aw 748,aw 749,aw 750,aw 751,aw 752,aw 753]⟩ [5,6,7,8,9,10,17,20,22,23,707,708,709,710,711,712,713,736,737,738,739,740,741,742,743,744,745,746,747,748,749,750,751,752,753] [aS 10 0 747,aS 10 1 748,aS 10 2 749,aS 17 0 750,aS 17 1 751,aS 17 2 752,bN 13 753] (.block 3 (ai [af [bE 106 4 102 104,aU 107 4 106,iT 22 [.nil iX,.nil iX,.nil iX,.nil iX],cQ 4 22 107],ai [af [aU 108 3 6,aL 109 0 20,ao 110 1 109,aU 111 3 8,aL 112 0 22,ao 113 1 112,aL 114 0 7,ao 115 1 114,bA 116 38 [108,110,111,113,115],gN 117 116],.cond 117 (.exit 3) .skip],af [aU 118 3 5,aL 119 1 20,aU 120 3 119,aL 121 1 22,aU 122 3 121,aa 123 13,bA 124 39 [118,120,122,123],iT 23 [.nil iX,.nil iX,.nil iX],cQ 3 23 124],af [aa 125 18,aL 126 1 20,aU 127 3 126,aL 128 1 22,aU 129 3 128,bA 130 40 [127,129],aV .add 131 125 130,aa 18 131],af [oX 132 (.gk [lX] []),aa 24 132],ai [af [aL 133 0 17,ao 134 1 133,ci 135 134,bM 136 0],.join ⟨[az 103,(102,.one (.c (.v (.list [lX,lX,lX,lX])))),az 95,az 94,(93,.one (.c (.v (.list [lX,lX,lX,lX])))),aH 20 20,az 18,aH 17 17,bz 13 734 1,aH 10 10,aH 9 9,aH 8 8,aH 7 7,aH 6 6,aH 5 5,az 104,bz 24 735 1,aH 23 23],[bi 5 [vX,vX,vX],bi 6 [aI,aI,aI],(7,.box [vX,.c (.v (.list [lX]))]),bi 8 [aI,aI,aI],(9,.box [vX,.c (.v (.list [lX]))]),bi 10 [fX 725 1,fX 726 1,fX 727 1],bi 17 [fX 728 1,fX 729 1,fX 730 1],bi 20 [aI,aI,aI,aI],bi 23 [fX 731 1,fX 732 1,fX 733 1],aw 725,aw 726,aw 727,aw 728,aw 729,aw 730,aw 731,aw 732,aw 733,aw 734,(735,.row true .bq [lX])]⟩ [5,6,7,8,9,10,17,20,22,23,714,715,716,717,718,719,720,721,722,723,724,725,726,727,728,729,730,731,732,733,734,735] [aS 10 0 725,aS 10 1 726,aS 10 2 727,aS 17 0 728,aS 17 1 729,aS 17 2 730,aS 23 0 731,aS 23 1 732,aS 23 2 733,bN 13 734,bN 24 735] (.block 4 (.loop 0 ⟨[aH 5 5,aH 6 6,aH 7 7,aH 8 8,aH 9 9,aH 10 10,bz 13 723 1,aH 17 17,az 18,aH 20 20,aH 22 22,aH 23 23,bz 24 724 1,(93,.one (.c (.v (.list [lX,lX,lX,lX])))),az 94,az 95,(102,.one (.c (.v (.list [lX,lX,lX,lX])))),az 103,az 104,bz 134 717 1,az 135,az 136],[bi 5 [vX,vX,vX],bi 6 [aI,aI,aI],(7,.box [vX,.c (.v (.list [lX]))]),bi 8 [aI,aI,aI],(9,.box [vX,.c (.v (.list [lX]))]),bi 10 [fX 714 1,fX 715 1,fX 716 1],bi 17 [fX 717 1,fX 718 1,fX 719 1],bi 20 [aI,aI,aI,aI],bi 22 [aI,aI,aI,aI],bi 23 [fX 720 1,fX 721 1,fX 722 1],aw 714,aw 715,aw 716,aw 717,aw 718,aw 719,aw 720,aw 721,aw 722,aw 723,(724,.row true .bq [lX])]⟩ [5,6,7,8,9,10,17,20,22,125000,125001,125002,23,132,159,177,707,708,709,710,711,712,713,714,715,716,717,718,719,720,721,722,723,724] [aS 10 0 714,aS 10 1 715,aS 10 2 716,aS 17 0 717,aS 17 1 718,aS 17 2 719,aS 23 0 720,aS 23 1 721,aS 23 2 722,bN 13 723,bN 24 724] (ai [af [aV .lss 137 136 135],dG 137 4,.block 5 (ai [af [bE 138 1 134 136,ao 139 1 138,aa 26 139],af [aL 140 0 6,ao 141 1 140,aa 142 26,bA 143 41 [141,142],aa 27 143],af [aa 144 27,aK .geq 145 144 0],.cond 145 (.dM true [aa 146 24,aL 147 1 7,ao 148 1 147,aa 149 27,bE 150 1 148 149,ao 151 1 150,aL 152 0 20,ao 153 1 152,aa 154 27,bE 155 1 153 154,ao 156 1 155,bA 157 42 [151,156],oX 158 (.gk [lX] [157]),oX 159 (.append false [lX] 24 146 158),aa 24 159]) (ai [af [aL 160 0 8,ao 161 1 160,aa 162 26,bA 163 41 [161,162],aa 27 163],.dM true [aa 164 24,aL 165 1 9,ao 166 1 165,aa 167 27,bE 168 1 166 167,ao 169 1 168,aL 170 0 22,ao 171 1 170,aa 172 27,bE 173 1 171 172,ao 174 1 173,bA 175 42 [169,174],oX 176 (.gk [lX] [175]),oX 177 (.append false [lX] 24 164 176),aa 24 177]])]),af [aK .add 178 136 1,aa 136 178]])))],af [bM 28 0],.block 6 (.loop 0 ⟨[aH 5 5,aH 6 6,aH 7 7,aH 8 8,aH 9 9,aH 10 10,bz 13 745 1,aH 17 17,az 18,aH 20 20,aH 23 23,bz 24 746 1,az 28,(93,.one (.c (.v (.list [lX,lX,lX,lX])))),az 94,az 95,(102,.one (.c (.v (.list [lX,lX,lX,lX])))),az 103,az 104],[bi 5 [vX,vX,vX],bi 6 [aI,aI,aI],(7,.box [vX,.c (.v (.list [lX]))]),bi 8 [aI,aI,aI],(9,.box [vX,.c (.v (.list [lX]))]),bi 10 [fX 736 1,fX 737 1,fX 738 1],bi 17 [fX 739 1,fX 740 1,fX 741 1],bi 20 [aI,aI,aI,aI],bi 23 [fX 742 1,fX 743 1,fX 744 1],aw 736,aw 737,aw 738,aw 739,aw 740,aw 741,aw 742,aw 743,aw 744,aw 745,(746,.row true .bq [lX])]⟩ [5,6,7,8,9,10,17,20,23,193000,194000,203000,207000,208000,725,726,727,728,729,730,731,732,733,734,735,736,737,738,739,740,741,742,743,744,745,746] [aS 10 0 736,aS 10 1 737,aS 10 2 738,aS 17 0 739,aS 17 1 740,aS 17 2 741,aS 23 0 742,aS 23 1 743,aS 23 2 744,bN 13 745,bN 24 746] (ai [ai [af [aa 179 28,aL 180 1 23,ao 181 1 180,bA 182 43 [181,(kX 4096)],aV .lss 183 179 182],dG 183 6],.block 7 (ai [.dM true [aL 186 1 17,ao 187 1 186,aa 188 24,aL 189 1 23,ao 190 1 189,aa 191 28,bA 192 46 [190,191],bA 193 45 [188,192],bA 194 44 [187,193],aa 29 194],.dM true [aU 195 3 5,aU 196 3 17,aa 197 29,aU 198 3 5,aU 199 3 5,aU 200 3 17,aa 201 29,bA 202 49 [199,200,201],aU 203 3 5,aU 204 3 23,aa 205 28,bA 206 49 [203,204,205],bA 207 48 [198,202,206],oX 208 (.kH .bq 47 [195,196,197,207])]]),af [aa 184 28,aK .add 185 184 1,aa 28 185]]))])),af [aK .add 209 104 1,aa 104 209]]))])),af [aK .add 210 95 1,aa 95 210]])))],af [aU 211 3 17,aa 212 18,cQ 3 10 211,aa 11 212,j8 12],.ret])
def ahl:List bU:=[.cell 10 3 true,.tmp 11,.tmp 12]
theorem awH (NN:Nat) (x:bt (aR.br sH)):dK NN [adk,adD,adx,adu,Lp,Pa,Vb,adz,adC,adv,adm,AO,Pb,AP,O8,Vc,Va,O7,U8,O9] ake ahl sH JQ x=Ks NN x:=by kernel_rfl
theorem atO:cK pX 7 ake.er ahl 5=true:=by decide+kernel
theorem ayz:dz pX 7 adh.M/\cg pX 7=true:= dL (args:=sH) (aJ:=JQ) (aA.cons ayC<|aA.cons ayV<|aA.cons ayP<|aA.cons ayM<|aA.cons QM<|aA.cons Ye<|aA.cons ait<|aA.HM ayR<|aA.cons ayU<|aA.cons ayN<|aA.cons ayE<|aA.cons DR<|aA.cons Yf<|aA.cons DT<|aA.cons Yc<|aA.cons aiu<|aA.cons ais<|aA.cons Yb<|aA.cons aiq<|aA.vS Yd<|aA.nil) cW atO Ag fun x y h=>(awH aN x).trans (apQ x y h)
def acF:aF:=⟨113,ew,dN,dR,B9⟩
def ajm:bV:=
 (ai [af [dj 2],ai [af [aa 4 0,aK .lss 5 4 2,aa 6 5,bC 6 (aa 7 0),bC 6 (aK .gtr 8 7 1000003),ik 9 6 8],.cond 9 (ai [af [dj 2],.ret]) .skip],ai [af [bM 3 2],.join ⟨[],[]⟩ [] [] (.block 0 (.loop 0 ⟨[az 0,az 3],[]⟩ [] [] (ai [ai [af [aa 10 3,aa 11 3,aV .mul 12 10 11,aa 13 0,aV .leq 14 12 13],dG 14 0],.block 1 (ai [af [aa 17 0,aa 18 3,aV .rem 19 17 18,aK .eql 20 19 0],.cond 20 (ai [af [dj 2],.ret]) .skip]),af [aa 15 3,aK .add 16 15 1,aa 3 16]])))],af [j8 2],.ret])
def agt:List bU:=[.tmp 2]
theorem avP (NN:Nat) (x:bt (aR.br ew)):dK NN [] ajm agt ew dR x=Sr NN x:=by kernel_rfl
theorem asT:cK pX 113 ajm.er agt 1=true:=by decide+kernel
theorem axY:dz pX 113 acF.M/\cg pX 113=true:= dL (args:=ew) (aJ:=dR) (aA.nil) cW asT B9 fun x y h=>(avP aN x).trans (ao0 x y h)
def acH:aF:=⟨70,iD,dN,dR,GI⟩
def ajo:bV:=
 (ai [af [cH 1 3 0,dj 2],ai [af [aL 3 0 1,ao 4 1 3],.block 0 (ai [af [aK .eql 6 4 1,aa 5 6],.cond 5 (ai [af [aL 7 1 1,ao 8 1 7,aK .eql 9 8 0,aa 10 9,bZ 10 (aL 11 2 1),bZ 10 (ao 12 1 11),bZ 10 (aK .eql 13 12 0),j9 14 10 13,aa 2 14],.ret]) (ai [af [aK .eql 16 4 2,aa 15 16],.cond 15 (ai [af [aL 17 1 1,ao 18 1 17,bA 19 113 [18],aa 20 19,bZ 20 (aL 21 2 1),bZ 20 (ao 22 1 21),bZ 20 (aK .eql 23 22 0),j9 24 20 23,aa 2 24],.ret]) (ai [ai [af [aK .eql 26 4 3,aa 25 26],.join ⟨[(25,.one (.c (.v (.bool)))),az 4,aH 1 1],[bi 1 [vX,vX,vX]]⟩ [1] [] (.cond 25 .skip (ai [af [aK .eql 27 4 4,aa 25 27],.cond 25 .skip (af [aK .eql 28 4 5,aa 25 28])]))],.cond 25 (ai [af [aL 29 1 1,ao 30 1 29,aK .geq 31 30 1,aa 32 31,bZ 32 (aL 33 1 1),bZ 32 (ao 34 1 33),bZ 32 (aK .leq 35 34 1000000),j9 36 32 35,aa 37 36,bZ 37 (aL 38 2 1),bZ 37 (ao 39 1 38),bZ 37 (aK .eql 40 39 0),j9 41 37 40,aa 2 41],.ret]) (ai [af [aK .eql 43 4 6,aa 42 43],.cond 42 (ai [af [aL 44 1 1,ao 45 1 44,aK .eql 46 45 0,aa 47 46,bZ 47 (aL 48 2 1),bZ 47 (ao 49 1 48),bZ 47 (aK .geq 50 49 1),j9 51 47 50,aa 52 51,bZ 52 (aL 53 2 1),bZ 52 (ao 54 1 53),bZ 52 (aK .leq 55 54 20),j9 56 52 55,aa 2 56],.ret]) (ai [af [aK .eql 58 4 7,aa 57 58],.cond 57 (ai [af [aL 59 1 1,ao 60 1 59,bA 61 113 [60],aa 62 61,bZ 62 (aL 63 2 1),bZ 62 (ao 64 1 63),bZ 62 (aK .geq 65 64 1),j9 66 62 65,aa 67 66,bZ 67 (aL 68 2 1),bZ 67 (ao 69 1 68),bZ 67 (aK .leq 70 69 6),j9 71 67 70,aa 2 71],.ret]) (ai [af [aK .eql 73 4 8,aa 72 73],.cond 72 (ai [af [aL 74 1 1,ao 75 1 74,bA 76 113 [75],aa 77 76,bZ 77 (aL 78 1 1),bZ 77 (ao 79 1 78),bZ 77 (aK .neq 80 79 2),j9 81 77 80,aa 82 81,bZ 82 (aL 83 2 1),bZ 82 (ao 84 1 83),bZ 82 (aK .eql 85 84 0),j9 86 82 85,aa 2 86],.ret]) .skip])])])])])])],af [dj 2],.ret])
def agv:List bU:=[.tmp 2]
theorem avR (NN:Nat) (x:bt (aR.br iD)):dK NN [acF] ajo agv iD dR x=Ss NN x:=by kernel_rfl
theorem asV:cK pX 70 ajo.er agv 1=true:=by decide+kernel
theorem ax0:dz pX 70 acH.M/\cg pX 70=true:= dL (args:=iD) (aJ:=dR) (aA.cons axY<|aA.nil) cW asV GI fun x y h=>(avR aN x).trans (ao2 x y h)
def Ll:aF:=⟨101,iv,dN,dR,uI⟩
def ajA:bV:=
 (ai [af [dj 4],ai [af [aa 7 0,ci 8 7,bM 9 0],.join ⟨[],[]⟩ [] [] (.block 0 (.loop 0 ⟨[az 1,cP 7,az 8,az 9],[]⟩ [] [] (ai [af [aV .lss 10 9 8],dG 10 0,.block 1 (ai [af [bE 11 1 7 9,ao 12 1 11,aa 6 12],af [aa 13 1,aa 14 6,aV .eql 15 13 14],.cond 15 (ai [af [j8 4],.ret]) .skip]),af [aK .add 16 9 1,aa 9 16]])))],af [dj 4],.ret])
def agH:List bU:=[.tmp 4]
theorem av3 (NN:Nat) (x:bt (aR.br iv)):dK NN [] ajA agH iv dR x=SG NN x:=by kernel_rfl
theorem as7:cK pX 101 ajA.er agH 2=true:=by decide+kernel
theorem QI:dz pX 101 Ll.M/\cg pX 101=true:= dL (args:=iv) (aJ:=dR) (aA.nil) cW as7 uI fun x y h=>(av3 aN x).trans (ape x y h)
def Lj:aF:=⟨80,jo,dN,ew,tL⟩
def ajq:bV:=
 (ai [af [cH 1 3 0,bM 2 0],ai [af [aL 7 0 1,ao 8 1 7,ci 9 8,aK .gtr 10 9 12,aa 11 10,bC 11 (aL 12 0 1),bC 11 (ao 13 1 12),bC 11 (ci 14 13),bC 11 (aL 15 1 1),bC 11 (ao 16 1 15),bC 11 (ci 17 16),bC 11 (aV .neq 18 14 17),ik 19 11 18],.cond 19 (ai [af [bM 2 (-1)],.ret]) .skip],af [bM 3 1],ai [af [aL 20 0 1,ao 21 1 20,ci 22 21,bM 23 0],.join ⟨[az 3],[]⟩ [1] [] (.block 0 (.loop 0 ⟨[aH 1 1,az 3,cP 21,az 22,az 23],[bi 1 [aI,aI,aI]]⟩ [1] [] (ai [af [aV .lss 24 23 22],dG 24 0,.block 1 (ai [af [aa 25 23,bE 26 1 21 23,ao 27 1 26,aa 4 25,aa 5 27],ai [af [aa 28 5,aK .lss 29 28 0,aa 30 29,bC 30 (aa 31 5),bC 30 (aK .gtr 32 31 99),ik 33 30 32,aa 34 33,bC 34 (aL 35 0 1),bC 34 (ao 36 1 35),bC 34 (aa 37 4),bC 34 (oX 38 (.slice 1 36 none (some 37))),bC 34 (aa 39 5),bC 34 (bA 40 101 [38,39]),ik 41 34 40],.cond 41 (ai [af [bM 2 (-1)],.ret]) .skip],af [aL 42 1 1,ao 43 1 42,aa 44 4,bE 45 1 43 44,ao 46 1 45,aa 6 46],ai [af [aa 47 6,aK .lss 48 47 1,aa 49 48,bC 49 (aa 50 6),bC 49 (aK .gtr 51 50 8),ik 52 49 51,aa 53 52,bC 53 (aa 54 3),bC 53 (aa 55 6),bC 53 (aV .mul 56 54 55),bC 53 (aK .gtr 57 56 4096),ik 58 53 57],.cond 58 (ai [af [bM 2 (-1)],.ret]) .skip],af [aa 59 3,aa 60 6,aV .mul 61 59 60,aa 3 61]]),af [aK .add 62 23 1,aa 23 62]])))],af [aa 63 3,aa 2 63],.ret])
def agx:List bU:=[.tmp 2]
theorem avT (NN:Nat) (x:bt (aR.br jo)):dK NN [Ll] ajq agx jo ew x=Sv NN x:=by kernel_rfl
theorem asX:cK pX 80 ajq.er agx 1=true:=by decide+kernel
theorem QG:dz pX 80 Lj.M/\cg pX 80=true:= dL (args:=jo) (aJ:=ew) (aA.cons QI<|aA.nil) cW asX tL fun x y h=>(avT aN x).trans (ao4 x y h)
def H7:aF:=⟨85,iD,dN,ew,tM⟩
def ajP:bV:=
 (ai [af [cH 1 3 0,bM 2 0],ai [af [aL 3 0 1,ao 4 1 3],.block 0 (ai [af [aK .eql 6 4 7,aa 5 6],.cond 5 (ai [af [aL 7 2 1,ao 8 1 7,aa 2 8],.ret]) (ai [af [aK .eql 10 4 8,aa 9 10],.cond 9 (ai [af [bM 2 4],.ret]) .skip])])],af [bM 2 1],.ret])
def agW:List bU:=[.tmp 2]
theorem awi (NN:Nat) (x:bt (aR.br iD)):dK NN [] ajP agW iD ew x=SP NN x:=by kernel_rfl
theorem atm:cK pX 85 ajP.er agW 1=true:=by decide+kernel
theorem MN:dz pX 85 H7.M/\cg pX 85=true:= dL (args:=iD) (aJ:=ew) (aA.nil) cW atm tM fun x y h=>(awi aN x).trans (acd x y h)
def acX:aF:=⟨122,iD,dN,ew,GQ⟩
def ajO:bV:=
 (ai [af [cH 1 3 0,bM 2 0],ai [af [aL 3 0 1,ao 4 1 3],.block 0 (ai [af [aK .eql 6 4 1,aa 5 6],.cond 5 (ai [af [bM 2 1],.ret]) (ai [ai [af [aK .eql 8 4 3,aa 7 8],.join ⟨[(7,.one (.c (.v (.bool)))),az 4,aH 1 1],[bi 1 [vX,vX,vX]]⟩ [1] [] (.cond 7 .skip (ai [af [aK .eql 9 4 4,aa 7 9],.cond 7 .skip (af [aK .eql 10 4 5,aa 7 10])]))],.cond 7 (ai [af [aL 11 1 1,ao 12 1 11,aa 2 12],.ret]) (ai [af [aK .eql 14 4 6,aa 13 14],.cond 13 (ai [af [aL 15 2 1,ao 16 1 15,oX 17 (.bin .shl (kX 1) 16),aK .sub 18 17 1,aa 2 18],.ret]) .skip])])])],af [aL 19 1 1,ao 20 1 19,aK .sub 21 20 1,aa 2 21],.ret])
def agV:List bU:=[.tmp 2]
theorem awh (NN:Nat) (x:bt (aR.br iD)):dK NN [] ajO agV iD ew x=aae NN x:=by kernel_rfl
theorem atl:cK pX 122 ajO.er agV 1=true:=by decide+kernel
theorem ayg:dz pX 122 acX.M/\cg pX 122=true:= dL (args:=iD) (aJ:=ew) (aA.nil) cW atl GQ fun x y h=>(awh aN x).trans (acb x y h)
def acQ:aF:=⟨114,Ri,dN,dR,GL⟩
def ajC:bV:=
 (ai [af [cH 2 3 0,dj 4],af [aU 8 3 2,bA 9 122 [8],aa 5 9],ai [af [aa 10 1,ci 11 10,bM 12 0],.join ⟨[],[]⟩ [] [] (.block 0 (.loop 0 ⟨[az 5,cP 10,az 11,az 12],[]⟩ [2] [] (ai [af [aV .lss 13 12 11],dG 13 0,.block 1 (ai [af [bE 14 1 10 12,ao 15 1 14,aa 7 15],af [aa 16 7,aK .lss 17 16 0,aa 18 17,bC 18 (aa 19 7),bC 18 (aa 20 5),bC 18 (aV .gtr 21 19 20),ik 22 18 21],.cond 22 (ai [af [dj 4],.ret]) .skip]),af [aK .add 23 12 1,aa 12 23]])))],af [j8 4],.ret])
def agJ:List bU:=[.tmp 4]
theorem av5 (NN:Nat) (x:bt (aR.br Ri)):dK NN [acX] ajC agJ Ri dR x=SI NN x:=by kernel_rfl
theorem as9:cK pX 114 ajC.er agJ 2=true:=by decide+kernel
theorem ax9:dz pX 114 acQ.M/\cg pX 114=true:= dL (args:=Ri) (aJ:=dR) (aA.cons ayg<|aA.nil) cW as9 GL fun x y h=>(av5 aN x).trans (apg x y h)
def UX:aF:=⟨73,D4,dN,dR,yw⟩
def ajp:bV:=
 (ai [af [cH 2 3 0,cH 3 3 1,dj 4],ai [af [aU 6 3 2,bA 7 70 [6],gN 8 7],.cond 8 (ai [af [dj 4],.ret]) .skip],af [aU 9 3 3,bA 10 80 [9],aa 5 10],.dM true [aa 11 5,aK .neq 12 11 (-1),aa 13 12,bZ 13 (aL 14 2 3),bZ 13 (ao 15 1 14),bZ 13 (ci 16 15),bZ 13 (aa 17 5),bZ 13 (aU 18 3 2),bZ 13 (bA 19 85 [18]),bZ 13 (aV .mul 20 17 19),bZ 13 (aV .eql 21 16 20),j9 22 13 21,aa 23 22,bZ 23 (aU 24 3 2),bZ 23 (aL 25 2 3),bZ 23 (ao 26 1 25),bZ 23 (bA 27 114 [24,26]),j9 28 23 27,aa 4 28],.ret])
def agw:List bU:=[.tmp 4]
theorem avS (NN:Nat) (x:bt (aR.br D4)):dK NN [acH,Lj,H7,acQ] ajp agw D4 dR x=Su NN x:=by kernel_rfl
theorem asW:cK pX 73 ajp.er agw 2=true:=by decide+kernel
theorem aie:dz pX 73 UX.M/\cg pX 73=true:= dL (args:=D4) (aJ:=dR) (aA.cons ax0<|aA.cons QG<|aA.cons MN<|aA.cons ax9<|aA.nil) cW asW yw fun x y h=>(avS aN x).trans (ao3 x y h)
def acP:aF:=⟨81,Gf,dN,dR,Ep⟩
def ajB:bV:=
 (ai [af [dj 4],ai [af [aa 7 1,ci 8 7,bM 9 0],.join ⟨[],[]⟩ [] [] (.block 0 (.loop 0 ⟨[az 0,cP 7,az 8,az 9],[]⟩ [] [] (ai [af [aV .lss 10 9 8],dG 10 0,.block 1 (ai [af [bE 11 1 7 9,ao 12 1 11,aa 6 12],af [aa 13 6,aK .lss 14 13 0,aa 15 14,bC 15 (aa 16 6),bC 15 (aa 17 0),bC 15 (aV .geq 18 16 17),ik 19 15 18],.cond 19 (ai [af [dj 4],.ret]) .skip]),af [aK .add 20 9 1,aa 9 20]])))],af [j8 4],.ret])
def agI:List bU:=[.tmp 4]
theorem av4 (NN:Nat) (x:bt (aR.br Gf)):dK NN [] ajB agI Gf dR x=SH NN x:=by kernel_rfl
theorem as8:cK pX 81 ajB.er agI 2=true:=by decide+kernel
theorem ax8:dz pX 81 acP.M/\cg pX 81=true:= dL (args:=Gf) (aJ:=dR) (aA.nil) cW as8 Ep fun x y h=>(av4 aN x).trans (apf x y h)
def acC:aF:=⟨22,wP,dN,dR,GF⟩
def ajj:bV:=
 (ai [af [cH 2 3 0,cH 3 2 1,dj 4],ai [af [aU 7 3 2,bA 8 80 [7],aK .eql 9 8 (-1),aa 10 9,bC 10 (aL 11 0 3),bC 10 (ao 12 1 11),bC 10 (aK .lss 13 12 1),ik 14 10 13,aa 15 14,bC 15 (aL 16 0 3),bC 15 (ao 17 1 16),bC 15 (aK .gtr 18 17 12),ik 19 15 18,aa 20 19,bC 20 (aL 21 1 3),bC 20 (ao 22 1 21),bC 20 (ci 23 22),bC 20 (aL 24 1 2),bC 20 (ao 25 1 24),bC 20 (ci 26 25),bC 20 (aV .neq 27 23 26),ik 28 20 27],.cond 28 (ai [af [dj 4],.ret]) .skip],ai [af [aL 29 1 3,ao 30 1 29,ci 31 30,bM 32 0],.join ⟨[],[]⟩ [2,3] [] (.block 0 (.loop 0 ⟨[aH 2 2,aH 3 3,(30,.one (.c (.v (.list [lX])))),az 31,az 32],[bi 2 [aI,aI,aI],(3,.box [vX,.c (.v (.list [lX]))])]⟩ [2,3] [] (ai [af [aV .lss 33 32 31],dG 33 0,.block 1 (ai [af [aa 34 32,bE 35 1 30 32,ao 36 1 35,aa 5 34,aa 6 36],af [aa 37 6,ci 38 37,aL 39 1 2,ao 40 1 39,aa 41 5,bE 42 1 40 41,ao 43 1 42,aV .neq 44 38 43,aa 45 44,bC 45 (aL 46 0 3),bC 45 (ao 47 1 46),bC 45 (aa 48 6),bC 45 (bA 49 81 [47,48]),bC 45 (gN 50 49),ik 51 45 50],.cond 51 (ai [af [dj 4],.ret]) .skip]),af [aK .add 52 32 1,aa 32 52]])))],af [j8 4],.ret])
def agq:List bU:=[.tmp 4]
theorem avM (NN:Nat) (x:bt (aR.br wP)):dK NN [Lj,acP] ajj agq wP dR x=Sp NN x:=by kernel_rfl
theorem asQ:cK pX 22 ajj.er agq 2=true:=by decide+kernel
theorem axV:dz pX 22 acC.M/\cg pX 22=true:= dL (args:=wP) (aJ:=dR) (aA.cons QG<|aA.cons ax8<|aA.nil) cW asQ GF fun x y h=>(avM aN x).trans (aoX x y h)
def U2:aF:=⟨72,iD,dN,dw,Cd⟩
def ajQ:bV:=
 (ai [af [cH 1 3 0,jt 2],af [aU 4 3 1,bA 5 85 [4],oX 6 (.ji .bq iX 8 (0:Int) 5 5),aa 3 6],ai [af [aL 7 0 1,ao 8 1 7,aK .eql 9 8 4],.join ⟨[bz 3 700 1],[aw 700]⟩ [1,6,700] [bN 3 700] (.cond 9 (af [aa 10 3,aL 11 1 1,ao 12 1 11,gG 13 1 10 0,cQ 1 13 12]) .skip)],af [aa 14 3,aa 2 14],.ret])
def agX:List bU:=[.tmp 2]
theorem awj (NN:Nat) (x:bt (aR.br iD)):dK NN [H7] ajQ agX iD dw x=SQ NN x:=by kernel_rfl
theorem atn:cK pX 72 ajQ.er agX 1=true:=by decide+kernel
theorem aik:dz pX 72 U2.M/\cg pX 72=true:= dL (args:=iD) (aJ:=dw) (aA.cons MN<|aA.nil) cW atn Cd fun x y h=>(awj aN x).trans (ace x y h)
def Lm:aF:=⟨76,dw,dN,ew,vJ⟩
def ajL:bV:=
 (ai [af [bM 2 0],af [bM 3 1],ai [af [aa 6 0,ci 7 6,bM 8 0],.join ⟨[az 3],[]⟩ [] [] (.block 0 (.loop 0 ⟨[az 3,cP 6,az 7,az 8],[]⟩ [] [] (ai [af [aV .lss 9 8 7],dG 9 0,.block 1 (ai [af [bE 10 1 6 8,ao 11 1 10,aa 5 11],af [aa 12 3,aa 13 5,aV .mul 14 12 13,aa 3 14]]),af [aK .add 15 8 1,aa 8 15]])))],af [aa 16 3,aa 2 16],.ret])
def agS:List bU:=[.tmp 2]
theorem awe (NN:Nat) (x:bt (aR.br dw)):dK NN [] ajL agS dw ew x=SM NN x:=by kernel_rfl
theorem ati:cK pX 76 ajL.er agS 1=true:=by decide+kernel
theorem QJ:dz pX 76 Lm.M/\cg pX 76=true:= dL (args:=dw) (aJ:=ew) (aA.nil) cW ati vJ fun x y h=>(awe aN x).trans (apq x y h)
def acR:aF:=⟨79,iv,dN,dw,GM⟩
def ajD:bV:=
 (ai [af [jt 4],af [aa 7 0,ci 8 7,oX 9 (.ji .bq iX 8 (0:Int) 8 8),aa 5 9],ai [af [aa 10 0,ci 11 10,aK .sub 12 11 1,aa 6 12],.join ⟨[bz 5 701 1],[aw 701]⟩ [700,701] [bN 5 701] (.block 0 (.loop 0 ⟨[cP 0,az 1,bz 5 700 1,az 6],[aw 700]⟩ [9,700] [bN 5 700] (ai [ai [af [aa 13 6,aK .geq 14 13 0],dG 14 0],.block 1 (ai [af [aa 17 5,aa 18 6,aa 19 1,aa 20 0,aa 21 6,bE 22 1 20 21,ao 23 1 22,aV .rem 24 19 23,bE 25 1 17 18,cQ 1 25 24],af [aa 26 1,aa 27 0,aa 28 6,bE 29 1 27 28,ao 30 1 29,aV .quo 31 26 30,aa 1 31]]),af [aa 15 6,aK .sub 16 15 1,aa 6 16]])))],af [aa 32 5,aa 4 32],.ret])
def agK:List bU:=[.tmp 4]
theorem av6 (NN:Nat) (x:bt (aR.br iv)):dK NN [] ajD agK iv dw x=aad NN x:=by kernel_rfl
theorem ata:cK pX 79 ajD.er agK 2=true:=by decide+kernel
theorem aya:dz pX 79 acR.M/\cg pX 79=true:= dL (args:=iv) (aJ:=dw) (aA.nil) cW ata GM fun x y h=>(av6 aN x).trans (aph x y h)
def acK:aF:=⟨78,wT,dN,dw,Cb⟩
def aju:bV:=
 (ai [af [cH 2 2 0,jt 4],af [aa 8 1,ci 9 8,oX 10 (.ji .bq iX 8 (0:Int) 9 9),aa 5 10],ai [af [aa 11 1,ci 12 11,bM 13 0],.join ⟨[bz 5 701 1],[aw 701]⟩ [2,700,701] [bN 5 701] (.block 0 (.loop 0 ⟨[aH 2 2,bz 5 700 1,cP 11,az 12,az 13],[(2,.box [vX,.c (.v (.list [lX]))]),aw 700]⟩ [2,10,700] [bN 5 700] (ai [af [aV .lss 14 13 12],dG 14 0,.block 1 (ai [af [aa 15 13,bE 16 1 11 13,ao 17 1 16,aa 6 15,aa 7 17],af [aa 18 5,aa 19 6,aL 20 1 2,ao 21 1 20,aa 22 6,bE 23 1 21 22,ao 24 1 23,aa 25 7,bE 26 1 24 25,ao 27 1 26,bE 28 1 18 19,cQ 1 28 27]]),af [aK .add 29 13 1,aa 13 29]])))],af [aa 30 5,aa 4 30],.ret])
def agB:List bU:=[.tmp 4]
theorem avX (NN:Nat) (x:bt (aR.br wT)):dK NN [] aju agB wT dw x=Sy NN x:=by kernel_rfl
theorem as1:cK pX 78 aju.er agB 2=true:=by decide+kernel
theorem ax3:dz pX 78 acK.M/\cg pX 78=true:= dL (args:=wT) (aJ:=dw) (aA.nil) cW as1 Cb fun x y h=>(avX aN x).trans (ao8 x y h)
def U3:aF:=⟨77,dw,dN,ew,yy⟩
def ajS:bV:=
 (ai [af [bM 2 0],af [bM 3 0],ai [af [aa 6 0,ci 7 6,bM 8 0],.join ⟨[az 3],[]⟩ [] [] (.block 0 (.loop 0 ⟨[az 3,cP 6,az 7,az 8],[]⟩ [] [] (ai [af [aV .lss 9 8 7],dG 9 0,.block 1 (ai [af [bE 10 1 6 8,ao 11 1 10,aa 5 11],af [aa 12 3,aa 13 5,aV .add 14 12 13,aa 3 14]]),af [aK .add 15 8 1,aa 8 15]])))],af [aa 16 3,aa 2 16],.ret])
def agZ:List bU:=[.tmp 2]
theorem awl (NN:Nat) (x:bt (aR.br dw)):dK NN [] ajS agZ dw ew x=SS NN x:=by kernel_rfl
theorem atp:cK pX 77 ajS.er agZ 1=true:=by decide+kernel
theorem ail:dz pX 77 U3.M/\cg pX 77=true:= dL (args:=dw) (aJ:=ew) (aA.nil) cW atp yy fun x y h=>(awl aN x).trans (apu x y h)
def U1:aF:=⟨69,wU,Ng,dw,vK⟩
def ajN:bV:=
 (ai [af [cH 3 3 0,cH 4 3 1,jt 6],af [aU 8 3 3,bA 9 85 [8],aa 7 9],af [aL 10 2 4,ao 11 1 10,aa 12 2,aa 13 7,aV .mul 14 12 13,aa 15 2,aK .add 16 15 1,aa 17 7,aV .mul 18 16 17,oX 19 (.slice 1 11 (some 14) (some 18)),aa 6 19],.ret])
def agU:List bU:=[.tmp 6]
theorem awg (NN:Nat) (x:bt (aR.br wU)):F9 NN [H7] ajN agU wU dw x=SO NN x:=by kernel_rfl
theorem atk:cK pX 69 ajN.er agU 3=true:=by decide+kernel
theorem aij:yL pX 69 U1.MV/\cg pX 69=true:= NG (args:=wU) (aJ:=dw) (aA.cons MN<|aA.nil) cW atk vK fun x y h=>(awg aN x).trans (aps x y h)
def acN:aF:=⟨74,iS,dN,dR,Eo⟩
def ajy:bV:=
 (ai [af [dj 4],ai [af [aa 6 0,ci 7 6,aa 8 1,ci 9 8,aV .neq 10 7 9],.cond 10 (ai [af [dj 4],.ret]) .skip],ai [af [aa 11 0,ci 12 11,bM 13 0],.join ⟨[],[]⟩ [] [] (.block 0 (.loop 0 ⟨[cP 0,cP 1,az 12,az 13],[]⟩ [] [] (ai [af [aV .lss 14 13 12],dG 14 0,.block 1 (ai [af [aa 15 13,aa 5 15],.dM true [aa 16 0,aa 17 5,bE 18 1 16 17,ao 19 1 18,aa 20 1,aa 21 5,bE 22 1 20 21,ao 23 1 22,aV .neq 24 19 23],.cond 24 (ai [af [dj 4],.ret]) .skip]),af [aK .add 25 13 1,aa 13 25]])))],af [j8 4],.ret])
def agF:List bU:=[.tmp 4]
theorem av1 (NN:Nat) (x:bt (aR.br iS)):dK NN [] ajy agF iS dR x=SE NN x:=by kernel_rfl
theorem as5:cK pX 74 ajy.er agF 2=true:=by decide+kernel
theorem ax6:dz pX 74 acN.M/\cg pX 74=true:= dL (args:=iS) (aJ:=dR) (aA.nil) cW as5 Eo fun x y h=>(av1 aN x).trans (apc x y h)
def acD:aF:=⟨21,sG,dN,dR,yu⟩
def ajk:bV:=
 (ai [af [cH 3 3 0,cH 4 3 1,cH 5 2 2,dj 6],ai [af [aU 10 3 3,aU 11 3 4,bA 12 73 [10,11],gN 13 12,aa 14 13,bC 14 (aU 15 3 4),bC 14 (aU 16 2 5),bC 14 (bA 17 22 [15,16]),bC 14 (gN 18 17),ik 19 14 18],.cond 19 (ai [af [dj 6],.ret]) .skip],af [aU 20 3 3,bA 21 72 [20],aa 7 21],ai [af [bM 8 0],.join ⟨[],[]⟩ [3,4,5,700] [] (.block 0 (.loop 0 ⟨[aH 3 3,aH 4 4,aH 5 5,bz 7 700 1,az 8],[bi 3 [vX,vX,vX],bi 4 [aI,aI,aI],(5,.box [vX,.c (.v (.list [lX]))]),aw 700]⟩ [3,4,5,22000,34000,35000,700] [bN 7 700] (ai [ai [af [aa 22 8,aL 23 1 4,ao 24 1 23,bA 25 76 [24],aV .lss 26 22 25],dG 26 0],.block 1 (ai [.dM true [aU 29 2 5,aL 30 1 4,ao 31 1 30,aa 32 8,bA 33 79 [31,32],bA 34 78 [29,33],bA 35 77 [34],aa 9 35],af [aa 36 9,aL 37 0 5,ao 38 1 37,aV .rem 39 36 38,aK .neq 40 39 0,aa 41 40,bZ 41 (aU 42 3 3),bZ 41 (aU 43 3 4),bZ 41 (aa 44 8),bZ 41 (oX 45 (.pG 69 [42,43,44])),bZ 41 (aa 46 7),bZ 41 (bA 47 74 [45,46]),bZ 41 (gN 48 47),j9 49 41 48],.cond 49 (ai [af [dj 6],.ret]) .skip]),af [aa 27 8,aK .add 28 27 1,aa 8 28]])))],af [j8 6],.ret])
def agr:List bU:=[.tmp 6]
theorem avN (NN:Nat) (x:bt (aR.br sG)):dK NN [UX,acC,U2,Lm,acR,acK,U3,U1,acN] ajk agr sG dR x=Sq NN x:=by kernel_rfl
theorem asR:cK pX 21 ajk.er agr 3=true:=by decide+kernel
theorem axW:dz pX 21 acD.M/\cg pX 21=true:= dL (args:=sG) (aJ:=dR) (aA.cons aie<|aA.cons axV<|aA.cons aik<|aA.cons QJ<|aA.cons aya<|aA.cons ax3<|aA.cons ail<|aA.HM aij<|aA.cons ax6<|aA.nil) cW asR yu fun x y h=>(avN aN x).trans (aoY x y h)
def Lk:aF:=⟨54,sI,dN,ew,rK⟩
def ajs:bV:=
 (ai [af [cH 2 3 0,bM 4 0],ai [af [aL 7 0 2,ao 8 1 7,ci 9 8,bM 10 0],.join ⟨[],[]⟩ [] [] (.block 0 (.loop 0 ⟨[az 1,cP 8,az 9,az 10],[]⟩ [2] [] (ai [af [aV .lss 11 10 9],dG 11 0,.block 1 (ai [af [aa 12 10,bE 13 1 8 10,ao 14 1 13,aa 5 12,aa 6 14],af [aa 15 6,aa 16 1,aV .eql 17 15 16],.cond 17 (ai [af [aa 18 5,aa 4 18],.ret]) .skip]),af [aK .add 19 10 1,aa 10 19]])))],af [bM 4 (-1)],.ret])
def agz:List bU:=[.tmp 4]
theorem avV (NN:Nat) (x:bt (aR.br sI)):dK NN [] ajs agz sI ew x=Sw NN x:=by kernel_rfl
theorem asZ:cK pX 54 ajs.er agz 2=true:=by decide+kernel
theorem QH:dz pX 54 Lk.M/\cg pX 54=true:= dL (args:=sI) (aJ:=ew) (aA.nil) cW asZ rK fun x y h=>(avV aN x).trans (ao6 x y h)
def acV:aF:=⟨52,D5,dN,dR,GP⟩
def ajK:bV:=
 (ai [af [cH 4 3 0,cH 5 2 1,cH 6 3 2,cH 7 2 3,dj 8],ai [af [aL 14 0 4,ao 15 1 14,ci 16 15,bM 17 0],.join ⟨[],[]⟩ [4,5,6,7] [] (.block 0 (.loop 0 ⟨[aH 4 4,aH 5 5,aH 6 6,aH 7 7,cP 15,az 16,az 17],[bi 4 [aI,aI,aI],(5,.box [vX,.c (.v (.list [lX]))]),bi 6 [aI,aI,aI],(7,.box [vX,.c (.v (.list [lX]))])]⟩ [4,5,6,7] [] (ai [af [aV .lss 18 17 16],dG 18 0,.join ⟨[az 17,aH 4 4,aH 5 5,aH 6 6,aH 7 7,cP 15,az 16],[bi 4 [aI,aI,aI],(5,.box [vX,.c (.v (.list [lX]))]),bi 6 [aI,aI,aI],(7,.box [vX,.c (.v (.list [lX]))])]⟩ [4,5,6,7] [] (.block 1 (ai [af [aa 19 17,bE 20 1 15 17,ao 21 1 20,aa 9 19,aa 10 21],af [aU 22 3 6,aa 23 10,bA 24 54 [22,23],aa 11 24],ai [af [aa 25 11,aK .lss 26 25 0],.cond 26 (.exit 1) .skip],ai [.dM true [aL 27 1 4,ao 28 1 27,aa 29 9,bE 30 1 28 29,ao 31 1 30,aL 32 1 6,ao 33 1 32,aa 34 11,bE 35 1 33 34,ao 36 1 35,aV .neq 37 31 36],.cond 37 (ai [af [dj 8],.ret]) .skip],af [aL 38 1 5,ao 39 1 38,aa 40 9,bE 41 1 39 40,ao 42 1 41,ci 43 42,bM 44 0],.block 2 (.loop 0 ⟨[aH 4 4,aH 5 5,aH 6 6,aH 7 7,az 11,cP 15,az 16,az 17,cP 42,az 43,az 44],[bi 4 [aI,aI,aI],(5,.box [vX,.c (.v (.list [lX]))]),bi 6 [aI,aI,aI],(7,.box [vX,.c (.v (.list [lX]))])]⟩ [4,5,6,7] [] (ai [af [aV .lss 45 44 43],dG 45 2,.block 3 (ai [af [aa 46 44,bE 47 1 42 44,ao 48 1 47,aa 12 46,aa 13 48],.dM true [aa 49 13,aL 50 1 7,ao 51 1 50,aa 52 11,bE 53 1 51 52,ao 54 1 53,aa 55 12,bE 56 1 54 55,ao 57 1 56,aV .add 58 49 57,aL 59 0 5,ao 60 1 59,aV .rem 61 58 60,aK .neq 62 61 0],.cond 62 (ai [af [dj 8],.ret]) .skip]),af [aK .add 63 44 1,aa 44 63]]))])),af [aK .add 64 17 1,aa 17 64]])))],af [j8 8],.ret])
def agR:List bU:=[.tmp 8]
theorem awd (NN:Nat) (x:bt (aR.br D5)):dK NN [Lk] ajK agR D5 dR x=NV NN x:=by kernel_rfl
theorem ath:cK pX 52 ajK.er agR 4=true:=by decide+kernel
theorem aye:dz pX 52 acV.M/\cg pX 52=true:= dL (args:=D5) (aJ:=dR) (aA.cons QH<|aA.nil) cW ath GP fun x y h=>(awd aN x).trans (apo x y h)
def O5:aF:=⟨100,dw,dN,dw,vI⟩
def ajw:bV:=
 (ai [af [jt 2],af [aa 3 0,oX 4 (.append true iX 8 (.k (.one (.nil iX))) 3),aa 2 4],.ret])
def agD:List bU:=[.tmp 2]
theorem avZ (NN:Nat) (x:bt (aR.br dw)):dK NN [] ajw agD dw dw x=Sz NN x:=by kernel_rfl
theorem as3:cK pX 100 ajw.er agD 1=true:=by decide+kernel
theorem Ya:dz pX 100 O5.M/\cg pX 100=true:= dL (args:=dw) (aJ:=dw) (aA.nil) cW as3 vI fun x y h=>(avZ aN x).trans (apa x y h)
def UZ:aF:=⟨53,iS,dN,dw,Er⟩
def ajF:bV:=
 (ai [af [jt 4],af [aa 8 0,bA 9 100 [8],aa 5 9],ai [af [aa 10 1,ci 11 10,bM 12 0],.join ⟨[bz 5 701 1],[aw 701]⟩ [700,701] [bN 5 701] (.block 0 (.loop 0 ⟨[cP 0,bz 5 700 1,cP 10,az 11,az 12],[aw 700]⟩ [10000,22,23,700] [bN 5 700] (ai [af [aV .lss 13 12 11],dG 13 0,.block 1 (ai [af [bE 14 1 10 12,ao 15 1 14,aa 7 15],af [aa 16 0,aa 17 7,bA 18 101 [16,17],gN 19 18],.cond 19 (af [aa 20 5,aa 21 7,oX 22 (.gk iX [21]),oX 23 (.append true iX 8 20 22),aa 5 23]) .skip]),af [aK .add 24 12 1,aa 12 24]])))],af [aa 25 5,aa 4 25],.ret])
def agM:List bU:=[.tmp 4]
theorem av8 (NN:Nat) (x:bt (aR.br iS)):dK NN [O5,Ll] ajF agM iS dw x=NS NN x:=by kernel_rfl
theorem atc:cK pX 53 ajF.er agM 2=true:=by decide+kernel
theorem aih:dz pX 53 UZ.M/\cg pX 53=true:= dL (args:=iS) (aJ:=dw) (aA.cons Ya<|aA.cons QI<|aA.nil) cW atc Er fun x y h=>(av8 aN x).trans (apj x y h)
def UY:aF:=⟨82,pw,dN,JP,Cc⟩
def ajE:bV:=
 (ai [af [cH 2 3 0,cH 3 3 1,jt 4,jt 5,dj 6],af [aL 13 0 2,ao 14 1 13,aL 15 0 3,ao 16 1 15,bA 17 53 [14,16],aa 7 17],af [aa 18 7,ci 19 18,oX 20 (.ji .bq iX 8 (0:Int) 19 19),aa 8 20],ai [af [aa 21 7,ci 22 21,bM 23 0],.join ⟨[bz 7 702 1,bz 8 703 1],[aw 702,aw 703]⟩ [2,3,700,701,702,703] [bN 7 702,bN 8 703] (.block 0 (.loop 0 ⟨[aH 2 2,aH 3 3,bz 7 700 1,bz 8 701 1,bz 21 700 1,az 22,az 23],[bi 2 [aI,aI,aI],bi 3 [aI,aI,aI],aw 700,aw 701]⟩ [2,3,18000,20,700,701] [bN 7 700,bN 8 701] (ai [af [aV .lss 24 23 22],dG 24 0,.block 1 (ai [af [aa 25 23,bE 26 1 21 23,ao 27 1 26,aa 9 25,aa 10 27],.dM true [aU 28 3 2,aa 29 10,bA 30 54 [28,29],aU 31 3 3,aa 32 10,bA 33 54 [31,32],aa 11 30,aa 12 33],ai [.dM true [aa 34 11,aK .geq 35 34 0,aa 36 35,bZ 36 (aa 37 12),bZ 36 (aK .geq 38 37 0),j9 39 36 38,aa 40 39,bZ 40 (aL 41 1 2),bZ 40 (ao 42 1 41),bZ 40 (aa 43 11),bZ 40 (bE 44 1 42 43),bZ 40 (ao 45 1 44),bZ 40 (aL 46 1 3),bZ 40 (ao 47 1 46),bZ 40 (aa 48 12),bZ 40 (bE 49 1 47 48),bZ 40 (ao 50 1 49),bZ 40 (aV .neq 51 45 50),j9 52 40 51],.cond 52 (ai [af [jt 4,jt 5,dj 6],.ret]) .skip],af [aa 53 11,aK .geq 54 53 0],.cond 54 (af [aa 55 8,aa 56 9,aL 57 1 2,ao 58 1 57,aa 59 11,bE 60 1 58 59,ao 61 1 60,bE 62 1 55 56,cQ 1 62 61]) (af [aa 63 8,aa 64 9,aL 65 1 3,ao 66 1 65,aa 67 12,bE 68 1 66 67,ao 69 1 68,bE 70 1 63 64,cQ 1 70 69])]),af [aK .add 71 23 1,aa 23 71]])))],af [aa 72 7,aa 73 8,aa 4 72,aa 5 73,j8 6],.ret])
def agL:List bU:=[.tmp 4,.tmp 5,.tmp 6]
theorem av7 (NN:Nat) (x:bt (aR.br pw)):dK NN [UZ,Lk] ajE agL pw JP x=NR NN x:=by kernel_rfl
theorem atb:cK pX 82 ajE.er agL 2=true:=by decide+kernel
theorem aif:dz pX 82 UY.M/\cg pX 82=true:= dL (args:=pw) (aJ:=JP) (aA.cons aih<|aA.cons QH<|aA.nil) cW atb Cc fun x y h=>(av7 aN x).trans (api x y h)
def acS:aF:=⟨83,iS,dN,dw,GN⟩
def ajG:bV:=
 (ai [af [jt 4],af [jt 5],ai [af [aa 8 0,ci 9 8,bM 10 0],.join ⟨[bz 5 701 1],[aw 701]⟩ [700,701] [bN 5 701] (.block 0 (.loop 0 ⟨[cP 1,bz 5 700 1,cP 8,az 9,az 10],[aw 700]⟩ [19,20,700] [bN 5 700] (ai [af [aV .lss 11 10 9],dG 11 0,.block 1 (ai [af [bE 12 1 8 10,ao 13 1 12,aa 7 13],af [aa 14 1,aa 15 7,bA 16 101 [14,15]],.cond 16 (af [aa 17 5,aa 18 7,oX 19 (.gk iX [18]),oX 20 (.append true iX 8 17 19),aa 5 20]) .skip]),af [aK .add 21 10 1,aa 10 21]])))],af [aa 22 5,aa 4 22],.ret])
def agN:List bU:=[.tmp 4]
theorem av9 (NN:Nat) (x:bt (aR.br iS)):dK NN [Ll] ajG agN iS dw x=NT NN x:=by kernel_rfl
theorem atd:cK pX 83 ajG.er agN 2=true:=by decide+kernel
theorem ayb:dz pX 83 acS.M/\cg pX 83=true:= dL (args:=iS) (aJ:=dw) (aA.cons QI<|aA.nil) cW atd GN fun x y h=>(av9 aN x).trans (apk x y h)
def acO:aF:=⟨71,wS,dN,jo,GK⟩
def ajz:bV:=
 (ai [af [cH 4 3 0,iT 8 [.nil iX,.nil iX,.nil iX]],af [aa 12 1,bA 13 100 [12],aa 14 2,bA 15 100 [14],oX 16 (.build [.nil iX,.nil iX,.nil iX] [(0,1,13),(1,1,15)]),iT 9 [.nil iX,.nil iX,.nil iX],cQ 3 9 16],af [aa 17 2,bA 18 76 [17],aa 10 18],af [aa 19 10,aa 20 3,ci 21 20,aV .mul 22 19 21,oX 23 (.ji .bq iX 8 (0:Int) (kX 0) 22),aL 24 2 9,cQ 1 24 23],ai [af [bM 11 0],.join ⟨[aH 9 9,aH 8 8],[bi 8 [fX 706 1,fX 707 1,fX 708 1],bi 9 [fX 709 1,fX 710 1,fX 711 1],aw 706,aw 707,aw 708,aw 709,aw 710,aw 711]⟩ [8,9,700,701,702,703,704,705,706,707,708,709,710,711] [aS 8 0 706,aS 8 1 707,aS 8 2 708,aS 9 0 709,aS 9 1 710,aS 9 2 711] (.block 0 (.loop 0 ⟨[cP 3,aH 8 8,aH 9 9,az 10,az 11],[bi 8 [fX 700 1,fX 701 1,fX 702 1],bi 9 [fX 703 1,fX 704 1,fX 705 1],aw 700,aw 701,aw 702,aw 703,aw 704,aw 705]⟩ [4,8,14000,16000,9,23,33,700,701,702,703,704,705] [aS 8 0 700,aS 8 1 701,aS 8 2 702,aS 9 0 703,aS 9 1 704,aS 9 2 705] (ai [ai [af [aa 25 11,aa 26 10,aV .lss 27 25 26],dG 27 0],.block 1 (af [aL 30 2 9,ao 31 1 30,aa 32 3,oX 33 (.append true iX 8 31 32),aL 34 2 9,cQ 1 34 33]),af [aa 28 11,aK .add 29 28 1,aa 11 29]])))],af [aU 35 3 9,cQ 3 8 35],.ret])
def agG:List bU:=[.cell 8 3 true]
theorem av2 (NN:Nat) (x:bt (aR.br wS)):dK NN [O5,Lm] ajz agG wS jo x=SF NN x:=by kernel_rfl
theorem as6:cK pX 71 ajz.er agG 4=true:=by decide+kernel
theorem ax7:dz pX 71 acO.M/\cg pX 71=true:= dL (args:=wS) (aJ:=jo) (aA.cons Ya<|aA.cons QJ<|aA.nil) cW as6 GK fun x y h=>(av2 aN x).trans (apd x y h)
def acY:aF:=⟨84,wV,dN,dw,yx⟩
def ajR:bV:=
 (ai [af [cH 2 3 0,jt 4],af [aa 10 1,ci 11 10,oX 12 (.ji .bq iX 8 (0:Int) 11 11),aa 5 12],af [bM 6 1],ai [af [aL 13 1 2,ao 14 1 13,ci 15 14,aK .sub 16 15 1,aa 7 16],.join ⟨[bz 5 704 1],[aw 704]⟩ [2,700,704] [bN 5 704] (.block 0 (.loop 0 ⟨[cP 1,aH 2 2,bz 5 700 1,az 6,az 7],[bi 2 [aI,aI,aI],aw 700]⟩ [2,12,700,703] [bN 5 700] (ai [ai [af [aa 17 7,aK .geq 18 17 0],dG 18 0],.join ⟨[az 7,cP 1,aH 2 2,bz 5 703 1,az 6],[bi 2 [aI,aI,aI],aw 703]⟩ [2,702,703] [bN 5 703] (.block 1 (ai [ai [af [aa 21 1,ci 22 21,bM 23 0],.join ⟨[az 6,az 7,cP 1,aH 2 2,bz 5 702 1],[bi 2 [aI,aI,aI],aw 702]⟩ [2,701,702] [bN 5 702] (.block 2 (.loop 0 ⟨[cP 1,aH 2 2,bz 5 701 1,az 6,az 7,cP 21,az 22,az 23],[bi 2 [aI,aI,aI],aw 701]⟩ [2,700,701] [bN 5 701] (ai [af [aV .lss 24 23 22],dG 24 2,.block 3 (ai [af [aa 25 23,bE 26 1 21 23,ao 27 1 26,aa 8 25,aa 9 27],af [aa 28 9,aL 29 0 2,ao 30 1 29,aa 31 7,bE 32 1 30 31,ao 33 1 32,aV .eql 34 28 33],.cond 34 (af [aa 35 5,aa 36 8,aa 37 6,bE 38 1 35 36,cQ 1 38 37]) .skip]),af [aK .add 39 23 1,aa 23 39]])))],af [aa 40 6,aL 41 1 2,ao 42 1 41,aa 43 7,bE 44 1 42 43,ao 45 1 44,aV .mul 46 40 45,aa 6 46]])),af [aa 19 7,aK .sub 20 19 1,aa 7 20]])))],af [aa 47 5,aa 4 47],.ret])
def agY:List bU:=[.tmp 4]
theorem awk (NN:Nat) (x:bt (aR.br wV)):dK NN [] ajR agY wV dw x=SR NN x:=by kernel_rfl
theorem ato:cK pX 84 ajR.er agY 2=true:=by decide+kernel
theorem ayh:dz pX 84 acY.M/\cg pX 84=true:= dL (args:=wV) (aJ:=dw) (aA.nil) cW ato yx fun x y h=>(awk aN x).trans (apt x y h)
def acM:aF:=⟨87,iS,dN,ew,Ae⟩
def ajx:bV:=
 (ai [af [bM 4 0],af [bM 5 0],ai [af [aa 7 0,ci 8 7,bM 9 0],.join ⟨[az 5],[]⟩ [] [] (.block 0 (.loop 0 ⟨[cP 0,cP 1,az 5,az 8,az 9],[]⟩ [] [] (ai [af [aV .lss 10 9 8],dG 10 0,.block 1 (ai [af [aa 11 9,aa 6 11],.dM true [aa 12 5,aa 13 0,aa 14 6,bE 15 1 13 14,ao 16 1 15,aa 17 1,aa 18 6,bE 19 1 17 18,ao 20 1 19,aV .mul 21 16 20,aV .add 22 12 21,aa 5 22]]),af [aK .add 23 9 1,aa 9 23]])))],af [aa 24 5,aa 4 24],.ret])
def agE:List bU:=[.tmp 4]
theorem av0 (NN:Nat) (x:bt (aR.br iS)):dK NN [] ajx agE iS ew x=SD NN x:=by kernel_rfl
theorem as4:cK pX 87 ajx.er agE 2=true:=by decide+kernel
theorem ax5:dz pX 87 acM.M/\cg pX 87=true:= dL (args:=iS) (aJ:=ew) (aA.nil) cW as4 Ae fun x y h=>(av0 aN x).trans (apb x y h)
def acT:aF:=⟨115,wS,wQ,dw,Es⟩
def ajH:bV:=
 (ai [af [cH 4 3 0],af [aa 12 1,uX (.vR (.int .i64) ((0:Int)) 12)],af [aa 13 2,ci 14 13,bM 15 0],.block 0 (.loop 0 ⟨[bz 1 1000000 1,cP 2,cP 3,aH 4 4,az 14,az 15],[(1000000,.row false .bq iX),bi 4 [vX,vX,vX]]⟩ [1000000,4,700] [bN 1 700] (ai [af [aV .lss 16 15 14],dG 16 0,.join ⟨[az 15,bz 1 1000000 1,cP 2,cP 3,aH 4 4,az 14],[(1000000,.row false .bq iX),bi 4 [vX,vX,vX]]⟩ [1000000,4,702] [bN 1 702] (.block 1 (ai [af [aa 17 15,aa 8 17],af [aa 18 3,ci 19 18,bM 20 0],.block 2 (.loop 0 ⟨[bz 1 1000000 1,cP 2,cP 3,aH 4 4,az 8,az 14,az 15,az 19,az 20],[(1000000,.row false .bq iX),bi 4 [vX,vX,vX]]⟩ [1000000,4,701] [bN 1 701] (ai [af [aV .lss 21 20 19],dG 21 2,.block 3 (ai [af [aa 22 20,aa 9 22],.dM true [aa 23 2,aa 24 8,bE 25 1 23 24,ao 26 1 25,aa 27 3,aa 28 9,bE 29 1 27 28,ao 30 1 29,aV .mul 31 26 30,aL 32 1 4,ao 33 1 32,aV .rem 34 31 33,aa 10 34],af [aa 35 8,aa 36 9,aV .add 37 35 36,aa 11 37],af [aa 38 11,aa 39 1,ci 40 39,aV .lss 41 38 40],.cond 41 (.dM true [aa 42 1,aa 43 11,aa 44 1,aa 45 11,bE 46 1 44 45,ao 47 1 46,aa 48 10,aV .add 49 47 48,aL 50 1 4,ao 51 1 50,aV .rem 52 49 51,bE 53 1 42 43,cQ 1 53 52]) (ai [af [aL 54 0 4,ao 55 1 54,aK .eql 56 55 8],.cond 56 (.dM true [aa 57 1,aa 58 11,aK .sub 59 58 4,aa 60 1,aa 61 11,aK .sub 62 61 4,bE 63 1 60 62,ao 64 1 63,aL 65 1 4,ao 66 1 65,aV .add 67 64 66,aa 68 10,aV .sub 69 67 68,aL 70 1 4,ao 71 1 70,aV .rem 72 69 71,bE 73 1 57 59,cQ 1 73 72]) .skip])]),af [aK .add 74 20 1,aa 20 74]]))])),af [aK .add 75 15 1,aa 15 75]]))])
def agO:List bU:=[]
theorem awa (NN:Nat) (x:bt (aR.br wS)):zW NN [] ajH agO wS wQ dw x=SJ NN x:=by kernel_rfl
theorem ate:cK pX 115 ajH.er agO 4=true:=by decide+kernel
theorem ayc:uM pX 115 wQ acT.MM/\cg pX 115=true:= DF (args:=wS) (mu:=wQ) (aJ:=dw) (aA.nil) cW ate Es fun x y h=>(awa aN x).trans (apl x y h)
def acU:aF:=⟨86,wS,wQ,dw,GO⟩
def ajI:bV:=
 (ai [af [cH 4 3 0],af [aL 8 0 4,ao 9 1 8],.block 0 (ai [ai [af [aK .eql 16 9 1,aa 15 16],.join ⟨[(15,.one (.c (.v (.bool)))),az 9,aH 4 4,bz 1 1000000 1,cP 2,cP 3],[(1000000,.row false .bq iX),bi 4 [vX,vX,vX]]⟩ [1000000,4,700] [bN 1 700] (.cond 15 .skip (af [aK .eql 17 9 5,aa 15 17]))],.cond 15 (.dM true [aa 18 1,aa 19 2,gG 20 1 19 0,ao 21 1 20,aa 22 3,gG 23 1 22 0,ao 24 1 23,oX 25 (.mm false 21 24),gG 26 1 18 0,cQ 1 26 25]) (ai [af [aK .eql 28 9 2,aa 27 28],.cond 27 (.dM true [aa 29 1,aa 30 2,gG 31 1 30 0,ao 32 1 31,aa 33 3,gG 34 1 33 0,ao 35 1 34,aV .mul 36 32 35,aL 37 1 4,ao 38 1 37,aV .rem 39 36 38,gG 40 1 29 0,cQ 1 40 39]) (ai [af [aK .eql 42 9 3,aa 41 42],.cond 41 (.dM true [aa 43 1,aa 44 2,gG 45 1 44 0,ao 46 1 45,aa 47 3,gG 48 1 47 0,ao 49 1 48,aV .mul 50 46 49,aL 51 1 4,ao 52 1 51,oX 53 (.mm false 50 52),gG 54 1 43 0,cQ 1 54 53]) (ai [af [aK .eql 56 9 4,aa 55 56],.cond 55 (.dM true [aa 57 1,aa 58 2,gG 59 1 58 0,ao 60 1 59,aa 61 3,gG 62 1 61 0,ao 63 1 62,aV .add 64 60 63,aL 65 1 4,ao 66 1 65,oX 67 (.mm false 64 66),gG 68 1 57 0,cQ 1 68 67]) (ai [af [aK .eql 70 9 6,aa 69 70],.cond 69 (.dM true [aa 71 1,aa 72 2,gG 73 1 72 0,ao 74 1 73,aa 75 3,gG 76 1 75 0,ao 77 1 76,aV .and 78 74 77,gG 79 1 71 0,cQ 1 79 78]) (af [aU 10 3 4,aa 11 1,aa 12 2,aa 13 3,oX 14 (.kH .bq 115 [10,11,12,13])])])])])])])])
def agP:List bU:=[]
theorem awb (NN:Nat) (x:bt (aR.br wS)):zW NN [acT] ajI agP wS wQ dw x=NU NN x:=by kernel_rfl
theorem atf:cK pX 86 ajI.er agP 4=true:=by decide+kernel
theorem ayd:uM pX 86 wQ acU.MM/\cg pX 86=true:= DF (args:=wS) (mu:=wQ) (aJ:=dw) (aA.vS ayc<|aA.nil) cW atf GO fun x y h=>(awb aN x).trans (apm x y h)
def acW:aF:=⟨69,wU,Rl,aAm,Et⟩
def ajM:bV:=
 (ai [af [cH 3 3 0,cH 4 3 1,jt 6],af [aU 8 3 3,bA 9 85 [8],aa 7 9],af [aL 10 2 4,ao 11 1 10,aa 12 2,aa 13 7,aV .mul 14 12 13,aa 15 2,aK .add 16 15 1,aa 17 7,aV .mul 18 16 17,oX 19 (.slice 1 11 (some 14) (some 18)),aa 6 19],.ret])
def agT:List bU:=[.tmp 6]
theorem awf (NN:Nat) (x:bt (aR.br wU)):QY NN [H7] ajM agT wU Rl.tl x=SN NN x:=by kernel_rfl
theorem atj:cK pX 69 ajM.er agT 3=true:=by decide+kernel
theorem ayf:Hj pX 69 Rl.tl acW.MW/\cg pX 69=true:= aBk (args:=wU) (mu:=Rl.tl) (aA.cons MN<|aA.nil) cW atj (by decide+kernel) Et fun x y h=>(awf aN x).trans (apr x y h)
def acI:aF:=⟨88,ak1,Rr,dw,qb⟩
def ajr:bV:=
 (ai [af [cH 3 3 0],af [aL 7 0 3,ao 8 1 7],.block 0 (ai [ai [af [aK .eql 31 8 1,aa 30 31],.join ⟨[(30,.one (.c (.v (.bool)))),az 8,(1,.one (.c (.sl 1000000 1))),cP 2,aH 3 3],[(1000000,.row false .bq iX),bi 3 [vX,vX,vX]]⟩ [1000000,3,700] [bN 1 700] (.cond 30 .skip (af [aK .eql 32 8 5,aa 30 32]))],.cond 30 (.dM true [aa 33 1,aa 34 1,gG 35 1 34 0,ao 36 1 35,aa 37 2,gG 38 1 37 0,ao 39 1 38,oX 40 (.mm true 36 39),gG 41 1 33 0,cQ 1 41 40]) (ai [af [aK .eql 43 8 3,aa 42 43],.cond 42 (.dM true [aa 44 1,aa 45 1,gG 46 1 45 0,ao 47 1 46,aa 48 2,gG 49 1 48 0,ao 50 1 49,aV .add 51 47 50,aL 52 1 3,ao 53 1 52,oX 54 (.mm false 51 53),gG 55 1 44 0,cQ 1 55 54]) (ai [af [aK .eql 57 8 4,aa 56 57],.cond 56 (.dM true [aa 58 1,aa 59 1,gG 60 1 59 0,ao 61 1 60,aa 62 2,gG 63 1 62 0,ao 64 1 63,oX 65 (.mm false 61 64),gG 66 1 58 0,cQ 1 66 65]) (ai [af [aK .eql 68 8 6,aa 67 68],.cond 67 (.dM true [aa 69 1,gG 70 1 69 0,ao 71 1 70,aa 72 2,gG 73 1 72 0,ao 74 1 73,aV .or 75 71 74,gG 76 1 69 0,cQ 1 76 75]) (ai [af [aa 9 1,ci 10 9,bM 11 0],.block 1 (.loop 0 ⟨[(1,.one (.c (.sl 1000000 1))),cP 2,aH 3 3,az 10,az 11],[(1000000,.row false .bq iX),bi 3 [vX,vX,vX]]⟩ [1000000,3,701] [bN 1 701] (ai [af [aV .lss 12 11 10],dG 12 1,.block 2 (ai [af [aa 13 11,aa 6 13],.dM true [aa 14 1,aa 15 6,aa 16 1,aa 17 6,bE 18 1 16 17,ao 19 1 18,aa 20 2,aa 21 6,bE 22 1 20 21,ao 23 1 22,aV .add 24 19 23,aL 25 1 3,ao 26 1 25,aV .rem 27 24 26,bE 28 1 14 15,cQ 1 28 27]]),af [aK .add 29 11 1,aa 11 29]]))])])])])])])
def agy:List bU:=[]
theorem avU (NN:Nat) (x:bt (aR.br ak1)):M5 NN [] ajr agy Rr.nW aaS dw x.1 x.2.1 x.2.2=Ak NN x:=by kernel_rfl
theorem asY:cK pX 88 ajr.er agy 3=true:=by decide+kernel
theorem ax1:EB pX 88 Rr.nW acI.MX/\cg pX 88=true:= aBw (bg:=aaS) rfl (mu:=Rr) (aJ:=dw) (aA.nil) cW asY qb fun x y h=>(avU aN x).trans (ao5 x y h)
def U0:aF:=⟨89,iS,wQ,YY,xf⟩
def ajJ:bV:=
 (ai [af [dj 4],ai [af [aa 6 0,ci 7 6,aK .sub 8 7 1,aa 5 8],.join ⟨[],[(1000000,.row false .bq iX)]⟩ [1000000] [] (.block 0 (.loop 0 ⟨[cP 0,bz 1 1000000 1,az 5],[(1000000,.row false .bq iX)]⟩ [1000000,700] [bN 1 700] (ai [ai [af [aa 9 5,aK .geq 10 9 0],dG 10 0],.block 1 (ai [af [aa 13 1,aa 14 5,bE 15 1 13 14,ao 16 1 15,aK .add 17 16 1,bE 18 1 13 14,cQ 1 18 17],ai [.dM true [aa 19 1,aa 20 5,bE 21 1 19 20,ao 22 1 21,aa 23 0,aa 24 5,bE 25 1 23 24,ao 26 1 25,aV .lss 27 22 26],.cond 27 (ai [af [j8 4],.ret]) .skip],af [aa 28 1,aa 29 5,bE 30 1 28 29,uX (.store 1 30 (kX 0))]]),af [aa 11 5,aK .sub 12 11 1,aa 5 12]])))],af [dj 4],.ret])
def agQ:List bU:=[.tmp 4]
theorem awc (NN:Nat) (x:bt (aR.br iS)):zW NN [] ajJ agQ iS wQ YY x=SK NN x:=by kernel_rfl
theorem atg:cK pX 89 ajJ.er agQ 2=true:=by decide+kernel
theorem aii:uM pX 89 wQ U0.MM/\cg pX 89=true:= DF (args:=iS) (mu:=wQ) (aJ:=YY) (aA.nil) cW atg xf fun x y h=>(awc aN x).trans (apn x y h)
def acE:aF:=⟨25,D6,dN,JN,GG⟩
def ajl:bV:=
 (ai [af [cH 4 3 0,cH 5 3 1,cH 6 3 2,iT 8 [.nil iX,.nil iX,.nil iX],dj 9],ai [af [aU 24 3 4,aU 25 3 5,bA 26 73 [24,25],gN 27 26,aa 28 27,bC 28 (aU 29 3 4),bC 28 (aU 30 3 6),bC 28 (bA 31 73 [29,30]),bC 28 (gN 32 31),ik 33 28 32],.cond 33 (ai [af [oX 34 (.build [.nil iX,.nil iX,.nil iX] []),cQ 3 8 34,dj 9],.ret]) .skip],af [aU 36 3 5,aU 37 3 6,bA 38 82 [36,37],aa 35 38,jr 39 0 35,jr 40 1 35,jr 41 2 35,aa 10 39,aa 11 40,aa 12 41],ai [af [aa 42 12,gN 43 42,aa 44 43,bC 44 (aa 45 11),bC 44 (bA 46 76 [45]),bC 44 (aK .gtr 47 46 65536),ik 48 44 47],.cond 48 (ai [af [oX 49 (.build [.nil iX,.nil iX,.nil iX] []),cQ 3 8 49,dj 9],.ret]) .skip],af [aa 50 10,aa 51 3,bA 52 83 [50,51],aa 13 52],af [aa 53 13,aa 54 13,ci 55 54,oX 56 (.ji .bq iX 8 (0:Int) 55 55),oX 57 (.build [.nil iX,.nil iX,.nil iX] [(0,1,53),(1,1,56)]),iT 14 [.nil iX,.nil iX,.nil iX],cQ 3 14 57],ai [af [aa 58 13,ci 59 58,bM 60 0],.join ⟨[bz 10 730 1,aH 14 14,aH 8 8,bz 11 731 1,aH 4 4,aH 6 6,aH 5 5],[bi 4 [vX,vX,vX],bi 5 [aI,aI,aI],bi 6 [aI,aI,aI],bi 8 [fX 724 1,fX 725 1,fX 726 1],bi 14 [fX 727 1,fX 728 1,fX 729 1],aw 724,aw 725,aw 726,aw 727,aw 728,aw 729,aw 730,aw 731]⟩ [4,5,6,8,14,700,701,702,703,704,705,706,707,724,725,726,727,728,729,730,731] [aS 8 0 724,aS 8 1 725,aS 8 2 726,aS 14 0 727,aS 14 1 728,aS 14 2 729,bN 10 730,bN 11 731] (.block 0 (.loop 0 ⟨[aH 4 4,aH 5 5,aH 6 6,aH 8 8,bz 10 706 1,bz 11 707 1,aH 14 14,bz 58 703 1,az 59,az 60],[bi 4 [vX,vX,vX],bi 5 [aI,aI,aI],bi 6 [aI,aI,aI],bi 8 [fX 700 1,fX 701 1,fX 702 1],bi 14 [fX 703 1,fX 704 1,fX 705 1],aw 700,aw 701,aw 702,aw 703,aw 704,aw 705,aw 706,aw 707]⟩ [4,5,6,8,39000,39001,53000,56,14,700,701,702,703,704,705,706,707,716,717,718,719,720,721,722,723] [aS 8 0 700,aS 8 1 701,aS 8 2 702,aS 14 0 703,aS 14 1 704,aS 14 2 705,bN 10 706,bN 11 707] (ai [af [aV .lss 61 60 59],dG 61 0,.join ⟨[az 60,aH 4 4,aH 5 5,aH 6 6,aH 8 8,bz 10 722 1,bz 11 723 1,aH 14 14,bz 58 719 1,az 59],[bi 4 [vX,vX,vX],bi 5 [aI,aI,aI],bi 6 [aI,aI,aI],bi 8 [fX 716 1,fX 717 1,fX 718 1],bi 14 [fX 719 1,fX 720 1,fX 721 1],aw 716,aw 717,aw 718,aw 719,aw 720,aw 721,aw 722,aw 723]⟩ [4,5,6,8,14,708,709,710,711,712,713,714,715,716,717,718,719,720,721,722,723] [aS 8 0 716,aS 8 1 717,aS 8 2 718,aS 14 0 719,aS 14 1 720,aS 14 2 721,bN 10 722,bN 11 723] (.block 1 (ai [af [aa 62 60,bE 63 1 58 60,ao 64 1 63,aa 15 62,aa 16 64],af [aa 65 10,ci 66 65,bM 67 0],.block 2 (.loop 0 ⟨[aH 4 4,aH 5 5,aH 6 6,aH 8 8,bz 10 714 1,bz 11 715 1,aH 14 14,az 15,az 16,bz 58 711 1,az 59,az 60,bz 65 714 1,az 66,az 67],[bi 4 [vX,vX,vX],bi 5 [aI,aI,aI],bi 6 [aI,aI,aI],bi 8 [fX 708 1,fX 709 1,fX 710 1],bi 14 [fX 711 1,fX 712 1,fX 713 1],aw 708,aw 709,aw 710,aw 711,aw 712,aw 713,aw 714,aw 715]⟩ [4,5,6,8,14,700,701,702,703,704,705,706,707,708,709,710,711,712,713,714,715] [aS 8 0 708,aS 8 1 709,aS 8 2 710,aS 14 0 711,aS 14 1 712,aS 14 2 713,bN 10 714,bN 11 715] (ai [af [aV .lss 68 67 66],dG 68 2,.block 3 (ai [af [aa 69 67,bE 70 1 65 67,ao 71 1 70,aa 17 69,aa 18 71],af [aa 72 18,aa 73 16,aV .eql 74 72 73],.cond 74 (.dM true [aL 75 1 14,ao 76 1 75,aa 77 15,aa 78 11,aa 79 17,bE 80 1 78 79,ao 81 1 80,bE 82 1 76 77,cQ 1 82 81]) .skip]),af [aK .add 83 67 1,aa 67 83]]))])),af [aK .add 84 60 1,aa 60 84]])))],ai [af [aU 85 3 14,bA 86 80 [85],aK .eql 87 86 (-1)],.cond 87 (ai [af [oX 88 (.build [.nil iX,.nil iX,.nil iX] []),cQ 3 8 88,dj 9],.ret]) .skip],.dM true [aU 89 3 4,aL 90 0 14,ao 91 1 90,aL 92 1 14,ao 93 1 92,aU 94 3 4,bA 95 72 [94],bA 96 71 [89,91,93,95],cQ 3 14 96],.dM true [aU 97 3 5,aa 98 10,bA 99 84 [97,98],aU 100 3 6,aa 101 10,bA 102 84 [100,101],aU 103 3 14,aa 104 10,bA 105 84 [103,104],aa 19 99,aa 20 102,aa 21 105],af [aa 106 10,ci 107 106,oX 108 (.ji .bq iX 8 (0:Int) 107 107),aa 22 108],af [aU 109 3 4,bA 110 85 [109],oX 111 (.ji .bq iX 8 (0:Int) 110 110),aa 23 111],.block 4 (.loop 0 ⟨[aH 4 4,aH 5 5,aH 6 6,aH 8 8,bz 11 738 1,aH 14 14,bz 19 739 1,bz 20 740 1,bz 21 741 1,bz 22 742 1,bz 23 743 1],[bi 4 [vX,vX,vX],bi 5 [aI,aI,aI],bi 6 [aI,aI,aI],bi 8 [fX 732 1,fX 733 1,fX 734 1],bi 14 [fX 735 1,fX 736 1,fX 737 1],aw 732,aw 733,aw 734,aw 735,aw 736,aw 737,aw 738,aw 739,aw 740,aw 741,aw 742,aw 743]⟩ [4,5,6,8,14,96000,97000,97001,97002,100000,103000,106000,108,111,724,725,726,727,728,729,730,731,732,733,734,735,736,737,738,739,740,741,742,743] [aS 8 0 732,aS 8 1 733,aS 8 2 734,aS 14 0 735,aS 14 1 736,aS 14 2 737,bN 11 738,bN 19 739,bN 20 740,bN 21 741,bN 22 742,bN 23 743] (.block 5 (ai [.dM true [aU 112 3 4,aa 113 23,aU 114 3 4,aU 115 3 5,aa 116 19,aa 117 22,bA 118 87 [116,117],oX 119 (.pG 69 [114,115,118]),aU 120 3 4,aU 121 3 6,aa 122 20,aa 123 22,bA 124 87 [122,123],oX 125 (.pG 69 [120,121,124]),oX 126 (.kH .bq 86 [112,113,119,125])],.dM true [aU 127 3 4,aU 128 3 4,aU 129 3 14,aa 130 21,aa 131 22,bA 132 87 [130,131],oX 133 (.qX 69 [128,129,132]),aa 134 23,oX 135 (.tT .bq 88 [127,133,134])],af [aa 136 11,aa 137 22,oX 138 (.kH .bq 89 [136,137]),gN 139 138],.cond 139 (ai [af [aU 140 3 14,cQ 3 8 140,j8 9],.ret]) .skip])))])
def ags:List bU:=[.cell 8 3 true,.tmp 9]
theorem avO (NN:Nat) (x:bt (aR.br D6)):dK NN [UX,UY,Lm,acS,Lj,U2,acO,acY,H7,acM,U1,acU,acW,acI,U0] ajl ags D6 JN x=NO NN x:=by kernel_rfl
theorem asS:cK pX 25 ajl.er ags 4=true:=by decide+kernel
theorem axX:dz pX 25 acE.M/\cg pX 25=true:= dL (args:=D6) (aJ:=JN) (aA.cons aie<|aA.cons aif<|aA.cons QJ<|aA.cons ayb<|aA.cons QG<|aA.cons aik<|aA.cons ax7<|aA.cons ayh<|aA.cons MN<|aA.cons ax5<|aA.HM aij<|aA.vS ayd<|aA.anO ayf<|aA.HN ax1<|aA.vS aii<|aA.nil) cW asS GG fun x y h=>(avO aN x).trans (aoZ x y h)
def acZ:aF:=⟨102,iv,dN,dw,Ce⟩
def ajT:bV:=
 (ai [af [jt 4],af [jt 5],ai [af [aa 8 0,ci 9 8,bM 10 0],.join ⟨[bz 5 701 1],[aw 701]⟩ [700,701] [bN 5 701] (.block 0 (.loop 0 ⟨[az 1,bz 5 700 1,cP 8,az 9,az 10],[aw 700]⟩ [20,21,700] [bN 5 700] (ai [af [aV .lss 11 10 9],dG 11 0,.block 1 (ai [af [aa 12 10,bE 13 1 8 10,ao 14 1 13,aa 6 12,aa 7 14],af [aa 15 7,aa 16 1,aV .eql 17 15 16],.cond 17 (af [aa 18 5,aa 19 6,oX 20 (.gk iX [19]),oX 21 (.append true iX 8 18 20),aa 5 21]) .skip]),af [aK .add 22 10 1,aa 10 22]])))],af [aa 23 5,aa 4 23],.ret])
def ag0:List bU:=[.tmp 4]
theorem awm (NN:Nat) (x:bt (aR.br iv)):dK NN [] ajT ag0 iv dw x=SU NN x:=by kernel_rfl
theorem atq:cK pX 102 ajT.er ag0 2=true:=by decide+kernel
theorem ayi:dz pX 102 acZ.M/\cg pX 102=true:= dL (args:=iv) (aJ:=dw) (aA.nil) cW atq Ce fun x y h=>(awm aN x).trans (apv x y h)
def acJ:aF:=⟨55,wP,dN,JO,Ca⟩
def ajt:bV:=
 (ai [af [cH 2 3 0,cH 3 2 1,oX 4 (.mv (.k (.one (.nil [lX,lX,lX,lX]))))],af [aL 18 1 3,ao 19 1 18,ci 20 19,oX 21 (.ji .live [lX] 24 [] 20 20),aa 5 21],af [aL 22 1 3,ao 23 1 22,ci 24 23,oX 25 (.ji .bq iX 8 (0:Int) 24 24),aa 6 25],ai [af [aL 26 1 3,ao 27 1 26,ci 28 27,bM 29 0],.join ⟨[bz 5 708 1,aH 3 3,aH 2 2,bz 6 709 1],[bi 2 [aI,aI,aI],(3,.box [vX,.c (.v (.list [lX]))]),(708,.row true .live [lX]),aw 709]⟩ [2,3,700,701,708,709] [(false,5,0,708,.live,[]),bN 6 709] (.block 0 (.loop 0 ⟨[aH 2 2,aH 3 3,bz 5 700 1,bz 6 701 1,(27,.one (.c (.v (.list [lX])))),az 28,az 29],[bi 2 [aI,aI,aI],(3,.box [vX,.c (.v (.list [lX]))]),(700,.row true .live [lX]),aw 701]⟩ [2,3,21,25,700,701,706,707] [(false,5,0,700,.live,[]),bN 6 701] (ai [af [aV .lss 30 29 28],dG 30 0,.join ⟨[az 29,aH 2 2,aH 3 3,bz 5 706 1,bz 6 707 1,(27,.one (.c (.v (.list [lX])))),az 28],[bi 2 [aI,aI,aI],(3,.box [vX,.c (.v (.list [lX]))]),(706,.row true .live [lX]),aw 707]⟩ [2,3,704,705,706,707] [(false,5,0,706,.live,[]),bN 6 707] (.block 1 (ai [af [aa 31 29,bE 32 1 27 29,ao 33 1 32,aa 7 31,aa 8 33],ai [af [bM 9 0],.join ⟨[az 7,az 29,aH 2 2,aH 3 3,bz 5 704 1,bz 6 705 1,(27,.one (.c (.v (.list [lX])))),az 28],[bi 2 [aI,aI,aI],(3,.box [vX,.c (.v (.list [lX]))]),(704,.row true .live [lX]),aw 705]⟩ [2,3,702,703,704,705] [(false,5,0,704,.live,[]),bN 6 705] (.block 2 (.loop 0 ⟨[aH 2 2,aH 3 3,bz 5 702 1,bz 6 703 1,az 7,cP 8,az 9,(27,.one (.c (.v (.list [lX])))),az 28,az 29],[bi 2 [aI,aI,aI],(3,.box [vX,.c (.v (.list [lX]))]),(702,.row true .live [lX]),aw 703]⟩ [2,3,50,700,701,702,703] [(false,5,0,702,.live,[]),bN 6 703] (ai [ai [af [aa 34 9,aL 35 0 3,ao 36 1 35,aV .lss 37 34 36],dG 37 2],.block 3 (ai [af [aa 40 8,aa 41 9,bA 42 101 [40,41]],.cond 42 (.wJ false [] [aa 43 5,aa 44 7,aa 45 5,aa 46 7,bE 47 1 45 46,ao 48 1 47,aa 49 9,oX 50 (.gk iX [49]),oX 51 (.mv (.k (.one (.cC)))),bE 52 1 43 44,uX (.mv (.k (.one (.cC))))] ⟨8,1,8,52,48,50,51⟩) .skip]),af [aa 38 9,aK .add 39 38 1,aa 9 39]])))],af [aa 53 6,aa 54 7,aa 55 5,aa 56 7,bE 57 1 55 56,ao 58 1 57,ci 59 58,bE 60 1 53 54,cQ 1 60 59]])),af [aK .add 61 29 1,aa 29 61]])))],af [oX 10 (.mv (.k (.one (.nil [lX,lX,lX,lX]))))],af [aa 62 6,ci 63 62,oX 64 (.ji .bq iX 8 (0:Int) 63 63),aa 11 64],.block 4 (.loop 0 ⟨[aH 2 2,aH 3 3,bz 5 710 1,bz 6 711 1,bz 10 712 4,bz 11 713 1],[bi 2 [aI,aI,aI],(3,.box [vX,.c (.v (.list [lX]))]),(710,.row true .live [lX]),aw 711,(712,.row true .bq [lX,lX,lX,lX]),aw 713]⟩ [2,3,64,708,709,710,711,712,713,738,739,740,741] [(false,5,0,710,.live,[]),bN 6 711,bN 10 712,bN 11 713] (.block 5 (ai [af [aa 65 6,ci 66 65,oX 67 (.ji .bq iX 8 (0:Int) 66 66),aa 12 67],ai [af [aa 68 11,ci 69 68,bM 70 0],.join ⟨[bz 12 719 1,aH 2 2,aH 3 3,bz 5 720 1,bz 6 721 1,bz 10 722 4,bz 11 723 1],[bi 2 [aI,aI,aI],(3,.box [vX,.c (.v (.list [lX]))]),aw 719,(720,.row true .live [lX]),aw 721,(722,.row true .bq [lX,lX,lX,lX]),aw 723]⟩ [2,3,714,715,716,717,718,719,720,721,722,723] [bN 12 719,(false,5,0,720,.live,[]),bN 6 721,bN 10 722,bN 11 723] (.block 6 (.loop 0 ⟨[aH 2 2,aH 3 3,bz 5 714 1,bz 6 715 1,bz 10 716 4,bz 11 717 1,bz 12 718 1,bz 68 717 1,az 69,az 70],[bi 2 [aI,aI,aI],(3,.box [vX,.c (.v (.list [lX]))]),(714,.row true .live [lX]),aw 715,(716,.row true .bq [lX,lX,lX,lX]),aw 717,aw 718]⟩ [2,3,67,710,711,712,713,714,715,716,717,718] [(false,5,0,714,.live,[]),bN 6 715,bN 10 716,bN 11 717,bN 12 718] (ai [af [aV .lss 71 70 69],dG 71 6,.block 7 (ai [af [aa 72 70,bE 73 1 68 70,ao 74 1 73,aa 13 72,aa 14 74],af [aa 75 12,aa 76 13,aa 77 5,aa 78 13,bE 79 1 77 78,ao 80 1 79,aa 81 14,bE 82 1 80 81,ao 83 1 82,bE 84 1 75 76,cQ 1 84 83]]),af [aK .add 85 70 1,aa 70 85]])))],ai [.dM true [aa 86 12,bA 87 77 [86],aL 88 0 3,ao 89 1 88,aV .rem 90 87 89,aK .eql 91 90 0],.join ⟨[aH 2 2,aH 3 3,bz 5 738 1,bz 6 739 1,bz 10 740 4,bz 11 741 1],[bi 2 [aI,aI,aI],(3,.box [vX,.c (.v (.list [lX]))]),(738,.row true .live [lX]),aw 739,(740,.row true .bq [lX,lX,lX,lX]),aw 741]⟩ [2,3,15,124,719,720,721,722,723,735,736,737,738,739,740,741] [(false,5,0,738,.live,[]),bN 6 739,bN 10 740,bN 11 741] (.cond 91 (ai [af [aa 92 12,aL 93 0 2,ao 94 1 93,bA 95 100 [94],oX 96 (.build [.nil iX,.nil iX,.nil iX] [(0,1,95)]),oX 97 (.build [.nil iX,.nil iX,.nil iX,.nil iX] [(0,1,92),(1,3,96)]),iT 15 [.nil iX,.nil iX,.nil iX,.nil iX],cQ 4 15 97],ai [af [aa 98 12,ci 99 98,bM 100 0],.join ⟨[bz 10 734 4,aH 15 15,aH 2 2,aH 3 3,bz 5 735 1,bz 6 736 1,bz 11 737 1],[bi 2 [aI,aI,aI],(3,.box [vX,.c (.v (.list [lX]))]),bi 15 [fX 731 1,fX 732 1,fX 733 1,.c (.nil iX)],aw 731,aw 732,aw 733,(734,.row true .bq [lX,lX,lX,lX]),(735,.row true .live [lX]),aw 736,aw 737]⟩ [2,3,15,724,725,726,727,728,729,730,731,732,733,734,735,736,737] [aS 15 0 731,aS 15 1 732,aS 15 2 733,bN 10 734,(false,5,0,735,.live,[]),bN 6 736,bN 11 737] (.block 8 (.loop 0 ⟨[aH 2 2,aH 3 3,bz 5 727 1,bz 6 728 1,bz 10 729 4,bz 11 730 1,aH 15 15,bz 98 724 1,az 99,az 100],[bi 2 [aI,aI,aI],(3,.box [vX,.c (.v (.list [lX]))]),bi 15 [fX 724 1,fX 725 1,fX 726 1,.c (.nil iX)],aw 724,aw 725,aw 726,(727,.row true .live [lX]),aw 728,(729,.row true .bq [lX,lX,lX,lX]),aw 730]⟩ [2,3,96000,15,115000,116,117,719,720,721,722,723,724,725,726,727,728,729,730] [aS 15 0 724,aS 15 1 725,aS 15 2 726,(false,5,0,727,.live,[]),bN 6 728,bN 10 729,bN 11 730] (ai [af [aV .lss 101 100 99],dG 101 8,.block 9 (ai [af [aa 102 100,bE 103 1 98 100,ao 104 1 103,aa 16 102,aa 17 104],.dM true [aL 105 1 15,aL 106 1 105,ao 107 1 106,aL 108 1 3,ao 109 1 108,aa 110 16,bE 111 1 109 110,ao 112 1 111,aa 113 17,bA 114 102 [112,113],ci 115 114,oX 116 (.gk iX [115]),oX 117 (.append true iX 8 107 116),aL 118 1 15,aL 119 1 118,cQ 1 119 117]]),af [aK .add 120 100 1,aa 100 120]])))],af [aa 121 10,aU 122 4 15,oX 123 (.gk [lX,lX,lX,lX] [122]),oX 124 (.append false [lX,lX,lX,lX] 96 121 123),aa 10 124]]) .skip)],af [aa 125 6,aa 126 11,oX 127 (.kH .bq 89 [125,126]),gN 128 127],.cond 128 (ai [af [aa 129 10,aa 4 129],.ret]) .skip])))])
def agA:List bU:=[.tmp 4]
theorem avW (NN:Nat) (x:bt (aR.br wP)):dK NN [Ll,U3,O5,acZ,U0] ajt agA wP JO x=Sx NN x:=by kernel_rfl
theorem as0:cK pX 55 ajt.er agA 2=true:=by decide+kernel
theorem ax2:dz pX 55 acJ.M/\cg pX 55=true:= dL (args:=wP) (aJ:=JO) (aA.cons QI<|aA.cons ail<|aA.cons Ya<|aA.cons ayi<|aA.vS aii<|aA.nil) cW as0 Ca fun x y h=>(avW aN x).trans (ao7 x y h)
def acL:aF:=⟨56,Rq,dN,dR,GJ⟩
def ajv:bV:=
 (ai [af [cH 3 4 0,cH 4 4 1,dj 6],ai [af [aL 10 1 3,aL 11 0 10,ao 12 1 11,ci 13 12,bM 14 0],.join ⟨[],[]⟩ [3,4] [] (.block 0 (.loop 0 ⟨[az 2,aH 3 3,aH 4 4,cP 12,az 13,az 14],[bi 3 [aI,aI,aI,aI],bi 4 [aI,aI,aI,aI]]⟩ [3,4] [] (ai [af [aV .lss 15 14 13],dG 15 0,.block 1 (ai [af [aa 16 14,bE 17 1 12 14,ao 18 1 17,aa 7 16,aa 8 18],af [aL 19 1 4,aU 20 3 19,aa 21 8,bA 22 54 [20,21],aa 9 22],.dM true [aa 23 9,aK .geq 24 23 0,aa 25 24,bZ 25 (aL 26 0 3),bZ 25 (ao 27 1 26),bZ 25 (aa 28 7),bZ 25 (bE 29 1 27 28),bZ 25 (ao 30 1 29),bZ 25 (aL 31 0 4),bZ 25 (ao 32 1 31),bZ 25 (aa 33 9),bZ 25 (bE 34 1 32 33),bZ 25 (ao 35 1 34),bZ 25 (aV .add 36 30 35),bZ 25 (aa 37 2),bZ 25 (aV .rem 38 36 37),bZ 25 (aK .neq 39 38 0),j9 40 25 39],.cond 40 (ai [af [dj 6],.ret]) .skip]),af [aK .add 41 14 1,aa 14 41]])))],af [j8 6],.ret])
def agC:List bU:=[.tmp 6]
theorem avY (NN:Nat) (x:bt (aR.br Rq)):dK NN [Lk] ajv agC Rq dR x=NQ NN x:=by kernel_rfl
theorem as2:cK pX 56 ajv.er agC 3=true:=by decide+kernel
theorem ax4:dz pX 56 acL.M/\cg pX 56=true:= dL (args:=Rq) (aJ:=dR) (aA.cons QH<|aA.nil) cW as2 GJ fun x y h=>(avY aN x).trans (ao9 x y h)
def acG:aF:=⟨27,pw,dN,ew,GH⟩
def ajn:bV:=
 (ai [af [cH 2 3 0,cH 3 3 1,bM 4 0],ai [af [aU 8 3 2,bA 9 80 [8],aK .eql 10 9 (-1),aa 11 10,bC 11 (aU 12 3 3),bC 11 (bA 13 80 [12]),bC 11 (aK .eql 14 13 (-1)),ik 15 11 14],.cond 15 (ai [af [bM 4 (-1)],.ret]) .skip],af [aU 17 3 2,aU 18 3 3,bA 19 82 [17,18],aa 16 19,jr 20 0 16,jr 21 1 16,jr 22 2 16,aa 5 20,aa 6 21,aa 7 22],ai [af [aa 23 7,gN 24 23],.cond 24 (ai [af [bM 4 (-1)],.ret]) .skip],af [aa 25 6,bA 26 76 [25],oX 27 (.mm false 26 (kX 65537)),aa 4 27],.ret])
def agu:List bU:=[.tmp 4]
theorem avQ (NN:Nat) (x:bt (aR.br pw)):dK NN [Lj,UY,Lm] ajn agu pw ew x=NP NN x:=by kernel_rfl
theorem asU:cK pX 27 ajn.er agu 2=true:=by decide+kernel
theorem axZ:dz pX 27 acG.M/\cg pX 27=true:= dL (args:=pw) (aJ:=ew) (aA.cons QG<|aA.cons aif<|aA.cons QJ<|aA.nil) cW asU GH fun x y h=>(avQ aN x).trans (ao1 x y h)
def acB:aF:=⟨11,sH,dN,JQ,yt⟩
def aji:bV:=
 (ai [af [cH 5 3 0,cH 6 3 1,cH 7 2 2,cH 8 3 3,cH 9 2 4,iT 10 [.nil iX,.nil iX,.nil iX],bM 11 0,dj 12],ai [af [aU 25 3 5,aU 26 3 6,aU 27 2 7,bA 28 21 [25,26,27],gN 29 28,aa 30 29,bC 30 (aU 31 3 5),bC 30 (aU 32 3 8),bC 30 (aU 33 2 9),bC 30 (bA 34 21 [31,32,33]),bC 30 (gN 35 34),ik 36 30 35,aa 37 36,bC 37 (aL 38 0 7),bC 37 (ao 39 1 38),bC 37 (aL 40 0 9),bC 37 (ao 41 1 40),bC 37 (aV .neq 42 39 41),ik 43 37 42,aa 44 43,bC 44 (aU 45 3 6),bC 44 (aU 46 2 7),bC 44 (aU 47 3 8),bC 44 (aU 48 2 9),bC 44 (bA 49 52 [45,46,47,48]),bC 44 (gN 50 49),ik 51 44 50],.cond 51 (ai [af [oX 52 (.build [.nil iX,.nil iX,.nil iX] []),cQ 3 10 52,bM 11 0,dj 12],.ret]) .skip],af [jt 13],ai [af [aL 53 0 6,ao 54 1 53,aL 55 0 8,ao 56 1 55,bA 57 53 [54,56],ci 58 57,bM 59 0],.join ⟨[aH 5 5,bz 13 708 1,aH 6 6,aH 8 8,aH 9 9,aH 10 10,aH 7 7],[bi 5 [vX,vX,vX],bi 6 [aI,aI,aI],(7,.box [vX,.c (.v (.list [lX]))]),bi 8 [aI,aI,aI],(9,.box [vX,.c (.v (.list [lX]))]),bi 10 [fX 705 1,fX 706 1,fX 707 1],aw 705,aw 706,aw 707,aw 708]⟩ [5,6,7,8,9,10,700,701,702,703,704,705,706,707,708] [aS 10 0 705,aS 10 1 706,aS 10 2 707,bN 13 708] (.block 0 (.loop 0 ⟨[aH 5 5,aH 6 6,aH 7 7,aH 8 8,aH 9 9,aH 10 10,bz 13 703 1,bz 57 704 1,az 58,az 59],[bi 5 [vX,vX,vX],bi 6 [aI,aI,aI],(7,.box [vX,.c (.v (.list [lX]))]),bi 8 [aI,aI,aI],(9,.box [vX,.c (.v (.list [lX]))]),bi 10 [fX 700 1,fX 701 1,fX 702 1],aw 700,aw 701,aw 702,aw 703,aw 704]⟩ [5,6,7,8,9,10,58000,74,75,700,701,702,703,704] [aS 10 0 700,aS 10 1 701,aS 10 2 702,bN 13 703,bN 57 704] (ai [af [aV .lss 60 59 58],dG 60 0,.block 1 (ai [af [bE 61 1 57 59,ao 62 1 61,aa 15 62],.dM true [aU 63 3 6,aa 64 15,bA 65 54 [63,64],aK .geq 66 65 0,aU 67 3 8,aa 68 15,bA 69 54 [67,68],aK .geq 70 69 0,oX 71 (.qV .neq 66 70)],.cond 71 (af [aa 72 13,aa 73 15,oX 74 (.gk iX [73]),oX 75 (.append true iX 8 72 74),aa 13 75]) .skip]),af [aK .add 76 59 1,aa 59 76]])))],af [aU 78 3 5,aU 79 3 6,aU 80 3 8,aa 81 13,bA 82 25 [78,79,80,81],aa 77 82,jr 83 0 77,jr 84 1 77,iT 16 [.nil iX,.nil iX,.nil iX],cQ 3 16 83,aa 17 84],ai [af [aa 85 17,gN 86 85],.cond 86 (ai [af [oX 87 (.build [.nil iX,.nil iX,.nil iX] []),cQ 3 10 87,bM 11 0,dj 12],.ret]) .skip],af [bM 18 0],.dM true [aU 88 3 6,aU 89 2 7,bA 90 55 [88,89],aU 91 3 8,aU 92 2 9,bA 93 55 [91,92],aa 19 90,aa 20 93],ai [af [aa 94 19,ci 95 94,bM 96 0],.join ⟨[aH 16 16,az 18,aH 10 10],[bi 10 [fX 733 1,fX 734 1,fX 735 1],bi 16 [fX 736 1,fX 737 1,fX 738 1],aw 733,aw 734,aw 735,aw 736,aw 737,aw 738]⟩ [7,10,16,709,710,711,712,713,714,715,716,733,734,735,736,737,738] [aS 10 0 733,aS 10 1 734,aS 10 2 735,aS 16 0 736,aS 16 1 737,aS 16 2 738] (.block 2 (.loop 0 ⟨[aH 7 7,aH 10 10,aH 16 16,az 18,bz 20 715 4,bz 94 716 4,az 95,az 96],[(7,.box [vX,.c (.v (.list [lX]))]),bi 10 [fX 709 1,fX 710 1,fX 711 1],bi 16 [fX 712 1,fX 713 1,fX 714 1],aw 709,aw 710,aw 711,aw 712,aw 713,aw 714,(715,.row true .bq [lX,lX,lX,lX]),(716,.row true .bq [lX,lX,lX,lX])]⟩ [5,6,7,8,9,10,83000,83001,83002,16,91000,94000,705,706,707,708,709,710,711,712,713,714,715,716,725,726,727,728,729,730,731,732] [aS 10 0 709,aS 10 1 710,aS 10 2 711,aS 16 0 712,aS 16 1 713,aS 16 2 714,bN 20 715,bN 94 716] (ai [af [aV .lss 97 96 95],dG 97 2,.join ⟨[az 96,aH 7 7,aH 10 10,aH 16 16,az 18,bz 20 731 4,bz 94 732 4,az 95],[(7,.box [vX,.c (.v (.list [lX]))]),bi 10 [fX 725 1,fX 726 1,fX 727 1],bi 16 [fX 728 1,fX 729 1,fX 730 1],aw 725,aw 726,aw 727,aw 728,aw 729,aw 730,(731,.row true .bq [lX,lX,lX,lX]),(732,.row true .bq [lX,lX,lX,lX])]⟩ [7,10,16,22,717,718,719,720,721,722,723,724,725,726,727,728,729,730,731,732] [aS 10 0 725,aS 10 1 726,aS 10 2 727,aS 16 0 728,aS 16 1 729,aS 16 2 730,bN 20 731,bN 94 732] (.block 3 (ai [af [bE 98 4 94 96,aU 99 4 98,iT 22 [.nil iX,.nil iX,.nil iX,.nil iX],cQ 4 22 99],af [aa 100 20,ci 101 100,bM 102 0],.block 4 (.loop 0 ⟨[aH 7 7,aH 10 10,aH 16 16,az 18,bz 20 723 4,aH 22 22,bz 94 724 4,az 95,az 96,bz 100 723 4,az 101,az 102],[(7,.box [vX,.c (.v (.list [lX]))]),bi 10 [fX 717 1,fX 718 1,fX 719 1],bi 16 [fX 720 1,fX 721 1,fX 722 1],bi 22 [aI,aI,aI,aI],aw 717,aw 718,aw 719,aw 720,aw 721,aw 722,(723,.row true .bq [lX,lX,lX,lX]),(724,.row true .bq [lX,lX,lX,lX])]⟩ [7,10,16,22,24,709,710,711,712,713,714,715,716,717,718,719,720,721,722,723,724] [aS 10 0 717,aS 10 1 718,aS 10 2 719,aS 16 0 720,aS 16 1 721,aS 16 2 722,bN 20 723,bN 94 724] (ai [af [aV .lss 103 102 101],dG 103 4,.block 5 (ai [af [bE 104 4 100 102,aU 105 4 104,iT 24 [.nil iX,.nil iX,.nil iX,.nil iX],cQ 4 24 105],af [aU 106 4 22,aU 107 4 24,aL 108 0 7,ao 109 1 108,bA 110 56 [106,107,109]],.cond 110 (af [aa 111 18,aL 112 1 22,aU 113 3 112,aL 114 1 24,aU 115 3 114,bA 116 27 [113,115],aV .add 117 111 116,aa 18 117]) .skip]),af [aK .add 118 102 1,aa 102 118]]))])),af [aK .add 119 96 1,aa 96 119]])))],af [aU 120 3 16,aa 121 18,cQ 3 10 120,aa 11 121,j8 12],.ret])
def agp:List bU:=[.cell 10 3 true,.tmp 11,.tmp 12]
theorem avL (NN:Nat) (x:bt (aR.br sH)):dK NN [acD,acV,UZ,Lk,acE,acJ,acL,acG] aji agp sH JQ x=Kr NN x:=by kernel_rfl
theorem asP:cK pX 11 aji.er agp 5=true:=by decide+kernel
theorem axU:dz pX 11 acB.M/\cg pX 11=true:= dL (args:=sH) (aJ:=JQ) (aA.cons axW<|aA.cons aye<|aA.cons aih<|aA.cons QH<|aA.cons axX<|aA.cons ax2<|aA.cons ax4<|aA.cons axZ<|aA.nil) cW asP yt fun x y h=>(avL aN x).trans (aoW x y h)
def U4:aF:=⟨57,iS,dN,dR,yA⟩
def ajW:bV:=
 (ai [af [dj 4],ai [af [aa 6 0,ci 7 6,aa 8 1,ci 9 8,aV .neq 10 7 9],.cond 10 (ai [af [dj 4],.ret]) .skip],ai [af [bM 5 0],.join ⟨[],[]⟩ [] [] (.block 0 (.loop 0 ⟨[cP 0,cP 1,az 5],[]⟩ [] [] (ai [ai [af [aa 11 5,aa 12 0,ci 13 12,aV .lss 14 11 13],dG 14 0],.block 1 (ai [.dM true [aa 17 0,aa 18 5,bE 19 1 17 18,ao 20 1 19,aa 21 1,aa 22 5,bE 23 1 21 22,ao 24 1 23,aV .neq 25 20 24],.cond 25 (ai [af [dj 4],.ret]) .skip]),af [aa 15 5,aK .add 16 15 1,aa 5 16]])))],af [j8 4],.ret])
def ag3:List bU:=[.tmp 4]
theorem awp (NN:Nat) (x:bt (aR.br iS)):dK NN [] ajW ag3 iS dR x=aaf NN x:=by kernel_rfl
theorem att:cK pX 57 ajW.er ag3 2=true:=by decide+kernel
theorem aim:dz pX 57 U4.M/\cg pX 57=true:= dL (args:=iS) (aJ:=dR) (aA.nil) cW att yA fun x y h=>(awp aN x).trans (apy x y h)
def ac2:aF:=⟨12,pw,dN,dR,tN⟩
def ajY:bV:=
 (ai [af [cH 2 3 0,cH 3 3 1,dj 4],ai [af [aL 5 0 2,ao 6 1 5,aL 7 0 3,ao 8 1 7,bA 9 57 [6,8],gN 10 9],.cond 10 (ai [af [dj 4],.ret]) .skip],ai [af [aL 11 1 2,ao 12 1 11,aL 13 1 3,ao 14 1 13,bA 15 57 [12,14],gN 16 15],.cond 16 (ai [af [dj 4],.ret]) .skip],ai [af [aL 17 2 2,ao 18 1 17,aL 19 2 3,ao 20 1 19,bA 21 57 [18,20],gN 22 21],.cond 22 (ai [af [dj 4],.ret]) .skip],af [j8 4],.ret])
def ag5:List bU:=[.tmp 4]
theorem awr (NN:Nat) (x:bt (aR.br pw)):dK NN [U4] ajY ag5 pw dR x=SY NN x:=by kernel_rfl
theorem atv:cK pX 12 ajY.er ag5 2=true:=by decide+kernel
theorem aym:dz pX 12 ac2.M/\cg pX 12=true:= dL (args:=pw) (aJ:=dR) (aA.cons aim<|aA.nil) cW atv tN fun x y h=>(awr aN x).trans (apA x y h)
def ac1:aF:=⟨58,Rs,dN,dR,GR⟩
def ajX:bV:=
 (ai [af [dj 4],ai [af [aa 6 0,ci 7 6,aa 8 1,ci 9 8,aV .neq 10 7 9],.cond 10 (ai [af [dj 4],.ret]) .skip],ai [af [bM 5 0],.join ⟨[],[]⟩ [] [] (.block 0 (.loop 0 ⟨[(0,.one (.c (.v (.list [lX])))),(1,.one (.c (.v (.list [lX])))),az 5],[]⟩ [] [] (ai [ai [af [aa 11 5,aa 12 0,ci 13 12,aV .lss 14 11 13],dG 14 0],.block 1 (ai [.dM true [aa 17 0,aa 18 5,bE 19 1 17 18,ao 20 1 19,aa 21 1,aa 22 5,bE 23 1 21 22,ao 24 1 23,bA 25 57 [20,24],gN 26 25],.cond 26 (ai [af [dj 4],.ret]) .skip]),af [aa 15 5,aK .add 16 15 1,aa 5 16]])))],af [j8 4],.ret])
def ag4:List bU:=[.tmp 4]
theorem awq (NN:Nat) (x:bt (aR.br Rs)):dK NN [U4] ajX ag4 Rs dR x=aag NN x:=by kernel_rfl
theorem atu:cK pX 58 ajX.er ag4 2=true:=by decide+kernel
theorem ayl:dz pX 58 ac1.M/\cg pX 58=true:= dL (args:=Rs) (aJ:=dR) (aA.cons aim<|aA.nil) cW atu GR fun x y h=>(awq aN x).trans (apz x y h)
def ac0:aF:=⟨13,Q9,dN,dR,yz⟩
def ajV:bV:=
 (ai [af [cH 2 2 0,cH 3 2 1,dj 4],ai [af [aL 5 0 2,ao 6 1 5,aL 7 0 3,ao 8 1 7,aV .neq 9 6 8],.cond 9 (ai [af [dj 4],.ret]) .skip],ai [af [aL 10 1 2,ao 11 1 10,aL 12 1 3,ao 13 1 12,bA 14 58 [11,13],gN 15 14],.cond 15 (ai [af [dj 4],.ret]) .skip],af [j8 4],.ret])
def ag2:List bU:=[.tmp 4]
theorem awo (NN:Nat) (x:bt (aR.br Q9)):dK NN [ac1] ajV ag2 Q9 dR x=SX NN x:=by kernel_rfl
theorem ats:cK pX 13 ajV.er ag2 2=true:=by decide+kernel
theorem ayk:dz pX 13 ac0.M/\cg pX 13=true:= dL (args:=Q9) (aJ:=dR) (aA.cons ayl<|aA.nil) cW ats yz fun x y h=>(awo aN x).trans (apx x y h)
def U5:aF:=⟨59,iv,Rc,Gf,vL⟩
def aj2:bV:=
 (ai [af [bM 4 0],ai [af [bM 5 0],.join ⟨[az 1],[(1000000,.row false .bq iX)]⟩ [1000000] [] (.block 0 (.loop 0 ⟨[bz 0 1000000 1,az 1,az 5],[(1000000,.row false .bq iX)]⟩ [1000000,700] [bN 0 700] (ai [ai [af [aa 6 5,aa 7 0,ci 8 7,aV .lss 9 6 8],dG 9 0],.block 1 (ai [af [aa 12 0,aa 13 5,aa 14 1,bE 15 1 12 13,cQ 1 15 14],af [aa 16 1,aK .add 17 16 1,aa 1 17]]),af [aa 10 5,aK .add 11 10 1,aa 5 11]])))],af [aa 18 1,aa 4 18],.ret])
def ag9:List bU:=[.tmp 4]
theorem awv (NN:Nat) (x:bt (aR.br iv)):zW NN [] aj2 ag9 iv Rc Gf x=S2 NN x:=by kernel_rfl
theorem atz:cK pX 59 aj2.er ag9 2=true:=by decide+kernel
theorem ain:uM pX 59 Rc U5.MM/\cg pX 59=true:= DF (args:=iv) (mu:=Rc) (aJ:=Gf) (aA.nil) cW atz vL fun x y h=>(awv aN x).trans (apE x y h)
def ac7:aF:=⟨14,sI,Re,YX,yC⟩
def aj4:bV:=
 (ai [af [cH 2 3 0,bM 4 0],af [aL 5 0 2,ao 6 1 5,aa 7 1,oX 8 (.kH .bq 59 [6,7]),aa 1 8],af [aL 9 1 2,ao 10 1 9,aa 11 1,oX 12 (.kH .bq 59 [10,11]),aa 1 12],af [aL 13 2 2,ao 14 1 13,aa 15 1,oX 16 (.kH .bq 59 [14,15]),aa 1 16],af [aa 17 1,aa 4 17],.ret])
def ahb:List bU:=[.tmp 4]
theorem awx (NN:Nat) (x:bt (aR.br sI)):zW NN [U5] aj4 ahb sI Re YX x=S4 NN x:=by kernel_rfl
theorem atB:cK pX 14 aj4.er ahb 2=true:=by decide+kernel
theorem ayr:uM pX 14 Re ac7.MM/\cg pX 14=true:= DF (args:=sI) (mu:=Re) (aJ:=YX) (aA.vS ain<|aA.nil) cW atB yC fun x y h=>(awx aN x).trans (apG x y h)
def ac6:aF:=⟨60,D7,Rd,JM,GS⟩
def aj3:bV:=
 (ai [af [bM 4 0],ai [af [bM 5 0],.join ⟨[az 1],[(1000000,.row false .live [lX])]⟩ [1000000] [] (.block 0 (.loop 0 ⟨[bz 0 1000000 1,az 1,az 5],[(1000000,.row false .live [lX])]⟩ [1000000,700] [(false,0,0,700,.live,[])] (ai [ai [af [aa 6 5,aa 7 0,ci 8 7,aV .lss 9 6 8],dG 9 0],.block 1 (af [aa 12 0,aa 13 5,bE 14 1 12 13,ao 15 1 14,aa 16 1,oX 17 (.kH .bq 59 [15,16]),aa 1 17]),af [aa 10 5,aK .add 11 10 1,aa 5 11]])))],af [aa 18 1,aa 4 18],.ret])
def aha:List bU:=[.tmp 4]
theorem aww (NN:Nat) (x:bt (aR.br D7)):zW NN [U5] aj3 aha D7 Rd JM x=S3 NN x:=by kernel_rfl
theorem atA:cK pX 60 aj3.er aha 2=true:=by decide+kernel
theorem ayq:uM pX 60 Rd ac6.MM/\cg pX 60=true:= DF (args:=D7) (mu:=Rd) (aJ:=JM) (aA.vS ain<|aA.nil) cW atA GS fun x y h=>(aww aN x).trans (apF x y h)
def ac5:aF:=⟨15,D3,Rf,JM,Cf⟩
def aj1:bV:=
 (ai [af [cH 2 2 0,bM 4 0],af [aL 5 1 2,ao 6 1 5,aa 7 1,oX 8 (.kH .live 60 [6,7]),aa 1 8],af [aa 9 1,aa 4 9],.ret])
def ag8:List bU:=[.tmp 4]
theorem awu (NN:Nat) (x:bt (aR.br D3)):zW NN [ac6] aj1 ag8 D3 Rf JM x=S1 NN x:=by kernel_rfl
theorem aty:cK pX 15 aj1.er ag8 2=true:=by decide+kernel
theorem ayp:uM pX 15 Rf ac5.MM/\cg pX 15=true:= DF (args:=D3) (mu:=Rf) (aJ:=JM) (aA.vS ayq<|aA.nil) cW aty Cf fun x y h=>(awu aN x).trans (apD x y h)
def ac3:aF:=⟨61,iv,dN,ew,yB⟩
def ajZ:bV:=
 (ai [af [bM 4 0],ai [af [bM 5 0],.join ⟨[az 1],[]⟩ [] [] (.block 0 (.loop 0 ⟨[cP 0,az 1,az 5],[]⟩ [] [] (ai [ai [af [aa 6 5,aa 7 0,ci 8 7,aV .lss 9 6 8],dG 9 0],.block 1 (ai [ai [af [aa 12 0,aa 13 5,bE 14 1 12 13,ao 15 1 14,aa 16 1,aV .neq 17 15 16],.cond 17 (ai [af [bM 4 (-1)],.ret]) .skip],af [aa 18 1,aK .add 19 18 1,aa 1 19]]),af [aa 10 5,aK .add 11 10 1,aa 5 11]])))],af [aa 20 1,aa 4 20],.ret])
def ag6:List bU:=[.tmp 4]
theorem aws (NN:Nat) (x:bt (aR.br iv)):dK NN [] ajZ ag6 iv ew x=SZ NN x:=by kernel_rfl
theorem atw:cK pX 61 ajZ.er ag6 2=true:=by decide+kernel
theorem ayn:dz pX 61 ac3.M/\cg pX 61=true:= dL (args:=iv) (aJ:=ew) (aA.nil) cW atw yB fun x y h=>(aws aN x).trans (apB x y h)
def ac4:aF:=⟨16,sI,dN,ew,Af⟩
def aj0:bV:=
 (ai [af [cH 2 3 0,bM 4 0],af [aL 5 0 2,ao 6 1 5,aa 7 1,bA 8 61 [6,7],aa 1 8],ai [af [aa 9 1,aK .lss 10 9 0],.cond 10 (ai [af [bM 4 (-1)],.ret]) .skip],af [aL 11 1 2,ao 12 1 11,aa 13 1,bA 14 61 [12,13],aa 1 14],ai [af [aa 15 1,aK .lss 16 15 0],.cond 16 (ai [af [bM 4 (-1)],.ret]) .skip],af [aL 17 2 2,ao 18 1 17,aa 19 1,bA 20 61 [18,19],aa 1 20],ai [af [aa 21 1,aK .lss 22 21 0],.cond 22 (ai [af [bM 4 (-1)],.ret]) .skip],af [aa 23 1,aa 4 23],.ret])
def ag7:List bU:=[.tmp 4]
theorem awt (NN:Nat) (x:bt (aR.br sI)):dK NN [ac3] aj0 ag7 sI ew x=S0 NN x:=by kernel_rfl
theorem atx:cK pX 16 aj0.er ag7 2=true:=by decide+kernel
theorem ayo:dz pX 16 ac4.M/\cg pX 16=true:= dL (args:=sI) (aJ:=ew) (aA.cons ayn<|aA.nil) cW atx Af fun x y h=>(awt aN x).trans (apC x y h)
def O6:aF:=⟨3,sH,dN,dR,NM⟩
def ajU:bV:=
 (ai [af [cH 5 3 0,cH 6 3 1,cH 7 2 2,cH 8 3 3,cH 9 2 4,dj 10],af [bM 11 1048576],af [aU 28 3 6,aa 29 11,oX 30 (.call .live 5 [28,29]),aa 11 30],ai [af [aa 31 11,aK .lss 32 31 0],.cond 32 (ai [af [j8 10],.ret]) .skip],af [aU 33 2 7,aa 34 11,oX 35 (.call .live 6 [33,34]),aa 11 35],ai [af [aa 36 11,aK .lss 37 36 0],.cond 37 (ai [af [j8 10],.ret]) .skip],af [aU 38 3 8,aa 39 11,oX 40 (.call .live 5 [38,39]),aa 11 40],ai [af [aa 41 11,aK .lss 42 41 0],.cond 42 (ai [af [j8 10],.ret]) .skip],af [aU 43 2 9,aa 44 11,oX 45 (.call .live 6 [43,44]),aa 11 45],ai [af [aa 46 11,aK .lss 47 46 0],.cond 47 (ai [af [j8 10],.ret]) .skip],.dM true [aU 49 3 5,oX 50 (.call .live 8 [49]),aU 51 3 6,oX 52 (.call .live 9 [51]),aU 53 2 7,oX 54 (.call .live 10 [53]),aU 55 3 8,oX 56 (.call .live 9 [55]),aU 57 2 9,oX 58 (.call .live 10 [57]),oX 59 (.call .live 7 [50,52,54,56,58]),aa 48 59,jr 60 0 48,jr 61 1 48,jr 62 2 48,iT 12 [.nil iX,.nil iX,.nil iX],cQ 3 12 60,aa 13 61,aa 14 62],af [aU 63 3 6,oX 64 (.call .live 9 [63]),iT 15 [.nil iX,.nil iX,.nil iX],cQ 3 15 64],af [aU 65 2 7,oX 66 (.call .live 10 [65]),oX 16 (.alloc [zX,.nil [lX]]),cQ 2 16 66],af [aU 67 3 8,oX 68 (.call .live 9 [67]),iT 17 [.nil iX,.nil iX,.nil iX],cQ 3 17 68],af [aU 69 2 9,oX 70 (.call .live 10 [69]),oX 18 (.alloc [zX,.nil [lX]]),cQ 2 18 70],.dM true [aU 72 3 5,oX 73 (.call .live 8 [72]),aU 74 3 15,aU 75 2 16,aU 76 3 17,aU 77 2 18,oX 78 (.call .live 11 [73,74,75,76,77]),aa 71 78,jr 79 0 71,jr 80 1 71,jr 81 2 71,iT 19 [.nil iX,.nil iX,.nil iX],cQ 3 19 79,aa 20 80,aa 21 81],ai [af [aU 82 3 19,aU 83 3 12,oX 84 (.call .live 12 [82,83]),gN 85 84,aa 86 85,bC 86 (aa 87 20),bC 86 (aa 88 13),bC 86 (aV .neq 89 87 88),ik 90 86 89,aa 91 90,bC 91 (aa 92 21),bC 91 (aa 93 14),bC 91 (oX 94 (.qV .neq 92 93)),ik 95 91 94],.cond 95 (ai [af [dj 10],.ret]) .skip],ai [.dM true [aU 96 3 15,aU 97 3 6,oX 98 (.call .live 9 [97]),oX 99 (.call .live 12 [96,98]),gN 100 99],.cond 100 (ai [af [dj 10],.ret]) .skip],ai [.dM true [aU 101 2 16,aU 102 2 7,oX 103 (.call .live 10 [102]),oX 104 (.call .live 13 [101,103]),gN 105 104],.cond 105 (ai [af [dj 10],.ret]) .skip],ai [.dM true [aU 106 3 17,aU 107 3 8,oX 108 (.call .live 9 [107]),oX 109 (.call .live 12 [106,108]),gN 110 109],.cond 110 (ai [af [dj 10],.ret]) .skip],ai [.dM true [aU 111 2 18,aU 112 2 9,oX 113 (.call .live 10 [112]),oX 114 (.call .live 13 [111,113]),gN 115 114],.cond 115 (ai [af [dj 10],.ret]) .skip],af [bM 22 1],af [aU 116 3 15,aa 117 22,oX 118 (.kH .live 14 [116,117]),aa 22 118],af [aU 119 2 16,aa 120 22,oX 121 (.kH .live 15 [119,120]),aa 22 121],af [aU 122 3 17,aa 123 22,oX 124 (.kH .live 14 [122,123]),aa 22 124],af [aU 125 2 18,aa 126 22,oX 127 (.kH .live 15 [125,126]),aa 22 127],ai [af [aa 128 22,aK .lss 129 128 0,aa 130 129,bC 130 (aU 131 3 19),bC 130 (aU 132 3 12),bC 130 (oX 133 (.call .live 12 [131,132])),bC 130 (gN 134 133),ik 135 130 134,aa 136 135,bC 136 (aa 137 20),bC 136 (aa 138 13),bC 136 (aV .neq 139 137 138),ik 140 136 139,aa 141 140,bC 141 (aa 142 21),bC 141 (aa 143 14),bC 141 (oX 144 (.qV .neq 142 143)),ik 145 141 144],.cond 145 (ai [af [dj 10],.ret]) .skip],af [bM 23 1],af [aU 146 3 19,aa 147 23,oX 148 (.kH .live 14 [146,147]),aa 23 148],af [bM 24 1],af [aU 149 3 19,aa 150 24,oX 151 (.call .live 16 [149,150]),aa 24 151],ai [af [aa 152 24,aK .lss 153 152 0],.cond 153 (ai [af [dj 10],.ret]) .skip],ai [af [aa 154 24,aa 155 23,aV .neq 156 154 155],.cond 156 (ai [af [dj 10],.ret]) .skip],.dM true [aU 158 3 5,oX 159 (.call .live 8 [158]),aU 160 3 6,oX 161 (.call .live 9 [160]),aU 162 2 7,oX 163 (.call .live 10 [162]),aU 164 3 8,oX 165 (.call .live 9 [164]),aU 166 2 9,oX 167 (.call .live 10 [166]),oX 168 (.call .live 11 [159,161,163,165,167]),aa 157 168,jr 169 0 157,jr 170 1 157,jr 171 2 157,iT 25 [.nil iX,.nil iX,.nil iX],cQ 3 25 169,aa 26 170,aa 27 171],ai [af [aU 172 3 25,aU 173 3 12,oX 174 (.call .live 12 [172,173]),gN 175 174,aa 176 175,bC 176 (aa 177 26),bC 176 (aa 178 13),bC 176 (aV .neq 179 177 178),ik 180 176 179,aa 181 180,bC 181 (aa 182 27),bC 181 (aa 183 14),bC 181 (oX 184 (.qV .neq 182 183)),ik 185 181 184],.cond 185 (ai [af [dj 10],.ret]) .skip],af [bM 24 1],af [aU 186 3 19,aa 187 24,oX 188 (.call .live 16 [186,187]),aa 24 188],ai [af [aa 189 24,aK .lss 190 189 0],.cond 190 (ai [af [dj 10],.ret]) .skip],ai [af [aa 191 24,aa 192 23,aV .neq 193 191 192],.cond 193 (ai [af [dj 10],.ret]) .skip],af [j8 10],.ret])
def ag1:List bU:=[.tmp 10]
theorem awn (NN:Nat) (x:bt (aR.br sH)):dK NN [ada,ac8,adf,adg,adb,adh,acB,ac2,ac0,ac7,ac5,ac4] ajU ag1 sH dR x=SW NN x:=by kernel_rfl
theorem atr:cK pX 3 ajU.er ag1 5=true:=by decide+kernel
theorem ayj:dz pX 3 O6.M/\cg pX 3=true:= dL (args:=sH) (aJ:=dR) (aA.cons ayu<|aA.cons ays<|aA.cons ayx<|aA.cons ayy<|aA.cons ayv<|aA.cons ayz<|aA.cons axU<|aA.cons aym<|aA.cons ayk<|aA.vS ayr<|aA.vS ayp<|aA.cons ayo<|aA.nil) cW atr NM fun x y h=>(awn aN x).trans (apw x y h)
end Go.Am
