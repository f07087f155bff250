/- MT: sizes, copies, comparisons and marks of the laws' types. No condition. -/
import Derived.Test.YtbgmbplglejidaaB2
set_option linter.unusedVariables false
set_option linter.unusedSimpArgs false
set_option synthInstance.maxSize 1000
set_option synthInstance.maxHeartbeats 400000
namespace Go.Am
def dC (l:List Int):Nat:=l.length
def xx (l:List Int):Bool:=decide (l.length<=9223372036854775807)
def sd:(List Int)×Int->Option Int:=fun((x,k):(List Int)×Int)=>if Qd k/\xx x=true then some (pD (dC x) k) else none
def vq:(List Int)->Option (List Int):=fun(x:List Int)=>if dC x<=1048576 then some x else none
def sb:(List Int)×(List Int)->Option Bool:=fun((x,y):(List Int)×(List Int))=>if dC x<=1048576 then some (decide (x=y)) else none
def adE (x:Int×Int×(List Int)):Nat:=match x with|(a0,a1,a2)=>dC a2
def j0 (x:Int×Int×Int×(List Int)):Nat:=match x with|(a0,a1,a2,a3)=>dC a3
def zS:(Int×Int×Int×(List Int))×(Int×Int×Int×(List Int))->Option Bool:=fun((x,y):(Int×Int×Int×(List Int))×(Int×Int×Int×(List Int)))=>if j0 x<=1048576 then some (decide (x=y)) else none
def j3 (l:List (Int×Int×Int×(List Int))):Nat:=l.length+(l.map j0).sum
def zT:(List (Int×Int×Int×(List Int)))×(List (Int×Int×Int×(List Int)))->Option Bool:=fun((x,y):(List (Int×Int×Int×(List Int)))×(List (Int×Int×Int×(List Int))))=>if j3 x<=1048576 then some (decide (x=y)) else none
def iN (x:Int×(List (Int×Int×Int×(List Int)))):Nat:=match x with|(a0,a1)=>j3 a1
def sa:(Int×(List (Int×Int×Int×(List Int))))×(Int×(List (Int×Int×Int×(List Int))))->Option Bool:=fun((x,y):(Int×(List (Int×Int×Int×(List Int))))×(Int×(List (Int×Int×Int×(List Int)))))=>if iN x<=1048576 then some (decide (x=y)) else none
def lV (x:(List Int)×(List Int)×(List Int)):Nat:=match x with|(a0,a1,a2)=>dC a0+dC a1+dC a2
def FK (x:(List Int)×(List Int)×(List Int)):Bool:=match x with|(a0,a1,a2)=>xx a0&&xx a1&&xx a2
def z3:((List Int)×(List Int)×(List Int))×Int->Option Int:=fun((x,k):((List Int)×(List Int)×(List Int))×Int)=>if Qd k/\FK x=true then some (pD (lV x) k) else none
def se:((List Int)×(List Int)×(List Int))->Option ((List Int)×(List Int)×(List Int)):=fun(x:(List Int)×(List Int)×(List Int))=>if lV x<=1048576 then some x else none
def vp:((List Int)×(List Int)×(List Int))×((List Int)×(List Int)×(List Int))->Option Bool:=fun((x,y):((List Int)×(List Int)×(List Int))×((List Int)×(List Int)×(List Int)))=>if lV x<=1048576 then some (decide (x=y)) else none
def dQ (l:List Int):Nat:=gU (fun _=>1) l
def fb (l:List Int) (k:Int):List Int:=fN (fun _=>1) (fun _ k=>k) l k
def pG:(List Int)×Int->Option (Int×(List Int)):=fun((x,k):(List Int)×Int)=>if 0<=k/\k+4*(dC x:Nat)<=1099511627776 then some (k+(dQ x:Nat),fb x k) else none
def zU:(List Int)×Int->Option Int:=fun((x,k):(List Int)×Int)=>if 0<=k/\k+4*(dC x:Nat)<=1099511627776 then some (if x=fb x k then k+(dQ x:Nat) else -1) else none
def ly (x:Int×Int×Int×(List Int)):Nat:=match x with|(a0,a1,a2,a3)=>1+1+1+dQ a3
def jB (x:Int×Int×Int×(List Int)) (k:Int):Int×Int×Int×(List Int):=match x with|(a0,a1,a2,a3)=>(k,k+1,k+1+1,fb a3 (k+1+1+1))
def mn (l:List (Int×Int×Int×(List Int))):Nat:=gU ly l
def fO (l:List (Int×Int×Int×(List Int))) (k:Int):List (Int×Int×Int×(List Int)):=fN ly jB l k
def zY:(List (Int×Int×Int×(List Int)))×Int->Option (Int×(List (Int×Int×Int×(List Int)))):=fun((x,k):(List (Int×Int×Int×(List Int)))×Int)=>if 0<=k/\k+4*(j3 x:Nat)<=1099511627776 then some (k+(mn x:Nat),fO x k) else none
def zV:(List (Int×Int×Int×(List Int)))×Int->Option Int:=fun((x,k):(List (Int×Int×Int×(List Int)))×Int)=>if 0<=k/\k+4*(j3 x:Nat)<=1099511627776 then some (if x=fO x k then k+(mn x:Nat) else -1) else none
def Jv (x:Int×(List (Int×Int×Int×(List Int)))) (k:Int):Int×(List (Int×Int×Int×(List Int))):=match x with|(a0,a1)=>(a0,fO a1 (k))
def zW:(Int×(List (Int×Int×Int×(List Int))))×Int->Option (Int×(List (Int×Int×Int×(List Int)))):=fun(((a0,a1),k):(Int×(List (Int×Int×Int×(List Int))))×Int)=>if 0<=k/\k+4*(iN (a0,a1):Nat)<=1099511627776 then some (k+(mn a1:Nat),fO a1 (k)) else none
def tB:(Int×(List (Int×Int×Int×(List Int))))×Int->Option Int:=fun(((a0,a1),k):(Int×(List (Int×Int×Int×(List Int))))×Int)=>if 0<=k/\k+4*(iN (a0,a1):Nat)<=1099511627776 then some (if a1=fO a1 (k) then k+(mn a1:Nat) else -1) else none
def zZ:((List Int)×(List Int)×(List Int))×Int->Option (Int×(List Int)×(List Int)×(List Int)):=fun(((a0,a1,a2),k):((List Int)×(List Int)×(List Int))×Int)=>if 0<=k/\k+4*(lV (a0,a1,a2):Nat)<=1099511627776 then some (k+(dQ a0:Nat)+(dQ a1:Nat)+(dQ a2:Nat),fb a0 (k),fb a1 (k+(dQ a0:Nat)),fb a2 (k+(dQ a0:Nat)+(dQ a1:Nat))) else none
def GX:ai:=[(.one,[.list [.int .i64]]),(.one,[.int .i64])]
def Tq:ai:=[(.one,[.int .i64])]
def aln:aN:=[]
def GZ:ai:=[(.one,[.list [.int .i64]])]
def Ts:ai:=[(.one,[.list [.int .i64]])]
def alp:aN:=[]
def GL:ai:=[(.one,[.list [.int .i64]]),(.one,[.list [.int .i64]])]
def Tf:ai:=[(.one,[.bool])]
def alf:aN:=[]
def GM:ai:=[(.agg,[.int .i64,.int .i64,.int .i64,.list [.int .i64]]),(.agg,[.int .i64,.int .i64,.int .i64,.list [.int .i64]])]
def Tg:ai:=[(.one,[.bool])]
def alg:aN:=[]
def GN:ai:=[(.one,[.list [.int .i64,.int .i64,.int .i64,.list [.int .i64]]]),(.one,[.list [.int .i64,.int .i64,.int .i64,.list [.int .i64]]])]
def Th:ai:=[(.one,[.bool])]
def alh:aN:=[]
def GK:ai:=[(.agg,[.int .i64,.list [.int .i64,.int .i64,.int .i64,.list [.int .i64]]]),(.agg,[.int .i64,.list [.int .i64,.int .i64,.int .i64,.list [.int .i64]]])]
def Te:ai:=[(.one,[.bool])]
def ale:aN:=[]
def GY:ai:=[(.agg,[.list [.int .i64],.list [.int .i64],.list [.int .i64]]),(.one,[.int .i64])]
def Tr:ai:=[(.one,[.int .i64])]
def alo:aN:=[]
def G0:ai:=[(.agg,[.list [.int .i64],.list [.int .i64],.list [.int .i64]])]
def Tt:ai:=[(.agg,[.list [.int .i64],.list [.int .i64],.list [.int .i64]])]
def alq:aN:=[]
def GO:ai:=[(.agg,[.list [.int .i64],.list [.int .i64],.list [.int .i64]]),(.agg,[.list [.int .i64],.list [.int .i64],.list [.int .i64]])]
def Ti:ai:=[(.one,[.bool])]
def ali:aN:=[]
def GU:ai:=[(.one,[.list [.int .i64]]),(.one,[.int .i64])]
def Tn:ai:=[(.one,[.int .i64]),(.one,[.list [.int .i64]])]
def JC:aN:=[[some .ab]]
def GV:ai:=[(.one,[.list [.int .i64,.int .i64,.int .i64,.list [.int .i64]]]),(.one,[.int .i64])]
def To:ai:=[(.one,[.int .i64]),(.one,[.list [.int .i64,.int .i64,.int .i64,.list [.int .i64]]])]
def JD:aN:=[[some .live]]
def GS:ai:=[(.agg,[.int .i64,.list [.int .i64,.int .i64,.int .i64,.list [.int .i64]]]),(.one,[.int .i64])]
def Tm:ai:=[(.one,[.int .i64]),(.one,[.list [.int .i64,.int .i64,.int .i64,.list [.int .i64]]])]
def JB:aN:=[[none,some .live]]
def GW:ai:=[(.agg,[.list [.int .i64],.list [.int .i64],.list [.int .i64]]),(.one,[.int .i64])]
def Tp:ai:=[(.one,[.int .i64]),(.one,[.list [.int .i64]]),(.one,[.list [.int .i64]]),(.one,[.list [.int .i64]])]
def JE:aN:=[[some .ab,some .ab,some .ab]]
def GQ:ai:=[(.one,[.list [.int .i64]]),(.one,[.int .i64])]
def Tk:ai:=[(.one,[.int .i64])]
def alk:aN:=[]
def GR:ai:=[(.one,[.list [.int .i64,.int .i64,.int .i64,.list [.int .i64]]]),(.one,[.int .i64])]
def Tl:ai:=[(.one,[.int .i64])]
def alm:aN:=[]
def GP:ai:=[(.agg,[.int .i64,.list [.int .i64,.int .i64,.int .i64,.list [.int .i64]]]),(.one,[.int .i64])]
def Tj:ai:=[(.one,[.int .i64])]
def alj:aN:=[]
def LD (NN:Nat):((List Int)×Int)->(Option Int):=
 (fun((l0,i1):((List Int)×Int))=>
 ak (bd (dV .i64 i1 (aI (J l0))) (0:Int))
 (some ((-1:Int)))
 (some (dV .i64 i1 (aI (J l0)))))
def LG (NN:Nat):(List Int)->(Option (List Int)):=
 (fun(l0:(List Int))=>
 (qB (aI (J l0)) (aI (J l0)) 8).U (fun k1=>
 bD ((ae 0 k1 (J (dN k1 (0:Int)))).U (fun _=>
 bu NN (fun(((l2,i3),l4):(((List Int)×Int)×(List Int)))=>
 ak (bd i3 (aI (J l2)))
 ((dd l2 i3).U (fun i5=>
 (da i3 (J l4)).U (fun k6=>
 (bY l4 (aC 0 k6)).U (fun i7=>
 (ae 0 (J l4) (J (bg l4 (aC 0 k6) i5))).U (fun _=>
 some (Sum.inl ((l2,aU .i64 i3 1),bg l4 (aC 0 k6) i5)))))))
 (((ae 0 (J l4) (J l4)).U (fun _=>
 some (Sum.inl l4))).U (fun l8=>
 some (Sum.inr l8))))
 ((l0,(0:Int)),dN k1 (0:Int))))
 (fun l9=>
 (c9 l9 (J l9)).U (fun eW=>
 some eW))))
def WN (NN:Nat):((List Int)×(List Int))->(Option Bool):=
 (fun((l0,l1):((List Int)×(List Int)))=>
 ak (dt (aI (J l0)) (aI (J l1)))
 (some false)
 (bD (bu NN (fun((l2,l3,i4):((List Int)×((List Int)×Int)))=>
 ak (bd i4 (aI (J l2)))
 ((dd l2 i4).U (fun i5=>
 (dd l3 i4).U (fun i6=>
 ak (dt i5 i6)
 (some (Sum.inr (Sum.inr false)))
 (some (Sum.inl (l2,l3,aU .i64 i4 1))))))
 (some (Sum.inr (Sum.inl ()))))
 (l0,l1,(0:Int)))
 (fun _=>
 some true)))
def Lu (NN:Nat):((Int×(Int×(Int×(List Int))))×(Int×(Int×(Int×(List Int)))))->(Option Bool):=
 (fun(((i0,i1,i2,l3),i4,i5,i6,l7):((Int×(Int×(Int×(List Int))))×(Int×(Int×(Int×(List Int))))))=>
 ak (dt i0 i4)
 (some false)
 (ak (dt i1 i5)
 (some false)
 (ak (dt i2 i6)
 (some false)
 ((sb (l3,l7)).U (fun b8=>
 ak (cC b8)
 (some false)
 (some true))))))
def WO (NN:Nat):((List (Int×(Int×(Int×(List Int)))))×(List (Int×(Int×(Int×(List Int))))))->(Option Bool):=
 (fun((l0,l1):((List (Int×(Int×(Int×(List Int)))))×(List (Int×(Int×(Int×(List Int)))))))=>
 ak (dt (aI (J l0)) (aI (J l1)))
 (some false)
 (bD (bu NN (fun((l2,l3,i4):((List (Int×(Int×(Int×(List Int)))))×((List (Int×(Int×(Int×(List Int)))))×Int)))=>
 ak (bd i4 (aI (J l2)))
 ((dd l2 i4).U (fun(i5,i6,i7,l8)=>
 (dd l3 i4).U (fun(i9,cr,cT,dk)=>
 (zS ((i5,i6,i7,l8),i9,cr,cT,dk)).U (fun sv=>
 ak (cC sv)
 (some (Sum.inr (Sum.inr false)))
 (some (Sum.inl (l2,l3,aU .i64 i4 1)))))))
 (some (Sum.inr (Sum.inl ()))))
 (l0,l1,(0:Int)))
 (fun _=>
 some true)))
def Lt (NN:Nat):((Int×(List (Int×(Int×(Int×(List Int))))))×(Int×(List (Int×(Int×(Int×(List Int)))))))->(Option Bool):=
 (fun(((i0,l1),i2,l3):((Int×(List (Int×(Int×(Int×(List Int))))))×(Int×(List (Int×(Int×(Int×(List Int))))))))=>
 ak (dt i0 i2)
 (some false)
 ((zT (l1,l3)).U (fun b4=>
 ak (cC b4)
 (some false)
 (some true))))
def LF (NN:Nat):(((List Int)×((List Int)×(List Int)))×Int)->(Option Int):=
 (fun(((l0,l1,l2),i3):(((List Int)×((List Int)×(List Int)))×Int))=>
 (sd (l0,i3)).U (fun i4=>
 ak (bd i4 (0:Int))
 (some ((-1:Int)))
 ((sd (l1,i4)).U (fun i5=>
 ak (bd i5 (0:Int))
 (some ((-1:Int)))
 ((sd (l2,i5)).U (fun i6=>
 ak (bd i6 (0:Int))
 (some ((-1:Int)))
 (some i6)))))))
def LH (NN:Nat):((List Int)×((List Int)×(List Int)))->(Option ((List Int)×((List Int)×(List Int)))):=
 (fun((l0,l1,l2):((List Int)×((List Int)×(List Int))))=>
 (vq l0).U (fun l3=>
 (vq l1).U (fun l4=>
 (vq l2).U (fun l5=>
 (c9 l3 (J l3)).U (fun l6=>
 (c9 l4 (J l4)).U (fun l7=>
 (c9 l5 (J l5)).U (fun l8=>
 some (l6,l7,l8))))))))
def Lv (NN:Nat):(((List Int)×((List Int)×(List Int)))×((List Int)×((List Int)×(List Int))))->(Option Bool):=
 (fun(((l0,l1,l2),l3,l4,l5):(((List Int)×((List Int)×(List Int)))×((List Int)×((List Int)×(List Int)))))=>
 (sb (l0,l3)).U (fun b6=>
 ak (cC b6)
 (some false)
 ((sb (l1,l4)).U (fun b7=>
 ak (cC b7)
 (some false)
 ((sb (l2,l5)).U (fun b8=>
 ak (cC b8)
 (some false)
 (some true)))))))
def LA (NN:Nat):((List Int)×Int)->(Option (Int×(List Int))):=
 (fun((l0,i1):((List Int)×Int))=>
 bD ((ae 0 (J l0) (J l0)).U (fun _=>
 bu NN (fun(((i2,i3),l4):((Int×Int)×(List Int)))=>
 ak (bd i3 (aI (J l4)))
 ((da i3 (J l4)).U (fun k5=>
 (bY l4 (aC 0 k5)).U (fun i6=>
 (ae 0 (J l4) (J (bg l4 (aC 0 k5) i2))).U (fun _=>
 some (Sum.inl ((aU .i64 i2 1,aU .i64 i3 1),bg l4 (aC 0 k5) i2))))))
 (some (Sum.inr (Sum.inl (i2,l4)))))
 ((i1,(0:Int)),l0)))
 (fun(i7,l8)=>
 (jF (J l8) (J l0)).U (fun _=>
 some (i7,l8))))
def LB (NN:Nat):((List (Int×(Int×(Int×(List Int)))))×Int)->(Option (Int×(List (Int×(Int×(Int×(List Int))))))):=
 (fun((l0,i1):((List (Int×(Int×(Int×(List Int)))))×Int))=>
 bD ((ae 0 (J l0) (J l0)).U (fun _=>
 bu NN (fun(((i2,i3),l4):((Int×Int)×(List (Int×(Int×(Int×(List Int)))))))=>
 ak (bd i3 (aI (J l4)))
 ((da i3 (J l4)).U (fun k5=>
 (bY l4 (aC 0 k5)).U (fun(i6,i7,i8,l9)=>
 (da i3 (J l4)).U (fun yT=>
 (bY (bg l4 (aC 0 k5) (i2,i7,i8,l9)) (aC 0 yT)).U (fun(cT,cZ,cU,e9)=>
 (da i3 (J l4)).U (fun kj=>
 (bY (bg (bg l4 (aC 0 k5) (i2,i7,i8,l9)) (aC 0 yT) (cT,aU .i64 i2 1,cU,e9)) (aC 0 kj)).U (fun(eO,gn,gp,d7)=>
 (da i3 (J l4)).U (fun uT=>
 (bY (bg (bg (bg l4 (aC 0 k5) (i2,i7,i8,l9)) (aC 0 yT) (cT,aU .i64 i2 1,cU,e9)) (aC 0 kj) (eO,gn,aU .i64 (aU .i64 i2 1) (1:Int),d7)) (aC 0 uT)).U (fun(jR,g9,jq,fE)=>
 (bY (bg (bg (bg l4 (aC 0 k5) (i2,i7,i8,l9)) (aC 0 yT) (cT,aU .i64 i2 1,cU,e9)) (aC 0 kj) (eO,gn,aU .i64 (aU .i64 i2 1) (1:Int),d7)) (aC 0 uT)).U (fun(qh,yI,lM,gy)=>
 (pG (gy,aU .i64 (aU .i64 (aU .i64 i2 1) (1:Int)) (1:Int))).U (fun(oW,nZ)=>
 (bY (bg (bg (bg l4 (aC 0 k5) (i2,i7,i8,l9)) (aC 0 yT) (cT,aU .i64 i2 1,cU,e9)) (aC 0 kj) (eO,gn,aU .i64 (aU .i64 i2 1) (1:Int),d7)) (aC 0 uT)).U (fun(jS,gv,gK,kl)=>
 (ae 0 (J l4) (J (bg (bg (bg (bg l4 (aC 0 k5) (i2,i7,i8,l9)) (aC 0 yT) (cT,aU .i64 i2 1,cU,e9)) (aC 0 kj) (eO,gn,aU .i64 (aU .i64 i2 1) (1:Int),d7)) (aC 0 uT) (jS,gv,gK,nZ)))).U (fun _=>
 some (Sum.inl ((oW,aU .i64 i3 1),bg (bg (bg (bg l4 (aC 0 k5) (i2,i7,i8,l9)) (aC 0 yT) (cT,aU .i64 i2 1,cU,e9)) (aC 0 kj) (eO,gn,aU .i64 (aU .i64 i2 1) (1:Int),d7)) (aC 0 uT) (jS,gv,gK,nZ))))))))))))))))
 (some (Sum.inr (Sum.inl (i2,l4)))))
 ((i1,(0:Int)),l0)))
 (fun(mH,kK)=>
 (jF (J kK) (J l0)).U (fun _=>
 some (mH,kK))))
def Lz (NN:Nat):((Int×(List (Int×(Int×(Int×(List Int))))))×Int)->(Option (Int×(List (Int×(Int×(Int×(List Int))))))):=
 (fun(((i0,l1),i2):((Int×(List (Int×(Int×(Int×(List Int))))))×Int))=>
 (ae 0 (J l1) (J l1)).U (fun _=>
 (zY (l1,i2)).U (fun(i3,l4)=>
 (jF (J l4) (J l1)).U (fun _=>
 some (i3,l4)))))
def LC (NN:Nat):(((List Int)×((List Int)×(List Int)))×Int)->(Option (Int×((List Int)×((List Int)×(List Int))))):=
 (fun(((l0,l1,l2),i3):(((List Int)×((List Int)×(List Int)))×Int))=>
 (ae 0 (J l0) (J l0)).U (fun _=>
 (pG (l0,i3)).U (fun(i4,l5)=>
 (ae 0 (J l1) (J l1)).U (fun _=>
 (pG (l1,i4)).U (fun(i6,l7)=>
 (ae 0 (J l2) (J l2)).U (fun _=>
 (pG (l2,i6)).U (fun(i8,l9)=>
 (jF (J l5) (J l0)).U (fun _=>
 (jF (J l7) (J l1)).U (fun _=>
 (jF (J l9) (J l2)).U (fun _=>
 some (i8,l5,l7,l9)))))))))))
def Lx (NN:Nat):((List Int)×Int)->(Option Int):=
 (fun((l0,i1):((List Int)×Int))=>
 bD (bu NN (fun((l2,i3,i4):((List Int)×(Int×Int)))=>
 ak (bd i4 (aI (J l2)))
 ((dd l2 i4).U (fun i5=>
 ak (dt i5 i3)
 (some (Sum.inr (Sum.inr ((-1:Int)))))
 (some (Sum.inl (l2,aU .i64 i3 1,aU .i64 i4 1)))))
 (some (Sum.inr (Sum.inl i3))))
 (l0,i1,(0:Int)))
 (fun i6=>
 some i6))
def Ly (NN:Nat):((List (Int×(Int×(Int×(List Int)))))×Int)->(Option Int):=
 (fun((l0,i1):((List (Int×(Int×(Int×(List Int)))))×Int))=>
 bD (bu NN (fun((l2,i3,i4):((List (Int×(Int×(Int×(List Int)))))×(Int×Int)))=>
 ak (bd i4 (aI (J l2)))
 ((dd l2 i4).U (fun(i5,i6,i7,l8)=>
 ak (dt i5 i3)
 (some (Sum.inr (Sum.inr ((-1:Int)))))
 ((dd l2 i4).U (fun(i9,cr,cT,dk)=>
 ak (dt cr (aU .i64 i3 1))
 (some (Sum.inr (Sum.inr ((-1:Int)))))
 ((dd l2 i4).U (fun(cU,ca,kH,dS)=>
 ak (dt kH (aU .i64 (aU .i64 i3 1) (1:Int)))
 (some (Sum.inr (Sum.inr ((-1:Int)))))
 ((dd l2 i4).U (fun(gn,gp,gJ,fx)=>
 (zU (fx,aU .i64 (aU .i64 (aU .i64 i3 1) (1:Int)) (1:Int))).U (fun jR=>
 ak (bd jR (0:Int))
 (some (Sum.inr (Sum.inr ((-1:Int)))))
 (some (Sum.inl (l2,jR,aU .i64 i4 1))))))))))))
 (some (Sum.inr (Sum.inl i3))))
 (l0,i1,(0:Int)))
 (fun g9=>
 some g9))
def Lw (NN:Nat):((Int×(List (Int×(Int×(Int×(List Int))))))×Int)->(Option Int):=
 (fun(((i0,l1),i2):((Int×(List (Int×(Int×(Int×(List Int))))))×Int))=>
 (zV (l1,i2)).U (fun i3=>
 ak (bd i3 (0:Int))
 (some ((-1:Int)))
 (some i3)))
theorem agO (x:(List Int)×Int) (y:Int) (h:sd x=some y):LD az x=some y:=by
 obtain⟨l,k⟩:=x
 simp only[sd] at h
 split at h
 ·rename_i hc
  obtain⟨⟨k0,k1⟩,hw⟩:=hc
  have hw:=of_decide_eq_true hw
  rw[<-h]
  have hn:=nl l
  simp only[LD]
  rw[kV (by omega) (by omega)]
  show _=some (pD l.length k)
  by_cases hs:(l.length:Int)<=k
  ·rw[adD hs,aK (cP (by omega))];rfl
  ·rw[KD hs,aH (df (by omega))]
 ·cases h
theorem agQ (x y:List Int) (h:vq x=some y):LG az x=some y:=by
 simp only[vq] at h
 split at h
 ·rename_i hl
  injection h with h
  subst h
  have hl:x.length<=1048576:=hl
  simp only[LG,y6 (n:=J x) (by_:=8) (by simp only[J,dA];omega),aw,aaO,bW]
  rw[ahq x 0 (r:=Sum.inl x) ?_ ?_ (by omega)]
  ·simp only[eU,gO,aw]
  ·intro i e ys he hy hi
   simp only
   rw[aH (mP he),dj,he,aw]
   simp only[Mx hi,aw,eZ,bY,hi,Jq,bW,pj he (by omega)]
   rfl
  ·simp only
   rw[aK (rO x)]
 ·cases h
theorem agD (x:(List Int)×(List Int)) (y:Bool) (h:sb x=some y):WN az x=some y:=by
 obtain⟨a,b⟩:=x
 simp only[sb] at h
 split at h
 ·rename_i hl
  rw[<-h]
  have hl:a.length<=1048576:=hl
  exact afq a b (by omega)
 ·cases h
theorem agE (x:(Int×Int×Int×(List Int))×(Int×Int×Int×(List Int))) (y:Bool) (h:zS x=some y):Lu az x=some y:=by
 obtain⟨⟨a0,a1,a2,a3⟩,b0,b1,b2,b3⟩:=x
 simp only[zS] at h
 split at h
 ·rename_i hl
  rw[<-h]
  simp only[j0] at hl
  simp only[Lu,sb,if_pos (show dC a3<=1048576 by omega),aw]
  by_cases e0:a0=b0<;>by_cases e1:a1=b1<;>by_cases e2:a2=b2<;>by_cases e3:a3=b3<;>simp[JM,cC,ak, *]
 ·cases h
theorem adF {l:List (Int×Int×Int×(List Int))} (h:j3 l<=1048576):l.length<=1048576/\∀e∈l,j0 e<=1048576:=by
 unfold j3 at h
 refine⟨by omega,fun e he=>?_⟩
 have:=aaN (List.mem_map_of_mem (f:=j0) he)
 omega
theorem agF (x:(List (Int×Int×Int×(List Int)))×(List (Int×Int×Int×(List Int)))) (y:Bool) (h:zT x=some y):WO az x=some y:=by
 obtain⟨a,b⟩:=x
 simp only[zT] at h
 split at h
 ·rename_i hl
  rw[<-h]
  obtain⟨hl,hm⟩:=adF hl
  exact Yo zS a b (fun e he b=>show(if j0 e<=1048576 then some (decide (e=b)) else none)=_ from if_pos (hm e he)) (by omega)
 ·cases h
theorem agC (x:(Int×(List (Int×Int×Int×(List Int))))×(Int×(List (Int×Int×Int×(List Int))))) (y:Bool) (h:sa x=some y):Lt az x=some y:=by
 obtain⟨⟨a0,a1⟩,b0,b1⟩:=x
 simp only[sa] at h
 split at h
 ·rename_i hl
  rw[<-h]
  simp only[iN] at hl
  simp only[Lt,zT,if_pos (show j3 a1<=1048576 by omega),aw]
  by_cases e0:a0=b0<;>by_cases e1:a1=b1<;>simp[JM,cC,ak, *]
 ·cases h
theorem agP (x:((List Int)×(List Int)×(List Int))×Int) (y:Int) (h:z3 x=some y):LF az x=some y:=by
 obtain⟨⟨a0,a1,a2⟩,k⟩:=x
 simp only[z3] at h
 split at h
 ·rename_i hc
  obtain⟨⟨k0,k1⟩,hw⟩:=hc
  simp only[FK,Bool.and_eq_true] at hw
  rw[<-h]
  simp only[LF]
  rw[Wh (o:=sd (a0,k)) (s:=dC a0) (if_pos ⟨by constructor<;>omega,hw.1.1⟩)]
  by_cases c0:((dC a0:Nat):Int)<=k
  ·rw[if_pos c0]
   rw[Wh (o:=sd (a1,k - dC a0)) (s:=dC a1) (if_pos ⟨by constructor<;>omega,hw.1.2⟩)]
   by_cases c1:((dC a1:Nat):Int)<=k - dC a0
   ·rw[if_pos c1]
    rw[Wh (o:=sd (a2,k - dC a0 - dC a1)) (s:=dC a2) (if_pos ⟨by constructor<;>omega,hw.2⟩)]
    by_cases c2:((dC a2:Nat):Int)<=k - dC a0 - dC a1
    ·rw[if_pos c2]
     show _=some (pD (dC a0+dC a1+dC a2) k)
     rw[adD (by omega)]
     exact congrArg some (by omega)
    ·rw[if_neg c2]
     show _=some (pD (dC a0+dC a1+dC a2) k)
     rw[KD (by omega)]
   ·rw[if_neg c1]
    show _=some (pD (dC a0+dC a1+dC a2) k)
    rw[KD (by omega)]
  ·rw[if_neg c0]
   show _=some (pD (dC a0+dC a1+dC a2) k)
   rw[KD (by omega)]
 ·cases h
theorem agR (x y:(List Int)×(List Int)×(List Int)) (h:se x=some y):LH az x=some y:=by
 obtain⟨a0,a1,a2⟩:=x
 simp only[se] at h
 split at h
 ·rename_i hl
  rw[<-h]
  simp only[lV] at hl
  simp only[LH,vq,if_pos (show dC a0<=1048576 by omega),if_pos (show dC a1<=1048576 by omega),if_pos (show dC a2<=1048576 by omega),aw,gO]
 ·cases h
theorem agG (x:((List Int)×(List Int)×(List Int))×((List Int)×(List Int)×(List Int))) (y:Bool) (h:vp x=some y):Lv az x=some y:=by
 obtain⟨⟨a0,a1,a2⟩,b0,b1,b2⟩:=x
 simp only[vp] at h
 split at h
 ·rename_i hl
  rw[<-h]
  simp only[lV] at hl
  simp only[Lv,sb,if_pos (show dC a0<=1048576 by omega),if_pos (show dC a1<=1048576 by omega),if_pos (show dC a2<=1048576 by omega),aw]
  by_cases e0:a0=b0<;>by_cases e1:a1=b1<;>by_cases e2:a2=b2<;>simp[JM,cC,ak, *]
 ·cases h
theorem afr (x:Int×(List (Int×Int×Int×(List Int)))) (h:iN x<=1048576):sa (x,x)=some true:=by
 have:=show sa (x,x)=if iN x<=1048576 then some (decide (x=x)) else none from rfl
 rw[this,if_pos h,decide_eq_true rfl]
theorem afs (x:(List Int)×(List Int)×(List Int)) (h:lV x<=1048576):vp (x,x)=some true:=by
 have:=show vp (x,x)=if lV x<=1048576 then some (decide (x=x)) else none from rfl
 rw[this,if_pos h,decide_eq_true rfl]
theorem aqs (x:(List Int)×(List Int)×(List Int)) (h:lV x<=1048576):se x=some x:=if_pos h
theorem Fx (l:List Int):dC l=l.length+(l.map (fun _=>0)).sum:=by
 simp[dC,adu]
theorem tO (l:List Int):dQ l<=4*dC l:=by
 rw[Fx];exact H6 (fun _=>1) (fun _=>0) (fun e=>by omega) l
theorem apP (l:List Int) (k:Int):dC (fb l k)=dC l:=by
 rw[Fx,Fx,fb,BE,Fu (fun _=>1) (fun _ k=>k) (fun _=>0) (fun _ _=>rfl)]
theorem XQ (l:List Int) (k:Int):dQ (fb l k)=dQ l:=Fu (fun _=>1) (fun _ k=>k) (fun _=>1) (fun _ _=>rfl) l k
theorem akI (l:List Int) (k:Int):fb (fb l k) k=fb l k:=QD (fun _=>1) (fun _ k=>k) (fun _ _=>rfl) (fun _ _=>rfl) l k
theorem Eu (l:List Int) (k:Int):(fb l k).length=l.length:=BE _ _ _ _
theorem agL (x:(List Int)×Int) (y:Int×(List Int)) (h:pG x=some y):LA az x=some y:=by
 obtain⟨l,k⟩:=x
 simp only[pG] at h
 split at h
 ·rename_i hc
  obtain⟨hk,hb⟩:=hc
  rw[Fx] at hb
  rw[<-h]
  simp only[LA,bW,aw]
  rw[aa3 l (fun _=>1) (fun _=>0) (fun _ k=>k) k (r:=Sum.inl (k+(dQ l:Nat),fb l k)) (fun e=>by omega) hk hb ?_ ?_]
  ·rw[eU]
   simp only
   rw[pA (show J (fb l k)=J l from Eu l k),aw]
  ·intro i e ys k' he hy hi h0 hM
   have OZ:bY ys i=some e:=hi
   simp only
   rw[aH (mP hi),pj hi (by omega)]
   simp only[Mx hi,aw,eZ,OZ,Jq,bW]
   have e1:aU .i64 k' 1=k'+1:=eK (by omega) (by omega)
   simp only[e1]
   rfl
  ·simp only
   rw[aK (cP (by have:=Eu l k;have h2:=nl (fb l k);unfold fb at this h2;omega))]
   rfl
 ·cases h
theorem agI (x:(List Int)×Int) (y:Int) (h:zU x=some y):Lx az x=some y:=by
 obtain⟨l,k⟩:=x
 simp only[zU] at h
 split at h
 ·rename_i hc
  obtain⟨hk,hb⟩:=hc
  rw[Fx] at hb
  rw[<-h]
  simp only[Lx]
  rw[ZB l (fun _=>1) (fun _=>0) (fun _ k=>k) k (fun e=>by omega) hk hb ?_ ?_]
  ·unfold fb dQ
   by_cases hq:l=fN (fun _=>1) (fun _ k=>k) l k
   ·rw[if_pos hq,if_pos hq,eU]
   ·rw[if_neg hq,if_neg hq,Ej]
  ·intro i e k' he h0 hM
   simp only
   rw[aH (mP he),dj,he,aw]
   have e1:aU .i64 k' 1=k'+1:=eK (by omega) (by omega)
   rw[e1,pj he (by omega)]
   by_cases hq:e=k'
   ·rw[aK (np hq),if_pos hq];rfl
   ·rw[aH (n9 hq),if_neg hq]
  ·intro k'
   simp only
   rw[aK (rO l)]
 ·cases h
theorem Mq (x:Int×Int×Int×(List Int)):ly x<=4*(1+j0 x):=by
 obtain⟨a0,a1,a2,a3⟩:=x
 have h0:=tO a3
 simp only[ly,j0]
 omega
theorem apN (x:Int×Int×Int×(List Int)) (k:Int):j0 (jB x k)=j0 x:=by
 obtain⟨a0,a1,a2,a3⟩:=x
 simp only[jB,j0,apP]
theorem XP (x:Int×Int×Int×(List Int)) (k:Int):ly (jB x k)=ly x:=by
 obtain⟨a0,a1,a2,a3⟩:=x
 simp only[jB,ly,XQ]
theorem akH (x:Int×Int×Int×(List Int)) (k:Int):jB (jB x k) k=jB x k:=by
 obtain⟨a0,a1,a2,a3⟩:=x
 simp only[jB,XQ,akI]
theorem Fy (l:List (Int×Int×Int×(List Int))):j3 l=l.length+(l.map j0).sum:=by
 rfl
theorem Mp (l:List (Int×Int×Int×(List Int))):mn l<=4*j3 l:=by
 rw[Fy];exact H6 ly j0 Mq l
theorem apQ (l:List (Int×Int×Int×(List Int))) (k:Int):j3 (fO l k)=j3 l:=by
 rw[Fy,Fy,fO,BE,Fu ly jB j0 apN]
theorem aeX (l:List (Int×Int×Int×(List Int))) (k:Int):mn (fO l k)=mn l:=Fu ly jB ly XP l k
theorem akJ (l:List (Int×Int×Int×(List Int))) (k:Int):fO (fO l k) k=fO l k:=QD ly jB XP akH l k
theorem Jr (l:List (Int×Int×Int×(List Int))) (k:Int):(fO l k).length=l.length:=BE _ _ _ _
theorem agM (x:(List (Int×Int×Int×(List Int)))×Int) (y:Int×(List (Int×Int×Int×(List Int)))) (h:zY x=some y):LB az x=some y:=by
 obtain⟨l,k⟩:=x
 simp only[zY] at h
 split at h
 ·rename_i hc
  obtain⟨hk,hb⟩:=hc
  rw[Fy] at hb
  rw[<-h]
  simp only[LB,bW,aw]
  rw[aa3 l ly j0 jB k (r:=Sum.inl (k+(mn l:Nat),fO l k)) Mq hk hb ?_ ?_]
  ·rw[eU]
   simp only
   rw[pA (show J (fO l k)=J l from Jr l k),aw]
  ·rintro i ⟨a0,a1,a2,a3⟩ ys k' he hy hi h0 hM
   have OZ:bY ys i=some (a0,a1,a2,a3):=hi
   simp only
   rw[aH (mP hi),pj hi (by omega)]
   simp only[Mx hi,aw,eZ,OZ,Jq,bW]
   have aeG:=tO a3
   simp only[j0] at hM
   have E0:aU .i64 (k') 1=k'+1:=eK (by omega) (by omega)
   have E1:aU .i64 (k'+1) 1=k'+1+1:=eK (by omega) (by omega)
   have E2:aU .i64 (k'+1+1) 1=k'+1+1+1:=eK (by omega) (by omega)
   have E3:pG (a3,k'+1+1+1)=some (k'+1+1+1+(dQ a3:Nat),fb a3 (k'+1+1+1)):=if_pos ⟨by omega,by omega⟩
   simp only[E0,E1,E2,E3,aw,Ox hi,acH,Jq,bW]
   refine congrArg some (congrArg Sum.inl (Prod.ext (Prod.ext ?_ rfl) rfl))
   simp only[ly]
   omega
  ·simp only
   rw[aK (cP (by have:=Jr l k;have h2:=nl (fO l k);unfold fO at this h2;omega))]
   rfl
 ·cases h
theorem agJ (x:(List (Int×Int×Int×(List Int)))×Int) (y:Int) (h:zV x=some y):Ly az x=some y:=by
 obtain⟨l,k⟩:=x
 simp only[zV] at h
 split at h
 ·rename_i hc
  obtain⟨hk,hb⟩:=hc
  rw[Fy] at hb
  rw[<-h]
  simp only[Ly]
  rw[ZB l ly j0 jB k Mq hk hb ?_ ?_]
  ·unfold fO mn
   by_cases hq:l=fN ly jB l k
   ·rw[if_pos hq,if_pos hq,eU]
   ·rw[if_neg hq,if_neg hq,Ej]
  ·rintro i ⟨a0,a1,a2,a3⟩ k' he h0 hM
   simp only
   have aeG:=tO a3
   simp only[j0] at hM
   rw[aH (mP he),pj he (by omega)]
   have E0:aU .i64 (k') 1=k'+1:=eK (by omega) (by omega)
   have E1:aU .i64 (k'+1) 1=k'+1+1:=eK (by omega) (by omega)
   have E2:aU .i64 (k'+1+1) 1=k'+1+1+1:=eK (by omega) (by omega)
   have E3:zU (a3,k'+1+1+1)=some (if a3=fb a3 (k'+1+1+1) then k'+1+1+1+(dQ a3:Nat) else -1):=if_pos ⟨by omega,by omega⟩
   simp only[dj,he,aw,E0,E1,E2]
   by_cases q0:a0=k'
   case neg=>rw[aH (n9 q0),if_neg (fun h=>q0 (show a0=k'/\a1=k'+1/\a2=k'+1+1/\a3=fb a3 (k'+1+1+1) from by simpa only[jB,Prod.mk.injEq] using h).1)]
   rw[aK (np q0)]
   by_cases q1:a1=k'+1
   case neg=>rw[aH (n9 q1),if_neg (fun h=>q1 (show a0=k'/\a1=k'+1/\a2=k'+1+1/\a3=fb a3 (k'+1+1+1) from by simpa only[jB,Prod.mk.injEq] using h).2.1)]
   rw[aK (np q1)]
   by_cases q2:a2=k'+1+1
   case neg=>rw[aH (n9 q2),if_neg (fun h=>q2 (show a0=k'/\a1=k'+1/\a2=k'+1+1/\a3=fb a3 (k'+1+1+1) from by simpa only[jB,Prod.mk.injEq] using h).2.2.1)]
   rw[aK (np q2)]
   rw[Zz (by omega) E3]
   by_cases q3:a3=fb a3 (k'+1+1+1)
   case neg=>rw[if_neg q3,if_neg (fun h=>q3 (show a0=k'/\a1=k'+1/\a2=k'+1+1/\a3=fb a3 (k'+1+1+1) from by simpa only[jB,Prod.mk.injEq] using h).2.2.2)]
   rw[if_pos q3]
   rw[if_pos (show(a0,a1,a2,a3)=jB (a0,a1,a2,a3) k' from by simp only[jB,Prod.mk.injEq];exact⟨q0,q1,q2,q3⟩)]
   refine congrArg some (congrArg Sum.inl (Prod.ext rfl (Prod.ext ?_ rfl)))
   simp only[ly]
   omega
  ·intro k'
   simp only
   rw[aK (rO l)]
 ·cases h
theorem apO (x:Int×(List (Int×Int×Int×(List Int)))) (k:Int):iN (Jv x k)=iN x:=by
 obtain⟨a0,a1⟩:=x
 simp only[Jv,iN,apQ]
theorem agK (x:(Int×(List (Int×Int×Int×(List Int))))×Int) (y:Int×(List (Int×Int×Int×(List Int)))) (h:zW x=some y):Lz az x=some y:=by
 obtain⟨⟨a0,a1⟩,k⟩:=x
 simp only[zW] at h
 split at h
 ·rename_i hc
  obtain⟨hk,hb⟩:=hc
  simp only[iN] at hb
  have Xo:=Mp a1
  rw[<-h]
  have e0:zY (a1,k)=some (k+(mn a1:Nat),fO a1 (k)):=if_pos ⟨by omega,by omega⟩
  simp only[Lz,bW,aw,e0,pA (show J (fO a1 (k))=J a1 from Jr a1 (k))]
 ·cases h
theorem agH (x:(Int×(List (Int×Int×Int×(List Int))))×Int) (y:Int) (h:tB x=some y):Lw az x=some y:=by
 obtain⟨⟨a0,a1⟩,k⟩:=x
 simp only[tB] at h
 split at h
 ·rename_i hc
  obtain⟨hk,hb⟩:=hc
  simp only[iN] at hb
  have Xo:=Mp a1
  rw[<-h]
  have e0:zV (a1,k)=some (if a1=fO a1 (k) then k+(mn a1:Nat) else -1):=if_pos ⟨by omega,by omega⟩
  simp only[Lw]
  rw[Zz (by omega) e0]
  by_cases q0:a1=fO a1 (k)
  case neg=>rw[if_neg q0,if_neg (fun h=>q0 h)]
  rw[if_pos q0]
  rw[if_pos q0]
 ·cases h
theorem agN (x:((List Int)×(List Int)×(List Int))×Int) (y:Int×(List Int)×(List Int)×(List Int)) (h:zZ x=some y):LC az x=some y:=by
 obtain⟨⟨a0,a1,a2⟩,k⟩:=x
 simp only[zZ] at h
 split at h
 ·rename_i hc
  obtain⟨hk,hb⟩:=hc
  simp only[lV] at hb
  have aqP:=tO a0
  have Xo:=tO a1
  have aqQ:=tO a2
  rw[<-h]
  have e0:pG (a0,k)=some (k+(dQ a0:Nat),fb a0 (k)):=if_pos ⟨by omega,by omega⟩
  have e1:pG (a1,k+(dQ a0:Nat))=some (k+(dQ a0:Nat)+(dQ a1:Nat),fb a1 (k+(dQ a0:Nat))):=if_pos ⟨by omega,by omega⟩
  have e2:pG (a2,k+(dQ a0:Nat)+(dQ a1:Nat))=some (k+(dQ a0:Nat)+(dQ a1:Nat)+(dQ a2:Nat),fb a2 (k+(dQ a0:Nat)+(dQ a1:Nat))):=if_pos ⟨by omega,by omega⟩
  simp only[LC,bW,aw,e0,e1,e2,pA (show J (fb a0 (k))=J a0 from Eu a0 (k)),pA (show J (fb a1 (k+(dQ a0:Nat)))=J a1 from Eu a1 (k+(dQ a0:Nat))),pA (show J (fb a2 (k+(dQ a0:Nat)+(dQ a1:Nat)))=J a2 from Eu a2 (k+(dQ a0:Nat)+(dQ a1:Nat)))]
 ·cases h
theorem ahP (x:Int×(List (Int×Int×Int×(List Int)))) (k:Int) (h:0<=k/\k+4*(iN x:Nat)<=1099511627776):tB (Jv x k,k)=some (match x with|(a0,a1)=>k+(mn a1:Nat)):=by
 obtain⟨a0,a1⟩:=x
 have:=show tB ((a0,fO a1 (k)),k)=if 0<=k/\k+4*(iN (Jv (a0,a1) k):Nat)<=1099511627776 then some (if fO a1 (k)=fO (fO a1 (k)) (k) then k+(mn (fO a1 (k)):Nat) else -1) else none from rfl
 refine this.trans ?_
 rw[apO,if_pos h]
 simp only[akJ,aeX,and_self,if_true]
end Go.Am
