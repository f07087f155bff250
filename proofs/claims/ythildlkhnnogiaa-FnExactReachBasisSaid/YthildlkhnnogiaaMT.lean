/- MT: sizes, copies, comparisons and marks of the laws' types. No condition. -/
import Derived.Test.YthildlkhnnogiaaB2
set_option linter.unusedVariables false
set_option linter.unusedSimpArgs false
set_option synthInstance.maxSize 1000
set_option synthInstance.maxHeartbeats 400000
namespace Go.Am
def di (l:List Int):Nat:=l.length
def yr (l:List Int):Bool:=decide (l.length<=9223372036854775807)
def sM:(List Int)×Int->Option Int:=fun((x,k):(List Int)×Int)=>if xA k/\yr x=true then some (gb (di x) k) else none
def uo:(List Int)->Option (List Int):=fun(x:List Int)=>if di x<=1048576 then some x else none
def rA:(List Int)×(List Int)->Option Bool:=fun((x,y):(List Int)×(List Int))=>if di x<=1048576 then some (decide (x=y)) else none
def nM (l:List (List Int)):Nat:=l.length+(l.map di).sum
def sL:(List (List Int))×(List (List Int))->Option Bool:=fun((x,y):(List (List Int))×(List (List Int)))=>if nM x<=1048576 then some (decide (x=y)) else none
def ki (x:Int×Int×(List Int)):Nat:=match x with|(a0,a1,a2)=>di a2
def La (x:Int×Int×(List Int)):Bool:=match x with|(a0,a1,a2)=>yr a2
def AL:(Int×Int×(List Int))×Int->Option Int:=fun((x,k):(Int×Int×(List Int))×Int)=>if xA k/\La x=true then some (gb (ki x) k) else none
def AO:(Int×Int×(List Int))->Option (Int×Int×(List Int)):=fun(x:Int×Int×(List Int))=>if ki x<=1048576 then some x else none
def AD:(Int×Int×(List Int))×(Int×Int×(List Int))->Option Bool:=fun((x,y):(Int×Int×(List Int))×(Int×Int×(List Int)))=>if ki x<=1048576 then some (decide (x=y)) else none
def jT (l:List (Int×Int×(List Int))):Nat:=l.length+(l.map ki).sum
def Dh (l:List (Int×Int×(List Int))):Bool:=decide (l.length<=9223372036854775807)&&l.all La
def AM:(List (Int×Int×(List Int)))×Int->Option Int:=fun((x,k):(List (Int×Int×(List Int)))×Int)=>if xA k/\Dh x=true then some (gb (jT x) k) else none
def AP:(List (Int×Int×(List Int)))->Option (List (Int×Int×(List Int))):=fun(x:List (Int×Int×(List Int)))=>if jT x<=1048576 then some x else none
def AE:(List (Int×Int×(List Int)))×(List (Int×Int×(List Int)))->Option Bool:=fun((x,y):(List (Int×Int×(List Int)))×(List (Int×Int×(List Int))))=>if jT x<=1048576 then some (decide (x=y)) else none
def jh (x:Int×Int×(List Int)×(List (Int×Int×(List Int)))×(List Int)):Nat:=match x with|(a0,a1,a2,a3,a4)=>di a2+jT a3+di a4
def K9 (x:Int×Int×(List Int)×(List (Int×Int×(List Int)))×(List Int)):Bool:=match x with|(a0,a1,a2,a3,a4)=>yr a2&&Dh a3&&yr a4
def AK:(Int×Int×(List Int)×(List (Int×Int×(List Int)))×(List Int))×Int->Option Int:=fun((x,k):(Int×Int×(List Int)×(List (Int×Int×(List Int)))×(List Int))×Int)=>if xA k/\K9 x=true then some (gb (jh x) k) else none
def sN:(Int×Int×(List Int)×(List (Int×Int×(List Int)))×(List Int))->Option (Int×Int×(List Int)×(List (Int×Int×(List Int)))×(List Int)):=fun(x:Int×Int×(List Int)×(List (Int×Int×(List Int)))×(List Int))=>if jh x<=1048576 then some x else none
def wB:(Int×Int×(List Int)×(List (Int×Int×(List Int)))×(List Int))×(Int×Int×(List Int)×(List (Int×Int×(List Int)))×(List Int))->Option Bool:=fun((x,y):(Int×Int×(List Int)×(List (Int×Int×(List Int)))×(List Int))×(Int×Int×(List Int)×(List (Int×Int×(List Int)))×(List Int)))=>if jh x<=1048576 then some (decide (x=y)) else none
def dN (l:List Int):Nat:=gI (fun _=>1) l
def fu (l:List Int) (k:Int):List Int:=fJ (fun _=>1) (fun _ k=>k) l k
def qc:(List Int)×Int->Option (Int×(List Int)):=fun((x,k):(List Int)×Int)=>if 0<=k/\k+4*(di x:Nat)<=1099511627776 then some (k+(dN x:Nat),fu x k) else none
def AF:(List Int)×Int->Option Int:=fun((x,k):(List Int)×Int)=>if 0<=k/\k+4*(di x:Nat)<=1099511627776 then some (if x=fu x k then k+(dN x:Nat) else -1) else none
def qp (l:List (List Int)):Nat:=gI dN l
def gZ (l:List (List Int)) (k:Int):List (List Int):=fJ dN fu l k
def AH:(List (List Int))×Int->Option (Int×(List (List Int))):=fun((x,k):(List (List Int))×Int)=>if 0<=k/\k+4*(nM x:Nat)<=1099511627776 then some (k+(qp x:Nat),gZ x k) else none
def ul:(List (List Int))×Int->Option Int:=fun((x,k):(List (List Int))×Int)=>if 0<=k/\k+4*(nM x:Nat)<=1099511627776 then some (if x=gZ x k then k+(qp x:Nat) else -1) else none
def yU (x:Int×Int×(List Int)):Nat:=match x with|(a0,a1,a2)=>1+1+dN a2
def Zc (x:Int×Int×(List Int)) (k:Int):Int×Int×(List Int):=match x with|(a0,a1,a2)=>(k,k+1,fu a2 (k+1+1))
def nZ (l:List (Int×Int×(List Int))):Nat:=gI yU l
def tY (l:List (Int×Int×(List Int))) (k:Int):List (Int×Int×(List Int)):=fJ yU Zc l k
def AJ:(List (Int×Int×(List Int)))×Int->Option (Int×(List (Int×Int×(List Int)))):=fun((x,k):(List (Int×Int×(List Int)))×Int)=>if 0<=k/\k+4*(jT x:Nat)<=1099511627776 then some (k+(nZ x:Nat),tY x k) else none
def AG:(Int×Int×(List Int)×(List (Int×Int×(List Int)))×(List Int))×Int->Option (Int×(List Int)×(List (Int×Int×(List Int)))×(List Int)):=fun(((a0,a1,a2,a3,a4),k):(Int×Int×(List Int)×(List (Int×Int×(List Int)))×(List Int))×Int)=>if 0<=k/\k+4*(jh (a0,a1,a2,a3,a4):Nat)<=1099511627776 then some (k+(dN a2:Nat)+(nZ a3:Nat)+(dN a4:Nat),fu a2 (k),tY a3 (k+(dN a2:Nat)),fu a4 (k+(dN a2:Nat)+(nZ a3:Nat))) else none
def Hu:aq:=[(.one,[.list [.int .i64]]),(.one,[.int .i64])]
def Sc:aq:=[(.one,[.int .i64])]
def aip:aN:=[]
def Hy:aq:=[(.one,[.list [.int .i64]])]
def Sg:aq:=[(.one,[.list [.int .i64]])]
def ait:aN:=[]
def Hi:aq:=[(.one,[.list [.int .i64]]),(.one,[.list [.int .i64]])]
def R0:aq:=[(.one,[.bool])]
def aii:aN:=[]
def Hj:aq:=[(.one,[.list [.list [.int .i64]]]),(.one,[.list [.list [.int .i64]]])]
def R1:aq:=[(.one,[.bool])]
def aij:aN:=[]
def Hv:aq:=[(.agg,[.int .i64,.int .i64,.list [.int .i64]]),(.one,[.int .i64])]
def Sd:aq:=[(.one,[.int .i64])]
def aiq:aN:=[]
def Hz:aq:=[(.agg,[.int .i64,.int .i64,.list [.int .i64]])]
def Sh:aq:=[(.agg,[.int .i64,.int .i64,.list [.int .i64]])]
def aiu:aN:=[]
def Hk:aq:=[(.agg,[.int .i64,.int .i64,.list [.int .i64]]),(.agg,[.int .i64,.int .i64,.list [.int .i64]])]
def R3:aq:=[(.one,[.bool])]
def aik:aN:=[]
def Hw:aq:=[(.one,[.list [.int .i64,.int .i64,.list [.int .i64]]]),(.one,[.int .i64])]
def Se:aq:=[(.one,[.int .i64])]
def air:aN:=[]
def HA:aq:=[(.one,[.list [.int .i64,.int .i64,.list [.int .i64]]])]
def Si:aq:=[(.one,[.list [.int .i64,.int .i64,.list [.int .i64]]])]
def aiv:aN:=[]
def Hl:aq:=[(.one,[.list [.int .i64,.int .i64,.list [.int .i64]]]),(.one,[.list [.int .i64,.int .i64,.list [.int .i64]]])]
def R4:aq:=[(.one,[.bool])]
def ail:aN:=[]
def Ht:aq:=[(.agg,[.int .i64,.int .i64,.list [.int .i64],.list [.int .i64,.int .i64,.list [.int .i64]],.list [.int .i64]]),(.one,[.int .i64])]
def Sb:aq:=[(.one,[.int .i64])]
def aio:aN:=[]
def Hx:aq:=[(.agg,[.int .i64,.int .i64,.list [.int .i64],.list [.int .i64,.int .i64,.list [.int .i64]],.list [.int .i64]])]
def Sf:aq:=[(.agg,[.int .i64,.int .i64,.list [.int .i64],.list [.int .i64,.int .i64,.list [.int .i64]],.list [.int .i64]])]
def ais:aN:=[]
def Hh:aq:=[(.agg,[.int .i64,.int .i64,.list [.int .i64],.list [.int .i64,.int .i64,.list [.int .i64]],.list [.int .i64]]),(.agg,[.int .i64,.int .i64,.list [.int .i64],.list [.int .i64,.int .i64,.list [.int .i64]],.list [.int .i64]])]
def RZ:aq:=[(.one,[.bool])]
def aih:aN:=[]
def Hq:aq:=[(.one,[.list [.int .i64]]),(.one,[.int .i64])]
def R8:aq:=[(.one,[.int .i64]),(.one,[.list [.int .i64]])]
def JN:aN:=[[some .af]]
def Hr:aq:=[(.one,[.list [.list [.int .i64]]]),(.one,[.int .i64])]
def R9:aq:=[(.one,[.int .i64]),(.one,[.list [.list [.int .i64]]])]
def JO:aN:=[[some .live]]
def Hs:aq:=[(.one,[.list [.int .i64,.int .i64,.list [.int .i64]]]),(.one,[.int .i64])]
def Sa:aq:=[(.one,[.int .i64]),(.one,[.list [.int .i64,.int .i64,.list [.int .i64]]])]
def JP:aN:=[[some .live]]
def Hp:aq:=[(.agg,[.int .i64,.int .i64,.list [.int .i64],.list [.int .i64,.int .i64,.list [.int .i64]],.list [.int .i64]]),(.one,[.int .i64])]
def R7:aq:=[(.one,[.int .i64]),(.one,[.list [.int .i64]]),(.one,[.list [.int .i64,.int .i64,.list [.int .i64]]]),(.one,[.list [.int .i64]])]
def JM:aN:=[[none,none,some .af,some .live,some .af]]
def Hm:aq:=[(.one,[.list [.int .i64]]),(.one,[.int .i64])]
def R5:aq:=[(.one,[.int .i64])]
def aim:aN:=[]
def Ho:aq:=[(.one,[.list [.list [.int .i64]]]),(.one,[.int .i64])]
def R6:aq:=[(.one,[.int .i64])]
def ain:aN:=[]
def Ly (NN:Nat):((List Int)×Int)->(Option Int):=
 (fun((l0,i1):((List Int)×Int))=>
 aL (bD (lO .i64 i1 (ba (J l0))) (0:Int))
 (some ((-1:Int)))
 (some (lO .i64 i1 (ba (J l0)))))
def LB (NN:Nat):(List Int)->(Option (List Int)):=
 (fun(l0:(List Int))=>
 (xJ (ba (J l0)) (ba (J l0)) 8).U (fun k1=>
 cI ((ai 0 k1 (J (jg k1 (0:Int)))).U (fun _=>
 bC NN (fun(((l2,i3),l4):(((List Int)×Int)×(List Int)))=>
 aL (bD i3 (ba (J l2)))
 ((eX l2 i3).U (fun i5=>
 (fw i3 (J l4)).U (fun k6=>
 (dj l4 (aV 0 k6)).U (fun i7=>
 (ai 0 (J l4) (J (cK l4 (aV 0 k6) i5))).U (fun _=>
 some (Sum.inl ((l2,bB .i64 i3 1),cK l4 (aV 0 k6) i5)))))))
 (((ai 0 (J l4) (J l4)).U (fun _=>
 some (Sum.inl l4))).U (fun l8=>
 some (Sum.inr l8))))
 ((l0,(0:Int)),jg k1 (0:Int))))
 (fun l9=>
 (dH l9 (J l9)).U (fun gA=>
 some gA))))
def U2 (NN:Nat):((List Int)×(List Int))->(Option Bool):=
 (fun((l0,l1):((List Int)×(List Int)))=>
 aL (dU (ba (J l0)) (ba (J l1)))
 (some false)
 (cI (bC NN (fun((l2,l3,i4):((List Int)×((List Int)×Int)))=>
 aL (bD i4 (ba (J l2)))
 ((eX l2 i4).U (fun i5=>
 (eX l3 i4).U (fun i6=>
 aL (dU i5 i6)
 (some (Sum.inr (Sum.inr false)))
 (some (Sum.inl (l2,l3,bB .i64 i4 1))))))
 (some (Sum.inr (Sum.inl ()))))
 (l0,l1,(0:Int)))
 (fun _=>
 some true)))
def U3 (NN:Nat):((List (List Int))×(List (List Int)))->(Option Bool):=
 (fun((l0,l1):((List (List Int))×(List (List Int))))=>
 aL (dU (ba (J l0)) (ba (J l1)))
 (some false)
 (cI (bC NN (fun((l2,l3,i4):((List (List Int))×((List (List Int))×Int)))=>
 aL (bD i4 (ba (J l2)))
 ((eX l2 i4).U (fun l5=>
 (eX l3 i4).U (fun l6=>
 (rA (l5,l6)).U (fun b7=>
 aL (eK b7)
 (some (Sum.inr (Sum.inr false)))
 (some (Sum.inl (l2,l3,bB .i64 i4 1)))))))
 (some (Sum.inr (Sum.inl ()))))
 (l0,l1,(0:Int)))
 (fun _=>
 some true)))
def Lz (NN:Nat):((Int×(Int×(List Int)))×Int)->(Option Int):=
 (fun(((i0,i1,l2),i3):((Int×(Int×(List Int)))×Int))=>
 (sM (l2,i3)).U (fun i4=>
 aL (bD i4 (0:Int))
 (some ((-1:Int)))
 (some i4)))
def LC (NN:Nat):(Int×(Int×(List Int)))->(Option (Int×(Int×(List Int)))):=
 (fun((i0,i1,l2):(Int×(Int×(List Int))))=>
 (uo l2).U (fun l3=>
 (dH l3 (J l3)).U (fun l4=>
 some (i0,i1,l4))))
def Lq (NN:Nat):((Int×(Int×(List Int)))×(Int×(Int×(List Int))))->(Option Bool):=
 (fun(((i0,i1,l2),i3,i4,l5):((Int×(Int×(List Int)))×(Int×(Int×(List Int)))))=>
 aL (dU i0 i3)
 (some false)
 (aL (dU i1 i4)
 (some false)
 ((rA (l2,l5)).U (fun b6=>
 aL (eK b6)
 (some false)
 (some true)))))
def U5 (NN:Nat):((List (Int×(Int×(List Int))))×Int)->(Option Int):=
 (fun((l0,i1):((List (Int×(Int×(List Int))))×Int))=>
 aL (bD (lO .i64 i1 (ba (J l0))) (0:Int))
 (some ((-1:Int)))
 (cI (bC NN (fun((l2,i3,i4):((List (Int×(Int×(List Int))))×(Int×Int)))=>
 aL (bD i4 (ba (J l2)))
 ((eX l2 i4).U (fun(i5,i6,l7)=>
 (AL ((i5,i6,l7),i3)).U (fun i8=>
 aL (bD i8 (0:Int))
 (some (Sum.inr (Sum.inr ((-1:Int)))))
 (some (Sum.inl (l2,i8,bB .i64 i4 1))))))
 (some (Sum.inr (Sum.inl i3))))
 (l0,lO .i64 i1 (ba (J l0)),(0:Int)))
 (fun i9=>
 some i9)))
def LD (NN:Nat):(List (Int×(Int×(List Int))))->(Option (List (Int×(Int×(List Int))))):=
 (fun(l0:(List (Int×(Int×(List Int)))))=>
 (xJ (ba (J l0)) (ba (J l0)) 40).U (fun k1=>
 cI ((ai 0 k1 (J (jg k1 ((0:Int),(0:Int),([]:List Int))))).U (fun _=>
 bC NN (fun(((l2,i3),l4):(((List (Int×(Int×(List Int))))×Int)×(List (Int×(Int×(List Int))))))=>
 aL (bD i3 (ba (J l2)))
 ((eX l2 i3).U (fun(i5,i6,l7)=>
 (AO (i5,i6,l7)).U (fun(i8,i9,gA)=>
 (fw i3 (J l4)).U (fun Fc=>
 (dj l4 (aV 0 Fc)).U (fun(eD,fq,ju)=>
 (dH gA (J gA)).U (fun dn=>
 (ai 0 (J l4) (J (cK l4 (aV 0 Fc) (i8,i9,dn)))).U (fun _=>
 some (Sum.inl ((l2,bB .i64 i3 1),cK l4 (aV 0 Fc) (i8,i9,dn))))))))))
 (((ai 0 (J l4) (J l4)).U (fun _=>
 some (Sum.inl l4))).U (fun ft=>
 some (Sum.inr ft))))
 ((l0,(0:Int)),jg k1 ((0:Int),(0:Int),([]:List Int)))))
 (fun cu=>
 (dH cu (J cu)).U (fun gj=>
 some gj))))
def U4 (NN:Nat):((List (Int×(Int×(List Int))))×(List (Int×(Int×(List Int)))))->(Option Bool):=
 (fun((l0,l1):((List (Int×(Int×(List Int))))×(List (Int×(Int×(List Int))))))=>
 aL (dU (ba (J l0)) (ba (J l1)))
 (some false)
 (cI (bC NN (fun((l2,l3,i4):((List (Int×(Int×(List Int))))×((List (Int×(Int×(List Int))))×Int)))=>
 aL (bD i4 (ba (J l2)))
 ((eX l2 i4).U (fun(i5,i6,l7)=>
 (eX l3 i4).U (fun(i8,i9,gA)=>
 (AD ((i5,i6,l7),i8,i9,gA)).U (fun A6=>
 aL (eK A6)
 (some (Sum.inr (Sum.inr false)))
 (some (Sum.inl (l2,l3,bB .i64 i4 1)))))))
 (some (Sum.inr (Sum.inl ()))))
 (l0,l1,(0:Int)))
 (fun _=>
 some true)))
def Lx (NN:Nat):((Int×(Int×((List Int)×((List (Int×(Int×(List Int))))×(List Int)))))×Int)->(Option Int):=
 (fun(((i0,i1,l2,l3,l4),i5):((Int×(Int×((List Int)×((List (Int×(Int×(List Int))))×(List Int)))))×Int))=>
 (sM (l2,i5)).U (fun i6=>
 aL (bD i6 (0:Int))
 (some ((-1:Int)))
 ((AM (l3,i6)).U (fun i7=>
 aL (bD i7 (0:Int))
 (some ((-1:Int)))
 ((sM (l4,i7)).U (fun i8=>
 aL (bD i8 (0:Int))
 (some ((-1:Int)))
 (some i8)))))))
def LA (NN:Nat):(Int×(Int×((List Int)×((List (Int×(Int×(List Int))))×(List Int)))))->(Option (Int×(Int×((List Int)×((List (Int×(Int×(List Int))))×(List Int)))))):=
 (fun((i0,i1,l2,l3,l4):(Int×(Int×((List Int)×((List (Int×(Int×(List Int))))×(List Int))))))=>
 (uo l2).U (fun l5=>
 (AP l3).U (fun l6=>
 (uo l4).U (fun l7=>
 (dH l5 (J l5)).U (fun l8=>
 (dH l6 (J l6)).U (fun l9=>
 (dH l7 (J l7)).U (fun gA=>
 some (i0,i1,l8,l9,gA))))))))
def Lp (NN:Nat):((Int×(Int×((List Int)×((List (Int×(Int×(List Int))))×(List Int)))))×(Int×(Int×((List Int)×((List (Int×(Int×(List Int))))×(List Int))))))->(Option Bool):=
 (fun(((i0,i1,l2,l3,l4),i5,i6,l7,l8,l9):((Int×(Int×((List Int)×((List (Int×(Int×(List Int))))×(List Int)))))×(Int×(Int×((List Int)×((List (Int×(Int×(List Int))))×(List Int)))))))=>
 aL (dU i0 i5)
 (some false)
 (aL (dU i1 i6)
 (some false)
 ((rA (l2,l7)).U (fun oY=>
 aL (eK oY)
 (some false)
 ((AE (l3,l8)).U (fun A6=>
 aL (eK A6)
 (some false)
 ((rA (l4,l9)).U (fun L4=>
 aL (eK L4)
 (some false)
 (some true)))))))))
def Lu (NN:Nat):((List Int)×Int)->(Option (Int×(List Int))):=
 (fun((l0,i1):((List Int)×Int))=>
 cI ((ai 0 (J l0) (J l0)).U (fun _=>
 bC NN (fun(((i2,i3),l4):((Int×Int)×(List Int)))=>
 aL (bD i3 (ba (J l4)))
 ((fw i3 (J l4)).U (fun k5=>
 (dj l4 (aV 0 k5)).U (fun i6=>
 (ai 0 (J l4) (J (cK l4 (aV 0 k5) i2))).U (fun _=>
 some (Sum.inl ((bB .i64 i2 1,bB .i64 i3 1),cK l4 (aV 0 k5) i2))))))
 (some (Sum.inr (Sum.inl (i2,l4)))))
 ((i1,(0:Int)),l0)))
 (fun(i7,l8)=>
 (iS (J l8) (J l0)).U (fun _=>
 some (i7,l8))))
def Lv (NN:Nat):((List (List Int))×Int)->(Option (Int×(List (List Int)))):=
 (fun((l0,i1):((List (List Int))×Int))=>
 cI ((ai 0 (J l0) (J l0)).U (fun _=>
 bC NN (fun(((i2,i3),l4):((Int×Int)×(List (List Int))))=>
 aL (bD i3 (ba (J l4)))
 ((fw i3 (J l4)).U (fun k5=>
 (dj l4 (aV 0 k5)).U (fun l6=>
 (dj l4 (aV 0 k5)).U (fun l7=>
 (qc (l7,i2)).U (fun(i8,l9)=>
 (dj l4 (aV 0 k5)).U (fun gA=>
 (ai 0 (J l4) (J (cK l4 (aV 0 k5) l9))).U (fun _=>
 some (Sum.inl ((i8,bB .i64 i3 1),cK l4 (aV 0 k5) l9)))))))))
 (some (Sum.inr (Sum.inl (i2,l4)))))
 ((i1,(0:Int)),l0)))
 (fun(dA,d9)=>
 (iS (J d9) (J l0)).U (fun _=>
 some (dA,d9))))
def Lw (NN:Nat):((List (Int×(Int×(List Int))))×Int)->(Option (Int×(List (Int×(Int×(List Int)))))):=
 (fun((l0,i1):((List (Int×(Int×(List Int))))×Int))=>
 cI ((ai 0 (J l0) (J l0)).U (fun _=>
 bC NN (fun(((i2,i3),l4):((Int×Int)×(List (Int×(Int×(List Int))))))=>
 aL (bD i3 (ba (J l4)))
 ((fw i3 (J l4)).U (fun k5=>
 (dj l4 (aV 0 k5)).U (fun(i6,i7,l8)=>
 (fw i3 (J l4)).U (fun k9=>
 (dj (cK l4 (aV 0 k5) (i2,i7,l8)) (aV 0 k9)).U (fun(cR,dA,d9)=>
 (fw i3 (J l4)).U (fun zS=>
 (dj (cK (cK l4 (aV 0 k5) (i2,i7,l8)) (aV 0 k9) (cR,bB .i64 i2 1,d9)) (aV 0 zS)).U (fun(eB,lD,ft)=>
 (dj (cK (cK l4 (aV 0 k5) (i2,i7,l8)) (aV 0 k9) (cR,bB .i64 i2 1,d9)) (aV 0 zS)).U (fun(tF,ja,gQ)=>
 (qc (gQ,bB .i64 (bB .i64 i2 1) (1:Int))).U (fun(kA,qU)=>
 (dj (cK (cK l4 (aV 0 k5) (i2,i7,l8)) (aV 0 k9) (cR,bB .i64 i2 1,d9)) (aV 0 zS)).U (fun(lE,qN,jc)=>
 (ai 0 (J l4) (J (cK (cK (cK l4 (aV 0 k5) (i2,i7,l8)) (aV 0 k9) (cR,bB .i64 i2 1,d9)) (aV 0 zS) (lE,qN,qU)))).U (fun _=>
 some (Sum.inl ((kA,bB .i64 i3 1),cK (cK (cK l4 (aV 0 k5) (i2,i7,l8)) (aV 0 k9) (cR,bB .i64 i2 1,d9)) (aV 0 zS) (lE,qN,qU))))))))))))))
 (some (Sum.inr (Sum.inl (i2,l4)))))
 ((i1,(0:Int)),l0)))
 (fun(r6,mD)=>
 (iS (J mD) (J l0)).U (fun _=>
 some (r6,mD))))
def Lt (NN:Nat):((Int×(Int×((List Int)×((List (Int×(Int×(List Int))))×(List Int)))))×Int)->(Option (Int×((List Int)×((List (Int×(Int×(List Int))))×(List Int))))):=
 (fun(((i0,i1,l2,l3,l4),i5):((Int×(Int×((List Int)×((List (Int×(Int×(List Int))))×(List Int)))))×Int))=>
 (ai 0 (J l2) (J l2)).U (fun _=>
 (qc (l2,i5)).U (fun(i6,l7)=>
 (ai 0 (J l3) (J l3)).U (fun _=>
 (AJ (l3,i6)).U (fun(i8,l9)=>
 (ai 0 (J l4) (J l4)).U (fun _=>
 (qc (l4,i8)).U (fun(cR,pJ)=>
 (iS (J l7) (J l2)).U (fun _=>
 (iS (J l9) (J l3)).U (fun _=>
 (iS (J pJ) (J l4)).U (fun _=>
 some (cR,l7,l9,pJ)))))))))))
def Lr (NN:Nat):((List Int)×Int)->(Option Int):=
 (fun((l0,i1):((List Int)×Int))=>
 cI (bC NN (fun((l2,i3,i4):((List Int)×(Int×Int)))=>
 aL (bD i4 (ba (J l2)))
 ((eX l2 i4).U (fun i5=>
 aL (dU i5 i3)
 (some (Sum.inr (Sum.inr ((-1:Int)))))
 (some (Sum.inl (l2,bB .i64 i3 1,bB .i64 i4 1)))))
 (some (Sum.inr (Sum.inl i3))))
 (l0,i1,(0:Int)))
 (fun i6=>
 some i6))
def Ls (NN:Nat):((List (List Int))×Int)->(Option Int):=
 (fun((l0,i1):((List (List Int))×Int))=>
 cI (bC NN (fun((l2,i3,i4):((List (List Int))×(Int×Int)))=>
 aL (bD i4 (ba (J l2)))
 ((eX l2 i4).U (fun l5=>
 (AF (l5,i3)).U (fun i6=>
 aL (bD i6 (0:Int))
 (some (Sum.inr (Sum.inr ((-1:Int)))))
 (some (Sum.inl (l2,i6,bB .i64 i4 1))))))
 (some (Sum.inr (Sum.inl i3))))
 (l0,i1,(0:Int)))
 (fun i7=>
 some i7))
theorem aeB (x:(List Int)×Int) (y:Int) (h:sM x=some y):Ly aM x=some y:=by
 obtain⟨l,k⟩:=x
 simp only[sM] at h
 split at h
 ·rename_i hc
  obtain⟨⟨k0,k1⟩,hw⟩:=hc
  have hw:=of_decide_eq_true hw
  rw[<-h]
  have hn:=nl l
  simp only[Ly]
  rw[sD (by omega) (by omega)]
  show _=some (gb l.length k)
  by_cases hs:(l.length:Int)<=k
  ·rw[Ut hs,br (ff (by omega))];rfl
  ·rw[Gf hs,bt (gC (by omega))]
 ·cases h
theorem aeF (x y:List Int) (h:uo x=some y):LB aM x=some y:=by
 simp only[uo] at h
 split at h
 ·rename_i hl
  injection h with h
  subst h
  have hl:x.length<=1048576:=hl
  simp only[LB,P2 (n:=J x) (by_:=8) (by simp only[J,e8];omega),az,YS,df]
  rw[WL x 0 (r:=Sum.inl x) ?_ ?_ (by omega)]
  ·simp only[eI,jB,az]
  ·intro i e ys he hy hi
   simp only
   rw[bt (iL he),ig,he,az]
   simp only[DJ hi,az,nU,dj,hi,zY,df,mK he (by omega)]
   rfl
  ·simp only
   rw[br (pL x)]
 ·cases h
theorem aeq (x:(List Int)×(List Int)) (y:Bool) (h:rA x=some y):U2 aM x=some y:=by
 obtain⟨a,b⟩:=x
 simp only[rA] at h
 split at h
 ·rename_i hl
  rw[<-h]
  have hl:a.length<=1048576:=hl
  exact ac8 a b (by omega)
 ·cases h
theorem amo {l:List (List Int)} (h:nM l<=1048576):l.length<=1048576/\∀e∈l,di e<=1048576:=by
 unfold nM at h
 refine⟨by omega,fun e he=>?_⟩
 have:=PJ (List.mem_map_of_mem (f:=di) he)
 omega
theorem aer (x:(List (List Int))×(List (List Int))) (y:Bool) (h:sL x=some y):U3 aM x=some y:=by
 obtain⟨a,b⟩:=x
 simp only[sL] at h
 split at h
 ·rename_i hl
  rw[<-h]
  obtain⟨hl,hm⟩:=amo hl
  exact MN rA a b (fun e he b=>show(if di e<=1048576 then some (decide (e=b)) else none)=_ from if_pos (hm e he)) (by omega)
 ·cases h
theorem aeC (x:(Int×Int×(List Int))×Int) (y:Int) (h:AL x=some y):Lz aM x=some y:=by
 obtain⟨⟨a0,a1,a2⟩,k⟩:=x
 simp only[AL] at h
 split at h
 ·rename_i hc
  obtain⟨⟨k0,k1⟩,hw⟩:=hc
  simp only[La] at hw
  rw[<-h]
  simp only[Lz]
  rw[KS (o:=sM (a2,k)) (s:=di a2) (if_pos ⟨by constructor<;>omega,hw⟩)]
  by_cases c0:((di a2:Nat):Int)<=k
  ·rw[if_pos c0]
   show _=some (gb (di a2) k)
   rw[Ut (by omega)]
  ·rw[if_neg c0]
   show _=some (gb (di a2) k)
   rw[Gf (by omega)]
 ·cases h
theorem aeG (x y:Int×Int×(List Int)) (h:AO x=some y):LC aM x=some y:=by
 obtain⟨a0,a1,a2⟩:=x
 simp only[AO] at h
 split at h
 ·rename_i hl
  rw[<-h]
  simp only[ki] at hl
  simp only[LC,uo,if_pos (show di a2<=1048576 by omega),az,jB]
 ·cases h
theorem aes (x:(Int×Int×(List Int))×(Int×Int×(List Int))) (y:Bool) (h:AD x=some y):Lq aM x=some y:=by
 obtain⟨⟨a0,a1,a2⟩,b0,b1,b2⟩:=x
 simp only[AD] at h
 split at h
 ·rename_i hl
  rw[<-h]
  simp only[ki] at hl
  simp only[Lq,rA,if_pos (show di a2<=1048576 by omega),az]
  by_cases e0:a0=b0<;>by_cases e1:a1=b1<;>by_cases e2:a2=b2<;>simp[Zt,eK,aL, *]
 ·cases h
theorem aeD (x:(List (Int×Int×(List Int)))×Int) (y:Int) (h:AM x=some y):U5 aM x=some y:=by
 obtain⟨l,k⟩:=x
 simp only[AM] at h
 split at h
 ·rename_i hc
  obtain⟨hk,hw⟩:=hc
  unfold Dh at hw
  rw[Bool.and_eq_true,decide_eq_true_eq,List.all_eq_true] at hw
  rw[<-h]
  exact amp AL ki l hw.1 (fun e he k hk=>if_pos ⟨hk,hw.2 e he⟩) k hk
 ·cases h
theorem Uu {l:List (Int×Int×(List Int))} (h:jT l<=1048576):l.length<=1048576/\∀e∈l,ki e<=1048576:=by
 unfold jT at h
 refine⟨by omega,fun e he=>?_⟩
 have:=PJ (List.mem_map_of_mem (f:=ki) he)
 omega
theorem aeH (x y:List (Int×Int×(List Int))) (h:AP x=some y):LD aM x=some y:=by
 simp only[AP] at h
 split at h
 ·rename_i hl
  injection h with h
  subst h
  obtain⟨hl,hm⟩:=Uu hl
  simp only[LD,P2 (n:=J x) (by_:=40) (by simp only[J,e8];omega),az,YS,df]
  rw[WL x (0,0,[]) (r:=Sum.inl x) ?_ ?_ (by omega)]
  ·simp only[eI,jB,az]
  ·rintro i ⟨a0,a1,a2⟩ ys he hy hi
   simp only
   rw[bt (iL he),ig,he,az]
   simp only[AO,if_pos (hm _ (List.mem_of_getElem? he)),DJ hi,az,nU,dj,hi,jB,zY,df,mK he (by omega)]
   rfl
  ·simp only
   rw[br (pL x)]
 ·cases h
theorem aet (x:(List (Int×Int×(List Int)))×(List (Int×Int×(List Int)))) (y:Bool) (h:AE x=some y):U4 aM x=some y:=by
 obtain⟨a,b⟩:=x
 simp only[AE] at h
 split at h
 ·rename_i hl
  rw[<-h]
  obtain⟨hl,hm⟩:=Uu hl
  exact MN AD a b (fun e he b=>show(if ki e<=1048576 then some (decide (e=b)) else none)=_ from if_pos (hm e he)) (by omega)
 ·cases h
theorem aeA (x:(Int×Int×(List Int)×(List (Int×Int×(List Int)))×(List Int))×Int) (y:Int) (h:AK x=some y):Lx aM x=some y:=by
 obtain⟨⟨a0,a1,a2,a3,a4⟩,k⟩:=x
 simp only[AK] at h
 split at h
 ·rename_i hc
  obtain⟨⟨k0,k1⟩,hw⟩:=hc
  simp only[K9,Bool.and_eq_true] at hw
  rw[<-h]
  simp only[Lx]
  rw[KS (o:=sM (a2,k)) (s:=di a2) (if_pos ⟨by constructor<;>omega,hw.1.1⟩)]
  by_cases c0:((di a2:Nat):Int)<=k
  ·rw[if_pos c0]
   rw[KS (o:=AM (a3,k - di a2)) (s:=jT a3) (if_pos ⟨by constructor<;>omega,hw.1.2⟩)]
   by_cases c1:((jT a3:Nat):Int)<=k - di a2
   ·rw[if_pos c1]
    rw[KS (o:=sM (a4,k - di a2 - jT a3)) (s:=di a4) (if_pos ⟨by constructor<;>omega,hw.2⟩)]
    by_cases c2:((di a4:Nat):Int)<=k - di a2 - jT a3
    ·rw[if_pos c2]
     show _=some (gb (di a2+jT a3+di a4) k)
     rw[Ut (by omega)]
     exact congrArg some (by omega)
    ·rw[if_neg c2]
     show _=some (gb (di a2+jT a3+di a4) k)
     rw[Gf (by omega)]
   ·rw[if_neg c1]
    show _=some (gb (di a2+jT a3+di a4) k)
    rw[Gf (by omega)]
  ·rw[if_neg c0]
   show _=some (gb (di a2+jT a3+di a4) k)
   rw[Gf (by omega)]
 ·cases h
theorem aeE (x y:Int×Int×(List Int)×(List (Int×Int×(List Int)))×(List Int)) (h:sN x=some y):LA aM x=some y:=by
 obtain⟨a0,a1,a2,a3,a4⟩:=x
 simp only[sN] at h
 split at h
 ·rename_i hl
  rw[<-h]
  simp only[jh] at hl
  simp only[LA,uo,AP,if_pos (show di a2<=1048576 by omega),if_pos (show jT a3<=1048576 by omega),if_pos (show di a4<=1048576 by omega),az,jB]
 ·cases h
theorem aep (x:(Int×Int×(List Int)×(List (Int×Int×(List Int)))×(List Int))×(Int×Int×(List Int)×(List (Int×Int×(List Int)))×(List Int))) (y:Bool) (h:wB x=some y):Lp aM x=some y:=by
 obtain⟨⟨a0,a1,a2,a3,a4⟩,b0,b1,b2,b3,b4⟩:=x
 simp only[wB] at h
 split at h
 ·rename_i hl
  rw[<-h]
  simp only[jh] at hl
  simp only[Lp,rA,AE,if_pos (show di a2<=1048576 by omega),if_pos (show jT a3<=1048576 by omega),if_pos (show di a4<=1048576 by omega),az]
  by_cases e0:a0=b0<;>by_cases e1:a1=b1<;>by_cases e2:a2=b2<;>by_cases e3:a3=b3<;>by_cases e4:a4=b4<;>simp[Zt,eK,aL, *]
 ·cases h
theorem ada (x:List (List Int)) (h:nM x<=1048576):sL (x,x)=some true:=by
 have:=show sL (x,x)=if nM x<=1048576 then some (decide (x=x)) else none from rfl
 rw[this,if_pos h,decide_eq_true rfl]
theorem ac9 (x:Int×Int×(List Int)×(List (Int×Int×(List Int)))×(List Int)) (h:jh x<=1048576):wB (x,x)=some true:=by
 have:=show wB (x,x)=if jh x<=1048576 then some (decide (x=x)) else none from rfl
 rw[this,if_pos h,decide_eq_true rfl]
theorem amC (x:Int×Int×(List Int)×(List (Int×Int×(List Int)))×(List Int)) (h:jh x<=1048576):sN x=some x:=if_pos h
theorem Gi (l:List Int):di l=l.length+(l.map (fun _=>0)).sum:=by
 simp[di,abk]
theorem rI (l:List Int):dN l<=4*di l:=by
 rw[Gi];exact DN (fun _=>1) (fun _=>0) (fun e=>by omega) l
theorem alZ (l:List Int) (k:Int):di (fu l k)=di l:=by
 rw[Gi,Gi,fu,z3,Gd (fun _=>1) (fun _ k=>k) (fun _=>0) (fun _ _=>rfl)]
theorem VS (l:List Int) (k:Int):dN (fu l k)=dN l:=Gd (fun _=>1) (fun _ k=>k) (fun _=>1) (fun _ _=>rfl) l k
theorem ahY (l:List Int) (k:Int):fu (fu l k) k=fu l k:=P3 (fun _=>1) (fun _ k=>k) (fun _ _=>rfl) (fun _ _=>rfl) l k
theorem JB (l:List Int) (k:Int):(fu l k).length=l.length:=z3 _ _ _ _
theorem aex (x:(List Int)×Int) (y:Int×(List Int)) (h:qc x=some y):Lu aM x=some y:=by
 obtain⟨l,k⟩:=x
 simp only[qc] at h
 split at h
 ·rename_i hc
  obtain⟨hk,hb⟩:=hc
  rw[Gi] at hb
  rw[<-h]
  simp only[Lu,df,az]
  rw[PY l (fun _=>1) (fun _=>0) (fun _ k=>k) k (r:=Sum.inl (k+(dN l:Nat),fu l k)) (fun e=>by omega) hk hb ?_ ?_]
  ·rw[eI]
   simp only
   rw[z9 (show J (fu l k)=J l from JB l k),az]
  ·intro i e ys k' he hy hi h0 hM
   have Ep:dj ys i=some e:=hi
   simp only
   rw[bt (iL hi),mK hi (by omega)]
   simp only[DJ hi,az,nU,Ep,zY,df]
   have e1:bB .i64 k' 1=k'+1:=lS (by omega) (by omega)
   simp only[e1]
   rfl
  ·simp only
   rw[br (ff (by have:=JB l k;have h2:=nl (fu l k);unfold fu at this h2;omega))]
   rfl
 ·cases h
theorem aeu (x:(List Int)×Int) (y:Int) (h:AF x=some y):Lr aM x=some y:=by
 obtain⟨l,k⟩:=x
 simp only[AF] at h
 split at h
 ·rename_i hc
  obtain⟨hk,hb⟩:=hc
  rw[Gi] at hb
  rw[<-h]
  simp only[Lr]
  rw[XA l (fun _=>1) (fun _=>0) (fun _ k=>k) k (fun e=>by omega) hk hb ?_ ?_]
  ·unfold fu dN
   by_cases hq:l=fJ (fun _=>1) (fun _ k=>k) l k
   ·rw[if_pos hq,if_pos hq,eI]
   ·rw[if_neg hq,if_neg hq,Ju]
  ·intro i e k' he h0 hM
   simp only
   rw[bt (iL he),ig,he,az]
   have e1:bB .i64 k' 1=k'+1:=lS (by omega) (by omega)
   rw[e1,mK he (by omega)]
   by_cases hq:e=k'
   ·rw[br (lM hq),if_pos hq];rfl
   ·rw[bt (oF hq),if_neg hq]
  ·intro k'
   simp only
   rw[br (pL l)]
 ·cases h
theorem Gg (l:List (List Int)):nM l=l.length+(l.map di).sum:=by
 rfl
theorem aco (l:List (List Int)):qp l<=4*nM l:=by
 rw[Gg];exact DN dN di (fun e=>by have:=rI e;omega) l
theorem al0 (l:List (List Int)) (k:Int):nM (gZ l k)=nM l:=by
 rw[Gg,Gg,gZ,z3,Gd dN fu di alZ]
theorem acG (l:List (List Int)) (k:Int):qp (gZ l k)=qp l:=Gd dN fu dN VS l k
theorem ahZ (l:List (List Int)) (k:Int):gZ (gZ l k) k=gZ l k:=P3 dN fu VS ahY l k
theorem PQ (l:List (List Int)) (k:Int):(gZ l k).length=l.length:=z3 _ _ _ _
theorem aey (x:(List (List Int))×Int) (y:Int×(List (List Int))) (h:AH x=some y):Lv aM x=some y:=by
 obtain⟨l,k⟩:=x
 simp only[AH] at h
 split at h
 ·rename_i hc
  obtain⟨hk,hb⟩:=hc
  rw[Gg] at hb
  rw[<-h]
  simp only[Lv,df,az]
  rw[PY l dN di fu k (r:=Sum.inl (k+(qp l:Nat),gZ l k)) (fun e=>by have:=rI e;omega) hk hb ?_ ?_]
  ·rw[eI]
   simp only
   rw[z9 (show J (gZ l k)=J l from PQ l k),az]
  ·rintro i e0 ys k' he hy hi h0 hM
   have Ep:dj ys i=some e0:=hi
   simp only
   rw[bt (iL hi),mK hi (by omega)]
   simp only[DJ hi,az,nU,Ep,zY,df]
   have acq:=rI e0
   have E0:qc (e0,k')=some (k'+(dN e0:Nat),fu e0 (k')):=if_pos ⟨by omega,by omega⟩
   simp only[E0,az,Xh hi,aaA,zY,df]
   refine congrArg some (congrArg Sum.inl (Prod.ext (Prod.ext ?_ rfl) rfl))
   simp only[dN]
  ·simp only
   rw[br (ff (by have:=PQ l k;have h2:=nl (gZ l k);unfold gZ at this h2;omega))]
   rfl
 ·cases h
theorem aev (x:(List (List Int))×Int) (y:Int) (h:ul x=some y):Ls aM x=some y:=by
 obtain⟨l,k⟩:=x
 simp only[ul] at h
 split at h
 ·rename_i hc
  obtain⟨hk,hb⟩:=hc
  rw[Gg] at hb
  rw[<-h]
  simp only[Ls]
  rw[XA l dN di fu k (fun e=>by have:=rI e;omega) hk hb ?_ ?_]
  ·unfold gZ qp
   by_cases hq:l=fJ dN fu l k
   ·rw[if_pos hq,if_pos hq,eI]
   ·rw[if_neg hq,if_neg hq,Ju]
  ·rintro i e0 k' he h0 hM
   simp only
   have acq:=rI e0
   rw[bt (iL he),mK he (by omega)]
   have E0:AF (e0,k')=some (if e0=fu e0 (k') then k'+(dN e0:Nat) else -1):=if_pos ⟨by omega,by omega⟩
   simp only[ig,he,az]
   rw[afC (by omega) E0]
  ·intro k'
   simp only
   rw[br (pL l)]
 ·cases h
theorem Vz (x:Int×Int×(List Int)):yU x<=4*(1+ki x):=by
 obtain⟨a0,a1,a2⟩:=x
 have h0:=rI a2
 simp only[yU,ki]
 omega
theorem abv (l:List (Int×Int×(List Int))):jT l=l.length+(l.map ki).sum:=by
 rfl
theorem Vy (l:List (Int×Int×(List Int))):nZ l<=4*jT l:=by
 rw[abv];exact DN yU ki Vz l
theorem PR (l:List (Int×Int×(List Int))) (k:Int):(tY l k).length=l.length:=z3 _ _ _ _
theorem aez (x:(List (Int×Int×(List Int)))×Int) (y:Int×(List (Int×Int×(List Int)))) (h:AJ x=some y):Lw aM x=some y:=by
 obtain⟨l,k⟩:=x
 simp only[AJ] at h
 split at h
 ·rename_i hc
  obtain⟨hk,hb⟩:=hc
  rw[abv] at hb
  rw[<-h]
  simp only[Lw,df,az]
  rw[PY l yU ki Zc k (r:=Sum.inl (k+(nZ l:Nat),tY l k)) Vz hk hb ?_ ?_]
  ·rw[eI]
   simp only
   rw[z9 (show J (tY l k)=J l from PR l k),az]
  ·rintro i ⟨a0,a1,a2⟩ ys k' he hy hi h0 hM
   have Ep:dj ys i=some (a0,a1,a2):=hi
   simp only
   rw[bt (iL hi),mK hi (by omega)]
   simp only[DJ hi,az,nU,Ep,zY,df]
   have acp:=rI a2
   simp only[ki] at hM
   have E0:bB .i64 (k') 1=k'+1:=lS (by omega) (by omega)
   have E1:bB .i64 (k'+1) 1=k'+1+1:=lS (by omega) (by omega)
   have E2:qc (a2,k'+1+1)=some (k'+1+1+(dN a2:Nat),fu a2 (k'+1+1)):=if_pos ⟨by omega,by omega⟩
   simp only[E0,E1,E2,az,Xh hi,aaA,zY,df]
   refine congrArg some (congrArg Sum.inl (Prod.ext (Prod.ext ?_ rfl) rfl))
   simp only[yU]
   omega
  ·simp only
   rw[br (ff (by have:=PR l k;have h2:=nl (tY l k);unfold tY at this h2;omega))]
   rfl
 ·cases h
theorem aew (x:(Int×Int×(List Int)×(List (Int×Int×(List Int)))×(List Int))×Int) (y:Int×(List Int)×(List (Int×Int×(List Int)))×(List Int)) (h:AG x=some y):Lt aM x=some y:=by
 obtain⟨⟨a0,a1,a2,a3,a4⟩,k⟩:=x
 simp only[AG] at h
 split at h
 ·rename_i hc
  obtain⟨hk,hb⟩:=hc
  simp only[jh] at hb
  have acp:=rI a2
  have am4:=Vy a3
  have am5:=rI a4
  rw[<-h]
  have e0:qc (a2,k)=some (k+(dN a2:Nat),fu a2 (k)):=if_pos ⟨by omega,by omega⟩
  have e1:AJ (a3,k+(dN a2:Nat))=some (k+(dN a2:Nat)+(nZ a3:Nat),tY a3 (k+(dN a2:Nat))):=if_pos ⟨by omega,by omega⟩
  have e2:qc (a4,k+(dN a2:Nat)+(nZ a3:Nat))=some (k+(dN a2:Nat)+(nZ a3:Nat)+(dN a4:Nat),fu a4 (k+(dN a2:Nat)+(nZ a3:Nat))):=if_pos ⟨by omega,by omega⟩
  simp only[Lt,df,az,e0,e1,e2,z9 (show J (fu a2 (k))=J a2 from JB a2 (k)),z9 (show J (tY a3 (k+(dN a2:Nat)))=J a3 from PR a3 (k+(dN a2:Nat))),z9 (show J (fu a4 (k+(dN a2:Nat)+(nZ a3:Nat)))=J a4 from JB a4 (k+(dN a2:Nat)+(nZ a3:Nat)))]
 ·cases h
theorem afz (x:List (List Int)) (k:Int) (h:0<=k/\k+4*(nM x:Nat)<=1099511627776):ul (gZ x k,k)=some (k+(qp x:Nat)):=by
 have:=show ul (gZ x k,k)=if 0<=k/\k+4*(nM (gZ x k):Nat)<=1099511627776 then some (if gZ x k=gZ (gZ x k) k then k+(qp (gZ x k):Nat) else -1) else none from rfl
 rw[this,al0,if_pos h,ahZ,acG,if_pos rfl]
end Go.Am
