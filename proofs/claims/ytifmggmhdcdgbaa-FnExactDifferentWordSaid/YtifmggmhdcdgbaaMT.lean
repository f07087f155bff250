/- MT: sizes, copies, comparisons and marks of the laws' types. No condition. -/
import Derived.Test.YtifmggmhdcdgbaaB2
set_option linter.unusedVariables false
set_option linter.unusedSimpArgs false
set_option synthInstance.maxSize 1000
set_option synthInstance.maxHeartbeats 400000
namespace Go.Am
def dj (l:List Int):Nat:=l.length
def wZ (l:List Int):Bool:=decide (l.length<=9223372036854775807)
def rB:(List Int)×Int->Option Int:=fun((x,k):(List Int)×Int)=>if v7 k/\wZ x=true then some (fF (dj x) k) else none
def tg:(List Int)->Option (List Int):=fun(x:List Int)=>if dj x<=1048576 then some x else none
def mh:(List Int)×(List Int)->Option Bool:=fun((x,y):(List Int)×(List Int))=>if dj x<=1048576 then some (decide (x=y)) else none
def jt (x:Int×Int×(List Int)):Nat:=match x with|(a0,a1,a2)=>dj a2
def KL (x:Int×Int×(List Int)):Bool:=match x with|(a0,a1,a2)=>wZ a2
def zp:(Int×Int×(List Int))×Int->Option Int:=fun((x,k):(Int×Int×(List Int))×Int)=>if v7 k/\KL x=true then some (fF (jt x) k) else none
def zr:(Int×Int×(List Int))->Option (Int×Int×(List Int)):=fun(x:Int×Int×(List Int))=>if jt x<=1048576 then some x else none
def zm:(Int×Int×(List Int))×(Int×Int×(List Int))->Option Bool:=fun((x,y):(Int×Int×(List Int))×(Int×Int×(List Int)))=>if jt x<=1048576 then some (decide (x=y)) else none
def ie (l:List (Int×Int×(List Int))):Nat:=l.length+(l.map jt).sum
def B9 (l:List (Int×Int×(List Int))):Bool:=decide (l.length<=9223372036854775807)&&l.all KL
def zq:(List (Int×Int×(List Int)))×Int->Option Int:=fun((x,k):(List (Int×Int×(List Int)))×Int)=>if v7 k/\B9 x=true then some (fF (ie x) k) else none
def zt:(List (Int×Int×(List Int)))->Option (List (Int×Int×(List Int))):=fun(x:List (Int×Int×(List Int)))=>if ie x<=1048576 then some x else none
def zn:(List (Int×Int×(List Int)))×(List (Int×Int×(List Int)))->Option Bool:=fun((x,y):(List (Int×Int×(List Int)))×(List (Int×Int×(List Int))))=>if ie x<=1048576 then some (decide (x=y)) else none
def ff (x:Int×Int×(List Int)×(List (Int×Int×(List Int)))×(List Int)):Nat:=match x with|(a0,a1,a2,a3,a4)=>dj a2+ie a3+dj a4
def zd (x:Int×Int×(List Int)×(List (Int×Int×(List Int)))×(List Int)):Bool:=match x with|(a0,a1,a2,a3,a4)=>wZ a2&&B9 a3&&wZ a4
def uV:(Int×Int×(List Int)×(List (Int×Int×(List Int)))×(List Int))×Int->Option Int:=fun((x,k):(Int×Int×(List Int)×(List (Int×Int×(List Int)))×(List Int))×Int)=>if v7 k/\zd x=true then some (fF (ff x) k) else none
def mn:(Int×Int×(List Int)×(List (Int×Int×(List Int)))×(List Int))->Option (Int×Int×(List Int)×(List (Int×Int×(List Int)))×(List Int)):=fun(x:Int×Int×(List Int)×(List (Int×Int×(List Int)))×(List Int))=>if ff x<=1048576 then some x else none
def rA:(Int×Int×(List Int)×(List (Int×Int×(List Int)))×(List Int))×(Int×Int×(List Int)×(List (Int×Int×(List Int)))×(List Int))->Option Bool:=fun((x,y):(Int×Int×(List Int)×(List (Int×Int×(List Int)))×(List Int))×(Int×Int×(List Int)×(List (Int×Int×(List Int)))×(List Int)))=>if ff x<=1048576 then some (decide (x=y)) else none
def cL (l:List Int):Nat:=gp (fun _=>1) l
def dX (l:List Int) (k:Int):List Int:=fA (fun _=>1) (fun _ k=>k) l k
def o9:(List Int)×Int->Option (Int×(List Int)):=fun((x,k):(List Int)×Int)=>if 0<=k/\k+4*(dj x:Nat)<=1099511627776 then some (k+(cL x:Nat),dX x k) else none
def tf:(List Int)×Int->Option Int:=fun((x,k):(List Int)×Int)=>if 0<=k/\k+4*(dj x:Nat)<=1099511627776 then some (if x=dX x k then k+(cL x:Nat) else -1) else none
def xy (x:Int×Int×(List Int)):Nat:=match x with|(a0,a1,a2)=>1+1+cL a2
def Zz (x:Int×Int×(List Int)) (k:Int):Int×Int×(List Int):=match x with|(a0,a1,a2)=>(k,k+1,dX a2 (k+1+1))
def io (l:List (Int×Int×(List Int))):Nat:=gp xy l
def rf (l:List (Int×Int×(List Int))) (k:Int):List (Int×Int×(List Int)):=fA xy Zz l k
def zo:(List (Int×Int×(List Int)))×Int->Option (Int×(List (Int×Int×(List Int)))):=fun((x,k):(List (Int×Int×(List Int)))×Int)=>if 0<=k/\k+4*(ie x:Nat)<=1099511627776 then some (k+(io x:Nat),rf x k) else none
def uU:(Int×Int×(List Int)×(List (Int×Int×(List Int)))×(List Int))×Int->Option (Int×(List Int)×(List (Int×Int×(List Int)))×(List Int)):=fun(((a0,a1,a2,a3,a4),k):(Int×Int×(List Int)×(List (Int×Int×(List Int)))×(List Int))×Int)=>if 0<=k/\k+4*(ff (a0,a1,a2,a3,a4):Nat)<=1099511627776 then some (k+(cL a2:Nat)+(io a3:Nat)+(cL a4:Nat),dX a2 (k),rf a3 (k+(cL a2:Nat)),dX a4 (k+(cL a2:Nat)+(io a3:Nat))) else none
def Gi:ao:=[(.one,[.list [.int .i64]]),(.one,[.int .i64])]
def RZ:ao:=[(.one,[.int .i64])]
def aj5:aY:=[]
def Gm:ao:=[(.one,[.list [.int .i64]])]
def R4:ao:=[(.one,[.list [.int .i64]])]
def aj9:aY:=[]
def F9:ao:=[(.one,[.list [.int .i64]]),(.one,[.list [.int .i64]])]
def RQ:ao:=[(.one,[.bool])]
def aj0:aY:=[]
def Gj:ao:=[(.agg,[.int .i64,.int .i64,.list [.int .i64]]),(.one,[.int .i64])]
def R0:ao:=[(.one,[.int .i64])]
def aj6:aY:=[]
def Gn:ao:=[(.agg,[.int .i64,.int .i64,.list [.int .i64]])]
def R5:ao:=[(.agg,[.int .i64,.int .i64,.list [.int .i64]])]
def aka:aY:=[]
def Ga:ao:=[(.agg,[.int .i64,.int .i64,.list [.int .i64]]),(.agg,[.int .i64,.int .i64,.list [.int .i64]])]
def RR:ao:=[(.one,[.bool])]
def aj1:aY:=[]
def Gk:ao:=[(.one,[.list [.int .i64,.int .i64,.list [.int .i64]]]),(.one,[.int .i64])]
def R1:ao:=[(.one,[.int .i64])]
def aj7:aY:=[]
def Gp:ao:=[(.one,[.list [.int .i64,.int .i64,.list [.int .i64]]])]
def R6:ao:=[(.one,[.list [.int .i64,.int .i64,.list [.int .i64]]])]
def akb:aY:=[]
def Gb:ao:=[(.one,[.list [.int .i64,.int .i64,.list [.int .i64]]]),(.one,[.list [.int .i64,.int .i64,.list [.int .i64]]])]
def RS:ao:=[(.one,[.bool])]
def aj2:aY:=[]
def Gg:ao:=[(.agg,[.int .i64,.int .i64,.list [.int .i64],.list [.int .i64,.int .i64,.list [.int .i64]],.list [.int .i64]]),(.one,[.int .i64])]
def RY:ao:=[(.one,[.int .i64])]
def aj4:aY:=[]
def Gl:ao:=[(.agg,[.int .i64,.int .i64,.list [.int .i64],.list [.int .i64,.int .i64,.list [.int .i64]],.list [.int .i64]])]
def R3:ao:=[(.agg,[.int .i64,.int .i64,.list [.int .i64],.list [.int .i64,.int .i64,.list [.int .i64]],.list [.int .i64]])]
def aj8:aY:=[]
def F8:ao:=[(.agg,[.int .i64,.int .i64,.list [.int .i64],.list [.int .i64,.int .i64,.list [.int .i64]],.list [.int .i64]]),(.agg,[.int .i64,.int .i64,.list [.int .i64],.list [.int .i64,.int .i64,.list [.int .i64]],.list [.int .i64]])]
def RP:ao:=[(.one,[.bool])]
def ajZ:aY:=[]
def Ge:ao:=[(.one,[.list [.int .i64]]),(.one,[.int .i64])]
def RW:ao:=[(.one,[.int .i64]),(.one,[.list [.int .i64]])]
def JG:aY:=[[some .aa]]
def Gf:ao:=[(.one,[.list [.int .i64,.int .i64,.list [.int .i64]]]),(.one,[.int .i64])]
def RX:ao:=[(.one,[.int .i64]),(.one,[.list [.int .i64,.int .i64,.list [.int .i64]]])]
def JH:aY:=[[some .live]]
def Gd:ao:=[(.agg,[.int .i64,.int .i64,.list [.int .i64],.list [.int .i64,.int .i64,.list [.int .i64]],.list [.int .i64]]),(.one,[.int .i64])]
def RU:ao:=[(.one,[.int .i64]),(.one,[.list [.int .i64]]),(.one,[.list [.int .i64,.int .i64,.list [.int .i64]]]),(.one,[.list [.int .i64]])]
def JF:aY:=[[none,none,some .aa,some .live,some .aa]]
def Gc:ao:=[(.one,[.list [.int .i64]]),(.one,[.int .i64])]
def RT:ao:=[(.one,[.int .i64])]
def aj3:aY:=[]
def Lb (NN:Nat):((List Int)×Int)->(Option Int):=
 (fun((l0,i1):((List Int)×Int))=>
 aw (bi (jR .i64 i1 (aM (J l0))) (0:Int))
 (some ((-1:Int)))
 (some (jR .i64 i1 (aM (J l0)))))
def Le (NN:Nat):(List Int)->(Option (List Int)):=
 (fun(l0:(List Int))=>
 (wz (aM (J l0)) (aM (J l0)) 8).U (fun k1=>
 bL ((ab 0 k1 (J (iD k1 (0:Int)))).U (fun _=>
 bd NN (fun(((l2,i3),l4):(((List Int)×Int)×(List Int)))=>
 aw (bi i3 (aM (J l2)))
 ((dk l2 i3).U (fun i5=>
 (dU i3 (J l4)).U (fun k6=>
 (db l4 (aH 0 k6)).U (fun i7=>
 (ab 0 (J l4) (J (cb l4 (aH 0 k6) i5))).U (fun _=>
 some (Sum.inl ((l2,aW .i64 i3 1),cb l4 (aH 0 k6) i5)))))))
 (((ab 0 (J l4) (J l4)).U (fun _=>
 some (Sum.inl l4))).U (fun l8=>
 some (Sum.inr l8))))
 ((l0,(0:Int)),iD k1 (0:Int))))
 (fun l9=>
 (cP l9 (J l9)).U (fun e9=>
 some e9))))
def UR (NN:Nat):((List Int)×(List Int))->(Option Bool):=
 (fun((l0,l1):((List Int)×(List Int)))=>
 aw (dd (aM (J l0)) (aM (J l1)))
 (some false)
 (bL (bd NN (fun((l2,l3,i4):((List Int)×((List Int)×Int)))=>
 aw (bi i4 (aM (J l2)))
 ((dk l2 i4).U (fun i5=>
 (dk l3 i4).U (fun i6=>
 aw (dd i5 i6)
 (some (Sum.inr (Sum.inr false)))
 (some (Sum.inl (l2,l3,aW .i64 i4 1))))))
 (some (Sum.inr (Sum.inl ()))))
 (l0,l1,(0:Int)))
 (fun _=>
 some true)))
def Lc (NN:Nat):((Int×(Int×(List Int)))×Int)->(Option Int):=
 (fun(((i0,i1,l2),i3):((Int×(Int×(List Int)))×Int))=>
 (rB (l2,i3)).U (fun i4=>
 aw (bi i4 (0:Int))
 (some ((-1:Int)))
 (some i4)))
def Lf (NN:Nat):(Int×(Int×(List Int)))->(Option (Int×(Int×(List Int)))):=
 (fun((i0,i1,l2):(Int×(Int×(List Int))))=>
 (tg l2).U (fun l3=>
 (cP l3 (J l3)).U (fun l4=>
 some (i0,i1,l4))))
def K5 (NN:Nat):((Int×(Int×(List Int)))×(Int×(Int×(List Int))))->(Option Bool):=
 (fun(((i0,i1,l2),i3,i4,l5):((Int×(Int×(List Int)))×(Int×(Int×(List Int)))))=>
 aw (dd i0 i3)
 (some false)
 (aw (dd i1 i4)
 (some false)
 ((mh (l2,l5)).U (fun b6=>
 aw (dY b6)
 (some false)
 (some true)))))
def UT (NN:Nat):((List (Int×(Int×(List Int))))×Int)->(Option Int):=
 (fun((l0,i1):((List (Int×(Int×(List Int))))×Int))=>
 aw (bi (jR .i64 i1 (aM (J l0))) (0:Int))
 (some ((-1:Int)))
 (bL (bd NN (fun((l2,i3,i4):((List (Int×(Int×(List Int))))×(Int×Int)))=>
 aw (bi i4 (aM (J l2)))
 ((dk l2 i4).U (fun(i5,i6,l7)=>
 (zp ((i5,i6,l7),i3)).U (fun i8=>
 aw (bi i8 (0:Int))
 (some (Sum.inr (Sum.inr ((-1:Int)))))
 (some (Sum.inl (l2,i8,aW .i64 i4 1))))))
 (some (Sum.inr (Sum.inl i3))))
 (l0,jR .i64 i1 (aM (J l0)),(0:Int)))
 (fun i9=>
 some i9)))
def Lg (NN:Nat):(List (Int×(Int×(List Int))))->(Option (List (Int×(Int×(List Int))))):=
 (fun(l0:(List (Int×(Int×(List Int)))))=>
 (wz (aM (J l0)) (aM (J l0)) 40).U (fun k1=>
 bL ((ab 0 k1 (J (iD k1 ((0:Int),(0:Int),([]:List Int))))).U (fun _=>
 bd NN (fun(((l2,i3),l4):(((List (Int×(Int×(List Int))))×Int)×(List (Int×(Int×(List Int))))))=>
 aw (bi i3 (aM (J l2)))
 ((dk l2 i3).U (fun(i5,i6,l7)=>
 (zr (i5,i6,l7)).U (fun(i8,i9,e9)=>
 (dU i3 (J l4)).U (fun yx=>
 (db l4 (aH 0 yx)).U (fun(cU,dB,fW)=>
 (cP e9 (J e9)).U (fun cg=>
 (ab 0 (J l4) (J (cb l4 (aH 0 yx) (i8,i9,cg)))).U (fun _=>
 some (Sum.inl ((l2,aW .i64 i3 1),cb l4 (aH 0 yx) (i8,i9,cg))))))))))
 (((ab 0 (J l4) (J l4)).U (fun _=>
 some (Sum.inl l4))).U (fun dL=>
 some (Sum.inr dL))))
 ((l0,(0:Int)),iD k1 ((0:Int),(0:Int),([]:List Int)))))
 (fun ci=>
 (cP ci (J ci)).U (fun gD=>
 some gD))))
def US (NN:Nat):((List (Int×(Int×(List Int))))×(List (Int×(Int×(List Int)))))->(Option Bool):=
 (fun((l0,l1):((List (Int×(Int×(List Int))))×(List (Int×(Int×(List Int))))))=>
 aw (dd (aM (J l0)) (aM (J l1)))
 (some false)
 (bL (bd NN (fun((l2,l3,i4):((List (Int×(Int×(List Int))))×((List (Int×(Int×(List Int))))×Int)))=>
 aw (bi i4 (aM (J l2)))
 ((dk l2 i4).U (fun(i5,i6,l7)=>
 (dk l3 i4).U (fun(i8,i9,e9)=>
 (zm ((i5,i6,l7),i8,i9,e9)).U (fun xw=>
 aw (dY xw)
 (some (Sum.inr (Sum.inr false)))
 (some (Sum.inl (l2,l3,aW .i64 i4 1)))))))
 (some (Sum.inr (Sum.inl ()))))
 (l0,l1,(0:Int)))
 (fun _=>
 some true)))
def La (NN:Nat):((Int×(Int×((List Int)×((List (Int×(Int×(List Int))))×(List Int)))))×Int)->(Option Int):=
 (fun(((i0,i1,l2,l3,l4),i5):((Int×(Int×((List Int)×((List (Int×(Int×(List Int))))×(List Int)))))×Int))=>
 (rB (l2,i5)).U (fun i6=>
 aw (bi i6 (0:Int))
 (some ((-1:Int)))
 ((zq (l3,i6)).U (fun i7=>
 aw (bi i7 (0:Int))
 (some ((-1:Int)))
 ((rB (l4,i7)).U (fun i8=>
 aw (bi i8 (0:Int))
 (some ((-1:Int)))
 (some i8)))))))
def Ld (NN:Nat):(Int×(Int×((List Int)×((List (Int×(Int×(List Int))))×(List Int)))))->(Option (Int×(Int×((List Int)×((List (Int×(Int×(List Int))))×(List Int)))))):=
 (fun((i0,i1,l2,l3,l4):(Int×(Int×((List Int)×((List (Int×(Int×(List Int))))×(List Int))))))=>
 (tg l2).U (fun l5=>
 (zt l3).U (fun l6=>
 (tg l4).U (fun l7=>
 (cP l5 (J l5)).U (fun l8=>
 (cP l6 (J l6)).U (fun l9=>
 (cP l7 (J l7)).U (fun e9=>
 some (i0,i1,l8,l9,e9))))))))
def K4 (NN:Nat):((Int×(Int×((List Int)×((List (Int×(Int×(List Int))))×(List Int)))))×(Int×(Int×((List Int)×((List (Int×(Int×(List Int))))×(List Int))))))->(Option Bool):=
 (fun(((i0,i1,l2,l3,l4),i5,i6,l7,l8,l9):((Int×(Int×((List Int)×((List (Int×(Int×(List Int))))×(List Int)))))×(Int×(Int×((List Int)×((List (Int×(Int×(List Int))))×(List Int)))))))=>
 aw (dd i0 i5)
 (some false)
 (aw (dd i1 i6)
 (some false)
 ((mh (l2,l7)).U (fun j5=>
 aw (dY j5)
 (some false)
 ((zn (l3,l8)).U (fun xw=>
 aw (dY xw)
 (some false)
 ((mh (l4,l9)).U (fun LA=>
 aw (dY LA)
 (some false)
 (some true)))))))))
def K8 (NN:Nat):((List Int)×Int)->(Option (Int×(List Int))):=
 (fun((l0,i1):((List Int)×Int))=>
 bL ((ab 0 (J l0) (J l0)).U (fun _=>
 bd NN (fun(((i2,i3),l4):((Int×Int)×(List Int)))=>
 aw (bi i3 (aM (J l4)))
 ((dU i3 (J l4)).U (fun k5=>
 (db l4 (aH 0 k5)).U (fun i6=>
 (ab 0 (J l4) (J (cb l4 (aH 0 k5) i2))).U (fun _=>
 some (Sum.inl ((aW .i64 i2 1,aW .i64 i3 1),cb l4 (aH 0 k5) i2))))))
 (some (Sum.inr (Sum.inl (i2,l4)))))
 ((i1,(0:Int)),l0)))
 (fun(i7,l8)=>
 (nR (J l8) (J l0)).U (fun _=>
 some (i7,l8))))
def K9 (NN:Nat):((List (Int×(Int×(List Int))))×Int)->(Option (Int×(List (Int×(Int×(List Int)))))):=
 (fun((l0,i1):((List (Int×(Int×(List Int))))×Int))=>
 bL ((ab 0 (J l0) (J l0)).U (fun _=>
 bd NN (fun(((i2,i3),l4):((Int×Int)×(List (Int×(Int×(List Int))))))=>
 aw (bi i3 (aM (J l4)))
 ((dU i3 (J l4)).U (fun k5=>
 (db l4 (aH 0 k5)).U (fun(i6,i7,l8)=>
 (dU i3 (J l4)).U (fun k9=>
 (db (cb l4 (aH 0 k5) (i2,i7,l8)) (aH 0 k9)).U (fun(cf,cF,dn)=>
 (dU i3 (J l4)).U (fun yy=>
 (db (cb (cb l4 (aH 0 k5) (i2,i7,l8)) (aH 0 k9) (cf,aW .i64 i2 1,dn)) (aH 0 yy)).U (fun(c7,mJ,dL)=>
 (db (cb (cb l4 (aH 0 k5) (i2,i7,l8)) (aH 0 k9) (cf,aW .i64 i2 1,dn)) (aH 0 yy)).U (fun(jk,fj,fM)=>
 (o9 (fM,aW .i64 (aW .i64 i2 1) (1:Int))).U (fun(iO,km)=>
 (db (cb (cb l4 (aH 0 k5) (i2,i7,l8)) (aH 0 k9) (cf,aW .i64 i2 1,dn)) (aH 0 yy)).U (fun(jl,jG,fz)=>
 (ab 0 (J l4) (J (cb (cb (cb l4 (aH 0 k5) (i2,i7,l8)) (aH 0 k9) (cf,aW .i64 i2 1,dn)) (aH 0 yy) (jl,jG,km)))).U (fun _=>
 some (Sum.inl ((iO,aW .i64 i3 1),cb (cb (cb l4 (aH 0 k5) (i2,i7,l8)) (aH 0 k9) (cf,aW .i64 i2 1,dn)) (aH 0 yy) (jl,jG,km))))))))))))))
 (some (Sum.inr (Sum.inl (i2,l4)))))
 ((i1,(0:Int)),l0)))
 (fun(kc,dM)=>
 (nR (J dM) (J l0)).U (fun _=>
 some (kc,dM))))
def K7 (NN:Nat):((Int×(Int×((List Int)×((List (Int×(Int×(List Int))))×(List Int)))))×Int)->(Option (Int×((List Int)×((List (Int×(Int×(List Int))))×(List Int))))):=
 (fun(((i0,i1,l2,l3,l4),i5):((Int×(Int×((List Int)×((List (Int×(Int×(List Int))))×(List Int)))))×Int))=>
 (ab 0 (J l2) (J l2)).U (fun _=>
 (o9 (l2,i5)).U (fun(i6,l7)=>
 (ab 0 (J l3) (J l3)).U (fun _=>
 (zo (l3,i6)).U (fun(i8,l9)=>
 (ab 0 (J l4) (J l4)).U (fun _=>
 (o9 (l4,i8)).U (fun(cf,gC)=>
 (nR (J l7) (J l2)).U (fun _=>
 (nR (J l9) (J l3)).U (fun _=>
 (nR (J gC) (J l4)).U (fun _=>
 some (cf,l7,l9,gC)))))))))))
def K6 (NN:Nat):((List Int)×Int)->(Option Int):=
 (fun((l0,i1):((List Int)×Int))=>
 bL (bd NN (fun((l2,i3,i4):((List Int)×(Int×Int)))=>
 aw (bi i4 (aM (J l2)))
 ((dk l2 i4).U (fun i5=>
 aw (dd i5 i3)
 (some (Sum.inr (Sum.inr ((-1:Int)))))
 (some (Sum.inl (l2,aW .i64 i3 1,aW .i64 i4 1)))))
 (some (Sum.inr (Sum.inl i3))))
 (l0,i1,(0:Int)))
 (fun i6=>
 some i6))
theorem aep (x:(List Int)×Int) (y:Int) (h:rB x=some y):Lb aD x=some y:=by
 obtain⟨l,k⟩:=x
 simp only[rB] at h
 split at h
 ·rename_i hc
  obtain⟨⟨k0,k1⟩,hw⟩:=hc
  have hw:=of_decide_eq_true hw
  rw[<-h]
  have hn:=nl l
  simp only[Lb]
  rw[oY (by omega) (by omega)]
  show _=some (fF l.length k)
  by_cases hs:(l.length:Int)<=k
  ·rw[Ul hs,aS (eN (by omega))];rfl
  ·rw[E5 hs,aT (f0 (by omega))]
 ·cases h
theorem aet (x y:List Int) (h:tg x=some y):Le aD x=some y:=by
 simp only[tg] at h
 split at h
 ·rename_i hl
  injection h with h
  subst h
  have hl:x.length<=1048576:=hl
  simp only[Le,PV (n:=J x) (by_:=8) (by simp only[J,dA];omega),aj,Zd,bK]
  rw[Wx x 0 (r:=Sum.inl x) ?_ ?_ (by omega)]
  ·simp only[cO,gV,aj]
  ·intro i e ys he hy hi
   simp only
   rw[aT (gk he),eD,he,aj]
   simp only[G6 hi,aj,lx,db,hi,Ea,bK,lk he (by omega)]
   rfl
  ·simp only
   rw[aS (mR x)]
 ·cases h
theorem aeh (x:(List Int)×(List Int)) (y:Bool) (h:mh x=some y):UR aD x=some y:=by
 obtain⟨a,b⟩:=x
 simp only[mh] at h
 split at h
 ·rename_i hl
  rw[<-h]
  have hl:a.length<=1048576:=hl
  exact adj a b (by omega)
 ·cases h
theorem aeq (x:(Int×Int×(List Int))×Int) (y:Int) (h:zp x=some y):Lc aD x=some y:=by
 obtain⟨⟨a0,a1,a2⟩,k⟩:=x
 simp only[zp] at h
 split at h
 ·rename_i hc
  obtain⟨⟨k0,k1⟩,hw⟩:=hc
  simp only[KL] at hw
  rw[<-h]
  simp only[Lc]
  rw[Ky (o:=rB (a2,k)) (s:=dj a2) (if_pos ⟨by constructor<;>omega,hw⟩)]
  by_cases c0:((dj a2:Nat):Int)<=k
  ·rw[if_pos c0]
   show _=some (fF (dj a2) k)
   rw[Ul (by omega)]
  ·rw[if_neg c0]
   show _=some (fF (dj a2) k)
   rw[E5 (by omega)]
 ·cases h
theorem aeu (x y:Int×Int×(List Int)) (h:zr x=some y):Lf aD x=some y:=by
 obtain⟨a0,a1,a2⟩:=x
 simp only[zr] at h
 split at h
 ·rename_i hl
  rw[<-h]
  simp only[jt] at hl
  simp only[Lf,tg,if_pos (show dj a2<=1048576 by omega),aj,gV]
 ·cases h
theorem aei (x:(Int×Int×(List Int))×(Int×Int×(List Int))) (y:Bool) (h:zm x=some y):K5 aD x=some y:=by
 obtain⟨⟨a0,a1,a2⟩,b0,b1,b2⟩:=x
 simp only[zm] at h
 split at h
 ·rename_i hl
  rw[<-h]
  simp only[jt] at hl
  simp only[K5,mh,if_pos (show dj a2<=1048576 by omega),aj]
  by_cases e0:a0=b0<;>by_cases e1:a1=b1<;>by_cases e2:a2=b2<;>simp[ZM,dY,aw, *]
 ·cases h
theorem aer (x:(List (Int×Int×(List Int)))×Int) (y:Int) (h:zq x=some y):UT aD x=some y:=by
 obtain⟨l,k⟩:=x
 simp only[zq] at h
 split at h
 ·rename_i hc
  obtain⟨hk,hw⟩:=hc
  unfold B9 at hw
  rw[Bool.and_eq_true,decide_eq_true_eq,List.all_eq_true] at hw
  rw[<-h]
  exact an3 zp jt l hw.1 (fun e he k hk=>if_pos ⟨hk,hw.2 e he⟩) k hk
 ·cases h
theorem Um {l:List (Int×Int×(List Int))} (h:ie l<=1048576):l.length<=1048576/\∀e∈l,jt e<=1048576:=by
 unfold ie at h
 refine⟨by omega,fun e he=>?_⟩
 have:=Zb (List.mem_map_of_mem (f:=jt) he)
 omega
theorem aev (x y:List (Int×Int×(List Int))) (h:zt x=some y):Lg aD x=some y:=by
 simp only[zt] at h
 split at h
 ·rename_i hl
  injection h with h
  subst h
  obtain⟨hl,hm⟩:=Um hl
  simp only[Lg,PV (n:=J x) (by_:=40) (by simp only[J,dA];omega),aj,Zd,bK]
  rw[Wx x (0,0,[]) (r:=Sum.inl x) ?_ ?_ (by omega)]
  ·simp only[cO,gV,aj]
  ·rintro i ⟨a0,a1,a2⟩ ys he hy hi
   simp only
   rw[aT (gk he),eD,he,aj]
   simp only[zr,if_pos (hm _ (List.mem_of_getElem? he)),G6 hi,aj,lx,db,hi,gV,Ea,bK,lk he (by omega)]
   rfl
  ·simp only
   rw[aS (mR x)]
 ·cases h
theorem aej (x:(List (Int×Int×(List Int)))×(List (Int×Int×(List Int)))) (y:Bool) (h:zn x=some y):US aD x=some y:=by
 obtain⟨a,b⟩:=x
 simp only[zn] at h
 split at h
 ·rename_i hl
  rw[<-h]
  obtain⟨hl,hm⟩:=Um hl
  exact V5 zm a b (fun e he b=>show(if jt e<=1048576 then some (decide (e=b)) else none)=_ from if_pos (hm e he)) (by omega)
 ·cases h
theorem aeo (x:(Int×Int×(List Int)×(List (Int×Int×(List Int)))×(List Int))×Int) (y:Int) (h:uV x=some y):La aD x=some y:=by
 obtain⟨⟨a0,a1,a2,a3,a4⟩,k⟩:=x
 simp only[uV] at h
 split at h
 ·rename_i hc
  obtain⟨⟨k0,k1⟩,hw⟩:=hc
  simp only[zd,Bool.and_eq_true] at hw
  rw[<-h]
  simp only[La]
  rw[Ky (o:=rB (a2,k)) (s:=dj a2) (if_pos ⟨by constructor<;>omega,hw.1.1⟩)]
  by_cases c0:((dj a2:Nat):Int)<=k
  ·rw[if_pos c0]
   rw[Ky (o:=zq (a3,k - dj a2)) (s:=ie a3) (if_pos ⟨by constructor<;>omega,hw.1.2⟩)]
   by_cases c1:((ie a3:Nat):Int)<=k - dj a2
   ·rw[if_pos c1]
    rw[Ky (o:=rB (a4,k - dj a2 - ie a3)) (s:=dj a4) (if_pos ⟨by constructor<;>omega,hw.2⟩)]
    by_cases c2:((dj a4:Nat):Int)<=k - dj a2 - ie a3
    ·rw[if_pos c2]
     show _=some (fF (dj a2+ie a3+dj a4) k)
     rw[Ul (by omega)]
     exact congrArg some (by omega)
    ·rw[if_neg c2]
     show _=some (fF (dj a2+ie a3+dj a4) k)
     rw[E5 (by omega)]
   ·rw[if_neg c1]
    show _=some (fF (dj a2+ie a3+dj a4) k)
    rw[E5 (by omega)]
  ·rw[if_neg c0]
   show _=some (fF (dj a2+ie a3+dj a4) k)
   rw[E5 (by omega)]
 ·cases h
theorem aes (x y:Int×Int×(List Int)×(List (Int×Int×(List Int)))×(List Int)) (h:mn x=some y):Ld aD x=some y:=by
 obtain⟨a0,a1,a2,a3,a4⟩:=x
 simp only[mn] at h
 split at h
 ·rename_i hl
  rw[<-h]
  simp only[ff] at hl
  simp only[Ld,tg,zt,if_pos (show dj a2<=1048576 by omega),if_pos (show ie a3<=1048576 by omega),if_pos (show dj a4<=1048576 by omega),aj,gV]
 ·cases h
theorem aeg (x:(Int×Int×(List Int)×(List (Int×Int×(List Int)))×(List Int))×(Int×Int×(List Int)×(List (Int×Int×(List Int)))×(List Int))) (y:Bool) (h:rA x=some y):K4 aD x=some y:=by
 obtain⟨⟨a0,a1,a2,a3,a4⟩,b0,b1,b2,b3,b4⟩:=x
 simp only[rA] at h
 split at h
 ·rename_i hl
  rw[<-h]
  simp only[ff] at hl
  simp only[K4,mh,zn,if_pos (show dj a2<=1048576 by omega),if_pos (show ie a3<=1048576 by omega),if_pos (show dj a4<=1048576 by omega),aj]
  by_cases e0:a0=b0<;>by_cases e1:a1=b1<;>by_cases e2:a2=b2<;>by_cases e3:a3=b3<;>by_cases e4:a4=b4<;>simp[ZM,dY,aw, *]
 ·cases h
theorem adk (x:List Int) (h:dj x<=1048576):mh (x,x)=some true:=by
 have:=show mh (x,x)=if dj x<=1048576 then some (decide (x=x)) else none from rfl
 rw[this,if_pos h,decide_eq_true rfl]
theorem V6 (x:Int×Int×(List Int)×(List (Int×Int×(List Int)))×(List Int)) (h:ff x<=1048576):rA (x,x)=some true:=by
 have:=show rA (x,x)=if ff x<=1048576 then some (decide (x=x)) else none from rfl
 rw[this,if_pos h,decide_eq_true rfl]
theorem abR (x:Int×Int×(List Int)×(List (Int×Int×(List Int)))×(List Int)) (h:ff x<=1048576):mn x=some x:=if_pos h
theorem E6 (l:List Int):dj l=l.length+(l.map (fun _=>0)).sum:=by
 simp[dj,abo]
theorem tr (l:List Int):cL l<=4*dj l:=by
 rw[E6];exact Hd (fun _=>1) (fun _=>0) (fun e=>by omega) l
theorem anI (l:List Int) (k:Int):dj (dX l k)=dj l:=by
 rw[E6,E6,dX,Ee,Ui (fun _=>1) (fun _ k=>k) (fun _=>0) (fun _ _=>rfl)]
theorem acR (l:List Int) (k:Int):cL (dX l k)=cL l:=Ui (fun _=>1) (fun _ k=>k) (fun _=>1) (fun _ _=>rfl) l k
theorem ajF (l:List Int) (k:Int):dX (dX l k) k=dX l k:=ZB (fun _=>1) (fun _ k=>k) (fun _ _=>rfl) (fun _ _=>rfl) l k
theorem Eb (l:List Int) (k:Int):(dX l k).length=l.length:=Ee _ _ _ _
theorem aem (x:(List Int)×Int) (y:Int×(List Int)) (h:o9 x=some y):K8 aD x=some y:=by
 obtain⟨l,k⟩:=x
 simp only[o9] at h
 split at h
 ·rename_i hc
  obtain⟨hk,hb⟩:=hc
  rw[E6] at hb
  rw[<-h]
  simp only[K8,bK,aj]
  rw[Zv l (fun _=>1) (fun _=>0) (fun _ k=>k) k (r:=Sum.inl (k+(cL l:Nat),dX l k)) (fun e=>by omega) hk hb ?_ ?_]
  ·rw[cO]
   simp only
   rw[BH (show J (dX l k)=J l from Eb l k),aj]
  ·intro i e ys k' he hy hi h0 hM
   have NI:db ys i=some e:=hi
   simp only
   rw[aT (gk hi),lk hi (by omega)]
   simp only[G6 hi,aj,lx,NI,Ea,bK]
   have e1:aW .i64 k' 1=k'+1:=j3 (by omega) (by omega)
   simp only[e1]
   rfl
  ·simp only
   rw[aS (eN (by have:=Eb l k;have h2:=nl (dX l k);unfold dX at this h2;omega))]
   rfl
 ·cases h
theorem aek (x:(List Int)×Int) (y:Int) (h:tf x=some y):K6 aD x=some y:=by
 obtain⟨l,k⟩:=x
 simp only[tf] at h
 split at h
 ·rename_i hc
  obtain⟨hk,hb⟩:=hc
  rw[E6] at hb
  rw[<-h]
  simp only[K6]
  rw[afx l (fun _=>1) (fun _=>0) (fun _ k=>k) k (fun e=>by omega) hk hb ?_ ?_]
  ·unfold dX cL
   by_cases hq:l=fA (fun _=>1) (fun _ k=>k) l k
   ·rw[if_pos hq,if_pos hq,cO]
   ·rw[if_neg hq,if_neg hq,DS]
  ·intro i e k' he h0 hM
   simp only
   rw[aT (gk he),eD,he,aj]
   have e1:aW .i64 k' 1=k'+1:=j3 (by omega) (by omega)
   rw[e1,lk he (by omega)]
   by_cases hq:e=k'
   ·rw[aS (lf hq),if_pos hq];rfl
   ·rw[aT (nL hq),if_neg hq]
  ·intro k'
   simp only
   rw[aS (mR l)]
 ·cases h
theorem Vp (x:Int×Int×(List Int)):xy x<=4*(1+jt x):=by
 obtain⟨a0,a1,a2⟩:=x
 have h0:=tr a2
 simp only[xy,jt]
 omega
theorem abI (l:List (Int×Int×(List Int))):ie l=l.length+(l.map jt).sum:=by
 rfl
theorem LK (l:List (Int×Int×(List Int))):io l<=4*ie l:=by
 rw[abI];exact Hd xy jt Vp l
theorem PL (l:List (Int×Int×(List Int))) (k:Int):(rf l k).length=l.length:=Ee _ _ _ _
theorem aen (x:(List (Int×Int×(List Int)))×Int) (y:Int×(List (Int×Int×(List Int)))) (h:zo x=some y):K9 aD x=some y:=by
 obtain⟨l,k⟩:=x
 simp only[zo] at h
 split at h
 ·rename_i hc
  obtain⟨hk,hb⟩:=hc
  rw[abI] at hb
  rw[<-h]
  simp only[K9,bK,aj]
  rw[Zv l xy jt Zz k (r:=Sum.inl (k+(io l:Nat),rf l k)) Vp hk hb ?_ ?_]
  ·rw[cO]
   simp only
   rw[BH (show J (rf l k)=J l from PL l k),aj]
  ·rintro i ⟨a0,a1,a2⟩ ys k' he hy hi h0 hM
   have NI:db ys i=some (a0,a1,a2):=hi
   simp only
   rw[aT (gk hi),lk hi (by omega)]
   simp only[G6 hi,aj,lx,NI,Ea,bK]
   have acC:=tr a2
   simp only[jt] at hM
   have E0:aW .i64 (k') 1=k'+1:=j3 (by omega) (by omega)
   have E1:aW .i64 (k'+1) 1=k'+1+1:=j3 (by omega) (by omega)
   have E2:o9 (a2,k'+1+1)=some (k'+1+1+(cL a2:Nat),dX a2 (k'+1+1)):=if_pos ⟨by omega,by omega⟩
   simp only[E0,E1,E2,aj,afh hi,anu,Ea,bK]
   refine congrArg some (congrArg Sum.inl (Prod.ext (Prod.ext ?_ rfl) rfl))
   simp only[xy]
   omega
  ·simp only
   rw[aS (eN (by have:=PL l k;have h2:=nl (rf l k);unfold rf at this h2;omega))]
   rfl
 ·cases h
theorem ael (x:(Int×Int×(List Int)×(List (Int×Int×(List Int)))×(List Int))×Int) (y:Int×(List Int)×(List (Int×Int×(List Int)))×(List Int)) (h:uU x=some y):K7 aD x=some y:=by
 obtain⟨⟨a0,a1,a2,a3,a4⟩,k⟩:=x
 simp only[uU] at h
 split at h
 ·rename_i hc
  obtain⟨hk,hb⟩:=hc
  simp only[ff] at hb
  have acC:=tr a2
  have aoD:=LK a3
  have aoE:=tr a4
  rw[<-h]
  have e0:o9 (a2,k)=some (k+(cL a2:Nat),dX a2 (k)):=if_pos ⟨by omega,by omega⟩
  have e1:zo (a3,k+(cL a2:Nat))=some (k+(cL a2:Nat)+(io a3:Nat),rf a3 (k+(cL a2:Nat))):=if_pos ⟨by omega,by omega⟩
  have e2:o9 (a4,k+(cL a2:Nat)+(io a3:Nat))=some (k+(cL a2:Nat)+(io a3:Nat)+(cL a4:Nat),dX a4 (k+(cL a2:Nat)+(io a3:Nat))):=if_pos ⟨by omega,by omega⟩
  simp only[K7,bK,aj,e0,e1,e2,BH (show J (dX a2 (k))=J a2 from Eb a2 (k)),BH (show J (rf a3 (k+(cL a2:Nat)))=J a3 from PL a3 (k+(cL a2:Nat))),BH (show J (dX a4 (k+(cL a2:Nat)+(io a3:Nat)))=J a4 from Eb a4 (k+(cL a2:Nat)+(io a3:Nat)))]
 ·cases h
theorem afu (x:List Int) (k:Int) (h:0<=k/\k+4*(dj x:Nat)<=1099511627776):tf (dX x k,k)=some (k+(cL x:Nat)):=by
 have:=show tf (dX x k,k)=if 0<=k/\k+4*(dj (dX x k):Nat)<=1099511627776 then some (if dX x k=dX (dX x k) k then k+(cL (dX x k):Nat) else -1) else none from rfl
 rw[this,anI,if_pos h,ajF,acR,if_pos rfl]
end Go.Am
