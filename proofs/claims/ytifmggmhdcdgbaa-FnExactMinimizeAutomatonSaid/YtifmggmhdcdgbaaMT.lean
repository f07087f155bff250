/- MT: sizes, copies, comparisons and marks of the laws' types. No condition. -/
import Derived.Test.YtifmggmhdcdgbaaB2
set_option linter.unusedVariables false
set_option linter.unusedSimpArgs false
set_option synthInstance.maxSize 1000
set_option synthInstance.maxHeartbeats 400000
namespace Go.Am
def eo (l:List Int):Nat:=l.length
def wN (l:List Int):Bool:=decide (l.length<=9223372036854775807)
def rN:(List Int)×Int->Option Int:=fun((x,k):(List Int)×Int)=>if vY k/\wN x=true then some (gd (eo x) k) else none
def tf:(List Int)->Option (List Int):=fun(x:List Int)=>if eo x<=1048576 then some x else none
def td:(List Int)×(List Int)->Option Bool:=fun((x,y):(List Int)×(List Int))=>if eo x<=1048576 then some (decide (x=y)) else none
def gR (x:Int×Int×(List Int)):Nat:=match x with|(a0,a1,a2)=>eo a2
def JA (x:Int×Int×(List Int)):Bool:=match x with|(a0,a1,a2)=>wN a2
def y6:(Int×Int×(List Int))×Int->Option Int:=fun((x,k):(Int×Int×(List Int))×Int)=>if vY k/\JA x=true then some (gd (gR x) k) else none
def y8:(Int×Int×(List Int))->Option (Int×Int×(List Int)):=fun(x:Int×Int×(List Int))=>if gR x<=1048576 then some x else none
def yW:(Int×Int×(List Int))×(Int×Int×(List Int))->Option Bool:=fun((x,y):(Int×Int×(List Int))×(Int×Int×(List Int)))=>if gR x<=1048576 then some (decide (x=y)) else none
def gS (l:List (Int×Int×(List Int))):Nat:=l.length+(l.map gR).sum
def BL (l:List (Int×Int×(List Int))):Bool:=decide (l.length<=9223372036854775807)&&l.all JA
def y7:(List (Int×Int×(List Int)))×Int->Option Int:=fun((x,k):(List (Int×Int×(List Int)))×Int)=>if vY k/\BL x=true then some (gd (gS x) k) else none
def y9:(List (Int×Int×(List Int)))->Option (List (Int×Int×(List Int))):=fun(x:List (Int×Int×(List Int)))=>if gS x<=1048576 then some x else none
def yX:(List (Int×Int×(List Int)))×(List (Int×Int×(List Int)))->Option Bool:=fun((x,y):(List (Int×Int×(List Int)))×(List (Int×Int×(List Int))))=>if gS x<=1048576 then some (decide (x=y)) else none
def fR (x:Int×Int×(List Int)×(List (Int×Int×(List Int)))×(List Int)):Nat:=match x with|(a0,a1,a2,a3,a4)=>eo a2+gS a3+eo a4
def Jz (x:Int×Int×(List Int)×(List (Int×Int×(List Int)))×(List Int)):Bool:=match x with|(a0,a1,a2,a3,a4)=>wN a2&&BL a3&&wN a4
def y5:(Int×Int×(List Int)×(List (Int×Int×(List Int)))×(List Int))×Int->Option Int:=fun((x,k):(Int×Int×(List Int)×(List (Int×Int×(List Int)))×(List Int))×Int)=>if vY k/\Jz x=true then some (gd (fR x) k) else none
def rO:(Int×Int×(List Int)×(List (Int×Int×(List Int)))×(List Int))->Option (Int×Int×(List Int)×(List (Int×Int×(List Int)))×(List Int)):=fun(x:Int×Int×(List Int)×(List (Int×Int×(List Int)))×(List Int))=>if fR x<=1048576 then some x else none
def pI:(Int×Int×(List Int)×(List (Int×Int×(List Int)))×(List Int))×(Int×Int×(List Int)×(List (Int×Int×(List Int)))×(List Int))->Option Bool:=fun((x,y):(Int×Int×(List Int)×(List (Int×Int×(List Int)))×(List Int))×(Int×Int×(List Int)×(List (Int×Int×(List Int)))×(List Int)))=>if fR x<=1048576 then some (decide (x=y)) else none
def bP (l:List Int):Nat:=gU (fun _=>1) l
def cQ (l:List Int) (k:Int):List Int:=fO (fun _=>1) (fun _ k=>k) l k
def rM:(List Int)×Int->Option (Int×(List Int)):=fun((x,k):(List Int)×Int)=>if 0<=k/\k+4*(eo x:Nat)<=1099511627776 then some (k+(bP x:Nat),cQ x k) else none
def rL:(List Int)×Int->Option Int:=fun((x,k):(List Int)×Int)=>if 0<=k/\k+4*(eo x:Nat)<=1099511627776 then some (if x=cQ x k then k+(bP x:Nat) else -1) else none
def lD (x:Int×Int×(List Int)):Nat:=match x with|(a0,a1,a2)=>1+1+bP a2
def j9 (x:Int×Int×(List Int)) (k:Int):Int×Int×(List Int):=match x with|(a0,a1,a2)=>(k,k+1,cQ a2 (k+1+1))
def dQ (l:List (Int×Int×(List Int))):Nat:=gU lD l
def fu (l:List (Int×Int×(List Int))) (k:Int):List (Int×Int×(List Int)):=fO lD j9 l k
def yZ:(List (Int×Int×(List Int)))×Int->Option (Int×(List (Int×Int×(List Int)))):=fun((x,k):(List (Int×Int×(List Int)))×Int)=>if 0<=k/\k+4*(gS x:Nat)<=1099511627776 then some (k+(dQ x:Nat),fu x k) else none
def yY:(List (Int×Int×(List Int)))×Int->Option Int:=fun((x,k):(List (Int×Int×(List Int)))×Int)=>if 0<=k/\k+4*(gS x:Nat)<=1099511627776 then some (if x=fu x k then k+(dQ x:Nat) else -1) else none
def H8 (x:Int×Int×(List Int)×(List (Int×Int×(List Int)))×(List Int)) (k:Int):Int×Int×(List Int)×(List (Int×Int×(List Int)))×(List Int):=match x with|(a0,a1,a2,a3,a4)=>(a0,a1,cQ a2 (k),fu a3 (k+(bP a2:Nat)),cQ a4 (k+(bP a2:Nat)+(dQ a3:Nat)))
def uY:(Int×Int×(List Int)×(List (Int×Int×(List Int)))×(List Int))×Int->Option (Int×(List Int)×(List (Int×Int×(List Int)))×(List Int)):=fun(((a0,a1,a2,a3,a4),k):(Int×Int×(List Int)×(List (Int×Int×(List Int)))×(List Int))×Int)=>if 0<=k/\k+4*(fR (a0,a1,a2,a3,a4):Nat)<=1099511627776 then some (k+(bP a2:Nat)+(dQ a3:Nat)+(bP a4:Nat),cQ a2 (k),fu a3 (k+(bP a2:Nat)),cQ a4 (k+(bP a2:Nat)+(dQ a3:Nat))) else none
def te:(Int×Int×(List Int)×(List (Int×Int×(List Int)))×(List Int))×Int->Option Int:=fun(((a0,a1,a2,a3,a4),k):(Int×Int×(List Int)×(List (Int×Int×(List Int)))×(List Int))×Int)=>if 0<=k/\k+4*(fR (a0,a1,a2,a3,a4):Nat)<=1099511627776 then some (if a2=cQ a2 (k)/\a3=fu a3 (k+(bP a2:Nat))/\a4=cQ a4 (k+(bP a2:Nat)+(dQ a3:Nat)) then k+(bP a2:Nat)+(dQ a3:Nat)+(bP a4:Nat) else -1) else none
def FC:ao:=[(.one,[.list [.int .i64]]),(.one,[.int .i64])]
def QC:ao:=[(.one,[.int .i64])]
def agU:aW:=[]
def FG:ao:=[(.one,[.list [.int .i64]])]
def QG:ao:=[(.one,[.list [.int .i64]])]
def agY:aW:=[]
def Fs:ao:=[(.one,[.list [.int .i64]]),(.one,[.list [.int .i64]])]
def Qs:ao:=[(.one,[.bool])]
def agN:aW:=[]
def FD:ao:=[(.agg,[.int .i64,.int .i64,.list [.int .i64]]),(.one,[.int .i64])]
def QD:ao:=[(.one,[.int .i64])]
def agV:aW:=[]
def FH:ao:=[(.agg,[.int .i64,.int .i64,.list [.int .i64]])]
def QH:ao:=[(.agg,[.int .i64,.int .i64,.list [.int .i64]])]
def agZ:aW:=[]
def Ft:ao:=[(.agg,[.int .i64,.int .i64,.list [.int .i64]]),(.agg,[.int .i64,.int .i64,.list [.int .i64]])]
def Qt:ao:=[(.one,[.bool])]
def agO:aW:=[]
def FE:ao:=[(.one,[.list [.int .i64,.int .i64,.list [.int .i64]]]),(.one,[.int .i64])]
def QE:ao:=[(.one,[.int .i64])]
def agW:aW:=[]
def FI:ao:=[(.one,[.list [.int .i64,.int .i64,.list [.int .i64]]])]
def QI:ao:=[(.one,[.list [.int .i64,.int .i64,.list [.int .i64]]])]
def ag0:aW:=[]
def Fu:ao:=[(.one,[.list [.int .i64,.int .i64,.list [.int .i64]]]),(.one,[.list [.int .i64,.int .i64,.list [.int .i64]]])]
def Qu:ao:=[(.one,[.bool])]
def agP:aW:=[]
def FB:ao:=[(.agg,[.int .i64,.int .i64,.list [.int .i64],.list [.int .i64,.int .i64,.list [.int .i64]],.list [.int .i64]]),(.one,[.int .i64])]
def QB:ao:=[(.one,[.int .i64])]
def agT:aW:=[]
def FF:ao:=[(.agg,[.int .i64,.int .i64,.list [.int .i64],.list [.int .i64,.int .i64,.list [.int .i64]],.list [.int .i64]])]
def QF:ao:=[(.agg,[.int .i64,.int .i64,.list [.int .i64],.list [.int .i64,.int .i64,.list [.int .i64]],.list [.int .i64]])]
def agX:aW:=[]
def Fq:ao:=[(.agg,[.int .i64,.int .i64,.list [.int .i64],.list [.int .i64,.int .i64,.list [.int .i64]],.list [.int .i64]]),(.agg,[.int .i64,.int .i64,.list [.int .i64],.list [.int .i64,.int .i64,.list [.int .i64]],.list [.int .i64]])]
def Qr:ao:=[(.one,[.bool])]
def agM:aW:=[]
def Fz:ao:=[(.one,[.list [.int .i64]]),(.one,[.int .i64])]
def Qz:ao:=[(.one,[.int .i64]),(.one,[.list [.int .i64]])]
def Ig:aW:=[[some .aa]]
def FA:ao:=[(.one,[.list [.int .i64,.int .i64,.list [.int .i64]]]),(.one,[.int .i64])]
def QA:ao:=[(.one,[.int .i64]),(.one,[.list [.int .i64,.int .i64,.list [.int .i64]]])]
def Ih:aW:=[[some .live]]
def Fy:ao:=[(.agg,[.int .i64,.int .i64,.list [.int .i64],.list [.int .i64,.int .i64,.list [.int .i64]],.list [.int .i64]]),(.one,[.int .i64])]
def Qy:ao:=[(.one,[.int .i64]),(.one,[.list [.int .i64]]),(.one,[.list [.int .i64,.int .i64,.list [.int .i64]]]),(.one,[.list [.int .i64]])]
def Ie:aW:=[[none,none,some .aa,some .live,some .aa]]
def Fw:ao:=[(.one,[.list [.int .i64]]),(.one,[.int .i64])]
def Qw:ao:=[(.one,[.int .i64])]
def agR:aW:=[]
def Fx:ao:=[(.one,[.list [.int .i64,.int .i64,.list [.int .i64]]]),(.one,[.int .i64])]
def Qx:ao:=[(.one,[.int .i64])]
def agS:aW:=[]
def Fv:ao:=[(.agg,[.int .i64,.int .i64,.list [.int .i64],.list [.int .i64,.int .i64,.list [.int .i64]],.list [.int .i64]]),(.one,[.int .i64])]
def Qv:ao:=[(.one,[.int .i64])]
def agQ:aW:=[]
def J0 (NN:Nat):((List Int)×Int)->(Option Int):=
 (fun((l0,i1):((List Int)×Int))=>
 aw (bc (mf .i64 i1 (aL (J l0))) (0:Int))
 (some ((-1:Int)))
 (some (mf .i64 i1 (aL (J l0)))))
def J3 (NN:Nat):(List Int)->(Option (List Int)):=
 (fun(l0:(List Int))=>
 (ov (aL (J l0)) (aL (J l0)) 8).U (fun k1=>
 bK ((ae 0 k1 (J (cR k1 (0:Int)))).U (fun _=>
 bf NN (fun(((l2,i3),l4):(((List Int)×Int)×(List Int)))=>
 aw (bc i3 (aL (J l2)))
 ((dz l2 i3).U (fun i5=>
 (dT i3 (J l4)).U (fun k6=>
 (dg l4 (aE 0 k6)).U (fun i7=>
 (ae 0 (J l4) (J (bI l4 (aE 0 k6) i5))).U (fun _=>
 some (Sum.inl ((l2,aM .i64 i3 1),bI l4 (aE 0 k6) i5)))))))
 (((ae 0 (J l4) (J l4)).U (fun _=>
 some (Sum.inl l4))).U (fun l8=>
 some (Sum.inr l8))))
 ((l0,(0:Int)),cR k1 (0:Int))))
 (fun l9=>
 (ci l9 (J l9)).U (fun fA=>
 some fA))))
def TI (NN:Nat):((List Int)×(List Int))->(Option Bool):=
 (fun((l0,l1):((List Int)×(List Int)))=>
 aw (dB (aL (J l0)) (aL (J l1)))
 (some false)
 (bK (bf NN (fun((l2,l3,i4):((List Int)×((List Int)×Int)))=>
 aw (bc i4 (aL (J l2)))
 ((dz l2 i4).U (fun i5=>
 (dz l3 i4).U (fun i6=>
 aw (dB i5 i6)
 (some (Sum.inr (Sum.inr false)))
 (some (Sum.inl (l2,l3,aM .i64 i4 1))))))
 (some (Sum.inr (Sum.inl ()))))
 (l0,l1,(0:Int)))
 (fun _=>
 some true)))
def J1 (NN:Nat):((Int×(Int×(List Int)))×Int)->(Option Int):=
 (fun(((i0,i1,l2),i3):((Int×(Int×(List Int)))×Int))=>
 (rN (l2,i3)).U (fun i4=>
 aw (bc i4 (0:Int))
 (some ((-1:Int)))
 (some i4)))
def J4 (NN:Nat):(Int×(Int×(List Int)))->(Option (Int×(Int×(List Int)))):=
 (fun((i0,i1,l2):(Int×(Int×(List Int))))=>
 (tf l2).U (fun l3=>
 (ci l3 (J l3)).U (fun l4=>
 some (i0,i1,l4))))
def JS (NN:Nat):((Int×(Int×(List Int)))×(Int×(Int×(List Int))))->(Option Bool):=
 (fun(((i0,i1,l2),i3,i4,l5):((Int×(Int×(List Int)))×(Int×(Int×(List Int)))))=>
 aw (dB i0 i3)
 (some false)
 (aw (dB i1 i4)
 (some false)
 ((td (l2,l5)).U (fun b6=>
 aw (eC b6)
 (some false)
 (some true)))))
def TK (NN:Nat):((List (Int×(Int×(List Int))))×Int)->(Option Int):=
 (fun((l0,i1):((List (Int×(Int×(List Int))))×Int))=>
 aw (bc (mf .i64 i1 (aL (J l0))) (0:Int))
 (some ((-1:Int)))
 (bK (bf NN (fun((l2,i3,i4):((List (Int×(Int×(List Int))))×(Int×Int)))=>
 aw (bc i4 (aL (J l2)))
 ((dz l2 i4).U (fun(i5,i6,l7)=>
 (y6 ((i5,i6,l7),i3)).U (fun i8=>
 aw (bc i8 (0:Int))
 (some (Sum.inr (Sum.inr ((-1:Int)))))
 (some (Sum.inl (l2,i8,aM .i64 i4 1))))))
 (some (Sum.inr (Sum.inl i3))))
 (l0,mf .i64 i1 (aL (J l0)),(0:Int)))
 (fun i9=>
 some i9)))
def J5 (NN:Nat):(List (Int×(Int×(List Int))))->(Option (List (Int×(Int×(List Int))))):=
 (fun(l0:(List (Int×(Int×(List Int)))))=>
 (ov (aL (J l0)) (aL (J l0)) 40).U (fun k1=>
 bK ((ae 0 k1 (J (cR k1 ((0:Int),(0:Int),([]:List Int))))).U (fun _=>
 bf NN (fun(((l2,i3),l4):(((List (Int×(Int×(List Int))))×Int)×(List (Int×(Int×(List Int))))))=>
 aw (bc i3 (aL (J l2)))
 ((dz l2 i3).U (fun(i5,i6,l7)=>
 (y8 (i5,i6,l7)).U (fun(i8,i9,fA)=>
 (dT i3 (J l4)).U (fun Dh=>
 (dg l4 (aE 0 Dh)).U (fun(cq,cO,c8)=>
 (ci fA (J fA)).U (fun bJ=>
 (ae 0 (J l4) (J (bI l4 (aE 0 Dh) (i8,i9,bJ)))).U (fun _=>
 some (Sum.inl ((l2,aM .i64 i3 1),bI l4 (aE 0 Dh) (i8,i9,bJ))))))))))
 (((ae 0 (J l4) (J l4)).U (fun _=>
 some (Sum.inl l4))).U (fun cg=>
 some (Sum.inr cg))))
 ((l0,(0:Int)),cR k1 ((0:Int),(0:Int),([]:List Int)))))
 (fun bB=>
 (ci bB (J bB)).U (fun c9=>
 some c9))))
def TJ (NN:Nat):((List (Int×(Int×(List Int))))×(List (Int×(Int×(List Int)))))->(Option Bool):=
 (fun((l0,l1):((List (Int×(Int×(List Int))))×(List (Int×(Int×(List Int))))))=>
 aw (dB (aL (J l0)) (aL (J l1)))
 (some false)
 (bK (bf NN (fun((l2,l3,i4):((List (Int×(Int×(List Int))))×((List (Int×(Int×(List Int))))×Int)))=>
 aw (bc i4 (aL (J l2)))
 ((dz l2 i4).U (fun(i5,i6,l7)=>
 (dz l3 i4).U (fun(i8,i9,fA)=>
 (yW ((i5,i6,l7),i8,i9,fA)).U (fun Ks=>
 aw (eC Ks)
 (some (Sum.inr (Sum.inr false)))
 (some (Sum.inl (l2,l3,aM .i64 i4 1)))))))
 (some (Sum.inr (Sum.inl ()))))
 (l0,l1,(0:Int)))
 (fun _=>
 some true)))
def JZ (NN:Nat):((Int×(Int×((List Int)×((List (Int×(Int×(List Int))))×(List Int)))))×Int)->(Option Int):=
 (fun(((i0,i1,l2,l3,l4),i5):((Int×(Int×((List Int)×((List (Int×(Int×(List Int))))×(List Int)))))×Int))=>
 (rN (l2,i5)).U (fun i6=>
 aw (bc i6 (0:Int))
 (some ((-1:Int)))
 ((y7 (l3,i6)).U (fun i7=>
 aw (bc i7 (0:Int))
 (some ((-1:Int)))
 ((rN (l4,i7)).U (fun i8=>
 aw (bc i8 (0:Int))
 (some ((-1:Int)))
 (some i8)))))))
def J2 (NN:Nat):(Int×(Int×((List Int)×((List (Int×(Int×(List Int))))×(List Int)))))->(Option (Int×(Int×((List Int)×((List (Int×(Int×(List Int))))×(List Int)))))):=
 (fun((i0,i1,l2,l3,l4):(Int×(Int×((List Int)×((List (Int×(Int×(List Int))))×(List Int))))))=>
 (tf l2).U (fun l5=>
 (y9 l3).U (fun l6=>
 (tf l4).U (fun l7=>
 (ci l5 (J l5)).U (fun l8=>
 (ci l6 (J l6)).U (fun l9=>
 (ci l7 (J l7)).U (fun fA=>
 some (i0,i1,l8,l9,fA))))))))
def JR (NN:Nat):((Int×(Int×((List Int)×((List (Int×(Int×(List Int))))×(List Int)))))×(Int×(Int×((List Int)×((List (Int×(Int×(List Int))))×(List Int))))))->(Option Bool):=
 (fun(((i0,i1,l2,l3,l4),i5,i6,l7,l8,l9):((Int×(Int×((List Int)×((List (Int×(Int×(List Int))))×(List Int)))))×(Int×(Int×((List Int)×((List (Int×(Int×(List Int))))×(List Int)))))))=>
 aw (dB i0 i5)
 (some false)
 (aw (dB i1 i6)
 (some false)
 ((td (l2,l7)).U (fun rV=>
 aw (eC rV)
 (some false)
 ((yX (l3,l8)).U (fun Ks=>
 aw (eC Ks)
 (some false)
 ((td (l4,l9)).U (fun Kt=>
 aw (eC Kt)
 (some false)
 (some true)))))))))
def JX (NN:Nat):((List Int)×Int)->(Option (Int×(List Int))):=
 (fun((l0,i1):((List Int)×Int))=>
 bK ((ae 0 (J l0) (J l0)).U (fun _=>
 bf NN (fun(((i2,i3),l4):((Int×Int)×(List Int)))=>
 aw (bc i3 (aL (J l4)))
 ((dT i3 (J l4)).U (fun k5=>
 (dg l4 (aE 0 k5)).U (fun i6=>
 (ae 0 (J l4) (J (bI l4 (aE 0 k5) i2))).U (fun _=>
 some (Sum.inl ((aM .i64 i2 1,aM .i64 i3 1),bI l4 (aE 0 k5) i2))))))
 (some (Sum.inr (Sum.inl (i2,l4)))))
 ((i1,(0:Int)),l0)))
 (fun(i7,l8)=>
 (oD (J l8) (J l0)).U (fun _=>
 some (i7,l8))))
def JY (NN:Nat):((List (Int×(Int×(List Int))))×Int)->(Option (Int×(List (Int×(Int×(List Int)))))):=
 (fun((l0,i1):((List (Int×(Int×(List Int))))×Int))=>
 bK ((ae 0 (J l0) (J l0)).U (fun _=>
 bf NN (fun(((i2,i3),l4):((Int×Int)×(List (Int×(Int×(List Int))))))=>
 aw (bc i3 (aL (J l4)))
 ((dT i3 (J l4)).U (fun k5=>
 (dg l4 (aE 0 k5)).U (fun(i6,i7,l8)=>
 (dT i3 (J l4)).U (fun k9=>
 (dg (bI l4 (aE 0 k5) (i2,i7,l8)) (aE 0 k9)).U (fun(bS,bZ,dM)=>
 (dT i3 (J l4)).U (fun ye=>
 (dg (bI (bI l4 (aE 0 k5) (i2,i7,l8)) (aE 0 k9) (bS,aM .i64 i2 1,dM)) (aE 0 ye)).U (fun(db,fV,cg)=>
 (dg (bI (bI l4 (aE 0 k5) (i2,i7,l8)) (aE 0 k9) (bS,aM .i64 i2 1,dM)) (aE 0 ye)).U (fun(jg,dX,eR)=>
 (rM (eR,aM .i64 (aM .i64 i2 1) (1:Int))).U (fun(eG,ib)=>
 (dg (bI (bI l4 (aE 0 k5) (i2,i7,l8)) (aE 0 k9) (bS,aM .i64 i2 1,dM)) (aE 0 ye)).U (fun(fW,ef,fM)=>
 (ae 0 (J l4) (J (bI (bI (bI l4 (aE 0 k5) (i2,i7,l8)) (aE 0 k9) (bS,aM .i64 i2 1,dM)) (aE 0 ye) (fW,ef,ib)))).U (fun _=>
 some (Sum.inl ((eG,aM .i64 i3 1),bI (bI (bI l4 (aE 0 k5) (i2,i7,l8)) (aE 0 k9) (bS,aM .i64 i2 1,dM)) (aE 0 ye) (fW,ef,ib))))))))))))))
 (some (Sum.inr (Sum.inl (i2,l4)))))
 ((i1,(0:Int)),l0)))
 (fun(jC,cb)=>
 (oD (J cb) (J l0)).U (fun _=>
 some (jC,cb))))
def JW (NN:Nat):((Int×(Int×((List Int)×((List (Int×(Int×(List Int))))×(List Int)))))×Int)->(Option (Int×((List Int)×((List (Int×(Int×(List Int))))×(List Int))))):=
 (fun(((i0,i1,l2,l3,l4),i5):((Int×(Int×((List Int)×((List (Int×(Int×(List Int))))×(List Int)))))×Int))=>
 (ae 0 (J l2) (J l2)).U (fun _=>
 (rM (l2,i5)).U (fun(i6,l7)=>
 (ae 0 (J l3) (J l3)).U (fun _=>
 (yZ (l3,i6)).U (fun(i8,l9)=>
 (ae 0 (J l4) (J l4)).U (fun _=>
 (rM (l4,i8)).U (fun(bS,lW)=>
 (oD (J l7) (J l2)).U (fun _=>
 (oD (J l9) (J l3)).U (fun _=>
 (oD (J lW) (J l4)).U (fun _=>
 some (bS,l7,l9,lW)))))))))))
def JU (NN:Nat):((List Int)×Int)->(Option Int):=
 (fun((l0,i1):((List Int)×Int))=>
 bK (bf NN (fun((l2,i3,i4):((List Int)×(Int×Int)))=>
 aw (bc i4 (aL (J l2)))
 ((dz l2 i4).U (fun i5=>
 aw (dB i5 i3)
 (some (Sum.inr (Sum.inr ((-1:Int)))))
 (some (Sum.inl (l2,aM .i64 i3 1,aM .i64 i4 1)))))
 (some (Sum.inr (Sum.inl i3))))
 (l0,i1,(0:Int)))
 (fun i6=>
 some i6))
def JV (NN:Nat):((List (Int×(Int×(List Int))))×Int)->(Option Int):=
 (fun((l0,i1):((List (Int×(Int×(List Int))))×Int))=>
 bK (bf NN (fun((l2,i3,i4):((List (Int×(Int×(List Int))))×(Int×Int)))=>
 aw (bc i4 (aL (J l2)))
 ((dz l2 i4).U (fun(i5,i6,l7)=>
 aw (dB i5 i3)
 (some (Sum.inr (Sum.inr ((-1:Int)))))
 ((dz l2 i4).U (fun(i8,i9,fA)=>
 aw (dB i9 (aM .i64 i3 1))
 (some (Sum.inr (Sum.inr ((-1:Int)))))
 ((dz l2 i4).U (fun(bZ,cq,iA)=>
 (rL (iA,aM .i64 (aM .i64 i3 1) (1:Int))).U (fun db=>
 aw (bc db (0:Int))
 (some (Sum.inr (Sum.inr ((-1:Int)))))
 (some (Sum.inl (l2,db,aM .i64 i4 1))))))))))
 (some (Sum.inr (Sum.inl i3))))
 (l0,i1,(0:Int)))
 (fun fV=>
 some fV))
def JT (NN:Nat):((Int×(Int×((List Int)×((List (Int×(Int×(List Int))))×(List Int)))))×Int)->(Option Int):=
 (fun(((i0,i1,l2,l3,l4),i5):((Int×(Int×((List Int)×((List (Int×(Int×(List Int))))×(List Int)))))×Int))=>
 (rL (l2,i5)).U (fun i6=>
 aw (bc i6 (0:Int))
 (some ((-1:Int)))
 ((yY (l3,i6)).U (fun i7=>
 aw (bc i7 (0:Int))
 (some ((-1:Int)))
 ((rL (l4,i7)).U (fun i8=>
 aw (bc i8 (0:Int))
 (some ((-1:Int)))
 (some i8)))))))
theorem acJ (x:(List Int)×Int) (y:Int) (h:rN x=some y):J0 aA x=some y:=by
 obtain⟨l,k⟩:=x
 simp only[rN] at h
 split at h
 ·rename_i hc
  obtain⟨⟨k0,k1⟩,hw⟩:=hc
  have hw:=of_decide_eq_true hw
  rw[<-h]
  have hn:=nl l
  simp only[J0]
  rw[rD (by omega) (by omega)]
  show _=some (gd l.length k)
  by_cases hs:(l.length:Int)<=k
  ·rw[S8 hs,aS (fh (by omega))];rfl
  ·rw[Ej hs,aT (gC (by omega))]
 ·cases h
theorem acN (x y:List Int) (h:tf x=some y):J3 aA x=some y:=by
 simp only[tf] at h
 split at h
 ·rename_i hl
  injection h with h
  subst h
  have hl:x.length<=1048576:=hl
  simp only[J3,Om (n:=J x) (by_:=8) (by simp only[J,eZ];omega),au,Xv,bq]
  rw[Vh x 0 (r:=Sum.inl x) ?_ ?_ (by omega)]
  ·simp only[cK,gu,au]
  ·intro i e ys he hy hi
   simp only
   rw[aT (iR he),fF,he,au]
   simp only[Gq hi,au,jT,dg,hi,Ds,bq,mR he (by omega)]
   rfl
  ·simp only
   rw[aS (ot x)]
 ·cases h
theorem acz (x:(List Int)×(List Int)) (y:Bool) (h:td x=some y):TI aA x=some y:=by
 obtain⟨a,b⟩:=x
 simp only[td] at h
 split at h
 ·rename_i hl
  rw[<-h]
  have hl:a.length<=1048576:=hl
  exact abz a b (by omega)
 ·cases h
theorem acK (x:(Int×Int×(List Int))×Int) (y:Int) (h:y6 x=some y):J1 aA x=some y:=by
 obtain⟨⟨a0,a1,a2⟩,k⟩:=x
 simp only[y6] at h
 split at h
 ·rename_i hc
  obtain⟨⟨k0,k1⟩,hw⟩:=hc
  simp only[JA] at hw
  rw[<-h]
  simp only[J1]
  rw[Jk (o:=rN (a2,k)) (s:=eo a2) (if_pos ⟨by constructor<;>omega,hw⟩)]
  by_cases c0:((eo a2:Nat):Int)<=k
  ·rw[if_pos c0]
   show _=some (gd (eo a2) k)
   rw[S8 (by omega)]
  ·rw[if_neg c0]
   show _=some (gd (eo a2) k)
   rw[Ej (by omega)]
 ·cases h
theorem acO (x y:Int×Int×(List Int)) (h:y8 x=some y):J4 aA x=some y:=by
 obtain⟨a0,a1,a2⟩:=x
 simp only[y8] at h
 split at h
 ·rename_i hl
  rw[<-h]
  simp only[gR] at hl
  simp only[J4,tf,if_pos (show eo a2<=1048576 by omega),au,gu]
 ·cases h
theorem acA (x:(Int×Int×(List Int))×(Int×Int×(List Int))) (y:Bool) (h:yW x=some y):JS aA x=some y:=by
 obtain⟨⟨a0,a1,a2⟩,b0,b1,b2⟩:=x
 simp only[yW] at h
 split at h
 ·rename_i hl
  rw[<-h]
  simp only[gR] at hl
  simp only[JS,td,if_pos (show eo a2<=1048576 by omega),au]
  by_cases e0:a0=b0<;>by_cases e1:a1=b1<;>by_cases e2:a2=b2<;>simp[X4,eC,aw, *]
 ·cases h
theorem acL (x:(List (Int×Int×(List Int)))×Int) (y:Int) (h:y7 x=some y):TK aA x=some y:=by
 obtain⟨l,k⟩:=x
 simp only[y7] at h
 split at h
 ·rename_i hc
  obtain⟨hk,hw⟩:=hc
  unfold BL at hw
  rw[Bool.and_eq_true,decide_eq_true_eq,List.all_eq_true] at hw
  rw[<-h]
  exact akT y6 gR l hw.1 (fun e he k hk=>if_pos ⟨hk,hw.2 e he⟩) k hk
 ·cases h
theorem S9 {l:List (Int×Int×(List Int))} (h:gS l<=1048576):l.length<=1048576/\∀e∈l,gR e<=1048576:=by
 unfold gS at h
 refine⟨by omega,fun e he=>?_⟩
 have:=Xt (List.mem_map_of_mem (f:=gR) he)
 omega
theorem acP (x y:List (Int×Int×(List Int))) (h:y9 x=some y):J5 aA x=some y:=by
 simp only[y9] at h
 split at h
 ·rename_i hl
  injection h with h
  subst h
  obtain⟨hl,hm⟩:=S9 hl
  simp only[J5,Om (n:=J x) (by_:=40) (by simp only[J,eZ];omega),au,Xv,bq]
  rw[Vh x (0,0,[]) (r:=Sum.inl x) ?_ ?_ (by omega)]
  ·simp only[cK,gu,au]
  ·rintro i ⟨a0,a1,a2⟩ ys he hy hi
   simp only
   rw[aT (iR he),fF,he,au]
   simp only[y8,if_pos (hm _ (List.mem_of_getElem? he)),Gq hi,au,jT,dg,hi,gu,Ds,bq,mR he (by omega)]
   rfl
  ·simp only
   rw[aS (ot x)]
 ·cases h
theorem acB (x:(List (Int×Int×(List Int)))×(List (Int×Int×(List Int)))) (y:Bool) (h:yX x=some y):TJ aA x=some y:=by
 obtain⟨a,b⟩:=x
 simp only[yX] at h
 split at h
 ·rename_i hl
  rw[<-h]
  obtain⟨hl,hm⟩:=S9 hl
  exact UR yW a b (fun e he b=>show(if gR e<=1048576 then some (decide (e=b)) else none)=_ from if_pos (hm e he)) (by omega)
 ·cases h
theorem acI (x:(Int×Int×(List Int)×(List (Int×Int×(List Int)))×(List Int))×Int) (y:Int) (h:y5 x=some y):JZ aA x=some y:=by
 obtain⟨⟨a0,a1,a2,a3,a4⟩,k⟩:=x
 simp only[y5] at h
 split at h
 ·rename_i hc
  obtain⟨⟨k0,k1⟩,hw⟩:=hc
  simp only[Jz,Bool.and_eq_true] at hw
  rw[<-h]
  simp only[JZ]
  rw[Jk (o:=rN (a2,k)) (s:=eo a2) (if_pos ⟨by constructor<;>omega,hw.1.1⟩)]
  by_cases c0:((eo a2:Nat):Int)<=k
  ·rw[if_pos c0]
   rw[Jk (o:=y7 (a3,k - eo a2)) (s:=gS a3) (if_pos ⟨by constructor<;>omega,hw.1.2⟩)]
   by_cases c1:((gS a3:Nat):Int)<=k - eo a2
   ·rw[if_pos c1]
    rw[Jk (o:=rN (a4,k - eo a2 - gS a3)) (s:=eo a4) (if_pos ⟨by constructor<;>omega,hw.2⟩)]
    by_cases c2:((eo a4:Nat):Int)<=k - eo a2 - gS a3
    ·rw[if_pos c2]
     show _=some (gd (eo a2+gS a3+eo a4) k)
     rw[S8 (by omega)]
     exact congrArg some (by omega)
    ·rw[if_neg c2]
     show _=some (gd (eo a2+gS a3+eo a4) k)
     rw[Ej (by omega)]
   ·rw[if_neg c1]
    show _=some (gd (eo a2+gS a3+eo a4) k)
    rw[Ej (by omega)]
  ·rw[if_neg c0]
   show _=some (gd (eo a2+gS a3+eo a4) k)
   rw[Ej (by omega)]
 ·cases h
theorem acM (x y:Int×Int×(List Int)×(List (Int×Int×(List Int)))×(List Int)) (h:rO x=some y):J2 aA x=some y:=by
 obtain⟨a0,a1,a2,a3,a4⟩:=x
 simp only[rO] at h
 split at h
 ·rename_i hl
  rw[<-h]
  simp only[fR] at hl
  simp only[J2,tf,y9,if_pos (show eo a2<=1048576 by omega),if_pos (show gS a3<=1048576 by omega),if_pos (show eo a4<=1048576 by omega),au,gu]
 ·cases h
theorem acy (x:(Int×Int×(List Int)×(List (Int×Int×(List Int)))×(List Int))×(Int×Int×(List Int)×(List (Int×Int×(List Int)))×(List Int))) (y:Bool) (h:pI x=some y):JR aA x=some y:=by
 obtain⟨⟨a0,a1,a2,a3,a4⟩,b0,b1,b2,b3,b4⟩:=x
 simp only[pI] at h
 split at h
 ·rename_i hl
  rw[<-h]
  simp only[fR] at hl
  simp only[JR,td,yX,if_pos (show eo a2<=1048576 by omega),if_pos (show gS a3<=1048576 by omega),if_pos (show eo a4<=1048576 by omega),au]
  by_cases e0:a0=b0<;>by_cases e1:a1=b1<;>by_cases e2:a2=b2<;>by_cases e3:a3=b3<;>by_cases e4:a4=b4<;>simp[X4,eC,aw, *]
 ·cases h
theorem US (x:Int×Int×(List Int)×(List (Int×Int×(List Int)))×(List Int)) (h:fR x<=1048576):pI (x,x)=some true:=by
 have:=show pI (x,x)=if fR x<=1048576 then some (decide (x=x)) else none from rfl
 rw[this,if_pos h,decide_eq_true rfl]
theorem ak4 (x:Int×Int×(List Int)×(List (Int×Int×(List Int)))×(List Int)) (h:fR x<=1048576):rO x=some x:=if_pos h
theorem Ek (l:List Int):eo l=l.length+(l.map (fun _=>0)).sum:=by
 simp[eo,ZO]
theorem qP (l:List Int):bP l<=4*eo l:=by
 rw[Ek];exact Gw (fun _=>1) (fun _=>0) (fun e=>by omega) l
theorem Zm (l:List Int) (k:Int):eo (cQ l k)=eo l:=by
 rw[Ek,Ek,cQ,AG,Eg (fun _=>1) (fun _ k=>k) (fun _=>0) (fun _ _=>rfl)]
theorem KW (l:List Int) (k:Int):bP (cQ l k)=bP l:=Eg (fun _=>1) (fun _ k=>k) (fun _=>1) (fun _ _=>rfl) l k
theorem XS (l:List Int) (k:Int):cQ (cQ l k) k=cQ l k:=On (fun _=>1) (fun _ k=>k) (fun _ _=>rfl) (fun _ _=>rfl) l k
theorem AB (l:List Int) (k:Int):(cQ l k).length=l.length:=AG _ _ _ _
theorem acG (x:(List Int)×Int) (y:Int×(List Int)) (h:rM x=some y):JX aA x=some y:=by
 obtain⟨l,k⟩:=x
 simp only[rM] at h
 split at h
 ·rename_i hc
  obtain⟨hk,hb⟩:=hc
  rw[Ek] at hb
  rw[<-h]
  simp only[JX,bq,au]
  rw[XM l (fun _=>1) (fun _=>0) (fun _ k=>k) k (r:=Sum.inl (k+(bP l:Nat),cQ l k)) (fun e=>by omega) hk hb ?_ ?_]
  ·rw[cK]
   simp only
   rw[Bf (show J (cQ l k)=J l from AB l k),au]
  ·intro i e ys k' he hy hi h0 hM
   have MB:dg ys i=some e:=hi
   simp only
   rw[aT (iR hi),mR hi (by omega)]
   simp only[Gq hi,au,jT,MB,Ds,bq]
   have e1:aM .i64 k' 1=k'+1:=jS (by omega) (by omega)
   simp only[e1]
   rfl
  ·simp only
   rw[aS (fh (by have:=AB l k;have h2:=nl (cQ l k);unfold cQ at this h2;omega))]
   rfl
 ·cases h
theorem acD (x:(List Int)×Int) (y:Int) (h:rL x=some y):JU aA x=some y:=by
 obtain⟨l,k⟩:=x
 simp only[rL] at h
 split at h
 ·rename_i hc
  obtain⟨hk,hb⟩:=hc
  rw[Ek] at hb
  rw[<-h]
  simp only[JU]
  rw[VY l (fun _=>1) (fun _=>0) (fun _ k=>k) k (fun e=>by omega) hk hb ?_ ?_]
  ·unfold cQ bP
   by_cases hq:l=fO (fun _=>1) (fun _ k=>k) l k
   ·rw[if_pos hq,if_pos hq,cK]
   ·rw[if_neg hq,if_neg hq,HT]
  ·intro i e k' he h0 hM
   simp only
   rw[aT (iR he),fF,he,au]
   have e1:aM .i64 k' 1=k'+1:=jS (by omega) (by omega)
   rw[e1,mR he (by omega)]
   by_cases hq:e=k'
   ·rw[aS (kC hq),if_pos hq];rfl
   ·rw[aT (mQ hq),if_neg hq]
  ·intro k'
   simp only
   rw[aS (ot l)]
 ·cases h
theorem KD (x:Int×Int×(List Int)):lD x<=4*(1+gR x):=by
 obtain⟨a0,a1,a2⟩:=x
 have h0:=qP a2
 simp only[lD,gR]
 omega
theorem akw (x:Int×Int×(List Int)) (k:Int):gR (j9 x k)=gR x:=by
 obtain⟨a0,a1,a2⟩:=x
 simp only[j9,gR,Zm]
theorem Ur (x:Int×Int×(List Int)) (k:Int):lD (j9 x k)=lD x:=by
 obtain⟨a0,a1,a2⟩:=x
 simp only[j9,lD,KW]
theorem agq (x:Int×Int×(List Int)) (k:Int):j9 (j9 x k) k=j9 x k:=by
 obtain⟨a0,a1,a2⟩:=x
 simp only[j9,KW,XS]
theorem El (l:List (Int×Int×(List Int))):gS l=l.length+(l.map gR).sum:=by
 rfl
theorem Gg (l:List (Int×Int×(List Int))):dQ l<=4*gS l:=by
 rw[El];exact Gw lD gR KD l
theorem aky (l:List (Int×Int×(List Int))) (k:Int):gS (fu l k)=gS l:=by
 rw[El,El,fu,AG,Eg lD j9 gR akw]
theorem aa8 (l:List (Int×Int×(List Int))) (k:Int):dQ (fu l k)=dQ l:=Eg lD j9 lD Ur l k
theorem agr (l:List (Int×Int×(List Int))) (k:Int):fu (fu l k) k=fu l k:=On lD j9 Ur agq l k
theorem H5 (l:List (Int×Int×(List Int))) (k:Int):(fu l k).length=l.length:=AG _ _ _ _
theorem acH (x:(List (Int×Int×(List Int)))×Int) (y:Int×(List (Int×Int×(List Int)))) (h:yZ x=some y):JY aA x=some y:=by
 obtain⟨l,k⟩:=x
 simp only[yZ] at h
 split at h
 ·rename_i hc
  obtain⟨hk,hb⟩:=hc
  rw[El] at hb
  rw[<-h]
  simp only[JY,bq,au]
  rw[XM l lD gR j9 k (r:=Sum.inl (k+(dQ l:Nat),fu l k)) KD hk hb ?_ ?_]
  ·rw[cK]
   simp only
   rw[Bf (show J (fu l k)=J l from H5 l k),au]
  ·rintro i ⟨a0,a1,a2⟩ ys k' he hy hi h0 hM
   have MB:dg ys i=some (a0,a1,a2):=hi
   simp only
   rw[aT (iR hi),mR hi (by omega)]
   simp only[Gq hi,au,jT,MB,Ds,bq]
   have KC:=qP a2
   simp only[gR] at hM
   have E0:aM .i64 (k') 1=k'+1:=jS (by omega) (by omega)
   have E1:aM .i64 (k'+1) 1=k'+1+1:=jS (by omega) (by omega)
   have E2:rM (a2,k'+1+1)=some (k'+1+1+(bP a2:Nat),cQ a2 (k'+1+1)):=if_pos ⟨by omega,by omega⟩
   simp only[E0,E1,E2,au,adB hi,akk,Ds,bq]
   refine congrArg some (congrArg Sum.inl (Prod.ext (Prod.ext ?_ rfl) rfl))
   simp only[lD]
   omega
  ·simp only
   rw[aS (fh (by have:=H5 l k;have h2:=nl (fu l k);unfold fu at this h2;omega))]
   rfl
 ·cases h
theorem acE (x:(List (Int×Int×(List Int)))×Int) (y:Int) (h:yY x=some y):JV aA x=some y:=by
 obtain⟨l,k⟩:=x
 simp only[yY] at h
 split at h
 ·rename_i hc
  obtain⟨hk,hb⟩:=hc
  rw[El] at hb
  rw[<-h]
  simp only[JV]
  rw[VY l lD gR j9 k KD hk hb ?_ ?_]
  ·unfold fu dQ
   by_cases hq:l=fO lD j9 l k
   ·rw[if_pos hq,if_pos hq,cK]
   ·rw[if_neg hq,if_neg hq,HT]
  ·rintro i ⟨a0,a1,a2⟩ k' he h0 hM
   simp only
   have KC:=qP a2
   simp only[gR] at hM
   rw[aT (iR he),mR he (by omega)]
   have E0:aM .i64 (k') 1=k'+1:=jS (by omega) (by omega)
   have E1:aM .i64 (k'+1) 1=k'+1+1:=jS (by omega) (by omega)
   have E2:rL (a2,k'+1+1)=some (if a2=cQ a2 (k'+1+1) then k'+1+1+(bP a2:Nat) else -1):=if_pos ⟨by omega,by omega⟩
   simp only[fF,he,au,E0,E1]
   by_cases q0:a0=k'
   case neg=>rw[aT (mQ q0),if_neg (fun h=>q0 (show a0=k'/\a1=k'+1/\a2=cQ a2 (k'+1+1) from by simpa only[j9,Prod.mk.injEq] using h).1)]
   rw[aS (kC q0)]
   by_cases q1:a1=k'+1
   case neg=>rw[aT (mQ q1),if_neg (fun h=>q1 (show a0=k'/\a1=k'+1/\a2=cQ a2 (k'+1+1) from by simpa only[j9,Prod.mk.injEq] using h).2.1)]
   rw[aS (kC q1)]
   rw[Hl (by omega) E2]
   by_cases q2:a2=cQ a2 (k'+1+1)
   case neg=>rw[if_neg q2,if_neg (fun h=>q2 (show a0=k'/\a1=k'+1/\a2=cQ a2 (k'+1+1) from by simpa only[j9,Prod.mk.injEq] using h).2.2)]
   rw[if_pos q2]
   rw[if_pos (show(a0,a1,a2)=j9 (a0,a1,a2) k' from by simp only[j9,Prod.mk.injEq];exact⟨q0,q1,q2⟩)]
   refine congrArg some (congrArg Sum.inl (Prod.ext rfl (Prod.ext ?_ rfl)))
   simp only[lD]
   omega
  ·intro k'
   simp only
   rw[aS (ot l)]
 ·cases h
theorem akx (x:Int×Int×(List Int)×(List (Int×Int×(List Int)))×(List Int)) (k:Int):fR (H8 x k)=fR x:=by
 obtain⟨a0,a1,a2,a3,a4⟩:=x
 simp only[H8,fR,Zm,aky]
theorem acF (x:(Int×Int×(List Int)×(List (Int×Int×(List Int)))×(List Int))×Int) (y:Int×(List Int)×(List (Int×Int×(List Int)))×(List Int)) (h:uY x=some y):JW aA x=some y:=by
 obtain⟨⟨a0,a1,a2,a3,a4⟩,k⟩:=x
 simp only[uY] at h
 split at h
 ·rename_i hc
  obtain⟨hk,hb⟩:=hc
  simp only[fR] at hb
  have KC:=qP a2
  have aaS:=Gg a3
  have aaT:=qP a4
  rw[<-h]
  have e0:rM (a2,k)=some (k+(bP a2:Nat),cQ a2 (k)):=if_pos ⟨by omega,by omega⟩
  have e1:yZ (a3,k+(bP a2:Nat))=some (k+(bP a2:Nat)+(dQ a3:Nat),fu a3 (k+(bP a2:Nat))):=if_pos ⟨by omega,by omega⟩
  have e2:rM (a4,k+(bP a2:Nat)+(dQ a3:Nat))=some (k+(bP a2:Nat)+(dQ a3:Nat)+(bP a4:Nat),cQ a4 (k+(bP a2:Nat)+(dQ a3:Nat))):=if_pos ⟨by omega,by omega⟩
  simp only[JW,bq,au,e0,e1,e2,Bf (show J (cQ a2 (k))=J a2 from AB a2 (k)),Bf (show J (fu a3 (k+(bP a2:Nat)))=J a3 from H5 a3 (k+(bP a2:Nat))),Bf (show J (cQ a4 (k+(bP a2:Nat)+(dQ a3:Nat)))=J a4 from AB a4 (k+(bP a2:Nat)+(dQ a3:Nat)))]
 ·cases h
theorem acC (x:(Int×Int×(List Int)×(List (Int×Int×(List Int)))×(List Int))×Int) (y:Int) (h:te x=some y):JT aA x=some y:=by
 obtain⟨⟨a0,a1,a2,a3,a4⟩,k⟩:=x
 simp only[te] at h
 split at h
 ·rename_i hc
  obtain⟨hk,hb⟩:=hc
  simp only[fR] at hb
  have KC:=qP a2
  have aaS:=Gg a3
  have aaT:=qP a4
  rw[<-h]
  have e0:rL (a2,k)=some (if a2=cQ a2 (k) then k+(bP a2:Nat) else -1):=if_pos ⟨by omega,by omega⟩
  have e1:yY (a3,k+(bP a2:Nat))=some (if a3=fu a3 (k+(bP a2:Nat)) then k+(bP a2:Nat)+(dQ a3:Nat) else -1):=if_pos ⟨by omega,by omega⟩
  have e2:rL (a4,k+(bP a2:Nat)+(dQ a3:Nat))=some (if a4=cQ a4 (k+(bP a2:Nat)+(dQ a3:Nat)) then k+(bP a2:Nat)+(dQ a3:Nat)+(bP a4:Nat) else -1):=if_pos ⟨by omega,by omega⟩
  simp only[JT]
  rw[Hl (by omega) e0]
  by_cases q0:a2=cQ a2 (k)
  case neg=>rw[if_neg q0,if_neg (fun h=>q0 h.1)]
  rw[if_pos q0]
  rw[Hl (by omega) e1]
  by_cases q1:a3=fu a3 (k+(bP a2:Nat))
  case neg=>rw[if_neg q1,if_neg (fun h=>q1 h.2.1)]
  rw[if_pos q1]
  rw[Hl (by omega) e2]
  by_cases q2:a4=cQ a4 (k+(bP a2:Nat)+(dQ a3:Nat))
  case neg=>rw[if_neg q2,if_neg (fun h=>q2 h.2.2)]
  rw[if_pos q2]
  rw[if_pos ⟨q0,q1,q2⟩]
 ·cases h
theorem adO (x:Int×Int×(List Int)×(List (Int×Int×(List Int)))×(List Int)) (k:Int) (h:0<=k/\k+4*(fR x:Nat)<=1099511627776):te (H8 x k,k)=some (match x with|(a0,a1,a2,a3,a4)=>k+(bP a2:Nat)+(dQ a3:Nat)+(bP a4:Nat)):=by
 obtain⟨a0,a1,a2,a3,a4⟩:=x
 have:=show te ((a0,a1,cQ a2 (k),fu a3 (k+(bP a2:Nat)),cQ a4 (k+(bP a2:Nat)+(dQ a3:Nat))),k)=if 0<=k/\k+4*(fR (H8 (a0,a1,a2,a3,a4) k):Nat)<=1099511627776 then some (if cQ a2 (k)=cQ (cQ a2 (k)) (k)/\fu a3 (k+(bP a2:Nat))=fu (fu a3 (k+(bP a2:Nat))) (k+(bP (cQ a2 (k)):Nat))/\cQ a4 (k+(bP a2:Nat)+(dQ a3:Nat))=cQ (cQ a4 (k+(bP a2:Nat)+(dQ a3:Nat))) (k+(bP (cQ a2 (k)):Nat)+(dQ (fu a3 (k+(bP a2:Nat))):Nat)) then k+(bP (cQ a2 (k)):Nat)+(dQ (fu a3 (k+(bP a2:Nat))):Nat)+(bP (cQ a4 (k+(bP a2:Nat)+(dQ a3:Nat))):Nat) else -1) else none from rfl
 refine this.trans ?_
 rw[akx,if_pos h]
 simp only[XS,KW,agr,aa8,and_self,if_true]
end Go.Am
