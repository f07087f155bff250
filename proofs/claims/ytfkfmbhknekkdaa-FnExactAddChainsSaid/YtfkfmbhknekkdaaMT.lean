/- MT: sizes, copies, comparisons and marks of the laws' types. No condition. -/
import Derived.Test.YtfkfmbhknekkdaaB2
set_option linter.unusedVariables false
set_option linter.unusedSimpArgs false
set_option synthInstance.maxSize 1000
set_option synthInstance.maxHeartbeats 400000
namespace Go.Am
def ko (l:List Int):Nat:=l.length
def HL (l:List Int):Bool:=decide (l.length<=9223372036854775807)
def xK:(List Int)×Int->Option Int:=fun((x,k):(List Int)×Int)=>if uu k/\HL x=true then some (fV (ko x) k) else none
def xO:(List Int)->Option (List Int):=fun(x:List Int)=>if ko x<=1048576 then some x else none
def xD:(List Int)×(List Int)->Option Bool:=fun((x,y):(List Int)×(List Int))=>if ko x<=1048576 then some (decide (x=y)) else none
def fk (x:Int×Int×Int×(List Int)):Nat:=match x with|(a0,a1,a2,a3)=>ko a3
def HM (x:Int×Int×Int×(List Int)):Bool:=match x with|(a0,a1,a2,a3)=>HL a3
def xL:(Int×Int×Int×(List Int))×Int->Option Int:=fun((x,k):(Int×Int×Int×(List Int))×Int)=>if uu k/\HM x=true then some (fV (fk x) k) else none
def xP:(Int×Int×Int×(List Int))->Option (Int×Int×Int×(List Int)):=fun(x:Int×Int×Int×(List Int))=>if fk x<=1048576 then some x else none
def xE:(Int×Int×Int×(List Int))×(Int×Int×Int×(List Int))->Option Bool:=fun((x,y):(Int×Int×Int×(List Int))×(Int×Int×Int×(List Int)))=>if fk x<=1048576 then some (decide (x=y)) else none
def gI (l:List (Int×Int×Int×(List Int))):Nat:=l.length+(l.map fk).sum
def Ar (l:List (Int×Int×Int×(List Int))):Bool:=decide (l.length<=9223372036854775807)&&l.all HM
def xN:(List (Int×Int×Int×(List Int)))×Int->Option Int:=fun((x,k):(List (Int×Int×Int×(List Int)))×Int)=>if uu k/\Ar x=true then some (fV (gI x) k) else none
def xQ:(List (Int×Int×Int×(List Int)))->Option (List (Int×Int×Int×(List Int))):=fun(x:List (Int×Int×Int×(List Int)))=>if gI x<=1048576 then some x else none
def xF:(List (Int×Int×Int×(List Int)))×(List (Int×Int×Int×(List Int)))->Option Bool:=fun((x,y):(List (Int×Int×Int×(List Int)))×(List (Int×Int×Int×(List Int))))=>if gI x<=1048576 then some (decide (x=y)) else none
def dR (x:Int×(List (Int×Int×Int×(List Int)))):Nat:=match x with|(a0,a1)=>gI a1
def xx (x:Int×(List (Int×Int×Int×(List Int)))):Bool:=match x with|(a0,a1)=>Ar a1
def tn:(Int×(List (Int×Int×Int×(List Int))))×Int->Option Int:=fun((x,k):(Int×(List (Int×Int×Int×(List Int))))×Int)=>if uu k/\xx x=true then some (fV (dR x) k) else none
def lc:(Int×(List (Int×Int×Int×(List Int))))->Option (Int×(List (Int×Int×Int×(List Int)))):=fun(x:Int×(List (Int×Int×Int×(List Int))))=>if dR x<=1048576 then some x else none
def lT:(Int×(List (Int×Int×Int×(List Int))))×(Int×(List (Int×Int×Int×(List Int))))->Option Bool:=fun((x,y):(Int×(List (Int×Int×Int×(List Int))))×(Int×(List (Int×Int×Int×(List Int)))))=>if dR x<=1048576 then some (decide (x=y)) else none
def qB (l:List Int):Nat:=ga (fun _=>1) l
def ie (l:List Int) (k:Int):List Int:=fw (fun _=>1) (fun _ k=>k) l k
def xI:(List Int)×Int->Option (Int×(List Int)):=fun((x,k):(List Int)×Int)=>if 0<=k/\k+4*(ko x:Nat)<=1099511627776 then some (k+(qB x:Nat),ie x k) else none
def xG:(List Int)×Int->Option Int:=fun((x,k):(List Int)×Int)=>if 0<=k/\k+4*(ko x:Nat)<=1099511627776 then some (if x=ie x k then k+(qB x:Nat) else -1) else none
def jU (x:Int×Int×Int×(List Int)):Nat:=match x with|(a0,a1,a2,a3)=>1+1+1+qB a3
def iB (x:Int×Int×Int×(List Int)) (k:Int):Int×Int×Int×(List Int):=match x with|(a0,a1,a2,a3)=>(k,k+1,k+1+1,ie a3 (k+1+1+1))
def gM (l:List (Int×Int×Int×(List Int))):Nat:=ga jU l
def e9 (l:List (Int×Int×Int×(List Int))) (k:Int):List (Int×Int×Int×(List Int)):=fw jU iB l k
def xJ:(List (Int×Int×Int×(List Int)))×Int->Option (Int×(List (Int×Int×Int×(List Int)))):=fun((x,k):(List (Int×Int×Int×(List Int)))×Int)=>if 0<=k/\k+4*(gI x:Nat)<=1099511627776 then some (k+(gM x:Nat),e9 x k) else none
def xH:(List (Int×Int×Int×(List Int)))×Int->Option Int:=fun((x,k):(List (Int×Int×Int×(List Int)))×Int)=>if 0<=k/\k+4*(gI x:Nat)<=1099511627776 then some (if x=e9 x k then k+(gM x:Nat) else -1) else none
def Ge (x:Int×(List (Int×Int×Int×(List Int)))) (k:Int):Int×(List (Int×Int×Int×(List Int))):=match x with|(a0,a1)=>(a0,e9 a1 (k))
def qm:(Int×(List (Int×Int×Int×(List Int))))×Int->Option (Int×(List (Int×Int×Int×(List Int)))):=fun(((a0,a1),k):(Int×(List (Int×Int×Int×(List Int))))×Int)=>if 0<=k/\k+4*(dR (a0,a1):Nat)<=1099511627776 then some (k+(gM a1:Nat),e9 a1 (k)) else none
def rK:(Int×(List (Int×Int×Int×(List Int))))×Int->Option Int:=fun(((a0,a1),k):(Int×(List (Int×Int×Int×(List Int))))×Int)=>if 0<=k/\k+4*(dR (a0,a1):Nat)<=1099511627776 then some (if a1=e9 a1 (k) then k+(gM a1:Nat) else -1) else none
def DV:ax:=[(.one,[.list [.int .i64]]),(.one,[.int .i64])]
def On:ax:=[(.one,[.int .i64])]
def ahb:aJ:=[]
def DZ:ax:=[(.one,[.list [.int .i64]])]
def Ou:ax:=[(.one,[.list [.int .i64]])]
def ahf:aJ:=[]
def DK:ax:=[(.one,[.list [.int .i64]]),(.one,[.list [.int .i64]])]
def Od:ax:=[(.one,[.bool])]
def ag4:aJ:=[]
def DW:ax:=[(.agg,[.int .i64,.int .i64,.int .i64,.list [.int .i64]]),(.one,[.int .i64])]
def Oo:ax:=[(.one,[.int .i64])]
def ahc:aJ:=[]
def D2:ax:=[(.agg,[.int .i64,.int .i64,.int .i64,.list [.int .i64]])]
def Ov:ax:=[(.agg,[.int .i64,.int .i64,.int .i64,.list [.int .i64]])]
def ahg:aJ:=[]
def DM:ax:=[(.agg,[.int .i64,.int .i64,.int .i64,.list [.int .i64]]),(.agg,[.int .i64,.int .i64,.int .i64,.list [.int .i64]])]
def Oe:ax:=[(.one,[.bool])]
def ag5:aJ:=[]
def DX:ax:=[(.one,[.list [.int .i64,.int .i64,.int .i64,.list [.int .i64]]]),(.one,[.int .i64])]
def Oq:ax:=[(.one,[.int .i64])]
def ahd:aJ:=[]
def D3:ax:=[(.one,[.list [.int .i64,.int .i64,.int .i64,.list [.int .i64]]])]
def Ow:ax:=[(.one,[.list [.int .i64,.int .i64,.int .i64,.list [.int .i64]]])]
def ahh:aJ:=[]
def DN:ax:=[(.one,[.list [.int .i64,.int .i64,.int .i64,.list [.int .i64]]]),(.one,[.list [.int .i64,.int .i64,.int .i64,.list [.int .i64]]])]
def Of:ax:=[(.one,[.bool])]
def ag6:aJ:=[]
def DU:ax:=[(.agg,[.int .i64,.list [.int .i64,.int .i64,.int .i64,.list [.int .i64]]]),(.one,[.int .i64])]
def Om:ax:=[(.one,[.int .i64])]
def aha:aJ:=[]
def DY:ax:=[(.agg,[.int .i64,.list [.int .i64,.int .i64,.int .i64,.list [.int .i64]]])]
def Ot:ax:=[(.agg,[.int .i64,.list [.int .i64,.int .i64,.int .i64,.list [.int .i64]]])]
def ahe:aJ:=[]
def DI:ax:=[(.agg,[.int .i64,.list [.int .i64,.int .i64,.int .i64,.list [.int .i64]]]),(.agg,[.int .i64,.list [.int .i64,.int .i64,.int .i64,.list [.int .i64]]])]
def Oc:ax:=[(.one,[.bool])]
def ag3:aJ:=[]
def DS:ax:=[(.one,[.list [.int .i64]]),(.one,[.int .i64])]
def Ok:ax:=[(.one,[.int .i64]),(.one,[.list [.int .i64]])]
def Gj:aJ:=[[some .aj]]
def DT:ax:=[(.one,[.list [.int .i64,.int .i64,.int .i64,.list [.int .i64]]]),(.one,[.int .i64])]
def Ol:ax:=[(.one,[.int .i64]),(.one,[.list [.int .i64,.int .i64,.int .i64,.list [.int .i64]]])]
def Gk:aJ:=[[some .live]]
def DR:ax:=[(.agg,[.int .i64,.list [.int .i64,.int .i64,.int .i64,.list [.int .i64]]]),(.one,[.int .i64])]
def Oj:ax:=[(.one,[.int .i64]),(.one,[.list [.int .i64,.int .i64,.int .i64,.list [.int .i64]]])]
def Gi:aJ:=[[none,some .live]]
def DP:ax:=[(.one,[.list [.int .i64]]),(.one,[.int .i64])]
def Oh:ax:=[(.one,[.int .i64])]
def ag8:aJ:=[]
def DQ:ax:=[(.one,[.list [.int .i64,.int .i64,.int .i64,.list [.int .i64]]]),(.one,[.int .i64])]
def Oi:ax:=[(.one,[.int .i64])]
def ag9:aJ:=[]
def DO:ax:=[(.agg,[.int .i64,.list [.int .i64,.int .i64,.int .i64,.list [.int .i64]]]),(.one,[.int .i64])]
def Og:ax:=[(.one,[.int .i64])]
def ag7:aJ:=[]
def Ii (NN:Nat):((List Int)×Int)->(Option Int):=
 (fun((l0,i1):((List Int)×Int))=>
 aH (cr (nG .i64 i1 (be (aa l0))) (0:Int))
 (some ((-1:Int)))
 (some (nG .i64 i1 (be (aa l0)))))
def Il (NN:Nat):(List Int)->(Option (List Int)):=
 (fun(l0:(List Int))=>
 (pV (be (aa l0)) (be (aa l0)) 8).ah (fun k1=>
 cJ ((aI 0 k1 (aa (fz k1 (0:Int)))).ah (fun _=>
 cv NN (fun(((l2,i3),l4):(((List Int)×Int)×(List Int)))=>
 aH (cr i3 (be (aa l2)))
 ((dP l2 i3).ah (fun i5=>
 (iG i3 (aa l4)).ah (fun k6=>
 (eZ l4 (bW 0 k6)).ah (fun i7=>
 (aI 0 (aa l4) (aa (cM l4 (bW 0 k6) i5))).ah (fun _=>
 some (Sum.inl ((l2,aP .i64 i3 1),cM l4 (bW 0 k6) i5)))))))
 (((aI 0 (aa l4) (aa l4)).ah (fun _=>
 some (Sum.inl l4))).ah (fun l8=>
 some (Sum.inr l8))))
 ((l0,(0:Int)),fz k1 (0:Int))))
 (fun l9=>
 (iT l9 (aa l9)).ah (fun jG=>
 some jG))))
def QH (NN:Nat):((List Int)×(List Int))->(Option Bool):=
 (fun((l0,l1):((List Int)×(List Int)))=>
 aH (fb (be (aa l0)) (be (aa l1)))
 (some false)
 (cJ (cv NN (fun((l2,l3,i4):((List Int)×((List Int)×Int)))=>
 aH (cr i4 (be (aa l2)))
 ((dP l2 i4).ah (fun i5=>
 (dP l3 i4).ah (fun i6=>
 aH (fb i5 i6)
 (some (Sum.inr (Sum.inr false)))
 (some (Sum.inl (l2,l3,aP .i64 i4 1))))))
 (some (Sum.inr (Sum.inl ()))))
 (l0,l1,(0:Int)))
 (fun _=>
 some true)))
def Ij (NN:Nat):((Int×(Int×(Int×(List Int))))×Int)->(Option Int):=
 (fun(((i0,i1,i2,l3),i4):((Int×(Int×(Int×(List Int))))×Int))=>
 (xK (l3,i4)).ah (fun i5=>
 aH (cr i5 (0:Int))
 (some ((-1:Int)))
 (some i5)))
def Io (NN:Nat):(Int×(Int×(Int×(List Int))))->(Option (Int×(Int×(Int×(List Int))))):=
 (fun((i0,i1,i2,l3):(Int×(Int×(Int×(List Int)))))=>
 (xO l3).ah (fun l4=>
 (iT l4 (aa l4)).ah (fun l5=>
 some (i0,i1,i2,l5))))
def H8 (NN:Nat):((Int×(Int×(Int×(List Int))))×(Int×(Int×(Int×(List Int)))))->(Option Bool):=
 (fun(((i0,i1,i2,l3),i4,i5,i6,l7):((Int×(Int×(Int×(List Int))))×(Int×(Int×(Int×(List Int))))))=>
 aH (fb i0 i4)
 (some false)
 (aH (fb i1 i5)
 (some false)
 (aH (fb i2 i6)
 (some false)
 ((xD (l3,l7)).ah (fun b8=>
 aH (fc b8)
 (some false)
 (some true))))))
def QJ (NN:Nat):((List (Int×(Int×(Int×(List Int)))))×Int)->(Option Int):=
 (fun((l0,i1):((List (Int×(Int×(Int×(List Int)))))×Int))=>
 aH (cr (nG .i64 i1 (be (aa l0))) (0:Int))
 (some ((-1:Int)))
 (cJ (cv NN (fun((l2,i3,i4):((List (Int×(Int×(Int×(List Int)))))×(Int×Int)))=>
 aH (cr i4 (be (aa l2)))
 ((dP l2 i4).ah (fun(i5,i6,i7,l8)=>
 (xL ((i5,i6,i7,l8),i3)).ah (fun i9=>
 aH (cr i9 (0:Int))
 (some (Sum.inr (Sum.inr ((-1:Int)))))
 (some (Sum.inl (l2,i9,aP .i64 i4 1))))))
 (some (Sum.inr (Sum.inl i3))))
 (l0,nG .i64 i1 (be (aa l0)),(0:Int)))
 (fun jg=>
 some jg)))
def Ip (NN:Nat):(List (Int×(Int×(Int×(List Int)))))->(Option (List (Int×(Int×(Int×(List Int)))))):=
 (fun(l0:(List (Int×(Int×(Int×(List Int))))))=>
 (pV (be (aa l0)) (be (aa l0)) 48).ah (fun k1=>
 cJ ((aI 0 k1 (aa (fz k1 ((0:Int),(0:Int),(0:Int),([]:List Int))))).ah (fun _=>
 cv NN (fun(((l2,i3),l4):(((List (Int×(Int×(Int×(List Int)))))×Int)×(List (Int×(Int×(Int×(List Int)))))))=>
 aH (cr i3 (be (aa l2)))
 ((dP l2 i3).ah (fun(i5,i6,i7,l8)=>
 (xP (i5,i6,i7,l8)).ah (fun(i9,jg,gF,j9)=>
 (iG i3 (aa l4)).ah (fun LV=>
 (eZ l4 (bW 0 LV)).ah (fun(qY,ng,nh,l17)=>
 (iT j9 (aa j9)).ah (fun nv=>
 (aI 0 (aa l4) (aa (cM l4 (bW 0 LV) (i9,jg,gF,nv)))).ah (fun _=>
 some (Sum.inl ((l2,aP .i64 i3 1),cM l4 (bW 0 LV) (i9,jg,gF,nv))))))))))
 (((aI 0 (aa l4) (aa l4)).ah (fun _=>
 some (Sum.inl l4))).ah (fun iP=>
 some (Sum.inr iP))))
 ((l0,(0:Int)),fz k1 ((0:Int),(0:Int),(0:Int),([]:List Int)))))
 (fun sP=>
 (iT sP (aa sP)).ah (fun l21=>
 some l21))))
def QI (NN:Nat):((List (Int×(Int×(Int×(List Int)))))×(List (Int×(Int×(Int×(List Int))))))->(Option Bool):=
 (fun((l0,l1):((List (Int×(Int×(Int×(List Int)))))×(List (Int×(Int×(Int×(List Int)))))))=>
 aH (fb (be (aa l0)) (be (aa l1)))
 (some false)
 (cJ (cv NN (fun((l2,l3,i4):((List (Int×(Int×(Int×(List Int)))))×((List (Int×(Int×(Int×(List Int)))))×Int)))=>
 aH (cr i4 (be (aa l2)))
 ((dP l2 i4).ah (fun(i5,i6,i7,l8)=>
 (dP l3 i4).ah (fun(i9,jg,gF,j9)=>
 (xE ((i5,i6,i7,l8),i9,jg,gF,j9)).ah (fun b13=>
 aH (fc b13)
 (some (Sum.inr (Sum.inr false)))
 (some (Sum.inl (l2,l3,aP .i64 i4 1)))))))
 (some (Sum.inr (Sum.inl ()))))
 (l0,l1,(0:Int)))
 (fun _=>
 some true)))
def Ih (NN:Nat):((Int×(List (Int×(Int×(Int×(List Int))))))×Int)->(Option Int):=
 (fun(((i0,l1),i2):((Int×(List (Int×(Int×(Int×(List Int))))))×Int))=>
 (xN (l1,i2)).ah (fun i3=>
 aH (cr i3 (0:Int))
 (some ((-1:Int)))
 (some i3)))
def Ik (NN:Nat):(Int×(List (Int×(Int×(Int×(List Int))))))->(Option (Int×(List (Int×(Int×(Int×(List Int))))))):=
 (fun((i0,l1):(Int×(List (Int×(Int×(Int×(List Int)))))))=>
 (xQ l1).ah (fun l2=>
 (iT l2 (aa l2)).ah (fun l3=>
 some (i0,l3))))
def H7 (NN:Nat):((Int×(List (Int×(Int×(Int×(List Int))))))×(Int×(List (Int×(Int×(Int×(List Int)))))))->(Option Bool):=
 (fun(((i0,l1),i2,l3):((Int×(List (Int×(Int×(Int×(List Int))))))×(Int×(List (Int×(Int×(Int×(List Int))))))))=>
 aH (fb i0 i2)
 (some false)
 ((xF (l1,l3)).ah (fun b4=>
 aH (fc b4)
 (some false)
 (some true))))
def Ie (NN:Nat):((List Int)×Int)->(Option (Int×(List Int))):=
 (fun((l0,i1):((List Int)×Int))=>
 cJ ((aI 0 (aa l0) (aa l0)).ah (fun _=>
 cv NN (fun(((i2,i3),l4):((Int×Int)×(List Int)))=>
 aH (cr i3 (be (aa l4)))
 ((iG i3 (aa l4)).ah (fun k5=>
 (eZ l4 (bW 0 k5)).ah (fun i6=>
 (aI 0 (aa l4) (aa (cM l4 (bW 0 k5) i2))).ah (fun _=>
 some (Sum.inl ((aP .i64 i2 1,aP .i64 i3 1),cM l4 (bW 0 k5) i2))))))
 (some (Sum.inr (Sum.inl (i2,l4)))))
 ((i1,(0:Int)),l0)))
 (fun(i7,l8)=>
 (w7 (aa l8) (aa l0)).ah (fun _=>
 some (i7,l8))))
def Ig (NN:Nat):((List (Int×(Int×(Int×(List Int)))))×Int)->(Option (Int×(List (Int×(Int×(Int×(List Int))))))):=
 (fun((l0,i1):((List (Int×(Int×(Int×(List Int)))))×Int))=>
 cJ ((aI 0 (aa l0) (aa l0)).ah (fun _=>
 cv NN (fun(((i2,i3),l4):((Int×Int)×(List (Int×(Int×(Int×(List Int)))))))=>
 aH (cr i3 (be (aa l4)))
 ((iG i3 (aa l4)).ah (fun k5=>
 (eZ l4 (bW 0 k5)).ah (fun(i6,i7,i8,l9)=>
 (iG i3 (aa l4)).ah (fun wQ=>
 (eZ (cM l4 (bW 0 k5) (i2,i7,i8,l9)) (bW 0 wQ)).ah (fun(gF,jh,jE,nu)=>
 (iG i3 (aa l4)).ah (fun zb=>
 (eZ (cM (cM l4 (bW 0 k5) (i2,i7,i8,l9)) (bW 0 wQ) (gF,aP .i64 i2 1,jE,nu)) (bW 0 zb)).ah (fun(nh,gm,mn,iP)=>
 (iG i3 (aa l4)).ah (fun Cj=>
 (eZ (cM (cM (cM l4 (bW 0 k5) (i2,i7,i8,l9)) (bW 0 wQ) (gF,aP .i64 i2 1,jE,nu)) (bW 0 zb) (nh,gm,aP .i64 (aP .i64 i2 1) (1:Int),iP)) (bW 0 Cj)).ah (fun(gG,ni,ug,Cl)=>
 (eZ (cM (cM (cM l4 (bW 0 k5) (i2,i7,i8,l9)) (bW 0 wQ) (gF,aP .i64 i2 1,jE,nu)) (bW 0 zb) (nh,gm,aP .i64 (aP .i64 i2 1) (1:Int),iP)) (bW 0 Cj)).ah (fun(j3,jF,uh,rh)=>
 (xI (rh,aP .i64 (aP .i64 (aP .i64 i2 1) (1:Int)) (1:Int))).ah (fun(FL,pS)=>
 (eZ (cM (cM (cM l4 (bW 0 k5) (i2,i7,i8,l9)) (bW 0 wQ) (gF,aP .i64 i2 1,jE,nu)) (bW 0 zb) (nh,gm,aP .i64 (aP .i64 i2 1) (1:Int),iP)) (bW 0 Cj)).ah (fun(nj,mr,wG,zr)=>
 (aI 0 (aa l4) (aa (cM (cM (cM (cM l4 (bW 0 k5) (i2,i7,i8,l9)) (bW 0 wQ) (gF,aP .i64 i2 1,jE,nu)) (bW 0 zb) (nh,gm,aP .i64 (aP .i64 i2 1) (1:Int),iP)) (bW 0 Cj) (nj,mr,wG,pS)))).ah (fun _=>
 some (Sum.inl ((FL,aP .i64 i3 1),cM (cM (cM (cM l4 (bW 0 k5) (i2,i7,i8,l9)) (bW 0 wQ) (gF,aP .i64 i2 1,jE,nu)) (bW 0 zb) (nh,gm,aP .i64 (aP .i64 i2 1) (1:Int),iP)) (bW 0 Cj) (nj,mr,wG,pS))))))))))))))))
 (some (Sum.inr (Sum.inl (i2,l4)))))
 ((i1,(0:Int)),l0)))
 (fun(ui,F5)=>
 (w7 (aa F5) (aa l0)).ah (fun _=>
 some (ui,F5))))
def Ic (NN:Nat):((Int×(List (Int×(Int×(Int×(List Int))))))×Int)->(Option (Int×(List (Int×(Int×(Int×(List Int))))))):=
 (fun(((i0,l1),i2):((Int×(List (Int×(Int×(Int×(List Int))))))×Int))=>
 (aI 0 (aa l1) (aa l1)).ah (fun _=>
 (xJ (l1,i2)).ah (fun(i3,l4)=>
 (w7 (aa l4) (aa l1)).ah (fun _=>
 some (i3,l4)))))
def Ia (NN:Nat):((List Int)×Int)->(Option Int):=
 (fun((l0,i1):((List Int)×Int))=>
 cJ (cv NN (fun((l2,i3,i4):((List Int)×(Int×Int)))=>
 aH (cr i4 (be (aa l2)))
 ((dP l2 i4).ah (fun i5=>
 aH (fb i5 i3)
 (some (Sum.inr (Sum.inr ((-1:Int)))))
 (some (Sum.inl (l2,aP .i64 i3 1,aP .i64 i4 1)))))
 (some (Sum.inr (Sum.inl i3))))
 (l0,i1,(0:Int)))
 (fun i6=>
 some i6))
def Ib (NN:Nat):((List (Int×(Int×(Int×(List Int)))))×Int)->(Option Int):=
 (fun((l0,i1):((List (Int×(Int×(Int×(List Int)))))×Int))=>
 cJ (cv NN (fun((l2,i3,i4):((List (Int×(Int×(Int×(List Int)))))×(Int×Int)))=>
 aH (cr i4 (be (aa l2)))
 ((dP l2 i4).ah (fun(i5,i6,i7,l8)=>
 aH (fb i5 i3)
 (some (Sum.inr (Sum.inr ((-1:Int)))))
 ((dP l2 i4).ah (fun(i9,jg,gF,j9)=>
 aH (fb jg (aP .i64 i3 1))
 (some (Sum.inr (Sum.inr ((-1:Int)))))
 ((dP l2 i4).ah (fun(jE,qY,ng,gR)=>
 aH (fb ng (aP .i64 (aP .i64 i3 1) (1:Int)))
 (some (Sum.inr (Sum.inr ((-1:Int)))))
 ((dP l2 i4).ah (fun(gm,mn,qZ,sP)=>
 (xG (sP,aP .i64 (aP .i64 (aP .i64 i3 1) (1:Int)) (1:Int))).ah (fun gG=>
 aH (cr gG (0:Int))
 (some (Sum.inr (Sum.inr ((-1:Int)))))
 (some (Sum.inl (l2,gG,aP .i64 i4 1))))))))))))
 (some (Sum.inr (Sum.inl i3))))
 (l0,i1,(0:Int)))
 (fun ni=>
 some ni))
def H9 (NN:Nat):((Int×(List (Int×(Int×(Int×(List Int))))))×Int)->(Option Int):=
 (fun(((i0,l1),i2):((Int×(List (Int×(Int×(Int×(List Int))))))×Int))=>
 (xH (l1,i2)).ah (fun i3=>
 aH (cr i3 (0:Int))
 (some ((-1:Int)))
 (some i3)))
theorem acj (x:(List Int)×Int) (y:Int) (h:xK x=some y):Ii bh x=some y:=by
 obtain⟨l,k⟩:=x
 simp only[xK] at h
 split at h
 ·rename_i hc
  obtain⟨⟨k0,k1⟩,hw⟩:=hc
  have hw:=of_decide_eq_true hw
  rw[<-h]
  have hn:=nl l
  simp only[Ii]
  rw[Ac (by omega) (by omega)]
  show _=some (fV l.length k)
  by_cases hs:(l.length:Int)<=k
  ·rw[Qf hs,bR (eV (by omega))];rfl
  ·rw[Qe hs,bF (fK (by omega))]
 ·cases h
theorem aco (x y:List Int) (h:xO x=some y):Il bh x=some y:=by
 simp only[xO] at h
 split at h
 ·rename_i hl
  injection h with h
  subst h
  have hl:x.length<=1048576:=hl
  simp only[Il,Gd (n:=aa x) (by_:=8) (by simp only[aa,fL];omega),bL,WI,cQ]
  rw[S5 x 0 (r:=Sum.inl x) ?_ ?_ (by omega)]
  ·simp only[lG,qg,bL]
  ·intro i e ys he hy hi
   simp only
   rw[bF (iA he),ft,he,bL]
   simp only[Eu hi,bL,vA,eZ,hi,Cr,cQ,kS he (by omega)]
   rfl
  ·simp only
   rw[bR (mE x)]
 ·cases h
theorem ab8 (x:(List Int)×(List Int)) (y:Bool) (h:xD x=some y):QH bh x=some y:=by
 obtain⟨a,b⟩:=x
 simp only[xD] at h
 split at h
 ·rename_i hl
  rw[<-h]
  have hl:a.length<=1048576:=hl
  exact abb a b (by omega)
 ·cases h
theorem ack (x:(Int×Int×Int×(List Int))×Int) (y:Int) (h:xL x=some y):Ij bh x=some y:=by
 obtain⟨⟨a0,a1,a2,a3⟩,k⟩:=x
 simp only[xL] at h
 split at h
 ·rename_i hc
  obtain⟨⟨k0,k1⟩,hw⟩:=hc
  simp only[HM] at hw
  rw[<-h]
  simp only[Ij]
  rw[Y6 (o:=xK (a3,k)) (s:=ko a3) (if_pos ⟨by constructor<;>omega,hw⟩)]
  by_cases c0:((ko a3:Nat):Int)<=k
  ·rw[if_pos c0]
   show _=some (fV (ko a3) k)
   rw[Qf (by omega)]
  ·rw[if_neg c0]
   show _=some (fV (ko a3) k)
   rw[Qe (by omega)]
 ·cases h
theorem acp (x y:Int×Int×Int×(List Int)) (h:xP x=some y):Io bh x=some y:=by
 obtain⟨a0,a1,a2,a3⟩:=x
 simp only[xP] at h
 split at h
 ·rename_i hl
  rw[<-h]
  simp only[fk] at hl
  simp only[Io,xO,if_pos (show ko a3<=1048576 by omega),bL,qg]
 ·cases h
theorem ab9 (x:(Int×Int×Int×(List Int))×(Int×Int×Int×(List Int))) (y:Bool) (h:xE x=some y):H8 bh x=some y:=by
 obtain⟨⟨a0,a1,a2,a3⟩,b0,b1,b2,b3⟩:=x
 simp only[xE] at h
 split at h
 ·rename_i hl
  rw[<-h]
  simp only[fk] at hl
  simp only[H8,xD,if_pos (show ko a3<=1048576 by omega),bL]
  by_cases e0:a0=b0<;>by_cases e1:a1=b1<;>by_cases e2:a2=b2<;>by_cases e3:a3=b3<;>simp[Xe,fc,aH, *]
 ·cases h
theorem acm (x:(List (Int×Int×Int×(List Int)))×Int) (y:Int) (h:xN x=some y):QJ bh x=some y:=by
 obtain⟨l,k⟩:=x
 simp only[xN] at h
 split at h
 ·rename_i hc
  obtain⟨hk,hw⟩:=hc
  unfold Ar at hw
  rw[Bool.and_eq_true,decide_eq_true_eq,List.all_eq_true] at hw
  rw[<-h]
  exact ak0 xL fk l hw.1 (fun e he k hk=>if_pos ⟨hk,hw.2 e he⟩) k hk
 ·cases h
theorem Qg {l:List (Int×Int×Int×(List Int))} (h:gI l<=1048576):l.length<=1048576/\∀e∈l,fk e<=1048576:=by
 unfold gI at h
 refine⟨by omega,fun e he=>?_⟩
 have:=WH (List.mem_map_of_mem (f:=fk) he)
 omega
theorem acq (x y:List (Int×Int×Int×(List Int))) (h:xQ x=some y):Ip bh x=some y:=by
 simp only[xQ] at h
 split at h
 ·rename_i hl
  injection h with h
  subst h
  obtain⟨hl,hm⟩:=Qg hl
  simp only[Ip,Gd (n:=aa x) (by_:=48) (by simp only[aa,fL];omega),bL,WI,cQ]
  rw[S5 x (0,0,0,[]) (r:=Sum.inl x) ?_ ?_ (by omega)]
  ·simp only[lG,qg,bL]
  ·rintro i ⟨a0,a1,a2,a3⟩ ys he hy hi
   simp only
   rw[bF (iA he),ft,he,bL]
   simp only[xP,if_pos (hm _ (List.mem_of_getElem? he)),Eu hi,bL,vA,eZ,hi,qg,Cr,cQ,kS he (by omega)]
   rfl
  ·simp only
   rw[bR (mE x)]
 ·cases h
theorem aca (x:(List (Int×Int×Int×(List Int)))×(List (Int×Int×Int×(List Int)))) (y:Bool) (h:xF x=some y):QI bh x=some y:=by
 obtain⟨a,b⟩:=x
 simp only[xF] at h
 split at h
 ·rename_i hl
  rw[<-h]
  obtain⟨hl,hm⟩:=Qg hl
  exact Sy xE a b (fun e he b=>show(if fk e<=1048576 then some (decide (e=b)) else none)=_ from if_pos (hm e he)) (by omega)
 ·cases h
theorem aci (x:(Int×(List (Int×Int×Int×(List Int))))×Int) (y:Int) (h:tn x=some y):Ih bh x=some y:=by
 obtain⟨⟨a0,a1⟩,k⟩:=x
 simp only[tn] at h
 split at h
 ·rename_i hc
  obtain⟨⟨k0,k1⟩,hw⟩:=hc
  simp only[xx] at hw
  rw[<-h]
  simp only[Ih]
  rw[Y6 (o:=xN (a1,k)) (s:=gI a1) (if_pos ⟨by constructor<;>omega,hw⟩)]
  by_cases c0:((gI a1:Nat):Int)<=k
  ·rw[if_pos c0]
   show _=some (fV (gI a1) k)
   rw[Qf (by omega)]
  ·rw[if_neg c0]
   show _=some (fV (gI a1) k)
   rw[Qe (by omega)]
 ·cases h
theorem acn (x y:Int×(List (Int×Int×Int×(List Int)))) (h:lc x=some y):Ik bh x=some y:=by
 obtain⟨a0,a1⟩:=x
 simp only[lc] at h
 split at h
 ·rename_i hl
  rw[<-h]
  simp only[dR] at hl
  simp only[Ik,xQ,if_pos (show gI a1<=1048576 by omega),bL,qg]
 ·cases h
theorem ab7 (x:(Int×(List (Int×Int×Int×(List Int))))×(Int×(List (Int×Int×Int×(List Int))))) (y:Bool) (h:lT x=some y):H7 bh x=some y:=by
 obtain⟨⟨a0,a1⟩,b0,b1⟩:=x
 simp only[lT] at h
 split at h
 ·rename_i hl
  rw[<-h]
  simp only[dR] at hl
  simp only[H7,xF,if_pos (show gI a1<=1048576 by omega),bL]
  by_cases e0:a0=b0<;>by_cases e1:a1=b1<;>simp[Xe,fc,aH, *]
 ·cases h
theorem Jn (x:Int×(List (Int×Int×Int×(List Int)))) (h:dR x<=1048576):lT (x,x)=some true:=by
 have:=show lT (x,x)=if dR x<=1048576 then some (decide (x=x)) else none from rfl
 rw[this,if_pos h,decide_eq_true rfl]
theorem Zg (x:Int×(List (Int×Int×Int×(List Int)))) (h:dR x<=1048576):lc x=some x:=if_pos h
theorem C6 (l:List Int):ko l=l.length+(l.map (fun _=>0)).sum:=by
 simp[ko,Y1]
theorem IQ (l:List Int):qB l<=4*ko l:=by
 rw[C6];exact EC (fun _=>1) (fun _=>0) (fun e=>by omega) l
theorem akG (l:List Int) (k:Int):ko (ie l k)=ko l:=by
 rw[C6,C6,ie,zA,C4 (fun _=>1) (fun _ k=>k) (fun _=>0) (fun _ _=>rfl)]
theorem RU (l:List Int) (k:Int):qB (ie l k)=qB l:=C4 (fun _=>1) (fun _ k=>k) (fun _=>1) (fun _ _=>rfl) l k
theorem agP (l:List Int) (k:Int):ie (ie l k) k=ie l k:=MH (fun _=>1) (fun _ k=>k) (fun _ _=>rfl) (fun _ _=>rfl) l k
theorem WU (l:List Int) (k:Int):(ie l k).length=l.length:=zA _ _ _ _
theorem acg (x:(List Int)×Int) (y:Int×(List Int)) (h:xI x=some y):Ie bh x=some y:=by
 obtain⟨l,k⟩:=x
 simp only[xI] at h
 split at h
 ·rename_i hc
  obtain⟨hk,hb⟩:=hc
  rw[C6] at hb
  rw[<-h]
  simp only[Ie,cQ,bL]
  rw[W0 l (fun _=>1) (fun _=>0) (fun _ k=>k) k (r:=Sum.inl (k+(qB l:Nat),ie l k)) (fun e=>by omega) hk hb ?_ ?_]
  ·rw[lG]
   simp only
   rw[GQ (show aa (ie l k)=aa l from WU l k),bL]
  ·intro i e ys k' he hy hi h0 hM
   have KG:eZ ys i=some e:=hi
   simp only
   rw[bF (iA hi),kS hi (by omega)]
   simp only[Eu hi,bL,vA,KG,Cr,cQ]
   have e1:aP .i64 k' 1=k'+1:=iY (by omega) (by omega)
   simp only[e1]
   rfl
  ·simp only
   rw[bR (eV (by have:=WU l k;have h2:=nl (ie l k);unfold ie at this h2;omega))]
   rfl
 ·cases h
theorem acd (x:(List Int)×Int) (y:Int) (h:xG x=some y):Ia bh x=some y:=by
 obtain⟨l,k⟩:=x
 simp only[xG] at h
 split at h
 ·rename_i hc
  obtain⟨hk,hb⟩:=hc
  rw[C6] at hb
  rw[<-h]
  simp only[Ia]
  rw[TZ l (fun _=>1) (fun _=>0) (fun _ k=>k) k (fun e=>by omega) hk hb ?_ ?_]
  ·unfold ie qB
   by_cases hq:l=fw (fun _=>1) (fun _ k=>k) l k
   ·rw[if_pos hq,if_pos hq,lG]
   ·rw[if_neg hq,if_neg hq,F3]
  ·intro i e k' he h0 hM
   simp only
   rw[bF (iA he),ft,he,bL]
   have e1:aP .i64 k' 1=k'+1:=iY (by omega) (by omega)
   rw[e1,kS he (by omega)]
   by_cases hq:e=k'
   ·rw[bR (oA hq),if_pos hq];rfl
   ·rw[bF (pW hq),if_neg hq]
  ·intro k'
   simp only
   rw[bR (mE l)]
 ·cases h
theorem IU (x:Int×Int×Int×(List Int)):jU x<=4*(1+fk x):=by
 obtain⟨a0,a1,a2,a3⟩:=x
 have h0:=IQ a3
 simp only[jU,fk]
 omega
theorem akE (x:Int×Int×Int×(List Int)) (k:Int):fk (iB x k)=fk x:=by
 obtain⟨a0,a1,a2,a3⟩:=x
 simp only[iB,fk,akG]
theorem RT (x:Int×Int×Int×(List Int)) (k:Int):jU (iB x k)=jU x:=by
 obtain⟨a0,a1,a2,a3⟩:=x
 simp only[iB,jU,RU]
theorem agO (x:Int×Int×Int×(List Int)) (k:Int):iB (iB x k) k=iB x k:=by
 obtain⟨a0,a1,a2,a3⟩:=x
 simp only[iB,RU,agP]
theorem C7 (l:List (Int×Int×Int×(List Int))):gI l=l.length+(l.map fk).sum:=by
 rfl
theorem AP (l:List (Int×Int×Int×(List Int))):gM l<=4*gI l:=by
 rw[C7];exact EC jU fk IU l
theorem akH (l:List (Int×Int×Int×(List Int))) (k:Int):gI (e9 l k)=gI l:=by
 rw[C7,C7,e9,zA,C4 jU iB fk akE]
theorem aaK (l:List (Int×Int×Int×(List Int))) (k:Int):gM (e9 l k)=gM l:=C4 jU iB jU RT l k
theorem agQ (l:List (Int×Int×Int×(List Int))) (k:Int):e9 (e9 l k) k=e9 l k:=MH jU iB RT agO l k
theorem F9 (l:List (Int×Int×Int×(List Int))) (k:Int):(e9 l k).length=l.length:=zA _ _ _ _
theorem ach (x:(List (Int×Int×Int×(List Int)))×Int) (y:Int×(List (Int×Int×Int×(List Int)))) (h:xJ x=some y):Ig bh x=some y:=by
 obtain⟨l,k⟩:=x
 simp only[xJ] at h
 split at h
 ·rename_i hc
  obtain⟨hk,hb⟩:=hc
  rw[C7] at hb
  rw[<-h]
  simp only[Ig,cQ,bL]
  rw[W0 l jU fk iB k (r:=Sum.inl (k+(gM l:Nat),e9 l k)) IU hk hb ?_ ?_]
  ·rw[lG]
   simp only
   rw[GQ (show aa (e9 l k)=aa l from F9 l k),bL]
  ·rintro i ⟨a0,a1,a2,a3⟩ ys k' he hy hi h0 hM
   have KG:eZ ys i=some (a0,a1,a2,a3):=hi
   simp only
   rw[bF (iA hi),kS hi (by omega)]
   simp only[Eu hi,bL,vA,KG,Cr,cQ]
   have aaq:=IQ a3
   simp only[fk] at hM
   have E0:aP .i64 (k') 1=k'+1:=iY (by omega) (by omega)
   have E1:aP .i64 (k'+1) 1=k'+1+1:=iY (by omega) (by omega)
   have E2:aP .i64 (k'+1+1) 1=k'+1+1+1:=iY (by omega) (by omega)
   have E3:xI (a3,k'+1+1+1)=some (k'+1+1+1+(qB a3:Nat),ie a3 (k'+1+1+1)):=if_pos ⟨by omega,by omega⟩
   simp only[E0,E1,E2,E3,bL,acI hi,aks,Cr,cQ]
   refine congrArg some (congrArg Sum.inl (Prod.ext (Prod.ext ?_ rfl) rfl))
   simp only[jU]
   omega
  ·simp only
   rw[bR (eV (by have:=F9 l k;have h2:=nl (e9 l k);unfold e9 at this h2;omega))]
   rfl
 ·cases h
theorem ace (x:(List (Int×Int×Int×(List Int)))×Int) (y:Int) (h:xH x=some y):Ib bh x=some y:=by
 obtain⟨l,k⟩:=x
 simp only[xH] at h
 split at h
 ·rename_i hc
  obtain⟨hk,hb⟩:=hc
  rw[C7] at hb
  rw[<-h]
  simp only[Ib]
  rw[TZ l jU fk iB k IU hk hb ?_ ?_]
  ·unfold e9 gM
   by_cases hq:l=fw jU iB l k
   ·rw[if_pos hq,if_pos hq,lG]
   ·rw[if_neg hq,if_neg hq,F3]
  ·rintro i ⟨a0,a1,a2,a3⟩ k' he h0 hM
   simp only
   have aaq:=IQ a3
   simp only[fk] at hM
   rw[bF (iA he),kS he (by omega)]
   have E0:aP .i64 (k') 1=k'+1:=iY (by omega) (by omega)
   have E1:aP .i64 (k'+1) 1=k'+1+1:=iY (by omega) (by omega)
   have E2:aP .i64 (k'+1+1) 1=k'+1+1+1:=iY (by omega) (by omega)
   have E3:xG (a3,k'+1+1+1)=some (if a3=ie a3 (k'+1+1+1) then k'+1+1+1+(qB a3:Nat) else -1):=if_pos ⟨by omega,by omega⟩
   simp only[ft,he,bL,E0,E1,E2]
   by_cases q0:a0=k'
   case neg=>rw[bF (pW q0),if_neg (fun h=>q0 (show a0=k'/\a1=k'+1/\a2=k'+1+1/\a3=ie a3 (k'+1+1+1) from by simpa only[iB,Prod.mk.injEq] using h).1)]
   rw[bR (oA q0)]
   by_cases q1:a1=k'+1
   case neg=>rw[bF (pW q1),if_neg (fun h=>q1 (show a0=k'/\a1=k'+1/\a2=k'+1+1/\a3=ie a3 (k'+1+1+1) from by simpa only[iB,Prod.mk.injEq] using h).2.1)]
   rw[bR (oA q1)]
   by_cases q2:a2=k'+1+1
   case neg=>rw[bF (pW q2),if_neg (fun h=>q2 (show a0=k'/\a1=k'+1/\a2=k'+1+1/\a3=ie a3 (k'+1+1+1) from by simpa only[iB,Prod.mk.injEq] using h).2.2.1)]
   rw[bR (oA q2)]
   rw[TX (by omega) E3]
   by_cases q3:a3=ie a3 (k'+1+1+1)
   case neg=>rw[if_neg q3,if_neg (fun h=>q3 (show a0=k'/\a1=k'+1/\a2=k'+1+1/\a3=ie a3 (k'+1+1+1) from by simpa only[iB,Prod.mk.injEq] using h).2.2.2)]
   rw[if_pos q3]
   rw[if_pos (show(a0,a1,a2,a3)=iB (a0,a1,a2,a3) k' from by simp only[iB,Prod.mk.injEq];exact⟨q0,q1,q2,q3⟩)]
   refine congrArg some (congrArg Sum.inl (Prod.ext rfl (Prod.ext ?_ rfl)))
   simp only[jU]
   omega
  ·intro k'
   simp only
   rw[bR (mE l)]
 ·cases h
theorem akF (x:Int×(List (Int×Int×Int×(List Int)))) (k:Int):dR (Ge x k)=dR x:=by
 obtain⟨a0,a1⟩:=x
 simp only[Ge,dR,akH]
theorem acf (x:(Int×(List (Int×Int×Int×(List Int))))×Int) (y:Int×(List (Int×Int×Int×(List Int)))) (h:qm x=some y):Ic bh x=some y:=by
 obtain⟨⟨a0,a1⟩,k⟩:=x
 simp only[qm] at h
 split at h
 ·rename_i hc
  obtain⟨hk,hb⟩:=hc
  simp only[dR] at hb
  have aap:=AP a1
  rw[<-h]
  have e0:xJ (a1,k)=some (k+(gM a1:Nat),e9 a1 (k)):=if_pos ⟨by omega,by omega⟩
  simp only[Ic,cQ,bL,e0,GQ (show aa (e9 a1 (k))=aa a1 from F9 a1 (k))]
 ·cases h
theorem acb (x:(Int×(List (Int×Int×Int×(List Int))))×Int) (y:Int) (h:rK x=some y):H9 bh x=some y:=by
 obtain⟨⟨a0,a1⟩,k⟩:=x
 simp only[rK] at h
 split at h
 ·rename_i hc
  obtain⟨hk,hb⟩:=hc
  simp only[dR] at hb
  have aap:=AP a1
  rw[<-h]
  have e0:xH (a1,k)=some (if a1=e9 a1 (k) then k+(gM a1:Nat) else -1):=if_pos ⟨by omega,by omega⟩
  simp only[H9]
  rw[TX (by omega) e0]
  by_cases q0:a1=e9 a1 (k)
  case neg=>rw[if_neg q0,if_neg (fun h=>q0 h)]
  rw[if_pos q0]
  rw[if_pos q0]
 ·cases h
theorem acS (x:Int×(List (Int×Int×Int×(List Int)))) (k:Int) (h:0<=k/\k+4*(dR x:Nat)<=1099511627776):rK (Ge x k,k)=some (match x with|(a0,a1)=>k+(gM a1:Nat)):=by
 obtain⟨a0,a1⟩:=x
 have:=show rK ((a0,e9 a1 (k)),k)=if 0<=k/\k+4*(dR (Ge (a0,a1) k):Nat)<=1099511627776 then some (if e9 a1 (k)=e9 (e9 a1 (k)) (k) then k+(gM (e9 a1 (k)):Nat) else -1) else none from rfl
 refine this.trans ?_
 rw[akF,if_pos h]
 simp only[agQ,aaK,and_self,if_true]
end Go.Am
