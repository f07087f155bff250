/- L_ReachBasis: the law FnExactReachBasis. No condition. -/
import Derived.Test.YthildlkhnnogiaaM93
set_option linter.unusedVariables false
set_option linter.unusedSimpArgs false
namespace Go.Am
theorem abm:∀(l:List (List Int)),(∀w∈l,w.length<=24)->(l.map di).sum<=l.length*24
 |[],_=>Nat.zero_le _
 |w::l,h=>by
  have h1:=h w (by simp)
  have h2:=abm l fun v hv=>h v (by simp[hv])
  have h3:di w=w.length:=rfl
  simp only[List.map_cons,List.sum_cons,List.length_cons,h3]
  omega
theorem adg (x:iY) (h1:jh x<=1048576):∃r0,AR x=some r0/\yz x=some r0/\nM r0<=1048576:=by
 refine⟨_,if_pos h1,if_pos h1,?_⟩
 by_cases ho:nW x=true
 ·rw[if_pos ho]
  obtain⟨p,n,s,ms,b,rfl,H⟩:=DF (L3 ho)
  have I:=akZ H
  have hn:=H.hn
  have hk:=I.kn
  have hs:=abm (pV (p,(n:Int),s,ms,b)).1 fun w hw=>Nat.le_trans (I.wo w hw).2 hn
  unfold nM
  omega
 ·rw[if_neg ho]
  decide
def Gw:Int×Int×(List Int)×(List (Int×Int×(List Int)))×(List Int)->Option Bool:=fun(a0:Int×Int×(List Int)×(List (Int×Int×(List Int)))×(List Int))=>if(K9 a0)=true then some true else none
def wI:aq:=[(.agg,[.int .i64,.int .i64,.list [.int .i64],.list [.int .i64,.int .i64,.list [.int .i64]],.list [.int .i64]])]
def RY:aq:=[(.one,[.bool])]
def aif:aN:=[]
def Lo (NN:Nat):(Int×(Int×((List Int)×((List (Int×(Int×(List Int))))×(List Int)))))->(Option Bool):=
 (fun((i0,i1,l2,l3,l4):(Int×(Int×((List Int)×((List (Int×(Int×(List Int))))×(List Int))))))=>
 (AK ((i0,i1,l2,l3,l4),(1048576:Int))).U (fun i5=>
 aL (bD i5 (0:Int))
 (some true)
 ((sN (i0,i1,l2,l3,l4)).U (fun(i6,i7,l8,l9,gA)=>
 (dH l8 (J l8)).U (fun pJ=>
 (dH l9 (J l9)).U (fun d9=>
 (dH gA (J gA)).U (fun kF=>
 (AR (i6,i7,pJ,d9,kF)).U (fun ju=>
 (sN (i0,i1,l2,l3,l4)).U (fun(lD,gz,cu,gj,gQ)=>
 (cO cu 0 (J cu)).U (fun iu=>
 (cO gj 0 (J gj)).U (fun qU=>
 (cO gQ 0 (J gQ)).U (fun jb=>
 (yz (lD,gz,iu,qU,jb)).U (fun eE=>
 (cO eE 0 (J eE)).U (fun jc=>
 (sL (jc,ju)).U (fun b25=>
 aL (eK b25)
 (some false)
 ((sN (i0,i1,l2,l3,l4)).U (fun(pB,nt,sb,nw,mE)=>
 (cO cu 0 (J cu)).U (fun tQ=>
 (cO gj 0 (J gj)).U (fun jv=>
 (cO gQ 0 (J gQ)).U (fun lI=>
 (cO sb 0 (J sb)).U (fun iJ=>
 (cO nw 0 (J nw)).U (fun xC=>
 (cO mE 0 (J mE)).U (fun vG=>
 (wB ((lD,gz,tQ,jv,lI),pB,nt,iJ,xC,vG)).U (fun b37=>
 aL (eK b37)
 (some false)
 ((ai 0 (J cu) (J cu)).U (fun _=>
 (ai 0 (J gj) (J gj)).U (fun _=>
 (ai 0 (J gQ) (J gQ)).U (fun _=>
 (AG ((lD,gz,cu,gj,gQ),(1:Int))).U (fun(r8,mG,j9,qV)=>
 aL (bD r8 (0:Int))
 (some false)
 ((cO eE 0 (J eE)).U (fun xD=>
 (sL (xD,ju)).U (fun b43=>
 aL (eK b43)
 (some false)
 ((ai 0 (J eE) (J eE)).U (fun _=>
 (AH (eE,(1:Int))).U (fun(lF,Jy)=>
 (cO Jy 0 (J eE)).U (fun vH=>
 (ul (vH,(1:Int))).U (fun kD=>
 aL (bD kD (0:Int))
 (some false)
 (aL (dU kD lF)
 (some false)
 ((sN (i0,i1,l2,l3,l4)).U (fun(lG,tJ,qW,vK,zU)=>
 (cO qW 0 (J qW)).U (fun oC=>
 (cO vK 0 (J vK)).U (fun fI=>
 (cO zU 0 (J zU)).U (fun fe=>
 (yz (lG,tJ,oC,fI,fe)).U (fun nA=>
 (cO nA 0 (J nA)).U (fun xE=>
 (sL (xE,ju)).U (fun b58=>
 aL (eK b58)
 (some false)
 ((cO Jy 0 (J eE)).U (fun Fg=>
 (ul (Fg,(1:Int))).U (fun pE=>
 aL (bD pE (0:Int))
 (some false)
 (aL (dU pE lF)
 (some false)
 (some true)))))))))))))))))))))))))))))))))))))))))))))))))))
theorem aeo (x:Int×Int×(List Int)×(List (Int×Int×(List Int)))×(List Int)) (y:Bool) (h:Gw x=some y):Lo aM x=some y:=by
 obtain⟨uA,uB,mW,nT,oU⟩:=x
 simp only[Gw] at h
 split at h
 ·rename_i hw
  rw[<-h]
  simp only[Lo]
  rw[amn (o:=AK ((uA,uB,mW,nT,oU),1048576)) (s:=jh (uA,uB,mW,nT,oU)) (if_pos ⟨by constructor<;>omega,hw⟩)]
  by_cases c0:((jh (uA,uB,mW,nT,oU):Nat):Int)<=1048576
  case neg=>rw[if_neg c0]
  rw[if_pos c0]
  obtain⟨r0,hs,hi,z0⟩:=adg (uA,uB,mW,nT,oU) (by omega)
  have t0:sN (uA,uB,mW,nT,oU)=some (uA,uB,mW,nT,oU):=amC _ (by omega)
  have q0:wB ((uA,uB,mW,nT,oU),(uA,uB,mW,nT,oU))=some true:=ac9 _ (by omega)
  have:=rI mW
  have:=Vy nT
  have:=rI oU
  have w0:sL (r0,r0)=some true:=ada _ (by omega)
  have:=aco r0
  simp only[jh] at*
  have m0:AG ((uA,uB,mW,nT,oU),(1:Int))=some ((1:Int)+(dN mW:Nat)+(nZ nT:Nat)+(dN oU:Nat),fu mW ((1:Int)),tY nT ((1:Int)+(dN mW:Nat)),fu oU ((1:Int)+(dN mW:Nat)+(nZ nT:Nat))):=if_pos ⟨by omega,by(try simp only[jh]);omega⟩
  have k0:bD ((1:Int)+(dN mW:Nat)+(nZ nT:Nat)+(dN oU:Nat)) 0=false:=ff (by omega)
  have n0:AH (r0,(1:Int))=some ((1:Int)+(qp r0:Nat),gZ r0 ((1:Int))):=if_pos ⟨by omega,by(try simp only[jh]);omega⟩
  have d0:ul (gZ r0 ((1:Int)),(1:Int))=some ((1:Int)+(qp r0:Nat)):=afz r0 ((1:Int)) ⟨by omega,by(try simp only[jh]);omega⟩
  have kk0:bD ((1:Int)+(qp r0:Nat)) 0=false:=ff (by omega)
  have lr0:cO (gZ r0 ((1:Int))) 0 (J r0)=some (gZ r0 ((1:Int))):=Di (PQ r0 ((1:Int)))
  simp only[az,jB,oP,df,hs,hi,ajV,Ik,ajK,ajL,t0,q0,w0,m0,k0,n0,d0,kk0,lr0]
 ·cases h
end Go.Am
