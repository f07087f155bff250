/- L_MinimizeAutomaton: the law FnExactMinimizeAutomaton. No condition. -/
import Derived.Test.YtifmggmhdcdgbaaM55
set_option linter.unusedVariables false
set_option linter.unusedSimpArgs false
namespace Go.Am
theorem abD (x:Int×Int×(List Int)×(List (Int×Int×(List Int)))×(List Int)) (h1:fR x<=1048576):∃r0,u0 x=some r0/\wT x=some r0/\fR r0<=1048576:=by
 refine⟨_,if_pos h1,if_pos h1,?_⟩
 by_cases ho:gG x=true
 ·rw[if_pos ho]
  obtain⟨p,n,s,b,ms,e,H,_⟩:=Ol ho
  rw[e]
  exact Nat.le_trans (aaI H) (by decide)
 ·rw[if_neg ho]
  decide
def EA:Int×Int×(List Int)×(List (Int×Int×(List Int)))×(List Int)->Option Bool:=fun(a0:Int×Int×(List Int)×(List (Int×Int×(List Int)))×(List Int))=>if(Jz a0)=true then some true else none
def vc:ao:=[(.agg,[.int .i64,.int .i64,.list [.int .i64],.list [.int .i64,.int .i64,.list [.int .i64]],.list [.int .i64]])]
def Qq:ao:=[(.one,[.bool])]
def agL:aW:=[]
def JQ (NN:Nat):(Int×(Int×((List Int)×((List (Int×(Int×(List Int))))×(List Int)))))->(Option Bool):=
 (fun((i0,i1,l2,l3,l4):(Int×(Int×((List Int)×((List (Int×(Int×(List Int))))×(List Int))))))=>
 (y5 ((i0,i1,l2,l3,l4),(1048576:Int))).U (fun i5=>
 aw (bc i5 (0:Int))
 (some true)
 ((rO (i0,i1,l2,l3,l4)).U (fun(i6,i7,l8,l9,fA)=>
 (bg l8 0 (J l8)).U (fun lW=>
 (bg l9 0 (J l9)).U (fun dM=>
 (bg fA 0 (J fA)).U (fun iA=>
 (u0 (i6,i7,lW,dM,iA)).U (fun(db,fV,cg,bB,c9)=>
 (rO (i0,i1,l2,l3,l4)).U (fun(cX,eG,ib,cV,dD)=>
 (bg ib 0 (J ib)).U (fun fM=>
 (bg cV 0 (J cV)).U (fun cL=>
 (bg dD 0 (J dD)).U (fun cb=>
 (wT (cX,eG,fM,cL,cb)).U (fun(fe,fK,dR,f6,k7)=>
 (bg dR 0 (J dR)).U (fun eg=>
 (bg f6 0 (J f6)).U (fun fN=>
 (bg k7 0 (J k7)).U (fun f7=>
 (bg cg 0 (J cg)).U (fun k8=>
 (bg bB 0 (J bB)).U (fun jk=>
 (bg c9 0 (J c9)).U (fun dt=>
 (pI ((fe,fK,eg,fN,f7),db,fV,k8,jk,dt)).U (fun b38=>
 aw (eC b38)
 (some false)
 ((rO (i0,i1,l2,l3,l4)).U (fun(kv,mG,la,pi,HZ)=>
 (bg ib 0 (J ib)).U (fun Xs=>
 (bg cV 0 (J cV)).U (fun nz=>
 (bg dD 0 (J dD)).U (fun f8=>
 (bg la 0 (J la)).U (fun ic=>
 (bg pi 0 (J pi)).U (fun gz=>
 (bg HZ 0 (J HZ)).U (fun eW=>
 (pI ((cX,eG,Xs,nz,f8),kv,mG,ic,gz,eW)).U (fun b50=>
 aw (eC b50)
 (some false)
 ((ae 0 (J ib) (J ib)).U (fun _=>
 (ae 0 (J cV) (J cV)).U (fun _=>
 (ae 0 (J dD) (J dD)).U (fun _=>
 (uY ((cX,eG,ib,cV,dD),(1:Int))).U (fun(jF,mK,mL,ek)=>
 aw (bc jF (0:Int))
 (some false)
 ((bg dR 0 (J dR)).U (fun dO=>
 (bg f6 0 (J f6)).U (fun j7=>
 (bg k7 0 (J k7)).U (fun v8=>
 (bg cg 0 (J cg)).U (fun Dn=>
 (bg bB 0 (J bB)).U (fun pj=>
 (bg c9 0 (J c9)).U (fun v9=>
 (pI ((fe,fK,dO,j7,v8),db,fV,Dn,pj,v9)).U (fun b61=>
 aw (eC b61)
 (some false)
 ((ae 0 (J dR) (J dR)).U (fun _=>
 (ae 0 (J f6) (J f6)).U (fun _=>
 (ae 0 (J k7) (J k7)).U (fun _=>
 (uY ((fe,fK,dR,f6,k7),(1:Int))).U (fun(jG,oe,jl,lZ)=>
 (bg oe 0 (J dR)).U (fun rq=>
 (bg jl 0 (J f6)).U (fun Dp=>
 (bg lZ 0 (J k7)).U (fun pn=>
 (te ((fe,fK,rq,Dp,pn),(1:Int))).U (fun qf=>
 aw (bc qf (0:Int))
 (some false)
 (aw (dB qf jG)
 (some false)
 ((rO (i0,i1,l2,l3,l4)).U (fun(uh,rl,oh,nA,jm)=>
 (bg oh 0 (J oh)).U (fun iP=>
 (bg nA 0 (J nA)).U (fun wa=>
 (bg jm 0 (J jm)).U (fun N5=>
 (wT (uh,rl,iP,wa,N5)).U (fun(jJ,hZ,Az,iQ,gN)=>
 (bg Az 0 (J Az)).U (fun gO=>
 (bg iQ 0 (J iQ)).U (fun yj=>
 (bg gN 0 (J gN)).U (fun yk=>
 (bg cg 0 (J cg)).U (fun nB=>
 (bg bB 0 (J bB)).U (fun Dq=>
 (bg c9 0 (J c9)).U (fun j8=>
 (pI ((jJ,hZ,gO,yj,yk),db,fV,nB,Dq,j8)).U (fun b89=>
 aw (eC b89)
 (some false)
 ((bg oe 0 (J dR)).U (fun gP=>
 (bg jl 0 (J f6)).U (fun lb=>
 (bg lZ 0 (J k7)).U (fun mN=>
 (te ((fe,fK,gP,lb,mN),(1:Int))).U (fun pf=>
 aw (bc pf (0:Int))
 (some false)
 (aw (dB pf jG)
 (some false)
 (some true))))))))))))))))))))))))))))))))))))))))))))))))))))))))))))))))))))))))
theorem acx (x:Int×Int×(List Int)×(List (Int×Int×(List Int)))×(List Int)) (y:Bool) (h:EA x=some y):JQ aA x=some y:=by
 obtain⟨tp,tq,m7,nO,oM⟩:=x
 simp only[EA] at h
 split at h
 ·rename_i hw
  rw[<-h]
  simp only[JQ]
  rw[akS (o:=y5 ((tp,tq,m7,nO,oM),1048576)) (s:=fR (tp,tq,m7,nO,oM)) (if_pos ⟨by constructor<;>omega,hw⟩)]
  by_cases c0:((fR (tp,tq,m7,nO,oM):Nat):Int)<=1048576
  case neg=>rw[if_neg c0]
  rw[if_pos c0]
  obtain⟨r0,hs,hi,z0⟩:=abD (tp,tq,m7,nO,oM) (by omega)
  obtain⟨DM,DN,iC,kE,oB⟩:=r0
  have t0:rO (tp,tq,m7,nO,oM)=some (tp,tq,m7,nO,oM):=ak4 _ (by omega)
  have q0:pI ((tp,tq,m7,nO,oM),(tp,tq,m7,nO,oM))=some true:=US _ (by omega)
  have:=qP m7
  have:=Gg nO
  have:=qP oM
  have w0:pI ((DM,DN,iC,kE,oB),(DM,DN,iC,kE,oB))=some true:=US _ (by omega)
  have:=qP iC
  have:=Gg kE
  have:=qP oB
  simp only[fR] at*
  have m0:uY ((tp,tq,m7,nO,oM),(1:Int))=some ((1:Int)+(bP m7:Nat)+(dQ nO:Nat)+(bP oM:Nat),cQ m7 ((1:Int)),fu nO ((1:Int)+(bP m7:Nat)),cQ oM ((1:Int)+(bP m7:Nat)+(dQ nO:Nat))):=if_pos ⟨by omega,by(try simp only[fR]);omega⟩
  have k0:bc ((1:Int)+(bP m7:Nat)+(dQ nO:Nat)+(bP oM:Nat)) 0=false:=fh (by omega)
  have n0:uY ((DM,DN,iC,kE,oB),(1:Int))=some ((1:Int)+(bP iC:Nat)+(dQ kE:Nat)+(bP oB:Nat),cQ iC ((1:Int)),fu kE ((1:Int)+(bP iC:Nat)),cQ oB ((1:Int)+(bP iC:Nat)+(dQ kE:Nat))):=if_pos ⟨by omega,by(try simp only[fR]);omega⟩
  have d0:te ((DM,DN,cQ iC ((1:Int)),fu kE ((1:Int)+(bP iC:Nat)),cQ oB ((1:Int)+(bP iC:Nat)+(dQ kE:Nat))),(1:Int))=some ((1:Int)+(bP iC:Nat)+(dQ kE:Nat)+(bP oB:Nat)):=adO (DM,DN,iC,kE,oB) ((1:Int)) ⟨by omega,by(try simp only[fR]);omega⟩
  have kk0:bc ((1:Int)+(bP iC:Nat)+(dQ kE:Nat)+(bP oB:Nat)) 0=false:=fh (by omega)
  have agj:bg (cQ iC ((1:Int))) 0 (J iC)=some (cQ iC ((1:Int))):=wO (AB iC ((1:Int)))
  have agk:bg (fu kE ((1:Int)+(bP iC:Nat))) 0 (J kE)=some (fu kE ((1:Int)+(bP iC:Nat))):=wO (H5 kE ((1:Int)+(bP iC:Nat)))
  have agl:bg (cQ oB ((1:Int)+(bP iC:Nat)+(dQ kE:Nat))) 0 (J oB)=some (cQ oB ((1:Int)+(bP iC:Nat)+(dQ kE:Nat))):=wO (AB oB ((1:Int)+(bP iC:Nat)+(dQ kE:Nat)))
  simp only[au,ik,bq,hs,hi,aiA,xl,air,ais,t0,q0,w0,m0,k0,n0,d0,kk0,agj,agk,agl]
 ·cases h
end Go.Am
