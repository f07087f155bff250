/- L_DifferentWord: the law FnExactDifferentWord. No condition. -/
import Derived.Test.YtifmggmhdcdgbaaM56
set_option linter.unusedVariables false
set_option linter.unusedSimpArgs false
namespace Go.Am
theorem ado (x y:bX) (h:ff x<=1048576) (h':ff y<=1048576):∃r0 r1,rC (x,y)=some (r0,r1)/\w6 (x,y)=some (r0,r1)/\dj r0<=1048576:=by
 have cq:∃r:Wd×Bool,(if nd x y=true then xC x y else([],false))=r/\r.1.length<=1048576:=by
  by_cases ha:nd x y=true
  ·rw[if_pos ha]
   obtain⟨p,n,m,a,b,a2,b2,ms,ms2,rfl,rfl,H,H2,hl⟩:=Cp ha
   have hw:=Mf H H2 hl
   refine⟨_,rfl,?_⟩
   unfold xC
   split
   ·rename_i w hf
    have:=(hw w (List.mem_of_find?_eq_some hf)).2
    show w.length<=1048576
    omega
   ·decide
  ·rw[if_neg ha]
   exact⟨_,rfl,by decide⟩
 obtain⟨⟨r0,r1⟩,e,hr⟩:=cq
 have e1:rC (x,y)=some (r0,r1):=by
  simp only[rC]
  rw[if_pos ⟨h,h'⟩,e]
 exact⟨r0,r1,e1,e1,hr⟩
def Fk:(Int×Int×(List Int)×(List (Int×Int×(List Int)))×(List Int))×(Int×Int×(List Int)×(List (Int×Int×(List Int)))×(List Int))->Option Bool:=fun((a0,a1):(Int×Int×(List Int)×(List (Int×Int×(List Int)))×(List Int))×(Int×Int×(List Int)×(List (Int×Int×(List Int)))×(List Int)))=>if(zd a0&&zd a1)=true then some true else none
def vb:ao:=[(.agg,[.int .i64,.int .i64,.list [.int .i64],.list [.int .i64,.int .i64,.list [.int .i64]],.list [.int .i64]]),(.agg,[.int .i64,.int .i64,.list [.int .i64],.list [.int .i64,.int .i64,.list [.int .i64]],.list [.int .i64]])]
def RO:ao:=[(.one,[.bool])]
def ajY:aY:=[]
def K3 (NN:Nat):((Int×(Int×((List Int)×((List (Int×(Int×(List Int))))×(List Int)))))×(Int×(Int×((List Int)×((List (Int×(Int×(List Int))))×(List Int))))))->(Option Bool):=
 (fun(((i0,i1,l2,l3,l4),i5,i6,l7,l8,l9):((Int×(Int×((List Int)×((List (Int×(Int×(List Int))))×(List Int)))))×(Int×(Int×((List Int)×((List (Int×(Int×(List Int))))×(List Int)))))))=>
 (uV ((i0,i1,l2,l3,l4),(1048576:Int))).U (fun cf=>
 aw (bi cf (0:Int))
 (some true)
 ((uV ((i5,i6,l7,l8,l9),cf)).U (fun cF=>
 aw (bi cF (0:Int))
 (some true)
 ((mn (i0,i1,l2,l3,l4)).U (fun(cU,dB,fW,cg,dL)=>
 (mn (i5,i6,l7,l8,l9)).U (fun(jk,fj,fM,fy,km)=>
 (bG fW 0 (J fW)).U (fun eo=>
 (bG cg 0 (J cg)).U (fun fN=>
 (bG dL 0 (J dL)).U (fun fz=>
 (bG fM 0 (J fM)).U (fun eE=>
 (bG fy 0 (J fy)).U (fun dM=>
 (bG km 0 (J km)).U (fun ui=>
 (rC ((cU,dB,eo,fN,fz),jk,fj,eE,dM,ui)).U (fun(ko,LB)=>
 (mn (i0,i1,l2,l3,l4)).U (fun(mK,iQ,dc,dN,dO)=>
 (mn (i5,i6,l7,l8,l9)).U (fun(k7,kg,dC,gj,fa)=>
 (bG dc 0 (J dc)).U (fun eV=>
 (bG dN 0 (J dN)).U (fun kt=>
 (bG dO 0 (J dO)).U (fun D5=>
 (bG dC 0 (J dC)).U (fun Bc=>
 (bG gj 0 (J gj)).U (fun PE=>
 (bG fa 0 (J fa)).U (fun wi=>
 (w6 ((mK,iQ,eV,kt,D5),k7,kg,Bc,PE,wi)).U (fun(fO,Vh)=>
 (bG fO 0 (J fO)).U (fun nD=>
 (bG ko 0 (J ko)).U (fun iA=>
 (mh (nD,iA)).U (fun b50=>
 aw (dY b50)
 (some false)
 (aw (Eg Vh LB)
 (some false)
 ((mn (i0,i1,l2,l3,l4)).U (fun(jn,jJ,lc,eu,dP)=>
 (bG dc 0 (J dc)).U (fun lQ=>
 (bG dN 0 (J dN)).U (fun nE=>
 (bG dO 0 (J dO)).U (fun yB=>
 (bG lc 0 (J lc)).U (fun pO=>
 (bG eu 0 (J eu)).U (fun wk=>
 (bG dP 0 (J dP)).U (fun jq=>
 (rA ((mK,iQ,lQ,nE,yB),jn,jJ,pO,wk,jq)).U (fun b62=>
 aw (dY b62)
 (some false)
 ((mn (i5,i6,l7,l8,l9)).U (fun(kj,i64,lS,jN,oL)=>
 (bG dC 0 (J dC)).U (fun lT=>
 (bG gj 0 (J gj)).U (fun lU=>
 (bG fa 0 (J fa)).U (fun nF=>
 (bG lS 0 (J lS)).U (fun nG=>
 (bG jN 0 (J jN)).U (fun D6=>
 (bG oL 0 (J oL)).U (fun D7=>
 (rA ((k7,kg,lT,lU,nF),kj,i64,nG,D6,D7)).U (fun b74=>
 aw (dY b74)
 (some false)
 ((ab 0 (J dc) (J dc)).U (fun _=>
 (ab 0 (J dN) (J dN)).U (fun _=>
 (ab 0 (J dO) (J dO)).U (fun _=>
 (uU ((mK,iQ,dc,dN,dO),(1:Int))).U (fun(yo,yC,l77,l78)=>
 (ab 0 (J dC) (J dC)).U (fun _=>
 (ab 0 (J gj) (J gj)).U (fun _=>
 (ab 0 (J fa) (J fa)).U (fun _=>
 (uU ((k7,kg,dC,gj,fa),yo)).U (fun(fL,PF,fY,eF)=>
 aw (bi fL (0:Int))
 (some false)
 ((bG fO 0 (J fO)).U (fun fb=>
 (bG ko 0 (J ko)).U (fun nH=>
 (mh (fb,nH)).U (fun b85=>
 aw (dY b85)
 (some false)
 (aw (Eg Vh LB)
 (some false)
 ((ab 0 (J fO) (J fO)).U (fun _=>
 (o9 (fO,(1:Int))).U (fun(ub,D8)=>
 (bG D8 0 (J fO)).U (fun nI=>
 (tf (nI,(1:Int))).U (fun ud=>
 aw (bi ud (0:Int))
 (some false)
 (aw (dd ud ub)
 (some false)
 ((mn (i0,i1,l2,l3,l4)).U (fun(q8,vU,pQ,yD,wm)=>
 (mn (i5,i6,l7,l8,l9)).U (fun(jL,q9,jO,iB,kv)=>
 (bG pQ 0 (J pQ)).U (fun nC=>
 (bG yD 0 (J yD)).U (fun oI=>
 (bG wm 0 (J wm)).U (fun ra=>
 (bG jO 0 (J jO)).U (fun pK=>
 (bG iB 0 (J iB)).U (fun aiC=>
 (bG kv 0 (J kv)).U (fun oJ=>
 (w6 ((q8,vU,nC,oI,ra),jL,q9,pK,aiC,oJ)).U (fun(gi,acr)=>
 (bG gi 0 (J gi)).U (fun lb=>
 (bG ko 0 (J ko)).U (fun yz=>
 (mh (lb,yz)).U (fun acs=>
 aw (dY acs)
 (some false)
 (aw (Eg acr LB)
 (some false)
 ((bG D8 0 (J fO)).U (fun aiD=>
 (tf (aiD,(1:Int))).U (fun oz=>
 aw (bi oz (0:Int))
 (some false)
 (aw (dd oz ub)
 (some false)
 (some true))))))))))))))))))))))))))))))))))))))))))))))))))))))))))))))))))))))))))))))))))))
theorem aef (x:(Int×Int×(List Int)×(List (Int×Int×(List Int)))×(List Int))×(Int×Int×(List Int)×(List (Int×Int×(List Int)))×(List Int))) (y:Bool) (h:Fk x=some y):K3 aD x=some y:=by
 obtain⟨⟨qn,qp,ik,iI,jd⟩,⟨tm,tn,mq,m9,n6⟩⟩:=x
 simp only[Fk,Bool.and_eq_true] at h
 split at h
 ·rename_i hw
  rw[<-h]
  simp only[K3]
  rw[abG (o:=uV ((qn,qp,ik,iI,jd),1048576)) (s:=ff (qn,qp,ik,iI,jd)) (if_pos ⟨by constructor<;>omega,hw.1⟩)]
  by_cases c0:((ff (qn,qp,ik,iI,jd):Nat):Int)<=1048576
  case neg=>rw[if_neg c0]
  rw[if_pos c0]
  rw[abG (o:=uV ((tm,tn,mq,m9,n6),1048576 - (ff (qn,qp,ik,iI,jd):Nat))) (s:=ff (tm,tn,mq,m9,n6)) (if_pos ⟨by constructor<;>omega,hw.2⟩)]
  by_cases c1:((ff (tm,tn,mq,m9,n6):Nat):Int)<=1048576 - (ff (qn,qp,ik,iI,jd):Nat)
  case neg=>rw[if_neg c1]
  rw[if_pos c1]
  obtain⟨r0,r1,hs,hi,z0⟩:=ado (qn,qp,ik,iI,jd) (tm,tn,mq,m9,n6) (by omega) (by omega)
  have t0:mn (qn,qp,ik,iI,jd)=some (qn,qp,ik,iI,jd):=abR _ (by omega)
  have q0:rA ((qn,qp,ik,iI,jd),(qn,qp,ik,iI,jd))=some true:=V6 _ (by omega)
  have:=tr ik
  have:=LK iI
  have:=tr jd
  have t1:mn (tm,tn,mq,m9,n6)=some (tm,tn,mq,m9,n6):=abR _ (by omega)
  have q1:rA ((tm,tn,mq,m9,n6),(tm,tn,mq,m9,n6))=some true:=V6 _ (by omega)
  have:=tr mq
  have:=LK m9
  have:=tr n6
  have w0:mh (r0,r0)=some true:=adk _ (by omega)
  have:=tr r0
  simp only[ff] at*
  have m0:uU ((qn,qp,ik,iI,jd),(1:Int))=some ((1:Int)+(cL ik:Nat)+(io iI:Nat)+(cL jd:Nat),dX ik ((1:Int)),rf iI ((1:Int)+(cL ik:Nat)),dX jd ((1:Int)+(cL ik:Nat)+(io iI:Nat))):=if_pos ⟨by omega,by(try simp only[ff]);omega⟩
  have m1:uU ((tm,tn,mq,m9,n6),(1:Int)+(cL ik:Nat)+(io iI:Nat)+(cL jd:Nat))=some ((1:Int)+(cL ik:Nat)+(io iI:Nat)+(cL jd:Nat)+(cL mq:Nat)+(io m9:Nat)+(cL n6:Nat),dX mq ((1:Int)+(cL ik:Nat)+(io iI:Nat)+(cL jd:Nat)),rf m9 ((1:Int)+(cL ik:Nat)+(io iI:Nat)+(cL jd:Nat)+(cL mq:Nat)),dX n6 ((1:Int)+(cL ik:Nat)+(io iI:Nat)+(cL jd:Nat)+(cL mq:Nat)+(io m9:Nat))):=if_pos ⟨by omega,by(try simp only[ff]);omega⟩
  have k0:bi ((1:Int)+(cL ik:Nat)+(io iI:Nat)+(cL jd:Nat)+(cL mq:Nat)+(io m9:Nat)+(cL n6:Nat)) 0=false:=eN (by omega)
  have n0:o9 (r0,(1:Int))=some ((1:Int)+(cL r0:Nat),dX r0 ((1:Int))):=if_pos ⟨by omega,by(try simp only[ff]);omega⟩
  have d0:tf (dX r0 ((1:Int)),(1:Int))=some ((1:Int)+(cL r0:Nat)):=afu r0 ((1:Int)) ⟨by omega,by(try simp only[ff]);omega⟩
  have kk0:bi ((1:Int)+(cL r0:Nat)) 0=false:=eN (by omega)
  have lr0:bG (dX r0 ((1:Int))) 0 (J r0)=some (dX r0 ((1:Int))):=Ca (Eb r0 ((1:Int)))
  simp only[aj,kE,bK,hs,hi,alJ,Ha,aly,alz,t0,q0,t1,q1,w0,m0,m1,k0,n0,d0,kk0,lr0]
 ·cases h
end Go.Am
