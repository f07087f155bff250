/- L_FnChains: the law FnChains. No condition. -/
import Derived.Test.YtbgmbplglejidaaM77
set_option linter.unusedVariables false
set_option linter.unusedSimpArgs false
namespace Go.Am
def KS:List Int->Option Bool:=fun _=>some true
theorem Q3 (x:Int):hZ x x=false:=bne_self_eq_false _
theorem aeM (x:Int):cz x x=true:=beq_self_eq_true _
def vu:ak:=[(.one,[.list [.int .u8]])]
def SA:ak:=[(.one,[.bool])]
def akc:aN:=[]
def FL (NN:Nat):(List Int)->(Option Bool):=
 (fun(l0:(List Int))=>
 aC (bO (1048576:Int) (aI (J l0)))
 (some true)
 ((zY (l0,(0:Int))).aa (fun i1=>
 (zV (l0,(10:Int))).aa (fun l2=>
 (zU (l0,(30:Int),i1,l2)).aa (fun(i3,l4)=>
 (tp (i3,l4)).aa (fun(l5,l6,l7)=>
 (c6 l5 0 (J l5)).aa (fun l8=>
 (c6 l6 0 (J l6)).aa (fun l9=>
 (c6 l7 0 (J l7)).aa (fun ff=>
 (xo (i1,l8,l9,ff)).aa (fun((eS,dz),Hu)=>
 (c6 dz 0 (J dz)).aa (fun gm=>
 (xm (eS,gm)).aa (fun eU=>
 aC (ef Hu)
 (some false)
 ((c6 dz 0 (J dz)).aa (fun gn=>
 (pK (eS,gn)).aa (fun b17=>
 aC (ef b17)
 (some false)
 ((c6 dz 0 (J dz)).aa (fun lM=>
 (tp (eS,lM)).aa (fun(lO,je,dQ)=>
 (c6 lO 0 (J lO)).aa (fun fm=>
 (c6 je 0 (J je)).aa (fun jU=>
 (c6 dQ 0 (J dQ)).aa (fun iv=>
 (c6 l5 0 (J l5)).aa (fun f9=>
 (c6 l6 0 (J l6)).aa (fun fg=>
 (c6 l7 0 (J l7)).aa (fun mL=>
 (zR ((fm,jU,iv),f9,fg,mL)).aa (fun b28=>
 aC (ef b28)
 (some false)
 (aC (hZ (aI (J eU)) (eG .i64 (aI (J l2)) (1:Int)))
 (some false)
 (cd ((ai 0 (J eU) (J eU)).aa (fun _=>
 (ai 0 (J l5) (J l5)).aa (fun _=>
 (ai 0 (J l6) (J l6)).aa (fun _=>
 (ai 0 (J l7) (J l7)).aa (fun _=>
 (ai 0 (J dz) (J dz)).aa (fun _=>
 bN NN (fun(((iw,rG,kl,gk,oW,yM,jc,uD),jd,kK,iz,g9,fy,hJ):(((List Int)×(Int×((List Int)×(Int×(Int×((List Int)×(Int×Int)))))))×(Int×((List Int)×((List Int)×((List Int)×((List (Int×(Int×(Int×(List Int)))))×(List Int))))))))=>
 aC (bO uD jc)
 ((dK yM uD).aa (fun mK=>
 (ai 0 (J hJ) (J hJ)).aa (fun _=>
 (ai 0 (J kK) (J kK)).aa (fun _=>
 (ai 0 (J iz) (J iz)).aa (fun _=>
 (ai 0 (J g9) (J g9)).aa (fun _=>
 (ai 0 (J fy) (J fy)).aa (fun _=>
 some (Sum.inl ((iw,rG,kl,gk,c7 .i64 oW mK,yM,jc,bS .i64 uD 1),jd,kK,iz,g9,fy,hJ)))))))))
 (((ai 0 (J hJ) (J hJ)).aa (fun _=>
 (ai 0 (J kK) (J kK)).aa (fun _=>
 (ai 0 (J iz) (J iz)).aa (fun _=>
 (ai 0 (J g9) (J g9)).aa (fun _=>
 (ai 0 (J fy) (J fy)).aa (fun _=>
 some (Sum.inl ((oW,iw,gk,kl,rG),jd,kK,iz,g9,fy,hJ)))))))).aa (fun km=>
 some (Sum.inr km))))
 ((l0,i1,l2,(1:Int),(1:Int),l2,aI (J l2),(0:Int)),eS,l5,l6,l7,dz,eU)))))))
 (fun((qk,iA,oZ,rN,sQ),o7,rO,s0,mN,rP,lP)=>
 aC (hZ (aI (J mN)) qk)
 (some false)
 (cd ((ai 0 (J lP) (J lP)).aa (fun _=>
 (ai 0 (J rO) (J rO)).aa (fun _=>
 (ai 0 (J s0) (J s0)).aa (fun _=>
 (ai 0 (J mN) (J mN)).aa (fun _=>
 (ai 0 (J rP) (J rP)).aa (fun _=>
 bN NN (fun(((iB,yC,lQ,Bo,uE,yD,qm),rM,qt,s6,ph,wD,rQ):(((List Int)×(Int×((List Int)×(Int×(Int×(Int×Int))))))×(Int×((List Int)×((List Int)×((List Int)×((List (Int×(Int×(Int×(List Int)))))×(List Int))))))))=>
 aC (bO qm yD)
 ((fj qm (J rQ)).aa (fun k69=>
 (dv rQ (aW 0 k69)).aa (fun OY=>
 (dK lQ qm).aa (fun D9=>
 (y8 .i64 uE (c7 .i64 Bo D9)).aa (fun i72=>
 (c6 ph 0 (J ph)).aa (fun wE=>
 (xq (yC,c7 .i64 Bo D9,i72,wE)).aa (fun o9=>
 aC (hZ o9 OY)
 (some (Sum.inr (Sum.inr false)))
 ((ai 0 (J rQ) (J rQ)).aa (fun _=>
 (ai 0 (J qt) (J qt)).aa (fun _=>
 (ai 0 (J s6) (J s6)).aa (fun _=>
 (ai 0 (J ph) (J ph)).aa (fun _=>
 (ai 0 (J wD) (J wD)).aa (fun _=>
 some (Sum.inl ((iB,yC,lQ,c7 .i64 Bo D9,uE,yD,bS .i64 qm 1),rM,qt,s6,ph,wD,rQ)))))))))))))))
 (((ai 0 (J qt) (J qt)).aa (fun _=>
 (ai 0 (J s6) (J s6)).aa (fun _=>
 (ai 0 (J ph) (J ph)).aa (fun _=>
 (ai 0 (J wD) (J wD)).aa (fun _=>
 some (Sum.inl ((iB,uE),rM,qt,s6,ph,wD))))))).aa (fun Ej=>
 some (Sum.inr Ej))))
 ((iA,sQ,rN,oZ,qk,aI (J lP),(0:Int)),o7,rO,s0,mN,rP,lP)))))))
 (fun((Pz,sR),sS,Jj,BA,lR,iL)=>
 (zZ (Pz,(90:Int),(0:Int),eG .i64 sR 1)).aa (fun OZ=>
 (c6 Jj 0 (J Jj)).aa (fun Ek=>
 (c6 BA 0 (J BA)).aa (fun l85=>
 (c6 lR 0 (J lR)).aa (fun BB=>
 (zB ((Ek,l85,BB),OZ)).aa (fun(yO,b88)=>
 aC (b88)
 ((c6 iL 0 (J iL)).aa (fun uJ=>
 (c6 yO 0 (J yO)).aa (fun l90=>
 (xn ((sS,uJ),l90)).aa (fun Eb=>
 (fj OZ (J lR)).aa (fun k92=>
 (dv lR (aW 0 k92)).aa (fun O1=>
 some (cz Eb O1)))))))
 (some false))))))))))))))))))))))))))))))))))))
theorem am3 {p:Int} (hp:p∈[(2:Int),3,7,101,1000003]):ct p=true:=by
 simp only[List.mem_cons,List.not_mem_nil,or_false] at hp
 rcases hp with rfl|rfl|rfl|rfl|rfl
 ·exact am0
 ·exact am1
 ·exact am2
 ·exact amZ
 ·exact amY
theorem IJ {D:List Int} (hd:∀v∈D,1<=v/\v<=3):∀i,i<=D.length->1<=fb D i/\fb D i<=3^i
 |0,_=>⟨Nat.le_refl 1,Nat.le_refl 1⟩
 |i+1,hi=>by
  have ih:=IJ hd i (by omega)
  have h3:=hd _ (jN (l:=D) (i:=i) (by omega))
  refine⟨Nat.mul_pos ih.1 (by omega),?_⟩
  rw[Nat.pow_succ]
  exact Nat.mul_le_mul ih.2 (by omega)
theorem acI {D:List Int} (hd:∀v∈D,1<=v/\v<=3):∀q i,i+q=D.length->1<=aM D i/\aM D i<=3^q:=by
 intro q
 induction q with
 |zero=>intro i hi;have:i=D.length:=hi;subst this;rw[nA];exact⟨Nat.le_refl 1,Nat.le_refl 1⟩
 |succ q ih=>
  intro i hi
  have h3:=hd _ (jN (l:=D) (i:=i) (by omega))
  have ih:=ih (i+1) (by omega)
  rw[lY (by omega),Nat.pow_succ,Nat.mul_comm]
  exact⟨Nat.mul_pos ih.1 (by omega),Nat.mul_le_mul ih.2 (by omega)⟩
theorem Xc {D:List Int} (hd:∀v∈D,1<=v/\v<=3) {i:Nat} (hi:i<D.length):∃d:Nat,D[i]? =some (d:Int)/\(D.getD i 0).toNat=d/\1<=d/\d<=3:=by
 have h3:=hd _ (jN hi)
 refine⟨(D.getD i 0).toNat,?_,rfl,by omega,by omega⟩
 rw[nb hi]
 congr 1
 omega
theorem adf (l0:List Int):FL ax l0=some true:=by
 simp only[FL]
 by_cases hl:l0.length<=1048576
 ·rw[aR (cZ (by unfold aI J;omega))]
  obtain⟨p,e1,hp⟩:=am4 l0 0 hl (by decide)
  have bx:=am3 hp
  obtain⟨D,e2,hD,hd⟩:=aev l0 10 hl (by decide)
  obtain⟨L,e3,H,nV⟩:=ad4 l0 30 p D hl (by decide) bx hD hd
  obtain⟨L',g1,g2,g3,g4,g5⟩:=H.ad3
  obtain⟨t1,t2,t3,t8,hP⟩:=Kz H.ok
  have hLD:L.length=D.length:=by rw[<-nV,gy]
  have dw:L'.length=L.length:=by rw[<-gy,<-gy,g3]
  rw[nV] at t3 hP
  rw[e1]
  try simp only[fT]
  rw[e2]
  try simp only[fT]
  rw[e3]
  try simp only[fT]
  rw[Ve H.ok]
  have OQ:=H.Vd
  have uv:∀n,n<br D->(ic p L).2.2.getD n 0=oz p L n:=fun n hn=>by
   rw[Fp,nV]
   show(bP _ _).getD n 0=_
   rw[List.getD_eq_getElem?_getD,mT _ hn]
   rfl
  have hA:eX p (ic p L).2.2:=by rw[Fp];exact RM fun k=>Vr bx L k
  have Bc:=an0 (ic p L) (by omega) (by omega) (by omega)
  have hT:tp (p,L')=some (ic p L):=by rw[Ve g2,g4]
  have NQ:(ic p L).1.length<=12:=by omega
  have NP:(ic p L).2.1=D:=by rw[Fp,nV]
  generalize ic p L=T at g1 Bc hT t1 t2 t3 OQ uv hA NQ NP
  obtain⟨a1,a2,a3⟩:=T
  dsimp only at t1 t2 t3 OQ uv hA NQ NP
  subst NP
  try simp only[fT,iQ]
  rw[g1]
  try simp only[fT,iQ]
  rw[adQ g2]
  try simp only[fT,iQ]
  rw[show ef true=false from rfl,Av]
  rw[alX g2]
  try simp only[fT]
  rw[show ef true=false from rfl,Av]
  try simp only[fT,iQ]
  rw[hT]
  try simp only[fT,iQ]
  rw[Bc]
  try simp only[fT]
  rw[show ef true=false from rfl,Av]
  have Yy:(mg L').length=a2.length - 1:=by rw[adS,dw,hLD]
  rw[show aI (J (mg L'))=((a2.length - 1:Nat):Int) from congrArg (fun n:Nat=>(n:Int)) Yy]
  rw[show eG .i64 (aI (J a2)) 1=((a2.length - 1:Nat):Int) from by
   rw[show aI (J a2)=(a2.length:Int) from rfl,lW (by omega) (by omega)];omega,Q3,Av]
  simp only[cH,fT]
  rw[fF (fun i=>((l0,p,a2,(1:Int),((fb a2 i:Nat):Int),a2,aI (J a2),(i:Int)),p,a1,a2,a3,L',mg L')) a2.length ?a1 ?a2 ?a3 (dC (by omega))]
  case a1=>
   intro i hi
   dsimp only
   obtain⟨d,k1,k2,k3,k4⟩:=Xc hd hi
   have hh:=IJ hd i (by omega)
   have h4:3^i<=3^4:=Nat.pow_le_pow_right (by decide) (by omega)
   have NO:(3:Nat)^4=81:=by decide
   rw[aX (dc (by show(i:Int)<(a2.length:Int);omega)),dY,k1]
   try simp only[fT]
   rw[BL (by omega) (by omega),j3 (by omega)]
   show some (Sum.inl _)=some (Sum.inl ((l0,p,a2,(1:Int),((fb a2 i*(a2.getD i 0).toNat:Nat):Int),a2,aI (J a2),((i+1:Nat):Int)),p,a1,a2,a3,L',mg L'))
   rw[k2]
  case a2=>
   dsimp only
   rw[aR (cZ (by show(a2.length:Int)<=(a2.length:Int);omega))]
   try rfl
  case a3=>rfl
  rw[g8]
  dsimp only
  have oP:fb a2 a2.length=br a2:=by have:=head_tail a2 a2.length (Nat.le_refl _);rw[nA,Nat.mul_one] at this;exact this
  rw[oP,show aI (J a3)=((br a2:Nat):Int) from congrArg (fun n:Nat=>(n:Int)) t3,Q3,Av]
  rw[fF (fun i=>((l0,p,a2,((fb a2 i:Nat):Int),((br a2:Nat):Int),((a2.length - 1:Nat):Int),(i:Int)),p,a1,a2,a3,L',mg L')) (a2.length - 1) ?b1 ?b2 ?b3 (dC (by omega))]
  case b1=>
   intro i hi
   dsimp only
   obtain⟨d,k1,k2,k3,k4⟩:=Xc hd (i:=i) (by omega)
   have hh:=IJ hd i (by omega)
   have DQ:=IJ hd (i+1) (by omega)
   have ht1:=acI hd (a2.length - (i+1)) (i+1) (by omega)
   have h4:3^(i+1)<=3^3:=Nat.pow_le_pow_right (by decide) (by omega)
   have h5:3^i<=3^3:=Nat.pow_le_pow_right (by decide) (by omega)
   have h6:3^(a2.length - (i+1))<=3^3:=Nat.pow_le_pow_right (by decide) (by omega)
   have NO:(3:Nat)^3=27:=by decide
   have hhd:fb a2 (i+1)=fb a2 i*d:=by rw[<-k2];rfl
   have hq:br a2/fb a2 (i+1)=aM a2 (i+1):=by
    rw[<-head_tail a2 (i+1) (by omega),Nat.mul_comm]
    exact Nat.mul_div_cancel _ (by omega)
   rw[aX (dc (by omega)),q9 (by show i<(mg L').length;omega)]
   try simp only[fT]
   rw[gR,show dv (mg L') i=some ((mg L').getD i 0) from nb (by omega)]
   try simp only[fT]
   rw[dY,k1]
   try simp only[fT]
   rw[BL (by omega) (by omega),<-hhd,Ww (by omega) (by omega),hq]
   try simp only[fT]
   have hlen:a3.length=fb a2 (i+1)*aM a2 (i+1):=by rw[t3,head_tail a2 (i+1) (by omega)]
   have fx:de p (fb a2 (i+1)) (aM a2 (i+1)) (bY (aM a2 (i+1)) a3):=Ab hlen hA
   have hR:=ank (M:=bY (aM a2 (i+1)) a3) bx (by omega) (by omega) fx (by rw[sE hlen])
   rw[sE hlen] at hR
   rw[hR]
   try simp only[fT]
   have hb:(((bK p (fb a2 (i+1)) (bY (aM a2 (i+1)) a3) (aM a2 (i+1))).2.1.length:Nat):Int)=(mg L').getD i 0:=by
    have k5:=g5 i (by omega)
    rw[nV] at k5
    rw[adR (by omega)]
    have k6:(bK p (fb a2 (i+1)) (bY (aM a2 (i+1)) a3) (aM a2 (i+1))).2.1.length=(bK p (fb a2 (i+1)) (KC p L a2 (i+1)) (aM a2 (i+1))).2.1.length:=by
     refine aa8 bx fx (fun _ _ _ _=>El (eF bx) _ _ _ _ _) fun u hu w hw=>?_
     have hn:u*aM a2 (i+1)+w<br a2:=by
      rw[<-head_tail a2 (i+1) (by omega)]
      exact uG hu hw
     have:=uv _ hn
     unfold oz at this
     rw[nV] at this
     exact this
    rw[k6,k5]
    obtain⟨b,q,c,d',z1,_⟩:=abY ((Iq g2).1 i (by omega))
    rw[z1]
    rfl
   rw[hb,Q3,Av]
   try simp only[cH,fT]
   rw[j3 (by omega)]
  case b2=>
   dsimp only
   rw[aR (cZ (by omega))]
   try simp only[cH,fT]
   try rfl
  case b3=>
   rw[show aI (J (mg L'))=((a2.length - 1:Nat):Int) from congrArg (fun n:Nat=>(n:Int)) Yy]
   rfl
  rw[g8]
  dsimp only
  have dL:1<=br a2:=by have:=(acI hd a2.length 0 (by omega)).1;rw[zt] at this;exact this
  rw[show eG .i64 ((br a2:Nat):Int) 1=((br a2 - 1:Nat):Int) from by rw[lW (by omega) (by omega)];omega]
  obtain⟨x,e4,hx⟩:=aoz l0 90 0 ((br a2 - 1:Nat):Int) hl (by decide) (by decide) (by omega) (by omega)
  rw[e4]
  try simp only[fT]
  obtain⟨k,rfl⟩:∃k:Nat,x=(k:Int):=⟨x.toNat,by omega⟩
  have hk:k<br a2:=by omega
  rw[ahZ OQ NQ hk]
  try simp only[fT,Mm,iQ]
  have Ol:n3 (bf L') (cP a2 k)=true:=by
   rw[g3,nV]
   have hG:=(HY H.ok).1
   rw[nV] at hG
   exact O3 hG k
  have bD:=JB g2
  have hAt:xn ((p,L'),cP a2 k)=some (m5 p L' (cP a2 k)):=by
   simp only[xn,KT]
   rw[if_pos ⟨bD,by show(bP _ _).length<=_;rw[fR];omega⟩,if_pos ⟨g2,Ol⟩]
  rw[hAt]
  try simp only[fT]
  rw[q9 (by show k<a3.length;omega)]
  try simp only[fT]
  rw[gR,show dv a3 k=some (a3.getD k 0) from nb (by omega)]
  try simp only[fT]
  have ag7:m5 p L' (cP a2 k)=a3.getD k 0:=by
   have z1:(ic p L').2.2.getD k 0=a3.getD k 0:=by rw[Ve g2] at hT;injection hT with hT;rw[hT]
   rw[<-z1]
   unfold ic
   show _=(bP _ _).getD k 0
   rw[g3,nV,List.getD_eq_getElem?_getD,mT _ hk]
   rfl
  rw[ag7,aeM]
 ·rw[aX (dc (by unfold aI J;omega))]
theorem aga (x:List Int) (y:Bool) (h:KS x=some y):FL ax x=some y:=by
 rw[adf];exact h
end Go.Am
