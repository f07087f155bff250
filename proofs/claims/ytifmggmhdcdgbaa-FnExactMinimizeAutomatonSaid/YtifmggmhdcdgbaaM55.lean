/- M53, M54, M55: parts of the proof. No condition. -/
import Derived.Test.YtifmggmhdcdgbaaM21
set_option linter.unusedVariables false
set_option linter.unusedSimpArgs false
section
namespace Go.Am
def kj (p:Int) (n k:Nat) (D:List Int) (m:c7):c7:=((k:Int),(k:Int),ai k k (ii p n k k (bu n D) (bu n (ai k n (du p n (bu n D) (bu n m.2.2))))))
def eu (x:dj):dj:=(x.1,((dG x).1.length:Int),bI (cR (dG x).1.length 0) 0 1,x.2.2.2.1.map (kj x.1 x.2.1.toNat (dG x).1.length (dG x).2),ai (dG x).1.length 1 (du x.1 x.2.1.toNat (bu x.2.1.toNat (dG x).2) (bu 1 x.2.2.2.2)))
def G5 (x:dj):Option dj:=if gG x=true then some (eu x) else none
def ta:dj->Option dj:=G5
def th:dj->Option dj:=G5
def Fl:ao:=[(.agg,[.int .i64,.int .i64,.list [.int .i64],.list [.int .i64,.int .i64,.list [.int .i64]],.list [.int .i64]])]
def Qm:ao:=[(.agg,[.int .i64,.int .i64,.list [.int .i64],.list [.int .i64,.int .i64,.list [.int .i64]],.list [.int .i64]])]
def agH:aW:=[]
def JN (NN:Nat):(Int×(Int×((List Int)×((List (Int×(Int×(List Int))))×(List Int)))))->(Option (Int×(Int×((List Int)×((List (Int×(Int×(List Int))))×(List Int)))))):=
 (fun((i0,i1,l2,l3,l4):(Int×(Int×((List Int)×((List (Int×(Int×(List Int))))×(List Int))))))=>
 (yU (i0,i1,l2,l3,l4)).U (fun(l5,i6,i7,l8)=>
 (ov (aL (J l5)) (aL (J l5)) 8).U (fun k9=>
 bK (aw (bc (0:Int) (aL (J l5)))
 ((dT (0:Int) k9).U (fun yd=>
 (dg (cR k9 (0:Int)) (aE 0 yd)).U (fun bZ=>
 (ae 0 0 (J (([]:List Int)))).U (fun _=>
 (ae 0 0 (J (([]:List (Int×(Int×(List Int))))))).U (fun _=>
 (ae 0 0 (J (([]:List Int)))).U (fun _=>
 (ae 0 k9 (J (bI (cR k9 (0:Int)) (aE 0 yd) (1:Int)))).U (fun _=>
 (ae 0 0 (J (([]:List (Int×(Int×(List Int))))))).U (fun _=>
 (ae 0 0 (J (([]:List Int)))).U (fun _=>
 some (Sum.inl ((i0,i1,l2,l3,l4),((0:Int),(0:Int)),(i6,i7,l8),(i0,aL (J l5)),([]:List Int),([]:List (Int×(Int×(List Int)))),([]:List Int),bI (cR k9 (0:Int)) (aE 0 yd) (1:Int),([]:List (Int×(Int×(List Int)))),([]:List Int))))))))))))
 ((ae 0 0 (J (([]:List Int)))).U (fun _=>
 (ae 0 0 (J (([]:List (Int×(Int×(List Int))))))).U (fun _=>
 (ae 0 0 (J (([]:List Int)))).U (fun _=>
 (ae 0 k9 (J (cR k9 (0:Int)))).U (fun _=>
 (ae 0 0 (J (([]:List (Int×(Int×(List Int))))))).U (fun _=>
 (ae 0 0 (J (([]:List Int)))).U (fun _=>
 some (Sum.inl ((i0,i1,l2,l3,l4),((0:Int),(0:Int)),(i6,i7,l8),(i0,aL (J l5)),([]:List Int),([]:List (Int×(Int×(List Int)))),([]:List Int),cR k9 (0:Int),([]:List (Int×(Int×(List Int)))),([]:List Int)))))))))))
 (fun((cq,cO,c8,bJ,cg),(jg,dX),(cX,eG,ib),(fW,ef),fM,cL,cb,j5,iN,dR)=>
 (rK (cq,(cX,eG,ib),aL (J cg),(1:Int),cg)).U (fun(hH,eU,eg)=>
 bK ((ae 0 (J fM) (J fM)).U (fun _=>
 (ae 0 (J cL) (J cL)).U (fun _=>
 (ae 0 (J cb) (J cb)).U (fun _=>
 (ae 0 (J j5) (J j5)).U (fun _=>
 (ae 0 (J iN) (J iN)).U (fun _=>
 (ae 0 (J eg) (J eg)).U (fun _=>
 bf NN (fun(((fN,hJ,gM),(gm,lR,dN,ft,fg),(kT,kw),(fq,fY,nz),(qd,j3),gz,eW,iB,sM,mK,mL):(((List (Int×(Int×(List Int))))×(Int×Int))×((Int×(Int×((List Int)×((List (Int×(Int×(List Int))))×(List Int)))))×((Int×Int)×((Int×(Int×(List Int)))×((Int×Int)×((List Int)×((List (Int×(Int×(List Int))))×((List Int)×((List Int)×((List (Int×(Int×(List Int))))×(List Int))))))))))))=>
 aw (bc gM hJ)
 ((dz fN gM).U (fun(uf,WU,j7)=>
 (rK (gm,(fq,fY,nz),uf,WU,j7)).U (fun(jh,iK,pj)=>
 (bg pj 0 (J pj)).U (fun v9=>
 (wU (gm,(fq,fY,nz),jh,iK,v9)).U (fun(mH,jG,oe)=>
 (ci oe (J oe)).U (fun jl=>
 (ae 0 (J mK) (J mK)).U (fun _=>
 (ae 0 1 (J (((mH,jG,jl)::([]:List (Int×(Int×(List Int)))))))).U (fun _=>
 (jV (aE (J mK) (J (((mH,jG,jl)::([]:List (Int×(Int×(List Int)))))))) 40).U (fun _=>
 (ae 0 (J gz) (J gz)).U (fun _=>
 (ae 0 (J eW) (J eW)).U (fun _=>
 (ae 0 (J iB) (J iB)).U (fun _=>
 (ae 0 (J sM) (J sM)).U (fun _=>
 (ae 0 (aE (J mK) (J (((mH,jG,jl)::([]:List (Int×(Int×(List Int)))))))) (J (cm mK (((mH,jG,jl)::([]:List (Int×(Int×(List Int))))))))).U (fun _=>
 (ae 0 (J mL) (J mL)).U (fun _=>
 some (Sum.inl ((fN,hJ,aM .i64 gM 1),(gm,lR,dN,ft,fg),(kT,kw),(fq,fY,nz),(qd,j3),gz,eW,iB,sM,cm mK (((mH,jG,jl)::([]:List (Int×(Int×(List Int)))))),mL)))))))))))))))))
 (((ae 0 (J gz) (J gz)).U (fun _=>
 (ae 0 (J eW) (J eW)).U (fun _=>
 (ae 0 (J iB) (J iB)).U (fun _=>
 (ae 0 (J sM) (J sM)).U (fun _=>
 (ae 0 (J mK) (J mK)).U (fun _=>
 (ae 0 (J mL) (J mL)).U (fun _=>
 some (Sum.inl ((kT,kw),(qd,j3),gz,eW,iB,sM,mK,mL))))))))).U (fun lZ=>
 some (Sum.inr lZ))))
 ((bJ,aL (J bJ),(0:Int)),(cq,cO,c8,bJ,cg),(jg,dX),(cX,eG,ib),(fW,ef),fM,cL,cb,j5,iN,eg))))))))
 (fun((qe,lT),(nr,qf),iO,ma,oh,nA,jm,iP)=>
 (ci nA (J nA)).U (fun wa=>
 (ci jm (J jm)).U (fun N5=>
 (ci iP (J iP)).U (fun N6=>
 some (nr,qf,wa,N5,N6))))))))))
theorem Tr {p:Int} {n:Nat} {s b:List Int} {ms:List c7} (H:jQ p n s ms b):∀(m:Nat) (S:List Wd×List Int) (q:List Wd),BI p n ms.length S q->BI p n ms.length (mZ p n ms s m S q) []
 |0,S,q,h=>⟨h.dl,h.dp,h.kn,fun w hw=>absurd hw (by simp),h.wo⟩
 |m+1,S,[],h=>h
 |m+1,S,w::q,h=>by
  by_cases ha:xd p n ms s S w=true
  ·rw[Tt ha]
   exact Tr H m _ _ (BI.Tz H h ha).1
  ·rw[Ts ha]
   exact Tr H m _ _ h.no
theorem PS {p:Int} {n:Nat} {s b:List Int} {ms:List c7} (H:jQ p n s ms b):BI p n ms.length (dG (p,(n:Int),s,ms,b)) []:=by
 have e:dG (p,(n:Int),s,ms,b)=mZ p n ms s 64 ([],[]) [[]]:=by unfold dG;simp only[Int.toNat_natCast]
 rw[e]
 exact Tr H 64 _ _ ⟨by simp,fun x hx=>absurd hx (by simp),Nat.zero_le _,fun w hw=>by rw[List.mem_singleton] at hw;subst hw;exact⟨fun c hc=>absurd hc (by simp),Nat.zero_le _⟩,fun w hw=>absurd hw (by simp)⟩
theorem Zr {p:Int} {k n t:Nat} {R T:bL} (hp:di p) (hk:k<=n) (hn:n<=12) (ht:t<=12) (hR:cY p k n R) (hT:cY p t n T):sY (p,((k:Int),(n:Int),ai k n R),((t:Int),(n:Int),ai t n T))=some ((t:Int),(k:Int),ai t k (ii p n k t (bu n (ai k n R)) (bu n (ai t n T)))):=by
 unfold sY
 rw[if_pos ⟨hp,⟨by dsimp only;omega,by dsimp only;omega,by dsimp only;omega⟩,⟨by dsimp only;omega,by dsimp only;omega⟩,rfl,⟨by simp only[Int.toNat_natCast];exact jz _ _ _,by simp only[Int.toNat_natCast];exact jz _ _ _⟩,jU.2 hR,jU.2 hT⟩]
 simp only[Int.toNat_natCast]
theorem acs (x:dj) (z:dj) (h:ta x=some z):JN aA x=some z:=by
 have ho:gG x=true:=by
  unfold ta G5 at h
  split at h
  ·assumption
  ·cases h
 obtain⟨p,n,s,ms,b,rfl,H⟩:=tu ho
 rw[show ta (p,(n:Int),s,ms,b)=some (eu (p,(n:Int),s,ms,b)) from if_pos ho] at h
 rw[<-h]
 have hp:=H.p
 have hn:=H.hn
 have h4:=H.l4
 have CD:=H.bl
 have tU:eZ=140737488355328:=rfl
 have B:=PS H
 simp only[JN]
 rw[show yU (p,(n:Int),s,ms,b)=_ from if_pos ho]
 have vz:eu (p,(n:Int),s,ms,b)=(p,((dG (p,(n:Int),s,ms,b)).1.length:Int),bI (cR (dG (p,(n:Int),s,ms,b)).1.length 0) 0 1,ms.map (kj p n (dG (p,(n:Int),s,ms,b)).1.length (dG (p,(n:Int),s,ms,b)).2),ai (dG (p,(n:Int),s,ms,b)).1.length 1 (du p n (bu n (dG (p,(n:Int),s,ms,b)).2) (bu 1 b))):=by
  unfold eu
  simp only[Int.toNat_natCast]
 rw[vz]
 generalize dG (p,(n:Int),s,ms,b)=S at B
 obtain⟨ws,D⟩:=S
 have n3:D.length=ws.length*n:=B.dl
 have Hj:fw p D:=B.dp
 have kR:ws.length<=n:=B.kn
 dsimp only
 simp only[aN]
 obtain⟨k,hk⟩:∃k,ws.length=k:=⟨_,rfl⟩
 rw[show aL (J ws)=(k:Int) by unfold aL J;rw[hk],hk]
 rw[hk] at n3 kR
 have hA:cY p k n (bu n D):=rv n3 Hj
 have zK:ai k n (bu n D)=D:=pT n3
 have b1:k*n<=12*12:=Nat.mul_le_mul (by omega) hn
 have b2:n*n<=12*12:=Nat.mul_le_mul hn hn
 rw[show ov (k:Int) (k:Int) 8=some k by unfold ov;rw[if_pos ⟨by omega,by omega,by rw[Int.toNat_natCast];omega⟩,Int.toNat_natCast]]
 simp only[aN]
 rw[Xh (s:=((p,(n:Int),s,ms,b),((0:Int),(0:Int)),((k:Int),(n:Int),D),(p,(k:Int)),([]:List Int),([]:List (Int×(Int×(List Int)))),([]:List Int),bI (cR k 0) 0 1,([]:List (Int×(Int×(List Int)))),([]:List Int))) ?p1 ?p2]
 case p1=>
  intro hc
  have sn:0<k:=by
   have:=of_decide_eq_true hc
   omega
  rw[show dT (0:Int) k=some 0 from zr (i:=0) sn]
  simp only[aN,jT]
  rw[show dg (cR k (0:Int)) 0=some 0 by unfold dg cR;rw[List.getElem?_replicate,if_pos sn]]
  simp only[aN]
  rw[show ae 0 k (J (bI (cR k (0:Int)) 0 1))=some () from qU (by simp[J,bI,cR])]
  try rw[show ae 0 0 (J ([]:List Int))=some () from rfl]
  try rw[show ae 0 0 (J ([]:List (Int×(Int×(List Int)))))=some () from rfl]
  simp only[aN]
 case p2=>
  intro hc
  have sn:¬0<k:=by
   have:=of_decide_eq_false hc
   omega
  rw[show ae 0 k (J (cR k (0:Int)))=some () from qU (by simp[J,cR])]
  try rw[show ae 0 0 (J ([]:List Int))=some () from rfl]
  try rw[show ae 0 0 (J ([]:List (Int×(Int×(List Int)))))=some () from rfl]
  simp only[aN]
  obtain rfl:k=0:=by omega
  rfl
 dsimp only
 have hBm:cY p n 1 (bu 1 b):=rv (by omega) H.bp
 have hBb:ai n 1 (bu 1 b)=b:=pT (by omega)
 have e1:=AK (r:=k) (k:=n) (c:=1) hp (by omega) (by omega) (by omega) (by omega) (by omega) (by omega) hA hBm
 rw[zK,hBb] at e1
 rw[show aL (J b)=(n:Int) by unfold aL J;rw[CD]]
 rw[show rK (p,((k:Int),(n:Int),D),((n:Int),(1:Int),b))=_ from e1]
 simp only[aN,bq]
 try rw[show ae 0 0 (J ([]:List Int))=some () from rfl]
 try rw[show ae 0 0 (J ([]:List (Int×(Int×(List Int)))))=some () from rfl]
 try simp only[aN]
 rw[dP (r:=Sum.inl (((0:Int),(0:Int)),(p,(k:Int)),([]:List Int),([]:List (Int×(Int×(List Int)))),([]:List Int),bI (cR k 0) 0 1,ms.map (kj p n k D),ai k 1 (du p n (bu n D) (bu 1 b))))
  (fun i=>((ms,(ms.length:Int),(i:Int)),(p,(n:Int),s,ms,b),((0:Int),(0:Int)),((k:Int),(n:Int),D),(p,(k:Int)),([]:List Int),([]:List (Int×(Int×(List Int)))),([]:List Int),bI (cR k 0) 0 1,(ms.take i).map (kj p n k D),ai k 1 (du p n (bu n D) (bu 1 b)))) ms.length ?a1 ?a2 ?a3 (cG (by omega))]
 case a2=>
  dsimp only
  rw[aS (eA (Nat.le_refl _)),List.take_length]
  try simp only[bq,aN]
  try rfl
 case a3=>rfl
 case a1=>
  intro i hi
  dsimp only
  obtain⟨m,hm⟩:∃m,ms[i]? =some m:=⟨_,List.getElem?_eq_getElem hi⟩
  obtain⟨M,hM,Cy⟩:=H.hm m (List.mem_of_getElem? hm)
  rw[aT (dY hi),fF,hm,hM]
  simp only[aN]
  have e2:=AK (r:=k) (k:=n) (c:=n) hp (by omega) (by omega) (by omega) (by omega) (by omega) (by omega) hA Cy
  rw[zK] at e2
  rw[show rK (p,((k:Int),(n:Int),D),((n:Int),(n:Int),ai n n M))=_ from e2]
  simp only[aN,ik]
  have e3:=Zr hp kR hn (show k<=12 by omega) hA (Dw hp k n n (bu n D) M)
  rw[zK] at e3
  rw[show wU (p,((k:Int),(n:Int),D),((k:Int),(n:Int),ai k n (du p n (bu n D) M)))=_ from e3]
  simp only[aN,gu]
  have e4:((k:Int),(k:Int),ai k k (ii p n k k (bu n D) (bu n (ai k n (du p n (bu n D) M)))))=kj p n k D m:=by
   rw[hM]
   unfold kj
   dsimp only
   rw[show ai k n (du p n (bu n D) (bu n (ai n n M)))=ai k n (du p n (bu n D) M) from gZ fun a _ c hc=>Pw (fun _ _=>rfl) (fun t ht=>kD M ht hc)]
  rw[e4]
  try simp only[bq,aN]
  rw[show ae 0 1 (J [kj p n k D m])=some () from rfl]
  simp only[aN]
  rw[lK (by simp only[aE,J,List.length_map,List.length_take,List.length_singleton];omega)]
  simp only[aN]
  rw[Jq hm,dI (show i<=1048577 by omega)]
  rw[show ae 0 (aE (J ((ms.take i).map (kj p n k D))) (J [kj p n k D m])) (J ((ms.take (i+1)).map (kj p n k D)))=some () from qU (by simp only[aE,J,List.length_map,List.length_take,List.length_singleton];omega)]
  simp only[aN]
  try rw[show ae 0 0 (J ([]:List Int))=some () from rfl]
  try rw[show ae 0 0 (J ([]:List (Int×(Int×(List Int)))))=some () from rfl]
  try simp only[bq,aN]
 rw[cK]
 dsimp only
 simp only[gu,aN]
end Go.Am
end
section
namespace Go.Am
def F3:ao:=[(.agg,[.int .i64,.int .i64,.list [.int .i64],.list [.int .i64,.int .i64,.list [.int .i64]],.list [.int .i64]])]
def QZ:ao:=[(.agg,[.int .i64,.int .i64,.list [.int .i64],.list [.int .i64,.int .i64,.list [.int .i64]],.list [.int .i64]])]
def ahf:aW:=[]
def Ke (NN:Nat):(Int×(Int×((List Int)×((List (Int×(Int×(List Int))))×(List Int)))))->(Option (Int×(Int×((List Int)×((List (Int×(Int×(List Int))))×(List Int)))))):=
 (fun((i0,i1,l2,l3,l4):(Int×(Int×((List Int)×((List (Int×(Int×(List Int))))×(List Int))))))=>
 (za (i0,i1,l2,l3,l4)).U (fun(l5,i6,i7,l8)=>
 (ov (aL (J l5)) (aL (J l5)) 8).U (fun k9=>
 bK (aw (bc (0:Int) (aL (J l5)))
 ((dT (0:Int) k9).U (fun yd=>
 (dg (cR k9 (0:Int)) (aE 0 yd)).U (fun bZ=>
 (ae 0 0 (J (([]:List Int)))).U (fun _=>
 (ae 0 0 (J (([]:List (Int×(Int×(List Int))))))).U (fun _=>
 (ae 0 0 (J (([]:List Int)))).U (fun _=>
 (ae 0 k9 (J (bI (cR k9 (0:Int)) (aE 0 yd) (1:Int)))).U (fun _=>
 (ae 0 0 (J (([]:List (Int×(Int×(List Int))))))).U (fun _=>
 (ae 0 0 (J (([]:List Int)))).U (fun _=>
 some (Sum.inl (aL (J l5),(i0,i1,l2,l3,l4),((0:Int),(0:Int)),(i6,i7,l8),(i0,aL (J l5)),([]:List Int),([]:List (Int×(Int×(List Int)))),([]:List Int),bI (cR k9 (0:Int)) (aE 0 yd) (1:Int),([]:List (Int×(Int×(List Int)))),([]:List Int))))))))))))
 ((ae 0 0 (J (([]:List Int)))).U (fun _=>
 (ae 0 0 (J (([]:List (Int×(Int×(List Int))))))).U (fun _=>
 (ae 0 0 (J (([]:List Int)))).U (fun _=>
 (ae 0 k9 (J (cR k9 (0:Int)))).U (fun _=>
 (ae 0 0 (J (([]:List (Int×(Int×(List Int))))))).U (fun _=>
 (ae 0 0 (J (([]:List Int)))).U (fun _=>
 some (Sum.inl (aL (J l5),(i0,i1,l2,l3,l4),((0:Int),(0:Int)),(i6,i7,l8),(i0,aL (J l5)),([]:List Int),([]:List (Int×(Int×(List Int)))),([]:List Int),cR k9 (0:Int),([]:List (Int×(Int×(List Int)))),([]:List Int)))))))))))
 (fun(cq,(cO,db,bJ,cg,bB),(dX,cX),(eG,eQ,cV),(ef,eH),cL,cb,j5,iN,dR,f6)=>
 bK ((ae 0 (J cL) (J cL)).U (fun _=>
 (ae 0 (J cb) (J cb)).U (fun _=>
 (ae 0 (J j5) (J j5)).U (fun _=>
 (ae 0 (J iN) (J iN)).U (fun _=>
 (ae 0 (J dR) (J dR)).U (fun _=>
 (ae 0 (J f6) (J f6)).U (fun _=>
 bf NN (fun(((eU,n8),(jE,hJ,k8,jk,dt),(n9,kv),(mG,kT,pi),(fq,fY),nz,f8,ic,gz,eW,iB):((Int×Int)×((Int×(Int×((List Int)×((List (Int×(Int×(List Int))))×(List Int)))))×((Int×Int)×((Int×(Int×(List Int)))×((Int×Int)×((List Int)×((List (Int×(Int×(List Int))))×((List Int)×((List Int)×((List (Int×(Int×(List Int))))×(List Int))))))))))))=>
 aw (bc n8 eU)
 ((qD (cz .i64 n8 hJ) (cz .i64 (aM .i64 n8 1) hJ) (J pi)).U (fun(k51,k52)=>
 (zb (jE,fD pi k51 k52,dt)).U (fun ky=>
 (ae 0 (J iB) (J iB)).U (fun _=>
 (bg ((ky::([]:List Int))) 0 1).U (fun ek=>
 (jV (aE (J iB) (J ek)) 8).U (fun _=>
 (ae 0 (J nz) (J nz)).U (fun _=>
 (ae 0 (J f8) (J f8)).U (fun _=>
 (ae 0 (J ic) (J ic)).U (fun _=>
 (ae 0 (J gz) (J gz)).U (fun _=>
 (ae 0 (J eW) (J eW)).U (fun _=>
 (ae 0 (aE (J iB) (J ek)) (J (cm iB ek))).U (fun _=>
 some (Sum.inl ((eU,aM .i64 n8 1),(jE,hJ,k8,jk,dt),(n9,kv),(mG,kT,pi),(fq,fY),nz,f8,ic,gz,eW,cm iB ek))))))))))))))
 (((ae 0 (J nz) (J nz)).U (fun _=>
 (ae 0 (J f8) (J f8)).U (fun _=>
 (ae 0 (J ic) (J ic)).U (fun _=>
 (ae 0 (J gz) (J gz)).U (fun _=>
 (ae 0 (J eW) (J eW)).U (fun _=>
 (ae 0 (J iB) (J iB)).U (fun _=>
 some (Sum.inl ((jE,hJ,k8,jk,dt),(n9,kv),(mG,kT,pi),(fq,fY),nz,f8,ic,gz,eW,iB))))))))).U (fun dO=>
 some (Sum.inr dO))))
 ((cq,(0:Int)),(cO,db,bJ,cg,bB),(dX,cX),(eG,eQ,cV),(ef,eH),cL,cb,j5,iN,dR,f6))))))))
 (fun((ug,jh,Dn,pj,v9),(mH,jG),(kz,i64,lZ),(qe,lT),pn,mM,iO,ma,oh,nA)=>
 bK ((ae 0 (J pn) (J pn)).U (fun _=>
 (ae 0 (J mM) (J mM)).U (fun _=>
 (ae 0 (J iO) (J iO)).U (fun _=>
 (ae 0 (J ma) (J ma)).U (fun _=>
 (ae 0 (J oh) (J oh)).U (fun _=>
 (ae 0 (J nA) (J nA)).U (fun _=>
 bf NN (fun(((jm,sE,jH),(jI,jJ,l79,Az,iQ),(pd,Aj),(nt,nu,nB),(lU,vR),gA,gP,lb,mN,oq,sN):(((List (Int×(Int×(List Int))))×(Int×Int))×((Int×(Int×((List Int)×((List (Int×(Int×(List Int))))×(List Int)))))×((Int×Int)×((Int×(Int×(List Int)))×((Int×Int)×((List Int)×((List (Int×(Int×(List Int))))×((List Int)×((List Int)×((List (Int×(Int×(List Int))))×(List Int))))))))))))=>
 aw (bc jH sE)
 ((dz jm jH).U (fun(nv,rn,po)=>
 (nL (jI,(nt,nu,nB),nv,rn,po)).U (fun(uk,rp,qi)=>
 (bg qi 0 (J qi)).U (fun Ar=>
 (wZ (jI,(nt,nu,nB),uk,rp,Ar)).U (fun(n7,lQ,HW)=>
 (ci HW (J HW)).U (fun kZ=>
 (ae 0 (J oq) (J oq)).U (fun _=>
 (ae 0 1 (J (((n7,lQ,kZ)::([]:List (Int×(Int×(List Int)))))))).U (fun _=>
 (jV (aE (J oq) (J (((n7,lQ,kZ)::([]:List (Int×(Int×(List Int)))))))) 40).U (fun _=>
 (ae 0 (J gA) (J gA)).U (fun _=>
 (ae 0 (J gP) (J gP)).U (fun _=>
 (ae 0 (J lb) (J lb)).U (fun _=>
 (ae 0 (J mN) (J mN)).U (fun _=>
 (ae 0 (aE (J oq) (J (((n7,lQ,kZ)::([]:List (Int×(Int×(List Int)))))))) (J (cm oq (((n7,lQ,kZ)::([]:List (Int×(Int×(List Int))))))))).U (fun _=>
 (ae 0 (J sN) (J sN)).U (fun _=>
 some (Sum.inl ((jm,sE,aM .i64 jH 1),(jI,jJ,l79,Az,iQ),(pd,Aj),(nt,nu,nB),(lU,vR),gA,gP,lb,mN,cm oq (((n7,lQ,kZ)::([]:List (Int×(Int×(List Int)))))),sN)))))))))))))))))
 (((ae 0 (J gA) (J gA)).U (fun _=>
 (ae 0 (J gP) (J gP)).U (fun _=>
 (ae 0 (J lb) (J lb)).U (fun _=>
 (ae 0 (J mN) (J mN)).U (fun _=>
 (ae 0 (J oq) (J oq)).U (fun _=>
 (ae 0 (J sN) (J sN)).U (fun _=>
 some (Sum.inl ((pd,Aj),(lU,vR),gA,gP,lb,mN,oq,sN))))))))).U (fun jL=>
 some (Sum.inr jL))))
 ((pj,aL (J pj),(0:Int)),(ug,jh,Dn,pj,v9),(mH,jG),(kz,i64,lZ),(qe,lT),pn,mM,iO,ma,oh,nA))))))))
 (fun((WE,Nk),(Ad,qc),alI,Dl,As,sK,yg,uq)=>
 (ci sK (J sK)).U (fun NT=>
 (ci yg (J yg)).U (fun NU=>
 (ci uq (J uq)).U (fun yh=>
 some (Ad,qc,NT,NU,yh))))))))))
theorem ac5 (x:dj) (z:dj) (h:th x=some z):Ke aA x=some z:=by
 have ho:gG x=true:=by
  unfold th G5 at h
  split at h
  ·assumption
  ·cases h
 obtain⟨p,n,s,ms,b,rfl,H⟩:=tu ho
 rw[show th (p,(n:Int),s,ms,b)=some (eu (p,(n:Int),s,ms,b)) from if_pos ho] at h
 rw[<-h]
 have hp:=H.p
 have hn:=H.hn
 have h4:=H.l4
 have CD:=H.bl
 have tU:eZ=140737488355328:=rfl
 have B:=PS H
 simp only[Ke]
 rw[show za (p,(n:Int),s,ms,b)=_ from if_pos ho]
 have vz:eu (p,(n:Int),s,ms,b)=(p,((dG (p,(n:Int),s,ms,b)).1.length:Int),bI (cR (dG (p,(n:Int),s,ms,b)).1.length 0) 0 1,ms.map (kj p n (dG (p,(n:Int),s,ms,b)).1.length (dG (p,(n:Int),s,ms,b)).2),ai (dG (p,(n:Int),s,ms,b)).1.length 1 (du p n (bu n (dG (p,(n:Int),s,ms,b)).2) (bu 1 b))):=by
  unfold eu
  simp only[Int.toNat_natCast]
 rw[vz]
 generalize dG (p,(n:Int),s,ms,b)=S at B
 obtain⟨ws,D⟩:=S
 have n3:D.length=ws.length*n:=B.dl
 have Hj:fw p D:=B.dp
 have kR:ws.length<=n:=B.kn
 dsimp only
 simp only[aN]
 obtain⟨k,hk⟩:∃k,ws.length=k:=⟨_,rfl⟩
 rw[show aL (J ws)=(k:Int) by unfold aL J;rw[hk],hk]
 rw[hk] at n3 kR
 have hA:cY p k n (bu n D):=rv n3 Hj
 have zK:ai k n (bu n D)=D:=pT n3
 have b1:k*n<=12*12:=Nat.mul_le_mul (by omega) hn
 have b2:n*n<=12*12:=Nat.mul_le_mul hn hn
 rw[show ov (k:Int) (k:Int) 8=some k by unfold ov;rw[if_pos ⟨by omega,by omega,by rw[Int.toNat_natCast];omega⟩,Int.toNat_natCast]]
 simp only[aN]
 rw[Xh (s:=((k:Int),(p,(n:Int),s,ms,b),((0:Int),(0:Int)),((k:Int),(n:Int),D),(p,(k:Int)),([]:List Int),([]:List (Int×(Int×(List Int)))),([]:List Int),bI (cR k 0) 0 1,([]:List (Int×(Int×(List Int)))),([]:List Int))) ?p1 ?p2]
 case p1=>
  intro hc
  have sn:0<k:=by
   have:=of_decide_eq_true hc
   omega
  rw[show dT (0:Int) k=some 0 from zr (i:=0) sn]
  simp only[aN,jT]
  rw[show dg (cR k (0:Int)) 0=some 0 by unfold dg cR;rw[List.getElem?_replicate,if_pos sn]]
  simp only[aN]
  rw[show ae 0 k (J (bI (cR k (0:Int)) 0 1))=some () from qU (by simp[J,bI,cR])]
  try rw[show ae 0 0 (J ([]:List Int))=some () from rfl]
  try rw[show ae 0 0 (J ([]:List (Int×(Int×(List Int)))))=some () from rfl]
  simp only[aN]
 case p2=>
  intro hc
  have sn:¬0<k:=by
   have:=of_decide_eq_false hc
   omega
  rw[show ae 0 k (J (cR k (0:Int)))=some () from qU (by simp[J,cR])]
  try rw[show ae 0 0 (J ([]:List Int))=some () from rfl]
  try rw[show ae 0 0 (J ([]:List (Int×(Int×(List Int)))))=some () from rfl]
  simp only[aN]
  obtain rfl:k=0:=by omega
  rfl
 dsimp only
 have My:∀i,i<k->nd p (fD D (i*n) n) b=du p n (bu n D) (bu 1 b) i 0:=by
  intro i hi
  have fG:i*n+n<=k*n:=by have:=Nat.mul_le_mul_right n (show i+1<=k from hi);rw[Nat.add_mul,Nat.one_mul] at this;exact this
  have tY:(fD D (i*n) n).length=n:=by unfold fD;rw[List.length_take,List.length_drop,n3];omega
  rw[abv,tY]
  unfold du
  rw[K8]
  congr 1
  refine Bo fun t ht=>?_
  have e1:gY (fD D (i*n) n) t=bu n D i t:=by
   unfold gY fD bu
   rw[List.getD_eq_getElem?_getD,List.getD_eq_getElem?_getD,List.getElem?_take,if_pos ht,List.getElem?_drop]
  have e2:gY b t=bu 1 b t 0:=by unfold gY bu;rw[Nat.mul_one,Nat.add_zero]
  rw[e1,e2]
 have Hm:((List.range k).map fun i=>nd p (fD D (i*n) n) b)=ai k 1 (du p n (bu n D) (bu 1 b)):=by
  unfold ai
  rw[Nat.mul_one]
  refine List.map_congr_left fun i hi=>?_
  rw[My i (List.mem_range.1 hi),Nat.div_one,Nat.mod_one]
 try simp only[aN,bq]
 try rw[show ae 0 0 (J ([]:List Int))=some () from rfl]
 try rw[show ae 0 0 (J ([]:List (Int×(Int×(List Int)))))=some () from rfl]
 try simp only[aN]
 rw[dP (r:=Sum.inl ((p,(n:Int),s,ms,b),((0:Int),(0:Int)),((k:Int),(n:Int),D),(p,(k:Int)),([]:List Int),([]:List (Int×(Int×(List Int)))),([]:List Int),bI (cR k 0) 0 1,([]:List (Int×(Int×(List Int)))),ai k 1 (du p n (bu n D) (bu 1 b))))
  (fun i=>(((k:Int),(i:Int)),(p,(n:Int),s,ms,b),((0:Int),(0:Int)),((k:Int),(n:Int),D),(p,(k:Int)),([]:List Int),([]:List (Int×(Int×(List Int)))),([]:List Int),bI (cR k 0) 0 1,([]:List (Int×(Int×(List Int)))),(List.range i).map fun i=>nd p (fD D (i*n) n) b)) k ?f1 ?f2 ?f3 (cG (by omega))]
 case f2=>
  dsimp only
  rw[aS (eA (Nat.le_refl _)),Hm]
  try simp only[bq,aN]
  try rfl
 case f3=>rfl
 case f1=>
  intro i hi
  dsimp only
  have fG:i*n+n<=k*n:=by have:=Nat.mul_le_mul_right n (show i+1<=k from hi);rw[Nat.add_mul,Nat.one_mul] at this;exact this
  have tY:(fD D (i*n) n).length=n:=by unfold fD;rw[List.length_take,List.length_drop,n3];omega
  have hrp:fw p (fD D (i*n) n):=fun x hx=>Hj x (List.mem_of_mem_drop (List.mem_of_mem_take hx))
  have m1:cz .i64 (i:Int) (n:Int)=((i*n:Nat):Int):=by
   have em:(i:Int)*(n:Int)=((i*n:Nat):Int):=by push_cast;rfl
   rw[qp (by omega) (by omega),em]
  have m2:cz .i64 ((i+1:Nat):Int) (n:Int)=((i*n+n:Nat):Int):=by
   have em:((i+1:Nat):Int)*(n:Int)=((i*n+n:Nat):Int):=by rw[<-Nat.succ_mul];push_cast;rfl
   rw[qp (by omega) (by omega),em]
  rw[aT (dY hi),dI (show i<=1048577 by omega),m1,m2]
  rw[show qD ((i*n:Nat):Int) ((i*n+n:Nat):Int) (J D)=some (i*n,n) by
   unfold qD J
   rw[if_pos ⟨by omega,by omega,by rw[n3];omega⟩]
   congr 2
   ·omega]
  simp only[aN]
  rw[show zb (p,fD D (i*n) n,b)=some (nd p (fD D (i*n) n) b) from if_pos ⟨hp,by dsimp only;rw[tY,CD],by dsimp only;omega,hrp,H.bp⟩]
  simp only[aN]
  rw[show bg [nd p (fD D (i*n) n) b] 0 1=some [nd p (fD D (i*n) n) b] from rfl]
  simp only[aN]
  try simp only[bq,aN]
  rw[lK (by simp only[aE,J,List.length_map,List.length_range,List.length_singleton];omega)]
  simp only[aN]
  rw[show cm ((List.range i).map fun i=>nd p (fD D (i*n) n) b) [nd p (fD D (i*n) n) b]=(List.range (i+1)).map fun i=>nd p (fD D (i*n) n) b by unfold cm;rw[List.range_succ,List.map_append];rfl]
  rw[show ae 0 (aE (J ((List.range i).map fun i=>nd p (fD D (i*n) n) b)) (J [nd p (fD D (i*n) n) b])) (J ((List.range (i+1)).map fun i=>nd p (fD D (i*n) n) b))=some () from qU (by simp only[aE,J,List.length_map,List.length_range,List.length_singleton])]
  simp only[aN]
  try rw[show ae 0 0 (J ([]:List Int))=some () from rfl]
  try rw[show ae 0 0 (J ([]:List (Int×(Int×(List Int)))))=some () from rfl]
  try simp only[bq,aN]
 rw[cK]
 dsimp only
 try simp only[aN,bq]
 try rw[show ae 0 0 (J ([]:List Int))=some () from rfl]
 try rw[show ae 0 0 (J ([]:List (Int×(Int×(List Int)))))=some () from rfl]
 try simp only[aN]
 rw[dP (r:=Sum.inl (((0:Int),(0:Int)),(p,(k:Int)),([]:List Int),([]:List (Int×(Int×(List Int)))),([]:List Int),bI (cR k 0) 0 1,ms.map (kj p n k D),ai k 1 (du p n (bu n D) (bu 1 b))))
  (fun i=>((ms,(ms.length:Int),(i:Int)),(p,(n:Int),s,ms,b),((0:Int),(0:Int)),((k:Int),(n:Int),D),(p,(k:Int)),([]:List Int),([]:List (Int×(Int×(List Int)))),([]:List Int),bI (cR k 0) 0 1,(ms.take i).map (kj p n k D),ai k 1 (du p n (bu n D) (bu 1 b)))) ms.length ?a1 ?a2 ?a3 (cG (by omega))]
 case a2=>
  dsimp only
  rw[aS (eA (Nat.le_refl _)),List.take_length]
  try simp only[bq,aN]
  try rfl
 case a3=>rfl
 case a1=>
  intro i hi
  dsimp only
  obtain⟨m,hm⟩:∃m,ms[i]? =some m:=⟨_,List.getElem?_eq_getElem hi⟩
  obtain⟨M,hM,Cy⟩:=H.hm m (List.mem_of_getElem? hm)
  rw[aT (dY hi),fF,hm,hM]
  simp only[aN]
  have e2:=AK (r:=k) (k:=n) (c:=n) hp (by omega) (by omega) (by omega) (by omega) (by omega) (by omega) hA Cy
  rw[zK] at e2
  rw[show nL (p,((k:Int),(n:Int),D),((n:Int),(n:Int),ai n n M))=_ from e2]
  simp only[aN,ik]
  have e3:=Zr hp kR hn (show k<=12 by omega) hA (Dw hp k n n (bu n D) M)
  rw[zK] at e3
  rw[show wZ (p,((k:Int),(n:Int),D),((k:Int),(n:Int),ai k n (du p n (bu n D) M)))=_ from e3]
  simp only[aN,gu]
  have e4:((k:Int),(k:Int),ai k k (ii p n k k (bu n D) (bu n (ai k n (du p n (bu n D) M)))))=kj p n k D m:=by
   rw[hM]
   unfold kj
   dsimp only
   rw[show ai k n (du p n (bu n D) (bu n (ai n n M)))=ai k n (du p n (bu n D) M) from gZ fun a _ c hc=>Pw (fun _ _=>rfl) (fun t ht=>kD M ht hc)]
  rw[e4]
  try simp only[bq,aN]
  rw[show ae 0 1 (J [kj p n k D m])=some () from rfl]
  simp only[aN]
  rw[lK (by simp only[aE,J,List.length_map,List.length_take,List.length_singleton];omega)]
  simp only[aN]
  rw[Jq hm,dI (show i<=1048577 by omega)]
  rw[show ae 0 (aE (J ((ms.take i).map (kj p n k D))) (J [kj p n k D m])) (J ((ms.take (i+1)).map (kj p n k D)))=some () from qU (by simp only[aE,J,List.length_map,List.length_take,List.length_singleton];omega)]
  simp only[aN]
  try rw[show ae 0 0 (J ([]:List Int))=some () from rfl]
  try rw[show ae 0 0 (J ([]:List (Int×(Int×(List Int)))))=some () from rfl]
  try simp only[bq,aN]
 rw[cK]
 dsimp only
 simp only[gu,aN]
end Go.Am
end
section
namespace Go.Am
def yn (x:dj):dj:=kb (eu (kb (eu x)))
def u0:dj->Option dj:=fun x=>if fR x<=1048576 then some (if gG x=true then yn x else(0,0,[],[],[])) else none
def wT:dj->Option dj:=u0
def Fa:ao:=[(.agg,[.int .i64,.int .i64,.list [.int .i64],.list [.int .i64,.int .i64,.list [.int .i64]],.list [.int .i64]])]
def Qc:ao:=[(.agg,[.int .i64,.int .i64,.list [.int .i64],.list [.int .i64,.int .i64,.list [.int .i64]],.list [.int .i64]])]
def agx:aW:=[]
def FM:ao:=[(.agg,[.int .i64,.int .i64,.list [.int .i64],.list [.int .i64,.int .i64,.list [.int .i64]],.list [.int .i64]])]
def QM:ao:=[(.agg,[.int .i64,.int .i64,.list [.int .i64],.list [.int .i64,.int .i64,.list [.int .i64]],.list [.int .i64]])]
def ag4:aW:=[]
def EF (NN:Nat):(Int×(Int×((List Int)×((List (Int×(Int×(List Int))))×(List Int)))))->(Option (Int×(Int×((List Int)×((List (Int×(Int×(List Int))))×(List Int)))))):=
 (fun((i0,i1,l2,l3,l4):(Int×(Int×((List Int)×((List (Int×(Int×(List Int))))×(List Int))))))=>
 (s9 (i0,i1,l2,l3,l4)).U (fun b5=>
 aw (eC b5)
 (some ((0:Int),(0:Int),([]:List Int),([]:List (Int×(Int×(List Int)))),([]:List Int)))
 ((ta (i0,i1,l2,l3,l4)).U (fun(i6,i7,l8,l9,fA)=>
 (bg l8 0 (J l8)).U (fun lW=>
 (bg l9 0 (J l9)).U (fun dM=>
 (bg fA 0 (J fA)).U (fun iA=>
 (tc (i6,i7,lW,dM,iA)).U (fun(db,fV,cg,bB,c9)=>
 (bg cg 0 (J cg)).U (fun eR=>
 (bg bB 0 (J bB)).U (fun ff=>
 (bg c9 0 (J c9)).U (fun ib=>
 (ta (db,fV,eR,ff,ib)).U (fun(fW,ef,fM,cL,cb)=>
 (bg fM 0 (J fM)).U (fun j5=>
 (bg cL 0 (J cL)).U (fun iN=>
 (bg cb 0 (J cb)).U (fun dR=>
 (tc (fW,ef,j5,iN,dR)).U (fun(hH,eU,eg,fN,f7)=>
 (ci eg (J eg)).U (fun k8=>
 (ci fN (J fN)).U (fun jk=>
 (ci f7 (J f7)).U (fun dt=>
 some (hH,eU,k8,jk,dt))))))))))))))))))))
def EL (NN:Nat):(Int×(Int×((List Int)×((List (Int×(Int×(List Int))))×(List Int)))))->(Option (Int×(Int×((List Int)×((List (Int×(Int×(List Int))))×(List Int)))))):=
 (fun((i0,i1,l2,l3,l4):(Int×(Int×((List Int)×((List (Int×(Int×(List Int))))×(List Int))))))=>
 (tg (i0,i1,l2,l3,l4)).U (fun b5=>
 aw (eC b5)
 (some ((0:Int),(0:Int),([]:List Int),([]:List (Int×(Int×(List Int)))),([]:List Int)))
 ((th (i0,i1,l2,l3,l4)).U (fun(i6,i7,l8,l9,fA)=>
 (bg l8 0 (J l8)).U (fun lW=>
 (bg l9 0 (J l9)).U (fun dM=>
 (bg fA 0 (J fA)).U (fun iA=>
 (ti (i6,i7,lW,dM,iA)).U (fun(db,fV,cg,bB,c9)=>
 (bg cg 0 (J cg)).U (fun eR=>
 (bg bB 0 (J bB)).U (fun ff=>
 (bg c9 0 (J c9)).U (fun ib=>
 (th (db,fV,eR,ff,ib)).U (fun(fW,ef,fM,cL,cb)=>
 (bg fM 0 (J fM)).U (fun j5=>
 (bg cL 0 (J cL)).U (fun iN=>
 (bg cb 0 (J cb)).U (fun dR=>
 (ti (fW,ef,j5,iN,dR)).U (fun(hH,eU,eg,fN,f7)=>
 (ci eg (J eg)).U (fun k8=>
 (ci fN (J fN)).U (fun jk=>
 (ci f7 (J f7)).U (fun dt=>
 some (hH,eU,k8,jk,dt))))))))))))))))))))
theorem YP {p:Int} {n:Nat} {s b:List Int} {ms:List c7} (H:jQ p n s ms b):jQ p n b (ms.map lp) s:=by
 refine⟨H.pr,H.hn,H.bl,H.bp,H.al,H.ap,by rw[List.length_map];exact H.l1,by rw[List.length_map];exact H.l4,fun x hx=>?_⟩
 obtain⟨m,hm,rfl⟩:=List.mem_map.1 hx
 obtain⟨M,rfl,hM⟩:=H.hm m hm
 exact⟨qH M,Tg M,fun i hi j hj=>hM j hj i hi⟩
theorem VF {p:Int} {n:Nat} {s b:List Int} {ms:List c7} (H:jQ p n s ms b):∃(k:Nat) (s' b':List Int) (XT:List c7),eu (p,(n:Int),s,ms,b)=(p,(k:Int),s',XT,b')/\jQ p k s' XT b':=by
 have hp:=H.p
 have vF:=hp.1
 have hn:=H.hn
 have B:=PS H
 have kR:=B.kn
 have hA:cY p (dG (p,(n:Int),s,ms,b)).1.length n (bu n (dG (p,(n:Int),s,ms,b)).2):=rv B.dl B.dp
 refine⟨(dG (p,(n:Int),s,ms,b)).1.length,_,_,_,rfl,⟨H.pr,by omega,?_,?_,by rw[jz,Nat.mul_one],?_,by rw[List.length_map];exact H.l1,by rw[List.length_map];exact H.l4,fun x hx=>?_⟩⟩
 ·simp[bI,cR]
 ·intro x hx
  unfold bI cR at hx
  rcases List.mem_or_eq_of_mem_set hx with h|h
  ·have:=(List.mem_replicate.1 h).2
   subst this
   exact⟨Int.le_refl _,by omega⟩
  ·subst h;exact⟨by decide,by omega⟩
 ·exact jU.2 (Dw hp _ _ _ _ _)
 ·obtain⟨m,hm,rfl⟩:=List.mem_map.1 hx
  refine⟨_,rfl,fun i hi q hq=>?_⟩
  unfold ii nE
  simp only[Int.toNat_natCast]
  have hW:cY p n ((dG (p,(n:Int),s,ms,b)).1.length+(dG (p,(n:Int),s,ms,b)).1.length) (bu ((dG (p,(n:Int),s,ms,b)).1.length+(dG (p,(n:Int),s,ms,b)).1.length) (ai n ((dG (p,(n:Int),s,ms,b)).1.length+(dG (p,(n:Int),s,ms,b)).1.length) (fE (dG (p,(n:Int),s,ms,b)).1.length (bu n (dG (p,(n:Int),s,ms,b)).2) (bu n (ai (dG (p,(n:Int),s,ms,b)).1.length n (du p n (bu n (dG (p,(n:Int),s,ms,b)).2) (bu n m.2.2))))))):=by
   refine rv (jz _ _ _) (jU.2 (Tv hA (rv (jz _ _ _) (jU.2 (Dw hp _ _ _ _ _)))))
  exact(DO hp hW _).m q (by omega) _ (by omega)
theorem Ol {x:dj} (h:gG x=true):∃(p:Int) (n:Nat) (s b:List Int) (ms:List c7),yn x=(p,(n:Int),s,ms,b)/\jQ p n s ms b/\gG (eu x)=true/\gG (kb (eu x))=true/\gG (eu (kb (eu x)))=true:=by
 obtain⟨p,n,s,ms,b,rfl,H⟩:=tu h
 obtain⟨k,s1,b1,XU,e1,H1⟩:=VF H
 have e2:kb (p,(k:Int),s1,XU,b1)=(p,(k:Int),b1,XU.map lp,s1):=rfl
 have H2:=YP H1
 obtain⟨l,s3,b3,ms3,e3,H3⟩:=VF H2
 have H4:=YP H3
 refine⟨p,l,b3,s3,ms3.map lp,?_,H4,?_,?_,?_⟩
 ·unfold yn;rw[e1,e2,e3];rfl
 ·rw[e1];exact xi H1
 ·rw[e1,e2];exact xi H2
 ·rw[e1,e2,e3];exact xi H3
theorem ach (x:dj) (z:dj) (h:wT x=some z):EF aA x=some z:=by
 simp only[wT,u0] at h
 split at h
 ·rename_i hs
  rw[<-h]
  by_cases ho:gG x=true
  ·obtain⟨p,n,s,b,ms,e,H,o1,o2,o3⟩:=Ol ho
   rw[if_pos ho]
   have m1:ta x=some (eu x):=if_pos ho
   have m2:tc (eu x)=some (kb (eu x)):=if_pos o1
   have m3:ta (kb (eu x))=some (eu (kb (eu x))):=if_pos o2
   have m4:tc (eu (kb (eu x)))=some (yn x):=if_pos o3
   generalize yn x=y4 at m4
   generalize eu (kb (eu x))=y3 at m3 m4
   generalize kb (eu x)=y2 at m2 m3
   generalize eu x=y1 at m1 m2
   obtain⟨x1,x2,x3,x4,x5⟩:=x
   obtain⟨a1,a2,a3,a4,a5⟩:=y1
   obtain⟨c1,c2,c3,c4,c5⟩:=y2
   obtain⟨d1,d2,d3,d4,d5⟩:=y3
   obtain⟨g1,g2,g3,g4,g5⟩:=y4
   simp only[EF]
   rw[show s9 (x1,x2,x3,x4,x5)=some true by simp only[s9];rw[if_pos hs,ho]]
   simp only[aN]
   rw[show eC true=false from rfl,xl,m1]
   simp only[aN,ik]
   rw[m2]
   simp only[aN,ik]
   rw[m3]
   simp only[aN,ik]
   rw[m4]
   simp only[aN,gu]
  ·rw[if_neg ho]
   obtain⟨x1,x2,x3,x4,x5⟩:=x
   simp only[EF]
   rw[show s9 (x1,x2,x3,x4,x5)=some false by simp only[s9];rw[if_pos hs,Bool.eq_false_iff.2 ho]]
   simp only[aN]
   rfl
 ·cases h
theorem acT (x:dj) (z:dj) (h:u0 x=some z):EL aA x=some z:=by
 simp only[u0] at h
 split at h
 ·rename_i hs
  rw[<-h]
  by_cases ho:gG x=true
  ·obtain⟨p,n,s,b,ms,e,H,o1,o2,o3⟩:=Ol ho
   rw[if_pos ho]
   have m1:th x=some (eu x):=if_pos ho
   have m2:ti (eu x)=some (kb (eu x)):=if_pos o1
   have m3:th (kb (eu x))=some (eu (kb (eu x))):=if_pos o2
   have m4:ti (eu (kb (eu x)))=some (yn x):=if_pos o3
   generalize yn x=y4 at m4
   generalize eu (kb (eu x))=y3 at m3 m4
   generalize kb (eu x)=y2 at m2 m3
   generalize eu x=y1 at m1 m2
   obtain⟨x1,x2,x3,x4,x5⟩:=x
   obtain⟨a1,a2,a3,a4,a5⟩:=y1
   obtain⟨c1,c2,c3,c4,c5⟩:=y2
   obtain⟨d1,d2,d3,d4,d5⟩:=y3
   obtain⟨g1,g2,g3,g4,g5⟩:=y4
   simp only[EL]
   rw[show tg (x1,x2,x3,x4,x5)=some true by simp only[tg];rw[if_pos hs,ho]]
   simp only[aN]
   rw[show eC true=false from rfl,xl,m1]
   simp only[aN,ik]
   rw[m2]
   simp only[aN,ik]
   rw[m3]
   simp only[aN,ik]
   rw[m4]
   simp only[aN,gu]
  ·rw[if_neg ho]
   obtain⟨x1,x2,x3,x4,x5⟩:=x
   simp only[EL]
   rw[show tg (x1,x2,x3,x4,x5)=some false by simp only[tg];rw[if_pos hs,Bool.eq_false_iff.2 ho]]
   simp only[aN]
   rfl
 ·cases h
end Go.Am
end
