/- M26, M27, M28, M68, M69, M70, M71, M72, M37, M41, M42, M73, M43, M10, M44, M74, M75, M76, M45, M77: parts of the proof. No condition. -/
import Derived.Test.YtbgmbplglejidaaM67
set_option linter.unusedVariables false
set_option linter.unusedSimpArgs false
section
namespace Go.Am
def cr (m:Int) (r c:Nat) (d:List Int):Nat:=(bT m r (bR c d) c).2.1.length
def fS (m:Int) (r c:Nat) (d:List Int):List Int:=ax r (cr m r c d) (u9 (bR c d) (bT m r (bR c d) c).2.1)
def jf (m:Int) (r c:Nat) (d:List Int):List Int:=ax (cr m r c d) c (bT m r (bR c d) c).1
def lD (m:Int) (r k c:Nat) (A B:List Int):List Int:=ax r c (mI m k (bR k A) (bR c B))
def Ef (m:Int) (L:List az) (i:Nat) (s t:az):Option (List az):=
 if s.1.toNat*s.2.1.toNat<=64 then
  some ((L.set i (s.1,s.2.1,(cr m (s.1.toNat*s.2.1.toNat) s.2.2.1.toNat s.2.2.2:Int),fS m (s.1.toNat*s.2.1.toNat) s.2.2.1.toNat s.2.2.2)).set (i+1)
   ((cr m (s.1.toNat*s.2.1.toNat) s.2.2.1.toNat s.2.2.2:Int),t.2.1,t.2.2.1,lD m (cr m (s.1.toNat*s.2.1.toNat) s.2.2.1.toNat s.2.2.2) s.2.2.1.toNat (t.2.1.toNat*t.2.2.1.toNat) (jf m (s.1.toNat*s.2.1.toNat) s.2.2.1.toNat s.2.2.2) t.2.2.2))
 else none
def wa (m:Int) (i:Nat) (L:List az) (_:Nat):Option (List az):=Ef m L i (L.getD i bB) (L.getD (i+1) bB)
def AM (m:Int) (L:List az) (i:Nat) (s t:az):Option (List az):=
 if s.2.1.toNat*s.2.2.1.toNat<=64 then
  some ((L.set (i+1) ((cr m s.1.toNat (s.2.1.toNat*s.2.2.1.toNat) s.2.2.2:Int),s.2.1,s.2.2.1,jf m s.1.toNat (s.2.1.toNat*s.2.2.1.toNat) s.2.2.2)).set i
   (t.1,t.2.1,(cr m s.1.toNat (s.2.1.toNat*s.2.2.1.toNat) s.2.2.2:Int),lD m (t.1.toNat*t.2.1.toNat) s.1.toNat (cr m s.1.toNat (s.2.1.toNat*s.2.2.1.toNat) s.2.2.2) t.2.2.2 (fS m s.1.toNat (s.2.1.toNat*s.2.2.1.toNat) s.2.2.2)))
 else none
def AL (m:Int) (n:Nat) (j:Nat) (L:List az) (_:Nat):Option (List az):=AM m L (n - (j+1)) (L.getD (n - (j+1)+1) bB) (L.getD (n - (j+1)) bB)
def DH (m:Int) (l:List az):Int×List az:=
 match dP (wa m) 0 l (List.range (l.length - 1)) with
 |none=>(0,[])
 |some L=>match dP (AL m (l.length - 1)) 0 L (List.range (l.length - 1)) with
  |none=>(0,[])
  |some L'=>(m,L')
def Wt:Int×List az->Option (Int×List az):=fun x=>if vp x<=1048576 then some x else none
def z9:Int×List az->Option (Int×List az):=Wt
def K5 (s:az):Prop:=(0<=s.1/\s.1<=4096)/\(0<=s.2.1/\s.2.1<=4096)/\(0<=s.2.2.1/\s.2.2.1<=4096)
instance (s:az):Decidable (K5 s):=by unfold K5;infer_instance
def xF:Int×(Int×Int×List Int)×az->Option az:=fun x=>
 if K5 x.2.2 then(vI (x.1,x.2.1,(x.2.2.1,x.2.2.2.1*x.2.2.2.2.1,x.2.2.2.2.2))).map fun y=>(x.2.1.1,x.2.2.2.1,x.2.2.2.2.1,y.2.2) else none
def xG:Int×az×(Int×Int×List Int)->Option az:=fun x=>
 if K5 x.2.1 then(vI (x.1,(x.2.1.1*x.2.1.2.1,x.2.1.2.2.1,x.2.1.2.2.2),x.2.2)).map fun y=>(x.2.1.1,x.2.1.2.1,x.2.2.2.1,y.2.2) else none
def LN:Int×List az->Option (Int×List az):=fun x=>if vp x<=1048576 then some (if eH x=true then DH x.1 x.2 else(0,[])) else none
def xA:Int×List az->Option (Int×List az):=LN
def Hw:ak:=[(.one,[.int .i64]),(.agg,[.int .i64,.int .i64,.list [.int .i64]]),(.agg,[.int .i64,.int .i64,.int .i64,.list [.int .i64]])]
def Td:ak:=[(.agg,[.int .i64,.int .i64,.int .i64,.list [.int .i64]])]
def akz:aP:=[]
def Hx:ak:=[(.one,[.int .i64]),(.agg,[.int .i64,.int .i64,.int .i64,.list [.int .i64]]),(.agg,[.int .i64,.int .i64,.list [.int .i64]])]
def Te:ak:=[(.agg,[.int .i64,.int .i64,.int .i64,.list [.int .i64]])]
def akA:aP:=[]
def Ho:ak:=[(.agg,[.int .i64,.list [.int .i64,.int .i64,.int .i64,.list [.int .i64]]])]
def S5:ak:=[(.agg,[.int .i64,.list [.int .i64,.int .i64,.int .i64,.list [.int .i64]]])]
def akr:aP:=[]
def G6:ak:=[(.agg,[.int .i64,.list [.int .i64,.int .i64,.int .i64,.list [.int .i64]]])]
def SO:ak:=[(.agg,[.int .i64,.list [.int .i64,.int .i64,.int .i64,.list [.int .i64]]])]
def akf:aP:=[]
def Mf (NN:Nat):(Int×((Int×(Int×(List Int)))×(Int×(Int×(Int×(List Int))))))->(Option (Int×(Int×(Int×(List Int))))):=
 (fun((i0,(i1,i2,l3),i4,i5,i6,l7):(Int×((Int×(Int×(List Int)))×(Int×(Int×(Int×(List Int)))))))=>
 (vE (i0,(i1,i2,l3),i4,db .i64 i5 i6,l7)).aa (fun(i8,i9,eE)=>
 (dt eE (J eE)).aa (fun bZ=>
 some (i1,i5,i6,bZ))))
def Mg (NN:Nat):(Int×((Int×(Int×(Int×(List Int))))×(Int×(Int×(List Int)))))->(Option (Int×(Int×(Int×(List Int))))):=
 (fun((i0,(i1,i2,i3,l4),i5,i6,l7):(Int×((Int×(Int×(Int×(List Int))))×(Int×(Int×(List Int))))))=>
 (vE (i0,(db .i64 i1 i2,i3,l4),i5,i6,l7)).aa (fun(i8,i9,eE)=>
 (dt eE (J eE)).aa (fun bZ=>
 some (i1,i2,i6,bZ))))
def L8 (NN:Nat):(Int×(List (Int×(Int×(Int×(List Int))))))->(Option (Int×(List (Int×(Int×(Int×(List Int))))))):=
 (fun((i0,l1):(Int×(List (Int×(Int×(Int×(List Int)))))))=>
 cg ((ai 0 0 (J (([]:List (Int×(Int×(Int×(List Int)))))))).aa (fun _=>
 (ai 0 0 (J (([]:List (Int×(Int×(Int×(List Int)))))))).aa (fun _=>
 bN NN (fun(((l2,i3,i4),i5,i6,l7,l8):(((List (Int×(Int×(Int×(List Int)))))×(Int×Int))×(Int×(Int×((List (Int×(Int×(Int×(List Int)))))×(List (Int×(Int×(Int×(List Int))))))))))=>
 aG (bQ i4 i3)
 ((eU l2 i4).aa (fun(i9,cN,e9,de)=>
 (mM de).aa (fun eY=>
 (dt eY (J eY)).aa (fun fO=>
 (ai 0 (J l8) (J l8)).aa (fun _=>
 (ai 0 1 (J (((i9,cN,e9,fO)::([]:List (Int×(Int×(Int×(List Int))))))))).aa (fun _=>
 (iL (aM (J l8) (J (((i9,cN,e9,fO)::([]:List (Int×(Int×(Int×(List Int))))))))) 48).aa (fun _=>
 (ai 0 (J l7) (J l7)).aa (fun _=>
 (ai 0 (aM (J l8) (J (((i9,cN,e9,fO)::([]:List (Int×(Int×(Int×(List Int))))))))) (J (dq l8 (((i9,cN,e9,fO)::([]:List (Int×(Int×(Int×(List Int)))))))))).aa (fun _=>
 some (Sum.inl ((l2,i3,bS .i64 i4 1),i5,i6,l7,dq l8 (((i9,cN,e9,fO)::([]:List (Int×(Int×(Int×(List Int))))))))))))))))))
 (((ai 0 (J l7) (J l7)).aa (fun _=>
 (ai 0 (J l8) (J l8)).aa (fun _=>
 some (Sum.inl (i5,i6,l7,l8))))).aa (fun fY=>
 some (Sum.inr fY))))
 ((l1,aN (J l1),(0:Int)),(0:Int),i0,([]:List (Int×(Int×(Int×(List Int))))),([]:List (Int×(Int×(Int×(List Int)))))))))
 (fun(gB,j4,lx,j7)=>
 (dt j7 (J j7)).aa (fun gM=>
 some (j4,gM))))
def LW (NN:Nat):(Int×(List (Int×(Int×(Int×(List Int))))))->(Option (Int×(List (Int×(Int×(Int×(List Int))))))):=
 (fun((i0,l1):(Int×(List (Int×(Int×(Int×(List Int)))))))=>
 (ql (i0,l1)).aa (fun b2=>
 aG (fi b2)
 (some ((0:Int),([]:List (Int×(Int×(Int×(List Int)))))))
 ((z9 (i0,l1)).aa (fun(i3,l4)=>
 cg ((ai 0 0 (J (([]:List (Int×(Int×(Int×(List Int)))))))).aa (fun _=>
 (ai 0 (J l4) (J l4)).aa (fun _=>
 bN NN (fun(((i5,i6),(i7,l8),i9,cN,bZ,de):((Int×Int)×((Int×(List (Int×(Int×(Int×(List Int))))))×(Int×(Int×((List (Int×(Int×(Int×(List Int)))))×(List (Int×(Int×(Int×(List Int)))))))))))=>
 aG (bQ i6 i5)
 ((eN i6 (J de)).aa (fun k13=>
 (cZ de (aM 0 k13)).aa (fun(dM,gj,gB,fg)=>
 (o9 (i7,db .i64 dM gj,gB,fg)).aa (fun((gk,fq,gM),(mB,lp,fZ),b24)=>
 aG (fi b24)
 (some (Sum.inr (Sum.inr ((0:Int),([]:List (Int×(Int×(Int×(List Int)))))))))
 ((eN i6 (J de)).aa (fun ES=>
 (cZ de (aM 0 ES)).aa (fun(pI,jk,pJ,gN)=>
 (dt gM (J gM)).aa (fun gO=>
 (eN (bS .i64 i6 1) (J de)).aa (fun EU=>
 (cZ (bF de (aM 0 ES) (dM,gj,fq,gO)) (aM 0 EU)).aa (fun(gK,nP,jl,J2)=>
 (df fZ 0 (J fZ)).aa (fun hZ=>
 (xF (i7,(mB,lp,hZ),gK,nP,jl,J2)).aa (fun(jn,kC,jI,jL)=>
 (eN (bS .i64 i6 1) (J de)).aa (fun Qk=>
 (cZ (bF de (aM 0 ES) (dM,gj,fq,gO)) (aM 0 Qk)).aa (fun(m9,j5,jo,oL)=>
 (dt jL (J jL)).aa (fun gp=>
 (ai 0 (J bZ) (J bZ)).aa (fun _=>
 (ai 0 (J de) (J (bF (bF de (aM 0 ES) (dM,gj,fq,gO)) (aM 0 Qk) (jn,kC,jI,gp)))).aa (fun _=>
 some (Sum.inl ((i5,bS .i64 i6 1),(i7,l8),i9,cN,bZ,bF (bF de (aM 0 ES) (dM,gj,fq,gO)) (aM 0 Qk) (jn,kC,jI,gp))))))))))))))))))))
 (((ai 0 (J bZ) (J bZ)).aa (fun _=>
 (ai 0 (J de) (J de)).aa (fun _=>
 some (Sum.inl (i5,(i7,l8),i9,cN,bZ,de))))).aa (fun j8=>
 some (Sum.inr j8))))
 ((fk .i64 (aN (J l4)) (1:Int),(0:Int)),(i0,l1),(0:Int),i3,([]:List (Int×(Int×(Int×(List Int))))),l4))))
 (fun(lr,(tq,tw),nb,nc,nU,lB)=>
 cg ((ai 0 (J nU) (J nU)).aa (fun _=>
 (ai 0 (J lB) (J lB)).aa (fun _=>
 bN NN (fun((pL,(sr,ib),uS,EK,oN,iR):(Int×((Int×(List (Int×(Int×(Int×(List Int))))))×(Int×(Int×((List (Int×(Int×(Int×(List Int)))))×(List (Int×(Int×(Int×(List Int)))))))))))=>
 aG (bQ (0:Int) pL)
 ((eN pL (J iR)).aa (fun EV=>
 (cZ iR (aM 0 EV)).aa (fun(pM,i64,pN,wS)=>
 (o9 (sr,pM,db .i64 i64 pN,wS)).aa (fun((pO,uU,tx),(wM,JI,kG),b73)=>
 aG (fi b73)
 (some (Sum.inr (Sum.inr ((0:Int),([]:List (Int×(Int×(Int×(List Int)))))))))
 ((eN pL (J iR)).aa (fun EW=>
 (cZ iR (aM 0 EW)).aa (fun(yX,oI,sv,l78)=>
 (dt kG (J kG)).aa (fun B5=>
 (eN (fk .i64 pL 1) (J iR)).aa (fun k80=>
 (cZ (bF iR (aM 0 EW) (wM,i64,pN,B5)) (aM 0 k80)).aa (fun(wN,i82,JJ,E1)=>
 (df tx 0 (J tx)).aa (fun Qt=>
 (xG (sr,(wN,i82,JJ,E1),pO,uU,Qt)).aa (fun(JK,BR,JL,tz)=>
 (eN (fk .i64 pL 1) (J iR)).aa (fun y8=>
 (cZ (bF iR (aM 0 EW) (wM,i64,pN,B5)) (aM 0 y8)).aa (fun(JM,i92,JN,l94)=>
 (dt tz (J tz)).aa (fun J6=>
 (ai 0 (J oN) (J oN)).aa (fun _=>
 (ai 0 (J iR) (J (bF (bF iR (aM 0 EW) (wM,i64,pN,B5)) (aM 0 y8) (JK,BR,JL,J6)))).aa (fun _=>
 some (Sum.inl (fk .i64 pL 1,(sr,ib),uS,EK,oN,bF (bF iR (aM 0 EW) (wM,i64,pN,B5)) (aM 0 y8) (JK,BR,JL,J6))))))))))))))))))))
 (((ai 0 (J oN) (J oN)).aa (fun _=>
 (ai 0 (J iR) (J iR)).aa (fun _=>
 some (Sum.inl (uS,EK,oN,iR))))).aa (fun E2=>
 some (Sum.inr E2))))
 (lr,(tq,tw),nb,nc,nU,lB))))
 (fun(i97,P0,E4,J1)=>
 (dt J1 (J J1)).aa (fun ajS=>
 some (P0,ajS))))))))
theorem xT {m:Int} {r c:Nat} {d:List Int} (hl:d.length=r*c) (h:eG m d):c8 m r c (bR c d):=by
 rw[<-kU,tc hl];exact h
theorem apJ {r c k:Nat} (M:aZ) (hk:k<=r):(ax r c M).take (k*c)=ax k c M:=by
 unfold ax
 rw[<-List.map_take,List.take_range,Nat.min_eq_left (Nat.mul_le_mul_right _ hk)]
theorem s7 {m:Int} {r c:Nat} {d:List Int} (hm:dm m) (hl:d.length=r*c) (hd:eG m d):
  Be (m,(r:Int),(c:Int),d)=(((r:Int),(cr m r c d:Int),fS m r c d),((cr m r c d:Int),(c:Int),jf m r c d))/\cr m r c d<=r/\cr m r c d<=c/\
  (fS m r c d).length=r*cr m r c d/\eG m (fS m r c d)/\(jf m r c d).length=cr m r c d*c/\eG m (jf m r c d):=by
 have hM:=xT hl hd
 have hI:=oT hm hM (r:=r) (c:=c) c
 have h1:cr m r c d<=r:=hI.l
 refine⟨?_,h1,hI.lj,ld _ _ _,?_,ld _ _ _,?_⟩
 ·simp only[Be,rj,Int.toNat_natCast]
  rw[apJ _ hI.l]
  rfl
 ·unfold fS
  rw[kU]
  intro i hi t ht
  exact hM i hi _ (abD hI.e ht).2
 ·unfold jf
  rw[kU]
  exact fun i hi j hj=>hI.m i (by omega) j hj
theorem Yy {m:Int} {r c:Nat} {d:List Int} (hp:cm m=true) (hc:c<=64) (hr:r<=4096) (hl:d.length=r*c) (hd:eG m d):
  o9 (m,(r:Int),(c:Int),d)=some (if r<=64 then(((r:Int),(cr m r c d:Int),fS m r c d),((cr m r c d:Int),(c:Int),jf m r c d),true) else((0,0,[]),(0,0,[]),false)):=by
 have hm:=dT hp
 have dJ:r*c<=4096*64:=Nat.mul_le_mul hr hc
 have e:nV m ((r:Int),(c:Int),d)=decide (r<=64):=by
  have eW:nZ m d=true:=List.all_eq_true.2 fun x hx=>decide_eq_true (hd x hx)
  have e3:(d.length:Int)=(r:Int)*(c:Int):=by rw[hl];norm_cast
  simp only[nV,hp,eW,e3,decide_true,Bool.true_and,Bool.and_true]
  rw[decide_eq_true (p:=0<=(c:Int)/\(c:Int)<=64) (by omega),Bool.and_true]
  by_cases h:r<=64
  ·rw[decide_eq_true h,decide_eq_true (by omega)]
  ·rw[decide_eq_false h,decide_eq_false (by omega)]
 simp only[o9,Gn]
 rw[if_pos (by show d.length<=_;omega),e,(s7 hm hl hd).1]
 by_cases h:r<=64
 ·rw[if_pos h,if_pos (decide_eq_true h)]
 ·rw[if_neg h,if_neg (by rw[decide_eq_false h];simp)]
theorem ahh {m:Int} {r c:Nat} {d:List Int} (hp:cm m=true) (hr:r<=64) (hc:c<=4096) (hl:d.length=r*c) (hd:eG m d):
  o9 (m,(r:Int),(c:Int),d)=some (if c<=64 then(((r:Int),(cr m r c d:Int),fS m r c d),((cr m r c d:Int),(c:Int),jf m r c d),true) else((0,0,[]),(0,0,[]),false)):=by
 have hm:=dT hp
 have dJ:r*c<=64*4096:=Nat.mul_le_mul hr hc
 have e:nV m ((r:Int),(c:Int),d)=decide (c<=64):=by
  have eW:nZ m d=true:=List.all_eq_true.2 fun x hx=>decide_eq_true (hd x hx)
  have e3:(d.length:Int)=(r:Int)*(c:Int):=by rw[hl];norm_cast
  simp only[nV,hp,eW,e3,decide_true,Bool.true_and,Bool.and_true]
  rw[decide_eq_true (p:=0<=(r:Int)/\(r:Int)<=64) (by omega),Bool.true_and]
  by_cases h:c<=64
  ·rw[decide_eq_true h,decide_eq_true (by omega)]
  ·rw[decide_eq_false h,decide_eq_false (by omega)]
 simp only[o9,Gn]
 rw[if_pos (by show d.length<=_;omega),e,(s7 hm hl hd).1]
 by_cases h:c<=64
 ·rw[if_pos h,if_pos (decide_eq_true h)]
 ·rw[if_neg h,if_neg (by rw[decide_eq_false h];simp)]
theorem Kl (m:Int) (r k c:Nat) (A B:List Int):(lD m r k c A B).length=r*c:=ld _ _ _
theorem Kk {m:Int} (hm:dm m) (r k c:Nat) (A B:List Int):eG m (lD m r k c A B):=by
 unfold lD
 rw[kU]
 exact fun i _ j _=>DO hm _ _ _
theorem aa5 {m:Int} {r k c:Nat} {A B:List Int} (hm:dm m) (hr:r<=4096) (hk:k<=4096) (hc:c<=4096) (h1:r*k<=1048576) (h2:k*c<=1048576) (h3:r*c<=1048576) (hA:A.length=r*k) (hB:B.length=k*c) (qA:eG m A) (qB:eG m B):
  vI (m,((r:Int),(k:Int),A),((k:Int),(c:Int),B))=some ((r:Int),(c:Int),lD m r k c A B):=by
 have e:=aa9 (r:=r) (k:=k) (c:=c) hm hr hk hc h1 h2 h3 (xT hA qA) (xT hB qB)
 rw[tc hA,tc hB] at e
 exact e
theorem CJ {m:Int} {s:az} (h:kl m s=true):∃(b p c:Nat) (d:List Int),s=((b:Int),(p:Int),(c:Int),d)/\b<=32/\c<=32/\(1<=p/\p<=8)/\d.length=b*p*c/\eG m d:=by
 obtain⟨a,p,c,d⟩:=s
 obtain⟨t1,t2,t3,t4,t5⟩:=Vc h
 obtain⟨a,rfl⟩:=fF t1.1
 obtain⟨p,rfl⟩:=fF (show 0<=p by omega)
 obtain⟨c,rfl⟩:=fF t2.1
 refine⟨a,p,c,d,rfl,by omega,by omega,by omega,?_,fun x hx=>of_decide_eq_true (List.all_eq_true.1 t5 x hx)⟩
 have:((a:Int)*(p:Int)*(c:Int))=((a*p*c:Nat):Int):=by norm_cast
 rw[this] at t4;exact_mod_cast t4
theorem ry {m:Int} {b p c:Nat} {d:List Int} (hb:b<=32) (hc:c<=32) (hp:1<=p/\p<=8) (hl:d.length=b*p*c) (hd:eG m d):kl m ((b:Int),(p:Int),(c:Int),d)=true:=by
 have eW:nZ m d=true:=List.all_eq_true.2 fun x hx=>decide_eq_true (hd x hx)
 have e3:(d.length:Int)=(b:Int)*(p:Int)*(c:Int):=by rw[hl];norm_cast
 simp only[kl,eW,e3,decide_true,Bool.and_true,Bool.and_eq_true,decide_eq_true_eq]
 omega
def lc (m:Int) (L:List az):Prop:=(∀k,k<L.length->kl m (L.getD k bB)=true)/\∀k,k+1<L.length->(L.getD (k+1) bB).1=(L.getD k bB).2.2.1
theorem Bf {m:Int} {l:List az} (h:eH (m,l)=true):lc m l:=by
 obtain⟨hm,hl,_,_,hs⟩:=t7 h
 refine⟨fun k hk=>?_,fun k hk=>?_⟩
 ·obtain⟨p,M,e,h1,h2,h3,h4,h5⟩:=hs k hk
  rw[e]
  exact ry h1 h2 h3 (ld _ _ _) (kU.2 h4)
 ·obtain⟨p,M,e,_⟩:=hs k (by omega)
  obtain⟨p',M',e',_⟩:=hs (k+1) hk
  rw[e,e']
theorem Jd {L:List az} {i:Nat} {s:az} (hi:i<L.length) (k:Nat):(L.set i s).getD k bB=if k=i then s else L.getD k bB:=by
 rw[List.getD_eq_getElem?_getD,List.getElem?_set,List.getD_eq_getElem?_getD]
 by_cases h:i=k
 ·subst h;rw[if_pos rfl,if_pos hi,if_pos rfl];rfl
 ·rw[if_neg h,if_neg (fun e=>h e.symm)]
theorem NE {m:Int} {L:List az} {i:Nat} {s t:az} (F:lc m L) (hi:i+1<L.length) (hs:kl m s=true) (ht:kl m t=true) (h1:s.1=(L.getD i bB).1) (h2:t.1=s.2.2.1) (h3:t.2.2.1=(L.getD (i+1) bB).2.2.1):
  lc m ((L.set i s).set (i+1) t):=by
 have hg:∀k,((L.set i s).set (i+1) t).getD k bB=if k=i+1 then t else if k=i then s else L.getD k bB:=fun k=>by
  rw[Jd (by simpa using hi),Jd (by omega)]
 refine⟨fun k hk=>?_,fun k hk=>?_⟩
 ·rw[hg]
  by_cases e1:k=i+1
  ·rw[if_pos e1];exact ht
  ·rw[if_neg e1]
   by_cases e2:k=i
   ·rw[if_pos e2];exact hs
   ·rw[if_neg e2];exact F.1 k (by simpa using hk)
 ·rw[hg,hg]
  have cO:k+1<L.length:=by simpa using hk
  by_cases e1:k=i
  ·subst e1
   rw[if_pos rfl,if_neg (by omega),if_pos rfl];exact h2
  ·by_cases e2:k=i+1
   ·subst e2
    rw[if_neg (by omega),if_neg (by omega),if_pos rfl,h3]
    exact F.2 _ cO
   ·by_cases e3:k+1=i
    ·subst e3
     rw[if_neg (by omega),if_pos rfl,if_neg e2,if_neg e1,h1]
     exact F.2 _ cO
    ·rw[if_neg (by omega),if_neg (by omega),if_neg e2,if_neg e1]
     exact F.2 _ cO
theorem Bg {m:Int} {L:List az} (F:lc m L) {i:Nat} (hi:i+1<L.length):∃(b p c p' c':Nat) (d d':List Int),L[i]? =some ((b:Int),(p:Int),(c:Int),d)/\L[i+1]? =some ((c:Int),(p':Int),(c':Int),d')/\
  L.getD i bB=((b:Int),(p:Int),(c:Int),d)/\L.getD (i+1) bB=((c:Int),(p':Int),(c':Int),d')/\
  b<=32/\c<=32/\c'<=32/\(1<=p/\p<=8)/\(1<=p'/\p'<=8)/\d.length=b*p*c/\d'.length=c*p'*c'/\eG m d/\eG m d':=by
 obtain⟨b,p,c,d,e1,a1,a2,a3,a4,a5⟩:=CJ (F.1 i (by omega))
 obtain⟨b',p',c',d',e2,b1,b2,b3,b4,b5⟩:=CJ (F.1 (i+1) hi)
 have h:=F.2 i hi
 rw[e1,e2] at h
 simp only at h
 have hbc:b'=c:=by omega
 subst hbc
 exact⟨b,p,b',p',c',d,d',by rw[getD_some bB (show i<L.length by omega),e1],by rw[getD_some bB hi,e2],e1,e2,a1,a2,b2,a3,b3,a4,b4,a5,b5⟩
theorem Y1 {m:Int} {L L':List az} {i a:Nat} (hm:dm m) (F:lc m L) (hi:i+1<L.length) (h:wa m i L a=some L'):lc m L'/\L'.length=L.length:=by
 obtain⟨b,p,c,p',c',d,d',_,_,e1,e2,h1,h2,h3,h4,h5,h6,h7,h8,h9⟩:=Bg F hi
 simp only[wa,e1,e2,Ef,Int.toNat_natCast] at h
 split at h
 ·rename_i hr
  injection h with h
  subst h
  obtain⟨_,f1,f2,f3,f4,f5,f6⟩:=s7 hm h6 h8
  refine⟨NE F hi (ry h1 (by omega) h4 f3 f4) (ry (by omega) h3 h5 (by rw[Kl,Nat.mul_assoc]) (Kk hm _ _ _ _ _)) (by rw[e1]) rfl (by rw[e2]),by simp⟩
 ·cases h
theorem aeF {m:Int} {L L':List az} {i:Nat} (hm:dm m) (F:lc m L) (hi:i+1<L.length) (h:AM m L i (L.getD (i+1) bB) (L.getD i bB)=some L'):lc m L'/\L'.length=L.length:=by
 obtain⟨b,p,c,p',c',d,d',_,_,e1,e2,h1,h2,h3,h4,h5,h6,h7,h8,h9⟩:=Bg F hi
 simp only[e1,e2,AM,Int.toNat_natCast] at h
 split at h
 ·rename_i hr
  injection h with h
  subst h
  obtain⟨_,f1,f2,f3,f4,f5,f6⟩:=s7 hm (show d'.length=c*(p'*c') by rw[h7,Nat.mul_assoc]) h9
  rw[List.set_comm _ _ (by omega)]
  refine⟨NE F hi (ry h1 (by omega) h4 (by rw[Kl]) (Kk hm _ _ _ _ _)) (ry (by omega) h3 h5 (by rw[f5,Nat.mul_assoc]) f6) (by rw[e1]) rfl (by rw[e2]),by simp⟩
 ·cases h
theorem agH (x:Int×(Int×Int×List Int)×az) (y:az) (h:xF x=some y):Mf aE x=some y:=by
 obtain⟨m,⟨r,c,M⟩,a,p,q,d⟩:=x
 simp only[xF] at h
 split at h
 ·rename_i hs
  obtain⟨h1,h2,h3⟩:=hs
  simp only at h1 h2 h3
  rw[Option.map_eq_some_iff] at h
  obtain⟨⟨r',c',d'⟩,e,rfl⟩:=h
  obtain⟨b1,b2⟩:=zm (a:=p) (x:=q) (A:=4096) (B:=4096) (by omega) (by omega) (by omega) (by omega)
  simp only[Mf]
  rw[nq (by omega) (by omega),show vE _=_ from e,au]
  simp only[gT,au]
 ·cases h
theorem agI (x:Int×az×(Int×Int×List Int)) (y:az) (h:xG x=some y):Mg aE x=some y:=by
 obtain⟨m,⟨a,p,q,d⟩,r,c,M⟩:=x
 simp only[xG] at h
 split at h
 ·rename_i hs
  obtain⟨h1,h2,h3⟩:=hs
  simp only at h1 h2 h3
  rw[Option.map_eq_some_iff] at h
  obtain⟨⟨r',c',d'⟩,e,rfl⟩:=h
  obtain⟨b1,b2⟩:=zm (a:=a) (x:=p) (A:=4096) (B:=4096) (by omega) (by omega) (by omega) (by omega)
  simp only[Mg]
  rw[nq (by omega) (by omega),show vE _=_ from e,au]
  simp only[gT,au]
 ·cases h
theorem agz (x:Int×List az) (y:Int×List az) (h:z9 x=some y):L8 aE x=some y:=by
 obtain⟨m,l⟩:=x
 simp only[z9,Wt] at h
 split at h
 ·rename_i hs
  rw[<-h]
  obtain⟨hlen,c6⟩:=Li hs
  simp only[L8]
  rw[show ai 0 0 (J ([]:List (Int×(Int×(Int×(List Int))))))=some () from rfl]
  simp only[au]
  rw[fz (fun i=>((l,aN (J l),(i:Int)),(0:Int),m,([]:List az),l.take i)) (r:=Sum.inl ((0:Int),m,([]:List az),l)) l.length ?_ ?_ ?_ (dD (by omega))]
  ·rw[gm]
   simp only[gT,au]
  all_goals try simp only
  ·intro j hj
   obtain⟨⟨a,p,c,d⟩,hs⟩:∃e,l[j]? =some e:=⟨_,List.getElem?_eq_getElem hj⟩
   have hd:d.length<=1048576:=c6 _ (List.mem_of_getElem? hs)
   have e1:J (l.take j)=j:=by simp[J];omega
   have e2:dq (l.take j) [(a,p,c,d)]=l.take (j+1):=by simp[dq,List.take_add_one,hs]
   rw[bc (u4 hs),eO,hs,au]
   simp only
   rw[show mM d=some d from if_pos (by omega),au,gT,au]
   simp only[e1,cG,au,zg,show∀s:az,J [s]=1 from fun _=>rfl,show iL (aM j 1) 48=some () from oz (by simp only[aM,dK];omega),Ck hs (by omega)]
   rw[e2]
  ·rw[aV (u0 l),List.take_length]
   simp only[cG,au]
  ·rfl
 ·cases h
theorem Oy {S α:Type} (step:Nat->S->α->Option S) (I:Nat->S->Prop) (es:List α):∀(l:List α) (i:Nat) (s s':S),I i s->(∀k s a s',l[k - i]? =some a->i<=k->I k s->step k s a=some s'->I (k+1) s')->dP step i s l=some s'->I (i+l.length) s'
 |[],i,s,s',h,_,e=>by simp only[dP] at e;injection e with e;subst e;exact h
 |a::l,i,s,s',h,hs,e=>by
  simp only[dP] at e
  cases dA:step i s a with
  |none=>rw[dA] at e;cases e
  |some s1=>
   rw[dA] at e
   have:=Oy step I es l (i+1) s1 s' (hs i s a s1 (by simp) (Nat.le_refl _) h dA) (fun k s b s' hb hk hI dA=>hs k s b s' (by rw[show k - i=(k - (i+1))+1 by omega];simpa using hb) (by omega) hI dA) e
   rw[List.length_cons,show i+(l.length+1)=i+1+l.length by omega]
   exact this
theorem aho {m:Int} {n:Nat} {step:Nat->List az->Nat->Option (List az)} {L L':List az} (h0:lc m L/\L.length=n) (hs:∀k L a L',k<n - 1->lc m L/\L.length=n->step k L a=some L'->lc m L'/\L'.length=n)
  (e:dP step 0 L (List.range (n - 1))=some L'):lc m L'/\L'.length=n:=
 Oy step (fun _ L=>lc m L/\L.length=n) (List.range (n - 1)) (List.range (n - 1)) 0 L L' h0 (fun k s a s' ha _ hI dA=>hs k s a s' (by have:=qZ ha;simpa using this) hI dA) e
theorem Je {L:List az} {i j:Nat} {s:az} (h:i≠j):cZ (bF L i s) j=cZ L j:=List.getElem?_set_ne h
theorem agk (x:Int×List az) (y:Int×List az) (h:xA x=some y):LW aE x=some y:=by
 obtain⟨m,l⟩:=x
 simp only[xA,LN] at h
 split at h
 ·rename_i hs
  rw[<-h]
  simp only[LW]
  rw[show ql (m,l)=some (eH (m,l)) from if_pos hs,au]
  cases hk:eH (m,l) with
  |false=>rw[bc (by rfl),if_neg (by simp)]
  |true=>
   rw[aV (by rfl),if_pos rfl]
   obtain⟨hm,hl,_⟩:=t7 hk
   have bg:cm m=true:=by simp only[eH,Bool.and_eq_true] at hk;exact hk.1
   have F0:=Bf hk
   rw[show z9 (m,l)=some (m,l) from if_pos hs,au]
   rw[show ai 0 0 (J ([]:List (Int×(Int×(Int×(List Int))))))=some () from rfl]
   simp only[au,cG]
   have e1:fk .i64 (aN (J l)) 1=((l.length - 1:Nat):Int):=by rw[nl,n7 (by omega) (by omega)];omega
   rw[e1]
   have mw:(List.range (l.length - 1)).length=l.length - 1:=List.length_range
   rw[QG (List.range (l.length - 1)) (fun(L:List az) i=>((((l.length - 1:Nat):Int),(i:Int)),(m,l),(0:Int),m,([]:List az),L)) (fun _ L=>lc m L/\L.length=l.length) (wa m) (Sum.inr (0,[])) (fun L=>Sum.inl (((l.length - 1:Nat):Int),(m,l),(0:Int),m,([]:List az),L)) ?_ ?_ ?_ (s:=l) ⟨F0,rfl⟩ ?_ (dD (by rw[mw];omega))]
   ·unfold DH
    cases hf:dP (wa m) 0 l (List.range (l.length - 1)) with
    |none=>rfl
    |some L=>
     have FL:lc m L/\L.length=l.length:=by
      refine aho ⟨F0,rfl⟩ (fun k L a L' hk hI dA=>?_) hf
      obtain⟨q1,q2⟩:=Y1 hm hI.1 (by omega) dA
      exact⟨q1,q2.trans hI.2⟩
     simp only
     rw[gm]
     simp only
     rw[QG (List.range (l.length - 1)) (fun(L:List az) j=>(((l.length - 1 - j:Nat):Int),(m,l),(0:Int),m,([]:List az),L)) (fun _ L=>lc m L/\L.length=l.length) (AL m (l.length - 1)) (Sum.inr (0,[])) (fun L=>Sum.inl ((0:Int),m,([]:List az),L)) ?_ ?_ ?_ (s:=L) FL ?_ (dD (by rw[mw];omega))]
     ·cases dP (AL m (l.length - 1)) 0 L (List.range (l.length - 1)) with
      |none=>rfl
      |some L'=>simp only;rw[gm];simp only[gT,au]
     all_goals try simp only
     ·rintro j L a ha ⟨F,hL⟩
      have hj:j<l.length - 1:=by rw[<-mw];exact qZ ha
      have hi:l.length - 1 - (j+1)+1<L.length:=by omega
      obtain⟨b,p,c,p',c',d,d',g1,g2,g3,g4,h1,h2,h3,h4,h5,h6,h7,h8,h9⟩:=Bg F hi
      have aU:p'*c'<=8*32:=Nat.mul_le_mul h5.2 h3
      have Bq:b*p<=32*8:=Nat.mul_le_mul h1 h4.2
      have pD:d'.length=c*(p'*c'):=by rw[h7,Nat.mul_assoc]
      have afx:l.length - 1 - j=l.length - 1 - (j+1)+1:=by omega
      simp only[AL,g3,g4,AM,Int.toNat_natCast]
      rw[afx]
      generalize l.length - 1 - (j+1)=i at*
      rw[bc (dk (by omega)),pk (by show i+1<L.length;omega),au,gZ,show cZ L (i+1)=_ from g2,au]
      simp only
      rw[Cf (by omega) (by omega)]
      rw[ahh bg (by omega) (by omega) pD h9,au]
      by_cases hr:p'*c'<=64
      ·rw[if_pos hr,if_pos hr]
       simp only
       rw[aV (by rfl)]
       have Jq:c*(p'*c')<=32*(8*32):=Nat.mul_le_mul h2 aU
       obtain⟨_,f1,f2,f3,f4,f5,f6⟩:=s7 hm pD h9
       simp only[au,gT,iI]
       rw[show fk .i64 (((i+1:Nat)):Int) 1=(i:Int) from by rw[VK (by omega)];omega,pk (by show i<L.length;omega)]
       simp only[au,gZ]
       rw[Je (by omega),show cZ L i=_ from g1]
       simp only[au]
       have k1:b*p*c<=256*32:=Nat.mul_le_mul Bq h2
       have k2:c*cr m c (p'*c') d'<=32*32:=Nat.mul_le_mul h2 (by omega)
       have k3:b*p*cr m c (p'*c') d'<=256*32:=Nat.mul_le_mul Bq (by omega)
       rw[show xG (m,((b:Int),(p:Int),(c:Int),d),((c:Int),(cr m c (p'*c') d':Int),fS m c (p'*c') d'))=some ((b:Int),(p:Int),(cr m c (p'*c') d':Int),lD m (b*p) c (cr m c (p'*c') d') d (fS m c (p'*c') d')) from by
        simp only[xG]
        rw[if_pos (by refine⟨?_,?_,?_⟩<;>simp only<;>omega),show((b:Int)*(p:Int))=((b*p:Nat):Int) by norm_cast,aa5 hm (by omega) (by omega) (by omega) (by omega) (by omega) (by omega) h6 f3 h8 f4]
        rfl]
       simp only[au,gT,cG,aaG,show cZ L i=_ from g1,show cZ L (i+1)=_ from g2,Je (L:=L) (show i+1≠i by omega)]
       rfl
      ·rw[if_neg hr,if_neg hr];rfl
     ·rintro j L a L' ha ⟨F,hL⟩ dA
      have hj:j<l.length - 1:=by rw[<-mw];exact qZ ha
      obtain⟨q1,q2⟩:=aeF (i:=l.length - 1 - (j+1)) hm F (by omega) dA
      exact⟨q1,q2.trans hL⟩
     ·rintro L ⟨F,hL⟩
      rw[mw,Nat.sub_self,aV (dg (by omega))]
     ·rfl
   all_goals try simp only
   ·rintro i L a ha ⟨F,hL⟩
    have hj:i<l.length - 1:=by rw[<-mw];exact qZ ha
    have hi:i+1<L.length:=by omega
    obtain⟨b,p,c,p',c',d,d',g1,g2,g3,g4,h1,h2,h3,h4,h5,h6,h7,h8,h9⟩:=Bg F hi
    have aU:p'*c'<=8*32:=Nat.mul_le_mul h5.2 h3
    have Bq:b*p<=32*8:=Nat.mul_le_mul h1 h4.2
    have pD:d'.length=c*(p'*c'):=by rw[h7,Nat.mul_assoc]
    simp only[wa,g3,g4,Ef,Int.toNat_natCast]
    rw[bc (nj hj),pk (by show i<L.length;omega),au,gZ,show cZ L i=_ from g1,au]
    simp only
    rw[Cf (by omega) (by omega)]
    rw[Yy bg (by omega) (by omega) h6 h8,au]
    by_cases hr:b*p<=64
    ·rw[if_pos hr,if_pos hr]
     simp only
     rw[aV (by rfl)]
     have Jq:b*p*c<=(32*8)*32:=Nat.mul_le_mul Bq h2
     obtain⟨_,f1,f2,f3,f4,f5,f6⟩:=s7 hm h6 h8
     simp only[au,gT,iI]
     rw[jB (by omega),pk (by show i+1<L.length;omega)]
     simp only[au,gZ]
     rw[Je (by omega),show cZ L (i+1)=_ from g2]
     simp only[au]
     have k1:cr m (b*p) c d*c<=32*32:=Nat.mul_le_mul (by omega) h2
     have k2:c*(p'*c')<=32*256:=Nat.mul_le_mul h2 aU
     have k3:cr m (b*p) c d*(p'*c')<=32*256:=Nat.mul_le_mul (by omega) aU
     rw[show xF (m,((cr m (b*p) c d:Int),(c:Int),jf m (b*p) c d),((c:Int),(p':Int),(c':Int),d'))=some ((cr m (b*p) c d:Int),(p':Int),(c':Int),lD m (cr m (b*p) c d) c (p'*c') (jf m (b*p) c d) d') from by
      simp only[xF]
      rw[if_pos (by refine⟨?_,?_,?_⟩<;>simp only<;>omega),show((p':Int)*(c':Int))=((p'*c':Nat):Int) by norm_cast,aa5 hm (by omega) (by omega) (by omega) (by omega) (by omega) (by omega) f5 pD f6 h9]
      rfl]
     simp only[au,gT,cG,aaG,show cZ L i=_ from g1,show cZ L (i+1)=_ from g2,Je (L:=L) (show i≠i+1 by omega)]
     rfl
    ·rw[if_neg hr,if_neg hr];rfl
   ·rintro i L a L' ha ⟨F,hL⟩ dA
    have hj:i<l.length - 1:=by rw[<-mw];exact qZ ha
    obtain⟨q1,q2⟩:=Y1 hm F (by omega) dA
    exact⟨q1,q2.trans hL⟩
   ·rintro L ⟨F,hL⟩
    rw[mw,aV (ni (Nat.le_refl _))]
   ·rfl
 ·cases h
end Go.Am
end
section
namespace Go.Am
def W5 (m:Int) (s t:az) (x:Int×Int×List Int):Prop:=x.1=s.2.1*t.2.1/\x.2.1=s.2.1*t.2.1/\s.1*s.2.1<=64/\t.2.1*t.2.2.1<=64
instance (m:Int) (s t:az) (x:Int×Int×List Int):Decidable (W5 m s t x):=by unfold W5;infer_instance
theorem XY {p:Int} {f g f' g':Nat->Int}:∀{n:Nat},(∀q,q<n->f q=f' q/\g q=g' q)->gw p f g n=gw p f' g' n
 |0,_=>rfl
 |n+1,h=>by
  rw[gw,gw,XY (n:=n) fun q hq=>h q (by omega),(h n (by omega)).1,(h n (by omega)).2]
end Go.Am
end
section
namespace Go.Am
section
variable {A1 A2 A3 A4 A5 X Y Z T ρ:Type}
end
section
variable {p:Int} {n:Nat} {a b:List Int} {ms:List jv} {N k:Nat}
end
section
variable {p:Int} {n:Nat} {a b:List Int} {ms:List jv} {N k:Nat}
theorem Ja {α:Type} (l r:List α):ai 0 (aM (J l) (J r)) (J (dq l r))=some ():=yp (by simp[aM,J,dq])
end
end Go.Am
end
section
namespace Go.Am
def HG:ak:=[(.agg,[.int .i64,.int .i64,.int .i64]),(.agg,[.list [.int .i64],.list [.int .i64],.list [.int .i64]]),(.one,[.list [.int .i64]])]
def Tl:ak:=[(.agg,[.list [.int .i64],.list [.int .i64],.list [.int .i64]])]
def akG:aP:=[]
def Mm (NN:Nat):((Int×(Int×Int))×(((List Int)×((List Int)×(List Int)))×(List Int)))->(Option ((List Int)×((List Int)×(List Int)))):=
 (fun(((i0,i1,i2),(l3,l4,l5),l6):((Int×(Int×Int))×(((List Int)×((List Int)×(List Int)))×(List Int))))=>
 (mM l6).aa (fun l7=>
 (ra (aN (J l6)) (aN (J l6)) 8).aa (fun k8=>
 cg ((ai 0 0 (J (([]:List Int)))).aa (fun _=>
 (ai 0 0 (J (([]:List Int)))).aa (fun _=>
 (ai 0 0 (J (([]:List Int)))).aa (fun _=>
 (ai 0 (J l7) (J l7)).aa (fun _=>
 (ai 0 k8 (J (eQ k8 (0:Int)))).aa (fun _=>
 (ai 0 0 (J (([]:List Int)))).aa (fun _=>
 bN NN (fun(((l9,eE,e9,fo),(fe,dM,gj),(gC,fg,lx),j7,gM,dU,eo,fZ,iF):(((List Int)×((List Int)×(Int×Int)))×((Int×(Int×Int))×(((List Int)×((List Int)×(List Int)))×((List Int)×((List Int)×((List Int)×((List Int)×((List Int)×(List Int))))))))))=>
 aG (bQ fo e9)
 ((eU eE fo).aa (fun m8=>
 (z8 ((gC,fg,lx),m8)).aa (fun pI=>
 (eU fg pI).aa (fun jk=>
 (eN fo (J fZ)).aa (fun ET=>
 (cZ fZ (aM 0 ET)).aa (fun yT=>
 (ai 0 (J j7) (J j7)).aa (fun _=>
 (ai 0 (J gM) (J gM)).aa (fun _=>
 (ai 0 (J dU) (J dU)).aa (fun _=>
 (ai 0 (J eo) (J eo)).aa (fun _=>
 (ai 0 (J fZ) (J (bF fZ (aM 0 ET) jk))).aa (fun _=>
 (ai 0 (J iF) (J iF)).aa (fun _=>
 some (Sum.inl ((l9,eE,e9,bS .i64 fo 1),(fe,dM,gj),(gC,fg,lx),j7,gM,dU,eo,bF fZ (aM 0 ET) jk,iF))))))))))))))
 (((ai 0 (J j7) (J j7)).aa (fun _=>
 (ai 0 (J gM) (J gM)).aa (fun _=>
 (ai 0 (J dU) (J dU)).aa (fun _=>
 (ai 0 (J eo) (J eo)).aa (fun _=>
 (ai 0 (J fZ) (J fZ)).aa (fun _=>
 (ai 0 (J iF) (J iF)).aa (fun _=>
 some (Sum.inl (l9,(fe,dM,gj),(gC,fg,lx),j7,gM,dU,eo,fZ,iF))))))))).aa (fun gO=>
 some (Sum.inr gO))))
 ((l6,l6,aN (J l6),(0:Int)),(i0,i1,i2),(l3,l4,l5),([]:List Int),([]:List Int),([]:List Int),l7,eQ k8 (0:Int),([]:List Int)))))))))
 (fun(ly,(gK,nP,jl),(J2,hZ,sx),lz,mF,jL,ia,lA,jp)=>
 (Aj ((J2,hZ,sx),ly)).aa (fun mG=>
 (ra (aN (J ly)) (aN (J ly)) 8).aa (fun Ql=>
 (ai 0 (J mG) (J mG)).aa (fun _=>
 (ai 0 Ql (J (eQ Ql (0:Int)))).aa (fun _=>
 (ai 0 (J lz) (J lz)).aa (fun _=>
 (ai 0 (J mF) (J mF)).aa (fun _=>
 (ai 0 (J jL) (J jL)).aa (fun _=>
 (ai 0 (J ia) (J ia)).aa (fun _=>
 (ai 0 (J lA) (J lA)).aa (fun _=>
 (ai 0 (J jp) (J jp)).aa (fun _=>
 bN NN (fun(((wL,nR,lr),(j9,tw,za),B0,nU,lB,kF,jM,ib,oM,iQ):((Int×(Int×Int))×(((List Int)×((List Int)×(List Int)))×((List Int)×((List Int)×((List Int)×((List Int)×((List Int)×((List Int)×((List Int)×(List Int)))))))))))=>
 (df oM 0 (J oM)).aa (fun oN=>
 (df iQ 0 (J iQ)).aa (fun iR=>
 (Ab (oN,iR)).aa (fun uT=>
 (xI ((wL,nR,lr),(j9,tw,za),uT)).aa (fun B3=>
 (ai 0 (J ib) (J ib)).aa (fun _=>
 (iL (aM (J ib) (J B3)) 8).aa (fun _=>
 (df jM 0 (J jM)).aa (fun EY=>
 (ai 0 (J iQ) (J iQ)).aa (fun _=>
 (tO (EY,iQ)).aa (fun(b65,wS)=>
 aG (fi b65)
 (((dt kF (J kF)).aa (fun l67=>
 (dt jM (J jM)).aa (fun EZ=>
 (dt (dq ib B3) (aM (J ib) (J B3))).aa (fun tx=>
 some (l67,EZ,tx))))).aa (fun((qX,ng,kG):((List Int)×((List Int)×(List Int))))=>
 some (Sum.inr (qX,ng,kG))))
 ((ai 0 (J oM) (J oM)).aa (fun _=>
 (ai 0 (J iQ) (J wS)).aa (fun _=>
 (ai 0 (J B0) (J B0)).aa (fun _=>
 (ai 0 (J nU) (J nU)).aa (fun _=>
 (ai 0 (J lB) (J lB)).aa (fun _=>
 (ai 0 (J kF) (J kF)).aa (fun _=>
 (ai 0 (J jM) (J jM)).aa (fun _=>
 (ai 0 (aM (J ib) (J B3)) (J (dq ib B3))).aa (fun _=>
 some (Sum.inl ((wL,nR,lr),(j9,tw,za),B0,nU,lB,kF,jM,dq ib B3,oM,wS)))))))))))))))))))))
 ((gK,nP,jl),(J2,hZ,sx),lz,mF,jL,ia,lA,jp,mG,eQ Ql (0:Int))))))))))))))))
theorem Ln {r:Rg} {L D A:List Int} (h:jQ r (L,D,A)=true):ov L D=true/\c7 D<=4096:=by
 simp only[jQ,Bool.and_eq_true,decide_eq_true_eq] at h
 obtain⟨h1,h2,h3,h4⟩:=h
 by_cases ha:ov L D=true/\c7 D<=4096
 ·exact ha
 ·have e:iW L D= -1:=if_neg ha
  rw[e] at h2
  exact absurd h2 (by decide)
theorem anC {D:List Int} (hl:D.length<=1048576) (hd:∀x∈D,1<=x/\x<=8) (hp:bJ D<=4096):Wq (D,4096)=some ((bJ D:Nat):Int):=by
 have hI:=vb (D:=D) fun x hx=>(hd x hx).1
 have e:xX 4096 D=((bJ D:Nat):Int):=by
  unfold xX
  rw[Il (by decide) _ 0 1 (fun x hx=>(hd x hx).1) (by decide) (by decide),Int.one_mul,hI,Int.min_eq_left (by omega)]
 rw[<-e]
 exact if_pos ⟨by decide,hl,List.all_eq_true.2 fun v hv=>by have:=hd v hv;exact decide_eq_true (by omega)⟩
theorem Xe (r:Rg) (A:List Int) (off:Nat->Nat):∀n,(kt r A off n).length<=n*cd r
 |0=>by simp[kt]
 |n+1=>by
  have ih:=Xe r A off n
  unfold kt
  rw[List.length_append,Nat.add_mul,Nat.one_mul]
  have:(gE A (off n*cd r) (cd r)).length<=cd r:=by unfold gE;rw[List.length_take];omega
  omega
theorem amo {L D S:List Int} (I:gY L D S) (n:Nat):sN (fun i=>((di (dG L D S) n).getD i 0).toNat*((oY L D S).getD i 0).toNat) (oY L D S).length=jr L D S n:=by
 rw[show(oY L D S).length=S.length from f0 _ _]
 unfold jr
 refine TP _ fun i hi=>?_
 rw[JP (by unfold dG;rw[f0];exact hi)]
 unfold gP
 rw[w7 I.nS hi]
 congr 1
 unfold oY
 rw[List.getD_eq_getElem?_getD,oV _ hi]
 exact Int.toNat_natCast _
theorem aps {L D S:List Int} (I:gY L D S) (hp:bJ D<=4096):zM (oY L D S) 1048576:=by
 refine⟨by unfold oY;rw[f0,I.FM];exact I.de,fun x hx=>?_⟩
 obtain⟨i,hi,rfl⟩:=List.mem_map.1 hx
 have h1:=I.xV (List.mem_range.1 hi)
 have:=VV I.jD (i:=dc L (S.getD i 0)+1) (by have:=I.len;omega)
 omega
theorem aiy {L D S:List Int} (I:gY L D S) (n:Nat):zM (di (dG L D S) n) 8:=by
 refine⟨by unfold di dG;rw[f0,f0,I.FM];exact I.de,fun x hx=>?_⟩
 obtain⟨i,hi,rfl⟩:=List.mem_map.1 hx
 have hi:i<S.length:=by have:=List.mem_range.1 hi;unfold dG at this;rwa[f0] at this
 have h1:=I.XV n hi
 have h2:=I.kZ _ (mh (l:=D) (i:=dc L (S.getD i 0)) (by have:=I.xV hi;have:=I.len;omega))
 omega
theorem aew {L D A S:List Int} (I:gY L D S) {i:Nat} (hi:i<S.length):yk L (S.getD i 0)=((dc L (S.getD i 0):Nat):Int):=if_pos (I.xV hi)
def zv (L D S:List Int) (j:Nat) (i:Nat):Int:=if i<j then D.getD (dc L (S.getD i 0)) 0 else 0
theorem agP (x:Rg×T3×List Int) (y:T3) (h:Ag x=some y):Mm aE x=some y:=by
 obtain⟨⟨k,p,m⟩,⟨L,D,A⟩,S⟩:=x
 simp only[Ag,Wr] at h
 split at h
 ·rename_i hc
  rw[<-h]
  obtain⟨ht,hS⟩:=hc
  try dsimp only at ht hS
  have te:=(Ln ht).1
  have I:=gY.mk' te hS
  obtain⟨hr,⟨hl,hd⟩,BK,⟨uJ,m4⟩,hA,hD,jE,hpI,_⟩:=VX ht
  have hw:=Gg hr
  have Eg:=I.de
  have ZJ:=I.len
  have gA:=I.FM
  have JD:=I.prod
  have Y9:=I.afi
  have fK:(dG L D S).length=S.length:=f0 _ _
  simp only[Mm]
  rw[show mM S=some S from if_pos (by omega)]
  simp only[bL]
  rw[Cd (by simp only[J,dK];omega)]
  simp only[bL,cG]
  rw[show ai 0 0 (J ([]:List Int))=some () from rfl,show ai 0 (J S) (J (eQ (J S) (0:Int)))=some () from yp (by simp[J,eQ])]
  simp only[bL]
  rw[fz (r:=Sum.inl (S,(k,p,m),(L,D,A),([]:List Int),([]:List Int),([]:List Int),S,dG L D S,([]:List Int))) (fun j=>((S,S,(S.length:Int),(j:Int)),(k,p,m),(L,D,A),([]:List Int),([]:List Int),([]:List Int),S,cj S.length (zv L D S j),([]:List Int))) S.length ?a1 ?a2 ?a3 (dD (by omega))]
  case a3=>
   rw[ab6]
   rfl
  case a2=>
   dsimp only
   rw[aV (dg (by omega))]
   try simp only[cG,bL]
   rw[show cj S.length (zv L D S S.length)=dG L D S from kJ fun i hi=>if_pos hi]
  case a1=>
   intro i hi
   dsimp only
   have bU:=I.xV hi
   rw[bc (dk (by omega)),eO,qK hi]
   simp only[bL]
   rw[show z8 ((L,D,A),S.getD i 0)=some (yk L (S.getD i 0)) from if_pos (by dsimp only;omega),aew (A:=A) I hi]
   simp only[bL]
   rw[eO,qK (l:=D) (i:=dc L (S.getD i 0)) (by omega)]
   simp only[bL]
   rw[DB _ hi]
   simp only[bL,gZ]
   rw[yq _ hi]
   simp only[bL,cG]
   rw[KG,show ai 0 (J (cj S.length (zv L D S i))) (J (cj S.length fun q=>if q=i then D.getD (dc L (S.getD i 0)) 0 else zv L D S i q))=some () from qJ _ _ _]
   simp only[bL]
   rw[fR (by omega) (by omega)]
   rw[show cj S.length (fun q=>if q=i then D.getD (dc L (S.getD i 0)) 0 else zv L D S i q)=cj S.length (zv L D S (i+1)) from kJ fun q hq=>by
    unfold zv
    by_cases m6:q=i
    ·subst m6;rw[if_pos rfl,if_pos (by omega)]
    ·rw[if_neg m6]
     by_cases bH:q<i
     ·rw[if_pos bH,if_pos (by omega)]
     ·rw[if_neg bH,if_neg (by omega)]]
   rfl
  simp only[cg,Option.bind]
  rw[show Aj ((L,D,A),S)=some (oY L D S) from if_pos ⟨te,hS,m4⟩]
  simp only[bL]
  rw[Cd (by simp only[J,dK];omega)]
  simp only[bL,cG]
  rw[show ai 0 (J S) (J (eQ (J S) (0:Int)))=some () from yp (by simp[J,eQ])]
  simp only[bL]
  have ahU:eQ (J S) (0:Int)=di (dG L D S) 0:=by
   have:=aaf Y9
   rw[show J (dG L D S)=J S from fK] at this
   exact this
  have ZT:∀n,n<bJ D->Ab (oY L D S,di (dG L D S) n)=some ((jr L D S n:Nat):Int)/\xI ((k,p,m),(L,D,A),((jr L D S n:Nat):Int))=some (gE A (jr L D S n*cd (k,p,m)) (cd (k,p,m)))/\
    iL (aM (J (kt (k,p,m) A (jr L D S) n)) (J (gE A (jr L D S n*cd (k,p,m)) (cd (k,p,m))))) 8=some ()/\tO (dG L D S,di (dG L D S) n)=some (decide (n+1<bJ D),di (dG L D S) (n+1)):=by
   intro n hn
   have ho:=I.abo n
   refine⟨?_,?_,?_,?_⟩
   ·rw[<-amo I n]
    exact if_pos ⟨aps I m4,aiy I n,by show(oY L D S).length=(di (dG L D S) n).length;unfold oY di;rw[f0,f0,fK]⟩
   ·have h1:(jr L D S n+1)*cd (k,p,m)<=bJ D*cd (k,p,m):=Nat.mul_le_mul_right _ ho
    have h2:bJ D*cd (k,p,m)<=4096*6:=Nat.mul_le_mul m4 hw.2.2
    rw[show xI ((k,p,m),(L,D,A),((jr L D S n:Nat):Int))=_ from if_pos ⟨hr,by dsimp only;omega,by dsimp only;rw[Int.toNat_natCast];omega,by dsimp only;omega⟩]
    rfl
   ·have h1:=Xe (k,p,m) A (jr L D S) n
    have h2:n*cd (k,p,m)<=4096*6:=Nat.mul_le_mul (by omega) hw.2.2
    have h3:(gE A (jr L D S n*cd (k,p,m)) (cd (k,p,m))).length<=6:=by unfold gE;rw[List.length_take];omega
    exact oz (by simp only[aM,J,dK];omega)
   ·have:=R4 Y9 (n:=n) (by rw[JD];exact hn) (by rw[JD];omega)
    rw[JD] at this
    exact this
  rw[ahU]
  rw[fz (r:=u7 (k,p,m) (L,D,A) S) (fun n=>((k,p,m),(L,D,A),([]:List Int),([]:List Int),([]:List Int),S,dG L D S,kt (k,p,m) A (jr L D S) n,oY L D S,di (dG L D S) n)) (bJ D - 1) ?b1 ?b2 ?b3 (dD (by omega))]
  case b3=>rfl
  case b2=>
   obtain⟨q1,q2,q3,q4⟩:=ZT (bJ D - 1) (by omega)
   dsimp only
   simp only[iI,cG,bL]
   rw[q1]
   simp only[bL]
   rw[q2]
   simp only[bL]
   rw[q3]
   simp only[bL]
   rw[q4]
   simp only[bL]
   rw[decide_eq_false (by omega),bc (b:=fi false) rfl]
   simp only[gT,bL]
   rw[adx (by simp[aM,J,dq])]
   simp only[bL]
   show some (Sum.inr (S,dG L D S,kt (k,p,m) A (jr L D S) (bJ D - 1)++gE A (jr L D S (bJ D - 1)*cd (k,p,m)) (cd (k,p,m))))=some (Sum.inr (S,dG L D S,kt (k,p,m) A (jr L D S) (bJ (dG L D S))))
   rw[JD]
   obtain⟨N,hN⟩:∃N,bJ D=N+1:=⟨bJ D - 1,by omega⟩
   rw[hN]
   rfl
  case b1=>
   intro n hn
   obtain⟨q1,q2,q3,q4⟩:=ZT n (by omega)
   dsimp only
   simp only[iI,cG,bL]
   rw[q1]
   simp only[bL]
   rw[q2]
   simp only[bL]
   rw[q3]
   simp only[bL]
   rw[q4]
   simp only[bL]
   rw[decide_eq_true (by omega),aV (b:=fi true) rfl]
   rw[show ai 0 (J (di (dG L D S) n)) (J (di (dG L D S) (n+1)))=some () from by unfold di;exact qJ _ _ _]
   simp only[bL]
   rw[Ja]
   rfl
 ·cases h
end Go.Am
end
section
namespace Go.Am
def Hi:ak:=[(.agg,[.int .i64,.int .i64,.int .i64]),(.agg,[.list [.int .i64],.list [.int .i64],.list [.int .i64]])]
def S0:ak:=[(.agg,[.list [.int .i64],.list [.int .i64],.list [.int .i64]])]
def akm:aP:=[]
def L4 (NN:Nat):((Int×(Int×Int))×((List Int)×((List Int)×(List Int))))->(Option ((List Int)×((List Int)×(List Int)))):=
 (fun(((i0,i1,i2),l3,l4,l5):((Int×(Int×Int))×((List Int)×((List Int)×(List Int)))))=>
 (vC ((i0,i1,i2),l3,l4,l5)).aa (fun b6=>
 aG (fi b6)
 (some (([]:List Int),([]:List Int),([]:List Int)))
 ((Ai l3).aa (fun l7=>
 (df l7 0 (J l7)).aa (fun l8=>
 (Ag ((i0,i1,i2),(l3,l4,l5),l8)).aa (fun(l9,eE,bZ)=>
 (dt l9 (J l9)).aa (fun de=>
 (dt eE (J eE)).aa (fun eY=>
 (dt bZ (J bZ)).aa (fun fO=>
 some (de,eY,fO))))))))))
theorem ap3 {α:Type} (x:α):df [x] 0 1=some [x]:=rfl
theorem agu (x:Rg×T3) (y:T3) (h:z6 x=some y):L4 aE x=some y:=by
 obtain⟨⟨k,p,m⟩,L,D,A⟩:=x
 simp only[z6,Wm] at h
 split at h
 ·rename_i hc
  rw[<-h]
  simp only[L4]
  rw[show vC ((k,p,m),L,D,A)=some (jQ (k,p,m) (L,D,A)) from if_pos hc]
  simp only[bL]
  unfold rA
  cases ht:jQ (k,p,m) (L,D,A) with
  |false=>rw[bc (b:=fi false) rfl,if_neg (by simp)]
  |true=>
   have Eg:=(vR (Ln ht).1).1
   rw[aV (b:=fi true) rfl,if_pos rfl,show Ai L=some (fj L L.length) from if_pos Eg]
   simp only[bL,iI]
   rw[show Ag ((k,p,m),(L,D,A),fj L L.length)=some (u7 (k,p,m) (L,D,A) (fj L L.length)) from if_pos ⟨ht,rfl⟩]
   simp only[bL,u7,gT]
 ·cases h
end Go.Am
end
section
namespace Go.Am
abbrev jU:=Nat×List Int×List az
def cK (m:Int) (D:List Int) (i:Nat) (st:jU):Nat:=cr m (st.1*(D.getD i 0).toNat) (aQ D (i+1)) st.2.1
def sS (m:Int) (D:List Int) (i:Nat) (st:jU):jU:=
 (cK m D i st,jf m (st.1*(D.getD i 0).toNat) (aQ D (i+1)) st.2.1,st.2.2++[((st.1:Int),D.getD i 0,(cK m D i st:Int),fS m (st.1*(D.getD i 0).toNat) (aQ D (i+1)) st.2.1)])
def AO (D:List Int) (i:Nat) (st:jU):Bool:=decide (st.1*(D.getD i 0).toNat<=64/\aQ D (i+1)<=64)
def rO (m:Int) (D:List Int) (i:Nat) (st:jU) (_:Nat):Option jU:=if AO D i st=true then(if cK m D i st<=32 then some (sS m D i st) else none) else none
def kH (D:List Int) (st:jU):List az:=st.2.2++[((st.1:Int),D.getD (D.length - 1) 0,1,st.2.1)]
def MR:(Int×List az)×Bool:=((0,[]),false)
def ahj (m:Int) (D:List Int) (st:jU):(Int×List az)×Bool:=((m,kH D st),true)
def Fw (m:Int) (D A:List Int):(Int×List az)×Bool:=match dP (rO m D) 0 (1,A,[]) (List.range (D.length - 1)) with|some st=>ahj m D st|none=>MR
def M3 (x:Int×T3):(Int×List az)×Bool:=if jQ (2,x.1,0) x.2=true/\1<=x.2.1.length/\x.2.1.length<=8 then Fw x.1 (rA (2,x.1,0) x.2).2.1 (rA (2,x.1,0) x.2).2.2 else MR
def LK:Int×T3->Option ((Int×List az)×Bool):=fun x=>if x.2.1.length<=1048576/\x.2.2.1.length<=1048576/\x.2.2.2.length<=1048576 then some (M3 x) else none
def xz:Int×T3->Option ((Int×List az)×Bool):=LK
structure mL (m:Int) (D A:List Int):Prop where
 pr:cm m=true
 l1:1<=D.length
 l8:D.length<=8
 kZ:∀x∈D,1<=x/\x<=8
 pn:bJ D<=4096
 len:A.length=bJ D
 el:eG m A
theorem Xg {r:Rg} {A:List Int} {off:Nat->Nat}:∀n,∀x∈kt r A off n,x∈A
 |0,x,hx=>by simp[kt] at hx
 |n+1,x,hx=>by
  unfold kt at hx
  rcases List.mem_append.1 hx with h|h
  ·exact Xg n x h
  ·exact List.mem_of_mem_drop (List.mem_of_mem_take h)
theorem Xf {r:Rg} {A:List Int} {off:Nat->Nat} {N:Nat} (hA:A.length=N*cd r) (ho:∀n,off n<N):∀n,(kt r A off n).length=n*cd r
 |0=>by simp[kt]
 |n+1=>by
  unfold kt
  rw[List.length_append,Xf hA ho n,Nat.add_mul,Nat.one_mul]
  have h1:(off n+1)*cd r<=N*cd r:=Nat.mul_le_mul_right _ (ho n)
  rw[Nat.add_mul,Nat.one_mul] at h1
  unfold gE
  rw[List.length_take,List.length_drop]
  omega
theorem apj {p:Int} {L D A:List Int} (ht:jQ (2,p,0) (L,D,A)=true) (h1:1<=L.length) (h8:L.length<=8):mL p (rA (2,p,0) (L,D,A)).2.1 (rA (2,p,0) (L,D,A)).2.2:=by
 have te:=(Ln ht).1
 have I:=gY.mk' te (S:=fj L L.length) rfl
 obtain⟨hr,_,_,⟨_,m4⟩,hA,_,_,_,mr⟩:=VX ht
 have e:rA (2,p,0) (L,D,A)=u7 (2,p,0) (L,D,A) (fj L L.length):=if_pos ht
 have bg:cm p=true:=by
  have:ju (2,p,0)=(cm p&&decide ((0:Int)=0)):=rfl
  rw[this,Bool.and_eq_true] at hr
  exact hr.1
 have hl:(dG L D (fj L L.length)).length=L.length:=by unfold dG;rw[f0,xm]
 rw[e]
 refine⟨bg,by show 1<=(dG L D (fj L L.length)).length;omega,by show(dG L D (fj L L.length)).length<=8;omega,I.XW,by show bJ (dG _ _ _)<=_;rw[I.prod];exact m4,?_,?_⟩
 ·show(kt (2,p,0) A (jr L D (fj L L.length)) (bJ (dG L D (fj L L.length)))).length=bJ (dG L D (fj L L.length))
  rw[Xf hA I.abo,show cd (2,p,0)=1 from rfl,Nat.mul_one]
 ·intro x hx
  have:=List.all_eq_true.1 mr x (Xg _ x hx)
  have hv:=of_decide_eq_true this
  have ht:eK (2,p,0)=p - 1:=rfl
  rw[ht] at hv
  exact⟨hv.1,by omega⟩
structure lS (m:Int) (D:List Int) (i:Nat) (st:jU):Prop where
 left:st.1<=64
 len:st.2.1.length=st.1*aQ D i
 el:eG m st.2.1
 g7:st.2.2.length=i
 sz:rB st.2.2<=i*5000
theorem adt (L:List az) (s:az):rB (L++[s])=rB L+1+s.2.2.2.length:=by
 simp only[rB,List.length_append,List.map_append,List.sum_append_nat,List.length_cons,List.length_nil,List.map_cons,List.map_nil,List.sum_cons,List.sum_nil]
 show _=_+1+vq s
 omega
theorem lS.rc {m:Int} {D A:List Int} (h:mL m D A) {i:Nat} (hi:i<D.length - 1) {st:jU} (I:lS m D i st):st.2.1.length=st.1*(D.getD i 0).toNat*aQ D (i+1):=by
 rw[I.len,nz (by omega),Nat.mul_assoc]
theorem lS.next {m:Int} {D A:List Int} (h:mL m D A) {i:Nat} (hi:i<D.length - 1) {st:jU} (I:lS m D i st) (hf:AO D i st=true):lS m D (i+1) (sS m D i st):=by
 have hf:=of_decide_eq_true hf
 obtain⟨_,f1,f2,f3,f4,f5,f6⟩:=s7 (dT h.pr) (lS.rc h hi I) I.el
 refine⟨by show cr _ _ _ _<=64;omega,f5,f6,by show(st.2.2++[_]).length=_;rw[List.length_append,I.g7];rfl,?_⟩
 show rB (st.2.2++[_])<=_
 rw[adt]
 show rB st.2.2+1+(fS _ _ _ _).length<=_
 rw[f3]
 have h1:st.1*(D.getD i 0).toNat*cr m (st.1*(D.getD i 0).toNat) (aQ D (i+1)) st.2.1<=64*64:=Nat.mul_le_mul hf.1 (by omega)
 have:=I.sz
 omega
structure sK (m:Int) (D:List Int) (i:Nat) (st:jU):Prop where
 s:lS m D i st
 left:st.1<=32
 ch:dP (mS m) 0 1 st.2.2=some (st.1:Int)
 A6:be st.2.2=D.take i
theorem I8 {S α:Type} (step:Nat->S->α->Option S) (a:α):∀(l:List α) (i:Nat) (s:S),dP step i s (l++[a])=match dP step i s l with|some s'=>step (i+l.length) s' a|none=>none
 |[],i,s=>by
  simp only[List.nil_append,dP,List.length_nil,Nat.add_zero]
  cases step i s a<;>rfl
 |b::l,i,s=>by
  simp only[List.cons_append,dP]
  cases step i s b with
  |none=>rfl
  |some s1=>
   simp only
   rw[I8 step a l (i+1) s1,List.length_cons,show i+1+l.length=i+(l.length+1) by omega]
theorem IH {m:Int} {D A:List Int} (h:mL m D A) {i:Nat} (hi:i<D.length):∃d:Nat,D.getD i 0=(d:Int)/\(D.getD i 0).toNat=d/\1<=d/\d<=8:=by
 have:=h.kZ _ (mh hi)
 exact⟨(D.getD i 0).toNat,by omega,rfl,by omega,by omega⟩
theorem sK.next {m:Int} {D A:List Int} (h:mL m D A) {i:Nat} (hi:i<D.length - 1) {st:jU} (I:sK m D i st) (hf:AO D i st=true) (hk:cK m D i st<=32):sK m D (i+1) (sS m D i st):=by
 have hs:=lS.next h hi I.s hf
 obtain⟨d,d1,d2,d3,d4⟩:=IH h (i:=i) (by omega)
 obtain⟨_,f1,f2,f3,f4,f5,f6⟩:=s7 (dT h.pr) (lS.rc h hi I.s) I.s.el
 refine⟨hs,hk,?_,?_⟩
 ·show dP (mS m) 0 1 (st.2.2++[_])=some ((cK m D i st:Nat):Int)
  rw[I8,I.ch]
  show mS m _ _ _=_
  refine if_pos ⟨?_,rfl⟩
  have Nw:(fS m (st.1*(D.getD i 0).toNat) (aQ D (i+1)) st.2.1).length=st.1*(D.getD i 0).toNat*cK m D i st:=f3
  generalize fS m (st.1*(D.getD i 0).toNat) (aQ D (i+1)) st.2.1=fa at Nw f4⊢
  rw[d2] at Nw
  rw[d1]
  exact ry I.left hk ⟨d3,d4⟩ Nw f4
 ·show be (st.2.2++[_])=_
  unfold be
  rw[List.map_append]
  show be st.2.2++[D.getD i 0]=_
  rw[I.A6,List.take_add_one,qK (by omega)]
  rfl
theorem sK.fin {m:Int} {D A:List Int} (h:mL m D A) {st:jU} (I:sK m D (D.length - 1) st):eH (m,kH D st)=true:=by
 have l1:=h.l1
 obtain⟨d,d1,d2,d3,d4⟩:=IH h (i:=D.length - 1) (by omega)
 have hlen:=I.s.len
 rw[nz (by omega),show D.length - 1+1=D.length by omega,qg,Nat.mul_one,d2] at hlen
 have yz:=I.s.g7
 have dr:dP (mS m) 0 1 (kH D st)=some 1:=by
  unfold kH
  rw[I8,I.ch]
  show mS m _ _ _=_
  refine if_pos ⟨?_,rfl⟩
  rw[d1]
  exact ry (c:=1) I.left (by omega) ⟨d3,d4⟩ (by rw[hlen,Nat.mul_one]) I.s.el
 have Ep:be (kH D st)=D:=by
  unfold kH be
  rw[List.map_append]
  show be st.2.2++[D.getD (D.length - 1) 0]=_
  rw[I.A6]
  have:=List.take_add_one (l:=D) (i:=D.length - 1)
  rw[show D.length - 1+1=D.length by omega,List.take_length,qK (by omega)] at this
  exact this.symm
 have hp:c7 D<=4096:=by
  rw[vb fun x hx=>(h.kZ x hx).1]
  have:=h.pn
  omega
 have ZJ:(kH D st).length=D.length:=by
  unfold kH
  rw[List.length_append,yz]
  show D.length - 1+1=_
  omega
 simp only[eH,h.pr,dr,Ep,ZJ,Bool.true_and]
 rw[decide_eq_true ⟨l1,h.l8⟩,decide_eq_true hp]
 rfl
theorem Qb {m:Int} {D A:List Int} (h:mL m D A):sK m D 0 (1,A,[]):=
 ⟨⟨by show(1:Nat)<=64;decide,by show A.length=1*aQ D 0;rw[Nat.one_mul,CY];exact h.len,h.el,rfl,by show rB []<=0;decide⟩,by show(1:Nat)<=32;decide,rfl,rfl⟩
end Go.Am
end
section
namespace Go.Am
theorem XB {n:Nat} (h1:1<=n) (h:n<=1000):fk .i64 (n:Int) 1=((n - 1:Nat):Int):=by rw[n7 (by omega) (by omega)];omega
theorem ae5 {D:List Int} {i:Nat}:gE D i (D.length - i)=D.drop i:=by
 unfold gE
 exact List.take_of_length_le (by rw[List.length_drop];exact Nat.le_refl _)
theorem ae4 {D:List Int} {i:Nat} (h:i<=D.length):ir (i:Int) (aN (J D)) (J D)=some (i,D.length - i):=by
 unfold ir aN J
 rw[if_pos ⟨by omega,by omega,by omega⟩]
 congr 2
 omega
theorem adw {m:Int} {D A:List Int} (h:mL m D A) (i:Nat):Wq (D.drop i,4096)=some ((aQ D i:Nat):Int)/\Ae (D.drop i)=some ((aQ D i:Nat):Int)/\aQ D i<=4096:=by
 have l8:=h.l8
 have hd:∀x∈D.drop i,1<=x/\x<=8:=fun x hx=>h.kZ x (List.mem_of_mem_drop hx)
 have hG:jD D:=⟨by omega,fun x hx=>by have:=h.kZ x hx;omega⟩
 have hp:bJ (D.drop i)<=4096:=by
  by_cases hi:i<=D.length
  ·exact Nat.le_trans (VV hG hi) h.pn
  ·rw[List.drop_eq_nil_of_le (by omega)];decide
 refine⟨anC (by rw[List.length_drop];omega) hd hp,?_,hp⟩
 have e:c7 (D.drop i)=((aQ D i:Nat):Int):=vb fun x hx=>(hd x hx).1
 rw[<-e]
 exact if_pos ⟨by rw[List.length_drop];omega,hd⟩
theorem ae3 {m:Int} {D A:List Int} (h:mL m D A) {st:jU} (I:lS m D (D.length - 1) st):vp (m,kH D st)<=1048576/\st.2.1.length<=4096:=by
 have l1:=h.l1
 have l8:=h.l8
 obtain⟨d,d1,d2,d3,d4⟩:=IH h (i:=D.length - 1) (by omega)
 have hlen:=I.len
 rw[nz (by omega),show D.length - 1+1=D.length by omega,qg,Nat.mul_one,d2] at hlen
 have h1:st.1*d<=64*8:=Nat.mul_le_mul I.left d4
 have bI:=I.sz
 refine⟨?_,by omega⟩
 show rB (st.2.2++[_])<=_
 rw[adt]
 show rB st.2.2+1+st.2.1.length<=_
 omega
end Go.Am
end
section
namespace Go.Am
def G0:ak:=[(.one,[.int .i64]),(.agg,[.list [.int .i64],.list [.int .i64],.list [.int .i64]])]
def SL:ak:=[(.agg,[.int .i64,.list [.int .i64,.int .i64,.int .i64,.list [.int .i64]]]),(.one,[.bool])]
def akc:aP:=[]
def LS (NN:Nat):(Int×((List Int)×((List Int)×(List Int))))->(Option ((Int×(List (Int×(Int×(Int×(List Int))))))×Bool)):=
 (fun((i0,l1,l2,l3):(Int×((List Int)×((List Int)×(List Int)))))=>
 (vC (((2:Int),i0,(0:Int)),l1,l2,l3)).aa (fun b4=>
 aG (fi b4)
 (some (((0:Int),([]:List (Int×(Int×(Int×(List Int)))))),false))
 (aG (cJ (aN (J l1)) (0:Int))
 (some (((0:Int),([]:List (Int×(Int×(Int×(List Int)))))),false))
 (aG (bQ (8:Int) (aN (J l1)))
 (some (((0:Int),([]:List (Int×(Int×(Int×(List Int)))))),false))
 ((z6 (((2:Int),i0,(0:Int)),l1,l2,l3)).aa (fun(l5,l6,l7)=>
 (dt l5 (J l5)).aa (fun l8=>
 (dt l6 (J l6)).aa (fun l9=>
 (dt l7 (J l7)).aa (fun eE=>
 (ir (0:Int) (fk .i64 (aN (J l9)) (1:Int)) (J l9)).aa (fun(JY,BW)=>
 cg ((ai 0 0 (J (([]:List (Int×(Int×(Int×(List Int)))))))).aa (fun _=>
 (ai 0 0 (J (([]:List (Int×(Int×(Int×(List Int)))))))).aa (fun _=>
 bN NN (fun(((fe,dM,fY,gB,fg,gk,fq),iE,(dU,eo,fZ),sn,gn,fh):((Int×(Int×((List Int)×(Int×((List Int)×(Int×Int))))))×(Int×(((List Int)×((List Int)×(List Int)))×(Int×((List (Int×(Int×(Int×(List Int)))))×(List (Int×(Int×(Int×(List Int)))))))))))=>
 aG (bQ fq gk)
 ((eU fg fq).aa (fun jk=>
 (ir (bS .i64 fq 1) (aN (J eo)) (J eo)).aa (fun(ET,k29)=>
 (Ae (gE eo ET k29)).aa (fun sq=>
 (o9 (fe,db .i64 dM jk,sq,fY)).aa (fun((kB,gK,iG),(jl,jm,hZ),b37)=>
 aG (fi b37)
 (some (Sum.inr (Sum.inr (((0:Int),([]:List (Int×(Int×(Int×(List Int)))))),false))))
 (aG (bQ (32:Int) gK)
 (some (Sum.inr (Sum.inr (((0:Int),([]:List (Int×(Int×(Int×(List Int)))))),false))))
 ((dt iG (J iG)).aa (fun lz=>
 (ai 0 (J fh) (J fh)).aa (fun _=>
 (ai 0 1 (J (((dM,jk,gK,lz)::([]:List (Int×(Int×(Int×(List Int))))))))).aa (fun _=>
 (iL (aM (J fh) (J (((dM,jk,gK,lz)::([]:List (Int×(Int×(Int×(List Int))))))))) 48).aa (fun _=>
 (dt hZ (J hZ)).aa (fun mF=>
 (ai 0 (J gn) (J gn)).aa (fun _=>
 (ai 0 (aM (J fh) (J (((dM,jk,gK,lz)::([]:List (Int×(Int×(Int×(List Int))))))))) (J (dq fh (((dM,jk,gK,lz)::([]:List (Int×(Int×(Int×(List Int)))))))))).aa (fun _=>
 some (Sum.inl ((fe,gK,mF,gB,fg,gk,bS .i64 fq 1),iE,(dU,eo,fZ),sn,gn,dq fh (((dM,jk,gK,lz)::([]:List (Int×(Int×(Int×(List Int)))))))))))))))))))))))
 (((ai 0 (J gn) (J gn)).aa (fun _=>
 (ai 0 (J fh) (J fh)).aa (fun _=>
 some (Sum.inl ((dM,gB,fY),iE,(dU,eo,fZ),sn,gn,fh))))).aa (fun jL=>
 some (Sum.inr jL))))
 ((i0,(1:Int),eE,fk .i64 (aN (J l9)) (1:Int),gE l9 JY BW,aN (J (gE l9 JY BW)),(0:Int)),(0:Int),(l8,l9,eE),i0,([]:List (Int×(Int×(Int×(List Int))))),([]:List (Int×(Int×(Int×(List Int)))))))))
 (fun((nQ,m9,jp),jo,(oL,gp,j8),lr,j9,tw)=>
 (eU gp m9).aa (fun nb=>
 (mM jp).aa (fun B0=>
 (dt B0 (J B0)).aa (fun nU=>
 (ai 0 (J tw) (J tw)).aa (fun _=>
 (ai 0 1 (J (((nQ,nb,(1:Int),nU)::([]:List (Int×(Int×(Int×(List Int))))))))).aa (fun _=>
 (iL (aM (J tw) (J (((nQ,nb,(1:Int),nU)::([]:List (Int×(Int×(Int×(List Int))))))))) 48).aa (fun _=>
 (dt (dq tw (((nQ,nb,(1:Int),nU)::([]:List (Int×(Int×(Int×(List Int)))))))) (aM (J tw) (J (((nQ,nb,(1:Int),nU)::([]:List (Int×(Int×(Int×(List Int)))))))))).aa (fun lB=>
 some ((lr,lB),true)))))))))))))))))))
theorem agh (x:Int×T3) (y:(Int×List az)×Bool) (h:xz x=some y):LS aE x=some y:=by
 obtain⟨m,L0,D0,A0⟩:=x
 simp only[xz,LK] at h
 split at h
 ·rename_i hc
  rw[<-h]
  simp only[LS]
  rw[show vC ((2,m,0),L0,D0,A0)=some (jQ (2,m,0) (L0,D0,A0)) from if_pos hc]
  simp only[bL]
  unfold M3
  have aL:aN (J L0)=(L0.length:Int):=rfl
  cases ht:jQ (2,m,0) (L0,D0,A0) with
  |false=>rw[bc (b:=fi false) rfl,if_neg (by simp)];rfl
  |true=>
   rw[aV (b:=fi true) rfl,aL]
   by_cases hl:1<=L0.length/\L0.length<=8
   ·rw[aV (by unfold cJ;rw[beq_eq_false_iff_ne];omega),aV (dg (by omega)),if_pos ⟨rfl,hl⟩]
    rw[show z6 ((2,m,0),L0,D0,A0)=some (rA (2,m,0) (L0,D0,A0)) from if_pos hc]
    have HD:=apj ht hl.1 hl.2
    generalize rA (2,m,0) (L0,D0,A0)=X at HD⊢
    obtain⟨S,D,A⟩:=X
    have HD:mL m D A:=HD
    simp only[bL,gT]
    have l1:=HD.l1
    have l8:=HD.l8
    have hm:=dT HD.pr
    have yM:=HD.pn
    have hAl:=HD.len
    have eX:fk .i64 (aN (J D)) 1=((D.length - 1:Nat):Int):=XB (n:=D.length) l1 (by omega)
    rw[eX]
    rw[show ir (0:Int) ((D.length - 1:Nat):Int) (J D)=some (0,D.length - 1) by
     unfold ir J
     rw[if_pos ⟨by omega,by omega,by omega⟩]
     congr 2]
    simp only[bL,cG]
    rw[show ai 0 0 (J ([]:List (Int×(Int×(Int×(List Int))))))=some () from rfl]
    simp only[bL]
    have wE:gE D 0 (D.length - 1)=D.take (D.length - 1):=by unfold gE;rw[List.drop_zero]
    have htl:(D.take (D.length - 1)).length=D.length - 1:=by rw[List.length_take];omega
    rw[wE,show aN (J (D.take (D.length - 1)))=((D.length - 1:Nat):Int) by show(((D.take (D.length - 1)).length:Nat):Int)=_;rw[htl]]
    have mw:(List.range (D.length - 1)).length=D.length - 1:=List.length_range
    rw[QG (List.range (D.length - 1)) (fun(st:jU) i=>((m,(st.1:Int),st.2.1,((D.length - 1:Nat):Int),D.take (D.length - 1),((D.length - 1:Nat):Int),(i:Int)),(0:Int),(S,D,A),m,([]:List az),st.2.2)) (lS m D) (rO m D) (Sum.inr MR) (fun st=>Sum.inl (((st.1:Int),((D.length - 1:Nat):Int),st.2.1),(0:Int),(S,D,A),m,([]:List az),st.2.2)) ?a1 ?a2 ?a3 (s:=(1,A,[])) (Qb HD).s ?a4 (dD (by rw[mw];omega))]
    case a4=>rfl
    case a2=>
     intro i st a Le ha I dA
     have hi:i<D.length - 1:=by rw[<-mw];exact qZ ha
     unfold rO at dA
     split at dA
     ·rename_i hf
      split at dA
      ·injection dA with dA
       subst dA
       exact lS.next HD hi I hf
      ·cases dA
     ·cases dA
    case a3=>
     intro st I
     rw[mw]
     dsimp only
     rw[aV (dg (by omega))]
     try simp only[cG,bL]
    case a1=>
     intro i st a ha I
     have hi:i<D.length - 1:=by rw[<-mw];exact qZ ha
     obtain⟨d,d1,d2,d3,d4⟩:=IH HD (i:=i) (by omega)
     obtain⟨t1,t2,t3⟩:=adw HD (i+1)
     have dJ:=lS.rc HD hi I
     have Pp:=I.left
     have hrd:st.1*d<=64*8:=Nat.mul_le_mul Pp d4
     dsimp only
     rw[bc (dk (by omega)),eO,List.getElem?_take_of_lt hi,qK (l:=D) (i:=i) (by omega)]
     simp only[bL]
     rw[fR (by omega) (by omega),show(i:Int)+1=((i+1:Nat):Int) by omega,ae4 (by omega)]
     simp only[bL]
     rw[ae5,t2]
     simp only[bL]
     have Pu:db .i64 (st.1:Int) (D.getD i 0)=((st.1*d:Nat):Int):=by rw[d1,Cf (by omega) (by omega)]
     rw[Pu]
     rw[d2] at dJ
     unfold rO
     by_cases hf:AO D i st=true
     ·have g9:=of_decide_eq_true hf
      rw[d2] at g9
      rw[if_pos hf,Yy HD.pr g9.2 (by omega) dJ I.el,if_pos g9.1]
      simp only[bL]
      rw[aV (b:=fi true) rfl]
      have Jq:cK m D i st=cr m (st.1*d) (aQ D (i+1)) st.2.1:=by unfold cK;rw[d2]
      by_cases hk:cK m D i st<=32
      ·rw[if_pos hk,aV (dg (by rw[<-Jq];omega))]
       try simp only[bL,cG,gT]
       rw[show∀s:az,ai 0 1 (J [s])=some () from fun _=>rfl]
       simp only[bL]
       rw[oz (by show(aM st.2.2.length 1)*48<=dK;rw[I.g7];simp only[aM,dK];omega)]
       try simp only[bL,cG,gT]
       rw[Ja]
       simp only[sS,cK]
       rw[d2]
       rfl
      ·rw[if_neg hk,bc (dk (by rw[<-Jq];omega))]
       rfl
     ·have g9:¬(st.1*(D.getD i 0).toNat<=64/\aQ D (i+1)<=64):=fun e=>hf (decide_eq_true e)
      rw[d2] at g9
      rw[if_neg hf]
      have cf:nV m (((st.1*d:Nat):Int),((aQ D (i+1):Nat):Int),st.2.1)=false:=by
       cases hmk:nV m (((st.1*d:Nat):Int),((aQ D (i+1):Nat):Int),st.2.1) with
       |false=>rfl
       |true=>
        simp only[nV,Bool.and_eq_true,decide_eq_true_eq] at hmk
        exact absurd ⟨by omega,by omega⟩ g9
      have hlen:st.2.1.length<=64*4096:=by
       rw[I.len]
       exact Nat.mul_le_mul Pp (adw HD i).2.2
      rw[show o9 (m,((st.1*d:Nat):Int),((aQ D (i+1):Nat):Int),st.2.1)=some ((0,0,[]),(0,0,[]),false) by
       rw[show o9 (m,((st.1*d:Nat):Int),((aQ D (i+1):Nat):Int),st.2.1)=_ from if_pos (by show VQ st.2.1<=_;show st.2.1.length<=_;omega)]
       dsimp only
       rw[cf,if_neg (by simp)]]
      simp only[bL]
      rw[bc (b:=fi false) rfl]
      rfl
    have hS:∀st,dP (rO m D) 0 (1,A,[]) (List.range (D.length - 1))=some st->lS m D (D.length - 1) st:=fun st dA=>by
     have:=Oy (rO m D) (lS m D) (List.range (D.length - 1)) (List.range (D.length - 1)) 0 (1,A,[]) st (Qb HD).s (fun k s a s' ha _ hI dA=>by
      have hi:k<D.length - 1:=by have:=qZ ha;rw[mw] at this;omega
      unfold rO at dA
      split at dA
      ·rename_i hf
       split at dA
       ·injection dA with dA
        subst dA
        exact lS.next HD hi hI hf
       ·cases dA
      ·cases dA) dA
     rw[mw,Nat.zero_add] at this
     exact this
    show _=some (Fw m D A)
    unfold Fw
    cases hfo:dP (rO m D) 0 (1,A,[]) (List.range (D.length - 1)) with
    |none=>rfl
    |some st=>
     have hI:=hS st hfo
     have bO:=ae3 HD hI
     simp only[cg,Option.bind]
     rw[eO,qK (l:=D) (i:=D.length - 1) (by omega)]
     simp only[bL]
     rw[show mM st.2.1=some st.2.1 from if_pos (by omega)]
     simp only[bL,gT,cG]
     rw[show∀s:az,ai 0 1 (J [s])=some () from fun _=>rfl]
     simp only[bL]
     rw[oz (by show(aM st.2.2.length 1)*48<=dK;rw[hI.g7];simp only[aM,dK];omega)]
     simp only[bL]
     rw[adx (by simp[aM,J,dq])]
     rfl
   ·rw[if_neg (fun e=>hl e.2)]
    by_cases h0:L0.length=0
    ·rw[bc (by unfold cJ;exact beq_iff_eq.2 (by omega))]
     rfl
    ·rw[aV (by unfold cJ;rw[beq_eq_false_iff_ne];omega),bc (dk (by omega))]
     rfl
 ·cases h
end Go.Am
end
section
namespace Go.Am
def H5:ak:=[(.ptr,[.list [.int .u8],.int .i64,.int .i64]),(.one,[.int .i64]),(.one,[.int .i64]),(.one,[.int .i64])]
def TI:ak:=[(.agg,[.int .i64,.int .i64,.list [.int .i64]]),(.ptr,[.list [.int .u8],.int .i64,.int .i64])]
def akZ:aP:=[[some .aF]]
def GK (NN:Nat):(((List Int)×(Int×Int))×(Int×(Int×Int)))->(Option ((Int×(Int×(List Int)))×((List Int)×(Int×Int)))):=
 (fun(((l0,i1,i2),i3,i4,i5):(((List Int)×(Int×Int))×(Int×(Int×Int))))=>
 (xL (i4,i5)).aa (fun(i6,i7,l8)=>
 cg ((ai 0 0 (J (([]:List Int)))).aa (fun _=>
 (ai 0 (J l8) (J l8)).aa (fun _=>
 bN NN (fun(((i9,cN,e9,fo,fe),(fO,gj,gB),(j4,gk),(fq,iE),dU,eo):((Int×(Int×(Int×(Int×Int))))×(((List Int)×(Int×Int))×((Int×Int)×((Int×Int)×((List Int)×(List Int)))))))=>
 aG (bQ fe fo)
 ((vH ((fO,gj,gB),(3:Int))).aa (fun(MG,iF,m8,pI)=>
 aG (fi MG)
 ((rH ((iF,m8,pI),oO i9 (256:Int))).aa (fun(jk,kE,yT,sq)=>
 (eN fe (J eo)).aa (fun EU=>
 (cZ eo (aM 0 EU)).aa (fun gK=>
 (ai 0 (J dU) (J dU)).aa (fun _=>
 (ai 0 (J eo) (J (bF eo (aM 0 EU) jk))).aa (fun _=>
 some (Sum.inl ((i9,cN,e9,fo,bS .i64 fe 1),(kE,yT,sq),(j4,gk),(fq,iE),dU,bF eo (aM 0 EU) jk))))))))
 ((ai 0 (J dU) (J dU)).aa (fun _=>
 (ai 0 (J eo) (J eo)).aa (fun _=>
 some (Sum.inl ((i9,cN,e9,fo,bS .i64 fe 1),(iF,m8,pI),(j4,gk),(fq,iE),dU,eo)))))))
 (((ai 0 (J dU) (J dU)).aa (fun _=>
 (ai 0 (J eo) (J eo)).aa (fun _=>
 some (Sum.inl ((cN,e9),(fO,gj,gB),(j4,gk),(fq,iE),dU,eo))))).aa (fun iG=>
 some (Sum.inr iG))))
 ((i3,i4,i5,aN (J l8),(0:Int)),(l0,i1,i2),((0:Int),(0:Int)),(i6,i7),([]:List Int),l8))))
 (fun((jl,jm),(hZ,jn,kC),(jI,mC),(nQ,m9),jp,mG)=>
 aG (bQ (1:Int) jl)
 ((vH ((hZ,jn,kC),(3:Int))).aa (fun(b45,gp,nR,lr)=>
 cg (aG (b45)
 ((ai 0 (J jp) (J jp)).aa (fun _=>
 (ai 0 (J mG) (J mG)).aa (fun _=>
 bN NN (fun(((tq,oG),(za,nc,oH),(pK,pL),(sr,BP),oM,iQ):((Int×Int)×(((List Int)×(Int×Int))×((Int×Int)×((Int×Int)×((List Int)×(List Int)))))))=>
 aG (bQ oG tq)
 ((eN oG (J iQ)).aa (fun k60=>
 (cZ iQ (aM 0 k60)).aa (fun yV=>
 (eN (bS .i64 tq oG) (J iQ)).aa (fun EV=>
 (cZ iQ (aM 0 EV)).aa (fun pM=>
 (ai 0 (J oM) (J oM)).aa (fun _=>
 (ai 0 (J iQ) (J (bF iQ (aM 0 EV) yV))).aa (fun _=>
 some (Sum.inl ((tq,bS .i64 oG 1),(za,nc,oH),(pK,pL),(sr,BP),oM,bF iQ (aM 0 EV) yV)))))))))
 (((ai 0 (J oM) (J oM)).aa (fun _=>
 (ai 0 (J iQ) (J iQ)).aa (fun _=>
 some (Sum.inl ((za,nc,oH),(pK,pL),(sr,BP),oM,iQ))))).aa (fun EY=>
 some (Sum.inr EY))))
 ((jm,(0:Int)),(gp,nR,lr),(jI,mC),(nQ,m9),jp,mG))))
 ((ai 0 (J jp) (J jp)).aa (fun _=>
 (ai 0 (J mG) (J mG)).aa (fun _=>
 some (Sum.inl ((gp,nR,lr),(jI,mC),(nQ,m9),jp,mG))))))
 (fun((Qr,yW,pO),(uU,BQ),(wM,JI),kG,B4)=>
 (df B4 0 (J B4)).aa (fun E0=>
 some ((wM,JI,E0),Qr,yW,pO)))))
 (cg ((ai 0 (J jp) (J jp)).aa (fun _=>
 (ai 0 (J mG) (J mG)).aa (fun _=>
 some (Sum.inl ((hZ,jn,kC),(jI,mC),(nQ,m9),jp,mG)))))
 (fun((wT,oI,sv),(tr,qS),(qT,wN),jq,mH)=>
 (df mH 0 (J mH)).aa (fun E1=>
 some ((qT,wN,E1),wT,oI,sv)))))))
def Av:(((List Int)×(Int×Int))×(Int×(Int×Int)))->(Option ((Int×(Int×(List Int)))×((List Int)×(Int×Int)))):=GK aE
theorem aha (x:(((List Int)×(Int×Int))×(Int×(Int×Int)))) (z:((Int×(Int×(List Int)))×((List Int)×(Int×Int)))) (h:Av x=some z):GK aE x=some z:=h
theorem aa1 {p:Int} (h:2<=p):1<=oO p 256/\oO p 256<=p:=by rw[aaZ];omega
theorem Qy {α:Type} (l:List α):J l=l.length:=rfl
theorem afu (c:Cu) (p:Int) (r k:Nat) (h:ja c) (hp:dm p) (hr:r<=100) (hk:k<=100):
  ∃d c',Av (c,p,(r:Int),(k:Int))=some (((r:Int),(k:Int),d),c')/\d.length=r*k/\eG p d/\ja c':=by
 obtain⟨cl,ci,ch⟩:=c
 have hrk:r*k<=10000:=by
  have:=Nat.mul_le_mul hr hk
  omega
 simp only[Av,GK]
 rw[abj (by omega) (by omega) (by omega)]
 simp only[au,ahr,cG]
 generalize hL:bN aE _ _=o
 obtain⟨s,rfl,c',d,rfl,cC,hl,hd⟩:∃s,o=some s/\∃(c':Cu) (d:List Int),s=Sum.inl (((r:Int),(k:Int)),c',(0,0),((r:Int),(k:Int)),[],d)/\ja c'/\d.length=r*k/\eG p d:=by
  rw[<-hL]
  refine B9 (r*k) (fun j (s:((Int×(Int×(Int×(Int×Int))))×(((List Int)×(Int×Int))×((Int×Int)×((Int×Int)×((List Int)×(List Int)))))))=>∃(c':Cu) (d:List Int),s=((p,(r:Int),(k:Int),((r*k:Nat):Int),(j:Int)),c',(0,0),((r:Int),(k:Int)),[],d)/\ja c'/\d.length=r*k/\eG p d) _ ?_ ?_ ?_ (dD (by omega))
  ·rintro j s hj ⟨⟨l1,i1,h1⟩,d,rfl,hc,hl,hd⟩
   dsimp only
   rw[bc (dk (by omega))]
   obtain⟨b,⟨l2,i2,h2⟩,e2,hc⟩:=Sc _ 3 hc (by decide)
   rw[e2]
   simp only[au]
   cases b
   ·rw[bc (show fi false=true from rfl)]
    obtain⟨x,⟨l3,i3,h3⟩,e3,hx,_,hc⟩:=AF _ (oO p 256) hc (aa1 hp.1).1
    have hm:=(aa1 hp.1).2
    rw[e3]
    simp only[au]
    have iC:j<d.length:=by omega
    rw[pk (show j<J d by rw[Qy];exact iC)]
    simp only[au,gZ]
    rw[show cZ d j=some d[j] from List.getElem?_eq_getElem iC]
    simp only[au]
    rw[show ai 0 (J d) (J (bF d j x))=some () from yp (by simp[J,bF])]
    simp only[au]
    rw[fR (by omega) (by omega)]
    refine⟨_,rfl,_,_,rfl,hc,by unfold bF;rw[List.length_set];exact hl,?_⟩
    intro e he
    unfold bF at he
    rcases List.mem_or_eq_of_mem_set he with h|h
    ·exact hd e h
    ·subst h;exact⟨hx.1,by omega⟩
   ·rw[aV (show fi true=false from rfl)]
    rw[fR (by omega) (by omega)]
    exact⟨_,rfl,_,_,rfl,hc,hl,hd⟩
  ·rintro s ⟨⟨l1,i1,h1⟩,d,rfl,hc,hl,hd⟩
   dsimp only
   rw[aV (dg (by omega))]
   exact⟨_,rfl,_,_,rfl,hc,hl,hd⟩
  ·refine⟨_,_,?_,h,ld r k _,kU.2 (fun i j _ _=>⟨Int.le_refl _,by have:=hp.1;omega⟩)⟩
   rw[show aN (J (ax r k fun _ _=>0))=((r*k:Nat):Int) by unfold aN J;rw[ld]]
   rfl
 obtain⟨l1,i1,h1⟩:=c'
 simp only[cg,Option.bind,Option.aa]
 by_cases hc:1<r
 ·rw[bc (dk (by omega))]
  obtain⟨b,⟨l2,i2,h2⟩,e2,wj⟩:=Sc _ 3 cC (by decide)
  rw[e2]
  dsimp only
  cases b
  ·simp only[DF,cG,iI]
   exact⟨_,_,rfl,hl,hd,wj⟩
  ·simp only[Iz,cG,iI]
   generalize hL:bN aE _ _=o
   obtain⟨s,rfl,d',rfl,dE,pD⟩:∃s,o=some s/\∃(d':List Int),s=Sum.inl ((l2,i2,h2),(0,0),((r:Int),(k:Int)),[],d')/\d'.length=r*k/\eG p d':=by
    rw[<-hL]
    refine B9 k (fun j (s:((Int×Int)×(((List Int)×(Int×Int))×((Int×Int)×((Int×Int)×((List Int)×(List Int)))))))=>∃(d:List Int),s=(((k:Int),(j:Int)),(l2,i2,h2),(0,0),((r:Int),(k:Int)),[],d)/\d.length=r*k/\eG p d) _ ?_ ?_ ⟨_,rfl,hl,hd⟩ (dD (by omega))
    ·rintro j s hj ⟨d,rfl,hl,hd⟩
     dsimp only
     have aqi:2*k<=r*k:=Nat.mul_le_mul_right k hc
     rw[bc (dk (by omega))]
     have Pk:j<d.length:=by omega
     have ZA:k+j<d.length:=by omega
     rw[fR (by omega) (by omega),show((k:Int)+(j:Int))=((k+j:Nat):Int) by push_cast;rfl]
     rw[pk (show j<J d by rw[Qy];exact Pk),pk (show k+j<J d by rw[Qy];exact ZA)]
     simp only[gZ]
     rw[show cZ d j=some d[j] from List.getElem?_eq_getElem Pk,show cZ d (k+j)=some d[k+j] from List.getElem?_eq_getElem ZA]
     dsimp only
     rw[show ai 0 (J d) (J (bF d (k+j) d[j]))=some () from yp (by simp[J,bF])]
     dsimp only
     rw[fR (by omega) (by omega)]
     refine⟨_,rfl,_,rfl,by unfold bF;rw[List.length_set];exact hl,?_⟩
     intro e he
     unfold bF at he
     rcases List.mem_or_eq_of_mem_set he with h|h
     ·exact hd e h
     ·subst h;exact hd _ (List.getElem_mem Pk)
    ·rintro s ⟨d,rfl,hl,hd⟩
     dsimp only
     rw[aV (dg (by omega))]
     exact⟨_,rfl,_,rfl,hl,hd⟩
   simp only[iI]
   exact⟨_,_,rfl,dE,pD,wj⟩
 ·rw[aV (dg (by omega))]
  simp only[cG,iI]
  exact⟨_,_,rfl,hl,hd,cC⟩
theorem anu:cm 2=true:=by decide+kernel
theorem anv:cm 3=true:=by decide+kernel
theorem anw:cm 7=true:=by decide+kernel
theorem ant:cm 101=true:=by decide+kernel
theorem ans:cm 1000003=true:=by decide+kernel
end Go.Am
end
section
namespace Go.Am
structure Dk (p:Int) (r:Nat) (M N:aZ) (t k j:Nat) (inv:Int):Prop where
 tk:t<=k
 kr:k<r
 ne:M k j≠0
 one:M k j*inv%p=1
 nt:∀b,N t b=M k b*inv%p
 na:∀a,a<r->a≠t->∀b,N a b=(cW M t k a b+(p - cW M t k a j)*N t b)%p
 first:∀i,t<=i->i<k->M i j=0
theorem Sr {p:Int} {r c:Nat} {s:aZ×List Int×Int} {j:Nat} (bg:cm p=true) (I:RI p r c s j) (hj:j<c):
  (kj p r s j=s/\∀i,s.2.1.length<=i->i<r->s.1 i j=0)\/
   ∃k N inv,kj p r s j=(N,s.2.1++[(j:Int)],KC p s.1 s.2.1.length j k s.2.2)/\Dk p r s.1 N s.2.1.length k j inv/\s.2.1.length<r:=by
 have hp:dm p:=dT bg
 by_cases hl:s.2.1.length<r
 ·cases hk:pZ s.1 j (r - s.2.1.length) s.2.1.length with
  |none=>exact .inl ⟨Ss hl hk,fun i h1 h2=>Ky hk i h1 (by omega)⟩
  |some k=>
   have hq:=Fl hk
   have yG:k<r:=by omega
   have hx:fy p (s.1 k j):=I.m k yG j hj
   have hi:=aao bg hx hq.2.2
   have BH:cW s.1 s.2.1.length k s.2.1.length j=s.1 k j:=if_pos rfl
   refine .inr ⟨k,_,kD p 1 (s.1 k j) (p - 2).toNat,Su hl hk,⟨hq.1,yG,hq.2.2,hi,fun b=>?_,fun a ha bU b=>?_,Si hk⟩,hl⟩
   ·unfold fc
    rw[if_neg (by omega)]
    unfold oQ sD
    rw[if_pos rfl,BH]
    congr 2
    exact if_pos rfl
   ·have e1:∀y,oQ p s.1 s.2.1.length j k a y=cW s.1 s.2.1.length k a y:=fun y=>by unfold oQ sD;rw[if_neg bU]
    show fc p _ _ _ _ a b=_
    rw[show fc p (oQ p s.1 s.2.1.length j k) s.2.1.length j r s.2.1.length b=oQ p s.1 s.2.1.length j k s.2.1.length b from if_neg (by omega)]
    unfold fc
    rw[if_pos ⟨ha,bU⟩,e1,e1]
 ·refine .inl ⟨by unfold kj;rw[if_neg hl],fun i h1 h2=>by omega⟩
def pv (L:List Int) (i:Nat):Nat:=(L.getD i 0).toNat
theorem So {L:List Int} {x:Int} {i:Nat} (h:i<L.length):pv (L++[x]) i=pv L i:=by
 unfold pv
 rw[List.getD_eq_getElem?_getD,List.getD_eq_getElem?_getD,List.getElem?_append_left h]
theorem zx {L:List Int} {j:Nat}:pv (L++[(j:Int)]) L.length=j:=by
 unfold pv
 rw[List.getD_eq_getElem?_getD,List.getElem?_append_right (Nat.le_refl _),Nat.sub_self]
 rfl
structure RF (r:Nat) (s:aZ×List Int×Int) (j:Nat):Prop where
 lt:∀i,i<s.2.1.length->pv s.2.1 i<j
 mono:∀i i',i<i'->i'<s.2.1.length->pv s.2.1 i<pv s.2.1 i'
 one:∀i,i<s.2.1.length->s.1 i (pv s.2.1 i)=1
 bK:∀i,i<s.2.1.length->∀a,a<r->a≠i->s.1 a (pv s.2.1 i)=0
 low:∀i,i<s.2.1.length->∀b,b<pv s.2.1 i->s.1 i b=0
 zero:∀i,s.2.1.length<=i->i<r->∀b,b<j->s.1 i b=0
theorem RF.step {p:Int} {r c:Nat} {s:aZ×List Int×Int} {j:Nat} (bg:cm p=true) (I:RI p r c s j) (hj:j<c) (h:RF r s j):RF r (kj p r s j) (j+1):=by
 have hp:dm p:=dT bg
 rcases Sr bg I hj with⟨e,hz⟩|⟨k,N,inv,e,P,hl⟩
 ·rw[e]
  refine⟨fun i hi=>by have:=h.lt i hi;omega,h.mono,h.one,h.bK,h.low,fun i h1 h2 b hb=>?_⟩
  by_cases yu:b=j
  ·rw[yu];exact hz i h1 h2
  ·exact h.zero i h1 h2 b (by omega)
 ·rw[e]
  obtain⟨M,L,d⟩:=s
  obtain⟨tk,kr,ne,one,nt,na,first⟩:=P
  dsimp only at tk kr ne one nt na first hl e⊢
  have bH:∀i,i<L.length->pv L i<j:=h.lt
  have BD:∀i,i<L.length->pv (L++[(j:Int)]) i=pv L i:=fun i hi=>So hi
  have uJ:=hp.1
  have R7:∀b,b<j->N L.length b=0:=fun b hb=>by
   rw[nt,show M k b=0 from h.zero k tk kr b hb,Int.zero_mul,Int.zero_emod]
  have R8:N L.length j=1:=by rw[nt];exact one
  have fu:∀a,a<r->a≠L.length->∀b,b<j->N a b=cW M L.length k a b:=fun a ha bU b hb=>by
   rw[na a ha bU,R7 b hb,Int.mul_zero,Int.add_zero]
   have hs:fy p (cW M L.length k a b):=Lh I.m hl kr a ha b (by omega)
   exact Int.emod_eq_of_lt hs.1 hs.2
  have V6:∀i,i<L.length->∀b,cW M L.length k i b=M i b:=fun i hi b=>by
   unfold cW;rw[if_neg (by omega),if_neg (by omega)]
  have aaT:∀a,L.length<=a->a<r->∀b,b<j->cW M L.length k a b=0:=fun a h1 h2 b hb=>by
   unfold cW
   split
   ·exact h.zero k tk kr b hb
   ·split
    ·exact h.zero _ (Nat.le_refl _) hl b hb
    ·exact h.zero a h1 h2 b hb
  refine⟨?_,?_,?_,?_,?_,?_⟩<;>dsimp only
  ·intro i hi
   simp only[List.length_append,List.length_cons,List.length_nil] at hi
   by_cases eC:i<L.length
   ·rw[BD i eC];have:=bH i eC;omega
   ·rw[show i=L.length by omega,zx];omega
  ·intro i i' h1 h2
   simp only[List.length_append,List.length_cons,List.length_nil] at h2
   rw[BD i (by omega)]
   by_cases eC:i'<L.length
   ·rw[BD i' eC];exact h.mono i i' h1 eC
   ·rw[show i'=L.length by omega,zx];exact bH i (by omega)
  ·intro i hi
   simp only[List.length_append,List.length_cons,List.length_nil] at hi
   by_cases eC:i<L.length
   ·rw[BD i eC,fu i (by omega) (by omega) _ (bH i eC),V6 i eC];exact h.one i eC
   ·rw[show i=L.length by omega,zx];exact R8
  ·intro i hi a ha hai
   simp only[List.length_append,List.length_cons,List.length_nil] at hi
   by_cases eC:i<L.length
   ·rw[BD i eC]
    by_cases bU:a=L.length
    ·rw[bU];exact R7 _ (bH i eC)
    ·rw[fu a ha bU _ (bH i eC)]
     by_cases hal:a<L.length
     ·rw[V6 a hal];exact h.bK i eC a ha hai
     ·exact aaT a (by omega) ha _ (bH i eC)
   ·have Jx:i=L.length:=by omega
    rw[Jx,zx]
    rw[na a ha (by omega),R8,Int.mul_one]
    rw[show cW M L.length k a j+(p - cW M L.length k a j)=p by omega]
    exact Int.emod_self
  ·intro i hi b hb
   simp only[List.length_append,List.length_cons,List.length_nil] at hi
   by_cases eC:i<L.length
   ·rw[BD i eC] at hb
    have hlj:=bH i eC
    rw[fu i (by omega) (by omega) _ (by omega),V6 i eC]
    exact h.low i eC b hb
   ·have Jx:i=L.length:=by omega
    rw[Jx,zx] at hb
    rw[Jx]
    exact R7 b hb
  ·intro i h1 h2 b hb
   simp only[List.length_append,List.length_cons,List.length_nil] at h1
   by_cases yu:b=j
   ·rw[yu,na i h2 (by omega),R8,Int.mul_one]
    rw[show cW M L.length k i j+(p - cW M L.length k i j)=p by omega]
    exact Int.emod_self
   ·rw[fu i h2 (by omega) b (by omega)]
    exact aaT i (by omega) h2 b (by omega)
theorem zA {p:Int} {r c:Nat} {M:aZ} (bg:cm p=true) (hM:c8 p r c M):∀j,j<=c->RF r (bT p r M j) j
 |0,_=>⟨fun i hi=>absurd hi (Nat.not_lt_zero i),fun i i' _ hi=>absurd hi (Nat.not_lt_zero i'),fun i hi=>absurd hi (Nat.not_lt_zero i),fun i hi=>absurd hi (Nat.not_lt_zero i),fun i hi=>absurd hi (Nat.not_lt_zero i),fun i _ _ b hb=>absurd hb (Nat.not_lt_zero b)⟩
 |j+1,hj=>RF.step bg (oT (dT bg) hM j) (by omega) (zA bg hM j (by omega))
def Sp (p:Int) (r c:Nat) (M:aZ) (x:Nat->Int):Prop:=∃y:Nat->Int,∀b,b<c->x b%p=sm r (fun i=>y i*M i b)%p
theorem mO {p:Int} {r c:Nat} {M:aZ} {i:Nat} (hi:i<r):Sp p r c M (M i):=
 ⟨fun k=>if k=i then 1 else 0,fun b _=>by
  have e:sm r (fun k=>(if k=i then 1 else 0)*M k b)=M i b:=by
   rw[vm (a:=i) r hi (fun k _ aC=>by simp[aC])]
   simp
  exact congrArg (·%p) e.symm⟩
theorem vL {p:Int} {r c:Nat} {M:aZ} {x x':Nat->Int} (h:Sp p r c M x) (e:∀b,b<c->x' b%p=x b%p):Sp p r c M x':=by
 obtain⟨y,hy⟩:=h
 exact⟨y,fun b hb=>(e b hb).trans (hy b hb)⟩
theorem Mx {p:Int} {r c:Nat} {M:aZ} {x x':Nat->Int} (f:Int) (h:Sp p r c M x) (h':Sp p r c M x'):Sp p r c M (fun b=>x b+f*x' b):=by
 obtain⟨y,hy⟩:=h
 obtain⟨y',hy'⟩:=h'
 refine⟨fun i=>y i+f*y' i,fun b hb=>?_⟩
 have e:sm r (fun i=>(y i+f*y' i)*M i b)=sm r (fun i=>y i*M i b)+f*sm r (fun i=>y' i*M i b):=by
  rw[<-zL,<-K4]
  exact kL fun i _=>by rw[Int.add_mul,Int.mul_assoc]
 rw[e,Int.add_emod,Int.mul_emod,hy b hb,hy' b hb,<-Int.mul_emod,<-Int.add_emod]
theorem aef {p:Int} {r c:Nat} {M:aZ}:Sp p r c M (fun _=>0):=⟨fun _=>0,fun b _=>by rw[CM r fun i _=>Int.zero_mul _]⟩
theorem WD {p:Int} {r c:Nat} {M:aZ} {x:Nat->Int} (f:Int) (h:Sp p r c M x):Sp p r c M (fun b=>x b*f):=
 vL (Mx f aef h) fun b _=>by rw[Int.zero_add,Int.mul_comm]
theorem qq {p:Int} {r r' c:Nat} {M N:aZ} (h:∀i,i<r'->Sp p r c M (N i)) {x:Nat->Int} (hx:Sp p r' c N x):Sp p r c M x:=by
 obtain⟨y,hy⟩:=hx
 have h':∀i,∃y:Nat->Int,i<r'->∀b,b<c->N i b%p=sm r (fun k=>y k*M k b)%p:=by
  intro i
  by_cases hi:i<r'
  ·obtain⟨y,hy⟩:=h i hi
   exact⟨y,fun _=>hy⟩
  ·exact⟨fun _=>0,fun hi'=>absurd hi' hi⟩
 obtain⟨Y,hY⟩:=Classical.axiomOfChoice h'
 refine⟨fun k=>sm r' (fun i=>y i*Y i k),fun b hb=>?_⟩
 rw[hy b hb]
 have e:sm r (fun k=>sm r' (fun i=>y i*Y i k)*M k b)=sm r' (fun i=>y i*sm r (fun k=>Y i k*M k b)):=by
  rw[kL (g:=fun k=>sm r' (fun i=>y i*Y i k*M k b)) fun k _=>(acQ (M k b) _ r').symm]
  rw[Vi]
  exact kL fun i _=>by rw[<-zL];exact kL fun k _=>Int.mul_assoc _ _ _
 rw[e]
 exact CL fun i hi=>by rw[Int.mul_emod,hY i hi b hb,<-Int.mul_emod]
theorem Dk.span {p:Int} {r c:Nat} {M N:aZ} {t k j:Nat} {inv:Int} (h:Dk p r M N t k j inv) (ht:t<r) (hj:j<c) (x:Nat->Int):Sp p r c N x↔Sp p r c M x:=by
 obtain⟨tk,kr,ne,one,nt,na,_⟩:=h
 have sw:∀a,a<r->Sp p r c M (cW M t k a):=by
  intro a ha
  unfold cW
  by_cases h1:a=t
  ·simp only[h1,if_true];exact mO kr
  ·by_cases h2:a=k
   ·simp only[h2]
    by_cases h3:k=t
    ·simp only[h3,if_true];exact mO ht
    ·simp only[if_neg h3,if_true];exact mO ht
   ·simp only[if_neg h1,if_neg h2];exact mO ha
 have Zd:Sp p r c M (N t):=vL (WD inv (mO kr)) fun b _=>by rw[nt,Int.emod_emod_of_dvd _ (Int.dvd_refl p)]
 constructor
 ·refine qq fun a ha=>?_
  by_cases bU:a=t
  ·rw[bU];exact Zd
  ·exact vL (Mx (p - cW M t k a j) (sw a ha) Zd) fun b _=>by rw[na a ha bU,Int.emod_emod_of_dvd _ (Int.dvd_refl p)]
 ·
  have hk:Sp p r c N (M k):=vL (WD (M k j) (mO ht)) fun b _=>by
   rw[nt,Int.mul_emod,Int.emod_emod_of_dvd _ (Int.dvd_refl p),<-Int.mul_emod]
   rw[show M k b*inv*M k j=M k b*(M k j*inv) by rw[Int.mul_assoc,Int.mul_comm inv]]
   rw[Int.mul_emod,one,Int.mul_one,Int.emod_emod_of_dvd _ (Int.dvd_refl p)]
  have hs:∀a,a<r->Sp p r c N (cW M t k a):=by
   intro a ha
   by_cases bU:a=t
   ·have e:cW M t k a=M k:=by unfold cW;funext b;rw[if_pos bU]
    rw[e];exact hk
   ·refine vL (Mx (cW M t k a j) (mO ha) (mO ht)) fun b _=>?_
    rw[na a ha bU,Int.emod_add_emod]
    rw[show cW M t k a b+(p - cW M t k a j)*N t b+cW M t k a j*N t b=cW M t k a b+p*N t b by grind]
    rw[Int.add_mul_emod_self_left]
  refine qq fun a ha=>?_
  by_cases bU:a=t
  ·have e:M a=cW M t k k:=by
    unfold cW;funext b
    by_cases Po:k=t
    ·rw[if_pos Po,bU,Po]
    ·rw[if_neg Po,if_pos rfl,bU]
   rw[e];exact hs k kr
  ·by_cases Zg:a=k
   ·rw[Zg];exact hk
   ·have e:M a=cW M t k a:=by unfold cW;funext b;rw[if_neg bU,if_neg Zg]
    rw[e];exact hs a ha
theorem KD {p:Int} {r c:Nat} {M:aZ} (bg:cm p=true) (hM:c8 p r c M) (x:Nat->Int):∀j,j<=c->(Sp p r c (bT p r M j).1 x↔Sp p r c M x)
 |0,_=>Iff.rfl
 |j+1,hj=>by
  rw[<-KD bg hM x j (by omega)]
  show Sp p r c (kj p r (bT p r M j) j).1 x↔_
  rcases Sr bg (oT (dT bg) hM j) (show j<c by omega) with⟨e,_⟩|⟨k,N,inv,e,P,hl⟩
  ·rw[e]
  ·rw[e];exact P.span hl (by omega) x
def ad9 (p:Int) (x:Nat->Int) (j:Nat):Prop:=(∀b,b<j->x b%p=0)/\x j%p≠0
theorem Sj {p:Int} {r c:Nat} {M:aZ} (bg:cm p=true) (hM:c8 p r c M) {j:Nat} (hj:j<c):
  (∃x,Sp p r c M x/\ad9 p x j)↔∃i,i<(bT p r M c).2.1.length/\pv (bT p r M c).2.1 i=j:=by
 have hp:dm p:=dT bg
 have uJ:=hp.1
 have R:=zA bg hM c (Nat.le_refl c)
 have I:=oT hp hM c
 have PL:=fun x=>KD bg hM x c (Nat.le_refl c)
 generalize bT p r M c=s at R I PL
 constructor
 ·rintro⟨x,hx,h0,h1⟩
  obtain⟨y,hy⟩:=(PL x).2 hx
  have ca:∀i,i<s.2.1.length->x (pv s.2.1 i)%p=y i%p:=by
   intro i hi
   rw[hy _ (R.lt i hi),vm (a:=i) r (by have:=I.l;omega) fun a ha aC=>by rw[R.bK i hi a ha aC,Int.mul_zero]]
   rw[R.one i hi,Int.mul_one]
  rw[hy j hj] at h1
  apply Classical.byContradiction
  intro cf
  apply h1
  rw[show(0:Int)=sm r (fun _=>0)%p by rw[CM r fun _ _=>rfl,Int.zero_emod]]
  refine CL fun i hi=>?_
  by_cases eC:i<s.2.1.length
  ·rcases Nat.lt_trichotomy (pv s.2.1 i) j with h|h|h
   ·have hz:y i%p=0:=by rw[<-ca i eC];exact h0 _ h
    rw[Int.mul_emod,hz,Int.zero_mul]
   ·exact absurd ⟨i,eC,h⟩ cf
   ·rw[R.low i eC j h,Int.mul_zero]
  ·rw[R.zero i (by omega) hi j hj,Int.mul_zero]
 ·rintro⟨i,hi,rfl⟩
  refine⟨s.1 i,(PL _).1 (mO (by have:=I.l;omega)),fun b hb=>by rw[R.low i hi b hb,Int.zero_emod],?_⟩
  rw[R.one i hi,Int.emod_eq_of_lt (by decide) (by omega)]
  decide
def wR (L:List Int) (j:Nat):Bool:=(List.range L.length).any fun i=>pv L i==j
theorem y4 {L:List Int} {j:Nat}:wR L j=true↔∃i,i<L.length/\pv L i=j:=by
 simp only[wR,List.any_eq_true,List.mem_range,beq_iff_eq]
theorem IB (P:Nat->Bool) (j:Nat):(List.range (j+1)).countP P=(List.range j).countP P+(if P j=true then 1 else 0):=by
 rw[List.range_succ,List.countP_append]
 simp[List.countP_cons]
theorem IC {p:Int} {r c:Nat} {M:aZ} (bg:cm p=true) (hM:c8 p r c M):∀j,j<=c->(List.range j).countP (wR (bT p r M j).2.1)=(bT p r M j).2.1.length
 |0,_=>rfl
 |j+1,hj=>by
  have ih:=IC bg hM j (by omega)
  have R:=zA bg hM j (by omega)
  show(List.range (j+1)).countP (wR (kj p r (bT p r M j) j).2.1)=(kj p r (bT p r M j) j).2.1.length
  rw[IB]
  rcases Sr bg (oT (dT bg) hM j) (show j<c by omega) with⟨e,_⟩|⟨k,N,inv,e,P,hl⟩
  ·rw[e,ih]
   have:wR (bT p r M j).2.1 j=false:=by
    rw[Bool.eq_false_iff]
    intro h
    obtain⟨i,hi,he⟩:=y4.1 h
    have:=R.lt i hi
    omega
   rw[this]
   simp
  ·rw[e]
   dsimp only
   have h1:wR ((bT p r M j).2.1++[(j:Int)]) j=true:=y4.2 ⟨_,by simp,zx⟩
   have h2:(List.range j).countP (wR ((bT p r M j).2.1++[(j:Int)]))=(List.range j).countP (wR (bT p r M j).2.1):=by
    refine List.countP_congr fun b hb=>?_
    have hb:=List.mem_range.1 hb
    rw[y4,y4]
    constructor
    ·rintro⟨i,hi,he⟩
     simp only[List.length_append,List.length_cons,List.length_nil] at hi
     by_cases eC:i<(bT p r M j).2.1.length
     ·rw[So eC] at he;exact⟨i,eC,he⟩
     ·rw[show i=(bT p r M j).2.1.length by omega,zx] at he;omega
    ·rintro⟨i,hi,he⟩
     exact⟨i,by simp only[List.length_append];omega,by rw[So hi];exact he⟩
   rw[h1,h2,ih]
   simp
theorem XJ {P Q:Nat->Bool}:∀n,(∀i,i<n->P i=true->Q i=true)->(List.range n).countP P<=(List.range n).countP Q
 |0,_=>Nat.le_refl _
 |n+1,h=>by
  rw[IB,IB]
  have:=XJ n fun i hi=>h i (by omega)
  cases hP:P n with
  |false=>simp;omega
  |true=>rw[h n (by omega) hP];omega
theorem vd {p:Int} {r r' c:Nat} {M M':aZ} (bg:cm p=true) (hM:c8 p r c M) (pB:c8 p r' c M') (h:∀x,Sp p r c M x->Sp p r' c M' x):
  (bT p r M c).2.1.length<=(bT p r' M' c).2.1.length:=by
 rw[<-IC bg hM c (Nat.le_refl c),<-IC bg pB c (Nat.le_refl c)]
 refine XJ c fun j hj hP=>?_
 obtain⟨x,hx,hl⟩:=(Sj bg hM hj).2 (y4.1 hP)
 exact y4.2 ((Sj bg pB hj).1 ⟨x,h x hx,hl⟩)
end Go.Am
end
section
namespace Go.Am
def HN:ak:=[(.one,[.list [.int .i64]]),(.one,[.list [.int .i64]])]
def Tt:ak:=[(.one,[.bool])]
def akO:aP:=[]
def Gy (NN:Nat):((List Int)×(List Int))->(Option Bool):=
 (fun((l0,l1):((List Int)×(List Int)))=>
 cg (bN NN (fun((l2,l3,l4,i5,i6):((List Int)×((List Int)×((List Int)×(Int×Int)))))=>
 aG (bQ i6 i5)
 ((eU l4 i6).aa (fun i7=>
 aG (iS (aN (J l3)) i6)
 (some (Sum.inr (Sum.inr false)))
 ((eU l3 i6).aa (fun i8=>
 aG (kg i8 i7)
 (some (Sum.inr (Sum.inr false)))
 (some (Sum.inl (l2,l3,l4,i5,bS .i64 i6 1)))))))
 (some (Sum.inr (Sum.inl (l2,l3)))))
 (l0,l1,l0,aN (J l0),(0:Int)))
 (fun(l9,eE)=>
 some (cJ (aN (J l9)) (aN (J eE)))))
def tP:((List Int)×(List Int))->(Option Bool):=Gy aE
theorem agX (x:((List Int)×(List Int))) (z:Bool) (h:tP x=some z):Gy aE x=some z:=h
theorem JU (l:List Int) (h:l.length<=1048576):tP (l,l)=some true:=by
 simp only[tP,Gy]
 generalize hL:bN aE _ _=o
 obtain⟨r,rfl,rfl⟩:∃r,o=some r/\r=Sum.inl (l,l):=by
  rw[<-hL]
  refine B9 l.length (fun i (x:List Int×List Int×List Int×Int×Int)=>x=(l,l,l,(l.length:Int),(i:Int))) _ ?_ ?_ rfl (dD (by omega))
  ·rintro i x hi rfl
   dsimp only
   rw[bc (dk (by omega)),eO,List.getElem?_eq_getElem hi]
   simp only[au]
   rw[aV (E5 (by unfold aN J;omega))]
   rw[show kg l[i] l[i]=false from bne_self_eq_false _]
   rw[DF,fR (by omega) (by omega)]
   exact⟨_,rfl,rfl⟩
  ·rintro x rfl
   dsimp only
   rw[aV (dg (by omega))]
   exact⟨_,rfl,rfl⟩
 simp only[cg,Option.bind]
 rw[show cJ (aN (J l)) (aN (J l))=true from beq_self_eq_true _]
end Go.Am
end
section
namespace Go.Am
def H8:ak:=[(.ptr,[.list [.int .u8],.int .i64,.int .i64])]
def TL:ak:=[(.one,[.list [.int .i64]]),(.ptr,[.list [.int .u8],.int .i64,.int .i64])]
def ak2:aP:=[[some .aF]]
def GN (NN:Nat):((List Int)×(Int×Int))->(Option ((List Int)×((List Int)×(Int×Int)))):=
 (fun((l0,i1,i2):((List Int)×(Int×Int)))=>
 (rH ((l0,i1,i2),(4:Int))).aa (fun(i3,l4,i5,i6)=>
 cg ((ai 0 0 (J (([]:List Int)))).aa (fun _=>
 bN NN (fun((i7,(l8,i9,cN),bZ):(Int×(((List Int)×(Int×Int))×(List Int))))=>
 aG (bQ (0:Int) i7)
 ((rH ((l8,i9,cN),(3:Int))).aa (fun(fo,eY,dM,gj)=>
 (ai 0 (J bZ) (J bZ)).aa (fun _=>
 (df ((bS .i64 (1:Int) fo::([]:List Int))) 0 1).aa (fun gC=>
 (iL (aM (J bZ) (J gC)) 8).aa (fun _=>
 (ai 0 (aM (J bZ) (J gC)) (J (dq bZ gC))).aa (fun _=>
 some (Sum.inl (fk .i64 i7 1,(eY,dM,gj),dq bZ gC))))))))
 (((ai 0 (J bZ) (J bZ)).aa (fun _=>
 some (Sum.inl ((l8,i9,cN),bZ)))).aa (fun fg=>
 some (Sum.inr fg))))
 (bS .i64 (1:Int) i3,(l4,i5,i6),([]:List Int))))
 (fun((lx,fq,iE),dU)=>
 (df dU 0 (J dU)).aa (fun eo=>
 some (eo,lx,fq,iE)))))
def Ax:((List Int)×(Int×Int))->(Option ((List Int)×((List Int)×(Int×Int)))):=GN aE
theorem ahd (x:((List Int)×(Int×Int))) (z:((List Int)×((List Int)×(Int×Int)))) (h:Ax x=some z):GN aE x=some z:=h
def HU:ak:=[(.one,[.list [.int .u8]]),(.one,[.int .i64])]
def TA:ak:=[(.one,[.list [.int .i64]])]
def akS:aP:=[[some .aF]]
def GC (NN:Nat):((List Int)×Int)->(Option (List Int)):=
 (fun((l0,i1):((List Int)×Int))=>
 (vJ (l0,i1)).aa (fun(l2,i3,i4)=>
 (Ax (l2,i3,i4)).aa (fun(l5,l6,i7,i8)=>
 some l5)))
def Ap:((List Int)×Int)->(Option (List Int)):=GC aE
theorem ag3 (x:((List Int)×Int)) (z:(List Int)) (h:Ap x=some z):GC aE x=some z:=h
def H7:ak:=[(.ptr,[.list [.int .u8],.int .i64,.int .i64]),(.one,[.int .i64]),(.one,[.list [.int .i64]])]
def TK:ak:=[(.agg,[.int .i64,.list [.int .i64,.int .i64,.int .i64,.list [.int .i64]]]),(.ptr,[.list [.int .u8],.int .i64,.int .i64])]
def ak1:aP:=[[some .aF]]
def GM (NN:Nat):(((List Int)×(Int×Int))×(Int×(List Int)))->(Option ((Int×(List (Int×(Int×(Int×(List Int))))))×((List Int)×(Int×Int)))):=
 (fun(((l0,i1,i2),i3,l4):(((List Int)×(Int×Int))×(Int×(List Int))))=>
 cg ((ai 0 0 (J (([]:List (Int×(Int×(Int×(List Int)))))))).aa (fun _=>
 (ai 0 0 (J (([]:List (Int×(Int×(Int×(List Int)))))))).aa (fun _=>
 bN NN (fun(((i5,l6,i7,l8,i9,cN),(bZ,fo,fe),dM,gj,gC,fg):((Int×((List Int)×(Int×((List Int)×(Int×Int)))))×(((List Int)×(Int×Int))×(Int×(Int×((List (Int×(Int×(Int×(List Int)))))×(List (Int×(Int×(Int×(List Int)))))))))))=>
 aG (bQ cN i9)
 ((eU l8 cN).aa (fun gk=>
 (rH ((bZ,fo,fe),(4:Int))).aa (fun(fq,gM,mB,lp)=>
 (vH ((gM,mB,lp),(16:Int))).aa (fun(MG,iF,m8,pI)=>
 cg (aG (MG)
 ((ai 0 (J gC) (J gC)).aa (fun _=>
 (ai 0 (J fg) (J fg)).aa (fun _=>
 some (Sum.inl ((cN,i7,zl (1:Int) (oO (4:Int) gk),(0:Int),cN,i5,l6,l8,i9),(iF,m8,pI),dM,gj,gC,fg)))))
 ((ai 0 (J gC) (J gC)).aa (fun _=>
 (ai 0 (J fg) (J fg)).aa (fun _=>
 some (Sum.inl ((cN,i7,zl (1:Int) (oO (4:Int) gk),bS .i64 (1:Int) fq,cN,i5,l6,l8,i9),(iF,m8,pI),dM,gj,gC,fg))))))
 (fun((jk,pJ,yT,sq,kB,gK,iG,BZ,jm),(hZ,jn,kC),jI,mC,ia,lA)=>
 cg (aG (cJ jk (fk .i64 (aN (J iG)) (1:Int)))
 ((ai 0 (J ia) (J ia)).aa (fun _=>
 (ai 0 (J lA) (J lA)).aa (fun _=>
 some (Sum.inl ((pJ,yT,(1:Int),kB,gK,iG,BZ,jm),(hZ,jn,kC),jI,mC,ia,lA)))))
 ((ai 0 (J ia) (J ia)).aa (fun _=>
 (ai 0 (J lA) (J lA)).aa (fun _=>
 some (Sum.inl ((pJ,yT,sq,kB,gK,iG,BZ,jm),(hZ,jn,kC),jI,mC,ia,lA))))))
 (fun((j5,jo,oF,wL,nR,uZ,j9,oG),(za,nc,oH),pK,pL,jM,ib)=>
 (Av ((za,nc,oH),nR,db .i64 j5 jo,oF)).aa (fun((uS,EK,oN),iR,uT,pM)=>
 (ai 0 (J ib) (J ib)).aa (fun _=>
 (ai 0 1 (J (((j5,jo,oF,oN)::([]:List (Int×(Int×(Int×(List Int))))))))).aa (fun _=>
 (iL (aM (J ib) (J (((j5,jo,oF,oN)::([]:List (Int×(Int×(Int×(List Int))))))))) 48).aa (fun _=>
 (ai 0 (J jM) (J jM)).aa (fun _=>
 (ai 0 (aM (J ib) (J (((j5,jo,oF,oN)::([]:List (Int×(Int×(Int×(List Int))))))))) (J (dq ib (((j5,jo,oF,oN)::([]:List (Int×(Int×(Int×(List Int)))))))))).aa (fun _=>
 some (Sum.inl ((nR,uZ,oF,j9,oG,bS .i64 wL 1),(iR,uT,pM),pK,pL,jM,dq ib (((j5,jo,oF,oN)::([]:List (Int×(Int×(Int×(List Int)))))))))))))))))))))
 (((ai 0 (J gC) (J gC)).aa (fun _=>
 (ai 0 (J fg) (J fg)).aa (fun _=>
 some (Sum.inl ((bZ,fo,fe),dM,gj,gC,fg))))).aa (fun EY=>
 some (Sum.inr EY))))
 ((i3,l4,(1:Int),l4,aN (J l4),(0:Int)),(l0,i1,i2),(0:Int),i3,([]:List (Int×(Int×(Int×(List Int))))),([]:List (Int×(Int×(Int×(List Int)))))))))
 (fun((Qr,yW,pO),uU,BQ,qX,ng)=>
 (df ng 0 (J ng)).aa (fun kG=>
 some ((BQ,kG),Qr,yW,pO))))
def Aw:(((List Int)×(Int×Int))×(Int×(List Int)))->(Option ((Int×(List (Int×(Int×(Int×(List Int))))))×((List Int)×(Int×Int)))):=GM aE
theorem ahc (x:(((List Int)×(Int×Int))×(Int×(List Int)))) (z:((Int×(List (Int×(Int×(Int×(List Int))))))×((List Int)×(Int×Int)))) (h:Aw x=some z):GM aE x=some z:=h
def HT:ak:=[(.one,[.list [.int .u8]]),(.one,[.int .i64]),(.one,[.int .i64]),(.one,[.list [.int .i64]])]
def Tz:ak:=[(.agg,[.int .i64,.list [.int .i64,.int .i64,.int .i64,.list [.int .i64]]])]
def akR:aP:=[[some .aF]]
def GA (NN:Nat):((List Int)×(Int×(Int×(List Int))))->(Option (Int×(List (Int×(Int×(Int×(List Int))))))):=
 (fun((l0,i1,i2,l3):((List Int)×(Int×(Int×(List Int)))))=>
 (vJ (l0,i1)).aa (fun(l4,i5,i6)=>
 (Aw ((l4,i5,i6),i2,l3)).aa (fun((i7,l8),l9,cN,e9)=>
 some (i7,l8))))
def Ao:((List Int)×(Int×(Int×(List Int))))->(Option (Int×(List (Int×(Int×(Int×(List Int))))))):=GA aE
theorem ag2 (x:((List Int)×(Int×(Int×(List Int))))) (z:(Int×(List (Int×(Int×(Int×(List Int))))))) (h:Ao x=some z):GA aE x=some z:=h
def HO:ak:=[(.agg,[.list [.int .i64],.list [.int .i64],.list [.int .i64]]),(.agg,[.list [.int .i64],.list [.int .i64],.list [.int .i64]])]
def Tu:ak:=[(.one,[.bool])]
def akP:aP:=[]
def Gz (NN:Nat):(((List Int)×((List Int)×(List Int)))×((List Int)×((List Int)×(List Int))))->(Option Bool):=
 (fun(((l0,l1,l2),l3,l4,l5):(((List Int)×((List Int)×(List Int)))×((List Int)×((List Int)×(List Int)))))=>
 (tP (l0,l3)).aa (fun b6=>
 aG (b6)
 ((tP (l1,l4)).aa (fun b7=>
 aG (b7)
 ((tP (l2,l5)).aa (fun b8=>
 some b8))
 (some false)))
 (some false)))
def Ak:(((List Int)×((List Int)×(List Int)))×((List Int)×((List Int)×(List Int))))->(Option Bool):=Gz aE
theorem agY (x:(((List Int)×((List Int)×(List Int)))×((List Int)×((List Int)×(List Int))))) (z:Bool) (h:Ak x=some z):Gz aE x=some z:=h
theorem ao9 (c:Cu) (h:ja c):∃D c',Ax c=some (D,c')/\ja c'/\(1<=D.length/\D.length<=4)/\∀v∈D,1<=v/\v<=3:=by
 obtain⟨l,i,k⟩:=c
 obtain⟨x,⟨l',i',k'⟩,e,hx,_,hc⟩:=AF (l,i,k) 4 h (by decide)
 simp only[Ax,GN]
 rw[e]
 simp only[au]
 rw[show ai 0 0 (J ([]:List Int))=some () from rfl]
 simp only[au]
 rw[fR (by omega) (by omega)]
 obtain⟨t,ht⟩:∃t:Nat,1+x=(t:Int):=⟨(1+x).toNat,by omega⟩
 rw[ht]
 generalize hL:bN aE _ _=o
 obtain⟨s,rfl,c',d,rfl,cC,hl,hd⟩:∃s,o=some s/\∃(c':Cu) (d:List Int),s=Sum.inl (c',d)/\ja c'/\d.length=t/\∀v∈d,1<=v/\v<=3:=by
  rw[<-hL]
  refine B9 t (fun j (s:(Int×(((List Int)×(Int×Int))×(List Int))))=>∃(c':Cu) (d:List Int),s=((t:Int) - (j:Int),c',d)/\ja c'/\d.length=j/\∀v∈d,1<=v/\v<=3) _ ?_ ?_ ?_ (dD (by omega))
  ·rintro j s hj ⟨⟨l1,i1,h1⟩,d,rfl,hc,hl,hd⟩
   dsimp only
   rw[bc (dk (by omega))]
   obtain⟨y,⟨l3,i3,h3⟩,e3,hy,_,hc⟩:=AF _ 3 hc (by decide)
   rw[e3]
   simp only[au,cG]
   rw[fR (by omega) (by omega),ap3]
   simp only[au]
   rw[oz (by show(aM d.length 1)*8<=dK;simp only[aM,dK];omega)]
   simp only[au]
   rw[ahq]
   simp only[au]
   rw[n7 (by omega) (by omega)]
   refine⟨_,rfl,(l3,i3,h3),dq d [1+y],by rw[show(t:Int) - (j:Int) - 1=(t:Int) - ((j+1:Nat):Int) by omega],hc,by simp[dq,hl],?_⟩
   intro v hv
   rcases List.mem_append.1 hv with hv|hv
   ·exact hd v hv
   ·rw[List.mem_singleton] at hv
    subst hv
    omega
  ·rintro s ⟨⟨l1,i1,h1⟩,d,rfl,hc,hl,hd⟩
   dsimp only
   rw[aV (dg (by omega))]
   simp only[au,cG]
   exact⟨_,rfl,_,_,rfl,hc,hl,hd⟩
  ·exact⟨(l',i',k'),[],by rw[show(t:Int) - ((0:Nat):Int)=(t:Int) by omega],hc,rfl,fun v hv=>by cases hv⟩
 simp only[cg,Option.bind,iI,au]
 exact⟨d,c',rfl,cC,by omega,hd⟩
structure vA (p:Int) (D:List Int) (j:Nat) (left:Nat) (L:List az):Prop where
 lf:left<=4
 fin:j=D.length->left=1
 g7:L.length=j
 A6:be L=D.take j
 ch:dP (mS p) 0 1 L=some (left:Int)
 b4:∀s∈L,s.2.2.1<=4
theorem vA.next {p:Int} {D:List Int} {j left right:Nat} {L:List az} {d:List Int} (I:vA p D j left L) (hj:j<D.length) (hd:∀v∈D,1<=v/\v<=3) (hr:right<=4) (hf:j+1=D.length->right=1)
  (hl:d.length=left*(D.getD j 0).toNat*right) (ha:eG p d):vA p D (j+1) right (L++[((left:Int),D.getD j 0,(right:Int),d)]):=by
 have hv:=hd _ (mh hj)
 have Pp:=I.lf
 refine⟨hr,hf,by rw[List.length_append,I.g7];rfl,?_,?_,?_⟩
 ·unfold be
  rw[List.map_append]
  show be L++[D.getD j 0]=_
  rw[I.A6,List.take_add_one,qK hj]
  rfl
 ·rw[I8,I.ch]
  show mS p _ _ _=_
  refine if_pos ⟨?_,rfl⟩
  obtain⟨e,he⟩:∃e:Nat,D.getD j 0=(e:Int):=⟨(D.getD j 0).toNat,by omega⟩
  rw[he] at hl hv⊢
  rw[Int.toNat_natCast] at hl
  exact ry (by omega) (by omega) ⟨by omega,by omega⟩ hl ha
 ·intro s hs
  rcases List.mem_append.1 hs with h|h
  ·exact I.b4 s h
  ·rw[List.mem_singleton] at h
   subst h
   show(right:Int)<=4
   omega
theorem vA.ok {p:Int} {D:List Int} {left:Nat} {L:List az} (I:vA p D D.length left L) (hp:cm p=true) (hl:1<=D.length/\D.length<=4) (hd:∀v∈D,1<=v/\v<=3):eH (p,L)=true/\be L=D:=by
 have Ep:be L=D:=by rw[I.A6,List.take_length]
 have h1:=I.fin rfl
 subst h1
 have bg:c7 D<=4096:=by
  rw[vb fun x hx=>(hd x hx).1]
  have:∀(l:List Int),(∀v∈l,1<=v/\v<=3)->bJ l<=3^l.length:=by
   intro l
   induction l with
   |nil=>intro _;decide
   |cons a l ih=>
    intro h
    have ha:=h a (by simp)
    have:=Nat.mul_le_mul (show a.toNat<=3 by omega) (ih fun v hv=>h v (by simp[hv]))
    simp only[bJ,List.length_cons,Nat.pow_succ]
    omega
  have h2:=this D hd
  have h3:3^D.length<=3^4:=Nat.pow_le_pow_right (by decide) hl.2
  omega
 refine⟨?_,Ep⟩
 simp only[eH,hp,I.ch,Ep,I.g7,Bool.true_and]
 rw[decide_eq_true ⟨hl.1,by omega⟩,decide_eq_true bg]
 rfl
theorem aeO (c:Cu) (p:Int) (D:List Int) (h:ja c) (hp:cm p=true) (hl:1<=D.length/\D.length<=4) (hd:∀v∈D,1<=v/\v<=3):
  ∃L c',Aw (c,p,D)=some ((p,L),c')/\ja c'/\vA p D D.length 1 L:=by
 obtain⟨cl,ci,ck⟩:=c
 simp only[Aw,GM]
 rw[show ai 0 0 (J ([]:List (Int×(Int×(Int×(List Int))))))=some () from rfl]
 simp only[au]
 generalize hL:bN aE _ _=o
 obtain⟨s,rfl,c',L,rfl,cC,hI⟩:∃s,o=some s/\∃(c':Cu) (L:List az),s=Sum.inl (c',(0:Int),p,([]:List az),L)/\ja c'/\vA p D D.length 1 L:=by
  rw[<-hL]
  refine B9 D.length (fun j (s:((Int×((List Int)×(Int×((List Int)×(Int×Int)))))×(((List Int)×(Int×Int))×(Int×(Int×((List (Int×(Int×(Int×(List Int)))))×(List (Int×(Int×(Int×(List Int)))))))))))=>∃(c':Cu) (left:Nat) (L:List az),s=((p,D,(left:Int),D,(D.length:Int),(j:Int)),c',(0:Int),p,([]:List az),L)/\ja c'/\vA p D j left L) _ ?_ ?_ ?_ (dD (by omega))
  ·rintro j s hj ⟨⟨l1,i1,h1⟩,left,L,rfl,hc,I⟩
   dsimp only
   have hv:=hd _ (mh hj)
   have ZI:=I.lf
   rw[bc (dk (by omega)),eO,qK hj]
   simp only[au]
   obtain⟨y,⟨l2,i2,h2⟩,e2,hy,_,hc⟩:=AF _ 4 hc (by decide)
   rw[e2]
   simp only[au]
   obtain⟨b,⟨l3,i3,h3⟩,e3,hc⟩:=Sc _ 16 hc (by decide)
   rw[e3]
   simp only[au,cG]
   rw[fR (a:=1) (b:=y) (by omega) (by omega)]
   have c6:zl (1:Int) (oO (4:Int) (D.getD j 0))=D.getD j 0:=by unfold zl oO;omega
   rw[c6]
   have eX:fk .i64 (aN (J D)) 1=((D.length - 1:Nat):Int):=XB (n:=D.length) hl.1 (by omega)
   have ca:∀r:Int,0<=r/\r<=4->∃right:Nat,(right<=4/\(j+1=D.length->right=1))/\(right:Int)=if j=D.length - 1 then 1 else r:=fun r hr=>by
    by_cases e:j=D.length - 1
    ·exact⟨1,⟨by omega,fun _=>rfl⟩,by rw[if_pos e];rfl⟩
    ·exact⟨r.toNat,⟨by omega,fun _=>by omega⟩,by rw[if_neg e];omega⟩
   obtain⟨r,hr,OY⟩:∃r:Int,(0<=r/\r<=4)/\r=if b=true then 0 else 1+y:=by
    cases b
    ·exact⟨1+y,by omega,rfl⟩
    ·exact⟨0,by omega,rfl⟩
   obtain⟨right,⟨g1,g2⟩,g3⟩:=ca r hr
   have ZF:db .i64 (left:Int) (D.getD j 0)=((left*(D.getD j 0).toNat:Nat):Int):=by
    obtain⟨e,he⟩:∃e:Nat,D.getD j 0=(e:Int):=⟨(D.getD j 0).toNat,by omega⟩
    rw[he,Cf (by omega) (by omega)]
    rfl
   have uz:left*(D.getD j 0).toNat<=4*3:=Nat.mul_le_mul ZI (by omega)
   obtain⟨d,⟨l4,i4,h4⟩,e4,q1,q2,hc⟩:=afu (l3,i3,h3) p (left*(D.getD j 0).toNat) right hc (dT hp) (by omega) (by omega)
   have I':=I.next hj hd g1 g2 q1 q2
   by_cases e:j=D.length - 1
   ·rw[if_pos e] at g3
    cases b<;>
    ·first|rw[aV rfl]|rw[bc rfl]
     simp only[cg,Option.bind]
     rw[eX]
     rw[bc (by unfold cJ;exact beq_iff_eq.2 (by omega))]
     simp only[cG,au,ZF]
     rw[g3] at e4
     rw[e4]
     simp only[au,cG]
     rw[show∀s:az,ai 0 1 (J [s])=some () from fun _=>rfl]
     simp only[au]
     rw[oz (by show(aM L.length 1)*48<=dK;rw[I.g7];simp only[aM,dK];omega)]
     simp only[au]
     rw[Ja,fR (by omega) (by omega)]
     exact⟨_,rfl,(l4,i4,h4),right,L++[((left:Int),D.getD j 0,(right:Int),d)],by rw[g3];rfl,hc,I'⟩
   ·rw[if_neg e,OY] at g3
    cases b<;>
    ·first|rw[aV rfl]|rw[bc rfl]
     simp only[cg,Option.bind]
     rw[eX]
     rw[aV (by unfold cJ;rw[beq_eq_false_iff_ne];omega)]
     simp only[cG,au,ZF]
     simp only[Bool.false_eq_true,if_false,if_true] at g3
     rw[g3] at e4
     rw[e4]
     simp only[au,cG]
     rw[show∀s:az,ai 0 1 (J [s])=some () from fun _=>rfl]
     simp only[au]
     rw[oz (by show(aM L.length 1)*48<=dK;rw[I.g7];simp only[aM,dK];omega)]
     simp only[au]
     rw[Ja,fR (by omega) (by omega)]
     exact⟨_,rfl,(l4,i4,h4),right,L++[((left:Int),D.getD j 0,(right:Int),d)],by rw[g3];rfl,hc,I'⟩
  ·rintro s ⟨⟨l1,i1,h1⟩,left,L,rfl,hc,I⟩
   dsimp only
   rw[aV (dg (by omega))]
   simp only[au,cG]
   have:=I.fin rfl
   subst this
   exact⟨_,rfl,_,_,rfl,hc,I⟩
  ·exact⟨(cl,ci,ck),1,[],rfl,h,⟨by decide,fun _=>rfl,rfl,rfl,rfl,fun s hs=>by cases hs⟩⟩
 simp only[cg,Option.bind,iI,au]
 exact⟨L,c',rfl,cC,hI⟩
end Go.Am
end
section
namespace Go.Am
def d2 (a b c d:Int):Int:=a*d - b*c
def d3 (a b c d e f g h i:Int):Int:=a*d2 e f h i - b*d2 d f g i+c*d2 d e g h
theorem bo.sub {p a b c d:Int} (h:bo p a b) (h':bo p c d):bo p (a - c) (b - d):=by
 obtain⟨q,rfl⟩:=h;obtain⟨q',rfl⟩:=h';exact⟨q - q',by grind⟩
end Go.Am
end
section
namespace Go.Am
section
variable {p:Int} {n:Nat} {M0:aZ}
end
end Go.Am
end
section
namespace Go.Am
def Cg (n:Nat) (X Y:aZ):aZ:=fun a b=>sm n (fun i=>X a i*Y i b)
theorem qD {p a b:Int}:bo p a b↔a%p=b%p:=by
 constructor
 ·rintro⟨q,rfl⟩;exact Int.add_mul_emod_self_left b p q
 ·intro h;exact((Ba p a).symm).trans (by rw[h];exact Ba p b)
theorem je {p:Int} {f g:Nat->Int} {n:Nat} (h:∀i,i<n->bo p (f i) (g i)):bo p (sm n f) (sm n g):=qD.2 (CL fun i hi=>qD.1 (h i hi))
structure aed (p:Int) (n:Nat) (A B:aZ) (t k:Nat) (inv:Int) (f:Nat->Int):Prop where
 bt:∀b,b<n->bo p (B t b) (inv*A k b)
 ba:∀a,a<n->a≠t->∀b,b<n->bo p (B a b) (cW A t k a b+f a*B t b)
theorem Dk.vh {p:Int} {n:Nat} {M N:aZ} {t k j:Nat} {inv:Int} (P:Dk p n M N t k j inv) (Y:aZ):aed p n (Cg n M Y) (Cg n N Y) t k inv (fun a=>p - cW M t k a j):=by
 constructor
 ·intro b _
  unfold Cg
  rw[<-zL]
  refine je fun i _=>?_
  rw[P.nt i]
  refine(bo.mul (Ba p _) (bo.refl p (Y i b))).trans ?_
  exact⟨0,by grind⟩
 ·intro a ha bU b _
  have e:cW (Cg n M Y) t k a b=sm n (fun i=>cW M t k a i*Y i b):=by
   unfold cW Cg
   split
   ·rfl
   ·split<;>rfl
  rw[e]
  unfold Cg
  rw[<-zL,<-K4]
  refine je fun i _=>?_
  rw[P.na a ha bU i]
  refine(bo.mul (Ba p _) (bo.refl p (Y i b))).trans ?_
  exact⟨0,by grind⟩
theorem XI {P:Nat->Bool}:∀n,(List.range n).countP P=n↔∀i,i<n->P i=true
 |0=>by simp
 |n+1=>by
  rw[IB]
  have h:=XI (P:=P) n
  have jH:(List.range n).countP P<=n:=by have:=List.countP_le_length (p:=P) (l:=List.range n);simpa using this
  constructor
  ·intro hh
   cases hP:P n with
   |false=>rw[hP] at hh;simp at hh;omega
   |true=>
    rw[hP] at hh
    simp only[if_true] at hh
    have:=h.1 (by omega)
    intro i hi
    by_cases fT:i=n
    ·rw[fT];exact hP
    ·exact this i (by omega)
  ·intro hh
   rw[hh n (by omega),h.2 fun i hi=>hh i (by omega)]
   simp
theorem aa6 (p:Int) (k:Nat) (A B:aZ) (i j:Nat):bo p (mI p k A B i j) (sm k (fun t=>A i t*B t j)):=by
 unfold mI
 rw[XZ]
 exact Ba _ _
theorem acg {p:Int} {r c:Nat} {M:aZ} (bg:cm p=true) (hM:c8 p r c M) {i j:Nat} (hi:i<r) (hj:j<c):
  bo p (sm (bT p r M c).2.1.length (fun t=>M i (pv (bT p r M c).2.1 t)*(bT p r M c).1 t j)) (M i j):=by
 have hp:dm p:=dT bg
 have R:=zA bg hM c (Nat.le_refl c)
 have I:=oT hp hM c
 obtain⟨y,hy⟩:=(KD bg hM (M i) c (Nat.le_refl c)).2 (mO hi)
 generalize bT p r M c=s at R I hy
 have ca:∀t,t<s.2.1.length->bo p (M i (pv s.2.1 t)) (y t):=fun t ht=>by
  refine qD.2 ?_
  rw[hy _ (R.lt t ht),vm (a:=t) r (by have:=I.l;omega) fun a ha aC=>by rw[R.bK t ht a ha aC,Int.mul_zero]]
  rw[R.one t ht,Int.mul_one]
 have e1:bo p (sm s.2.1.length (fun t=>M i (pv s.2.1 t)*s.1 t j)) (sm s.2.1.length (fun t=>y t*s.1 t j)):=je fun t ht=>bo.mul (ca t ht) (bo.refl _ _)
 refine e1.trans (qD.2 ?_)
 rw[hy j hj,Vh (m:=s.2.1.length) r I.l fun a ha hla=>by rw[R.zero a hla ha j hj,Int.mul_zero]]
theorem adK {p:Int} {r c:Nat} {M:aZ} (bg:cm p=true) (hM:c8 p r c M):(bT p c (qh M) r).2.1.length<=(bT p r M c).2.1.length:=by
 have hp:dm p:=dT bg
 have R:=zA bg hM c (Nat.le_refl c)
 have hT:c8 p c r (qh M):=fun j hj i hi=>hM i hi j hj
 have hB:c8 p (bT p r M c).2.1.length r (fun t i=>M i (pv (bT p r M c).2.1 t)):=fun t ht i hi=>hM i hi _ (R.lt t ht)
 refine Nat.le_trans (vd bg hT hB fun x hx=>qq (fun j hj=>?_) hx) (oT hp hB r).l
 refine⟨fun t=>(bT p r M c).1 t j,fun i hi=>?_⟩
 show M i j%p=_
 rw[<-qD.1 (acg bg hM hi hj)]
 congr 1
 exact kL fun t _=>Int.mul_comm _ _
theorem apP {p:Int} {r c:Nat} {M:aZ} (bg:cm p=true) (hM:c8 p r c M):(bT p c (qh M) r).2.1.length=(bT p r M c).2.1.length:=
 Nat.le_antisymm (adK bg hM) (adK (M:=qh M) bg (fun j hj i hi=>hM i hi j hj))
end Go.Am
end
section
namespace Go.Am
theorem xl (N k:Nat) (y g:Nat->Int) (L:aZ):sm N (fun u=>y u*sm k (fun t=>L u t*g t))=sm k (fun t=>sm N (fun u=>y u*L u t)*g t):=by
 have e1:sm N (fun u=>y u*sm k (fun t=>L u t*g t))=sm N (fun u=>sm k (fun t=>y u*L u t*g t)):=kL fun u _=>by
  rw[<-zL]
  exact kL fun t _=>by rw[Int.mul_assoc]
 rw[e1,Vi]
 exact kL fun t _=>by rw[acQ]
theorem afs (p:Int) (f g:Nat->Int) (n:Nat):bo p (gw p f g n) (sm n (fun t=>f t*g t)):=aa6 p n (fun _=>f) (fun t _=>g t) 0 0
theorem acR {k t:Nat} (g:Nat->Int) (ht:t<k):sm k (fun b=>(if b=t then(1:Int) else 0)*g b)=g t:=by
 rw[vm (a:=t) k ht (fun i _ aC=>by simp[aC])]
 simp
theorem s0 {p a b:Int} (h:a=b):bo p a b:=h▸bo.refl p a
theorem IQ {p a:Int}:bo p (a%p) a:=Ba p a
def LI (m:Int) (N k:Nat) (L:aZ):Prop:=∀x:Nat->Int,Sp m N k L x
def qU:aZ:=fun a b=>if b=a then 1 else 0
theorem aee {m:Int} {k:Nat} (x:Nat->Int):Sp m k k qU x:=⟨x,fun b hb=>by
 have:sm k (fun i=>x i*qU i b)=x b:=by
  rw[vm (a:=b) k hb (fun i _ aC=>by unfold qU;rw[if_neg (fun h=>aC h.symm),Int.mul_zero])]
  unfold qU
  rw[if_pos rfl,Int.mul_one]
 rw[this]⟩
theorem GQ {m:Int} {N k:Nat} {L:aZ} (h:∀t,t<k->∃i,i<N/\∀b,b<k->qU t b%m=L i b%m):LI m N k L:=fun x=>
 qq (fun t ht=>by
  obtain⟨i,hi,e⟩:=h t ht
  exact vL (mO hi) e) (aee x)
theorem GP {m:Int} {N k N' k' K:Nat} {L A L':aZ} (hL:LI m N k L) (hA:LI m K k' A)
  (h:∀a,a<K->∃(t:Nat) (φ ψ:Nat->Nat),t<k/\ψ t=a/\(∀u,u<N->φ u<N')/\∀u,u<N->∀b,b<k'->bo m (L' (φ u) b) (sm k (fun t=>L u t*A (ψ t) b))):LI m N' k' L':=fun x=>by
 refine qq (fun a ha=>?_) (hA x)
 obtain⟨t,φ,ψ,ht,hψ,hφ,e⟩:=h a ha
 refine qq (N:=fun u=>L' (φ u)) (r':=N) (fun u hu=>mO (hφ u hu)) ?_
 obtain⟨y,hy⟩:=hL (fun b=>if b=t then 1 else 0)
 refine⟨y,fun b hb=>qD.1 (bo.symm ?_)⟩
 refine(je fun u hu=>bo.mul (bo.refl _ (y u)) (e u hu b hb)).trans ?_
 rw[xl]
 refine(je fun q hq=>bo.mul (qD.2 (hy q hq).symm) (bo.refl _ (A (ψ q) b))).trans ?_
 rw[acR (fun q=>A (ψ q) b) ht,hψ]
 exact bo.refl _ _
theorem aae {m:Int} (hm:dm m) (k:Nat):c8 m k k qU:=fun a _ b _=>by
 have:=hm.1
 unfold qU fy
 split<;>omega
theorem anO {m:Int} {k:Nat} (bg:cm m=true):(bT m k qU k).2.1.length=k:=by
 have hm:=dT bg
 have h2:=hm.1
 have hI:=aae hm k
 rw[<-IC bg hI k (Nat.le_refl k)]
 refine(XI k).2 fun j hj=>y4.2 ((Sj bg hI hj).1 ⟨qU j,mO hj,fun b hb=>?_,?_⟩)
 ·unfold qU
  rw[if_neg (by omega)]
  exact Int.zero_emod _
 ·unfold qU
  rw[if_pos rfl,Int.emod_eq_of_lt (by omega) (by omega)]
  decide
theorem anL {m:Int} {N k:Nat} {L:aZ} (bg:cm m=true) (hL:c8 m N k L) (h:LI m N k L):(bT m N L k).2.1.length=k:=by
 have hm:=dT bg
 refine Nat.le_antisymm (oT hm hL k).lj ?_
 have:=vd bg (aae hm k) hL fun x _=>h x
 rwa[anO bg] at this
theorem Mu {m:Int} {N k:Nat} {L L':aZ} (h:LI m N k L) (e:∀u,u<N->∀b,b<k->bo m (L' u b) (L u b)):LI m N k L':=fun x=>by
 obtain⟨y,hy⟩:=h x
 refine⟨y,fun b hb=>(hy b hb).trans (qD.1 (je fun u hu=>bo.mul (bo.refl _ _) (e u hu b hb).symm))⟩
theorem abS {m:Int} {N k c:Nat} {U L R:aZ} (bg:cm m=true) (hU:c8 m N c U) (hL:LI m N k L) (hR:LI m c k (qh R)) (h:∀u,u<N->∀w,w<c->bo m (U u w) (sm k (fun t=>L u t*R t w))):
  (bT m N U c).2.1.length=k:=by
 have hm:=dT bg
 have h2:=hm.1
 let R':aZ:=fun t w=>R t w%m
 have wh:c8 m k c R':=fun t _ w _=>⟨Int.emod_nonneg _ (by omega),Int.emod_lt_of_pos _ (by omega)⟩
 have hT:c8 m c k (qh R'):=fun w hw t ht=>wh t ht w hw
 have k1:(bT m c (qh R') k).2.1.length=k:=anL bg hT (Mu hR fun w _ t _=>IQ)
 rw[apP bg wh] at k1
 refine Nat.le_antisymm ?_ ?_
 ·refine Nat.le_trans (vd bg hU wh fun x hx=>qq (fun u hu=>?_) hx) (Nat.le_of_eq k1)
  refine⟨fun t=>L u t,fun w hw=>?_⟩
  refine qD.1 ((h u hu w hw).trans (je fun t _=>bo.mul (bo.refl _ _) IQ.symm))
 ·rw[<-k1]
  refine(vd bg wh hU fun x hx=>qq (fun t ht=>?_) hx)
  obtain⟨y,hy⟩:=hL (fun b=>if b=t then 1 else 0)
  refine⟨y,fun w hw=>qD.1 (bo.symm ?_)⟩
  refine(je fun u hu=>bo.mul (bo.refl _ (y u)) (h u hu w hw)).trans ?_
  rw[xl]
  refine(je fun q hq=>bo.mul (qD.2 (hy q hq).symm) (bo.refl _ (R q w))).trans ?_
  rw[acR (fun q=>R q w) ht]
  exact IQ.symm
theorem anP {m:Int} {N k c:Nat} {U L R:aZ} (bg:cm m=true) (hU:c8 m N c U) (h:∀u,u<N->∀w,w<c->bo m (U u w) (sm k (fun t=>L u t*R t w))):(bT m N U c).2.1.length<=k:=by
 have hm:=dT bg
 have h2:=hm.1
 have wh:c8 m k c (fun t w=>R t w%m):=fun t _ w _=>⟨Int.emod_nonneg _ (by omega),Int.emod_lt_of_pos _ (by omega)⟩
 refine Nat.le_trans (vd bg hU wh fun x hx=>qq (fun u hu=>?_) hx) (oT hm wh c).l
 refine⟨fun t=>L u t,fun w hw=>qD.1 ((h u hu w hw).trans (je fun t _=>bo.mul (bo.refl _ _) IQ.symm))⟩
theorem NC {m:Int} {r c:Nat} {d:List Int} (bg:cm m=true) (hl:d.length=r*c) (hd:eG m d) {i j:Nat} (hi:i<r) (hj:j<c):
  bo m (bR c d i j) (sm (cr m r c d) (fun t=>bR (cr m r c d) (fS m r c d) i t*bR c (jf m r c d) t j)):=by
 have hM:=xT hl hd
 refine(acg bg hM hi hj).symm.trans (je fun t ht=>?_)
 have h1:bR (cr m r c d) (fS m r c d) i t=bR c d i (pv (bT m r (bR c d) c).2.1 t):=nu _ hi ht
 have h2:bR c (jf m r c d) t j=(bT m r (bR c d) c).1 t j:=nu _ ht hj
 rw[h1,h2]
 exact bo.refl _ _
theorem NB {m:Int} {r c:Nat} {d:List Int} (bg:cm m=true) (hl:d.length=r*c) (hd:eG m d):LI m r (cr m r c d) (bR (cr m r c d) (fS m r c d)):=fun x=>by
 have hM:=xT hl hd
 have R:=zA bg hM c (Nat.le_refl c)
 have I:=oT (dT bg) hM c
 have hs:Sp m r c (bT m r (bR c d) c).1 (fun b=>sm (cr m r c d) (fun s=>x s*(bT m r (bR c d) c).1 s b)):=by
  refine qq (N:=(bT m r (bR c d) c).1) (r':=cr m r c d) (fun i hi=>mO (Nat.lt_of_lt_of_le hi I.l)) ⟨x,fun b _=>rfl⟩
 obtain⟨y,hy⟩:=(KD bg hM _ c (Nat.le_refl c)).1 hs
 refine⟨y,fun t ht=>?_⟩
 have e1:=hy (pv (bT m r (bR c d) c).2.1 t) (R.lt t ht)
 have e2:sm (cr m r c d) (fun s=>x s*(bT m r (bR c d) c).1 s (pv (bT m r (bR c d) c).2.1 t))=x t:=by
  rw[vm (a:=t) _ ht (fun s hs aC=>by rw[R.bK t ht s (Nat.lt_of_lt_of_le hs I.l) aC,Int.mul_zero]),R.one t ht,Int.mul_one]
 have e1:=(congrArg (·%m) e2).symm.trans e1
 refine Eq.trans e1 ?_
 congr 1
 refine kL fun i hi=>?_
 have h1:bR (cr m r c d) (fS m r c d) i t=bR c d i (pv (bT m r (bR c d) c).2.1 t):=nu _ hi ht
 rw[h1]
theorem Yx {m:Int} {r c:Nat} {d:List Int} (bg:cm m=true) (hl:d.length=r*c) (hd:eG m d):LI m c (cr m r c d) (qh (bR c (jf m r c d))):=by
 have hM:=xT hl hd
 have R:=zA bg hM c (Nat.le_refl c)
 have I:=oT (dT bg) hM c
 refine GQ fun t ht=>⟨_,R.lt t ht,fun b hb=>?_⟩
 have h2:qh (bR c (jf m r c d)) (pv (bT m r (bR c d) c).2.1 t) b=(bT m r (bR c d) c).1 b (pv (bT m r (bR c d) c).2.1 t):=nu _ hb (R.lt t ht)
 rw[h2]
 unfold qU
 by_cases h:b=t
 ·rw[if_pos h,h,R.one t ht]
 ·rw[if_neg h,R.bK t ht b (Nat.lt_of_lt_of_le hb I.l) h]
theorem zr (c p:Nat) (l:List Int) (a v j:Nat):bR c l (a*p+v) j=bR (p*c) l a (v*c+j):=by
 unfold bR
 congr 1
 rw[Nat.add_mul,Nat.mul_assoc,Nat.add_assoc]
def lN (m:Int) (l:List az) (D:List Int):Nat->Nat->Nat->Int
 |0,_=>fun _=>1
 |i+1,u=>vh m (lN m l D i (u/(D.getD i 0).toNat)) (l.getD i bB) (u%(D.getD i 0).toNat)
def rL:List az->aZ
 |[]=>fun _ _=>1
 |s::l=>fun t w=>sm s.2.2.1.toNat (fun j=>lL s (w/bJ (be l)) t j*rL l j (w%bJ (be l)))
theorem acd {m:Int} {l:List az} {D:List Int} {n:Nat}:∀i,i<=D.length->rr m l (di D n) i=lN m l D i (n/aQ D i)
 |0,_=>rfl
 |i+1,hi=>by
  show vh m (rr m l (di D n) i) _ _=vh m (lN m l D i (n/aQ D (i+1)/(D.getD i 0).toNat)) _ _
  rw[acd i (by omega),JP (by omega),Nat.div_div_eq_div_mul,nz (show i<D.length by omega),Nat.mul_comm]
  rfl
theorem zd {m:Int} (hm:dm m) (l:List az) (D:List Int):∀i u j,fy m (lN m l D i u j)
 |0,_,_=>by have:=hm.1;exact⟨by show(0:Int)<=1;decide,by show(1:Int)<m;omega⟩
 |i+1,_,_=>DO hm _ _ _
theorem ze {m:Int} {l:List az} {D:List Int} {i u v j:Nat} (hv:v<(D.getD i 0).toNat):
  bo m (lN m l D (i+1) (u*(D.getD i 0).toNat+v) j) (sm (l.getD i bB).1.toNat (fun t=>lN m l D i u t*lL (l.getD i bB) v t j)):=by
 show bo m (vh m (lN m l D i ((u*(D.getD i 0).toNat+v)/(D.getD i 0).toNat)) _ ((u*(D.getD i 0).toNat+v)%(D.getD i 0).toNat) j) _
 rw[JQ hv,JR hv]
 exact afs _ _ _ _
theorem B7 {m:Int} {l l':List az} {D:List Int}:∀i,(∀k,k<i->l.getD k bB=l'.getD k bB)->lN m l D i=lN m l' D i
 |0,_=>rfl
 |i+1,h=>by
  funext u
  show vh m (lN m l D i _) _ _=vh m (lN m l' D i _) _ _
  rw[B7 i (fun k hk=>h k (by omega)),h i (by omega)]
def nA (m:Int) (l:List az) (n:Nat):Int:=lN m l (be l) l.length n 0
theorem MZ {m:Int} {l:List az} (n:Nat):rN m l (di (be l) n)=nA m l n:=by
 unfold rN nA
 rw[acd l.length (by rw[gd];exact Nat.le_refl _),<-gd l,qg,Nat.div_one]
structure Ch (m:Int) (D:List Int) (L:List az):Prop where
 fit:lc m L
 kZ:be L=D
 len:1<=L.length
 fst:(L.getD 0 bB).1=1
 J8:(L.getD (L.length - 1) bB).2.2.1=1
theorem Ch.left {m:Int} {D:List Int} {L:List az} (h:Ch m D L):∀{k:Nat},k<L.length->(L.getD k bB).1.toNat=bY L k
 |0,_=>by rw[h.fst];rfl
 |k+1,hk=>by rw[h.fit.2 k hk];rfl
theorem Ch.DK {m:Int} {D:List Int} {L:List az} (h:Ch m D L) (k:Nat):D.getD k 0=(L.getD k bB).2.1:=by rw[<-h.kZ];exact yd L k
theorem Ch.II {m:Int} {D:List Int} {L:List az} (h:Ch m D L):D.length=L.length:=by rw[<-h.kZ];exact gd L
theorem Ch.X0 {m:Int} {D:List Int} {L:List az} (h:Ch m D L) {k:Nat} (hk:k<L.length):1<=(D.getD k 0).toNat:=by
 obtain⟨b,p,c,d,e,_,_,hp,_⟩:=CJ (h.fit.1 k hk)
 rw[h.DK,e]
 exact hp.1
theorem Ch.last {m:Int} {D:List Int} {L:List az} (h:Ch m D L):bY L L.length=1:=by
 have:=h.len
 have e:L.length=L.length - 1+1:=by omega
 rw[e]
 show(L.getD (L.length - 1) bB).2.2.1.toNat=1
 rw[h.J8]
 rfl
theorem afv (L:List az) (k:Nat):bJ (be (L.drop k))=aQ (be L) k:=by
 unfold aQ be
 rw[List.map_drop]
theorem afw {L:List az} {k:Nat} (hk:k<L.length):L.drop k=L.getD k bB::L.drop (k+1):=by
 rw[List.drop_eq_getElem_cons hk]
 congr 1
 rw[List.getD_eq_getElem?_getD,List.getElem?_eq_getElem hk]
 rfl
theorem abR {m:Int} {D:List Int} {L:List az} (h:Ch m D L) {i t v w:Nat} (hi:i<L.length) (hw:w<aQ D (i+1)):
  rL (L.drop i) t (v*aQ D (i+1)+w)=sm (bY L (i+1)) (fun j=>lL (L.getD i bB) v t j*rL (L.drop (i+1)) j w):=by
 rw[afw hi]
 show sm _ (fun j=>lL (L.getD i bB) ((v*aQ D (i+1)+w)/bJ (be (L.drop (i+1)))) t j*rL (L.drop (i+1)) j ((v*aQ D (i+1)+w)%bJ (be (L.drop (i+1)))))=_
 rw[afv,h.kZ,JQ hw,JR hw]
 rfl
theorem Ch.split {m:Int} {D:List Int} {L:List az} (h:Ch m D L):∀(q i:Nat),i+q=L.length->∀u w,w<aQ D i->
  bo m (lN m L D L.length (u*aQ D i+w) 0) (sm (bY L i) (fun t=>lN m L D i u t*rL (L.drop i) t w))
 |0,i,hi,u,w,hw=>by
  have hi:i=L.length:=hi
  subst hi
  have e:aQ D L.length=1:=by rw[<-h.II];exact qg D
  rw[e] at hw⊢
  have:w=0:=by omega
  subst this
  rw[h.last,List.drop_length,Nat.mul_one,Nat.add_zero]
  refine s0 ?_
  show _=0+_*1
  rw[Int.mul_one,Int.zero_add]
 |q+1,i,hi,u,w,hw=>by
  have eC:i<L.length:=by omega
  have ih:=Ch.split h q (i+1) (by omega)
  rw[nz (by rw[h.II];exact eC)] at hw⊢
  have hP:0<aQ D (i+1):=by
   rcases Nat.eq_zero_or_pos (aQ D (i+1)) with h0|h0
   ·rw[h0,Nat.mul_zero] at hw;omega
   ·exact h0
  have hv:w/aQ D (i+1)<(D.getD i 0).toNat:=Nat.div_lt_of_lt_mul (by rw[Nat.mul_comm];exact hw)
  have hr:w%aQ D (i+1)<aQ D (i+1):=Nat.mod_lt _ hP
  have ew:w=w/aQ D (i+1)*aQ D (i+1)+w%aQ D (i+1):=by rw[Nat.mul_comm];exact(Nat.div_add_mod _ _).symm
  generalize w/aQ D (i+1)=v at hv ew
  generalize w%aQ D (i+1)=w' at hr ew
  subst ew
  have e:u*((D.getD i 0).toNat*aQ D (i+1))+(v*aQ D (i+1)+w')=(u*(D.getD i 0).toNat+v)*aQ D (i+1)+w':=by
   rw[Nat.add_mul,Nat.mul_assoc,Nat.add_assoc]
  rw[e]
  refine(ih _ _ hr).trans ?_
  refine(je fun j _=>bo.mul (ze hv) (bo.refl _ _)).trans (s0 ?_)
  rw[h.left eC,<-xl]
  exact kL fun t _=>by rw[abR h eC hr]
def zV (m:Int) (L:List az) (D:List Int) (i:Nat):aZ:=fun u w=>lN m L D L.length (u*aQ D i+w) 0
theorem Ch.vd {m:Int} {D:List Int} {L:List az} (h:Ch m D L) (bg:cm m=true) {i:Nat} (hi:i<=L.length) (N:Nat):(bT m N (zV m L D i) (aQ D i)).2.1.length<=bY L i:=
 anP bg (fun _ _ _ _=>zd (dT bg) _ _ _ _ _) fun u _ w hw=>Ch.split h (L.length - i) i (by omega) u w hw
theorem Ch.anN {m:Int} {D:List Int} {L:List az} (h:Ch m D L) (bg:cm m=true) {i:Nat} (hi:i<=L.length) {N:Nat} (hL:LI m N (bY L i) (lN m L D i)) (hR:LI m (aQ D i) (bY L i) (qh (rL (L.drop i)))):
  (bT m N (zV m L D i) (aQ D i)).2.1.length=bY L i:=
 abS bg (fun _ _ _ _=>zd (dT bg) _ _ _ _ _) hL hR fun u _ w hw=>Ch.split h (L.length - i) i (by omega) u w hw
def gy (D:List Int):Nat->Nat
 |0=>1
 |i+1=>gy D i*(D.getD i 0).toNat
theorem head_tail (D:List Int):∀i,i<=D.length->gy D i*aQ D i=bJ D
 |0,_=>by rw[CY];exact Nat.one_mul _
 |i+1,hi=>by
  rw[<-head_tail D i (by omega),nz (show i<D.length by omega),<-Nat.mul_assoc]
  rfl
end Go.Am
end
section
namespace Go.Am
def kM (D A:List Int) (i:Nat):aZ:=bR (aQ D i) A
structure sL (m:Int) (D A:List Int) (i:Nat) (st:jU):Prop where
 c:sK m D i st
 b4:st.1<=4
 val:∀u,u<gy D i->∀w,w<aQ D i->bo m (kM D A i u w) (sm st.1 (fun t=>lN m st.2.2 D i u t*bR (aQ D i) st.2.1 t w))
 li:LI m (gy D i) st.1 (lN m st.2.2 D i)
 rk:∀k,k<i->(bT m (gy D (k+1)) (kM D A (k+1)) (aQ D (k+1))).2.1.length=((st.2.2.getD k bB).2.2.1).toNat
theorem OE {l l':List az} {k:Nat} (h:k<l.length):(l++l').getD k bB=l.getD k bB:=by
 rw[List.getD_eq_getElem?_getD,List.getD_eq_getElem?_getD,List.getElem?_append_left h]
theorem Y3 {l:List az} {s:az} {k:Nat} (h:l.length=k):(l++[s]).getD k bB=s:=by
 rw[List.getD_eq_getElem?_getD,List.getElem?_append_right (by omega),h,Nat.sub_self]
 rfl
theorem CS {d u N:Nat} (hu:u<N*d):∃u' v,u=u'*d+v/\u'<N/\v<d:=by
 have hd:0<d:=by
  rcases Nat.eq_zero_or_pos d with h|h
  ·rw[h,Nat.mul_zero] at hu;omega
  ·exact h
 exact⟨u/d,u%d,by rw[Nat.mul_comm];exact(Nat.div_add_mod _ _).symm,Nat.div_lt_of_lt_mul (by rw[Nat.mul_comm];exact hu),Nat.mod_lt _ hd⟩
theorem V4 {m:Int} {D A:List Int} (h:mL m D A) {i:Nat} (hi:i<=D.length):c8 m (gy D i) (aQ D i) (kM D A i):=
 xT (by rw[h.len,head_tail D i hi]) h.el
theorem Vo {m:Int} {D:List Int} {l:List az} {a k i u v z:Nat} {fa:List Int} (hl:l.length=i) (hv:v<(D.getD i 0).toNat):
  bo m (lN m (l++[((a:Int),D.getD i 0,(k:Int),fa)]) D (i+1) (u*(D.getD i 0).toNat+v) z) (sm a (fun t=>lN m l D i u t*bR k fa (t*(D.getD i 0).toNat+v) z)):=by
 refine(ze hv).trans (s0 ?_)
 rw[Y3 hl,B7 (l:=l++[((a:Int),D.getD i 0,(k:Int),fa)]) (l':=l) i (fun q hq=>OE (by omega))]
 rfl
theorem sL.next {m:Int} {D A:List Int} (h:mL m D A) (yA:∀x∈D,x<=3) (hn:D.length<=4) {i:Nat} (hi:i<D.length - 1)
  (hr:(bT m (gy D (i+1)) (kM D A (i+1)) (aQ D (i+1))).2.1.length<=4) {st:jU} (I:sL m D A i st):AO D i st=true/\cK m D i st<=4/\sL m D A (i+1) (sS m D i st):=by
 have hi':i<D.length:=by omega
 have h3:(D.getD i 0).toNat<=3:=by have:=yA _ (mh hi');omega
 have dJ:=lS.rc h (by omega) I.c.s
 have bg:=h.pr
 have fJ:AO D i st=true:=by
  refine decide_eq_true ⟨Nat.le_trans (Nat.mul_le_mul I.b4 h3) (by decide),?_⟩
  have ca:∀q i,i+q=D.length->1<=i->aQ D i<=3^q:=by
   intro q
   induction q with
   |zero=>intro i hi _;have:i=D.length:=hi;subst this;rw[qg];decide
   |succ q ih=>
    intro i hi h1
    rw[nz (by omega),Nat.pow_succ,Nat.mul_comm]
    have h3:(D.getD i 0).toNat<=3:=by have:=yA _ (mh (l:=D) (i:=i) (by omega));omega
    exact Nat.mul_le_mul (ih (i+1) (by omega) (by omega)) h3
  have:=ca (D.length - (i+1)) (i+1) (by omega) (by omega)
  have h4:3^(D.length - (i+1))<=3^3:=Nat.pow_le_pow_right (by decide) (by omega)
  have:(3:Nat)^3=27:=by decide
  omega
 have hN:gy D (i+1)=gy D i*(D.getD i 0).toNat:=rfl
 have hT:aQ D i=(D.getD i 0).toNat*aQ D (i+1):=nz hi'
 have yz:=I.c.s.g7
 have adP:∀u,u<gy D (i+1)->∀w,w<aQ D (i+1)->bo m (kM D A (i+1) u w) (sm (cK m D i st) (fun t=>lN m (sS m D i st).2.2 D (i+1) u t*bR (aQ D (i+1)) (sS m D i st).2.1 t w)):=by
  intro u hu w hw
  obtain⟨u',v,rfl,kz,hv⟩:=CS hu
  have e1:kM D A (i+1) (u'*(D.getD i 0).toNat+v) w=kM D A i u' (v*aQ D (i+1)+w):=by
   unfold kM
   rw[zr,<-hT]
  rw[e1]
  have hw2:v*aQ D (i+1)+w<aQ D i:=by rw[hT];exact nT hv hw
  refine(I.val u' kz _ hw2).trans ?_
  have e2:∀t,t<st.1->bo m (bR (aQ D i) st.2.1 t (v*aQ D (i+1)+w)) (sm (cK m D i st) (fun z=>bR (cK m D i st) (fS m (st.1*(D.getD i 0).toNat) (aQ D (i+1)) st.2.1) (t*(D.getD i 0).toNat+v) z*bR (aQ D (i+1)) (sS m D i st).2.1 z w)):=by
   intro t ht
   rw[hT,<-zr]
   exact NC bg dJ I.c.s.el (nT ht hv) hw
  refine(je fun t ht=>bo.mul (bo.refl _ _) (e2 t ht)).trans ?_
  rw[xl]
  exact je fun z _=>bo.mul (Vo yz hv).symm (bo.refl _ _)
 have li':LI m (gy D (i+1)) (cK m D i st) (lN m (sS m D i st).2.2 D (i+1)):=by
  refine GP I.li (NB bg dJ I.c.s.el) fun a ha=>?_
  obtain⟨t,v,rfl,ht,hv⟩:=CS ha
  refine⟨t,fun u=>u*(D.getD i 0).toNat+v,fun t=>t*(D.getD i 0).toNat+v,ht,rfl,fun u hu=>nT hu hv,fun u hu b hb=>Vo yz hv⟩
 have hk:(bT m (gy D (i+1)) (kM D A (i+1)) (aQ D (i+1))).2.1.length=cK m D i st:=
  abS bg (V4 h (by omega)) li' (Yx bg dJ I.c.s.el) adP
 have Ew:cK m D i st<=4:=by omega
 refine⟨fJ,Ew,sK.next h hi I.c fJ (by omega),Ew,adP,li',fun k cO=>?_⟩
 by_cases kx:k<i
 ·rw[I.rk k kx]
  show _=((st.2.2++[_]).getD k bB).2.2.1.toNat
  rw[OE (by omega)]
 ·have:k=i:=by omega
  subst this
  rw[hk]
  show _=((st.2.2++[_]).getD k bB).2.2.1.toNat
  rw[Y3 yz]
  rfl
theorem sL.run {m:Int} {D A:List Int} (h:mL m D A) (yA:∀x∈D,x<=3) (hn:D.length<=4)
  (hr:∀i,i<D.length - 1->(bT m (gy D (i+1)) (kM D A (i+1)) (aQ D (i+1))).2.1.length<=4):∀(es:List Nat) (i:Nat) (st:jU),i+es.length=D.length - 1->sL m D A i st->
  ∃Le,dP (rO m D) i st es=some Le/\sL m D A (D.length - 1) Le
 |[],i,st,hi,I=>by
  rw[List.length_nil,Nat.add_zero] at hi
  subst hi
  exact⟨st,rfl,I⟩
 |e::es,i,st,hi,I=>by
  rw[List.length_cons] at hi
  obtain⟨h1,h2,h3⟩:=sL.next h yA hn (i:=i) (by omega) (hr i (by omega)) I
  simp only[dP]
  rw[show rO m D i st e=some (sS m D i st) by unfold rO;rw[if_pos h1,if_pos (by omega)]]
  exact sL.run h yA hn hr es (i+1) _ (by omega) h3
theorem J7 {m:Int} {D A:List Int} (h:mL m D A) {st:jU} (I:sK m D (D.length - 1) st):be (kH D st)=D:=by
 have l1:=h.l1
 unfold kH be
 rw[List.map_append]
 show be st.2.2++[D.getD (D.length - 1) 0]=_
 rw[I.A6]
 have:=List.take_add_one (l:=D) (i:=D.length - 1)
 rw[show D.length - 1+1=D.length by omega,List.take_length,qK (by omega)] at this
 exact this.symm
theorem aoe {m:Int} {D A:List Int} (h:mL m D A) (yA:∀x∈D,x<=3) (hn:D.length<=4)
  (hr:∀i,i<D.length - 1->(bT m (gy D (i+1)) (kM D A (i+1)) (aQ D (i+1))).2.1.length<=4):
  ∃L,Fw m D A=((m,L),true)/\eH (m,L)=true/\be L=D/\(∀n,n<bJ D->nA m L n=A.getD n 0)/\
   ∀k,k<D.length - 1->(bT m (gy D (k+1)) (kM D A (k+1)) (aQ D (k+1))).2.1.length=((L.getD k bB).2.2.1).toNat:=by
 have l1:=h.l1
 have hm:=dT h.pr
 have I0:sL m D A 0 (1,A,[]):=by
  refine⟨Qb h,by show 1<=4;decide,fun u hu w hw=>s0 ?_,GQ fun t ht=>⟨0,Nat.one_pos,fun b hb=>?_⟩,fun k hk=>absurd hk (Nat.not_lt_zero k)⟩
  ·have hu:u<1:=hu
   have:u=0:=by omega
   subst this
   show kM D A 0 0 w=0+1*kM D A 0 0 w
   omega
  ·have:t=0:=by have ht:t<1:=ht;omega
   have aY:b=0:=by have hb:b<1:=hb;omega
   subst this aY
   rfl
 obtain⟨st,h1,I⟩:=sL.run h yA hn hr (List.range (D.length - 1)) 0 _ (by rw[List.length_range,Nat.zero_add]) I0
 have yz:=I.c.s.g7
 refine⟨kH D st,?_,sK.fin h I.c,J7 h I.c,fun n bk=>?_,fun k hk=>?_⟩
 ·unfold Fw
  rw[h1]
  rfl
 ·have hT:aQ D (D.length - 1)=(D.getD (D.length - 1) 0).toNat:=by
   rw[nz (by omega),show D.length - 1+1=D.length by omega,qg,Nat.mul_one]
  have hH:gy D (D.length - 1)*(D.getD (D.length - 1) 0).toNat=bJ D:=by rw[<-hT,head_tail D _ (by omega)]
  rw[<-hH] at bk
  obtain⟨u,v,rfl,hu,hv⟩:=CS bk
  have e1:A.getD (u*(D.getD (D.length - 1) 0).toNat+v) 0=kM D A (D.length - 1) u v:=by
   unfold kM bR
   rw[hT]
  have e2:nA m (kH D st)=fun n=>lN m (kH D st) D D.length n 0:=by
   unfold nA
   rw[J7 h I.c]
   have:(kH D st).length=D.length:=by rw[<-J7 h I.c,gd];rw[J7 h I.c]
   rw[this]
  rw[e1,e2]
  refine Ya ?_ (zd hm _ _ _ _ _) (V4 h (by omega) u hu v (by rw[hT];exact hv))
  refine bo.trans ?_ (I.val u hu v (by rw[hT];exact hv)).symm
  have e3:D.length=D.length - 1+1:=by omega
  show bo m (lN m (kH D st) D D.length _ 0) _
  rw[show lN m (kH D st) D D.length=lN m (kH D st) D (D.length - 1+1) by rw[<-e3]]
  refine(Vo (k:=1) yz hv).trans (s0 (kL fun t _=>?_))
  congr 1
  unfold bR
  rw[hT,Nat.mul_one,Nat.add_zero]
 ·rw[I.rk k hk]
  unfold kH
  rw[OE (by omega)]
end Go.Am
end
section
namespace Go.Am
def Bd (L:List az):Prop:=∀k,k<L.length->(L.getD k bB).1.toNat<=4/\(L.getD k bB).2.1.toNat<=3/\(L.getD k bB).2.2.1.toNat<=4
theorem OG {L:List az} {i:Nat} {s t:az} (hi:i+1<L.length) (k:Nat):((L.set i s).set (i+1) t).getD k bB=if k=i+1 then t else if k=i then s else L.getD k bB:=by
 rw[Jd (by simpa using hi),Jd (by omega)]
theorem Nv {l l':List Int} (hl:l.length=l'.length) (h:∀k,k<l.length->l.getD k 0=l'.getD k 0):l=l':=
 List.ext_getElem hl fun k h1 h2=>by
  have:=h k h1
  rw[List.getD_eq_getElem?_getD,List.getD_eq_getElem?_getD,List.getElem?_eq_getElem h1,List.getElem?_eq_getElem h2] at this
  exact this
structure Dq (m:Int) (D:List Int) (L L':List az) (i:Nat):Prop where
 len:L'.length=L.length
 ch:Ch m D L'
 bd:∀k,k<=L.length->k≠i+1->bY L' k=bY L k
 val:∀k,k<=L.length->k≠i+1->∀u j,j<bY L k->lN m L' D k u j=lN m L D k u j
 b4:Bd L'
theorem aaD {m:Int} {D:List Int} {L:List az} (h:Ch m D L) {i u v v' j:Nat} (hi:i+1<L.length) (hv:v<(D.getD i 0).toNat) (dS:v'<(D.getD (i+1) 0).toNat):
  bo m (lN m L D (i+2) ((u*(D.getD i 0).toNat+v)*(D.getD (i+1) 0).toNat+v') j) (sm (bY L i) (fun t=>lN m L D i u t*sm (bY L (i+1)) (fun q=>lL (L.getD i bB) v t q*lL (L.getD (i+1) bB) v' q j))):=by
 refine(ze dS).trans ?_
 rw[h.left (show i+1<L.length from hi),xl]
 refine je fun q _=>bo.mul ?_ (bo.refl _ _)
 rw[<-h.left (show i<L.length by omega)]
 exact ze hv
theorem adL {m:Int} {D:List Int} {L:List az} {i:Nat} {s t:az} (bg:cm m=true) (h:Ch m D L) (hB:Bd L) (hi:i+1<L.length) (hs:kl m s=true) (ht:kl m t=true)
  (s1:s.1=(L.getD i bB).1) (s2:s.2.1=(L.getD i bB).2.1) (t1:t.1=s.2.2.1) (t2:t.2.1=(L.getD (i+1) bB).2.1) (t3:t.2.2.1=(L.getD (i+1) bB).2.2.1) (k4:s.2.2.1.toNat<=4)
  (hp:∀v,v<(D.getD i 0).toNat->∀v',v'<(D.getD (i+1) 0).toNat->∀x,x<bY L i->∀j,j<bY L (i+2)->
   bo m (sm s.2.2.1.toNat (fun q=>lL s v x q*lL t v' q j)) (sm (bY L (i+1)) (fun q=>lL (L.getD i bB) v x q*lL (L.getD (i+1) bB) v' q j))):
  Dq m D L ((L.set i s).set (i+1) t) i:=by
 have hm:=dT bg
 have hg:=OG (s:=s) (t:=t) hi
 have hlen:((L.set i s).set (i+1) t).length=L.length:=by simp
 have fJ:=NE h.fit hi hs ht s1 t1 t3
 generalize (L.set i s).set (i+1) t=L' at hg hlen fJ
 have dr:Ch m D L':=by
  refine⟨fJ,?_,by rw[hlen];exact h.len,?_,?_⟩
  ·rw[<-h.kZ]
   refine Nv (by rw[gd,gd,hlen]) fun k _=>?_
   rw[yd,yd,hg]
   by_cases e1:k=i+1
   ·rw[if_pos e1,t2,e1]
   ·rw[if_neg e1]
    by_cases e2:k=i
    ·rw[if_pos e2,s2,e2]
    ·rw[if_neg e2]
  ·rw[hg,if_neg (by omega)]
   by_cases e2:0=i
   ·rw[if_pos e2,s1,<-e2];exact h.fst
   ·rw[if_neg e2];exact h.fst
  ·rw[hg,hlen]
   by_cases e1:L.length - 1=i+1
   ·rw[if_pos e1,t3,<-e1];exact h.J8
   ·rw[if_neg e1,if_neg (by omega)];exact h.J8
 have Zj:∀k,k<=L.length->k≠i+1->bY L' k=bY L k:=by
  intro k hk aC
  cases k with
  |zero=>rfl
  |succ k=>
   show(L'.getD k bB).2.2.1.toNat=(L.getD k bB).2.2.1.toNat
   rw[hg]
   by_cases e1:k=i+1
   ·rw[if_pos e1,t3,e1]
   ·rw[if_neg e1,if_neg (by omega)]
 refine⟨hlen,dr,Zj,?_,?_⟩
 ·have ca:∀q,i+2+q<=L.length->∀u j,j<bY L (i+2+q)->lN m L' D (i+2+q) u j=lN m L D (i+2+q) u j:=by
   intro q
   induction q with
   |zero=>
    intro _ u j hj
    have hd:=h.X0 (k:=i) (by omega)
    have pD:=h.X0 (k:=i+1) hi
    have eu:u=(u/(D.getD (i+1) 0).toNat/(D.getD i 0).toNat*(D.getD i 0).toNat+u/(D.getD (i+1) 0).toNat%(D.getD i 0).toNat)*(D.getD (i+1) 0).toNat+u%(D.getD (i+1) 0).toNat:=by
     rw[show u/(D.getD (i+1) 0).toNat/(D.getD i 0).toNat*(D.getD i 0).toNat+u/(D.getD (i+1) 0).toNat%(D.getD i 0).toNat=u/(D.getD (i+1) 0).toNat by rw[Nat.mul_comm];exact Nat.div_add_mod _ _,Nat.mul_comm]
     exact(Nat.div_add_mod _ _).symm
    have hv:u/(D.getD (i+1) 0).toNat%(D.getD i 0).toNat<(D.getD i 0).toNat:=Nat.mod_lt _ hd
    have dS:u%(D.getD (i+1) 0).toNat<(D.getD (i+1) 0).toNat:=Nat.mod_lt _ pD
    generalize u/(D.getD (i+1) 0).toNat/(D.getD i 0).toNat=u' at eu
    generalize u/(D.getD (i+1) 0).toNat%(D.getD i 0).toNat=v at eu hv
    generalize u%(D.getD (i+1) 0).toNat=v' at eu dS
    subst eu
    refine Ya ?_ (zd hm _ _ _ _ _) (zd hm _ _ _ _ _)
    refine(aaD dr (by rw[hlen];exact hi) hv dS).trans (bo.trans ?_ (aaD h hi hv dS).symm)
    rw[Zj i (by omega) (by omega),show bY L' (i+1)=s.2.2.1.toNat by show(L'.getD i bB).2.2.1.toNat=_;rw[hg,if_neg (by omega),if_pos rfl]]
    rw[B7 (l:=L') (l':=L) i fun k hk=>by rw[hg,if_neg (by omega),if_neg (by omega)]]
    refine je fun x hx=>bo.mul (bo.refl _ _) ?_
    rw[show L'.getD i bB=s by rw[hg,if_neg (by omega),if_pos rfl],show L'.getD (i+1) bB=t by rw[hg,if_pos rfl]]
    exact hp v hv v' dS x hx j hj
   |succ q ih=>
    intro hq u j hj
    show gw m (lN m L' D (i+2+q) _) (fun x=>lL (L'.getD (i+2+q) bB) _ x j) (L'.getD (i+2+q) bB).1.toNat=gw m (lN m L D (i+2+q) _) (fun x=>lL (L.getD (i+2+q) bB) _ x j) (L.getD (i+2+q) bB).1.toNat
    rw[show L'.getD (i+2+q) bB=L.getD (i+2+q) bB by rw[hg,if_neg (by omega),if_neg (by omega)]]
    refine XY fun x hx=>⟨ih (by omega) _ x ?_,rfl⟩
    rw[h.left (by omega)] at hx
    exact hx
  intro k hk aC u j hj
  by_cases kx:k<=i
  ·rw[B7 (l:=L') (l':=L) k fun q hq=>by rw[hg,if_neg (by omega),if_neg (by omega)]]
  ·have e:k=i+2+(k - (i+2)):=by omega
   rw[e] at hj hk⊢
   exact ca _ hk u j hj
 ·intro k hk
  rw[hlen] at hk
  rw[hg]
  by_cases e1:k=i+1
  ·have:=hB (i+1) hi
   rw[if_pos e1,t1,t2,t3]
   exact⟨k4,this.2.1,this.2.2⟩
  ·rw[if_neg e1]
   by_cases e2:k=i
   ·have:=hB i (by omega)
    rw[if_pos e2,s1,s2]
    exact⟨this.1,this.2.1,k4⟩
   ·rw[if_neg e2]
    exact hB k hk
theorem KZ (b p c:Nat) (d:List Int) (v x q:Nat):lL ((b:Int),(p:Int),(c:Int),d) v x q=bR c d (x*p+v) q:=rfl
theorem R1 {m:Int} {r k c:Nat} {A B:List Int} {i j:Nat} (hi:i<r) (hj:j<c):bo m (bR c (lD m r k c A B) i j) (sm k (fun t=>bR k A i t*bR c B t j)):=by
 have e:bR c (lD m r k c A B) i j=mI m k (bR k A) (bR c B) i j:=nu _ hi hj
 rw[e]
 exact aa6 _ _ _ _ _ _
theorem ahs {m:Int} {D:List Int} {L:List az} {i:Nat} (bg:cm m=true) (h:Ch m D L) (hB:Bd L) (hi:i+1<L.length) (OJ:LI m (gy D i) (bY L i) (lN m L D i)) (a:Nat):
  ∃L',wa m i L a=some L'/\Dq m D L L' i/\LI m (gy D (i+1)) (bY L' (i+1)) (lN m L' D (i+1)):=by
 have hm:=dT bg
 obtain⟨b,p,c,p',c',d,d',_,_,e1,e2,h1,h2,h3,h4,h5,h6,h7,h8,h9⟩:=Bg h.fit hi
 have g1:=hB i (by omega)
 have g2:=hB (i+1) hi
 rw[e1] at g1
 rw[e2] at g2
 simp only[Int.toNat_natCast] at g1 g2
 have hd:(D.getD i 0).toNat=p:=by rw[h.DK,e1];rfl
 have pD:(D.getD (i+1) 0).toNat=p':=by rw[h.DK,e2];rfl
 have Jo:bY L i=b:=by rw[<-h.left (by omega),e1];rfl
 have r8:bY L (i+1)=c:=by show(L.getD i bB).2.2.1.toNat=c;rw[e1];rfl
 have wi:bY L (i+2)=c':=by show(L.getD (i+1) bB).2.2.1.toNat=c';rw[e2];rfl
 have hr:b*p<=64:=Nat.le_trans (Nat.mul_le_mul g1.1 g1.2.1) (by decide)
 obtain⟨_,f1,f2,f3,f4,f5,f6⟩:=s7 hm h6 h8
 have two:Dq m D L ((L.set i ((b:Int),(p:Int),(cr m (b*p) c d:Int),fS m (b*p) c d)).set (i+1) ((cr m (b*p) c d:Int),(p':Int),(c':Int),lD m (cr m (b*p) c d) c (p'*c') (jf m (b*p) c d) d')) i:=by
  refine adL bg h hB hi (ry h1 (by omega) h4 f3 f4) (ry (by omega) h3 h5 (by rw[Kl,Nat.mul_assoc]) (Kk hm _ _ _ _ _)) (by rw[e1]) (by rw[e1]) rfl (by rw[e2]) (by rw[e2]) (by show cr m (b*p) c d<=4;omega) ?_
  rw[hd,pD,Jo,r8,wi,e1,e2]
  intro v hv v' dS x hx j hj
  simp only[KZ,Int.toNat_natCast]
  refine bo.symm ?_
  refine(je fun q hq=>bo.mul (NC bg h6 h8 (nT hx hv) hq) (bo.refl _ _)).trans ?_
  rw[<-xl]
  refine je fun z hz=>bo.mul (bo.refl _ _) ?_
  rw[zr c' p']
  refine bo.trans (s0 (kL fun q _=>?_)) (R1 hz (nT dS hj)).symm
  rw[zr c' p']
 refine⟨_,?_,two,?_⟩
 ·show Ef m L i (L.getD i bB) (L.getD (i+1) bB)=_
  rw[e1,e2]
  simp only[Ef,Int.toNat_natCast]
  rw[if_pos hr]
 ·have hg:=OG (L:=L) (s:=((b:Int),(p:Int),(cr m (b*p) c d:Int),fS m (b*p) c d)) (t:=((cr m (b*p) c d:Int),(p':Int),(c':Int),lD m (cr m (b*p) c d) c (p'*c') (jf m (b*p) c d) d')) hi
  generalize (L.set i ((b:Int),(p:Int),(cr m (b*p) c d:Int),fS m (b*p) c d)).set (i+1) _=L' at two hg⊢
  have Et:L'.getD i bB=((b:Int),(p:Int),(cr m (b*p) c d:Int),fS m (b*p) c d):=by rw[hg,if_neg (by omega),if_pos rfl]
  have OS:bY L' (i+1)=cr m (b*p) c d:=by show(L'.getD i bB).2.2.1.toNat=_;rw[Et];rfl
  rw[OS]
  refine GP OJ (NB bg h6 h8) fun a ha=>?_
  obtain⟨t,v,rfl,ht,hv⟩:=CS ha
  rw[Jo]
  refine⟨t,fun u=>u*p+v,fun t=>t*p+v,ht,rfl,fun u hu=>by show _<gy D i*(D.getD i 0).toNat;rw[hd];exact nT hu hv,fun u hu j hj=>?_⟩
  have:=ze (m:=m) (l:=L') (D:=D) (i:=i) (u:=u) (v:=v) (j:=j) (by rw[hd];exact hv)
  rw[hd,Et] at this
  refine this.trans (s0 ?_)
  rw[B7 (l:=L') (l':=L) i fun k hk=>by rw[hg,if_neg (by omega),if_neg (by omega)]]
  rfl
theorem aeG {m:Int} {D:List Int} {L:List az} {i:Nat} (bg:cm m=true) (h:Ch m D L) (hB:Bd L) (hi:i+1<L.length) (OJ:LI m (gy D (i+1)) (bY L (i+1)) (lN m L D (i+1)))
  (hR:LI m (aQ D (i+2)) (bY L (i+2)) (qh (rL (L.drop (i+2))))):
  ∃L',AM m L i (L.getD (i+1) bB) (L.getD i bB)=some L'/\Dq m D L L' i/\LI m (gy D (i+1)) (bY L' (i+1)) (lN m L' D (i+1))/\LI m (aQ D (i+1)) (bY L' (i+1)) (qh (rL (L'.drop (i+1))))/\L'.drop (i+2)=L.drop (i+2):=by
 have hm:=dT bg
 obtain⟨b,p,c,p',c',d,d',_,_,e1,e2,h1,h2,h3,h4,h5,h6,h7,h8,h9⟩:=Bg h.fit hi
 have g1:=hB i (by omega)
 have g2:=hB (i+1) hi
 rw[e1] at g1
 rw[e2] at g2
 simp only[Int.toNat_natCast] at g1 g2
 have hd:(D.getD i 0).toNat=p:=by rw[h.DK,e1];rfl
 have pD:(D.getD (i+1) 0).toNat=p':=by rw[h.DK,e2];rfl
 have Jo:bY L i=b:=by rw[<-h.left (by omega),e1];rfl
 have r8:bY L (i+1)=c:=by show(L.getD i bB).2.2.1.toNat=c;rw[e1];rfl
 have wi:bY L (i+2)=c':=by show(L.getD (i+1) bB).2.2.1.toNat=c';rw[e2];rfl
 have hr:p'*c'<=64:=Nat.le_trans (Nat.mul_le_mul g2.2.1 g2.2.2) (by decide)
 have Jh:d'.length=c*(p'*c'):=by rw[h7,Nat.mul_assoc]
 obtain⟨_,f1,f2,f3,f4,f5,f6⟩:=s7 hm Jh h9
 have two:Dq m D L ((L.set i ((b:Int),(p:Int),(cr m c (p'*c') d':Int),lD m (b*p) c (cr m c (p'*c') d') d (fS m c (p'*c') d'))).set (i+1) ((cr m c (p'*c') d':Int),(p':Int),(c':Int),jf m c (p'*c') d')) i:=by
  refine adL bg h hB hi (ry h1 (by omega) h4 (by rw[Kl]) (Kk hm _ _ _ _ _)) (ry (by omega) h3 h5 (by rw[f5,Nat.mul_assoc]) f6) (by rw[e1]) (by rw[e1]) rfl (by rw[e2]) (by rw[e2]) (by show cr m c (p'*c') d'<=4;omega) ?_
  rw[hd,pD,Jo,r8,wi,e1,e2]
  intro v hv v' dS x hx j hj
  simp only[KZ,Int.toNat_natCast]
  refine bo.symm ?_
  refine(je fun q hq=>bo.mul (bo.refl _ _) (by rw[zr c' p'];exact NC bg Jh h9 hq (nT dS hj))).trans ?_
  rw[xl]
  refine je fun z hz=>?_
  rw[zr c' p']
  exact bo.mul (R1 (nT hx hv) hz).symm (bo.refl _ _)
 refine⟨_,?_,two,?_⟩
 ·rw[e1,e2]
  simp only[AM,Int.toNat_natCast]
  rw[if_pos hr,List.set_comm _ _ (by omega)]
 ·have hg:=OG (L:=L) (s:=((b:Int),(p:Int),(cr m c (p'*c') d':Int),lD m (b*p) c (cr m c (p'*c') d') d (fS m c (p'*c') d'))) (t:=((cr m c (p'*c') d':Int),(p':Int),(c':Int),jf m c (p'*c') d')) hi
  have O4:((L.set i ((b:Int),(p:Int),(cr m c (p'*c') d':Int),lD m (b*p) c (cr m c (p'*c') d') d (fS m c (p'*c') d'))).set (i+1) ((cr m c (p'*c') d':Int),(p':Int),(c':Int),jf m c (p'*c') d')).drop (i+2)=L.drop (i+2):=by
   rw[List.drop_set_of_lt (by omega),List.drop_set_of_lt (by omega)]
  generalize (L.set i ((b:Int),(p:Int),(cr m c (p'*c') d':Int),lD m (b*p) c (cr m c (p'*c') d') d (fS m c (p'*c') d'))).set (i+1) _=L' at two hg O4⊢
  have Et:L'.getD i bB=((b:Int),(p:Int),(cr m c (p'*c') d':Int),lD m (b*p) c (cr m c (p'*c') d') d (fS m c (p'*c') d')):=by rw[hg,if_neg (by omega),if_pos rfl]
  have Zv:L'.getD (i+1) bB=((cr m c (p'*c') d':Int),(p':Int),(c':Int),jf m c (p'*c') d'):=by rw[hg,if_pos rfl]
  have OS:bY L' (i+1)=cr m c (p'*c') d':=by show(L'.getD i bB).2.2.1.toNat=_;rw[Et];rfl
  rw[OS]
  refine⟨?_,?_,O4⟩
  ·refine GP OJ (NB bg Jh h9) fun a ha=>⟨a,id,id,by rw[r8];exact ha,rfl,fun u hu=>hu,fun u hu j hj=>?_⟩
   obtain⟨u',v,rfl,kz,hv⟩:=CS (N:=gy D i) (d:=(D.getD i 0).toNat) hu
   have k1:=ze (m:=m) (l:=L') (D:=D) (i:=i) (u:=u') (v:=v) (j:=j) hv
   rw[Et,B7 (l:=L') (l':=L) i fun k hk=>by rw[hg,if_neg (by omega),if_neg (by omega)]] at k1
   refine k1.trans ?_
   rw[hd] at hv
   have k2:∀t,t<b->bo m (lL ((b:Int),(p:Int),(cr m c (p'*c') d':Int),lD m (b*p) c (cr m c (p'*c') d') d (fS m c (p'*c') d')) v t j) (sm c (fun q=>bR c d (t*p+v) q*bR (cr m c (p'*c') d') (fS m c (p'*c') d') q j)):=fun t ht=>by
    rw[KZ]
    exact R1 (nT ht hv) hj
   refine(je (n:=b) fun t ht=>bo.mul (bo.refl _ _) (k2 t ht)).trans ?_
   rw[xl,r8]
   refine je fun q hq=>bo.mul ?_ (bo.refl _ _)
   have k3:=ze (m:=m) (l:=L) (D:=D) (i:=i) (u:=u') (v:=v) (j:=q) (by rw[hd];exact hv)
   rw[e1] at k3
   exact k3.symm
  ·have hT:aQ D (i+1)=p'*aQ D (i+2):=by rw[nz (by rw[h.II];exact hi),pD]
   refine GP hR (Yx bg Jh h9) fun a ha=>?_
   obtain⟨v,t,rfl,hv,ht⟩:=CS ha
   rw[wi]
   refine⟨t,fun u=>v*aQ D (i+2)+u,fun t=>v*c'+t,ht,rfl,fun u hu=>by rw[hT];exact nT hv hu,fun u hu x hx=>s0 ?_⟩
   show rL (L'.drop (i+1)) x (v*aQ D (i+2)+u)=sm c' (fun t=>rL (L.drop (i+2)) t u*bR (p'*c') (jf m c (p'*c') d') x (v*c'+t))
   rw[abR two.ch (i:=i+1) (by rw[two.len];exact hi) hu,show bY L' (i+1+1)=c' by show(L'.getD (i+1) bB).2.2.1.toNat=_;rw[Zv];rfl]
   rw[Zv,O4]
   refine kL fun q _=>?_
   rw[KZ,zr c' p',Int.mul_comm]
structure Gq (m:Int) (D:List Int) (l L:List az) (i:Nat):Prop where
 ch:Ch m D L
 len:L.length=l.length
 b4:Bd L
 val:∀u,lN m L D l.length u 0=lN m l D l.length u 0
 li:∀k,k<=i->LI m (gy D k) (bY L k) (lN m L D k)
theorem Y2 {m:Int} {D:List Int} {l:List az} (bg:cm m=true):∀(es:List Nat) (i:Nat) (L:List az),i+es.length=l.length - 1->Gq m D l L i->∃L',dP (wa m) i L es=some L'/\Gq m D l L' (l.length - 1)
 |[],i,L,hi,I=>by
  rw[List.length_nil,Nat.add_zero] at hi
  subst hi
  exact⟨L,rfl,I⟩
 |e::es,i,L,hi,I=>by
  rw[List.length_cons] at hi
  have eC:i+1<L.length:=by rw[I.len];omega
  obtain⟨L',h1,T,h2⟩:=ahs bg I.ch I.b4 eC (I.li i (Nat.le_refl i)) e
  simp only[dP]
  rw[h1]
  have Ps:bY L l.length=1:=by rw[<-I.len];exact I.ch.last
  refine Y2 bg es (i+1) L' (by omega) ⟨T.ch,T.len.trans I.len,T.b4,fun u=>?_,fun k hk=>?_⟩
  ·rw[T.val l.length (by rw[I.len];exact Nat.le_refl _) (by omega) u 0 (by rw[Ps];exact Nat.one_pos)]
   exact I.val u
  ·by_cases kx:k=i+1
   ·subst kx;exact h2
   ·have iM:k<=L.length:=by omega
    rw[T.bd k iM kx]
    exact Mu (I.li k (by omega)) fun u _ b hb=>s0 (T.val k iM kx u b hb)
structure LF (m:Int) (D:List Int) (l L:List az) (i:Nat):Prop where
 f:Gq m D l L (l.length - 1)
 ri:∀k,i<k->k<=l.length->LI m (aQ D k) (bY L k) (qh (rL (L.drop k)))
theorem Xb {m:Int} {D:List Int} {l:List az} (bg:cm m=true):∀(es:List Nat) (j:Nat) (L:List az),j+es.length=l.length - 1->LF m D l L (l.length - 1 - j)->∃L',dP (AL m (l.length - 1)) j L es=some L'/\LF m D l L' 0
 |[],j,L,hj,I=>by
  rw[List.length_nil,Nat.add_zero] at hj
  subst hj
  rw[Nat.sub_self] at I
  exact⟨L,rfl,I⟩
 |e::es,j,L,hj,I=>by
  rw[List.length_cons] at hj
  have e1:l.length - 1 - j=l.length - 1 - (j+1)+1:=by omega
  rw[e1] at I
  have Pc:l.length - 1 - (j+1)+1<l.length:=by omega
  simp only[dP,AL]
  generalize hI:l.length - 1 - (j+1)=i at*
  have eC:i+1<L.length:=by rw[I.f.len];exact Pc
  obtain⟨L',h1,T,h2,h3,h4⟩:=aeG bg I.f.ch I.f.b4 eC (I.f.li (i+1) (by omega)) (I.ri (i+2) (by omega) (by omega))
  rw[h1]
  have Ps:bY L l.length=1:=by rw[<-I.f.len];exact I.f.ch.last
  refine Xb bg es (j+1) L' (by omega) ?_
  rw[hI]
  refine⟨⟨T.ch,T.len.trans I.f.len,T.b4,fun u=>?_,fun k hk=>?_⟩,fun k hk iM=>?_⟩
  ·by_cases hl:l.length=i+1
   ·omega
   ·rw[T.val l.length (by rw[I.f.len];exact Nat.le_refl _) hl u 0 (by rw[Ps];exact Nat.one_pos)]
    exact I.f.val u
  ·by_cases kx:k=i+1
   ·subst kx;exact h2
   ·have iM:k<=L.length:=by rw[I.f.len];omega
    rw[T.bd k iM kx]
    exact Mu (I.f.li k hk) fun u _ b hb=>s0 (T.val k iM kx u b hb)
  ·by_cases kx:k=i+1
   ·subst kx;exact h3
   ·rw[T.bd k (by rw[I.f.len];exact iM) kx]
    have e2:L'.drop k=L.drop k:=by
     have ca:∀M:List az,M.drop k=(M.drop (i+2)).drop (k - (i+2)):=fun M=>by
      rw[List.drop_drop]
      congr 1
      omega
     rw[ca L',ca L,h4]
    rw[e2]
    exact I.ri k (by omega) iM
theorem Ch.of {m:Int} {l:List az} (h:eH (m,l)=true):Ch m (be l) l:=by
 obtain⟨_,⟨h1,h8⟩,_,hb,hs⟩:=t7 h
 refine⟨Bf h,rfl,h1,?_,?_⟩
 ·obtain⟨p,M,e,_⟩:=hs 0 (by omega)
  rw[e]
  rfl
 ·obtain⟨p,M,e,_⟩:=hs (l.length - 1) (by omega)
  have e1:l.length - 1+1=l.length:=by omega
  rw[e,e1,hb]
  rfl
theorem Ch.ok {m:Int} {D:List Int} {L:List az} (h:Ch m D L) (bg:cm m=true) (h8:L.length<=8) (hp:c7 D<=4096):eH (m,L)=true:=by
 have dr:dP (mS m) 0 1 L=some 1:=by
  refine(MY L 0 1 1).2 ⟨fun k hk=>⟨h.fit.1 k hk,?_⟩,?_⟩
  ·cases k with
   |zero=>exact h.fst
   |succ k=>exact h.fit.2 k hk
  ·have:=h.len
   rw[show L.length=L.length - 1+1 by omega]
   exact h.J8.symm
 simp only[eH,bg,dr,h.kZ,Bool.true_and]
 rw[decide_eq_true ⟨h.len,h8⟩,decide_eq_true hp]
 rfl
theorem M1 {m:Int} {l:List az} (h:eH (m,l)=true):cm m=true/\l.length<=8/\c7 (be l)<=4096:=by
 obtain⟨_,h8,hp,_⟩:=t7 h
 refine⟨?_,h8.2,hp⟩
 simp only[eH,Bool.and_eq_true] at h
 exact h.1
theorem afb {m:Int} {l:List az} (h:eH (m,l)=true) (hB:Bd l):
  ∃L,DH m l=(m,L)/\eH (m,L)=true/\be L=be l/\L.length=l.length/\Ch m (be l) L/\(∀n,nA m L n=nA m l n)/\Bd L/\
   ∀k,0<k->k<l.length->(bT m (gy (be l) k) (zV m L (be l) k) (aQ (be l) k)).2.1.length=bY L k:=by
 obtain⟨bg,h8,hp⟩:=M1 h
 have h0:=Ch.of h
 have F0:Gq m (be l) l l 0:=by
  refine⟨h0,rfl,hB,fun _=>rfl,fun k hk=>?_⟩
  have:k=0:=by omega
  subst this
  refine GQ fun t ht=>⟨0,Nat.one_pos,fun b hb=>?_⟩
  have e1:t=0:=by have ht:t<1:=ht;omega
  have e2:b=0:=by have hb:b<1:=hb;omega
  subst e1 e2
  rfl
 obtain⟨L1,r1,F1⟩:=Y2 bg (List.range (l.length - 1)) 0 l (by rw[List.length_range,Nat.zero_add]) F0
 have B1:LF m (be l) l L1 (l.length - 1 - 0):=by
  refine⟨F1,fun k hk iM=>?_⟩
  have:k=L1.length:=by rw[F1.len];omega
  subst this
  rw[F1.ch.last,List.drop_length,<-F1.ch.II,qg]
  refine GQ fun t ht=>⟨0,Nat.one_pos,fun b hb=>?_⟩
  have e1:t=0:=by omega
  have e2:b=0:=by omega
  subst e1 e2
  rfl
 obtain⟨L2,r2,B2⟩:=Xb bg (List.range (l.length - 1)) 0 L1 (by rw[List.length_range,Nat.zero_add]) B1
 have hlen:=B2.f.len
 refine⟨L2,?_,B2.f.ch.ok bg (by omega) hp,B2.f.ch.kZ,hlen,B2.f.ch,fun n=>?_,B2.f.b4,fun k h0 hk=>B2.f.ch.anN bg (by omega) (B2.f.li k (by omega)) (B2.ri k h0 (by omega))⟩
 ·unfold DH
  rw[r1]
  simp only
  rw[r2]
 ·unfold nA
  rw[B2.f.ch.kZ,hlen]
  exact B2.f.val n
end Go.Am
end
section
namespace Go.Am
theorem anM {p:Int} {r c:Nat} {A B:aZ} (bg:cm p=true) (hA:c8 p r c A) (hB:c8 p r c B) (h:∀a,a<r->∀b,b<c->A a b=B a b):(bT p r A c).2.1.length=(bT p r B c).2.1.length:=by
 apply Nat.le_antisymm
 ·exact vd bg hA hB fun x hx=>qq (fun i hi=>vL (mO hi) fun b hb=>by rw[h i hi b hb]) hx
 ·exact vd bg hB hA fun x hx=>qq (fun i hi=>vL (mO hi) fun b hb=>by rw[h i hi b hb]) hx
end Go.Am
end
section
namespace Go.Am
theorem ox {α β:Type} (x:α) (f:α->Option β):(some x).aa f=f x:=by
 have h:∀o:Option α,o=some x->o.aa f=f x:=by intro o h;subst h;rfl
 exact h _ rfl
theorem AX {α:Type} (x y:α):aG true x y=x:=rfl
theorem ahl {m:Int} {L:List az} (F:lc m L) (h:L.length<=8):vp (m,L)<=131072:=by
 show L.length+(L.map vq).sum<=_
 have ca:∀l:List az,(∀e∈l,vq e<=8192)->(l.map vq).sum<=l.length*8192:=by
  intro l
  induction l with
  |nil=>intro _;simp
  |cons a l ih=>
   intro hl
   have h1:=hl a List.mem_cons_self
   have h2:=ih fun e he=>hl e (List.mem_cons_of_mem _ he)
   rw[List.map_cons,List.sum_cons,List.length_cons,Nat.add_mul]
   omega
 have:=ca L fun e he=>by
  obtain⟨k,hk⟩:=List.mem_iff_getElem?.1 he
  have hl:=qZ hk
  obtain⟨b,p,c,d,e1,h1,h2,h3,h4,_⟩:=CJ (F.1 k hl)
  have e2:=getD_some bB hl
  rw[hk] at e2
  injection e2 with e2
  rw[<-e2] at e1
  subst e1
  show d.length<=_
  have q1:b*p<=32*8:=Nat.mul_le_mul h1 h3.2
  have q2:b*p*c<=(32*8)*32:=Nat.mul_le_mul q1 h2
  omega
 have h2:L.length*8192<=8*8192:=Nat.mul_le_mul_right _ h
 omega
theorem Kt {m:Int} {L:List az} (h:eH (m,L)=true):vp (m,L)<=1048576:=by
 have:=ahl (Bf h) (M1 h).2.1
 omega
theorem amq {m:Int} {L:List az} (h:eH (m,L)=true):ql (m,L)=some true:=by
 show(if _ then some (eH (m,L)) else none)=_
 rw[if_pos (Kt h),h]
theorem W6 {m:Int} {L:List az} (h:eH (m,L)=true):vB (m,L)=some (tY L):=by
 simp only[vB]
 rw[if_pos (Kt h),if_pos h]
theorem adE {m:Int} {L:List az} (h:eH (m,L)=true):tN (m,L)=some (jR m L):=by
 simp only[tN,LM]
 rw[if_pos (Kt h),if_pos h]
theorem afa {m:Int} {L:List az} (h:eH (m,L)=true):xA (m,L)=some (DH m L):=by
 simp only[xA,LN]
 rw[if_pos (Kt h),if_pos h]
theorem adF {m:Int} {L L':List az} (hd:be L'=be L) (hv:∀n,n<bJ (be L)->nA m L' n=nA m L n):jR m L'=jR m L:=by
 have hl:L'.length=L.length:=by rw[<-gd,<-gd,hd]
 unfold jR
 rw[hl]
 congr 2
 ·rw[hd]
  refine kJ fun n hn=>?_
  have e1:=MZ (m:=m) (l:=L') n
  rw[hd] at e1
  rw[e1,MZ,hv n hn]
theorem Lo {m:Int} {L:List az} (h:eH (m,L)=true):(jR m L).1.length=L.length/\(jR m L).2.1.length=L.length/\(jR m L).2.2.length=bJ (be L)/\L.length<=8/\bJ (be L)<=4096:=by
 obtain⟨_,⟨_,hp⟩,h8,_⟩:=Nn h
 rw[gd] at h8
 exact⟨f0 _ _,gd L,f0 _ _,h8,hp⟩
theorem aos (t:List Int×List Int×List Int) (h1:t.1.length<=1048576) (h2:t.2.1.length<=1048576) (h3:t.2.2.length<=1048576):Ak (t,t)=some true:=by
 obtain⟨a,b,c⟩:=t
 simp only[Ak,Gz]
 rw[JU a h1]
 simp only[ox,AX]
 rw[JU b h2]
 simp only[ox,AX]
 rw[JU c h3]
 rfl
theorem FD {n k:Nat} (h:k<n):(dL n).getD k 0=(k:Int):=by
 unfold dL
 rw[List.getD_eq_getElem?_getD,oV _ h]
 rfl
theorem aoW {l:List Int} (h:∀k,k+1<l.length->l.getD k 0<=l.getD (k+1) 0):∀k,k<l.length->n6 k l=l
 |0,_=>rfl
 |k+1,hk=>by
  unfold n6
  rw[if_neg (by have:=h k hk;omega)]
theorem acY {l:List Int} (h:∀k,k+1<l.length->l.getD k 0<=l.getD (k+1) 0):∀i,i<=l.length->fj l i=l
 |0,_=>rfl
 |i+1,hi=>by
  show n6 i (fj l i)=l
  rw[acY h i (by omega),aoW h i (by omega)]
theorem apa (n:Nat):fj (dL n) n=dL n:=by
 have hl:(dL n).length=n:=f0 _ _
 have:=acY (l:=dL n) (fun k hk=>by rw[hl] at hk;rw[FD (by omega),FD hk];omega) n (by rw[hl];exact Nat.le_refl n)
 exact this
theorem aev {D:List Int} (hl:D.length<=12) (hd:∀x∈D,1<=x/\x<=8):ov (dL D.length) D=true:=by
 have hs:(dL D.length).length=D.length:=f0 _ _
 simp only[ov,Bool.and_eq_true,decide_eq_true_eq]
 refine⟨by omega,hs,fun j hj=>⟨?_,hd _ (mh (by omega)),?_⟩⟩
 ·rw[FD (by omega)];omega
 ·rw[FD (by omega)]
  intro hm
  obtain⟨k,hk,e⟩:=List.mem_iff_getElem.1 hm
  rw[List.length_take,hs] at hk
  rw[List.getElem_take] at e
  have e2:=FD (n:=D.length) (k:=k) (by omega)
  rw[List.getD_eq_getElem?_getD,List.getElem?_eq_getElem (by omega)] at e2
  have e2:(dL D.length)[k]'(by omega)=(k:Int):=e2
  rw[e2] at e
  omega
theorem an1 {p:Int} (h:cm p=true):ju (2,p,0)=true:=by
 have:ju (2,p,0)=(cm p&&decide ((0:Int)=0)):=rfl
 rw[this,h]
 rfl
theorem apM {p:Int} {L D A:List Int} (hp:cm p=true) (te:ov L D=true) (hP:bJ D<=4096) (hA:A.length=bJ D) (ha:eG p A):jQ (2,p,0) (L,D,A)=true:=by
 have hd:=Ds te
 have hI:=vb (D:=D) fun x hx=>(hd x hx).1
 have ht:iW L D=c7 D:=if_pos ⟨te,by omega⟩
 simp only[jQ,Bool.and_eq_true,decide_eq_true_eq]
 refine⟨an1 hp,by rw[ht,hI];omega,?_,?_⟩
 ·rw[ht,hI,hA]
  show _=(bJ D:Int)*1
  omega
 ·refine List.all_eq_true.2 fun x hx=>decide_eq_true ?_
  have h1:=ha x hx
  have h2:eK (2,p,0)=p - 1:=rfl
  rw[h2]
  exact⟨h1.1,by have:=h1.2;omega⟩
theorem Xh {p:Int} {A:List Int} {off:Nat->Nat}:∀n,n<=A.length->(∀k,k<n->off k=k)->kt (2,p,0) A off n=A.take n
 |0,_,_=>rfl
 |n+1,hn,h=>by
  unfold kt
  rw[Xh n (by omega) fun k hk=>h k (by omega),h n (by omega),show cd (2,p,0)=1 from rfl,Nat.mul_one]
  unfold gE
  have bk:n<A.length:=by omega
  have e1:A.take (n+1)=A.take n++[A[n]]:=by rw[List.take_add_one,List.getElem?_eq_getElem bk];rfl
  rw[e1,List.drop_eq_getElem_cons bk]
  rfl
theorem apk {p:Int} {D A:List Int} (ht:jQ (2,p,0) (dL D.length,D,A)=true):rA (2,p,0) (dL D.length,D,A)=(dL D.length,D,A):=by
 have te:=(Ln ht).1
 have hs:(dL D.length).length=D.length:=f0 _ _
 have hS:fj (dL D.length) (dL D.length).length=dL D.length:=by rw[hs];exact apa _
 have I:=gY.mk' te (S:=dL D.length) hS.symm
 obtain⟨_,_,_,_,hA,hG,_⟩:=VX ht
 have ZO:dG (dL D.length) D (dL D.length)=D:=by
  unfold dG
  rw[hs]
  refine Nv (f0 _ _) fun k hk=>?_
  rw[f0] at hk
  rw[List.getD_eq_getElem?_getD,oV _ hk]
  show D.getD (dc (dL D.length) ((dL D.length).getD k 0)) 0=_
  rw[w7 I.nL (by rw[hs];exact hk)]
 have BB:∀k,k<bJ D->jr (dL D.length) D (dL D.length) k=k:=fun k hk=>by
  rw[<-I.off k]
  have e:u6 (dL D.length) D (dL D.length) k=di D k:=by
   unfold u6 di
   refine kJ fun q hq=>?_
   rw[ZO,w7 I.nL (by rw[hs];exact hq)]
  rw[e,R9 hG hk D.length (Nat.le_refl _),qg,Nat.div_one]
 have e:rA (2,p,0) (dL D.length,D,A)=u7 (2,p,0) (dL D.length,D,A) (dL D.length):=by
  unfold rA
  rw[if_pos ht]
  show u7 _ _ (fj (dL D.length) (dL D.length).length)=_
  rw[hS]
 rw[e]
 unfold u7
 have Ji:A.length=bJ D:=by rw[hA,show cd (2,p,0)=1 from rfl,Nat.mul_one]
 show(dL D.length,dG (dL D.length) D (dL D.length),kt (2,p,0) A (jr (dL D.length) D (dL D.length)) (bJ (dG (dL D.length) D (dL D.length))))=_
 rw[ZO,Xh _ (by omega) BB,<-Ji,List.take_length]
structure DC (p:Int) (L:List az):Prop where
 ok:eH (p,L)=true
 b4:Bd L
 n4:L.length<=4
theorem DC.pr {p:Int} {L:List az} (h:DC p L):cm p=true:=(M1 h.ok).1
theorem DC.d3 {p:Int} {L:List az} (h:DC p L):∀x∈be L,1<=x/\x<=3:=fun x hx=>by
 obtain⟨hG,_⟩:=Nn h.ok
 obtain⟨k,hk,e⟩:=List.mem_iff_getElem.1 hx
 have e2:(be L).getD k 0=x:=by rw[List.getD_eq_getElem?_getD,List.getElem?_eq_getElem hk];exact e
 rw[yd] at e2
 rw[gd] at hk
 have:=(h.b4 k hk).2.1
 have:=(hG.2 x hx).1
 omega
theorem DC.len {p:Int} {L:List az} (h:DC p L):1<=L.length:=(Ch.of h.ok).len
theorem adR {p:Int} (hp:cm p=true) (L:List az) (n:Nat):fy p (nA p L n):=zd (dT hp) _ _ _ _ _
theorem adG {m:Int} {L:List az}:jR m L=(dL (be L).length,be L,cj (bJ (be L)) (nA m L)):=by
 unfold jR
 rw[gd]
 congr 2
 exact kJ fun n _=>MZ n
theorem acf {p:Int} {n:Nat} {f:Nat->Int} (h:∀k,fy p (f k)):eG p (cj n f):=fun x hx=>by
 unfold cj at hx
 obtain⟨k,_,rfl⟩:=List.mem_map.1 hx
 exact h k
theorem DC.ten {p:Int} {L:List az} (h:DC p L):jQ (2,p,0) (jR p L)=true:=by
 have n4:=h.n4
 obtain⟨_,_,_,_,hP⟩:=Lo h.ok
 rw[adG]
 refine apM h.pr (aev (by rw[gd];omega) fun x hx=>?_) hP (f0 _ _) (acf fun k=>adR h.pr L k)
 have:=h.d3 x hx
 omega
theorem DC.da {p:Int} {L:List az} (h:DC p L):mL p (be L) (cj (bJ (be L)) (nA p L)):=by
 have n4:=h.n4
 have l1:=h.len
 obtain⟨_,_,_,_,hP⟩:=Lo h.ok
 refine⟨h.pr,by rw[gd];exact l1,by rw[gd];omega,fun x hx=>?_,hP,f0 _ _,acf fun k=>adR h.pr L k⟩
 have:=h.d3 x hx
 omega
theorem DC.iu {p:Int} {L:List az} (h:DC p L) {i:Nat} (hi:i<=L.length):
  (bT p (gy (be L) i) (kM (be L) (cj (bJ (be L)) (nA p L)) i) (aQ (be L) i)).2.1.length=(bT p (gy (be L) i) (zV p L (be L) i) (aQ (be L) i)).2.1.length:=by
 refine anM h.pr (V4 h.da (by rw[gd];exact hi)) (fun _ _ _ _=>zd (dT h.pr) _ _ _ _ _) fun u hu w hw=>?_
 have hn:u*aQ (be L) i+w<bJ (be L):=by
  rw[<-head_tail (be L) i (by rw[gd];exact hi)]
  exact nT hu hw
 unfold kM bR
 rw[List.getD_eq_getElem?_getD,oV _ hn]
 rfl
theorem DC.aeP {p:Int} {L:List az} (h:DC p L):∃L',xz (p,jR p L)=some ((p,L'),true)/\eH (p,L')=true/\be L'=be L/\jR p L'=jR p L/\
  ∀k,k<L.length - 1->(bT p (gy (be L) (k+1)) (zV p L (be L) (k+1)) (aQ (be L) (k+1))).2.1.length=((L'.getD k bB).2.2.1).toNat:=by
 have n4:=h.n4
 have l1:=h.len
 have hC:=Ch.of h.ok
 have hd:(be L).length=L.length:=gd L
 obtain⟨t1,t2,t3,t8,hP⟩:=Lo h.ok
 have hr:∀i,i<(be L).length - 1->(bT p (gy (be L) (i+1)) (kM (be L) (cj (bJ (be L)) (nA p L)) (i+1)) (aQ (be L) (i+1))).2.1.length<=4:=fun i hi=>by
  rw[h.iu (by omega)]
  exact Nat.le_trans (hC.vd h.pr (by omega) _) (h.b4 i (by omega)).2.2
 obtain⟨L',e1,e2,e3,e4,e5⟩:=aoe h.da (fun x hx=>(h.d3 x hx).2) (by omega) hr
 refine⟨L',?_,e2,e3,adF e3 fun n hn=>?_,fun k hk=>?_⟩
 ·simp only[xz,LK]
  rw[if_pos ⟨by omega,by omega,by omega⟩]
  unfold M3
  simp only
  rw[if_pos ⟨h.ten,by omega,by omega⟩]
  have ht:=h.ten
  rw[adG] at ht⊢
  rw[apk ht,e1]
 ·rw[e4 n hn,List.getD_eq_getElem?_getD,oV _ hn]
  rfl
 ·rw[<-h.iu (by omega)]
  exact e5 k (by omega)
theorem W7 {L:List az} {k:Nat} (hk:k<L.length - 1):(tY L).getD k 0=(L.getD k bB).2.2.1:=by
 unfold tY
 rw[List.getD_eq_getElem?_getD,List.getElem?_map,List.getElem?_take_of_lt hk,getD_some bB (show k<L.length by omega)]
 rfl
theorem Ii (L:List az):(tY L).length=L.length - 1:=by
 unfold tY
 rw[List.length_map,List.length_take]
 omega
theorem afj (l:List Int) (n:Int) (h:l.length<=1048576) (hn:0<=n):∃D,Ap (l,n)=some D/\(1<=D.length/\D.length<=4)/\∀v∈D,1<=v/\v<=3:=by
 obtain⟨⟨a,b,c⟩,e,hc⟩:=ME l n h hn
 obtain⟨D,⟨a',b',c'⟩,e2,_,h1,h2⟩:=ao9 _ hc
 refine⟨D,?_,h1,h2⟩
 simp only[Ap,GC]
 rw[e]
 simp only[ox]
 rw[e2]
 rfl
theorem aeQ (l:List Int) (n p:Int) (D:List Int) (h:l.length<=1048576) (hn:0<=n) (hp:cm p=true) (hl:1<=D.length/\D.length<=4) (hd:∀v∈D,1<=v/\v<=3):
  ∃L,Ao (l,n,p,D)=some (p,L)/\DC p L/\be L=D:=by
 obtain⟨⟨a,b,c⟩,e,hc⟩:=ME l n h hn
 obtain⟨L,⟨a',b',c'⟩,e2,_,I⟩:=aeO _ p D hc hp hl hd
 obtain⟨h1,h2⟩:=I.ok hp hl hd
 refine⟨L,?_,⟨h1,fun k hk=>?_,by rw[<-gd,h2];exact hl.2⟩,h2⟩
 ·simp only[Ao,GA]
  rw[e]
  simp only[ox]
  rw[e2]
  rfl
 ·have hF:=Bf h1
  have hb:∀k,k<L.length->(L.getD k bB).2.2.1.toNat<=4:=fun k hk=>by
   have:=I.b4 (L.getD k bB) (List.mem_of_getElem? (getD_some bB hk))
   omega
  refine⟨?_,?_,hb k hk⟩
  ·have hC:=Ch.of h1
   cases k with
   |zero=>rw[hC.fst];decide
   |succ k=>rw[hF.2 k hk];exact hb k (by omega)
  ·rw[<-yd,h2]
   have:=hd _ (mh (l:=D) (i:=k) (by rw[<-h2,gd];exact hk))
   omega
end Go.Am
end
