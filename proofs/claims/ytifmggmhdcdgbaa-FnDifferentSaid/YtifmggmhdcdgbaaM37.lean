/- M48, M49, M50, M51, M52, M12, M20, M21, M53, M41, M43, M10, M44, M57, M56, M37: parts of the proof. No condition. -/
import Derived.Test.YtifmggmhdcdgbaaM38
set_option linter.unusedVariables false
set_option linter.unusedSimpArgs false
section
namespace Go.Am
abbrev Wd:=List Int
def oq (p:Int) (n k:Nat) (D:List Int):Nat:=(qx (p,(k:Int),(n:Int),D)).2.1.length
def r8 (p:Int) (n:Nat) (ms:List cT) (s:List Int) (S:List Wd×List Int) (w:Wd):Bool:=decide (oq p n (S.1.length+1) (S.2++cz p n ms s w)=S.1.length+1)
def gG (t:Nat) (w:Wd):List Wd:=(List.range t).map fun(x:Nat)=>w++[(x:Int)]
def kS (p:Int) (n:Nat) (ms:List cT) (s:List Int):Nat->List Wd×List Int->List Wd->List Wd×List Int
 |0,S,_=>S
 |_+1,S,[]=>S
 |f+1,S,w::q=>if r8 p n ms s S w=true then kS p n ms s f (S.1++[w],S.2++cz p n ms s w) (q++gG ms.length w) else kS p n ms s f S q
def jS (x:bV):List Wd×List Int:=kS x.1 x.2.1.toNat x.2.2.2.1 x.2.2.1 128 ([],[]) [[]]
def xc (x:bV):Option (List (List Int)×Int×Int×List Int):=if t7 x=true then some ((jS x).1,((jS x).1.length:Int),x.2.1,(jS x).2) else none
def zK:bV->Option (List (List Int)×Int×Int×List Int):=xc
def zS:bV->Option (List (List Int)×Int×Int×List Int):=xc
def GN:au:=[(.agg,[.int .i64,.int .i64,.list [.int .i64],.list [.int .i64,.int .i64,.list [.int .i64]],.list [.int .i64]])]
def Sr:au:=[(.one,[.list [.list [.int .i64]]]),(.agg,[.int .i64,.int .i64,.list [.int .i64]])]
def akh:be:=[[some .aA]]
def FY (NN:Nat):(Int×(Int×((List Int)×((List (Int×(Int×(List Int))))×(List Int)))))->(Option ((List (List Int))×(Int×(Int×(List Int))))):=
 (fun((i0,i1,l2,l3,l4):(Int×(Int×((List Int)×((List (Int×(Int×(List Int))))×(List Int))))))=>
 (vz ((0:Int),i1)).aa (fun(i5,i6,l7)=>
 bO ((ae 0 0 (U (([]:List (List Int))))).aa (fun _=>
 (ae 0 1 (U ((([]:List Int)::([]:List (List Int)))))).aa (fun _=>
 (ae 0 0 (U (([]:List Int)))).aa (fun _=>
 (ae 0 (U l7) (U l7)).aa (fun _=>
 bg NN (fun(((i8,i9,gm,eU,dW),(di,c9),(lA,dj),ct,gU,iG,eo):((Int×(Int×((List Int)×((List (Int×(Int×(List Int))))×(List Int)))))×((Int×Int)×((Int×Int)×((List Int)×((List Int)×((List (List Int))×(List (List Int)))))))))=>
 aJ (bC (0:Int) (aO (U eo)))
 ((eB (0:Int) (U eo)).aa (fun k21=>
 (dJ eo (aL 0 k21)).aa (fun cQ=>
 (ae 0 (U eo) (U eo)).aa (fun _=>
 (vi (1:Int) (aO (U eo)) (U eo)).aa (fun(JM,Bn)=>
 (dg gU 0 (U gU)).aa (fun dS=>
 (ko dS).aa (fun eV=>
 (tR ((i8,i9,gm,eU,dW),cQ)).aa (fun uV=>
 (ae 0 (U eV) (U eV)).aa (fun _=>
 (dg uV 0 (U uV)).aa (fun mh=>
 (ir (aL (U eV) (U mh)) 8).aa (fun _=>
 (dg (bU eV mh) 0 (aL (U eV) (U mh))).aa (fun gV=>
 (zL (i8,aY .i64 lA 1,i9,gV)).aa (fun((lB,j7,dn),dv)=>
 aJ (bC (aO (U dv)) (aY .i64 lA 1))
 ((ae 0 (U iG) (U iG)).aa (fun _=>
 (ae 0 Bn (U (tI eo JM Bn))).aa (fun _=>
 (ae 0 (U ct) (U ct)).aa (fun _=>
 (ae 0 (U gU) (U gU)).aa (fun _=>
 some (Sum.inl ((i8,i9,gm,eU,dW),(di,c9),(lA,dj),ct,gU,iG,tI eo JM Bn)))))))
 ((ae 0 (U iG) (U iG)).aa (fun _=>
 (ae 0 1 (U ((cQ::([]:List (List Int)))))).aa (fun _=>
 (ir (aL (U iG) (U ((cQ::([]:List (List Int)))))) 24).aa (fun _=>
 (ae 0 (aL (U iG) (U ((cQ::([]:List (List Int)))))) (U (bU iG ((cQ::([]:List (List Int))))))).aa (fun _=>
 (ae 0 Bn (U (tI eo JM Bn))).aa (fun _=>
 (ae 0 (U ct) (U ct)).aa (fun _=>
 (ae 0 (aL (U eV) (U mh)) (U (bU eV mh))).aa (fun _=>
 bg NN (fun(((fb,jp,mR),(mS,ky,iH,fk,kF),(ii,iB),(jO,iC),ju,rE,nU,jd):(((List Int)×(Int×Int))×((Int×(Int×((List Int)×((List (Int×(Int×(List Int))))×(List Int)))))×((Int×Int)×((Int×Int)×((List Int)×((List Int)×((List (List Int))×(List (List Int))))))))))=>
 aJ (bC mR jp)
 ((ko fb).aa (fun nV=>
 (ae 0 (U nV) (U nV)).aa (fun _=>
 (dg ((mR::([]:List Int))) 0 1).aa (fun qh=>
 (ir (aL (U nV) (U qh)) 8).aa (fun _=>
 (dq (bU nV qh) (aL (U nV) (U qh))).aa (fun rF=>
 (ae 0 (U jd) (U jd)).aa (fun _=>
 (ae 0 1 (U ((rF::([]:List (List Int)))))).aa (fun _=>
 (ir (aL (U jd) (U ((rF::([]:List (List Int)))))) 24).aa (fun _=>
 (ae 0 (U nU) (U nU)).aa (fun _=>
 (ae 0 (aL (U jd) (U ((rF::([]:List (List Int)))))) (U (bU jd ((rF::([]:List (List Int))))))).aa (fun _=>
 (ae 0 (U ju) (U ju)).aa (fun _=>
 (ae 0 (U rE) (U rE)).aa (fun _=>
 some (Sum.inl ((fb,jp,aY .i64 mR 1),(mS,ky,iH,fk,kF),(ii,iB),(jO,iC),ju,rE,nU,bU jd ((rF::([]:List (List Int)))))))))))))))))))
 (((ae 0 (U nU) (U nU)).aa (fun _=>
 (ae 0 (U jd) (U jd)).aa (fun _=>
 (ae 0 (U ju) (U ju)).aa (fun _=>
 (ae 0 (U rE) (U rE)).aa (fun _=>
 some (Sum.inl ((mS,ky,iH,fk,kF),(ii,iB),(jO,iC),ju,rE,nU,jd))))))).aa (fun lJ=>
 some (Sum.inr lJ))))
 ((cQ,aO (U eU),(0:Int)),(i8,i9,gm,eU,dW),(di,c9),(aY .i64 lA 1,i9),ct,bU eV mh,bU iG ((cQ::([]:List (List Int)))),tI eo JM Bn))))))))))))))))))))))
 (((ae 0 (U iG) (U iG)).aa (fun _=>
 (ae 0 (U ct) (U ct)).aa (fun _=>
 (ae 0 (U gU) (U gU)).aa (fun _=>
 some (Sum.inl ((di,c9),(lA,dj),ct,gU,iG)))))).aa (fun eW=>
 some (Sum.inr eW))))
 ((i0,i1,l2,l3,l4),((0:Int),(0:Int)),(i5,i6),([]:List Int),l7,([]:List (List Int)),(([]:List Int)::([]:List (List Int)))))))))
 (fun((El,pZ),(me,nQ),jv,BM,kG)=>
 (dg kG 0 (U kG)).aa (fun mn=>
 (dg BM 0 (U BM)).aa (fun wW=>
 some (mn,me,nQ,wW))))))
structure BI (p:Int) (n t:Nat) (S:List Wd×List Int) (q:List Wd):Prop where
 dl:S.2.length=S.1.length*n
 dp:dG p S.2
 kn:S.1.length<=n
 qo:∀w∈q,jT t w/\w.length<=S.1.length
 wo:∀w∈S.1,jT t w/\w.length<=n
section
variable {p:Int} {n:Nat} {s b:List Int} {ms:List cT}
theorem Ev (t:Nat) (w:Wd):(gG t w).length=t:=by simp[gG]
theorem Vd (m:Nat) (S:List Wd×List Int):kS p n ms s m S []=S:=by cases m<;>rfl
theorem Lo {m:Nat} {S:List Wd×List Int} {w:Wd} {q:List Wd} (h:r8 p n ms s S w=true):kS p n ms s (m+1) S (w::q)=kS p n ms s m (S.1++[w],S.2++cz p n ms s w) (q++gG ms.length w):=if_pos h
theorem Ln {m:Nat} {S:List Wd×List Int} {w:Wd} {q:List Wd} (h:¬r8 p n ms s S w=true):kS p n ms s (m+1) S (w::q)=kS p n ms s m S q:=if_neg h
theorem EK (H:jE p n s ms b) {S:List Wd×List Int} {w:Wd} {q:List Wd} (h:BI p n ms.length S (w::q)):
  Cb (p,((S.1.length+1:Nat):Int),(n:Int),S.2++cz p n ms s w)/\oq p n (S.1.length+1) (S.2++cz p n ms s w)<=n/\(S.2++cz p n ms s w).length=(S.1.length+1)*n/\dG p (S.2++cz p n ms s w)/\oq p n (S.1.length+1) (S.2++cz p n ms s w)<=S.1.length+1:=by
 have hn:=H.hn
 obtain⟨r1,r2⟩:=u7 (n:=n) (ms:=ms) H.p w s H.al H.ap
 have hl:(S.2++cz p n ms s w).length=(S.1.length+1)*n:=by rw[List.length_append,r1,h.dl,Nat.add_mul,Nat.one_mul]
 have hp:dG p (S.2++cz p n ms s w):=fun x hx=>by
  rcases List.mem_append.1 hx with h1|h1
  ·exact h.dp x h1
  ·exact r2 x h1
 have hk:=h.kn
 have hb:(S.1.length+1)*n<=25*24:=Nat.mul_le_mul (by omega) hn
 have I:=tD (r:=S.1.length+1) (c:=n) H.p (tB hl hp) n
 refine⟨⟨H.p,⟨⟨by dsimp only;omega,by dsimp only;omega⟩,⟨by dsimp only;omega,by dsimp only;omega⟩,by dsimp only;rw[hl];push_cast;rfl,by dsimp only;omega⟩,hp⟩,?_,hl,hp,?_⟩
 ·unfold oq qx
  simp only[Int.toNat_natCast]
  exact I.lj
 ·unfold oq qx
  simp only[Int.toNat_natCast]
  exact I.l
theorem BI.no {S:List Wd×List Int} {w:Wd} {q:List Wd} (h:BI p n ms.length S (w::q)):BI p n ms.length S q:=⟨h.dl,h.dp,h.kn,fun v hv=>h.qo v (by simp[hv]),h.wo⟩
theorem BI.zE (H:jE p n s ms b) {S:List Wd×List Int} {w:Wd} {q:List Wd} (h:BI p n ms.length S (w::q)) (ha:r8 p n ms s S w=true):
  BI p n ms.length (S.1++[w],S.2++cz p n ms s w) (q++gG ms.length w)/\S.1.length+1<=n:=by
 obtain⟨m1,m2,m3,m4,_⟩:=EK H h
 have hk:=of_decide_eq_true ha
 have hw:=h.qo w (by simp)
 have kw:S.1.length+1<=n:=by omega
 refine⟨⟨by dsimp only;rw[m3,List.length_append];rfl,m4,by dsimp only;rw[List.length_append];exact kw,?_,?_⟩,kw⟩
 ·intro v hv
  dsimp only
  rw[List.length_append,List.length_singleton]
  rcases List.mem_append.1 hv with h1|h1
  ·have:=h.qo v (by simp[h1])
   exact⟨this.1,by omega⟩
  ·obtain⟨x,hx,rfl⟩:=List.mem_map.1 h1
   have hx:=List.mem_range.1 hx
   refine⟨fun c hc=>?_,by rw[List.length_append,List.length_singleton];omega⟩
   rcases List.mem_append.1 hc with h2|h2
   ·exact hw.1 c h2
   ·rw[List.mem_singleton] at h2;subst h2;exact⟨by omega,by omega⟩
 ·intro v hv
  rcases List.mem_append.1 hv with h1|h1
  ·exact h.wo v h1
  ·rw[List.mem_singleton] at h1;subst h1;exact⟨hw.1,by omega⟩
theorem Rq {k t m q:Nat} (hk:k+1<=n) (h:(n - k)*t+(q+1)<=m+1):(n - (k+1))*t+(q+t)<=m:=by
 have e:n - k=n - (k+1)+1:=by omega
 rw[e,Nat.add_mul,Nat.one_mul] at h
 omega
end
theorem acu {α:Type} {l:List α} {n:Nat} (h:n=l.length):dq l n=some l:=by subst h;unfold dq;rw[if_pos (Nat.le_refl _),List.take_length]
theorem Zq (t:Nat) (w:Wd):gG t w++[w++[(t:Int)]]=gG (t+1) w:=by unfold gG;rw[List.range_succ,List.map_append];rfl
theorem anX {α:Type} (w:α) (q:List α):tI (w::q) 1 q.length=q:=by unfold tI;rw[List.drop_succ_cons,List.drop_zero,List.take_length]
section
variable {p:Int} {n:Nat} {s b:List Int} {ms:List cT}
theorem afA (H:jE p n s ms b):FY aB (p,(n:Int),s,ms,b)=xc (p,(n:Int),s,ms,b):=by
 have hp:=H.p
 have hn:=H.hn
 have OS:=H.l4
 have DX:dK=140737488355328:=rfl
 unfold xc
 rw[if_pos (t8 H)]
 simp only[FY]
 rw[show vz ((0:Int),(n:Int))=some ((0:Int),(n:Int),ao 0 n fun _ _=>0) from Rs (r:=0) (by omega) (by omega) (by omega)]
 simp only[ak,wa,bQ]
 rw[show ao 0 n (fun _ _=>0)=[] by unfold ao;rw[Nat.zero_mul];rfl,show ae 0 1 (U [([]:List Int)])=some () from rfl]
 simp only[ak]
 obtain⟨R,hR⟩:∃R,jS (p,(n:Int),s,ms,b)=R:=⟨_,rfl⟩
 have NV:kS p n ms s 128 ([],[]) [[]]=R:=by rw[<-hR];unfold jS;simp only[Int.toNat_natCast]
 rw[hR]
 rw[J9 (r:=Sum.inl ((0,0),((R.1.length:Int),(n:Int)),[],R.2,R.1))
  (fun m x=>∃(S:List Wd×List Int) (q:List Wd),x=((p,(n:Int),s,ms,b),((0:Int),(0:Int)),((S.1.length:Int),(n:Int)),([]:List Int),S.2,S.1,q)/\BI p n ms.length S q/\(n - S.1.length)*ms.length+q.length<=m/\m<=128/\kS p n ms s m S q=R) ?a1 128 _ ?a0 aB (cN (by omega))]
 ·simp only[bO,Option.bind,il,Option.aa]
 case a0=>
  exact⟨([],[]),[[]],rfl,⟨by simp,fun x hx=>absurd hx (by simp),Nat.zero_le _,fun w hw=>by rw[List.mem_singleton] at hw;subst hw;exact⟨fun c hc=>absurd hc (by simp),Nat.zero_le _⟩,fun w hw=>absurd hw (by simp)⟩,by
   have:n*ms.length<=24*4:=Nat.mul_le_mul hn OS
   simp only[List.length_nil,List.length_singleton,Nat.sub_zero];omega,Nat.le_refl _,NV⟩
 case a1=>
  rintro m x ⟨S,q,rfl,hB,iw,hm,bq⟩
  dsimp only
  cases q with
  |nil=>
   left
   rw[Vd] at bq
   subst bq
   rw[aN (dX (by unfold aO U;simp))]
   try simp only[bQ,wa,ak]
  |cons w q=>
   right
   obtain⟨m,rfl⟩:∃k,m=k+1:=⟨m - 1,by simp only[List.length_cons] at iw;omega⟩
   simp only[List.length_cons] at iw
   have hw:=hB.qo w (by simp)
   have kw:=hB.kn
   obtain⟨k1,k2,k3,k4,k5⟩:=EK H hB
   have hb:S.1.length*n<=24*24:=Nat.mul_le_mul (by omega) hn
   have D5:=(u7 (n:=n) (ms:=ms) hp w s H.al H.ap).1
   rw[aQ (dZ (by unfold aO U;simp only[List.length_cons];omega))]
   rw[show eB (0:Int) (U (w::q))=some 0 from vT (i:=0) (by unfold U;simp)]
   simp only[ak,mF]
   rw[show dJ (w::q) 0=some w from rfl]
   simp only[ak,bQ]
   rw[show vi (1:Int) (aO (U (w::q))) (U (w::q))=some (1,q.length) by
    unfold vi aO U
    rw[if_pos ⟨by decide,by simp only[List.length_cons];omega,Int.le_refl _⟩]
    congr 2
    simp only[List.length_cons];omega]
   simp only[ak,il]
   rw[show ko S.2=some S.2 from if_pos (by rw[hB.dl];omega)]
   simp only[ak,bQ]
   rw[show tR ((p,(n:Int),s,ms,b),w)=some (cz p n ms s w) by
    simp only[tR,oC]
    rw[if_pos ⟨t8 H,hw.1,show w.length<=1048576 by omega⟩]
    simp only[Int.toNat_natCast]]
   simp only[ak,il]
   rw[jH (by simp only[aL,U];rw[hB.dl,D5];omega)]
   simp only[ak]
   rw[show dg (bU S.2 (cz p n ms s w)) 0 (aL (U S.2) (U (cz p n ms s w)))=some (S.2++cz p n ms s w) from CL (by simp[bU,aL,U])]
   simp only[ak]
   rw[jl (by omega) (by omega),show(S.1.length:Int)+1=((S.1.length+1:Nat):Int) by push_cast;rfl]
   rw[show zL (p,((S.1.length+1:Nat):Int),(n:Int),S.2++cz p n ms s w)=_ from if_pos k1]
   simp only[ak,anX,bQ,wa]
   rw[show ae 0 q.length (U q)=some () from bQ _]
   rw[show aO (U (qx (p,((S.1.length+1:Nat):Int),(n:Int),S.2++cz p n ms s w)).2.1)=((oq p n (S.1.length+1) (S.2++cz p n ms s w):Nat):Int) from rfl]
   by_cases ha:r8 p n ms s S w=true
   ·have hk:=of_decide_eq_true ha
    obtain⟨It,Ow⟩:=BI.zE H hB ha
    rw[Lo ha] at bq
    rw[aN (dX (by omega))]
    rw[show ae 0 1 (U [w])=some () from rfl]
    simp only[ak,Au]
    rw[jH (by simp only[aL,U,List.length_singleton];omega)]
    simp only[ak]
    rw[show ae 0 (aL (U S.2) (U (cz p n ms s w))) (U (bU S.2 (cz p n ms s w)))=some () from Av (by simp[bU,aL,U])]
    simp only[ak]
    have OE:=Rq (q:=q.length) Ow iw
    refine⟨m,((p,(n:Int),s,ms,b),((0:Int),(0:Int)),(((S.1++[w]).length:Int),(n:Int)),([]:List Int),S.2++cz p n ms s w,S.1++[w],q++gG ms.length w),by omega,?_,_,_,rfl,It,?_,by omega,bq⟩
    ·refine fc (fun x=>((w,(ms.length:Int),(x:Int)),(p,(n:Int),s,ms,b),((0:Int),(0:Int)),(((S.1.length+1:Nat):Int),(n:Int)),([]:List Int),S.2++cz p n ms s w,S.1++[w],q++gG x w)) ms.length ?_ ?_ ?_ (cN (by omega))
     ·intro x hx
      dsimp only
      rw[aQ (dZ (by omega))]
      rw[show ko w=some w from if_pos (by omega)]
      simp only[ak,bQ]
      rw[show dg [(x:Int)] 0 1=some [(x:Int)] from rfl]
      simp only[ak]
      rw[jH (by simp only[aL,U,List.length_singleton];omega)]
      simp only[ak]
      rw[show dq (bU w [(x:Int)]) (aL (U w) (U [(x:Int)]))=some (w++[(x:Int)]) from acu (by simp[bU,aL,U])]
      simp only[ak]
      rw[show ae 0 1 (U [w++[(x:Int)]])=some () from rfl]
      simp only[ak,Au,wa]
      have IP:q.length<=128:=by
       have:=Nat.le_add_left (q.length+1) ((n - S.1.length)*ms.length)
       omega
      rw[jH (by simp only[aL,U,List.length_singleton,List.length_append,Ev];omega)]
      simp only[ak]
      rw[jl (by omega) (by omega)]
      rw[show bU (q++gG x w) [w++[(x:Int)]]=q++gG (x+1) w by unfold bU;rw[List.append_assoc,Zq]]
      rfl
     ·dsimp only
      rw[aN (dX (by omega))]
      try simp only[ak,bQ,wa]
      rw[List.length_append,List.length_singleton]
     ·simp[bU,gG,aO,U]
    ·dsimp only
     rw[List.length_append,List.length_append,List.length_singleton,Ev]
     exact OE
   ·have hk:¬(oq p n (S.1.length+1) (S.2++cz p n ms s w)=S.1.length+1):=fun h=>ha (decide_eq_true h)
    rw[Ln ha] at bq
    rw[aQ (dZ (by omega))]
    simp only[ak]
    exact⟨m,_,by omega,rfl,S,q,rfl,hB.no,by omega,by omega,bq⟩
end
theorem aeL (x:bV) (z:List (List Int)×Int×Int×List Int) (h:zK x=some z):FY aB x=some z:=by
 have ho:t7 x=true:=by
  unfold zK xc at h
  split at h
  ·assumption
  ·cases h
 obtain⟨p,n,s,ms,b,rfl,H⟩:=C2 ho
 rw[afA H]
 exact h
end Go.Am
end
section
namespace Go.Am
def Hk:au:=[(.agg,[.int .i64,.int .i64,.list [.int .i64],.list [.int .i64,.int .i64,.list [.int .i64]],.list [.int .i64]])]
def SY:au:=[(.one,[.list [.list [.int .i64]]]),(.agg,[.int .i64,.int .i64,.list [.int .i64]])]
def akH:be:=[[some .aA]]
def Gj (NN:Nat):(Int×(Int×((List Int)×((List (Int×(Int×(List Int))))×(List Int)))))->(Option ((List (List Int))×(Int×(Int×(List Int))))):=
 (fun((i0,i1,l2,l3,l4):(Int×(Int×((List Int)×((List (Int×(Int×(List Int))))×(List Int))))))=>
 (dq (([]:List Int)) 0).aa (fun l5=>
 bO ((ae 0 0 (U (([]:List (List Int))))).aa (fun _=>
 (ae 0 1 (U ((l5::([]:List (List Int)))))).aa (fun _=>
 (ae 0 0 (U (([]:List Int)))).aa (fun _=>
 (ae 0 0 (U (([]:List Int)))).aa (fun _=>
 bg NN (fun(((i6,i7,l8,l9,gm),(cm,cO),(di,c9),bK,fa,ct,gU):((Int×(Int×((List Int)×((List (Int×(Int×(List Int))))×(List Int)))))×((Int×Int)×((Int×Int)×((List Int)×((List Int)×((List (List Int))×(List (List Int)))))))))=>
 aJ (bC (0:Int) (aO (U gU)))
 (bO ((ae 0 (U ct) (U ct)).aa (fun _=>
 (ae 0 0 (U (([]:List (List Int))))).aa (fun _=>
 (ae 0 (U gU) (U gU)).aa (fun _=>
 (ae 0 (U bK) (U bK)).aa (fun _=>
 (ae 0 (U fa) (U fa)).aa (fun _=>
 bg NN (fun(((dk,gF),(iA,jN,fJ,fS,dS),(fR,gQ),(f0,nP),fA,gW,dn,dv,fb):((Int×Int)×((Int×(Int×((List Int)×((List (Int×(Int×(List Int))))×(List Int)))))×((Int×Int)×((Int×Int)×((List Int)×((List Int)×((List (List Int))×((List (List Int))×(List (List Int)))))))))))=>
 aJ (bC gF dk)
 (bO ((eB gF (U fb)).aa (fun k35=>
 (dJ fb (aL 0 k35)).aa (fun f8=>
 (oC ((iA,jN,fJ,fS,dS),f8)).aa (fun eN=>
 (dg gW 0 (U gW)).aa (fun kE=>
 (kq kE).aa (fun iH=>
 (ae 0 (U iH) (U iH)).aa (fun _=>
 (dg eN 0 (U eN)).aa (fun fk=>
 (ir (aL (U iH) (U fk)) 8).aa (fun _=>
 (dg (bU iH fk) 0 (aL (U iH) (U fk))).aa (fun kF=>
 (zR (iA,aY .i64 f0 1,jN,kF)).aa (fun((ii,iB,rD),BL,mU)=>
 aJ (n4 (aO (U BL)) f0)
 ((ae 0 (U dn) (U dn)).aa (fun _=>
 (ae 0 (U dv) (U dv)).aa (fun _=>
 (ae 0 (U fb) (U fb)).aa (fun _=>
 (ae 0 (U fA) (U fA)).aa (fun _=>
 (ae 0 (U gW) (U gW)).aa (fun _=>
 some (Sum.inl ((gF,dk),(iA,jN,fJ,fS,dS),(fR,gQ),(f0,nP),fA,gW,dn,dv,fb))))))))
 ((ae 0 (U dn) (U dn)).aa (fun _=>
 (ae 0 1 (U ((f8::([]:List (List Int)))))).aa (fun _=>
 (ir (aL (U dn) (U ((f8::([]:List (List Int)))))) 24).aa (fun _=>
 (ae 0 (aL (U dn) (U ((f8::([]:List (List Int)))))) (U (bU dn ((f8::([]:List (List Int))))))).aa (fun _=>
 (ae 0 (U dv) (U dv)).aa (fun _=>
 (ae 0 (U fb) (U fb)).aa (fun _=>
 (ae 0 (U fA) (U fA)).aa (fun _=>
 (ae 0 (aL (U iH) (U fk)) (U (bU iH fk))).aa (fun _=>
 bg NN (fun(((rE,iD,lD,jq,kz),(jP,kA,eW,eG,nW),(me,nQ),(yR,p9),kG,mn,wW,nX,mY):(((List Int)×(Int×(Int×(Int×Int))))×((Int×(Int×((List Int)×((List (Int×(Int×(List Int))))×(List Int)))))×((Int×Int)×((Int×Int)×((List Int)×((List Int)×((List (List Int))×((List (List Int))×(List (List Int)))))))))))=>
 aJ (bC kz jq)
 ((kq rE).aa (fun mq=>
 (ae 0 (U mq) (U mq)).aa (fun _=>
 (dg ((kz::([]:List Int))) 0 1).aa (fun tq=>
 (ir (aL (U mq) (U tq)) 8).aa (fun _=>
 (dq (bU mq tq) (aL (U mq) (U tq))).aa (fun nY=>
 (ae 0 (U nX) (U nX)).aa (fun _=>
 (ae 0 1 (U ((nY::([]:List (List Int)))))).aa (fun _=>
 (ir (aL (U nX) (U ((nY::([]:List (List Int)))))) 24).aa (fun _=>
 (ae 0 (U wW) (U wW)).aa (fun _=>
 (ae 0 (aL (U nX) (U ((nY::([]:List (List Int)))))) (U (bU nX ((nY::([]:List (List Int))))))).aa (fun _=>
 (ae 0 (U mY) (U mY)).aa (fun _=>
 (ae 0 (U kG) (U kG)).aa (fun _=>
 (ae 0 (U mn) (U mn)).aa (fun _=>
 some (Sum.inl ((rE,iD,lD,jq,aY .i64 kz 1),(jP,kA,eW,eG,nW),(me,nQ),(yR,p9),kG,mn,wW,bU nX ((nY::([]:List (List Int)))),mY))))))))))))))))
 (((ae 0 (U wW) (U wW)).aa (fun _=>
 (ae 0 (U nX) (U nX)).aa (fun _=>
 (ae 0 (U mY) (U mY)).aa (fun _=>
 (ae 0 (U kG) (U kG)).aa (fun _=>
 (ae 0 (U mn) (U mn)).aa (fun _=>
 some (Sum.inl ((lD,iD),(jP,kA,eW,eG,nW),(me,nQ),(yR,p9),kG,mn,wW,nX,mY)))))))).aa (fun nZ=>
 some (Sum.inr nZ))))
 ((f8,dk,gF,aO (U fS),(0:Int)),(iA,jN,fJ,fS,dS),(fR,gQ),(aY .i64 f0 1,jN),fA,bU iH fk,bU dn ((f8::([]:List (List Int)))),dv,fb)))))))))))))))))))))
 (fun((uM,uN),(oS,jQ,lK,iI,BO),(jr,jb),(gj,gR),gH,eX,fm,n3,mZ)=>
 (ae 0 (U fm) (U fm)).aa (fun _=>
 (ae 0 (U n3) (U n3)).aa (fun _=>
 (ae 0 (U mZ) (U mZ)).aa (fun _=>
 (ae 0 (U gH) (U gH)).aa (fun _=>
 (ae 0 (U eX) (U eX)).aa (fun _=>
 some (Sum.inl ((uN,aY .i64 uM 1),(oS,jQ,lK,iI,BO),(jr,jb),(gj,gR),gH,eX,fm,n3,mZ)))))))))
 (((ae 0 (U dv) (U dv)).aa (fun _=>
 (ae 0 (U dn) (U dn)).aa (fun _=>
 (ae 0 (U fA) (U fA)).aa (fun _=>
 (ae 0 (U gW) (U gW)).aa (fun _=>
 some (Sum.inl ((iA,jN,fJ,fS,dS),(fR,gQ),(f0,nP),fA,gW,dv,dn))))))).aa (fun m6=>
 some (Sum.inr m6))))
 ((aO (U gU),(0:Int)),(i6,i7,l8,l9,gm),(cm,cO),(di,c9),bK,fa,ct,([]:List (List Int)),gU)))))))
 (fun((nR,sQ,kH,m7,uW),(uP,qa),(sR,lF),tr,mr,j9,m8)=>
 (ae 0 (U m8) (U m8)).aa (fun _=>
 (ae 0 (U j9) (U j9)).aa (fun _=>
 (ae 0 (U tr) (U tr)).aa (fun _=>
 (ae 0 (U mr) (U mr)).aa (fun _=>
 some (Sum.inl ((nR,sQ,kH,m7,uW),(uP,qa),(sR,lF),tr,mr,m8,j9))))))))
 (((ae 0 (U ct) (U ct)).aa (fun _=>
 (ae 0 (U bK) (U bK)).aa (fun _=>
 (ae 0 (U fa) (U fa)).aa (fun _=>
 some (Sum.inl ((cm,cO),(di,c9),bK,fa,ct)))))).aa (fun qd=>
 some (Sum.inr qd))))
 ((i0,i1,l2,l3,l4),((0:Int),(0:Int)),((0:Int),i1),([]:List Int),([]:List Int),([]:List (List Int)),(l5::([]:List (List Int)))))))))
 (fun((A2,wH),(uK,nO),rB,iF,jc)=>
 (dg jc 0 (U jc)).aa (fun mV=>
 (dg iF 0 (U iF)).aa (fun Ew=>
 some (mV,uK,nO,Ew))))))
theorem hZ {α β:Type} (x:α) (f:α->Option β):(some x).aa f=f x:=by
 have h:∀o:Option α,o=some x->o.aa f=f x:=by intro o h;subst h;rfl
 exact h _ rfl
theorem ui {α:Type}:ae 0 0 (U ([]:List α))=some ():=by
 have h:∀l:List α,l=[]->ae 0 0 (U l)=some ():=by intro l h;subst h;rfl
 exact h _ rfl
section
variable {p:Int} {n:Nat} {s b:List Int} {ms:List cT}
theorem afr (H:jE p n s ms b):Gj aB (p,(n:Int),s,ms,b)=xc (p,(n:Int),s,ms,b):=by
 have hp:=H.p
 have hn:=H.hn
 have OS:=H.l4
 have DX:dK=140737488355328:=rfl
 unfold xc
 rw[if_pos (t8 H)]
 simp only[Gj]
 rw[show dq ([]:List Int) 0=some [] from rfl]
 simp only[hZ,ui]
 rw[show ae 0 1 (U [([]:List Int)])=some () from rfl]
 simp only[hZ]
 obtain⟨R,hR⟩:∃R,jS (p,(n:Int),s,ms,b)=R:=⟨_,rfl⟩
 have NV:kS p n ms s 128 ([],[]) [[]]=R:=by rw[<-hR];unfold jS;simp only[Int.toNat_natCast]
 rw[hR]
 rw[J9 (r:=Sum.inl ((0,0),((R.1.length:Int),(n:Int)),[],R.2,R.1))
  (fun m x=>∃(S:List Wd×List Int) (q:List Wd),x=((p,(n:Int),s,ms,b),((0:Int),(0:Int)),((S.1.length:Int),(n:Int)),([]:List Int),S.2,S.1,q)/\BI p n ms.length S q/\(n - S.1.length)*ms.length+q.length<=m/\m<=128/\kS p n ms s m S q=R) ?a1 128 _ ?a0 aB (cN (by omega))]
 ·simp only[bO,Option.bind,il,Option.aa]
 case a0=>
  exact⟨([],[]),[[]],rfl,⟨by simp,fun x hx=>absurd hx (by simp),Nat.zero_le _,fun w hw=>by rw[List.mem_singleton] at hw;subst hw;exact⟨fun c hc=>absurd hc (by simp),Nat.zero_le _⟩,fun w hw=>absurd hw (by simp)⟩,by
   have:n*ms.length<=24*4:=Nat.mul_le_mul hn OS
   simp only[List.length_nil,List.length_singleton,Nat.sub_zero];omega,Nat.le_refl _,NV⟩
 case a1=>
  rintro m x ⟨S0,q0,rfl,hB0,agf,hm,OQ⟩
  dsimp only
  by_cases lx:q0.length=0
  ·left
   obtain rfl:q0=[]:=List.eq_nil_of_length_eq_zero lx
   rw[Vd] at OQ
   subst OQ
   rw[aN (dX (by unfold aO U;simp))]
   try simp only[bQ,ui,hZ]
  ·right
   rw[aQ (dZ (by unfold aO U;omega))]
   simp only[bQ,ui,hZ]
   have ao1:q0.length<=m:=by
    have:=Nat.le_add_left q0.length ((n - S0.1.length)*ms.length)
    omega
   generalize hL:bg aB _ _=o
   obtain⟨z,rfl,S,lg,rfl,hB,iw,bq⟩:∃z,o=some z/\∃(S:List Wd×List Int) (lg:List Wd),z=Sum.inl ((p,(n:Int),s,ms,b),((0:Int),(0:Int)),((S.1.length:Int),(n:Int)),([]:List Int),S.2,lg,S.1)/\BI p n ms.length S lg/\(n - S.1.length)*ms.length+lg.length<=m - q0.length/\kS p n ms s (m - q0.length) S lg=R:=by
    rw[<-hL]
    refine BS q0.length (fun j x=>∃(S:List Wd×List Int) (lg:List Wd),x=(((q0.length:Int),(j:Int)),(p,(n:Int),s,ms,b),((0:Int),(0:Int)),((S.1.length:Int),(n:Int)),([]:List Int),S.2,S.1,lg,q0)/\BI p n ms.length S (q0.drop j++lg)/\(n - S.1.length)*ms.length+(q0.drop j++lg).length<=m - j/\kS p n ms s (m - j) S (q0.drop j++lg)=R) _ ?_ ?_
     ⟨S0,[],rfl,by rw[List.drop_zero,List.append_nil];exact hB0,by rw[List.drop_zero,List.append_nil];exact agf,by rw[List.drop_zero,List.append_nil];exact OQ⟩ (cN (by omega))
    ·rintro j x hj ⟨S,lg,rfl,hB,iw,bq⟩
     dsimp only
     rw[aQ (dZ (by omega))]
     obtain⟨w,IW⟩:∃w,q0[j]? =some w:=⟨_,List.getElem?_eq_getElem hj⟩
     rw[drop_cons IW] at hB iw bq
     rw[List.cons_append] at hB iw bq
     obtain⟨m',bB⟩:∃k,m - j=k+1:=⟨m - j - 1,by omega⟩
     have iv:m - (j+1)=m':=by omega
     rw[bB] at iw bq
     rw[iv]
     simp only[List.length_cons] at iw
     have hw:=hB.qo w (by simp)
     have kw:=hB.kn
     obtain⟨k1,k2,k3,k4,k5⟩:=EK H hB
     have hb:S.1.length*n<=24*24:=Nat.mul_le_mul (by omega) hn
     have D5:=(u7 (n:=n) (ms:=ms) hp w s H.al H.ap).1
     rw[show eB (j:Int) (U q0)=some j from vT (by unfold U;omega)]
     simp only[hZ,mF]
     rw[show dJ q0 j=some w from IW]
     simp only[hZ]
     rw[show oC ((p,(n:Int),s,ms,b),w)=some (cz p n ms s w) by
      simp only[oC]
      rw[if_pos ⟨t8 H,hw.1,show w.length<=1048576 by omega⟩]
      simp only[Int.toNat_natCast]]
     simp only[hZ,il]
     rw[show kq S.2=some S.2 from if_pos (by rw[hB.dl];omega)]
     simp only[hZ,bQ,il]
     rw[jH (by simp only[aL,U];rw[hB.dl,D5];omega)]
     simp only[hZ]
     rw[show dg (bU S.2 (cz p n ms s w)) 0 (aL (U S.2) (U (cz p n ms s w)))=some (S.2++cz p n ms s w) from CL (by simp[bU,aL,U])]
     simp only[hZ]
     rw[jl (by omega) (by omega),show(S.1.length:Int)+1=((S.1.length+1:Nat):Int) by push_cast;rfl]
     rw[show zR (p,((S.1.length+1:Nat):Int),(n:Int),S.2++cz p n ms s w)=_ from if_pos k1]
     simp only[hZ,bQ,ui]
     rw[show aO (U (qx (p,((S.1.length+1:Nat):Int),(n:Int),S.2++cz p n ms s w)).2.1)=((oq p n (S.1.length+1) (S.2++cz p n ms s w):Nat):Int) from rfl]
     have aoZ:lg.length<=128:=by
      have:=Nat.le_add_left ((q0.drop (j+1)++lg).length+1) ((n - S.1.length)*ms.length)
      rw[List.length_append] at this iw
      omega
     by_cases ha:r8 p n ms s S w=true
     ·have hk:=of_decide_eq_true ha
      obtain⟨It,Ow⟩:=BI.zE H hB ha
      rw[Lo ha] at bq
      rw[aN (yZ (by omega))]
      rw[show ae 0 1 (U [w])=some () from rfl]
      simp only[hZ,Au]
      rw[jH (by simp only[aL,U,List.length_singleton];omega)]
      simp only[hZ]
      rw[show ae 0 (aL (U S.2) (U (cz p n ms s w))) (U (bU S.2 (cz p n ms s w)))=some () from Av (by simp[bU,aL,U])]
      simp only[hZ]
      have OE:=Rq Ow iw
      rw[List.append_assoc] at It bq
      rw[fc (r:=Sum.inl (((j:Int),(q0.length:Int)),(p,(n:Int),s,ms,b),((0:Int),(0:Int)),(((S.1.length+1:Nat):Int),(n:Int)),([]:List Int),S.2++cz p n ms s w,S.1++[w],lg++gG ms.length w,q0)) (fun x=>((w,(q0.length:Int),(j:Int),(ms.length:Int),(x:Int)),(p,(n:Int),s,ms,b),((0:Int),(0:Int)),(((S.1.length+1:Nat):Int),(n:Int)),([]:List Int),S.2++cz p n ms s w,S.1++[w],lg++gG x w,q0)) ms.length ?c1 ?c2 ?c3 (cN (by omega))]
      case c1=>
       intro x hx
       dsimp only
       rw[aQ (dZ (by omega))]
       rw[show kq w=some w from if_pos (by omega)]
       simp only[hZ,bQ]
       rw[show dg [(x:Int)] 0 1=some [(x:Int)] from rfl]
       simp only[hZ]
       rw[jH (by simp only[aL,U,List.length_singleton];omega)]
       simp only[hZ]
       rw[show dq (bU w [(x:Int)]) (aL (U w) (U [(x:Int)]))=some (w++[(x:Int)]) from acu (by simp[bU,aL,U])]
       simp only[hZ]
       rw[show ae 0 1 (U [w++[(x:Int)]])=some () from rfl]
       simp only[hZ,Au,ui]
       rw[jH (by simp only[aL,U,List.length_singleton,List.length_append,Ev];omega)]
       simp only[hZ]
       rw[jl (by omega) (by omega)]
       rw[show bU (lg++gG x w) [w++[(x:Int)]]=lg++gG (x+1) w by unfold bU;rw[List.append_assoc,Zq]]
       rfl
      case c2=>
       dsimp only
       rw[aN (dX (by omega))]
       try simp only[hZ,bQ,ui]
      case c3=>simp[bU,gG,aO,U]
      simp only[bO,Option.bind,bQ,ui,hZ]
      rw[jl (by omega) (by omega)]
      refine⟨_,rfl,(S.1++[w],S.2++cz p n ms s w),lg++gG ms.length w,?_,It,?_,bq⟩
      ·dsimp only
       rw[List.length_append,List.length_singleton]
       rfl
      ·dsimp only
       rw[List.length_append,List.length_singleton,<-List.append_assoc,List.length_append (bs:=gG ms.length w),Ev]
       exact OE
     ·have hk:¬(oq p n (S.1.length+1) (S.2++cz p n ms s w)=S.1.length+1):=fun h=>ha (decide_eq_true h)
      rw[Ln ha] at bq
      rw[aQ (tt (by omega))]
      simp only[bO,Option.bind,bQ,ui,hZ]
      rw[jl (by omega) (by omega)]
      exact⟨_,rfl,S,lg,rfl,hB.no,by omega,bq⟩
    ·rintro x ⟨S,lg,rfl,hB,iw,bq⟩
     dsimp only
     rw[List.drop_length,List.nil_append] at hB iw bq
     rw[aN (dX (by omega))]
     try simp only[bQ,ui,hZ]
     exact⟨_,rfl,S,lg,rfl,hB,iw,bq⟩
   simp only[bO,Option.bind]
   exact⟨m - q0.length,_,by omega,rfl,S,lg,rfl,hB,iw,by omega,bq⟩
end
theorem afc (x:bV) (z:List (List Int)×Int×Int×List Int) (h:zS x=some z):Gj aB x=some z:=by
 have ho:t7 x=true:=by
  unfold zS xc at h
  split at h
  ·assumption
  ·cases h
 obtain⟨p,n,s,ms,b,rfl,H⟩:=C2 ho
 rw[afr H]
 exact h
end Go.Am
end
section
namespace Go.Am
def abM (x:Int×cT×cT):Prop:=cP x.1/\(0<=x.2.1.1/\x.2.1.1<=x.2.1.2.1/\x.2.1.2.1<=12)/\(0<=x.2.2.1/\x.2.2.1<=12)/\x.2.2.2.1=x.2.1.2.1/\(x.2.1.2.2.length=x.2.1.1.toNat*x.2.1.2.1.toNat/\x.2.2.2.2.length=x.2.2.1.toNat*x.2.1.2.1.toNat)/\dG x.1 x.2.1.2.2/\dG x.1 x.2.2.2.2
instance (x:Int×cT×cT):Decidable (abM x):=by unfold abM;infer_instance
end Go.Am
end
section
namespace Go.Am
end Go.Am
end
section
namespace Go.Am
end Go.Am
end
section
namespace Go.Am
def L9 (p:Int) (M:bf) (i j:Nat):Prop:=(M i j+M j i)%p=0/\(i=j->M i j=0)
instance (p:Int) (M:bf) (i j:Nat):Decidable (L9 p M i j):=by unfold L9;infer_instance
def VE (p:Int) (M:bf) (i:Nat):Prop:=∀j,j<i+1->L9 p M i j
instance (p:Int) (M:bf) (i:Nat):Decidable (VE p M i):=by unfold VE;infer_instance
end Go.Am
end
section
namespace Go.Am
def iq (p a b:Int):Prop:=∃q,a=b+p*q
theorem iq.refl (p a:Int):iq p a a:=⟨0,by simp⟩
theorem iq.trans {p a b c:Int} (h:iq p a b) (h':iq p b c):iq p a c:=by
 obtain⟨q,rfl⟩:=h;obtain⟨q',rfl⟩:=h';exact⟨q'+q,by rw[Int.mul_add];omega⟩
theorem iq.symm {p a b:Int} (h:iq p a b):iq p b a:=by
 obtain⟨q,rfl⟩:=h;exact⟨-q,by rw[Int.mul_neg];omega⟩
theorem iq.add {p a b c d:Int} (h:iq p a b) (h':iq p c d):iq p (a+c) (b+d):=by
 obtain⟨q,rfl⟩:=h;obtain⟨q',rfl⟩:=h';exact⟨q+q',by grind⟩
theorem iq.mul {p a b c d:Int} (h:iq p a b) (h':iq p c d):iq p (a*c) (b*d):=by
 obtain⟨q,rfl⟩:=h;obtain⟨q',rfl⟩:=h';exact⟨q*d+b*q'+p*q*q',by grind⟩
section
variable {p inv:Int} {n k:Nat} {A:bf}
end
end Go.Am
end
section
namespace Go.Am
section
variable {p:Int} {n:Nat} {M:bf}
end
section
variable {p:Int} {n:Nat} {M:bf}
end
end Go.Am
end
section
namespace Go.Am
theorem Vb {p:Int} {n:Nat} {s b:List Int} {ms:List cT} (H:jE p n s ms b):∀(m:Nat) (S:List Wd×List Int) (q:List Wd),BI p n ms.length S q->BI p n ms.length (kS p n ms s m S q) []
 |0,S,q,h=>⟨h.dl,h.dp,h.kn,fun w hw=>absurd hw (by simp),h.wo⟩
 |m+1,S,[],h=>h
 |m+1,S,w::q,h=>by
  by_cases ha:r8 p n ms s S w=true
  ·rw[Lo ha]
   exact Vb H m _ _ (BI.zE H h ha).1
  ·rw[Ln ha]
   exact Vb H m _ _ h.no
theorem RU {p:Int} {n:Nat} {s b:List Int} {ms:List cT} (H:jE p n s ms b):BI p n ms.length (jS (p,(n:Int),s,ms,b)) []:=by
 have e:jS (p,(n:Int),s,ms,b)=kS p n ms s 128 ([],[]) [[]]:=by unfold jS;simp only[Int.toNat_natCast]
 rw[e]
 exact Vb H 128 _ _ ⟨by simp,fun x hx=>absurd hx (by simp),Nat.zero_le _,fun w hw=>by rw[List.mem_singleton] at hw;subst hw;exact⟨fun c hc=>absurd hc (by simp),Nat.zero_le _⟩,fun w hw=>absurd hw (by simp)⟩
end Go.Am
end
section
namespace Go.Am
structure LZ (p:Int) (r:Nat) (M N:bf) (t k j:Nat) (inv:Int):Prop where
 tk:t<=k
 kr:k<r
 ne:M k j≠0
 one:M k j*inv%p=1
 nt:∀b,N t b=M k b*inv%p
 na:∀a,a<r->a≠t->∀b,N a b=(cq M t k a b+(p - cq M t k a j)*N t b)%p
 first:∀i,t<=i->i<k->M i j=0
theorem RX {p:Int} {r c:Nat} {s:bf×List Int×Int} {j:Nat} (ek:du p=true) (I:RI p r c s j) (hj:j<c):
  (iM p r s j=s/\∀i,s.2.1.length<=i->i<r->s.1 i j=0)\/
   ∃k N inv,iM p r s j=(N,s.2.1++[(j:Int)],zi p s.1 s.2.1.length j k s.2.2)/\LZ p r s.1 N s.2.1.length k j inv/\s.2.1.length<r:=by
 have hp:cP p:=kD ek
 by_cases hl:s.2.1.length<r
 ·cases hk:ij s.1 j (r - s.2.1.length) s.2.1.length with
  |none=>exact .inl ⟨Kw hl hk,fun i h1 h2=>Ks hk i h1 (by omega)⟩
  |some k=>
   have hq:=B9 hk
   have kw:k<r:=by omega
   have hx:fy p (s.1 k j):=I.m k kw j hj
   have hi:=Zf ek hx hq.2.2
   have AR:cq s.1 s.2.1.length k s.2.1.length j=s.1 k j:=if_pos rfl
   refine .inr ⟨k,_,gT p 1 (s.1 k j) (p - 2).toNat,Kx hl hk,⟨hq.1,kw,hq.2.2,hi,fun b=>?_,fun a ha bI b=>?_,RL hk⟩,hl⟩
   ·unfold ef
    rw[if_neg (by omega)]
    unfold lL rN
    rw[if_pos rfl,AR]
    congr 2
    exact if_pos rfl
   ·have e1:∀y,lL p s.1 s.2.1.length j k a y=cq s.1 s.2.1.length k a y:=fun y=>by unfold lL rN;rw[if_neg bI]
    show ef p _ _ _ _ a b=_
    rw[show ef p (lL p s.1 s.2.1.length j k) s.2.1.length j r s.2.1.length b=lL p s.1 s.2.1.length j k s.2.1.length b from if_neg (by omega)]
    unfold ef
    rw[if_pos ⟨ha,bI⟩,e1,e1]
 ·refine .inl ⟨by unfold iM;rw[if_neg hl],fun i h1 h2=>by omega⟩
def pv (L:List Int) (i:Nat):Nat:=(L.getD i 0).toNat
theorem RS {L:List Int} {x:Int} {i:Nat} (h:i<L.length):pv (L++[x]) i=pv L i:=by
 unfold pv
 rw[List.getD_eq_getElem?_getD,List.getD_eq_getElem?_getD,List.getElem?_append_left h]
theorem zg {L:List Int} {j:Nat}:pv (L++[(j:Int)]) L.length=j:=by
 unfold pv
 rw[List.getD_eq_getElem?_getD,List.getElem?_append_right (Nat.le_refl _),Nat.sub_self]
 rfl
structure RF (r:Nat) (s:bf×List Int×Int) (j:Nat):Prop where
 lt:∀i,i<s.2.1.length->pv s.2.1 i<j
 mono:∀i i',i<i'->i'<s.2.1.length->pv s.2.1 i<pv s.2.1 i'
 one:∀i,i<s.2.1.length->s.1 i (pv s.2.1 i)=1
 bE:∀i,i<s.2.1.length->∀a,a<r->a≠i->s.1 a (pv s.2.1 i)=0
 low:∀i,i<s.2.1.length->∀b,b<pv s.2.1 i->s.1 i b=0
 zero:∀i,s.2.1.length<=i->i<r->∀b,b<j->s.1 i b=0
theorem RF.step {p:Int} {r c:Nat} {s:bf×List Int×Int} {j:Nat} (ek:du p=true) (I:RI p r c s j) (hj:j<c) (h:RF r s j):RF r (iM p r s j) (j+1):=by
 have hp:cP p:=kD ek
 rcases RX ek I hj with⟨e,hz⟩|⟨k,N,inv,e,P,hl⟩
 ·rw[e]
  refine⟨fun i hi=>by have:=h.lt i hi;omega,h.mono,h.one,h.bE,h.low,fun i h1 h2 b hb=>?_⟩
  by_cases yz:b=j
  ·rw[yz];exact hz i h1 h2
  ·exact h.zero i h1 h2 b (by omega)
 ·rw[e]
  obtain⟨M,L,d⟩:=s
  obtain⟨tk,kr,ne,one,nt,na,first⟩:=P
  dsimp only at tk kr ne one nt na first hl e⊢
  have bH:∀i,i<L.length->pv L i<j:=h.lt
  have AO:∀i,i<L.length->pv (L++[(j:Int)]) i=pv L i:=fun i hi=>RS hi
  have oP:=hp.1
  have Rv:∀b,b<j->N L.length b=0:=fun b hb=>by
   rw[nt,show M k b=0 from h.zero k tk kr b hb,Int.zero_mul,Int.zero_emod]
  have Rw:N L.length j=1:=by rw[nt];exact one
  have eZ:∀a,a<r->a≠L.length->∀b,b<j->N a b=cq M L.length k a b:=fun a ha bI b hb=>by
   rw[na a ha bI,Rv b hb,Int.mul_zero,Int.add_zero]
   have hs:fy p (cq M L.length k a b):=FC I.m hl kr a ha b (by omega)
   exact Int.emod_eq_of_lt hs.1 hs.2
  have U4:∀i,i<L.length->∀b,cq M L.length k i b=M i b:=fun i hi b=>by
   unfold cq;rw[if_neg (by omega),if_neg (by omega)]
  have Z6:∀a,L.length<=a->a<r->∀b,b<j->cq M L.length k a b=0:=fun a h1 h2 b hb=>by
   unfold cq
   split
   ·exact h.zero k tk kr b hb
   ·split
    ·exact h.zero _ (Nat.le_refl _) hl b hb
    ·exact h.zero a h1 h2 b hb
  refine⟨?_,?_,?_,?_,?_,?_⟩<;>dsimp only
  ·intro i hi
   simp only[List.length_append,List.length_cons,List.length_nil] at hi
   by_cases fV:i<L.length
   ·rw[AO i fV];have:=bH i fV;omega
   ·rw[show i=L.length by omega,zg];omega
  ·intro i i' h1 h2
   simp only[List.length_append,List.length_cons,List.length_nil] at h2
   rw[AO i (by omega)]
   by_cases fV:i'<L.length
   ·rw[AO i' fV];exact h.mono i i' h1 fV
   ·rw[show i'=L.length by omega,zg];exact bH i (by omega)
  ·intro i hi
   simp only[List.length_append,List.length_cons,List.length_nil] at hi
   by_cases fV:i<L.length
   ·rw[AO i fV,eZ i (by omega) (by omega) _ (bH i fV),U4 i fV];exact h.one i fV
   ·rw[show i=L.length by omega,zg];exact Rw
  ·intro i hi a ha hai
   simp only[List.length_append,List.length_cons,List.length_nil] at hi
   by_cases fV:i<L.length
   ·rw[AO i fV]
    by_cases bI:a=L.length
    ·rw[bI];exact Rv _ (bH i fV)
    ·rw[eZ a ha bI _ (bH i fV)]
     by_cases uk:a<L.length
     ·rw[U4 a uk];exact h.bE i fV a ha hai
     ·exact Z6 a (by omega) ha _ (bH i fV)
   ·have IH:i=L.length:=by omega
    rw[IH,zg]
    rw[na a ha (by omega),Rw,Int.mul_one]
    rw[show cq M L.length k a j+(p - cq M L.length k a j)=p by omega]
    exact Int.emod_self
  ·intro i hi b hb
   simp only[List.length_append,List.length_cons,List.length_nil] at hi
   by_cases fV:i<L.length
   ·rw[AO i fV] at hb
    have hlj:=bH i fV
    rw[eZ i (by omega) (by omega) _ (by omega),U4 i fV]
    exact h.low i fV b hb
   ·have IH:i=L.length:=by omega
    rw[IH,zg] at hb
    rw[IH]
    exact Rv b hb
  ·intro i h1 h2 b hb
   simp only[List.length_append,List.length_cons,List.length_nil] at h1
   by_cases yz:b=j
   ·rw[yz,na i h2 (by omega),Rw,Int.mul_one]
    rw[show cq M L.length k i j+(p - cq M L.length k i j)=p by omega]
    exact Int.emod_self
   ·rw[eZ i h2 (by omega) b (by omega)]
    exact Z6 i (by omega) h2 b (by omega)
theorem Kv {p:Int} {r c:Nat} {M:bf} (ek:du p=true) (hM:da p r c M):∀j,j<=c->RF r (c7 p r M j) j
 |0,_=>⟨fun i hi=>absurd hi (Nat.not_lt_zero i),fun i i' _ hi=>absurd hi (Nat.not_lt_zero i'),fun i hi=>absurd hi (Nat.not_lt_zero i),fun i hi=>absurd hi (Nat.not_lt_zero i),fun i hi=>absurd hi (Nat.not_lt_zero i),fun i _ _ b hb=>absurd hb (Nat.not_lt_zero b)⟩
 |j+1,hj=>RF.step ek (tD (kD ek) hM j) (by omega) (Kv ek hM j (by omega))
def Sp (p:Int) (r c:Nat) (M:bf) (x:Nat->Int):Prop:=∃y:Nat->Int,∀b,b<c->x b%p=sm r (fun i=>y i*M i b)%p
theorem lQ {p:Int} {r c:Nat} {M:bf} {i:Nat} (hi:i<r):Sp p r c M (M i):=
 ⟨fun k=>if k=i then 1 else 0,fun b _=>by
  have e:sm r (fun k=>(if k=i then 1 else 0)*M k b)=M i b:=by
   rw[Cp (a:=i) r hi (fun k _ ax=>by simp[ax])]
   simp
  exact congrArg (·%p) e.symm⟩
theorem qM {p:Int} {r c:Nat} {M:bf} {x x':Nat->Int} (h:Sp p r c M x) (e:∀b,b<c->x' b%p=x b%p):Sp p r c M x':=by
 obtain⟨y,hy⟩:=h
 exact⟨y,fun b hb=>(e b hb).trans (hy b hb)⟩
theorem Gs {p:Int} {r c:Nat} {M:bf} {x x':Nat->Int} (f:Int) (h:Sp p r c M x) (h':Sp p r c M x'):Sp p r c M (fun b=>x b+f*x' b):=by
 obtain⟨y,hy⟩:=h
 obtain⟨y',hy'⟩:=h'
 refine⟨fun i=>y i+f*y' i,fun b hb=>?_⟩
 have e:sm r (fun i=>(y i+f*y' i)*M i b)=sm r (fun i=>y i*M i b)+f*sm r (fun i=>y' i*M i b):=by
  rw[<-Fm,<-Uk]
  exact kO fun i _=>by rw[Int.add_mul,Int.mul_assoc]
 rw[e,Int.add_emod,Int.mul_emod,hy b hb,hy' b hb,<-Int.mul_emod,<-Int.add_emod]
theorem ac3 {p:Int} {r c:Nat} {M:bf}:Sp p r c M (fun _=>0):=⟨fun _=>0,fun b _=>by rw[vk r fun i _=>Int.zero_mul _]⟩
theorem Vw {p:Int} {r c:Nat} {M:bf} {x:Nat->Int} (f:Int) (h:Sp p r c M x):Sp p r c M (fun b=>x b*f):=
 qM (Gs f ac3 h) fun b _=>by rw[Int.zero_add,Int.mul_comm]
theorem vJ {p:Int} {r r' c:Nat} {M N:bf} (h:∀i,i<r'->Sp p r c M (N i)) {x:Nat->Int} (hx:Sp p r' c N x):Sp p r c M x:=by
 obtain⟨y,hy⟩:=hx
 have h':∀i,∃y:Nat->Int,i<r'->∀b,b<c->N i b%p=sm r (fun k=>y k*M k b)%p:=by
  intro i
  by_cases hi:i<r'
  ·obtain⟨y,hy⟩:=h i hi
   exact⟨y,fun _=>hy⟩
  ·exact⟨fun _=>0,fun hi'=>absurd hi' hi⟩
 obtain⟨Y,hY⟩:=Classical.axiomOfChoice h'
 refine⟨fun k=>sm r' (fun i=>y i*Y i k),fun b hb=>?_⟩
 rw[hy b hb]
 have e:sm r (fun k=>sm r' (fun i=>y i*Y i k)*M k b)=sm r' (fun i=>y i*sm r (fun k=>Y i k*M k b)):=by
  rw[kO (g:=fun k=>sm r' (fun i=>y i*Y i k*M k b)) fun k _=>(Ul (M k b) _ r').symm]
  rw[Um]
  exact kO fun i _=>by rw[<-Fm];exact kO fun k _=>Int.mul_assoc _ _ _
 rw[e]
 exact vj fun i hi=>by rw[Int.mul_emod,hY i hi b hb,<-Int.mul_emod]
theorem LZ.span {p:Int} {r c:Nat} {M N:bf} {t k j:Nat} {inv:Int} (h:LZ p r M N t k j inv) (ht:t<r) (hj:j<c) (x:Nat->Int):Sp p r c N x↔Sp p r c M x:=by
 obtain⟨tk,kr,ne,one,nt,na,_⟩:=h
 have sw:∀a,a<r->Sp p r c M (cq M t k a):=by
  intro a ha
  unfold cq
  by_cases h1:a=t
  ·simp only[h1,if_true];exact lQ kr
  ·by_cases h2:a=k
   ·simp only[h2]
    by_cases h3:k=t
    ·simp only[h3,if_true];exact lQ ht
    ·simp only[if_neg h3,if_true];exact lQ ht
   ·simp only[if_neg h1,if_neg h2];exact lQ ha
 have XF:Sp p r c M (N t):=qM (Vw inv (lQ kr)) fun b _=>by rw[nt,Int.emod_emod_of_dvd _ (Int.dvd_refl p)]
 constructor
 ·refine vJ fun a ha=>?_
  by_cases bI:a=t
  ·rw[bI];exact XF
  ·exact qM (Gs (p - cq M t k a j) (sw a ha) XF) fun b _=>by rw[na a ha bI,Int.emod_emod_of_dvd _ (Int.dvd_refl p)]
 ·
  have hk:Sp p r c N (M k):=qM (Vw (M k j) (lQ ht)) fun b _=>by
   rw[nt,Int.mul_emod,Int.emod_emod_of_dvd _ (Int.dvd_refl p),<-Int.mul_emod]
   rw[show M k b*inv*M k j=M k b*(M k j*inv) by rw[Int.mul_assoc,Int.mul_comm inv]]
   rw[Int.mul_emod,one,Int.mul_one,Int.emod_emod_of_dvd _ (Int.dvd_refl p)]
  have hs:∀a,a<r->Sp p r c N (cq M t k a):=by
   intro a ha
   by_cases bI:a=t
   ·have e:cq M t k a=M k:=by unfold cq;funext b;rw[if_pos bI]
    rw[e];exact hk
   ·refine qM (Gs (cq M t k a j) (lQ ha) (lQ ht)) fun b _=>?_
    rw[na a ha bI,Int.emod_add_emod]
    rw[show cq M t k a b+(p - cq M t k a j)*N t b+cq M t k a j*N t b=cq M t k a b+p*N t b by grind]
    rw[Int.add_mul_emod_self_left]
  refine vJ fun a ha=>?_
  by_cases bI:a=t
  ·have e:M a=cq M t k k:=by
    unfold cq;funext b
    by_cases Oz:k=t
    ·rw[if_pos Oz,bI,Oz]
    ·rw[if_neg Oz,if_pos rfl,bI]
   rw[e];exact hs k kr
  ·by_cases XJ:a=k
   ·rw[XJ];exact hk
   ·have e:M a=cq M t k a:=by unfold cq;funext b;rw[if_neg bI,if_neg XJ]
    rw[e];exact hs a ha
theorem RW {p:Int} {r c:Nat} {M:bf} (ek:du p=true) (hM:da p r c M) (x:Nat->Int):∀j,j<=c->(Sp p r c (c7 p r M j).1 x↔Sp p r c M x)
 |0,_=>Iff.rfl
 |j+1,hj=>by
  rw[<-RW ek hM x j (by omega)]
  show Sp p r c (iM p r (c7 p r M j) j).1 x↔_
  rcases RX ek (tD (kD ek) hM j) (show j<c by omega) with⟨e,_⟩|⟨k,N,inv,e,P,hl⟩
  ·rw[e]
  ·rw[e];exact P.span hl (by omega) x
def Vn (p:Int) (x:Nat->Int) (j:Nat):Prop:=(∀b,b<j->x b%p=0)/\x j%p≠0
theorem RO {p:Int} {r c:Nat} {M:bf} (ek:du p=true) (hM:da p r c M) {j:Nat} (hj:j<c):
  (∃x,Sp p r c M x/\Vn p x j)↔∃i,i<(c7 p r M c).2.1.length/\pv (c7 p r M c).2.1 i=j:=by
 have hp:cP p:=kD ek
 have oP:=hp.1
 have R:=Kv ek hM c (Nat.le_refl c)
 have I:=tD hp hM c
 have yN:=fun x=>RW ek hM x c (Nat.le_refl c)
 generalize c7 p r M c=s at R I yN
 constructor
 ·rintro⟨x,hx,h0,h1⟩
  obtain⟨y,hy⟩:=(yN x).2 hx
  have cr:∀i,i<s.2.1.length->x (pv s.2.1 i)%p=y i%p:=by
   intro i hi
   rw[hy _ (R.lt i hi),Cp (a:=i) r (by have:=I.l;omega) fun a ha ax=>by rw[R.bE i hi a ha ax,Int.mul_zero]]
   rw[R.one i hi,Int.mul_one]
  rw[hy j hj] at h1
  apply Classical.byContradiction
  intro cb
  apply h1
  rw[show(0:Int)=sm r (fun _=>0)%p by rw[vk r fun _ _=>rfl,Int.zero_emod]]
  refine vj fun i hi=>?_
  by_cases fV:i<s.2.1.length
  ·rcases Nat.lt_trichotomy (pv s.2.1 i) j with h|h|h
   ·have hz:y i%p=0:=by rw[<-cr i fV];exact h0 _ h
    rw[Int.mul_emod,hz,Int.zero_mul]
   ·exact absurd ⟨i,fV,h⟩ cb
   ·rw[R.low i fV j h,Int.mul_zero]
  ·rw[R.zero i (by omega) hi j hj,Int.mul_zero]
 ·rintro⟨i,hi,rfl⟩
  refine⟨s.1 i,(yN _).1 (lQ (by have:=I.l;omega)),fun b hb=>by rw[R.low i hi b hb,Int.zero_emod],?_⟩
  rw[R.one i hi,Int.emod_eq_of_lt (by decide) (by omega)]
  decide
def sV (L:List Int) (j:Nat):Bool:=(List.range L.length).any fun i=>pv L i==j
theorem wO {L:List Int} {j:Nat}:sV L j=true↔∃i,i<L.length/\pv L i=j:=by
 simp only[sV,List.any_eq_true,List.mem_range,beq_iff_eq]
theorem Db (P:Nat->Bool) (j:Nat):(List.range (j+1)).countP P=(List.range j).countP P+(if P j=true then 1 else 0):=by
 rw[List.range_succ,List.countP_append]
 simp[List.countP_cons]
theorem MG {p:Int} {r c:Nat} {M:bf} (ek:du p=true) (hM:da p r c M):∀j,j<=c->(List.range j).countP (sV (c7 p r M j).2.1)=(c7 p r M j).2.1.length
 |0,_=>rfl
 |j+1,hj=>by
  have ih:=MG ek hM j (by omega)
  have R:=Kv ek hM j (by omega)
  show(List.range (j+1)).countP (sV (iM p r (c7 p r M j) j).2.1)=(iM p r (c7 p r M j) j).2.1.length
  rw[Db]
  rcases RX ek (tD (kD ek) hM j) (show j<c by omega) with⟨e,_⟩|⟨k,N,inv,e,P,hl⟩
  ·rw[e,ih]
   have:sV (c7 p r M j).2.1 j=false:=by
    rw[Bool.eq_false_iff]
    intro h
    obtain⟨i,hi,he⟩:=wO.1 h
    have:=R.lt i hi
    omega
   rw[this]
   simp
  ·rw[e]
   dsimp only
   have h1:sV ((c7 p r M j).2.1++[(j:Int)]) j=true:=wO.2 ⟨_,by simp,zg⟩
   have h2:(List.range j).countP (sV ((c7 p r M j).2.1++[(j:Int)]))=(List.range j).countP (sV (c7 p r M j).2.1):=by
    refine List.countP_congr fun b hb=>?_
    have hb:=List.mem_range.1 hb
    rw[wO,wO]
    constructor
    ·rintro⟨i,hi,he⟩
     simp only[List.length_append,List.length_cons,List.length_nil] at hi
     by_cases fV:i<(c7 p r M j).2.1.length
     ·rw[RS fV] at he;exact⟨i,fV,he⟩
     ·rw[show i=(c7 p r M j).2.1.length by omega,zg] at he;omega
    ·rintro⟨i,hi,he⟩
     exact⟨i,by simp only[List.length_append];omega,by rw[RS hi];exact he⟩
   rw[h1,h2,ih]
   simp
theorem Wn {P Q:Nat->Bool}:∀n,(∀i,i<n->P i=true->Q i=true)->(List.range n).countP P<=(List.range n).countP Q
 |0,_=>Nat.le_refl _
 |n+1,h=>by
  rw[Db,Db]
  have:=Wn n fun i hi=>h i (by omega)
  cases hP:P n with
  |false=>simp;omega
  |true=>rw[h n (by omega) hP];omega
end Go.Am
end
section
namespace Go.Am
def d2 (a b c d:Int):Int:=a*d - b*c
def d3 (a b c d e f g h i:Int):Int:=a*d2 e f h i - b*d2 d f g i+c*d2 d e g h
theorem iq.sub {p a b c d:Int} (h:iq p a b) (h':iq p c d):iq p (a - c) (b - d):=by
 obtain⟨q,rfl⟩:=h;obtain⟨q',rfl⟩:=h';exact⟨q - q',by grind⟩
end Go.Am
end
section
namespace Go.Am
section
variable {p:Int} {n:Nat} {M0:bf}
end
end Go.Am
end
section
namespace Go.Am
structure aoU (p:Int) (n:Nat) (A B:bf) (t k:Nat) (inv:Int) (f:Nat->Int):Prop where
 bt:∀b,b<n->iq p (B t b) (inv*A k b)
 ba:∀a,a<n->a≠t->∀b,b<n->iq p (B a b) (cq A t k a b+f a*B t b)
end Go.Am
end
section
namespace Go.Am
theorem MF {P Q:Nat->Bool}:∀n,(∀i,i<n->P i=true->Q i=true)->(List.range n).countP Q<=(List.range n).countP P->∀i,i<n->Q i=true->P i=true
 |0,_,_,i,hi,_=>absurd hi (Nat.not_lt_zero i)
 |n+1,h,hc,i,hi,hq=>by
  rw[Db,Db] at hc
  have eS:=Wn n fun i hi=>h i (by omega)
  cases hP:P n with
  |false=>
   rw[hP] at hc
   cases hQ:Q n with
   |true=>rw[hQ] at hc;simp at hc;omega
   |false=>
    rw[hQ] at hc
    simp at hc
    by_cases fh:i=n
    ·subst fh;rw[hQ] at hq;cases hq
    ·exact MF n (fun i hi=>h i (by omega)) hc i (by omega) hq
  |true=>
   rw[hP,h n (by omega) hP] at hc
   simp at hc
   by_cases fh:i=n
   ·subst fh;exact hP
   ·exact MF n (fun i hi=>h i (by omega)) hc i (by omega) hq
theorem Xe {p:Int} {x:Nat->Int}:∀n,(∀b,b<n->x b%p=0)\/∃j,j<n/\Vn p x j
 |0=>.inl fun b hb=>absurd hb (Nat.not_lt_zero b)
 |n+1=>by
  rcases Xe (p:=p) (x:=x) n with h|⟨j,hj,hl⟩
  ·by_cases hn:x n%p=0
   ·refine .inl fun b hb=>?_
    by_cases N2:b=n
    ·subst N2;exact hn
    ·exact h b (by omega)
   ·exact .inr ⟨n,by omega,h,hn⟩
  ·exact .inr ⟨j,by omega,hl⟩
theorem ac2 {p:Int} {r c:Nat} {M N:bf} (ek:du p=true) (hM:da p r c M) (hN:da p (r+1) c N) (h1:∀a,a<r->∀b,b<c->N a b=M a b)
  (hk:(c7 p (r+1) N c).2.1.length<=(c7 p r M c).2.1.length):Sp p r c M (N r):=by
 have hp:cP p:=kD ek
 have oP:=hp.1
 have XE:∀x,Sp p r c M x->Sp p (r+1) c N x:=fun x hx=>vJ (N:=M) (fun i hi=>qM (lQ (M:=N) (i:=i) (by omega)) fun b hb=>by rw[h1 i hi b hb]) hx
 have eT:∀j,j<c->sV (c7 p r M c).2.1 j=true->sV (c7 p (r+1) N c).2.1 j=true:=fun j hj h=>by
  obtain⟨x,hx,hl⟩:=(RO ek hM hj).2 (wO.1 h)
  exact wO.2 ((RO ek hN hj).1 ⟨x,XE x hx,hl⟩)
 have dm:=MF c eT (by rw[MG ek hM c (Nat.le_refl c),MG ek hN c (Nat.le_refl c)];exact hk)
 have RZ:=Kv ek hM c (Nat.le_refl c)
 have IZ:=tD hp hM c
 have yN:=fun x=>RW ek hM x c (Nat.le_refl c)
 generalize hs:c7 p r M c=s at RZ IZ yN dm
 have agy:∀x,Sp p s.2.1.length c s.1 x->Sp p r c M x:=fun x hx=>(yN x).1 (vJ (N:=s.1) (fun i hi=>lQ (by have:=IZ.l;omega)) hx)
 have hZN:∀i,i<s.2.1.length->Sp p (r+1) c N (s.1 i):=fun i hi=>XE _ ((yN _).1 (lQ (by have:=IZ.l;omega)))
 let y:Nat->Int:=fun t=>N r (pv s.2.1 t)
 let d:Nat->Int:=fun b=>N r b+(-1)*sm s.2.1.length (fun t=>y t*s.1 t b)
 have hd:Sp p (r+1) c N d:=by
  refine Gs (-1) (lQ (by omega)) ?_
  refine vJ (N:=s.1) (r':=s.2.1.length) hZN ⟨y,fun b _=>rfl⟩
 have hdp:∀i,i<s.2.1.length->d (pv s.2.1 i)=0:=by
  intro i hi
  show N r (pv s.2.1 i)+(-1)*sm s.2.1.length (fun t=>y t*s.1 t (pv s.2.1 i))=0
  rw[Cp (a:=i) s.2.1.length hi (fun t ht ax=>by rw[RZ.bE i hi t (by have:=IZ.l;omega) ax];simp),RZ.one i hi]
  show N r (pv s.2.1 i)+(-1)*(N r (pv s.2.1 i)*1)=0
  omega
 rcases Xe (p:=p) (x:=d) c with h|⟨j,hj,hl⟩
 ·refine agy _ ⟨y,fun b hb=>?_⟩
  have:=h b hb
  show N r b%p=_
  have e:N r b=d b+sm s.2.1.length (fun t=>y t*s.1 t b):=by
   show N r b=N r b+(-1)*sm s.2.1.length (fun t=>y t*s.1 t b)+sm s.2.1.length (fun t=>y t*s.1 t b)
   omega
  rw[e,Int.add_emod,this,Int.zero_add,Int.emod_emod]
 ·exfalso
  have h2:=dm j hj (wO.2 ((RO ek hN hj).1 ⟨d,hd,hl⟩))
  obtain⟨i,hi,he⟩:=wO.1 h2
  have:=hl.2
  rw[<-he,hdp i hi] at this
  exact this (by simp)
theorem Vv {p:Int} {r r' c:Nat} {M:bf} {x:Nat->Int} (h:Sp p r c M x) (hr:r<=r'):Sp p r' c M x:=vJ (N:=M) (fun i hi=>lQ (by omega)) h
theorem Vx {p:Int} {r c:Nat} {M N:bf} {x:Nat->Int} (h:Sp p r c M x) (e:∀i,i<r->∀b,b<c->N i b%p=M i b%p):Sp p r c N x:=
 vJ (N:=M) (fun i hi=>qM (lQ (M:=N) hi) fun b hb=>(e i hi b hb).symm) h
theorem Vu {p:Int} {r c c':Nat} {M A:bf} {x:Nat->Int} (h:Sp p r c M x):Sp p r c' (fun i j=>sm c (fun t=>M i t*A t j)%p) (fun j=>sm c (fun t=>x t*A t j)%p):=by
 obtain⟨y,hy⟩:=h
 refine⟨y,fun b _=>?_⟩
 dsimp only
 rw[Int.emod_emod]
 have e1:sm c (fun t=>x t*A t b)%p=sm c (fun t=>sm r (fun i=>y i*M i t)*A t b)%p:=vj fun t ht=>by rw[Int.mul_emod,hy t ht,<-Int.mul_emod]
 have e2:sm r (fun i=>y i*(sm c (fun t=>M i t*A t b)%p))%p=sm r (fun i=>y i*sm c (fun t=>M i t*A t b))%p:=vj fun i _=>by rw[Int.mul_emod,Int.emod_emod,<-Int.mul_emod]
 rw[e1,e2]
 congr 1
 rw[kO (g:=fun t=>sm r (fun i=>y i*M i t*A t b)) fun t _=>(Ul (A t b) _ r).symm,Um]
 exact kO fun i _=>by rw[<-Fm];exact kO fun t _=>Int.mul_assoc _ _ _
theorem ac1 {p:Int} {r c:Nat} {M:bf} {x z:Nat->Int} (h:Sp p r c M x) (hz:∀i,i<r->sm c (fun b=>M i b*z b)%p=0):sm c (fun b=>x b*z b)%p=0:=by
 obtain⟨y,hy⟩:=Vu (c':=1) (A:=fun t _=>z t) h
 have:=hy 0 (by omega)
 dsimp only at this
 rw[Int.emod_emod] at this
 rw[this,show(0:Int)=sm r (fun _=>0)%p by rw[vk r fun _ _=>rfl];simp]
 exact vj fun i hi=>by rw[hz i hi];simp
def uZ:Wd->Wd->Prop
 |a::u,b::v=>a<b\/(a=b/\uZ u v)
 |_,_=>False
def ng (u v:Wd):Prop:=u.length<v.length\/(u.length=v.length/\uZ u v)
def ou (u v:Wd):Prop:=u=v\/ng u v
theorem aab:∀{u v w:Wd},uZ u v->uZ v w->uZ u w
 |[],_,_,h,_=>h.elim
 |_::_,[],_,h,_=>h.elim
 |_::_,_::_,[],_,h=>h.elim
 |a::u,b::v,c::w,h1,h2=>by
  rcases h1 with h1|⟨rfl,h1⟩
  ·rcases h2 with h2|⟨rfl,h2⟩
   ·exact .inl (by omega)
   ·exact .inl h1
  ·rcases h2 with h2|⟨rfl,h2⟩
   ·exact .inl h2
   ·exact .inr ⟨rfl,aab h1 h2⟩
theorem an2 {u v w:Wd} (h1:ng u v) (h2:ng v w):ng u w:=by
 rcases h1 with h1|⟨h1,iT⟩<;>rcases h2 with h2|⟨h2,wc⟩
 ·exact .inl (by omega)
 ·exact .inl (by omega)
 ·exact .inl (by omega)
 ·exact .inr ⟨by omega,aab iT wc⟩
theorem Ui {u v w:Wd} (h1:ou u v) (h2:ng v w):ng u w:=by
 rcases h1 with rfl|h1
 ·exact h2
 ·exact an2 h1 h2
theorem abF {u v w:Wd} (h1:ou u v) (h2:ou v w):ou u w:=by
 rcases h2 with rfl|h2
 ·exact h1
 ·exact .inr (Ui h1 h2)
theorem Z8:∀{u v:Wd} (x y:Wd),u.length=v.length->uZ u v->uZ (u++x) (v++y)
 |[],_,_,_,_,h=>h.elim
 |_::_,[],_,_,_,h=>h.elim
 |a::u,b::v,x,y,hl,h=>by
  rcases h with h|⟨rfl,h⟩
  ·exact .inl h
  ·exact .inr ⟨rfl,Z8 x y (by simpa using hl) h⟩
theorem aaa:∀(u:Wd) {x y:Int},x<y->uZ (u++[x]) (u++[y])
 |[],_,_,h=>.inl h
 |a::u,_,_,h=>.inr ⟨rfl,aaa u h⟩
theorem abG {u v:Wd} (x y:Int) (h:ng u v):ng (u++[x]) (v++[y]):=by
 rcases h with h|⟨h,h'⟩
 ·exact .inl (by simp;exact h)
 ·exact .inr ⟨by simp[h],Z8 _ _ h h'⟩
theorem an1 (u:Wd) {x y:Int} (h:x<y):ng (u++[x]) (u++[y]):=.inr ⟨by simp,aaa u h⟩
theorem an0 (u:Wd) (x:Int):ng u (u++[x]):=.inl (by simp)
theorem anY {u v:Wd} (x:Int) (h:ou u v):ou (u++[x]) (v++[x]):=by
 rcases h with rfl|h
 ·exact .inl rfl
 ·exact .inr (abG x x h)
theorem ai0 (t:Nat) (w:Wd):(gG t w).Pairwise ng:=by
 unfold gG
 rw[List.pairwise_map]
 exact List.Pairwise.imp (fun h=>an1 w (by omega)) List.pairwise_lt_range
section
variable {p:Int} {n:Nat} {s b:List Int} {ms:List cT}
def RM (p:Int) (n:Nat) (ms:List cT) (s:List Int) (l:List Wd):bf:=fun i j=>bX (cz p n ms s (l.getD i [])) j
def tO (p:Int) (n:Nat) (ms:List cT) (s:List Int) (l:List Wd) (v:Wd):Prop:=∃J,J<=l.length/\(∀u∈l.take J,ou u v)/\Sp p J n (RM p n ms s l) (bX (cz p n ms s v))
structure r7 (p:Int) (n:Nat) (ms:List cT) (s:List Int) (S:List Wd×List Int) (q:List Wd):Prop where
 bi:BI p n ms.length S q
 rows:∀i,i<S.1.length->∀j,j<n->cE n S.2 i j=RM p n ms s S.1 i j
 rk:oq p n S.1.length S.2=S.1.length
 UF:(S.1++q).Pairwise ng
 RJ:∀w∈q,(w=[]/\S.1=[]/\q=[[]])\/∃u∈S.1,∃x:Nat,x<ms.length/\w=u++[(x:Int)]
 root:[]∈q\/tO p n ms s S.1 []
 PM:∀u∈S.1,∀x:Nat,x<ms.length->u++[(x:Int)]∈q\/tO p n ms s S.1 (u++[(x:Int)])
theorem Vs {l:List Wd} {w:Wd} {i:Nat} (h:i<l.length):RM p n ms s (l++[w]) i=RM p n ms s l i:=by
 unfold RM
 funext j
 rw[List.getD_eq_getElem?_getD,List.getElem?_append_left h,<-List.getD_eq_getElem?_getD]
theorem Vr {l:List Wd} {w:Wd}:RM p n ms s (l++[w]) l.length=bX (cz p n ms s w):=by
 unfold RM
 funext j
 rw[List.getD_eq_getElem?_getD,List.getElem?_append_right (Nat.le_refl _),Nat.sub_self]
 rfl
theorem tO.more {l:List Wd} {w v:Wd} (h:tO p n ms s l v):tO p n ms s (l++[w]) v:=by
 obtain⟨J,h1,h2,h3⟩:=h
 refine⟨J,by rw[List.length_append];omega,fun u hu=>h2 u (by rwa[List.take_append_of_le_length h1] at hu),Vx h3 fun i hi b _=>by rw[Vs (by omega)]⟩
theorem aaw {n i j:Nat} {l l':List Int} {k:Nat} (hl:l.length=k*n) (hi:i<k) (hj:j<n):cE n (l++l') i j=cE n l i j:=by
 unfold cE
 have:=Pk hi hj
 rw[List.getD_eq_getElem?_getD,List.getElem?_append_left (by omega),<-List.getD_eq_getElem?_getD]
theorem aax {n j:Nat} {l l':List Int} {k:Nat} (hl:l.length=k*n):cE n (l++l') k j=bX l' j:=by
 unfold cE bX
 rw[List.getD_eq_getElem?_getD,List.getElem?_append_right (by omega),<-List.getD_eq_getElem?_getD,show k*n+j - l.length=j by omega]
theorem R6 {k:Nat} {D:List Int}:oq p n k D=(c7 p k (cE n D) n).2.1.length:=by
 unfold oq qx
 simp only[Int.toNat_natCast]
theorem r7.no (H:jE p n s ms b) {S:List Wd×List Int} {w:Wd} {q:List Wd} (h:r7 p n ms s S (w::q)) (ha:¬r8 p n ms s S w=true):r7 p n ms s S q:=by
 obtain⟨m1,m2,m3,m4,m5⟩:=EK H h.bi
 have hk:oq p n (S.1.length+1) (S.2++cz p n ms s w)<=S.1.length:=by
  have:¬oq p n (S.1.length+1) (S.2++cz p n ms s w)=S.1.length+1:=fun e=>ha (decide_eq_true e)
  omega
 have DE:Sp p S.1.length n (cE n S.2) (bX (cz p n ms s w)):=by
  have:=ac2 (N:=cE n (S.2++cz p n ms s w)) H.pr (tB h.bi.dl h.bi.dp) (tB m3 m4) (fun a ha b hb=>aaw h.bi.dl ha hb) (by rw[<-R6,<-R6,h.rk];exact hk)
  exact qM this fun b _=>by rw[aax h.bi.dl]
 have pS:=h.UF
 rw[List.pairwise_append] at pS
 have hD:tO p n ms s S.1 w:=⟨S.1.length,Nat.le_refl _,fun u hu=>.inr (pS.2.2 u (List.mem_of_mem_take hu) w (by simp)),Vx DE fun i hi j hj=>by rw[h.rows i hi j hj]⟩
 refine⟨h.bi.no,h.rows,h.rk,?_,fun v hv=>?_,?_,fun u hu x hx=>?_⟩
 ·rw[List.pairwise_append]
  exact⟨pS.1,(List.pairwise_cons.1 pS.2.1).2,fun a ha b hb=>pS.2.2 a ha b (by simp[hb])⟩
 ·rcases h.RJ v (by simp[hv]) with⟨_,_,e⟩|hp
  ·injection e with _ e
   subst e
   cases hv
  ·exact .inr hp
 ·rcases h.root with h1|h1
  ·cases h1 with
   |head=>exact .inr hD
   |tail _ h1=>exact .inl h1
  ·exact .inr h1
 ·rcases h.PM u hu x hx with h1|h1
  ·generalize u++[(x:Int)]=v at h1
   cases h1 with
   |head=>exact .inr hD
   |tail _ h1=>exact .inl h1
  ·exact .inr h1
theorem r7.zE (H:jE p n s ms b) {S:List Wd×List Int} {w:Wd} {q:List Wd} (h:r7 p n ms s S (w::q)) (ha:r8 p n ms s S w=true):
  r7 p n ms s (S.1++[w],S.2++cz p n ms s w) (q++gG ms.length w):=by
 obtain⟨m1,m2,m3,m4,m5⟩:=EK H h.bi
 have pS:=h.UF
 rw[List.pairwise_append] at pS
 obtain⟨s1,s2,s3⟩:=pS
 obtain⟨s4,s5⟩:=List.pairwise_cons.1 s2
 have Ix:∀u∈S.1,ng u w:=fun u hu=>s3 u hu w (by simp)
 have hD:tO p n ms s (S.1++[w]) w:=by
  refine⟨S.1.length+1,by simp,fun u hu=>?_,qM (lQ (i:=S.1.length) (by omega)) fun b _=>by rw[Vr]⟩
  rcases List.mem_append.1 (List.mem_of_mem_take hu) with h1|h1
  ·exact .inr (Ix u h1)
  ·rw[List.mem_singleton] at h1;exact .inl h1
 have Ov:∀v∈gG ms.length w,∃x:Nat,x<ms.length/\v=w++[(x:Int)]:=fun v hv=>by
  obtain⟨x,hx,rfl⟩:=List.mem_map.1 hv
  exact⟨x,List.mem_range.1 hx,rfl⟩
 have aiZ:∀x:Nat,x<ms.length->w++[(x:Int)]∈gG ms.length w:=fun x hx=>List.mem_map.2 ⟨x,List.mem_range.2 hx,rfl⟩
 refine⟨(BI.zE H h.bi ha).1,?_,?_,?_,?_,?_,?_⟩
 ·intro i hi j hj
  dsimp only at hi⊢
  rw[List.length_append,List.length_singleton] at hi
  by_cases On:i<S.1.length
  ·rw[aaw h.bi.dl On hj,Vs On];exact h.rows i On j hj
  ·have:i=S.1.length:=by omega
   subst this
   rw[aax h.bi.dl,Vr]
 ·dsimp only
  rw[List.length_append,List.length_singleton]
  exact of_decide_eq_true ha
 ·show((S.1++[w])++(q++gG ms.length w)).Pairwise ng
  rw[List.pairwise_append,List.pairwise_append,List.pairwise_append]
  refine⟨⟨s1,by simp,fun a rb c hb=>?_⟩,⟨s5,ai0 _ _,fun a ha b hb=>?_⟩,fun a ha b hb=>?_⟩
  ·rw[List.mem_singleton] at hb;rw[hb];exact Ix a rb
  ·obtain⟨x,_,rfl⟩:=Ov b hb
   rcases h.RJ a (by simp[ha]) with⟨_,_,e⟩|⟨u,hu,y,_,rfl⟩
   ·injection e with _ e;subst e;cases ha
   ·exact abG _ _ (Ix u hu)
  ·have eS:ou a w:=by
    rcases List.mem_append.1 ha with h1|h1
    ·exact .inr (Ix a h1)
    ·rw[List.mem_singleton] at h1;exact .inl h1
   rcases List.mem_append.1 hb with h1|h1
   ·exact Ui eS (s4 b h1)
   ·obtain⟨x,_,rfl⟩:=Ov b h1
    exact Ui eS (an0 w x)
 ·intro v hv
  right
  rcases List.mem_append.1 hv with h1|h1
  ·rcases h.RJ v (by simp[h1]) with⟨_,_,e⟩|⟨u,hu,x,hx,rfl⟩
   ·injection e with _ e;subst e;cases h1
   ·exact⟨u,List.mem_append_left _ hu,x,hx,rfl⟩
  ·obtain⟨x,hx,rfl⟩:=Ov v h1
   exact⟨w,by simp,x,hx,rfl⟩
 ·rcases h.root with h1|h1
  ·cases h1 with
   |head=>exact .inr hD
   |tail _ h1=>exact .inl (List.mem_append_left _ h1)
  ·exact .inr h1.more
 ·intro u hu x hx
  rcases List.mem_append.1 hu with h1|h1
  ·rcases h.PM u h1 x hx with h2|h2
   ·generalize u++[(x:Int)]=v at h2
    cases h2 with
    |head=>exact .inr hD
    |tail _ h2=>exact .inl (List.mem_append_left _ h2)
   ·exact .inr h2.more
  ·rw[List.mem_singleton] at h1
   subst h1
   exact .inl (List.mem_append_right _ (aiZ x hx))
theorem Vc (H:jE p n s ms b):∀(m:Nat) (S:List Wd×List Int) (q:List Wd),r7 p n ms s S q->(n - S.1.length)*ms.length+q.length<=m->r7 p n ms s (kS p n ms s m S q) []
 |m,S,[],h,_=>by rw[Vd];exact h
 |0,S,w::q,h,hm=>absurd hm (by simp only[List.length_cons];omega)
 |m+1,S,w::q,h,hm=>by
  simp only[List.length_cons] at hm
  by_cases ha:r8 p n ms s S w=true
  ·rw[Lo ha]
   obtain⟨hB,kw⟩:=BI.zE H h.bi ha
   refine Vc H m _ _ (h.zE H ha) ?_
   dsimp only
   rw[List.length_append,List.length_append,List.length_singleton,Ev]
   exact Rq (q:=q.length) kw hm
  ·rw[Ln ha]
   exact Vc H m _ _ (h.no H ha) (by omega)
theorem aaY (H:jE p n s ms b):r7 p n ms s (jS (p,(n:Int),s,ms,b)) []:=by
 have e:jS (p,(n:Int),s,ms,b)=kS p n ms s 128 ([],[]) [[]]:=by unfold jS;simp only[Int.toNat_natCast]
 rw[e]
 have hn:=H.hn
 have h4:=H.l4
 have:n*ms.length<=24*4:=Nat.mul_le_mul hn h4
 refine Vc H 128 _ _ ⟨⟨by simp,fun x hx=>absurd hx (by simp),Nat.zero_le _,fun w hw=>?_,fun w hw=>absurd hw (by simp)⟩,fun i hi=>absurd hi (Nat.not_lt_zero i),?_,by simp,fun w hw=>?_,.inl (by simp),fun u hu=>absurd hu (by simp)⟩ (by simp only[List.length_nil,List.length_singleton,Nat.sub_zero];omega)
 ·rw[List.mem_singleton] at hw;subst hw;exact⟨fun c hc=>absurd hc (by simp),Nat.zero_le _⟩
 ·rw[R6]
  have:=(tD (r:=0) (c:=n) (M:=cE n []) H.p (fun a ha=>absurd ha (Nat.not_lt_zero a)) n).l
  simp only[List.length_nil]
  omega
 ·rw[List.mem_singleton] at hw;subst hw;exact .inl ⟨rfl,rfl,rfl⟩
theorem aaX (w:Wd) (x:Int):cz p n ms s (w++[x])=mC p n ms (cz p n ms s w) x:=by unfold cz;rw[List.foldl_append];rfl
theorem ab7 (v:List Int) (x:Int) {j:Nat} (hj:j<n):bX (mC p n ms v x) j=sm n (fun t=>bX v t*stM n ms x.toNat t j)%p:=by rw[La,afn _ hj]
theorem Wy (H:jE p n s ms b) {S:List Wd×List Int} (h:r7 p n ms s S []):∀(k:Nat) (v:Wd),v.length=k->jT ms.length v->tO p n ms s S.1 v
 |0,v,hv,_=>by
  obtain rfl:v=[]:=List.eq_nil_of_length_eq_zero hv
  rcases h.root with h1|h1
  ·cases h1
  ·exact h1
 |k+1,v,hv,hw=>by
  obtain⟨u,x,rfl⟩:∃u x,v=u++[x]:=⟨v.dropLast,v.getLast (by intro e;rw[e] at hv;cases hv),(List.dropLast_concat_getLast _).symm⟩
  rw[List.length_append,List.length_singleton] at hv
  obtain⟨J,hJ,eS,DE⟩:=Wy H h k u (by omega) (fun c hc=>hw c (List.mem_append_left _ hc))
  have hx:=hw x (by simp)
  obtain⟨x,rfl⟩:=f9 hx.1
  have cr:∀i,i<=J->∃J',J'<=S.1.length/\(∀u'∈S.1.take J',ou u' (u++[(x:Int)]))/\∀i',i'<i->Sp p J' n (RM p n ms s S.1) (fun j=>sm n (fun t=>RM p n ms s S.1 i' t*stM n ms x t j)%p):=by
   intro i
   induction i with
   |zero=>exact fun _=>⟨0,Nat.zero_le _,by simp,fun i' hi'=>absurd hi' (Nat.not_lt_zero i')⟩
   |succ i ih=>
    intro hi
    obtain⟨J1,a1,a2,a3⟩:=ih (by omega)
    have bH:i<S.1.length:=by omega
    have jM:=List.getElem_mem bH
    have hgd:S.1.getD i []=S.1[i]:=by rw[List.getD_eq_getElem?_getD,List.getElem?_eq_getElem bH];rfl
    obtain⟨J2,b1,b2,b3⟩:tO p n ms s S.1 (S.1[i]++[(x:Int)]):=by
     rcases h.PM _ jM x (by omega) with h1|h1
     ·cases h1
     ·exact h1
    have af7:ou (S.1[i]++[(x:Int)]) (u++[(x:Int)]):=anY _ (eS _ (by
     rw[List.mem_take_iff_getElem]
     exact⟨i,by omega,rfl⟩))
    have b4:Sp p J2 n (RM p n ms s S.1) (fun j=>sm n (fun t=>RM p n ms s S.1 i t*stM n ms x t j)%p):=qM b3 fun j hj=>by
     rw[aaX,ab7 _ _ hj]
     unfold RM
     rw[hgd]
     rfl
    have sC:∀J',(J'=J1\/J'=J2)->J1<=J'->J2<=J'->∃J',J'<=S.1.length/\(∀u'∈S.1.take J',ou u' (u++[(x:Int)]))/\∀i',i'<i+1->Sp p J' n (RM p n ms s S.1) (fun j=>sm n (fun t=>RM p n ms s S.1 i' t*stM n ms x t j)%p):=by
     intro J' ho h1 h2
     refine⟨J',by omega,?_,fun i' hi'=>?_⟩
     ·rcases ho with rfl|rfl
      ·exact a2
      ·exact fun u' jM=>abF (b2 u' jM) af7
     ·by_cases he:i'=i
      ·subst he;exact Vv b4 h2
      ·exact Vv (a3 i' (by omega)) h1
    rcases Nat.le_total J1 J2 with h1|h1
    ·exact sC J2 (.inr rfl) h1 (Nat.le_refl _)
    ·exact sC J1 (.inl rfl) (Nat.le_refl _) h1
  obtain⟨J',c1,c2,c3⟩:=cr J (Nat.le_refl J)
  refine⟨J',c1,c2,?_⟩
  have:=vJ c3 (Vu (c':=n) (A:=stM n ms x) DE)
  exact qM this fun j hj=>by rw[aaX,ab7 _ _ hj];rfl
end
end Go.Am
end
section
namespace Go.Am
def pA (x y:bV):bV:=zw x y (x.1 - 1)
def vW (x y:bV):Wd×Bool:=match(jS (pA x y)).1.find? (fun w=>decide (dw (pA x y,w)≠0)) with
 |some w=>(w,true)
 |none=>([],false)
def tS:bV×bV->Option (List Int×Bool):=fun(x:bV×bV)=>if vn x.1<=1048576/\vn x.2<=1048576 then some (if po x.1 x.2=true then vW x.1 x.2 else([],false)) else none
def xC:bV×bV->Option (List Int×Bool):=tS
def Gw:au:=[(.agg,[.int .i64,.int .i64,.list [.int .i64],.list [.int .i64,.int .i64,.list [.int .i64]],.list [.int .i64]]),(.agg,[.int .i64,.int .i64,.list [.int .i64],.list [.int .i64,.int .i64,.list [.int .i64]],.list [.int .i64]])]
def Sb:au:=[(.one,[.list [.int .i64]]),(.one,[.bool])]
def aj5:be:=[]
def GU:au:=[(.agg,[.int .i64,.int .i64,.list [.int .i64],.list [.int .i64,.int .i64,.list [.int .i64]],.list [.int .i64]]),(.agg,[.int .i64,.int .i64,.list [.int .i64],.list [.int .i64,.int .i64,.list [.int .i64]],.list [.int .i64]])]
def Sz:au:=[(.one,[.list [.int .i64]]),(.one,[.bool])]
def ako:be:=[]
def CO (NN:Nat):((Int×(Int×((List Int)×((List (Int×(Int×(List Int))))×(List Int)))))×(Int×(Int×((List Int)×((List (Int×(Int×(List Int))))×(List Int))))))->(Option ((List Int)×Bool)):=
 (fun(((i0,i1,l2,l3,l4),i5,i6,l7,l8,l9):((Int×(Int×((List Int)×((List (Int×(Int×(List Int))))×(List Int)))))×(Int×(Int×((List Int)×((List (Int×(Int×(List Int))))×(List Int)))))))=>
 (tQ ((i0,i1,l2,l3,l4),i5,i6,l7,l8,l9)).aa (fun lR=>
 aJ (fC lR)
 (some (([]:List Int),false))
 ((xF ((i0,i1,l2,l3,l4),i5,i6,l7,l8,l9)).aa (fun(cm,cO,gn,fj,bK)=>
 bO ((ae 0 (U gn) (U gn)).aa (fun _=>
 (ae 0 (U fj) (U fj)).aa (fun _=>
 (ae 0 (U bK) (U bK)).aa (fun _=>
 bg NN (fun((dj,(fZ,dR,iG,eo,fz),(jN,ie),fS,dS,eV):(Int×((Int×(Int×((List Int)×((List (Int×(Int×(List Int))))×(List Int)))))×((Int×Int)×((List Int)×((List (Int×(Int×(List Int))))×(List Int)))))))=>
 aJ (bC dj ie)
 ((eB dj (U eV)).aa (fun PD=>
 (dJ eV (aL 0 PD)).aa (fun f0=>
 (fL (nh .i64 fZ f0) fZ).aa (fun nP=>
 (eB dj (U eV)).aa (fun PF=>
 (dJ eV (aL 0 PF)).aa (fun j7=>
 (ae 0 (U fS) (U fS)).aa (fun _=>
 (ae 0 (U dS) (U dS)).aa (fun _=>
 (ae 0 (U eV) (U (dd eV (aL 0 PF) nP))).aa (fun _=>
 some (Sum.inl (aY .i64 dj 1,(fZ,dR,iG,eo,fz),(jN,ie),fS,dS,dd eV (aL 0 PF) nP)))))))))))
 (((ae 0 (U fS) (U fS)).aa (fun _=>
 (ae 0 (U dS) (U dS)).aa (fun _=>
 (ae 0 (U eV) (U eV)).aa (fun _=>
 some (Sum.inl ((jN,ie),fS,dS,eV)))))).aa (fun dn=>
 some (Sum.inr dn))))
 (i1,(i0,i1,l2,l3,l4),(cm,cO),gn,fj,bK)))))
 (fun((pW,ja),lI,f8,eN)=>
 (dq lI (U lI)).aa (fun kE=>
 (dq f8 (U f8)).aa (fun iH=>
 (dq eN (U eN)).aa (fun fk=>
 (zK (pW,ja,kE,iH,fk)).aa (fun(kF,ii,iB,rD)=>
 bO (bg NN (fun(((BL,mU,f6),iD,lD,nV,qh,rF):(((List (List Int))×(Int×Int))×(Int×(Int×((List Int)×((List (Int×(Int×(List Int))))×(List Int)))))))=>
 aJ (bC f6 mU)
 ((eJ BL f6).aa (fun lJ=>
 (tP ((iD,lD,nV,qh,rF),lJ)).aa (fun pY=>
 aJ (eu pY (0:Int))
 ((ko lJ).aa (fun eG=>
 (((dq eG (U eG)).aa (fun nW=>
 some (nW,true))).aa (fun((qi,b58):((List Int)×Bool))=>
 some (Sum.inr (qi,b58)))).aa (fun jv=>
 some (Sum.inr jv))))
 (some (Sum.inl ((BL,mU,aY .i64 f6 1),iD,lD,nV,qh,rF))))))
 (some (Sum.inr (Sum.inl ()))))
 ((kF,aO (U kF),(0:Int)),pW,ja,kE,iH,fk))
 (fun _=>
 some (([]:List Int),false)))))))))))
def CP (NN:Nat):((Int×(Int×((List Int)×((List (Int×(Int×(List Int))))×(List Int)))))×(Int×(Int×((List Int)×((List (Int×(Int×(List Int))))×(List Int))))))->(Option ((List Int)×Bool)):=
 (fun(((i0,i1,l2,l3,l4),i5,i6,l7,l8,l9):((Int×(Int×((List Int)×((List (Int×(Int×(List Int))))×(List Int)))))×(Int×(Int×((List Int)×((List (Int×(Int×(List Int))))×(List Int)))))))=>
 (oB ((i0,i1,l2,l3,l4),i5,i6,l7,l8,l9)).aa (fun lR=>
 aJ (fC lR)
 (some (([]:List Int),false))
 ((xM ((i0,i1,l2,l3,l4),(i5,i6,l7,l8,l9),nh .i64 i0 1)).aa (fun(cm,cO,gn,fj,bK)=>
 (dq gn (U gn)).aa (fun fa=>
 (dq fj (U fj)).aa (fun ct=>
 (dq bK (U bK)).aa (fun gU=>
 (zS (cm,cO,fa,ct,gU)).aa (fun(iG,gF,iA,cQ)=>
 bO (bg NN (fun(((fJ,gi,ig),fR,gQ,mh,gV,fA):(((List (List Int))×(Int×Int))×(Int×(Int×((List Int)×((List (Int×(Int×(List Int))))×(List Int)))))))=>
 aJ (bC ig gi)
 ((eJ fJ ig).aa (fun gW=>
 (oC ((fR,gQ,mh,gV,fA),gW)).aa (fun dn=>
 (dg dn 0 (U dn)).aa (fun dv=>
 (xK (fR,dv,fA)).aa (fun ja=>
 aJ (eu ja (0:Int))
 ((kq gW).aa (fun lI=>
 (((dq lI (U lI)).aa (fun f8=>
 some (f8,true))).aa (fun((eN,b38):((List Int)×Bool))=>
 some (Sum.inr (eN,b38)))).aa (fun iH=>
 some (Sum.inr iH))))
 (some (Sum.inl ((fJ,gi,aY .i64 ig 1),fR,gQ,mh,gV,fA))))))))
 (some (Sum.inr (Sum.inl ()))))
 ((iG,aO (U iG),(0:Int)),cm,cO,fa,ct,gU))
 (fun _=>
 some (([]:List Int),false))))))))))
theorem Z3 {X Y α:Type} {f:X->Option (X⊕Y)} (es:List α) (mk:Nat->X) (p:α->Bool) (wq:α->Y) (xZ:Y)
  (h1:∀i a,es[i]? =some a->p a=false->f (mk i)=some (.inl (mk (i+1)))) (h2:∀i a,es[i]? =some a->p a=true->f (mk i)=some (.inr (wq a))) (h3:f (mk es.length)=some (.inr xZ))
  {x0:X} (h0:x0=mk 0) {N:Nat} (hN:es.length<N):bg N f x0=some (match es.find? p with|some a=>wq a|none=>xZ):=by
 subst h0
 have cr:∀(k i:Nat),i+k=es.length->∀N,k<N->bg N f (mk i)=some (match(es.drop i).find? p with|some a=>wq a|none=>xZ):=by
  intro k
  induction k with
  |zero=>
   intro i hi N hN
   obtain⟨N,rfl⟩:∃m,N=m+1:=⟨N - 1,by omega⟩
   have:i=es.length:=by omega
   subst this
   rw[List.drop_length]
   show(match f (mk es.length) with|some (.inl x)=>bg N f x|some (.inr y)=>some y|none=>none)=_
   rw[h3]
   rfl
  |succ k ih=>
   intro i hi N hN
   obtain⟨N,rfl⟩:∃m,N=m+1:=⟨N - 1,by omega⟩
   have bH:i<es.length:=by omega
   have hg:=List.getElem?_eq_getElem bH
   rw[drop_cons hg]
   show(match f (mk i) with|some (.inl x)=>bg N f x|some (.inr y)=>some y|none=>none)=_
   cases hp:p es[i] with
   |true=>
    rw[h2 i _ hg hp,List.find?_cons_of_pos hp]
   |false=>
    rw[h1 i _ hg hp,List.find?_cons_of_neg (by rw[hp];simp)]
    exact ih (i+1) (by omega) N (by omega)
 have:=cr es.length 0 (by omega) N hN
 rwa[List.drop_zero] at this
section
variable {p:Int} {n m:Nat} {a b a2 b2:List Int} {ms ms2:List cT}
theorem ye:pA (p,(n:Int),a,ms,b) (p,(m:Int),a2,ms2,b2)=(p,((n+m:Nat):Int),a++a2,cR n m ms ms2 ms.length,b++b2.map fun v=>v*(p - 1)%p):=by
 unfold pA zw
 simp only[Int.toNat_natCast]
theorem aom (H:e8 p n a ms b) (H2:e8 p m a2 ms2 b2) (hl:ms.length=ms2.length) {c:List Int} (hc:c.length=m) (wi:dG p c):jE p (n+m) (a++a2) (cR n m ms ms2 ms.length) (b++c):=by
 have hp:=H.p
 have hn:=H.hn
 have hm:=H2.hn
 refine⟨H.pr,by omega,by rw[List.length_append,H.al,H2.al],?_,by rw[List.length_append,H.bl,hc],?_,by rw[xu];exact H.l1,by rw[xu];exact H.l4,?_⟩
 ·intro x hx
  rcases List.mem_append.1 hx with h|h
  ·exact H.ap x h
  ·exact H2.ap x h
 ·intro x hx
  rcases List.mem_append.1 hx with h|h
  ·exact H.bp x h
  ·exact wi x h
 ·intro x hx
  obtain⟨c,hc,rfl⟩:=List.mem_map.1 hx
  have hc:=List.mem_range.1 hc
  refine⟨_,rfl,?_⟩
  have h1:=(Cy H hc).2
  have h2:=(Cy H2 (k:=c) (by omega)).2
  intro i hi j hj
  unfold nj
  split
  ·rename_i h;exact h1 i h.1 j h.2
  ·split
   ·rename_i h;exact h2 _ (by omega) _ (by omega)
   ·exact⟨Int.le_refl _,by have:=hp.1;omega⟩
theorem alO (hp:cP p) (l:List Int):dG p (l.map fun v=>v*(p - 1)%p):=by
 intro x hx
 obtain⟨v,_,rfl⟩:=List.mem_map.1 hx
 exact⟨Int.emod_nonneg _ (by have:=hp.1;omega),Int.emod_lt_of_pos _ (by have:=hp.1;omega)⟩
theorem Ak (H:e8 p n a ms b) (H2:e8 p m a2 ms2 b2) (hl:ms.length=ms2.length):jE p (n+m) (a++a2) (cR n m ms ms2 ms.length) (b++b2.map fun v=>v*(p - 1)%p):=
 aom H H2 hl (by rw[List.length_map,H2.bl]) (alO H.p b2)
theorem al2 {l:List Int} (h:dG p l):(l.map fun v=>v*1%p)=l:=by
 have:∀v∈l,(fun v:Int=>v*1%p) v=id v:=fun v hv=>by
  have:=h v hv
  simp only[id,Int.mul_one]
  exact Int.emod_eq_of_lt this.1 this.2
 rw[List.map_congr_left this,List.map_id]
theorem alQ {v:Int} (h:0<=v/\v<p):(p - v)%p=v*(p - 1)%p:=by
 have e:v*(p - 1)=(p - v)+p*(v - 1):=by grind
 rw[e,Int.add_mul_emod_self_left]
theorem anN {α:Type} (l r:List α) (v x:α) (k:Nat) (hk:k=l.length):dd (l++v::r) k x=l++x::r:=by
 subst hk
 unfold dd
 rw[List.set_append_right _ _ (Nat.le_refl _),Nat.sub_self]
 rfl
theorem afL {α:Type} (l r:List α) (v:α) (k:Nat) (hk:k=l.length):dJ (l++v::r) k=some v:=by
 subst hk
 unfold dJ
 rw[List.getElem?_append_right (Nat.le_refl _),Nat.sub_self]
 rfl
theorem MN (H:e8 p n a ms b) (H2:e8 p m a2 ms2 b2) (hl:ms.length=ms2.length):∀w∈(jS (pA (p,(n:Int),a,ms,b) (p,(m:Int),a2,ms2,b2))).1,jT ms.length w/\w.length<=24:=by
 have hn:=H.hn
 have hm:=H2.hn
 rw[ye]
 intro w hw
 have B:=(RU (Ak H H2 hl)).wo w hw
 rw[xu] at B
 exact⟨B.1,by omega⟩
theorem adP (H:e8 p n a ms b) (H2:e8 p m a2 ms2 b2) (hl:ms.length=ms2.length) {w:Wd} (hw:jT ms.length w) (hwl:w.length<=24):
  tP (pA (p,(n:Int),a,ms,b) (p,(m:Int),a2,ms2,b2),w)=some (dw (pA (p,(n:Int),a,ms,b) (p,(m:Int),a2,ms2,b2),w)):=by
 rw[ye]
 simp only[tP]
 refine if_pos ⟨t8 (Ak H H2 hl),?_,show w.length<=1048576 by omega⟩
 dsimp only
 rw[xu]
 exact hw
theorem aft (H:e8 p n a ms b) (H2:e8 p m a2 ms2 b2) (hl:ms.length=ms2.length):
  CO aB ((p,(n:Int),a,ms,b),p,(m:Int),a2,ms2,b2)=some (vW (p,(n:Int),a,ms,b) (p,(m:Int),a2,ms2,b2)):=by
 have hp:=H.p
 have oP:=hp.1
 have hn:=H.hn
 have hm:=H2.hn
 have hb:=H.bl
 have IA:=H2.bl
 have s1:=xY H
 have s2:=xY H2
 have uk:=L7 H H2 hl
 have hB:=Ak H H2 hl
 simp only[CO]
 rw[show tQ ((p,(n:Int),a,ms,b),p,(m:Int),a2,ms2,b2)=some true by
  simp only[tQ,oB]
  rw[if_pos ⟨by omega,by omega⟩,uk],ak,aN (by rfl)]
 rw[show xF ((p,(n:Int),a,ms,b),p,(m:Int),a2,ms2,b2)=some (p,((n+m:Nat):Int),a++a2,cR n m ms ms2 ms.length,b++b2) by
  simp only[xF]
  rw[if_pos uk]
  simp only[zw,Int.toNat_natCast]
  rw[al2 H2.bp]]
 simp only[ak,bQ]
 rw[fc (fun j=>(((n+j:Nat):Int),(p,(n:Int),a,ms,b),(p,((n+m:Nat):Int)),a++a2,cR n m ms ms2 ms.length,(b++(b2.take j).map fun v=>v*(p - 1)%p)++b2.drop j)) m ?a1 ?a2 ?a3 (cN (by omega))]
 case a3=>simp only[List.take_zero,List.map_nil,List.append_nil,List.drop_zero,Nat.add_zero]
 case a2=>
  dsimp only
  rw[aN (dX (by omega))]
  try simp only[bQ,ak]
 case a1=>
  intro j hj
  dsimp only
  rw[aQ (dZ (by omega))]
  have DR:j<b2.length:=by omega
  have hg:=List.getElem?_eq_getElem DR
  have hv:=H2.bp _ (List.getElem_mem DR)
  rw[drop_cons hg]
  generalize b2[j]=v at hg hv
  have hlen:(b++(b2.take j).map fun v=>v*(p - 1)%p).length=n+j:=by rw[List.length_append,List.length_map,List.length_take];omega
  have hll:n+j<U ((b++(b2.take j).map fun v=>v*(p - 1)%p)++v::b2.drop (j+1)):=by
   unfold U
   rw[List.length_append,hlen,List.length_cons];omega
  rw[vT hll]
  simp only[ak,mF]
  rw[afL _ _ _ _ hlen.symm]
  have pQ:=hp.2
  simp only[ak]
  rw[ph (by have:=hv.1;have:=hv.2;omega) (by have:=hv.1;have:=hv.2;omega),aa7 (by have:=hv.2;omega) (by omega),ak]
  try simp only[bQ,ak]
  rw[anN _ _ _ _ _ hlen.symm,alQ hv]
  rw[show ae 0 (U ((b++(b2.take j).map fun v=>v*(p - 1)%p)++v::b2.drop (j+1))) (U ((b++(b2.take j).map fun v=>v*(p - 1)%p)++(v*(p - 1)%p)::b2.drop (j+1)))=some () from Av (by simp[U]),ak]
  rw[jl (by omega) (by omega),List.take_add_one,hg]
  simp only[List.map_append,Option.toList_some,List.map_cons,List.map_nil,List.append_assoc,List.singleton_append,List.cons_append,List.nil_append]
  rfl
 rw[db]
 simp only[kf,ak]
 rw[List.take_of_length_le (show b2.length<=m by omega),List.drop_of_length_le (show b2.length<=m by omega),List.append_nil]
 have hD:=ye (p:=p) (n:=n) (m:=m) (a:=a) (b:=b) (a2:=a2) (b2:=b2) (ms:=ms) (ms2:=ms2)
 have pU:=MN H H2 hl
 have AX:=fun(w:Wd) h1 h2=>adP H H2 hl (w:=w) h1 h2
 unfold vW
 rw[hD] at pU AX⊢
 rw[show zK (p,((n+m:Nat):Int),a++a2,cR n m ms ms2 ms.length,b++b2.map fun v=>v*(p - 1)%p)=_ from if_pos (t8 hB)]
 simp only[ak]
 have kw:=(RU hB).kn
 generalize (jS (p,((n+m:Nat):Int),a++a2,cR n m ms ms2 ms.length,b++b2.map fun v=>v*(p - 1)%p))=R at pU kw
 rw[Z3 R.1 (fun i=>((R.1,aO (U R.1),(i:Int)),p,((n+m:Nat):Int),a++a2,cR n m ms ms2 ms.length,b++b2.map fun v=>v*(p - 1)%p))
  (fun w=>decide (dw ((p,((n+m:Nat):Int),a++a2,cR n m ms ms2 ms.length,b++b2.map fun v=>v*(p - 1)%p),w)≠0)) (fun w=>Sum.inr (w,true)) (Sum.inl ()) ?b1 ?b2 ?b3 ?b0 (cN ?bl)]
 case b0=>rfl
 case bl=>omega
 case b3=>dsimp only;rw[aN (rG R.1)]
 case b1=>
  intro i w hg hq
  have hq:dw ((p,((n+m:Nat):Int),a++a2,cR n m ms ms2 ms.length,b++b2.map fun v=>v*(p - 1)%p),w)=0:=by
   have:=of_decide_eq_false hq
   simpa using this
  obtain⟨w1,w2⟩:=pU w (List.mem_of_getElem? hg)
  dsimp only
  rw[aQ (kI hg),fw,hg,ak,AX w w1 w2,ak,hq,aN (by rfl),qt hg (by omega)]
 case b2=>
  intro i w hg hq
  have hq:=of_decide_eq_true hq
  obtain⟨w1,w2⟩:=pU w (List.mem_of_getElem? hg)
  dsimp only
  rw[aQ (kI hg),fw,hg,ak,AX w w1 w2,ak,aQ (show eu _ 0=true from bne_iff_ne.2 hq),show ko w=some w from if_pos (by omega),ak]
  try simp only[kf,ak]
 cases R.1.find? (fun w=>decide (dw ((p,((n+m:Nat):Int),a++a2,cR n m ms ms2 ms.length,b++b2.map fun v=>v*(p - 1)%p),w)≠0)) with
 |none=>simp only[db]
 |some w=>simp only[Bl]
theorem afu (H:e8 p n a ms b) (H2:e8 p m a2 ms2 b2) (hl:ms.length=ms2.length):
  CP aB ((p,(n:Int),a,ms,b),p,(m:Int),a2,ms2,b2)=some (vW (p,(n:Int),a,ms,b) (p,(m:Int),a2,ms2,b2)):=by
 have hp:=H.p
 have oP:=hp.1
 have pQ:=hp.2
 have hn:=H.hn
 have hm:=H2.hn
 have s1:=xY H
 have s2:=xY H2
 have uk:=L7 H H2 hl
 have hB:=Ak H H2 hl
 simp only[CP]
 rw[show oB ((p,(n:Int),a,ms,b),p,(m:Int),a2,ms2,b2)=some true by
  simp only[oB]
  rw[if_pos ⟨by omega,by omega⟩,uk],ak,aN (by rfl),ph (by omega) (by omega)]
 rw[show xM ((p,(n:Int),a,ms,b),(p,(m:Int),a2,ms2,b2),p - 1)=some (p,((n+m:Nat):Int),a++a2,cR n m ms ms2 ms.length,b++b2.map fun v=>v*(p - 1)%p) by
  simp only[xM]
  rw[if_pos ⟨uk,by omega,by omega⟩]
  simp only[zw,Int.toNat_natCast]]
 simp only[ak,kf]
 have hD:=ye (p:=p) (n:=n) (m:=m) (a:=a) (b:=b) (a2:=a2) (b2:=b2) (ms:=ms) (ms2:=ms2)
 have pU:=MN H H2 hl
 unfold vW
 rw[hD] at pU⊢
 rw[show zS (p,((n+m:Nat):Int),a++a2,cR n m ms ms2 ms.length,b++b2.map fun v=>v*(p - 1)%p)=_ from if_pos (t8 hB)]
 simp only[ak]
 have kw:=(RU hB).kn
 have AX:∀w:Wd,jT ms.length w->w.length<=24->oC ((p,((n+m:Nat):Int),a++a2,cR n m ms ms2 ms.length,b++b2.map fun v=>v*(p - 1)%p),w)=some (cz p (n+m) (cR n m ms ms2 ms.length) (a++a2) w):=by
  intro w h1 h2
  simp only[oC]
  rw[if_pos ⟨t8 hB,by dsimp only;rw[xu];exact h1,show w.length<=1048576 by omega⟩]
  simp only[Int.toNat_natCast]
 have ur:∀w:Wd,xK (p,cz p (n+m) (cR n m ms ms2 ms.length) (a++a2) w,b++b2.map fun v=>v*(p - 1)%p)=some (dw ((p,((n+m:Nat):Int),a++a2,cR n m ms ms2 ms.length,b++b2.map fun v=>v*(p - 1)%p),w)):=by
  intro w
  obtain⟨r1,r2⟩:=u7 (n:=n+m) (ms:=cR n m ms ms2 ms.length) hp w (a++a2) hB.al hB.ap
  simp only[xK]
  rw[if_pos ⟨hp,by rw[r1,hB.bl],by rw[r1];omega,r2,hB.bp⟩]
  simp only[dw,Int.toNat_natCast]
 generalize (jS (p,((n+m:Nat):Int),a++a2,cR n m ms ms2 ms.length,b++b2.map fun v=>v*(p - 1)%p))=R at pU kw
 rw[Z3 R.1 (fun i=>((R.1,aO (U R.1),(i:Int)),p,((n+m:Nat):Int),a++a2,cR n m ms ms2 ms.length,b++b2.map fun v=>v*(p - 1)%p))
  (fun w=>decide (dw ((p,((n+m:Nat):Int),a++a2,cR n m ms ms2 ms.length,b++b2.map fun v=>v*(p - 1)%p),w)≠0)) (fun w=>Sum.inr (w,true)) (Sum.inl ()) ?b1 ?b2 ?b3 ?b0 (cN ?bl)]
 case b0=>rfl
 case bl=>omega
 case b3=>dsimp only;rw[aN (rG R.1)]
 case b1=>
  intro i w hg hq
  have hq:dw ((p,((n+m:Nat):Int),a++a2,cR n m ms ms2 ms.length,b++b2.map fun v=>v*(p - 1)%p),w)=0:=by
   have:=of_decide_eq_false hq
   simpa using this
  obtain⟨w1,w2⟩:=pU w (List.mem_of_getElem? hg)
  dsimp only
  rw[aQ (kI hg),fw,hg,ak,AX w w1 w2,ak,il,ak,ur,ak,hq,aN (by rfl),qt hg (by omega)]
 case b2=>
  intro i w hg hq
  have hq:=of_decide_eq_true hq
  obtain⟨w1,w2⟩:=pU w (List.mem_of_getElem? hg)
  dsimp only
  rw[aQ (kI hg),fw,hg,ak,AX w w1 w2,ak,il,ak,ur,ak,aQ (show eu _ 0=true from bne_iff_ne.2 hq),show kq w=some w from if_pos (by omega),ak]
  try simp only[kf,ak]
 cases R.1.find? (fun w=>decide (dw ((p,((n+m:Nat):Int),a++a2,cR n m ms ms2 ms.length,b++b2.map fun v=>v*(p - 1)%p),w)≠0)) with
 |none=>simp only[db]
 |some w=>simp only[Bl]
end
theorem aew (x:bV×bV) (z:List Int×Bool) (h:xC x=some z):CO aB x=some z:=by
 obtain⟨x,y⟩:=x
 simp only[xC,tS] at h
 split at h
 ·rename_i hs
  rw[<-h]
  by_cases ha:po x y=true
  ·rw[if_pos ha]
   obtain⟨p,n,m,a,b,a2,b2,ms,ms2,rfl,rfl,H,H2,hl⟩:=Ht ha
   exact aft H H2 hl
  ·rw[if_neg ha]
   obtain⟨x0,x1,x2,x3,x4⟩:=x
   obtain⟨y0,y1,y2,y3,y4⟩:=y
   simp only[CO]
   rw[show tQ ((x0,x1,x2,x3,x4),y0,y1,y2,y3,y4)=some false by
    simp only[tQ,oB]
    rw[if_pos hs,Bool.eq_false_iff.2 ha],ak]
   rfl
 ·cases h
theorem aeS (x:bV×bV) (z:List Int×Bool) (h:tS x=some z):CP aB x=some z:=by
 obtain⟨x,y⟩:=x
 simp only[tS] at h
 split at h
 ·rename_i hs
  rw[<-h]
  by_cases ha:po x y=true
  ·rw[if_pos ha]
   obtain⟨p,n,m,a,b,a2,b2,ms,ms2,rfl,rfl,H,H2,hl⟩:=Ht ha
   exact afu H H2 hl
  ·rw[if_neg ha]
   obtain⟨x0,x1,x2,x3,x4⟩:=x
   obtain⟨y0,y1,y2,y3,y4⟩:=y
   simp only[CP]
   rw[show oB ((x0,x1,x2,x3,x4),y0,y1,y2,y3,y4)=some false by
    simp only[oB]
    rw[if_pos hs,Bool.eq_false_iff.2 ha],ak]
   rfl
 ·cases h
end Go.Am
end
section
namespace Go.Am
def Ha:au:=[(.ptr,[.list [.int .u8],.int .i64,.int .i64]),(.one,[.int .i64]),(.one,[.int .i64]),(.one,[.int .i64])]
def SO:au:=[(.agg,[.int .i64,.int .i64,.list [.int .i64]]),(.ptr,[.list [.int .u8],.int .i64,.int .i64])]
def akA:be:=[[some .aA]]
def Gc (NN:Nat):(((List Int)×(Int×Int))×(Int×(Int×Int)))->(Option ((Int×(Int×(List Int)))×((List Int)×(Int×Int)))):=
 (fun(((l0,i1,i2),i3,i4,i5):(((List Int)×(Int×Int))×(Int×(Int×Int))))=>
 (tT (i4,i5)).aa (fun(i6,i7,l8)=>
 bO ((ae 0 0 (U (([]:List Int)))).aa (fun _=>
 (ae 0 (U l8) (U l8)).aa (fun _=>
 bg NN (fun(((i9,cd,cm,cO,di),(fj,lA,dj),(fZ,dR),(dk,gF),fz,cQ):((Int×(Int×(Int×(Int×Int))))×(((List Int)×(Int×Int))×((Int×Int)×((Int×Int)×((List Int)×(List Int)))))))=>
 aJ (bC di cO)
 ((xH ((fj,lA,dj),(3:Int))).aa (fun(b23,fS,ig,fR)=>
 aJ (fC b23)
 ((oA ((fS,ig,fR),tw i9 (256:Int))).aa (fun(gQ,mh,nP,lB)=>
 (eB di (U cQ)).aa (fun PG=>
 (dJ cQ (aL 0 PG)).aa (fun Bb=>
 (ae 0 (U fz) (U fz)).aa (fun _=>
 (ae 0 (U cQ) (U (dd cQ (aL 0 PG) gQ))).aa (fun _=>
 some (Sum.inl ((i9,cd,cm,cO,aY .i64 di 1),(mh,nP,lB),(fZ,dR),(dk,gF),fz,dd cQ (aL 0 PG) gQ))))))))
 ((ae 0 (U fz) (U fz)).aa (fun _=>
 (ae 0 (U cQ) (U cQ)).aa (fun _=>
 some (Sum.inl ((i9,cd,cm,cO,aY .i64 di 1),(fS,ig,fR),(fZ,dR),(dk,gF),fz,cQ)))))))
 (((ae 0 (U fz) (U fz)).aa (fun _=>
 (ae 0 (U cQ) (U cQ)).aa (fun _=>
 some (Sum.inl ((cd,cm),(fj,lA,dj),(fZ,dR),(dk,gF),fz,cQ))))).aa (fun dv=>
 some (Sum.inr dv))))
 ((i3,i4,i5,aO (U l8),(0:Int)),(l0,i1,i2),((0:Int),(0:Int)),(i6,i7),([]:List Int),l8))))
 (fun((ja,jp),(f8,mS,ky),(j8,mT),(lC,ii),nT,rD)=>
 aJ (bC (1:Int) ja)
 ((xH ((f8,mS,ky),(3:Int))).aa (fun(b45,ju,f6,iD)=>
 bO (aJ (b45)
 ((ae 0 (U nT) (U nT)).aa (fun _=>
 (ae 0 (U rD) (U rD)).aa (fun _=>
 bg NN (fun(((lD,jq),(qh,jP,kA),(pY,El),(pZ,me),qj,jv):((Int×Int)×(((List Int)×(Int×Int))×((Int×Int)×((Int×Int)×((List Int)×(List Int)))))))=>
 aJ (bC jq lD)
 ((eB jq (U jv)).aa (fun k60=>
 (dJ jv (aL 0 k60)).aa (fun sL=>
 (eB (aY .i64 lD jq) (U jv)).aa (fun PI=>
 (dJ jv (aL 0 PI)).aa (fun lE=>
 (ae 0 (U qj) (U qj)).aa (fun _=>
 (ae 0 (U jv) (U (dd jv (aL 0 PI) sL))).aa (fun _=>
 some (Sum.inl ((lD,aY .i64 jq 1),(qh,jP,kA),(pY,El),(pZ,me),qj,dd jv (aL 0 PI) sL)))))))))
 (((ae 0 (U qj) (U qj)).aa (fun _=>
 (ae 0 (U jv) (U jv)).aa (fun _=>
 some (Sum.inl ((qh,jP,kA),(pY,El),(pZ,me),qj,jv))))).aa (fun nX=>
 some (Sum.inr nX))))
 ((jp,(0:Int)),(ju,f6,iD),(j8,mT),(lC,ii),nT,rD))))
 ((ae 0 (U nT) (U nT)).aa (fun _=>
 (ae 0 (U rD) (U rD)).aa (fun _=>
 some (Sum.inl ((ju,f6,iD),(j8,mT),(lC,ii),nT,rD))))))
 (fun((mY,sN,ry),(uL,JD),(uM,uN),J7,BN)=>
 (dg BN 0 (U BN)).aa (fun lK=>
 some ((uM,uN,lK),mY,sN,ry)))))
 (bO ((ae 0 (U nT) (U nT)).aa (fun _=>
 (ae 0 (U rD) (U rD)).aa (fun _=>
 some (Sum.inl ((f8,mS,ky),(j8,mT),(lC,ii),nT,rD)))))
 (fun((iI,kB,jr),(jb,gj),(gR,sO),eX,fm)=>
 (dg fm 0 (U fm)).aa (fun n3=>
 some ((gR,sO,n3),iI,kB,jr)))))))
def vD:(((List Int)×(Int×Int))×(Int×(Int×Int)))->(Option ((Int×(Int×(List Int)))×((List Int)×(Int×Int)))):=Gc aB
theorem ae5 (x:(((List Int)×(Int×Int))×(Int×(Int×Int)))) (z:((Int×(Int×(List Int)))×((List Int)×(Int×Int)))) (h:vD x=some z):Gc aB x=some z:=h
def Hm:au:=[(.ptr,[.list [.int .u8],.int .i64,.int .i64]),(.one,[.int .i64]),(.one,[.int .i64]),(.one,[.int .i64])]
def S1:au:=[(.agg,[.int .i64,.int .i64,.list [.int .i64],.list [.int .i64,.int .i64,.list [.int .i64]],.list [.int .i64]]),(.ptr,[.list [.int .u8],.int .i64,.int .i64])]
def akJ:be:=[[some .aA]]
def Gk (NN:Nat):(((List Int)×(Int×Int))×(Int×(Int×Int)))->(Option ((Int×(Int×((List Int)×((List (Int×(Int×(List Int))))×(List Int)))))×((List Int)×(Int×Int)))):=
 (fun(((l0,i1,i2),i3,i4,i5):(((List Int)×(Int×Int))×(Int×(Int×Int))))=>
 (vD ((l0,i1,i2),i3,(1:Int),i4)).aa (fun((i6,i7,l8),l9,cd,cm)=>
 (vD ((l9,cd,cm),i3,(1:Int),i4)).aa (fun((cO,di,fj),bK,dj,fZ)=>
 bO ((ae 0 0 (U (([]:List Int)))).aa (fun _=>
 (ae 0 0 (U (([]:List (Int×(Int×(List Int))))))).aa (fun _=>
 (ae 0 0 (U (([]:List Int)))).aa (fun _=>
 (ae 0 0 (U (([]:List (Int×(Int×(List Int))))))).aa (fun _=>
 bg NN (fun(((dR,dk,gF),(fz,jN,ie),(gi,ig),(fR,gQ,mh,gV),fA,gW,dn,dv):((Int×(Int×Int))×(((List Int)×(Int×Int))×((Int×Int)×((Int×(Int×((List Int)×(List Int))))×((List Int)×((List (Int×(Int×(List Int))))×((List Int)×(List (Int×(Int×(List Int))))))))))))=>
 aJ (bC (0:Int) gF)
 ((vD ((fz,jN,ie),dR,dk,dk)).aa (fun((ja,jp,f8),eN,ky,j8)=>
 (ae 0 (U dv) (U dv)).aa (fun _=>
 (ae 0 1 (U (((ja,jp,f8)::([]:List (Int×(Int×(List Int)))))))).aa (fun _=>
 (ir (aL (U dv) (U (((ja,jp,f8)::([]:List (Int×(Int×(List Int)))))))) 40).aa (fun _=>
 (ae 0 (U fA) (U fA)).aa (fun _=>
 (ae 0 (U gW) (U gW)).aa (fun _=>
 (ae 0 (U dn) (U dn)).aa (fun _=>
 (ae 0 (aL (U dv) (U (((ja,jp,f8)::([]:List (Int×(Int×(List Int)))))))) (U (bU dv (((ja,jp,f8)::([]:List (Int×(Int×(List Int))))))))).aa (fun _=>
 some (Sum.inl ((dR,dk,nh .i64 gF 1),(eN,ky,j8),(gi,ig),(fR,gQ,mh,gV),fA,gW,dn,bU dv (((ja,jp,f8)::([]:List (Int×(Int×(List Int)))))))))))))))))
 (((ae 0 (U fA) (U fA)).aa (fun _=>
 (ae 0 (U gW) (U gW)).aa (fun _=>
 (ae 0 (U dn) (U dn)).aa (fun _=>
 (ae 0 (U dv) (U dv)).aa (fun _=>
 some (Sum.inl ((fz,jN,ie),(gi,ig),(fR,gQ,mh,gV),fA,gW,dn,dv))))))).aa (fun fk=>
 some (Sum.inr fk))))
 ((i3,i4,i5),(bK,dj,fZ),((0:Int),(0:Int)),(i3,i4,l8,fj),([]:List Int),([]:List (Int×(Int×(List Int)))),([]:List Int),([]:List (Int×(Int×(List Int))))))))))
 (fun((kF,ii,iB),(jO,iC),(mU,f6,nU,jd),nV,qh,rF,lJ)=>
 (dg lJ 0 (U lJ)).aa (fun eW=>
 some ((mU,f6,nU,eW,jd),kF,ii,iB))))))
def xL:(((List Int)×(Int×Int))×(Int×(Int×Int)))->(Option ((Int×(Int×((List Int)×((List (Int×(Int×(List Int))))×(List Int)))))×((List Int)×(Int×Int)))):=Gk aB
theorem afe (x:(((List Int)×(Int×Int))×(Int×(Int×Int)))) (z:((Int×(Int×((List Int)×((List (Int×(Int×(List Int))))×(List Int)))))×((List Int)×(Int×Int)))) (h:xL x=some z):Gk aB x=some z:=h
def GW:au:=[(.one,[.list [.int .u8]]),(.one,[.int .i64])]
def SD:au:=[(.agg,[.int .i64,.int .i64,.list [.int .i64],.list [.int .i64,.int .i64,.list [.int .i64]],.list [.int .i64]]),(.agg,[.int .i64,.int .i64,.list [.int .i64],.list [.int .i64,.int .i64,.list [.int .i64]],.list [.int .i64]])]
def akq:be:=[[some .aA]]
def F4 (NN:Nat):((List Int)×Int)->(Option ((Int×(Int×((List Int)×((List (Int×(Int×(List Int))))×(List Int)))))×(Int×(Int×((List Int)×((List (Int×(Int×(List Int))))×(List Int))))))):=
 (fun((l0,i1):((List Int)×Int))=>
 (xO (l0,i1)).aa (fun(l2,i3,i4)=>
 (dq (((2:Int)::((3:Int)::((7:Int)::((101:Int)::([]:List Int)))))) 4).aa (fun l5=>
 (zQ ((l2,i3,i4),l5)).aa (fun(i6,l7,i8,i9)=>
 (oA ((l7,i8,i9),(3:Int))).aa (fun(cd,eU,cO,di)=>
 (oA ((eU,cO,di),(4:Int))).aa (fun(c9,bK,dj,fZ)=>
 (xL ((bK,dj,fZ),i6,c9,aY .i64 (1:Int) cd)).aa (fun((dR,dk,eo,fz,cQ),fJ,gi,ig)=>
 (oA ((fJ,gi,ig),(4:Int))).aa (fun(fR,uV,f0,nP)=>
 (xL ((uV,f0,nP),i6,fR,aY .i64 (1:Int) cd)).aa (fun((lB,j7,dn,dv,fb),lI,mR,mS)=>
 some ((dR,dk,eo,fz,cQ),lB,j7,dn,dv,fb))))))))))
def zM:((List Int)×Int)->(Option ((Int×(Int×((List Int)×((List (Int×(Int×(List Int))))×(List Int)))))×(Int×(Int×((List Int)×((List (Int×(Int×(List Int))))×(List Int))))))):=F4 aB
theorem aeU (x:((List Int)×Int)) (z:((Int×(Int×((List Int)×((List (Int×(Int×(List Int))))×(List Int)))))×(Int×(Int×((List Int)×((List (Int×(Int×(List Int))))×(List Int))))))) (h:zM x=some z):F4 aB x=some z:=h
def GX:au:=[(.one,[.list [.int .u8]]),(.one,[.int .i64]),(.one,[.int .i64])]
def SE:au:=[(.one,[.list [.int .i64]])]
def akr:be:=[[some .aA]]
def F5 (NN:Nat):((List Int)×(Int×Int))->(Option (List Int)):=
 (fun((l0,i1,i2):((List Int)×(Int×Int)))=>
 (xO (l0,i1)).aa (fun(l3,i4,i5)=>
 (oA ((l3,i4,i5),(7:Int))).aa (fun(i6,l7,i8,i9)=>
 bO ((ae 0 0 (U (([]:List Int)))).aa (fun _=>
 bg NN (fun(((cd,cm),(dW,di,c9),bK):((Int×Int)×(((List Int)×(Int×Int))×(List Int))))=>
 aJ (bC (0:Int) cm)
 ((oA ((dW,di,c9),cd)).aa (fun(dj,ct,dR,dk)=>
 (ae 0 (U bK) (U bK)).aa (fun _=>
 (dg ((dj::([]:List Int))) 0 1).aa (fun eo=>
 (ir (aL (U bK) (U eo)) 8).aa (fun _=>
 (ae 0 (aL (U bK) (U eo)) (U (bU bK eo))).aa (fun _=>
 some (Sum.inl ((cd,nh .i64 cm 1),(ct,dR,dk),bU bK eo))))))))
 (((ae 0 (U bK) (U bK)).aa (fun _=>
 some (Sum.inl bK))).aa (fun fz=>
 some (Sum.inr fz))))
 ((i2,i6),(l7,i8,i9),([]:List Int))))
 (fun cQ=>
 (dg cQ 0 (U cQ)).aa (fun fJ=>
 some fJ)))))
def zN:((List Int)×(Int×Int))->(Option (List Int)):=F5 aB
theorem aeV (x:((List Int)×(Int×Int))) (z:(List Int)) (h:zN x=some z):F5 aB x=some z:=h
theorem aaj {p:Int} (h:2<=p):1<=tw p 256/\tw p 256<=p:=by rw[aah];omega
theorem Qn {α:Type} (l:List α):U l=l.length:=rfl
theorem MR (c:Cu) (p:Int) (r k:Nat) (h:jV c) (hp:cP p) (hr:r<=100) (hk:k<=100):
  ∃d c',vD (c,p,(r:Int),(k:Int))=some (((r:Int),(k:Int),d),c')/\d.length=r*k/\dG p d/\jV c':=by
 obtain⟨cl,ci,ch⟩:=c
 have hrk:r*k<=10000:=by
  have:=Nat.mul_le_mul hr hk
  omega
 simp only[vD,Gc]
 rw[Kk (by omega) (by omega) (by omega)]
 simp only[ak,wa,bQ]
 generalize hL:bg aB _ _=o
 obtain⟨s,rfl,c',d,rfl,cj,hl,hd⟩:∃s,o=some s/\∃(c':Cu) (d:List Int),s=Sum.inl (((r:Int),(k:Int)),c',(0,0),((r:Int),(k:Int)),[],d)/\jV c'/\d.length=r*k/\dG p d:=by
  rw[<-hL]
  refine BS (r*k) (fun j (s:((Int×(Int×(Int×(Int×Int))))×(((List Int)×(Int×Int))×((Int×Int)×((Int×Int)×((List Int)×(List Int)))))))=>∃(c':Cu) (d:List Int),s=((p,(r:Int),(k:Int),((r*k:Nat):Int),(j:Int)),c',(0,0),((r:Int),(k:Int)),[],d)/\jV c'/\d.length=r*k/\dG p d) _ ?_ ?_ ?_ (cN (by omega))
  ·rintro j s hj ⟨⟨l1,i1,h1⟩,d,rfl,hc,hl,hd⟩
   dsimp only
   rw[aQ (dZ (by omega))]
   obtain⟨b,⟨l2,i2,h2⟩,e2,hc⟩:=aaz _ 3 hc (by decide)
   rw[e2]
   simp only[ak]
   cases b
   ·rw[aQ (show fC false=true from rfl)]
    obtain⟨x,⟨l3,i3,h3⟩,e3,hx,_,hc⟩:=vP _ (tw p 256) hc (aaj hp.1).1
    have hm:=(aaj hp.1).2
    rw[e3]
    simp only[ak]
    have iU:j<d.length:=by omega
    rw[vT (show j<U d by rw[Qn];exact iU)]
    simp only[ak,mF]
    rw[show dJ d j=some d[j] from List.getElem?_eq_getElem iU]
    simp only[ak]
    rw[show ae 0 (U d) (U (dd d j x))=some () from Av (by simp[U,dd])]
    simp only[ak]
    rw[jl (by omega) (by omega)]
    refine⟨_,rfl,_,_,rfl,hc,by unfold dd;rw[List.length_set];exact hl,?_⟩
    intro e he
    unfold dd at he
    rcases List.mem_or_eq_of_mem_set he with h|h
    ·exact hd e h
    ·subst h;exact⟨hx.1,by omega⟩
   ·rw[aN (show fC true=false from rfl)]
    rw[jl (by omega) (by omega)]
    exact⟨_,rfl,_,_,rfl,hc,hl,hd⟩
  ·rintro s ⟨⟨l1,i1,h1⟩,d,rfl,hc,hl,hd⟩
   dsimp only
   rw[aN (dX (by omega))]
   exact⟨_,rfl,_,_,rfl,hc,hl,hd⟩
  ·refine⟨_,_,?_,h,jY r k _,k9.2 (fun i j _ _=>⟨Int.le_refl _,by have:=hp.1;omega⟩)⟩
   rw[show aO (U (ao r k fun _ _=>0))=((r*k:Nat):Int) by unfold aO U;rw[jY]]
   rfl
 obtain⟨l1,i1,h1⟩:=c'
 simp only[bO,Option.bind,Option.aa]
 by_cases hc:1<r
 ·rw[aQ (dZ (by omega))]
  obtain⟨b,⟨l2,i2,h2⟩,e2,wh⟩:=aaz _ 3 cj (by decide)
  rw[e2]
  dsimp only
  cases b
  ·simp only[HO,bQ,il]
   exact⟨_,_,rfl,hl,hd,wh⟩
  ·simp only[Ag,bQ,il]
   generalize hL:bg aB _ _=o
   obtain⟨s,rfl,d',rfl,dt,Oa⟩:∃s,o=some s/\∃(d':List Int),s=Sum.inl ((l2,i2,h2),(0,0),((r:Int),(k:Int)),[],d')/\d'.length=r*k/\dG p d':=by
    rw[<-hL]
    refine BS k (fun j (s:((Int×Int)×(((List Int)×(Int×Int))×((Int×Int)×((Int×Int)×((List Int)×(List Int)))))))=>∃(d:List Int),s=(((k:Int),(j:Int)),(l2,i2,h2),(0,0),((r:Int),(k:Int)),[],d)/\d.length=r*k/\dG p d) _ ?_ ?_ ⟨_,rfl,hl,hd⟩ (cN (by omega))
    ·rintro j s hj ⟨d,rfl,hl,hd⟩
     dsimp only
     have ao3:2*k<=r*k:=Nat.mul_le_mul_right k hc
     rw[aQ (dZ (by omega))]
     have Ot:j<d.length:=by omega
     have DR:k+j<d.length:=by omega
     rw[jl (by omega) (by omega),show((k:Int)+(j:Int))=((k+j:Nat):Int) by push_cast;rfl]
     rw[vT (show j<U d by rw[Qn];exact Ot),vT (show k+j<U d by rw[Qn];exact DR)]
     simp only[mF]
     rw[show dJ d j=some d[j] from List.getElem?_eq_getElem Ot,show dJ d (k+j)=some d[k+j] from List.getElem?_eq_getElem DR]
     dsimp only
     rw[show ae 0 (U d) (U (dd d (k+j) d[j]))=some () from Av (by simp[U,dd])]
     dsimp only
     rw[jl (by omega) (by omega)]
     refine⟨_,rfl,_,rfl,by unfold dd;rw[List.length_set];exact hl,?_⟩
     intro e he
     unfold dd at he
     rcases List.mem_or_eq_of_mem_set he with h|h
     ·exact hd e h
     ·subst h;exact hd _ (List.getElem_mem Ot)
    ·rintro s ⟨d,rfl,hl,hd⟩
     dsimp only
     rw[aN (dX (by omega))]
     exact⟨_,rfl,_,rfl,hl,hd⟩
   simp only[il]
   exact⟨_,_,rfl,dt,Oa,wh⟩
 ·rw[aN (dX (by omega))]
  simp only[bQ,il]
  exact⟨_,_,rfl,hl,hd,cj⟩
theorem VP (c:Cu) (p:Int) (n t:Nat) (h:jV c) (hp:du p=true) (hn:n<=12) (ht:1<=t/\t<=4):
  ∃a ms b c',xL (c,p,(n:Int),(t:Int))=some ((p,(n:Int),a,ms,b),c')/\e8 p n a ms b/\ms.length=t/\jV c':=by
 have hq:cP p:=kD hp
 obtain⟨a,⟨l1,i1,h1⟩,e1,hla,ha,hc⟩:=MR _ p 1 n h hq (by omega) (by omega)
 obtain⟨b,⟨l2,i2,h2⟩,e2,hlb,hb,hc⟩:=MR _ p 1 n hc hq (by omega) (by omega)
 obtain⟨cl,ci,ch⟩:=c
 simp only[xL,Gk]
 rw[show(1:Int)=((1:Nat):Int) from rfl,e1]
 simp only[ak]
 rw[e2]
 simp only[ak,wa,bQ]
 generalize hL:bg aB _ _=o
 obtain⟨s,rfl,c',ms,rfl,cj,hl,hm⟩:∃s,o=some s/\∃(c':Cu) (ms:List cT),s=Sum.inl (c',(0,0),(p,(n:Int),a,b),[],[],[],ms)/\jV c'/\ms.length=t/\∀x∈ms,∃M:bf,x=((n:Int),(n:Int),ao n n M)/\da p n n M:=by
  rw[<-hL]
  refine BS t (fun j (s:((Int×(Int×Int))×(((List Int)×(Int×Int))×((Int×Int)×((Int×(Int×((List Int)×(List Int))))×((List Int)×((List (Int×(Int×(List Int))))×((List Int)×(List (Int×(Int×(List Int))))))))))))=>∃(c':Cu) (ms:List cT),s=((p,(n:Int),(t:Int) - j),c',(0,0),(p,(n:Int),a,b),[],[],[],ms)/\jV c'/\ms.length=j/\∀x∈ms,∃M:bf,x=((n:Int),(n:Int),ao n n M)/\da p n n M) _ ?_ ?_ ?_ (cN (by omega))
  ·rintro j s hj ⟨⟨l3,i3,h3⟩,ms,rfl,hc,hl,hm⟩
   dsimp only
   rw[aQ (dZ (by omega))]
   obtain⟨d,⟨l4,i4,h4⟩,e4,X6,hd,hc⟩:=MR _ p n n hc hq (by omega) (by omega)
   rw[e4]
   simp only[ak,bQ,Au]
   rw[show ae 0 1 (U [((n:Int),(n:Int),d)])=some () from bQ 1]
   simp only[ak]
   rw[jH (by simp only[aL,U,List.length_cons,List.length_nil];rw[hl];have:dK=140737488355328:=rfl;omega)]
   simp only[ak]
   rw[ph (by omega) (by omega),show(t:Int) - (j:Int) - ((1:Nat):Int)=(t:Int) - ((j+1:Nat):Int) by omega]
   refine⟨_,rfl,_,_,rfl,hc,by simp[bU,hl],?_⟩
   intro x hx
   rcases List.mem_append.1 hx with h|h
   ·exact hm x h
   ·rw[List.mem_singleton] at h
    subst h
    exact⟨cE n d,by rw[pI (r:=n) (c:=n) X6],tB X6 hd⟩
  ·rintro s ⟨⟨l3,i3,h3⟩,ms,rfl,hc,hl,hm⟩
   dsimp only
   rw[aN (dX (by omega))]
   exact⟨_,rfl,_,_,rfl,hc,hl,hm⟩
  ·exact⟨_,_,by rw[show(t:Int) - ((0:Nat):Int)=(t:Int) by omega],hc,rfl,fun x hx=>absurd hx (by simp)⟩
 obtain⟨l5,i5,h5⟩:=c'
 simp only[bO,Option.bind,Option.aa,il]
 refine⟨_,_,_,_,rfl,⟨hp,hn,by omega,ha,by omega,hb,by omega,by omega,hm⟩,hl,cj⟩
theorem amR:du 2=true:=by decide+kernel
theorem amS:du 3=true:=by decide+kernel
theorem amV:du 7=true:=by decide+kernel
theorem amQ:du 101=true:=by decide+kernel
theorem amP:du 1000003=true:=by decide+kernel
theorem amU {x:Int} (h:x∈[(2:Int),3,7,101,1000003]):du x=true:=by
 simp only[List.mem_cons,List.not_mem_nil,or_false] at h
 rcases h with rfl|rfl|rfl|rfl|rfl
 ·exact amR
 ·exact amS
 ·exact amV
 ·exact amQ
 ·exact amP
theorem amT {x:Int} (h:x∈[(2:Int),3,7,101]):du x=true:=amU (by simp only[List.mem_cons,List.not_mem_nil,or_false] at h⊢;omega)
theorem acW (l:List Int) (n:Int) (h:l.length<=1048576) (hn:0<=n):
  ∃(p:Int) (u v t:Nat) (a:List Int) (ms:List cT) (b a':List Int) (EL:List cT) (b':List Int),zM (l,n)=some ((p,(u:Int),a,ms,b),(p,(v:Int),a',EL,b'))/\
   e8 p u a ms b/\e8 p v a' EL b'/\ms.length=t/\EL.length=t/\u<=3/\v<=3/\t<=3:=by
 obtain⟨⟨l1,i1,k1⟩,e1,hc⟩:=VM l n h hn
 obtain⟨p,⟨l2,i2,k2⟩,e2,hp,hc⟩:=amM _ [(2:Int),3,7,101] hc (by simp) (by simp)
 obtain⟨t,⟨l3,i3,k3⟩,e3,ht,_,hc⟩:=vP _ 3 hc (by decide)
 obtain⟨u,⟨l4,i4,k4⟩,e4,hu,_,hc⟩:=vP _ 4 hc (by decide)
 obtain⟨t,rfl⟩:=f9 ht.1
 obtain⟨u,rfl⟩:=f9 hu.1
 have hP:=amT hp
 obtain⟨a,ms,b,⟨l5,i5,k5⟩,e5,hA,hlA,hc⟩:=VP _ p u (1+t) hc hP (by omega) (by omega)
 obtain⟨v,⟨l6,i6,k6⟩,e6,hv,_,hc⟩:=vP _ 4 hc (by decide)
 obtain⟨v,rfl⟩:=f9 hv.1
 obtain⟨a',EL,b',⟨l7,i7,k7⟩,e7,hB,hlB,hc⟩:=VP _ p v (1+t) hc hP (by omega) (by omega)
 simp only[zM,F4]
 rw[e1]
 simp only[ak,dq,List.length_cons,List.length_nil,Nat.le_refl,if_true,List.take]
 rw[e2]
 simp only[ak]
 rw[e3]
 simp only[ak]
 rw[e4]
 simp only[ak]
 rw[jl (by omega) (by omega),show(1:Int)+(t:Int)=((1+t:Nat):Int) by push_cast;rfl,e5]
 simp only[ak]
 rw[e6]
 simp only[ak]
 rw[e7]
 exact⟨p,u,v,1+t,a,ms,b,a',EL,b',rfl,hA,hB,hlA,hlB,by omega,by omega,by omega⟩
theorem acX (l:List Int) (n m:Int) (h:l.length<=1048576) (hn:0<=n) (hm:1<=m):
  ∃w,zN (l,n,m)=some w/\w.length<=6/\dG m w:=by
 obtain⟨⟨l1,i1,k1⟩,e1,hc⟩:=VM l n h hn
 obtain⟨t,⟨l3,i3,k3⟩,e3,ht,_,hc⟩:=vP _ 7 hc (by decide)
 obtain⟨t,rfl⟩:=f9 ht.1
 simp only[zN,F5]
 rw[e1]
 simp only[ak]
 rw[e3]
 simp only[ak,wa]
 generalize hL:bg aB _ _=o
 obtain⟨s,rfl,w,rfl,hl,hw⟩:∃s,o=some s/\∃(w:List Int),s=Sum.inl w/\w.length=t/\dG m w:=by
  rw[<-hL]
  refine BS t (fun j (s:((Int×Int)×(((List Int)×(Int×Int))×(List Int))))=>∃(c':Cu) (w:List Int),s=((m,(t:Int) - j),c',w)/\jV c'/\w.length=j/\dG m w) _ ?_ ?_ ?_ (cN (by omega))
  ·rintro j s hj ⟨⟨l3,i3,h3⟩,w,rfl,hc,hl,hw⟩
   dsimp only
   rw[aQ (dZ (by omega))]
   obtain⟨x,⟨l4,i4,h4⟩,e4,hx,_,hc⟩:=vP _ m hc hm
   rw[e4]
   simp only[ak,bQ,Au,CL (xs:=[x]) (n:=1) rfl]
   rw[jH (by simp only[aL,U,List.length_cons,List.length_nil];rw[hl];have:dK=140737488355328:=rfl;omega)]
   simp only[ak]
   rw[ph (by omega) (by omega),show(t:Int) - (j:Int) - (1:Int)=(t:Int) - ((j+1:Nat):Int) by omega]
   refine⟨_,rfl,_,_,rfl,hc,by simp[bU,hl],?_⟩
   intro y hy
   rcases List.mem_append.1 hy with h|h
   ·exact hw y h
   ·rw[List.mem_singleton] at h
    subst h
    exact hx
  ·rintro s ⟨⟨l3,i3,h3⟩,w,rfl,hc,hl,hw⟩
   dsimp only
   rw[aN (dX (by omega))]
   simp only[bQ,ak]
   exact⟨_,rfl,_,rfl,hl,hw⟩
  ·exact⟨_,_,by rw[show(t:Int) - ((0:Nat):Int)=(t:Int) by omega],hc,rfl,fun x hx=>absurd hx (by simp)⟩
 simp only[bO,Option.bind,Option.aa,il]
 exact⟨w,rfl,by omega,hw⟩
end Go.Am
end
