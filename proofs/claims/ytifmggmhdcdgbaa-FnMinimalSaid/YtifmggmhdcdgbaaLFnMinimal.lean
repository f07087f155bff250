/- L_FnMinimal: the law FnMinimal. No condition. -/
import Derived.Test.YtifmggmhdcdgbaaM37
import Derived.Test.YtifmggmhdcdgbaaM37
import Derived.Test.YtifmggmhdcdgbaaM37
import Derived.Test.YtifmggmhdcdgbaaM37
set_option linter.unusedVariables false
set_option linter.unusedSimpArgs false
namespace Go.Am
theorem nc {α β:Type} (x:α) (f:α->Option β):(some x).ab f=f x:=by
 have h:∀o:Option α,o=some x->o.ab f=f x:=by intro o h;subst h;rfl
 exact h _ rfl
theorem aaY {α:Type} (x y:α):aY true x y=x:=rfl
section
variable {p:Int} {n:Nat} {s b:List Int} {ms:List bJ}
theorem HQ (H:cM p n s ms b):rl (p,(n:Int),s,ms,b)=some (qS (p,(n:Int),s,ms,b)):=by
 have:=ry H
 simp only[rl,Jt]
 rw[if_pos (by omega),if_pos (sZ H)]
theorem aid (H:cM p n s ms b):jf (p,(n:Int),s,ms,b)=some true:=by
 have:=ry H
 simp only[jf]
 rw[if_pos (by omega),sZ H]
theorem ai6 (H:cM p n s ms b):wD (p,(n:Int),s,ms,b)=some (cZ (p,(n:Int),s,ms,b)).1:=by
 have:=ry H
 simp only[wD]
 rw[if_pos (by omega),if_pos (sZ H)]
theorem S3 {m:Nat} {s2 b2:List Int} {ms2:List bJ} (H:cM p n s ms b) (H2:cM p m s2 ms2 b2) (hl:ms.length=ms2.length) (VE:n+m<=12):
  uq ((p,(n:Int),s,ms,b),p,(m:Int),s2,ms2,b2)=some ((p,((n+m:Nat):Int),s++s2,d9 n m ms ms2 ms.length,b++b2),true):=by
 have z1:=ry H
 have z2:=ry H2
 simp only[uq,Jr]
 rw[if_pos ⟨by omega,by omega⟩,if_pos ⟨JS H H2 hl,by omega⟩]
 simp only[wl,Int.toNat_natCast,XP H2.bp]
theorem aa8 {m:Nat} {s2 b2:List Int} {ms2:List bJ} (H:cM p n s ms b) (H2:cM p m s2 ms2 b2) (hl:ms.length=ms2.length) (hW:∀w,fe ms.length w->dH ((p,(m:Int),s2,ms2,b2),w)=dH ((p,(n:Int),s,ms,b),w)):
  wA ((p,(n:Int),s,ms,b),p,(m:Int),s2,ms2,b2)=some ([],false):=by
 have z1:=ry H
 have z2:=ry H2
 simp only[wA,Js]
 rw[if_pos ⟨by omega,by omega⟩,if_pos (JS H H2 hl)]
 unfold Gf
 have qL:=T2 H H2 hl
 have:(cZ (rF (p,(n:Int),s,ms,b) (p,(m:Int),s2,ms2,b2))).1.find? (fun w=>decide (dH (rF (p,(n:Int),s,ms,b) (p,(m:Int),s2,ms2,b2),w)≠0))=none:=by
  rw[List.find?_eq_none]
  intro w hw hd
  exact of_decide_eq_true hd ((alg H H2 hl (qL w hw).1).2 (hW w (qL w hw).1).symm)
 rw[this]
end
def uE:av:=[(.one,[.list [.int .u8]])]
def Qk:av:=[(.one,[.bool])]
def ag4:bo:=[]
def EM (NN:Nat):(List Int)->(Option Bool):=
 (fun(l0:(List Int))=>
 aY (cr (1048576:Int) (bj (aa l0)))
 (some true)
 ((yW (l0,(0:Int))).ab (fun((i1,i2,l3,l4,l5),i6,i7,l8,l9,jU)=>
 (rl (i1,i2,l3,l4,l5)).ab (fun(da,c7,eA,cI,ca)=>
 (yX (l0,(100:Int),bj (aa l4))).ab (fun iU=>
 (cv eA 0 (aa eA)).ab (fun dw=>
 (cv cI 0 (aa cI)).ab (fun fG=>
 (cv ca 0 (aa ca)).ab (fun f8=>
 (wA ((i1,i2,l3,l4,l5),da,c7,dw,fG,f8)).ab (fun(e8,b21)=>
 (uq ((i1,i2,l3,l4,l5),i6,i7,l8,l9,jU)).ab (fun((jt,fk,fm,dz,cP),b27)=>
 (uq ((i6,i7,l8,l9,jU),i1,i2,l3,l4,l5)).ab (fun((iR,tL,jz,lY,eJ),b33)=>
 (cv fm 0 (aa fm)).ab (fun lr=>
 (cv dz 0 (aa dz)).ab (fun sn=>
 (cv cP 0 (aa cP)).ab (fun ky=>
 (rl (jt,fk,lr,sn,ky)).ab (fun(lf,lR,iV,fy,lv)=>
 (cv jz 0 (aa jz)).ab (fun Dl=>
 (cv lY 0 (aa lY)).ab (fun lZ=>
 (cv eJ 0 (aa eJ)).ab (fun pD=>
 (rl (iR,tL,Dl,lZ,pD)).ab (fun(lS,lT,tQ,jW,fP)=>
 (cv eA 0 (aa eA)).ab (fun iW=>
 (cv cI 0 (aa cI)).ab (fun jX=>
 (cv ca 0 (aa ca)).ab (fun iY=>
 (jf (da,c7,iW,jX,iY)).ab (fun b53=>
 aY (b53)
 (aY (tS c7 i2)
 (aY (me b21)
 ((cv eA 0 (aa eA)).ab (fun jY=>
 (cv cI 0 (aa cI)).ab (fun gL=>
 (cv ca 0 (aa ca)).ab (fun mO=>
 (uu ((da,c7,jY,gL,mO),iU)).ab (fun kw=>
 (uu ((i1,i2,l3,l4,l5),iU)).ab (fun mM=>
 aY (fU kw mM)
 (aY (b27)
 (aY (b33)
 (aY (fU lR lT)
 ((cv eA 0 (aa eA)).ab (fun jA=>
 (cv cI 0 (aa cI)).ab (fun AG=>
 (cv ca 0 (aa ca)).ab (fun sq=>
 (rl (da,c7,jA,AG,sq)).ab (fun(oq,nw,pE,qP,tR)=>
 aY (fU nw c7)
 ((dc eA (aa eA)).ab (fun vC=>
 (dc cI (aa cI)).ab (fun vD=>
 (dc ca (aa ca)).ab (fun ly=>
 (wD (da,c7,vC,vD,ly)).ab (fun iZ=>
 some (fU (bj (aa iZ)) c7))))))
 (some false))))))
 (some false))
 (some false))
 (some false))
 (some false)))))))
 (some false))
 (some false))
 (some false))))))))))))))))))))))))
def Jq:List Int->Option Bool:=fun _=>some true
theorem aad (l0:List Int):EM aN l0=some true:=by
 simp only[EM]
 by_cases hl:l0.length<=1048576
 ·rw[bG (eU (by unfold bj aa;omega))]
  obtain⟨p,n,m,t,a,ms,b,a2,ms2,b2,e1,H,H2,h1,h2,hn,hm,ht⟩:=aaf l0 0 hl (by decide)
  have Vy:=H.l1
  obtain⟨w,e2,hwl,hw⟩:=aag l0 100 (bj (aa ms)) hl (by decide) (by unfold bj aa;omega)
  rw[e1]
  simp only[nc]
  have tw:ms.length=ms2.length:=by omega
  have hW:fe ms.length w:=fun c hc=>hw c hc
  obtain⟨k,sm_,bm,mm,em,Hm,lm,ib,Wm⟩:=HS H
  rw[HQ H,em]
  simp only[nc]
  rw[e2]
  simp only[nc,iv]
  rw[aa8 H Hm lm.symm Wm]
  simp only[nc]
  rw[S3 H H2 tw (by omega)]
  simp only[nc]
  rw[S3 H2 H tw.symm (by omega)]
  simp only[nc,iv]
  have HC:=Tm H H2 (show n+m<=12 by omega) tw
  have HD:=Tm H2 H (show m+n<=12 by omega) tw.symm
  have WC:∀v,fe ms.length v->dH ((p,((n+m:Nat):Int),a++a2,d9 n m ms ms2 ms.length,b++b2),v)=dH ((p,((m+n:Nat):Int),a2++a,d9 m n ms2 ms ms2.length,b2++b),v):=fun v hv=>by
   rw[Z4 H H2 hv,Z4 H2 H (by rw[<-tw];exact hv),Int.add_comm]
  obtain⟨kc,sc,bc,mc,ec,Hc,lc,hkc,Wc⟩:=HS HC
  obtain⟨kd,sd,bd,md,ed,Hd,ld,hkd,Wd⟩:=HS HD
  rw[oN] at lc ld
  simp only[oN] at Wc Wd
  have q1:=HT HC Hd (by rw[oN];omega) (fun v hv=>by
   rw[oN] at hv
   rw[Wd v (by rw[<-tw];exact hv),WC v hv])
  have q2:=HT HD Hc (by rw[oN];omega) (fun v hv=>by
   rw[oN,<-tw] at hv
   rw[Wc v hv,WC v hv])
  rw[ec] at q1
  rw[ed] at q2
  rw[HQ HC,ec]
  simp only[nc]
  rw[HQ HD,ed]
  simp only[nc]
  rw[aid Hm]
  simp only[nc,aaY]
  rw[bH (Dn (by omega)),bH (by rfl),Z2 Hm (by omega) (by rw[lm];exact hW)]
  simp only[nc]
  rw[Z2 H (by omega) hW]
  simp only[nc]
  rw[Wm w hW,bH (show fU _ _=true from beq_self_eq_true _)]
  have hcd:kc=kd:=by dsimp only at q1 q2;omega
  rw[hcd,bH (show fU _ _=true from beq_self_eq_true _)]
  obtain⟨k2,s2_,b2_,m2_,e2_,H2_,l2_,LZ,SZ⟩:=HS Hm
  rw[lm] at l2_ SZ
  have r1:=HT H H2_ (by omega) (fun v hv=>by rw[SZ v hv,Wm v hv])
  rw[em] at r1
  rw[HQ Hm,e2_]
  simp only[nc]
  have rR:k2=k:=by dsimp only at r1;omega
  rw[rR,bH (show fU _ _=true from beq_self_eq_true _)]
  try simp only[kG,nc]
  rw[ai6 Hm]
  simp only[nc]
  obtain⟨k3,s3,b3,AO,R3,e3,H3,l3,q3,F3⟩:=CC Hm
  have u1:=HT H H3 (by omega) (fun v hv=>by rw[GG Hm H3 F3 (by rw[lm];exact hv),Wm v hv])
  rw[em] at u1
  have u2:=(vU Hm.b).kn
  rw[<-q3] at u2
  have L0:k3=k:=by dsimp only at u1;omega
  rw[show bj (aa (cZ (p,(k:Int),sm_,mm,bm)).1)=(k3:Int) by rw[q3];rfl,L0]
  rw[show fU (k:Int) (k:Int)=true from beq_self_eq_true _]
 ·rw[bH (eV (by unfold bj aa;omega))]
theorem ack (x:List Int) (y:Bool) (h:Jq x=some y):EM aN x=some y:=by
 rw[aad];exact h
end Go.Am
