/- L_FnDifferent: the law FnDifferent. No condition. -/
import Derived.Test.YtifmggmhdcdgbaaM37
import Derived.Test.YtifmggmhdcdgbaaM37
import Derived.Test.YtifmggmhdcdgbaaM37
set_option linter.unusedVariables false
set_option linter.unusedSimpArgs false
namespace Go.Am
theorem nC {α β:Type} (x:α) (f:α->Option β):(some x).aa f=f x:=by
 have h:∀o:Option α,o=some x->o.aa f=f x:=by intro o h;subst h;rfl
 exact h _ rfl
theorem ajX {X Y:Type} {f:X->Option (X⊕Y)} (n:Nat) (I:Nat->X->Prop) (Q:Y->Prop)
  (h1:∀i x,i<n->I i x->(∃r,f x=some (.inr r)/\Q r)\/∃x',f x=some (.inl x')/\I (i+1) x') (h2:∀x,I n x->∃r,f x=some (.inr r)/\Q r) {x0:X} (h0:I 0 x0) {N:Nat} (hN:n<N):∃r,bg N f x0=some r/\Q r:=by
 have cr:∀(k i:Nat) (x:X),i+k=n->I i x->∀N,k<N->∃r,bg N f x=some r/\Q r:=by
  intro k
  induction k with
  |zero=>
   intro i x hi hx N hN
   obtain⟨N,rfl⟩:∃m,N=m+1:=⟨N - 1,by omega⟩
   have:i=n:=by omega
   subst this
   obtain⟨r,hr,hq⟩:=h2 x hx
   exact⟨r,by show(match f x with|some (.inl x)=>bg N f x|some (.inr y)=>some y|none=>none)=_;rw[hr],hq⟩
  |succ k ih=>
   intro i x hi hx N hN
   obtain⟨N,rfl⟩:∃m,N=m+1:=⟨N - 1,by omega⟩
   rcases h1 i x (by omega) hx with⟨r,hr,hq⟩|⟨x',hr,dU⟩
   ·exact⟨r,by show(match f x with|some (.inl x)=>bg N f x|some (.inr y)=>some y|none=>none)=_;rw[hr],hq⟩
   ·obtain⟨r,h3,hq⟩:=ih (i+1) x' (by omega) dU N (by omega)
    exact⟨r,by show(match f x with|some (.inl x)=>bg N f x|some (.inr y)=>some y|none=>none)=_;rw[hr];exact h3,hq⟩
 exact cr n 0 x0 (by omega) h0 N hN
theorem Xd {q:Wd->Bool}:∀{l:List Wd} {w u:Wd},l.Pairwise ng->l.find? q=some w->u∈l->q u=true->ou w u
 |[],_,_,_,h,_,_=>by cases h
 |a::l,w,u,hs,h,hu,hq=>by
  obtain⟨s1,s2⟩:=List.pairwise_cons.1 hs
  cases ha:q a with
  |true=>
   rw[List.find?_cons_of_pos ha] at h
   injection h with h
   subst h
   cases hu with
   |head=>exact .inl rfl
   |tail _ hu=>exact .inr (s1 u hu)
  |false=>
   rw[List.find?_cons_of_neg (by rw[ha];simp)] at h
   cases hu with
   |head=>rw[ha] at hq;cases hq
   |tail _ hu=>exact Xd s2 h hu hq
theorem Z9:∀{w v:Wd},uZ w v->∀(i:Nat),(∀j,j<i->w[j]? =v[j]?)->∀a b,w[i]? =some a->v[i]? =some b->a≠b->a<b
 |[],_,h,_,_,_,_,_,_,_=>h.elim
 |_::_,[],h,_,_,_,_,_,_,_=>h.elim
 |a::u,b::v,h,0,_,x,y,hx,hy,ax=>by
  simp at hx hy
  subst hx hy
  rcases h with h|⟨h,_⟩
  ·exact h
  ·exact absurd h ax
 |a::u,b::v,h,i+1,hj,x,y,hx,hy,ax=>by
  have h0:=hj 0 (by omega)
  simp at h0
  rcases h with h|⟨_,h⟩
  ·omega
  ·exact Z9 h i (fun j oO=>by have:=hj (j+1) (by omega);simpa using this) x y (by simpa using hx) (by simpa using hy) ax
section
variable {p:Int} {n m:Nat} {a b a2 b2:List Int} {ms ms2:List cT}
theorem adU {x c:List Int} (hl:x.length=c.length):nF p x (c.map fun v=>v*(p - 1)%p)=nF p x c*(p - 1)%p:=by
 rw[yf,yf,Int.mul_emod,Int.emod_emod,<-Int.mul_emod,<-Ul]
 refine vj fun t ht=>?_
 have e:bX (c.map fun v=>v*(p - 1)%p) t=bX c t*(p - 1)%p:=by
  unfold bX
  rw[List.getD_eq_getElem?_getD,List.getElem?_map,List.getD_eq_getElem?_getD,List.getElem?_eq_getElem (show t<c.length by omega)]
  rfl
 rw[e,Int.mul_emod,Int.emod_emod,<-Int.mul_emod,Int.mul_assoc]
theorem acK (H:e8 p n a ms b) (H2:e8 p m a2 ms2 b2) (hl:ms.length=ms2.length) {w:List Int} (hw:jT ms.length w):
  dw (pA (p,(n:Int),a,ms,b) (p,(m:Int),a2,ms2,b2),w)=0↔dw ((p,(n:Int),a,ms,b),w)=dw ((p,(m:Int),a2,ms2,b2),w):=by
 rw[ye]
 have hp:=H.p
 have oP:=hp.1
 have u1:=acL (n:=n) (a:=a) (b:=b) (ms:=ms) (w:=w) hp
 have u2:=acL (n:=m) (a:=a2) (b:=b2) (ms:=ms2) (w:=w) hp
 have e:dw ((p,((n+m:Nat):Int),a++a2,cR n m ms ms2 ms.length,b++b2.map fun v=>v*(p - 1)%p),w)=(dw ((p,(n:Int),a,ms,b),w)+dw ((p,(m:Int),a2,ms2,b2),w)*(p - 1)%p)%p:=by
  unfold dw
  simp only[Int.toNat_natCast]
  rw[aaZ w a a2 H.al H2.al (fun c hc=>by have:=hw c hc;omega)]
  rw[adT (by rw[(u7 H.p w a H.al H.ap).1,H.bl]),adU (by rw[(u7 H.p w a2 H2.al H2.ap).1,H2.bl])]
 rw[e]
 generalize dw ((p,(n:Int),a,ms,b),w)=x at u1
 generalize dw ((p,(m:Int),a2,ms2,b2),w)=y at u2
 have e2:(x+y*(p - 1)%p)%p=(x - y)%p:=by
  rw[Int.add_emod,Int.emod_emod,<-Int.add_emod,show x+y*(p - 1)=(x - y)+p*y by grind,Int.add_mul_emod_self_left]
 rw[e2]
 constructor
 ·intro h
  have:=Int.dvd_of_emod_eq_zero h
  obtain⟨k,hk⟩:=this
  have II:k=0:=by
   by_cases h1:k>=1
   ·have:p*1<=p*k:=Int.mul_le_mul_of_nonneg_left h1 (by omega)
    omega
   ·by_cases h2:k<= -1
    ·have:p*k<=p*(-1):=Int.mul_le_mul_of_nonneg_left h2 (by omega)
     omega
    ·omega
  rw[II] at hk
  omega
 ·intro h
  rw[h,Int.sub_self,Int.zero_emod]
theorem adO (H:e8 p n a ms b) (H2:e8 p m a2 ms2 b2) (hl:ms.length=ms2.length) {v:List Int} (hv:jT ms.length v) (h0:dw (pA (p,(n:Int),a,ms,b) (p,(m:Int),a2,ms2,b2),v)≠0):
  ∃u∈(jS (pA (p,(n:Int),a,ms,b) (p,(m:Int),a2,ms2,b2))).1,ou u v/\dw (pA (p,(n:Int),a,ms,b) (p,(m:Int),a2,ms2,b2),u)≠0:=by
 have hB:=Ak H H2 hl
 rw[ye] at h0⊢
 have hI:=aaY hB
 generalize (jS (p,((n+m:Nat):Int),a++a2,cR n m ms ms2 ms.length,b++b2.map fun v=>v*(p - 1)%p))=S at hI
 obtain⟨J,hJ,eS,DE⟩:=Wy hB hI v.length v rfl (by rw[xu];exact hv)
 have hw:∀w:Wd,dw ((p,((n+m:Nat):Int),a++a2,cR n m ms ms2 ms.length,b++b2.map fun v=>v*(p - 1)%p),w)=sm (n+m) (fun t=>bX (cz p (n+m) (cR n m ms ms2 ms.length) (a++a2) w) t*bX (b++b2.map fun v=>v*(p - 1)%p) t)%p:=by
  intro w
  unfold dw
  simp only[Int.toNat_natCast]
  rw[yf,(u7 H.p w (a++a2) hB.al hB.ap).1]
 refine Classical.byContradiction fun cb=>h0 ?_
 rw[hw]
 refine ac1 DE fun i hi=>?_
 have hi':i<S.1.length:=by omega
 have hm:S.1[i]∈S.1.take J:=by rw[List.mem_take_iff_getElem];exact⟨i,by omega,rfl⟩
 have hz:dw ((p,((n+m:Nat):Int),a++a2,cR n m ms ms2 ms.length,b++b2.map fun v=>v*(p - 1)%p),S.1[i])=0:=Classical.byContradiction fun ax=>cb ⟨S.1[i],List.getElem_mem hi',eS _ hm,ax⟩
 rw[hw] at hz
 unfold RM
 rw[List.getD_eq_getElem?_getD,List.getElem?_eq_getElem hi']
 exact hz
end
def vL:au:=[(.one,[.list [.int .u8]])]
def Sx:au:=[(.one,[.bool])]
def akm:be:=[]
def F3 (NN:Nat):(List Int)->(Option Bool):=
 (fun(l0:(List Int))=>
 aJ (bC (1048576:Int) (aO (U l0)))
 (some true)
 ((zM (l0,(0:Int))).aa (fun((i1,i2,l3,l4,l5),i6,i7,l8,l9,gm)=>
 (xC ((i1,i2,l3,l4,l5),i6,i7,l8,l9,gm)).aa (fun(eU,Hz)=>
 (tS ((i1,i2,l3,l4,l5),i6,i7,l8,l9,gm)).aa (fun(gn,b14)=>
 aJ (neB Hz b14)
 (some false)
 ((zN (l0,(100:Int),aO (U l4))).aa (fun bK=>
 (rV ((i1,i2,l3,l4,l5),bK)).aa (fun dj=>
 (rV ((i6,i7,l8,l9,gm),bK)).aa (fun fZ=>
 aJ (fC Hz)
 (some (fC (eu dj fZ)))
 ((dg eU 0 (U eU)).aa (fun gU=>
 (rV ((i1,i2,l3,l4,l5),gU)).aa (fun dk=>
 (dg eU 0 (U eU)).aa (fun eo=>
 (rV ((i6,i7,l8,l9,gm),eo)).aa (fun iA=>
 aJ (fE dk iA)
 (some false)
 (aJ (fC (eu dj fZ))
 (some true)
 (aJ (bC (aO (U eU)) (aO (U bK)))
 (some true)
 (aJ (bC (aO (U bK)) (aO (U eU)))
 (some false)
 (bO ((ae 0 (U eU) (U eU)).aa (fun _=>
 bg NN (fun(((cQ,ie,gi),dS):(((List Int)×(Int×Int))×(List Int)))=>
 aJ (bC gi ie)
 ((eJ cQ gi).aa (fun fR=>
 (eB gi (U dS)).aa (fun PD=>
 (dJ dS (aL 0 PD)).aa (fun f0=>
 aJ (eu fR f0)
 ((eB gi (U dS)).aa (fun k29=>
 (dJ dS (aL 0 k29)).aa (fun lB=>
 some (Sum.inr (Sum.inr (bC lB fR))))))
 ((ae 0 (U dS) (U dS)).aa (fun _=>
 some (Sum.inl ((cQ,ie,aY .i64 gi 1),dS))))))))
 (some (Sum.inr (Sum.inl ()))))
 ((bK,aO (U bK),(0:Int)),eU)))
 (fun _=>
 some true)))))))))))))))))))
def Ly:List Int->Option Bool:=fun _=>some true
theorem acU (l0:List Int):F3 aB l0=some true:=by
 simp only[F3]
 by_cases hl:l0.length<=1048576
 ·rw[aN (dX (by unfold aO U;omega))]
  obtain⟨p,n,m,t,a,ms,b,a2,ms2,b2,e1,H,H2,h1,h2,hn,hm,ht⟩:=acW l0 0 hl (by decide)
  have X5:=H.l1
  obtain⟨v,e2,pT,hv⟩:=acX l0 100 (aO (U ms)) hl (by decide) (by unfold aO U;omega)
  rw[e1]
  simp only[nC]
  have pN:ms.length=ms2.length:=by omega
  have hV:jT ms.length v:=fun c hc=>hv c hc
  have XH:jT ms2.length v:=fun c hc=>by rw[<-pN];exact hV c hc
  have uk:=L7 H H2 pN
  have s1:=xY H
  have s2:=xY H2
  have ed:xC ((p,(n:Int),a,ms,b),p,(m:Int),a2,ms2,b2)=some (vW (p,(n:Int),a,ms,b) (p,(m:Int),a2,ms2,b2)):=by
   simp only[xC,tS]
   rw[if_pos ⟨by omega,by omega⟩,if_pos uk]
  have ed2:tS ((p,(n:Int),a,ms,b),p,(m:Int),a2,ms2,b2)=some (vW (p,(n:Int),a,ms,b) (p,(m:Int),a2,ms2,b2)):=ed
  rw[ed,ed2]
  have pU:=MN H H2 pN
  have Oc:=fun h=>adO H H2 pN hV h
  have rf:=acK H H2 pN hV
  have XR:=fun(w:Wd) (hw:jT ms.length w)=>acK H H2 pN hw
  have pS:=(aaY (Ak H H2 pN)).UF
  rw[<-ye (a2:=a2) (b2:=b2),List.append_nil] at pS
  unfold vW
  generalize pA (p,(n:Int),a,ms,b) (p,(m:Int),a2,ms2,b2)=D at pU Oc rf XR pS
  cases hf:(jS D).1.find? (fun w=>decide (dw (D,w)≠0)) with
  |none=>
   dsimp only
   simp only[nC]
   rw[aN (by rfl),e2]
   simp only[nC]
   rw[CK H (by omega) hV,CK H2 (by omega) XH]
   simp only[nC]
   rw[aQ (by rfl)]
   have h0:dw (D,v)=0:=Classical.byContradiction fun ax=>by
    obtain⟨u,hu,_,sG⟩:=Oc ax
    have:=List.find?_eq_none.1 hf u hu
    exact this (decide_eq_true sG)
   rw[rf.1 h0]
   congr 1
   show(!(dw ((p,(m:Int),a2,ms2,b2),v)!=dw ((p,(m:Int),a2,ms2,b2),v)))=true
   simp
  |some w=>
   have hwm:=List.mem_of_find?_eq_some hf
   have IW:dw (D,w)≠0:=by have h:=List.find?_some hf;exact of_decide_eq_true h
   obtain⟨hW,hwl⟩:=pU w hwm
   have hW2:jT ms2.length w:=fun c hc=>by rw[<-pN];exact hW c hc
   dsimp only
   simp only[nC]
   rw[aN (by rfl),e2]
   simp only[nC]
   rw[CK H (by omega) hV,CK H2 (by omega) XH]
   simp only[nC]
   rw[aN (by rfl)]
   simp only[il,nC]
   rw[CK H (by omega) hW,CK H2 (by omega) hW2]
   simp only[nC]
   have ax:dw ((p,(n:Int),a,ms,b),w)≠dw ((p,(m:Int),a2,ms2,b2),w):=fun e=>IW ((XR w hW).2 e)
   rw[aN (show fE _ _=false from beq_false_of_ne ax)]
   by_cases OV:dw ((p,(n:Int),a,ms,b),v)=dw ((p,(m:Int),a2,ms2,b2),v)
   ·rw[OV,aQ (by show(!(dw ((p,(m:Int),a2,ms2,b2),v)!=dw ((p,(m:Int),a2,ms2,b2),v)))=true;simp)]
   ·rw[aN (show fC (eu _ _)=false by show(!(dw ((p,(n:Int),a,ms,b),v)!=dw ((p,(m:Int),a2,ms2,b2),v)))=false;simp[OV])]
    have AW:dw (D,v)≠0:=fun e=>OV (rf.1 e)
    obtain⟨u,hu,eS,sG⟩:=Oc AW
    have Yv:ou w v:=abF (Xd pS hf hu (decide_eq_true sG)) eS
    by_cases bH:w.length<v.length
    ·rw[aQ (dZ (by unfold aO U;omega))]
    ·rw[aN (dX (by unfold aO U;omega))]
     have hlen:w.length=v.length:=by
      rcases Yv with rfl|h|⟨h,_⟩
      ·rfl
      ·omega
      ·exact h
     rw[aN (dX (by unfold aO U;omega))]
     rw[bQ]
     simp only[nC]
     generalize hL:bg aB _ _=o
     obtain⟨r,rfl,hr⟩:∃r,o=some r/\(r=Sum.inl ()\/r=Sum.inr true):=by
      rw[<-hL]
      refine ajX v.length (fun i x=>x=((v,aO (U v),(i:Int)),w)/\∀j,j<i->w[j]? =v[j]?) _ ?_ ?_ ⟨rfl,fun j hj=>absurd hj (Nat.not_lt_zero j)⟩ (cN (by omega))
      ·rintro i x hi ⟨rfl,hj⟩
       dsimp only
       have g1:=List.getElem?_eq_getElem hi
       have XZ:i<w.length:=by omega
       have g2:=List.getElem?_eq_getElem XZ
       rw[aQ (kI g1),fw,g1]
       simp only[nC]
       rw[show eB (i:Int) (U w)=some i from vT XZ]
       simp only[nC,mF]
       rw[show dJ w i=some w[i] from g2]
       simp only[nC]
       by_cases he:v[i]=w[i]
       ·right
        rw[aN (show eu _ _=false by unfold eu;rw[he];simp),bQ]
        simp only[nC]
        refine⟨_,rfl,by rw[qt g1 (by omega)],fun j oO=>?_⟩
        by_cases hjj:j=i
        ·subst hjj;rw[g1,g2,he]
        ·exact hj j (by omega)
       ·left
        rw[aQ (show eu _ _=true from bne_iff_ne.2 he)]
        refine⟨_,rfl,.inr ?_⟩
        have:w[i]<v[i]:=by
         rcases Yv with rfl|h|⟨_,h⟩
         ·exact absurd rfl he
         ·omega
         ·exact Z9 h i hj _ _ g2 g1 fun e=>he e.symm
        rw[dZ this]
      ·rintro x ⟨rfl,_⟩
       dsimp only
       rw[aN (rG v)]
       exact⟨_,rfl,.inl rfl⟩
     rcases hr with rfl|rfl
     ·simp only[db]
     ·simp only[Bl]
 ·rw[aQ (dZ (by unfold aO U;omega))]
theorem aeQ (x:List Int) (y:Bool) (h:Ly x=some y):F3 aB x=some y:=by
 rw[acU];exact h
end Go.Am
