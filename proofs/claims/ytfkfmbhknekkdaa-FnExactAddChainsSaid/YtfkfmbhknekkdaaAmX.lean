/- AmX: functions that give a window of a list of their arguments: what is said of them, and the caller's side of a call. No condition. -/
import Derived.Test.YtfkfmbhknekkdaaAmV
set_option linter.unusedVariables false
namespace Go.Am
def QT (P:Program) (f:FuncId) (sig:aJ) (M:List Dv->Option (Nat×Nat)):Prop:=
 ∀ds lo len,M ds=some (lo,len)->∀(w:World) (vals:List Value) (aD:List PA),tu w sig ds vals aD->Calls P f vals.toArray w fun e w'=>
  ∃(m:Mode) (sz cap:Nat) (a:Option Addr) (xs:List (List PC)) (v:Value),dr sig (aD.map (·.ps))=[(m,.list sz a cap xs)]/\e=.returned v/\xs≠[]/\
   (∃(b o:Nat) (a':Option Addr),a=some (ad b o)/\v=.slice a' len (cap - lo)/\lo+len<=cap/\((lo<cap\/lo=0)->a'=some (ad b (o+lo*sz))))/\
   Fr w.heap.size (yx [(m,.list sz a cap xs)]) w w'/\∃q:PC,q.er=(PC.list sz a cap xs).er/\qt w' m (.list sz a cap xs) q
def QU (P:Program) (f:FuncId) (i:Nat) (M:List Dv->Option (List Dv×List C)):Prop:=
 ∀(lo len:Nat) (ds rs:List Dv) (cP:List C) (ys:List (List C)),M (dI lo::dI (lo+len)::ds)=some (rs,cP)->ds[i]? =some (.one,[.list 1 ys])->∀(w:World) (vals:List Value) (aD:List PA),tu w (vi i) ds vals aD->
  ∀(b o cap n:Nat) (a':Option Addr),vals[i]? =some (.slice (some (ad b o)) n cap)->0<n->lo+len<=n->((lo<cap\/lo=0)->a'=some (ad b (o+lo*1)))->
  Calls P f (vals.set i (.slice a' len (cap - lo))).toArray w (Iy w (vi i) aD rs cP)
def tx (P:Program) (T:aA):Prop:=(∀f sig M,aA.pt T.ws f=some (sig,M)->QT P f sig M)/\∀f i M,aA.pu T.xs f=some (i,M)->QU P f i M
section
variable {B:Nat} {E:Ex} {w0 w w':World} {G G':Gh} {N:Nat} {h h':Nat->Option ak} {used used':Nat->Bool} {tk:List PC}
variable {P:Program} {o:Oper} {a:Act} {σ σ':St} {Q:Exit->Act->World->Prop}
theorem abC (r:R B E w0 N σ a w G) {T:aA} (hT:tx P T) {f:FuncId} {as:List ai} {vals:List Value} {v0:ai} (hN:∀n,o.dst=some n->n<N)
  (bH:(execOp a.eval o).run P w=.ok (.enter f vals.toArray) w) (hl:vals.length=as.length)
  (kI:∀(j:Nat) (x:ai) (v:Value),as[j]? =some x->vals[j]? =some v->RA w G σ.h x v)
  (hx:mX T f as σ.h=some v0):o.wp P a w (Nx B E w0 N (σ.put o.dst v0)) Q:=by
 have H:=r.hr
 unfold mX at hx
 split at hx
 ·rename_i sig M bT hM BB
  split at hx
  ·rename_i n0 alN
   split at hx
   ·rename_i ds n md hv
    split at hx
    ·rename_i he
     subst he
     split at hx
     ·rename_i gr mo sz xs lo len d9 lr
      injection hx with hx
      subst hx
      obtain⟨sC,Bu⟩:=MB BB hl kI
      obtain⟨aD,q1,q2,q3,q4,q5,q6,q7⟩:=H.jH hv sC Bu
      have qT:([((ct.row n:ct),md)].filterMap (·.1.de)).Nodup:=by simp[ct.de]
      generalize qP:dr sig (aD.map (·.ps))=fl at q5
      obtain⟨x,rfl⟩:∃x,fl=[x]:=by
       match fl,q5.len with
       |[x],_=>exact⟨x,rfl⟩
      obtain⟨Fu,tT⟩:=q5.at_ 0 _ x rfl rfl
      have bK:=tT.at_
      obtain⟨aU,kR,aC,ao,e1,e2,e3,e4,e5⟩:=bK
      rw[d9] at e1
      injection e1 with e1
      injection e1 with a1 a2 a3 a4
      subst a1 a2 a3 a4
      have bJ:σ.h n≠none:=by rw[d9];simp
      have hr:=H.row n gr mo sz xs d9
      have kK:∀b,aM b x.2->qJ G n b/\((∀b,¬aN b (G.g n).px)\/mo=.live):=by
       intro b hb
       obtain⟨n',aU,m',aC,ao,f1,f2,f3,f4,f5⟩:=tT.lp H hb
       have:n'=n:=by injection f1 with f1;exact f1.symm
       subst this
       rw[d9] at f2
       injection f2 with f2
       injection f2 with _ f2 _ _
       subst f2
       exact⟨f4,f5⟩
      have MD:tu w sig ds vals aD:=by
       refine⟨q2,q1,q3,fun y hy=>?_,?_,fun pc bc y hy b hb aL=>?_,fun p hp hk=>absurd hk (q4 p hp),fun i p s hp _ hk=>absurd hk (q4 p (List.mem_of_getElem? hp))⟩
       ·rw[qP,List.mem_singleton] at hy
        subst hy
        exact tT.ok
       ·rw[qP];simp
       ·rw[qP,List.mem_singleton] at hy
        subst hy
        obtain⟨f4,f5⟩:=kK b aL
        rcases q7 pc bc b hb with hi|⟨n',aU,m',aC,ao,bC,kC,sa⟩
        ·rcases f4 with⟨aE,rfl⟩|hF
         ·exact(H.own n bJ aE).1 hi
         ·rcases f5 with f5|rfl
          ·exact f5 b hF
          ·exact(hr.mode.1 b hF).1 hi
        ·have av:n'≠n:=fun e=>bC (by rw[e];simp)
         exact H.Bo av kC d9 f5 sa f4
      unfold Oper.wp
      rw[bH]
      refine(hT.1 f sig M hM ds lo len lr w vals aD MD).mono fun e w' ⟨m1,qf,x9,ID,oW,v,p1,p2,p3,⟨lb,lo1,la,l1,l2,l3,l4⟩,p4,q,p5,p6⟩=>?_
      subst p2
      rw[qP] at p1
      injection p1 with p1 _
      subst p1
      dsimp only at e4
      have n7:∀b,yx [(m1,PC.list qf ID x9 oW)] b->(B<=b\/E b):=by
       rintro b ⟨y,hy,hb⟩
       rw[List.mem_singleton] at hy
       subst hy
       rcases(kK b hb).1 with⟨aE,rfl⟩|hF
       ·exact(H.own n bJ aE).2.1
       ·have gj:=hr.mode
        cases mo with
        |aF=>exact absurd rfl e2
        |aj=>exact(gj.1 b hF).2.2
        |live=>exact(gj.1 b hF).2.2
      have T4:(qL G [((ct.row n:ct),md)] [q]).g n=uF (G.g n) (.row n) q:=TB qT (i:=0) (it:=(.row n,md)) rfl rfl rfl
      have hqe:q.er=.list sz xs:=by rw[p5,e4];exact X7 hr
      have p6':=p6
      rw[e4] at p6
      obtain⟨rM,K,_⟩:=H.Gm (G':=qL G [((ct.row n:ct),md)] [q]) (h':=σ.h) (w':=w') (S:=fun k=>k=n) p4.size (fun b hb cq=>p4.block b hb (by
        rintro⟨y,hy,ma⟩
        rw[List.mem_singleton] at hy
        subst hy
        exact cq n rfl (kK b ma).1)) (fun b hb=>p4.iU b hb) rfl (fun k hk=>by
        subst hk
        exact⟨gr,mo,sz,xs,xs,d9,d9,by rw[T4];exact RH H d9 e2 e3 e5 p6 hqe⟩)
       (fun k hk=>⟨rfl,TC (by simp[ct.de];exact hk)⟩)
      have yM:Fr B E w0 w':=by
       refine⟨p4.os.trans r.fr.os,p4.tape.trans r.fr.tape,p4.output.trans r.fr.output,Nat.le_trans r.fr.size p4.size,fun b hb he=>?_,fun b hb=>?_⟩
       ·refine(p4.block b (Nat.lt_of_lt_of_le hb r.fr.size) fun hx=>?_).trans (r.fr.block b hb he)
        rcases n7 b hx with h1|h1
        ·omega
        ·exact he h1
       ·exact(r.fr.iU b hb).trans (p4.iU b (Nat.lt_of_lt_of_le hb r.fr.size))
      have r2:R B E w0 N σ a w' (qL G [((ct.row n:ct),md)] [q]):=r.step rfl (fun _ h=>h) K rM yM
      refine⟨_,r2.put (RA.fi ?_ ?_) (fun k hk=>?_) hN⟩
      ·rw[l2];rfl
      ·show σ.h n≠none->gy _ sz lo len v
       intro _
       have hq:PC.list qf ID x9 oW=lO sz (G.g n):=e4
       unfold lO at hq
       injection hq with g1 g2 g3 g4
       subst g1 g3 g4
       have aE:(G.g n).nl=false:=by
        cases h0:(G.g n).nl with
        |false=>rfl
        |true=>exact absurd (hr.nl h0).1 p3
       rw[aE] at g2
       have g2:ID=some (ad (G.g n).b (G.g n).o):=g2
       rw[l1] at g2
       injection g2 with g2
       obtain⟨rfl,rfl⟩:=lg g2
       obtain⟨iS,ad2,Ek,px2,rfl⟩:=PC.Mr p6.val rfl
       rw[T4]
       exact .inr ⟨aE,la,l2,l3,l4⟩
      ·have cC:k=n:=hk
       subst cC
       exact r.hr.gN k bJ
     ·cases hx
    ·cases hx
   ·cases hx
  ·cases hx
 ·cases hx
theorem abt (r:R B E w0 N σ a w G) {T:aA} (hT:tx P T) {f:FuncId} {xs:Array Operand} {ms:List MO} {ts:Array TypeId} {v0:ai} (hN:∀n,o.dst=some n->n<N)
  (ho:o.op=.call {callee:=.value (.func f),args:=xs,argTypes:=ts}) (hf:ca P f=true) (hm:ff xs.toList ms=true)
  (hx:mX T f (ms.map σ.ev) σ.h=some v0):o.wp P a w (Nx B E w0 N (σ.put o.dst v0)) Q:=by
 obtain⟨e1,e2⟩:=r.sb hm
 refine abC r hT (vals:=xs.toList.map a.eval) hN ?_ (by simpa using e1) e2 hx
 have he:(xs.toList.map a.eval).toArray=xs.map a.eval:=by apply Array.ext';simp
 rw[he]
 simp[execOp,ho,resolve,Deferred.ofValue,invoke,Act.eval,s7 hf]
theorem alD {h:Nat->Option ak} {x:ai} {n lo len N:Nat} (hx:Au h x=some (n,lo,len,N)):x=.one (.sl n 1 lo len)/\∃gr m xs,h n=some (.row gr m 1 xs)/\N=xs.length/\lo<N/\lo+len<=N:=by
 unfold Au at hx
 split at hx
 ·rename_i n' s lo' alU
  split at hx
  ·rename_i gr m rs xs hn
   split at hx
   ·rename_i hc
    obtain⟨rfl,rfl,h1,h2⟩:=hc
    injection hx with hx
    injection hx with e1 e2
    injection e2 with e2 e3
    injection e3 with e3 e4
    subst e1 e2 e3 e4
    exact⟨rfl,gr,m,xs,hn,rfl,h1,h2⟩
   ·cases hx
  ·cases hx
 ·cases hx
theorem abD (r:R B E w0 N σ a w G) {T:aA} (hT:tx P T) {m:Mode} {f:FuncId} {as:List ai} {vals:List Value} {σ1:St} (hN:∀n,o.dst=some n->n<N)
  (bH:(execOp a.eval o).run P w=.ok (.enter f vals.toArray) w) (hl:vals.length=as.length)
  (kI:∀(j:Nat) (x:ai) (v:Value),as[j]? =some x->vals[j]? =some v->RA w G σ.h x v)
  (hx:r8 T m o.dst f as σ=some σ1):o.wp P a w (Nx B E w0 N σ1) Q:=by
 have H:=r.hr
 unfold r8 at hx
 split at hx
 ·rename_i i M hM
  split at hx
  ·rename_i x hi
   split at hx
   ·rename_i n lo len L d9
    obtain⟨rfl,gr,md,xs,hn,rfl,pG,eU⟩:=alD d9
    have ez:i<as.length:=(List.getElem?_eq_some_iff.1 hi).1
    have Fp:i<vals.length:=by omega
    have hv:vals[i]? =some vals[i]:=List.getElem?_eq_getElem Fp
    have hra:=kI i _ _ hi hv
    have fQ:gy (G.g n) 1 lo len vals[i]:=(hra.eB (by simp)).1 (by rw[hn];simp)
    have hr:=H.row n gr md 1 xs hn
    have eN:(G.g n).px.length=xs.length:=by rw[hr.er];simp
    have aE:(G.g n).nl=false:=by
     cases h0:(G.g n).nl with
     |false=>rfl
     |true=>
      have:=(hr.nl h0).1
      rw[this] at eN
      simp at eN
      omega
    obtain⟨l1,l2,l3⟩:=hr.dv aE
    rcases fQ with⟨h0,_⟩|⟨_,ya,hva,hH,acM⟩
    ·rw[aE] at h0;cases h0
    refine SK r (as:=as.set i (.one (.sl n 1 0 xs.length))) (vals:=vals.set i (.slice (some (ad (G.g n).b (G.g n).o)) xs.length (G.g n).cap)) (vals':=vals)
     (fun sig M' lr ds rs cP h aD hm=>?_) hN bH (by simp[hl]) (fun j x v hj tU=>?_) hx
    ·have yE:(vi i,xM i lo (lo+len) M)=(sig,M'):=by
      simp only[aA.kF,if_true] at lr
      injection lr
     injection yE with q1 q2
     subst q1 q2
     unfold xM at h
     split at h
     ·rename_i ys jZ
      have:=hT.2 f i M hM lo len ds rs cP ys h jZ w _ aD hm (G.g n).b (G.g n).o (G.g n).cap xs.length ya (by rw[List.getElem?_set_self Fp]) (by omega) eU acM
      have e:(vals.set i (.slice (some (ad (G.g n).b (G.g n).o)) xs.length (G.g n).cap)).set i (.slice ya len ((G.g n).cap - lo))=vals:=by
       rw[List.set_set,<-hva]
       exact List.set_getElem_self Fp
      rw[e] at this
      exact this
     ·cases h
    ·by_cases mf:j=i
     ·subst mf
      rw[List.getElem?_set_self ez] at hj
      rw[List.getElem?_set_self Fp] at tU
      injection hj with hj
      injection tU with tU
      subst hj tU
      refine RA.fi rfl (fun _=>.inr ⟨aE,_,rfl,by omega,fun _=>by simp⟩)
     ·rw[List.getElem?_set_ne (fun h=>mf h.symm)] at hj tU
      exact kI j x v hj tU
   ·cases hx
  ·cases hx
 ·cases hx
theorem abu (r:R B E w0 N σ a w G) {T:aA} (hT:tx P T) {m:Mode} {f:FuncId} {xs:Array Operand} {ms:List MO} {ts:Array TypeId} {σ1:St} (hN:∀n,o.dst=some n->n<N)
  (ho:o.op=.call {callee:=.value (.func f),args:=xs,argTypes:=ts}) (hf:ca P f=true) (hm:ff xs.toList ms=true)
  (hx:r8 T m o.dst f (ms.map σ.ev) σ=some σ1):o.wp P a w (Nx B E w0 N σ1) Q:=by
 obtain⟨e1,e2⟩:=r.sb hm
 refine abD r hT (vals:=xs.toList.map a.eval) hN ?_ (by simpa using e1) e2 hx
 have he:(xs.toList.map a.eval).toArray=xs.map a.eval:=by apply Array.ext';simp
 rw[he]
 simp[execOp,ho,resolve,Deferred.ofValue,invoke,Act.eval,s7 hf]
end
end Go.Am
