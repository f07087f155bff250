/- AmX: functions that give a window of a list of their arguments: what is said of them, and the caller's side of a call. No condition. -/
import Derived.Test.YthildlkhnnogiaaAmV
set_option linter.unusedVariables false
namespace Go.Am
def U9 (P:Program) (f:FuncId) (sig:aN) (M:List Dv->Option (Nat×Nat)):Prop:=
 ∀ds lo len,M ds=some (lo,len)->∀(w:World) (vals:List Value) (pas:List PA),wG w sig ds vals pas->Calls P f vals.toArray w fun e w'=>
  ∃(m:Mode) (sz cap:Nat) (a:Option Addr) (xs:List (List PC)) (v:Value),dE sig (pas.map (·.ps))=[(m,.list sz a cap xs)]/\e=.returned v/\xs≠[]/\
   (∃(b o:Nat) (a':Option Addr),a=some (ad b o)/\v=.slice a' len (cap - lo)/\lo+len<=cap/\((lo<cap\/lo=0)->a'=some (ad b (o+lo*sz))))/\
   Fr w.heap.size (BA [(m,.list sz a cap xs)]) w w'/\∃q:PC,q.er=(PC.list sz a cap xs).er/\sR w' m (.list sz a cap xs) q
def Va (P:Program) (f:FuncId) (i:Nat) (M:List Dv->Option (List Dv×List C)):Prop:=
 ∀(lo len:Nat) (ds rs:List Dv) (cM:List C) (ys:List (List C)),M (dI lo::dI (lo+len)::ds)=some (rs,cM)->ds[i]? =some (.one,[.list 1 ys])->∀(w:World) (vals:List Value) (pas:List PA),wG w (yt i) ds vals pas->
  ∀(b o cap n:Nat) (a':Option Addr),vals[i]? =some (.slice (some (ad b o)) n cap)->0<n->lo+len<=n->((lo<cap\/lo=0)->a'=some (ad b (o+lo*1)))->
  Calls P f (vals.set i (.slice a' len (cap - lo))).toArray w (LQ w (yt i) pas rs cM)
def wH (P:Program) (T:aF):Prop:=(∀f sig M,aF.rN T.ws f=some (sig,M)->U9 P f sig M)/\∀f i M,aF.rO T.xs f=some (i,M)->Va P f i M
section
variable {B:Nat} {E:Ex} {w0 w w':World} {G G':Gh} {N:Nat} {h h':Nat->Option aj} {used used':Nat->Bool} {tk:List PC}
variable {P:Program} {o:Oper} {a:Act} {σ σ':St} {Q:Exit->Act->World->Prop}
theorem adI (r:R B E w0 N σ a w G) {T:aF} (hT:wH P T) {f:FuncId} {as:List ah} {vals:List Value} {v0:ah} (hN:∀n,o.dst=some n->n<N)
  (aS:(execOp a.eval o).run P w=.ok (.enter f vals.toArray) w) (hl:vals.length=as.length)
  (kx:∀(j:Nat) (x:ah) (v:Value),as[j]? =some x->vals[j]? =some v->RA w G σ.h x v)
  (hx:pb T f as σ.h=some v0):o.wp P a w (Nx B E w0 N (σ.put o.dst v0)) Q:=by
 have H:=r.hr
 unfold pb at hx
 split at hx
 ·rename_i sig M bY hM El
  split at hx
  ·rename_i n0 anc
   split at hx
   ·rename_i ds n md hv
    split at hx
    ·rename_i he
     subst he
     split at hx
     ·rename_i gr mo sz xs lo len dR kw
      injection hx with hx
      subst hx
      obtain⟨vh,Eh⟩:=PV El hl kx
      obtain⟨pas,q1,q2,q3,q4,q5,q6,q7⟩:=H.kH hv vh Eh
      have tu:([((cq.row n:cq),md)].filterMap (·.1.dq)).Nodup:=by simp[cq.dq]
      generalize tn:dE sig (pas.map (·.ps))=fl at q5
      obtain⟨x,rfl⟩:∃x,fl=[x]:=by
       match fl,q5.len with
       |[x],_=>exact⟨x,rfl⟩
      obtain⟨Ja,xa⟩:=q5.at_ 0 _ x rfl rfl
      have bO:=xa.at_
      obtain⟨aW,iv,ax,ak,e1,e2,e3,e4,e5⟩:=bO
      rw[dR] at e1
      injection e1 with e1
      injection e1 with a1 a2 a3 a4
      subst a1 a2 a3 a4
      have bi:σ.h n≠none:=by rw[dR];simp
      have hr:=H.row n gr mo sz xs dR
      have jJ:∀b,aK b x.2->rP G n b/\((∀b,¬aP b (G.g n).px)\/mo=.live):=by
       intro b hb
       obtain⟨n',aW,m',ax,ak,f1,f2,f3,f4,f5⟩:=xa.nb H hb
       have:n'=n:=by injection f1 with f1;exact f1.symm
       subst this
       rw[dR] at f2
       injection f2 with f2
       injection f2 with _ f2 _ _
       subst f2
       exact⟨f4,f5⟩
      have PX:wG w sig ds vals pas:=by
       refine⟨q2,q1,q3,fun y hy=>?_,?_,fun pc aT y hy b hb aE=>?_,fun p hp hk=>absurd hk (q4 p hp),fun i p s hp _ hk=>absurd hk (q4 p (List.mem_of_getElem? hp))⟩
       ·rw[tn,List.mem_singleton] at hy
        subst hy
        exact xa.ok
       ·rw[tn];simp
       ·rw[tn,List.mem_singleton] at hy
        subst hy
        obtain⟨f4,f5⟩:=jJ b aE
        rcases q7 pc aT b hb with hi|⟨n',aW,m',ax,ak,bh,lZ,uN⟩
        ·rcases f4 with⟨aD,rfl⟩|hF
         ·exact(H.own n bi aD).1 hi
         ·rcases f5 with f5|rfl
          ·exact f5 b hF
          ·exact(hr.mode.1 b hF).1 hi
        ·have av:n'≠n:=fun e=>bh (by rw[e];simp)
         exact H.Ed av lZ dR f5 uN f4
      unfold Oper.wp
      rw[aS]
      refine(hT.1 f sig M hM ds lo len kw w vals pas PX).mono fun e w' ⟨m1,sE,Bf,LX,ry,v,p1,p2,p3,⟨lb,lo1,la,l1,l2,l3,l4⟩,p4,q,p5,p6⟩=>?_
      subst p2
      rw[tn] at p1
      injection p1 with p1 _
      subst p1
      dsimp only at e4
      have qF:∀b,BA [(m1,PC.list sE LX Bf ry)] b->(B<=b\/E b):=by
       rintro b ⟨y,hy,hb⟩
       rw[List.mem_singleton] at hy
       subst hy
       rcases(jJ b hb).1 with⟨aD,rfl⟩|hF
       ·exact(H.own n bi aD).2.1
       ·have eY:=hr.mode
        cases mo with
        |aG=>exact absurd rfl e2
        |af=>exact(eY.1 b hF).2.2
        |live=>exact(eY.1 b hF).2.2
      have XG:(tm G [((cq.row n:cq),md)] [q]).g n=xO (G.g n) (.row n) q:=Xi tu (i:=0) (it:=(.row n,md)) rfl rfl rfl
      have hqe:q.er=.list sz xs:=by rw[p5,e4];exact aaa hr
      have p6':=p6
      rw[e4] at p6
      obtain⟨rB,K,_⟩:=H.Fq (G':=tm G [((cq.row n:cq),md)] [q]) (h':=σ.h) (w':=w') (S:=fun k=>k=n) p4.size (fun b hb bG=>p4.block b hb (by
        rintro⟨y,hy,mg⟩
        rw[List.mem_singleton] at hy
        subst hy
        exact bG n rfl (jJ b mg).1)) (fun b hb=>p4.iT b hb) rfl (fun k hk=>by
        subst hk
        exact⟨gr,mo,sz,xs,xs,dR,dR,by rw[XG];exact VC H dR e2 e3 e5.1 e5.2 p6 hqe⟩)
       (fun k hk=>⟨rfl,Xj (by simp[cq.dq];exact hk)⟩)
      have vc:Fr B E w0 w':=by
       refine⟨p4.os.trans r.fr.os,p4.tape.trans r.fr.tape,p4.output.trans r.fr.output,Nat.le_trans r.fr.size p4.size,fun b hb he=>?_,fun b hb=>?_⟩
       ·refine(p4.block b (Nat.lt_of_lt_of_le hb r.fr.size) fun hx=>?_).trans (r.fr.block b hb he)
        rcases qF b hx with h1|h1
        ·omega
        ·exact he h1
       ·exact(r.fr.iT b hb).trans (p4.iT b (Nat.lt_of_lt_of_le hb r.fr.size))
      have r2:R B E w0 N σ a w' (tm G [((cq.row n:cq),md)] [q]):=r.step rfl (fun _ h=>h) K rB vc
      refine⟨_,r2.put (RA.dS ?_ ?_) (fun k hk=>?_) hN⟩
      ·rw[l2];rfl
      ·show σ.h n≠none->eU _ sz lo len v
       intro _
       have hq:PC.list sE LX Bf ry=nI sz (G.g n):=e4
       unfold nI at hq
       injection hq with g1 g2 g3 g4
       subst g1 g3 g4
       have aD:(G.g n).nl=false:=by
        cases h0:(G.g n).nl with
        |false=>rfl
        |true=>exact absurd (hr.nl h0).1 p3
       rw[aD] at g2
       have g2:LX=some (ad (G.g n).b (G.g n).o):=g2
       rw[l1] at g2
       injection g2 with g2
       obtain⟨rfl,rfl⟩:=jF g2
       obtain⟨gm,ad2,s8,px2,rfl⟩:=PC.PM p6.val rfl
       rw[XG]
       exact .inr ⟨aD,la,l2,l3,l4⟩
      ·have bx:k=n:=hk
       subst bx
       exact r.hr.gT k bi
     ·cases hx
    ·cases hx
   ·cases hx
  ·cases hx
 ·cases hx
theorem adx (r:R B E w0 N σ a w G) {T:aF} (hT:wH P T) {f:FuncId} {xs:Array Operand} {ms:List MO} {ts:Array TypeId} {v0:ah} (hN:∀n,o.dst=some n->n<N)
  (ho:o.op=.call {callee:=.value (.func f),args:=xs,argTypes:=ts}) (hf:bJ P f=true) (hm:fx xs.toList ms=true)
  (hx:pb T f (ms.map σ.ev) σ.h=some v0):o.wp P a w (Nx B E w0 N (σ.put o.dst v0)) Q:=by
 obtain⟨e1,e2⟩:=r.uP hm
 refine adI r hT (vals:=xs.toList.map a.eval) hN ?_ (by simpa using e1) e2 hx
 have he:(xs.toList.map a.eval).toArray=xs.map a.eval:=by apply Array.ext';simp
 rw[he]
 simp[execOp,ho,resolve,Deferred.ofValue,invoke,Act.eval,ue hf]
theorem am0 {h:Nat->Option aj} {x:ah} {n lo len N:Nat} (hx:Dk h x=some (n,lo,len,N)):x=.one (.sl n 1 lo len)/\∃gr m xs,h n=some (.row gr m 1 xs)/\N=xs.length/\lo<N/\lo+len<=N:=by
 unfold Dk at hx
 split at hx
 ·rename_i n' s xH tR
  split at hx
  ·rename_i gr m rs xs hn
   split at hx
   ·rename_i hc
    obtain⟨rfl,rfl,h1,h2⟩:=hc
    injection hx with hx
    injection hx with e1 e2
    injection e2 with e2 e3
    injection e3 with e3 e4
    subst e1 e2 e3 e4
    exact⟨rfl,gr,m,xs,hn,rfl,h1,h2⟩
   ·cases hx
  ·cases hx
 ·cases hx
theorem adJ (r:R B E w0 N σ a w G) {T:aF} (hT:wH P T) {m:Mode} {f:FuncId} {as:List ah} {vals:List Value} {σ1:St} (hN:∀n,o.dst=some n->n<N)
  (aS:(execOp a.eval o).run P w=.ok (.enter f vals.toArray) w) (hl:vals.length=as.length)
  (kx:∀(j:Nat) (x:ah) (v:Value),as[j]? =some x->vals[j]? =some v->RA w G σ.h x v)
  (hx:uM T m o.dst f as σ=some σ1):o.wp P a w (Nx B E w0 N σ1) Q:=by
 have H:=r.hr
 unfold uM at hx
 split at hx
 ·rename_i i M hM
  split at hx
  ·rename_i x hi
   split at hx
   ·rename_i n lo len L dR
    obtain⟨rfl,gr,md,xs,hn,rfl,pt,fb⟩:=am0 dR
    have Ev:i<as.length:=(List.getElem?_eq_some_iff.1 hi).1
    have I4:i<vals.length:=by omega
    have hv:vals[i]? =some vals[i]:=List.getElem?_eq_getElem I4
    have hra:=kx i _ _ hi hv
    have fC:eU (G.g n) 1 lo len vals[i]:=(hra.dB (by simp)).1 (by rw[hn];simp)
    have hr:=H.row n gr md 1 xs hn
    have dC:(G.g n).px.length=xs.length:=by rw[hr.er];simp
    have aD:(G.g n).nl=false:=by
     cases h0:(G.g n).nl with
     |false=>rfl
     |true=>
      have:=(hr.nl h0).1
      rw[this] at dC
      simp at dC
      omega
    obtain⟨l1,l2,l3⟩:=hr.cZ aD
    rcases fC with⟨h0,_⟩|⟨_,ya,hva,gh,afo⟩
    ·rw[aD] at h0;cases h0
    refine Wu r (as:=as.set i (.one (.sl n 1 0 xs.length))) (vals:=vals.set i (.slice (some (ad (G.g n).b (G.g n).o)) xs.length (G.g n).cap)) (vals':=vals)
     (fun sig M' kw ds rs cM h pas hm=>?_) hN aS (by simp[hl]) (fun j x v hj xb=>?_) hx
    ·have BG:(yt i,xM i lo (lo+len) M)=(sig,M'):=by
      simp only[aF.me,if_true] at kw
      injection kw
     injection BG with q1 q2
     subst q1 q2
     unfold xM at h
     split at h
     ·rename_i ys iC
      have:=hT.2 f i M hM lo len ds rs cM ys h iC w _ pas hm (G.g n).b (G.g n).o (G.g n).cap xs.length ya (by rw[List.getElem?_set_self I4]) (by omega) fb afo
      have e:(vals.set i (.slice (some (ad (G.g n).b (G.g n).o)) xs.length (G.g n).cap)).set i (.slice ya len ((G.g n).cap - lo))=vals:=by
       rw[List.set_set,<-hva]
       exact List.set_getElem_self I4
      rw[e] at this
      exact this
     ·cases h
    ·by_cases jp:j=i
     ·subst jp
      rw[List.getElem?_set_self Ev] at hj
      rw[List.getElem?_set_self I4] at xb
      injection hj with hj
      injection xb with xb
      subst hj xb
      refine RA.dS rfl (fun _=>.inr ⟨aD,_,rfl,by omega,fun _=>by simp⟩)
     ·rw[List.getElem?_set_ne (fun h=>jp h.symm)] at hj xb
      exact kx j x v hj xb
   ·cases hx
  ·cases hx
 ·cases hx
theorem ady (r:R B E w0 N σ a w G) {T:aF} (hT:wH P T) {m:Mode} {f:FuncId} {xs:Array Operand} {ms:List MO} {ts:Array TypeId} {σ1:St} (hN:∀n,o.dst=some n->n<N)
  (ho:o.op=.call {callee:=.value (.func f),args:=xs,argTypes:=ts}) (hf:bJ P f=true) (hm:fx xs.toList ms=true)
  (hx:uM T m o.dst f (ms.map σ.ev) σ=some σ1):o.wp P a w (Nx B E w0 N σ1) Q:=by
 obtain⟨e1,e2⟩:=r.uP hm
 refine adJ r hT (vals:=xs.toList.map a.eval) hN ?_ (by simpa using e1) e2 hx
 have he:(xs.toList.map a.eval).toArray=xs.map a.eval:=by apply Array.ext';simp
 rw[he]
 simp[execOp,ho,resolve,Deferred.ofValue,invoke,Act.eval,ue hf]
end
end Go.Am
