/- AmX: functions that give a window of a list of their arguments: what is said of them, and the caller's side of a call. No condition. -/
import Derived.Test.YtbgmbplglejidaaAmV
set_option linter.unusedVariables false
namespace Go.Am
def XQ (P:Program) (f:FuncId) (sig:aQ) (M:List Dv->Option (Nat×Nat)):Prop:=
 ∀ds lo len,M ds=some (lo,len)->∀(w:World) (vals:List Value) (pas:List PA),D4 w sig ds vals pas->Calls P f vals.toArray w fun e w'=>
  ∃(m:Mode) (sz cap:Nat) (a:Option Addr) (xs:List (List PC)) (v:Value),eJ sig (pas.map (·.ps))=[(m,.list sz a cap xs)]/\e=.returned v/\xs≠[]/\
   (∃(b o:Nat) (a':Option Addr),a=some (ad b o)/\v=.slice a' len (cap - lo)/\lo+len<=cap/\((lo<cap\/lo=0)->a'=some (ad b (o+lo*sz))))/\
   Fr w.heap.size (EI [(m,.list sz a cap xs)]) w w'/\∃q:PC,q.er=(PC.list sz a cap xs).er/\ur w' m (.list sz a cap xs) q
def Ec (P:Program) (T:aT):Prop:=∀f sig M,aT.rZ T.ws f=some (sig,M)->XQ P f sig M
section
variable {B:Nat} {E:Ex} {w0 w w':World} {G G':Gh} {N:Nat} {h h':Nat->Option ar} {used used':Nat->Bool} {tk:List PC}
variable {P:Program} {o:Oper} {a:Act} {σ σ':St} {Q:Exit->Act->World->Prop}
theorem agR (r:R B E w0 N σ a w G) {T:aT} (hT:Ec P T) {f:FuncId} {as:List ak} {vals:List Value} {v0:ak} (hN:∀n,o.dst=some n->n<N)
  (bY:(execOp a.eval o).run P w=.ok (.enter f vals.toArray) w) (hl:vals.length=as.length)
  (uT:∀(j:Nat) (x:ak) (v:Value),as[j]? =some x->vals[j]? =some v->RA w G σ.h x v)
  (hx:pE T f as σ.h=some v0):o.wp P a w (Nx B E w0 N (σ.put o.dst v0)) Q:=by
 have H:=r.hr
 unfold pE at hx
 split at hx
 ·rename_i sig M dz hM Pv
  split at hx
  ·rename_i n0 ats
   split at hx
   ·rename_i ds n md hv
    split at hx
    ·rename_i he
     subst he
     split at hx
     ·rename_i gr mo sz xs lo len fo pM
      injection hx with hx
      subst hx
      obtain⟨zk,Pl⟩:=Rz Pv hl uT
      obtain⟨pas,q1,q2,q3,q4,q5,q6,q7⟩:=H.lR hv zk Pl
      have tw:([((cY.row n:cY),md)].filterMap (·.1.dJ)).Nodup:=by simp[cY.dJ]
      generalize u0:eJ sig (pas.map (·.ps))=fl at q5
      obtain⟨x,rfl⟩:∃x,fl=[x]:=by
       match fl,q5.len with
       |[x],_=>exact⟨x,rfl⟩
      obtain⟨Ka,wV⟩:=q5.at_ 0 _ x rfl rfl
      have bU:=wV.at_
      obtain⟨bo,nv,aJ,au,e1,e2,e3,e4,e5⟩:=bU
      rw[fo] at e1
      injection e1 with e1
      injection e1 with a1 a2 a3 a4
      subst a1 a2 a3 a4
      have bS:σ.h n≠none:=by rw[fo];simp
      have hr:=H.row n gr mo sz xs fo
      have nV:∀b,aX b x.2->r5 G n b/\((∀b,¬aZ b (G.g n).px)\/mo=.live):=by
       intro b hb
       obtain⟨n',bo,m',aJ,au,f1,f2,f3,f4,f5⟩:=wV.nO H hb
       have:n'=n:=by injection f1 with f1;exact f1.symm
       subst this
       rw[fo] at f2
       injection f2 with f2
       injection f2 with _ f2 _ _
       subst f2
       exact⟨f4,f5⟩
      have RE:D4 w sig ds vals pas:=by
       refine⟨q2,q1,q3,fun y hy=>?_,?_,fun pc bc y hy b hb be=>?_,fun p hp hk=>absurd hk (q4 p hp),fun i p s hp _ hk=>absurd hk (q4 p (List.mem_of_getElem? hp))⟩
       ·rw[u0,List.mem_singleton] at hy
        subst hy
        exact wV.ok
       ·rw[u0];simp
       ·rw[u0,List.mem_singleton] at hy
        subst hy
        obtain⟨f4,f5⟩:=nV b be
        rcases q7 pc bc b hb with hi|⟨n',bo,m',aJ,au,bm,tf,BL⟩
        ·rcases f4 with⟨aN,rfl⟩|hF
         ·exact(H.own n bS aN).1 hi
         ·rcases f5 with f5|rfl
          ·exact f5 b hF
          ·exact(hr.mode.1 b hF).1 hi
        ·have aD:n'≠n:=fun e=>bm (by rw[e];simp)
         exact H.EW aD tf fo f5 BL f4
      unfold Oper.wp
      rw[bY]
      refine(hT f sig M hM ds lo len pM w vals pas RE).mono fun e w' ⟨m1,sM,BB,M6,rK,v,p1,p2,p3,⟨lb,lo1,la,l1,l2,l3,l4⟩,p4,q,p5,p6⟩=>?_
      subst p2
      rw[u0] at p1
      injection p1 with p1 _
      subst p1
      dsimp only at e4
      have qT:∀b,EI [(m1,PC.list sM M6 BB rK)] b->(B<=b\/E b):=by
       rintro b ⟨y,hy,hb⟩
       rw[List.mem_singleton] at hy
       subst hy
       rcases(nV b hb).1 with⟨aN,rfl⟩|hF
       ·exact(H.own n bS aN).2.1
       ·have gx:=hr.mode
        cases mo with
        |aG=>exact absurd rfl e2
        |ae=>exact(gx.1 b hF).2.2
        |live=>exact(gx.1 b hF).2.2
      have aas:(tp G [((cY.row n:cY),md)] [q]).g n=xB (G.g n) (.row n) q:=aae tw (i:=0) (it:=(.row n,md)) rfl rfl rfl
      have hqe:q.er=.list sz xs:=by rw[p5,e4];exact ac4 hr
      have p6':=p6
      rw[e4] at p6
      obtain⟨uo,K,_⟩:=H.KQ (G':=tp G [((cY.row n:cY),md)] [q]) (h':=σ.h) (w':=w') (S:=fun k=>k=n) p4.size (fun b hb cm=>p4.block b hb (by
        rintro⟨y,hy,oN⟩
        rw[List.mem_singleton] at hy
        subst hy
        exact cm n rfl (nV b oN).1)) (fun b hb=>p4.jq b hb) rfl (fun k hk=>by
        subst hk
        exact⟨gr,mo,sz,xs,xs,fo,fo,by rw[aas];exact Yw H fo e2 e3 e5 p6 hqe⟩)
       (fun k hk=>⟨rfl,aaf (by simp[cY.dJ];exact hk)⟩)
      have u4:Fr B E w0 w':=by
       refine⟨p4.os.trans r.fr.os,p4.tape.trans r.fr.tape,p4.output.trans r.fr.output,Nat.le_trans r.fr.size p4.size,fun b hb he=>?_,fun b hb=>?_⟩
       ·refine(p4.block b (Nat.lt_of_lt_of_le hb r.fr.size) fun hx=>?_).trans (r.fr.block b hb he)
        rcases qT b hx with h1|h1
        ·omega
        ·exact he h1
       ·exact(r.fr.jq b hb).trans (p4.jq b (Nat.lt_of_lt_of_le hb r.fr.size))
      have r2:R B E w0 N σ a w' (tp G [((cY.row n:cY),md)] [q]):=r.step rfl (fun _ h=>h) K uo u4
      refine⟨_,r2.put (RA.gD ?_ ?_) (fun k hk=>?_) hN⟩
      ·rw[l2];rfl
      ·show σ.h n≠none->jO _ sz lo len v
       intro _
       have hq:PC.list sM M6 BB rK=ou sz (G.g n):=e4
       unfold ou at hq
       injection hq with g1 g2 g3 g4
       subst g1 g3 g4
       have aN:(G.g n).nl=false:=by
        cases h0:(G.g n).nl with
        |false=>rfl
        |true=>exact absurd (hr.nl h0).1 p3
       rw[aN] at g2
       have g2:M6=some (ad (G.g n).b (G.g n).o):=g2
       rw[l1] at g2
       injection g2 with g2
       obtain⟨rfl,rfl⟩:=nG g2
       obtain⟨kL,ad2,I5,px2,rfl⟩:=PC.Rq p6.val rfl
       rw[aas]
       exact .inr ⟨aN,la,l2,l3,l4⟩
      ·have cI:k=n:=hk
       subst cI
       exact r.hr.jc k bS
     ·cases hx
    ·cases hx
   ·cases hx
  ·cases hx
 ·cases hx
theorem agK (r:R B E w0 N σ a w G) {T:aT} (hT:Ec P T) {f:FuncId} {xs:Array Operand} {ms:List MO} {ts:Array TypeId} {v0:ak} (hN:∀n,o.dst=some n->n<N)
  (ho:o.op=.call {callee:=.value (.func f),args:=xs,argTypes:=ts}) (hf:bH P f=true) (hm:gQ xs.toList ms=true)
  (hx:pE T f (ms.map σ.ev) σ.h=some v0):o.wp P a w (Nx B E w0 N (σ.put o.dst v0)) Q:=by
 obtain⟨e1,e2⟩:=r.yN hm
 refine agR r hT (vals:=xs.toList.map a.eval) hN ?_ (by simpa using e1) e2 hx
 have he:(xs.toList.map a.eval).toArray=xs.map a.eval:=by apply Array.ext';simp
 rw[he]
 simp[execOp,ho,resolve,Deferred.ofValue,invoke,Act.eval,Al hf]
end
end Go.Am
