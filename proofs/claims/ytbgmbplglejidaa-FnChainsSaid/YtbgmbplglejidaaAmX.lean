/- AmX: functions that give a window of a list of their arguments: what is said of them, and the caller's side of a call. No condition. -/
import Derived.Test.YtbgmbplglejidaaAmV
set_option linter.unusedVariables false
namespace Go.Am
def VW (P:Program) (f:FuncId) (sig:aN) (M:List Dv->Option (Nat×Nat)):Prop:=
 ∀ds lo len,M ds=some (lo,len)->∀(w:World) (vals:List Value) (pas:List PA),CI w sig ds vals pas->Calls P f vals.toArray w fun e w'=>
  ∃(m:Mode) (sz cap:Nat) (a:Option Addr) (xs:List (List PC)) (v:Value),eC sig (pas.map (·.ps))=[(m,.list sz a cap xs)]/\e=.returned v/\xs≠[]/\
   (∃(b o:Nat) (a':Option Addr),a=some (ad b o)/\v=.slice a' len (cap - lo)/\lo+len<=cap/\((lo<cap\/lo=0)->a'=some (ad b (o+lo*sz))))/\
   Fr w.heap.size (Di [(m,.list sz a cap xs)]) w w'/\∃q:PC,q.er=(PC.list sz a cap xs).er/\tA w' m (.list sz a cap xs) q
def CQ (P:Program) (T:aO):Prop:=∀f sig M,aO.rm T.ws f=some (sig,M)->VW P f sig M
section
variable {B:Nat} {E:Ex} {w0 w w':World} {G G':Gh} {N:Nat} {h h':Nat->Option ao} {used used':Nat->Bool} {tk:List PC}
variable {P:Program} {o:Oper} {a:Act} {σ σ':St} {Q:Exit->Act->World->Prop}
theorem afa (r:R B E w0 N σ a w G) {T:aO} (hT:CQ P T) {f:FuncId} {as:List aj} {vals:List Value} {v0:aj} (hN:∀n,o.dst=some n->n<N)
  (bU:(execOp a.eval o).run P w=.ok (.enter f vals.toArray) w) (hl:vals.length=as.length)
  (tY:∀(j:Nat) (x:aj) (v:Value),as[j]? =some x->vals[j]? =some v->RA w G σ.h x v)
  (hx:oH T f as σ.h=some v0):o.wp P a w (Nx B E w0 N (σ.put o.dst v0)) Q:=by
 have H:=r.hr
 unfold oH at hx
 split at hx
 ·rename_i sig M dm hM N4
  split at hx
  ·rename_i n0 apQ
   split at hx
   ·rename_i ds n md hv
    split at hx
    ·rename_i he
     subst he
     split at hx
     ·rename_i gr mo sz xs lo len fc oN
      injection hx with hx
      subst hx
      obtain⟨yo,NU⟩:=PR N4 hl tY
      obtain⟨pas,q1,q2,q3,q4,q5,q6,q7⟩:=H.kO hv yo NU
      have sJ:([((cM.row n:cM),md)].filterMap (·.1.dA)).Nodup:=by simp[cM.dA]
      generalize ue:eC sig (pas.map (·.ps))=fl at q5
      obtain⟨x,rfl⟩:∃x,fl=[x]:=by
       match fl,q5.len with
       |[x],_=>exact⟨x,rfl⟩
      obtain⟨IQ,vZ⟩:=q5.at_ 0 _ x rfl rfl
      have bQ:=vZ.at_
      obtain⟨bk,mS,aJ,aq,e1,e2,e3,e4,e5⟩:=bQ
      rw[fc] at e1
      injection e1 with e1
      injection e1 with a1 a2 a3 a4
      subst a1 a2 a3 a4
      have bM:σ.h n≠none:=by rw[fc];simp
      have hr:=H.row n gr mo sz xs fc
      have nh:∀b,aS b x.2->rq G n b/\((∀b,¬aV b (G.g n).px)\/mo=.live):=by
       intro b hb
       obtain⟨n',bk,m',aJ,aq,f1,f2,f3,f4,f5⟩:=vZ.m8 H hb
       have:n'=n:=by injection f1 with f1;exact f1.symm
       subst this
       rw[fc] at f2
       injection f2 with f2
       injection f2 with _ f2 _ _
       subst f2
       exact⟨f4,f5⟩
      have PU:CI w sig ds vals pas:=by
       refine⟨q2,q1,q3,fun y hy=>?_,?_,fun pc aZ y hy b hb aY=>?_,fun p hp hk=>absurd hk (q4 p hp),fun i p s hp _ hk=>absurd hk (q4 p (List.mem_of_getElem? hp))⟩
       ·rw[ue,List.mem_singleton] at hy
        subst hy
        exact vZ.ok
       ·rw[ue];simp
       ·rw[ue,List.mem_singleton] at hy
        subst hy
        obtain⟨f4,f5⟩:=nh b aY
        rcases q7 pc aZ b hb with hi|⟨n',bk,m',aJ,aq,bj,sv,Az⟩
        ·rcases f4 with⟨aL,rfl⟩|hF
         ·exact(H.own n bM aL).1 hi
         ·rcases f5 with f5|rfl
          ·exact f5 b hF
          ·exact(hr.mode.1 b hF).1 hi
        ·have aB:n'≠n:=fun e=>bj (by rw[e];simp)
         exact H.DB aB sv fc f5 Az f4
      unfold Oper.wp
      rw[bU]
      refine(hT f sig M hM ds lo len oN w vals pas PU).mono fun e w' ⟨m1,r5,An,LJ,qT,v,p1,p2,p3,⟨lb,lo1,la,l1,l2,l3,l4⟩,p4,q,p5,p6⟩=>?_
      subst p2
      rw[ue] at p1
      injection p1 with p1 _
      subst p1
      dsimp only at e4
      have qd:∀b,Di [(m1,PC.list r5 LJ An qT)] b->(B<=b\/E b):=by
       rintro b ⟨y,hy,hb⟩
       rw[List.mem_singleton] at hy
       subst hy
       rcases(nh b hb).1 with⟨aL,rfl⟩|hF
       ·exact(H.own n bM aL).2.1
       ·have f0:=hr.mode
        cases mo with
        |aD=>exact absurd rfl e2
        |ae=>exact(f0.1 b hF).2.2
        |live=>exact(f0.1 b hF).2.2
      have YK:(sF G [((cM.row n:cM),md)] [q]).g n=wL (G.g n) (.row n) q:=Yl sJ (i:=0) (it:=(.row n,md)) rfl rfl rfl
      have hqe:q.er=.list sz xs:=by rw[p5,e4];exact abr hr
      have p6':=p6
      rw[e4] at p6
      obtain⟨tx,K,_⟩:=H.Jw (G':=sF G [((cM.row n:cM),md)] [q]) (h':=σ.h) (w':=w') (S:=fun k=>k=n) p4.size (fun b hb ca=>p4.block b hb (by
        rintro⟨y,hy,nU⟩
        rw[List.mem_singleton] at hy
        subst hy
        exact ca n rfl (nh b nU).1)) (fun b hb=>p4.ie b hb) rfl (fun k hk=>by
        subst hk
        exact⟨gr,mo,sz,xs,xs,fc,fc,by rw[YK];exact WC H fc e2 e3 e5 p6 hqe⟩)
       (fun k hk=>⟨rfl,Ym (by simp[cM.dA];exact hk)⟩)
      have uf:Fr B E w0 w':=by
       refine⟨p4.os.trans r.fr.os,p4.tape.trans r.fr.tape,p4.output.trans r.fr.output,Nat.le_trans r.fr.size p4.size,fun b hb he=>?_,fun b hb=>?_⟩
       ·refine(p4.block b (Nat.lt_of_lt_of_le hb r.fr.size) fun hx=>?_).trans (r.fr.block b hb he)
        rcases qd b hx with h1|h1
        ·omega
        ·exact he h1
       ·exact(r.fr.ie b hb).trans (p4.ie b (Nat.lt_of_lt_of_le hb r.fr.size))
      have r2:R B E w0 N σ a w' (sF G [((cM.row n:cM),md)] [q]):=r.step rfl (fun _ h=>h) K tx uf
      refine⟨_,r2.put (RA.ga ?_ ?_) (fun k hk=>?_) hN⟩
      ·rw[l2];rfl
      ·show σ.h n≠none->jq _ sz lo len v
       intro _
       have hq:PC.list r5 LJ An qT=nv sz (G.g n):=e4
       unfold nv at hq
       injection hq with g1 g2 g3 g4
       subst g1 g3 g4
       have aL:(G.g n).nl=false:=by
        cases h0:(G.g n).nl with
        |false=>rfl
        |true=>exact absurd (hr.nl h0).1 p3
       rw[aL] at g2
       have g2:LJ=some (ad (G.g n).b (G.g n).o):=g2
       rw[l1] at g2
       injection g2 with g2
       obtain⟨rfl,rfl⟩:=m4 g2
       obtain⟨jZ,ad2,Hy,px2,rfl⟩:=PC.PJ p6.val rfl
       rw[YK]
       exact .inr ⟨aL,la,l2,l3,l4⟩
      ·have cW:k=n:=hk
       subst cW
       exact r.hr.iG k bM
     ·cases hx
    ·cases hx
   ·cases hx
  ·cases hx
 ·cases hx
theorem ae3 (r:R B E w0 N σ a w G) {T:aO} (hT:CQ P T) {f:FuncId} {xs:Array Operand} {ms:List MO} {ts:Array TypeId} {v0:aj} (hN:∀n,o.dst=some n->n<N)
  (ho:o.op=.call {callee:=.value (.func f),args:=xs,argTypes:=ts}) (hf:bC P f=true) (hm:gw xs.toList ms=true)
  (hx:oH T f (ms.map σ.ev) σ.h=some v0):o.wp P a w (Nx B E w0 N (σ.put o.dst v0)) Q:=by
 obtain⟨e1,e2⟩:=r.xW hm
 refine afa r hT (vals:=xs.toList.map a.eval) hN ?_ (by simpa using e1) e2 hx
 have he:(xs.toList.map a.eval).toArray=xs.map a.eval:=by apply Array.ext';simp
 rw[he]
 simp[execOp,ho,resolve,Deferred.ofValue,invoke,Act.eval,zd hf]
end
end Go.Am
