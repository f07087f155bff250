/- AmX: functions that give a window of a list of their arguments: what is said of them, and the caller's side of a call. No condition. -/
import Derived.Test.YtbgmbplglejidaaAmV
set_option linter.unusedVariables false
namespace Go.Am
def WE (P:Program) (f:FuncId) (sig:aP) (M:List Dv->Option (Nat×Nat)):Prop:=
 ∀ds lo len,M ds=some (lo,len)->∀(w:World) (vals:List Value) (pas:List PA),Df w sig ds vals pas->Calls P f vals.toArray w fun e w'=>
  ∃(m:Mode) (sz cap:Nat) (a:Option Addr) (xs:List (List PC)) (v:Value),eI sig (pas.map (·.ps))=[(m,.list sz a cap xs)]/\e=.returned v/\xs≠[]/\
   (∃(b o:Nat) (a':Option Addr),a=some (ad b o)/\v=.slice a' len (cap - lo)/\lo+len<=cap/\((lo<cap\/lo=0)->a'=some (ad b (o+lo*sz))))/\
   Fr w.heap.size (DX [(m,.list sz a cap xs)]) w w'/\∃q:PC,q.er=(PC.list sz a cap xs).er/\tS w' m (.list sz a cap xs) q
def Dn (P:Program) (T:aO):Prop:=∀f sig M,aO.rU T.ws f=some (sig,M)->WE P f sig M
section
variable {B:Nat} {E:Ex} {w0 w w':World} {G G':Gh} {N:Nat} {h h':Nat->Option ao} {used used':Nat->Bool} {tk:List PC}
variable {P:Program} {o:Oper} {a:Act} {σ σ':St} {Q:Exit->Act->World->Prop}
theorem afW (r:R B E w0 N σ a w G) {T:aO} (hT:Dn P T) {f:FuncId} {as:List aj} {vals:List Value} {v0:aj} (hN:∀n,o.dst=some n->n<N)
  (bX:(execOp a.eval o).run P w=.ok (.enter f vals.toArray) w) (hl:vals.length=as.length)
  (uu:∀(j:Nat) (x:aj) (v:Value),as[j]? =some x->vals[j]? =some v->RA w G σ.h x v)
  (hx:pq T f as σ.h=some v0):o.wp P a w (Nx B E w0 N (σ.put o.dst v0)) Q:=by
 have H:=r.hr
 unfold pq at hx
 split at hx
 ·rename_i sig M dz hM OX
  split at hx
  ·rename_i n0 aqf
   split at hx
   ·rename_i ds n md hv
    split at hx
    ·rename_i he
     subst he
     split at hx
     ·rename_i gr mo sz xs lo len eW pB
      injection hx with hx
      subst hx
      obtain⟨yI,ON⟩:=QJ OX hl uu
      obtain⟨pas,q1,q2,q3,q4,q5,q6,q7⟩:=H.lE hv yI ON
      have th:([((cR.row n:cR),md)].filterMap (·.1.dF)).Nodup:=by simp[cR.dF]
      generalize uD:eI sig (pas.map (·.ps))=fl at q5
      obtain⟨x,rfl⟩:∃x,fl=[x]:=by
       match fl,q5.len with
       |[x],_=>exact⟨x,rfl⟩
      obtain⟨Jz,wu⟩:=q5.at_ 0 _ x rfl rfl
      have bU:=wu.at_
      obtain⟨bm,np,aJ,aq,e1,e2,e3,e4,e5⟩:=bU
      rw[eW] at e1
      injection e1 with e1
      injection e1 with a1 a2 a3 a4
      subst a1 a2 a3 a4
      have bP:σ.h n≠none:=by rw[eW];simp
      have hr:=H.row n gr mo sz xs eW
      have nM:∀b,aT b x.2->rZ G n b/\((∀b,¬aX b (G.g n).px)\/mo=.live):=by
       intro b hb
       obtain⟨n',bm,m',aJ,aq,f1,f2,f3,f4,f5⟩:=wu.nG H hb
       have:n'=n:=by injection f1 with f1;exact f1.symm
       subst this
       rw[eW] at f2
       injection f2 with f2
       injection f2 with _ f2 _ _
       subst f2
       exact⟨f4,f5⟩
      have QN:Df w sig ds vals pas:=by
       refine⟨q2,q1,q3,fun y hy=>?_,?_,fun pc aU y hy b hb aY=>?_,fun p hp hk=>absurd hk (q4 p hp),fun i p s hp _ hk=>absurd hk (q4 p (List.mem_of_getElem? hp))⟩
       ·rw[uD,List.mem_singleton] at hy
        subst hy
        exact wu.ok
       ·rw[uD];simp
       ·rw[uD,List.mem_singleton] at hy
        subst hy
        obtain⟨f4,f5⟩:=nM b aY
        rcases q7 pc aU b hb with hi|⟨n',bm,m',aJ,aq,bk,sZ,A7⟩
        ·rcases f4 with⟨aL,rfl⟩|hF
         ·exact(H.own n bP aL).1 hi
         ·rcases f5 with f5|rfl
          ·exact f5 b hF
          ·exact(hr.mode.1 b hF).1 hi
        ·have aC:n'≠n:=fun e=>bk (by rw[e];simp)
         exact H.Ee aC sZ eW f5 A7 f4
      unfold Oper.wp
      rw[bX]
      refine(hT f sig M hM ds lo len pB w vals pas QN).mono fun e w' ⟨m1,sG,AQ,MA,rG,v,p1,p2,p3,⟨lb,lo1,la,l1,l2,l3,l4⟩,p4,q,p5,p6⟩=>?_
      subst p2
      rw[uD] at p1
      injection p1 with p1 _
      subst p1
      dsimp only at e4
      have qN:∀b,DX [(m1,PC.list sG MA AQ rG)] b->(B<=b\/E b):=by
       rintro b ⟨y,hy,hb⟩
       rw[List.mem_singleton] at hy
       subst hy
       rcases(nM b hb).1 with⟨aL,rfl⟩|hF
       ·exact(H.own n bP aL).2.1
       ·have gf:=hr.mode
        cases mo with
        |aF=>exact absurd rfl e2
        |ab=>exact(gf.1 b hF).2.2
        |live=>exact(gf.1 b hF).2.2
      have Zu:(td G [((cR.row n:cR),md)] [q]).g n=wY (G.g n) (.row n) q:=Y6 th (i:=0) (it:=(.row n,md)) rfl rfl rfl
      have hqe:q.er=.list sz xs:=by rw[p5,e4];exact ace hr
      have p6':=p6
      rw[e4] at p6
      obtain⟨tQ,K,_⟩:=H.Km (G':=td G [((cR.row n:cR),md)] [q]) (h':=σ.h) (w':=w') (S:=fun k=>k=n) p4.size (fun b hb cf=>p4.block b hb (by
        rintro⟨y,hy,oB⟩
        rw[List.mem_singleton] at hy
        subst hy
        exact cf n rfl (nM b oB).1)) (fun b hb=>p4.iu b hb) rfl (fun k hk=>by
        subst hk
        exact⟨gr,mo,sz,xs,xs,eW,eW,by rw[Zu];exact Xo H eW e2 e3 e5 p6 hqe⟩)
       (fun k hk=>⟨rfl,Y7 (by simp[cR.dF];exact hk)⟩)
      have uE:Fr B E w0 w':=by
       refine⟨p4.os.trans r.fr.os,p4.tape.trans r.fr.tape,p4.output.trans r.fr.output,Nat.le_trans r.fr.size p4.size,fun b hb he=>?_,fun b hb=>?_⟩
       ·refine(p4.block b (Nat.lt_of_lt_of_le hb r.fr.size) fun hx=>?_).trans (r.fr.block b hb he)
        rcases qN b hx with h1|h1
        ·omega
        ·exact he h1
       ·exact(r.fr.iu b hb).trans (p4.iu b (Nat.lt_of_lt_of_le hb r.fr.size))
      have r2:R B E w0 N σ a w' (td G [((cR.row n:cR),md)] [q]):=r.step rfl (fun _ h=>h) K tQ uE
      refine⟨_,r2.put (RA.gu ?_ ?_) (fun k hk=>?_) hN⟩
      ·rw[l2];rfl
      ·show σ.h n≠none->jA _ sz lo len v
       intro _
       have hq:PC.list sG MA AQ rG=n3 sz (G.g n):=e4
       unfold n3 at hq
       injection hq with g1 g2 g3 g4
       subst g1 g3 g4
       have aL:(G.g n).nl=false:=by
        cases h0:(G.g n).nl with
        |false=>rfl
        |true=>exact absurd (hr.nl h0).1 p3
       rw[aL] at g2
       have g2:MA=some (ad (G.g n).b (G.g n).o):=g2
       rw[l1] at g2
       injection g2 with g2
       obtain⟨rfl,rfl⟩:=nD g2
       obtain⟨ko,ad2,Ik,px2,rfl⟩:=PC.QA p6.val rfl
       rw[Zu]
       exact .inr ⟨aL,la,l2,l3,l4⟩
      ·have cO:k=n:=hk
       subst cO
       exact r.hr.iK k bP
     ·cases hx
    ·cases hx
   ·cases hx
  ·cases hx
 ·cases hx
theorem afP (r:R B E w0 N σ a w G) {T:aO} (hT:Dn P T) {f:FuncId} {xs:Array Operand} {ms:List MO} {ts:Array TypeId} {v0:aj} (hN:∀n,o.dst=some n->n<N)
  (ho:o.op=.call {callee:=.value (.func f),args:=xs,argTypes:=ts}) (hf:bD P f=true) (hm:gG xs.toList ms=true)
  (hx:pq T f (ms.map σ.ev) σ.h=some v0):o.wp P a w (Nx B E w0 N (σ.put o.dst v0)) Q:=by
 obtain⟨e1,e2⟩:=r.yg hm
 refine afW r hT (vals:=xs.toList.map a.eval) hN ?_ (by simpa using e1) e2 hx
 have he:(xs.toList.map a.eval).toArray=xs.map a.eval:=by apply Array.ext';simp
 rw[he]
 simp[execOp,ho,resolve,Deferred.ofValue,invoke,Act.eval,zD hf]
end
end Go.Am
