/- AmX: functions that give a window of a list of their arguments: what is said of them, and the caller's side of a call. No condition. -/
import Derived.Test.YtbgmbplglejidaaAmV
set_option linter.unusedVariables false
namespace Go.Am
def WW (P:Program) (f:FuncId) (sig:aN) (M:List Dv->Option (Nat×Nat)):Prop:=
 ∀ds lo len,M ds=some (lo,len)->∀(w:World) (vals:List Value) (pas:List PA),CK w sig ds vals pas->Calls P f vals.toArray w fun e w'=>
  ∃(m:Mode) (sz cap:Nat) (a:Option Addr) (xs:List (List PC)) (v:Value),eB sig (pas.map (·.ps))=[(m,.list sz a cap xs)]/\e=.returned v/\xs≠[]/\
   (∃(b o:Nat) (a':Option Addr),a=some (ad b o)/\v=.slice a' len (cap - lo)/\lo+len<=cap/\((lo<cap\/lo=0)->a'=some (ad b (o+lo*sz))))/\
   Fr w.heap.size (Dj [(m,.list sz a cap xs)]) w w'/\∃q:PC,q.er=(PC.list sz a cap xs).er/\tH w' m (.list sz a cap xs) q
def CR (P:Program) (T:aS):Prop:=∀f sig M,aS.rl T.ws f=some (sig,M)->WW P f sig M
section
variable {B:Nat} {E:Ex} {w0 w w':World} {G G':Gh} {N:Nat} {h h':Nat->Option aq} {used used':Nat->Bool} {tk:List PC}
variable {P:Program} {o:Oper} {a:Act} {σ σ':St} {Q:Exit->Act->World->Prop}
theorem afP (r:R B E w0 N σ a w G) {T:aS} (hT:CR P T) {f:FuncId} {as:List aj} {vals:List Value} {v0:aj} (hN:∀n,o.dst=some n->n<N)
  (bO:(execOp a.eval o).run P w=.ok (.enter f vals.toArray) w) (hl:vals.length=as.length)
  (uj:∀(j:Nat) (x:aj) (v:Value),as[j]? =some x->vals[j]? =some v->RA w G σ.h x v)
  (hx:oI T f as σ.h=some v0):o.wp P a w (Nx B E w0 N (σ.put o.dst v0)) Q:=by
 have H:=r.hr
 unfold oI at hx
 split at hx
 ·rename_i sig M dq hM OP
  split at hx
  ·rename_i n0 aqX
   split at hx
   ·rename_i ds n md hv
    split at hx
    ·rename_i he
     subst he
     split at hx
     ·rename_i gr mo sz xs lo len eS oP
      injection hx with hx
      subst hx
      obtain⟨yx,OD⟩:=Qw OP hl uj
      obtain⟨pas,q1,q2,q3,q4,q5,q6,q7⟩:=H.kO hv yx OD
      have sS:([((cI.row n:cI),md)].filterMap (·.1.dB)).Nodup:=by simp[cI.dB]
      generalize uu:eB sig (pas.map (·.ps))=fl at q5
      obtain⟨x,rfl⟩:∃x,fl=[x]:=by
       match fl,q5.len with
       |[x],_=>exact⟨x,rfl⟩
      obtain⟨I2,wb⟩:=q5.at_ 0 _ x rfl rfl
      have cg:=wb.at_
      obtain⟨bj,mR,aL,ar,e1,e2,e3,e4,e5⟩:=cg
      rw[eS] at e1
      injection e1 with e1
      injection e1 with a1 a2 a3 a4
      subst a1 a2 a3 a4
      have bJ:σ.h n≠none:=by rw[eS];simp
      have hr:=H.row n gr mo sz xs eS
      have nb:∀b,aT b x.2->rp G n b/\((∀b,¬aX b (G.g n).px)\/mo=.live):=by
       intro b hb
       obtain⟨n',bj,m',aL,ar,f1,f2,f3,f4,f5⟩:=wb.m5 H hb
       have:n'=n:=by injection f1 with f1;exact f1.symm
       subst this
       rw[eS] at f2
       injection f2 with f2
       injection f2 with _ f2 _ _
       subst f2
       exact⟨f4,f5⟩
      have Qz:CK w sig ds vals pas:=by
       refine⟨q2,q1,q3,fun y hy=>?_,?_,fun pc aY y hy b hb aW=>?_,fun p hp hk=>absurd hk (q4 p hp),fun i p s hp _ hk=>absurd hk (q4 p (List.mem_of_getElem? hp))⟩
       ·rw[uu,List.mem_singleton] at hy
        subst hy
        exact wb.ok
       ·rw[uu];simp
       ·rw[uu,List.mem_singleton] at hy
        subst hy
        obtain⟨f4,f5⟩:=nb b aW
        rcases q7 pc aY b hb with hi|⟨n',bj,m',aL,ar,bk,sG,AB⟩
        ·rcases f4 with⟨aR,rfl⟩|hF
         ·exact(H.own n bJ aR).1 hi
         ·rcases f5 with f5|rfl
          ·exact f5 b hF
          ·exact(hr.mode.1 b hF).1 hi
        ·have aE:n'≠n:=fun e=>bk (by rw[e];simp)
         exact H.DA aE sG eS f5 AB f4
      unfold Oper.wp
      rw[bO]
      refine(hT f sig M hM ds lo len oP w vals pas Qz).mono fun e w' ⟨m1,r5,Ar,Md,qV,v,p1,p2,p3,⟨lb,lo1,la,l1,l2,l3,l4⟩,p4,q,p5,p6⟩=>?_
      subst p2
      rw[uu] at p1
      injection p1 with p1 _
      subst p1
      dsimp only at e4
      have qb:∀b,Dj [(m1,PC.list r5 Md Ar qV)] b->(B<=b\/E b):=by
       rintro b ⟨y,hy,hb⟩
       rw[List.mem_singleton] at hy
       subst hy
       rcases(nb b hb).1 with⟨aR,rfl⟩|hF
       ·exact(H.own n bJ aR).2.1
       ·have fS:=hr.mode
        cases mo with
        |aO=>exact absurd rfl e2
        |ab=>exact(fS.1 b hF).2.2
        |live=>exact(fS.1 b hF).2.2
      have ZF:(sO G [((cI.row n:cI),md)] [q]).g n=wV (G.g n) (.row n) q:=Zh sS (i:=0) (it:=(.row n,md)) rfl rfl rfl
      have hqe:q.er=.list sz xs:=by rw[p5,e4];exact ace hr
      have p6':=p6
      rw[e4] at p6
      obtain⟨tE,K,_⟩:=H.JK (G':=sO G [((cI.row n:cI),md)] [q]) (h':=σ.h) (w':=w') (S:=fun k=>k=n) p4.size (fun b hb bS=>p4.block b hb (by
        rintro⟨y,hy,nQ⟩
        rw[List.mem_singleton] at hy
        subst hy
        exact bS n rfl (nb b nQ).1)) (fun b hb=>p4.jc b hb) rfl (fun k hk=>by
        subst hk
        exact⟨gr,mo,sz,xs,xs,eS,eS,by rw[ZF];exact XA H eS e2 e3 e5 p6 hqe⟩)
       (fun k hk=>⟨rfl,Zi (by simp[cI.dB];exact hk)⟩)
      have uv:Fr B E w0 w':=by
       refine⟨p4.os.trans r.fr.os,p4.tape.trans r.fr.tape,p4.output.trans r.fr.output,Nat.le_trans r.fr.size p4.size,fun b hb he=>?_,fun b hb=>?_⟩
       ·refine(p4.block b (Nat.lt_of_lt_of_le hb r.fr.size) fun hx=>?_).trans (r.fr.block b hb he)
        rcases qb b hx with h1|h1
        ·omega
        ·exact he h1
       ·exact(r.fr.jc b hb).trans (p4.jc b (Nat.lt_of_lt_of_le hb r.fr.size))
      have r2:R B E w0 N σ a w' (sO G [((cI.row n:cI),md)] [q]):=r.step rfl (fun _ h=>h) K tE uv
      refine⟨_,r2.put (RA.fZ ?_ ?_) (fun k hk=>?_) hN⟩
      ·rw[l2];rfl
      ·show σ.h n≠none->jg _ sz lo len v
       intro _
       have hq:PC.list r5 Md Ar qV=nw sz (G.g n):=e4
       unfold nw at hq
       injection hq with g1 g2 g3 g4
       subst g1 g3 g4
       have aR:(G.g n).nl=false:=by
        cases h0:(G.g n).nl with
        |false=>rfl
        |true=>exact absurd (hr.nl h0).1 p3
       rw[aR] at g2
       have g2:Md=some (ad (G.g n).b (G.g n).o):=g2
       rw[l1] at g2
       injection g2 with g2
       obtain⟨rfl,rfl⟩:=mX g2
       obtain⟨jZ,ad2,HM,px2,rfl⟩:=PC.Qn p6.val rfl
       rw[ZF]
       exact .inr ⟨aR,la,l2,l3,l4⟩
      ·have cY:k=n:=hk
       subst cY
       exact r.hr.iA k bJ
     ·cases hx
    ·cases hx
   ·cases hx
  ·cases hx
 ·cases hx
theorem afI (r:R B E w0 N σ a w G) {T:aS} (hT:CR P T) {f:FuncId} {xs:Array Operand} {ms:List MO} {ts:Array TypeId} {v0:aj} (hN:∀n,o.dst=some n->n<N)
  (ho:o.op=.call {callee:=.value (.func f),args:=xs,argTypes:=ts}) (hf:bi P f=true) (hm:gi xs.toList ms=true)
  (hx:oI T f (ms.map σ.ev) σ.h=some v0):o.wp P a w (Nx B E w0 N (σ.put o.dst v0)) Q:=by
 obtain⟨e1,e2⟩:=r.yb hm
 refine afP r hT (vals:=xs.toList.map a.eval) hN ?_ (by simpa using e1) e2 hx
 have he:(xs.toList.map a.eval).toArray=xs.map a.eval:=by apply Array.ext';simp
 rw[he]
 simp[execOp,ho,resolve,Deferred.ofValue,invoke,Act.eval,zl hf]
end
end Go.Am
