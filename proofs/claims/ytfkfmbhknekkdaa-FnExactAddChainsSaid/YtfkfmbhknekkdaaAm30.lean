/- Am30: functions that change lists of their arguments: the end of a call. No condition. -/
import Derived.Test.YtfkfmbhknekkdaaAm29
set_option linter.unusedVariables false
namespace Go.Am
section
variable {B:Nat} {E:Ex} {w0 w w':World} {G G':Gh} {N:Nat} {h h':Nat->Option ak} {used:Nat->Bool}
variable {P:Program} {T:aA} {a:Act} {σ σ':St} {Q:Exit->Act->World->Prop}
theorem sS {n:Nat} {b:ak} (hn:σ.iC.h n=some b):¬aZ<=n/\σ.h n=some b:=by
 unfold St.iC at hn
 simp only at hn
 split at hn
 ·cases hn
 ·rename_i h;exact⟨h,hn⟩
theorem zF {n:Nat} (hn:σ.iC.h n≠none):¬aZ<=n/\σ.h n≠none:=by
 cases h:σ.iC.h n with
 |none=>exact absurd h hn
 |some b=>obtain⟨a,e⟩:=sS h;exact⟨a,by rw[e];simp⟩
theorem aQ.iC (u:Nat->Prop):aQ w G σ.h u w G σ.iC.h:=
 ⟨fun _ h=>h,fun _ _ _=>rfl,fun n _ hn=>⟨(zF hn).2,rfl,rfl,rfl,rfl,rfl⟩,fun n gr sz xs _ hn=>⟨⟨gr,xs,(sS hn).2⟩,fun k j pc h1 h2=>⟨pc,h1,rfl,h2⟩⟩⟩
theorem R.iC (r:R B E w0 N σ a w G) (hE:∀b,E b->∃n gr m sz xs,aZ<=n/\σ.h n=some (.row gr m sz xs)/\m≠ .aF/\lp G n b/\(m=.aj->¬aN b (G.g n).px)):
  R B Ex.no w N σ.iC a w G:=by
 have H:=r.hr
 have K:aQ w G σ.h (fun n=>σ.used n=true) w G σ.iC.h:=aQ.iC _
 have big:∀n,¬aZ<=n->σ.h n≠none->(G.g n).nl=false->¬E (G.g n).b:=by
  intro n hn h0 hl hb
  obtain⟨q,gr,m,sz,xs,hq,h1,h2,h3,h4⟩:=hE _ hb
  have av:n≠q:=fun e=>hn (e▸hq)
  have lD:σ.h q≠none:=by rw[h1];simp
  rcases h3 with⟨l,e⟩|h3
  ·exact H.inj n q h0 lD av hl l e
  ·cases m with
   |aF=>exact h2 rfl
   |aj=>exact h4 rfl h3
   |live=>exact H.live q gr sz xs h1 _ h3 n h0 hl rfl
 have Rn:∀n gr m sz xs,¬aZ<=n->σ.h n=some (.row gr m sz xs)->m≠ .aF->∀b,aN b (G.g n).px->¬E b:=by
  intro n gr m sz xs hn h0 hm b hb he
  obtain⟨q,aU,m',aC,ao,hq,h1,h2,h3,h4⟩:=hE _ he
  have av:n≠q:=fun e=>hn (e▸hq)
  exact H.Tq av h0 h1 hm h2 (.inr hb) h3
 refine⟨r.defers,r.size,fun s=>(r.env s).eI K fun m hm=>r.qj s m hm,r.qj,?_,Fr.refl _ _ _ r.fr.size,fun n p b hp=>(by cases hp),r.wW⟩
 refine⟨fun n hn=>H.gN n (zF hn).2,fun m cs c n hm hc hr=>H.fW m cs c n (sS hm).2 hc hr,fun n cs hn=>?_,fun n gr m sz xs hn=>?_,fun n hn hl=>?_,fun n n' hn bC=>H.inj n n' (zF hn).2 (zF bC).2,
  H.fv,fun b _=>.inr (.inr trivial),fun n n' gr m sz xs aU m' aC ao hn bC=>H.fg n n' gr m sz xs aU m' aC ao (sS hn).2 (sS bC).2,fun n gr sz xs hn b hb n' bC=>H.live n gr sz xs (sS hn).2 b hb n' (zF bC).2,?_,?_,?_⟩
 ·obtain⟨a1,a2,a3⟩:=H.box n cs (sS hn).2
  refine⟨a1,a2,fun j c hj=>?_⟩
  obtain⟨v,b1,b2,b3⟩:=a3 j c hj
  exact⟨v,b1,b2,b3.eI K fun q hq=>H.fW n cs c q (sS hn).2 (List.mem_of_getElem? hj) hq⟩
 ·obtain⟨hp,h0⟩:=sS hn
  have hr:=H.row n gr m sz xs h0
  refine⟨hr.pos,hr.er,hr.nl,hr.dv,hr.room,?_⟩
  have hm:=hr.mode
  cases m with
  |aF=>exact hm
  |aj=>exact⟨fun b hb=>⟨(hm.1 b hb).1,(hm.1 b hb).2.1,(hm.1 b hb).2.2.imp id fun he=>absurd he (Rn n gr .aj sz xs hp h0 (by simp) b hb)⟩,hm.2⟩
  |live=>exact⟨fun b hb=>⟨(hm.1 b hb).1,(hm.1 b hb).2.1,(hm.1 b hb).2.2.imp id fun he=>absurd he (Rn n gr .live sz xs hp h0 (by simp) b hb)⟩,hm.2⟩
 ·obtain⟨hp,h0⟩:=zF hn
  obtain⟨o1,o2,o3⟩:=H.own n h0 hl
  exact⟨o1,o2.imp id fun he=>absurd he (big n hp h0 hl),o3⟩
 ·intro i pc hi;simp at hi
 ·intro i j pc dd b _ hi;simp at hi
 ·intro i pc n gr m sz xs b hi;simp at hi
theorem acD {m:Mode} {px:List (List PC)} (hf:qG m (px.map fun e=>e.map PC.er)=true):(m=.aj->∀b,¬aN b px)/\m≠ .aF/\(m=.live->(px.map fun e=>e.map PC.er).all (fun e=>e.all C.qD)=true):=by
 cases m with
 |aF=>cases hf
 |aj=>exact⟨fun _ b=>zS hf b,(by simp),fun h=>(by cases h)⟩
 |live=>exact⟨fun h=>(by cases h),(by simp),fun _=>hf⟩
theorem Q5 {fl:List (Mode×PC)} (eG:∀x∈fl,vu w0 x.1 x.2) (hg:∀x∈fl,Good w0 x.2) (r:R B (vV fl) w0 N σ a w G) {cP:List C} (ho:uH σ 0 (fl.map fun x=>(x.1,x.2.er))=some cP)
  {i:Nat} {x:Mode×PC} (hx:fl[i]? =some x):∃q o,cP[i]? =some o/\q.er=o/\qt w x.1 x.2 q/\
   ∃gr sz xs,σ.h (aZ+i)=some (.row gr x.1 sz xs)/\(∀b,aM b x.2->lp G (aZ+i) b)/\(x.1=.aj->∀b,¬aN b (G.g (aZ+i)).px)/\x.1≠ .aF:=by
 obtain⟨m,pc⟩:=x
 have tW:=List.mem_of_getElem? hx
 obtain⟨o1,o2⟩:=NC ho
 obtain⟨o,e1,e2⟩:=o2 i (m,pc.er) (by rw[List.getElem?_map,hx];rfl)
 rw[Nat.zero_add] at e2
 obtain⟨sz,xs,gr,ao,f1,f2,f3,f4,f5,rfl⟩:=aio e2
 have ok:=eG _ tW
 have acZ:=hg _ tW
 obtain⟨rF,a0,cap,wY,rfl,dU,lC,sy⟩:=ok.dv
 simp only[PC.du] at f1
 injection f1 with f1a f1b
 subst f1a
 subst f1b
 have hr:=r.hr.row _ gr m rF ao f2
 have yS:(vV fl).rq (aZ+i)=some (mH (.list rF a0 cap wY)):=by
  show(if aZ<=aZ+i then(fl[aZ+i - aZ]?).map (fun x=>mH x.2) else none)=_
  rw[if_pos (Nat.le_add_right _ _),Nat.add_sub_cancel_left,hx]
  rfl
 obtain⟨p1,p2,p3,p4,p6,p5⟩:=r.rq _ _ _ yS f2
 have yL:ao=(G.g (aZ+i)).px.map fun e=>e.map PC.er:=hr.er
 have E4:=f4
 simp only at E4
 rw[yL] at E4
 obtain⟨q1,q2,q3⟩:=acD E4
 have hlen:(G.g (aZ+i)).px.length=wY.length:=by
  have:=f3
  rw[yL] at this
  simpa using this
 have Uk:gx (G.g (aZ+i)).px:=by
  have hm:=hr.mode
  cases m with
  |aF=>exact absurd rfl q2
  |aj=>exact hm.2
  |live=>exact hm.2
 have av:σ.h (aZ+i)≠none:=by rw[f2];simp
 rcases acZ.cases with rfl|⟨eN,hH,b,o,rfl⟩
 ·have Ui:(G.g (aZ+i)).px=[]:=List.eq_nil_of_length_eq_zero (by rw[hlen];rfl)
  refine⟨.list rF a0 cap [],_,e1,(by rw[PC.du,yL,Ui]),⟨rfl,.nil _ _ _ dU,ok.sep,fun _ h=>h,?_,?_⟩,gr,rF,ao,f2,fun b' aL=>?_,fun hm b' aL=>q1 hm b' aL,q2⟩
  ·simp only[PC.du]
   rw[yL,Ui] at f4
   exact f4
  ·intro sz a cap xs aC a' qy gw tQ pE
   have pE:=tQ.symm.trans pE
   injection pE with h1 h2 h3 h4
   refine⟨h1.symm,h2.symm,h3.symm,by rw[h4],fun _ k j c hk hL=>?_⟩
   injection tQ with _ _ _ h5
   subst h5
   obtain⟨e,he,_⟩:=hk
   simp at he
  ·rw[aM.jk] at aL
   rcases aL with⟨aL,_⟩|⟨k,j,c,⟨e,he,_⟩,_⟩
   ·exact absurd rfl aL
   ·simp at he
 ·have qR:m=.live->∀k j c,At wY k j c->c.fR=true->∃c',At (G.g (aZ+i)).px k j c'/\c'.val=c.val/\c'.fR=true:=by
   rintro rfl k j c hk hL
   rw[uL eN] at p5
   exact p5 gr rF ao rfl k j c hk hL
  rw[uL eN] at p1 p2 p3 p4
  simp only at p1 p2 p3 p4
  obtain⟨l1,l2,l3⟩:=hr.dv p1
  rw[p2] at l1 l2
  rw[p3] at l2
  rw[p4] at l3
  have ado:(G.g (aZ+i)).px≠[]:=by
   intro h0
   rw[h0] at hlen
   exact eN (List.eq_nil_of_length_eq_zero hlen.symm)
  have gO:Good w (.list rF (some (ad b o)) cap (G.g (aZ+i)).px):=.cons _ _ _ _ _ ado l3 dU l2.1 l2.2.1 l2.2.2
  have adt:¬aN b (G.g (aZ+i)).px:=by
   intro hb
   cases m with
   |aF=>exact q2 rfl
   |aj=>exact q1 rfl b hb
   |live=>exact r.hr.live _ gr rF ao f2 b hb _ av p1 p2.symm
  have acO:m=.live->∀b',aN b' (G.g (aZ+i)).px->aN b' wY:=by
   rintro rfl b' aL
   refine WT (px':=wY) (q3 rfl) (fun k j c hk hL=>?_) aL
   rw[yL] at f5
   obtain⟨c0,Fq,pz⟩:=akw f5 hk
   rw[hL] at pz
   obtain⟨c1,KO,gQ,hL1⟩:=qR rfl k j c0 Fq pz
   rw[At.inj KO hk] at gQ
   exact⟨c0,Fq,gQ.symm,pz⟩
  refine⟨.list rF (some (ad b o)) cap (G.g (aZ+i)).px,_,e1,by rw[PC.du,yL],⟨by simp only[PC.val,hlen],gO,.list _ _ _ _ Uk.1 (fun b1 o1 k j c he hk hb1=>?_) Uk.2,fun b' aL=>?_,?_,?_⟩,gr,rF,ao,f2,fun b' aL=>?_,q1,q2⟩
  ·injection he with he
   obtain⟨rfl,_⟩:=lg he
   exact adt ⟨k,j,c,hk,hb1⟩
  ·rw[aM.jk] at aL
   rcases aL with⟨_,o',fP⟩|hF
   ·injection fP with fP
    rw[<-(lg fP).1]
    exact .here _ _ _ _ eN
   ·cases m with
    |aF=>exact absurd rfl q2
    |aj=>exact absurd hF (q1 rfl b')
    |live=>
     obtain⟨k,j,c,hk,hc⟩:=acO rfl b' hF
     exact .there _ _ _ _ k j c hk hc
  ·simp only[PC.du]
   exact E4
  ·intro sz a qy xs aC a' alH gw tQ pE
   injection tQ with h1 h2 h3 h4
   injection pE with g1 g2 g3 g4
   subst h1 h2 h3 h4 g1 g2 g3 g4
   exact⟨rfl,rfl,rfl,hlen,qR⟩
  ·rw[aM.jk] at aL
   rcases aL with⟨_,o',fP⟩|hF
   ·injection fP with fP
    exact .inl ⟨p1,by rw[p2];exact(lg fP).1.symm⟩
   ·cases m with
    |aF=>exact absurd rfl q2
    |aj=>exact absurd hF (zS sy b')
    |live=>exact .inr (WT sy (qR rfl) hF)
theorem ahr (hT:mR P T) (hm:P.follows .mixedOrders=true) {f:FuncId} {fn:Func} {c:Code} {mc:ld} {ms:List cD} {sig:aJ} {M:List Dv->Option (List Dv×List C)} (hf:P.funcs[f]? =some fn) (hb:fn.body=some c)
  (hc:iv P fn.ntmps c mc=true) (hr:lW P fn.results.toList ms=true) (hM:∀ds rs cP,M ds=some (rs,cP)->ds.length<=fn.ntmps/\GM T mc ms sig ds=some (rs,cP)):rP P f sig M:=by
 intro ds rs cP jZ w vals aD ha
 obtain⟨hN,bH⟩:=hM ds rs cP jZ
 refine calls_of_wp hf hb ?_
 have r0:=R.LM (N:=fn.ntmps) ha hN
 have eK:∀p∈aD,∀pc∈p.ps,Good w pc:=by
  intro p hp pc bc
  obtain⟨i,hi,rfl⟩:=List.getElem_of_mem hp
  have hd:ds[i]? =some (ds[i]'(by rw[<-ha.l2];exact hi)):=List.getElem?_eq_getElem _
  have hv:vals[i]? =some (vals[i]'(by rw[ha.l1,<-ha.l2];exact hi)):=List.getElem?_eq_getElem _
  exact(ha.at_ i _ _ _ hd hv (List.getElem?_eq_getElem hi)).2.1 pc bc
 have hg:∀x∈dr sig (aD.map (·.ps)),Good w x.2:=by
  intro x hx
  obtain⟨l,hl,oe⟩:=Jv hx
  obtain⟨p,hp,rfl⟩:=List.mem_map.1 hl
  exact eK p hp _ oe
 have acT:ds.map (·.2)=(aD.map (·.ps)).map fun l=>l.map PC.er:=by
  apply List.ext_getElem?
  intro i
  simp only[List.getElem?_map]
  cases hd:ds[i]? with
  |none=>
   have:ds.length<=i:=List.getElem?_eq_none_iff.1 hd
   rw[List.getElem?_eq_none (by rw[ha.l2];exact this)]
   rfl
  |some d=>
   have hi:=(List.getElem?_eq_some_iff.1 hd).1
   have hv:vals[i]? =some (vals[i]'(by rw[ha.l1];exact hi)):=List.getElem?_eq_getElem _
   have hp:aD[i]? =some (aD[i]'(by rw[ha.l2];exact hi)):=List.getElem?_eq_getElem _
   have:=(ha.at_ i d _ _ hd hv hp).1
   rw[hp]
   simp only[Option.map_some]
   rw[this]
 unfold GM at bH
 rw[acT,E5] at bH
 generalize iy:dr sig (aD.map (·.ps))=fl at bH r0 hg
 have eG:=ha.ok
 rw[iy] at eG
 have fin:∀{σ:St} {a:Act} {w':World} {G:Gh},σ.zP ms (fl.map fun x=>(x.1,x.2.er))=some (rs,cP)->R w.heap.size (vV fl) w fn.ntmps σ a w' G->a.defers=[]/\∃v,(results fn a.tmps).run P w'=.ok v w'/\
   ∃aT:List (K×List PC),aT.map (fun p=>(p.1,p.2.map PC.er))=rs/\(Ending.returned v)=.returned (sZ aT)/\(∀p∈aT,p.1≠ .ptr/\(p.1=.one->p.2.length=1))/\
   xT w' w.heap.size (aT.flatMap (·.2))/\Fr w.heap.size (yx fl) w w'/\
   ∃qs:List PC,qs.map PC.er=cP/\qs.length=fl.length/\∀(i:Nat) (x:Mode×PC) (q:PC),fl[i]? =some x->qs[i]? =some q->qt w' x.1 x.2 q:=by
  intro σ a w' G hx r
  unfold St.zP at hx
  split at hx
  ·rename_i NZ aip e1 e2
   injection hx with hx
   injection hx with lF dD
   subst lF dD
   have hE:∀b,(vV fl) b->∃n gr m sz xs,aZ<=n/\σ.h n=some (.row gr m sz xs)/\m≠ .aF/\lp G n b/\(m=.aj->¬aN b (G.g n).px):=by
    rintro b ⟨x,sK,Li⟩
    obtain⟨i,hi⟩:=List.getElem?_of_mem sK
    obtain⟨q,o,_,_,_,gr,sz,xs,k1,k2,k3,k4⟩:=Q5 eG hg r e2 hi
    exact⟨aZ+i,gr,x.1,sz,xs,Nat.le_add_right _ _,k1,k4,k2 b Li,fun hm=>k3 hm b⟩
   obtain⟨aT,p1,p2,p3,p4⟩:=XZ (r.iC hE) hr e1
   obtain⟨ol,_⟩:=NC e2
   have hq:∀i:Fin fl.length,∃q,aip[i.1]? =some (PC.er q)/\qt w' (fl[i.1]).1 (fl[i.1]).2 q:=by
    intro i
    obtain⟨q,o,k1,k2,k3,_⟩:=Q5 eG hg r e2 (List.getElem?_eq_getElem i.2)
    exact⟨q,by rw[k1,k2],k3⟩
   refine⟨r.defers,_,p2,aT,p1,rfl,p3,p4,⟨r.fr.os,r.fr.tape,r.fr.output,r.fr.size,r.fr.block,r.fr.iU⟩,List.ofFn fun i=>Classical.choose (hq i),?_,by simp,fun i x q hi nb=>?_⟩
   ·apply List.ext_getElem?
    intro i
    simp only[List.getElem?_map]
    by_cases hi:i<fl.length
    ·rw[List.getElem?_ofFn,dif_pos hi]
     exact(Classical.choose_spec (hq ⟨i,hi⟩)).1.symm
    ·rw[List.getElem?_eq_none (by simp;omega),List.getElem?_eq_none (by rw[ol];simp;omega)]
     rfl
   ·obtain⟨hl,e⟩:=List.getElem?_eq_some_iff.1 hi
    rw[List.getElem?_ofFn,dif_pos hl] at nb
    injection nb with nb
    subst nb
    subst e
    exact(Classical.choose_spec (hq ⟨i,hl⟩)).2
  ·cases hx
 split at bH
 ·rename_i σ e
  exact lk hT hm mc hc e r0 fun a w' G r=>fin bH r
 ·rename_i σ e
  exact lk hT hm mc hc e r0 fun a w' G r=>fin bH r
 ·cases bH
end
end Go.Am
