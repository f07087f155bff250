/- Am30: functions that change lists of their arguments: the end of a call. No condition. -/
import Derived.Test.YtbgmbplglejidaaAm29
set_option linter.unusedVariables false
namespace Go.Am
section
variable {B:Nat} {E:Ex} {w0 w w':World} {G G':Gh} {N:Nat} {h h':Nat->Option aq} {used:Nat->Bool}
variable {P:Program} {T:aS} {a:Act} {σ σ':St} {Q:Exit->Act->World->Prop}
theorem uY {n:Nat} {b:aq} (hn:σ.jE.h n=some b):¬aM<=n/\σ.h n=some b:=by
 unfold St.jE at hn
 simp only at hn
 split at hn
 ·cases hn
 ·rename_i h;exact⟨h,hn⟩
theorem BL {n:Nat} (hn:σ.jE.h n≠none):¬aM<=n/\σ.h n≠none:=by
 cases h:σ.jE.h n with
 |none=>exact absurd h hn
 |some b=>obtain⟨a,e⟩:=uY h;exact⟨a,by rw[e];simp⟩
theorem aZ.jE (u:Nat->Prop):aZ w G σ.h u w G σ.jE.h:=
 ⟨fun _ h=>h,fun _ _ _=>rfl,fun n _ hn=>⟨(BL hn).2,rfl,rfl,rfl,rfl,rfl⟩,fun n gr sz xs _ hn=>⟨⟨gr,xs,(uY hn).2⟩,fun k j pc h1 h2=>⟨pc,h1,rfl,h2⟩⟩⟩
theorem R.jE (r:R B E w0 N σ a w G) (hE:∀b,E b->∃n gr m sz xs,aM<=n/\σ.h n=some (.row gr m sz xs)/\m≠ .aO/\m5 G n b/\(m=.ab->¬aX b (G.g n).px)):
  R B Ex.no w N σ.jE a w G:=by
 have H:=r.hr
 have K:aZ w G σ.h (fun n=>σ.used n=true) w G σ.jE.h:=aZ.jE _
 have big:∀n,¬aM<=n->σ.h n≠none->(G.g n).nl=false->¬E (G.g n).b:=by
  intro n hn h0 hl hb
  obtain⟨q,gr,m,sz,xs,hq,h1,h2,h3,h4⟩:=hE _ hb
  have aE:n≠q:=fun e=>hn (e▸hq)
  have nd:σ.h q≠none:=by rw[h1];simp
  rcases h3 with⟨l,e⟩|h3
  ·exact H.inj n q h0 nd aE hl l e
  ·cases m with
   |aO=>exact h2 rfl
   |ab=>exact h4 rfl h3
   |live=>exact H.live q gr sz xs h1 _ h3 n h0 hl rfl
 have Xi:∀n gr m sz xs,¬aM<=n->σ.h n=some (.row gr m sz xs)->m≠ .aO->∀b,aX b (G.g n).px->¬E b:=by
  intro n gr m sz xs hn h0 hm b hb he
  obtain⟨q,bj,m',aL,ar,hq,h1,h2,h3,h4⟩:=hE _ he
  have aE:n≠q:=fun e=>hn (e▸hq)
  exact H.Za aE h0 h1 hm h2 (.inr hb) h3
 refine⟨r.defers,r.size,fun s=>(r.env s).eV K fun m hm=>r.r7 s m hm,r.r7,?_,Fr.refl _ _ _ r.fr.size,fun n p b hp=>(by cases hp),r.ze⟩
 refine⟨fun n hn=>H.iA n (BL hn).2,fun m cs c n hm hc hr=>H.gC m cs c n (uY hm).2 hc hr,fun n cs hn=>?_,fun n gr m sz xs hn=>?_,fun n hn hl=>?_,fun n n' hn bk=>H.inj n n' (BL hn).2 (BL bk).2,
  H.fL,fun b _=>.inr (.inr trivial),fun n n' gr m sz xs bj m' aL ar hn bk=>H.fA n n' gr m sz xs bj m' aL ar (uY hn).2 (uY bk).2,fun n gr sz xs hn b hb n' bk=>H.live n gr sz xs (uY hn).2 b hb n' (BL bk).2,?_,?_,?_⟩
 ·obtain⟨a1,a2,a3⟩:=H.box n cs (uY hn).2
  refine⟨a1,a2,fun j c hj=>?_⟩
  obtain⟨v,b1,b2,b3⟩:=a3 j c hj
  exact⟨v,b1,b2,b3.eV K fun q hq=>H.gC n cs c q (uY hn).2 (List.mem_of_getElem? hj) hq⟩
 ·obtain⟨hp,h0⟩:=uY hn
  have hr:=H.row n gr m sz xs h0
  refine⟨hr.pos,hr.er,hr.nl,hr.dT,hr.room,?_⟩
  have hm:=hr.mode
  cases m with
  |aO=>exact hm
  |ab=>exact⟨fun b hb=>⟨(hm.1 b hb).1,(hm.1 b hb).2.1,(hm.1 b hb).2.2.imp id fun he=>absurd he (Xi n gr .ab sz xs hp h0 (by simp) b hb)⟩,hm.2⟩
  |live=>exact⟨fun b hb=>⟨(hm.1 b hb).1,(hm.1 b hb).2.1,(hm.1 b hb).2.2.imp id fun he=>absurd he (Xi n gr .live sz xs hp h0 (by simp) b hb)⟩,hm.2⟩
 ·obtain⟨hp,h0⟩:=BL hn
  obtain⟨o1,o2,o3⟩:=H.own n h0 hl
  exact⟨o1,o2.imp id fun he=>absurd he (big n hp h0 hl),o3⟩
 ·intro i pc hi;simp at hi
 ·intro i j pc di b _ hi;simp at hi
 ·intro i pc n gr m sz xs b hi;simp at hi
theorem ahr {m:Mode} {px:List (List PC)} (hf:sJ m (px.map fun e=>e.map PC.er)=true):(m=.ab->∀b,¬aX b px)/\m≠ .aO/\(m=.live->(px.map fun e=>e.map PC.er).all (fun e=>e.all C.sE)=true):=by
 cases m with
 |aO=>cases hf
 |ab=>exact⟨fun _ b=>B8 hf b,(by simp),fun h=>(by cases h)⟩
 |live=>exact⟨fun h=>(by cases h),(by simp),fun _=>hf⟩
theorem W3 {fl:List (Mode×PC)} (fI:∀x∈fl,xP w0 x.1 x.2) (hg:∀x∈fl,Good w0 x.2) (r:R B (ye fl) w0 N σ a w G) {eI:List C} (ho:wY σ 0 (fl.map fun x=>(x.1,x.2.er))=some eI)
  {i:Nat} {x:Mode×PC} (hx:fl[i]? =some x):∃q o,eI[i]? =some o/\q.er=o/\tH w x.1 x.2 q/\
   ∃gr sz xs,σ.h (aM+i)=some (.row gr x.1 sz xs)/\(∀b,aT b x.2->m5 G (aM+i) b)/\(x.1=.ab->∀b,¬aX b (G.g (aM+i)).px)/\x.1≠ .aO:=by
 obtain⟨m,pc⟩:=x
 have uA:=List.mem_of_getElem? hx
 obtain⟨o1,o2⟩:=Se ho
 obtain⟨o,e1,e2⟩:=o2 i (m,pc.er) (by rw[List.getElem?_map,hx];rfl)
 rw[Nat.zero_add] at e2
 obtain⟨sz,xs,gr,ar,f1,f2,f3,f4,f5,rfl⟩:=anu e2
 have ok:=fI _ uA
 have ahY:=hg _ uA
 obtain⟨tx,a0,cap,zf,rfl,ed,nT,v7⟩:=ok.dT
 simp only[PC.dG] at f1
 injection f1 with f1a f1b
 subst f1a
 subst f1b
 have hr:=r.hr.row _ gr m tx ar f2
 have wk:(ye fl).qD (aM+i)=some (pt (.list tx a0 cap zf)):=by
  show(if aM<=aM+i then(fl[aM+i - aM]?).map (fun x=>pt x.2) else none)=_
  rw[if_pos (Nat.le_add_right _ _),Nat.add_sub_cancel_left,hx]
  rfl
 obtain⟨p1,p2,p3,p4,p6,p5⟩:=r.qD _ _ _ wk f2
 have AX:ar=(G.g (aM+i)).px.map fun e=>e.map PC.er:=hr.er
 have Iv:=f4
 simp only at Iv
 rw[AX] at Iv
 obtain⟨q1,q2,q3⟩:=ahr Iv
 have hlen:(G.g (aM+i)).px.length=zf.length:=by
  have:=f3
  rw[AX] at this
  simpa using this
 have ZY:ig (G.g (aM+i)).px:=by
  have hm:=hr.mode
  cases m with
  |aO=>exact absurd rfl q2
  |ab=>exact hm.2
  |live=>exact hm.2
 have aE:σ.h (aM+i)≠none:=by rw[f2];simp
 rcases ahY.cases with rfl|⟨fB,jk,b,o,rfl⟩
 ·have ZW:(G.g (aM+i)).px=[]:=List.eq_nil_of_length_eq_zero (by rw[hlen];rfl)
  refine⟨.list tx a0 cap [],_,e1,(by rw[PC.dG,AX,ZW]),⟨rfl,.nil _ _ _ ed,ok.sep,fun _ h=>h,?_,?_⟩,gr,tx,ar,f2,fun b' aW=>?_,fun hm b' aW=>q1 hm b' aW,q2⟩
  ·simp only[PC.dG]
   rw[AX,ZW] at f4
   exact f4
  ·intro sz a cap xs aL a' sA ic vZ uq
   have uq:=vZ.symm.trans uq
   injection uq with h1 h2 h3 h4
   refine⟨h1.symm,h2.symm,h3.symm,by rw[h4],fun _ k j c hk hL=>?_⟩
   injection vZ with _ _ _ h5
   subst h5
   obtain⟨e,he,_⟩:=hk
   simp at he
  ·rw[aT.ko] at aW
   rcases aW with⟨aW,_⟩|⟨k,j,c,⟨e,he,_⟩,_⟩
   ·exact absurd rfl aW
   ·simp at he
 ·have sR:m=.live->∀k j c,At zf k j c->c.gx=true->∃c',At (G.g (aM+i)).px k j c'/\c'.val=c.val/\c'.gx=true:=by
   rintro rfl k j c hk hL
   rw[zb fB] at p5
   exact p5 gr tx ar rfl k j c hk hL
  rw[zb fB] at p1 p2 p3 p4
  simp only at p1 p2 p3 p4
  obtain⟨l1,l2,l3⟩:=hr.dT p1
  rw[p2] at l1 l2
  rw[p3] at l2
  rw[p4] at l3
  have ail:(G.g (aM+i)).px≠[]:=by
   intro h0
   rw[h0] at hlen
   exact fB (List.eq_nil_of_length_eq_zero hlen.symm)
  have gH:Good w (.list tx (some (ad b o)) cap (G.g (aM+i)).px):=.cons _ _ _ _ _ ail l3 ed l2.1 l2.2.1 l2.2.2
  have aiq:¬aX b (G.g (aM+i)).px:=by
   intro hb
   cases m with
   |aO=>exact q2 rfl
   |ab=>exact q1 rfl b hb
   |live=>exact r.hr.live _ gr tx ar f2 b hb _ aE p1 p2.symm
  have ahK:m=.live->∀b',aX b' (G.g (aM+i)).px->aX b' zf:=by
   rintro rfl b' aW
   refine aaW (px':=zf) (q3 rfl) (fun k j c hk hL=>?_) aW
   rw[AX] at f5
   obtain⟨c0,ZK,rq⟩:=apE f5 hk
   rw[hL] at rq
   obtain⟨c1,IX,iD,hL1⟩:=sR rfl k j c0 ZK rq
   rw[At.inj IX hk] at iD
   exact⟨c0,ZK,iD.symm,rq⟩
  refine⟨.list tx (some (ad b o)) cap (G.g (aM+i)).px,_,e1,by rw[PC.dG,AX],⟨by simp only[PC.val,hlen],gH,.list _ _ _ _ ZY.1 (fun b1 o1 k j c he hk sP=>?_) ZY.2,fun b' aW=>?_,?_,?_⟩,gr,tx,ar,f2,fun b' aW=>?_,q1,q2⟩
  ·injection he with he
   obtain⟨rfl,_⟩:=mX he
   exact aiq ⟨k,j,c,hk,sP⟩
  ·rw[aT.ko] at aW
   rcases aW with⟨_,o',gm⟩|hF
   ·injection gm with gm
    rw[<-(mX gm).1]
    exact .here _ _ _ _ fB
   ·cases m with
    |aO=>exact absurd rfl q2
    |ab=>exact absurd hF (q1 rfl b')
    |live=>
     obtain⟨k,j,c,hk,hc⟩:=ahK rfl b' hF
     exact .there _ _ _ _ k j c hk hc
  ·simp only[PC.dG]
   exact Iv
  ·intro sz a sA xs aL a' aqR ic vZ uq
   injection vZ with h1 h2 h3 h4
   injection uq with g1 g2 g3 g4
   subst h1 h2 h3 h4 g1 g2 g3 g4
   exact⟨rfl,rfl,rfl,hlen,sR⟩
  ·rw[aT.ko] at aW
   rcases aW with⟨_,o',gm⟩|hF
   ·injection gm with gm
    exact .inl ⟨p1,by rw[p2];exact(mX gm).1.symm⟩
   ·cases m with
    |aO=>exact absurd rfl q2
    |ab=>exact absurd hF (B8 v7 b')
    |live=>exact .inr (aaW v7 (sR rfl) hF)
theorem alR (hT:nI P T) (hm:P.follows .mixedOrders=true) {f:FuncId} {fn:Func} {c:Code} {mc:lg} {ms:List bh} {sig:aN} {M:List Dv->Option (List Dv×List C)} (hf:P.funcs[f]? =some fn) (hb:fn.body=some c)
  (hc:iT P fn.ntmps c mc=true) (hr:mZ P fn.results.toList ms=true) (hM:∀ds rs eI,M ds=some (rs,eI)->ds.length<=fn.ntmps/\J4 T mc ms sig ds=some (rs,eI)):kA P f sig M:=by
 intro ds rs eI m8 w vals pas ha
 obtain⟨hN,bO⟩:=hM ds rs eI m8
 refine calls_of_wp hf hb ?_
 have r0:=R.PY (N:=fn.ntmps) ha hN
 have fJ:∀p∈pas,∀pc∈p.ps,Good w pc:=by
  intro p hp pc aY
  obtain⟨i,hi,rfl⟩:=List.getElem_of_mem hp
  have hd:ds[i]? =some (ds[i]'(by rw[<-ha.l2];exact hi)):=List.getElem?_eq_getElem _
  have hv:vals[i]? =some (vals[i]'(by rw[ha.l1,<-ha.l2];exact hi)):=List.getElem?_eq_getElem _
  exact(ha.at_ i _ _ _ hd hv (List.getElem?_eq_getElem hi)).2.1 pc aY
 have hg:∀x∈eB sig (pas.map (·.ps)),Good w x.2:=by
  intro x hx
  obtain⟨l,hl,qg⟩:=M8 hx
  obtain⟨p,hp,rfl⟩:=List.mem_map.1 hl
  exact fJ p hp _ qg
 have ahR:ds.map (·.2)=(pas.map (·.ps)).map fun l=>l.map PC.er:=by
  apply List.ext_getElem?
  intro i
  simp only[List.getElem?_map]
  cases hd:ds[i]? with
  |none=>
   have:ds.length<=i:=List.getElem?_eq_none_iff.1 hd
   rw[List.getElem?_eq_none (by rw[ha.l2];exact this)]
   rfl
  |some d=>
   have hi:=(List.getElem?_eq_some_iff.1 hd).1
   have hv:vals[i]? =some (vals[i]'(by rw[ha.l1];exact hi)):=List.getElem?_eq_getElem _
   have hp:pas[i]? =some (pas[i]'(by rw[ha.l2];exact hi)):=List.getElem?_eq_getElem _
   have:=(ha.at_ i d _ _ hd hv hp).1
   rw[hp]
   simp only[Option.map_some]
   rw[this]
 unfold J4 at bO
 rw[ahR,Iw] at bO
 generalize jl:eB sig (pas.map (·.ps))=fl at bO r0 hg
 have fI:=ha.ok
 rw[jl] at fI
 have fin:∀{σ:St} {a:Act} {w':World} {G:Gh},σ.B4 ms (fl.map fun x=>(x.1,x.2.er))=some (rs,eI)->R w.heap.size (ye fl) w fn.ntmps σ a w' G->a.defers=[]/\∃v,(results fn a.tmps).run P w'=.ok v w'/\
   ∃aV:List (K×List PC),aV.map (fun p=>(p.1,p.2.map PC.er))=rs/\(Ending.returned v)=.returned (xd aV)/\(∀p∈aV,p.1≠ .ptr/\(p.1=.one->p.2.length=1))/\
   CP w' w.heap.size (aV.flatMap (·.2))/\Fr w.heap.size (Dj fl) w w'/\
   ∃qs:List PC,qs.map PC.er=eI/\qs.length=fl.length/\∀(i:Nat) (x:Mode×PC) (q:PC),fl[i]? =some x->qs[i]? =some q->tH w' x.1 x.2 q:=by
  intro σ a w' G hx r
  unfold St.B4 at hx
  split at hx
  ·rename_i u7 anv e1 e2
   injection hx with hx
   injection hx with lL eC
   subst lL eC
   have hE:∀b,(ye fl) b->∃n gr m sz xs,aM<=n/\σ.h n=some (.row gr m sz xs)/\m≠ .aO/\m5 G n b/\(m=.ab->¬aX b (G.g n).px):=by
    rintro b ⟨x,yH,PD⟩
    obtain⟨i,hi⟩:=List.getElem?_of_mem yH
    obtain⟨q,o,_,_,_,gr,sz,xs,k1,k2,k3,k4⟩:=W3 fI hg r e2 hi
    exact⟨aM+i,gr,x.1,sz,xs,Nat.le_add_right _ _,k1,k4,k2 b PD,fun hm=>k3 hm b⟩
   obtain⟨aV,p1,p2,p3,p4⟩:=ab9 (r.jE hE) hr e1
   obtain⟨ol,_⟩:=Se e2
   have hq:∀i:Fin fl.length,∃q,anv[i.1]? =some (PC.er q)/\tH w' (fl[i.1]).1 (fl[i.1]).2 q:=by
    intro i
    obtain⟨q,o,k1,k2,k3,_⟩:=W3 fI hg r e2 (List.getElem?_eq_getElem i.2)
    exact⟨q,by rw[k1,k2],k3⟩
   refine⟨r.defers,_,p2,aV,p1,rfl,p3,p4,⟨r.fr.os,r.fr.tape,r.fr.output,r.fr.size,r.fr.block,r.fr.jc⟩,List.ofFn fun i=>Classical.choose (hq i),?_,by simp,fun i x q hi mD=>?_⟩
   ·apply List.ext_getElem?
    intro i
    simp only[List.getElem?_map]
    by_cases hi:i<fl.length
    ·rw[List.getElem?_ofFn,dif_pos hi]
     exact(Classical.choose_spec (hq ⟨i,hi⟩)).1.symm
    ·rw[List.getElem?_eq_none (by simp;omega),List.getElem?_eq_none (by rw[ol];simp;omega)]
     rfl
   ·obtain⟨hl,e⟩:=List.getElem?_eq_some_iff.1 hi
    rw[List.getElem?_ofFn,dif_pos hl] at mD
    injection mD with mD
    subst mD
    subst e
    exact(Classical.choose_spec (hq ⟨i,hl⟩)).2
  ·cases hx
 split at bO
 ·rename_i σ e
  exact lD hT hm mc hc e r0 fun a w' G r=>fin bO r
 ·rename_i σ e
  exact lD hT hm mc hc e r0 fun a w' G r=>fin bO r
 ·cases bO
end
end Go.Am
