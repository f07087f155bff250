/- Am30: functions that change lists of their arguments: the end of a call. No condition. -/
import Derived.Test.YtbgmbplglejidaaAm29
set_option linter.unusedVariables false
namespace Go.Am
section
variable {B:Nat} {E:Ex} {w0 w w':World} {G G':Gh} {N:Nat} {h h':Nat->Option ao} {used:Nat->Bool}
variable {P:Program} {T:aO} {a:Act} {σ σ':St} {Q:Exit->Act->World->Prop}
theorem uN {n:Nat} {b:ao} (hn:σ.jG.h n=some b):¬aK<=n/\σ.h n=some b:=by
 unfold St.jG at hn
 simp only at hn
 split at hn
 ·cases hn
 ·rename_i h;exact⟨h,hn⟩
theorem BR {n:Nat} (hn:σ.jG.h n≠none):¬aK<=n/\σ.h n≠none:=by
 cases h:σ.jG.h n with
 |none=>exact absurd h hn
 |some b=>obtain⟨a,e⟩:=uN h;exact⟨a,by rw[e];simp⟩
theorem bc.jG (u:Nat->Prop):bc w G σ.h u w G σ.jG.h:=
 ⟨fun _ h=>h,fun _ _ _=>rfl,fun n _ hn=>⟨(BR hn).2,rfl,rfl,rfl,rfl,rfl⟩,fun n gr sz xs _ hn=>⟨⟨gr,xs,(uN hn).2⟩,fun k j pc h1 h2=>⟨pc,h1,rfl,h2⟩⟩⟩
theorem R.jG (r:R B E w0 N σ a w G) (hE:∀b,E b->∃n gr m sz xs,aK<=n/\σ.h n=some (.row gr m sz xs)/\m≠ .aD/\m8 G n b/\(m=.ae->¬aV b (G.g n).px)):
  R B Ex.no w N σ.jG a w G:=by
 have H:=r.hr
 have K:bc w G σ.h (fun n=>σ.used n=true) w G σ.jG.h:=bc.jG _
 have big:∀n,¬aK<=n->σ.h n≠none->(G.g n).nl=false->¬E (G.g n).b:=by
  intro n hn h0 hl hb
  obtain⟨q,gr,m,sz,xs,hq,h1,h2,h3,h4⟩:=hE _ hb
  have aB:n≠q:=fun e=>hn (e▸hq)
  have nj:σ.h q≠none:=by rw[h1];simp
  rcases h3 with⟨l,e⟩|h3
  ·exact H.inj n q h0 nj aB hl l e
  ·cases m with
   |aD=>exact h2 rfl
   |ae=>exact h4 rfl h3
   |live=>exact H.live q gr sz xs h1 _ h3 n h0 hl rfl
 have Wi:∀n gr m sz xs,¬aK<=n->σ.h n=some (.row gr m sz xs)->m≠ .aD->∀b,aV b (G.g n).px->¬E b:=by
  intro n gr m sz xs hn h0 hm b hb he
  obtain⟨q,bk,m',aJ,aq,hq,h1,h2,h3,h4⟩:=hE _ he
  have aB:n≠q:=fun e=>hn (e▸hq)
  exact H.Yb aB h0 h1 hm h2 (.inr hb) h3
 refine⟨r.defers,r.size,fun s=>(r.env s).fe K fun m hm=>r.r7 s m hm,r.r7,?_,Fr.refl _ _ _ r.fr.size,fun n p b hp=>(by cases hp),r.y4⟩
 refine⟨fun n hn=>H.iG n (BR hn).2,fun m cs c n hm hc hr=>H.gH m cs c n (uN hm).2 hc hr,fun n cs hn=>?_,fun n gr m sz xs hn=>?_,fun n hn hl=>?_,fun n n' hn bj=>H.inj n n' (BR hn).2 (BR bj).2,
  H.fW,fun b _=>.inr (.inr trivial),fun n n' gr m sz xs bk m' aJ aq hn bj=>H.fJ n n' gr m sz xs bk m' aJ aq (uN hn).2 (uN bj).2,fun n gr sz xs hn b hb n' bj=>H.live n gr sz xs (uN hn).2 b hb n' (BR bj).2,?_,?_,?_⟩
 ·obtain⟨a1,a2,a3⟩:=H.box n cs (uN hn).2
  refine⟨a1,a2,fun j c hj=>?_⟩
  obtain⟨v,b1,b2,b3⟩:=a3 j c hj
  exact⟨v,b1,b2,b3.fe K fun q hq=>H.gH n cs c q (uN hn).2 (List.mem_of_getElem? hj) hq⟩
 ·obtain⟨hp,h0⟩:=uN hn
  have hr:=H.row n gr m sz xs h0
  refine⟨hr.pos,hr.er,hr.nl,hr.dR,hr.room,?_⟩
  have hm:=hr.mode
  cases m with
  |aD=>exact hm
  |ae=>exact⟨fun b hb=>⟨(hm.1 b hb).1,(hm.1 b hb).2.1,(hm.1 b hb).2.2.imp id fun he=>absurd he (Wi n gr .ae sz xs hp h0 (by simp) b hb)⟩,hm.2⟩
  |live=>exact⟨fun b hb=>⟨(hm.1 b hb).1,(hm.1 b hb).2.1,(hm.1 b hb).2.2.imp id fun he=>absurd he (Wi n gr .live sz xs hp h0 (by simp) b hb)⟩,hm.2⟩
 ·obtain⟨hp,h0⟩:=BR hn
  obtain⟨o1,o2,o3⟩:=H.own n h0 hl
  exact⟨o1,o2.imp id fun he=>absurd he (big n hp h0 hl),o3⟩
 ·intro i pc hi;simp at hi
 ·intro i j pc dg b _ hi;simp at hi
 ·intro i pc n gr m sz xs b hi;simp at hi
theorem agH {m:Mode} {px:List (List PC)} (hf:sB m (px.map fun e=>e.map PC.er)=true):(m=.ae->∀b,¬aV b px)/\m≠ .aD/\(m=.live->(px.map fun e=>e.map PC.er).all (fun e=>e.all C.su)=true):=by
 cases m with
 |aD=>cases hf
 |ae=>exact⟨fun _ b=>B6 hf b,(by simp),fun h=>(by cases h)⟩
 |live=>exact⟨fun h=>(by cases h),(by simp),fun _=>hf⟩
theorem V1 {fl:List (Mode×PC)} (fU:∀x∈fl,xA w0 x.1 x.2) (hg:∀x∈fl,Good w0 x.2) (r:R B (xZ fl) w0 N σ a w G) {eV:List C} (ho:wN σ 0 (fl.map fun x=>(x.1,x.2.er))=some eV)
  {i:Nat} {x:Mode×PC} (hx:fl[i]? =some x):∃q o,eV[i]? =some o/\q.er=o/\tA w x.1 x.2 q/\
   ∃gr sz xs,σ.h (aK+i)=some (.row gr x.1 sz xs)/\(∀b,aS b x.2->m8 G (aK+i) b)/\(x.1=.ae->∀b,¬aV b (G.g (aK+i)).px)/\x.1≠ .aD:=by
 obtain⟨m,pc⟩:=x
 have ui:=List.mem_of_getElem? hx
 obtain⟨o1,o2⟩:=Re ho
 obtain⟨o,e1,e2⟩:=o2 i (m,pc.er) (by rw[List.getElem?_map,hx];rfl)
 rw[Nat.zero_add] at e2
 obtain⟨sz,xs,gr,aq,f1,f2,f3,f4,f5,rfl⟩:=al2 e2
 have ok:=fU _ ui
 have aha:=hg _ ui
 obtain⟨tm,a0,cap,y6,rfl,dL,nX,vV⟩:=ok.dR
 simp only[PC.dJ] at f1
 injection f1 with f1a f1b
 subst f1a
 subst f1b
 have hr:=r.hr.row _ gr m tm aq f2
 have wb:(xZ fl).qA (aK+i)=some (pz (.list tm a0 cap y6)):=by
  show(if aK<=aK+i then(fl[aK+i - aK]?).map (fun x=>pz x.2) else none)=_
  rw[if_pos (Nat.le_add_right _ _),Nat.add_sub_cancel_left,hx]
  rfl
 obtain⟨p1,p2,p3,p4,p6,p5⟩:=r.qA _ _ _ wb f2
 have AX:aq=(G.g (aK+i)).px.map fun e=>e.map PC.er:=hr.er
 have Il:=f4
 simp only at Il
 rw[AX] at Il
 obtain⟨q1,q2,q3⟩:=agH Il
 have hlen:(G.g (aK+i)).px.length=y6.length:=by
  have:=f3
  rw[AX] at this
  simpa using this
 have Y9:ij (G.g (aK+i)).px:=by
  have hm:=hr.mode
  cases m with
  |aD=>exact absurd rfl q2
  |ae=>exact hm.2
  |live=>exact hm.2
 have aB:σ.h (aK+i)≠none:=by rw[f2];simp
 rcases aha.cases with rfl|⟨fL,ju,b,o,rfl⟩
 ·have Y6:(G.g (aK+i)).px=[]:=List.eq_nil_of_length_eq_zero (by rw[hlen];rfl)
  refine⟨.list tm a0 cap [],_,e1,(by rw[PC.dJ,AX,Y6]),⟨rfl,.nil _ _ _ dL,ok.sep,fun _ h=>h,?_,?_⟩,gr,tm,aq,f2,fun b' aY=>?_,fun hm b' aY=>q1 hm b' aY,q2⟩
  ·simp only[PC.dJ]
   rw[AX,Y6] at f4
   exact f4
  ·intro sz a cap xs aJ a' sn ii vU ub
   have ub:=vU.symm.trans ub
   injection ub with h1 h2 h3 h4
   refine⟨h1.symm,h2.symm,h3.symm,by rw[h4],fun _ k j c hk hL=>?_⟩
   injection vU with _ _ _ h5
   subst h5
   obtain⟨e,he,_⟩:=hk
   simp at he
  ·rw[aS.kq] at aY
   rcases aY with⟨aY,_⟩|⟨k,j,c,⟨e,he,_⟩,_⟩
   ·exact absurd rfl aY
   ·simp at he
 ·have sI:m=.live->∀k j c,At y6 k j c->c.gB=true->∃c',At (G.g (aK+i)).px k j c'/\c'.val=c.val/\c'.gB=true:=by
   rintro rfl k j c hk hL
   rw[yZ fL] at p5
   exact p5 gr tm aq rfl k j c hk hL
  rw[yZ fL] at p1 p2 p3 p4
  simp only at p1 p2 p3 p4
  obtain⟨l1,l2,l3⟩:=hr.dR p1
  rw[p2] at l1 l2
  rw[p3] at l2
  rw[p4] at l3
  have ahw:(G.g (aK+i)).px≠[]:=by
   intro h0
   rw[h0] at hlen
   exact fL (List.eq_nil_of_length_eq_zero hlen.symm)
  have gO:Good w (.list tm (some (ad b o)) cap (G.g (aK+i)).px):=.cons _ _ _ _ _ ahw l3 dL l2.1 l2.2.1 l2.2.2
  have ahC:¬aV b (G.g (aK+i)).px:=by
   intro hb
   cases m with
   |aD=>exact q2 rfl
   |ae=>exact q1 rfl b hb
   |live=>exact r.hr.live _ gr tm aq f2 b hb _ aB p1 p2.symm
  have ag0:m=.live->∀b',aV b' (G.g (aK+i)).px->aV b' y6:=by
   rintro rfl b' aY
   refine Z7 (px':=y6) (q3 rfl) (fun k j c hk hL=>?_) aY
   rw[AX] at f5
   obtain⟨c0,YQ,rr⟩:=aon f5 hk
   rw[hL] at rr
   obtain⟨c1,IP,iI,hL1⟩:=sI rfl k j c0 YQ rr
   rw[At.inj IP hk] at iI
   exact⟨c0,YQ,iI.symm,rr⟩
  refine⟨.list tm (some (ad b o)) cap (G.g (aK+i)).px,_,e1,by rw[PC.dJ,AX],⟨by simp only[PC.val,hlen],gO,.list _ _ _ _ Y9.1 (fun b1 o1 k j c he hk DG=>?_) Y9.2,fun b' aY=>?_,?_,?_⟩,gr,tm,aq,f2,fun b' aY=>?_,q1,q2⟩
  ·injection he with he
   obtain⟨rfl,_⟩:=m4 he
   exact ahC ⟨k,j,c,hk,DG⟩
  ·rw[aS.kq] at aY
   rcases aY with⟨_,o',gA⟩|hF
   ·injection gA with gA
    rw[<-(m4 gA).1]
    exact .here _ _ _ _ fL
   ·cases m with
    |aD=>exact absurd rfl q2
    |ae=>exact absurd hF (q1 rfl b')
    |live=>
     obtain⟨k,j,c,hk,hc⟩:=ag0 rfl b' hF
     exact .there _ _ _ _ k j c hk hc
  ·simp only[PC.dJ]
   exact Il
  ·intro sz a sn xs aJ a' apL ii vU ub
   injection vU with h1 h2 h3 h4
   injection ub with g1 g2 g3 g4
   subst h1 h2 h3 h4 g1 g2 g3 g4
   exact⟨rfl,rfl,rfl,hlen,sI⟩
  ·rw[aS.kq] at aY
   rcases aY with⟨_,o',gA⟩|hF
   ·injection gA with gA
    exact .inl ⟨p1,by rw[p2];exact(m4 gA).1.symm⟩
   ·cases m with
    |aD=>exact absurd rfl q2
    |ae=>exact absurd hF (B6 vV b')
    |live=>exact .inr (Z7 vV (sI rfl) hF)
theorem akA (hT:nH P T) (hm:P.follows .mixedOrders=true) {f:FuncId} {fn:Func} {c:Code} {mc:lg} {ms:List bA} {sig:aN} {M:List Dv->Option (List Dv×List C)} (hf:P.funcs[f]? =some fn) (hb:fn.body=some c)
  (hc:iV P fn.ntmps c mc=true) (hr:m6 P fn.results.toList ms=true) (hM:∀ds rs eV,M ds=some (rs,eV)->ds.length<=fn.ntmps/\JT T mc ms sig ds=some (rs,eV)):pM P f sig M:=by
 intro ds rs eV nf w vals pas ha
 obtain⟨hN,bU⟩:=hM ds rs eV nf
 refine calls_of_wp hf hb ?_
 have r0:=R.O9 (N:=fn.ntmps) ha hN
 have fV:∀p∈pas,∀pc∈p.ps,Good w pc:=by
  intro p hp pc aZ
  obtain⟨i,hi,rfl⟩:=List.getElem_of_mem hp
  have hd:ds[i]? =some (ds[i]'(by rw[<-ha.l2];exact hi)):=List.getElem?_eq_getElem _
  have hv:vals[i]? =some (vals[i]'(by rw[ha.l1,<-ha.l2];exact hi)):=List.getElem?_eq_getElem _
  exact(ha.at_ i _ _ _ hd hv (List.getElem?_eq_getElem hi)).2.1 pc aZ
 have hg:∀x∈eC sig (pas.map (·.ps)),Good w x.2:=by
  intro x hx
  obtain⟨l,hl,qh⟩:=MB hx
  obtain⟨p,hp,rfl⟩:=List.mem_map.1 hl
  exact fV p hp _ qh
 have ag3:ds.map (·.2)=(pas.map (·.ps)).map fun l=>l.map PC.er:=by
  apply List.ext_getElem?
  intro i
  simp only[List.getElem?_map]
  cases hd:ds[i]? with
  |none=>
   have:ds.length<=i:=List.getElem?_eq_none_iff.1 hd
   rw[List.getElem?_eq_none (by rw[ha.l2];exact this)]
   rfl
  |some d=>
   have hi:=(List.getElem?_eq_some_iff.1 hd).1
   have hv:vals[i]? =some (vals[i]'(by rw[ha.l1];exact hi)):=List.getElem?_eq_getElem _
   have hp:pas[i]? =some (pas[i]'(by rw[ha.l2];exact hi)):=List.getElem?_eq_getElem _
   have:=(ha.at_ i d _ _ hd hv hp).1
   rw[hp]
   simp only[Option.map_some]
   rw[this]
 unfold JT at bU
 rw[ag3,Io] at bU
 generalize jv:eC sig (pas.map (·.ps))=fl at bU r0 hg
 have fU:=ha.ok
 rw[jv] at fU
 have fin:∀{σ:St} {a:Act} {w':World} {G:Gh},σ.B2 ms (fl.map fun x=>(x.1,x.2.er))=some (rs,eV)->R w.heap.size (xZ fl) w fn.ntmps σ a w' G->a.defers=[]/\∃v,(results fn a.tmps).run P w'=.ok v w'/\
   ∃aT:List (K×List PC),aT.map (fun p=>(p.1,p.2.map PC.er))=rs/\(Ending.returned v)=.returned (wV aT)/\(∀p∈aT,p.1≠ .ptr/\(p.1=.one->p.2.length=1))/\
   CO w' w.heap.size (aT.flatMap (·.2))/\Fr w.heap.size (Di fl) w w'/\
   ∃qs:List PC,qs.map PC.er=eV/\qs.length=fl.length/\∀(i:Nat) (x:Mode×PC) (q:PC),fl[i]? =some x->qs[i]? =some q->tA w' x.1 x.2 q:=by
  intro σ a w' G hx r
  unfold St.B2 at hx
  split at hx
  ·rename_i uZ al3 e1 e2
   injection hx with hx
   injection hx with lH eD
   subst lH eD
   have hE:∀b,(xZ fl) b->∃n gr m sz xs,aK<=n/\σ.h n=some (.row gr m sz xs)/\m≠ .aD/\m8 G n b/\(m=.ae->¬aV b (G.g n).px):=by
    rintro b ⟨x,yA,OU⟩
    obtain⟨i,hi⟩:=List.getElem?_of_mem yA
    obtain⟨q,o,_,_,_,gr,sz,xs,k1,k2,k3,k4⟩:=V1 fU hg r e2 hi
    exact⟨aK+i,gr,x.1,sz,xs,Nat.le_add_right _ _,k1,k4,k2 b OU,fun hm=>k3 hm b⟩
   obtain⟨aT,p1,p2,p3,p4⟩:=abo (r.jG hE) hr e1
   obtain⟨ol,_⟩:=Re e2
   have hq:∀i:Fin fl.length,∃q,al3[i.1]? =some (PC.er q)/\tA w' (fl[i.1]).1 (fl[i.1]).2 q:=by
    intro i
    obtain⟨q,o,k1,k2,k3,_⟩:=V1 fU hg r e2 (List.getElem?_eq_getElem i.2)
    exact⟨q,by rw[k1,k2],k3⟩
   refine⟨r.defers,_,p2,aT,p1,rfl,p3,p4,⟨r.fr.os,r.fr.tape,r.fr.output,r.fr.size,r.fr.block,r.fr.ie⟩,List.ofFn fun i=>Classical.choose (hq i),?_,by simp,fun i x q hi mG=>?_⟩
   ·apply List.ext_getElem?
    intro i
    simp only[List.getElem?_map]
    by_cases hi:i<fl.length
    ·rw[List.getElem?_ofFn,dif_pos hi]
     exact(Classical.choose_spec (hq ⟨i,hi⟩)).1.symm
    ·rw[List.getElem?_eq_none (by simp;omega),List.getElem?_eq_none (by rw[ol];simp;omega)]
     rfl
   ·obtain⟨hl,e⟩:=List.getElem?_eq_some_iff.1 hi
    rw[List.getElem?_ofFn,dif_pos hl] at mG
    injection mG with mG
    subst mG
    subst e
    exact(Classical.choose_spec (hq ⟨i,hl⟩)).2
  ·cases hx
 split at bU
 ·rename_i σ e
  exact lA hT hm mc hc e r0 fun a w' G r=>fin bU r
 ·rename_i σ e
  exact lA hT hm mc hc e r0 fun a w' G r=>fin bU r
 ·cases bU
end
end Go.Am
