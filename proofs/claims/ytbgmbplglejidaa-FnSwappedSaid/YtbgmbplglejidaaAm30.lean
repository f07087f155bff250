/- Am30: functions that change lists of their arguments: the end of a call. No condition. -/
import Derived.Test.YtbgmbplglejidaaAm29
set_option linter.unusedVariables false
namespace Go.Am
section
variable {B:Nat} {E:Ex} {w0 w w':World} {G G':Gh} {N:Nat} {h h':Nat->Option ar} {used:Nat->Bool}
variable {P:Program} {T:aT} {a:Act} {σ σ':St} {Q:Exit->Act->World->Prop}
theorem vw {n:Nat} {b:ar} (hn:σ.j5.h n=some b):¬aK<=n/\σ.h n=some b:=by
 unfold St.j5 at hn
 simp only at hn
 split at hn
 ·cases hn
 ·rename_i h;exact⟨h,hn⟩
theorem C2 {n:Nat} (hn:σ.j5.h n≠none):¬aK<=n/\σ.h n≠none:=by
 cases h:σ.j5.h n with
 |none=>exact absurd h hn
 |some b=>obtain⟨a,e⟩:=vw h;exact⟨a,by rw[e];simp⟩
theorem bf.j5 (u:Nat->Prop):bf w G σ.h u w G σ.j5.h:=
 ⟨fun _ h=>h,fun _ _ _=>rfl,fun n _ hn=>⟨(C2 hn).2,rfl,rfl,rfl,rfl,rfl⟩,fun n gr sz xs _ hn=>⟨⟨gr,xs,(vw hn).2⟩,fun k j pc h1 h2=>⟨pc,h1,rfl,h2⟩⟩⟩
theorem R.j5 (r:R B E w0 N σ a w G) (hE:∀b,E b->∃n gr m sz xs,aK<=n/\σ.h n=some (.row gr m sz xs)/\m≠ .aG/\nO G n b/\(m=.ae->¬aZ b (G.g n).px)):
  R B Ex.no w N σ.j5 a w G:=by
 have H:=r.hr
 have K:bf w G σ.h (fun n=>σ.used n=true) w G σ.j5.h:=bf.j5 _
 have big:∀n,¬aK<=n->σ.h n≠none->(G.g n).nl=false->¬E (G.g n).b:=by
  intro n hn h0 hl hb
  obtain⟨q,gr,m,sz,xs,hq,h1,h2,h3,h4⟩:=hE _ hb
  have aD:n≠q:=fun e=>hn (e▸hq)
  have nX:σ.h q≠none:=by rw[h1];simp
  rcases h3 with⟨l,e⟩|h3
  ·exact H.inj n q h0 nX aD hl l e
  ·cases m with
   |aG=>exact h2 rfl
   |ae=>exact h4 rfl h3
   |live=>exact H.live q gr sz xs h1 _ h3 n h0 hl rfl
 have Ye:∀n gr m sz xs,¬aK<=n->σ.h n=some (.row gr m sz xs)->m≠ .aG->∀b,aZ b (G.g n).px->¬E b:=by
  intro n gr m sz xs hn h0 hm b hb he
  obtain⟨q,bo,m',aJ,au,hq,h1,h2,h3,h4⟩:=hE _ he
  have aD:n≠q:=fun e=>hn (e▸hq)
  exact H.Z1 aD h0 h1 hm h2 (.inr hb) h3
 refine⟨r.defers,r.size,fun s=>(r.env s).ft K fun m hm=>r.sP s m hm,r.sP,?_,Fr.refl _ _ _ r.fr.size,fun n p b hp=>(by cases hp),r.Ac⟩
 refine⟨fun n hn=>H.jc n (C2 hn).2,fun m cs c n hm hc hr=>H.g8 m cs c n (vw hm).2 hc hr,fun n cs hn=>?_,fun n gr m sz xs hn=>?_,fun n hn hl=>?_,fun n n' hn bm=>H.inj n n' (C2 hn).2 (C2 bm).2,
  H.gi,fun b _=>.inr (.inr trivial),fun n n' gr m sz xs bo m' aJ au hn bm=>H.fV n n' gr m sz xs bo m' aJ au (vw hn).2 (vw bm).2,fun n gr sz xs hn b hb n' bm=>H.live n gr sz xs (vw hn).2 b hb n' (C2 bm).2,?_,?_,?_⟩
 ·obtain⟨a1,a2,a3⟩:=H.box n cs (vw hn).2
  refine⟨a1,a2,fun j c hj=>?_⟩
  obtain⟨v,b1,b2,b3⟩:=a3 j c hj
  exact⟨v,b1,b2,b3.ft K fun q hq=>H.g8 n cs c q (vw hn).2 (List.mem_of_getElem? hj) hq⟩
 ·obtain⟨hp,h0⟩:=vw hn
  have hr:=H.row n gr m sz xs h0
  refine⟨hr.pos,hr.er,hr.nl,hr.dW,hr.room,?_⟩
  have hm:=hr.mode
  cases m with
  |aG=>exact hm
  |ae=>exact⟨fun b hb=>⟨(hm.1 b hb).1,(hm.1 b hb).2.1,(hm.1 b hb).2.2.imp id fun he=>absurd he (Ye n gr .ae sz xs hp h0 (by simp) b hb)⟩,hm.2⟩
  |live=>exact⟨fun b hb=>⟨(hm.1 b hb).1,(hm.1 b hb).2.1,(hm.1 b hb).2.2.imp id fun he=>absurd he (Ye n gr .live sz xs hp h0 (by simp) b hb)⟩,hm.2⟩
 ·obtain⟨hp,h0⟩:=C2 hn
  obtain⟨o1,o2,o3⟩:=H.own n h0 hl
  exact⟨o1,o2.imp id fun he=>absurd he (big n hp h0 hl),o3⟩
 ·intro i pc hi;simp at hi
 ·intro i j pc dq b _ hi;simp at hi
 ·intro i pc n gr m sz xs b hi;simp at hi
theorem ain {m:Mode} {px:List (List PC)} (hf:tj m (px.map fun e=>e.map PC.er)=true):(m=.ae->∀b,¬aZ b px)/\m≠ .aG/\(m=.live->(px.map fun e=>e.map PC.er).all (fun e=>e.all C.te)=true):=by
 cases m with
 |aG=>cases hf
 |ae=>exact⟨fun _ b=>Di hf b,(by simp),fun h=>(by cases h)⟩
 |live=>exact⟨fun h=>(by cases h),(by simp),fun _=>hf⟩
theorem XV {fl:List (Mode×PC)} (fH:∀x∈fl,yn w0 x.1 x.2) (hg:∀x∈fl,Good w0 x.2) (r:R B (yQ fl) w0 N σ a w G) {fb:List C} (ho:xD σ 0 (fl.map fun x=>(x.1,x.2.er))=some fb)
  {i:Nat} {x:Mode×PC} (hx:fl[i]? =some x):∃q o,fb[i]? =some o/\q.er=o/\ur w x.1 x.2 q/\
   ∃gr sz xs,σ.h (aK+i)=some (.row gr x.1 sz xs)/\(∀b,aX b x.2->nO G (aK+i) b)/\(x.1=.ae->∀b,¬aZ b (G.g (aK+i)).px)/\x.1≠ .aG:=by
 obtain⟨m,pc⟩:=x
 have u7:=List.mem_of_getElem? hx
 obtain⟨o1,o2⟩:=Te ho
 obtain⟨o,e1,e2⟩:=o2 i (m,pc.er) (by rw[List.getElem?_map,hx];rfl)
 rw[Nat.zero_add] at e2
 obtain⟨sz,xs,gr,au,f1,f2,f3,f4,f5,rfl⟩:=apn e2
 have ok:=fH _ u7
 have ai0:=hg _ u7
 obtain⟨uf,a0,cap,Af,rfl,dU,oP,wS⟩:=ok.dW
 simp only[PC.dR] at f1
 injection f1 with f1a f1b
 subst f1a
 subst f1b
 have hr:=r.hr.row _ gr m uf au f2
 have w5:(yQ fl).rm (aK+i)=some (qh (.list uf a0 cap Af)):=by
  show(if aK<=aK+i then(fl[aK+i - aK]?).map (fun x=>qh x.2) else none)=_
  rw[if_pos (Nat.le_add_right _ _),Nat.add_sub_cancel_left,hx]
  rfl
 obtain⟨p1,p2,p3,p4,p6,p5⟩:=r.rm _ _ _ w5 f2
 have B6:au=(G.g (aK+i)).px.map fun e=>e.map PC.er:=hr.er
 have JH:=f4
 simp only at JH
 rw[B6] at JH
 obtain⟨q1,q2,q3⟩:=ain JH
 have hlen:(G.g (aK+i)).px.length=Af.length:=by
  have:=f3
  rw[B6] at this
  simpa using this
 have aaE:iI (G.g (aK+i)).px:=by
  have hm:=hr.mode
  cases m with
  |aG=>exact absurd rfl q2
  |ae=>exact hm.2
  |live=>exact hm.2
 have aD:σ.h (aK+i)≠none:=by rw[f2];simp
 rcases ai0.cases with rfl|⟨fZ,jQ,b,o,rfl⟩
 ·have aaC:(G.g (aK+i)).px=[]:=List.eq_nil_of_length_eq_zero (by rw[hlen];rfl)
  refine⟨.list uf a0 cap [],_,e1,(by rw[PC.dR,B6,aaC]),⟨rfl,.nil _ _ _ dU,ok.sep,fun _ h=>h,?_,?_⟩,gr,uf,au,f2,fun b' be=>?_,fun hm b' be=>q1 hm b' be,q2⟩
  ·simp only[PC.dR]
   rw[B6,aaC] at f4
   exact f4
  ·intro sz a cap xs aJ a' ta iH sb uY
   have uY:=sb.symm.trans uY
   injection uY with h1 h2 h3 h4
   refine⟨h1.symm,h2.symm,h3.symm,by rw[h4],fun _ k j c hk hL=>?_⟩
   injection sb with _ _ _ h5
   subst h5
   obtain⟨e,he,_⟩:=hk
   simp at he
  ·rw[aX.lm] at be
   rcases be with⟨be,_⟩|⟨k,j,c,⟨e,he,_⟩,_⟩
   ·exact absurd rfl be
   ·simp at he
 ·have tv:m=.live->∀k j c,At Af k j c->c.gW=true->∃c',At (G.g (aK+i)).px k j c'/\c'.val=c.val/\c'.gW=true:=by
   rintro rfl k j c hk hL
   rw[Aa fZ] at p5
   exact p5 gr uf au rfl k j c hk hL
  rw[Aa fZ] at p1 p2 p3 p4
  simp only at p1 p2 p3 p4
  obtain⟨l1,l2,l3⟩:=hr.dW p1
  rw[p2] at l1 l2
  rw[p3] at l2
  rw[p4] at l3
  have ajn:(G.g (aK+i)).px≠[]:=by
   intro h0
   rw[h0] at hlen
   exact fZ (List.eq_nil_of_length_eq_zero hlen.symm)
  have ie:Good w (.list uf (some (ad b o)) cap (G.g (aK+i)).px):=.cons _ _ _ _ _ ajn l3 dU l2.1 l2.2.1 l2.2.2
  have ajw:¬aZ b (G.g (aK+i)).px:=by
   intro hb
   cases m with
   |aG=>exact q2 rfl
   |ae=>exact q1 rfl b hb
   |live=>exact r.hr.live _ gr uf au f2 b hb _ aD p1 p2.symm
  have aiN:m=.live->∀b',aZ b' (G.g (aK+i)).px->aZ b' Af:=by
   rintro rfl b' be
   refine abJ (px':=Af) (q3 rfl) (fun k j c hk hL=>?_) be
   rw[B6] at f5
   obtain⟨c0,hk0,r7⟩:=arR f5 hk
   rw[hL] at r7
   obtain⟨c1,J9,jf,hL1⟩:=tv rfl k j c0 hk0 r7
   rw[At.inj J9 hk] at jf
   exact⟨c0,hk0,jf.symm,r7⟩
  refine⟨.list uf (some (ad b o)) cap (G.g (aK+i)).px,_,e1,by rw[PC.dR,B6],⟨by simp only[PC.val,hlen],ie,.list _ _ _ _ aaE.1 (fun b1 o1 k j c he hk yZ=>?_) aaE.2,fun b' be=>?_,?_,?_⟩,gr,uf,au,f2,fun b' be=>?_,q1,q2⟩
  ·injection he with he
   obtain⟨rfl,_⟩:=nG he
   exact ajw ⟨k,j,c,hk,yZ⟩
  ·rw[aX.lm] at be
   rcases be with⟨_,o',gU⟩|hF
   ·injection gU with gU
    rw[<-(nG gU).1]
    exact .here _ _ _ _ fZ
   ·cases m with
    |aG=>exact absurd rfl q2
    |ae=>exact absurd hF (q1 rfl b')
    |live=>
     obtain⟨k,j,c,hk,hc⟩:=aiN rfl b' hF
     exact .there _ _ _ _ k j c hk hc
  ·simp only[PC.dR]
   exact JH
  ·intro sz a ta xs aJ a' atk iH sb uY
   injection sb with h1 h2 h3 h4
   injection uY with g1 g2 g3 g4
   subst h1 h2 h3 h4 g1 g2 g3 g4
   exact⟨rfl,rfl,rfl,hlen,tv⟩
  ·rw[aX.lm] at be
   rcases be with⟨_,o',gU⟩|hF
   ·injection gU with gU
    exact .inl ⟨p1,by rw[p2];exact(nG gU).1.symm⟩
   ·cases m with
    |aG=>exact absurd rfl q2
    |ae=>exact absurd hF (Di wS b')
    |live=>exact .inr (abJ wS (tv rfl) hF)
theorem anW (hT:oG P T) (hm:P.follows .mixedOrders=true) {f:FuncId} {fn:Func} {c:Code} {mc:mh} {ms:List bD} {sig:aQ} {M:List Dv->Option (List Dv×List C)} (hf:P.funcs[f]? =some fn) (hb:fn.body=some c)
  (hc:jw P fn.ntmps c mc=true) (hr:nK P fn.results.toList ms=true) (hM:∀ds rs fb,M ds=some (rs,fb)->ds.length<=fn.ntmps/\Li T mc ms sig ds=some (rs,fb)):qw P f sig M:=by
 intro ds rs fb nR w vals pas ha
 obtain⟨hN,bY⟩:=hM ds rs fb nR
 refine calls_of_wp hf hb ?_
 have r0:=R.QG (N:=fn.ntmps) ha hN
 have gh:∀p∈pas,∀pc∈p.ps,Good w pc:=by
  intro p hp pc bc
  obtain⟨i,hi,rfl⟩:=List.getElem_of_mem hp
  have hd:ds[i]? =some (ds[i]'(by rw[<-ha.l2];exact hi)):=List.getElem?_eq_getElem _
  have hv:vals[i]? =some (vals[i]'(by rw[ha.l1,<-ha.l2];exact hi)):=List.getElem?_eq_getElem _
  exact(ha.at_ i _ _ _ hd hv (List.getElem?_eq_getElem hi)).2.1 pc bc
 have hg:∀x∈eJ sig (pas.map (·.ps)),Good w x.2:=by
  intro x hx
  obtain⟨l,hl,oS⟩:=N1 hx
  obtain⟨p,hp,rfl⟩:=List.mem_map.1 hl
  exact gh p hp _ oS
 have aiS:ds.map (·.2)=(pas.map (·.ps)).map fun l=>l.map PC.er:=by
  apply List.ext_getElem?
  intro i
  simp only[List.getElem?_map]
  cases hd:ds[i]? with
  |none=>
   have:ds.length<=i:=List.getElem?_eq_none_iff.1 hd
   rw[List.getElem?_eq_none (by rw[ha.l2];exact this)]
   rfl
  |some d=>
   have hi:=(List.getElem?_eq_some_iff.1 hd).1
   have hv:vals[i]? =some (vals[i]'(by rw[ha.l1];exact hi)):=List.getElem?_eq_getElem _
   have hp:pas[i]? =some (pas[i]'(by rw[ha.l2];exact hi)):=List.getElem?_eq_getElem _
   have:=(ha.at_ i d _ _ hd hv hp).1
   rw[hp]
   simp only[Option.map_some]
   rw[this]
 unfold Li at bY
 rw[aiS,JI] at bY
 generalize jR:eJ sig (pas.map (·.ps))=fl at bY r0 hg
 have fH:=ha.ok
 rw[jR] at fH
 have fin:∀{σ:St} {a:Act} {w':World} {G:Gh},σ.De ms (fl.map fun x=>(x.1,x.2.er))=some (rs,fb)->R w.heap.size (yQ fl) w fn.ntmps σ a w' G->a.defers=[]/\∃v,(results fn a.tmps).run P w'=.ok v w'/\
   ∃aY:List (K×List PC),aY.map (fun p=>(p.1,p.2.map PC.er))=rs/\(Ending.returned v)=.returned (xM aY)/\(∀p∈aY,p.1≠ .ptr/\(p.1=.one->p.2.length=1))/\
   Ea w' w.heap.size (aY.flatMap (·.2))/\Fr w.heap.size (EI fl) w w'/\
   ∃qs:List PC,qs.map PC.er=fb/\qs.length=fl.length/\∀(i:Nat) (x:Mode×PC) (q:PC),fl[i]? =some x->qs[i]? =some q->ur w' x.1 x.2 q:=by
  intro σ a w' G hx r
  unfold St.De at hx
  split at hx
  ·rename_i vG apo e1 e2
   injection hx with hx
   injection hx with mJ eK
   subst mJ eK
   have hE:∀b,(yQ fl) b->∃n gr m sz xs,aK<=n/\σ.h n=some (.row gr m sz xs)/\m≠ .aG/\nO G n b/\(m=.ae->¬aZ b (G.g n).px):=by
    rintro b ⟨x,zv,Qi⟩
    obtain⟨i,hi⟩:=List.getElem?_of_mem zv
    obtain⟨q,o,_,_,_,gr,sz,xs,k1,k2,k3,k4⟩:=XV fH hg r e2 hi
    exact⟨aK+i,gr,x.1,sz,xs,Nat.le_add_right _ _,k1,k4,k2 b Qi,fun hm=>k3 hm b⟩
   obtain⟨aY,p1,p2,p3,p4⟩:=ac0 (r.j5 hE) hr e1
   obtain⟨ol,_⟩:=Te e2
   have hq:∀i:Fin fl.length,∃q,apo[i.1]? =some (PC.er q)/\ur w' (fl[i.1]).1 (fl[i.1]).2 q:=by
    intro i
    obtain⟨q,o,k1,k2,k3,_⟩:=XV fH hg r e2 (List.getElem?_eq_getElem i.2)
    exact⟨q,by rw[k1,k2],k3⟩
   refine⟨r.defers,_,p2,aY,p1,rfl,p3,p4,⟨r.fr.os,r.fr.tape,r.fr.output,r.fr.size,r.fr.block,r.fr.jq⟩,List.ofFn fun i=>Classical.choose (hq i),?_,by simp,fun i x q hi nc=>?_⟩
   ·apply List.ext_getElem?
    intro i
    simp only[List.getElem?_map]
    by_cases hi:i<fl.length
    ·rw[List.getElem?_ofFn,dif_pos hi]
     exact(Classical.choose_spec (hq ⟨i,hi⟩)).1.symm
    ·rw[List.getElem?_eq_none (by simp;omega),List.getElem?_eq_none (by rw[ol];simp;omega)]
     rfl
   ·obtain⟨hl,e⟩:=List.getElem?_eq_some_iff.1 hi
    rw[List.getElem?_ofFn,dif_pos hl] at nc
    injection nc with nc
    subst nc
    subst e
    exact(Classical.choose_spec (hq ⟨i,hl⟩)).2
  ·cases hx
 split at bY
 ·rename_i σ e
  exact mD hT hm mc hc e r0 fun a w' G r=>fin bY r
 ·rename_i σ e
  exact mD hT hm mc hc e r0 fun a w' G r=>fin bY r
 ·cases bY
end
end Go.Am
