/- Am30: functions that change lists of their arguments: the end of a call. No condition. -/
import Derived.Test.YtifmggmhdcdgbaaAm29
set_option linter.unusedVariables false
namespace Go.Am
section
variable {B:Nat} {E:Ex} {w0 w w':World} {G G':Gh} {N:Nat} {h h':Nat->Option aq} {used:Nat->Bool}
variable {P:Program} {T:bh} {a:Act} {σ σ':St} {Q:Exit->Act->World->Prop}
theorem uz {n:Nat} {b:aq} (hn:σ.jM.h n=some b):¬aI<=n/\σ.h n=some b:=by
 unfold St.jM at hn
 simp only at hn
 split at hn
 ·cases hn
 ·rename_i h;exact⟨h,hn⟩
theorem AS {n:Nat} (hn:σ.jM.h n≠none):¬aI<=n/\σ.h n≠none:=by
 cases h:σ.jM.h n with
 |none=>exact absurd h hn
 |some b=>obtain⟨a,e⟩:=uz h;exact⟨a,by rw[e];simp⟩
theorem aY.jM (u:Nat->Prop):aY w G σ.h u w G σ.jM.h:=
 ⟨fun _ h=>h,fun _ _ _=>rfl,fun n _ hn=>⟨(AS hn).2,rfl,rfl,rfl,rfl,rfl⟩,fun n gr sz xs _ hn=>⟨⟨gr,xs,(uz hn).2⟩,fun k j pc h1 h2=>⟨pc,h1,rfl,h2⟩⟩⟩
theorem R.jM (r:R B E w0 N σ a w G) (hE:∀b,E b->∃n gr m sz xs,aI<=n/\σ.h n=some (.row gr m sz xs)/\m≠ .aF/\nX G n b/\(m=.aa->¬aV b (G.g n).px)):
  R B Ex.no w N σ.jM a w G:=by
 have H:=r.hr
 have K:aY w G σ.h (fun n=>σ.used n=true) w G σ.jM.h:=aY.jM _
 have big:∀n,¬aI<=n->σ.h n≠none->(G.g n).nl=false->¬E (G.g n).b:=by
  intro n hn h0 hl hb
  obtain⟨q,gr,m,sz,xs,hq,h1,h2,h3,h4⟩:=hE _ hb
  have aC:n≠q:=fun e=>hn (e▸hq)
  have lN:σ.h q≠none:=by rw[h1];simp
  rcases h3 with⟨l,e⟩|h3
  ·exact H.inj n q h0 lN aC hl l e
  ·cases m with
   |aF=>exact h2 rfl
   |aa=>exact h4 rfl h3
   |live=>exact H.live q gr sz xs h1 _ h3 n h0 hl rfl
 have T6:∀n gr m sz xs,¬aI<=n->σ.h n=some (.row gr m sz xs)->m≠ .aF->∀b,aV b (G.g n).px->¬E b:=by
  intro n gr m sz xs hn h0 hm b hb he
  obtain⟨q,bi,m',aK,ar,hq,h1,h2,h3,h4⟩:=hE _ he
  have aC:n≠q:=fun e=>hn (e▸hq)
  exact H.Vy aC h0 h1 hm h2 (.inr hb) h3
 refine⟨r.defers,r.size,fun s=>(r.env s).eV K fun m hm=>r.rF s m hm,r.rF,?_,Fr.refl _ _ _ r.fr.size,fun n p b hp=>(by cases hp),r.yx⟩
 refine⟨fun n hn=>H.jb n (AS hn).2,fun m cs c n hm hc hr=>H.gT m cs c n (uz hm).2 hc hr,fun n cs hn=>?_,fun n gr m sz xs hn=>?_,fun n hn hl=>?_,fun n n' hn bn=>H.inj n n' (AS hn).2 (AS bn).2,
  H.fL,fun b _=>.inr (.inr trivial),fun n n' gr m sz xs bi m' aK ar hn bn=>H.fy n n' gr m sz xs bi m' aK ar (uz hn).2 (uz bn).2,fun n gr sz xs hn b hb n' bn=>H.live n gr sz xs (uz hn).2 b hb n' (AS bn).2,?_,?_,?_⟩
 ·obtain⟨a1,a2,a3⟩:=H.box n cs (uz hn).2
  refine⟨a1,a2,fun j c hj=>?_⟩
  obtain⟨v,b1,b2,b3⟩:=a3 j c hj
  exact⟨v,b1,b2,b3.eV K fun q hq=>H.gT n cs c q (uz hn).2 (List.mem_of_getElem? hj) hq⟩
 ·obtain⟨hp,h0⟩:=uz hn
  have hr:=H.row n gr m sz xs h0
  refine⟨hr.pos,hr.er,hr.nl,hr.dE,hr.room,?_⟩
  have hm:=hr.mode
  cases m with
  |aF=>exact hm
  |aa=>exact⟨fun b hb=>⟨(hm.1 b hb).1,(hm.1 b hb).2.1,(hm.1 b hb).2.2.imp id fun he=>absurd he (T6 n gr .aa sz xs hp h0 (by simp) b hb)⟩,hm.2⟩
  |live=>exact⟨fun b hb=>⟨(hm.1 b hb).1,(hm.1 b hb).2.1,(hm.1 b hb).2.2.imp id fun he=>absurd he (T6 n gr .live sz xs hp h0 (by simp) b hb)⟩,hm.2⟩
 ·obtain⟨hp,h0⟩:=AS hn
  obtain⟨o1,o2,o3⟩:=H.own n h0 hl
  exact⟨o1,o2.imp id fun he=>absurd he (big n hp h0 hl),o3⟩
 ·intro i pc hi;simp at hi
 ·intro i j pc df b _ hi;simp at hi
 ·intro i pc n gr m sz xs b hi;simp at hi
theorem ade {m:Mode} {px:List (List PC)} (hf:sd m (px.map fun e=>e.map PC.er)=true):(m=.aa->∀b,¬aV b px)/\m≠ .aF/\(m=.live->(px.map fun e=>e.map PC.er).all (fun e=>e.all C.r8)=true):=by
 cases m with
 |aF=>cases hf
 |aa=>exact⟨fun _ b=>Bg hf b,(by simp),fun h=>(by cases h)⟩
 |live=>exact⟨fun h=>(by cases h),(by simp),fun _=>hf⟩
theorem TT {fl:List (Mode×PC)} (fH:∀x∈fl,w7 w0 x.1 x.2) (hg:∀x∈fl,Good w0 x.2) (r:R B (xv fl) w0 N σ a w G) {eJ:List C} (ho:wl σ 0 (fl.map fun x=>(x.1,x.2.er))=some eJ)
  {i:Nat} {x:Mode×PC} (hx:fl[i]? =some x):∃q o,eJ[i]? =some o/\q.er=o/\u7 w x.1 x.2 q/\
   ∃gr sz xs,σ.h (aI+i)=some (.row gr x.1 sz xs)/\(∀b,aR b x.2->nX G (aI+i) b)/\(x.1=.aa->∀b,¬aV b (G.g (aI+i)).px)/\x.1≠ .aF:=by
 obtain⟨m,pc⟩:=x
 have tT:=List.mem_of_getElem? hx
 obtain⟨o1,o2⟩:=PJ ho
 obtain⟨o,e1,e2⟩:=o2 i (m,pc.er) (by rw[List.getElem?_map,hx];rfl)
 rw[Nat.zero_add] at e2
 obtain⟨sz,xs,gr,ar,f1,f2,f3,f4,f5,rfl⟩:=aiG e2
 have ok:=fH _ tT
 have adV:=hg _ tT
 obtain⟨s8,a0,cap,yy,rfl,eO,n5,vw⟩:=ok.dE
 simp only[PC.dw] at f1
 injection f1 with f1a f1b
 subst f1a
 subst f1b
 have hr:=r.hr.row _ gr m s8 ar f2
 have vI:(xv fl).qt (aI+i)=some (pz (.list s8 a0 cap yy)):=by
  show(if aI<=aI+i then(fl[aI+i - aI]?).map (fun x=>pz x.2) else none)=_
  rw[if_pos (Nat.le_add_right _ _),Nat.add_sub_cancel_left,hx]
  rfl
 obtain⟨p1,p2,p3,p4,p6,p5⟩:=r.qt _ _ _ vI f2
 have zR:ar=(G.g (aI+i)).px.map fun e=>e.map PC.er:=hr.er
 have GV:=f4
 simp only at GV
 rw[zR] at GV
 obtain⟨q1,q2,q3⟩:=ade GV
 have hlen:(G.g (aI+i)).px.length=yy.length:=by
  have:=f3
  rw[zR] at this
  simpa using this
 have Wk:io (G.g (aI+i)).px:=by
  have hm:=hr.mode
  cases m with
  |aF=>exact absurd rfl q2
  |aa=>exact hm.2
  |live=>exact hm.2
 have aC:σ.h (aI+i)≠none:=by rw[f2];simp
 rcases adV.cases with rfl|⟨fz,kl,b,o,rfl⟩
 ·have Wi:(G.g (aI+i)).px=[]:=List.eq_nil_of_length_eq_zero (by rw[hlen];rfl)
  refine⟨.list s8 a0 cap [],_,e1,(by rw[PC.dw,zR,Wi]),⟨rfl,.nil _ _ _ eO,ok.sep,fun _ h=>h,?_,?_⟩,gr,s8,ar,f2,fun b' aX=>?_,fun hm b' aX=>q1 hm b' aX,q2⟩
  ·simp only[PC.dw]
   rw[zR,Wi] at f4
   exact f4
  ·intro sz a cap xs aK a' rZ il vu tO
   have tO:=vu.symm.trans tO
   injection tO with h1 h2 h3 h4
   refine⟨h1.symm,h2.symm,h3.symm,by rw[h4],fun _ k j c hk hL=>?_⟩
   injection vu with _ _ _ h5
   subst h5
   obtain⟨e,he,_⟩:=hk
   simp at he
  ·rw[aR.kA] at aX
   rcases aX with⟨aX,_⟩|⟨k,j,c,⟨e,he,_⟩,_⟩
   ·exact absurd rfl aX
   ·simp at he
 ·have sr:m=.live->∀k j c,At yy k j c->c.gy=true->∃c',At (G.g (aI+i)).px k j c'/\c'.val=c.val/\c'.gy=true:=by
   rintro rfl k j c hk hL
   rw[yw fz] at p5
   exact p5 gr s8 ar rfl k j c hk hL
  rw[yw fz] at p1 p2 p3 p4
  simp only at p1 p2 p3 p4
  obtain⟨l1,l2,l3⟩:=hr.dE p1
  rw[p2] at l1 l2
  rw[p3] at l2
  rw[p4] at l3
  have aeh:(G.g (aI+i)).px≠[]:=by
   intro h0
   rw[h0] at hlen
   exact fz (List.eq_nil_of_length_eq_zero hlen.symm)
  have gJ:Good w (.list s8 (some (ad b o)) cap (G.g (aI+i)).px):=.cons _ _ _ _ _ aeh l3 eO l2.1 l2.2.1 l2.2.2
  have aen:¬aV b (G.g (aI+i)).px:=by
   intro hb
   cases m with
   |aF=>exact q2 rfl
   |aa=>exact q1 rfl b hb
   |live=>exact r.hr.live _ gr s8 ar f2 b hb _ aC p1 p2.symm
  have adJ:m=.live->∀b',aV b' (G.g (aI+i)).px->aV b' yy:=by
   rintro rfl b' aX
   refine XE (px':=yy) (q3 rfl) (fun k j c hk hL=>?_) aX
   rw[zR] at f5
   obtain⟨c0,sn,qV⟩:=akn f5 hk
   rw[hL] at qV
   obtain⟨c1,Hs,iI,hL1⟩:=sr rfl k j c0 sn qV
   rw[At.inj Hs hk] at iI
   exact⟨c0,sn,iI.symm,qV⟩
  refine⟨.list s8 (some (ad b o)) cap (G.g (aI+i)).px,_,e1,by rw[PC.dw,zR],⟨by simp only[PC.val,hlen],gJ,.list _ _ _ _ Wk.1 (fun b1 o1 k j c he hk xF=>?_) Wk.2,fun b' aX=>?_,?_,?_⟩,gr,s8,ar,f2,fun b' aX=>?_,q1,q2⟩
  ·injection he with he
   obtain⟨rfl,_⟩:=nQ he
   exact aen ⟨k,j,c,hk,xF⟩
  ·rw[aR.kA] at aX
   rcases aX with⟨_,o',gx⟩|hF
   ·injection gx with gx
    rw[<-(nQ gx).1]
    exact .here _ _ _ _ fz
   ·cases m with
    |aF=>exact absurd rfl q2
    |aa=>exact absurd hF (q1 rfl b')
    |live=>
     obtain⟨k,j,c,hk,hc⟩:=adJ rfl b' hF
     exact .there _ _ _ _ k j c hk hc
  ·simp only[PC.dw]
   exact GV
  ·intro sz a rZ xs aK a' alu il vu tO
   injection vu with h1 h2 h3 h4
   injection tO with g1 g2 g3 g4
   subst h1 h2 h3 h4 g1 g2 g3 g4
   exact⟨rfl,rfl,rfl,hlen,sr⟩
  ·rw[aR.kA] at aX
   rcases aX with⟨_,o',gx⟩|hF
   ·injection gx with gx
    exact .inl ⟨p1,by rw[p2];exact(nQ gx).1.symm⟩
   ·cases m with
    |aF=>exact absurd rfl q2
    |aa=>exact absurd hF (Bg vw b')
    |live=>exact .inr (XE vw (sr rfl) hF)
theorem aho (hT:nN P T) (hm:P.follows .mixedOrders=true) {f:FuncId} {fn:Func} {c:Code} {mc:lz} {ms:List bA} {sig:aW} {M:List Dv->Option (List Dv×List C)} (hf:P.funcs[f]? =some fn) (hb:fn.body=some c)
  (hc:ja P fn.ntmps c mc=true) (hr:m9 P fn.results.toList ms=true) (hM:∀ds rs eJ,M ds=some (rs,eJ)->ds.length<=fn.ntmps/\II T mc ms sig ds=some (rs,eJ)):oK P f sig M:=by
 intro ds rs eJ ni w vals pas ha
 obtain⟨hN,bo⟩:=hM ds rs eJ ni
 refine calls_of_wp hf hb ?_
 have r0:=R.NC (N:=fn.ntmps) ha hN
 have fI:∀p∈pas,∀pc∈p.ps,Good w pc:=by
  intro p hp pc bd
  obtain⟨i,hi,rfl⟩:=List.getElem_of_mem hp
  have hd:ds[i]? =some (ds[i]'(by rw[<-ha.l2];exact hi)):=List.getElem?_eq_getElem _
  have hv:vals[i]? =some (vals[i]'(by rw[ha.l1,<-ha.l2];exact hi)):=List.getElem?_eq_getElem _
  exact(ha.at_ i _ _ _ hd hv (List.getElem?_eq_getElem hi)).2.1 pc bd
 have hg:∀x∈eF sig (pas.map (·.ps)),Good w x.2:=by
  intro x hx
  obtain⟨l,hl,qb⟩:=Ld hx
  obtain⟨p,hp,rfl⟩:=List.mem_map.1 hl
  exact fI p hp _ qb
 have adP:ds.map (·.2)=(pas.map (·.ps)).map fun l=>l.map PC.er:=by
  apply List.ext_getElem?
  intro i
  simp only[List.getElem?_map]
  cases hd:ds[i]? with
  |none=>
   have:ds.length<=i:=List.getElem?_eq_none_iff.1 hd
   rw[List.getElem?_eq_none (by rw[ha.l2];exact this)]
   rfl
  |some d=>
   have hi:=(List.getElem?_eq_some_iff.1 hd).1
   have hv:vals[i]? =some (vals[i]'(by rw[ha.l1];exact hi)):=List.getElem?_eq_getElem _
   have hp:pas[i]? =some (pas[i]'(by rw[ha.l2];exact hi)):=List.getElem?_eq_getElem _
   have:=(ha.at_ i d _ _ hd hv hp).1
   rw[hp]
   simp only[Option.map_some]
   rw[this]
 unfold II at bo
 rw[adP,GW] at bo
 generalize jA:eF sig (pas.map (·.ps))=fl at bo r0 hg
 have fH:=ha.ok
 rw[jA] at fH
 have gI:∀{σ:St} {a:Act} {w':World} {G:Gh},σ.Ba ms (fl.map fun x=>(x.1,x.2.er))=some (rs,eJ)->R w.heap.size (xv fl) w fn.ntmps σ a w' G->a.defers=[]/\∃v,(results fn a.tmps).run P w'=.ok v w'/\
   ∃aU:List (K×List PC),aU.map (fun p=>(p.1,p.2.map PC.er))=rs/\(Ending.returned v)=.returned (wA aU)/\(∀p∈aU,p.1≠ .ptr/\(p.1=.one->p.2.length=1))/\
   BU w' w.heap.size (aU.flatMap (·.2))/\Fr w.heap.size (La fl) w w'/\
   ∃qs:List PC,qs.map PC.er=eJ/\qs.length=fl.length/\∀(i:Nat) (x:Mode×PC) (q:PC),fl[i]? =some x->qs[i]? =some q->u7 w' x.1 x.2 q:=by
  intro σ a w' G hx r
  unfold St.Ba at hx
  split at hx
  ·rename_i uH aiH e1 e2
   injection hx with hx
   injection hx with lP d9
   subst lP d9
   have hE:∀b,(xv fl) b->∃n gr m sz xs,aI<=n/\σ.h n=some (.row gr m sz xs)/\m≠ .aF/\nX G n b/\(m=.aa->¬aV b (G.g n).px):=by
    rintro b ⟨x,C4,Ng⟩
    obtain⟨i,hi⟩:=List.getElem?_of_mem C4
    obtain⟨q,o,_,_,_,gr,sz,xs,k1,k2,k3,k4⟩:=TT fH hg r e2 hi
    exact⟨aI+i,gr,x.1,sz,xs,Nat.le_add_right _ _,k1,k4,k2 b Ng,fun hm=>k3 hm b⟩
   obtain⟨aU,p1,p2,p3,p4⟩:=YO (r.jM hE) hr e1
   obtain⟨ol,_⟩:=PJ e2
   have hq:∀i:Fin fl.length,∃q,aiH[i.1]? =some (PC.er q)/\u7 w' (fl[i.1]).1 (fl[i.1]).2 q:=by
    intro i
    obtain⟨q,o,k1,k2,k3,_⟩:=TT fH hg r e2 (List.getElem?_eq_getElem i.2)
    exact⟨q,by rw[k1,k2],k3⟩
   refine⟨r.defers,_,p2,aU,p1,rfl,p3,p4,⟨r.fr.os,r.fr.tape,r.fr.output,r.fr.size,r.fr.block,r.fr.kH⟩,List.ofFn fun i=>Classical.choose (hq i),?_,by simp,fun i x q hi o7=>?_⟩
   ·apply List.ext_getElem?
    intro i
    simp only[List.getElem?_map]
    by_cases hi:i<fl.length
    ·rw[List.getElem?_ofFn,dif_pos hi]
     exact(Classical.choose_spec (hq ⟨i,hi⟩)).1.symm
    ·rw[List.getElem?_eq_none (by simp;omega),List.getElem?_eq_none (by rw[ol];simp;omega)]
     rfl
   ·obtain⟨hl,e⟩:=List.getElem?_eq_some_iff.1 hi
    rw[List.getElem?_ofFn,dif_pos hl] at o7
    injection o7 with o7
    subst o7
    subst e
    exact(Classical.choose_spec (hq ⟨i,hl⟩)).2
  ·cases hx
 split at bo
 ·rename_i σ e
  exact lG hT hm mc hc e r0 fun a w' G r=>gI bo r
 ·rename_i σ e
  exact lG hT hm mc hc e r0 fun a w' G r=>gI bo r
 ·cases bo
end
end Go.Am
