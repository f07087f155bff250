/- Am30: functions that change lists of their arguments: the end of a call. No condition. -/
import Derived.Test.YtifmggmhdcdgbaaAm29
set_option linter.unusedVariables false
namespace Go.Am
section
variable {B:Nat} {E:Ex} {w0 w w':World} {G G':Gh} {N:Nat} {h h':Nat->Option ar} {used:Nat->Bool}
variable {P:Program} {T:be} {a:Act} {σ σ':St} {Q:Exit->Act->World->Prop}
theorem uo {n:Nat} {b:ar} (hn:σ.iW.h n=some b):¬aJ<=n/\σ.h n=some b:=by
 unfold St.iW at hn
 simp only at hn
 split at hn
 ·cases hn
 ·rename_i h;exact⟨h,hn⟩
theorem Bl {n:Nat} (hn:σ.iW.h n≠none):¬aJ<=n/\σ.h n≠none:=by
 cases h:σ.iW.h n with
 |none=>exact absurd h hn
 |some b=>obtain⟨a,e⟩:=uo h;exact⟨a,by rw[e];simp⟩
theorem aV.iW (u:Nat->Prop):aV w G σ.h u w G σ.iW.h:=
 ⟨fun _ h=>h,fun _ _ _=>rfl,fun n _ hn=>⟨(Bl hn).2,rfl,rfl,rfl,rfl,rfl⟩,fun n gr sz xs _ hn=>⟨⟨gr,xs,(uo hn).2⟩,fun k j pc h1 h2=>⟨pc,h1,rfl,h2⟩⟩⟩
theorem R.iW (r:R B E w0 N σ a w G) (hE:∀b,E b->∃n gr m sz xs,aJ<=n/\σ.h n=some (.row gr m sz xs)/\m≠ .aE/\np G n b/\(m=.aa->¬aR b (G.g n).px)):
  R B Ex.no w N σ.iW a w G:=by
 have H:=r.hr
 have K:aV w G σ.h (fun n=>σ.used n=true) w G σ.iW.h:=aV.iW _
 have big:∀n,¬aJ<=n->σ.h n≠none->(G.g n).nl=false->¬E (G.g n).b:=by
  intro n hn h0 hl hb
  obtain⟨q,gr,m,sz,xs,hq,h1,h2,h3,h4⟩:=hE _ hb
  have aA:n≠q:=fun e=>hn (e▸hq)
  have kV:σ.h q≠none:=by rw[h1];simp
  rcases h3 with⟨l,e⟩|h3
  ·exact H.inj n q h0 kV aA hl l e
  ·cases m with
   |aE=>exact h2 rfl
   |aa=>exact h4 rfl h3
   |live=>exact H.live q gr sz xs h1 _ h3 n h0 hl rfl
 have Vk:∀n gr m sz xs,¬aJ<=n->σ.h n=some (.row gr m sz xs)->m≠ .aE->∀b,aR b (G.g n).px->¬E b:=by
  intro n gr m sz xs hn h0 hm b hb he
  obtain⟨q,bf,m',aK,au,hq,h1,h2,h3,h4⟩:=hE _ he
  have aA:n≠q:=fun e=>hn (e▸hq)
  exact H.WQ aA h0 h1 hm h2 (.inr hb) h3
 refine⟨r.defers,r.size,fun s=>(r.env s).ek K fun m hm=>r.ru s m hm,r.ru,?_,Fr.refl _ _ _ r.fr.size,fun n p b hp=>(by cases hp),r.yO⟩
 refine⟨fun n hn=>H.iq n (Bl hn).2,fun m cs c n hm hc hr=>H.f8 m cs c n (uo hm).2 hc hr,fun n cs hn=>?_,fun n gr m sz xs hn=>?_,fun n hn hl=>?_,fun n n' hn bh=>H.inj n n' (Bl hn).2 (Bl bh).2,
  H.fk,fun b _=>.inr (.inr trivial),fun n n' gr m sz xs bf m' aK au hn bh=>H.e7 n n' gr m sz xs bf m' aK au (uo hn).2 (uo bh).2,fun n gr sz xs hn b hb n' bh=>H.live n gr sz xs (uo hn).2 b hb n' (Bl bh).2,?_,?_,?_⟩
 ·obtain⟨a1,a2,a3⟩:=H.box n cs (uo hn).2
  refine⟨a1,a2,fun j c hj=>?_⟩
  obtain⟨v,b1,b2,b3⟩:=a3 j c hj
  exact⟨v,b1,b2,b3.ek K fun q hq=>H.f8 n cs c q (uo hn).2 (List.mem_of_getElem? hj) hq⟩
 ·obtain⟨hp,h0⟩:=uo hn
  have hr:=H.row n gr m sz xs h0
  refine⟨hr.pos,hr.er,hr.nl,hr.dq,hr.room,?_⟩
  have hm:=hr.mode
  cases m with
  |aE=>exact hm
  |aa=>exact⟨fun b hb=>⟨(hm.1 b hb).1,(hm.1 b hb).2.1,(hm.1 b hb).2.2.imp id fun he=>absurd he (Vk n gr .aa sz xs hp h0 (by simp) b hb)⟩,hm.2⟩
  |live=>exact⟨fun b hb=>⟨(hm.1 b hb).1,(hm.1 b hb).2.1,(hm.1 b hb).2.2.imp id fun he=>absurd he (Vk n gr .live sz xs hp h0 (by simp) b hb)⟩,hm.2⟩
 ·obtain⟨hp,h0⟩:=Bl hn
  obtain⟨o1,o2,o3⟩:=H.own n h0 hl
  exact⟨o1,o2.imp id fun he=>absurd he (big n hp h0 hl),o3⟩
 ·intro i pc hi;simp at hi
 ·intro i j pc cR b _ hi;simp at hi
 ·intro i pc n gr m sz xs b hi;simp at hi
theorem aeQ {m:Mode} {px:List (List PC)} (hf:rQ m (px.map fun e=>e.map PC.er)=true):(m=.aa->∀b,¬aR b px)/\m≠ .aE/\(m=.live->(px.map fun e=>e.map PC.er).all (fun e=>e.all C.rM)=true):=by
 cases m with
 |aE=>cases hf
 |aa=>exact⟨fun _ b=>BJ hf b,(by simp),fun h=>(by cases h)⟩
 |live=>exact⟨fun h=>(by cases h),(by simp),fun _=>hf⟩
theorem U3 {fl:List (Mode×PC)} (fg:∀x∈fl,xn w0 x.1 x.2) (hg:∀x∈fl,Good w0 x.2) (r:R B (xK fl) w0 N σ a w G) {dZ:List C} (ho:wD σ 0 (fl.map fun x=>(x.1,x.2.er))=some dZ)
  {i:Nat} {x:Mode×PC} (hx:fl[i]? =some x):∃q o,dZ[i]? =some o/\q.er=o/\u5 w x.1 x.2 q/\
   ∃gr sz xs,σ.h (aJ+i)=some (.row gr x.1 sz xs)/\(∀b,aN b x.2->np G (aJ+i) b)/\(x.1=.aa->∀b,¬aR b (G.g (aJ+i)).px)/\x.1≠ .aE:=by
 obtain⟨m,pc⟩:=x
 have tP:=List.mem_of_getElem? hx
 obtain⟨o1,o2⟩:=Q2 ho
 obtain⟨o,e1,e2⟩:=o2 i (m,pc.er) (by rw[List.getElem?_map,hx];rfl)
 rw[Nat.zero_add] at e2
 obtain⟨sz,xs,gr,au,f1,f2,f3,f4,f5,rfl⟩:=alQ e2
 have ok:=fg _ tP
 have afD:=hg _ tP
 obtain⟨ta,a0,cap,yP,rfl,d9,nt,vA⟩:=ok.dq
 simp only[PC.df] at f1
 injection f1 with f1a f1b
 subst f1a
 subst f1b
 have hr:=r.hr.row _ gr m ta au f2
 have vJ:(xK fl).pV (aJ+i)=some (oQ (.list ta a0 cap yP)):=by
  show(if aJ<=aJ+i then(fl[aJ+i - aJ]?).map (fun x=>oQ x.2) else none)=_
  rw[if_pos (Nat.le_add_right _ _),Nat.add_sub_cancel_left,hx]
  rfl
 obtain⟨p1,p2,p3,p4,p6,p5⟩:=r.pV _ _ _ vJ f2
 have Ab:au=(G.g (aJ+i)).px.map fun e=>e.map PC.er:=hr.er
 have HD:=f4
 simp only at HD
 rw[Ab] at HD
 obtain⟨q1,q2,q3⟩:=aeQ HD
 have hlen:(G.g (aJ+i)).px.length=yP.length:=by
  have:=f3
  rw[Ab] at this
  simpa using this
 have XA:gI (G.g (aJ+i)).px:=by
  have hm:=hr.mode
  cases m with
  |aE=>exact absurd rfl q2
  |aa=>exact hm.2
  |live=>exact hm.2
 have aA:σ.h (aJ+i)≠none:=by rw[f2];simp
 rcases afD.cases with rfl|⟨e8,jA,b,o,rfl⟩
 ·have Xy:(G.g (aJ+i)).px=[]:=List.eq_nil_of_length_eq_zero (by rw[hlen];rfl)
  refine⟨.list ta a0 cap [],_,e1,(by rw[PC.df,Ab,Xy]),⟨rfl,.nil _ _ _ d9,ok.sep,fun _ h=>h,?_,?_⟩,gr,ta,au,f2,fun b' aU=>?_,fun hm b' aU=>q1 hm b' aU,q2⟩
  ·simp only[PC.df]
   rw[Ab,Xy] at f4
   exact f4
  ·intro sz a cap xs aK a' rJ gH vz tK
   have tK:=vz.symm.trans tK
   injection tK with h1 h2 h3 h4
   refine⟨h1.symm,h2.symm,h3.symm,by rw[h4],fun _ k j c hk hL=>?_⟩
   injection vz with _ _ _ h5
   subst h5
   obtain⟨e,he,_⟩:=hk
   simp at he
  ·rw[aN.jP] at aU
   rcases aU with⟨aU,_⟩|⟨k,j,c,⟨e,he,_⟩,_⟩
   ·exact absurd rfl aU
   ·simp at he
 ·have rY:m=.live->∀k j c,At yP k j c->c.fV=true->∃c',At (G.g (aJ+i)).px k j c'/\c'.val=c.val/\c'.fV=true:=by
   rintro rfl k j c hk hL
   rw[yN e8] at p5
   exact p5 gr ta au rfl k j c hk hL
  rw[yN e8] at p1 p2 p3 p4
  simp only at p1 p2 p3 p4
  obtain⟨l1,l2,l3⟩:=hr.dq p1
  rw[p2] at l1 l2
  rw[p3] at l2
  rw[p4] at l3
  have afZ:(G.g (aJ+i)).px≠[]:=by
   intro h0
   rw[h0] at hlen
   exact e8 (List.eq_nil_of_length_eq_zero hlen.symm)
  have gd:Good w (.list ta (some (ad b o)) cap (G.g (aJ+i)).px):=.cons _ _ _ _ _ afZ l3 d9 l2.1 l2.2.1 l2.2.2
  have af5:¬aR b (G.g (aJ+i)).px:=by
   intro hb
   cases m with
   |aE=>exact q2 rfl
   |aa=>exact q1 rfl b hb
   |live=>exact r.hr.live _ gr ta au f2 b hb _ aA p1 p2.symm
  have afp:m=.live->∀b',aR b' (G.g (aJ+i)).px->aR b' yP:=by
   rintro rfl b' aU
   refine Zm (px':=yP) (q3 rfl) (fun k j c hk hL=>?_) aU
   rw[Ab] at f5
   obtain⟨c0,Xl,qH⟩:=anz f5 hk
   rw[hL] at qH
   obtain⟨c1,H8,g7,hL1⟩:=rY rfl k j c0 Xl qH
   rw[At.inj H8 hk] at g7
   exact⟨c0,Xl,g7.symm,qH⟩
  refine⟨.list ta (some (ad b o)) cap (G.g (aJ+i)).px,_,e1,by rw[PC.df,Ab],⟨by simp only[PC.val,hlen],gd,.list _ _ _ _ XA.1 (fun b1 o1 k j c he hk xV=>?_) XA.2,fun b' aU=>?_,?_,?_⟩,gr,ta,au,f2,fun b' aU=>?_,q1,q2⟩
  ·injection he with he
   obtain⟨rfl,_⟩:=nc he
   exact af5 ⟨k,j,c,hk,xV⟩
  ·rw[aN.jP] at aU
   rcases aU with⟨_,o',fU⟩|hF
   ·injection fU with fU
    rw[<-(nc fU).1]
    exact .here _ _ _ _ e8
   ·cases m with
    |aE=>exact absurd rfl q2
    |aa=>exact absurd hF (q1 rfl b')
    |live=>
     obtain⟨k,j,c,hk,hc⟩:=afp rfl b' hF
     exact .there _ _ _ _ k j c hk hc
  ·simp only[PC.df]
   exact HD
  ·intro sz a rJ xs aK a' aoF gH vz tK
   injection vz with h1 h2 h3 h4
   injection tK with g1 g2 g3 g4
   subst h1 h2 h3 h4 g1 g2 g3 g4
   exact⟨rfl,rfl,rfl,hlen,rY⟩
  ·rw[aN.jP] at aU
   rcases aU with⟨_,o',fU⟩|hF
   ·injection fU with fU
    exact .inl ⟨p1,by rw[p2];exact(nc fU).1.symm⟩
   ·cases m with
    |aE=>exact absurd rfl q2
    |aa=>exact absurd hF (BJ vA b')
    |live=>exact .inr (Zm vA (rY rfl) hF)
theorem akA (hT:m8 P T) (hm:P.follows .mixedOrders=true) {f:FuncId} {fn:Func} {c:Code} {mc:kI} {ms:List bx} {sig:aY} {M:List Dv->Option (List Dv×List C)} (hf:P.funcs[f]? =some fn) (hb:fn.body=some c)
  (hc:il P fn.ntmps c mc=true) (hr:mw P fn.results.toList ms=true) (hM:∀ds rs dZ,M ds=some (rs,dZ)->ds.length<=fn.ntmps/\J2 T mc ms sig ds=some (rs,dZ)):n4 P f sig M:=by
 intro ds rs dZ mD w vals pas ha
 obtain⟨hN,bm⟩:=hM ds rs dZ mD
 refine calls_of_wp hf hb ?_
 have r0:=R.OL (N:=fn.ntmps) ha hN
 have fh:∀p∈pas,∀pc∈p.ps,Good w pc:=by
  intro p hp pc aZ
  obtain⟨i,hi,rfl⟩:=List.getElem_of_mem hp
  have hd:ds[i]? =some (ds[i]'(by rw[<-ha.l2];exact hi)):=List.getElem?_eq_getElem _
  have hv:vals[i]? =some (vals[i]'(by rw[ha.l1,<-ha.l2];exact hi)):=List.getElem?_eq_getElem _
  exact(ha.at_ i _ _ _ hd hv (List.getElem?_eq_getElem hi)).2.1 pc aZ
 have hg:∀x∈dW sig (pas.map (·.ps)),Good w x.2:=by
  intro x hx
  obtain⟨l,hl,pE⟩:=Ml hx
  obtain⟨p,hp,rfl⟩:=List.mem_map.1 hl
  exact fh p hp _ pE
 have afv:ds.map (·.2)=(pas.map (·.ps)).map fun l=>l.map PC.er:=by
  apply List.ext_getElem?
  intro i
  simp only[List.getElem?_map]
  cases hd:ds[i]? with
  |none=>
   have:ds.length<=i:=List.getElem?_eq_none_iff.1 hd
   rw[List.getElem?_eq_none (by rw[ha.l2];exact this)]
   rfl
  |some d=>
   have hi:=(List.getElem?_eq_some_iff.1 hd).1
   have hv:vals[i]? =some (vals[i]'(by rw[ha.l1];exact hi)):=List.getElem?_eq_getElem _
   have hp:pas[i]? =some (pas[i]'(by rw[ha.l2];exact hi)):=List.getElem?_eq_getElem _
   have:=(ha.at_ i d _ _ hd hv hp).1
   rw[hp]
   simp only[Option.map_some]
   rw[this]
 unfold J2 at bm
 rw[afv,HE] at bm
 generalize iM:dW sig (pas.map (·.ps))=fl at bm r0 hg
 have fg:=ha.ok
 rw[iM] at fg
 have gb:∀{σ:St} {a:Act} {w':World} {G:Gh},σ.BC ms (fl.map fun x=>(x.1,x.2.er))=some (rs,dZ)->R w.heap.size (xK fl) w fn.ntmps σ a w' G->a.defers=[]/\∃v,(results fn a.tmps).run P w'=.ok v w'/\
   ∃aO:List (K×List PC),aO.map (fun p=>(p.1,p.2.map PC.er))=rs/\(Ending.returned v)=.returned (wK aO)/\(∀p∈aO,p.1≠ .ptr/\(p.1=.one->p.2.length=1))/\
   Cl w' w.heap.size (aO.flatMap (·.2))/\Fr w.heap.size (Mi fl) w w'/\
   ∃qs:List PC,qs.map PC.er=dZ/\qs.length=fl.length/\∀(i:Nat) (x:Mode×PC) (q:PC),fl[i]? =some x->qs[i]? =some q->u5 w' x.1 x.2 q:=by
  intro σ a w' G hx r
  unfold St.BC at hx
  split at hx
  ·rename_i uA alR e1 e2
   injection hx with hx
   injection hx with kZ dK
   subst kZ dK
   have hE:∀b,(xK fl) b->∃n gr m sz xs,aJ<=n/\σ.h n=some (.row gr m sz xs)/\m≠ .aE/\np G n b/\(m=.aa->¬aR b (G.g n).px):=by
    rintro b ⟨x,DA,Oj⟩
    obtain⟨i,hi⟩:=List.getElem?_of_mem DA
    obtain⟨q,o,_,_,_,gr,sz,xs,k1,k2,k3,k4⟩:=U3 fg hg r e2 hi
    exact⟨aJ+i,gr,x.1,sz,xs,Nat.le_add_right _ _,k1,k4,k2 b Oj,fun hm=>k3 hm b⟩
   obtain⟨aO,p1,p2,p3,p4⟩:=aas (r.iW hE) hr e1
   obtain⟨ol,_⟩:=Q2 e2
   have hq:∀i:Fin fl.length,∃q,alR[i.1]? =some (PC.er q)/\u5 w' (fl[i.1]).1 (fl[i.1]).2 q:=by
    intro i
    obtain⟨q,o,k1,k2,k3,_⟩:=U3 fg hg r e2 (List.getElem?_eq_getElem i.2)
    exact⟨q,by rw[k1,k2],k3⟩
   refine⟨r.defers,_,p2,aO,p1,rfl,p3,p4,⟨r.fr.os,r.fr.tape,r.fr.output,r.fr.size,r.fr.block,r.fr.jT⟩,List.ofFn fun i=>Classical.choose (hq i),?_,by simp,fun i x q hi ox=>?_⟩
   ·apply List.ext_getElem?
    intro i
    simp only[List.getElem?_map]
    by_cases hi:i<fl.length
    ·rw[List.getElem?_ofFn,dif_pos hi]
     exact(Classical.choose_spec (hq ⟨i,hi⟩)).1.symm
    ·rw[List.getElem?_eq_none (by simp;omega),List.getElem?_eq_none (by rw[ol];simp;omega)]
     rfl
   ·obtain⟨hl,e⟩:=List.getElem?_eq_some_iff.1 hi
    rw[List.getElem?_ofFn,dif_pos hl] at ox
    injection ox with ox
    subst ox
    subst e
    exact(Classical.choose_spec (hq ⟨i,hl⟩)).2
  ·cases hx
 split at bm
 ·rename_i σ e
  exact kO hT hm mc hc e r0 fun a w' G r=>gb bm r
 ·rename_i σ e
  exact kO hT hm mc hc e r0 fun a w' G r=>gb bm r
 ·cases bm
end
end Go.Am
