/- Am30: functions that change lists of their arguments: the end of a call. No condition. -/
import Derived.Test.YtbgmbplglejidaaAm29
set_option linter.unusedVariables false
namespace Go.Am
section
variable {B:Nat} {E:Ex} {w0 w w':World} {G G':Gh} {N:Nat} {h h':Nat->Option ao} {used:Nat->Bool}
variable {P:Program} {T:aO} {a:Act} {σ σ':St} {Q:Exit->Act->World->Prop}
theorem u5 {n:Nat} {b:ao} (hn:σ.jO.h n=some b):¬aK<=n/\σ.h n=some b:=by
 unfold St.jO at hn
 simp only at hn
 split at hn
 ·cases hn
 ·rename_i h;exact⟨h,hn⟩
theorem Cm {n:Nat} (hn:σ.jO.h n≠none):¬aK<=n/\σ.h n≠none:=by
 cases h:σ.jO.h n with
 |none=>exact absurd h hn
 |some b=>obtain⟨a,e⟩:=u5 h;exact⟨a,by rw[e];simp⟩
theorem bf.jO (u:Nat->Prop):bf w G σ.h u w G σ.jO.h:=
 ⟨fun _ h=>h,fun _ _ _=>rfl,fun n _ hn=>⟨(Cm hn).2,rfl,rfl,rfl,rfl,rfl⟩,fun n gr sz xs _ hn=>⟨⟨gr,xs,(u5 hn).2⟩,fun k j pc h1 h2=>⟨pc,h1,rfl,h2⟩⟩⟩
theorem R.jO (r:R B E w0 N σ a w G) (hE:∀b,E b->∃n gr m sz xs,aK<=n/\σ.h n=some (.row gr m sz xs)/\m≠ .aF/\nG G n b/\(m=.ab->¬aX b (G.g n).px)):
  R B Ex.no w N σ.jO a w G:=by
 have H:=r.hr
 have K:bf w G σ.h (fun n=>σ.used n=true) w G σ.jO.h:=bf.jO _
 have big:∀n,¬aK<=n->σ.h n≠none->(G.g n).nl=false->¬E (G.g n).b:=by
  intro n hn h0 hl hb
  obtain⟨q,gr,m,sz,xs,hq,h1,h2,h3,h4⟩:=hE _ hb
  have aC:n≠q:=fun e=>hn (e▸hq)
  have nO:σ.h q≠none:=by rw[h1];simp
  rcases h3 with⟨l,e⟩|h3
  ·exact H.inj n q h0 nO aC hl l e
  ·cases m with
   |aF=>exact h2 rfl
   |ab=>exact h4 rfl h3
   |live=>exact H.live q gr sz xs h1 _ h3 n h0 hl rfl
 have W3:∀n gr m sz xs,¬aK<=n->σ.h n=some (.row gr m sz xs)->m≠ .aF->∀b,aX b (G.g n).px->¬E b:=by
  intro n gr m sz xs hn h0 hm b hb he
  obtain⟨q,bm,m',aJ,aq,hq,h1,h2,h3,h4⟩:=hE _ he
  have aC:n≠q:=fun e=>hn (e▸hq)
  exact H.YU aC h0 h1 hm h2 (.inr hb) h3
 refine⟨r.defers,r.size,fun s=>(r.env s).ff K fun m hm=>r.sI s m hm,r.sI,?_,Fr.refl _ _ _ r.fr.size,fun n p b hp=>(by cases hp),r.zw⟩
 refine⟨fun n hn=>H.iK n (Cm hn).2,fun m cs c n hm hc hr=>H.gV m cs c n (u5 hm).2 hc hr,fun n cs hn=>?_,fun n gr m sz xs hn=>?_,fun n hn hl=>?_,fun n n' hn bk=>H.inj n n' (Cm hn).2 (Cm bk).2,
  H.fW,fun b _=>.inr (.inr trivial),fun n n' gr m sz xs bm m' aJ aq hn bk=>H.fI n n' gr m sz xs bm m' aJ aq (u5 hn).2 (u5 bk).2,fun n gr sz xs hn b hb n' bk=>H.live n gr sz xs (u5 hn).2 b hb n' (Cm bk).2,?_,?_,?_⟩
 ·obtain⟨a1,a2,a3⟩:=H.box n cs (u5 hn).2
  refine⟨a1,a2,fun j c hj=>?_⟩
  obtain⟨v,b1,b2,b3⟩:=a3 j c hj
  exact⟨v,b1,b2,b3.ff K fun q hq=>H.gV n cs c q (u5 hn).2 (List.mem_of_getElem? hj) hq⟩
 ·obtain⟨hp,h0⟩:=u5 hn
  have hr:=H.row n gr m sz xs h0
  refine⟨hr.pos,hr.er,hr.nl,hr.dV,hr.room,?_⟩
  have hm:=hr.mode
  cases m with
  |aF=>exact hm
  |ab=>exact⟨fun b hb=>⟨(hm.1 b hb).1,(hm.1 b hb).2.1,(hm.1 b hb).2.2.imp id fun he=>absurd he (W3 n gr .ab sz xs hp h0 (by simp) b hb)⟩,hm.2⟩
  |live=>exact⟨fun b hb=>⟨(hm.1 b hb).1,(hm.1 b hb).2.1,(hm.1 b hb).2.2.imp id fun he=>absurd he (W3 n gr .live sz xs hp h0 (by simp) b hb)⟩,hm.2⟩
 ·obtain⟨hp,h0⟩:=Cm hn
  obtain⟨o1,o2,o3⟩:=H.own n h0 hl
  exact⟨o1,o2.imp id fun he=>absurd he (big n hp h0 hl),o3⟩
 ·intro i pc hi;simp at hi
 ·intro i j pc dn b _ hi;simp at hi
 ·intro i pc n gr m sz xs b hi;simp at hi
theorem ahm {m:Mode} {px:List (List PC)} (hf:s8 m (px.map fun e=>e.map PC.er)=true):(m=.ab->∀b,¬aX b px)/\m≠ .aF/\(m=.live->(px.map fun e=>e.map PC.er).all (fun e=>e.all C.sY)=true):=by
 cases m with
 |aF=>cases hf
 |ab=>exact⟨fun _ b=>CE hf b,(by simp),fun h=>(by cases h)⟩
 |live=>exact⟨fun h=>(by cases h),(by simp),fun _=>hf⟩
theorem WK {fl:List (Mode×PC)} (fU:∀x∈fl,xO w0 x.1 x.2) (hg:∀x∈fl,Good w0 x.2) (r:R B (yj fl) w0 N σ a w G) {eZ:List C} (ho:w4 σ 0 (fl.map fun x=>(x.1,x.2.er))=some eZ)
  {i:Nat} {x:Mode×PC} (hx:fl[i]? =some x):∃q o,eZ[i]? =some o/\q.er=o/\tS w x.1 x.2 q/\
   ∃gr sz xs,σ.h (aK+i)=some (.row gr x.1 sz xs)/\(∀b,aT b x.2->nG G (aK+i) b)/\(x.1=.ab->∀b,¬aX b (G.g (aK+i)).px)/\x.1≠ .aF:=by
 obtain⟨m,pc⟩:=x
 have uH:=List.mem_of_getElem? hx
 obtain⟨o1,o2⟩:=Se ho
 obtain⟨o,e1,e2⟩:=o2 i (m,pc.er) (by rw[List.getElem?_map,hx];rfl)
 rw[Nat.zero_add] at e2
 obtain⟨sz,xs,gr,aq,f1,f2,f3,f4,f5,rfl⟩:=amv e2
 have ok:=fU _ uH
 have ahS:=hg _ uH
 obtain⟨tM,a0,cap,zy,rfl,dR,oD,wl⟩:=ok.dV
 simp only[PC.dO] at f1
 injection f1 with f1a f1b
 subst f1a
 subst f1b
 have hr:=r.hr.row _ gr m tM aq f2
 have wC:(yj fl).re (aK+i)=some (pY (.list tM a0 cap zy)):=by
  show(if aK<=aK+i then(fl[aK+i - aK]?).map (fun x=>pY x.2) else none)=_
  rw[if_pos (Nat.le_add_right _ _),Nat.add_sub_cancel_left,hx]
  rfl
 obtain⟨p1,p2,p3,p4,p6,p5⟩:=r.re _ _ _ wC f2
 have Bu:aq=(G.g (aK+i)).px.map fun e=>e.map PC.er:=hr.er
 have I4:=f4
 simp only at I4
 rw[Bu] at I4
 obtain⟨q1,q2,q3⟩:=ahm I4
 have hlen:(G.g (aK+i)).px.length=zy.length:=by
  have:=f3
  rw[Bu] at this
  simpa using this
 have ZU:iy (G.g (aK+i)).px:=by
  have hm:=hr.mode
  cases m with
  |aF=>exact absurd rfl q2
  |ab=>exact hm.2
  |live=>exact hm.2
 have aC:σ.h (aK+i)≠none:=by rw[f2];simp
 rcases ahS.cases with rfl|⟨fL,jE,b,o,rfl⟩
 ·have ZR:(G.g (aK+i)).px=[]:=List.eq_nil_of_length_eq_zero (by rw[hlen];rfl)
  refine⟨.list tM a0 cap [],_,e1,(by rw[PC.dO,Bu,ZR]),⟨rfl,.nil _ _ _ dR,ok.sep,fun _ h=>h,?_,?_⟩,gr,tM,aq,f2,fun b' aY=>?_,fun hm b' aY=>q1 hm b' aY,q2⟩
  ·simp only[PC.dO]
   rw[Bu,ZR] at f4
   exact f4
  ·intro sz a cap xs aJ a' sU iw wk uB
   have uB:=wk.symm.trans uB
   injection uB with h1 h2 h3 h4
   refine⟨h1.symm,h2.symm,h3.symm,by rw[h4],fun _ k j c hk hL=>?_⟩
   injection wk with _ _ _ h5
   subst h5
   obtain⟨e,he,_⟩:=hk
   simp at he
  ·rw[aT.kI] at aY
   rcases aY with⟨aY,_⟩|⟨k,j,c,⟨e,he,_⟩,_⟩
   ·exact absurd rfl aY
   ·simp at he
 ·have tg:m=.live->∀k j c,At zy k j c->c.gL=true->∃c',At (G.g (aK+i)).px k j c'/\c'.val=c.val/\c'.gL=true:=by
   rintro rfl k j c hk hL
   rw[zu fL] at p5
   exact p5 gr tM aq rfl k j c hk hL
  rw[zu fL] at p1 p2 p3 p4
  simp only at p1 p2 p3 p4
  obtain⟨l1,l2,l3⟩:=hr.dV p1
  rw[p2] at l1 l2
  rw[p3] at l2
  rw[p4] at l3
  have aie:(G.g (aK+i)).px≠[]:=by
   intro h0
   rw[h0] at hlen
   exact fL (List.eq_nil_of_length_eq_zero hlen.symm)
  have hJ:Good w (.list tM (some (ad b o)) cap (G.g (aK+i)).px):=.cons _ _ _ _ _ aie l3 dR l2.1 l2.2.1 l2.2.2
  have ail:¬aX b (G.g (aK+i)).px:=by
   intro hb
   cases m with
   |aF=>exact q2 rfl
   |ab=>exact q1 rfl b hb
   |live=>exact r.hr.live _ gr tM aq f2 b hb _ aC p1 p2.symm
  have ahI:m=.live->∀b',aX b' (G.g (aK+i)).px->aX b' zy:=by
   rintro rfl b' aY
   refine aaO (px':=zy) (q3 rfl) (fun k j c hk hL=>?_) aY
   rw[Bu] at f5
   obtain⟨c0,ZB,r5⟩:=aoP f5 hk
   rw[hL] at r5
   obtain⟨c1,Jy,iO,hL1⟩:=tg rfl k j c0 ZB r5
   rw[At.inj Jy hk] at iO
   exact⟨c0,ZB,iO.symm,r5⟩
  refine⟨.list tM (some (ad b o)) cap (G.g (aK+i)).px,_,e1,by rw[PC.dO,Bu],⟨by simp only[PC.val,hlen],hJ,.list _ _ _ _ ZU.1 (fun b1 o1 k j c he hk r8=>?_) ZU.2,fun b' aY=>?_,?_,?_⟩,gr,tM,aq,f2,fun b' aY=>?_,q1,q2⟩
  ·injection he with he
   obtain⟨rfl,_⟩:=nD he
   exact ail ⟨k,j,c,hk,r8⟩
  ·rw[aT.kI] at aY
   rcases aY with⟨_,o',gJ⟩|hF
   ·injection gJ with gJ
    rw[<-(nD gJ).1]
    exact .here _ _ _ _ fL
   ·cases m with
    |aF=>exact absurd rfl q2
    |ab=>exact absurd hF (q1 rfl b')
    |live=>
     obtain⟨k,j,c,hk,hc⟩:=ahI rfl b' hF
     exact .there _ _ _ _ k j c hk hc
  ·simp only[PC.dO]
   exact I4
  ·intro sz a sU xs aJ a' aqa iw wk uB
   injection wk with h1 h2 h3 h4
   injection uB with g1 g2 g3 g4
   subst h1 h2 h3 h4 g1 g2 g3 g4
   exact⟨rfl,rfl,rfl,hlen,tg⟩
  ·rw[aT.kI] at aY
   rcases aY with⟨_,o',gJ⟩|hF
   ·injection gJ with gJ
    exact .inl ⟨p1,by rw[p2];exact(nD gJ).1.symm⟩
   ·cases m with
    |aF=>exact absurd rfl q2
    |ab=>exact absurd hF (CE wl b')
    |live=>exact .inr (aaO wl (tg rfl) hF)
theorem ak7 (hT:oq P T) (hm:P.follows .mixedOrders=true) {f:FuncId} {fn:Func} {c:Code} {mc:lT} {ms:List bC} {sig:aP} {M:List Dv->Option (List Dv×List C)} (hf:P.funcs[f]? =some fn) (hb:fn.body=some c)
  (hc:jd P fn.ntmps c mc=true) (hr:nE P fn.results.toList ms=true) (hM:∀ds rs eZ,M ds=some (rs,eZ)->ds.length<=fn.ntmps/\KJ T mc ms sig ds=some (rs,eZ)):qp P f sig M:=by
 intro ds rs eZ nJ w vals pas ha
 obtain⟨hN,bX⟩:=hM ds rs eZ nJ
 refine calls_of_wp hf hb ?_
 have r0:=R.P8 (N:=fn.ntmps) ha hN
 have fV:∀p∈pas,∀pc∈p.ps,Good w pc:=by
  intro p hp pc aU
  obtain⟨i,hi,rfl⟩:=List.getElem_of_mem hp
  have hd:ds[i]? =some (ds[i]'(by rw[<-ha.l2];exact hi)):=List.getElem?_eq_getElem _
  have hv:vals[i]? =some (vals[i]'(by rw[ha.l1,<-ha.l2];exact hi)):=List.getElem?_eq_getElem _
  exact(ha.at_ i _ _ _ hd hv (List.getElem?_eq_getElem hi)).2.1 pc aU
 have hg:∀x∈eI sig (pas.map (·.ps)),Good w x.2:=by
  intro x hx
  obtain⟨l,hl,qR⟩:=Ny hx
  obtain⟨p,hp,rfl⟩:=List.mem_map.1 hl
  exact fV p hp _ qR
 have ahM:ds.map (·.2)=(pas.map (·.ps)).map fun l=>l.map PC.er:=by
  apply List.ext_getElem?
  intro i
  simp only[List.getElem?_map]
  cases hd:ds[i]? with
  |none=>
   have:ds.length<=i:=List.getElem?_eq_none_iff.1 hd
   rw[List.getElem?_eq_none (by rw[ha.l2];exact this)]
   rfl
  |some d=>
   have hi:=(List.getElem?_eq_some_iff.1 hd).1
   have hv:vals[i]? =some (vals[i]'(by rw[ha.l1];exact hi)):=List.getElem?_eq_getElem _
   have hp:pas[i]? =some (pas[i]'(by rw[ha.l2];exact hi)):=List.getElem?_eq_getElem _
   have:=(ha.at_ i d _ _ hd hv hp).1
   rw[hp]
   simp only[Option.map_some]
   rw[this]
 unfold KJ at bX
 rw[ahM,I5] at bX
 generalize jF:eI sig (pas.map (·.ps))=fl at bX r0 hg
 have fU:=ha.ok
 rw[jF] at fU
 have fin:∀{σ:St} {a:Act} {w':World} {G:Gh},σ.CA ms (fl.map fun x=>(x.1,x.2.er))=some (rs,eZ)->R w.heap.size (yj fl) w fn.ntmps σ a w' G->a.defers=[]/\∃v,(results fn a.tmps).run P w'=.ok v w'/\
   ∃aW:List (K×List PC),aW.map (fun p=>(p.1,p.2.map PC.er))=rs/\(Ending.returned v)=.returned (xd aW)/\(∀p∈aW,p.1≠ .ptr/\(p.1=.one->p.2.length=1))/\
   Dl w' w.heap.size (aW.flatMap (·.2))/\Fr w.heap.size (DX fl) w w'/\
   ∃qs:List PC,qs.map PC.er=eZ/\qs.length=fl.length/\∀(i:Nat) (x:Mode×PC) (q:PC),fl[i]? =some x->qs[i]? =some q->tS w' x.1 x.2 q:=by
  intro σ a w' G hx r
  unfold St.CA at hx
  split at hx
  ·rename_i vi amw e1 e2
   injection hx with hx
   injection hx with mA eJ
   subst mA eJ
   have hE:∀b,(yj fl) b->∃n gr m sz xs,aK<=n/\σ.h n=some (.row gr m sz xs)/\m≠ .aF/\nG G n b/\(m=.ab->¬aX b (G.g n).px):=by
    rintro b ⟨x,yS,PQ⟩
    obtain⟨i,hi⟩:=List.getElem?_of_mem yS
    obtain⟨q,o,_,_,_,gr,sz,xs,k1,k2,k3,k4⟩:=WK fU hg r e2 hi
    exact⟨aK+i,gr,x.1,sz,xs,Nat.le_add_right _ _,k1,k4,k2 b PQ,fun hm=>k3 hm b⟩
   obtain⟨aW,p1,p2,p3,p4⟩:=ab9 (r.jO hE) hr e1
   obtain⟨ol,_⟩:=Se e2
   have hq:∀i:Fin fl.length,∃q,amw[i.1]? =some (PC.er q)/\tS w' (fl[i.1]).1 (fl[i.1]).2 q:=by
    intro i
    obtain⟨q,o,k1,k2,k3,_⟩:=WK fU hg r e2 (List.getElem?_eq_getElem i.2)
    exact⟨q,by rw[k1,k2],k3⟩
   refine⟨r.defers,_,p2,aW,p1,rfl,p3,p4,⟨r.fr.os,r.fr.tape,r.fr.output,r.fr.size,r.fr.block,r.fr.iu⟩,List.ofFn fun i=>Classical.choose (hq i),?_,by simp,fun i x q hi m6=>?_⟩
   ·apply List.ext_getElem?
    intro i
    simp only[List.getElem?_map]
    by_cases hi:i<fl.length
    ·rw[List.getElem?_ofFn,dif_pos hi]
     exact(Classical.choose_spec (hq ⟨i,hi⟩)).1.symm
    ·rw[List.getElem?_eq_none (by simp;omega),List.getElem?_eq_none (by rw[ol];simp;omega)]
     rfl
   ·obtain⟨hl,e⟩:=List.getElem?_eq_some_iff.1 hi
    rw[List.getElem?_ofFn,dif_pos hl] at m6
    injection m6 with m6
    subst m6
    subst e
    exact(Classical.choose_spec (hq ⟨i,hl⟩)).2
  ·cases hx
 split at bX
 ·rename_i σ e
  exact mf hT hm mc hc e r0 fun a w' G r=>fin bX r
 ·rename_i σ e
  exact mf hT hm mc hc e r0 fun a w' G r=>fin bX r
 ·cases bX
end
end Go.Am
