/- Am30: functions that change lists of their arguments: the end of a call. No condition. -/
import Derived.Test.YtifmggmhdcdgbaaAm29
set_option linter.unusedVariables false
namespace Go.Am
section
variable {B:Nat} {E:Ex} {w0 w w':World} {G G':Gh} {N:Nat} {h h':Nat->Option ar} {used:Nat->Bool}
variable {P:Program} {T:bj} {a:Act} {σ σ':St} {Q:Exit->Act->World->Prop}
theorem u4 {n:Nat} {b:ar} (hn:σ.jw.h n=some b):¬aH<=n/\σ.h n=some b:=by
 unfold St.jw at hn
 simp only at hn
 split at hn
 ·cases hn
 ·rename_i h;exact⟨h,hn⟩
theorem B0 {n:Nat} (hn:σ.jw.h n≠none):¬aH<=n/\σ.h n≠none:=by
 cases h:σ.jw.h n with
 |none=>exact absurd h hn
 |some b=>obtain⟨a,e⟩:=u4 h;exact⟨a,by rw[e];simp⟩
theorem aW.jw (u:Nat->Prop):aW w G σ.h u w G σ.jw.h:=
 ⟨fun _ h=>h,fun _ _ _=>rfl,fun n _ hn=>⟨(B0 hn).2,rfl,rfl,rfl,rfl,rfl⟩,fun n gr sz xs _ hn=>⟨⟨gr,xs,(u4 hn).2⟩,fun k j pc h1 h2=>⟨pc,h1,rfl,h2⟩⟩⟩
theorem R.jw (r:R B E w0 N σ a w G) (hE:∀b,E b->∃n gr m sz xs,aH<=n/\σ.h n=some (.row gr m sz xs)/\m≠ .aA/\nJ G n b/\(m=.ab->¬aS b (G.g n).px)):
  R B Ex.no w N σ.jw a w G:=by
 have H:=r.hr
 have K:aW w G σ.h (fun n=>σ.used n=true) w G σ.jw.h:=aW.jw _
 have big:∀n,¬aH<=n->σ.h n≠none->(G.g n).nl=false->¬E (G.g n).b:=by
  intro n hn h0 hl hb
  obtain⟨q,gr,m,sz,xs,hq,h1,h2,h3,h4⟩:=hE _ hb
  have ax:n≠q:=fun e=>hn (e▸hq)
  have lx:σ.h q≠none:=by rw[h1];simp
  rcases h3 with⟨l,e⟩|h3
  ·exact H.inj n q h0 lx ax hl l e
  ·cases m with
   |aA=>exact h2 rfl
   |ab=>exact h4 rfl h3
   |live=>exact H.live q gr sz xs h1 _ h3 n h0 hl rfl
 have VS:∀n gr m sz xs,¬aH<=n->σ.h n=some (.row gr m sz xs)->m≠ .aA->∀b,aS b (G.g n).px->¬E b:=by
  intro n gr m sz xs hn h0 hm b hb he
  obtain⟨q,bk,m',aK,av,hq,h1,h2,h3,h4⟩:=hE _ he
  have ax:n≠q:=fun e=>hn (e▸hq)
  exact H.Xs ax h0 h1 hm h2 (.inr hb) h3
 refine⟨r.defers,r.size,fun s=>(r.env s).eM K fun m hm=>r.rR s m hm,r.rR,?_,Fr.refl _ _ _ r.fr.size,fun n p b hp=>(by cases hp),r.zf⟩
 refine⟨fun n hn=>H.iS n (B0 hn).2,fun m cs c n hm hc hr=>H.gy m cs c n (u4 hm).2 hc hr,fun n cs hn=>?_,fun n gr m sz xs hn=>?_,fun n hn hl=>?_,fun n n' hn bm=>H.inj n n' (B0 hn).2 (B0 bm).2,
  H.fI,fun b _=>.inr (.inr trivial),fun n n' gr m sz xs bk m' aK av hn bm=>H.fv n n' gr m sz xs bk m' aK av (u4 hn).2 (u4 bm).2,fun n gr sz xs hn b hb n' bm=>H.live n gr sz xs (u4 hn).2 b hb n' (B0 bm).2,?_,?_,?_⟩
 ·obtain⟨a1,a2,a3⟩:=H.box n cs (u4 hn).2
  refine⟨a1,a2,fun j c hj=>?_⟩
  obtain⟨v,b1,b2,b3⟩:=a3 j c hj
  exact⟨v,b1,b2,b3.eM K fun q hq=>H.gy n cs c q (u4 hn).2 (List.mem_of_getElem? hj) hq⟩
 ·obtain⟨hp,h0⟩:=u4 hn
  have hr:=H.row n gr m sz xs h0
  refine⟨hr.pos,hr.er,hr.nl,hr.dD,hr.room,?_⟩
  have hm:=hr.mode
  cases m with
  |aA=>exact hm
  |ab=>exact⟨fun b hb=>⟨(hm.1 b hb).1,(hm.1 b hb).2.1,(hm.1 b hb).2.2.imp id fun he=>absurd he (VS n gr .ab sz xs hp h0 (by simp) b hb)⟩,hm.2⟩
  |live=>exact⟨fun b hb=>⟨(hm.1 b hb).1,(hm.1 b hb).2.1,(hm.1 b hb).2.2.imp id fun he=>absurd he (VS n gr .live sz xs hp h0 (by simp) b hb)⟩,hm.2⟩
 ·obtain⟨hp,h0⟩:=B0 hn
  obtain⟨o1,o2,o3⟩:=H.own n h0 hl
  exact⟨o1,o2.imp id fun he=>absurd he (big n hp h0 hl),o3⟩
 ·intro i pc hi;simp at hi
 ·intro i j pc c6 b _ hi;simp at hi
 ·intro i pc n gr m sz xs b hi;simp at hi
theorem afl {m:Mode} {px:List (List PC)} (hf:sq m (px.map fun e=>e.map PC.er)=true):(m=.ab->∀b,¬aS b px)/\m≠ .aA/\(m=.live->(px.map fun e=>e.map PC.er).all (fun e=>e.all C.si)=true):=by
 cases m with
 |aA=>cases hf
 |ab=>exact⟨fun _ b=>Ci hf b,(by simp),fun h=>(by cases h)⟩
 |live=>exact⟨fun h=>(by cases h),(by simp),fun _=>hf⟩
theorem VC {fl:List (Mode×PC)} (fF:∀x∈fl,xS w0 x.1 x.2) (hg:∀x∈fl,Good w0 x.2) (r:R B (ym fl) w0 N σ a w G) {ew:List C} (ho:w9 σ 0 (fl.map fun x=>(x.1,x.2.er))=some ew)
  {i:Nat} {x:Mode×PC} (hx:fl[i]? =some x):∃q o,ew[i]? =some o/\q.er=o/\vG w x.1 x.2 q/\
   ∃gr sz xs,σ.h (aH+i)=some (.row gr x.1 sz xs)/\(∀b,aP b x.2->nJ G (aH+i) b)/\(x.1=.ab->∀b,¬aS b (G.g (aH+i)).px)/\x.1≠ .aA:=by
 obtain⟨m,pc⟩:=x
 have uC:=List.mem_of_getElem? hx
 obtain⟨o1,o2⟩:=RE ho
 obtain⟨o,e1,e2⟩:=o2 i (m,pc.er) (by rw[List.getElem?_map,hx];rfl)
 rw[Nat.zero_add] at e2
 obtain⟨sz,xs,gr,av,f1,f2,f3,f4,f5,rfl⟩:=al5 e2
 have ok:=fF _ uC
 have af4:=hg _ uC
 obtain⟨tN,a0,cap,zh,rfl,eE,nM,wk⟩:=ok.dD
 simp only[PC.dz] at f1
 injection f1 with f1a f1b
 subst f1a
 subst f1b
 have hr:=r.hr.row _ gr m tN av f2
 have wB:(ym fl).qv (aH+i)=some (o7 (.list tN a0 cap zh)):=by
  show(if aH<=aH+i then(fl[aH+i - aH]?).map (fun x=>o7 x.2) else none)=_
  rw[if_pos (Nat.le_add_right _ _),Nat.add_sub_cancel_left,hx]
  rfl
 obtain⟨p1,p2,p3,p4,p6,p5⟩:=r.qv _ _ _ wB f2
 have AD:av=(G.g (aH+i)).px.map fun e=>e.map PC.er:=hr.er
 have Ih:=f4
 simp only at Ih
 rw[AD] at Ih
 obtain⟨q1,q2,q3⟩:=afl Ih
 have hlen:(G.g (aH+i)).px.length=zh.length:=by
  have:=f3
  rw[AD] at this
  simpa using this
 have Yi:g7 (G.g (aH+i)).px:=by
  have hm:=hr.mode
  cases m with
  |aA=>exact absurd rfl q2
  |ab=>exact hm.2
  |live=>exact hm.2
 have ax:σ.h (aH+i)≠none:=by rw[f2];simp
 rcases af4.cases with rfl|⟨fx,jZ,b,o,rfl⟩
 ·have Yg:(G.g (aH+i)).px=[]:=List.eq_nil_of_length_eq_zero (by rw[hlen];rfl)
  refine⟨.list tN a0 cap [],_,e1,(by rw[PC.dz,AD,Yg]),⟨rfl,.nil _ _ _ eE,ok.sep,fun _ h=>h,?_,?_⟩,gr,tN,av,f2,fun b' aT=>?_,fun hm b' aT=>q1 hm b' aT,q2⟩
  ·simp only[PC.dz]
   rw[AD,Yg] at f4
   exact f4
  ·intro sz a cap xs aK a' sd g0 wj uv
   have uv:=wj.symm.trans uv
   injection uv with h1 h2 h3 h4
   refine⟨h1.symm,h2.symm,h3.symm,by rw[h4],fun _ k j c hk hL=>?_⟩
   injection wj with _ _ _ h5
   subst h5
   obtain⟨e,he,_⟩:=hk
   simp at he
  ·rw[aP.ka] at aT
   rcases aT with⟨aT,_⟩|⟨k,j,c,⟨e,he,_⟩,_⟩
   ·exact absurd rfl aT
   ·simp at he
 ·have sB:m=.live->∀k j c,At zh k j c->c.gk=true->∃c',At (G.g (aH+i)).px k j c'/\c'.val=c.val/\c'.gk=true:=by
   rintro rfl k j c hk hL
   rw[ze fx] at p5
   exact p5 gr tN av rfl k j c hk hL
  rw[ze fx] at p1 p2 p3 p4
  simp only at p1 p2 p3 p4
  obtain⟨l1,l2,l3⟩:=hr.dD p1
  rw[p2] at l1 l2
  rw[p3] at l2
  rw[p4] at l3
  have ags:(G.g (aH+i)).px≠[]:=by
   intro h0
   rw[h0] at hlen
   exact fx (List.eq_nil_of_length_eq_zero hlen.symm)
  have gC:Good w (.list tN (some (ad b o)) cap (G.g (aH+i)).px):=.cons _ _ _ _ _ ags l3 eE l2.1 l2.2.1 l2.2.2
  have agz:¬aS b (G.g (aH+i)).px:=by
   intro hb
   cases m with
   |aA=>exact q2 rfl
   |ab=>exact q1 rfl b hb
   |live=>exact r.hr.live _ gr tN av f2 b hb _ ax p1 p2.symm
  have afS:m=.live->∀b',aS b' (G.g (aH+i)).px->aS b' zh:=by
   rintro rfl b' aT
   refine Z2 (px':=zh) (q3 rfl) (fun k j c hk hL=>?_) aT
   rw[AD] at f5
   obtain⟨c0,II,ra⟩:=anR f5 hk
   rw[hL] at ra
   obtain⟨c1,IJ,iy,hL1⟩:=sB rfl k j c0 II ra
   rw[At.inj IJ hk] at iy
   exact⟨c0,II,iy.symm,ra⟩
  refine⟨.list tN (some (ad b o)) cap (G.g (aH+i)).px,_,e1,by rw[PC.dz,AD],⟨by simp only[PC.val,hlen],gC,.list _ _ _ _ Yi.1 (fun b1 o1 k j c he hk yy=>?_) Yi.2,fun b' aT=>?_,?_,?_⟩,gr,tN,av,f2,fun b' aT=>?_,q1,q2⟩
  ·injection he with he
   obtain⟨rfl,_⟩:=nz he
   exact agz ⟨k,j,c,hk,yy⟩
  ·rw[aP.ka] at aT
   rcases aT with⟨_,o',gh⟩|hF
   ·injection gh with gh
    rw[<-(nz gh).1]
    exact .here _ _ _ _ fx
   ·cases m with
    |aA=>exact absurd rfl q2
    |ab=>exact absurd hF (q1 rfl b')
    |live=>
     obtain⟨k,j,c,hk,hc⟩:=afS rfl b' hF
     exact .there _ _ _ _ k j c hk hc
  ·simp only[PC.dz]
   exact Ih
  ·intro sz a sd xs aK a' aoV g0 wj uv
   injection wj with h1 h2 h3 h4
   injection uv with g1 g2 g3 g4
   subst h1 h2 h3 h4 g1 g2 g3 g4
   exact⟨rfl,rfl,rfl,hlen,sB⟩
  ·rw[aP.ka] at aT
   rcases aT with⟨_,o',gh⟩|hF
   ·injection gh with gh
    exact .inl ⟨p1,by rw[p2];exact(nz gh).1.symm⟩
   ·cases m with
    |aA=>exact absurd rfl q2
    |ab=>exact absurd hF (Ci wk b')
    |live=>exact .inr (Z2 wk (sB rfl) hF)
theorem akU (hT:nu P T) (hm:P.follows .mixedOrders=true) {f:FuncId} {fn:Func} {c:Code} {mc:kY} {ms:List bG} {sig:be} {M:List Dv->Option (List Dv×List C)} (hf:P.funcs[f]? =some fn) (hb:fn.body=some c)
  (hc:iR P fn.ntmps c mc=true) (hr:mH P fn.results.toList ms=true) (hM:∀ds rs ew,M ds=some (rs,ew)->ds.length<=fn.ntmps/\KE T mc ms sig ds=some (rs,ew)):r5 P f sig M:=by
 intro ds rs ew mL w vals pas ha
 obtain⟨hN,bq⟩:=hM ds rs ew mL
 refine calls_of_wp hf hb ?_
 have r0:=R.Pq (N:=fn.ntmps) ha hN
 have fG:∀p∈pas,∀pc∈p.ps,Good w pc:=by
  intro p hp pc aZ
  obtain⟨i,hi,rfl⟩:=List.getElem_of_mem hp
  have hd:ds[i]? =some (ds[i]'(by rw[<-ha.l2];exact hi)):=List.getElem?_eq_getElem _
  have hv:vals[i]? =some (vals[i]'(by rw[ha.l1,<-ha.l2];exact hi)):=List.getElem?_eq_getElem _
  exact(ha.at_ i _ _ _ hd hv (List.getElem?_eq_getElem hi)).2.1 pc aZ
 have hg:∀x∈eg sig (pas.map (·.ps)),Good w x.2:=by
  intro x hx
  obtain⟨l,hl,pV⟩:=MX hx
  obtain⟨p,hp,rfl⟩:=List.mem_map.1 hl
  exact fG p hp _ pV
 have afX:ds.map (·.2)=(pas.map (·.ps)).map fun l=>l.map PC.er:=by
  apply List.ext_getElem?
  intro i
  simp only[List.getElem?_map]
  cases hd:ds[i]? with
  |none=>
   have:ds.length<=i:=List.getElem?_eq_none_iff.1 hd
   rw[List.getElem?_eq_none (by rw[ha.l2];exact this)]
   rfl
  |some d=>
   have hi:=(List.getElem?_eq_some_iff.1 hd).1
   have hv:vals[i]? =some (vals[i]'(by rw[ha.l1];exact hi)):=List.getElem?_eq_getElem _
   have hp:pas[i]? =some (pas[i]'(by rw[ha.l2];exact hi)):=List.getElem?_eq_getElem _
   have:=(ha.at_ i d _ _ hd hv hp).1
   rw[hp]
   simp only[Option.map_some]
   rw[this]
 unfold KE at bq
 rw[afX,Ii] at bq
 generalize jn:eg sig (pas.map (·.ps))=fl at bq r0 hg
 have fF:=ha.ok
 rw[jn] at fF
 have gB:∀{σ:St} {a:Act} {w':World} {G:Gh},σ.Ce ms (fl.map fun x=>(x.1,x.2.er))=some (rs,ew)->R w.heap.size (ym fl) w fn.ntmps σ a w' G->a.defers=[]/\∃v,(results fn a.tmps).run P w'=.ok v w'/\
   ∃aR:List (K×List PC),aR.map (fun p=>(p.1,p.2.map PC.er))=rs/\(Ending.returned v)=.returned (xi aR)/\(∀p∈aR,p.1≠ .ptr/\(p.1=.one->p.2.length=1))/\
   CW w' w.heap.size (aR.flatMap (·.2))/\Fr w.heap.size (MT fl) w w'/\
   ∃qs:List PC,qs.map PC.er=ew/\qs.length=fl.length/\∀(i:Nat) (x:Mode×PC) (q:PC),fl[i]? =some x->qs[i]? =some q->vG w' x.1 x.2 q:=by
  intro σ a w' G hx r
  unfold St.Ce at hx
  split at hx
  ·rename_i vd al6 e1 e2
   injection hx with hx
   injection hx with lz dV
   subst lz dV
   have hE:∀b,(ym fl) b->∃n gr m sz xs,aH<=n/\σ.h n=some (.row gr m sz xs)/\m≠ .aA/\nJ G n b/\(m=.ab->¬aS b (G.g n).px):=by
    rintro b ⟨x,Eb,OZ⟩
    obtain⟨i,hi⟩:=List.getElem?_of_mem Eb
    obtain⟨q,o,_,_,_,gr,sz,xs,k1,k2,k3,k4⟩:=VC fF hg r e2 hi
    exact⟨aH+i,gr,x.1,sz,xs,Nat.le_add_right _ _,k1,k4,k2 b OZ,fun hm=>k3 hm b⟩
   obtain⟨aR,p1,p2,p3,p4⟩:=aba (r.jw hE) hr e1
   obtain⟨ol,_⟩:=RE e2
   have hq:∀i:Fin fl.length,∃q,al6[i.1]? =some (PC.er q)/\vG w' (fl[i.1]).1 (fl[i.1]).2 q:=by
    intro i
    obtain⟨q,o,k1,k2,k3,_⟩:=VC fF hg r e2 (List.getElem?_eq_getElem i.2)
    exact⟨q,by rw[k1,k2],k3⟩
   refine⟨r.defers,_,p2,aR,p1,rfl,p3,p4,⟨r.fr.os,r.fr.tape,r.fr.output,r.fr.size,r.fr.block,r.fr.kg⟩,List.ofFn fun i=>Classical.choose (hq i),?_,by simp,fun i x q hi oQ=>?_⟩
   ·apply List.ext_getElem?
    intro i
    simp only[List.getElem?_map]
    by_cases hi:i<fl.length
    ·rw[List.getElem?_ofFn,dif_pos hi]
     exact(Classical.choose_spec (hq ⟨i,hi⟩)).1.symm
    ·rw[List.getElem?_eq_none (by simp;omega),List.getElem?_eq_none (by rw[ol];simp;omega)]
     rfl
   ·obtain⟨hl,e⟩:=List.getElem?_eq_some_iff.1 hi
    rw[List.getElem?_ofFn,dif_pos hl] at oQ
    injection oQ with oQ
    subst oQ
    subst e
    exact(Classical.choose_spec (hq ⟨i,hl⟩)).2
  ·cases hx
 split at bq
 ·rename_i σ e
  exact lk hT hm mc hc e r0 fun a w' G r=>gB bq r
 ·rename_i σ e
  exact lk hT hm mc hc e r0 fun a w' G r=>gB bq r
 ·cases bq
end
end Go.Am
