/- Am30: functions that change lists of their arguments: the end of a call. No condition. -/
import Derived.Test.YthildlkhnnogiaaAm29
set_option linter.unusedVariables false
namespace Go.Am
section
variable {B:Nat} {E:Ex} {w0 w w':World} {G G':Gh} {N:Nat} {h h':Nat->Option aj} {used:Nat->Bool}
variable {P:Program} {T:aF} {a:Act} {σ σ':St} {Q:Exit->Act->World->Prop}
theorem vS {n:Nat} {b:aj} (hn:σ.jA.h n=some b):¬aJ<=n/\σ.h n=some b:=by
 unfold St.jA at hn
 simp only at hn
 split at hn
 ·cases hn
 ·rename_i h;exact⟨h,hn⟩
theorem Cw {n:Nat} (hn:σ.jA.h n≠none):¬aJ<=n/\σ.h n≠none:=by
 cases h:σ.jA.h n with
 |none=>exact absurd h hn
 |some b=>obtain⟨a,e⟩:=vS h;exact⟨a,by rw[e];simp⟩
theorem aR.jA (u:Nat->Prop):aR w G σ.h u w G σ.jA.h:=
 ⟨fun _ h=>h,fun _ _ _=>rfl,fun n _ hn=>⟨(Cw hn).2,rfl,rfl,rfl,rfl,rfl⟩,fun n gr sz xs _ hn=>⟨⟨gr,xs,(vS hn).2⟩,fun k j pc h1 h2=>⟨pc,h1,rfl,h2⟩⟩⟩
theorem R.jA (r:R B E w0 N σ a w G) (hE:∀b,E b->∃n gr m sz xs,aJ<=n/\σ.h n=some (.row gr m sz xs)/\m≠ .aG/\nb G n b/\(m=.af->¬aP b (G.g n).px)):
  R B Ex.no w N σ.jA a w G:=by
 have H:=r.hr
 have K:aR w G σ.h (fun n=>σ.used n=true) w G σ.jA.h:=aR.jA _
 have big:∀n,¬aJ<=n->σ.h n≠none->(G.g n).nl=false->¬E (G.g n).b:=by
  intro n hn h0 hl hb
  obtain⟨q,gr,m,sz,xs,hq,h1,h2,h3,h4⟩:=hE _ hb
  have av:n≠q:=fun e=>hn (e▸hq)
  have jM:σ.h q≠none:=by rw[h1];simp
  rcases h3 with⟨l,e⟩|h3
  ·exact H.inj n q h0 jM av hl l e
  ·cases m with
   |aG=>exact h2 rfl
   |af=>exact h4 rfl h3
   |live=>exact H.live q gr sz xs h1 _ h3 n h0 hl rfl
 have Vt:∀n gr m sz xs,¬aJ<=n->σ.h n=some (.row gr m sz xs)->m≠ .aG->∀b,aP b (G.g n).px->¬E b:=by
  intro n gr m sz xs hn h0 hm b hb he
  obtain⟨q,aW,m',ax,ak,hq,h1,h2,h3,h4⟩:=hE _ he
  have av:n≠q:=fun e=>hn (e▸hq)
  exact H.W8 av h0 h1 hm h2 (.inr hb) h3
 refine⟨r.defers,r.size,fun s=>(r.env s).eJ K fun m hm=>r.nO s m hm,r.nO,?_,Fr.refl _ _ _ r.fr.size,fun n p b hp=>(by cases hp),r.t8⟩
 refine⟨fun n hn=>H.gT n (Cw hn).2,fun m cs c n hm hc hr=>H.gd m cs c n (vS hm).2 hc hr,fun n cs hn=>?_,fun n gr m sz xs hn=>?_,fun n hn hl=>?_,fun n n' hn bh=>H.inj n n' (Cw hn).2 (Cw bh).2,
  H.e7,fun b _=>.inr (.inr trivial),fun n n' gr m sz xs aW m' ax ak hn bh=>H.eV n n' gr m sz xs aW m' ax ak (vS hn).2 (vS bh).2,fun n gr sz xs hn b hb n' bh=>H.live n gr sz xs (vS hn).2 b hb n' (Cw bh).2,?_,?_,?_⟩
 ·obtain⟨a1,a2,a3⟩:=H.box n cs (vS hn).2
  refine⟨a1,a2,fun j c hj=>?_⟩
  obtain⟨v,b1,b2,b3⟩:=a3 j c hj
  exact⟨v,b1,b2,b3.eJ K fun q hq=>H.gd n cs c q (vS hn).2 (List.mem_of_getElem? hj) hq⟩
 ·obtain⟨hp,h0⟩:=vS hn
  have hr:=H.row n gr m sz xs h0
  refine⟨hr.pos,hr.er,hr.nl,hr.cZ,hr.room,?_,hr.nr⟩
  have hm:=hr.mode
  cases m with
  |aG=>exact hm
  |af=>exact⟨fun b hb=>⟨(hm.1 b hb).1,(hm.1 b hb).2.1,(hm.1 b hb).2.2.imp id fun he=>absurd he (Vt n gr .af sz xs hp h0 (by simp) b hb)⟩,hm.2⟩
  |live=>exact⟨fun b hb=>⟨(hm.1 b hb).1,(hm.1 b hb).2.1,(hm.1 b hb).2.2.imp id fun he=>absurd he (Vt n gr .live sz xs hp h0 (by simp) b hb)⟩,hm.2⟩
 ·obtain⟨hp,h0⟩:=Cw hn
  obtain⟨o1,o2,o3⟩:=H.own n h0 hl
  exact⟨o1,o2.imp id fun he=>absurd he (big n hp h0 hl),o3⟩
 ·intro i pc hi;simp at hi
 ·intro i j pc cm b _ hi;simp at hi
 ·intro i pc n gr m sz xs b hi;simp at hi
theorem aeZ {m:Mode} {px:List (List PC)} (hf:th m (px.map fun e=>e.map PC.er)=true):(m=.af->∀b,¬aP b px)/\m≠ .aG/\(m=.live->(px.map fun e=>e.map PC.er).all (fun e=>e.all C.td)=true):=by
 cases m with
 |aG=>cases hf
 |af=>exact⟨fun _ b=>uf hf b,(by simp),fun h=>(by cases h)⟩
 |live=>exact⟨fun h=>(by cases h),(by simp),fun _=>hf⟩
theorem Vf {fl:List (Mode×PC)} (eG:∀x∈fl,yI w0 x.1 x.2) (hg:∀x∈fl,Good w0 x.2) (r:R B (y8 fl) w0 N σ a w G) {cM:List C} (ho:xQ σ 0 (fl.map fun x=>(x.1,x.2.er))=some cM)
  {i:Nat} {x:Mode×PC} (hx:fl[i]? =some x):∃q o,cM[i]? =some o/\q.er=o/\sR w x.1 x.2 q/\
   ∃gr sz xs,σ.h (aJ+i)=some (.row gr x.1 sz xs)/\(∀b,aK b x.2->nb G (aJ+i) b)/\(x.1=.af->∀b,¬aP b (G.g (aJ+i)).px)/\x.1≠ .aG:=by
 obtain⟨m,pc⟩:=x
 have qJ:=List.mem_of_getElem? hx
 obtain⟨o1,o2⟩:=Q8 ho
 obtain⟨o,e1,e2⟩:=o2 i (m,pc.er) (by rw[List.getElem?_map,hx];rfl)
 rw[Nat.zero_add] at e2
 obtain⟨sz,xs,gr,ak,f1,f2,f3,f4,f5,rfl⟩:=aj2 e2
 have ok:=eG _ qJ
 have afI:=hg _ qJ
 obtain⟨rq,a0,cap,vW,rfl,dQ,ly,vb⟩:=ok.cZ
 simp only[PC.cN] at f1
 injection f1 with f1a f1b
 subst f1a
 subst f1b
 have hr:=r.hr.row _ gr m rq ak f2
 have np:(y8 fl).nF (aJ+i)=some (oI (.list rq a0 cap vW)):=by
  show(if aJ<=aJ+i then(fl[aJ+i - aJ]?).map (fun x=>oI x.2) else none)=_
  rw[if_pos (Nat.le_add_right _ _),Nat.add_sub_cancel_left,hx]
  rfl
 obtain⟨p1,p2,p3,p4,p6,p5⟩:=r.nF _ _ _ np f2
 have BU:ak=(G.g (aJ+i)).px.map fun e=>e.map PC.er:=hr.er
 have IE:=f4
 simp only at IE
 rw[BU] at IE
 obtain⟨q1,q2,q3⟩:=aeZ IE
 have hlen:(G.g (aJ+i)).px.length=vW.length:=by
  have:=f3
  rw[BU] at this
  simpa using this
 have XW:gF (G.g (aJ+i)).px:=by
  have hm:=hr.mode
  cases m with
  |aG=>exact absurd rfl q2
  |af=>exact hm.2
  |live=>exact hm.2
 have av:σ.h (aJ+i)≠none:=by rw[f2];simp
 rcases afI.cases with rfl|⟨dC,gh,b,o,rfl⟩
 ·have XU:(G.g (aJ+i)).px=[]:=List.eq_nil_of_length_eq_zero (by rw[hlen];rfl)
  refine⟨.list rq a0 cap [],_,e1,(by rw[PC.cN,BU,XU]),⟨rfl,.nil _ _ _ dQ,ok.sep,fun _ h=>h,?_,?_⟩,gr,rq,ak,f2,fun b' aE=>?_,fun hm b' aE=>q1 hm b' aE,q2⟩
  ·simp only[PC.cN]
   rw[BU,XU] at f4
   exact f4
  ·intro sz a cap xs ax a' nY eT w6 rR
   have rR:=w6.symm.trans rR
   injection rR with h1 h2 h3 h4
   refine⟨h1.symm,h2.symm,h3.symm,by rw[h4],fun _ k j c hk hL=>?_⟩
   injection w6 with _ _ _ h5
   subst h5
   obtain⟨e,he,_⟩:=hk
   simp at he
  ·rw[aK.jw] at aE
   rcases aE with⟨aE,_⟩|⟨k,j,c,⟨e,he,_⟩,_⟩
   ·exact absurd rfl aE
   ·simp at he
 ·have tt:m=.live->∀k j c,At vW k j c->c.f6=true->∃c',At (G.g (aJ+i)).px k j c'/\c'.val=c.val/\c'.f6=true:=by
   rintro rfl k j c hk hL
   rw[xT dC] at p5
   exact p5 gr rq ak rfl k j c hk hL
  rw[xT dC] at p1 p2 p3 p4
  simp only at p1 p2 p3 p4
  obtain⟨l1,l2,l3⟩:=hr.cZ p1
  rw[p2] at l1 l2
  rw[p3] at l2
  rw[p4] at l3
  have aga:(G.g (aJ+i)).px≠[]:=by
   intro h0
   rw[h0] at hlen
   exact dC (List.eq_nil_of_length_eq_zero hlen.symm)
  have eQ:Good w (.list rq (some (ad b o)) cap (G.g (aJ+i)).px):=.cons _ _ _ _ _ aga l3 dQ l2.1 l2.2.1 l2.2.2
  have agi:¬aP b (G.g (aJ+i)).px:=by
   intro hb
   cases m with
   |aG=>exact q2 rfl
   |af=>exact q1 rfl b hb
   |live=>exact r.hr.live _ gr rq ak f2 b hb _ av p1 p2.symm
  have afr:m=.live->∀b',aP b' (G.g (aJ+i)).px->aP b' vW:=by
   rintro rfl b' aE
   refine Y0 (px':=vW) (q3 rfl) (fun k j c hk hL=>?_) aE
   rw[BU] at f5
   obtain⟨c0,XK,pk⟩:=alS f5 hk
   rw[hL] at pk
   obtain⟨c1,I6,iH,hL1⟩:=tt rfl k j c0 XK pk
   rw[At.inj I6 hk] at iH
   exact⟨c0,XK,iH.symm,pk⟩
  refine⟨.list rq (some (ad b o)) cap (G.g (aJ+i)).px,_,e1,by rw[PC.cN,BU],⟨by simp only[PC.val,hlen],eQ,.list _ _ _ _ XW.1 (fun b1 o1 k j c he hk zm=>?_) XW.2,fun b' aE=>?_,?_,?_⟩,gr,rq,ak,f2,fun b' aE=>?_,q1,q2⟩
  ·injection he with he
   obtain⟨rfl,_⟩:=jF he
   exact agi ⟨k,j,c,hk,zm⟩
  ·rw[aK.jw] at aE
   rcases aE with⟨_,o',ek⟩|hF
   ·injection ek with ek
    rw[<-(jF ek).1]
    exact .here _ _ _ _ dC
   ·cases m with
    |aG=>exact absurd rfl q2
    |af=>exact absurd hF (q1 rfl b')
    |live=>
     obtain⟨k,j,c,hk,hc⟩:=afr rfl b' hF
     exact .there _ _ _ _ k j c hk hc
  ·simp only[PC.cN]
   exact IE
  ·intro sz a nY xs ax a' am6 eT w6 rR
   injection w6 with h1 h2 h3 h4
   injection rR with g1 g2 g3 g4
   subst h1 h2 h3 h4 g1 g2 g3 g4
   exact⟨rfl,rfl,rfl,hlen,tt⟩
  ·rw[aK.jw] at aE
   rcases aE with⟨_,o',ek⟩|hF
   ·injection ek with ek
    exact .inl ⟨p1,by rw[p2];exact(jF ek).1.symm⟩
   ·cases m with
    |aG=>exact absurd rfl q2
    |af=>exact absurd hF (uf vb b')
    |live=>exact .inr (Y0 vb (tt rfl) hF)
theorem aiQ (hT:jn P T) (hm:P.follows .mixedOrders=true) {f:FuncId} {fn:Func} {c:Code} {mc:kR} {ms:List bN} {sig:aN} {M:List Dv->Option (List Dv×List C)} (hf:P.funcs[f]? =some fn) (hb:fn.body=some c)
  (hc:ic P fn.ntmps c mc=true) (hr:m6 P fn.results.toList ms=true) (hM:∀ds rs cM,M ds=some (rs,cM)->ds.length<=fn.ntmps/\Kg T mc ms sig ds=some (rs,cM)):nQ P f sig M:=by
 intro ds rs cM iC w vals pas ha
 obtain⟨hN,aS⟩:=hM ds rs cM iC
 refine calls_of_wp hf hb ?_
 have r0:=R.Pm (N:=fn.ntmps) ha hN
 have fc:∀p∈pas,∀pc∈p.ps,Good w pc:=by
  intro p hp pc aT
  obtain⟨i,hi,rfl⟩:=List.getElem_of_mem hp
  have hd:ds[i]? =some (ds[i]'(by rw[<-ha.l2];exact hi)):=List.getElem?_eq_getElem _
  have hv:vals[i]? =some (vals[i]'(by rw[ha.l1,<-ha.l2];exact hi)):=List.getElem?_eq_getElem _
  exact(ha.at_ i _ _ _ hd hv (List.getElem?_eq_getElem hi)).2.1 pc aT
 have hg:∀x∈dE sig (pas.map (·.ps)),Good w x.2:=by
  intro x hx
  obtain⟨l,hl,nq⟩:=M1 hx
  obtain⟨p,hp,rfl⟩:=List.mem_map.1 hl
  exact fc p hp _ nq
 have afA:ds.map (·.2)=(pas.map (·.ps)).map fun l=>l.map PC.er:=by
  apply List.ext_getElem?
  intro i
  simp only[List.getElem?_map]
  cases hd:ds[i]? with
  |none=>
   have:ds.length<=i:=List.getElem?_eq_none_iff.1 hd
   rw[List.getElem?_eq_none (by rw[ha.l2];exact this)]
   rfl
  |some d=>
   have hi:=(List.getElem?_eq_some_iff.1 hd).1
   have hv:vals[i]? =some (vals[i]'(by rw[ha.l1];exact hi)):=List.getElem?_eq_getElem _
   have hp:pas[i]? =some (pas[i]'(by rw[ha.l2];exact hi)):=List.getElem?_eq_getElem _
   have:=(ha.at_ i d _ _ hd hv hp).1
   rw[hp]
   simp only[Option.map_some]
   rw[this]
 unfold Kg at aS
 rw[afA,IF] at aS
 generalize gV:dE sig (pas.map (·.ps))=fl at aS r0 hg
 have eG:=ha.ok
 rw[gV] at eG
 have gv:∀{σ:St} {a:Act} {w':World} {G:Gh},σ.CN ms (fl.map fun x=>(x.1,x.2.er))=some (rs,cM)->R w.heap.size (y8 fl) w fn.ntmps σ a w' G->a.defers=[]/\∃v,(results fn a.tmps).run P w'=.ok v w'/\
   ∃aU:List (K×List PC),aU.map (fun p=>(p.1,p.2.map PC.er))=rs/\(Ending.returned v)=.returned (v5 aU)/\(∀p∈aU,p.1≠ .ptr/\(p.1=.one->p.2.length=1))/\
   yM w' w.heap.size (aU.flatMap (·.2))/\Fr w.heap.size (BA fl) w w'/\
   ∃qs:List PC,qs.map PC.er=cM/\qs.length=fl.length/\∀(i:Nat) (x:Mode×PC) (q:PC),fl[i]? =some x->qs[i]? =some q->sR w' x.1 x.2 q:=by
  intro σ a w' G hx r
  unfold St.CN at hx
  split at hx
  ·rename_i kJ aj3 e1 e2
   injection hx with hx
   injection hx with jr dh
   subst jr dh
   have hE:∀b,(y8 fl) b->∃n gr m sz xs,aJ<=n/\σ.h n=some (.row gr m sz xs)/\m≠ .aG/\nb G n b/\(m=.af->¬aP b (G.g n).px):=by
    rintro b ⟨x,vu,B7⟩
    obtain⟨i,hi⟩:=List.getElem?_of_mem vu
    obtain⟨q,o,_,_,_,gr,sz,xs,k1,k2,k3,k4⟩:=Vf eG hg r e2 hi
    exact⟨aJ+i,gr,x.1,sz,xs,Nat.le_add_right _ _,k1,k4,k2 b B7,fun hm=>k3 hm b⟩
   obtain⟨aU,p1,p2,p3,p4⟩:=Z8 (r.jA hE) hr e1
   obtain⟨ol,_⟩:=Q8 e2
   have hq:∀i:Fin fl.length,∃q,aj3[i.1]? =some (PC.er q)/\sR w' (fl[i.1]).1 (fl[i.1]).2 q:=by
    intro i
    obtain⟨q,o,k1,k2,k3,_⟩:=Vf eG hg r e2 (List.getElem?_eq_getElem i.2)
    exact⟨q,by rw[k1,k2],k3⟩
   refine⟨r.defers,_,p2,aU,p1,rfl,p3,p4,⟨r.fr.os,r.fr.tape,r.fr.output,r.fr.size,r.fr.block,r.fr.iT⟩,List.ofFn fun i=>Classical.choose (hq i),?_,by simp,fun i x q hi mz=>?_⟩
   ·apply List.ext_getElem?
    intro i
    simp only[List.getElem?_map]
    by_cases hi:i<fl.length
    ·rw[List.getElem?_ofFn,dif_pos hi]
     exact(Classical.choose_spec (hq ⟨i,hi⟩)).1.symm
    ·rw[List.getElem?_eq_none (by simp;omega),List.getElem?_eq_none (by rw[ol];simp;omega)]
     rfl
   ·obtain⟨hl,e⟩:=List.getElem?_eq_some_iff.1 hi
    rw[List.getElem?_ofFn,dif_pos hl] at mz
    injection mz with mz
    subst mz
    subst e
    exact(Classical.choose_spec (hq ⟨i,hl⟩)).2
  ·cases hx
 split at aS
 ·rename_i σ e
  exact kZ hT hm mc hc e r0 fun a w' G r=>gv aS r
 ·rename_i σ e
  exact kZ hT hm mc hc e r0 fun a w' G r=>gv aS r
 ·cases aS
end
end Go.Am
