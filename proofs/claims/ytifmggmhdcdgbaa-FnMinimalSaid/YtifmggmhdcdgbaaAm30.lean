/- Am30: functions that change lists of their arguments: the end of a call. No condition. -/
import Derived.Test.YtifmggmhdcdgbaaAm29
set_option linter.unusedVariables false
namespace Go.Am
section
variable {B:Nat} {E:Ex} {w0 w w':World} {G G':Gh} {N:Nat} {h h':Nat->Option aq} {used:Nat->Bool}
variable {P:Program} {T:bg} {a:Act} {σ σ':St} {Q:Exit->Act->World->Prop}
theorem tW {n:Nat} {b:aq} (hn:σ.ja.h n=some b):¬aF<=n/\σ.h n=some b:=by
 unfold St.ja at hn
 simp only at hn
 split at hn
 ·cases hn
 ·rename_i h;exact⟨h,hn⟩
theorem AV {n:Nat} (hn:σ.ja.h n≠none):¬aF<=n/\σ.h n≠none:=by
 cases h:σ.ja.h n with
 |none=>exact absurd h hn
 |some b=>obtain⟨a,e⟩:=tW h;exact⟨a,by rw[e];simp⟩
theorem aT.ja (u:Nat->Prop):aT w G σ.h u w G σ.ja.h:=
 ⟨fun _ h=>h,fun _ _ _=>rfl,fun n _ hn=>⟨(AV hn).2,rfl,rfl,rfl,rfl,rfl⟩,fun n gr sz xs _ hn=>⟨⟨gr,xs,(tW hn).2⟩,fun k j pc h1 h2=>⟨pc,h1,rfl,h2⟩⟩⟩
theorem R.ja (r:R B E w0 N σ a w G) (hE:∀b,E b->∃n gr m sz xs,aF<=n/\σ.h n=some (.row gr m sz xs)/\m≠ .aA/\nj G n b/\(m=.ae->¬aP b (G.g n).px)):
  R B Ex.no w N σ.ja a w G:=by
 have H:=r.hr
 have K:aT w G σ.h (fun n=>σ.used n=true) w G σ.ja.h:=aT.ja _
 have big:∀n,¬aF<=n->σ.h n≠none->(G.g n).nl=false->¬E (G.g n).b:=by
  intro n hn h0 hl hb
  obtain⟨q,gr,m,sz,xs,hq,h1,h2,h3,h4⟩:=hE _ hb
  have aw:n≠q:=fun e=>hn (e▸hq)
  have mK:σ.h q≠none:=by rw[h1];simp
  rcases h3 with⟨l,e⟩|h3
  ·exact H.inj n q h0 mK aw hl l e
  ·cases m with
   |aA=>exact h2 rfl
   |ae=>exact h4 rfl h3
   |live=>exact H.live q gr sz xs h1 _ h3 n h0 hl rfl
 have Tp:∀n gr m sz xs,¬aF<=n->σ.h n=some (.row gr m sz xs)->m≠ .aA->∀b,aP b (G.g n).px->¬E b:=by
  intro n gr m sz xs hn h0 hm b hb he
  obtain⟨q,bh,m',aG,ar,hq,h1,h2,h3,h4⟩:=hE _ he
  have aw:n≠q:=fun e=>hn (e▸hq)
  exact H.UU aw h0 h1 hm h2 (.inr hb) h3
 refine⟨r.defers,r.size,fun s=>(r.env s).eI K fun m hm=>r.rf s m hm,r.rf,?_,Fr.refl _ _ _ r.fr.size,fun n p b hp=>(by cases hp),r.yr⟩
 refine⟨fun n hn=>H.iA n (AV hn).2,fun m cs c n hm hc hr=>H.gi m cs c n (tW hm).2 hc hr,fun n cs hn=>?_,fun n gr m sz xs hn=>?_,fun n hn hl=>?_,fun n n' hn bk=>H.inj n n' (AV hn).2 (AV bk).2,
  H.fx,fun b _=>.inr (.inr trivial),fun n n' gr m sz xs bh m' aG ar hn bk=>H.fi n n' gr m sz xs bh m' aG ar (tW hn).2 (tW bk).2,fun n gr sz xs hn b hb n' bk=>H.live n gr sz xs (tW hn).2 b hb n' (AV bk).2,?_,?_,?_⟩
 ·obtain⟨a1,a2,a3⟩:=H.box n cs (tW hn).2
  refine⟨a1,a2,fun j c hj=>?_⟩
  obtain⟨v,b1,b2,b3⟩:=a3 j c hj
  exact⟨v,b1,b2,b3.eI K fun q hq=>H.gi n cs c q (tW hn).2 (List.mem_of_getElem? hj) hq⟩
 ·obtain⟨hp,h0⟩:=tW hn
  have hr:=H.row n gr m sz xs h0
  refine⟨hr.pos,hr.er,hr.nl,hr.dB,hr.room,?_⟩
  have hm:=hr.mode
  cases m with
  |aA=>exact hm
  |ae=>exact⟨fun b hb=>⟨(hm.1 b hb).1,(hm.1 b hb).2.1,(hm.1 b hb).2.2.imp id fun he=>absurd he (Tp n gr .ae sz xs hp h0 (by simp) b hb)⟩,hm.2⟩
  |live=>exact⟨fun b hb=>⟨(hm.1 b hb).1,(hm.1 b hb).2.1,(hm.1 b hb).2.2.imp id fun he=>absurd he (Tp n gr .live sz xs hp h0 (by simp) b hb)⟩,hm.2⟩
 ·obtain⟨hp,h0⟩:=AV hn
  obtain⟨o1,o2,o3⟩:=H.own n h0 hl
  exact⟨o1,o2.imp id fun he=>absurd he (big n hp h0 hl),o3⟩
 ·intro i pc hi;simp at hi
 ·intro i j pc c8 b _ hi;simp at hi
 ·intro i pc n gr m sz xs b hi;simp at hi
theorem acy {m:Mode} {px:List (List PC)} (hf:rJ m (px.map fun e=>e.map PC.er)=true):(m=.ae->∀b,¬aP b px)/\m≠ .aA/\(m=.live->(px.map fun e=>e.map PC.er).all (fun e=>e.all C.rE)=true):=by
 cases m with
 |aA=>cases hf
 |ae=>exact⟨fun _ b=>Bf hf b,(by simp),fun h=>(by cases h)⟩
 |live=>exact⟨fun h=>(by cases h),(by simp),fun _=>hf⟩
theorem S5 {fl:List (Mode×PC)} (eF:∀x∈fl,wM w0 x.1 x.2) (hg:∀x∈fl,Good w0 x.2) (r:R B (xg fl) w0 N σ a w G) {d7:List C} (ho:vQ σ 0 (fl.map fun x=>(x.1,x.2.er))=some d7)
  {i:Nat} {x:Mode×PC} (hx:fl[i]? =some x):∃q o,d7[i]? =some o/\q.er=o/\uz w x.1 x.2 q/\
   ∃gr sz xs,σ.h (aF+i)=some (.row gr x.1 sz xs)/\(∀b,aM b x.2->nj G (aF+i) b)/\(x.1=.ae->∀b,¬aP b (G.g (aF+i)).px)/\x.1≠ .aA:=by
 obtain⟨m,pc⟩:=x
 have tv:=List.mem_of_getElem? hx
 obtain⟨o1,o2⟩:=Pr ho
 obtain⟨o,e1,e2⟩:=o2 i (m,pc.er) (by rw[List.getElem?_map,hx];rfl)
 rw[Nat.zero_add] at e2
 obtain⟨sz,xs,gr,ar,f1,f2,f3,f4,f5,rfl⟩:=aij e2
 have ok:=eF _ tv
 have adf:=hg _ tv
 obtain⟨sK,a0,cap,yu,rfl,eu,nq,u5⟩:=ok.dB
 simp only[PC.dr] at f1
 injection f1 with f1a f1b
 subst f1a
 subst f1b
 have hr:=r.hr.row _ gr m sK ar f2
 have vf:(xg fl).pK (aF+i)=some (oD (.list sK a0 cap yu)):=by
  show(if aF<=aF+i then(fl[aF+i - aF]?).map (fun x=>oD x.2) else none)=_
  rw[if_pos (Nat.le_add_right _ _),Nat.add_sub_cancel_left,hx]
  rfl
 obtain⟨p1,p2,p3,p4,p6,p5⟩:=r.pK _ _ _ vf f2
 have zJ:ar=(G.g (aF+i)).px.map fun e=>e.map PC.er:=hr.er
 have Gx:=f4
 simp only at Gx
 rw[zJ] at Gx
 obtain⟨q1,q2,q3⟩:=acy Gx
 have hlen:(G.g (aF+i)).px.length=yu.length:=by
  have:=f3
  rw[zJ] at this
  simpa using this
 have VL:gS (G.g (aF+i)).px:=by
  have hm:=hr.mode
  cases m with
  |aA=>exact absurd rfl q2
  |ae=>exact hm.2
  |live=>exact hm.2
 have aw:σ.h (aF+i)≠none:=by rw[f2];simp
 rcases adf.cases with rfl|⟨fj,jL,b,o,rfl⟩
 ·have VJ:(G.g (aF+i)).px=[]:=List.eq_nil_of_length_eq_zero (by rw[hlen];rfl)
  refine⟨.list sK a0 cap [],_,e1,(by rw[PC.dr,zJ,VJ]),⟨rfl,.nil _ _ _ eu,ok.sep,fun _ h=>h,?_,?_⟩,gr,sK,ar,f2,fun b' aR=>?_,fun hm b' aR=>q1 hm b' aR,q2⟩
  ·simp only[PC.dr]
   rw[zJ,VJ] at f4
   exact f4
  ·intro sz a cap xs aG a' rB gR u4 tp
   have tp:=u4.symm.trans tp
   injection tp with h1 h2 h3 h4
   refine⟨h1.symm,h2.symm,h3.symm,by rw[h4],fun _ k j c hk hL=>?_⟩
   injection u4 with _ _ _ h5
   subst h5
   obtain⟨e,he,_⟩:=hk
   simp at he
  ·rw[aM.jZ] at aR
   rcases aR with⟨aR,_⟩|⟨k,j,c,⟨e,he,_⟩,_⟩
   ·exact absurd rfl aR
   ·simp at he
 ·have rT:m=.live->∀k j c,At yu k j c->c.f7=true->∃c',At (G.g (aF+i)).px k j c'/\c'.val=c.val/\c'.f7=true:=by
   rintro rfl k j c hk hL
   rw[yq fj] at p5
   exact p5 gr sK ar rfl k j c hk hL
  rw[yq fj] at p1 p2 p3 p4
  simp only at p1 p2 p3 p4
  obtain⟨l1,l2,l3⟩:=hr.dB p1
  rw[p2] at l1 l2
  rw[p3] at l2
  rw[p4] at l3
  have adD:(G.g (aF+i)).px≠[]:=by
   intro h0
   rw[h0] at hlen
   exact fj (List.eq_nil_of_length_eq_zero hlen.symm)
  have gp:Good w (.list sK (some (ad b o)) cap (G.g (aF+i)).px):=.cons _ _ _ _ _ adD l3 eu l2.1 l2.2.1 l2.2.2
  have adJ:¬aP b (G.g (aF+i)).px:=by
   intro hb
   cases m with
   |aA=>exact q2 rfl
   |ae=>exact q1 rfl b hb
   |live=>exact r.hr.live _ gr sK ar f2 b hb _ aw p1 p2.symm
  have ac0:m=.live->∀b',aP b' (G.g (aF+i)).px->aP b' yu:=by
   rintro rfl b' aR
   refine Xv (px':=yu) (q3 rfl) (fun k j c hk hL=>?_) aR
   rw[zJ] at f5
   obtain⟨c0,rQ,qx⟩:=aj2 f5 hk
   rw[hL] at qx
   obtain⟨c1,GZ,ie,hL1⟩:=rT rfl k j c0 rQ qx
   rw[At.inj GZ hk] at ie
   exact⟨c0,rQ,ie.symm,qx⟩
  refine⟨.list sK (some (ad b o)) cap (G.g (aF+i)).px,_,e1,by rw[PC.dr,zJ],⟨by simp only[PC.val,hlen],gp,.list _ _ _ _ VL.1 (fun b1 o1 k j c he hk GQ=>?_) VL.2,fun b' aR=>?_,?_,?_⟩,gr,sK,ar,f2,fun b' aR=>?_,q1,q2⟩
  ·injection he with he
   obtain⟨rfl,_⟩:=nb he
   exact adJ ⟨k,j,c,hk,GQ⟩
  ·rw[aM.jZ] at aR
   rcases aR with⟨_,o',fY⟩|hF
   ·injection fY with fY
    rw[<-(nb fY).1]
    exact .here _ _ _ _ fj
   ·cases m with
    |aA=>exact absurd rfl q2
    |ae=>exact absurd hF (q1 rfl b')
    |live=>
     obtain⟨k,j,c,hk,hc⟩:=ac0 rfl b' hF
     exact .there _ _ _ _ k j c hk hc
  ·simp only[PC.dr]
   exact Gx
  ·intro sz a rB xs aG a' als gR u4 tp
   injection u4 with h1 h2 h3 h4
   injection tp with g1 g2 g3 g4
   subst h1 h2 h3 h4 g1 g2 g3 g4
   exact⟨rfl,rfl,rfl,hlen,rT⟩
  ·rw[aM.jZ] at aR
   rcases aR with⟨_,o',fY⟩|hF
   ·injection fY with fY
    exact .inl ⟨p1,by rw[p2];exact(nb fY).1.symm⟩
   ·cases m with
    |aA=>exact absurd rfl q2
    |ae=>exact absurd hF (Bf u5 b')
    |live=>exact .inr (Xv u5 (rT rfl) hF)
theorem ahk (hT:m7 P T) (hm:P.follows .mixedOrders=true) {f:FuncId} {fn:Func} {c:Code} {mc:kN} {ms:List bV} {sig:bo} {M:List Dv->Option (List Dv×List C)} (hf:P.funcs[f]? =some fn) (hb:fn.body=some c)
  (hc:iz P fn.ntmps c mc=true) (hr:mw P fn.results.toList ms=true) (hM:∀ds rs d7,M ds=some (rs,d7)->ds.length<=fn.ntmps/\Is T mc ms sig ds=some (rs,d7)):uA P f sig M:=by
 intro ds rs d7 mE w vals pas ha
 obtain⟨hN,bK⟩:=hM ds rs d7 mE
 refine calls_of_wp hf hb ?_
 have r0:=R.Nc (N:=fn.ntmps) ha hN
 have fv:∀p∈pas,∀pc∈p.ps,Good w pc:=by
  intro p hp pc aV
  obtain⟨i,hi,rfl⟩:=List.getElem_of_mem hp
  have hd:ds[i]? =some (ds[i]'(by rw[<-ha.l2];exact hi)):=List.getElem?_eq_getElem _
  have hv:vals[i]? =some (vals[i]'(by rw[ha.l1,<-ha.l2];exact hi)):=List.getElem?_eq_getElem _
  exact(ha.at_ i _ _ _ hd hv (List.getElem?_eq_getElem hi)).2.1 pc aV
 have hg:∀x∈dW sig (pas.map (·.ps)),Good w x.2:=by
  intro x hx
  obtain⟨l,hl,pt⟩:=KE hx
  obtain⟨p,hp,rfl⟩:=List.mem_map.1 hl
  exact fv p hp _ pt
 have ac6:ds.map (·.2)=(pas.map (·.ps)).map fun l=>l.map PC.er:=by
  apply List.ext_getElem?
  intro i
  simp only[List.getElem?_map]
  cases hd:ds[i]? with
  |none=>
   have:ds.length<=i:=List.getElem?_eq_none_iff.1 hd
   rw[List.getElem?_eq_none (by rw[ha.l2];exact this)]
   rfl
  |some d=>
   have hi:=(List.getElem?_eq_some_iff.1 hd).1
   have hv:vals[i]? =some (vals[i]'(by rw[ha.l1];exact hi)):=List.getElem?_eq_getElem _
   have hp:pas[i]? =some (pas[i]'(by rw[ha.l2];exact hi)):=List.getElem?_eq_getElem _
   have:=(ha.at_ i d _ _ hd hv hp).1
   rw[hp]
   simp only[Option.map_some]
   rw[this]
 unfold Is at bK
 rw[ac6,Gy] at bK
 generalize iP:dW sig (pas.map (·.ps))=fl at bK r0 hg
 have eF:=ha.ok
 rw[iP] at eF
 have fin:∀{σ:St} {a:Act} {w':World} {G:Gh},σ.Ba ms (fl.map fun x=>(x.1,x.2.er))=some (rs,d7)->R w.heap.size (xg fl) w fn.ntmps σ a w' G->a.defers=[]/\∃v,(results fn a.tmps).run P w'=.ok v w'/\
   ∃aO:List (K×List PC),aO.map (fun p=>(p.1,p.2.map PC.er))=rs/\(Ending.returned v)=.returned (vZ aO)/\(∀p∈aO,p.1≠ .ptr/\(p.1=.one->p.2.length=1))/\
   BT w' w.heap.size (aO.flatMap (·.2))/\Fr w.heap.size (KB fl) w w'/\
   ∃qs:List PC,qs.map PC.er=d7/\qs.length=fl.length/\∀(i:Nat) (x:Mode×PC) (q:PC),fl[i]? =some x->qs[i]? =some q->uz w' x.1 x.2 q:=by
  intro σ a w' G hx r
  unfold St.Ba at hx
  split at hx
  ·rename_i t9 aik e1 e2
   injection hx with hx
   injection hx with la dO
   subst la dO
   have hE:∀b,(xg fl) b->∃n gr m sz xs,aF<=n/\σ.h n=some (.row gr m sz xs)/\m≠ .aA/\nj G n b/\(m=.ae->¬aP b (G.g n).px):=by
    rintro b ⟨x,C2,Mu⟩
    obtain⟨i,hi⟩:=List.getElem?_of_mem C2
    obtain⟨q,o,_,_,_,gr,sz,xs,k1,k2,k3,k4⟩:=S5 eF hg r e2 hi
    exact⟨aF+i,gr,x.1,sz,xs,Nat.le_add_right _ _,k1,k4,k2 b Mu,fun hm=>k3 hm b⟩
   obtain⟨aO,p1,p2,p3,p4⟩:=YH (r.ja hE) hr e1
   obtain⟨ol,_⟩:=Pr e2
   have hq:∀i:Fin fl.length,∃q,aik[i.1]? =some (PC.er q)/\uz w' (fl[i.1]).1 (fl[i.1]).2 q:=by
    intro i
    obtain⟨q,o,k1,k2,k3,_⟩:=S5 eF hg r e2 (List.getElem?_eq_getElem i.2)
    exact⟨q,by rw[k1,k2],k3⟩
   refine⟨r.defers,_,p2,aO,p1,rfl,p3,p4,⟨r.fr.os,r.fr.tape,r.fr.output,r.fr.size,r.fr.block,r.fr.j7⟩,List.ofFn fun i=>Classical.choose (hq i),?_,by simp,fun i x q hi n8=>?_⟩
   ·apply List.ext_getElem?
    intro i
    simp only[List.getElem?_map]
    by_cases hi:i<fl.length
    ·rw[List.getElem?_ofFn,dif_pos hi]
     exact(Classical.choose_spec (hq ⟨i,hi⟩)).1.symm
    ·rw[List.getElem?_eq_none (by simp;omega),List.getElem?_eq_none (by rw[ol];simp;omega)]
     rfl
   ·obtain⟨hl,e⟩:=List.getElem?_eq_some_iff.1 hi
    rw[List.getElem?_ofFn,dif_pos hl] at n8
    injection n8 with n8
    subst n8
    subst e
    exact(Classical.choose_spec (hq ⟨i,hl⟩)).2
  ·cases hx
 split at bK
 ·rename_i σ e
  exact kU hT hm mc hc e r0 fun a w' G r=>fin bK r
 ·rename_i σ e
  exact kU hT hm mc hc e r0 fun a w' G r=>fin bK r
 ·cases bK
end
end Go.Am
