/- Am4: what becomes of the relation when the world or the heap of names changes. No condition. -/
import Derived.Test.YtbgmbplglejidaaAm3
set_option linter.unusedVariables false
namespace Go.Am
section
variable {B:Nat} {E:Ex} {w0 w w':World} {G G':Gh} {h h':Nat->Option aq} {used used':Nat->Bool} {tk:List PC}
theorem aZ.refl (w:World) (G:Gh) (h:Nat->Option aq) (u:Nat->Prop):aZ w G h u w G h:=
 ⟨fun _ h=>h,fun _ _ _=>rfl,fun _ _ h=>⟨h,rfl,rfl,rfl,rfl,rfl⟩,fun n gr sz xs _ hn=>⟨⟨gr,xs,hn⟩,fun k j pc h1 h2=>⟨pc,h1,rfl,h2⟩⟩⟩
theorem aZ.trans {w1 w2 w3:World} {G1 G2 G3:Gh} {h1 h2 h3:Nat->Option aq} {u u2:Nat->Prop} (hu:∀n,u n->u2 n)
  (a:aZ w1 G1 h1 u w2 G2 h2) (b:aZ w2 G2 h2 u2 w3 G3 h3):aZ w1 G1 h1 u w3 G3 h3:=by
 refine⟨fun x hx=>b.im x (a.im x hx),fun x hx o=>(b.cell x (a.im x hx) o).trans (a.cell x hx o),fun n hn h=>?_,fun n gr sz xs hn h=>?_⟩
 ·obtain⟨c0,c1,c2,c3,c4,c5⟩:=b.name n (hu n hn) h
  obtain⟨d0,d1,d2,d3,d4,d5⟩:=a.name n hn c0
  exact⟨d0,c1.trans d1,c2.trans d2,c3.trans d3,c4.trans d4,c5.trans d5⟩
 ·obtain⟨⟨AO,ic,e2⟩,l2⟩:=b.live n gr sz xs (hu n hn) h
  obtain⟨e1,l1⟩:=a.live n AO sz ic hn e2
  refine⟨e1,fun k j pc p1 p2=>?_⟩
  obtain⟨q,q1,q2,q3⟩:=l1 k j pc p1 p2
  obtain⟨r,r1,r2,r3⟩:=l2 k j q q1 q3
  exact⟨r,r1,r2.trans q2,r3⟩
theorem aZ.world (mA:∀b,G.Im b->w'.heap[b]? =w.heap[b]?) (u:Nat->Prop):aZ w G h u w' G h:=
 ⟨fun _ h=>h,fun b hb o=>iz (mA b hb) o,fun _ _ h=>⟨h,rfl,rfl,rfl,rfl,rfl⟩,fun n gr sz xs _ hn=>⟨⟨gr,xs,hn⟩,fun k j pc h1 h2=>⟨pc,h1,rfl,h2⟩⟩⟩
theorem HR.qL (H:HR B E w G h used tk) {n:Nat} {gr:Bool} {m:Mode} {sz:Nat} {xs:List (List C)} (hn:h n=some (.row gr m sz xs)) {b:Nat} (hb:aX b (G.g n).px):b<w.heap.size:=by
 have hr:=H.row n gr m sz xs hn
 cases aR:(G.g n).nl with
 |true=>obtain⟨k,j,c,⟨e,he,_⟩,_⟩:=hb;rw[(hr.nl aR).1] at he;simp at he
 |false=>exact(hr.dT aR).2.1.lt hb
theorem HR.grow (H:HR B E w G h used tk) (hw:∀b,b<w.heap.size->w'.heap[b]? =w.heap[b]?) (bF:w.heap.size<=w'.heap.size):HR B E w' G h used tk:=by
 have K:aZ w G h (fun n=>used n=true) w' G h:=aZ.world (fun b hb=>hw b (H.fL b hb)) _
 have sY:∀b,dD w b->dD w' b:=fun b hb=>hb.congr (hw b hb.lt)
 refine⟨H.iA,H.gC,fun n cs hn=>?_,fun n gr m sz xs hn=>?_,fun n hn hl=>?_,H.inj,fun b hb=>Nat.lt_of_lt_of_le (H.fL b hb) bF,H.oY,H.fA,H.live,fun i pc hi=>?_,H.vh,H.qS⟩
 ·obtain⟨h1,h2,h3⟩:=H.box n cs hn
  refine⟨h1,sY _ h2,fun j c hj=>?_⟩
  obtain⟨v,a1,a2,a3⟩:=h3 j c hj
  exact⟨v,(iz (hw _ h2.lt) _).trans a1,a2,a3.eV K fun m hm=>H.gC n cs c m hn (List.mem_of_getElem? hj) hm⟩
 ·have hr:=H.row n gr m sz xs hn
  refine⟨hr.pos,hr.er,hr.nl,fun hl=>?_,fun hl hg=>?_,?_⟩
  ·obtain⟨a1,a2,a3⟩:=hr.dT hl
   exact⟨sY _ a1,a2.congr (fun o=>iz (hw _ a1.lt) o) (fun b' aW o=>iz (hw _ (a2.lt aW)) o),a3⟩
  ·obtain⟨r2,cur,e,r3,r4⟩:=hr.room hl hg
   exact⟨r2,cur,e,(hw _ (hr.dT hl).1.lt).trans r3,r4⟩
  ·have hm:=hr.mode
   cases m with
   |aO=>exact hm
   |ab=>exact⟨fun b hb=>⟨(hm.1 b hb).1,sY _ (hm.1 b hb).2.1,(hm.1 b hb).2.2⟩,hm.2⟩
   |live=>exact⟨fun b hb=>⟨(hm.1 b hb).1,sY _ (hm.1 b hb).2.1,(hm.1 b hb).2.2⟩,hm.2⟩
 ·obtain⟨a1,a2,a3⟩:=H.own n hn hl
  exact⟨a1,a2,Nat.lt_of_lt_of_le a3 bF⟩
 ·obtain⟨a1,a2⟩:=H.qR i pc hi
  exact⟨a1,fun b hb=>⟨(a2 b hb).1,sY _ (a2 b hb).2.1,(a2 b hb).2.2⟩⟩
theorem Fr.refl (B:Nat) (E:Ex) (w0:World) (hB:B<=w0.heap.size):Fr B E w0 w0:=
 ⟨rfl,rfl,rfl,hB,fun _ _ _=>rfl,fun _ _=>Cz.refl _ _⟩
theorem Fr.grow (F:Fr B E w0 w) (hw:∀b,b<w.heap.size->w'.heap[b]? =w.heap[b]?) (bF:w.heap.size<=w'.heap.size) (ho:w'.os=w.os) (ht:w'.tape=w.tape) (hp:w'.output=w.output):Fr B E w0 w':=
 ⟨ho.trans F.os,ht.trans F.tape,hp.trans F.output,Nat.le_trans F.size bF,fun b hb he=>(hw b (Nat.lt_of_lt_of_le hb F.size)).trans (F.block b hb he),
  fun b hb=>(F.jc b hb).trans (Cz.of_eq (hw b (Nat.lt_of_lt_of_le hb F.size)))⟩
theorem Fr.one (F:Fr B E w0 w) {b0:Nat} (uk:B<=b0\/E b0) (hw:∀b,b<w.heap.size->b≠b0->w'.heap[b]? =w.heap[b]?) (bF:w.heap.size<=w'.heap.size)
  (hu:Cz w w' b0) (ho:w'.os=w.os) (ht:w'.tape=w.tape) (hp:w'.output=w.output):Fr B E w0 w':=by
 refine⟨ho.trans F.os,ht.trans F.tape,hp.trans F.output,Nat.le_trans F.size bF,fun b hb he=>?_,fun b hb=>?_⟩
 ·refine(hw b (Nat.lt_of_lt_of_le hb F.size) ?_).trans (F.block b hb he)
  rintro rfl
  rcases uk with h1|h1
  ·omega
  ·exact he h1
 ·by_cases AU:b=b0
  ·subst AU;exact(F.jc b hb).trans hu
  ·exact(F.jc b hb).trans (Cz.of_eq (hw b (Nat.lt_of_lt_of_le hb F.size) AU))
def aed (B:Nat) (E:Ex) (w:World) (G:Gh) (h:Nat->Option aq) (p:PB):aq->Prop
 |.box cs=>p.nl=false/\dD w p.b/\∀(j:Nat) (c:ah),cs[j]? =some c->∃v,w.cell? (ad p.b (p.o+j))=some v/\v.oneCell'=true/\RC w G h c v
 |.row gr m sz xs=>tJ B E w G gr m sz xs p
theorem HR.put (H:HR B E w G h used tk) {n:Nat} {blk:aq} {p:PB}
  (hw:∀b,b<w.heap.size->(p.nl=false->b≠p.b)->w'.heap[b]? =w.heap[b]?) (bF:w.heap.size<=w'.heap.size)
  (Bd:∀b,b<w.heap.size->dD w b->dD w' b)
  (hu:∀m,used m=true->used' m=true) (air:used' n=true)
  (rB:p.nl=false->¬G.Im p.b/\(B<=p.b\/E p.b)/\p.b<w'.heap.size)
  (v9:p.nl=false->∀m,m≠n->h m≠none->(G.g m).nl=false->(G.g m).b≠p.b)
  (ah6:p.nl=false->∀m gr sz xs,m≠n->h m=some (.row gr .live sz xs)->∀b,aX b (G.g m).px->b≠p.b)
  (wB:∀cs c m,blk=.box cs->c∈cs->c.ref m->used' m=true)
  (K:aZ w G h (fun n=>used n=true) w' ⟨G.Im,ax G.g n p⟩ (ax h n (some blk)))
  (gY:aed B E w' ⟨G.Im,ax G.g n p⟩ (ax h n (some blk)) p blk)
  (IL:∀gr m sz xs,blk=.row gr m sz xs->m≠ .aO->∀n' bj m' aL ar,n'≠n->h n'=some (.row bj m' aL ar)->m'≠ .aO->∀b,aX b p.px->¬aX b (G.g n').px)
  (sQ:∀gr sz xs,blk=.row gr .live sz xs->∀b,aX b p.px->(p.nl=false->b≠p.b)/\∀n',n'≠n->h n'≠none->(G.g n').nl=false->b≠(G.g n').b)
  (wu:∀gr m sz xs,blk=.row gr m sz xs->m≠ .aO->∀(i:Nat) (pc:PC) (b:Nat),tk[i]? =some pc->aT b pc->¬aX b p.px)
  (mA:p.nl=false->p.b<w.heap.size->∀b,(∃m gr mo sz xs,m≠n/\h m=some (.row gr mo sz xs)/\aX b (G.g m).px)->b≠p.b):
  HR B E w' ⟨G.Im,ax G.g n p⟩ (ax h n (some blk)) used' tk:=by
 have e1:∀m,m≠n->ax h n (some blk) m=h m:=fun m hm=>cb _ _ _ _ hm
 have e2:∀m,m≠n->ax G.g n p m=G.g m:=fun m hm=>cb _ _ _ _ hm
 have Pv:∀m,m≠n->h m≠none->(G.g m).nl=false->w'.heap[(G.g m).b]? =w.heap[(G.g m).b]? :=fun m hm h0 hl=>
  hw _ (H.own m h0 hl).2.2 (fun hp=>v9 hp m hm h0 hl)
 refine⟨?_,?_,?_,?_,?_,?_,?_,H.oY,?_,?_,?_,?_,?_⟩
 ·intro m hm
  by_cases bC:m=n
  ·subst bC;exact air
  ·rw[e1 m bC] at hm;exact hu m (H.iA m hm)
 ·intro m cs c q hm hc hr
  by_cases bC:m=n
  ·subst bC
   rw[bE] at hm
   injection hm with hm
   exact wB cs c q hm hc hr
  ·rw[e1 m bC] at hm;exact hu q (H.gC m cs c q hm hc hr)
 ·intro m cs hm
  by_cases bC:m=n
  ·subst bC
   rw[bE] at hm
   injection hm with hm
   subst hm
   simp only[bE]
   exact gY
  ·rw[e1 m bC] at hm
   simp only[e2 m bC]
   obtain⟨a1,a2,a3⟩:=H.box m cs hm
   have hs:=Pv m bC (by rw[hm];simp) a1
   refine⟨a1,a2.congr hs,fun j c hj=>?_⟩
   obtain⟨v,b1,b2,b3⟩:=a3 j c hj
   exact⟨v,(iz hs _).trans b1,b2,b3.eV K fun q hq=>H.gC m cs c q hm (List.mem_of_getElem? hj) hq⟩
 ·intro m gr mo sz xs hm
  by_cases bC:m=n
  ·subst bC
   rw[bE] at hm
   injection hm with hm
   subst hm
   simp only[bE]
   exact gY
  ·rw[e1 m bC] at hm
   simp only[e2 m bC]
   have hr:=H.row m gr mo sz xs hm
   have hf:∀b,aX b (G.g m).px->w'.heap[b]? =w.heap[b]? :=fun b hb=>
    hw b (H.qL hm hb) (fun hp dI=>by
     by_cases bB:p.b<w.heap.size
     ·exact mA hp bB b ⟨m,gr,mo,sz,xs,bC,hm,hb⟩ dI
     ·have:=H.qL hm hb;omega)
   refine⟨hr.pos,hr.er,hr.nl,fun hl=>?_,fun hl hg=>?_,?_⟩
   ·have hs:=Pv m bC (by rw[hm];simp) hl
    obtain⟨a1,a2,a3⟩:=hr.dT hl
    exact⟨a1.congr hs,a2.congr (fun o=>iz hs o) (fun b' aW o=>iz (hf b' aW) o),a3⟩
   ·have hs:=Pv m bC (by rw[hm];simp) hl
    obtain⟨r2,cur,e,r3,r4⟩:=hr.room hl hg
    exact⟨r2,cur,e,hs.trans r3,r4⟩
   ·have dg:=hr.mode
    cases mo with
    |aO=>exact dg
    |ab=>exact⟨fun b hb=>⟨(dg.1 b hb).1,(dg.1 b hb).2.1.congr (hf b hb),(dg.1 b hb).2.2⟩,dg.2⟩
    |live=>exact⟨fun b hb=>⟨(dg.1 b hb).1,(dg.1 b hb).2.1.congr (hf b hb),(dg.1 b hb).2.2⟩,dg.2⟩
 ·intro m hm hl
  by_cases bC:m=n
  ·subst bC
   simp only[bE] at hl⊢
   exact rB hl
  ·rw[e1 m bC] at hm
   simp only[e2 m bC] at hl⊢
   obtain⟨a1,a2,a3⟩:=H.own m hm hl
   exact⟨a1,a2,Nat.lt_of_lt_of_le a3 bF⟩
 ·intro m m' hm bI aE hl dR
  by_cases bC:m=n
  ·subst bC
   have il:m'≠m:=fun e=>aE e.symm
   rw[e1 m' il] at bI
   simp only[bE,e2 m' il] at hl dR⊢
   exact fun e=>v9 hl m' il bI dR e.symm
  ·rw[e1 m bC] at hm
   by_cases il:m'=n
   ·subst il
    simp only[bE,e2 m bC] at hl dR⊢
    exact v9 dR m bC hm hl
   ·rw[e1 m' il] at bI
    simp only[e2 m bC,e2 m' il] at hl dR⊢
    exact H.inj m m' hm bI aE hl dR
 ·exact fun b hb=>Nat.lt_of_lt_of_le (H.fL b hb) bF
 ·intro m m' gr mo sz xs bj mR aL ar hm bI hb aW aE b cB
  by_cases bC:m=n
  ·subst bC
   have il:m'≠m:=fun e=>aE e.symm
   rw[e1 m' il] at bI
   rw[bE] at hm
   injection hm with hm
   simp only[bE,e2 m' il] at cB⊢
   exact IL gr mo sz xs hm hb m' bj mR aL ar il bI aW b cB
  ·rw[e1 m bC] at hm
   by_cases il:m'=n
   ·subst il
    rw[bE] at bI
    injection bI with bI
    simp only[bE,e2 m bC] at cB⊢
    exact fun OE=>IL bj mR aL ar bI aW m gr mo sz xs bC hm hb b OE cB
   ·rw[e1 m' il] at bI
    simp only[e2 m bC,e2 m' il] at cB⊢
    exact H.fA m m' gr mo sz xs bj mR aL ar hm bI hb aW aE b cB
 ·intro m gr sz xs hm b hb m' bI dR
  by_cases bC:m=n
  ·subst bC
   rw[bE] at hm
   injection hm with hm
   simp only[bE] at hb
   have:=sQ gr sz xs hm b hb
   by_cases il:m'=m
   ·subst il;simp only[bE] at dR⊢;exact this.1 dR
   ·rw[e1 m' il] at bI
    simp only[e2 m' il] at dR⊢
    exact this.2 m' il bI dR
  ·rw[e1 m bC] at hm
   simp only[e2 m bC] at hb
   by_cases il:m'=n
   ·subst il
    simp only[bE] at dR⊢
    exact ah6 dR m gr sz xs bC hm b hb
   ·rw[e1 m' il] at bI
    simp only[e2 m' il] at dR⊢
    exact H.live m gr sz xs hm b hb m' bI dR
 ·intro i pc hi
  obtain⟨a1,a2⟩:=H.qR i pc hi
  exact⟨a1,fun b hb=>⟨(a2 b hb).1,Bd b (H.fL b (a2 b hb).1) (a2 b hb).2.1,(a2 b hb).2.2⟩⟩
 ·exact H.vh
 ·intro i pc m gr mo sz xs b hi hm iV hb
  by_cases bC:m=n
  ·subst bC
   rw[bE] at hm
   injection hm with hm
   simp only[bE]
   exact wu gr mo sz xs hm iV i pc b hi hb
  ·rw[e1 m bC] at hm
   simp only[e2 m bC]
   exact H.qS i pc m gr mo sz xs b hi hm iV hb
theorem HR.del (H:HR B E w G h used tk) (n:Nat):HR B E w G (ax h n none) used tk:=by
 have e0:∀m b,ax h n none m=some b->h m=some b/\m≠n:=fun m b hm=>by
  by_cases bC:m=n
  ·subst bC;rw[bE] at hm;cases hm
  ·rw[cb _ _ _ _ bC] at hm;exact⟨hm,bC⟩
 have e1:∀m,ax h n none m≠none->h m≠none:=fun m hm=>by
  by_cases bC:m=n
  ·subst bC;rw[bE] at hm;exact absurd rfl hm
  ·rwa[cb _ _ _ _ bC] at hm
 have K:aZ w G h (fun n=>used n=true) w G (ax h n none):=
  ⟨fun _ h=>h,fun _ _ _=>rfl,fun m _ hm=>⟨e1 m hm,rfl,rfl,rfl,rfl,rfl⟩,fun m gr sz xs _ hm=>⟨⟨gr,xs,(e0 m _ hm).1⟩,fun k j pc h1 h2=>⟨pc,h1,rfl,h2⟩⟩⟩
 refine⟨fun m hm=>H.iA m (e1 m hm),fun m cs c q hm=>H.gC m cs c q (e0 m _ hm).1,fun m cs hm=>?_,fun m gr mo sz xs hm=>H.row m gr mo sz xs (e0 m _ hm).1,
  fun m hm=>H.own m (e1 m hm),fun m m' hm bI=>H.inj m m' (e1 m hm) (e1 m' bI),H.fL,H.oY,fun m m' gr mo sz xs bj mR aL ar hm bI=>H.fA m m' gr mo sz xs bj mR aL ar (e0 m _ hm).1 (e0 m' _ bI).1,
  fun m gr sz xs hm b hb m' bI=>H.live m gr sz xs (e0 m _ hm).1 b hb m' (e1 m' bI),H.qR,H.vh,fun i pc m gr mo sz xs b hi hm=>H.qS i pc m gr mo sz xs b hi (e0 m _ hm).1⟩
 obtain⟨a1,a2,a3⟩:=H.box m cs (e0 m _ hm).1
 refine⟨a1,a2,fun j c hj=>?_⟩
 obtain⟨v,b1,b2,b3⟩:=a3 j c hj
 exact⟨v,b1,b2,b3.eV K fun q hq=>H.gC m cs c q (e0 m _ hm).1 (List.mem_of_getElem? hj) hq⟩
theorem aZ.del (n:Nat) (u:Nat->Prop):aZ w G h u w G (ax h n none):=by
 have e1:∀m b,ax h n none m=some b->h m=some b:=fun m b hm=>by
  by_cases bC:m=n
  ·subst bC;rw[bE] at hm;cases hm
  ·rwa[cb _ _ _ _ bC] at hm
 refine⟨fun _ h=>h,fun _ _ _=>rfl,fun m _ hm=>?_,fun m gr sz xs _ hm=>⟨⟨gr,xs,e1 m _ hm⟩,fun k j pc h1 h2=>⟨pc,h1,rfl,h2⟩⟩⟩
 cases hh:ax h n none m with
 |none=>exact absurd hh hm
 |some b=>rw[e1 m b hh];exact⟨by simp,rfl,rfl,rfl,rfl,rfl⟩
end
end Go.Am
