/- Am4: what becomes of the relation when the world or the heap of names changes. No condition. -/
import Derived.Test.YtifmggmhdcdgbaaAm3
set_option linter.unusedVariables false
namespace Go.Am
section
variable {B:Nat} {E:Ex} {w0 w w':World} {G G':Gh} {h h':Nat->Option aq} {used used':Nat->Bool} {tk:List PC}
theorem aT.refl (w:World) (G:Gh) (h:Nat->Option aq) (u:Nat->Prop):aT w G h u w G h:=
 ⟨fun _ h=>h,fun _ _ _=>rfl,fun _ _ h=>⟨h,rfl,rfl,rfl,rfl,rfl⟩,fun n gr sz xs _ hn=>⟨⟨gr,xs,hn⟩,fun k j pc h1 h2=>⟨pc,h1,rfl,h2⟩⟩⟩
theorem aT.trans {w1 w2 w3:World} {G1 G2 G3:Gh} {h1 h2 h3:Nat->Option aq} {u u2:Nat->Prop} (hu:∀n,u n->u2 n)
  (a:aT w1 G1 h1 u w2 G2 h2) (b:aT w2 G2 h2 u2 w3 G3 h3):aT w1 G1 h1 u w3 G3 h3:=by
 refine⟨fun x hx=>b.im x (a.im x hx),fun x hx o=>(b.cell x (a.im x hx) o).trans (a.cell x hx o),fun n hn h=>?_,fun n gr sz xs hn h=>?_⟩
 ·obtain⟨c0,c1,c2,c3,c4,c5⟩:=b.name n (hu n hn) h
  obtain⟨d0,d1,d2,d3,d4,d5⟩:=a.name n hn c0
  exact⟨d0,c1.trans d1,c2.trans d2,c3.trans d3,c4.trans d4,c5.trans d5⟩
 ·obtain⟨⟨zD,gR,e2⟩,l2⟩:=b.live n gr sz xs (hu n hn) h
  obtain⟨e1,l1⟩:=a.live n zD sz gR hn e2
  refine⟨e1,fun k j pc p1 p2=>?_⟩
  obtain⟨q,q1,q2,q3⟩:=l1 k j pc p1 p2
  obtain⟨r,r1,r2,r3⟩:=l2 k j q q1 q3
  exact⟨r,r1,r2.trans q2,r3⟩
theorem aT.world (lM:∀b,G.Im b->w'.heap[b]? =w.heap[b]?) (u:Nat->Prop):aT w G h u w' G h:=
 ⟨fun _ h=>h,fun b hb o=>hZ (lM b hb) o,fun _ _ h=>⟨h,rfl,rfl,rfl,rfl,rfl⟩,fun n gr sz xs _ hn=>⟨⟨gr,xs,hn⟩,fun k j pc h1 h2=>⟨pc,h1,rfl,h2⟩⟩⟩
theorem HR.pT (H:HR B E w G h used tk) {n:Nat} {gr:Bool} {m:Mode} {sz:Nat} {xs:List (List C)} (hn:h n=some (.row gr m sz xs)) {b:Nat} (hb:aP b (G.g n).px):b<w.heap.size:=by
 have hr:=H.row n gr m sz xs hn
 cases aK:(G.g n).nl with
 |true=>obtain⟨k,j,c,⟨e,he,_⟩,_⟩:=hb;rw[(hr.nl aK).1] at he;simp at he
 |false=>exact(hr.dB aK).2.1.lt hb
theorem HR.grow (H:HR B E w G h used tk) (hw:∀b,b<w.heap.size->w'.heap[b]? =w.heap[b]?) (bE:w.heap.size<=w'.heap.size):HR B E w' G h used tk:=by
 have K:aT w G h (fun n=>used n=true) w' G h:=aT.world (fun b hb=>hw b (H.fx b hb)) _
 have rY:∀b,dk w b->dk w' b:=fun b hb=>hb.congr (hw b hb.lt)
 refine⟨H.iA,H.gi,fun n cs hn=>?_,fun n gr m sz xs hn=>?_,fun n hn hl=>?_,H.inj,fun b hb=>Nat.lt_of_lt_of_le (H.fx b hb) bE,H.ox,H.fi,H.live,fun i pc hi=>?_,H.uh,H.qb⟩
 ·obtain⟨h1,h2,h3⟩:=H.box n cs hn
  refine⟨h1,rY _ h2,fun j c hj=>?_⟩
  obtain⟨v,a1,a2,a3⟩:=h3 j c hj
  exact⟨v,(hZ (hw _ h2.lt) _).trans a1,a2,a3.eI K fun m hm=>H.gi n cs c m hn (List.mem_of_getElem? hj) hm⟩
 ·have hr:=H.row n gr m sz xs hn
  refine⟨hr.pos,hr.er,hr.nl,fun hl=>?_,fun hl hg=>?_,?_⟩
  ·obtain⟨a1,a2,a3⟩:=hr.dB hl
   exact⟨rY _ a1,a2.congr (fun o=>hZ (hw _ a1.lt) o) (fun b' aR o=>hZ (hw _ (a2.lt aR)) o),a3⟩
  ·obtain⟨r2,cur,e,r3,r4⟩:=hr.room hl hg
   exact⟨r2,cur,e,(hw _ (hr.dB hl).1.lt).trans r3,r4⟩
  ·have hm:=hr.mode
   cases m with
   |aA=>exact hm
   |ae=>exact⟨fun b hb=>⟨(hm.1 b hb).1,rY _ (hm.1 b hb).2.1,(hm.1 b hb).2.2⟩,hm.2⟩
   |live=>exact⟨fun b hb=>⟨(hm.1 b hb).1,rY _ (hm.1 b hb).2.1,(hm.1 b hb).2.2⟩,hm.2⟩
 ·obtain⟨a1,a2,a3⟩:=H.own n hn hl
  exact⟨a1,a2,Nat.lt_of_lt_of_le a3 bE⟩
 ·obtain⟨a1,a2⟩:=H.qa i pc hi
  exact⟨a1,fun b hb=>⟨(a2 b hb).1,rY _ (a2 b hb).2.1,(a2 b hb).2.2⟩⟩
theorem Fr.refl (B:Nat) (E:Ex) (w0:World) (hB:B<=w0.heap.size):Fr B E w0 w0:=
 ⟨rfl,rfl,rfl,hB,fun _ _ _=>rfl,fun _ _=>Cz.refl _ _⟩
theorem Fr.grow (F:Fr B E w0 w) (hw:∀b,b<w.heap.size->w'.heap[b]? =w.heap[b]?) (bE:w.heap.size<=w'.heap.size) (ho:w'.os=w.os) (ht:w'.tape=w.tape) (hp:w'.output=w.output):Fr B E w0 w':=
 ⟨ho.trans F.os,ht.trans F.tape,hp.trans F.output,Nat.le_trans F.size bE,fun b hb he=>(hw b (Nat.lt_of_lt_of_le hb F.size)).trans (F.block b hb he),
  fun b hb=>(F.j7 b hb).trans (Cz.of_eq (hw b (Nat.lt_of_lt_of_le hb F.size)))⟩
theorem Fr.one (F:Fr B E w0 w) {b0:Nat} (tj:B<=b0\/E b0) (hw:∀b,b<w.heap.size->b≠b0->w'.heap[b]? =w.heap[b]?) (bE:w.heap.size<=w'.heap.size)
  (hu:Cz w w' b0) (ho:w'.os=w.os) (ht:w'.tape=w.tape) (hp:w'.output=w.output):Fr B E w0 w':=by
 refine⟨ho.trans F.os,ht.trans F.tape,hp.trans F.output,Nat.le_trans F.size bE,fun b hb he=>?_,fun b hb=>?_⟩
 ·refine(hw b (Nat.lt_of_lt_of_le hb F.size) ?_).trans (F.block b hb he)
  rintro rfl
  rcases tj with h1|h1
  ·omega
  ·exact he h1
 ·by_cases zG:b=b0
  ·subst zG;exact(F.j7 b hb).trans hu
  ·exact(F.j7 b hb).trans (Cz.of_eq (hw b (Nat.lt_of_lt_of_le hb F.size) zG))
def aac (B:Nat) (E:Ex) (w:World) (G:Gh) (h:Nat->Option aq) (p:PB):aq->Prop
 |.box cs=>p.nl=false/\dk w p.b/\∀(j:Nat) (c:ai),cs[j]? =some c->∃v,w.cell? (ad p.b (p.o+j))=some v/\v.oneCell'=true/\RC w G h c v
 |.row gr m sz xs=>sU B E w G gr m sz xs p
theorem HR.put (H:HR B E w G h used tk) {n:Nat} {blk:aq} {p:PB}
  (hw:∀b,b<w.heap.size->(p.nl=false->b≠p.b)->w'.heap[b]? =w.heap[b]?) (bE:w.heap.size<=w'.heap.size)
  (vi:∀b,b<w.heap.size->dk w b->dk w' b)
  (hu:∀m,used m=true->used' m=true) (adK:used' n=true)
  (qG:p.nl=false->¬G.Im p.b/\(B<=p.b\/E p.b)/\p.b<w'.heap.size)
  (u7:p.nl=false->∀m,m≠n->h m≠none->(G.g m).nl=false->(G.g m).b≠p.b)
  (ado:p.nl=false->∀m gr sz xs,m≠n->h m=some (.row gr .live sz xs)->∀b,aP b (G.g m).px->b≠p.b)
  (vm:∀cs c m,blk=.box cs->c∈cs->c.ref m->used' m=true)
  (K:aT w G h (fun n=>used n=true) w' ⟨G.Im,au G.g n p⟩ (au h n (some blk)))
  (gB:aac B E w' ⟨G.Im,au G.g n p⟩ (au h n (some blk)) p blk)
  (GS:∀gr m sz xs,blk=.row gr m sz xs->m≠ .aA->∀n' bh m' aG ar,n'≠n->h n'=some (.row bh m' aG ar)->m'≠ .aA->∀b,aP b p.px->¬aP b (G.g n').px)
  (rS:∀gr sz xs,blk=.row gr .live sz xs->∀b,aP b p.px->(p.nl=false->b≠p.b)/\∀n',n'≠n->h n'≠none->(G.g n').nl=false->b≠(G.g n').b)
  (zY:∀gr m sz xs,blk=.row gr m sz xs->m≠ .aA->∀(i:Nat) (pc:PC) (b:Nat),tk[i]? =some pc->aM b pc->¬aP b p.px)
  (lM:p.nl=false->p.b<w.heap.size->∀b,(∃m gr mo sz xs,m≠n/\h m=some (.row gr mo sz xs)/\aP b (G.g m).px)->b≠p.b):
  HR B E w' ⟨G.Im,au G.g n p⟩ (au h n (some blk)) used' tk:=by
 have e1:∀m,m≠n->au h n (some blk) m=h m:=fun m hm=>cb _ _ _ _ hm
 have e2:∀m,m≠n->au G.g n p m=G.g m:=fun m hm=>cb _ _ _ _ hm
 have Mm:∀m,m≠n->h m≠none->(G.g m).nl=false->w'.heap[(G.g m).b]? =w.heap[(G.g m).b]? :=fun m hm h0 hl=>
  hw _ (H.own m h0 hl).2.2 (fun hp=>u7 hp m hm h0 hl)
 refine⟨?_,?_,?_,?_,?_,?_,?_,H.ox,?_,?_,?_,?_,?_⟩
 ·intro m hm
  by_cases bB:m=n
  ·subst bB;exact adK
  ·rw[e1 m bB] at hm;exact hu m (H.iA m hm)
 ·intro m cs c q hm hc hr
  by_cases bB:m=n
  ·subst bB
   rw[bC] at hm
   injection hm with hm
   exact vm cs c q hm hc hr
  ·rw[e1 m bB] at hm;exact hu q (H.gi m cs c q hm hc hr)
 ·intro m cs hm
  by_cases bB:m=n
  ·subst bB
   rw[bC] at hm
   injection hm with hm
   subst hm
   simp only[bC]
   exact gB
  ·rw[e1 m bB] at hm
   simp only[e2 m bB]
   obtain⟨a1,a2,a3⟩:=H.box m cs hm
   have hs:=Mm m bB (by rw[hm];simp) a1
   refine⟨a1,a2.congr hs,fun j c hj=>?_⟩
   obtain⟨v,b1,b2,b3⟩:=a3 j c hj
   exact⟨v,(hZ hs _).trans b1,b2,b3.eI K fun q hq=>H.gi m cs c q hm (List.mem_of_getElem? hj) hq⟩
 ·intro m gr mo sz xs hm
  by_cases bB:m=n
  ·subst bB
   rw[bC] at hm
   injection hm with hm
   subst hm
   simp only[bC]
   exact gB
  ·rw[e1 m bB] at hm
   simp only[e2 m bB]
   have hr:=H.row m gr mo sz xs hm
   have hf:∀b,aP b (G.g m).px->w'.heap[b]? =w.heap[b]? :=fun b hb=>
    hw b (H.pT hm hb) (fun hp du=>by
     by_cases bL:p.b<w.heap.size
     ·exact lM hp bL b ⟨m,gr,mo,sz,xs,bB,hm,hb⟩ du
     ·have:=H.pT hm hb;omega)
   refine⟨hr.pos,hr.er,hr.nl,fun hl=>?_,fun hl hg=>?_,?_⟩
   ·have hs:=Mm m bB (by rw[hm];simp) hl
    obtain⟨a1,a2,a3⟩:=hr.dB hl
    exact⟨a1.congr hs,a2.congr (fun o=>hZ hs o) (fun b' aR o=>hZ (hf b' aR) o),a3⟩
   ·have hs:=Mm m bB (by rw[hm];simp) hl
    obtain⟨r2,cur,e,r3,r4⟩:=hr.room hl hg
    exact⟨r2,cur,e,hs.trans r3,r4⟩
   ·have cR:=hr.mode
    cases mo with
    |aA=>exact cR
    |ae=>exact⟨fun b hb=>⟨(cR.1 b hb).1,(cR.1 b hb).2.1.congr (hf b hb),(cR.1 b hb).2.2⟩,cR.2⟩
    |live=>exact⟨fun b hb=>⟨(cR.1 b hb).1,(cR.1 b hb).2.1.congr (hf b hb),(cR.1 b hb).2.2⟩,cR.2⟩
 ·intro m hm hl
  by_cases bB:m=n
  ·subst bB
   simp only[bC] at hl⊢
   exact qG hl
  ·rw[e1 m bB] at hm
   simp only[e2 m bB] at hl⊢
   obtain⟨a1,a2,a3⟩:=H.own m hm hl
   exact⟨a1,a2,Nat.lt_of_lt_of_le a3 bE⟩
 ·intro m m' hm bI aw hl dq
  by_cases bB:m=n
  ·subst bB
   have gY:m'≠m:=fun e=>aw e.symm
   rw[e1 m' gY] at bI
   simp only[bC,e2 m' gY] at hl dq⊢
   exact fun e=>u7 hl m' gY bI dq e.symm
  ·rw[e1 m bB] at hm
   by_cases gY:m'=n
   ·subst gY
    simp only[bC,e2 m bB] at hl dq⊢
    exact u7 dq m bB hm hl
   ·rw[e1 m' gY] at bI
    simp only[e2 m bB,e2 m' gY] at hl dq⊢
    exact H.inj m m' hm bI aw hl dq
 ·exact fun b hb=>Nat.lt_of_lt_of_le (H.fx b hb) bE
 ·intro m m' gr mo sz xs bh mR aG ar hm bI hb aR aw b cq
  by_cases bB:m=n
  ·subst bB
   have gY:m'≠m:=fun e=>aw e.symm
   rw[e1 m' gY] at bI
   rw[bC] at hm
   injection hm with hm
   simp only[bC,e2 m' gY] at cq⊢
   exact GS gr mo sz xs hm hb m' bh mR aG ar gY bI aR b cq
  ·rw[e1 m bB] at hm
   by_cases gY:m'=n
   ·subst gY
    rw[bC] at bI
    injection bI with bI
    simp only[bC,e2 m bB] at cq⊢
    exact fun GR=>GS bh mR aG ar bI aR m gr mo sz xs bB hm hb b GR cq
   ·rw[e1 m' gY] at bI
    simp only[e2 m bB,e2 m' gY] at cq⊢
    exact H.fi m m' gr mo sz xs bh mR aG ar hm bI hb aR aw b cq
 ·intro m gr sz xs hm b hb m' bI dq
  by_cases bB:m=n
  ·subst bB
   rw[bC] at hm
   injection hm with hm
   simp only[bC] at hb
   have:=rS gr sz xs hm b hb
   by_cases gY:m'=m
   ·subst gY;simp only[bC] at dq⊢;exact this.1 dq
   ·rw[e1 m' gY] at bI
    simp only[e2 m' gY] at dq⊢
    exact this.2 m' gY bI dq
  ·rw[e1 m bB] at hm
   simp only[e2 m bB] at hb
   by_cases gY:m'=n
   ·subst gY
    simp only[bC] at dq⊢
    exact ado dq m gr sz xs bB hm b hb
   ·rw[e1 m' gY] at bI
    simp only[e2 m' gY] at dq⊢
    exact H.live m gr sz xs hm b hb m' bI dq
 ·intro i pc hi
  obtain⟨a1,a2⟩:=H.qa i pc hi
  exact⟨a1,fun b hb=>⟨(a2 b hb).1,vi b (H.fx b (a2 b hb).1) (a2 b hb).2.1,(a2 b hb).2.2⟩⟩
 ·exact H.uh
 ·intro i pc m gr mo sz xs b hi hm iC hb
  by_cases bB:m=n
  ·subst bB
   rw[bC] at hm
   injection hm with hm
   simp only[bC]
   exact zY gr mo sz xs hm iC i pc b hi hb
  ·rw[e1 m bB] at hm
   simp only[e2 m bB]
   exact H.qb i pc m gr mo sz xs b hi hm iC hb
theorem HR.del (H:HR B E w G h used tk) (n:Nat):HR B E w G (au h n none) used tk:=by
 have e0:∀m b,au h n none m=some b->h m=some b/\m≠n:=fun m b hm=>by
  by_cases bB:m=n
  ·subst bB;rw[bC] at hm;cases hm
  ·rw[cb _ _ _ _ bB] at hm;exact⟨hm,bB⟩
 have e1:∀m,au h n none m≠none->h m≠none:=fun m hm=>by
  by_cases bB:m=n
  ·subst bB;rw[bC] at hm;exact absurd rfl hm
  ·rwa[cb _ _ _ _ bB] at hm
 have K:aT w G h (fun n=>used n=true) w G (au h n none):=
  ⟨fun _ h=>h,fun _ _ _=>rfl,fun m _ hm=>⟨e1 m hm,rfl,rfl,rfl,rfl,rfl⟩,fun m gr sz xs _ hm=>⟨⟨gr,xs,(e0 m _ hm).1⟩,fun k j pc h1 h2=>⟨pc,h1,rfl,h2⟩⟩⟩
 refine⟨fun m hm=>H.iA m (e1 m hm),fun m cs c q hm=>H.gi m cs c q (e0 m _ hm).1,fun m cs hm=>?_,fun m gr mo sz xs hm=>H.row m gr mo sz xs (e0 m _ hm).1,
  fun m hm=>H.own m (e1 m hm),fun m m' hm bI=>H.inj m m' (e1 m hm) (e1 m' bI),H.fx,H.ox,fun m m' gr mo sz xs bh mR aG ar hm bI=>H.fi m m' gr mo sz xs bh mR aG ar (e0 m _ hm).1 (e0 m' _ bI).1,
  fun m gr sz xs hm b hb m' bI=>H.live m gr sz xs (e0 m _ hm).1 b hb m' (e1 m' bI),H.qa,H.uh,fun i pc m gr mo sz xs b hi hm=>H.qb i pc m gr mo sz xs b hi (e0 m _ hm).1⟩
 obtain⟨a1,a2,a3⟩:=H.box m cs (e0 m _ hm).1
 refine⟨a1,a2,fun j c hj=>?_⟩
 obtain⟨v,b1,b2,b3⟩:=a3 j c hj
 exact⟨v,b1,b2,b3.eI K fun q hq=>H.gi m cs c q (e0 m _ hm).1 (List.mem_of_getElem? hj) hq⟩
theorem aT.del (n:Nat) (u:Nat->Prop):aT w G h u w G (au h n none):=by
 have e1:∀m b,au h n none m=some b->h m=some b:=fun m b hm=>by
  by_cases bB:m=n
  ·subst bB;rw[bC] at hm;cases hm
  ·rwa[cb _ _ _ _ bB] at hm
 refine⟨fun _ h=>h,fun _ _ _=>rfl,fun m _ hm=>?_,fun m gr sz xs _ hm=>⟨⟨gr,xs,e1 m _ hm⟩,fun k j pc h1 h2=>⟨pc,h1,rfl,h2⟩⟩⟩
 cases hh:au h n none m with
 |none=>exact absurd hh hm
 |some b=>rw[e1 m b hh];exact⟨by simp,rfl,rfl,rfl,rfl,rfl⟩
end
end Go.Am
