/- Am4: what becomes of the relation when the world or the heap of names changes. No condition. -/
import Derived.Test.YtifmggmhdcdgbaaAm3
set_option linter.unusedVariables false
namespace Go.Am
section
variable {B:Nat} {E:Ex} {w0 w w':World} {G G':Gh} {h h':Nat->Option aq} {used used':Nat->Bool} {tk:List PC}
theorem aY.refl (w:World) (G:Gh) (h:Nat->Option aq) (u:Nat->Prop):aY w G h u w G h:=
 ⟨fun _ h=>h,fun _ _ _=>rfl,fun _ _ h=>⟨h,rfl,rfl,rfl,rfl,rfl⟩,fun n gr sz xs _ hn=>⟨⟨gr,xs,hn⟩,fun k j pc h1 h2=>⟨pc,h1,rfl,h2⟩⟩⟩
theorem aY.trans {w1 w2 w3:World} {G1 G2 G3:Gh} {h1 h2 h3:Nat->Option aq} {u u2:Nat->Prop} (hu:∀n,u n->u2 n)
  (a:aY w1 G1 h1 u w2 G2 h2) (b:aY w2 G2 h2 u2 w3 G3 h3):aY w1 G1 h1 u w3 G3 h3:=by
 refine⟨fun x hx=>b.im x (a.im x hx),fun x hx o=>(b.cell x (a.im x hx) o).trans (a.cell x hx o),fun n hn h=>?_,fun n gr sz xs hn h=>?_⟩
 ·obtain⟨c0,c1,c2,c3,c4,c5⟩:=b.name n (hu n hn) h
  obtain⟨d0,d1,d2,d3,d4,d5⟩:=a.name n hn c0
  exact⟨d0,c1.trans d1,c2.trans d2,c3.trans d3,c4.trans d4,c5.trans d5⟩
 ·obtain⟨⟨zI,il,e2⟩,l2⟩:=b.live n gr sz xs (hu n hn) h
  obtain⟨e1,l1⟩:=a.live n zI sz il hn e2
  refine⟨e1,fun k j pc p1 p2=>?_⟩
  obtain⟨q,q1,q2,q3⟩:=l1 k j pc p1 p2
  obtain⟨r,r1,r2,r3⟩:=l2 k j q q1 q3
  exact⟨r,r1,r2.trans q2,r3⟩
theorem aY.world (mB:∀b,G.Im b->w'.heap[b]? =w.heap[b]?) (u:Nat->Prop):aY w G h u w' G h:=
 ⟨fun _ h=>h,fun b hb o=>iE (mB b hb) o,fun _ _ h=>⟨h,rfl,rfl,rfl,rfl,rfl⟩,fun n gr sz xs _ hn=>⟨⟨gr,xs,hn⟩,fun k j pc h1 h2=>⟨pc,h1,rfl,h2⟩⟩⟩
theorem HR.qA (H:HR B E w G h used tk) {n:Nat} {gr:Bool} {m:Mode} {sz:Nat} {xs:List (List C)} (hn:h n=some (.row gr m sz xs)) {b:Nat} (hb:aV b (G.g n).px):b<w.heap.size:=by
 have hr:=H.row n gr m sz xs hn
 cases aO:(G.g n).nl with
 |true=>obtain⟨k,j,c,⟨e,he,_⟩,_⟩:=hb;rw[(hr.nl aO).1] at he;simp at he
 |false=>exact(hr.dE aO).2.1.lt hb
theorem HR.grow (H:HR B E w G h used tk) (hw:∀b,b<w.heap.size->w'.heap[b]? =w.heap[b]?) (bG:w.heap.size<=w'.heap.size):HR B E w' G h used tk:=by
 have K:aY w G h (fun n=>used n=true) w' G h:=aY.world (fun b hb=>hw b (H.fL b hb)) _
 have sy:∀b,dr w b->dr w' b:=fun b hb=>hb.congr (hw b hb.lt)
 refine⟨H.jb,H.gT,fun n cs hn=>?_,fun n gr m sz xs hn=>?_,fun n hn hl=>?_,H.inj,fun b hb=>Nat.lt_of_lt_of_le (H.fL b hb) bG,H.pg,H.fy,H.live,fun i pc hi=>?_,H.uP,H.qG⟩
 ·obtain⟨h1,h2,h3⟩:=H.box n cs hn
  refine⟨h1,sy _ h2,fun j c hj=>?_⟩
  obtain⟨v,a1,a2,a3⟩:=h3 j c hj
  exact⟨v,(iE (hw _ h2.lt) _).trans a1,a2,a3.eV K fun m hm=>H.gT n cs c m hn (List.mem_of_getElem? hj) hm⟩
 ·have hr:=H.row n gr m sz xs hn
  refine⟨hr.pos,hr.er,hr.nl,fun hl=>?_,fun hl hg=>?_,?_⟩
  ·obtain⟨a1,a2,a3⟩:=hr.dE hl
   exact⟨sy _ a1,a2.congr (fun o=>iE (hw _ a1.lt) o) (fun b' aX o=>iE (hw _ (a2.lt aX)) o),a3⟩
  ·obtain⟨r2,cur,e,r3,r4⟩:=hr.room hl hg
   exact⟨r2,cur,e,(hw _ (hr.dE hl).1.lt).trans r3,r4⟩
  ·have hm:=hr.mode
   cases m with
   |aF=>exact hm
   |aa=>exact⟨fun b hb=>⟨(hm.1 b hb).1,sy _ (hm.1 b hb).2.1,(hm.1 b hb).2.2⟩,hm.2⟩
   |live=>exact⟨fun b hb=>⟨(hm.1 b hb).1,sy _ (hm.1 b hb).2.1,(hm.1 b hb).2.2⟩,hm.2⟩
 ·obtain⟨a1,a2,a3⟩:=H.own n hn hl
  exact⟨a1,a2,Nat.lt_of_lt_of_le a3 bG⟩
 ·obtain⟨a1,a2⟩:=H.qF i pc hi
  exact⟨a1,fun b hb=>⟨(a2 b hb).1,sy _ (a2 b hb).2.1,(a2 b hb).2.2⟩⟩
theorem Fr.refl (B:Nat) (E:Ex) (w0:World) (hB:B<=w0.heap.size):Fr B E w0 w0:=
 ⟨rfl,rfl,rfl,hB,fun _ _ _=>rfl,fun _ _=>Cz.refl _ _⟩
theorem Fr.grow (F:Fr B E w0 w) (hw:∀b,b<w.heap.size->w'.heap[b]? =w.heap[b]?) (bG:w.heap.size<=w'.heap.size) (ho:w'.os=w.os) (ht:w'.tape=w.tape) (hp:w'.output=w.output):Fr B E w0 w':=
 ⟨ho.trans F.os,ht.trans F.tape,hp.trans F.output,Nat.le_trans F.size bG,fun b hb he=>(hw b (Nat.lt_of_lt_of_le hb F.size)).trans (F.block b hb he),
  fun b hb=>(F.kH b hb).trans (Cz.of_eq (hw b (Nat.lt_of_lt_of_le hb F.size)))⟩
theorem Fr.one (F:Fr B E w0 w) {b0:Nat} (tL:B<=b0\/E b0) (hw:∀b,b<w.heap.size->b≠b0->w'.heap[b]? =w.heap[b]?) (bG:w.heap.size<=w'.heap.size)
  (hu:Cz w w' b0) (ho:w'.os=w.os) (ht:w'.tape=w.tape) (hp:w'.output=w.output):Fr B E w0 w':=by
 refine⟨ho.trans F.os,ht.trans F.tape,hp.trans F.output,Nat.le_trans F.size bG,fun b hb he=>?_,fun b hb=>?_⟩
 ·refine(hw b (Nat.lt_of_lt_of_le hb F.size) ?_).trans (F.block b hb he)
  rintro rfl
  rcases tL with h1|h1
  ·omega
  ·exact he h1
 ·by_cases zN:b=b0
  ·subst zN;exact(F.kH b hb).trans hu
  ·exact(F.kH b hb).trans (Cz.of_eq (hw b (Nat.lt_of_lt_of_le hb F.size) zN))
def aas (B:Nat) (E:Ex) (w:World) (G:Gh) (h:Nat->Option aq) (p:PB):aq->Prop
 |.box cs=>p.nl=false/\dr w p.b/\∀(j:Nat) (c:ah),cs[j]? =some c->∃v,w.cell? (ad p.b (p.o+j))=some v/\v.oneCell'=true/\RC w G h c v
 |.row gr m sz xs=>tn B E w G gr m sz xs p
theorem HR.put (H:HR B E w G h used tk) {n:Nat} {blk:aq} {p:PB}
  (hw:∀b,b<w.heap.size->(p.nl=false->b≠p.b)->w'.heap[b]? =w.heap[b]?) (bG:w.heap.size<=w'.heap.size)
  (z9:∀b,b<w.heap.size->dr w b->dr w' b)
  (hu:∀m,used m=true->used' m=true) (aeo:used' n=true)
  (rb:p.nl=false->¬G.Im p.b/\(B<=p.b\/E p.b)/\p.b<w'.heap.size)
  (vB:p.nl=false->∀m,m≠n->h m≠none->(G.g m).nl=false->(G.g m).b≠p.b)
  (ad2:p.nl=false->∀m gr sz xs,m≠n->h m=some (.row gr .live sz xs)->∀b,aV b (G.g m).px->b≠p.b)
  (vN:∀cs c m,blk=.box cs->c∈cs->c.ref m->used' m=true)
  (K:aY w G h (fun n=>used n=true) w' ⟨G.Im,av G.g n p⟩ (av h n (some blk)))
  (g0:aas B E w' ⟨G.Im,av G.g n p⟩ (av h n (some blk)) p blk)
  (Hi:∀gr m sz xs,blk=.row gr m sz xs->m≠ .aF->∀n' bi m' aK ar,n'≠n->h n'=some (.row bi m' aK ar)->m'≠ .aF->∀b,aV b p.px->¬aV b (G.g n').px)
  (sq:∀gr sz xs,blk=.row gr .live sz xs->∀b,aV b p.px->(p.nl=false->b≠p.b)/\∀n',n'≠n->h n'≠none->(G.g n').nl=false->b≠(G.g n').b)
  (z6:∀gr m sz xs,blk=.row gr m sz xs->m≠ .aF->∀(i:Nat) (pc:PC) (b:Nat),tk[i]? =some pc->aR b pc->¬aV b p.px)
  (mB:p.nl=false->p.b<w.heap.size->∀b,(∃m gr mo sz xs,m≠n/\h m=some (.row gr mo sz xs)/\aV b (G.g m).px)->b≠p.b):
  HR B E w' ⟨G.Im,av G.g n p⟩ (av h n (some blk)) used' tk:=by
 have e1:∀m,m≠n->av h n (some blk) m=h m:=fun m hm=>cd _ _ _ _ hm
 have e2:∀m,m≠n->av G.g n p m=G.g m:=fun m hm=>cd _ _ _ _ hm
 have M8:∀m,m≠n->h m≠none->(G.g m).nl=false->w'.heap[(G.g m).b]? =w.heap[(G.g m).b]? :=fun m hm h0 hl=>
  hw _ (H.own m h0 hl).2.2 (fun hp=>vB hp m hm h0 hl)
 refine⟨?_,?_,?_,?_,?_,?_,?_,H.pg,?_,?_,?_,?_,?_⟩
 ·intro m hm
  by_cases bC:m=n
  ·subst bC;exact aeo
  ·rw[e1 m bC] at hm;exact hu m (H.jb m hm)
 ·intro m cs c q hm hc hr
  by_cases bC:m=n
  ·subst bC
   rw[bD] at hm
   injection hm with hm
   exact vN cs c q hm hc hr
  ·rw[e1 m bC] at hm;exact hu q (H.gT m cs c q hm hc hr)
 ·intro m cs hm
  by_cases bC:m=n
  ·subst bC
   rw[bD] at hm
   injection hm with hm
   subst hm
   simp only[bD]
   exact g0
  ·rw[e1 m bC] at hm
   simp only[e2 m bC]
   obtain⟨a1,a2,a3⟩:=H.box m cs hm
   have hs:=M8 m bC (by rw[hm];simp) a1
   refine⟨a1,a2.congr hs,fun j c hj=>?_⟩
   obtain⟨v,b1,b2,b3⟩:=a3 j c hj
   exact⟨v,(iE hs _).trans b1,b2,b3.eV K fun q hq=>H.gT m cs c q hm (List.mem_of_getElem? hj) hq⟩
 ·intro m gr mo sz xs hm
  by_cases bC:m=n
  ·subst bC
   rw[bD] at hm
   injection hm with hm
   subst hm
   simp only[bD]
   exact g0
  ·rw[e1 m bC] at hm
   simp only[e2 m bC]
   have hr:=H.row m gr mo sz xs hm
   have hf:∀b,aV b (G.g m).px->w'.heap[b]? =w.heap[b]? :=fun b hb=>
    hw b (H.qA hm hb) (fun hp dA=>by
     by_cases bX:p.b<w.heap.size
     ·exact mB hp bX b ⟨m,gr,mo,sz,xs,bC,hm,hb⟩ dA
     ·have:=H.qA hm hb;omega)
   refine⟨hr.pos,hr.er,hr.nl,fun hl=>?_,fun hl hg=>?_,?_⟩
   ·have hs:=M8 m bC (by rw[hm];simp) hl
    obtain⟨a1,a2,a3⟩:=hr.dE hl
    exact⟨a1.congr hs,a2.congr (fun o=>iE hs o) (fun b' aX o=>iE (hf b' aX) o),a3⟩
   ·have hs:=M8 m bC (by rw[hm];simp) hl
    obtain⟨r2,cur,e,r3,r4⟩:=hr.room hl hg
    exact⟨r2,cur,e,hs.trans r3,r4⟩
   ·have cU:=hr.mode
    cases mo with
    |aF=>exact cU
    |aa=>exact⟨fun b hb=>⟨(cU.1 b hb).1,(cU.1 b hb).2.1.congr (hf b hb),(cU.1 b hb).2.2⟩,cU.2⟩
    |live=>exact⟨fun b hb=>⟨(cU.1 b hb).1,(cU.1 b hb).2.1.congr (hf b hb),(cU.1 b hb).2.2⟩,cU.2⟩
 ·intro m hm hl
  by_cases bC:m=n
  ·subst bC
   simp only[bD] at hl⊢
   exact rb hl
  ·rw[e1 m bC] at hm
   simp only[e2 m bC] at hl⊢
   obtain⟨a1,a2,a3⟩:=H.own m hm hl
   exact⟨a1,a2,Nat.lt_of_lt_of_le a3 bG⟩
 ·intro m m' hm bE aC hl dC
  by_cases bC:m=n
  ·subst bC
   have iy:m'≠m:=fun e=>aC e.symm
   rw[e1 m' iy] at bE
   simp only[bD,e2 m' iy] at hl dC⊢
   exact fun e=>vB hl m' iy bE dC e.symm
  ·rw[e1 m bC] at hm
   by_cases iy:m'=n
   ·subst iy
    simp only[bD,e2 m bC] at hl dC⊢
    exact vB dC m bC hm hl
   ·rw[e1 m' iy] at bE
    simp only[e2 m bC,e2 m' iy] at hl dC⊢
    exact H.inj m m' hm bE aC hl dC
 ·exact fun b hb=>Nat.lt_of_lt_of_le (H.fL b hb) bG
 ·intro m m' gr mo sz xs bi nC aK ar hm bE hb aX aC b cl
  by_cases bC:m=n
  ·subst bC
   have iy:m'≠m:=fun e=>aC e.symm
   rw[e1 m' iy] at bE
   rw[bD] at hm
   injection hm with hm
   simp only[bD,e2 m' iy] at cl⊢
   exact Hi gr mo sz xs hm hb m' bi nC aK ar iy bE aX b cl
  ·rw[e1 m bC] at hm
   by_cases iy:m'=n
   ·subst iy
    rw[bD] at bE
    injection bE with bE
    simp only[bD,e2 m bC] at cl⊢
    exact fun Mi=>Hi bi nC aK ar bE aX m gr mo sz xs bC hm hb b Mi cl
   ·rw[e1 m' iy] at bE
    simp only[e2 m bC,e2 m' iy] at cl⊢
    exact H.fy m m' gr mo sz xs bi nC aK ar hm bE hb aX aC b cl
 ·intro m gr sz xs hm b hb m' bE dC
  by_cases bC:m=n
  ·subst bC
   rw[bD] at hm
   injection hm with hm
   simp only[bD] at hb
   have:=sq gr sz xs hm b hb
   by_cases iy:m'=m
   ·subst iy;simp only[bD] at dC⊢;exact this.1 dC
   ·rw[e1 m' iy] at bE
    simp only[e2 m' iy] at dC⊢
    exact this.2 m' iy bE dC
  ·rw[e1 m bC] at hm
   simp only[e2 m bC] at hb
   by_cases iy:m'=n
   ·subst iy
    simp only[bD] at dC⊢
    exact ad2 dC m gr sz xs bC hm b hb
   ·rw[e1 m' iy] at bE
    simp only[e2 m' iy] at dC⊢
    exact H.live m gr sz xs hm b hb m' bE dC
 ·intro i pc hi
  obtain⟨a1,a2⟩:=H.qF i pc hi
  exact⟨a1,fun b hb=>⟨(a2 b hb).1,z9 b (H.fL b (a2 b hb).1) (a2 b hb).2.1,(a2 b hb).2.2⟩⟩
 ·exact H.uP
 ·intro i pc m gr mo sz xs b hi hm jd hb
  by_cases bC:m=n
  ·subst bC
   rw[bD] at hm
   injection hm with hm
   simp only[bD]
   exact z6 gr mo sz xs hm jd i pc b hi hb
  ·rw[e1 m bC] at hm
   simp only[e2 m bC]
   exact H.qG i pc m gr mo sz xs b hi hm jd hb
theorem HR.del (H:HR B E w G h used tk) (n:Nat):HR B E w G (av h n none) used tk:=by
 have e0:∀m b,av h n none m=some b->h m=some b/\m≠n:=fun m b hm=>by
  by_cases bC:m=n
  ·subst bC;rw[bD] at hm;cases hm
  ·rw[cd _ _ _ _ bC] at hm;exact⟨hm,bC⟩
 have e1:∀m,av h n none m≠none->h m≠none:=fun m hm=>by
  by_cases bC:m=n
  ·subst bC;rw[bD] at hm;exact absurd rfl hm
  ·rwa[cd _ _ _ _ bC] at hm
 have K:aY w G h (fun n=>used n=true) w G (av h n none):=
  ⟨fun _ h=>h,fun _ _ _=>rfl,fun m _ hm=>⟨e1 m hm,rfl,rfl,rfl,rfl,rfl⟩,fun m gr sz xs _ hm=>⟨⟨gr,xs,(e0 m _ hm).1⟩,fun k j pc h1 h2=>⟨pc,h1,rfl,h2⟩⟩⟩
 refine⟨fun m hm=>H.jb m (e1 m hm),fun m cs c q hm=>H.gT m cs c q (e0 m _ hm).1,fun m cs hm=>?_,fun m gr mo sz xs hm=>H.row m gr mo sz xs (e0 m _ hm).1,
  fun m hm=>H.own m (e1 m hm),fun m m' hm bE=>H.inj m m' (e1 m hm) (e1 m' bE),H.fL,H.pg,fun m m' gr mo sz xs bi nC aK ar hm bE=>H.fy m m' gr mo sz xs bi nC aK ar (e0 m _ hm).1 (e0 m' _ bE).1,
  fun m gr sz xs hm b hb m' bE=>H.live m gr sz xs (e0 m _ hm).1 b hb m' (e1 m' bE),H.qF,H.uP,fun i pc m gr mo sz xs b hi hm=>H.qG i pc m gr mo sz xs b hi (e0 m _ hm).1⟩
 obtain⟨a1,a2,a3⟩:=H.box m cs (e0 m _ hm).1
 refine⟨a1,a2,fun j c hj=>?_⟩
 obtain⟨v,b1,b2,b3⟩:=a3 j c hj
 exact⟨v,b1,b2,b3.eV K fun q hq=>H.gT m cs c q (e0 m _ hm).1 (List.mem_of_getElem? hj) hq⟩
theorem aY.del (n:Nat) (u:Nat->Prop):aY w G h u w G (av h n none):=by
 have e1:∀m b,av h n none m=some b->h m=some b:=fun m b hm=>by
  by_cases bC:m=n
  ·subst bC;rw[bD] at hm;cases hm
  ·rwa[cd _ _ _ _ bC] at hm
 refine⟨fun _ h=>h,fun _ _ _=>rfl,fun m _ hm=>?_,fun m gr sz xs _ hm=>⟨⟨gr,xs,e1 m _ hm⟩,fun k j pc h1 h2=>⟨pc,h1,rfl,h2⟩⟩⟩
 cases hh:av h n none m with
 |none=>exact absurd hh hm
 |some b=>rw[e1 m b hh];exact⟨by simp,rfl,rfl,rfl,rfl,rfl⟩
end
end Go.Am
