/- Am4: what becomes of the relation when the world or the heap of names changes. No condition. -/
import Derived.Test.YtifmggmhdcdgbaaAm3
set_option linter.unusedVariables false
namespace Go.Am
section
variable {B:Nat} {E:Ex} {w0 w w':World} {G G':Gh} {h h':Nat->Option ar} {used used':Nat->Bool} {tk:List PC}
theorem aV.refl (w:World) (G:Gh) (h:Nat->Option ar) (u:Nat->Prop):aV w G h u w G h:=
 ⟨fun _ h=>h,fun _ _ _=>rfl,fun _ _ h=>⟨h,rfl,rfl,rfl,rfl,rfl⟩,fun n gr sz xs _ hn=>⟨⟨gr,xs,hn⟩,fun k j pc h1 h2=>⟨pc,h1,rfl,h2⟩⟩⟩
theorem aV.trans {w1 w2 w3:World} {G1 G2 G3:Gh} {h1 h2 h3:Nat->Option ar} {u u2:Nat->Prop} (hu:∀n,u n->u2 n)
  (a:aV w1 G1 h1 u w2 G2 h2) (b:aV w2 G2 h2 u2 w3 G3 h3):aV w1 G1 h1 u w3 G3 h3:=by
 refine⟨fun x hx=>b.im x (a.im x hx),fun x hx o=>(b.cell x (a.im x hx) o).trans (a.cell x hx o),fun n hn h=>?_,fun n gr sz xs hn h=>?_⟩
 ·obtain⟨c0,c1,c2,c3,c4,c5⟩:=b.name n (hu n hn) h
  obtain⟨d0,d1,d2,d3,d4,d5⟩:=a.name n hn c0
  exact⟨d0,c1.trans d1,c2.trans d2,c3.trans d3,c4.trans d4,c5.trans d5⟩
 ·obtain⟨⟨z5,gH,e2⟩,l2⟩:=b.live n gr sz xs (hu n hn) h
  obtain⟨e1,l1⟩:=a.live n z5 sz gH hn e2
  refine⟨e1,fun k j pc p1 p2=>?_⟩
  obtain⟨q,q1,q2,q3⟩:=l1 k j pc p1 p2
  obtain⟨r,r1,r2,r3⟩:=l2 k j q q1 q3
  exact⟨r,r1,r2.trans q2,r3⟩
theorem aV.world (lF:∀b,G.Im b->w'.heap[b]? =w.heap[b]?) (u:Nat->Prop):aV w G h u w' G h:=
 ⟨fun _ h=>h,fun b hb o=>gW (lF b hb) o,fun _ _ h=>⟨h,rfl,rfl,rfl,rfl,rfl⟩,fun n gr sz xs _ hn=>⟨⟨gr,xs,hn⟩,fun k j pc h1 h2=>⟨pc,h1,rfl,h2⟩⟩⟩
theorem HR.qd (H:HR B E w G h used tk) {n:Nat} {gr:Bool} {m:Mode} {sz:Nat} {xs:List (List C)} (hn:h n=some (.row gr m sz xs)) {b:Nat} (hb:aR b (G.g n).px):b<w.heap.size:=by
 have hr:=H.row n gr m sz xs hn
 cases aL:(G.g n).nl with
 |true=>obtain⟨k,j,c,⟨e,he,_⟩,_⟩:=hb;rw[(hr.nl aL).1] at he;simp at he
 |false=>exact(hr.dq aL).2.1.lt hb
theorem HR.grow (H:HR B E w G h used tk) (hw:∀b,b<w.heap.size->w'.heap[b]? =w.heap[b]?) (bA:w.heap.size<=w'.heap.size):HR B E w' G h used tk:=by
 have K:aV w G h (fun n=>used n=true) w' G h:=aV.world (fun b hb=>hw b (H.fk b hb)) _
 have r7:∀b,da w b->da w' b:=fun b hb=>hb.congr (hw b hb.lt)
 refine⟨H.iq,H.f8,fun n cs hn=>?_,fun n gr m sz xs hn=>?_,fun n hn hl=>?_,H.inj,fun b hb=>Nat.lt_of_lt_of_le (H.fk b hb) bA,H.oH,H.e7,H.live,fun i pc hi=>?_,H.uK,H.qi⟩
 ·obtain⟨h1,h2,h3⟩:=H.box n cs hn
  refine⟨h1,r7 _ h2,fun j c hj=>?_⟩
  obtain⟨v,a1,a2,a3⟩:=h3 j c hj
  exact⟨v,(gW (hw _ h2.lt) _).trans a1,a2,a3.ek K fun m hm=>H.f8 n cs c m hn (List.mem_of_getElem? hj) hm⟩
 ·have hr:=H.row n gr m sz xs hn
  refine⟨hr.pos,hr.er,hr.nl,fun hl=>?_,fun hl hg=>?_,?_⟩
  ·obtain⟨a1,a2,a3⟩:=hr.dq hl
   exact⟨r7 _ a1,a2.congr (fun o=>gW (hw _ a1.lt) o) (fun b' aU o=>gW (hw _ (a2.lt aU)) o),a3⟩
  ·obtain⟨r2,cur,e,r3,r4⟩:=hr.room hl hg
   exact⟨r2,cur,e,(hw _ (hr.dq hl).1.lt).trans r3,r4⟩
  ·have hm:=hr.mode
   cases m with
   |aE=>exact hm
   |aa=>exact⟨fun b hb=>⟨(hm.1 b hb).1,r7 _ (hm.1 b hb).2.1,(hm.1 b hb).2.2⟩,hm.2⟩
   |live=>exact⟨fun b hb=>⟨(hm.1 b hb).1,r7 _ (hm.1 b hb).2.1,(hm.1 b hb).2.2⟩,hm.2⟩
 ·obtain⟨a1,a2,a3⟩:=H.own n hn hl
  exact⟨a1,a2,Nat.lt_of_lt_of_le a3 bA⟩
 ·obtain⟨a1,a2⟩:=H.qh i pc hi
  exact⟨a1,fun b hb=>⟨(a2 b hb).1,r7 _ (a2 b hb).2.1,(a2 b hb).2.2⟩⟩
theorem Fr.refl (B:Nat) (E:Ex) (w0:World) (hB:B<=w0.heap.size):Fr B E w0 w0:=
 ⟨rfl,rfl,rfl,hB,fun _ _ _=>rfl,fun _ _=>Cz.refl _ _⟩
theorem Fr.grow (F:Fr B E w0 w) (hw:∀b,b<w.heap.size->w'.heap[b]? =w.heap[b]?) (bA:w.heap.size<=w'.heap.size) (ho:w'.os=w.os) (ht:w'.tape=w.tape) (hp:w'.output=w.output):Fr B E w0 w':=
 ⟨ho.trans F.os,ht.trans F.tape,hp.trans F.output,Nat.le_trans F.size bA,fun b hb he=>(hw b (Nat.lt_of_lt_of_le hb F.size)).trans (F.block b hb he),
  fun b hb=>(F.jT b hb).trans (Cz.of_eq (hw b (Nat.lt_of_lt_of_le hb F.size)))⟩
theorem Fr.one (F:Fr B E w0 w) {b0:Nat} (tG:B<=b0\/E b0) (hw:∀b,b<w.heap.size->b≠b0->w'.heap[b]? =w.heap[b]?) (bA:w.heap.size<=w'.heap.size)
  (hu:Cz w w' b0) (ho:w'.os=w.os) (ht:w'.tape=w.tape) (hp:w'.output=w.output):Fr B E w0 w':=by
 refine⟨ho.trans F.os,ht.trans F.tape,hp.trans F.output,Nat.le_trans F.size bA,fun b hb he=>?_,fun b hb=>?_⟩
 ·refine(hw b (Nat.lt_of_lt_of_le hb F.size) ?_).trans (F.block b hb he)
  rintro rfl
  rcases tG with h1|h1
  ·omega
  ·exact he h1
 ·by_cases z9:b=b0
  ·subst z9;exact(F.jT b hb).trans hu
  ·exact(F.jT b hb).trans (Cz.of_eq (hw b (Nat.lt_of_lt_of_le hb F.size) z9))
def ab9 (B:Nat) (E:Ex) (w:World) (G:Gh) (h:Nat->Option ar) (p:PB):ar->Prop
 |.box cs=>p.nl=false/\da w p.b/\∀(j:Nat) (c:ah),cs[j]? =some c->∃v,w.cell? (ad p.b (p.o+j))=some v/\v.oneCell'=true/\RC w G h c v
 |.row gr m sz xs=>tj B E w G gr m sz xs p
theorem HR.put (H:HR B E w G h used tk) {n:Nat} {blk:ar} {p:PB}
  (hw:∀b,b<w.heap.size->(p.nl=false->b≠p.b)->w'.heap[b]? =w.heap[b]?) (bA:w.heap.size<=w'.heap.size)
  (Aq:∀b,b<w.heap.size->da w b->da w' b)
  (hu:∀m,used m=true->used' m=true) (af6:used' n=true)
  (qP:p.nl=false->¬G.Im p.b/\(B<=p.b\/E p.b)/\p.b<w'.heap.size)
  (vC:p.nl=false->∀m,m≠n->h m≠none->(G.g m).nl=false->(G.g m).b≠p.b)
  (afK:p.nl=false->∀m gr sz xs,m≠n->h m=some (.row gr .live sz xs)->∀b,aR b (G.g m).px->b≠p.b)
  (vO:∀cs c m,blk=.box cs->c∈cs->c.ref m->used' m=true)
  (K:aV w G h (fun n=>used n=true) w' ⟨G.Im,av G.g n p⟩ (av h n (some blk)))
  (gx:ab9 B E w' ⟨G.Im,av G.g n p⟩ (av h n (some blk)) p blk)
  (HY:∀gr m sz xs,blk=.row gr m sz xs->m≠ .aE->∀n' bf m' aK au,n'≠n->h n'=some (.row bf m' aK au)->m'≠ .aE->∀b,aR b p.px->¬aR b (G.g n').px)
  (rW:∀gr sz xs,blk=.row gr .live sz xs->∀b,aR b p.px->(p.nl=false->b≠p.b)/\∀n',n'≠n->h n'≠none->(G.g n').nl=false->b≠(G.g n').b)
  (An:∀gr m sz xs,blk=.row gr m sz xs->m≠ .aE->∀(i:Nat) (pc:PC) (b:Nat),tk[i]? =some pc->aN b pc->¬aR b p.px)
  (lF:p.nl=false->p.b<w.heap.size->∀b,(∃m gr mo sz xs,m≠n/\h m=some (.row gr mo sz xs)/\aR b (G.g m).px)->b≠p.b):
  HR B E w' ⟨G.Im,av G.g n p⟩ (av h n (some blk)) used' tk:=by
 have e1:∀m,m≠n->av h n (some blk) m=h m:=fun m hm=>bS _ _ _ _ hm
 have e2:∀m,m≠n->av G.g n p m=G.g m:=fun m hm=>bS _ _ _ _ hm
 have Oc:∀m,m≠n->h m≠none->(G.g m).nl=false->w'.heap[(G.g m).b]? =w.heap[(G.g m).b]? :=fun m hm h0 hl=>
  hw _ (H.own m h0 hl).2.2 (fun hp=>vC hp m hm h0 hl)
 refine⟨?_,?_,?_,?_,?_,?_,?_,H.oH,?_,?_,?_,?_,?_⟩
 ·intro m hm
  by_cases bu:m=n
  ·subst bu;exact af6
  ·rw[e1 m bu] at hm;exact hu m (H.iq m hm)
 ·intro m cs c q hm hc hr
  by_cases bu:m=n
  ·subst bu
   rw[bw] at hm
   injection hm with hm
   exact vO cs c q hm hc hr
  ·rw[e1 m bu] at hm;exact hu q (H.f8 m cs c q hm hc hr)
 ·intro m cs hm
  by_cases bu:m=n
  ·subst bu
   rw[bw] at hm
   injection hm with hm
   subst hm
   simp only[bw]
   exact gx
  ·rw[e1 m bu] at hm
   simp only[e2 m bu]
   obtain⟨a1,a2,a3⟩:=H.box m cs hm
   have hs:=Oc m bu (by rw[hm];simp) a1
   refine⟨a1,a2.congr hs,fun j c hj=>?_⟩
   obtain⟨v,b1,b2,b3⟩:=a3 j c hj
   exact⟨v,(gW hs _).trans b1,b2,b3.ek K fun q hq=>H.f8 m cs c q hm (List.mem_of_getElem? hj) hq⟩
 ·intro m gr mo sz xs hm
  by_cases bu:m=n
  ·subst bu
   rw[bw] at hm
   injection hm with hm
   subst hm
   simp only[bw]
   exact gx
  ·rw[e1 m bu] at hm
   simp only[e2 m bu]
   have hr:=H.row m gr mo sz xs hm
   have hf:∀b,aR b (G.g m).px->w'.heap[b]? =w.heap[b]? :=fun b hb=>
    hw b (H.qd hm hb) (fun hp dh=>by
     by_cases bN:p.b<w.heap.size
     ·exact lF hp bN b ⟨m,gr,mo,sz,xs,bu,hm,hb⟩ dh
     ·have:=H.qd hm hb;omega)
   refine⟨hr.pos,hr.er,hr.nl,fun hl=>?_,fun hl hg=>?_,?_⟩
   ·have hs:=Oc m bu (by rw[hm];simp) hl
    obtain⟨a1,a2,a3⟩:=hr.dq hl
    exact⟨a1.congr hs,a2.congr (fun o=>gW hs o) (fun b' aU o=>gW (hf b' aU) o),a3⟩
   ·have hs:=Oc m bu (by rw[hm];simp) hl
    obtain⟨r2,cur,e,r3,r4⟩:=hr.room hl hg
    exact⟨r2,cur,e,hs.trans r3,r4⟩
   ·have cA:=hr.mode
    cases mo with
    |aE=>exact cA
    |aa=>exact⟨fun b hb=>⟨(cA.1 b hb).1,(cA.1 b hb).2.1.congr (hf b hb),(cA.1 b hb).2.2⟩,cA.2⟩
    |live=>exact⟨fun b hb=>⟨(cA.1 b hb).1,(cA.1 b hb).2.1.congr (hf b hb),(cA.1 b hb).2.2⟩,cA.2⟩
 ·intro m hm hl
  by_cases bu:m=n
  ·subst bu
   simp only[bw] at hl⊢
   exact qP hl
  ·rw[e1 m bu] at hm
   simp only[e2 m bu] at hl⊢
   obtain⟨a1,a2,a3⟩:=H.own m hm hl
   exact⟨a1,a2,Nat.lt_of_lt_of_le a3 bA⟩
 ·intro m m' hm bz aA hl dm
  by_cases bu:m=n
  ·subst bu
   have gQ:m'≠m:=fun e=>aA e.symm
   rw[e1 m' gQ] at bz
   simp only[bw,e2 m' gQ] at hl dm⊢
   exact fun e=>vC hl m' gQ bz dm e.symm
  ·rw[e1 m bu] at hm
   by_cases gQ:m'=n
   ·subst gQ
    simp only[bw,e2 m bu] at hl dm⊢
    exact vC dm m bu hm hl
   ·rw[e1 m' gQ] at bz
    simp only[e2 m bu,e2 m' gQ] at hl dm⊢
    exact H.inj m m' hm bz aA hl dm
 ·exact fun b hb=>Nat.lt_of_lt_of_le (H.fk b hb) bA
 ·intro m m' gr mo sz xs bf mT aK au hm bz hb aU aA b bW
  by_cases bu:m=n
  ·subst bu
   have gQ:m'≠m:=fun e=>aA e.symm
   rw[e1 m' gQ] at bz
   rw[bw] at hm
   injection hm with hm
   simp only[bw,e2 m' gQ] at bW⊢
   exact HY gr mo sz xs hm hb m' bf mT aK au gQ bz aU b bW
  ·rw[e1 m bu] at hm
   by_cases gQ:m'=n
   ·subst gQ
    rw[bw] at bz
    injection bz with bz
    simp only[bw,e2 m bu] at bW⊢
    exact fun HX=>HY bf mT aK au bz aU m gr mo sz xs bu hm hb b HX bW
   ·rw[e1 m' gQ] at bz
    simp only[e2 m bu,e2 m' gQ] at bW⊢
    exact H.e7 m m' gr mo sz xs bf mT aK au hm bz hb aU aA b bW
 ·intro m gr sz xs hm b hb m' bz dm
  by_cases bu:m=n
  ·subst bu
   rw[bw] at hm
   injection hm with hm
   simp only[bw] at hb
   have:=rW gr sz xs hm b hb
   by_cases gQ:m'=m
   ·subst gQ;simp only[bw] at dm⊢;exact this.1 dm
   ·rw[e1 m' gQ] at bz
    simp only[e2 m' gQ] at dm⊢
    exact this.2 m' gQ bz dm
  ·rw[e1 m bu] at hm
   simp only[e2 m bu] at hb
   by_cases gQ:m'=n
   ·subst gQ
    simp only[bw] at dm⊢
    exact afK dm m gr sz xs bu hm b hb
   ·rw[e1 m' gQ] at bz
    simp only[e2 m' gQ] at dm⊢
    exact H.live m gr sz xs hm b hb m' bz dm
 ·intro i pc hi
  obtain⟨a1,a2⟩:=H.qh i pc hi
  exact⟨a1,fun b hb=>⟨(a2 b hb).1,Aq b (H.fk b (a2 b hb).1) (a2 b hb).2.1,(a2 b hb).2.2⟩⟩
 ·exact H.uK
 ·intro i pc m gr mo sz xs b hi hm iu hb
  by_cases bu:m=n
  ·subst bu
   rw[bw] at hm
   injection hm with hm
   simp only[bw]
   exact An gr mo sz xs hm iu i pc b hi hb
  ·rw[e1 m bu] at hm
   simp only[e2 m bu]
   exact H.qi i pc m gr mo sz xs b hi hm iu hb
theorem HR.del (H:HR B E w G h used tk) (n:Nat):HR B E w G (av h n none) used tk:=by
 have e0:∀m b,av h n none m=some b->h m=some b/\m≠n:=fun m b hm=>by
  by_cases bu:m=n
  ·subst bu;rw[bw] at hm;cases hm
  ·rw[bS _ _ _ _ bu] at hm;exact⟨hm,bu⟩
 have e1:∀m,av h n none m≠none->h m≠none:=fun m hm=>by
  by_cases bu:m=n
  ·subst bu;rw[bw] at hm;exact absurd rfl hm
  ·rwa[bS _ _ _ _ bu] at hm
 have K:aV w G h (fun n=>used n=true) w G (av h n none):=
  ⟨fun _ h=>h,fun _ _ _=>rfl,fun m _ hm=>⟨e1 m hm,rfl,rfl,rfl,rfl,rfl⟩,fun m gr sz xs _ hm=>⟨⟨gr,xs,(e0 m _ hm).1⟩,fun k j pc h1 h2=>⟨pc,h1,rfl,h2⟩⟩⟩
 refine⟨fun m hm=>H.iq m (e1 m hm),fun m cs c q hm=>H.f8 m cs c q (e0 m _ hm).1,fun m cs hm=>?_,fun m gr mo sz xs hm=>H.row m gr mo sz xs (e0 m _ hm).1,
  fun m hm=>H.own m (e1 m hm),fun m m' hm bz=>H.inj m m' (e1 m hm) (e1 m' bz),H.fk,H.oH,fun m m' gr mo sz xs bf mT aK au hm bz=>H.e7 m m' gr mo sz xs bf mT aK au (e0 m _ hm).1 (e0 m' _ bz).1,
  fun m gr sz xs hm b hb m' bz=>H.live m gr sz xs (e0 m _ hm).1 b hb m' (e1 m' bz),H.qh,H.uK,fun i pc m gr mo sz xs b hi hm=>H.qi i pc m gr mo sz xs b hi (e0 m _ hm).1⟩
 obtain⟨a1,a2,a3⟩:=H.box m cs (e0 m _ hm).1
 refine⟨a1,a2,fun j c hj=>?_⟩
 obtain⟨v,b1,b2,b3⟩:=a3 j c hj
 exact⟨v,b1,b2,b3.ek K fun q hq=>H.f8 m cs c q (e0 m _ hm).1 (List.mem_of_getElem? hj) hq⟩
theorem aV.del (n:Nat) (u:Nat->Prop):aV w G h u w G (av h n none):=by
 have e1:∀m b,av h n none m=some b->h m=some b:=fun m b hm=>by
  by_cases bu:m=n
  ·subst bu;rw[bw] at hm;cases hm
  ·rwa[bS _ _ _ _ bu] at hm
 refine⟨fun _ h=>h,fun _ _ _=>rfl,fun m _ hm=>?_,fun m gr sz xs _ hm=>⟨⟨gr,xs,e1 m _ hm⟩,fun k j pc h1 h2=>⟨pc,h1,rfl,h2⟩⟩⟩
 cases hh:av h n none m with
 |none=>exact absurd hh hm
 |some b=>rw[e1 m b hh];exact⟨by simp,rfl,rfl,rfl,rfl,rfl⟩
end
end Go.Am
