/- Am4: what becomes of the relation when the world or the heap of names changes. No condition. -/
import Derived.Test.YtbgmbplglejidaaAm3
set_option linter.unusedVariables false
namespace Go.Am
section
variable {B:Nat} {E:Ex} {w0 w w':World} {G G':Gh} {h h':Nat->Option ao} {used used':Nat->Bool} {tk:List PC}
theorem bf.refl (w:World) (G:Gh) (h:Nat->Option ao) (u:Nat->Prop):bf w G h u w G h:=
 ⟨fun _ h=>h,fun _ _ _=>rfl,fun _ _ h=>⟨h,rfl,rfl,rfl,rfl,rfl⟩,fun n gr sz xs _ hn=>⟨⟨gr,xs,hn⟩,fun k j pc h1 h2=>⟨pc,h1,rfl,h2⟩⟩⟩
theorem bf.trans {w1 w2 w3:World} {G1 G2 G3:Gh} {h1 h2 h3:Nat->Option ao} {u u2:Nat->Prop} (hu:∀n,u n->u2 n)
  (a:bf w1 G1 h1 u w2 G2 h2) (b:bf w2 G2 h2 u2 w3 G3 h3):bf w1 G1 h1 u w3 G3 h3:=by
 refine⟨fun x hx=>b.im x (a.im x hx),fun x hx o=>(b.cell x (a.im x hx) o).trans (a.cell x hx o),fun n hn h=>?_,fun n gr sz xs hn h=>?_⟩
 ·obtain⟨c0,c1,c2,c3,c4,c5⟩:=b.name n (hu n hn) h
  obtain⟨d0,d1,d2,d3,d4,d5⟩:=a.name n hn c0
  exact⟨d0,c1.trans d1,c2.trans d2,c3.trans d3,c4.trans d4,c5.trans d5⟩
 ·obtain⟨⟨Bk,iw,e2⟩,l2⟩:=b.live n gr sz xs (hu n hn) h
  obtain⟨e1,l1⟩:=a.live n Bk sz iw hn e2
  refine⟨e1,fun k j pc p1 p2=>?_⟩
  obtain⟨q,q1,q2,q3⟩:=l1 k j pc p1 p2
  obtain⟨r,r1,r2,r3⟩:=l2 k j q q1 q3
  exact⟨r,r1,r2.trans q2,r3⟩
theorem bf.world (mW:∀b,G.Im b->w'.heap[b]? =w.heap[b]?) (u:Nat->Prop):bf w G h u w' G h:=
 ⟨fun _ h=>h,fun b hb o=>iJ (mW b hb) o,fun _ _ h=>⟨h,rfl,rfl,rfl,rfl,rfl⟩,fun n gr sz xs _ hn=>⟨⟨gr,xs,hn⟩,fun k j pc h1 h2=>⟨pc,h1,rfl,h2⟩⟩⟩
theorem HR.rq (H:HR B E w G h used tk) {n:Nat} {gr:Bool} {m:Mode} {sz:Nat} {xs:List (List C)} (hn:h n=some (.row gr m sz xs)) {b:Nat} (hb:aX b (G.g n).px):b<w.heap.size:=by
 have hr:=H.row n gr m sz xs hn
 cases aL:(G.g n).nl with
 |true=>obtain⟨k,j,c,⟨e,he,_⟩,_⟩:=hb;rw[(hr.nl aL).1] at he;simp at he
 |false=>exact(hr.dV aL).2.1.lt hb
theorem HR.grow (H:HR B E w G h used tk) (hw:∀b,b<w.heap.size->w'.heap[b]? =w.heap[b]?) (bI:w.heap.size<=w'.heap.size):HR B E w' G h used tk:=by
 have K:bf w G h (fun n=>used n=true) w' G h:=bf.world (fun b hb=>hw b (H.fW b hb)) _
 have tn:∀b,dH w b->dH w' b:=fun b hb=>hb.congr (hw b hb.lt)
 refine⟨H.iK,H.gV,fun n cs hn=>?_,fun n gr m sz xs hn=>?_,fun n hn hl=>?_,H.inj,fun b hb=>Nat.lt_of_lt_of_le (H.fW b hb) bI,H.pP,H.fI,H.live,fun i pc hi=>?_,H.vr,H.rD⟩
 ·obtain⟨h1,h2,h3⟩:=H.box n cs hn
  refine⟨h1,tn _ h2,fun j c hj=>?_⟩
  obtain⟨v,a1,a2,a3⟩:=h3 j c hj
  exact⟨v,(iJ (hw _ h2.lt) _).trans a1,a2,a3.ff K fun m hm=>H.gV n cs c m hn (List.mem_of_getElem? hj) hm⟩
 ·have hr:=H.row n gr m sz xs hn
  refine⟨hr.pos,hr.er,hr.nl,fun hl=>?_,fun hl hg=>?_,?_⟩
  ·obtain⟨a1,a2,a3⟩:=hr.dV hl
   exact⟨tn _ a1,a2.congr (fun o=>iJ (hw _ a1.lt) o) (fun b' aY o=>iJ (hw _ (a2.lt aY)) o),a3⟩
  ·obtain⟨r2,cur,e,r3,r4⟩:=hr.room hl hg
   exact⟨r2,cur,e,(hw _ (hr.dV hl).1.lt).trans r3,r4⟩
  ·have hm:=hr.mode
   cases m with
   |aF=>exact hm
   |ab=>exact⟨fun b hb=>⟨(hm.1 b hb).1,tn _ (hm.1 b hb).2.1,(hm.1 b hb).2.2⟩,hm.2⟩
   |live=>exact⟨fun b hb=>⟨(hm.1 b hb).1,tn _ (hm.1 b hb).2.1,(hm.1 b hb).2.2⟩,hm.2⟩
 ·obtain⟨a1,a2,a3⟩:=H.own n hn hl
  exact⟨a1,a2,Nat.lt_of_lt_of_le a3 bI⟩
 ·obtain⟨a1,a2⟩:=H.rC i pc hi
  exact⟨a1,fun b hb=>⟨(a2 b hb).1,tn _ (a2 b hb).2.1,(a2 b hb).2.2⟩⟩
theorem Fr.refl (B:Nat) (E:Ex) (w0:World) (hB:B<=w0.heap.size):Fr B E w0 w0:=
 ⟨rfl,rfl,rfl,hB,fun _ _ _=>rfl,fun _ _=>Cz.refl _ _⟩
theorem Fr.grow (F:Fr B E w0 w) (hw:∀b,b<w.heap.size->w'.heap[b]? =w.heap[b]?) (bI:w.heap.size<=w'.heap.size) (ho:w'.os=w.os) (ht:w'.tape=w.tape) (hp:w'.output=w.output):Fr B E w0 w':=
 ⟨ho.trans F.os,ht.trans F.tape,hp.trans F.output,Nat.le_trans F.size bI,fun b hb he=>(hw b (Nat.lt_of_lt_of_le hb F.size)).trans (F.block b hb he),
  fun b hb=>(F.iu b hb).trans (Cz.of_eq (hw b (Nat.lt_of_lt_of_le hb F.size)))⟩
theorem Fr.one (F:Fr B E w0 w) {b0:Nat} (uv:B<=b0\/E b0) (hw:∀b,b<w.heap.size->b≠b0->w'.heap[b]? =w.heap[b]?) (bI:w.heap.size<=w'.heap.size)
  (hu:Cz w w' b0) (ho:w'.os=w.os) (ht:w'.tape=w.tape) (hp:w'.output=w.output):Fr B E w0 w':=by
 refine⟨ho.trans F.os,ht.trans F.tape,hp.trans F.output,Nat.le_trans F.size bI,fun b hb he=>?_,fun b hb=>?_⟩
 ·refine(hw b (Nat.lt_of_lt_of_le hb F.size) ?_).trans (F.block b hb he)
  rintro rfl
  rcases uv with h1|h1
  ·omega
  ·exact he h1
 ·by_cases Bp:b=b0
  ·subst Bp;exact(F.iu b hb).trans hu
  ·exact(F.iu b hb).trans (Cz.of_eq (hw b (Nat.lt_of_lt_of_le hb F.size) Bp))
def ad6 (B:Nat) (E:Ex) (w:World) (G:Gh) (h:Nat->Option ao) (p:PB):ao->Prop
 |.box cs=>p.nl=false/\dH w p.b/\∀(j:Nat) (c:ah),cs[j]? =some c->∃v,w.cell? (ad p.b (p.o+j))=some v/\v.oneCell'=true/\RC w G h c v
 |.row gr m sz xs=>tU B E w G gr m sz xs p
theorem HR.put (H:HR B E w G h used tk) {n:Nat} {blk:ao} {p:PB}
  (hw:∀b,b<w.heap.size->(p.nl=false->b≠p.b)->w'.heap[b]? =w.heap[b]?) (bI:w.heap.size<=w'.heap.size)
  (BM:∀b,b<w.heap.size->dH w b->dH w' b)
  (hu:∀m,used m=true->used' m=true) (aim:used' n=true)
  (sd:p.nl=false->¬G.Im p.b/\(B<=p.b\/E p.b)/\p.b<w'.heap.size)
  (wq:p.nl=false->∀m,m≠n->h m≠none->(G.g m).nl=false->(G.g m).b≠p.b)
  (ah1:p.nl=false->∀m gr sz xs,m≠n->h m=some (.row gr .live sz xs)->∀b,aX b (G.g m).px->b≠p.b)
  (wJ:∀cs c m,blk=.box cs->c∈cs->c.ref m->used' m=true)
  (K:bf w G h (fun n=>used n=true) w' ⟨G.Im,av G.g n p⟩ (av h n (some blk)))
  (ig:ad6 B E w' ⟨G.Im,av G.g n p⟩ (av h n (some blk)) p blk)
  (Jr:∀gr m sz xs,blk=.row gr m sz xs->m≠ .aF->∀n' bm m' aJ aq,n'≠n->h n'=some (.row bm m' aJ aq)->m'≠ .aF->∀b,aX b p.px->¬aX b (G.g n').px)
  (tf:∀gr sz xs,blk=.row gr .live sz xs->∀b,aX b p.px->(p.nl=false->b≠p.b)/\∀n',n'≠n->h n'≠none->(G.g n').nl=false->b≠(G.g n').b)
  (wE:∀gr m sz xs,blk=.row gr m sz xs->m≠ .aF->∀(i:Nat) (pc:PC) (b:Nat),tk[i]? =some pc->aT b pc->¬aX b p.px)
  (mW:p.nl=false->p.b<w.heap.size->∀b,(∃m gr mo sz xs,m≠n/\h m=some (.row gr mo sz xs)/\aX b (G.g m).px)->b≠p.b):
  HR B E w' ⟨G.Im,av G.g n p⟩ (av h n (some blk)) used' tk:=by
 have e1:∀m,m≠n->av h n (some blk) m=h m:=fun m hm=>cz _ _ _ _ hm
 have e2:∀m,m≠n->av G.g n p m=G.g m:=fun m hm=>cz _ _ _ _ hm
 have BE:∀m,m≠n->h m≠none->(G.g m).nl=false->w'.heap[(G.g m).b]? =w.heap[(G.g m).b]? :=fun m hm h0 hl=>
  hw _ (H.own m h0 hl).2.2 (fun hp=>wq hp m hm h0 hl)
 refine⟨?_,?_,?_,?_,?_,?_,?_,H.pP,?_,?_,?_,?_,?_⟩
 ·intro m hm
  by_cases bE:m=n
  ·subst bE;exact aim
  ·rw[e1 m bE] at hm;exact hu m (H.iK m hm)
 ·intro m cs c q hm hc hr
  by_cases bE:m=n
  ·subst bE
   rw[bG] at hm
   injection hm with hm
   exact wJ cs c q hm hc hr
  ·rw[e1 m bE] at hm;exact hu q (H.gV m cs c q hm hc hr)
 ·intro m cs hm
  by_cases bE:m=n
  ·subst bE
   rw[bG] at hm
   injection hm with hm
   subst hm
   simp only[bG]
   exact ig
  ·rw[e1 m bE] at hm
   simp only[e2 m bE]
   obtain⟨a1,a2,a3⟩:=H.box m cs hm
   have hs:=BE m bE (by rw[hm];simp) a1
   refine⟨a1,a2.congr hs,fun j c hj=>?_⟩
   obtain⟨v,b1,b2,b3⟩:=a3 j c hj
   exact⟨v,(iJ hs _).trans b1,b2,b3.ff K fun q hq=>H.gV m cs c q hm (List.mem_of_getElem? hj) hq⟩
 ·intro m gr mo sz xs hm
  by_cases bE:m=n
  ·subst bE
   rw[bG] at hm
   injection hm with hm
   subst hm
   simp only[bG]
   exact ig
  ·rw[e1 m bE] at hm
   simp only[e2 m bE]
   have hr:=H.row m gr mo sz xs hm
   have hf:∀b,aX b (G.g m).px->w'.heap[b]? =w.heap[b]? :=fun b hb=>
    hw b (H.rq hm hb) (fun hp ef=>by
     by_cases bH:p.b<w.heap.size
     ·exact mW hp bH b ⟨m,gr,mo,sz,xs,bE,hm,hb⟩ ef
     ·have:=H.rq hm hb;omega)
   refine⟨hr.pos,hr.er,hr.nl,fun hl=>?_,fun hl hg=>?_,?_⟩
   ·have hs:=BE m bE (by rw[hm];simp) hl
    obtain⟨a1,a2,a3⟩:=hr.dV hl
    exact⟨a1.congr hs,a2.congr (fun o=>iJ hs o) (fun b' aY o=>iJ (hf b' aY) o),a3⟩
   ·have hs:=BE m bE (by rw[hm];simp) hl
    obtain⟨r2,cur,e,r3,r4⟩:=hr.room hl hg
    exact⟨r2,cur,e,hs.trans r3,r4⟩
   ·have c6:=hr.mode
    cases mo with
    |aF=>exact c6
    |ab=>exact⟨fun b hb=>⟨(c6.1 b hb).1,(c6.1 b hb).2.1.congr (hf b hb),(c6.1 b hb).2.2⟩,c6.2⟩
    |live=>exact⟨fun b hb=>⟨(c6.1 b hb).1,(c6.1 b hb).2.1.congr (hf b hb),(c6.1 b hb).2.2⟩,c6.2⟩
 ·intro m hm hl
  by_cases bE:m=n
  ·subst bE
   simp only[bG] at hl⊢
   exact sd hl
  ·rw[e1 m bE] at hm
   simp only[e2 m bE] at hl⊢
   obtain⟨a1,a2,a3⟩:=H.own m hm hl
   exact⟨a1,a2,Nat.lt_of_lt_of_le a3 bI⟩
 ·intro m m' hm bM aC hl dE
  by_cases bE:m=n
  ·subst bE
   have iD:m'≠m:=fun e=>aC e.symm
   rw[e1 m' iD] at bM
   simp only[bG,e2 m' iD] at hl dE⊢
   exact fun e=>wq hl m' iD bM dE e.symm
  ·rw[e1 m bE] at hm
   by_cases iD:m'=n
   ·subst iD
    simp only[bG,e2 m bE] at hl dE⊢
    exact wq dE m bE hm hl
   ·rw[e1 m' iD] at bM
    simp only[e2 m bE,e2 m' iD] at hl dE⊢
    exact H.inj m m' hm bM aC hl dE
 ·exact fun b hb=>Nat.lt_of_lt_of_le (H.fW b hb) bI
 ·intro m m' gr mo sz xs bm np aJ aq hm bM hb aY aC b cH
  by_cases bE:m=n
  ·subst bE
   have iD:m'≠m:=fun e=>aC e.symm
   rw[e1 m' iD] at bM
   rw[bG] at hm
   injection hm with hm
   simp only[bG,e2 m' iD] at cH⊢
   exact Jr gr mo sz xs hm hb m' bm np aJ aq iD bM aY b cH
  ·rw[e1 m bE] at hm
   by_cases iD:m'=n
   ·subst iD
    rw[bG] at bM
    injection bM with bM
    simp only[bG,e2 m bE] at cH⊢
    exact fun wi=>Jr bm np aJ aq bM aY m gr mo sz xs bE hm hb b wi cH
   ·rw[e1 m' iD] at bM
    simp only[e2 m bE,e2 m' iD] at cH⊢
    exact H.fI m m' gr mo sz xs bm np aJ aq hm bM hb aY aC b cH
 ·intro m gr sz xs hm b hb m' bM dE
  by_cases bE:m=n
  ·subst bE
   rw[bG] at hm
   injection hm with hm
   simp only[bG] at hb
   have:=tf gr sz xs hm b hb
   by_cases iD:m'=m
   ·subst iD;simp only[bG] at dE⊢;exact this.1 dE
   ·rw[e1 m' iD] at bM
    simp only[e2 m' iD] at dE⊢
    exact this.2 m' iD bM dE
  ·rw[e1 m bE] at hm
   simp only[e2 m bE] at hb
   by_cases iD:m'=n
   ·subst iD
    simp only[bG] at dE⊢
    exact ah1 dE m gr sz xs bE hm b hb
   ·rw[e1 m' iD] at bM
    simp only[e2 m' iD] at dE⊢
    exact H.live m gr sz xs hm b hb m' bM dE
 ·intro i pc hi
  obtain⟨a1,a2⟩:=H.rC i pc hi
  exact⟨a1,fun b hb=>⟨(a2 b hb).1,BM b (H.fW b (a2 b hb).1) (a2 b hb).2.1,(a2 b hb).2.2⟩⟩
 ·exact H.vr
 ·intro i pc m gr mo sz xs b hi hm jg hb
  by_cases bE:m=n
  ·subst bE
   rw[bG] at hm
   injection hm with hm
   simp only[bG]
   exact wE gr mo sz xs hm jg i pc b hi hb
  ·rw[e1 m bE] at hm
   simp only[e2 m bE]
   exact H.rD i pc m gr mo sz xs b hi hm jg hb
theorem HR.del (H:HR B E w G h used tk) (n:Nat):HR B E w G (av h n none) used tk:=by
 have e0:∀m b,av h n none m=some b->h m=some b/\m≠n:=fun m b hm=>by
  by_cases bE:m=n
  ·subst bE;rw[bG] at hm;cases hm
  ·rw[cz _ _ _ _ bE] at hm;exact⟨hm,bE⟩
 have e1:∀m,av h n none m≠none->h m≠none:=fun m hm=>by
  by_cases bE:m=n
  ·subst bE;rw[bG] at hm;exact absurd rfl hm
  ·rwa[cz _ _ _ _ bE] at hm
 have K:bf w G h (fun n=>used n=true) w G (av h n none):=
  ⟨fun _ h=>h,fun _ _ _=>rfl,fun m _ hm=>⟨e1 m hm,rfl,rfl,rfl,rfl,rfl⟩,fun m gr sz xs _ hm=>⟨⟨gr,xs,(e0 m _ hm).1⟩,fun k j pc h1 h2=>⟨pc,h1,rfl,h2⟩⟩⟩
 refine⟨fun m hm=>H.iK m (e1 m hm),fun m cs c q hm=>H.gV m cs c q (e0 m _ hm).1,fun m cs hm=>?_,fun m gr mo sz xs hm=>H.row m gr mo sz xs (e0 m _ hm).1,
  fun m hm=>H.own m (e1 m hm),fun m m' hm bM=>H.inj m m' (e1 m hm) (e1 m' bM),H.fW,H.pP,fun m m' gr mo sz xs bm np aJ aq hm bM=>H.fI m m' gr mo sz xs bm np aJ aq (e0 m _ hm).1 (e0 m' _ bM).1,
  fun m gr sz xs hm b hb m' bM=>H.live m gr sz xs (e0 m _ hm).1 b hb m' (e1 m' bM),H.rC,H.vr,fun i pc m gr mo sz xs b hi hm=>H.rD i pc m gr mo sz xs b hi (e0 m _ hm).1⟩
 obtain⟨a1,a2,a3⟩:=H.box m cs (e0 m _ hm).1
 refine⟨a1,a2,fun j c hj=>?_⟩
 obtain⟨v,b1,b2,b3⟩:=a3 j c hj
 exact⟨v,b1,b2,b3.ff K fun q hq=>H.gV m cs c q (e0 m _ hm).1 (List.mem_of_getElem? hj) hq⟩
theorem bf.del (n:Nat) (u:Nat->Prop):bf w G h u w G (av h n none):=by
 have e1:∀m b,av h n none m=some b->h m=some b:=fun m b hm=>by
  by_cases bE:m=n
  ·subst bE;rw[bG] at hm;cases hm
  ·rwa[cz _ _ _ _ bE] at hm
 refine⟨fun _ h=>h,fun _ _ _=>rfl,fun m _ hm=>?_,fun m gr sz xs _ hm=>⟨⟨gr,xs,e1 m _ hm⟩,fun k j pc h1 h2=>⟨pc,h1,rfl,h2⟩⟩⟩
 cases hh:av h n none m with
 |none=>exact absurd hh hm
 |some b=>rw[e1 m b hh];exact⟨by simp,rfl,rfl,rfl,rfl,rfl⟩
end
end Go.Am
