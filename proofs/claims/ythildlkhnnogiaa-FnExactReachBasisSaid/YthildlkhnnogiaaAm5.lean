/- Am4, Am5: parts of the proof. No condition. -/
import Derived.Test.YthildlkhnnogiaaAm3
set_option linter.unusedVariables false
section
namespace Go.Am
section
variable {B:Nat} {E:Ex} {w0 w w':World} {G G':Gh} {h h':Nat->Option aj} {used used':Nat->Bool} {tk:List PC}
theorem aR.refl (w:World) (G:Gh) (h:Nat->Option aj) (u:Nat->Prop):aR w G h u w G h:=
 ⟨fun _ h=>h,fun _ _ _=>rfl,fun _ _ h=>⟨h,rfl,rfl,rfl,rfl,rfl⟩,fun n gr sz xs _ hn=>⟨⟨gr,xs,hn⟩,fun k j pc h1 h2=>⟨pc,h1,rfl,h2⟩⟩⟩
theorem aR.trans {w1 w2 w3:World} {G1 G2 G3:Gh} {h1 h2 h3:Nat->Option aj} {u u2:Nat->Prop} (hu:∀n,u n->u2 n)
  (a:aR w1 G1 h1 u w2 G2 h2) (b:aR w2 G2 h2 u2 w3 G3 h3):aR w1 G1 h1 u w3 G3 h3:=by
 refine⟨fun x hx=>b.im x (a.im x hx),fun x hx o=>(b.cell x (a.im x hx) o).trans (a.cell x hx o),fun n hn h=>?_,fun n gr sz xs hn h=>?_⟩
 ·obtain⟨c0,c1,c2,c3,c4,c5⟩:=b.name n (hu n hn) h
  obtain⟨d0,d1,d2,d3,d4,d5⟩:=a.name n hn c0
  exact⟨d0,c1.trans d1,c2.trans d2,c3.trans d3,c4.trans d4,c5.trans d5⟩
 ·obtain⟨⟨BE,eT,e2⟩,l2⟩:=b.live n gr sz xs (hu n hn) h
  obtain⟨e1,l1⟩:=a.live n BE sz eT hn e2
  refine⟨e1,fun k j pc p1 p2=>?_⟩
  obtain⟨q,q1,q2,q3⟩:=l1 k j pc p1 p2
  obtain⟨r,r1,r2,r3⟩:=l2 k j q q1 q3
  exact⟨r,r1,r2.trans q2,r3⟩
theorem aR.world (kv:∀b,G.Im b->w'.heap[b]? =w.heap[b]?) (u:Nat->Prop):aR w G h u w' G h:=
 ⟨fun _ h=>h,fun b hb o=>fO (kv b hb) o,fun _ _ h=>⟨h,rfl,rfl,rfl,rfl,rfl⟩,fun n gr sz xs _ hn=>⟨⟨gr,xs,hn⟩,fun k j pc h1 h2=>⟨pc,h1,rfl,h2⟩⟩⟩
theorem HR.mO (H:HR B E w G h used tk) {n:Nat} {gr:Bool} {m:Mode} {sz:Nat} {xs:List (List C)} (hn:h n=some (.row gr m sz xs)) {b:Nat} (hb:aP b (G.g n).px):b<w.heap.size:=by
 have hr:=H.row n gr m sz xs hn
 cases aD:(G.g n).nl with
 |true=>obtain⟨k,j,c,⟨e,he,_⟩,_⟩:=hb;rw[(hr.nl aD).1] at he;simp at he
 |false=>exact(hr.cZ aD).2.1.lt hb
theorem HR.grow (H:HR B E w G h used tk) (hw:∀b,b<w.heap.size->w'.heap[b]? =w.heap[b]?) (bn:w.heap.size<=w'.heap.size):HR B E w' G h used tk:=by
 have K:aR w G h (fun n=>used n=true) w' G h:=aR.world (fun b hb=>hw b (H.e7 b hb)) _
 have tA:∀b,cP w b->cP w' b:=fun b hb=>hb.congr (hw b hb.lt)
 refine⟨H.gT,H.gd,fun n cs hn=>?_,fun n gr m sz xs hn=>?_,fun n hn hl=>?_,H.inj,fun b hb=>Nat.lt_of_lt_of_le (H.e7 b hb) bn,H.ov,H.eV,H.live,fun i pc hi=>?_,H.wq,H.rv⟩
 ·obtain⟨h1,h2,h3⟩:=H.box n cs hn
  refine⟨h1,tA _ h2,fun j c hj=>?_⟩
  obtain⟨v,a1,a2,a3⟩:=h3 j c hj
  exact⟨v,(fO (hw _ h2.lt) _).trans a1,a2,a3.eJ K fun m hm=>H.gd n cs c m hn (List.mem_of_getElem? hj) hm⟩
 ·have hr:=H.row n gr m sz xs hn
  refine⟨hr.pos,hr.er,hr.nl,fun hl=>?_,fun hl hg=>?_,?_,fun hg hm=>(hr.nr hg hm).congr fun b hb=>hw b (H.mO hn hb)⟩
  ·obtain⟨a1,a2,a3⟩:=hr.cZ hl
   exact⟨tA _ a1,a2.congr (fun o=>fO (hw _ a1.lt) o) (fun b' aE o=>fO (hw _ (a2.lt aE)) o),a3⟩
  ·obtain⟨r2,cur,e,r3,r4⟩:=hr.room hl hg
   exact⟨r2,cur,e,(hw _ (hr.cZ hl).1.lt).trans r3,r4⟩
  ·have hm:=hr.mode
   cases m with
   |aG=>exact hm
   |af=>exact⟨fun b hb=>⟨(hm.1 b hb).1,tA _ (hm.1 b hb).2.1,(hm.1 b hb).2.2⟩,hm.2⟩
   |live=>exact⟨fun b hb=>⟨(hm.1 b hb).1,tA _ (hm.1 b hb).2.1,(hm.1 b hb).2.2⟩,hm.2⟩
 ·obtain⟨a1,a2,a3⟩:=H.own n hn hl
  exact⟨a1,a2,Nat.lt_of_lt_of_le a3 bn⟩
 ·obtain⟨a1,a2⟩:=H.ru i pc hi
  exact⟨a1,fun b hb=>⟨(a2 b hb).1,tA _ (a2 b hb).2.1,(a2 b hb).2.2⟩⟩
theorem Fr.refl (B:Nat) (E:Ex) (w0:World) (hB:B<=w0.heap.size):Fr B E w0 w0:=
 ⟨rfl,rfl,rfl,hB,fun _ _ _=>rfl,fun _ _=>Cz.refl _ _⟩
theorem Fr.grow (F:Fr B E w0 w) (hw:∀b,b<w.heap.size->w'.heap[b]? =w.heap[b]?) (bn:w.heap.size<=w'.heap.size) (ho:w'.os=w.os) (ht:w'.tape=w.tape) (hp:w'.output=w.output):Fr B E w0 w':=
 ⟨ho.trans F.os,ht.trans F.tape,hp.trans F.output,Nat.le_trans F.size bn,fun b hb he=>(hw b (Nat.lt_of_lt_of_le hb F.size)).trans (F.block b hb he),
  fun b hb=>(F.iT b hb).trans (Cz.of_eq (hw b (Nat.lt_of_lt_of_le hb F.size)))⟩
theorem Fr.one (F:Fr B E w0 w) {b0:Nat} (po:B<=b0\/E b0) (hw:∀b,b<w.heap.size->b≠b0->w'.heap[b]? =w.heap[b]?) (bn:w.heap.size<=w'.heap.size)
  (hu:Cz w w' b0) (ho:w'.os=w.os) (ht:w'.tape=w.tape) (hp:w'.output=w.output):Fr B E w0 w':=by
 refine⟨ho.trans F.os,ht.trans F.tape,hp.trans F.output,Nat.le_trans F.size bn,fun b hb he=>?_,fun b hb=>?_⟩
 ·refine(hw b (Nat.lt_of_lt_of_le hb F.size) ?_).trans (F.block b hb he)
  rintro rfl
  rcases po with h1|h1
  ·omega
  ·exact he h1
 ·by_cases BN:b=b0
  ·subst BN;exact(F.iT b hb).trans hu
  ·exact(F.iT b hb).trans (Cz.of_eq (hw b (Nat.lt_of_lt_of_le hb F.size) BN))
def UX (B:Nat) (E:Ex) (w:World) (G:Gh) (h:Nat->Option aj) (p:PB):aj->Prop
 |.box cs=>p.nl=false/\cP w p.b/\∀(j:Nat) (c:ab),cs[j]? =some c->∃v,w.cell? (ad p.b (p.o+j))=some v/\v.oneCell'=true/\RC w G h c v
 |.row gr m sz xs=>sW B E w G gr m sz xs p
theorem HR.ZS (H:HR B E w G h used tk) {n:Nat} {blk:aj} {p:PB}
  (hw:∀b,b<w.heap.size->(p.nl=false->b≠p.b)->w'.heap[b]? =w.heap[b]?) (bn:w.heap.size<=w'.heap.size)
  (xl:∀b,b<w.heap.size->cP w b->cP w' b)
  (hu:∀m,used m=true->used' m=true) (OU:used' n=true)
  (pw:p.nl=false->¬G.Im p.b/\(B<=p.b\/E p.b)/\p.b<w'.heap.size)
  (tq:p.nl=false->∀m,m≠n->h m≠none->(G.g m).nl=false->(G.g m).b≠p.b)
  (Ow:p.nl=false->∀m gr sz xs,m≠n->h m=some (.row gr .live sz xs)->∀b,aP b (G.g m).px->b≠p.b)
  (tC:∀cs c m,blk=.box cs->c∈cs->c.ref m->used' m=true)
  (K:∀m cs c v,m≠n->h m=some (.box cs)->c∈cs->RC w G h c v->RC w' ⟨G.Im,ao G.g n p⟩ (ao h n (some blk)) c v)
  (fP:UX B E w' ⟨G.Im,ao G.g n p⟩ (ao h n (some blk)) p blk)
  (BQ:∀gr m sz xs,blk=.row gr m sz xs->m≠ .aG->∀n' aW m' ax ak,n'≠n->h n'=some (.row aW m' ax ak)->m'≠ .aG->∀b,aP b p.px->¬aP b (G.g n').px)
  (qI:∀gr sz xs,blk=.row gr .live sz xs->∀b,aP b p.px->(p.nl=false->b≠p.b)/\∀n',n'≠n->h n'≠none->(G.g n').nl=false->b≠(G.g n').b)
  (kz:∀gr m sz xs,blk=.row gr m sz xs->m≠ .aG->∀(i:Nat) (pc:PC) (b:Nat),tk[i]? =some pc->aK b pc->¬aP b p.px)
  (kv:p.nl=false->p.b<w.heap.size->∀b,(∃m gr mo sz xs,m≠n/\h m=some (.row gr mo sz xs)/\aP b (G.g m).px)->b≠p.b):
  HR B E w' ⟨G.Im,ao G.g n p⟩ (ao h n (some blk)) used' tk:=by
 have e1:∀m,m≠n->ao h n (some blk) m=h m:=fun m hm=>bP _ _ _ _ hm
 have e2:∀m,m≠n->ao G.g n p m=G.g m:=fun m hm=>bP _ _ _ _ hm
 have OP:∀m,m≠n->h m≠none->(G.g m).nl=false->w'.heap[(G.g m).b]? =w.heap[(G.g m).b]? :=fun m hm h0 hl=>
  hw _ (H.own m h0 hl).2.2 (fun hp=>tq hp m hm h0 hl)
 refine⟨?_,?_,?_,?_,?_,?_,?_,H.ov,?_,?_,?_,?_,?_⟩
 ·intro m hm
  by_cases bj:m=n
  ·subst bj;exact OU
  ·rw[e1 m bj] at hm;exact hu m (H.gT m hm)
 ·intro m cs c q hm hc hr
  by_cases bj:m=n
  ·subst bj
   rw[bo] at hm
   injection hm with hm
   exact tC cs c q hm hc hr
  ·rw[e1 m bj] at hm;exact hu q (H.gd m cs c q hm hc hr)
 ·intro m cs hm
  by_cases bj:m=n
  ·subst bj
   rw[bo] at hm
   injection hm with hm
   subst hm
   simp only[bo]
   exact fP
  ·rw[e1 m bj] at hm
   simp only[e2 m bj]
   obtain⟨a1,a2,a3⟩:=H.box m cs hm
   have hs:=OP m bj (by rw[hm];simp) a1
   refine⟨a1,a2.congr hs,fun j c hj=>?_⟩
   obtain⟨v,b1,b2,b3⟩:=a3 j c hj
   exact⟨v,(fO hs _).trans b1,b2,K m cs c v bj hm (List.mem_of_getElem? hj) b3⟩
 ·intro m gr mo sz xs hm
  by_cases bj:m=n
  ·subst bj
   rw[bo] at hm
   injection hm with hm
   subst hm
   simp only[bo]
   exact fP
  ·rw[e1 m bj] at hm
   simp only[e2 m bj]
   have hr:=H.row m gr mo sz xs hm
   have hf:∀b,aP b (G.g m).px->w'.heap[b]? =w.heap[b]? :=fun b hb=>
    hw b (H.mO hm hb) (fun hp dP=>by
     by_cases bS:p.b<w.heap.size
     ·exact kv hp bS b ⟨m,gr,mo,sz,xs,bj,hm,hb⟩ dP
     ·have:=H.mO hm hb;omega)
   refine⟨hr.pos,hr.er,hr.nl,fun hl=>?_,fun hl hg=>?_,?_,fun hg hm=>(hr.nr hg hm).congr hf⟩
   ·have hs:=OP m bj (by rw[hm];simp) hl
    obtain⟨a1,a2,a3⟩:=hr.cZ hl
    exact⟨a1.congr hs,a2.congr (fun o=>fO hs o) (fun b' aE o=>fO (hf b' aE) o),a3⟩
   ·have hs:=OP m bj (by rw[hm];simp) hl
    obtain⟨r2,cur,e,r3,r4⟩:=hr.room hl hg
    exact⟨r2,cur,e,hs.trans r3,r4⟩
   ·have cv:=hr.mode
    cases mo with
    |aG=>exact cv
    |af=>exact⟨fun b hb=>⟨(cv.1 b hb).1,(cv.1 b hb).2.1.congr (hf b hb),(cv.1 b hb).2.2⟩,cv.2⟩
    |live=>exact⟨fun b hb=>⟨(cv.1 b hb).1,(cv.1 b hb).2.1.congr (hf b hb),(cv.1 b hb).2.2⟩,cv.2⟩
 ·intro m hm hl
  by_cases bj:m=n
  ·subst bj
   simp only[bo] at hl⊢
   exact pw hl
  ·rw[e1 m bj] at hm
   simp only[e2 m bj] at hl⊢
   obtain⟨a1,a2,a3⟩:=H.own m hm hl
   exact⟨a1,a2,Nat.lt_of_lt_of_le a3 bn⟩
 ·intro m m' hm bm av hl dg
  by_cases bj:m=n
  ·subst bj
   have il:m'≠m:=fun e=>av e.symm
   rw[e1 m' il] at bm
   simp only[bo,e2 m' il] at hl dg⊢
   exact fun e=>tq hl m' il bm dg e.symm
  ·rw[e1 m bj] at hm
   by_cases il:m'=n
   ·subst il
    simp only[bo,e2 m bj] at hl dg⊢
    exact tq dg m bj hm hl
   ·rw[e1 m' il] at bm
    simp only[e2 m bj,e2 m' il] at hl dg⊢
    exact H.inj m m' hm bm av hl dg
 ·exact fun b hb=>Nat.lt_of_lt_of_le (H.e7 b hb) bn
 ·intro m m' gr mo sz xs aW iv ax ak hm bm hb aE av b bL
  by_cases bj:m=n
  ·subst bj
   have il:m'≠m:=fun e=>av e.symm
   rw[e1 m' il] at bm
   rw[bo] at hm
   injection hm with hm
   simp only[bo,e2 m' il] at bL⊢
   exact BQ gr mo sz xs hm hb m' aW iv ax ak il bm aE b bL
  ·rw[e1 m bj] at hm
   by_cases il:m'=n
   ·subst il
    rw[bo] at bm
    injection bm with bm
    simp only[bo,e2 m bj] at bL⊢
    exact fun N5=>BQ aW iv ax ak bm aE m gr mo sz xs bj hm hb b N5 bL
   ·rw[e1 m' il] at bm
    simp only[e2 m bj,e2 m' il] at bL⊢
    exact H.eV m m' gr mo sz xs aW iv ax ak hm bm hb aE av b bL
 ·intro m gr sz xs hm b hb m' bm dg
  by_cases bj:m=n
  ·subst bj
   rw[bo] at hm
   injection hm with hm
   simp only[bo] at hb
   have:=qI gr sz xs hm b hb
   by_cases il:m'=m
   ·subst il;simp only[bo] at dg⊢;exact this.1 dg
   ·rw[e1 m' il] at bm
    simp only[e2 m' il] at dg⊢
    exact this.2 m' il bm dg
  ·rw[e1 m bj] at hm
   simp only[e2 m bj] at hb
   by_cases il:m'=n
   ·subst il
    simp only[bo] at dg⊢
    exact Ow dg m gr sz xs bj hm b hb
   ·rw[e1 m' il] at bm
    simp only[e2 m' il] at dg⊢
    exact H.live m gr sz xs hm b hb m' bm dg
 ·intro i pc hi
  obtain⟨a1,a2⟩:=H.ru i pc hi
  exact⟨a1,fun b hb=>⟨(a2 b hb).1,xl b (H.e7 b (a2 b hb).1) (a2 b hb).2.1,(a2 b hb).2.2⟩⟩
 ·exact H.wq
 ·intro i pc m gr mo sz xs b hi hm fY hb
  by_cases bj:m=n
  ·subst bj
   rw[bo] at hm
   injection hm with hm
   simp only[bo]
   exact kz gr mo sz xs hm fY i pc b hi hb
  ·rw[e1 m bj] at hm
   simp only[e2 m bj]
   exact H.rv i pc m gr mo sz xs b hi hm fY hb
theorem HR.put (H:HR B E w G h used tk) {n:Nat} {blk:aj} {p:PB}
  (hw:∀b,b<w.heap.size->(p.nl=false->b≠p.b)->w'.heap[b]? =w.heap[b]?) (bn:w.heap.size<=w'.heap.size)
  (xl:∀b,b<w.heap.size->cP w b->cP w' b)
  (hu:∀m,used m=true->used' m=true) (OU:used' n=true)
  (pw:p.nl=false->¬G.Im p.b/\(B<=p.b\/E p.b)/\p.b<w'.heap.size)
  (tq:p.nl=false->∀m,m≠n->h m≠none->(G.g m).nl=false->(G.g m).b≠p.b)
  (Ow:p.nl=false->∀m gr sz xs,m≠n->h m=some (.row gr .live sz xs)->∀b,aP b (G.g m).px->b≠p.b)
  (tC:∀cs c m,blk=.box cs->c∈cs->c.ref m->used' m=true)
  (K:aR w G h (fun n=>used n=true) w' ⟨G.Im,ao G.g n p⟩ (ao h n (some blk)))
  (fP:UX B E w' ⟨G.Im,ao G.g n p⟩ (ao h n (some blk)) p blk)
  (BQ:∀gr m sz xs,blk=.row gr m sz xs->m≠ .aG->∀n' aW m' ax ak,n'≠n->h n'=some (.row aW m' ax ak)->m'≠ .aG->∀b,aP b p.px->¬aP b (G.g n').px)
  (qI:∀gr sz xs,blk=.row gr .live sz xs->∀b,aP b p.px->(p.nl=false->b≠p.b)/\∀n',n'≠n->h n'≠none->(G.g n').nl=false->b≠(G.g n').b)
  (kz:∀gr m sz xs,blk=.row gr m sz xs->m≠ .aG->∀(i:Nat) (pc:PC) (b:Nat),tk[i]? =some pc->aK b pc->¬aP b p.px)
  (kv:p.nl=false->p.b<w.heap.size->∀b,(∃m gr mo sz xs,m≠n/\h m=some (.row gr mo sz xs)/\aP b (G.g m).px)->b≠p.b):
  HR B E w' ⟨G.Im,ao G.g n p⟩ (ao h n (some blk)) used' tk:=
 H.ZS hw bn xl hu OU pw tq Ow tC (fun m cs c v _ hm hc hv=>hv.eJ K fun q hq=>H.gd m cs c q hm hc hq) fP BQ qI kz kv
theorem HR.del (H:HR B E w G h used tk) (n:Nat):HR B E w G (ao h n none) used tk:=by
 have e0:∀m b,ao h n none m=some b->h m=some b/\m≠n:=fun m b hm=>by
  by_cases bj:m=n
  ·subst bj;rw[bo] at hm;cases hm
  ·rw[bP _ _ _ _ bj] at hm;exact⟨hm,bj⟩
 have e1:∀m,ao h n none m≠none->h m≠none:=fun m hm=>by
  by_cases bj:m=n
  ·subst bj;rw[bo] at hm;exact absurd rfl hm
  ·rwa[bP _ _ _ _ bj] at hm
 have K:aR w G h (fun n=>used n=true) w G (ao h n none):=
  ⟨fun _ h=>h,fun _ _ _=>rfl,fun m _ hm=>⟨e1 m hm,rfl,rfl,rfl,rfl,rfl⟩,fun m gr sz xs _ hm=>⟨⟨gr,xs,(e0 m _ hm).1⟩,fun k j pc h1 h2=>⟨pc,h1,rfl,h2⟩⟩⟩
 refine⟨fun m hm=>H.gT m (e1 m hm),fun m cs c q hm=>H.gd m cs c q (e0 m _ hm).1,fun m cs hm=>?_,fun m gr mo sz xs hm=>H.row m gr mo sz xs (e0 m _ hm).1,
  fun m hm=>H.own m (e1 m hm),fun m m' hm bm=>H.inj m m' (e1 m hm) (e1 m' bm),H.e7,H.ov,fun m m' gr mo sz xs aW iv ax ak hm bm=>H.eV m m' gr mo sz xs aW iv ax ak (e0 m _ hm).1 (e0 m' _ bm).1,
  fun m gr sz xs hm b hb m' bm=>H.live m gr sz xs (e0 m _ hm).1 b hb m' (e1 m' bm),H.ru,H.wq,fun i pc m gr mo sz xs b hi hm=>H.rv i pc m gr mo sz xs b hi (e0 m _ hm).1⟩
 obtain⟨a1,a2,a3⟩:=H.box m cs (e0 m _ hm).1
 refine⟨a1,a2,fun j c hj=>?_⟩
 obtain⟨v,b1,b2,b3⟩:=a3 j c hj
 exact⟨v,b1,b2,b3.eJ K fun q hq=>H.gd m cs c q (e0 m _ hm).1 (List.mem_of_getElem? hj) hq⟩
theorem aR.del (n:Nat) (u:Nat->Prop):aR w G h u w G (ao h n none):=by
 have e1:∀m b,ao h n none m=some b->h m=some b:=fun m b hm=>by
  by_cases bj:m=n
  ·subst bj;rw[bo] at hm;cases hm
  ·rwa[bP _ _ _ _ bj] at hm
 refine⟨fun _ h=>h,fun _ _ _=>rfl,fun m _ hm=>?_,fun m gr sz xs _ hm=>⟨⟨gr,xs,e1 m _ hm⟩,fun k j pc h1 h2=>⟨pc,h1,rfl,h2⟩⟩⟩
 cases hh:ao h n none m with
 |none=>exact absurd hh hm
 |some b=>rw[e1 m b hh];exact⟨by simp,rfl,rfl,rfl,rfl,rfl⟩
end
end Go.Am
end
section
namespace Go.Am
theorem oW {α:Type} {px:List (List α)} {lo len k j:Nat} {c:α} (h:At ((px.drop lo).take len) k j c):At px (lo+k) j c/\k<len:=by
 obtain⟨e,he,hj⟩:=h
 rw[List.getElem?_take] at he
 split at he
 ·rename_i hk
  rw[List.getElem?_drop] at he
  exact⟨⟨e,he,hj⟩,hk⟩
 ·cases he
section
variable {B:Nat} {E:Ex} {w0 w w':World} {G G':Gh} {h h':Nat->Option aj} {used used':Nat->Bool} {tk:List PC}
def ix (p:PB) (sz lo len:Nat) (v:Value):PC:=
 match v with
 |.slice a _ cap=>.list sz a cap ((p.px.drop lo).take len)
 |_=>.bool false
theorem C0 {gr:Bool} {m:Mode} {sz:Nat} {xs:List (List C)} {p:PB} (hr:sW B E w G gr m sz xs p) {lo len:Nat} {v:Value} (hv:eU p sz lo len v) (hl:lo+len<=xs.length):
  (ix p sz lo len v).er=.list sz ((xs.drop lo).take len)/\(ix p sz lo len v).val=v/\Good w (ix p sz lo len v)/\
  (∀b,aK b (ix p sz lo len v)->(p.nl=false/\b=p.b)\/aP b p.px):=by
 have dC:p.px.length=xs.length:=by rw[hr.er];simp
 rcases hv with⟨hn,rfl,rfl,rfl⟩|⟨hn,a,rfl,hc,ha⟩
 ·have h0:=(hr.nl hn).1
  refine⟨?_,?_,?_,?_⟩
  ·simp[ix,PC.cN]
  ·simp[ix,PC.val]
  ·simp only[ix,List.drop_zero,List.take_zero];exact .nil _ _ _ hr.pos
  ·intro b hb
   simp only[ix,List.drop_zero,List.take_zero] at hb
   rw[aK.jw] at hb
   rcases hb with⟨hb,_⟩|⟨k,j,c,⟨e,he,_⟩,_⟩
   ·exact absurd rfl hb
   ·simp at he
 ·have hlen:((p.px.drop lo).take len).length=len:=by simp;omega
  refine⟨?_,?_,?_,?_⟩
  ·simp only[ix,PC.cN]
   rw[hr.er,List.map_take,List.map_drop]
  ·simp[ix,PC.val];omega
  ·simp only[ix]
   by_cases h0:(p.px.drop lo).take len=[]
   ·rw[h0];exact .nil _ _ _ hr.pos
   ·have Ov:0<len:=by
     rcases Nat.eq_zero_or_pos len with hz|hz
     ·subst hz;simp at h0
     ·exact hz
    have e:=ha (.inl (by omega))
    subst e
    obtain⟨a1,a2,a3⟩:=hr.cZ hn
    refine .cons sz p.b (p.o+lo*sz) _ _ h0 (by omega) hr.pos (fun e he=>a2.1 e (List.mem_of_mem_drop (List.mem_of_mem_take he))) (fun k j c hk=>?_) (fun k j c hk=>a2.2.2 _ _ _ (oW hk).1)
    have:=a2.2.1 _ _ _ (oW hk).1
    rw[Nat.add_mul] at this
    rw[<-this]
    congr 2
    omega
  ·intro b hb
   simp only[ix] at hb
   rw[aK.jw] at hb
   rcases hb with⟨hb,o,ho⟩|⟨k,j,c,hk,hb⟩
   ·have Ov:0<len:=by
     rcases Nat.eq_zero_or_pos len with hz|hz
     ·subst hz;simp at hb
     ·exact hz
    have e:=ha (.inl (by omega))
    rw[e] at ho
    injection ho with ho
    exact .inl ⟨hn,(jF ho).1.symm⟩
   ·exact .inr ⟨_,_,_,(oW hk).1,hb⟩
theorem HR.bQ (H:HR B E w G h used tk) {c:ab} {x:C} {v:Value} (hx:bQ h c=some x) (hc:RC w G h c v):∃pc:PC,pc.er=x/\pc.val=v/\Good w pc:=by
 cases c with
 |c y=>
  simp only[Am.bQ] at hx
  injection hx with hx
  subst hx
  obtain⟨pc,h1,h2,h3,_⟩:=hc
  exact⟨pc,h1,h2,h3⟩
 |nil sz=>
  simp only[Am.bQ] at hx
  split at hx
  ·rename_i dQ
   injection hx with hx
   subst hx
   have bZ:v=.slice none 0 0:=hc
   subst bZ
   exact⟨.list sz none 0 [],by simp[PC.cN],rfl,.nil _ _ _ dQ⟩
  ·cases hx
 |sl n sz lo len=>
  simp only[Am.bQ] at hx
  split at hx
  ·rename_i gr m rs xs hn
   split at hx
   ·rename_i bR
    obtain⟨rfl,hl⟩:=bR
    injection hx with hx
    subst hx
    have hs:eU (G.g n) rs lo len v:=hc (by rw[hn];simp)
    obtain⟨a1,a2,a3,_⟩:=C0 (H.row n gr m rs xs hn) hs hl
    exact⟨_,a1,a2,a3⟩
   ·cases hx
  ·cases hx
 |bf n k au off sz len=>
  simp only[Am.bQ] at hx
  split at hx
  ·rename_i gr rs xs hn
   split at hx
   ·rename_i bR
    subst bR
    obtain⟨pc,p1,p2,p3⟩:=hc gr xs hn
    have hr:=H.row n gr .live rs xs hn
    have aD:(G.g n).nl=false:=by
     cases hq:(G.g n).nl with
     |false=>rfl
     |true=>obtain⟨e,he,_⟩:=p1;rw[(hr.nl hq).1] at he;simp at he
    refine⟨pc,?_,p2,(hr.cZ aD).2.1.2.2 _ _ _ p1⟩
    obtain⟨e,he,hj⟩:=p1
    rw[hr.er] at hx
    simp[he,hj] at hx
    exact hx
   ·cases hx
  ·cases hx
 |ptr _ _ _ _=>simp[Am.bQ] at hx
 |cd _ _=>simp[Am.bQ] at hx
 |bK _ _ _ _ _ _=>simp[Am.bQ] at hx
 |fn _ _=>simp[Am.bQ] at hx
 |bX _ _ _ _ _ _=>simp[Am.bQ] at hx
 |aX=>simp[Am.bQ] at hx
theorem HR.gE (H:HR B E w G h used tk):∀{cs:List ab} {xs:List C} {vs:List Value},gE h cs=some xs->cb w G h cs vs->
  ∃bg:List PC,bg.map PC.er=xs/\bg.map PC.val=vs/\∀pc∈bg,Good w pc
 |[],xs,vs,hx,hc=>by
  simp only[Am.gE] at hx
  injection hx with hx
  subst hx
  have:vs=[]:=List.eq_nil_of_length_eq_zero (by simpa using hc.1)
  subst this
  exact⟨[],rfl,rfl,by simp⟩
 |c::cs,xs,vs,hx,hc=>by
  simp only[Am.gE] at hx
  split at hx
  ·rename_i x ak e1 e2
   injection hx with hx
   subst hx
   obtain⟨hlen,bO⟩:=hc
   match vs,hlen with
   |v::vs,hlen=>
    obtain⟨pc,a1,a2,a3⟩:=H.bQ e1 (bO 0 c v rfl rfl).2
    obtain⟨bg,b1,b2,b3⟩:=H.gE e2 (cs:=cs) (vs:=vs) ⟨by simpa using hlen,fun j c u h1 h2=>bO (j+1) c u h1 h2⟩
    refine⟨pc::bg,by simp[a1,b1],by simp[a2,b2],fun q hq=>?_⟩
    cases hq with
    |head=>exact a3
    |tail _ hq=>exact b3 q hq
  ·cases hx
def Au (w:World) (d:Dv) (v:Value):Prop:=
 match d.1 with
 |.one=>∃bg:List PC,bg.map PC.er=d.2/\(∀pc∈bg,Good w pc)/\bg.map PC.val=[v]
 |.agg=>∃bg:List PC,bg.map PC.er=d.2/\(∀pc∈bg,Good w pc)/\v=.agg (bg.map PC.val).toArray
 |.ptr=>∃(bg:List PC) (b o:Nat),bg.map PC.er=d.2/\v=.pointer (some (ad b o))/\b<w.heap.size/\
  ∀j c,bg[j]? =some c->w.cell? (ad b (o+j))=some c.val/\Good w c
def Dn (w:World) (ds:List Dv) (vs:List Value):Prop:=
 vs.length=ds.length/\∀(j:Nat) (d:Dv) (v:Value),ds[j]? =some d->vs[j]? =some v->Au w d v
theorem HR.gR (H:HR B E w G h used tk) {x:ah} {d:Dv} {v:Value} (hx:gR h x=some d) (hc:RA w G h x v):Au w d v:=by
 have one:∀c:ab,(Am.bQ h c).map (fun x=>((.one,[x]):Dv))=some d->RA w G h (.one c) v->Au w d v:=by
  intro c hx hc
  cases hv:Am.bQ h c with
  |none=>rw[hv] at hx;cases hx
  |some y=>
   rw[hv] at hx
   simp at hx
   subst hx
   rcases hc with rfl|hc
   ·simp[Am.bQ] at hv
   ·have bZ:cb w G h [c] [v]:=hc
    obtain⟨pc,a1,a2,a3⟩:=H.bQ hv (bZ.2 0 c v rfl rfl).2
    exact⟨[pc],by simp[a1],by simpa using a3,by simp[a2]⟩
 cases x with
 |one c=>
  cases c with
  |ptr n k sz off=>
   simp only[Am.gR] at hx
   split at hx
   ·rename_i cs hn
    split at hx
    ·rename_i bR
     obtain⟨rfl,rfl⟩:=bR
     cases hv:Am.gE h cs with
     |none=>rw[hv] at hx;cases hx
     |some xs=>
      rw[hv] at hx
      simp at hx
      subst hx
      rcases hc with hc|hc
      ·cases hc
      ·have bZ:cb w G h [.ptr n 0 sz 0] [v]:=hc
       have hp:=(bZ.2 0 _ v rfl rfl).2 (by rw[hn];simp)
       obtain⟨qL,rZ⟩:=hp
       obtain⟨q1,q2,q3⟩:=H.box n cs hn
       have bW:∀(cs:List ab) (o:Nat) (xs:List C),(∀(j:Nat) (c:ab),cs[j]? =some c->∃v,w.cell? (ad (G.g n).b (o+j))=some v/\v.oneCell'=true/\RC w G h c v)->Am.gE h cs=some xs->
         ∃bg:List PC,bg.map PC.er=xs/\∀j c,bg[j]? =some c->w.cell? (ad (G.g n).b (o+j))=some c.val/\Good w c:=by
        intro cs
        induction cs with
        |nil=>
         intro o xs _ hx
         simp only[Am.gE] at hx
         injection hx with hx
         subst hx
         exact⟨[],rfl,by simp⟩
        |cons c cs ih=>
         intro o xs fQ hx
         simp only[Am.gE] at hx
         split at hx
         ·rename_i x ak e1 e2
          injection hx with hx
          subst hx
          obtain⟨u,u1,_,u2⟩:=fQ 0 c rfl
          obtain⟨pc,a1,a2,a3⟩:=H.bQ e1 u2
          obtain⟨bg,b1,b2⟩:=ih (o+1) ak (fun j c hj=>by
           have:=fQ (j+1) c hj
           rwa[show o+(j+1)=o+1+j from by omega] at this) e2
          refine⟨pc::bg,by simp[a1,b1],fun j c hj=>?_⟩
          cases j with
          |zero=>simp at hj;subst hj;rw[a2];exact⟨u1,a3⟩
          |succ j=>
           have:=b2 j c (by simpa using hj)
           rwa[show o+1+j=o+(j+1) from by omega] at this
         ·cases hx
       obtain⟨bg,b1,b2⟩:=bW cs (G.g n).o xs q3 hv
       exact⟨bg,(G.g n).b,(G.g n).o,b1,by simpa using rZ,q2.lt,b2⟩
    ·cases hx
   ·cases hx
  |cd xs off=>
   simp only[Am.gR] at hx
   split at hx
   ·rename_i h0
    subst h0
    injection hx with hx
    subst hx
    rcases hc with hc|hc
    ·cases hc
    ·have bZ:cb w G h [.cd xs 0] [v]:=hc
     obtain⟨b,o,pe,p1,p2,p3,p4⟩:=(bZ.2 0 _ v rfl rfl).2
     exact⟨pe,b,o,p2,by simpa using p1,H.e7 b p3,fun j c hj=>⟨(p4 j c hj).1,(p4 j c hj).2.1⟩⟩
   ·cases hx
  |c y=>exact one (.c y) hx hc
  |nil sz=>exact one (.nil sz) hx hc
  |sl n sz lo len=>exact one (.sl n sz lo len) hx hc
  |bf n k au off sz len=>exact one (.bf n k au off sz len) hx hc
  |bX n k au off sz i=>exact one (.bX n k au off sz i) hx hc
  |bK xs off j n sz len=>exact one (.bK xs off j n sz len) hx hc
  |fn f bI=>exact one (.fn f bI) hx hc
  |aX=>exact one .aX hx hc
 |agg cs=>
  simp only[Am.gR] at hx
  cases hv:Am.gE h cs with
  |none=>rw[hv] at hx;cases hx
  |some xs=>
   rw[hv] at hx
   simp at hx
   subst hx
   obtain⟨vs,e,hl⟩:∃vs:List Value,v=.agg vs.toArray/\cb w G h cs vs:=hc
   obtain⟨bg,a1,a2,a3⟩:=H.gE hv hl
   exact⟨bg,a1,a3,by rw[e,a2]⟩
 |bk xs=>simp[Am.gR] at hx
theorem HR.ji (H:HR B E w G h used tk):∀{xs:List ah} {ds:List Dv} {vs:List Value},ji h xs=some ds->vs.length=xs.length->
  (∀(j:Nat) (x:ah) (v:Value),xs[j]? =some x->vs[j]? =some v->RA w G h x v)->Dn w ds vs
 |[],ds,vs,hx,hl,hc=>by
  simp only[Am.ji] at hx
  injection hx with hx
  subst hx
  exact⟨by simpa using hl,by simp⟩
 |x::xs,ds,vs,hx,hl,hc=>by
  simp only[Am.ji] at hx
  split at hx
  ·rename_i d tf e1 e2
   injection hx with hx
   subst hx
   match vs,hl with
   |v::vs,hl=>
    have a:=H.gR e1 (hc 0 x v rfl rfl)
    obtain⟨b1,b2⟩:=H.ji e2 (xs:=xs) (vs:=vs) (by simpa using hl) (fun j x v h1 h2=>hc (j+1) x v h1 h2)
    refine⟨by simp[b1],fun j d v hj hv=>?_⟩
    cases j with
    |zero=>simp at hj hv;subst hj;subst hv;exact a
    |succ j=>exact b2 j d v (by simpa using hj) (by simpa using hv)
  ·cases hx
end
end Go.Am
end
