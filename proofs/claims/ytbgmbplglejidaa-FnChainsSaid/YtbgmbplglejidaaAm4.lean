/- Am4: what becomes of the relation when the world or the heap of names changes. No condition. -/
import Derived.Test.YtbgmbplglejidaaAm3
set_option linter.unusedVariables false
namespace Go.Am
section
variable {B:Nat} {E:Ex} {w0 w w':World} {G G':Gh} {h h':Nat->Option ao} {used used':Nat->Bool} {tk:List PC}
theorem bc.refl (w:World) (G:Gh) (h:Nat->Option ao) (u:Nat->Prop):bc w G h u w G h:=
 ⟨fun _ h=>h,fun _ _ _=>rfl,fun _ _ h=>⟨h,rfl,rfl,rfl,rfl,rfl⟩,fun n gr sz xs _ hn=>⟨⟨gr,xs,hn⟩,fun k j pc h1 h2=>⟨pc,h1,rfl,h2⟩⟩⟩
theorem bc.trans {w1 w2 w3:World} {G1 G2 G3:Gh} {h1 h2 h3:Nat->Option ao} {u u2:Nat->Prop} (hu:∀n,u n->u2 n)
  (a:bc w1 G1 h1 u w2 G2 h2) (b:bc w2 G2 h2 u2 w3 G3 h3):bc w1 G1 h1 u w3 G3 h3:=by
 refine⟨fun x hx=>b.im x (a.im x hx),fun x hx o=>(b.cell x (a.im x hx) o).trans (a.cell x hx o),fun n hn h=>?_,fun n gr sz xs hn h=>?_⟩
 ·obtain⟨c0,c1,c2,c3,c4,c5⟩:=b.name n (hu n hn) h
  obtain⟨d0,d1,d2,d3,d4,d5⟩:=a.name n hn c0
  exact⟨d0,c1.trans d1,c2.trans d2,c3.trans d3,c4.trans d4,c5.trans d5⟩
 ·obtain⟨⟨AM,ii,e2⟩,l2⟩:=b.live n gr sz xs (hu n hn) h
  obtain⟨e1,l1⟩:=a.live n AM sz ii hn e2
  refine⟨e1,fun k j pc p1 p2=>?_⟩
  obtain⟨q,q1,q2,q3⟩:=l1 k j pc p1 p2
  obtain⟨r,r1,r2,r3⟩:=l2 k j q q1 q3
  exact⟨r,r1,r2.trans q2,r3⟩
theorem bc.world (mA:∀b,G.Im b->w'.heap[b]? =w.heap[b]?) (u:Nat->Prop):bc w G h u w' G h:=
 ⟨fun _ h=>h,fun b hb o=>iF (mA b hb) o,fun _ _ h=>⟨h,rfl,rfl,rfl,rfl,rfl⟩,fun n gr sz xs _ hn=>⟨⟨gr,xs,hn⟩,fun k j pc h1 h2=>⟨pc,h1,rfl,h2⟩⟩⟩
theorem HR.qI (H:HR B E w G h used tk) {n:Nat} {gr:Bool} {m:Mode} {sz:Nat} {xs:List (List C)} (hn:h n=some (.row gr m sz xs)) {b:Nat} (hb:aV b (G.g n).px):b<w.heap.size:=by
 have hr:=H.row n gr m sz xs hn
 cases aL:(G.g n).nl with
 |true=>obtain⟨k,j,c,⟨e,he,_⟩,_⟩:=hb;rw[(hr.nl aL).1] at he;simp at he
 |false=>exact(hr.dR aL).2.1.lt hb
theorem HR.grow (H:HR B E w G h used tk) (hw:∀b,b<w.heap.size->w'.heap[b]? =w.heap[b]?) (bD:w.heap.size<=w'.heap.size):HR B E w' G h used tk:=by
 have K:bc w G h (fun n=>used n=true) w' G h:=bc.world (fun b hb=>hw b (H.fW b hb)) _
 have sO:∀b,dD w b->dD w' b:=fun b hb=>hb.congr (hw b hb.lt)
 refine⟨H.iG,H.gH,fun n cs hn=>?_,fun n gr m sz xs hn=>?_,fun n hn hl=>?_,H.inj,fun b hb=>Nat.lt_of_lt_of_le (H.fW b hb) bD,H.pf,H.fJ,H.live,fun i pc hi=>?_,H.vc,H.qQ⟩
 ·obtain⟨h1,h2,h3⟩:=H.box n cs hn
  refine⟨h1,sO _ h2,fun j c hj=>?_⟩
  obtain⟨v,a1,a2,a3⟩:=h3 j c hj
  exact⟨v,(iF (hw _ h2.lt) _).trans a1,a2,a3.fe K fun m hm=>H.gH n cs c m hn (List.mem_of_getElem? hj) hm⟩
 ·have hr:=H.row n gr m sz xs hn
  refine⟨hr.pos,hr.er,hr.nl,fun hl=>?_,fun hl hg=>?_,?_⟩
  ·obtain⟨a1,a2,a3⟩:=hr.dR hl
   exact⟨sO _ a1,a2.congr (fun o=>iF (hw _ a1.lt) o) (fun b' aY o=>iF (hw _ (a2.lt aY)) o),a3⟩
  ·obtain⟨r2,cur,e,r3,r4⟩:=hr.room hl hg
   exact⟨r2,cur,e,(hw _ (hr.dR hl).1.lt).trans r3,r4⟩
  ·have hm:=hr.mode
   cases m with
   |aD=>exact hm
   |ae=>exact⟨fun b hb=>⟨(hm.1 b hb).1,sO _ (hm.1 b hb).2.1,(hm.1 b hb).2.2⟩,hm.2⟩
   |live=>exact⟨fun b hb=>⟨(hm.1 b hb).1,sO _ (hm.1 b hb).2.1,(hm.1 b hb).2.2⟩,hm.2⟩
 ·obtain⟨a1,a2,a3⟩:=H.own n hn hl
  exact⟨a1,a2,Nat.lt_of_lt_of_le a3 bD⟩
 ·obtain⟨a1,a2⟩:=H.qP i pc hi
  exact⟨a1,fun b hb=>⟨(a2 b hb).1,sO _ (a2 b hb).2.1,(a2 b hb).2.2⟩⟩
theorem Fr.refl (B:Nat) (E:Ex) (w0:World) (hB:B<=w0.heap.size):Fr B E w0 w0:=
 ⟨rfl,rfl,rfl,hB,fun _ _ _=>rfl,fun _ _=>Cz.refl _ _⟩
theorem Fr.grow (F:Fr B E w0 w) (hw:∀b,b<w.heap.size->w'.heap[b]? =w.heap[b]?) (bD:w.heap.size<=w'.heap.size) (ho:w'.os=w.os) (ht:w'.tape=w.tape) (hp:w'.output=w.output):Fr B E w0 w':=
 ⟨ho.trans F.os,ht.trans F.tape,hp.trans F.output,Nat.le_trans F.size bD,fun b hb he=>(hw b (Nat.lt_of_lt_of_le hb F.size)).trans (F.block b hb he),
  fun b hb=>(F.ie b hb).trans (Cz.of_eq (hw b (Nat.lt_of_lt_of_le hb F.size)))⟩
theorem Fr.one (F:Fr B E w0 w) {b0:Nat} (tZ:B<=b0\/E b0) (hw:∀b,b<w.heap.size->b≠b0->w'.heap[b]? =w.heap[b]?) (bD:w.heap.size<=w'.heap.size)
  (hu:Cz w w' b0) (ho:w'.os=w.os) (ht:w'.tape=w.tape) (hp:w'.output=w.output):Fr B E w0 w':=by
 refine⟨ho.trans F.os,ht.trans F.tape,hp.trans F.output,Nat.le_trans F.size bD,fun b hb he=>?_,fun b hb=>?_⟩
 ·refine(hw b (Nat.lt_of_lt_of_le hb F.size) ?_).trans (F.block b hb he)
  rintro rfl
  rcases tZ with h1|h1
  ·omega
  ·exact he h1
 ·by_cases AU:b=b0
  ·subst AU;exact(F.ie b hb).trans hu
  ·exact(F.ie b hb).trans (Cz.of_eq (hw b (Nat.lt_of_lt_of_le hb F.size) AU))
def ade (B:Nat) (E:Ex) (w:World) (G:Gh) (h:Nat->Option ao) (p:PB):ao->Prop
 |.box cs=>p.nl=false/\dD w p.b/\∀(j:Nat) (c:ah),cs[j]? =some c->∃v,w.cell? (ad p.b (p.o+j))=some v/\v.oneCell'=true/\RC w G h c v
 |.row gr m sz xs=>tC B E w G gr m sz xs p
theorem HR.put (H:HR B E w G h used tk) {n:Nat} {blk:ao} {p:PB}
  (hw:∀b,b<w.heap.size->(p.nl=false->b≠p.b)->w'.heap[b]? =w.heap[b]?) (bD:w.heap.size<=w'.heap.size)
  (Bk:∀b,b<w.heap.size->dD w b->dD w' b)
  (hu:∀m,used m=true->used' m=true) (ahD:used' n=true)
  (rA:p.nl=false->¬G.Im p.b/\(B<=p.b\/E p.b)/\p.b<w'.heap.size)
  (vY:p.nl=false->∀m,m≠n->h m≠none->(G.g m).nl=false->(G.g m).b≠p.b)
  (ahj:p.nl=false->∀m gr sz xs,m≠n->h m=some (.row gr .live sz xs)->∀b,aV b (G.g m).px->b≠p.b)
  (wm:∀cs c m,blk=.box cs->c∈cs->c.ref m->used' m=true)
  (K:bc w G h (fun n=>used n=true) w' ⟨G.Im,au G.g n p⟩ (au h n (some blk)))
  (gV:ade B E w' ⟨G.Im,au G.g n p⟩ (au h n (some blk)) p blk)
  (IG:∀gr m sz xs,blk=.row gr m sz xs->m≠ .aD->∀n' bk m' aJ aq,n'≠n->h n'=some (.row bk m' aJ aq)->m'≠ .aD->∀b,aV b p.px->¬aV b (G.g n').px)
  (sH:∀gr sz xs,blk=.row gr .live sz xs->∀b,aV b p.px->(p.nl=false->b≠p.b)/\∀n',n'≠n->h n'≠none->(G.g n').nl=false->b≠(G.g n').b)
  (wh:∀gr m sz xs,blk=.row gr m sz xs->m≠ .aD->∀(i:Nat) (pc:PC) (b:Nat),tk[i]? =some pc->aS b pc->¬aV b p.px)
  (mA:p.nl=false->p.b<w.heap.size->∀b,(∃m gr mo sz xs,m≠n/\h m=some (.row gr mo sz xs)/\aV b (G.g m).px)->b≠p.b):
  HR B E w' ⟨G.Im,au G.g n p⟩ (au h n (some blk)) used' tk:=by
 have e1:∀m,m≠n->au h n (some blk) m=h m:=fun m hm=>cq _ _ _ _ hm
 have e2:∀m,m≠n->au G.g n p m=G.g m:=fun m hm=>cq _ _ _ _ hm
 have Bc:∀m,m≠n->h m≠none->(G.g m).nl=false->w'.heap[(G.g m).b]? =w.heap[(G.g m).b]? :=fun m hm h0 hl=>
  hw _ (H.own m h0 hl).2.2 (fun hp=>vY hp m hm h0 hl)
 refine⟨?_,?_,?_,?_,?_,?_,?_,H.pf,?_,?_,?_,?_,?_⟩
 ·intro m hm
  by_cases bE:m=n
  ·subst bE;exact ahD
  ·rw[e1 m bE] at hm;exact hu m (H.iG m hm)
 ·intro m cs c q hm hc hr
  by_cases bE:m=n
  ·subst bE
   rw[bF] at hm
   injection hm with hm
   exact wm cs c q hm hc hr
  ·rw[e1 m bE] at hm;exact hu q (H.gH m cs c q hm hc hr)
 ·intro m cs hm
  by_cases bE:m=n
  ·subst bE
   rw[bF] at hm
   injection hm with hm
   subst hm
   simp only[bF]
   exact gV
  ·rw[e1 m bE] at hm
   simp only[e2 m bE]
   obtain⟨a1,a2,a3⟩:=H.box m cs hm
   have hs:=Bc m bE (by rw[hm];simp) a1
   refine⟨a1,a2.congr hs,fun j c hj=>?_⟩
   obtain⟨v,b1,b2,b3⟩:=a3 j c hj
   exact⟨v,(iF hs _).trans b1,b2,b3.fe K fun q hq=>H.gH m cs c q hm (List.mem_of_getElem? hj) hq⟩
 ·intro m gr mo sz xs hm
  by_cases bE:m=n
  ·subst bE
   rw[bF] at hm
   injection hm with hm
   subst hm
   simp only[bF]
   exact gV
  ·rw[e1 m bE] at hm
   simp only[e2 m bE]
   have hr:=H.row m gr mo sz xs hm
   have hf:∀b,aV b (G.g m).px->w'.heap[b]? =w.heap[b]? :=fun b hb=>
    hw b (H.qI hm hb) (fun hp d9=>by
     by_cases bG:p.b<w.heap.size
     ·exact mA hp bG b ⟨m,gr,mo,sz,xs,bE,hm,hb⟩ d9
     ·have:=H.qI hm hb;omega)
   refine⟨hr.pos,hr.er,hr.nl,fun hl=>?_,fun hl hg=>?_,?_⟩
   ·have hs:=Bc m bE (by rw[hm];simp) hl
    obtain⟨a1,a2,a3⟩:=hr.dR hl
    exact⟨a1.congr hs,a2.congr (fun o=>iF hs o) (fun b' aY o=>iF (hf b' aY) o),a3⟩
   ·have hs:=Bc m bE (by rw[hm];simp) hl
    obtain⟨r2,cur,e,r3,r4⟩:=hr.room hl hg
    exact⟨r2,cur,e,hs.trans r3,r4⟩
   ·have cX:=hr.mode
    cases mo with
    |aD=>exact cX
    |ae=>exact⟨fun b hb=>⟨(cX.1 b hb).1,(cX.1 b hb).2.1.congr (hf b hb),(cX.1 b hb).2.2⟩,cX.2⟩
    |live=>exact⟨fun b hb=>⟨(cX.1 b hb).1,(cX.1 b hb).2.1.congr (hf b hb),(cX.1 b hb).2.2⟩,cX.2⟩
 ·intro m hm hl
  by_cases bE:m=n
  ·subst bE
   simp only[bF] at hl⊢
   exact rA hl
  ·rw[e1 m bE] at hm
   simp only[e2 m bE] at hl⊢
   obtain⟨a1,a2,a3⟩:=H.own m hm hl
   exact⟨a1,a2,Nat.lt_of_lt_of_le a3 bD⟩
 ·intro m m' hm bJ aB hl dw
  by_cases bE:m=n
  ·subst bE
   have iu:m'≠m:=fun e=>aB e.symm
   rw[e1 m' iu] at bJ
   simp only[bF,e2 m' iu] at hl dw⊢
   exact fun e=>vY hl m' iu bJ dw e.symm
  ·rw[e1 m bE] at hm
   by_cases iu:m'=n
   ·subst iu
    simp only[bF,e2 m bE] at hl dw⊢
    exact vY dw m bE hm hl
   ·rw[e1 m' iu] at bJ
    simp only[e2 m bE,e2 m' iu] at hl dw⊢
    exact H.inj m m' hm bJ aB hl dw
 ·exact fun b hb=>Nat.lt_of_lt_of_le (H.fW b hb) bD
 ·intro m m' gr mo sz xs bk mS aJ aq hm bJ hb aY aB b cF
  by_cases bE:m=n
  ·subst bE
   have iu:m'≠m:=fun e=>aB e.symm
   rw[e1 m' iu] at bJ
   rw[bF] at hm
   injection hm with hm
   simp only[bF,e2 m' iu] at cF⊢
   exact IG gr mo sz xs hm hb m' bk mS aJ aq iu bJ aY b cF
  ·rw[e1 m bE] at hm
   by_cases iu:m'=n
   ·subst iu
    rw[bF] at bJ
    injection bJ with bJ
    simp only[bF,e2 m bE] at cF⊢
    exact fun NV=>IG bk mS aJ aq bJ aY m gr mo sz xs bE hm hb b NV cF
   ·rw[e1 m' iu] at bJ
    simp only[e2 m bE,e2 m' iu] at cF⊢
    exact H.fJ m m' gr mo sz xs bk mS aJ aq hm bJ hb aY aB b cF
 ·intro m gr sz xs hm b hb m' bJ dw
  by_cases bE:m=n
  ·subst bE
   rw[bF] at hm
   injection hm with hm
   simp only[bF] at hb
   have:=sH gr sz xs hm b hb
   by_cases iu:m'=m
   ·subst iu;simp only[bF] at dw⊢;exact this.1 dw
   ·rw[e1 m' iu] at bJ
    simp only[e2 m' iu] at dw⊢
    exact this.2 m' iu bJ dw
  ·rw[e1 m bE] at hm
   simp only[e2 m bE] at hb
   by_cases iu:m'=n
   ·subst iu
    simp only[bF] at dw⊢
    exact ahj dw m gr sz xs bE hm b hb
   ·rw[e1 m' iu] at bJ
    simp only[e2 m' iu] at dw⊢
    exact H.live m gr sz xs hm b hb m' bJ dw
 ·intro i pc hi
  obtain⟨a1,a2⟩:=H.qP i pc hi
  exact⟨a1,fun b hb=>⟨(a2 b hb).1,Bk b (H.fW b (a2 b hb).1) (a2 b hb).2.1,(a2 b hb).2.2⟩⟩
 ·exact H.vc
 ·intro i pc m gr mo sz xs b hi hm iZ hb
  by_cases bE:m=n
  ·subst bE
   rw[bF] at hm
   injection hm with hm
   simp only[bF]
   exact wh gr mo sz xs hm iZ i pc b hi hb
  ·rw[e1 m bE] at hm
   simp only[e2 m bE]
   exact H.qQ i pc m gr mo sz xs b hi hm iZ hb
theorem HR.del (H:HR B E w G h used tk) (n:Nat):HR B E w G (au h n none) used tk:=by
 have e0:∀m b,au h n none m=some b->h m=some b/\m≠n:=fun m b hm=>by
  by_cases bE:m=n
  ·subst bE;rw[bF] at hm;cases hm
  ·rw[cq _ _ _ _ bE] at hm;exact⟨hm,bE⟩
 have e1:∀m,au h n none m≠none->h m≠none:=fun m hm=>by
  by_cases bE:m=n
  ·subst bE;rw[bF] at hm;exact absurd rfl hm
  ·rwa[cq _ _ _ _ bE] at hm
 have K:bc w G h (fun n=>used n=true) w G (au h n none):=
  ⟨fun _ h=>h,fun _ _ _=>rfl,fun m _ hm=>⟨e1 m hm,rfl,rfl,rfl,rfl,rfl⟩,fun m gr sz xs _ hm=>⟨⟨gr,xs,(e0 m _ hm).1⟩,fun k j pc h1 h2=>⟨pc,h1,rfl,h2⟩⟩⟩
 refine⟨fun m hm=>H.iG m (e1 m hm),fun m cs c q hm=>H.gH m cs c q (e0 m _ hm).1,fun m cs hm=>?_,fun m gr mo sz xs hm=>H.row m gr mo sz xs (e0 m _ hm).1,
  fun m hm=>H.own m (e1 m hm),fun m m' hm bJ=>H.inj m m' (e1 m hm) (e1 m' bJ),H.fW,H.pf,fun m m' gr mo sz xs bk mS aJ aq hm bJ=>H.fJ m m' gr mo sz xs bk mS aJ aq (e0 m _ hm).1 (e0 m' _ bJ).1,
  fun m gr sz xs hm b hb m' bJ=>H.live m gr sz xs (e0 m _ hm).1 b hb m' (e1 m' bJ),H.qP,H.vc,fun i pc m gr mo sz xs b hi hm=>H.qQ i pc m gr mo sz xs b hi (e0 m _ hm).1⟩
 obtain⟨a1,a2,a3⟩:=H.box m cs (e0 m _ hm).1
 refine⟨a1,a2,fun j c hj=>?_⟩
 obtain⟨v,b1,b2,b3⟩:=a3 j c hj
 exact⟨v,b1,b2,b3.fe K fun q hq=>H.gH m cs c q (e0 m _ hm).1 (List.mem_of_getElem? hj) hq⟩
theorem bc.del (n:Nat) (u:Nat->Prop):bc w G h u w G (au h n none):=by
 have e1:∀m b,au h n none m=some b->h m=some b:=fun m b hm=>by
  by_cases bE:m=n
  ·subst bE;rw[bF] at hm;cases hm
  ·rwa[cq _ _ _ _ bE] at hm
 refine⟨fun _ h=>h,fun _ _ _=>rfl,fun m _ hm=>?_,fun m gr sz xs _ hm=>⟨⟨gr,xs,e1 m _ hm⟩,fun k j pc h1 h2=>⟨pc,h1,rfl,h2⟩⟩⟩
 cases hh:au h n none m with
 |none=>exact absurd hh hm
 |some b=>rw[e1 m b hh];exact⟨by simp,rfl,rfl,rfl,rfl,rfl⟩
end
end Go.Am
