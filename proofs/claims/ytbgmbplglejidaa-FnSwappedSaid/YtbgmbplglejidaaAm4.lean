/- Am4: what becomes of the relation when the world or the heap of names changes. No condition. -/
import Derived.Test.YtbgmbplglejidaaAm3
set_option linter.unusedVariables false
namespace Go.Am
section
variable {B:Nat} {E:Ex} {w0 w w':World} {G G':Gh} {h h':Nat->Option ar} {used used':Nat->Bool} {tk:List PC}
theorem bf.refl (w:World) (G:Gh) (h:Nat->Option ar) (u:Nat->Prop):bf w G h u w G h:=
 ⟨fun _ h=>h,fun _ _ _=>rfl,fun _ _ h=>⟨h,rfl,rfl,rfl,rfl,rfl⟩,fun n gr sz xs _ hn=>⟨⟨gr,xs,hn⟩,fun k j pc h1 h2=>⟨pc,h1,rfl,h2⟩⟩⟩
theorem bf.trans {w1 w2 w3:World} {G1 G2 G3:Gh} {h1 h2 h3:Nat->Option ar} {u u2:Nat->Prop} (hu:∀n,u n->u2 n)
  (a:bf w1 G1 h1 u w2 G2 h2) (b:bf w2 G2 h2 u2 w3 G3 h3):bf w1 G1 h1 u w3 G3 h3:=by
 refine⟨fun x hx=>b.im x (a.im x hx),fun x hx o=>(b.cell x (a.im x hx) o).trans (a.cell x hx o),fun n hn h=>?_,fun n gr sz xs hn h=>?_⟩
 ·obtain⟨c0,c1,c2,c3,c4,c5⟩:=b.name n (hu n hn) h
  obtain⟨d0,d1,d2,d3,d4,d5⟩:=a.name n hn c0
  exact⟨d0,c1.trans d1,c2.trans d2,c3.trans d3,c4.trans d4,c5.trans d5⟩
 ·obtain⟨⟨BX,iH,e2⟩,l2⟩:=b.live n gr sz xs (hu n hn) h
  obtain⟨e1,l1⟩:=a.live n BX sz iH hn e2
  refine⟨e1,fun k j pc p1 p2=>?_⟩
  obtain⟨q,q1,q2,q3⟩:=l1 k j pc p1 p2
  obtain⟨r,r1,r2,r3⟩:=l2 k j q q1 q3
  exact⟨r,r1,r2.trans q2,r3⟩
theorem bf.world (m5:∀b,G.Im b->w'.heap[b]? =w.heap[b]?) (u:Nat->Prop):bf w G h u w' G h:=
 ⟨fun _ h=>h,fun b hb o=>ja (m5 b hb) o,fun _ _ h=>⟨h,rfl,rfl,rfl,rfl,rfl⟩,fun n gr sz xs _ hn=>⟨⟨gr,xs,hn⟩,fun k j pc h1 h2=>⟨pc,h1,rfl,h2⟩⟩⟩
theorem HR.rz (H:HR B E w G h used tk) {n:Nat} {gr:Bool} {m:Mode} {sz:Nat} {xs:List (List C)} (hn:h n=some (.row gr m sz xs)) {b:Nat} (hb:aZ b (G.g n).px):b<w.heap.size:=by
 have hr:=H.row n gr m sz xs hn
 cases aN:(G.g n).nl with
 |true=>obtain⟨k,j,c,⟨e,he,_⟩,_⟩:=hb;rw[(hr.nl aN).1] at he;simp at he
 |false=>exact(hr.dW aN).2.1.lt hb
theorem HR.grow (H:HR B E w G h used tk) (hw:∀b,b<w.heap.size->w'.heap[b]? =w.heap[b]?) (bP:w.heap.size<=w'.heap.size):HR B E w' G h used tk:=by
 have K:bf w G h (fun n=>used n=true) w' G h:=bf.world (fun b hb=>hw b (H.gi b hb)) _
 have tB:∀b,dK w b->dK w' b:=fun b hb=>hb.congr (hw b hb.lt)
 refine⟨H.jc,H.g8,fun n cs hn=>?_,fun n gr m sz xs hn=>?_,fun n hn hl=>?_,H.inj,fun b hb=>Nat.lt_of_lt_of_le (H.gi b hb) bP,H.pZ,H.fV,H.live,fun i pc hi=>?_,H.vP,H.rG⟩
 ·obtain⟨h1,h2,h3⟩:=H.box n cs hn
  refine⟨h1,tB _ h2,fun j c hj=>?_⟩
  obtain⟨v,a1,a2,a3⟩:=h3 j c hj
  exact⟨v,(ja (hw _ h2.lt) _).trans a1,a2,a3.ft K fun m hm=>H.g8 n cs c m hn (List.mem_of_getElem? hj) hm⟩
 ·have hr:=H.row n gr m sz xs hn
  refine⟨hr.pos,hr.er,hr.nl,fun hl=>?_,fun hl hg=>?_,?_⟩
  ·obtain⟨a1,a2,a3⟩:=hr.dW hl
   exact⟨tB _ a1,a2.congr (fun o=>ja (hw _ a1.lt) o) (fun b' be o=>ja (hw _ (a2.lt be)) o),a3⟩
  ·obtain⟨r2,cur,e,r3,r4⟩:=hr.room hl hg
   exact⟨r2,cur,e,(hw _ (hr.dW hl).1.lt).trans r3,r4⟩
  ·have hm:=hr.mode
   cases m with
   |aG=>exact hm
   |ae=>exact⟨fun b hb=>⟨(hm.1 b hb).1,tB _ (hm.1 b hb).2.1,(hm.1 b hb).2.2⟩,hm.2⟩
   |live=>exact⟨fun b hb=>⟨(hm.1 b hb).1,tB _ (hm.1 b hb).2.1,(hm.1 b hb).2.2⟩,hm.2⟩
 ·obtain⟨a1,a2,a3⟩:=H.own n hn hl
  exact⟨a1,a2,Nat.lt_of_lt_of_le a3 bP⟩
 ·obtain⟨a1,a2⟩:=H.rF i pc hi
  exact⟨a1,fun b hb=>⟨(a2 b hb).1,tB _ (a2 b hb).2.1,(a2 b hb).2.2⟩⟩
theorem Fr.refl (B:Nat) (E:Ex) (w0:World) (hB:B<=w0.heap.size):Fr B E w0 w0:=
 ⟨rfl,rfl,rfl,hB,fun _ _ _=>rfl,fun _ _=>Cz.refl _ _⟩
theorem Fr.grow (F:Fr B E w0 w) (hw:∀b,b<w.heap.size->w'.heap[b]? =w.heap[b]?) (bP:w.heap.size<=w'.heap.size) (ho:w'.os=w.os) (ht:w'.tape=w.tape) (hp:w'.output=w.output):Fr B E w0 w':=
 ⟨ho.trans F.os,ht.trans F.tape,hp.trans F.output,Nat.le_trans F.size bP,fun b hb he=>(hw b (Nat.lt_of_lt_of_le hb F.size)).trans (F.block b hb he),
  fun b hb=>(F.jq b hb).trans (Cz.of_eq (hw b (Nat.lt_of_lt_of_le hb F.size)))⟩
theorem Fr.one (F:Fr B E w0 w) {b0:Nat} (uU:B<=b0\/E b0) (hw:∀b,b<w.heap.size->b≠b0->w'.heap[b]? =w.heap[b]?) (bP:w.heap.size<=w'.heap.size)
  (hu:Cz w w' b0) (ho:w'.os=w.os) (ht:w'.tape=w.tape) (hp:w'.output=w.output):Fr B E w0 w':=by
 refine⟨ho.trans F.os,ht.trans F.tape,hp.trans F.output,Nat.le_trans F.size bP,fun b hb he=>?_,fun b hb=>?_⟩
 ·refine(hw b (Nat.lt_of_lt_of_le hb F.size) ?_).trans (F.block b hb he)
  rintro rfl
  rcases uU with h1|h1
  ·omega
  ·exact he h1
 ·by_cases B3:b=b0
  ·subst B3;exact(F.jq b hb).trans hu
  ·exact(F.jq b hb).trans (Cz.of_eq (hw b (Nat.lt_of_lt_of_le hb F.size) B3))
def aeZ (B:Nat) (E:Ex) (w:World) (G:Gh) (h:Nat->Option ar) (p:PB):ar->Prop
 |.box cs=>p.nl=false/\dK w p.b/\∀(j:Nat) (c:aj),cs[j]? =some c->∃v,w.cell? (ad p.b (p.o+j))=some v/\v.oneCell'=true/\RC w G h c v
 |.row gr m sz xs=>uv B E w G gr m sz xs p
theorem HR.put (H:HR B E w G h used tk) {n:Nat} {blk:ar} {p:PB}
  (hw:∀b,b<w.heap.size->(p.nl=false->b≠p.b)->w'.heap[b]? =w.heap[b]?) (bP:w.heap.size<=w'.heap.size)
  (Cr:∀b,b<w.heap.size->dK w b->dK w' b)
  (hu:∀m,used m=true->used' m=true) (ajx:used' n=true)
  (si:p.nl=false->¬G.Im p.b/\(B<=p.b\/E p.b)/\p.b<w'.heap.size)
  (wU:p.nl=false->∀m,m≠n->h m≠none->(G.g m).nl=false->(G.g m).b≠p.b)
  (ai9:p.nl=false->∀m gr sz xs,m≠n->h m=some (.row gr .live sz xs)->∀b,aZ b (G.g m).px->b≠p.b)
  (xc:∀cs c m,blk=.box cs->c∈cs->c.ref m->used' m=true)
  (K:bf w G h (fun n=>used n=true) w' ⟨G.Im,aA G.g n p⟩ (aA h n (some blk)))
  (iv:aeZ B E w' ⟨G.Im,aA G.g n p⟩ (aA h n (some blk)) p blk)
  (J2:∀gr m sz xs,blk=.row gr m sz xs->m≠ .aG->∀n' bo m' aJ au,n'≠n->h n'=some (.row bo m' aJ au)->m'≠ .aG->∀b,aZ b p.px->¬aZ b (G.g n').px)
  (tu:∀gr sz xs,blk=.row gr .live sz xs->∀b,aZ b p.px->(p.nl=false->b≠p.b)/\∀n',n'≠n->h n'≠none->(G.g n').nl=false->b≠(G.g n').b)
  (Cm:∀gr m sz xs,blk=.row gr m sz xs->m≠ .aG->∀(i:Nat) (pc:PC) (b:Nat),tk[i]? =some pc->aX b pc->¬aZ b p.px)
  (m5:p.nl=false->p.b<w.heap.size->∀b,(∃m gr mo sz xs,m≠n/\h m=some (.row gr mo sz xs)/\aZ b (G.g m).px)->b≠p.b):
  HR B E w' ⟨G.Im,aA G.g n p⟩ (aA h n (some blk)) used' tk:=by
 have e1:∀m,m≠n->aA h n (some blk) m=h m:=fun m hm=>cE _ _ _ _ hm
 have e2:∀m,m≠n->aA G.g n p m=G.g m:=fun m hm=>cE _ _ _ _ hm
 have zp:∀m,m≠n->h m≠none->(G.g m).nl=false->w'.heap[(G.g m).b]? =w.heap[(G.g m).b]? :=fun m hm h0 hl=>
  hw _ (H.own m h0 hl).2.2 (fun hp=>wU hp m hm h0 hl)
 refine⟨?_,?_,?_,?_,?_,?_,?_,H.pZ,?_,?_,?_,?_,?_⟩
 ·intro m hm
  by_cases bL:m=n
  ·subst bL;exact ajx
  ·rw[e1 m bL] at hm;exact hu m (H.jc m hm)
 ·intro m cs c q hm hc hr
  by_cases bL:m=n
  ·subst bL
   rw[bN] at hm
   injection hm with hm
   exact xc cs c q hm hc hr
  ·rw[e1 m bL] at hm;exact hu q (H.g8 m cs c q hm hc hr)
 ·intro m cs hm
  by_cases bL:m=n
  ·subst bL
   rw[bN] at hm
   injection hm with hm
   subst hm
   simp only[bN]
   exact iv
  ·rw[e1 m bL] at hm
   simp only[e2 m bL]
   obtain⟨a1,a2,a3⟩:=H.box m cs hm
   have hs:=zp m bL (by rw[hm];simp) a1
   refine⟨a1,a2.congr hs,fun j c hj=>?_⟩
   obtain⟨v,b1,b2,b3⟩:=a3 j c hj
   exact⟨v,(ja hs _).trans b1,b2,b3.ft K fun q hq=>H.g8 m cs c q hm (List.mem_of_getElem? hj) hq⟩
 ·intro m gr mo sz xs hm
  by_cases bL:m=n
  ·subst bL
   rw[bN] at hm
   injection hm with hm
   subst hm
   simp only[bN]
   exact iv
  ·rw[e1 m bL] at hm
   simp only[e2 m bL]
   have hr:=H.row m gr mo sz xs hm
   have hf:∀b,aZ b (G.g m).px->w'.heap[b]? =w.heap[b]? :=fun b hb=>
    hw b (H.rz hm hb) (fun hp ez=>by
     by_cases bK:p.b<w.heap.size
     ·exact m5 hp bK b ⟨m,gr,mo,sz,xs,bL,hm,hb⟩ ez
     ·have:=H.rz hm hb;omega)
   refine⟨hr.pos,hr.er,hr.nl,fun hl=>?_,fun hl hg=>?_,?_⟩
   ·have hs:=zp m bL (by rw[hm];simp) hl
    obtain⟨a1,a2,a3⟩:=hr.dW hl
    exact⟨a1.congr hs,a2.congr (fun o=>ja hs o) (fun b' be o=>ja (hf b' be) o),a3⟩
   ·have hs:=zp m bL (by rw[hm];simp) hl
    obtain⟨r2,cur,e,r3,r4⟩:=hr.room hl hg
    exact⟨r2,cur,e,hs.trans r3,r4⟩
   ·have dd:=hr.mode
    cases mo with
    |aG=>exact dd
    |ae=>exact⟨fun b hb=>⟨(dd.1 b hb).1,(dd.1 b hb).2.1.congr (hf b hb),(dd.1 b hb).2.2⟩,dd.2⟩
    |live=>exact⟨fun b hb=>⟨(dd.1 b hb).1,(dd.1 b hb).2.1.congr (hf b hb),(dd.1 b hb).2.2⟩,dd.2⟩
 ·intro m hm hl
  by_cases bL:m=n
  ·subst bL
   simp only[bN] at hl⊢
   exact si hl
  ·rw[e1 m bL] at hm
   simp only[e2 m bL] at hl⊢
   obtain⟨a1,a2,a3⟩:=H.own m hm hl
   exact⟨a1,a2,Nat.lt_of_lt_of_le a3 bP⟩
 ·intro m m' hm bO aD hl dQ
  by_cases bL:m=n
  ·subst bL
   have iP:m'≠m:=fun e=>aD e.symm
   rw[e1 m' iP] at bO
   simp only[bN,e2 m' iP] at hl dQ⊢
   exact fun e=>wU hl m' iP bO dQ e.symm
  ·rw[e1 m bL] at hm
   by_cases iP:m'=n
   ·subst iP
    simp only[bN,e2 m bL] at hl dQ⊢
    exact wU dQ m bL hm hl
   ·rw[e1 m' iP] at bO
    simp only[e2 m bL,e2 m' iP] at hl dQ⊢
    exact H.inj m m' hm bO aD hl dQ
 ·exact fun b hb=>Nat.lt_of_lt_of_le (H.gi b hb) bP
 ·intro m m' gr mo sz xs bo nv aJ au hm bO hb be aD b cR
  by_cases bL:m=n
  ·subst bL
   have iP:m'≠m:=fun e=>aD e.symm
   rw[e1 m' iP] at bO
   rw[bN] at hm
   injection hm with hm
   simp only[bN,e2 m' iP] at cR⊢
   exact J2 gr mo sz xs hm hb m' bo nv aJ au iP bO be b cR
  ·rw[e1 m bL] at hm
   by_cases iP:m'=n
   ·subst iP
    rw[bN] at bO
    injection bO with bO
    simp only[bN,e2 m bL] at cR⊢
    exact fun tq=>J2 bo nv aJ au bO be m gr mo sz xs bL hm hb b tq cR
   ·rw[e1 m' iP] at bO
    simp only[e2 m bL,e2 m' iP] at cR⊢
    exact H.fV m m' gr mo sz xs bo nv aJ au hm bO hb be aD b cR
 ·intro m gr sz xs hm b hb m' bO dQ
  by_cases bL:m=n
  ·subst bL
   rw[bN] at hm
   injection hm with hm
   simp only[bN] at hb
   have:=tu gr sz xs hm b hb
   by_cases iP:m'=m
   ·subst iP;simp only[bN] at dQ⊢;exact this.1 dQ
   ·rw[e1 m' iP] at bO
    simp only[e2 m' iP] at dQ⊢
    exact this.2 m' iP bO dQ
  ·rw[e1 m bL] at hm
   simp only[e2 m bL] at hb
   by_cases iP:m'=n
   ·subst iP
    simp only[bN] at dQ⊢
    exact ai9 dQ m gr sz xs bL hm b hb
   ·rw[e1 m' iP] at bO
    simp only[e2 m' iP] at dQ⊢
    exact H.live m gr sz xs hm b hb m' bO dQ
 ·intro i pc hi
  obtain⟨a1,a2⟩:=H.rF i pc hi
  exact⟨a1,fun b hb=>⟨(a2 b hb).1,Cr b (H.gi b (a2 b hb).1) (a2 b hb).2.1,(a2 b hb).2.2⟩⟩
 ·exact H.vP
 ·intro i pc m gr mo sz xs b hi hm jz hb
  by_cases bL:m=n
  ·subst bL
   rw[bN] at hm
   injection hm with hm
   simp only[bN]
   exact Cm gr mo sz xs hm jz i pc b hi hb
  ·rw[e1 m bL] at hm
   simp only[e2 m bL]
   exact H.rG i pc m gr mo sz xs b hi hm jz hb
theorem HR.del (H:HR B E w G h used tk) (n:Nat):HR B E w G (aA h n none) used tk:=by
 have e0:∀m b,aA h n none m=some b->h m=some b/\m≠n:=fun m b hm=>by
  by_cases bL:m=n
  ·subst bL;rw[bN] at hm;cases hm
  ·rw[cE _ _ _ _ bL] at hm;exact⟨hm,bL⟩
 have e1:∀m,aA h n none m≠none->h m≠none:=fun m hm=>by
  by_cases bL:m=n
  ·subst bL;rw[bN] at hm;exact absurd rfl hm
  ·rwa[cE _ _ _ _ bL] at hm
 have K:bf w G h (fun n=>used n=true) w G (aA h n none):=
  ⟨fun _ h=>h,fun _ _ _=>rfl,fun m _ hm=>⟨e1 m hm,rfl,rfl,rfl,rfl,rfl⟩,fun m gr sz xs _ hm=>⟨⟨gr,xs,(e0 m _ hm).1⟩,fun k j pc h1 h2=>⟨pc,h1,rfl,h2⟩⟩⟩
 refine⟨fun m hm=>H.jc m (e1 m hm),fun m cs c q hm=>H.g8 m cs c q (e0 m _ hm).1,fun m cs hm=>?_,fun m gr mo sz xs hm=>H.row m gr mo sz xs (e0 m _ hm).1,
  fun m hm=>H.own m (e1 m hm),fun m m' hm bO=>H.inj m m' (e1 m hm) (e1 m' bO),H.gi,H.pZ,fun m m' gr mo sz xs bo nv aJ au hm bO=>H.fV m m' gr mo sz xs bo nv aJ au (e0 m _ hm).1 (e0 m' _ bO).1,
  fun m gr sz xs hm b hb m' bO=>H.live m gr sz xs (e0 m _ hm).1 b hb m' (e1 m' bO),H.rF,H.vP,fun i pc m gr mo sz xs b hi hm=>H.rG i pc m gr mo sz xs b hi (e0 m _ hm).1⟩
 obtain⟨a1,a2,a3⟩:=H.box m cs (e0 m _ hm).1
 refine⟨a1,a2,fun j c hj=>?_⟩
 obtain⟨v,b1,b2,b3⟩:=a3 j c hj
 exact⟨v,b1,b2,b3.ft K fun q hq=>H.g8 m cs c q (e0 m _ hm).1 (List.mem_of_getElem? hj) hq⟩
theorem bf.del (n:Nat) (u:Nat->Prop):bf w G h u w G (aA h n none):=by
 have e1:∀m b,aA h n none m=some b->h m=some b:=fun m b hm=>by
  by_cases bL:m=n
  ·subst bL;rw[bN] at hm;cases hm
  ·rwa[cE _ _ _ _ bL] at hm
 refine⟨fun _ h=>h,fun _ _ _=>rfl,fun m _ hm=>?_,fun m gr sz xs _ hm=>⟨⟨gr,xs,e1 m _ hm⟩,fun k j pc h1 h2=>⟨pc,h1,rfl,h2⟩⟩⟩
 cases hh:aA h n none m with
 |none=>exact absurd hh hm
 |some b=>rw[e1 m b hh];exact⟨by simp,rfl,rfl,rfl,rfl,rfl⟩
end
end Go.Am
