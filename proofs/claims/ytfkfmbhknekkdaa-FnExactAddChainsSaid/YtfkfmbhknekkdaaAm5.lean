/- Am4, Am5: parts of the proof. No condition. -/
import Derived.Test.YtfkfmbhknekkdaaAm3
set_option linter.unusedVariables false
section
namespace Go.Am
section
variable {B:Nat} {E:Ex} {w0 w w':World} {G G':Gh} {h h':Nat->Option ak} {used used':Nat->Bool} {tk:List PC}
theorem aQ.refl (w:World) (G:Gh) (h:Nat->Option ak) (u:Nat->Prop):aQ w G h u w G h:=
 ⟨fun _ h=>h,fun _ _ _=>rfl,fun _ _ h=>⟨h,rfl,rfl,rfl,rfl,rfl⟩,fun n gr sz xs _ hn=>⟨⟨gr,xs,hn⟩,fun k j pc h1 h2=>⟨pc,h1,rfl,h2⟩⟩⟩
theorem aQ.trans {w1 w2 w3:World} {G1 G2 G3:Gh} {h1 h2 h3:Nat->Option ak} {u u2:Nat->Prop} (hu:∀n,u n->u2 n)
  (a:aQ w1 G1 h1 u w2 G2 h2) (b:aQ w2 G2 h2 u2 w3 G3 h3):aQ w1 G1 h1 u w3 G3 h3:=by
 refine⟨fun x hx=>b.im x (a.im x hx),fun x hx o=>(b.cell x (a.im x hx) o).trans (a.cell x hx o),fun n hn h=>?_,fun n gr sz xs hn h=>?_⟩
 ·obtain⟨c0,c1,c2,c3,c4,c5⟩:=b.name n (hu n hn) h
  obtain⟨d0,d1,d2,d3,d4,d5⟩:=a.name n hn c0
  exact⟨d0,c1.trans d1,c2.trans d2,c3.trans d3,c4.trans d4,c5.trans d5⟩
 ·obtain⟨⟨yB,gw,e2⟩,l2⟩:=b.live n gr sz xs (hu n hn) h
  obtain⟨e1,l1⟩:=a.live n yB sz gw hn e2
  refine⟨e1,fun k j pc p1 p2=>?_⟩
  obtain⟨q,q1,q2,q3⟩:=l1 k j pc p1 p2
  obtain⟨r,r1,r2,r3⟩:=l2 k j q q1 q3
  exact⟨r,r1,r2.trans q2,r3⟩
theorem aQ.world (kH:∀b,G.Im b->w'.heap[b]? =w.heap[b]?) (u:Nat->Prop):aQ w G h u w' G h:=
 ⟨fun _ h=>h,fun b hb o=>gL (kH b hb) o,fun _ _ h=>⟨h,rfl,rfl,rfl,rfl,rfl⟩,fun n gr sz xs _ hn=>⟨⟨gr,xs,hn⟩,fun k j pc h1 h2=>⟨pc,h1,rfl,h2⟩⟩⟩
theorem HR.oK (H:HR B E w G h used tk) {n:Nat} {gr:Bool} {m:Mode} {sz:Nat} {xs:List (List C)} (hn:h n=some (.row gr m sz xs)) {b:Nat} (hb:aN b (G.g n).px):b<w.heap.size:=by
 have hr:=H.row n gr m sz xs hn
 cases aE:(G.g n).nl with
 |true=>obtain⟨k,j,c,⟨e,he,_⟩,_⟩:=hb;rw[(hr.nl aE).1] at he;simp at he
 |false=>exact(hr.dv aE).2.1.lt hb
theorem HR.grow (H:HR B E w G h used tk) (hw:∀b,b<w.heap.size->w'.heap[b]? =w.heap[b]?) (bo:w.heap.size<=w'.heap.size):HR B E w' G h used tk:=by
 have K:aQ w G h (fun n=>used n=true) w' G h:=aQ.world (fun b hb=>hw b (H.fv b hb)) _
 have qW:∀b,dm w b->dm w' b:=fun b hb=>hb.congr (hw b hb.lt)
 refine⟨H.gN,H.fW,fun n cs hn=>?_,fun n gr m sz xs hn=>?_,fun n hn hl=>?_,H.inj,fun b hb=>Nat.lt_of_lt_of_le (H.fv b hb) bo,H.oq,H.fg,H.live,fun i pc hi=>?_,H.tg,H.oR⟩
 ·obtain⟨h1,h2,h3⟩:=H.box n cs hn
  refine⟨h1,qW _ h2,fun j c hj=>?_⟩
  obtain⟨v,a1,a2,a3⟩:=h3 j c hj
  exact⟨v,(gL (hw _ h2.lt) _).trans a1,a2,a3.eI K fun m hm=>H.fW n cs c m hn (List.mem_of_getElem? hj) hm⟩
 ·have hr:=H.row n gr m sz xs hn
  refine⟨hr.pos,hr.er,hr.nl,fun hl=>?_,fun hl hg=>?_,?_⟩
  ·obtain⟨a1,a2,a3⟩:=hr.dv hl
   exact⟨qW _ a1,a2.congr (fun o=>gL (hw _ a1.lt) o) (fun b' aL o=>gL (hw _ (a2.lt aL)) o),a3⟩
  ·obtain⟨r2,cur,e,r3,r4⟩:=hr.room hl hg
   exact⟨r2,cur,e,(hw _ (hr.dv hl).1.lt).trans r3,r4⟩
  ·have hm:=hr.mode
   cases m with
   |aF=>exact hm
   |aj=>exact⟨fun b hb=>⟨(hm.1 b hb).1,qW _ (hm.1 b hb).2.1,(hm.1 b hb).2.2⟩,hm.2⟩
   |live=>exact⟨fun b hb=>⟨(hm.1 b hb).1,qW _ (hm.1 b hb).2.1,(hm.1 b hb).2.2⟩,hm.2⟩
 ·obtain⟨a1,a2,a3⟩:=H.own n hn hl
  exact⟨a1,a2,Nat.lt_of_lt_of_le a3 bo⟩
 ·obtain⟨a1,a2⟩:=H.oQ i pc hi
  exact⟨a1,fun b hb=>⟨(a2 b hb).1,qW _ (a2 b hb).2.1,(a2 b hb).2.2⟩⟩
theorem Fr.refl (B:Nat) (E:Ex) (w0:World) (hB:B<=w0.heap.size):Fr B E w0 w0:=
 ⟨rfl,rfl,rfl,hB,fun _ _ _=>rfl,fun _ _=>Cz.refl _ _⟩
theorem Fr.grow (F:Fr B E w0 w) (hw:∀b,b<w.heap.size->w'.heap[b]? =w.heap[b]?) (bo:w.heap.size<=w'.heap.size) (ho:w'.os=w.os) (ht:w'.tape=w.tape) (hp:w'.output=w.output):Fr B E w0 w':=
 ⟨ho.trans F.os,ht.trans F.tape,hp.trans F.output,Nat.le_trans F.size bo,fun b hb he=>(hw b (Nat.lt_of_lt_of_le hb F.size)).trans (F.block b hb he),
  fun b hb=>(F.iU b hb).trans (Cz.of_eq (hw b (Nat.lt_of_lt_of_le hb F.size)))⟩
theorem Fr.one (F:Fr B E w0 w) {b0:Nat} (sr:B<=b0\/E b0) (hw:∀b,b<w.heap.size->b≠b0->w'.heap[b]? =w.heap[b]?) (bo:w.heap.size<=w'.heap.size)
  (hu:Cz w w' b0) (ho:w'.os=w.os) (ht:w'.tape=w.tape) (hp:w'.output=w.output):Fr B E w0 w':=by
 refine⟨ho.trans F.os,ht.trans F.tape,hp.trans F.output,Nat.le_trans F.size bo,fun b hb he=>?_,fun b hb=>?_⟩
 ·refine(hw b (Nat.lt_of_lt_of_le hb F.size) ?_).trans (F.block b hb he)
  rintro rfl
  rcases sr with h1|h1
  ·omega
  ·exact he h1
 ·by_cases yI:b=b0
  ·subst yI;exact(F.iU b hb).trans hu
  ·exact(F.iU b hb).trans (Cz.of_eq (hw b (Nat.lt_of_lt_of_le hb F.size) yI))
def ZK (B:Nat) (E:Ex) (w:World) (G:Gh) (h:Nat->Option ak) (p:PB):ak->Prop
 |.box cs=>p.nl=false/\dm w p.b/\∀(j:Nat) (c:ae),cs[j]? =some c->∃v,w.cell? (ad p.b (p.o+j))=some v/\v.oneCell'=true/\RC w G h c v
 |.row gr m sz xs=>rS B E w G gr m sz xs p
theorem HR.put (H:HR B E w G h used tk) {n:Nat} {blk:ak} {p:PB}
  (hw:∀b,b<w.heap.size->(p.nl=false->b≠p.b)->w'.heap[b]? =w.heap[b]?) (bo:w.heap.size<=w'.heap.size)
  (y3:∀b,b<w.heap.size->dm w b->dm w' b)
  (hu:∀m,used m=true->used' m=true) (adu:used' n=true)
  (pJ:p.nl=false->¬G.Im p.b/\(B<=p.b\/E p.b)/\p.b<w'.heap.size)
  (tS:p.nl=false->∀m,m≠n->h m≠none->(G.g m).nl=false->(G.g m).b≠p.b)
  (ac7:p.nl=false->∀m gr sz xs,m≠n->h m=some (.row gr .live sz xs)->∀b,aN b (G.g m).px->b≠p.b)
  (uf:∀cs c m,blk=.box cs->c∈cs->c.ref m->used' m=true)
  (K:aQ w G h (fun n=>used n=true) w' ⟨G.Im,aq G.g n p⟩ (aq h n (some blk)))
  (gh:ZK B E w' ⟨G.Im,aq G.g n p⟩ (aq h n (some blk)) p blk)
  (Fg:∀gr m sz xs,blk=.row gr m sz xs->m≠ .aF->∀n' aU m' aC ao,n'≠n->h n'=some (.row aU m' aC ao)->m'≠ .aF->∀b,aN b p.px->¬aN b (G.g n').px)
  (qQ:∀gr sz xs,blk=.row gr .live sz xs->∀b,aN b p.px->(p.nl=false->b≠p.b)/\∀n',n'≠n->h n'≠none->(G.g n').nl=false->b≠(G.g n').b)
  (yX:∀gr m sz xs,blk=.row gr m sz xs->m≠ .aF->∀(i:Nat) (pc:PC) (b:Nat),tk[i]? =some pc->aM b pc->¬aN b p.px)
  (kH:p.nl=false->p.b<w.heap.size->∀b,(∃m gr mo sz xs,m≠n/\h m=some (.row gr mo sz xs)/\aN b (G.g m).px)->b≠p.b):
  HR B E w' ⟨G.Im,aq G.g n p⟩ (aq h n (some blk)) used' tk:=by
 have e1:∀m,m≠n->aq h n (some blk) m=h m:=fun m hm=>cd _ _ _ _ hm
 have e2:∀m,m≠n->aq G.g n p m=G.g m:=fun m hm=>cd _ _ _ _ hm
 have La:∀m,m≠n->h m≠none->(G.g m).nl=false->w'.heap[(G.g m).b]? =w.heap[(G.g m).b]? :=fun m hm h0 hl=>
  hw _ (H.own m h0 hl).2.2 (fun hp=>tS hp m hm h0 hl)
 refine⟨?_,?_,?_,?_,?_,?_,?_,H.oq,?_,?_,?_,?_,?_⟩
 ·intro m hm
  by_cases br:m=n
  ·subst br;exact adu
  ·rw[e1 m br] at hm;exact hu m (H.gN m hm)
 ·intro m cs c q hm hc hr
  by_cases br:m=n
  ·subst br
   rw[bu] at hm
   injection hm with hm
   exact uf cs c q hm hc hr
  ·rw[e1 m br] at hm;exact hu q (H.fW m cs c q hm hc hr)
 ·intro m cs hm
  by_cases br:m=n
  ·subst br
   rw[bu] at hm
   injection hm with hm
   subst hm
   simp only[bu]
   exact gh
  ·rw[e1 m br] at hm
   simp only[e2 m br]
   obtain⟨a1,a2,a3⟩:=H.box m cs hm
   have hs:=La m br (by rw[hm];simp) a1
   refine⟨a1,a2.congr hs,fun j c hj=>?_⟩
   obtain⟨v,b1,b2,b3⟩:=a3 j c hj
   exact⟨v,(gL hs _).trans b1,b2,b3.eI K fun q hq=>H.fW m cs c q hm (List.mem_of_getElem? hj) hq⟩
 ·intro m gr mo sz xs hm
  by_cases br:m=n
  ·subst br
   rw[bu] at hm
   injection hm with hm
   subst hm
   simp only[bu]
   exact gh
  ·rw[e1 m br] at hm
   simp only[e2 m br]
   have hr:=H.row m gr mo sz xs hm
   have hf:∀b,aN b (G.g m).px->w'.heap[b]? =w.heap[b]? :=fun b hb=>
    hw b (H.oK hm hb) (fun hp dM=>by
     by_cases bB:p.b<w.heap.size
     ·exact kH hp bB b ⟨m,gr,mo,sz,xs,br,hm,hb⟩ dM
     ·have:=H.oK hm hb;omega)
   refine⟨hr.pos,hr.er,hr.nl,fun hl=>?_,fun hl hg=>?_,?_⟩
   ·have hs:=La m br (by rw[hm];simp) hl
    obtain⟨a1,a2,a3⟩:=hr.dv hl
    exact⟨a1.congr hs,a2.congr (fun o=>gL hs o) (fun b' aL o=>gL (hf b' aL) o),a3⟩
   ·have hs:=La m br (by rw[hm];simp) hl
    obtain⟨r2,cur,e,r3,r4⟩:=hr.room hl hg
    exact⟨r2,cur,e,hs.trans r3,r4⟩
   ·have cU:=hr.mode
    cases mo with
    |aF=>exact cU
    |aj=>exact⟨fun b hb=>⟨(cU.1 b hb).1,(cU.1 b hb).2.1.congr (hf b hb),(cU.1 b hb).2.2⟩,cU.2⟩
    |live=>exact⟨fun b hb=>⟨(cU.1 b hb).1,(cU.1 b hb).2.1.congr (hf b hb),(cU.1 b hb).2.2⟩,cU.2⟩
 ·intro m hm hl
  by_cases br:m=n
  ·subst br
   simp only[bu] at hl⊢
   exact pJ hl
  ·rw[e1 m br] at hm
   simp only[e2 m br] at hl⊢
   obtain⟨a1,a2,a3⟩:=H.own m hm hl
   exact⟨a1,a2,Nat.lt_of_lt_of_le a3 bo⟩
 ·intro m m' hm bx av hl cT
  by_cases br:m=n
  ·subst br
   have gD:m'≠m:=fun e=>av e.symm
   rw[e1 m' gD] at bx
   simp only[bu,e2 m' gD] at hl cT⊢
   exact fun e=>tS hl m' gD bx cT e.symm
  ·rw[e1 m br] at hm
   by_cases gD:m'=n
   ·subst gD
    simp only[bu,e2 m br] at hl cT⊢
    exact tS cT m br hm hl
   ·rw[e1 m' gD] at bx
    simp only[e2 m br,e2 m' gD] at hl cT⊢
    exact H.inj m m' hm bx av hl cT
 ·exact fun b hb=>Nat.lt_of_lt_of_le (H.fv b hb) bo
 ·intro m m' gr mo sz xs aU kR aC ao hm bx hb aL av b cz
  by_cases br:m=n
  ·subst br
   have gD:m'≠m:=fun e=>av e.symm
   rw[e1 m' gD] at bx
   rw[bu] at hm
   injection hm with hm
   simp only[bu,e2 m' gD] at cz⊢
   exact Fg gr mo sz xs hm hb m' aU kR aC ao gD bx aL b cz
  ·rw[e1 m br] at hm
   by_cases gD:m'=n
   ·subst gD
    rw[bu] at bx
    injection bx with bx
    simp only[bu,e2 m br] at cz⊢
    exact fun hb2=>Fg aU kR aC ao bx aL m gr mo sz xs br hm hb b hb2 cz
   ·rw[e1 m' gD] at bx
    simp only[e2 m br,e2 m' gD] at cz⊢
    exact H.fg m m' gr mo sz xs aU kR aC ao hm bx hb aL av b cz
 ·intro m gr sz xs hm b hb m' bx cT
  by_cases br:m=n
  ·subst br
   rw[bu] at hm
   injection hm with hm
   simp only[bu] at hb
   have:=qQ gr sz xs hm b hb
   by_cases gD:m'=m
   ·subst gD;simp only[bu] at cT⊢;exact this.1 cT
   ·rw[e1 m' gD] at bx
    simp only[e2 m' gD] at cT⊢
    exact this.2 m' gD bx cT
  ·rw[e1 m br] at hm
   simp only[e2 m br] at hb
   by_cases gD:m'=n
   ·subst gD
    simp only[bu] at cT⊢
    exact ac7 cT m gr sz xs br hm b hb
   ·rw[e1 m' gD] at bx
    simp only[e2 m' gD] at cT⊢
    exact H.live m gr sz xs hm b hb m' bx cT
 ·intro i pc hi
  obtain⟨a1,a2⟩:=H.oQ i pc hi
  exact⟨a1,fun b hb=>⟨(a2 b hb).1,y3 b (H.fv b (a2 b hb).1) (a2 b hb).2.1,(a2 b hb).2.2⟩⟩
 ·exact H.tg
 ·intro i pc m gr mo sz xs b hi hm ia hb
  by_cases br:m=n
  ·subst br
   rw[bu] at hm
   injection hm with hm
   simp only[bu]
   exact yX gr mo sz xs hm ia i pc b hi hb
  ·rw[e1 m br] at hm
   simp only[e2 m br]
   exact H.oR i pc m gr mo sz xs b hi hm ia hb
theorem HR.del (H:HR B E w G h used tk) (n:Nat):HR B E w G (aq h n none) used tk:=by
 have e0:∀m b,aq h n none m=some b->h m=some b/\m≠n:=fun m b hm=>by
  by_cases br:m=n
  ·subst br;rw[bu] at hm;cases hm
  ·rw[cd _ _ _ _ br] at hm;exact⟨hm,br⟩
 have e1:∀m,aq h n none m≠none->h m≠none:=fun m hm=>by
  by_cases br:m=n
  ·subst br;rw[bu] at hm;exact absurd rfl hm
  ·rwa[cd _ _ _ _ br] at hm
 have K:aQ w G h (fun n=>used n=true) w G (aq h n none):=
  ⟨fun _ h=>h,fun _ _ _=>rfl,fun m _ hm=>⟨e1 m hm,rfl,rfl,rfl,rfl,rfl⟩,fun m gr sz xs _ hm=>⟨⟨gr,xs,(e0 m _ hm).1⟩,fun k j pc h1 h2=>⟨pc,h1,rfl,h2⟩⟩⟩
 refine⟨fun m hm=>H.gN m (e1 m hm),fun m cs c q hm=>H.fW m cs c q (e0 m _ hm).1,fun m cs hm=>?_,fun m gr mo sz xs hm=>H.row m gr mo sz xs (e0 m _ hm).1,
  fun m hm=>H.own m (e1 m hm),fun m m' hm bx=>H.inj m m' (e1 m hm) (e1 m' bx),H.fv,H.oq,fun m m' gr mo sz xs aU kR aC ao hm bx=>H.fg m m' gr mo sz xs aU kR aC ao (e0 m _ hm).1 (e0 m' _ bx).1,
  fun m gr sz xs hm b hb m' bx=>H.live m gr sz xs (e0 m _ hm).1 b hb m' (e1 m' bx),H.oQ,H.tg,fun i pc m gr mo sz xs b hi hm=>H.oR i pc m gr mo sz xs b hi (e0 m _ hm).1⟩
 obtain⟨a1,a2,a3⟩:=H.box m cs (e0 m _ hm).1
 refine⟨a1,a2,fun j c hj=>?_⟩
 obtain⟨v,b1,b2,b3⟩:=a3 j c hj
 exact⟨v,b1,b2,b3.eI K fun q hq=>H.fW m cs c q (e0 m _ hm).1 (List.mem_of_getElem? hj) hq⟩
theorem aQ.del (n:Nat) (u:Nat->Prop):aQ w G h u w G (aq h n none):=by
 have e1:∀m b,aq h n none m=some b->h m=some b:=fun m b hm=>by
  by_cases br:m=n
  ·subst br;rw[bu] at hm;cases hm
  ·rwa[cd _ _ _ _ br] at hm
 refine⟨fun _ h=>h,fun _ _ _=>rfl,fun m _ hm=>?_,fun m gr sz xs _ hm=>⟨⟨gr,xs,e1 m _ hm⟩,fun k j pc h1 h2=>⟨pc,h1,rfl,h2⟩⟩⟩
 cases hh:aq h n none m with
 |none=>exact absurd hh hm
 |some b=>rw[e1 m b hh];exact⟨by simp,rfl,rfl,rfl,rfl,rfl⟩
end
end Go.Am
end
section
namespace Go.Am
theorem mU {α:Type} {px:List (List α)} {lo len k j:Nat} {c:α} (h:At ((px.drop lo).take len) k j c):At px (lo+k) j c/\k<len:=by
 obtain⟨e,he,hj⟩:=h
 rw[List.getElem?_take] at he
 split at he
 ·rename_i hk
  rw[List.getElem?_drop] at he
  exact⟨⟨e,he,hj⟩,hk⟩
 ·cases he
section
variable {B:Nat} {E:Ex} {w0 w w':World} {G G':Gh} {h h':Nat->Option ak} {used used':Nat->Bool} {tk:List PC}
def jp (p:PB) (sz lo len:Nat) (v:Value):PC:=
 match v with
 |.slice a _ cap=>.list sz a cap ((p.px.drop lo).take len)
 |_=>.bool false
theorem CU {gr:Bool} {m:Mode} {sz:Nat} {xs:List (List C)} {p:PB} (hr:rS B E w G gr m sz xs p) {lo len:Nat} {v:Value} (hv:gy p sz lo len v) (hl:lo+len<=xs.length):
  (jp p sz lo len v).er=.list sz ((xs.drop lo).take len)/\(jp p sz lo len v).val=v/\Good w (jp p sz lo len v)/\
  (∀b,aM b (jp p sz lo len v)->(p.nl=false/\b=p.b)\/aN b p.px):=by
 have eN:p.px.length=xs.length:=by rw[hr.er];simp
 rcases hv with⟨hn,rfl,rfl,rfl⟩|⟨hn,a,rfl,hc,ha⟩
 ·have h0:=(hr.nl hn).1
  refine⟨?_,?_,?_,?_⟩
  ·simp[jp,PC.du]
  ·simp[jp,PC.val]
  ·simp only[jp,List.drop_zero,List.take_zero];exact .nil _ _ _ hr.pos
  ·intro b hb
   simp only[jp,List.drop_zero,List.take_zero] at hb
   rw[aM.jk] at hb
   rcases hb with⟨hb,_⟩|⟨k,j,c,⟨e,he,_⟩,_⟩
   ·exact absurd rfl hb
   ·simp at he
 ·have hlen:((p.px.drop lo).take len).length=len:=by simp;omega
  refine⟨?_,?_,?_,?_⟩
  ·simp only[jp,PC.du]
   rw[hr.er,List.map_take,List.map_drop]
  ·simp[jp,PC.val];omega
  ·simp only[jp]
   by_cases h0:(p.px.drop lo).take len=[]
   ·rw[h0];exact .nil _ _ _ hr.pos
   ·have Ua:0<len:=by
     rcases Nat.eq_zero_or_pos len with hz|hz
     ·subst hz;simp at h0
     ·exact hz
    have e:=ha (.inl (by omega))
    subst e
    obtain⟨a1,a2,a3⟩:=hr.dv hn
    refine .cons sz p.b (p.o+lo*sz) _ _ h0 (by omega) hr.pos (fun e he=>a2.1 e (List.mem_of_mem_drop (List.mem_of_mem_take he))) (fun k j c hk=>?_) (fun k j c hk=>a2.2.2 _ _ _ (mU hk).1)
    have:=a2.2.1 _ _ _ (mU hk).1
    rw[Nat.add_mul] at this
    rw[<-this]
    congr 2
    omega
  ·intro b hb
   simp only[jp] at hb
   rw[aM.jk] at hb
   rcases hb with⟨hb,o,ho⟩|⟨k,j,c,hk,hb⟩
   ·have Ua:0<len:=by
     rcases Nat.eq_zero_or_pos len with hz|hz
     ·subst hz;simp at hb
     ·exact hz
    have e:=ha (.inl (by omega))
    rw[e] at ho
    injection ho with ho
    exact .inl ⟨hn,(lg ho).1.symm⟩
   ·exact .inr ⟨_,_,_,(mU hk).1,hb⟩
theorem HR.bS (H:HR B E w G h used tk) {c:ae} {x:C} {v:Value} (hx:bS h c=some x) (hc:RC w G h c v):∃pc:PC,pc.er=x/\pc.val=v/\Good w pc:=by
 cases c with
 |c y=>
  simp only[Am.bS] at hx
  injection hx with hx
  subst hx
  obtain⟨pc,h1,h2,h3,_⟩:=hc
  exact⟨pc,h1,h2,h3⟩
 |nil sz=>
  simp only[Am.bS] at hx
  split at hx
  ·rename_i dU
   injection hx with hx
   subst hx
   have cN:v=.slice none 0 0:=hc
   subst cN
   exact⟨.list sz none 0 [],by simp[PC.du],rfl,.nil _ _ _ dU⟩
  ·cases hx
 |sl n sz lo len=>
  simp only[Am.bS] at hx
  split at hx
  ·rename_i gr m rs xs hn
   split at hx
   ·rename_i cm
    obtain⟨rfl,hl⟩:=cm
    injection hx with hx
    subst hx
    have hs:gy (G.g n) rs lo len v:=hc (by rw[hn];simp)
    obtain⟨a1,a2,a3,_⟩:=CU (H.row n gr m rs xs hn) hs hl
    exact⟨_,a1,a2,a3⟩
   ·cases hx
  ·cases hx
 |bj n k au off sz len=>
  simp only[Am.bS] at hx
  split at hx
  ·rename_i gr rs xs hn
   split at hx
   ·rename_i cm
    subst cm
    obtain⟨pc,p1,p2,p3⟩:=hc gr xs hn
    have hr:=H.row n gr .live rs xs hn
    have aE:(G.g n).nl=false:=by
     cases hq:(G.g n).nl with
     |false=>rfl
     |true=>obtain⟨e,he,_⟩:=p1;rw[(hr.nl hq).1] at he;simp at he
    refine⟨pc,?_,p2,(hr.dv aE).2.1.2.2 _ _ _ p1⟩
    obtain⟨e,he,hj⟩:=p1
    rw[hr.er] at hx
    simp[he,hj] at hx
    exact hx
   ·cases hx
  ·cases hx
 |ptr _ _ _ _=>simp[Am.bS] at hx
 |bV _ _=>simp[Am.bS] at hx
 |bD _ _ _ _ _ _=>simp[Am.bS] at hx
 |fn _ _=>simp[Am.bS] at hx
 |cH _ _ _ _ _ _=>simp[Am.bS] at hx
 |bg=>simp[Am.bS] at hx
theorem HR.gZ (H:HR B E w G h used tk):∀{cs:List ae} {xs:List C} {vs:List Value},gZ h cs=some xs->cL w G h cs vs->
  ∃bk:List PC,bk.map PC.er=xs/\bk.map PC.val=vs/\∀pc∈bk,Good w pc
 |[],xs,vs,hx,hc=>by
  simp only[Am.gZ] at hx
  injection hx with hx
  subst hx
  have:vs=[]:=List.eq_nil_of_length_eq_zero (by simpa using hc.1)
  subst this
  exact⟨[],rfl,rfl,by simp⟩
 |c::cs,xs,vs,hx,hc=>by
  simp only[Am.gZ] at hx
  split at hx
  ·rename_i x ao e1 e2
   injection hx with hx
   subst hx
   obtain⟨hlen,bK⟩:=hc
   match vs,hlen with
   |v::vs,hlen=>
    obtain⟨pc,a1,a2,a3⟩:=H.bS e1 (bK 0 c v rfl rfl).2
    obtain⟨bk,b1,b2,b3⟩:=H.gZ e2 (cs:=cs) (vs:=vs) ⟨by simpa using hlen,fun j c u h1 h2=>bK (j+1) c u h1 h2⟩
    refine⟨pc::bk,by simp[a1,b1],by simp[a2,b2],fun q hq=>?_⟩
    cases hq with
    |head=>exact a3
    |tail _ hq=>exact b3 q hq
  ·cases hx
def xy (w:World) (d:Dv) (v:Value):Prop:=
 match d.1 with
 |.one=>∃bk:List PC,bk.map PC.er=d.2/\(∀pc∈bk,Good w pc)/\bk.map PC.val=[v]
 |.agg=>∃bk:List PC,bk.map PC.er=d.2/\(∀pc∈bk,Good w pc)/\v=.agg (bk.map PC.val).toArray
 |.ptr=>∃(bk:List PC) (b o:Nat),bk.map PC.er=d.2/\v=.pointer (some (ad b o))/\b<w.heap.size/\
  ∀j c,bk[j]? =some c->w.cell? (ad b (o+j))=some c.val/\Good w c
def Dj (w:World) (ds:List Dv) (vs:List Value):Prop:=
 vs.length=ds.length/\∀(j:Nat) (d:Dv) (v:Value),ds[j]? =some d->vs[j]? =some v->xy w d v
theorem HR.f7 (H:HR B E w G h used tk) {x:ai} {d:Dv} {v:Value} (hx:f7 h x=some d) (hc:RA w G h x v):xy w d v:=by
 have one:∀c:ae,(Am.bS h c).map (fun x=>((.one,[x]):Dv))=some d->RA w G h (.one c) v->xy w d v:=by
  intro c hx hc
  cases hv:Am.bS h c with
  |none=>rw[hv] at hx;cases hx
  |some y=>
   rw[hv] at hx
   simp at hx
   subst hx
   rcases hc with rfl|hc
   ·simp[Am.bS] at hv
   ·have cN:cL w G h [c] [v]:=hc
    obtain⟨pc,a1,a2,a3⟩:=H.bS hv (cN.2 0 c v rfl rfl).2
    exact⟨[pc],by simp[a1],by simpa using a3,by simp[a2]⟩
 cases x with
 |one c=>
  cases c with
  |ptr n k sz off=>
   simp only[Am.f7] at hx
   split at hx
   ·rename_i cs hn
    split at hx
    ·rename_i cm
     obtain⟨rfl,rfl⟩:=cm
     cases hv:Am.gZ h cs with
     |none=>rw[hv] at hx;cases hx
     |some xs=>
      rw[hv] at hx
      simp at hx
      subst hx
      rcases hc with hc|hc
      ·cases hc
      ·have cN:cL w G h [.ptr n 0 sz 0] [v]:=hc
       have hp:=(cN.2 0 _ v rfl rfl).2 (by rw[hn];simp)
       obtain⟨wz,tZ⟩:=hp
       obtain⟨q1,q2,q3⟩:=H.box n cs hn
       have bU:∀(cs:List ae) (o:Nat) (xs:List C),(∀(j:Nat) (c:ae),cs[j]? =some c->∃v,w.cell? (ad (G.g n).b (o+j))=some v/\v.oneCell'=true/\RC w G h c v)->Am.gZ h cs=some xs->
         ∃bk:List PC,bk.map PC.er=xs/\∀j c,bk[j]? =some c->w.cell? (ad (G.g n).b (o+j))=some c.val/\Good w c:=by
        intro cs
        induction cs with
        |nil=>
         intro o xs _ hx
         simp only[Am.gZ] at hx
         injection hx with hx
         subst hx
         exact⟨[],rfl,by simp⟩
        |cons c cs ih=>
         intro o xs fI hx
         simp only[Am.gZ] at hx
         split at hx
         ·rename_i x ao e1 e2
          injection hx with hx
          subst hx
          obtain⟨u,u1,_,u2⟩:=fI 0 c rfl
          obtain⟨pc,a1,a2,a3⟩:=H.bS e1 u2
          obtain⟨bk,b1,b2⟩:=ih (o+1) ao (fun j c hj=>by
           have:=fI (j+1) c hj
           rwa[show o+(j+1)=o+1+j from by omega] at this) e2
          refine⟨pc::bk,by simp[a1,b1],fun j c hj=>?_⟩
          cases j with
          |zero=>simp at hj;subst hj;rw[a2];exact⟨u1,a3⟩
          |succ j=>
           have:=b2 j c (by simpa using hj)
           rwa[show o+1+j=o+(j+1) from by omega] at this
         ·cases hx
       obtain⟨bk,b1,b2⟩:=bU cs (G.g n).o xs q3 hv
       exact⟨bk,(G.g n).b,(G.g n).o,b1,by simpa using tZ,q2.lt,b2⟩
    ·cases hx
   ·cases hx
  |bV xs off=>
   simp only[Am.f7] at hx
   split at hx
   ·rename_i h0
    subst h0
    injection hx with hx
    subst hx
    rcases hc with hc|hc
    ·cases hc
    ·have cN:cL w G h [.bV xs 0] [v]:=hc
     obtain⟨b,o,pe,p1,p2,p3,p4⟩:=(cN.2 0 _ v rfl rfl).2
     exact⟨pe,b,o,p2,by simpa using p1,H.fv b p3,fun j c hj=>⟨(p4 j c hj).1,(p4 j c hj).2.1⟩⟩
   ·cases hx
  |c y=>exact one (.c y) hx hc
  |nil sz=>exact one (.nil sz) hx hc
  |sl n sz lo len=>exact one (.sl n sz lo len) hx hc
  |bj n k au off sz len=>exact one (.bj n k au off sz len) hx hc
  |cH n k au off sz i=>exact one (.cH n k au off sz i) hx hc
  |bD xs off j n sz len=>exact one (.bD xs off j n sz len) hx hc
  |fn f bM=>exact one (.fn f bM) hx hc
  |bg=>exact one .bg hx hc
 |agg cs=>
  simp only[Am.f7] at hx
  cases hv:Am.gZ h cs with
  |none=>rw[hv] at hx;cases hx
  |some xs=>
   rw[hv] at hx
   simp at hx
   subst hx
   obtain⟨vs,e,hl⟩:∃vs:List Value,v=.agg vs.toArray/\cL w G h cs vs:=hc
   obtain⟨bk,a1,a2,a3⟩:=H.gZ hv hl
   exact⟨bk,a1,a3,by rw[e,a2]⟩
 |aY xs=>simp[Am.f7] at hx
theorem HR.jr (H:HR B E w G h used tk):∀{xs:List ai} {ds:List Dv} {vs:List Value},jr h xs=some ds->vs.length=xs.length->
  (∀(j:Nat) (x:ai) (v:Value),xs[j]? =some x->vs[j]? =some v->RA w G h x v)->Dj w ds vs
 |[],ds,vs,hx,hl,hc=>by
  simp only[Am.jr] at hx
  injection hx with hx
  subst hx
  exact⟨by simpa using hl,by simp⟩
 |x::xs,ds,vs,hx,hl,hc=>by
  simp only[Am.jr] at hx
  split at hx
  ·rename_i d r9 e1 e2
   injection hx with hx
   subst hx
   match vs,hl with
   |v::vs,hl=>
    have a:=H.f7 e1 (hc 0 x v rfl rfl)
    obtain⟨b1,b2⟩:=H.jr e2 (xs:=xs) (vs:=vs) (by simpa using hl) (fun j x v h1 h2=>hc (j+1) x v h1 h2)
    refine⟨by simp[b1],fun j d v hj hv=>?_⟩
    cases j with
    |zero=>simp at hj hv;subst hj;subst hv;exact a
    |succ j=>exact b2 j d v (by simpa using hj) (by simpa using hv)
  ·cases hx
end
end Go.Am
end
