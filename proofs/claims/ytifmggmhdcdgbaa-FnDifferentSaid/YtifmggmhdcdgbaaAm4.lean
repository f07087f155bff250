/- Am4: what becomes of the relation when the world or the heap of names changes. No condition. -/
import Derived.Test.YtifmggmhdcdgbaaAm3
set_option linter.unusedVariables false
namespace Go.Am
section
variable {B:Nat} {E:Ex} {w0 w w':World} {G G':Gh} {h h':Nat->Option ar} {used used':Nat->Bool} {tk:List PC}
theorem aW.refl (w:World) (G:Gh) (h:Nat->Option ar) (u:Nat->Prop):aW w G h u w G h:=
 ⟨fun _ h=>h,fun _ _ _=>rfl,fun _ _ h=>⟨h,rfl,rfl,rfl,rfl,rfl⟩,fun n gr sz xs _ hn=>⟨⟨gr,xs,hn⟩,fun k j pc h1 h2=>⟨pc,h1,rfl,h2⟩⟩⟩
theorem aW.trans {w1 w2 w3:World} {G1 G2 G3:Gh} {h1 h2 h3:Nat->Option ar} {u u2:Nat->Prop} (hu:∀n,u n->u2 n)
  (a:aW w1 G1 h1 u w2 G2 h2) (b:aW w2 G2 h2 u2 w3 G3 h3):aW w1 G1 h1 u w3 G3 h3:=by
 refine⟨fun x hx=>b.im x (a.im x hx),fun x hx o=>(b.cell x (a.im x hx) o).trans (a.cell x hx o),fun n hn h=>?_,fun n gr sz xs hn h=>?_⟩
 ·obtain⟨c0,c1,c2,c3,c4,c5⟩:=b.name n (hu n hn) h
  obtain⟨d0,d1,d2,d3,d4,d5⟩:=a.name n hn c0
  exact⟨d0,c1.trans d1,c2.trans d2,c3.trans d3,c4.trans d4,c5.trans d5⟩
 ·obtain⟨⟨Ax,g0,e2⟩,l2⟩:=b.live n gr sz xs (hu n hn) h
  obtain⟨e1,l1⟩:=a.live n Ax sz g0 hn e2
  refine⟨e1,fun k j pc p1 p2=>?_⟩
  obtain⟨q,q1,q2,q3⟩:=l1 k j pc p1 p2
  obtain⟨r,r1,r2,r3⟩:=l2 k j q q1 q3
  exact⟨r,r1,r2.trans q2,r3⟩
theorem aW.world (lY:∀b,G.Im b->w'.heap[b]? =w.heap[b]?) (u:Nat->Prop):aW w G h u w' G h:=
 ⟨fun _ h=>h,fun b hb o=>io (lY b hb) o,fun _ _ h=>⟨h,rfl,rfl,rfl,rfl,rfl⟩,fun n gr sz xs _ hn=>⟨⟨gr,xs,hn⟩,fun k j pc h1 h2=>⟨pc,h1,rfl,h2⟩⟩⟩
theorem HR.qC (H:HR B E w G h used tk) {n:Nat} {gr:Bool} {m:Mode} {sz:Nat} {xs:List (List C)} (hn:h n=some (.row gr m sz xs)) {b:Nat} (hb:aS b (G.g n).px):b<w.heap.size:=by
 have hr:=H.row n gr m sz xs hn
 cases aM:(G.g n).nl with
 |true=>obtain⟨k,j,c,⟨e,he,_⟩,_⟩:=hb;rw[(hr.nl aM).1] at he;simp at he
 |false=>exact(hr.dD aM).2.1.lt hb
theorem HR.grow (H:HR B E w G h used tk) (hw:∀b,b<w.heap.size->w'.heap[b]? =w.heap[b]?) (bD:w.heap.size<=w'.heap.size):HR B E w' G h used tk:=by
 have K:aW w G h (fun n=>used n=true) w' G h:=aW.world (fun b hb=>hw b (H.fI b hb)) _
 have sH:∀b,dr w b->dr w' b:=fun b hb=>hb.congr (hw b hb.lt)
 refine⟨H.iS,H.gy,fun n cs hn=>?_,fun n gr m sz xs hn=>?_,fun n hn hl=>?_,H.inj,fun b hb=>Nat.lt_of_lt_of_le (H.fI b hb) bD,H.oT,H.fv,H.live,fun i pc hi=>?_,H.vo,H.qH⟩
 ·obtain⟨h1,h2,h3⟩:=H.box n cs hn
  refine⟨h1,sH _ h2,fun j c hj=>?_⟩
  obtain⟨v,a1,a2,a3⟩:=h3 j c hj
  exact⟨v,(io (hw _ h2.lt) _).trans a1,a2,a3.eM K fun m hm=>H.gy n cs c m hn (List.mem_of_getElem? hj) hm⟩
 ·have hr:=H.row n gr m sz xs hn
  refine⟨hr.pos,hr.er,hr.nl,fun hl=>?_,fun hl hg=>?_,?_⟩
  ·obtain⟨a1,a2,a3⟩:=hr.dD hl
   exact⟨sH _ a1,a2.congr (fun o=>io (hw _ a1.lt) o) (fun b' aT o=>io (hw _ (a2.lt aT)) o),a3⟩
  ·obtain⟨r2,cur,e,r3,r4⟩:=hr.room hl hg
   exact⟨r2,cur,e,(hw _ (hr.dD hl).1.lt).trans r3,r4⟩
  ·have hm:=hr.mode
   cases m with
   |aA=>exact hm
   |ab=>exact⟨fun b hb=>⟨(hm.1 b hb).1,sH _ (hm.1 b hb).2.1,(hm.1 b hb).2.2⟩,hm.2⟩
   |live=>exact⟨fun b hb=>⟨(hm.1 b hb).1,sH _ (hm.1 b hb).2.1,(hm.1 b hb).2.2⟩,hm.2⟩
 ·obtain⟨a1,a2,a3⟩:=H.own n hn hl
  exact⟨a1,a2,Nat.lt_of_lt_of_le a3 bD⟩
 ·obtain⟨a1,a2⟩:=H.qG i pc hi
  exact⟨a1,fun b hb=>⟨(a2 b hb).1,sH _ (a2 b hb).2.1,(a2 b hb).2.2⟩⟩
theorem Fr.refl (B:Nat) (E:Ex) (w0:World) (hB:B<=w0.heap.size):Fr B E w0 w0:=
 ⟨rfl,rfl,rfl,hB,fun _ _ _=>rfl,fun _ _=>Cz.refl _ _⟩
theorem Fr.grow (F:Fr B E w0 w) (hw:∀b,b<w.heap.size->w'.heap[b]? =w.heap[b]?) (bD:w.heap.size<=w'.heap.size) (ho:w'.os=w.os) (ht:w'.tape=w.tape) (hp:w'.output=w.output):Fr B E w0 w':=
 ⟨ho.trans F.os,ht.trans F.tape,hp.trans F.output,Nat.le_trans F.size bD,fun b hb he=>(hw b (Nat.lt_of_lt_of_le hb F.size)).trans (F.block b hb he),
  fun b hb=>(F.kg b hb).trans (Cz.of_eq (hw b (Nat.lt_of_lt_of_le hb F.size)))⟩
theorem Fr.one (F:Fr B E w0 w) {b0:Nat} (uo:B<=b0\/E b0) (hw:∀b,b<w.heap.size->b≠b0->w'.heap[b]? =w.heap[b]?) (bD:w.heap.size<=w'.heap.size)
  (hu:Cz w w' b0) (ho:w'.os=w.os) (ht:w'.tape=w.tape) (hp:w'.output=w.output):Fr B E w0 w':=by
 refine⟨ho.trans F.os,ht.trans F.tape,hp.trans F.output,Nat.le_trans F.size bD,fun b hb he=>?_,fun b hb=>?_⟩
 ·refine(hw b (Nat.lt_of_lt_of_le hb F.size) ?_).trans (F.block b hb he)
  rintro rfl
  rcases uo with h1|h1
  ·omega
  ·exact he h1
 ·by_cases AA:b=b0
  ·subst AA;exact(F.kg b hb).trans hu
  ·exact(F.kg b hb).trans (Cz.of_eq (hw b (Nat.lt_of_lt_of_le hb F.size) AA))
def acT (B:Nat) (E:Ex) (w:World) (G:Gh) (h:Nat->Option ar) (p:PB):ar->Prop
 |.box cs=>p.nl=false/\dr w p.b/\∀(j:Nat) (c:ai),cs[j]? =some c->∃v,w.cell? (ad p.b (p.o+j))=some v/\v.oneCell'=true/\RC w G h c v
 |.row gr m sz xs=>tW B E w G gr m sz xs p
theorem HR.put (H:HR B E w G h used tk) {n:Nat} {blk:ar} {p:PB}
  (hw:∀b,b<w.heap.size->(p.nl=false->b≠p.b)->w'.heap[b]? =w.heap[b]?) (bD:w.heap.size<=w'.heap.size)
  (sG:∀b,b<w.heap.size->dr w b->dr w' b)
  (hu:∀m,used m=true->used' m=true) (agA:used' n=true)
  (rn:p.nl=false->¬G.Im p.b/\(B<=p.b\/E p.b)/\p.b<w'.heap.size)
  (wm:p.nl=false->∀m,m≠n->h m≠none->(G.g m).nl=false->(G.g m).b≠p.b)
  (agc:p.nl=false->∀m gr sz xs,m≠n->h m=some (.row gr .live sz xs)->∀b,aS b (G.g m).px->b≠p.b)
  (wG:∀cs c m,blk=.box cs->c∈cs->c.ref m->used' m=true)
  (K:aW w G h (fun n=>used n=true) w' ⟨G.Im,aw G.g n p⟩ (aw h n (some blk)))
  (gM:acT B E w' ⟨G.Im,aw G.g n p⟩ (aw h n (some blk)) p blk)
  (IB:∀gr m sz xs,blk=.row gr m sz xs->m≠ .aA->∀n' bk m' aK av,n'≠n->h n'=some (.row bk m' aK av)->m'≠ .aA->∀b,aS b p.px->¬aS b (G.g n').px)
  (sA:∀gr sz xs,blk=.row gr .live sz xs->∀b,aS b p.px->(p.nl=false->b≠p.b)/\∀n',n'≠n->h n'≠none->(G.g n').nl=false->b≠(G.g n').b)
  (AS:∀gr m sz xs,blk=.row gr m sz xs->m≠ .aA->∀(i:Nat) (pc:PC) (b:Nat),tk[i]? =some pc->aP b pc->¬aS b p.px)
  (lY:p.nl=false->p.b<w.heap.size->∀b,(∃m gr mo sz xs,m≠n/\h m=some (.row gr mo sz xs)/\aS b (G.g m).px)->b≠p.b):
  HR B E w' ⟨G.Im,aw G.g n p⟩ (aw h n (some blk)) used' tk:=by
 have e1:∀m,m≠n->aw h n (some blk) m=h m:=fun m hm=>bZ _ _ _ _ hm
 have e2:∀m,m≠n->aw G.g n p m=G.g m:=fun m hm=>bZ _ _ _ _ hm
 have OR:∀m,m≠n->h m≠none->(G.g m).nl=false->w'.heap[(G.g m).b]? =w.heap[(G.g m).b]? :=fun m hm h0 hl=>
  hw _ (H.own m h0 hl).2.2 (fun hp=>wm hp m hm h0 hl)
 refine⟨?_,?_,?_,?_,?_,?_,?_,H.oT,?_,?_,?_,?_,?_⟩
 ·intro m hm
  by_cases bz:m=n
  ·subst bz;exact agA
  ·rw[e1 m bz] at hm;exact hu m (H.iS m hm)
 ·intro m cs c q hm hc hr
  by_cases bz:m=n
  ·subst bz
   rw[bA] at hm
   injection hm with hm
   exact wG cs c q hm hc hr
  ·rw[e1 m bz] at hm;exact hu q (H.gy m cs c q hm hc hr)
 ·intro m cs hm
  by_cases bz:m=n
  ·subst bz
   rw[bA] at hm
   injection hm with hm
   subst hm
   simp only[bA]
   exact gM
  ·rw[e1 m bz] at hm
   simp only[e2 m bz]
   obtain⟨a1,a2,a3⟩:=H.box m cs hm
   have hs:=OR m bz (by rw[hm];simp) a1
   refine⟨a1,a2.congr hs,fun j c hj=>?_⟩
   obtain⟨v,b1,b2,b3⟩:=a3 j c hj
   exact⟨v,(io hs _).trans b1,b2,b3.eM K fun q hq=>H.gy m cs c q hm (List.mem_of_getElem? hj) hq⟩
 ·intro m gr mo sz xs hm
  by_cases bz:m=n
  ·subst bz
   rw[bA] at hm
   injection hm with hm
   subst hm
   simp only[bA]
   exact gM
  ·rw[e1 m bz] at hm
   simp only[e2 m bz]
   have hr:=H.row m gr mo sz xs hm
   have hf:∀b,aS b (G.g m).px->w'.heap[b]? =w.heap[b]? :=fun b hb=>
    hw b (H.qC hm hb) (fun hp dm=>by
     by_cases bH:p.b<w.heap.size
     ·exact lY hp bH b ⟨m,gr,mo,sz,xs,bz,hm,hb⟩ dm
     ·have:=H.qC hm hb;omega)
   refine⟨hr.pos,hr.er,hr.nl,fun hl=>?_,fun hl hg=>?_,?_⟩
   ·have hs:=OR m bz (by rw[hm];simp) hl
    obtain⟨a1,a2,a3⟩:=hr.dD hl
    exact⟨a1.congr hs,a2.congr (fun o=>io hs o) (fun b' aT o=>io (hf b' aT) o),a3⟩
   ·have hs:=OR m bz (by rw[hm];simp) hl
    obtain⟨r2,cur,e,r3,r4⟩:=hr.room hl hg
    exact⟨r2,cur,e,hs.trans r3,r4⟩
   ·have cJ:=hr.mode
    cases mo with
    |aA=>exact cJ
    |ab=>exact⟨fun b hb=>⟨(cJ.1 b hb).1,(cJ.1 b hb).2.1.congr (hf b hb),(cJ.1 b hb).2.2⟩,cJ.2⟩
    |live=>exact⟨fun b hb=>⟨(cJ.1 b hb).1,(cJ.1 b hb).2.1.congr (hf b hb),(cJ.1 b hb).2.2⟩,cJ.2⟩
 ·intro m hm hl
  by_cases bz:m=n
  ·subst bz
   simp only[bA] at hl⊢
   exact rn hl
  ·rw[e1 m bz] at hm
   simp only[e2 m bz] at hl⊢
   obtain⟨a1,a2,a3⟩:=H.own m hm hl
   exact⟨a1,a2,Nat.lt_of_lt_of_le a3 bD⟩
 ·intro m m' hm bB ax hl dt
  by_cases bz:m=n
  ·subst bz
   have ic:m'≠m:=fun e=>ax e.symm
   rw[e1 m' ic] at bB
   simp only[bA,e2 m' ic] at hl dt⊢
   exact fun e=>wm hl m' ic bB dt e.symm
  ·rw[e1 m bz] at hm
   by_cases ic:m'=n
   ·subst ic
    simp only[bA,e2 m bz] at hl dt⊢
    exact wm dt m bz hm hl
   ·rw[e1 m' ic] at bB
    simp only[e2 m bz,e2 m' ic] at hl dt⊢
    exact H.inj m m' hm bB ax hl dt
 ·exact fun b hb=>Nat.lt_of_lt_of_le (H.fI b hb) bD
 ·intro m m' gr mo sz xs bk nc aK av hm bB hb aT ax b cg
  by_cases bz:m=n
  ·subst bz
   have ic:m'≠m:=fun e=>ax e.symm
   rw[e1 m' ic] at bB
   rw[bA] at hm
   injection hm with hm
   simp only[bA,e2 m' ic] at cg⊢
   exact IB gr mo sz xs hm hb m' bk nc aK av ic bB aT b cg
  ·rw[e1 m bz] at hm
   by_cases ic:m'=n
   ·subst ic
    rw[bA] at bB
    injection bB with bB
    simp only[bA,e2 m bz] at cg⊢
    exact fun IA=>IB bk nc aK av bB aT m gr mo sz xs bz hm hb b IA cg
   ·rw[e1 m' ic] at bB
    simp only[e2 m bz,e2 m' ic] at cg⊢
    exact H.fv m m' gr mo sz xs bk nc aK av hm bB hb aT ax b cg
 ·intro m gr sz xs hm b hb m' bB dt
  by_cases bz:m=n
  ·subst bz
   rw[bA] at hm
   injection hm with hm
   simp only[bA] at hb
   have:=sA gr sz xs hm b hb
   by_cases ic:m'=m
   ·subst ic;simp only[bA] at dt⊢;exact this.1 dt
   ·rw[e1 m' ic] at bB
    simp only[e2 m' ic] at dt⊢
    exact this.2 m' ic bB dt
  ·rw[e1 m bz] at hm
   simp only[e2 m bz] at hb
   by_cases ic:m'=n
   ·subst ic
    simp only[bA] at dt⊢
    exact agc dt m gr sz xs bz hm b hb
   ·rw[e1 m' ic] at bB
    simp only[e2 m' ic] at dt⊢
    exact H.live m gr sz xs hm b hb m' bB dt
 ·intro i pc hi
  obtain⟨a1,a2⟩:=H.qG i pc hi
  exact⟨a1,fun b hb=>⟨(a2 b hb).1,sG b (H.fI b (a2 b hb).1) (a2 b hb).2.1,(a2 b hb).2.2⟩⟩
 ·exact H.vo
 ·intro i pc m gr mo sz xs b hi hm iW hb
  by_cases bz:m=n
  ·subst bz
   rw[bA] at hm
   injection hm with hm
   simp only[bA]
   exact AS gr mo sz xs hm iW i pc b hi hb
  ·rw[e1 m bz] at hm
   simp only[e2 m bz]
   exact H.qH i pc m gr mo sz xs b hi hm iW hb
theorem HR.del (H:HR B E w G h used tk) (n:Nat):HR B E w G (aw h n none) used tk:=by
 have e0:∀m b,aw h n none m=some b->h m=some b/\m≠n:=fun m b hm=>by
  by_cases bz:m=n
  ·subst bz;rw[bA] at hm;cases hm
  ·rw[bZ _ _ _ _ bz] at hm;exact⟨hm,bz⟩
 have e1:∀m,aw h n none m≠none->h m≠none:=fun m hm=>by
  by_cases bz:m=n
  ·subst bz;rw[bA] at hm;exact absurd rfl hm
  ·rwa[bZ _ _ _ _ bz] at hm
 have K:aW w G h (fun n=>used n=true) w G (aw h n none):=
  ⟨fun _ h=>h,fun _ _ _=>rfl,fun m _ hm=>⟨e1 m hm,rfl,rfl,rfl,rfl,rfl⟩,fun m gr sz xs _ hm=>⟨⟨gr,xs,(e0 m _ hm).1⟩,fun k j pc h1 h2=>⟨pc,h1,rfl,h2⟩⟩⟩
 refine⟨fun m hm=>H.iS m (e1 m hm),fun m cs c q hm=>H.gy m cs c q (e0 m _ hm).1,fun m cs hm=>?_,fun m gr mo sz xs hm=>H.row m gr mo sz xs (e0 m _ hm).1,
  fun m hm=>H.own m (e1 m hm),fun m m' hm bB=>H.inj m m' (e1 m hm) (e1 m' bB),H.fI,H.oT,fun m m' gr mo sz xs bk nc aK av hm bB=>H.fv m m' gr mo sz xs bk nc aK av (e0 m _ hm).1 (e0 m' _ bB).1,
  fun m gr sz xs hm b hb m' bB=>H.live m gr sz xs (e0 m _ hm).1 b hb m' (e1 m' bB),H.qG,H.vo,fun i pc m gr mo sz xs b hi hm=>H.qH i pc m gr mo sz xs b hi (e0 m _ hm).1⟩
 obtain⟨a1,a2,a3⟩:=H.box m cs (e0 m _ hm).1
 refine⟨a1,a2,fun j c hj=>?_⟩
 obtain⟨v,b1,b2,b3⟩:=a3 j c hj
 exact⟨v,b1,b2,b3.eM K fun q hq=>H.gy m cs c q (e0 m _ hm).1 (List.mem_of_getElem? hj) hq⟩
theorem aW.del (n:Nat) (u:Nat->Prop):aW w G h u w G (aw h n none):=by
 have e1:∀m b,aw h n none m=some b->h m=some b:=fun m b hm=>by
  by_cases bz:m=n
  ·subst bz;rw[bA] at hm;cases hm
  ·rwa[bZ _ _ _ _ bz] at hm
 refine⟨fun _ h=>h,fun _ _ _=>rfl,fun m _ hm=>?_,fun m gr sz xs _ hm=>⟨⟨gr,xs,e1 m _ hm⟩,fun k j pc h1 h2=>⟨pc,h1,rfl,h2⟩⟩⟩
 cases hh:aw h n none m with
 |none=>exact absurd hh hm
 |some b=>rw[e1 m b hh];exact⟨by simp,rfl,rfl,rfl,rfl,rfl⟩
end
end Go.Am
