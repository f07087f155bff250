/- Am2: the abstract machine's values, its named blocks, and how they stand for a world. No condition. -/
import Derived.Test.YtifmggmhdcdgbaaAm1
set_option linter.unusedVariables false
namespace Go.Am
inductive ai where
 |c (x:C)
 |nil (sz:Nat)
 |ptr (n k sz off:Nat)
 |cd (xs:List C) (off:Nat)
 |sl (n sz lo len:Nat)
 |bx (n k ax off sz len:Nat)
 |cD (n k ax off sz i:Nat)
 |fn (f:FuncId) (bY:List ai)
 |bf
instance:Inhabited ai:=⟨.bf⟩
inductive Mode where
 |live|ae|aA
 deriving DecidableEq
inductive aq where
 |box (cs:List ai)
 |row (gr:Bool) (m:Mode) (sz:Nat) (xs:List (List C))
inductive ak where
 |one (c:ai)
 |agg (cs:List ai)
 |bn (xs:List (Bool×List ai))
instance:Inhabited ak:=⟨.one .bf⟩
structure St where
 env:Nat->ak
 h:Nat->Option aq
 used:Nat->Bool
def au {α:Type} (f:Nat->α) (k:Nat) (v:α):Nat->α:=fun n=>match Nat.beq n k with
 |true=>v
 |false=>f n
theorem iK {α:Type} (f:Nat->α) (k:Nat) (v:α) (n:Nat):au f k v n=if n=k then v else f n:=by
 unfold au
 split
 ·rename_i e;rw[if_pos (Nat.eq_of_beq_eq_true e)]
 ·rename_i e;rw[if_neg (fun h=>by rw[h,Nat.beq_refl] at e;cases e)]
theorem bC {α:Type} (f:Nat->α) (k:Nat) (v:α):au f k v k=v:=by simp[iK]
theorem cb {α:Type} (f:Nat->α) (k n:Nat) (v:α) (h:n≠k):au f k v n=f n:=by simp[iK,h]
def ai.g7:ai->Nat->Prop
 |.ptr n _ _ _,m=>m=n
 |.sl n _ _ _,m=>m=n
 |.bx n _ _ _ _ _,m=>m=n
 |.cD n _ _ _ _ _,m=>m=n
 |_,_=>False
def ai.ref:ai->Nat->Prop
 |.fn _ bY,m=>∃x∈bY,x.g7 m
 |x,m=>x.g7 m
def ak.ref:ak->Nat->Prop
 |.one c,m=>c.ref m
 |.agg cs,m=>∃c∈cs,c.ref m
 |.bn xs,m=>∃x∈xs,∃c∈x.2,c.ref m
structure PB where
 nl:Bool
 b:Nat
 o:Nat
 cap:Nat
 px:List (List PC)
 na:Option Addr
instance:Inhabited PB:=⟨⟨false,0,0,0,[],none⟩⟩
def aF:Nat:=1000000
structure Ex where
 e:Nat->Prop
 pK:Nat->Option PB
 lt:∀n p,pK n=some p->aF<=n
 a:Nat->Prop
instance:CoeFun Ex (fun _=>Nat->Prop):=⟨Ex.e⟩
def Ex.no:Ex:=⟨fun _=>False,fun _=>none,fun _ _ h=>(by cases h),fun _=>True⟩
structure Gh where
 Im:Nat->Prop
 g:Nat->PB
def PC.f7:PC->Bool
 |.list ..=>true
 |_=>false
def jg (p:PB) (sz lo len:Nat) (v:Value):Prop:=
 (p.nl=true/\v=.slice p.na 0 p.cap/\lo=0/\len=0)\/
 (p.nl=false/\∃a,v=.slice a len (p.cap - lo)/\lo+len<=p.cap/\((lo<p.cap\/lo=0)->a=some (ad p.b (p.o+lo*sz))))
def iM (w:World) (G:Gh) (h:Nat->Option aq):ai->Value->Prop
 |.c x,v=>∃pc:PC,pc.er=x/\pc.val=v/\Good w pc/\∀b,aM b pc->G.Im b
 |.nil _,v=>v=.slice none 0 0
 |.ptr n k sz off,v=>h n≠none->(G.g n).nl=false/\v=.pointer (some (ad (G.g n).b ((G.g n).o+k*sz+off)))
 |.cd xs off,v=>∃(b o:Nat) (pe:List PC),v=.pointer (some (ad b (o+off)))/\pe.map PC.er=xs/\G.Im b/\
  ∀j c,pe[j]? =some c->w.cell? (ad b (o+j))=some c.val/\Good w c/\∀b',aM b' c->G.Im b'
 |.sl n sz lo len,v=>h n≠none->jg (G.g n) sz lo len v
 |.bx n k ax off sz len,v=>∀gr xs,h n=some (.row gr .live ax xs)->∃pc,At (G.g n).px k off pc/\pc.val=v/\pc.f7=true
 |.cD n k ax off sz i,v=>∀gr xs,h n=some (.row gr .live ax xs)->∃(pc:PC) (b o len cap:Nat),At (G.g n).px k off pc/\pc.val=.slice (some (ad b o)) len cap/\pc.f7=true/\v=.pointer (some (ad b (o+i*sz)))
 |.fn _ _,_=>False
 |.bf,_=>True
def RC (w:World) (G:Gh) (h:Nat->Option aq):ai->Value->Prop
 |.fn f bY,v=>∃vs:List Value,v=.func (.func f) #[] vs.toArray/\vs.length=bY.length/\∀(j:Nat) (c:ai) (u:Value),bY[j]? =some c->vs[j]? =some u->u.oneCell'=true/\iM w G h c u
 |c,v=>iM w G h c v
def ai.kx:ai->Bool
 |.fn _ _=>true
 |_=>false
theorem wO (w:World) (G:Gh) (h:Nat->Option aq) (c:ai) (v:Value) (hc:c.kx=false):RC w G h c v=iM w G h c v:=by
 cases c<;>first|rfl|(simp[ai.kx] at hc)
theorem ai.YB (c:ai) (m:Nat) (hc:c.kx=false):c.ref m=c.g7 m:=by
 cases c<;>first|rfl|(simp[ai.kx] at hc)
def cA (w:World) (G:Gh) (h:Nat->Option aq) (cs:List ai) (vs:List Value):Prop:=
 vs.length=cs.length/\∀(j:Nat) (c:ai) (u:Value),cs[j]? =some c->vs[j]? =some u->u.oneCell'=true/\RC w G h c u
def RV (w:World) (G:Gh) (h:Nat->Option aq) (ag:Bool) (cs:List ai) (v:Value):Prop:=
 if ag then∃vs:List Value,v=.agg vs.toArray/\cA w G h cs vs else cA w G h cs [v]
def RA (w:World) (G:Gh) (h:Nat->Option aq):ak->Value->Prop
 |.one c,v=>c=.bf\/RV w G h false [c] v
 |.agg cs,v=>RV w G h true cs v
 |.bn xs,v=>∃vs:List Value,v=.tuple vs.toArray/\vs.length=xs.length/\∀(j:Nat) (x:Bool×List ai) (u:Value),xs[j]? =some x->vs[j]? =some u->RV w G h x.1 x.2 u
structure aT (w:World) (G:Gh) (h:Nat->Option aq) (used:Nat->Prop) (w':World) (G':Gh) (h':Nat->Option aq):Prop where
 im:∀b,G.Im b->G'.Im b
 cell:∀b,G.Im b->∀o,w'.cell? (ad b o)=w.cell? (ad b o)
 name:∀n,used n->h' n≠none->h n≠none/\(G'.g n).nl=(G.g n).nl/\(G'.g n).b=(G.g n).b/\(G'.g n).o=(G.g n).o/\(G'.g n).cap=(G.g n).cap/\(G'.g n).na=(G.g n).na
 live:∀n gr sz xs,used n->h' n=some (.row gr .live sz xs)->(∃xo kb,h n=some (.row xo .live sz kb))/\
  ∀k j pc,At (G.g n).px k j pc->pc.f7=true->∃c8,At (G'.g n).px k j c8/\c8.val=pc.val/\c8.f7=true
section
variable {w w':World} {G G':Gh} {h h':Nat->Option aq} {used:Nat->Prop}
theorem iM.eI (K:aT w G h used w' G' h') {c:ai} {v:Value} (hr:∀m,c.g7 m->used m) (hc:iM w G h c v):iM w' G' h' c v:=by
 cases c with
 |c x=>
  obtain⟨pc,h1,h2,h3,h4⟩:=hc
  exact⟨pc,h1,h2,h3.congr fun b hb o=>K.cell b (h4 b hb) o,fun b hb=>K.im b (h4 b hb)⟩
 |nil sz=>exact hc
 |ptr n k sz off=>
  intro hn
  obtain⟨h0,e1,e2,e3,e4,e5⟩:=K.name n (hr n rfl) hn
  rw[e1,e2,e3]
  exact hc h0
 |cd xs off=>
  obtain⟨b,o,pe,h1,h2,h3,h4⟩:=hc
  refine⟨b,o,pe,h1,h2,K.im b h3,fun j c hj=>?_⟩
  obtain⟨a1,a2,a3⟩:=h4 j c hj
  exact⟨(K.cell b h3 _).trans a1,a2.congr fun b' aR o'=>K.cell b' (a3 b' aR) o',fun b' aR=>K.im b' (a3 b' aR)⟩
 |sl n sz lo len=>
  intro hn
  obtain⟨h0,e1,e2,e3,e4,e5⟩:=K.name n (hr n rfl) hn
  have:=hc h0
  unfold jg at*
  rw[e1,e2,e3,e4,e5]
  exact this
 |bx n k ax off sz len=>
  intro gr xs hn
  obtain⟨⟨xo,kb,h0⟩,hl⟩:=K.live n gr ax xs (hr n rfl) hn
  obtain⟨pc,p1,p2,p3⟩:=hc xo kb h0
  obtain⟨c8,q1,q2,q3⟩:=hl k off pc p1 p3
  exact⟨c8,q1,q2.trans p2,q3⟩
 |cD n k ax off sz i=>
  intro gr xs hn
  obtain⟨⟨xo,kb,h0⟩,hl⟩:=K.live n gr ax xs (hr n rfl) hn
  obtain⟨pc,b,o,len,cap,p1,p2,p3,p4⟩:=hc xo kb h0
  obtain⟨c8,q1,q2,q3⟩:=hl k off pc p1 p3
  exact⟨c8,b,o,len,cap,q1,q2.trans p2,q3,p4⟩
 |fn f bY=>exact hc
 |bf=>trivial
theorem RC.eI (K:aT w G h used w' G' h') {c:ai} {v:Value} (hr:∀m,c.ref m->used m) (hc:RC w G h c v):RC w' G' h' c v:=by
 by_cases hf:c.kx=false
 ·rw[wO _ _ _ _ _ hf] at*
  exact hc.eI K fun m hm=>hr m (by rw[ai.YB c m hf];exact hm)
 ·cases c<;>first|(simp[ai.kx] at hf;done)|skip
  obtain⟨vs,h1,h2,h3⟩:=hc
  exact⟨vs,h1,h2,fun j c u hj hu=>⟨(h3 j c u hj hu).1,(h3 j c u hj hu).2.eI K fun m hm=>hr m ⟨c,List.mem_of_getElem? hj,hm⟩⟩⟩
theorem cA.eI (K:aT w G h used w' G' h') {cs:List ai} {vs:List Value} (hr:∀c∈cs,∀m,c.ref m->used m) (hc:cA w G h cs vs):cA w' G' h' cs vs:=
 ⟨hc.1,fun j c u hj hu=>⟨(hc.2 j c u hj hu).1,(hc.2 j c u hj hu).2.eI K (hr c (List.mem_of_getElem? hj))⟩⟩
theorem RV.eI (K:aT w G h used w' G' h') {ag:Bool} {cs:List ai} {v:Value} (hr:∀c∈cs,∀m,c.ref m->used m) (hc:RV w G h ag cs v):RV w' G' h' ag cs v:=by
 unfold RV at*
 split
 ·rename_i h1
  simp only[h1,if_true] at hc
  obtain⟨vs,e,hv⟩:=hc
  exact⟨vs,e,hv.eI K hr⟩
 ·rename_i h1
  simp only[h1] at hc
  exact cA.eI K hr hc
theorem RA.eI (K:aT w G h used w' G' h') {x:ak} {v:Value} (hr:∀m,x.ref m->used m) (hc:RA w G h x v):RA w' G' h' x v:=by
 cases x with
 |one c=>exact hc.imp id fun hv=>hv.eI K fun c' ct m hm=>hr m (by simp at ct;subst ct;exact hm)
 |agg cs=>exact RV.eI K (fun c' ct m hm=>hr m ⟨c',ct,hm⟩) hc
 |bn xs=>
  obtain⟨vs,e,hl,hv⟩:=hc
  exact⟨vs,e,hl,fun j x u hj hu=>(hv j x u hj hu).eI K fun c' ct m hm=>hr m ⟨x,List.mem_of_getElem? hj,c',ct,hm⟩⟩
end
def E0 (w:World) (p:PB) (sz:Nat):Prop:=p.cap<=maxLen/\∃cur e,w.heap[p.b]? =some (.cells cur e (0,0))/\cur.size=p.o+p.cap*sz
def BP (B:Nat) (E:Ex) (w:World) (G:Gh) (px:List (List PC)):Mode->Prop
 |.aA=>∀b,aP b px->G.Im b
 |.ae=>(∀b,aP b px->G.Im b/\dk w b/\(B<=b\/E b))/\gS px
 |.live=>(∀b,aP b px->¬G.Im b/\dk w b/\(B<=b\/E b))/\gS px
structure sU (B:Nat) (E:Ex) (w:World) (G:Gh) (gr:Bool) (m:Mode) (sz:Nat) (xs:List (List C)) (p:PB):Prop where
 pos:0<sz
 er:xs=p.px.map (fun e=>e.map PC.er)
 nl:p.nl=true->p.px=[]/\(gr=true->p.cap=0)
 dB:p.nl=false->dk w p.b/\nT w p.b p.o sz p.px/\p.px.length<=p.cap
 room:p.nl=false->gr=true->E0 w p sz
 mode:BP B E w G p.px m
structure HR (B:Nat) (E:Ex) (w:World) (G:Gh) (h:Nat->Option aq) (used:Nat->Bool) (tk:List PC):Prop where
 iA:∀n,h n≠none->used n=true
 gi:∀m cs c n,h m=some (.box cs)->c∈cs->c.ref n->used n=true
 box:∀n cs,h n=some (.box cs)->(G.g n).nl=false/\dk w (G.g n).b/\
  ∀(j:Nat) (c:ai),cs[j]? =some c->∃v,w.cell? (ad (G.g n).b ((G.g n).o+j))=some v/\v.oneCell'=true/\RC w G h c v
 row:∀n gr m sz xs,h n=some (.row gr m sz xs)->sU B E w G gr m sz xs (G.g n)
 own:∀n,h n≠none->(G.g n).nl=false->¬G.Im (G.g n).b/\(B<=(G.g n).b\/E (G.g n).b)/\(G.g n).b<w.heap.size
 inj:∀n n',h n≠none->h n'≠none->n≠n'->(G.g n).nl=false->(G.g n').nl=false->(G.g n).b≠(G.g n').b
 fx:∀b,G.Im b->b<w.heap.size
 ox:∀b,G.Im b->B<=b\/E b\/E.a b
 fi:∀n n' gr m sz xs bh m' aG ar,h n=some (.row gr m sz xs)->h n'=some (.row bh m' aG ar)->m≠ .aA->m'≠ .aA->n≠n'->
  ∀b,aP b (G.g n).px->¬aP b (G.g n').px
 live:∀n gr sz xs,h n=some (.row gr .live sz xs)->∀b,aP b (G.g n).px->∀n',h n'≠none->(G.g n').nl=false->b≠(G.g n').b
 qa:∀(i:Nat) (pc:PC),tk[i]? =some pc->Sep pc/\∀b,aM b pc->G.Im b/\dk w b/\(B<=b\/E b)
 uh:∀(i j:Nat) (pc c8:PC) (b:Nat),i≠j->tk[i]? =some pc->tk[j]? =some c8->aM b pc->¬aM b c8
 qb:∀(i:Nat) (pc:PC) (n:Nat) (gr:Bool) (m:Mode) (sz:Nat) (xs:List (List C)) (b:Nat),tk[i]? =some pc->h n=some (.row gr m sz xs)->m≠ .aA->aM b pc->¬aP b (G.g n).px
def Cz (w w':World) (b:Nat):Prop:=∀arr e,w.heap[b]? =some (.cells arr e (0,0))->∃Th,w'.heap[b]? =some (.cells Th e (0,0))/\Th.size=arr.size
theorem Cz.refl (w:World) (b:Nat):Cz w w b:=fun arr _ h=>⟨arr,h,rfl⟩
theorem Cz.of_eq {w w':World} {b:Nat} (h:w'.heap[b]? =w.heap[b]?):Cz w w' b:=fun arr _ h1=>⟨arr,h.trans h1,rfl⟩
theorem Cz.trans {w w1 w2:World} {b:Nat} (h1:Cz w w1 b) (h2:Cz w1 w2 b):Cz w w2 b:=fun arr e h=>by
 obtain⟨a1,e1,s1⟩:=h1 arr e h
 obtain⟨a2,e2,s2⟩:=h2 a1 e e1
 exact⟨a2,e2,s2.trans s1⟩
theorem Cz.j7 {w w':World} {b:Nat} (h:Cz w w' b) (hu:dk w b):dk w' b:=by
 obtain⟨arr,e,hu⟩:=hu
 obtain⟨a,e1,_⟩:=h arr e hu
 exact⟨a,e,e1⟩
structure Fr (B:Nat) (E:Ex) (w0 w:World):Prop where
 os:w.os=w0.os
 tape:w.tape=w0.tape
 output:w.output=w0.output
 size:B<=w.heap.size
 block:∀b,b<B->¬E b->w.heap[b]? =w0.heap[b]?
 j7:∀b,b<B->Cz w0 w b
def aaj (p q:PB) (b:aq):Prop:=
 q.nl=p.nl/\q.b=p.b/\q.o=p.o/\q.cap=p.cap/\q.na=p.na/\
  ∀gr sz xs,b=.row gr .live sz xs->∀k j pc,At p.px k j pc->pc.f7=true->∃c8,At q.px k j c8/\c8.val=pc.val/\c8.f7=true
structure R (B:Nat) (E:Ex) (w0:World) (N:Nat) (σ:St) (a:Act) (w:World) (G:Gh):Prop where
 defers:a.defers=[]
 size:a.tmps.size=N
 env:∀s,RA w G σ.h (σ.env s) (a.tmps.getD s undef)
 rf:∀s n,(σ.env s).ref n->σ.used n=true
 hr:HR B E w G σ.h σ.used []
 fr:Fr B E w0 w
 pK:∀n p b,E.pK n=some p->σ.h n=some b->aaj p (G.g n) b
 yr:∀n,aF<=n->σ.used n=true
end Go.Am
