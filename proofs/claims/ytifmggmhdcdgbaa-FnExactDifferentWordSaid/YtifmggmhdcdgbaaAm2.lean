/- Am2: the abstract machine's values, its named blocks, and how they stand for a world. No condition. -/
import Derived.Test.YtifmggmhdcdgbaaAm1
set_option linter.unusedVariables false
namespace Go.Am
inductive ah where
 |c (x:C)
 |nil (sz:Nat)
 |ptr (n k sz off:Nat)
 |bT (xs:List C) (off:Nat)
 |sl (n sz lo len:Nat)
 |br (n k ax off sz len:Nat)
 |cr (n k ax off sz i:Nat)
 |fn (f:FuncId) (bR:List ah)
 |bg
instance:Inhabited ah:=⟨.bg⟩
inductive Mode where
 |live|aa|aE
 deriving DecidableEq
inductive ar where
 |box (cs:List ah)
 |row (gr:Bool) (m:Mode) (sz:Nat) (xs:List (List C))
inductive ai where
 |one (c:ah)
 |agg (cs:List ah)
 |bj (xs:List (Bool×List ah))
instance:Inhabited ai:=⟨.one .bg⟩
structure St where
 env:Nat->ai
 h:Nat->Option ar
 used:Nat->Bool
def av {α:Type} (f:Nat->α) (k:Nat) (v:α):Nat->α:=fun n=>match Nat.beq n k with
 |true=>v
 |false=>f n
theorem iE {α:Type} (f:Nat->α) (k:Nat) (v:α) (n:Nat):av f k v n=if n=k then v else f n:=by
 unfold av
 split
 ·rename_i e;rw[if_pos (Nat.eq_of_beq_eq_true e)]
 ·rename_i e;rw[if_neg (fun h=>by rw[h,Nat.beq_refl] at e;cases e)]
theorem bw {α:Type} (f:Nat->α) (k:Nat) (v:α):av f k v k=v:=by simp[iE]
theorem bS {α:Type} (f:Nat->α) (k n:Nat) (v:α) (h:n≠k):av f k v n=f n:=by simp[iE,h]
def ah.gU:ah->Nat->Prop
 |.ptr n _ _ _,m=>m=n
 |.sl n _ _ _,m=>m=n
 |.br n _ _ _ _ _,m=>m=n
 |.cr n _ _ _ _ _,m=>m=n
 |_,_=>False
def ah.ref:ah->Nat->Prop
 |.fn _ bR,m=>∃x∈bR,x.gU m
 |x,m=>x.gU m
def ai.ref:ai->Nat->Prop
 |.one c,m=>c.ref m
 |.agg cs,m=>∃c∈cs,c.ref m
 |.bj xs,m=>∃x∈xs,∃c∈x.2,c.ref m
structure PB where
 nl:Bool
 b:Nat
 o:Nat
 cap:Nat
 px:List (List PC)
 na:Option Addr
instance:Inhabited PB:=⟨⟨false,0,0,0,[],none⟩⟩
def aJ:Nat:=1000000
structure Ex where
 e:Nat->Prop
 pV:Nat->Option PB
 lt:∀n p,pV n=some p->aJ<=n
 a:Nat->Prop
instance:CoeFun Ex (fun _=>Nat->Prop):=⟨Ex.e⟩
def Ex.no:Ex:=⟨fun _=>False,fun _=>none,fun _ _ h=>(by cases h),fun _=>True⟩
structure Gh where
 Im:Nat->Prop
 g:Nat->PB
def PC.fV:PC->Bool
 |.list ..=>true
 |_=>false
def jc (p:PB) (sz lo len:Nat) (v:Value):Prop:=
 (p.nl=true/\v=.slice p.na 0 p.cap/\lo=0/\len=0)\/
 (p.nl=false/\∃a,v=.slice a len (p.cap - lo)/\lo+len<=p.cap/\((lo<p.cap\/lo=0)->a=some (ad p.b (p.o+lo*sz))))
def iG (w:World) (G:Gh) (h:Nat->Option ar):ah->Value->Prop
 |.c x,v=>∃pc:PC,pc.er=x/\pc.val=v/\Good w pc/\∀b,aN b pc->G.Im b
 |.nil _,v=>v=.slice none 0 0
 |.ptr n k sz off,v=>h n≠none->(G.g n).nl=false/\v=.pointer (some (ad (G.g n).b ((G.g n).o+k*sz+off)))
 |.bT xs off,v=>∃(b o:Nat) (pe:List PC),v=.pointer (some (ad b (o+off)))/\pe.map PC.er=xs/\G.Im b/\
  ∀j c,pe[j]? =some c->w.cell? (ad b (o+j))=some c.val/\Good w c/\∀b',aN b' c->G.Im b'
 |.sl n sz lo len,v=>h n≠none->jc (G.g n) sz lo len v
 |.br n k ax off sz len,v=>∀gr xs,h n=some (.row gr .live ax xs)->∃pc,At (G.g n).px k off pc/\pc.val=v/\pc.fV=true
 |.cr n k ax off sz i,v=>∀gr xs,h n=some (.row gr .live ax xs)->∃(pc:PC) (b o len cap:Nat),At (G.g n).px k off pc/\pc.val=.slice (some (ad b o)) len cap/\pc.fV=true/\v=.pointer (some (ad b (o+i*sz)))
 |.fn _ _,_=>False
 |.bg,_=>True
def RC (w:World) (G:Gh) (h:Nat->Option ar):ah->Value->Prop
 |.fn f bR,v=>∃vs:List Value,v=.func (.func f) #[] vs.toArray/\vs.length=bR.length/\∀(j:Nat) (c:ah) (u:Value),bR[j]? =some c->vs[j]? =some u->u.oneCell'=true/\iG w G h c u
 |c,v=>iG w G h c v
def ah.kl:ah->Bool
 |.fn _ _=>true
 |_=>false
theorem xp (w:World) (G:Gh) (h:Nat->Option ar) (c:ah) (v:Value) (hc:c.kl=false):RC w G h c v=iG w G h c v:=by
 cases c<;>first|rfl|(simp[ah.kl] at hc)
theorem ah.aao (c:ah) (m:Nat) (hc:c.kl=false):c.ref m=c.gU m:=by
 cases c<;>first|rfl|(simp[ah.kl] at hc)
def cj (w:World) (G:Gh) (h:Nat->Option ar) (cs:List ah) (vs:List Value):Prop:=
 vs.length=cs.length/\∀(j:Nat) (c:ah) (u:Value),cs[j]? =some c->vs[j]? =some u->u.oneCell'=true/\RC w G h c u
def RV (w:World) (G:Gh) (h:Nat->Option ar) (ag:Bool) (cs:List ah) (v:Value):Prop:=
 if ag then∃vs:List Value,v=.agg vs.toArray/\cj w G h cs vs else cj w G h cs [v]
def RA (w:World) (G:Gh) (h:Nat->Option ar):ai->Value->Prop
 |.one c,v=>c=.bg\/RV w G h false [c] v
 |.agg cs,v=>RV w G h true cs v
 |.bj xs,v=>∃vs:List Value,v=.tuple vs.toArray/\vs.length=xs.length/\∀(j:Nat) (x:Bool×List ah) (u:Value),xs[j]? =some x->vs[j]? =some u->RV w G h x.1 x.2 u
structure aV (w:World) (G:Gh) (h:Nat->Option ar) (used:Nat->Prop) (w':World) (G':Gh) (h':Nat->Option ar):Prop where
 im:∀b,G.Im b->G'.Im b
 cell:∀b,G.Im b->∀o,w'.cell? (ad b o)=w.cell? (ad b o)
 name:∀n,used n->h' n≠none->h n≠none/\(G'.g n).nl=(G.g n).nl/\(G'.g n).b=(G.g n).b/\(G'.g n).o=(G.g n).o/\(G'.g n).cap=(G.g n).cap/\(G'.g n).na=(G.g n).na
 live:∀n gr sz xs,used n->h' n=some (.row gr .live sz xs)->(∃xS jX,h n=some (.row xS .live sz jX))/\
  ∀k j pc,At (G.g n).px k j pc->pc.fV=true->∃cR,At (G'.g n).px k j cR/\cR.val=pc.val/\cR.fV=true
section
variable {w w':World} {G G':Gh} {h h':Nat->Option ar} {used:Nat->Prop}
theorem iG.ek (K:aV w G h used w' G' h') {c:ah} {v:Value} (hr:∀m,c.gU m->used m) (hc:iG w G h c v):iG w' G' h' c v:=by
 cases c with
 |c x=>
  obtain⟨pc,h1,h2,h3,h4⟩:=hc
  exact⟨pc,h1,h2,h3.congr fun b hb o=>K.cell b (h4 b hb) o,fun b hb=>K.im b (h4 b hb)⟩
 |nil sz=>exact hc
 |ptr n k sz off=>
  intro hn
  obtain⟨h0,e1,e2,e3,e4,e5⟩:=K.name n (hr n rfl) hn
  rw[e1,e2,e3]
  exact hc h0
 |bT xs off=>
  obtain⟨b,o,pe,h1,h2,h3,h4⟩:=hc
  refine⟨b,o,pe,h1,h2,K.im b h3,fun j c hj=>?_⟩
  obtain⟨a1,a2,a3⟩:=h4 j c hj
  exact⟨(K.cell b h3 _).trans a1,a2.congr fun b' aU o'=>K.cell b' (a3 b' aU) o',fun b' aU=>K.im b' (a3 b' aU)⟩
 |sl n sz lo len=>
  intro hn
  obtain⟨h0,e1,e2,e3,e4,e5⟩:=K.name n (hr n rfl) hn
  have:=hc h0
  unfold jc at*
  rw[e1,e2,e3,e4,e5]
  exact this
 |br n k ax off sz len=>
  intro gr xs hn
  obtain⟨⟨xS,jX,h0⟩,hl⟩:=K.live n gr ax xs (hr n rfl) hn
  obtain⟨pc,p1,p2,p3⟩:=hc xS jX h0
  obtain⟨cR,q1,q2,q3⟩:=hl k off pc p1 p3
  exact⟨cR,q1,q2.trans p2,q3⟩
 |cr n k ax off sz i=>
  intro gr xs hn
  obtain⟨⟨xS,jX,h0⟩,hl⟩:=K.live n gr ax xs (hr n rfl) hn
  obtain⟨pc,b,o,len,cap,p1,p2,p3,p4⟩:=hc xS jX h0
  obtain⟨cR,q1,q2,q3⟩:=hl k off pc p1 p3
  exact⟨cR,b,o,len,cap,q1,q2.trans p2,q3,p4⟩
 |fn f bR=>exact hc
 |bg=>trivial
theorem RC.ek (K:aV w G h used w' G' h') {c:ah} {v:Value} (hr:∀m,c.ref m->used m) (hc:RC w G h c v):RC w' G' h' c v:=by
 by_cases hf:c.kl=false
 ·rw[xp _ _ _ _ _ hf] at*
  exact hc.ek K fun m hm=>hr m (by rw[ah.aao c m hf];exact hm)
 ·cases c<;>first|(simp[ah.kl] at hf;done)|skip
  obtain⟨vs,h1,h2,h3⟩:=hc
  exact⟨vs,h1,h2,fun j c u hj hu=>⟨(h3 j c u hj hu).1,(h3 j c u hj hu).2.ek K fun m hm=>hr m ⟨c,List.mem_of_getElem? hj,hm⟩⟩⟩
theorem cj.ek (K:aV w G h used w' G' h') {cs:List ah} {vs:List Value} (hr:∀c∈cs,∀m,c.ref m->used m) (hc:cj w G h cs vs):cj w' G' h' cs vs:=
 ⟨hc.1,fun j c u hj hu=>⟨(hc.2 j c u hj hu).1,(hc.2 j c u hj hu).2.ek K (hr c (List.mem_of_getElem? hj))⟩⟩
theorem RV.ek (K:aV w G h used w' G' h') {ag:Bool} {cs:List ah} {v:Value} (hr:∀c∈cs,∀m,c.ref m->used m) (hc:RV w G h ag cs v):RV w' G' h' ag cs v:=by
 unfold RV at*
 split
 ·rename_i h1
  simp only[h1,if_true] at hc
  obtain⟨vs,e,hv⟩:=hc
  exact⟨vs,e,hv.ek K hr⟩
 ·rename_i h1
  simp only[h1] at hc
  exact cj.ek K hr hc
theorem RA.ek (K:aV w G h used w' G' h') {x:ai} {v:Value} (hr:∀m,x.ref m->used m) (hc:RA w G h x v):RA w' G' h' x v:=by
 cases x with
 |one c=>exact hc.imp id fun hv=>hv.ek K fun c' cz m hm=>hr m (by simp at cz;subst cz;exact hm)
 |agg cs=>exact RV.ek K (fun c' cz m hm=>hr m ⟨c',cz,hm⟩) hc
 |bj xs=>
  obtain⟨vs,e,hl,hv⟩:=hc
  exact⟨vs,e,hl,fun j x u hj hu=>(hv j x u hj hu).ek K fun c' cz m hm=>hr m ⟨x,List.mem_of_getElem? hj,c',cz,hm⟩⟩
end
def FH (w:World) (p:PB) (sz:Nat):Prop:=p.cap<=maxLen/\∃cur e,w.heap[p.b]? =some (.cells cur e (0,0))/\cur.size=p.o+p.cap*sz
def Ch (B:Nat) (E:Ex) (w:World) (G:Gh) (px:List (List PC)):Mode->Prop
 |.aE=>∀b,aR b px->G.Im b
 |.aa=>(∀b,aR b px->G.Im b/\da w b/\(B<=b\/E b))/\gI px
 |.live=>(∀b,aR b px->¬G.Im b/\da w b/\(B<=b\/E b))/\gI px
structure tj (B:Nat) (E:Ex) (w:World) (G:Gh) (gr:Bool) (m:Mode) (sz:Nat) (xs:List (List C)) (p:PB):Prop where
 pos:0<sz
 er:xs=p.px.map (fun e=>e.map PC.er)
 nl:p.nl=true->p.px=[]/\(gr=true->p.cap=0)
 dq:p.nl=false->da w p.b/\n5 w p.b p.o sz p.px/\p.px.length<=p.cap
 room:p.nl=false->gr=true->FH w p sz
 mode:Ch B E w G p.px m
structure HR (B:Nat) (E:Ex) (w:World) (G:Gh) (h:Nat->Option ar) (used:Nat->Bool) (tk:List PC):Prop where
 iq:∀n,h n≠none->used n=true
 f8:∀m cs c n,h m=some (.box cs)->c∈cs->c.ref n->used n=true
 box:∀n cs,h n=some (.box cs)->(G.g n).nl=false/\da w (G.g n).b/\
  ∀(j:Nat) (c:ah),cs[j]? =some c->∃v,w.cell? (ad (G.g n).b ((G.g n).o+j))=some v/\v.oneCell'=true/\RC w G h c v
 row:∀n gr m sz xs,h n=some (.row gr m sz xs)->tj B E w G gr m sz xs (G.g n)
 own:∀n,h n≠none->(G.g n).nl=false->¬G.Im (G.g n).b/\(B<=(G.g n).b\/E (G.g n).b)/\(G.g n).b<w.heap.size
 inj:∀n n',h n≠none->h n'≠none->n≠n'->(G.g n).nl=false->(G.g n').nl=false->(G.g n).b≠(G.g n').b
 fk:∀b,G.Im b->b<w.heap.size
 oH:∀b,G.Im b->B<=b\/E b\/E.a b
 e7:∀n n' gr m sz xs bf m' aK au,h n=some (.row gr m sz xs)->h n'=some (.row bf m' aK au)->m≠ .aE->m'≠ .aE->n≠n'->
  ∀b,aR b (G.g n).px->¬aR b (G.g n').px
 live:∀n gr sz xs,h n=some (.row gr .live sz xs)->∀b,aR b (G.g n).px->∀n',h n'≠none->(G.g n').nl=false->b≠(G.g n').b
 qh:∀(i:Nat) (pc:PC),tk[i]? =some pc->Sep pc/\∀b,aN b pc->G.Im b/\da w b/\(B<=b\/E b)
 uK:∀(i j:Nat) (pc cR:PC) (b:Nat),i≠j->tk[i]? =some pc->tk[j]? =some cR->aN b pc->¬aN b cR
 qi:∀(i:Nat) (pc:PC) (n:Nat) (gr:Bool) (m:Mode) (sz:Nat) (xs:List (List C)) (b:Nat),tk[i]? =some pc->h n=some (.row gr m sz xs)->m≠ .aE->aN b pc->¬aR b (G.g n).px
def Cz (w w':World) (b:Nat):Prop:=∀arr e,w.heap[b]? =some (.cells arr e (0,0))->∃Vc,w'.heap[b]? =some (.cells Vc e (0,0))/\Vc.size=arr.size
theorem Cz.refl (w:World) (b:Nat):Cz w w b:=fun arr _ h=>⟨arr,h,rfl⟩
theorem Cz.of_eq {w w':World} {b:Nat} (h:w'.heap[b]? =w.heap[b]?):Cz w w' b:=fun arr _ h1=>⟨arr,h.trans h1,rfl⟩
theorem Cz.trans {w w1 w2:World} {b:Nat} (h1:Cz w w1 b) (h2:Cz w1 w2 b):Cz w w2 b:=fun arr e h=>by
 obtain⟨a1,e1,s1⟩:=h1 arr e h
 obtain⟨a2,e2,s2⟩:=h2 a1 e e1
 exact⟨a2,e2,s2.trans s1⟩
theorem Cz.jT {w w':World} {b:Nat} (h:Cz w w' b) (hu:da w b):da w' b:=by
 obtain⟨arr,e,hu⟩:=hu
 obtain⟨a,e1,_⟩:=h arr e hu
 exact⟨a,e,e1⟩
structure Fr (B:Nat) (E:Ex) (w0 w:World):Prop where
 os:w.os=w0.os
 tape:w.tape=w0.tape
 output:w.output=w0.output
 size:B<=w.heap.size
 block:∀b,b<B->¬E b->w.heap[b]? =w0.heap[b]?
 jT:∀b,b<B->Cz w0 w b
def ace (p q:PB) (b:ar):Prop:=
 q.nl=p.nl/\q.b=p.b/\q.o=p.o/\q.cap=p.cap/\q.na=p.na/\
  ∀gr sz xs,b=.row gr .live sz xs->∀k j pc,At p.px k j pc->pc.fV=true->∃cR,At q.px k j cR/\cR.val=pc.val/\cR.fV=true
structure R (B:Nat) (E:Ex) (w0:World) (N:Nat) (σ:St) (a:Act) (w:World) (G:Gh):Prop where
 defers:a.defers=[]
 size:a.tmps.size=N
 env:∀s,RA w G σ.h (σ.env s) (a.tmps.getD s undef)
 ru:∀s n,(σ.env s).ref n->σ.used n=true
 hr:HR B E w G σ.h σ.used []
 fr:Fr B E w0 w
 pV:∀n p b,E.pV n=some p->σ.h n=some b->ace p (G.g n) b
 yO:∀n,aJ<=n->σ.used n=true
end Go.Am
