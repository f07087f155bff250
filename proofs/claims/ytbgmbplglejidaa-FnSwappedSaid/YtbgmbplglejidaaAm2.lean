/- Am2: the abstract machine's values, its named blocks, and how they stand for a world. No condition. -/
import Derived.Test.YtbgmbplglejidaaAm1
set_option linter.unusedVariables false
namespace Go.Am
inductive aj where
 |c (x:C)
 |nil (sz:Nat)
 |ptr (n k sz off:Nat)
 |cH (xs:List C) (off:Nat)
 |sl (n sz lo len:Nat)
 |bE (n k aE off sz len:Nat)
 |c7 (n k aE off sz i:Nat)
 |fn (f:FuncId) (cF:List aj)
 |bq
instance:Inhabited aj:=⟨.bq⟩
inductive Mode where
 |live|ae|aG
 deriving DecidableEq
inductive ar where
 |box (cs:List aj)
 |row (gr:Bool) (m:Mode) (sz:Nat) (xs:List (List C))
inductive ak where
 |one (c:aj)
 |agg (cs:List aj)
 |br (xs:List (Bool×List aj))
instance:Inhabited ak:=⟨.one .bq⟩
structure St where
 env:Nat->ak
 h:Nat->Option ar
 used:Nat->Bool
def aA {α:Type} (f:Nat->α) (k:Nat) (v:α):Nat->α:=fun n=>match Nat.beq n k with
 |true=>v
 |false=>f n
theorem jr {α:Type} (f:Nat->α) (k:Nat) (v:α) (n:Nat):aA f k v n=if n=k then v else f n:=by
 unfold aA
 split
 ·rename_i e;rw[if_pos (Nat.eq_of_beq_eq_true e)]
 ·rename_i e;rw[if_neg (fun h=>by rw[h,Nat.beq_refl] at e;cases e)]
theorem bN {α:Type} (f:Nat->α) (k:Nat) (v:α):aA f k v k=v:=by simp[jr]
theorem cE {α:Type} (f:Nat->α) (k n:Nat) (v:α) (h:n≠k):aA f k v n=f n:=by simp[jr,h]
def aj.iY:aj->Nat->Prop
 |.ptr n _ _ _,m=>m=n
 |.sl n _ _ _,m=>m=n
 |.bE n _ _ _ _ _,m=>m=n
 |.c7 n _ _ _ _ _,m=>m=n
 |_,_=>False
def aj.ref:aj->Nat->Prop
 |.fn _ cF,m=>∃x∈cF,x.iY m
 |x,m=>x.iY m
def ak.ref:ak->Nat->Prop
 |.one c,m=>c.ref m
 |.agg cs,m=>∃c∈cs,c.ref m
 |.br xs,m=>∃x∈xs,∃c∈x.2,c.ref m
structure PB where
 nl:Bool
 b:Nat
 o:Nat
 cap:Nat
 px:List (List PC)
 na:Option Addr
instance:Inhabited PB:=⟨⟨false,0,0,0,[],none⟩⟩
def aK:Nat:=1000000
structure Ex where
 e:Nat->Prop
 rm:Nat->Option PB
 lt:∀n p,rm n=some p->aK<=n
 a:Nat->Prop
instance:CoeFun Ex (fun _=>Nat->Prop):=⟨Ex.e⟩
def Ex.no:Ex:=⟨fun _=>False,fun _=>none,fun _ _ h=>(by cases h),fun _=>True⟩
structure Gh where
 Im:Nat->Prop
 g:Nat->PB
def PC.gW:PC->Bool
 |.list ..=>true
 |_=>false
def jO (p:PB) (sz lo len:Nat) (v:Value):Prop:=
 (p.nl=true/\v=.slice p.na 0 p.cap/\lo=0/\len=0)\/
 (p.nl=false/\∃a,v=.slice a len (p.cap - lo)/\lo+len<=p.cap/\((lo<p.cap\/lo=0)->a=some (ad p.b (p.o+lo*sz))))
def jM (w:World) (G:Gh) (h:Nat->Option ar):aj->Value->Prop
 |.c x,v=>∃pc:PC,pc.er=x/\pc.val=v/\Good w pc/\∀b,aX b pc->G.Im b
 |.nil _,v=>v=.slice none 0 0
 |.ptr n k sz off,v=>h n≠none->(G.g n).nl=false/\v=.pointer (some (ad (G.g n).b ((G.g n).o+k*sz+off)))
 |.cH xs off,v=>∃(b o:Nat) (pe:List PC),v=.pointer (some (ad b (o+off)))/\pe.map PC.er=xs/\G.Im b/\
  ∀j c,pe[j]? =some c->w.cell? (ad b (o+j))=some c.val/\Good w c/\∀b',aX b' c->G.Im b'
 |.sl n sz lo len,v=>h n≠none->jO (G.g n) sz lo len v
 |.bE n k aE off sz len,v=>∀gr xs,h n=some (.row gr .live aE xs)->∃pc,At (G.g n).px k off pc/\pc.val=v/\pc.gW=true
 |.c7 n k aE off sz i,v=>∀gr xs,h n=some (.row gr .live aE xs)->∃(pc:PC) (b o len cap:Nat),At (G.g n).px k off pc/\pc.val=.slice (some (ad b o)) len cap/\pc.gW=true/\v=.pointer (some (ad b (o+i*sz)))
 |.fn _ _,_=>False
 |.bq,_=>True
def RC (w:World) (G:Gh) (h:Nat->Option ar):aj->Value->Prop
 |.fn f cF,v=>∃vs:List Value,v=.func (.func f) #[] vs.toArray/\vs.length=cF.length/\∀(j:Nat) (c:aj) (u:Value),cF[j]? =some c->vs[j]? =some u->u.oneCell'=true/\jM w G h c u
 |c,v=>jM w G h c v
def aj.lO:aj->Bool
 |.fn _ _=>true
 |_=>false
theorem yq (w:World) (G:Gh) (h:Nat->Option ar) (c:aj) (v:Value) (hc:c.lO=false):RC w G h c v=jM w G h c v:=by
 cases c<;>first|rfl|(simp[aj.lO] at hc)
theorem aj.acV (c:aj) (m:Nat) (hc:c.lO=false):c.ref m=c.iY m:=by
 cases c<;>first|rfl|(simp[aj.lO] at hc)
def cZ (w:World) (G:Gh) (h:Nat->Option ar) (cs:List aj) (vs:List Value):Prop:=
 vs.length=cs.length/\∀(j:Nat) (c:aj) (u:Value),cs[j]? =some c->vs[j]? =some u->u.oneCell'=true/\RC w G h c u
def RV (w:World) (G:Gh) (h:Nat->Option ar) (ag:Bool) (cs:List aj) (v:Value):Prop:=
 if ag then∃vs:List Value,v=.agg vs.toArray/\cZ w G h cs vs else cZ w G h cs [v]
def RA (w:World) (G:Gh) (h:Nat->Option ar):ak->Value->Prop
 |.one c,v=>c=.bq\/RV w G h false [c] v
 |.agg cs,v=>RV w G h true cs v
 |.br xs,v=>∃vs:List Value,v=.tuple vs.toArray/\vs.length=xs.length/\∀(j:Nat) (x:Bool×List aj) (u:Value),xs[j]? =some x->vs[j]? =some u->RV w G h x.1 x.2 u
structure bf (w:World) (G:Gh) (h:Nat->Option ar) (used:Nat->Prop) (w':World) (G':Gh) (h':Nat->Option ar):Prop where
 im:∀b,G.Im b->G'.Im b
 cell:∀b,G.Im b->∀o,w'.cell? (ad b o)=w.cell? (ad b o)
 name:∀n,used n->h' n≠none->h n≠none/\(G'.g n).nl=(G.g n).nl/\(G'.g n).b=(G.g n).b/\(G'.g n).o=(G.g n).o/\(G'.g n).cap=(G.g n).cap/\(G'.g n).na=(G.g n).na
 live:∀n gr sz xs,used n->h' n=some (.row gr .live sz xs)->(∃yX lB,h n=some (.row yX .live sz lB))/\
  ∀k j pc,At (G.g n).px k j pc->pc.gW=true->∃dq,At (G'.g n).px k j dq/\dq.val=pc.val/\dq.gW=true
section
variable {w w':World} {G G':Gh} {h h':Nat->Option ar} {used:Nat->Prop}
theorem jM.ft (K:bf w G h used w' G' h') {c:aj} {v:Value} (hr:∀m,c.iY m->used m) (hc:jM w G h c v):jM w' G' h' c v:=by
 cases c with
 |c x=>
  obtain⟨pc,h1,h2,h3,h4⟩:=hc
  exact⟨pc,h1,h2,h3.congr fun b hb o=>K.cell b (h4 b hb) o,fun b hb=>K.im b (h4 b hb)⟩
 |nil sz=>exact hc
 |ptr n k sz off=>
  intro hn
  obtain⟨h0,e1,e2,e3,e4,e5⟩:=K.name n (hr n rfl) hn
  rw[e1,e2,e3]
  exact hc h0
 |cH xs off=>
  obtain⟨b,o,pe,h1,h2,h3,h4⟩:=hc
  refine⟨b,o,pe,h1,h2,K.im b h3,fun j c hj=>?_⟩
  obtain⟨a1,a2,a3⟩:=h4 j c hj
  exact⟨(K.cell b h3 _).trans a1,a2.congr fun b' be o'=>K.cell b' (a3 b' be) o',fun b' be=>K.im b' (a3 b' be)⟩
 |sl n sz lo len=>
  intro hn
  obtain⟨h0,e1,e2,e3,e4,e5⟩:=K.name n (hr n rfl) hn
  have:=hc h0
  unfold jO at*
  rw[e1,e2,e3,e4,e5]
  exact this
 |bE n k aE off sz len=>
  intro gr xs hn
  obtain⟨⟨yX,lB,h0⟩,hl⟩:=K.live n gr aE xs (hr n rfl) hn
  obtain⟨pc,p1,p2,p3⟩:=hc yX lB h0
  obtain⟨dq,q1,q2,q3⟩:=hl k off pc p1 p3
  exact⟨dq,q1,q2.trans p2,q3⟩
 |c7 n k aE off sz i=>
  intro gr xs hn
  obtain⟨⟨yX,lB,h0⟩,hl⟩:=K.live n gr aE xs (hr n rfl) hn
  obtain⟨pc,b,o,len,cap,p1,p2,p3,p4⟩:=hc yX lB h0
  obtain⟨dq,q1,q2,q3⟩:=hl k off pc p1 p3
  exact⟨dq,b,o,len,cap,q1,q2.trans p2,q3,p4⟩
 |fn f cF=>exact hc
 |bq=>trivial
theorem RC.ft (K:bf w G h used w' G' h') {c:aj} {v:Value} (hr:∀m,c.ref m->used m) (hc:RC w G h c v):RC w' G' h' c v:=by
 by_cases hf:c.lO=false
 ·rw[yq _ _ _ _ _ hf] at*
  exact hc.ft K fun m hm=>hr m (by rw[aj.acV c m hf];exact hm)
 ·cases c<;>first|(simp[aj.lO] at hf;done)|skip
  obtain⟨vs,h1,h2,h3⟩:=hc
  exact⟨vs,h1,h2,fun j c u hj hu=>⟨(h3 j c u hj hu).1,(h3 j c u hj hu).2.ft K fun m hm=>hr m ⟨c,List.mem_of_getElem? hj,hm⟩⟩⟩
theorem cZ.ft (K:bf w G h used w' G' h') {cs:List aj} {vs:List Value} (hr:∀c∈cs,∀m,c.ref m->used m) (hc:cZ w G h cs vs):cZ w' G' h' cs vs:=
 ⟨hc.1,fun j c u hj hu=>⟨(hc.2 j c u hj hu).1,(hc.2 j c u hj hu).2.ft K (hr c (List.mem_of_getElem? hj))⟩⟩
theorem RV.ft (K:bf w G h used w' G' h') {ag:Bool} {cs:List aj} {v:Value} (hr:∀c∈cs,∀m,c.ref m->used m) (hc:RV w G h ag cs v):RV w' G' h' ag cs v:=by
 unfold RV at*
 split
 ·rename_i h1
  simp only[h1,if_true] at hc
  obtain⟨vs,e,hv⟩:=hc
  exact⟨vs,e,hv.ft K hr⟩
 ·rename_i h1
  simp only[h1] at hc
  exact cZ.ft K hr hc
theorem RA.ft (K:bf w G h used w' G' h') {x:ak} {v:Value} (hr:∀m,x.ref m->used m) (hc:RA w G h x v):RA w' G' h' x v:=by
 cases x with
 |one c=>exact hc.imp id fun hv=>hv.ft K fun c' cA m hm=>hr m (by simp at cA;subst cA;exact hm)
 |agg cs=>exact RV.ft K (fun c' cA m hm=>hr m ⟨c',cA,hm⟩) hc
 |br xs=>
  obtain⟨vs,e,hl,hv⟩:=hc
  exact⟨vs,e,hl,fun j x u hj hu=>(hv j x u hj hu).ft K fun c' cA m hm=>hr m ⟨x,List.mem_of_getElem? hj,c',cA,hm⟩⟩
end
def HD (w:World) (p:PB) (sz:Nat):Prop:=p.cap<=maxLen/\∃cur e,w.heap[p.b]? =some (.cells cur e (0,0))/\cur.size=p.o+p.cap*sz
def D5 (B:Nat) (E:Ex) (w:World) (G:Gh) (px:List (List PC)):Mode->Prop
 |.aG=>∀b,aZ b px->G.Im b
 |.ae=>(∀b,aZ b px->G.Im b/\dK w b/\(B<=b\/E b))/\iI px
 |.live=>(∀b,aZ b px->¬G.Im b/\dK w b/\(B<=b\/E b))/\iI px
structure uv (B:Nat) (E:Ex) (w:World) (G:Gh) (gr:Bool) (m:Mode) (sz:Nat) (xs:List (List C)) (p:PB):Prop where
 pos:0<sz
 er:xs=p.px.map (fun e=>e.map PC.er)
 nl:p.nl=true->p.px=[]/\(gr=true->p.cap=0)
 dW:p.nl=false->dK w p.b/\pB w p.b p.o sz p.px/\p.px.length<=p.cap
 room:p.nl=false->gr=true->HD w p sz
 mode:D5 B E w G p.px m
structure HR (B:Nat) (E:Ex) (w:World) (G:Gh) (h:Nat->Option ar) (used:Nat->Bool) (tk:List PC):Prop where
 jc:∀n,h n≠none->used n=true
 g8:∀m cs c n,h m=some (.box cs)->c∈cs->c.ref n->used n=true
 box:∀n cs,h n=some (.box cs)->(G.g n).nl=false/\dK w (G.g n).b/\
  ∀(j:Nat) (c:aj),cs[j]? =some c->∃v,w.cell? (ad (G.g n).b ((G.g n).o+j))=some v/\v.oneCell'=true/\RC w G h c v
 row:∀n gr m sz xs,h n=some (.row gr m sz xs)->uv B E w G gr m sz xs (G.g n)
 own:∀n,h n≠none->(G.g n).nl=false->¬G.Im (G.g n).b/\(B<=(G.g n).b\/E (G.g n).b)/\(G.g n).b<w.heap.size
 inj:∀n n',h n≠none->h n'≠none->n≠n'->(G.g n).nl=false->(G.g n').nl=false->(G.g n).b≠(G.g n').b
 gi:∀b,G.Im b->b<w.heap.size
 pZ:∀b,G.Im b->B<=b\/E b\/E.a b
 fV:∀n n' gr m sz xs bo m' aJ au,h n=some (.row gr m sz xs)->h n'=some (.row bo m' aJ au)->m≠ .aG->m'≠ .aG->n≠n'->
  ∀b,aZ b (G.g n).px->¬aZ b (G.g n').px
 live:∀n gr sz xs,h n=some (.row gr .live sz xs)->∀b,aZ b (G.g n).px->∀n',h n'≠none->(G.g n').nl=false->b≠(G.g n').b
 rF:∀(i:Nat) (pc:PC),tk[i]? =some pc->Sep pc/\∀b,aX b pc->G.Im b/\dK w b/\(B<=b\/E b)
 vP:∀(i j:Nat) (pc dq:PC) (b:Nat),i≠j->tk[i]? =some pc->tk[j]? =some dq->aX b pc->¬aX b dq
 rG:∀(i:Nat) (pc:PC) (n:Nat) (gr:Bool) (m:Mode) (sz:Nat) (xs:List (List C)) (b:Nat),tk[i]? =some pc->h n=some (.row gr m sz xs)->m≠ .aG->aX b pc->¬aZ b (G.g n).px
def Cz (w w':World) (b:Nat):Prop:=∀arr e,w.heap[b]? =some (.cells arr e (0,0))->∃X7,w'.heap[b]? =some (.cells X7 e (0,0))/\X7.size=arr.size
theorem Cz.refl (w:World) (b:Nat):Cz w w b:=fun arr _ h=>⟨arr,h,rfl⟩
theorem Cz.of_eq {w w':World} {b:Nat} (h:w'.heap[b]? =w.heap[b]?):Cz w w' b:=fun arr _ h1=>⟨arr,h.trans h1,rfl⟩
theorem Cz.trans {w w1 w2:World} {b:Nat} (h1:Cz w w1 b) (h2:Cz w1 w2 b):Cz w w2 b:=fun arr e h=>by
 obtain⟨a1,e1,s1⟩:=h1 arr e h
 obtain⟨a2,e2,s2⟩:=h2 a1 e e1
 exact⟨a2,e2,s2.trans s1⟩
theorem Cz.jq {w w':World} {b:Nat} (h:Cz w w' b) (hu:dK w b):dK w' b:=by
 obtain⟨arr,e,hu⟩:=hu
 obtain⟨a,e1,_⟩:=h arr e hu
 exact⟨a,e,e1⟩
structure Fr (B:Nat) (E:Ex) (w0 w:World):Prop where
 os:w.os=w0.os
 tape:w.tape=w0.tape
 output:w.output=w0.output
 size:B<=w.heap.size
 block:∀b,b<B->¬E b->w.heap[b]? =w0.heap[b]?
 jq:∀b,b<B->Cz w0 w b
def ae8 (p q:PB) (b:ar):Prop:=
 q.nl=p.nl/\q.b=p.b/\q.o=p.o/\q.cap=p.cap/\q.na=p.na/\
  ∀gr sz xs,b=.row gr .live sz xs->∀k j pc,At p.px k j pc->pc.gW=true->∃dq,At q.px k j dq/\dq.val=pc.val/\dq.gW=true
structure R (B:Nat) (E:Ex) (w0:World) (N:Nat) (σ:St) (a:Act) (w:World) (G:Gh):Prop where
 defers:a.defers=[]
 size:a.tmps.size=N
 env:∀s,RA w G σ.h (σ.env s) (a.tmps.getD s undef)
 sP:∀s n,(σ.env s).ref n->σ.used n=true
 hr:HR B E w G σ.h σ.used []
 fr:Fr B E w0 w
 rm:∀n p b,E.rm n=some p->σ.h n=some b->ae8 p (G.g n) b
 Ac:∀n,aK<=n->σ.used n=true
end Go.Am
