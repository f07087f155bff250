/- Am2: the abstract machine's values, its named blocks, and how they stand for a world. No condition. -/
import Derived.Test.YtbgmbplglejidaaAm1
set_option linter.unusedVariables false
namespace Go.Am
inductive ah where
 |c (x:C)
 |nil (sz:Nat)
 |ptr (n k sz off:Nat)
 |cB (xs:List C) (off:Nat)
 |sl (n sz lo len:Nat)
 |bx (n k aA off sz len:Nat)
 |cV (n k aA off sz i:Nat)
 |fn (f:FuncId) (cA:List ah)
 |bn
instance:Inhabited ah:=⟨.bn⟩
inductive Mode where
 |live|ab|aF
 deriving DecidableEq
inductive ao where
 |box (cs:List ah)
 |row (gr:Bool) (m:Mode) (sz:Nat) (xs:List (List C))
inductive aj where
 |one (c:ah)
 |agg (cs:List ah)
 |bq (xs:List (Bool×List ah))
instance:Inhabited aj:=⟨.one .bn⟩
structure St where
 env:Nat->aj
 h:Nat->Option ao
 used:Nat->Bool
def av {α:Type} (f:Nat->α) (k:Nat) (v:α):Nat->α:=fun n=>match Nat.beq n k with
 |true=>v
 |false=>f n
theorem iY {α:Type} (f:Nat->α) (k:Nat) (v:α) (n:Nat):av f k v n=if n=k then v else f n:=by
 unfold av
 split
 ·rename_i e;rw[if_pos (Nat.eq_of_beq_eq_true e)]
 ·rename_i e;rw[if_neg (fun h=>by rw[h,Nat.beq_refl] at e;cases e)]
theorem bG {α:Type} (f:Nat->α) (k:Nat) (v:α):av f k v k=v:=by simp[iY]
theorem cz {α:Type} (f:Nat->α) (k n:Nat) (v:α) (h:n≠k):av f k v n=f n:=by simp[iY,h]
def ah.iH:ah->Nat->Prop
 |.ptr n _ _ _,m=>m=n
 |.sl n _ _ _,m=>m=n
 |.bx n _ _ _ _ _,m=>m=n
 |.cV n _ _ _ _ _,m=>m=n
 |_,_=>False
def ah.ref:ah->Nat->Prop
 |.fn _ cA,m=>∃x∈cA,x.iH m
 |x,m=>x.iH m
def aj.ref:aj->Nat->Prop
 |.one c,m=>c.ref m
 |.agg cs,m=>∃c∈cs,c.ref m
 |.bq xs,m=>∃x∈xs,∃c∈x.2,c.ref m
structure PB where
 nl:Bool
 b:Nat
 o:Nat
 cap:Nat
 px:List (List PC)
 na:Option Addr
instance:Inhabited PB:=⟨⟨false,0,0,0,[],none⟩⟩
def aK:Nat:=1000000
structure Ex where
 e:Nat->Prop
 re:Nat->Option PB
 lt:∀n p,re n=some p->aK<=n
 a:Nat->Prop
instance:CoeFun Ex (fun _=>Nat->Prop):=⟨Ex.e⟩
def Ex.no:Ex:=⟨fun _=>False,fun _=>none,fun _ _ h=>(by cases h),fun _=>True⟩
structure Gh where
 Im:Nat->Prop
 g:Nat->PB
def PC.gL:PC->Bool
 |.list ..=>true
 |_=>false
def jA (p:PB) (sz lo len:Nat) (v:Value):Prop:=
 (p.nl=true/\v=.slice p.na 0 p.cap/\lo=0/\len=0)\/
 (p.nl=false/\∃a,v=.slice a len (p.cap - lo)/\lo+len<=p.cap/\((lo<p.cap\/lo=0)->a=some (ad p.b (p.o+lo*sz))))
def jw (w:World) (G:Gh) (h:Nat->Option ao):ah->Value->Prop
 |.c x,v=>∃pc:PC,pc.er=x/\pc.val=v/\Good w pc/\∀b,aT b pc->G.Im b
 |.nil _,v=>v=.slice none 0 0
 |.ptr n k sz off,v=>h n≠none->(G.g n).nl=false/\v=.pointer (some (ad (G.g n).b ((G.g n).o+k*sz+off)))
 |.cB xs off,v=>∃(b o:Nat) (pe:List PC),v=.pointer (some (ad b (o+off)))/\pe.map PC.er=xs/\G.Im b/\
  ∀j c,pe[j]? =some c->w.cell? (ad b (o+j))=some c.val/\Good w c/\∀b',aT b' c->G.Im b'
 |.sl n sz lo len,v=>h n≠none->jA (G.g n) sz lo len v
 |.bx n k aA off sz len,v=>∀gr xs,h n=some (.row gr .live aA xs)->∃pc,At (G.g n).px k off pc/\pc.val=v/\pc.gL=true
 |.cV n k aA off sz i,v=>∀gr xs,h n=some (.row gr .live aA xs)->∃(pc:PC) (b o len cap:Nat),At (G.g n).px k off pc/\pc.val=.slice (some (ad b o)) len cap/\pc.gL=true/\v=.pointer (some (ad b (o+i*sz)))
 |.fn _ _,_=>False
 |.bn,_=>True
def RC (w:World) (G:Gh) (h:Nat->Option ao):ah->Value->Prop
 |.fn f cA,v=>∃vs:List Value,v=.func (.func f) #[] vs.toArray/\vs.length=cA.length/\∀(j:Nat) (c:ah) (u:Value),cA[j]? =some c->vs[j]? =some u->u.oneCell'=true/\jw w G h c u
 |c,v=>jw w G h c v
def ah.lv:ah->Bool
 |.fn _ _=>true
 |_=>false
theorem xR (w:World) (G:Gh) (h:Nat->Option ao) (c:ah) (v:Value) (hc:c.lv=false):RC w G h c v=jw w G h c v:=by
 cases c<;>first|rfl|(simp[ah.lv] at hc)
theorem ah.ab3 (c:ah) (m:Nat) (hc:c.lv=false):c.ref m=c.iH m:=by
 cases c<;>first|rfl|(simp[ah.lv] at hc)
def cT (w:World) (G:Gh) (h:Nat->Option ao) (cs:List ah) (vs:List Value):Prop:=
 vs.length=cs.length/\∀(j:Nat) (c:ah) (u:Value),cs[j]? =some c->vs[j]? =some u->u.oneCell'=true/\RC w G h c u
def RV (w:World) (G:Gh) (h:Nat->Option ao) (ag:Bool) (cs:List ah) (v:Value):Prop:=
 if ag then∃vs:List Value,v=.agg vs.toArray/\cT w G h cs vs else cT w G h cs [v]
def RA (w:World) (G:Gh) (h:Nat->Option ao):aj->Value->Prop
 |.one c,v=>c=.bn\/RV w G h false [c] v
 |.agg cs,v=>RV w G h true cs v
 |.bq xs,v=>∃vs:List Value,v=.tuple vs.toArray/\vs.length=xs.length/\∀(j:Nat) (x:Bool×List ah) (u:Value),xs[j]? =some x->vs[j]? =some u->RV w G h x.1 x.2 u
structure bf (w:World) (G:Gh) (h:Nat->Option ao) (used:Nat->Prop) (w':World) (G':Gh) (h':Nat->Option ao):Prop where
 im:∀b,G.Im b->G'.Im b
 cell:∀b,G.Im b->∀o,w'.cell? (ad b o)=w.cell? (ad b o)
 name:∀n,used n->h' n≠none->h n≠none/\(G'.g n).nl=(G.g n).nl/\(G'.g n).b=(G.g n).b/\(G'.g n).o=(G.g n).o/\(G'.g n).cap=(G.g n).cap/\(G'.g n).na=(G.g n).na
 live:∀n gr sz xs,used n->h' n=some (.row gr .live sz xs)->(∃yr kR,h n=some (.row yr .live sz kR))/\
  ∀k j pc,At (G.g n).px k j pc->pc.gL=true->∃dn,At (G'.g n).px k j dn/\dn.val=pc.val/\dn.gL=true
section
variable {w w':World} {G G':Gh} {h h':Nat->Option ao} {used:Nat->Prop}
theorem jw.ff (K:bf w G h used w' G' h') {c:ah} {v:Value} (hr:∀m,c.iH m->used m) (hc:jw w G h c v):jw w' G' h' c v:=by
 cases c with
 |c x=>
  obtain⟨pc,h1,h2,h3,h4⟩:=hc
  exact⟨pc,h1,h2,h3.congr fun b hb o=>K.cell b (h4 b hb) o,fun b hb=>K.im b (h4 b hb)⟩
 |nil sz=>exact hc
 |ptr n k sz off=>
  intro hn
  obtain⟨h0,e1,e2,e3,e4,e5⟩:=K.name n (hr n rfl) hn
  rw[e1,e2,e3]
  exact hc h0
 |cB xs off=>
  obtain⟨b,o,pe,h1,h2,h3,h4⟩:=hc
  refine⟨b,o,pe,h1,h2,K.im b h3,fun j c hj=>?_⟩
  obtain⟨a1,a2,a3⟩:=h4 j c hj
  exact⟨(K.cell b h3 _).trans a1,a2.congr fun b' aY o'=>K.cell b' (a3 b' aY) o',fun b' aY=>K.im b' (a3 b' aY)⟩
 |sl n sz lo len=>
  intro hn
  obtain⟨h0,e1,e2,e3,e4,e5⟩:=K.name n (hr n rfl) hn
  have:=hc h0
  unfold jA at*
  rw[e1,e2,e3,e4,e5]
  exact this
 |bx n k aA off sz len=>
  intro gr xs hn
  obtain⟨⟨yr,kR,h0⟩,hl⟩:=K.live n gr aA xs (hr n rfl) hn
  obtain⟨pc,p1,p2,p3⟩:=hc yr kR h0
  obtain⟨dn,q1,q2,q3⟩:=hl k off pc p1 p3
  exact⟨dn,q1,q2.trans p2,q3⟩
 |cV n k aA off sz i=>
  intro gr xs hn
  obtain⟨⟨yr,kR,h0⟩,hl⟩:=K.live n gr aA xs (hr n rfl) hn
  obtain⟨pc,b,o,len,cap,p1,p2,p3,p4⟩:=hc yr kR h0
  obtain⟨dn,q1,q2,q3⟩:=hl k off pc p1 p3
  exact⟨dn,b,o,len,cap,q1,q2.trans p2,q3,p4⟩
 |fn f cA=>exact hc
 |bn=>trivial
theorem RC.ff (K:bf w G h used w' G' h') {c:ah} {v:Value} (hr:∀m,c.ref m->used m) (hc:RC w G h c v):RC w' G' h' c v:=by
 by_cases hf:c.lv=false
 ·rw[xR _ _ _ _ _ hf] at*
  exact hc.ff K fun m hm=>hr m (by rw[ah.ab3 c m hf];exact hm)
 ·cases c<;>first|(simp[ah.lv] at hf;done)|skip
  obtain⟨vs,h1,h2,h3⟩:=hc
  exact⟨vs,h1,h2,fun j c u hj hu=>⟨(h3 j c u hj hu).1,(h3 j c u hj hu).2.ff K fun m hm=>hr m ⟨c,List.mem_of_getElem? hj,hm⟩⟩⟩
theorem cT.ff (K:bf w G h used w' G' h') {cs:List ah} {vs:List Value} (hr:∀c∈cs,∀m,c.ref m->used m) (hc:cT w G h cs vs):cT w' G' h' cs vs:=
 ⟨hc.1,fun j c u hj hu=>⟨(hc.2 j c u hj hu).1,(hc.2 j c u hj hu).2.ff K (hr c (List.mem_of_getElem? hj))⟩⟩
theorem RV.ff (K:bf w G h used w' G' h') {ag:Bool} {cs:List ah} {v:Value} (hr:∀c∈cs,∀m,c.ref m->used m) (hc:RV w G h ag cs v):RV w' G' h' ag cs v:=by
 unfold RV at*
 split
 ·rename_i h1
  simp only[h1,if_true] at hc
  obtain⟨vs,e,hv⟩:=hc
  exact⟨vs,e,hv.ff K hr⟩
 ·rename_i h1
  simp only[h1] at hc
  exact cT.ff K hr hc
theorem RA.ff (K:bf w G h used w' G' h') {x:aj} {v:Value} (hr:∀m,x.ref m->used m) (hc:RA w G h x v):RA w' G' h' x v:=by
 cases x with
 |one c=>exact hc.imp id fun hv=>hv.ff K fun c' cC m hm=>hr m (by simp at cC;subst cC;exact hm)
 |agg cs=>exact RV.ff K (fun c' cC m hm=>hr m ⟨c',cC,hm⟩) hc
 |bq xs=>
  obtain⟨vs,e,hl,hv⟩:=hc
  exact⟨vs,e,hl,fun j x u hj hu=>(hv j x u hj hu).ff K fun c' cC m hm=>hr m ⟨x,List.mem_of_getElem? hj,c',cC,hm⟩⟩
end
def GV (w:World) (p:PB) (sz:Nat):Prop:=p.cap<=maxLen/\∃cur e,w.heap[p.b]? =some (.cells cur e (0,0))/\cur.size=p.o+p.cap*sz
def Dg (B:Nat) (E:Ex) (w:World) (G:Gh) (px:List (List PC)):Mode->Prop
 |.aF=>∀b,aX b px->G.Im b
 |.ab=>(∀b,aX b px->G.Im b/\dH w b/\(B<=b\/E b))/\iy px
 |.live=>(∀b,aX b px->¬G.Im b/\dH w b/\(B<=b\/E b))/\iy px
structure tU (B:Nat) (E:Ex) (w:World) (G:Gh) (gr:Bool) (m:Mode) (sz:Nat) (xs:List (List C)) (p:PB):Prop where
 pos:0<sz
 er:xs=p.px.map (fun e=>e.map PC.er)
 nl:p.nl=true->p.px=[]/\(gr=true->p.cap=0)
 dV:p.nl=false->dH w p.b/\pg w p.b p.o sz p.px/\p.px.length<=p.cap
 room:p.nl=false->gr=true->GV w p sz
 mode:Dg B E w G p.px m
structure HR (B:Nat) (E:Ex) (w:World) (G:Gh) (h:Nat->Option ao) (used:Nat->Bool) (tk:List PC):Prop where
 iK:∀n,h n≠none->used n=true
 gV:∀m cs c n,h m=some (.box cs)->c∈cs->c.ref n->used n=true
 box:∀n cs,h n=some (.box cs)->(G.g n).nl=false/\dH w (G.g n).b/\
  ∀(j:Nat) (c:ah),cs[j]? =some c->∃v,w.cell? (ad (G.g n).b ((G.g n).o+j))=some v/\v.oneCell'=true/\RC w G h c v
 row:∀n gr m sz xs,h n=some (.row gr m sz xs)->tU B E w G gr m sz xs (G.g n)
 own:∀n,h n≠none->(G.g n).nl=false->¬G.Im (G.g n).b/\(B<=(G.g n).b\/E (G.g n).b)/\(G.g n).b<w.heap.size
 inj:∀n n',h n≠none->h n'≠none->n≠n'->(G.g n).nl=false->(G.g n').nl=false->(G.g n).b≠(G.g n').b
 fW:∀b,G.Im b->b<w.heap.size
 pP:∀b,G.Im b->B<=b\/E b\/E.a b
 fI:∀n n' gr m sz xs bm m' aJ aq,h n=some (.row gr m sz xs)->h n'=some (.row bm m' aJ aq)->m≠ .aF->m'≠ .aF->n≠n'->
  ∀b,aX b (G.g n).px->¬aX b (G.g n').px
 live:∀n gr sz xs,h n=some (.row gr .live sz xs)->∀b,aX b (G.g n).px->∀n',h n'≠none->(G.g n').nl=false->b≠(G.g n').b
 rC:∀(i:Nat) (pc:PC),tk[i]? =some pc->Sep pc/\∀b,aT b pc->G.Im b/\dH w b/\(B<=b\/E b)
 vr:∀(i j:Nat) (pc dn:PC) (b:Nat),i≠j->tk[i]? =some pc->tk[j]? =some dn->aT b pc->¬aT b dn
 rD:∀(i:Nat) (pc:PC) (n:Nat) (gr:Bool) (m:Mode) (sz:Nat) (xs:List (List C)) (b:Nat),tk[i]? =some pc->h n=some (.row gr m sz xs)->m≠ .aF->aT b pc->¬aX b (G.g n).px
def Cz (w w':World) (b:Nat):Prop:=∀arr e,w.heap[b]? =some (.cells arr e (0,0))->∃WU,w'.heap[b]? =some (.cells WU e (0,0))/\WU.size=arr.size
theorem Cz.refl (w:World) (b:Nat):Cz w w b:=fun arr _ h=>⟨arr,h,rfl⟩
theorem Cz.of_eq {w w':World} {b:Nat} (h:w'.heap[b]? =w.heap[b]?):Cz w w' b:=fun arr _ h1=>⟨arr,h.trans h1,rfl⟩
theorem Cz.trans {w w1 w2:World} {b:Nat} (h1:Cz w w1 b) (h2:Cz w1 w2 b):Cz w w2 b:=fun arr e h=>by
 obtain⟨a1,e1,s1⟩:=h1 arr e h
 obtain⟨a2,e2,s2⟩:=h2 a1 e e1
 exact⟨a2,e2,s2.trans s1⟩
theorem Cz.iu {w w':World} {b:Nat} (h:Cz w w' b) (hu:dH w b):dH w' b:=by
 obtain⟨arr,e,hu⟩:=hu
 obtain⟨a,e1,_⟩:=h arr e hu
 exact⟨a,e,e1⟩
structure Fr (B:Nat) (E:Ex) (w0 w:World):Prop where
 os:w.os=w0.os
 tape:w.tape=w0.tape
 output:w.output=w0.output
 size:B<=w.heap.size
 block:∀b,b<B->¬E b->w.heap[b]? =w0.heap[b]?
 iu:∀b,b<B->Cz w0 w b
def aec (p q:PB) (b:ao):Prop:=
 q.nl=p.nl/\q.b=p.b/\q.o=p.o/\q.cap=p.cap/\q.na=p.na/\
  ∀gr sz xs,b=.row gr .live sz xs->∀k j pc,At p.px k j pc->pc.gL=true->∃dn,At q.px k j dn/\dn.val=pc.val/\dn.gL=true
structure R (B:Nat) (E:Ex) (w0:World) (N:Nat) (σ:St) (a:Act) (w:World) (G:Gh):Prop where
 defers:a.defers=[]
 size:a.tmps.size=N
 env:∀s,RA w G σ.h (σ.env s) (a.tmps.getD s undef)
 sI:∀s n,(σ.env s).ref n->σ.used n=true
 hr:HR B E w G σ.h σ.used []
 fr:Fr B E w0 w
 re:∀n p b,E.re n=some p->σ.h n=some b->aec p (G.g n) b
 zw:∀n,aK<=n->σ.used n=true
end Go.Am
