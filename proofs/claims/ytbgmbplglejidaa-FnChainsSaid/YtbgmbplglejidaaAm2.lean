/- Am2: the abstract machine's values, its named blocks, and how they stand for a world. No condition. -/
import Derived.Test.YtbgmbplglejidaaAm1
set_option linter.unusedVariables false
namespace Go.Am
inductive ah where
 |c (x:C)
 |nil (sz:Nat)
 |ptr (n k sz off:Nat)
 |cu (xs:List C) (off:Nat)
 |sl (n sz lo len:Nat)
 |bz (n k az off sz len:Nat)
 |cQ (n k az off sz i:Nat)
 |fn (f:FuncId) (cr:List ah)
 |bm
instance:Inhabited ah:=⟨.bm⟩
inductive Mode where
 |live|ae|aD
 deriving DecidableEq
inductive ao where
 |box (cs:List ah)
 |row (gr:Bool) (m:Mode) (sz:Nat) (xs:List (List C))
inductive aj where
 |one (c:ah)
 |agg (cs:List ah)
 |bn (xs:List (Bool×List ah))
instance:Inhabited aj:=⟨.one .bm⟩
structure St where
 env:Nat->aj
 h:Nat->Option ao
 used:Nat->Bool
def au {α:Type} (f:Nat->α) (k:Nat) (v:α):Nat->α:=fun n=>match Nat.beq n k with
 |true=>v
 |false=>f n
theorem iP {α:Type} (f:Nat->α) (k:Nat) (v:α) (n:Nat):au f k v n=if n=k then v else f n:=by
 unfold au
 split
 ·rename_i e;rw[if_pos (Nat.eq_of_beq_eq_true e)]
 ·rename_i e;rw[if_neg (fun h=>by rw[h,Nat.beq_refl] at e;cases e)]
theorem bF {α:Type} (f:Nat->α) (k:Nat) (v:α):au f k v k=v:=by simp[iP]
theorem cq {α:Type} (f:Nat->α) (k n:Nat) (v:α) (h:n≠k):au f k v n=f n:=by simp[iP,h]
def ah.iD:ah->Nat->Prop
 |.ptr n _ _ _,m=>m=n
 |.sl n _ _ _,m=>m=n
 |.bz n _ _ _ _ _,m=>m=n
 |.cQ n _ _ _ _ _,m=>m=n
 |_,_=>False
def ah.ref:ah->Nat->Prop
 |.fn _ cr,m=>∃x∈cr,x.iD m
 |x,m=>x.iD m
def aj.ref:aj->Nat->Prop
 |.one c,m=>c.ref m
 |.agg cs,m=>∃c∈cs,c.ref m
 |.bn xs,m=>∃x∈xs,∃c∈x.2,c.ref m
structure PB where
 nl:Bool
 b:Nat
 o:Nat
 cap:Nat
 px:List (List PC)
 na:Option Addr
instance:Inhabited PB:=⟨⟨false,0,0,0,[],none⟩⟩
def aK:Nat:=1000000
structure Ex where
 e:Nat->Prop
 qA:Nat->Option PB
 lt:∀n p,qA n=some p->aK<=n
 a:Nat->Prop
instance:CoeFun Ex (fun _=>Nat->Prop):=⟨Ex.e⟩
def Ex.no:Ex:=⟨fun _=>False,fun _=>none,fun _ _ h=>(by cases h),fun _=>True⟩
structure Gh where
 Im:Nat->Prop
 g:Nat->PB
def PC.gB:PC->Bool
 |.list ..=>true
 |_=>false
def jq (p:PB) (sz lo len:Nat) (v:Value):Prop:=
 (p.nl=true/\v=.slice p.na 0 p.cap/\lo=0/\len=0)\/
 (p.nl=false/\∃a,v=.slice a len (p.cap - lo)/\lo+len<=p.cap/\((lo<p.cap\/lo=0)->a=some (ad p.b (p.o+lo*sz))))
def jo (w:World) (G:Gh) (h:Nat->Option ao):ah->Value->Prop
 |.c x,v=>∃pc:PC,pc.er=x/\pc.val=v/\Good w pc/\∀b,aS b pc->G.Im b
 |.nil _,v=>v=.slice none 0 0
 |.ptr n k sz off,v=>h n≠none->(G.g n).nl=false/\v=.pointer (some (ad (G.g n).b ((G.g n).o+k*sz+off)))
 |.cu xs off,v=>∃(b o:Nat) (pe:List PC),v=.pointer (some (ad b (o+off)))/\pe.map PC.er=xs/\G.Im b/\
  ∀j c,pe[j]? =some c->w.cell? (ad b (o+j))=some c.val/\Good w c/\∀b',aS b' c->G.Im b'
 |.sl n sz lo len,v=>h n≠none->jq (G.g n) sz lo len v
 |.bz n k az off sz len,v=>∀gr xs,h n=some (.row gr .live az xs)->∃pc,At (G.g n).px k off pc/\pc.val=v/\pc.gB=true
 |.cQ n k az off sz i,v=>∀gr xs,h n=some (.row gr .live az xs)->∃(pc:PC) (b o len cap:Nat),At (G.g n).px k off pc/\pc.val=.slice (some (ad b o)) len cap/\pc.gB=true/\v=.pointer (some (ad b (o+i*sz)))
 |.fn _ _,_=>False
 |.bm,_=>True
def RC (w:World) (G:Gh) (h:Nat->Option ao):ah->Value->Prop
 |.fn f cr,v=>∃vs:List Value,v=.func (.func f) #[] vs.toArray/\vs.length=cr.length/\∀(j:Nat) (c:ah) (u:Value),cr[j]? =some c->vs[j]? =some u->u.oneCell'=true/\jo w G h c u
 |c,v=>jo w G h c v
def ah.kJ:ah->Bool
 |.fn _ _=>true
 |_=>false
theorem xD (w:World) (G:Gh) (h:Nat->Option ao) (c:ah) (v:Value) (hc:c.kJ=false):RC w G h c v=jo w G h c v:=by
 cases c<;>first|rfl|(simp[ah.kJ] at hc)
theorem ah.abi (c:ah) (m:Nat) (hc:c.kJ=false):c.ref m=c.iD m:=by
 cases c<;>first|rfl|(simp[ah.kJ] at hc)
def cN (w:World) (G:Gh) (h:Nat->Option ao) (cs:List ah) (vs:List Value):Prop:=
 vs.length=cs.length/\∀(j:Nat) (c:ah) (u:Value),cs[j]? =some c->vs[j]? =some u->u.oneCell'=true/\RC w G h c u
def RV (w:World) (G:Gh) (h:Nat->Option ao) (ag:Bool) (cs:List ah) (v:Value):Prop:=
 if ag then∃vs:List Value,v=.agg vs.toArray/\cN w G h cs vs else cN w G h cs [v]
def RA (w:World) (G:Gh) (h:Nat->Option ao):aj->Value->Prop
 |.one c,v=>c=.bm\/RV w G h false [c] v
 |.agg cs,v=>RV w G h true cs v
 |.bn xs,v=>∃vs:List Value,v=.tuple vs.toArray/\vs.length=xs.length/\∀(j:Nat) (x:Bool×List ah) (u:Value),xs[j]? =some x->vs[j]? =some u->RV w G h x.1 x.2 u
structure bc (w:World) (G:Gh) (h:Nat->Option ao) (used:Nat->Prop) (w':World) (G':Gh) (h':Nat->Option ao):Prop where
 im:∀b,G.Im b->G'.Im b
 cell:∀b,G.Im b->∀o,w'.cell? (ad b o)=w.cell? (ad b o)
 name:∀n,used n->h' n≠none->h n≠none/\(G'.g n).nl=(G.g n).nl/\(G'.g n).b=(G.g n).b/\(G'.g n).o=(G.g n).o/\(G'.g n).cap=(G.g n).cap/\(G'.g n).na=(G.g n).na
 live:∀n gr sz xs,used n->h' n=some (.row gr .live sz xs)->(∃x7 kA,h n=some (.row x7 .live sz kA))/\
  ∀k j pc,At (G.g n).px k j pc->pc.gB=true->∃dg,At (G'.g n).px k j dg/\dg.val=pc.val/\dg.gB=true
section
variable {w w':World} {G G':Gh} {h h':Nat->Option ao} {used:Nat->Prop}
theorem jo.fe (K:bc w G h used w' G' h') {c:ah} {v:Value} (hr:∀m,c.iD m->used m) (hc:jo w G h c v):jo w' G' h' c v:=by
 cases c with
 |c x=>
  obtain⟨pc,h1,h2,h3,h4⟩:=hc
  exact⟨pc,h1,h2,h3.congr fun b hb o=>K.cell b (h4 b hb) o,fun b hb=>K.im b (h4 b hb)⟩
 |nil sz=>exact hc
 |ptr n k sz off=>
  intro hn
  obtain⟨h0,e1,e2,e3,e4,e5⟩:=K.name n (hr n rfl) hn
  rw[e1,e2,e3]
  exact hc h0
 |cu xs off=>
  obtain⟨b,o,pe,h1,h2,h3,h4⟩:=hc
  refine⟨b,o,pe,h1,h2,K.im b h3,fun j c hj=>?_⟩
  obtain⟨a1,a2,a3⟩:=h4 j c hj
  exact⟨(K.cell b h3 _).trans a1,a2.congr fun b' aY o'=>K.cell b' (a3 b' aY) o',fun b' aY=>K.im b' (a3 b' aY)⟩
 |sl n sz lo len=>
  intro hn
  obtain⟨h0,e1,e2,e3,e4,e5⟩:=K.name n (hr n rfl) hn
  have:=hc h0
  unfold jq at*
  rw[e1,e2,e3,e4,e5]
  exact this
 |bz n k az off sz len=>
  intro gr xs hn
  obtain⟨⟨x7,kA,h0⟩,hl⟩:=K.live n gr az xs (hr n rfl) hn
  obtain⟨pc,p1,p2,p3⟩:=hc x7 kA h0
  obtain⟨dg,q1,q2,q3⟩:=hl k off pc p1 p3
  exact⟨dg,q1,q2.trans p2,q3⟩
 |cQ n k az off sz i=>
  intro gr xs hn
  obtain⟨⟨x7,kA,h0⟩,hl⟩:=K.live n gr az xs (hr n rfl) hn
  obtain⟨pc,b,o,len,cap,p1,p2,p3,p4⟩:=hc x7 kA h0
  obtain⟨dg,q1,q2,q3⟩:=hl k off pc p1 p3
  exact⟨dg,b,o,len,cap,q1,q2.trans p2,q3,p4⟩
 |fn f cr=>exact hc
 |bm=>trivial
theorem RC.fe (K:bc w G h used w' G' h') {c:ah} {v:Value} (hr:∀m,c.ref m->used m) (hc:RC w G h c v):RC w' G' h' c v:=by
 by_cases hf:c.kJ=false
 ·rw[xD _ _ _ _ _ hf] at*
  exact hc.fe K fun m hm=>hr m (by rw[ah.abi c m hf];exact hm)
 ·cases c<;>first|(simp[ah.kJ] at hf;done)|skip
  obtain⟨vs,h1,h2,h3⟩:=hc
  exact⟨vs,h1,h2,fun j c u hj hu=>⟨(h3 j c u hj hu).1,(h3 j c u hj hu).2.fe K fun m hm=>hr m ⟨c,List.mem_of_getElem? hj,hm⟩⟩⟩
theorem cN.fe (K:bc w G h used w' G' h') {cs:List ah} {vs:List Value} (hr:∀c∈cs,∀m,c.ref m->used m) (hc:cN w G h cs vs):cN w' G' h' cs vs:=
 ⟨hc.1,fun j c u hj hu=>⟨(hc.2 j c u hj hu).1,(hc.2 j c u hj hu).2.fe K (hr c (List.mem_of_getElem? hj))⟩⟩
theorem RV.fe (K:bc w G h used w' G' h') {ag:Bool} {cs:List ah} {v:Value} (hr:∀c∈cs,∀m,c.ref m->used m) (hc:RV w G h ag cs v):RV w' G' h' ag cs v:=by
 unfold RV at*
 split
 ·rename_i h1
  simp only[h1,if_true] at hc
  obtain⟨vs,e,hv⟩:=hc
  exact⟨vs,e,hv.fe K hr⟩
 ·rename_i h1
  simp only[h1] at hc
  exact cN.fe K hr hc
theorem RA.fe (K:bc w G h used w' G' h') {x:aj} {v:Value} (hr:∀m,x.ref m->used m) (hc:RA w G h x v):RA w' G' h' x v:=by
 cases x with
 |one c=>exact hc.imp id fun hv=>hv.fe K fun c' cv m hm=>hr m (by simp at cv;subst cv;exact hm)
 |agg cs=>exact RV.fe K (fun c' cv m hm=>hr m ⟨c',cv,hm⟩) hc
 |bn xs=>
  obtain⟨vs,e,hl,hv⟩:=hc
  exact⟨vs,e,hl,fun j x u hj hu=>(hv j x u hj hu).fe K fun c' cv m hm=>hr m ⟨x,List.mem_of_getElem? hj,c',cv,hm⟩⟩
end
def Ga (w:World) (p:PB) (sz:Nat):Prop:=p.cap<=maxLen/\∃cur e,w.heap[p.b]? =some (.cells cur e (0,0))/\cur.size=p.o+p.cap*sz
def CJ (B:Nat) (E:Ex) (w:World) (G:Gh) (px:List (List PC)):Mode->Prop
 |.aD=>∀b,aV b px->G.Im b
 |.ae=>(∀b,aV b px->G.Im b/\dD w b/\(B<=b\/E b))/\ij px
 |.live=>(∀b,aV b px->¬G.Im b/\dD w b/\(B<=b\/E b))/\ij px
structure tC (B:Nat) (E:Ex) (w:World) (G:Gh) (gr:Bool) (m:Mode) (sz:Nat) (xs:List (List C)) (p:PB):Prop where
 pos:0<sz
 er:xs=p.px.map (fun e=>e.map PC.er)
 nl:p.nl=true->p.px=[]/\(gr=true->p.cap=0)
 dR:p.nl=false->dD w p.b/\oD w p.b p.o sz p.px/\p.px.length<=p.cap
 room:p.nl=false->gr=true->Ga w p sz
 mode:CJ B E w G p.px m
structure HR (B:Nat) (E:Ex) (w:World) (G:Gh) (h:Nat->Option ao) (used:Nat->Bool) (tk:List PC):Prop where
 iG:∀n,h n≠none->used n=true
 gH:∀m cs c n,h m=some (.box cs)->c∈cs->c.ref n->used n=true
 box:∀n cs,h n=some (.box cs)->(G.g n).nl=false/\dD w (G.g n).b/\
  ∀(j:Nat) (c:ah),cs[j]? =some c->∃v,w.cell? (ad (G.g n).b ((G.g n).o+j))=some v/\v.oneCell'=true/\RC w G h c v
 row:∀n gr m sz xs,h n=some (.row gr m sz xs)->tC B E w G gr m sz xs (G.g n)
 own:∀n,h n≠none->(G.g n).nl=false->¬G.Im (G.g n).b/\(B<=(G.g n).b\/E (G.g n).b)/\(G.g n).b<w.heap.size
 inj:∀n n',h n≠none->h n'≠none->n≠n'->(G.g n).nl=false->(G.g n').nl=false->(G.g n).b≠(G.g n').b
 fW:∀b,G.Im b->b<w.heap.size
 pf:∀b,G.Im b->B<=b\/E b\/E.a b
 fJ:∀n n' gr m sz xs bk m' aJ aq,h n=some (.row gr m sz xs)->h n'=some (.row bk m' aJ aq)->m≠ .aD->m'≠ .aD->n≠n'->
  ∀b,aV b (G.g n).px->¬aV b (G.g n').px
 live:∀n gr sz xs,h n=some (.row gr .live sz xs)->∀b,aV b (G.g n).px->∀n',h n'≠none->(G.g n').nl=false->b≠(G.g n').b
 qP:∀(i:Nat) (pc:PC),tk[i]? =some pc->Sep pc/\∀b,aS b pc->G.Im b/\dD w b/\(B<=b\/E b)
 vc:∀(i j:Nat) (pc dg:PC) (b:Nat),i≠j->tk[i]? =some pc->tk[j]? =some dg->aS b pc->¬aS b dg
 qQ:∀(i:Nat) (pc:PC) (n:Nat) (gr:Bool) (m:Mode) (sz:Nat) (xs:List (List C)) (b:Nat),tk[i]? =some pc->h n=some (.row gr m sz xs)->m≠ .aD->aS b pc->¬aV b (G.g n).px
def Cz (w w':World) (b:Nat):Prop:=∀arr e,w.heap[b]? =some (.cells arr e (0,0))->∃Wa,w'.heap[b]? =some (.cells Wa e (0,0))/\Wa.size=arr.size
theorem Cz.refl (w:World) (b:Nat):Cz w w b:=fun arr _ h=>⟨arr,h,rfl⟩
theorem Cz.of_eq {w w':World} {b:Nat} (h:w'.heap[b]? =w.heap[b]?):Cz w w' b:=fun arr _ h1=>⟨arr,h.trans h1,rfl⟩
theorem Cz.trans {w w1 w2:World} {b:Nat} (h1:Cz w w1 b) (h2:Cz w1 w2 b):Cz w w2 b:=fun arr e h=>by
 obtain⟨a1,e1,s1⟩:=h1 arr e h
 obtain⟨a2,e2,s2⟩:=h2 a1 e e1
 exact⟨a2,e2,s2.trans s1⟩
theorem Cz.ie {w w':World} {b:Nat} (h:Cz w w' b) (hu:dD w b):dD w' b:=by
 obtain⟨arr,e,hu⟩:=hu
 obtain⟨a,e1,_⟩:=h arr e hu
 exact⟨a,e,e1⟩
structure Fr (B:Nat) (E:Ex) (w0 w:World):Prop where
 os:w.os=w0.os
 tape:w.tape=w0.tape
 output:w.output=w0.output
 size:B<=w.heap.size
 block:∀b,b<B->¬E b->w.heap[b]? =w0.heap[b]?
 ie:∀b,b<B->Cz w0 w b
def adm (p q:PB) (b:ao):Prop:=
 q.nl=p.nl/\q.b=p.b/\q.o=p.o/\q.cap=p.cap/\q.na=p.na/\
  ∀gr sz xs,b=.row gr .live sz xs->∀k j pc,At p.px k j pc->pc.gB=true->∃dg,At q.px k j dg/\dg.val=pc.val/\dg.gB=true
structure R (B:Nat) (E:Ex) (w0:World) (N:Nat) (σ:St) (a:Act) (w:World) (G:Gh):Prop where
 defers:a.defers=[]
 size:a.tmps.size=N
 env:∀s,RA w G σ.h (σ.env s) (a.tmps.getD s undef)
 r7:∀s n,(σ.env s).ref n->σ.used n=true
 hr:HR B E w G σ.h σ.used []
 fr:Fr B E w0 w
 qA:∀n p b,E.qA n=some p->σ.h n=some b->adm p (G.g n) b
 y4:∀n,aK<=n->σ.used n=true
end Go.Am
