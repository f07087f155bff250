/- Am2: the abstract machine's values, its named blocks, and how they stand for a world. No condition. -/
import Derived.Test.YtifmggmhdcdgbaaAm1
set_option linter.unusedVariables false
namespace Go.Am
inductive ai where
 |c (x:C)
 |nil (sz:Nat)
 |ptr (n k sz off:Nat)
 |ca (xs:List C) (off:Nat)
 |sl (n sz lo len:Nat)
 |bx (n k az off sz len:Nat)
 |cD (n k az off sz i:Nat)
 |fn (f:FuncId) (bW:List ai)
 |bh
instance:Inhabited ai:=⟨.bh⟩
inductive Mode where
 |live|ab|aA
 deriving DecidableEq
inductive ar where
 |box (cs:List ai)
 |row (gr:Bool) (m:Mode) (sz:Nat) (xs:List (List C))
inductive aj where
 |one (c:ai)
 |agg (cs:List ai)
 |bn (xs:List (Bool×List ai))
instance:Inhabited aj:=⟨.one .bh⟩
structure St where
 env:Nat->aj
 h:Nat->Option ar
 used:Nat->Bool
def aw {α:Type} (f:Nat->α) (k:Nat) (v:α):Nat->α:=fun n=>match Nat.beq n k with
 |true=>v
 |false=>f n
theorem jg {α:Type} (f:Nat->α) (k:Nat) (v:α) (n:Nat):aw f k v n=if n=k then v else f n:=by
 unfold aw
 split
 ·rename_i e;rw[if_pos (Nat.eq_of_beq_eq_true e)]
 ·rename_i e;rw[if_neg (fun h=>by rw[h,Nat.beq_refl] at e;cases e)]
theorem bA {α:Type} (f:Nat->α) (k:Nat) (v:α):aw f k v k=v:=by simp[jg]
theorem bZ {α:Type} (f:Nat->α) (k n:Nat) (v:α) (h:n≠k):aw f k v n=f n:=by simp[jg,h]
def ai.ik:ai->Nat->Prop
 |.ptr n _ _ _,m=>m=n
 |.sl n _ _ _,m=>m=n
 |.bx n _ _ _ _ _,m=>m=n
 |.cD n _ _ _ _ _,m=>m=n
 |_,_=>False
def ai.ref:ai->Nat->Prop
 |.fn _ bW,m=>∃x∈bW,x.ik m
 |x,m=>x.ik m
def aj.ref:aj->Nat->Prop
 |.one c,m=>c.ref m
 |.agg cs,m=>∃c∈cs,c.ref m
 |.bn xs,m=>∃x∈xs,∃c∈x.2,c.ref m
structure PB where
 nl:Bool
 b:Nat
 o:Nat
 cap:Nat
 px:List (List PC)
 na:Option Addr
instance:Inhabited PB:=⟨⟨false,0,0,0,[],none⟩⟩
def aH:Nat:=1000000
structure Ex where
 e:Nat->Prop
 qv:Nat->Option PB
 lt:∀n p,qv n=some p->aH<=n
 a:Nat->Prop
instance:CoeFun Ex (fun _=>Nat->Prop):=⟨Ex.e⟩
def Ex.no:Ex:=⟨fun _=>False,fun _=>none,fun _ _ h=>(by cases h),fun _=>True⟩
structure Gh where
 Im:Nat->Prop
 g:Nat->PB
def PC.gk:PC->Bool
 |.list ..=>true
 |_=>false
def jF (p:PB) (sz lo len:Nat) (v:Value):Prop:=
 (p.nl=true/\v=.slice p.na 0 p.cap/\lo=0/\len=0)\/
 (p.nl=false/\∃a,v=.slice a len (p.cap - lo)/\lo+len<=p.cap/\((lo<p.cap\/lo=0)->a=some (ad p.b (p.o+lo*sz))))
def ji (w:World) (G:Gh) (h:Nat->Option ar):ai->Value->Prop
 |.c x,v=>∃pc:PC,pc.er=x/\pc.val=v/\Good w pc/\∀b,aP b pc->G.Im b
 |.nil _,v=>v=.slice none 0 0
 |.ptr n k sz off,v=>h n≠none->(G.g n).nl=false/\v=.pointer (some (ad (G.g n).b ((G.g n).o+k*sz+off)))
 |.ca xs off,v=>∃(b o:Nat) (pe:List PC),v=.pointer (some (ad b (o+off)))/\pe.map PC.er=xs/\G.Im b/\
  ∀j c,pe[j]? =some c->w.cell? (ad b (o+j))=some c.val/\Good w c/\∀b',aP b' c->G.Im b'
 |.sl n sz lo len,v=>h n≠none->jF (G.g n) sz lo len v
 |.bx n k az off sz len,v=>∀gr xs,h n=some (.row gr .live az xs)->∃pc,At (G.g n).px k off pc/\pc.val=v/\pc.gk=true
 |.cD n k az off sz i,v=>∀gr xs,h n=some (.row gr .live az xs)->∃(pc:PC) (b o len cap:Nat),At (G.g n).px k off pc/\pc.val=.slice (some (ad b o)) len cap/\pc.gk=true/\v=.pointer (some (ad b (o+i*sz)))
 |.fn _ _,_=>False
 |.bh,_=>True
def RC (w:World) (G:Gh) (h:Nat->Option ar):ai->Value->Prop
 |.fn f bW,v=>∃vs:List Value,v=.func (.func f) #[] vs.toArray/\vs.length=bW.length/\∀(j:Nat) (c:ai) (u:Value),bW[j]? =some c->vs[j]? =some u->u.oneCell'=true/\ji w G h c u
 |c,v=>ji w G h c v
def ai.kC:ai->Bool
 |.fn _ _=>true
 |_=>false
theorem xU (w:World) (G:Gh) (h:Nat->Option ar) (c:ai) (v:Value) (hc:c.kC=false):RC w G h c v=ji w G h c v:=by
 cases c<;>first|rfl|(simp[ai.kC] at hc)
theorem ai.aa5 (c:ai) (m:Nat) (hc:c.kC=false):c.ref m=c.ik m:=by
 cases c<;>first|rfl|(simp[ai.kC] at hc)
def cA (w:World) (G:Gh) (h:Nat->Option ar) (cs:List ai) (vs:List Value):Prop:=
 vs.length=cs.length/\∀(j:Nat) (c:ai) (u:Value),cs[j]? =some c->vs[j]? =some u->u.oneCell'=true/\RC w G h c u
def RV (w:World) (G:Gh) (h:Nat->Option ar) (ag:Bool) (cs:List ai) (v:Value):Prop:=
 if ag then∃vs:List Value,v=.agg vs.toArray/\cA w G h cs vs else cA w G h cs [v]
def RA (w:World) (G:Gh) (h:Nat->Option ar):aj->Value->Prop
 |.one c,v=>c=.bh\/RV w G h false [c] v
 |.agg cs,v=>RV w G h true cs v
 |.bn xs,v=>∃vs:List Value,v=.tuple vs.toArray/\vs.length=xs.length/\∀(j:Nat) (x:Bool×List ai) (u:Value),xs[j]? =some x->vs[j]? =some u->RV w G h x.1 x.2 u
structure aW (w:World) (G:Gh) (h:Nat->Option ar) (used:Nat->Prop) (w':World) (G':Gh) (h':Nat->Option ar):Prop where
 im:∀b,G.Im b->G'.Im b
 cell:∀b,G.Im b->∀o,w'.cell? (ad b o)=w.cell? (ad b o)
 name:∀n,used n->h' n≠none->h n≠none/\(G'.g n).nl=(G.g n).nl/\(G'.g n).b=(G.g n).b/\(G'.g n).o=(G.g n).o/\(G'.g n).cap=(G.g n).cap/\(G'.g n).na=(G.g n).na
 live:∀n gr sz xs,used n->h' n=some (.row gr .live sz xs)->(∃yu km,h n=some (.row yu .live sz km))/\
  ∀k j pc,At (G.g n).px k j pc->pc.gk=true->∃c6,At (G'.g n).px k j c6/\c6.val=pc.val/\c6.gk=true
section
variable {w w':World} {G G':Gh} {h h':Nat->Option ar} {used:Nat->Prop}
theorem ji.eM (K:aW w G h used w' G' h') {c:ai} {v:Value} (hr:∀m,c.ik m->used m) (hc:ji w G h c v):ji w' G' h' c v:=by
 cases c with
 |c x=>
  obtain⟨pc,h1,h2,h3,h4⟩:=hc
  exact⟨pc,h1,h2,h3.congr fun b hb o=>K.cell b (h4 b hb) o,fun b hb=>K.im b (h4 b hb)⟩
 |nil sz=>exact hc
 |ptr n k sz off=>
  intro hn
  obtain⟨h0,e1,e2,e3,e4,e5⟩:=K.name n (hr n rfl) hn
  rw[e1,e2,e3]
  exact hc h0
 |ca xs off=>
  obtain⟨b,o,pe,h1,h2,h3,h4⟩:=hc
  refine⟨b,o,pe,h1,h2,K.im b h3,fun j c hj=>?_⟩
  obtain⟨a1,a2,a3⟩:=h4 j c hj
  exact⟨(K.cell b h3 _).trans a1,a2.congr fun b' aT o'=>K.cell b' (a3 b' aT) o',fun b' aT=>K.im b' (a3 b' aT)⟩
 |sl n sz lo len=>
  intro hn
  obtain⟨h0,e1,e2,e3,e4,e5⟩:=K.name n (hr n rfl) hn
  have:=hc h0
  unfold jF at*
  rw[e1,e2,e3,e4,e5]
  exact this
 |bx n k az off sz len=>
  intro gr xs hn
  obtain⟨⟨yu,km,h0⟩,hl⟩:=K.live n gr az xs (hr n rfl) hn
  obtain⟨pc,p1,p2,p3⟩:=hc yu km h0
  obtain⟨c6,q1,q2,q3⟩:=hl k off pc p1 p3
  exact⟨c6,q1,q2.trans p2,q3⟩
 |cD n k az off sz i=>
  intro gr xs hn
  obtain⟨⟨yu,km,h0⟩,hl⟩:=K.live n gr az xs (hr n rfl) hn
  obtain⟨pc,b,o,len,cap,p1,p2,p3,p4⟩:=hc yu km h0
  obtain⟨c6,q1,q2,q3⟩:=hl k off pc p1 p3
  exact⟨c6,b,o,len,cap,q1,q2.trans p2,q3,p4⟩
 |fn f bW=>exact hc
 |bh=>trivial
theorem RC.eM (K:aW w G h used w' G' h') {c:ai} {v:Value} (hr:∀m,c.ref m->used m) (hc:RC w G h c v):RC w' G' h' c v:=by
 by_cases hf:c.kC=false
 ·rw[xU _ _ _ _ _ hf] at*
  exact hc.eM K fun m hm=>hr m (by rw[ai.aa5 c m hf];exact hm)
 ·cases c<;>first|(simp[ai.kC] at hf;done)|skip
  obtain⟨vs,h1,h2,h3⟩:=hc
  exact⟨vs,h1,h2,fun j c u hj hu=>⟨(h3 j c u hj hu).1,(h3 j c u hj hu).2.eM K fun m hm=>hr m ⟨c,List.mem_of_getElem? hj,hm⟩⟩⟩
theorem cA.eM (K:aW w G h used w' G' h') {cs:List ai} {vs:List Value} (hr:∀c∈cs,∀m,c.ref m->used m) (hc:cA w G h cs vs):cA w' G' h' cs vs:=
 ⟨hc.1,fun j c u hj hu=>⟨(hc.2 j c u hj hu).1,(hc.2 j c u hj hu).2.eM K (hr c (List.mem_of_getElem? hj))⟩⟩
theorem RV.eM (K:aW w G h used w' G' h') {ag:Bool} {cs:List ai} {v:Value} (hr:∀c∈cs,∀m,c.ref m->used m) (hc:RV w G h ag cs v):RV w' G' h' ag cs v:=by
 unfold RV at*
 split
 ·rename_i h1
  simp only[h1,if_true] at hc
  obtain⟨vs,e,hv⟩:=hc
  exact⟨vs,e,hv.eM K hr⟩
 ·rename_i h1
  simp only[h1] at hc
  exact cA.eM K hr hc
theorem RA.eM (K:aW w G h used w' G' h') {x:aj} {v:Value} (hr:∀m,x.ref m->used m) (hc:RA w G h x v):RA w' G' h' x v:=by
 cases x with
 |one c=>exact hc.imp id fun hv=>hv.eM K fun c' cj m hm=>hr m (by simp at cj;subst cj;exact hm)
 |agg cs=>exact RV.eM K (fun c' cj m hm=>hr m ⟨c',cj,hm⟩) hc
 |bn xs=>
  obtain⟨vs,e,hl,hv⟩:=hc
  exact⟨vs,e,hl,fun j x u hj hu=>(hv j x u hj hu).eM K fun c' cj m hm=>hr m ⟨x,List.mem_of_getElem? hj,c',cj,hm⟩⟩
end
def Gr (w:World) (p:PB) (sz:Nat):Prop:=p.cap<=maxLen/\∃cur e,w.heap[p.b]? =some (.cells cur e (0,0))/\cur.size=p.o+p.cap*sz
def CS (B:Nat) (E:Ex) (w:World) (G:Gh) (px:List (List PC)):Mode->Prop
 |.aA=>∀b,aS b px->G.Im b
 |.ab=>(∀b,aS b px->G.Im b/\dr w b/\(B<=b\/E b))/\g7 px
 |.live=>(∀b,aS b px->¬G.Im b/\dr w b/\(B<=b\/E b))/\g7 px
structure tW (B:Nat) (E:Ex) (w:World) (G:Gh) (gr:Bool) (m:Mode) (sz:Nat) (xs:List (List C)) (p:PB):Prop where
 pos:0<sz
 er:xs=p.px.map (fun e=>e.map PC.er)
 nl:p.nl=true->p.px=[]/\(gr=true->p.cap=0)
 dD:p.nl=false->dr w p.b/\oF w p.b p.o sz p.px/\p.px.length<=p.cap
 room:p.nl=false->gr=true->Gr w p sz
 mode:CS B E w G p.px m
structure HR (B:Nat) (E:Ex) (w:World) (G:Gh) (h:Nat->Option ar) (used:Nat->Bool) (tk:List PC):Prop where
 iS:∀n,h n≠none->used n=true
 gy:∀m cs c n,h m=some (.box cs)->c∈cs->c.ref n->used n=true
 box:∀n cs,h n=some (.box cs)->(G.g n).nl=false/\dr w (G.g n).b/\
  ∀(j:Nat) (c:ai),cs[j]? =some c->∃v,w.cell? (ad (G.g n).b ((G.g n).o+j))=some v/\v.oneCell'=true/\RC w G h c v
 row:∀n gr m sz xs,h n=some (.row gr m sz xs)->tW B E w G gr m sz xs (G.g n)
 own:∀n,h n≠none->(G.g n).nl=false->¬G.Im (G.g n).b/\(B<=(G.g n).b\/E (G.g n).b)/\(G.g n).b<w.heap.size
 inj:∀n n',h n≠none->h n'≠none->n≠n'->(G.g n).nl=false->(G.g n').nl=false->(G.g n).b≠(G.g n').b
 fI:∀b,G.Im b->b<w.heap.size
 oT:∀b,G.Im b->B<=b\/E b\/E.a b
 fv:∀n n' gr m sz xs bk m' aK av,h n=some (.row gr m sz xs)->h n'=some (.row bk m' aK av)->m≠ .aA->m'≠ .aA->n≠n'->
  ∀b,aS b (G.g n).px->¬aS b (G.g n').px
 live:∀n gr sz xs,h n=some (.row gr .live sz xs)->∀b,aS b (G.g n).px->∀n',h n'≠none->(G.g n').nl=false->b≠(G.g n').b
 qG:∀(i:Nat) (pc:PC),tk[i]? =some pc->Sep pc/\∀b,aP b pc->G.Im b/\dr w b/\(B<=b\/E b)
 vo:∀(i j:Nat) (pc c6:PC) (b:Nat),i≠j->tk[i]? =some pc->tk[j]? =some c6->aP b pc->¬aP b c6
 qH:∀(i:Nat) (pc:PC) (n:Nat) (gr:Bool) (m:Mode) (sz:Nat) (xs:List (List C)) (b:Nat),tk[i]? =some pc->h n=some (.row gr m sz xs)->m≠ .aA->aP b pc->¬aS b (G.g n).px
def Cz (w w':World) (b:Nat):Prop:=∀arr e,w.heap[b]? =some (.cells arr e (0,0))->∃VL,w'.heap[b]? =some (.cells VL e (0,0))/\VL.size=arr.size
theorem Cz.refl (w:World) (b:Nat):Cz w w b:=fun arr _ h=>⟨arr,h,rfl⟩
theorem Cz.of_eq {w w':World} {b:Nat} (h:w'.heap[b]? =w.heap[b]?):Cz w w' b:=fun arr _ h1=>⟨arr,h.trans h1,rfl⟩
theorem Cz.trans {w w1 w2:World} {b:Nat} (h1:Cz w w1 b) (h2:Cz w1 w2 b):Cz w w2 b:=fun arr e h=>by
 obtain⟨a1,e1,s1⟩:=h1 arr e h
 obtain⟨a2,e2,s2⟩:=h2 a1 e e1
 exact⟨a2,e2,s2.trans s1⟩
theorem Cz.kg {w w':World} {b:Nat} (h:Cz w w' b) (hu:dr w b):dr w' b:=by
 obtain⟨arr,e,hu⟩:=hu
 obtain⟨a,e1,_⟩:=h arr e hu
 exact⟨a,e,e1⟩
structure Fr (B:Nat) (E:Ex) (w0 w:World):Prop where
 os:w.os=w0.os
 tape:w.tape=w0.tape
 output:w.output=w0.output
 size:B<=w.heap.size
 block:∀b,b<B->¬E b->w.heap[b]? =w0.heap[b]?
 kg:∀b,b<B->Cz w0 w b
def ac0 (p q:PB) (b:ar):Prop:=
 q.nl=p.nl/\q.b=p.b/\q.o=p.o/\q.cap=p.cap/\q.na=p.na/\
  ∀gr sz xs,b=.row gr .live sz xs->∀k j pc,At p.px k j pc->pc.gk=true->∃c6,At q.px k j c6/\c6.val=pc.val/\c6.gk=true
structure R (B:Nat) (E:Ex) (w0:World) (N:Nat) (σ:St) (a:Act) (w:World) (G:Gh):Prop where
 defers:a.defers=[]
 size:a.tmps.size=N
 env:∀s,RA w G σ.h (σ.env s) (a.tmps.getD s undef)
 rR:∀s n,(σ.env s).ref n->σ.used n=true
 hr:HR B E w G σ.h σ.used []
 fr:Fr B E w0 w
 qv:∀n p b,E.qv n=some p->σ.h n=some b->ac0 p (G.g n) b
 zf:∀n,aH<=n->σ.used n=true
end Go.Am
