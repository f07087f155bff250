/- Am1, Am2, Am3, Am4, Am5, Am6, Am7, Am8, Am9, Am10, Am11, Am12, Am13, Am14, Am15, Am16, AmM: parts of the proof. No condition. -/
import Derived.LoopN
import Derived.Orders
import Derived.Laws.AppendOwn
import Derived.Laws.MakeOwn
import Derived.Laws.Tables
import Derived.Below
import Derived.Laws.Small
import Derived.Laws.StructEq
set_option linter.unusedVariables false
set_option linter.unusedSimpArgs false
namespace Go.Am
inductive C where
 |int (k:IntKind) (n:Int)
 |bool (b:Bool)
 |list (sz:Nat) (xs:List (List C))
instance:Inhabited C:=⟨.bool false⟩
def ad (b o:Nat):Addr:=⟨b,o,none⟩
theorem qz (b o n:Nat):(ad b o).add n=ad b (o+n):=by
 unfold ad Addr.add;split
 ·rename_i h;subst h;rfl
 ·rfl
theorem lz {b o b' o':Nat} (h:ad b o=ad b' o'):b=b'/\o=o':=by
 unfold ad at h;injection h with h1 h2;exact⟨h1,h2⟩
inductive PC where
 |int (k:IntKind) (n:Int)
 |bool (b:Bool)
 |list (sz:Nat) (a:Option Addr) (cap:Nat) (xs:List (List PC))
instance:Inhabited PC:=⟨.bool false⟩
mutual
def PC.er:PC->C
 |.int k n=>.int k n
 |.bool b=>.bool b
 |.list sz _ _ xs=>.list sz (PC.Gu xs)
def PC.aE:List PC->List C
 |[]=>[]
 |c::cs=>PC.er c::PC.aE cs
def PC.Gu:List (List PC)->List (List C)
 |[]=>[]
 |e::es=>PC.aE e::PC.Gu es
end
theorem PC.aiK (l:List PC):PC.aE l=l.map PC.er:=by
 induction l with
 |nil=>simp[PC.aE]
 |cons c l ih=>simp[PC.aE,ih]
theorem PC.aiJ (l:List (List PC)):PC.Gu l=l.map (fun e=>e.map PC.er):=by
 induction l with
 |nil=>simp[PC.Gu]
 |cons c l ih=>simp[PC.Gu,PC.aiK,ih]
theorem PC.dV (sz:Nat) (a:Option Addr) (cap:Nat) (xs:List (List PC)):(PC.list sz a cap xs).er=.list sz (xs.map (fun e=>e.map PC.er)):=by
 simp[PC.er,PC.aiJ]
def PC.val:PC->Value
 |.int k n=>.int k n
 |.bool b=>.bool b
 |.list _ a cap xs=>.slice a xs.length cap
theorem PC.jP (c:PC):c.val.oneCell'=true:=by cases c<;>rfl
def At {α:Type} (xs:List (List α)) (k j:Nat) (c:α):Prop:=∃e,xs[k]? =some e/\e[j]? =some c
inductive aZ (b:Nat):PC->Prop where
 |here (sz o cap:Nat) (xs:List (List PC)):xs≠[]->aZ b (.list sz (some (ad b o)) cap xs)
 |there (sz:Nat) (a:Option Addr) (cap:Nat) (xs:List (List PC)) (k j:Nat) (c:PC):At xs k j c->aZ b c->aZ b (.list sz a cap xs)
theorem aZ.kZ {b sz:Nat} {a:Option Addr} {cap:Nat} {xs:List (List PC)}:
  aZ b (.list sz a cap xs)↔(xs≠[]/\∃o,a=some (ad b o))\/∃k j c,At xs k j c/\aZ b c:=by
 constructor
 ·intro h;cases h with
  |here sz o cap xs h=>exact .inl ⟨h,o,rfl⟩
  |there sz a cap xs k j c h1 h2=>exact .inr ⟨k,j,c,h1,h2⟩
 ·rintro(⟨h,o,rfl⟩|⟨k,j,c,h1,h2⟩)
  ·exact .here _ _ _ _ h
  ·exact .there _ _ _ _ k j c h1 h2
theorem aZ.aqK {b:Nat} {k:IntKind} {n:Int}:¬aZ b (.int k n):=fun h=>by cases h
theorem aZ.aqJ {b:Nat} {x:Bool}:¬aZ b (.bool x):=fun h=>by cases h
inductive Good (w:World):PC->Prop where
 |int (k:IntKind) (n:Int):Good w (.int k n)
 |bool (b:Bool):Good w (.bool b)
 |nil (sz:Nat) (a:Option Addr) (cap:Nat):0<sz->Good w (.list sz a cap [])
 |cons (sz b o cap:Nat) (xs:List (List PC)):xs≠[]->xs.length<=cap->0<sz->(∀e∈xs,e.length=sz)->
  (∀k j c,At xs k j c->w.cell? (ad b (o+k*sz+j))=some c.val)->(∀k j c,At xs k j c->Good w c)->Good w (.list sz (some (ad b o)) cap xs)
theorem Good.congr {w w':World} {c:PC} (h:Good w c) (hc:∀b,aZ b c->∀o,w'.cell? (ad b o)=w.cell? (ad b o)):Good w' c:=by
 induction h with
 |int k n=>exact .int k n
 |bool b=>exact .bool b
 |nil sz a cap h=>exact .nil sz a cap h
 |cons sz b o cap xs h1 h2 h3 h4 h5 h6 ih=>
  refine .cons sz b o cap xs h1 h2 h3 h4 (fun k j c hk=>?_) (fun k j c hk=>ih k j c hk fun b' aL o'=>?_)
  ·rw[hc b (.here _ _ _ _ h1)];exact h5 k j c hk
  ·exact hc b' (.there _ _ _ _ k j c hk aL) o'
theorem Xj {xs:List (List PC)} {sz:Nat} (h1:xs≠[]) (h3:0<sz) (h4:∀e∈xs,e.length=sz):∃c,At xs 0 0 c:=by
 cases xs with
 |nil=>exact absurd rfl h1
 |cons e es=>
  have he:=h4 e (by simp);cases e with
  |nil=>simp at he;omega
  |cons c cs=>exact⟨c,c::cs,rfl,rfl⟩
theorem Good.lt {w:World} {c:PC} (h:Good w c) {b:Nat} (hb:aZ b c):b<w.heap.size:=by
 induction h with
 |int k n=>cases hb
 |bool b=>cases hb
 |nil sz a cap h=>
  cases hb with
  |here _ _ _ _ h=>exact absurd rfl h
  |there _ _ _ _ k j c h1 h2=>obtain⟨e,he,_⟩:=h1;simp at he
 |cons sz b' o cap xs h1 h2 h3 h4 h5 h6 ih=>
  cases hb with
  |here _ _ _ _ h=>
   obtain⟨c,hc⟩:=Xj h1 h3 h4;exact World.block_lt_of_cell? (a:=ad b (o+0*sz+0)) w (h5 0 0 c hc)
  |there _ _ _ _ k j c h1 h2=>exact ih k j c h1 h2
inductive Sep:PC->Prop where
 |int (k:IntKind) (n:Int):Sep (.int k n)
 |bool (b:Bool):Sep (.bool b)
 |list (sz:Nat) (a:Option Addr) (cap:Nat) (xs:List (List PC)):(∀k j c,At xs k j c->Sep c)->
  (∀b o k j c,a=some (ad b o)->At xs k j c->¬aZ b c)->
  (∀k j c k' j' c' b,At xs k j c->At xs k' j' c'->(k,j)≠(k',j')->aZ b c->¬aZ b c')->Sep (.list sz a cap xs)
def bh (b:Nat) (px:List (List PC)):Prop:=∃k j c,At px k j c/\aZ b c
def iO (px:List (List PC)):Prop:=
 (∀k j c,At px k j c->Sep c)/\∀k j c k' j' c' b,At px k j c->At px k' j' c'->(k,j)≠(k',j')->aZ b c->¬aZ b c'
def nG (w:World) (b o sz:Nat) (px:List (List PC)):Prop:=
 (∀e∈px,e.length=sz)/\(∀k j c,At px k j c->w.cell? (ad b (o+k*sz+j))=some c.val)/\∀k j c,At px k j c->Good w c
def d9 (w:World) (b:Nat):Prop:=∃arr e,w.heap[b]? =some (.cells arr e (0,0))
theorem d9.lt {w:World} {b:Nat} (h:d9 w b):b<w.heap.size:=by
 obtain⟨arr,e,h⟩:=h;exact(Array.getElem?_eq_some_iff.1 h).1
theorem d9.congr {w w':World} {b:Nat} (h:d9 w b) (hb:w'.heap[b]? =w.heap[b]?):d9 w' b:=by
 obtain⟨arr,e,h⟩:=h;exact⟨arr,e,hb.trans h⟩
theorem gV {w w':World} {b:Nat} (hb:w'.heap[b]? =w.heap[b]?) (o:Nat):w'.cell? (ad b o)=w.cell? (ad b o):=by
 simp[World.cell?,ad,hb]
theorem nG.congr {w w':World} {b o sz:Nat} {px:List (List PC)} (h:nG w b o sz px) (h1:∀o,w'.cell? (ad b o)=w.cell? (ad b o))
  (h2:∀b',bh b' px->∀o,w'.cell? (ad b' o)=w.cell? (ad b' o)):nG w' b o sz px:=
 ⟨h.1,fun k j c hk=>(h1 _).trans (h.2.1 k j c hk),fun k j c hk=>(h.2.2 k j c hk).congr fun b' aL o'=>h2 b' ⟨k,j,c,hk,aL⟩ o'⟩
theorem nG.lt {w:World} {b o sz:Nat} {px:List (List PC)} (h:nG w b o sz px) {b':Nat} (hb:bh b' px):b'<w.heap.size:=by
 obtain⟨k,j,c,hk,hc⟩:=hb;exact(h.2.2 k j c hk).lt hc
inductive ah where
 |c (x:C)
 |nil (sz:Nat)
 |ptr (n k sz off:Nat)
 |dg (xs:List C) (off:Nat)
 |sl (n sz lo len:Nat)
 |bC (n k aB off sz len:Nat)
 |db (n k aB off sz i:Nat)
 |cH (xs:List C) (off j n sz len:Nat)
 |fn (f:FuncId) (cP:List ah)
 |bq
instance:Inhabited ah:=⟨.bq⟩
inductive Mode where
 |live|aN|aJ
 deriving DecidableEq
inductive aq where
 |box (cs:List ah)
 |row (gr:Bool) (m:Mode) (sz:Nat) (xs:List (List C))
inductive aj where
 |one (c:ah)
 |agg (cs:List ah)
 |bK (xs:List (Bool×List ah))
instance:Inhabited aj:=⟨.one .bq⟩
structure St where
 env:Nat->aj
 h:Nat->Option aq
 used:Nat->Bool
def az {α:Type} (f:Nat->α) (k:Nat) (v:α):Nat->α:=fun n=>match Nat.beq n k with
 |true=>v
 |false=>f n
theorem kg {α:Type} (f:Nat->α) (k:Nat) (v:α) (n:Nat):az f k v n=if n=k then v else f n:=by
 unfold az;split
 ·rename_i e;rw[if_pos (Nat.eq_of_beq_eq_true e)]
 ·rename_i e;rw[if_neg (fun h=>by rw[h,Nat.beq_refl] at e;cases e)]
theorem bR {α:Type} (f:Nat->α) (k:Nat) (v:α):az f k v k=v:=by simp[kg]
theorem cN {α:Type} (f:Nat->α) (k n:Nat) (v:α) (h:n≠k):az f k v n=f n:=by simp[kg,h]
def ah.hZ:ah->Nat->Prop
 |.ptr n _ _ _,m=>m=n
 |.sl n _ _ _,m=>m=n
 |.bC n _ _ _ _ _,m=>m=n
 |.db n _ _ _ _ _,m=>m=n
 |.cH _ _ _ n _ _,m=>m=n
 |_,_=>False
def ah.ref:ah->Nat->Prop
 |.fn _ cP,m=>∃x∈cP,x.hZ m
 |x,m=>x.hZ m
def aj.ref:aj->Nat->Prop
 |.one c,m=>c.ref m
 |.agg cs,m=>∃c∈cs,c.ref m
 |.bK xs,m=>∃x∈xs,∃c∈x.2,c.ref m
structure PB where
 nl:Bool
 b:Nat
 o:Nat
 cap:Nat
 px:List (List PC)
 na:Option Addr
instance:Inhabited PB:=⟨⟨false,0,0,0,[],none⟩⟩
def aH:Nat:=1000000
structure Ex where
 e:Nat->Prop
 mT:Nat->Option PB
 lt:∀n p,mT n=some p->aH<=n
 a:Nat->Prop
instance:CoeFun Ex (fun _=>Nat->Prop):=⟨Ex.e⟩
def Ex.no:Ex:=⟨fun _=>False,fun _=>none,fun _ _ h=>(by cases h),fun _=>True⟩
structure Gh where
 Im:Nat->Prop
 g:Nat->PB
def PC.ie:PC->Bool
 |.list ..=>true
 |_=>false
def gE (p:PB) (sz lo len:Nat) (v:Value):Prop:=
 (p.nl=true/\v=.slice p.na 0 p.cap/\lo=0/\len=0)\/
 (p.nl=false/\∃a,v=.slice a len (p.cap - lo)/\lo+len<=p.cap/\((lo<p.cap\/lo=0)->a=some (ad p.b (p.o+lo*sz))))
def il (w:World) (G:Gh) (h:Nat->Option aq):ah->Value->Prop
 |.c x,v=>∃pc:PC,pc.er=x/\pc.val=v/\Good w pc/\∀b,aZ b pc->G.Im b
 |.nil _,v=>v=.slice none 0 0
 |.ptr n k sz off,v=>h n≠none->(G.g n).nl=false/\v=.pointer (some (ad (G.g n).b ((G.g n).o+k*sz+off)))
 |.dg xs off,v=>∃(b o:Nat) (pe:List PC),v=.pointer (some (ad b (o+off)))/\pe.map PC.er=xs/\G.Im b/\
  ∀j c,pe[j]? =some c->w.cell? (ad b (o+j))=some c.val/\Good w c/\∀b',aZ b' c->G.Im b'
 |.sl n sz lo len,v=>h n≠none->gE (G.g n) sz lo len v
 |.bC n k aB off sz len,v=>∀gr xs,h n=some (.row gr .live aB xs)->∃pc,At (G.g n).px k off pc/\pc.val=v/\pc.ie=true
 |.db n k aB off sz i,v=>∀gr xs,h n=some (.row gr .live aB xs)->∃(pc:PC) (b o len cap:Nat),At (G.g n).px k off pc/\pc.val=.slice (some (ad b o)) len cap/\pc.ie=true/\v=.pointer (some (ad b (o+i*sz)))
 |.cH xs off j n sz len,v=>∃(b o:Nat) (pe:List PC),v=.pointer (some (ad b (o+off)))/\pe.map PC.er=xs/\G.Im b/\
  (∀i c,i≠j->pe[i]? =some c->w.cell? (ad b (o+i))=some c.val/\Good w c/\∀b',aZ b' c->G.Im b')/\∃u,w.cell? (ad b (o+j))=some u/\u.oneCell'=true/\(h n≠none->gE (G.g n) sz 0 len u)
 |.fn _ _,_=>False
 |.bq,_=>True
def RC (w:World) (G:Gh) (h:Nat->Option aq):ah->Value->Prop
 |.fn f cP,v=>∃vs:List Value,v=.func (.func f) #[] vs.toArray/\vs.length=cP.length/\∀(j:Nat) (c:ah) (u:Value),cP[j]? =some c->vs[j]? =some u->u.oneCell'=true/\il w G h c u
 |c,v=>il w G h c v
def ah.j4:ah->Bool
 |.fn _ _=>true
 |_=>false
theorem uC (w:World) (G:Gh) (h:Nat->Option aq) (c:ah) (v:Value) (hc:c.j4=false):RC w G h c v=il w G h c v:=by
 cases c<;>first|rfl|(simp[ah.j4] at hc)
theorem ah.adV (c:ah) (m:Nat) (hc:c.j4=false):c.ref m=c.hZ m:=by
 cases c<;>first|rfl|(simp[ah.j4] at hc)
def dj (w:World) (G:Gh) (h:Nat->Option aq) (cs:List ah) (vs:List Value):Prop:=
 vs.length=cs.length/\∀(j:Nat) (c:ah) (u:Value),cs[j]? =some c->vs[j]? =some u->u.oneCell'=true/\RC w G h c u
def RV (w:World) (G:Gh) (h:Nat->Option aq) (ag:Bool) (cs:List ah) (v:Value):Prop:=
 if ag then∃vs:List Value,v=.agg vs.toArray/\dj w G h cs vs else dj w G h cs [v]
def RA (w:World) (G:Gh) (h:Nat->Option aq):aj->Value->Prop
 |.one c,v=>c=.bq\/RV w G h false [c] v
 |.agg cs,v=>RV w G h true cs v
 |.bK xs,v=>∃vs:List Value,v=.tuple vs.toArray/\vs.length=xs.length/\∀(j:Nat) (x:Bool×List ah) (u:Value),xs[j]? =some x->vs[j]? =some u->RV w G h x.1 x.2 u
structure bm (w:World) (G:Gh) (h:Nat->Option aq) (used:Nat->Prop) (w':World) (G':Gh) (h':Nat->Option aq):Prop where
 im:∀b,G.Im b->G'.Im b
 cell:∀b,G.Im b->∀o,w'.cell? (ad b o)=w.cell? (ad b o)
 name:∀n,used n->h' n≠none->h n≠none/\(G'.g n).nl=(G.g n).nl/\(G'.g n).b=(G.g n).b/\(G'.g n).o=(G.g n).o/\(G'.g n).cap=(G.g n).cap/\(G'.g n).na=(G.g n).na
 live:∀n gr sz xs,used n->h' n=some (.row gr .live sz xs)->(∃qJ jv,h n=some (.row qJ .live sz jv))/\
  ∀k j pc,At (G.g n).px k j pc->pc.ie=true->∃dC,At (G'.g n).px k j dC/\dC.val=pc.val/\dC.ie=true
section
variable {w w':World} {G G':Gh} {h h':Nat->Option aq} {used:Nat->Prop}
theorem il.fW (K:bm w G h used w' G' h') {c:ah} {v:Value} (hr:∀m,c.hZ m->used m) (hc:il w G h c v):il w' G' h' c v:=by
 cases c with
 |c x=>
  obtain⟨pc,h1,h2,h3,h4⟩:=hc;exact⟨pc,h1,h2,h3.congr fun b hb o=>K.cell b (h4 b hb) o,fun b hb=>K.im b (h4 b hb)⟩
 |nil sz=>exact hc
 |ptr n k sz off=>
  intro hn;obtain⟨h0,e1,e2,e3,e4,e5⟩:=K.name n (hr n rfl) hn;rw[e1,e2,e3];exact hc h0
 |dg xs off=>
  obtain⟨b,o,pe,h1,h2,h3,h4⟩:=hc;refine⟨b,o,pe,h1,h2,K.im b h3,fun j c hj=>?_⟩;obtain⟨a1,a2,a3⟩:=h4 j c hj;exact⟨(K.cell b h3 _).trans a1,a2.congr fun b' aL o'=>K.cell b' (a3 b' aL) o',fun b' aL=>K.im b' (a3 b' aL)⟩
 |sl n sz lo len=>
  intro hn;obtain⟨h0,e1,e2,e3,e4,e5⟩:=K.name n (hr n rfl) hn;have:=hc h0;unfold gE at*
  rw[e1,e2,e3,e4,e5];exact this
 |bC n k aB off sz len=>
  intro gr xs hn;obtain⟨⟨qJ,jv,h0⟩,hl⟩:=K.live n gr aB xs (hr n rfl) hn;obtain⟨pc,p1,p2,p3⟩:=hc qJ jv h0;obtain⟨dC,q1,q2,q3⟩:=hl k off pc p1 p3;exact⟨dC,q1,q2.trans p2,q3⟩
 |db n k aB off sz i=>
  intro gr xs hn;obtain⟨⟨qJ,jv,h0⟩,hl⟩:=K.live n gr aB xs (hr n rfl) hn;obtain⟨pc,b,o,len,cap,p1,p2,p3,p4⟩:=hc qJ jv h0;obtain⟨dC,q1,q2,q3⟩:=hl k off pc p1 p3;exact⟨dC,b,o,len,cap,q1,q2.trans p2,q3,p4⟩
 |cH xs off j n sz len=>
  obtain⟨b,o,pe,h1,h2,h3,h4,h5⟩:=hc;obtain⟨u,u1,u2,u3⟩:=h5;refine⟨b,o,pe,h1,h2,K.im b h3,fun i c iq hi=>?_,u,(K.cell b h3 _).trans u1,u2,fun hn=>?_⟩
  ·obtain⟨a1,a2,a3⟩:=h4 i c iq hi;exact⟨(K.cell b h3 _).trans a1,a2.congr fun b' aL o'=>K.cell b' (a3 b' aL) o',fun b' aL=>K.im b' (a3 b' aL)⟩
  ·obtain⟨h0,e1,e2,e3,e4,e5⟩:=K.name n (hr n rfl) hn;have:=u3 h0;unfold gE at*
   rw[e1,e2,e3,e4,e5];exact this
 |fn f cP=>exact hc
 |bq=>trivial
theorem RC.fW (K:bm w G h used w' G' h') {c:ah} {v:Value} (hr:∀m,c.ref m->used m) (hc:RC w G h c v):RC w' G' h' c v:=by
 by_cases hf:c.j4=false
 ·rw[uC _ _ _ _ _ hf] at*
  exact hc.fW K fun m hm=>hr m (by rw[ah.adV c m hf];exact hm)
 ·cases c<;>first|(simp[ah.j4] at hf;done)|skip
  obtain⟨vs,h1,h2,h3⟩:=hc;exact⟨vs,h1,h2,fun j c u hj hu=>⟨(h3 j c u hj hu).1,(h3 j c u hj hu).2.fW K fun m hm=>hr m ⟨c,List.mem_of_getElem? hj,hm⟩⟩⟩
theorem dj.fW (K:bm w G h used w' G' h') {cs:List ah} {vs:List Value} (hr:∀c∈cs,∀m,c.ref m->used m) (hc:dj w G h cs vs):dj w' G' h' cs vs:=
 ⟨hc.1,fun j c u hj hu=>⟨(hc.2 j c u hj hu).1,(hc.2 j c u hj hu).2.fW K (hr c (List.mem_of_getElem? hj))⟩⟩
theorem RV.fW (K:bm w G h used w' G' h') {ag:Bool} {cs:List ah} {v:Value} (hr:∀c∈cs,∀m,c.ref m->used m) (hc:RV w G h ag cs v):RV w' G' h' ag cs v:=by
 unfold RV at*
 split
 ·rename_i h1;simp only[h1,if_true] at hc;obtain⟨vs,e,hv⟩:=hc;exact⟨vs,e,hv.fW K hr⟩
 ·rename_i h1;simp only[h1] at hc;exact dj.fW K hr hc
theorem RA.fW (K:bm w G h used w' G' h') {x:aj} {v:Value} (hr:∀m,x.ref m->used m) (hc:RA w G h x v):RA w' G' h' x v:=by
 cases x with
 |one c=>exact hc.imp id fun hv=>hv.fW K fun c' dt m hm=>hr m (by simp at dt;subst dt;exact hm)
 |agg cs=>exact RV.fW K (fun c' dt m hm=>hr m ⟨c',dt,hm⟩) hc
 |bK xs=>
  obtain⟨vs,e,hl,hv⟩:=hc;exact⟨vs,e,hl,fun j x u hj hu=>(hv j x u hj hu).fW K fun c' dt m hm=>hr m ⟨x,List.mem_of_getElem? hj,c',dt,hm⟩⟩
end
def FT (w:World) (p:PB) (sz:Nat):Prop:=p.cap<=maxLen/\∃cur e,w.heap[p.b]? =some (.cells cur e (0,0))/\cur.size=p.o+p.cap*sz
def CN (B:Nat) (E:Ex) (w:World) (G:Gh) (px:List (List PC)):Mode->Prop
 |.aJ=>∀b,bh b px->G.Im b
 |.aN=>(∀b,bh b px->G.Im b/\d9 w b/\(B<=b\/E b))/\iO px
 |.live=>(∀b,bh b px->¬G.Im b/\d9 w b/\(B<=b\/E b))/\iO px
def pI (w:World):PC->Prop
 |.list sz a cap xs=>cap=0\/(xs≠[]/\cap<=maxLen/\∃b o cur e,a=some (ad b o)/\w.heap[b]? =some (.cells cur e (0,0))/\cur.size=o+cap*sz)
 |_=>True
def pJ (w:World) (sz:Nat) (px:List (List PC)):Prop:=∀k pc,At px k (sz - 1) pc->pI w pc
theorem pI.cz {w w':World} {pc:PC} (h:pI w pc) (hb:∀b,aZ b pc->∀arr e,w.heap[b]? =some (.cells arr e (0,0))->∃uG,w'.heap[b]? =some (.cells uG e (0,0))/\uG.size=arr.size):pI w' pc:=by
 cases pc with
 |int k n=>trivial
 |bool b=>trivial
 |list sz a cap xs=>
  rcases h with h|⟨h1,h2,b,o,cur,e,rfl,h4,h5⟩
  ·exact .inl h
  ·obtain⟨uG,q1,q2⟩:=hb b (.here _ _ _ _ h1) cur e h4;exact .inr ⟨h1,h2,b,o,uG,e,rfl,q1,by rw[q2];exact h5⟩
theorem pJ.congr {w w':World} {sz:Nat} {px:List (List PC)} (h:pJ w sz px) (hb:∀b,bh b px->w'.heap[b]? =w.heap[b]?):pJ w' sz px:=
 fun k pc hk=>(h k pc hk).cz fun b aL arr e he=>⟨arr,(hb b ⟨k,_,pc,hk,aL⟩).trans he,rfl⟩
theorem pJ.cz {w w':World} {sz:Nat} {px:List (List PC)} (h:pJ w sz px) (hb:∀b,bh b px->∀arr e,w.heap[b]? =some (.cells arr e (0,0))->∃uG,w'.heap[b]? =some (.cells uG e (0,0))/\uG.size=arr.size):pJ w' sz px:=
 fun k pc hk=>(h k pc hk).cz fun b aL=>hb b ⟨k,_,pc,hk,aL⟩
structure uE (B:Nat) (E:Ex) (w:World) (G:Gh) (gr:Bool) (m:Mode) (sz:Nat) (xs:List (List C)) (p:PB):Prop where
 pos:0<sz
 er:xs=p.px.map (fun e=>e.map PC.er)
 nl:p.nl=true->p.px=[]/\(gr=true->p.cap=0)
 eK:p.nl=false->d9 w p.b/\nG w p.b p.o sz p.px/\p.px.length<=p.cap
 room:p.nl=false->gr=true->FT w p sz
 mode:CN B E w G p.px m
 nr:gr=true->m=.live->pJ w sz p.px
structure HR (B:Nat) (E:Ex) (w:World) (G:Gh) (h:Nat->Option aq) (used:Nat->Bool) (tk:List PC):Prop where
 jh:∀n,h n≠none->used n=true
 ik:∀m cs c n,h m=some (.box cs)->c∈cs->c.ref n->used n=true
 box:∀n cs,h n=some (.box cs)->(G.g n).nl=false/\d9 w (G.g n).b/\
  ∀(j:Nat) (c:ah),cs[j]? =some c->∃v,w.cell? (ad (G.g n).b ((G.g n).o+j))=some v/\v.oneCell'=true/\RC w G h c v
 row:∀n gr m sz xs,h n=some (.row gr m sz xs)->uE B E w G gr m sz xs (G.g n)
 own:∀n,h n≠none->(G.g n).nl=false->¬G.Im (G.g n).b/\(B<=(G.g n).b\/E (G.g n).b)/\(G.g n).b<w.heap.size
 inj:∀n n',h n≠none->h n'≠none->n≠n'->(G.g n).nl=false->(G.g n').nl=false->(G.g n).b≠(G.g n').b
 gH:∀b,G.Im b->b<w.heap.size
 pU:∀b,G.Im b->B<=b\/E b\/E.a b
 gv:∀n n' gr m sz xs bo m' aF av,h n=some (.row gr m sz xs)->h n'=some (.row bo m' aF av)->m≠ .aJ->m'≠ .aJ->n≠n'->
  ∀b,bh b (G.g n).px->¬bh b (G.g n').px
 live:∀n gr sz xs,h n=some (.row gr .live sz xs)->∀b,bh b (G.g n).px->∀n',h n'≠none->(G.g n').nl=false->b≠(G.g n').b
 ta:∀(i:Nat) (pc:PC),tk[i]? =some pc->Sep pc/\∀b,aZ b pc->G.Im b/\d9 w b/\(B<=b\/E b)
 xU:∀(i j:Nat) (pc dC:PC) (b:Nat),i≠j->tk[i]? =some pc->tk[j]? =some dC->aZ b pc->¬aZ b dC
 tc:∀(i:Nat) (pc:PC) (n:Nat) (gr:Bool) (m:Mode) (sz:Nat) (xs:List (List C)) (b:Nat),tk[i]? =some pc->h n=some (.row gr m sz xs)->m≠ .aJ->aZ b pc->¬bh b (G.g n).px
def Cz (w w':World) (b:Nat):Prop:=∀arr e,w.heap[b]? =some (.cells arr e (0,0))->∃uG,w'.heap[b]? =some (.cells uG e (0,0))/\uG.size=arr.size
theorem Cz.refl (w:World) (b:Nat):Cz w w b:=fun arr _ h=>⟨arr,h,rfl⟩
theorem Cz.of_eq {w w':World} {b:Nat} (h:w'.heap[b]? =w.heap[b]?):Cz w w' b:=fun arr _ h1=>⟨arr,h.trans h1,rfl⟩
theorem Cz.trans {w w1 w2:World} {b:Nat} (h1:Cz w w1 b) (h2:Cz w1 w2 b):Cz w w2 b:=fun arr e h=>by
 obtain⟨a1,e1,s1⟩:=h1 arr e h;obtain⟨a2,e2,s2⟩:=h2 a1 e e1;exact⟨a2,e2,s2.trans s1⟩
theorem Cz.jO {w w':World} {b:Nat} (h:Cz w w' b) (hu:d9 w b):d9 w' b:=by
 obtain⟨arr,e,hu⟩:=hu;obtain⟨a,e1,_⟩:=h arr e hu;exact⟨a,e,e1⟩
structure Fr (B:Nat) (E:Ex) (w0 w:World):Prop where
 os:w.os=w0.os
 tape:w.tape=w0.tape
 output:w.output=w0.output
 size:B<=w.heap.size
 block:∀b,b<B->¬E b->w.heap[b]? =w0.heap[b]?
 jO:∀b,b<B->Cz w0 w b
def ahl (p q:PB) (b:aq):Prop:=
 q.nl=p.nl/\q.b=p.b/\q.o=p.o/\q.cap=p.cap/\q.na=p.na/\
  ∀gr sz xs,b=.row gr .live sz xs->∀k j pc,At p.px k j pc->pc.ie=true->∃dC,At q.px k j dC/\dC.val=pc.val/\dC.ie=true
structure R (B:Nat) (E:Ex) (w0:World) (N:Nat) (σ:St) (a:Act) (w:World) (G:Gh):Prop where
 defers:a.defers=[]
 size:a.tmps.size=N
 env:∀s,RA w G σ.h (σ.env s) (a.tmps.getD s undef)
 pC:∀s n,(σ.env s).ref n->σ.used n=true
 hr:HR B E w G σ.h σ.used []
 fr:Fr B E w0 w
 mT:∀n p b,E.mT n=some p->σ.h n=some b->ahl p (G.g n) b
 vL:∀n,aH<=n->σ.used n=true
inductive MO where
 |t (n:Nat)
 |k (v:aj)
inductive aT where
 |mv (x:MO)
 |pick (c x y:MO)
 |alloc (zs:List ah)
 |box (sz:Nat) (x:MO)
 |build (zs:List ah) (parts:List (Nat×Nat×MO))
 |fI (sz:Nat) (parts:List MO)
 |load (ag:Bool) (sz:Nat) (x:MO)
 |rj (ag:Bool) (sz:Nat) (x:MO)
 |store (sz:Nat) (x v:MO)
 |qi (x:MO)
 |bin (op:BinOp) (x y:MO)
 |nI (op:BinOp) (x y:MO)
 |un (op:UnOp) (x:MO)
 |conv (k:IntKind) (x:MO)
 |iK (m:Mode) (sz by_:Nat) (zs:List C) (l c:MO)
 |slice (sz:Nat) (x:MO) (lo hi:Option MO)
 |tail (sz:Nat) (x lo:MO)
 |nP (off:Nat) (x:MO)
 |nw (sz:Nat) (x i:MO)
 |ext (i:Nat) (x:MO)
 |sb (ag:Bool) (off sz:Nat) (x:MO)
 |rC (f:FuncId) (gu:Bool) (x:MO)
 |len (x:MO)
 |append (fl:Bool) (sz by_:Nat) (x y:MO)
 |copy (sz:Nat) (x y:MO)
 |mG (z:C) (x:MO)
 |mm (mx:Bool) (x y:MO)
 |call (m:Mode) (f:FuncId) (xs:List MO)
 |oK (f:FuncId) (xs:List MO)
 |sM (f:FuncId) (xs:List MO)
 |oL (m:Mode) (x:MO) (xs:List MO)
 |gU (m:Mode) (f:FuncId) (xs:List MO)
 |km (f:FuncId) (xs:List MO)
 |m6 (f:FuncId) (xs:List MO)
 |m5 (f:FuncId) (xs:List MO)
 |nJ (m:Mode) (f:FuncId) (xs:List MO)
 |pM (m:Mode) (f:FuncId) (x:MO) (xs:List MO)
structure bQ where
 dst:Option Nat
 op:aT
 guard:Option (Nat×Bool)
structure qy where
 ia:Nat
 sz:Nat
 by_:Nat
 mx:MO
 ml:MO
 my:MO
 d:Nat
inductive FE where
 |wj (sz:Nat) (p:MO)
 |wk (p:MO) (s:Nat)
 |pop (x lo:MO) (s:Nat)
 |yt (f:FuncId) (xs:List MO)
inductive FD where
 |op (m:bQ)
 |qD (d:Nat) (c:FE)
inductive jS where
 |skip
 |gT (lV:Bool) (ops:List bQ)
 |ub (ps:List (Nat×Nat)) (ops:List bQ)
 |vM (its:List FD)
 |sS (lV:Bool) (ps:List (Nat×Nat)) (ops:List bQ) (sp:qy)
 |seq (a b:jS)
 |cond (c:MO) (a b:jS)
 |block (id:Nat) (c:jS)
 |join (ke kh:List Nat) (cn:List (Bool×Nat×Nat×Nat×Mode)) (c:jS)
 |loop (id:Nat) (ke kh:List Nat) (cn:List (Bool×Nat×Nat×Nat×Mode)) (c:jS)
 |exit (id:Nat)
 |ret
inductive K where
 |one|agg|ptr
 deriving DecidableEq
abbrev Dv:=K×List C
abbrev aK:=List (List (Option Mode))
structure aQ where
 pure:List (FuncId×(List Dv->Option (List Dv)))
 vH:List (FuncId×aK×(List Dv->Option (List Dv×List C)))
 vs:List (FuncId×(List Dv->Option (List Dv×List C)))
 ws:List (FuncId×aK×(List Dv->Option (Nat×Nat)))
 xs:List (FuncId×Nat×(List Dv->Option (List Dv×List C)))
 ns:List (FuncId×(List Dv->Option (List Dv)))
def aQ.nQ:List (FuncId×aK×(List Dv->Option (List Dv×List C)))->FuncId->Option (aK×(List Dv->Option (List Dv×List C)))
 |[],_=>none
 |(g,M)::l,f=>if f=g then some M else aQ.nQ l f
def aQ.tB:List (FuncId×aK×(List Dv->Option (Nat×Nat)))->FuncId->Option (aK×(List Dv->Option (Nat×Nat)))
 |[],_=>none
 |(g,M)::l,f=>if f=g then some M else aQ.tB l f
def aQ.tC:List (FuncId×Nat×(List Dv->Option (List Dv×List C)))->FuncId->Option (Nat×(List Dv->Option (List Dv×List C)))
 |[],_=>none
 |(g,M)::l,f=>if f=g then some M else aQ.tC l f
def aQ.lZ:List (FuncId×(List Dv->Option (List Dv×List C)))->FuncId->Option (List Dv->Option (List Dv×List C))
 |[],_=>none
 |(g,M)::l,f=>if f=g then some M else aQ.lZ l f
def aQ.find:List (FuncId×(List Dv->Option (List Dv)))->FuncId->Option (List Dv->Option (List Dv))
 |[],_=>none
 |(g,M)::l,f=>if f=g then some M else aQ.find l f
inductive tj where
 |fq (σ:St)
 |ext (id:Nat) (σ:St)
 |ret (σ:St)
def St.ev (σ:St):MO->aj
 |.t n=>σ.env n
 |.k v=>v
def St.put (σ:St) (d:Option Nat) (v:aj):St:=
 match d with
 |some n=>{σ with env:=az σ.env n v}
 |none=>σ
def St.ins (σ:St) (n:Nat) (b:aq):Option St:=
 if σ.used n=true then none else some {σ with h:=az σ.h n (some b),used:=az σ.used n true}
def St.eE (σ:St) (n:Nat) (b:aq):St:={σ with h:=az σ.h n (some b)}
def St.del (σ:St) (n:Nat):St:={σ with h:=az σ.h n none}
def aj.cells?:aj->Option (Bool×List ah)
 |.one .bq=>none
 |.one c=>some (false,[c])
 |.agg cs=>some (true,cs)
 |.bK _=>none
def oD:Bool->List ah->aj
 |true,cs=>.agg cs
 |false,[c]=>.one c
 |false,_=>.one .bq
def sub {α:Type} (l:List α) (off sz:Nat):Option (List α):=if off+sz<=l.length then some ((l.drop off).take sz) else none
def dq {α:Type} (l:List α) (off:Nat) (vs:List α):List α:=l.take off++vs++l.drop (off+vs.length)
def C.fk:C->Bool
 |.list ..=>false
 |_=>true
def fG (l:List C):Bool:=l.all C.fk
def eP (l:List (List C)):Bool:=l.all fG
def iJ (n k rs:Nat):Nat->List C->List ah
 |_,[]=>[]
 |off,.list sz ys::l=>.bC n k rs off sz ys.length::iJ n k rs (off+1) l
 |off,x::l=>.c x::iJ n k rs (off+1) l
def loadAt (h:Nat->Option aq) (p:ah) (sz:Nat):Option (List ah):=
 match p with
 |.ptr n k aB off=>
  match h n with
  |some (.box cs)=>if k=0 then sub cs off sz else none
  |some (.row _ m rs xs)=>
   if aB=rs then
    match xs[k]? with
    |some e=>match sub e off sz with
     |some l=>some (if m=.live then iJ n k rs off l else l.map .c)
     |none=>none
    |none=>none
   else none
  |none=>none
 |.dg xs off=>(sub xs off sz).map (·.map .c)
 |.cH xs off j n s len=>if off=j/\sz=1 then some [.sl n s 0 len] else if off+sz<=j then(sub xs off sz).map (·.map .c) else none
 |.db n k aB off s i=>
  match h n with
  |some (.row _ .live rs xs)=>if rs=aB then
   match(xs[k]?).bind (·[off]?) with
   |some (.list s' ys)=>if s'=s/\sz=s then
    match ys[i]? with
    |some e=>if fG e=true then some (e.map .c) else none
    |none=>none
    else none
   |_=>none
   else none
  |_=>none
 |_=>none
def cO (h:Nat->Option aq):ah->Option C
 |.c x=>some x
 |.nil sz=>if 0<sz then some (.list sz []) else none
 |.sl n sz lo len=>
  match h n with
  |some (.row _ _ rs xs)=>if rs=sz/\lo+len<=xs.length then some (.list sz ((xs.drop lo).take len)) else none
  |_=>none
 |.bC n k aB off sz len=>
  match h n with
  |some (.row _ .live rs xs)=>if rs=aB then(xs[k]?).bind (·[off]?) else none
  |_=>none
 |_=>none
def iN (h:Nat->Option aq):List ah->Option (List C)
 |[]=>some []
 |c::cs=>match cO h c,iN h cs with
  |some x,some xs=>some (x::xs)
  |_,_=>none
def je (h:Nat->Option aq):aj->Option Dv
 |.one (.ptr n k sz off)=>
  match h n with
  |some (.box cs)=>if k=0/\off=0 then(iN h cs).map fun l=>(.ptr,l) else none
  |_=>none
 |.one (.dg xs off)=>if off=0 then some (.ptr,xs) else none
 |.one c=>(cO h c).map fun x=>(.one,[x])
 |.agg cs=>(iN h cs).map fun l=>(.agg,l)
 |.bK _=>none
def lm (h:Nat->Option aq):List aj->Option (List Dv)
 |[]=>some []
 |c::cs=>match je h c,lm h cs with
  |some x,some xs=>some (x::xs)
  |_,_=>none
def St.fY (σ:St):ah->Option (C×Bool×St)
 |.c x=>some (x,x.fk,σ)
 |.nil sz=>if 0<sz then some (.list sz [],true,σ) else none
 |.sl n sz lo len=>
  match σ.h n with
  |some (.row _ m rs xs)=>if rs=sz/\lo=0/\len<=xs.length then some (.list sz (xs.take len),decide (m≠ .aJ),σ.del n) else none
  |_=>none
 |_=>none
def St.gC (σ:St):List ah->Option (List C×Bool×St)
 |[]=>some ([],true,σ)
 |c::cs=>match σ.fY c with
  |some (x,o,σ1)=>match σ1.gC cs with
   |some (xs,o',σ2)=>some (x::xs,o&&o',σ2)
   |none=>none
  |none=>none
def St.uT (σ:St):ah->Option St
 |.ptr n _ _ _=>match σ.h n with
  |some (.box cs)=>match σ.gC cs with
   |some (xs,_,σ1)=>some (σ1.eE n (.box (xs.map .c)))
   |none=>none
  |_=>none
 |_=>none
def St.mV (sz:Nat) (σ:St):List aj->Option (List (List C)×Bool×St)
 |[]=>some ([],true,σ)
 |v::vs=>match v.cells? with
  |some (_,cs)=>if cs.length=sz then
   match σ.gC cs with
   |some (e,o,σ1)=>match σ1.mV sz vs with
    |some (es,o',σ2)=>some (e::es,o&&o',σ2)
    |none=>none
   |none=>none
   else none
  |none=>none
def Mode.t7:Mode->Bool
 |.live=>false
 |_=>true
def St.imp (m:Mode) (σ:St):Nat->List C->Option (List ah×Nat×St)
 |nm,[]=>some ([],nm,σ)
 |nm,.list sz xs::cs=>match σ.ins nm (.row m.t7 m sz xs) with
  |some σ1=>match σ1.imp m (nm+1) cs with
   |some (l,gy,σ2)=>some (.sl nm sz 0 xs.length::l,gy,σ2)
   |none=>none
  |none=>none
 |nm,x::cs=>match σ.imp m nm cs with
  |some (l,gy,σ2)=>some (.c x::l,gy,σ2)
  |none=>none
def St.jG (m:Mode) (σ:St):Nat->List Dv->Option (List (Bool×List ah)×St)
 |_,[]=>some ([],σ)
 |nm,(.ptr,_)::_=>none
 |nm,(k,cs)::ds=>match σ.imp m nm cs with
  |some (l,gy,σ1)=>match σ1.jG m gy ds with
   |some (ls,σ2)=>some ((decide (k=.agg),l)::ls,σ2)
   |none=>none
  |none=>none
def mr:List (Bool×List ah)->aj
 |[(ag,cs)]=>oD ag cs
 |l=>.bK l
def jJ (d:Option Nat):Nat:=match d with|some n=>1000*(n+1)|none=>999
def kt:List Dv->Option (List (Bool×List ah))
 |[]=>some []
 |(.ptr,_)::_=>none
 |(k,cs)::ds=>match kt ds with
  |some ls=>some ((decide (k=.agg),cs.map .c)::ls)
  |none=>none
def C7 (T:aQ) (f:FuncId) (as:List aj) (h:Nat->Option aq):Option aj:=
 match lm h as with
 |some ds=>match aQ.find T.pure f with
  |some M=>match M ds with
   |some rs=>match kt rs with
    |some ls=>some (mr ls)
    |none=>none
   |none=>none
  |none=>none
 |none=>none
def wz (T:aQ) (m:Mode) (d:Option Nat) (f:FuncId) (as:List aj) (σ:St):Option St:=
 match lm σ.h as with
 |some ds=>match aQ.find T.pure f with
  |some M=>match M ds with
   |some rs=>match σ.jG m (jJ d) rs with
    |some (ls,σ1)=>some (σ1.put d (mr ls))
    |none=>none
   |none=>none
  |none=>none
 |none=>none
def pV:ah->Option C
 |.c x=>some x
 |.nil sz=>if 0<sz then some (.list sz []) else none
 |_=>none
def kR:List ah->Option (List C)
 |[]=>some []
 |c::cs=>match pV c,kR cs with
  |some x,some xs=>some (x::xs)
  |_,_=>none
def m4 (h:Nat->Option aq):aj->Option (Nat×List C)
 |.one (.ptr n k _ off)=>if k=0/\off=0 then match h n with
  |some (.box cs)=>match kR cs with
   |some xs=>some (n,xs)
   |none=>none
  |_=>none
  else none
 |_=>none
def St.iQ (σ:St):List aj->Option (List Dv×List Nat×St)
 |[]=>some ([],[],σ)
 |v::vs=>match m4 σ.h v with
  |some (n,xs)=>match σ.iQ vs with
   |some (ds,ns,σ1)=>some ((.ptr,xs)::ds,n::ns,σ1)
   |none=>none
  |none=>match v.cells? with
   |some (ag,cs)=>match σ.gC cs with
    |some (xs,_,σ1)=>match σ1.iQ vs with
     |some (ds,ns,σ2)=>some ((if ag=true then .agg else .one,xs)::ds,ns,σ2)
     |none=>none
    |none=>none
   |none=>none
def St.sP (σ:St):List Nat->List C->Option St
 |[],[]=>some σ
 |[n],out=>match σ.h n with
  |some (.box cs)=>if cs.length=out.length then some (σ.eE n (.box (out.map .c))) else none
  |_=>none
 |_,_=>none
def rT (σ:St) (d:Option Nat):List Dv->Option St
 |[(.ptr,cs)]=>match d with
  |some q=>match σ.ins q (.box (cs.map .c)) with
   |some σ1=>some (σ1.put d (.one (.ptr q 0 0 0)))
   |none=>none
  |none=>none
 |rs=>match kt rs with
  |some ls=>some (σ.put d (mr ls))
  |none=>none
def rY (T:aQ) (d:Option Nat) (f:FuncId) (as:List aj) (σ:St):Option St:=
 match σ.iQ as,aQ.lZ T.vs f with
 |some (ds,ns,σ1),some M=>match M ds with
  |some (rs,out)=>match σ1.sP ns out with
   |some σ2=>rT σ2 d rs
   |none=>none
  |none=>none
 |_,_=>none
def BM:List aj->Option (List Dv)
 |[]=>some []
 |v::vs=>match v.cells? with
  |some (ag,cs)=>match kR cs with
   |some xs=>match BM vs with
    |some ds=>some ((if ag=true then .agg else .one,xs)::ds)
    |none=>none
   |none=>none
  |none=>none
def Au (T:aQ) (f:FuncId) (as:List aj):Option aj:=
 match BM as,aQ.lZ T.vs f with
 |some ds,some M=>match M ds with
  |some (rs,[])=>match kt rs with
   |some ls=>some (mr ls)
   |none=>none
  |_=>none
 |_,_=>none
theorem al1 {c:ah} {x:C} (h:pV c=some x) (σ:St):∃o,σ.fY c=some (x,o,σ):=by
 cases c with
 |c y=>simp only[pV] at h;injection h with h;subst h;exact⟨_,rfl⟩
 |nil sz=>
  simp only[pV] at h;split at h
  ·rename_i hp;injection h with h;subst h;exact⟨_,if_pos hp⟩
  ·cases h
 |_=>simp[pV] at h
theorem aaP:∀{cs:List ah} {xs:List C},kR cs=some xs->∀σ:St,∃o,σ.gC cs=some (xs,o,σ)
 |[],xs,h,σ=>by simp only[kR] at h;injection h with h;subst h;exact⟨_,rfl⟩
 |c::cs,xs,h,σ=>by
  simp only[kR] at h;split at h
  ·rename_i x av e1 e2;injection h with h;subst h;obtain⟨o1,h1⟩:=al1 e1 σ;obtain⟨o2,h2⟩:=aaP e2 σ;exact⟨o1&&o2,by simp only[St.gC,h1,h2]⟩
  ·cases h
theorem adJ:∀{as:List aj} {ds:List Dv},BM as=some ds->∀σ:St,σ.iQ as=some (ds,[],σ)
 |[],ds,h,σ=>by simp only[BM] at h;injection h with h;subst h;rfl
 |v::vs,ds,h,σ=>by
  simp only[BM] at h;split at h
  ·rename_i ag cs hc;split at h
   ·rename_i xs hi;split at h
    ·rename_i uP hq;injection h with h;subst h;have hp:m4 σ.h v=none:=by
      unfold m4;split
      ·simp only[aj.cells?] at hc;injection hc with hc;injection hc with _ hc;subst hc;simp[kR,pV] at hi
      ·rfl
     obtain⟨o,ht⟩:=aaP hi σ;simp only[St.iQ,hp,hc,ht,adJ hq σ]
    ·cases h
   ·cases h
  ·cases h
theorem aiy {T:aQ} {d:Option Nat} {f:FuncId} {as:List aj} {v:aj} (h:Au T f as=some v) (σ:St):rY T d f as σ=some (σ.put d v):=by
 unfold Au at h;split at h
 ·rename_i ds M hq hM;split at h
  ·rename_i rs sd;split at h
   ·rename_i ls hl;injection h with h;subst h;simp only[rY,adJ hq σ,hM,sd,St.sP];unfold rT;split
    ·simp[kt] at hl
    ·rw[hl]
   ·cases h
  ·cases h
 ·cases h
def C.uO:C->Bool
 |.list _ xs=>eP xs
 |_=>true
def C.sD:C->Bool
 |.list ..=>true
 |_=>false
def uR:Mode->List (List C)->Bool
 |.aN,xs=>eP xs
 |.live,xs=>xs.all fun e=>e.all C.uO
 |.aJ,_=>false
inductive dD where
 |nil (sz:Nat)
 |row (n:Nat)
 |nest (n k off:Nat)
def t6 (h:Nat->Option aq) (md:Mode):ah->Option (dD×C)
 |.nil sz=>if 0<sz/\md≠ .aJ then some (.nil sz,.list sz []) else none
 |.sl n sz lo len=>match h n with
  |some (.row gr m rs xs)=>if m≠ .aJ/\(md=.live->m=.live)/\rs=sz/\lo=0/\len=xs.length/\uR md xs=true/\(m=.live->gr=false) then some (.row n,.list sz xs) else none
  |_=>none
 |.bC n k aB off sz len=>match h n with
  |some (.row false .live rs xs)=>if rs=aB/\md=.aN then
   match(xs[k]?).bind (·[off]?) with
   |some (.list s ys)=>if eP ys=true then some (.nest n k off,.list s ys) else none
   |_=>none
   else none
  |_=>none
 |_=>none
def dD.eV:dD->Option Nat
 |.nil _=>none
 |.row n=>some n
 |.nest n _ _=>some n
def ah.eV:ah->Option Nat
 |.sl n _ _ _=>some n
 |.bC n _ _ _ _ _=>some n
 |_=>none
def nB:List (Option Mode)->List ah->List Nat
 |some _::fs,c::cs=>c.eV.toList++nB fs cs
 |none::fs,_::cs=>nB fs cs
 |_,_=>[]
def j7 (h h0:Nat->Option aq):List (Option Mode)->List ah->Option (List C×List (dD×Mode))
 |[],cs=>match iN h0 cs with
  |some xs=>some (xs,[])
  |none=>none
 |none::fs,c::cs=>match cO h0 c,j7 h h0 fs cs with
  |some x,some (xs,its)=>some (x::xs,its)
  |_,_=>none
 |some md::fs,c::cs=>match t6 h md c,j7 h h0 fs cs with
  |some (it,x),some (xs,its)=>some (x::xs,(it,md)::its)
  |_,_=>none
 |_::_,[]=>none
def ph:aK->List (Bool×List ah)->List Nat
 |s::sig,a::as=>nB s a.2++ph sig as
 |_,_=>[]
def aK.hd:aK->List (Option Mode)
 |[]=>[]
 |s::_=>s
def aK.tl:aK->aK
 |[]=>[]
 |_::sig=>sig
def mS (h h0:Nat->Option aq):aK->List (Bool×List ah)->Option (List Dv×List (dD×Mode))
 |_,[]=>some ([],[])
 |sig,(ag,cs)::as=>match j7 h h0 (aK.hd sig) cs,mS h h0 (aK.tl sig) as with
  |some (xs,its),some (ds,pY)=>some ((if ag=true then(.agg,xs) else(.one,xs))::ds,its++pY)
  |_,_=>none
def rk:List aj->Option (List (Bool×List ah))
 |[]=>some []
 |v::vs=>match v.cells?,rk vs with
  |some x,some xs=>some (x::xs)
  |_,_=>none
def dM (h:Nat->Option aq) (ns:List Nat):Nat->Option aq:=fun n=>if ns.contains n=true then none else h n
def St.pk (σ:St):dD->C->Option St
 |.nil _,_=>some σ
 |.row n,.list sz xs=>match σ.h n with
  |some (.row gr m rs _)=>if rs=sz then some (σ.eE n (.row gr m rs xs)) else none
  |_=>none
 |.nest n k off,x=>match σ.h n with
  |some (.row gr m rs xs)=>match xs[k]? with
   |some e=>some (σ.eE n (.row gr m rs (xs.set k (e.set off x))))
   |none=>none
  |_=>none
 |_,_=>none
def St.oy (σ:St):List (dD×Mode)->List C->Option St
 |[],[]=>some σ
 |it::its,x::xs=>match σ.pk it.1 x with
  |some σ1=>σ1.oy its xs
  |none=>none
 |_,_=>none
def rZ (T:aQ) (m:Mode) (d:Option Nat) (f:FuncId) (as:List aj) (σ:St):Option St:=
 match aQ.nQ T.vH f,rk as with
 |some (sig,M),some dc=>
  if(ph sig dc).Nodup then
   match mS σ.h (dM σ.h (ph sig dc)) sig dc with
   |some (ds,its)=>match M ds with
    |some (rs,d7)=>match σ.oy its d7 with
     |some σ1=>match σ1.jG m (jJ d) rs with
      |some (ls,σ2)=>some (σ2.put d (mr ls))
      |none=>none
     |none=>none
    |none=>none
   |none=>none
  else none
 |_,_=>none
def TR (s:List (Option Mode)) (n:Nat):Bool:=decide (s=[]\/(0<n/\s=List.replicate (n - 1) none++[some .aN]))
def zw (h:Nat->Option aq) (s:List (Option Mode)):aj->Option (K×List ah)
 |.one (.ptr n k _ off)=>match h n with
  |some (.box cs)=>if k=0/\off=0/\TR s cs.length=true then some (.ptr,cs) else none
  |_=>none
 |v=>match v.cells? with
  |some (ag,cs)=>some (if ag=true then .agg else .one,cs)
  |none=>none
def zx (h:Nat->Option aq):aK->List aj->Option (List (K×List ah))
 |_,[]=>some []
 |sig,v::vs=>match zw h (aK.hd sig) v,zx h (aK.tl sig) vs with
  |some x,some xs=>some (x::xs)
  |_,_=>none
def zA:aK->List (K×List ah)->List Nat
 |s::sig,a::as=>nB s a.2++zA sig as
 |_,_=>[]
def sR (h h0:Nat->Option aq):aK->List (K×List ah)->Option (List Dv×List (dD×Mode))
 |_,[]=>some ([],[])
 |sig,(k,cs)::as=>match j7 h h0 (aK.hd sig) cs,sR h h0 (aK.tl sig) as with
  |some (xs,its),some (ds,pY)=>some ((k,xs)::ds,its++pY)
  |_,_=>none
def wA (T:aQ) (m:Mode) (d:Option Nat) (f:FuncId) (as:List aj) (σ:St):Option St:=
 match aQ.nQ T.vH f with
 |some (sig,M)=>match zx σ.h sig as with
  |some dc=>if(zA sig dc).Nodup then
   match sR σ.h (dM σ.h (zA sig dc)) sig dc with
   |some (ds,its)=>match M ds with
    |some (rs,d7)=>match σ.oy its d7 with
     |some σ1=>match σ1.jG m (jJ d) rs with
      |some (ls,σ2)=>some (σ2.put d (mr ls))
      |none=>none
     |none=>none
    |none=>none
   |none=>none
   else none
  |none=>none
 |none=>none
def zY:Nat->aK
 |0=>[[some .aN]]
 |i+1=>[]::zY i
def dI (n:Nat):Dv:=(.one,[.int .i64 (n:Int)])
def xM (i lo hi:Nat) (M:List Dv->Option (List Dv×List C)) (ds:List Dv):Option (List Dv×List C):=
 match ds[i]? with
 |some (.one,[.list 1 _])=>M (dI lo::dI hi::ds)
 |_=>none
def Fy (h:Nat->Option aq):aj->Option (Nat×Nat×Nat×Nat)
 |.one (.sl n s lo len)=>match h n with
  |some (.row _ _ rs xs)=>if s=1/\rs=1/\lo<xs.length/\lo+len<=xs.length then some (n,lo,len,xs.length) else none
  |_=>none
 |_=>none
def wB (T:aQ) (m:Mode) (d:Option Nat) (f:FuncId) (as:List aj) (σ:St):Option St:=
 match aQ.tC T.xs f with
 |some (i,M)=>match as[i]? with
  |some a=>match Fy σ.h a with
   |some (n,lo,len,N)=>rZ {T with vH:=[(f,zY i,xM i lo (lo+len) M)]} m d f (as.set i (.one (.sl n 1 0 N))) σ
   |none=>none
  |none=>none
 |none=>none
def qE (T:aQ) (f:FuncId) (as:List aj) (h:Nat->Option aq):Option aj:=
 match aQ.tB T.ws f,rk as with
 |some (sig,M),some dc=>
  match ph sig dc with
  |[n]=>match mS h (dM h [n]) sig dc with
   |some (ds,[(.row n',_)])=>if n'=n then match h n,M ds with
    |some (.row _ _ sz _),some (lo,len)=>some (.one (.sl n sz lo len))
    |_,_=>none
    else none
   |_=>none
  |_=>none
 |_,_=>none
def C3 (op:BinOp) (k:IntKind) (a b:Int):Option C:=
 match op with
 |.add=>some (.int k (k.wrap (a+b)))
 |.sub=>some (.int k (k.wrap (a - b)))
 |.mul=>some (.int k (k.wrap (a*b)))
 |.quo=>if b=0 then none else some (.int k (k.wrap (a.tdiv b)))
 |.rem=>if b=0 then none else some (.int k (a.tmod b))
 |.and=>some (.int k (bits .and k a b))
 |.or=>some (.int k (bits .or k a b))
 |.xor=>some (.int k (bits .xor k a b))
 |.eql=>some (.bool (a==b))
 |.neq=>some (.bool (a !=b))
 |.lss=>some (.bool (decide (a<b)))
 |.leq=>some (.bool (decide (a<=b)))
 |.gtr=>some (.bool (decide (b<a)))
 |.geq=>some (.bool (decide (b<=a)))
 |_=>none
def Ip (op:BinOp) (k:IntKind) (a b:Int):Option C:=
 if b<0 then none else
 match op with
 |.shl=>some (.int k (k.wrap (a*2^(min b.toNat k.bits))))
 |.shr=>some (.int k (a/(2^(min b.toNat k.bits))))
 |_=>none
def BinOp.Bm:BinOp->Bool
 |.shl|.shr=>true
 |_=>false
def yr (op:BinOp):aj->aj->Option C
 |.one (.c (.int k a)),.one (.c (.int k' b))=>if BinOp.Bm op=true then Ip op k a b else if k=k' then C3 op k a b else none
 |_,_=>none
def C2 (op:BinOp):aj->aj->Option C
 |.one (.c (.bool a)),.one (.c (.bool b))=>match op with
  |.eql=>some (.bool (a==b))
  |.neq=>some (.bool (a !=b))
  |_=>none
 |_,_=>none
def Fq (op:UnOp):aj->Option C
 |.one (.c (.bool a))=>match op with
  |.not=>some (.bool (!a))
  |_=>none
 |.one (.c (.int k a))=>match op with
  |.neg=>some (.int k (k.wrap (0 - a)))
  |_=>none
 |_=>none
def aj.dZ:aj->Option Int
 |.one (.c (.int _ n))=>some n
 |_=>none
def dX:Nat:=140737488355328
def rF (ev:MO->aj):List ah->List (Nat×Nat×MO)->Option (List ah)
 |zs,[]=>some zs
 |zs,(off,sz,x)::ps=>match(ev x).cells? with
  |some (_,cs)=>if cs.length=sz/\off+sz<=zs.length then rF ev (dq zs off cs) ps else none
  |none=>none
def oA (σ:St) (n:Nat) (gr:Bool) (m:Mode) (rs:Nat) (xs:List (List C)) (k off:Nat) (e:List C) (vs:List ah):Option St:=
 match sub e off vs.length with
 |none=>none
 |some ii=>match σ.gC vs with
  |none=>none
  |some (cs,o,σ1)=>
   if m=.live then
    if fG cs=true/\fG ii=true/\(σ1.h n).isSome=true/\gr=false then some (σ1.eE n (.row gr m rs (xs.set k (dq e off cs)))) else none
   else if(σ1.h n).isSome=true then
    some (σ1.eE n (.row gr (if o=true then m else .aJ) rs (xs.set k (dq e off cs))))
   else none
def mH:List ah->Option (List C)
 |[]=>some []
 |.c x::l=>if x.fk=true then(mH l).map (x::·) else none
 |_::_=>none
def xO (xs:List (List C)) (k off s i:Nat) (vs:List ah):Option (List (List C)):=
 match(xs[k]?).bind (·[off]?) with
 |some (.list s' ys)=>if s'=s/\vs.length=s/\i<ys.length/\eP ys=true then(mH vs).map fun cs=>xs.set k ((xs.getD k []).set off (.list s' (ys.set i cs))) else none
 |_=>none
def rR (σ:St) (sz:Nat):aj->Option (List (List C)×Mode×St)
 |.one (.nil _)=>some ([],.aN,σ)
 |.one (.sl a s 0 len)=>match σ.h a with
  |some (.row true m rs xs)=>if rs=sz/\s=sz/\len=xs.length then some (xs,m,σ.del a) else none
  |_=>none
 |_=>none
def mD (fl:Bool) (σ1:St) (sz:Nat) (m:Mode):aj->Option (List (List C)×Mode×St)
  |.one (.nil _)=>some ([],m,σ1)
  |.one (.c (.list s ys))=>if s=sz then(if(fl&&eP ys)=true then some (ys,m,σ1) else if m=.live then none else some (ys,.aJ,σ1)) else none
  |.one (.sl b s lo len)=>match σ1.h b with
   |some (.row gr m' rs ys)=>if rs=sz/\s=sz/\lo+len<=ys.length then
       (if(fl&&eP ((ys.drop lo).take len))=true then some ((ys.drop lo).take len,m,σ1)
        else if lo=0/\len=ys.length then(if m=m'/\(m=.live->gr=true) then some (ys,m,σ1.del b) else if m=.live\/m'=.live then none else some (ys,.aJ,σ1.del b)) else none)
    else none
   |_=>none
  |_=>none
def ah.MG:ah->Bool
 |.bq=>false
 |_=>true
def BR (gu:Bool) (n:Int) (c:ah):List ah:=if gu=true then[.c (.int .i64 n),.c (.int .i64 1),c] else[.c (.int .i64 1),.c (.int .i64 n),c]
def exec (T:aQ) (d:Option Nat) (op:aT) (σ:St):Option St:=
 match op with
 |.mv x=>some (σ.put d (σ.ev x))
 |.pick c x y=>match σ.ev c with
  |.one (.c (.bool b))=>if b=true then some (σ.put d (σ.ev x)) else some (σ.put d (σ.ev y))
  |_=>none
 |.alloc zs=>match d with
  |some n=>match σ.ins n (.box zs) with
   |some σ1=>some (σ1.put d (.one (.ptr n 0 0 0)))
   |none=>none
  |none=>none
 |.box sz x=>match d,(σ.ev x).cells? with
  |some n,some (_,cs)=>if cs.length=sz then
   match σ.ins n (.box cs) with
   |some σ1=>some (σ1.put d (.one (.ptr n 0 0 0)))
   |none=>none
   else none
  |_,_=>none
 |.build zs parts=>match rF σ.ev zs parts with
  |some cs=>some (σ.put d (.agg cs))
  |none=>none
 |.fI sz parts=>match d,σ.mV sz (parts.map σ.ev) with
  |some n,some (es,o,σ1)=>match σ1.ins n (.row true (if o=true then .aN else .aJ) sz es) with
   |some σ2=>some (σ2.put d (.one (.sl n sz 0 es.length)))
   |none=>none
  |_,_=>none
 |.load ag sz x=>match σ.ev x with
  |.one p=>match loadAt σ.h p sz with
   |some cs=>some (σ.put d (oD ag cs))
   |none=>none
  |_=>none
 |.rj ag sz x=>match σ.ev x with
  |.one p=>match σ.uT p with
   |some σ1=>match loadAt σ1.h p sz with
    |some cs=>some (σ1.put d (oD ag cs))
    |none=>none
   |none=>none
  |_=>none
 |.store sz x v=>match σ.ev x,(σ.ev v).cells? with
  |.one (.ptr n k aB off),some (_,vs)=>if vs.length=sz then
   match σ.h n with
   |some (.box cs)=>if k=0/\off+sz<=cs.length then some (σ.eE n (.box (dq cs off vs))) else none
   |some (.row gr m rs xs)=>if aB=rs then
    match xs[k]? with
    |some e=>oA σ n gr m rs xs k off e vs
    |none=>none
    else none
   |none=>none
   else none
  |.one (.db n k aB off s i),some (_,vs)=>if vs.length=sz then
   match σ.h n with
   |some (.row false .live rs xs)=>if aB=rs then
    match xO xs k off s i vs with
    |some av=>some (σ.eE n (.row false .live rs av))
    |none=>none
    else none
   |_=>none
   else none
  |_,_=>none
 |.qi x=>match σ.ev x with
  |.one (.ptr n k sz off)=>if(σ.h n).isSome=true then some (σ.put d (.one (.ptr n k sz off))) else none
  |.one (.dg xs off)=>some (σ.put d (.one (.dg xs off)))
  |.one (.cH xs off j n s len)=>some (σ.put d (.one (.cH xs off j n s len)))
  |_=>none
 |.bin op x y=>match yr op (σ.ev x) (σ.ev y) with
  |some c=>some (σ.put d (.one (.c c)))
  |none=>none
 |.nI op x y=>match C2 op (σ.ev x) (σ.ev y) with
  |some c=>some (σ.put d (.one (.c c)))
  |none=>none
 |.un op x=>match Fq op (σ.ev x) with
  |some c=>some (σ.put d (.one (.c c)))
  |none=>none
 |.conv k x=>match σ.ev x with
  |.one (.c (.int _ n))=>some (σ.put d (.one (.c (.int k (k.wrap n)))))
  |_=>none
 |.iK m sz by_ zs l c=>match d,(σ.ev l).dZ,(σ.ev c).dZ with
  |some n,some a,some b=>if a<=b/\0<=a/\b.toNat*by_<=dX/\zs.length=sz then
   match σ.ins n (.row true m sz (List.replicate a.toNat zs)) with
   |some σ1=>some (σ1.put d (.one (.sl n sz 0 a.toNat)))
   |none=>none
   else none
  |_,_,_=>none
 |.slice sz x lo hi=>
  let Tc:Option Int:=match lo with|none=>some 0|some l=>(σ.ev l).dZ
  match σ.ev x,Tc with
  |.one (.sl n s l0 len),some l=>
   match(match hi with|none=>some (len:Int)|some h=>(σ.ev h).dZ) with
   |some h=>if s=sz/\0<=l/\l<=h/\h<=len/\(σ.h n).isSome=true then some (σ.put d (.one (.sl n s (l0+l.toNat) (h - l).toNat))) else none
   |none=>none
  |.one (.c (.list s xs)),some l=>
   match(match hi with|none=>some (xs.length:Int)|some h=>(σ.ev h).dZ) with
   |some h=>if s=sz/\0<=l/\l<=h/\h<=xs.length then some (σ.put d (.one (.c (.list s ((xs.drop l.toNat).take (h - l).toNat))))) else none
   |none=>none
  |_,_=>none
 |.tail sz x lo=>match d,σ.ev x,(σ.ev lo).dZ with
  |some n,.one (.sl a s 0 len),some l=>match σ.h a with
   |some (.row true m rs xs)=>if rs=sz/\s=sz/\len=xs.length/\0<=l/\l<=len then
    match(σ.del a).ins n (.row true m sz (xs.drop l.toNat)) with
    |some σ1=>some (σ1.put d (.one (.sl n sz 0 (xs.length - l.toNat))))
    |none=>none
    else none
   |_=>none
  |_,_,_=>none
 |.nP off x=>match σ.ev x with
  |.one (.ptr n k sz o)=>if(σ.h n).isSome=true then some (σ.put d (.one (.ptr n k sz (o+off)))) else none
  |.one (.dg xs o)=>some (σ.put d (.one (.dg xs (o+off))))
  |.one (.cH xs o j n s len)=>some (σ.put d (.one (.cH xs (o+off) j n s len)))
  |_=>none
 |.nw sz x i=>match σ.ev x,(σ.ev i).dZ with
  |.one (.sl n s lo len),some k=>if s=sz/\0<=k/\k<len/\(σ.h n).isSome=true then some (σ.put d (.one (.ptr n (lo+k.toNat) s 0))) else none
  |.one (.c (.list s xs)),some k=>if s=sz/\0<=k then
   match xs[k.toNat]? with
   |some e=>some (σ.put d (.one (.dg e 0)))
   |none=>none
   else none
  |.one (.bC n kk aB off s len),some k=>match cO σ.h (.bC n kk aB off s len) with
   |some (.list s' ys)=>if s'=sz/\0<=k/\k<ys.length then some (σ.put d (.one (.db n kk aB off sz k.toNat))) else none
   |_=>none
  |_,_=>none
 |.ext i x=>match σ.ev x with
  |.bK xs=>match xs[i]? with
   |some (ag,cs)=>some (σ.put d (oD ag cs))
   |none=>none
  |_=>none
 |.sb ag off sz x=>match σ.ev x with
  |.agg cs=>match sub cs off sz with
   |some l=>some (σ.put d (oD ag l))
   |none=>none
  |_=>none
 |.rC f gu x=>match σ.ev x with
  |.one (.sl n sz lo len)=>if(σ.h n).isSome=true then some (σ.put d (.agg (BR gu len (.sl n sz lo len)))) else none
  |.one (.c (.list sz xs))=>some (σ.put d (.agg (BR gu xs.length (.c (.list sz xs)))))
  |.one (.nil sz)=>some (σ.put d (.agg (BR gu 0 (.nil sz))))
  |_=>none
 |.len x=>match σ.ev x with
  |.one (.sl n sz lo len)=>if(σ.h n).isSome=true then some (σ.put d (.one (.c (.int .i64 len)))) else none
  |.one (.c (.list sz xs))=>some (σ.put d (.one (.c (.int .i64 xs.length))))
  |.one (.nil sz)=>some (σ.put d (.one (.c (.int .i64 0))))
  |.one (.bC n k aB off sz len)=>match cO σ.h (.bC n k aB off sz len) with
   |some (.list s ys)=>some (σ.put d (.one (.c (.int .i64 ys.length))))
   |_=>none
  |_=>none
 |.append fl sz by_ x y=>match d with
  |none=>none
  |some n=>match rR σ sz (σ.ev x) with
   |none=>none
   |some (xs,m,σ1)=>match mD fl σ1 sz m (σ.ev y) with
    |none=>none
    |some (ys,m2,σ2)=>
     if(xs.length+ys.length)*by_<=dX then
      match σ2.ins n (.row true m2 sz (xs++ys)) with
      |some gN=>some (gN.put d (.one (.sl n sz 0 (xs.length+ys.length))))
      |none=>none
     else none
 |.copy sz x y=>match σ.ev x,σ.ev y with
  |.one (.sl n s lo len),.one c=>match σ.h n,cO σ.h c with
   |some (.row gr m rs xs),some (.list s' ys)=>if sz=1/\s=1/\rs=1/\s'=1/\m≠ .aJ/\eP xs=true/\eP ys=true/\lo+len<=xs.length then
    some ((σ.eE n (.row gr m 1 (dq xs lo (ys.take len)))).put d (.one (.c (.int .i64 (Nat.min ys.length len:Nat))))) else none
   |_,_=>none
  |_,_=>none
 |.mG z x=>match σ.ev x with
  |.one (.sl n s lo len)=>match σ.h n with
   |some (.row gr m rs xs)=>if s=1/\rs=1/\z.fk=true/\m≠ .aJ/\eP xs=true/\lo+len<=xs.length then
    some ((σ.eE n (.row gr m 1 (dq xs lo (List.replicate len [z])))).put d (.bK [])) else none
   |_=>none
  |_=>none
 |.mm mx x y=>match σ.ev x,σ.ev y with
  |.one (.c (.int k a)),.one (.c (.int k' b))=>if mx=true then(if a<b then some (σ.put d (.one (.c (.int k b)))) else some (σ.put d (.one (.c (.int k a)))))
   else(if b<a then some (σ.put d (.one (.c (.int k b)))) else some (σ.put d (.one (.c (.int k a)))))
  |_,_=>none
 |.call m f xs=>wz T m d f (xs.map σ.ev) σ
 |.oK f xs=>match C7 T f (xs.map σ.ev) σ.h with
  |some v=>some (σ.put d v)
  |none=>none
 |.sM f xs=>match(xs.map σ.ev).mapM (fun v=>match v with|.one c=>if c.j4=true then none else some c|_=>none) with
  |some cs=>if cs.all ah.MG=true then some (σ.put d (.one (.fn f cs))) else none
  |none=>none
 |.oL m x xs=>match σ.ev x with
  |.one (.fn f cP)=>wz T m d f (xs.map σ.ev++cP.map .one) σ
  |_=>none
 |.gU m f xs=>rZ T m d f (xs.map σ.ev) σ
 |.km f xs=>rY T d f (xs.map σ.ev) σ
 |.m6 f xs=>match qE T f (xs.map σ.ev) σ.h with
  |some v=>some (σ.put d v)
  |none=>none
 |.m5 f xs=>match Au T f (xs.map σ.ev) with
  |some v=>some (σ.put d v)
  |none=>none
 |.nJ m f xs=>wB T m d f (xs.map σ.ev) σ
 |.pM m f x xs=>match σ.ev x with
  |.one (.fn g cP)=>if g=f then wA T m d f (xs.map σ.ev++cP.map .one) σ else none
  |_=>none
def ef (T:aQ) (o:bQ) (σ:St):Option St:=
 match o.guard with
 |none=>exec T o.dst o.op σ
 |some (s,mA)=>match σ.env s with
  |.one (.c (.bool b))=>if b=mA then exec T o.dst o.op σ else some (σ.put o.dst (.bK []))
  |.bK []=>some (σ.put o.dst (.bK []))
  |_=>none
def fv (T:aQ):List bQ->St->Option St
 |[],σ=>some σ
 |o::os,σ=>match ef T o σ with
  |some σ'=>fv T os σ'
  |none=>none
def ah.fJ (ok:Nat->Bool):ah->ah
 |.ptr n k sz off=>if ok n=true then .ptr n k sz off else .bq
 |.sl n sz lo len=>if ok n=true then .sl n sz lo len else .bq
 |.bC n k aB off sz len=>if ok n=true then .bC n k aB off sz len else .bq
 |.db n k aB off sz i=>if ok n=true then .db n k aB off sz i else .bq
 |.cH xs off j n sz len=>if ok n=true then .cH xs off j n sz len else .bq
 |x=>x
def ah.dR (ok:Nat->Bool):ah->ah
 |.fn f cP=>.fn f (cP.map (·.fJ ok))
 |x=>x.fJ ok
def aj.dR (ok:Nat->Bool):aj->aj
 |.one c=>.one (c.dR ok)
 |.agg cs=>.agg (cs.map (·.dR ok))
 |.bK xs=>.bK (xs.map fun x=>(x.1,x.2.map (·.dR ok)))
def aq.dR (ok:Nat->Bool):aq->aq
 |.box cs=>.box (cs.map (·.dR ok))
 |b=>b
def yC:Nat->aj:=fun _=>.one .bq
def Dn:Nat->Option aq:=fun _=>none
def Yj:Nat->Bool:=fun _=>false
def xE (ok:Nat->Bool) (env:Nat->aj):List Nat->(Nat->aj)
 |[]=>yC
 |s::ss=>az (xE ok env ss) s ((env s).dR ok)
def sT (ok:Nat->Bool) (h:Nat->Option aq):List Nat->(Nat->Option aq)
 |[]=>Dn
 |s::ss=>if ok s=true then match h s with
  |some b=>az (sT ok h ss) s (some (b.dR ok))
  |none=>sT ok h ss
  else sT ok h ss
def xF (ok:Nat->Bool):List Nat->(Nat->Bool)
 |[]=>Yj
 |s::ss=>if ok s=true then az (xF ok ss) s true else xF ok ss
def ah.zC (n:Nat):ah->Bool
 |.ptr m _ _ _=>m==n
 |.sl m _ _ _=>m==n
 |.bC m _ _ _ _ _=>m==n
 |.db m _ _ _ _ _=>m==n
 |.cH _ _ _ m _ _=>m==n
 |_=>false
def ah.iL (n:Nat):ah->Bool
 |.fn _ cP=>cP.any (·.zC n)
 |x=>x.zC n
def aj.iL (n:Nat):aj->Bool
 |.one c=>c.iL n
 |.agg cs=>cs.any (·.iL n)
 |.bK xs=>xs.any fun x=>x.2.any (·.iL n)
def St.j9 (σ:St) (ke kh:List Nat):Nat->Bool:=fun n=>kh.contains n&&(σ.h n).isSome&&
 (Nat.ble aH n||ke.any (fun s=>(σ.env s).iL n)||kh.any fun k=>match σ.h k with|some (.box cs)=>cs.any (·.iL n)|_=>false)
def St.ju (σ:St) (ke kh:List Nat):St:=
 {env:=xE (σ.j9 ke kh) σ.env ke,h:=sT (σ.j9 ke kh) σ.h kh,used:=fun n=>Nat.ble aH n||xF (σ.j9 ke kh) kh n}
def oz (x c n:Nat):Nat:=if n=x then c else n
def ah.pn (x c:Nat):ah->ah
 |.ptr n k sz off=>.ptr (oz x c n) k sz off
 |.sl n sz lo len=>.sl (oz x c n) sz lo len
 |.bC n k aB off sz len=>.bC (oz x c n) k aB off sz len
 |.db n k aB off sz i=>.db (oz x c n) k aB off sz i
 |.cH xs off j n sz len=>.cH xs off j (oz x c n) sz len
 |y=>y
def ah.bw (x c:Nat):ah->ah
 |.fn f cP=>.fn f (cP.map (·.pn x c))
 |y=>y.pn x c
def aj.bw (x c:Nat):aj->aj
 |.one y=>.one (y.bw x c)
 |.agg ys=>.agg (ys.map (·.bw x c))
 |.bK ys=>.bK (ys.map fun y=>(y.1,y.2.map (·.bw x c)))
def aq.bw (x c:Nat):aq->aq
 |.box cs=>.box (cs.map (·.bw x c))
 |b=>b
def St.bw (σ:St) (x c:Nat):Option St:=
 if x=c then some σ else if Nat.ble aH x=true then some σ else if σ.used c=true then none else
 some {env:=fun s=>(σ.env s).bw x c,h:=fun n=>if n=c then(σ.h x).map (·.bw x c) else if n=x then none else(σ.h n).map (·.bw x c),used:=fun n=>if n=c then σ.used x else if n=x then false else σ.used n}
def St.lr (σ:St) (c:Nat):Mode->St
 |.aJ=>match σ.h c with
  |some (.row gr .aN rs xs)=>σ.eE c (.row gr .aJ rs xs)
  |_=>σ
 |_=>σ
def St.canon (σ:St):Bool×Nat×Nat×Nat×Mode->Option St
 |(true,n,j,c,m)=>match σ.h n with
  |some (.box cs)=>match cs[j]? with
   |some (.sl a _ _ _)=>(σ.bw a c).map fun σ1=>σ1.lr c m
   |some (.nil sz)=>if 0<sz then match σ.ins c (.row true m sz []) with
    |some σ1=>some (σ1.eE n (.box (cs.set j (.sl c sz 0 0))))
    |none=>none
    else some σ
   |_=>some σ
  |_=>some σ
 |(false,n,j,c,m)=>match σ.env n with
  |.one (.sl a _ _ _)=>(σ.bw a c).map fun σ1=>σ1.lr c m
  |.one (.nil sz)=>if 0<sz then match σ.ins c (.row true m sz []) with
   |some σ1=>some (σ1.put (some n) (.one (.sl c sz 0 0)))
   |none=>none
   else some σ
  |_=>some σ
def St.uH (σ:St):List (Bool×Nat×Nat×Nat×Mode)->Option St
 |[]=>some σ
 |x::l=>match σ.canon x with
  |some σ1=>σ1.uH l
  |none=>none
def St.head (σ:St) (ke kh:List Nat) (cn:List (Bool×Nat×Nat×Nat×Mode)):Option St:=
 match((σ.ju ke kh).ju ke kh).uH cn with
 |some σ1=>some (σ1.ju ke kh)
 |none=>none
def aT.args:aT->List MO
 |.mv x|.box _ x|.load _ _ x|.rj _ _ x|.qi x|.un _ x|.conv _ x|.nP _ x|.ext _ x|.sb _ _ _ x|.rC _ _ x|.len x|.mG _ x=>[x]
 |.pick c x y=>[c,x,y]
 |.alloc _=>[]
 |.build _ ps=>ps.map (·.2.2)
 |.fI _ ps=>ps
 |.store _ x v=>[x,v]
 |.bin _ x y|.nI _ x y|.mm _ x y|.append _ _ _ x y|.copy _ x y|.nw _ x y|.tail _ x y=>[x,y]
 |.iK _ _ _ _ l c=>[l,c]
 |.slice _ x lo hi=>x::(lo.toList++hi.toList)
 |.call _ _ xs|.sM _ xs|.gU _ _ xs|.oK _ xs|.km _ xs|.m6 _ xs|.m5 _ xs|.nJ _ _ xs=>xs
 |.oL _ x xs|.pM _ _ x xs=>x::xs
def aT.Hx:aT->Bool
 |.call ..|.oL ..|.oK ..=>true
 |_=>false
def ah.t8:ah->List Nat
 |.ptr n _ _ _=>[n]
 |.sl n _ _ _=>[n]
 |.bC n _ _ _ _ _=>[n]
 |.db n _ _ _ _ _=>[n]
 |.cH _ _ _ n _ _=>[n]
 |_=>[]
def ah.nm:ah->List Nat
 |.fn _ cP=>cP.flatMap ah.t8
 |x=>x.t8
def aj.iw:aj->List Nat
 |.one c=>c.nm
 |.agg cs=>cs.flatMap ah.nm
 |.bK xs=>xs.flatMap fun x=>x.2.flatMap ah.nm
def C5 (h:Nat->Option aq) (l:List Nat):List Nat:=l.flatMap fun n=>match h n with
 |some (.box cs)=>cs.flatMap ah.nm
 |_=>[]
def aT.j8 (op:aT) (ev:MO->aj):List Nat:=op.args.flatMap fun x=>(ev x).iw
def aT.nD (op:aT) (ev:MO->aj) (h:Nat->Option aq):List Nat:=cond op.Hx (op.j8 ev++C5 h (op.j8 ev)) (op.j8 ev)
def aT.lQ (op:aT) (ev:MO->aj) (h:Nat->Option aq):Option (List Nat):=
 match op with
 |.store _ x v=>match ev x with
  |.one (.ptr n _ _ _)=>match h n with
   |some (.box _)=>some [n]
   |some (.row ..)=>some (n::(ev v).iw)
   |none=>none
  |.one (.db n _ _ _ _ _)=>some [n]
  |_=>none
 |.fI _ ps=>some (ps.flatMap fun p=>(ev p).iw)
 |.km _ xs=>some (xs.flatMap fun p=>(ev p).iw)
 |.append _ _ _ x y=>some ((ev x).iw++(ev y).iw)
 |.copy _ x _|.mG _ x=>match ev x with
  |.one (.sl n _ _ _)=>some [n]
  |_=>none
 |.gU ..|.nJ ..|.pM ..|.tail ..|.rj ..=>none
 |_=>some []
abbrev FP:=List Nat×List Nat
def aT.fp (op:aT) (σ:St):Option FP:=(op.lQ σ.ev σ.h).map fun w=>(op.nD σ.ev σ.h,w)
def Gm (f g:FP):Bool:=f.2.all (fun n=> !(g.1.contains n))&&g.2.all (fun n=> !(f.1.contains n))
def Gn:Option FP->Option FP->Bool
 |some f,some g=>Gm f g
 |_,_=>false
def nN (o:bQ) (e:Nat->aj):Option aT:=
 match o.guard with
 |none=>some o.op
 |some (s,mA)=>match e s with
  |.one (.c (.bool b))=>if b=mA then some o.op else some (.mv (.k (.bK [])))
  |.bK []=>some (.mv (.k (.bK [])))
  |_=>none
def bQ.fp (o:bQ) (σ:St):Option FP:=
 match nN o σ.env with
 |some op=>op.fp σ
 |none=>none
def sO (ps:List (Nat×Nat)) (fs:List (Option FP)):Bool:=ps.all fun p=>Gn (fs.getD p.1 none) (fs.getD p.2 none)
def lY (T:aQ):List bQ->List (Option FP)->St->Option (List (Option FP)×St)
 |[],dP,σ=>some (dP,σ)
 |o::os,dP,σ=>match ef T o σ with
  |some σ1=>lY T os (dP++[o.fp σ]) σ1
  |none=>none
def aP:Nat:=2^64
def Eo:Nat->(St->Option tj)->St->Option tj
 |0,_,_=>none
 |n+1,f,σ=>match f σ with
  |some (.fq σ')=>Eo n f σ'
  |o=>o
def ah.iD (n:Nat):ah->ah
 |.bC m k aB off sz len=>match Nat.beq m n with
  |true=>.bq
  |false=>.bC m k aB off sz len
 |.db m k aB off sz i=>match Nat.beq m n with
  |true=>.bq
  |false=>.db m k aB off sz i
 |y=>y
def ah.cut (n:Nat):ah->ah
 |.fn f cP=>.fn f (cP.map (·.iD n))
 |y=>y.iD n
def aj.cut (n:Nat):aj->aj
 |.one c=>.one (c.cut n)
 |.agg cs=>.agg (cs.map (·.cut n))
 |.bK xs=>.bK (xs.map fun x=>(x.1,x.2.map (·.cut n)))
def aq.cut (n:Nat):aq->aq
 |.box cs=>.box (cs.map (·.cut n))
 |b=>b
def St.cut (σ:St) (n:Nat):St:={σ with env:=fun s=>(σ.env s).cut n,h:=fun m=>(σ.h m).map (·.cut n)}
def zr (sp:qy) (σ:St):Option St:=
 match σ.ev sp.mx,σ.ev sp.ml,σ.ev sp.my with
 |.one (.ptr n k rs off),.one (.bC n' k' mw lL s0 vD),.one yc=>
  if n'=n/\k'=k/\mw=rs/\lL=off/\off+1=rs/\n<aH then
   match σ.h n with
   |some (.row true .live H9 xs)=>if H9=rs then
    match(xs[k]?).bind (·[off]?),cO σ.h yc with
    |some (.list s ls),some (.list s' ys)=>
     if s=sp.sz/\s'=sp.sz/\eP ls=true/\eP ys=true/\(ls.length+ys.length)*sp.by_<=dX then
      some ((σ.cut n).eE n (.row true .live rs (xs.set k ((xs.getD k []).set off (.list sp.sz (ls++ys))))))
     else none
    |_,_=>none
    else none
   |_=>none
  else none
 |_,_,_=>none
def St.vV (σ:St):ah->Option (C×Bool×St)
 |.c x=>if x.fk=true then some (x,true,σ) else none
 |.nil sz=>if 0<sz then some (.list sz [],true,σ) else none
 |.sl n sz 0 len=>match σ.h n with
  |some (.row gr m rs xs)=>if rs=sz/\m≠ .aJ/\eP xs=true/\len<=xs.length then some (.list sz (xs.take len),gr&&decide (0<len),σ.del n) else none
  |_=>none
 |_=>none
def St.s9 (σ:St):List ah->Option (List C×Bool×St)
 |[]=>some ([],true,σ)
 |c::cs=>match σ.vV c with
  |some (x,o,σ1)=>match σ1.s9 cs with
   |some (xs,o',σ2)=>some (x::xs,(match cs with|[]=>o|_::_=>o'),σ2)
   |none=>none
  |none=>none
def Gp (T:aQ) (d:Nat) (f:FuncId) (as:List aj) (σ:St):Option St:=
 match lm σ.h as,aQ.find T.ns f with
 |some ds,some M=>match M ds with
  |some [(.one,[.list sz xs])]=>match σ.ins (jJ (some d)) (.row true .live sz xs) with
   |some σ1=>some (σ1.put (some d) (.one (.sl (jJ (some d)) sz 0 xs.length)))
   |none=>none
  |_=>none
 |_,_=>none
def St.sY (σ:St) (s:Nat) (v:aj):St:={σ with env:=az σ.env s v}
def tw (T:aQ) (d:Nat) (c:FE) (σ:St):Option St:=
 match c with
 |.wj sz p=>match(σ.ev p).cells? with
  |some (_,cs)=>if cs.length=sz then
   match σ.s9 cs with
   |some (es,true,σ1)=>match σ1.ins d (.row true .live sz [es]) with
    |some σ2=>some (σ2.put (some d) (.one (.sl d sz 0 1)))
    |none=>none
   |_=>none
   else none
  |none=>none
 |.wk p s=>match σ.ev p,σ.env s with
  |.one (.sl q sz lo len),.one (.sl q' aF sJ qd)=>if q'=q/\aF=sz/\qd=len/\s≠d/\lo=0/\sJ=0 then
   match σ.fY (.sl q sz 0 len) with
   |some (y,true,σ1)=>match σ1.ins d (.row true .aN 1 [[y]]) with
    |some σ2=>some ((σ2.put (some d) (.one (.sl d 1 0 1))).sY s (.one (.c y)))
    |none=>none
   |_=>none
   else none
  |_,_=>none
 |.pop x lo s=>match σ.ev x,(σ.ev lo).dZ,σ.env s with
  |.one (.sl n s1 l1 len),some l,.one (.bC n' k rs off _ _)=>if s1=1/\l1=0/\l=1/\n'=n/\k=0/\rs=1/\off=0/\s≠d then
   match σ.h n with
   |some (.row true .live H9 xs)=>if H9=1/\len=xs.length then
    match xs[0]? with
    |some [C.list sz ys]=>if eP ys=true then
     match(σ.del n).ins d (.row true .live 1 (xs.drop 1)) with
     |some σ1=>match σ1.ins (jJ (some d)) (.row false .aN sz ys) with
      |some σ2=>some ((σ2.put (some d) (.one (.sl d 1 0 (xs.length - 1)))).sY s (.one (.sl (jJ (some d)) sz 0 ys.length)))
      |none=>none
     |none=>none
     else none
    |_=>none
    else none
   |_=>none
   else none
  |_,_,_=>none
 |.yt f xs=>Gp T d f (xs.map σ.ev) σ
def uJ (T:aQ):List FD->St->Option St
 |[],σ=>some σ
 |.op m::l,σ=>match ef T m σ with
  |some σ1=>uJ T l σ1
  |none=>none
 |.qD d c::l,σ=>match tw T d c σ with
  |some σ1=>uJ T l σ1
  |none=>none
def dS (T:aQ):jS->St->Option tj
 |.skip,σ=>some (.fq σ)
 |.gT _ ops,σ=>match fv T ops σ with
  |some σ'=>some (.fq σ')
  |none=>none
 |.ub ps ops,σ=>match lY T ops [] σ with
  |some (fs,σ')=>cond (sO ps fs) (some (.fq σ')) none
  |none=>none
 |.vM its,σ=>match uJ T its σ with
  |some σ'=>some (.fq σ')
  |none=>none
 |.sS false _ ops sp,σ=>match fv T ops σ with
  |some σ1=>match zr sp σ1 with
   |some σ'=>some (.fq σ')
   |none=>none
  |none=>none
 |.sS true ps ops sp,σ=>match lY T ops [] σ with
  |some (fs,σ1)=>match zr sp σ1 with
   |some σ'=>cond (sO ps fs) (some (.fq σ')) none
   |none=>none
  |none=>none
 |.seq a b,σ=>match dS T a σ with
  |some (.fq σ')=>dS T b σ'
  |o=>o
 |.cond c a b,σ=>match σ.ev c with
  |.one (.c (.bool t))=>if t=true then dS T a σ else dS T b σ
  |_=>none
 |.block id c,σ=>match dS T c σ with
  |some (.ext i σ')=>if i=id then some (.fq σ') else some (.ext i σ')
  |o=>o
 |.join ke kh cn c,σ=>match dS T c σ with
  |some (.fq σ')=>match σ'.head ke kh cn with
   |some σ1=>some (.fq σ1)
   |none=>none
  |o=>o
 |.loop id ke kh cn c,σ=>Eo aP (fun σ=>match σ.head ke kh cn with|some σ1=>dS T c σ1|none=>none) σ
 |.exit id,σ=>some (.ext id σ)
 |.ret,σ=>some (.ret σ)
section
variable {B:Nat} {E:Ex} {w0 w w':World} {G G':Gh} {h h':Nat->Option aq} {used used':Nat->Bool} {tk:List PC}
theorem bm.refl (w:World) (G:Gh) (h:Nat->Option aq) (u:Nat->Prop):bm w G h u w G h:=
 ⟨fun _ h=>h,fun _ _ _=>rfl,fun _ _ h=>⟨h,rfl,rfl,rfl,rfl,rfl⟩,fun n gr sz xs _ hn=>⟨⟨gr,xs,hn⟩,fun k j pc h1 h2=>⟨pc,h1,rfl,h2⟩⟩⟩
theorem bm.trans {w1 w2 w3:World} {G1 G2 G3:Gh} {h1 h2 h3:Nat->Option aq} {u u2:Nat->Prop} (hu:∀n,u n->u2 n)
  (a:bm w1 G1 h1 u w2 G2 h2) (b:bm w2 G2 h2 u2 w3 G3 h3):bm w1 G1 h1 u w3 G3 h3:=by
 refine⟨fun x hx=>b.im x (a.im x hx),fun x hx o=>(b.cell x (a.im x hx) o).trans (a.cell x hx o),fun n hn h=>?_,fun n gr sz xs hn h=>?_⟩
 ·obtain⟨c0,c1,c2,c3,c4,c5⟩:=b.name n (hu n hn) h;obtain⟨d0,d1,d2,d3,d4,d5⟩:=a.name n hn c0;exact⟨d0,c1.trans d1,c2.trans d2,c3.trans d3,c4.trans d4,c5.trans d5⟩
 ·obtain⟨⟨Dz,gD,e2⟩,l2⟩:=b.live n gr sz xs (hu n hn) h;obtain⟨e1,l1⟩:=a.live n Dz sz gD hn e2;refine⟨e1,fun k j pc p1 p2=>?_⟩;obtain⟨q,q1,q2,q3⟩:=l1 k j pc p1 p2;obtain⟨r,r1,r2,r3⟩:=l2 k j q q1 q3;exact⟨r,r1,r2.trans q2,r3⟩
theorem bm.world (mJ:∀b,G.Im b->w'.heap[b]? =w.heap[b]?) (u:Nat->Prop):bm w G h u w' G h:=
 ⟨fun _ h=>h,fun b hb o=>gV (mJ b hb) o,fun _ _ h=>⟨h,rfl,rfl,rfl,rfl,rfl⟩,fun n gr sz xs _ hn=>⟨⟨gr,xs,hn⟩,fun k j pc h1 h2=>⟨pc,h1,rfl,h2⟩⟩⟩
theorem HR.po (H:HR B E w G h used tk) {n:Nat} {gr:Bool} {m:Mode} {sz:Nat} {xs:List (List C)} (hn:h n=some (.row gr m sz xs)) {b:Nat} (hb:bh b (G.g n).px):b<w.heap.size:=by
 have hr:=H.row n gr m sz xs hn;cases aR:(G.g n).nl with
 |true=>obtain⟨k,j,c,⟨e,he,_⟩,_⟩:=hb;rw[(hr.nl aR).1] at he;simp at he
 |false=>exact(hr.eK aR).2.1.lt hb
theorem HR.grow (H:HR B E w G h used tk) (hw:∀b,b<w.heap.size->w'.heap[b]? =w.heap[b]?) (bV:w.heap.size<=w'.heap.size):HR B E w' G h used tk:=by
 have K:bm w G h (fun n=>used n=true) w' G h:=bm.world (fun b hb=>hw b (H.gH b hb)) _;have vf:∀b,d9 w b->d9 w' b:=fun b hb=>hb.congr (hw b hb.lt);refine⟨H.jh,H.ik,fun n cs hn=>?_,fun n gr m sz xs hn=>?_,fun n hn hl=>?_,H.inj,fun b hb=>Nat.lt_of_lt_of_le (H.gH b hb) bV,H.pU,H.gv,H.live,fun i pc hi=>?_,H.xU,H.tc⟩
 ·obtain⟨h1,h2,h3⟩:=H.box n cs hn;refine⟨h1,vf _ h2,fun j c hj=>?_⟩;obtain⟨v,a1,a2,a3⟩:=h3 j c hj;exact⟨v,(gV (hw _ h2.lt) _).trans a1,a2,a3.fW K fun m hm=>H.ik n cs c m hn (List.mem_of_getElem? hj) hm⟩
 ·have hr:=H.row n gr m sz xs hn;refine⟨hr.pos,hr.er,hr.nl,fun hl=>?_,fun hl hg=>?_,?_,fun hg hm=>(hr.nr hg hm).congr fun b hb=>hw b (H.po hn hb)⟩
  ·obtain⟨a1,a2,a3⟩:=hr.eK hl;exact⟨vf _ a1,a2.congr (fun o=>gV (hw _ a1.lt) o) (fun b' aL o=>gV (hw _ (a2.lt aL)) o),a3⟩
  ·obtain⟨r2,cur,e,r3,r4⟩:=hr.room hl hg;exact⟨r2,cur,e,(hw _ (hr.eK hl).1.lt).trans r3,r4⟩
  ·have hm:=hr.mode;cases m with
   |aJ=>exact hm
   |aN=>exact⟨fun b hb=>⟨(hm.1 b hb).1,vf _ (hm.1 b hb).2.1,(hm.1 b hb).2.2⟩,hm.2⟩
   |live=>exact⟨fun b hb=>⟨(hm.1 b hb).1,vf _ (hm.1 b hb).2.1,(hm.1 b hb).2.2⟩,hm.2⟩
 ·obtain⟨a1,a2,a3⟩:=H.own n hn hl;exact⟨a1,a2,Nat.lt_of_lt_of_le a3 bV⟩
 ·obtain⟨a1,a2⟩:=H.ta i pc hi;exact⟨a1,fun b hb=>⟨(a2 b hb).1,vf _ (a2 b hb).2.1,(a2 b hb).2.2⟩⟩
theorem Fr.refl (B:Nat) (E:Ex) (w0:World) (hB:B<=w0.heap.size):Fr B E w0 w0:=
 ⟨rfl,rfl,rfl,hB,fun _ _ _=>rfl,fun _ _=>Cz.refl _ _⟩
theorem Fr.grow (F:Fr B E w0 w) (hw:∀b,b<w.heap.size->w'.heap[b]? =w.heap[b]?) (bV:w.heap.size<=w'.heap.size) (ho:w'.os=w.os) (ht:w'.tape=w.tape) (hp:w'.output=w.output):Fr B E w0 w':=
 ⟨ho.trans F.os,ht.trans F.tape,hp.trans F.output,Nat.le_trans F.size bV,fun b hb he=>(hw b (Nat.lt_of_lt_of_le hb F.size)).trans (F.block b hb he),
  fun b hb=>(F.jO b hb).trans (Cz.of_eq (hw b (Nat.lt_of_lt_of_le hb F.size)))⟩
theorem Fr.one (F:Fr B E w0 w) {b0:Nat} (qL:B<=b0\/E b0) (hw:∀b,b<w.heap.size->b≠b0->w'.heap[b]? =w.heap[b]?) (bV:w.heap.size<=w'.heap.size)
  (hu:Cz w w' b0) (ho:w'.os=w.os) (ht:w'.tape=w.tape) (hp:w'.output=w.output):Fr B E w0 w':=by
 refine⟨ho.trans F.os,ht.trans F.tape,hp.trans F.output,Nat.le_trans F.size bV,fun b hb he=>?_,fun b hb=>?_⟩
 ·refine(hw b (Nat.lt_of_lt_of_le hb F.size) ?_).trans (F.block b hb he);rintro rfl;rcases qL with h1|h1
  ·omega
  ·exact he h1
 ·by_cases DH:b=b0
  ·subst DH;exact(F.jO b hb).trans hu
  ·exact(F.jO b hb).trans (Cz.of_eq (hw b (Nat.lt_of_lt_of_le hb F.size) DH))
def WI (B:Nat) (E:Ex) (w:World) (G:Gh) (h:Nat->Option aq) (p:PB):aq->Prop
 |.box cs=>p.nl=false/\d9 w p.b/\∀(j:Nat) (c:ah),cs[j]? =some c->∃v,w.cell? (ad p.b (p.o+j))=some v/\v.oneCell'=true/\RC w G h c v
 |.row gr m sz xs=>uE B E w G gr m sz xs p
theorem HR.adF (H:HR B E w G h used tk) {n:Nat} {blk:aq} {p:PB}
  (hw:∀b,b<w.heap.size->(p.nl=false->b≠p.b)->w'.heap[b]? =w.heap[b]?) (bV:w.heap.size<=w'.heap.size)
  (yZ:∀b,b<w.heap.size->d9 w b->d9 w' b)
  (hu:∀m,used m=true->used' m=true) (Sc:used' n=true)
  (qS:p.nl=false->¬G.Im p.b/\(B<=p.b\/E p.b)/\p.b<w'.heap.size)
  (u5:p.nl=false->∀m,m≠n->h m≠none->(G.g m).nl=false->(G.g m).b≠p.b)
  (RM:p.nl=false->∀m gr sz xs,m≠n->h m=some (.row gr .live sz xs)->∀b,bh b (G.g m).px->b≠p.b)
  (vh:∀cs c m,blk=.box cs->c∈cs->c.ref m->used' m=true)
  (K:∀m cs c v,m≠n->h m=some (.box cs)->c∈cs->RC w G h c v->RC w' ⟨G.Im,az G.g n p⟩ (az h n (some blk)) c v)
  (jC:WI B E w' ⟨G.Im,az G.g n p⟩ (az h n (some blk)) p blk)
  (DK:∀gr m sz xs,blk=.row gr m sz xs->m≠ .aJ->∀n' bo m' aF av,n'≠n->h n'=some (.row bo m' aF av)->m'≠ .aJ->∀b,bh b p.px->¬bh b (G.g n').px)
  (sn:∀gr sz xs,blk=.row gr .live sz xs->∀b,bh b p.px->(p.nl=false->b≠p.b)/\∀n',n'≠n->h n'≠none->(G.g n').nl=false->b≠(G.g n').b)
  (mN:∀gr m sz xs,blk=.row gr m sz xs->m≠ .aJ->∀(i:Nat) (pc:PC) (b:Nat),tk[i]? =some pc->aZ b pc->¬bh b p.px)
  (mJ:p.nl=false->p.b<w.heap.size->∀b,(∃m gr mo sz xs,m≠n/\h m=some (.row gr mo sz xs)/\bh b (G.g m).px)->b≠p.b):
  HR B E w' ⟨G.Im,az G.g n p⟩ (az h n (some blk)) used' tk:=by
 have e1:∀m,m≠n->az h n (some blk) m=h m:=fun m hm=>cN _ _ _ _ hm;have e2:∀m,m≠n->az G.g n p m=G.g m:=fun m hm=>cN _ _ _ _ hm;have R8:∀m,m≠n->h m≠none->(G.g m).nl=false->w'.heap[(G.g m).b]? =w.heap[(G.g m).b]? :=fun m hm h0 hl=>
  hw _ (H.own m h0 hl).2.2 (fun hp=>u5 hp m hm h0 hl)
 refine⟨?_,?_,?_,?_,?_,?_,?_,H.pU,?_,?_,?_,?_,?_⟩
 ·intro m hm;by_cases bJ:m=n
  ·subst bJ;exact Sc
  ·rw[e1 m bJ] at hm;exact hu m (H.jh m hm)
 ·intro m cs c q hm hc hr;by_cases bJ:m=n
  ·subst bJ;rw[bR] at hm;injection hm with hm;exact vh cs c q hm hc hr
  ·rw[e1 m bJ] at hm;exact hu q (H.ik m cs c q hm hc hr)
 ·intro m cs hm;by_cases bJ:m=n
  ·subst bJ;rw[bR] at hm;injection hm with hm;subst hm;simp only[bR];exact jC
  ·rw[e1 m bJ] at hm;simp only[e2 m bJ];obtain⟨a1,a2,a3⟩:=H.box m cs hm;have hs:=R8 m bJ (by rw[hm];simp) a1;refine⟨a1,a2.congr hs,fun j c hj=>?_⟩;obtain⟨v,b1,b2,b3⟩:=a3 j c hj;exact⟨v,(gV hs _).trans b1,b2,K m cs c v bJ hm (List.mem_of_getElem? hj) b3⟩
 ·intro m gr mo sz xs hm;by_cases bJ:m=n
  ·subst bJ;rw[bR] at hm;injection hm with hm;subst hm;simp only[bR];exact jC
  ·rw[e1 m bJ] at hm;simp only[e2 m bJ];have hr:=H.row m gr mo sz xs hm;have hf:∀b,bh b (G.g m).px->w'.heap[b]? =w.heap[b]? :=fun b hb=>
    hw b (H.po hm hb) (fun hp fA=>by
     by_cases cu:p.b<w.heap.size
     ·exact mJ hp cu b ⟨m,gr,mo,sz,xs,bJ,hm,hb⟩ fA
     ·have:=H.po hm hb;omega)
   refine⟨hr.pos,hr.er,hr.nl,fun hl=>?_,fun hl hg=>?_,?_,fun hg hm=>(hr.nr hg hm).congr hf⟩
   ·have hs:=R8 m bJ (by rw[hm];simp) hl;obtain⟨a1,a2,a3⟩:=hr.eK hl;exact⟨a1.congr hs,a2.congr (fun o=>gV hs o) (fun b' aL o=>gV (hf b' aL) o),a3⟩
   ·have hs:=R8 m bJ (by rw[hm];simp) hl;obtain⟨r2,cur,e,r3,r4⟩:=hr.room hl hg;exact⟨r2,cur,e,hs.trans r3,r4⟩
   ·have dW:=hr.mode;cases mo with
    |aJ=>exact dW
    |aN=>exact⟨fun b hb=>⟨(dW.1 b hb).1,(dW.1 b hb).2.1.congr (hf b hb),(dW.1 b hb).2.2⟩,dW.2⟩
    |live=>exact⟨fun b hb=>⟨(dW.1 b hb).1,(dW.1 b hb).2.1.congr (hf b hb),(dW.1 b hb).2.2⟩,dW.2⟩
 ·intro m hm hl;by_cases bJ:m=n
  ·subst bJ;simp only[bR] at hl⊢;exact qS hl
  ·rw[e1 m bJ] at hm;simp only[e2 m bJ] at hl⊢;obtain⟨a1,a2,a3⟩:=H.own m hm hl;exact⟨a1,a2,Nat.lt_of_lt_of_le a3 bV⟩
 ·intro m m' hm bP aD hl eQ;by_cases bJ:m=n
  ·subst bJ;have jF:m'≠m:=fun e=>aD e.symm;rw[e1 m' jF] at bP;simp only[bR,e2 m' jF] at hl eQ⊢;exact fun e=>u5 hl m' jF bP eQ e.symm
  ·rw[e1 m bJ] at hm;by_cases jF:m'=n
   ·subst jF;simp only[bR,e2 m bJ] at hl eQ⊢;exact u5 eQ m bJ hm hl
   ·rw[e1 m' jF] at bP;simp only[e2 m bJ,e2 m' jF] at hl eQ⊢;exact H.inj m m' hm bP aD hl eQ
 ·exact fun b hb=>Nat.lt_of_lt_of_le (H.gH b hb) bV
 ·intro m m' gr mo sz xs bo jI aF av hm bP hb aL aD b cT;by_cases bJ:m=n
  ·subst bJ;have jF:m'≠m:=fun e=>aD e.symm;rw[e1 m' jF] at bP;rw[bR] at hm;injection hm with hm;simp only[bR,e2 m' jF] at cT⊢;exact DK gr mo sz xs hm hb m' bo jI aF av jF bP aL b cT
  ·rw[e1 m bJ] at hm;by_cases jF:m'=n
   ·subst jF;rw[bR] at bP;injection bP with bP;simp only[bR,e2 m bJ] at cT⊢;exact fun Rf=>DK bo jI aF av bP aL m gr mo sz xs bJ hm hb b Rf cT
   ·rw[e1 m' jF] at bP;simp only[e2 m bJ,e2 m' jF] at cT⊢;exact H.gv m m' gr mo sz xs bo jI aF av hm bP hb aL aD b cT
 ·intro m gr sz xs hm b hb m' bP eQ;by_cases bJ:m=n
  ·subst bJ;rw[bR] at hm;injection hm with hm;simp only[bR] at hb;have:=sn gr sz xs hm b hb;by_cases jF:m'=m
   ·subst jF;simp only[bR] at eQ⊢;exact this.1 eQ
   ·rw[e1 m' jF] at bP;simp only[e2 m' jF] at eQ⊢;exact this.2 m' jF bP eQ
  ·rw[e1 m bJ] at hm;simp only[e2 m bJ] at hb;by_cases jF:m'=n
   ·subst jF;simp only[bR] at eQ⊢;exact RM eQ m gr sz xs bJ hm b hb
   ·rw[e1 m' jF] at bP;simp only[e2 m' jF] at eQ⊢;exact H.live m gr sz xs hm b hb m' bP eQ
 ·intro i pc hi;obtain⟨a1,a2⟩:=H.ta i pc hi;exact⟨a1,fun b hb=>⟨(a2 b hb).1,yZ b (H.gH b (a2 b hb).1) (a2 b hb).2.1,(a2 b hb).2.2⟩⟩
 ·exact H.xU
 ·intro i pc m gr mo sz xs b hi hm iE hb;by_cases bJ:m=n
  ·subst bJ;rw[bR] at hm;injection hm with hm;simp only[bR];exact mN gr mo sz xs hm iE i pc b hi hb
  ·rw[e1 m bJ] at hm;simp only[e2 m bJ];exact H.tc i pc m gr mo sz xs b hi hm iE hb
theorem HR.put (H:HR B E w G h used tk) {n:Nat} {blk:aq} {p:PB}
  (hw:∀b,b<w.heap.size->(p.nl=false->b≠p.b)->w'.heap[b]? =w.heap[b]?) (bV:w.heap.size<=w'.heap.size)
  (yZ:∀b,b<w.heap.size->d9 w b->d9 w' b)
  (hu:∀m,used m=true->used' m=true) (Sc:used' n=true)
  (qS:p.nl=false->¬G.Im p.b/\(B<=p.b\/E p.b)/\p.b<w'.heap.size)
  (u5:p.nl=false->∀m,m≠n->h m≠none->(G.g m).nl=false->(G.g m).b≠p.b)
  (RM:p.nl=false->∀m gr sz xs,m≠n->h m=some (.row gr .live sz xs)->∀b,bh b (G.g m).px->b≠p.b)
  (vh:∀cs c m,blk=.box cs->c∈cs->c.ref m->used' m=true)
  (K:bm w G h (fun n=>used n=true) w' ⟨G.Im,az G.g n p⟩ (az h n (some blk)))
  (jC:WI B E w' ⟨G.Im,az G.g n p⟩ (az h n (some blk)) p blk)
  (DK:∀gr m sz xs,blk=.row gr m sz xs->m≠ .aJ->∀n' bo m' aF av,n'≠n->h n'=some (.row bo m' aF av)->m'≠ .aJ->∀b,bh b p.px->¬bh b (G.g n').px)
  (sn:∀gr sz xs,blk=.row gr .live sz xs->∀b,bh b p.px->(p.nl=false->b≠p.b)/\∀n',n'≠n->h n'≠none->(G.g n').nl=false->b≠(G.g n').b)
  (mN:∀gr m sz xs,blk=.row gr m sz xs->m≠ .aJ->∀(i:Nat) (pc:PC) (b:Nat),tk[i]? =some pc->aZ b pc->¬bh b p.px)
  (mJ:p.nl=false->p.b<w.heap.size->∀b,(∃m gr mo sz xs,m≠n/\h m=some (.row gr mo sz xs)/\bh b (G.g m).px)->b≠p.b):
  HR B E w' ⟨G.Im,az G.g n p⟩ (az h n (some blk)) used' tk:=
 H.adF hw bV yZ hu Sc qS u5 RM vh (fun m cs c v _ hm hc hv=>hv.fW K fun q hq=>H.ik m cs c q hm hc hq) jC DK sn mN mJ
theorem HR.del (H:HR B E w G h used tk) (n:Nat):HR B E w G (az h n none) used tk:=by
 have e0:∀m b,az h n none m=some b->h m=some b/\m≠n:=fun m b hm=>by
  by_cases bJ:m=n
  ·subst bJ;rw[bR] at hm;cases hm
  ·rw[cN _ _ _ _ bJ] at hm;exact⟨hm,bJ⟩
 have e1:∀m,az h n none m≠none->h m≠none:=fun m hm=>by
  by_cases bJ:m=n
  ·subst bJ;rw[bR] at hm;exact absurd rfl hm
  ·rwa[cN _ _ _ _ bJ] at hm
 have K:bm w G h (fun n=>used n=true) w G (az h n none):=
  ⟨fun _ h=>h,fun _ _ _=>rfl,fun m _ hm=>⟨e1 m hm,rfl,rfl,rfl,rfl,rfl⟩,fun m gr sz xs _ hm=>⟨⟨gr,xs,(e0 m _ hm).1⟩,fun k j pc h1 h2=>⟨pc,h1,rfl,h2⟩⟩⟩
 refine⟨fun m hm=>H.jh m (e1 m hm),fun m cs c q hm=>H.ik m cs c q (e0 m _ hm).1,fun m cs hm=>?_,fun m gr mo sz xs hm=>H.row m gr mo sz xs (e0 m _ hm).1,
  fun m hm=>H.own m (e1 m hm),fun m m' hm bP=>H.inj m m' (e1 m hm) (e1 m' bP),H.gH,H.pU,fun m m' gr mo sz xs bo jI aF av hm bP=>H.gv m m' gr mo sz xs bo jI aF av (e0 m _ hm).1 (e0 m' _ bP).1,
  fun m gr sz xs hm b hb m' bP=>H.live m gr sz xs (e0 m _ hm).1 b hb m' (e1 m' bP),H.ta,H.xU,fun i pc m gr mo sz xs b hi hm=>H.tc i pc m gr mo sz xs b hi (e0 m _ hm).1⟩
 obtain⟨a1,a2,a3⟩:=H.box m cs (e0 m _ hm).1;refine⟨a1,a2,fun j c hj=>?_⟩;obtain⟨v,b1,b2,b3⟩:=a3 j c hj;exact⟨v,b1,b2,b3.fW K fun q hq=>H.ik m cs c q (e0 m _ hm).1 (List.mem_of_getElem? hj) hq⟩
theorem bm.del (n:Nat) (u:Nat->Prop):bm w G h u w G (az h n none):=by
 have e1:∀m b,az h n none m=some b->h m=some b:=fun m b hm=>by
  by_cases bJ:m=n
  ·subst bJ;rw[bR] at hm;cases hm
  ·rwa[cN _ _ _ _ bJ] at hm
 refine⟨fun _ h=>h,fun _ _ _=>rfl,fun m _ hm=>?_,fun m gr sz xs _ hm=>⟨⟨gr,xs,e1 m _ hm⟩,fun k j pc h1 h2=>⟨pc,h1,rfl,h2⟩⟩⟩;cases hh:az h n none m with
 |none=>exact absurd hh hm
 |some b=>rw[e1 m b hh];exact⟨by simp,rfl,rfl,rfl,rfl,rfl⟩
end
theorem qC {α:Type} {px:List (List α)} {lo len k j:Nat} {c:α} (h:At ((px.drop lo).take len) k j c):At px (lo+k) j c/\k<len:=by
 obtain⟨e,he,hj⟩:=h;rw[List.getElem?_take] at he;split at he
 ·rename_i hk;rw[List.getElem?_drop] at he;exact⟨⟨e,he,hj⟩,hk⟩
 ·cases he
section
variable {B:Nat} {E:Ex} {w0 w w':World} {G G':Gh} {h h':Nat->Option aq} {used used':Nat->Bool} {tk:List PC}
def jM (p:PB) (sz lo len:Nat) (v:Value):PC:=
 match v with
 |.slice a _ cap=>.list sz a cap ((p.px.drop lo).take len)
 |_=>.bool false
theorem E5 {gr:Bool} {m:Mode} {sz:Nat} {xs:List (List C)} {p:PB} (hr:uE B E w G gr m sz xs p) {lo len:Nat} {v:Value} (hv:gE p sz lo len v) (hl:lo+len<=xs.length):
  (jM p sz lo len v).er=.list sz ((xs.drop lo).take len)/\(jM p sz lo len v).val=v/\Good w (jM p sz lo len v)/\
  (∀b,aZ b (jM p sz lo len v)->(p.nl=false/\b=p.b)\/bh b p.px):=by
 have fw:p.px.length=xs.length:=by rw[hr.er];simp
 rcases hv with⟨hn,rfl,rfl,rfl⟩|⟨hn,a,rfl,hc,ha⟩
 ·have h0:=(hr.nl hn).1;refine⟨?_,?_,?_,?_⟩
  ·simp[jM,PC.dV]
  ·simp[jM,PC.val]
  ·simp only[jM,List.drop_zero,List.take_zero];exact .nil _ _ _ hr.pos
  ·intro b hb;simp only[jM,List.drop_zero,List.take_zero] at hb;rw[aZ.kZ] at hb;rcases hb with⟨hb,_⟩|⟨k,j,c,⟨e,he,_⟩,_⟩
   ·exact absurd rfl hb
   ·simp at he
 ·have hlen:((p.px.drop lo).take len).length=len:=by simp;omega
  refine⟨?_,?_,?_,?_⟩
  ·simp only[jM,PC.dV];rw[hr.er,List.map_take,List.map_drop]
  ·simp[jM,PC.val];omega
  ·simp only[jM];by_cases h0:(p.px.drop lo).take len=[]
   ·rw[h0];exact .nil _ _ _ hr.pos
   ·have RL:0<len:=by
     rcases Nat.eq_zero_or_pos len with hz|hz
     ·subst hz;simp at h0
     ·exact hz
    have e:=ha (.inl (by omega));subst e;obtain⟨a1,a2,a3⟩:=hr.eK hn;refine .cons sz p.b (p.o+lo*sz) _ _ h0 (by omega) hr.pos (fun e he=>a2.1 e (List.mem_of_mem_drop (List.mem_of_mem_take he))) (fun k j c hk=>?_) (fun k j c hk=>a2.2.2 _ _ _ (qC hk).1);have:=a2.2.1 _ _ _ (qC hk).1;rw[Nat.add_mul] at this;rw[<-this];congr 2;omega
  ·intro b hb;simp only[jM] at hb;rw[aZ.kZ] at hb;rcases hb with⟨hb,o,ho⟩|⟨k,j,c,hk,hb⟩
   ·have RL:0<len:=by
     rcases Nat.eq_zero_or_pos len with hz|hz
     ·subst hz;simp at hb
     ·exact hz
    have e:=ha (.inl (by omega));rw[e] at ho;injection ho with ho;exact .inl ⟨hn,(lz ho).1.symm⟩
   ·exact .inr ⟨_,_,_,(qC hk).1,hb⟩
theorem HR.cO (H:HR B E w G h used tk) {c:ah} {x:C} {v:Value} (hx:cO h c=some x) (hc:RC w G h c v):∃pc:PC,pc.er=x/\pc.val=v/\Good w pc:=by
 cases c with
 |c y=>
  simp only[Am.cO] at hx;injection hx with hx;subst hx;obtain⟨pc,h1,h2,h3,_⟩:=hc;exact⟨pc,h1,h2,h3⟩
 |nil sz=>
  simp only[Am.cO] at hx;split at hx
  ·rename_i eS;injection hx with hx;subst hx;have dt:v=.slice none 0 0:=hc;subst dt;exact⟨.list sz none 0 [],by simp[PC.dV],rfl,.nil _ _ _ eS⟩
  ·cases hx
 |sl n sz lo len=>
  simp only[Am.cO] at hx;split at hx
  ·rename_i gr m rs xs hn;split at hx
   ·rename_i cV;obtain⟨rfl,hl⟩:=cV;injection hx with hx;subst hx;have hs:gE (G.g n) rs lo len v:=hc (by rw[hn];simp);obtain⟨a1,a2,a3,_⟩:=E5 (H.row n gr m rs xs hn) hs hl;exact⟨_,a1,a2,a3⟩
   ·cases hx
  ·cases hx
 |bC n k aB off sz len=>
  simp only[Am.cO] at hx;split at hx
  ·rename_i gr rs xs hn;split at hx
   ·rename_i cV;subst cV;obtain⟨pc,p1,p2,p3⟩:=hc gr xs hn;have hr:=H.row n gr .live rs xs hn;have aR:(G.g n).nl=false:=by
     cases hq:(G.g n).nl with
     |false=>rfl
     |true=>obtain⟨e,he,_⟩:=p1;rw[(hr.nl hq).1] at he;simp at he
    refine⟨pc,?_,p2,(hr.eK aR).2.1.2.2 _ _ _ p1⟩;obtain⟨e,he,hj⟩:=p1;rw[hr.er] at hx;simp[he,hj] at hx;exact hx
   ·cases hx
  ·cases hx
 |ptr _ _ _ _=>simp[Am.cO] at hx
 |dg _ _=>simp[Am.cO] at hx
 |cH _ _ _ _ _ _=>simp[Am.cO] at hx
 |fn _ _=>simp[Am.cO] at hx
 |db _ _ _ _ _ _=>simp[Am.cO] at hx
 |bq=>simp[Am.cO] at hx
theorem HR.iN (H:HR B E w G h used tk):∀{cs:List ah} {xs:List C} {vs:List Value},iN h cs=some xs->dj w G h cs vs->
  ∃bD:List PC,bD.map PC.er=xs/\bD.map PC.val=vs/\∀pc∈bD,Good w pc
 |[],xs,vs,hx,hc=>by
  simp only[Am.iN] at hx;injection hx with hx;subst hx;have:vs=[]:=List.eq_nil_of_length_eq_zero (by simpa using hc.1);subst this;exact⟨[],rfl,rfl,by simp⟩
 |c::cs,xs,vs,hx,hc=>by
  simp only[Am.iN] at hx;split at hx
  ·rename_i x av e1 e2;injection hx with hx;subst hx;obtain⟨hlen,cG⟩:=hc;match vs,hlen with
   |v::vs,hlen=>
    obtain⟨pc,a1,a2,a3⟩:=H.cO e1 (cG 0 c v rfl rfl).2;obtain⟨bD,b1,b2,b3⟩:=H.iN e2 (cs:=cs) (vs:=vs) ⟨by simpa using hlen,fun j c u h1 h2=>cG (j+1) c u h1 h2⟩;refine⟨pc::bD,by simp[a1,b1],by simp[a2,b2],fun q hq=>?_⟩;cases hq with
    |head=>exact a3
    |tail _ hq=>exact b3 q hq
  ·cases hx
def Cg (w:World) (d:Dv) (v:Value):Prop:=
 match d.1 with
 |.one=>∃bD:List PC,bD.map PC.er=d.2/\(∀pc∈bD,Good w pc)/\bD.map PC.val=[v]
 |.agg=>∃bD:List PC,bD.map PC.er=d.2/\(∀pc∈bD,Good w pc)/\v=.agg (bD.map PC.val).toArray
 |.ptr=>∃(bD:List PC) (b o:Nat),bD.map PC.er=d.2/\v=.pointer (some (ad b o))/\b<w.heap.size/\
  ∀j c,bD[j]? =some c->w.cell? (ad b (o+j))=some c.val/\Good w c
def FB (w:World) (ds:List Dv) (vs:List Value):Prop:=
 vs.length=ds.length/\∀(j:Nat) (d:Dv) (v:Value),ds[j]? =some d->vs[j]? =some v->Cg w d v
theorem HR.je (H:HR B E w G h used tk) {x:aj} {d:Dv} {v:Value} (hx:je h x=some d) (hc:RA w G h x v):Cg w d v:=by
 have one:∀c:ah,(Am.cO h c).map (fun x=>((.one,[x]):Dv))=some d->RA w G h (.one c) v->Cg w d v:=by
  intro c hx hc;cases hv:Am.cO h c with
  |none=>rw[hv] at hx;cases hx
  |some y=>
   rw[hv] at hx;simp at hx;subst hx;rcases hc with rfl|hc
   ·simp[Am.cO] at hv
   ·have dt:dj w G h [c] [v]:=hc;obtain⟨pc,a1,a2,a3⟩:=H.cO hv (dt.2 0 c v rfl rfl).2;exact⟨[pc],by simp[a1],by simpa using a3,by simp[a2]⟩
 cases x with
 |one c=>
  cases c with
  |ptr n k sz off=>
   simp only[Am.je] at hx;split at hx
   ·rename_i cs hn;split at hx
    ·rename_i cV;obtain⟨rfl,rfl⟩:=cV;cases hv:Am.iN h cs with
     |none=>rw[hv] at hx;cases hx
     |some xs=>
      rw[hv] at hx;simp at hx;subst hx;rcases hc with hc|hc
      ·cases hc
      ·have dt:dj w G h [.ptr n 0 sz 0] [v]:=hc;have hp:=(dt.2 0 _ v rfl rfl).2 (by rw[hn];simp);obtain⟨qT,qU⟩:=hp;obtain⟨q1,q2,q3⟩:=H.box n cs hn;have cW:∀(cs:List ah) (o:Nat) (xs:List C),(∀(j:Nat) (c:ah),cs[j]? =some c->∃v,w.cell? (ad (G.g n).b (o+j))=some v/\v.oneCell'=true/\RC w G h c v)->Am.iN h cs=some xs->
         ∃bD:List PC,bD.map PC.er=xs/\∀j c,bD[j]? =some c->w.cell? (ad (G.g n).b (o+j))=some c.val/\Good w c:=by
        intro cs;induction cs with
        |nil=>
         intro o xs _ hx;simp only[Am.iN] at hx;injection hx with hx;subst hx;exact⟨[],rfl,by simp⟩
        |cons c cs ih=>
         intro o xs gW hx;simp only[Am.iN] at hx;split at hx
         ·rename_i x av e1 e2;injection hx with hx;subst hx;obtain⟨u,u1,_,u2⟩:=gW 0 c rfl;obtain⟨pc,a1,a2,a3⟩:=H.cO e1 u2;obtain⟨bD,b1,b2⟩:=ih (o+1) av (fun j c hj=>by
           have:=gW (j+1) c hj;rwa[show o+(j+1)=o+1+j from by omega] at this) e2
          refine⟨pc::bD,by simp[a1,b1],fun j c hj=>?_⟩;cases j with
          |zero=>simp at hj;subst hj;rw[a2];exact⟨u1,a3⟩
          |succ j=>
           have:=b2 j c (by simpa using hj);rwa[show o+1+j=o+(j+1) from by omega] at this
         ·cases hx
       obtain⟨bD,b1,b2⟩:=cW cs (G.g n).o xs q3 hv;exact⟨bD,(G.g n).b,(G.g n).o,b1,by simpa using qU,q2.lt,b2⟩
    ·cases hx
   ·cases hx
  |dg xs off=>
   simp only[Am.je] at hx;split at hx
   ·rename_i h0;subst h0;injection hx with hx;subst hx;rcases hc with hc|hc
    ·cases hc
    ·have dt:dj w G h [.dg xs 0] [v]:=hc;obtain⟨b,o,pe,p1,p2,p3,p4⟩:=(dt.2 0 _ v rfl rfl).2;exact⟨pe,b,o,p2,by simpa using p1,H.gH b p3,fun j c hj=>⟨(p4 j c hj).1,(p4 j c hj).2.1⟩⟩
   ·cases hx
  |c y=>exact one (.c y) hx hc
  |nil sz=>exact one (.nil sz) hx hc
  |sl n sz lo len=>exact one (.sl n sz lo len) hx hc
  |bC n k aB off sz len=>exact one (.bC n k aB off sz len) hx hc
  |db n k aB off sz i=>exact one (.db n k aB off sz i) hx hc
  |cH xs off j n sz len=>exact one (.cH xs off j n sz len) hx hc
  |fn f cP=>exact one (.fn f cP) hx hc
  |bq=>exact one .bq hx hc
 |agg cs=>
  simp only[Am.je] at hx;cases hv:Am.iN h cs with
  |none=>rw[hv] at hx;cases hx
  |some xs=>
   rw[hv] at hx;simp at hx;subst hx;obtain⟨vs,e,hl⟩:∃vs:List Value,v=.agg vs.toArray/\dj w G h cs vs:=hc;obtain⟨bD,a1,a2,a3⟩:=H.iN hv hl;exact⟨bD,a1,a3,by rw[e,a2]⟩
 |bK xs=>simp[Am.je] at hx
theorem HR.lm (H:HR B E w G h used tk):∀{xs:List aj} {ds:List Dv} {vs:List Value},lm h xs=some ds->vs.length=xs.length->
  (∀(j:Nat) (x:aj) (v:Value),xs[j]? =some x->vs[j]? =some v->RA w G h x v)->FB w ds vs
 |[],ds,vs,hx,hl,hc=>by
  simp only[Am.lm] at hx;injection hx with hx;subst hx;exact⟨by simpa using hl,by simp⟩
 |x::xs,ds,vs,hx,hl,hc=>by
  simp only[Am.lm] at hx;split at hx
  ·rename_i d uP e1 e2;injection hx with hx;subst hx;match vs,hl with
   |v::vs,hl=>
    have a:=H.je e1 (hc 0 x v rfl rfl);obtain⟨b1,b2⟩:=H.lm e2 (xs:=xs) (vs:=vs) (by simpa using hl) (fun j x v h1 h2=>hc (j+1) x v h1 h2);refine⟨by simp[b1],fun j d v hj hv=>?_⟩;cases j with
    |zero=>simp at hj hv;subst hj;subst hv;exact a
    |succ j=>exact b2 j d v (by simpa using hj) (by simpa using hv)
  ·cases hx
end
section
variable {B:Nat} {E:Ex} {w0 w w':World} {G G':Gh} {h h':Nat->Option aq} {used used':Nat->Bool} {tk:List PC}
theorem bm.vn (S:Nat->Prop) (u:Nat->Prop):bm w G h u w ⟨fun b=>G.Im b\/S b,G.g⟩ h:=
 ⟨fun _ h=>.inl h,fun _ _ _=>rfl,fun _ _ h=>⟨h,rfl,rfl,rfl,rfl,rfl⟩,fun n gr sz xs _ hn=>⟨⟨gr,xs,hn⟩,fun k j pc h1 h2=>⟨pc,h1,rfl,h2⟩⟩⟩
theorem HR.vn (H:HR B E w G h used tk) (S:Nat->Prop) (h1:∀b,S b->b<w.heap.size) (h2:∀b,S b->∀n,h n≠none->(G.g n).nl=false->b≠(G.g n).b)
  (h3:∀b,S b->∀n gr sz xs,h n=some (.row gr .live sz xs)->¬bh b (G.g n).px) (h4:∀b,S b->B<=b\/E b\/E.a b):HR B E w ⟨fun b=>G.Im b\/S b,G.g⟩ h used tk:=by
 refine⟨H.jh,H.ik,fun n cs hn=>?_,fun n gr m sz xs hn=>?_,fun n hn hl=>?_,H.inj,?_,fun b hb=>hb.elim (H.pU b) (h4 b),H.gv,H.live,fun i pc hi=>?_,H.xU,H.tc⟩
 ·obtain⟨a1,a2,a3⟩:=H.box n cs hn;refine⟨a1,a2,fun j c hj=>?_⟩;obtain⟨v,b1,b2,b3⟩:=a3 j c hj;exact⟨v,b1,b2,b3.fW (bm.vn S (fun n=>used n=true)) fun q hq=>H.ik n cs c q hn (List.mem_of_getElem? hj) hq⟩
 ·have hr:=H.row n gr m sz xs hn;refine⟨hr.pos,hr.er,hr.nl,hr.eK,hr.room,?_,hr.nr⟩;have hm:=hr.mode;cases m with
  |aJ=>exact fun b hb=>.inl (hm b hb)
  |aN=>exact⟨fun b hb=>⟨.inl (hm.1 b hb).1,(hm.1 b hb).2⟩,hm.2⟩
  |live=>exact⟨fun b hb=>⟨fun hi=>hi.elim (hm.1 b hb).1 (fun hs=>h3 b hs n gr sz xs hn hb),(hm.1 b hb).2⟩,hm.2⟩
 ·obtain⟨a1,a2,a3⟩:=H.own n hn hl;exact⟨fun hi=>hi.elim a1 (fun hs=>h2 _ hs n hn hl rfl),a2,a3⟩
 ·exact fun b hb=>hb.elim (H.gH b) (h1 b)
 ·obtain⟨a1,a2⟩:=H.ta i pc hi;exact⟨a1,fun b hb=>⟨.inl (a2 b hb).1,(a2 b hb).2⟩⟩
theorem HR.xT {l:List PC} (H:HR B E w G h used (tk++l)):HR B E w G h used tk:=by
 have e:∀(i:Nat) (pc:PC),tk[i]? =some pc->(tk++l)[i]? =some pc:=fun i pc hi=>by
  rw[List.getElem?_append_left (List.getElem?_eq_some_iff.1 hi).1];exact hi
 exact⟨H.jh,H.ik,H.box,H.row,H.own,H.inj,H.gH,H.pU,H.gv,H.live,fun i pc hi=>H.ta i pc (e i pc hi),fun i j pc dC b iq h1 h2=>H.xU i j pc dC b iq (e i pc h1) (e j dC h2),
  fun i pc n gr m sz xs b hi=>H.tc i pc n gr m sz xs b (e i pc hi)⟩
theorem HR.Wq (H:HR B E w G h used tk) {pc:PC} (h1:Sep pc) (h2:∀b,aZ b pc->G.Im b/\d9 w b/\(B<=b\/E b))
  (h3:∀(i:Nat) (q:PC) (b:Nat),tk[i]? =some q->aZ b q->¬aZ b pc)
  (h4:∀n gr m sz xs b,h n=some (.row gr m sz xs)->m≠ .aJ->aZ b pc->¬bh b (G.g n).px):HR B E w G h used (tk++[pc]):=by
 have e:∀(i:Nat) (q:PC),(tk++[pc])[i]? =some q->(i<tk.length/\tk[i]? =some q)\/(i=tk.length/\q=pc):=fun i q hi=>by
  rcases Nat.lt_trichotomy i tk.length with cu|fA|AY
  ·rw[List.getElem?_append_left cu] at hi;exact .inl ⟨cu,hi⟩
  ·subst fA;simp at hi;exact .inr ⟨rfl,hi.symm⟩
  ·rw[List.getElem?_eq_none (by simp;omega)] at hi;cases hi
 refine⟨H.jh,H.ik,H.box,H.row,H.own,H.inj,H.gH,H.pU,H.gv,H.live,fun i q hi=>?_,fun i j q q' b iq hi hj hb=>?_,fun i q n gr m sz xs b hi hn hm hb=>?_⟩
 ·rcases e i q hi with⟨_,hi⟩|⟨_,rfl⟩
  ·exact H.ta i q hi
  ·exact⟨h1,h2⟩
 ·rcases e i q hi with⟨_,hi'⟩|⟨ei,eq⟩
  ·rcases e j q' hj with⟨_,nj⟩|⟨_,Yl⟩
   ·exact H.xU i j q q' b iq hi' nj hb
   ·rw[Yl];exact h3 i q b hi' hb
  ·rcases e j q' hj with⟨_,nj⟩|⟨ej,Yl⟩
   ·rw[eq] at hb;exact fun aL=>h3 j q' b nj aL hb
   ·omega
 ·rcases e i q hi with⟨_,hi⟩|⟨_,rfl⟩
  ·exact H.tc i q n gr m sz xs b hi hn hm hb
  ·exact h4 n gr m sz xs b hn hm hb
theorem Sep.hY {pc:PC} (hs:pc.er.fk=true):Sep pc/\∀b,¬aZ b pc:=by
 cases pc with
 |int k n=>exact⟨.int k n,fun b hb=>by cases hb⟩
 |bool b=>exact⟨.bool b,fun b hb=>by cases hb⟩
 |list sz a cap xs=>simp[PC.dV,C.fk] at hs
theorem pI.hY {pc:PC} (h:pc.er.fk=true):pI w pc:=by
 cases pc with
 |int k n=>trivial
 |bool b=>trivial
 |list sz a cap xs=>rw[PC.dV] at h;cases h
theorem nK {n m:Nat} {b:aq} (hm:az h n none m=some b):h m=some b/\m≠n:=by
 by_cases bJ:m=n
 ·subst bJ;rw[bR] at hm;cases hm
 ·rw[cN _ _ _ _ bJ] at hm;exact⟨hm,bJ⟩
theorem ww {n m:Nat} (hm:az h n none m≠none):h m≠none/\m≠n:=by
 cases hh:az h n none m with
 |none=>exact absurd hh hm
 |some b=>obtain⟨a,b⟩:=nK hh;exact⟨by rw[a];simp,b⟩
def N3 (p:PB):Nat->Prop:=fun b=>(p.nl=false/\b=p.b)\/bh b p.px
theorem HR.freeze (H:HR B E w G h used tk) {n:Nat} {gr:Bool} {m:Mode} {rs:Nat} {xs:List (List C)} (hn:h n=some (.row gr m rs xs)):
  HR B E w ⟨fun b=>G.Im b\/N3 (G.g n) b,G.g⟩ (az h n none) used tk:=by
 have hr:=H.row n gr m rs xs hn;have bN:h n≠none:=by rw[hn];simp
 have gj:∀b,bh b (G.g n).px->G.Im b\/m=.live:=fun b hb=>by
  have hm:=hr.mode;cases m with
  |aJ=>exact .inl (hm b hb)
  |aN=>exact .inl (hm.1 b hb).1
  |live=>exact .inr rfl
 refine(H.del n).vn (N3 (G.g n)) (fun b hb=>?_) (fun b hb q hq hl=>?_) (fun b hb q bo aF av hq cT=>?_) (fun b hb=>?_)
 ·rcases hb with⟨h1,rfl⟩|hb
  ·exact(H.own n bN h1).2.2
  ·exact H.po hn hb
 ·obtain⟨mL,gM⟩:=ww hq;rcases hb with⟨h1,rfl⟩|hb
  ·exact H.inj n q bN mL (Ne.symm gM) h1 hl
  ·rcases gj b hb with hi|rfl
   ·rintro rfl;exact(H.own q mL hl).1 hi
   ·exact H.live n gr rs xs hn b hb q mL hl
 ·obtain⟨mL,gM⟩:=nK hq;rcases hb with⟨h1,rfl⟩|hb
  ·exact H.live q bo aF av mL _ cT n bN h1 rfl
  ·rcases gj b hb with hi|rfl
   ·exact((H.row q bo .live aF av mL).mode.1 b cT).1 hi
   ·exact H.gv n q gr .live rs xs bo .live aF av hn mL (by simp) (by simp) (Ne.symm gM) b hb cT
 ·rcases hb with⟨h1,rfl⟩|hb
  ·exact(H.own n bN h1).2.1.imp id .inl
  ·rcases gj b hb with hi|rfl
   ·exact H.pU b hi
   ·exact(hr.mode.1 b hb).2.2.imp id .inl
theorem iO.sub {px:List (List PC)} (hs:iO px) (lo len:Nat):iO ((px.drop lo).take len):=by
 refine⟨fun k j c hk=>hs.1 _ _ _ (qC hk).1,fun k j c k' j' c' b hk bL aD hb=>hs.2 _ _ _ _ _ _ b (qC hk).1 (qC bL).1 (fun e=>aD ?_) hb⟩;injection e with e1 e2;rw[show k=k' by omega,e2]
theorem HR.fY {σ σ1:St} (H:HR B E w G σ.h σ.used tk) {c:ah} {x:C} {o:Bool} {v:Value} (hx:σ.fY c=some (x,o,σ1)) (hc:RC w G σ.h c v):
  ∃(Im':Nat->Prop) (pc:PC),pc.er=x/\pc.val=v/\Good w pc/\(∀b,aZ b pc->Im' b)/\
   HR B E w ⟨Im',G.g⟩ σ1.h σ.used (if o=true then tk++[pc] else tk)/\bm w G σ.h (fun n=>σ.used n=true) w ⟨Im',G.g⟩ σ1.h/\σ1.env=σ.env/\σ1.used=σ.used/\
   (∀n b,σ1.h n=some b->σ.h n=some b):=by
 cases c with
 |c y=>
  simp only[St.fY] at hx;injection hx with hx;injection hx with j0 eJ;injection eJ with eJ qV;subst j0 eJ qV;obtain⟨pc,h1,h2,h3,h4⟩:=hc;refine⟨G.Im,pc,h1,h2,h3,h4,?_,bm.refl _ _ _ _,rfl,rfl,fun _ _ h=>h⟩;by_cases hs:y.fk=true
  ·rw[if_pos hs];obtain⟨s1,s2⟩:=Sep.hY (pc:=pc) (by rw[h1];exact hs);exact H.Wq s1 (fun b hb=>absurd hb (s2 b)) (fun _ _ b _ _=>s2 b) (fun _ _ _ _ _ b _ _ hb=>absurd hb (s2 b))
  ·rw[if_neg hs];exact H
 |nil sz=>
  simp only[St.fY] at hx;split at hx
  ·rename_i eS;injection hx with hx;injection hx with j0 eJ;injection eJ with eJ qV;subst j0 eJ qV;have dt:v=.slice none 0 0:=hc;subst dt;have cm:∀b,¬aZ b (.list sz none 0 []):=fun b hb=>by
    rw[aZ.kZ] at hb;rcases hb with⟨hb,_⟩|⟨k,j,c,⟨e,he,_⟩,_⟩
    ·exact absurd rfl hb
    ·simp at he
   refine⟨G.Im,.list sz none 0 [],by simp[PC.dV],rfl,.nil _ _ _ eS,fun b hb=>absurd hb (cm b),?_,bm.refl _ _ _ _,rfl,rfl,fun _ _ h=>h⟩;rw[if_pos rfl];refine H.Wq (.list _ _ _ _ ?_ ?_ ?_) (fun b hb=>absurd hb (cm b)) (fun _ _ b _ _=>cm b) (fun _ _ _ _ _ b _ _ hb=>absurd hb (cm b))
   ·rintro k j c ⟨e,he,_⟩;simp at he
   ·rintro b o k j c _ ⟨e,he,_⟩;simp at he
   ·rintro k j c k' j' c' b ⟨e,he,_⟩;simp at he
  ·cases hx
 |sl n sz lo len=>
  simp only[St.fY] at hx;split at hx
  ·rename_i gr m rs xs hn;split at hx
   ·rename_i cV;obtain⟨rfl,rfl,gX⟩:=cV;injection hx with hx;injection hx with j0 eJ;injection eJ with eJ qV;subst j0 eJ qV;have hl:0+len<=xs.length:=by omega
    have bN:σ.h n≠none:=by rw[hn];simp
    have hs:gE (G.g n) rs 0 len v:=hc bN;have hr:=H.row n gr m rs xs hn;obtain⟨a1,a2,a3,a4⟩:=E5 hr hs hl;have HF:=H.freeze hn;have K1:bm w G σ.h (fun n=>σ.used n=true) w ⟨fun b=>G.Im b\/N3 (G.g n) b,G.g⟩ (az σ.h n none):=
     bm.trans (fun _ h=>h) (bm.del n (fun n=>σ.used n=true)) (bm.vn (N3 (G.g n)) (fun n=>σ.used n=true))
    refine⟨_,jM (G.g n) rs 0 len v,by simpa using a1,a2,a3,fun b hb=>.inr (a4 b hb),?_,K1,rfl,rfl,fun q b hq=>(nK hq).1⟩;by_cases hm:m≠ .aJ
    ·rw[if_pos (by simpa using hm)];have qS:(∀b,bh b (G.g n).px->d9 w b/\(B<=b\/E b))/\iO (G.g n).px/\(∀b,bh b (G.g n).px->(G.g n).nl=false->b≠(G.g n).b):=by
      have dW:=hr.mode;cases m with
      |aJ=>exact absurd rfl hm
      |aN=>exact⟨fun b hb=>(dW.1 b hb).2,dW.2,fun b hb hl fA=>(H.own n bN hl).1 (fA▸(dW.1 b hb).1)⟩
      |live=>exact⟨fun b hb=>(dW.1 b hb).2,dW.2,fun b hb hl=>H.live n gr rs xs hn b hb n bN hl⟩
     obtain⟨o1,o2,o3⟩:=qS;refine HF.Wq ?_ (fun b hb=>⟨.inr (a4 b hb),?_⟩) (fun i q b hi hb aL=>?_) (fun q bo m' aF av b hq bP hb cT=>?_)
     ·
      rcases hs with⟨aR,rfl,_,rfl⟩|⟨aR,a,rfl,io,ha⟩
      ·simp only[jM];have hz:(List.take 0 (List.drop 0 (G.g n).px))=[]:=by simp
       rw[hz];refine .list _ _ _ _ ?_ ?_ ?_
       ·rintro k j c ⟨e,he,_⟩;simp at he
       ·rintro b o k j c _ ⟨e,he,_⟩;simp at he
       ·rintro k j c k' j' c' b ⟨e,he,_⟩;simp at he
      ·simp only[jM];have Hj:=o2.sub 0 len;refine .list _ _ _ _ Hj.1 (fun b o k j c gi hk hb=>?_) Hj.2;have bL:=(qC hk).1;have RL:0<len:=by have:=(qC hk).2;omega
       have e:=ha (.inl (by omega));rw[e] at gi;injection gi with gi;exact o3 b ⟨_,_,_,bL,hb⟩ aR (lz gi).1.symm
     ·rcases a4 b hb with⟨eQ,rfl⟩|aL
      ·exact⟨(hr.eK eQ).1,(H.own n bN eQ).2.1⟩
      ·exact o1 b aL
     ·rcases a4 b aL with⟨eQ,rfl⟩|cT
      ·exact(H.own n bN eQ).1 ((H.ta i q hi).2 _ hb).1
      ·exact H.tc i q n gr m rs xs b hi hn hm hb cT
     ·obtain⟨mL,gM⟩:=nK hq;rcases a4 b hb with⟨eQ,rfl⟩|aL
      ·have dW:=(H.row q bo m' aF av mL).mode;cases m' with
       |aJ=>exact absurd rfl bP
       |aN=>exact(H.own n bN eQ).1 (dW.1 _ cT).1
       |live=>exact H.live q bo aF av mL _ cT n bN eQ rfl
      ·exact H.gv n q gr m rs xs bo m' aF av hn mL hm bP (Ne.symm gM) b aL cT
    ·rw[if_neg (by simpa using hm)];exact HF
   ·cases hx
  ·cases hx
 |ptr _ _ _ _=>simp[St.fY] at hx
 |dg _ _=>simp[St.fY] at hx
 |cH _ _ _ _ _ _=>simp[St.fY] at hx
 |bC _ _ _ _ _ _=>simp[St.fY] at hx
 |fn _ _=>simp[St.fY] at hx
 |db _ _ _ _ _ _=>simp[St.fY] at hx
 |bq=>simp[St.fY] at hx
end
section
variable {B:Nat} {E:Ex} {w0 w w':World} {G G':Gh} {h h':Nat->Option aq} {used used':Nat->Bool} {tk:List PC}
theorem HR.gC:∀{cs:List ah} {σ σ1:St} {G:Gh} {tk:List PC} {xs:List C} {o:Bool} {vs:List Value},HR B E w G σ.h σ.used tk->σ.gC cs=some (xs,o,σ1)->dj w G σ.h cs vs->
  (∀c∈cs,∀m,c.ref m->σ.used m=true)->
  ∃(Im':Nat->Prop) (bD:List PC),bD.map PC.er=xs/\bD.map PC.val=vs/\(∀pc∈bD,Good w pc/\∀b,aZ b pc->Im' b)/\
   HR B E w ⟨Im',G.g⟩ σ1.h σ.used (if o=true then tk++bD else tk)/\bm w G σ.h (fun n=>σ.used n=true) w ⟨Im',G.g⟩ σ1.h/\σ1.env=σ.env/\σ1.used=σ.used/\
   (∀n b,σ1.h n=some b->σ.h n=some b)
 |[],σ,σ1,G,tk,xs,o,vs,H,hx,hc,hr=>by
  simp only[St.gC] at hx;injection hx with hx;injection hx with j0 eJ;injection eJ with eJ qV;subst j0 eJ qV;have:vs=[]:=List.eq_nil_of_length_eq_zero (by simpa using hc.1);subst this;exact⟨G.Im,[],rfl,rfl,by simp,by simpa using H,bm.refl _ _ _ _,rfl,rfl,fun _ _ h=>h⟩
 |c::cs,σ,σ2,G,tk,xs,o,vs,H,hx,hc,hr=>by
  simp only[St.gC] at hx;split at hx
  ·rename_i x o1 σ1 e1;split at hx
   ·rename_i av o2 WG e2;injection hx with hx;injection hx with j0 eJ;injection eJ with eJ qV;subst j0 eJ qV;obtain⟨hlen,cG⟩:=hc;match vs,hlen with
    |v::vs,hlen=>
     obtain⟨z9,pc,a1,a2,a3,a4,a5,a6,a7,a8,a9⟩:=H.fY e1 (cG 0 c v rfl rfl).2;have ng:dj w ⟨z9,G.g⟩ σ1.h cs vs:=dj.fW a6 (fun c' dt m hm=>hr c' (by simp[dt]) m hm) ⟨by simpa using hlen,fun j c u h1 h2=>cG (j+1) c u h1 h2⟩;rw[<-a8] at a5;obtain⟨FK,bD,b1,b2,b3,b4,b5,b6,b7,b8⟩:=HR.gC a5 e2 ng (fun c' dt m hm=>by rw[a8];exact hr c' (by simp[dt]) m hm);refine⟨FK,pc::bD,by simp[a1,b1],by simp[a2,b2],fun q hq=>?_,?_,bm.trans (fun n hn=>by rw[a8];exact hn) a6 b5,b6.trans a7,b7.trans a8,fun n b hb=>a9 n b (b8 n b hb)⟩
     ·cases hq with
      |head=>exact⟨a3,fun b hb=>b5.im b (a4 b hb)⟩
      |tail _ hq=>exact b3 q hq
     ·rw[a8] at b4;cases o1<;>cases o2<;>simp at b4⊢
      ·exact b4
      ·exact b4.xT
      ·exact b4.xT
      ·exact b4
   ·cases hx
  ·cases hx
theorem RA.cells {x:aj} {ag:Bool} {cs:List ah} {v:Value} (hx:x.cells?=some (ag,cs)) (hc:RA w G h x v):dj w G h cs v.cells.toList:=by
 cases x with
 |one c=>
  have hj:c≠ .bq/\ag=false/\cs=[c]:=by
   cases c<;>simp[aj.cells?] at hx<;>(obtain⟨rfl,rfl⟩:=hx;simp)
  obtain⟨h1,rfl,rfl⟩:=hj;rcases hc with rfl|hc
  ·exact absurd rfl h1
  ·have dt:dj w G h [c] [v]:=hc;have h1:=(dt.2 0 c v rfl rfl).1;cases v<;>first|exact dt|(simp[Value.oneCell'] at h1)
 |agg cs'=>
  simp[aj.cells?] at hx;obtain⟨rfl,rfl⟩:=hx;obtain⟨vs,e,hl⟩:∃vs:List Value,v=.agg vs.toArray/\dj w G h cs' vs:=hc;subst e;exact hl
 |bK xs=>simp[aj.cells?] at hx
theorem aj.yx {x:aj} {ag:Bool} {cs:List ah} (hx:x.cells?=some (ag,cs)) {c:ah} (hc:c∈cs) {m:Nat} (hm:c.ref m):x.ref m:=by
 cases x with
 |one c'=>
  have hj:cs=[c']:=by
   cases c'<;>simp[aj.cells?] at hx<;>exact hx.2.symm
  subst hj;simp at hc;subst hc;exact hm
 |agg cs'=>
  simp[aj.cells?] at hx;obtain⟨_,rfl⟩:=hx;exact⟨c,hc,hm⟩
 |bK xs=>simp[aj.cells?] at hx
theorem HR.mV {sz:Nat}:∀{xs:List aj} {σ σ1:St} {G:Gh} {tk:List PC} {es:List (List C)} {o:Bool} {vs:List Value},HR B E w G σ.h σ.used tk->σ.mV sz xs=some (es,o,σ1)->
  vs.length=xs.length->(∀(j:Nat) (x:aj) (v:Value),xs[j]? =some x->vs[j]? =some v->RA w G σ.h x v)->(∀x∈xs,∀m,x.ref m->σ.used m=true)->
  ∃(Im':Nat->Prop) (pes:List (List PC)),pes.map (fun e=>e.map PC.er)=es/\pes.map (fun e=>e.map PC.val)=vs.map (fun v=>v.cells.toList)/\(∀e∈pes,e.length=sz)/\
   (∀e∈pes,∀pc∈e,Good w pc/\∀b,aZ b pc->Im' b)/\
   HR B E w ⟨Im',G.g⟩ σ1.h σ.used (if o=true then tk++pes.flatten else tk)/\bm w G σ.h (fun n=>σ.used n=true) w ⟨Im',G.g⟩ σ1.h/\σ1.env=σ.env/\σ1.used=σ.used/\
   (∀n b,σ1.h n=some b->σ.h n=some b)
 |[],σ,σ1,G,tk,es,o,vs,H,hx,hl,hc,hr=>by
  simp only[St.mV] at hx;injection hx with hx;injection hx with j0 eJ;injection eJ with eJ qV;subst j0 eJ qV;have:vs=[]:=List.eq_nil_of_length_eq_zero (by simpa using hl);subst this;exact⟨G.Im,[],rfl,rfl,by simp,by simp,by simpa using H,bm.refl _ _ _ _,rfl,rfl,fun _ _ h=>h⟩
 |x::xs,σ,σ2,G,tk,es,o,vs,H,hx,hl,hc,hr=>by
  simp only[St.mV] at hx;split at hx
  ·rename_i ag cs lW;split at hx
   ·rename_i bV;split at hx
    ·rename_i e o1 σ1 e1;split at hx
     ·rename_i es' o2 WG e2;injection hx with hx;injection hx with j0 eJ;injection eJ with eJ qV;subst j0 eJ qV;match vs,hl with
      |v::vs,hl=>
       have cC:=(hc 0 x v rfl rfl).cells lW;obtain⟨z9,bD,a1,a2,a3,a5,a6,a7,a8,a9⟩:=H.gC e1 cC (fun c' dt m hm=>hr x (by simp) m (aj.yx lW dt hm));rw[<-a8] at a5;obtain⟨FK,pes,b1,b2,b3,b3',b4,b5,b6,b7,b8⟩:=HR.mV (xs:=xs) (vs:=vs) a5 e2 (by simpa using hl)
        (fun j x v h1 h2=>(hc (j+1) x v h1 h2).fW a6 (fun m hm=>hr x (by simp[List.mem_of_getElem? h1]) m hm)) (fun x' mg m hm=>by rw[a8];exact hr x' (by simp[mg]) m hm)
       refine⟨FK,bD::pes,by simp[a1,b1],by simp[a2,b2],fun q hq=>?_,fun q hq pc bi=>?_,?_,bm.trans (fun n hn=>by rw[a8];exact hn) a6 b5,b6.trans a7,b7.trans a8,fun n b hb=>a9 n b (b8 n b hb)⟩
       ·cases hq with
        |head=>
         have:(bD.map PC.er).length=(v.cells.toList).length:=by rw[<-a2];simp
         have h2:=cC.1;simp at this;simp at h2;omega
        |tail _ hq=>exact b3 q hq
       ·cases hq with
        |head=>exact⟨(a3 pc bi).1,fun b hb=>b5.im b ((a3 pc bi).2 b hb)⟩
        |tail _ hq=>exact b3' q hq pc bi
       ·rw[a8] at b4;cases o1<;>cases o2<;>simp at b4⊢
        ·exact b4
        ·exact b4.xT
        ·exact b4.xT
        ·exact b4
     ·cases hx
    ·cases hx
   ·cases hx
  ·cases hx
def jR (b:Nat) (pc:PC):Prop:=aZ b pc\/∃sz o cap xs,pc=.list sz (some (ad b o)) cap xs/\cap≠0
def CS (w:World):PC->Prop
 |.list sz a cap xs=>0<sz/\xs.length<=cap/\(cap=0\/∃b o cur e,a=some (ad b o)/\w.heap[b]? =some (.cells cur e (0,0))/\cur.size=o+cap*sz/\cap<=maxLen/\∀k j c,At xs k j c->¬aZ b c)
 |_=>True
structure wb (w:World) (B':Nat) (ps:List PC):Prop where
 eG:∀pc∈ps,Good w pc/\Sep pc/\CS w pc
 new:∀pc∈ps,∀b,jR b pc->B'<=b/\d9 w b
 oN:∀(i j:Nat) (pc dC:PC) (b:Nat),i≠j->ps[i]? =some pc->ps[j]? =some dC->jR b pc->¬jR b dC
def sW:K×List PC->Value
 |(.one,[pc])=>pc.val
 |(_,bD)=>.agg (bD.map PC.val).toArray
def xG:List (K×List PC)->Value
 |[p]=>sW p
 |l=>.tuple (l.map sW).toArray
def dh (P:Program) (f:FuncId) (M:List Dv->Option (List Dv)):Prop:=
 ∀ds rs,M ds=some rs->∀(w:World) (vals:List Value),FB w ds vals->Calls P f vals.toArray w fun e w'=>
  ∃bt:List (K×List PC),bt.map (fun p=>(p.1,p.2.map PC.er))=rs/\e=.returned (xG bt)/\(∀p∈bt,p.1≠ .ptr/\(p.1=.one->p.2.length=1))/\
   wb w' w.heap.size (bt.flatMap (·.2))/\Fr w.heap.size Ex.no w w'
end
section
variable {B:Nat} {E:Ex} {w0 w w':World} {G G':Gh} {h h':Nat->Option aq} {used used':Nat->Bool} {tk:List PC} {N:Nat}
def oI (G:Gh) (h:Nat->Option aq) (b:Nat):Prop:=
 ¬G.Im b/\(∀n,h n≠none->(G.g n).nl=false->(G.g n).b≠b)/\∀n gr m sz xs,h n=some (.row gr m sz xs)->¬bh b (G.g n).px
theorem HR.Ml (H:HR B E w G h used tk):oI G h w.heap.size:=
 ⟨fun hi=>Nat.lt_irrefl _ (H.gH _ hi),fun n hn hl he=>by have:=(H.own n hn hl).2.2;omega,fun n gr m sz xs hn hb=>Nat.lt_irrefl _ (H.po hn hb)⟩
def ahj (B:Nat) (E:Ex) (w w':World) (G:Gh) (h:Nat->Option aq) (p:PB):aq->Prop
 |.box cs=>p.nl=false/\d9 w' p.b/\∀(j:Nat) (c:ah),cs[j]? =some c->∃v,w'.cell? (ad p.b (p.o+j))=some v/\v.oneCell'=true/\RC w G h c v
 |.row gr m sz xs=>uE B E w' G gr m sz xs p
theorem bm.insert (H:HR B E w G h used tk) {n:Nat} {blk:aq} {p:PB} (hn:used n=false) (hw:∀b,b<w.heap.size->w'.heap[b]? =w.heap[b]?):
  bm w G h (fun n=>used n=true) w' ⟨G.Im,az G.g n p⟩ (az h n (some blk)):=by
 have ne:∀m,used m=true->m≠n:=fun m hm e=>by subst e;rw[hn] at hm;cases hm
 refine⟨fun _ h=>h,fun b hb o=>gV (hw b (H.gH b hb)) o,fun m hm h0=>?_,fun m gr sz xs hm h0=>?_⟩
 ·rw[cN _ _ _ _ (ne m hm)] at h0;simp only[cN _ _ _ _ (ne m hm)];exact⟨h0,trivial,trivial,trivial,trivial,trivial⟩
 ·rw[cN _ _ _ _ (ne m hm)] at h0;simp only[cN _ _ _ _ (ne m hm)];exact⟨⟨gr,xs,h0⟩,fun k j pc h1 h2=>⟨pc,h1,rfl,h2⟩⟩
theorem HR.insert (H:HR B E w G h used tk) {n:Nat} {blk:aq} {p:PB} (hn:used n=false) (hw:∀b,b<w.heap.size->w'.heap[b]? =w.heap[b]?) (bV:w.heap.size<=w'.heap.size)
  (hl:p.nl=false->oI G h p.b/\(B<=p.b\/E p.b)/\p.b<w'.heap.size)
  (vh:∀cs c m,blk=.box cs->c∈cs->c.ref m->used m=true)
  (jC:ahj B E w w' G h p blk)
  (DK:∀gr m sz xs,blk=.row gr m sz xs->m≠ .aJ->∀n' bo m' aF av,h n'=some (.row bo m' aF av)->m'≠ .aJ->∀b,bh b p.px->¬bh b (G.g n').px)
  (sn:∀gr sz xs,blk=.row gr .live sz xs->∀b,bh b p.px->(p.nl=false->b≠p.b)/\∀n',h n'≠none->(G.g n').nl=false->b≠(G.g n').b)
  (mN:∀gr m sz xs,blk=.row gr m sz xs->m≠ .aJ->∀(i:Nat) (pc:PC) (b:Nat),tk[i]? =some pc->aZ b pc->¬bh b p.px):
  HR B E w' ⟨G.Im,az G.g n p⟩ (az h n (some blk)) (az used n true) tk:=by
 have K:=bm.insert H (blk:=blk) (p:=p) hn hw;have u0:h n=none:=by
  cases hh:h n with
  |none=>rfl
  |some b=>have:=H.jh n (by rw[hh];simp);rw[hn] at this;cases this
 have aD:∀m,h m≠none->m≠n:=fun m hm e=>by subst e;exact hm u0
 have hu:∀m,used m=true->az used n true m=true:=fun m hm=>by
  simp only[kg];split
  ·rfl
  ·exact hm
 refine H.put (fun b hb _=>hw b hb) bV (fun b hb hU=>hU.congr (hw b hb)) hu (bR _ _ _) (fun hp=>⟨(hl hp).1.1,(hl hp).2⟩) (fun hp m hm h0 gX=>(hl hp).1.2.1 m h0 gX)
  (fun hp m gr sz xs hm h0 b hb he=>(hl hp).1.2.2 m gr _ sz xs h0 (he▸hb)) (fun cs c m hb hc hr=>hu m (vh cs c m hb hc hr)) K ?_
  (fun gr m sz xs hb hm n' bo m' aF av _ h0=>DK gr m sz xs hb hm n' bo m' aF av h0) (fun gr sz xs hb b cT=>⟨(sn gr sz xs hb b cT).1,fun n' _=>(sn gr sz xs hb b cT).2 n'⟩) mN
  (fun hp _ b hb he=>by obtain⟨m,gr,mo,sz,xs,_,h0,cT⟩:=hb;exact(hl hp).1.2.2 m gr mo sz xs h0 (he▸cT))
 cases blk with
 |box cs=>
  obtain⟨a1,a2,a3⟩:=jC;refine⟨a1,a2,fun j c hj=>?_⟩;obtain⟨v,b1,b2,b3⟩:=a3 j c hj;exact⟨v,b1,b2,b3.fW K fun m hm=>vh cs c m rfl (List.mem_of_getElem? hj) hm⟩
 |row gr m sz xs=>
  have hr:uE B E w' G gr m sz xs p:=jC;exact⟨hr.pos,hr.er,hr.nl,hr.eK,hr.room,by
   have:=hr.mode;cases m<;>exact this,hr.nr⟩
theorem R.put {σ:St} {a:Act} (r:R B E w0 N σ a w G) {x:aj} {v:Value} (hv:RA w G σ.h x v) (hr:∀m,x.ref m->σ.used m=true) {d:Option Nat} (hd:∀n,d=some n->n<N):
  R B E w0 N (σ.put d x) (a.put d v) w G:=by
 cases d with
 |none=>exact r
 |some n=>
  have hn:=hd n rfl;refine⟨r.defers,by simp[Act.put,r.size],fun s=>?_,fun s m hm=>?_,r.hr,r.fr,r.mT,r.vL⟩
  ·simp only[St.put,Act.put];by_cases hs:s=n
   ·subst hs;rw[bR];have:(a.tmps.setIfInBounds s v).getD s undef=v:=by
     simp[Array.getD_eq_getD_getElem?,r.size,hn]
    rw[this];exact hv
   ·rw[cN _ _ _ _ hs];have:(a.tmps.setIfInBounds n v).getD s undef=a.tmps.getD s undef:=by
     simp[Array.getD_eq_getD_getElem?,Array.getElem?_setIfInBounds_ne (Ne.symm hs)]
    rw[this];exact r.env s
  ·simp only[St.put] at hm⊢;by_cases hs:s=n
   ·subst hs;rw[bR] at hm;exact hr m hm
   ·rw[cN _ _ _ _ hs] at hm;exact r.pC s m hm
theorem R.step {σ:St} {a:Act} (r:R B E w0 N σ a w G) {σ':St} (he:σ'.env=σ.env) (hu:∀m,σ.used m=true->σ'.used m=true) (K:bm w G σ.h (fun n=>σ.used n=true) w' G' σ'.h)
  (H:HR B E w' G' σ'.h σ'.used []) (F:Fr B E w0 w'):R B E w0 N σ' a w' G':=
 ⟨r.defers,r.size,fun s=>by rw[he];exact(r.env s).fW K (fun m hm=>r.pC s m hm),fun s m hm=>by rw[he] at hm;exact hu m (r.pC s m hm),H,F,
  fun n p b hp hb=>by
   have yZ:=r.vL n (E.lt n p hp);obtain⟨k0,k1,k2,k3,k4,k6⟩:=K.name n yZ (by rw[hb];simp);cases h0:σ.h n with
   |none=>exact absurd h0 k0
   |some b0=>
    obtain⟨p1,p2,p3,p4,p6,p5⟩:=r.mT n p b0 hp h0;refine⟨k1.trans p1,k2.trans p2,k3.trans p3,k4.trans p4,k6.trans p6,fun gr sz xs GP k j pc hk hL=>?_⟩;subst GP;obtain⟨⟨qJ,jv,e0⟩,hl⟩:=K.live n gr sz xs yZ hb;rw[h0] at e0;injection e0 with e0;obtain⟨pc1,q1,q2,q3⟩:=p5 qJ sz jv e0 k j pc hk hL;obtain⟨pc2,q4,q5,q6⟩:=hl k j pc1 q1 q3;exact⟨pc2,q4,q5.trans q2,q6⟩,
  fun n hn=>hu n (r.vL n hn)⟩
end
def Ku:Value->ah->Bool
 |.int k n,.c (.int k' n')=>decide (k=k')&&decide (n=n')
 |.bool b,.c (.bool b')=>decide (b=b')
 |.slice none 0 0,.nil sz=>true
 |.pointer none,.bq=>true
 |_,_=>false
def uK:List Value->List ah->Bool
 |[],[]=>true
 |v::vs,c::cs=>Ku v c&&uK vs cs
 |_,_=>false
def bU:Operand->MO->Bool
 |.tmp n,.t m=>n==m
 |.const (.agg vs),.k (.agg cs)=>uK vs.toList cs
 |.const v,.k (.one c)=>Ku v c
 |_,_=>false
section
variable {B:Nat} {E:Ex} {w0 w w':World} {G G':Gh} {h h':Nat->Option aq} {used used':Nat->Bool} {tk:List PC} {N:Nat}
theorem XI {v:Value} {c:ah} (hc:Ku v c=true):RC w G h c v/\v.oneCell'=true/\∀m,¬c.ref m:=by
 unfold Ku at hc;split at hc
 ·simp at hc;obtain⟨rfl,rfl⟩:=hc;exact⟨⟨.int _ _,rfl,rfl,.int _ _,fun b hb=>by cases hb⟩,rfl,fun m hm=>hm⟩
 ·simp at hc;subst hc;exact⟨⟨.bool _,rfl,rfl,.bool _,fun b hb=>by cases hb⟩,rfl,fun m hm=>hm⟩
 ·exact⟨rfl,rfl,fun m hm=>hm⟩
 ·exact⟨trivial,rfl,fun m hm=>hm⟩
 ·cases hc
theorem Kw:∀{vs:List Value} {cs:List ah},uK vs cs=true->dj w G h cs vs/\∀c∈cs,∀m,¬c.ref m
 |[],[],_=>⟨⟨rfl,by simp⟩,by simp⟩
 |v::vs,c::cs,hc=>by
  simp only[uK,Bool.and_eq_true] at hc;obtain⟨a1,a2,a3⟩:=XI (w:=w) (G:=G) (h:=h) hc.1;obtain⟨⟨b1,b2⟩,b3⟩:=Kw hc.2;refine⟨⟨by simp[b1],fun j c' u hj hu=>?_⟩,fun c' dt=>?_⟩
  ·cases j with
   |zero=>simp at hj hu;subst hj;subst hu;exact⟨a2,a1⟩
   |succ j=>exact b2 j c' u (by simpa using hj) (by simpa using hu)
  ·cases dt with
   |head=>exact a3
   |tail _ dt=>exact b3 c' dt
 |[],_::_,hc=>by simp[uK] at hc
 |_::_,[],hc=>by simp[uK] at hc
theorem RV.fC {c:ah} {v:Value} (h1:v.oneCell'=true) (h2:RC w G h c v):RV w G h false [c] v:=by
 show dj w G h [c] [v];exact⟨rfl,fun j c' u hj hu=>by
  cases j with
  |zero=>simp at hj hu;subst hj;subst hu;exact⟨h1,h2⟩
  |succ j=>simp at hj⟩
theorem RA.fC {c:ah} {v:Value} (h1:v.oneCell'=true) (h2:RC w G h c v):RA w G h (.one c) v:=.inr (RV.fC h1 h2)
theorem R.ev {σ:St} {a:Act} (r:R B E w0 N σ a w G) {x:Operand} {m:MO} (hc:bU x m=true):RA w G σ.h (σ.ev m) (a.eval x)/\∀n,(σ.ev m).ref n->σ.used n=true:=by
 unfold bU at hc;split at hc
 ·simp at hc;subst hc;exact⟨r.env _,fun n hn=>r.pC _ n hn⟩
 ·rename_i vs cs;obtain⟨b1,b2⟩:=Kw (w:=w) (G:=G) (h:=σ.h) hc;exact⟨⟨vs.toList,by simp[Act.eval],b1⟩,fun n hn=>by obtain⟨c,hc,hm⟩:=hn;exact absurd hm (b2 c hc n)⟩
 ·obtain⟨a1,a2,a3⟩:=XI (w:=w) (G:=G) (h:=σ.h) hc;exact⟨RA.fC a2 a1,fun n hn=>absurd hn (a3 n)⟩
 ·cases hc
theorem oG {P:Program} {o:Oper} {a:Act} {v:Value} {K:Act->World->Prop} {Q:Exit->Act->World->Prop} (hr:(execOp a.eval o).run P w=.ok (.value v) w') (hK:K (a.put o.dst v) w'):o.wp P a w K Q:=by
 unfold Oper.wp;rw[hr];exact hK
theorem Og {P:Program} {o:Oper} {a:Act} {K:Act->World->Prop} {Q:Exit->Act->World->Prop} (hr:(execOp a.eval o).run P w=.ok .skip w') (hK:K (a.put o.dst undef) w'):o.wp P a w K Q:=by
 unfold Oper.wp;rw[hr];exact hK
end
section
variable {B:Nat} {E:Ex} {w0 w w':World} {G G':Gh} {h h':Nat->Option aq} {used used':Nat->Bool} {tk:List PC} {N:Nat}
variable {P:Program} {o:Oper} {a:Act} {σ σ':St} {Q:Exit->Act->World->Prop}
def Nx (B:Nat) (E:Ex) (w0:World) (N:Nat) (σ:St):Act->World->Prop:=fun a w=>∃G,R B E w0 N σ a w G
theorem PO (w:World) (ob:Obj) (b:Nat) (hb:b<w.heap.size):(w.alloc ob).heap[b]? =w.heap[b]? :=heap_alloc_old w ob b hb
theorem d9.alloc (w:World) (arr:Array Value) (e:TypeId):d9 (w.alloc (.cells arr e)) w.heap.size:=⟨arr,e,heap_alloc_new w _⟩
theorem kx {σ1:St} {n:Nat} {b:aq} (hx:σ.ins n b=some σ1):σ.used n=false/\σ1={σ with h:=az σ.h n (some b),used:=az σ.used n true}:=by
 unfold St.ins at hx;split at hx
 ·cases hx
 ·rename_i hu;injection hx with hx;exact⟨by simpa using hu,hx.symm⟩
theorem oF (n m:Nat) (hm:used m=true):az used n true m=true:=by
 simp only[kg];split
 ·rfl
 ·exact hm
theorem R.ac3 (r:R B E w0 N σ a w G) {n:Nat} {cs:List ah} {vs:List Value} {e:TypeId} (hn:σ.used n=false) (hc:dj w G σ.h cs vs) (me:∀c∈cs,∀m,c.ref m->σ.used m=true):
  ∃G',R B E w0 N {σ with h:=az σ.h n (some (.box cs)),used:=az σ.used n true} a (w.alloc (.cells vs.toArray e)) G'/\
   RA (w.alloc (.cells vs.toArray e)) G' (az σ.h n (some (.box cs))) (.one (.ptr n 0 0 0)) (.pointer (some (ad w.heap.size 0))):=by
 have H:=r.hr;have hB:=r.fr.size;have hw:=PO w (.cells vs.toArray e);refine⟨⟨G.Im,az G.g n ⟨false,w.heap.size,0,0,[],none⟩⟩,r.step rfl (fun m hm=>oF n m hm) (bm.insert H hn hw) ?_ (r.fr.grow hw (by simp) rfl rfl rfl),?_⟩
 ·refine H.insert hn hw (by simp) (fun _=>⟨H.Ml,.inl hB,by simp⟩) (fun cs' c m hb dt hm=>?_) ⟨rfl,d9.alloc _ _ _,fun j c hj=>?_⟩ (fun gr m sz xs hb=>by cases hb) (fun gr sz xs hb=>by cases hb) (fun gr m sz xs hb=>by cases hb)
  ·injection hb with hb;subst hb;exact me c dt m hm
  ·have jX:j<vs.length:=by rw[hc.1];exact(List.getElem?_eq_some_iff.1 hj).1
   have hv:vs[j]? =some vs[j]:=List.getElem?_eq_getElem jX;obtain⟨q1,q2⟩:=hc.2 j c _ hj hv;refine⟨vs[j],?_,q1,q2⟩;simp only[Nat.zero_add];unfold ad;rw[World.cell?_alloc_new];simp only[List.getElem?_toArray];exact hv
 ·exact RA.fC rfl fun _=>by simp[bR]
theorem aiO (r:R B E w0 N σ a w G) {n:Nat} {e:TypeId} {i:TypeInfo} {z:Value} {zs:List ah} {σ1:St} (ho:o.op=.alloc e) (hd:o.dst=some n) (hN:n<N)
  (hi:P.info? e=some i) (hz:i.zero=some z) (hc:uK z.cells.toList zs=true) (hx:σ.ins n (.box zs)=some σ1):
  o.wp P a w (Nx B E w0 N (σ1.put o.dst (.one (.ptr n 0 0 0)))) Q:=by
 obtain⟨hn,rfl⟩:=kx hx;obtain⟨cC,me⟩:=Kw (w:=w) (G:=G) (h:=σ.h) hc;obtain⟨G',r',hv⟩:=r.ac3 (e:=e) hn cC (fun c hc m hm=>absurd hm (me c hc m));have bE:(execOp a.eval o).run P w=.ok (.value (.pointer (some (ad w.heap.size 0)))) (w.alloc (.cells z.cells.toList.toArray e)):=by
  simp[execOp,ho,Instr.alloc,zeroValue,typeInfo,hi,hz,newVar,newRow,ad]
 exact oG bE ⟨G',r'.put hv (fun m hm=>by have bP:m=n:=hm;subst bP;exact bR _ _ _) (fun m hm=>by rw[hd] at hm;injection hm with hm;omega)⟩
theorem aiT (r:R B E w0 N σ a w G) {n:Nat} {e:TypeId} {x:Operand} {m:MO} {ag:Bool} {cs:List ah} {σ1:St} (ho:o.op=.box e x) (hd:o.dst=some n) (hN:n<N)
  (hm:bU x m=true) (fi:(σ.ev m).cells?=some (ag,cs)) (hx:σ.ins n (.box cs)=some σ1):
  o.wp P a w (Nx B E w0 N (σ1.put o.dst (.one (.ptr n 0 0 0)))) Q:=by
 obtain⟨hn,rfl⟩:=kx hx;obtain⟨hv,me⟩:=r.ev hm;obtain⟨G',r',gk⟩:=r.ac3 (e:=e) hn (hv.cells fi) (fun c hc q hq=>me q (aj.yx fi hc hq));have bE:(execOp a.eval o).run P w=.ok (.value (.pointer (some (ad w.heap.size 0)))) (w.alloc (.cells (a.eval x).cells.toList.toArray e)):=by
  simp[execOp,ho,Instr.box,newVar,newRow,ad]
 exact oG bE ⟨G',r'.put gk (fun q hq=>by have fc:q=n:=hq;subst fc;exact bR _ _ _) (fun q hq=>by rw[hd] at hq;injection hq with hq;omega)⟩
theorem tq {α:Type} {sz:Nat}:∀{px:List (List α)} (_:∀e∈px,e.length=sz) {k j:Nat} {c:α},At px k j c->px.flatten[k*sz+j]? =some c
 |[],_,k,j,c,hk=>by obtain⟨e,he,_⟩:=hk;simp at he
 |e::px,hl,k,j,c,hk=>by
  obtain⟨e',he,hj⟩:=hk;have h0:=hl e (by simp);cases k with
  |zero=>
   simp at he;subst he;have jX:=(List.getElem?_eq_some_iff.1 hj).1;simp only[List.flatten_cons,Nat.zero_mul,Nat.zero_add];rw[List.getElem?_append_left jX];exact hj
  |succ k=>
   have ih:=tq (px:=px) (fun e he=>hl e (by simp[he])) (k:=k) (j:=j) (c:=c) ⟨e',by simpa using he,hj⟩;simp only[List.flatten_cons];rw[List.getElem?_append_right (by rw[h0,Nat.add_mul];omega)];rw[show(k+1)*sz+j - e.length=k*sz+j by rw[h0,Nat.add_mul];omega];exact ih
structure FQ (B:Nat) (E:Ex) (w:World) (G:Gh) (h:Nat->Option aq) (m:Mode) (pes:List (List PC)):Prop where
 oP:∀b,bh b pes->G.Im b/\d9 w b/\(B<=b\/E b)
 sep:iO pes
 gv:∀n gr m sz xs,h n=some (.row gr m sz xs)->m≠ .aJ->∀b,bh b pes->¬bh b (G.g n).px
 kind:m=.aN\/∀b,¬bh b pes
theorem Xi {α:Type} {sz:Nat} (bV:0<sz) {pes:List (List α)} (hl:∀e∈pes,e.length=sz) {k j k' j':Nat} {c c':α} (h1:At pes k j c) (h2:At pes k' j' c') (aD:(k,j)≠(k',j')):k*sz+j≠k'*sz+j':=by
 intro fA;have hj:j<sz:=by obtain⟨e1,he,hj⟩:=h1;rw[<-hl e1 (List.mem_of_getElem? he)];exact(List.getElem?_eq_some_iff.1 hj).1
 have nj:j'<sz:=by obtain⟨e1,he,hj⟩:=h2;rw[<-hl e1 (List.mem_of_getElem? he)];exact(List.getElem?_eq_some_iff.1 hj).1
 have hk:k=k':=by
  have h3:(k*sz+j)/sz=k:=by rw[Nat.mul_comm,Nat.mul_add_div bV,Nat.div_eq_of_lt hj];omega
  have h4:(k'*sz+j')/sz=k':=by rw[Nat.mul_comm,Nat.mul_add_div bV,Nat.div_eq_of_lt nj];omega
  rw[fA] at h3;omega
 subst hk;exact aD (by rw[show j=j' by omega])
theorem HR.ada {pes:List (List PC)} {sz:Nat} (bV:0<sz) (hl:∀e∈pes,e.length=sz) (H:HR B E w G h used pes.flatten):FQ B E w G h .aN pes:=by
 refine⟨?_,⟨fun k j c hk=>(H.ta _ c (tq hl hk)).1,fun k j c k' j' c' b hk bL aD hb=>H.xU _ _ c c' b (Xi bV hl hk bL aD) (tq hl hk) (tq hl bL) hb⟩,?_,.inl rfl⟩
 ·rintro b ⟨k,j,c,hk,hb⟩;exact(H.ta _ c (tq hl hk)).2 b hb
 ·rintro n gr m sz xs hn hm b ⟨k,j,c,hk,hb⟩;exact H.tc _ c n gr m sz xs b (tq hl hk) hn hm hb
theorem Sep.xy {w:World} {q:PC} (hq:∀b,¬aZ b q) (hg:Good w q):Sep q:=by
 induction hg with
 |int k n=>exact .int k n
 |bool b=>exact .bool b
 |nil sz a cap h=>exact .list _ _ _ _ (by rintro k j c ⟨e,he,_⟩;simp at he) (by rintro b o k j c _ ⟨e,he,_⟩;simp at he) (by rintro k j c k' j' c' b ⟨e,he,_⟩;simp at he)
 |cons sz b o cap xs h1 h2 h3 h4 h5 h6 ih=>exact absurd (.here _ _ _ _ h1) (hq b)
theorem FQ.xy {m:Mode} {pes:List (List PC)} (cm:∀b,¬bh b pes) (hg:∀k j c,At pes k j c->Good w c):FQ B E w G h m pes:=
 ⟨fun b hb=>absurd hb (cm b),⟨fun k j c hk=>Sep.xy (fun b hb=>cm b ⟨k,j,c,hk,hb⟩) (hg k j c hk),fun k j c k' j' c' b hk _ _ hb=>absurd ⟨k,j,c,hk,hb⟩ (cm b)⟩,fun n gr m sz xs _ _ b hb=>absurd hb (cm b),.inr cm⟩
theorem R.newRow (r:R B E w0 N σ a w G) {Im':Nat->Prop} {σ1:St} (H:HR B E w ⟨Im',G.g⟩ σ1.h σ.used []) (K:bm w G σ.h (fun n=>σ.used n=true) w ⟨Im',G.g⟩ σ1.h)
  (tL:σ1.env=σ.env) (kP:σ1.used=σ.used)
  {n:Nat} {m:Mode} {sz cap:Nat} {pes:List (List PC)} {arr:Array Value} {e:TypeId} (hn:σ.used n=false) (bV:0<sz) (hl:∀e∈pes,e.length=sz)
  (fO:∀k j c,At pes k j c->Good w c/\∀b,aZ b c->Im' b) (wI:∀k j c,At pes k j c->arr[k*sz+j]? =some c.val) (io:pes.length<=cap) (wV:cap<=maxLen) (mM:arr.size=cap*sz)
  (hm:m=.aJ\/FQ B E w ⟨Im',G.g⟩ σ1.h m pes) (oS:m=.live->∀w',pJ w' sz pes):
  ∃G',R B E w0 N {σ1 with h:=az σ1.h n (some (.row true m sz (pes.map fun e=>e.map PC.er))),used:=az σ1.used n true} a (w.alloc (.cells arr e)) G'/\
   RA (w.alloc (.cells arr e)) G' (az σ1.h n (some (.row true m sz (pes.map fun e=>e.map PC.er)))) (.one (.sl n sz 0 pes.length)) (.slice (some (ad w.heap.size 0)) pes.length cap)/\
   bm w ⟨Im',G.g⟩ σ1.h (fun n=>σ.used n=true) (w.alloc (.cells arr e)) G' (az σ1.h n (some (.row true m sz (pes.map fun e=>e.map PC.er)))):=by
 have hB:=r.fr.size;have hw:=PO w (.cells arr e);have ahi:HR B E (w.alloc (.cells arr e)) ⟨Im',az G.g n ⟨false,w.heap.size,0,cap,pes,none⟩⟩ (az σ1.h n (some (.row true m sz (pes.map fun e=>e.map PC.er)))) (az σ.used n true) []:=by
  refine H.insert (p:=⟨false,w.heap.size,0,cap,pes,none⟩) hn hw (by simp) (fun _=>⟨H.Ml,.inl hB,by simp⟩) (fun cs c m hb=>by cases hb) ?_ ?_ ?_ (fun gr m sz xs _ _ i pc b hi=>by simp at hi)
  ·refine⟨bV,rfl,(fun hl=>by cases hl),fun _=>⟨d9.alloc _ _ _,⟨hl,fun k j c hk=>?_,fun k j c hk=>?_⟩,io⟩,fun _ _=>⟨wV,arr,e,heap_alloc_new w _,(Nat.zero_add _).symm▸mM⟩,?_,fun _ hl=>oS hl _⟩
   ·simp only[Nat.zero_add];unfold ad;rw[World.cell?_alloc_new];exact wI k j c hk
   ·exact(fO k j c hk).1.congr fun b hb o=>gV (hw b (H.gH b ((fO k j c hk).2 b hb))) o
   ·have lE:m≠ .aJ->(∀b,bh b pes->Im' b/\d9 (w.alloc (.cells arr e)) b/\(B<=b\/E b))/\iO pes:=fun iW=>
     ⟨fun b hb=>by
      have hO:=hm.resolve_left iW;obtain⟨q1,q2,q3⟩:=hO.oP b hb;exact⟨q1,q2.congr (hw b (H.gH b q1)),q3⟩,(hm.resolve_left iW).sep⟩
    cases m with
    |aJ=>
     rintro b ⟨k,j,c,hk,hb⟩;exact(fO k j c hk).2 b hb
    |aN=>exact lE (by simp)
    |live=>
     have hO:=hm.resolve_left (by simp);have cm:=hO.kind.resolve_left (by simp);exact⟨fun b hb=>absurd hb (cm b),hO.sep⟩
  ·intro gr m' aF av hb iW n' bo jI jd gD h0 iE b cT;injection hb with _ hb _ _;subst hb;exact(hm.resolve_left iW).gv n' bo jI jd gD h0 iE b cT
  ·intro gr aF av hb b cT;injection hb with _ hb _ _;subst hb;exact absurd cT ((hm.resolve_left (by simp)).kind.resolve_left (by simp) b)
 have K2:=bm.trans (u2:=fun n=>σ.used n=true) (fun _ h=>h) K (bm.insert H (blk:=.row true m sz (pes.map fun e=>e.map PC.er)) (p:=⟨false,w.heap.size,0,cap,pes,none⟩) hn hw);refine⟨⟨Im',az G.g n ⟨false,w.heap.size,0,cap,pes,none⟩⟩,r.step tL (fun m hm=>by rw[kP];exact oF n m hm) K2 (by rw[kP];exact ahi) (r.fr.grow hw (by simp) rfl rfl rfl),?_,bm.insert H (blk:=.row true m sz (pes.map fun e=>e.map PC.er)) (p:=⟨false,w.heap.size,0,cap,pes,none⟩) hn hw⟩;refine RA.fC rfl fun _=>.inr ⟨by simp[bR],some (ad w.heap.size 0),?_,?_,?_⟩
 ·simp[bR]
 ·simp[bR];omega
 ·simp[bR]
end
def Qi:Value->C->Bool
 |.int k n,.int k' n'=>decide (k=k')&&decide (n=n')
 |.bool b,.bool b'=>decide (b=b')
 |.slice none 0 0,.list sz []=>decide (0<sz)
 |_,_=>false
def wu:List Value->List C->Bool
 |[],[]=>true
 |v::vs,c::cs=>Qi v c&&wu vs cs
 |_,_=>false
def mX:C->PC
 |.int k n=>.int k n
 |.bool b=>.bool b
 |.list sz _=>.list sz none 0 []
theorem ah1 {w:World} {v:Value} {c:C} (h:Qi v c=true):(mX c).er=c/\(mX c).val=v/\Good w (mX c)/\∀b,¬aZ b (mX c):=by
 unfold Qi at h;split at h
 ·simp at h;obtain⟨rfl,rfl⟩:=h;exact⟨rfl,rfl,.int _ _,fun b hb=>by cases hb⟩
 ·simp at h;subst h;exact⟨rfl,rfl,.bool _,fun b hb=>by cases hb⟩
 ·simp at h;refine⟨by simp[mX,PC.dV],rfl,.nil _ _ _ h,fun b hb=>?_⟩;unfold mX at hb;rw[aZ.kZ] at hb;rcases hb with⟨hb,_⟩|⟨k,j,c,⟨e,he,_⟩,_⟩
  ·exact absurd rfl hb
  ·simp at he
 ·cases h
theorem Qj {w:World}:∀{vs:List Value} {cs:List C},wu vs cs=true->(cs.map mX).map PC.er=cs/\(cs.map mX).map PC.val=vs/\∀pc∈cs.map mX,Good w pc/\∀b,¬aZ b pc
 |[],[],_=>⟨rfl,rfl,by simp⟩
 |v::vs,c::cs,h=>by
  simp only[wu,Bool.and_eq_true] at h;obtain⟨a1,a2,a3,a4⟩:=ah1 (w:=w) h.1;obtain⟨b1,b2,b3⟩:=Qj (w:=w) h.2;refine⟨by simp only[List.map_cons,a1,b1],by simp only[List.map_cons,a2,b2],fun pc bi=>?_⟩;simp only[List.map_cons,List.mem_cons] at bi;rcases bi with rfl|bi
  ·exact⟨a3,a4⟩
  ·exact b3 pc bi
 |[],_::_,h=>by simp[wu] at h
 |_::_,[],h=>by simp[wu] at h
theorem FY {α:Type} {n k j:Nat} {e:List α} {c:α} (h:At (List.replicate n e) k j c):k<n/\e[j]? =some c:=by
 obtain⟨e',he,hj⟩:=h;rw[List.getElem?_replicate] at he;split at he
 ·rename_i hk;injection he with he;subst he;exact⟨hk,hj⟩
 ·cases he
section
variable {B:Nat} {E:Ex} {w0 w w':World} {G G':Gh} {h h':Nat->Option aq} {used used':Nat->Bool} {tk:List PC} {N:Nat}
variable {P:Program} {o:Oper} {a:Act} {σ σ':St} {Q:Exit->Act->World->Prop}
theorem RA.int {x:aj} {n:Int} {v:Value} (hx:x.dZ=some n) (hv:RA w G h x v):∃k,v=.int k n:=by
 unfold aj.dZ at hx;split at hx
 ·rename_i k n';injection hx with hx;subst hx;rcases hv with hv|hv
  ·cases hv
  ·have gk:dj w G h [.c (.int k n')] [v]:=hv;obtain⟨pc,h1,h2,_⟩:=(gk.2 0 _ v rfl rfl).2;cases pc<;>simp[PC.er] at h1
   obtain⟨rfl,rfl⟩:=h1;exact⟨_,h2.symm⟩
 ·cases hx
theorem aji (r:R B E w0 N σ a w G) {n:Nat} {t e:TypeId} {i:TypeInfo} {z:Value} {zs:List C} {x y:Operand} {mx my:MO} {m:Mode} {sz by_:Nat} {q q':Int} {σ1:St}
  (ho:o.op=.makeSlice t x y) (hd:o.dst=some n) (hN:n<N) (fU:bU x mx=true) (fK:bU y my=true)
  (ht:P.underlying t=some (.slice e)) (hi:P.info? e=some i) (hz:i.zero=some z) (bV:i.size=sz) (nU:i.bytes=by_) (wJ:0<by_) (fV:0<sz) (hc:wu z.cells.toList zs=true)
  (hq:(σ.ev mx).dZ=some q) (fc:(σ.ev my).dZ=some q') (fA:q<=q') (mL:0<=q) (hb:q'.toNat*by_<=dX) (hlen:zs.length=sz)
  (hx:σ.ins n (.row true m sz (List.replicate q.toNat zs))=some σ1):
  o.wp P a w (Nx B E w0 N (σ1.put o.dst (.one (.sl n sz 0 q.toNat)))) Q:=by
 obtain⟨hn,rfl⟩:=kx hx;obtain⟨k1,e1⟩:=(r.ev fU).1.int hq;obtain⟨k2,e2⟩:=(r.ev fK).1.int fc;have hqq:q.toNat<=q'.toNat:=by omega
 obtain⟨b1,b2,b3⟩:=Qj (w:=w) hc;have auI:q'.toNat<=dX:=Nat.le_trans (Nat.le_mul_of_pos_right _ wJ) hb;have alT:z.cells.size=sz:=by
  have:((zs.map mX).map PC.val).length=z.cells.toList.length:=by rw[b2]
  simp at this;omega
 have bE:=run_make (P:=P) w t e i z ht hi hz k1 k2 q q' mL fA (by
  rw[nU];have h1:((q'.toNat*by_:Nat):Int)<=((dX:Nat):Int):=by exact_mod_cast hb
  rw[Int.natCast_mul,Int.toNat_of_nonneg (by omega:0<=q')] at h1;rw[Int.mul_comm];have h2:((dX:Nat):Int)=140737488355328:=rfl;omega) (by
  have h2:(dX:Nat)=140737488355328:=rfl;omega)
 have alH:(execOp a.eval o).run P w=.ok (.value (.slice (some (ad w.heap.size 0)) q.toNat q'.toNat)) (w.alloc (.cells (madeCells z.cells (q'.toNat*sz)) e)):=by
  simp only[execOp,ho,e1,e2];rw[bV] at bE;simp[bE,ad]
 have aly:(List.replicate q.toNat (zs.map mX)).map (fun e=>e.map PC.er)=List.replicate q.toNat zs:=by
  rw[List.map_replicate,b1]
 have cm:∀b,¬bh b (List.replicate q.toNat (zs.map mX)):=by
  rintro b ⟨k,j,c,hk,hb⟩;exact(b3 c (List.mem_of_getElem? (FY hk).2)).2 b hb
 have hg:∀k j c,At (List.replicate q.toNat (zs.map mX)) k j c->Good w c/\∀b,aZ b c->G.Im b:=fun k j c hk=>
  ⟨(b3 c (List.mem_of_getElem? (FY hk).2)).1,fun b hb=>absurd hb ((b3 c (List.mem_of_getElem? (FY hk).2)).2 b)⟩
 obtain⟨G',r',hv,_⟩:=r.newRow (σ1:=σ) (Im':=G.Im) (m:=m) (sz:=sz) (cap:=q'.toNat) (pes:=List.replicate q.toNat (zs.map mX)) (arr:=madeCells z.cells (q'.toNat*sz)) (e:=e) r.hr (bm.refl _ _ _ _) rfl rfl hn fV
  (fun e he=>by rw[(List.mem_replicate.1 he).2];simpa using hlen) hg (fun k j c hk=>by
   obtain⟨h1,h2⟩:=FY hk;have hj:j<sz:=by have:=(List.getElem?_eq_some_iff.1 h2).1;simp at this;omega
   have alg:k*sz+j<q'.toNat*sz:=by
    have:(k+1)*sz<=q'.toNat*sz:=Nat.mul_le_mul_right _ (by omega);rw[Nat.add_mul] at this;omega
   have alr:(k*sz+j)%sz=j:=by rw[Nat.mul_comm,Nat.mul_add_mod,Nat.mod_eq_of_lt hj]
   have gW:z.cells.toList[j]? =some c.val:=by rw[<-b2,List.getElem?_map,h2];rfl
   have akY:z.cells[j]? =some c.val:=by simpa using gW
   have hz3:(k*sz+j)%z.cells.size=j:=by rw[alT];exact alr
   simp[madeCells,alg,hz3];rw[getElem!_def,akY]) (by simpa using hqq) (by
   have h2:(dX:Nat)=140737488355328:=rfl;simp only[maxLen];omega) (size_madeCells _ _) (.inr (FQ.xy cm (fun k j c hk=>(hg k j c hk).1))) (fun _ w' k pc hk=>by
   obtain⟨c,_,rfl⟩:=List.mem_map.1 (List.mem_of_getElem? (FY hk).2);cases c with
   |int k n=>trivial
   |bool b=>trivial
   |list s l=>exact .inl rfl)
 rw[aly,List.length_replicate] at*
 refine oG alH ⟨G',r'.put hv (fun q hq=>by have fc:q=n:=hq;subst fc;exact bR _ _ _) (fun q hq=>by rw[hd] at hq;injection hq with hq;omega)⟩
theorem ZX (off:Nat):∀(vs:List Value) (k:Nat) (cs:Array Value),off+k+vs.length<=cs.size->
  ((vs.zipIdx k).foldl (fun(cs:Array Value) (p:Value×Nat)=>cs.setIfInBounds (off+p.2) p.1) cs)=(cs.toList.take (off+k)++vs++cs.toList.drop (off+k+vs.length)).toArray
 |[],k,cs,_=>by simp
 |v::vs,k,cs,h=>by
  simp only[List.zipIdx_cons,List.foldl_cons];have h':off+(k+1)+vs.length<=(cs.setIfInBounds (off+k) v).size:=by simp at h⊢;omega
  rw[ZX off vs (k+1) _ h'];have e:=list_seg_step cs.toList (off+k) v vs (by simp at h⊢;omega);rw[List.length_cons,<-e];simp[Array.toList_setIfInBounds,Nat.add_assoc]
theorem ZY (off:Nat) (v:Value) (cs:Array Value) (h:off+v.cells.size<=cs.size):
  (v.cells.zipIdx.foldl (fun cs (c,j)=>cs.setIfInBounds (off+j) c) cs)=(dq cs.toList off v.cells.toList).toArray:=by
 have:=ZX off v.cells.toList 0 cs (by simpa using h);rw[<-Array.foldl_toList];simp only[Array.toList_zipIdx];simpa[dq] using this
theorem QI (size:Nat):∀(vs:List Value) (i0:Nat) (cs:Array Value),(∀v∈vs,v.cells.size=size)->(i0+vs.length)*size<=cs.size->
  Instr.fill (fun i=>some (i*size,size)) cs ((vs.zipIdx i0).map fun p=>(p.2,p.1))=some (dq cs.toList (i0*size) (vs.flatMap fun v=>v.cells.toList)).toArray
 |[],i0,cs,_,_=>by simp[Instr.fill,dq]
 |v::vs,i0,cs,hv,hl=>by
  have h0:=hv v (by simp);have h1:i0*size+v.cells.size<=cs.size:=by
   have:(i0+1)*size<=(i0+(v::vs).length)*size:=Nat.mul_le_mul_right _ (by simp);rw[Nat.add_mul] at this;omega
  simp only[List.zipIdx_cons,List.map_cons,Instr.fill];rw[if_neg (by simp;omega)];rw[ZY _ _ _ h1];have hlen:(dq cs.toList (i0*size) v.cells.toList).length=cs.size:=by simp[dq];omega
  rw[QI size vs (i0+1) _ (fun v' gk=>hv v' (by simp[gk])) (by simp only[List.size_toArray,hlen];simp only[List.length_cons] at hl;rwa[show i0+1+vs.length=i0+(vs.length+1) by omega])];congr 2;have oW:v.cells.toList.length=size:=by simpa using h0
  have e1:(i0+1)*size=i0*size+size:=by rw[Nat.add_mul];omega
  simp only[dq,List.flatMap_cons,List.length_append,oW];rw[e1];have ht:(List.take (i0*size) cs.toList).length=i0*size:=by simp;omega
  have t1:List.take (i0*size+size) (List.take (i0*size) cs.toList++v.cells.toList++List.drop (i0*size+size) cs.toList)=List.take (i0*size) cs.toList++v.cells.toList:=by
   apply List.take_left';simp[ht,oW]
  have d1:∀x,List.drop (i0*size+size+x) (List.take (i0*size) cs.toList++v.cells.toList++List.drop (i0*size+size) cs.toList)=List.drop (i0*size+(size+x)) cs.toList:=by
   intro x;rw[List.drop_append,List.drop_eq_nil_of_le (by simp[ht,oW])];simp only[List.nil_append,List.drop_drop,List.length_append,ht,oW];congr 1;omega
  rw[t1,d1];simp[List.append_assoc]
end
theorem QF {α:Type} (P:Nat->α->Prop):∀n:Nat,(∀j,j<n->∃v,P j v)->∃l:List α,l.length=n/\∀(j:Nat) (u:α),l[j]? =some u->P j u
 |0,_=>⟨[],rfl,by simp⟩
 |n+1,h=>by
  obtain⟨l,h1,h2⟩:=QF P n (fun j hj=>h j (by omega));obtain⟨v,hv⟩:=h n (by omega);refine⟨l++[v],by simp[h1],fun j u hj=>?_⟩;rcases Nat.lt_trichotomy j n with cu|fA|AY
  ·rw[List.getElem?_append_left (by omega)] at hj;exact h2 j u hj
  ·subst fA;rw[List.getElem?_append_right (by omega)] at hj;simp[h1] at hj;subst hj;exact hv
  ·rw[List.getElem?_eq_none (by simp;omega)] at hj;cases hj
theorem Fh {α:Type} {l l':List α} {off sz:Nat} (h:sub l off sz=some l'):off+sz<=l.length/\l'=(l.drop off).take sz/\l'.length=sz:=by
 unfold sub at h;split at h
 ·rename_i hl;injection h with h;subst h;exact⟨hl,rfl,by simp;omega⟩
 ·cases h
theorem zR {α:Type} {l:List α} {off sz j:Nat} (hj:j<sz):((l.drop off).take sz)[j]? =l[off+j]? :=by
 rw[List.getElem?_take_of_lt hj,List.getElem?_drop]
theorem abl (n k rs:Nat):∀(l:List C) (off:Nat),(iJ n k rs off l).length=l.length
 |[],_=>rfl
 |c::l,off=>by cases c<;>simp[iJ,abl n k rs l]
theorem Ta (n k rs:Nat):∀(l:List C) (off j:Nat) (x:ah),(iJ n k rs off l)[j]? =some x->
  (∃c,l[j]? =some c/\c.fk=true/\x=.c c)\/(∃sz ys,l[j]? =some (.list sz ys)/\x=.bC n k rs (off+j) sz ys.length)
 |[],off,j,x,h=>by simp[iJ] at h
 |c::l,off,j,x,h=>by
  cases j with
  |zero=>
   cases c<;>simp[iJ] at h<;>subst h
   ·exact .inl ⟨_,rfl,rfl,rfl⟩
   ·exact .inl ⟨_,rfl,rfl,rfl⟩
   ·exact .inr ⟨_,_,rfl,rfl⟩
  |succ j=>
   have h':(iJ n k rs (off+1) l)[j]? =some x:=by cases c<;>simpa[iJ] using h
   rcases Ta n k rs l (off+1) j x h' with⟨c',h1,h2,h3⟩|⟨sz,ys,h1,h2⟩
   ·exact .inl ⟨c',by simpa using h1,h2,h3⟩
   ·exact .inr ⟨sz,ys,by simpa using h1,by rw[h2,show off+1+j=off+(j+1) by omega]⟩
section
variable {B:Nat} {E:Ex} {w0 w w':World} {G G':Gh} {h h':Nat->Option aq} {used used':Nat->Bool} {tk:List PC} {N:Nat}
variable {P:Program} {o:Oper} {a:Act} {σ σ':St} {Q:Exit->Act->World->Prop}
theorem aiU (r:R B E w0 N σ a w G) {n:Nat} {t e:TypeId} {len:Nat} {parts:Array (Nat×Operand)} {Ew:List MO} {i:TypeInfo} {z:Value} {sz:Nat} {es:List (List C)} {ow:Bool} {σ1 σ2:St}
  (ho:o.op=.buildSlice t len parts) (hd:o.dst=some n) (hN:n<N) (ht:P.underlying t=some (.slice e)) (hi:P.info? e=some i) (hz:i.zero=some z) (bV:i.size=sz) (fV:0<sz)
  (hlen:Ew.length=len) (eZ:parts.toList.map (·.1)=List.range len) (DI:len*sz<=16777216)
  (fZ:∀(j:Nat) (p:Nat×Operand) (m:MO),parts.toList[j]? =some p->Ew[j]? =some m->bU p.2 m=true)
  (Sb:σ.mV sz (Ew.map σ.ev)=some (es,ow,σ1)) (hx:σ1.ins n (.row true (if ow=true then .aN else .aJ) sz es)=some σ2):
  o.wp P a w (Nx B E w0 N (σ2.put o.dst (.one (.sl n sz 0 es.length)))) Q:=by
 obtain⟨hn,rfl⟩:=kx hx;have f8:parts.toList.length=len:=by have:=congrArg List.length eZ;simpa using this
 have alO:(parts.toList.map fun p=>a.eval p.2).length=(Ew.map σ.ev).length:=by simp only[List.length_map];omega
 have yM:∀(j:Nat) (x:aj) (v:Value),(Ew.map σ.ev)[j]? =some x->(parts.toList.map fun p=>a.eval p.2)[j]? =some v->RA w G σ.h x v/\∀m,x.ref m->σ.used m=true:=by
  intro j x v D3 y4;rw[List.getElem?_map] at D3 y4;cases hp:parts.toList[j]? with
  |none=>rw[hp] at y4;cases y4
  |some p=>
   cases hm:Ew[j]? with
   |none=>rw[hm] at D3;cases D3
   |some m=>
    rw[hm] at D3;rw[hp] at y4;simp at D3 y4;subst D3;subst y4;exact r.ev (fZ j p m hp hm)
 obtain⟨Im',pes,a1,a2,a3,a4,a5,a6,a7,a8,a9⟩:=HR.mV (sz:=sz) r.hr Sb alO (fun j x v h1 h2=>(yM j x v h1 h2).1) (fun x hx m hm=>by
  obtain⟨j,hj,hjx⟩:=List.getElem_of_mem hx;have y4:(parts.toList.map fun p=>a.eval p.2)[j]? =some ((parts.toList.map fun p=>a.eval p.2)[j]'(by omega)):=List.getElem?_eq_getElem _;exact(yM j x _ (by rw[List.getElem?_eq_getElem hj,hjx]) y4).2 m hm)
 simp only[List.nil_append] at a5;have alz:pes.length=len:=by
  have:=congrArg List.length a2;simp only[List.length_map] at this;omega
 have Sf:∀v∈(parts.toList.map fun p=>a.eval p.2),v.cells.size=sz:=by
  intro v hv;obtain⟨j,hj,yR⟩:=List.getElem_of_mem hv;have h1:((parts.toList.map fun p=>a.eval p.2).map fun v=>v.cells.toList)[j]? =some v.cells.toList:=by rw[List.getElem?_map,List.getElem?_eq_getElem hj,yR];rfl
  rw[<-a2,List.getElem?_map] at h1;cases hq:pes[j]? with
  |none=>rw[hq] at h1;cases h1
  |some pe=>
   rw[hq] at h1;simp at h1;have:=a3 pe (List.mem_of_getElem? hq);rw[<-Array.length_toList,<-h1];simpa using this
 have hpz:(parts.map fun p=>(p.1,a.eval p.2)).toList=((parts.toList.map fun p=>a.eval p.2).zipIdx 0).map fun p=>(p.2,p.1):=by
  apply List.ext_getElem?;intro j;simp only[Array.toList_map,List.getElem?_map,List.getElem?_zipIdx];cases hp:parts.toList[j]? with
  |none=>simp
  |some p=>
   have jX:=(List.getElem?_eq_some_iff.1 hp).1;have h1:(parts.toList.map (·.1))[j]? =some p.1:=by rw[List.getElem?_map,hp];rfl
   rw[eZ,List.getElem?_range (by omega)] at h1;injection h1 with h1;simp[h1]
 have bE:(execOp a.eval o).run P w=.ok (.value (.slice (some (ad w.heap.size 0)) len len)) (w.alloc (.cells ((parts.toList.map fun p=>a.eval p.2).flatMap fun v=>v.cells.toList).toArray e)):=by
  have ak8:((parts.toList.map fun p=>a.eval p.2).flatMap fun v=>v.cells.toList).length=len*sz:=by
   rw[List.length_flatMap];have:∀(l:List Value),(∀v∈l,v.cells.size=sz)->(l.map fun v=>v.cells.toList.length).sum=l.length*sz:=by
    intro l;induction l with
    |nil=>simp
    |cons v l ih=>
     intro hv;simp only[List.map_cons,List.sum_cons,List.length_cons];rw[ih (fun v' gk=>hv v' (by simp[gk])),Array.length_toList,hv v (by simp),Nat.add_mul];omega
   rw[this _ Sf];simp[f8]
  have Lk:∀cs:Array Value,cs.size=len*sz->Instr.fill (fun i=>some (i*sz,sz)) cs (parts.map fun p=>(p.1,a.eval p.2)).toList=some ((parts.toList.map fun p=>a.eval p.2).flatMap fun v=>v.cells.toList).toArray:=by
   intro cs fi;rw[hpz,QI sz _ 0 cs Sf (by simp only[List.length_map,f8,Nat.zero_add];omega)];congr 2;simp only[dq,Nat.zero_mul,List.take_zero,List.nil_append,Nat.zero_add];rw[List.drop_eq_nil_of_le (by rw[ak8,Array.length_toList,fi];exact Nat.le_refl _)];simp
  by_cases h0:len*sz=0
  ·have hf:=Lk ((Array.range 0).map fun _=>default) (by simp[h0]);rw[Array.toList_map] at hf;simp[execOp,ho,Instr.buildSlice,run_underlying ht,sizeOf,typeInfo,hi,bV,h0,Nat.not_lt.2 DI,hf,newRow,ad]
  ·have hf:=Lk ((Array.range (len*sz)).map (z.cells[·%z.cells.size]!)) (by simp);rw[Array.toList_map] at hf;simp[execOp,ho,Instr.buildSlice,run_underlying ht,sizeOf,typeInfo,hi,bV,h0,Nat.not_lt.2 DI,zeroValue,hz,hf,newRow,ad]
 have fO:∀k j c,At pes k j c->Good w c/\∀b,aZ b c->Im' b:=fun k j c hk=>by
  obtain⟨e1,he,hj⟩:=hk;exact a4 e1 (List.mem_of_getElem? he) c (List.mem_of_getElem? hj)
 have H0:HR B E w ⟨Im',G.g⟩ σ1.h σ.used []:=by
  cases ow
  ·simpa using a5
  ·have uF:HR B E w ⟨Im',G.g⟩ σ1.h σ.used ([]++pes.flatten):=by simpa using a5
   exact uF.xT
 obtain⟨G',r',hv,_⟩:=r.newRow (m:=if ow=true then .aN else .aJ) (sz:=sz) (cap:=len) (pes:=pes) (arr:=((parts.toList.map fun p=>a.eval p.2).flatMap fun v=>v.cells.toList).toArray) (e:=e) H0 a6 a7 a8 (by rw[<-a8];exact hn) fV a3 fO
  (fun k j c hk=>by
   have bL:At (pes.map fun e=>e.map PC.val) k j c.val:=by
    obtain⟨e1,he,hj⟩:=hk;exact⟨e1.map PC.val,by rw[List.getElem?_map,he];rfl,by rw[List.getElem?_map,hj];rfl⟩
   have hf:=tq (sz:=sz) (px:=pes.map fun e=>e.map PC.val) (fun e he=>by
    obtain⟨e1,yL,rfl⟩:=List.mem_map.1 he;simpa using a3 e1 yL) bL
   rw[a2] at hf;simpa[List.flatMap] using hf) (by omega) (by
   have h2:sz*len<=16777216:=by rw[Nat.mul_comm];exact DI
   have h3:len<=len*sz:=Nat.le_mul_of_pos_right _ fV;simp only[maxLen];omega) (by
   have Rv:((parts.toList.map fun p=>a.eval p.2).flatMap fun v=>v.cells.toList).length=len*sz:=by
    rw[List.length_flatMap];have:∀(l:List Value),(∀v∈l,v.cells.size=sz)->(l.map fun v=>v.cells.toList.length).sum=l.length*sz:=by
     intro l;induction l with
     |nil=>simp
     |cons v l ih=>
      intro hv;simp only[List.map_cons,List.sum_cons,List.length_cons];rw[ih (fun v' gk=>hv v' (by simp[gk])),Array.length_toList,hv v (by simp),Nat.add_mul];omega
    rw[this _ Sf];simp[f8]
   simpa using Rv) (by
   cases ow
   ·exact .inl rfl
   ·right;simp only[if_true];have uF:HR B E w ⟨Im',G.g⟩ σ1.h σ.used pes.flatten:=by simpa using a5
    exact uF.ada fV a3) (fun hl=>by cases ow<;>cases hl)
 have ak6:es.length=pes.length:=by rw[<-a1];simp
 rw[a1] at r' hv;rw[ak6];rw[alz] at hv⊢;refine oG bE ⟨G',?_⟩;exact r'.put hv (fun q hq=>by have fc:q=n:=hq;subst fc;exact bR _ _ _) (fun q hq=>by rw[hd] at hq;injection hq with hq;omega)
theorem HR.loadAt (H:HR B E w G h used tk) {p:ah} {sz:Nat} {cs:List ah} {v:Value} (hx:loadAt h p sz=some cs) (hc:RC w G h p v) (me:∀m,p.ref m->used m=true):
  ∃(b o:Nat) (vs:List Value),v=.pointer (some (ad b o))/\vs.length=sz/\(∀(j:Nat) (u:Value),vs[j]? =some u->w.cell? (ad b (o+j))=some u)/\dj w G h cs vs/\
   ∀c∈cs,∀m,c.ref m->used m=true:=by
 cases p with
 |ptr n k aB off=>
  simp only[Am.loadAt] at hx;split at hx
  ·rename_i gf hn;split at hx
   ·rename_i hk;subst hk;obtain⟨s1,s2,s3⟩:=Fh hx;obtain⟨q1,q2⟩:=hc (by rw[hn];simp);obtain⟨b1,b2,b3⟩:=H.box n gf hn;have cW:∀j,j<sz->∃v,w.cell? (ad (G.g n).b ((G.g n).o+off+j))=some v/\∀c,cs[j]? =some c->v.oneCell'=true/\RC w G h c v:=by
     intro j hj;have dL:gf[off+j]? =some (gf[off+j]'(by omega)):=List.getElem?_eq_getElem _;obtain⟨v,v1,v2,v3⟩:=b3 _ _ dL;refine⟨v,by rw[Nat.add_assoc];exact v1,fun c fN=>?_⟩;rw[s2,zR hj,dL] at fN;injection fN with fN;subst fN;exact⟨v2,v3⟩
    obtain⟨vs,l1,l2⟩:=QF _ sz cW;refine⟨(G.g n).b,(G.g n).o+off,vs,by rw[q2];simp,l1,fun j u hj=>(l2 j u hj).1,⟨by omega,fun j c u fN hu=>(l2 j u hu).2 c fN⟩,fun c jD m hm=>?_⟩;refine H.ik n gf c m hn ?_ hm;rw[s2] at jD;exact List.mem_of_mem_drop (List.mem_of_mem_take jD)
   ·cases hx
  ·rename_i gr mo rs xs hn;split at hx
   ·rename_i oV;subst oV;split at hx
    ·rename_i e he;split at hx
     ·rename_i l fP;injection hx with hx;obtain⟨s1,s2,s3⟩:=Fh fP;have hr:=H.row n gr mo aB xs hn;obtain⟨q1,q2⟩:=hc (by rw[hn];simp);obtain⟨r1,r2,r3⟩:=hr.eK q1;have iY:∃pe,(G.g n).px[k]? =some pe/\pe.map PC.er=e:=by
       rw[hr.er,List.getElem?_map] at he;cases hp:(G.g n).px[k]? with
       |none=>rw[hp] at he;cases he
       |some pe=>rw[hp] at he;simp at he;exact⟨pe,rfl,he⟩
      obtain⟨pe,sx,vc⟩:=iY;have eZ:off+sz<=pe.length:=by rw[<-vc] at s1;simpa using s1
      have gW:∀j,j<sz->∃pc,At (G.g n).px k (off+j) pc/\l[j]? =some pc.er/\((pe.drop off).take sz)[j]? =some pc:=by
       intro j hj;have hp:pe[off+j]? =some (pe[off+j]'(by omega)):=List.getElem?_eq_getElem _;refine⟨pe[off+j]'(by omega),⟨pe,sx,hp⟩,?_,by rw[zR hj];exact hp⟩;have e0:l[j]? =((e.drop off).take sz)[j]? :=congrArg (fun q:List C=>q[j]?) s2;rw[e0,zR hj,<-vc,List.getElem?_map,hp];rfl
      have oW:(((pe.drop off).take sz).map PC.val).length=sz:=by simp;omega
      refine⟨(G.g n).b,(G.g n).o+k*aB+off,((pe.drop off).take sz).map PC.val,q2,oW,fun j u hj=>?_,?_,?_⟩
      ·have kN:j<sz:=by have:=(List.getElem?_eq_some_iff.1 hj).1;omega
       obtain⟨pc,p1,p2,p3⟩:=gW j kN;rw[List.getElem?_map,p3] at hj;simp at hj;subst hj;rw[show(G.g n).o+k*aB+off+j=(G.g n).o+k*aB+(off+j) by omega];exact r2.2.1 _ _ _ p1
      ·subst hx;refine⟨by rw[oW];split<;>simp[abl,s3],fun j c u fN hu=>?_⟩
       have kN:j<sz:=by have:=(List.getElem?_eq_some_iff.1 hu).1;omega
       obtain⟨pc,p1,p2,p3⟩:=gW j kN;rw[List.getElem?_map,p3] at hu;simp at hu;subst hu;refine⟨PC.jP pc,?_⟩;have hg:=r2.2.2 _ _ _ p1;split at fN
       ·rename_i sn;subst sn;rcases Ta n k aB l off j c fN with⟨c',h1,h2,rfl⟩|⟨s,ys,h1,rfl⟩
        ·rw[p2] at h1;injection h1 with h1;exact⟨pc,h1,rfl,hg,fun b hb=>absurd hb ((Sep.hY (pc:=pc) (by rw[h1];exact h2)).2 b)⟩
        ·rw[p2] at h1;injection h1 with h1;intro bo av _;refine⟨pc,p1,rfl,?_⟩;cases pc<;>simp[PC.er] at h1<;>rfl
       ·rename_i sn;rw[List.getElem?_map,p2] at fN;simp at fN;subst fN;refine⟨pc,rfl,rfl,hg,fun b hb=>?_⟩;have hm:=hr.mode;have cT:bh b (G.g n).px:=⟨k,off+j,pc,p1,hb⟩;cases mo with
        |aJ=>exact hm b cT
        |aN=>exact(hm.1 b cT).1
        |live=>exact absurd rfl sn
      ·intro c jD m hm;subst hx;split at jD
       ·obtain⟨j,hj,A5⟩:=List.getElem_of_mem jD;rcases Ta n k aB l off j c (by rw[List.getElem?_eq_getElem hj,A5]) with⟨c',h1,h2,rfl⟩|⟨s,ys,h1,rfl⟩
        ·exact absurd hm (by simp[ah.ref,ah.hZ])
        ·have:m=n:=hm;subst this;exact me m rfl
       ·obtain⟨c',_,rfl⟩:=List.mem_map.1 jD;exact absurd hm (by simp[ah.ref,ah.hZ])
     ·cases hx
    ·cases hx
   ·cases hx
  ·cases hx
 |dg xs off=>
  simp only[Am.loadAt] at hx;cases fP:sub xs off sz with
  |none=>rw[fP] at hx;cases hx
  |some l=>
   rw[fP] at hx;simp at hx;subst hx;obtain⟨s1,s2,s3⟩:=Fh fP;obtain⟨b,o,pe,p1,p2,p3,p4⟩:=hc;have eZ:off+sz<=pe.length:=by rw[<-p2] at s1;simpa using s1
   have oW:(((pe.drop off).take sz).map PC.val).length=sz:=by simp;omega
   have gW:∀j,j<sz->∃pc,pe[off+j]? =some pc/\l[j]? =some pc.er/\((pe.drop off).take sz)[j]? =some pc:=by
    intro j hj;have hp:pe[off+j]? =some (pe[off+j]'(by omega)):=List.getElem?_eq_getElem _;refine⟨pe[off+j]'(by omega),hp,?_,by rw[zR hj];exact hp⟩;have e0:l[j]? =((xs.drop off).take sz)[j]? :=congrArg (fun q:List C=>q[j]?) s2;rw[e0,zR hj,<-p2,List.getElem?_map,hp];rfl
   refine⟨b,o+off,_,p1,oW,fun j u hj=>?_,⟨by rw[oW];simp[s3],fun j c u fN hu=>?_⟩,fun c jD m hm=>?_⟩
   ·have kN:j<sz:=by have:=(List.getElem?_eq_some_iff.1 hj).1;omega
    obtain⟨pc,q1,q2,q3⟩:=gW j kN;rw[List.getElem?_map,q3] at hj;simp at hj;subst hj;rw[Nat.add_assoc];exact(p4 _ _ q1).1
   ·have kN:j<sz:=by have:=(List.getElem?_eq_some_iff.1 hu).1;omega
    obtain⟨pc,q1,q2,q3⟩:=gW j kN;rw[List.getElem?_map,q3] at hu;rw[List.getElem?_map,q2] at fN;simp at hu fN;subst hu;subst fN;exact⟨PC.jP pc,pc,rfl,rfl,(p4 _ _ q1).2.1,(p4 _ _ q1).2.2⟩
   ·obtain⟨c',_,rfl⟩:=List.mem_map.1 jD;exact absurd hm (by simp[ah.ref,ah.hZ])
 |cH xs off j n s len=>
  simp only[Am.loadAt] at hx;obtain⟨b,o,pe,p1,p2,p3,p4,u,u1,u2,u3⟩:=hc;split at hx
  ·rename_i cV;obtain⟨rfl,rfl⟩:=cV;injection hx with hx;subst hx;refine⟨b,o+off,[u],p1,rfl,fun i u' hi=>?_,⟨rfl,fun i c u' jk hu=>?_⟩,fun c jD m hm=>?_⟩
   ·cases i with
    |zero=>simp at hi;subst hi;exact u1
    |succ i=>simp at hi
   ·cases i with
    |zero=>simp at jk hu;subst jk;subst hu;exact⟨u2,u3⟩
    |succ i=>simp at hu
   ·simp at jD;subst jD;have:m=n:=hm;subst this;exact me m rfl
  ·split at hx
   ·rename_i cu;cases fP:sub xs off sz with
    |none=>rw[fP] at hx;cases hx
    |some l=>
     rw[fP] at hx;simp at hx;subst hx;obtain⟨s1,s2,s3⟩:=Fh fP;have eZ:off+sz<=pe.length:=by rw[<-p2] at s1;simpa using s1
     have oW:(((pe.drop off).take sz).map PC.val).length=sz:=by simp;omega
     have gW:∀j,j<sz->∃pc,pe[off+j]? =some pc/\l[j]? =some pc.er/\((pe.drop off).take sz)[j]? =some pc:=by
      intro j hj;have hp:pe[off+j]? =some (pe[off+j]'(by omega)):=List.getElem?_eq_getElem _;refine⟨pe[off+j]'(by omega),hp,?_,by rw[zR hj];exact hp⟩;have e0:l[j]? =((xs.drop off).take sz)[j]? :=congrArg (fun q:List C=>q[j]?) s2;rw[e0,zR hj,<-p2,List.getElem?_map,hp];rfl
     refine⟨b,o+off,_,p1,oW,fun i u hi=>?_,⟨by rw[oW];simp[s3],fun i c u jk hu=>?_⟩,fun c jD m hm=>?_⟩
     ·have DR:i<sz:=by have:=(List.getElem?_eq_some_iff.1 hi).1;omega
      obtain⟨pc,q1,q2,q3⟩:=gW i DR;rw[List.getElem?_map,q3] at hi;simp at hi;subst hi;rw[Nat.add_assoc];exact(p4 _ _ (by omega) q1).1
     ·have DR:i<sz:=by have:=(List.getElem?_eq_some_iff.1 hu).1;omega
      obtain⟨pc,q1,q2,q3⟩:=gW i DR;rw[List.getElem?_map,q3] at hu;rw[List.getElem?_map,q2] at jk;simp at hu jk;subst hu;subst jk;exact⟨PC.jP pc,pc,rfl,rfl,(p4 _ _ (by omega) q1).2.1,(p4 _ _ (by omega) q1).2.2⟩
     ·obtain⟨c',_,rfl⟩:=List.mem_map.1 jD;exact absurd hm (by simp[ah.ref,ah.hZ])
   ·cases hx
 |c x=>simp[Am.loadAt] at hx
 |nil sz=>simp[Am.loadAt] at hx
 |sl n sz lo len=>simp[Am.loadAt] at hx
 |bC n k aB off sz len=>simp[Am.loadAt] at hx
 |db n k aB off s i=>
  simp only[Am.loadAt] at hx;split at hx
  ·rename_i gr rs xs hn;split at hx
   ·rename_i oV;subst oV;split at hx
    ·rename_i s' ys qL;split at hx
     ·rename_i cV;obtain⟨nf,ng⟩:=cV;split at hx
      ·rename_i e he;split at hx
       ·rename_i iZ;injection hx with hx;subst hx;obtain⟨pc,b,o,len,cap,p1,p2,p3,p4⟩:=hc gr xs hn;have hr:=H.row n gr .live rs xs hn;have aR:(G.g n).nl=false:=by
         cases hq:(G.g n).nl with
         |false=>rfl
         |true=>obtain⟨e,he,_⟩:=p1;rw[(hr.nl hq).1] at he;simp at he
        have hg:Good w pc:=(hr.eK aR).2.1.2.2 _ _ _ p1;have gJ:pc.er=.list s' ys:=by
         obtain⟨e',DM,nj⟩:=p1;rw[hr.er] at qL;simp[DM,nj] at qL;exact qL
        cases pc with
        |int k n=>simp[PC.er] at gJ
        |bool b=>simp[PC.er] at gJ
        |list aF a ko py=>
         rw[PC.dV] at gJ;injection gJ with e1 e2;have e3:aF=s:=e1.trans nf;have e4:sz=aF:=ng.trans e3.symm;rw[<-e3] at p4;clear nf ng e1 e3;subst e2 e4;simp only[PC.val] at p2;injection p2 with f1 f2 f3;subst f1 f3;rw[List.getElem?_map] at he;cases hp:py[i]? with
         |none=>rw[hp] at he;cases he
         |some pe=>
          rw[hp] at he;simp at he;subst he;generalize gw:PC.list sz (some (ad b o)) ko py=q at hg;cases hg with
          |int k n=>cases gw
          |bool b=>cases gw
          |nil _ _ _ _=>injection gw with _ _ _ e4;subst e4;simp at hp
          |cons _ b' Tx _ _ q1 q2 q3 q4 q5 q6=>
           injection gw with f1 f2 f3 f4;injection f2 with f2;obtain⟨rfl,rfl⟩:=lz f2;subst f1 f3 f4;have wY:pe.length=sz:=q4 pe (List.mem_of_getElem? hp);refine⟨b,o+i*sz,pe.map PC.val,p4,by simpa using wY,fun j u hj=>?_,⟨by simp,fun j c u fN hu=>?_⟩,fun c jD m hm=>?_⟩
           ·rw[List.getElem?_map] at hj;cases kO:pe[j]? with
            |none=>rw[kO] at hj;cases hj
            |some c=>rw[kO] at hj;simp at hj;subst hj;exact q5 i j c ⟨pe,hp,kO⟩
           ·rw[List.getElem?_map] at hu;rw[List.getElem?_map,List.getElem?_map] at fN;cases kO:pe[j]? with
            |none=>rw[kO] at hu;cases hu
            |some c'=>
             rw[kO] at hu fN;simp at hu fN;subst hu;subst fN;have jm:c'.er.fk=true:=List.all_eq_true.1 iZ _ (List.mem_map_of_mem (List.mem_of_getElem? kO));exact⟨PC.jP c',c',rfl,rfl,q6 i j c' ⟨pe,hp,kO⟩,fun b hb=>absurd hb ((Sep.hY jm).2 b)⟩
           ·obtain⟨c',_,rfl⟩:=List.mem_map.1 jD;exact absurd hm (by simp[ah.ref,ah.hZ])
       ·cases hx
      ·cases hx
     ·cases hx
    ·cases hx
   ·cases hx
  ·cases hx
 |fn f cP=>simp[Am.loadAt] at hx
 |bq=>simp[Am.loadAt] at hx
def Dc (P:Program) (t:TypeId) (ag:Bool) (sz:Nat):Bool:=
 match P.underlying t,P.info? t with
 |some (.struct _),some i=>ag&&i.size==sz
 |some (.array _ _),_=>false
 |some _,some i=> !ag&&sz==1
 |_,_=>false
theorem RA.fu {c:ah} {v:Value} (hc:c≠ .bq) (hv:RA w G h (.one c) v):RC w G h c v/\v.oneCell'=true:=by
 rcases hv with rfl|hv
 ·exact absurd rfl hc
 ·have gk:dj w G h [c] [v]:=hv;exact⟨(gk.2 0 c v rfl rfl).2,(gk.2 0 c v rfl rfl).1⟩
theorem ajh (r:R B E w0 N σ a w G) {t:TypeId} {x:Operand} {m:MO} {ag:Bool} {sz:Nat} {p:ah} {cs:List ah} (ho:o.op=.load t x) (hN:∀n,o.dst=some n->n<N)
  (hm:bU x m=true) (fZ:Dc P t ag sz=true) (hp:σ.ev m=.one p) (hx:Am.loadAt σ.h p sz=some cs):
  o.wp P a w (Nx B E w0 N (σ.put o.dst (oD ag cs))) Q:=by
 obtain⟨hv,me⟩:=r.ev hm;rw[hp] at hv me;have kO:p≠ .bq:=by rintro rfl;simp[Am.loadAt] at hx
 obtain⟨b,of,vs,h1,h2,h3,h4,h5⟩:=r.hr.loadAt hx (hv.fu kO).1 me;have nZ:∀v,RA w G σ.h (oD ag cs) v->(execOp a.eval o).run P w=.ok (.value v) w->o.wp P a w (Nx B E w0 N (σ.put o.dst (oD ag cs))) Q:=fun v hv bE=>
  oG bE ⟨G,r.put hv (fun q hq=>by
   unfold oD at hq;split at hq
   ·obtain⟨c,hc,hq⟩:=hq;exact h5 c hc q hq
   ·exact h5 _ (by simp) q hq
   ·exact absurd hq (by simp[aj.ref,ah.ref,ah.hZ])) hN⟩
 have RO:∀n:Nat,n=vs.length->(loadCells (ad b of) n).run P w=.ok vs.toArray w:=fun n hn=>by
  subst hn;exact run_loadCells_list w (ad b of) vs (fun j u hj=>by rw[qz];exact h3 j u hj)
 unfold Dc at fZ;cases hu:P.underlying t with
 |none=>rw[hu] at fZ;simp at fZ
 |some d=>
  cases hi:P.info? t with
  |none=>rw[hu,hi] at fZ;cases d<;>simp at fZ
  |some i=>
   rw[hu,hi] at fZ;have cf:(ag=true/\i.size=sz/\(isAgg t).run P w=.ok true w)\/(ag=false/\sz=1/\(isAgg t).run P w=.ok false w):=by
    cases d<;>simp at fZ<;>simp[isAgg,run_underlying hu,fZ]
   rcases cf with⟨rfl,e1,e2⟩|⟨rfl,e1,e2⟩
   ·refine nZ (.agg vs.toArray) ⟨vs,rfl,h4⟩ ?_;simp[execOp,ho,h1,Instr.loadAt,Instr.sureAddr,loadVar,e2,sizeOf,typeInfo,hi,RO i.size (by omega)]
   ·subst e1;match vs,h2 with
    |[u],_=>
     have fi:∃c,cs=[c]:=by
      have:=h4.1;match cs,this with
      |[c],_=>exact⟨c,rfl⟩
     obtain⟨c,rfl⟩:=fi;refine nZ u (.inr h4) ?_;have gW:=h3 0 u rfl;simp only[Nat.add_zero] at gW;simp[execOp,ho,h1,Instr.loadAt,Instr.sureAddr,loadVar,e2,gW]
end
theorem ND {α:Type} {l vs:List α} {off:Nat} (h:off+vs.length<=l.length):(dq l off vs).length=l.length:=by
 simp[dq];omega
theorem zM {α:Type} {l vs:List α} {off j:Nat} (h:off+vs.length<=l.length):(dq l off vs)[j]? =if off<=j/\j<off+vs.length then vs[j - off]? else l[j]? :=by
 unfold dq;have ht:(l.take off).length=off:=by simp;omega
 by_cases h1:j<off
 ·rw[if_neg (by omega),List.append_assoc,List.getElem?_append_left (by omega),List.getElem?_take_of_lt h1]
 ·by_cases h2:j<off+vs.length
  ·rw[if_pos ⟨by omega,h2⟩,List.append_assoc,List.getElem?_append_right (by omega),List.getElem?_append_left (by omega),ht]
  ·rw[if_neg (by omega),List.getElem?_append_right (by simp;omega),List.getElem?_drop];congr 1;simp;omega
theorem Fb {α β:Type} (f:α->β) (l vs:List α) (off:Nat):(dq l off vs).map f=dq (l.map f) off (vs.map f):=by
 simp[dq,List.map_take,List.map_drop]
def gb (w:World) (b o:Nat) (vs:List Value) (cur:Array Value):World:=w.setRow b (cur.toList.take o++vs++cur.toList.drop (o+vs.length)).toArray
section
variable {w:World} {b o:Nat} {vs:List Value} {cur:Array Value} {e:TypeId}
theorem zU (hg:w.heap[b]? =some (.cells cur e (0,0))) (hl:o+vs.length<=cur.size) (x:Nat):
  (gb w b o vs cur).cell? (ad b x)=if o<=x/\x<o+vs.length then vs[x - o]? else w.cell? (ad b x):=by
 unfold gb ad;rw[cell_setRow_same w b x cur _ e (0,0) hg];have h1:=zM (l:=cur.toList) (vs:=vs) (off:=o) (j:=x) (by simpa using hl);simp only[dq] at h1;rw[List.getElem?_toArray,h1];have h2:w.cell? ⟨b,x,none⟩=cur[x]? :=by simp[World.cell?,hg]
 rw[h2];simp
theorem zV (k:Nat) (hk:k≠b):(gb w b o vs cur).heap[k]? =w.heap[k]? :=setRow_other w b k _ hk
theorem rJ:(gb w b o vs cur).heap.size=w.heap.size:=setRow_size _ _ _
theorem Fu (hg:w.heap[b]? =some (.cells cur e (0,0))) (hl:o+vs.length<=cur.size):∃jB,(gb w b o vs cur).heap[b]? =some (.cells jB e (0,0))/\jB.size=cur.size:=by
 refine⟨_,setRow_heap w b cur _ e (0,0) hg,?_⟩;simp;omega
theorem Cf (hg:w.heap[b]? =some (.cells cur e (0,0))) (hl:o+vs.length<=cur.size):Cz w (gb w b o vs cur) b:=by
 intro arr e' h;obtain⟨jB,h1,h2⟩:=Fu (vs:=vs) (o:=o) hg hl;rw[hg] at h;injection h with h;injection h with ha hb;subst ha hb;exact⟨jB,h1,h2⟩
theorem IV (hg:w.heap[b]? =some (.cells cur e (0,0))) (hl:o+vs.length<=cur.size) (k:Nat) (hk:d9 w k):d9 (gb w b o vs cur) k:=by
 by_cases hkb:k=b
 ·subst hkb;obtain⟨jB,h1,_⟩:=Fu (vs:=vs) (o:=o) hg hl;exact⟨jB,e,h1⟩
 ·exact hk.congr (zV k hkb)
end
section
variable {B:Nat} {E:Ex} {w0 w w':World} {G G':Gh} {h h':Nat->Option aq} {used used':Nat->Bool} {tk:List PC} {N:Nat}
variable {P:Program} {o:Oper} {a:Act} {σ σ':St} {Q:Exit->Act->World->Prop}
theorem IM {α:Type} (f:Nat->α) (n:Nat):az f n (f n)=f:=by
 funext m;simp only[kg];split
 ·rename_i h;rw[h]
 ·rfl
theorem Nd {t:TypeId} {i:TypeInfo} {b off:Nat} {v:Value} {cur:Array Value} {e:TypeId} (hi:P.info? t=some i) (bV:v.cells.size=i.size) (hg:w.heap[b]? =some (.cells cur e (0,0)))
  (hl:off+v.cells.size<=cur.size) (h1:∀u∈v.cells.toList,u.oneCell'=true):
  (storeVar t (ad b off) v).run P w=.ok () (gb w b off v.cells.toList cur):=by
 have jn:=run_storeCells_at P b off e v.cells.toList 0 cur w hg (by simpa using hl) h1;simp only[Nat.add_zero] at jn;simp[storeVar,sizeOf,typeInfo,hi,bV,ad,jn,gb]
theorem HR.qI (H:HR B E w G h used tk) {n m:Nat} {gr:Bool} {mo:Mode} {sz:Nat} {xs:List (List C)} (hn:h n≠none) (hl:(G.g n).nl=false) (hm:h m=some (.row gr mo sz xs)) {b:Nat} (hb:bh b (G.g m).px):b≠(G.g n).b:=by
 have dW:=(H.row m gr mo sz xs hm).mode;cases mo with
 |aJ=>rintro rfl;exact(H.own n hn hl).1 (dW _ hb)
 |aN=>rintro rfl;exact(H.own n hn hl).1 (dW.1 _ hb).1
 |live=>exact H.live m gr sz xs hm b hb n hn hl
theorem R.atH (r:R B E w0 N σ a w G) {n:Nat} {cs:List ah} {vs:List ah} {us:List Value} {off:Nat} (hn:σ.h n=some (.box cs)) (hv:dj w G σ.h vs us) (me:∀c∈vs,∀m,c.ref m->σ.used m=true)
  (hl:off+vs.length<=cs.length) {cur:Array Value} {e:TypeId} (hg:w.heap[(G.g n).b]? =some (.cells cur e (0,0))) (f0:(G.g n).o+off+us.length<=cur.size):
  R B E w0 N (σ.eE n (.box (dq cs off vs))) a (gb w (G.g n).b ((G.g n).o+off) us cur) G:=by
 have H:=r.hr;have bN:σ.h n≠none:=by rw[hn];simp
 obtain⟨aR,vf,gW⟩:=H.box n cs hn;obtain⟨su,qQ,tN⟩:=H.own n bN aR;have y3:=H.jh n bN;have hG:(⟨G.Im,az G.g n (G.g n)⟩:Gh)=G:=by rw[IM]
 have hlen:us.length=vs.length:=hv.1;have dM:∀b,b<w.heap.size->b≠(G.g n).b->(gb w (G.g n).b ((G.g n).o+off) us cur).heap[b]? =w.heap[b]? :=fun b _ hb=>zV b hb;have K:bm w G σ.h (fun n=>σ.used n=true) (gb w (G.g n).b ((G.g n).o+off) us cur) G (az σ.h n (some (.box (dq cs off vs)))):=by
  refine⟨fun _ h=>h,fun b hb x=>gV (dM b (H.gH b hb) (fun he=>su (he▸hb))) x,fun m hm h0=>?_,fun m gr sz xs hm h0=>?_⟩
  ·by_cases bJ:m=n
   ·subst bJ;exact⟨bN,rfl,rfl,rfl,rfl,rfl⟩
   ·rw[cN _ _ _ _ bJ] at h0;exact⟨h0,rfl,rfl,rfl,rfl,rfl⟩
  ·by_cases bJ:m=n
   ·subst bJ;rw[bR] at h0;cases h0
   ·rw[cN _ _ _ _ bJ] at h0;exact⟨⟨gr,xs,h0⟩,fun k j pc h1 h2=>⟨pc,h1,rfl,h2⟩⟩
 have Hn:HR B E (gb w (G.g n).b ((G.g n).o+off) us cur) ⟨G.Im,az G.g n (G.g n)⟩ (az σ.h n (some (.box (dq cs off vs)))) σ.used []:=by
  refine H.put (fun b hb aD=>dM b hb (aD aR)) (by rw[rJ];exact Nat.le_refl _) (fun b _ hb=>IV hg f0 b hb) (fun _ h=>h) y3 (fun _=>⟨su,qQ,by rw[rJ];exact tN⟩)
   (fun _ m hm h0 gX=>(H.inj m n h0 bN hm gX aR)) (fun _ m gr sz xs hm h0 b hb=>H.live m gr sz xs h0 b hb n bN aR) ?_ (by rw[hG];exact K) ?_
   (fun gr m sz xs hb=>by cases hb) (fun gr sz xs hb=>by cases hb) (fun gr m sz xs hb=>by cases hb) ?_
  ·intro cs' c m hb hc hm;injection hb with hb;subst hb;simp only[dq,List.mem_append] at hc;rcases hc with(hc|hc)|hc
   ·exact H.ik n cs c m hn (List.mem_of_mem_take hc) hm
   ·exact me c hc m hm
   ·exact H.ik n cs c m hn (List.mem_of_mem_drop hc) hm
  ·rw[hG];refine⟨aR,IV hg f0 _ vf,fun j c hj=>?_⟩;rw[zM hl] at hj;rw[zU hg f0];by_cases dw:off<=j/\j<off+vs.length
   ·rw[if_pos dw] at hj;rw[if_pos (by omega)];have jX:j - off<us.length:=by omega
    have hu:us[j - off]? =some (us[j - off]'jX):=List.getElem?_eq_getElem jX;obtain⟨q1,q2⟩:=hv.2 _ _ _ hj hu;refine⟨_,by rw[<-hu];congr 1;omega,q1,q2.fW K (me c (List.mem_of_getElem? hj))⟩
   ·rw[if_neg dw] at hj;rw[if_neg (by omega)];obtain⟨v,v1,v2,v3⟩:=gW j c hj;exact⟨v,v1,v2,v3.fW K (fun m hm=>H.ik n cs c m hn (List.mem_of_getElem? hj) hm)⟩
  ·intro _ _ b hb;obtain⟨m,gr,mo,sz,xs,hm,h0,cT⟩:=hb;exact H.qI bN aR h0 cT
 rw[hG] at Hn;exact r.step (σ':=σ.eE n (.box (dq cs off vs))) rfl (fun _ h=>h) K Hn (r.fr.one qQ (fun b hb aD=>dM b hb aD) (by rw[rJ];exact Nat.le_refl _) (Cf hg f0) rfl rfl rfl)
theorem Kl {α:Type} {px:List (List α)} {k k' j:Nat} {pe:List α} {c:α} (hk:k<px.length) (h:At (px.set k pe) k' j c):(k'=k/\pe[j]? =some c)\/(k'≠k/\At px k' j c):=by
 obtain⟨e,he,hj⟩:=h;by_cases yT:k'=k
 ·subst yT;rw[List.getElem?_set_self hk] at he;injection he with he;subst he;exact .inl ⟨rfl,hj⟩
 ·rw[List.getElem?_set_ne (Ne.symm yT)] at he;exact .inr ⟨yT,e,he,hj⟩
theorem PC.aa3 {pc:PC} (h:pc.ie=true):pc.er.fk=false:=by
 cases pc<;>simp[PC.ie] at h
 simp[PC.dV,C.fk]
theorem R.oA (r:R B E w0 N σ a w G) {n:Nat} {gr:Bool} {m:Mode} {rs:Nat} {xs:List (List C)} {k off:Nat} {e:List C} {vs:List ah} {us:List Value} {σ2:St}
  (hn:σ.h n=some (.row gr m rs xs)) (aR:(G.g n).nl=false) (hk:xs[k]? =some e) (hv:dj w G σ.h vs us) (me:∀c∈vs,∀m,c.ref m->σ.used m=true)
  (hx:Am.oA σ n gr m rs xs k off e vs=some σ2) {cur:Array Value} {et:TypeId} (hg:w.heap[(G.g n).b]? =some (.cells cur et (0,0))) (f0:(G.g n).o+k*rs+off+us.length<=cur.size):
  ∃G',R B E w0 N σ2 a (gb w (G.g n).b ((G.g n).o+k*rs+off) us cur) G':=by
 unfold Am.oA at hx;split at hx
 ·cases hx
 rename_i ii fP;obtain⟨s1,s2,s3⟩:=Fh fP;split at hx
 ·cases hx
 rename_i cs ow σ1 Sb;obtain⟨Im',bD,a1,a2,a3,a4,a5,a6,a7,a8⟩:=HR.gC r.hr Sb hv me;simp only[List.nil_append] at a4;have H0:HR B E w ⟨Im',G.g⟩ σ1.h σ.used []:=by
  cases ow
  ·simpa using a4
  ·have a4':HR B E w ⟨Im',G.g⟩ σ1.h σ.used ([]++bD):=by simpa using a4
   exact a4'.xT
 have hlen:us.length=vs.length:=hv.1;have eZ:bD.length=vs.length:=by have:=congrArg List.length a2;simp at this;omega
 have akW:(σ1.h n).isSome=true/\∃m',σ2=σ1.eE n (.row gr m' rs (xs.set k (dq e off cs)))/\
   ((m=.live/\m'=.live/\fG cs=true/\fG ii=true/\gr=false)\/(m≠ .live/\m'=if ow=true then m else .aJ)):=by
  split at hx
  ·rename_i hm;split at hx
   ·rename_i hc;injection hx with hx;exact⟨hc.2.2.1,m,by rw[<-hx],.inl ⟨hm,hm,hc.1,hc.2.1,hc.2.2.2⟩⟩
   ·cases hx
  ·rename_i hm;split at hx
   ·rename_i hs;injection hx with hx;exact⟨hs,_,hx.symm,.inr ⟨hm,rfl⟩⟩
   ·cases hx
 obtain⟨DX,m',rfl,gj⟩:=akW;have lG:σ1.h n=some (.row gr m rs xs):=by
  cases hh:σ1.h n with
  |none=>rw[hh] at DX;cases DX
  |some b=>rw[<-a8 n b hh,hn]
 have bN:σ1.h n≠none:=by rw[lG];simp
 have hr:=H0.row n gr m rs xs lG;obtain⟨su,qQ,tN⟩:=H0.own n bN aR;have y3:=H0.jh n bN;obtain⟨l1,l2,l3⟩:=hr.eK aR;have iY:∃pe,(G.g n).px[k]? =some pe/\pe.map PC.er=e:=by
  have gJ:=hr.er;rw[gJ,List.getElem?_map] at hk;cases hp:(G.g n).px[k]? with
  |none=>rw[hp] at hk;cases hk
  |some pe=>rw[hp] at hk;simp at hk;exact⟨pe,rfl,hk⟩
 obtain⟨pe,sx,vc⟩:=iY;have nk:k<(G.g n).px.length:=(List.getElem?_eq_some_iff.1 sx).1;have wY:pe.length=rs:=l2.1 pe (List.mem_of_getElem? sx);have nY:off+bD.length<=pe.length:=by rw[<-vc] at s1;simp at s1;omega
 let EI:=dq pe off bD;let px':=(G.g n).px.set k EI;let w2:=gb w (G.g n).b ((G.g n).o+k*rs+off) us cur;let p':PB:=⟨false,(G.g n).b,(G.g n).o,(G.g n).cap,px',(G.g n).na⟩;have aax:EI.length=rs:=by show(dq pe off bD).length=rs;rw[ND nY,wY]
 have cG:∀k' j c,At px' k' j c->(k'=k/\off<=j/\j<off+bD.length/\bD[j - off]? =some c)\/((k'≠k\/¬(off<=j/\j<off+bD.length))/\At (G.g n).px k' j c):=by
  intro k' j c h;rcases Kl nk h with⟨rfl,hj⟩|⟨aD,h⟩
  ·rw[zM nY] at hj;by_cases dw:off<=j/\j<off+bD.length
   ·rw[if_pos dw] at hj;exact .inl ⟨rfl,dw.1,dw.2,hj⟩
   ·rw[if_neg dw] at hj;exact .inr ⟨.inr dw,pe,sx,hj⟩
  ·exact .inr ⟨.inl aD,h⟩
 have akT:∀k' j c,At px' k' j c->j<rs:=by
  intro k' j c h;obtain⟨e1,he,hj⟩:=h;have:e1.length=rs:=by
   rcases List.mem_or_eq_of_mem_set (List.mem_of_getElem? he) with h1|h1
   ·exact l2.1 e1 h1
   ·rw[h1];exact aax
  rw[<-this];exact(List.getElem?_eq_some_iff.1 hj).1
 have lE:∀b,bh b px'->bh b (G.g n).px\/∃(i:Nat) (c:PC),bD[i]? =some c/\aZ b c:=by
  rintro b ⟨k',j,c,nX,hb⟩;rcases cG k' j c nX with⟨_,_,_,hp⟩|⟨_,hp⟩
  ·exact .inr ⟨_,c,hp,hb⟩
  ·exact .inl ⟨k',j,c,hp,hb⟩
 have dM:∀b,b≠(G.g n).b->w2.heap[b]? =w.heap[b]? :=fun b hb=>zV b hb;have RY:∀(i:Nat) (c:PC) (b:Nat),bD[i]? =some c->aZ b c->Im' b:=fun i c b hi hb=>(a3 c (List.mem_of_getElem? hi)).2 b hb;have AM:∀b,Im' b->b≠(G.g n).b:=fun b hb he=>su (he▸hb);have iF:∀b,bh b (G.g n).px->b≠(G.g n).b:=fun b hb=>H0.qI bN aR lG hb;have eH:nG w2 (G.g n).b (G.g n).o rs px':=by
  refine⟨fun e1 he=>?_,fun k' j c nX=>?_,fun k' j c nX=>?_⟩
  ·rcases List.mem_or_eq_of_mem_set he with h1|h1
   ·exact l2.1 e1 h1
   ·rw[h1];exact aax
  ·have hj:=akT k' j c nX;show w2.cell? _=_;rw[zU hg f0];rcases cG k' j c nX with⟨rfl,h1,h2,hp⟩|⟨aD,hp⟩
   ·rw[if_pos (by omega)];have hu:us[j - off]? =some c.val:=by rw[<-a2,List.getElem?_map,hp];rfl
    rw[<-hu];congr 1;omega
   ·rw[if_neg ?_]
    ·exact l2.2.1 k' j c hp
    ·rintro⟨q1,q2⟩;rcases aD with aD|aD
     ·rcases Nat.lt_or_gt_of_ne aD with cu|AY
      ·have:(k'+1)*rs<=k*rs:=Nat.mul_le_mul_right _ cu;rw[Nat.add_mul] at this;omega
      ·have:(k+1)*rs<=k'*rs:=Nat.mul_le_mul_right _ AY;rw[Nat.add_mul] at this;omega
     ·have:k'=k:=by
       rcases Nat.lt_trichotomy k' k with cu|fA|AY
       ·have:(k'+1)*rs<=k*rs:=Nat.mul_le_mul_right _ cu;rw[Nat.add_mul] at this;omega
       ·exact fA
       ·have:(k+1)*rs<=k'*rs:=Nat.mul_le_mul_right _ AY;rw[Nat.add_mul] at this;omega
      subst this;omega
  ·rcases cG k' j c nX with⟨_,_,_,hp⟩|⟨_,hp⟩
   ·exact(a3 c (List.mem_of_getElem? hp)).1.congr fun b hb x=>gV (dM b (AM b (RY _ c b hp hb))) x
   ·exact(l2.2.2 k' j c hp).congr fun b hb x=>gV (dM b (iF b ⟨k',j,c,hp,hb⟩)) x
 have aaq:(G.g n).o+k*rs+off+us.length<=cur.size:=f0;have iH:fG cs=true->∀(i:Nat) (c:PC) (b:Nat),bD[i]? =some c->¬aZ b c:=by
  intro hs i c b hi;have hc:c.er∈cs:=by rw[<-a1];exact List.mem_map_of_mem (List.mem_of_getElem? hi)
  exact(Sep.hY (pc:=c) (List.all_eq_true.1 hs _ hc)).2 b
 have hold:fG ii=true->∀j c,off<=j->j<off+bD.length->pe[j]? =some c->c.er.fk=true:=by
  intro hs j c h1 h2 hj;have:c.er∈ii:=by
   have h3:ii[j - off]? =some c.er:=by
    have e0:ii[j - off]? =((e.drop off).take vs.length)[j - off]? :=congrArg (fun q:List C=>q[j - off]?) s2;rw[e0,zR (by omega),<-vc,List.getElem?_map,show off+(j - off)=j by omega,hj];rfl
   exact List.mem_of_getElem? h3
  exact List.all_eq_true.1 hs _ this
 have K2:bm w ⟨Im',G.g⟩ σ1.h (fun n=>σ.used n=true) w2 ⟨Im',az G.g n p'⟩ (az σ1.h n (some (.row gr m' rs (xs.set k (dq e off cs))))):=by
  refine⟨fun _ h=>h,fun b hb x=>gV (dM b (AM b hb)) x,fun q hq h0=>?_,fun q bo aF av hq h0=>?_⟩
  ·by_cases gM:q=n
   ·subst gM;refine⟨bN,?_⟩;simp only[bR];exact⟨aR.symm,rfl,rfl,rfl,rfl⟩
   ·rw[cN _ _ _ _ gM] at h0;simp only[cN _ _ _ _ gM];exact⟨h0,trivial,trivial,trivial,trivial,trivial⟩
  ·by_cases gM:q=n
   ·subst gM;rw[bR] at h0;injection h0 with h0;injection h0 with e1 e2 e3 e4;subst e1;subst e2;subst e3;rcases gj with⟨hm,_,hs,hso,_⟩|⟨hm,bP⟩
    ·subst hm;refine⟨⟨gr,xs,lG⟩,fun k' j pc nX hL=>?_⟩;simp only[bR];refine⟨pc,?_,rfl,hL⟩;obtain⟨e1,he,hj⟩:=nX;by_cases yT:k'=k
     ·subst yT;rw[sx] at he;injection he with he;subst he;refine⟨EI,List.getElem?_set_self nk,?_⟩;show(dq pe off bD)[j]? =some pc;rw[zM nY];rw[if_neg ?_]
      ·exact hj
      ·rintro⟨q1,q2⟩;have:=hold hso j pc q1 q2 hj;rw[PC.aa3 hL] at this;cases this
     ·exact⟨e1,by show((G.g q).px.set k EI)[k']? =some e1;rw[List.getElem?_set_ne (Ne.symm yT)];exact he,hj⟩
    ·cases ow
     ·simp at bP
     ·simp at bP;exact absurd bP.symm hm
   ·rw[cN _ _ _ _ gM] at h0;simp only[cN _ _ _ _ gM];exact⟨⟨bo,av,h0⟩,fun k j pc h1 h2=>⟨pc,h1,rfl,h2⟩⟩
 have pS:∀b,d9 w b->d9 w2 b:=fun b hb=>IV hg f0 b hb;have RW:m'≠ .aJ->(∀b,bh b px'->d9 w b/\(B<=b\/E b))/\iO px'/\(m'=.aN->∀b,bh b px'->Im' b)/\(m'=.live->∀b,bh b px'->bh b (G.g n).px)/\
   (∀q bo mo aF av,q≠n->σ1.h q=some (.row bo mo aF av)->mo≠ .aJ->∀b,bh b px'->¬bh b (G.g q).px):=by
  intro iW;have dW:=hr.mode;rcases gj with⟨rfl,rfl,hs,hso,_⟩|⟨hm,bP⟩
  ·have fP:∀b,bh b px'->bh b (G.g n).px:=fun b hb=>(lE b hb).resolve_right (fun⟨i,c,hi,hb⟩=>iH hs i c b hi hb);refine⟨fun b hb=>(dW.1 b (fP b hb)).2,⟨fun k' j c nX=>?_,fun k1 j1 c1 k2 j2 c2 b h1 h2 aD hb=>?_⟩,(fun h=>by cases h),fun _=>fP,fun q bo mo aF av gM hq iE b hb=>H0.gv n q gr .live rs xs bo mo aF av lG hq (by simp) iE (Ne.symm gM) b (fP b hb)⟩
   ·rcases cG k' j c nX with⟨_,_,_,hp⟩|⟨_,hp⟩
    ·exact Sep.xy (fun b hb=>iH hs _ c b hp hb) (a3 c (List.mem_of_getElem? hp)).1
    ·exact dW.2.1 k' j c hp
   ·rcases cG k1 j1 c1 h1 with⟨_,_,_,hp⟩|⟨_,hp⟩
    ·exact absurd hb (iH hs _ c1 b hp)
    ·rcases cG k2 j2 c2 h2 with⟨_,_,_,bB⟩|⟨_,bB⟩
     ·exact iH hs _ c2 b bB
     ·exact dW.2.2 k1 j1 c1 k2 j2 c2 b hp bB aD hb
  ·cases ow
   ·simp at bP;exact absurd bP iW
   ·simp only[if_true] at bP a4;subst bP;have Lm:m'=.aN:=by cases m'<;>first|rfl|exact absurd rfl hm|exact absurd rfl iW
    subst Lm;refine⟨fun b hb=>?_,⟨fun k' j c nX=>?_,fun k1 j1 c1 k2 j2 c2 b h1 h2 aD hb=>?_⟩,fun _ b hb=>?_,(fun h=>by cases h),fun q bo mo aF av gM hq iE b hb=>?_⟩
    ·rcases lE b hb with h1|⟨i,c,hi,h1⟩
     ·exact(dW.1 b h1).2
     ·exact((a4.ta i c hi).2 b h1).2
    ·rcases cG k' j c nX with⟨_,_,_,hp⟩|⟨_,hp⟩
     ·exact(a4.ta _ c hp).1
     ·exact dW.2.1 k' j c hp
    ·rcases cG k1 j1 c1 h1 with⟨e1,q1,q2,hp⟩|⟨_,hp⟩
     ·rcases cG k2 j2 c2 h2 with⟨e2,q3,q4,bB⟩|⟨_,bB⟩
      ·have iq:j1 - off≠j2 - off:=fun hh=>aD (by rw[e1,e2,show j1=j2 by omega]);exact a4.xU _ _ c1 c2 b iq hp bB hb
      ·exact fun aL=>a4.tc _ c1 n gr .aN rs xs b hp lG (by simp) hb ⟨k2,j2,c2,bB,aL⟩
     ·rcases cG k2 j2 c2 h2 with⟨e2,q3,q4,bB⟩|⟨_,bB⟩
      ·exact fun aL=>a4.tc _ c2 n gr .aN rs xs b bB lG (by simp) aL ⟨k1,j1,c1,hp,hb⟩
      ·exact dW.2.2 k1 j1 c1 k2 j2 c2 b hp bB aD hb
    ·rcases lE b hb with h1|⟨i,c,hi,h1⟩
     ·exact(dW.1 b h1).1
     ·exact RY i c b hi h1
    ·rcases lE b hb with h1|⟨i,c,hi,h1⟩
     ·exact H0.gv n q gr .aN rs xs bo mo aF av lG hq (by simp) iE (Ne.symm gM) b h1
     ·exact a4.tc i c q bo mo aF av b hi hq iE h1
 have Hn:HR B E w2 ⟨Im',az G.g n p'⟩ (az σ1.h n (some (.row gr m' rs (xs.set k (dq e off cs))))) σ.used []:=by
  refine H0.put (p:=p') (fun b hb aD=>dM b (aD rfl)) (by show w.heap.size<=w2.heap.size;rw[rJ];exact Nat.le_refl _) (fun b _ hb=>pS b hb) (fun _ h=>h) y3
   (fun _=>⟨su,qQ,by show _<w2.heap.size;rw[rJ];exact tN⟩)
   (fun _ q hq h0 gX=>(H0.inj q n h0 bN hq gX aR)) (fun _ q bo aF av hq h0 b hb=>H0.live q bo aF av h0 b hb n bN aR) (fun cs c q hb=>by cases hb) K2 ?_ ?_ ?_ (fun gr m sz xs _ _ i pc b hi=>by simp at hi) ?_
  ·refine⟨hr.pos,?_,(fun hl=>by cases hl),fun _=>⟨pS _ l1,eH,by show((G.g n).px.set k EI).length<=_;simpa using l3⟩,fun _ GY=>?_,?_,fun hg1 fU=>?_⟩
   ·show xs.set k (dq e off cs)=((G.g n).px.set k EI).map _;rw[List.map_set,<-hr.er];congr 1;show dq e off cs=(dq pe off bD).map PC.er;rw[Fb,vc,a1]
   ·obtain⟨r2,jB,e',r3,r4⟩:=hr.room aR GY;rw[hg] at r3;injection r3 with r3;injection r3 with r3 _ _;subst r3;obtain⟨Qn,c1,c2⟩:=Fu (vs:=us) (o:=(G.g n).o+k*rs+off) hg f0;exact⟨r2,Qn,et,c1,by rw[c2];exact r4⟩
   ·show CN B E w2 ⟨Im',_⟩ px' m';by_cases iW:m'=.aJ
    ·rw[iW];intro b hb;rcases lE b hb with h1|⟨i,c,hi,h1⟩
     ·have dW:=hr.mode;rcases gj with⟨_,h2,_⟩|⟨hm,_⟩
      ·rw[iW] at h2;cases h2
      ·cases m with
       |aJ=>exact dW b h1
       |aN=>exact(dW.1 b h1).1
       |live=>exact absurd rfl hm
     ·exact RY i c b hi h1
    ·obtain⟨o1,o2,o3,o4,o5⟩:=RW iW;cases m' with
     |aJ=>exact absurd rfl iW
     |aN=>exact⟨fun b hb=>⟨o3 rfl b hb,pS b (o1 b hb).1,(o1 b hb).2⟩,o2⟩
     |live=>
      refine⟨fun b hb=>⟨?_,pS b (o1 b hb).1,(o1 b hb).2⟩,o2⟩;have dW:=hr.mode;rcases gj with⟨hm,_,_⟩|⟨hm,bP⟩
      ·subst hm;exact(dW.1 b (o4 rfl b hb)).1
      ·cases ow
       ·simp at bP
       ·simp at bP;exact absurd bP.symm hm
   ·rcases gj with⟨_,_,_,_,hg2⟩|⟨hm,bP⟩
    ·rw[hg2] at hg1;cases hg1
    ·rw[fU] at bP;cases ow
     ·simp at bP
     ·simp at bP;exact absurd bP.symm hm
  ·intro bo m2 aF av hb iW q Dz mo jd gD gM hq iE b cT;injection hb with _ hb _ _;subst hb;exact(RW iW).2.2.2.2 q Dz mo jd gD gM hq iE b cT
  ·intro bo aF av hb b cT;injection hb with _ hb _ _;subst hb;have fP:=(RW (by simp)).2.2.2.1 rfl b cT;have hm:m=.live:=by
    rcases gj with⟨hm,_,_⟩|⟨hm,bP⟩
    ·exact hm
    ·cases ow
     ·simp at bP
     ·simp at bP;exact absurd bP.symm hm
   subst hm;exact⟨fun _=>H0.live n gr rs xs lG b fP n bN aR,fun q gM hq R4=>H0.live n gr rs xs lG b fP q hq R4⟩
  ·intro _ _ b hb;obtain⟨q,bo,mo,aF,av,hq,h0,cT⟩:=hb;exact H0.qI bN aR h0 cT
 refine⟨⟨Im',az G.g n p'⟩,?_⟩;exact r.step (σ':=σ1.eE n (.row gr m' rs (xs.set k (dq e off cs)))) a6 (fun q hq=>by show σ1.used q=true;rw[a7];exact hq)
  (bm.trans (u2:=fun n=>σ.used n=true) (fun _ h=>h) a5 K2) (by show HR B E w2 _ (az σ1.h n _) σ1.used [];rw[a7];exact Hn) (r.fr.one qQ (fun b hb aD=>dM b aD) (by show w.heap.size<=w2.heap.size;rw[rJ];exact Nat.le_refl _) (Cf hg f0) rfl rfl rfl)
end
section
variable {B:Nat} {E:Ex} {w0 w w':World} {G G':Gh} {h h':Nat->Option aq} {used used':Nat->Bool} {tk:List PC} {N:Nat}
variable {P:Program} {o:Oper} {a:Act} {σ σ':St} {Q:Exit->Act->World->Prop}
theorem RA.c {x:C} {v:Value} (hv:RA w G h (.one (.c x)) v):∃pc:PC,pc.er=x/\pc.val=v/\Good w pc/\∀b,aZ b pc->G.Im b:=(hv.fu (by simp)).1
theorem RA.Ed {k:IntKind} {n:Int} {v:Value} (hv:RA w G h (.one (.c (.int k n))) v):v=.int k n:=by
 obtain⟨pc,h1,h2,_⟩:=hv.c;cases pc<;>simp[PC.er] at h1
 obtain⟨rfl,rfl⟩:=h1;exact h2.symm
theorem RA.C4 {b:Bool} {v:Value} (hv:RA w G h (.one (.c (.bool b))) v):v=.bool b:=by
 obtain⟨pc,h1,h2,_⟩:=hv.c;cases pc<;>simp[PC.er] at h1
 subst h1;exact h2.symm
theorem RA.of_int (k:IntKind) (n:Int):RA w G h (.one (.c (.int k n))) (.int k n):=RA.fC rfl ⟨.int k n,rfl,rfl,.int _ _,fun b hb=>by cases hb⟩
theorem RA.of_bool (b:Bool):RA w G h (.one (.c (.bool b))) (.bool b):=RA.fC rfl ⟨.bool b,rfl,rfl,.bool _,fun b hb=>by cases hb⟩
theorem qj {x:C} {m:Nat}:¬(aj.one (.c x)).ref m:=fun h=>h
theorem ji (r:R B E w0 N σ a w G) {x:aj} {v:Value} (bE:(execOp a.eval o).run P w=.ok (.value v) w) (hv:RA w G σ.h x v) (hr:∀m,x.ref m->σ.used m=true) (hN:∀n,o.dst=some n->n<N):
  o.wp P a w (Nx B E w0 N (σ.put o.dst x)) Q:=oG bE ⟨G,r.put hv hr hN⟩
theorem YA (r:R B E w0 N σ a w G) {x:Operand} {m:MO} (ho:o.op=.move x\/o.op=.assign x) (hN:∀n,o.dst=some n->n<N) (hm:bU x m=true):
  o.wp P a w (Nx B E w0 N (σ.put o.dst (σ.ev m))) Q:=by
 obtain⟨h1,h2⟩:=r.ev hm;refine ji r ?_ h1 h2 hN;rcases ho with ho|ho<;>simp[execOp,ho]
theorem ajp (r:R B E w0 N σ a w G) {c x y:Operand} {mc mx my:MO} {b:Bool} (ho:o.op=.pick c x y) (hN:∀n,o.dst=some n->n<N) (hc:bU c mc=true) (hx:bU x mx=true) (hy:bU y my=true)
  (hb:σ.ev mc=.one (.c (.bool b))):o.wp P a w (Nx B E w0 N (σ.put o.dst (if b=true then σ.ev mx else σ.ev my))) Q:=by
 obtain⟨h1,_⟩:=r.ev hc;rw[hb] at h1;have hv:=h1.C4;obtain⟨x1,x2⟩:=r.ev hx;obtain⟨y1,y2⟩:=r.ev hy;refine ji r (v:=if b=true then a.eval x else a.eval y) ?_ ?_ ?_ hN
 ·simp only[execOp,ho,hv,asBool];cases b<;>simp
 ·cases b
  ·exact y1
  ·exact x1
 ·cases b
  ·exact y2
  ·exact x2
theorem asP {op:BinOp} {k:IntKind} {n m:Int} {c:C} {t:TypeId} (hs:BinOp.Bm op=false) (hx:C3 op k n m=some c):∃v,(binOp op t (.int k n) (.int k m)).run P w=.ok v w/\RA w G h (.one (.c c)) v:=by
 cases op with
 |add=>injection hx with hx;subst hx;exact⟨_,by simp[binOp,Op.intArith],RA.of_int _ _⟩
 |sub=>injection hx with hx;subst hx;exact⟨_,by simp[binOp,Op.intArith],RA.of_int _ _⟩
 |mul=>injection hx with hx;subst hx;exact⟨_,by simp[binOp,Op.intArith],RA.of_int _ _⟩
 |and=>injection hx with hx;subst hx;exact⟨_,by simp[binOp,intBits_and],RA.of_int _ _⟩
 |or=>injection hx with hx;subst hx;exact⟨_,by simp[binOp,intBits_or],RA.of_int _ _⟩
 |xor=>injection hx with hx;subst hx;exact⟨_,by simp[binOp,intBits_xor],RA.of_int _ _⟩
 |eql=>injection hx with hx;subst hx;exact⟨_,by simp[binOp,Op.intCmp],RA.of_bool _⟩
 |neq=>injection hx with hx;subst hx;exact⟨_,by simp[binOp,Op.intCmp],RA.of_bool _⟩
 |lss=>injection hx with hx;subst hx;exact⟨_,by simp[binOp,Op.intCmp],RA.of_bool _⟩
 |leq=>injection hx with hx;subst hx;exact⟨_,by simp[binOp,Op.intCmp],RA.of_bool _⟩
 |gtr=>injection hx with hx;subst hx;exact⟨_,by simp[binOp,Op.intCmp],RA.of_bool _⟩
 |geq=>injection hx with hx;subst hx;exact⟨_,by simp[binOp,Op.intCmp],RA.of_bool _⟩
 |quo=>
  simp only[C3] at hx;split at hx
  ·cases hx
  ·rename_i h0;injection hx with hx;subst hx;exact⟨_,by simp[binOp,Op.intDiv,h0],RA.of_int _ _⟩
 |rem=>
  simp only[C3] at hx;split at hx
  ·cases hx
  ·rename_i h0;injection hx with hx;subst hx;exact⟨_,by simp[binOp,Op.intDiv,h0],RA.of_int _ _⟩
 |shl=>simp[BinOp.Bm] at hs
 |shr=>simp[BinOp.Bm] at hs
 |andNot=>cases hx
theorem asV {op:BinOp} {k k':IntKind} {n m:Int} {c:C} {t:TypeId} (hs:BinOp.Bm op=true) (hx:Ip op k n m=some c):∃v,(binOp op t (.int k n) (.int k' m)).run P w=.ok v w/\RA w G h (.one (.c c)) v:=by
 unfold Ip at hx;split at hx
 ·cases hx
 ·rename_i h0;cases op<;>simp[BinOp.Bm] at hs
  ·injection hx with hx;subst hx;exact⟨_,by simp[binOp,Op.shift,h0],RA.of_int _ _⟩
  ·injection hx with hx;subst hx;have hp:(0:Int)<=2^min m.toNat k.bits:=Int.le_of_lt (Int.pow_pos (by decide));exact⟨_,by simp[binOp,Op.shift,h0,Int.fdiv_eq_ediv_of_nonneg _ hp],RA.of_int _ _⟩
theorem aec (op:BinOp) (t:TypeId) (x y:Operand) (k k':IntKind) (n m:Int):(eqGuard op t x y (.int k n) (.int k' m)).run P w=.ok () w:=by
 cases op<;>simp[eqGuard]
theorem aeb (op:BinOp) (t:TypeId) (x y:Operand) (n m:Bool):(eqGuard op t x y (.bool n) (.bool m)).run P w=.ok () w:=by
 cases op<;>simp[eqGuard]
theorem aiR (r:R B E w0 N σ a w G) {op:BinOp} {t t':TypeId} {x y:Operand} {mx my:MO} {c:C} (ho:o.op=.binOp op t x y t') (hN:∀n,o.dst=some n->n<N) (hx:bU x mx=true) (hy:bU y my=true)
  (hb:yr op (σ.ev mx) (σ.ev my)=some c):o.wp P a w (Nx B E w0 N (σ.put o.dst (.one (.c c)))) Q:=by
 obtain⟨x1,_⟩:=r.ev hx;obtain⟨y1,_⟩:=r.ev hy;unfold yr at hb;split at hb
 ·rename_i k n k' m e1 e2;rw[e1] at x1;rw[e2] at y1;have jZ:=x1.Ed;have vg:=y1.Ed;split at hb
  ·rename_i hs;obtain⟨v,h1,h2⟩:=asV (P:=P) (w:=w) (G:=G) (h:=σ.h) (k':=k') (t:=t) hs hb;exact ji r (by simp only[execOp,ho,jZ,vg];simp[aec,h1]) h2 (fun q hq=>absurd hq qj) hN
  ·rename_i hs;split at hb
   ·rename_i hk;subst hk;obtain⟨v,h1,h2⟩:=asP (P:=P) (w:=w) (G:=G) (h:=σ.h) (t:=t) (by simpa using hs) hb;exact ji r (by simp only[execOp,ho,jZ,vg];simp[aec,h1]) h2 (fun q hq=>absurd hq qj) hN
   ·cases hb
 ·cases hb
theorem aiS (r:R B E w0 N σ a w G) {op:BinOp} {t t':TypeId} {x y:Operand} {mx my:MO} {c:C} (ho:o.op=.binOp op t x y t') (hN:∀n,o.dst=some n->n<N) (hx:bU x mx=true) (hy:bU y my=true)
  (ht:P.underlying t=some .bool) (hb:C2 op (σ.ev mx) (σ.ev my)=some c):o.wp P a w (Nx B E w0 N (σ.put o.dst (.one (.c c)))) Q:=by
 obtain⟨x1,_⟩:=r.ev hx;obtain⟨y1,_⟩:=r.ev hy;unfold C2 at hb;split at hb
 ·rename_i n m e1 e2;rw[e1] at x1;rw[e2] at y1;have jZ:=x1.C4;have vg:=y1.C4;have fA:(Op.equal t (.bool n) (.bool m)).run P w=.ok (n==m) w:=run_equal_bool w t n m ht;split at hb
  ·injection hb with hb;subst hb;exact ji r (by simp only[execOp,ho,jZ,vg];simp[aeb,binOp,fA]) (RA.of_bool _) (fun q hq=>absurd hq qj) hN
  ·injection hb with hb;subst hb;exact ji r (by simp only[execOp,ho,jZ,vg];simp[aeb,binOp,fA,bne]) (RA.of_bool _) (fun q hq=>absurd hq qj) hN
  ·cases hb
 ·cases hb
theorem ajv (r:R B E w0 N σ a w G) {op:UnOp} {t:TypeId} {x:Operand} {mx:MO} {c:C} (ho:o.op=.unOp op t x) (hN:∀n,o.dst=some n->n<N) (hx:bU x mx=true)
  (hb:Fq op (σ.ev mx)=some c):o.wp P a w (Nx B E w0 N (σ.put o.dst (.one (.c c)))) Q:=by
 obtain⟨x1,_⟩:=r.ev hx;unfold Fq at hb;split at hb
 ·rename_i n e1;rw[e1] at x1;have jZ:=x1.C4;split at hb
  ·injection hb with hb;subst hb;exact ji r (by simp only[execOp,ho,jZ];simp[Op.unary]) (RA.of_bool _) (fun q hq=>absurd hq qj) hN
  ·cases hb
 ·rename_i k n e1;rw[e1] at x1;have jZ:=x1.Ed;split at hb
  ·injection hb with hb;subst hb;exact ji r (by simp only[execOp,ho,jZ];simp[Op.unary,Op.intArith]) (RA.of_int _ _) (fun q hq=>absurd hq qj) hN
  ·cases hb
 ·cases hb
theorem ai4 (r:R B E w0 N σ a w G) {t u:TypeId} {x:Operand} {mx:MO} {k k':IntKind} {n:Int} {d:TypeDesc} (ho:o.op=.convert t u x) (hN:∀n,o.dst=some n->n<N) (hx:bU x mx=true)
  (ht:P.underlying t=some d) (hu:P.underlying u=some (.int k)) (hb:σ.ev mx=.one (.c (.int k' n))):o.wp P a w (Nx B E w0 N (σ.put o.dst (.one (.c (.int k (k.wrap n)))))) Q:=by
 obtain⟨x1,_⟩:=r.ev hx;rw[hb] at x1;have jZ:=x1.Ed;refine ji r ?_ (RA.of_int _ _) (fun q hq=>absurd hq qj) hN;simp only[execOp,ho,jZ];cases d<;>simp[convert,run_underlying ht,run_underlying hu,Conv.intToInt]
def Ga (P:Program) (s:TypeId) (f off:Nat):Bool:=
 match P.underlying s with
 |some (.struct yE)=>match yE[f]? with
  |some fd=>(fd.offset==off)&&(match P.info? fd.type with|some i=>i.size !=0|none=>false)
  |none=>false
 |_=>false
theorem EU {s:TypeId} {f off:Nat} (hc:Ga P s f off=true) (b o:Nat):(Instr.fieldAt s (.pointer (some (ad b o))) f).run P w=.ok (.pointer (some (ad b (o+off)))) w:=by
 unfold Ga at hc;split at hc
 ·rename_i yE hu;split at hc
  ·rename_i fd hf;split at hc
   ·rename_i i hi;simp at hc;obtain⟨rfl,bV⟩:=hc;simp[Instr.fieldAt,run_underlying hu,hf,Instr.sureAddr,fieldPlace,sizeOf,typeInfo,hi,bV,qz]
   ·simp at hc
  ·cases hc
 ·cases hc
theorem Qz (r:R B E w0 N σ a w G) {s:TypeId} {f off:Nat} {x:Operand} {mx:MO} {y:aj} (ho:o.op=.fieldAddr s x f) (hN:∀n,o.dst=some n->n<N) (hx:bU x mx=true) (hc:Ga P s f off=true)
  (hy:(∃n k sz q,σ.ev mx=.one (.ptr n k sz q)/\(σ.h n).isSome=true/\y=.one (.ptr n k sz (q+off)))\/(∃xs q,σ.ev mx=.one (.dg xs q)/\y=.one (.dg xs (q+off)))\/(∃xs q j n s len,σ.ev mx=.one (.cH xs q j n s len)/\y=.one (.cH xs (q+off) j n s len))):
  o.wp P a w (Nx B E w0 N (σ.put o.dst y)) Q:=by
 obtain⟨x1,x2⟩:=r.ev hx;rcases hy with⟨n,k,sz,q,e1,hs,rfl⟩|⟨xs,q,e1,rfl⟩|⟨xs,q,j,n,s',len,e1,rfl⟩
 ·rw[e1] at x1 x2;have hp:σ.h n≠none:=by intro hh;rw[hh] at hs;cases hs
  obtain⟨h1,h2⟩:=(x1.fu (by simp)).1 hp;refine ji r (v:=.pointer (some (ad (G.g n).b ((G.g n).o+k*sz+q+off)))) ?_ ?_ (fun m hm=>x2 m hm) hN
  ·simp only[execOp,ho,h2];simp[EU hc]
  ·exact RA.fC rfl fun _=>⟨h1,by rw[Nat.add_assoc]⟩
 ·rw[e1] at x1;obtain⟨b,o',pe,p1,p2,p3,p4⟩:=(x1.fu (by simp)).1;refine ji r (v:=.pointer (some (ad b (o'+q+off)))) ?_ ?_ (fun m hm=>absurd hm (by simp[aj.ref,ah.ref,ah.hZ])) hN
  ·simp only[execOp,ho,p1];simp[EU hc]
  ·exact RA.fC rfl ⟨b,o',pe,by rw[Nat.add_assoc],p2,p3,p4⟩
 ·rw[e1] at x1 x2;obtain⟨b,o',pe,p1,p2,p3,p4,p5⟩:=(x1.fu (by simp)).1;refine ji r (v:=.pointer (some (ad b (o'+q+off)))) ?_ ?_ (fun m hm=>x2 m hm) hN
  ·simp only[execOp,ho,p1];simp[EU hc]
  ·exact RA.fC rfl ⟨b,o',pe,by rw[Nat.add_assoc],p2,p3,p4,p5⟩
theorem QB (r:R B E w0 N σ a w G) {x:Operand} {mx:MO} (ho:o.op=.nilCheck x) (hN:∀n,o.dst=some n->n<N) (hx:bU x mx=true)
  (hy:(∃n k sz q,σ.ev mx=.one (.ptr n k sz q)/\(σ.h n).isSome=true)\/(∃xs q,σ.ev mx=.one (.dg xs q))\/(∃xs q j n s len,σ.ev mx=.one (.cH xs q j n s len))):
  o.wp P a w (Nx B E w0 N (σ.put o.dst (σ.ev mx))) Q:=by
 obtain⟨x1,x2⟩:=r.ev hx;have hp:∃ad,a.eval x=.pointer (some ad):=by
  rcases hy with⟨n,k,sz,q,e1,hs⟩|⟨xs,q,e1⟩|⟨xs,q,j,n,s',len,e1⟩
  ·rw[e1] at x1;have hp:σ.h n≠none:=by intro hh;rw[hh] at hs;cases hs
   exact⟨_,((x1.fu (by simp)).1 hp).2⟩
  ·rw[e1] at x1;obtain⟨b,o',pe,p1,_⟩:=(x1.fu (by simp)).1;exact⟨_,p1⟩
  ·rw[e1] at x1;obtain⟨b,o',pe,p1,_⟩:=(x1.fu (by simp)).1;exact⟨_,p1⟩
 obtain⟨adr,hp⟩:=hp;exact ji r (v:=a.eval x) (by simp only[execOp,ho,hp];simp) x1 x2 hN
theorem aje (r:R B E w0 N σ a w G) {x:Operand} {mx:MO} {i:Nat} {xs:List (Bool×List ah)} {ag:Bool} {cs:List ah} (ho:o.op=.extract x i) (hN:∀n,o.dst=some n->n<N) (hx:bU x mx=true)
  (h1:σ.ev mx=.bK xs) (h2:xs[i]? =some (ag,cs)) (h3:ag=false->∃c,cs=[c]):o.wp P a w (Nx B E w0 N (σ.put o.dst (oD ag cs))) Q:=by
 obtain⟨x1,x2⟩:=r.ev hx;rw[h1] at x1 x2;obtain⟨vs,e,hl,hv⟩:=x1;have hi:i<vs.length:=by rw[hl];exact(List.getElem?_eq_some_iff.1 h2).1
 have hvi:vs[i]? =some vs[i]:=List.getElem?_eq_getElem hi;have hrv:=hv i _ _ h2 hvi;refine ji r (v:=vs[i]) ?_ ?_ (fun m hm=>?_) hN
 ·simp only[execOp,ho,e];simp[Instr.extract,hi]
 ·cases ag
  ·obtain⟨c,rfl⟩:=h3 rfl;exact .inr hrv
  ·exact hrv
 ·cases ag
  ·obtain⟨c,rfl⟩:=h3 rfl;exact x2 m ⟨_,List.mem_of_getElem? h2,c,by simp,hm⟩
  ·obtain⟨c,hc,hm⟩:=hm;exact x2 m ⟨_,List.mem_of_getElem? h2,c,hc,hm⟩
theorem ajj (r:R B E w0 N σ a w G) {mx':Bool} {x y:Operand} {mx my:MO} {k k':IntKind} {n m:Int} {ts:Array TypeId} (ho:o.op=.call {callee:=.builtin (if mx'=true then .max else .min),args:=#[x,y],argTypes:=ts})
  (hN:∀n,o.dst=some n->n<N) (hx:bU x mx=true) (hy:bU y my=true) (h1:σ.ev mx=.one (.c (.int k n))) (h2:σ.ev my=.one (.c (.int k' m))):
  o.wp P a w (Nx B E w0 N (σ.put o.dst (.one (.c (.int k (if mx'=true then(if n<m then m else n) else(if m<n then m else n))))))) Q:=by
 obtain⟨x1,_⟩:=r.ev hx;obtain⟨y1,_⟩:=r.ev hy;rw[h1] at x1;rw[h2] at y1;have jZ:=x1.Ed;have vg:=y1.Ed;refine ji r ?_ (RA.of_int _ _) (fun q hq=>absurd hq qj) hN;cases mx'
 ·simp[execOp,ho,resolve,invoke,builtin,Builtin.min_,jZ,vg,Builtin.min2]
 ·simp[execOp,ho,resolve,invoke,builtin,Builtin.max_,jZ,vg,Builtin.max2]
end
theorem rS {α:Type} {px py:List (List α)} {k j:Nat} {c:α} (h:At (px++py) k j c):(k<px.length/\At px k j c)\/(px.length<=k/\At py (k - px.length) j c):=by
 obtain⟨e,he,hj⟩:=h;rcases Nat.lt_or_ge k px.length with hk|hk
 ·rw[List.getElem?_append_left hk] at he;exact .inl ⟨hk,e,he,hj⟩
 ·rw[List.getElem?_append_right hk] at he;exact .inr ⟨hk,e,he,hj⟩
theorem xH {b:Nat} {px py:List (List PC)} (h:bh b (px++py)):bh b px\/bh b py:=by
 obtain⟨k,j,c,hk,hb⟩:=h;rcases rS hk with⟨_,h1⟩|⟨_,h1⟩
 ·exact .inl ⟨_,_,_,h1,hb⟩
 ·exact .inr ⟨_,_,_,h1,hb⟩
theorem M5 {px py:List (List PC)} (h1:iO px) (h2:iO py) (h3:∀b,bh b px->¬bh b py):iO (px++py):=by
 refine⟨fun k j c hk=>?_,fun k j c k' j' c' b hk bL aD hb aL=>?_⟩
 ·rcases rS hk with⟨_,h⟩|⟨_,h⟩
  ·exact h1.1 _ _ _ h
  ·exact h2.1 _ _ _ h
 ·rcases rS hk with⟨q,h⟩|⟨q,h⟩<;>rcases rS bL with⟨q',h'⟩|⟨q',h'⟩
  ·exact h1.2 _ _ _ _ _ _ b h h' aD hb aL
  ·exact h3 b ⟨_,_,_,h,hb⟩ ⟨_,_,_,h',aL⟩
  ·exact h3 b ⟨_,_,_,h',aL⟩ ⟨_,_,_,h,hb⟩
  ·refine h2.2 _ _ _ _ _ _ b h h' (fun e=>aD ?_) hb aL;injection e with e1 e2;rw[show k=k' by omega,e2]
section
variable {B:Nat} {E:Ex} {w0 w w':World} {G G':Gh} {h h':Nat->Option aq} {used used':Nat->Bool} {tk:List PC} {N:Nat}
variable {P:Program} {o:Oper} {a:Act} {σ σ':St} {Q:Exit->Act->World->Prop}
theorem vP {py:List (List PC)} (hs:eP (py.map fun e=>e.map PC.er)=true) (b:Nat):¬bh b py:=by
 rintro⟨k,j,c,⟨e,he,hj⟩,hb⟩;have h1:e.map PC.er∈py.map fun e=>e.map PC.er:=List.mem_map_of_mem (f:=fun e=>e.map PC.er) (List.mem_of_getElem? he);have h2:=List.all_eq_true.1 hs _ h1;have h3:=List.all_eq_true.1 h2 c.er (List.mem_map_of_mem (List.mem_of_getElem? hj));exact(Sep.hY (pc:=c) h3).2 b hb
theorem afz {py:List (List PC)} (hs:eP (py.map fun e=>e.map PC.er)=true) (k j:Nat) (c:PC) (hk:At py k j c):pI w c:=by
 obtain⟨e,he,hj⟩:=hk;have h2:=List.all_eq_true.1 hs _ (List.mem_map_of_mem (f:=fun e=>e.map PC.er) (List.mem_of_getElem? he));exact pI.hY (List.all_eq_true.1 h2 c.er (List.mem_map_of_mem (List.mem_of_getElem? hj)))
structure mB (B:Nat) (E:Ex) (w:World) (G:Gh) (h:Nat->Option aq) (sz:Nat) (m:Mode) (px:List (List PC)):Prop where
 len:∀e∈px,e.length=sz
 eG:∀k j c,At px k j c->Good w c
 mode:CN B E w G px m
 gv:m≠ .aJ->∀n gr m' aF av,h n=some (.row gr m' aF av)->m'≠ .aJ->∀b,bh b px->¬bh b (G.g n).px
 live:m=.live->∀b,bh b px->∀n,h n≠none->(G.g n).nl=false->b≠(G.g n).b
 nr:m=.live->pJ w sz px
theorem mB.Xe {m:Mode} {sz:Nat} {px py:List (List PC)} (F:mB B E w G h sz m px) (hl:∀e∈py,e.length=sz) (hg:∀k j c,At py k j c->Good w c) (cm:∀b,¬bh b py) (oS:∀k j c,At py k j c->pI w c):mB B E w G h sz m (px++py):=by
 have fP:∀b,bh b (px++py)->bh b px:=fun b hb=>(xH hb).resolve_right (cm b);refine⟨fun e he=>(List.mem_append.1 he).elim (F.len e) (hl e),fun k j c hk=>?_,?_,fun hm n gr m' aF av hn bP b hb=>F.gv hm n gr m' aF av hn bP b (fP b hb),fun hm b hb=>F.live hm b (fP b hb),fun hm k c hk=>(rS hk).elim (fun h=>F.nr hm _ _ h.2) (fun h=>oS _ _ _ h.2)⟩
 ·rcases rS hk with⟨_,h⟩|⟨_,h⟩
  ·exact F.eG _ _ _ h
  ·exact hg _ _ _ h
 ·have jY:iO py:=⟨fun k j c hk=>Sep.xy (fun b hb=>cm b ⟨k,j,c,hk,hb⟩) (hg k j c hk),fun k j c k' j' c' b hk _ _ hb=>absurd ⟨k,j,c,hk,hb⟩ (cm b)⟩;have hm:=F.mode;cases m with
  |aJ=>exact fun b hb=>hm b (fP b hb)
  |aN=>exact⟨fun b hb=>hm.1 b (fP b hb),M5 hm.2 jY (fun b _=>cm b)⟩
  |live=>exact⟨fun b hb=>hm.1 b (fP b hb),M5 hm.2 jY (fun b _=>cm b)⟩
theorem mB.MH (H:HR B E w G h used []) {n:Nat} {gr:Bool} {m:Mode} {sz:Nat} {xs:List (List C)} (hn:h n=some (.row gr m sz xs)) (GY:m=.live->gr=true):mB B E w G (az h n none) sz m (G.g n).px:=by
 have hr:=H.row n gr m sz xs hn;have aR:(G.g n).px≠[]->(G.g n).nl=false:=fun aD=>by
  cases hq:(G.g n).nl with
  |false=>rfl
  |true=>exact absurd (hr.nl hq).1 aD
 refine⟨fun e he=>(hr.eK (aR (List.ne_nil_of_mem he))).2.1.1 e he,fun k j c hk=>?_,hr.mode,fun hm q bo m' aF av hq bP b hb=>?_,fun hm b hb q hq hl=>?_,fun hm=>hr.nr (GY hm) hm⟩
 ·have aD:(G.g n).px≠[]:=by obtain⟨e,he,_⟩:=hk;exact List.ne_nil_of_mem (List.mem_of_getElem? he)
  exact(hr.eK (aR aD)).2.1.2.2 k j c hk
 ·obtain⟨q1,q2⟩:=nK hq;exact H.gv n q gr m sz xs bo m' aF av hn q1 hm bP (Ne.symm q2) b hb
 ·subst hm;obtain⟨q1,q2⟩:=ww hq;exact H.live n gr sz xs hn b hb q q1 hl
theorem mB.del {m:Mode} {sz:Nat} {px:List (List PC)} (F:mB B E w G h sz m px) (n:Nat):mB B E w G (az h n none) sz m px:=
 ⟨F.len,F.eG,F.mode,fun hm q gr m' aF av hq bP=>F.gv hm q gr m' aF av (nK hq).1 bP,fun hm b hb q hq=>F.live hm b hb q (ww hq).1,F.nr⟩
theorem mB.Wr {m:Mode} {sz:Nat} {px:List (List PC)} (F:mB B E w G h sz m px) (hm:m≠ .live):∀b,bh b px->G.Im b:=by
 intro b hb;have:=F.mode;cases m with
 |aJ=>exact this b hb
 |aN=>exact(this.1 b hb).1
 |live=>exact absurd rfl hm
def yh (B:Nat) (E:Ex) (w:World) (G:Gh) (h:Nat->Option aq) (sz:Nat) (m:Mode) (px:List (List PC)) (v:Value):Prop:=
 (∃a,v=.slice a 0 0/\px=[])\/
 ∃b o cap cur e,v=.slice (some (ad b o)) px.length cap/\w.heap[b]? =some (.cells cur e (0,0))/\cur.size=o+cap*sz/\cap<=maxLen/\px.length<=cap/\nG w b o sz px/\
  oI G h b/\(B<=b\/E b)/\(∀b',bh b' px->b'≠b)
theorem yh.del {m:Mode} {sz:Nat} {px:List (List PC)} {v:Value} (L:yh B E w G h sz m px v) (n:Nat):yh B E w G (az h n none) sz m px v:=by
 rcases L with h1|⟨b,o,cap,cur,e,a1,a2,a3,a4,a5,a6,⟨l1,l2,l3⟩,a8,a9⟩
 ·exact .inl h1
 ·exact .inr ⟨b,o,cap,cur,e,a1,a2,a3,a4,a5,a6,⟨l1,fun q hq=>l2 q (ww hq).1,fun q gr m sz xs hq=>l3 q gr m sz xs (nK hq).1⟩,a8,a9⟩
theorem Gz {px:List (List PC)} {sz:Nat} (hl:∀e∈px,e.length=sz):(px.flatten.map PC.val).length=px.length*sz:=by
 induction px with
 |nil=>simp
 |cons e px ih=>
  have:=ih (fun e he=>hl e (by simp[he]));simp only[List.flatten_cons,List.map_append,List.length_append,List.length_cons,Nat.add_mul,this,List.length_map] at*
  rw[hl e (by simp)];omega
theorem QO {α:Type} {sz:Nat} (bV:0<sz):∀{px:List (List α)} (_:∀e∈px,e.length=sz) {i:Nat} {c:α},px.flatten[i]? =some c->∃k j,At px k j c/\i=k*sz+j
 |[],_,i,c,hi=>by simp at hi
 |e::px,hl,i,c,hi=>by
  have h0:=hl e (by simp);simp only[List.flatten_cons] at hi;rcases Nat.lt_or_ge i e.length with cu|AX
  ·rw[List.getElem?_append_left cu] at hi;exact⟨0,i,⟨e,rfl,hi⟩,by omega⟩
  ·rw[List.getElem?_append_right AX] at hi;obtain⟨k,j,⟨e',he,hj⟩,hk⟩:=QO bV (px:=px) (fun e he=>hl e (by simp[he])) hi;exact⟨k+1,j,⟨e',by simpa using he,hj⟩,by rw[Nat.add_mul];omega⟩
theorem asO {t ty e e':TypeId} {i:TypeInfo} (ht:P.underlying t=some (.slice e)) (hi:P.info? e=some i)
  (g og zG Vn:Nat) (cur:Array Value) (hg:w.heap[g]? =some (.cells cur e' (0,0)))
  (a:Addr) (m c:Nat) (gS:List Value) (hl:gS.length=m*i.size) (vb:∀j u,gS[j]? =some u->w.cell? (a.add j)=some u) (h1:∀u∈gS,u.oneCell'=true)
  (Hi:zG+m<=Vn) (f0:og+zG*i.size+gS.length<=cur.size):
  (Builtin.append_ #[t,t] ty #[.slice (some (ad g og)) zG Vn,.slice (some a) m c]).run P w=.ok (.slice (some (ad g og)) (zG+m) Vn) (gb w g (og+zG*i.size) gS cur):=by
 have hf:=run_firstCells_some (P:=P) w i.size m a m c gS hl vb;have jn:=run_storeCells_at P g (og+zG*i.size) e' gS 0 cur w hg (by simpa using f0) h1;simp only[Nat.add_zero] at jn;have ha:(ad g og).add (zG*i.size)=⟨g,og+zG*i.size,none⟩:=by rw[qz];simp[ad]
 simp[Builtin.append_,run_underlying ht,sizeOf,typeInfo,hi,Builtin.lenOf,Hi,hf,ha,jn,gb]
theorem ad9 (w:World) {t e:TypeId} {i:TypeInfo} {z:Value} {ty:TypeId} {sz by_:Nat} (ht:P.underlying t=some (.slice e)) (hi:P.info? e=some i) (hz:i.zero=some z) (bV:i.size=sz) (fV:0<sz) (nU:i.bytes=by_) (wJ:0<by_)
  {m:Mode} {px:List (List PC)} {v:Value} (eZ:∀e∈px,e.length=sz) (L:yh B E w G h sz m px v) {gS:List Value} {k c:Nat} {ya:Option Addr} (aR:gS.length=k*sz)
  (hy:(ya=none/\k=0)\/∃ay,ya=some ay/\∀(j:Nat) (u:Value),gS[j]? =some u->w.cell? (ay.add j)=some u) (h1:∀u∈gS,u.oneCell'=true) (hb:(px.length+k)*by_<=dX):
  (∃a,k=0/\v=.slice a 0 0/\px=[]/\(Builtin.append_ #[t,t] ty #[v,.slice ya k c]).run P w=.ok (.slice a 0 0) w)\/
  (∃b o cap cur e',v=.slice (some (ad b o)) px.length cap/\w.heap[b]? =some (.cells cur e' (0,0))/\cur.size=o+cap*sz/\cap<=maxLen/\px.length+k<=cap/\nG w b o sz px/\oI G h b/\(B<=b\/E b)/\(∀b',bh b' px->b'≠b)/\
   (Builtin.append_ #[t,t] ty #[v,.slice ya k c]).run P w=.ok (.slice (some (ad b o)) (px.length+k) cap) (gb w b (o+px.length*sz) gS cur))\/
  (∃(cap:Nat) (arr:Array Value),px.length+k<=cap/\cap<=maxLen/\arr.size=cap*z.cells.size+(px.length+k)*sz - (px.length+k)*z.cells.size/\(∀(q:Nat) (u:Value),(px.flatten.map PC.val++gS)[q]? =some u->arr[q]? =some u)/\
   (Builtin.append_ #[t,t] ty #[v,.slice ya k c]).run P w=.ok (.slice (some (ad w.heap.size 0)) (px.length+k) cap) (w.drew.alloc (.cells arr e))):=by
 have wV:px.length+k<=dX:=Nat.le_trans (Nat.le_mul_of_pos_right _ wJ) hb;have iW:(dX:Nat)=140737488355328:=rfl;have Ro:∀ii,grownCap w (px.length+k) ii e<=maxLen:=fun ii=>grownCap_le_maxLen w _ ii e (by simp only[maxLen];omega);have hol:=Gz eZ;have wI:∀ii,((px.flatten.map PC.val).toArray++gS.toArray++Builtin.zeroCells z.cells (grownCap w (px.length+k) ii e - (px.length+k))).size=grownCap w (px.length+k) ii e*z.cells.size+(px.length+k)*sz - (px.length+k)*z.cells.size:=by
  intro ii;have AX:=grownCap_ge w (px.length+k) ii e;have h2:(px.length+k)*z.cells.size<=grownCap w (px.length+k) ii e*z.cells.size:=Nat.mul_le_mul_right _ AX;simp only[Array.size_append,List.size_toArray,size_zeroCells,hol,aR,Nat.sub_mul,Nat.add_mul] at*
  omega
 have iV:∀ii (q:Nat) (u:Value),(px.flatten.map PC.val++gS)[q]? =some u->((px.flatten.map PC.val).toArray++gS.toArray++Builtin.zeroCells z.cells (grownCap w (px.length+k) ii e - (px.length+k)))[q]? =some u:=by
  intro ii q u hq;have R4:=(List.getElem?_eq_some_iff.1 hq).1;rw[Array.getElem?_append_left (by simp only[Array.size_append,List.size_toArray];simpa using R4)];simpa using hq
 rcases L with⟨a,rfl,rfl⟩|⟨b,o,cap,cur,e',rfl,a2,a3,a4,a5,a6,a7,a8,a9⟩
 ·by_cases hk:k=0
  ·subst hk;left;have hn:gS=[]:=List.eq_nil_of_length_eq_zero (by simpa using aR);refine⟨a,rfl,rfl,rfl,?_⟩;cases ya<;>cases a<;>simp[Builtin.append_,run_underlying ht,sizeOf,typeInfo,hi,Builtin.lenOf,Builtin.firstCells,loadCells,loadCellsFrom,storeCells]
  ·rcases hy with⟨_,h0⟩|⟨ay,rfl,vb⟩
   ·exact absurd h0 hk
   right;right;cases a with
   |none=>
    have hr:=run_append_nil (P:=P) w t ty e i z ht hi hz ay k c gS (by rw[bV];exact aR) vb (by omega) (by simp only[List.length_nil,Nat.zero_add] at wV;omega) (by rw[nU];simp only[List.length_nil,Nat.zero_add] at hb;omega);have h3:=wI 0;have h4:=iV 0;have h5:=Ro 0;simp only[List.length_nil,Nat.zero_add,List.flatten_nil,List.map_nil,List.nil_append] at h3 h4 h5⊢;exact⟨grownCap w k 0 e,gS.toArray++Builtin.zeroCells z.cells (grownCap w k 0 e - k),grownCap_ge w k 0 e,h5,by simpa using h3,fun q u hq=>by simpa using h4 q u hq,hr⟩
   |some a=>
    have hr:=run_append_grow (P:=P) w t ty e i z ht hi hz a 0 0 [] (by simp) (fun q u hq=>by simp at hq) ay k c gS (by rw[bV];exact aR) vb (by omega) (by simp only[List.length_nil,Nat.zero_add] at wV;omega) (growslice_fits (by simp only[List.length_nil,Nat.zero_add] at wV;omega) (by rw[nU,Nat.zero_add];rw[List.length_nil,Nat.zero_add] at hb;exact hb));have h3:=wI 0;have h4:=iV 0;have h5:=Ro 0;simp only[List.length_nil,Nat.zero_add,List.flatten_nil,List.map_nil,List.nil_append] at h3 h4 h5 hr⊢;exact⟨_,_,grownCap_ge w k 0 e,h5,by simpa using h3,fun q u hq=>by simpa using h4 q u hq,hr⟩
 ·by_cases Hi:px.length+k<=cap
  ·right;left;refine⟨b,o,cap,cur,e',rfl,a2,a3,a4,Hi,a6,a7,a8,a9,?_⟩;rcases hy with⟨rfl,rfl⟩|⟨ay,rfl,vb⟩
   ·have hn:gS=[]:=List.eq_nil_of_length_eq_zero (by simpa using aR);subst hn;have alJ:gb w b (o+px.length*sz) [] cur=w:=by
     unfold gb;simp only[List.append_nil,List.length_nil,Nat.add_zero,List.take_append_drop,Array.toArray_toList];exact setRow_self w b cur e' (0,0) a2
    rw[alJ];simp[Builtin.append_,run_underlying ht,sizeOf,typeInfo,hi,Builtin.lenOf,Builtin.firstCells,a5,storeCells]
   ·have hr:=asO (P:=P) (w:=w) (ty:=ty) ht hi b o px.length cap cur a2 ay k c gS (by rw[bV];exact aR) vb h1 Hi (by
     rw[bV,aR,a3,Nat.add_assoc,<-Nat.add_mul];exact Nat.add_le_add_left (Nat.mul_le_mul_right _ Hi) _)
    rw[bV] at hr;exact hr
  ·rcases hy with⟨_,rfl⟩|⟨ay,rfl,vb⟩
   ·omega
   right;right;have hr:=run_append_grow (P:=P) w t ty e i z ht hi hz (ad b o) px.length cap (px.flatten.map PC.val) (by rw[bV];exact hol) (fun q u hq=>by
    rw[List.getElem?_map] at hq;cases hf:px.flatten[q]? with
    |none=>rw[hf] at hq;cases hq
    |some pc=>
     rw[hf] at hq;simp at hq;subst hq;obtain⟨k',j',nX,rfl⟩:=QO fV eZ hf;rw[qz,<-Nat.add_assoc];exact a6.2.1 k' j' pc nX) ay k c gS (by rw[bV];exact aR) vb (by omega) (by omega) (growslice_fits (by omega) (by rw[nU];exact hb))
   exact⟨_,_,grownCap_ge w _ _ _,Ro _,wI _,iV _,hr⟩
def uD (w:World) (sz:Nat) (py:List (List PC)) (v:Value):Prop:=
 (∀e∈py,e.length=sz)/\(∀k j c,At py k j c->Good w c)/\
 ∃ya c,v=.slice ya py.length c/\((ya=none/\py.length=0)\/∃ay,ya=some ay/\∀(j:Nat) (u:Value),(py.flatten.map PC.val)[j]? =some u->w.cell? (ay.add j)=some u)
theorem uD.Tt {sz:Nat} {ya:Option Addr} {c:Nat} {py:List (List PC)} (hg:Good w (.list sz ya c py)):uD w sz py (.slice ya py.length c):=by
 cases hg with
 |nil _ _ _ h=>
  refine⟨by simp,by rintro k j c ⟨e,he,_⟩;simp at he,ya,c,rfl,?_⟩;cases ya with
  |none=>exact .inl ⟨rfl,rfl⟩
  |some ay=>exact .inr ⟨ay,rfl,by simp⟩
 |cons _ b o _ _ h1 h2 h3 h4 h5 h6=>
  refine⟨h4,h6,_,c,rfl,.inr ⟨_,rfl,fun j u hj=>?_⟩⟩;rw[List.getElem?_map] at hj;cases hf:py.flatten[j]? with
  |none=>rw[hf] at hj;cases hj
  |some pc=>
   rw[hf] at hj;simp at hj;subst hj;obtain⟨k',j',nX,rfl⟩:=QO h3 h4 hf;rw[qz,<-Nat.add_assoc];exact h5 k' j' pc nX
theorem R.ahw (r:R B E w0 N σ a w G) {σ2:St} (tL:σ2.env=σ.env) (kP:σ2.used=σ.used) (H:HR B E w G σ2.h σ.used []) (K:bm w G σ.h (fun n=>σ.used n=true) w G σ2.h)
  {n:Nat} {sz by_:Nat} {m m2:Mode} {px py:List (List PC)} {v yv:Value} (hn:σ.used n=false) (fV:0<sz) (F:mB B E w G σ2.h sz m2 (px++py)) (eZ:∀e∈px,e.length=sz) (L:yh B E w G σ2.h sz m px v) (Ry:uD w sz py yv)
  (iF:∀b,bh b py->∀b' o cap,0<cap->v=.slice (some (ad b' o)) px.length cap->oI G σ2.h b'->b≠b')
  {t e:TypeId} {i:TypeInfo} {z:Value} {ty:TypeId} (ht:P.underlying t=some (.slice e)) (hi:P.info? e=some i) (hz:i.zero=some z) (bV:i.size=sz) (nU:i.bytes=by_) (wJ:0<by_) (xd:z.cells.size=sz)
  (hb:(px.length+py.length)*by_<=dX):
  ∃u w' G',(Builtin.append_ #[t,t] ty #[v,yv]).run P w=.ok u w'/\
   R B E w0 N {σ2 with h:=az σ2.h n (some (.row true m2 sz ((px++py).map fun e=>e.map PC.er))),used:=az σ2.used n true} a w' G'/\
   RA w' G' (az σ2.h n (some (.row true m2 sz ((px++py).map fun e=>e.map PC.er)))) (.one (.sl n sz 0 (px.length+py.length))) u:=by
 obtain⟨r1,r2,ya,c,rfl,r3⟩:=Ry;have aR:(py.flatten.map PC.val).length=py.length*sz:=Gz r1;have h1:∀u∈py.flatten.map PC.val,u.oneCell'=true:=fun u hu=>by obtain⟨pc,_,rfl⟩:=List.mem_map.1 hu;exact PC.jP pc
 have hB:=r.fr.size;have G8:(px++py).length=px.length+py.length:=by simp
 have u0:σ2.h n=none:=by
  cases hh:σ2.h n with
  |none=>rfl
  |some b=>have:=H.jh n (by rw[hh];simp);rw[hn] at this;cases this
 have ne:∀q,σ.used q=true->q≠n:=fun q hq e=>by subst e;rw[hn] at hq;cases hq
 have aD:∀q,σ2.h q≠none->q≠n:=fun q hq e=>by subst e;exact hq u0
 rcases ad9 (P:=P) w (ty:=ty) ht hi hz bV fV nU wJ eZ L aR r3 h1 hb with⟨a0,k0,rfl,rfl,bE⟩|⟨b,ob,cap,cur,e',rfl,b2,b3,b4,b5,b6,b7,b8,b9,bE⟩|⟨cap,arr,c1,c2,c3,c4,bE⟩
 ·
  have hpy:py=[]:=List.eq_nil_of_length_eq_zero k0;subst hpy;refine⟨_,w,⟨G.Im,az G.g n ⟨true,0,0,0,[],a0⟩⟩,bE,?_,?_⟩
  ·refine r.step (σ':=_) tL (fun q hq=>by show az σ2.used n true q=true;rw[kP];exact oF n q hq) (bm.trans (u2:=fun n=>σ.used n=true) (fun _ h=>h) K (bm.insert H (blk:=.row true m2 sz []) (p:=⟨true,0,0,0,[],a0⟩) hn (fun _ _=>rfl))) ?_ r.fr;show HR B E w _ (az σ2.h n (some (.row true m2 sz []))) (az σ2.used n true) [];rw[kP];have cm:∀b,¬bh b ([]:List (List PC)):=by rintro b ⟨k,j,c,⟨e,he,_⟩,_⟩;simp at he
   refine H.insert (p:=⟨true,0,0,0,[],a0⟩) hn (fun _ _=>rfl) (Nat.le_refl _) (fun h=>by cases h) (fun cs c m hb=>by cases hb) ⟨fV,rfl,fun _=>⟨rfl,fun _=>rfl⟩,(fun h=>by cases h),(fun h=>by cases h),?_,fun _ hm=>by have:=F.nr hm;simpa using this⟩
    (fun gr m sz xs _ _ n' bo m' aF av _ _ b hb=>absurd hb (cm b)) (fun gr sz xs _ b hb=>absurd hb (cm b)) (fun gr m sz xs _ _ i pc b hi=>by simp at hi)
   have hm:=F.mode;simp only[List.append_nil] at hm;exact hm
  ·refine RA.fC rfl fun _=>.inl ?_;simp[bR]
 ·
  have wW:(ob+px.length*sz)+(py.flatten.map PC.val).length<=cur.size:=by rw[aR,b3,Nat.add_assoc,<-Nat.add_mul];exact Nat.add_le_add_left (Nat.mul_le_mul_right _ b5) _
  let w2:=gb w b (ob+px.length*sz) (py.flatten.map PC.val) cur;have dM:∀x,x≠b->w2.heap[x]? =w.heap[x]? :=fun x hx=>zV x hx;have AM:∀x,G.Im x->x≠b:=fun x hx he=>b7.1 (he▸hx);have pS:∀x,d9 w x->d9 w2 x:=fun x hx=>IV b2 wW x hx;have RQ:∀x,bh x (px++py)->x≠b:=fun x hx=>(xH hx).elim (b9 x) (fun h=>iF x h b ob cap (by obtain⟨k,j,c,⟨e,he,_⟩,_⟩:=h;have:=(List.getElem?_eq_some_iff.1 he).1;omega) rfl b7);let p:PB:=⟨false,b,ob,cap,px++py,none⟩;have K2:bm w G σ2.h (fun n=>σ.used n=true) w2 ⟨G.Im,az G.g n p⟩ (az σ2.h n (some (.row true m2 sz ((px++py).map fun e=>e.map PC.er)))):=by
   refine⟨fun _ h=>h,fun x hx o=>gV (dM x (AM x hx)) o,fun q hq h0=>?_,fun q gr aF av hq h0=>?_⟩
   ·rw[cN _ _ _ _ (ne q hq)] at h0;simp only[cN _ _ _ _ (ne q hq)];exact⟨h0,trivial,trivial,trivial,trivial,trivial⟩
   ·rw[cN _ _ _ _ (ne q hq)] at h0;simp only[cN _ _ _ _ (ne q hq)];exact⟨⟨gr,av,h0⟩,fun k j pc h1 h2=>⟨pc,h1,rfl,h2⟩⟩
  have akV:b<w.heap.size:=(Array.getElem?_eq_some_iff.1 b2).1;have Hn:HR B E w2 ⟨G.Im,az G.g n p⟩ (az σ2.h n (some (.row true m2 sz ((px++py).map fun e=>e.map PC.er)))) (az σ.used n true) []:=by
   refine H.put (p:=p) (fun x _ hx=>dM x (hx rfl)) (by show w.heap.size<=w2.heap.size;rw[rJ];exact Nat.le_refl _) (fun x _ hx=>pS x hx) (fun q hq=>oF n q hq) (bR _ _ _)
    (fun _=>⟨b7.1,b8,by show b<w2.heap.size;rw[rJ];exact akV⟩) (fun _ q hq h0 hl=>b7.2.1 q h0 hl) (fun _ q gr aF av hq h0 x hx he=>b7.2.2 q gr .live aF av h0 (by have DM:x=b:=he;rw[<-DM];exact hx))
    (fun cs c q hb=>by cases hb) K2 ?_ ?_ ?_ (fun gr m sz xs _ _ i pc b hi=>by simp at hi) (fun _ _ x hx he=>by obtain⟨q,gr,mo,aF,av,_,h0,hxF⟩:=hx;exact b7.2.2 q gr mo aF av h0 (by have DM:x=b:=he;rw[<-DM];exact hxF))
   ·refine⟨fV,rfl,(fun h=>by cases h),fun _=>⟨pS b ⟨cur,e',b2⟩,⟨F.len,fun k j c hk=>?_,fun k j c hk=>?_⟩,by show(px++py).length<=cap;rw[G8];exact b5⟩,fun _ _=>?_,?_,fun _ hm=>(F.nr hm).congr fun x hx=>dM x (RQ x hx)⟩
    ·show w2.cell? (ad b (ob+k*sz+j))=some c.val;rw[zU b2 wW];have hf:=tq F.len hk;rw[List.flatten_append] at hf;have kv:px.flatten.length=px.length*sz:=by have:=Gz eZ;rwa[List.length_map] at this
     rcases rS hk with⟨nk,bL⟩|⟨nk,bL⟩
     ·rw[if_neg ?_]
      ·exact b6.2.1 k j c bL
      ·rintro⟨q1,_⟩;have hj:j<sz:=by obtain⟨e1,he,hj⟩:=bL;rw[<-eZ e1 (List.mem_of_getElem? he)];exact(List.getElem?_eq_some_iff.1 hj).1
       have:(k+1)*sz<=px.length*sz:=Nat.mul_le_mul_right _ nk;rw[Nat.add_mul] at this;omega
     ·have AX:px.length*sz<=k*sz+j:=Nat.le_trans (Nat.mul_le_mul_right _ nk) (Nat.le_add_right _ _);have cu:=(List.getElem?_eq_some_iff.1 hf).1;rw[List.length_append,kv] at cu;rw[List.getElem?_append_right (by rw[kv];exact AX),kv] at hf;rw[if_pos ⟨by omega,by simp only[List.length_map];omega⟩];rw[List.getElem?_map,show ob+k*sz+j - (ob+px.length*sz)=k*sz+j - px.length*sz by omega,hf];rfl
    ·exact(F.eG k j c hk).congr fun x hx o=>gV (dM x (RQ x ⟨k,j,c,hk,hx⟩)) o
    ·obtain⟨jB,q1,q2⟩:=Fu (vs:=py.flatten.map PC.val) (o:=ob+px.length*sz) b2 wW;exact⟨b4,jB,e',q1,by rw[q2,b3]⟩
    ·have hm:=F.mode;cases m2 with
     |aJ=>exact hm
     |aN=>exact⟨fun x hx=>⟨(hm.1 x hx).1,pS x (hm.1 x hx).2.1,(hm.1 x hx).2.2⟩,hm.2⟩
     |live=>exact⟨fun x hx=>⟨(hm.1 x hx).1,pS x (hm.1 x hx).2.1,(hm.1 x hx).2.2⟩,hm.2⟩
   ·intro gr m' aF av hb iW q bo mo jd gD gM h0 iE x hx;injection hb with _ hb _ _;subst hb;exact F.gv iW q bo mo jd gD h0 iE x hx
   ·intro gr aF av hb x hx;injection hb with _ hb _ _;exact⟨fun _=>RQ x hx,fun q _ h0 hl=>F.live hb x hx q h0 hl⟩
  refine⟨_,w2,⟨G.Im,az G.g n p⟩,bE,?_,?_⟩
  ·exact r.step (σ':=_) tL (fun q hq=>by show az σ2.used n true q=true;rw[kP];exact oF n q hq) (bm.trans (u2:=fun n=>σ.used n=true) (fun _ h=>h) K K2)
    (by show HR B E w2 _ _ (az σ2.used n true) [];rw[kP];exact Hn) (r.fr.one b8 (fun x hx D2=>dM x D2) (by show w.heap.size<=w2.heap.size;rw[rJ];exact Nat.le_refl _) (Cf b2 wW) rfl rfl rfl)
  ·refine RA.fC rfl fun _=>.inr ⟨by simp[bR,p],some (ad b ob),?_,?_,?_⟩
   ·simp[bR,p]
   ·simp[bR,p];exact b5
   ·simp[bR,p]
 ·
  let w1:=w.drew;have hd:∀x:Nat,x<w.heap.size->(w.drew.alloc (.cells arr e)).heap[x]? =w.heap[x]? :=fun x hx=>heap_alloc_old w.drew _ x hx;have H1:HR B E w.drew G σ2.h σ.used []:=H.grow (w':=w.drew) (fun _ _=>rfl) (Nat.le_refl _);have r1:R B E w0 N σ a w.drew G:=r.step (w':=w.drew) rfl (fun _ h=>h) (bm.world (w:=w) (w':=w.drew) (fun _ _=>rfl) _) (r.hr.grow (w':=w.drew) (fun _ _=>rfl) (Nat.le_refl _)) (r.fr.grow (w':=w.drew) (fun _ _=>rfl) (Nat.le_refl _) rfl rfl rfl);have K1:bm w.drew G σ.h (fun n=>σ.used n=true) w.drew G σ2.h:=⟨K.im,fun _ _ _=>rfl,K.name,K.live⟩;have fO:∀k j c,At (px++py) k j c->Good w.drew c:=fun k j c hk=>(F.eG k j c hk).congr fun _ _ _=>rfl;have wI:∀k j c,At (px++py) k j c->arr[k*sz+j]? =some c.val:=fun k j c hk=>by
   have hf:=tq F.len hk;refine c4 _ _ ?_;rw[<-List.map_append,<-List.flatten_append,List.getElem?_map,hf];rfl
  have mM:arr.size=cap*sz:=by rw[c3,xd];omega
  have hB2:=r1.fr.size;let p:PB:=⟨false,w.heap.size,0,cap,px++py,none⟩;have hw:∀x:Nat,x<w.drew.heap.size->(w.drew.alloc (.cells arr e)).heap[x]? =w.drew.heap[x]? :=hd;have Hn:HR B E (w.drew.alloc (.cells arr e)) ⟨G.Im,az G.g n p⟩ (az σ2.h n (some (.row true m2 sz ((px++py).map fun e=>e.map PC.er)))) (az σ.used n true) []:=by
   refine H1.insert (p:=p) hn hw (by simp) (fun _=>⟨H1.Ml,.inl hB,by simp[p]⟩) (fun cs c m hb=>by cases hb) ?_ ?_ ?_ (fun gr m sz xs _ _ i pc b hi=>by simp at hi)
   ·refine⟨fV,rfl,(fun h=>by cases h),fun _=>⟨d9.alloc _ _ _,⟨F.len,fun k j c hk=>?_,fun k j c hk=>?_⟩,by show(px++py).length<=cap;rw[G8];exact c1⟩,fun _ _=>⟨c2,arr,e,heap_alloc_new w.drew _,(Nat.zero_add _).symm▸mM⟩,?_,fun _ hm=>(F.nr hm).congr fun x hx=>by
     obtain⟨k,j,c,hk,Sh⟩:=hx;exact hd x ((F.eG k j c hk).lt Sh)⟩
    ·show(w.drew.alloc (.cells arr e)).cell? (ad w.drew.heap.size (0+k*sz+j))=some c.val;simp only[Nat.zero_add];unfold ad;rw[World.cell?_alloc_new];exact wI k j c hk
    ·exact(fO k j c hk).congr fun x hx o=>gV (hw x ((fO k j c hk).lt hx)) o
    ·have hm:=F.mode;have hu:∀x,d9 w x->d9 (w.drew.alloc (.cells arr e)) x:=fun x hx=>hx.congr (hd x hx.lt);cases m2 with
     |aJ=>exact hm
     |aN=>exact⟨fun x hx=>⟨(hm.1 x hx).1,hu x (hm.1 x hx).2.1,(hm.1 x hx).2.2⟩,hm.2⟩
     |live=>exact⟨fun x hx=>⟨(hm.1 x hx).1,hu x (hm.1 x hx).2.1,(hm.1 x hx).2.2⟩,hm.2⟩
   ·intro gr m' aF av hb iW q bo mo jd gD h0 iE x hx;injection hb with _ hb _ _;subst hb;exact F.gv iW q bo mo jd gD h0 iE x hx
   ·intro gr aF av hb x hx;injection hb with _ hb _ _;refine⟨fun _=>?_,fun q h0 hl=>F.live hb x hx q h0 hl⟩;obtain⟨k,j,c,hk,Sh⟩:=hx;have:=(F.eG k j c hk).lt Sh;show x≠w.heap.size;omega
  refine⟨_,_,⟨G.Im,az G.g n p⟩,bE,?_,?_⟩
  ·exact r1.step (σ':=_) tL (fun q hq=>by show az σ2.used n true q=true;rw[kP];exact oF n q hq) (bm.trans (u2:=fun n=>σ.used n=true) (fun _ h=>h) K1 (bm.insert H1 hn hw))
    (by show HR B E _ _ _ (az σ2.used n true) [];rw[kP];exact Hn) (r1.fr.grow hw (by simp) rfl rfl rfl)
  ·refine RA.fC rfl fun _=>.inr ⟨by simp[bR,p],some (ad w.heap.size 0),?_,?_,?_⟩
   ·simp[bR,p]
   ·simp[bR,p];exact c1
   ·simp[bR,p]
theorem anV (r:R B E w0 N σ a w G) {sz:Nat} {x:aj} {v:Value} {xs:List (List C)} {m:Mode} {σ1:St} (hv:RA w G σ.h x v) (hx:rR σ sz x=some (xs,m,σ1)):
  ∃px:List (List PC),xs=px.map (fun e=>e.map PC.er)/\mB B E w G σ1.h sz m px/\yh B E w G σ1.h sz m px v/\HR B E w G σ1.h σ.used []/\bm w G σ.h (fun n=>σ.used n=true) w G σ1.h/\σ1.env=σ.env/\σ1.used=σ.used/\
   (∀n b,σ1.h n=some b->σ.h n=some b):=by
 unfold rR at hx;split at hx
 ·rename_i s;injection hx with hx;injection hx with h1 h2;injection h2 with h2 h3;subst h1 h2 h3;have gk:v=.slice none 0 0:=(hv.fu (by simp)).1;have cm:∀b,¬bh b ([]:List (List PC)):=by rintro b ⟨k,j,c,⟨e,he,_⟩,_⟩;simp at he
  exact⟨[],rfl,⟨by simp,by rintro k j c ⟨e,he,_⟩;simp at he,⟨fun b hb=>absurd hb (cm b),(by rintro k j c ⟨e,he,_⟩;simp at he),(by rintro k j c k' j' c' b ⟨e,he,_⟩;simp at he)⟩,fun _ _ _ _ _ _ _ _ b hb=>absurd hb (cm b),fun _ b hb=>absurd hb (cm b),fun h=>by cases h⟩,
   .inl ⟨none,gk,rfl⟩,r.hr,bm.refl _ _ _ _,rfl,rfl,fun _ _ h=>h⟩
 ·rename_i n s len;split at hx
  ·rename_i m0 rs jv hn;split at hx
   ·rename_i hc;obtain⟨rfl,rfl,rfl⟩:=hc;injection hx with hx;injection hx with h1 h2;injection h2 with h2 h3;subst h1 h2 h3;have H:=r.hr;have bN:σ.h n≠none:=by rw[hn];simp
    have hr:=H.row n true m0 s jv hn;have gY:gE (G.g n) s 0 jv.length v:=(hv.fu (by simp)).1 bN;have n8:jv.length=(G.g n).px.length:=by rw[hr.er];simp
    refine⟨(G.g n).px,hr.er,mB.MH H hn (fun _=>rfl),?_,H.del n,bm.del n _,rfl,rfl,fun q b hq=>(nK hq).1⟩;rcases gY with⟨aR,gk,_,_⟩|⟨aR,a',gk,io,ha⟩
    ·have g2:=(hr.nl aR).2 rfl;exact .inl ⟨(G.g n).na,by rw[gk,g2],(hr.nl aR).1⟩
    ·right;obtain⟨r2,cur,e,r3,r4⟩:=hr.room aR rfl;obtain⟨l1,l2,l3⟩:=hr.eK aR;obtain⟨o1,o2,o3⟩:=H.own n bN aR;have pP:=ha (.inr rfl);refine⟨(G.g n).b,(G.g n).o,(G.g n).cap,cur,e,?_,r3,r4,r2,l3,l2,⟨o1,fun q hq hl=>?_,fun q gr m' aF av hq hb=>?_⟩,o2,fun b hb=>H.qI bN aR hn hb⟩
     ·rw[gk,pP,n8];simp
     ·obtain⟨q1,q2⟩:=ww hq;exact H.inj q n q1 bN q2 hl aR
     ·exact H.qI bN aR (nK hq).1 hb rfl
   ·cases hx
  ·cases hx
 ·cases hx
theorem asy {fl:Bool} {sz:Nat} {x:aj} {v:Value} {ys:List (List C)} {m m2:Mode} {σ1 σ2:St} {px:List (List PC)} (fV:0<sz) (H:HR B E w G σ1.h σ1.used []) (F:mB B E w G σ1.h sz m px) (hv:RA w G σ1.h x v)
  (hx:mD fl σ1 sz m x=some (ys,m2,σ2)):
  ∃py:List (List PC),ys=py.map (fun e=>e.map PC.er)/\uD w sz py v/\mB B E w G σ2.h sz m2 (px++py)/\HR B E w G σ2.h σ1.used []/\bm w G σ1.h (fun n=>σ1.used n=true) w G σ2.h/\σ2.env=σ1.env/\σ2.used=σ1.used/\
   (∀n b,σ2.h n=some b->σ1.h n=some b)/\(∀b,bh b py->∀b',¬G.Im b'->(∀q gr mo aF av,σ1.h q=some (.row gr mo aF av)->¬bh b' (G.g q).px)->b≠b'):=by
 unfold mD at hx;have alt:∀b,¬bh b ([]:List (List PC)):=by rintro b ⟨k,j,c,⟨e,he,_⟩,_⟩;simp at he
 split at hx
 ·rename_i s;injection hx with hx;injection hx with h1 h2;injection h2 with h2 h3;subst h1 h2 h3;have gk:v=.slice none 0 0:=(hv.fu (by simp)).1;subst gk;exact⟨[],rfl,⟨by simp,by rintro k j c ⟨e,he,_⟩;simp at he,none,0,rfl,.inl ⟨rfl,rfl⟩⟩,by simpa using F,H,bm.refl _ _ _ _,rfl,rfl,fun _ _ h=>h,fun b hb=>absurd hb (alt b)⟩
 ·rename_i s xW;split at hx
  ·rename_i hs;subst hs;obtain⟨pc,e1,e2,e3,e4⟩:=hv.c;have bi:∃ya c py,pc=.list s ya c py/\py.map (fun e=>e.map PC.er)=xW:=by
    cases pc with
    |int k n=>simp[PC.er] at e1
    |bool b=>simp[PC.er] at e1
    |list s' ya c py=>rw[PC.dV] at e1;injection e1 with e1 e5;subst e1;exact⟨ya,c,py,rfl,e5⟩
   obtain⟨ya,c,py,rfl,e5⟩:=bi;have hR:uD w s py v:=by rw[<-e2];exact uD.Tt e3
   have mJ:∀b,bh b py->G.Im b:=fun b ⟨k,j,c,hk,hb⟩=>e4 b (.there _ _ _ _ k j c hk hb);have nV:∀b,bh b py->∀b',¬G.Im b'->(∀q gr mo aF av,σ1.h q=some (.row gr mo aF av)->¬bh b' (G.g q).px)->b≠b':=fun b hb b' aL _ he=>aL (he▸mJ b hb);split at hx
   ·rename_i iZ;injection hx with hx;injection hx with h1 h2;injection h2 with h2 h3;subst h1 h2 h3
    replace iZ:=(Bool.and_eq_true _ _▸iZ).2
    rw[<-e5] at iZ;exact⟨py,e5.symm,hR,F.Xe hR.1 hR.2.1 (vP iZ) (afz iZ),H,bm.refl _ _ _ _,rfl,rfl,fun _ _ h=>h,nV⟩
   ·split at hx
    ·cases hx
    ·rename_i sn;injection hx with hx;injection hx with h1 h2;injection h2 with h2 h3;subst h1 h2 h3;refine⟨py,e5.symm,hR,⟨fun e he=>(List.mem_append.1 he).elim (F.len e) (hR.1 e),fun k j c hk=>?_,fun b hb=>(xH hb).elim (F.Wr sn b) (mJ b),fun h=>absurd rfl h,(fun h=>by cases h),fun h=>by cases h⟩,H,bm.refl _ _ _ _,rfl,rfl,fun _ _ h=>h,nV⟩;rcases rS hk with⟨_,h⟩|⟨_,h⟩
     ·exact F.eG _ _ _ h
     ·exact hR.2.1 _ _ _ h
  ·cases hx
 ·rename_i n s lo len;split at hx
  ·rename_i gr m' rs xW hn;split at hx
   ·rename_i hc;obtain⟨rfl,rfl,hl⟩:=hc;have bN:σ1.h n≠none:=by rw[hn];simp
    have hr:=H.row n gr m' s xW hn;have gY:gE (G.g n) s lo len v:=(hv.fu (by simp)).1 bN;obtain⟨q1,q2,q3,q4⟩:=E5 hr gY hl;have GV:∃ya c,jM (G.g n) s lo len v=.list s ya c (((G.g n).px.drop lo).take len):=by
     rcases gY with⟨_,rfl,_,_⟩|⟨_,a',rfl,_,_⟩<;>exact⟨_,_,rfl⟩
    obtain⟨ya,c,GV⟩:=GV;rw[GV] at q1 q2 q3 q4;have hR:uD w s (((G.g n).px.drop lo).take len) v:=by rw[<-q2];exact uD.Tt q3
    have nu:(xW.drop lo).take len=(((G.g n).px.drop lo).take len).map (fun e=>e.map PC.er):=by rw[PC.dV] at q1;injection q1 with _ q1;exact q1.symm
    have nV:∀b,bh b (((G.g n).px.drop lo).take len)->∀b',¬G.Im b'->(∀q gr mo aF av,σ1.h q=some (.row gr mo aF av)->¬bh b' (G.g q).px)->b≠b':=by
     rintro b ⟨k,j,c,hk,hb⟩ b' _ aL rfl;exact aL n gr m' s xW hn ⟨_,_,_,(qC hk).1,hb⟩
    split at hx
    ·rename_i iZ;injection hx with hx;injection hx with h1 h2;injection h2 with h2 h3;subst h1 h2 h3;have Ba:=(Bool.and_eq_true _ _▸iZ).2;rw[nu] at Ba;exact⟨_,nu,hR,F.Xe hR.1 hR.2.1 (vP Ba) (afz Ba),H,bm.refl _ _ _ _,rfl,rfl,fun _ _ h=>h,nV⟩
    ·split at hx
     ·rename_i ak9;obtain⟨rfl,rfl⟩:=ak9;have fw:((G.g n).px.drop 0).take xW.length=(G.g n).px:=by
       have:xW.length=(G.g n).px.length:=by rw[hr.er];simp
       rw[this];simp
      rw[fw] at hR nV;have F1:=F.del n;have fO:∀k j c,At (px++(G.g n).px) k j c->Good w c:=fun k j c hk=>by
       rcases rS hk with⟨_,h⟩|⟨_,h⟩
       ·exact F.eG _ _ _ h
       ·exact hR.2.1 _ _ _ h
      have hlen:∀e∈px++(G.g n).px,e.length=s:=fun e he=>(List.mem_append.1 he).elim (F.len e) (hR.1 e);split at hx
      ·rename_i dW;obtain⟨dW,GY⟩:=dW;subst dW;have F2:=mB.MH H hn GY;injection hx with hx;injection hx with h1 h2;injection h2 with h2 h3;subst h1 h2 h3;refine⟨(G.g n).px,hr.er,hR,⟨hlen,fO,?_,fun hm q bo mo aF av hq iE b hb=>?_,fun hm b hb q hq hl=>?_,fun hm k c hk=>(rS hk).elim (fun h=>F.nr hm _ _ h.2) (fun h=>F2.nr hm _ _ h.2)⟩,H.del n,bm.del n _,rfl,rfl,fun q b hq=>(nK hq).1,nV⟩
       ·have m1:=F.mode;have m3:=F2.mode;cases m with
        |aJ=>exact fun b hb=>(xH hb).elim (m1 b) (m3 b)
        |aN=>exact⟨fun b hb=>(xH hb).elim (m1.1 b) (m3.1 b),M5 m1.2 m3.2 (fun b hb=>F.gv (by simp) n gr .aN s xW hn (by simp) b hb)⟩
        |live=>exact⟨fun b hb=>(xH hb).elim (m1.1 b) (m3.1 b),M5 m1.2 m3.2 (fun b hb=>F.gv (by simp) n gr .live s xW hn (by simp) b hb)⟩
       ·exact(xH hb).elim (F1.gv hm q bo mo aF av hq iE b) (F2.gv hm q bo mo aF av hq iE b)
       ·exact(xH hb).elim (fun h=>F1.live hm b h q hq hl) (fun h=>F2.live hm b h q hq hl)
      ·split at hx
       ·cases hx
       ·rename_i aR;have F2:=mB.MH H hn (fun h=>absurd (.inr h) aR);injection hx with hx;injection hx with h1 h2;injection h2 with h2 h3;subst h1 h2 h3;refine⟨(G.g n).px,hr.er,hR,⟨hlen,fO,fun b hb=>(xH hb).elim (F.Wr (fun h=>aR (.inl h)) b) (F2.Wr (fun h=>aR (.inr h)) b),fun h=>absurd rfl h,(fun h=>by cases h),fun h=>by cases h⟩,H.del n,bm.del n _,rfl,rfl,fun q b hq=>(nK hq).1,nV⟩
     ·cases hx
   ·cases hx
  ·cases hx
 ·cases hx
theorem aiQ (r:R B E w0 N σ a w G) {n:Nat} {t e:TypeId} {i:TypeInfo} {z:Value} {x y:Operand} {mx my:MO} {fl:Bool} {sz by_:Nat} {xs ys:List (List C)} {m m2:Mode} {σ1 σ2 gN:St}
  (ho:o.op=.call {callee:=.builtin .append,args:=#[x,y],argTypes:=#[t,t]}) (hd:o.dst=some n) (hN:n<N) (fU:bU x mx=true) (fK:bU y my=true)
  (ht:P.underlying t=some (.slice e)) (hi:P.info? e=some i) (hz:i.zero=some z) (bV:i.size=sz) (fV:0<sz) (nU:i.bytes=by_) (wJ:0<by_) (xd:z.cells.size=sz)
  (hl:rR σ sz (σ.ev mx)=some (xs,m,σ1)) (hr:mD fl σ1 sz m (σ.ev my)=some (ys,m2,σ2)) (hb:(xs.length+ys.length)*by_<=dX)
  (hx:σ2.ins n (.row true m2 sz (xs++ys))=some gN):
  o.wp P a w (Nx B E w0 N (gN.put o.dst (.one (.sl n sz 0 (xs.length+ys.length))))) Q:=by
 obtain⟨hn,rfl⟩:=kx hx;obtain⟨x1,x2⟩:=r.ev fU;obtain⟨y1,y2⟩:=r.ev fK;obtain⟨px,e1,F1,L1,H1,K1,q1,q2,q3⟩:=anV r x1 hl;have y1':RA w G σ1.h (σ.ev my) (a.eval y):=y1.fW K1 y2;rw[<-q2] at H1;obtain⟨py,e2,R2,F2,H2,K2,p1,p2,p3,nV⟩:=asy fV H1 F1 y1' hr;rw[q2] at H2;have n8:xs.length=px.length:=by rw[e1];simp
 have vi:ys.length=py.length:=by rw[e2];simp
 have L2:yh B E w G σ2.h sz m px (a.eval x):=by
  rcases L1 with h|⟨b,o,cap,cur,e',b1,b2,b3,b4,b5,b6,⟨l1,l2,l3⟩,b8,b9⟩
  ·exact .inl h
  ·refine .inr ⟨b,o,cap,cur,e',b1,b2,b3,b4,b5,b6,⟨l1,fun q hq=>?_,fun q gr mo aF av hq=>l3 q gr mo aF av (p3 q _ hq)⟩,b8,b9⟩;cases hh:σ2.h q with
   |none=>exact absurd hh hq
   |some bb=>exact l2 q (by rw[p3 q bb hh];simp)
 obtain⟨u,w',G',bE,r',hv⟩:=r.ahw (P:=P) (σ2:=σ2) (n:=n) (m:=m) (m2:=m2) (px:=px) (py:=py) (ty:=o.type) (p1.trans q1) (p2.trans q2) H2 (bm.trans (u2:=fun n=>σ1.used n=true) (fun q hq=>by rw[q2];exact hq) K1 K2)
  (by rw[<-q2,<-p2];exact hn) fV F2 F1.len L2 R2 (fun b cT b' o' cap dL xa aau=>by
   rcases L1 with⟨_,h,_⟩|⟨b0,o0,yu,cur,e',b1,b2,b3,b4,b5,b6,⟨l1,l2,l3⟩,b8,b9⟩
   ·rw[h] at xa;injection xa with _ _ xa;omega
   ·rw[b1] at xa;injection xa with xa;injection xa with xa;have DH:=(lz xa).1;subst DH;exact nV b cT b0 l1 l3) ht hi hz bV nU wJ xd (by rw[<-n8,<-vi];exact hb)
 have RP:(px++py).map (fun e=>e.map PC.er)=xs++ys:=by rw[List.map_append,<-e1,<-e2]
 rw[RP] at r' hv;rw[<-n8,<-vi] at hv;refine oG (v:=u) (w':=w') ?_ ⟨G',r'.put hv (fun q hq=>by have fc:q=n:=hq;subst fc;exact bR _ _ _) (fun q hq=>by rw[hd] at hq;injection hq with hq;omega)⟩
 simp[execOp,ho,resolve,invoke,builtin,bE]
end
section
variable {B:Nat} {E:Ex} {w0 w w':World} {G G':Gh} {h h':Nat->Option aq} {used used':Nat->Bool} {tk:List PC} {N:Nat}
variable {P:Program} {o:Oper} {a:Act} {σ σ':St} {Q:Exit->Act->World->Prop}
theorem LZ {n:Nat} (hs:(h n).isSome=true):h n≠none:=by intro hh;rw[hh] at hs;cases hs
theorem EV {t e:TypeId} {i:TypeInfo} {sz b off len cap:Nat} {kk:IntKind} {q:Int} (ht:P.underlying t=some (.slice e)) (hi:P.info? e=some i) (bV:i.size=sz) (h0:0<=q) (h1:q<len):
  (Instr.indexAt t (.slice (some (ad b off)) len cap) (.int kk q)).run P w=.ok (.pointer (some (ad b (off+q.toNat*sz)))) w:=by
 simp[Instr.indexAt,run_underlying ht,asIntOf,h0,h1,sizeOf,typeInfo,hi,bV,qz]
theorem Yy (r:R B E w0 N σ a w G) {t e:TypeId} {i:TypeInfo} {x y:Operand} {mx my:MO} {sz:Nat} {q:Int} {z:aj} (ho:o.op=.indexAddr t x y) (hN:∀n,o.dst=some n->n<N) (fU:bU x mx=true) (fK:bU y my=true)
  (ht:P.underlying t=some (.slice e)) (hi:P.info? e=some i) (bV:i.size=sz) (hq:(σ.ev my).dZ=some q) (h0:0<=q)
  (hz:(∃n lo len,σ.ev mx=.one (.sl n sz lo len)/\q<(len:Int)/\(σ.h n).isSome=true/\z=.one (.ptr n (lo+q.toNat) sz 0))\/(∃xs el,σ.ev mx=.one (.c (.list sz xs))/\xs[q.toNat]? =some el/\z=.one (.dg el 0))):
  o.wp P a w (Nx B E w0 N (σ.put o.dst z)) Q:=by
 obtain⟨x1,x2⟩:=r.ev fU;obtain⟨kk,ey⟩:=(r.ev fK).1.int hq;rcases hz with⟨n,lo,len,e1,h1,hs,rfl⟩|⟨xs,el,e1,h1,rfl⟩
 ·rw[e1] at x1 x2;have gY:gE (G.g n) sz lo len (a.eval x):=(x1.fu (by simp)).1 (LZ hs);rcases gY with⟨_,_,_,hl⟩|⟨aR,a',hv,io,ha⟩
  ·omega
  ·have pP:=ha (.inl (by omega));subst pP;refine ji r (v:=.pointer (some (ad (G.g n).b ((G.g n).o+lo*sz+q.toNat*sz)))) ?_ ?_ (fun m hm=>x2 m hm) hN
   ·simp only[execOp,ho,hv,ey];simp[EV ht hi bV h0 h1]
   ·exact RA.fC rfl fun _=>⟨aR,by rw[Nat.add_mul];congr 3;omega⟩
 ·rw[e1] at x1;obtain⟨pc,p1,p2,p3,p4⟩:=x1.c;cases pc with
  |int k n=>simp[PC.er] at p1
  |bool b=>simp[PC.er] at p1
  |list s' ya c py=>
   rw[PC.dV] at p1;injection p1 with p0 p1;subst p0;have iY:∃pe,py[q.toNat]? =some pe/\pe.map PC.er=el:=by
    rw[<-p1,List.getElem?_map] at h1;cases hp:py[q.toNat]? with
    |none=>rw[hp] at h1;cases h1
    |some pe=>rw[hp] at h1;simp at h1;exact⟨pe,rfl,h1⟩
   obtain⟨pe,qT,qU⟩:=iY;have cu:q.toNat<py.length:=(List.getElem?_eq_some_iff.1 qT).1;cases p3 with
   |nil _ _ _ _=>simp at cu
   |cons _ b oo _ _ g1 g2 g3 g4 g5 g6=>
    have fc:q<(py.length:Int):=by omega
    refine ji r (v:=.pointer (some (ad b (oo+q.toNat*s')))) ?_ ?_ (fun m hm=>absurd hm (by simp[aj.ref,ah.ref,ah.hZ])) hN
    ·simp only[execOp,ho,<-p2,PC.val,ey];simp[EV ht hi bV h0 fc]
    ·refine RA.fC rfl ⟨b,oo+q.toNat*s',pe,by simp,qU,p4 b (.here _ _ _ _ g1),fun j c hj=>?_⟩;exact⟨g5 _ _ _ ⟨pe,qT,hj⟩,g6 _ _ _ ⟨pe,qT,hj⟩,fun b' aL=>p4 b' (.there _ _ _ _ _ _ c ⟨pe,qT,hj⟩ aL)⟩
theorem KV (r:R B E w0 N σ a w G) {t e:TypeId} {x:Operand} {mx:MO} {len:Nat} (ho:o.op=.call {callee:=.builtin .len,args:=#[x],argTypes:=#[t]}) (hN:∀n,o.dst=some n->n<N) (hm:bU x mx=true)
  (ht:P.underlying t=some (.slice e))
  (hz:(∃n sz lo,σ.ev mx=.one (.sl n sz lo len)/\(σ.h n).isSome=true)\/(∃sz xs,σ.ev mx=.one (.c (.list sz xs))/\len=xs.length)\/(∃sz,σ.ev mx=.one (.nil sz)/\len=0)\/
   (∃n k aB off sz l s ys,σ.ev mx=.one (.bC n k aB off sz l)/\cO σ.h (.bC n k aB off sz l)=some (.list s ys)/\len=ys.length)):
  o.wp P a w (Nx B E w0 N (σ.put o.dst (.one (.c (.int .i64 len))))) Q:=by
 obtain⟨x1,x2⟩:=r.ev hm;have hv:∃a' c,a.eval x=.slice a' len c:=by
  rcases hz with⟨n,sz,lo,e1,hs⟩|⟨sz,xs,e1,rfl⟩|⟨sz,e1,rfl⟩|⟨n,k,aB,off,sz,l,s,ys,e1,Hl,rfl⟩
  ·rw[e1] at x1;have gY:gE (G.g n) sz lo len (a.eval x):=(x1.fu (by simp)).1 (LZ hs);rcases gY with⟨_,hv,_,rfl⟩|⟨_,a',hv,_,_⟩
   ·exact⟨_,_,hv⟩
   ·exact⟨_,_,hv⟩
  ·rw[e1] at x1;obtain⟨pc,p1,p2,_⟩:=x1.c;cases pc with
   |int k n=>simp[PC.er] at p1
   |bool b=>simp[PC.er] at p1
   |list s' ya c py=>
    rw[PC.dV] at p1;injection p1 with _ p1;refine⟨ya,c,?_⟩;rw[<-p2,<-p1];simp[PC.val]
  ·rw[e1] at x1;have gk:a.eval x=.slice none 0 0:=(x1.fu (by simp)).1;exact⟨_,_,gk⟩
  ·rw[e1] at x1;obtain⟨pc,p1,p2,_⟩:=r.hr.cO Hl (x1.fu (by simp)).1;cases pc with
   |int k n=>simp[PC.er] at p1
   |bool b=>simp[PC.er] at p1
   |list s' ya c py=>
    rw[PC.dV] at p1;injection p1 with _ p1;refine⟨ya,c,?_⟩;rw[<-p2,<-p1];simp[PC.val]
 obtain⟨a',c,hv⟩:=hv;refine ji r (v:=.int .i64 len) ?_ (RA.of_int _ _) (fun q hq=>absurd hq qj) hN;simp[execOp,ho,resolve,invoke,builtin,hv,Builtin.len_,run_underlying ht,goInt]
theorem Ib {t e:TypeId} {i:TypeInfo} {sz:Nat} {ya:Option Addr} {len cap:Nat} {lo hi':Option Value} {l hh:Int} (ht:P.underlying t=some (.slice e)) (hi:P.info? e=some i) (bV:i.size=sz)
  (qO:(lo=none/\l=0)\/∃k,lo=some (.int k l)) (wQ:(hi'=none/\hh=len)\/∃k,hi'=some (.int k hh)) (h0:0<=l) (h1:l<=hh) (h2:hh<=len) (h3:len<=cap):
  (Instr.sliceAt t (.slice ya len cap) lo hi' none).run P w=.ok (.slice (if cap=l.toNat then ya else ya.map (·.add (l.toNat*sz))) (hh - l).toNat (cap - l.toNat)) w:=by
 have e1:(hh.toNat:Int)=hh:=Int.toNat_of_nonneg (by omega);have e2:(hh - l).toNat=hh.toNat - l.toNat:=by omega
 have h4:hh<=(cap:Int):=by omega
 have h5:0<=hh:=by omega
 rcases qO with⟨rfl,rfl⟩|⟨k,rfl⟩<;>rcases wQ with⟨rfl,rfl⟩|⟨k',rfl⟩<;>
  simp[Instr.sliceAt,Instr.slice,run_underlying ht,Instr.sliceBounds,Instr.sliceBound,asIntOf,sizeOf,typeInfo,hi,bV,h0,h1,h4,h5,e1,e2]<;>omega
theorem YD (r:R B E w0 N σ a w G) {t e:TypeId} {i:TypeInfo} {x:Operand} {lo hi':Option Operand} {mx:MO} {sz:Nat} {l hh:Int} {z:aj} (ho:o.op=.slice t x lo hi' none) (hN:∀n,o.dst=some n->n<N) (fU:bU x mx=true)
  (ht:P.underlying t=some (.slice e)) (hi:P.info? e=some i) (bV:i.size=sz) (fV:0<sz) {len:Nat}
  (qO:(lo=none/\l=0)\/∃y my,lo=some y/\bU y my=true/\(σ.ev my).dZ=some l) (wQ:(hi'=none/\hh=len)\/∃y my,hi'=some y/\bU y my=true/\(σ.ev my).dZ=some hh)
  (h0:0<=l) (h1:l<=hh) (h2:hh<=len)
  (hz:(∃n l0,σ.ev mx=.one (.sl n sz l0 len)/\(σ.h n).isSome=true/\z=.one (.sl n sz (l0+l.toNat) (hh - l).toNat))\/(∃xs,σ.ev mx=.one (.c (.list sz xs))/\len=xs.length/\z=.one (.c (.list sz ((xs.drop l.toNat).take (hh - l).toNat))))):
  o.wp P a w (Nx B E w0 N (σ.put o.dst z)) Q:=by
 obtain⟨x1,x2⟩:=r.ev fU;have RN:(lo.map a.eval=none/\l=0)\/∃k,lo.map a.eval=some (.int k l):=by
  rcases qO with⟨rfl,h⟩|⟨y,my,rfl,c1,c2⟩
  ·exact .inl ⟨rfl,h⟩
  ·obtain⟨k,hk⟩:=(r.ev c1).1.int c2;exact .inr ⟨k,by simp[hk]⟩
 have RB:(hi'.map a.eval=none/\hh=len)\/∃k,hi'.map a.eval=some (.int k hh):=by
  rcases wQ with⟨rfl,h⟩|⟨y,my,rfl,c1,c2⟩
  ·exact .inl ⟨rfl,h⟩
  ·obtain⟨k,hk⟩:=(r.ev c1).1.int c2;exact .inr ⟨k,by simp[hk]⟩
 rcases hz with⟨n,l0,e1,hs,rfl⟩|⟨xs,e1,rfl,rfl⟩
 ·rw[e1] at x1 x2;have gY:gE (G.g n) sz l0 len (a.eval x):=(x1.fu (by simp)).1 (LZ hs);rcases gY with⟨aR,hv,rfl,rfl⟩|⟨aR,a',hv,io,ha⟩
  ·have hr:=Ib (P:=P) (w:=w) (ya:=(G.g n).na) (len:=0) (cap:=(G.g n).cap) ht hi bV RN RB h0 h1 h2 (Nat.zero_le _);have gX:l.toNat=0:=by omega
   have G0:(hh - l).toNat=0:=by omega
   refine ji r (v:=.slice (G.g n).na 0 (G.g n).cap) ?_ (RA.fC rfl fun _=>.inl ⟨aR,rfl,by omega,by omega⟩) (fun m hm=>x2 m hm) hN;simp only[execOp,ho,hv,Option.map_none];simp only[gX,G0,Nat.zero_mul] at hr;have ha:(G.g n).na.map (fun x=>x.add 0)=(G.g n).na:=by
    cases (G.g n).na with
    |none=>rfl
    |some x=>simp[Addr.add]
   rw[ha] at hr;simp[hr]
  ·have hr:=Ib (P:=P) (w:=w) (ya:=a') (len:=len) (cap:=(G.g n).cap - l0) ht hi bV RN RB h0 h1 h2 (by omega);refine ji r (by simp only[execOp,ho,hv,Option.map_none];simp[hr];rfl) (RA.fC rfl fun _=>.inr ⟨aR,_,by rw[Nat.sub_sub],by omega,fun hc=>?_⟩) (fun m hm=>x2 m hm) hN;split
   ·rename_i cC;have:l0=0/\l.toNat=0:=by omega
    rw[ha (.inr this.1),this.1,this.2]
   ·rename_i cC;have cu:l0<(G.g n).cap:=by omega
    rw[ha (.inl cu)];simp only[Option.map_some,qz];rw[Nat.add_mul,Nat.add_assoc]
 ·rw[e1] at x1;obtain⟨pc,p1,p2,p3,p4⟩:=x1.c;cases pc with
  |int k n=>simp[PC.er] at p1
  |bool b=>simp[PC.er] at p1
  |list s' ya c py=>
   rw[PC.dV] at p1;injection p1 with p0 p1;subst p0;have hlen:xs.length=py.length:=by rw[<-p1];simp
   have hv:a.eval x=.slice ya xs.length c:=by rw[<-p2,hlen];rfl
   have io:xs.length<=c\/py=[]:=by
    cases p3 with
    |nil _ _ _ _=>exact .inr rfl
    |cons _ b oo _ _ g1 g2 g3 g4 g5 g6=>exact .inl (by rw[hlen];exact g2)
   have ng:xs.length<=c:=by
    rcases io with hc|hc
    ·exact hc
    ·rw[hlen,hc];exact Nat.zero_le _
   have hr:=Ib (P:=P) (w:=w) (ya:=ya) (len:=xs.length) (cap:=c) ht hi bV RN RB h0 h1 h2 ng;have alj:((py.drop l.toNat).take (hh - l).toNat).length=(hh - l).toNat:=by simp;omega
   let dC:PC:=.list s' (if c=l.toNat then ya else ya.map (·.add (l.toNat*s'))) (c - l.toNat) ((py.drop l.toNat).take (hh - l).toNat)
   have fO:Good w dC/\∀b,aZ b dC->G.Im b:=by
    by_cases DN:(py.drop l.toNat).take (hh - l).toNat=[]
    ·constructor
     ·show Good w (.list _ _ _ _);rw[DN];exact .nil _ _ _ fV
     ·intro b hb;rw[aZ.kZ,DN] at hb;rcases hb with⟨hb,_⟩|⟨k,j,c,⟨e,he,_⟩,_⟩
      ·exact absurd rfl hb
      ·simp at he
    ·cases p3 with
     |nil _ _ _ _=>simp at DN
     |cons _ b oo _ _ g1 g2 g3 g4 g5 g6=>
      have eS:0<(hh - l).toNat:=by
       rcases Nat.eq_zero_or_pos (hh - l).toNat with hz|hz
       ·rw[hz] at DN;simp at DN
       ·exact hz
      have aD:c≠l.toNat:=by omega
      have bi:dC=.list s' (some (ad b (oo+l.toNat*s'))) (c - l.toNat) ((py.drop l.toNat).take (hh - l).toNat):=by
       show PC.list _ _ _ _=_;rw[if_neg aD];simp[qz]
      rw[bi];constructor
      ·refine .cons _ _ _ _ _ DN (by omega) g3 (fun e he=>g4 e (List.mem_of_mem_drop (List.mem_of_mem_take he))) (fun k j c' hk=>?_) (fun k j c' hk=>g6 _ _ _ (qC hk).1);have:=g5 _ _ _ (qC hk).1;rw[Nat.add_mul] at this;rw[<-this];congr 2;omega
      ·intro x hx;rw[aZ.kZ] at hx;rcases hx with⟨_,o',fE⟩|⟨k,j,c',hk,hx⟩
       ·injection fE with fE;rw[<-(lz fE).1];exact p4 b (.here _ _ _ _ g1)
       ·exact p4 x (.there _ _ _ _ _ _ c' (qC hk).1 hx)
   refine ji r (v:=dC.val) ?_ (RA.fC (PC.jP _) ⟨dC,?_,rfl,fO.1,fO.2⟩) (fun q hq=>absurd hq qj) hN
   ·simp only[execOp,ho,hv,Option.map_none];simp[hr,dC,PC.val,alj]
   ·show PC.er (.list _ _ _ _)=_;rw[PC.dV,List.map_take,List.map_drop,p1]
theorem Ah {b x:Nat} {v:Value} {cur:Array Value} {e:TypeId} (hg:w.heap[b]? =some (.cells cur e (0,0))) (hc:w.cell? (ad b x)=some v):x<cur.size:=by
 have h2:w.cell? (ad b x)=cur[x]? :=by simp[World.cell?,ad,hg]
 rw[h2] at hc;exact(Array.getElem?_eq_some_iff.1 hc).1
theorem ajr (r:R B E w0 N σ a w G) {t:TypeId} {i:TypeInfo} {x y:Operand} {mx my:MO} {sz n k aB off:Nat} {ag:Bool} {vs cs:List ah} (ho:o.op=.store t x y) (hd:o.dst=none) (fU:bU x mx=true) (fK:bU y my=true)
  (hi:P.info? t=some i) (bV:i.size=sz) (fV:0<sz) (hp:σ.ev mx=.one (.ptr n k aB off)) (hv:(σ.ev my).cells?=some (ag,vs)) (hl:vs.length=sz) (hn:σ.h n=some (.box cs)) (hk:k=0) (f0:off+sz<=cs.length):
  o.wp P a w (Nx B E w0 N (σ.eE n (.box (dq cs off vs)))) Q:=by
 obtain⟨x1,_⟩:=r.ev fU;obtain⟨y1,y2⟩:=r.ev fK;rw[hp] at x1;subst hk;obtain⟨p1,p2⟩:=(x1.fu (by simp)).1 (by rw[hn];simp);obtain⟨q1,⟨cur,et,q2⟩,q3⟩:=r.hr.box n cs hn;have cC:=y1.cells hv;have Hk:(a.eval y).cells.toList.length=sz:=by rw[cC.1,hl]
 have AR:(G.g n).o+off+(a.eval y).cells.toList.length<=cur.size:=by
  obtain⟨v,v1,_⟩:=q3 (off+sz - 1) (cs[off+sz - 1]'(by omega)) (List.getElem?_eq_getElem _);have:=Ah q2 v1;omega
 have r':=r.atH hn cC (fun c hc m hm=>y2 m (aj.yx hv hc hm)) (by omega) q2 AR;have bE:=Nd (P:=P) (w:=w) (t:=t) (i:=i) (b:=(G.g n).b) (off:=(G.g n).o+off) (v:=a.eval y) (cur:=cur) (e:=et) hi (by rw[bV,<-Hk];simp) q2 (by simpa using AR) (fun u hu=>by
  obtain⟨j,hj,G6⟩:=List.getElem_of_mem hu;have A5:j<vs.length:=by omega
  have:=(cC.2 j _ u (List.getElem?_eq_getElem A5) (by rw[List.getElem?_eq_getElem hj,G6])).1;exact this)
 refine Og (w':=gb w (G.g n).b ((G.g n).o+off) (a.eval y).cells.toList cur) ?_ ⟨G,?_⟩
 ·simp only[execOp,ho,p2,Nat.zero_mul,Nat.add_zero];simp[Instr.storeAt,Instr.sureAddr,bE]
 ·rw[hd];exact r'
theorem ajt (r:R B E w0 N σ a w G) {t:TypeId} {i:TypeInfo} {x y:Operand} {mx my:MO} {sz n k off:Nat} {ag gr:Bool} {m:Mode} {rs:Nat} {xs:List (List C)} {el:List C} {vs:List ah} {σ2:St} (ho:o.op=.store t x y) (hd:o.dst=none) (fU:bU x mx=true) (fK:bU y my=true)
  (hi:P.info? t=some i) (bV:i.size=sz) (fV:0<sz) (hp:σ.ev mx=.one (.ptr n k rs off)) (hv:(σ.ev my).cells?=some (ag,vs)) (hl:vs.length=sz) (hn:σ.h n=some (.row gr m rs xs)) (hk:xs[k]? =some el)
  (hx:oA σ n gr m rs xs k off el vs=some σ2):o.wp P a w (Nx B E w0 N σ2) Q:=by
 obtain⟨x1,_⟩:=r.ev fU;obtain⟨y1,y2⟩:=r.ev fK;rw[hp] at x1;obtain⟨p1,p2⟩:=(x1.fu (by simp)).1 (by rw[hn];simp);have hr:=r.hr.row n gr m rs xs hn;obtain⟨⟨cur,et,q2⟩,l2,l3⟩:=hr.eK p1;have cC:=y1.cells hv;have Hk:(a.eval y).cells.toList.length=sz:=by rw[cC.1,hl]
 have nY:off+vs.length<=el.length:=by
  unfold oA at hx;split at hx
  ·cases hx
  ·rename_i ii hs;exact(Fh hs).1
 have iY:∃pe,(G.g n).px[k]? =some pe/\pe.map PC.er=el:=by
  have bL:=hk;rw[hr.er,List.getElem?_map] at bL;cases hq:(G.g n).px[k]? with
  |none=>rw[hq] at bL;cases bL
  |some pe=>rw[hq] at bL;simp at bL;exact⟨pe,rfl,bL⟩
 obtain⟨pe,sx,vc⟩:=iY;have wY:pe.length=el.length:=by rw[<-vc];simp
 have AR:(G.g n).o+k*rs+off+(a.eval y).cells.toList.length<=cur.size:=by
  have hc:=l2.2.1 k (off+sz - 1) (pe[off+sz - 1]'(by omega)) ⟨pe,sx,List.getElem?_eq_getElem _⟩;have:=Ah q2 hc;omega
 obtain⟨G',r'⟩:=r.oA hn p1 hk cC (fun c hc m hm=>y2 m (aj.yx hv hc hm)) hx q2 AR;have bE:=Nd (P:=P) (w:=w) (t:=t) (i:=i) (b:=(G.g n).b) (off:=(G.g n).o+k*rs+off) (v:=a.eval y) (cur:=cur) (e:=et) hi (by rw[bV,<-Hk];simp) q2 (by simpa using AR) (fun u hu=>by
  obtain⟨j,hj,G6⟩:=List.getElem_of_mem hu;have A5:j<vs.length:=by omega
  exact(cC.2 j _ u (List.getElem?_eq_getElem A5) (by rw[List.getElem?_eq_getElem hj,G6])).1)
 refine Og (w':=gb w (G.g n).b ((G.g n).o+k*rs+off) (a.eval y).cells.toList cur) ?_ ⟨G',?_⟩
 ·simp only[execOp,ho,p2];simp[Instr.storeAt,Instr.sureAddr,bE]
 ·rw[hd];exact r'
def Ai (places:List (Nat×Nat)):List (Nat×Operand)->List (Nat×Nat×MO)->Bool
 |[],[]=>true
 |(i,x)::ps,(off,sz,m)::ms=>(places[i]? ==some (off,sz))&&bU x m&&Ai places ps ms
 |_,_=>false
theorem YO (r:R B E w0 N σ a w G) (places:List (Nat×Nat)):∀(ps:List (Nat×Operand)) (ms:List (Nat×Nat×MO)) (zs cs:List ah) (cur:Array Value),Ai places ps ms=true->
  dj w G σ.h zs cur.toList->(∀c∈zs,∀m,c.ref m->σ.used m=true)->rF σ.ev zs ms=some cs->
  ∃jB,Instr.fill (places.toArray[·]?) cur (ps.map fun p=>(p.1,a.eval p.2))=some jB/\dj w G σ.h cs jB.toList/\∀c∈cs,∀m,c.ref m->σ.used m=true
 |[],[],zs,cs,cur,_,hz,hr,hx=>by
  simp only[rF] at hx;injection hx with hx;subst hx;exact⟨cur,rfl,hz,hr⟩
 |(i,x)::ps,(off,sz,m)::ms,zs,cs,cur,hc,hz,hr,hx=>by
  simp only[Ai,Bool.and_eq_true,beq_iff_eq] at hc;obtain⟨⟨c1,c2⟩,c3⟩:=hc;simp only[rF] at hx;split at hx
  ·rename_i ag vs hv;split at hx
   ·rename_i cV;obtain⟨h1,h2⟩:=cV;obtain⟨y1,y2⟩:=r.ev c2;have cC:=y1.cells hv;have oW:(a.eval x).cells.size=sz:=by rw[<-Array.length_toList,cC.1,h1]
    have hzl:cur.size=zs.length:=by rw[<-Array.length_toList,hz.1]
    have Bb:dj w G σ.h (dq zs off vs) (dq cur.toList off (a.eval x).cells.toList):=by
     have Sd:(a.eval x).cells.toList.length=vs.length:=cC.1;refine⟨?_,fun j c u hj hu=>?_⟩
     ·rw[ND (by rw[Sd,hz.1];omega),ND (by omega),hz.1]
     ·rw[zM (by omega)] at hj;rw[zM (by rw[Sd,hz.1];omega),Sd] at hu;by_cases dw:off<=j/\j<off+vs.length
      ·rw[if_pos dw] at hj hu;exact cC.2 _ c u hj hu
      ·rw[if_neg dw] at hj hu;exact hz.2 _ c u hj hu
    obtain⟨jB,e1,e2,e3⟩:=YO r places ps ms (dq zs off vs) cs (dq cur.toList off (a.eval x).cells.toList).toArray c3 Bb (fun c hc q hq=>by
     simp only[dq,List.mem_append] at hc;rcases hc with(hc|hc)|hc
     ·exact hr c (List.mem_of_mem_take hc) q hq
     ·exact y2 q (aj.yx hv hc hq)
     ·exact hr c (List.mem_of_mem_drop hc) q hq) hx
    refine⟨jB,?_,e2,e3⟩;simp only[List.getElem?_toArray] at e1;simp only[List.map_cons,Instr.fill,List.getElem?_toArray,c1];rw[if_neg (by simp;omega),ZY _ _ _ (by omega)];exact e1
   ·cases hx
  ·cases hx
 |[],_::_,_,_,_,hc,_,_,_=>by simp[Ai] at hc
 |(_,_)::_,[],_,_,_,hc,_,_,_=>by simp[Ai] at hc
theorem aiX (r:R B E w0 N σ a w G) {t:TypeId} {parts:Array (Nat×Operand)} {ms:List (Nat×Nat×MO)} {zs cs:List ah} {it:TypeInfo} {z:Value} {yE:Array Field} {places:List (Nat×Nat)} (ho:o.op=.build t parts) (hN:∀n,o.dst=some n->n<N)
  (yP:P.info? t=some it) (hz:it.zero=some z) (hu:P.underlying t=some (.struct yE)) (eZ:yE.toList.mapM (fun f=>(P.info? f.type).map fun i=>(f.offset,i.size))=some places)
  (hzc:uK z.cells.toList zs=true) (hc:Ai places parts.toList ms=true) (hx:rF σ.ev zs ms=some cs):o.wp P a w (Nx B E w0 N (σ.put o.dst (.agg cs))) Q:=by
 obtain⟨z1,z2⟩:=Kw (w:=w) (G:=G) (h:=σ.h) hzc;obtain⟨jB,e1,e2,e3⟩:=YO r places parts.toList ms zs cs z.cells hc z1 (fun c hc m hm=>absurd hm (z2 c hc m)) hx;refine ji r (v:=.agg jB) ?_ ⟨jB.toList,by simp,e2⟩ (fun m hm=>by obtain⟨c,hc,hm⟩:=hm;exact e3 c hc m hm) hN;have hb:P.built t (parts.map fun p=>(p.1,a.eval p.2)).toList=some jB:=by
  unfold Program.built;simp only[yP,hu,hz,eZ,Array.toList_map];exact e1
 have bE:=run_build (P:=P) w t _ jB hb;simp only[execOp,ho];simp[bE]
theorem yo {α:Type} {xs:List (List α)} {l k j:Nat} {c:α} (h:At (xs.drop l) k j c):At xs (l+k) j c:=by
 obtain⟨e,he,hj⟩:=h;rw[List.getElem?_drop] at he;exact⟨e,he,hj⟩
theorem asA {b l:Nat} {px:List (List PC)} (h:bh b (px.drop l)):bh b px:=by
 obtain⟨k,j,c,h1,h2⟩:=h;exact⟨_,_,_,yo h1,h2⟩
theorem iO.drop {px:List (List PC)} (h:iO px) (l:Nat):iO (px.drop l):=
 ⟨fun k j c hk=>h.1 _ _ _ (yo hk),fun k j c k' j' c' b hk bL aD=>h.2 _ _ _ _ _ _ b (yo hk) (yo bL) (fun e=>aD (by injection e with e1 e2;rw[show k=k' by omega,e2]))⟩
end
section
variable {B:Nat} {E:Ex} {w0 w w':World} {G G':Gh} {h h':Nat->Option aq} {used used':Nat->Bool} {tk:List PC} {N:Nat}
variable {P:Program} {o:Oper} {a:Act} {σ σ':St} {Q:Exit->Act->World->Prop}
theorem HR.al3 (H:HR B E w G h used []) {n sz cap:Nat} {x:Option Addr} {xs:List (List PC)} {m:Mode} (hg:Good w (.list sz x cap xs)) (hs:Sep (.list sz x cap xs)) (ht:CS w (.list sz x cap xs))
  (hl:∀b,jR b (.list sz x cap xs)->oI G h b/\d9 w b/\B<=b) (hn:used n=false):
  ∃G',HR B E w G' (az h n (some (.row m.t7 m sz (xs.map fun e=>e.map PC.er)))) (az used n true) []/\
   bm w G h (fun n=>used n=true) w G' (az h n (some (.row m.t7 m sz (xs.map fun e=>e.map PC.er))))/\
   RC w G' (az h n (some (.row m.t7 m sz (xs.map fun e=>e.map PC.er)))) (.sl n sz 0 xs.length) (PC.val (.list sz x cap xs))/\
   ∀b,oI G h b->¬jR b (.list sz x cap xs)->oI G' (az h n (some (.row m.t7 m sz (xs.map fun e=>e.map PC.er)))) b:=by
 obtain⟨eS,io,tP⟩:=ht;have hF:∀b,bh b xs->aZ b (.list sz x cap xs):=fun b ⟨k,j,c,h1,h2⟩=>.there _ _ _ _ k j c h1 h2;have jY:iO xs:=by cases hs with|list _ _ _ _ h1 h2 h3=>exact⟨h1,h3⟩
 let S:Nat->Prop:=fun b=>m≠ .live/\bh b xs;have H1:HR B E w ⟨fun b=>G.Im b\/S b,G.g⟩ h used []:=H.vn S (fun b hb=>(hl b (.inl (hF b hb.2))).2.1.lt)
  (fun b hb q hq kw he=>(hl b (.inl (hF b hb.2))).1.2.1 q hq kw he.symm) (fun b hb q gr sz xs hq=>(hl b (.inl (hF b hb.2))).1.2.2 q gr _ sz xs hq) (fun b hb=>.inl (hl b (.inl (hF b hb.2))).2.2)
 obtain⟨p,Lz,fw,oU,A9,R3,alA⟩:∃p:PB,(p.nl=true->xs=[]/\(true=true->p.cap=0))/\p.px=xs/\
   (p.nl=false->oI ⟨fun b=>G.Im b\/S b,G.g⟩ h p.b/\d9 w p.b/\B<=p.b/\∀b,bh b xs->b≠p.b)/\
   (p.nl=false->nG w p.b p.o sz xs/\xs.length<=p.cap/\FT w p sz)/\gE p sz 0 xs.length (PC.val (.list sz x cap xs))/\(p.nl=false->jR p.b (.list sz x cap xs)):=by
  by_cases wL:cap=0
  ·subst wL;have hx:xs=[]:=List.eq_nil_of_length_eq_zero (by omega);subst hx;exact⟨⟨true,0,0,0,[],x⟩,fun _=>⟨rfl,fun _=>rfl⟩,rfl,(fun hf=>by cases hf),(fun hf=>by cases hf),.inl ⟨rfl,rfl,rfl,rfl⟩,(fun hf=>by cases hf)⟩
  ·obtain⟨b,o,cur,e,rfl,hh,bV,wV,cm⟩:=tP.resolve_left wL;have hT:jR b (.list sz (some (ad b o)) cap xs):=.inr ⟨_,_,_,_,rfl,wL⟩;obtain⟨l1,l2,l3⟩:=hl b hT;have aD:∀b',bh b' xs->b'≠b:=fun b' ⟨k,j,c,h1,h2⟩ he=>cm k j c h1 (he▸h2);refine⟨⟨false,b,o,cap,xs,none⟩,(fun hf=>by cases hf),rfl,fun _=>⟨⟨fun hi=>hi.elim l1.1 (fun hS=>aD b hS.2 rfl),l1.2⟩,l2,l3,aD⟩,fun _=>⟨?_,io,wV,cur,e,hh,bV⟩,.inr ⟨rfl,some (ad b o),by simp[PC.val],by simpa using io,fun _=>by simp⟩,fun _=>hT⟩;cases hg with
   |nil _ _ _ _=>exact⟨by simp,by rintro k j c ⟨e,he,_⟩;simp at he,by rintro k j c ⟨e,he,_⟩;simp at he⟩
   |cons _ _ _ _ _ h1 h2 h3 h4 h5 h6=>exact⟨h4,h5,h6⟩
 subst fw;have eH:uE B E w ⟨fun b=>G.Im b\/S b,G.g⟩ m.t7 m sz (p.px.map fun e=>e.map PC.er) p:=by
  refine⟨eS,rfl,fun h=>⟨(Lz h).1,fun _=>(Lz h).2 rfl⟩,fun hf=>⟨(oU hf).2.1,(A9 hf).1,(A9 hf).2.1⟩,fun hf _=>(A9 hf).2.2,?_,fun h hm=>by rw[hm] at h;cases h⟩;cases hm:m with
  |aJ=>exact fun b hb=>.inr ⟨by simp[hm],hb⟩
  |aN=>exact⟨fun b hb=>⟨.inr ⟨by simp[hm],hb⟩,(hl b (.inl (hF b hb))).2.1,.inl (hl b (.inl (hF b hb))).2.2⟩,jY⟩
  |live=>exact⟨fun b hb=>⟨fun hi=>hi.elim (hl b (.inl (hF b hb))).1.1 (fun hS=>hS.1 hm),(hl b (.inl (hF b hb))).2.1,.inl (hl b (.inl (hF b hb))).2.2⟩,jY⟩
 have Hn:=H1.insert (w':=w) (n:=n) (blk:=.row m.t7 m sz (p.px.map fun e=>e.map PC.er)) (p:=p) hn (fun _ _=>rfl) (Nat.le_refl _)
  (fun hf=>⟨(oU hf).1,.inl (oU hf).2.2.1,(oU hf).2.1.lt⟩) (fun cs c q hb=>by cases hb) (by exact eH)
  (fun gr m' aF av hb hm n' bo jI jd gD h0 iE b cT=>(hl b (.inl (hF b cT))).1.2.2 n' bo jI jd gD h0)
  (fun gr aF av hb b cT=>⟨fun hf=>(oU hf).2.2.2 b cT,fun n' h0 gX he=>(hl b (.inl (hF b cT))).1.2.1 n' h0 gX he.symm⟩)
  (fun gr m' aF av hb hm i pc b hi=>by simp at hi)
 refine⟨_,Hn,bm.trans (u2:=fun n=>used n=true) (fun _ h=>h) (bm.vn S _) (bm.insert H1 hn (fun _ _=>rfl)),fun _=>by simpa[bR] using R3,fun b hb Rh=>?_⟩;refine⟨fun hi=>hi.elim hb.1 (fun hS=>Rh (.inl (hF b hS.2))),fun q hq kw he=>?_,fun q gr mo aF av hq cT=>?_⟩
 ·by_cases gM:q=n
  ·subst gM;simp only[bR] at kw he;exact Rh (he▸alA kw)
  ·rw[cN _ _ _ _ gM] at hq;simp only[cN _ _ _ _ gM] at kw he;exact hb.2.1 q hq kw he
 ·by_cases gM:q=n
  ·subst gM;simp only[bR] at cT;exact Rh (.inl (hF b cT))
  ·rw[cN _ _ _ _ gM] at hq;simp only[cN _ _ _ _ gM] at cT;exact hb.2.2 q gr mo aF av hq cT
structure v7 (B:Nat) (w:World) (G:Gh) (h:Nat->Option aq) (ps:List PC):Prop where
 eG:∀pc∈ps,Good w pc/\Sep pc/\CS w pc
 lone:∀pc∈ps,∀b,jR b pc->oI G h b/\d9 w b/\B<=b
 oN:ps.Pairwise fun p q=>∀b,jR b p->¬jR b q
theorem v7.tail {p:PC} {ps:List PC} (hi:v7 B w G h (p::ps)) (hL:∀b,oI G h b->¬jR b p->oI G' h' b):v7 B w G' h' ps:=
 ⟨fun q hq=>hi.eG q (by simp[hq]),fun q hq b hb=>⟨hL b (hi.lone q (by simp[hq]) b hb).1 (fun hp=>(List.pairwise_cons.1 hi.oN).1 q hq b hp hb),(hi.lone q (by simp[hq]) b hb).2⟩,(List.pairwise_cons.1 hi.oN).2⟩
theorem HR.imp {m:Mode}:∀{ps qs:List PC} {σ σ1:St} {G:Gh} {nm gy:Nat} {l:List ah},HR B E w G σ.h σ.used []->σ.imp m nm (ps.map PC.er)=some (l,gy,σ1)->v7 B w G σ.h (ps++qs)->
  ∃G',HR B E w G' σ1.h σ1.used []/\bm w G σ.h (fun n=>σ.used n=true) w G' σ1.h/\dj w G' σ1.h l (ps.map PC.val)/\(∀c∈l,∀q,c.ref q->σ1.used q=true)/\σ1.env=σ.env/\
   (∀q,σ.used q=true->σ1.used q=true)/\v7 B w G' σ1.h qs
 |[],qs,σ,σ1,G,nm,gy,l,H,hx,hi=>by
  simp only[List.map_nil,St.imp] at hx;injection hx with hx;injection hx with h1 h2;injection h2 with h2 h3;subst h1 h3;exact⟨G,H,bm.refl _ _ _ _,⟨rfl,by simp⟩,by simp,rfl,fun _ h=>h,by simpa using hi⟩
 |p::ps,qs,σ,σ2,G,nm,gy,l,H,hx,hi=>by
  have fk:∀(x:C) (hx:(match σ.imp m nm (ps.map PC.er) with|some (l,gy,σ2)=>some (ah.c x::l,gy,σ2)|none=>none)=some (l,gy,σ2)) (hp:p.er=x) (cm:∀b,¬jR b p) (hg:Good w p),
    ∃G',HR B E w G' σ2.h σ2.used []/\bm w G σ.h (fun n=>σ.used n=true) w G' σ2.h/\dj w G' σ2.h l ((p::ps).map PC.val)/\(∀c∈l,∀q,c.ref q->σ2.used q=true)/\σ2.env=σ.env/\
     (∀q,σ.used q=true->σ2.used q=true)/\v7 B w G' σ2.h qs:=by
   intro x hx hp cm hg;split at hx
   ·rename_i l' HS gN e1;injection hx with hx;injection hx with h1 h2;injection h2 with h2 h3;subst h1 h2 h3;obtain⟨G',b1,b2,b3,b4,b5,b6,b7⟩:=HR.imp H e1 (hi.tail (fun b hb _=>hb));refine⟨G',b1,b2,⟨by simp[b3.1],fun j c u hj hu=>?_⟩,fun c hc q hq=>?_,b5,b6,b7⟩
    ·cases j with
     |zero=>
      simp at hj hu;subst hj;subst hu;exact⟨PC.jP p,p,hp,rfl,hg,fun b hb=>absurd (.inl hb) (cm b)⟩
     |succ j=>exact b3.2 j c u (by simpa using hj) (by simpa using hu)
    ·cases hc with
     |head=>exact absurd hq id
     |tail _ hc=>exact b4 c hc q hq
   ·cases hx
  cases p with
  |int k n=>exact fk (.int k n) (by simp only[List.map_cons,St.imp,PC.er] at hx;exact hx) (by simp[PC.er]) (fun b hb=>by rcases hb with hb|⟨_,_,_,_,hb,_⟩<;>cases hb) (.int _ _)
  |bool b=>exact fk (.bool b) (by simp only[List.map_cons,St.imp,PC.er] at hx;exact hx) (by simp[PC.er]) (fun b hb=>by rcases hb with hb|⟨_,_,_,_,hb,_⟩<;>cases hb) (.bool _)
  |list sz x cap xs=>
   simp only[List.map_cons,PC.dV,St.imp] at hx;split at hx
   ·rename_i σ1 e1;split at hx
    ·rename_i l' HS gN e2;injection hx with hx;injection hx with h1 h2;injection h2 with h2 h3;subst h1 h2 h3;obtain⟨hn,rfl⟩:=kx e1;obtain⟨g1,g2,g3⟩:=hi.eG (.list sz x cap xs) (by simp);obtain⟨G1,a1,a2,a3,a4⟩:=H.al3 (m:=m) g1 g2 g3 (hi.lone (.list sz x cap xs) (by simp)) hn;obtain⟨G',b1,b2,b3,b4,b5,b6,b7⟩:=HR.imp a1 e2 (hi.tail a4);have DY:∀q,σ.used q=true->az σ.used nm true q=true:=fun q hq=>oF _ _ hq;refine⟨G',b1,bm.trans DY a2 b2,⟨by simp[b3.1],fun j c u hj hu=>?_⟩,fun c hc q hq=>?_,b5,fun q hq=>b6 q (DY q hq),b7⟩
     ·cases j with
      |zero=>
       simp at hj hu;subst hj;subst hu;exact⟨rfl,a3.fW b2 fun q hq=>by have fc:q=nm:=hq;subst fc;exact bR _ _ _⟩
      |succ j=>exact b3.2 j c u (by simpa using hj) (by simpa using hu)
     ·cases hc with
      |head=>have fc:q=nm:=hq;subst fc;exact b6 _ (bR _ _ _)
      |tail _ hc=>exact b4 c hc q hq
    ·cases hx
   ·cases hx
theorem HR.jG {m:Mode}:∀{bt:List (K×List PC)} {σ σ1:St} {G:Gh} {nm:Nat} {ls:List (Bool×List ah)},HR B E w G σ.h σ.used []->σ.jG m nm (bt.map fun p=>(p.1,p.2.map PC.er))=some (ls,σ1)->
  (∀p∈bt,p.1≠ .ptr/\(p.1=.one->p.2.length=1))->v7 B w G σ.h (bt.flatMap (·.2))->
  ∃G',HR B E w G' σ1.h σ1.used []/\bm w G σ.h (fun n=>σ.used n=true) w G' σ1.h/\ls.length=bt.length/\
   (∀(j:Nat) (x:Bool×List ah) (p:K×List PC),ls[j]? =some x->bt[j]? =some p->RV w G' σ1.h x.1 x.2 (sW p))/\(∀x∈ls,∀c∈x.2,∀q,c.ref q->σ1.used q=true)/\σ1.env=σ.env/\
   (∀q,σ.used q=true->σ1.used q=true)
 |[],σ,σ1,G,nm,ls,H,hx,hk,hi=>by
  simp only[List.map_nil,St.jG] at hx;injection hx with hx;injection hx with h1 h2;subst h1 h2;exact⟨G,H,bm.refl _ _ _ _,rfl,by simp,by simp,rfl,fun _ h=>h⟩
 |(k,ps)::bt,σ,σ2,G,nm,ls,H,hx,hk,hi=>by
  have RH:=hk (k,ps) (by simp);have mg:(match σ.imp m nm (ps.map PC.er) with
   |some (l,gy,σ1)=>match σ1.jG m gy (bt.map fun p=>(p.1,p.2.map PC.er)) with
    |some (ls,σ2)=>some ((decide (k=.agg),l)::ls,σ2)
    |none=>none
   |none=>none)=some (ls,σ2):=by
   cases k with
   |ptr=>exact absurd rfl RH.1
   |one=>simp[St.jG] at hx;exact hx
   |agg=>simp[St.jG] at hx;exact hx
  clear hx;split at mg
  ·rename_i l gy σ1 e1;split at mg
   ·rename_i HL gN e2;injection mg with hx;injection hx with h1 h2;subst h1 h2;obtain⟨G1,a1,a2,a3,a4,a5,a6,a7⟩:=HR.imp H e1 (by simpa using hi);obtain⟨G',b1,b2,b3,b4,b5,b6,b7⟩:=HR.jG a1 e2 (fun p hp=>hk p (by simp[hp])) a7;refine⟨G',b1,bm.trans a6 a2 b2,by simp[b3],fun j x p hj hp=>?_,fun x hx c hc q hq=>?_,b6.trans a5,fun q hq=>b7 q (a6 q hq)⟩
    ·cases j with
     |zero=>
      simp at hj hp;subst hj;subst hp;have cC:=dj.fW b2 (fun c hc q hq=>a4 c hc q hq) a3;cases k with
      |ptr=>exact absurd rfl RH.1
      |agg=>exact⟨ps.map PC.val,rfl,cC⟩
      |one=>
       have h1:=RH.2 rfl;match ps,h1 with
       |[p],_=>exact cC
     |succ j=>exact b4 j x p (by simpa using hj) (by simpa using hp)
    ·cases hx with
     |head=>exact b7 q (a4 c hc q hq)
     |tail _ hx=>exact b5 x hx c hc q hq
   ·cases mg
  ·cases mg
theorem RA.mr {ls:List (Bool×List ah)} {bt:List (K×List PC)} (hlen:ls.length=bt.length) (hk:∀p∈bt,p.1≠ .ptr/\(p.1=.one->p.2.length=1))
  (hv:∀(j:Nat) (x:Bool×List ah) (p:K×List PC),ls[j]? =some x->bt[j]? =some p->RV w G h x.1 x.2 (sW p)):RA w G h (mr ls) (xG bt):=by
 match ls,bt,hlen with
 |[],[],_=>exact⟨[],rfl,rfl,by simp⟩
 |[(ag,cs)],[p],_=>
  have h0:=hv 0 (ag,cs) p rfl rfl;cases ag with
  |true=>exact h0
  |false=>
   have cC:dj w G h cs [sW p]:=h0;match cs,cC.1 with
   |[c],_=>exact .inr h0
 |x::y::ls,p::q::bt,hl=>
  refine⟨(p::q::bt).map sW,rfl,by simpa using hl.symm,fun j x' u hj hu=>?_⟩;rw[List.getElem?_map] at hu;cases hp:(p::q::bt)[j]? with
  |none=>rw[hp] at hu;cases hu
  |some p'=>rw[hp] at hu;simp at hu;subst hu;exact hv j x' p' hj hp
def I3 (P:Program) (T:aQ):Prop:=∀f M,aQ.find T.pure f=some M->dh P f M
def bS (P:Program) (f:FuncId):Bool:=
 match P.funcs[f]? with
 |some fn=>fn.body.isSome&&(fn.name != "runtime.NumGoroutine")
 |none=>false
theorem BT {f:FuncId} (hc:bS P f=true) (args:Array Value):(callFunc f args).run P w=.ok (.enter f args) w:=by
 unfold bS at hc;split at hc
 ·rename_i fn hf;simp only[Bool.and_eq_true,bne_iff_ne,ne_eq] at hc;obtain⟨h1,h2⟩:=hc;cases hb:fn.body with
  |none=>rw[hb] at h1;cases h1
  |some c=>simp[callFunc,hf,h2,hb]
 ·cases hc
theorem Fr.call (F:Fr B E w0 w) (F':Fr w.heap.size Ex.no w w'):Fr B E w0 w':=
 F.grow (fun b hb=>F'.block b hb id) F'.size F'.os F'.tape F'.output
theorem ai7 (r:R B E w0 N σ a w G) {T:aQ} (hT:I3 P T) {m:Mode} {f:FuncId} {as:List aj} {vals:List Value} {σ1:St} (hN:∀n,o.dst=some n->n<N)
  (bE:(execOp a.eval o).run P w=.ok (.enter f vals.toArray) w) (hl:vals.length=as.length)
  (nT:∀(j:Nat) (x:aj) (v:Value),as[j]? =some x->vals[j]? =some v->RA w G σ.h x v)
  (hx:wz T m o.dst f as σ=some σ1):o.wp P a w (Nx B E w0 N σ1) Q:=by
 unfold wz at hx;split at hx
 ·rename_i ds jl;split at hx
  ·rename_i M hM;split at hx
   ·rename_i rs oV;split at hx
    ·rename_i ls σ2 wR;injection hx with hx;subst hx;have DE:=r.hr.lm jl hl nT;unfold Oper.wp;rw[bE];refine(hT f M hM ds rs oV w vals DE).mono fun e w' ⟨bt,p1,p2,p3,p4,p5⟩=>?_;subst p2;have jC:∀b,b<w.heap.size->w'.heap[b]? =w.heap[b]? :=fun b hb=>p5.block b hb id;have H':=r.hr.grow jC p5.size;have dw:v7 B w' G σ.h (bt.flatMap (·.2)):=by
      refine⟨p4.eG,fun pc bi b hb=>?_,?_⟩
      ·obtain⟨n1,n2⟩:=p4.new pc bi b hb;refine⟨⟨fun hi=>?_,fun q hq kw he=>?_,fun q gr mo sz xs hq cT=>?_⟩,n2,Nat.le_trans r.fr.size n1⟩
       ·have:=r.hr.gH b hi;omega
       ·have:=(r.hr.own q hq kw).2.2;omega
       ·have:=r.hr.po hq cT;omega
      ·rw[List.pairwise_iff_getElem];intro i j hi hj iq b hb;exact p4.oN i j _ _ b (by omega) (List.getElem?_eq_getElem hi) (List.getElem?_eq_getElem hj) hb
     rw[<-p1] at wR;obtain⟨G',b1,b2,b3,b4,b5,b6,b7⟩:=HR.jG H' wR p3 dw;have K:bm w G σ.h (fun n=>σ.used n=true) w' G' σ2.h:=bm.trans (fun _ h=>h) (bm.world (fun b hb=>jC b (r.hr.gH b hb)) _) b2;have r2:R B E w0 N σ2 a w' G':=r.step b6 b7 K b1 (r.fr.call p5);refine⟨G',r2.put (RA.mr b3 p3 b4) ?_ hN⟩;intro q hq;match ls,hq with
     |[],hq=>obtain⟨x,hx,_⟩:=hq;simp at hx
     |[(true,cs)],hq=>obtain⟨c,hc,hq⟩:=hq;exact b5 (true,cs) (by simp) c hc q hq
     |[(false,[c])],hq=>exact b5 (false,[c]) (by simp) c (by simp) q hq
     |[(false,[])],hq=>exact absurd hq id
     |[(false,_::_::_)],hq=>exact absurd hq id
     |x::y::ls,hq=>obtain⟨x',mg,c,hc,hq⟩:=hq;exact b5 x' mg c hc q hq
    ·cases hx
   ·cases hx
  ·cases hx
 ·cases hx
theorem asv {ls:List (Bool×List ah)} {q:Nat} (cm:∀x∈ls,∀c∈x.2,¬c.ref q):¬(mr ls).ref q:=by
 intro hq;match ls,hq with
 |[],hq=>obtain⟨x,hx,_⟩:=hq;simp at hx
 |[(true,cs)],hq=>obtain⟨c,hc,hq⟩:=hq;exact cm (true,cs) (by simp) c hc hq
 |[(false,[c])],hq=>exact cm (false,[c]) (by simp) c (by simp) hq
 |[(false,[])],hq=>exact hq
 |[(false,_::_::_)],hq=>exact hq
 |x::y::ls,hq=>obtain⟨x',mg,c,hc,hq⟩:=hq;exact cm x' mg c hc hq
def iC:List Operand->List MO->Bool
 |[],[]=>true
 |x::xs,m::ms=>bU x m&&iC xs ms
 |_,_=>false
theorem R.Az (r:R B E w0 N σ a w G):∀{xs:List Operand} {ms:List MO},iC xs ms=true->xs.length=ms.length/\
  ∀(j:Nat) (x:aj) (v:Value),(ms.map σ.ev)[j]? =some x->(xs.map a.eval)[j]? =some v->RA w G σ.h x v
 |[],[],_=>⟨rfl,by simp⟩
 |x::xs,m::ms,hc=>by
  simp only[iC,Bool.and_eq_true] at hc;obtain⟨i1,i2⟩:=r.Az hc.2;refine⟨by simp[i1],fun j x' v hj hv=>?_⟩;cases j with
  |zero=>simp at hj hv;subst hj;subst hv;exact(r.ev hc.1).1
  |succ j=>exact i2 j x' v (by simpa using hj) (by simpa using hv)
 |[],_::_,hc=>by simp[iC] at hc
 |_::_,[],hc=>by simp[iC] at hc
theorem aiY (r:R B E w0 N σ a w G) {T:aQ} (hT:I3 P T) {m:Mode} {f:FuncId} {xs:Array Operand} {ms:List MO} {ts:Array TypeId} {σ1:St} (hN:∀n,o.dst=some n->n<N)
  (ho:o.op=.call {callee:=.value (.func f),args:=xs,argTypes:=ts}) (hf:bS P f=true) (hm:iC xs.toList ms=true)
  (hx:wz T m o.dst f (ms.map σ.ev) σ=some σ1):o.wp P a w (Nx B E w0 N σ1) Q:=by
 obtain⟨e1,e2⟩:=r.Az hm;refine ai7 r hT (vals:=xs.toList.map a.eval) hN ?_ (by simpa using e1) e2 hx;have he:(xs.toList.map a.eval).toArray=xs.map a.eval:=by apply Array.ext';simp
 rw[he];simp[execOp,ho,resolve,Deferred.ofValue,invoke,Act.eval,BT hf]
end
def ft {α:Type}:List (Option Mode)->List α->List (Mode×α)
 |some m::fs,x::xs=>(m,x)::ft fs xs
 |none::fs,_::xs=>ft fs xs
 |_,_=>[]
def oE {α:Type}:List (Option Mode)->List α->List α
 |some _::fs,_::xs=>oE fs xs
 |none::fs,x::xs=>x::oE fs xs
 |[],xs=>xs
 |_,[]=>[]
def eI {α:Type}:aK->List (List α)->List (Mode×α)
 |s::sig,xs::uj=>ft s xs++eI sig uj
 |_,_=>[]
def mz {α:Type}:aK->List (List α)->List α
 |s::sig,xs::uj=>oE s xs++mz sig uj
 |[],uj=>uj.flatten
 |_,[]=>[]
theorem K4 {α β:Type} (f:α->β):∀(s:List (Option Mode)) (xs:List α),ft s (xs.map f)=(ft s xs).map fun x=>(x.1,f x.2)
 |some m::fs,x::xs=>by simp only[List.map_cons,ft,K4 f fs xs]
 |none::fs,x::xs=>by simp only[List.map_cons,ft,K4 f fs xs]
 |[],_=>by simp[ft]
 |some m::fs,[]=>rfl
 |none::fs,[]=>rfl
theorem Gy {α β:Type} (f:α->β):∀(s:aK) (xs:List (List α)),eI s (xs.map fun l=>l.map f)=(eI s xs).map fun x=>(x.1,f x.2)
 |s::sig,xs::uj=>by simp only[List.map_cons,eI,List.map_append,K4 f s xs,Gy f sig uj]
 |[],_=>by simp[eI]
 |s::sig,[]=>rfl
def zB (s:List (Option Mode)) (n:Nat):Prop:=s=[]\/∃j,n=j+1/\s=List.replicate j none++[some .aN]
theorem YI {α:Type} (m:Mode) (y:α):∀(xs:List α),ft (List.replicate xs.length none++[some m]) (xs++[y])=[(m,y)]
 |[]=>rfl
 |x::xs=>YI m y xs
theorem agU {α:Type} (m:Mode) (y:α):∀(xs:List α),oE (List.replicate xs.length none++[some m]) (xs++[y])=xs
 |[]=>rfl
 |x::xs=>congrArg (x::·) (agU m y xs)
structure Aa (w:World) (m:Mode) (pc:PC):Prop where
 sep:Sep pc
 un:∀b,aZ b pc->d9 w b
 eK:∃sz a cap xs,pc=.list sz a cap xs/\0<sz/\(∀b o,a=some (ad b o)->¬bh b xs)/\uR m (xs.map fun e=>e.map PC.er)=true
structure PA where
 k:K
 ps:List PC
 b:Nat
 o:Nat
def vW (w:World) (d:Dv) (v:Value) (p:PA):Prop:=
 d=(p.k,p.ps.map PC.er)/\(∀pc∈p.ps,Good w pc)/\
 match p.k with
 |.one=>p.ps.map PC.val=[v]
 |.agg=>v=.agg (p.ps.map PC.val).toArray
 |.ptr=>v=.pointer (some (ad p.b p.o))/\p.b<w.heap.size/\∀j c,p.ps[j]? =some c->w.cell? (ad p.b (p.o+j))=some c.val
structure yi (w:World) (sig:aK) (ds:List Dv) (vals:List Value) (pas:List PA):Prop where
 l1:vals.length=ds.length
 l2:pas.length=ds.length
 at_:∀(i:Nat) (d:Dv) (v:Value) (p:PA),ds[i]? =some d->vals[i]? =some v->pas[i]? =some p->vW w d v p
 ok:∀x∈eI sig (pas.map (·.ps)),Aa w x.1 x.2
 oN:(eI sig (pas.map (·.ps))).Pairwise fun x y=>∀b,aZ b x.2->¬aZ b y.2
 free:∀pc∈mz sig (pas.map (·.ps)),∀x∈eI sig (pas.map (·.ps)),∀b,aZ b pc->¬aZ b x.2
 ptr:∀p∈pas,p.k=.ptr->∀x∈eI sig (pas.map (·.ps)),¬aZ p.b x.2
 aqI:∀(i:Nat) (p:PA) (s:List (Option Mode)),pas[i]? =some p->sig[i]? =some s->p.k=.ptr->zB s p.ps.length
def AD (fl:List (Mode×PC)):Ex:=⟨fun b=>∃x∈fl,aZ b x.2,fun _=>none,fun _ _ h=>(by cases h),fun _=>True⟩
structure th (w:World) (m:Mode) (pc dC:PC):Prop where
 val:dC.val=pc.val
 eG:Good w dC
 sep:Sep dC
 sub:∀b,aZ b dC->aZ b pc
 flat:uR m (match dC.er with|.list _ xs=>xs|_=>[])=true
 live:∀sz a cap xs aF a' ko av,pc=.list sz a cap xs->dC=.list aF a' ko av->aF=sz/\a'=a/\ko=cap/\av.length=xs.length/\
  (m=.live->∀k j c,At xs k j c->c.ie=true->∃c',At av k j c'/\c'.val=c.val/\c'.ie=true)
def rQ (P:Program) (f:FuncId) (sig:aK) (M:List Dv->Option (List Dv×List C)):Prop:=
 ∀ds rs d7,M ds=some (rs,d7)->∀(w:World) (vals:List Value) (pas:List PA),yi w sig ds vals pas->Calls P f vals.toArray w fun e w'=>
  ∃bt:List (K×List PC),bt.map (fun p=>(p.1,p.2.map PC.er))=rs/\e=.returned (xG bt)/\(∀p∈bt,p.1≠ .ptr/\(p.1=.one->p.2.length=1))/\
   wb w' w.heap.size (bt.flatMap (·.2))/\Fr w.heap.size (AD (eI sig (pas.map (·.ps)))) w w'/\
   ∃qs:List PC,qs.map PC.er=d7/\qs.length=(eI sig (pas.map (·.ps))).length/\
    ∀(i:Nat) (x:Mode×PC) (q:PC),(eI sig (pas.map (·.ps)))[i]? =some x->qs[i]? =some q->th w' x.1 x.2 q
section
variable {B:Nat} {E:Ex} {w0 w w':World} {G G':Gh} {N:Nat} {h h':Nat->Option aq} {used:Nat->Bool}
variable {P:Program} {o:Oper} {a:Act} {σ σ':St} {Q:Exit->Act->World->Prop}
def pq (sz:Nat) (p:PB):PC:=.list sz (if p.nl=true then p.na else some (ad p.b p.o)) p.cap p.px
theorem ad5 {gr:Bool} {m:Mode} {sz:Nat} {xs:List (List C)} {p:PB} (hr:uE B E w G gr m sz xs p):(pq sz p).er=.list sz xs:=by
 rw[pq,PC.dV,hr.er]
theorem asC {gr:Bool} {m:Mode} {sz:Nat} {xs:List (List C)} {p:PB} (hr:uE B E w G gr m sz xs p) {v:Value} (hv:gE p sz 0 xs.length v):(pq sz p).val=v:=by
 have fw:p.px.length=xs.length:=by rw[hr.er];simp
 rcases hv with⟨hn,rfl,_,hl⟩|⟨hn,a,rfl,hc,ha⟩
 ·simp[pq,PC.val,hn,fw,hl]
 ·have:=ha (.inr rfl);subst this;simp[pq,PC.val,hn,fw]
theorem asB {gr:Bool} {m:Mode} {sz:Nat} {xs:List (List C)} {p:PB} (hr:uE B E w G gr m sz xs p):Good w (pq sz p):=by
 unfold pq;by_cases h0:p.px=[]
 ·rw[h0];exact .nil _ _ _ hr.pos
 ·have aR:p.nl=false:=by
   cases hq:p.nl with
   |false=>rfl
   |true=>exact absurd (hr.nl hq).1 h0
  obtain⟨a1,a2,a3⟩:=hr.eK aR;rw[if_neg (by simp[aR])];exact .cons _ _ _ _ _ h0 a3 hr.pos a2.1 a2.2.1 a2.2.2
theorem T5 {sz:Nat} {p:PB} {b:Nat} (hn:p.nl=true->p.px=[]) (h:aZ b (pq sz p)):(p.nl=false/\b=p.b)\/bh b p.px:=by
 unfold pq at h;rw[aZ.kZ] at h;rcases h with⟨h0,o,ho⟩|⟨k,j,c,hk,hb⟩
 ·cases hq:p.nl with
  |true=>exact absurd (hn hq) h0
  |false=>
   rw[hq] at ho;simp at ho;exact .inl ⟨rfl,(lz ho).1.symm⟩
 ·exact .inr ⟨k,j,c,hk,hb⟩
def tD (G:Gh) (n b:Nat):Prop:=((G.g n).nl=false/\b=(G.g n).b)\/bh b (G.g n).px
structure uz (B:Nat) (E:Ex) (w:World) (G:Gh) (h:Nat->Option aq) (it:dD) (md:Mode) (pc:PC):Prop where
 ok:Aa w md pc
 eG:Good w pc
 at_:match it with
  |.nil sz=>pc=.list sz none 0 []
  |.row n=>∃gr m sz xs,h n=some (.row gr m sz xs)/\m≠ .aJ/\(md=.live->m=.live)/\pc=pq sz (G.g n)/\uR md xs=true/\(m=.live->gr=false)
  |.nest n k off=>∃gr sz xs,h n=some (.row gr .live sz xs)/\md=.aN/\At (G.g n).px k off pc/\gr=false
theorem uz.oP {it:dD} {md:Mode} {pc:PC} (H:HR B E w G h used []) (i:uz B E w G h it md pc) {b:Nat} (hb:aZ b pc):
  ∃n gr m sz xs,it.eV=some n/\h n=some (.row gr m sz xs)/\m≠ .aJ/\tD G n b/\((∀b,¬bh b (G.g n).px)\/m=.live):=by
 have ha:=i.at_;cases it with
 |nil sz=>
  have ha:pc=.list sz none 0 []:=ha;subst ha;rw[aZ.kZ] at hb;rcases hb with⟨hb,_⟩|⟨k,j,c,⟨e,he,_⟩,_⟩
  ·exact absurd rfl hb
  ·simp at he
 |row n=>
  obtain⟨gr,m,sz,xs,h1,h2,h3,rfl,h5,_⟩:=ha;have hr:=H.row n gr m sz xs h1;refine⟨n,gr,m,sz,xs,rfl,h1,h2,T5 (fun hq=>(hr.nl hq).1) hb,?_⟩;cases md with
  |live=>exact .inr (h3 rfl)
  |aJ=>cases h5
  |aN=>
   left;intro b' aL;have Lf:eP xs=true:=h5;rw[hr.er] at Lf;obtain⟨k,j,c,⟨e,he,hj⟩,hc⟩:=aL;have h6:=List.all_eq_true.1 Lf (e.map PC.er) (by simp only[List.mem_map];exact⟨e,List.mem_of_getElem? he,rfl⟩);have h7:=List.all_eq_true.1 h6 c.er (by simp only[List.mem_map];exact⟨c,List.mem_of_getElem? hj,rfl⟩);exact(Sep.hY h7).2 b' hc
 |nest n k off=>
  obtain⟨gr,sz,xs,h1,h2,h3,_⟩:=ha;exact⟨n,gr,.live,sz,xs,rfl,h1,by simp,.inr ⟨k,off,pc,h3,hb⟩,.inr rfl⟩
theorem HR.GH (H:HR B E w G h used []) {n n':Nat} (aD:n≠n') {gr bo:Bool} {m m':Mode} {sz aF:Nat} {xs av:List (List C)} (h1:h n=some (.row gr m sz xs)) (h2:h n'=some (.row bo m' aF av))
  (bP:(∀b,¬bh b (G.g n').px)\/m'=.live) {b:Nat} (hb:tD G n b):¬tD G n' b:=by
 have e1:h n≠none:=by rw[h1];simp
 have e2:h n'≠none:=by rw[h2];simp
 have own:∀{p q:Nat} {gr:Bool} {m:Mode} {sz:Nat} {xs:List (List C)},h p≠none->h q=some (.row gr m sz xs)->(G.g p).nl=false->¬bh (G.g p).b (G.g q).px:=by
  intro p q gr m sz xs hp hq hl hF;have gj:=(H.row q gr m sz xs hq).mode;cases m with
  |aJ=>exact(H.own p hp hl).1 (gj _ hF)
  |aN=>exact(H.own p hp hl).1 (gj.1 _ hF).1
  |live=>exact H.live q gr sz xs hq _ hF p hp hl rfl
 rintro(⟨l2,rfl⟩|b2)
 ·rcases hb with⟨l1,b1⟩|b1
  ·exact H.inj n n' e1 e2 aD l1 l2 b1.symm
  ·exact own e2 h1 l2 b1
 ·rcases hb with⟨l1,rfl⟩|b1
  ·exact own e1 h2 l1 b2
  ·rcases bP with bP|rfl
   ·exact bP b b2
   ·have q2:=(H.row n' bo .live aF av h2).mode;have q1:=(H.row n gr m sz xs h1).mode;cases m with
    |aJ=>exact(q2.1 b b2).1 (q1 b b1)
    |aN=>exact(q2.1 b b2).1 (q1.1 b b1).1
    |live=>exact H.gv n n' gr .live sz xs bo .live aF av h1 h2 (by simp) (by simp) aD b b1 b2
theorem HR.item (H:HR B E w G h used []) {md:Mode} {c:ah} {it:dD} {x:C} {v:Value} (hx:t6 h md c=some (it,x)) (hc:RC w G h c v):
  ∃pc:PC,pc.er=x/\pc.val=v/\uz B E w G h it md pc/\it.eV=c.eV:=by
 unfold t6 at hx;split at hx
 ·rename_i sz;split at hx
  ·rename_i eS;injection hx with hx;injection hx with h1 h2;subst h1 h2;have dt:v=.slice none 0 0:=hc;subst dt;refine⟨.list sz none 0 [],by simp[PC.dV],rfl,⟨⟨?_,?_,sz,none,0,[],rfl,eS.1,(fun b o h=>by cases h),?_⟩,.nil _ _ _ eS.1,rfl⟩,rfl⟩
   ·refine .list _ _ _ _ ?_ ?_ ?_
    ·rintro k j c ⟨e,he,_⟩;simp at he
    ·rintro b o k j c _ ⟨e,he,_⟩;simp at he
    ·rintro k j c k' j' c' b ⟨e,he,_⟩;simp at he
   ·intro b hb;rw[aZ.kZ] at hb;rcases hb with⟨hb,_⟩|⟨k,j,c,⟨e,he,_⟩,_⟩
    ·exact absurd rfl hb
    ·simp at he
   ·cases md with
    |aJ=>exact absurd rfl eS.2
    |aN=>rfl
    |live=>rfl
  ·cases hx
 ·rename_i n sz lo len;split at hx
  ·rename_i gr m rs xs hn;split at hx
   ·rename_i cV;obtain⟨hm,wU,rfl,rfl,rfl,kv,wP⟩:=cV;injection hx with hx;injection hx with h1 h2;subst h1 h2;have bN:h n≠none:=by rw[hn];simp
    have hs:gE (G.g n) rs 0 xs.length v:=hc bN;have hr:=H.row n gr m rs xs hn;have qS:(∀b,bh b (G.g n).px->d9 w b)/\iO (G.g n).px/\(∀b,bh b (G.g n).px->(G.g n).nl=false->b≠(G.g n).b):=by
     have dW:=hr.mode;cases m with
     |aJ=>exact absurd rfl hm
     |aN=>exact⟨fun b hb=>(dW.1 b hb).2.1,dW.2,fun b hb hl fA=>(H.own n bN hl).1 (fA▸(dW.1 b hb).1)⟩
     |live=>exact⟨fun b hb=>(dW.1 b hb).2.1,dW.2,fun b hb hl=>H.live n gr rs xs hn b hb n bN hl⟩
    obtain⟨o1,o2,o3⟩:=qS;have tP:∀b o,(if(G.g n).nl=true then(G.g n).na else some (ad (G.g n).b (G.g n).o))=some (ad b o)->¬bh b (G.g n).px:=by
     intro b o gi hF;cases hq:(G.g n).nl with
     |true=>rw[(hr.nl hq).1] at hF;obtain⟨k,j,c,⟨e,he,_⟩,_⟩:=hF;simp at he
     |false=>
      rw[hq] at gi;simp at gi;exact o3 b hF hq (lz gi).1.symm
    refine⟨pq rs (G.g n),ad5 hr,asC hr hs,⟨⟨.list _ _ _ _ o2.1 (fun b o k j c gi hk hb=>tP b o gi ⟨k,j,c,hk,hb⟩) o2.2,fun b hb=>?_,rs,_,_,_,rfl,hr.pos,tP,by rw[<-hr.er];exact kv⟩,asB hr,
     gr,m,rs,xs,hn,hm,wU,rfl,kv,wP⟩,rfl⟩
    rcases T5 (fun hq=>(hr.nl hq).1) hb with⟨hl,rfl⟩|hF
    ·exact(hr.eK hl).1
    ·exact o1 b hF
   ·cases hx
  ·cases hx
 ·rename_i n k aB off sz len;split at hx
  ·rename_i rs xs hn;split at hx
   ·rename_i cV;obtain⟨rfl,rfl⟩:=cV;split at hx
    ·rename_i s ys nu;split at hx
     ·rename_i kv;injection hx with hx;injection hx with h1 h2;subst h1 h2;obtain⟨pc,p1,p2,p3⟩:=hc false xs hn;have hr:=H.row n false .live rs xs hn;have aR:(G.g n).nl=false:=by
       cases hq:(G.g n).nl with
       |false=>rfl
       |true=>obtain⟨e,he,_⟩:=p1;rw[(hr.nl hq).1] at he;simp at he
      have fO:Good w pc:=(hr.eK aR).2.1.2.2 _ _ _ p1;have gJ:pc.er=.list s ys:=by
       obtain⟨e,he,hj⟩:=p1;rw[hr.er] at nu;simp[he,hj] at nu;exact nu
      have jY:=hr.mode.2.1 _ _ _ p1;cases pc with
      |int k n=>cases p3
      |bool b=>cases p3
      |list s' a' ko px'=>
       rw[PC.dV] at gJ;injection gJ with g1 g2;subst g1;have iH:eP (px'.map fun e=>e.map PC.er)=true:=by rw[g2];exact kv
       refine⟨_,by rw[PC.dV,g2],p2,⟨⟨jY,fun b hb=>(hr.mode.1 b ⟨k,off,_,p1,hb⟩).2.1,s',a',ko,px',rfl,?_,fun b o _ hF=>?_,iH⟩,fO,false,rs,xs,hn,rfl,p1,rfl⟩,rfl⟩
       ·cases fO with
        |nil _ _ _ h=>exact h
        |cons _ _ _ _ _ _ _ h=>exact h
       ·obtain⟨kk,jj,c,⟨e,he,hj⟩,hc⟩:=hF;have h6:=List.all_eq_true.1 iH (e.map PC.er) (by simp only[List.mem_map];exact⟨e,List.mem_of_getElem? he,rfl⟩);have h7:=List.all_eq_true.1 h6 c.er (by simp only[List.mem_map];exact⟨c,List.mem_of_getElem? hj,rfl⟩);exact(Sep.hY h7).2 b hc
     ·cases hx
    ·cases hx
   ·cases hx
  ·cases hx
 ·cases hx
theorem HR.WA (H:HR B E w G h used []) {c:ah} {x:C} {v:Value} (hx:Am.cO h c=some x) (hc:RC w G h c v):
  ∃pc:PC,pc.er=x/\pc.val=v/\Good w pc/\∀b,aZ b pc->G.Im b\/∃n gr m sz xs,c.eV=some n/\h n=some (.row gr m sz xs)/\tD G n b:=by
 cases c with
 |c y=>
  simp only[Am.cO] at hx;injection hx with hx;subst hx;obtain⟨pc,h1,h2,h3,h4⟩:=hc;exact⟨pc,h1,h2,h3,fun b hb=>.inl (h4 b hb)⟩
 |nil sz=>
  simp only[Am.cO] at hx;split at hx
  ·rename_i eS;injection hx with hx;subst hx;have dt:v=.slice none 0 0:=hc;subst dt;refine⟨.list sz none 0 [],by simp[PC.dV],rfl,.nil _ _ _ eS,fun b hb=>?_⟩;rw[aZ.kZ] at hb;rcases hb with⟨hb,_⟩|⟨k,j,c,⟨e,he,_⟩,_⟩
   ·exact absurd rfl hb
   ·simp at he
  ·cases hx
 |sl n sz lo len=>
  simp only[Am.cO] at hx;split at hx
  ·rename_i gr m rs xs hn;split at hx
   ·rename_i cV;obtain⟨rfl,hl⟩:=cV;injection hx with hx;subst hx;have hs:gE (G.g n) rs lo len v:=hc (by rw[hn];simp);obtain⟨a1,a2,a3,a4⟩:=E5 (H.row n gr m rs xs hn) hs hl;exact⟨_,a1,a2,a3,fun b hb=>.inr ⟨n,gr,m,rs,xs,rfl,hn,a4 b hb⟩⟩
   ·cases hx
  ·cases hx
 |bC n k aB off sz len=>
  simp only[Am.cO] at hx;split at hx
  ·rename_i gr rs xs hn;split at hx
   ·rename_i cV;subst cV;obtain⟨pc,p1,p2,p3⟩:=hc gr xs hn;have hr:=H.row n gr .live rs xs hn;have aR:(G.g n).nl=false:=by
     cases hq:(G.g n).nl with
     |false=>rfl
     |true=>obtain⟨e,he,_⟩:=p1;rw[(hr.nl hq).1] at he;simp at he
    refine⟨pc,?_,p2,(hr.eK aR).2.1.2.2 _ _ _ p1,fun b hb=>.inr ⟨n,gr,.live,rs,xs,rfl,hn,.inr ⟨k,off,pc,p1,hb⟩⟩⟩;obtain⟨e,he,hj⟩:=p1;rw[hr.er] at hx;simp[he,hj] at hx;exact hx
   ·cases hx
  ·cases hx
 |ptr _ _ _ _=>simp[Am.cO] at hx
 |dg _ _=>simp[Am.cO] at hx
 |cH _ _ _ _ _ _=>simp[Am.cO] at hx
 |fn _ _=>simp[Am.cO] at hx
 |db _ _ _ _ _ _=>simp[Am.cO] at hx
 |bq=>simp[Am.cO] at hx
theorem aaI {ns:List Nat} {n:Nat} {b:aq} (hx:dM h ns n=some b):h n=some b/\n∉ns:=by
 unfold dM at hx;split at hx
 ·cases hx
 ·rename_i hc;exact⟨hx,fun hm=>hc (by simpa using hm)⟩
theorem ag5 {ns:List Nat} {c:ah} {x:C} (hx:cO (dM h ns) c=some x):cO h c=some x/\∀n,c.eV=some n->n∉ns:=by
 cases c with
 |c y=>exact⟨hx,by intro n hn;cases hn⟩
 |nil sz=>exact⟨hx,by intro n hn;cases hn⟩
 |sl n sz lo len=>
  simp only[Am.cO] at hx;split at hx
  ·rename_i gr m rs xs hn;obtain⟨h1,h2⟩:=aaI hn;exact⟨by simp only[Am.cO,h1];exact hx,by intro q hq;injection hq with hq;subst hq;exact h2⟩
  ·cases hx
 |bC n k aB off sz len=>
  simp only[Am.cO] at hx;split at hx
  ·rename_i gr rs xs hn;obtain⟨h1,h2⟩:=aaI hn;exact⟨by simp only[Am.cO,h1];exact hx,by intro q hq;injection hq with hq;subst hq;exact h2⟩
  ·cases hx
 |ptr _ _ _ _=>simp[Am.cO] at hx
 |dg _ _=>simp[Am.cO] at hx
 |cH _ _ _ _ _ _=>simp[Am.cO] at hx
 |fn _ _=>simp[Am.cO] at hx
 |db _ _ _ _ _ _=>simp[Am.cO] at hx
 |bq=>simp[Am.cO] at hx
def FA (G:Gh) (h:Nat->Option aq) (ns:List Nat) (pc:PC):Prop:=
 ∀b,aZ b pc->G.Im b\/∃n gr m sz xs,n∉ns/\h n=some (.row gr m sz xs)/\tD G n b
structure kH (B:Nat) (E:Ex) (w:World) (G:Gh) (h:Nat->Option aq) (its:List (dD×Mode)) (fl:List (Mode×PC)):Prop where
 len:its.length=fl.length
 at_:∀(i:Nat) (it:dD×Mode) (x:Mode×PC),its[i]? =some it->fl[i]? =some x->it.2=x.1/\uz B E w G h it.1 x.1 x.2
theorem kH.nil:kH B E w G h [] []:=⟨rfl,by intro i it x h;simp at h⟩
theorem kH.cons {it:dD×Mode} {its:List (dD×Mode)} {x:Mode×PC} {fl:List (Mode×PC)} (h1:it.2=x.1) (h2:uz B E w G h it.1 x.1 x.2) (h3:kH B E w G h its fl):kH B E w G h (it::its) (x::fl):=by
 refine⟨by simp[h3.len],fun i Bn x' hi hx=>?_⟩;cases i with
 |zero=>simp at hi hx;subst hi;subst hx;exact⟨h1,h2⟩
 |succ i=>exact h3.at_ i Bn x' (by simpa using hi) (by simpa using hx)
theorem kH.append {its pY:List (dD×Mode)} {fl YU:List (Mode×PC)} (h1:kH B E w G h its fl) (h2:kH B E w G h pY YU):kH B E w G h (its++pY) (fl++YU):=by
 refine⟨by simp[h1.len,h2.len],fun i it x hi hx=>?_⟩;by_cases cu:i<its.length
 ·rw[List.getElem?_append_left cu] at hi;rw[List.getElem?_append_left (by rw[<-h1.len];exact cu)] at hx;exact h1.at_ i it x hi hx
 ·rw[List.getElem?_append_right (by omega)] at hi;rw[List.getElem?_append_right (by rw[<-h1.len];omega)] at hx;rw[h1.len] at hi;exact h2.at_ _ it x hi hx
theorem HR.j7 (H:HR B E w G h used []) {ns:List Nat}:∀{fs:List (Option Mode)} {cs:List ah} {xs:List C} {its:List (dD×Mode)} {vs:List Value},Am.j7 h (dM h ns) fs cs=some (xs,its)->dj w G h cs vs->
  ∃ps:List PC,ps.map PC.er=xs/\ps.map PC.val=vs/\(∀pc∈ps,Good w pc)/\kH B E w G h its (ft fs ps)/\its.filterMap (·.1.eV)=nB fs cs/\∀pc∈oE fs ps,FA G h ns pc
 |[],cs,xs,its,vs,hx,hc=>by
  simp only[Am.j7] at hx;split at hx
  ·rename_i ys hy;injection hx with hx;injection hx with h1 h2;subst h1 h2;have cW:∀(cs:List ah) (xs:List C) (vs:List Value),Am.iN (dM h ns) cs=some xs->dj w G h cs vs->∃ps:List PC,ps.map PC.er=xs/\ps.map PC.val=vs/\(∀pc∈ps,Good w pc)/\∀pc∈ps,FA G h ns pc:=by
    intro cs;induction cs with
    |nil=>
     intro xs vs hx hc;simp only[Am.iN] at hx;injection hx with hx;subst hx;have:vs=[]:=List.eq_nil_of_length_eq_zero (by simpa using hc.1);subst this;exact⟨[],rfl,rfl,by simp,by simp⟩
    |cons c cs ih=>
     intro xs vs hx hc;simp only[Am.iN] at hx;split at hx
     ·rename_i x av e1 e2;injection hx with hx;subst hx;obtain⟨hlen,cG⟩:=hc;match vs,hlen with
      |v::vs,hlen=>
       obtain⟨v1,v2⟩:=ag5 e1;obtain⟨pc,a1,a2,a3,a4⟩:=H.WA v1 (cG 0 c v rfl rfl).2;obtain⟨ps,b1,b2,b3,b4⟩:=ih av vs e2 ⟨by simpa using hlen,fun j c u h1 h2=>cG (j+1) c u h1 h2⟩;refine⟨pc::ps,by simp[a1,b1],by simp[a2,b2],fun q hq=>?_,fun q hq=>?_⟩
       ·cases hq with
        |head=>exact a3
        |tail _ hq=>exact b3 q hq
       ·cases hq with
        |head=>exact fun b hb=>(a4 b hb).imp id fun⟨n,gr,m,sz,xs,hn,h1,h2⟩=>⟨n,gr,m,sz,xs,v2 n hn,h1,h2⟩
        |tail _ hq=>exact b4 q hq
     ·cases hx
   obtain⟨ps,b1,b2,b3,b4⟩:=cW cs ys vs hy hc;exact⟨ps,b1,b2,b3,by simpa[ft] using kH.nil,by simp[nB],by simpa[oE] using b4⟩
  ·cases hx
 |f::fs,[],xs,its,vs,hx,hc=>by cases f<;>simp[Am.j7] at hx
 |none::fs,c::cs,xs,its,vs,hx,hc=>by
  simp only[Am.j7] at hx;split at hx
  ·rename_i x av pY e1 e2;injection hx with hx;injection hx with h1 h2;subst h1 h2;obtain⟨hlen,cG⟩:=hc;match vs,hlen with
   |v::vs,hlen=>
    obtain⟨v1,v2⟩:=ag5 e1;obtain⟨pc,a1,a2,a3,a4⟩:=H.WA v1 (cG 0 c v rfl rfl).2;obtain⟨ps,b1,b2,b3,b4,b5,b6⟩:=H.j7 e2 (vs:=vs) ⟨by simpa using hlen,fun j c u h1 h2=>cG (j+1) c u h1 h2⟩;refine⟨pc::ps,by simp[a1,b1],by simp[a2,b2],fun q hq=>?_,by simpa[ft] using b4,by simpa[nB] using b5,fun q hq=>?_⟩
    ·cases hq with
     |head=>exact a3
     |tail _ hq=>exact b3 q hq
    ·simp only[oE] at hq;cases hq with
     |head=>exact fun b hb=>(a4 b hb).imp id fun⟨n,gr,m,sz,xs,hn,h1,h2⟩=>⟨n,gr,m,sz,xs,v2 n hn,h1,h2⟩
     |tail _ hq=>exact b6 q hq
  ·cases hx
 |some md::fs,c::cs,xs,its,vs,hx,hc=>by
  simp only[Am.j7] at hx;split at hx
  ·rename_i it x av pY e1 e2;injection hx with hx;injection hx with h1 h2;subst h1 h2;obtain⟨hlen,cG⟩:=hc;match vs,hlen with
   |v::vs,hlen=>
    obtain⟨pc,a1,a2,a3,a4⟩:=H.item e1 (cG 0 c v rfl rfl).2;obtain⟨ps,b1,b2,b3,b4,b5,b6⟩:=H.j7 e2 (vs:=vs) ⟨by simpa using hlen,fun j c u h1 h2=>cG (j+1) c u h1 h2⟩;refine⟨pc::ps,by simp[a1,b1],by simp[a2,b2],fun q hq=>?_,?_,?_,fun q hq=>b6 q (by simpa[oE] using hq)⟩
    ·cases hq with
     |head=>exact a3.eG
     |tail _ hq=>exact b3 q hq
    ·simp only[ft];exact kH.cons rfl a3 b4
    ·simp only[nB,<-a4,<-b5];cases gK:it.eV with
     |none=>simp[gK]
     |some n=>simp[gK]
  ·cases hx
theorem HR.mS (H:HR B E w G h used []) {ns:List Nat}:∀{as:List (Bool×List ah)} {sig:aK} {ds:List Dv} {its:List (dD×Mode)} {vals:List Value},Am.mS h (dM h ns) sig as=some (ds,its)->vals.length=as.length->
  (∀(j:Nat) (x:Bool×List ah) (v:Value),as[j]? =some x->vals[j]? =some v->RV w G h x.1 x.2 v)->
  ∃pas:List PA,pas.length=ds.length/\vals.length=ds.length/\(∀(i:Nat) (d:Dv) (v:Value) (p:PA),ds[i]? =some d->vals[i]? =some v->pas[i]? =some p->vW w d v p)/\(∀p∈pas,p.k≠ .ptr)/\
   kH B E w G h its (eI sig (pas.map (·.ps)))/\its.filterMap (·.1.eV)=ph sig as/\∀pc∈mz sig (pas.map (·.ps)),FA G h ns pc
 |[],sig,ds,its,vals,hx,hl,hc=>by
  simp only[Am.mS] at hx;injection hx with hx;injection hx with h1 h2;subst h1 h2;refine⟨[],rfl,by simpa using hl,by simp,by simp,?_,?_,?_⟩
  ·cases sig<;>exact kH.nil
  ·cases sig<;>rfl
  ·cases sig<;>simp[mz]
 |(ag,cs)::as,sig,ds,its,vals,hx,hl,hc=>by
  simp only[Am.mS] at hx;split at hx
  ·rename_i xs Hz uP HA e1 e2;injection hx with hx;injection hx with h1 h2;subst h1 h2;match vals,hl with
   |v::vals,hl=>
    have h0:=hc 0 (ag,cs) v rfl rfl;obtain⟨q1,q2,q3,q4,q5,q6,q7⟩:=H.mS e2 (as:=as) (vals:=vals) (by simpa using hl) (fun j x v h1 h2=>hc (j+1) x v h1 h2);obtain⟨vs,ja,hR⟩:∃vs:List Value,(if ag=true then v=.agg vs.toArray else vs=[v])/\dj w G h cs vs:=by
     unfold RV at h0;split at h0
     ·rename_i cf;obtain⟨vs,e,hR⟩:=h0;exact⟨vs,by rw[if_pos cf];exact e,hR⟩
     ·rename_i cf;exact⟨[v],by rw[if_neg cf],h0⟩
    obtain⟨ps,p1,p2,p3,p4,p5,p6⟩:=H.j7 e1 hR;refine⟨⟨if ag=true then .agg else .one,ps,0,0⟩::q1,by simp[q2],by simp[q3],fun i d v' p hd hv hp=>?_,fun p hp=>?_,?_,?_,?_⟩
    ·cases i with
     |zero=>
      simp at hd hv hp;subst hd hv hp;cases ag with
      |true=>
       simp only[if_true] at ja⊢;exact⟨by rw[p1],p3,by simp only[p2];exact ja⟩
      |false=>
       simp only[if_false,Bool.false_eq_true] at ja⊢;exact⟨by rw[p1],p3,by simp only[p2];exact ja⟩
     |succ i=>exact q4 i d v' p (by simpa using hd) (by simpa using hv) (by simpa using hp)
    ·cases hp with
     |head=>cases ag<;>simp
     |tail _ hp=>exact q5 p hp
    ·cases sig with
     |nil=>
      have e3:ft (aK.hd ([]:aK)) ps=[]:=rfl;rw[e3] at p4;have e4:Hz=[]:=List.eq_nil_of_length_eq_zero p4.len;subst e4;have e5:eI (aK.tl ([]:aK)) (q1.map (·.ps))=[]:=rfl;rw[e5] at q6;have e6:HA=[]:=List.eq_nil_of_length_eq_zero q6.len;subst e6;exact kH.nil
     |cons s sig=>exact kH.append p4 q6
    ·cases sig with
     |nil=>
      have e3:ft (aK.hd ([]:aK)) ps=[]:=rfl;rw[e3] at p4;have e4:Hz=[]:=List.eq_nil_of_length_eq_zero p4.len;subst e4;have e5:eI (aK.tl ([]:aK)) (q1.map (·.ps))=[]:=rfl;rw[e5] at q6;have e6:HA=[]:=List.eq_nil_of_length_eq_zero q6.len;subst e6;rfl
     |cons s sig=>
      rw[List.filterMap_append,p5,q7.1];rfl
    ·intro pc bi;cases sig with
     |nil=>
      simp only[List.map_cons,mz,List.flatten_cons,List.mem_append] at bi;rcases bi with bi|bi
      ·exact p6 pc bi
      ·exact q7.2 pc (by simpa[mz,aK.tl] using bi)
     |cons s sig=>
      simp only[List.map_cons,mz,List.mem_append] at bi;rcases bi with bi|bi
      ·exact p6 pc bi
      ·exact q7.2 pc bi
  ·cases hx
end
end Go.Am
