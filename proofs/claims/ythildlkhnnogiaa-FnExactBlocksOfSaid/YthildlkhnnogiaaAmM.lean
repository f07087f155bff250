/- Am1, Am2, Am3, Am4, Am5, Am6, Am7, Am8, Am9, Am10, Am11, Am12, Am13, Am14, Am15, Am16, AmM: parts of the proof. No condition. -/
import Derived.LoopN
import Derived.Orders
import Derived.Laws.AppendOwn
import Derived.Laws.MakeOwn
import Derived.Laws.Tables
import Derived.Below
import Derived.Laws.Small
import Derived.Laws.StructEq
set_option linter.unusedVariables false
set_option linter.unusedSimpArgs false
namespace Go.Am
inductive C where
 |int (k:IntKind) (n:Int)
 |bool (b:Bool)
 |list (sz:Nat) (xs:List (List C))
instance:Inhabited C:=⟨.bool false⟩
def ad (b o:Nat):Addr:=⟨b,o,none⟩
theorem ru (b o n:Nat):(ad b o).add n=ad b (o+n):=by
 unfold ad Addr.add;split
 ·rename_i h;subst h;rfl
 ·rfl
theorem lf {b o b' o':Nat} (h:ad b o=ad b' o'):b=b'/\o=o':=by
 unfold ad at h;injection h with h1 h2;exact⟨h1,h2⟩
inductive PC where
 |int (k:IntKind) (n:Int)
 |bool (b:Bool)
 |list (sz:Nat) (a:Option Addr) (cap:Nat) (xs:List (List PC))
instance:Inhabited PC:=⟨.bool false⟩
mutual
def PC.er:PC->C
 |.int k n=>.int k n
 |.bool b=>.bool b
 |.list sz _ _ xs=>.list sz (PC.FF xs)
def PC.aE:List PC->List C
 |[]=>[]
 |c::cs=>PC.er c::PC.aE cs
def PC.FF:List (List PC)->List (List C)
 |[]=>[]
 |e::es=>PC.aE e::PC.FF es
end
theorem PC.aiw (l:List PC):PC.aE l=l.map PC.er:=by
 induction l with
 |nil=>simp[PC.aE]
 |cons c l ih=>simp[PC.aE,ih]
theorem PC.aiv (l:List (List PC)):PC.FF l=l.map (fun e=>e.map PC.er):=by
 induction l with
 |nil=>simp[PC.FF]
 |cons c l ih=>simp[PC.FF,PC.aiw,ih]
theorem PC.d9 (sz:Nat) (a:Option Addr) (cap:Nat) (xs:List (List PC)):(PC.list sz a cap xs).er=.list sz (xs.map (fun e=>e.map PC.er)):=by
 simp[PC.er,PC.aiv]
def PC.val:PC->Value
 |.int k n=>.int k n
 |.bool b=>.bool b
 |.list _ a cap xs=>.slice a xs.length cap
theorem PC.kc (c:PC):c.val.oneCell'=true:=by cases c<;>rfl
def At {α:Type} (xs:List (List α)) (k j:Nat) (c:α):Prop:=∃e,xs[k]? =some e/\e[j]? =some c
inductive aX (b:Nat):PC->Prop where
 |here (sz o cap:Nat) (xs:List (List PC)):xs≠[]->aX b (.list sz (some (ad b o)) cap xs)
 |there (sz:Nat) (a:Option Addr) (cap:Nat) (xs:List (List PC)) (k j:Nat) (c:PC):At xs k j c->aX b c->aX b (.list sz a cap xs)
theorem aX.kN {b sz:Nat} {a:Option Addr} {cap:Nat} {xs:List (List PC)}:
  aX b (.list sz a cap xs)↔(xs≠[]/\∃o,a=some (ad b o))\/∃k j c,At xs k j c/\aX b c:=by
 constructor
 ·intro h;cases h with
  |here sz o cap xs h=>exact .inl ⟨h,o,rfl⟩
  |there sz a cap xs k j c h1 h2=>exact .inr ⟨k,j,c,h1,h2⟩
 ·rintro(⟨h,o,rfl⟩|⟨k,j,c,h1,h2⟩)
  ·exact .here _ _ _ _ h
  ·exact .there _ _ _ _ k j c h1 h2
theorem aX.aqz {b:Nat} {k:IntKind} {n:Int}:¬aX b (.int k n):=fun h=>by cases h
theorem aX.aqy {b:Nat} {x:Bool}:¬aX b (.bool x):=fun h=>by cases h
inductive Good (w:World):PC->Prop where
 |int (k:IntKind) (n:Int):Good w (.int k n)
 |bool (b:Bool):Good w (.bool b)
 |nil (sz:Nat) (a:Option Addr) (cap:Nat):0<sz->Good w (.list sz a cap [])
 |cons (sz b o cap:Nat) (xs:List (List PC)):xs≠[]->xs.length<=cap->0<sz->(∀e∈xs,e.length=sz)->
  (∀k j c,At xs k j c->w.cell? (ad b (o+k*sz+j))=some c.val)->(∀k j c,At xs k j c->Good w c)->Good w (.list sz (some (ad b o)) cap xs)
theorem Good.congr {w w':World} {c:PC} (h:Good w c) (hc:∀b,aX b c->∀o,w'.cell? (ad b o)=w.cell? (ad b o)):Good w' c:=by
 induction h with
 |int k n=>exact .int k n
 |bool b=>exact .bool b
 |nil sz a cap h=>exact .nil sz a cap h
 |cons sz b o cap xs h1 h2 h3 h4 h5 h6 ih=>
  refine .cons sz b o cap xs h1 h2 h3 h4 (fun k j c hk=>?_) (fun k j c hk=>ih k j c hk fun b' aJ o'=>?_)
  ·rw[hc b (.here _ _ _ _ h1)];exact h5 k j c hk
  ·exact hc b' (.there _ _ _ _ k j c hk aJ) o'
theorem WH {xs:List (List PC)} {sz:Nat} (h1:xs≠[]) (h3:0<sz) (h4:∀e∈xs,e.length=sz):∃c,At xs 0 0 c:=by
 cases xs with
 |nil=>exact absurd rfl h1
 |cons e es=>
  have he:=h4 e (by simp);cases e with
  |nil=>simp at he;omega
  |cons c cs=>exact⟨c,c::cs,rfl,rfl⟩
theorem Good.lt {w:World} {c:PC} (h:Good w c) {b:Nat} (hb:aX b c):b<w.heap.size:=by
 induction h with
 |int k n=>cases hb
 |bool b=>cases hb
 |nil sz a cap h=>
  cases hb with
  |here _ _ _ _ h=>exact absurd rfl h
  |there _ _ _ _ k j c h1 h2=>obtain⟨e,he,_⟩:=h1;simp at he
 |cons sz b' o cap xs h1 h2 h3 h4 h5 h6 ih=>
  cases hb with
  |here _ _ _ _ h=>
   obtain⟨c,hc⟩:=WH h1 h3 h4;exact World.block_lt_of_cell? (a:=ad b (o+0*sz+0)) w (h5 0 0 c hc)
  |there _ _ _ _ k j c h1 h2=>exact ih k j c h1 h2
inductive Sep:PC->Prop where
 |int (k:IntKind) (n:Int):Sep (.int k n)
 |bool (b:Bool):Sep (.bool b)
 |list (sz:Nat) (a:Option Addr) (cap:Nat) (xs:List (List PC)):(∀k j c,At xs k j c->Sep c)->
  (∀b o k j c,a=some (ad b o)->At xs k j c->¬aX b c)->
  (∀k j c k' j' c' b,At xs k j c->At xs k' j' c'->(k,j)≠(k',j')->aX b c->¬aX b c')->Sep (.list sz a cap xs)
def bf (b:Nat) (px:List (List PC)):Prop:=∃k j c,At px k j c/\aX b c
def iM (px:List (List PC)):Prop:=
 (∀k j c,At px k j c->Sep c)/\∀k j c k' j' c' b,At px k j c->At px k' j' c'->(k,j)≠(k',j')->aX b c->¬aX b c'
def nD (w:World) (b o sz:Nat) (px:List (List PC)):Prop:=
 (∀e∈px,e.length=sz)/\(∀k j c,At px k j c->w.cell? (ad b (o+k*sz+j))=some c.val)/\∀k j c,At px k j c->Good w c
def dZ (w:World) (b:Nat):Prop:=∃arr e,w.heap[b]? =some (.cells arr e (0,0))
theorem dZ.lt {w:World} {b:Nat} (h:dZ w b):b<w.heap.size:=by
 obtain⟨arr,e,h⟩:=h;exact(Array.getElem?_eq_some_iff.1 h).1
theorem dZ.congr {w w':World} {b:Nat} (h:dZ w b) (hb:w'.heap[b]? =w.heap[b]?):dZ w' b:=by
 obtain⟨arr,e,h⟩:=h;exact⟨arr,e,hb.trans h⟩
theorem gU {w w':World} {b:Nat} (hb:w'.heap[b]? =w.heap[b]?) (o:Nat):w'.cell? (ad b o)=w.cell? (ad b o):=by
 simp[World.cell?,ad,hb]
theorem nD.congr {w w':World} {b o sz:Nat} {px:List (List PC)} (h:nD w b o sz px) (h1:∀o,w'.cell? (ad b o)=w.cell? (ad b o))
  (h2:∀b',bf b' px->∀o,w'.cell? (ad b' o)=w.cell? (ad b' o)):nD w' b o sz px:=
 ⟨h.1,fun k j c hk=>(h1 _).trans (h.2.1 k j c hk),fun k j c hk=>(h.2.2 k j c hk).congr fun b' aJ o'=>h2 b' ⟨k,j,c,hk,aJ⟩ o'⟩
theorem nD.lt {w:World} {b o sz:Nat} {px:List (List PC)} (h:nD w b o sz px) {b':Nat} (hb:bf b' px):b'<w.heap.size:=by
 obtain⟨k,j,c,hk,hc⟩:=hb;exact(h.2.2 k j c hk).lt hc
inductive ah where
 |c (x:C)
 |nil (sz:Nat)
 |ptr (n k sz off:Nat)
 |de (xs:List C) (off:Nat)
 |sl (n sz lo len:Nat)
 |bw (n k aB off sz len:Nat)
 |cY (n k aB off sz i:Nat)
 |cE (xs:List C) (off j n sz len:Nat)
 |fn (f:FuncId) (cK:List ah)
 |bm
instance:Inhabited ah:=⟨.bm⟩
inductive Mode where
 |live|aO|aI
 deriving DecidableEq
inductive aq where
 |box (cs:List ah)
 |row (gr:Bool) (m:Mode) (sz:Nat) (xs:List (List C))
inductive aj where
 |one (c:ah)
 |agg (cs:List ah)
 |bH (xs:List (Bool×List ah))
instance:Inhabited aj:=⟨.one .bm⟩
structure St where
 env:Nat->aj
 h:Nat->Option aq
 used:Nat->Bool
def ax {α:Type} (f:Nat->α) (k:Nat) (v:α):Nat->α:=fun n=>match Nat.beq n k with
 |true=>v
 |false=>f n
theorem j8 {α:Type} (f:Nat->α) (k:Nat) (v:α) (n:Nat):ax f k v n=if n=k then v else f n:=by
 unfold ax;split
 ·rename_i e;rw[if_pos (Nat.eq_of_beq_eq_true e)]
 ·rename_i e;rw[if_neg (fun h=>by rw[h,Nat.beq_refl] at e;cases e)]
theorem bO {α:Type} (f:Nat->α) (k:Nat) (v:α):ax f k v k=v:=by simp[j8]
theorem cJ {α:Type} (f:Nat->α) (k n:Nat) (v:α) (h:n≠k):ax f k v n=f n:=by simp[j8,h]
def ah.hH:ah->Nat->Prop
 |.ptr n _ _ _,m=>m=n
 |.sl n _ _ _,m=>m=n
 |.bw n _ _ _ _ _,m=>m=n
 |.cY n _ _ _ _ _,m=>m=n
 |.cE _ _ _ n _ _,m=>m=n
 |_,_=>False
def ah.ref:ah->Nat->Prop
 |.fn _ cK,m=>∃x∈cK,x.hH m
 |x,m=>x.hH m
def aj.ref:aj->Nat->Prop
 |.one c,m=>c.ref m
 |.agg cs,m=>∃c∈cs,c.ref m
 |.bH xs,m=>∃x∈xs,∃c∈x.2,c.ref m
structure PB where
 nl:Bool
 b:Nat
 o:Nat
 cap:Nat
 px:List (List PC)
 na:Option Addr
instance:Inhabited PB:=⟨⟨false,0,0,0,[],none⟩⟩
def aW:Nat:=1000000
structure Ex where
 e:Nat->Prop
 oV:Nat->Option PB
 lt:∀n p,oV n=some p->aW<=n
 a:Nat->Prop
instance:CoeFun Ex (fun _=>Nat->Prop):=⟨Ex.e⟩
def Ex.no:Ex:=⟨fun _=>False,fun _=>none,fun _ _ h=>(by cases h),fun _=>True⟩
structure Gh where
 Im:Nat->Prop
 g:Nat->PB
def PC.ie:PC->Bool
 |.list ..=>true
 |_=>false
def gM (p:PB) (sz lo len:Nat) (v:Value):Prop:=
 (p.nl=true/\v=.slice p.na 0 p.cap/\lo=0/\len=0)\/
 (p.nl=false/\∃a,v=.slice a len (p.cap - lo)/\lo+len<=p.cap/\((lo<p.cap\/lo=0)->a=some (ad p.b (p.o+lo*sz))))
def ir (w:World) (G:Gh) (h:Nat->Option aq):ah->Value->Prop
 |.c x,v=>∃pc:PC,pc.er=x/\pc.val=v/\Good w pc/\∀b,aX b pc->G.Im b
 |.nil _,v=>v=.slice none 0 0
 |.ptr n k sz off,v=>h n≠none->(G.g n).nl=false/\v=.pointer (some (ad (G.g n).b ((G.g n).o+k*sz+off)))
 |.de xs off,v=>∃(b o:Nat) (pe:List PC),v=.pointer (some (ad b (o+off)))/\pe.map PC.er=xs/\G.Im b/\
  ∀j c,pe[j]? =some c->w.cell? (ad b (o+j))=some c.val/\Good w c/\∀b',aX b' c->G.Im b'
 |.sl n sz lo len,v=>h n≠none->gM (G.g n) sz lo len v
 |.bw n k aB off sz len,v=>∀gr xs,h n=some (.row gr .live aB xs)->∃pc,At (G.g n).px k off pc/\pc.val=v/\pc.ie=true
 |.cY n k aB off sz i,v=>∀gr xs,h n=some (.row gr .live aB xs)->∃(pc:PC) (b o len cap:Nat),At (G.g n).px k off pc/\pc.val=.slice (some (ad b o)) len cap/\pc.ie=true/\v=.pointer (some (ad b (o+i*sz)))
 |.cE xs off j n sz len,v=>∃(b o:Nat) (pe:List PC),v=.pointer (some (ad b (o+off)))/\pe.map PC.er=xs/\G.Im b/\
  (∀i c,i≠j->pe[i]? =some c->w.cell? (ad b (o+i))=some c.val/\Good w c/\∀b',aX b' c->G.Im b')/\∃u,w.cell? (ad b (o+j))=some u/\u.oneCell'=true/\(h n≠none->gM (G.g n) sz 0 len u)
 |.fn _ _,_=>False
 |.bm,_=>True
def RC (w:World) (G:Gh) (h:Nat->Option aq):ah->Value->Prop
 |.fn f cK,v=>∃vs:List Value,v=.func (.func f) #[] vs.toArray/\vs.length=cK.length/\∀(j:Nat) (c:ah) (u:Value),cK[j]? =some c->vs[j]? =some u->u.oneCell'=true/\ir w G h c u
 |c,v=>ir w G h c v
def ah.jW:ah->Bool
 |.fn _ _=>true
 |_=>false
theorem t8 (w:World) (G:Gh) (h:Nat->Option aq) (c:ah) (v:Value) (hc:c.jW=false):RC w G h c v=ir w G h c v:=by
 cases c<;>first|rfl|(simp[ah.jW] at hc)
theorem ah.adG (c:ah) (m:Nat) (hc:c.jW=false):c.ref m=c.hH m:=by
 cases c<;>first|rfl|(simp[ah.jW] at hc)
def dh (w:World) (G:Gh) (h:Nat->Option aq) (cs:List ah) (vs:List Value):Prop:=
 vs.length=cs.length/\∀(j:Nat) (c:ah) (u:Value),cs[j]? =some c->vs[j]? =some u->u.oneCell'=true/\RC w G h c u
def RV (w:World) (G:Gh) (h:Nat->Option aq) (ag:Bool) (cs:List ah) (v:Value):Prop:=
 if ag then∃vs:List Value,v=.agg vs.toArray/\dh w G h cs vs else dh w G h cs [v]
def RA (w:World) (G:Gh) (h:Nat->Option aq):aj->Value->Prop
 |.one c,v=>c=.bm\/RV w G h false [c] v
 |.agg cs,v=>RV w G h true cs v
 |.bH xs,v=>∃vs:List Value,v=.tuple vs.toArray/\vs.length=xs.length/\∀(j:Nat) (x:Bool×List ah) (u:Value),xs[j]? =some x->vs[j]? =some u->RV w G h x.1 x.2 u
structure bk (w:World) (G:Gh) (h:Nat->Option aq) (used:Nat->Prop) (w':World) (G':Gh) (h':Nat->Option aq):Prop where
 im:∀b,G.Im b->G'.Im b
 cell:∀b,G.Im b->∀o,w'.cell? (ad b o)=w.cell? (ad b o)
 name:∀n,used n->h' n≠none->h n≠none/\(G'.g n).nl=(G.g n).nl/\(G'.g n).b=(G.g n).b/\(G'.g n).o=(G.g n).o/\(G'.g n).cap=(G.g n).cap/\(G'.g n).na=(G.g n).na
 live:∀n gr sz xs,used n->h' n=some (.row gr .live sz xs)->(∃qq jp,h n=some (.row qq .live sz jp))/\
  ∀k j pc,At (G.g n).px k j pc->pc.ie=true->∃dv,At (G'.g n).px k j dv/\dv.val=pc.val/\dv.ie=true
section
variable {w w':World} {G G':Gh} {h h':Nat->Option aq} {used:Nat->Prop}
theorem ir.fP (K:bk w G h used w' G' h') {c:ah} {v:Value} (hr:∀m,c.hH m->used m) (hc:ir w G h c v):ir w' G' h' c v:=by
 cases c with
 |c x=>
  obtain⟨pc,h1,h2,h3,h4⟩:=hc;exact⟨pc,h1,h2,h3.congr fun b hb o=>K.cell b (h4 b hb) o,fun b hb=>K.im b (h4 b hb)⟩
 |nil sz=>exact hc
 |ptr n k sz off=>
  intro hn;obtain⟨h0,e1,e2,e3,e4,e5⟩:=K.name n (hr n rfl) hn;rw[e1,e2,e3];exact hc h0
 |de xs off=>
  obtain⟨b,o,pe,h1,h2,h3,h4⟩:=hc;refine⟨b,o,pe,h1,h2,K.im b h3,fun j c hj=>?_⟩;obtain⟨a1,a2,a3⟩:=h4 j c hj;exact⟨(K.cell b h3 _).trans a1,a2.congr fun b' aJ o'=>K.cell b' (a3 b' aJ) o',fun b' aJ=>K.im b' (a3 b' aJ)⟩
 |sl n sz lo len=>
  intro hn;obtain⟨h0,e1,e2,e3,e4,e5⟩:=K.name n (hr n rfl) hn;have:=hc h0;unfold gM at*
  rw[e1,e2,e3,e4,e5];exact this
 |bw n k aB off sz len=>
  intro gr xs hn;obtain⟨⟨qq,jp,h0⟩,hl⟩:=K.live n gr aB xs (hr n rfl) hn;obtain⟨pc,p1,p2,p3⟩:=hc qq jp h0;obtain⟨dv,q1,q2,q3⟩:=hl k off pc p1 p3;exact⟨dv,q1,q2.trans p2,q3⟩
 |cY n k aB off sz i=>
  intro gr xs hn;obtain⟨⟨qq,jp,h0⟩,hl⟩:=K.live n gr aB xs (hr n rfl) hn;obtain⟨pc,b,o,len,cap,p1,p2,p3,p4⟩:=hc qq jp h0;obtain⟨dv,q1,q2,q3⟩:=hl k off pc p1 p3;exact⟨dv,b,o,len,cap,q1,q2.trans p2,q3,p4⟩
 |cE xs off j n sz len=>
  obtain⟨b,o,pe,h1,h2,h3,h4,h5⟩:=hc;obtain⟨u,u1,u2,u3⟩:=h5;refine⟨b,o,pe,h1,h2,K.im b h3,fun i c iv hi=>?_,u,(K.cell b h3 _).trans u1,u2,fun hn=>?_⟩
  ·obtain⟨a1,a2,a3⟩:=h4 i c iv hi;exact⟨(K.cell b h3 _).trans a1,a2.congr fun b' aJ o'=>K.cell b' (a3 b' aJ) o',fun b' aJ=>K.im b' (a3 b' aJ)⟩
  ·obtain⟨h0,e1,e2,e3,e4,e5⟩:=K.name n (hr n rfl) hn;have:=u3 h0;unfold gM at*
   rw[e1,e2,e3,e4,e5];exact this
 |fn f cK=>exact hc
 |bm=>trivial
theorem RC.fP (K:bk w G h used w' G' h') {c:ah} {v:Value} (hr:∀m,c.ref m->used m) (hc:RC w G h c v):RC w' G' h' c v:=by
 by_cases hf:c.jW=false
 ·rw[t8 _ _ _ _ _ hf] at*
  exact hc.fP K fun m hm=>hr m (by rw[ah.adG c m hf];exact hm)
 ·cases c<;>first|(simp[ah.jW] at hf;done)|skip
  obtain⟨vs,h1,h2,h3⟩:=hc;exact⟨vs,h1,h2,fun j c u hj hu=>⟨(h3 j c u hj hu).1,(h3 j c u hj hu).2.fP K fun m hm=>hr m ⟨c,List.mem_of_getElem? hj,hm⟩⟩⟩
theorem dh.fP (K:bk w G h used w' G' h') {cs:List ah} {vs:List Value} (hr:∀c∈cs,∀m,c.ref m->used m) (hc:dh w G h cs vs):dh w' G' h' cs vs:=
 ⟨hc.1,fun j c u hj hu=>⟨(hc.2 j c u hj hu).1,(hc.2 j c u hj hu).2.fP K (hr c (List.mem_of_getElem? hj))⟩⟩
theorem RV.fP (K:bk w G h used w' G' h') {ag:Bool} {cs:List ah} {v:Value} (hr:∀c∈cs,∀m,c.ref m->used m) (hc:RV w G h ag cs v):RV w' G' h' ag cs v:=by
 unfold RV at*
 split
 ·rename_i h1;simp only[h1,if_true] at hc;obtain⟨vs,e,hv⟩:=hc;exact⟨vs,e,hv.fP K hr⟩
 ·rename_i h1;simp only[h1] at hc;exact dh.fP K hr hc
theorem RA.fP (K:bk w G h used w' G' h') {x:aj} {v:Value} (hr:∀m,x.ref m->used m) (hc:RA w G h x v):RA w' G' h' x v:=by
 cases x with
 |one c=>exact hc.imp id fun hv=>hv.fP K fun c' dm m hm=>hr m (by simp at dm;subst dm;exact hm)
 |agg cs=>exact RV.fP K (fun c' dm m hm=>hr m ⟨c',dm,hm⟩) hc
 |bH xs=>
  obtain⟨vs,e,hl,hv⟩:=hc;exact⟨vs,e,hl,fun j x u hj hu=>(hv j x u hj hu).fP K fun c' dm m hm=>hr m ⟨x,List.mem_of_getElem? hj,c',dm,hm⟩⟩
end
def E7 (w:World) (p:PB) (sz:Nat):Prop:=p.cap<=maxLen/\∃cur e,w.heap[p.b]? =some (.cells cur e (0,0))/\cur.size=p.o+p.cap*sz
def Ca (B:Nat) (E:Ex) (w:World) (G:Gh) (px:List (List PC)):Mode->Prop
 |.aI=>∀b,bf b px->G.Im b
 |.aO=>(∀b,bf b px->G.Im b/\dZ w b/\(B<=b\/E b))/\iM px
 |.live=>(∀b,bf b px->¬G.Im b/\dZ w b/\(B<=b\/E b))/\iM px
def pk (w:World):PC->Prop
 |.list sz a cap xs=>cap=0\/(xs≠[]/\cap<=maxLen/\∃b o cur e,a=some (ad b o)/\w.heap[b]? =some (.cells cur e (0,0))/\cur.size=o+cap*sz)
 |_=>True
def pn (w:World) (sz:Nat) (px:List (List PC)):Prop:=∀k pc,At px k (sz - 1) pc->pk w pc
theorem pk.cz {w w':World} {pc:PC} (h:pk w pc) (hb:∀b,aX b pc->∀arr e,w.heap[b]? =some (.cells arr e (0,0))->∃ue,w'.heap[b]? =some (.cells ue e (0,0))/\ue.size=arr.size):pk w' pc:=by
 cases pc with
 |int k n=>trivial
 |bool b=>trivial
 |list sz a cap xs=>
  rcases h with h|⟨h1,h2,b,o,cur,e,rfl,h4,h5⟩
  ·exact .inl h
  ·obtain⟨ue,q1,q2⟩:=hb b (.here _ _ _ _ h1) cur e h4;exact .inr ⟨h1,h2,b,o,ue,e,rfl,q1,by rw[q2];exact h5⟩
theorem pn.congr {w w':World} {sz:Nat} {px:List (List PC)} (h:pn w sz px) (hb:∀b,bf b px->w'.heap[b]? =w.heap[b]?):pn w' sz px:=
 fun k pc hk=>(h k pc hk).cz fun b aJ arr e he=>⟨arr,(hb b ⟨k,_,pc,hk,aJ⟩).trans he,rfl⟩
theorem pn.cz {w w':World} {sz:Nat} {px:List (List PC)} (h:pn w sz px) (hb:∀b,bf b px->∀arr e,w.heap[b]? =some (.cells arr e (0,0))->∃ue,w'.heap[b]? =some (.cells ue e (0,0))/\ue.size=arr.size):pn w' sz px:=
 fun k pc hk=>(h k pc hk).cz fun b aJ=>hb b ⟨k,_,pc,hk,aJ⟩
structure ua (B:Nat) (E:Ex) (w:World) (G:Gh) (gr:Bool) (m:Mode) (sz:Nat) (xs:List (List C)) (p:PB):Prop where
 pos:0<sz
 er:xs=p.px.map (fun e=>e.map PC.er)
 nl:p.nl=true->p.px=[]/\(gr=true->p.cap=0)
 eI:p.nl=false->dZ w p.b/\nD w p.b p.o sz p.px/\p.px.length<=p.cap
 room:p.nl=false->gr=true->E7 w p sz
 mode:Ca B E w G p.px m
 nr:gr=true->m=.live->pn w sz p.px
structure HR (B:Nat) (E:Ex) (w:World) (G:Gh) (h:Nat->Option aq) (used:Nat->Bool) (tk:List PC):Prop where
 ji:∀n,h n≠none->used n=true
 iq:∀m cs c n,h m=some (.box cs)->c∈cs->c.ref n->used n=true
 box:∀n cs,h n=some (.box cs)->(G.g n).nl=false/\dZ w (G.g n).b/\
  ∀(j:Nat) (c:ah),cs[j]? =some c->∃v,w.cell? (ad (G.g n).b ((G.g n).o+j))=some v/\v.oneCell'=true/\RC w G h c v
 row:∀n gr m sz xs,h n=some (.row gr m sz xs)->ua B E w G gr m sz xs (G.g n)
 own:∀n,h n≠none->(G.g n).nl=false->¬G.Im (G.g n).b/\(B<=(G.g n).b\/E (G.g n).b)/\(G.g n).b<w.heap.size
 inj:∀n n',h n≠none->h n'≠none->n≠n'->(G.g n).nl=false->(G.g n').nl=false->(G.g n).b≠(G.g n').b
 gC:∀b,G.Im b->b<w.heap.size
 pH:∀b,G.Im b->B<=b\/E b\/E.a b
 gn:∀n n' gr m sz xs bn m' aH ar,h n=some (.row gr m sz xs)->h n'=some (.row bn m' aH ar)->m≠ .aI->m'≠ .aI->n≠n'->
  ∀b,bf b (G.g n).px->¬bf b (G.g n').px
 live:∀n gr sz xs,h n=some (.row gr .live sz xs)->∀b,bf b (G.g n).px->∀n',h n'≠none->(G.g n').nl=false->b≠(G.g n').b
 sJ:∀(i:Nat) (pc:PC),tk[i]? =some pc->Sep pc/\∀b,aX b pc->G.Im b/\dZ w b/\(B<=b\/E b)
 xf:∀(i j:Nat) (pc dv:PC) (b:Nat),i≠j->tk[i]? =some pc->tk[j]? =some dv->aX b pc->¬aX b dv
 sK:∀(i:Nat) (pc:PC) (n:Nat) (gr:Bool) (m:Mode) (sz:Nat) (xs:List (List C)) (b:Nat),tk[i]? =some pc->h n=some (.row gr m sz xs)->m≠ .aI->aX b pc->¬bf b (G.g n).px
def Cz (w w':World) (b:Nat):Prop:=∀arr e,w.heap[b]? =some (.cells arr e (0,0))->∃ue,w'.heap[b]? =some (.cells ue e (0,0))/\ue.size=arr.size
theorem Cz.refl (w:World) (b:Nat):Cz w w b:=fun arr _ h=>⟨arr,h,rfl⟩
theorem Cz.of_eq {w w':World} {b:Nat} (h:w'.heap[b]? =w.heap[b]?):Cz w w' b:=fun arr _ h1=>⟨arr,h.trans h1,rfl⟩
theorem Cz.trans {w w1 w2:World} {b:Nat} (h1:Cz w w1 b) (h2:Cz w1 w2 b):Cz w w2 b:=fun arr e h=>by
 obtain⟨a1,e1,s1⟩:=h1 arr e h;obtain⟨a2,e2,s2⟩:=h2 a1 e e1;exact⟨a2,e2,s2.trans s1⟩
theorem Cz.j7 {w w':World} {b:Nat} (h:Cz w w' b) (hu:dZ w b):dZ w' b:=by
 obtain⟨arr,e,hu⟩:=hu;obtain⟨a,e1,_⟩:=h arr e hu;exact⟨a,e,e1⟩
structure Fr (B:Nat) (E:Ex) (w0 w:World):Prop where
 os:w.os=w0.os
 tape:w.tape=w0.tape
 output:w.output=w0.output
 size:B<=w.heap.size
 block:∀b,b<B->¬E b->w.heap[b]? =w0.heap[b]?
 j7:∀b,b<B->Cz w0 w b
def ag4 (p q:PB) (b:aq):Prop:=
 q.nl=p.nl/\q.b=p.b/\q.o=p.o/\q.cap=p.cap/\q.na=p.na/\
  ∀gr sz xs,b=.row gr .live sz xs->∀k j pc,At p.px k j pc->pc.ie=true->∃dv,At q.px k j dv/\dv.val=pc.val/\dv.ie=true
structure R (B:Nat) (E:Ex) (w0:World) (N:Nat) (σ:St) (a:Act) (w:World) (G:Gh):Prop where
 defers:a.defers=[]
 size:a.tmps.size=N
 env:∀s,RA w G σ.h (σ.env s) (a.tmps.getD s undef)
 pg:∀s n,(σ.env s).ref n->σ.used n=true
 hr:HR B E w G σ.h σ.used []
 fr:Fr B E w0 w
 oV:∀n p b,E.oV n=some p->σ.h n=some b->ag4 p (G.g n) b
 u7:∀n,aW<=n->σ.used n=true
inductive MO where
 |t (n:Nat)
 |k (v:aj)
inductive aU where
 |mv (x:MO)
 |pick (c x y:MO)
 |alloc (zs:List ah)
 |box (sz:Nat) (x:MO)
 |build (zs:List ah) (parts:List (Nat×Nat×MO))
 |ft (sz:Nat) (parts:List MO)
 |load (ag:Bool) (sz:Nat) (x:MO)
 |qS (ag:Bool) (sz:Nat) (x:MO)
 |store (sz:Nat) (x v:MO)
 |pT (x:MO)
 |bin (op:BinOp) (x y:MO)
 |nE (op:BinOp) (x y:MO)
 |un (op:UnOp) (x:MO)
 |conv (k:IntKind) (x:MO)
 |iJ (m:Mode) (sz by_:Nat) (zs:List C) (l c:MO)
 |slice (sz:Nat) (x:MO) (lo hi:Option MO)
 |tail (sz:Nat) (x lo:MO)
 |nN (off:Nat) (x:MO)
 |nj (sz:Nat) (x i:MO)
 |ext (i:Nat) (x:MO)
 |rM (ag:Bool) (off sz:Nat) (x:MO)
 |re (f:FuncId) (gm:Bool) (x:MO)
 |len (x:MO)
 |append (fl:Bool) (sz by_:Nat) (x y:MO)
 |copy (sz:Nat) (x y:MO)
 |mA (z:C) (x:MO)
 |mm (mx:Bool) (x y:MO)
 |call (m:Mode) (f:FuncId) (xs:List MO)
 |oF (f:FuncId) (xs:List MO)
 |sj (f:FuncId) (xs:List MO)
 |oG (m:Mode) (x:MO) (xs:List MO)
 |hZ (m:Mode) (f:FuncId) (xs:List MO)
 |ki (f:FuncId) (xs:List MO)
 |nG (f:FuncId) (xs:List MO)
 |mr (f:FuncId) (xs:List MO)
 |nH (m:Mode) (f:FuncId) (xs:List MO)
 |pq (m:Mode) (f:FuncId) (x:MO) (xs:List MO)
structure bN where
 dst:Option Nat
 op:aU
 guard:Option (Nat×Bool)
structure qd where
 ia:Nat
 sz:Nat
 by_:Nat
 mx:MO
 ml:MO
 my:MO
 d:Nat
inductive ET where
 |vC (sz:Nat) (p:MO)
 |vD (p:MO) (s:Nat)
 |pop (x lo:MO) (s:Nat)
 |vE (f:FuncId) (xs:List MO)
inductive ES where
 |op (m:bN)
 |pu (d:Nat) (c:ET)
inductive lG where
 |skip
 |ij (lK:Bool) (ops:List bN)
 |wT (ps:List (Nat×Nat)) (ops:List bN)
 |tE (its:List ES)
 |qZ (lK:Bool) (ps:List (Nat×Nat)) (ops:List bN) (sp:qd)
 |seq (a b:lG)
 |cond (c:MO) (a b:lG)
 |block (id:Nat) (c:lG)
 |join (ke kh:List Nat) (cn:List (Bool×Nat×Nat×Nat×Mode)) (c:lG)
 |loop (id:Nat) (ke kh:List Nat) (cn:List (Bool×Nat×Nat×Nat×Mode)) (c:lG)
 |exit (id:Nat)
 |ret
inductive K where
 |one|agg|ptr
 deriving DecidableEq
abbrev Dv:=K×List C
abbrev aM:=List (List (Option Mode))
structure aN where
 pure:List (FuncId×(List Dv->Option (List Dv)))
 u4:List (FuncId×aM×(List Dv->Option (List Dv×List C)))
 vs:List (FuncId×(List Dv->Option (List Dv×List C)))
 ws:List (FuncId×aM×(List Dv->Option (Nat×Nat)))
 xs:List (FuncId×Nat×(List Dv->Option (List Dv×List C)))
 ns:List (FuncId×(List Dv->Option (List Dv)))
def aN.nO:List (FuncId×aM×(List Dv->Option (List Dv×List C)))->FuncId->Option (aM×(List Dv->Option (List Dv×List C)))
 |[],_=>none
 |(g,M)::l,f=>if f=g then some M else aN.nO l f
def aN.s8:List (FuncId×aM×(List Dv->Option (Nat×Nat)))->FuncId->Option (aM×(List Dv->Option (Nat×Nat)))
 |[],_=>none
 |(g,M)::l,f=>if f=g then some M else aN.s8 l f
def aN.s9:List (FuncId×Nat×(List Dv->Option (List Dv×List C)))->FuncId->Option (Nat×(List Dv->Option (List Dv×List C)))
 |[],_=>none
 |(g,M)::l,f=>if f=g then some M else aN.s9 l f
def aN.lM:List (FuncId×(List Dv->Option (List Dv×List C)))->FuncId->Option (List Dv->Option (List Dv×List C))
 |[],_=>none
 |(g,M)::l,f=>if f=g then some M else aN.lM l f
def aN.find:List (FuncId×(List Dv->Option (List Dv)))->FuncId->Option (List Dv->Option (List Dv))
 |[],_=>none
 |(g,M)::l,f=>if f=g then some M else aN.find l f
inductive t6 where
 |fD (σ:St)
 |ext (id:Nat) (σ:St)
 |ret (σ:St)
def St.ev (σ:St):MO->aj
 |.t n=>σ.env n
 |.k v=>v
def St.put (σ:St) (d:Option Nat) (v:aj):St:=
 match d with
 |some n=>{σ with env:=ax σ.env n v}
 |none=>σ
def St.ins (σ:St) (n:Nat) (b:aq):Option St:=
 if σ.used n=true then none else some {σ with h:=ax σ.h n (some b),used:=ax σ.used n true}
def St.eD (σ:St) (n:Nat) (b:aq):St:={σ with h:=ax σ.h n (some b)}
def St.del (σ:St) (n:Nat):St:={σ with h:=ax σ.h n none}
def aj.cells?:aj->Option (Bool×List ah)
 |.one .bm=>none
 |.one c=>some (false,[c])
 |.agg cs=>some (true,cs)
 |.bH _=>none
def ov:Bool->List ah->aj
 |true,cs=>.agg cs
 |false,[c]=>.one c
 |false,_=>.one .bm
def sub {α:Type} (l:List α) (off sz:Nat):Option (List α):=if off+sz<=l.length then some ((l.drop off).take sz) else none
def dn {α:Type} (l:List α) (off:Nat) (vs:List α):List α:=l.take off++vs++l.drop (off+vs.length)
def C.fh:C->Bool
 |.list ..=>false
 |_=>true
def fF (l:List C):Bool:=l.all C.fh
def eO (l:List (List C)):Bool:=l.all fF
def iI (n k rs:Nat):Nat->List C->List ah
 |_,[]=>[]
 |off,.list sz ys::l=>.bw n k rs off sz ys.length::iI n k rs (off+1) l
 |off,x::l=>.c x::iI n k rs (off+1) l
def loadAt (h:Nat->Option aq) (p:ah) (sz:Nat):Option (List ah):=
 match p with
 |.ptr n k aB off=>
  match h n with
  |some (.box cs)=>if k=0 then sub cs off sz else none
  |some (.row _ m rs xs)=>
   if aB=rs then
    match xs[k]? with
    |some e=>match sub e off sz with
     |some l=>some (if m=.live then iI n k rs off l else l.map .c)
     |none=>none
    |none=>none
   else none
  |none=>none
 |.de xs off=>(sub xs off sz).map (·.map .c)
 |.cE xs off j n s len=>if off=j/\sz=1 then some [.sl n s 0 len] else if off+sz<=j then(sub xs off sz).map (·.map .c) else none
 |.cY n k aB off s i=>
  match h n with
  |some (.row _ .live rs xs)=>if rs=aB then
   match(xs[k]?).bind (·[off]?) with
   |some (.list s' ys)=>if s'=s/\sz=s then
    match ys[i]? with
    |some e=>if fF e=true then some (e.map .c) else none
    |none=>none
    else none
   |_=>none
   else none
  |_=>none
 |_=>none
def cO (h:Nat->Option aq):ah->Option C
 |.c x=>some x
 |.nil sz=>if 0<sz then some (.list sz []) else none
 |.sl n sz lo len=>
  match h n with
  |some (.row _ _ rs xs)=>if rs=sz/\lo+len<=xs.length then some (.list sz ((xs.drop lo).take len)) else none
  |_=>none
 |.bw n k aB off sz len=>
  match h n with
  |some (.row _ .live rs xs)=>if rs=aB then(xs[k]?).bind (·[off]?) else none
  |_=>none
 |_=>none
def iL (h:Nat->Option aq):List ah->Option (List C)
 |[]=>some []
 |c::cs=>match cO h c,iL h cs with
  |some x,some xs=>some (x::xs)
  |_,_=>none
def je (h:Nat->Option aq):aj->Option Dv
 |.one (.ptr n k sz off)=>
  match h n with
  |some (.box cs)=>if k=0/\off=0 then(iL h cs).map fun l=>(.ptr,l) else none
  |_=>none
 |.one (.de xs off)=>if off=0 then some (.ptr,xs) else none
 |.one c=>(cO h c).map fun x=>(.one,[x])
 |.agg cs=>(iL h cs).map fun l=>(.agg,l)
 |.bH _=>none
def kU (h:Nat->Option aq):List aj->Option (List Dv)
 |[]=>some []
 |c::cs=>match je h c,kU h cs with
  |some x,some xs=>some (x::xs)
  |_,_=>none
def St.fR (σ:St):ah->Option (C×Bool×St)
 |.c x=>some (x,x.fh,σ)
 |.nil sz=>if 0<sz then some (.list sz [],true,σ) else none
 |.sl n sz lo len=>
  match σ.h n with
  |some (.row _ m rs xs)=>if rs=sz/\lo=0/\len<=xs.length then some (.list sz (xs.take len),decide (m≠ .aI),σ.del n) else none
  |_=>none
 |_=>none
def St.gw (σ:St):List ah->Option (List C×Bool×St)
 |[]=>some ([],true,σ)
 |c::cs=>match σ.fR c with
  |some (x,o,σ1)=>match σ1.gw cs with
   |some (xs,o',σ2)=>some (x::xs,o&&o',σ2)
   |none=>none
  |none=>none
def St.uw (σ:St):ah->Option St
 |.ptr n _ _ _=>match σ.h n with
  |some (.box cs)=>match σ.gw cs with
   |some (xs,_,σ1)=>some (σ1.eD n (.box (xs.map .c)))
   |none=>none
  |_=>none
 |_=>none
def St.mS (sz:Nat) (σ:St):List aj->Option (List (List C)×Bool×St)
 |[]=>some ([],true,σ)
 |v::vs=>match v.cells? with
  |some (_,cs)=>if cs.length=sz then
   match σ.gw cs with
   |some (e,o,σ1)=>match σ1.mS sz vs with
    |some (es,o',σ2)=>some (e::es,o&&o',σ2)
    |none=>none
   |none=>none
   else none
  |none=>none
def Mode.tA:Mode->Bool
 |.live=>false
 |_=>true
def St.imp (m:Mode) (σ:St):Nat->List C->Option (List ah×Nat×St)
 |nm,[]=>some ([],nm,σ)
 |nm,.list sz xs::cs=>match σ.ins nm (.row m.tA m sz xs) with
  |some σ1=>match σ1.imp m (nm+1) cs with
   |some (l,gu,σ2)=>some (.sl nm sz 0 xs.length::l,gu,σ2)
   |none=>none
  |none=>none
 |nm,x::cs=>match σ.imp m nm cs with
  |some (l,gu,σ2)=>some (.c x::l,gu,σ2)
  |none=>none
def St.jE (m:Mode) (σ:St):Nat->List Dv->Option (List (Bool×List ah)×St)
 |_,[]=>some ([],σ)
 |nm,(.ptr,_)::_=>none
 |nm,(k,cs)::ds=>match σ.imp m nm cs with
  |some (l,gu,σ1)=>match σ1.jE m gu ds with
   |some (ls,σ2)=>some ((decide (k=.agg),l)::ls,σ2)
   |none=>none
  |none=>none
def lZ:List (Bool×List ah)->aj
 |[(ag,cs)]=>ov ag cs
 |l=>.bH l
def jI (d:Option Nat):Nat:=match d with|some n=>1000*(n+1)|none=>999
def kl:List Dv->Option (List (Bool×List ah))
 |[]=>some []
 |(.ptr,_)::_=>none
 |(k,cs)::ds=>match kl ds with
  |some ls=>some ((decide (k=.agg),cs.map .c)::ls)
  |none=>none
def Cv (T:aN) (f:FuncId) (as:List aj) (h:Nat->Option aq):Option aj:=
 match kU h as with
 |some ds=>match aN.find T.pure f with
  |some M=>match M ds with
   |some rs=>match kl rs with
    |some ls=>some (lZ ls)
    |none=>none
   |none=>none
  |none=>none
 |none=>none
def vL (T:aN) (m:Mode) (d:Option Nat) (f:FuncId) (as:List aj) (σ:St):Option St:=
 match kU σ.h as with
 |some ds=>match aN.find T.pure f with
  |some M=>match M ds with
   |some rs=>match σ.jE m (jI d) rs with
    |some (ls,σ1)=>some (σ1.put d (lZ ls))
    |none=>none
   |none=>none
  |none=>none
 |none=>none
def pI:ah->Option C
 |.c x=>some x
 |.nil sz=>if 0<sz then some (.list sz []) else none
 |_=>none
def kJ:List ah->Option (List C)
 |[]=>some []
 |c::cs=>match pI c,kJ cs with
  |some x,some xs=>some (x::xs)
  |_,_=>none
def mY (h:Nat->Option aq):aj->Option (Nat×List C)
 |.one (.ptr n k _ off)=>if k=0/\off=0 then match h n with
  |some (.box cs)=>match kJ cs with
   |some xs=>some (n,xs)
   |none=>none
  |_=>none
  else none
 |_=>none
def St.iP (σ:St):List aj->Option (List Dv×List Nat×St)
 |[]=>some ([],[],σ)
 |v::vs=>match mY σ.h v with
  |some (n,xs)=>match σ.iP vs with
   |some (ds,ns,σ1)=>some ((.ptr,xs)::ds,n::ns,σ1)
   |none=>none
  |none=>match v.cells? with
   |some (ag,cs)=>match σ.gw cs with
    |some (xs,_,σ1)=>match σ1.iP vs with
     |some (ds,ns,σ2)=>some ((if ag=true then .agg else .one,xs)::ds,ns,σ2)
     |none=>none
    |none=>none
   |none=>none
def St.sq (σ:St):List Nat->List C->Option St
 |[],[]=>some σ
 |[n],out=>match σ.h n with
  |some (.box cs)=>if cs.length=out.length then some (σ.eD n (.box (out.map .c))) else none
  |_=>none
 |_,_=>none
def rz (σ:St) (d:Option Nat):List Dv->Option St
 |[(.ptr,cs)]=>match d with
  |some q=>match σ.ins q (.box (cs.map .c)) with
   |some σ1=>some (σ1.put d (.one (.ptr q 0 0 0)))
   |none=>none
  |none=>none
 |rs=>match kl rs with
  |some ls=>some (σ.put d (lZ ls))
  |none=>none
def rE (T:aN) (d:Option Nat) (f:FuncId) (as:List aj) (σ:St):Option St:=
 match σ.iP as,aN.lM T.vs f with
 |some (ds,ns,σ1),some M=>match M ds with
  |some (rs,out)=>match σ1.sq ns out with
   |some σ2=>rz σ2 d rs
   |none=>none
  |none=>none
 |_,_=>none
def Ba:List aj->Option (List Dv)
 |[]=>some []
 |v::vs=>match v.cells? with
  |some (ag,cs)=>match kJ cs with
   |some xs=>match Ba vs with
    |some ds=>some ((if ag=true then .agg else .one,xs)::ds)
    |none=>none
   |none=>none
  |none=>none
def zQ (T:aN) (f:FuncId) (as:List aj):Option aj:=
 match Ba as,aN.lM T.vs f with
 |some ds,some M=>match M ds with
  |some (rs,[])=>match kl rs with
   |some ls=>some (lZ ls)
   |none=>none
  |_=>none
 |_,_=>none
theorem alK {c:ah} {x:C} (h:pI c=some x) (σ:St):∃o,σ.fR c=some (x,o,σ):=by
 cases c with
 |c y=>simp only[pI] at h;injection h with h;subst h;exact⟨_,rfl⟩
 |nil sz=>
  simp only[pI] at h;split at h
  ·rename_i hp;injection h with h;subst h;exact⟨_,if_pos hp⟩
  ·cases h
 |_=>simp[pI] at h
theorem aaB:∀{cs:List ah} {xs:List C},kJ cs=some xs->∀σ:St,∃o,σ.gw cs=some (xs,o,σ)
 |[],xs,h,σ=>by simp only[kJ] at h;injection h with h;subst h;exact⟨_,rfl⟩
 |c::cs,xs,h,σ=>by
  simp only[kJ] at h;split at h
  ·rename_i x ar e1 e2;injection h with h;subst h;obtain⟨o1,h1⟩:=alK e1 σ;obtain⟨o2,h2⟩:=aaB e2 σ;exact⟨o1&&o2,by simp only[St.gw,h1,h2]⟩
  ·cases h
theorem adu:∀{as:List aj} {ds:List Dv},Ba as=some ds->∀σ:St,σ.iP as=some (ds,[],σ)
 |[],ds,h,σ=>by simp only[Ba] at h;injection h with h;subst h;rfl
 |v::vs,ds,h,σ=>by
  simp only[Ba] at h;split at h
  ·rename_i ag cs hc;split at h
   ·rename_i xs hi;split at h
    ·rename_i ur hq;injection h with h;subst h;have hp:mY σ.h v=none:=by
      unfold mY;split
      ·simp only[aj.cells?] at hc;injection hc with hc;injection hc with _ hc;subst hc;simp[kJ,pI] at hi
      ·rfl
     obtain⟨o,ht⟩:=aaB hi σ;simp only[St.iP,hp,hc,ht,adu hq σ]
    ·cases h
   ·cases h
  ·cases h
theorem aij {T:aN} {d:Option Nat} {f:FuncId} {as:List aj} {v:aj} (h:zQ T f as=some v) (σ:St):rE T d f as σ=some (σ.put d v):=by
 unfold zQ at h;split at h
 ·rename_i ds M hq hM;split at h
  ·rename_i rs rP;split at h
   ·rename_i ls hl;injection h with h;subst h;simp only[rE,adu hq σ,hM,rP,St.sq];unfold rz;split
    ·simp[kl] at hl
    ·rw[hl]
   ·cases h
  ·cases h
 ·cases h
def C.uq:C->Bool
 |.list _ xs=>eO xs
 |_=>true
def C.sa:C->Bool
 |.list ..=>true
 |_=>false
def uu:Mode->List (List C)->Bool
 |.aO,xs=>eO xs
 |.live,xs=>xs.all fun e=>e.all C.uq
 |.aI,_=>false
inductive dz where
 |nil (sz:Nat)
 |row (n:Nat)
 |nest (n k off:Nat)
def tx (h:Nat->Option aq) (md:Mode):ah->Option (dz×C)
 |.nil sz=>if 0<sz/\md≠ .aI then some (.nil sz,.list sz []) else none
 |.sl n sz lo len=>match h n with
  |some (.row gr m rs xs)=>if m≠ .aI/\(md=.live->m=.live)/\rs=sz/\lo=0/\len=xs.length/\uu md xs=true/\(m=.live->gr=false) then some (.row n,.list sz xs) else none
  |_=>none
 |.bw n k aB off sz len=>match h n with
  |some (.row false .live rs xs)=>if rs=aB/\md=.aO then
   match(xs[k]?).bind (·[off]?) with
   |some (.list s ys)=>if eO ys=true then some (.nest n k off,.list s ys) else none
   |_=>none
   else none
  |_=>none
 |_=>none
def dz.eN:dz->Option Nat
 |.nil _=>none
 |.row n=>some n
 |.nest n _ _=>some n
def ah.eN:ah->Option Nat
 |.sl n _ _ _=>some n
 |.bw n _ _ _ _ _=>some n
 |_=>none
def nz:List (Option Mode)->List ah->List Nat
 |some _::fs,c::cs=>c.eN.toList++nz fs cs
 |none::fs,_::cs=>nz fs cs
 |_,_=>[]
def jY (h h0:Nat->Option aq):List (Option Mode)->List ah->Option (List C×List (dz×Mode))
 |[],cs=>match iL h0 cs with
  |some xs=>some (xs,[])
  |none=>none
 |none::fs,c::cs=>match cO h0 c,jY h h0 fs cs with
  |some x,some (xs,its)=>some (x::xs,its)
  |_,_=>none
 |some md::fs,c::cs=>match tx h md c,jY h h0 fs cs with
  |some (it,x),some (xs,its)=>some (x::xs,(it,md)::its)
  |_,_=>none
 |_::_,[]=>none
def oS:aM->List (Bool×List ah)->List Nat
 |s::sig,a::as=>nz s a.2++oS sig as
 |_,_=>[]
def aM.hd:aM->List (Option Mode)
 |[]=>[]
 |s::_=>s
def aM.tl:aM->aM
 |[]=>[]
 |_::sig=>sig
def mN (h h0:Nat->Option aq):aM->List (Bool×List ah)->Option (List Dv×List (dz×Mode))
 |_,[]=>some ([],[])
 |sig,(ag,cs)::as=>match jY h h0 (aM.hd sig) cs,mN h h0 (aM.tl sig) as with
  |some (xs,its),some (ds,pK)=>some ((if ag=true then(.agg,xs) else(.one,xs))::ds,its++pK)
  |_,_=>none
def qT:List aj->Option (List (Bool×List ah))
 |[]=>some []
 |v::vs=>match v.cells?,qT vs with
  |some x,some xs=>some (x::xs)
  |_,_=>none
def dH (h:Nat->Option aq) (ns:List Nat):Nat->Option aq:=fun n=>if ns.contains n=true then none else h n
def St.oW (σ:St):dz->C->Option St
 |.nil _,_=>some σ
 |.row n,.list sz xs=>match σ.h n with
  |some (.row gr m rs _)=>if rs=sz then some (σ.eD n (.row gr m rs xs)) else none
  |_=>none
 |.nest n k off,x=>match σ.h n with
  |some (.row gr m rs xs)=>match xs[k]? with
   |some e=>some (σ.eD n (.row gr m rs (xs.set k (e.set off x))))
   |none=>none
  |_=>none
 |_,_=>none
def St.od (σ:St):List (dz×Mode)->List C->Option St
 |[],[]=>some σ
 |it::its,x::xs=>match σ.oW it.1 x with
  |some σ1=>σ1.od its xs
  |none=>none
 |_,_=>none
def rF (T:aN) (m:Mode) (d:Option Nat) (f:FuncId) (as:List aj) (σ:St):Option St:=
 match aN.nO T.u4 f,qT as with
 |some (sig,M),some cZ=>
  if(oS sig cZ).Nodup then
   match mN σ.h (dH σ.h (oS sig cZ)) sig cZ with
   |some (ds,its)=>match M ds with
    |some (rs,dW)=>match σ.od its dW with
     |some σ1=>match σ1.jE m (jI d) rs with
      |some (ls,σ2)=>some (σ2.put d (lZ ls))
      |none=>none
     |none=>none
    |none=>none
   |none=>none
  else none
 |_,_=>none
def Tc (s:List (Option Mode)) (n:Nat):Bool:=decide (s=[]\/(0<n/\s=List.replicate (n - 1) none++[some .aO]))
def yQ (h:Nat->Option aq) (s:List (Option Mode)):aj->Option (K×List ah)
 |.one (.ptr n k _ off)=>match h n with
  |some (.box cs)=>if k=0/\off=0/\Tc s cs.length=true then some (.ptr,cs) else none
  |_=>none
 |v=>match v.cells? with
  |some (ag,cs)=>some (if ag=true then .agg else .one,cs)
  |none=>none
def yR (h:Nat->Option aq):aM->List aj->Option (List (K×List ah))
 |_,[]=>some []
 |sig,v::vs=>match yQ h (aM.hd sig) v,yR h (aM.tl sig) vs with
  |some x,some xs=>some (x::xs)
  |_,_=>none
def yV:aM->List (K×List ah)->List Nat
 |s::sig,a::as=>nz s a.2++yV sig as
 |_,_=>[]
def su (h h0:Nat->Option aq):aM->List (K×List ah)->Option (List Dv×List (dz×Mode))
 |_,[]=>some ([],[])
 |sig,(k,cs)::as=>match jY h h0 (aM.hd sig) cs,su h h0 (aM.tl sig) as with
  |some (xs,its),some (ds,pK)=>some ((k,xs)::ds,its++pK)
  |_,_=>none
def vM (T:aN) (m:Mode) (d:Option Nat) (f:FuncId) (as:List aj) (σ:St):Option St:=
 match aN.nO T.u4 f with
 |some (sig,M)=>match yR σ.h sig as with
  |some cZ=>if(yV sig cZ).Nodup then
   match su σ.h (dH σ.h (yV sig cZ)) sig cZ with
   |some (ds,its)=>match M ds with
    |some (rs,dW)=>match σ.od its dW with
     |some σ1=>match σ1.jE m (jI d) rs with
      |some (ls,σ2)=>some (σ2.put d (lZ ls))
      |none=>none
     |none=>none
    |none=>none
   |none=>none
   else none
  |none=>none
 |none=>none
def zm:Nat->aM
 |0=>[[some .aO]]
 |i+1=>[]::zm i
def dI (n:Nat):Dv:=(.one,[.int .i64 (n:Int)])
def xM (i lo hi:Nat) (M:List Dv->Option (List Dv×List C)) (ds:List Dv):Option (List Dv×List C):=
 match ds[i]? with
 |some (.one,[.list 1 _])=>M (dI lo::dI hi::ds)
 |_=>none
def EN (h:Nat->Option aq):aj->Option (Nat×Nat×Nat×Nat)
 |.one (.sl n s lo len)=>match h n with
  |some (.row _ _ rs xs)=>if s=1/\rs=1/\lo<xs.length/\lo+len<=xs.length then some (n,lo,len,xs.length) else none
  |_=>none
 |_=>none
def vN (T:aN) (m:Mode) (d:Option Nat) (f:FuncId) (as:List aj) (σ:St):Option St:=
 match aN.s9 T.xs f with
 |some (i,M)=>match as[i]? with
  |some a=>match EN σ.h a with
   |some (n,lo,len,N)=>rF {T with u4:=[(f,zm i,xM i lo (lo+len) M)]} m d f (as.set i (.one (.sl n 1 0 N))) σ
   |none=>none
  |none=>none
 |none=>none
def qk (T:aN) (f:FuncId) (as:List aj) (h:Nat->Option aq):Option aj:=
 match aN.s8 T.ws f,qT as with
 |some (sig,M),some cZ=>
  match oS sig cZ with
  |[n]=>match mN h (dH h [n]) sig cZ with
   |some (ds,[(.row n',_)])=>if n'=n then match h n,M ds with
    |some (.row _ _ sz _),some (lo,len)=>some (.one (.sl n sz lo len))
    |_,_=>none
    else none
   |_=>none
  |_=>none
 |_,_=>none
def Cr (op:BinOp) (k:IntKind) (a b:Int):Option C:=
 match op with
 |.add=>some (.int k (k.wrap (a+b)))
 |.sub=>some (.int k (k.wrap (a - b)))
 |.mul=>some (.int k (k.wrap (a*b)))
 |.quo=>if b=0 then none else some (.int k (k.wrap (a.tdiv b)))
 |.rem=>if b=0 then none else some (.int k (a.tmod b))
 |.and=>some (.int k (bits .and k a b))
 |.or=>some (.int k (bits .or k a b))
 |.xor=>some (.int k (bits .xor k a b))
 |.eql=>some (.bool (a==b))
 |.neq=>some (.bool (a !=b))
 |.lss=>some (.bool (decide (a<b)))
 |.leq=>some (.bool (decide (a<=b)))
 |.gtr=>some (.bool (decide (b<a)))
 |.geq=>some (.bool (decide (b<=a)))
 |_=>none
def Hy (op:BinOp) (k:IntKind) (a b:Int):Option C:=
 if b<0 then none else
 match op with
 |.shl=>some (.int k (k.wrap (a*2^(min b.toNat k.bits))))
 |.shr=>some (.int k (a/(2^(min b.toNat k.bits))))
 |_=>none
def BinOp.AH:BinOp->Bool
 |.shl|.shr=>true
 |_=>false
def xH (op:BinOp):aj->aj->Option C
 |.one (.c (.int k a)),.one (.c (.int k' b))=>if BinOp.AH op=true then Hy op k a b else if k=k' then Cr op k a b else none
 |_,_=>none
def Cq (op:BinOp):aj->aj->Option C
 |.one (.c (.bool a)),.one (.c (.bool b))=>match op with
  |.eql=>some (.bool (a==b))
  |.neq=>some (.bool (a !=b))
  |_=>none
 |_,_=>none
def EI (op:UnOp):aj->Option C
 |.one (.c (.bool a))=>match op with
  |.not=>some (.bool (!a))
  |_=>none
 |.one (.c (.int k a))=>match op with
  |.neg=>some (.int k (k.wrap (0 - a)))
  |_=>none
 |_=>none
def aj.dV:aj->Option Int
 |.one (.c (.int _ n))=>some n
 |_=>none
def dR:Nat:=140737488355328
def rh (ev:MO->aj):List ah->List (Nat×Nat×MO)->Option (List ah)
 |zs,[]=>some zs
 |zs,(off,sz,x)::ps=>match(ev x).cells? with
  |some (_,cs)=>if cs.length=sz/\off+sz<=zs.length then rh ev (dn zs off cs) ps else none
  |none=>none
def oq (σ:St) (n:Nat) (gr:Bool) (m:Mode) (rs:Nat) (xs:List (List C)) (k off:Nat) (e:List C) (vs:List ah):Option St:=
 match sub e off vs.length with
 |none=>none
 |some ii=>match σ.gw vs with
  |none=>none
  |some (cs,o,σ1)=>
   if m=.live then
    if fF cs=true/\fF ii=true/\(σ1.h n).isSome=true/\gr=false then some (σ1.eD n (.row gr m rs (xs.set k (dn e off cs)))) else none
   else if(σ1.h n).isSome=true then
    some (σ1.eD n (.row gr (if o=true then m else .aI) rs (xs.set k (dn e off cs))))
   else none
def mB:List ah->Option (List C)
 |[]=>some []
 |.c x::l=>if x.fh=true then(mB l).map (x::·) else none
 |_::_=>none
def w6 (xs:List (List C)) (k off s i:Nat) (vs:List ah):Option (List (List C)):=
 match(xs[k]?).bind (·[off]?) with
 |some (.list s' ys)=>if s'=s/\vs.length=s/\i<ys.length/\eO ys=true then(mB vs).map fun cs=>xs.set k ((xs.getD k []).set off (.list s' (ys.set i cs))) else none
 |_=>none
def rv (σ:St) (sz:Nat):aj->Option (List (List C)×Mode×St)
 |.one (.nil _)=>some ([],.aO,σ)
 |.one (.sl a s 0 len)=>match σ.h a with
  |some (.row true m rs xs)=>if rs=sz/\s=sz/\len=xs.length then some (xs,m,σ.del a) else none
  |_=>none
 |_=>none
def mq (fl:Bool) (σ1:St) (sz:Nat) (m:Mode):aj->Option (List (List C)×Mode×St)
  |.one (.nil _)=>some ([],m,σ1)
  |.one (.c (.list s ys))=>if s=sz then(if(fl&&eO ys)=true then some (ys,m,σ1) else if m=.live then none else some (ys,.aI,σ1)) else none
  |.one (.sl b s lo len)=>match σ1.h b with
   |some (.row gr m' rs ys)=>if rs=sz/\s=sz/\lo+len<=ys.length then
       (if(fl&&eO ((ys.drop lo).take len))=true then some ((ys.drop lo).take len,m,σ1)
        else if lo=0/\len=ys.length then(if m=m'/\(m=.live->gr=true) then some (ys,m,σ1.del b) else if m=.live\/m'=.live then none else some (ys,.aI,σ1.del b)) else none)
    else none
   |_=>none
  |_=>none
def ah.LY:ah->Bool
 |.bm=>false
 |_=>true
def Be (gm:Bool) (n:Int) (c:ah):List ah:=if gm=true then[.c (.int .i64 n),.c (.int .i64 1),c] else[.c (.int .i64 1),.c (.int .i64 n),c]
def exec (T:aN) (d:Option Nat) (op:aU) (σ:St):Option St:=
 match op with
 |.mv x=>some (σ.put d (σ.ev x))
 |.pick c x y=>match σ.ev c with
  |.one (.c (.bool b))=>if b=true then some (σ.put d (σ.ev x)) else some (σ.put d (σ.ev y))
  |_=>none
 |.alloc zs=>match d with
  |some n=>match σ.ins n (.box zs) with
   |some σ1=>some (σ1.put d (.one (.ptr n 0 0 0)))
   |none=>none
  |none=>none
 |.box sz x=>match d,(σ.ev x).cells? with
  |some n,some (_,cs)=>if cs.length=sz then
   match σ.ins n (.box cs) with
   |some σ1=>some (σ1.put d (.one (.ptr n 0 0 0)))
   |none=>none
   else none
  |_,_=>none
 |.build zs parts=>match rh σ.ev zs parts with
  |some cs=>some (σ.put d (.agg cs))
  |none=>none
 |.ft sz parts=>match d,σ.mS sz (parts.map σ.ev) with
  |some n,some (es,o,σ1)=>match σ1.ins n (.row true (if o=true then .aO else .aI) sz es) with
   |some σ2=>some (σ2.put d (.one (.sl n sz 0 es.length)))
   |none=>none
  |_,_=>none
 |.load ag sz x=>match σ.ev x with
  |.one p=>match loadAt σ.h p sz with
   |some cs=>some (σ.put d (ov ag cs))
   |none=>none
  |_=>none
 |.qS ag sz x=>match σ.ev x with
  |.one p=>match σ.uw p with
   |some σ1=>match loadAt σ1.h p sz with
    |some cs=>some (σ1.put d (ov ag cs))
    |none=>none
   |none=>none
  |_=>none
 |.store sz x v=>match σ.ev x,(σ.ev v).cells? with
  |.one (.ptr n k aB off),some (_,vs)=>if vs.length=sz then
   match σ.h n with
   |some (.box cs)=>if k=0/\off+sz<=cs.length then some (σ.eD n (.box (dn cs off vs))) else none
   |some (.row gr m rs xs)=>if aB=rs then
    match xs[k]? with
    |some e=>oq σ n gr m rs xs k off e vs
    |none=>none
    else none
   |none=>none
   else none
  |.one (.cY n k aB off s i),some (_,vs)=>if vs.length=sz then
   match σ.h n with
   |some (.row false .live rs xs)=>if aB=rs then
    match w6 xs k off s i vs with
    |some ar=>some (σ.eD n (.row false .live rs ar))
    |none=>none
    else none
   |_=>none
   else none
  |_,_=>none
 |.pT x=>match σ.ev x with
  |.one (.ptr n k sz off)=>if(σ.h n).isSome=true then some (σ.put d (.one (.ptr n k sz off))) else none
  |.one (.de xs off)=>some (σ.put d (.one (.de xs off)))
  |.one (.cE xs off j n s len)=>some (σ.put d (.one (.cE xs off j n s len)))
  |_=>none
 |.bin op x y=>match xH op (σ.ev x) (σ.ev y) with
  |some c=>some (σ.put d (.one (.c c)))
  |none=>none
 |.nE op x y=>match Cq op (σ.ev x) (σ.ev y) with
  |some c=>some (σ.put d (.one (.c c)))
  |none=>none
 |.un op x=>match EI op (σ.ev x) with
  |some c=>some (σ.put d (.one (.c c)))
  |none=>none
 |.conv k x=>match σ.ev x with
  |.one (.c (.int _ n))=>some (σ.put d (.one (.c (.int k (k.wrap n)))))
  |_=>none
 |.iJ m sz by_ zs l c=>match d,(σ.ev l).dV,(σ.ev c).dV with
  |some n,some a,some b=>if a<=b/\0<=a/\b.toNat*by_<=dR/\zs.length=sz then
   match σ.ins n (.row true m sz (List.replicate a.toNat zs)) with
   |some σ1=>some (σ1.put d (.one (.sl n sz 0 a.toNat)))
   |none=>none
   else none
  |_,_,_=>none
 |.slice sz x lo hi=>
  let Ss:Option Int:=match lo with|none=>some 0|some l=>(σ.ev l).dV
  match σ.ev x,Ss with
  |.one (.sl n s l0 len),some l=>
   match(match hi with|none=>some (len:Int)|some h=>(σ.ev h).dV) with
   |some h=>if s=sz/\0<=l/\l<=h/\h<=len/\(σ.h n).isSome=true then some (σ.put d (.one (.sl n s (l0+l.toNat) (h - l).toNat))) else none
   |none=>none
  |.one (.c (.list s xs)),some l=>
   match(match hi with|none=>some (xs.length:Int)|some h=>(σ.ev h).dV) with
   |some h=>if s=sz/\0<=l/\l<=h/\h<=xs.length then some (σ.put d (.one (.c (.list s ((xs.drop l.toNat).take (h - l).toNat))))) else none
   |none=>none
  |_,_=>none
 |.tail sz x lo=>match d,σ.ev x,(σ.ev lo).dV with
  |some n,.one (.sl a s 0 len),some l=>match σ.h a with
   |some (.row true m rs xs)=>if rs=sz/\s=sz/\len=xs.length/\0<=l/\l<=len then
    match(σ.del a).ins n (.row true m sz (xs.drop l.toNat)) with
    |some σ1=>some (σ1.put d (.one (.sl n sz 0 (xs.length - l.toNat))))
    |none=>none
    else none
   |_=>none
  |_,_,_=>none
 |.nN off x=>match σ.ev x with
  |.one (.ptr n k sz o)=>if(σ.h n).isSome=true then some (σ.put d (.one (.ptr n k sz (o+off)))) else none
  |.one (.de xs o)=>some (σ.put d (.one (.de xs (o+off))))
  |.one (.cE xs o j n s len)=>some (σ.put d (.one (.cE xs (o+off) j n s len)))
  |_=>none
 |.nj sz x i=>match σ.ev x,(σ.ev i).dV with
  |.one (.sl n s lo len),some k=>if s=sz/\0<=k/\k<len/\(σ.h n).isSome=true then some (σ.put d (.one (.ptr n (lo+k.toNat) s 0))) else none
  |.one (.c (.list s xs)),some k=>if s=sz/\0<=k then
   match xs[k.toNat]? with
   |some e=>some (σ.put d (.one (.de e 0)))
   |none=>none
   else none
  |.one (.bw n kk aB off s len),some k=>match cO σ.h (.bw n kk aB off s len) with
   |some (.list s' ys)=>if s'=sz/\0<=k/\k<ys.length then some (σ.put d (.one (.cY n kk aB off sz k.toNat))) else none
   |_=>none
  |_,_=>none
 |.ext i x=>match σ.ev x with
  |.bH xs=>match xs[i]? with
   |some (ag,cs)=>some (σ.put d (ov ag cs))
   |none=>none
  |_=>none
 |.rM ag off sz x=>match σ.ev x with
  |.agg cs=>match sub cs off sz with
   |some l=>some (σ.put d (ov ag l))
   |none=>none
  |_=>none
 |.re f gm x=>match σ.ev x with
  |.one (.sl n sz lo len)=>if(σ.h n).isSome=true then some (σ.put d (.agg (Be gm len (.sl n sz lo len)))) else none
  |.one (.c (.list sz xs))=>some (σ.put d (.agg (Be gm xs.length (.c (.list sz xs)))))
  |.one (.nil sz)=>some (σ.put d (.agg (Be gm 0 (.nil sz))))
  |_=>none
 |.len x=>match σ.ev x with
  |.one (.sl n sz lo len)=>if(σ.h n).isSome=true then some (σ.put d (.one (.c (.int .i64 len)))) else none
  |.one (.c (.list sz xs))=>some (σ.put d (.one (.c (.int .i64 xs.length))))
  |.one (.nil sz)=>some (σ.put d (.one (.c (.int .i64 0))))
  |.one (.bw n k aB off sz len)=>match cO σ.h (.bw n k aB off sz len) with
   |some (.list s ys)=>some (σ.put d (.one (.c (.int .i64 ys.length))))
   |_=>none
  |_=>none
 |.append fl sz by_ x y=>match d with
  |none=>none
  |some n=>match rv σ sz (σ.ev x) with
   |none=>none
   |some (xs,m,σ1)=>match mq fl σ1 sz m (σ.ev y) with
    |none=>none
    |some (ys,m2,σ2)=>
     if(xs.length+ys.length)*by_<=dR then
      match σ2.ins n (.row true m2 sz (xs++ys)) with
      |some gK=>some (gK.put d (.one (.sl n sz 0 (xs.length+ys.length))))
      |none=>none
     else none
 |.copy sz x y=>match σ.ev x,σ.ev y with
  |.one (.sl n s lo len),.one c=>match σ.h n,cO σ.h c with
   |some (.row gr m rs xs),some (.list s' ys)=>if sz=1/\s=1/\rs=1/\s'=1/\m≠ .aI/\eO xs=true/\eO ys=true/\lo+len<=xs.length then
    some ((σ.eD n (.row gr m 1 (dn xs lo (ys.take len)))).put d (.one (.c (.int .i64 (Nat.min ys.length len:Nat))))) else none
   |_,_=>none
  |_,_=>none
 |.mA z x=>match σ.ev x with
  |.one (.sl n s lo len)=>match σ.h n with
   |some (.row gr m rs xs)=>if s=1/\rs=1/\z.fh=true/\m≠ .aI/\eO xs=true/\lo+len<=xs.length then
    some ((σ.eD n (.row gr m 1 (dn xs lo (List.replicate len [z])))).put d (.bH [])) else none
   |_=>none
  |_=>none
 |.mm mx x y=>match σ.ev x,σ.ev y with
  |.one (.c (.int k a)),.one (.c (.int k' b))=>if mx=true then(if a<b then some (σ.put d (.one (.c (.int k b)))) else some (σ.put d (.one (.c (.int k a)))))
   else(if b<a then some (σ.put d (.one (.c (.int k b)))) else some (σ.put d (.one (.c (.int k a)))))
  |_,_=>none
 |.call m f xs=>vL T m d f (xs.map σ.ev) σ
 |.oF f xs=>match Cv T f (xs.map σ.ev) σ.h with
  |some v=>some (σ.put d v)
  |none=>none
 |.sj f xs=>match(xs.map σ.ev).mapM (fun v=>match v with|.one c=>if c.jW=true then none else some c|_=>none) with
  |some cs=>if cs.all ah.LY=true then some (σ.put d (.one (.fn f cs))) else none
  |none=>none
 |.oG m x xs=>match σ.ev x with
  |.one (.fn f cK)=>vL T m d f (xs.map σ.ev++cK.map .one) σ
  |_=>none
 |.hZ m f xs=>rF T m d f (xs.map σ.ev) σ
 |.ki f xs=>rE T d f (xs.map σ.ev) σ
 |.nG f xs=>match qk T f (xs.map σ.ev) σ.h with
  |some v=>some (σ.put d v)
  |none=>none
 |.mr f xs=>match zQ T f (xs.map σ.ev) with
  |some v=>some (σ.put d v)
  |none=>none
 |.nH m f xs=>vN T m d f (xs.map σ.ev) σ
 |.pq m f x xs=>match σ.ev x with
  |.one (.fn g cK)=>if g=f then vM T m d f (xs.map σ.ev++cK.map .one) σ else none
  |_=>none
def d6 (T:aN) (o:bN) (σ:St):Option St:=
 match o.guard with
 |none=>exec T o.dst o.op σ
 |some (s,mf)=>match σ.env s with
  |.one (.c (.bool b))=>if b=mf then exec T o.dst o.op σ else some (σ.put o.dst (.bH []))
  |.bH []=>some (σ.put o.dst (.bH []))
  |_=>none
def fu (T:aN):List bN->St->Option St
 |[],σ=>some σ
 |o::os,σ=>match d6 T o σ with
  |some σ'=>fu T os σ'
  |none=>none
def ah.fG (ok:Nat->Bool):ah->ah
 |.ptr n k sz off=>if ok n=true then .ptr n k sz off else .bm
 |.sl n sz lo len=>if ok n=true then .sl n sz lo len else .bm
 |.bw n k aB off sz len=>if ok n=true then .bw n k aB off sz len else .bm
 |.cY n k aB off sz i=>if ok n=true then .cY n k aB off sz i else .bm
 |.cE xs off j n sz len=>if ok n=true then .cE xs off j n sz len else .bm
 |x=>x
def ah.dK (ok:Nat->Bool):ah->ah
 |.fn f cK=>.fn f (cK.map (·.fG ok))
 |x=>x.fG ok
def aj.dK (ok:Nat->Bool):aj->aj
 |.one c=>.one (c.dK ok)
 |.agg cs=>.agg (cs.map (·.dK ok))
 |.bH xs=>.bH (xs.map fun x=>(x.1,x.2.map (·.dK ok)))
def aq.dK (ok:Nat->Bool):aq->aq
 |.box cs=>.box (cs.map (·.dK ok))
 |b=>b
def xQ:Nat->aj:=fun _=>.one .bm
def CO:Nat->Option aq:=fun _=>none
def XK:Nat->Bool:=fun _=>false
def wV (ok:Nat->Bool) (env:Nat->aj):List Nat->(Nat->aj)
 |[]=>xQ
 |s::ss=>ax (wV ok env ss) s ((env s).dK ok)
def sv (ok:Nat->Bool) (h:Nat->Option aq):List Nat->(Nat->Option aq)
 |[]=>CO
 |s::ss=>if ok s=true then match h s with
  |some b=>ax (sv ok h ss) s (some (b.dK ok))
  |none=>sv ok h ss
  else sv ok h ss
def wW (ok:Nat->Bool):List Nat->(Nat->Bool)
 |[]=>XK
 |s::ss=>if ok s=true then ax (wW ok ss) s true else wW ok ss
def ah.yX (n:Nat):ah->Bool
 |.ptr m _ _ _=>m==n
 |.sl m _ _ _=>m==n
 |.bw m _ _ _ _ _=>m==n
 |.cY m _ _ _ _ _=>m==n
 |.cE _ _ _ m _ _=>m==n
 |_=>false
def ah.iK (n:Nat):ah->Bool
 |.fn _ cK=>cK.any (·.yX n)
 |x=>x.yX n
def aj.iK (n:Nat):aj->Bool
 |.one c=>c.iK n
 |.agg cs=>cs.any (·.iK n)
 |.bH xs=>xs.any fun x=>x.2.any (·.iK n)
def St.j3 (σ:St) (ke kh:List Nat):Nat->Bool:=fun n=>kh.contains n&&(σ.h n).isSome&&
 (Nat.ble aW n||ke.any (fun s=>(σ.env s).iK n)||kh.any fun k=>match σ.h k with|some (.box cs)=>cs.any (·.iK n)|_=>false)
def St.jo (σ:St) (ke kh:List Nat):St:=
 {env:=wV (σ.j3 ke kh) σ.env ke,h:=sv (σ.j3 ke kh) σ.h kh,used:=fun n=>Nat.ble aW n||wW (σ.j3 ke kh) kh n}
def oe (x c n:Nat):Nat:=if n=x then c else n
def ah.oY (x c:Nat):ah->ah
 |.ptr n k sz off=>.ptr (oe x c n) k sz off
 |.sl n sz lo len=>.sl (oe x c n) sz lo len
 |.bw n k aB off sz len=>.bw (oe x c n) k aB off sz len
 |.cY n k aB off sz i=>.cY (oe x c n) k aB off sz i
 |.cE xs off j n sz len=>.cE xs off j (oe x c n) sz len
 |y=>y
def ah.br (x c:Nat):ah->ah
 |.fn f cK=>.fn f (cK.map (·.oY x c))
 |y=>y.oY x c
def aj.br (x c:Nat):aj->aj
 |.one y=>.one (y.br x c)
 |.agg ys=>.agg (ys.map (·.br x c))
 |.bH ys=>.bH (ys.map fun y=>(y.1,y.2.map (·.br x c)))
def aq.br (x c:Nat):aq->aq
 |.box cs=>.box (cs.map (·.br x c))
 |b=>b
def St.br (σ:St) (x c:Nat):Option St:=
 if x=c then some σ else if Nat.ble aW x=true then some σ else if σ.used c=true then none else
 some {env:=fun s=>(σ.env s).br x c,h:=fun n=>if n=c then(σ.h x).map (·.br x c) else if n=x then none else(σ.h n).map (·.br x c),used:=fun n=>if n=c then σ.used x else if n=x then false else σ.used n}
def St.kV (σ:St) (c:Nat):Mode->St
 |.aI=>match σ.h c with
  |some (.row gr .aO rs xs)=>σ.eD c (.row gr .aI rs xs)
  |_=>σ
 |_=>σ
def St.canon (σ:St):Bool×Nat×Nat×Nat×Mode->Option St
 |(true,n,j,c,m)=>match σ.h n with
  |some (.box cs)=>match cs[j]? with
   |some (.sl a _ _ _)=>(σ.br a c).map fun σ1=>σ1.kV c m
   |some (.nil sz)=>if 0<sz then match σ.ins c (.row true m sz []) with
    |some σ1=>some (σ1.eD n (.box (cs.set j (.sl c sz 0 0))))
    |none=>none
    else some σ
   |_=>some σ
  |_=>some σ
 |(false,n,j,c,m)=>match σ.env n with
  |.one (.sl a _ _ _)=>(σ.br a c).map fun σ1=>σ1.kV c m
  |.one (.nil sz)=>if 0<sz then match σ.ins c (.row true m sz []) with
   |some σ1=>some (σ1.put (some n) (.one (.sl c sz 0 0)))
   |none=>none
   else some σ
  |_=>some σ
def St.uh (σ:St):List (Bool×Nat×Nat×Nat×Mode)->Option St
 |[]=>some σ
 |x::l=>match σ.canon x with
  |some σ1=>σ1.uh l
  |none=>none
def St.head (σ:St) (ke kh:List Nat) (cn:List (Bool×Nat×Nat×Nat×Mode)):Option St:=
 match((σ.jo ke kh).jo ke kh).uh cn with
 |some σ1=>some (σ1.jo ke kh)
 |none=>none
def aU.args:aU->List MO
 |.mv x|.box _ x|.load _ _ x|.qS _ _ x|.pT x|.un _ x|.conv _ x|.nN _ x|.ext _ x|.rM _ _ _ x|.re _ _ x|.len x|.mA _ x=>[x]
 |.pick c x y=>[c,x,y]
 |.alloc _=>[]
 |.build _ ps=>ps.map (·.2.2)
 |.ft _ ps=>ps
 |.store _ x v=>[x,v]
 |.bin _ x y|.nE _ x y|.mm _ x y|.append _ _ _ x y|.copy _ x y|.nj _ x y|.tail _ x y=>[x,y]
 |.iJ _ _ _ _ l c=>[l,c]
 |.slice _ x lo hi=>x::(lo.toList++hi.toList)
 |.call _ _ xs|.sj _ xs|.hZ _ _ xs|.oF _ xs|.ki _ xs|.nG _ xs|.mr _ xs|.nH _ _ xs=>xs
 |.oG _ x xs|.pq _ _ x xs=>x::xs
def aU.GC:aU->Bool
 |.call ..|.oG ..|.oF ..=>true
 |_=>false
def ah.tB:ah->List Nat
 |.ptr n _ _ _=>[n]
 |.sl n _ _ _=>[n]
 |.bw n _ _ _ _ _=>[n]
 |.cY n _ _ _ _ _=>[n]
 |.cE _ _ _ n _ _=>[n]
 |_=>[]
def ah.nm:ah->List Nat
 |.fn _ cK=>cK.flatMap ah.tB
 |x=>x.tB
def aj.iw:aj->List Nat
 |.one c=>c.nm
 |.agg cs=>cs.flatMap ah.nm
 |.bH xs=>xs.flatMap fun x=>x.2.flatMap ah.nm
def Ct (h:Nat->Option aq) (l:List Nat):List Nat:=l.flatMap fun n=>match h n with
 |some (.box cs)=>cs.flatMap ah.nm
 |_=>[]
def aU.j0 (op:aU) (ev:MO->aj):List Nat:=op.args.flatMap fun x=>(ev x).iw
def aU.nB (op:aU) (ev:MO->aj) (h:Nat->Option aq):List Nat:=cond op.GC (op.j0 ev++Ct h (op.j0 ev)) (op.j0 ev)
def aU.lF (op:aU) (ev:MO->aj) (h:Nat->Option aq):Option (List Nat):=
 match op with
 |.store _ x v=>match ev x with
  |.one (.ptr n _ _ _)=>match h n with
   |some (.box _)=>some [n]
   |some (.row ..)=>some (n::(ev v).iw)
   |none=>none
  |.one (.cY n _ _ _ _ _)=>some [n]
  |_=>none
 |.ft _ ps=>some (ps.flatMap fun p=>(ev p).iw)
 |.ki _ xs=>some (xs.flatMap fun p=>(ev p).iw)
 |.append _ _ _ x y=>some ((ev x).iw++(ev y).iw)
 |.copy _ x _|.mA _ x=>match ev x with
  |.one (.sl n _ _ _)=>some [n]
  |_=>none
 |.hZ ..|.nH ..|.pq ..|.tail ..|.qS ..=>none
 |_=>some []
abbrev FP:=List Nat×List Nat
def aU.fp (op:aU) (σ:St):Option FP:=(op.lF σ.ev σ.h).map fun w=>(op.nB σ.ev σ.h,w)
def Fy (f g:FP):Bool:=f.2.all (fun n=> !(g.1.contains n))&&g.2.all (fun n=> !(f.1.contains n))
def Fz:Option FP->Option FP->Bool
 |some f,some g=>Fy f g
 |_,_=>false
def nK (o:bN) (e:Nat->aj):Option aU:=
 match o.guard with
 |none=>some o.op
 |some (s,mf)=>match e s with
  |.one (.c (.bool b))=>if b=mf then some o.op else some (.mv (.k (.bH [])))
  |.bH []=>some (.mv (.k (.bH [])))
  |_=>none
def bN.fp (o:bN) (σ:St):Option FP:=
 match nK o σ.env with
 |some op=>op.fp σ
 |none=>none
def tC (ps:List (Nat×Nat)) (fs:List (Option FP)):Bool:=ps.all fun p=>Fz (fs.getD p.1 none) (fs.getD p.2 none)
def mD (T:aN):List bN->List (Option FP)->St->Option (List (Option FP)×St)
 |[],dJ,σ=>some (dJ,σ)
 |o::os,dJ,σ=>match d6 T o σ with
  |some σ1=>mD T os (dJ++[o.fp σ]) σ1
  |none=>none
def aL:Nat:=2^64
def DM:Nat->(St->Option t6)->St->Option t6
 |0,_,_=>none
 |n+1,f,σ=>match f σ with
  |some (.fD σ')=>DM n f σ'
  |o=>o
def ah.iB (n:Nat):ah->ah
 |.bw m k aB off sz len=>match Nat.beq m n with
  |true=>.bm
  |false=>.bw m k aB off sz len
 |.cY m k aB off sz i=>match Nat.beq m n with
  |true=>.bm
  |false=>.cY m k aB off sz i
 |y=>y
def ah.cut (n:Nat):ah->ah
 |.fn f cK=>.fn f (cK.map (·.iB n))
 |y=>y.iB n
def aj.cut (n:Nat):aj->aj
 |.one c=>.one (c.cut n)
 |.agg cs=>.agg (cs.map (·.cut n))
 |.bH xs=>.bH (xs.map fun x=>(x.1,x.2.map (·.cut n)))
def aq.cut (n:Nat):aq->aq
 |.box cs=>.box (cs.map (·.cut n))
 |b=>b
def St.cut (σ:St) (n:Nat):St:={σ with env:=fun s=>(σ.env s).cut n,h:=fun m=>(σ.h m).map (·.cut n)}
def yL (sp:qd) (σ:St):Option St:=
 match σ.ev sp.mx,σ.ev sp.ml,σ.ev sp.my with
 |.one (.ptr n k rs off),.one (.bw n' k' mP lE s0 uW),.one yc=>
  if n'=n/\k'=k/\mP=rs/\lE=off/\off+1=rs/\n<aW then
   match σ.h n with
   |some (.row true .live Hl xs)=>if Hl=rs then
    match(xs[k]?).bind (·[off]?),cO σ.h yc with
    |some (.list s ls),some (.list s' ys)=>
     if s=sp.sz/\s'=sp.sz/\eO ls=true/\eO ys=true/\(ls.length+ys.length)*sp.by_<=dR then
      some ((σ.cut n).eD n (.row true .live rs (xs.set k ((xs.getD k []).set off (.list sp.sz (ls++ys))))))
     else none
    |_,_=>none
    else none
   |_=>none
  else none
 |_,_,_=>none
def St.vi (σ:St):ah->Option (C×Bool×St)
 |.c x=>if x.fh=true then some (x,true,σ) else none
 |.nil sz=>if 0<sz then some (.list sz [],true,σ) else none
 |.sl n sz 0 len=>match σ.h n with
  |some (.row gr m rs xs)=>if rs=sz/\m≠ .aI/\eO xs=true/\len<=xs.length then some (.list sz (xs.take len),gr&&decide (0<len),σ.del n) else none
  |_=>none
 |_=>none
def St.sI (σ:St):List ah->Option (List C×Bool×St)
 |[]=>some ([],true,σ)
 |c::cs=>match σ.vi c with
  |some (x,o,σ1)=>match σ1.sI cs with
   |some (xs,o',σ2)=>some (x::xs,(match cs with|[]=>o|_::_=>o'),σ2)
   |none=>none
  |none=>none
def FA (T:aN) (d:Nat) (f:FuncId) (as:List aj) (σ:St):Option St:=
 match kU σ.h as,aN.find T.ns f with
 |some ds,some M=>match M ds with
  |some [(.one,[.list sz xs])]=>match σ.ins (jI (some d)) (.row true .live sz xs) with
   |some σ1=>some (σ1.put (some d) (.one (.sl (jI (some d)) sz 0 xs.length)))
   |none=>none
  |_=>none
 |_,_=>none
def St.sD (σ:St) (s:Nat) (v:aj):St:={σ with env:=ax σ.env s v}
def sY (T:aN) (d:Nat) (c:ET) (σ:St):Option St:=
 match c with
 |.vC sz p=>match(σ.ev p).cells? with
  |some (_,cs)=>if cs.length=sz then
   match σ.sI cs with
   |some (es,true,σ1)=>match σ1.ins d (.row true .live sz [es]) with
    |some σ2=>some (σ2.put (some d) (.one (.sl d sz 0 1)))
    |none=>none
   |_=>none
   else none
  |none=>none
 |.vD p s=>match σ.ev p,σ.env s with
  |.one (.sl q sz lo len),.one (.sl q' aH yH uV)=>if q'=q/\aH=sz/\uV=len/\s≠d/\lo=0/\yH=0 then
   match σ.fR (.sl q sz 0 len) with
   |some (y,true,σ1)=>match σ1.ins d (.row true .aO 1 [[y]]) with
    |some σ2=>some ((σ2.put (some d) (.one (.sl d 1 0 1))).sD s (.one (.c y)))
    |none=>none
   |_=>none
   else none
  |_,_=>none
 |.pop x lo s=>match σ.ev x,(σ.ev lo).dV,σ.env s with
  |.one (.sl n s1 l1 len),some l,.one (.bw n' k rs off _ _)=>if s1=1/\l1=0/\l=1/\n'=n/\k=0/\rs=1/\off=0/\s≠d then
   match σ.h n with
   |some (.row true .live Hl xs)=>if Hl=1/\len=xs.length then
    match xs[0]? with
    |some [C.list sz ys]=>if eO ys=true then
     match(σ.del n).ins d (.row true .live 1 (xs.drop 1)) with
     |some σ1=>match σ1.ins (jI (some d)) (.row false .aO sz ys) with
      |some σ2=>some ((σ2.put (some d) (.one (.sl d 1 0 (xs.length - 1)))).sD s (.one (.sl (jI (some d)) sz 0 ys.length)))
      |none=>none
     |none=>none
     else none
    |_=>none
    else none
   |_=>none
   else none
  |_,_,_=>none
 |.vE f xs=>FA T d f (xs.map σ.ev) σ
def uj (T:aN):List ES->St->Option St
 |[],σ=>some σ
 |.op m::l,σ=>match d6 T m σ with
  |some σ1=>uj T l σ1
  |none=>none
 |.pu d c::l,σ=>match sY T d c σ with
  |some σ1=>uj T l σ1
  |none=>none
def eM (T:aN):lG->St->Option t6
 |.skip,σ=>some (.fD σ)
 |.ij _ ops,σ=>match fu T ops σ with
  |some σ'=>some (.fD σ')
  |none=>none
 |.wT ps ops,σ=>match mD T ops [] σ with
  |some (fs,σ')=>cond (tC ps fs) (some (.fD σ')) none
  |none=>none
 |.tE its,σ=>match uj T its σ with
  |some σ'=>some (.fD σ')
  |none=>none
 |.qZ false _ ops sp,σ=>match fu T ops σ with
  |some σ1=>match yL sp σ1 with
   |some σ'=>some (.fD σ')
   |none=>none
  |none=>none
 |.qZ true ps ops sp,σ=>match mD T ops [] σ with
  |some (fs,σ1)=>match yL sp σ1 with
   |some σ'=>cond (tC ps fs) (some (.fD σ')) none
   |none=>none
  |none=>none
 |.seq a b,σ=>match eM T a σ with
  |some (.fD σ')=>eM T b σ'
  |o=>o
 |.cond c a b,σ=>match σ.ev c with
  |.one (.c (.bool t))=>if t=true then eM T a σ else eM T b σ
  |_=>none
 |.block id c,σ=>match eM T c σ with
  |some (.ext i σ')=>if i=id then some (.fD σ') else some (.ext i σ')
  |o=>o
 |.join ke kh cn c,σ=>match eM T c σ with
  |some (.fD σ')=>match σ'.head ke kh cn with
   |some σ1=>some (.fD σ1)
   |none=>none
  |o=>o
 |.loop id ke kh cn c,σ=>DM aL (fun σ=>match σ.head ke kh cn with|some σ1=>eM T c σ1|none=>none) σ
 |.exit id,σ=>some (.ext id σ)
 |.ret,σ=>some (.ret σ)
section
variable {B:Nat} {E:Ex} {w0 w w':World} {G G':Gh} {h h':Nat->Option aq} {used used':Nat->Bool} {tk:List PC}
theorem bk.refl (w:World) (G:Gh) (h:Nat->Option aq) (u:Nat->Prop):bk w G h u w G h:=
 ⟨fun _ h=>h,fun _ _ _=>rfl,fun _ _ h=>⟨h,rfl,rfl,rfl,rfl,rfl⟩,fun n gr sz xs _ hn=>⟨⟨gr,xs,hn⟩,fun k j pc h1 h2=>⟨pc,h1,rfl,h2⟩⟩⟩
theorem bk.trans {w1 w2 w3:World} {G1 G2 G3:Gh} {h1 h2 h3:Nat->Option aq} {u u2:Nat->Prop} (hu:∀n,u n->u2 n)
  (a:bk w1 G1 h1 u w2 G2 h2) (b:bk w2 G2 h2 u2 w3 G3 h3):bk w1 G1 h1 u w3 G3 h3:=by
 refine⟨fun x hx=>b.im x (a.im x hx),fun x hx o=>(b.cell x (a.im x hx) o).trans (a.cell x hx o),fun n hn h=>?_,fun n gr sz xs hn h=>?_⟩
 ·obtain⟨c0,c1,c2,c3,c4,c5⟩:=b.name n (hu n hn) h;obtain⟨d0,d1,d2,d3,d4,d5⟩:=a.name n hn c0;exact⟨d0,c1.trans d1,c2.trans d2,c3.trans d3,c4.trans d4,c5.trans d5⟩
 ·obtain⟨⟨C0,gx,e2⟩,l2⟩:=b.live n gr sz xs (hu n hn) h;obtain⟨e1,l1⟩:=a.live n C0 sz gx hn e2;refine⟨e1,fun k j pc p1 p2=>?_⟩;obtain⟨q,q1,q2,q3⟩:=l1 k j pc p1 p2;obtain⟨r,r1,r2,r3⟩:=l2 k j q q1 q3;exact⟨r,r1,r2.trans q2,r3⟩
theorem bk.world (mE:∀b,G.Im b->w'.heap[b]? =w.heap[b]?) (u:Nat->Prop):bk w G h u w' G h:=
 ⟨fun _ h=>h,fun b hb o=>gU (mE b hb) o,fun _ _ h=>⟨h,rfl,rfl,rfl,rfl,rfl⟩,fun n gr sz xs _ hn=>⟨⟨gr,xs,hn⟩,fun k j pc h1 h2=>⟨pc,h1,rfl,h2⟩⟩⟩
theorem HR.oZ (H:HR B E w G h used tk) {n:Nat} {gr:Bool} {m:Mode} {sz:Nat} {xs:List (List C)} (hn:h n=some (.row gr m sz xs)) {b:Nat} (hb:bf b (G.g n).px):b<w.heap.size:=by
 have hr:=H.row n gr m sz xs hn;cases aT:(G.g n).nl with
 |true=>obtain⟨k,j,c,⟨e,he,_⟩,_⟩:=hb;rw[(hr.nl aT).1] at he;simp at he
 |false=>exact(hr.eI aT).2.1.lt hb
theorem HR.grow (H:HR B E w G h used tk) (hw:∀b,b<w.heap.size->w'.heap[b]? =w.heap[b]?) (bU:w.heap.size<=w'.heap.size):HR B E w' G h used tk:=by
 have K:bk w G h (fun n=>used n=true) w' G h:=bk.world (fun b hb=>hw b (H.gC b hb)) _;have uI:∀b,dZ w b->dZ w' b:=fun b hb=>hb.congr (hw b hb.lt);refine⟨H.ji,H.iq,fun n cs hn=>?_,fun n gr m sz xs hn=>?_,fun n hn hl=>?_,H.inj,fun b hb=>Nat.lt_of_lt_of_le (H.gC b hb) bU,H.pH,H.gn,H.live,fun i pc hi=>?_,H.xf,H.sK⟩
 ·obtain⟨h1,h2,h3⟩:=H.box n cs hn;refine⟨h1,uI _ h2,fun j c hj=>?_⟩;obtain⟨v,a1,a2,a3⟩:=h3 j c hj;exact⟨v,(gU (hw _ h2.lt) _).trans a1,a2,a3.fP K fun m hm=>H.iq n cs c m hn (List.mem_of_getElem? hj) hm⟩
 ·have hr:=H.row n gr m sz xs hn;refine⟨hr.pos,hr.er,hr.nl,fun hl=>?_,fun hl hg=>?_,?_,fun hg hm=>(hr.nr hg hm).congr fun b hb=>hw b (H.oZ hn hb)⟩
  ·obtain⟨a1,a2,a3⟩:=hr.eI hl;exact⟨uI _ a1,a2.congr (fun o=>gU (hw _ a1.lt) o) (fun b' aJ o=>gU (hw _ (a2.lt aJ)) o),a3⟩
  ·obtain⟨r2,cur,e,r3,r4⟩:=hr.room hl hg;exact⟨r2,cur,e,(hw _ (hr.eI hl).1.lt).trans r3,r4⟩
  ·have hm:=hr.mode;cases m with
   |aI=>exact hm
   |aO=>exact⟨fun b hb=>⟨(hm.1 b hb).1,uI _ (hm.1 b hb).2.1,(hm.1 b hb).2.2⟩,hm.2⟩
   |live=>exact⟨fun b hb=>⟨(hm.1 b hb).1,uI _ (hm.1 b hb).2.1,(hm.1 b hb).2.2⟩,hm.2⟩
 ·obtain⟨a1,a2,a3⟩:=H.own n hn hl;exact⟨a1,a2,Nat.lt_of_lt_of_le a3 bU⟩
 ·obtain⟨a1,a2⟩:=H.sJ i pc hi;exact⟨a1,fun b hb=>⟨(a2 b hb).1,uI _ (a2 b hb).2.1,(a2 b hb).2.2⟩⟩
theorem Fr.refl (B:Nat) (E:Ex) (w0:World) (hB:B<=w0.heap.size):Fr B E w0 w0:=
 ⟨rfl,rfl,rfl,hB,fun _ _ _=>rfl,fun _ _=>Cz.refl _ _⟩
theorem Fr.grow (F:Fr B E w0 w) (hw:∀b,b<w.heap.size->w'.heap[b]? =w.heap[b]?) (bU:w.heap.size<=w'.heap.size) (ho:w'.os=w.os) (ht:w'.tape=w.tape) (hp:w'.output=w.output):Fr B E w0 w':=
 ⟨ho.trans F.os,ht.trans F.tape,hp.trans F.output,Nat.le_trans F.size bU,fun b hb he=>(hw b (Nat.lt_of_lt_of_le hb F.size)).trans (F.block b hb he),
  fun b hb=>(F.j7 b hb).trans (Cz.of_eq (hw b (Nat.lt_of_lt_of_le hb F.size)))⟩
theorem Fr.one (F:Fr B E w0 w) {b0:Nat} (qu:B<=b0\/E b0) (hw:∀b,b<w.heap.size->b≠b0->w'.heap[b]? =w.heap[b]?) (bU:w.heap.size<=w'.heap.size)
  (hu:Cz w w' b0) (ho:w'.os=w.os) (ht:w'.tape=w.tape) (hp:w'.output=w.output):Fr B E w0 w':=by
 refine⟨ho.trans F.os,ht.trans F.tape,hp.trans F.output,Nat.le_trans F.size bU,fun b hb he=>?_,fun b hb=>?_⟩
 ·refine(hw b (Nat.lt_of_lt_of_le hb F.size) ?_).trans (F.block b hb he);rintro rfl;rcases qu with h1|h1
  ·omega
  ·exact he h1
 ·by_cases C8:b=b0
  ·subst C8;exact(F.j7 b hb).trans hu
  ·exact(F.j7 b hb).trans (Cz.of_eq (hw b (Nat.lt_of_lt_of_le hb F.size) C8))
def V6 (B:Nat) (E:Ex) (w:World) (G:Gh) (h:Nat->Option aq) (p:PB):aq->Prop
 |.box cs=>p.nl=false/\dZ w p.b/\∀(j:Nat) (c:ah),cs[j]? =some c->∃v,w.cell? (ad p.b (p.o+j))=some v/\v.oneCell'=true/\RC w G h c v
 |.row gr m sz xs=>ua B E w G gr m sz xs p
theorem HR.adq (H:HR B E w G h used tk) {n:Nat} {blk:aq} {p:PB}
  (hw:∀b,b<w.heap.size->(p.nl=false->b≠p.b)->w'.heap[b]? =w.heap[b]?) (bU:w.heap.size<=w'.heap.size)
  (ym:∀b,b<w.heap.size->dZ w b->dZ w' b)
  (hu:∀m,used m=true->used' m=true) (Rm:used' n=true)
  (qD:p.nl=false->¬G.Im p.b/\(B<=p.b\/E p.b)/\p.b<w'.heap.size)
  (uC:p.nl=false->∀m,m≠n->h m≠none->(G.g m).nl=false->(G.g m).b≠p.b)
  (QW:p.nl=false->∀m gr sz xs,m≠n->h m=some (.row gr .live sz xs)->∀b,bf b (G.g m).px->b≠p.b)
  (uK:∀cs c m,blk=.box cs->c∈cs->c.ref m->used' m=true)
  (K:∀m cs c v,m≠n->h m=some (.box cs)->c∈cs->RC w G h c v->RC w' ⟨G.Im,ax G.g n p⟩ (ax h n (some blk)) c v)
  (jw:V6 B E w' ⟨G.Im,ax G.g n p⟩ (ax h n (some blk)) p blk)
  (Da:∀gr m sz xs,blk=.row gr m sz xs->m≠ .aI->∀n' bn m' aH ar,n'≠n->h n'=some (.row bn m' aH ar)->m'≠ .aI->∀b,bf b p.px->¬bf b (G.g n').px)
  (rV:∀gr sz xs,blk=.row gr .live sz xs->∀b,bf b p.px->(p.nl=false->b≠p.b)/\∀n',n'≠n->h n'≠none->(G.g n').nl=false->b≠(G.g n').b)
  (mI:∀gr m sz xs,blk=.row gr m sz xs->m≠ .aI->∀(i:Nat) (pc:PC) (b:Nat),tk[i]? =some pc->aX b pc->¬bf b p.px)
  (mE:p.nl=false->p.b<w.heap.size->∀b,(∃m gr mo sz xs,m≠n/\h m=some (.row gr mo sz xs)/\bf b (G.g m).px)->b≠p.b):
  HR B E w' ⟨G.Im,ax G.g n p⟩ (ax h n (some blk)) used' tk:=by
 have e1:∀m,m≠n->ax h n (some blk) m=h m:=fun m hm=>cJ _ _ _ _ hm;have e2:∀m,m≠n->ax G.g n p m=G.g m:=fun m hm=>cJ _ _ _ _ hm;have Dj:∀m,m≠n->h m≠none->(G.g m).nl=false->w'.heap[(G.g m).b]? =w.heap[(G.g m).b]? :=fun m hm h0 hl=>
  hw _ (H.own m h0 hl).2.2 (fun hp=>uC hp m hm h0 hl)
 refine⟨?_,?_,?_,?_,?_,?_,?_,H.pH,?_,?_,?_,?_,?_⟩
 ·intro m hm;by_cases bF:m=n
  ·subst bF;exact Rm
  ·rw[e1 m bF] at hm;exact hu m (H.ji m hm)
 ·intro m cs c q hm hc hr;by_cases bF:m=n
  ·subst bF;rw[bO] at hm;injection hm with hm;exact uK cs c q hm hc hr
  ·rw[e1 m bF] at hm;exact hu q (H.iq m cs c q hm hc hr)
 ·intro m cs hm;by_cases bF:m=n
  ·subst bF;rw[bO] at hm;injection hm with hm;subst hm;simp only[bO];exact jw
  ·rw[e1 m bF] at hm;simp only[e2 m bF];obtain⟨a1,a2,a3⟩:=H.box m cs hm;have hs:=Dj m bF (by rw[hm];simp) a1;refine⟨a1,a2.congr hs,fun j c hj=>?_⟩;obtain⟨v,b1,b2,b3⟩:=a3 j c hj;exact⟨v,(gU hs _).trans b1,b2,K m cs c v bF hm (List.mem_of_getElem? hj) b3⟩
 ·intro m gr mo sz xs hm;by_cases bF:m=n
  ·subst bF;rw[bO] at hm;injection hm with hm;subst hm;simp only[bO];exact jw
  ·rw[e1 m bF] at hm;simp only[e2 m bF];have hr:=H.row m gr mo sz xs hm;have hf:∀b,bf b (G.g m).px->w'.heap[b]? =w.heap[b]? :=fun b hb=>
    hw b (H.oZ hm hb) (fun hp fw=>by
     by_cases cj:p.b<w.heap.size
     ·exact mE hp cj b ⟨m,gr,mo,sz,xs,bF,hm,hb⟩ fw
     ·have:=H.oZ hm hb;omega)
   refine⟨hr.pos,hr.er,hr.nl,fun hl=>?_,fun hl hg=>?_,?_,fun hg hm=>(hr.nr hg hm).congr hf⟩
   ·have hs:=Dj m bF (by rw[hm];simp) hl;obtain⟨a1,a2,a3⟩:=hr.eI hl;exact⟨a1.congr hs,a2.congr (fun o=>gU hs o) (fun b' aJ o=>gU (hf b' aJ) o),a3⟩
   ·have hs:=Dj m bF (by rw[hm];simp) hl;obtain⟨r2,cur,e,r3,r4⟩:=hr.room hl hg;exact⟨r2,cur,e,hs.trans r3,r4⟩
   ·have dU:=hr.mode;cases mo with
    |aI=>exact dU
    |aO=>exact⟨fun b hb=>⟨(dU.1 b hb).1,(dU.1 b hb).2.1.congr (hf b hb),(dU.1 b hb).2.2⟩,dU.2⟩
    |live=>exact⟨fun b hb=>⟨(dU.1 b hb).1,(dU.1 b hb).2.1.congr (hf b hb),(dU.1 b hb).2.2⟩,dU.2⟩
 ·intro m hm hl;by_cases bF:m=n
  ·subst bF;simp only[bO] at hl⊢;exact qD hl
  ·rw[e1 m bF] at hm;simp only[e2 m bF] at hl⊢;obtain⟨a1,a2,a3⟩:=H.own m hm hl;exact⟨a1,a2,Nat.lt_of_lt_of_le a3 bU⟩
 ·intro m m' hm bL aF hl eG;by_cases bF:m=n
  ·subst bF;have jB:m'≠m:=fun e=>aF e.symm;rw[e1 m' jB] at bL;simp only[bO,e2 m' jB] at hl eG⊢;exact fun e=>uC hl m' jB bL eG e.symm
  ·rw[e1 m bF] at hm;by_cases jB:m'=n
   ·subst jB;simp only[bO,e2 m bF] at hl eG⊢;exact uC eG m bF hm hl
   ·rw[e1 m' jB] at bL;simp only[e2 m bF,e2 m' jB] at hl eG⊢;exact H.inj m m' hm bL aF hl eG
 ·exact fun b hb=>Nat.lt_of_lt_of_le (H.gC b hb) bU
 ·intro m m' gr mo sz xs bn jH aH ar hm bL hb aJ aF b cN;by_cases bF:m=n
  ·subst bF;have jB:m'≠m:=fun e=>aF e.symm;rw[e1 m' jB] at bL;rw[bO] at hm;injection hm with hm;simp only[bO,e2 m' jB] at cN⊢;exact Da gr mo sz xs hm hb m' bn jH aH ar jB bL aJ b cN
  ·rw[e1 m bF] at hm;by_cases jB:m'=n
   ·subst jB;rw[bO] at bL;injection bL with bL;simp only[bO,e2 m bF] at cN⊢;exact fun Qw=>Da bn jH aH ar bL aJ m gr mo sz xs bF hm hb b Qw cN
   ·rw[e1 m' jB] at bL;simp only[e2 m bF,e2 m' jB] at cN⊢;exact H.gn m m' gr mo sz xs bn jH aH ar hm bL hb aJ aF b cN
 ·intro m gr sz xs hm b hb m' bL eG;by_cases bF:m=n
  ·subst bF;rw[bO] at hm;injection hm with hm;simp only[bO] at hb;have:=rV gr sz xs hm b hb;by_cases jB:m'=m
   ·subst jB;simp only[bO] at eG⊢;exact this.1 eG
   ·rw[e1 m' jB] at bL;simp only[e2 m' jB] at eG⊢;exact this.2 m' jB bL eG
  ·rw[e1 m bF] at hm;simp only[e2 m bF] at hb;by_cases jB:m'=n
   ·subst jB;simp only[bO] at eG⊢;exact QW eG m gr sz xs bF hm b hb
   ·rw[e1 m' jB] at bL;simp only[e2 m' jB] at eG⊢;exact H.live m gr sz xs hm b hb m' bL eG
 ·intro i pc hi;obtain⟨a1,a2⟩:=H.sJ i pc hi;exact⟨a1,fun b hb=>⟨(a2 b hb).1,ym b (H.gC b (a2 b hb).1) (a2 b hb).2.1,(a2 b hb).2.2⟩⟩
 ·exact H.xf
 ·intro i pc m gr mo sz xs b hi hm ic hb;by_cases bF:m=n
  ·subst bF;rw[bO] at hm;injection hm with hm;simp only[bO];exact mI gr mo sz xs hm ic i pc b hi hb
  ·rw[e1 m bF] at hm;simp only[e2 m bF];exact H.sK i pc m gr mo sz xs b hi hm ic hb
theorem HR.put (H:HR B E w G h used tk) {n:Nat} {blk:aq} {p:PB}
  (hw:∀b,b<w.heap.size->(p.nl=false->b≠p.b)->w'.heap[b]? =w.heap[b]?) (bU:w.heap.size<=w'.heap.size)
  (ym:∀b,b<w.heap.size->dZ w b->dZ w' b)
  (hu:∀m,used m=true->used' m=true) (Rm:used' n=true)
  (qD:p.nl=false->¬G.Im p.b/\(B<=p.b\/E p.b)/\p.b<w'.heap.size)
  (uC:p.nl=false->∀m,m≠n->h m≠none->(G.g m).nl=false->(G.g m).b≠p.b)
  (QW:p.nl=false->∀m gr sz xs,m≠n->h m=some (.row gr .live sz xs)->∀b,bf b (G.g m).px->b≠p.b)
  (uK:∀cs c m,blk=.box cs->c∈cs->c.ref m->used' m=true)
  (K:bk w G h (fun n=>used n=true) w' ⟨G.Im,ax G.g n p⟩ (ax h n (some blk)))
  (jw:V6 B E w' ⟨G.Im,ax G.g n p⟩ (ax h n (some blk)) p blk)
  (Da:∀gr m sz xs,blk=.row gr m sz xs->m≠ .aI->∀n' bn m' aH ar,n'≠n->h n'=some (.row bn m' aH ar)->m'≠ .aI->∀b,bf b p.px->¬bf b (G.g n').px)
  (rV:∀gr sz xs,blk=.row gr .live sz xs->∀b,bf b p.px->(p.nl=false->b≠p.b)/\∀n',n'≠n->h n'≠none->(G.g n').nl=false->b≠(G.g n').b)
  (mI:∀gr m sz xs,blk=.row gr m sz xs->m≠ .aI->∀(i:Nat) (pc:PC) (b:Nat),tk[i]? =some pc->aX b pc->¬bf b p.px)
  (mE:p.nl=false->p.b<w.heap.size->∀b,(∃m gr mo sz xs,m≠n/\h m=some (.row gr mo sz xs)/\bf b (G.g m).px)->b≠p.b):
  HR B E w' ⟨G.Im,ax G.g n p⟩ (ax h n (some blk)) used' tk:=
 H.adq hw bU ym hu Rm qD uC QW uK (fun m cs c v _ hm hc hv=>hv.fP K fun q hq=>H.iq m cs c q hm hc hq) jw Da rV mI mE
theorem HR.del (H:HR B E w G h used tk) (n:Nat):HR B E w G (ax h n none) used tk:=by
 have e0:∀m b,ax h n none m=some b->h m=some b/\m≠n:=fun m b hm=>by
  by_cases bF:m=n
  ·subst bF;rw[bO] at hm;cases hm
  ·rw[cJ _ _ _ _ bF] at hm;exact⟨hm,bF⟩
 have e1:∀m,ax h n none m≠none->h m≠none:=fun m hm=>by
  by_cases bF:m=n
  ·subst bF;rw[bO] at hm;exact absurd rfl hm
  ·rwa[cJ _ _ _ _ bF] at hm
 have K:bk w G h (fun n=>used n=true) w G (ax h n none):=
  ⟨fun _ h=>h,fun _ _ _=>rfl,fun m _ hm=>⟨e1 m hm,rfl,rfl,rfl,rfl,rfl⟩,fun m gr sz xs _ hm=>⟨⟨gr,xs,(e0 m _ hm).1⟩,fun k j pc h1 h2=>⟨pc,h1,rfl,h2⟩⟩⟩
 refine⟨fun m hm=>H.ji m (e1 m hm),fun m cs c q hm=>H.iq m cs c q (e0 m _ hm).1,fun m cs hm=>?_,fun m gr mo sz xs hm=>H.row m gr mo sz xs (e0 m _ hm).1,
  fun m hm=>H.own m (e1 m hm),fun m m' hm bL=>H.inj m m' (e1 m hm) (e1 m' bL),H.gC,H.pH,fun m m' gr mo sz xs bn jH aH ar hm bL=>H.gn m m' gr mo sz xs bn jH aH ar (e0 m _ hm).1 (e0 m' _ bL).1,
  fun m gr sz xs hm b hb m' bL=>H.live m gr sz xs (e0 m _ hm).1 b hb m' (e1 m' bL),H.sJ,H.xf,fun i pc m gr mo sz xs b hi hm=>H.sK i pc m gr mo sz xs b hi (e0 m _ hm).1⟩
 obtain⟨a1,a2,a3⟩:=H.box m cs (e0 m _ hm).1;refine⟨a1,a2,fun j c hj=>?_⟩;obtain⟨v,b1,b2,b3⟩:=a3 j c hj;exact⟨v,b1,b2,b3.fP K fun q hq=>H.iq m cs c q (e0 m _ hm).1 (List.mem_of_getElem? hj) hq⟩
theorem bk.del (n:Nat) (u:Nat->Prop):bk w G h u w G (ax h n none):=by
 have e1:∀m b,ax h n none m=some b->h m=some b:=fun m b hm=>by
  by_cases bF:m=n
  ·subst bF;rw[bO] at hm;cases hm
  ·rwa[cJ _ _ _ _ bF] at hm
 refine⟨fun _ h=>h,fun _ _ _=>rfl,fun m _ hm=>?_,fun m gr sz xs _ hm=>⟨⟨gr,xs,e1 m _ hm⟩,fun k j pc h1 h2=>⟨pc,h1,rfl,h2⟩⟩⟩;cases hh:ax h n none m with
 |none=>exact absurd hh hm
 |some b=>rw[e1 m b hh];exact⟨by simp,rfl,rfl,rfl,rfl,rfl⟩
end
theorem qj {α:Type} {px:List (List α)} {lo len k j:Nat} {c:α} (h:At ((px.drop lo).take len) k j c):At px (lo+k) j c/\k<len:=by
 obtain⟨e,he,hj⟩:=h;rw[List.getElem?_take] at he;split at he
 ·rename_i hk;rw[List.getElem?_drop] at he;exact⟨⟨e,he,hj⟩,hk⟩
 ·cases he
section
variable {B:Nat} {E:Ex} {w0 w w':World} {G G':Gh} {h h':Nat->Option aq} {used used':Nat->Bool} {tk:List PC}
def jK (p:PB) (sz lo len:Nat) (v:Value):PC:=
 match v with
 |.slice a _ cap=>.list sz a cap ((p.px.drop lo).take len)
 |_=>.bool false
theorem Em {gr:Bool} {m:Mode} {sz:Nat} {xs:List (List C)} {p:PB} (hr:ua B E w G gr m sz xs p) {lo len:Nat} {v:Value} (hv:gM p sz lo len v) (hl:lo+len<=xs.length):
  (jK p sz lo len v).er=.list sz ((xs.drop lo).take len)/\(jK p sz lo len v).val=v/\Good w (jK p sz lo len v)/\
  (∀b,aX b (jK p sz lo len v)->(p.nl=false/\b=p.b)\/bf b p.px):=by
 have fC:p.px.length=xs.length:=by rw[hr.er];simp
 rcases hv with⟨hn,rfl,rfl,rfl⟩|⟨hn,a,rfl,hc,ha⟩
 ·have h0:=(hr.nl hn).1;refine⟨?_,?_,?_,?_⟩
  ·simp[jK,PC.d9]
  ·simp[jK,PC.val]
  ·simp only[jK,List.drop_zero,List.take_zero];exact .nil _ _ _ hr.pos
  ·intro b hb;simp only[jK,List.drop_zero,List.take_zero] at hb;rw[aX.kN] at hb;rcases hb with⟨hb,_⟩|⟨k,j,c,⟨e,he,_⟩,_⟩
   ·exact absurd rfl hb
   ·simp at he
 ·have hlen:((p.px.drop lo).take len).length=len:=by simp;omega
  refine⟨?_,?_,?_,?_⟩
  ·simp only[jK,PC.d9];rw[hr.er,List.map_take,List.map_drop]
  ·simp[jK,PC.val];omega
  ·simp only[jK];by_cases h0:(p.px.drop lo).take len=[]
   ·rw[h0];exact .nil _ _ _ hr.pos
   ·have QV:0<len:=by
     rcases Nat.eq_zero_or_pos len with hz|hz
     ·subst hz;simp at h0
     ·exact hz
    have e:=ha (.inl (by omega));subst e;obtain⟨a1,a2,a3⟩:=hr.eI hn;refine .cons sz p.b (p.o+lo*sz) _ _ h0 (by omega) hr.pos (fun e he=>a2.1 e (List.mem_of_mem_drop (List.mem_of_mem_take he))) (fun k j c hk=>?_) (fun k j c hk=>a2.2.2 _ _ _ (qj hk).1);have:=a2.2.1 _ _ _ (qj hk).1;rw[Nat.add_mul] at this;rw[<-this];congr 2;omega
  ·intro b hb;simp only[jK] at hb;rw[aX.kN] at hb;rcases hb with⟨hb,o,ho⟩|⟨k,j,c,hk,hb⟩
   ·have QV:0<len:=by
     rcases Nat.eq_zero_or_pos len with hz|hz
     ·subst hz;simp at hb
     ·exact hz
    have e:=ha (.inl (by omega));rw[e] at ho;injection ho with ho;exact .inl ⟨hn,(lf ho).1.symm⟩
   ·exact .inr ⟨_,_,_,(qj hk).1,hb⟩
theorem HR.cO (H:HR B E w G h used tk) {c:ah} {x:C} {v:Value} (hx:cO h c=some x) (hc:RC w G h c v):∃pc:PC,pc.er=x/\pc.val=v/\Good w pc:=by
 cases c with
 |c y=>
  simp only[Am.cO] at hx;injection hx with hx;subst hx;obtain⟨pc,h1,h2,h3,_⟩:=hc;exact⟨pc,h1,h2,h3⟩
 |nil sz=>
  simp only[Am.cO] at hx;split at hx
  ·rename_i eR;injection hx with hx;subst hx;have dm:v=.slice none 0 0:=hc;subst dm;exact⟨.list sz none 0 [],by simp[PC.d9],rfl,.nil _ _ _ eR⟩
  ·cases hx
 |sl n sz lo len=>
  simp only[Am.cO] at hx;split at hx
  ·rename_i gr m rs xs hn;split at hx
   ·rename_i cR;obtain⟨rfl,hl⟩:=cR;injection hx with hx;subst hx;have hs:gM (G.g n) rs lo len v:=hc (by rw[hn];simp);obtain⟨a1,a2,a3,_⟩:=Em (H.row n gr m rs xs hn) hs hl;exact⟨_,a1,a2,a3⟩
   ·cases hx
  ·cases hx
 |bw n k aB off sz len=>
  simp only[Am.cO] at hx;split at hx
  ·rename_i gr rs xs hn;split at hx
   ·rename_i cR;subst cR;obtain⟨pc,p1,p2,p3⟩:=hc gr xs hn;have hr:=H.row n gr .live rs xs hn;have aT:(G.g n).nl=false:=by
     cases hq:(G.g n).nl with
     |false=>rfl
     |true=>obtain⟨e,he,_⟩:=p1;rw[(hr.nl hq).1] at he;simp at he
    refine⟨pc,?_,p2,(hr.eI aT).2.1.2.2 _ _ _ p1⟩;obtain⟨e,he,hj⟩:=p1;rw[hr.er] at hx;simp[he,hj] at hx;exact hx
   ·cases hx
  ·cases hx
 |ptr _ _ _ _=>simp[Am.cO] at hx
 |de _ _=>simp[Am.cO] at hx
 |cE _ _ _ _ _ _=>simp[Am.cO] at hx
 |fn _ _=>simp[Am.cO] at hx
 |cY _ _ _ _ _ _=>simp[Am.cO] at hx
 |bm=>simp[Am.cO] at hx
theorem HR.iL (H:HR B E w G h used tk):∀{cs:List ah} {xs:List C} {vs:List Value},iL h cs=some xs->dh w G h cs vs->
  ∃bx:List PC,bx.map PC.er=xs/\bx.map PC.val=vs/\∀pc∈bx,Good w pc
 |[],xs,vs,hx,hc=>by
  simp only[Am.iL] at hx;injection hx with hx;subst hx;have:vs=[]:=List.eq_nil_of_length_eq_zero (by simpa using hc.1);subst this;exact⟨[],rfl,rfl,by simp⟩
 |c::cs,xs,vs,hx,hc=>by
  simp only[Am.iL] at hx;split at hx
  ·rename_i x ar e1 e2;injection hx with hx;subst hx;obtain⟨hlen,cD⟩:=hc;match vs,hlen with
   |v::vs,hlen=>
    obtain⟨pc,a1,a2,a3⟩:=H.cO e1 (cD 0 c v rfl rfl).2;obtain⟨bx,b1,b2,b3⟩:=H.iL e2 (cs:=cs) (vs:=vs) ⟨by simpa using hlen,fun j c u h1 h2=>cD (j+1) c u h1 h2⟩;refine⟨pc::bx,by simp[a1,b1],by simp[a2,b2],fun q hq=>?_⟩;cases hq with
    |head=>exact a3
    |tail _ hq=>exact b3 q hq
  ·cases hx
def BC (w:World) (d:Dv) (v:Value):Prop:=
 match d.1 with
 |.one=>∃bx:List PC,bx.map PC.er=d.2/\(∀pc∈bx,Good w pc)/\bx.map PC.val=[v]
 |.agg=>∃bx:List PC,bx.map PC.er=d.2/\(∀pc∈bx,Good w pc)/\v=.agg (bx.map PC.val).toArray
 |.ptr=>∃(bx:List PC) (b o:Nat),bx.map PC.er=d.2/\v=.pointer (some (ad b o))/\b<w.heap.size/\
  ∀j c,bx[j]? =some c->w.cell? (ad b (o+j))=some c.val/\Good w c
def EQ (w:World) (ds:List Dv) (vs:List Value):Prop:=
 vs.length=ds.length/\∀(j:Nat) (d:Dv) (v:Value),ds[j]? =some d->vs[j]? =some v->BC w d v
theorem HR.je (H:HR B E w G h used tk) {x:aj} {d:Dv} {v:Value} (hx:je h x=some d) (hc:RA w G h x v):BC w d v:=by
 have one:∀c:ah,(Am.cO h c).map (fun x=>((.one,[x]):Dv))=some d->RA w G h (.one c) v->BC w d v:=by
  intro c hx hc;cases hv:Am.cO h c with
  |none=>rw[hv] at hx;cases hx
  |some y=>
   rw[hv] at hx;simp at hx;subst hx;rcases hc with rfl|hc
   ·simp[Am.cO] at hv
   ·have dm:dh w G h [c] [v]:=hc;obtain⟨pc,a1,a2,a3⟩:=H.cO hv (dm.2 0 c v rfl rfl).2;exact⟨[pc],by simp[a1],by simpa using a3,by simp[a2]⟩
 cases x with
 |one c=>
  cases c with
  |ptr n k sz off=>
   simp only[Am.je] at hx;split at hx
   ·rename_i cs hn;split at hx
    ·rename_i cR;obtain⟨rfl,rfl⟩:=cR;cases hv:Am.iL h cs with
     |none=>rw[hv] at hx;cases hx
     |some xs=>
      rw[hv] at hx;simp at hx;subst hx;rcases hc with hc|hc
      ·cases hc
      ·have dm:dh w G h [.ptr n 0 sz 0] [v]:=hc;have hp:=(dm.2 0 _ v rfl rfl).2 (by rw[hn];simp);obtain⟨lP,lz⟩:=hp;obtain⟨q1,q2,q3⟩:=H.box n cs hn;have db:∀(cs:List ah) (o:Nat) (xs:List C),(∀(j:Nat) (c:ah),cs[j]? =some c->∃v,w.cell? (ad (G.g n).b (o+j))=some v/\v.oneCell'=true/\RC w G h c v)->Am.iL h cs=some xs->
         ∃bx:List PC,bx.map PC.er=xs/\∀j c,bx[j]? =some c->w.cell? (ad (G.g n).b (o+j))=some c.val/\Good w c:=by
        intro cs;induction cs with
        |nil=>
         intro o xs _ hx;simp only[Am.iL] at hx;injection hx with hx;subst hx;exact⟨[],rfl,by simp⟩
        |cons c cs ih=>
         intro o xs gW hx;simp only[Am.iL] at hx;split at hx
         ·rename_i x ar e1 e2;injection hx with hx;subst hx;obtain⟨u,u1,_,u2⟩:=gW 0 c rfl;obtain⟨pc,a1,a2,a3⟩:=H.cO e1 u2;obtain⟨bx,b1,b2⟩:=ih (o+1) ar (fun j c hj=>by
           have:=gW (j+1) c hj;rwa[show o+(j+1)=o+1+j from by omega] at this) e2
          refine⟨pc::bx,by simp[a1,b1],fun j c hj=>?_⟩;cases j with
          |zero=>simp at hj;subst hj;rw[a2];exact⟨u1,a3⟩
          |succ j=>
           have:=b2 j c (by simpa using hj);rwa[show o+1+j=o+(j+1) from by omega] at this
         ·cases hx
       obtain⟨bx,b1,b2⟩:=db cs (G.g n).o xs q3 hv;exact⟨bx,(G.g n).b,(G.g n).o,b1,by simpa using lz,q2.lt,b2⟩
    ·cases hx
   ·cases hx
  |de xs off=>
   simp only[Am.je] at hx;split at hx
   ·rename_i h0;subst h0;injection hx with hx;subst hx;rcases hc with hc|hc
    ·cases hc
    ·have dm:dh w G h [.de xs 0] [v]:=hc;obtain⟨b,o,pe,p1,p2,p3,p4⟩:=(dm.2 0 _ v rfl rfl).2;exact⟨pe,b,o,p2,by simpa using p1,H.gC b p3,fun j c hj=>⟨(p4 j c hj).1,(p4 j c hj).2.1⟩⟩
   ·cases hx
  |c y=>exact one (.c y) hx hc
  |nil sz=>exact one (.nil sz) hx hc
  |sl n sz lo len=>exact one (.sl n sz lo len) hx hc
  |bw n k aB off sz len=>exact one (.bw n k aB off sz len) hx hc
  |cY n k aB off sz i=>exact one (.cY n k aB off sz i) hx hc
  |cE xs off j n sz len=>exact one (.cE xs off j n sz len) hx hc
  |fn f cK=>exact one (.fn f cK) hx hc
  |bm=>exact one .bm hx hc
 |agg cs=>
  simp only[Am.je] at hx;cases hv:Am.iL h cs with
  |none=>rw[hv] at hx;cases hx
  |some xs=>
   rw[hv] at hx;simp at hx;subst hx;obtain⟨vs,e,hl⟩:∃vs:List Value,v=.agg vs.toArray/\dh w G h cs vs:=hc;obtain⟨bx,a1,a2,a3⟩:=H.iL hv hl;exact⟨bx,a1,a3,by rw[e,a2]⟩
 |bH xs=>simp[Am.je] at hx
theorem HR.kU (H:HR B E w G h used tk):∀{xs:List aj} {ds:List Dv} {vs:List Value},kU h xs=some ds->vs.length=xs.length->
  (∀(j:Nat) (x:aj) (v:Value),xs[j]? =some x->vs[j]? =some v->RA w G h x v)->EQ w ds vs
 |[],ds,vs,hx,hl,hc=>by
  simp only[Am.kU] at hx;injection hx with hx;subst hx;exact⟨by simpa using hl,by simp⟩
 |x::xs,ds,vs,hx,hl,hc=>by
  simp only[Am.kU] at hx;split at hx
  ·rename_i d ur e1 e2;injection hx with hx;subst hx;match vs,hl with
   |v::vs,hl=>
    have a:=H.je e1 (hc 0 x v rfl rfl);obtain⟨b1,b2⟩:=H.kU e2 (xs:=xs) (vs:=vs) (by simpa using hl) (fun j x v h1 h2=>hc (j+1) x v h1 h2);refine⟨by simp[b1],fun j d v hj hv=>?_⟩;cases j with
    |zero=>simp at hj hv;subst hj;subst hv;exact a
    |succ j=>exact b2 j d v (by simpa using hj) (by simpa using hv)
  ·cases hx
end
section
variable {B:Nat} {E:Ex} {w0 w w':World} {G G':Gh} {h h':Nat->Option aq} {used used':Nat->Bool} {tk:List PC}
theorem bk.uM (S:Nat->Prop) (u:Nat->Prop):bk w G h u w ⟨fun b=>G.Im b\/S b,G.g⟩ h:=
 ⟨fun _ h=>.inl h,fun _ _ _=>rfl,fun _ _ h=>⟨h,rfl,rfl,rfl,rfl,rfl⟩,fun n gr sz xs _ hn=>⟨⟨gr,xs,hn⟩,fun k j pc h1 h2=>⟨pc,h1,rfl,h2⟩⟩⟩
theorem HR.uM (H:HR B E w G h used tk) (S:Nat->Prop) (h1:∀b,S b->b<w.heap.size) (h2:∀b,S b->∀n,h n≠none->(G.g n).nl=false->b≠(G.g n).b)
  (h3:∀b,S b->∀n gr sz xs,h n=some (.row gr .live sz xs)->¬bf b (G.g n).px) (h4:∀b,S b->B<=b\/E b\/E.a b):HR B E w ⟨fun b=>G.Im b\/S b,G.g⟩ h used tk:=by
 refine⟨H.ji,H.iq,fun n cs hn=>?_,fun n gr m sz xs hn=>?_,fun n hn hl=>?_,H.inj,?_,fun b hb=>hb.elim (H.pH b) (h4 b),H.gn,H.live,fun i pc hi=>?_,H.xf,H.sK⟩
 ·obtain⟨a1,a2,a3⟩:=H.box n cs hn;refine⟨a1,a2,fun j c hj=>?_⟩;obtain⟨v,b1,b2,b3⟩:=a3 j c hj;exact⟨v,b1,b2,b3.fP (bk.uM S (fun n=>used n=true)) fun q hq=>H.iq n cs c q hn (List.mem_of_getElem? hj) hq⟩
 ·have hr:=H.row n gr m sz xs hn;refine⟨hr.pos,hr.er,hr.nl,hr.eI,hr.room,?_,hr.nr⟩;have hm:=hr.mode;cases m with
  |aI=>exact fun b hb=>.inl (hm b hb)
  |aO=>exact⟨fun b hb=>⟨.inl (hm.1 b hb).1,(hm.1 b hb).2⟩,hm.2⟩
  |live=>exact⟨fun b hb=>⟨fun hi=>hi.elim (hm.1 b hb).1 (fun hs=>h3 b hs n gr sz xs hn hb),(hm.1 b hb).2⟩,hm.2⟩
 ·obtain⟨a1,a2,a3⟩:=H.own n hn hl;exact⟨fun hi=>hi.elim a1 (fun hs=>h2 _ hs n hn hl rfl),a2,a3⟩
 ·exact fun b hb=>hb.elim (H.gC b) (h1 b)
 ·obtain⟨a1,a2⟩:=H.sJ i pc hi;exact⟨a1,fun b hb=>⟨.inl (a2 b hb).1,(a2 b hb).2⟩⟩
theorem HR.xd {l:List PC} (H:HR B E w G h used (tk++l)):HR B E w G h used tk:=by
 have e:∀(i:Nat) (pc:PC),tk[i]? =some pc->(tk++l)[i]? =some pc:=fun i pc hi=>by
  rw[List.getElem?_append_left (List.getElem?_eq_some_iff.1 hi).1];exact hi
 exact⟨H.ji,H.iq,H.box,H.row,H.own,H.inj,H.gC,H.pH,H.gn,H.live,fun i pc hi=>H.sJ i pc (e i pc hi),fun i j pc dv b iv h1 h2=>H.xf i j pc dv b iv (e i pc h1) (e j dv h2),
  fun i pc n gr m sz xs b hi=>H.sK i pc n gr m sz xs b (e i pc hi)⟩
theorem HR.VR (H:HR B E w G h used tk) {pc:PC} (h1:Sep pc) (h2:∀b,aX b pc->G.Im b/\dZ w b/\(B<=b\/E b))
  (h3:∀(i:Nat) (q:PC) (b:Nat),tk[i]? =some q->aX b q->¬aX b pc)
  (h4:∀n gr m sz xs b,h n=some (.row gr m sz xs)->m≠ .aI->aX b pc->¬bf b (G.g n).px):HR B E w G h used (tk++[pc]):=by
 have e:∀(i:Nat) (q:PC),(tk++[pc])[i]? =some q->(i<tk.length/\tk[i]? =some q)\/(i=tk.length/\q=pc):=fun i q hi=>by
  rcases Nat.lt_trichotomy i tk.length with cj|fw|Af
  ·rw[List.getElem?_append_left cj] at hi;exact .inl ⟨cj,hi⟩
  ·subst fw;simp at hi;exact .inr ⟨rfl,hi.symm⟩
  ·rw[List.getElem?_eq_none (by simp;omega)] at hi;cases hi
 refine⟨H.ji,H.iq,H.box,H.row,H.own,H.inj,H.gC,H.pH,H.gn,H.live,fun i q hi=>?_,fun i j q q' b iv hi hj hb=>?_,fun i q n gr m sz xs b hi hn hm hb=>?_⟩
 ·rcases e i q hi with⟨_,hi⟩|⟨_,rfl⟩
  ·exact H.sJ i q hi
  ·exact⟨h1,h2⟩
 ·rcases e i q hi with⟨_,hi'⟩|⟨ei,eq⟩
  ·rcases e j q' hj with⟨_,ng⟩|⟨_,XL⟩
   ·exact H.xf i j q q' b iv hi' ng hb
   ·rw[XL];exact h3 i q b hi' hb
  ·rcases e j q' hj with⟨_,ng⟩|⟨ej,XL⟩
   ·rw[eq] at hb;exact fun aJ=>h3 j q' b ng aJ hb
   ·omega
 ·rcases e i q hi with⟨_,hi⟩|⟨_,rfl⟩
  ·exact H.sK i q n gr m sz xs b hi hn hm hb
  ·exact h4 n gr m sz xs b hn hm hb
theorem Sep.g9 {pc:PC} (hs:pc.er.fh=true):Sep pc/\∀b,¬aX b pc:=by
 cases pc with
 |int k n=>exact⟨.int k n,fun b hb=>by cases hb⟩
 |bool b=>exact⟨.bool b,fun b hb=>by cases hb⟩
 |list sz a cap xs=>simp[PC.d9,C.fh] at hs
theorem pk.g9 {pc:PC} (h:pc.er.fh=true):pk w pc:=by
 cases pc with
 |int k n=>trivial
 |bool b=>trivial
 |list sz a cap xs=>rw[PC.d9] at h;cases h
theorem nI {n m:Nat} {b:aq} (hm:ax h n none m=some b):h m=some b/\m≠n:=by
 by_cases bF:m=n
 ·subst bF;rw[bO] at hm;cases hm
 ·rw[cJ _ _ _ _ bF] at hm;exact⟨hm,bF⟩
theorem vK {n m:Nat} (hm:ax h n none m≠none):h m≠none/\m≠n:=by
 cases hh:ax h n none m with
 |none=>exact absurd hh hm
 |some b=>obtain⟨a,b⟩:=nI hh;exact⟨by rw[a];simp,b⟩
def Na (p:PB):Nat->Prop:=fun b=>(p.nl=false/\b=p.b)\/bf b p.px
theorem HR.freeze (H:HR B E w G h used tk) {n:Nat} {gr:Bool} {m:Mode} {rs:Nat} {xs:List (List C)} (hn:h n=some (.row gr m rs xs)):
  HR B E w ⟨fun b=>G.Im b\/Na (G.g n) b,G.g⟩ (ax h n none) used tk:=by
 have hr:=H.row n gr m rs xs hn;have bK:h n≠none:=by rw[hn];simp
 have gf:∀b,bf b (G.g n).px->G.Im b\/m=.live:=fun b hb=>by
  have hm:=hr.mode;cases m with
  |aI=>exact .inl (hm b hb)
  |aO=>exact .inl (hm.1 b hb).1
  |live=>exact .inr rfl
 refine(H.del n).uM (Na (G.g n)) (fun b hb=>?_) (fun b hb q hq hl=>?_) (fun b hb q bn aH ar hq cN=>?_) (fun b hb=>?_)
 ·rcases hb with⟨h1,rfl⟩|hb
  ·exact(H.own n bK h1).2.2
  ·exact H.oZ hn hb
 ·obtain⟨mG,gJ⟩:=vK hq;rcases hb with⟨h1,rfl⟩|hb
  ·exact H.inj n q bK mG (Ne.symm gJ) h1 hl
  ·rcases gf b hb with hi|rfl
   ·rintro rfl;exact(H.own q mG hl).1 hi
   ·exact H.live n gr rs xs hn b hb q mG hl
 ·obtain⟨mG,gJ⟩:=nI hq;rcases hb with⟨h1,rfl⟩|hb
  ·exact H.live q bn aH ar mG _ cN n bK h1 rfl
  ·rcases gf b hb with hi|rfl
   ·exact((H.row q bn .live aH ar mG).mode.1 b cN).1 hi
   ·exact H.gn n q gr .live rs xs bn .live aH ar hn mG (by simp) (by simp) (Ne.symm gJ) b hb cN
 ·rcases hb with⟨h1,rfl⟩|hb
  ·exact(H.own n bK h1).2.1.imp id .inl
  ·rcases gf b hb with hi|rfl
   ·exact H.pH b hi
   ·exact(hr.mode.1 b hb).2.2.imp id .inl
theorem iM.sub {px:List (List PC)} (hs:iM px) (lo len:Nat):iM ((px.drop lo).take len):=by
 refine⟨fun k j c hk=>hs.1 _ _ _ (qj hk).1,fun k j c k' j' c' b hk bJ aF hb=>hs.2 _ _ _ _ _ _ b (qj hk).1 (qj bJ).1 (fun e=>aF ?_) hb⟩;injection e with e1 e2;rw[show k=k' by omega,e2]
theorem HR.fR {σ σ1:St} (H:HR B E w G σ.h σ.used tk) {c:ah} {x:C} {o:Bool} {v:Value} (hx:σ.fR c=some (x,o,σ1)) (hc:RC w G σ.h c v):
  ∃(Im':Nat->Prop) (pc:PC),pc.er=x/\pc.val=v/\Good w pc/\(∀b,aX b pc->Im' b)/\
   HR B E w ⟨Im',G.g⟩ σ1.h σ.used (if o=true then tk++[pc] else tk)/\bk w G σ.h (fun n=>σ.used n=true) w ⟨Im',G.g⟩ σ1.h/\σ1.env=σ.env/\σ1.used=σ.used/\
   (∀n b,σ1.h n=some b->σ.h n=some b):=by
 cases c with
 |c y=>
  simp only[St.fR] at hx;injection hx with hx;injection hx with kI eH;injection eH with eH qG;subst kI eH qG;obtain⟨pc,h1,h2,h3,h4⟩:=hc;refine⟨G.Im,pc,h1,h2,h3,h4,?_,bk.refl _ _ _ _,rfl,rfl,fun _ _ h=>h⟩;by_cases hs:y.fh=true
  ·rw[if_pos hs];obtain⟨s1,s2⟩:=Sep.g9 (pc:=pc) (by rw[h1];exact hs);exact H.VR s1 (fun b hb=>absurd hb (s2 b)) (fun _ _ b _ _=>s2 b) (fun _ _ _ _ _ b _ _ hb=>absurd hb (s2 b))
  ·rw[if_neg hs];exact H
 |nil sz=>
  simp only[St.fR] at hx;split at hx
  ·rename_i eR;injection hx with hx;injection hx with kI eH;injection eH with eH qG;subst kI eH qG;have dm:v=.slice none 0 0:=hc;subst dm;have cg:∀b,¬aX b (.list sz none 0 []):=fun b hb=>by
    rw[aX.kN] at hb;rcases hb with⟨hb,_⟩|⟨k,j,c,⟨e,he,_⟩,_⟩
    ·exact absurd rfl hb
    ·simp at he
   refine⟨G.Im,.list sz none 0 [],by simp[PC.d9],rfl,.nil _ _ _ eR,fun b hb=>absurd hb (cg b),?_,bk.refl _ _ _ _,rfl,rfl,fun _ _ h=>h⟩;rw[if_pos rfl];refine H.VR (.list _ _ _ _ ?_ ?_ ?_) (fun b hb=>absurd hb (cg b)) (fun _ _ b _ _=>cg b) (fun _ _ _ _ _ b _ _ hb=>absurd hb (cg b))
   ·rintro k j c ⟨e,he,_⟩;simp at he
   ·rintro b o k j c _ ⟨e,he,_⟩;simp at he
   ·rintro k j c k' j' c' b ⟨e,he,_⟩;simp at he
  ·cases hx
 |sl n sz lo len=>
  simp only[St.fR] at hx;split at hx
  ·rename_i gr m rs xs hn;split at hx
   ·rename_i cR;obtain⟨rfl,rfl,gY⟩:=cR;injection hx with hx;injection hx with kI eH;injection eH with eH qG;subst kI eH qG;have hl:0+len<=xs.length:=by omega
    have bK:σ.h n≠none:=by rw[hn];simp
    have hs:gM (G.g n) rs 0 len v:=hc bK;have hr:=H.row n gr m rs xs hn;obtain⟨a1,a2,a3,a4⟩:=Em hr hs hl;have HF:=H.freeze hn;have K1:bk w G σ.h (fun n=>σ.used n=true) w ⟨fun b=>G.Im b\/Na (G.g n) b,G.g⟩ (ax σ.h n none):=
     bk.trans (fun _ h=>h) (bk.del n (fun n=>σ.used n=true)) (bk.uM (Na (G.g n)) (fun n=>σ.used n=true))
    refine⟨_,jK (G.g n) rs 0 len v,by simpa using a1,a2,a3,fun b hb=>.inr (a4 b hb),?_,K1,rfl,rfl,fun q b hq=>(nI hq).1⟩;by_cases hm:m≠ .aI
    ·rw[if_pos (by simpa using hm)];have qD:(∀b,bf b (G.g n).px->dZ w b/\(B<=b\/E b))/\iM (G.g n).px/\(∀b,bf b (G.g n).px->(G.g n).nl=false->b≠(G.g n).b):=by
      have dU:=hr.mode;cases m with
      |aI=>exact absurd rfl hm
      |aO=>exact⟨fun b hb=>(dU.1 b hb).2,dU.2,fun b hb hl fw=>(H.own n bK hl).1 (fw▸(dU.1 b hb).1)⟩
      |live=>exact⟨fun b hb=>(dU.1 b hb).2,dU.2,fun b hb hl=>H.live n gr rs xs hn b hb n bK hl⟩
     obtain⟨o1,o2,o3⟩:=qD;refine HF.VR ?_ (fun b hb=>⟨.inr (a4 b hb),?_⟩) (fun i q b hi hb aJ=>?_) (fun q bn m' aH ar b hq bL hb cN=>?_)
     ·
      rcases hs with⟨aT,rfl,_,rfl⟩|⟨aT,a,rfl,gF,ha⟩
      ·simp only[jK];have hz:(List.take 0 (List.drop 0 (G.g n).px))=[]:=by simp
       rw[hz];refine .list _ _ _ _ ?_ ?_ ?_
       ·rintro k j c ⟨e,he,_⟩;simp at he
       ·rintro b o k j c _ ⟨e,he,_⟩;simp at he
       ·rintro k j c k' j' c' b ⟨e,he,_⟩;simp at he
      ·simp only[jK];have Gn:=o2.sub 0 len;refine .list _ _ _ _ Gn.1 (fun b o k j c gd hk hb=>?_) Gn.2;have bJ:=(qj hk).1;have QV:0<len:=by have:=(qj hk).2;omega
       have e:=ha (.inl (by omega));rw[e] at gd;injection gd with gd;exact o3 b ⟨_,_,_,bJ,hb⟩ aT (lf gd).1.symm
     ·rcases a4 b hb with⟨eG,rfl⟩|aJ
      ·exact⟨(hr.eI eG).1,(H.own n bK eG).2.1⟩
      ·exact o1 b aJ
     ·rcases a4 b aJ with⟨eG,rfl⟩|cN
      ·exact(H.own n bK eG).1 ((H.sJ i q hi).2 _ hb).1
      ·exact H.sK i q n gr m rs xs b hi hn hm hb cN
     ·obtain⟨mG,gJ⟩:=nI hq;rcases a4 b hb with⟨eG,rfl⟩|aJ
      ·have dU:=(H.row q bn m' aH ar mG).mode;cases m' with
       |aI=>exact absurd rfl bL
       |aO=>exact(H.own n bK eG).1 (dU.1 _ cN).1
       |live=>exact H.live q bn aH ar mG _ cN n bK eG rfl
      ·exact H.gn n q gr m rs xs bn m' aH ar hn mG hm bL (Ne.symm gJ) b aJ cN
    ·rw[if_neg (by simpa using hm)];exact HF
   ·cases hx
  ·cases hx
 |ptr _ _ _ _=>simp[St.fR] at hx
 |de _ _=>simp[St.fR] at hx
 |cE _ _ _ _ _ _=>simp[St.fR] at hx
 |bw _ _ _ _ _ _=>simp[St.fR] at hx
 |fn _ _=>simp[St.fR] at hx
 |cY _ _ _ _ _ _=>simp[St.fR] at hx
 |bm=>simp[St.fR] at hx
end
section
variable {B:Nat} {E:Ex} {w0 w w':World} {G G':Gh} {h h':Nat->Option aq} {used used':Nat->Bool} {tk:List PC}
theorem HR.gw:∀{cs:List ah} {σ σ1:St} {G:Gh} {tk:List PC} {xs:List C} {o:Bool} {vs:List Value},HR B E w G σ.h σ.used tk->σ.gw cs=some (xs,o,σ1)->dh w G σ.h cs vs->
  (∀c∈cs,∀m,c.ref m->σ.used m=true)->
  ∃(Im':Nat->Prop) (bx:List PC),bx.map PC.er=xs/\bx.map PC.val=vs/\(∀pc∈bx,Good w pc/\∀b,aX b pc->Im' b)/\
   HR B E w ⟨Im',G.g⟩ σ1.h σ.used (if o=true then tk++bx else tk)/\bk w G σ.h (fun n=>σ.used n=true) w ⟨Im',G.g⟩ σ1.h/\σ1.env=σ.env/\σ1.used=σ.used/\
   (∀n b,σ1.h n=some b->σ.h n=some b)
 |[],σ,σ1,G,tk,xs,o,vs,H,hx,hc,hr=>by
  simp only[St.gw] at hx;injection hx with hx;injection hx with kI eH;injection eH with eH qG;subst kI eH qG;have:vs=[]:=List.eq_nil_of_length_eq_zero (by simpa using hc.1);subst this;exact⟨G.Im,[],rfl,rfl,by simp,by simpa using H,bk.refl _ _ _ _,rfl,rfl,fun _ _ h=>h⟩
 |c::cs,σ,σ2,G,tk,xs,o,vs,H,hx,hc,hr=>by
  simp only[St.gw] at hx;split at hx
  ·rename_i x o1 σ1 e1;split at hx
   ·rename_i ar o2 V4 e2;injection hx with hx;injection hx with kI eH;injection eH with eH qG;subst kI eH qG;obtain⟨hlen,cD⟩:=hc;match vs,hlen with
    |v::vs,hlen=>
     obtain⟨zz,pc,a1,a2,a3,a4,a5,a6,a7,a8,a9⟩:=H.fR e1 (cD 0 c v rfl rfl).2;have nd:dh w ⟨zz,G.g⟩ σ1.h cs vs:=dh.fP a6 (fun c' dm m hm=>hr c' (by simp[dm]) m hm) ⟨by simpa using hlen,fun j c u h1 h2=>cD (j+1) c u h1 h2⟩;rw[<-a8] at a5;obtain⟨EY,bx,b1,b2,b3,b4,b5,b6,b7,b8⟩:=HR.gw a5 e2 nd (fun c' dm m hm=>by rw[a8];exact hr c' (by simp[dm]) m hm);refine⟨EY,pc::bx,by simp[a1,b1],by simp[a2,b2],fun q hq=>?_,?_,bk.trans (fun n hn=>by rw[a8];exact hn) a6 b5,b6.trans a7,b7.trans a8,fun n b hb=>a9 n b (b8 n b hb)⟩
     ·cases hq with
      |head=>exact⟨a3,fun b hb=>b5.im b (a4 b hb)⟩
      |tail _ hq=>exact b3 q hq
     ·rw[a8] at b4;cases o1<;>cases o2<;>simp at b4⊢
      ·exact b4
      ·exact b4.xd
      ·exact b4.xd
      ·exact b4
   ·cases hx
  ·cases hx
theorem RA.cells {x:aj} {ag:Bool} {cs:List ah} {v:Value} (hx:x.cells?=some (ag,cs)) (hc:RA w G h x v):dh w G h cs v.cells.toList:=by
 cases x with
 |one c=>
  have hj:c≠ .bm/\ag=false/\cs=[c]:=by
   cases c<;>simp[aj.cells?] at hx<;>(obtain⟨rfl,rfl⟩:=hx;simp)
  obtain⟨h1,rfl,rfl⟩:=hj;rcases hc with rfl|hc
  ·exact absurd rfl h1
  ·have dm:dh w G h [c] [v]:=hc;have h1:=(dm.2 0 c v rfl rfl).1;cases v<;>first|exact dm|(simp[Value.oneCell'] at h1)
 |agg cs'=>
  simp[aj.cells?] at hx;obtain⟨rfl,rfl⟩:=hx;obtain⟨vs,e,hl⟩:∃vs:List Value,v=.agg vs.toArray/\dh w G h cs' vs:=hc;subst e;exact hl
 |bH xs=>simp[aj.cells?] at hx
theorem aj.xK {x:aj} {ag:Bool} {cs:List ah} (hx:x.cells?=some (ag,cs)) {c:ah} (hc:c∈cs) {m:Nat} (hm:c.ref m):x.ref m:=by
 cases x with
 |one c'=>
  have hj:cs=[c']:=by
   cases c'<;>simp[aj.cells?] at hx<;>exact hx.2.symm
  subst hj;simp at hc;subst hc;exact hm
 |agg cs'=>
  simp[aj.cells?] at hx;obtain⟨_,rfl⟩:=hx;exact⟨c,hc,hm⟩
 |bH xs=>simp[aj.cells?] at hx
theorem HR.mS {sz:Nat}:∀{xs:List aj} {σ σ1:St} {G:Gh} {tk:List PC} {es:List (List C)} {o:Bool} {vs:List Value},HR B E w G σ.h σ.used tk->σ.mS sz xs=some (es,o,σ1)->
  vs.length=xs.length->(∀(j:Nat) (x:aj) (v:Value),xs[j]? =some x->vs[j]? =some v->RA w G σ.h x v)->(∀x∈xs,∀m,x.ref m->σ.used m=true)->
  ∃(Im':Nat->Prop) (pes:List (List PC)),pes.map (fun e=>e.map PC.er)=es/\pes.map (fun e=>e.map PC.val)=vs.map (fun v=>v.cells.toList)/\(∀e∈pes,e.length=sz)/\
   (∀e∈pes,∀pc∈e,Good w pc/\∀b,aX b pc->Im' b)/\
   HR B E w ⟨Im',G.g⟩ σ1.h σ.used (if o=true then tk++pes.flatten else tk)/\bk w G σ.h (fun n=>σ.used n=true) w ⟨Im',G.g⟩ σ1.h/\σ1.env=σ.env/\σ1.used=σ.used/\
   (∀n b,σ1.h n=some b->σ.h n=some b)
 |[],σ,σ1,G,tk,es,o,vs,H,hx,hl,hc,hr=>by
  simp only[St.mS] at hx;injection hx with hx;injection hx with kI eH;injection eH with eH qG;subst kI eH qG;have:vs=[]:=List.eq_nil_of_length_eq_zero (by simpa using hl);subst this;exact⟨G.Im,[],rfl,rfl,by simp,by simp,by simpa using H,bk.refl _ _ _ _,rfl,rfl,fun _ _ h=>h⟩
 |x::xs,σ,σ2,G,tk,es,o,vs,H,hx,hl,hc,hr=>by
  simp only[St.mS] at hx;split at hx
  ·rename_i ag cs lL;split at hx
   ·rename_i bU;split at hx
    ·rename_i e o1 σ1 e1;split at hx
     ·rename_i es' o2 V4 e2;injection hx with hx;injection hx with kI eH;injection eH with eH qG;subst kI eH qG;match vs,hl with
      |v::vs,hl=>
       have cv:=(hc 0 x v rfl rfl).cells lL;obtain⟨zz,bx,a1,a2,a3,a5,a6,a7,a8,a9⟩:=H.gw e1 cv (fun c' dm m hm=>hr x (by simp) m (aj.xK lL dm hm));rw[<-a8] at a5;obtain⟨EY,pes,b1,b2,b3,b3',b4,b5,b6,b7,b8⟩:=HR.mS (xs:=xs) (vs:=vs) a5 e2 (by simpa using hl)
        (fun j x v h1 h2=>(hc (j+1) x v h1 h2).fP a6 (fun m hm=>hr x (by simp[List.mem_of_getElem? h1]) m hm)) (fun x' lS m hm=>by rw[a8];exact hr x' (by simp[lS]) m hm)
       refine⟨EY,bx::pes,by simp[a1,b1],by simp[a2,b2],fun q hq=>?_,fun q hq pc bg=>?_,?_,bk.trans (fun n hn=>by rw[a8];exact hn) a6 b5,b6.trans a7,b7.trans a8,fun n b hb=>a9 n b (b8 n b hb)⟩
       ·cases hq with
        |head=>
         have:(bx.map PC.er).length=(v.cells.toList).length:=by rw[<-a2];simp
         have h2:=cv.1;simp at this;simp at h2;omega
        |tail _ hq=>exact b3 q hq
       ·cases hq with
        |head=>exact⟨(a3 pc bg).1,fun b hb=>b5.im b ((a3 pc bg).2 b hb)⟩
        |tail _ hq=>exact b3' q hq pc bg
       ·rw[a8] at b4;cases o1<;>cases o2<;>simp at b4⊢
        ·exact b4
        ·exact b4.xd
        ·exact b4.xd
        ·exact b4
     ·cases hx
    ·cases hx
   ·cases hx
  ·cases hx
def jM (b:Nat) (pc:PC):Prop:=aX b pc\/∃sz o cap xs,pc=.list sz (some (ad b o)) cap xs/\cap≠0
def Cf (w:World):PC->Prop
 |.list sz a cap xs=>0<sz/\xs.length<=cap/\(cap=0\/∃b o cur e,a=some (ad b o)/\w.heap[b]? =some (.cells cur e (0,0))/\cur.size=o+cap*sz/\cap<=maxLen/\∀k j c,At xs k j c->¬aX b c)
 |_=>True
structure vr (w:World) (B':Nat) (ps:List PC):Prop where
 ez:∀pc∈ps,Good w pc/\Sep pc/\Cf w pc
 new:∀pc∈ps,∀b,jM b pc->B'<=b/\dZ w b
 oI:∀(i j:Nat) (pc dv:PC) (b:Nat),i≠j->ps[i]? =some pc->ps[j]? =some dv->jM b pc->¬jM b dv
def sB:K×List PC->Value
 |(.one,[pc])=>pc.val
 |(_,bx)=>.agg (bx.map PC.val).toArray
def wX:List (K×List PC)->Value
 |[p]=>sB p
 |l=>.tuple (l.map sB).toArray
def dd (P:Program) (f:FuncId) (M:List Dv->Option (List Dv)):Prop:=
 ∀ds rs,M ds=some rs->∀(w:World) (vals:List Value),EQ w ds vals->Calls P f vals.toArray w fun e w'=>
  ∃bq:List (K×List PC),bq.map (fun p=>(p.1,p.2.map PC.er))=rs/\e=.returned (wX bq)/\(∀p∈bq,p.1≠ .ptr/\(p.1=.one->p.2.length=1))/\
   vr w' w.heap.size (bq.flatMap (·.2))/\Fr w.heap.size Ex.no w w'
end
section
variable {B:Nat} {E:Ex} {w0 w w':World} {G G':Gh} {h h':Nat->Option aq} {used used':Nat->Bool} {tk:List PC} {N:Nat}
def oB (G:Gh) (h:Nat->Option aq) (b:Nat):Prop:=
 ¬G.Im b/\(∀n,h n≠none->(G.g n).nl=false->(G.g n).b≠b)/\∀n gr m sz xs,h n=some (.row gr m sz xs)->¬bf b (G.g n).px
theorem HR.LB (H:HR B E w G h used tk):oB G h w.heap.size:=
 ⟨fun hi=>Nat.lt_irrefl _ (H.gC _ hi),fun n hn hl he=>by have:=(H.own n hn hl).2.2;omega,fun n gr m sz xs hn hb=>Nat.lt_irrefl _ (H.oZ hn hb)⟩
def ag2 (B:Nat) (E:Ex) (w w':World) (G:Gh) (h:Nat->Option aq) (p:PB):aq->Prop
 |.box cs=>p.nl=false/\dZ w' p.b/\∀(j:Nat) (c:ah),cs[j]? =some c->∃v,w'.cell? (ad p.b (p.o+j))=some v/\v.oneCell'=true/\RC w G h c v
 |.row gr m sz xs=>ua B E w' G gr m sz xs p
theorem bk.insert (H:HR B E w G h used tk) {n:Nat} {blk:aq} {p:PB} (hn:used n=false) (hw:∀b,b<w.heap.size->w'.heap[b]? =w.heap[b]?):
  bk w G h (fun n=>used n=true) w' ⟨G.Im,ax G.g n p⟩ (ax h n (some blk)):=by
 have ne:∀m,used m=true->m≠n:=fun m hm e=>by subst e;rw[hn] at hm;cases hm
 refine⟨fun _ h=>h,fun b hb o=>gU (hw b (H.gC b hb)) o,fun m hm h0=>?_,fun m gr sz xs hm h0=>?_⟩
 ·rw[cJ _ _ _ _ (ne m hm)] at h0;simp only[cJ _ _ _ _ (ne m hm)];exact⟨h0,trivial,trivial,trivial,trivial,trivial⟩
 ·rw[cJ _ _ _ _ (ne m hm)] at h0;simp only[cJ _ _ _ _ (ne m hm)];exact⟨⟨gr,xs,h0⟩,fun k j pc h1 h2=>⟨pc,h1,rfl,h2⟩⟩
theorem HR.insert (H:HR B E w G h used tk) {n:Nat} {blk:aq} {p:PB} (hn:used n=false) (hw:∀b,b<w.heap.size->w'.heap[b]? =w.heap[b]?) (bU:w.heap.size<=w'.heap.size)
  (hl:p.nl=false->oB G h p.b/\(B<=p.b\/E p.b)/\p.b<w'.heap.size)
  (uK:∀cs c m,blk=.box cs->c∈cs->c.ref m->used m=true)
  (jw:ag2 B E w w' G h p blk)
  (Da:∀gr m sz xs,blk=.row gr m sz xs->m≠ .aI->∀n' bn m' aH ar,h n'=some (.row bn m' aH ar)->m'≠ .aI->∀b,bf b p.px->¬bf b (G.g n').px)
  (rV:∀gr sz xs,blk=.row gr .live sz xs->∀b,bf b p.px->(p.nl=false->b≠p.b)/\∀n',h n'≠none->(G.g n').nl=false->b≠(G.g n').b)
  (mI:∀gr m sz xs,blk=.row gr m sz xs->m≠ .aI->∀(i:Nat) (pc:PC) (b:Nat),tk[i]? =some pc->aX b pc->¬bf b p.px):
  HR B E w' ⟨G.Im,ax G.g n p⟩ (ax h n (some blk)) (ax used n true) tk:=by
 have K:=bk.insert H (blk:=blk) (p:=p) hn hw;have nU:h n=none:=by
  cases hh:h n with
  |none=>rfl
  |some b=>have:=H.ji n (by rw[hh];simp);rw[hn] at this;cases this
 have aF:∀m,h m≠none->m≠n:=fun m hm e=>by subst e;exact hm nU
 have hu:∀m,used m=true->ax used n true m=true:=fun m hm=>by
  simp only[j8];split
  ·rfl
  ·exact hm
 refine H.put (fun b hb _=>hw b hb) bU (fun b hb hU=>hU.congr (hw b hb)) hu (bO _ _ _) (fun hp=>⟨(hl hp).1.1,(hl hp).2⟩) (fun hp m hm h0 gY=>(hl hp).1.2.1 m h0 gY)
  (fun hp m gr sz xs hm h0 b hb he=>(hl hp).1.2.2 m gr _ sz xs h0 (he▸hb)) (fun cs c m hb hc hr=>hu m (uK cs c m hb hc hr)) K ?_
  (fun gr m sz xs hb hm n' bn m' aH ar _ h0=>Da gr m sz xs hb hm n' bn m' aH ar h0) (fun gr sz xs hb b cN=>⟨(rV gr sz xs hb b cN).1,fun n' _=>(rV gr sz xs hb b cN).2 n'⟩) mI
  (fun hp _ b hb he=>by obtain⟨m,gr,mo,sz,xs,_,h0,cN⟩:=hb;exact(hl hp).1.2.2 m gr mo sz xs h0 (he▸cN))
 cases blk with
 |box cs=>
  obtain⟨a1,a2,a3⟩:=jw;refine⟨a1,a2,fun j c hj=>?_⟩;obtain⟨v,b1,b2,b3⟩:=a3 j c hj;exact⟨v,b1,b2,b3.fP K fun m hm=>uK cs c m rfl (List.mem_of_getElem? hj) hm⟩
 |row gr m sz xs=>
  have hr:ua B E w' G gr m sz xs p:=jw;exact⟨hr.pos,hr.er,hr.nl,hr.eI,hr.room,by
   have:=hr.mode;cases m<;>exact this,hr.nr⟩
theorem R.put {σ:St} {a:Act} (r:R B E w0 N σ a w G) {x:aj} {v:Value} (hv:RA w G σ.h x v) (hr:∀m,x.ref m->σ.used m=true) {d:Option Nat} (hd:∀n,d=some n->n<N):
  R B E w0 N (σ.put d x) (a.put d v) w G:=by
 cases d with
 |none=>exact r
 |some n=>
  have hn:=hd n rfl;refine⟨r.defers,by simp[Act.put,r.size],fun s=>?_,fun s m hm=>?_,r.hr,r.fr,r.oV,r.u7⟩
  ·simp only[St.put,Act.put];by_cases hs:s=n
   ·subst hs;rw[bO];have:(a.tmps.setIfInBounds s v).getD s undef=v:=by
     simp[Array.getD_eq_getD_getElem?,r.size,hn]
    rw[this];exact hv
   ·rw[cJ _ _ _ _ hs];have:(a.tmps.setIfInBounds n v).getD s undef=a.tmps.getD s undef:=by
     simp[Array.getD_eq_getD_getElem?,Array.getElem?_setIfInBounds_ne (Ne.symm hs)]
    rw[this];exact r.env s
  ·simp only[St.put] at hm⊢;by_cases hs:s=n
   ·subst hs;rw[bO] at hm;exact hr m hm
   ·rw[cJ _ _ _ _ hs] at hm;exact r.pg s m hm
theorem R.step {σ:St} {a:Act} (r:R B E w0 N σ a w G) {σ':St} (he:σ'.env=σ.env) (hu:∀m,σ.used m=true->σ'.used m=true) (K:bk w G σ.h (fun n=>σ.used n=true) w' G' σ'.h)
  (H:HR B E w' G' σ'.h σ'.used []) (F:Fr B E w0 w'):R B E w0 N σ' a w' G':=
 ⟨r.defers,r.size,fun s=>by rw[he];exact(r.env s).fP K (fun m hm=>r.pg s m hm),fun s m hm=>by rw[he] at hm;exact hu m (r.pg s m hm),H,F,
  fun n p b hp hb=>by
   have ym:=r.u7 n (E.lt n p hp);obtain⟨k0,k1,k2,k3,k4,k6⟩:=K.name n ym (by rw[hb];simp);cases h0:σ.h n with
   |none=>exact absurd h0 k0
   |some b0=>
    obtain⟨p1,p2,p3,p4,p6,p5⟩:=r.oV n p b0 hp h0;refine⟨k1.trans p1,k2.trans p2,k3.trans p3,k4.trans p4,k6.trans p6,fun gr sz xs FZ k j pc hk hL=>?_⟩;subst FZ;obtain⟨⟨qq,jp,e0⟩,hl⟩:=K.live n gr sz xs ym hb;rw[h0] at e0;injection e0 with e0;obtain⟨pc1,q1,q2,q3⟩:=p5 qq sz jp e0 k j pc hk hL;obtain⟨pc2,q4,q5,q6⟩:=hl k j pc1 q1 q3;exact⟨pc2,q4,q5.trans q2,q6⟩,
  fun n hn=>hu n (r.u7 n hn)⟩
end
def JU:Value->ah->Bool
 |.int k n,.c (.int k' n')=>decide (k=k')&&decide (n=n')
 |.bool b,.c (.bool b')=>decide (b=b')
 |.slice none 0 0,.nil sz=>true
 |.pointer none,.bm=>true
 |_,_=>false
def uk:List Value->List ah->Bool
 |[],[]=>true
 |v::vs,c::cs=>JU v c&&uk vs cs
 |_,_=>false
def bT:Operand->MO->Bool
 |.tmp n,.t m=>n==m
 |.const (.agg vs),.k (.agg cs)=>uk vs.toList cs
 |.const v,.k (.one c)=>JU v c
 |_,_=>false
section
variable {B:Nat} {E:Ex} {w0 w w':World} {G G':Gh} {h h':Nat->Option aq} {used used':Nat->Bool} {tk:List PC} {N:Nat}
theorem Xb {v:Value} {c:ah} (hc:JU v c=true):RC w G h c v/\v.oneCell'=true/\∀m,¬c.ref m:=by
 unfold JU at hc;split at hc
 ·simp at hc;obtain⟨rfl,rfl⟩:=hc;exact⟨⟨.int _ _,rfl,rfl,.int _ _,fun b hb=>by cases hb⟩,rfl,fun m hm=>hm⟩
 ·simp at hc;subst hc;exact⟨⟨.bool _,rfl,rfl,.bool _,fun b hb=>by cases hb⟩,rfl,fun m hm=>hm⟩
 ·exact⟨rfl,rfl,fun m hm=>hm⟩
 ·exact⟨trivial,rfl,fun m hm=>hm⟩
 ·cases hc
theorem JW:∀{vs:List Value} {cs:List ah},uk vs cs=true->dh w G h cs vs/\∀c∈cs,∀m,¬c.ref m
 |[],[],_=>⟨⟨rfl,by simp⟩,by simp⟩
 |v::vs,c::cs,hc=>by
  simp only[uk,Bool.and_eq_true] at hc;obtain⟨a1,a2,a3⟩:=Xb (w:=w) (G:=G) (h:=h) hc.1;obtain⟨⟨b1,b2⟩,b3⟩:=JW hc.2;refine⟨⟨by simp[b1],fun j c' u hj hu=>?_⟩,fun c' dm=>?_⟩
  ·cases j with
   |zero=>simp at hj hu;subst hj;subst hu;exact⟨a2,a1⟩
   |succ j=>exact b2 j c' u (by simpa using hj) (by simpa using hu)
  ·cases dm with
   |head=>exact a3
   |tail _ dm=>exact b3 c' dm
 |[],_::_,hc=>by simp[uk] at hc
 |_::_,[],hc=>by simp[uk] at hc
theorem RV.fz {c:ah} {v:Value} (h1:v.oneCell'=true) (h2:RC w G h c v):RV w G h false [c] v:=by
 show dh w G h [c] [v];exact⟨rfl,fun j c' u hj hu=>by
  cases j with
  |zero=>simp at hj hu;subst hj;subst hu;exact⟨h1,h2⟩
  |succ j=>simp at hj⟩
theorem RA.fz {c:ah} {v:Value} (h1:v.oneCell'=true) (h2:RC w G h c v):RA w G h (.one c) v:=.inr (RV.fz h1 h2)
theorem R.ev {σ:St} {a:Act} (r:R B E w0 N σ a w G) {x:Operand} {m:MO} (hc:bT x m=true):RA w G σ.h (σ.ev m) (a.eval x)/\∀n,(σ.ev m).ref n->σ.used n=true:=by
 unfold bT at hc;split at hc
 ·simp at hc;subst hc;exact⟨r.env _,fun n hn=>r.pg _ n hn⟩
 ·rename_i vs cs;obtain⟨b1,b2⟩:=JW (w:=w) (G:=G) (h:=σ.h) hc;exact⟨⟨vs.toList,by simp[Act.eval],b1⟩,fun n hn=>by obtain⟨c,hc,hm⟩:=hn;exact absurd hm (b2 c hc n)⟩
 ·obtain⟨a1,a2,a3⟩:=Xb (w:=w) (G:=G) (h:=σ.h) hc;exact⟨RA.fz a2 a1,fun n hn=>absurd hn (a3 n)⟩
 ·cases hc
theorem pj {P:Program} {o:Oper} {a:Act} {v:Value} {K:Act->World->Prop} {Q:Exit->Act->World->Prop} (hr:(execOp a.eval o).run P w=.ok (.value v) w') (hK:K (a.put o.dst v) w'):o.wp P a w K Q:=by
 unfold Oper.wp;rw[hr];exact hK
theorem Np {P:Program} {o:Oper} {a:Act} {K:Act->World->Prop} {Q:Exit->Act->World->Prop} (hr:(execOp a.eval o).run P w=.ok .skip w') (hK:K (a.put o.dst undef) w'):o.wp P a w K Q:=by
 unfold Oper.wp;rw[hr];exact hK
end
section
variable {B:Nat} {E:Ex} {w0 w w':World} {G G':Gh} {h h':Nat->Option aq} {used used':Nat->Bool} {tk:List PC} {N:Nat}
variable {P:Program} {o:Oper} {a:Act} {σ σ':St} {Q:Exit->Act->World->Prop}
def Nx (B:Nat) (E:Ex) (w0:World) (N:Nat) (σ:St):Act->World->Prop:=fun a w=>∃G,R B E w0 N σ a w G
theorem OT (w:World) (ob:Obj) (b:Nat) (hb:b<w.heap.size):(w.alloc ob).heap[b]? =w.heap[b]? :=heap_alloc_old w ob b hb
theorem dZ.alloc (w:World) (arr:Array Value) (e:TypeId):dZ (w.alloc (.cells arr e)) w.heap.size:=⟨arr,e,heap_alloc_new w _⟩
theorem ko {σ1:St} {n:Nat} {b:aq} (hx:σ.ins n b=some σ1):σ.used n=false/\σ1={σ with h:=ax σ.h n (some b),used:=ax σ.used n true}:=by
 unfold St.ins at hx;split at hx
 ·cases hx
 ·rename_i hu;injection hx with hx;exact⟨by simpa using hu,hx.symm⟩
theorem oy (n m:Nat) (hm:used m=true):ax used n true m=true:=by
 simp only[j8];split
 ·rfl
 ·exact hm
theorem R.acS (r:R B E w0 N σ a w G) {n:Nat} {cs:List ah} {vs:List Value} {e:TypeId} (hn:σ.used n=false) (hc:dh w G σ.h cs vs) (lQ:∀c∈cs,∀m,c.ref m->σ.used m=true):
  ∃G',R B E w0 N {σ with h:=ax σ.h n (some (.box cs)),used:=ax σ.used n true} a (w.alloc (.cells vs.toArray e)) G'/\
   RA (w.alloc (.cells vs.toArray e)) G' (ax σ.h n (some (.box cs))) (.one (.ptr n 0 0 0)) (.pointer (some (ad w.heap.size 0))):=by
 have H:=r.hr;have hB:=r.fr.size;have hw:=OT w (.cells vs.toArray e);refine⟨⟨G.Im,ax G.g n ⟨false,w.heap.size,0,0,[],none⟩⟩,r.step rfl (fun m hm=>oy n m hm) (bk.insert H hn hw) ?_ (r.fr.grow hw (by simp) rfl rfl rfl),?_⟩
 ·refine H.insert hn hw (by simp) (fun _=>⟨H.LB,.inl hB,by simp⟩) (fun cs' c m hb dm hm=>?_) ⟨rfl,dZ.alloc _ _ _,fun j c hj=>?_⟩ (fun gr m sz xs hb=>by cases hb) (fun gr sz xs hb=>by cases hb) (fun gr m sz xs hb=>by cases hb)
  ·injection hb with hb;subst hb;exact lQ c dm m hm
  ·have jT:j<vs.length:=by rw[hc.1];exact(List.getElem?_eq_some_iff.1 hj).1
   have hv:vs[j]? =some vs[j]:=List.getElem?_eq_getElem jT;obtain⟨q1,q2⟩:=hc.2 j c _ hj hv;refine⟨vs[j],?_,q1,q2⟩;simp only[Nat.zero_add];unfold ad;rw[World.cell?_alloc_new];simp only[List.getElem?_toArray];exact hv
 ·exact RA.fz rfl fun _=>by simp[bO]
theorem aiz (r:R B E w0 N σ a w G) {n:Nat} {e:TypeId} {i:TypeInfo} {z:Value} {zs:List ah} {σ1:St} (ho:o.op=.alloc e) (hd:o.dst=some n) (hN:n<N)
  (hi:P.info? e=some i) (hz:i.zero=some z) (hc:uk z.cells.toList zs=true) (hx:σ.ins n (.box zs)=some σ1):
  o.wp P a w (Nx B E w0 N (σ1.put o.dst (.one (.ptr n 0 0 0)))) Q:=by
 obtain⟨hn,rfl⟩:=ko hx;obtain⟨cv,lQ⟩:=JW (w:=w) (G:=G) (h:=σ.h) hc;obtain⟨G',r',hv⟩:=r.acS (e:=e) hn cv (fun c hc m hm=>absurd hm (lQ c hc m));have bR:(execOp a.eval o).run P w=.ok (.value (.pointer (some (ad w.heap.size 0)))) (w.alloc (.cells z.cells.toList.toArray e)):=by
  simp[execOp,ho,Instr.alloc,zeroValue,typeInfo,hi,hz,newVar,newRow,ad]
 exact pj bR ⟨G',r'.put hv (fun m hm=>by have bL:m=n:=hm;subst bL;exact bO _ _ _) (fun m hm=>by rw[hd] at hm;injection hm with hm;omega)⟩
theorem aiE (r:R B E w0 N σ a w G) {n:Nat} {e:TypeId} {x:Operand} {m:MO} {ag:Bool} {cs:List ah} {σ1:St} (ho:o.op=.box e x) (hd:o.dst=some n) (hN:n<N)
  (hm:bT x m=true) (fc:(σ.ev m).cells?=some (ag,cs)) (hx:σ.ins n (.box cs)=some σ1):
  o.wp P a w (Nx B E w0 N (σ1.put o.dst (.one (.ptr n 0 0 0)))) Q:=by
 obtain⟨hn,rfl⟩:=ko hx;obtain⟨hv,lQ⟩:=r.ev hm;obtain⟨G',r',gh⟩:=r.acS (e:=e) hn (hv.cells fc) (fun c hc q hq=>lQ q (aj.xK fc hc hq));have bR:(execOp a.eval o).run P w=.ok (.value (.pointer (some (ad w.heap.size 0)))) (w.alloc (.cells (a.eval x).cells.toList.toArray e)):=by
  simp[execOp,ho,Instr.box,newVar,newRow,ad]
 exact pj bR ⟨G',r'.put gh (fun q hq=>by have eV:q=n:=hq;subst eV;exact bO _ _ _) (fun q hq=>by rw[hd] at hq;injection hq with hq;omega)⟩
theorem sR {α:Type} {sz:Nat}:∀{px:List (List α)} (_:∀e∈px,e.length=sz) {k j:Nat} {c:α},At px k j c->px.flatten[k*sz+j]? =some c
 |[],_,k,j,c,hk=>by obtain⟨e,he,_⟩:=hk;simp at he
 |e::px,hl,k,j,c,hk=>by
  obtain⟨e',he,hj⟩:=hk;have h0:=hl e (by simp);cases k with
  |zero=>
   simp at he;subst he;have jT:=(List.getElem?_eq_some_iff.1 hj).1;simp only[List.flatten_cons,Nat.zero_mul,Nat.zero_add];rw[List.getElem?_append_left jT];exact hj
  |succ k=>
   have ih:=sR (px:=px) (fun e he=>hl e (by simp[he])) (k:=k) (j:=j) (c:=c) ⟨e',by simpa using he,hj⟩;simp only[List.flatten_cons];rw[List.getElem?_append_right (by rw[h0,Nat.add_mul];omega)];rw[show(k+1)*sz+j - e.length=k*sz+j by rw[h0,Nat.add_mul];omega];exact ih
structure E5 (B:Nat) (E:Ex) (w:World) (G:Gh) (h:Nat->Option aq) (m:Mode) (pes:List (List PC)):Prop where
 oK:∀b,bf b pes->G.Im b/\dZ w b/\(B<=b\/E b)
 sep:iM pes
 gn:∀n gr m sz xs,h n=some (.row gr m sz xs)->m≠ .aI->∀b,bf b pes->¬bf b (G.g n).px
 kind:m=.aO\/∀b,¬bf b pes
theorem WG {α:Type} {sz:Nat} (bU:0<sz) {pes:List (List α)} (hl:∀e∈pes,e.length=sz) {k j k' j':Nat} {c c':α} (h1:At pes k j c) (h2:At pes k' j' c') (aF:(k,j)≠(k',j')):k*sz+j≠k'*sz+j':=by
 intro fw;have hj:j<sz:=by obtain⟨e1,he,hj⟩:=h1;rw[<-hl e1 (List.mem_of_getElem? he)];exact(List.getElem?_eq_some_iff.1 hj).1
 have ng:j'<sz:=by obtain⟨e1,he,hj⟩:=h2;rw[<-hl e1 (List.mem_of_getElem? he)];exact(List.getElem?_eq_some_iff.1 hj).1
 have hk:k=k':=by
  have h3:(k*sz+j)/sz=k:=by rw[Nat.mul_comm,Nat.mul_add_div bU,Nat.div_eq_of_lt hj];omega
  have h4:(k'*sz+j')/sz=k':=by rw[Nat.mul_comm,Nat.mul_add_div bU,Nat.div_eq_of_lt ng];omega
  rw[fw] at h3;omega
 subst hk;exact aF (by rw[show j=j' by omega])
theorem HR.acX {pes:List (List PC)} {sz:Nat} (bU:0<sz) (hl:∀e∈pes,e.length=sz) (H:HR B E w G h used pes.flatten):E5 B E w G h .aO pes:=by
 refine⟨?_,⟨fun k j c hk=>(H.sJ _ c (sR hl hk)).1,fun k j c k' j' c' b hk bJ aF hb=>H.xf _ _ c c' b (WG bU hl hk bJ aF) (sR hl hk) (sR hl bJ) hb⟩,?_,.inl rfl⟩
 ·rintro b ⟨k,j,c,hk,hb⟩;exact(H.sJ _ c (sR hl hk)).2 b hb
 ·rintro n gr m sz xs hn hm b ⟨k,j,c,hk,hb⟩;exact H.sK _ c n gr m sz xs b (sR hl hk) hn hm hb
theorem Sep.wP {w:World} {q:PC} (hq:∀b,¬aX b q) (hg:Good w q):Sep q:=by
 induction hg with
 |int k n=>exact .int k n
 |bool b=>exact .bool b
 |nil sz a cap h=>exact .list _ _ _ _ (by rintro k j c ⟨e,he,_⟩;simp at he) (by rintro b o k j c _ ⟨e,he,_⟩;simp at he) (by rintro k j c k' j' c' b ⟨e,he,_⟩;simp at he)
 |cons sz b o cap xs h1 h2 h3 h4 h5 h6 ih=>exact absurd (.here _ _ _ _ h1) (hq b)
theorem E5.wP {m:Mode} {pes:List (List PC)} (cg:∀b,¬bf b pes) (hg:∀k j c,At pes k j c->Good w c):E5 B E w G h m pes:=
 ⟨fun b hb=>absurd hb (cg b),⟨fun k j c hk=>Sep.wP (fun b hb=>cg b ⟨k,j,c,hk,hb⟩) (hg k j c hk),fun k j c k' j' c' b hk _ _ hb=>absurd ⟨k,j,c,hk,hb⟩ (cg b)⟩,fun n gr m sz xs _ _ b hb=>absurd hb (cg b),.inr cg⟩
theorem R.newRow (r:R B E w0 N σ a w G) {Im':Nat->Prop} {σ1:St} (H:HR B E w ⟨Im',G.g⟩ σ1.h σ.used []) (K:bk w G σ.h (fun n=>σ.used n=true) w ⟨Im',G.g⟩ σ1.h)
  (tg:σ1.env=σ.env) (kH:σ1.used=σ.used)
  {n:Nat} {m:Mode} {sz cap:Nat} {pes:List (List PC)} {arr:Array Value} {e:TypeId} (hn:σ.used n=false) (bU:0<sz) (hl:∀e∈pes,e.length=sz)
  (fW:∀k j c,At pes k j c->Good w c/\∀b,aX b c->Im' b) (vU:∀k j c,At pes k j c->arr[k*sz+j]? =some c.val) (gF:pes.length<=cap) (wj:cap<=maxLen) (mH:arr.size=cap*sz)
  (hm:m=.aI\/E5 B E w ⟨Im',G.g⟩ σ1.h m pes) (oN:m=.live->∀w',pn w' sz pes):
  ∃G',R B E w0 N {σ1 with h:=ax σ1.h n (some (.row true m sz (pes.map fun e=>e.map PC.er))),used:=ax σ1.used n true} a (w.alloc (.cells arr e)) G'/\
   RA (w.alloc (.cells arr e)) G' (ax σ1.h n (some (.row true m sz (pes.map fun e=>e.map PC.er)))) (.one (.sl n sz 0 pes.length)) (.slice (some (ad w.heap.size 0)) pes.length cap)/\
   bk w ⟨Im',G.g⟩ σ1.h (fun n=>σ.used n=true) (w.alloc (.cells arr e)) G' (ax σ1.h n (some (.row true m sz (pes.map fun e=>e.map PC.er)))):=by
 have hB:=r.fr.size;have hw:=OT w (.cells arr e);have ag1:HR B E (w.alloc (.cells arr e)) ⟨Im',ax G.g n ⟨false,w.heap.size,0,cap,pes,none⟩⟩ (ax σ1.h n (some (.row true m sz (pes.map fun e=>e.map PC.er)))) (ax σ.used n true) []:=by
  refine H.insert (p:=⟨false,w.heap.size,0,cap,pes,none⟩) hn hw (by simp) (fun _=>⟨H.LB,.inl hB,by simp⟩) (fun cs c m hb=>by cases hb) ?_ ?_ ?_ (fun gr m sz xs _ _ i pc b hi=>by simp at hi)
  ·refine⟨bU,rfl,(fun hl=>by cases hl),fun _=>⟨dZ.alloc _ _ _,⟨hl,fun k j c hk=>?_,fun k j c hk=>?_⟩,gF⟩,fun _ _=>⟨wj,arr,e,heap_alloc_new w _,(Nat.zero_add _).symm▸mH⟩,?_,fun _ hl=>oN hl _⟩
   ·simp only[Nat.zero_add];unfold ad;rw[World.cell?_alloc_new];exact vU k j c hk
   ·exact(fW k j c hk).1.congr fun b hb o=>gU (hw b (H.gC b ((fW k j c hk).2 b hb))) o
   ·have lr:m≠ .aI->(∀b,bf b pes->Im' b/\dZ (w.alloc (.cells arr e)) b/\(B<=b\/E b))/\iM pes:=fun iU=>
     ⟨fun b hb=>by
      have hO:=hm.resolve_left iU;obtain⟨q1,q2,q3⟩:=hO.oK b hb;exact⟨q1,q2.congr (hw b (H.gC b q1)),q3⟩,(hm.resolve_left iU).sep⟩
    cases m with
    |aI=>
     rintro b ⟨k,j,c,hk,hb⟩;exact(fW k j c hk).2 b hb
    |aO=>exact lr (by simp)
    |live=>
     have hO:=hm.resolve_left (by simp);have cg:=hO.kind.resolve_left (by simp);exact⟨fun b hb=>absurd hb (cg b),hO.sep⟩
  ·intro gr m' aH ar hb iU n' bn jH jc gx h0 ic b cN;injection hb with _ hb _ _;subst hb;exact(hm.resolve_left iU).gn n' bn jH jc gx h0 ic b cN
  ·intro gr aH ar hb b cN;injection hb with _ hb _ _;subst hb;exact absurd cN ((hm.resolve_left (by simp)).kind.resolve_left (by simp) b)
 have K2:=bk.trans (u2:=fun n=>σ.used n=true) (fun _ h=>h) K (bk.insert H (blk:=.row true m sz (pes.map fun e=>e.map PC.er)) (p:=⟨false,w.heap.size,0,cap,pes,none⟩) hn hw);refine⟨⟨Im',ax G.g n ⟨false,w.heap.size,0,cap,pes,none⟩⟩,r.step tg (fun m hm=>by rw[kH];exact oy n m hm) K2 (by rw[kH];exact ag1) (r.fr.grow hw (by simp) rfl rfl rfl),?_,bk.insert H (blk:=.row true m sz (pes.map fun e=>e.map PC.er)) (p:=⟨false,w.heap.size,0,cap,pes,none⟩) hn hw⟩;refine RA.fz rfl fun _=>.inr ⟨by simp[bO],some (ad w.heap.size 0),?_,?_,?_⟩
 ·simp[bO]
 ·simp[bO];omega
 ·simp[bO]
end
def Pu:Value->C->Bool
 |.int k n,.int k' n'=>decide (k=k')&&decide (n=n')
 |.bool b,.bool b'=>decide (b=b')
 |.slice none 0 0,.list sz []=>decide (0<sz)
 |_,_=>false
def vH:List Value->List C->Bool
 |[],[]=>true
 |v::vs,c::cs=>Pu v c&&vH vs cs
 |_,_=>false
def mU:C->PC
 |.int k n=>.int k n
 |.bool b=>.bool b
 |.list sz _=>.list sz none 0 []
theorem ahL {w:World} {v:Value} {c:C} (h:Pu v c=true):(mU c).er=c/\(mU c).val=v/\Good w (mU c)/\∀b,¬aX b (mU c):=by
 unfold Pu at h;split at h
 ·simp at h;obtain⟨rfl,rfl⟩:=h;exact⟨rfl,rfl,.int _ _,fun b hb=>by cases hb⟩
 ·simp at h;subst h;exact⟨rfl,rfl,.bool _,fun b hb=>by cases hb⟩
 ·simp at h;refine⟨by simp[mU,PC.d9],rfl,.nil _ _ _ h,fun b hb=>?_⟩;unfold mU at hb;rw[aX.kN] at hb;rcases hb with⟨hb,_⟩|⟨k,j,c,⟨e,he,_⟩,_⟩
  ·exact absurd rfl hb
  ·simp at he
 ·cases h
theorem Pv {w:World}:∀{vs:List Value} {cs:List C},vH vs cs=true->(cs.map mU).map PC.er=cs/\(cs.map mU).map PC.val=vs/\∀pc∈cs.map mU,Good w pc/\∀b,¬aX b pc
 |[],[],_=>⟨rfl,rfl,by simp⟩
 |v::vs,c::cs,h=>by
  simp only[vH,Bool.and_eq_true] at h;obtain⟨a1,a2,a3,a4⟩:=ahL (w:=w) h.1;obtain⟨b1,b2,b3⟩:=Pv (w:=w) h.2;refine⟨by simp only[List.map_cons,a1,b1],by simp only[List.map_cons,a2,b2],fun pc bg=>?_⟩;simp only[List.map_cons,List.mem_cons] at bg;rcases bg with rfl|bg
  ·exact⟨a3,a4⟩
  ·exact b3 pc bg
 |[],_::_,h=>by simp[vH] at h
 |_::_,[],h=>by simp[vH] at h
theorem Fc {α:Type} {n k j:Nat} {e:List α} {c:α} (h:At (List.replicate n e) k j c):k<n/\e[j]? =some c:=by
 obtain⟨e',he,hj⟩:=h;rw[List.getElem?_replicate] at he;split at he
 ·rename_i hk;injection he with he;subst he;exact⟨hk,hj⟩
 ·cases he
section
variable {B:Nat} {E:Ex} {w0 w w':World} {G G':Gh} {h h':Nat->Option aq} {used used':Nat->Bool} {tk:List PC} {N:Nat}
variable {P:Program} {o:Oper} {a:Act} {σ σ':St} {Q:Exit->Act->World->Prop}
theorem RA.int {x:aj} {n:Int} {v:Value} (hx:x.dV=some n) (hv:RA w G h x v):∃k,v=.int k n:=by
 unfold aj.dV at hx;split at hx
 ·rename_i k n';injection hx with hx;subst hx;rcases hv with hv|hv
  ·cases hv
  ·have gh:dh w G h [.c (.int k n')] [v]:=hv;obtain⟨pc,h1,h2,_⟩:=(gh.2 0 _ v rfl rfl).2;cases pc<;>simp[PC.er] at h1
   obtain⟨rfl,rfl⟩:=h1;exact⟨_,h2.symm⟩
 ·cases hx
theorem ai2 (r:R B E w0 N σ a w G) {n:Nat} {t e:TypeId} {i:TypeInfo} {z:Value} {zs:List C} {x y:Operand} {mx my:MO} {m:Mode} {sz by_:Nat} {q q':Int} {σ1:St}
  (ho:o.op=.makeSlice t x y) (hd:o.dst=some n) (hN:n<N) (fM:bT x mx=true) (gR:bT y my=true)
  (ht:P.underlying t=some (.slice e)) (hi:P.info? e=some i) (hz:i.zero=some z) (bU:i.size=sz) (nR:i.bytes=by_) (vV:0<by_) (fO:0<sz) (hc:vH z.cells.toList zs=true)
  (hq:(σ.ev mx).dV=some q) (eV:(σ.ev my).dV=some q') (fw:q<=q') (mG:0<=q) (hb:q'.toNat*by_<=dR) (hlen:zs.length=sz)
  (hx:σ.ins n (.row true m sz (List.replicate q.toNat zs))=some σ1):
  o.wp P a w (Nx B E w0 N (σ1.put o.dst (.one (.sl n sz 0 q.toNat)))) Q:=by
 obtain⟨hn,rfl⟩:=ko hx;obtain⟨k1,e1⟩:=(r.ev fM).1.int hq;obtain⟨k2,e2⟩:=(r.ev gR).1.int eV;have hqq:q.toNat<=q'.toNat:=by omega
 obtain⟨b1,b2,b3⟩:=Pv (w:=w) hc;have auw:q'.toNat<=dR:=Nat.le_trans (Nat.le_mul_of_pos_right _ vV) hb;have alD:z.cells.size=sz:=by
  have:((zs.map mU).map PC.val).length=z.cells.toList.length:=by rw[b2]
  simp at this;omega
 have bR:=run_make (P:=P) w t e i z ht hi hz k1 k2 q q' mG fw (by
  rw[nR];have h1:((q'.toNat*by_:Nat):Int)<=((dR:Nat):Int):=by exact_mod_cast hb
  rw[Int.natCast_mul,Int.toNat_of_nonneg (by omega:0<=q')] at h1;rw[Int.mul_comm];have h2:((dR:Nat):Int)=140737488355328:=rfl;omega) (by
  have h2:(dR:Nat)=140737488355328:=rfl;omega)
 have alt:(execOp a.eval o).run P w=.ok (.value (.slice (some (ad w.heap.size 0)) q.toNat q'.toNat)) (w.alloc (.cells (madeCells z.cells (q'.toNat*sz)) e)):=by
  simp only[execOp,ho,e1,e2];rw[bU] at bR;simp[bR,ad]
 have ali:(List.replicate q.toNat (zs.map mU)).map (fun e=>e.map PC.er)=List.replicate q.toNat zs:=by
  rw[List.map_replicate,b1]
 have cg:∀b,¬bf b (List.replicate q.toNat (zs.map mU)):=by
  rintro b ⟨k,j,c,hk,hb⟩;exact(b3 c (List.mem_of_getElem? (Fc hk).2)).2 b hb
 have hg:∀k j c,At (List.replicate q.toNat (zs.map mU)) k j c->Good w c/\∀b,aX b c->G.Im b:=fun k j c hk=>
  ⟨(b3 c (List.mem_of_getElem? (Fc hk).2)).1,fun b hb=>absurd hb ((b3 c (List.mem_of_getElem? (Fc hk).2)).2 b)⟩
 obtain⟨G',r',hv,_⟩:=r.newRow (σ1:=σ) (Im':=G.Im) (m:=m) (sz:=sz) (cap:=q'.toNat) (pes:=List.replicate q.toNat (zs.map mU)) (arr:=madeCells z.cells (q'.toNat*sz)) (e:=e) r.hr (bk.refl _ _ _ _) rfl rfl hn fO
  (fun e he=>by rw[(List.mem_replicate.1 he).2];simpa using hlen) hg (fun k j c hk=>by
   obtain⟨h1,h2⟩:=Fc hk;have hj:j<sz:=by have:=(List.getElem?_eq_some_iff.1 h2).1;simp at this;omega
   have ak1:k*sz+j<q'.toNat*sz:=by
    have:(k+1)*sz<=q'.toNat*sz:=Nat.mul_le_mul_right _ (by omega);rw[Nat.add_mul] at this;omega
   have alb:(k*sz+j)%sz=j:=by rw[Nat.mul_comm,Nat.mul_add_mod,Nat.mod_eq_of_lt hj]
   have gW:z.cells.toList[j]? =some c.val:=by rw[<-b2,List.getElem?_map,h2];rfl
   have akJ:z.cells[j]? =some c.val:=by simpa using gW
   have hz3:(k*sz+j)%z.cells.size=j:=by rw[alD];exact alb
   simp[madeCells,ak1,hz3];rw[getElem!_def,akJ]) (by simpa using hqq) (by
   have h2:(dR:Nat)=140737488355328:=rfl;simp only[maxLen];omega) (size_madeCells _ _) (.inr (E5.wP cg (fun k j c hk=>(hg k j c hk).1))) (fun _ w' k pc hk=>by
   obtain⟨c,_,rfl⟩:=List.mem_map.1 (List.mem_of_getElem? (Fc hk).2);cases c with
   |int k n=>trivial
   |bool b=>trivial
   |list s l=>exact .inl rfl)
 rw[ali,List.length_replicate] at*
 refine pj alt ⟨G',r'.put hv (fun q hq=>by have eV:q=n:=hq;subst eV;exact bO _ _ _) (fun q hq=>by rw[hd] at hq;injection hq with hq;omega)⟩
theorem Zt (off:Nat):∀(vs:List Value) (k:Nat) (cs:Array Value),off+k+vs.length<=cs.size->
  ((vs.zipIdx k).foldl (fun(cs:Array Value) (p:Value×Nat)=>cs.setIfInBounds (off+p.2) p.1) cs)=(cs.toList.take (off+k)++vs++cs.toList.drop (off+k+vs.length)).toArray
 |[],k,cs,_=>by simp
 |v::vs,k,cs,h=>by
  simp only[List.zipIdx_cons,List.foldl_cons];have h':off+(k+1)+vs.length<=(cs.setIfInBounds (off+k) v).size:=by simp at h⊢;omega
  rw[Zt off vs (k+1) _ h'];have e:=list_seg_step cs.toList (off+k) v vs (by simp at h⊢;omega);rw[List.length_cons,<-e];simp[Array.toList_setIfInBounds,Nat.add_assoc]
theorem Zu (off:Nat) (v:Value) (cs:Array Value) (h:off+v.cells.size<=cs.size):
  (v.cells.zipIdx.foldl (fun cs (c,j)=>cs.setIfInBounds (off+j) c) cs)=(dn cs.toList off v.cells.toList).toArray:=by
 have:=Zt off v.cells.toList 0 cs (by simpa using h);rw[<-Array.foldl_toList];simp only[Array.toList_zipIdx];simpa[dn] using this
theorem P0 (size:Nat):∀(vs:List Value) (i0:Nat) (cs:Array Value),(∀v∈vs,v.cells.size=size)->(i0+vs.length)*size<=cs.size->
  Instr.fill (fun i=>some (i*size,size)) cs ((vs.zipIdx i0).map fun p=>(p.2,p.1))=some (dn cs.toList (i0*size) (vs.flatMap fun v=>v.cells.toList)).toArray
 |[],i0,cs,_,_=>by simp[Instr.fill,dn]
 |v::vs,i0,cs,hv,hl=>by
  have h0:=hv v (by simp);have h1:i0*size+v.cells.size<=cs.size:=by
   have:(i0+1)*size<=(i0+(v::vs).length)*size:=Nat.mul_le_mul_right _ (by simp);rw[Nat.add_mul] at this;omega
  simp only[List.zipIdx_cons,List.map_cons,Instr.fill];rw[if_neg (by simp;omega)];rw[Zu _ _ _ h1];have hlen:(dn cs.toList (i0*size) v.cells.toList).length=cs.size:=by simp[dn];omega
  rw[P0 size vs (i0+1) _ (fun v' gh=>hv v' (by simp[gh])) (by simp only[List.size_toArray,hlen];simp only[List.length_cons] at hl;rwa[show i0+1+vs.length=i0+(vs.length+1) by omega])];congr 2;have oQ:v.cells.toList.length=size:=by simpa using h0
  have e1:(i0+1)*size=i0*size+size:=by rw[Nat.add_mul];omega
  simp only[dn,List.flatMap_cons,List.length_append,oQ];rw[e1];have ht:(List.take (i0*size) cs.toList).length=i0*size:=by simp;omega
  have t1:List.take (i0*size+size) (List.take (i0*size) cs.toList++v.cells.toList++List.drop (i0*size+size) cs.toList)=List.take (i0*size) cs.toList++v.cells.toList:=by
   apply List.take_left';simp[ht,oQ]
  have d1:∀x,List.drop (i0*size+size+x) (List.take (i0*size) cs.toList++v.cells.toList++List.drop (i0*size+size) cs.toList)=List.drop (i0*size+(size+x)) cs.toList:=by
   intro x;rw[List.drop_append,List.drop_eq_nil_of_le (by simp[ht,oQ])];simp only[List.nil_append,List.drop_drop,List.length_append,ht,oQ];congr 1;omega
  rw[t1,d1];simp[List.append_assoc]
end
theorem PW {α:Type} (P:Nat->α->Prop):∀n:Nat,(∀j,j<n->∃v,P j v)->∃l:List α,l.length=n/\∀(j:Nat) (u:α),l[j]? =some u->P j u
 |0,_=>⟨[],rfl,by simp⟩
 |n+1,h=>by
  obtain⟨l,h1,h2⟩:=PW P n (fun j hj=>h j (by omega));obtain⟨v,hv⟩:=h n (by omega);refine⟨l++[v],by simp[h1],fun j u hj=>?_⟩;rcases Nat.lt_trichotomy j n with cj|fw|Af
  ·rw[List.getElem?_append_left (by omega)] at hj;exact h2 j u hj
  ·subst fw;rw[List.getElem?_append_right (by omega)] at hj;simp[h1] at hj;subst hj;exact hv
  ·rw[List.getElem?_eq_none (by simp;omega)] at hj;cases hj
theorem EB {α:Type} {l l':List α} {off sz:Nat} (h:sub l off sz=some l'):off+sz<=l.length/\l'=(l.drop off).take sz/\l'.length=sz:=by
 unfold sub at h;split at h
 ·rename_i hl;injection h with h;subst h;exact⟨hl,rfl,by simp;omega⟩
 ·cases h
theorem zh {α:Type} {l:List α} {off sz j:Nat} (hj:j<sz):((l.drop off).take sz)[j]? =l[off+j]? :=by
 rw[List.getElem?_take_of_lt hj,List.getElem?_drop]
theorem abd (n k rs:Nat):∀(l:List C) (off:Nat),(iI n k rs off l).length=l.length
 |[],_=>rfl
 |c::l,off=>by cases c<;>simp[iI,abd n k rs l]
theorem Sp (n k rs:Nat):∀(l:List C) (off j:Nat) (x:ah),(iI n k rs off l)[j]? =some x->
  (∃c,l[j]? =some c/\c.fh=true/\x=.c c)\/(∃sz ys,l[j]? =some (.list sz ys)/\x=.bw n k rs (off+j) sz ys.length)
 |[],off,j,x,h=>by simp[iI] at h
 |c::l,off,j,x,h=>by
  cases j with
  |zero=>
   cases c<;>simp[iI] at h<;>subst h
   ·exact .inl ⟨_,rfl,rfl,rfl⟩
   ·exact .inl ⟨_,rfl,rfl,rfl⟩
   ·exact .inr ⟨_,_,rfl,rfl⟩
  |succ j=>
   have h':(iI n k rs (off+1) l)[j]? =some x:=by cases c<;>simpa[iI] using h
   rcases Sp n k rs l (off+1) j x h' with⟨c',h1,h2,h3⟩|⟨sz,ys,h1,h2⟩
   ·exact .inl ⟨c',by simpa using h1,h2,h3⟩
   ·exact .inr ⟨sz,ys,by simpa using h1,by rw[h2,show off+1+j=off+(j+1) by omega]⟩
section
variable {B:Nat} {E:Ex} {w0 w w':World} {G G':Gh} {h h':Nat->Option aq} {used used':Nat->Bool} {tk:List PC} {N:Nat}
variable {P:Program} {o:Oper} {a:Act} {σ σ':St} {Q:Exit->Act->World->Prop}
theorem aiF (r:R B E w0 N σ a w G) {n:Nat} {t e:TypeId} {len:Nat} {parts:Array (Nat×Operand)} {DQ:List MO} {i:TypeInfo} {z:Value} {sz:Nat} {es:List (List C)} {ow:Bool} {σ1 σ2:St}
  (ho:o.op=.buildSlice t len parts) (hd:o.dst=some n) (hN:n<N) (ht:P.underlying t=some (.slice e)) (hi:P.info? e=some i) (hz:i.zero=some z) (bU:i.size=sz) (fO:0<sz)
  (hlen:DQ.length=len) (e7:parts.toList.map (·.1)=List.range len) (C9:len*sz<=16777216)
  (gX:∀(j:Nat) (p:Nat×Operand) (m:MO),parts.toList[j]? =some p->DQ[j]? =some m->bT p.2 m=true)
  (Rl:σ.mS sz (DQ.map σ.ev)=some (es,ow,σ1)) (hx:σ1.ins n (.row true (if ow=true then .aO else .aI) sz es)=some σ2):
  o.wp P a w (Nx B E w0 N (σ2.put o.dst (.one (.sl n sz 0 es.length)))) Q:=by
 obtain⟨hn,rfl⟩:=ko hx;have gp:parts.toList.length=len:=by have:=congrArg List.length e7;simpa using this
 have aly:(parts.toList.map fun p=>a.eval p.2).length=(DQ.map σ.ev).length:=by simp only[List.length_map];omega
 have x6:∀(j:Nat) (x:aj) (v:Value),(DQ.map σ.ev)[j]? =some x->(parts.toList.map fun p=>a.eval p.2)[j]? =some v->RA w G σ.h x v/\∀m,x.ref m->σ.used m=true:=by
  intro j x v Dq yo;rw[List.getElem?_map] at Dq yo;cases hp:parts.toList[j]? with
  |none=>rw[hp] at yo;cases yo
  |some p=>
   cases hm:DQ[j]? with
   |none=>rw[hm] at Dq;cases Dq
   |some m=>
    rw[hm] at Dq;rw[hp] at yo;simp at Dq yo;subst Dq;subst yo;exact r.ev (gX j p m hp hm)
 obtain⟨Im',pes,a1,a2,a3,a4,a5,a6,a7,a8,a9⟩:=HR.mS (sz:=sz) r.hr Rl aly (fun j x v h1 h2=>(x6 j x v h1 h2).1) (fun x hx m hm=>by
  obtain⟨j,hj,hjx⟩:=List.getElem_of_mem hx;have yo:(parts.toList.map fun p=>a.eval p.2)[j]? =some ((parts.toList.map fun p=>a.eval p.2)[j]'(by omega)):=List.getElem?_eq_getElem _;exact(x6 j x _ (by rw[List.getElem?_eq_getElem hj,hjx]) yo).2 m hm)
 simp only[List.nil_append] at a5;have alj:pes.length=len:=by
  have:=congrArg List.length a2;simp only[List.length_map] at this;omega
 have Rp:∀v∈(parts.toList.map fun p=>a.eval p.2),v.cells.size=sz:=by
  intro v hv;obtain⟨j,hj,yd⟩:=List.getElem_of_mem hv;have h1:((parts.toList.map fun p=>a.eval p.2).map fun v=>v.cells.toList)[j]? =some v.cells.toList:=by rw[List.getElem?_map,List.getElem?_eq_getElem hj,yd];rfl
  rw[<-a2,List.getElem?_map] at h1;cases hq:pes[j]? with
  |none=>rw[hq] at h1;cases h1
  |some pe=>
   rw[hq] at h1;simp at h1;have:=a3 pe (List.mem_of_getElem? hq);rw[<-Array.length_toList,<-h1];simpa using this
 have hpz:(parts.map fun p=>(p.1,a.eval p.2)).toList=((parts.toList.map fun p=>a.eval p.2).zipIdx 0).map fun p=>(p.2,p.1):=by
  apply List.ext_getElem?;intro j;simp only[Array.toList_map,List.getElem?_map,List.getElem?_zipIdx];cases hp:parts.toList[j]? with
  |none=>simp
  |some p=>
   have jT:=(List.getElem?_eq_some_iff.1 hp).1;have h1:(parts.toList.map (·.1))[j]? =some p.1:=by rw[List.getElem?_map,hp];rfl
   rw[e7,List.getElem?_range (by omega)] at h1;injection h1 with h1;simp[h1]
 have bR:(execOp a.eval o).run P w=.ok (.value (.slice (some (ad w.heap.size 0)) len len)) (w.alloc (.cells ((parts.toList.map fun p=>a.eval p.2).flatMap fun v=>v.cells.toList).toArray e)):=by
  have akT:((parts.toList.map fun p=>a.eval p.2).flatMap fun v=>v.cells.toList).length=len*sz:=by
   rw[List.length_flatMap];have:∀(l:List Value),(∀v∈l,v.cells.size=sz)->(l.map fun v=>v.cells.toList.length).sum=l.length*sz:=by
    intro l;induction l with
    |nil=>simp
    |cons v l ih=>
     intro hv;simp only[List.map_cons,List.sum_cons,List.length_cons];rw[ih (fun v' gh=>hv v' (by simp[gh])),Array.length_toList,hv v (by simp),Nat.add_mul];omega
   rw[this _ Rp];simp[gp]
  have KJ:∀cs:Array Value,cs.size=len*sz->Instr.fill (fun i=>some (i*sz,sz)) cs (parts.map fun p=>(p.1,a.eval p.2)).toList=some ((parts.toList.map fun p=>a.eval p.2).flatMap fun v=>v.cells.toList).toArray:=by
   intro cs fc;rw[hpz,P0 sz _ 0 cs Rp (by simp only[List.length_map,gp,Nat.zero_add];omega)];congr 2;simp only[dn,Nat.zero_mul,List.take_zero,List.nil_append,Nat.zero_add];rw[List.drop_eq_nil_of_le (by rw[akT,Array.length_toList,fc];exact Nat.le_refl _)];simp
  by_cases h0:len*sz=0
  ·have hf:=KJ ((Array.range 0).map fun _=>default) (by simp[h0]);rw[Array.toList_map] at hf;simp[execOp,ho,Instr.buildSlice,run_underlying ht,sizeOf,typeInfo,hi,bU,h0,Nat.not_lt.2 C9,hf,newRow,ad]
  ·have hf:=KJ ((Array.range (len*sz)).map (z.cells[·%z.cells.size]!)) (by simp);rw[Array.toList_map] at hf;simp[execOp,ho,Instr.buildSlice,run_underlying ht,sizeOf,typeInfo,hi,bU,h0,Nat.not_lt.2 C9,zeroValue,hz,hf,newRow,ad]
 have fW:∀k j c,At pes k j c->Good w c/\∀b,aX b c->Im' b:=fun k j c hk=>by
  obtain⟨e1,he,hj⟩:=hk;exact a4 e1 (List.mem_of_getElem? he) c (List.mem_of_getElem? hj)
 have H0:HR B E w ⟨Im',G.g⟩ σ1.h σ.used []:=by
  cases ow
  ·simpa using a5
  ·have ub:HR B E w ⟨Im',G.g⟩ σ1.h σ.used ([]++pes.flatten):=by simpa using a5
   exact ub.xd
 obtain⟨G',r',hv,_⟩:=r.newRow (m:=if ow=true then .aO else .aI) (sz:=sz) (cap:=len) (pes:=pes) (arr:=((parts.toList.map fun p=>a.eval p.2).flatMap fun v=>v.cells.toList).toArray) (e:=e) H0 a6 a7 a8 (by rw[<-a8];exact hn) fO a3 fW
  (fun k j c hk=>by
   have bJ:At (pes.map fun e=>e.map PC.val) k j c.val:=by
    obtain⟨e1,he,hj⟩:=hk;exact⟨e1.map PC.val,by rw[List.getElem?_map,he];rfl,by rw[List.getElem?_map,hj];rfl⟩
   have hf:=sR (sz:=sz) (px:=pes.map fun e=>e.map PC.val) (fun e he=>by
    obtain⟨e1,x5,rfl⟩:=List.mem_map.1 he;simpa using a3 e1 x5) bJ
   rw[a2] at hf;simpa[List.flatMap] using hf) (by omega) (by
   have h2:sz*len<=16777216:=by rw[Nat.mul_comm];exact C9
   have h3:len<=len*sz:=Nat.le_mul_of_pos_right _ fO;simp only[maxLen];omega) (by
   have QK:((parts.toList.map fun p=>a.eval p.2).flatMap fun v=>v.cells.toList).length=len*sz:=by
    rw[List.length_flatMap];have:∀(l:List Value),(∀v∈l,v.cells.size=sz)->(l.map fun v=>v.cells.toList.length).sum=l.length*sz:=by
     intro l;induction l with
     |nil=>simp
     |cons v l ih=>
      intro hv;simp only[List.map_cons,List.sum_cons,List.length_cons];rw[ih (fun v' gh=>hv v' (by simp[gh])),Array.length_toList,hv v (by simp),Nat.add_mul];omega
    rw[this _ Rp];simp[gp]
   simpa using QK) (by
   cases ow
   ·exact .inl rfl
   ·right;simp only[if_true];have ub:HR B E w ⟨Im',G.g⟩ σ1.h σ.used pes.flatten:=by simpa using a5
    exact ub.acX fO a3) (fun hl=>by cases ow<;>cases hl)
 have akR:es.length=pes.length:=by rw[<-a1];simp
 rw[a1] at r' hv;rw[akR];rw[alj] at hv⊢;refine pj bR ⟨G',?_⟩;exact r'.put hv (fun q hq=>by have eV:q=n:=hq;subst eV;exact bO _ _ _) (fun q hq=>by rw[hd] at hq;injection hq with hq;omega)
theorem HR.loadAt (H:HR B E w G h used tk) {p:ah} {sz:Nat} {cs:List ah} {v:Value} (hx:loadAt h p sz=some cs) (hc:RC w G h p v) (lQ:∀m,p.ref m->used m=true):
  ∃(b o:Nat) (vs:List Value),v=.pointer (some (ad b o))/\vs.length=sz/\(∀(j:Nat) (u:Value),vs[j]? =some u->w.cell? (ad b (o+j))=some u)/\dh w G h cs vs/\
   ∀c∈cs,∀m,c.ref m->used m=true:=by
 cases p with
 |ptr n k aB off=>
  simp only[Am.loadAt] at hx;split at hx
  ·rename_i ga hn;split at hx
   ·rename_i hk;subst hk;obtain⟨s1,s2,s3⟩:=EB hx;obtain⟨q1,q2⟩:=hc (by rw[hn];simp);obtain⟨b1,b2,b3⟩:=H.box n ga hn;have db:∀j,j<sz->∃v,w.cell? (ad (G.g n).b ((G.g n).o+off+j))=some v/\∀c,cs[j]? =some c->v.oneCell'=true/\RC w G h c v:=by
     intro j hj;have dG:ga[off+j]? =some (ga[off+j]'(by omega)):=List.getElem?_eq_getElem _;obtain⟨v,v1,v2,v3⟩:=b3 _ _ dG;refine⟨v,by rw[Nat.add_assoc];exact v1,fun c fV=>?_⟩;rw[s2,zh hj,dG] at fV;injection fV with fV;subst fV;exact⟨v2,v3⟩
    obtain⟨vs,l1,l2⟩:=PW _ sz db;refine⟨(G.g n).b,(G.g n).o+off,vs,by rw[q2];simp,l1,fun j u hj=>(l2 j u hj).1,⟨by omega,fun j c u fV hu=>(l2 j u hu).2 c fV⟩,fun c jz m hm=>?_⟩;refine H.iq n ga c m hn ?_ hm;rw[s2] at jz;exact List.mem_of_mem_drop (List.mem_of_mem_take jz)
   ·cases hx
  ·rename_i gr mo rs xs hn;split at hx
   ·rename_i qE;subst qE;split at hx
    ·rename_i e he;split at hx
     ·rename_i l fL;injection hx with hx;obtain⟨s1,s2,s3⟩:=EB fL;have hr:=H.row n gr mo aB xs hn;obtain⟨q1,q2⟩:=hc (by rw[hn];simp);obtain⟨r1,r2,r3⟩:=hr.eI q1;have jC:∃pe,(G.g n).px[k]? =some pe/\pe.map PC.er=e:=by
       rw[hr.er,List.getElem?_map] at he;cases hp:(G.g n).px[k]? with
       |none=>rw[hp] at he;cases he
       |some pe=>rw[hp] at he;simp at he;exact⟨pe,rfl,he⟩
      obtain⟨pe,r6,uG⟩:=jC;have e7:off+sz<=pe.length:=by rw[<-uG] at s1;simpa using s1
      have gW:∀j,j<sz->∃pc,At (G.g n).px k (off+j) pc/\l[j]? =some pc.er/\((pe.drop off).take sz)[j]? =some pc:=by
       intro j hj;have hp:pe[off+j]? =some (pe[off+j]'(by omega)):=List.getElem?_eq_getElem _;refine⟨pe[off+j]'(by omega),⟨pe,r6,hp⟩,?_,by rw[zh hj];exact hp⟩;have e0:l[j]? =((e.drop off).take sz)[j]? :=congrArg (fun q:List C=>q[j]?) s2;rw[e0,zh hj,<-uG,List.getElem?_map,hp];rfl
      have oQ:(((pe.drop off).take sz).map PC.val).length=sz:=by simp;omega
      refine⟨(G.g n).b,(G.g n).o+k*aB+off,((pe.drop off).take sz).map PC.val,q2,oQ,fun j u hj=>?_,?_,?_⟩
      ·have kF:j<sz:=by have:=(List.getElem?_eq_some_iff.1 hj).1;omega
       obtain⟨pc,p1,p2,p3⟩:=gW j kF;rw[List.getElem?_map,p3] at hj;simp at hj;subst hj;rw[show(G.g n).o+k*aB+off+j=(G.g n).o+k*aB+(off+j) by omega];exact r2.2.1 _ _ _ p1
      ·subst hx;refine⟨by rw[oQ];split<;>simp[abd,s3],fun j c u fV hu=>?_⟩
       have kF:j<sz:=by have:=(List.getElem?_eq_some_iff.1 hu).1;omega
       obtain⟨pc,p1,p2,p3⟩:=gW j kF;rw[List.getElem?_map,p3] at hu;simp at hu;subst hu;refine⟨PC.kc pc,?_⟩;have hg:=r2.2.2 _ _ _ p1;split at fV
       ·rename_i rV;subst rV;rcases Sp n k aB l off j c fV with⟨c',h1,h2,rfl⟩|⟨s,ys,h1,rfl⟩
        ·rw[p2] at h1;injection h1 with h1;exact⟨pc,h1,rfl,hg,fun b hb=>absurd hb ((Sep.g9 (pc:=pc) (by rw[h1];exact h2)).2 b)⟩
        ·rw[p2] at h1;injection h1 with h1;intro bn ar _;refine⟨pc,p1,rfl,?_⟩;cases pc<;>simp[PC.er] at h1<;>rfl
       ·rename_i rV;rw[List.getElem?_map,p2] at fV;simp at fV;subst fV;refine⟨pc,rfl,rfl,hg,fun b hb=>?_⟩;have hm:=hr.mode;have cN:bf b (G.g n).px:=⟨k,off+j,pc,p1,hb⟩;cases mo with
        |aI=>exact hm b cN
        |aO=>exact(hm.1 b cN).1
        |live=>exact absurd rfl rV
      ·intro c jz m hm;subst hx;split at jz
       ·obtain⟨j,hj,Aj⟩:=List.getElem_of_mem jz;rcases Sp n k aB l off j c (by rw[List.getElem?_eq_getElem hj,Aj]) with⟨c',h1,h2,rfl⟩|⟨s,ys,h1,rfl⟩
        ·exact absurd hm (by simp[ah.ref,ah.hH])
        ·have:m=n:=hm;subst this;exact lQ m rfl
       ·obtain⟨c',_,rfl⟩:=List.mem_map.1 jz;exact absurd hm (by simp[ah.ref,ah.hH])
     ·cases hx
    ·cases hx
   ·cases hx
  ·cases hx
 |de xs off=>
  simp only[Am.loadAt] at hx;cases fL:sub xs off sz with
  |none=>rw[fL] at hx;cases hx
  |some l=>
   rw[fL] at hx;simp at hx;subst hx;obtain⟨s1,s2,s3⟩:=EB fL;obtain⟨b,o,pe,p1,p2,p3,p4⟩:=hc;have e7:off+sz<=pe.length:=by rw[<-p2] at s1;simpa using s1
   have oQ:(((pe.drop off).take sz).map PC.val).length=sz:=by simp;omega
   have gW:∀j,j<sz->∃pc,pe[off+j]? =some pc/\l[j]? =some pc.er/\((pe.drop off).take sz)[j]? =some pc:=by
    intro j hj;have hp:pe[off+j]? =some (pe[off+j]'(by omega)):=List.getElem?_eq_getElem _;refine⟨pe[off+j]'(by omega),hp,?_,by rw[zh hj];exact hp⟩;have e0:l[j]? =((xs.drop off).take sz)[j]? :=congrArg (fun q:List C=>q[j]?) s2;rw[e0,zh hj,<-p2,List.getElem?_map,hp];rfl
   refine⟨b,o+off,_,p1,oQ,fun j u hj=>?_,⟨by rw[oQ];simp[s3],fun j c u fV hu=>?_⟩,fun c jz m hm=>?_⟩
   ·have kF:j<sz:=by have:=(List.getElem?_eq_some_iff.1 hj).1;omega
    obtain⟨pc,q1,q2,q3⟩:=gW j kF;rw[List.getElem?_map,q3] at hj;simp at hj;subst hj;rw[Nat.add_assoc];exact(p4 _ _ q1).1
   ·have kF:j<sz:=by have:=(List.getElem?_eq_some_iff.1 hu).1;omega
    obtain⟨pc,q1,q2,q3⟩:=gW j kF;rw[List.getElem?_map,q3] at hu;rw[List.getElem?_map,q2] at fV;simp at hu fV;subst hu;subst fV;exact⟨PC.kc pc,pc,rfl,rfl,(p4 _ _ q1).2.1,(p4 _ _ q1).2.2⟩
   ·obtain⟨c',_,rfl⟩:=List.mem_map.1 jz;exact absurd hm (by simp[ah.ref,ah.hH])
 |cE xs off j n s len=>
  simp only[Am.loadAt] at hx;obtain⟨b,o,pe,p1,p2,p3,p4,u,u1,u2,u3⟩:=hc;split at hx
  ·rename_i cR;obtain⟨rfl,rfl⟩:=cR;injection hx with hx;subst hx;refine⟨b,o+off,[u],p1,rfl,fun i u' hi=>?_,⟨rfl,fun i c u' jk hu=>?_⟩,fun c jz m hm=>?_⟩
   ·cases i with
    |zero=>simp at hi;subst hi;exact u1
    |succ i=>simp at hi
   ·cases i with
    |zero=>simp at jk hu;subst jk;subst hu;exact⟨u2,u3⟩
    |succ i=>simp at hu
   ·simp at jz;subst jz;have:m=n:=hm;subst this;exact lQ m rfl
  ·split at hx
   ·rename_i cj;cases fL:sub xs off sz with
    |none=>rw[fL] at hx;cases hx
    |some l=>
     rw[fL] at hx;simp at hx;subst hx;obtain⟨s1,s2,s3⟩:=EB fL;have e7:off+sz<=pe.length:=by rw[<-p2] at s1;simpa using s1
     have oQ:(((pe.drop off).take sz).map PC.val).length=sz:=by simp;omega
     have gW:∀j,j<sz->∃pc,pe[off+j]? =some pc/\l[j]? =some pc.er/\((pe.drop off).take sz)[j]? =some pc:=by
      intro j hj;have hp:pe[off+j]? =some (pe[off+j]'(by omega)):=List.getElem?_eq_getElem _;refine⟨pe[off+j]'(by omega),hp,?_,by rw[zh hj];exact hp⟩;have e0:l[j]? =((xs.drop off).take sz)[j]? :=congrArg (fun q:List C=>q[j]?) s2;rw[e0,zh hj,<-p2,List.getElem?_map,hp];rfl
     refine⟨b,o+off,_,p1,oQ,fun i u hi=>?_,⟨by rw[oQ];simp[s3],fun i c u jk hu=>?_⟩,fun c jz m hm=>?_⟩
     ·have Df:i<sz:=by have:=(List.getElem?_eq_some_iff.1 hi).1;omega
      obtain⟨pc,q1,q2,q3⟩:=gW i Df;rw[List.getElem?_map,q3] at hi;simp at hi;subst hi;rw[Nat.add_assoc];exact(p4 _ _ (by omega) q1).1
     ·have Df:i<sz:=by have:=(List.getElem?_eq_some_iff.1 hu).1;omega
      obtain⟨pc,q1,q2,q3⟩:=gW i Df;rw[List.getElem?_map,q3] at hu;rw[List.getElem?_map,q2] at jk;simp at hu jk;subst hu;subst jk;exact⟨PC.kc pc,pc,rfl,rfl,(p4 _ _ (by omega) q1).2.1,(p4 _ _ (by omega) q1).2.2⟩
     ·obtain⟨c',_,rfl⟩:=List.mem_map.1 jz;exact absurd hm (by simp[ah.ref,ah.hH])
   ·cases hx
 |c x=>simp[Am.loadAt] at hx
 |nil sz=>simp[Am.loadAt] at hx
 |sl n sz lo len=>simp[Am.loadAt] at hx
 |bw n k aB off sz len=>simp[Am.loadAt] at hx
 |cY n k aB off s i=>
  simp only[Am.loadAt] at hx;split at hx
  ·rename_i gr rs xs hn;split at hx
   ·rename_i qE;subst qE;split at hx
    ·rename_i s' ys qu;split at hx
     ·rename_i cR;obtain⟨nc,nd⟩:=cR;split at hx
      ·rename_i e he;split at hx
       ·rename_i iV;injection hx with hx;subst hx;obtain⟨pc,b,o,len,cap,p1,p2,p3,p4⟩:=hc gr xs hn;have hr:=H.row n gr .live rs xs hn;have aT:(G.g n).nl=false:=by
         cases hq:(G.g n).nl with
         |false=>rfl
         |true=>obtain⟨e,he,_⟩:=p1;rw[(hr.nl hq).1] at he;simp at he
        have hg:Good w pc:=(hr.eI aT).2.1.2.2 _ _ _ p1;have gG:pc.er=.list s' ys:=by
         obtain⟨e',Db,ng⟩:=p1;rw[hr.er] at qu;simp[Db,ng] at qu;exact qu
        cases pc with
        |int k n=>simp[PC.er] at gG
        |bool b=>simp[PC.er] at gG
        |list aH a pt py=>
         rw[PC.d9] at gG;injection gG with e1 e2;have e3:aH=s:=e1.trans nc;have e4:sz=aH:=nd.trans e3.symm;rw[<-e3] at p4;clear nc nd e1 e3;subst e2 e4;simp only[PC.val] at p2;injection p2 with f1 f2 f3;subst f1 f3;rw[List.getElem?_map] at he;cases hp:py[i]? with
         |none=>rw[hp] at he;cases he
         |some pe=>
          rw[hp] at he;simp at he;subst he;generalize ib:PC.list sz (some (ad b o)) pt py=q at hg;cases hg with
          |int k n=>cases ib
          |bool b=>cases ib
          |nil _ _ _ _=>injection ib with _ _ _ e4;subst e4;simp at hp
          |cons _ b' SU _ _ q1 q2 q3 q4 q5 q6=>
           injection ib with f1 f2 f3 f4;injection f2 with f2;obtain⟨rfl,rfl⟩:=lf f2;subst f1 f3 f4;have wq:pe.length=sz:=q4 pe (List.mem_of_getElem? hp);refine⟨b,o+i*sz,pe.map PC.val,p4,by simpa using wq,fun j u hj=>?_,⟨by simp,fun j c u fV hu=>?_⟩,fun c jz m hm=>?_⟩
           ·rw[List.getElem?_map] at hj;cases kG:pe[j]? with
            |none=>rw[kG] at hj;cases hj
            |some c=>rw[kG] at hj;simp at hj;subst hj;exact q5 i j c ⟨pe,hp,kG⟩
           ·rw[List.getElem?_map] at hu;rw[List.getElem?_map,List.getElem?_map] at fV;cases kG:pe[j]? with
            |none=>rw[kG] at hu;cases hu
            |some c'=>
             rw[kG] at hu fV;simp at hu fV;subst hu;subst fV;have jU:c'.er.fh=true:=List.all_eq_true.1 iV _ (List.mem_map_of_mem (List.mem_of_getElem? kG));exact⟨PC.kc c',c',rfl,rfl,q6 i j c' ⟨pe,hp,kG⟩,fun b hb=>absurd hb ((Sep.g9 jU).2 b)⟩
           ·obtain⟨c',_,rfl⟩:=List.mem_map.1 jz;exact absurd hm (by simp[ah.ref,ah.hH])
       ·cases hx
      ·cases hx
     ·cases hx
    ·cases hx
   ·cases hx
  ·cases hx
 |fn f cK=>simp[Am.loadAt] at hx
 |bm=>simp[Am.loadAt] at hx
def CC (P:Program) (t:TypeId) (ag:Bool) (sz:Nat):Bool:=
 match P.underlying t,P.info? t with
 |some (.struct _),some i=>ag&&i.size==sz
 |some (.array _ _),_=>false
 |some _,some i=> !ag&&sz==1
 |_,_=>false
theorem RA.fE {c:ah} {v:Value} (hc:c≠ .bm) (hv:RA w G h (.one c) v):RC w G h c v/\v.oneCell'=true:=by
 rcases hv with rfl|hv
 ·exact absurd rfl hc
 ·have gh:dh w G h [c] [v]:=hv;exact⟨(gh.2 0 c v rfl rfl).2,(gh.2 0 c v rfl rfl).1⟩
theorem ai1 (r:R B E w0 N σ a w G) {t:TypeId} {x:Operand} {m:MO} {ag:Bool} {sz:Nat} {p:ah} {cs:List ah} (ho:o.op=.load t x) (hN:∀n,o.dst=some n->n<N)
  (hm:bT x m=true) (gX:CC P t ag sz=true) (hp:σ.ev m=.one p) (hx:Am.loadAt σ.h p sz=some cs):
  o.wp P a w (Nx B E w0 N (σ.put o.dst (ov ag cs))) Q:=by
 obtain⟨hv,lQ⟩:=r.ev hm;rw[hp] at hv lQ;have kG:p≠ .bm:=by rintro rfl;simp[Am.loadAt] at hx
 obtain⟨b,of,vs,h1,h2,h3,h4,h5⟩:=r.hr.loadAt hx (hv.fE kG).1 lQ;have nX:∀v,RA w G σ.h (ov ag cs) v->(execOp a.eval o).run P w=.ok (.value v) w->o.wp P a w (Nx B E w0 N (σ.put o.dst (ov ag cs))) Q:=fun v hv bR=>
  pj bR ⟨G,r.put hv (fun q hq=>by
   unfold ov at hq;split at hq
   ·obtain⟨c,hc,hq⟩:=hq;exact h5 c hc q hq
   ·exact h5 _ (by simp) q hq
   ·exact absurd hq (by simp[aj.ref,ah.ref,ah.hH])) hN⟩
 have QZ:∀n:Nat,n=vs.length->(loadCells (ad b of) n).run P w=.ok vs.toArray w:=fun n hn=>by
  subst hn;exact run_loadCells_list w (ad b of) vs (fun j u hj=>by rw[ru];exact h3 j u hj)
 unfold CC at gX;cases hu:P.underlying t with
 |none=>rw[hu] at gX;simp at gX
 |some d=>
  cases hi:P.info? t with
  |none=>rw[hu,hi] at gX;cases d<;>simp at gX
  |some i=>
   rw[hu,hi] at gX;have cb:(ag=true/\i.size=sz/\(isAgg t).run P w=.ok true w)\/(ag=false/\sz=1/\(isAgg t).run P w=.ok false w):=by
    cases d<;>simp at gX<;>simp[isAgg,run_underlying hu,gX]
   rcases cb with⟨rfl,e1,e2⟩|⟨rfl,e1,e2⟩
   ·refine nX (.agg vs.toArray) ⟨vs,rfl,h4⟩ ?_;simp[execOp,ho,h1,Instr.loadAt,Instr.sureAddr,loadVar,e2,sizeOf,typeInfo,hi,QZ i.size (by omega)]
   ·subst e1;match vs,h2 with
    |[u],_=>
     have fc:∃c,cs=[c]:=by
      have:=h4.1;match cs,this with
      |[c],_=>exact⟨c,rfl⟩
     obtain⟨c,rfl⟩:=fc;refine nX u (.inr h4) ?_;have gW:=h3 0 u rfl;simp only[Nat.add_zero] at gW;simp[execOp,ho,h1,Instr.loadAt,Instr.sureAddr,loadVar,e2,gW]
end
theorem MF {α:Type} {l vs:List α} {off:Nat} (h:off+vs.length<=l.length):(dn l off vs).length=l.length:=by
 simp[dn];omega
theorem zb {α:Type} {l vs:List α} {off j:Nat} (h:off+vs.length<=l.length):(dn l off vs)[j]? =if off<=j/\j<off+vs.length then vs[j - off]? else l[j]? :=by
 unfold dn;have ht:(l.take off).length=off:=by simp;omega
 by_cases h1:j<off
 ·rw[if_neg (by omega),List.append_assoc,List.getElem?_append_left (by omega),List.getElem?_take_of_lt h1]
 ·by_cases h2:j<off+vs.length
  ·rw[if_pos ⟨by omega,h2⟩,List.append_assoc,List.getElem?_append_right (by omega),List.getElem?_append_left (by omega),ht]
  ·rw[if_neg (by omega),List.getElem?_append_right (by simp;omega),List.getElem?_drop];congr 1;simp;omega
theorem Eu {α β:Type} (f:α->β) (l vs:List α) (off:Nat):(dn l off vs).map f=dn (l.map f) off (vs.map f):=by
 simp[dn,List.map_take,List.map_drop]
def gE (w:World) (b o:Nat) (vs:List Value) (cur:Array Value):World:=w.setRow b (cur.toList.take o++vs++cur.toList.drop (o+vs.length)).toArray
section
variable {w:World} {b o:Nat} {vs:List Value} {cur:Array Value} {e:TypeId}
theorem zk (hg:w.heap[b]? =some (.cells cur e (0,0))) (hl:o+vs.length<=cur.size) (x:Nat):
  (gE w b o vs cur).cell? (ad b x)=if o<=x/\x<o+vs.length then vs[x - o]? else w.cell? (ad b x):=by
 unfold gE ad;rw[cell_setRow_same w b x cur _ e (0,0) hg];have h1:=zb (l:=cur.toList) (vs:=vs) (off:=o) (j:=x) (by simpa using hl);simp only[dn] at h1;rw[List.getElem?_toArray,h1];have h2:w.cell? ⟨b,x,none⟩=cur[x]? :=by simp[World.cell?,hg]
 rw[h2];simp
theorem zl (k:Nat) (hk:k≠b):(gE w b o vs cur).heap[k]? =w.heap[k]? :=setRow_other w b k _ hk
theorem rk:(gE w b o vs cur).heap.size=w.heap.size:=setRow_size _ _ _
theorem EL (hg:w.heap[b]? =some (.cells cur e (0,0))) (hl:o+vs.length<=cur.size):∃ju,(gE w b o vs cur).heap[b]? =some (.cells ju e (0,0))/\ju.size=cur.size:=by
 refine⟨_,setRow_heap w b cur _ e (0,0) hg,?_⟩;simp;omega
theorem BB (hg:w.heap[b]? =some (.cells cur e (0,0))) (hl:o+vs.length<=cur.size):Cz w (gE w b o vs cur) b:=by
 intro arr e' h;obtain⟨ju,h1,h2⟩:=EL (vs:=vs) (o:=o) hg hl;rw[hg] at h;injection h with h;injection h with ha hb;subst ha hb;exact⟨ju,h1,h2⟩
theorem H7 (hg:w.heap[b]? =some (.cells cur e (0,0))) (hl:o+vs.length<=cur.size) (k:Nat) (hk:dZ w k):dZ (gE w b o vs cur) k:=by
 by_cases hkb:k=b
 ·subst hkb;obtain⟨ju,h1,_⟩:=EL (vs:=vs) (o:=o) hg hl;exact⟨ju,e,h1⟩
 ·exact hk.congr (zl k hkb)
end
section
variable {B:Nat} {E:Ex} {w0 w w':World} {G G':Gh} {h h':Nat->Option aq} {used used':Nat->Bool} {tk:List PC} {N:Nat}
variable {P:Program} {o:Oper} {a:Act} {σ σ':St} {Q:Exit->Act->World->Prop}
theorem HZ {α:Type} (f:Nat->α) (n:Nat):ax f n (f n)=f:=by
 funext m;simp only[j8];split
 ·rename_i h;rw[h]
 ·rfl
theorem Mk {t:TypeId} {i:TypeInfo} {b off:Nat} {v:Value} {cur:Array Value} {e:TypeId} (hi:P.info? t=some i) (bU:v.cells.size=i.size) (hg:w.heap[b]? =some (.cells cur e (0,0)))
  (hl:off+v.cells.size<=cur.size) (h1:∀u∈v.cells.toList,u.oneCell'=true):
  (storeVar t (ad b off) v).run P w=.ok () (gE w b off v.cells.toList cur):=by
 have r8:=run_storeCells_at P b off e v.cells.toList 0 cur w hg (by simpa using hl) h1;simp only[Nat.add_zero] at r8;simp[storeVar,sizeOf,typeInfo,hi,bU,ad,r8,gE]
theorem HR.qp (H:HR B E w G h used tk) {n m:Nat} {gr:Bool} {mo:Mode} {sz:Nat} {xs:List (List C)} (hn:h n≠none) (hl:(G.g n).nl=false) (hm:h m=some (.row gr mo sz xs)) {b:Nat} (hb:bf b (G.g m).px):b≠(G.g n).b:=by
 have dU:=(H.row m gr mo sz xs hm).mode;cases mo with
 |aI=>rintro rfl;exact(H.own n hn hl).1 (dU _ hb)
 |aO=>rintro rfl;exact(H.own n hn hl).1 (dU.1 _ hb).1
 |live=>exact H.live m gr sz xs hm b hb n hn hl
theorem R.atx (r:R B E w0 N σ a w G) {n:Nat} {cs:List ah} {vs:List ah} {us:List Value} {off:Nat} (hn:σ.h n=some (.box cs)) (hv:dh w G σ.h vs us) (lQ:∀c∈vs,∀m,c.ref m->σ.used m=true)
  (hl:off+vs.length<=cs.length) {cur:Array Value} {e:TypeId} (hg:w.heap[(G.g n).b]? =some (.cells cur e (0,0))) (gA:(G.g n).o+off+us.length<=cur.size):
  R B E w0 N (σ.eD n (.box (dn cs off vs))) a (gE w (G.g n).b ((G.g n).o+off) us cur) G:=by
 have H:=r.hr;have bK:σ.h n≠none:=by rw[hn];simp
 obtain⟨aT,uI,gW⟩:=H.box n cs hn;obtain⟨rZ,qB,tj⟩:=H.own n bK aT;have yn:=H.ji n bK;have hG:(⟨G.Im,ax G.g n (G.g n)⟩:Gh)=G:=by rw[HZ]
 have hlen:us.length=vs.length:=hv.1;have dH:∀b,b<w.heap.size->b≠(G.g n).b->(gE w (G.g n).b ((G.g n).o+off) us cur).heap[b]? =w.heap[b]? :=fun b _ hb=>zl b hb;have K:bk w G σ.h (fun n=>σ.used n=true) (gE w (G.g n).b ((G.g n).o+off) us cur) G (ax σ.h n (some (.box (dn cs off vs)))):=by
  refine⟨fun _ h=>h,fun b hb x=>gU (dH b (H.gC b hb) (fun he=>rZ (he▸hb))) x,fun m hm h0=>?_,fun m gr sz xs hm h0=>?_⟩
  ·by_cases bF:m=n
   ·subst bF;exact⟨bK,rfl,rfl,rfl,rfl,rfl⟩
   ·rw[cJ _ _ _ _ bF] at h0;exact⟨h0,rfl,rfl,rfl,rfl,rfl⟩
  ·by_cases bF:m=n
   ·subst bF;rw[bO] at h0;cases h0
   ·rw[cJ _ _ _ _ bF] at h0;exact⟨⟨gr,xs,h0⟩,fun k j pc h1 h2=>⟨pc,h1,rfl,h2⟩⟩
 have Hn:HR B E (gE w (G.g n).b ((G.g n).o+off) us cur) ⟨G.Im,ax G.g n (G.g n)⟩ (ax σ.h n (some (.box (dn cs off vs)))) σ.used []:=by
  refine H.put (fun b hb aF=>dH b hb (aF aT)) (by rw[rk];exact Nat.le_refl _) (fun b _ hb=>H7 hg gA b hb) (fun _ h=>h) yn (fun _=>⟨rZ,qB,by rw[rk];exact tj⟩)
   (fun _ m hm h0 gY=>(H.inj m n h0 bK hm gY aT)) (fun _ m gr sz xs hm h0 b hb=>H.live m gr sz xs h0 b hb n bK aT) ?_ (by rw[hG];exact K) ?_
   (fun gr m sz xs hb=>by cases hb) (fun gr sz xs hb=>by cases hb) (fun gr m sz xs hb=>by cases hb) ?_
  ·intro cs' c m hb hc hm;injection hb with hb;subst hb;simp only[dn,List.mem_append] at hc;rcases hc with(hc|hc)|hc
   ·exact H.iq n cs c m hn (List.mem_of_mem_take hc) hm
   ·exact lQ c hc m hm
   ·exact H.iq n cs c m hn (List.mem_of_mem_drop hc) hm
  ·rw[hG];refine⟨aT,H7 hg gA _ uI,fun j c hj=>?_⟩;rw[zb hl] at hj;rw[zk hg gA];by_cases cW:off<=j/\j<off+vs.length
   ·rw[if_pos cW] at hj;rw[if_pos (by omega)];have jT:j - off<us.length:=by omega
    have hu:us[j - off]? =some (us[j - off]'jT):=List.getElem?_eq_getElem jT;obtain⟨q1,q2⟩:=hv.2 _ _ _ hj hu;refine⟨_,by rw[<-hu];congr 1;omega,q1,q2.fP K (lQ c (List.mem_of_getElem? hj))⟩
   ·rw[if_neg cW] at hj;rw[if_neg (by omega)];obtain⟨v,v1,v2,v3⟩:=gW j c hj;exact⟨v,v1,v2,v3.fP K (fun m hm=>H.iq n cs c m hn (List.mem_of_getElem? hj) hm)⟩
  ·intro _ _ b hb;obtain⟨m,gr,mo,sz,xs,hm,h0,cN⟩:=hb;exact H.qp bK aT h0 cN
 rw[hG] at Hn;exact r.step (σ':=σ.eD n (.box (dn cs off vs))) rfl (fun _ h=>h) K Hn (r.fr.one qB (fun b hb aF=>dH b hb aF) (by rw[rk];exact Nat.le_refl _) (BB hg gA) rfl rfl rfl)
theorem JK {α:Type} {px:List (List α)} {k k' j:Nat} {pe:List α} {c:α} (hk:k<px.length) (h:At (px.set k pe) k' j c):(k'=k/\pe[j]? =some c)\/(k'≠k/\At px k' j c):=by
 obtain⟨e,he,hj⟩:=h;by_cases yf:k'=k
 ·subst yf;rw[List.getElem?_set_self hk] at he;injection he with he;subst he;exact .inl ⟨rfl,hj⟩
 ·rw[List.getElem?_set_ne (Ne.symm yf)] at he;exact .inr ⟨yf,e,he,hj⟩
theorem PC.aaP {pc:PC} (h:pc.ie=true):pc.er.fh=false:=by
 cases pc<;>simp[PC.ie] at h
 simp[PC.d9,C.fh]
theorem R.oq (r:R B E w0 N σ a w G) {n:Nat} {gr:Bool} {m:Mode} {rs:Nat} {xs:List (List C)} {k off:Nat} {e:List C} {vs:List ah} {us:List Value} {σ2:St}
  (hn:σ.h n=some (.row gr m rs xs)) (aT:(G.g n).nl=false) (hk:xs[k]? =some e) (hv:dh w G σ.h vs us) (lQ:∀c∈vs,∀m,c.ref m->σ.used m=true)
  (hx:Am.oq σ n gr m rs xs k off e vs=some σ2) {cur:Array Value} {et:TypeId} (hg:w.heap[(G.g n).b]? =some (.cells cur et (0,0))) (gA:(G.g n).o+k*rs+off+us.length<=cur.size):
  ∃G',R B E w0 N σ2 a (gE w (G.g n).b ((G.g n).o+k*rs+off) us cur) G':=by
 unfold Am.oq at hx;split at hx
 ·cases hx
 rename_i ii fL;obtain⟨s1,s2,s3⟩:=EB fL;split at hx
 ·cases hx
 rename_i cs ow σ1 Rl;obtain⟨Im',bx,a1,a2,a3,a4,a5,a6,a7,a8⟩:=HR.gw r.hr Rl hv lQ;simp only[List.nil_append] at a4;have H0:HR B E w ⟨Im',G.g⟩ σ1.h σ.used []:=by
  cases ow
  ·simpa using a4
  ·have a4':HR B E w ⟨Im',G.g⟩ σ1.h σ.used ([]++bx):=by simpa using a4
   exact a4'.xd
 have hlen:us.length=vs.length:=hv.1;have e7:bx.length=vs.length:=by have:=congrArg List.length a2;simp at this;omega
 have akH:(σ1.h n).isSome=true/\∃m',σ2=σ1.eD n (.row gr m' rs (xs.set k (dn e off cs)))/\
   ((m=.live/\m'=.live/\fF cs=true/\fF ii=true/\gr=false)\/(m≠ .live/\m'=if ow=true then m else .aI)):=by
  split at hx
  ·rename_i hm;split at hx
   ·rename_i hc;injection hx with hx;exact⟨hc.2.2.1,m,by rw[<-hx],.inl ⟨hm,hm,hc.1,hc.2.1,hc.2.2.2⟩⟩
   ·cases hx
  ·rename_i hm;split at hx
   ·rename_i hs;injection hx with hx;exact⟨hs,_,hx.symm,.inr ⟨hm,rfl⟩⟩
   ·cases hx
 obtain⟨Dl,m',rfl,gf⟩:=akH;have mF:σ1.h n=some (.row gr m rs xs):=by
  cases hh:σ1.h n with
  |none=>rw[hh] at Dl;cases Dl
  |some b=>rw[<-a8 n b hh,hn]
 have bK:σ1.h n≠none:=by rw[mF];simp
 have hr:=H0.row n gr m rs xs mF;obtain⟨rZ,qB,tj⟩:=H0.own n bK aT;have yn:=H0.ji n bK;obtain⟨l1,l2,l3⟩:=hr.eI aT;have jC:∃pe,(G.g n).px[k]? =some pe/\pe.map PC.er=e:=by
  have gG:=hr.er;rw[gG,List.getElem?_map] at hk;cases hp:(G.g n).px[k]? with
  |none=>rw[hp] at hk;cases hk
  |some pe=>rw[hp] at hk;simp at hk;exact⟨pe,rfl,hk⟩
 obtain⟨pe,r6,uG⟩:=jC;have nh:k<(G.g n).px.length:=(List.getElem?_eq_some_iff.1 r6).1;have wq:pe.length=rs:=l2.1 pe (List.mem_of_getElem? r6);have nW:off+bx.length<=pe.length:=by rw[<-uG] at s1;simp at s1;omega
 let D4:=dn pe off bx;let px':=(G.g n).px.set k D4;let w2:=gE w (G.g n).b ((G.g n).o+k*rs+off) us cur;let p':PB:=⟨false,(G.g n).b,(G.g n).o,(G.g n).cap,px',(G.g n).na⟩;have aag:D4.length=rs:=by show(dn pe off bx).length=rs;rw[MF nW,wq]
 have cD:∀k' j c,At px' k' j c->(k'=k/\off<=j/\j<off+bx.length/\bx[j - off]? =some c)\/((k'≠k\/¬(off<=j/\j<off+bx.length))/\At (G.g n).px k' j c):=by
  intro k' j c h;rcases JK nh h with⟨rfl,hj⟩|⟨aF,h⟩
  ·rw[zb nW] at hj;by_cases cW:off<=j/\j<off+bx.length
   ·rw[if_pos cW] at hj;exact .inl ⟨rfl,cW.1,cW.2,hj⟩
   ·rw[if_neg cW] at hj;exact .inr ⟨.inr cW,pe,r6,hj⟩
  ·exact .inr ⟨.inl aF,h⟩
 have akE:∀k' j c,At px' k' j c->j<rs:=by
  intro k' j c h;obtain⟨e1,he,hj⟩:=h;have:e1.length=rs:=by
   rcases List.mem_or_eq_of_mem_set (List.mem_of_getElem? he) with h1|h1
   ·exact l2.1 e1 h1
   ·rw[h1];exact aag
  rw[<-this];exact(List.getElem?_eq_some_iff.1 hj).1
 have lr:∀b,bf b px'->bf b (G.g n).px\/∃(i:Nat) (c:PC),bx[i]? =some c/\aX b c:=by
  rintro b ⟨k',j,c,nV,hb⟩;rcases cD k' j c nV with⟨_,_,_,hp⟩|⟨_,hp⟩
  ·exact .inr ⟨_,c,hp,hb⟩
  ·exact .inl ⟨k',j,c,hp,hb⟩
 have dH:∀b,b≠(G.g n).b->w2.heap[b]? =w.heap[b]? :=fun b hb=>zl b hb;have Q8:∀(i:Nat) (c:PC) (b:Nat),bx[i]? =some c->aX b c->Im' b:=fun i c b hi hb=>(a3 c (List.mem_of_getElem? hi)).2 b hb;have z8:∀b,Im' b->b≠(G.g n).b:=fun b hb he=>rZ (he▸hb);have iC:∀b,bf b (G.g n).px->b≠(G.g n).b:=fun b hb=>H0.qp bK aT mF hb;have eW:nD w2 (G.g n).b (G.g n).o rs px':=by
  refine⟨fun e1 he=>?_,fun k' j c nV=>?_,fun k' j c nV=>?_⟩
  ·rcases List.mem_or_eq_of_mem_set he with h1|h1
   ·exact l2.1 e1 h1
   ·rw[h1];exact aag
  ·have hj:=akE k' j c nV;show w2.cell? _=_;rw[zk hg gA];rcases cD k' j c nV with⟨rfl,h1,h2,hp⟩|⟨aF,hp⟩
   ·rw[if_pos (by omega)];have hu:us[j - off]? =some c.val:=by rw[<-a2,List.getElem?_map,hp];rfl
    rw[<-hu];congr 1;omega
   ·rw[if_neg ?_]
    ·exact l2.2.1 k' j c hp
    ·rintro⟨q1,q2⟩;rcases aF with aF|aF
     ·rcases Nat.lt_or_gt_of_ne aF with cj|Af
      ·have:(k'+1)*rs<=k*rs:=Nat.mul_le_mul_right _ cj;rw[Nat.add_mul] at this;omega
      ·have:(k+1)*rs<=k'*rs:=Nat.mul_le_mul_right _ Af;rw[Nat.add_mul] at this;omega
     ·have:k'=k:=by
       rcases Nat.lt_trichotomy k' k with cj|fw|Af
       ·have:(k'+1)*rs<=k*rs:=Nat.mul_le_mul_right _ cj;rw[Nat.add_mul] at this;omega
       ·exact fw
       ·have:(k+1)*rs<=k'*rs:=Nat.mul_le_mul_right _ Af;rw[Nat.add_mul] at this;omega
      subst this;omega
  ·rcases cD k' j c nV with⟨_,_,_,hp⟩|⟨_,hp⟩
   ·exact(a3 c (List.mem_of_getElem? hp)).1.congr fun b hb x=>gU (dH b (z8 b (Q8 _ c b hp hb))) x
   ·exact(l2.2.2 k' j c hp).congr fun b hb x=>gU (dH b (iC b ⟨k',j,c,hp,hb⟩)) x
 have Z6:(G.g n).o+k*rs+off+us.length<=cur.size:=gA;have iE:fF cs=true->∀(i:Nat) (c:PC) (b:Nat),bx[i]? =some c->¬aX b c:=by
  intro hs i c b hi;have hc:c.er∈cs:=by rw[<-a1];exact List.mem_map_of_mem (List.mem_of_getElem? hi)
  exact(Sep.g9 (pc:=c) (List.all_eq_true.1 hs _ hc)).2 b
 have hold:fF ii=true->∀j c,off<=j->j<off+bx.length->pe[j]? =some c->c.er.fh=true:=by
  intro hs j c h1 h2 hj;have:c.er∈ii:=by
   have h3:ii[j - off]? =some c.er:=by
    have e0:ii[j - off]? =((e.drop off).take vs.length)[j - off]? :=congrArg (fun q:List C=>q[j - off]?) s2;rw[e0,zh (by omega),<-uG,List.getElem?_map,show off+(j - off)=j by omega,hj];rfl
   exact List.mem_of_getElem? h3
  exact List.all_eq_true.1 hs _ this
 have K2:bk w ⟨Im',G.g⟩ σ1.h (fun n=>σ.used n=true) w2 ⟨Im',ax G.g n p'⟩ (ax σ1.h n (some (.row gr m' rs (xs.set k (dn e off cs))))):=by
  refine⟨fun _ h=>h,fun b hb x=>gU (dH b (z8 b hb)) x,fun q hq h0=>?_,fun q bn aH ar hq h0=>?_⟩
  ·by_cases gJ:q=n
   ·subst gJ;refine⟨bK,?_⟩;simp only[bO];exact⟨aT.symm,rfl,rfl,rfl,rfl⟩
   ·rw[cJ _ _ _ _ gJ] at h0;simp only[cJ _ _ _ _ gJ];exact⟨h0,trivial,trivial,trivial,trivial,trivial⟩
  ·by_cases gJ:q=n
   ·subst gJ;rw[bO] at h0;injection h0 with h0;injection h0 with e1 e2 e3 e4;subst e1;subst e2;subst e3;rcases gf with⟨hm,_,hs,As,_⟩|⟨hm,bL⟩
    ·subst hm;refine⟨⟨gr,xs,mF⟩,fun k' j pc nV hL=>?_⟩;simp only[bO];refine⟨pc,?_,rfl,hL⟩;obtain⟨e1,he,hj⟩:=nV;by_cases yf:k'=k
     ·subst yf;rw[r6] at he;injection he with he;subst he;refine⟨D4,List.getElem?_set_self nh,?_⟩;show(dn pe off bx)[j]? =some pc;rw[zb nW];rw[if_neg ?_]
      ·exact hj
      ·rintro⟨q1,q2⟩;have:=hold As j pc q1 q2 hj;rw[PC.aaP hL] at this;cases this
     ·exact⟨e1,by show((G.g q).px.set k D4)[k']? =some e1;rw[List.getElem?_set_ne (Ne.symm yf)];exact he,hj⟩
    ·cases ow
     ·simp at bL
     ·simp at bL;exact absurd bL.symm hm
   ·rw[cJ _ _ _ _ gJ] at h0;simp only[cJ _ _ _ _ gJ];exact⟨⟨bn,ar,h0⟩,fun k j pc h1 h2=>⟨pc,h1,rfl,h2⟩⟩
 have pF:∀b,dZ w b->dZ w2 b:=fun b hb=>H7 hg gA b hb;have Q6:m'≠ .aI->(∀b,bf b px'->dZ w b/\(B<=b\/E b))/\iM px'/\(m'=.aO->∀b,bf b px'->Im' b)/\(m'=.live->∀b,bf b px'->bf b (G.g n).px)/\
   (∀q bn mo aH ar,q≠n->σ1.h q=some (.row bn mo aH ar)->mo≠ .aI->∀b,bf b px'->¬bf b (G.g q).px):=by
  intro iU;have dU:=hr.mode;rcases gf with⟨rfl,rfl,hs,As,_⟩|⟨hm,bL⟩
  ·have fL:∀b,bf b px'->bf b (G.g n).px:=fun b hb=>(lr b hb).resolve_right (fun⟨i,c,hi,hb⟩=>iE hs i c b hi hb);refine⟨fun b hb=>(dU.1 b (fL b hb)).2,⟨fun k' j c nV=>?_,fun k1 j1 c1 k2 j2 c2 b h1 h2 aF hb=>?_⟩,(fun h=>by cases h),fun _=>fL,fun q bn mo aH ar gJ hq ic b hb=>H0.gn n q gr .live rs xs bn mo aH ar mF hq (by simp) ic (Ne.symm gJ) b (fL b hb)⟩
   ·rcases cD k' j c nV with⟨_,_,_,hp⟩|⟨_,hp⟩
    ·exact Sep.wP (fun b hb=>iE hs _ c b hp hb) (a3 c (List.mem_of_getElem? hp)).1
    ·exact dU.2.1 k' j c hp
   ·rcases cD k1 j1 c1 h1 with⟨_,_,_,hp⟩|⟨_,hp⟩
    ·exact absurd hb (iE hs _ c1 b hp)
    ·rcases cD k2 j2 c2 h2 with⟨_,_,_,bC⟩|⟨_,bC⟩
     ·exact iE hs _ c2 b bC
     ·exact dU.2.2 k1 j1 c1 k2 j2 c2 b hp bC aF hb
  ·cases ow
   ·simp at bL;exact absurd bL iU
   ·simp only[if_true] at bL a4;subst bL;have KL:m'=.aO:=by cases m'<;>first|rfl|exact absurd rfl hm|exact absurd rfl iU
    subst KL;refine⟨fun b hb=>?_,⟨fun k' j c nV=>?_,fun k1 j1 c1 k2 j2 c2 b h1 h2 aF hb=>?_⟩,fun _ b hb=>?_,(fun h=>by cases h),fun q bn mo aH ar gJ hq ic b hb=>?_⟩
    ·rcases lr b hb with h1|⟨i,c,hi,h1⟩
     ·exact(dU.1 b h1).2
     ·exact((a4.sJ i c hi).2 b h1).2
    ·rcases cD k' j c nV with⟨_,_,_,hp⟩|⟨_,hp⟩
     ·exact(a4.sJ _ c hp).1
     ·exact dU.2.1 k' j c hp
    ·rcases cD k1 j1 c1 h1 with⟨e1,q1,q2,hp⟩|⟨_,hp⟩
     ·rcases cD k2 j2 c2 h2 with⟨e2,q3,q4,bC⟩|⟨_,bC⟩
      ·have iv:j1 - off≠j2 - off:=fun hh=>aF (by rw[e1,e2,show j1=j2 by omega]);exact a4.xf _ _ c1 c2 b iv hp bC hb
      ·exact fun aJ=>a4.sK _ c1 n gr .aO rs xs b hp mF (by simp) hb ⟨k2,j2,c2,bC,aJ⟩
     ·rcases cD k2 j2 c2 h2 with⟨e2,q3,q4,bC⟩|⟨_,bC⟩
      ·exact fun aJ=>a4.sK _ c2 n gr .aO rs xs b bC mF (by simp) aJ ⟨k1,j1,c1,hp,hb⟩
      ·exact dU.2.2 k1 j1 c1 k2 j2 c2 b hp bC aF hb
    ·rcases lr b hb with h1|⟨i,c,hi,h1⟩
     ·exact(dU.1 b h1).1
     ·exact Q8 i c b hi h1
    ·rcases lr b hb with h1|⟨i,c,hi,h1⟩
     ·exact H0.gn n q gr .aO rs xs bn mo aH ar mF hq (by simp) ic (Ne.symm gJ) b h1
     ·exact a4.sK i c q bn mo aH ar b hi hq ic h1
 have Hn:HR B E w2 ⟨Im',ax G.g n p'⟩ (ax σ1.h n (some (.row gr m' rs (xs.set k (dn e off cs))))) σ.used []:=by
  refine H0.put (p:=p') (fun b hb aF=>dH b (aF rfl)) (by show w.heap.size<=w2.heap.size;rw[rk];exact Nat.le_refl _) (fun b _ hb=>pF b hb) (fun _ h=>h) yn
   (fun _=>⟨rZ,qB,by show _<w2.heap.size;rw[rk];exact tj⟩)
   (fun _ q hq h0 gY=>(H0.inj q n h0 bK hq gY aT)) (fun _ q bn aH ar hq h0 b hb=>H0.live q bn aH ar h0 b hb n bK aT) (fun cs c q hb=>by cases hb) K2 ?_ ?_ ?_ (fun gr m sz xs _ _ i pc b hi=>by simp at hi) ?_
  ·refine⟨hr.pos,?_,(fun hl=>by cases hl),fun _=>⟨pF _ l1,eW,by show((G.g n).px.set k D4).length<=_;simpa using l3⟩,fun _ F9=>?_,?_,fun Z7 fM=>?_⟩
   ·show xs.set k (dn e off cs)=((G.g n).px.set k D4).map _;rw[List.map_set,<-hr.er];congr 1;show dn e off cs=(dn pe off bx).map PC.er;rw[Eu,uG,a1]
   ·obtain⟨r2,ju,e',r3,r4⟩:=hr.room aT F9;rw[hg] at r3;injection r3 with r3;injection r3 with r3 _ _;subst r3;obtain⟨PE,c1,c2⟩:=EL (vs:=us) (o:=(G.g n).o+k*rs+off) hg gA;exact⟨r2,PE,et,c1,by rw[c2];exact r4⟩
   ·show Ca B E w2 ⟨Im',_⟩ px' m';by_cases iU:m'=.aI
    ·rw[iU];intro b hb;rcases lr b hb with h1|⟨i,c,hi,h1⟩
     ·have dU:=hr.mode;rcases gf with⟨_,h2,_⟩|⟨hm,_⟩
      ·rw[iU] at h2;cases h2
      ·cases m with
       |aI=>exact dU b h1
       |aO=>exact(dU.1 b h1).1
       |live=>exact absurd rfl hm
     ·exact Q8 i c b hi h1
    ·obtain⟨o1,o2,o3,o4,o5⟩:=Q6 iU;cases m' with
     |aI=>exact absurd rfl iU
     |aO=>exact⟨fun b hb=>⟨o3 rfl b hb,pF b (o1 b hb).1,(o1 b hb).2⟩,o2⟩
     |live=>
      refine⟨fun b hb=>⟨?_,pF b (o1 b hb).1,(o1 b hb).2⟩,o2⟩;have dU:=hr.mode;rcases gf with⟨hm,_,_⟩|⟨hm,bL⟩
      ·subst hm;exact(dU.1 b (o4 rfl b hb)).1
      ·cases ow
       ·simp at bL
       ·simp at bL;exact absurd bL.symm hm
   ·rcases gf with⟨_,_,_,_,hg2⟩|⟨hm,bL⟩
    ·rw[hg2] at Z7;cases Z7
    ·rw[fM] at bL;cases ow
     ·simp at bL
     ·simp at bL;exact absurd bL.symm hm
  ·intro bn m2 aH ar hb iU q C0 mo jc gx gJ hq ic b cN;injection hb with _ hb _ _;subst hb;exact(Q6 iU).2.2.2.2 q C0 mo jc gx gJ hq ic b cN
  ·intro bn aH ar hb b cN;injection hb with _ hb _ _;subst hb;have fL:=(Q6 (by simp)).2.2.2.1 rfl b cN;have hm:m=.live:=by
    rcases gf with⟨hm,_,_⟩|⟨hm,bL⟩
    ·exact hm
    ·cases ow
     ·simp at bL
     ·simp at bL;exact absurd bL.symm hm
   subst hm;exact⟨fun _=>H0.live n gr rs xs mF b fL n bK aT,fun q gJ hq Rc=>H0.live n gr rs xs mF b fL q hq Rc⟩
  ·intro _ _ b hb;obtain⟨q,bn,mo,aH,ar,hq,h0,cN⟩:=hb;exact H0.qp bK aT h0 cN
 refine⟨⟨Im',ax G.g n p'⟩,?_⟩;exact r.step (σ':=σ1.eD n (.row gr m' rs (xs.set k (dn e off cs)))) a6 (fun q hq=>by show σ1.used q=true;rw[a7];exact hq)
  (bk.trans (u2:=fun n=>σ.used n=true) (fun _ h=>h) a5 K2) (by show HR B E w2 _ (ax σ1.h n _) σ1.used [];rw[a7];exact Hn) (r.fr.one qB (fun b hb aF=>dH b aF) (by show w.heap.size<=w2.heap.size;rw[rk];exact Nat.le_refl _) (BB hg gA) rfl rfl rfl)
end
section
variable {B:Nat} {E:Ex} {w0 w w':World} {G G':Gh} {h h':Nat->Option aq} {used used':Nat->Bool} {tk:List PC} {N:Nat}
variable {P:Program} {o:Oper} {a:Act} {σ σ':St} {Q:Exit->Act->World->Prop}
theorem RA.c {x:C} {v:Value} (hv:RA w G h (.one (.c x)) v):∃pc:PC,pc.er=x/\pc.val=v/\Good w pc/\∀b,aX b pc->G.Im b:=(hv.fE (by simp)).1
theorem RA.DF {k:IntKind} {n:Int} {v:Value} (hv:RA w G h (.one (.c (.int k n))) v):v=.int k n:=by
 obtain⟨pc,h1,h2,_⟩:=hv.c;cases pc<;>simp[PC.er] at h1
 obtain⟨rfl,rfl⟩:=h1;exact h2.symm
theorem RA.Cs {b:Bool} {v:Value} (hv:RA w G h (.one (.c (.bool b))) v):v=.bool b:=by
 obtain⟨pc,h1,h2,_⟩:=hv.c;cases pc<;>simp[PC.er] at h1
 subst h1;exact h2.symm
theorem RA.of_int (k:IntKind) (n:Int):RA w G h (.one (.c (.int k n))) (.int k n):=RA.fz rfl ⟨.int k n,rfl,rfl,.int _ _,fun b hb=>by cases hb⟩
theorem RA.of_bool (b:Bool):RA w G h (.one (.c (.bool b))) (.bool b):=RA.fz rfl ⟨.bool b,rfl,rfl,.bool _,fun b hb=>by cases hb⟩
theorem sk {x:C} {m:Nat}:¬(aj.one (.c x)).ref m:=fun h=>h
theorem jv (r:R B E w0 N σ a w G) {x:aj} {v:Value} (bR:(execOp a.eval o).run P w=.ok (.value v) w) (hv:RA w G σ.h x v) (hr:∀m,x.ref m->σ.used m=true) (hN:∀n,o.dst=some n->n<N):
  o.wp P a w (Nx B E w0 N (σ.put o.dst x)) Q:=pj bR ⟨G,r.put hv hr hN⟩
theorem XZ (r:R B E w0 N σ a w G) {x:Operand} {m:MO} (ho:o.op=.move x\/o.op=.assign x) (hN:∀n,o.dst=some n->n<N) (hm:bT x m=true):
  o.wp P a w (Nx B E w0 N (σ.put o.dst (σ.ev m))) Q:=by
 obtain⟨h1,h2⟩:=r.ev hm;refine jv r ?_ h1 h2 hN;rcases ho with ho|ho<;>simp[execOp,ho]
theorem ai9 (r:R B E w0 N σ a w G) {c x y:Operand} {mc mx my:MO} {b:Bool} (ho:o.op=.pick c x y) (hN:∀n,o.dst=some n->n<N) (hc:bT c mc=true) (hx:bT x mx=true) (hy:bT y my=true)
  (hb:σ.ev mc=.one (.c (.bool b))):o.wp P a w (Nx B E w0 N (σ.put o.dst (if b=true then σ.ev mx else σ.ev my))) Q:=by
 obtain⟨h1,_⟩:=r.ev hc;rw[hb] at h1;have hv:=h1.Cs;obtain⟨x1,x2⟩:=r.ev hx;obtain⟨y1,y2⟩:=r.ev hy;refine jv r (v:=if b=true then a.eval x else a.eval y) ?_ ?_ ?_ hN
 ·simp only[execOp,ho,hv,asBool];cases b<;>simp
 ·cases b
  ·exact y1
  ·exact x1
 ·cases b
  ·exact y2
  ·exact x2
theorem asE {op:BinOp} {k:IntKind} {n m:Int} {c:C} {t:TypeId} (hs:BinOp.AH op=false) (hx:Cr op k n m=some c):∃v,(binOp op t (.int k n) (.int k m)).run P w=.ok v w/\RA w G h (.one (.c c)) v:=by
 cases op with
 |add=>injection hx with hx;subst hx;exact⟨_,by simp[binOp,Op.intArith],RA.of_int _ _⟩
 |sub=>injection hx with hx;subst hx;exact⟨_,by simp[binOp,Op.intArith],RA.of_int _ _⟩
 |mul=>injection hx with hx;subst hx;exact⟨_,by simp[binOp,Op.intArith],RA.of_int _ _⟩
 |and=>injection hx with hx;subst hx;exact⟨_,by simp[binOp,intBits_and],RA.of_int _ _⟩
 |or=>injection hx with hx;subst hx;exact⟨_,by simp[binOp,intBits_or],RA.of_int _ _⟩
 |xor=>injection hx with hx;subst hx;exact⟨_,by simp[binOp,intBits_xor],RA.of_int _ _⟩
 |eql=>injection hx with hx;subst hx;exact⟨_,by simp[binOp,Op.intCmp],RA.of_bool _⟩
 |neq=>injection hx with hx;subst hx;exact⟨_,by simp[binOp,Op.intCmp],RA.of_bool _⟩
 |lss=>injection hx with hx;subst hx;exact⟨_,by simp[binOp,Op.intCmp],RA.of_bool _⟩
 |leq=>injection hx with hx;subst hx;exact⟨_,by simp[binOp,Op.intCmp],RA.of_bool _⟩
 |gtr=>injection hx with hx;subst hx;exact⟨_,by simp[binOp,Op.intCmp],RA.of_bool _⟩
 |geq=>injection hx with hx;subst hx;exact⟨_,by simp[binOp,Op.intCmp],RA.of_bool _⟩
 |quo=>
  simp only[Cr] at hx;split at hx
  ·cases hx
  ·rename_i h0;injection hx with hx;subst hx;exact⟨_,by simp[binOp,Op.intDiv,h0],RA.of_int _ _⟩
 |rem=>
  simp only[Cr] at hx;split at hx
  ·cases hx
  ·rename_i h0;injection hx with hx;subst hx;exact⟨_,by simp[binOp,Op.intDiv,h0],RA.of_int _ _⟩
 |shl=>simp[BinOp.AH] at hs
 |shr=>simp[BinOp.AH] at hs
 |andNot=>cases hx
theorem asI {op:BinOp} {k k':IntKind} {n m:Int} {c:C} {t:TypeId} (hs:BinOp.AH op=true) (hx:Hy op k n m=some c):∃v,(binOp op t (.int k n) (.int k' m)).run P w=.ok v w/\RA w G h (.one (.c c)) v:=by
 unfold Hy at hx;split at hx
 ·cases hx
 ·rename_i h0;cases op<;>simp[BinOp.AH] at hs
  ·injection hx with hx;subst hx;exact⟨_,by simp[binOp,Op.shift,h0],RA.of_int _ _⟩
  ·injection hx with hx;subst hx;have hp:(0:Int)<=2^min m.toNat k.bits:=Int.le_of_lt (Int.pow_pos (by decide));exact⟨_,by simp[binOp,Op.shift,h0,Int.fdiv_eq_ediv_of_nonneg _ hp],RA.of_int _ _⟩
theorem adT (op:BinOp) (t:TypeId) (x y:Operand) (k k':IntKind) (n m:Int):(eqGuard op t x y (.int k n) (.int k' m)).run P w=.ok () w:=by
 cases op<;>simp[eqGuard]
theorem adS (op:BinOp) (t:TypeId) (x y:Operand) (n m:Bool):(eqGuard op t x y (.bool n) (.bool m)).run P w=.ok () w:=by
 cases op<;>simp[eqGuard]
theorem aiC (r:R B E w0 N σ a w G) {op:BinOp} {t t':TypeId} {x y:Operand} {mx my:MO} {c:C} (ho:o.op=.binOp op t x y t') (hN:∀n,o.dst=some n->n<N) (hx:bT x mx=true) (hy:bT y my=true)
  (hb:xH op (σ.ev mx) (σ.ev my)=some c):o.wp P a w (Nx B E w0 N (σ.put o.dst (.one (.c c)))) Q:=by
 obtain⟨x1,_⟩:=r.ev hx;obtain⟨y1,_⟩:=r.ev hy;unfold xH at hb;split at hb
 ·rename_i k n k' m e1 e2;rw[e1] at x1;rw[e2] at y1;have lA:=x1.DF;have uJ:=y1.DF;split at hb
  ·rename_i hs;obtain⟨v,h1,h2⟩:=asI (P:=P) (w:=w) (G:=G) (h:=σ.h) (k':=k') (t:=t) hs hb;exact jv r (by simp only[execOp,ho,lA,uJ];simp[adT,h1]) h2 (fun q hq=>absurd hq sk) hN
  ·rename_i hs;split at hb
   ·rename_i hk;subst hk;obtain⟨v,h1,h2⟩:=asE (P:=P) (w:=w) (G:=G) (h:=σ.h) (t:=t) (by simpa using hs) hb;exact jv r (by simp only[execOp,ho,lA,uJ];simp[adT,h1]) h2 (fun q hq=>absurd hq sk) hN
   ·cases hb
 ·cases hb
theorem aiD (r:R B E w0 N σ a w G) {op:BinOp} {t t':TypeId} {x y:Operand} {mx my:MO} {c:C} (ho:o.op=.binOp op t x y t') (hN:∀n,o.dst=some n->n<N) (hx:bT x mx=true) (hy:bT y my=true)
  (ht:P.underlying t=some .bool) (hb:Cq op (σ.ev mx) (σ.ev my)=some c):o.wp P a w (Nx B E w0 N (σ.put o.dst (.one (.c c)))) Q:=by
 obtain⟨x1,_⟩:=r.ev hx;obtain⟨y1,_⟩:=r.ev hy;unfold Cq at hb;split at hb
 ·rename_i n m e1 e2;rw[e1] at x1;rw[e2] at y1;have lA:=x1.Cs;have uJ:=y1.Cs;have fw:(Op.equal t (.bool n) (.bool m)).run P w=.ok (n==m) w:=run_equal_bool w t n m ht;split at hb
  ·injection hb with hb;subst hb;exact jv r (by simp only[execOp,ho,lA,uJ];simp[adS,binOp,fw]) (RA.of_bool _) (fun q hq=>absurd hq sk) hN
  ·injection hb with hb;subst hb;exact jv r (by simp only[execOp,ho,lA,uJ];simp[adS,binOp,fw,bne]) (RA.of_bool _) (fun q hq=>absurd hq sk) hN
  ·cases hb
 ·cases hb
theorem ajf (r:R B E w0 N σ a w G) {op:UnOp} {t:TypeId} {x:Operand} {mx:MO} {c:C} (ho:o.op=.unOp op t x) (hN:∀n,o.dst=some n->n<N) (hx:bT x mx=true)
  (hb:EI op (σ.ev mx)=some c):o.wp P a w (Nx B E w0 N (σ.put o.dst (.one (.c c)))) Q:=by
 obtain⟨x1,_⟩:=r.ev hx;unfold EI at hb;split at hb
 ·rename_i n e1;rw[e1] at x1;have lA:=x1.Cs;split at hb
  ·injection hb with hb;subst hb;exact jv r (by simp only[execOp,ho,lA];simp[Op.unary]) (RA.of_bool _) (fun q hq=>absurd hq sk) hN
  ·cases hb
 ·rename_i k n e1;rw[e1] at x1;have lA:=x1.DF;split at hb
  ·injection hb with hb;subst hb;exact jv r (by simp only[execOp,ho,lA];simp[Op.unary,Op.intArith]) (RA.of_int _ _) (fun q hq=>absurd hq sk) hN
  ·cases hb
 ·cases hb
theorem aiP (r:R B E w0 N σ a w G) {t u:TypeId} {x:Operand} {mx:MO} {k k':IntKind} {n:Int} {d:TypeDesc} (ho:o.op=.convert t u x) (hN:∀n,o.dst=some n->n<N) (hx:bT x mx=true)
  (ht:P.underlying t=some d) (hu:P.underlying u=some (.int k)) (hb:σ.ev mx=.one (.c (.int k' n))):o.wp P a w (Nx B E w0 N (σ.put o.dst (.one (.c (.int k (k.wrap n)))))) Q:=by
 obtain⟨x1,_⟩:=r.ev hx;rw[hb] at x1;have lA:=x1.DF;refine jv r ?_ (RA.of_int _ _) (fun q hq=>absurd hq sk) hN;simp only[execOp,ho,lA];cases d<;>simp[convert,run_underlying ht,run_underlying hu,Conv.intToInt]
def Fj (P:Program) (s:TypeId) (f off:Nat):Bool:=
 match P.underlying s with
 |some (.struct xS)=>match xS[f]? with
  |some fd=>(fd.offset==off)&&(match P.info? fd.type with|some i=>i.size !=0|none=>false)
  |none=>false
 |_=>false
theorem Ef {s:TypeId} {f off:Nat} (hc:Fj P s f off=true) (b o:Nat):(Instr.fieldAt s (.pointer (some (ad b o))) f).run P w=.ok (.pointer (some (ad b (o+off)))) w:=by
 unfold Fj at hc;split at hc
 ·rename_i xS hu;split at hc
  ·rename_i fd hf;split at hc
   ·rename_i i hi;simp at hc;obtain⟨rfl,bU⟩:=hc;simp[Instr.fieldAt,run_underlying hu,hf,Instr.sureAddr,fieldPlace,sizeOf,typeInfo,hi,bU,ru]
   ·simp at hc
  ·cases hc
 ·cases hc
theorem PQ (r:R B E w0 N σ a w G) {s:TypeId} {f off:Nat} {x:Operand} {mx:MO} {y:aj} (ho:o.op=.fieldAddr s x f) (hN:∀n,o.dst=some n->n<N) (hx:bT x mx=true) (hc:Fj P s f off=true)
  (hy:(∃n k sz q,σ.ev mx=.one (.ptr n k sz q)/\(σ.h n).isSome=true/\y=.one (.ptr n k sz (q+off)))\/(∃xs q,σ.ev mx=.one (.de xs q)/\y=.one (.de xs (q+off)))\/(∃xs q j n s len,σ.ev mx=.one (.cE xs q j n s len)/\y=.one (.cE xs (q+off) j n s len))):
  o.wp P a w (Nx B E w0 N (σ.put o.dst y)) Q:=by
 obtain⟨x1,x2⟩:=r.ev hx;rcases hy with⟨n,k,sz,q,e1,hs,rfl⟩|⟨xs,q,e1,rfl⟩|⟨xs,q,j,n,s',len,e1,rfl⟩
 ·rw[e1] at x1 x2;have hp:σ.h n≠none:=by intro hh;rw[hh] at hs;cases hs
  obtain⟨h1,h2⟩:=(x1.fE (by simp)).1 hp;refine jv r (v:=.pointer (some (ad (G.g n).b ((G.g n).o+k*sz+q+off)))) ?_ ?_ (fun m hm=>x2 m hm) hN
  ·simp only[execOp,ho,h2];simp[Ef hc]
  ·exact RA.fz rfl fun _=>⟨h1,by rw[Nat.add_assoc]⟩
 ·rw[e1] at x1;obtain⟨b,o',pe,p1,p2,p3,p4⟩:=(x1.fE (by simp)).1;refine jv r (v:=.pointer (some (ad b (o'+q+off)))) ?_ ?_ (fun m hm=>absurd hm (by simp[aj.ref,ah.ref,ah.hH])) hN
  ·simp only[execOp,ho,p1];simp[Ef hc]
  ·exact RA.fz rfl ⟨b,o',pe,by rw[Nat.add_assoc],p2,p3,p4⟩
 ·rw[e1] at x1 x2;obtain⟨b,o',pe,p1,p2,p3,p4,p5⟩:=(x1.fE (by simp)).1;refine jv r (v:=.pointer (some (ad b (o'+q+off)))) ?_ ?_ (fun m hm=>x2 m hm) hN
  ·simp only[execOp,ho,p1];simp[Ef hc]
  ·exact RA.fz rfl ⟨b,o',pe,by rw[Nat.add_assoc],p2,p3,p4,p5⟩
theorem PS (r:R B E w0 N σ a w G) {x:Operand} {mx:MO} (ho:o.op=.nilCheck x) (hN:∀n,o.dst=some n->n<N) (hx:bT x mx=true)
  (hy:(∃n k sz q,σ.ev mx=.one (.ptr n k sz q)/\(σ.h n).isSome=true)\/(∃xs q,σ.ev mx=.one (.de xs q))\/(∃xs q j n s len,σ.ev mx=.one (.cE xs q j n s len))):
  o.wp P a w (Nx B E w0 N (σ.put o.dst (σ.ev mx))) Q:=by
 obtain⟨x1,x2⟩:=r.ev hx;have hp:∃ad,a.eval x=.pointer (some ad):=by
  rcases hy with⟨n,k,sz,q,e1,hs⟩|⟨xs,q,e1⟩|⟨xs,q,j,n,s',len,e1⟩
  ·rw[e1] at x1;have hp:σ.h n≠none:=by intro hh;rw[hh] at hs;cases hs
   exact⟨_,((x1.fE (by simp)).1 hp).2⟩
  ·rw[e1] at x1;obtain⟨b,o',pe,p1,_⟩:=(x1.fE (by simp)).1;exact⟨_,p1⟩
  ·rw[e1] at x1;obtain⟨b,o',pe,p1,_⟩:=(x1.fE (by simp)).1;exact⟨_,p1⟩
 obtain⟨adr,hp⟩:=hp;exact jv r (v:=a.eval x) (by simp only[execOp,ho,hp];simp) x1 x2 hN
theorem aiY (r:R B E w0 N σ a w G) {x:Operand} {mx:MO} {i:Nat} {xs:List (Bool×List ah)} {ag:Bool} {cs:List ah} (ho:o.op=.extract x i) (hN:∀n,o.dst=some n->n<N) (hx:bT x mx=true)
  (h1:σ.ev mx=.bH xs) (h2:xs[i]? =some (ag,cs)) (h3:ag=false->∃c,cs=[c]):o.wp P a w (Nx B E w0 N (σ.put o.dst (ov ag cs))) Q:=by
 obtain⟨x1,x2⟩:=r.ev hx;rw[h1] at x1 x2;obtain⟨vs,e,hl,hv⟩:=x1;have hi:i<vs.length:=by rw[hl];exact(List.getElem?_eq_some_iff.1 h2).1
 have hvi:vs[i]? =some vs[i]:=List.getElem?_eq_getElem hi;have hrv:=hv i _ _ h2 hvi;refine jv r (v:=vs[i]) ?_ ?_ (fun m hm=>?_) hN
 ·simp only[execOp,ho,e];simp[Instr.extract,hi]
 ·cases ag
  ·obtain⟨c,rfl⟩:=h3 rfl;exact .inr hrv
  ·exact hrv
 ·cases ag
  ·obtain⟨c,rfl⟩:=h3 rfl;exact x2 m ⟨_,List.mem_of_getElem? h2,c,by simp,hm⟩
  ·obtain⟨c,hc,hm⟩:=hm;exact x2 m ⟨_,List.mem_of_getElem? h2,c,hc,hm⟩
theorem ai3 (r:R B E w0 N σ a w G) {mx':Bool} {x y:Operand} {mx my:MO} {k k':IntKind} {n m:Int} {ts:Array TypeId} (ho:o.op=.call {callee:=.builtin (if mx'=true then .max else .min),args:=#[x,y],argTypes:=ts})
  (hN:∀n,o.dst=some n->n<N) (hx:bT x mx=true) (hy:bT y my=true) (h1:σ.ev mx=.one (.c (.int k n))) (h2:σ.ev my=.one (.c (.int k' m))):
  o.wp P a w (Nx B E w0 N (σ.put o.dst (.one (.c (.int k (if mx'=true then(if n<m then m else n) else(if m<n then m else n))))))) Q:=by
 obtain⟨x1,_⟩:=r.ev hx;obtain⟨y1,_⟩:=r.ev hy;rw[h1] at x1;rw[h2] at y1;have lA:=x1.DF;have uJ:=y1.DF;refine jv r ?_ (RA.of_int _ _) (fun q hq=>absurd hq sk) hN;cases mx'
 ·simp[execOp,ho,resolve,invoke,builtin,Builtin.min_,lA,uJ,Builtin.min2]
 ·simp[execOp,ho,resolve,invoke,builtin,Builtin.max_,lA,uJ,Builtin.max2]
end
theorem ry {α:Type} {px py:List (List α)} {k j:Nat} {c:α} (h:At (px++py) k j c):(k<px.length/\At px k j c)\/(px.length<=k/\At py (k - px.length) j c):=by
 obtain⟨e,he,hj⟩:=h;rcases Nat.lt_or_ge k px.length with hk|hk
 ·rw[List.getElem?_append_left hk] at he;exact .inl ⟨hk,e,he,hj⟩
 ·rw[List.getElem?_append_right hk] at he;exact .inr ⟨hk,e,he,hj⟩
theorem wY {b:Nat} {px py:List (List PC)} (h:bf b (px++py)):bf b px\/bf b py:=by
 obtain⟨k,j,c,hk,hb⟩:=h;rcases ry hk with⟨_,h1⟩|⟨_,h1⟩
 ·exact .inl ⟨_,_,_,h1,hb⟩
 ·exact .inr ⟨_,_,_,h1,hb⟩
theorem Md {px py:List (List PC)} (h1:iM px) (h2:iM py) (h3:∀b,bf b px->¬bf b py):iM (px++py):=by
 refine⟨fun k j c hk=>?_,fun k j c k' j' c' b hk bJ aF hb aJ=>?_⟩
 ·rcases ry hk with⟨_,h⟩|⟨_,h⟩
  ·exact h1.1 _ _ _ h
  ·exact h2.1 _ _ _ h
 ·rcases ry hk with⟨q,h⟩|⟨q,h⟩<;>rcases ry bJ with⟨q',h'⟩|⟨q',h'⟩
  ·exact h1.2 _ _ _ _ _ _ b h h' aF hb aJ
  ·exact h3 b ⟨_,_,_,h,hb⟩ ⟨_,_,_,h',aJ⟩
  ·exact h3 b ⟨_,_,_,h',aJ⟩ ⟨_,_,_,h,hb⟩
  ·refine h2.2 _ _ _ _ _ _ b h h' (fun e=>aF ?_) hb aJ;injection e with e1 e2;rw[show k=k' by omega,e2]
section
variable {B:Nat} {E:Ex} {w0 w w':World} {G G':Gh} {h h':Nat->Option aq} {used used':Nat->Bool} {tk:List PC} {N:Nat}
variable {P:Program} {o:Oper} {a:Act} {σ σ':St} {Q:Exit->Act->World->Prop}
theorem vd {py:List (List PC)} (hs:eO (py.map fun e=>e.map PC.er)=true) (b:Nat):¬bf b py:=by
 rintro⟨k,j,c,⟨e,he,hj⟩,hb⟩;have h1:e.map PC.er∈py.map fun e=>e.map PC.er:=List.mem_map_of_mem (f:=fun e=>e.map PC.er) (List.mem_of_getElem? he);have h2:=List.all_eq_true.1 hs _ h1;have h3:=List.all_eq_true.1 h2 c.er (List.mem_map_of_mem (List.mem_of_getElem? hj));exact(Sep.g9 (pc:=c) h3).2 b hb
theorem afj {py:List (List PC)} (hs:eO (py.map fun e=>e.map PC.er)=true) (k j:Nat) (c:PC) (hk:At py k j c):pk w c:=by
 obtain⟨e,he,hj⟩:=hk;have h2:=List.all_eq_true.1 hs _ (List.mem_map_of_mem (f:=fun e=>e.map PC.er) (List.mem_of_getElem? he));exact pk.g9 (List.all_eq_true.1 h2 c.er (List.mem_map_of_mem (List.mem_of_getElem? hj)))
structure mg (B:Nat) (E:Ex) (w:World) (G:Gh) (h:Nat->Option aq) (sz:Nat) (m:Mode) (px:List (List PC)):Prop where
 len:∀e∈px,e.length=sz
 ez:∀k j c,At px k j c->Good w c
 mode:Ca B E w G px m
 gn:m≠ .aI->∀n gr m' aH ar,h n=some (.row gr m' aH ar)->m'≠ .aI->∀b,bf b px->¬bf b (G.g n).px
 live:m=.live->∀b,bf b px->∀n,h n≠none->(G.g n).nl=false->b≠(G.g n).b
 nr:m=.live->pn w sz px
theorem mg.WB {m:Mode} {sz:Nat} {px py:List (List PC)} (F:mg B E w G h sz m px) (hl:∀e∈py,e.length=sz) (hg:∀k j c,At py k j c->Good w c) (cg:∀b,¬bf b py) (oN:∀k j c,At py k j c->pk w c):mg B E w G h sz m (px++py):=by
 have fL:∀b,bf b (px++py)->bf b px:=fun b hb=>(wY hb).resolve_right (cg b);refine⟨fun e he=>(List.mem_append.1 he).elim (F.len e) (hl e),fun k j c hk=>?_,?_,fun hm n gr m' aH ar hn bL b hb=>F.gn hm n gr m' aH ar hn bL b (fL b hb),fun hm b hb=>F.live hm b (fL b hb),fun hm k c hk=>(ry hk).elim (fun h=>F.nr hm _ _ h.2) (fun h=>oN _ _ _ h.2)⟩
 ·rcases ry hk with⟨_,h⟩|⟨_,h⟩
  ·exact F.ez _ _ _ h
  ·exact hg _ _ _ h
 ·have jV:iM py:=⟨fun k j c hk=>Sep.wP (fun b hb=>cg b ⟨k,j,c,hk,hb⟩) (hg k j c hk),fun k j c k' j' c' b hk _ _ hb=>absurd ⟨k,j,c,hk,hb⟩ (cg b)⟩;have hm:=F.mode;cases m with
  |aI=>exact fun b hb=>hm b (fL b hb)
  |aO=>exact⟨fun b hb=>hm.1 b (fL b hb),Md hm.2 jV (fun b _=>cg b)⟩
  |live=>exact⟨fun b hb=>hm.1 b (fL b hb),Md hm.2 jV (fun b _=>cg b)⟩
theorem mg.LZ (H:HR B E w G h used []) {n:Nat} {gr:Bool} {m:Mode} {sz:Nat} {xs:List (List C)} (hn:h n=some (.row gr m sz xs)) (F9:m=.live->gr=true):mg B E w G (ax h n none) sz m (G.g n).px:=by
 have hr:=H.row n gr m sz xs hn;have aT:(G.g n).px≠[]->(G.g n).nl=false:=fun aF=>by
  cases hq:(G.g n).nl with
  |false=>rfl
  |true=>exact absurd (hr.nl hq).1 aF
 refine⟨fun e he=>(hr.eI (aT (List.ne_nil_of_mem he))).2.1.1 e he,fun k j c hk=>?_,hr.mode,fun hm q bn m' aH ar hq bL b hb=>?_,fun hm b hb q hq hl=>?_,fun hm=>hr.nr (F9 hm) hm⟩
 ·have aF:(G.g n).px≠[]:=by obtain⟨e,he,_⟩:=hk;exact List.ne_nil_of_mem (List.mem_of_getElem? he)
  exact(hr.eI (aT aF)).2.1.2.2 k j c hk
 ·obtain⟨q1,q2⟩:=nI hq;exact H.gn n q gr m sz xs bn m' aH ar hn q1 hm bL (Ne.symm q2) b hb
 ·subst hm;obtain⟨q1,q2⟩:=vK hq;exact H.live n gr sz xs hn b hb q q1 hl
theorem mg.del {m:Mode} {sz:Nat} {px:List (List PC)} (F:mg B E w G h sz m px) (n:Nat):mg B E w G (ax h n none) sz m px:=
 ⟨F.len,F.ez,F.mode,fun hm q gr m' aH ar hq bL=>F.gn hm q gr m' aH ar (nI hq).1 bL,fun hm b hb q hq=>F.live hm b hb q (vK hq).1,F.nr⟩
theorem mg.VS {m:Mode} {sz:Nat} {px:List (List PC)} (F:mg B E w G h sz m px) (hm:m≠ .live):∀b,bf b px->G.Im b:=by
 intro b hb;have:=F.mode;cases m with
 |aI=>exact this b hb
 |aO=>exact(this.1 b hb).1
 |live=>exact absurd rfl hm
def xz (B:Nat) (E:Ex) (w:World) (G:Gh) (h:Nat->Option aq) (sz:Nat) (m:Mode) (px:List (List PC)) (v:Value):Prop:=
 (∃a,v=.slice a 0 0/\px=[])\/
 ∃b o cap cur e,v=.slice (some (ad b o)) px.length cap/\w.heap[b]? =some (.cells cur e (0,0))/\cur.size=o+cap*sz/\cap<=maxLen/\px.length<=cap/\nD w b o sz px/\
  oB G h b/\(B<=b\/E b)/\(∀b',bf b' px->b'≠b)
theorem xz.del {m:Mode} {sz:Nat} {px:List (List PC)} {v:Value} (L:xz B E w G h sz m px v) (n:Nat):xz B E w G (ax h n none) sz m px v:=by
 rcases L with h1|⟨b,o,cap,cur,e,a1,a2,a3,a4,a5,a6,⟨l1,l2,l3⟩,a8,a9⟩
 ·exact .inl h1
 ·exact .inr ⟨b,o,cap,cur,e,a1,a2,a3,a4,a5,a6,⟨l1,fun q hq=>l2 q (vK hq).1,fun q gr m sz xs hq=>l3 q gr m sz xs (nI hq).1⟩,a8,a9⟩
theorem FJ {px:List (List PC)} {sz:Nat} (hl:∀e∈px,e.length=sz):(px.flatten.map PC.val).length=px.length*sz:=by
 induction px with
 |nil=>simp
 |cons e px ih=>
  have:=ih (fun e he=>hl e (by simp[he]));simp only[List.flatten_cons,List.map_append,List.length_append,List.length_cons,Nat.add_mul,this,List.length_map] at*
  rw[hl e (by simp)];omega
theorem P5 {α:Type} {sz:Nat} (bU:0<sz):∀{px:List (List α)} (_:∀e∈px,e.length=sz) {i:Nat} {c:α},px.flatten[i]? =some c->∃k j,At px k j c/\i=k*sz+j
 |[],_,i,c,hi=>by simp at hi
 |e::px,hl,i,c,hi=>by
  have h0:=hl e (by simp);simp only[List.flatten_cons] at hi;rcases Nat.lt_or_ge i e.length with cj|Ae
  ·rw[List.getElem?_append_left cj] at hi;exact⟨0,i,⟨e,rfl,hi⟩,by omega⟩
  ·rw[List.getElem?_append_right Ae] at hi;obtain⟨k,j,⟨e',he,hj⟩,hk⟩:=P5 bU (px:=px) (fun e he=>hl e (by simp[he])) hi;exact⟨k+1,j,⟨e',by simpa using he,hj⟩,by rw[Nat.add_mul];omega⟩
theorem asD {t ty e e':TypeId} {i:TypeInfo} (ht:P.underlying t=some (.slice e)) (hi:P.info? e=some i)
  (g og y5 UP:Nat) (cur:Array Value) (hg:w.heap[g]? =some (.cells cur e' (0,0)))
  (a:Addr) (m c:Nat) (jZ:List Value) (hl:jZ.length=m*i.size) (yh:∀j u,jZ[j]? =some u->w.cell? (a.add j)=some u) (h1:∀u∈jZ,u.oneCell'=true)
  (Gm:y5+m<=UP) (gA:og+y5*i.size+jZ.length<=cur.size):
  (Builtin.append_ #[t,t] ty #[.slice (some (ad g og)) y5 UP,.slice (some a) m c]).run P w=.ok (.slice (some (ad g og)) (y5+m) UP) (gE w g (og+y5*i.size) jZ cur):=by
 have hf:=run_firstCells_some (P:=P) w i.size m a m c jZ hl yh;have r8:=run_storeCells_at P g (og+y5*i.size) e' jZ 0 cur w hg (by simpa using gA) h1;simp only[Nat.add_zero] at r8;have ha:(ad g og).add (y5*i.size)=⟨g,og+y5*i.size,none⟩:=by rw[ru];simp[ad]
 simp[Builtin.append_,run_underlying ht,sizeOf,typeInfo,hi,Builtin.lenOf,Gm,hf,ha,r8,gE]
theorem adQ (w:World) {t e:TypeId} {i:TypeInfo} {z:Value} {ty:TypeId} {sz by_:Nat} (ht:P.underlying t=some (.slice e)) (hi:P.info? e=some i) (hz:i.zero=some z) (bU:i.size=sz) (fO:0<sz) (nR:i.bytes=by_) (vV:0<by_)
  {m:Mode} {px:List (List PC)} {v:Value} (e7:∀e∈px,e.length=sz) (L:xz B E w G h sz m px v) {jZ:List Value} {k c:Nat} {ya:Option Addr} (aT:jZ.length=k*sz)
  (hy:(ya=none/\k=0)\/∃ay,ya=some ay/\∀(j:Nat) (u:Value),jZ[j]? =some u->w.cell? (ay.add j)=some u) (h1:∀u∈jZ,u.oneCell'=true) (hb:(px.length+k)*by_<=dR):
  (∃a,k=0/\v=.slice a 0 0/\px=[]/\(Builtin.append_ #[t,t] ty #[v,.slice ya k c]).run P w=.ok (.slice a 0 0) w)\/
  (∃b o cap cur e',v=.slice (some (ad b o)) px.length cap/\w.heap[b]? =some (.cells cur e' (0,0))/\cur.size=o+cap*sz/\cap<=maxLen/\px.length+k<=cap/\nD w b o sz px/\oB G h b/\(B<=b\/E b)/\(∀b',bf b' px->b'≠b)/\
   (Builtin.append_ #[t,t] ty #[v,.slice ya k c]).run P w=.ok (.slice (some (ad b o)) (px.length+k) cap) (gE w b (o+px.length*sz) jZ cur))\/
  (∃(cap:Nat) (arr:Array Value),px.length+k<=cap/\cap<=maxLen/\arr.size=cap*z.cells.size+(px.length+k)*sz - (px.length+k)*z.cells.size/\(∀(q:Nat) (u:Value),(px.flatten.map PC.val++jZ)[q]? =some u->arr[q]? =some u)/\
   (Builtin.append_ #[t,t] ty #[v,.slice ya k c]).run P w=.ok (.slice (some (ad w.heap.size 0)) (px.length+k) cap) (w.drew.alloc (.cells arr e))):=by
 have wj:px.length+k<=dR:=Nat.le_trans (Nat.le_mul_of_pos_right _ vV) hb;have iU:(dR:Nat)=140737488355328:=rfl;have QD:∀ii,grownCap w (px.length+k) ii e<=maxLen:=fun ii=>grownCap_le_maxLen w _ ii e (by simp only[maxLen];omega);have hol:=FJ e7;have vU:∀ii,((px.flatten.map PC.val).toArray++jZ.toArray++Builtin.zeroCells z.cells (grownCap w (px.length+k) ii e - (px.length+k))).size=grownCap w (px.length+k) ii e*z.cells.size+(px.length+k)*sz - (px.length+k)*z.cells.size:=by
  intro ii;have Ae:=grownCap_ge w (px.length+k) ii e;have h2:(px.length+k)*z.cells.size<=grownCap w (px.length+k) ii e*z.cells.size:=Nat.mul_le_mul_right _ Ae;simp only[Array.size_append,List.size_toArray,size_zeroCells,hol,aT,Nat.sub_mul,Nat.add_mul] at*
  omega
 have iT:∀ii (q:Nat) (u:Value),(px.flatten.map PC.val++jZ)[q]? =some u->((px.flatten.map PC.val).toArray++jZ.toArray++Builtin.zeroCells z.cells (grownCap w (px.length+k) ii e - (px.length+k)))[q]? =some u:=by
  intro ii q u hq;have Rc:=(List.getElem?_eq_some_iff.1 hq).1;rw[Array.getElem?_append_left (by simp only[Array.size_append,List.size_toArray];simpa using Rc)];simpa using hq
 rcases L with⟨a,rfl,rfl⟩|⟨b,o,cap,cur,e',rfl,a2,a3,a4,a5,a6,a7,a8,a9⟩
 ·by_cases hk:k=0
  ·subst hk;left;have hn:jZ=[]:=List.eq_nil_of_length_eq_zero (by simpa using aT);refine⟨a,rfl,rfl,rfl,?_⟩;cases ya<;>cases a<;>simp[Builtin.append_,run_underlying ht,sizeOf,typeInfo,hi,Builtin.lenOf,Builtin.firstCells,loadCells,loadCellsFrom,storeCells]
  ·rcases hy with⟨_,h0⟩|⟨ay,rfl,yh⟩
   ·exact absurd h0 hk
   right;right;cases a with
   |none=>
    have hr:=run_append_nil (P:=P) w t ty e i z ht hi hz ay k c jZ (by rw[bU];exact aT) yh (by omega) (by simp only[List.length_nil,Nat.zero_add] at wj;omega) (by rw[nR];simp only[List.length_nil,Nat.zero_add] at hb;omega);have h3:=vU 0;have h4:=iT 0;have h5:=QD 0;simp only[List.length_nil,Nat.zero_add,List.flatten_nil,List.map_nil,List.nil_append] at h3 h4 h5⊢;exact⟨grownCap w k 0 e,jZ.toArray++Builtin.zeroCells z.cells (grownCap w k 0 e - k),grownCap_ge w k 0 e,h5,by simpa using h3,fun q u hq=>by simpa using h4 q u hq,hr⟩
   |some a=>
    have hr:=run_append_grow (P:=P) w t ty e i z ht hi hz a 0 0 [] (by simp) (fun q u hq=>by simp at hq) ay k c jZ (by rw[bU];exact aT) yh (by omega) (by simp only[List.length_nil,Nat.zero_add] at wj;omega) (growslice_fits (by simp only[List.length_nil,Nat.zero_add] at wj;omega) (by rw[nR,Nat.zero_add];rw[List.length_nil,Nat.zero_add] at hb;exact hb));have h3:=vU 0;have h4:=iT 0;have h5:=QD 0;simp only[List.length_nil,Nat.zero_add,List.flatten_nil,List.map_nil,List.nil_append] at h3 h4 h5 hr⊢;exact⟨_,_,grownCap_ge w k 0 e,h5,by simpa using h3,fun q u hq=>by simpa using h4 q u hq,hr⟩
 ·by_cases Gm:px.length+k<=cap
  ·right;left;refine⟨b,o,cap,cur,e',rfl,a2,a3,a4,Gm,a6,a7,a8,a9,?_⟩;rcases hy with⟨rfl,rfl⟩|⟨ay,rfl,yh⟩
   ·have hn:jZ=[]:=List.eq_nil_of_length_eq_zero (by simpa using aT);subst hn;have alv:gE w b (o+px.length*sz) [] cur=w:=by
     unfold gE;simp only[List.append_nil,List.length_nil,Nat.add_zero,List.take_append_drop,Array.toArray_toList];exact setRow_self w b cur e' (0,0) a2
    rw[alv];simp[Builtin.append_,run_underlying ht,sizeOf,typeInfo,hi,Builtin.lenOf,Builtin.firstCells,a5,storeCells]
   ·have hr:=asD (P:=P) (w:=w) (ty:=ty) ht hi b o px.length cap cur a2 ay k c jZ (by rw[bU];exact aT) yh h1 Gm (by
     rw[bU,aT,a3,Nat.add_assoc,<-Nat.add_mul];exact Nat.add_le_add_left (Nat.mul_le_mul_right _ Gm) _)
    rw[bU] at hr;exact hr
  ·rcases hy with⟨_,rfl⟩|⟨ay,rfl,yh⟩
   ·omega
   right;right;have hr:=run_append_grow (P:=P) w t ty e i z ht hi hz (ad b o) px.length cap (px.flatten.map PC.val) (by rw[bU];exact hol) (fun q u hq=>by
    rw[List.getElem?_map] at hq;cases hf:px.flatten[q]? with
    |none=>rw[hf] at hq;cases hq
    |some pc=>
     rw[hf] at hq;simp at hq;subst hq;obtain⟨k',j',nV,rfl⟩:=P5 fO e7 hf;rw[ru,<-Nat.add_assoc];exact a6.2.1 k' j' pc nV) ay k c jZ (by rw[bU];exact aT) yh (by omega) (by omega) (growslice_fits (by omega) (by rw[nR];exact hb))
   exact⟨_,_,grownCap_ge w _ _ _,QD _,vU _,iT _,hr⟩
def t9 (w:World) (sz:Nat) (py:List (List PC)) (v:Value):Prop:=
 (∀e∈py,e.length=sz)/\(∀k j c,At py k j c->Good w c)/\
 ∃ya c,v=.slice ya py.length c/\((ya=none/\py.length=0)\/∃ay,ya=some ay/\∀(j:Nat) (u:Value),(py.flatten.map PC.val)[j]? =some u->w.cell? (ay.add j)=some u)
theorem t9.SO {sz:Nat} {ya:Option Addr} {c:Nat} {py:List (List PC)} (hg:Good w (.list sz ya c py)):t9 w sz py (.slice ya py.length c):=by
 cases hg with
 |nil _ _ _ h=>
  refine⟨by simp,by rintro k j c ⟨e,he,_⟩;simp at he,ya,c,rfl,?_⟩;cases ya with
  |none=>exact .inl ⟨rfl,rfl⟩
  |some ay=>exact .inr ⟨ay,rfl,by simp⟩
 |cons _ b o _ _ h1 h2 h3 h4 h5 h6=>
  refine⟨h4,h6,_,c,rfl,.inr ⟨_,rfl,fun j u hj=>?_⟩⟩;rw[List.getElem?_map] at hj;cases hf:py.flatten[j]? with
  |none=>rw[hf] at hj;cases hj
  |some pc=>
   rw[hf] at hj;simp at hj;subst hj;obtain⟨k',j',nV,rfl⟩:=P5 h3 h4 hf;rw[ru,<-Nat.add_assoc];exact h5 k' j' pc nV
theorem R.ahd (r:R B E w0 N σ a w G) {σ2:St} (tg:σ2.env=σ.env) (kH:σ2.used=σ.used) (H:HR B E w G σ2.h σ.used []) (K:bk w G σ.h (fun n=>σ.used n=true) w G σ2.h)
  {n:Nat} {sz by_:Nat} {m m2:Mode} {px py:List (List PC)} {v yv:Value} (hn:σ.used n=false) (fO:0<sz) (F:mg B E w G σ2.h sz m2 (px++py)) (e7:∀e∈px,e.length=sz) (L:xz B E w G σ2.h sz m px v) (Ry:t9 w sz py yv)
  (iC:∀b,bf b py->∀b' o cap,0<cap->v=.slice (some (ad b' o)) px.length cap->oB G σ2.h b'->b≠b')
  {t e:TypeId} {i:TypeInfo} {z:Value} {ty:TypeId} (ht:P.underlying t=some (.slice e)) (hi:P.info? e=some i) (hz:i.zero=some z) (bU:i.size=sz) (nR:i.bytes=by_) (vV:0<by_) (wF:z.cells.size=sz)
  (hb:(px.length+py.length)*by_<=dR):
  ∃u w' G',(Builtin.append_ #[t,t] ty #[v,yv]).run P w=.ok u w'/\
   R B E w0 N {σ2 with h:=ax σ2.h n (some (.row true m2 sz ((px++py).map fun e=>e.map PC.er))),used:=ax σ2.used n true} a w' G'/\
   RA w' G' (ax σ2.h n (some (.row true m2 sz ((px++py).map fun e=>e.map PC.er)))) (.one (.sl n sz 0 (px.length+py.length))) u:=by
 obtain⟨r1,r2,ya,c,rfl,r3⟩:=Ry;have aT:(py.flatten.map PC.val).length=py.length*sz:=FJ r1;have h1:∀u∈py.flatten.map PC.val,u.oneCell'=true:=fun u hu=>by obtain⟨pc,_,rfl⟩:=List.mem_map.1 hu;exact PC.kc pc
 have hB:=r.fr.size;have Gf:(px++py).length=px.length+py.length:=by simp
 have nU:σ2.h n=none:=by
  cases hh:σ2.h n with
  |none=>rfl
  |some b=>have:=H.ji n (by rw[hh];simp);rw[hn] at this;cases this
 have ne:∀q,σ.used q=true->q≠n:=fun q hq e=>by subst e;rw[hn] at hq;cases hq
 have aF:∀q,σ2.h q≠none->q≠n:=fun q hq e=>by subst e;exact hq nU
 rcases adQ (P:=P) w (ty:=ty) ht hi hz bU fO nR vV e7 L aT r3 h1 hb with⟨a0,k0,rfl,rfl,bR⟩|⟨b,ob,cap,cur,e',rfl,b2,b3,b4,b5,b6,b7,b8,b9,bR⟩|⟨cap,arr,c1,c2,c3,c4,bR⟩
 ·
  have hpy:py=[]:=List.eq_nil_of_length_eq_zero k0;subst hpy;refine⟨_,w,⟨G.Im,ax G.g n ⟨true,0,0,0,[],a0⟩⟩,bR,?_,?_⟩
  ·refine r.step (σ':=_) tg (fun q hq=>by show ax σ2.used n true q=true;rw[kH];exact oy n q hq) (bk.trans (u2:=fun n=>σ.used n=true) (fun _ h=>h) K (bk.insert H (blk:=.row true m2 sz []) (p:=⟨true,0,0,0,[],a0⟩) hn (fun _ _=>rfl))) ?_ r.fr;show HR B E w _ (ax σ2.h n (some (.row true m2 sz []))) (ax σ2.used n true) [];rw[kH];have cg:∀b,¬bf b ([]:List (List PC)):=by rintro b ⟨k,j,c,⟨e,he,_⟩,_⟩;simp at he
   refine H.insert (p:=⟨true,0,0,0,[],a0⟩) hn (fun _ _=>rfl) (Nat.le_refl _) (fun h=>by cases h) (fun cs c m hb=>by cases hb) ⟨fO,rfl,fun _=>⟨rfl,fun _=>rfl⟩,(fun h=>by cases h),(fun h=>by cases h),?_,fun _ hm=>by have:=F.nr hm;simpa using this⟩
    (fun gr m sz xs _ _ n' bn m' aH ar _ _ b hb=>absurd hb (cg b)) (fun gr sz xs _ b hb=>absurd hb (cg b)) (fun gr m sz xs _ _ i pc b hi=>by simp at hi)
   have hm:=F.mode;simp only[List.append_nil] at hm;exact hm
  ·refine RA.fz rfl fun _=>.inl ?_;simp[bO]
 ·
  have wk:(ob+px.length*sz)+(py.flatten.map PC.val).length<=cur.size:=by rw[aT,b3,Nat.add_assoc,<-Nat.add_mul];exact Nat.add_le_add_left (Nat.mul_le_mul_right _ b5) _
  let w2:=gE w b (ob+px.length*sz) (py.flatten.map PC.val) cur;have dH:∀x,x≠b->w2.heap[x]? =w.heap[x]? :=fun x hx=>zl x hx;have z8:∀x,G.Im x->x≠b:=fun x hx he=>b7.1 (he▸hx);have pF:∀x,dZ w x->dZ w2 x:=fun x hx=>H7 b2 wk x hx;have Q1:∀x,bf x (px++py)->x≠b:=fun x hx=>(wY hx).elim (b9 x) (fun h=>iC x h b ob cap (by obtain⟨k,j,c,⟨e,he,_⟩,_⟩:=h;have:=(List.getElem?_eq_some_iff.1 he).1;omega) rfl b7);let p:PB:=⟨false,b,ob,cap,px++py,none⟩;have K2:bk w G σ2.h (fun n=>σ.used n=true) w2 ⟨G.Im,ax G.g n p⟩ (ax σ2.h n (some (.row true m2 sz ((px++py).map fun e=>e.map PC.er)))):=by
   refine⟨fun _ h=>h,fun x hx o=>gU (dH x (z8 x hx)) o,fun q hq h0=>?_,fun q gr aH ar hq h0=>?_⟩
   ·rw[cJ _ _ _ _ (ne q hq)] at h0;simp only[cJ _ _ _ _ (ne q hq)];exact⟨h0,trivial,trivial,trivial,trivial,trivial⟩
   ·rw[cJ _ _ _ _ (ne q hq)] at h0;simp only[cJ _ _ _ _ (ne q hq)];exact⟨⟨gr,ar,h0⟩,fun k j pc h1 h2=>⟨pc,h1,rfl,h2⟩⟩
  have akG:b<w.heap.size:=(Array.getElem?_eq_some_iff.1 b2).1;have Hn:HR B E w2 ⟨G.Im,ax G.g n p⟩ (ax σ2.h n (some (.row true m2 sz ((px++py).map fun e=>e.map PC.er)))) (ax σ.used n true) []:=by
   refine H.put (p:=p) (fun x _ hx=>dH x (hx rfl)) (by show w.heap.size<=w2.heap.size;rw[rk];exact Nat.le_refl _) (fun x _ hx=>pF x hx) (fun q hq=>oy n q hq) (bO _ _ _)
    (fun _=>⟨b7.1,b8,by show b<w2.heap.size;rw[rk];exact akG⟩) (fun _ q hq h0 hl=>b7.2.1 q h0 hl) (fun _ q gr aH ar hq h0 x hx he=>b7.2.2 q gr .live aH ar h0 (by have Db:x=b:=he;rw[<-Db];exact hx))
    (fun cs c q hb=>by cases hb) K2 ?_ ?_ ?_ (fun gr m sz xs _ _ i pc b hi=>by simp at hi) (fun _ _ x hx he=>by obtain⟨q,gr,mo,aH,ar,_,h0,hxF⟩:=hx;exact b7.2.2 q gr mo aH ar h0 (by have Db:x=b:=he;rw[<-Db];exact hxF))
   ·refine⟨fO,rfl,(fun h=>by cases h),fun _=>⟨pF b ⟨cur,e',b2⟩,⟨F.len,fun k j c hk=>?_,fun k j c hk=>?_⟩,by show(px++py).length<=cap;rw[Gf];exact b5⟩,fun _ _=>?_,?_,fun _ hm=>(F.nr hm).congr fun x hx=>dH x (Q1 x hx)⟩
    ·show w2.cell? (ad b (ob+k*sz+j))=some c.val;rw[zk b2 wk];have hf:=sR F.len hk;rw[List.flatten_append] at hf;have lO:px.flatten.length=px.length*sz:=by have:=FJ e7;rwa[List.length_map] at this
     rcases ry hk with⟨nh,bJ⟩|⟨nh,bJ⟩
     ·rw[if_neg ?_]
      ·exact b6.2.1 k j c bJ
      ·rintro⟨q1,_⟩;have hj:j<sz:=by obtain⟨e1,he,hj⟩:=bJ;rw[<-e7 e1 (List.mem_of_getElem? he)];exact(List.getElem?_eq_some_iff.1 hj).1
       have:(k+1)*sz<=px.length*sz:=Nat.mul_le_mul_right _ nh;rw[Nat.add_mul] at this;omega
     ·have Ae:px.length*sz<=k*sz+j:=Nat.le_trans (Nat.mul_le_mul_right _ nh) (Nat.le_add_right _ _);have cj:=(List.getElem?_eq_some_iff.1 hf).1;rw[List.length_append,lO] at cj;rw[List.getElem?_append_right (by rw[lO];exact Ae),lO] at hf;rw[if_pos ⟨by omega,by simp only[List.length_map];omega⟩];rw[List.getElem?_map,show ob+k*sz+j - (ob+px.length*sz)=k*sz+j - px.length*sz by omega,hf];rfl
    ·exact(F.ez k j c hk).congr fun x hx o=>gU (dH x (Q1 x ⟨k,j,c,hk,hx⟩)) o
    ·obtain⟨ju,q1,q2⟩:=EL (vs:=py.flatten.map PC.val) (o:=ob+px.length*sz) b2 wk;exact⟨b4,ju,e',q1,by rw[q2,b3]⟩
    ·have hm:=F.mode;cases m2 with
     |aI=>exact hm
     |aO=>exact⟨fun x hx=>⟨(hm.1 x hx).1,pF x (hm.1 x hx).2.1,(hm.1 x hx).2.2⟩,hm.2⟩
     |live=>exact⟨fun x hx=>⟨(hm.1 x hx).1,pF x (hm.1 x hx).2.1,(hm.1 x hx).2.2⟩,hm.2⟩
   ·intro gr m' aH ar hb iU q bn mo jc gx gJ h0 ic x hx;injection hb with _ hb _ _;subst hb;exact F.gn iU q bn mo jc gx h0 ic x hx
   ·intro gr aH ar hb x hx;injection hb with _ hb _ _;exact⟨fun _=>Q1 x hx,fun q _ h0 hl=>F.live hb x hx q h0 hl⟩
  refine⟨_,w2,⟨G.Im,ax G.g n p⟩,bR,?_,?_⟩
  ·exact r.step (σ':=_) tg (fun q hq=>by show ax σ2.used n true q=true;rw[kH];exact oy n q hq) (bk.trans (u2:=fun n=>σ.used n=true) (fun _ h=>h) K K2)
    (by show HR B E w2 _ _ (ax σ2.used n true) [];rw[kH];exact Hn) (r.fr.one b8 (fun x hx Dp=>dH x Dp) (by show w.heap.size<=w2.heap.size;rw[rk];exact Nat.le_refl _) (BB b2 wk) rfl rfl rfl)
  ·refine RA.fz rfl fun _=>.inr ⟨by simp[bO,p],some (ad b ob),?_,?_,?_⟩
   ·simp[bO,p]
   ·simp[bO,p];exact b5
   ·simp[bO,p]
 ·
  let w1:=w.drew;have hd:∀x:Nat,x<w.heap.size->(w.drew.alloc (.cells arr e)).heap[x]? =w.heap[x]? :=fun x hx=>heap_alloc_old w.drew _ x hx;have H1:HR B E w.drew G σ2.h σ.used []:=H.grow (w':=w.drew) (fun _ _=>rfl) (Nat.le_refl _);have r1:R B E w0 N σ a w.drew G:=r.step (w':=w.drew) rfl (fun _ h=>h) (bk.world (w:=w) (w':=w.drew) (fun _ _=>rfl) _) (r.hr.grow (w':=w.drew) (fun _ _=>rfl) (Nat.le_refl _)) (r.fr.grow (w':=w.drew) (fun _ _=>rfl) (Nat.le_refl _) rfl rfl rfl);have K1:bk w.drew G σ.h (fun n=>σ.used n=true) w.drew G σ2.h:=⟨K.im,fun _ _ _=>rfl,K.name,K.live⟩;have fW:∀k j c,At (px++py) k j c->Good w.drew c:=fun k j c hk=>(F.ez k j c hk).congr fun _ _ _=>rfl;have vU:∀k j c,At (px++py) k j c->arr[k*sz+j]? =some c.val:=fun k j c hk=>by
   have hf:=sR F.len hk;refine c4 _ _ ?_;rw[<-List.map_append,<-List.flatten_append,List.getElem?_map,hf];rfl
  have mH:arr.size=cap*sz:=by rw[c3,wF];omega
  have hB2:=r1.fr.size;let p:PB:=⟨false,w.heap.size,0,cap,px++py,none⟩;have hw:∀x:Nat,x<w.drew.heap.size->(w.drew.alloc (.cells arr e)).heap[x]? =w.drew.heap[x]? :=hd;have Hn:HR B E (w.drew.alloc (.cells arr e)) ⟨G.Im,ax G.g n p⟩ (ax σ2.h n (some (.row true m2 sz ((px++py).map fun e=>e.map PC.er)))) (ax σ.used n true) []:=by
   refine H1.insert (p:=p) hn hw (by simp) (fun _=>⟨H1.LB,.inl hB,by simp[p]⟩) (fun cs c m hb=>by cases hb) ?_ ?_ ?_ (fun gr m sz xs _ _ i pc b hi=>by simp at hi)
   ·refine⟨fO,rfl,(fun h=>by cases h),fun _=>⟨dZ.alloc _ _ _,⟨F.len,fun k j c hk=>?_,fun k j c hk=>?_⟩,by show(px++py).length<=cap;rw[Gf];exact c1⟩,fun _ _=>⟨c2,arr,e,heap_alloc_new w.drew _,(Nat.zero_add _).symm▸mH⟩,?_,fun _ hm=>(F.nr hm).congr fun x hx=>by
     obtain⟨k,j,c,hk,Rr⟩:=hx;exact hd x ((F.ez k j c hk).lt Rr)⟩
    ·show(w.drew.alloc (.cells arr e)).cell? (ad w.drew.heap.size (0+k*sz+j))=some c.val;simp only[Nat.zero_add];unfold ad;rw[World.cell?_alloc_new];exact vU k j c hk
    ·exact(fW k j c hk).congr fun x hx o=>gU (hw x ((fW k j c hk).lt hx)) o
    ·have hm:=F.mode;have hu:∀x,dZ w x->dZ (w.drew.alloc (.cells arr e)) x:=fun x hx=>hx.congr (hd x hx.lt);cases m2 with
     |aI=>exact hm
     |aO=>exact⟨fun x hx=>⟨(hm.1 x hx).1,hu x (hm.1 x hx).2.1,(hm.1 x hx).2.2⟩,hm.2⟩
     |live=>exact⟨fun x hx=>⟨(hm.1 x hx).1,hu x (hm.1 x hx).2.1,(hm.1 x hx).2.2⟩,hm.2⟩
   ·intro gr m' aH ar hb iU q bn mo jc gx h0 ic x hx;injection hb with _ hb _ _;subst hb;exact F.gn iU q bn mo jc gx h0 ic x hx
   ·intro gr aH ar hb x hx;injection hb with _ hb _ _;refine⟨fun _=>?_,fun q h0 hl=>F.live hb x hx q h0 hl⟩;obtain⟨k,j,c,hk,Rr⟩:=hx;have:=(F.ez k j c hk).lt Rr;show x≠w.heap.size;omega
  refine⟨_,_,⟨G.Im,ax G.g n p⟩,bR,?_,?_⟩
  ·exact r1.step (σ':=_) tg (fun q hq=>by show ax σ2.used n true q=true;rw[kH];exact oy n q hq) (bk.trans (u2:=fun n=>σ.used n=true) (fun _ h=>h) K1 (bk.insert H1 hn hw))
    (by show HR B E _ _ _ (ax σ2.used n true) [];rw[kH];exact Hn) (r1.fr.grow hw (by simp) rfl rfl rfl)
  ·refine RA.fz rfl fun _=>.inr ⟨by simp[bO,p],some (ad w.heap.size 0),?_,?_,?_⟩
   ·simp[bO,p]
   ·simp[bO,p];exact c1
   ·simp[bO,p]
theorem anF (r:R B E w0 N σ a w G) {sz:Nat} {x:aj} {v:Value} {xs:List (List C)} {m:Mode} {σ1:St} (hv:RA w G σ.h x v) (hx:rv σ sz x=some (xs,m,σ1)):
  ∃px:List (List PC),xs=px.map (fun e=>e.map PC.er)/\mg B E w G σ1.h sz m px/\xz B E w G σ1.h sz m px v/\HR B E w G σ1.h σ.used []/\bk w G σ.h (fun n=>σ.used n=true) w G σ1.h/\σ1.env=σ.env/\σ1.used=σ.used/\
   (∀n b,σ1.h n=some b->σ.h n=some b):=by
 unfold rv at hx;split at hx
 ·rename_i s;injection hx with hx;injection hx with h1 h2;injection h2 with h2 h3;subst h1 h2 h3;have gh:v=.slice none 0 0:=(hv.fE (by simp)).1;have cg:∀b,¬bf b ([]:List (List PC)):=by rintro b ⟨k,j,c,⟨e,he,_⟩,_⟩;simp at he
  exact⟨[],rfl,⟨by simp,by rintro k j c ⟨e,he,_⟩;simp at he,⟨fun b hb=>absurd hb (cg b),(by rintro k j c ⟨e,he,_⟩;simp at he),(by rintro k j c k' j' c' b ⟨e,he,_⟩;simp at he)⟩,fun _ _ _ _ _ _ _ _ b hb=>absurd hb (cg b),fun _ b hb=>absurd hb (cg b),fun h=>by cases h⟩,
   .inl ⟨none,gh,rfl⟩,r.hr,bk.refl _ _ _ _,rfl,rfl,fun _ _ h=>h⟩
 ·rename_i n s len;split at hx
  ·rename_i m0 rs jp hn;split at hx
   ·rename_i hc;obtain⟨rfl,rfl,rfl⟩:=hc;injection hx with hx;injection hx with h1 h2;injection h2 with h2 h3;subst h1 h2 h3;have H:=r.hr;have bK:σ.h n≠none:=by rw[hn];simp
    have hr:=H.row n true m0 s jp hn;have iF:gM (G.g n) s 0 jp.length v:=(hv.fE (by simp)).1 bK;have qH:jp.length=(G.g n).px.length:=by rw[hr.er];simp
    refine⟨(G.g n).px,hr.er,mg.LZ H hn (fun _=>rfl),?_,H.del n,bk.del n _,rfl,rfl,fun q b hq=>(nI hq).1⟩;rcases iF with⟨aT,gh,_,_⟩|⟨aT,a',gh,gF,ha⟩
    ·have g2:=(hr.nl aT).2 rfl;exact .inl ⟨(G.g n).na,by rw[gh,g2],(hr.nl aT).1⟩
    ·right;obtain⟨r2,cur,e,r3,r4⟩:=hr.room aT rfl;obtain⟨l1,l2,l3⟩:=hr.eI aT;obtain⟨o1,o2,o3⟩:=H.own n bK aT;have rQ:=ha (.inr rfl);refine⟨(G.g n).b,(G.g n).o,(G.g n).cap,cur,e,?_,r3,r4,r2,l3,l2,⟨o1,fun q hq hl=>?_,fun q gr m' aH ar hq hb=>?_⟩,o2,fun b hb=>H.qp bK aT hn hb⟩
     ·rw[gh,rQ,qH];simp
     ·obtain⟨q1,q2⟩:=vK hq;exact H.inj q n q1 bK q2 hl aT
     ·exact H.qp bK aT (nI hq).1 hb rfl
   ·cases hx
  ·cases hx
 ·cases hx
theorem asq {fl:Bool} {sz:Nat} {x:aj} {v:Value} {ys:List (List C)} {m m2:Mode} {σ1 σ2:St} {px:List (List PC)} (fO:0<sz) (H:HR B E w G σ1.h σ1.used []) (F:mg B E w G σ1.h sz m px) (hv:RA w G σ1.h x v)
  (hx:mq fl σ1 sz m x=some (ys,m2,σ2)):
  ∃py:List (List PC),ys=py.map (fun e=>e.map PC.er)/\t9 w sz py v/\mg B E w G σ2.h sz m2 (px++py)/\HR B E w G σ2.h σ1.used []/\bk w G σ1.h (fun n=>σ1.used n=true) w G σ2.h/\σ2.env=σ1.env/\σ2.used=σ1.used/\
   (∀n b,σ2.h n=some b->σ1.h n=some b)/\(∀b,bf b py->∀b',¬G.Im b'->(∀q gr mo aH ar,σ1.h q=some (.row gr mo aH ar)->¬bf b' (G.g q).px)->b≠b'):=by
 unfold mq at hx;have ald:∀b,¬bf b ([]:List (List PC)):=by rintro b ⟨k,j,c,⟨e,he,_⟩,_⟩;simp at he
 split at hx
 ·rename_i s;injection hx with hx;injection hx with h1 h2;injection h2 with h2 h3;subst h1 h2 h3;have gh:v=.slice none 0 0:=(hv.fE (by simp)).1;subst gh;exact⟨[],rfl,⟨by simp,by rintro k j c ⟨e,he,_⟩;simp at he,none,0,rfl,.inl ⟨rfl,rfl⟩⟩,by simpa using F,H,bk.refl _ _ _ _,rfl,rfl,fun _ _ h=>h,fun b hb=>absurd hb (ald b)⟩
 ·rename_i s xj;split at hx
  ·rename_i hs;subst hs;obtain⟨pc,e1,e2,e3,e4⟩:=hv.c;have bg:∃ya c py,pc=.list s ya c py/\py.map (fun e=>e.map PC.er)=xj:=by
    cases pc with
    |int k n=>simp[PC.er] at e1
    |bool b=>simp[PC.er] at e1
    |list s' ya c py=>rw[PC.d9] at e1;injection e1 with e1 e5;subst e1;exact⟨ya,c,py,rfl,e5⟩
   obtain⟨ya,c,py,rfl,e5⟩:=bg;have hR:t9 w s py v:=by rw[<-e2];exact t9.SO e3
   have mE:∀b,bf b py->G.Im b:=fun b ⟨k,j,c,hk,hb⟩=>e4 b (.there _ _ _ _ k j c hk hb);have nT:∀b,bf b py->∀b',¬G.Im b'->(∀q gr mo aH ar,σ1.h q=some (.row gr mo aH ar)->¬bf b' (G.g q).px)->b≠b':=fun b hb b' aJ _ he=>aJ (he▸mE b hb);split at hx
   ·rename_i iV;injection hx with hx;injection hx with h1 h2;injection h2 with h2 h3;subst h1 h2 h3
    replace iV:=(Bool.and_eq_true _ _▸iV).2
    rw[<-e5] at iV;exact⟨py,e5.symm,hR,F.WB hR.1 hR.2.1 (vd iV) (afj iV),H,bk.refl _ _ _ _,rfl,rfl,fun _ _ h=>h,nT⟩
   ·split at hx
    ·cases hx
    ·rename_i rV;injection hx with hx;injection hx with h1 h2;injection h2 with h2 h3;subst h1 h2 h3;refine⟨py,e5.symm,hR,⟨fun e he=>(List.mem_append.1 he).elim (F.len e) (hR.1 e),fun k j c hk=>?_,fun b hb=>(wY hb).elim (F.VS rV b) (mE b),fun h=>absurd rfl h,(fun h=>by cases h),fun h=>by cases h⟩,H,bk.refl _ _ _ _,rfl,rfl,fun _ _ h=>h,nT⟩;rcases ry hk with⟨_,h⟩|⟨_,h⟩
     ·exact F.ez _ _ _ h
     ·exact hR.2.1 _ _ _ h
  ·cases hx
 ·rename_i n s lo len;split at hx
  ·rename_i gr m' rs xj hn;split at hx
   ·rename_i hc;obtain⟨rfl,rfl,hl⟩:=hc;have bK:σ1.h n≠none:=by rw[hn];simp
    have hr:=H.row n gr m' s xj hn;have iF:gM (G.g n) s lo len v:=(hv.fE (by simp)).1 bK;obtain⟨q1,q2,q3,q4⟩:=Em hr iF hl;have F6:∃ya c,jK (G.g n) s lo len v=.list s ya c (((G.g n).px.drop lo).take len):=by
     rcases iF with⟨_,rfl,_,_⟩|⟨_,a',rfl,_,_⟩<;>exact⟨_,_,rfl⟩
    obtain⟨ya,c,F6⟩:=F6;rw[F6] at q1 q2 q3 q4;have hR:t9 w s (((G.g n).px.drop lo).take len) v:=by rw[<-q2];exact t9.SO q3
    have pG:(xj.drop lo).take len=(((G.g n).px.drop lo).take len).map (fun e=>e.map PC.er):=by rw[PC.d9] at q1;injection q1 with _ q1;exact q1.symm
    have nT:∀b,bf b (((G.g n).px.drop lo).take len)->∀b',¬G.Im b'->(∀q gr mo aH ar,σ1.h q=some (.row gr mo aH ar)->¬bf b' (G.g q).px)->b≠b':=by
     rintro b ⟨k,j,c,hk,hb⟩ b' _ aJ rfl;exact aJ n gr m' s xj hn ⟨_,_,_,(qj hk).1,hb⟩
    split at hx
    ·rename_i iV;injection hx with hx;injection hx with h1 h2;injection h2 with h2 h3;subst h1 h2 h3;have Ar:=(Bool.and_eq_true _ _▸iV).2;rw[pG] at Ar;exact⟨_,pG,hR,F.WB hR.1 hR.2.1 (vd Ar) (afj Ar),H,bk.refl _ _ _ _,rfl,rfl,fun _ _ h=>h,nT⟩
    ·split at hx
     ·rename_i akU;obtain⟨rfl,rfl⟩:=akU;have fC:((G.g n).px.drop 0).take xj.length=(G.g n).px:=by
       have:xj.length=(G.g n).px.length:=by rw[hr.er];simp
       rw[this];simp
      rw[fC] at hR nT;have F1:=F.del n;have fW:∀k j c,At (px++(G.g n).px) k j c->Good w c:=fun k j c hk=>by
       rcases ry hk with⟨_,h⟩|⟨_,h⟩
       ·exact F.ez _ _ _ h
       ·exact hR.2.1 _ _ _ h
      have hlen:∀e∈px++(G.g n).px,e.length=s:=fun e he=>(List.mem_append.1 he).elim (F.len e) (hR.1 e);split at hx
      ·rename_i dU;obtain⟨dU,F9⟩:=dU;subst dU;have F2:=mg.LZ H hn F9;injection hx with hx;injection hx with h1 h2;injection h2 with h2 h3;subst h1 h2 h3;refine⟨(G.g n).px,hr.er,hR,⟨hlen,fW,?_,fun hm q bn mo aH ar hq ic b hb=>?_,fun hm b hb q hq hl=>?_,fun hm k c hk=>(ry hk).elim (fun h=>F.nr hm _ _ h.2) (fun h=>F2.nr hm _ _ h.2)⟩,H.del n,bk.del n _,rfl,rfl,fun q b hq=>(nI hq).1,nT⟩
       ·have m1:=F.mode;have m3:=F2.mode;cases m with
        |aI=>exact fun b hb=>(wY hb).elim (m1 b) (m3 b)
        |aO=>exact⟨fun b hb=>(wY hb).elim (m1.1 b) (m3.1 b),Md m1.2 m3.2 (fun b hb=>F.gn (by simp) n gr .aO s xj hn (by simp) b hb)⟩
        |live=>exact⟨fun b hb=>(wY hb).elim (m1.1 b) (m3.1 b),Md m1.2 m3.2 (fun b hb=>F.gn (by simp) n gr .live s xj hn (by simp) b hb)⟩
       ·exact(wY hb).elim (F1.gn hm q bn mo aH ar hq ic b) (F2.gn hm q bn mo aH ar hq ic b)
       ·exact(wY hb).elim (fun h=>F1.live hm b h q hq hl) (fun h=>F2.live hm b h q hq hl)
      ·split at hx
       ·cases hx
       ·rename_i aT;have F2:=mg.LZ H hn (fun h=>absurd (.inr h) aT);injection hx with hx;injection hx with h1 h2;injection h2 with h2 h3;subst h1 h2 h3;refine⟨(G.g n).px,hr.er,hR,⟨hlen,fW,fun b hb=>(wY hb).elim (F.VS (fun h=>aT (.inl h)) b) (F2.VS (fun h=>aT (.inr h)) b),fun h=>absurd rfl h,(fun h=>by cases h),fun h=>by cases h⟩,H.del n,bk.del n _,rfl,rfl,fun q b hq=>(nI hq).1,nT⟩
     ·cases hx
   ·cases hx
  ·cases hx
 ·cases hx
theorem aiB (r:R B E w0 N σ a w G) {n:Nat} {t e:TypeId} {i:TypeInfo} {z:Value} {x y:Operand} {mx my:MO} {fl:Bool} {sz by_:Nat} {xs ys:List (List C)} {m m2:Mode} {σ1 σ2 gK:St}
  (ho:o.op=.call {callee:=.builtin .append,args:=#[x,y],argTypes:=#[t,t]}) (hd:o.dst=some n) (hN:n<N) (fM:bT x mx=true) (gR:bT y my=true)
  (ht:P.underlying t=some (.slice e)) (hi:P.info? e=some i) (hz:i.zero=some z) (bU:i.size=sz) (fO:0<sz) (nR:i.bytes=by_) (vV:0<by_) (wF:z.cells.size=sz)
  (hl:rv σ sz (σ.ev mx)=some (xs,m,σ1)) (hr:mq fl σ1 sz m (σ.ev my)=some (ys,m2,σ2)) (hb:(xs.length+ys.length)*by_<=dR)
  (hx:σ2.ins n (.row true m2 sz (xs++ys))=some gK):
  o.wp P a w (Nx B E w0 N (gK.put o.dst (.one (.sl n sz 0 (xs.length+ys.length))))) Q:=by
 obtain⟨hn,rfl⟩:=ko hx;obtain⟨x1,x2⟩:=r.ev fM;obtain⟨y1,y2⟩:=r.ev gR;obtain⟨px,e1,F1,L1,H1,K1,q1,q2,q3⟩:=anF r x1 hl;have y1':RA w G σ1.h (σ.ev my) (a.eval y):=y1.fP K1 y2;rw[<-q2] at H1;obtain⟨py,e2,R2,F2,H2,K2,p1,p2,p3,nT⟩:=asq fO H1 F1 y1' hr;rw[q2] at H2;have qH:xs.length=px.length:=by rw[e1];simp
 have Ds:ys.length=py.length:=by rw[e2];simp
 have L2:xz B E w G σ2.h sz m px (a.eval x):=by
  rcases L1 with h|⟨b,o,cap,cur,e',b1,b2,b3,b4,b5,b6,⟨l1,l2,l3⟩,b8,b9⟩
  ·exact .inl h
  ·refine .inr ⟨b,o,cap,cur,e',b1,b2,b3,b4,b5,b6,⟨l1,fun q hq=>?_,fun q gr mo aH ar hq=>l3 q gr mo aH ar (p3 q _ hq)⟩,b8,b9⟩;cases hh:σ2.h q with
   |none=>exact absurd hh hq
   |some bb=>exact l2 q (by rw[p3 q bb hh];simp)
 obtain⟨u,w',G',bR,r',hv⟩:=r.ahd (P:=P) (σ2:=σ2) (n:=n) (m:=m) (m2:=m2) (px:=px) (py:=py) (ty:=o.type) (p1.trans q1) (p2.trans q2) H2 (bk.trans (u2:=fun n=>σ1.used n=true) (fun q hq=>by rw[q2];exact hq) K1 K2)
  (by rw[<-q2,<-p2];exact hn) fO F2 F1.len L2 R2 (fun b cN b' o' cap dG wC aad=>by
   rcases L1 with⟨_,h,_⟩|⟨b0,o0,xI,cur,e',b1,b2,b3,b4,b5,b6,⟨l1,l2,l3⟩,b8,b9⟩
   ·rw[h] at wC;injection wC with _ _ wC;omega
   ·rw[b1] at wC;injection wC with wC;injection wC with wC;have C8:=(lf wC).1;subst C8;exact nT b cN b0 l1 l3) ht hi hz bU nR vV wF (by rw[<-qH,<-Ds];exact hb)
 have Q0:(px++py).map (fun e=>e.map PC.er)=xs++ys:=by rw[List.map_append,<-e1,<-e2]
 rw[Q0] at r' hv;rw[<-qH,<-Ds] at hv;refine pj (v:=u) (w':=w') ?_ ⟨G',r'.put hv (fun q hq=>by have eV:q=n:=hq;subst eV;exact bO _ _ _) (fun q hq=>by rw[hd] at hq;injection hq with hq;omega)⟩
 simp[execOp,ho,resolve,invoke,builtin,bR]
end
section
variable {B:Nat} {E:Ex} {w0 w w':World} {G G':Gh} {h h':Nat->Option aq} {used used':Nat->Bool} {tk:List PC} {N:Nat}
variable {P:Program} {o:Oper} {a:Act} {σ σ':St} {Q:Exit->Act->World->Prop}
theorem Li {n:Nat} (hs:(h n).isSome=true):h n≠none:=by intro hh;rw[hh] at hs;cases hs
theorem Eg {t e:TypeId} {i:TypeInfo} {sz b off len cap:Nat} {kk:IntKind} {q:Int} (ht:P.underlying t=some (.slice e)) (hi:P.info? e=some i) (bU:i.size=sz) (h0:0<=q) (h1:q<len):
  (Instr.indexAt t (.slice (some (ad b off)) len cap) (.int kk q)).run P w=.ok (.pointer (some (ad b (off+q.toNat*sz)))) w:=by
 simp[Instr.indexAt,run_underlying ht,asIntOf,h0,h1,sizeOf,typeInfo,hi,bU,ru]
theorem XX (r:R B E w0 N σ a w G) {t e:TypeId} {i:TypeInfo} {x y:Operand} {mx my:MO} {sz:Nat} {q:Int} {z:aj} (ho:o.op=.indexAddr t x y) (hN:∀n,o.dst=some n->n<N) (fM:bT x mx=true) (gR:bT y my=true)
  (ht:P.underlying t=some (.slice e)) (hi:P.info? e=some i) (bU:i.size=sz) (hq:(σ.ev my).dV=some q) (h0:0<=q)
  (hz:(∃n lo len,σ.ev mx=.one (.sl n sz lo len)/\q<(len:Int)/\(σ.h n).isSome=true/\z=.one (.ptr n (lo+q.toNat) sz 0))\/(∃xs el,σ.ev mx=.one (.c (.list sz xs))/\xs[q.toNat]? =some el/\z=.one (.de el 0))):
  o.wp P a w (Nx B E w0 N (σ.put o.dst z)) Q:=by
 obtain⟨x1,x2⟩:=r.ev fM;obtain⟨kk,ey⟩:=(r.ev gR).1.int hq;rcases hz with⟨n,lo,len,e1,h1,hs,rfl⟩|⟨xs,el,e1,h1,rfl⟩
 ·rw[e1] at x1 x2;have iF:gM (G.g n) sz lo len (a.eval x):=(x1.fE (by simp)).1 (Li hs);rcases iF with⟨_,_,_,hl⟩|⟨aT,a',hv,gF,ha⟩
  ·omega
  ·have rQ:=ha (.inl (by omega));subst rQ;refine jv r (v:=.pointer (some (ad (G.g n).b ((G.g n).o+lo*sz+q.toNat*sz)))) ?_ ?_ (fun m hm=>x2 m hm) hN
   ·simp only[execOp,ho,hv,ey];simp[Eg ht hi bU h0 h1]
   ·exact RA.fz rfl fun _=>⟨aT,by rw[Nat.add_mul];congr 3;omega⟩
 ·rw[e1] at x1;obtain⟨pc,p1,p2,p3,p4⟩:=x1.c;cases pc with
  |int k n=>simp[PC.er] at p1
  |bool b=>simp[PC.er] at p1
  |list s' ya c py=>
   rw[PC.d9] at p1;injection p1 with p0 p1;subst p0;have jC:∃pe,py[q.toNat]? =some pe/\pe.map PC.er=el:=by
    rw[<-p1,List.getElem?_map] at h1;cases hp:py[q.toNat]? with
    |none=>rw[hp] at h1;cases h1
    |some pe=>rw[hp] at h1;simp at h1;exact⟨pe,rfl,h1⟩
   obtain⟨pe,lP,lz⟩:=jC;have cj:q.toNat<py.length:=(List.getElem?_eq_some_iff.1 lP).1;cases p3 with
   |nil _ _ _ _=>simp at cj
   |cons _ b oo _ _ g1 g2 g3 g4 g5 g6=>
    have eV:q<(py.length:Int):=by omega
    refine jv r (v:=.pointer (some (ad b (oo+q.toNat*s')))) ?_ ?_ (fun m hm=>absurd hm (by simp[aj.ref,ah.ref,ah.hH])) hN
    ·simp only[execOp,ho,<-p2,PC.val,ey];simp[Eg ht hi bU h0 eV]
    ·refine RA.fz rfl ⟨b,oo+q.toNat*s',pe,by simp,lz,p4 b (.here _ _ _ _ g1),fun j c hj=>?_⟩;exact⟨g5 _ _ _ ⟨pe,lP,hj⟩,g6 _ _ _ ⟨pe,lP,hj⟩,fun b' aJ=>p4 b' (.there _ _ _ _ _ _ c ⟨pe,lP,hj⟩ aJ)⟩
theorem Kl (r:R B E w0 N σ a w G) {t e:TypeId} {x:Operand} {mx:MO} {len:Nat} (ho:o.op=.call {callee:=.builtin .len,args:=#[x],argTypes:=#[t]}) (hN:∀n,o.dst=some n->n<N) (hm:bT x mx=true)
  (ht:P.underlying t=some (.slice e))
  (hz:(∃n sz lo,σ.ev mx=.one (.sl n sz lo len)/\(σ.h n).isSome=true)\/(∃sz xs,σ.ev mx=.one (.c (.list sz xs))/\len=xs.length)\/(∃sz,σ.ev mx=.one (.nil sz)/\len=0)\/
   (∃n k aB off sz l s ys,σ.ev mx=.one (.bw n k aB off sz l)/\cO σ.h (.bw n k aB off sz l)=some (.list s ys)/\len=ys.length)):
  o.wp P a w (Nx B E w0 N (σ.put o.dst (.one (.c (.int .i64 len))))) Q:=by
 obtain⟨x1,x2⟩:=r.ev hm;have hv:∃a' c,a.eval x=.slice a' len c:=by
  rcases hz with⟨n,sz,lo,e1,hs⟩|⟨sz,xs,e1,rfl⟩|⟨sz,e1,rfl⟩|⟨n,k,aB,off,sz,l,s,ys,e1,Gr,rfl⟩
  ·rw[e1] at x1;have iF:gM (G.g n) sz lo len (a.eval x):=(x1.fE (by simp)).1 (Li hs);rcases iF with⟨_,hv,_,rfl⟩|⟨_,a',hv,_,_⟩
   ·exact⟨_,_,hv⟩
   ·exact⟨_,_,hv⟩
  ·rw[e1] at x1;obtain⟨pc,p1,p2,_⟩:=x1.c;cases pc with
   |int k n=>simp[PC.er] at p1
   |bool b=>simp[PC.er] at p1
   |list s' ya c py=>
    rw[PC.d9] at p1;injection p1 with _ p1;refine⟨ya,c,?_⟩;rw[<-p2,<-p1];simp[PC.val]
  ·rw[e1] at x1;have gh:a.eval x=.slice none 0 0:=(x1.fE (by simp)).1;exact⟨_,_,gh⟩
  ·rw[e1] at x1;obtain⟨pc,p1,p2,_⟩:=r.hr.cO Gr (x1.fE (by simp)).1;cases pc with
   |int k n=>simp[PC.er] at p1
   |bool b=>simp[PC.er] at p1
   |list s' ya c py=>
    rw[PC.d9] at p1;injection p1 with _ p1;refine⟨ya,c,?_⟩;rw[<-p2,<-p1];simp[PC.val]
 obtain⟨a',c,hv⟩:=hv;refine jv r (v:=.int .i64 len) ?_ (RA.of_int _ _) (fun q hq=>absurd hq sk) hN;simp[execOp,ho,resolve,invoke,builtin,hv,Builtin.len_,run_underlying ht,goInt]
theorem Ho {t e:TypeId} {i:TypeInfo} {sz:Nat} {ya:Option Addr} {len cap:Nat} {lo hi':Option Value} {l hh:Int} (ht:P.underlying t=some (.slice e)) (hi:P.info? e=some i) (bU:i.size=sz)
  (qz:(lo=none/\l=0)\/∃k,lo=some (.int k l)) (wb:(hi'=none/\hh=len)\/∃k,hi'=some (.int k hh)) (h0:0<=l) (h1:l<=hh) (h2:hh<=len) (h3:len<=cap):
  (Instr.sliceAt t (.slice ya len cap) lo hi' none).run P w=.ok (.slice (if cap=l.toNat then ya else ya.map (·.add (l.toNat*sz))) (hh - l).toNat (cap - l.toNat)) w:=by
 have e1:(hh.toNat:Int)=hh:=Int.toNat_of_nonneg (by omega);have e2:(hh - l).toNat=hh.toNat - l.toNat:=by omega
 have h4:hh<=(cap:Int):=by omega
 have h5:0<=hh:=by omega
 rcases qz with⟨rfl,rfl⟩|⟨k,rfl⟩<;>rcases wb with⟨rfl,rfl⟩|⟨k',rfl⟩<;>
  simp[Instr.sliceAt,Instr.slice,run_underlying ht,Instr.sliceBounds,Instr.sliceBound,asIntOf,sizeOf,typeInfo,hi,bU,h0,h1,h4,h5,e1,e2]<;>omega
theorem X4 (r:R B E w0 N σ a w G) {t e:TypeId} {i:TypeInfo} {x:Operand} {lo hi':Option Operand} {mx:MO} {sz:Nat} {l hh:Int} {z:aj} (ho:o.op=.slice t x lo hi' none) (hN:∀n,o.dst=some n->n<N) (fM:bT x mx=true)
  (ht:P.underlying t=some (.slice e)) (hi:P.info? e=some i) (bU:i.size=sz) (fO:0<sz) {len:Nat}
  (qz:(lo=none/\l=0)\/∃y my,lo=some y/\bT y my=true/\(σ.ev my).dV=some l) (wb:(hi'=none/\hh=len)\/∃y my,hi'=some y/\bT y my=true/\(σ.ev my).dV=some hh)
  (h0:0<=l) (h1:l<=hh) (h2:hh<=len)
  (hz:(∃n l0,σ.ev mx=.one (.sl n sz l0 len)/\(σ.h n).isSome=true/\z=.one (.sl n sz (l0+l.toNat) (hh - l).toNat))\/(∃xs,σ.ev mx=.one (.c (.list sz xs))/\len=xs.length/\z=.one (.c (.list sz ((xs.drop l.toNat).take (hh - l).toNat))))):
  o.wp P a w (Nx B E w0 N (σ.put o.dst z)) Q:=by
 obtain⟨x1,x2⟩:=r.ev fM;have QY:(lo.map a.eval=none/\l=0)\/∃k,lo.map a.eval=some (.int k l):=by
  rcases qz with⟨rfl,h⟩|⟨y,my,rfl,c1,c2⟩
  ·exact .inl ⟨rfl,h⟩
  ·obtain⟨k,hk⟩:=(r.ev c1).1.int c2;exact .inr ⟨k,by simp[hk]⟩
 have QO:(hi'.map a.eval=none/\hh=len)\/∃k,hi'.map a.eval=some (.int k hh):=by
  rcases wb with⟨rfl,h⟩|⟨y,my,rfl,c1,c2⟩
  ·exact .inl ⟨rfl,h⟩
  ·obtain⟨k,hk⟩:=(r.ev c1).1.int c2;exact .inr ⟨k,by simp[hk]⟩
 rcases hz with⟨n,l0,e1,hs,rfl⟩|⟨xs,e1,rfl,rfl⟩
 ·rw[e1] at x1 x2;have iF:gM (G.g n) sz l0 len (a.eval x):=(x1.fE (by simp)).1 (Li hs);rcases iF with⟨aT,hv,rfl,rfl⟩|⟨aT,a',hv,gF,ha⟩
  ·have hr:=Ho (P:=P) (w:=w) (ya:=(G.g n).na) (len:=0) (cap:=(G.g n).cap) ht hi bU QY QO h0 h1 h2 (Nat.zero_le _);have gY:l.toNat=0:=by omega
   have hh0:(hh - l).toNat=0:=by omega
   refine jv r (v:=.slice (G.g n).na 0 (G.g n).cap) ?_ (RA.fz rfl fun _=>.inl ⟨aT,rfl,by omega,by omega⟩) (fun m hm=>x2 m hm) hN;simp only[execOp,ho,hv,Option.map_none];simp only[gY,hh0,Nat.zero_mul] at hr;have ha:(G.g n).na.map (fun x=>x.add 0)=(G.g n).na:=by
    cases (G.g n).na with
    |none=>rfl
    |some x=>simp[Addr.add]
   rw[ha] at hr;simp[hr]
  ·have hr:=Ho (P:=P) (w:=w) (ya:=a') (len:=len) (cap:=(G.g n).cap - l0) ht hi bU QY QO h0 h1 h2 (by omega);refine jv r (by simp only[execOp,ho,hv,Option.map_none];simp[hr];rfl) (RA.fz rfl fun _=>.inr ⟨aT,_,by rw[Nat.sub_sub],by omega,fun hc=>?_⟩) (fun m hm=>x2 m hm) hN;split
   ·rename_i cv;have:l0=0/\l.toNat=0:=by omega
    rw[ha (.inr this.1),this.1,this.2]
   ·rename_i cv;have cj:l0<(G.g n).cap:=by omega
    rw[ha (.inl cj)];simp only[Option.map_some,ru];rw[Nat.add_mul,Nat.add_assoc]
 ·rw[e1] at x1;obtain⟨pc,p1,p2,p3,p4⟩:=x1.c;cases pc with
  |int k n=>simp[PC.er] at p1
  |bool b=>simp[PC.er] at p1
  |list s' ya c py=>
   rw[PC.d9] at p1;injection p1 with p0 p1;subst p0;have hlen:xs.length=py.length:=by rw[<-p1];simp
   have hv:a.eval x=.slice ya xs.length c:=by rw[<-p2,hlen];rfl
   have gF:xs.length<=c\/py=[]:=by
    cases p3 with
    |nil _ _ _ _=>exact .inr rfl
    |cons _ b oo _ _ g1 g2 g3 g4 g5 g6=>exact .inl (by rw[hlen];exact g2)
   have nd:xs.length<=c:=by
    rcases gF with hc|hc
    ·exact hc
    ·rw[hlen,hc];exact Nat.zero_le _
   have hr:=Ho (P:=P) (w:=w) (ya:=ya) (len:=xs.length) (cap:=c) ht hi bU QY QO h0 h1 h2 nd;have ak4:((py.drop l.toNat).take (hh - l).toNat).length=(hh - l).toNat:=by simp;omega
   let dv:PC:=.list s' (if c=l.toNat then ya else ya.map (·.add (l.toNat*s'))) (c - l.toNat) ((py.drop l.toNat).take (hh - l).toNat)
   have fW:Good w dv/\∀b,aX b dv->G.Im b:=by
    by_cases Dc:(py.drop l.toNat).take (hh - l).toNat=[]
    ·constructor
     ·show Good w (.list _ _ _ _);rw[Dc];exact .nil _ _ _ fO
     ·intro b hb;rw[aX.kN,Dc] at hb;rcases hb with⟨hb,_⟩|⟨k,j,c,⟨e,he,_⟩,_⟩
      ·exact absurd rfl hb
      ·simp at he
    ·cases p3 with
     |nil _ _ _ _=>simp at Dc
     |cons _ b oo _ _ g1 g2 g3 g4 g5 g6=>
      have eR:0<(hh - l).toNat:=by
       rcases Nat.eq_zero_or_pos (hh - l).toNat with hz|hz
       ·rw[hz] at Dc;simp at Dc
       ·exact hz
      have aF:c≠l.toNat:=by omega
      have bg:dv=.list s' (some (ad b (oo+l.toNat*s'))) (c - l.toNat) ((py.drop l.toNat).take (hh - l).toNat):=by
       show PC.list _ _ _ _=_;rw[if_neg aF];simp[ru]
      rw[bg];constructor
      ·refine .cons _ _ _ _ _ Dc (by omega) g3 (fun e he=>g4 e (List.mem_of_mem_drop (List.mem_of_mem_take he))) (fun k j c' hk=>?_) (fun k j c' hk=>g6 _ _ _ (qj hk).1);have:=g5 _ _ _ (qj hk).1;rw[Nat.add_mul] at this;rw[<-this];congr 2;omega
      ·intro x hx;rw[aX.kN] at hx;rcases hx with⟨_,o',fB⟩|⟨k,j,c',hk,hx⟩
       ·injection fB with fB;rw[<-(lf fB).1];exact p4 b (.here _ _ _ _ g1)
       ·exact p4 x (.there _ _ _ _ _ _ c' (qj hk).1 hx)
   refine jv r (v:=dv.val) ?_ (RA.fz (PC.kc _) ⟨dv,?_,rfl,fW.1,fW.2⟩) (fun q hq=>absurd hq sk) hN
   ·simp only[execOp,ho,hv,Option.map_none];simp[hr,dv,PC.val,ak4]
   ·show PC.er (.list _ _ _ _)=_;rw[PC.d9,List.map_take,List.map_drop,p1]
theorem Cy {b x:Nat} {v:Value} {cur:Array Value} {e:TypeId} (hg:w.heap[b]? =some (.cells cur e (0,0))) (hc:w.cell? (ad b x)=some v):x<cur.size:=by
 have h2:w.cell? (ad b x)=cur[x]? :=by simp[World.cell?,ad,hg]
 rw[h2] at hc;exact(Array.getElem?_eq_some_iff.1 hc).1
theorem ajb (r:R B E w0 N σ a w G) {t:TypeId} {i:TypeInfo} {x y:Operand} {mx my:MO} {sz n k aB off:Nat} {ag:Bool} {vs cs:List ah} (ho:o.op=.store t x y) (hd:o.dst=none) (fM:bT x mx=true) (gR:bT y my=true)
  (hi:P.info? t=some i) (bU:i.size=sz) (fO:0<sz) (hp:σ.ev mx=.one (.ptr n k aB off)) (hv:(σ.ev my).cells?=some (ag,vs)) (hl:vs.length=sz) (hn:σ.h n=some (.box cs)) (hk:k=0) (gA:off+sz<=cs.length):
  o.wp P a w (Nx B E w0 N (σ.eD n (.box (dn cs off vs)))) Q:=by
 obtain⟨x1,_⟩:=r.ev fM;obtain⟨y1,y2⟩:=r.ev gR;rw[hp] at x1;subst hk;obtain⟨p1,p2⟩:=(x1.fE (by simp)).1 (by rw[hn];simp);obtain⟨q1,⟨cur,et,q2⟩,q3⟩:=r.hr.box n cs hn;have cv:=y1.cells hv;have Gq:(a.eval y).cells.toList.length=sz:=by rw[cv.1,hl]
 have Ac:(G.g n).o+off+(a.eval y).cells.toList.length<=cur.size:=by
  obtain⟨v,v1,_⟩:=q3 (off+sz - 1) (cs[off+sz - 1]'(by omega)) (List.getElem?_eq_getElem _);have:=Cy q2 v1;omega
 have r':=r.atx hn cv (fun c hc m hm=>y2 m (aj.xK hv hc hm)) (by omega) q2 Ac;have bR:=Mk (P:=P) (w:=w) (t:=t) (i:=i) (b:=(G.g n).b) (off:=(G.g n).o+off) (v:=a.eval y) (cur:=cur) (e:=et) hi (by rw[bU,<-Gq];simp) q2 (by simpa using Ac) (fun u hu=>by
  obtain⟨j,hj,Gc⟩:=List.getElem_of_mem hu;have Aj:j<vs.length:=by omega
  have:=(cv.2 j _ u (List.getElem?_eq_getElem Aj) (by rw[List.getElem?_eq_getElem hj,Gc])).1;exact this)
 refine Np (w':=gE w (G.g n).b ((G.g n).o+off) (a.eval y).cells.toList cur) ?_ ⟨G,?_⟩
 ·simp only[execOp,ho,p2,Nat.zero_mul,Nat.add_zero];simp[Instr.storeAt,Instr.sureAddr,bR]
 ·rw[hd];exact r'
theorem ajd (r:R B E w0 N σ a w G) {t:TypeId} {i:TypeInfo} {x y:Operand} {mx my:MO} {sz n k off:Nat} {ag gr:Bool} {m:Mode} {rs:Nat} {xs:List (List C)} {el:List C} {vs:List ah} {σ2:St} (ho:o.op=.store t x y) (hd:o.dst=none) (fM:bT x mx=true) (gR:bT y my=true)
  (hi:P.info? t=some i) (bU:i.size=sz) (fO:0<sz) (hp:σ.ev mx=.one (.ptr n k rs off)) (hv:(σ.ev my).cells?=some (ag,vs)) (hl:vs.length=sz) (hn:σ.h n=some (.row gr m rs xs)) (hk:xs[k]? =some el)
  (hx:oq σ n gr m rs xs k off el vs=some σ2):o.wp P a w (Nx B E w0 N σ2) Q:=by
 obtain⟨x1,_⟩:=r.ev fM;obtain⟨y1,y2⟩:=r.ev gR;rw[hp] at x1;obtain⟨p1,p2⟩:=(x1.fE (by simp)).1 (by rw[hn];simp);have hr:=r.hr.row n gr m rs xs hn;obtain⟨⟨cur,et,q2⟩,l2,l3⟩:=hr.eI p1;have cv:=y1.cells hv;have Gq:(a.eval y).cells.toList.length=sz:=by rw[cv.1,hl]
 have nW:off+vs.length<=el.length:=by
  unfold oq at hx;split at hx
  ·cases hx
  ·rename_i ii hs;exact(EB hs).1
 have jC:∃pe,(G.g n).px[k]? =some pe/\pe.map PC.er=el:=by
  have bJ:=hk;rw[hr.er,List.getElem?_map] at bJ;cases hq:(G.g n).px[k]? with
  |none=>rw[hq] at bJ;cases bJ
  |some pe=>rw[hq] at bJ;simp at bJ;exact⟨pe,rfl,bJ⟩
 obtain⟨pe,r6,uG⟩:=jC;have wq:pe.length=el.length:=by rw[<-uG];simp
 have Ac:(G.g n).o+k*rs+off+(a.eval y).cells.toList.length<=cur.size:=by
  have hc:=l2.2.1 k (off+sz - 1) (pe[off+sz - 1]'(by omega)) ⟨pe,r6,List.getElem?_eq_getElem _⟩;have:=Cy q2 hc;omega
 obtain⟨G',r'⟩:=r.oq hn p1 hk cv (fun c hc m hm=>y2 m (aj.xK hv hc hm)) hx q2 Ac;have bR:=Mk (P:=P) (w:=w) (t:=t) (i:=i) (b:=(G.g n).b) (off:=(G.g n).o+k*rs+off) (v:=a.eval y) (cur:=cur) (e:=et) hi (by rw[bU,<-Gq];simp) q2 (by simpa using Ac) (fun u hu=>by
  obtain⟨j,hj,Gc⟩:=List.getElem_of_mem hu;have Aj:j<vs.length:=by omega
  exact(cv.2 j _ u (List.getElem?_eq_getElem Aj) (by rw[List.getElem?_eq_getElem hj,Gc])).1)
 refine Np (w':=gE w (G.g n).b ((G.g n).o+k*rs+off) (a.eval y).cells.toList cur) ?_ ⟨G',?_⟩
 ·simp only[execOp,ho,p2];simp[Instr.storeAt,Instr.sureAddr,bR]
 ·rw[hd];exact r'
def zI (places:List (Nat×Nat)):List (Nat×Operand)->List (Nat×Nat×MO)->Bool
 |[],[]=>true
 |(i,x)::ps,(off,sz,m)::ms=>(places[i]? ==some (off,sz))&&bT x m&&zI places ps ms
 |_,_=>false
theorem Yg (r:R B E w0 N σ a w G) (places:List (Nat×Nat)):∀(ps:List (Nat×Operand)) (ms:List (Nat×Nat×MO)) (zs cs:List ah) (cur:Array Value),zI places ps ms=true->
  dh w G σ.h zs cur.toList->(∀c∈zs,∀m,c.ref m->σ.used m=true)->rh σ.ev zs ms=some cs->
  ∃ju,Instr.fill (places.toArray[·]?) cur (ps.map fun p=>(p.1,a.eval p.2))=some ju/\dh w G σ.h cs ju.toList/\∀c∈cs,∀m,c.ref m->σ.used m=true
 |[],[],zs,cs,cur,_,hz,hr,hx=>by
  simp only[rh] at hx;injection hx with hx;subst hx;exact⟨cur,rfl,hz,hr⟩
 |(i,x)::ps,(off,sz,m)::ms,zs,cs,cur,hc,hz,hr,hx=>by
  simp only[zI,Bool.and_eq_true,beq_iff_eq] at hc;obtain⟨⟨c1,c2⟩,c3⟩:=hc;simp only[rh] at hx;split at hx
  ·rename_i ag vs hv;split at hx
   ·rename_i cR;obtain⟨h1,h2⟩:=cR;obtain⟨y1,y2⟩:=r.ev c2;have cv:=y1.cells hv;have oQ:(a.eval x).cells.size=sz:=by rw[<-Array.length_toList,cv.1,h1]
    have hzl:cur.size=zs.length:=by rw[<-Array.length_toList,hz.1]
    have Au:dh w G σ.h (dn zs off vs) (dn cur.toList off (a.eval x).cells.toList):=by
     have Rn:(a.eval x).cells.toList.length=vs.length:=cv.1;refine⟨?_,fun j c u hj hu=>?_⟩
     ·rw[MF (by rw[Rn,hz.1];omega),MF (by omega),hz.1]
     ·rw[zb (by omega)] at hj;rw[zb (by rw[Rn,hz.1];omega),Rn] at hu;by_cases cW:off<=j/\j<off+vs.length
      ·rw[if_pos cW] at hj hu;exact cv.2 _ c u hj hu
      ·rw[if_neg cW] at hj hu;exact hz.2 _ c u hj hu
    obtain⟨ju,e1,e2,e3⟩:=Yg r places ps ms (dn zs off vs) cs (dn cur.toList off (a.eval x).cells.toList).toArray c3 Au (fun c hc q hq=>by
     simp only[dn,List.mem_append] at hc;rcases hc with(hc|hc)|hc
     ·exact hr c (List.mem_of_mem_take hc) q hq
     ·exact y2 q (aj.xK hv hc hq)
     ·exact hr c (List.mem_of_mem_drop hc) q hq) hx
    refine⟨ju,?_,e2,e3⟩;simp only[List.getElem?_toArray] at e1;simp only[List.map_cons,Instr.fill,List.getElem?_toArray,c1];rw[if_neg (by simp;omega),Zu _ _ _ (by omega)];exact e1
   ·cases hx
  ·cases hx
 |[],_::_,_,_,_,hc,_,_,_=>by simp[zI] at hc
 |(_,_)::_,[],_,_,_,hc,_,_,_=>by simp[zI] at hc
theorem aiI (r:R B E w0 N σ a w G) {t:TypeId} {parts:Array (Nat×Operand)} {ms:List (Nat×Nat×MO)} {zs cs:List ah} {it:TypeInfo} {z:Value} {xS:Array Field} {places:List (Nat×Nat)} (ho:o.op=.build t parts) (hN:∀n,o.dst=some n->n<N)
  (x9:P.info? t=some it) (hz:it.zero=some z) (hu:P.underlying t=some (.struct xS)) (e7:xS.toList.mapM (fun f=>(P.info? f.type).map fun i=>(f.offset,i.size))=some places)
  (hzc:uk z.cells.toList zs=true) (hc:zI places parts.toList ms=true) (hx:rh σ.ev zs ms=some cs):o.wp P a w (Nx B E w0 N (σ.put o.dst (.agg cs))) Q:=by
 obtain⟨z1,z2⟩:=JW (w:=w) (G:=G) (h:=σ.h) hzc;obtain⟨ju,e1,e2,e3⟩:=Yg r places parts.toList ms zs cs z.cells hc z1 (fun c hc m hm=>absurd hm (z2 c hc m)) hx;refine jv r (v:=.agg ju) ?_ ⟨ju.toList,by simp,e2⟩ (fun m hm=>by obtain⟨c,hc,hm⟩:=hm;exact e3 c hc m hm) hN;have hb:P.built t (parts.map fun p=>(p.1,a.eval p.2)).toList=some ju:=by
  unfold Program.built;simp only[x9,hu,hz,e7,Array.toList_map];exact e1
 have bR:=run_build (P:=P) w t _ ju hb;simp only[execOp,ho];simp[bR]
theorem xG {α:Type} {xs:List (List α)} {l k j:Nat} {c:α} (h:At (xs.drop l) k j c):At xs (l+k) j c:=by
 obtain⟨e,he,hj⟩:=h;rw[List.getElem?_drop] at he;exact⟨e,he,hj⟩
theorem ass {b l:Nat} {px:List (List PC)} (h:bf b (px.drop l)):bf b px:=by
 obtain⟨k,j,c,h1,h2⟩:=h;exact⟨_,_,_,xG h1,h2⟩
theorem iM.drop {px:List (List PC)} (h:iM px) (l:Nat):iM (px.drop l):=
 ⟨fun k j c hk=>h.1 _ _ _ (xG hk),fun k j c k' j' c' b hk bJ aF=>h.2 _ _ _ _ _ _ b (xG hk) (xG bJ) (fun e=>aF (by injection e with e1 e2;rw[show k=k' by omega,e2]))⟩
end
section
variable {B:Nat} {E:Ex} {w0 w w':World} {G G':Gh} {h h':Nat->Option aq} {used used':Nat->Bool} {tk:List PC} {N:Nat}
variable {P:Program} {o:Oper} {a:Act} {σ σ':St} {Q:Exit->Act->World->Prop}
theorem HR.alM (H:HR B E w G h used []) {n sz cap:Nat} {x:Option Addr} {xs:List (List PC)} {m:Mode} (hg:Good w (.list sz x cap xs)) (hs:Sep (.list sz x cap xs)) (ht:Cf w (.list sz x cap xs))
  (hl:∀b,jM b (.list sz x cap xs)->oB G h b/\dZ w b/\B<=b) (hn:used n=false):
  ∃G',HR B E w G' (ax h n (some (.row m.tA m sz (xs.map fun e=>e.map PC.er)))) (ax used n true) []/\
   bk w G h (fun n=>used n=true) w G' (ax h n (some (.row m.tA m sz (xs.map fun e=>e.map PC.er))))/\
   RC w G' (ax h n (some (.row m.tA m sz (xs.map fun e=>e.map PC.er)))) (.sl n sz 0 xs.length) (PC.val (.list sz x cap xs))/\
   ∀b,oB G h b->¬jM b (.list sz x cap xs)->oB G' (ax h n (some (.row m.tA m sz (xs.map fun e=>e.map PC.er)))) b:=by
 obtain⟨eR,gF,tn⟩:=ht;have hF:∀b,bf b xs->aX b (.list sz x cap xs):=fun b ⟨k,j,c,h1,h2⟩=>.there _ _ _ _ k j c h1 h2;have jV:iM xs:=by cases hs with|list _ _ _ _ h1 h2 h3=>exact⟨h1,h3⟩
 let S:Nat->Prop:=fun b=>m≠ .live/\bf b xs;have H1:HR B E w ⟨fun b=>G.Im b\/S b,G.g⟩ h used []:=H.uM S (fun b hb=>(hl b (.inl (hF b hb.2))).2.1.lt)
  (fun b hb q hq km he=>(hl b (.inl (hF b hb.2))).1.2.1 q hq km he.symm) (fun b hb q gr sz xs hq=>(hl b (.inl (hF b hb.2))).1.2.2 q gr _ sz xs hq) (fun b hb=>.inl (hl b (.inl (hF b hb.2))).2.2)
 obtain⟨p,K4,fC,oO,Aq,Rb,alk⟩:∃p:PB,(p.nl=true->xs=[]/\(true=true->p.cap=0))/\p.px=xs/\
   (p.nl=false->oB ⟨fun b=>G.Im b\/S b,G.g⟩ h p.b/\dZ w p.b/\B<=p.b/\∀b,bf b xs->b≠p.b)/\
   (p.nl=false->nD w p.b p.o sz xs/\xs.length<=p.cap/\E7 w p sz)/\gM p sz 0 xs.length (PC.val (.list sz x cap xs))/\(p.nl=false->jM p.b (.list sz x cap xs)):=by
  by_cases vY:cap=0
  ·subst vY;have hx:xs=[]:=List.eq_nil_of_length_eq_zero (by omega);subst hx;exact⟨⟨true,0,0,0,[],x⟩,fun _=>⟨rfl,fun _=>rfl⟩,rfl,(fun hf=>by cases hf),(fun hf=>by cases hf),.inl ⟨rfl,rfl,rfl,rfl⟩,(fun hf=>by cases hf)⟩
  ·obtain⟨b,o,cur,e,rfl,hh,bU,wj,cg⟩:=tn.resolve_left vY;have hT:jM b (.list sz (some (ad b o)) cap xs):=.inr ⟨_,_,_,_,rfl,vY⟩;obtain⟨l1,l2,l3⟩:=hl b hT;have aF:∀b',bf b' xs->b'≠b:=fun b' ⟨k,j,c,h1,h2⟩ he=>cg k j c h1 (he▸h2);refine⟨⟨false,b,o,cap,xs,none⟩,(fun hf=>by cases hf),rfl,fun _=>⟨⟨fun hi=>hi.elim l1.1 (fun hS=>aF b hS.2 rfl),l1.2⟩,l2,l3,aF⟩,fun _=>⟨?_,gF,wj,cur,e,hh,bU⟩,.inr ⟨rfl,some (ad b o),by simp[PC.val],by simpa using gF,fun _=>by simp⟩,fun _=>hT⟩;cases hg with
   |nil _ _ _ _=>exact⟨by simp,by rintro k j c ⟨e,he,_⟩;simp at he,by rintro k j c ⟨e,he,_⟩;simp at he⟩
   |cons _ _ _ _ _ h1 h2 h3 h4 h5 h6=>exact⟨h4,h5,h6⟩
 subst fC;have eW:ua B E w ⟨fun b=>G.Im b\/S b,G.g⟩ m.tA m sz (p.px.map fun e=>e.map PC.er) p:=by
  refine⟨eR,rfl,fun h=>⟨(K4 h).1,fun _=>(K4 h).2 rfl⟩,fun hf=>⟨(oO hf).2.1,(Aq hf).1,(Aq hf).2.1⟩,fun hf _=>(Aq hf).2.2,?_,fun h hm=>by rw[hm] at h;cases h⟩;cases hm:m with
  |aI=>exact fun b hb=>.inr ⟨by simp[hm],hb⟩
  |aO=>exact⟨fun b hb=>⟨.inr ⟨by simp[hm],hb⟩,(hl b (.inl (hF b hb))).2.1,.inl (hl b (.inl (hF b hb))).2.2⟩,jV⟩
  |live=>exact⟨fun b hb=>⟨fun hi=>hi.elim (hl b (.inl (hF b hb))).1.1 (fun hS=>hS.1 hm),(hl b (.inl (hF b hb))).2.1,.inl (hl b (.inl (hF b hb))).2.2⟩,jV⟩
 have Hn:=H1.insert (w':=w) (n:=n) (blk:=.row m.tA m sz (p.px.map fun e=>e.map PC.er)) (p:=p) hn (fun _ _=>rfl) (Nat.le_refl _)
  (fun hf=>⟨(oO hf).1,.inl (oO hf).2.2.1,(oO hf).2.1.lt⟩) (fun cs c q hb=>by cases hb) (by exact eW)
  (fun gr m' aH ar hb hm n' bn jH jc gx h0 ic b cN=>(hl b (.inl (hF b cN))).1.2.2 n' bn jH jc gx h0)
  (fun gr aH ar hb b cN=>⟨fun hf=>(oO hf).2.2.2 b cN,fun n' h0 gY he=>(hl b (.inl (hF b cN))).1.2.1 n' h0 gY he.symm⟩)
  (fun gr m' aH ar hb hm i pc b hi=>by simp at hi)
 refine⟨_,Hn,bk.trans (u2:=fun n=>used n=true) (fun _ h=>h) (bk.uM S _) (bk.insert H1 hn (fun _ _=>rfl)),fun _=>by simpa[bO] using Rb,fun b hb Qx=>?_⟩;refine⟨fun hi=>hi.elim hb.1 (fun hS=>Qx (.inl (hF b hS.2))),fun q hq km he=>?_,fun q gr mo aH ar hq cN=>?_⟩
 ·by_cases gJ:q=n
  ·subst gJ;simp only[bO] at km he;exact Qx (he▸alk km)
  ·rw[cJ _ _ _ _ gJ] at hq;simp only[cJ _ _ _ _ gJ] at km he;exact hb.2.1 q hq km he
 ·by_cases gJ:q=n
  ·subst gJ;simp only[bO] at cN;exact Qx (.inl (hF b cN))
  ·rw[cJ _ _ _ _ gJ] at hq;simp only[cJ _ _ _ _ gJ] at cN;exact hb.2.2 q gr mo aH ar hq cN
structure vo (B:Nat) (w:World) (G:Gh) (h:Nat->Option aq) (ps:List PC):Prop where
 ez:∀pc∈ps,Good w pc/\Sep pc/\Cf w pc
 lone:∀pc∈ps,∀b,jM b pc->oB G h b/\dZ w b/\B<=b
 oI:ps.Pairwise fun p q=>∀b,jM b p->¬jM b q
theorem vo.tail {p:PC} {ps:List PC} (hi:vo B w G h (p::ps)) (hL:∀b,oB G h b->¬jM b p->oB G' h' b):vo B w G' h' ps:=
 ⟨fun q hq=>hi.ez q (by simp[hq]),fun q hq b hb=>⟨hL b (hi.lone q (by simp[hq]) b hb).1 (fun hp=>(List.pairwise_cons.1 hi.oI).1 q hq b hp hb),(hi.lone q (by simp[hq]) b hb).2⟩,(List.pairwise_cons.1 hi.oI).2⟩
theorem HR.imp {m:Mode}:∀{ps qs:List PC} {σ σ1:St} {G:Gh} {nm gu:Nat} {l:List ah},HR B E w G σ.h σ.used []->σ.imp m nm (ps.map PC.er)=some (l,gu,σ1)->vo B w G σ.h (ps++qs)->
  ∃G',HR B E w G' σ1.h σ1.used []/\bk w G σ.h (fun n=>σ.used n=true) w G' σ1.h/\dh w G' σ1.h l (ps.map PC.val)/\(∀c∈l,∀q,c.ref q->σ1.used q=true)/\σ1.env=σ.env/\
   (∀q,σ.used q=true->σ1.used q=true)/\vo B w G' σ1.h qs
 |[],qs,σ,σ1,G,nm,gu,l,H,hx,hi=>by
  simp only[List.map_nil,St.imp] at hx;injection hx with hx;injection hx with h1 h2;injection h2 with h2 h3;subst h1 h3;exact⟨G,H,bk.refl _ _ _ _,⟨rfl,by simp⟩,by simp,rfl,fun _ h=>h,by simpa using hi⟩
 |p::ps,qs,σ,σ2,G,nm,gu,l,H,hx,hi=>by
  have fh:∀(x:C) (hx:(match σ.imp m nm (ps.map PC.er) with|some (l,gu,σ2)=>some (ah.c x::l,gu,σ2)|none=>none)=some (l,gu,σ2)) (hp:p.er=x) (cg:∀b,¬jM b p) (hg:Good w p),
    ∃G',HR B E w G' σ2.h σ2.used []/\bk w G σ.h (fun n=>σ.used n=true) w G' σ2.h/\dh w G' σ2.h l ((p::ps).map PC.val)/\(∀c∈l,∀q,c.ref q->σ2.used q=true)/\σ2.env=σ.env/\
     (∀q,σ.used q=true->σ2.used q=true)/\vo B w G' σ2.h qs:=by
   intro x hx hp cg hg;split at hx
   ·rename_i l' G4 gK e1;injection hx with hx;injection hx with h1 h2;injection h2 with h2 h3;subst h1 h2 h3;obtain⟨G',b1,b2,b3,b4,b5,b6,b7⟩:=HR.imp H e1 (hi.tail (fun b hb _=>hb));refine⟨G',b1,b2,⟨by simp[b3.1],fun j c u hj hu=>?_⟩,fun c hc q hq=>?_,b5,b6,b7⟩
    ·cases j with
     |zero=>
      simp at hj hu;subst hj;subst hu;exact⟨PC.kc p,p,hp,rfl,hg,fun b hb=>absurd (.inl hb) (cg b)⟩
     |succ j=>exact b3.2 j c u (by simpa using hj) (by simpa using hu)
    ·cases hc with
     |head=>exact absurd hq id
     |tail _ hc=>exact b4 c hc q hq
   ·cases hx
  cases p with
  |int k n=>exact fh (.int k n) (by simp only[List.map_cons,St.imp,PC.er] at hx;exact hx) (by simp[PC.er]) (fun b hb=>by rcases hb with hb|⟨_,_,_,_,hb,_⟩<;>cases hb) (.int _ _)
  |bool b=>exact fh (.bool b) (by simp only[List.map_cons,St.imp,PC.er] at hx;exact hx) (by simp[PC.er]) (fun b hb=>by rcases hb with hb|⟨_,_,_,_,hb,_⟩<;>cases hb) (.bool _)
  |list sz x cap xs=>
   simp only[List.map_cons,PC.d9,St.imp] at hx;split at hx
   ·rename_i σ1 e1;split at hx
    ·rename_i l' G4 gK e2;injection hx with hx;injection hx with h1 h2;injection h2 with h2 h3;subst h1 h2 h3;obtain⟨hn,rfl⟩:=ko e1;obtain⟨g1,g2,g3⟩:=hi.ez (.list sz x cap xs) (by simp);obtain⟨G1,a1,a2,a3,a4⟩:=H.alM (m:=m) g1 g2 g3 (hi.lone (.list sz x cap xs) (by simp)) hn;obtain⟨G',b1,b2,b3,b4,b5,b6,b7⟩:=HR.imp a1 e2 (hi.tail a4);have Dm:∀q,σ.used q=true->ax σ.used nm true q=true:=fun q hq=>oy _ _ hq;refine⟨G',b1,bk.trans Dm a2 b2,⟨by simp[b3.1],fun j c u hj hu=>?_⟩,fun c hc q hq=>?_,b5,fun q hq=>b6 q (Dm q hq),b7⟩
     ·cases j with
      |zero=>
       simp at hj hu;subst hj;subst hu;exact⟨rfl,a3.fP b2 fun q hq=>by have eV:q=nm:=hq;subst eV;exact bO _ _ _⟩
      |succ j=>exact b3.2 j c u (by simpa using hj) (by simpa using hu)
     ·cases hc with
      |head=>have eV:q=nm:=hq;subst eV;exact b6 _ (bO _ _ _)
      |tail _ hc=>exact b4 c hc q hq
    ·cases hx
   ·cases hx
theorem HR.jE {m:Mode}:∀{bq:List (K×List PC)} {σ σ1:St} {G:Gh} {nm:Nat} {ls:List (Bool×List ah)},HR B E w G σ.h σ.used []->σ.jE m nm (bq.map fun p=>(p.1,p.2.map PC.er))=some (ls,σ1)->
  (∀p∈bq,p.1≠ .ptr/\(p.1=.one->p.2.length=1))->vo B w G σ.h (bq.flatMap (·.2))->
  ∃G',HR B E w G' σ1.h σ1.used []/\bk w G σ.h (fun n=>σ.used n=true) w G' σ1.h/\ls.length=bq.length/\
   (∀(j:Nat) (x:Bool×List ah) (p:K×List PC),ls[j]? =some x->bq[j]? =some p->RV w G' σ1.h x.1 x.2 (sB p))/\(∀x∈ls,∀c∈x.2,∀q,c.ref q->σ1.used q=true)/\σ1.env=σ.env/\
   (∀q,σ.used q=true->σ1.used q=true)
 |[],σ,σ1,G,nm,ls,H,hx,hk,hi=>by
  simp only[List.map_nil,St.jE] at hx;injection hx with hx;injection hx with h1 h2;subst h1 h2;exact⟨G,H,bk.refl _ _ _ _,rfl,by simp,by simp,rfl,fun _ h=>h⟩
 |(k,ps)::bq,σ,σ2,G,nm,ls,H,hx,hk,hi=>by
  have QT:=hk (k,ps) (by simp);have lS:(match σ.imp m nm (ps.map PC.er) with
   |some (l,gu,σ1)=>match σ1.jE m gu (bq.map fun p=>(p.1,p.2.map PC.er)) with
    |some (ls,σ2)=>some ((decide (k=.agg),l)::ls,σ2)
    |none=>none
   |none=>none)=some (ls,σ2):=by
   cases k with
   |ptr=>exact absurd rfl QT.1
   |one=>simp[St.jE] at hx;exact hx
   |agg=>simp[St.jE] at hx;exact hx
  clear hx;split at lS
  ·rename_i l gu σ1 e1;split at lS
   ·rename_i GV gK e2;injection lS with hx;injection hx with h1 h2;subst h1 h2;obtain⟨G1,a1,a2,a3,a4,a5,a6,a7⟩:=HR.imp H e1 (by simpa using hi);obtain⟨G',b1,b2,b3,b4,b5,b6,b7⟩:=HR.jE a1 e2 (fun p hp=>hk p (by simp[hp])) a7;refine⟨G',b1,bk.trans a6 a2 b2,by simp[b3],fun j x p hj hp=>?_,fun x hx c hc q hq=>?_,b6.trans a5,fun q hq=>b7 q (a6 q hq)⟩
    ·cases j with
     |zero=>
      simp at hj hp;subst hj;subst hp;have cv:=dh.fP b2 (fun c hc q hq=>a4 c hc q hq) a3;cases k with
      |ptr=>exact absurd rfl QT.1
      |agg=>exact⟨ps.map PC.val,rfl,cv⟩
      |one=>
       have h1:=QT.2 rfl;match ps,h1 with
       |[p],_=>exact cv
     |succ j=>exact b4 j x p (by simpa using hj) (by simpa using hp)
    ·cases hx with
     |head=>exact b7 q (a4 c hc q hq)
     |tail _ hx=>exact b5 x hx c hc q hq
   ·cases lS
  ·cases lS
theorem RA.lZ {ls:List (Bool×List ah)} {bq:List (K×List PC)} (hlen:ls.length=bq.length) (hk:∀p∈bq,p.1≠ .ptr/\(p.1=.one->p.2.length=1))
  (hv:∀(j:Nat) (x:Bool×List ah) (p:K×List PC),ls[j]? =some x->bq[j]? =some p->RV w G h x.1 x.2 (sB p)):RA w G h (lZ ls) (wX bq):=by
 match ls,bq,hlen with
 |[],[],_=>exact⟨[],rfl,rfl,by simp⟩
 |[(ag,cs)],[p],_=>
  have h0:=hv 0 (ag,cs) p rfl rfl;cases ag with
  |true=>exact h0
  |false=>
   have cv:dh w G h cs [sB p]:=h0;match cs,cv.1 with
   |[c],_=>exact .inr h0
 |x::y::ls,p::q::bq,hl=>
  refine⟨(p::q::bq).map sB,rfl,by simpa using hl.symm,fun j x' u hj hu=>?_⟩;rw[List.getElem?_map] at hu;cases hp:(p::q::bq)[j]? with
  |none=>rw[hp] at hu;cases hu
  |some p'=>rw[hp] at hu;simp at hu;subst hu;exact hv j x' p' hj hp
def Ij (P:Program) (T:aN):Prop:=∀f M,aN.find T.pure f=some M->dd P f M
def bP (P:Program) (f:FuncId):Bool:=
 match P.funcs[f]? with
 |some fn=>fn.body.isSome&&(fn.name != "runtime.NumGoroutine")
 |none=>false
theorem Bf {f:FuncId} (hc:bP P f=true) (args:Array Value):(callFunc f args).run P w=.ok (.enter f args) w:=by
 unfold bP at hc;split at hc
 ·rename_i fn hf;simp only[Bool.and_eq_true,bne_iff_ne,ne_eq] at hc;obtain⟨h1,h2⟩:=hc;cases hb:fn.body with
  |none=>rw[hb] at h1;cases h1
  |some c=>simp[callFunc,hf,h2,hb]
 ·cases hc
theorem Fr.call (F:Fr B E w0 w) (F':Fr w.heap.size Ex.no w w'):Fr B E w0 w':=
 F.grow (fun b hb=>F'.block b hb id) F'.size F'.os F'.tape F'.output
theorem aiR (r:R B E w0 N σ a w G) {T:aN} (hT:Ij P T) {m:Mode} {f:FuncId} {as:List aj} {vals:List Value} {σ1:St} (hN:∀n,o.dst=some n->n<N)
  (bR:(execOp a.eval o).run P w=.ok (.enter f vals.toArray) w) (hl:vals.length=as.length)
  (nQ:∀(j:Nat) (x:aj) (v:Value),as[j]? =some x->vals[j]? =some v->RA w G σ.h x v)
  (hx:vL T m o.dst f as σ=some σ1):o.wp P a w (Nx B E w0 N σ1) Q:=by
 unfold vL at hx;split at hx
 ·rename_i ds jS;split at hx
  ·rename_i M hM;split at hx
   ·rename_i rs qE;split at hx
    ·rename_i ls σ2 wc;injection hx with hx;subst hx;have C5:=r.hr.kU jS hl nQ;unfold Oper.wp;rw[bR];refine(hT f M hM ds rs qE w vals C5).mono fun e w' ⟨bq,p1,p2,p3,p4,p5⟩=>?_;subst p2;have jw:∀b,b<w.heap.size->w'.heap[b]? =w.heap[b]? :=fun b hb=>p5.block b hb id;have H':=r.hr.grow jw p5.size;have cW:vo B w' G σ.h (bq.flatMap (·.2)):=by
      refine⟨p4.ez,fun pc bg b hb=>?_,?_⟩
      ·obtain⟨n1,n2⟩:=p4.new pc bg b hb;refine⟨⟨fun hi=>?_,fun q hq km he=>?_,fun q gr mo sz xs hq cN=>?_⟩,n2,Nat.le_trans r.fr.size n1⟩
       ·have:=r.hr.gC b hi;omega
       ·have:=(r.hr.own q hq km).2.2;omega
       ·have:=r.hr.oZ hq cN;omega
      ·rw[List.pairwise_iff_getElem];intro i j hi hj iv b hb;exact p4.oI i j _ _ b (by omega) (List.getElem?_eq_getElem hi) (List.getElem?_eq_getElem hj) hb
     rw[<-p1] at wc;obtain⟨G',b1,b2,b3,b4,b5,b6,b7⟩:=HR.jE H' wc p3 cW;have K:bk w G σ.h (fun n=>σ.used n=true) w' G' σ2.h:=bk.trans (fun _ h=>h) (bk.world (fun b hb=>jw b (r.hr.gC b hb)) _) b2;have r2:R B E w0 N σ2 a w' G':=r.step b6 b7 K b1 (r.fr.call p5);refine⟨G',r2.put (RA.lZ b3 p3 b4) ?_ hN⟩;intro q hq;match ls,hq with
     |[],hq=>obtain⟨x,hx,_⟩:=hq;simp at hx
     |[(true,cs)],hq=>obtain⟨c,hc,hq⟩:=hq;exact b5 (true,cs) (by simp) c hc q hq
     |[(false,[c])],hq=>exact b5 (false,[c]) (by simp) c (by simp) q hq
     |[(false,[])],hq=>exact absurd hq id
     |[(false,_::_::_)],hq=>exact absurd hq id
     |x::y::ls,hq=>obtain⟨x',lS,c,hc,hq⟩:=hq;exact b5 x' lS c hc q hq
    ·cases hx
   ·cases hx
  ·cases hx
 ·cases hx
theorem asn {ls:List (Bool×List ah)} {q:Nat} (cg:∀x∈ls,∀c∈x.2,¬c.ref q):¬(lZ ls).ref q:=by
 intro hq;match ls,hq with
 |[],hq=>obtain⟨x,hx,_⟩:=hq;simp at hx
 |[(true,cs)],hq=>obtain⟨c,hc,hq⟩:=hq;exact cg (true,cs) (by simp) c hc hq
 |[(false,[c])],hq=>exact cg (false,[c]) (by simp) c (by simp) hq
 |[(false,[])],hq=>exact hq
 |[(false,_::_::_)],hq=>exact hq
 |x::y::ls,hq=>obtain⟨x',lS,c,hc,hq⟩:=hq;exact cg x' lS c hc hq
def iA:List Operand->List MO->Bool
 |[],[]=>true
 |x::xs,m::ms=>bT x m&&iA xs ms
 |_,_=>false
theorem R.zU (r:R B E w0 N σ a w G):∀{xs:List Operand} {ms:List MO},iA xs ms=true->xs.length=ms.length/\
  ∀(j:Nat) (x:aj) (v:Value),(ms.map σ.ev)[j]? =some x->(xs.map a.eval)[j]? =some v->RA w G σ.h x v
 |[],[],_=>⟨rfl,by simp⟩
 |x::xs,m::ms,hc=>by
  simp only[iA,Bool.and_eq_true] at hc;obtain⟨i1,i2⟩:=r.zU hc.2;refine⟨by simp[i1],fun j x' v hj hv=>?_⟩;cases j with
  |zero=>simp at hj hv;subst hj;subst hv;exact(r.ev hc.1).1
  |succ j=>exact i2 j x' v (by simpa using hj) (by simpa using hv)
 |[],_::_,hc=>by simp[iA] at hc
 |_::_,[],hc=>by simp[iA] at hc
theorem aiJ (r:R B E w0 N σ a w G) {T:aN} (hT:Ij P T) {m:Mode} {f:FuncId} {xs:Array Operand} {ms:List MO} {ts:Array TypeId} {σ1:St} (hN:∀n,o.dst=some n->n<N)
  (ho:o.op=.call {callee:=.value (.func f),args:=xs,argTypes:=ts}) (hf:bP P f=true) (hm:iA xs.toList ms=true)
  (hx:vL T m o.dst f (ms.map σ.ev) σ=some σ1):o.wp P a w (Nx B E w0 N σ1) Q:=by
 obtain⟨e1,e2⟩:=r.zU hm;refine aiR r hT (vals:=xs.toList.map a.eval) hN ?_ (by simpa using e1) e2 hx;have he:(xs.toList.map a.eval).toArray=xs.map a.eval:=by apply Array.ext';simp
 rw[he];simp[execOp,ho,resolve,Deferred.ofValue,invoke,Act.eval,Bf hf]
end
def fi {α:Type}:List (Option Mode)->List α->List (Mode×α)
 |some m::fs,x::xs=>(m,x)::fi fs xs
 |none::fs,_::xs=>fi fs xs
 |_,_=>[]
def ox {α:Type}:List (Option Mode)->List α->List α
 |some _::fs,_::xs=>ox fs xs
 |none::fs,x::xs=>x::ox fs xs
 |[],xs=>xs
 |_,[]=>[]
def eZ {α:Type}:aM->List (List α)->List (Mode×α)
 |s::sig,xs::tM=>fi s xs++eZ sig tM
 |_,_=>[]
def me {α:Type}:aM->List (List α)->List α
 |s::sig,xs::tM=>ox s xs++me sig tM
 |[],tM=>tM.flatten
 |_,[]=>[]
theorem Kq {α β:Type} (f:α->β):∀(s:List (Option Mode)) (xs:List α),fi s (xs.map f)=(fi s xs).map fun x=>(x.1,f x.2)
 |some m::fs,x::xs=>by simp only[List.map_cons,fi,Kq f fs xs]
 |none::fs,x::xs=>by simp only[List.map_cons,fi,Kq f fs xs]
 |[],_=>by simp[fi]
 |some m::fs,[]=>rfl
 |none::fs,[]=>rfl
theorem Kp {α β:Type} (f:α->β):∀(s:aM) (xs:List (List α)),eZ s (xs.map fun l=>l.map f)=(eZ s xs).map fun x=>(x.1,f x.2)
 |s::sig,xs::tM=>by simp only[List.map_cons,eZ,List.map_append,Kq f s xs,Kp f sig tM]
 |[],_=>by simp[eZ]
 |s::sig,[]=>rfl
def yW (s:List (Option Mode)) (n:Nat):Prop:=s=[]\/∃j,n=j+1/\s=List.replicate j none++[some .aO]
theorem X9 {α:Type} (m:Mode) (y:α):∀(xs:List α),fi (List.replicate xs.length none++[some m]) (xs++[y])=[(m,y)]
 |[]=>rfl
 |x::xs=>X9 m y xs
theorem agC {α:Type} (m:Mode) (y:α):∀(xs:List α),ox (List.replicate xs.length none++[some m]) (xs++[y])=xs
 |[]=>rfl
 |x::xs=>congrArg (x::·) (agC m y xs)
structure zA (w:World) (m:Mode) (pc:PC):Prop where
 sep:Sep pc
 un:∀b,aX b pc->dZ w b
 eI:∃sz a cap xs,pc=.list sz a cap xs/\0<sz/\(∀b o,a=some (ad b o)->¬bf b xs)/\uu m (xs.map fun e=>e.map PC.er)=true
structure PA where
 k:K
 ps:List PC
 b:Nat
 o:Nat
def vj (w:World) (d:Dv) (v:Value) (p:PA):Prop:=
 d=(p.k,p.ps.map PC.er)/\(∀pc∈p.ps,Good w pc)/\
 match p.k with
 |.one=>p.ps.map PC.val=[v]
 |.agg=>v=.agg (p.ps.map PC.val).toArray
 |.ptr=>v=.pointer (some (ad p.b p.o))/\p.b<w.heap.size/\∀j c,p.ps[j]? =some c->w.cell? (ad p.b (p.o+j))=some c.val
structure xA (w:World) (sig:aM) (ds:List Dv) (vals:List Value) (pas:List PA):Prop where
 l1:vals.length=ds.length
 l2:pas.length=ds.length
 at_:∀(i:Nat) (d:Dv) (v:Value) (p:PA),ds[i]? =some d->vals[i]? =some v->pas[i]? =some p->vj w d v p
 ok:∀x∈eZ sig (pas.map (·.ps)),zA w x.1 x.2
 oI:(eZ sig (pas.map (·.ps))).Pairwise fun x y=>∀b,aX b x.2->¬aX b y.2
 free:∀pc∈me sig (pas.map (·.ps)),∀x∈eZ sig (pas.map (·.ps)),∀b,aX b pc->¬aX b x.2
 ptr:∀p∈pas,p.k=.ptr->∀x∈eZ sig (pas.map (·.ps)),¬aX p.b x.2
 aqx:∀(i:Nat) (p:PA) (s:List (Option Mode)),pas[i]? =some p->sig[i]? =some s->p.k=.ptr->yW s p.ps.length
def CT (fl:List (Mode×PC)):Ex:=⟨fun b=>∃x∈fl,aX b x.2,fun _=>none,fun _ _ h=>(by cases h),fun _=>True⟩
structure tZ (w:World) (m:Mode) (pc dv:PC):Prop where
 val:dv.val=pc.val
 ez:Good w dv
 sep:Sep dv
 sub:∀b,aX b dv->aX b pc
 flat:uu m (match dv.er with|.list _ xs=>xs|_=>[])=true
 live:∀sz a cap xs aH a' pt ar,pc=.list sz a cap xs->dv=.list aH a' pt ar->aH=sz/\a'=a/\pt=cap/\ar.length=xs.length/\
  (m=.live->∀k j c,At xs k j c->c.ie=true->∃c',At ar k j c'/\c'.val=c.val/\c'.ie=true)
def rr (P:Program) (f:FuncId) (sig:aM) (M:List Dv->Option (List Dv×List C)):Prop:=
 ∀ds rs dW,M ds=some (rs,dW)->∀(w:World) (vals:List Value) (pas:List PA),xA w sig ds vals pas->Calls P f vals.toArray w fun e w'=>
  ∃bq:List (K×List PC),bq.map (fun p=>(p.1,p.2.map PC.er))=rs/\e=.returned (wX bq)/\(∀p∈bq,p.1≠ .ptr/\(p.1=.one->p.2.length=1))/\
   vr w' w.heap.size (bq.flatMap (·.2))/\Fr w.heap.size (CT (eZ sig (pas.map (·.ps)))) w w'/\
   ∃qs:List PC,qs.map PC.er=dW/\qs.length=(eZ sig (pas.map (·.ps))).length/\
    ∀(i:Nat) (x:Mode×PC) (q:PC),(eZ sig (pas.map (·.ps)))[i]? =some x->qs[i]? =some q->tZ w' x.1 x.2 q
section
variable {B:Nat} {E:Ex} {w0 w w':World} {G G':Gh} {N:Nat} {h h':Nat->Option aq} {used:Nat->Bool}
variable {P:Program} {o:Oper} {a:Act} {σ σ':St} {Q:Exit->Act->World->Prop}
def o6 (sz:Nat) (p:PB):PC:=.list sz (if p.nl=true then p.na else some (ad p.b p.o)) p.cap p.px
theorem adM {gr:Bool} {m:Mode} {sz:Nat} {xs:List (List C)} {p:PB} (hr:ua B E w G gr m sz xs p):(o6 sz p).er=.list sz xs:=by
 rw[o6,PC.d9,hr.er]
theorem asu {gr:Bool} {m:Mode} {sz:Nat} {xs:List (List C)} {p:PB} (hr:ua B E w G gr m sz xs p) {v:Value} (hv:gM p sz 0 xs.length v):(o6 sz p).val=v:=by
 have fC:p.px.length=xs.length:=by rw[hr.er];simp
 rcases hv with⟨hn,rfl,_,hl⟩|⟨hn,a,rfl,hc,ha⟩
 ·simp[o6,PC.val,hn,fC,hl]
 ·have:=ha (.inr rfl);subst this;simp[o6,PC.val,hn,fC]
theorem ast {gr:Bool} {m:Mode} {sz:Nat} {xs:List (List C)} {p:PB} (hr:ua B E w G gr m sz xs p):Good w (o6 sz p):=by
 unfold o6;by_cases h0:p.px=[]
 ·rw[h0];exact .nil _ _ _ hr.pos
 ·have aT:p.nl=false:=by
   cases hq:p.nl with
   |false=>rfl
   |true=>exact absurd (hr.nl hq).1 h0
  obtain⟨a1,a2,a3⟩:=hr.eI aT;rw[if_neg (by simp[aT])];exact .cons _ _ _ _ _ h0 a3 hr.pos a2.1 a2.2.1 a2.2.2
theorem Ts {sz:Nat} {p:PB} {b:Nat} (hn:p.nl=true->p.px=[]) (h:aX b (o6 sz p)):(p.nl=false/\b=p.b)\/bf b p.px:=by
 unfold o6 at h;rw[aX.kN] at h;rcases h with⟨h0,o,ho⟩|⟨k,j,c,hk,hb⟩
 ·cases hq:p.nl with
  |true=>exact absurd (hn hq) h0
  |false=>
   rw[hq] at ho;simp at ho;exact .inl ⟨rfl,(lf ho).1.symm⟩
 ·exact .inr ⟨k,j,c,hk,hb⟩
def ta (G:Gh) (n b:Nat):Prop:=((G.g n).nl=false/\b=(G.g n).b)\/bf b (G.g n).px
structure tY (B:Nat) (E:Ex) (w:World) (G:Gh) (h:Nat->Option aq) (it:dz) (md:Mode) (pc:PC):Prop where
 ok:zA w md pc
 ez:Good w pc
 at_:match it with
  |.nil sz=>pc=.list sz none 0 []
  |.row n=>∃gr m sz xs,h n=some (.row gr m sz xs)/\m≠ .aI/\(md=.live->m=.live)/\pc=o6 sz (G.g n)/\uu md xs=true/\(m=.live->gr=false)
  |.nest n k off=>∃gr sz xs,h n=some (.row gr .live sz xs)/\md=.aO/\At (G.g n).px k off pc/\gr=false
theorem tY.oK {it:dz} {md:Mode} {pc:PC} (H:HR B E w G h used []) (i:tY B E w G h it md pc) {b:Nat} (hb:aX b pc):
  ∃n gr m sz xs,it.eN=some n/\h n=some (.row gr m sz xs)/\m≠ .aI/\ta G n b/\((∀b,¬bf b (G.g n).px)\/m=.live):=by
 have ha:=i.at_;cases it with
 |nil sz=>
  have ha:pc=.list sz none 0 []:=ha;subst ha;rw[aX.kN] at hb;rcases hb with⟨hb,_⟩|⟨k,j,c,⟨e,he,_⟩,_⟩
  ·exact absurd rfl hb
  ·simp at he
 |row n=>
  obtain⟨gr,m,sz,xs,h1,h2,h3,rfl,h5,_⟩:=ha;have hr:=H.row n gr m sz xs h1;refine⟨n,gr,m,sz,xs,rfl,h1,h2,Ts (fun hq=>(hr.nl hq).1) hb,?_⟩;cases md with
  |live=>exact .inr (h3 rfl)
  |aI=>cases h5
  |aO=>
   left;intro b' aJ;have KE:eO xs=true:=h5;rw[hr.er] at KE;obtain⟨k,j,c,⟨e,he,hj⟩,hc⟩:=aJ;have h6:=List.all_eq_true.1 KE (e.map PC.er) (by simp only[List.mem_map];exact⟨e,List.mem_of_getElem? he,rfl⟩);have h7:=List.all_eq_true.1 h6 c.er (by simp only[List.mem_map];exact⟨c,List.mem_of_getElem? hj,rfl⟩);exact(Sep.g9 h7).2 b' hc
 |nest n k off=>
  obtain⟨gr,sz,xs,h1,h2,h3,_⟩:=ha;exact⟨n,gr,.live,sz,xs,rfl,h1,by simp,.inr ⟨k,off,pc,h3,hb⟩,.inr rfl⟩
theorem HR.FQ (H:HR B E w G h used []) {n n':Nat} (aF:n≠n') {gr bn:Bool} {m m':Mode} {sz aH:Nat} {xs ar:List (List C)} (h1:h n=some (.row gr m sz xs)) (h2:h n'=some (.row bn m' aH ar))
  (bL:(∀b,¬bf b (G.g n').px)\/m'=.live) {b:Nat} (hb:ta G n b):¬ta G n' b:=by
 have e1:h n≠none:=by rw[h1];simp
 have e2:h n'≠none:=by rw[h2];simp
 have own:∀{p q:Nat} {gr:Bool} {m:Mode} {sz:Nat} {xs:List (List C)},h p≠none->h q=some (.row gr m sz xs)->(G.g p).nl=false->¬bf (G.g p).b (G.g q).px:=by
  intro p q gr m sz xs hp hq hl hF;have gf:=(H.row q gr m sz xs hq).mode;cases m with
  |aI=>exact(H.own p hp hl).1 (gf _ hF)
  |aO=>exact(H.own p hp hl).1 (gf.1 _ hF).1
  |live=>exact H.live q gr sz xs hq _ hF p hp hl rfl
 rintro(⟨l2,rfl⟩|b2)
 ·rcases hb with⟨l1,b1⟩|b1
  ·exact H.inj n n' e1 e2 aF l1 l2 b1.symm
  ·exact own e2 h1 l2 b1
 ·rcases hb with⟨l1,rfl⟩|b1
  ·exact own e1 h2 l1 b2
  ·rcases bL with bL|rfl
   ·exact bL b b2
   ·have q2:=(H.row n' bn .live aH ar h2).mode;have q1:=(H.row n gr m sz xs h1).mode;cases m with
    |aI=>exact(q2.1 b b2).1 (q1 b b1)
    |aO=>exact(q2.1 b b2).1 (q1.1 b b1).1
    |live=>exact H.gn n n' gr .live sz xs bn .live aH ar h1 h2 (by simp) (by simp) aF b b1 b2
theorem HR.item (H:HR B E w G h used []) {md:Mode} {c:ah} {it:dz} {x:C} {v:Value} (hx:tx h md c=some (it,x)) (hc:RC w G h c v):
  ∃pc:PC,pc.er=x/\pc.val=v/\tY B E w G h it md pc/\it.eN=c.eN:=by
 unfold tx at hx;split at hx
 ·rename_i sz;split at hx
  ·rename_i eR;injection hx with hx;injection hx with h1 h2;subst h1 h2;have dm:v=.slice none 0 0:=hc;subst dm;refine⟨.list sz none 0 [],by simp[PC.d9],rfl,⟨⟨?_,?_,sz,none,0,[],rfl,eR.1,(fun b o h=>by cases h),?_⟩,.nil _ _ _ eR.1,rfl⟩,rfl⟩
   ·refine .list _ _ _ _ ?_ ?_ ?_
    ·rintro k j c ⟨e,he,_⟩;simp at he
    ·rintro b o k j c _ ⟨e,he,_⟩;simp at he
    ·rintro k j c k' j' c' b ⟨e,he,_⟩;simp at he
   ·intro b hb;rw[aX.kN] at hb;rcases hb with⟨hb,_⟩|⟨k,j,c,⟨e,he,_⟩,_⟩
    ·exact absurd rfl hb
    ·simp at he
   ·cases md with
    |aI=>exact absurd rfl eR.2
    |aO=>rfl
    |live=>rfl
  ·cases hx
 ·rename_i n sz lo len;split at hx
  ·rename_i gr m rs xs hn;split at hx
   ·rename_i cR;obtain⟨hm,wi,rfl,rfl,rfl,lO,wa⟩:=cR;injection hx with hx;injection hx with h1 h2;subst h1 h2;have bK:h n≠none:=by rw[hn];simp
    have hs:gM (G.g n) rs 0 xs.length v:=hc bK;have hr:=H.row n gr m rs xs hn;have qD:(∀b,bf b (G.g n).px->dZ w b)/\iM (G.g n).px/\(∀b,bf b (G.g n).px->(G.g n).nl=false->b≠(G.g n).b):=by
     have dU:=hr.mode;cases m with
     |aI=>exact absurd rfl hm
     |aO=>exact⟨fun b hb=>(dU.1 b hb).2.1,dU.2,fun b hb hl fw=>(H.own n bK hl).1 (fw▸(dU.1 b hb).1)⟩
     |live=>exact⟨fun b hb=>(dU.1 b hb).2.1,dU.2,fun b hb hl=>H.live n gr rs xs hn b hb n bK hl⟩
    obtain⟨o1,o2,o3⟩:=qD;have tn:∀b o,(if(G.g n).nl=true then(G.g n).na else some (ad (G.g n).b (G.g n).o))=some (ad b o)->¬bf b (G.g n).px:=by
     intro b o gd hF;cases hq:(G.g n).nl with
     |true=>rw[(hr.nl hq).1] at hF;obtain⟨k,j,c,⟨e,he,_⟩,_⟩:=hF;simp at he
     |false=>
      rw[hq] at gd;simp at gd;exact o3 b hF hq (lf gd).1.symm
    refine⟨o6 rs (G.g n),adM hr,asu hr hs,⟨⟨.list _ _ _ _ o2.1 (fun b o k j c gd hk hb=>tn b o gd ⟨k,j,c,hk,hb⟩) o2.2,fun b hb=>?_,rs,_,_,_,rfl,hr.pos,tn,by rw[<-hr.er];exact lO⟩,ast hr,
     gr,m,rs,xs,hn,hm,wi,rfl,lO,wa⟩,rfl⟩
    rcases Ts (fun hq=>(hr.nl hq).1) hb with⟨hl,rfl⟩|hF
    ·exact(hr.eI hl).1
    ·exact o1 b hF
   ·cases hx
  ·cases hx
 ·rename_i n k aB off sz len;split at hx
  ·rename_i rs xs hn;split at hx
   ·rename_i cR;obtain⟨rfl,rfl⟩:=cR;split at hx
    ·rename_i s ys pG;split at hx
     ·rename_i lO;injection hx with hx;injection hx with h1 h2;subst h1 h2;obtain⟨pc,p1,p2,p3⟩:=hc false xs hn;have hr:=H.row n false .live rs xs hn;have aT:(G.g n).nl=false:=by
       cases hq:(G.g n).nl with
       |false=>rfl
       |true=>obtain⟨e,he,_⟩:=p1;rw[(hr.nl hq).1] at he;simp at he
      have fW:Good w pc:=(hr.eI aT).2.1.2.2 _ _ _ p1;have gG:pc.er=.list s ys:=by
       obtain⟨e,he,hj⟩:=p1;rw[hr.er] at pG;simp[he,hj] at pG;exact pG
      have jV:=hr.mode.2.1 _ _ _ p1;cases pc with
      |int k n=>cases p3
      |bool b=>cases p3
      |list s' a' pt px'=>
       rw[PC.d9] at gG;injection gG with g1 g2;subst g1;have iE:eO (px'.map fun e=>e.map PC.er)=true:=by rw[g2];exact lO
       refine⟨_,by rw[PC.d9,g2],p2,⟨⟨jV,fun b hb=>(hr.mode.1 b ⟨k,off,_,p1,hb⟩).2.1,s',a',pt,px',rfl,?_,fun b o _ hF=>?_,iE⟩,fW,false,rs,xs,hn,rfl,p1,rfl⟩,rfl⟩
       ·cases fW with
        |nil _ _ _ h=>exact h
        |cons _ _ _ _ _ _ _ h=>exact h
       ·obtain⟨kk,jj,c,⟨e,he,hj⟩,hc⟩:=hF;have h6:=List.all_eq_true.1 iE (e.map PC.er) (by simp only[List.mem_map];exact⟨e,List.mem_of_getElem? he,rfl⟩);have h7:=List.all_eq_true.1 h6 c.er (by simp only[List.mem_map];exact⟨c,List.mem_of_getElem? hj,rfl⟩);exact(Sep.g9 h7).2 b hc
     ·cases hx
    ·cases hx
   ·cases hx
  ·cases hx
 ·cases hx
theorem HR.V1 (H:HR B E w G h used []) {c:ah} {x:C} {v:Value} (hx:Am.cO h c=some x) (hc:RC w G h c v):
  ∃pc:PC,pc.er=x/\pc.val=v/\Good w pc/\∀b,aX b pc->G.Im b\/∃n gr m sz xs,c.eN=some n/\h n=some (.row gr m sz xs)/\ta G n b:=by
 cases c with
 |c y=>
  simp only[Am.cO] at hx;injection hx with hx;subst hx;obtain⟨pc,h1,h2,h3,h4⟩:=hc;exact⟨pc,h1,h2,h3,fun b hb=>.inl (h4 b hb)⟩
 |nil sz=>
  simp only[Am.cO] at hx;split at hx
  ·rename_i eR;injection hx with hx;subst hx;have dm:v=.slice none 0 0:=hc;subst dm;refine⟨.list sz none 0 [],by simp[PC.d9],rfl,.nil _ _ _ eR,fun b hb=>?_⟩;rw[aX.kN] at hb;rcases hb with⟨hb,_⟩|⟨k,j,c,⟨e,he,_⟩,_⟩
   ·exact absurd rfl hb
   ·simp at he
  ·cases hx
 |sl n sz lo len=>
  simp only[Am.cO] at hx;split at hx
  ·rename_i gr m rs xs hn;split at hx
   ·rename_i cR;obtain⟨rfl,hl⟩:=cR;injection hx with hx;subst hx;have hs:gM (G.g n) rs lo len v:=hc (by rw[hn];simp);obtain⟨a1,a2,a3,a4⟩:=Em (H.row n gr m rs xs hn) hs hl;exact⟨_,a1,a2,a3,fun b hb=>.inr ⟨n,gr,m,rs,xs,rfl,hn,a4 b hb⟩⟩
   ·cases hx
  ·cases hx
 |bw n k aB off sz len=>
  simp only[Am.cO] at hx;split at hx
  ·rename_i gr rs xs hn;split at hx
   ·rename_i cR;subst cR;obtain⟨pc,p1,p2,p3⟩:=hc gr xs hn;have hr:=H.row n gr .live rs xs hn;have aT:(G.g n).nl=false:=by
     cases hq:(G.g n).nl with
     |false=>rfl
     |true=>obtain⟨e,he,_⟩:=p1;rw[(hr.nl hq).1] at he;simp at he
    refine⟨pc,?_,p2,(hr.eI aT).2.1.2.2 _ _ _ p1,fun b hb=>.inr ⟨n,gr,.live,rs,xs,rfl,hn,.inr ⟨k,off,pc,p1,hb⟩⟩⟩;obtain⟨e,he,hj⟩:=p1;rw[hr.er] at hx;simp[he,hj] at hx;exact hx
   ·cases hx
  ·cases hx
 |ptr _ _ _ _=>simp[Am.cO] at hx
 |de _ _=>simp[Am.cO] at hx
 |cE _ _ _ _ _ _=>simp[Am.cO] at hx
 |fn _ _=>simp[Am.cO] at hx
 |cY _ _ _ _ _ _=>simp[Am.cO] at hx
 |bm=>simp[Am.cO] at hx
theorem aat {ns:List Nat} {n:Nat} {b:aq} (hx:dH h ns n=some b):h n=some b/\n∉ns:=by
 unfold dH at hx;split at hx
 ·cases hx
 ·rename_i hc;exact⟨hx,fun hm=>hc (by simpa using hm)⟩
theorem agO {ns:List Nat} {c:ah} {x:C} (hx:cO (dH h ns) c=some x):cO h c=some x/\∀n,c.eN=some n->n∉ns:=by
 cases c with
 |c y=>exact⟨hx,by intro n hn;cases hn⟩
 |nil sz=>exact⟨hx,by intro n hn;cases hn⟩
 |sl n sz lo len=>
  simp only[Am.cO] at hx;split at hx
  ·rename_i gr m rs xs hn;obtain⟨h1,h2⟩:=aat hn;exact⟨by simp only[Am.cO,h1];exact hx,by intro q hq;injection hq with hq;subst hq;exact h2⟩
  ·cases hx
 |bw n k aB off sz len=>
  simp only[Am.cO] at hx;split at hx
  ·rename_i gr rs xs hn;obtain⟨h1,h2⟩:=aat hn;exact⟨by simp only[Am.cO,h1];exact hx,by intro q hq;injection hq with hq;subst hq;exact h2⟩
  ·cases hx
 |ptr _ _ _ _=>simp[Am.cO] at hx
 |de _ _=>simp[Am.cO] at hx
 |cE _ _ _ _ _ _=>simp[Am.cO] at hx
 |fn _ _=>simp[Am.cO] at hx
 |cY _ _ _ _ _ _=>simp[Am.cO] at hx
 |bm=>simp[Am.cO] at hx
def EP (G:Gh) (h:Nat->Option aq) (ns:List Nat) (pc:PC):Prop:=
 ∀b,aX b pc->G.Im b\/∃n gr m sz xs,n∉ns/\h n=some (.row gr m sz xs)/\ta G n b
structure kz (B:Nat) (E:Ex) (w:World) (G:Gh) (h:Nat->Option aq) (its:List (dz×Mode)) (fl:List (Mode×PC)):Prop where
 len:its.length=fl.length
 at_:∀(i:Nat) (it:dz×Mode) (x:Mode×PC),its[i]? =some it->fl[i]? =some x->it.2=x.1/\tY B E w G h it.1 x.1 x.2
theorem kz.nil:kz B E w G h [] []:=⟨rfl,by intro i it x h;simp at h⟩
theorem kz.cons {it:dz×Mode} {its:List (dz×Mode)} {x:Mode×PC} {fl:List (Mode×PC)} (h1:it.2=x.1) (h2:tY B E w G h it.1 x.1 x.2) (h3:kz B E w G h its fl):kz B E w G h (it::its) (x::fl):=by
 refine⟨by simp[h3.len],fun i AJ x' hi hx=>?_⟩;cases i with
 |zero=>simp at hi hx;subst hi;subst hx;exact⟨h1,h2⟩
 |succ i=>exact h3.at_ i AJ x' (by simpa using hi) (by simpa using hx)
theorem kz.append {its pK:List (dz×Mode)} {fl Ym:List (Mode×PC)} (h1:kz B E w G h its fl) (h2:kz B E w G h pK Ym):kz B E w G h (its++pK) (fl++Ym):=by
 refine⟨by simp[h1.len,h2.len],fun i it x hi hx=>?_⟩;by_cases cj:i<its.length
 ·rw[List.getElem?_append_left cj] at hi;rw[List.getElem?_append_left (by rw[<-h1.len];exact cj)] at hx;exact h1.at_ i it x hi hx
 ·rw[List.getElem?_append_right (by omega)] at hi;rw[List.getElem?_append_right (by rw[<-h1.len];omega)] at hx;rw[h1.len] at hi;exact h2.at_ _ it x hi hx
theorem HR.jY (H:HR B E w G h used []) {ns:List Nat}:∀{fs:List (Option Mode)} {cs:List ah} {xs:List C} {its:List (dz×Mode)} {vs:List Value},Am.jY h (dH h ns) fs cs=some (xs,its)->dh w G h cs vs->
  ∃ps:List PC,ps.map PC.er=xs/\ps.map PC.val=vs/\(∀pc∈ps,Good w pc)/\kz B E w G h its (fi fs ps)/\its.filterMap (·.1.eN)=nz fs cs/\∀pc∈ox fs ps,EP G h ns pc
 |[],cs,xs,its,vs,hx,hc=>by
  simp only[Am.jY] at hx;split at hx
  ·rename_i ys hy;injection hx with hx;injection hx with h1 h2;subst h1 h2;have db:∀(cs:List ah) (xs:List C) (vs:List Value),Am.iL (dH h ns) cs=some xs->dh w G h cs vs->∃ps:List PC,ps.map PC.er=xs/\ps.map PC.val=vs/\(∀pc∈ps,Good w pc)/\∀pc∈ps,EP G h ns pc:=by
    intro cs;induction cs with
    |nil=>
     intro xs vs hx hc;simp only[Am.iL] at hx;injection hx with hx;subst hx;have:vs=[]:=List.eq_nil_of_length_eq_zero (by simpa using hc.1);subst this;exact⟨[],rfl,rfl,by simp,by simp⟩
    |cons c cs ih=>
     intro xs vs hx hc;simp only[Am.iL] at hx;split at hx
     ·rename_i x ar e1 e2;injection hx with hx;subst hx;obtain⟨hlen,cD⟩:=hc;match vs,hlen with
      |v::vs,hlen=>
       obtain⟨v1,v2⟩:=agO e1;obtain⟨pc,a1,a2,a3,a4⟩:=H.V1 v1 (cD 0 c v rfl rfl).2;obtain⟨ps,b1,b2,b3,b4⟩:=ih ar vs e2 ⟨by simpa using hlen,fun j c u h1 h2=>cD (j+1) c u h1 h2⟩;refine⟨pc::ps,by simp[a1,b1],by simp[a2,b2],fun q hq=>?_,fun q hq=>?_⟩
       ·cases hq with
        |head=>exact a3
        |tail _ hq=>exact b3 q hq
       ·cases hq with
        |head=>exact fun b hb=>(a4 b hb).imp id fun⟨n,gr,m,sz,xs,hn,h1,h2⟩=>⟨n,gr,m,sz,xs,v2 n hn,h1,h2⟩
        |tail _ hq=>exact b4 q hq
     ·cases hx
   obtain⟨ps,b1,b2,b3,b4⟩:=db cs ys vs hy hc;exact⟨ps,b1,b2,b3,by simpa[fi] using kz.nil,by simp[nz],by simpa[ox] using b4⟩
  ·cases hx
 |f::fs,[],xs,its,vs,hx,hc=>by cases f<;>simp[Am.jY] at hx
 |none::fs,c::cs,xs,its,vs,hx,hc=>by
  simp only[Am.jY] at hx;split at hx
  ·rename_i x ar pK e1 e2;injection hx with hx;injection hx with h1 h2;subst h1 h2;obtain⟨hlen,cD⟩:=hc;match vs,hlen with
   |v::vs,hlen=>
    obtain⟨v1,v2⟩:=agO e1;obtain⟨pc,a1,a2,a3,a4⟩:=H.V1 v1 (cD 0 c v rfl rfl).2;obtain⟨ps,b1,b2,b3,b4,b5,b6⟩:=H.jY e2 (vs:=vs) ⟨by simpa using hlen,fun j c u h1 h2=>cD (j+1) c u h1 h2⟩;refine⟨pc::ps,by simp[a1,b1],by simp[a2,b2],fun q hq=>?_,by simpa[fi] using b4,by simpa[nz] using b5,fun q hq=>?_⟩
    ·cases hq with
     |head=>exact a3
     |tail _ hq=>exact b3 q hq
    ·simp only[ox] at hq;cases hq with
     |head=>exact fun b hb=>(a4 b hb).imp id fun⟨n,gr,m,sz,xs,hn,h1,h2⟩=>⟨n,gr,m,sz,xs,v2 n hn,h1,h2⟩
     |tail _ hq=>exact b6 q hq
  ·cases hx
 |some md::fs,c::cs,xs,its,vs,hx,hc=>by
  simp only[Am.jY] at hx;split at hx
  ·rename_i it x ar pK e1 e2;injection hx with hx;injection hx with h1 h2;subst h1 h2;obtain⟨hlen,cD⟩:=hc;match vs,hlen with
   |v::vs,hlen=>
    obtain⟨pc,a1,a2,a3,a4⟩:=H.item e1 (cD 0 c v rfl rfl).2;obtain⟨ps,b1,b2,b3,b4,b5,b6⟩:=H.jY e2 (vs:=vs) ⟨by simpa using hlen,fun j c u h1 h2=>cD (j+1) c u h1 h2⟩;refine⟨pc::ps,by simp[a1,b1],by simp[a2,b2],fun q hq=>?_,?_,?_,fun q hq=>b6 q (by simpa[ox] using hq)⟩
    ·cases hq with
     |head=>exact a3.ez
     |tail _ hq=>exact b3 q hq
    ·simp only[fi];exact kz.cons rfl a3 b4
    ·simp only[nz,<-a4,<-b5];cases gI:it.eN with
     |none=>simp[gI]
     |some n=>simp[gI]
  ·cases hx
theorem HR.mN (H:HR B E w G h used []) {ns:List Nat}:∀{as:List (Bool×List ah)} {sig:aM} {ds:List Dv} {its:List (dz×Mode)} {vals:List Value},Am.mN h (dH h ns) sig as=some (ds,its)->vals.length=as.length->
  (∀(j:Nat) (x:Bool×List ah) (v:Value),as[j]? =some x->vals[j]? =some v->RV w G h x.1 x.2 v)->
  ∃pas:List PA,pas.length=ds.length/\vals.length=ds.length/\(∀(i:Nat) (d:Dv) (v:Value) (p:PA),ds[i]? =some d->vals[i]? =some v->pas[i]? =some p->vj w d v p)/\(∀p∈pas,p.k≠ .ptr)/\
   kz B E w G h its (eZ sig (pas.map (·.ps)))/\its.filterMap (·.1.eN)=oS sig as/\∀pc∈me sig (pas.map (·.ps)),EP G h ns pc
 |[],sig,ds,its,vals,hx,hl,hc=>by
  simp only[Am.mN] at hx;injection hx with hx;injection hx with h1 h2;subst h1 h2;refine⟨[],rfl,by simpa using hl,by simp,by simp,?_,?_,?_⟩
  ·cases sig<;>exact kz.nil
  ·cases sig<;>rfl
  ·cases sig<;>simp[me]
 |(ag,cs)::as,sig,ds,its,vals,hx,hl,hc=>by
  simp only[Am.mN] at hx;split at hx
  ·rename_i xs GF ur GG e1 e2;injection hx with hx;injection hx with h1 h2;subst h1 h2;match vals,hl with
   |v::vals,hl=>
    have h0:=hc 0 (ag,cs) v rfl rfl;obtain⟨q1,q2,q3,q4,q5,q6,q7⟩:=H.mN e2 (as:=as) (vals:=vals) (by simpa using hl) (fun j x v h1 h2=>hc (j+1) x v h1 h2);obtain⟨vs,iW,hR⟩:∃vs:List Value,(if ag=true then v=.agg vs.toArray else vs=[v])/\dh w G h cs vs:=by
     unfold RV at h0;split at h0
     ·rename_i cb;obtain⟨vs,e,hR⟩:=h0;exact⟨vs,by rw[if_pos cb];exact e,hR⟩
     ·rename_i cb;exact⟨[v],by rw[if_neg cb],h0⟩
    obtain⟨ps,p1,p2,p3,p4,p5,p6⟩:=H.jY e1 hR;refine⟨⟨if ag=true then .agg else .one,ps,0,0⟩::q1,by simp[q2],by simp[q3],fun i d v' p hd hv hp=>?_,fun p hp=>?_,?_,?_,?_⟩
    ·cases i with
     |zero=>
      simp at hd hv hp;subst hd hv hp;cases ag with
      |true=>
       simp only[if_true] at iW⊢;exact⟨by rw[p1],p3,by simp only[p2];exact iW⟩
      |false=>
       simp only[if_false,Bool.false_eq_true] at iW⊢;exact⟨by rw[p1],p3,by simp only[p2];exact iW⟩
     |succ i=>exact q4 i d v' p (by simpa using hd) (by simpa using hv) (by simpa using hp)
    ·cases hp with
     |head=>cases ag<;>simp
     |tail _ hp=>exact q5 p hp
    ·cases sig with
     |nil=>
      have e3:fi (aM.hd ([]:aM)) ps=[]:=rfl;rw[e3] at p4;have e4:GF=[]:=List.eq_nil_of_length_eq_zero p4.len;subst e4;have e5:eZ (aM.tl ([]:aM)) (q1.map (·.ps))=[]:=rfl;rw[e5] at q6;have e6:GG=[]:=List.eq_nil_of_length_eq_zero q6.len;subst e6;exact kz.nil
     |cons s sig=>exact kz.append p4 q6
    ·cases sig with
     |nil=>
      have e3:fi (aM.hd ([]:aM)) ps=[]:=rfl;rw[e3] at p4;have e4:GF=[]:=List.eq_nil_of_length_eq_zero p4.len;subst e4;have e5:eZ (aM.tl ([]:aM)) (q1.map (·.ps))=[]:=rfl;rw[e5] at q6;have e6:GG=[]:=List.eq_nil_of_length_eq_zero q6.len;subst e6;rfl
     |cons s sig=>
      rw[List.filterMap_append,p5,q7.1];rfl
    ·intro pc bg;cases sig with
     |nil=>
      simp only[List.map_cons,me,List.flatten_cons,List.mem_append] at bg;rcases bg with bg|bg
      ·exact p6 pc bg
      ·exact q7.2 pc (by simpa[me,aM.tl] using bg)
     |cons s sig=>
      simp only[List.map_cons,me,List.mem_append] at bg;rcases bg with bg|bg
      ·exact p6 pc bg
      ·exact q7.2 pc bg
  ·cases hx
end
end Go.Am
