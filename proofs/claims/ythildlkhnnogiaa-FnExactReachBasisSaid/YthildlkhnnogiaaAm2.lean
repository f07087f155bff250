/- Am1, Am2: parts of the proof. No condition. -/
import Derived.LoopN
import Derived.Orders
import Derived.Laws.AppendOwn
import Derived.Laws.MakeOwn
import Derived.Laws.Tables
import Derived.Below
set_option linter.unusedVariables false
section
namespace Go.Am
inductive C where
 |int (k:IntKind) (n:Int)
 |bool (b:Bool)
 |list (sz:Nat) (xs:List (List C))
instance:Inhabited C:=⟨.bool false⟩
def ad (b o:Nat):Addr:=⟨b,o,none⟩
theorem mY (b o n:Nat):(ad b o).add n=ad b (o+n):=by
 unfold ad Addr.add
 split
 ·rename_i h;subst h;rfl
 ·rfl
theorem jF {b o b' o':Nat} (h:ad b o=ad b' o'):b=b'/\o=o':=by
 unfold ad at h;injection h with h1 h2;exact⟨h1,h2⟩
inductive PC where
 |int (k:IntKind) (n:Int)
 |bool (b:Bool)
 |list (sz:Nat) (a:Option Addr) (cap:Nat) (xs:List (List PC))
instance:Inhabited PC:=⟨.bool false⟩
mutual
def PC.er:PC->C
 |.int k n=>.int k n
 |.bool b=>.bool b
 |.list sz _ _ xs=>.list sz (PC.DX xs)
def PC.aw:List PC->List C
 |[]=>[]
 |c::cs=>PC.er c::PC.aw cs
def PC.DX:List (List PC)->List (List C)
 |[]=>[]
 |e::es=>PC.aw e::PC.DX es
end
theorem PC.ade (l:List PC):PC.aw l=l.map PC.er:=by
 induction l with
 |nil=>simp[PC.aw]
 |cons c l ih=>simp[PC.aw,ih]
theorem PC.adb (l:List (List PC)):PC.DX l=l.map (fun e=>e.map PC.er):=by
 induction l with
 |nil=>simp[PC.DX]
 |cons c l ih=>simp[PC.DX,PC.ade,ih]
theorem PC.cN (sz:Nat) (a:Option Addr) (cap:Nat) (xs:List (List PC)):(PC.list sz a cap xs).er=.list sz (xs.map (fun e=>e.map PC.er)):=by
 simp[PC.er,PC.adb]
def PC.val:PC->Value
 |.int k n=>.int k n
 |.bool b=>.bool b
 |.list _ a cap xs=>.slice a xs.length cap
theorem PC.hY (c:PC):c.val.oneCell'=true:=by cases c<;>rfl
def At {α:Type} (xs:List (List α)) (k j:Nat) (c:α):Prop:=∃e,xs[k]? =some e/\e[j]? =some c
inductive aK (b:Nat):PC->Prop where
 |here (sz o cap:Nat) (xs:List (List PC)):xs≠[]->aK b (.list sz (some (ad b o)) cap xs)
 |there (sz:Nat) (a:Option Addr) (cap:Nat) (xs:List (List PC)) (k j:Nat) (c:PC):At xs k j c->aK b c->aK b (.list sz a cap xs)
theorem aK.jw {b sz:Nat} {a:Option Addr} {cap:Nat} {xs:List (List PC)}:
  aK b (.list sz a cap xs)↔(xs≠[]/\∃o,a=some (ad b o))\/∃k j c,At xs k j c/\aK b c:=by
 constructor
 ·intro h
  cases h with
  |here sz o cap xs h=>exact .inl ⟨h,o,rfl⟩
  |there sz a cap xs k j c h1 h2=>exact .inr ⟨k,j,c,h1,h2⟩
 ·rintro(⟨h,o,rfl⟩|⟨k,j,c,h1,h2⟩)
  ·exact .here _ _ _ _ h
  ·exact .there _ _ _ _ k j c h1 h2
theorem aK.ajX {b:Nat} {k:IntKind} {n:Int}:¬aK b (.int k n):=fun h=>by cases h
theorem aK.ajW {b:Nat} {x:Bool}:¬aK b (.bool x):=fun h=>by cases h
inductive Good (w:World):PC->Prop where
 |int (k:IntKind) (n:Int):Good w (.int k n)
 |bool (b:Bool):Good w (.bool b)
 |nil (sz:Nat) (a:Option Addr) (cap:Nat):0<sz->Good w (.list sz a cap [])
 |cons (sz b o cap:Nat) (xs:List (List PC)):xs≠[]->xs.length<=cap->0<sz->(∀e∈xs,e.length=sz)->
  (∀k j c,At xs k j c->w.cell? (ad b (o+k*sz+j))=some c.val)->(∀k j c,At xs k j c->Good w c)->Good w (.list sz (some (ad b o)) cap xs)
theorem Good.congr {w w':World} {c:PC} (h:Good w c) (hc:∀b,aK b c->∀o,w'.cell? (ad b o)=w.cell? (ad b o)):Good w' c:=by
 induction h with
 |int k n=>exact .int k n
 |bool b=>exact .bool b
 |nil sz a cap h=>exact .nil sz a cap h
 |cons sz b o cap xs h1 h2 h3 h4 h5 h6 ih=>
  refine .cons sz b o cap xs h1 h2 h3 h4 (fun k j c hk=>?_) (fun k j c hk=>ih k j c hk fun b' aE o'=>?_)
  ·rw[hc b (.here _ _ _ _ h1)];exact h5 k j c hk
  ·exact hc b' (.there _ _ _ _ k j c hk aE) o'
theorem Vq {xs:List (List PC)} {sz:Nat} (h1:xs≠[]) (h3:0<sz) (h4:∀e∈xs,e.length=sz):∃c,At xs 0 0 c:=by
 cases xs with
 |nil=>exact absurd rfl h1
 |cons e es=>
  have he:=h4 e (by simp)
  cases e with
  |nil=>simp at he;omega
  |cons c cs=>exact⟨c,c::cs,rfl,rfl⟩
theorem Good.lt {w:World} {c:PC} (h:Good w c) {b:Nat} (hb:aK b c):b<w.heap.size:=by
 induction h with
 |int k n=>cases hb
 |bool b=>cases hb
 |nil sz a cap h=>
  cases hb with
  |here _ _ _ _ h=>exact absurd rfl h
  |there _ _ _ _ k j c h1 h2=>obtain⟨e,he,_⟩:=h1;simp at he
 |cons sz b' o cap xs h1 h2 h3 h4 h5 h6 ih=>
  cases hb with
  |here _ _ _ _ h=>
   obtain⟨c,hc⟩:=Vq h1 h3 h4
   exact World.block_lt_of_cell? (a:=ad b (o+0*sz+0)) w (h5 0 0 c hc)
  |there _ _ _ _ k j c h1 h2=>exact ih k j c h1 h2
inductive Sep:PC->Prop where
 |int (k:IntKind) (n:Int):Sep (.int k n)
 |bool (b:Bool):Sep (.bool b)
 |list (sz:Nat) (a:Option Addr) (cap:Nat) (xs:List (List PC)):(∀k j c,At xs k j c->Sep c)->
  (∀b o k j c,a=some (ad b o)->At xs k j c->¬aK b c)->
  (∀k j c k' j' c' b,At xs k j c->At xs k' j' c'->(k,j)≠(k',j')->aK b c->¬aK b c')->Sep (.list sz a cap xs)
def aP (b:Nat) (px:List (List PC)):Prop:=∃k j c,At px k j c/\aK b c
def gF (px:List (List PC)):Prop:=
 (∀k j c,At px k j c->Sep c)/\∀k j c k' j' c' b,At px k j c->At px k' j' c'->(k,j)≠(k',j')->aK b c->¬aK b c'
def lR (w:World) (b o sz:Nat) (px:List (List PC)):Prop:=
 (∀e∈px,e.length=sz)/\(∀k j c,At px k j c->w.cell? (ad b (o+k*sz+j))=some c.val)/\∀k j c,At px k j c->Good w c
def cP (w:World) (b:Nat):Prop:=∃arr e,w.heap[b]? =some (.cells arr e (0,0))
theorem cP.lt {w:World} {b:Nat} (h:cP w b):b<w.heap.size:=by
 obtain⟨arr,e,h⟩:=h
 exact(Array.getElem?_eq_some_iff.1 h).1
theorem cP.congr {w w':World} {b:Nat} (h:cP w b) (hb:w'.heap[b]? =w.heap[b]?):cP w' b:=by
 obtain⟨arr,e,h⟩:=h
 exact⟨arr,e,hb.trans h⟩
theorem fO {w w':World} {b:Nat} (hb:w'.heap[b]? =w.heap[b]?) (o:Nat):w'.cell? (ad b o)=w.cell? (ad b o):=by
 simp[World.cell?,ad,hb]
theorem lR.congr {w w':World} {b o sz:Nat} {px:List (List PC)} (h:lR w b o sz px) (h1:∀o,w'.cell? (ad b o)=w.cell? (ad b o))
  (h2:∀b',aP b' px->∀o,w'.cell? (ad b' o)=w.cell? (ad b' o)):lR w' b o sz px:=
 ⟨h.1,fun k j c hk=>(h1 _).trans (h.2.1 k j c hk),fun k j c hk=>(h.2.2 k j c hk).congr fun b' aE o'=>h2 b' ⟨k,j,c,hk,aE⟩ o'⟩
theorem lR.lt {w:World} {b o sz:Nat} {px:List (List PC)} (h:lR w b o sz px) {b':Nat} (hb:aP b' px):b'<w.heap.size:=by
 obtain⟨k,j,c,hk,hc⟩:=hb
 exact(h.2.2 k j c hk).lt hc
end Go.Am
end
section
namespace Go.Am
inductive ab where
 |c (x:C)
 |nil (sz:Nat)
 |ptr (n k sz off:Nat)
 |cd (xs:List C) (off:Nat)
 |sl (n sz lo len:Nat)
 |bf (n k au off sz len:Nat)
 |bX (n k au off sz i:Nat)
 |bK (xs:List C) (off j n sz len:Nat)
 |fn (f:FuncId) (bI:List ab)
 |aX
instance:Inhabited ab:=⟨.aX⟩
inductive Mode where
 |live|af|aG
 deriving DecidableEq
inductive aj where
 |box (cs:List ab)
 |row (gr:Bool) (m:Mode) (sz:Nat) (xs:List (List C))
inductive ah where
 |one (c:ab)
 |agg (cs:List ab)
 |bk (xs:List (Bool×List ab))
instance:Inhabited ah:=⟨.one .aX⟩
structure St where
 env:Nat->ah
 h:Nat->Option aj
 used:Nat->Bool
def ao {α:Type} (f:Nat->α) (k:Nat) (v:α):Nat->α:=fun n=>match Nat.beq n k with
 |true=>v
 |false=>f n
theorem iU {α:Type} (f:Nat->α) (k:Nat) (v:α) (n:Nat):ao f k v n=if n=k then v else f n:=by
 unfold ao
 split
 ·rename_i e;rw[if_pos (Nat.eq_of_beq_eq_true e)]
 ·rename_i e;rw[if_neg (fun h=>by rw[h,Nat.beq_refl] at e;cases e)]
theorem bo {α:Type} (f:Nat->α) (k:Nat) (v:α):ao f k v k=v:=by simp[iU]
theorem bP {α:Type} (f:Nat->α) (k n:Nat) (v:α) (h:n≠k):ao f k v n=f n:=by simp[iU,h]
def ab.fL:ab->Nat->Prop
 |.ptr n _ _ _,m=>m=n
 |.sl n _ _ _,m=>m=n
 |.bf n _ _ _ _ _,m=>m=n
 |.bX n _ _ _ _ _,m=>m=n
 |.bK _ _ _ n _ _,m=>m=n
 |_,_=>False
def ab.ref:ab->Nat->Prop
 |.fn _ bI,m=>∃x∈bI,x.fL m
 |x,m=>x.fL m
def ah.ref:ah->Nat->Prop
 |.one c,m=>c.ref m
 |.agg cs,m=>∃c∈cs,c.ref m
 |.bk xs,m=>∃x∈xs,∃c∈x.2,c.ref m
structure PB where
 nl:Bool
 b:Nat
 o:Nat
 cap:Nat
 px:List (List PC)
 na:Option Addr
instance:Inhabited PB:=⟨⟨false,0,0,0,[],none⟩⟩
def aJ:Nat:=1000000
structure Ex where
 e:Nat->Prop
 nF:Nat->Option PB
 lt:∀n p,nF n=some p->aJ<=n
 a:Nat->Prop
instance:CoeFun Ex (fun _=>Nat->Prop):=⟨Ex.e⟩
def Ex.no:Ex:=⟨fun _=>False,fun _=>none,fun _ _ h=>(by cases h),fun _=>True⟩
structure Gh where
 Im:Nat->Prop
 g:Nat->PB
def PC.f6:PC->Bool
 |.list ..=>true
 |_=>false
def eU (p:PB) (sz lo len:Nat) (v:Value):Prop:=
 (p.nl=true/\v=.slice p.na 0 p.cap/\lo=0/\len=0)\/
 (p.nl=false/\∃a,v=.slice a len (p.cap - lo)/\lo+len<=p.cap/\((lo<p.cap\/lo=0)->a=some (ad p.b (p.o+lo*sz))))
def fV (w:World) (G:Gh) (h:Nat->Option aj):ab->Value->Prop
 |.c x,v=>∃pc:PC,pc.er=x/\pc.val=v/\Good w pc/\∀b,aK b pc->G.Im b
 |.nil _,v=>v=.slice none 0 0
 |.ptr n k sz off,v=>h n≠none->(G.g n).nl=false/\v=.pointer (some (ad (G.g n).b ((G.g n).o+k*sz+off)))
 |.cd xs off,v=>∃(b o:Nat) (pe:List PC),v=.pointer (some (ad b (o+off)))/\pe.map PC.er=xs/\G.Im b/\
  ∀j c,pe[j]? =some c->w.cell? (ad b (o+j))=some c.val/\Good w c/\∀b',aK b' c->G.Im b'
 |.sl n sz lo len,v=>h n≠none->eU (G.g n) sz lo len v
 |.bf n k au off sz len,v=>∀gr xs,h n=some (.row gr .live au xs)->∃pc,At (G.g n).px k off pc/\pc.val=v/\pc.f6=true
 |.bX n k au off sz i,v=>∀gr xs,h n=some (.row gr .live au xs)->∃(pc:PC) (b o len cap:Nat),At (G.g n).px k off pc/\pc.val=.slice (some (ad b o)) len cap/\pc.f6=true/\v=.pointer (some (ad b (o+i*sz)))
 |.bK xs off j n sz len,v=>∃(b o:Nat) (pe:List PC),v=.pointer (some (ad b (o+off)))/\pe.map PC.er=xs/\G.Im b/\
  (∀i c,i≠j->pe[i]? =some c->w.cell? (ad b (o+i))=some c.val/\Good w c/\∀b',aK b' c->G.Im b')/\∃u,w.cell? (ad b (o+j))=some u/\u.oneCell'=true/\(h n≠none->eU (G.g n) sz 0 len u)
 |.fn _ _,_=>False
 |.aX,_=>True
def RC (w:World) (G:Gh) (h:Nat->Option aj):ab->Value->Prop
 |.fn f bI,v=>∃vs:List Value,v=.func (.func f) #[] vs.toArray/\vs.length=bI.length/\∀(j:Nat) (c:ab) (u:Value),bI[j]? =some c->vs[j]? =some u->u.oneCell'=true/\fV w G h c u
 |c,v=>fV w G h c v
def ab.fR:ab->Bool
 |.fn _ _=>true
 |_=>false
theorem qh (w:World) (G:Gh) (h:Nat->Option aj) (c:ab) (v:Value) (hc:c.fR=false):RC w G h c v=fV w G h c v:=by
 cases c<;>first|rfl|(simp[ab.fR] at hc)
theorem ab.Rr (c:ab) (m:Nat) (hc:c.fR=false):c.ref m=c.fL m:=by
 cases c<;>first|rfl|(simp[ab.fR] at hc)
def cb (w:World) (G:Gh) (h:Nat->Option aj) (cs:List ab) (vs:List Value):Prop:=
 vs.length=cs.length/\∀(j:Nat) (c:ab) (u:Value),cs[j]? =some c->vs[j]? =some u->u.oneCell'=true/\RC w G h c u
def RV (w:World) (G:Gh) (h:Nat->Option aj) (ag:Bool) (cs:List ab) (v:Value):Prop:=
 if ag then∃vs:List Value,v=.agg vs.toArray/\cb w G h cs vs else cb w G h cs [v]
def RA (w:World) (G:Gh) (h:Nat->Option aj):ah->Value->Prop
 |.one c,v=>c=.aX\/RV w G h false [c] v
 |.agg cs,v=>RV w G h true cs v
 |.bk xs,v=>∃vs:List Value,v=.tuple vs.toArray/\vs.length=xs.length/\∀(j:Nat) (x:Bool×List ab) (u:Value),xs[j]? =some x->vs[j]? =some u->RV w G h x.1 x.2 u
structure aR (w:World) (G:Gh) (h:Nat->Option aj) (used:Nat->Prop) (w':World) (G':Gh) (h':Nat->Option aj):Prop where
 im:∀b,G.Im b->G'.Im b
 cell:∀b,G.Im b->∀o,w'.cell? (ad b o)=w.cell? (ad b o)
 name:∀n,used n->h' n≠none->h n≠none/\(G'.g n).nl=(G.g n).nl/\(G'.g n).b=(G.g n).b/\(G'.g n).o=(G.g n).o/\(G'.g n).cap=(G.g n).cap/\(G'.g n).na=(G.g n).na
 live:∀n gr sz xs,used n->h' n=some (.row gr .live sz xs)->(∃pj hZ,h n=some (.row pj .live sz hZ))/\
  ∀k j pc,At (G.g n).px k j pc->pc.f6=true->∃cm,At (G'.g n).px k j cm/\cm.val=pc.val/\cm.f6=true
section
variable {w w':World} {G G':Gh} {h h':Nat->Option aj} {used:Nat->Prop}
theorem fV.eJ (K:aR w G h used w' G' h') {c:ab} {v:Value} (hr:∀m,c.fL m->used m) (hc:fV w G h c v):fV w' G' h' c v:=by
 cases c with
 |c x=>
  obtain⟨pc,h1,h2,h3,h4⟩:=hc
  exact⟨pc,h1,h2,h3.congr fun b hb o=>K.cell b (h4 b hb) o,fun b hb=>K.im b (h4 b hb)⟩
 |nil sz=>exact hc
 |ptr n k sz off=>
  intro hn
  obtain⟨h0,e1,e2,e3,e4,e5⟩:=K.name n (hr n rfl) hn
  rw[e1,e2,e3]
  exact hc h0
 |cd xs off=>
  obtain⟨b,o,pe,h1,h2,h3,h4⟩:=hc
  refine⟨b,o,pe,h1,h2,K.im b h3,fun j c hj=>?_⟩
  obtain⟨a1,a2,a3⟩:=h4 j c hj
  exact⟨(K.cell b h3 _).trans a1,a2.congr fun b' aE o'=>K.cell b' (a3 b' aE) o',fun b' aE=>K.im b' (a3 b' aE)⟩
 |sl n sz lo len=>
  intro hn
  obtain⟨h0,e1,e2,e3,e4,e5⟩:=K.name n (hr n rfl) hn
  have:=hc h0
  unfold eU at*
  rw[e1,e2,e3,e4,e5]
  exact this
 |bf n k au off sz len=>
  intro gr xs hn
  obtain⟨⟨pj,hZ,h0⟩,hl⟩:=K.live n gr au xs (hr n rfl) hn
  obtain⟨pc,p1,p2,p3⟩:=hc pj hZ h0
  obtain⟨cm,q1,q2,q3⟩:=hl k off pc p1 p3
  exact⟨cm,q1,q2.trans p2,q3⟩
 |bX n k au off sz i=>
  intro gr xs hn
  obtain⟨⟨pj,hZ,h0⟩,hl⟩:=K.live n gr au xs (hr n rfl) hn
  obtain⟨pc,b,o,len,cap,p1,p2,p3,p4⟩:=hc pj hZ h0
  obtain⟨cm,q1,q2,q3⟩:=hl k off pc p1 p3
  exact⟨cm,b,o,len,cap,q1,q2.trans p2,q3,p4⟩
 |bK xs off j n sz len=>
  obtain⟨b,o,pe,h1,h2,h3,h4,h5⟩:=hc
  obtain⟨u,u1,u2,u3⟩:=h5
  refine⟨b,o,pe,h1,h2,K.im b h3,fun i c gL hi=>?_,u,(K.cell b h3 _).trans u1,u2,fun hn=>?_⟩
  ·obtain⟨a1,a2,a3⟩:=h4 i c gL hi
   exact⟨(K.cell b h3 _).trans a1,a2.congr fun b' aE o'=>K.cell b' (a3 b' aE) o',fun b' aE=>K.im b' (a3 b' aE)⟩
  ·obtain⟨h0,e1,e2,e3,e4,e5⟩:=K.name n (hr n rfl) hn
   have:=u3 h0
   unfold eU at*
   rw[e1,e2,e3,e4,e5]
   exact this
 |fn f bI=>exact hc
 |aX=>trivial
theorem RC.eJ (K:aR w G h used w' G' h') {c:ab} {v:Value} (hr:∀m,c.ref m->used m) (hc:RC w G h c v):RC w' G' h' c v:=by
 by_cases hf:c.fR=false
 ·rw[qh _ _ _ _ _ hf] at*
  exact hc.eJ K fun m hm=>hr m (by rw[ab.Rr c m hf];exact hm)
 ·cases c<;>first|(simp[ab.fR] at hf;done)|skip
  obtain⟨vs,h1,h2,h3⟩:=hc
  exact⟨vs,h1,h2,fun j c u hj hu=>⟨(h3 j c u hj hu).1,(h3 j c u hj hu).2.eJ K fun m hm=>hr m ⟨c,List.mem_of_getElem? hj,hm⟩⟩⟩
theorem cb.eJ (K:aR w G h used w' G' h') {cs:List ab} {vs:List Value} (hr:∀c∈cs,∀m,c.ref m->used m) (hc:cb w G h cs vs):cb w' G' h' cs vs:=
 ⟨hc.1,fun j c u hj hu=>⟨(hc.2 j c u hj hu).1,(hc.2 j c u hj hu).2.eJ K (hr c (List.mem_of_getElem? hj))⟩⟩
theorem RV.eJ (K:aR w G h used w' G' h') {ag:Bool} {cs:List ab} {v:Value} (hr:∀c∈cs,∀m,c.ref m->used m) (hc:RV w G h ag cs v):RV w' G' h' ag cs v:=by
 unfold RV at*
 split
 ·rename_i h1
  simp only[h1,if_true] at hc
  obtain⟨vs,e,hv⟩:=hc
  exact⟨vs,e,hv.eJ K hr⟩
 ·rename_i h1
  simp only[h1] at hc
  exact cb.eJ K hr hc
theorem RA.eJ (K:aR w G h used w' G' h') {x:ah} {v:Value} (hr:∀m,x.ref m->used m) (hc:RA w G h x v):RA w' G' h' x v:=by
 cases x with
 |one c=>exact hc.imp id fun hv=>hv.eJ K fun c' bZ m hm=>hr m (by simp at bZ;subst bZ;exact hm)
 |agg cs=>exact RV.eJ K (fun c' bZ m hm=>hr m ⟨c',bZ,hm⟩) hc
 |bk xs=>
  obtain⟨vs,e,hl,hv⟩:=hc
  exact⟨vs,e,hl,fun j x u hj hu=>(hv j x u hj hu).eJ K fun c' bZ m hm=>hr m ⟨x,List.mem_of_getElem? hj,c',bZ,hm⟩⟩
end
def AY (w:World) (p:PB) (sz:Nat):Prop:=p.cap<=maxLen/\∃cur e,w.heap[p.b]? =some (.cells cur e (0,0))/\cur.size=p.o+p.cap*sz
def yJ (B:Nat) (E:Ex) (w:World) (G:Gh) (px:List (List PC)):Mode->Prop
 |.aG=>∀b,aP b px->G.Im b
 |.af=>(∀b,aP b px->G.Im b/\cP w b/\(B<=b\/E b))/\gF px
 |.live=>(∀b,aP b px->¬G.Im b/\cP w b/\(B<=b\/E b))/\gF px
def nR (w:World):PC->Prop
 |.list sz a cap xs=>cap=0\/(xs≠[]/\cap<=maxLen/\∃b o cur e,a=some (ad b o)/\w.heap[b]? =some (.cells cur e (0,0))/\cur.size=o+cap*sz)
 |_=>True
def qg (w:World) (sz:Nat) (px:List (List PC)):Prop:=∀k pc,At px k (sz - 1) pc->nR w pc
theorem nR.cz {w w':World} {pc:PC} (h:nR w pc) (hb:∀b,aK b pc->∀arr e,w.heap[b]? =some (.cells arr e (0,0))->∃sZ,w'.heap[b]? =some (.cells sZ e (0,0))/\sZ.size=arr.size):nR w' pc:=by
 cases pc with
 |int k n=>trivial
 |bool b=>trivial
 |list sz a cap xs=>
  rcases h with h|⟨h1,h2,b,o,cur,e,rfl,h4,h5⟩
  ·exact .inl h
  ·obtain⟨sZ,q1,q2⟩:=hb b (.here _ _ _ _ h1) cur e h4
   exact .inr ⟨h1,h2,b,o,sZ,e,rfl,q1,by rw[q2];exact h5⟩
theorem qg.congr {w w':World} {sz:Nat} {px:List (List PC)} (h:qg w sz px) (hb:∀b,aP b px->w'.heap[b]? =w.heap[b]?):qg w' sz px:=
 fun k pc hk=>(h k pc hk).cz fun b aE arr e he=>⟨arr,(hb b ⟨k,_,pc,hk,aE⟩).trans he,rfl⟩
theorem qg.cz {w w':World} {sz:Nat} {px:List (List PC)} (h:qg w sz px) (hb:∀b,aP b px->∀arr e,w.heap[b]? =some (.cells arr e (0,0))->∃sZ,w'.heap[b]? =some (.cells sZ e (0,0))/\sZ.size=arr.size):qg w' sz px:=
 fun k pc hk=>(h k pc hk).cz fun b aE=>hb b ⟨k,_,pc,hk,aE⟩
structure sW (B:Nat) (E:Ex) (w:World) (G:Gh) (gr:Bool) (m:Mode) (sz:Nat) (xs:List (List C)) (p:PB):Prop where
 pos:0<sz
 er:xs=p.px.map (fun e=>e.map PC.er)
 nl:p.nl=true->p.px=[]/\(gr=true->p.cap=0)
 cZ:p.nl=false->cP w p.b/\lR w p.b p.o sz p.px/\p.px.length<=p.cap
 room:p.nl=false->gr=true->AY w p sz
 mode:yJ B E w G p.px m
 nr:gr=true->m=.live->qg w sz p.px
structure HR (B:Nat) (E:Ex) (w:World) (G:Gh) (h:Nat->Option aj) (used:Nat->Bool) (tk:List PC):Prop where
 gT:∀n,h n≠none->used n=true
 gd:∀m cs c n,h m=some (.box cs)->c∈cs->c.ref n->used n=true
 box:∀n cs,h n=some (.box cs)->(G.g n).nl=false/\cP w (G.g n).b/\
  ∀(j:Nat) (c:ab),cs[j]? =some c->∃v,w.cell? (ad (G.g n).b ((G.g n).o+j))=some v/\v.oneCell'=true/\RC w G h c v
 row:∀n gr m sz xs,h n=some (.row gr m sz xs)->sW B E w G gr m sz xs (G.g n)
 own:∀n,h n≠none->(G.g n).nl=false->¬G.Im (G.g n).b/\(B<=(G.g n).b\/E (G.g n).b)/\(G.g n).b<w.heap.size
 inj:∀n n',h n≠none->h n'≠none->n≠n'->(G.g n).nl=false->(G.g n').nl=false->(G.g n).b≠(G.g n').b
 e7:∀b,G.Im b->b<w.heap.size
 ov:∀b,G.Im b->B<=b\/E b\/E.a b
 eV:∀n n' gr m sz xs aW m' ax ak,h n=some (.row gr m sz xs)->h n'=some (.row aW m' ax ak)->m≠ .aG->m'≠ .aG->n≠n'->
  ∀b,aP b (G.g n).px->¬aP b (G.g n').px
 live:∀n gr sz xs,h n=some (.row gr .live sz xs)->∀b,aP b (G.g n).px->∀n',h n'≠none->(G.g n').nl=false->b≠(G.g n').b
 ru:∀(i:Nat) (pc:PC),tk[i]? =some pc->Sep pc/\∀b,aK b pc->G.Im b/\cP w b/\(B<=b\/E b)
 wq:∀(i j:Nat) (pc cm:PC) (b:Nat),i≠j->tk[i]? =some pc->tk[j]? =some cm->aK b pc->¬aK b cm
 rv:∀(i:Nat) (pc:PC) (n:Nat) (gr:Bool) (m:Mode) (sz:Nat) (xs:List (List C)) (b:Nat),tk[i]? =some pc->h n=some (.row gr m sz xs)->m≠ .aG->aK b pc->¬aP b (G.g n).px
def Cz (w w':World) (b:Nat):Prop:=∀arr e,w.heap[b]? =some (.cells arr e (0,0))->∃sZ,w'.heap[b]? =some (.cells sZ e (0,0))/\sZ.size=arr.size
theorem Cz.refl (w:World) (b:Nat):Cz w w b:=fun arr _ h=>⟨arr,h,rfl⟩
theorem Cz.of_eq {w w':World} {b:Nat} (h:w'.heap[b]? =w.heap[b]?):Cz w w' b:=fun arr _ h1=>⟨arr,h.trans h1,rfl⟩
theorem Cz.trans {w w1 w2:World} {b:Nat} (h1:Cz w w1 b) (h2:Cz w1 w2 b):Cz w w2 b:=fun arr e h=>by
 obtain⟨a1,e1,s1⟩:=h1 arr e h
 obtain⟨a2,e2,s2⟩:=h2 a1 e e1
 exact⟨a2,e2,s2.trans s1⟩
theorem Cz.iT {w w':World} {b:Nat} (h:Cz w w' b) (hu:cP w b):cP w' b:=by
 obtain⟨arr,e,hu⟩:=hu
 obtain⟨a,e1,_⟩:=h arr e hu
 exact⟨a,e,e1⟩
structure Fr (B:Nat) (E:Ex) (w0 w:World):Prop where
 os:w.os=w0.os
 tape:w.tape=w0.tape
 output:w.output=w0.output
 size:B<=w.heap.size
 block:∀b,b<B->¬E b->w.heap[b]? =w0.heap[b]?
 iT:∀b,b<B->Cz w0 w b
def ab2 (p q:PB) (b:aj):Prop:=
 q.nl=p.nl/\q.b=p.b/\q.o=p.o/\q.cap=p.cap/\q.na=p.na/\
  ∀gr sz xs,b=.row gr .live sz xs->∀k j pc,At p.px k j pc->pc.f6=true->∃cm,At q.px k j cm/\cm.val=pc.val/\cm.f6=true
structure R (B:Nat) (E:Ex) (w0:World) (N:Nat) (σ:St) (a:Act) (w:World) (G:Gh):Prop where
 defers:a.defers=[]
 size:a.tmps.size=N
 env:∀s,RA w G σ.h (σ.env s) (a.tmps.getD s undef)
 nO:∀s n,(σ.env s).ref n->σ.used n=true
 hr:HR B E w G σ.h σ.used []
 fr:Fr B E w0 w
 nF:∀n p b,E.nF n=some p->σ.h n=some b->ab2 p (G.g n) b
 t8:∀n,aJ<=n->σ.used n=true
end Go.Am
end
