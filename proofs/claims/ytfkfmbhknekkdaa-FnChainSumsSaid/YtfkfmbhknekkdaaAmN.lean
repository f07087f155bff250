/- Am1, Am2, Am3, Am4, Am5, Am6, Am7, Am8, Am9, Am10, Am11, Am12, Am13, Am14, Am15, Am16, AmM, AmN: parts of the proof. No condition. -/
import Derived.LoopN
import Derived.Orders
import Derived.Laws.AppendOwn
import Derived.Laws.MakeOwn
import Derived.Laws.Tables
import Derived.Below
import Derived.Laws.Small
import Derived.Laws.StructEq
set_option linter.unusedVariables false
set_option linter.unusedSimpArgs false
open List renaming mem_of_getElem?->zaa,getElem?_eq_some_iff->zab,getElem?_eq_getElem->zac,getElem?_map->zad,eq_nil_of_length_eq_zero->zae,getElem?_append_left->zaf,getElem?_append_right->zag,map_cons->zaj,all_eq_true->zan,getElem_of_mem->zao,length_nil->zar,mem_of_mem_drop->zat,mem_of_mem_take->zau,mem_append->zav,mem_map->zaw,getElem?_toArray->zax,nil_append->zay,length_map->zaz,flatten_cons->zaA,length_cons->zaC,getElem?_drop->zaD,length_append->zaF,mem_map_of_mem->zaJ,map_append->zaK,nodup_cons->zaL,mem_or_eq_of_mem_set->zaO,size_toArray->zaQ,append_assoc->zaR,getElem?_take_of_lt->zaS,drop_eq_nil_of_le->zaT,getElem?_set_self->zaU,getElem?_eq_none->zaV,map_nil->zaZ,getElem?_set_ne->za1,take_zero->za2,length_flatMap->za4,flatten_append->za6,map_take->za7,map_drop->za8,ne_nil_of_mem->za9,pairwise_cons->zbb,mem_filterMap->zbc,zipIdx_cons->zbf,flatten_nil->zbg,append_nil->zbi,drop_zero->zbj,sum_cons->zbl
open Nat renaming mul_le_mul_right->zah,add_mul->zai,lt_of_lt_of_le->zak,zero_add->zal,add_assoc->zam,le_refl->zaq,le_mul_of_pos_right->zaE,le_trans->zaG,eq_zero_or_pos->zaM,add_zero->zaN,lt_trichotomy->zaP,zero_mul->zaX,mul_comm->zaY,add_le_add_left->za5,div_eq_of_lt->zbe,mul_add_div->zbh,lt_irrefl->zbk,lt_or_ge->zbm
open Array renaming length_toList->zap,getElem?_eq_some_iff->zaB,toList_map->zaH,getD_eq_getD_getElem?->zaI,size_append->zbd,ext'->zbn
open Bool renaming and_eq_true->zas,false_eq_true->zba
open Ne renaming symm->zaW
open Option renaming map_none->za0
open Int renaming toNat_of_nonneg->za3
namespace Go.Am
inductive C where
 |int (k:IntKind) (n:Int)
 |bool (b:Bool)
 |list (sz:Nat) (xs:List (List C))
instance:Inhabited C:=⟨.bool false⟩
def ad (b o:Nat):Addr:=⟨b,o,none⟩
theorem ud (b o n:Nat):(ad b o).add n=ad b (o+n):=by
 unfold ad Addr.add;split
 ·rename_i h;subst h;rfl
 ·rfl
theorem pZ {b o b' o':Nat} (h:ad b o=ad b' o'):b=b'/\o=o':=by
 unfold ad at h;injection h with h1 h2;exact⟨h1,h2⟩
inductive PC where
 |int (k:IntKind) (n:Int)
 |bool (b:Bool)
 |list (sz:Nat) (a:Option Addr) (cap:Nat) (xs:List (List PC))
instance:Inhabited PC:=⟨.bool false⟩
mutual
def PC.er:PC->C
 |.int k n=>.int k n
 |.bool b=>.bool b
 |.list sz _ _ xs=>.list sz (PC.Gu xs)
def PC.aW:List PC->List C
 |[]=>[]
 |c::cs=>PC.er c::PC.aW cs
def PC.Gu:List (List PC)->List (List C)
 |[]=>[]
 |e::es=>PC.aW e::PC.Gu es
end
theorem PC.ajb (l:List PC):PC.aW l=l.map PC.er:=by
 induction l with
 |nil=>simp[PC.aW]
 |cons c l ih=>simp[PC.aW,ih]
theorem PC.aja (l:List (List PC)):PC.Gu l=l.map (fun e=>e.map PC.er):=by
 induction l with
 |nil=>simp[PC.Gu]
 |cons c l ih=>simp[PC.Gu,PC.ajb,ih]
theorem PC.fo (sz:Nat) (a:Option Addr) (cap:Nat) (xs:List (List PC)):(PC.list sz a cap xs).er=.list sz (xs.map (fun e=>e.map PC.er)):=by
 simp[PC.er,PC.aja]
def PC.val:PC->Value
 |.int k n=>.int k n
 |.bool b=>.bool b
 |.list _ a cap xs=>.slice a xs.length cap
theorem PC.nG (c:PC):c.val.oneCell'=true:=by cases c<;>rfl
def At {α:Type} (xs:List (List α)) (k j:Nat) (c:α):Prop:=∃e,xs[k]? =some e/\e[j]? =some c
inductive bD (b:Nat):PC->Prop where
 |here (sz o cap:Nat) (xs:List (List PC)):xs≠[]->bD b (.list sz (some (ad b o)) cap xs)
 |there (sz:Nat) (a:Option Addr) (cap:Nat) (xs:List (List PC)) (k j:Nat) (c:PC):At xs k j c->bD b c->bD b (.list sz a cap xs)
theorem bD.nA {b sz:Nat} {a:Option Addr} {cap:Nat} {xs:List (List PC)}:
  bD b (.list sz a cap xs)↔(xs≠[]/\∃o,a=some (ad b o))\/∃k j c,At xs k j c/\bD b c:=by
 constructor
 ·intro h;cases h with
  |here sz o cap xs h=>exact .inl ⟨h,o,rfl⟩
  |there sz a cap xs k j c h1 h2=>exact .inr ⟨k,j,c,h1,h2⟩
 ·rintro(⟨h,o,rfl⟩|⟨k,j,c,h1,h2⟩)
  ·exact .here _ _ _ _ h
  ·exact .there _ _ _ _ k j c h1 h2
theorem bD.aq3 {b:Nat} {k:IntKind} {n:Int}:¬bD b (.int k n):=fun h=>by cases h
theorem bD.aq2 {b:Nat} {x:Bool}:¬bD b (.bool x):=fun h=>by cases h
inductive Good (w:World):PC->Prop where
 |int (k:IntKind) (n:Int):Good w (.int k n)
 |bool (b:Bool):Good w (.bool b)
 |nil (sz:Nat) (a:Option Addr) (cap:Nat):0<sz->Good w (.list sz a cap [])
 |cons (sz b o cap:Nat) (xs:List (List PC)):xs≠[]->xs.length<=cap->0<sz->(∀e∈xs,e.length=sz)->
  (∀k j c,At xs k j c->w.cell? (ad b (o+k*sz+j))=some c.val)->(∀k j c,At xs k j c->Good w c)->Good w (.list sz (some (ad b o)) cap xs)
theorem Good.congr {w w':World} {c:PC} (h:Good w c) (hc:∀b,bD b c->∀o,w'.cell? (ad b o)=w.cell? (ad b o)):Good w' c:=by
 induction h with
 |int k n=>exact .int k n
 |bool b=>exact .bool b
 |nil sz a cap h=>exact .nil sz a cap h
 |cons sz b o cap xs h1 h2 h3 h4 h5 h6 ih=>
  refine .cons sz b o cap xs h1 h2 h3 h4 (fun k j c hk=>?_) (fun k j c hk=>ih k j c hk fun b' bB o'=>?_)
  ·rw[hc b (.here _ _ _ _ h1)];exact h5 k j c hk
  ·exact hc b' (.there _ _ _ _ k j c hk bB) o'
theorem XZ {xs:List (List PC)} {sz:Nat} (h1:xs≠[]) (h3:0<sz) (h4:∀e∈xs,e.length=sz):∃c,At xs 0 0 c:=by
 cases xs with
 |nil=>exact absurd rfl h1
 |cons e es=>
  have he:=h4 e (by simp);cases e with
  |nil=>simp at he;omega
  |cons c cs=>exact⟨c,c::cs,rfl,rfl⟩
theorem Good.lt {w:World} {c:PC} (h:Good w c) {b:Nat} (hb:bD b c):b<w.heap.size:=by
 induction h with
 |int k n=>cases hb
 |bool b=>cases hb
 |nil sz a cap h=>
  cases hb with
  |here _ _ _ _ h=>exact absurd rfl h
  |there _ _ _ _ k j c h1 h2=>obtain⟨e,he,_⟩:=h1;simp at he
 |cons sz b' o cap xs h1 h2 h3 h4 h5 h6 ih=>
  cases hb with
  |here _ _ _ _ h=>
   obtain⟨c,hc⟩:=XZ h1 h3 h4;exact World.block_lt_of_cell? (a:=ad b (o+0*sz+0)) w (h5 0 0 c hc)
  |there _ _ _ _ k j c h1 h2=>exact ih k j c h1 h2
inductive Sep:PC->Prop where
 |int (k:IntKind) (n:Int):Sep (.int k n)
 |bool (b:Bool):Sep (.bool b)
 |list (sz:Nat) (a:Option Addr) (cap:Nat) (xs:List (List PC)):(∀k j c,At xs k j c->Sep c)->
  (∀b o k j c,a=some (ad b o)->At xs k j c->¬bD b c)->
  (∀k j c k' j' c' b,At xs k j c->At xs k' j' c'->(k,j)≠(k',j')->bD b c->¬bD b c')->Sep (.list sz a cap xs)
def bH (b:Nat) (px:List (List PC)):Prop:=∃k j c,At px k j c/\bD b c
def kx (px:List (List PC)):Prop:=
 (∀k j c,At px k j c->Sep c)/\∀k j c k' j' c' b,At px k j c->At px k' j' c'->(k,j)≠(k',j')->bD b c->¬bD b c'
def ry (w:World) (b o sz:Nat) (px:List (List PC)):Prop:=
 (∀e∈px,e.length=sz)/\(∀k j c,At px k j c->w.cell? (ad b (o+k*sz+j))=some c.val)/\∀k j c,At px k j c->Good w c
def fy (w:World) (b:Nat):Prop:=∃arr e,w.heap[b]? =some (.cells arr e (0,0))
theorem fy.lt {w:World} {b:Nat} (h:fy w b):b<w.heap.size:=by
 obtain⟨arr,e,h⟩:=h;exact(zaB.1 h).1
theorem fy.congr {w w':World} {b:Nat} (h:fy w b) (hb:w'.heap[b]? =w.heap[b]?):fy w' b:=by
 obtain⟨arr,e,h⟩:=h;exact⟨arr,e,hb.trans h⟩
theorem kM {w w':World} {b:Nat} (hb:w'.heap[b]? =w.heap[b]?) (o:Nat):w'.cell? (ad b o)=w.cell? (ad b o):=by
 simp[World.cell?,ad,hb]
theorem ry.congr {w w':World} {b o sz:Nat} {px:List (List PC)} (h:ry w b o sz px) (h1:∀o,w'.cell? (ad b o)=w.cell? (ad b o))
  (h2:∀b',bH b' px->∀o,w'.cell? (ad b' o)=w.cell? (ad b' o)):ry w' b o sz px:=
 ⟨h.1,fun k j c hk=>(h1 _).trans (h.2.1 k j c hk),fun k j c hk=>(h.2.2 k j c hk).congr fun b' bB o'=>h2 b' ⟨k,j,c,hk,bB⟩ o'⟩
theorem ry.lt {w:World} {b o sz:Nat} {px:List (List PC)} (h:ry w b o sz px) {b':Nat} (hb:bH b' px):b'<w.heap.size:=by
 obtain⟨k,j,c,hk,hc⟩:=hb;exact(h.2.2 k j c hk).lt hc
inductive aj where
 |c (x:C)
 |nil (sz:Nat)
 |ptr (n k sz off:Nat)
 |dr (xs:List C) (off:Nat)
 |sl (n sz lo len:Nat)
 |ct (n k aR off sz len:Nat)
 |dY (n k aR off sz i:Nat)
 |cN (xs:List C) (off j n sz len:Nat)
 |fn (f:FuncId) (c9:List aj)
 |cd
instance:Inhabited aj:=⟨.cd⟩
inductive Mode where
 |live|bc|aL
 deriving DecidableEq
inductive av where
 |box (cs:List aj)
 |row (gr:Bool) (m:Mode) (sz:Nat) (xs:List (List C))
inductive ao where
 |one (c:aj)
 |agg (cs:List aj)
 |cf (xs:List (Bool×List aj))
instance:Inhabited ao:=⟨.one .cd⟩
structure St where
 env:Nat->ao
 h:Nat->Option av
 used:Nat->Bool
def aQ {α:Type} (f:Nat->α) (k:Nat) (v:α):Nat->α:=fun n=>match Nat.beq n k with
 |true=>v
 |false=>f n
theorem lc {α:Type} (f:Nat->α) (k:Nat) (v:α) (n:Nat):aQ f k v n=if n=k then v else f n:=by
 unfold aQ;split
 ·rename_i e;rw[if_pos (Nat.eq_of_beq_eq_true e)]
 ·rename_i e;rw[if_neg (fun h=>by rw[h,Nat.beq_refl] at e;cases e)]
theorem cJ {α:Type} (f:Nat->α) (k:Nat) (v:α):aQ f k v k=v:=by simp[lc]
theorem dA {α:Type} (f:Nat->α) (k n:Nat) (v:α) (h:n≠k):aQ f k v n=f n:=by simp[lc,h]
def aj.kq:aj->Nat->Prop
 |.ptr n _ _ _,m=>m=n
 |.sl n _ _ _,m=>m=n
 |.ct n _ _ _ _ _,m=>m=n
 |.dY n _ _ _ _ _,m=>m=n
 |.cN _ _ _ n _ _,m=>m=n
 |_,_=>False
def aj.ref:aj->Nat->Prop
 |.fn _ c9,m=>∃x∈c9,x.kq m
 |x,m=>x.kq m
def ao.ref:ao->Nat->Prop
 |.one c,m=>c.ref m
 |.agg cs,m=>∃c∈cs,c.ref m
 |.cf xs,m=>∃x∈xs,∃c∈x.2,c.ref m
structure PB where
 nl:Bool
 b:Nat
 o:Nat
 cap:Nat
 px:List (List PC)
 na:Option Addr
instance:Inhabited PB:=⟨⟨false,0,0,0,[],none⟩⟩
def aD:Nat:=1000000
structure Ex where
 e:Nat->Prop
 qw:Nat->Option PB
 lt:∀n p,qw n=some p->aD<=n
 a:Nat->Prop
instance:CoeFun Ex (fun _=>Nat->Prop):=⟨Ex.e⟩
def Ex.no:Ex:=⟨fun _=>False,fun _=>none,fun _ _ h=>(by cases h),fun _=>True⟩
structure Gh where
 Im:Nat->Prop
 g:Nat->PB
def PC.jG:PC->Bool
 |.list ..=>true
 |_=>false
def lm (p:PB) (sz lo len:Nat) (v:Value):Prop:=
 (p.nl=true/\v=.slice p.na 0 p.cap/\lo=0/\len=0)\/
 (p.nl=false/\∃a,v=.slice a len (p.cap - lo)/\lo+len<=p.cap/\((lo<p.cap\/lo=0)->a=some (ad p.b (p.o+lo*sz))))
def kK (w:World) (G:Gh) (h:Nat->Option av):aj->Value->Prop
 |.c x,v=>∃pc:PC,pc.er=x/\pc.val=v/\Good w pc/\∀b,bD b pc->G.Im b
 |.nil _,v=>v=.slice none 0 0
 |.ptr n k sz off,v=>h n≠none->(G.g n).nl=false/\v=.pointer (some (ad (G.g n).b ((G.g n).o+k*sz+off)))
 |.dr xs off,v=>∃(b o:Nat) (pe:List PC),v=.pointer (some (ad b (o+off)))/\pe.map PC.er=xs/\G.Im b/\
  ∀j c,pe[j]? =some c->w.cell? (ad b (o+j))=some c.val/\Good w c/\∀b',bD b' c->G.Im b'
 |.sl n sz lo len,v=>h n≠none->lm (G.g n) sz lo len v
 |.ct n k aR off sz len,v=>∀gr xs,h n=some (.row gr .live aR xs)->∃pc,At (G.g n).px k off pc/\pc.val=v/\pc.jG=true
 |.dY n k aR off sz i,v=>∀gr xs,h n=some (.row gr .live aR xs)->∃(pc:PC) (b o len cap:Nat),At (G.g n).px k off pc/\pc.val=.slice (some (ad b o)) len cap/\pc.jG=true/\v=.pointer (some (ad b (o+i*sz)))
 |.cN xs off j n sz len,v=>∃(b o:Nat) (pe:List PC),v=.pointer (some (ad b (o+off)))/\pe.map PC.er=xs/\G.Im b/\
  (∀i c,i≠j->pe[i]? =some c->w.cell? (ad b (o+i))=some c.val/\Good w c/\∀b',bD b' c->G.Im b')/\∃u,w.cell? (ad b (o+j))=some u/\u.oneCell'=true/\(h n≠none->lm (G.g n) sz 0 len u)
 |.fn _ _,_=>False
 |.cd,_=>True
def RC (w:World) (G:Gh) (h:Nat->Option av):aj->Value->Prop
 |.fn f c9,v=>∃vs:List Value,v=.func (.func f) #[] vs.toArray/\vs.length=c9.length/\∀(j:Nat) (c:aj) (u:Value),c9[j]? =some c->vs[j]? =some u->u.oneCell'=true/\kK w G h c u
 |c,v=>kK w G h c v
def aj.nZ:aj->Bool
 |.fn _ _=>true
 |_=>false
theorem yF (w:World) (G:Gh) (h:Nat->Option av) (c:aj) (v:Value) (hc:c.nZ=false):RC w G h c v=kK w G h c v:=by
 cases c<;>first|rfl|(simp[aj.nZ] at hc)
theorem aj.aei (c:aj) (m:Nat) (hc:c.nZ=false):c.ref m=c.kq m:=by
 cases c<;>first|rfl|(simp[aj.nZ] at hc)
def dT (w:World) (G:Gh) (h:Nat->Option av) (cs:List aj) (vs:List Value):Prop:=
 vs.length=cs.length/\∀(j:Nat) (c:aj) (u:Value),cs[j]? =some c->vs[j]? =some u->u.oneCell'=true/\RC w G h c u
def RV (w:World) (G:Gh) (h:Nat->Option av) (ag:Bool) (cs:List aj) (v:Value):Prop:=
 if ag then∃vs:List Value,v=.agg vs.toArray/\dT w G h cs vs else dT w G h cs [v]
def RA (w:World) (G:Gh) (h:Nat->Option av):ao->Value->Prop
 |.one c,v=>c=.cd\/RV w G h false [c] v
 |.agg cs,v=>RV w G h true cs v
 |.cf xs,v=>∃vs:List Value,v=.tuple vs.toArray/\vs.length=xs.length/\∀(j:Nat) (x:Bool×List aj) (u:Value),xs[j]? =some x->vs[j]? =some u->RV w G h x.1 x.2 u
structure bW (w:World) (G:Gh) (h:Nat->Option av) (used:Nat->Prop) (w':World) (G':Gh) (h':Nat->Option av):Prop where
 im:∀b,G.Im b->G'.Im b
 cell:∀b,G.Im b->∀o,w'.cell? (ad b o)=w.cell? (ad b o)
 name:∀n,used n->h' n≠none->h n≠none/\(G'.g n).nl=(G.g n).nl/\(G'.g n).b=(G.g n).b/\(G'.g n).o=(G.g n).o/\(G'.g n).cap=(G.g n).cap/\(G'.g n).na=(G.g n).na
 live:∀n gr sz xs,used n->h' n=some (.row gr .live sz xs)->(∃Bf nI,h n=some (.row Bf .live sz nI))/\
  ∀k j pc,At (G.g n).px k j pc->pc.jG=true->∃eX,At (G'.g n).px k j eX/\eX.val=pc.val/\eX.jG=true
section
variable {w w':World} {G G':Gh} {h h':Nat->Option av} {used:Nat->Prop}
theorem kK.keep (K:bW w G h used w' G' h') {c:aj} {v:Value} (hr:∀m,c.kq m->used m) (hc:kK w G h c v):kK w' G' h' c v:=by
 cases c with
 |c x=>
  obtain⟨pc,h1,h2,h3,h4⟩:=hc;exact⟨pc,h1,h2,h3.congr fun b hb o=>K.cell b (h4 b hb) o,fun b hb=>K.im b (h4 b hb)⟩
 |nil sz=>exact hc
 |ptr n k sz off=>
  intro hn;obtain⟨h0,e1,e2,e3,e4,e5⟩:=K.name n (hr n rfl) hn;rw[e1,e2,e3];exact hc h0
 |dr xs off=>
  obtain⟨b,o,pe,h1,h2,h3,h4⟩:=hc;refine⟨b,o,pe,h1,h2,K.im b h3,fun j c hj=>?_⟩;obtain⟨a1,a2,a3⟩:=h4 j c hj;exact⟨(K.cell b h3 _).trans a1,a2.congr fun b' bB o'=>K.cell b' (a3 b' bB) o',fun b' bB=>K.im b' (a3 b' bB)⟩
 |sl n sz lo len=>
  intro hn;obtain⟨h0,e1,e2,e3,e4,e5⟩:=K.name n (hr n rfl) hn;have:=hc h0;unfold lm at*
  rw[e1,e2,e3,e4,e5];exact this
 |ct n k aR off sz len=>
  intro gr xs hn;obtain⟨⟨Bf,nI,h0⟩,hl⟩:=K.live n gr aR xs (hr n rfl) hn;obtain⟨pc,p1,p2,p3⟩:=hc Bf nI h0;obtain⟨eX,q1,q2,q3⟩:=hl k off pc p1 p3;exact⟨eX,q1,q2.trans p2,q3⟩
 |dY n k aR off sz i=>
  intro gr xs hn;obtain⟨⟨Bf,nI,h0⟩,hl⟩:=K.live n gr aR xs (hr n rfl) hn;obtain⟨pc,b,o,len,cap,p1,p2,p3,p4⟩:=hc Bf nI h0;obtain⟨eX,q1,q2,q3⟩:=hl k off pc p1 p3;exact⟨eX,b,o,len,cap,q1,q2.trans p2,q3,p4⟩
 |cN xs off j n sz len=>
  obtain⟨b,o,pe,h1,h2,h3,h4,h5⟩:=hc;obtain⟨u,u1,u2,u3⟩:=h5;refine⟨b,o,pe,h1,h2,K.im b h3,fun i c kO hi=>?_,u,(K.cell b h3 _).trans u1,u2,fun hn=>?_⟩
  ·obtain⟨a1,a2,a3⟩:=h4 i c kO hi;exact⟨(K.cell b h3 _).trans a1,a2.congr fun b' bB o'=>K.cell b' (a3 b' bB) o',fun b' bB=>K.im b' (a3 b' bB)⟩
  ·obtain⟨h0,e1,e2,e3,e4,e5⟩:=K.name n (hr n rfl) hn;have:=u3 h0;unfold lm at*
   rw[e1,e2,e3,e4,e5];exact this
 |fn f c9=>exact hc
 |cd=>trivial
theorem RC.keep (K:bW w G h used w' G' h') {c:aj} {v:Value} (hr:∀m,c.ref m->used m) (hc:RC w G h c v):RC w' G' h' c v:=by
 by_cases hf:c.nZ=false
 ·rw[yF _ _ _ _ _ hf] at*
  exact hc.keep K fun m hm=>hr m (by rw[aj.aei c m hf];exact hm)
 ·cases c<;>first|(simp[aj.nZ] at hf;done)|skip
  obtain⟨vs,h1,h2,h3⟩:=hc;exact⟨vs,h1,h2,fun j c u hj hu=>⟨(h3 j c u hj hu).1,(h3 j c u hj hu).2.keep K fun m hm=>hr m ⟨c,zaa hj,hm⟩⟩⟩
theorem dT.keep (K:bW w G h used w' G' h') {cs:List aj} {vs:List Value} (hr:∀c∈cs,∀m,c.ref m->used m) (hc:dT w G h cs vs):dT w' G' h' cs vs:=
 ⟨hc.1,fun j c u hj hu=>⟨(hc.2 j c u hj hu).1,(hc.2 j c u hj hu).2.keep K (hr c (zaa hj))⟩⟩
theorem RV.keep (K:bW w G h used w' G' h') {ag:Bool} {cs:List aj} {v:Value} (hr:∀c∈cs,∀m,c.ref m->used m) (hc:RV w G h ag cs v):RV w' G' h' ag cs v:=by
 unfold RV at*
 split
 ·rename_i h1;simp only[h1,if_true] at hc;obtain⟨vs,e,hv⟩:=hc;exact⟨vs,e,hv.keep K hr⟩
 ·rename_i h1;simp only[h1] at hc;exact dT.keep K hr hc
theorem RA.keep (K:bW w G h used w' G' h') {x:ao} {v:Value} (hr:∀m,x.ref m->used m) (hc:RA w G h x v):RA w' G' h' x v:=by
 cases x with
 |one c=>exact hc.imp id fun hv=>hv.keep K fun c' dO m hm=>hr m (by simp at dO;subst dO;exact hm)
 |agg cs=>exact RV.keep K (fun c' dO m hm=>hr m ⟨c',dO,hm⟩) hc
 |cf xs=>
  obtain⟨vs,e,hl,hv⟩:=hc;exact⟨vs,e,hl,fun j x u hj hu=>(hv j x u hj hu).keep K fun c' dO m hm=>hr m ⟨x,zaa hj,c',dO,hm⟩⟩
end
def PL (w:World) (p:PB) (sz:Nat):Prop:=p.cap<=maxLen/\∃cur e,w.heap[p.b]? =some (.cells cur e (0,0))/\cur.size=p.o+p.cap*sz
def JS (B:Nat) (E:Ex) (w:World) (G:Gh) (px:List (List PC)):Mode->Prop
 |.aL=>∀b,bH b px->G.Im b
 |.bc=>(∀b,bH b px->G.Im b/\fy w b/\(B<=b\/E b))/\kx px
 |.live=>(∀b,bH b px->¬G.Im b/\fy w b/\(B<=b\/E b))/\kx px
structure wV (B:Nat) (E:Ex) (w:World) (G:Gh) (gr:Bool) (m:Mode) (sz:Nat) (xs:List (List C)) (p:PB):Prop where
 pos:0<sz
 er:xs=p.px.map (fun e=>e.map PC.er)
 nl:p.nl=true->p.px=[]/\(gr=true->p.cap=0)
 fN:p.nl=false->fy w p.b/\ry w p.b p.o sz p.px/\p.px.length<=p.cap
 room:p.nl=false->gr=true->PL w p sz
 mode:JS B E w G p.px m
structure HR (B:Nat) (E:Ex) (w:World) (G:Gh) (h:Nat->Option av) (used:Nat->Bool) (tk:List PC):Prop where
 kN:∀n,h n≠none->used n=true
 jQ:∀m cs c n,h m=some (.box cs)->c∈cs->c.ref n->used n=true
 box:∀n cs,h n=some (.box cs)->(G.g n).nl=false/\fy w (G.g n).b/\
  ∀(j:Nat) (c:aj),cs[j]? =some c->∃v,w.cell? (ad (G.g n).b ((G.g n).o+j))=some v/\v.oneCell'=true/\RC w G h c v
 row:∀n gr m sz xs,h n=some (.row gr m sz xs)->wV B E w G gr m sz xs (G.g n)
 own:∀n,h n≠none->(G.g n).nl=false->¬G.Im (G.g n).b/\(B<=(G.g n).b\/E (G.g n).b)/\(G.g n).b<w.heap.size
 inj:∀n n',h n≠none->h n'≠none->n≠n'->(G.g n).nl=false->(G.g n').nl=false->(G.g n).b≠(G.g n').b
 jq:∀b,G.Im b->b<w.heap.size
 rW:∀b,G.Im b->B<=b\/E b\/E.a b
 iF:∀n n' gr m sz xs cc m' be az,h n=some (.row gr m sz xs)->h n'=some (.row cc m' be az)->m≠ .aL->m'≠ .aL->n≠n'->
  ∀b,bH b (G.g n).px->¬bH b (G.g n').px
 live:∀n gr sz xs,h n=some (.row gr .live sz xs)->∀b,bH b (G.g n).px->∀n',h n'≠none->(G.g n').nl=false->b≠(G.g n').b
 tU:∀(i:Nat) (pc:PC),tk[i]? =some pc->Sep pc/\∀b,bD b pc->G.Im b/\fy w b/\(B<=b\/E b)
 yk:∀(i j:Nat) (pc eX:PC) (b:Nat),i≠j->tk[i]? =some pc->tk[j]? =some eX->bD b pc->¬bD b eX
 tV:∀(i:Nat) (pc:PC) (n:Nat) (gr:Bool) (m:Mode) (sz:Nat) (xs:List (List C)) (b:Nat),tk[i]? =some pc->h n=some (.row gr m sz xs)->m≠ .aL->bD b pc->¬bH b (G.g n).px
def Cz (w w':World) (b:Nat):Prop:=∀arr e,w.heap[b]? =some (.cells arr e (0,0))->∃XX,w'.heap[b]? =some (.cells XX e (0,0))/\XX.size=arr.size
theorem Cz.refl (w:World) (b:Nat):Cz w w b:=fun arr _ h=>⟨arr,h,rfl⟩
theorem Cz.of_eq {w w':World} {b:Nat} (h:w'.heap[b]? =w.heap[b]?):Cz w w' b:=fun arr _ h1=>⟨arr,h.trans h1,rfl⟩
theorem Cz.trans {w w1 w2:World} {b:Nat} (h1:Cz w w1 b) (h2:Cz w1 w2 b):Cz w w2 b:=fun arr e h=>by
 obtain⟨a1,e1,s1⟩:=h1 arr e h;obtain⟨a2,e2,s2⟩:=h2 a1 e e1;exact⟨a2,e2,s2.trans s1⟩
theorem Cz.kv {w w':World} {b:Nat} (h:Cz w w' b) (hu:fy w b):fy w' b:=by
 obtain⟨arr,e,hu⟩:=hu;obtain⟨a,e1,_⟩:=h arr e hu;exact⟨a,e,e1⟩
structure Fr (B:Nat) (E:Ex) (w0 w:World):Prop where
 os:w.os=w0.os
 tape:w.tape=w0.tape
 output:w.output=w0.output
 size:B<=w.heap.size
 block:∀b,b<B->¬E b->w.heap[b]? =w0.heap[b]?
 kv:∀b,b<B->Cz w0 w b
def aho (p q:PB) (b:av):Prop:=
 q.nl=p.nl/\q.b=p.b/\q.o=p.o/\q.cap=p.cap/\q.na=p.na/\
  ∀gr sz xs,b=.row gr .live sz xs->∀k j pc,At p.px k j pc->pc.jG=true->∃eX,At q.px k j eX/\eX.val=pc.val/\eX.jG=true
structure R (B:Nat) (E:Ex) (w0:World) (N:Nat) (σ:St) (a:Act) (w:World) (G:Gh):Prop where
 defers:a.defers=[]
 size:a.tmps.size=N
 env:∀s,RA w G σ.h (σ.env s) (a.tmps.getD s undef)
 vh:∀s n,(σ.env s).ref n->σ.used n=true
 hr:HR B E w G σ.h σ.used []
 fr:Fr B E w0 w
 qw:∀n p b,E.qw n=some p->σ.h n=some b->aho p (G.g n) b
 Ca:∀n,aD<=n->σ.used n=true
inductive MO where
 |t (n:Nat)
 |k (v:ao)
inductive aY where
 |mv (x:MO)
 |pick (c x y:MO)
 |alloc (zs:List aj)
 |box (sz:Nat) (x:MO)
 |build (zs:List aj) (parts:List (Nat×Nat×MO))
 |hZ (sz:Nat) (parts:List MO)
 |load (ag:Bool) (sz:Nat) (x:MO)
 |rZ (ag:Bool) (sz:Nat) (x:MO)
 |store (sz:Nat) (x v:MO)
 |jM (x:MO)
 |bin (op:BinOp) (x y:MO)
 |rB (op:BinOp) (x y:MO)
 |un (op:UnOp) (x:MO)
 |conv (k:IntKind) (x:MO)
 |jK (m:Mode) (sz by_:Nat) (zs:List C) (l c:MO)
 |slice (sz:Nat) (x:MO) (lo hi:Option MO)
 |tail (sz:Nat) (x lo:MO)
 |qd (off:Nat) (x:MO)
 |pC (sz:Nat) (x i:MO)
 |ext (i:Nat) (x:MO)
 |sW (ag:Bool) (off sz:Nat) (x:MO)
 |sk (f:FuncId) (fZ:Bool) (x:MO)
 |len (x:MO)
 |append (fl:Bool) (sz by_:Nat) (x y:MO)
 |copy (sz:Nat) (x y:MO)
 |m6 (z:C) (x:MO)
 |mm (mx:Bool) (x y:MO)
 |call (m:Mode) (f:FuncId) (xs:List MO)
 |qa (f:FuncId) (xs:List MO)
 |re (f:FuncId) (xs:List MO)
 |qb (m:Mode) (x:MO) (xs:List MO)
 |lv (m:Mode) (f:FuncId) (xs:List MO)
 |lr (f:FuncId) (xs:List MO)
 |nM (f:FuncId) (xs:List MO)
 |mD (f:FuncId) (xs:List MO)
 |nN (m:Mode) (f:FuncId) (xs:List MO)
 |o8 (m:Mode) (f:FuncId) (x:MO) (xs:List MO)
structure cT where
 dst:Option Nat
 op:aY
 guard:Option (Nat×Bool)
inductive kJ where
 |skip
 |eF (uv:Bool) (ops:List cT)
 |rl (ps:List (Nat×Nat)) (ops:List cT)
 |seq (a b:kJ)
 |cond (c:MO) (a b:kJ)
 |block (id:Nat) (c:kJ)
 |join (ke kh:List Nat) (cn:List (Bool×Nat×Nat×Nat×Mode)) (c:kJ)
 |loop (id:Nat) (ke kh:List Nat) (cn:List (Bool×Nat×Nat×Nat×Mode)) (c:kJ)
 |exit (id:Nat)
 |ret
inductive K where
 |one|agg|ptr
 deriving DecidableEq
abbrev Dv:=K×List C
abbrev aU:=List (List (Option Mode))
structure aZ where
 pure:List (FuncId×(List Dv->Option (List Dv)))
 wi:List (FuncId×aU×(List Dv->Option (List Dv×List C)))
 vs:List (FuncId×(List Dv->Option (List Dv×List C)))
 ws:List (FuncId×aU×(List Dv->Option (Nat×Nat)))
 xs:List (FuncId×Nat×(List Dv->Option (List Dv×List C)))
def aZ.ph:List (FuncId×aU×(List Dv->Option (List Dv×List C)))->FuncId->Option (aU×(List Dv->Option (List Dv×List C)))
 |[],_=>none
 |(g,M)::l,f=>if f=g then some M else aZ.ph l f
def aZ.uz:List (FuncId×aU×(List Dv->Option (Nat×Nat)))->FuncId->Option (aU×(List Dv->Option (Nat×Nat)))
 |[],_=>none
 |(g,M)::l,f=>if f=g then some M else aZ.uz l f
def aZ.uA:List (FuncId×Nat×(List Dv->Option (List Dv×List C)))->FuncId->Option (Nat×(List Dv->Option (List Dv×List C)))
 |[],_=>none
 |(g,M)::l,f=>if f=g then some M else aZ.uA l f
def aZ.nc:List (FuncId×(List Dv->Option (List Dv×List C)))->FuncId->Option (List Dv->Option (List Dv×List C))
 |[],_=>none
 |(g,M)::l,f=>if f=g then some M else aZ.nc l f
def aZ.find:List (FuncId×(List Dv->Option (List Dv)))->FuncId->Option (List Dv->Option (List Dv))
 |[],_=>none
 |(g,M)::l,f=>if f=g then some M else aZ.find l f
inductive ua where
 |gC (σ:St)
 |ext (id:Nat) (σ:St)
 |ret (σ:St)
def St.ev (σ:St):MO->ao
 |.t n=>σ.env n
 |.k v=>v
def St.put (σ:St) (d:Option Nat) (v:ao):St:=
 match d with
 |some n=>{σ with env:=aQ σ.env n v}
 |none=>σ
def St.ins (σ:St) (n:Nat) (b:av):Option St:=
 if σ.used n=true then none else some {σ with h:=aQ σ.h n (some b),used:=aQ σ.used n true}
def St.fx (σ:St) (n:Nat) (b:av):St:={σ with h:=aQ σ.h n (some b)}
def St.del (σ:St) (n:Nat):St:={σ with h:=aQ σ.h n none}
def ao.cells?:ao->Option (Bool×List aj)
 |.one .cd=>none
 |.one c=>some (false,[c])
 |.agg cs=>some (true,cs)
 |.cf _=>none
def pT:Bool->List aj->ao
 |true,cs=>.agg cs
 |false,[c]=>.one c
 |false,_=>.one .cd
def sub {α:Type} (l:List α) (off sz:Nat):Option (List α):=if off+sz<=l.length then some ((l.drop off).take sz) else none
def dz {α:Type} (l:List α) (off:Nat) (vs:List α):List α:=l.take off++vs++l.drop (off+vs.length)
def C.gK:C->Bool
 |.list ..=>false
 |_=>true
def g8 (l:List C):Bool:=l.all C.gK
def jv (l:List (List C)):Bool:=l.all g8
def jJ (n k rs:Nat):Nat->List C->List aj
 |_,[]=>[]
 |off,.list sz ys::l=>.ct n k rs off sz ys.length::jJ n k rs (off+1) l
 |off,x::l=>.c x::jJ n k rs (off+1) l
def loadAt (h:Nat->Option av) (p:aj) (sz:Nat):Option (List aj):=
 match p with
 |.ptr n k aR off=>
  match h n with
  |some (.box cs)=>if k=0 then sub cs off sz else none
  |some (.row _ m rs xs)=>
   if aR=rs then
    match xs[k]? with
    |some e=>match sub e off sz with
     |some l=>some (if m=.live then jJ n k rs off l else l.map .c)
     |none=>none
    |none=>none
   else none
  |none=>none
 |.dr xs off=>(sub xs off sz).map (·.map .c)
 |.cN xs off j n s len=>if off=j/\sz=1 then some [.sl n s 0 len] else if off+sz<=j then(sub xs off sz).map (·.map .c) else none
 |_=>none
def dq (h:Nat->Option av):aj->Option C
 |.c x=>some x
 |.nil sz=>if 0<sz then some (.list sz []) else none
 |.sl n sz lo len=>
  match h n with
  |some (.row _ _ rs xs)=>if rs=sz/\lo+len<=xs.length then some (.list sz ((xs.drop lo).take len)) else none
  |_=>none
 |.ct n k aR off sz len=>
  match h n with
  |some (.row _ .live rs xs)=>if rs=aR then(xs[k]?).bind (·[off]?) else none
  |_=>none
 |_=>none
def jP (h:Nat->Option av):List aj->Option (List C)
 |[]=>some []
 |c::cs=>match dq h c,jP h cs with
  |some x,some xs=>some (x::xs)
  |_,_=>none
def j5 (h:Nat->Option av):ao->Option Dv
 |.one (.ptr n k sz off)=>
  match h n with
  |some (.box cs)=>if k=0/\off=0 then(jP h cs).map fun l=>(.ptr,l) else none
  |_=>none
 |.one (.dr xs off)=>if off=0 then some (.ptr,xs) else none
 |.one c=>(dq h c).map fun x=>(.one,[x])
 |.agg cs=>(jP h cs).map fun l=>(.agg,l)
 |.cf _=>none
def ot (h:Nat->Option av):List ao->Option (List Dv)
 |[]=>some []
 |c::cs=>match j5 h c,ot h cs with
  |some x,some xs=>some (x::xs)
  |_,_=>none
def St.io (σ:St):aj->Option (C×Bool×St)
 |.c x=>some (x,x.gK,σ)
 |.nil sz=>if 0<sz then some (.list sz [],true,σ) else none
 |.sl n sz lo len=>
  match σ.h n with
  |some (.row _ m rs xs)=>if rs=sz/\lo=0/\len<=xs.length then some (.list sz (xs.take len),decide (m≠ .aL),σ.del n) else none
  |_=>none
 |_=>none
def St.gY (σ:St):List aj->Option (List C×Bool×St)
 |[]=>some ([],true,σ)
 |c::cs=>match σ.io c with
  |some (x,o,σ1)=>match σ1.gY cs with
   |some (xs,o',σ2)=>some (x::xs,o&&o',σ2)
   |none=>none
  |none=>none
def St.vG (σ:St):aj->Option St
 |.ptr n _ _ _=>match σ.h n with
  |some (.box cs)=>match σ.gY cs with
   |some (xs,_,σ1)=>some (σ1.fx n (.box (xs.map .c)))
   |none=>none
  |_=>none
 |_=>none
def St.oe (sz:Nat) (σ:St):List ao->Option (List (List C)×Bool×St)
 |[]=>some ([],true,σ)
 |v::vs=>match v.cells? with
  |some (_,cs)=>if cs.length=sz then
   match σ.gY cs with
   |some (e,o,σ1)=>match σ1.oe sz vs with
    |some (es,o',σ2)=>some (e::es,o&&o',σ2)
    |none=>none
   |none=>none
   else none
  |none=>none
def St.imp (m:Mode) (σ:St):Nat->List C->Option (List aj×Nat×St)
 |nm,[]=>some ([],nm,σ)
 |nm,.list sz xs::cs=>match σ.ins nm (.row true m sz xs) with
  |some σ1=>match σ1.imp m (nm+1) cs with
   |some (l,gV,σ2)=>some (.sl nm sz 0 xs.length::l,gV,σ2)
   |none=>none
  |none=>none
 |nm,x::cs=>match σ.imp m nm cs with
  |some (l,gV,σ2)=>some (.c x::l,gV,σ2)
  |none=>none
def St.kG (m:Mode) (σ:St):Nat->List Dv->Option (List (Bool×List aj)×St)
 |_,[]=>some ([],σ)
 |nm,(.ptr,_)::_=>none
 |nm,(k,cs)::ds=>match σ.imp m nm cs with
  |some (l,gV,σ1)=>match σ1.kG m gV ds with
   |some (ls,σ2)=>some ((decide (k=.agg),l)::ls,σ2)
   |none=>none
  |none=>none
def nC:List (Bool×List aj)->ao
 |[(ag,cs)]=>pT ag cs
 |l=>.cf l
def tw (d:Option Nat):Nat:=match d with|some n=>1000*(n+1)|none=>999
def ly:List Dv->Option (List (Bool×List aj))
 |[]=>some []
 |(.ptr,_)::_=>none
 |(k,cs)::ds=>match ly ds with
  |some ls=>some ((decide (k=.agg),cs.map .c)::ls)
  |none=>none
def Dw (T:aZ) (f:FuncId) (as:List ao) (h:Nat->Option av):Option ao:=
 match ot h as with
 |some ds=>match aZ.find T.pure f with
  |some M=>match M ds with
   |some rs=>match ly rs with
    |some ls=>some (nC ls)
    |none=>none
   |none=>none
  |none=>none
 |none=>none
def w7 (T:aZ) (m:Mode) (d:Option Nat) (f:FuncId) (as:List ao) (σ:St):Option St:=
 match ot σ.h as with
 |some ds=>match aZ.find T.pure f with
  |some M=>match M ds with
   |some rs=>match σ.kG m (tw d) rs with
    |some (ls,σ1)=>some (σ1.put d (nC ls))
    |none=>none
   |none=>none
  |none=>none
 |none=>none
def qZ:aj->Option C
 |.c x=>some x
 |.nil sz=>if 0<sz then some (.list sz []) else none
 |_=>none
def mh:List aj->Option (List C)
 |[]=>some []
 |c::cs=>match qZ c,mh cs with
  |some x,some xs=>some (x::xs)
  |_,_=>none
def oB (h:Nat->Option av):ao->Option (Nat×List C)
 |.one (.ptr n k _ off)=>if k=0/\off=0 then match h n with
  |some (.box cs)=>match mh cs with
   |some xs=>some (n,xs)
   |none=>none
  |_=>none
  else none
 |_=>none
def St.jS (σ:St):List ao->Option (List Dv×List Nat×St)
 |[]=>some ([],[],σ)
 |v::vs=>match oB σ.h v with
  |some (n,xs)=>match σ.jS vs with
   |some (ds,ns,σ1)=>some ((.ptr,xs)::ds,n::ns,σ1)
   |none=>none
  |none=>match v.cells? with
   |some (ag,cs)=>match σ.gY cs with
    |some (xs,_,σ1)=>match σ1.jS vs with
     |some (ds,ns,σ2)=>some ((if ag=true then .agg else .one,xs)::ds,ns,σ2)
     |none=>none
    |none=>none
   |none=>none
def St.tz (σ:St):List Nat->List C->Option St
 |[],[]=>some σ
 |[n],out=>match σ.h n with
  |some (.box cs)=>if cs.length=out.length then some (σ.fx n (.box (out.map .c))) else none
  |_=>none
 |_,_=>none
def sJ (σ:St) (d:Option Nat):List Dv->Option St
 |[(.ptr,cs)]=>match d with
  |some q=>match σ.ins q (.box (cs.map .c)) with
   |some σ1=>some (σ1.put d (.one (.ptr q 0 0 0)))
   |none=>none
  |none=>none
 |rs=>match ly rs with
  |some ls=>some (σ.put d (nC ls))
  |none=>none
def sM (T:aZ) (d:Option Nat) (f:FuncId) (as:List ao) (σ:St):Option St:=
 match σ.jS as,aZ.nc T.vs f with
 |some (ds,ns,σ1),some M=>match M ds with
  |some (rs,out)=>match σ1.tz ns out with
   |some σ2=>sJ σ2 d rs
   |none=>none
  |none=>none
 |_,_=>none
def Ce:List ao->Option (List Dv)
 |[]=>some []
 |v::vs=>match v.cells? with
  |some (ag,cs)=>match mh cs with
   |some xs=>match Ce vs with
    |some ds=>some ((if ag=true then .agg else .one,xs)::ds)
    |none=>none
   |none=>none
  |none=>none
def A6 (T:aZ) (f:FuncId) (as:List ao):Option ao:=
 match Ce as,aZ.nc T.vs f with
 |some ds,some M=>match M ds with
  |some (rs,[])=>match ly rs with
   |some ls=>some (nC ls)
   |none=>none
  |_=>none
 |_,_=>none
theorem amC {c:aj} {x:C} (h:qZ c=some x) (σ:St):∃o,σ.io c=some (x,o,σ):=by
 cases c with
 |c y=>simp only[qZ] at h;injection h with h;subst h;exact⟨_,rfl⟩
 |nil sz=>
  simp only[qZ] at h;split at h
  ·rename_i hp;injection h with h;subst h;exact⟨_,if_pos hp⟩
  ·cases h
 |_=>simp[qZ] at h
theorem abe:∀{cs:List aj} {xs:List C},mh cs=some xs->∀σ:St,∃o,σ.gY cs=some (xs,o,σ)
 |[],xs,h,σ=>by simp only[mh] at h;injection h with h;subst h;exact⟨_,rfl⟩
 |c::cs,xs,h,σ=>by
  simp only[mh] at h;split at h
  ·rename_i x az e1 e2;injection h with h;subst h;obtain⟨o1,h1⟩:=amC e1 σ;obtain⟨o2,h2⟩:=abe e2 σ;exact⟨o1&&o2,by simp only[St.gY,h1,h2]⟩
  ·cases h
theorem ad4:∀{as:List ao} {ds:List Dv},Ce as=some ds->∀σ:St,σ.jS as=some (ds,[],σ)
 |[],ds,h,σ=>by simp only[Ce] at h;injection h with h;subst h;rfl
 |v::vs,ds,h,σ=>by
  simp only[Ce] at h;split at h
  ·rename_i ag cs hc;split at h
   ·rename_i xs hi;split at h
    ·rename_i vC hq;injection h with h;subst h;have hp:oB σ.h v=none:=by
      unfold oB;split
      ·simp only[ao.cells?] at hc;injection hc with hc;injection hc with _ hc;subst hc;simp[mh,qZ] at hi
      ·rfl
     obtain⟨o,ht⟩:=abe hi σ;simp only[St.jS,hp,hc,ht,ad4 hq σ]
    ·cases h
   ·cases h
  ·cases h
theorem aiZ {T:aZ} {d:Option Nat} {f:FuncId} {as:List ao} {v:ao} (h:A6 T f as=some v) (σ:St):sM T d f as σ=some (σ.put d v):=by
 unfold A6 at h;split at h
 ·rename_i ds M hq hM;split at h
  ·rename_i rs nf;split at h
   ·rename_i ls hl;injection h with h;subst h;simp only[sM,ad4 hq σ,hM,nf,St.tz];unfold sJ;split
    ·simp[ly] at hl
    ·rw[hl]
   ·cases h
  ·cases h
 ·cases h
def C.vB:C->Bool
 |.list _ xs=>jv xs
 |_=>true
def C.ti:C->Bool
 |.list ..=>true
 |_=>false
def vF:Mode->List (List C)->Bool
 |.bc,xs=>jv xs
 |.live,xs=>xs.all fun e=>e.all C.vB
 |.aL,_=>false
inductive dG where
 |nil (sz:Nat)
 |row (n:Nat)
 |nest (n k off:Nat)
def uT (h:Nat->Option av) (md:Mode):aj->Option (dG×C)
 |.nil sz=>if 0<sz/\md≠ .aL then some (.nil sz,.list sz []) else none
 |.sl n sz lo len=>match h n with
  |some (.row _ m rs xs)=>if m≠ .aL/\(md=.live->m=.live)/\rs=sz/\lo=0/\len=xs.length/\vF md xs=true then some (.row n,.list sz xs) else none
  |_=>none
 |.ct n k aR off sz len=>match h n with
  |some (.row _ .live rs xs)=>if rs=aR/\md=.bc then
   match(xs[k]?).bind (·[off]?) with
   |some (.list s ys)=>if jv ys=true then some (.nest n k off,.list s ys) else none
   |_=>none
   else none
  |_=>none
 |_=>none
def dG.ff:dG->Option Nat
 |.nil _=>none
 |.row n=>some n
 |.nest n _ _=>some n
def aj.ff:aj->Option Nat
 |.sl n _ _ _=>some n
 |.ct n _ _ _ _ _=>some n
 |_=>none
def oR:List (Option Mode)->List aj->List Nat
 |some _::fs,c::cs=>c.ff.toList++oR fs cs
 |none::fs,_::cs=>oR fs cs
 |_,_=>[]
def kT (h h0:Nat->Option av):List (Option Mode)->List aj->Option (List C×List (dG×Mode))
 |[],cs=>match jP h0 cs with
  |some xs=>some (xs,[])
  |none=>none
 |none::fs,c::cs=>match dq h0 c,kT h h0 fs cs with
  |some x,some (xs,its)=>some (x::xs,its)
  |_,_=>none
 |some md::fs,c::cs=>match uT h md c,kT h h0 fs cs with
  |some (it,x),some (xs,its)=>some (x::xs,(it,md)::its)
  |_,_=>none
 |_::_,[]=>none
def qt:aU->List (Bool×List aj)->List Nat
 |s::sig,a::as=>oR s a.2++qt sig as
 |_,_=>[]
def aU.hd:aU->List (Option Mode)
 |[]=>[]
 |s::_=>s
def aU.tl:aU->aU
 |[]=>[]
 |_::sig=>sig
def n8 (h h0:Nat->Option av):aU->List (Bool×List aj)->Option (List Dv×List (dG×Mode))
 |_,[]=>some ([],[])
 |sig,(ag,cs)::as=>match kT h h0 (aU.hd sig) cs,n8 h h0 (aU.tl sig) as with
  |some (xs,its),some (ds,q9)=>some ((if ag=true then(.agg,xs) else(.one,xs))::ds,its++q9)
  |_,_=>none
def r7:List ao->Option (List (Bool×List aj))
 |[]=>some []
 |v::vs=>match v.cells?,r7 vs with
  |some x,some xs=>some (x::xs)
  |_,_=>none
def fu (h:Nat->Option av) (ns:List Nat):Nat->Option av:=fun n=>if ns.contains n=true then none else h n
def St.qx (σ:St):dG->C->Option St
 |.nil _,_=>some σ
 |.row n,.list sz xs=>match σ.h n with
  |some (.row gr m rs _)=>if rs=sz then some (σ.fx n (.row gr m rs xs)) else none
  |_=>none
 |.nest n k off,x=>match σ.h n with
  |some (.row gr m rs xs)=>match xs[k]? with
   |some e=>some (σ.fx n (.row gr m rs (xs.set k (e.set off x))))
   |none=>none
  |_=>none
 |_,_=>none
def St.pN (σ:St):List (dG×Mode)->List C->Option St
 |[],[]=>some σ
 |it::its,x::xs=>match σ.qx it.1 x with
  |some σ1=>σ1.pN its xs
  |none=>none
 |_,_=>none
def sO (T:aZ) (m:Mode) (d:Option Nat) (f:FuncId) (as:List ao) (σ:St):Option St:=
 match aZ.ph T.wi f,r7 as with
 |some (sig,M),some de=>
  if(qt sig de).Nodup then
   match n8 σ.h (fu σ.h (qt sig de)) sig de with
   |some (ds,its)=>match M ds with
    |some (rs,dK)=>match σ.pN its dK with
     |some σ1=>match σ1.kG m (tw d) rs with
      |some (ls,σ2)=>some (σ2.put d (nC ls))
      |none=>none
     |none=>none
    |none=>none
   |none=>none
  else none
 |_,_=>none
def Ug (s:List (Option Mode)) (n:Nat):Bool:=decide (s=[]\/(0<n/\s=List.replicate (n - 1) none++[some .bc]))
def zN (h:Nat->Option av) (s:List (Option Mode)):ao->Option (K×List aj)
 |.one (.ptr n k _ off)=>match h n with
  |some (.box cs)=>if k=0/\off=0/\Ug s cs.length=true then some (.ptr,cs) else none
  |_=>none
 |v=>match v.cells? with
  |some (ag,cs)=>some (if ag=true then .agg else .one,cs)
  |none=>none
def zO (h:Nat->Option av):aU->List ao->Option (List (K×List aj))
 |_,[]=>some []
 |sig,v::vs=>match zN h (aU.hd sig) v,zO h (aU.tl sig) vs with
  |some x,some xs=>some (x::xs)
  |_,_=>none
def zR:aU->List (K×List aj)->List Nat
 |s::sig,a::as=>oR s a.2++zR sig as
 |_,_=>[]
def tB (h h0:Nat->Option av):aU->List (K×List aj)->Option (List Dv×List (dG×Mode))
 |_,[]=>some ([],[])
 |sig,(k,cs)::as=>match kT h h0 (aU.hd sig) cs,tB h h0 (aU.tl sig) as with
  |some (xs,its),some (ds,q9)=>some ((k,xs)::ds,its++q9)
  |_,_=>none
def w9 (T:aZ) (m:Mode) (d:Option Nat) (f:FuncId) (as:List ao) (σ:St):Option St:=
 match aZ.ph T.wi f with
 |some (sig,M)=>match zO σ.h sig as with
  |some de=>if(zR sig de).Nodup then
   match tB σ.h (fu σ.h (zR sig de)) sig de with
   |some (ds,its)=>match M ds with
    |some (rs,dK)=>match σ.pN its dK with
     |some σ1=>match σ1.kG m (tw d) rs with
      |some (ls,σ2)=>some (σ2.put d (nC ls))
      |none=>none
     |none=>none
    |none=>none
   |none=>none
   else none
  |none=>none
 |none=>none
def mB:Nat->aU
 |0=>[[some .bc]]
 |i+1=>[]::mB i
def dI (n:Nat):Dv:=(.one,[.int .i64 (n:Int)])
def xM (i lo hi:Nat) (M:List Dv->Option (List Dv×List C)) (ds:List Dv):Option (List Dv×List C):=
 match ds[i]? with
 |some (.one,[.list 1 _])=>M (dI lo::dI hi::ds)
 |_=>none
def FN (h:Nat->Option av):ao->Option (Nat×Nat×Nat×Nat)
 |.one (.sl n s lo len)=>match h n with
  |some (.row _ _ rs xs)=>if s=1/\rs=1/\lo<xs.length/\lo+len<=xs.length then some (n,lo,len,xs.length) else none
  |_=>none
 |_=>none
def xc (T:aZ) (m:Mode) (d:Option Nat) (f:FuncId) (as:List ao) (σ:St):Option St:=
 match aZ.uA T.xs f with
 |some (i,M)=>match as[i]? with
  |some a=>match FN σ.h a with
   |some (n,lo,len,N)=>sO {T with wi:=[(f,mB i,xM i lo (lo+len) M)]} m d f (as.set i (.one (.sl n 1 0 N))) σ
   |none=>none
  |none=>none
 |none=>none
def rH (T:aZ) (f:FuncId) (as:List ao) (h:Nat->Option av):Option ao:=
 match aZ.uz T.ws f,r7 as with
 |some (sig,M),some de=>
  match qt sig de with
  |[n]=>match n8 h (fu h [n]) sig de with
   |some (ds,[(.row n',_)])=>if n'=n then match h n,M ds with
    |some (.row _ _ sz _),some (lo,len)=>some (.one (.sl n sz lo len))
    |_,_=>none
    else none
   |_=>none
  |_=>none
 |_,_=>none
def Dr (op:BinOp) (k:IntKind) (a b:Int):Option C:=
 match op with
 |.add=>some (.int k (k.wrap (a+b)))
 |.sub=>some (.int k (k.wrap (a - b)))
 |.mul=>some (.int k (k.wrap (a*b)))
 |.quo=>if b=0 then none else some (.int k (k.wrap (a.tdiv b)))
 |.rem=>if b=0 then none else some (.int k (a.tmod b))
 |.and=>some (.int k (bits .and k a b))
 |.or=>some (.int k (bits .or k a b))
 |.xor=>some (.int k (bits .xor k a b))
 |.eql=>some (.bool (a==b))
 |.neq=>some (.bool (a !=b))
 |.lss=>some (.bool (decide (a<b)))
 |.leq=>some (.bool (decide (a<=b)))
 |.gtr=>some (.bool (decide (b<a)))
 |.geq=>some (.bool (decide (b<=a)))
 |_=>none
def IA (op:BinOp) (k:IntKind) (a b:Int):Option C:=
 if b<0 then none else
 match op with
 |.shl=>some (.int k (k.wrap (a*2^(min b.toNat k.bits))))
 |.shr=>some (.int k (a/(2^(min b.toNat k.bits))))
 |_=>none
def BinOp.BN:BinOp->Bool
 |.shl|.shr=>true
 |_=>false
def yP (op:BinOp):ao->ao->Option C
 |.one (.c (.int k a)),.one (.c (.int k' b))=>if BinOp.BN op=true then IA op k a b else if k=k' then Dr op k a b else none
 |_,_=>none
def Dq (op:BinOp):ao->ao->Option C
 |.one (.c (.bool a)),.one (.c (.bool b))=>match op with
  |.eql=>some (.bool (a==b))
  |.neq=>some (.bool (a !=b))
  |_=>none
 |_,_=>none
def FH (op:UnOp):ao->Option C
 |.one (.c (.bool a))=>match op with
  |.not=>some (.bool (!a))
  |_=>none
 |.one (.c (.int k a))=>match op with
  |.neg=>some (.int k (k.wrap (0 - a)))
  |_=>none
 |_=>none
def ao.eV:ao->Option Int
 |.one (.c (.int _ n))=>some n
 |_=>none
def fe:Nat:=140737488355328
def sr (ev:MO->ao):List aj->List (Nat×Nat×MO)->Option (List aj)
 |zs,[]=>some zs
 |zs,(off,sz,x)::ps=>match(ev x).cells? with
  |some (_,cs)=>if cs.length=sz/\off+sz<=zs.length then sr ev (dz zs off cs) ps else none
  |none=>none
def pS (σ:St) (n:Nat) (gr:Bool) (m:Mode) (rs:Nat) (xs:List (List C)) (k off:Nat) (e:List C) (vs:List aj):Option St:=
 match sub e off vs.length with
 |none=>none
 |some gW=>match σ.gY vs with
  |none=>none
  |some (cs,o,σ1)=>
   if m=.live then
    if g8 cs=true/\g8 gW=true/\(σ1.h n).isSome=true then some (σ1.fx n (.row gr m rs (xs.set k (dz e off cs)))) else none
   else if(σ1.h n).isSome=true then
    some (σ1.fx n (.row gr (if o=true then m else .aL) rs (xs.set k (dz e off cs))))
   else none
def nQ:List aj->Option (List C)
 |[]=>some []
 |.c x::l=>if x.gK=true then(nQ l).map (x::·) else none
 |_::_=>none
def yb (xs:List (List C)) (k off s i:Nat) (vs:List aj):Option (List (List C)):=
 match(xs[k]?).bind (·[off]?) with
 |some (.list s' ys)=>if s'=s/\vs.length=s/\i<ys.length/\jv ys=true then(nQ vs).map fun cs=>xs.set k ((xs.getD k []).set off (.list s' (ys.set i cs))) else none
 |_=>none
def sI (σ:St) (sz:Nat):ao->Option (List (List C)×Mode×St)
 |.one (.nil _)=>some ([],.bc,σ)
 |.one (.sl a s 0 len)=>match σ.h a with
  |some (.row true m rs xs)=>if rs=sz/\s=sz/\len=xs.length then some (xs,m,σ.del a) else none
  |_=>none
 |_=>none
def oz (fl:Bool) (σ1:St) (sz:Nat) (m:Mode):ao->Option (List (List C)×Mode×St)
  |.one (.nil _)=>some ([],m,σ1)
  |.one (.c (.list s ys))=>if s=sz then(if(fl&&jv ys)=true then some (ys,m,σ1) else if m=.live then none else some (ys,.aL,σ1)) else none
  |.one (.sl b s lo len)=>match σ1.h b with
   |some (.row _ m' rs ys)=>if rs=sz/\s=sz/\lo+len<=ys.length then
       (if(fl&&jv ((ys.drop lo).take len))=true then some ((ys.drop lo).take len,m,σ1)
        else if lo=0/\len=ys.length then(if m=m' then some (ys,m,σ1.del b) else if m=.live\/m'=.live then none else some (ys,.aL,σ1.del b)) else none)
    else none
   |_=>none
  |_=>none
def aj.Ie:aj->Bool
 |.cd=>false
 |_=>true
def Cm (fZ:Bool) (n:Int) (c:aj):List aj:=if fZ=true then[.c (.int .i64 n),.c (.int .i64 1),c] else[.c (.int .i64 1),.c (.int .i64 n),c]
def exec (T:aZ) (d:Option Nat) (op:aY) (σ:St):Option St:=
 match op with
 |.mv x=>some (σ.put d (σ.ev x))
 |.pick c x y=>match σ.ev c with
  |.one (.c (.bool b))=>if b=true then some (σ.put d (σ.ev x)) else some (σ.put d (σ.ev y))
  |_=>none
 |.alloc zs=>match d with
  |some n=>match σ.ins n (.box zs) with
   |some σ1=>some (σ1.put d (.one (.ptr n 0 0 0)))
   |none=>none
  |none=>none
 |.box sz x=>match d,(σ.ev x).cells? with
  |some n,some (_,cs)=>if cs.length=sz then
   match σ.ins n (.box cs) with
   |some σ1=>some (σ1.put d (.one (.ptr n 0 0 0)))
   |none=>none
   else none
  |_,_=>none
 |.build zs parts=>match sr σ.ev zs parts with
  |some cs=>some (σ.put d (.agg cs))
  |none=>none
 |.hZ sz parts=>match d,σ.oe sz (parts.map σ.ev) with
  |some n,some (es,o,σ1)=>match σ1.ins n (.row true (if o=true then .bc else .aL) sz es) with
   |some σ2=>some (σ2.put d (.one (.sl n sz 0 es.length)))
   |none=>none
  |_,_=>none
 |.load ag sz x=>match σ.ev x with
  |.one p=>match loadAt σ.h p sz with
   |some cs=>some (σ.put d (pT ag cs))
   |none=>none
  |_=>none
 |.rZ ag sz x=>match σ.ev x with
  |.one p=>match σ.vG p with
   |some σ1=>match loadAt σ1.h p sz with
    |some cs=>some (σ1.put d (pT ag cs))
    |none=>none
   |none=>none
  |_=>none
 |.store sz x v=>match σ.ev x,(σ.ev v).cells? with
  |.one (.ptr n k aR off),some (_,vs)=>if vs.length=sz then
   match σ.h n with
   |some (.box cs)=>if k=0/\off+sz<=cs.length then some (σ.fx n (.box (dz cs off vs))) else none
   |some (.row gr m rs xs)=>if aR=rs then
    match xs[k]? with
    |some e=>pS σ n gr m rs xs k off e vs
    |none=>none
    else none
   |none=>none
   else none
  |.one (.dY n k aR off s i),some (_,vs)=>if vs.length=sz then
   match σ.h n with
   |some (.row gr .live rs xs)=>if aR=rs then
    match yb xs k off s i vs with
    |some az=>some (σ.fx n (.row gr .live rs az))
    |none=>none
    else none
   |_=>none
   else none
  |_,_=>none
 |.jM x=>match σ.ev x with
  |.one (.ptr n k sz off)=>if(σ.h n).isSome=true then some (σ.put d (.one (.ptr n k sz off))) else none
  |.one (.dr xs off)=>some (σ.put d (.one (.dr xs off)))
  |.one (.cN xs off j n s len)=>some (σ.put d (.one (.cN xs off j n s len)))
  |_=>none
 |.bin op x y=>match yP op (σ.ev x) (σ.ev y) with
  |some c=>some (σ.put d (.one (.c c)))
  |none=>none
 |.rB op x y=>match Dq op (σ.ev x) (σ.ev y) with
  |some c=>some (σ.put d (.one (.c c)))
  |none=>none
 |.un op x=>match FH op (σ.ev x) with
  |some c=>some (σ.put d (.one (.c c)))
  |none=>none
 |.conv k x=>match σ.ev x with
  |.one (.c (.int _ n))=>some (σ.put d (.one (.c (.int k (k.wrap n)))))
  |_=>none
 |.jK m sz by_ zs l c=>match d,(σ.ev l).eV,(σ.ev c).eV with
  |some n,some a,some b=>if a<=b/\0<=a/\b.toNat*by_<=fe/\zs.length=sz then
   match σ.ins n (.row true m sz (List.replicate a.toNat zs)) with
   |some σ1=>some (σ1.put d (.one (.sl n sz 0 a.toNat)))
   |none=>none
   else none
  |_,_,_=>none
 |.slice sz x lo hi=>
  let TB:Option Int:=match lo with|none=>some 0|some l=>(σ.ev l).eV
  match σ.ev x,TB with
  |.one (.sl n s l0 len),some l=>
   match(match hi with|none=>some (len:Int)|some h=>(σ.ev h).eV) with
   |some h=>if s=sz/\0<=l/\l<=h/\h<=len/\(σ.h n).isSome=true then some (σ.put d (.one (.sl n s (l0+l.toNat) (h - l).toNat))) else none
   |none=>none
  |.one (.c (.list s xs)),some l=>
   match(match hi with|none=>some (xs.length:Int)|some h=>(σ.ev h).eV) with
   |some h=>if s=sz/\0<=l/\l<=h/\h<=xs.length then some (σ.put d (.one (.c (.list s ((xs.drop l.toNat).take (h - l).toNat))))) else none
   |none=>none
  |_,_=>none
 |.tail sz x lo=>match d,σ.ev x,(σ.ev lo).eV with
  |some n,.one (.sl a s 0 len),some l=>match σ.h a with
   |some (.row true m rs xs)=>if rs=sz/\s=sz/\len=xs.length/\0<=l/\l<=len then
    match(σ.del a).ins n (.row true m sz (xs.drop l.toNat)) with
    |some σ1=>some (σ1.put d (.one (.sl n sz 0 (xs.length - l.toNat))))
    |none=>none
    else none
   |_=>none
  |_,_,_=>none
 |.qd off x=>match σ.ev x with
  |.one (.ptr n k sz o)=>if(σ.h n).isSome=true then some (σ.put d (.one (.ptr n k sz (o+off)))) else none
  |.one (.dr xs o)=>some (σ.put d (.one (.dr xs (o+off))))
  |.one (.cN xs o j n s len)=>some (σ.put d (.one (.cN xs (o+off) j n s len)))
  |_=>none
 |.pC sz x i=>match σ.ev x,(σ.ev i).eV with
  |.one (.sl n s lo len),some k=>if s=sz/\0<=k/\k<len/\(σ.h n).isSome=true then some (σ.put d (.one (.ptr n (lo+k.toNat) s 0))) else none
  |.one (.c (.list s xs)),some k=>if s=sz/\0<=k then
   match xs[k.toNat]? with
   |some e=>some (σ.put d (.one (.dr e 0)))
   |none=>none
   else none
  |.one (.ct n kk aR off s len),some k=>match dq σ.h (.ct n kk aR off s len) with
   |some (.list s' ys)=>if s'=sz/\0<=k/\k<ys.length then some (σ.put d (.one (.dY n kk aR off sz k.toNat))) else none
   |_=>none
  |_,_=>none
 |.ext i x=>match σ.ev x with
  |.cf xs=>match xs[i]? with
   |some (ag,cs)=>some (σ.put d (pT ag cs))
   |none=>none
  |_=>none
 |.sW ag off sz x=>match σ.ev x with
  |.agg cs=>match sub cs off sz with
   |some l=>some (σ.put d (pT ag l))
   |none=>none
  |_=>none
 |.sk f fZ x=>match σ.ev x with
  |.one (.sl n sz lo len)=>if(σ.h n).isSome=true then some (σ.put d (.agg (Cm fZ len (.sl n sz lo len)))) else none
  |.one (.c (.list sz xs))=>some (σ.put d (.agg (Cm fZ xs.length (.c (.list sz xs)))))
  |.one (.nil sz)=>some (σ.put d (.agg (Cm fZ 0 (.nil sz))))
  |_=>none
 |.len x=>match σ.ev x with
  |.one (.sl n sz lo len)=>if(σ.h n).isSome=true then some (σ.put d (.one (.c (.int .i64 len)))) else none
  |.one (.c (.list sz xs))=>some (σ.put d (.one (.c (.int .i64 xs.length))))
  |.one (.nil sz)=>some (σ.put d (.one (.c (.int .i64 0))))
  |.one (.ct n k aR off sz len)=>match dq σ.h (.ct n k aR off sz len) with
   |some (.list s ys)=>some (σ.put d (.one (.c (.int .i64 ys.length))))
   |_=>none
  |_=>none
 |.append fl sz by_ x y=>match d with
  |none=>none
  |some n=>match sI σ sz (σ.ev x) with
   |none=>none
   |some (xs,m,σ1)=>match oz fl σ1 sz m (σ.ev y) with
    |none=>none
    |some (ys,m2,σ2)=>
     if(xs.length+ys.length)*by_<=fe then
      match σ2.ins n (.row true m2 sz (xs++ys)) with
      |some iD=>some (iD.put d (.one (.sl n sz 0 (xs.length+ys.length))))
      |none=>none
     else none
 |.copy sz x y=>match σ.ev x,σ.ev y with
  |.one (.sl n s lo len),.one c=>match σ.h n,dq σ.h c with
   |some (.row gr m rs xs),some (.list s' ys)=>if sz=1/\s=1/\rs=1/\s'=1/\m≠ .aL/\jv xs=true/\jv ys=true/\lo+len<=xs.length then
    some ((σ.fx n (.row gr m 1 (dz xs lo (ys.take len)))).put d (.one (.c (.int .i64 (Nat.min ys.length len:Nat))))) else none
   |_,_=>none
  |_,_=>none
 |.m6 z x=>match σ.ev x with
  |.one (.sl n s lo len)=>match σ.h n with
   |some (.row gr m rs xs)=>if s=1/\rs=1/\z.gK=true/\m≠ .aL/\jv xs=true/\lo+len<=xs.length then
    some ((σ.fx n (.row gr m 1 (dz xs lo (List.replicate len [z])))).put d (.cf [])) else none
   |_=>none
  |_=>none
 |.mm mx x y=>match σ.ev x,σ.ev y with
  |.one (.c (.int k a)),.one (.c (.int k' b))=>if mx=true then(if a<b then some (σ.put d (.one (.c (.int k b)))) else some (σ.put d (.one (.c (.int k a)))))
   else(if b<a then some (σ.put d (.one (.c (.int k b)))) else some (σ.put d (.one (.c (.int k a)))))
  |_,_=>none
 |.call m f xs=>w7 T m d f (xs.map σ.ev) σ
 |.qa f xs=>match Dw T f (xs.map σ.ev) σ.h with
  |some v=>some (σ.put d v)
  |none=>none
 |.re f xs=>match(xs.map σ.ev).mapM (fun v=>match v with|.one c=>if c.nZ=true then none else some c|_=>none) with
  |some cs=>if cs.all aj.Ie=true then some (σ.put d (.one (.fn f cs))) else none
  |none=>none
 |.qb m x xs=>match σ.ev x with
  |.one (.fn f c9)=>w7 T m d f (xs.map σ.ev++c9.map .one) σ
  |_=>none
 |.lv m f xs=>sO T m d f (xs.map σ.ev) σ
 |.lr f xs=>sM T d f (xs.map σ.ev) σ
 |.nM f xs=>match rH T f (xs.map σ.ev) σ.h with
  |some v=>some (σ.put d v)
  |none=>none
 |.mD f xs=>match A6 T f (xs.map σ.ev) with
  |some v=>some (σ.put d v)
  |none=>none
 |.nN m f xs=>xc T m d f (xs.map σ.ev) σ
 |.o8 m f x xs=>match σ.ev x with
  |.one (.fn g c9)=>if g=f then w9 T m d f (xs.map σ.ev++c9.map .one) σ else none
  |_=>none
def f0 (T:aZ) (o:cT) (σ:St):Option St:=
 match o.guard with
 |none=>exec T o.dst o.op σ
 |some (s,nH)=>match σ.env s with
  |.one (.c (.bool b))=>if b=nH then exec T o.dst o.op σ else some (σ.put o.dst (.cf []))
  |.cf []=>some (σ.put o.dst (.cf []))
  |_=>none
def mF (T:aZ):List cT->St->Option St
 |[],σ=>some σ
 |o::os,σ=>match f0 T o σ with
  |some σ'=>mF T os σ'
  |none=>none
def aj.gv (ok:Nat->Bool):aj->aj
 |.ptr n k sz off=>if ok n=true then .ptr n k sz off else .cd
 |.sl n sz lo len=>if ok n=true then .sl n sz lo len else .cd
 |.ct n k aR off sz len=>if ok n=true then .ct n k aR off sz len else .cd
 |.dY n k aR off sz i=>if ok n=true then .dY n k aR off sz i else .cd
 |.cN xs off j n sz len=>if ok n=true then .cN xs off j n sz len else .cd
 |x=>x
def aj.dW (ok:Nat->Bool):aj->aj
 |.fn f c9=>.fn f (c9.map (·.gv ok))
 |x=>x.gv ok
def ao.dW (ok:Nat->Bool):ao->ao
 |.one c=>.one (c.dW ok)
 |.agg cs=>.agg (cs.map (·.dW ok))
 |.cf xs=>.cf (xs.map fun x=>(x.1,x.2.map (·.dW ok)))
def av.dW (ok:Nat->Bool):av->av
 |.box cs=>.box (cs.map (·.dW ok))
 |b=>b
def yU:Nat->ao:=fun _=>.one .cd
def DM:Nat->Option av:=fun _=>none
def Y0:Nat->Bool:=fun _=>false
def x5 (ok:Nat->Bool) (env:Nat->ao):List Nat->(Nat->ao)
 |[]=>yU
 |s::ss=>aQ (x5 ok env ss) s ((env s).dW ok)
def tE (ok:Nat->Bool) (h:Nat->Option av):List Nat->(Nat->Option av)
 |[]=>DM
 |s::ss=>if ok s=true then match h s with
  |some b=>aQ (tE ok h ss) s (some (b.dW ok))
  |none=>tE ok h ss
  else tE ok h ss
def x6 (ok:Nat->Bool):List Nat->(Nat->Bool)
 |[]=>Y0
 |s::ss=>if ok s=true then aQ (x6 ok ss) s true else x6 ok ss
def aj.zU (n:Nat):aj->Bool
 |.ptr m _ _ _=>m==n
 |.sl m _ _ _=>m==n
 |.ct m _ _ _ _ _=>m==n
 |.dY m _ _ _ _ _=>m==n
 |.cN _ _ _ m _ _=>m==n
 |_=>false
def aj.jN (n:Nat):aj->Bool
 |.fn _ c9=>c9.any (·.zU n)
 |x=>x.zU n
def ao.jN (n:Nat):ao->Bool
 |.one c=>c.jN n
 |.agg cs=>cs.any (·.jN n)
 |.cf xs=>xs.any fun x=>x.2.any (·.jN n)
def St.kY (σ:St) (ke kh:List Nat):Nat->Bool:=fun n=>kh.contains n&&(σ.h n).isSome&&
 (Nat.ble aD n||ke.any (fun s=>(σ.env s).jN n)||kh.any fun k=>match σ.h k with|some (.box cs)=>cs.any (·.jN n)|_=>false)
def St.kt (σ:St) (ke kh:List Nat):St:=
 {env:=x5 (σ.kY ke kh) σ.env ke,h:=tE (σ.kY ke kh) σ.h kh,used:=fun n=>Nat.ble aD n||x6 (σ.kY ke kh) kh n}
def pP (x c n:Nat):Nat:=if n=x then c else n
def aj.qy (x c:Nat):aj->aj
 |.ptr n k sz off=>.ptr (pP x c n) k sz off
 |.sl n sz lo len=>.sl (pP x c n) sz lo len
 |.ct n k aR off sz len=>.ct (pP x c n) k aR off sz len
 |.dY n k aR off sz i=>.dY (pP x c n) k aR off sz i
 |.cN xs off j n sz len=>.cN xs off j (pP x c n) sz len
 |y=>y
def aj.bI (x c:Nat):aj->aj
 |.fn f c9=>.fn f (c9.map (·.qy x c))
 |y=>y.qy x c
def ao.bI (x c:Nat):ao->ao
 |.one y=>.one (y.bI x c)
 |.agg ys=>.agg (ys.map (·.bI x c))
 |.cf ys=>.cf (ys.map fun y=>(y.1,y.2.map (·.bI x c)))
def av.bI (x c:Nat):av->av
 |.box cs=>.box (cs.map (·.bI x c))
 |b=>b
def St.bI (σ:St) (x c:Nat):Option St:=
 if x=c then some σ else if Nat.ble aD x=true then some σ else if σ.used c=true then none else
 some {env:=fun s=>(σ.env s).bI x c,h:=fun n=>if n=c then(σ.h x).map (·.bI x c) else if n=x then none else(σ.h n).map (·.bI x c),used:=fun n=>if n=c then σ.used x else if n=x then false else σ.used n}
def St.mz (σ:St) (c:Nat):Mode->St
 |.aL=>match σ.h c with
  |some (.row gr .bc rs xs)=>σ.fx c (.row gr .aL rs xs)
  |_=>σ
 |_=>σ
def St.canon (σ:St):Bool×Nat×Nat×Nat×Mode->Option St
 |(true,n,j,c,m)=>match σ.h n with
  |some (.box cs)=>match cs[j]? with
   |some (.sl a _ _ _)=>(σ.bI a c).map fun σ1=>σ1.mz c m
   |some (.nil sz)=>if 0<sz then match σ.ins c (.row true m sz []) with
    |some σ1=>some (σ1.fx n (.box (cs.set j (.sl c sz 0 0))))
    |none=>none
    else some σ
   |_=>some σ
  |_=>some σ
 |(false,n,j,c,m)=>match σ.env n with
  |.one (.sl a _ _ _)=>(σ.bI a c).map fun σ1=>σ1.mz c m
  |.one (.nil sz)=>if 0<sz then match σ.ins c (.row true m sz []) with
   |some σ1=>some (σ1.put (some n) (.one (.sl c sz 0 0)))
   |none=>none
   else some σ
  |_=>some σ
def St.vu (σ:St):List (Bool×Nat×Nat×Nat×Mode)->Option St
 |[]=>some σ
 |x::l=>match σ.canon x with
  |some σ1=>σ1.vu l
  |none=>none
def St.head (σ:St) (ke kh:List Nat) (cn:List (Bool×Nat×Nat×Nat×Mode)):Option St:=
 match((σ.kt ke kh).kt ke kh).vu cn with
 |some σ1=>some (σ1.kt ke kh)
 |none=>none
def aY.args:aY->List MO
 |.mv x|.box _ x|.load _ _ x|.rZ _ _ x|.jM x|.un _ x|.conv _ x|.qd _ x|.ext _ x|.sW _ _ _ x|.sk _ _ x|.len x|.m6 _ x=>[x]
 |.pick c x y=>[c,x,y]
 |.alloc _=>[]
 |.build _ ps=>ps.map (·.2.2)
 |.hZ _ ps=>ps
 |.store _ x v=>[x,v]
 |.bin _ x y|.rB _ x y|.mm _ x y|.append _ _ _ x y|.copy _ x y|.pC _ x y|.tail _ x y=>[x,y]
 |.jK _ _ _ _ l c=>[l,c]
 |.slice _ x lo hi=>x::(lo.toList++hi.toList)
 |.call _ _ xs|.re _ xs|.lv _ _ xs|.qa _ xs|.lr _ xs|.nM _ xs|.mD _ xs|.nN _ _ xs=>xs
 |.qb _ x xs|.o8 _ _ x xs=>x::xs
def aY.HB:aY->Bool
 |.call ..|.qb ..|.qa ..=>true
 |_=>false
def aj.uW:aj->List Nat
 |.ptr n _ _ _=>[n]
 |.sl n _ _ _=>[n]
 |.ct n _ _ _ _ _=>[n]
 |.dY n _ _ _ _ _=>[n]
 |.cN _ _ _ n _ _=>[n]
 |_=>[]
def aj.nm:aj->List Nat
 |.fn _ c9=>c9.flatMap aj.uW
 |x=>x.uW
def ao.ju:ao->List Nat
 |.one c=>c.nm
 |.agg cs=>cs.flatMap aj.nm
 |.cf xs=>xs.flatMap fun x=>x.2.flatMap aj.nm
def Dt (h:Nat->Option av) (l:List Nat):List Nat:=l.flatMap fun n=>match h n with
 |some (.box cs)=>cs.flatMap aj.nm
 |_=>[]
def aY.kV (op:aY) (ev:MO->ao):List Nat:=op.args.flatMap fun x=>(ev x).ju
def aY.oT (op:aY) (ev:MO->ao) (h:Nat->Option av):List Nat:=cond op.HB (op.kV ev++Dt h (op.kV ev)) (op.kV ev)
def aY.mY (op:aY) (ev:MO->ao) (h:Nat->Option av):Option (List Nat):=
 match op with
 |.store _ x v=>match ev x with
  |.one (.ptr n _ _ _)=>match h n with
   |some (.box _)=>some [n]
   |some (.row ..)=>some (n::(ev v).ju)
   |none=>none
  |.one (.dY n _ _ _ _ _)=>some [n]
  |_=>none
 |.hZ _ ps=>some (ps.flatMap fun p=>(ev p).ju)
 |.lr _ xs=>some (xs.flatMap fun p=>(ev p).ju)
 |.append _ _ _ x y=>some ((ev x).ju++(ev y).ju)
 |.copy _ x _|.m6 _ x=>match ev x with
  |.one (.sl n _ _ _)=>some [n]
  |_=>none
 |.lv ..|.nN ..|.o8 ..|.tail ..|.rZ ..=>none
 |_=>some []
abbrev FP:=List Nat×List Nat
def aY.fp (op:aY) (σ:St):Option FP:=(op.mY σ.ev σ.h).map fun w=>(op.oT σ.ev σ.h,w)
def Gm (f g:FP):Bool:=f.2.all (fun n=> !(g.1.contains n))&&g.2.all (fun n=> !(f.1.contains n))
def Gn:Option FP->Option FP->Bool
 |some f,some g=>Gm f g
 |_,_=>false
def pg (o:cT) (e:Nat->ao):Option aY:=
 match o.guard with
 |none=>some o.op
 |some (s,nH)=>match e s with
  |.one (.c (.bool b))=>if b=nH then some o.op else some (.mv (.k (.cf [])))
  |.cf []=>some (.mv (.k (.cf [])))
  |_=>none
def cT.fp (o:cT) (σ:St):Option FP:=
 match pg o σ.env with
 |some op=>op.fp σ
 |none=>none
def xZ (ps:List (Nat×Nat)) (fs:List (Option FP)):Bool:=ps.all fun p=>Gn (fs.getD p.1 none) (fs.getD p.2 none)
def oG (T:aZ):List cT->List (Option FP)->St->Option (List (Option FP)×St)
 |[],dV,σ=>some (dV,σ)
 |o::os,dV,σ=>match f0 T o σ with
  |some σ1=>oG T os (dV++[o.fp σ]) σ1
  |none=>none
def aM:Nat:=2^64
def EM:Nat->(St->Option ua)->St->Option ua
 |0,_,_=>none
 |n+1,f,σ=>match f σ with
  |some (.gC σ')=>EM n f σ'
  |o=>o
def eC (T:aZ):kJ->St->Option ua
 |.skip,σ=>some (.gC σ)
 |.eF _ ops,σ=>match mF T ops σ with
  |some σ'=>some (.gC σ')
  |none=>none
 |.rl ps ops,σ=>match oG T ops [] σ with
  |some (fs,σ')=>cond (xZ ps fs) (some (.gC σ')) none
  |none=>none
 |.seq a b,σ=>match eC T a σ with
  |some (.gC σ')=>eC T b σ'
  |o=>o
 |.cond c a b,σ=>match σ.ev c with
  |.one (.c (.bool t))=>if t=true then eC T a σ else eC T b σ
  |_=>none
 |.block id c,σ=>match eC T c σ with
  |some (.ext i σ')=>if i=id then some (.gC σ') else some (.ext i σ')
  |o=>o
 |.join ke kh cn c,σ=>match eC T c σ with
  |some (.gC σ')=>match σ'.head ke kh cn with
   |some σ1=>some (.gC σ1)
   |none=>none
  |o=>o
 |.loop id ke kh cn c,σ=>EM aM (fun σ=>match σ.head ke kh cn with|some σ1=>eC T c σ1|none=>none) σ
 |.exit id,σ=>some (.ext id σ)
 |.ret,σ=>some (.ret σ)
section
variable {B:Nat} {E:Ex} {w0 w w':World} {G G':Gh} {h h':Nat->Option av} {used used':Nat->Bool} {tk:List PC}
theorem bW.refl (w:World) (G:Gh) (h:Nat->Option av) (u:Nat->Prop):bW w G h u w G h:=
 ⟨fun _ h=>h,fun _ _ _=>rfl,fun _ _ h=>⟨h,rfl,rfl,rfl,rfl,rfl⟩,fun n gr sz xs _ hn=>⟨⟨gr,xs,hn⟩,fun k j pc h1 h2=>⟨pc,h1,rfl,h2⟩⟩⟩
theorem bW.trans {w1 w2 w3:World} {G1 G2 G3:Gh} {h1 h2 h3:Nat->Option av} {u u2:Nat->Prop} (hu:∀n,u n->u2 n)
  (a:bW w1 G1 h1 u w2 G2 h2) (b:bW w2 G2 h2 u2 w3 G3 h3):bW w1 G1 h1 u w3 G3 h3:=by
 refine⟨fun x hx=>b.im x (a.im x hx),fun x hx o=>(b.cell x (a.im x hx) o).trans (a.cell x hx o),fun n hn h=>?_,fun n gr sz xs hn h=>?_⟩
 ·obtain⟨c0,c1,c2,c3,c4,c5⟩:=b.name n (hu n hn) h;obtain⟨d0,d1,d2,d3,d4,d5⟩:=a.name n hn c0;exact⟨d0,c1.trans d1,c2.trans d2,c3.trans d3,c4.trans d4,c5.trans d5⟩
 ·obtain⟨⟨DZ,ld,e2⟩,l2⟩:=b.live n gr sz xs (hu n hn) h;obtain⟨e1,l1⟩:=a.live n DZ sz ld hn e2;refine⟨e1,fun k j pc p1 p2=>?_⟩;obtain⟨q,q1,q2,q3⟩:=l1 k j pc p1 p2;obtain⟨r,r1,r2,r3⟩:=l2 k j q q1 q3;exact⟨r,r1,r2.trans q2,r3⟩
theorem bW.world (pj:∀b,G.Im b->w'.heap[b]? =w.heap[b]?) (u:Nat->Prop):bW w G h u w' G h:=
 ⟨fun _ h=>h,fun b hb o=>kM (pj b hb) o,fun _ _ h=>⟨h,rfl,rfl,rfl,rfl,rfl⟩,fun n gr sz xs _ hn=>⟨⟨gr,xs,hn⟩,fun k j pc h1 h2=>⟨pc,h1,rfl,h2⟩⟩⟩
theorem HR.u6 (H:HR B E w G h used tk) {n:Nat} {gr:Bool} {m:Mode} {sz:Nat} {xs:List (List C)} (hn:h n=some (.row gr m sz xs)) {b:Nat} (hb:bH b (G.g n).px):b<w.heap.size:=by
 have hr:=H.row n gr m sz xs hn;cases bq:(G.g n).nl with
 |true=>obtain⟨k,j,c,⟨e,he,_⟩,_⟩:=hb;rw[(hr.nl bq).1] at he;simp at he
 |false=>exact(hr.fN bq).2.1.lt hb
theorem HR.grow (H:HR B E w G h used tk) (hw:∀b,b<w.heap.size->w'.heap[b]? =w.heap[b]?) (cX:w.heap.size<=w'.heap.size):HR B E w' G h used tk:=by
 have K:bW w G h (fun n=>used n=true) w' G h:=bW.world (fun b hb=>hw b (H.jq b hb)) _;have vU:∀b,fy w b->fy w' b:=fun b hb=>hb.congr (hw b hb.lt);refine⟨H.kN,H.jQ,fun n cs hn=>?_,fun n gr m sz xs hn=>?_,fun n hn hl=>?_,H.inj,fun b hb=>zak (H.jq b hb) cX,H.rW,H.iF,H.live,fun i pc hi=>?_,H.yk,H.tV⟩
 ·obtain⟨h1,h2,h3⟩:=H.box n cs hn;refine⟨h1,vU _ h2,fun j c hj=>?_⟩;obtain⟨v,a1,a2,a3⟩:=h3 j c hj;exact⟨v,(kM (hw _ h2.lt) _).trans a1,a2,a3.keep K fun m hm=>H.jQ n cs c m hn (zaa hj) hm⟩
 ·have hr:=H.row n gr m sz xs hn;refine⟨hr.pos,hr.er,hr.nl,fun hl=>?_,fun hl hg=>?_,?_⟩
  ·obtain⟨a1,a2,a3⟩:=hr.fN hl;exact⟨vU _ a1,a2.congr (fun o=>kM (hw _ a1.lt) o) (fun b' bB o=>kM (hw _ (a2.lt bB)) o),a3⟩
  ·obtain⟨r2,cur,e,r3,r4⟩:=hr.room hl hg;exact⟨r2,cur,e,(hw _ (hr.fN hl).1.lt).trans r3,r4⟩
  ·have hm:=hr.mode;cases m with
   |aL=>exact hm
   |bc=>exact⟨fun b hb=>⟨(hm.1 b hb).1,vU _ (hm.1 b hb).2.1,(hm.1 b hb).2.2⟩,hm.2⟩
   |live=>exact⟨fun b hb=>⟨(hm.1 b hb).1,vU _ (hm.1 b hb).2.1,(hm.1 b hb).2.2⟩,hm.2⟩
 ·obtain⟨a1,a2,a3⟩:=H.own n hn hl;exact⟨a1,a2,zak a3 cX⟩
 ·obtain⟨a1,a2⟩:=H.tU i pc hi;exact⟨a1,fun b hb=>⟨(a2 b hb).1,vU _ (a2 b hb).2.1,(a2 b hb).2.2⟩⟩
theorem Fr.refl (B:Nat) (E:Ex) (w0:World) (hB:B<=w0.heap.size):Fr B E w0 w0:=
 ⟨rfl,rfl,rfl,hB,fun _ _ _=>rfl,fun _ _=>Cz.refl _ _⟩
theorem Fr.grow (F:Fr B E w0 w) (hw:∀b,b<w.heap.size->w'.heap[b]? =w.heap[b]?) (cX:w.heap.size<=w'.heap.size) (ho:w'.os=w.os) (ht:w'.tape=w.tape) (hp:w'.output=w.output):Fr B E w0 w':=
 ⟨ho.trans F.os,ht.trans F.tape,hp.trans F.output,zaG F.size cX,fun b hb he=>(hw b (zak hb F.size)).trans (F.block b hb he),
  fun b hb=>(F.kv b hb).trans (Cz.of_eq (hw b (zak hb F.size)))⟩
theorem Fr.one (F:Fr B E w0 w) {b0:Nat} (xm:B<=b0\/E b0) (hw:∀b,b<w.heap.size->b≠b0->w'.heap[b]? =w.heap[b]?) (cX:w.heap.size<=w'.heap.size)
  (hu:Cz w w' b0) (ho:w'.os=w.os) (ht:w'.tape=w.tape) (hp:w'.output=w.output):Fr B E w0 w':=by
 refine⟨ho.trans F.os,ht.trans F.tape,hp.trans F.output,zaG F.size cX,fun b hb he=>?_,fun b hb=>?_⟩
 ·refine(hw b (zak hb F.size) ?_).trans (F.block b hb he);rintro rfl;rcases xm with h1|h1
  ·omega
  ·exact he h1
 ·by_cases D8:b=b0
  ·subst D8;exact(F.kv b hb).trans hu
  ·exact(F.kv b hb).trans (Cz.of_eq (hw b (zak hb F.size) D8))
def ahf (B:Nat) (E:Ex) (w:World) (G:Gh) (h:Nat->Option av) (p:PB):av->Prop
 |.box cs=>p.nl=false/\fy w p.b/\∀(j:Nat) (c:aj),cs[j]? =some c->∃v,w.cell? (ad p.b (p.o+j))=some v/\v.oneCell'=true/\RC w G h c v
 |.row gr m sz xs=>wV B E w G gr m sz xs p
theorem HR.put (H:HR B E w G h used tk) {n:Nat} {blk:av} {p:PB}
  (hw:∀b,b<w.heap.size->(p.nl=false->b≠p.b)->w'.heap[b]? =w.heap[b]?) (cX:w.heap.size<=w'.heap.size)
  (Eo:∀b,b<w.heap.size->fy w b->fy w' b)
  (hu:∀m,used m=true->used' m=true) (al6:used' n=true)
  (uJ:p.nl=false->¬G.Im p.b/\(B<=p.b\/E p.b)/\p.b<w'.heap.size)
  (zd:p.nl=false->∀m,m≠n->h m≠none->(G.g m).nl=false->(G.g m).b≠p.b)
  (alH:p.nl=false->∀m gr sz xs,m≠n->h m=some (.row gr .live sz xs)->∀b,bH b (G.g m).px->b≠p.b)
  (zp:∀cs c m,blk=.box cs->c∈cs->c.ref m->used' m=true)
  (K:bW w G h (fun n=>used n=true) w' ⟨G.Im,aQ G.g n p⟩ (aQ h n (some blk)))
  (ng:ahf B E w' ⟨G.Im,aQ G.g n p⟩ (aQ h n (some blk)) p blk)
  (Mp:∀gr m sz xs,blk=.row gr m sz xs->m≠ .aL->∀n' cc m' be az,n'≠n->h n'=some (.row cc m' be az)->m'≠ .aL->∀b,bH b p.px->¬bH b (G.g n').px)
  (vM:∀gr sz xs,blk=.row gr .live sz xs->∀b,bH b p.px->(p.nl=false->b≠p.b)/\∀n',n'≠n->h n'≠none->(G.g n').nl=false->b≠(G.g n').b)
  (Em:∀gr m sz xs,blk=.row gr m sz xs->m≠ .aL->∀(i:Nat) (pc:PC) (b:Nat),tk[i]? =some pc->bD b pc->¬bH b p.px)
  (pj:p.nl=false->p.b<w.heap.size->∀b,(∃m gr mo sz xs,m≠n/\h m=some (.row gr mo sz xs)/\bH b (G.g m).px)->b≠p.b):
  HR B E w' ⟨G.Im,aQ G.g n p⟩ (aQ h n (some blk)) used' tk:=by
 have e1:∀m,m≠n->aQ h n (some blk) m=h m:=fun m hm=>dA _ _ _ _ hm;have e2:∀m,m≠n->aQ G.g n p m=G.g m:=fun m hm=>dA _ _ _ _ hm;have Sm:∀m,m≠n->h m≠none->(G.g m).nl=false->w'.heap[(G.g m).b]? =w.heap[(G.g m).b]? :=fun m hm h0 hl=>
  hw _ (H.own m h0 hl).2.2 (fun hp=>zd hp m hm h0 hl)
 refine⟨?_,?_,?_,?_,?_,?_,?_,H.rW,?_,?_,?_,?_,?_⟩
 ·intro m hm;by_cases cG:m=n
  ·subst cG;exact al6
  ·rw[e1 m cG] at hm;exact hu m (H.kN m hm)
 ·intro m cs c q hm hc hr;by_cases cG:m=n
  ·subst cG;rw[cJ] at hm;injection hm with hm;exact zp cs c q hm hc hr
  ·rw[e1 m cG] at hm;exact hu q (H.jQ m cs c q hm hc hr)
 ·intro m cs hm;by_cases cG:m=n
  ·subst cG;rw[cJ] at hm;injection hm with hm;subst hm;simp only[cJ];exact ng
  ·rw[e1 m cG] at hm;simp only[e2 m cG];obtain⟨a1,a2,a3⟩:=H.box m cs hm;have hs:=Sm m cG (by rw[hm];simp) a1;refine⟨a1,a2.congr hs,fun j c hj=>?_⟩;obtain⟨v,b1,b2,b3⟩:=a3 j c hj;exact⟨v,(kM hs _).trans b1,b2,b3.keep K fun q hq=>H.jQ m cs c q hm (zaa hj) hq⟩
 ·intro m gr mo sz xs hm;by_cases cG:m=n
  ·subst cG;rw[cJ] at hm;injection hm with hm;subst hm;simp only[cJ];exact ng
  ·rw[e1 m cG] at hm;simp only[e2 m cG];have hr:=H.row m gr mo sz xs hm;have hf:∀b,bH b (G.g m).px->w'.heap[b]? =w.heap[b]? :=fun b hb=>
    hw b (H.u6 hm hb) (fun hp gh=>by
     by_cases cD:p.b<w.heap.size
     ·exact pj hp cD b ⟨m,gr,mo,sz,xs,cG,hm,hb⟩ gh
     ·have:=H.u6 hm hb;omega)
   refine⟨hr.pos,hr.er,hr.nl,fun hl=>?_,fun hl hg=>?_,?_⟩
   ·have hs:=Sm m cG (by rw[hm];simp) hl;obtain⟨a1,a2,a3⟩:=hr.fN hl;exact⟨a1.congr hs,a2.congr (fun o=>kM hs o) (fun b' bB o=>kM (hf b' bB) o),a3⟩
   ·have hs:=Sm m cG (by rw[hm];simp) hl;obtain⟨r2,cur,e,r3,r4⟩:=hr.room hl hg;exact⟨r2,cur,e,hs.trans r3,r4⟩
   ·have eA:=hr.mode;cases mo with
    |aL=>exact eA
    |bc=>exact⟨fun b hb=>⟨(eA.1 b hb).1,(eA.1 b hb).2.1.congr (hf b hb),(eA.1 b hb).2.2⟩,eA.2⟩
    |live=>exact⟨fun b hb=>⟨(eA.1 b hb).1,(eA.1 b hb).2.1.congr (hf b hb),(eA.1 b hb).2.2⟩,eA.2⟩
 ·intro m hm hl;by_cases cG:m=n
  ·subst cG;simp only[cJ] at hl⊢;exact uJ hl
  ·rw[e1 m cG] at hm;simp only[e2 m cG] at hl⊢;obtain⟨a1,a2,a3⟩:=H.own m hm hl;exact⟨a1,a2,zak a3 cX⟩
 ·intro m m' hm cF aE hl eN;by_cases cG:m=n
  ·subst cG;have kE:m'≠m:=fun e=>aE e.symm;rw[e1 m' kE] at cF;simp only[cJ,e2 m' kE] at hl eN⊢;exact fun e=>zd hl m' kE cF eN e.symm
  ·rw[e1 m cG] at hm;by_cases kE:m'=n
   ·subst kE;simp only[cJ,e2 m cG] at hl eN⊢;exact zd eN m cG hm hl
   ·rw[e1 m' kE] at cF;simp only[e2 m cG,e2 m' kE] at hl eN⊢;exact H.inj m m' hm cF aE hl eN
 ·exact fun b hb=>zak (H.jq b hb) cX
 ·intro m m' gr mo sz xs cc pJ be az hm cF hb bB aE b d7;by_cases cG:m=n
  ·subst cG;have kE:m'≠m:=fun e=>aE e.symm;rw[e1 m' kE] at cF;rw[cJ] at hm;injection hm with hm;simp only[cJ,e2 m' kE] at d7⊢;exact Mp gr mo sz xs hm hb m' cc pJ be az kE cF bB b d7
  ·rw[e1 m cG] at hm;by_cases kE:m'=n
   ·subst kE;rw[cJ] at cF;injection cF with cF;simp only[cJ,e2 m cG] at d7⊢;exact fun Ro=>Mp cc pJ be az cF bB m gr mo sz xs cG hm hb b Ro d7
   ·rw[e1 m' kE] at cF;simp only[e2 m cG,e2 m' kE] at d7⊢;exact H.iF m m' gr mo sz xs cc pJ be az hm cF hb bB aE b d7
 ·intro m gr sz xs hm b hb m' cF eN;by_cases cG:m=n
  ·subst cG;rw[cJ] at hm;injection hm with hm;simp only[cJ] at hb;have:=vM gr sz xs hm b hb;by_cases kE:m'=m
   ·subst kE;simp only[cJ] at eN⊢;exact this.1 eN
   ·rw[e1 m' kE] at cF;simp only[e2 m' kE] at eN⊢;exact this.2 m' kE cF eN
  ·rw[e1 m cG] at hm;simp only[e2 m cG] at hb;by_cases kE:m'=n
   ·subst kE;simp only[cJ] at eN⊢;exact alH eN m gr sz xs cG hm b hb
   ·rw[e1 m' kE] at cF;simp only[e2 m' kE] at eN⊢;exact H.live m gr sz xs hm b hb m' cF eN
 ·intro i pc hi;obtain⟨a1,a2⟩:=H.tU i pc hi;exact⟨a1,fun b hb=>⟨(a2 b hb).1,Eo b (H.jq b (a2 b hb).1) (a2 b hb).2.1,(a2 b hb).2.2⟩⟩
 ·exact H.yk
 ·intro i pc m gr mo sz xs b hi hm mK hb;by_cases cG:m=n
  ·subst cG;rw[cJ] at hm;injection hm with hm;simp only[cJ];exact Em gr mo sz xs hm mK i pc b hi hb
  ·rw[e1 m cG] at hm;simp only[e2 m cG];exact H.tV i pc m gr mo sz xs b hi hm mK hb
theorem HR.del (H:HR B E w G h used tk) (n:Nat):HR B E w G (aQ h n none) used tk:=by
 have e0:∀m b,aQ h n none m=some b->h m=some b/\m≠n:=fun m b hm=>by
  by_cases cG:m=n
  ·subst cG;rw[cJ] at hm;cases hm
  ·rw[dA _ _ _ _ cG] at hm;exact⟨hm,cG⟩
 have e1:∀m,aQ h n none m≠none->h m≠none:=fun m hm=>by
  by_cases cG:m=n
  ·subst cG;rw[cJ] at hm;exact absurd rfl hm
  ·rwa[dA _ _ _ _ cG] at hm
 have K:bW w G h (fun n=>used n=true) w G (aQ h n none):=
  ⟨fun _ h=>h,fun _ _ _=>rfl,fun m _ hm=>⟨e1 m hm,rfl,rfl,rfl,rfl,rfl⟩,fun m gr sz xs _ hm=>⟨⟨gr,xs,(e0 m _ hm).1⟩,fun k j pc h1 h2=>⟨pc,h1,rfl,h2⟩⟩⟩
 refine⟨fun m hm=>H.kN m (e1 m hm),fun m cs c q hm=>H.jQ m cs c q (e0 m _ hm).1,fun m cs hm=>?_,fun m gr mo sz xs hm=>H.row m gr mo sz xs (e0 m _ hm).1,
  fun m hm=>H.own m (e1 m hm),fun m m' hm cF=>H.inj m m' (e1 m hm) (e1 m' cF),H.jq,H.rW,fun m m' gr mo sz xs cc pJ be az hm cF=>H.iF m m' gr mo sz xs cc pJ be az (e0 m _ hm).1 (e0 m' _ cF).1,
  fun m gr sz xs hm b hb m' cF=>H.live m gr sz xs (e0 m _ hm).1 b hb m' (e1 m' cF),H.tU,H.yk,fun i pc m gr mo sz xs b hi hm=>H.tV i pc m gr mo sz xs b hi (e0 m _ hm).1⟩
 obtain⟨a1,a2,a3⟩:=H.box m cs (e0 m _ hm).1;refine⟨a1,a2,fun j c hj=>?_⟩;obtain⟨v,b1,b2,b3⟩:=a3 j c hj;exact⟨v,b1,b2,b3.keep K fun q hq=>H.jQ m cs c q (e0 m _ hm).1 (zaa hj) hq⟩
theorem bW.del (n:Nat) (u:Nat->Prop):bW w G h u w G (aQ h n none):=by
 have e1:∀m b,aQ h n none m=some b->h m=some b:=fun m b hm=>by
  by_cases cG:m=n
  ·subst cG;rw[cJ] at hm;cases hm
  ·rwa[dA _ _ _ _ cG] at hm
 refine⟨fun _ h=>h,fun _ _ _=>rfl,fun m _ hm=>?_,fun m gr sz xs _ hm=>⟨⟨gr,xs,e1 m _ hm⟩,fun k j pc h1 h2=>⟨pc,h1,rfl,h2⟩⟩⟩;cases hh:aQ h n none m with
 |none=>exact absurd hh hm
 |some b=>rw[e1 m b hh];exact⟨by simp,rfl,rfl,rfl,rfl,rfl⟩
end
theorem rA {α:Type} {px:List (List α)} {lo len k j:Nat} {c:α} (h:At ((px.drop lo).take len) k j c):At px (lo+k) j c/\k<len:=by
 obtain⟨e,he,hj⟩:=h;rw[List.getElem?_take] at he;split at he
 ·rename_i hk;rw[zaD] at he;exact⟨⟨e,he,hj⟩,hk⟩
 ·cases he
section
variable {B:Nat} {E:Ex} {w0 w w':World} {G G':Gh} {h h':Nat->Option av} {used used':Nat->Bool} {tk:List PC}
def nE (p:PB) (sz lo len:Nat) (v:Value):PC:=
 match v with
 |.slice a _ cap=>.list sz a cap ((p.px.drop lo).take len)
 |_=>.bool false
theorem II {gr:Bool} {m:Mode} {sz:Nat} {xs:List (List C)} {p:PB} (hr:wV B E w G gr m sz xs p) {lo len:Nat} {v:Value} (hv:lm p sz lo len v) (hl:lo+len<=xs.length):
  (nE p sz lo len v).er=.list sz ((xs.drop lo).take len)/\(nE p sz lo len v).val=v/\Good w (nE p sz lo len v)/\
  (∀b,bD b (nE p sz lo len v)->(p.nl=false/\b=p.b)\/bH b p.px):=by
 have iH:p.px.length=xs.length:=by rw[hr.er];simp
 rcases hv with⟨hn,rfl,rfl,rfl⟩|⟨hn,a,rfl,hc,ha⟩
 ·have h0:=(hr.nl hn).1;refine⟨?_,?_,?_,?_⟩
  ·simp[nE,PC.fo]
  ·simp[nE,PC.val]
  ·simp only[nE,zbj,za2];exact .nil _ _ _ hr.pos
  ·intro b hb;simp only[nE,zbj,za2] at hb;rw[bD.nA] at hb;rcases hb with⟨hb,_⟩|⟨k,j,c,⟨e,he,_⟩,_⟩
   ·exact absurd rfl hb
   ·simp at he
 ·have hlen:((p.px.drop lo).take len).length=len:=by simp;omega
  refine⟨?_,?_,?_,?_⟩
  ·simp only[nE,PC.fo];rw[hr.er,za7,za8]
  ·simp[nE,PC.val];omega
  ·simp only[nE];by_cases h0:(p.px.drop lo).take len=[]
   ·rw[h0];exact .nil _ _ _ hr.pos
   ·have aaQ:0<len:=by
     rcases zaM len with hz|hz
     ·subst hz;simp at h0
     ·exact hz
    have e:=ha (.inl (by omega));subst e;obtain⟨a1,a2,a3⟩:=hr.fN hn;refine .cons sz p.b (p.o+lo*sz) _ _ h0 (by omega) hr.pos (fun e he=>a2.1 e (zat (zau he))) (fun k j c hk=>?_) (fun k j c hk=>a2.2.2 _ _ _ (rA hk).1);have:=a2.2.1 _ _ _ (rA hk).1;rw[zai] at this;rw[<-this];congr 2;omega
  ·intro b hb;simp only[nE] at hb;rw[bD.nA] at hb;rcases hb with⟨hb,o,ho⟩|⟨k,j,c,hk,hb⟩
   ·have aaQ:0<len:=by
     rcases zaM len with hz|hz
     ·subst hz;simp at hb
     ·exact hz
    have e:=ha (.inl (by omega));rw[e] at ho;injection ho with ho;exact .inl ⟨hn,(pZ ho).1.symm⟩
   ·exact .inr ⟨_,_,_,(rA hk).1,hb⟩
theorem HR.dq (H:HR B E w G h used tk) {c:aj} {x:C} {v:Value} (hx:dq h c=some x) (hc:RC w G h c v):∃pc:PC,pc.er=x/\pc.val=v/\Good w pc:=by
 cases c with
 |c y=>
  simp only[Am.dq] at hx;injection hx with hx;subst hx;obtain⟨pc,h1,h2,h3,_⟩:=hc;exact⟨pc,h1,h2,h3⟩
 |nil sz=>
  simp only[Am.dq] at hx;split at hx
  ·rename_i ft;injection hx with hx;subst hx;have dO:v=.slice none 0 0:=hc;subst dO;exact⟨.list sz none 0 [],by simp[PC.fo],rfl,.nil _ _ _ ft⟩
  ·cases hx
 |sl n sz lo len=>
  simp only[Am.dq] at hx;split at hx
  ·rename_i gr m rs xs hn;split at hx
   ·rename_i dP;obtain⟨rfl,hl⟩:=dP;injection hx with hx;subst hx;have hs:lm (G.g n) rs lo len v:=hc (by rw[hn];simp);obtain⟨a1,a2,a3,_⟩:=II (H.row n gr m rs xs hn) hs hl;exact⟨_,a1,a2,a3⟩
   ·cases hx
  ·cases hx
 |ct n k aR off sz len=>
  simp only[Am.dq] at hx;split at hx
  ·rename_i gr rs xs hn;split at hx
   ·rename_i dP;subst dP;obtain⟨pc,p1,p2,p3⟩:=hc gr xs hn;have hr:=H.row n gr .live rs xs hn;have bq:(G.g n).nl=false:=by
     cases hq:(G.g n).nl with
     |false=>rfl
     |true=>obtain⟨e,he,_⟩:=p1;rw[(hr.nl hq).1] at he;simp at he
    refine⟨pc,?_,p2,(hr.fN bq).2.1.2.2 _ _ _ p1⟩;obtain⟨e,he,hj⟩:=p1;rw[hr.er] at hx;simp[he,hj] at hx;exact hx
   ·cases hx
  ·cases hx
 |ptr _ _ _ _=>simp[Am.dq] at hx
 |dr _ _=>simp[Am.dq] at hx
 |cN _ _ _ _ _ _=>simp[Am.dq] at hx
 |fn _ _=>simp[Am.dq] at hx
 |dY _ _ _ _ _ _=>simp[Am.dq] at hx
 |cd=>simp[Am.dq] at hx
theorem HR.jP (H:HR B E w G h used tk):∀{cs:List aj} {xs:List C} {vs:List Value},jP h cs=some xs->dT w G h cs vs->
  ∃cu:List PC,cu.map PC.er=xs/\cu.map PC.val=vs/\∀pc∈cu,Good w pc
 |[],xs,vs,hx,hc=>by
  simp only[Am.jP] at hx;injection hx with hx;subst hx;have:vs=[]:=zae (by simpa using hc.1);subst this;exact⟨[],rfl,rfl,by simp⟩
 |c::cs,xs,vs,hx,hc=>by
  simp only[Am.jP] at hx;split at hx
  ·rename_i x az e1 e2;injection hx with hx;subst hx;obtain⟨hlen,cV⟩:=hc;match vs,hlen with
   |v::vs,hlen=>
    obtain⟨pc,a1,a2,a3⟩:=H.dq e1 (cV 0 c v rfl rfl).2;obtain⟨cu,b1,b2,b3⟩:=H.jP e2 (cs:=cs) (vs:=vs) ⟨by simpa using hlen,fun j c u h1 h2=>cV (j+1) c u h1 h2⟩;refine⟨pc::cu,by simp[a1,b1],by simp[a2,b2],fun q hq=>?_⟩;cases hq with
    |head=>exact a3
    |tail _ hq=>exact b3 q hq
  ·cases hx
def CO (w:World) (d:Dv) (v:Value):Prop:=
 match d.1 with
 |.one=>∃cu:List PC,cu.map PC.er=d.2/\(∀pc∈cu,Good w pc)/\cu.map PC.val=[v]
 |.agg=>∃cu:List PC,cu.map PC.er=d.2/\(∀pc∈cu,Good w pc)/\v=.agg (cu.map PC.val).toArray
 |.ptr=>∃(cu:List PC) (b o:Nat),cu.map PC.er=d.2/\v=.pointer (some (ad b o))/\b<w.heap.size/\
  ∀j c,cu[j]? =some c->w.cell? (ad b (o+j))=some c.val/\Good w c
def Jh (w:World) (ds:List Dv) (vs:List Value):Prop:=
 vs.length=ds.length/\∀(j:Nat) (d:Dv) (v:Value),ds[j]? =some d->vs[j]? =some v->CO w d v
theorem HR.j5 (H:HR B E w G h used tk) {x:ao} {d:Dv} {v:Value} (hx:j5 h x=some d) (hc:RA w G h x v):CO w d v:=by
 have one:∀c:aj,(Am.dq h c).map (fun x=>((.one,[x]):Dv))=some d->RA w G h (.one c) v->CO w d v:=by
  intro c hx hc;cases hv:Am.dq h c with
  |none=>rw[hv] at hx;cases hx
  |some y=>
   rw[hv] at hx;simp at hx;subst hx;rcases hc with rfl|hc
   ·simp[Am.dq] at hv
   ·have dO:dT w G h [c] [v]:=hc;obtain⟨pc,a1,a2,a3⟩:=H.dq hv (dO.2 0 c v rfl rfl).2;exact⟨[pc],by simp[a1],by simpa using a3,by simp[a2]⟩
 cases x with
 |one c=>
  cases c with
  |ptr n k sz off=>
   simp only[Am.j5] at hx;split at hx
   ·rename_i cs hn;split at hx
    ·rename_i dP;obtain⟨rfl,rfl⟩:=dP;cases hv:Am.jP h cs with
     |none=>rw[hv] at hx;cases hx
     |some xs=>
      rw[hv] at hx;simp at hx;subst hx;rcases hc with hc|hc
      ·cases hc
      ·have dO:dT w G h [.ptr n 0 sz 0] [v]:=hc;have hp:=(dO.2 0 _ v rfl rfl).2 (by rw[hn];simp);obtain⟨s9,qT⟩:=hp;obtain⟨q1,q2,q3⟩:=H.box n cs hn;have cI:∀(cs:List aj) (o:Nat) (xs:List C),(∀(j:Nat) (c:aj),cs[j]? =some c->∃v,w.cell? (ad (G.g n).b (o+j))=some v/\v.oneCell'=true/\RC w G h c v)->Am.jP h cs=some xs->
         ∃cu:List PC,cu.map PC.er=xs/\∀j c,cu[j]? =some c->w.cell? (ad (G.g n).b (o+j))=some c.val/\Good w c:=by
        intro cs;induction cs with
        |nil=>
         intro o xs _ hx;simp only[Am.jP] at hx;injection hx with hx;subst hx;exact⟨[],rfl,by simp⟩
        |cons c cs ih=>
         intro o xs jg hx;simp only[Am.jP] at hx;split at hx
         ·rename_i x az e1 e2;injection hx with hx;subst hx;obtain⟨u,u1,_,u2⟩:=jg 0 c rfl;obtain⟨pc,a1,a2,a3⟩:=H.dq e1 u2;obtain⟨cu,b1,b2⟩:=ih (o+1) az (fun j c hj=>by
           have:=jg (j+1) c hj;rwa[show o+(j+1)=o+1+j from by omega] at this) e2
          refine⟨pc::cu,by simp[a1,b1],fun j c hj=>?_⟩;cases j with
          |zero=>simp at hj;subst hj;rw[a2];exact⟨u1,a3⟩
          |succ j=>
           have:=b2 j c (by simpa using hj);rwa[show o+1+j=o+(j+1) from by omega] at this
         ·cases hx
       obtain⟨cu,b1,b2⟩:=cI cs (G.g n).o xs q3 hv;exact⟨cu,(G.g n).b,(G.g n).o,b1,by simpa using qT,q2.lt,b2⟩
    ·cases hx
   ·cases hx
  |dr xs off=>
   simp only[Am.j5] at hx;split at hx
   ·rename_i h0;subst h0;injection hx with hx;subst hx;rcases hc with hc|hc
    ·cases hc
    ·have dO:dT w G h [.dr xs 0] [v]:=hc;obtain⟨b,o,pe,p1,p2,p3,p4⟩:=(dO.2 0 _ v rfl rfl).2;exact⟨pe,b,o,p2,by simpa using p1,H.jq b p3,fun j c hj=>⟨(p4 j c hj).1,(p4 j c hj).2.1⟩⟩
   ·cases hx
  |c y=>exact one (.c y) hx hc
  |nil sz=>exact one (.nil sz) hx hc
  |sl n sz lo len=>exact one (.sl n sz lo len) hx hc
  |ct n k aR off sz len=>exact one (.ct n k aR off sz len) hx hc
  |dY n k aR off sz i=>exact one (.dY n k aR off sz i) hx hc
  |cN xs off j n sz len=>exact one (.cN xs off j n sz len) hx hc
  |fn f c9=>exact one (.fn f c9) hx hc
  |cd=>exact one .cd hx hc
 |agg cs=>
  simp only[Am.j5] at hx;cases hv:Am.jP h cs with
  |none=>rw[hv] at hx;cases hx
  |some xs=>
   rw[hv] at hx;simp at hx;subst hx;obtain⟨vs,e,hl⟩:∃vs:List Value,v=.agg vs.toArray/\dT w G h cs vs:=hc;obtain⟨cu,a1,a2,a3⟩:=H.jP hv hl;exact⟨cu,a1,a3,by rw[e,a2]⟩
 |cf xs=>simp[Am.j5] at hx
theorem HR.ot (H:HR B E w G h used tk):∀{xs:List ao} {ds:List Dv} {vs:List Value},ot h xs=some ds->vs.length=xs.length->
  (∀(j:Nat) (x:ao) (v:Value),xs[j]? =some x->vs[j]? =some v->RA w G h x v)->Jh w ds vs
 |[],ds,vs,hx,hl,hc=>by
  simp only[Am.ot] at hx;injection hx with hx;subst hx;exact⟨by simpa using hl,by simp⟩
 |x::xs,ds,vs,hx,hl,hc=>by
  simp only[Am.ot] at hx;split at hx
  ·rename_i d vC e1 e2;injection hx with hx;subst hx;match vs,hl with
   |v::vs,hl=>
    have a:=H.j5 e1 (hc 0 x v rfl rfl);obtain⟨b1,b2⟩:=H.ot e2 (xs:=xs) (vs:=vs) (by simpa using hl) (fun j x v h1 h2=>hc (j+1) x v h1 h2);refine⟨by simp[b1],fun j d v hj hv=>?_⟩;cases j with
    |zero=>simp at hj hv;subst hj;subst hv;exact a
    |succ j=>exact b2 j d v (by simpa using hj) (by simpa using hv)
  ·cases hx
end
section
variable {B:Nat} {E:Ex} {w0 w w':World} {G G':Gh} {h h':Nat->Option av} {used used':Nat->Bool} {tk:List PC}
theorem bW.v8 (S:Nat->Prop) (u:Nat->Prop):bW w G h u w ⟨fun b=>G.Im b\/S b,G.g⟩ h:=
 ⟨fun _ h=>.inl h,fun _ _ _=>rfl,fun _ _ h=>⟨h,rfl,rfl,rfl,rfl,rfl⟩,fun n gr sz xs _ hn=>⟨⟨gr,xs,hn⟩,fun k j pc h1 h2=>⟨pc,h1,rfl,h2⟩⟩⟩
theorem HR.v8 (H:HR B E w G h used tk) (S:Nat->Prop) (h1:∀b,S b->b<w.heap.size) (h2:∀b,S b->∀n,h n≠none->(G.g n).nl=false->b≠(G.g n).b)
  (h3:∀b,S b->∀n gr sz xs,h n=some (.row gr .live sz xs)->¬bH b (G.g n).px) (h4:∀b,S b->B<=b\/E b\/E.a b):HR B E w ⟨fun b=>G.Im b\/S b,G.g⟩ h used tk:=by
 refine⟨H.kN,H.jQ,fun n cs hn=>?_,fun n gr m sz xs hn=>?_,fun n hn hl=>?_,H.inj,?_,fun b hb=>hb.elim (H.rW b) (h4 b),H.iF,H.live,fun i pc hi=>?_,H.yk,H.tV⟩
 ·obtain⟨a1,a2,a3⟩:=H.box n cs hn;refine⟨a1,a2,fun j c hj=>?_⟩;obtain⟨v,b1,b2,b3⟩:=a3 j c hj;exact⟨v,b1,b2,b3.keep (bW.v8 S (fun n=>used n=true)) fun q hq=>H.jQ n cs c q hn (zaa hj) hq⟩
 ·have hr:=H.row n gr m sz xs hn;refine⟨hr.pos,hr.er,hr.nl,hr.fN,hr.room,?_⟩;have hm:=hr.mode;cases m with
  |aL=>exact fun b hb=>.inl (hm b hb)
  |bc=>exact⟨fun b hb=>⟨.inl (hm.1 b hb).1,(hm.1 b hb).2⟩,hm.2⟩
  |live=>exact⟨fun b hb=>⟨fun hi=>hi.elim (hm.1 b hb).1 (fun hs=>h3 b hs n gr sz xs hn hb),(hm.1 b hb).2⟩,hm.2⟩
 ·obtain⟨a1,a2,a3⟩:=H.own n hn hl;exact⟨fun hi=>hi.elim a1 (fun hs=>h2 _ hs n hn hl rfl),a2,a3⟩
 ·exact fun b hb=>hb.elim (H.jq b) (h1 b)
 ·obtain⟨a1,a2⟩:=H.tU i pc hi;exact⟨a1,fun b hb=>⟨.inl (a2 b hb).1,(a2 b hb).2⟩⟩
theorem HR.Ak {l:List PC} (H:HR B E w G h used (tk++l)):HR B E w G h used tk:=by
 have e:∀(i:Nat) (pc:PC),tk[i]? =some pc->(tk++l)[i]? =some pc:=fun i pc hi=>by
  rw[zaf (zab.1 hi).1];exact hi
 exact⟨H.kN,H.jQ,H.box,H.row,H.own,H.inj,H.jq,H.rW,H.iF,H.live,fun i pc hi=>H.tU i pc (e i pc hi),fun i j pc eX b kO h1 h2=>H.yk i j pc eX b kO (e i pc h1) (e j eX h2),
  fun i pc n gr m sz xs b hi=>H.tV i pc n gr m sz xs b (e i pc hi)⟩
theorem HR.WR (H:HR B E w G h used tk) {pc:PC} (h1:Sep pc) (h2:∀b,bD b pc->G.Im b/\fy w b/\(B<=b\/E b))
  (h3:∀(i:Nat) (q:PC) (b:Nat),tk[i]? =some q->bD b q->¬bD b pc)
  (h4:∀n gr m sz xs b,h n=some (.row gr m sz xs)->m≠ .aL->bD b pc->¬bH b (G.g n).px):HR B E w G h used (tk++[pc]):=by
 have e:∀(i:Nat) (q:PC),(tk++[pc])[i]? =some q->(i<tk.length/\tk[i]? =some q)\/(i=tk.length/\q=pc):=fun i q hi=>by
  rcases zaP i tk.length with cD|gh|Bo
  ·rw[zaf cD] at hi;exact .inl ⟨cD,hi⟩
  ·subst gh;simp at hi;exact .inr ⟨rfl,hi.symm⟩
  ·rw[zaV (by simp;omega)] at hi;cases hi
 refine⟨H.kN,H.jQ,H.box,H.row,H.own,H.inj,H.jq,H.rW,H.iF,H.live,fun i q hi=>?_,fun i j q q' b kO hi hj hb=>?_,fun i q n gr m sz xs b hi hn hm hb=>?_⟩
 ·rcases e i q hi with⟨_,hi⟩|⟨_,rfl⟩
  ·exact H.tU i q hi
  ·exact⟨h1,h2⟩
 ·rcases e i q hi with⟨_,e7⟩|⟨ei,eq⟩
  ·rcases e j q' hj with⟨_,kD⟩|⟨_,Y2⟩
   ·exact H.yk i j q q' b kO e7 kD hb
   ·rw[Y2];exact h3 i q b e7 hb
  ·rcases e j q' hj with⟨_,kD⟩|⟨ej,Y2⟩
   ·rw[eq] at hb;exact fun bB=>h3 j q' b kD bB hb
   ·omega
 ·rcases e i q hi with⟨_,hi⟩|⟨_,rfl⟩
  ·exact H.tV i q n gr m sz xs b hi hn hm hb
  ·exact h4 n gr m sz xs b hn hm hb
theorem Sep.n9 {pc:PC} (hs:pc.er.gK=true):Sep pc/\∀b,¬bD b pc:=by
 cases pc with
 |int k n=>exact⟨.int k n,fun b hb=>by cases hb⟩
 |bool b=>exact⟨.bool b,fun b hb=>by cases hb⟩
 |list sz a cap xs=>simp[PC.fo,C.gK] at hs
theorem ur {n m:Nat} {b:av} (hm:aQ h n none m=some b):h m=some b/\m≠n:=by
 by_cases cG:m=n
 ·subst cG;rw[cJ] at hm;cases hm
 ·rw[dA _ _ _ _ cG] at hm;exact⟨hm,cG⟩
theorem Gk {n m:Nat} (hm:aQ h n none m≠none):h m≠none/\m≠n:=by
 cases hh:aQ h n none m with
 |none=>exact absurd hh hm
 |some b=>obtain⟨a,b⟩:=ur hh;exact⟨by rw[a];simp,b⟩
def OT (p:PB):Nat->Prop:=fun b=>(p.nl=false/\b=p.b)\/bH b p.px
theorem HR.freeze (H:HR B E w G h used tk) {n:Nat} {gr:Bool} {m:Mode} {rs:Nat} {xs:List (List C)} (hn:h n=some (.row gr m rs xs)):
  HR B E w ⟨fun b=>G.Im b\/OT (G.g n) b,G.g⟩ (aQ h n none) used tk:=by
 have hr:=H.row n gr m rs xs hn;have cO:h n≠none:=by rw[hn];simp
 have iv:∀b,bH b (G.g n).px->G.Im b\/m=.live:=fun b hb=>by
  have hm:=hr.mode;cases m with
  |aL=>exact .inl (hm b hb)
  |bc=>exact .inl (hm.1 b hb).1
  |live=>exact .inr rfl
 refine(H.del n).v8 (OT (G.g n)) (fun b hb=>?_) (fun b hb q hq hl=>?_) (fun b hb q cc be az hq d7=>?_) (fun b hb=>?_)
 ·rcases hb with⟨h1,rfl⟩|hb
  ·exact(H.own n cO h1).2.2
  ·exact H.u6 hn hb
 ·obtain⟨qj,ib⟩:=Gk hq;rcases hb with⟨h1,rfl⟩|hb
  ·exact H.inj n q cO qj (zaW ib) h1 hl
  ·rcases iv b hb with hi|rfl
   ·rintro rfl;exact(H.own q qj hl).1 hi
   ·exact H.live n gr rs xs hn b hb q qj hl
 ·obtain⟨qj,ib⟩:=ur hq;rcases hb with⟨h1,rfl⟩|hb
  ·exact H.live q cc be az qj _ d7 n cO h1 rfl
  ·rcases iv b hb with hi|rfl
   ·exact((H.row q cc .live be az qj).mode.1 b d7).1 hi
   ·exact H.iF n q gr .live rs xs cc .live be az hn qj (by simp) (by simp) (zaW ib) b hb d7
 ·rcases hb with⟨h1,rfl⟩|hb
  ·exact(H.own n cO h1).2.1.imp id .inl
  ·rcases iv b hb with hi|rfl
   ·exact H.rW b hi
   ·exact(hr.mode.1 b hb).2.2.imp id .inl
theorem kx.sub {px:List (List PC)} (hs:kx px) (lo len:Nat):kx ((px.drop lo).take len):=by
 refine⟨fun k j c hk=>hs.1 _ _ _ (rA hk).1,fun k j c k' j' c' b hk dj aE hb=>hs.2 _ _ _ _ _ _ b (rA hk).1 (rA dj).1 (fun e=>aE ?_) hb⟩;injection e with e1 e2;rw[show k=k' by omega,e2]
theorem HR.io {σ σ1:St} (H:HR B E w G σ.h σ.used tk) {c:aj} {x:C} {o:Bool} {v:Value} (hx:σ.io c=some (x,o,σ1)) (hc:RC w G σ.h c v):
  ∃(Im':Nat->Prop) (pc:PC),pc.er=x/\pc.val=v/\Good w pc/\(∀b,bD b pc->Im' b)/\
   HR B E w ⟨Im',G.g⟩ σ1.h σ.used (if o=true then tk++[pc] else tk)/\bW w G σ.h (fun n=>σ.used n=true) w ⟨Im',G.g⟩ σ1.h/\σ1.env=σ.env/\σ1.used=σ.used/\
   (∀n b,σ1.h n=some b->σ.h n=some b):=by
 cases c with
 |c y=>
  simp only[St.io] at hx;injection hx with hx;injection hx with mf e8;injection e8 with e8 rU;subst mf e8 rU;obtain⟨pc,h1,h2,h3,h4⟩:=hc;refine⟨G.Im,pc,h1,h2,h3,h4,?_,bW.refl _ _ _ _,rfl,rfl,fun _ _ h=>h⟩;by_cases hs:y.gK=true
  ·rw[if_pos hs];obtain⟨s1,s2⟩:=Sep.n9 (pc:=pc) (by rw[h1];exact hs);exact H.WR s1 (fun b hb=>absurd hb (s2 b)) (fun _ _ b _ _=>s2 b) (fun _ _ _ _ _ b _ _ hb=>absurd hb (s2 b))
  ·rw[if_neg hs];exact H
 |nil sz=>
  simp only[St.io] at hx;split at hx
  ·rename_i ft;injection hx with hx;injection hx with mf e8;injection e8 with e8 rU;subst mf e8 rU;have dO:v=.slice none 0 0:=hc;subst dO;have dF:∀b,¬bD b (.list sz none 0 []):=fun b hb=>by
    rw[bD.nA] at hb;rcases hb with⟨hb,_⟩|⟨k,j,c,⟨e,he,_⟩,_⟩
    ·exact absurd rfl hb
    ·simp at he
   refine⟨G.Im,.list sz none 0 [],by simp[PC.fo],rfl,.nil _ _ _ ft,fun b hb=>absurd hb (dF b),?_,bW.refl _ _ _ _,rfl,rfl,fun _ _ h=>h⟩;rw[if_pos rfl];refine H.WR (.list _ _ _ _ ?_ ?_ ?_) (fun b hb=>absurd hb (dF b)) (fun _ _ b _ _=>dF b) (fun _ _ _ _ _ b _ _ hb=>absurd hb (dF b))
   ·rintro k j c ⟨e,he,_⟩;simp at he
   ·rintro b o k j c _ ⟨e,he,_⟩;simp at he
   ·rintro k j c k' j' c' b ⟨e,he,_⟩;simp at he
  ·cases hx
 |sl n sz lo len=>
  simp only[St.io] at hx;split at hx
  ·rename_i gr m rs xs hn;split at hx
   ·rename_i dP;obtain⟨rfl,rfl,qS⟩:=dP;injection hx with hx;injection hx with mf e8;injection e8 with e8 rU;subst mf e8 rU;have hl:0+len<=xs.length:=by omega
    have cO:σ.h n≠none:=by rw[hn];simp
    have hs:lm (G.g n) rs 0 len v:=hc cO;have hr:=H.row n gr m rs xs hn;obtain⟨a1,a2,a3,a4⟩:=II hr hs hl;have HF:=H.freeze hn;have K1:bW w G σ.h (fun n=>σ.used n=true) w ⟨fun b=>G.Im b\/OT (G.g n) b,G.g⟩ (aQ σ.h n none):=
     bW.trans (fun _ h=>h) (bW.del n (fun n=>σ.used n=true)) (bW.v8 (OT (G.g n)) (fun n=>σ.used n=true))
    refine⟨_,nE (G.g n) rs 0 len v,by simpa using a1,a2,a3,fun b hb=>.inr (a4 b hb),?_,K1,rfl,rfl,fun q b hq=>(ur hq).1⟩;by_cases hm:m≠ .aL
    ·rw[if_pos (by simpa using hm)];have uJ:(∀b,bH b (G.g n).px->fy w b/\(B<=b\/E b))/\kx (G.g n).px/\(∀b,bH b (G.g n).px->(G.g n).nl=false->b≠(G.g n).b):=by
      have eA:=hr.mode;cases m with
      |aL=>exact absurd rfl hm
      |bc=>exact⟨fun b hb=>(eA.1 b hb).2,eA.2,fun b hb hl gh=>(H.own n cO hl).1 (gh▸(eA.1 b hb).1)⟩
      |live=>exact⟨fun b hb=>(eA.1 b hb).2,eA.2,fun b hb hl=>H.live n gr rs xs hn b hb n cO hl⟩
     obtain⟨o1,o2,o3⟩:=uJ;refine HF.WR ?_ (fun b hb=>⟨.inr (a4 b hb),?_⟩) (fun i q b hi hb bB=>?_) (fun q cc m' be az b hq cF hb d7=>?_)
     ·
      rcases hs with⟨bq,rfl,_,rfl⟩|⟨bq,a,rfl,kC,ha⟩
      ·simp only[nE];have hz:(List.take 0 (List.drop 0 (G.g n).px))=[]:=by simp
       rw[hz];refine .list _ _ _ _ ?_ ?_ ?_
       ·rintro k j c ⟨e,he,_⟩;simp at he
       ·rintro b o k j c _ ⟨e,he,_⟩;simp at he
       ·rintro k j c k' j' c' b ⟨e,he,_⟩;simp at he
      ·simp only[nE];have Hk:=o2.sub 0 len;refine .list _ _ _ _ Hk.1 (fun b o k j c gD hk hb=>?_) Hk.2;have dj:=(rA hk).1;have aaQ:0<len:=by have:=(rA hk).2;omega
       have e:=ha (.inl (by omega));rw[e] at gD;injection gD with gD;exact o3 b ⟨_,_,_,dj,hb⟩ bq (pZ gD).1.symm
     ·rcases a4 b hb with⟨eN,rfl⟩|bB
      ·exact⟨(hr.fN eN).1,(H.own n cO eN).2.1⟩
      ·exact o1 b bB
     ·rcases a4 b bB with⟨eN,rfl⟩|d7
      ·exact(H.own n cO eN).1 ((H.tU i q hi).2 _ hb).1
      ·exact H.tV i q n gr m rs xs b hi hn hm hb d7
     ·obtain⟨qj,ib⟩:=ur hq;rcases a4 b hb with⟨eN,rfl⟩|bB
      ·have eA:=(H.row q cc m' be az qj).mode;cases m' with
       |aL=>exact absurd rfl cF
       |bc=>exact(H.own n cO eN).1 (eA.1 _ d7).1
       |live=>exact H.live q cc be az qj _ d7 n cO eN rfl
      ·exact H.iF n q gr m rs xs cc m' be az hn qj hm cF (zaW ib) b bB d7
    ·rw[if_neg (by simpa using hm)];exact HF
   ·cases hx
  ·cases hx
 |ptr _ _ _ _=>simp[St.io] at hx
 |dr _ _=>simp[St.io] at hx
 |cN _ _ _ _ _ _=>simp[St.io] at hx
 |ct _ _ _ _ _ _=>simp[St.io] at hx
 |fn _ _=>simp[St.io] at hx
 |dY _ _ _ _ _ _=>simp[St.io] at hx
 |cd=>simp[St.io] at hx
end
section
variable {B:Nat} {E:Ex} {w0 w w':World} {G G':Gh} {h h':Nat->Option av} {used used':Nat->Bool} {tk:List PC}
theorem HR.gY:∀{cs:List aj} {σ σ1:St} {G:Gh} {tk:List PC} {xs:List C} {o:Bool} {vs:List Value},HR B E w G σ.h σ.used tk->σ.gY cs=some (xs,o,σ1)->dT w G σ.h cs vs->
  (∀c∈cs,∀m,c.ref m->σ.used m=true)->
  ∃(Im':Nat->Prop) (cu:List PC),cu.map PC.er=xs/\cu.map PC.val=vs/\(∀pc∈cu,Good w pc/\∀b,bD b pc->Im' b)/\
   HR B E w ⟨Im',G.g⟩ σ1.h σ.used (if o=true then tk++cu else tk)/\bW w G σ.h (fun n=>σ.used n=true) w ⟨Im',G.g⟩ σ1.h/\σ1.env=σ.env/\σ1.used=σ.used/\
   (∀n b,σ1.h n=some b->σ.h n=some b)
 |[],σ,σ1,G,tk,xs,o,vs,H,hx,hc,hr=>by
  simp only[St.gY] at hx;injection hx with hx;injection hx with mf e8;injection e8 with e8 rU;subst mf e8 rU;have:vs=[]:=zae (by simpa using hc.1);subst this;exact⟨G.Im,[],rfl,rfl,by simp,by simpa using H,bW.refl _ _ _ _,rfl,rfl,fun _ _ h=>h⟩
 |c::cs,σ,σ2,G,tk,xs,o,vs,H,hx,hc,hr=>by
  simp only[St.gY] at hx;split at hx
  ·rename_i x o1 σ1 e1;split at hx
   ·rename_i az o2 Xb e2;injection hx with hx;injection hx with mf e8;injection e8 with e8 rU;subst mf e8 rU;obtain⟨hlen,cV⟩:=hc;match vs,hlen with
    |v::vs,hlen=>
     obtain⟨AB,pc,a1,a2,a3,a4,a5,a6,a7,a8,a9⟩:=H.io e1 (cV 0 c v rfl rfl).2;have y9:dT w ⟨AB,G.g⟩ σ1.h cs vs:=dT.keep a6 (fun c' dO m hm=>hr c' (by simp[dO]) m hm) ⟨by simpa using hlen,fun j c u h1 h2=>cV (j+1) c u h1 h2⟩;rw[<-a8] at a5;obtain⟨FT,cu,b1,b2,b3,b4,b5,b6,b7,b8⟩:=HR.gY a5 e2 y9 (fun c' dO m hm=>by rw[a8];exact hr c' (by simp[dO]) m hm);refine⟨FT,pc::cu,by simp[a1,b1],by simp[a2,b2],fun q hq=>?_,?_,bW.trans (fun n hn=>by rw[a8];exact hn) a6 b5,b6.trans a7,b7.trans a8,fun n b hb=>a9 n b (b8 n b hb)⟩
     ·cases hq with
      |head=>exact⟨a3,fun b hb=>b5.im b (a4 b hb)⟩
      |tail _ hq=>exact b3 q hq
     ·rw[a8] at b4;cases o1<;>cases o2<;>simp at b4⊢
      ·exact b4
      ·exact b4.Ak
      ·exact b4.Ak
      ·exact b4
   ·cases hx
  ·cases hx
theorem RA.cells {x:ao} {ag:Bool} {cs:List aj} {v:Value} (hx:x.cells?=some (ag,cs)) (hc:RA w G h x v):dT w G h cs v.cells.toList:=by
 cases x with
 |one c=>
  have hj:c≠ .cd/\ag=false/\cs=[c]:=by
   cases c<;>simp[ao.cells?] at hx<;>(obtain⟨rfl,rfl⟩:=hx;simp)
  obtain⟨h1,rfl,rfl⟩:=hj;rcases hc with rfl|hc
  ·exact absurd rfl h1
  ·have dO:dT w G h [c] [v]:=hc;have h1:=(dO.2 0 c v rfl rfl).1;cases v<;>first|exact dO|(simp[Value.oneCell'] at h1)
 |agg cs'=>
  simp[ao.cells?] at hx;obtain⟨rfl,rfl⟩:=hx;obtain⟨vs,e,hl⟩:∃vs:List Value,v=.agg vs.toArray/\dT w G h cs' vs:=hc;subst e;exact hl
 |cf xs=>simp[ao.cells?] at hx
theorem ao.AP {x:ao} {ag:Bool} {cs:List aj} (hx:x.cells?=some (ag,cs)) {c:aj} (hc:c∈cs) {m:Nat} (hm:c.ref m):x.ref m:=by
 cases x with
 |one c'=>
  have hj:cs=[c']:=by
   cases c'<;>simp[ao.cells?] at hx<;>exact hx.2.symm
  subst hj;simp at hc;subst hc;exact hm
 |agg cs'=>
  simp[ao.cells?] at hx;obtain⟨_,rfl⟩:=hx;exact⟨c,hc,hm⟩
 |cf xs=>simp[ao.cells?] at hx
theorem HR.oe {sz:Nat}:∀{xs:List ao} {σ σ1:St} {G:Gh} {tk:List PC} {es:List (List C)} {o:Bool} {vs:List Value},HR B E w G σ.h σ.used tk->σ.oe sz xs=some (es,o,σ1)->
  vs.length=xs.length->(∀(j:Nat) (x:ao) (v:Value),xs[j]? =some x->vs[j]? =some v->RA w G σ.h x v)->(∀x∈xs,∀m,x.ref m->σ.used m=true)->
  ∃(Im':Nat->Prop) (pes:List (List PC)),pes.map (fun e=>e.map PC.er)=es/\pes.map (fun e=>e.map PC.val)=vs.map (fun v=>v.cells.toList)/\(∀e∈pes,e.length=sz)/\
   (∀e∈pes,∀pc∈e,Good w pc/\∀b,bD b pc->Im' b)/\
   HR B E w ⟨Im',G.g⟩ σ1.h σ.used (if o=true then tk++pes.flatten else tk)/\bW w G σ.h (fun n=>σ.used n=true) w ⟨Im',G.g⟩ σ1.h/\σ1.env=σ.env/\σ1.used=σ.used/\
   (∀n b,σ1.h n=some b->σ.h n=some b)
 |[],σ,σ1,G,tk,es,o,vs,H,hx,hl,hc,hr=>by
  simp only[St.oe] at hx;injection hx with hx;injection hx with mf e8;injection e8 with e8 rU;subst mf e8 rU;have:vs=[]:=zae (by simpa using hl);subst this;exact⟨G.Im,[],rfl,rfl,by simp,by simp,by simpa using H,bW.refl _ _ _ _,rfl,rfl,fun _ _ h=>h⟩
 |x::xs,σ,σ2,G,tk,es,o,vs,H,hx,hl,hc,hr=>by
  simp only[St.oe] at hx;split at hx
  ·rename_i ag cs m8;split at hx
   ·rename_i cX;split at hx
    ·rename_i e o1 σ1 e1;split at hx
     ·rename_i es' o2 Xb e2;injection hx with hx;injection hx with mf e8;injection e8 with e8 rU;subst mf e8 rU;match vs,hl with
      |v::vs,hl=>
       have cY:=(hc 0 x v rfl rfl).cells m8;obtain⟨AB,cu,a1,a2,a3,a5,a6,a7,a8,a9⟩:=H.gY e1 cY (fun c' dO m hm=>hr x (by simp) m (ao.AP m8 dO hm));rw[<-a8] at a5;obtain⟨FT,pes,b1,b2,b3,b3',b4,b5,b6,b7,b8⟩:=HR.oe (xs:=xs) (vs:=vs) a5 e2 (by simpa using hl)
        (fun j x v h1 h2=>(hc (j+1) x v h1 h2).keep a6 (fun m hm=>hr x (by simp[zaa h1]) m hm)) (fun x' me m hm=>by rw[a8];exact hr x' (by simp[me]) m hm)
       refine⟨FT,cu::pes,by simp[a1,b1],by simp[a2,b2],fun q hq=>?_,fun q hq pc bA=>?_,?_,bW.trans (fun n hn=>by rw[a8];exact hn) a6 b5,b6.trans a7,b7.trans a8,fun n b hb=>a9 n b (b8 n b hb)⟩
       ·cases hq with
        |head=>
         have:(cu.map PC.er).length=(v.cells.toList).length:=by rw[<-a2];simp
         have h2:=cY.1;simp at this;simp at h2;omega
        |tail _ hq=>exact b3 q hq
       ·cases hq with
        |head=>exact⟨(a3 pc bA).1,fun b hb=>b5.im b ((a3 pc bA).2 b hb)⟩
        |tail _ hq=>exact b3' q hq pc bA
       ·rw[a8] at b4;cases o1<;>cases o2<;>simp at b4⊢
        ·exact b4
        ·exact b4.Ak
        ·exact b4.Ak
        ·exact b4
     ·cases hx
    ·cases hx
   ·cases hx
  ·cases hx
def lO (b:Nat) (pc:PC):Prop:=bD b pc\/∃sz o cap xs,pc=.list sz (some (ad b o)) cap xs/\cap≠0
def F0 (w:World):PC->Prop
 |.list sz a cap xs=>0<sz/\xs.length<=cap/\(cap=0\/∃b o cur e,a=some (ad b o)/\w.heap[b]? =some (.cells cur e (0,0))/\cur.size=o+cap*sz/\cap<=maxLen/\∀k j c,At xs k j c->¬bD b c)
 |_=>True
structure AH (w:World) (B':Nat) (ps:List PC):Prop where
 gx:∀pc∈ps,Good w pc/\Sep pc/\F0 w pc
 new:∀pc∈ps,∀b,lO b pc->B'<=b/\fy w b
 qc:∀(i j:Nat) (pc eX:PC) (b:Nat),i≠j->ps[i]? =some pc->ps[j]? =some eX->lO b pc->¬lO b eX
def tH:K×List PC->Value
 |(.one,[pc])=>pc.val
 |(_,cu)=>.agg (cu.map PC.val).toArray
def wB:List (K×List PC)->Value
 |[p]=>tH p
 |l=>.tuple (l.map tH).toArray
def eY (P:Program) (f:FuncId) (M:List Dv->Option (List Dv)):Prop:=
 ∀ds rs,M ds=some rs->∀(w:World) (vals:List Value),Jh w ds vals->Calls P f vals.toArray w fun e w'=>
  ∃bC:List (K×List PC),bC.map (fun p=>(p.1,p.2.map PC.er))=rs/\e=.returned (wB bC)/\(∀p∈bC,p.1≠ .ptr/\(p.1=.one->p.2.length=1))/\
   AH w' w.heap.size (bC.flatMap (·.2))/\Fr w.heap.size Ex.no w w'
end
section
variable {B:Nat} {E:Ex} {w0 w w':World} {G G':Gh} {h h':Nat->Option av} {used used':Nat->Bool} {tk:List PC} {N:Nat}
def ru (G:Gh) (h:Nat->Option av) (b:Nat):Prop:=
 ¬G.Im b/\(∀n,h n≠none->(G.g n).nl=false->(G.g n).b≠b)/\∀n gr m sz xs,h n=some (.row gr m sz xs)->¬bH b (G.g n).px
theorem HR.TC (H:HR B E w G h used tk):ru G h w.heap.size:=
 ⟨fun hi=>zbk _ (H.jq _ hi),fun n hn hl he=>by have:=(H.own n hn hl).2.2;omega,fun n gr m sz xs hn hb=>zbk _ (H.u6 hn hb)⟩
def ahm (B:Nat) (E:Ex) (w w':World) (G:Gh) (h:Nat->Option av) (p:PB):av->Prop
 |.box cs=>p.nl=false/\fy w' p.b/\∀(j:Nat) (c:aj),cs[j]? =some c->∃v,w'.cell? (ad p.b (p.o+j))=some v/\v.oneCell'=true/\RC w G h c v
 |.row gr m sz xs=>wV B E w' G gr m sz xs p
theorem bW.insert (H:HR B E w G h used tk) {n:Nat} {blk:av} {p:PB} (hn:used n=false) (hw:∀b,b<w.heap.size->w'.heap[b]? =w.heap[b]?):
  bW w G h (fun n=>used n=true) w' ⟨G.Im,aQ G.g n p⟩ (aQ h n (some blk)):=by
 have ne:∀m,used m=true->m≠n:=fun m hm e=>by subst e;rw[hn] at hm;cases hm
 refine⟨fun _ h=>h,fun b hb o=>kM (hw b (H.jq b hb)) o,fun m hm h0=>?_,fun m gr sz xs hm h0=>?_⟩
 ·rw[dA _ _ _ _ (ne m hm)] at h0;simp only[dA _ _ _ _ (ne m hm)];exact⟨h0,trivial,trivial,trivial,trivial,trivial⟩
 ·rw[dA _ _ _ _ (ne m hm)] at h0;simp only[dA _ _ _ _ (ne m hm)];exact⟨⟨gr,xs,h0⟩,fun k j pc h1 h2=>⟨pc,h1,rfl,h2⟩⟩
theorem HR.insert (H:HR B E w G h used tk) {n:Nat} {blk:av} {p:PB} (hn:used n=false) (hw:∀b,b<w.heap.size->w'.heap[b]? =w.heap[b]?) (cX:w.heap.size<=w'.heap.size)
  (hl:p.nl=false->ru G h p.b/\(B<=p.b\/E p.b)/\p.b<w'.heap.size)
  (zp:∀cs c m,blk=.box cs->c∈cs->c.ref m->used m=true)
  (ng:ahm B E w w' G h p blk)
  (Mp:∀gr m sz xs,blk=.row gr m sz xs->m≠ .aL->∀n' cc m' be az,h n'=some (.row cc m' be az)->m'≠ .aL->∀b,bH b p.px->¬bH b (G.g n').px)
  (vM:∀gr sz xs,blk=.row gr .live sz xs->∀b,bH b p.px->(p.nl=false->b≠p.b)/\∀n',h n'≠none->(G.g n').nl=false->b≠(G.g n').b)
  (Em:∀gr m sz xs,blk=.row gr m sz xs->m≠ .aL->∀(i:Nat) (pc:PC) (b:Nat),tk[i]? =some pc->bD b pc->¬bH b p.px):
  HR B E w' ⟨G.Im,aQ G.g n p⟩ (aQ h n (some blk)) (aQ used n true) tk:=by
 have K:=bW.insert H (blk:=blk) (p:=p) hn hw;have RG:h n=none:=by
  cases hh:h n with
  |none=>rfl
  |some b=>have:=H.kN n (by rw[hh];simp);rw[hn] at this;cases this
 have aE:∀m,h m≠none->m≠n:=fun m hm e=>by subst e;exact hm RG
 have hu:∀m,used m=true->aQ used n true m=true:=fun m hm=>by
  simp only[lc];split
  ·rfl
  ·exact hm
 refine H.put (fun b hb _=>hw b hb) cX (fun b hb hU=>hU.congr (hw b hb)) hu (cJ _ _ _) (fun hp=>⟨(hl hp).1.1,(hl hp).2⟩) (fun hp m hm h0 qS=>(hl hp).1.2.1 m h0 qS)
  (fun hp m gr sz xs hm h0 b hb he=>(hl hp).1.2.2 m gr _ sz xs h0 (he▸hb)) (fun cs c m hb hc hr=>hu m (zp cs c m hb hc hr)) K ?_
  (fun gr m sz xs hb hm n' cc m' be az _ h0=>Mp gr m sz xs hb hm n' cc m' be az h0) (fun gr sz xs hb b d7=>⟨(vM gr sz xs hb b d7).1,fun n' _=>(vM gr sz xs hb b d7).2 n'⟩) Em
  (fun hp _ b hb he=>by obtain⟨m,gr,mo,sz,xs,_,h0,d7⟩:=hb;exact(hl hp).1.2.2 m gr mo sz xs h0 (he▸d7))
 cases blk with
 |box cs=>
  obtain⟨a1,a2,a3⟩:=ng;refine⟨a1,a2,fun j c hj=>?_⟩;obtain⟨v,b1,b2,b3⟩:=a3 j c hj;exact⟨v,b1,b2,b3.keep K fun m hm=>zp cs c m rfl (zaa hj) hm⟩
 |row gr m sz xs=>
  have hr:wV B E w' G gr m sz xs p:=ng;exact⟨hr.pos,hr.er,hr.nl,hr.fN,hr.room,by
   have:=hr.mode;cases m<;>exact this⟩
theorem R.put {σ:St} {a:Act} (r:R B E w0 N σ a w G) {x:ao} {v:Value} (hv:RA w G σ.h x v) (hr:∀m,x.ref m->σ.used m=true) {d:Option Nat} (hd:∀n,d=some n->n<N):
  R B E w0 N (σ.put d x) (a.put d v) w G:=by
 cases d with
 |none=>exact r
 |some n=>
  have hn:=hd n rfl;refine⟨r.defers,by simp[Act.put,r.size],fun s=>?_,fun s m hm=>?_,r.hr,r.fr,r.qw,r.Ca⟩
  ·simp only[St.put,Act.put];by_cases hs:s=n
   ·subst hs;rw[cJ];have:(a.tmps.setIfInBounds s v).getD s undef=v:=by
     simp[zaI,r.size,hn]
    rw[this];exact hv
   ·rw[dA _ _ _ _ hs];have:(a.tmps.setIfInBounds n v).getD s undef=a.tmps.getD s undef:=by
     simp[zaI,Array.getElem?_setIfInBounds_ne (zaW hs)]
    rw[this];exact r.env s
  ·simp only[St.put] at hm⊢;by_cases hs:s=n
   ·subst hs;rw[cJ] at hm;exact hr m hm
   ·rw[dA _ _ _ _ hs] at hm;exact r.vh s m hm
theorem R.step {σ:St} {a:Act} (r:R B E w0 N σ a w G) {σ':St} (he:σ'.env=σ.env) (hu:∀m,σ.used m=true->σ'.used m=true) (K:bW w G σ.h (fun n=>σ.used n=true) w' G' σ'.h)
  (H:HR B E w' G' σ'.h σ'.used []) (F:Fr B E w0 w'):R B E w0 N σ' a w' G':=
 ⟨r.defers,r.size,fun s=>by rw[he];exact(r.env s).keep K (fun m hm=>r.vh s m hm),fun s m hm=>by rw[he] at hm;exact hu m (r.vh s m hm),H,F,
  fun n p b hp hb=>by
   have Eo:=r.Ca n (E.lt n p hp);obtain⟨k0,k1,k2,k3,k4,k6⟩:=K.name n Eo (by rw[hb];simp);cases h0:σ.h n with
   |none=>exact absurd h0 k0
   |some b0=>
    obtain⟨p1,p2,p3,p4,p6,p5⟩:=r.qw n p b0 hp h0;refine⟨k1.trans p1,k2.trans p2,k3.trans p3,k4.trans p4,k6.trans p6,fun gr sz xs GU k j pc hk hL=>?_⟩;subst GU;obtain⟨⟨Bf,nI,e0⟩,hl⟩:=K.live n gr sz xs Eo hb;rw[h0] at e0;injection e0 with e0;obtain⟨pc1,q1,q2,q3⟩:=p5 Bf sz nI e0 k j pc hk hL;obtain⟨pc2,q4,q5,q6⟩:=hl k j pc1 q1 q3;exact⟨pc2,q4,q5.trans q2,q6⟩,
  fun n hn=>hu n (r.Ca n hn)⟩
end
def Lm:Value->aj->Bool
 |.int k n,.c (.int k' n')=>decide (k=k')&&decide (n=n')
 |.bool b,.c (.bool b')=>decide (b=b')
 |.slice none 0 0,.nil sz=>true
 |.pointer none,.cd=>true
 |_,_=>false
def vz:List Value->List aj->Bool
 |[],[]=>true
 |v::vs,c::cs=>Lm v c&&vz vs cs
 |_,_=>false
def cQ:Operand->MO->Bool
 |.tmp n,.t m=>n==m
 |.const (.agg vs),.k (.agg cs)=>vz vs.toList cs
 |.const v,.k (.one c)=>Lm v c
 |_,_=>false
section
variable {B:Nat} {E:Ex} {w0 w w':World} {G G':Gh} {h h':Nat->Option av} {used used':Nat->Bool} {tk:List PC} {N:Nat}
theorem Yn {v:Value} {c:aj} (hc:Lm v c=true):RC w G h c v/\v.oneCell'=true/\∀m,¬c.ref m:=by
 unfold Lm at hc;split at hc
 ·simp at hc;obtain⟨rfl,rfl⟩:=hc;exact⟨⟨.int _ _,rfl,rfl,.int _ _,fun b hb=>by cases hb⟩,rfl,fun m hm=>hm⟩
 ·simp at hc;subst hc;exact⟨⟨.bool _,rfl,rfl,.bool _,fun b hb=>by cases hb⟩,rfl,fun m hm=>hm⟩
 ·exact⟨rfl,rfl,fun m hm=>hm⟩
 ·exact⟨trivial,rfl,fun m hm=>hm⟩
 ·cases hc
theorem Ln:∀{vs:List Value} {cs:List aj},vz vs cs=true->dT w G h cs vs/\∀c∈cs,∀m,¬c.ref m
 |[],[],_=>⟨⟨rfl,by simp⟩,by simp⟩
 |v::vs,c::cs,hc=>by
  simp only[vz,zas] at hc;obtain⟨a1,a2,a3⟩:=Yn (w:=w) (G:=G) (h:=h) hc.1;obtain⟨⟨b1,b2⟩,b3⟩:=Ln hc.2;refine⟨⟨by simp[b1],fun j c' u hj hu=>?_⟩,fun c' dO=>?_⟩
  ·cases j with
   |zero=>simp at hj hu;subst hj;subst hu;exact⟨a2,a1⟩
   |succ j=>exact b2 j c' u (by simpa using hj) (by simpa using hu)
  ·cases dO with
   |head=>exact a3
   |tail _ dO=>exact b3 c' dO
 |[],_::_,hc=>by simp[vz] at hc
 |_::_,[],hc=>by simp[vz] at hc
theorem RV.il {c:aj} {v:Value} (h1:v.oneCell'=true) (h2:RC w G h c v):RV w G h false [c] v:=by
 show dT w G h [c] [v];exact⟨rfl,fun j c' u hj hu=>by
  cases j with
  |zero=>simp at hj hu;subst hj;subst hu;exact⟨h1,h2⟩
  |succ j=>simp at hj⟩
theorem RA.il {c:aj} {v:Value} (h1:v.oneCell'=true) (h2:RC w G h c v):RA w G h (.one c) v:=.inr (RV.il h1 h2)
theorem R.ev {σ:St} {a:Act} (r:R B E w0 N σ a w G) {x:Operand} {m:MO} (hc:cQ x m=true):RA w G σ.h (σ.ev m) (a.eval x)/\∀n,(σ.ev m).ref n->σ.used n=true:=by
 unfold cQ at hc;split at hc
 ·simp at hc;subst hc;exact⟨r.env _,fun n hn=>r.vh _ n hn⟩
 ·rename_i vs cs;obtain⟨b1,b2⟩:=Ln (w:=w) (G:=G) (h:=σ.h) hc;exact⟨⟨vs.toList,by simp[Act.eval],b1⟩,fun n hn=>by obtain⟨c,hc,hm⟩:=hn;exact absurd hm (b2 c hc n)⟩
 ·obtain⟨a1,a2,a3⟩:=Yn (w:=w) (G:=G) (h:=σ.h) hc;exact⟨RA.il a2 a1,fun n hn=>absurd hn (a3 n)⟩
 ·cases hc
theorem Ao {P:Program} {o:Oper} {a:Act} {v:Value} {K:Act->World->Prop} {Q:Exit->Act->World->Prop} (hr:(execOp a.eval o).run P w=.ok (.value v) w') (hK:K (a.put o.dst v) w'):o.wp P a w K Q:=by
 unfold Oper.wp;rw[hr];exact hK
theorem W8 {P:Program} {o:Oper} {a:Act} {K:Act->World->Prop} {Q:Exit->Act->World->Prop} (hr:(execOp a.eval o).run P w=.ok .skip w') (hK:K (a.put o.dst undef) w'):o.wp P a w K Q:=by
 unfold Oper.wp;rw[hr];exact hK
end
section
variable {B:Nat} {E:Ex} {w0 w w':World} {G G':Gh} {h h':Nat->Option av} {used used':Nat->Bool} {tk:List PC} {N:Nat}
variable {P:Program} {o:Oper} {a:Act} {σ σ':St} {Q:Exit->Act->World->Prop}
def Nx (B:Nat) (E:Ex) (w0:World) (N:Nat) (σ:St):Act->World->Prop:=fun a w=>∃G,R B E w0 N σ a w G
theorem XN (w:World) (ob:Obj) (b:Nat) (hb:b<w.heap.size):(w.alloc ob).heap[b]? =w.heap[b]? :=heap_alloc_old w ob b hb
theorem fy.alloc (w:World) (arr:Array Value) (e:TypeId):fy (w.alloc (.cells arr e)) w.heap.size:=⟨arr,e,heap_alloc_new w _⟩
theorem pE {σ1:St} {n:Nat} {b:av} (hx:σ.ins n b=some σ1):σ.used n=false/\σ1={σ with h:=aQ σ.h n (some b),used:=aQ σ.used n true}:=by
 unfold St.ins at hx;split at hx
 ·cases hx
 ·rename_i hu;injection hx with hx;exact⟨by simpa using hu,hx.symm⟩
theorem vf (n m:Nat) (hm:used m=true):aQ used n true m=true:=by
 simp only[lc];split
 ·rfl
 ·exact hm
theorem R.adt (r:R B E w0 N σ a w G) {n:Nat} {cs:List aj} {vs:List Value} {e:TypeId} (hn:σ.used n=false) (hc:dT w G σ.h cs vs) (ma:∀c∈cs,∀m,c.ref m->σ.used m=true):
  ∃G',R B E w0 N {σ with h:=aQ σ.h n (some (.box cs)),used:=aQ σ.used n true} a (w.alloc (.cells vs.toArray e)) G'/\
   RA (w.alloc (.cells vs.toArray e)) G' (aQ σ.h n (some (.box cs))) (.one (.ptr n 0 0 0)) (.pointer (some (ad w.heap.size 0))):=by
 have H:=r.hr;have hB:=r.fr.size;have hw:=XN w (.cells vs.toArray e);refine⟨⟨G.Im,aQ G.g n ⟨false,w.heap.size,0,0,[],none⟩⟩,r.step rfl (fun m hm=>vf n m hm) (bW.insert H hn hw) ?_ (r.fr.grow hw (by simp) rfl rfl rfl),?_⟩
 ·refine H.insert hn hw (by simp) (fun _=>⟨H.TC,.inl hB,by simp⟩) (fun cs' c m hb dO hm=>?_) ⟨rfl,fy.alloc _ _ _,fun j c hj=>?_⟩ (fun gr m sz xs hb=>by cases hb) (fun gr sz xs hb=>by cases hb) (fun gr m sz xs hb=>by cases hb)
  ·injection hb with hb;subst hb;exact ma c dO m hm
  ·have nU:j<vs.length:=by rw[hc.1];exact(zab.1 hj).1
   have hv:vs[j]? =some vs[j]:=zac nU;obtain⟨q1,q2⟩:=hc.2 j c _ hj hv;refine⟨vs[j],?_,q1,q2⟩;simp only[zal];unfold ad;rw[World.cell?_alloc_new];simp only[zax];exact hv
 ·exact RA.il rfl fun _=>by simp[cJ]
theorem aje (r:R B E w0 N σ a w G) {n:Nat} {e:TypeId} {i:TypeInfo} {z:Value} {zs:List aj} {σ1:St} (ho:o.op=.alloc e) (hd:o.dst=some n) (hN:n<N)
  (hi:P.info? e=some i) (hz:i.zero=some z) (hc:vz z.cells.toList zs=true) (hx:σ.ins n (.box zs)=some σ1):
  o.wp P a w (Nx B E w0 N (σ1.put o.dst (.one (.ptr n 0 0 0)))) Q:=by
 obtain⟨hn,rfl⟩:=pE hx;obtain⟨cY,ma⟩:=Ln (w:=w) (G:=G) (h:=σ.h) hc;obtain⟨G',r',hv⟩:=r.adt (e:=e) hn cY (fun c hc m hm=>absurd hm (ma c hc m));have cP:(execOp a.eval o).run P w=.ok (.value (.pointer (some (ad w.heap.size 0)))) (w.alloc (.cells z.cells.toList.toArray e)):=by
  simp[execOp,ho,Instr.alloc,zeroValue,typeInfo,hi,hz,newVar,newRow,ad]
 exact Ao cP ⟨G',r'.put hv (fun m hm=>by have cF:m=n:=hm;subst cF;exact cJ _ _ _) (fun m hm=>by rw[hd] at hm;injection hm with hm;omega)⟩
theorem aji (r:R B E w0 N σ a w G) {n:Nat} {e:TypeId} {x:Operand} {m:MO} {ag:Bool} {cs:List aj} {σ1:St} (ho:o.op=.box e x) (hd:o.dst=some n) (hN:n<N)
  (hm:cQ x m=true) (gz:(σ.ev m).cells?=some (ag,cs)) (hx:σ.ins n (.box cs)=some σ1):
  o.wp P a w (Nx B E w0 N (σ1.put o.dst (.one (.ptr n 0 0 0)))) Q:=by
 obtain⟨hn,rfl⟩:=pE hx;obtain⟨hv,ma⟩:=r.ev hm;obtain⟨G',r',gR⟩:=r.adt (e:=e) hn (hv.cells gz) (fun c hc q hq=>ma q (ao.AP gz hc hq));have cP:(execOp a.eval o).run P w=.ok (.value (.pointer (some (ad w.heap.size 0)))) (w.alloc (.cells (a.eval x).cells.toList.toArray e)):=by
  simp[execOp,ho,Instr.box,newVar,newRow,ad]
 exact Ao cP ⟨G',r'.put gR (fun q hq=>by have gj:q=n:=hq;subst gj;exact cJ _ _ _) (fun q hq=>by rw[hd] at hq;injection hq with hq;omega)⟩
theorem wX {α:Type} {sz:Nat}:∀{px:List (List α)} (_:∀e∈px,e.length=sz) {k j:Nat} {c:α},At px k j c->px.flatten[k*sz+j]? =some c
 |[],_,k,j,c,hk=>by obtain⟨e,he,_⟩:=hk;simp at he
 |e::px,hl,k,j,c,hk=>by
  obtain⟨e',he,hj⟩:=hk;have h0:=hl e (by simp);cases k with
  |zero=>
   simp at he;subst he;have nU:=(zab.1 hj).1;simp only[zaA,zaX,zal];rw[zaf nU];exact hj
  |succ k=>
   have ih:=wX (px:=px) (fun e he=>hl e (by simp[he])) (k:=k) (j:=j) (c:=c) ⟨e',by simpa using he,hj⟩;simp only[zaA];rw[zag (by rw[h0,zai];omega)];rw[show(k+1)*sz+j - e.length=k*sz+j by rw[h0,zai];omega];exact ih
structure FW (B:Nat) (E:Ex) (w:World) (G:Gh) (h:Nat->Option av) (m:Mode) (pes:List (List PC)):Prop where
 pi:∀b,bH b pes->G.Im b/\fy w b/\(B<=b\/E b)
 sep:kx pes
 iF:∀n gr m sz xs,h n=some (.row gr m sz xs)->m≠ .aL->∀b,bH b pes->¬bH b (G.g n).px
 kind:m=.bc\/∀b,¬bH b pes
theorem ahR {α:Type} {sz:Nat} (cX:0<sz) {pes:List (List α)} (hl:∀e∈pes,e.length=sz) {k j k' j':Nat} {c c':α} (h1:At pes k j c) (h2:At pes k' j' c') (aE:(k,j)≠(k',j')):k*sz+j≠k'*sz+j':=by
 intro gh;have hj:j<sz:=by obtain⟨e1,he,hj⟩:=h1;rw[<-hl e1 (zaa he)];exact(zab.1 hj).1
 have kD:j'<sz:=by obtain⟨e1,he,hj⟩:=h2;rw[<-hl e1 (zaa he)];exact(zab.1 hj).1
 have hk:k=k':=by
  have h3:(k*sz+j)/sz=k:=by rw[zaY,zbh cX,zbe hj];omega
  have h4:(k'*sz+j')/sz=k':=by rw[zaY,zbh cX,zbe kD];omega
  rw[gh] at h3;omega
 subst hk;exact aE (by rw[show j=j' by omega])
theorem HR.arh {pes:List (List PC)} {sz:Nat} (cX:0<sz) (hl:∀e∈pes,e.length=sz) (H:HR B E w G h used pes.flatten):FW B E w G h .bc pes:=by
 refine⟨?_,⟨fun k j c hk=>(H.tU _ c (wX hl hk)).1,fun k j c k' j' c' b hk dj aE hb=>H.yk _ _ c c' b (ahR cX hl hk dj aE) (wX hl hk) (wX hl dj) hb⟩,?_,.inl rfl⟩
 ·rintro b ⟨k,j,c,hk,hb⟩;exact(H.tU _ c (wX hl hk)).2 b hb
 ·rintro n gr m sz xs hn hm b ⟨k,j,c,hk,hb⟩;exact H.tV _ c n gr m sz xs b (wX hl hk) hn hm hb
theorem Sep.Ig {w:World} {q:PC} (hq:∀b,¬bD b q) (hg:Good w q):Sep q:=by
 induction hg with
 |int k n=>exact .int k n
 |bool b=>exact .bool b
 |nil sz a cap h=>exact .list _ _ _ _ (by rintro k j c ⟨e,he,_⟩;simp at he) (by rintro b o k j c _ ⟨e,he,_⟩;simp at he) (by rintro k j c k' j' c' b ⟨e,he,_⟩;simp at he)
 |cons sz b o cap xs h1 h2 h3 h4 h5 h6 ih=>exact absurd (.here _ _ _ _ h1) (hq b)
theorem FW.Ig {m:Mode} {pes:List (List PC)} (dF:∀b,¬bH b pes) (hg:∀k j c,At pes k j c->Good w c):FW B E w G h m pes:=
 ⟨fun b hb=>absurd hb (dF b),⟨fun k j c hk=>Sep.Ig (fun b hb=>dF b ⟨k,j,c,hk,hb⟩) (hg k j c hk),fun k j c k' j' c' b hk _ _ hb=>absurd ⟨k,j,c,hk,hb⟩ (dF b)⟩,fun n gr m sz xs _ _ b hb=>absurd hb (dF b),.inr dF⟩
theorem R.newRow (r:R B E w0 N σ a w G) {Im':Nat->Prop} {σ1:St} (H:HR B E w ⟨Im',G.g⟩ σ1.h σ.used []) (K:bW w G σ.h (fun n=>σ.used n=true) w ⟨Im',G.g⟩ σ1.h)
  (Bm:σ1.env=σ.env) (oK:σ1.used=σ.used)
  {n:Nat} {m:Mode} {sz cap:Nat} {pes:List (List PC)} {arr:Array Value} {e:TypeId} (hn:σ.used n=false) (cX:0<sz) (hl:∀e∈pes,e.length=sz)
  (iG:∀k j c,At pes k j c->Good w c/\∀b,bD b c->Im' b) (xl:∀k j c,At pes k j c->arr[k*sz+j]? =some c.val) (kC:pes.length<=cap) (Bt:cap<=maxLen) (xF:arr.size=cap*sz)
  (hm:m=.aL\/FW B E w ⟨Im',G.g⟩ σ1.h m pes):
  ∃G',R B E w0 N {σ1 with h:=aQ σ1.h n (some (.row true m sz (pes.map fun e=>e.map PC.er))),used:=aQ σ1.used n true} a (w.alloc (.cells arr e)) G'/\
   RA (w.alloc (.cells arr e)) G' (aQ σ1.h n (some (.row true m sz (pes.map fun e=>e.map PC.er)))) (.one (.sl n sz 0 pes.length)) (.slice (some (ad w.heap.size 0)) pes.length cap):=by
 have hB:=r.fr.size;have hw:=XN w (.cells arr e);have ahh:HR B E (w.alloc (.cells arr e)) ⟨Im',aQ G.g n ⟨false,w.heap.size,0,cap,pes,none⟩⟩ (aQ σ1.h n (some (.row true m sz (pes.map fun e=>e.map PC.er)))) (aQ σ.used n true) []:=by
  refine H.insert (p:=⟨false,w.heap.size,0,cap,pes,none⟩) hn hw (by simp) (fun _=>⟨H.TC,.inl hB,by simp⟩) (fun cs c m hb=>by cases hb) ?_ ?_ ?_ (fun gr m sz xs _ _ i pc b hi=>by simp at hi)
  ·refine⟨cX,rfl,(fun hl=>by cases hl),fun _=>⟨fy.alloc _ _ _,⟨hl,fun k j c hk=>?_,fun k j c hk=>?_⟩,kC⟩,fun _ _=>⟨Bt,arr,e,heap_alloc_new w _,(zal _).symm▸xF⟩,?_⟩
   ·simp only[zal];unfold ad;rw[World.cell?_alloc_new];exact xl k j c hk
   ·exact(iG k j c hk).1.congr fun b hb o=>kM (hw b (H.jq b ((iG k j c hk).2 b hb))) o
   ·have pq:m≠ .aL->(∀b,bH b pes->Im' b/\fy (w.alloc (.cells arr e)) b/\(B<=b\/E b))/\kx pes:=fun kP=>
     ⟨fun b hb=>by
      have hO:=hm.resolve_left kP;obtain⟨q1,q2,q3⟩:=hO.pi b hb;exact⟨q1,q2.congr (hw b (H.jq b q1)),q3⟩,(hm.resolve_left kP).sep⟩
    cases m with
    |aL=>
     rintro b ⟨k,j,c,hk,hb⟩;exact(iG k j c hk).2 b hb
    |bc=>exact pq (by simp)
    |live=>
     have hO:=hm.resolve_left (by simp);have dF:=hO.kind.resolve_left (by simp);exact⟨fun b hb=>absurd hb (dF b),hO.sep⟩
  ·intro gr m' be az hb kP n' cc pJ od ld h0 mK b d7;injection hb with _ hb _ _;subst hb;exact(hm.resolve_left kP).iF n' cc pJ od ld h0 mK b d7
  ·intro gr be az hb b d7;injection hb with _ hb _ _;subst hb;exact absurd d7 ((hm.resolve_left (by simp)).kind.resolve_left (by simp) b)
 have K2:=bW.trans (u2:=fun n=>σ.used n=true) (fun _ h=>h) K (bW.insert H (blk:=.row true m sz (pes.map fun e=>e.map PC.er)) (p:=⟨false,w.heap.size,0,cap,pes,none⟩) hn hw);refine⟨⟨Im',aQ G.g n ⟨false,w.heap.size,0,cap,pes,none⟩⟩,r.step Bm (fun m hm=>by rw[oK];exact vf n m hm) K2 (by rw[oK];exact ahh) (r.fr.grow hw (by simp) rfl rfl rfl),?_⟩;refine RA.il rfl fun _=>.inr ⟨by simp[cJ],some (ad w.heap.size 0),?_,?_,?_⟩
 ·simp[cJ]
 ·simp[cJ];omega
 ·simp[cJ]
end
def Qp:Value->C->Bool
 |.int k n,.int k' n'=>decide (k=k')&&decide (n=n')
 |.bool b,.bool b'=>decide (b=b')
 |.slice none 0 0,.list sz []=>decide (0<sz)
 |_,_=>false
def w5:List Value->List C->Bool
 |[],[]=>true
 |v::vs,c::cs=>Qp v c&&w5 vs cs
 |_,_=>false
def ou:C->PC
 |.int k n=>.int k n
 |.bool b=>.bool b
 |.list sz _=>.list sz none 0 []
theorem ain {w:World} {v:Value} {c:C} (h:Qp v c=true):(ou c).er=c/\(ou c).val=v/\Good w (ou c)/\∀b,¬bD b (ou c):=by
 unfold Qp at h;split at h
 ·simp at h;obtain⟨rfl,rfl⟩:=h;exact⟨rfl,rfl,.int _ _,fun b hb=>by cases hb⟩
 ·simp at h;subst h;exact⟨rfl,rfl,.bool _,fun b hb=>by cases hb⟩
 ·simp at h;refine⟨by simp[ou,PC.fo],rfl,.nil _ _ _ h,fun b hb=>?_⟩;unfold ou at hb;rw[bD.nA] at hb;rcases hb with⟨hb,_⟩|⟨k,j,c,⟨e,he,_⟩,_⟩
  ·exact absurd rfl hb
  ·simp at he
 ·cases h
theorem Qq {w:World}:∀{vs:List Value} {cs:List C},w5 vs cs=true->(cs.map ou).map PC.er=cs/\(cs.map ou).map PC.val=vs/\∀pc∈cs.map ou,Good w pc/\∀b,¬bD b pc
 |[],[],_=>⟨rfl,rfl,by simp⟩
 |v::vs,c::cs,h=>by
  simp only[w5,zas] at h;obtain⟨a1,a2,a3,a4⟩:=ain (w:=w) h.1;obtain⟨b1,b2,b3⟩:=Qq (w:=w) h.2;refine⟨by simp only[zaj,a1,b1],by simp only[zaj,a2,b2],fun pc bA=>?_⟩;simp only[zaj,List.mem_cons] at bA;rcases bA with rfl|bA
  ·exact⟨a3,a4⟩
  ·exact b3 pc bA
 |[],_::_,h=>by simp[w5] at h
 |_::_,[],h=>by simp[w5] at h
theorem K8 {α:Type} {n k j:Nat} {e:List α} {c:α} (h:At (List.replicate n e) k j c):k<n/\e[j]? =some c:=by
 obtain⟨e',he,hj⟩:=h;rw[List.getElem?_replicate] at he;split at he
 ·rename_i hk;injection he with he;subst he;exact⟨hk,hj⟩
 ·cases he
section
variable {B:Nat} {E:Ex} {w0 w w':World} {G G':Gh} {h h':Nat->Option av} {used used':Nat->Bool} {tk:List PC} {N:Nat}
variable {P:Program} {o:Oper} {a:Act} {σ σ':St} {Q:Exit->Act->World->Prop}
theorem RA.int {x:ao} {n:Int} {v:Value} (hx:x.eV=some n) (hv:RA w G h x v):∃k,v=.int k n:=by
 unfold ao.eV at hx;split at hx
 ·rename_i k n';injection hx with hx;subst hx;rcases hv with hv|hv
  ·cases hv
  ·have gR:dT w G h [.c (.int k n')] [v]:=hv;obtain⟨pc,h1,h2,_⟩:=(gR.2 0 _ v rfl rfl).2;cases pc<;>simp[PC.er] at h1
   obtain⟨rfl,rfl⟩:=h1;exact⟨_,h2.symm⟩
 ·cases hx
theorem ajC (r:R B E w0 N σ a w G) {n:Nat} {t e:TypeId} {i:TypeInfo} {z:Value} {zs:List C} {x y:Operand} {mx my:MO} {m:Mode} {sz by_:Nat} {q q':Int} {σ1:St}
  (ho:o.op=.makeSlice t x y) (hd:o.dst=some n) (hN:n<N) (oI:cQ x mx=true) (oJ:cQ y my=true)
  (ht:P.underlying t=some (.slice e)) (hi:P.info? e=some i) (hz:i.zero=some z) (cX:i.size=sz) (qN:i.bytes=by_) (Bj:0<by_) (mb:0<sz) (hc:w5 z.cells.toList zs=true)
  (hq:(σ.ev mx).eV=some q) (gj:(σ.ev my).eV=some q') (gh:q<=q') (qj:0<=q) (hb:q'.toNat*by_<=fe) (hlen:zs.length=sz)
  (hx:σ.ins n (.row true m sz (List.replicate q.toNat zs))=some σ1):
  o.wp P a w (Nx B E w0 N (σ1.put o.dst (.one (.sl n sz 0 q.toNat)))) Q:=by
 obtain⟨hn,rfl⟩:=pE hx;obtain⟨k1,e1⟩:=(r.ev oI).1.int hq;obtain⟨k2,e2⟩:=(r.ev oJ).1.int gj;have hqq:q.toNat<=q'.toNat:=by omega
 obtain⟨b1,b2,b3⟩:=Qq (w:=w) hc;have avd:q'.toNat<=fe:=zaG (zaE _ Bj) hb;have amb:z.cells.size=sz:=by
  have:((zs.map ou).map PC.val).length=z.cells.toList.length:=by rw[b2]
  simp at this;omega
 have cP:=run_make (P:=P) w t e i z ht hi hz k1 k2 q q' qj gh (by
  rw[qN];have h1:((q'.toNat*by_:Nat):Int)<=((fe:Nat):Int):=by exact_mod_cast hb
  rw[Int.natCast_mul,za3 (by omega:0<=q')] at h1;rw[Int.mul_comm];have h2:((fe:Nat):Int)=140737488355328:=rfl;omega) (by
  have h2:(fe:Nat)=140737488355328:=rfl;omega)
 have al0:(execOp a.eval o).run P w=.ok (.value (.slice (some (ad w.heap.size 0)) q.toNat q'.toNat)) (w.alloc (.cells (madeCells z.cells (q'.toNat*sz)) e)):=by
  simp only[execOp,ho,e1,e2];rw[cX] at cP;simp[cP,ad]
 have alQ:(List.replicate q.toNat (zs.map ou)).map (fun e=>e.map PC.er)=List.replicate q.toNat zs:=by
  rw[List.map_replicate,b1]
 have dF:∀b,¬bH b (List.replicate q.toNat (zs.map ou)):=by
  rintro b ⟨k,j,c,hk,hb⟩;exact(b3 c (zaa (K8 hk).2)).2 b hb
 have hg:∀k j c,At (List.replicate q.toNat (zs.map ou)) k j c->Good w c/\∀b,bD b c->G.Im b:=fun k j c hk=>
  ⟨(b3 c (zaa (K8 hk).2)).1,fun b hb=>absurd hb ((b3 c (zaa (K8 hk).2)).2 b)⟩
 obtain⟨G',r',hv⟩:=r.newRow (σ1:=σ) (Im':=G.Im) (m:=m) (sz:=sz) (cap:=q'.toNat) (pes:=List.replicate q.toNat (zs.map ou)) (arr:=madeCells z.cells (q'.toNat*sz)) (e:=e) r.hr (bW.refl _ _ _ _) rfl rfl hn mb
  (fun e he=>by rw[(List.mem_replicate.1 he).2];simpa using hlen) hg (fun k j c hk=>by
   obtain⟨h1,h2⟩:=K8 hk;have hj:j<sz:=by have:=(zab.1 h2).1;simp at this;omega
   have Mu:k*sz+j<q'.toNat*sz:=by
    have:(k+1)*sz<=q'.toNat*sz:=zah _ (by omega);rw[zai] at this;omega
   have alJ:(k*sz+j)%sz=j:=by rw[zaY,Nat.mul_add_mod,Nat.mod_eq_of_lt hj]
   have jg:z.cells.toList[j]? =some c.val:=by rw[<-b2,zad,h2];rfl
   have alq:z.cells[j]? =some c.val:=by simpa using jg
   have hz3:(k*sz+j)%z.cells.size=j:=by rw[amb];exact alJ
   simp[madeCells,Mu,hz3];rw[getElem!_def,alq]) (by simpa using hqq) (by
   have h2:(fe:Nat)=140737488355328:=rfl;simp only[maxLen];omega) (size_madeCells _ _) (.inr (FW.Ig dF (fun k j c hk=>(hg k j c hk).1)))
 rw[alQ,List.length_replicate] at*
 refine Ao al0 ⟨G',r'.put hv (fun q hq=>by have gj:q=n:=hq;subst gj;exact cJ _ _ _) (fun q hq=>by rw[hd] at hq;injection hq with hq;omega)⟩
theorem aan (off:Nat):∀(vs:List Value) (k:Nat) (cs:Array Value),off+k+vs.length<=cs.size->
  ((vs.zipIdx k).foldl (fun(cs:Array Value) (p:Value×Nat)=>cs.setIfInBounds (off+p.2) p.1) cs)=(cs.toList.take (off+k)++vs++cs.toList.drop (off+k+vs.length)).toArray
 |[],k,cs,_=>by simp
 |v::vs,k,cs,h=>by
  simp only[zbf,List.foldl_cons];have h':off+(k+1)+vs.length<=(cs.setIfInBounds (off+k) v).size:=by simp at h⊢;omega
  rw[aan off vs (k+1) _ h'];have e:=list_seg_step cs.toList (off+k) v vs (by simp at h⊢;omega);rw[zaC,<-e];simp[Array.toList_setIfInBounds,zam]
theorem aao (off:Nat) (v:Value) (cs:Array Value) (h:off+v.cells.size<=cs.size):
  (v.cells.zipIdx.foldl (fun cs (c,j)=>cs.setIfInBounds (off+j) c) cs)=(dz cs.toList off v.cells.toList).toArray:=by
 have:=aan off v.cells.toList 0 cs (by simpa using h);rw[<-Array.foldl_toList];simp only[Array.toList_zipIdx];simpa[dz] using this
theorem Zt (size:Nat):∀(vs:List Value) (i0:Nat) (cs:Array Value),(∀v∈vs,v.cells.size=size)->(i0+vs.length)*size<=cs.size->
  Instr.fill (fun i=>some (i*size,size)) cs ((vs.zipIdx i0).map fun p=>(p.2,p.1))=some (dz cs.toList (i0*size) (vs.flatMap fun v=>v.cells.toList)).toArray
 |[],i0,cs,_,_=>by simp[Instr.fill,dz]
 |v::vs,i0,cs,hv,hl=>by
  have h0:=hv v (by simp);have h1:i0*size+v.cells.size<=cs.size:=by
   have:(i0+1)*size<=(i0+(v::vs).length)*size:=zah _ (by simp);rw[zai] at this;omega
  simp only[zbf,zaj,Instr.fill];rw[if_neg (by simp;omega)];rw[aao _ _ _ h1];have hlen:(dz cs.toList (i0*size) v.cells.toList).length=cs.size:=by simp[dz];omega
  rw[Zt size vs (i0+1) _ (fun v' gR=>hv v' (by simp[gR])) (by simp only[zaQ,hlen];simp only[zaC] at hl;rwa[show i0+1+vs.length=i0+(vs.length+1) by omega])];congr 2;have qV:v.cells.toList.length=size:=by simpa using h0
  have e1:(i0+1)*size=i0*size+size:=by rw[zai];omega
  simp only[dz,List.flatMap_cons,zaF,qV];rw[e1];have ht:(List.take (i0*size) cs.toList).length=i0*size:=by simp;omega
  have t1:List.take (i0*size+size) (List.take (i0*size) cs.toList++v.cells.toList++List.drop (i0*size+size) cs.toList)=List.take (i0*size) cs.toList++v.cells.toList:=by
   apply List.take_left';simp[ht,qV]
  have d1:∀x,List.drop (i0*size+size+x) (List.take (i0*size) cs.toList++v.cells.toList++List.drop (i0*size+size) cs.toList)=List.drop (i0*size+(size+x)) cs.toList:=by
   intro x;rw[List.drop_append,zaT (by simp[ht,qV])];simp only[zay,List.drop_drop,zaF,ht,qV];congr 1;omega
  rw[t1,d1];simp[zaR]
end
theorem QK {α:Type} (P:Nat->α->Prop):∀n:Nat,(∀j,j<n->∃v,P j v)->∃l:List α,l.length=n/\∀(j:Nat) (u:α),l[j]? =some u->P j u
 |0,_=>⟨[],rfl,by simp⟩
 |n+1,h=>by
  obtain⟨l,h1,h2⟩:=QK P n (fun j hj=>h j (by omega));obtain⟨v,hv⟩:=h n (by omega);refine⟨l++[v],by simp[h1],fun j u hj=>?_⟩;rcases zaP j n with cD|gh|Bo
  ·rw[zaf (by omega)] at hj;exact h2 j u hj
  ·subst gh;rw[zag (by omega)] at hj;simp[h1] at hj;subst hj;exact hv
  ·rw[zaV (by simp;omega)] at hj;cases hj
theorem FA {α:Type} {l l':List α} {off sz:Nat} (h:sub l off sz=some l'):off+sz<=l.length/\l'=(l.drop off).take sz/\l'.length=sz:=by
 unfold sub at h;split at h
 ·rename_i hl;injection h with h;subst h;exact⟨hl,rfl,by simp;omega⟩
 ·cases h
theorem Ai {α:Type} {l:List α} {off sz j:Nat} (hj:j<sz):((l.drop off).take sz)[j]? =l[off+j]? :=by
 rw[zaS hj,zaD]
theorem abT (n k rs:Nat):∀(l:List C) (off:Nat),(jJ n k rs off l).length=l.length
 |[],_=>rfl
 |c::l,off=>by cases c<;>simp[jJ,abT n k rs l]
theorem TA (n k rs:Nat):∀(l:List C) (off j:Nat) (x:aj),(jJ n k rs off l)[j]? =some x->
  (∃c,l[j]? =some c/\c.gK=true/\x=.c c)\/(∃sz ys,l[j]? =some (.list sz ys)/\x=.ct n k rs (off+j) sz ys.length)
 |[],off,j,x,h=>by simp[jJ] at h
 |c::l,off,j,x,h=>by
  cases j with
  |zero=>
   cases c<;>simp[jJ] at h<;>subst h
   ·exact .inl ⟨_,rfl,rfl,rfl⟩
   ·exact .inl ⟨_,rfl,rfl,rfl⟩
   ·exact .inr ⟨_,_,rfl,rfl⟩
  |succ j=>
   have h':(jJ n k rs (off+1) l)[j]? =some x:=by cases c<;>simpa[jJ] using h
   rcases TA n k rs l (off+1) j x h' with⟨c',h1,h2,h3⟩|⟨sz,ys,h1,h2⟩
   ·exact .inl ⟨c',by simpa using h1,h2,h3⟩
   ·exact .inr ⟨sz,ys,by simpa using h1,by rw[h2,show off+1+j=off+(j+1) by omega]⟩
section
variable {B:Nat} {E:Ex} {w0 w w':World} {G G':Gh} {h h':Nat->Option av} {used used':Nat->Bool} {tk:List PC} {N:Nat}
variable {P:Program} {o:Oper} {a:Act} {σ σ':St} {Q:Exit->Act->World->Prop}
theorem ajj (r:R B E w0 N σ a w G) {n:Nat} {t e:TypeId} {len:Nat} {parts:Array (Nat×Operand)} {EQ:List MO} {i:TypeInfo} {z:Value} {sz:Nat} {es:List (List C)} {ow:Bool} {σ1 σ2:St}
  (ho:o.op=.buildSlice t len parts) (hd:o.dst=some n) (hN:n<N) (ht:P.underlying t=some (.slice e)) (hi:P.info? e=some i) (hz:i.zero=some z) (cX:i.size=sz) (mb:0<sz)
  (hlen:EQ.length=len) (jk:parts.toList.map (·.1)=List.range len) (Rr:len*sz<=16777216)
  (jh:∀(j:Nat) (p:Nat×Operand) (m:MO),parts.toList[j]? =some p->EQ[j]? =some m->cQ p.2 m=true)
  (So:σ.oe sz (EQ.map σ.ev)=some (es,ow,σ1)) (hx:σ1.ins n (.row true (if ow=true then .bc else .aL) sz es)=some σ2):
  o.wp P a w (Nx B E w0 N (σ2.put o.dst (.one (.sl n sz 0 es.length)))) Q:=by
 obtain⟨hn,rfl⟩:=pE hx;have gA:parts.toList.length=len:=by have:=congrArg List.length jk;simpa using this
 have al8:(parts.toList.map fun p=>a.eval p.2).length=(EQ.map σ.ev).length:=by simp only[zaz];omega
 have hev:∀(j:Nat) (x:ao) (v:Value),(EQ.map σ.ev)[j]? =some x->(parts.toList.map fun p=>a.eval p.2)[j]? =some v->RA w G σ.h x v/\∀m,x.ref m->σ.used m=true:=by
  intro j x v Ep zo;rw[zad] at Ep zo;cases hp:parts.toList[j]? with
  |none=>rw[hp] at zo;cases zo
  |some p=>
   cases hm:EQ[j]? with
   |none=>rw[hm] at Ep;cases Ep
   |some m=>
    rw[hm] at Ep;rw[hp] at zo;simp at Ep zo;subst Ep;subst zo;exact r.ev (jh j p m hp hm)
 obtain⟨Im',pes,a1,a2,a3,a4,a5,a6,a7,a8,a9⟩:=HR.oe (sz:=sz) r.hr So al8 (fun j x v h1 h2=>(hev j x v h1 h2).1) (fun x hx m hm=>by
  obtain⟨j,hj,hjx⟩:=zao hx;have zo:(parts.toList.map fun p=>a.eval p.2)[j]? =some ((parts.toList.map fun p=>a.eval p.2)[j]'(by omega)):=zac _;exact(hev j x _ (by rw[zac hj,hjx]) zo).2 m hm)
 simp only[zay] at a5;have alR:pes.length=len:=by
  have:=congrArg List.length a2;simp only[zaz] at this;omega
 have Ss:∀v∈(parts.toList.map fun p=>a.eval p.2),v.cells.size=sz:=by
  intro v hv;obtain⟨j,hj,zf⟩:=zao hv;have h1:((parts.toList.map fun p=>a.eval p.2).map fun v=>v.cells.toList)[j]? =some v.cells.toList:=by rw[zad,zac hj,zf];rfl
  rw[<-a2,zad] at h1;cases hq:pes[j]? with
  |none=>rw[hq] at h1;cases h1
  |some pe=>
   rw[hq] at h1;simp at h1;have:=a3 pe (zaa hq);rw[<-zap,<-h1];simpa using this
 have hpz:(parts.map fun p=>(p.1,a.eval p.2)).toList=((parts.toList.map fun p=>a.eval p.2).zipIdx 0).map fun p=>(p.2,p.1):=by
  apply List.ext_getElem?;intro j;simp only[zaH,zad,List.getElem?_zipIdx];cases hp:parts.toList[j]? with
  |none=>simp
  |some p=>
   have nU:=(zab.1 hp).1;have h1:(parts.toList.map (·.1))[j]? =some p.1:=by rw[zad,hp];rfl
   rw[jk,List.getElem?_range (by omega)] at h1;injection h1 with h1;simp[h1]
 have cP:(execOp a.eval o).run P w=.ok (.value (.slice (some (ad w.heap.size 0)) len len)) (w.alloc (.cells ((parts.toList.map fun p=>a.eval p.2).flatMap fun v=>v.cells.toList).toArray e)):=by
  have alv:((parts.toList.map fun p=>a.eval p.2).flatMap fun v=>v.cells.toList).length=len*sz:=by
   rw[za4];have:∀(l:List Value),(∀v∈l,v.cells.size=sz)->(l.map fun v=>v.cells.toList.length).sum=l.length*sz:=by
    intro l;induction l with
    |nil=>simp
    |cons v l ih=>
     intro hv;simp only[zaj,zbl,zaC];rw[ih (fun v' gR=>hv v' (by simp[gR])),zap,hv v (by simp),zai];omega
   rw[this _ Ss];simp[gA]
  have aaN:∀cs:Array Value,cs.size=len*sz->Instr.fill (fun i=>some (i*sz,sz)) cs (parts.map fun p=>(p.1,a.eval p.2)).toList=some ((parts.toList.map fun p=>a.eval p.2).flatMap fun v=>v.cells.toList).toArray:=by
   intro cs gz;rw[hpz,Zt sz _ 0 cs Ss (by simp only[zaz,gA,zal];omega)];congr 2;simp only[dz,zaX,za2,zay,zal];rw[zaT (by rw[alv,zap,gz];exact zaq _)];simp
  by_cases h0:len*sz=0
  ·have hf:=aaN ((Array.range 0).map fun _=>default) (by simp[h0]);rw[zaH] at hf;simp[execOp,ho,Instr.buildSlice,run_underlying ht,sizeOf,typeInfo,hi,cX,h0,Nat.not_lt.2 Rr,hf,newRow,ad]
  ·have hf:=aaN ((Array.range (len*sz)).map (z.cells[·%z.cells.size]!)) (by simp);rw[zaH] at hf;simp[execOp,ho,Instr.buildSlice,run_underlying ht,sizeOf,typeInfo,hi,cX,h0,Nat.not_lt.2 Rr,zeroValue,hz,hf,newRow,ad]
 have iG:∀k j c,At pes k j c->Good w c/\∀b,bD b c->Im' b:=fun k j c hk=>by
  obtain⟨e1,he,hj⟩:=hk;exact a4 e1 (zaa he) c (zaa hj)
 have H0:HR B E w ⟨Im',G.g⟩ σ1.h σ.used []:=by
  cases ow
  ·simpa using a5
  ·have yJ:HR B E w ⟨Im',G.g⟩ σ1.h σ.used ([]++pes.flatten):=by simpa using a5
   exact yJ.Ak
 obtain⟨G',r',hv⟩:=r.newRow (m:=if ow=true then .bc else .aL) (sz:=sz) (cap:=len) (pes:=pes) (arr:=((parts.toList.map fun p=>a.eval p.2).flatMap fun v=>v.cells.toList).toArray) (e:=e) H0 a6 a7 a8 (by rw[<-a8];exact hn) mb a3 iG
  (fun k j c hk=>by
   have dj:At (pes.map fun e=>e.map PC.val) k j c.val:=by
    obtain⟨e1,he,hj⟩:=hk;exact⟨e1.map PC.val,by rw[zad,he];rfl,by rw[zad,hj];rfl⟩
   have hf:=wX (sz:=sz) (px:=pes.map fun e=>e.map PC.val) (fun e he=>by
    obtain⟨e1,zb,rfl⟩:=zaw.1 he;simpa using a3 e1 zb) dj
   rw[a2] at hf;simpa[List.flatMap] using hf) (by omega) (by
   have h2:sz*len<=16777216:=by rw[zaY];exact Rr
   have h3:len<=len*sz:=zaE _ mb;simp only[maxLen];omega) (by
   have RJ:((parts.toList.map fun p=>a.eval p.2).flatMap fun v=>v.cells.toList).length=len*sz:=by
    rw[za4];have:∀(l:List Value),(∀v∈l,v.cells.size=sz)->(l.map fun v=>v.cells.toList.length).sum=l.length*sz:=by
     intro l;induction l with
     |nil=>simp
     |cons v l ih=>
      intro hv;simp only[zaj,zbl,zaC];rw[ih (fun v' gR=>hv v' (by simp[gR])),zap,hv v (by simp),zai];omega
    rw[this _ Ss];simp[gA]
   simpa using RJ) (by
   cases ow
   ·exact .inl rfl
   ·right;simp only[if_true];have yJ:HR B E w ⟨Im',G.g⟩ σ1.h σ.used pes.flatten:=by simpa using a5
    exact yJ.arh mb a3)
 have alt:es.length=pes.length:=by rw[<-a1];simp
 rw[a1] at r' hv;rw[alt];rw[alR] at hv⊢;refine Ao cP ⟨G',?_⟩;exact r'.put hv (fun q hq=>by have gj:q=n:=hq;subst gj;exact cJ _ _ _) (fun q hq=>by rw[hd] at hq;injection hq with hq;omega)
theorem HR.loadAt (H:HR B E w G h used tk) {p:aj} {sz:Nat} {cs:List aj} {v:Value} (hx:loadAt h p sz=some cs) (hc:RC w G h p v) (ma:∀m,p.ref m->used m=true):
  ∃(b o:Nat) (vs:List Value),v=.pointer (some (ad b o))/\vs.length=sz/\(∀(j:Nat) (u:Value),vs[j]? =some u->w.cell? (ad b (o+j))=some u)/\dT w G h cs vs/\
   ∀c∈cs,∀m,c.ref m->used m=true:=by
 cases p with
 |ptr n k aR off=>
  simp only[Am.loadAt] at hx;split at hx
  ·rename_i j8 hn;split at hx
   ·rename_i hk;subst hk;obtain⟨s1,s2,s3⟩:=FA hx;obtain⟨q1,q2⟩:=hc (by rw[hn];simp);obtain⟨b1,b2,b3⟩:=H.box n j8 hn;have cI:∀j,j<sz->∃v,w.cell? (ad (G.g n).b ((G.g n).o+off+j))=some v/\∀c,cs[j]? =some c->v.oneCell'=true/\RC w G h c v:=by
     intro j hj;have gf:j8[off+j]? =some (j8[off+j]'(by omega)):=zac _;obtain⟨v,v1,v2,v3⟩:=b3 _ _ gf;refine⟨v,by rw[zam];exact v1,fun c iu=>?_⟩;rw[s2,Ai hj,gf] at iu;injection iu with iu;subst iu;exact⟨v2,v3⟩
    obtain⟨vs,l1,l2⟩:=QK _ sz cI;refine⟨(G.g n).b,(G.g n).o+off,vs,by rw[q2];simp,l1,fun j u hj=>(l2 j u hj).1,⟨by omega,fun j c u iu hu=>(l2 j u hu).2 c iu⟩,fun c mI m hm=>?_⟩;refine H.jQ n j8 c m hn ?_ hm;rw[s2] at mI;exact zat (zau mI)
   ·cases hx
  ·rename_i gr mo rs xs hn;split at hx
   ·rename_i xE;subst xE;split at hx
    ·rename_i e he;split at hx
     ·rename_i l ic;injection hx with hx;obtain⟨s1,s2,s3⟩:=FA ic;have hr:=H.row n gr mo aR xs hn;obtain⟨q1,q2⟩:=hc (by rw[hn];simp);obtain⟨r1,r2,r3⟩:=hr.fN q1;have zh:∃pe,(G.g n).px[k]? =some pe/\pe.map PC.er=e:=by
       rw[hr.er,zad] at he;cases hp:(G.g n).px[k]? with
       |none=>rw[hp] at he;cases he
       |some pe=>rw[hp] at he;simp at he;exact⟨pe,rfl,he⟩
      obtain⟨pe,zi,zj⟩:=zh;have jk:off+sz<=pe.length:=by rw[<-zj] at s1;simpa using s1
      have jg:∀j,j<sz->∃pc,At (G.g n).px k (off+j) pc/\l[j]? =some pc.er/\((pe.drop off).take sz)[j]? =some pc:=by
       intro j hj;have hp:pe[off+j]? =some (pe[off+j]'(by omega)):=zac _;refine⟨pe[off+j]'(by omega),⟨pe,zi,hp⟩,?_,by rw[Ai hj];exact hp⟩;have e0:l[j]? =((e.drop off).take sz)[j]? :=congrArg (fun q:List C=>q[j]?) s2;rw[e0,Ai hj,<-zj,zad,hp];rfl
      have qV:(((pe.drop off).take sz).map PC.val).length=sz:=by simp;omega
      refine⟨(G.g n).b,(G.g n).o+k*aR+off,((pe.drop off).take sz).map PC.val,q2,qV,fun j u hj=>?_,?_,?_⟩
      ·have pt:j<sz:=by have:=(zab.1 hj).1;omega
       obtain⟨pc,p1,p2,p3⟩:=jg j pt;rw[zad,p3] at hj;simp at hj;subst hj;rw[show(G.g n).o+k*aR+off+j=(G.g n).o+k*aR+(off+j) by omega];exact r2.2.1 _ _ _ p1
      ·subst hx;refine⟨by rw[qV];split<;>simp[abT,s3],fun j c u iu hu=>?_⟩
       have pt:j<sz:=by have:=(zab.1 hu).1;omega
       obtain⟨pc,p1,p2,p3⟩:=jg j pt;rw[zad,p3] at hu;simp at hu;subst hu;refine⟨PC.nG pc,?_⟩;have hg:=r2.2.2 _ _ _ p1;split at iu
       ·rename_i vM;subst vM;rcases TA n k aR l off j c iu with⟨c',h1,h2,rfl⟩|⟨s,ys,h1,rfl⟩
        ·rw[p2] at h1;injection h1 with h1;exact⟨pc,h1,rfl,hg,fun b hb=>absurd hb ((Sep.n9 (pc:=pc) (by rw[h1];exact h2)).2 b)⟩
        ·rw[p2] at h1;injection h1 with h1;intro cc az _;refine⟨pc,p1,rfl,?_⟩;cases pc<;>simp[PC.er] at h1<;>rfl
       ·rename_i vM;rw[zad,p2] at iu;simp at iu;subst iu;refine⟨pc,rfl,rfl,hg,fun b hb=>?_⟩;have hm:=hr.mode;have d7:bH b (G.g n).px:=⟨k,off+j,pc,p1,hb⟩;cases mo with
        |aL=>exact hm b d7
        |bc=>exact(hm.1 b d7).1
        |live=>exact absurd rfl vM
      ·intro c mI m hm;subst hx;split at mI
       ·obtain⟨j,hj,xv⟩:=zao mI;rcases TA n k aR l off j c (by rw[zac hj,xv]) with⟨c',h1,h2,rfl⟩|⟨s,ys,h1,rfl⟩
        ·exact absurd hm (by simp[aj.ref,aj.kq])
        ·have:m=n:=hm;subst this;exact ma m rfl
       ·obtain⟨c',_,rfl⟩:=zaw.1 mI;exact absurd hm (by simp[aj.ref,aj.kq])
     ·cases hx
    ·cases hx
   ·cases hx
  ·cases hx
 |dr xs off=>
  simp only[Am.loadAt] at hx;cases ic:sub xs off sz with
  |none=>rw[ic] at hx;cases hx
  |some l=>
   rw[ic] at hx;simp at hx;subst hx;obtain⟨s1,s2,s3⟩:=FA ic;obtain⟨b,o,pe,p1,p2,p3,p4⟩:=hc;have jk:off+sz<=pe.length:=by rw[<-p2] at s1;simpa using s1
   have qV:(((pe.drop off).take sz).map PC.val).length=sz:=by simp;omega
   have jg:∀j,j<sz->∃pc,pe[off+j]? =some pc/\l[j]? =some pc.er/\((pe.drop off).take sz)[j]? =some pc:=by
    intro j hj;have hp:pe[off+j]? =some (pe[off+j]'(by omega)):=zac _;refine⟨pe[off+j]'(by omega),hp,?_,by rw[Ai hj];exact hp⟩;have e0:l[j]? =((xs.drop off).take sz)[j]? :=congrArg (fun q:List C=>q[j]?) s2;rw[e0,Ai hj,<-p2,zad,hp];rfl
   refine⟨b,o+off,_,p1,qV,fun j u hj=>?_,⟨by rw[qV];simp[s3],fun j c u iu hu=>?_⟩,fun c mI m hm=>?_⟩
   ·have pt:j<sz:=by have:=(zab.1 hj).1;omega
    obtain⟨pc,q1,q2,q3⟩:=jg j pt;rw[zad,q3] at hj;simp at hj;subst hj;rw[zam];exact(p4 _ _ q1).1
   ·have pt:j<sz:=by have:=(zab.1 hu).1;omega
    obtain⟨pc,q1,q2,q3⟩:=jg j pt;rw[zad,q3] at hu;rw[zad,q2] at iu;simp at hu iu;subst hu;subst iu;exact⟨PC.nG pc,pc,rfl,rfl,(p4 _ _ q1).2.1,(p4 _ _ q1).2.2⟩
   ·obtain⟨c',_,rfl⟩:=zaw.1 mI;exact absurd hm (by simp[aj.ref,aj.kq])
 |cN xs off j n s len=>
  simp only[Am.loadAt] at hx;obtain⟨b,o,pe,p1,p2,p3,p4,u,u1,u2,u3⟩:=hc;split at hx
  ·rename_i dP;obtain⟨rfl,rfl⟩:=dP;injection hx with hx;subst hx;refine⟨b,o+off,[u],p1,rfl,fun i u' hi=>?_,⟨rfl,fun i c u' vK hu=>?_⟩,fun c mI m hm=>?_⟩
   ·cases i with
    |zero=>simp at hi;subst hi;exact u1
    |succ i=>simp at hi
   ·cases i with
    |zero=>simp at vK hu;subst vK;subst hu;exact⟨u2,u3⟩
    |succ i=>simp at hu
   ·simp at mI;subst mI;have:m=n:=hm;subst this;exact ma m rfl
  ·split at hx
   ·rename_i cD;cases ic:sub xs off sz with
    |none=>rw[ic] at hx;cases hx
    |some l=>
     rw[ic] at hx;simp at hx;subst hx;obtain⟨s1,s2,s3⟩:=FA ic;have jk:off+sz<=pe.length:=by rw[<-p2] at s1;simpa using s1
     have qV:(((pe.drop off).take sz).map PC.val).length=sz:=by simp;omega
     have jg:∀j,j<sz->∃pc,pe[off+j]? =some pc/\l[j]? =some pc.er/\((pe.drop off).take sz)[j]? =some pc:=by
      intro j hj;have hp:pe[off+j]? =some (pe[off+j]'(by omega)):=zac _;refine⟨pe[off+j]'(by omega),hp,?_,by rw[Ai hj];exact hp⟩;have e0:l[j]? =((xs.drop off).take sz)[j]? :=congrArg (fun q:List C=>q[j]?) s2;rw[e0,Ai hj,<-p2,zad,hp];rfl
     refine⟨b,o+off,_,p1,qV,fun i u hi=>?_,⟨by rw[qV];simp[s3],fun i c u vK hu=>?_⟩,fun c mI m hm=>?_⟩
     ·have Ha:i<sz:=by have:=(zab.1 hi).1;omega
      obtain⟨pc,q1,q2,q3⟩:=jg i Ha;rw[zad,q3] at hi;simp at hi;subst hi;rw[zam];exact(p4 _ _ (by omega) q1).1
     ·have Ha:i<sz:=by have:=(zab.1 hu).1;omega
      obtain⟨pc,q1,q2,q3⟩:=jg i Ha;rw[zad,q3] at hu;rw[zad,q2] at vK;simp at hu vK;subst hu;subst vK;exact⟨PC.nG pc,pc,rfl,rfl,(p4 _ _ (by omega) q1).2.1,(p4 _ _ (by omega) q1).2.2⟩
     ·obtain⟨c',_,rfl⟩:=zaw.1 mI;exact absurd hm (by simp[aj.ref,aj.kq])
   ·cases hx
 |c x=>simp[Am.loadAt] at hx
 |nil sz=>simp[Am.loadAt] at hx
 |sl n sz lo len=>simp[Am.loadAt] at hx
 |ct n k aR off sz len=>simp[Am.loadAt] at hx
 |dY n k aR off sz i=>simp[Am.loadAt] at hx
 |fn f c9=>simp[Am.loadAt] at hx
 |cd=>simp[Am.loadAt] at hx
def Dz (P:Program) (t:TypeId) (ag:Bool) (sz:Nat):Bool:=
 match P.underlying t,P.info? t with
 |some (.struct _),some i=>ag&&i.size==sz
 |some (.array _ _),_=>false
 |some _,some i=> !ag&&sz==1
 |_,_=>false
theorem RA.iV {c:aj} {v:Value} (hc:c≠ .cd) (hv:RA w G h (.one c) v):RC w G h c v/\v.oneCell'=true:=by
 rcases hv with rfl|hv
 ·exact absurd rfl hc
 ·have gR:dT w G h [c] [v]:=hv;exact⟨(gR.2 0 c v rfl rfl).2,(gR.2 0 c v rfl rfl).1⟩
theorem ajA (r:R B E w0 N σ a w G) {t:TypeId} {x:Operand} {m:MO} {ag:Bool} {sz:Nat} {p:aj} {cs:List aj} (ho:o.op=.load t x) (hN:∀n,o.dst=some n->n<N)
  (hm:cQ x m=true) (jh:Dz P t ag sz=true) (hp:σ.ev m=.one p) (hx:Am.loadAt σ.h p sz=some cs):
  o.wp P a w (Nx B E w0 N (σ.put o.dst (pT ag cs))) Q:=by
 obtain⟨hv,ma⟩:=r.ev hm;rw[hp] at hv ma;have ta:p≠ .cd:=by rintro rfl;simp[Am.loadAt] at hx
 obtain⟨b,of,vs,h1,h2,h3,h4,h5⟩:=r.hr.loadAt hx (hv.iV ta).1 ma;have nk:∀v,RA w G σ.h (pT ag cs) v->(execOp a.eval o).run P w=.ok (.value v) w->o.wp P a w (Nx B E w0 N (σ.put o.dst (pT ag cs))) Q:=fun v hv cP=>
  Ao cP ⟨G,r.put hv (fun q hq=>by
   unfold pT at hq;split at hq
   ·obtain⟨c,hc,hq⟩:=hq;exact h5 c hc q hq
   ·exact h5 _ (by simp) q hq
   ·exact absurd hq (by simp[ao.ref,aj.ref,aj.kq])) hN⟩
 have R5:∀n:Nat,n=vs.length->(loadCells (ad b of) n).run P w=.ok vs.toArray w:=fun n hn=>by
  subst hn;exact run_loadCells_list w (ad b of) vs (fun j u hj=>by rw[ud];exact h3 j u hj)
 unfold Dz at jh;cases hu:P.underlying t with
 |none=>rw[hu] at jh;simp at jh
 |some d=>
  cases hi:P.info? t with
  |none=>rw[hu,hi] at jh;cases d<;>simp at jh
  |some i=>
   rw[hu,hi] at jh;have cj:(ag=true/\i.size=sz/\(isAgg t).run P w=.ok true w)\/(ag=false/\sz=1/\(isAgg t).run P w=.ok false w):=by
    cases d<;>simp at jh<;>simp[isAgg,run_underlying hu,jh]
   rcases cj with⟨rfl,e1,e2⟩|⟨rfl,e1,e2⟩
   ·refine nk (.agg vs.toArray) ⟨vs,rfl,h4⟩ ?_;simp[execOp,ho,h1,Instr.loadAt,Instr.sureAddr,loadVar,e2,sizeOf,typeInfo,hi,R5 i.size (by omega)]
   ·subst e1;match vs,h2 with
    |[u],_=>
     have gz:∃c,cs=[c]:=by
      have:=h4.1;match cs,this with
      |[c],_=>exact⟨c,rfl⟩
     obtain⟨c,rfl⟩:=gz;refine nk u (.inr h4) ?_;have jg:=h3 0 u rfl;simp only[zaN] at jg;simp[execOp,ho,h1,Instr.loadAt,Instr.sureAddr,loadVar,e2,jg]
end
theorem Ox {α:Type} {l vs:List α} {off:Nat} (h:off+vs.length<=l.length):(dz l off vs).length=l.length:=by
 simp[dz];omega
theorem Ad {α:Type} {l vs:List α} {off j:Nat} (h:off+vs.length<=l.length):(dz l off vs)[j]? =if off<=j/\j<off+vs.length then vs[j - off]? else l[j]? :=by
 unfold dz;have ht:(l.take off).length=off:=by simp;omega
 by_cases h1:j<off
 ·rw[if_neg (by omega),zaR,zaf (by omega),zaS h1]
 ·by_cases h2:j<off+vs.length
  ·rw[if_pos ⟨by omega,h2⟩,zaR,zag (by omega),zaf (by omega),ht]
  ·rw[if_neg (by omega),zag (by simp;omega),zaD];congr 1;simp;omega
theorem Fu {α β:Type} (f:α->β) (l vs:List α) (off:Nat):(dz l off vs).map f=dz (l.map f) off (vs.map f):=by
 simp[dz,za7,za8]
def iZ (w:World) (b o:Nat) (vs:List Value) (cur:Array Value):World:=w.setRow b (cur.toList.take o++vs++cur.toList.drop (o+vs.length)).toArray
section
variable {w:World} {b o:Nat} {vs:List Value} {cur:Array Value} {e:TypeId}
theorem Je (hg:w.heap[b]? =some (.cells cur e (0,0))) (hl:o+vs.length<=cur.size) (x:Nat):
  (iZ w b o vs cur).cell? (ad b x)=if o<=x/\x<o+vs.length then vs[x - o]? else w.cell? (ad b x):=by
 unfold iZ ad;rw[cell_setRow_same w b x cur _ e (0,0) hg];have h1:=Ad (l:=cur.toList) (vs:=vs) (off:=o) (j:=x) (by simpa using hl);simp only[dz] at h1;rw[zax,h1];have h2:w.cell? ⟨b,x,none⟩=cur[x]? :=by simp[World.cell?,hg]
 rw[h2];simp
theorem FK (k:Nat) (hk:k≠b):(iZ w b o vs cur).heap[k]? =w.heap[k]? :=setRow_other w b k _ hk
theorem vg:(iZ w b o vs cur).heap.size=w.heap.size:=setRow_size _ _ _
theorem O0 (hg:w.heap[b]? =some (.cells cur e (0,0))) (hl:o+vs.length<=cur.size):∃lT,(iZ w b o vs cur).heap[b]? =some (.cells lT e (0,0))/\lT.size=cur.size:=by
 refine⟨_,setRow_heap w b cur _ e (0,0) hg,?_⟩;simp;omega
theorem Jf (hg:w.heap[b]? =some (.cells cur e (0,0))) (hl:o+vs.length<=cur.size):Cz w (iZ w b o vs cur) b:=by
 intro arr e' h;obtain⟨lT,h1,h2⟩:=O0 (vs:=vs) (o:=o) hg hl;rw[hg] at h;injection h with h;injection h with ha hb;subst ha hb;exact⟨lT,h1,h2⟩
theorem O1 (hg:w.heap[b]? =some (.cells cur e (0,0))) (hl:o+vs.length<=cur.size) (k:Nat) (hk:fy w k):fy (iZ w b o vs cur) k:=by
 by_cases hkb:k=b
 ·subst hkb;obtain⟨lT,h1,_⟩:=O0 (vs:=vs) (o:=o) hg hl;exact⟨lT,e,h1⟩
 ·exact hk.congr (FK k hkb)
end
section
variable {B:Nat} {E:Ex} {w0 w w':World} {G G':Gh} {h h':Nat->Option av} {used used':Nat->Bool} {tk:List PC} {N:Nat}
variable {P:Program} {o:Oper} {a:Act} {σ σ':St} {Q:Exit->Act->World->Prop}
theorem I9 {α:Type} (f:Nat->α) (n:Nat):aQ f n (f n)=f:=by
 funext m;simp only[lc];split
 ·rename_i h;rw[h]
 ·rfl
theorem VI {t:TypeId} {i:TypeInfo} {b off:Nat} {v:Value} {cur:Array Value} {e:TypeId} (hi:P.info? t=some i) (cX:v.cells.size=i.size) (hg:w.heap[b]? =some (.cells cur e (0,0)))
  (hl:off+v.cells.size<=cur.size) (h1:∀u∈v.cells.toList,u.oneCell'=true):
  (storeVar t (ad b off) v).run P w=.ok () (iZ w b off v.cells.toList cur):=by
 have kQ:=run_storeCells_at P b off e v.cells.toList 0 cur w hg (by simpa using hl) h1;simp only[zaN] at kQ;simp[storeVar,sizeOf,typeInfo,hi,cX,ad,kQ,iZ]
theorem HR.y4 (H:HR B E w G h used tk) {n m:Nat} {gr:Bool} {mo:Mode} {sz:Nat} {xs:List (List C)} (hn:h n≠none) (hl:(G.g n).nl=false) (hm:h m=some (.row gr mo sz xs)) {b:Nat} (hb:bH b (G.g m).px):b≠(G.g n).b:=by
 have eA:=(H.row m gr mo sz xs hm).mode;cases mo with
 |aL=>rintro rfl;exact(H.own n hn hl).1 (eA _ hb)
 |bc=>rintro rfl;exact(H.own n hn hl).1 (eA.1 _ hb).1
 |live=>exact H.live m gr sz xs hm b hb n hn hl
theorem R.at8 (r:R B E w0 N σ a w G) {n:Nat} {cs:List aj} {vs:List aj} {us:List Value} {off:Nat} (hn:σ.h n=some (.box cs)) (hv:dT w G σ.h vs us) (ma:∀c∈vs,∀m,c.ref m->σ.used m=true)
  (hl:off+vs.length<=cs.length) {cur:Array Value} {e:TypeId} (hg:w.heap[(G.g n).b]? =some (.cells cur e (0,0))) (kc:(G.g n).o+off+us.length<=cur.size):
  R B E w0 N (σ.fx n (.box (dz cs off vs))) a (iZ w (G.g n).b ((G.g n).o+off) us cur) G:=by
 have H:=r.hr;have cO:σ.h n≠none:=by rw[hn];simp
 obtain⟨bq,vU,jg⟩:=H.box n cs hn;obtain⟨xA,vQ,xB⟩:=H.own n cO bq;have zm:=H.kN n cO;have hG:(⟨G.Im,aQ G.g n (G.g n)⟩:Gh)=G:=by rw[I9]
 have hlen:us.length=vs.length:=hv.1;have fu:∀b,b<w.heap.size->b≠(G.g n).b->(iZ w (G.g n).b ((G.g n).o+off) us cur).heap[b]? =w.heap[b]? :=fun b _ hb=>FK b hb;have K:bW w G σ.h (fun n=>σ.used n=true) (iZ w (G.g n).b ((G.g n).o+off) us cur) G (aQ σ.h n (some (.box (dz cs off vs)))):=by
  refine⟨fun _ h=>h,fun b hb x=>kM (fu b (H.jq b hb) (fun he=>xA (he▸hb))) x,fun m hm h0=>?_,fun m gr sz xs hm h0=>?_⟩
  ·by_cases cG:m=n
   ·subst cG;exact⟨cO,rfl,rfl,rfl,rfl,rfl⟩
   ·rw[dA _ _ _ _ cG] at h0;exact⟨h0,rfl,rfl,rfl,rfl,rfl⟩
  ·by_cases cG:m=n
   ·subst cG;rw[cJ] at h0;cases h0
   ·rw[dA _ _ _ _ cG] at h0;exact⟨⟨gr,xs,h0⟩,fun k j pc h1 h2=>⟨pc,h1,rfl,h2⟩⟩
 have Hn:HR B E (iZ w (G.g n).b ((G.g n).o+off) us cur) ⟨G.Im,aQ G.g n (G.g n)⟩ (aQ σ.h n (some (.box (dz cs off vs)))) σ.used []:=by
  refine H.put (fun b hb aE=>fu b hb (aE bq)) (by rw[vg];exact zaq _) (fun b _ hb=>O1 hg kc b hb) (fun _ h=>h) zm (fun _=>⟨xA,vQ,by rw[vg];exact xB⟩)
   (fun _ m hm h0 qS=>(H.inj m n h0 cO hm qS bq)) (fun _ m gr sz xs hm h0 b hb=>H.live m gr sz xs h0 b hb n cO bq) ?_ (by rw[hG];exact K) ?_
   (fun gr m sz xs hb=>by cases hb) (fun gr sz xs hb=>by cases hb) (fun gr m sz xs hb=>by cases hb) ?_
  ·intro cs' c m hb hc hm;injection hb with hb;subst hb;simp only[dz,zav] at hc;rcases hc with(hc|hc)|hc
   ·exact H.jQ n cs c m hn (zau hc) hm
   ·exact ma c hc m hm
   ·exact H.jQ n cs c m hn (zat hc) hm
  ·rw[hG];refine⟨bq,O1 hg kc _ vU,fun j c hj=>?_⟩;rw[Ad hl] at hj;rw[Je hg kc];by_cases gQ:off<=j/\j<off+vs.length
   ·rw[if_pos gQ] at hj;rw[if_pos (by omega)];have nU:j - off<us.length:=by omega
    have hu:us[j - off]? =some (us[j - off]'nU):=zac nU;obtain⟨q1,q2⟩:=hv.2 _ _ _ hj hu;refine⟨_,by rw[<-hu];congr 1;omega,q1,q2.keep K (ma c (zaa hj))⟩
   ·rw[if_neg gQ] at hj;rw[if_neg (by omega)];obtain⟨v,v1,v2,v3⟩:=jg j c hj;exact⟨v,v1,v2,v3.keep K (fun m hm=>H.jQ n cs c m hn (zaa hj) hm)⟩
  ·intro _ _ b hb;obtain⟨m,gr,mo,sz,xs,hm,h0,d7⟩:=hb;exact H.y4 cO bq h0 d7
 rw[hG] at Hn;exact r.step (σ':=σ.fx n (.box (dz cs off vs))) rfl (fun _ h=>h) K Hn (r.fr.one vQ (fun b hb aE=>fu b hb aE) (by rw[vg];exact zaq _) (Jf hg kc) rfl rfl rfl)
theorem K9 {α:Type} {px:List (List α)} {k k' j:Nat} {pe:List α} {c:α} (hk:k<px.length) (h:At (px.set k pe) k' j c):(k'=k/\pe[j]? =some c)\/(k'≠k/\At px k' j c):=by
 obtain⟨e,he,hj⟩:=h;by_cases qh:k'=k
 ·subst qh;rw[zaU hk] at he;injection he with he;subst he;exact .inl ⟨rfl,hj⟩
 ·rw[za1 (zaW qh)] at he;exact .inr ⟨qh,e,he,hj⟩
theorem PC.abv {pc:PC} (h:pc.jG=true):pc.er.gK=false:=by
 cases pc<;>simp[PC.jG] at h
 simp[PC.fo,C.gK]
theorem R.pS (r:R B E w0 N σ a w G) {n:Nat} {gr:Bool} {m:Mode} {rs:Nat} {xs:List (List C)} {k off:Nat} {e:List C} {vs:List aj} {us:List Value} {σ2:St}
  (hn:σ.h n=some (.row gr m rs xs)) (bq:(G.g n).nl=false) (hk:xs[k]? =some e) (hv:dT w G σ.h vs us) (ma:∀c∈vs,∀m,c.ref m->σ.used m=true)
  (hx:Am.pS σ n gr m rs xs k off e vs=some σ2) {cur:Array Value} {et:TypeId} (hg:w.heap[(G.g n).b]? =some (.cells cur et (0,0))) (kc:(G.g n).o+k*rs+off+us.length<=cur.size):
  ∃G',R B E w0 N σ2 a (iZ w (G.g n).b ((G.g n).o+k*rs+off) us cur) G':=by
 unfold Am.pS at hx;split at hx
 ·cases hx
 rename_i gW ic;obtain⟨s1,s2,s3⟩:=FA ic;split at hx
 ·cases hx
 rename_i cs ow σ1 So;obtain⟨Im',cu,a1,a2,a3,a4,a5,a6,a7,a8⟩:=HR.gY r.hr So hv ma;simp only[zay] at a4;have H0:HR B E w ⟨Im',G.g⟩ σ1.h σ.used []:=by
  cases ow
  ·simpa using a4
  ·have a4':HR B E w ⟨Im',G.g⟩ σ1.h σ.used ([]++cu):=by simpa using a4
   exact a4'.Ak
 have hlen:us.length=vs.length:=hv.1;have jk:cu.length=vs.length:=by have:=congrArg List.length a2;simp at this;omega
 have Rx:(σ1.h n).isSome=true/\∃m',σ2=σ1.fx n (.row gr m' rs (xs.set k (dz e off cs)))/\
   ((m=.live/\m'=.live/\g8 cs=true/\g8 gW=true)\/(m≠ .live/\m'=if ow=true then m else .aL)):=by
  split at hx
  ·rename_i hm;split at hx
   ·rename_i hc;injection hx with hx;exact⟨hc.2.2,m,by rw[<-hx],.inl ⟨hm,hm,hc.1,hc.2.1⟩⟩
   ·cases hx
  ·rename_i hm;split at hx
   ·rename_i hs;injection hx with hx;exact⟨hs,_,hx.symm,.inr ⟨hm,rfl⟩⟩
   ·cases hx
 obtain⟨Ek,m',rfl,iv⟩:=Rx;have nV:σ1.h n=some (.row gr m rs xs):=by
  cases hh:σ1.h n with
  |none=>rw[hh] at Ek;cases Ek
  |some b=>rw[<-a8 n b hh,hn]
 have cO:σ1.h n≠none:=by rw[nV];simp
 have hr:=H0.row n gr m rs xs nV;obtain⟨xA,vQ,xB⟩:=H0.own n cO bq;have zm:=H0.kN n cO;obtain⟨l1,l2,l3⟩:=hr.fN bq;have zh:∃pe,(G.g n).px[k]? =some pe/\pe.map PC.er=e:=by
  have xp:=hr.er;rw[xp,zad] at hk;cases hp:(G.g n).px[k]? with
  |none=>rw[hp] at hk;cases hk
  |some pe=>rw[hp] at hk;simp at hk;exact⟨pe,rfl,hk⟩
 obtain⟨pe,zi,zj⟩:=zh;have qR:k<(G.g n).px.length:=(zab.1 zi).1;have MB:pe.length=rs:=l2.1 pe (zaa zi);have Ei:off+cu.length<=pe.length:=by rw[<-zj] at s1;simp at s1;omega
 let E3:=dz pe off cu;let px':=(G.g n).px.set k E3;let w2:=iZ w (G.g n).b ((G.g n).o+k*rs+off) us cur;let p':PB:=⟨false,(G.g n).b,(G.g n).o,(G.g n).cap,px',(G.g n).na⟩;have aaV:E3.length=rs:=by show(dz pe off cu).length=rs;rw[Ox Ei,MB]
 have cV:∀k' j c,At px' k' j c->(k'=k/\off<=j/\j<off+cu.length/\cu[j - off]? =some c)\/((k'≠k\/¬(off<=j/\j<off+cu.length))/\At (G.g n).px k' j c):=by
  intro k' j c h;rcases K9 qR h with⟨rfl,hj⟩|⟨aE,h⟩
  ·rw[Ad Ei] at hj;by_cases gQ:off<=j/\j<off+cu.length
   ·rw[if_pos gQ] at hj;exact .inl ⟨rfl,gQ.1,gQ.2,hj⟩
   ·rw[if_neg gQ] at hj;exact .inr ⟨.inr gQ,pe,zi,hj⟩
  ·exact .inr ⟨.inl aE,h⟩
 have aln:∀k' j c,At px' k' j c->j<rs:=by
  intro k' j c h;obtain⟨e1,he,hj⟩:=h;have:e1.length=rs:=by
   rcases zaO (zaa he) with h1|h1
   ·exact l2.1 e1 h1
   ·rw[h1];exact aaV
  rw[<-this];exact(zab.1 hj).1
 have pq:∀b,bH b px'->bH b (G.g n).px\/∃(i:Nat) (c:PC),cu[i]? =some c/\bD b c:=by
  rintro b ⟨k',j,c,pu,hb⟩;rcases cV k' j c pu with⟨_,_,_,hp⟩|⟨_,hp⟩
  ·exact .inr ⟨_,c,hp,hb⟩
  ·exact .inl ⟨k',j,c,hp,hb⟩
 have fu:∀b,b≠(G.g n).b->w2.heap[b]? =w.heap[b]? :=fun b hb=>FK b hb;have Sb:∀(i:Nat) (c:PC) (b:Nat),cu[i]? =some c->bD b c->Im' b:=fun i c b hi hb=>(a3 c (zaa hi)).2 b hb;have Mk:∀b,Im' b->b≠(G.g n).b:=fun b hb he=>xA (he▸hb);have R8:∀b,bH b (G.g n).px->b≠(G.g n).b:=fun b hb=>H0.y4 cO bq nV hb;have gk:ry w2 (G.g n).b (G.g n).o rs px':=by
  refine⟨fun e1 he=>?_,fun k' j c pu=>?_,fun k' j c pu=>?_⟩
  ·rcases zaO he with h1|h1
   ·exact l2.1 e1 h1
   ·rw[h1];exact aaV
  ·have hj:=aln k' j c pu;show w2.cell? _=_;rw[Je hg kc];rcases cV k' j c pu with⟨rfl,h1,h2,hp⟩|⟨aE,hp⟩
   ·rw[if_pos (by omega)];have hu:us[j - off]? =some c.val:=by rw[<-a2,zad,hp];rfl
    rw[<-hu];congr 1;omega
   ·rw[if_neg ?_]
    ·exact l2.2.1 k' j c hp
    ·rintro⟨q1,q2⟩;rcases aE with aE|aE
     ·rcases Nat.lt_or_gt_of_ne aE with cD|Bo
      ·have:(k'+1)*rs<=k*rs:=zah _ cD;rw[zai] at this;omega
      ·have:(k+1)*rs<=k'*rs:=zah _ Bo;rw[zai] at this;omega
     ·have:k'=k:=by
       rcases zaP k' k with cD|gh|Bo
       ·have:(k'+1)*rs<=k*rs:=zah _ cD;rw[zai] at this;omega
       ·exact gh
       ·have:(k+1)*rs<=k'*rs:=zah _ Bo;rw[zai] at this;omega
      subst this;omega
  ·rcases cV k' j c pu with⟨_,_,_,hp⟩|⟨_,hp⟩
   ·exact(a3 c (zaa hp)).1.congr fun b hb x=>kM (fu b (Mk b (Sb _ c b hp hb))) x
   ·exact(l2.2.2 k' j c hp).congr fun b hb x=>kM (fu b (R8 b ⟨k',j,c,hp,hb⟩)) x
 have au9:(G.g n).o+k*rs+off+us.length<=cur.size:=kc;have lC:g8 cs=true->∀(i:Nat) (c:PC) (b:Nat),cu[i]? =some c->¬bD b c:=by
  intro hs i c b hi;have hc:c.er∈cs:=by rw[<-a1];exact zaJ (zaa hi)
  exact(Sep.n9 (pc:=c) (zan.1 hs _ hc)).2 b
 have hold:g8 gW=true->∀j c,off<=j->j<off+cu.length->pe[j]? =some c->c.er.gK=true:=by
  intro hs j c h1 h2 hj;have:c.er∈gW:=by
   have h3:gW[j - off]? =some c.er:=by
    have e0:gW[j - off]? =((e.drop off).take vs.length)[j - off]? :=congrArg (fun q:List C=>q[j - off]?) s2;rw[e0,Ai (by omega),<-zj,zad,show off+(j - off)=j by omega,hj];rfl
   exact zaa h3
  exact zan.1 hs _ this
 have K2:bW w ⟨Im',G.g⟩ σ1.h (fun n=>σ.used n=true) w2 ⟨Im',aQ G.g n p'⟩ (aQ σ1.h n (some (.row gr m' rs (xs.set k (dz e off cs))))):=by
  refine⟨fun _ h=>h,fun b hb x=>kM (fu b (Mk b hb)) x,fun q hq h0=>?_,fun q cc be az hq h0=>?_⟩
  ·by_cases ib:q=n
   ·subst ib;refine⟨cO,?_⟩;simp only[cJ];exact⟨bq.symm,rfl,rfl,rfl,rfl⟩
   ·rw[dA _ _ _ _ ib] at h0;simp only[dA _ _ _ _ ib];exact⟨h0,trivial,trivial,trivial,trivial,trivial⟩
  ·by_cases ib:q=n
   ·subst ib;rw[cJ] at h0;injection h0 with h0;injection h0 with e1 e2 e3 e4;subst e1;subst e2;subst e3;rcases iv with⟨hm,_,hs,hso⟩|⟨hm,cF⟩
    ·subst hm;refine⟨⟨gr,xs,nV⟩,fun k' j pc pu hL=>?_⟩;simp only[cJ];refine⟨pc,?_,rfl,hL⟩;obtain⟨e1,he,hj⟩:=pu;by_cases qh:k'=k
     ·subst qh;rw[zi] at he;injection he with he;subst he;refine⟨E3,zaU qR,?_⟩;show(dz pe off cu)[j]? =some pc;rw[Ad Ei];rw[if_neg ?_]
      ·exact hj
      ·rintro⟨q1,q2⟩;have:=hold hso j pc q1 q2 hj;rw[PC.abv hL] at this;cases this
     ·exact⟨e1,by show((G.g q).px.set k E3)[k']? =some e1;rw[za1 (zaW qh)];exact he,hj⟩
    ·cases ow
     ·simp at cF
     ·simp at cF;exact absurd cF.symm hm
   ·rw[dA _ _ _ _ ib] at h0;simp only[dA _ _ _ _ ib];exact⟨⟨cc,az,h0⟩,fun k j pc h1 h2=>⟨pc,h1,rfl,h2⟩⟩
 have xI:∀b,fy w b->fy w2 b:=fun b hb=>O1 hg kc b hb;have Sa:m'≠ .aL->(∀b,bH b px'->fy w b/\(B<=b\/E b))/\kx px'/\(m'=.bc->∀b,bH b px'->Im' b)/\(m'=.live->∀b,bH b px'->bH b (G.g n).px)/\
   (∀q cc mo be az,q≠n->σ1.h q=some (.row cc mo be az)->mo≠ .aL->∀b,bH b px'->¬bH b (G.g q).px):=by
  intro kP;have eA:=hr.mode;rcases iv with⟨rfl,rfl,hs,hso⟩|⟨hm,cF⟩
  ·have ic:∀b,bH b px'->bH b (G.g n).px:=fun b hb=>(pq b hb).resolve_right (fun⟨i,c,hi,hb⟩=>lC hs i c b hi hb);refine⟨fun b hb=>(eA.1 b (ic b hb)).2,⟨fun k' j c pu=>?_,fun k1 j1 c1 k2 j2 c2 b h1 h2 aE hb=>?_⟩,(fun h=>by cases h),fun _=>ic,fun q cc mo be az ib hq mK b hb=>H0.iF n q gr .live rs xs cc mo be az nV hq (by simp) mK (zaW ib) b (ic b hb)⟩
   ·rcases cV k' j c pu with⟨_,_,_,hp⟩|⟨_,hp⟩
    ·exact Sep.Ig (fun b hb=>lC hs _ c b hp hb) (a3 c (zaa hp)).1
    ·exact eA.2.1 k' j c hp
   ·rcases cV k1 j1 c1 h1 with⟨_,_,_,hp⟩|⟨_,hp⟩
    ·exact absurd hb (lC hs _ c1 b hp)
    ·rcases cV k2 j2 c2 h2 with⟨_,_,_,bJ⟩|⟨_,bJ⟩
     ·exact lC hs _ c2 b bJ
     ·exact eA.2.2 k1 j1 c1 k2 j2 c2 b hp bJ aE hb
  ·cases ow
   ·simp at cF;exact absurd cF kP
   ·simp only[if_true] at cF a4;subst cF;have Mt:m'=.bc:=by cases m'<;>first|rfl|exact absurd rfl hm|exact absurd rfl kP
    subst Mt;refine⟨fun b hb=>?_,⟨fun k' j c pu=>?_,fun k1 j1 c1 k2 j2 c2 b h1 h2 aE hb=>?_⟩,fun _ b hb=>?_,(fun h=>by cases h),fun q cc mo be az ib hq mK b hb=>?_⟩
    ·rcases pq b hb with h1|⟨i,c,hi,h1⟩
     ·exact(eA.1 b h1).2
     ·exact((a4.tU i c hi).2 b h1).2
    ·rcases cV k' j c pu with⟨_,_,_,hp⟩|⟨_,hp⟩
     ·exact(a4.tU _ c hp).1
     ·exact eA.2.1 k' j c hp
    ·rcases cV k1 j1 c1 h1 with⟨e1,q1,q2,hp⟩|⟨_,hp⟩
     ·rcases cV k2 j2 c2 h2 with⟨e2,q3,q4,bJ⟩|⟨_,bJ⟩
      ·have kO:j1 - off≠j2 - off:=fun hh=>aE (by rw[e1,e2,show j1=j2 by omega]);exact a4.yk _ _ c1 c2 b kO hp bJ hb
      ·exact fun bB=>a4.tV _ c1 n gr .bc rs xs b hp nV (by simp) hb ⟨k2,j2,c2,bJ,bB⟩
     ·rcases cV k2 j2 c2 h2 with⟨e2,q3,q4,bJ⟩|⟨_,bJ⟩
      ·exact fun bB=>a4.tV _ c2 n gr .bc rs xs b bJ nV (by simp) bB ⟨k1,j1,c1,hp,hb⟩
      ·exact eA.2.2 k1 j1 c1 k2 j2 c2 b hp bJ aE hb
    ·rcases pq b hb with h1|⟨i,c,hi,h1⟩
     ·exact(eA.1 b h1).1
     ·exact Sb i c b hi h1
    ·rcases pq b hb with h1|⟨i,c,hi,h1⟩
     ·exact H0.iF n q gr .bc rs xs cc mo be az nV hq (by simp) mK (zaW ib) b h1
     ·exact a4.tV i c q cc mo be az b hi hq mK h1
 have Hn:HR B E w2 ⟨Im',aQ G.g n p'⟩ (aQ σ1.h n (some (.row gr m' rs (xs.set k (dz e off cs))))) σ.used []:=by
  refine H0.put (p:=p') (fun b hb aE=>fu b (aE rfl)) (by show w.heap.size<=w2.heap.size;rw[vg];exact zaq _) (fun b _ hb=>xI b hb) (fun _ h=>h) zm
   (fun _=>⟨xA,vQ,by show _<w2.heap.size;rw[vg];exact xB⟩)
   (fun _ q hq h0 qS=>(H0.inj q n h0 cO hq qS bq)) (fun _ q cc be az hq h0 b hb=>H0.live q cc be az h0 b hb n cO bq) (fun cs c q hb=>by cases hb) K2 ?_ ?_ ?_ (fun gr m sz xs _ _ i pc b hi=>by simp at hi) ?_
  ·refine⟨hr.pos,?_,(fun hl=>by cases hl),fun _=>⟨xI _ l1,gk,by show((G.g n).px.set k E3).length<=_;simpa using l3⟩,fun _ hgr=>?_,?_⟩
   ·show xs.set k (dz e off cs)=((G.g n).px.set k E3).map _;rw[List.map_set,<-hr.er];congr 1;show dz e off cs=(dz pe off cu).map PC.er;rw[Fu,zj,a1]
   ·obtain⟨r2,lT,e',r3,r4⟩:=hr.room bq hgr;rw[hg] at r3;injection r3 with r3;injection r3 with r3 _ _;subst r3;obtain⟨aiF,c1,c2⟩:=O0 (vs:=us) (o:=(G.g n).o+k*rs+off) hg kc;exact⟨r2,aiF,et,c1,by rw[c2];exact r4⟩
   ·show JS B E w2 ⟨Im',_⟩ px' m';by_cases kP:m'=.aL
    ·rw[kP];intro b hb;rcases pq b hb with h1|⟨i,c,hi,h1⟩
     ·have eA:=hr.mode;rcases iv with⟨_,h2,_⟩|⟨hm,_⟩
      ·rw[kP] at h2;cases h2
      ·cases m with
       |aL=>exact eA b h1
       |bc=>exact(eA.1 b h1).1
       |live=>exact absurd rfl hm
     ·exact Sb i c b hi h1
    ·obtain⟨o1,o2,o3,o4,o5⟩:=Sa kP;cases m' with
     |aL=>exact absurd rfl kP
     |bc=>exact⟨fun b hb=>⟨o3 rfl b hb,xI b (o1 b hb).1,(o1 b hb).2⟩,o2⟩
     |live=>
      refine⟨fun b hb=>⟨?_,xI b (o1 b hb).1,(o1 b hb).2⟩,o2⟩;have eA:=hr.mode;rcases iv with⟨hm,_,_⟩|⟨hm,cF⟩
      ·subst hm;exact(eA.1 b (o4 rfl b hb)).1
      ·cases ow
       ·simp at cF
       ·simp at cF;exact absurd cF.symm hm
  ·intro cc m2 be az hb kP q DZ mo od ld ib hq mK b d7;injection hb with _ hb _ _;subst hb;exact(Sa kP).2.2.2.2 q DZ mo od ld ib hq mK b d7
  ·intro cc be az hb b d7;injection hb with _ hb _ _;subst hb;have ic:=(Sa (by simp)).2.2.2.1 rfl b d7;have hm:m=.live:=by
    rcases iv with⟨hm,_,_⟩|⟨hm,cF⟩
    ·exact hm
    ·cases ow
     ·simp at cF
     ·simp at cF;exact absurd cF.symm hm
   subst hm;exact⟨fun _=>H0.live n gr rs xs nV b ic n cO bq,fun q ib hq Si=>H0.live n gr rs xs nV b ic q hq Si⟩
  ·intro _ _ b hb;obtain⟨q,cc,mo,be,az,hq,h0,d7⟩:=hb;exact H0.y4 cO bq h0 d7
 refine⟨⟨Im',aQ G.g n p'⟩,?_⟩;exact r.step (σ':=σ1.fx n (.row gr m' rs (xs.set k (dz e off cs)))) a6 (fun q hq=>by show σ1.used q=true;rw[a7];exact hq)
  (bW.trans (u2:=fun n=>σ.used n=true) (fun _ h=>h) a5 K2) (by show HR B E w2 _ (aQ σ1.h n _) σ1.used [];rw[a7];exact Hn) (r.fr.one vQ (fun b hb aE=>fu b aE) (by show w.heap.size<=w2.heap.size;rw[vg];exact zaq _) (Jf hg kc) rfl rfl rfl)
end
section
variable {B:Nat} {E:Ex} {w0 w w':World} {G G':Gh} {h h':Nat->Option av} {used used':Nat->Bool} {tk:List PC} {N:Nat}
variable {P:Program} {o:Oper} {a:Act} {σ σ':St} {Q:Exit->Act->World->Prop}
theorem RA.c {x:C} {v:Value} (hv:RA w G h (.one (.c x)) v):∃pc:PC,pc.er=x/\pc.val=v/\Good w pc/\∀b,bD b pc->G.Im b:=(hv.iV (by simp)).1
theorem RA.Ez {k:IntKind} {n:Int} {v:Value} (hv:RA w G h (.one (.c (.int k n))) v):v=.int k n:=by
 obtain⟨pc,h1,h2,_⟩:=hv.c;cases pc<;>simp[PC.er] at h1
 obtain⟨rfl,rfl⟩:=h1;exact h2.symm
theorem RA.Ds {b:Bool} {v:Value} (hv:RA w G h (.one (.c (.bool b))) v):v=.bool b:=by
 obtain⟨pc,h1,h2,_⟩:=hv.c;cases pc<;>simp[PC.er] at h1
 subst h1;exact h2.symm
theorem RA.of_int (k:IntKind) (n:Int):RA w G h (.one (.c (.int k n))) (.int k n):=RA.il rfl ⟨.int k n,rfl,rfl,.int _ _,fun b hb=>by cases hb⟩
theorem RA.of_bool (b:Bool):RA w G h (.one (.c (.bool b))) (.bool b):=RA.il rfl ⟨.bool b,rfl,rfl,.bool _,fun b hb=>by cases hb⟩
theorem wk {x:C} {m:Nat}:¬(ao.one (.c x)).ref m:=fun h=>h
theorem j9 (r:R B E w0 N σ a w G) {x:ao} {v:Value} (cP:(execOp a.eval o).run P w=.ok (.value v) w) (hv:RA w G σ.h x v) (hr:∀m,x.ref m->σ.used m=true) (hN:∀n,o.dst=some n->n<N):
  o.wp P a w (Nx B E w0 N (σ.put o.dst x)) Q:=Ao cP ⟨G,r.put hv hr hN⟩
theorem Zg (r:R B E w0 N σ a w G) {x:Operand} {m:MO} (ho:o.op=.move x\/o.op=.assign x) (hN:∀n,o.dst=some n->n<N) (hm:cQ x m=true):
  o.wp P a w (Nx B E w0 N (σ.put o.dst (σ.ev m))) Q:=by
 obtain⟨h1,h2⟩:=r.ev hm;refine j9 r ?_ h1 h2 hN;rcases ho with ho|ho<;>simp[execOp,ho]
theorem ajI (r:R B E w0 N σ a w G) {c x y:Operand} {mc mx my:MO} {b:Bool} (ho:o.op=.pick c x y) (hN:∀n,o.dst=some n->n<N) (hc:cQ c mc=true) (hx:cQ x mx=true) (hy:cQ y my=true)
  (hb:σ.ev mc=.one (.c (.bool b))):o.wp P a w (Nx B E w0 N (σ.put o.dst (if b=true then σ.ev mx else σ.ev my))) Q:=by
 obtain⟨h1,_⟩:=r.ev hc;rw[hb] at h1;have hv:=h1.Ds;obtain⟨x1,x2⟩:=r.ev hx;obtain⟨y1,y2⟩:=r.ev hy;refine j9 r (v:=if b=true then a.eval x else a.eval y) ?_ ?_ ?_ hN
 ·simp only[execOp,ho,hv,asBool];cases b<;>simp
 ·cases b
  ·exact y1
  ·exact x1
 ·cases b
  ·exact y2
  ·exact x2
theorem as5 {op:BinOp} {k:IntKind} {n m:Int} {c:C} {t:TypeId} (hs:BinOp.BN op=false) (hx:Dr op k n m=some c):∃v,(binOp op t (.int k n) (.int k m)).run P w=.ok v w/\RA w G h (.one (.c c)) v:=by
 cases op with
 |add=>injection hx with hx;subst hx;exact⟨_,by simp[binOp,Op.intArith],RA.of_int _ _⟩
 |sub=>injection hx with hx;subst hx;exact⟨_,by simp[binOp,Op.intArith],RA.of_int _ _⟩
 |mul=>injection hx with hx;subst hx;exact⟨_,by simp[binOp,Op.intArith],RA.of_int _ _⟩
 |and=>injection hx with hx;subst hx;exact⟨_,by simp[binOp,intBits_and],RA.of_int _ _⟩
 |or=>injection hx with hx;subst hx;exact⟨_,by simp[binOp,intBits_or],RA.of_int _ _⟩
 |xor=>injection hx with hx;subst hx;exact⟨_,by simp[binOp,intBits_xor],RA.of_int _ _⟩
 |eql=>injection hx with hx;subst hx;exact⟨_,by simp[binOp,Op.intCmp],RA.of_bool _⟩
 |neq=>injection hx with hx;subst hx;exact⟨_,by simp[binOp,Op.intCmp],RA.of_bool _⟩
 |lss=>injection hx with hx;subst hx;exact⟨_,by simp[binOp,Op.intCmp],RA.of_bool _⟩
 |leq=>injection hx with hx;subst hx;exact⟨_,by simp[binOp,Op.intCmp],RA.of_bool _⟩
 |gtr=>injection hx with hx;subst hx;exact⟨_,by simp[binOp,Op.intCmp],RA.of_bool _⟩
 |geq=>injection hx with hx;subst hx;exact⟨_,by simp[binOp,Op.intCmp],RA.of_bool _⟩
 |quo=>
  simp only[Dr] at hx;split at hx
  ·cases hx
  ·rename_i h0;injection hx with hx;subst hx;exact⟨_,by simp[binOp,Op.intDiv,h0],RA.of_int _ _⟩
 |rem=>
  simp only[Dr] at hx;split at hx
  ·cases hx
  ·rename_i h0;injection hx with hx;subst hx;exact⟨_,by simp[binOp,Op.intDiv,h0],RA.of_int _ _⟩
 |shl=>simp[BinOp.BN] at hs
 |shr=>simp[BinOp.BN] at hs
 |andNot=>cases hx
theorem as9 {op:BinOp} {k k':IntKind} {n m:Int} {c:C} {t:TypeId} (hs:BinOp.BN op=true) (hx:IA op k n m=some c):∃v,(binOp op t (.int k n) (.int k' m)).run P w=.ok v w/\RA w G h (.one (.c c)) v:=by
 unfold IA at hx;split at hx
 ·cases hx
 ·rename_i h0;cases op<;>simp[BinOp.BN] at hs
  ·injection hx with hx;subst hx;exact⟨_,by simp[binOp,Op.shift,h0],RA.of_int _ _⟩
  ·injection hx with hx;subst hx;have hp:(0:Int)<=2^min m.toNat k.bits:=Int.le_of_lt (Int.pow_pos (by decide));exact⟨_,by simp[binOp,Op.shift,h0,Int.fdiv_eq_ediv_of_nonneg _ hp],RA.of_int _ _⟩
theorem aer (op:BinOp) (t:TypeId) (x y:Operand) (k k':IntKind) (n m:Int):(eqGuard op t x y (.int k n) (.int k' m)).run P w=.ok () w:=by
 cases op<;>simp[eqGuard]
theorem aeq (op:BinOp) (t:TypeId) (x y:Operand) (n m:Bool):(eqGuard op t x y (.bool n) (.bool m)).run P w=.ok () w:=by
 cases op<;>simp[eqGuard]
theorem ajg (r:R B E w0 N σ a w G) {op:BinOp} {t t':TypeId} {x y:Operand} {mx my:MO} {c:C} (ho:o.op=.binOp op t x y t') (hN:∀n,o.dst=some n->n<N) (hx:cQ x mx=true) (hy:cQ y my=true)
  (hb:yP op (σ.ev mx) (σ.ev my)=some c):o.wp P a w (Nx B E w0 N (σ.put o.dst (.one (.c c)))) Q:=by
 obtain⟨x1,_⟩:=r.ev hx;obtain⟨y1,_⟩:=r.ev hy;unfold yP at hb;split at hb
 ·rename_i k n k' m e1 e2;rw[e1] at x1;rw[e2] at y1;have mN:=x1.Ez;have zn:=y1.Ez;split at hb
  ·rename_i hs;obtain⟨v,h1,h2⟩:=as9 (P:=P) (w:=w) (G:=G) (h:=σ.h) (k':=k') (t:=t) hs hb;exact j9 r (by simp only[execOp,ho,mN,zn];simp[aer,h1]) h2 (fun q hq=>absurd hq wk) hN
  ·rename_i hs;split at hb
   ·rename_i hk;subst hk;obtain⟨v,h1,h2⟩:=as5 (P:=P) (w:=w) (G:=G) (h:=σ.h) (t:=t) (by simpa using hs) hb;exact j9 r (by simp only[execOp,ho,mN,zn];simp[aer,h1]) h2 (fun q hq=>absurd hq wk) hN
   ·cases hb
 ·cases hb
theorem ajh (r:R B E w0 N σ a w G) {op:BinOp} {t t':TypeId} {x y:Operand} {mx my:MO} {c:C} (ho:o.op=.binOp op t x y t') (hN:∀n,o.dst=some n->n<N) (hx:cQ x mx=true) (hy:cQ y my=true)
  (ht:P.underlying t=some .bool) (hb:Dq op (σ.ev mx) (σ.ev my)=some c):o.wp P a w (Nx B E w0 N (σ.put o.dst (.one (.c c)))) Q:=by
 obtain⟨x1,_⟩:=r.ev hx;obtain⟨y1,_⟩:=r.ev hy;unfold Dq at hb;split at hb
 ·rename_i n m e1 e2;rw[e1] at x1;rw[e2] at y1;have mN:=x1.Ds;have zn:=y1.Ds;have gh:(Op.equal t (.bool n) (.bool m)).run P w=.ok (n==m) w:=run_equal_bool w t n m ht;split at hb
  ·injection hb with hb;subst hb;exact j9 r (by simp only[execOp,ho,mN,zn];simp[aeq,binOp,gh]) (RA.of_bool _) (fun q hq=>absurd hq wk) hN
  ·injection hb with hb;subst hb;exact j9 r (by simp only[execOp,ho,mN,zn];simp[aeq,binOp,gh,bne]) (RA.of_bool _) (fun q hq=>absurd hq wk) hN
  ·cases hb
 ·cases hb
theorem ajM (r:R B E w0 N σ a w G) {op:UnOp} {t:TypeId} {x:Operand} {mx:MO} {c:C} (ho:o.op=.unOp op t x) (hN:∀n,o.dst=some n->n<N) (hx:cQ x mx=true)
  (hb:FH op (σ.ev mx)=some c):o.wp P a w (Nx B E w0 N (σ.put o.dst (.one (.c c)))) Q:=by
 obtain⟨x1,_⟩:=r.ev hx;unfold FH at hb;split at hb
 ·rename_i n e1;rw[e1] at x1;have mN:=x1.Ds;split at hb
  ·injection hb with hb;subst hb;exact j9 r (by simp only[execOp,ho,mN];simp[Op.unary]) (RA.of_bool _) (fun q hq=>absurd hq wk) hN
  ·cases hb
 ·rename_i k n e1;rw[e1] at x1;have mN:=x1.Ez;split at hb
  ·injection hb with hb;subst hb;exact j9 r (by simp only[execOp,ho,mN];simp[Op.unary,Op.intArith]) (RA.of_int _ _) (fun q hq=>absurd hq wk) hN
  ·cases hb
 ·cases hb
theorem ajr (r:R B E w0 N σ a w G) {t u:TypeId} {x:Operand} {mx:MO} {k k':IntKind} {n:Int} {d:TypeDesc} (ho:o.op=.convert t u x) (hN:∀n,o.dst=some n->n<N) (hx:cQ x mx=true)
  (ht:P.underlying t=some d) (hu:P.underlying u=some (.int k)) (hb:σ.ev mx=.one (.c (.int k' n))):o.wp P a w (Nx B E w0 N (σ.put o.dst (.one (.c (.int k (k.wrap n)))))) Q:=by
 obtain⟨x1,_⟩:=r.ev hx;rw[hb] at x1;have mN:=x1.Ez;refine j9 r ?_ (RA.of_int _ _) (fun q hq=>absurd hq wk) hN;simp only[execOp,ho,mN];cases d<;>simp[convert,run_underlying ht,run_underlying hu,Conv.intToInt]
def Lq (P:Program) (s:TypeId) (f off:Nat):Bool:=
 match P.underlying s with
 |some (.struct yY)=>match yY[f]? with
  |some fd=>(fd.offset==off)&&(match P.info? fd.type with|some i=>i.size !=0|none=>false)
  |none=>false
 |_=>false
theorem VF {s:TypeId} {f off:Nat} (hc:Lq P s f off=true) (b o:Nat):(Instr.fieldAt s (.pointer (some (ad b o))) f).run P w=.ok (.pointer (some (ad b (o+off)))) w:=by
 unfold Lq at hc;split at hc
 ·rename_i yY hu;split at hc
  ·rename_i fd hf;split at hc
   ·rename_i i hi;simp at hc;obtain⟨rfl,cX⟩:=hc;simp[Instr.fieldAt,run_underlying hu,hf,Instr.sureAddr,fieldPlace,sizeOf,typeInfo,hi,cX,ud]
   ·simp at hc
  ·cases hc
 ·cases hc
theorem QH (r:R B E w0 N σ a w G) {s:TypeId} {f off:Nat} {x:Operand} {mx:MO} {y:ao} (ho:o.op=.fieldAddr s x f) (hN:∀n,o.dst=some n->n<N) (hx:cQ x mx=true) (hc:Lq P s f off=true)
  (hy:(∃n k sz q,σ.ev mx=.one (.ptr n k sz q)/\(σ.h n).isSome=true/\y=.one (.ptr n k sz (q+off)))\/(∃xs q,σ.ev mx=.one (.dr xs q)/\y=.one (.dr xs (q+off)))\/(∃xs q j n s len,σ.ev mx=.one (.cN xs q j n s len)/\y=.one (.cN xs (q+off) j n s len))):
  o.wp P a w (Nx B E w0 N (σ.put o.dst y)) Q:=by
 obtain⟨x1,x2⟩:=r.ev hx;rcases hy with⟨n,k,sz,q,e1,hs,rfl⟩|⟨xs,q,e1,rfl⟩|⟨xs,q,j,n,s',len,e1,rfl⟩
 ·rw[e1] at x1 x2;have hp:σ.h n≠none:=by intro hh;rw[hh] at hs;cases hs
  obtain⟨h1,h2⟩:=(x1.iV (by simp)).1 hp;refine j9 r (v:=.pointer (some (ad (G.g n).b ((G.g n).o+k*sz+q+off)))) ?_ ?_ (fun m hm=>x2 m hm) hN
  ·simp only[execOp,ho,h2];simp[VF hc]
  ·exact RA.il rfl fun _=>⟨h1,by rw[zam]⟩
 ·rw[e1] at x1;obtain⟨b,o',pe,p1,p2,p3,p4⟩:=(x1.iV (by simp)).1;refine j9 r (v:=.pointer (some (ad b (o'+q+off)))) ?_ ?_ (fun m hm=>absurd hm (by simp[ao.ref,aj.ref,aj.kq])) hN
  ·simp only[execOp,ho,p1];simp[VF hc]
  ·exact RA.il rfl ⟨b,o',pe,by rw[zam],p2,p3,p4⟩
 ·rw[e1] at x1 x2;obtain⟨b,o',pe,p1,p2,p3,p4,p5⟩:=(x1.iV (by simp)).1;refine j9 r (v:=.pointer (some (ad b (o'+q+off)))) ?_ ?_ (fun m hm=>x2 m hm) hN
  ·simp only[execOp,ho,p1];simp[VF hc]
  ·exact RA.il rfl ⟨b,o',pe,by rw[zam],p2,p3,p4,p5⟩
theorem QI (r:R B E w0 N σ a w G) {x:Operand} {mx:MO} (ho:o.op=.nilCheck x) (hN:∀n,o.dst=some n->n<N) (hx:cQ x mx=true)
  (hy:(∃n k sz q,σ.ev mx=.one (.ptr n k sz q)/\(σ.h n).isSome=true)\/(∃xs q,σ.ev mx=.one (.dr xs q))\/(∃xs q j n s len,σ.ev mx=.one (.cN xs q j n s len))):
  o.wp P a w (Nx B E w0 N (σ.put o.dst (σ.ev mx))) Q:=by
 obtain⟨x1,x2⟩:=r.ev hx;have hp:∃ad,a.eval x=.pointer (some ad):=by
  rcases hy with⟨n,k,sz,q,e1,hs⟩|⟨xs,q,e1⟩|⟨xs,q,j,n,s',len,e1⟩
  ·rw[e1] at x1;have hp:σ.h n≠none:=by intro hh;rw[hh] at hs;cases hs
   exact⟨_,((x1.iV (by simp)).1 hp).2⟩
  ·rw[e1] at x1;obtain⟨b,o',pe,p1,_⟩:=(x1.iV (by simp)).1;exact⟨_,p1⟩
  ·rw[e1] at x1;obtain⟨b,o',pe,p1,_⟩:=(x1.iV (by simp)).1;exact⟨_,p1⟩
 obtain⟨adr,hp⟩:=hp;exact j9 r (v:=a.eval x) (by simp only[execOp,ho,hp];simp) x1 x2 hN
theorem ajy (r:R B E w0 N σ a w G) {x:Operand} {mx:MO} {i:Nat} {xs:List (Bool×List aj)} {ag:Bool} {cs:List aj} (ho:o.op=.extract x i) (hN:∀n,o.dst=some n->n<N) (hx:cQ x mx=true)
  (h1:σ.ev mx=.cf xs) (h2:xs[i]? =some (ag,cs)) (h3:ag=false->∃c,cs=[c]):o.wp P a w (Nx B E w0 N (σ.put o.dst (pT ag cs))) Q:=by
 obtain⟨x1,x2⟩:=r.ev hx;rw[h1] at x1 x2;obtain⟨vs,e,hl,hv⟩:=x1;have hi:i<vs.length:=by rw[hl];exact(zab.1 h2).1
 have Sq:vs[i]? =some vs[i]:=zac hi;have hrv:=hv i _ _ h2 Sq;refine j9 r (v:=vs[i]) ?_ ?_ (fun m hm=>?_) hN
 ·simp only[execOp,ho,e];simp[Instr.extract,hi]
 ·cases ag
  ·obtain⟨c,rfl⟩:=h3 rfl;exact .inr hrv
  ·exact hrv
 ·cases ag
  ·obtain⟨c,rfl⟩:=h3 rfl;exact x2 m ⟨_,zaa h2,c,by simp,hm⟩
  ·obtain⟨c,hc,hm⟩:=hm;exact x2 m ⟨_,zaa h2,c,hc,hm⟩
theorem ajD (r:R B E w0 N σ a w G) {mx':Bool} {x y:Operand} {mx my:MO} {k k':IntKind} {n m:Int} {ts:Array TypeId} (ho:o.op=.call {callee:=.builtin (if mx'=true then .max else .min),args:=#[x,y],argTypes:=ts})
  (hN:∀n,o.dst=some n->n<N) (hx:cQ x mx=true) (hy:cQ y my=true) (h1:σ.ev mx=.one (.c (.int k n))) (h2:σ.ev my=.one (.c (.int k' m))):
  o.wp P a w (Nx B E w0 N (σ.put o.dst (.one (.c (.int k (if mx'=true then(if n<m then m else n) else(if m<n then m else n))))))) Q:=by
 obtain⟨x1,_⟩:=r.ev hx;obtain⟨y1,_⟩:=r.ev hy;rw[h1] at x1;rw[h2] at y1;have mN:=x1.Ez;have zn:=y1.Ez;refine j9 r ?_ (RA.of_int _ _) (fun q hq=>absurd hq wk) hN;cases mx'
 ·simp[execOp,ho,resolve,invoke,builtin,Builtin.min_,mN,zn,Builtin.min2]
 ·simp[execOp,ho,resolve,invoke,builtin,Builtin.max_,mN,zn,Builtin.max2]
end
theorem yO {α:Type} {px py:List (List α)} {k j:Nat} {c:α} (h:At (px++py) k j c):(k<px.length/\At px k j c)\/(px.length<=k/\At py (k - px.length) j c):=by
 obtain⟨e,he,hj⟩:=h;rcases zbm k px.length with hk|hk
 ·rw[zaf hk] at he;exact .inl ⟨hk,e,he,hj⟩
 ·rw[zag hk] at he;exact .inr ⟨hk,e,he,hj⟩
theorem x7 {b:Nat} {px py:List (List PC)} (h:bH b (px++py)):bH b px\/bH b py:=by
 obtain⟨k,j,c,hk,hb⟩:=h;rcases yO hk with⟨_,h1⟩|⟨_,h1⟩
 ·exact .inl ⟨_,_,_,h1,hb⟩
 ·exact .inr ⟨_,_,_,h1,hb⟩
theorem N0 {px py:List (List PC)} (h1:kx px) (h2:kx py) (h3:∀b,bH b px->¬bH b py):kx (px++py):=by
 refine⟨fun k j c hk=>?_,fun k j c k' j' c' b hk dj aE hb bB=>?_⟩
 ·rcases yO hk with⟨_,h⟩|⟨_,h⟩
  ·exact h1.1 _ _ _ h
  ·exact h2.1 _ _ _ h
 ·rcases yO hk with⟨q,h⟩|⟨q,h⟩<;>rcases yO dj with⟨q',h'⟩|⟨q',h'⟩
  ·exact h1.2 _ _ _ _ _ _ b h h' aE hb bB
  ·exact h3 b ⟨_,_,_,h,hb⟩ ⟨_,_,_,h',bB⟩
  ·exact h3 b ⟨_,_,_,h',bB⟩ ⟨_,_,_,h,hb⟩
  ·refine h2.2 _ _ _ _ _ _ b h h' (fun e=>aE ?_) hb bB;injection e with e1 e2;rw[show k=k' by omega,e2]
section
variable {B:Nat} {E:Ex} {w0 w w':World} {G G':Gh} {h h':Nat->Option av} {used used':Nat->Bool} {tk:List PC} {N:Nat}
variable {P:Program} {o:Oper} {a:Act} {σ σ':St} {Q:Exit->Act->World->Prop}
theorem Fg {py:List (List PC)} (hs:jv (py.map fun e=>e.map PC.er)=true) (b:Nat):¬bH b py:=by
 rintro⟨k,j,c,⟨e,he,hj⟩,hb⟩;have h1:e.map PC.er∈py.map fun e=>e.map PC.er:=zaJ (f:=fun e=>e.map PC.er) (zaa he);have h2:=zan.1 hs _ h1;have h3:=zan.1 h2 c.er (zaJ (zaa hj));exact(Sep.n9 (pc:=c) h3).2 b hb
structure oY (B:Nat) (E:Ex) (w:World) (G:Gh) (h:Nat->Option av) (sz:Nat) (m:Mode) (px:List (List PC)):Prop where
 len:∀e∈px,e.length=sz
 gx:∀k j c,At px k j c->Good w c
 mode:JS B E w G px m
 iF:m≠ .aL->∀n gr m' be az,h n=some (.row gr m' be az)->m'≠ .aL->∀b,bH b px->¬bH b (G.g n).px
 live:m=.live->∀b,bH b px->∀n,h n≠none->(G.g n).nl=false->b≠(G.g n).b
theorem oY.XT {m:Mode} {sz:Nat} {px py:List (List PC)} (F:oY B E w G h sz m px) (hl:∀e∈py,e.length=sz) (hg:∀k j c,At py k j c->Good w c) (dF:∀b,¬bH b py):oY B E w G h sz m (px++py):=by
 have ic:∀b,bH b (px++py)->bH b px:=fun b hb=>(x7 hb).resolve_right (dF b);refine⟨fun e he=>(zav.1 he).elim (F.len e) (hl e),fun k j c hk=>?_,?_,fun hm n gr m' be az hn cF b hb=>F.iF hm n gr m' be az hn cF b (ic b hb),fun hm b hb=>F.live hm b (ic b hb)⟩
 ·rcases yO hk with⟨_,h⟩|⟨_,h⟩
  ·exact F.gx _ _ _ h
  ·exact hg _ _ _ h
 ·have nq:kx py:=⟨fun k j c hk=>Sep.Ig (fun b hb=>dF b ⟨k,j,c,hk,hb⟩) (hg k j c hk),fun k j c k' j' c' b hk _ _ hb=>absurd ⟨k,j,c,hk,hb⟩ (dF b)⟩;have hm:=F.mode;cases m with
  |aL=>exact fun b hb=>hm b (ic b hb)
  |bc=>exact⟨fun b hb=>hm.1 b (ic b hb),N0 hm.2 nq (fun b _=>dF b)⟩
  |live=>exact⟨fun b hb=>hm.1 b (ic b hb),N0 hm.2 nq (fun b _=>dF b)⟩
theorem oY.ady (H:HR B E w G h used []) {n:Nat} {gr:Bool} {m:Mode} {sz:Nat} {xs:List (List C)} (hn:h n=some (.row gr m sz xs)):oY B E w G (aQ h n none) sz m (G.g n).px:=by
 have hr:=H.row n gr m sz xs hn;have bq:(G.g n).px≠[]->(G.g n).nl=false:=fun aE=>by
  cases hq:(G.g n).nl with
  |false=>rfl
  |true=>exact absurd (hr.nl hq).1 aE
 refine⟨fun e he=>(hr.fN (bq (za9 he))).2.1.1 e he,fun k j c hk=>?_,hr.mode,fun hm q cc m' be az hq cF b hb=>?_,fun hm b hb q hq hl=>?_⟩
 ·have aE:(G.g n).px≠[]:=by obtain⟨e,he,_⟩:=hk;exact za9 (zaa he)
  exact(hr.fN (bq aE)).2.1.2.2 k j c hk
 ·obtain⟨q1,q2⟩:=ur hq;exact H.iF n q gr m sz xs cc m' be az hn q1 hm cF (zaW q2) b hb
 ·subst hm;obtain⟨q1,q2⟩:=Gk hq;exact H.live n gr sz xs hn b hb q q1 hl
theorem oY.del {m:Mode} {sz:Nat} {px:List (List PC)} (F:oY B E w G h sz m px) (n:Nat):oY B E w G (aQ h n none) sz m px:=
 ⟨F.len,F.gx,F.mode,fun hm q gr m' be az hq cF=>F.iF hm q gr m' be az (ur hq).1 cF,fun hm b hb q hq=>F.live hm b hb q (Gk hq).1⟩
theorem oY.WS {m:Mode} {sz:Nat} {px:List (List PC)} (F:oY B E w G h sz m px) (hm:m≠ .live):∀b,bH b px->G.Im b:=by
 intro b hb;have:=F.mode;cases m with
 |aL=>exact this b hb
 |bc=>exact(this.1 b hb).1
 |live=>exact absurd rfl hm
def AE (B:Nat) (E:Ex) (w:World) (G:Gh) (h:Nat->Option av) (sz:Nat) (m:Mode) (px:List (List PC)) (v:Value):Prop:=
 (∃a,v=.slice a 0 0/\px=[])\/
 ∃b o cap cur e,v=.slice (some (ad b o)) px.length cap/\w.heap[b]? =some (.cells cur e (0,0))/\cur.size=o+cap*sz/\cap<=maxLen/\px.length<=cap/\ry w b o sz px/\
  ru G h b/\(B<=b\/E b)/\(∀b',bH b' px->b'≠b)
theorem AE.del {m:Mode} {sz:Nat} {px:List (List PC)} {v:Value} (L:AE B E w G h sz m px v) (n:Nat):AE B E w G (aQ h n none) sz m px v:=by
 rcases L with h1|⟨b,o,cap,cur,e,a1,a2,a3,a4,a5,a6,⟨l1,l2,l3⟩,a8,a9⟩
 ·exact .inl h1
 ·exact .inr ⟨b,o,cap,cur,e,a1,a2,a3,a4,a5,a6,⟨l1,fun q hq=>l2 q (Gk hq).1,fun q gr m sz xs hq=>l3 q gr m sz xs (ur hq).1⟩,a8,a9⟩
theorem QT {px:List (List PC)} {sz:Nat} (hl:∀e∈px,e.length=sz):(px.flatten.map PC.val).length=px.length*sz:=by
 induction px with
 |nil=>simp
 |cons e px ih=>
  have:=ih (fun e he=>hl e (by simp[he]));simp only[zaA,zaK,zaF,zaC,zai,this,zaz] at*
  rw[hl e (by simp)];omega
theorem QS {α:Type} {sz:Nat} (cX:0<sz):∀{px:List (List α)} (_:∀e∈px,e.length=sz) {i:Nat} {c:α},px.flatten[i]? =some c->∃k j,At px k j c/\i=k*sz+j
 |[],_,i,c,hi=>by simp at hi
 |e::px,hl,i,c,hi=>by
  have h0:=hl e (by simp);simp only[zaA] at hi;rcases zbm i e.length with cD|G6
  ·rw[zaf cD] at hi;exact⟨0,i,⟨e,rfl,hi⟩,by omega⟩
  ·rw[zag G6] at hi;obtain⟨k,j,⟨e',he,hj⟩,hk⟩:=QS cX (px:=px) (fun e he=>hl e (by simp[he])) hi;exact⟨k+1,j,⟨e',by simpa using he,hj⟩,by rw[zai];omega⟩
theorem as4 {t ty e e':TypeId} {i:TypeInfo} (ht:P.underlying t=some (.slice e)) (hi:P.info? e=some i)
  (g og zZ VJ:Nat) (cur:Array Value) (hg:w.heap[g]? =some (.cells cur e' (0,0)))
  (a:Addr) (m c:Nat) (kU:List Value) (hl:kU.length=m*i.size) (zg:∀j u,kU[j]? =some u->w.cell? (a.add j)=some u) (h1:∀u∈kU,u.oneCell'=true)
  (Hi:zZ+m<=VJ) (kc:og+zZ*i.size+kU.length<=cur.size):
  (Builtin.append_ #[t,t] ty #[.slice (some (ad g og)) zZ VJ,.slice (some a) m c]).run P w=.ok (.slice (some (ad g og)) (zZ+m) VJ) (iZ w g (og+zZ*i.size) kU cur):=by
 have hf:=run_firstCells_some (P:=P) w i.size m a m c kU hl zg;have kQ:=run_storeCells_at P g (og+zZ*i.size) e' kU 0 cur w hg (by simpa using kc) h1;simp only[zaN] at kQ;have ha:(ad g og).add (zZ*i.size)=⟨g,og+zZ*i.size,none⟩:=by rw[ud];simp[ad]
 simp[Builtin.append_,run_underlying ht,sizeOf,typeInfo,hi,Builtin.lenOf,Hi,hf,ha,kQ,iZ]
theorem as3 (w:World) {t e:TypeId} {i:TypeInfo} {z:Value} {ty:TypeId} {sz by_:Nat} (ht:P.underlying t=some (.slice e)) (hi:P.info? e=some i) (hz:i.zero=some z) (cX:i.size=sz) (mb:0<sz) (qN:i.bytes=by_) (Bj:0<by_)
  {m:Mode} {px:List (List PC)} {v:Value} (jk:∀e∈px,e.length=sz) (L:AE B E w G h sz m px v) {kU:List Value} {k c:Nat} {ya:Option Addr} (bq:kU.length=k*sz)
  (hy:(ya=none/\k=0)\/∃ay,ya=some ay/\∀(j:Nat) (u:Value),kU[j]? =some u->w.cell? (ay.add j)=some u) (h1:∀u∈kU,u.oneCell'=true) (hb:(px.length+k)*by_<=fe):
  (∃a,k=0/\v=.slice a 0 0/\px=[]/\(Builtin.append_ #[t,t] ty #[v,.slice ya k c]).run P w=.ok (.slice a 0 0) w)\/
  (∃b o cap cur e',v=.slice (some (ad b o)) px.length cap/\w.heap[b]? =some (.cells cur e' (0,0))/\cur.size=o+cap*sz/\cap<=maxLen/\px.length+k<=cap/\ry w b o sz px/\ru G h b/\(B<=b\/E b)/\(∀b',bH b' px->b'≠b)/\
   (Builtin.append_ #[t,t] ty #[v,.slice ya k c]).run P w=.ok (.slice (some (ad b o)) (px.length+k) cap) (iZ w b (o+px.length*sz) kU cur))\/
  (∃(cap:Nat) (arr:Array Value),px.length+k<=cap/\cap<=maxLen/\arr.size=cap*z.cells.size+(px.length+k)*sz - (px.length+k)*z.cells.size/\(∀(q:Nat) (u:Value),(px.flatten.map PC.val++kU)[q]? =some u->arr[q]? =some u)/\
   (Builtin.append_ #[t,t] ty #[v,.slice ya k c]).run P w=.ok (.slice (some (ad w.heap.size 0)) (px.length+k) cap) (w.drew.alloc (.cells arr e))):=by
 have Bt:px.length+k<=fe:=zaG (zaE _ Bj) hb;have kP:(fe:Nat)=140737488355328:=rfl;have Rw:∀gW,grownCap w (px.length+k) gW e<=maxLen:=fun gW=>grownCap_le_maxLen w _ gW e (by simp only[maxLen];omega);have hol:=QT jk;have xl:∀gW,((px.flatten.map PC.val).toArray++kU.toArray++Builtin.zeroCells z.cells (grownCap w (px.length+k) gW e - (px.length+k))).size=grownCap w (px.length+k) gW e*z.cells.size+(px.length+k)*sz - (px.length+k)*z.cells.size:=by
  intro gW;have G6:=grownCap_ge w (px.length+k) gW e;have h2:(px.length+k)*z.cells.size<=grownCap w (px.length+k) gW e*z.cells.size:=zah _ G6;simp only[zbd,zaQ,size_zeroCells,hol,bq,Nat.sub_mul,zai] at*
  omega
 have nj:∀gW (q:Nat) (u:Value),(px.flatten.map PC.val++kU)[q]? =some u->((px.flatten.map PC.val).toArray++kU.toArray++Builtin.zeroCells z.cells (grownCap w (px.length+k) gW e - (px.length+k)))[q]? =some u:=by
  intro gW q u hq;have Si:=(zab.1 hq).1;rw[Array.getElem?_append_left (by simp only[zbd,zaQ];simpa using Si)];simpa using hq
 rcases L with⟨a,rfl,rfl⟩|⟨b,o,cap,cur,e',rfl,a2,a3,a4,a5,a6,a7,a8,a9⟩
 ·by_cases hk:k=0
  ·subst hk;left;have hn:kU=[]:=zae (by simpa using bq);refine⟨a,rfl,rfl,rfl,?_⟩;cases ya<;>cases a<;>simp[Builtin.append_,run_underlying ht,sizeOf,typeInfo,hi,Builtin.lenOf,Builtin.firstCells,loadCells,loadCellsFrom,storeCells]
  ·rcases hy with⟨_,h0⟩|⟨ay,rfl,zg⟩
   ·exact absurd h0 hk
   right;right;cases a with
   |none=>
    have hr:=run_append_nil (P:=P) w t ty e i z ht hi hz ay k c kU (by rw[cX];exact bq) zg (by omega) (by simp only[zar,zal] at Bt;omega) (by rw[qN];simp only[zar,zal] at hb;omega);have h3:=xl 0;have h4:=nj 0;have h5:=Rw 0;simp only[zar,zal,zbg,zaZ,zay] at h3 h4 h5⊢;exact⟨grownCap w k 0 e,kU.toArray++Builtin.zeroCells z.cells (grownCap w k 0 e - k),grownCap_ge w k 0 e,h5,by simpa using h3,fun q u hq=>by simpa using h4 q u hq,hr⟩
   |some a=>
    have hr:=run_append_grow (P:=P) w t ty e i z ht hi hz a 0 0 [] (by simp) (fun q u hq=>by simp at hq) ay k c kU (by rw[cX];exact bq) zg (by omega) (by simp only[zar,zal] at Bt;omega) (growslice_fits (by simp only[zar,zal] at Bt;omega) (by rw[qN,zal];rw[zar,zal] at hb;exact hb));have h3:=xl 0;have h4:=nj 0;have h5:=Rw 0;simp only[zar,zal,zbg,zaZ,zay] at h3 h4 h5 hr⊢;exact⟨_,_,grownCap_ge w k 0 e,h5,by simpa using h3,fun q u hq=>by simpa using h4 q u hq,hr⟩
 ·by_cases Hi:px.length+k<=cap
  ·right;left;refine⟨b,o,cap,cur,e',rfl,a2,a3,a4,Hi,a6,a7,a8,a9,?_⟩;rcases hy with⟨rfl,rfl⟩|⟨ay,rfl,zg⟩
   ·have hn:kU=[]:=zae (by simpa using bq);subst hn;have al2:iZ w b (o+px.length*sz) [] cur=w:=by
     unfold iZ;simp only[zbi,zar,zaN,List.take_append_drop,Array.toArray_toList];exact setRow_self w b cur e' (0,0) a2
    rw[al2];simp[Builtin.append_,run_underlying ht,sizeOf,typeInfo,hi,Builtin.lenOf,Builtin.firstCells,a5,storeCells]
   ·have hr:=as4 (P:=P) (w:=w) (ty:=ty) ht hi b o px.length cap cur a2 ay k c kU (by rw[cX];exact bq) zg h1 Hi (by
     rw[cX,bq,a3,zam,<-zai];exact za5 (zah _ Hi) _)
    rw[cX] at hr;exact hr
  ·rcases hy with⟨_,rfl⟩|⟨ay,rfl,zg⟩
   ·omega
   right;right;have hr:=run_append_grow (P:=P) w t ty e i z ht hi hz (ad b o) px.length cap (px.flatten.map PC.val) (by rw[cX];exact hol) (fun q u hq=>by
    rw[zad] at hq;cases hf:px.flatten[q]? with
    |none=>rw[hf] at hq;cases hq
    |some pc=>
     rw[hf] at hq;simp at hq;subst hq;obtain⟨k',j',pu,rfl⟩:=QS mb jk hf;rw[ud,<-zam];exact a6.2.1 k' j' pc pu) ay k c kU (by rw[cX];exact bq) zg (by omega) (by omega) (growslice_fits (by omega) (by rw[qN];exact hb))
   exact⟨_,_,grownCap_ge w _ _ _,Rw _,xl _,nj _,hr⟩
def yG (w:World) (sz:Nat) (py:List (List PC)) (v:Value):Prop:=
 (∀e∈py,e.length=sz)/\(∀k j c,At py k j c->Good w c)/\
 ∃ya c,v=.slice ya py.length c/\((ya=none/\py.length=0)\/∃ay,ya=some ay/\∀(j:Nat) (u:Value),(py.flatten.map PC.val)[j]? =some u->w.cell? (ay.add j)=some u)
theorem yG.adx {sz:Nat} {ya:Option Addr} {c:Nat} {py:List (List PC)} (hg:Good w (.list sz ya c py)):yG w sz py (.slice ya py.length c):=by
 cases hg with
 |nil _ _ _ h=>
  refine⟨by simp,by rintro k j c ⟨e,he,_⟩;simp at he,ya,c,rfl,?_⟩;cases ya with
  |none=>exact .inl ⟨rfl,rfl⟩
  |some ay=>exact .inr ⟨ay,rfl,by simp⟩
 |cons _ b o _ _ h1 h2 h3 h4 h5 h6=>
  refine⟨h4,h6,_,c,rfl,.inr ⟨_,rfl,fun j u hj=>?_⟩⟩;rw[zad] at hj;cases hf:py.flatten[j]? with
  |none=>rw[hf] at hj;cases hj
  |some pc=>
   rw[hf] at hj;simp at hj;subst hj;obtain⟨k',j',pu,rfl⟩:=QS h3 h4 hf;rw[ud,<-zam];exact h5 k' j' pc pu
theorem R.ahM (r:R B E w0 N σ a w G) {σ2:St} (Bm:σ2.env=σ.env) (oK:σ2.used=σ.used) (H:HR B E w G σ2.h σ.used []) (K:bW w G σ.h (fun n=>σ.used n=true) w G σ2.h)
  {n:Nat} {sz by_:Nat} {m m2:Mode} {px py:List (List PC)} {v yv:Value} (hn:σ.used n=false) (mb:0<sz) (F:oY B E w G σ2.h sz m2 (px++py)) (jk:∀e∈px,e.length=sz) (L:AE B E w G σ2.h sz m px v) (Ry:yG w sz py yv)
  (R8:∀b,bH b py->∀b' o cap,0<cap->v=.slice (some (ad b' o)) px.length cap->ru G σ2.h b'->b≠b')
  {t e:TypeId} {i:TypeInfo} {z:Value} {ty:TypeId} (ht:P.underlying t=some (.slice e)) (hi:P.info? e=some i) (hz:i.zero=some z) (cX:i.size=sz) (qN:i.bytes=by_) (Bj:0<by_) (Bz:z.cells.size=sz)
  (hb:(px.length+py.length)*by_<=fe):
  ∃u w' G',(Builtin.append_ #[t,t] ty #[v,yv]).run P w=.ok u w'/\
   R B E w0 N {σ2 with h:=aQ σ2.h n (some (.row true m2 sz ((px++py).map fun e=>e.map PC.er))),used:=aQ σ2.used n true} a w' G'/\
   RA w' G' (aQ σ2.h n (some (.row true m2 sz ((px++py).map fun e=>e.map PC.er)))) (.one (.sl n sz 0 (px.length+py.length))) u:=by
 obtain⟨r1,r2,ya,c,rfl,r3⟩:=Ry;have bq:(py.flatten.map PC.val).length=py.length*sz:=QT r1;have h1:∀u∈py.flatten.map PC.val,u.oneCell'=true:=fun u hu=>by obtain⟨pc,_,rfl⟩:=zaw.1 hu;exact PC.nG pc
 have hB:=r.fr.size;have aaR:(px++py).length=px.length+py.length:=by simp
 have RG:σ2.h n=none:=by
  cases hh:σ2.h n with
  |none=>rfl
  |some b=>have:=H.kN n (by rw[hh];simp);rw[hn] at this;cases this
 have ne:∀q,σ.used q=true->q≠n:=fun q hq e=>by subst e;rw[hn] at hq;cases hq
 have aE:∀q,σ2.h q≠none->q≠n:=fun q hq e=>by subst e;exact hq RG
 rcases as3 (P:=P) w (ty:=ty) ht hi hz cX mb qN Bj jk L bq r3 h1 hb with⟨a0,k0,rfl,rfl,cP⟩|⟨b,ob,cap,cur,e',rfl,b2,b3,b4,b5,b6,b7,b8,b9,cP⟩|⟨cap,arr,c1,c2,c3,c4,cP⟩
 ·
  have hpy:py=[]:=zae k0;subst hpy;refine⟨_,w,⟨G.Im,aQ G.g n ⟨true,0,0,0,[],a0⟩⟩,cP,?_,?_⟩
  ·refine r.step (σ':=_) Bm (fun q hq=>by show aQ σ2.used n true q=true;rw[oK];exact vf n q hq) (bW.trans (u2:=fun n=>σ.used n=true) (fun _ h=>h) K (bW.insert H (blk:=.row true m2 sz []) (p:=⟨true,0,0,0,[],a0⟩) hn (fun _ _=>rfl))) ?_ r.fr;show HR B E w _ (aQ σ2.h n (some (.row true m2 sz []))) (aQ σ2.used n true) [];rw[oK];have dF:∀b,¬bH b ([]:List (List PC)):=by rintro b ⟨k,j,c,⟨e,he,_⟩,_⟩;simp at he
   refine H.insert (p:=⟨true,0,0,0,[],a0⟩) hn (fun _ _=>rfl) (zaq _) (fun h=>by cases h) (fun cs c m hb=>by cases hb) ⟨mb,rfl,fun _=>⟨rfl,fun _=>rfl⟩,(fun h=>by cases h),(fun h=>by cases h),?_⟩
    (fun gr m sz xs _ _ n' cc m' be az _ _ b hb=>absurd hb (dF b)) (fun gr sz xs _ b hb=>absurd hb (dF b)) (fun gr m sz xs _ _ i pc b hi=>by simp at hi)
   have hm:=F.mode;simp only[zbi] at hm;exact hm
  ·refine RA.il rfl fun _=>.inl ?_;simp[cJ]
 ·
  have Mz:(ob+px.length*sz)+(py.flatten.map PC.val).length<=cur.size:=by rw[bq,b3,zam,<-zai];exact za5 (zah _ b5) _
  let w2:=iZ w b (ob+px.length*sz) (py.flatten.map PC.val) cur;have fu:∀x,x≠b->w2.heap[x]? =w.heap[x]? :=fun x hx=>FK x hx;have Mk:∀x,G.Im x->x≠b:=fun x hx he=>b7.1 (he▸hx);have xI:∀x,fy w x->fy w2 x:=fun x hx=>O1 b2 Mz x hx;have aaT:∀x,bH x (px++py)->x≠b:=fun x hx=>(x7 hx).elim (b9 x) (fun h=>R8 x h b ob cap (by obtain⟨k,j,c,⟨e,he,_⟩,_⟩:=h;have:=(zab.1 he).1;omega) rfl b7);let p:PB:=⟨false,b,ob,cap,px++py,none⟩;have K2:bW w G σ2.h (fun n=>σ.used n=true) w2 ⟨G.Im,aQ G.g n p⟩ (aQ σ2.h n (some (.row true m2 sz ((px++py).map fun e=>e.map PC.er)))):=by
   refine⟨fun _ h=>h,fun x hx o=>kM (fu x (Mk x hx)) o,fun q hq h0=>?_,fun q gr be az hq h0=>?_⟩
   ·rw[dA _ _ _ _ (ne q hq)] at h0;simp only[dA _ _ _ _ (ne q hq)];exact⟨h0,trivial,trivial,trivial,trivial,trivial⟩
   ·rw[dA _ _ _ _ (ne q hq)] at h0;simp only[dA _ _ _ _ (ne q hq)];exact⟨⟨gr,az,h0⟩,fun k j pc h1 h2=>⟨pc,h1,rfl,h2⟩⟩
  have alp:b<w.heap.size:=(zaB.1 b2).1;have Hn:HR B E w2 ⟨G.Im,aQ G.g n p⟩ (aQ σ2.h n (some (.row true m2 sz ((px++py).map fun e=>e.map PC.er)))) (aQ σ.used n true) []:=by
   refine H.put (p:=p) (fun x _ hx=>fu x (hx rfl)) (by show w.heap.size<=w2.heap.size;rw[vg];exact zaq _) (fun x _ hx=>xI x hx) (fun q hq=>vf n q hq) (cJ _ _ _)
    (fun _=>⟨b7.1,b8,by show b<w2.heap.size;rw[vg];exact alp⟩) (fun _ q hq h0 hl=>b7.2.1 q h0 hl) (fun _ q gr be az hq h0 x hx he=>b7.2.2 q gr .live be az h0 (by have Mr:x=b:=he;rw[<-Mr];exact hx))
    (fun cs c q hb=>by cases hb) K2 ?_ ?_ ?_ (fun gr m sz xs _ _ i pc b hi=>by simp at hi) (fun _ _ x hx he=>by obtain⟨q,gr,mo,be,az,_,h0,hxF⟩:=hx;exact b7.2.2 q gr mo be az h0 (by have Mr:x=b:=he;rw[<-Mr];exact hxF))
   ·refine⟨mb,rfl,(fun h=>by cases h),fun _=>⟨xI b ⟨cur,e',b2⟩,⟨F.len,fun k j c hk=>?_,fun k j c hk=>?_⟩,by show(px++py).length<=cap;rw[aaR];exact b5⟩,fun _ _=>?_,?_⟩
    ·show w2.cell? (ad b (ob+k*sz+j))=some c.val;rw[Je b2 Mz];have hf:=wX F.len hk;rw[za6] at hf;have ni:px.flatten.length=px.length*sz:=by have:=QT jk;rwa[zaz] at this
     rcases yO hk with⟨qR,dj⟩|⟨qR,dj⟩
     ·rw[if_neg ?_]
      ·exact b6.2.1 k j c dj
      ·rintro⟨q1,_⟩;have hj:j<sz:=by obtain⟨e1,he,hj⟩:=dj;rw[<-jk e1 (zaa he)];exact(zab.1 hj).1
       have:(k+1)*sz<=px.length*sz:=zah _ qR;rw[zai] at this;omega
     ·have G6:px.length*sz<=k*sz+j:=zaG (zah _ qR) (Nat.le_add_right _ _);have cD:=(zab.1 hf).1;rw[zaF,ni] at cD;rw[zag (by rw[ni];exact G6),ni] at hf;rw[if_pos ⟨by omega,by simp only[zaz];omega⟩];rw[zad,show ob+k*sz+j - (ob+px.length*sz)=k*sz+j - px.length*sz by omega,hf];rfl
    ·exact(F.gx k j c hk).congr fun x hx o=>kM (fu x (aaT x ⟨k,j,c,hk,hx⟩)) o
    ·obtain⟨lT,q1,q2⟩:=O0 (vs:=py.flatten.map PC.val) (o:=ob+px.length*sz) b2 Mz;exact⟨b4,lT,e',q1,by rw[q2,b3]⟩
    ·have hm:=F.mode;cases m2 with
     |aL=>exact hm
     |bc=>exact⟨fun x hx=>⟨(hm.1 x hx).1,xI x (hm.1 x hx).2.1,(hm.1 x hx).2.2⟩,hm.2⟩
     |live=>exact⟨fun x hx=>⟨(hm.1 x hx).1,xI x (hm.1 x hx).2.1,(hm.1 x hx).2.2⟩,hm.2⟩
   ·intro gr m' be az hb kP q cc mo od ld ib h0 mK x hx;injection hb with _ hb _ _;subst hb;exact F.iF kP q cc mo od ld h0 mK x hx
   ·intro gr be az hb x hx;injection hb with _ hb _ _;exact⟨fun _=>aaT x hx,fun q _ h0 hl=>F.live hb x hx q h0 hl⟩
  refine⟨_,w2,⟨G.Im,aQ G.g n p⟩,cP,?_,?_⟩
  ·exact r.step (σ':=_) Bm (fun q hq=>by show aQ σ2.used n true q=true;rw[oK];exact vf n q hq) (bW.trans (u2:=fun n=>σ.used n=true) (fun _ h=>h) K K2)
    (by show HR B E w2 _ _ (aQ σ2.used n true) [];rw[oK];exact Hn) (r.fr.one b8 (fun x hx Hp=>fu x Hp) (by show w.heap.size<=w2.heap.size;rw[vg];exact zaq _) (Jf b2 Mz) rfl rfl rfl)
  ·refine RA.il rfl fun _=>.inr ⟨by simp[cJ,p],some (ad b ob),?_,?_,?_⟩
   ·simp[cJ,p]
   ·simp[cJ,p];exact b5
   ·simp[cJ,p]
 ·
  let w1:=w.drew;have hd:∀x:Nat,x<w.heap.size->(w.drew.alloc (.cells arr e)).heap[x]? =w.heap[x]? :=fun x hx=>heap_alloc_old w.drew _ x hx;have H1:HR B E w.drew G σ2.h σ.used []:=H.grow (w':=w.drew) (fun _ _=>rfl) (zaq _);have r1:R B E w0 N σ a w.drew G:=r.step (w':=w.drew) rfl (fun _ h=>h) (bW.world (w:=w) (w':=w.drew) (fun _ _=>rfl) _) (r.hr.grow (w':=w.drew) (fun _ _=>rfl) (zaq _)) (r.fr.grow (w':=w.drew) (fun _ _=>rfl) (zaq _) rfl rfl rfl);have K1:bW w.drew G σ.h (fun n=>σ.used n=true) w.drew G σ2.h:=⟨K.im,fun _ _ _=>rfl,K.name,K.live⟩;have iG:∀k j c,At (px++py) k j c->Good w.drew c:=fun k j c hk=>(F.gx k j c hk).congr fun _ _ _=>rfl;have xl:∀k j c,At (px++py) k j c->arr[k*sz+j]? =some c.val:=fun k j c hk=>by
   have hf:=wX F.len hk;refine c4 _ _ ?_;rw[<-zaK,<-za6,zad,hf];rfl
  have xF:arr.size=cap*sz:=by rw[c3,Bz];omega
  have hB2:=r1.fr.size;let p:PB:=⟨false,w.heap.size,0,cap,px++py,none⟩;have hw:∀x:Nat,x<w.drew.heap.size->(w.drew.alloc (.cells arr e)).heap[x]? =w.drew.heap[x]? :=hd;have Hn:HR B E (w.drew.alloc (.cells arr e)) ⟨G.Im,aQ G.g n p⟩ (aQ σ2.h n (some (.row true m2 sz ((px++py).map fun e=>e.map PC.er)))) (aQ σ.used n true) []:=by
   refine H1.insert (p:=p) hn hw (by simp) (fun _=>⟨H1.TC,.inl hB,by simp[p]⟩) (fun cs c m hb=>by cases hb) ?_ ?_ ?_ (fun gr m sz xs _ _ i pc b hi=>by simp at hi)
   ·refine⟨mb,rfl,(fun h=>by cases h),fun _=>⟨fy.alloc _ _ _,⟨F.len,fun k j c hk=>?_,fun k j c hk=>?_⟩,by show(px++py).length<=cap;rw[aaR];exact c1⟩,fun _ _=>⟨c2,arr,e,heap_alloc_new w.drew _,(zal _).symm▸xF⟩,?_⟩
    ·show(w.drew.alloc (.cells arr e)).cell? (ad w.drew.heap.size (0+k*sz+j))=some c.val;simp only[zal];unfold ad;rw[World.cell?_alloc_new];exact xl k j c hk
    ·exact(iG k j c hk).congr fun x hx o=>kM (hw x ((iG k j c hk).lt hx)) o
    ·have hm:=F.mode;have hu:∀x,fy w x->fy (w.drew.alloc (.cells arr e)) x:=fun x hx=>hx.congr (hd x hx.lt);cases m2 with
     |aL=>exact hm
     |bc=>exact⟨fun x hx=>⟨(hm.1 x hx).1,hu x (hm.1 x hx).2.1,(hm.1 x hx).2.2⟩,hm.2⟩
     |live=>exact⟨fun x hx=>⟨(hm.1 x hx).1,hu x (hm.1 x hx).2.1,(hm.1 x hx).2.2⟩,hm.2⟩
   ·intro gr m' be az hb kP q cc mo od ld h0 mK x hx;injection hb with _ hb _ _;subst hb;exact F.iF kP q cc mo od ld h0 mK x hx
   ·intro gr be az hb x hx;injection hb with _ hb _ _;refine⟨fun _=>?_,fun q h0 hl=>F.live hb x hx q h0 hl⟩;obtain⟨k,j,c,hk,hxc⟩:=hx;have:=(F.gx k j c hk).lt hxc;show x≠w.heap.size;omega
  refine⟨_,_,⟨G.Im,aQ G.g n p⟩,cP,?_,?_⟩
  ·exact r1.step (σ':=_) Bm (fun q hq=>by show aQ σ2.used n true q=true;rw[oK];exact vf n q hq) (bW.trans (u2:=fun n=>σ.used n=true) (fun _ h=>h) K1 (bW.insert H1 hn hw))
    (by show HR B E _ _ _ (aQ σ2.used n true) [];rw[oK];exact Hn) (r1.fr.grow hw (by simp) rfl rfl rfl)
  ·refine RA.il rfl fun _=>.inr ⟨by simp[cJ,p],some (ad w.heap.size 0),?_,?_,?_⟩
   ·simp[cJ,p]
   ·simp[cJ,p];exact c1
   ·simp[cJ,p]
theorem aoy (r:R B E w0 N σ a w G) {sz:Nat} {x:ao} {v:Value} {xs:List (List C)} {m:Mode} {σ1:St} (hv:RA w G σ.h x v) (hx:sI σ sz x=some (xs,m,σ1)):
  ∃px:List (List PC),xs=px.map (fun e=>e.map PC.er)/\oY B E w G σ1.h sz m px/\AE B E w G σ1.h sz m px v/\HR B E w G σ1.h σ.used []/\bW w G σ.h (fun n=>σ.used n=true) w G σ1.h/\σ1.env=σ.env/\σ1.used=σ.used/\
   (∀n b,σ1.h n=some b->σ.h n=some b):=by
 unfold sI at hx;split at hx
 ·rename_i s;injection hx with hx;injection hx with h1 h2;injection h2 with h2 h3;subst h1 h2 h3;have gR:v=.slice none 0 0:=(hv.iV (by simp)).1;have dF:∀b,¬bH b ([]:List (List PC)):=by rintro b ⟨k,j,c,⟨e,he,_⟩,_⟩;simp at he
  exact⟨[],rfl,⟨by simp,by rintro k j c ⟨e,he,_⟩;simp at he,⟨fun b hb=>absurd hb (dF b),(by rintro k j c ⟨e,he,_⟩;simp at he),(by rintro k j c k' j' c' b ⟨e,he,_⟩;simp at he)⟩,fun _ _ _ _ _ _ _ _ b hb=>absurd hb (dF b),fun _ b hb=>absurd hb (dF b)⟩,
   .inl ⟨none,gR,rfl⟩,r.hr,bW.refl _ _ _ _,rfl,rfl,fun _ _ h=>h⟩
 ·rename_i n s len;split at hx
  ·rename_i m0 rs nI hn;split at hx
   ·rename_i hc;obtain⟨rfl,rfl,rfl⟩:=hc;injection hx with hx;injection hx with h1 h2;injection h2 with h2 h3;subst h1 h2 h3;have H:=r.hr;have cO:σ.h n≠none:=by rw[hn];simp
    have hr:=H.row n true m0 s nI hn;have kF:lm (G.g n) s 0 nI.length v:=(hv.iV (by simp)).1 cO;have qW:nI.length=(G.g n).px.length:=by rw[hr.er];simp
    refine⟨(G.g n).px,hr.er,oY.ady H hn,?_,H.del n,bW.del n _,rfl,rfl,fun q b hq=>(ur hq).1⟩;rcases kF with⟨bq,gR,_,_⟩|⟨bq,a',gR,kC,ha⟩
    ·have g2:=(hr.nl bq).2 rfl;exact .inl ⟨(G.g n).na,by rw[gR,g2],(hr.nl bq).1⟩
    ·right;obtain⟨r2,cur,e,r3,r4⟩:=hr.room bq rfl;obtain⟨l1,l2,l3⟩:=hr.fN bq;obtain⟨o1,o2,o3⟩:=H.own n cO bq;have y8:=ha (.inr rfl);refine⟨(G.g n).b,(G.g n).o,(G.g n).cap,cur,e,?_,r3,r4,r2,l3,l2,⟨o1,fun q hq hl=>?_,fun q gr m' be az hq hb=>?_⟩,o2,fun b hb=>H.y4 cO bq hn hb⟩
     ·rw[gR,y8,qW];simp
     ·obtain⟨q1,q2⟩:=Gk hq;exact H.inj q n q1 cO q2 hl bq
     ·exact H.y4 cO bq (ur hq).1 hb rfl
   ·cases hx
  ·cases hx
 ·cases hx
theorem asN {fl:Bool} {sz:Nat} {x:ao} {v:Value} {ys:List (List C)} {m m2:Mode} {σ1 σ2:St} {px:List (List PC)} (mb:0<sz) (H:HR B E w G σ1.h σ1.used []) (F:oY B E w G σ1.h sz m px) (hv:RA w G σ1.h x v)
  (hx:oz fl σ1 sz m x=some (ys,m2,σ2)):
  ∃py:List (List PC),ys=py.map (fun e=>e.map PC.er)/\yG w sz py v/\oY B E w G σ2.h sz m2 (px++py)/\HR B E w G σ2.h σ1.used []/\bW w G σ1.h (fun n=>σ1.used n=true) w G σ2.h/\σ2.env=σ1.env/\σ2.used=σ1.used/\
   (∀n b,σ2.h n=some b->σ1.h n=some b)/\(∀b,bH b py->∀b',¬G.Im b'->(∀q gr mo be az,σ1.h q=some (.row gr mo be az)->¬bH b' (G.g q).px)->b≠b'):=by
 unfold oz at hx;have alN:∀b,¬bH b ([]:List (List PC)):=by rintro b ⟨k,j,c,⟨e,he,_⟩,_⟩;simp at he
 split at hx
 ·rename_i s;injection hx with hx;injection hx with h1 h2;injection h2 with h2 h3;subst h1 h2 h3;have gR:v=.slice none 0 0:=(hv.iV (by simp)).1;subst gR;exact⟨[],rfl,⟨by simp,by rintro k j c ⟨e,he,_⟩;simp at he,none,0,rfl,.inl ⟨rfl,rfl⟩⟩,by simpa using F,H,bW.refl _ _ _ _,rfl,rfl,fun _ _ h=>h,fun b hb=>absurd hb (alN b)⟩
 ·rename_i s ym;split at hx
  ·rename_i hs;subst hs;obtain⟨pc,e1,e2,e3,e4⟩:=hv.c;have bA:∃ya c py,pc=.list s ya c py/\py.map (fun e=>e.map PC.er)=ym:=by
    cases pc with
    |int k n=>simp[PC.er] at e1
    |bool b=>simp[PC.er] at e1
    |list s' ya c py=>rw[PC.fo] at e1;injection e1 with e1 e5;subst e1;exact⟨ya,c,py,rfl,e5⟩
   obtain⟨ya,c,py,rfl,e5⟩:=bA;have hR:yG w s py v:=by rw[<-e2];exact yG.adx e3
   have pj:∀b,bH b py->G.Im b:=fun b ⟨k,j,c,hk,hb⟩=>e4 b (.there _ _ _ _ k j c hk hb);have rS:∀b,bH b py->∀b',¬G.Im b'->(∀q gr mo be az,σ1.h q=some (.row gr mo be az)->¬bH b' (G.g q).px)->b≠b':=fun b hb b' bB _ he=>bB (he▸pj b hb);split at hx
   ·rename_i vS;injection hx with hx;injection hx with h1 h2;injection h2 with h2 h3;subst h1 h2 h3
    replace vS:=(zas _ _▸vS).2
    rw[<-e5] at vS;exact⟨py,e5.symm,hR,F.XT hR.1 hR.2.1 (Fg vS),H,bW.refl _ _ _ _,rfl,rfl,fun _ _ h=>h,rS⟩
   ·split at hx
    ·cases hx
    ·rename_i vM;injection hx with hx;injection hx with h1 h2;injection h2 with h2 h3;subst h1 h2 h3;refine⟨py,e5.symm,hR,⟨fun e he=>(zav.1 he).elim (F.len e) (hR.1 e),fun k j c hk=>?_,fun b hb=>(x7 hb).elim (F.WS vM b) (pj b),fun h=>absurd rfl h,fun h=>by cases h⟩,H,bW.refl _ _ _ _,rfl,rfl,fun _ _ h=>h,rS⟩;rcases yO hk with⟨_,h⟩|⟨_,h⟩
     ·exact F.gx _ _ _ h
     ·exact hR.2.1 _ _ _ h
  ·cases hx
 ·rename_i n s lo len;split at hx
  ·rename_i gr m' rs ym hn;split at hx
   ·rename_i hc;obtain⟨rfl,rfl,hl⟩:=hc;have cO:σ1.h n≠none:=by rw[hn];simp
    have hr:=H.row n gr m' s ym hn;have kF:lm (G.g n) s lo len v:=(hv.iV (by simp)).1 cO;obtain⟨q1,q2,q3,q4⟩:=II hr kF hl;have RM:∃ya c,nE (G.g n) s lo len v=.list s ya c (((G.g n).px.drop lo).take len):=by
     rcases kF with⟨_,rfl,_,_⟩|⟨_,a',rfl,_,_⟩<;>exact⟨_,_,rfl⟩
    obtain⟨ya,c,RM⟩:=RM;rw[RM] at q1 q2 q3 q4;have hR:yG w s (((G.g n).px.drop lo).take len) v:=by rw[<-q2];exact yG.adx q3
    have vV:(ym.drop lo).take len=(((G.g n).px.drop lo).take len).map (fun e=>e.map PC.er):=by rw[PC.fo] at q1;injection q1 with _ q1;exact q1.symm
    have rS:∀b,bH b (((G.g n).px.drop lo).take len)->∀b',¬G.Im b'->(∀q gr mo be az,σ1.h q=some (.row gr mo be az)->¬bH b' (G.g q).px)->b≠b':=by
     rintro b ⟨k,j,c,hk,hb⟩ b' _ bB rfl;exact bB n gr m' s ym hn ⟨_,_,_,(rA hk).1,hb⟩
    split at hx
    ·rename_i vS;injection hx with hx;injection hx with h1 h2;injection h2 with h2 h3;subst h1 h2 h3;have aaZ:=(zas _ _▸vS).2;rw[vV] at aaZ;exact⟨_,vV,hR,F.XT hR.1 hR.2.1 (Fg aaZ),H,bW.refl _ _ _ _,rfl,rfl,fun _ _ h=>h,rS⟩
    ·split at hx
     ·rename_i alw;obtain⟨rfl,rfl⟩:=alw;have iH:((G.g n).px.drop 0).take ym.length=(G.g n).px:=by
       have:ym.length=(G.g n).px.length:=by rw[hr.er];simp
       rw[this];simp
      rw[iH] at hR rS;have F2:=oY.ady H hn;have F1:=F.del n;have iG:∀k j c,At (px++(G.g n).px) k j c->Good w c:=fun k j c hk=>by
       rcases yO hk with⟨_,h⟩|⟨_,h⟩
       ·exact F.gx _ _ _ h
       ·exact F2.gx _ _ _ h
      have hlen:∀e∈px++(G.g n).px,e.length=s:=fun e he=>(zav.1 he).elim (F.len e) (F2.len e);split at hx
      ·rename_i eA;subst eA;injection hx with hx;injection hx with h1 h2;injection h2 with h2 h3;subst h1 h2 h3;refine⟨(G.g n).px,hr.er,hR,⟨hlen,iG,?_,fun hm q cc mo be az hq mK b hb=>?_,fun hm b hb q hq hl=>?_⟩,H.del n,bW.del n _,rfl,rfl,fun q b hq=>(ur hq).1,rS⟩
       ·have m1:=F.mode;have m3:=F2.mode;cases m with
        |aL=>exact fun b hb=>(x7 hb).elim (m1 b) (m3 b)
        |bc=>exact⟨fun b hb=>(x7 hb).elim (m1.1 b) (m3.1 b),N0 m1.2 m3.2 (fun b hb=>F.iF (by simp) n gr .bc s ym hn (by simp) b hb)⟩
        |live=>exact⟨fun b hb=>(x7 hb).elim (m1.1 b) (m3.1 b),N0 m1.2 m3.2 (fun b hb=>F.iF (by simp) n gr .live s ym hn (by simp) b hb)⟩
       ·exact(x7 hb).elim (F1.iF hm q cc mo be az hq mK b) (F2.iF hm q cc mo be az hq mK b)
       ·exact(x7 hb).elim (fun h=>F1.live hm b h q hq hl) (fun h=>F2.live hm b h q hq hl)
      ·split at hx
       ·cases hx
       ·rename_i bq;injection hx with hx;injection hx with h1 h2;injection h2 with h2 h3;subst h1 h2 h3;refine⟨(G.g n).px,hr.er,hR,⟨hlen,iG,fun b hb=>(x7 hb).elim (F.WS (fun h=>bq (.inl h)) b) (F2.WS (fun h=>bq (.inr h)) b),fun h=>absurd rfl h,fun h=>by cases h⟩,H.del n,bW.del n _,rfl,rfl,fun q b hq=>(ur hq).1,rS⟩
     ·cases hx
   ·cases hx
  ·cases hx
 ·cases hx
theorem ajf (r:R B E w0 N σ a w G) {n:Nat} {t e:TypeId} {i:TypeInfo} {z:Value} {x y:Operand} {mx my:MO} {fl:Bool} {sz by_:Nat} {xs ys:List (List C)} {m m2:Mode} {σ1 σ2 iD:St}
  (ho:o.op=.call {callee:=.builtin .append,args:=#[x,y],argTypes:=#[t,t]}) (hd:o.dst=some n) (hN:n<N) (oI:cQ x mx=true) (oJ:cQ y my=true)
  (ht:P.underlying t=some (.slice e)) (hi:P.info? e=some i) (hz:i.zero=some z) (cX:i.size=sz) (mb:0<sz) (qN:i.bytes=by_) (Bj:0<by_) (Bz:z.cells.size=sz)
  (hl:sI σ sz (σ.ev mx)=some (xs,m,σ1)) (hr:oz fl σ1 sz m (σ.ev my)=some (ys,m2,σ2)) (hb:(xs.length+ys.length)*by_<=fe)
  (hx:σ2.ins n (.row true m2 sz (xs++ys))=some iD):
  o.wp P a w (Nx B E w0 N (iD.put o.dst (.one (.sl n sz 0 (xs.length+ys.length))))) Q:=by
 obtain⟨hn,rfl⟩:=pE hx;obtain⟨x1,x2⟩:=r.ev oI;obtain⟨y1,y2⟩:=r.ev oJ;obtain⟨px,e1,F1,L1,H1,K1,q1,q2,q3⟩:=aoy r x1 hl;have y1':RA w G σ1.h (σ.ev my) (a.eval y):=y1.keep K1 y2;rw[<-q2] at H1;obtain⟨py,e2,R2,F2,H2,K2,p1,p2,p3,rS⟩:=asN mb H1 F1 y1' hr;rw[q2] at H2;have qW:xs.length=px.length:=by rw[e1];simp
 have hyl:ys.length=py.length:=by rw[e2];simp
 have L2:AE B E w G σ2.h sz m px (a.eval x):=by
  rcases L1 with h|⟨b,o,cap,cur,e',b1,b2,b3,b4,b5,b6,⟨l1,l2,l3⟩,b8,b9⟩
  ·exact .inl h
  ·refine .inr ⟨b,o,cap,cur,e',b1,b2,b3,b4,b5,b6,⟨l1,fun q hq=>?_,fun q gr mo be az hq=>l3 q gr mo be az (p3 q _ hq)⟩,b8,b9⟩;cases hh:σ2.h q with
   |none=>exact absurd hh hq
   |some bb=>exact l2 q (by rw[p3 q bb hh];simp)
 obtain⟨u,w',G',cP,r',hv⟩:=r.ahM (P:=P) (σ2:=σ2) (n:=n) (m:=m) (m2:=m2) (px:=px) (py:=py) (ty:=o.type) (p1.trans q1) (p2.trans q2) H2 (bW.trans (u2:=fun n=>σ1.used n=true) (fun q hq=>by rw[q2];exact hq) K1 K2)
  (by rw[<-q2,<-p2];exact hn) mb F2 F1.len L2 R2 (fun b d7 b' o' cap gf xJ aaS=>by
   rcases L1 with⟨_,h,_⟩|⟨b0,o0,Lg,cur,e',b1,b2,b3,b4,b5,b6,⟨l1,l2,l3⟩,b8,b9⟩
   ·rw[h] at xJ;injection xJ with _ _ xJ;omega
   ·rw[b1] at xJ;injection xJ with xJ;injection xJ with xJ;have D8:=(pZ xJ).1;subst D8;exact rS b d7 b0 l1 l3) ht hi hz cX qN Bj Bz (by rw[<-qW,<-hyl];exact hb)
 have R6:(px++py).map (fun e=>e.map PC.er)=xs++ys:=by rw[zaK,<-e1,<-e2]
 rw[R6] at r' hv;rw[<-qW,<-hyl] at hv;refine Ao (v:=u) (w':=w') ?_ ⟨G',r'.put hv (fun q hq=>by have gj:q=n:=hq;subst gj;exact cJ _ _ _) (fun q hq=>by rw[hd] at hq;injection hq with hq;omega)⟩
 simp[execOp,ho,resolve,invoke,builtin,cP]
end
section
variable {B:Nat} {E:Ex} {w0 w w':World} {G G':Gh} {h h':Nat->Option av} {used used':Nat->Bool} {tk:List PC} {N:Nat}
variable {P:Program} {o:Oper} {a:Act} {σ σ':St} {Q:Exit->Act->World->Prop}
theorem SY {n:Nat} (hs:(h n).isSome=true):h n≠none:=by intro hh;rw[hh] at hs;cases hs
theorem VG {t e:TypeId} {i:TypeInfo} {sz b off len cap:Nat} {kk:IntKind} {q:Int} (ht:P.underlying t=some (.slice e)) (hi:P.info? e=some i) (cX:i.size=sz) (h0:0<=q) (h1:q<len):
  (Instr.indexAt t (.slice (some (ad b off)) len cap) (.int kk q)).run P w=.ok (.pointer (some (ad b (off+q.toNat*sz)))) w:=by
 simp[Instr.indexAt,run_underlying ht,asIntOf,h0,h1,sizeOf,typeInfo,hi,cX,ud]
theorem Zf (r:R B E w0 N σ a w G) {t e:TypeId} {i:TypeInfo} {x y:Operand} {mx my:MO} {sz:Nat} {q:Int} {z:ao} (ho:o.op=.indexAddr t x y) (hN:∀n,o.dst=some n->n<N) (oI:cQ x mx=true) (oJ:cQ y my=true)
  (ht:P.underlying t=some (.slice e)) (hi:P.info? e=some i) (cX:i.size=sz) (hq:(σ.ev my).eV=some q) (h0:0<=q)
  (hz:(∃n lo len,σ.ev mx=.one (.sl n sz lo len)/\q<(len:Int)/\(σ.h n).isSome=true/\z=.one (.ptr n (lo+q.toNat) sz 0))\/(∃xs el,σ.ev mx=.one (.c (.list sz xs))/\xs[q.toNat]? =some el/\z=.one (.dr el 0))):
  o.wp P a w (Nx B E w0 N (σ.put o.dst z)) Q:=by
 obtain⟨x1,x2⟩:=r.ev oI;obtain⟨kk,ey⟩:=(r.ev oJ).1.int hq;rcases hz with⟨n,lo,len,e1,h1,hs,rfl⟩|⟨xs,el,e1,h1,rfl⟩
 ·rw[e1] at x1 x2;have kF:lm (G.g n) sz lo len (a.eval x):=(x1.iV (by simp)).1 (SY hs);rcases kF with⟨_,_,_,hl⟩|⟨bq,a',hv,kC,ha⟩
  ·omega
  ·have y8:=ha (.inl (by omega));subst y8;refine j9 r (v:=.pointer (some (ad (G.g n).b ((G.g n).o+lo*sz+q.toNat*sz)))) ?_ ?_ (fun m hm=>x2 m hm) hN
   ·simp only[execOp,ho,hv,ey];simp[VG ht hi cX h0 h1]
   ·exact RA.il rfl fun _=>⟨bq,by rw[zai];congr 3;omega⟩
 ·rw[e1] at x1;obtain⟨pc,p1,p2,p3,p4⟩:=x1.c;cases pc with
  |int k n=>simp[PC.er] at p1
  |bool b=>simp[PC.er] at p1
  |list s' ya c py=>
   rw[PC.fo] at p1;injection p1 with p0 p1;subst p0;have zh:∃pe,py[q.toNat]? =some pe/\pe.map PC.er=el:=by
    rw[<-p1,zad] at h1;cases hp:py[q.toNat]? with
    |none=>rw[hp] at h1;cases h1
    |some pe=>rw[hp] at h1;simp at h1;exact⟨pe,rfl,h1⟩
   obtain⟨pe,s9,qT⟩:=zh;have cD:q.toNat<py.length:=(zab.1 s9).1;cases p3 with
   |nil _ _ _ _=>simp at cD
   |cons _ b oo _ _ g1 g2 g3 g4 g5 g6=>
    have gj:q<(py.length:Int):=by omega
    refine j9 r (v:=.pointer (some (ad b (oo+q.toNat*s')))) ?_ ?_ (fun m hm=>absurd hm (by simp[ao.ref,aj.ref,aj.kq])) hN
    ·simp only[execOp,ho,<-p2,PC.val,ey];simp[VG ht hi cX h0 gj]
    ·refine RA.il rfl ⟨b,oo+q.toNat*s',pe,by simp,qT,p4 b (.here _ _ _ _ g1),fun j c hj=>?_⟩;exact⟨g5 _ _ _ ⟨pe,s9,hj⟩,g6 _ _ _ ⟨pe,s9,hj⟩,fun b' bB=>p4 b' (.there _ _ _ _ _ _ c ⟨pe,s9,hj⟩ bB)⟩
theorem LR (r:R B E w0 N σ a w G) {t e:TypeId} {x:Operand} {mx:MO} {len:Nat} (ho:o.op=.call {callee:=.builtin .len,args:=#[x],argTypes:=#[t]}) (hN:∀n,o.dst=some n->n<N) (hm:cQ x mx=true)
  (ht:P.underlying t=some (.slice e))
  (hz:(∃n sz lo,σ.ev mx=.one (.sl n sz lo len)/\(σ.h n).isSome=true)\/(∃sz xs,σ.ev mx=.one (.c (.list sz xs))/\len=xs.length)\/(∃sz,σ.ev mx=.one (.nil sz)/\len=0)\/
   (∃n k aR off sz l s ys,σ.ev mx=.one (.ct n k aR off sz l)/\dq σ.h (.ct n k aR off sz l)=some (.list s ys)/\len=ys.length)):
  o.wp P a w (Nx B E w0 N (σ.put o.dst (.one (.c (.int .i64 len))))) Q:=by
 obtain⟨x1,x2⟩:=r.ev hm;have hv:∃a' c,a.eval x=.slice a' len c:=by
  rcases hz with⟨n,sz,lo,e1,hs⟩|⟨sz,xs,e1,rfl⟩|⟨sz,e1,rfl⟩|⟨n,k,aR,off,sz,l,s,ys,e1,Su,rfl⟩
  ·rw[e1] at x1;have kF:lm (G.g n) sz lo len (a.eval x):=(x1.iV (by simp)).1 (SY hs);rcases kF with⟨_,hv,_,rfl⟩|⟨_,a',hv,_,_⟩
   ·exact⟨_,_,hv⟩
   ·exact⟨_,_,hv⟩
  ·rw[e1] at x1;obtain⟨pc,p1,p2,_⟩:=x1.c;cases pc with
   |int k n=>simp[PC.er] at p1
   |bool b=>simp[PC.er] at p1
   |list s' ya c py=>
    rw[PC.fo] at p1;injection p1 with _ p1;refine⟨ya,c,?_⟩;rw[<-p2,<-p1];simp[PC.val]
  ·rw[e1] at x1;have gR:a.eval x=.slice none 0 0:=(x1.iV (by simp)).1;exact⟨_,_,gR⟩
  ·rw[e1] at x1;obtain⟨pc,p1,p2,_⟩:=r.hr.dq Su (x1.iV (by simp)).1;cases pc with
   |int k n=>simp[PC.er] at p1
   |bool b=>simp[PC.er] at p1
   |list s' ya c py=>
    rw[PC.fo] at p1;injection p1 with _ p1;refine⟨ya,c,?_⟩;rw[<-p2,<-p1];simp[PC.val]
 obtain⟨a',c,hv⟩:=hv;refine j9 r (v:=.int .i64 len) ?_ (RA.of_int _ _) (fun q hq=>absurd hq wk) hN;simp[execOp,ho,resolve,invoke,builtin,hv,Builtin.len_,run_underlying ht,goInt]
theorem VH {t e:TypeId} {i:TypeInfo} {sz:Nat} {ya:Option Addr} {len cap:Nat} {lo e7:Option Value} {l hh:Int} (ht:P.underlying t=some (.slice e)) (hi:P.info? e=some i) (cX:i.size=sz)
  (uI:(lo=none/\l=0)\/∃k,lo=some (.int k l)) (xt:(e7=none/\hh=len)\/∃k,e7=some (.int k hh)) (h0:0<=l) (h1:l<=hh) (h2:hh<=len) (h3:len<=cap):
  (Instr.sliceAt t (.slice ya len cap) lo e7 none).run P w=.ok (.slice (if cap=l.toNat then ya else ya.map (·.add (l.toNat*sz))) (hh - l).toNat (cap - l.toNat)) w:=by
 have e1:(hh.toNat:Int)=hh:=za3 (by omega);have e2:(hh - l).toNat=hh.toNat - l.toNat:=by omega
 have h4:hh<=(cap:Int):=by omega
 have h5:0<=hh:=by omega
 rcases uI with⟨rfl,rfl⟩|⟨k,rfl⟩<;>rcases xt with⟨rfl,rfl⟩|⟨k',rfl⟩<;>
  simp[Instr.sliceAt,Instr.slice,run_underlying ht,Instr.sliceBounds,Instr.sliceBound,asIntOf,sizeOf,typeInfo,hi,cX,h0,h1,h4,h5,e1,e2]<;>omega
theorem Zi (r:R B E w0 N σ a w G) {t e:TypeId} {i:TypeInfo} {x:Operand} {lo e7:Option Operand} {mx:MO} {sz:Nat} {l hh:Int} {z:ao} (ho:o.op=.slice t x lo e7 none) (hN:∀n,o.dst=some n->n<N) (oI:cQ x mx=true)
  (ht:P.underlying t=some (.slice e)) (hi:P.info? e=some i) (cX:i.size=sz) (mb:0<sz) {len:Nat}
  (uI:(lo=none/\l=0)\/∃y my,lo=some y/\cQ y my=true/\(σ.ev my).eV=some l) (xt:(e7=none/\hh=len)\/∃y my,e7=some y/\cQ y my=true/\(σ.ev my).eV=some hh)
  (h0:0<=l) (h1:l<=hh) (h2:hh<=len)
  (hz:(∃n l0,σ.ev mx=.one (.sl n sz l0 len)/\(σ.h n).isSome=true/\z=.one (.sl n sz (l0+l.toNat) (hh - l).toNat))\/(∃xs,σ.ev mx=.one (.c (.list sz xs))/\len=xs.length/\z=.one (.c (.list sz ((xs.drop l.toNat).take (hh - l).toNat))))):
  o.wp P a w (Nx B E w0 N (σ.put o.dst z)) Q:=by
 obtain⟨x1,x2⟩:=r.ev oI;have R4:(lo.map a.eval=none/\l=0)\/∃k,lo.map a.eval=some (.int k l):=by
  rcases uI with⟨rfl,h⟩|⟨y,my,rfl,c1,c2⟩
  ·exact .inl ⟨rfl,h⟩
  ·obtain⟨k,hk⟩:=(r.ev c1).1.int c2;exact .inr ⟨k,by simp[hk]⟩
 have RQ:(e7.map a.eval=none/\hh=len)\/∃k,e7.map a.eval=some (.int k hh):=by
  rcases xt with⟨rfl,h⟩|⟨y,my,rfl,c1,c2⟩
  ·exact .inl ⟨rfl,h⟩
  ·obtain⟨k,hk⟩:=(r.ev c1).1.int c2;exact .inr ⟨k,by simp[hk]⟩
 rcases hz with⟨n,l0,e1,hs,rfl⟩|⟨xs,e1,rfl,rfl⟩
 ·rw[e1] at x1 x2;have kF:lm (G.g n) sz l0 len (a.eval x):=(x1.iV (by simp)).1 (SY hs);rcases kF with⟨bq,hv,rfl,rfl⟩|⟨bq,a',hv,kC,ha⟩
  ·have hr:=VH (P:=P) (w:=w) (ya:=(G.g n).na) (len:=0) (cap:=(G.g n).cap) ht hi cX R4 RQ h0 h1 h2 (Nat.zero_le _);have qS:l.toNat=0:=by omega
   have G9:(hh - l).toNat=0:=by omega
   refine j9 r (v:=.slice (G.g n).na 0 (G.g n).cap) ?_ (RA.il rfl fun _=>.inl ⟨bq,rfl,by omega,by omega⟩) (fun m hm=>x2 m hm) hN;simp only[execOp,ho,hv,za0];simp only[qS,G9,zaX] at hr;have ha:(G.g n).na.map (fun x=>x.add 0)=(G.g n).na:=by
    cases (G.g n).na with
    |none=>rfl
    |some x=>simp[Addr.add]
   rw[ha] at hr;simp[hr]
  ·have hr:=VH (P:=P) (w:=w) (ya:=a') (len:=len) (cap:=(G.g n).cap - l0) ht hi cX R4 RQ h0 h1 h2 (by omega);refine j9 r (by simp only[execOp,ho,hv,za0];simp[hr];rfl) (RA.il rfl fun _=>.inr ⟨bq,_,by rw[Nat.sub_sub],by omega,fun hc=>?_⟩) (fun m hm=>x2 m hm) hN;split
   ·rename_i cY;have:l0=0/\l.toNat=0:=by omega
    rw[ha (.inr this.1),this.1,this.2]
   ·rename_i cY;have cD:l0<(G.g n).cap:=by omega
    rw[ha (.inl cD)];simp only[Option.map_some,ud];rw[zai,zam]
 ·rw[e1] at x1;obtain⟨pc,p1,p2,p3,p4⟩:=x1.c;cases pc with
  |int k n=>simp[PC.er] at p1
  |bool b=>simp[PC.er] at p1
  |list s' ya c py=>
   rw[PC.fo] at p1;injection p1 with p0 p1;subst p0;have hlen:xs.length=py.length:=by rw[<-p1];simp
   have hv:a.eval x=.slice ya xs.length c:=by rw[<-p2,hlen];rfl
   have kC:xs.length<=c\/py=[]:=by
    cases p3 with
    |nil _ _ _ _=>exact .inr rfl
    |cons _ b oo _ _ g1 g2 g3 g4 g5 g6=>exact .inl (by rw[hlen];exact g2)
   have y9:xs.length<=c:=by
    rcases kC with hc|hc
    ·exact hc
    ·rw[hlen,hc];exact Nat.zero_le _
   have hr:=VH (P:=P) (w:=w) (ya:=ya) (len:=xs.length) (cap:=c) ht hi cX R4 RQ h0 h1 h2 y9;have alD:((py.drop l.toNat).take (hh - l).toNat).length=(hh - l).toNat:=by simp;omega
   let eX:PC:=.list s' (if c=l.toNat then ya else ya.map (·.add (l.toNat*s'))) (c - l.toNat) ((py.drop l.toNat).take (hh - l).toNat)
   have iG:Good w eX/\∀b,bD b eX->G.Im b:=by
    by_cases Ea:(py.drop l.toNat).take (hh - l).toNat=[]
    ·constructor
     ·show Good w (.list _ _ _ _);rw[Ea];exact .nil _ _ _ mb
     ·intro b hb;rw[bD.nA,Ea] at hb;rcases hb with⟨hb,_⟩|⟨k,j,c,⟨e,he,_⟩,_⟩
      ·exact absurd rfl hb
      ·simp at he
    ·cases p3 with
     |nil _ _ _ _=>simp at Ea
     |cons _ b oo _ _ g1 g2 g3 g4 g5 g6=>
      have ft:0<(hh - l).toNat:=by
       rcases zaM (hh - l).toNat with hz|hz
       ·rw[hz] at Ea;simp at Ea
       ·exact hz
      have aE:c≠l.toNat:=by omega
      have bA:eX=.list s' (some (ad b (oo+l.toNat*s'))) (c - l.toNat) ((py.drop l.toNat).take (hh - l).toNat):=by
       show PC.list _ _ _ _=_;rw[if_neg aE];simp[ud]
      rw[bA];constructor
      ·refine .cons _ _ _ _ _ Ea (by omega) g3 (fun e he=>g4 e (zat (zau he))) (fun k j c' hk=>?_) (fun k j c' hk=>g6 _ _ _ (rA hk).1);have:=g5 _ _ _ (rA hk).1;rw[zai] at this;rw[<-this];congr 2;omega
      ·intro x hx;rw[bD.nA] at hx;rcases hx with⟨_,o',jE⟩|⟨k,j,c',hk,hx⟩
       ·injection jE with jE;rw[<-(pZ jE).1];exact p4 b (.here _ _ _ _ g1)
       ·exact p4 x (.there _ _ _ _ _ _ c' (rA hk).1 hx)
   refine j9 r (v:=eX.val) ?_ (RA.il (PC.nG _) ⟨eX,?_,rfl,iG.1,iG.2⟩) (fun q hq=>absurd hq wk) hN
   ·simp only[execOp,ho,hv,za0];simp[hr,eX,PC.val,alD]
   ·show PC.er (.list _ _ _ _)=_;rw[PC.fo,za7,za8,p1]
theorem Lj {b x:Nat} {v:Value} {cur:Array Value} {e:TypeId} (hg:w.heap[b]? =some (.cells cur e (0,0))) (hc:w.cell? (ad b x)=some v):x<cur.size:=by
 have h2:w.cell? (ad b x)=cur[x]? :=by simp[World.cell?,ad,hg]
 rw[h2] at hc;exact(zaB.1 hc).1
theorem ajJ (r:R B E w0 N σ a w G) {t:TypeId} {i:TypeInfo} {x y:Operand} {mx my:MO} {sz n k aR off:Nat} {ag:Bool} {vs cs:List aj} (ho:o.op=.store t x y) (hd:o.dst=none) (oI:cQ x mx=true) (oJ:cQ y my=true)
  (hi:P.info? t=some i) (cX:i.size=sz) (mb:0<sz) (hp:σ.ev mx=.one (.ptr n k aR off)) (hv:(σ.ev my).cells?=some (ag,vs)) (hl:vs.length=sz) (hn:σ.h n=some (.box cs)) (hk:k=0) (kc:off+sz<=cs.length):
  o.wp P a w (Nx B E w0 N (σ.fx n (.box (dz cs off vs)))) Q:=by
 obtain⟨x1,_⟩:=r.ev oI;obtain⟨y1,y2⟩:=r.ev oJ;rw[hp] at x1;subst hk;obtain⟨p1,p2⟩:=(x1.iV (by simp)).1 (by rw[hn];simp);obtain⟨q1,⟨cur,et,q2⟩,q3⟩:=r.hr.box n cs hn;have cY:=y1.cells hv;have Hm:(a.eval y).cells.toList.length=sz:=by rw[cY.1,hl]
 have GS:(G.g n).o+off+(a.eval y).cells.toList.length<=cur.size:=by
  obtain⟨v,v1,_⟩:=q3 (off+sz - 1) (cs[off+sz - 1]'(by omega)) (zac _);have:=Lj q2 v1;omega
 have r':=r.at8 hn cY (fun c hc m hm=>y2 m (ao.AP hv hc hm)) (by omega) q2 GS;have cP:=VI (P:=P) (w:=w) (t:=t) (i:=i) (b:=(G.g n).b) (off:=(G.g n).o+off) (v:=a.eval y) (cur:=cur) (e:=et) hi (by rw[cX,<-Hm];simp) q2 (by simpa using GS) (fun u hu=>by
  obtain⟨j,hj,Hc⟩:=zao hu;have xv:j<vs.length:=by omega
  have:=(cY.2 j _ u (zac xv) (by rw[zac hj,Hc])).1;exact this)
 refine W8 (w':=iZ w (G.g n).b ((G.g n).o+off) (a.eval y).cells.toList cur) ?_ ⟨G,?_⟩
 ·simp only[execOp,ho,p2,zaX,zaN];simp[Instr.storeAt,Instr.sureAddr,cP]
 ·rw[hd];exact r'
theorem ajL (r:R B E w0 N σ a w G) {t:TypeId} {i:TypeInfo} {x y:Operand} {mx my:MO} {sz n k off:Nat} {ag gr:Bool} {m:Mode} {rs:Nat} {xs:List (List C)} {el:List C} {vs:List aj} {σ2:St} (ho:o.op=.store t x y) (hd:o.dst=none) (oI:cQ x mx=true) (oJ:cQ y my=true)
  (hi:P.info? t=some i) (cX:i.size=sz) (mb:0<sz) (hp:σ.ev mx=.one (.ptr n k rs off)) (hv:(σ.ev my).cells?=some (ag,vs)) (hl:vs.length=sz) (hn:σ.h n=some (.row gr m rs xs)) (hk:xs[k]? =some el)
  (hx:pS σ n gr m rs xs k off el vs=some σ2):o.wp P a w (Nx B E w0 N σ2) Q:=by
 obtain⟨x1,_⟩:=r.ev oI;obtain⟨y1,y2⟩:=r.ev oJ;rw[hp] at x1;obtain⟨p1,p2⟩:=(x1.iV (by simp)).1 (by rw[hn];simp);have hr:=r.hr.row n gr m rs xs hn;obtain⟨⟨cur,et,q2⟩,l2,l3⟩:=hr.fN p1;have cY:=y1.cells hv;have Hm:(a.eval y).cells.toList.length=sz:=by rw[cY.1,hl]
 have Ei:off+vs.length<=el.length:=by
  unfold pS at hx;split at hx
  ·cases hx
  ·rename_i gW hs;exact(FA hs).1
 have zh:∃pe,(G.g n).px[k]? =some pe/\pe.map PC.er=el:=by
  have dj:=hk;rw[hr.er,zad] at dj;cases hq:(G.g n).px[k]? with
  |none=>rw[hq] at dj;cases dj
  |some pe=>rw[hq] at dj;simp at dj;exact⟨pe,rfl,dj⟩
 obtain⟨pe,zi,zj⟩:=zh;have MB:pe.length=el.length:=by rw[<-zj];simp
 have GS:(G.g n).o+k*rs+off+(a.eval y).cells.toList.length<=cur.size:=by
  have hc:=l2.2.1 k (off+sz - 1) (pe[off+sz - 1]'(by omega)) ⟨pe,zi,zac _⟩;have:=Lj q2 hc;omega
 obtain⟨G',r'⟩:=r.pS hn p1 hk cY (fun c hc m hm=>y2 m (ao.AP hv hc hm)) hx q2 GS;have cP:=VI (P:=P) (w:=w) (t:=t) (i:=i) (b:=(G.g n).b) (off:=(G.g n).o+k*rs+off) (v:=a.eval y) (cur:=cur) (e:=et) hi (by rw[cX,<-Hm];simp) q2 (by simpa using GS) (fun u hu=>by
  obtain⟨j,hj,Hc⟩:=zao hu;have xv:j<vs.length:=by omega
  exact(cY.2 j _ u (zac xv) (by rw[zac hj,Hc])).1)
 refine W8 (w':=iZ w (G.g n).b ((G.g n).o+k*rs+off) (a.eval y).cells.toList cur) ?_ ⟨G',?_⟩
 ·simp only[execOp,ho,p2];simp[Instr.storeAt,Instr.sureAddr,cP]
 ·rw[hd];exact r'
def AQ (places:List (Nat×Nat)):List (Nat×Operand)->List (Nat×Nat×MO)->Bool
 |[],[]=>true
 |(i,x)::ps,(off,sz,m)::ms=>(places[i]? ==some (off,sz))&&cQ x m&&AQ places ps ms
 |_,_=>false
theorem Zu (r:R B E w0 N σ a w G) (places:List (Nat×Nat)):∀(ps:List (Nat×Operand)) (ms:List (Nat×Nat×MO)) (zs cs:List aj) (cur:Array Value),AQ places ps ms=true->
  dT w G σ.h zs cur.toList->(∀c∈zs,∀m,c.ref m->σ.used m=true)->sr σ.ev zs ms=some cs->
  ∃lT,Instr.fill (places.toArray[·]?) cur (ps.map fun p=>(p.1,a.eval p.2))=some lT/\dT w G σ.h cs lT.toList/\∀c∈cs,∀m,c.ref m->σ.used m=true
 |[],[],zs,cs,cur,_,hz,hr,hx=>by
  simp only[sr] at hx;injection hx with hx;subst hx;exact⟨cur,rfl,hz,hr⟩
 |(i,x)::ps,(off,sz,m)::ms,zs,cs,cur,hc,hz,hr,hx=>by
  simp only[AQ,zas,beq_iff_eq] at hc;obtain⟨⟨c1,c2⟩,c3⟩:=hc;simp only[sr] at hx;split at hx
  ·rename_i ag vs hv;split at hx
   ·rename_i dP;obtain⟨h1,h2⟩:=dP;obtain⟨y1,y2⟩:=r.ev c2;have cY:=y1.cells hv;have qV:(a.eval x).cells.size=sz:=by rw[<-zap,cY.1,h1]
    have hzl:cur.size=zs.length:=by rw[<-zap,hz.1]
    have Bx:dT w G σ.h (dz zs off vs) (dz cur.toList off (a.eval x).cells.toList):=by
     have Sr:(a.eval x).cells.toList.length=vs.length:=cY.1;refine⟨?_,fun j c u hj hu=>?_⟩
     ·rw[Ox (by rw[Sr,hz.1];omega),Ox (by omega),hz.1]
     ·rw[Ad (by omega)] at hj;rw[Ad (by rw[Sr,hz.1];omega),Sr] at hu;by_cases gQ:off<=j/\j<off+vs.length
      ·rw[if_pos gQ] at hj hu;exact cY.2 _ c u hj hu
      ·rw[if_neg gQ] at hj hu;exact hz.2 _ c u hj hu
    obtain⟨lT,e1,e2,e3⟩:=Zu r places ps ms (dz zs off vs) cs (dz cur.toList off (a.eval x).cells.toList).toArray c3 Bx (fun c hc q hq=>by
     simp only[dz,zav] at hc;rcases hc with(hc|hc)|hc
     ·exact hr c (zau hc) q hq
     ·exact y2 q (ao.AP hv hc hq)
     ·exact hr c (zat hc) q hq) hx
    refine⟨lT,?_,e2,e3⟩;simp only[zax] at e1;simp only[zaj,Instr.fill,zax,c1];rw[if_neg (by simp;omega),aao _ _ _ (by omega)];exact e1
   ·cases hx
  ·cases hx
 |[],_::_,_,_,_,hc,_,_,_=>by simp[AQ] at hc
 |(_,_)::_,[],_,_,_,hc,_,_,_=>by simp[AQ] at hc
theorem ajk (r:R B E w0 N σ a w G) {t:TypeId} {parts:Array (Nat×Operand)} {ms:List (Nat×Nat×MO)} {zs cs:List aj} {it:TypeInfo} {z:Value} {yY:Array Field} {places:List (Nat×Nat)} (ho:o.op=.build t parts) (hN:∀n,o.dst=some n->n<N)
  (ze:P.info? t=some it) (hz:it.zero=some z) (hu:P.underlying t=some (.struct yY)) (jk:yY.toList.mapM (fun f=>(P.info? f.type).map fun i=>(f.offset,i.size))=some places)
  (hzc:vz z.cells.toList zs=true) (hc:AQ places parts.toList ms=true) (hx:sr σ.ev zs ms=some cs):o.wp P a w (Nx B E w0 N (σ.put o.dst (.agg cs))) Q:=by
 obtain⟨z1,z2⟩:=Ln (w:=w) (G:=G) (h:=σ.h) hzc;obtain⟨lT,e1,e2,e3⟩:=Zu r places parts.toList ms zs cs z.cells hc z1 (fun c hc m hm=>absurd hm (z2 c hc m)) hx;refine j9 r (v:=.agg lT) ?_ ⟨lT.toList,by simp,e2⟩ (fun m hm=>by obtain⟨c,hc,hm⟩:=hm;exact e3 c hc m hm) hN;have hb:P.built t (parts.map fun p=>(p.1,a.eval p.2)).toList=some lT:=by
  unfold Program.built;simp only[ze,hu,hz,jk,zaH];exact e1
 have cP:=run_build (P:=P) w t _ lT hb;simp only[execOp,ho];simp[cP]
theorem ajB (r:R B E w0 N σ a w G) {f:FuncId} {xs:Array Operand} {ms:List MO} {cs:List aj} (ho:o.op=.makeFunc (.func f) #[] xs) (hN:∀n,o.dst=some n->n<N)
  (hc:ms.length=xs.size/\∀(j:Nat) (x:Operand) (m:MO),xs.toList[j]? =some x->ms[j]? =some m->cQ x m=true)
  (hx:(ms.map σ.ev).mapM (fun v=>match v with|.one c=>if c.nZ=true then none else some c|_=>none)=some cs) (hj:∀c∈cs,c≠ .cd):o.wp P a w (Nx B E w0 N (σ.put o.dst (.one (.fn f cs)))) Q:=by
 have cI:∀(ms:List MO) (xs:List Operand) (cs:List aj),ms.length=xs.length->(∀(j:Nat) (x:Operand) (m:MO),xs[j]? =some x->ms[j]? =some m->cQ x m=true)->
   (ms.map σ.ev).mapM (fun v=>match v with|.one c=>if c.nZ=true then none else some c|_=>none)=some cs->(∀c∈cs,c≠ .cd)->
   (xs.map a.eval).length=cs.length/\∀(j:Nat) (c:aj) (u:Value),cs[j]? =some c->(xs.map a.eval)[j]? =some u->(u.oneCell'=true/\kK w G σ.h c u)/\∀m,c.kq m->σ.used m=true:=by
  intro ms;induction ms with
  |nil=>
   intro xs cs hl _ hx _;have:xs=[]:=zae (by simpa using hl.symm);subst this;simp at hx;subst hx;simp
  |cons m ms ih=>
   intro xs cs hl jh hx hj;match xs,hl with
   |x::xs,hl=>
    simp only[zaj,List.mapM_cons,Option.bind_eq_bind,Option.pure_def] at hx;cases hm:σ.ev m with
    |one c=>
     rw[hm] at hx;by_cases hf:c.nZ=true
     ·simp[hf] at hx
     ·simp only[hf,if_false,zba,Option.bind_some] at hx;cases hr:(ms.map σ.ev).mapM (fun v=>match v with|.one c=>if c.nZ=true then none else some c|_=>none) with
      |none=>rw[hr] at hx;simp at hx
      |some cs'=>
       rw[hr] at hx;simp at hx;subst hx;obtain⟨i1,i2⟩:=ih xs cs' (by simpa using hl) (fun j x m h1 h2=>jh (j+1) x m h1 h2) hr (fun c hc=>hj c (by simp[hc]));refine⟨by simp[i1],fun j c' u kD hu=>?_⟩;cases j with
       |zero=>
        simp at kD hu;subst kD;subst hu;obtain⟨e1,e2⟩:=r.ev (jh 0 x m rfl rfl);rw[hm] at e1 e2;have GY:c.nZ=false:=by simpa using hf
        have h1:=(e1.iV (hj c (by simp)));rw[yF _ _ _ _ _ GY] at h1;exact⟨⟨h1.2,h1.1⟩,fun q hq=>e2 q (by show c.ref q;rw[aj.aei c q GY];exact hq)⟩
       |succ j=>exact i2 j c' u (by simpa using kD) (by simpa using hu)
    |agg j8=>rw[hm] at hx;simp at hx
    |cf l=>rw[hm] at hx;simp at hx
 obtain⟨k1,k2⟩:=cI ms xs.toList cs (by simpa using hc.1) hc.2 hx hj;have ma:∀m,(aj.fn f cs).ref m->σ.used m=true:=fun m hm=>by
  obtain⟨c,mI,hm⟩:=hm;obtain⟨j,kD,xv⟩:=zao mI;have nU:j<(xs.toList.map a.eval).length:=by omega
  exact(k2 j c _ (by rw[zac kD,xv]) (zac nU)).2 m hm
 refine j9 r (v:=.func (.func f) #[] (xs.toList.map a.eval).toArray) ?_ (RA.il rfl ⟨xs.toList.map a.eval,rfl,k1,fun j c u h1 h2=>(k2 j c u h1 h2).1⟩) ma hN;simp only[execOp,ho,Instr.makeFunc];have:Array.map a.eval xs=(xs.toList.map a.eval).toArray:=by apply zbn;simp
 simp[this]
theorem PW {α:Type} {xs:List (List α)} {l k j:Nat} {c:α} (h:At (xs.drop l) k j c):At xs (l+k) j c:=by
 obtain⟨e,he,hj⟩:=h;rw[zaD] at he;exact⟨e,he,hj⟩
theorem kx.drop {px:List (List PC)} (h:kx px) (l:Nat):kx (px.drop l):=
 ⟨fun k j c hk=>h.1 _ _ _ (PW hk),fun k j c k' j' c' b hk dj aE=>h.2 _ _ _ _ _ _ b (PW hk) (PW dj) (fun e=>aE (by injection e with e1 e2;rw[show k=k' by omega,e2]))⟩
end
section
variable {B:Nat} {E:Ex} {w0 w w':World} {G G':Gh} {h h':Nat->Option av} {used used':Nat->Bool} {tk:List PC} {N:Nat}
variable {P:Program} {o:Oper} {a:Act} {σ σ':St} {Q:Exit->Act->World->Prop}
theorem HR.amD (H:HR B E w G h used []) {n sz cap:Nat} {x:Option Addr} {xs:List (List PC)} {m:Mode} (hg:Good w (.list sz x cap xs)) (hs:Sep (.list sz x cap xs)) (ht:F0 w (.list sz x cap xs))
  (hl:∀b,lO b (.list sz x cap xs)->ru G h b/\fy w b/\B<=b) (hn:used n=false):
  ∃G',HR B E w G' (aQ h n (some (.row true m sz (xs.map fun e=>e.map PC.er)))) (aQ used n true) []/\
   bW w G h (fun n=>used n=true) w G' (aQ h n (some (.row true m sz (xs.map fun e=>e.map PC.er))))/\
   RC w G' (aQ h n (some (.row true m sz (xs.map fun e=>e.map PC.er)))) (.sl n sz 0 xs.length) (PC.val (.list sz x cap xs))/\
   ∀b,ru G h b->¬lO b (.list sz x cap xs)->ru G' (aQ h n (some (.row true m sz (xs.map fun e=>e.map PC.er)))) b:=by
 obtain⟨ft,kC,zl⟩:=ht;have hF:∀b,bH b xs->bD b (.list sz x cap xs):=fun b ⟨k,j,c,h1,h2⟩=>.there _ _ _ _ k j c h1 h2;have nq:kx xs:=by cases hs with|list _ _ _ _ h1 h2 h3=>exact⟨h1,h3⟩
 let S:Nat->Prop:=fun b=>m≠ .live/\bH b xs;have H1:HR B E w ⟨fun b=>G.Im b\/S b,G.g⟩ h used []:=H.v8 S (fun b hb=>(hl b (.inl (hF b hb.2))).2.1.lt)
  (fun b hb q hq mM he=>(hl b (.inl (hF b hb.2))).1.2.1 q hq mM he.symm) (fun b hb q gr sz xs hq=>(hl b (.inl (hF b hb.2))).1.2.2 q gr _ sz xs hq) (fun b hb=>.inl (hl b (.inl (hF b hb.2))).2.2)
 obtain⟨p,alV,iH,Bv,Sd,alW,alS⟩:∃p:PB,(p.nl=true->xs=[]/\(true=true->p.cap=0))/\p.px=xs/\
   (p.nl=false->ru ⟨fun b=>G.Im b\/S b,G.g⟩ h p.b/\fy w p.b/\B<=p.b/\∀b,bH b xs->b≠p.b)/\
   (p.nl=false->ry w p.b p.o sz xs/\xs.length<=p.cap/\PL w p sz)/\lm p sz 0 xs.length (PC.val (.list sz x cap xs))/\(p.nl=false->lO p.b (.list sz x cap xs)):=by
  by_cases Rv:cap=0
  ·subst Rv;have hx:xs=[]:=zae (by omega);subst hx;exact⟨⟨true,0,0,0,[],x⟩,fun _=>⟨rfl,fun _=>rfl⟩,rfl,(fun hf=>by cases hf),(fun hf=>by cases hf),.inl ⟨rfl,rfl,rfl,rfl⟩,(fun hf=>by cases hf)⟩
  ·obtain⟨b,o,cur,e,rfl,hh,cX,Bt,dF⟩:=zl.resolve_left Rv;have hT:lO b (.list sz (some (ad b o)) cap xs):=.inr ⟨_,_,_,_,rfl,Rv⟩;obtain⟨l1,l2,l3⟩:=hl b hT;have aE:∀b',bH b' xs->b'≠b:=fun b' ⟨k,j,c,h1,h2⟩ he=>dF k j c h1 (he▸h2);refine⟨⟨false,b,o,cap,xs,none⟩,(fun hf=>by cases hf),rfl,fun _=>⟨⟨fun hi=>hi.elim l1.1 (fun hS=>aE b hS.2 rfl),l1.2⟩,l2,l3,aE⟩,fun _=>⟨?_,kC,Bt,cur,e,hh,cX⟩,.inr ⟨rfl,some (ad b o),by simp[PC.val],by simpa using kC,fun _=>by simp⟩,fun _=>hT⟩;cases hg with
   |nil _ _ _ _=>exact⟨by simp,by rintro k j c ⟨e,he,_⟩;simp at he,by rintro k j c ⟨e,he,_⟩;simp at he⟩
   |cons _ _ _ _ _ h1 h2 h3 h4 h5 h6=>exact⟨h4,h5,h6⟩
 subst iH;have gk:wV B E w ⟨fun b=>G.Im b\/S b,G.g⟩ true m sz (p.px.map fun e=>e.map PC.er) p:=by
  refine⟨ft,rfl,alV,fun hf=>⟨(Bv hf).2.1,(Sd hf).1,(Sd hf).2.1⟩,fun hf _=>(Sd hf).2.2,?_⟩;cases hm:m with
  |aL=>exact fun b hb=>.inr ⟨by simp[hm],hb⟩
  |bc=>exact⟨fun b hb=>⟨.inr ⟨by simp[hm],hb⟩,(hl b (.inl (hF b hb))).2.1,.inl (hl b (.inl (hF b hb))).2.2⟩,nq⟩
  |live=>exact⟨fun b hb=>⟨fun hi=>hi.elim (hl b (.inl (hF b hb))).1.1 (fun hS=>hS.1 hm),(hl b (.inl (hF b hb))).2.1,.inl (hl b (.inl (hF b hb))).2.2⟩,nq⟩
 have Hn:=H1.insert (w':=w) (n:=n) (blk:=.row true m sz (p.px.map fun e=>e.map PC.er)) (p:=p) hn (fun _ _=>rfl) (zaq _)
  (fun hf=>⟨(Bv hf).1,.inl (Bv hf).2.2.1,(Bv hf).2.1.lt⟩) (fun cs c q hb=>by cases hb) (by exact gk)
  (fun gr m' be az hb hm n' cc pJ od ld h0 mK b d7=>(hl b (.inl (hF b d7))).1.2.2 n' cc pJ od ld h0)
  (fun gr be az hb b d7=>⟨fun hf=>(Bv hf).2.2.2 b d7,fun n' h0 qS he=>(hl b (.inl (hF b d7))).1.2.1 n' h0 qS he.symm⟩)
  (fun gr m' be az hb hm i pc b hi=>by simp at hi)
 refine⟨_,Hn,bW.trans (u2:=fun n=>used n=true) (fun _ h=>h) (bW.v8 S _) (bW.insert H1 hn (fun _ _=>rfl)),fun _=>by simpa[cJ] using alW,fun b hb Rp=>?_⟩;refine⟨fun hi=>hi.elim hb.1 (fun hS=>Rp (.inl (hF b hS.2))),fun q hq mM he=>?_,fun q gr mo be az hq d7=>?_⟩
 ·by_cases ib:q=n
  ·subst ib;simp only[cJ] at mM he;exact Rp (he▸alS mM)
  ·rw[dA _ _ _ _ ib] at hq;simp only[dA _ _ _ _ ib] at mM he;exact hb.2.1 q hq mM he
 ·by_cases ib:q=n
  ·subst ib;simp only[cJ] at d7;exact Rp (.inl (hF b d7))
  ·rw[dA _ _ _ _ ib] at hq;simp only[dA _ _ _ _ ib] at d7;exact hb.2.2 q gr mo be az hq d7
structure wS (B:Nat) (w:World) (G:Gh) (h:Nat->Option av) (ps:List PC):Prop where
 gx:∀pc∈ps,Good w pc/\Sep pc/\F0 w pc
 lone:∀pc∈ps,∀b,lO b pc->ru G h b/\fy w b/\B<=b
 qc:ps.Pairwise fun p q=>∀b,lO b p->¬lO b q
theorem wS.tail {p:PC} {ps:List PC} (hi:wS B w G h (p::ps)) (hL:∀b,ru G h b->¬lO b p->ru G' h' b):wS B w G' h' ps:=
 ⟨fun q hq=>hi.gx q (by simp[hq]),fun q hq b hb=>⟨hL b (hi.lone q (by simp[hq]) b hb).1 (fun hp=>(zbb.1 hi.qc).1 q hq b hp hb),(hi.lone q (by simp[hq]) b hb).2⟩,(zbb.1 hi.qc).2⟩
theorem HR.imp {m:Mode}:∀{ps qs:List PC} {σ σ1:St} {G:Gh} {nm gV:Nat} {l:List aj},HR B E w G σ.h σ.used []->σ.imp m nm (ps.map PC.er)=some (l,gV,σ1)->wS B w G σ.h (ps++qs)->
  ∃G',HR B E w G' σ1.h σ1.used []/\bW w G σ.h (fun n=>σ.used n=true) w G' σ1.h/\dT w G' σ1.h l (ps.map PC.val)/\(∀c∈l,∀q,c.ref q->σ1.used q=true)/\σ1.env=σ.env/\
   (∀q,σ.used q=true->σ1.used q=true)/\wS B w G' σ1.h qs
 |[],qs,σ,σ1,G,nm,gV,l,H,hx,hi=>by
  simp only[zaZ,St.imp] at hx;injection hx with hx;injection hx with h1 h2;injection h2 with h2 h3;subst h1 h3;exact⟨G,H,bW.refl _ _ _ _,⟨rfl,by simp⟩,by simp,rfl,fun _ h=>h,by simpa using hi⟩
 |p::ps,qs,σ,σ2,G,nm,gV,l,H,hx,hi=>by
  have gK:∀(x:C) (hx:(match σ.imp m nm (ps.map PC.er) with|some (l,gV,σ2)=>some (aj.c x::l,gV,σ2)|none=>none)=some (l,gV,σ2)) (hp:p.er=x) (dF:∀b,¬lO b p) (hg:Good w p),
    ∃G',HR B E w G' σ2.h σ2.used []/\bW w G σ.h (fun n=>σ.used n=true) w G' σ2.h/\dT w G' σ2.h l ((p::ps).map PC.val)/\(∀c∈l,∀q,c.ref q->σ2.used q=true)/\σ2.env=σ.env/\
     (∀q,σ.used q=true->σ2.used q=true)/\wS B w G' σ2.h qs:=by
   intro x hx hp dF hg;split at hx
   ·rename_i l' H8 iD e1;injection hx with hx;injection hx with h1 h2;injection h2 with h2 h3;subst h1 h2 h3;obtain⟨G',b1,b2,b3,b4,b5,b6,b7⟩:=HR.imp H e1 (hi.tail (fun b hb _=>hb));refine⟨G',b1,b2,⟨by simp[b3.1],fun j c u hj hu=>?_⟩,fun c hc q hq=>?_,b5,b6,b7⟩
    ·cases j with
     |zero=>
      simp at hj hu;subst hj;subst hu;exact⟨PC.nG p,p,hp,rfl,hg,fun b hb=>absurd (.inl hb) (dF b)⟩
     |succ j=>exact b3.2 j c u (by simpa using hj) (by simpa using hu)
    ·cases hc with
     |head=>exact absurd hq id
     |tail _ hc=>exact b4 c hc q hq
   ·cases hx
  cases p with
  |int k n=>exact gK (.int k n) (by simp only[zaj,St.imp,PC.er] at hx;exact hx) (by simp[PC.er]) (fun b hb=>by rcases hb with hb|⟨_,_,_,_,hb,_⟩<;>cases hb) (.int _ _)
  |bool b=>exact gK (.bool b) (by simp only[zaj,St.imp,PC.er] at hx;exact hx) (by simp[PC.er]) (fun b hb=>by rcases hb with hb|⟨_,_,_,_,hb,_⟩<;>cases hb) (.bool _)
  |list sz x cap xs=>
   simp only[zaj,PC.fo,St.imp] at hx;split at hx
   ·rename_i σ1 e1;split at hx
    ·rename_i l' H8 iD e2;injection hx with hx;injection hx with h1 h2;injection h2 with h2 h3;subst h1 h2 h3;obtain⟨hn,rfl⟩:=pE e1;obtain⟨g1,g2,g3⟩:=hi.gx (.list sz x cap xs) (by simp);obtain⟨G1,a1,a2,a3,a4⟩:=H.amD (m:=m) g1 g2 g3 (hi.lone (.list sz x cap xs) (by simp)) hn;obtain⟨G',b1,b2,b3,b4,b5,b6,b7⟩:=HR.imp a1 e2 (hi.tail a4);have En:∀q,σ.used q=true->aQ σ.used nm true q=true:=fun q hq=>vf _ _ hq;refine⟨G',b1,bW.trans En a2 b2,⟨by simp[b3.1],fun j c u hj hu=>?_⟩,fun c hc q hq=>?_,b5,fun q hq=>b6 q (En q hq),b7⟩
     ·cases j with
      |zero=>
       simp at hj hu;subst hj;subst hu;exact⟨rfl,a3.keep b2 fun q hq=>by have gj:q=nm:=hq;subst gj;exact cJ _ _ _⟩
      |succ j=>exact b3.2 j c u (by simpa using hj) (by simpa using hu)
     ·cases hc with
      |head=>have gj:q=nm:=hq;subst gj;exact b6 _ (cJ _ _ _)
      |tail _ hc=>exact b4 c hc q hq
    ·cases hx
   ·cases hx
theorem HR.kG {m:Mode}:∀{bC:List (K×List PC)} {σ σ1:St} {G:Gh} {nm:Nat} {ls:List (Bool×List aj)},HR B E w G σ.h σ.used []->σ.kG m nm (bC.map fun p=>(p.1,p.2.map PC.er))=some (ls,σ1)->
  (∀p∈bC,p.1≠ .ptr/\(p.1=.one->p.2.length=1))->wS B w G σ.h (bC.flatMap (·.2))->
  ∃G',HR B E w G' σ1.h σ1.used []/\bW w G σ.h (fun n=>σ.used n=true) w G' σ1.h/\ls.length=bC.length/\
   (∀(j:Nat) (x:Bool×List aj) (p:K×List PC),ls[j]? =some x->bC[j]? =some p->RV w G' σ1.h x.1 x.2 (tH p))/\(∀x∈ls,∀c∈x.2,∀q,c.ref q->σ1.used q=true)/\σ1.env=σ.env/\
   (∀q,σ.used q=true->σ1.used q=true)
 |[],σ,σ1,G,nm,ls,H,hx,hk,hi=>by
  simp only[zaZ,St.kG] at hx;injection hx with hx;injection hx with h1 h2;subst h1 h2;exact⟨G,H,bW.refl _ _ _ _,rfl,by simp,by simp,rfl,fun _ h=>h⟩
 |(k,ps)::bC,σ,σ2,G,nm,ls,H,hx,hk,hi=>by
  have RY:=hk (k,ps) (by simp);have me:(match σ.imp m nm (ps.map PC.er) with
   |some (l,gV,σ1)=>match σ1.kG m gV (bC.map fun p=>(p.1,p.2.map PC.er)) with
    |some (ls,σ2)=>some ((decide (k=.agg),l)::ls,σ2)
    |none=>none
   |none=>none)=some (ls,σ2):=by
   cases k with
   |ptr=>exact absurd rfl RY.1
   |one=>simp[St.kG] at hx;exact hx
   |agg=>simp[St.kG] at hx;exact hx
  clear hx;split at me
  ·rename_i l gV σ1 e1;split at me
   ·rename_i HU iD e2;injection me with hx;injection hx with h1 h2;subst h1 h2;obtain⟨G1,a1,a2,a3,a4,a5,a6,a7⟩:=HR.imp H e1 (by simpa using hi);obtain⟨G',b1,b2,b3,b4,b5,b6,b7⟩:=HR.kG a1 e2 (fun p hp=>hk p (by simp[hp])) a7;refine⟨G',b1,bW.trans a6 a2 b2,by simp[b3],fun j x p hj hp=>?_,fun x hx c hc q hq=>?_,b6.trans a5,fun q hq=>b7 q (a6 q hq)⟩
    ·cases j with
     |zero=>
      simp at hj hp;subst hj;subst hp;have cY:=dT.keep b2 (fun c hc q hq=>a4 c hc q hq) a3;cases k with
      |ptr=>exact absurd rfl RY.1
      |agg=>exact⟨ps.map PC.val,rfl,cY⟩
      |one=>
       have h1:=RY.2 rfl;match ps,h1 with
       |[p],_=>exact cY
     |succ j=>exact b4 j x p (by simpa using hj) (by simpa using hp)
    ·cases hx with
     |head=>exact b7 q (a4 c hc q hq)
     |tail _ hx=>exact b5 x hx c hc q hq
   ·cases me
  ·cases me
theorem RA.nC {ls:List (Bool×List aj)} {bC:List (K×List PC)} (hlen:ls.length=bC.length) (hk:∀p∈bC,p.1≠ .ptr/\(p.1=.one->p.2.length=1))
  (hv:∀(j:Nat) (x:Bool×List aj) (p:K×List PC),ls[j]? =some x->bC[j]? =some p->RV w G h x.1 x.2 (tH p)):RA w G h (nC ls) (wB bC):=by
 match ls,bC,hlen with
 |[],[],_=>exact⟨[],rfl,rfl,by simp⟩
 |[(ag,cs)],[p],_=>
  have h0:=hv 0 (ag,cs) p rfl rfl;cases ag with
  |true=>exact h0
  |false=>
   have cY:dT w G h cs [tH p]:=h0;match cs,cY.1 with
   |[c],_=>exact .inr h0
 |x::y::ls,p::q::bC,hl=>
  refine⟨(p::q::bC).map tH,rfl,by simpa using hl.symm,fun j x' u hj hu=>?_⟩;rw[zad] at hu;cases hp:(p::q::bC)[j]? with
  |none=>rw[hp] at hu;cases hu
  |some p'=>rw[hp] at hu;simp at hu;subst hu;exact hv j x' p' hj hp
def JW (P:Program) (T:aZ):Prop:=∀f M,aZ.find T.pure f=some M->eY P f M
def cz (P:Program) (f:FuncId):Bool:=
 match P.funcs[f]? with
 |some fn=>fn.body.isSome&&(fn.name != "runtime.NumGoroutine")
 |none=>false
theorem Ff {f:FuncId} (hc:cz P f=true) (args:Array Value):(callFunc f args).run P w=.ok (.enter f args) w:=by
 unfold cz at hc;split at hc
 ·rename_i fn hf;simp only[zas,bne_iff_ne,ne_eq] at hc;obtain⟨h1,h2⟩:=hc;cases hb:fn.body with
  |none=>rw[hb] at h1;cases h1
  |some c=>simp[callFunc,hf,h2,hb]
 ·cases hc
theorem Fr.call (F:Fr B E w0 w) (F':Fr w.heap.size Ex.no w w'):Fr B E w0 w':=
 F.grow (fun b hb=>F'.block b hb id) F'.size F'.os F'.tape F'.output
theorem ajs (r:R B E w0 N σ a w G) {T:aZ} (hT:JW P T) {m:Mode} {f:FuncId} {as:List ao} {vals:List Value} {σ1:St} (hN:∀n,o.dst=some n->n<N)
  (cP:(execOp a.eval o).run P w=.ok (.enter f vals.toArray) w) (hl:vals.length=as.length)
  (qM:∀(j:Nat) (x:ao) (v:Value),as[j]? =some x->vals[j]? =some v->RA w G σ.h x v)
  (hx:w7 T m o.dst f as σ=some σ1):o.wp P a w (Nx B E w0 N σ1) Q:=by
 unfold w7 at hx;split at hx
 ·rename_i ds lW;split at hx
  ·rename_i M hM;split at hx
   ·rename_i rs xE;split at hx
    ·rename_i ls σ2 xu;injection hx with hx;subst hx;have Mn:=r.hr.ot lW hl qM;unfold Oper.wp;rw[cP];refine(hT f M hM ds rs xE w vals Mn).mono fun e w' ⟨bC,p1,p2,p3,p4,p5⟩=>?_;subst p2;have ng:∀b,b<w.heap.size->w'.heap[b]? =w.heap[b]? :=fun b hb=>p5.block b hb id;have H':=r.hr.grow ng p5.size;have gQ:wS B w' G σ.h (bC.flatMap (·.2)):=by
      refine⟨p4.gx,fun pc bA b hb=>?_,?_⟩
      ·obtain⟨n1,n2⟩:=p4.new pc bA b hb;refine⟨⟨fun hi=>?_,fun q hq mM he=>?_,fun q gr mo sz xs hq d7=>?_⟩,n2,zaG r.fr.size n1⟩
       ·have:=r.hr.jq b hi;omega
       ·have:=(r.hr.own q hq mM).2.2;omega
       ·have:=r.hr.u6 hq d7;omega
      ·rw[List.pairwise_iff_getElem];intro i j hi hj kO b hb;exact p4.qc i j _ _ b (by omega) (zac hi) (zac hj) hb
     rw[<-p1] at xu;obtain⟨G',b1,b2,b3,b4,b5,b6,b7⟩:=HR.kG H' xu p3 gQ;have K:bW w G σ.h (fun n=>σ.used n=true) w' G' σ2.h:=bW.trans (fun _ h=>h) (bW.world (fun b hb=>ng b (r.hr.jq b hb)) _) b2;have r2:R B E w0 N σ2 a w' G':=r.step b6 b7 K b1 (r.fr.call p5);refine⟨G',r2.put (RA.nC b3 p3 b4) ?_ hN⟩;intro q hq;match ls,hq with
     |[],hq=>obtain⟨x,hx,_⟩:=hq;simp at hx
     |[(true,cs)],hq=>obtain⟨c,hc,hq⟩:=hq;exact b5 (true,cs) (by simp) c hc q hq
     |[(false,[c])],hq=>exact b5 (false,[c]) (by simp) c (by simp) q hq
     |[(false,[])],hq=>exact absurd hq id
     |[(false,_::_::_)],hq=>exact absurd hq id
     |x::y::ls,hq=>obtain⟨x',me,c,hc,hq⟩:=hq;exact b5 x' me c hc q hq
    ·cases hx
   ·cases hx
  ·cases hx
 ·cases hx
theorem asL {ls:List (Bool×List aj)} {q:Nat} (dF:∀x∈ls,∀c∈x.2,¬c.ref q):¬(nC ls).ref q:=by
 intro hq;match ls,hq with
 |[],hq=>obtain⟨x,hx,_⟩:=hq;simp at hx
 |[(true,cs)],hq=>obtain⟨c,hc,hq⟩:=hq;exact dF (true,cs) (by simp) c hc hq
 |[(false,[c])],hq=>exact dF (false,[c]) (by simp) c (by simp) hq
 |[(false,[])],hq=>exact hq
 |[(false,_::_::_)],hq=>exact hq
 |x::y::ls,hq=>obtain⟨x',me,c,hc,hq⟩:=hq;exact dF x' me c hc hq
def jB:List Operand->List MO->Bool
 |[],[]=>true
 |x::xs,m::ms=>cQ x m&&jB xs ms
 |_,_=>false
theorem R.Ba (r:R B E w0 N σ a w G):∀{xs:List Operand} {ms:List MO},jB xs ms=true->xs.length=ms.length/\
  ∀(j:Nat) (x:ao) (v:Value),(ms.map σ.ev)[j]? =some x->(xs.map a.eval)[j]? =some v->RA w G σ.h x v
 |[],[],_=>⟨rfl,by simp⟩
 |x::xs,m::ms,hc=>by
  simp only[jB,zas] at hc;obtain⟨i1,i2⟩:=r.Ba hc.2;refine⟨by simp[i1],fun j x' v hj hv=>?_⟩;cases j with
  |zero=>simp at hj hv;subst hj;subst hv;exact(r.ev hc.1).1
  |succ j=>exact i2 j x' v (by simpa using hj) (by simpa using hv)
 |[],_::_,hc=>by simp[jB] at hc
 |_::_,[],hc=>by simp[jB] at hc
theorem ajl (r:R B E w0 N σ a w G) {T:aZ} (hT:JW P T) {m:Mode} {f:FuncId} {xs:Array Operand} {ms:List MO} {ts:Array TypeId} {σ1:St} (hN:∀n,o.dst=some n->n<N)
  (ho:o.op=.call {callee:=.value (.func f),args:=xs,argTypes:=ts}) (hf:cz P f=true) (hm:jB xs.toList ms=true)
  (hx:w7 T m o.dst f (ms.map σ.ev) σ=some σ1):o.wp P a w (Nx B E w0 N σ1) Q:=by
 obtain⟨e1,e2⟩:=r.Ba hm;refine ajs r hT (vals:=xs.toList.map a.eval) hN ?_ (by simpa using e1) e2 hx;have he:(xs.toList.map a.eval).toArray=xs.map a.eval:=by apply zbn;simp
 rw[he];simp[execOp,ho,resolve,Deferred.ofValue,invoke,Act.eval,Ff hf]
end
def fF {α:Type}:List (Option Mode)->List α->List (Mode×α)
 |some m::fs,x::xs=>(m,x)::fF fs xs
 |none::fs,_::xs=>fF fs xs
 |_,_=>[]
def pU {α:Type}:List (Option Mode)->List α->List α
 |some _::fs,_::xs=>pU fs xs
 |none::fs,x::xs=>x::pU fs xs
 |[],xs=>xs
 |_,[]=>[]
def dX {α:Type}:aU->List (List α)->List (Mode×α)
 |s::sig,xs::xss=>fF s xs++dX sig xss
 |_,_=>[]
def nF {α:Type}:aU->List (List α)->List α
 |s::sig,xs::xss=>pU s xs++nF sig xss
 |[],xss=>xss.flatten
 |_,[]=>[]
theorem LX {α β:Type} (f:α->β):∀(s:List (Option Mode)) (xs:List α),fF s (xs.map f)=(fF s xs).map fun x=>(x.1,f x.2)
 |some m::fs,x::xs=>by simp only[zaj,fF,LX f fs xs]
 |none::fs,x::xs=>by simp only[zaj,fF,LX f fs xs]
 |[],_=>by simp[fF]
 |some m::fs,[]=>rfl
 |none::fs,[]=>rfl
theorem DT {α β:Type} (f:α->β):∀(s:aU) (xs:List (List α)),dX s (xs.map fun l=>l.map f)=(dX s xs).map fun x=>(x.1,f x.2)
 |s::sig,xs::xss=>by simp only[zaj,dX,zaK,LX f s xs,DT f sig xss]
 |[],_=>by simp[dX]
 |s::sig,[]=>rfl
def zS (s:List (Option Mode)) (n:Nat):Prop:=s=[]\/∃j,n=j+1/\s=List.replicate j none++[some .bc]
theorem Zo {α:Type} (m:Mode) (y:α):∀(xs:List α),fF (List.replicate xs.length none++[some m]) (xs++[y])=[(m,y)]
 |[]=>rfl
 |x::xs=>Zo m y xs
theorem agW {α:Type} (m:Mode) (y:α):∀(xs:List α),pU (List.replicate xs.length none++[some m]) (xs++[y])=xs
 |[]=>rfl
 |x::xs=>congrArg (x::·) (agW m y xs)
structure AF (w:World) (m:Mode) (pc:PC):Prop where
 sep:Sep pc
 un:∀b,bD b pc->fy w b
 fN:∃sz a cap xs,pc=.list sz a cap xs/\0<sz/\(∀b o,a=some (ad b o)->¬bH b xs)/\vF m (xs.map fun e=>e.map PC.er)=true
structure PA where
 k:K
 ps:List PC
 b:Nat
 o:Nat
def wJ (w:World) (d:Dv) (v:Value) (p:PA):Prop:=
 d=(p.k,p.ps.map PC.er)/\(∀pc∈p.ps,Good w pc)/\
 match p.k with
 |.one=>p.ps.map PC.val=[v]
 |.agg=>v=.agg (p.ps.map PC.val).toArray
 |.ptr=>v=.pointer (some (ad p.b p.o))/\p.b<w.heap.size/\∀j c,p.ps[j]? =some c->w.cell? (ad p.b (p.o+j))=some c.val
structure yE (w:World) (sig:aU) (ds:List Dv) (vals:List Value) (pas:List PA):Prop where
 l1:vals.length=ds.length
 l2:pas.length=ds.length
 at_:∀(i:Nat) (d:Dv) (v:Value) (p:PA),ds[i]? =some d->vals[i]? =some v->pas[i]? =some p->wJ w d v p
 ok:∀x∈dX sig (pas.map (·.ps)),AF w x.1 x.2
 qc:(dX sig (pas.map (·.ps))).Pairwise fun x y=>∀b,bD b x.2->¬bD b y.2
 free:∀pc∈nF sig (pas.map (·.ps)),∀x∈dX sig (pas.map (·.ps)),∀b,bD b pc->¬bD b x.2
 ptr:∀p∈pas,p.k=.ptr->∀x∈dX sig (pas.map (·.ps)),¬bD p.b x.2
 aqZ:∀(i:Nat) (p:PA) (s:List (Option Mode)),pas[i]? =some p->sig[i]? =some s->p.k=.ptr->zS s p.ps.length
def yW (fl:List (Mode×PC)):Ex:=⟨fun b=>∃x∈fl,bD b x.2,fun _=>none,fun _ _ h=>(by cases h),fun _=>True⟩
structure rv (w:World) (m:Mode) (pc eX:PC):Prop where
 val:eX.val=pc.val
 gx:Good w eX
 sep:Sep eX
 sub:∀b,bD b eX->bD b pc
 flat:vF m (match eX.er with|.list _ xs=>xs|_=>[])=true
 live:∀sz a cap xs be a' nO az,pc=.list sz a cap xs->eX=.list be a' nO az->be=sz/\a'=a/\nO=cap/\az.length=xs.length/\
  (m=.live->∀k j c,At xs k j c->c.jG=true->∃c',At az k j c'/\c'.val=c.val/\c'.jG=true)
def vo (P:Program) (f:FuncId) (sig:aU) (M:List Dv->Option (List Dv×List C)):Prop:=
 ∀ds rs dK,M ds=some (rs,dK)->∀(w:World) (vals:List Value) (pas:List PA),yE w sig ds vals pas->Calls P f vals.toArray w fun e w'=>
  ∃bC:List (K×List PC),bC.map (fun p=>(p.1,p.2.map PC.er))=rs/\e=.returned (wB bC)/\(∀p∈bC,p.1≠ .ptr/\(p.1=.one->p.2.length=1))/\
   AH w' w.heap.size (bC.flatMap (·.2))/\Fr w.heap.size (yW (dX sig (pas.map (·.ps)))) w w'/\
   ∃qs:List PC,qs.map PC.er=dK/\qs.length=(dX sig (pas.map (·.ps))).length/\
    ∀(i:Nat) (x:Mode×PC) (q:PC),(dX sig (pas.map (·.ps)))[i]? =some x->qs[i]? =some q->rv w' x.1 x.2 q
section
variable {B:Nat} {E:Ex} {w0 w w':World} {G G':Gh} {N:Nat} {h h':Nat->Option av} {used:Nat->Bool}
variable {P:Program} {o:Oper} {a:Act} {σ σ':St} {Q:Exit->Act->World->Prop}
def qz (sz:Nat) (p:PB):PC:=.list sz (if p.nl=true then p.na else some (ad p.b p.o)) p.cap p.px
theorem aen {gr:Bool} {m:Mode} {sz:Nat} {xs:List (List C)} {p:PB} (hr:wV B E w G gr m sz xs p):(qz sz p).er=.list sz xs:=by
 rw[qz,PC.fo,hr.er]
theorem asS {gr:Bool} {m:Mode} {sz:Nat} {xs:List (List C)} {p:PB} (hr:wV B E w G gr m sz xs p) {v:Value} (hv:lm p sz 0 xs.length v):(qz sz p).val=v:=by
 have iH:p.px.length=xs.length:=by rw[hr.er];simp
 rcases hv with⟨hn,rfl,_,hl⟩|⟨hn,a,rfl,hc,ha⟩
 ·simp[qz,PC.val,hn,iH,hl]
 ·have:=ha (.inr rfl);subst this;simp[qz,PC.val,hn,iH]
theorem asR {gr:Bool} {m:Mode} {sz:Nat} {xs:List (List C)} {p:PB} (hr:wV B E w G gr m sz xs p):Good w (qz sz p):=by
 unfold qz;by_cases h0:p.px=[]
 ·rw[h0];exact .nil _ _ _ hr.pos
 ·have bq:p.nl=false:=by
   cases hq:p.nl with
   |false=>rfl
   |true=>exact absurd (hr.nl hq).1 h0
  obtain⟨a1,a2,a3⟩:=hr.fN bq;rw[if_neg (by simp[bq])];exact .cons _ _ _ _ _ h0 a3 hr.pos a2.1 a2.2.1 a2.2.2
theorem Uy {sz:Nat} {p:PB} {b:Nat} (hn:p.nl=true->p.px=[]) (h:bD b (qz sz p)):(p.nl=false/\b=p.b)\/bH b p.px:=by
 unfold qz at h;rw[bD.nA] at h;rcases h with⟨h0,o,ho⟩|⟨k,j,c,hk,hb⟩
 ·cases hq:p.nl with
  |true=>exact absurd (hn hq) h0
  |false=>
   rw[hq] at ho;simp at ho;exact .inl ⟨rfl,(pZ ho).1.symm⟩
 ·exact .inr ⟨k,j,c,hk,hb⟩
def uC (G:Gh) (n b:Nat):Prop:=((G.g n).nl=false/\b=(G.g n).b)\/bH b (G.g n).px
structure vn (B:Nat) (E:Ex) (w:World) (G:Gh) (h:Nat->Option av) (it:dG) (md:Mode) (pc:PC):Prop where
 ok:AF w md pc
 gx:Good w pc
 at_:match it with
  |.nil sz=>pc=.list sz none 0 []
  |.row n=>∃gr m sz xs,h n=some (.row gr m sz xs)/\m≠ .aL/\(md=.live->m=.live)/\pc=qz sz (G.g n)/\vF md xs=true
  |.nest n k off=>∃gr sz xs,h n=some (.row gr .live sz xs)/\md=.bc/\At (G.g n).px k off pc
theorem vn.pi {it:dG} {md:Mode} {pc:PC} (H:HR B E w G h used []) (i:vn B E w G h it md pc) {b:Nat} (hb:bD b pc):
  ∃n gr m sz xs,it.ff=some n/\h n=some (.row gr m sz xs)/\m≠ .aL/\uC G n b/\((∀b,¬bH b (G.g n).px)\/m=.live):=by
 have ha:=i.at_;cases it with
 |nil sz=>
  have ha:pc=.list sz none 0 []:=ha;subst ha;rw[bD.nA] at hb;rcases hb with⟨hb,_⟩|⟨k,j,c,⟨e,he,_⟩,_⟩
  ·exact absurd rfl hb
  ·simp at he
 |row n=>
  obtain⟨gr,m,sz,xs,h1,h2,h3,rfl,h5⟩:=ha;have hr:=H.row n gr m sz xs h1;refine⟨n,gr,m,sz,xs,rfl,h1,h2,Uy (fun hq=>(hr.nl hq).1) hb,?_⟩;cases md with
  |live=>exact .inr (h3 rfl)
  |aL=>cases h5
  |bc=>
   left;intro b' bB;have Mi:jv xs=true:=h5;rw[hr.er] at Mi;obtain⟨k,j,c,⟨e,he,hj⟩,hc⟩:=bB;have h6:=zan.1 Mi (e.map PC.er) (by simp only[zaw];exact⟨e,zaa he,rfl⟩);have h7:=zan.1 h6 c.er (by simp only[zaw];exact⟨c,zaa hj,rfl⟩);exact(Sep.n9 h7).2 b' hc
 |nest n k off=>
  obtain⟨gr,sz,xs,h1,h2,h3⟩:=ha;exact⟨n,gr,.live,sz,xs,rfl,h1,by simp,.inr ⟨k,off,pc,h3,hb⟩,.inr rfl⟩
theorem HR.GH (H:HR B E w G h used []) {n n':Nat} (aE:n≠n') {gr cc:Bool} {m m':Mode} {sz be:Nat} {xs az:List (List C)} (h1:h n=some (.row gr m sz xs)) (h2:h n'=some (.row cc m' be az))
  (cF:(∀b,¬bH b (G.g n').px)\/m'=.live) {b:Nat} (hb:uC G n b):¬uC G n' b:=by
 have e1:h n≠none:=by rw[h1];simp
 have e2:h n'≠none:=by rw[h2];simp
 have own:∀{p q:Nat} {gr:Bool} {m:Mode} {sz:Nat} {xs:List (List C)},h p≠none->h q=some (.row gr m sz xs)->(G.g p).nl=false->¬bH (G.g p).b (G.g q).px:=by
  intro p q gr m sz xs hp hq hl hF;have iv:=(H.row q gr m sz xs hq).mode;cases m with
  |aL=>exact(H.own p hp hl).1 (iv _ hF)
  |bc=>exact(H.own p hp hl).1 (iv.1 _ hF).1
  |live=>exact H.live q gr sz xs hq _ hF p hp hl rfl
 rintro(⟨l2,rfl⟩|b2)
 ·rcases hb with⟨l1,b1⟩|b1
  ·exact H.inj n n' e1 e2 aE l1 l2 b1.symm
  ·exact own e2 h1 l2 b1
 ·rcases hb with⟨l1,rfl⟩|b1
  ·exact own e1 h2 l1 b2
  ·rcases cF with cF|rfl
   ·exact cF b b2
   ·have q2:=(H.row n' cc .live be az h2).mode;have q1:=(H.row n gr m sz xs h1).mode;cases m with
    |aL=>exact(q2.1 b b2).1 (q1 b b1)
    |bc=>exact(q2.1 b b2).1 (q1.1 b b1).1
    |live=>exact H.iF n n' gr .live sz xs cc .live be az h1 h2 (by simp) (by simp) aE b b1 b2
theorem HR.item (H:HR B E w G h used []) {md:Mode} {c:aj} {it:dG} {x:C} {v:Value} (hx:uT h md c=some (it,x)) (hc:RC w G h c v):
  ∃pc:PC,pc.er=x/\pc.val=v/\vn B E w G h it md pc/\it.ff=c.ff:=by
 unfold uT at hx;split at hx
 ·rename_i sz;split at hx
  ·rename_i ft;injection hx with hx;injection hx with h1 h2;subst h1 h2;have dO:v=.slice none 0 0:=hc;subst dO;refine⟨.list sz none 0 [],by simp[PC.fo],rfl,⟨⟨?_,?_,sz,none,0,[],rfl,ft.1,(fun b o h=>by cases h),?_⟩,.nil _ _ _ ft.1,rfl⟩,rfl⟩
   ·refine .list _ _ _ _ ?_ ?_ ?_
    ·rintro k j c ⟨e,he,_⟩;simp at he
    ·rintro b o k j c _ ⟨e,he,_⟩;simp at he
    ·rintro k j c k' j' c' b ⟨e,he,_⟩;simp at he
   ·intro b hb;rw[bD.nA] at hb;rcases hb with⟨hb,_⟩|⟨k,j,c,⟨e,he,_⟩,_⟩
    ·exact absurd rfl hb
    ·simp at he
   ·cases md with
    |aL=>exact absurd rfl ft.2
    |bc=>rfl
    |live=>rfl
  ·cases hx
 ·rename_i n sz lo len;split at hx
  ·rename_i gr m rs xs hn;split at hx
   ·rename_i dP;obtain⟨hm,xy,rfl,rfl,rfl,ni⟩:=dP;injection hx with hx;injection hx with h1 h2;subst h1 h2;have cO:h n≠none:=by rw[hn];simp
    have hs:lm (G.g n) rs 0 xs.length v:=hc cO;have hr:=H.row n gr m rs xs hn;have uJ:(∀b,bH b (G.g n).px->fy w b)/\kx (G.g n).px/\(∀b,bH b (G.g n).px->(G.g n).nl=false->b≠(G.g n).b):=by
     have eA:=hr.mode;cases m with
     |aL=>exact absurd rfl hm
     |bc=>exact⟨fun b hb=>(eA.1 b hb).2.1,eA.2,fun b hb hl gh=>(H.own n cO hl).1 (gh▸(eA.1 b hb).1)⟩
     |live=>exact⟨fun b hb=>(eA.1 b hb).2.1,eA.2,fun b hb hl=>H.live n gr rs xs hn b hb n cO hl⟩
    obtain⟨o1,o2,o3⟩:=uJ;have zl:∀b o,(if(G.g n).nl=true then(G.g n).na else some (ad (G.g n).b (G.g n).o))=some (ad b o)->¬bH b (G.g n).px:=by
     intro b o gD hF;cases hq:(G.g n).nl with
     |true=>rw[(hr.nl hq).1] at hF;obtain⟨k,j,c,⟨e,he,_⟩,_⟩:=hF;simp at he
     |false=>
      rw[hq] at gD;simp at gD;exact o3 b hF hq (pZ gD).1.symm
    refine⟨qz rs (G.g n),aen hr,asS hr hs,⟨⟨.list _ _ _ _ o2.1 (fun b o k j c gD hk hb=>zl b o gD ⟨k,j,c,hk,hb⟩) o2.2,fun b hb=>?_,rs,_,_,_,rfl,hr.pos,zl,by rw[<-hr.er];exact ni⟩,asR hr,
     gr,m,rs,xs,hn,hm,xy,rfl,ni⟩,rfl⟩
    rcases Uy (fun hq=>(hr.nl hq).1) hb with⟨hl,rfl⟩|hF
    ·exact(hr.fN hl).1
    ·exact o1 b hF
   ·cases hx
  ·cases hx
 ·rename_i n k aR off sz len;split at hx
  ·rename_i gr rs xs hn;split at hx
   ·rename_i dP;obtain⟨rfl,rfl⟩:=dP;split at hx
    ·rename_i s ys vV;split at hx
     ·rename_i ni;injection hx with hx;injection hx with h1 h2;subst h1 h2;obtain⟨pc,p1,p2,p3⟩:=hc gr xs hn;have hr:=H.row n gr .live rs xs hn;have bq:(G.g n).nl=false:=by
       cases hq:(G.g n).nl with
       |false=>rfl
       |true=>obtain⟨e,he,_⟩:=p1;rw[(hr.nl hq).1] at he;simp at he
      have iG:Good w pc:=(hr.fN bq).2.1.2.2 _ _ _ p1;have xp:pc.er=.list s ys:=by
       obtain⟨e,he,hj⟩:=p1;rw[hr.er] at vV;simp[he,hj] at vV;exact vV
      have nq:=hr.mode.2.1 _ _ _ p1;cases pc with
      |int k n=>cases p3
      |bool b=>cases p3
      |list s' a' nO px'=>
       rw[PC.fo] at xp;injection xp with g1 g2;subst g1;have lC:jv (px'.map fun e=>e.map PC.er)=true:=by rw[g2];exact ni
       refine⟨_,by rw[PC.fo,g2],p2,⟨⟨nq,fun b hb=>(hr.mode.1 b ⟨k,off,_,p1,hb⟩).2.1,s',a',nO,px',rfl,?_,fun b o _ hF=>?_,lC⟩,iG,gr,rs,xs,hn,rfl,p1⟩,rfl⟩
       ·cases iG with
        |nil _ _ _ h=>exact h
        |cons _ _ _ _ _ _ _ h=>exact h
       ·obtain⟨kk,jj,c,⟨e,he,hj⟩,hc⟩:=hF;have h6:=zan.1 lC (e.map PC.er) (by simp only[zaw];exact⟨e,zaa he,rfl⟩);have h7:=zan.1 h6 c.er (by simp only[zaw];exact⟨c,zaa hj,rfl⟩);exact(Sep.n9 h7).2 b hc
     ·cases hx
    ·cases hx
   ·cases hx
  ·cases hx
 ·cases hx
theorem HR.W4 (H:HR B E w G h used []) {c:aj} {x:C} {v:Value} (hx:Am.dq h c=some x) (hc:RC w G h c v):
  ∃pc:PC,pc.er=x/\pc.val=v/\Good w pc/\∀b,bD b pc->G.Im b\/∃n gr m sz xs,c.ff=some n/\h n=some (.row gr m sz xs)/\uC G n b:=by
 cases c with
 |c y=>
  simp only[Am.dq] at hx;injection hx with hx;subst hx;obtain⟨pc,h1,h2,h3,h4⟩:=hc;exact⟨pc,h1,h2,h3,fun b hb=>.inl (h4 b hb)⟩
 |nil sz=>
  simp only[Am.dq] at hx;split at hx
  ·rename_i ft;injection hx with hx;subst hx;have dO:v=.slice none 0 0:=hc;subst dO;refine⟨.list sz none 0 [],by simp[PC.fo],rfl,.nil _ _ _ ft,fun b hb=>?_⟩;rw[bD.nA] at hb;rcases hb with⟨hb,_⟩|⟨k,j,c,⟨e,he,_⟩,_⟩
   ·exact absurd rfl hb
   ·simp at he
  ·cases hx
 |sl n sz lo len=>
  simp only[Am.dq] at hx;split at hx
  ·rename_i gr m rs xs hn;split at hx
   ·rename_i dP;obtain⟨rfl,hl⟩:=dP;injection hx with hx;subst hx;have hs:lm (G.g n) rs lo len v:=hc (by rw[hn];simp);obtain⟨a1,a2,a3,a4⟩:=II (H.row n gr m rs xs hn) hs hl;exact⟨_,a1,a2,a3,fun b hb=>.inr ⟨n,gr,m,rs,xs,rfl,hn,a4 b hb⟩⟩
   ·cases hx
  ·cases hx
 |ct n k aR off sz len=>
  simp only[Am.dq] at hx;split at hx
  ·rename_i gr rs xs hn;split at hx
   ·rename_i dP;subst dP;obtain⟨pc,p1,p2,p3⟩:=hc gr xs hn;have hr:=H.row n gr .live rs xs hn;have bq:(G.g n).nl=false:=by
     cases hq:(G.g n).nl with
     |false=>rfl
     |true=>obtain⟨e,he,_⟩:=p1;rw[(hr.nl hq).1] at he;simp at he
    refine⟨pc,?_,p2,(hr.fN bq).2.1.2.2 _ _ _ p1,fun b hb=>.inr ⟨n,gr,.live,rs,xs,rfl,hn,.inr ⟨k,off,pc,p1,hb⟩⟩⟩;obtain⟨e,he,hj⟩:=p1;rw[hr.er] at hx;simp[he,hj] at hx;exact hx
   ·cases hx
  ·cases hx
 |ptr _ _ _ _=>simp[Am.dq] at hx
 |dr _ _=>simp[Am.dq] at hx
 |cN _ _ _ _ _ _=>simp[Am.dq] at hx
 |fn _ _=>simp[Am.dq] at hx
 |dY _ _ _ _ _ _=>simp[Am.dq] at hx
 |cd=>simp[Am.dq] at hx
theorem aa5 {ns:List Nat} {n:Nat} {b:av} (hx:fu h ns n=some b):h n=some b/\n∉ns:=by
 unfold fu at hx;split at hx
 ·cases hx
 ·rename_i hc;exact⟨hx,fun hm=>hc (by simpa using hm)⟩
theorem ag4 {ns:List Nat} {c:aj} {x:C} (hx:dq (fu h ns) c=some x):dq h c=some x/\∀n,c.ff=some n->n∉ns:=by
 cases c with
 |c y=>exact⟨hx,by intro n hn;cases hn⟩
 |nil sz=>exact⟨hx,by intro n hn;cases hn⟩
 |sl n sz lo len=>
  simp only[Am.dq] at hx;split at hx
  ·rename_i gr m rs xs hn;obtain⟨h1,h2⟩:=aa5 hn;exact⟨by simp only[Am.dq,h1];exact hx,by intro q hq;injection hq with hq;subst hq;exact h2⟩
  ·cases hx
 |ct n k aR off sz len=>
  simp only[Am.dq] at hx;split at hx
  ·rename_i gr rs xs hn;obtain⟨h1,h2⟩:=aa5 hn;exact⟨by simp only[Am.dq,h1];exact hx,by intro q hq;injection hq with hq;subst hq;exact h2⟩
  ·cases hx
 |ptr _ _ _ _=>simp[Am.dq] at hx
 |dr _ _=>simp[Am.dq] at hx
 |cN _ _ _ _ _ _=>simp[Am.dq] at hx
 |fn _ _=>simp[Am.dq] at hx
 |dY _ _ _ _ _ _=>simp[Am.dq] at hx
 |cd=>simp[Am.dq] at hx
def FO (G:Gh) (h:Nat->Option av) (ns:List Nat) (pc:PC):Prop:=
 ∀b,bD b pc->G.Im b\/∃n gr m sz xs,n∉ns/\h n=some (.row gr m sz xs)/\uC G n b
structure lP (B:Nat) (E:Ex) (w:World) (G:Gh) (h:Nat->Option av) (its:List (dG×Mode)) (fl:List (Mode×PC)):Prop where
 len:its.length=fl.length
 at_:∀(i:Nat) (it:dG×Mode) (x:Mode×PC),its[i]? =some it->fl[i]? =some x->it.2=x.1/\vn B E w G h it.1 x.1 x.2
theorem lP.nil:lP B E w G h [] []:=⟨rfl,by intro i it x h;simp at h⟩
theorem lP.cons {it:dG×Mode} {its:List (dG×Mode)} {x:Mode×PC} {fl:List (Mode×PC)} (h1:it.2=x.1) (h2:vn B E w G h it.1 x.1 x.2) (h3:lP B E w G h its fl):lP B E w G h (it::its) (x::fl):=by
 refine⟨by simp[h3.len],fun i BO x' hi hx=>?_⟩;cases i with
 |zero=>simp at hi hx;subst hi;subst hx;exact⟨h1,h2⟩
 |succ i=>exact h3.at_ i BO x' (by simpa using hi) (by simpa using hx)
theorem lP.append {its q9:List (dG×Mode)} {fl Zz:List (Mode×PC)} (h1:lP B E w G h its fl) (h2:lP B E w G h q9 Zz):lP B E w G h (its++q9) (fl++Zz):=by
 refine⟨by simp[h1.len,h2.len],fun i it x hi hx=>?_⟩;by_cases cD:i<its.length
 ·rw[zaf cD] at hi;rw[zaf (by rw[<-h1.len];exact cD)] at hx;exact h1.at_ i it x hi hx
 ·rw[zag (by omega)] at hi;rw[zag (by rw[<-h1.len];omega)] at hx;rw[h1.len] at hi;exact h2.at_ _ it x hi hx
theorem HR.kT (H:HR B E w G h used []) {ns:List Nat}:∀{fs:List (Option Mode)} {cs:List aj} {xs:List C} {its:List (dG×Mode)} {vs:List Value},Am.kT h (fu h ns) fs cs=some (xs,its)->dT w G h cs vs->
  ∃ps:List PC,ps.map PC.er=xs/\ps.map PC.val=vs/\(∀pc∈ps,Good w pc)/\lP B E w G h its (fF fs ps)/\its.filterMap (·.1.ff)=oR fs cs/\∀pc∈pU fs ps,FO G h ns pc
 |[],cs,xs,its,vs,hx,hc=>by
  simp only[Am.kT] at hx;split at hx
  ·rename_i ys hy;injection hx with hx;injection hx with h1 h2;subst h1 h2;have cI:∀(cs:List aj) (xs:List C) (vs:List Value),Am.jP (fu h ns) cs=some xs->dT w G h cs vs->∃ps:List PC,ps.map PC.er=xs/\ps.map PC.val=vs/\(∀pc∈ps,Good w pc)/\∀pc∈ps,FO G h ns pc:=by
    intro cs;induction cs with
    |nil=>
     intro xs vs hx hc;simp only[Am.jP] at hx;injection hx with hx;subst hx;have:vs=[]:=zae (by simpa using hc.1);subst this;exact⟨[],rfl,rfl,by simp,by simp⟩
    |cons c cs ih=>
     intro xs vs hx hc;simp only[Am.jP] at hx;split at hx
     ·rename_i x az e1 e2;injection hx with hx;subst hx;obtain⟨hlen,cV⟩:=hc;match vs,hlen with
      |v::vs,hlen=>
       obtain⟨v1,v2⟩:=ag4 e1;obtain⟨pc,a1,a2,a3,a4⟩:=H.W4 v1 (cV 0 c v rfl rfl).2;obtain⟨ps,b1,b2,b3,b4⟩:=ih az vs e2 ⟨by simpa using hlen,fun j c u h1 h2=>cV (j+1) c u h1 h2⟩;refine⟨pc::ps,by simp[a1,b1],by simp[a2,b2],fun q hq=>?_,fun q hq=>?_⟩
       ·cases hq with
        |head=>exact a3
        |tail _ hq=>exact b3 q hq
       ·cases hq with
        |head=>exact fun b hb=>(a4 b hb).imp id fun⟨n,gr,m,sz,xs,hn,h1,h2⟩=>⟨n,gr,m,sz,xs,v2 n hn,h1,h2⟩
        |tail _ hq=>exact b4 q hq
     ·cases hx
   obtain⟨ps,b1,b2,b3,b4⟩:=cI cs ys vs hy hc;exact⟨ps,b1,b2,b3,by simpa[fF] using lP.nil,by simp[oR],by simpa[pU] using b4⟩
  ·cases hx
 |f::fs,[],xs,its,vs,hx,hc=>by cases f<;>simp[Am.kT] at hx
 |none::fs,c::cs,xs,its,vs,hx,hc=>by
  simp only[Am.kT] at hx;split at hx
  ·rename_i x az q9 e1 e2;injection hx with hx;injection hx with h1 h2;subst h1 h2;obtain⟨hlen,cV⟩:=hc;match vs,hlen with
   |v::vs,hlen=>
    obtain⟨v1,v2⟩:=ag4 e1;obtain⟨pc,a1,a2,a3,a4⟩:=H.W4 v1 (cV 0 c v rfl rfl).2;obtain⟨ps,b1,b2,b3,b4,b5,b6⟩:=H.kT e2 (vs:=vs) ⟨by simpa using hlen,fun j c u h1 h2=>cV (j+1) c u h1 h2⟩;refine⟨pc::ps,by simp[a1,b1],by simp[a2,b2],fun q hq=>?_,by simpa[fF] using b4,by simpa[oR] using b5,fun q hq=>?_⟩
    ·cases hq with
     |head=>exact a3
     |tail _ hq=>exact b3 q hq
    ·simp only[pU] at hq;cases hq with
     |head=>exact fun b hb=>(a4 b hb).imp id fun⟨n,gr,m,sz,xs,hn,h1,h2⟩=>⟨n,gr,m,sz,xs,v2 n hn,h1,h2⟩
     |tail _ hq=>exact b6 q hq
  ·cases hx
 |some md::fs,c::cs,xs,its,vs,hx,hc=>by
  simp only[Am.kT] at hx;split at hx
  ·rename_i it x az q9 e1 e2;injection hx with hx;injection hx with h1 h2;subst h1 h2;obtain⟨hlen,cV⟩:=hc;match vs,hlen with
   |v::vs,hlen=>
    obtain⟨pc,a1,a2,a3,a4⟩:=H.item e1 (cV 0 c v rfl rfl).2;obtain⟨ps,b1,b2,b3,b4,b5,b6⟩:=H.kT e2 (vs:=vs) ⟨by simpa using hlen,fun j c u h1 h2=>cV (j+1) c u h1 h2⟩;refine⟨pc::ps,by simp[a1,b1],by simp[a2,b2],fun q hq=>?_,?_,?_,fun q hq=>b6 q (by simpa[pU] using hq)⟩
    ·cases hq with
     |head=>exact a3.gx
     |tail _ hq=>exact b3 q hq
    ·simp only[fF];exact lP.cons rfl a3 b4
    ·simp only[oR,<-a4,<-b5];cases iQ:it.ff with
     |none=>simp[iQ]
     |some n=>simp[iQ]
  ·cases hx
theorem HR.n8 (H:HR B E w G h used []) {ns:List Nat}:∀{as:List (Bool×List aj)} {sig:aU} {ds:List Dv} {its:List (dG×Mode)} {vals:List Value},Am.n8 h (fu h ns) sig as=some (ds,its)->vals.length=as.length->
  (∀(j:Nat) (x:Bool×List aj) (v:Value),as[j]? =some x->vals[j]? =some v->RV w G h x.1 x.2 v)->
  ∃pas:List PA,pas.length=ds.length/\vals.length=ds.length/\(∀(i:Nat) (d:Dv) (v:Value) (p:PA),ds[i]? =some d->vals[i]? =some v->pas[i]? =some p->wJ w d v p)/\(∀p∈pas,p.k≠ .ptr)/\
   lP B E w G h its (dX sig (pas.map (·.ps)))/\its.filterMap (·.1.ff)=qt sig as/\∀pc∈nF sig (pas.map (·.ps)),FO G h ns pc
 |[],sig,ds,its,vals,hx,hl,hc=>by
  simp only[Am.n8] at hx;injection hx with hx;injection hx with h1 h2;subst h1 h2;refine⟨[],rfl,by simpa using hl,by simp,by simp,?_,?_,?_⟩
  ·cases sig<;>exact lP.nil
  ·cases sig<;>rfl
  ·cases sig<;>simp[nF]
 |(ag,cs)::as,sig,ds,its,vals,hx,hl,hc=>by
  simp only[Am.n8] at hx;split at hx
  ·rename_i xs HC vC HD e1 e2;injection hx with hx;injection hx with h1 h2;subst h1 h2;match vals,hl with
   |v::vals,hl=>
    have h0:=hc 0 (ag,cs) v rfl rfl;obtain⟨q1,q2,q3,q4,q5,q6,q7⟩:=H.n8 e2 (as:=as) (vals:=vals) (by simpa using hl) (fun j x v h1 h2=>hc (j+1) x v h1 h2);obtain⟨vs,kR,hR⟩:∃vs:List Value,(if ag=true then v=.agg vs.toArray else vs=[v])/\dT w G h cs vs:=by
     unfold RV at h0;split at h0
     ·rename_i cj;obtain⟨vs,e,hR⟩:=h0;exact⟨vs,by rw[if_pos cj];exact e,hR⟩
     ·rename_i cj;exact⟨[v],by rw[if_neg cj],h0⟩
    obtain⟨ps,p1,p2,p3,p4,p5,p6⟩:=H.kT e1 hR;refine⟨⟨if ag=true then .agg else .one,ps,0,0⟩::q1,by simp[q2],by simp[q3],fun i d v' p hd hv hp=>?_,fun p hp=>?_,?_,?_,?_⟩
    ·cases i with
     |zero=>
      simp at hd hv hp;subst hd hv hp;cases ag with
      |true=>
       simp only[if_true] at kR⊢;exact⟨by rw[p1],p3,by simp only[p2];exact kR⟩
      |false=>
       simp only[if_false,zba] at kR⊢;exact⟨by rw[p1],p3,by simp only[p2];exact kR⟩
     |succ i=>exact q4 i d v' p (by simpa using hd) (by simpa using hv) (by simpa using hp)
    ·cases hp with
     |head=>cases ag<;>simp
     |tail _ hp=>exact q5 p hp
    ·cases sig with
     |nil=>
      have e3:fF (aU.hd ([]:aU)) ps=[]:=rfl;rw[e3] at p4;have e4:HC=[]:=zae p4.len;subst e4;have e5:dX (aU.tl ([]:aU)) (q1.map (·.ps))=[]:=rfl;rw[e5] at q6;have e6:HD=[]:=zae q6.len;subst e6;exact lP.nil
     |cons s sig=>exact lP.append p4 q6
    ·cases sig with
     |nil=>
      have e3:fF (aU.hd ([]:aU)) ps=[]:=rfl;rw[e3] at p4;have e4:HC=[]:=zae p4.len;subst e4;have e5:dX (aU.tl ([]:aU)) (q1.map (·.ps))=[]:=rfl;rw[e5] at q6;have e6:HD=[]:=zae q6.len;subst e6;rfl
     |cons s sig=>
      rw[List.filterMap_append,p5,q7.1];rfl
    ·intro pc bA;cases sig with
     |nil=>
      simp only[zaj,nF,zaA,zav] at bA;rcases bA with bA|bA
      ·exact p6 pc bA
      ·exact q7.2 pc (by simpa[nF,aU.tl] using bA)
     |cons s sig=>
      simp only[zaj,nF,zav] at bA;rcases bA with bA|bA
      ·exact p6 pc bA
      ·exact q7.2 pc bA
  ·cases hx
end
section
variable {B:Nat} {E:Ex} {w0 w w':World} {G G':Gh} {N:Nat} {h h':Nat->Option av} {used:Nat->Bool}
variable {P:Program} {o:Oper} {a:Act} {σ σ':St} {Q:Exit->Act->World->Prop}
structure Jj (w':World) (p p':PB) (gr:Bool) (m:Mode) (sz:Nat) (az:List (List C)):Prop where
 m1:m≠ .aL
 fl:(∀b,¬bH b p.px)\/m=.live
 nl:p'.nl=p.nl
 b:p'.b=p.b
 o:p'.o=p.o
 cap:p'.cap=p.cap
 na:p'.na=p.na
 er:az=p'.px.map (fun e=>e.map PC.er)
 nlx:p.nl=true->p'.px=[]
 fN:p.nl=false->ry w' p.b p.o sz p'.px/\p'.px.length<=p.cap
 sep:kx p'.px
 sub:∀b,bH b p'.px->bH b p.px
 live:m=.live->∀k j pc,At p.px k j pc->pc.jG=true->∃eX,At p'.px k j eX/\eX.val=pc.val/\eX.jG=true
theorem HR.ND (H:HR B E w G h used []) {S:Nat->Prop} (cX:w.heap.size<=w'.heap.size)
  (hw:∀b,b<w.heap.size->(∀n,S n->¬uC G n b)->w'.heap[b]? =w.heap[b]?) (oH:∀b,b<w.heap.size->Cz w w' b) (pj:G'.Im=G.Im)
  (hS:∀n,S n->∃gr m sz xs az,h n=some (.row gr m sz xs)/\h' n=some (.row gr m sz az)/\Jj w' (G.g n) (G'.g n) gr m sz az)
  (hN:∀n,¬S n->h' n=h n/\G'.g n=G.g n):HR B E w' G' h' used []/\bW w G h (fun n=>used n=true) w' G' h'/\∀n b,bH b (G'.g n).px->bH b (G.g n).px:=by
 have ne:∀n,h' n≠none->h n≠none:=by
  intro n hn;by_cases hs:S n
  ·obtain⟨gr,m,sz,xs,az,e1,e2,_⟩:=hS n hs;rw[e1];simp
  ·rwa[(hN n hs).1] at hn
 have iN:∀n,(G'.g n).nl=(G.g n).nl/\(G'.g n).b=(G.g n).b/\(G'.g n).o=(G.g n).o/\(G'.g n).cap=(G.g n).cap/\(G'.g n).na=(G.g n).na:=by
  intro n;by_cases hs:S n
  ·obtain⟨gr,m,sz,xs,az,e1,e2,c⟩:=hS n hs;exact⟨c.nl,c.b,c.o,c.cap,c.na⟩
  ·rw[(hN n hs).2];exact⟨rfl,rfl,rfl,rfl,rfl⟩
 have sub:∀n b,bH b (G'.g n).px->bH b (G.g n).px:=by
  intro n b hb;by_cases hs:S n
  ·obtain⟨gr,m,sz,xs,az,e1,e2,c⟩:=hS n hs;exact c.sub b hb
  ·rwa[(hN n hs).2] at hb
 have mT:∀n gr m sz az,h' n=some (.row gr m sz az)->∃xs,h n=some (.row gr m sz xs):=by
  intro n gr m sz az hn;by_cases hs:S n
  ·obtain⟨Mg,m1,rm,xs,tZ,e1,e2,_⟩:=hS n hs;rw[e2] at hn;injection hn with hn;injection hn with a1 a2 a3 a4;subst a1 a2 a3;exact⟨xs,e1⟩
  ·rw[(hN n hs).1] at hn;exact⟨az,hn⟩
 have Yb:∀n cs,h' n=some (.box cs)->h n=some (.box cs)/\¬S n:=by
  intro n cs hn;by_cases hs:S n
  ·obtain⟨Mg,m1,rm,xs,tZ,e1,e2,_⟩:=hS n hs;rw[e2] at hn;cases hn
  ·rw[(hN n hs).1] at hn;exact⟨hn,hs⟩
 have an3:∀b,G.Im b->w'.heap[b]? =w.heap[b]? :=by
  intro b hb;refine hw b (H.jq b hb) fun n hs hf=>?_;obtain⟨gr,m,sz,xs,az,e1,e2,c⟩:=hS n hs;rcases hf with⟨hl,rfl⟩|hF
  ·exact(H.own n (by rw[e1];simp) hl).1 hb
  ·rcases c.fl with c1|rfl
   ·exact c1 b hF
   ·exact((H.row n gr .live sz xs e1).mode.1 b hF).1 hb
 have Ti:∀n,¬S n->h n≠none->(G.g n).nl=false->w'.heap[(G.g n).b]? =w.heap[(G.g n).b]? :=by
  intro n hs hn hl;refine hw _ (H.own n hn hl).2.2 fun q hq hf=>?_;obtain⟨gr,m,sz,xs,az,e1,e2,c⟩:=hS q hq;have aE:n≠q:=fun e=>hs (e▸hq);rcases hf with⟨xw,hb⟩|hF
  ·exact H.inj n q hn (by rw[e1];simp) aE hl xw hb
  ·rcases c.fl with c1|rfl
   ·exact c1 _ hF
   ·exact H.live q gr sz xs e1 _ hF n hn hl rfl
 have an4:∀n gr m sz xs,¬S n->h n=some (.row gr m sz xs)->∀b,bH b (G.g n).px->w'.heap[b]? =w.heap[b]? :=by
  intro n gr m sz xs hs hn b hb;refine hw _ (H.u6 hn hb) fun q hq hf=>?_;obtain⟨cc,m',be,tZ,ahb,e1,e2,c⟩:=hS q hq;have aE:n≠q:=fun e=>hs (e▸hq);exact H.GH aE hn e1 c.fl (.inr hb) hf
 have K:bW w G h (fun n=>used n=true) w' G' h':=by
  refine⟨fun b hb=>by rw[pj];exact hb,fun b hb o=>kM (an3 b hb) o,fun n _ hn=>⟨ne n hn,iN n⟩,fun n gr sz az _ hn=>?_⟩;obtain⟨xs,e⟩:=mT n gr .live sz az hn;refine⟨⟨gr,xs,e⟩,fun k j pc hk hL=>?_⟩;by_cases hs:S n
  ·obtain⟨Mg,m1,rm,tZ,ahb,e1,e2,c⟩:=hS n hs;rw[e] at e1;injection e1 with e1;injection e1 with _ e1 _ _;exact c.live e1.symm k j pc hk hL
  ·rw[(hN n hs).2];exact⟨pc,hk,rfl,hL⟩
 refine⟨⟨fun n hn=>H.kN n (ne n hn),fun m cs c n hm=>H.jQ m cs c n (Yb m cs hm).1,fun n cs hn=>?_,fun n gr m sz az hn=>?_,fun n hn hl=>?_,fun n n' hn bU aE hl eN=>?_,
  fun b hb=>?_,fun b hb=>H.rW b (by rw[pj] at hb;exact hb),fun n n' gr m sz xs cc m' be az hn bU hm cF aE b hb bB=>?_,fun n gr sz xs hn b hb n' bU hl=>?_,?_,?_,?_⟩,K,sub⟩
 ·obtain⟨h1,hs⟩:=Yb n cs hn;obtain⟨a1,a2,a3⟩:=H.box n cs h1;have hb:=Ti n hs (by rw[h1];simp) a1;rw[(hN n hs).2];refine⟨a1,a2.congr hb,fun j c hj=>?_⟩;obtain⟨v,v1,v2,v3⟩:=a3 j c hj;exact⟨v,(kM hb _).trans v1,v2,v3.keep K fun q hq=>H.jQ n cs c q h1 (zaa hj) hq⟩
 ·by_cases hs:S n
  ·obtain⟨Mg,m1,rm,tZ,ahb,e1,e2,c⟩:=hS n hs;rw[e2] at hn;injection hn with hn;injection hn with q1 q2 q3 q4;subst q1 q2 q3 q4;have hr:=H.row n Mg m1 rm tZ e1;refine⟨hr.pos,c.er,fun hl=>?_,fun hl=>?_,fun hl hg=>?_,?_⟩
   ·rw[c.nl] at hl;refine⟨c.nlx hl,fun hg=>?_⟩;rw[c.cap];exact(hr.nl hl).2 hg
   ·rw[c.nl] at hl;obtain⟨l1,l2,l3⟩:=hr.fN hl;obtain⟨c1,c2⟩:=c.fN hl;rw[c.b,c.o,c.cap];exact⟨(oH _ l1.lt).kv l1,c1,c2⟩
   ·rw[c.nl] at hl;obtain⟨r2,cur,e,r3,r4⟩:=hr.room hl hg;obtain⟨lT,s1,s2⟩:=oH (G.g n).b (H.own n (by rw[e1];simp) hl).2.2 cur e r3;unfold PL;rw[c.b,c.o,c.cap];exact⟨r2,lT,e,s1,s2.trans r4⟩
   ·have hm:=hr.mode;cases m1 with
    |aL=>exact absurd rfl c.m1
    |bc=>exact⟨fun b hb=>by
     have bB:=c.sub b hb;have:=hm.1 b bB;exact⟨by rw[pj];exact this.1,(oH b this.2.1.lt).kv this.2.1,this.2.2⟩,c.sep⟩
    |live=>exact⟨fun b hb=>by
     have bB:=c.sub b hb;have:=hm.1 b bB;exact⟨by rw[pj];exact this.1,(oH b this.2.1.lt).kv this.2.1,this.2.2⟩,c.sep⟩
  ·rw[(hN n hs).1] at hn;rw[(hN n hs).2];have hr:=H.row n gr m sz az hn;have gk:=an4 n gr m sz az hs hn;refine⟨hr.pos,hr.er,hr.nl,fun hl=>?_,fun hl hg=>?_,?_⟩
   ·obtain⟨l1,l2,l3⟩:=hr.fN hl;have hb:=Ti n hs (by rw[hn];simp) hl;exact⟨l1.congr hb,l2.congr (fun o=>kM hb o) (fun b' bB o=>kM (gk b' bB) o),l3⟩
   ·obtain⟨r2,cur,e,r3,r4⟩:=hr.room hl hg;exact⟨r2,cur,e,(Ti n hs (by rw[hn];simp) hl).trans r3,r4⟩
   ·have hm:=hr.mode;cases m with
    |aL=>exact fun b hb=>by rw[pj];exact hm b hb
    |bc=>exact⟨fun b hb=>⟨by rw[pj];exact(hm.1 b hb).1,(hm.1 b hb).2.1.congr (gk b hb),(hm.1 b hb).2.2⟩,hm.2⟩
    |live=>exact⟨fun b hb=>⟨by rw[pj];exact(hm.1 b hb).1,(hm.1 b hb).2.1.congr (gk b hb),(hm.1 b hb).2.2⟩,hm.2⟩
 ·obtain⟨s1,s2,s3,s4,s5⟩:=iN n;rw[s1] at hl;rw[s2];obtain⟨o1,o2,o3⟩:=H.own n (ne n hn) hl;exact⟨by rw[pj];exact o1,o2,zak o3 cX⟩
 ·rw[(iN n).1] at hl;rw[(iN n').1] at eN;rw[(iN n).2.1,(iN n').2.1];exact H.inj n n' (ne n hn) (ne n' bU) aE hl eN
 ·rw[pj] at hb;exact zak (H.jq b hb) cX
 ·obtain⟨x1,e1⟩:=mT n gr m sz xs hn;obtain⟨x2,e2⟩:=mT n' cc m' be az bU;exact H.iF n n' gr m sz x1 cc m' be x2 e1 e2 hm cF aE b (sub n b hb) (sub n' b bB)
 ·obtain⟨x1,e1⟩:=mT n gr .live sz xs hn;rw[(iN n').1] at hl;rw[(iN n').2.1];exact H.live n gr sz x1 e1 b (sub n b hb) n' (ne n' bU) hl
 ·intro i pc hi;simp at hi
 ·intro i j pc eX b _ hi;simp at hi
 ·intro i pc n gr m sz xs b hi;simp at hi
def FV (σ σ1:St) (it:dG) (x:C):Prop:=
 match it with
 |.nil _=>True
 |.row n=>∃gr m rs xs az,σ.h n=some (.row gr m rs xs)/\x=.list rs az/\σ1.h n=some (.row gr m rs az)
 |.nest n k off=>∃gr m rs xs e,σ.h n=some (.row gr m rs xs)/\xs[k]? =some e/\σ1.h n=some (.row gr m rs (xs.set k (e.set off x)))
theorem asn {it:dG} {x:C} {σ1:St} (hx:σ.qx it x=some σ1):σ1.env=σ.env/\σ1.used=σ.used/\(∀n,it.ff≠some n->σ1.h n=σ.h n)/\FV σ σ1 it x:=by
 cases it with
 |nil sz=>simp only[St.qx] at hx;injection hx with hx;subst hx;exact⟨rfl,rfl,fun _ _=>rfl,trivial⟩
 |row n=>
  cases x with
  |int k i=>simp[St.qx] at hx
  |bool b=>simp[St.qx] at hx
  |list sz xs=>
   simp only[St.qx] at hx;split at hx
   ·rename_i gr m rs nI hn;split at hx
    ·rename_i e;injection hx with hx;subst hx;subst e;exact⟨rfl,rfl,fun q hq=>dA _ _ _ _ (fun e=>hq (by rw[e];rfl)),gr,m,rs,nI,xs,hn,rfl,cJ _ _ _⟩
    ·cases hx
   ·cases hx
 |nest n k off=>
  simp only[St.qx] at hx;split at hx
  ·rename_i gr m rs xs hn;split at hx
   ·rename_i e he;injection hx with hx;subst hx;exact⟨rfl,rfl,fun q hq=>dA _ _ _ _ (fun e=>hq (by rw[e];rfl)),gr,m,rs,xs,e,hn,he,cJ _ _ _⟩
   ·cases hx
  ·cases hx
theorem FV.congr {σ σ1 τ rq:St} {it:dG} {x:C} (hx:FV σ σ1 it x) (h1:∀n,it.ff=some n->τ.h n=σ.h n) (h2:∀n,it.ff=some n->rq.h n=σ1.h n):FV τ rq it x:=by
 cases it with
 |nil sz=>trivial
 |row n=>obtain⟨gr,m,rs,xs,az,e1,e2,e3⟩:=hx;exact⟨gr,m,rs,xs,az,(h1 n rfl).trans e1,e2,(h2 n rfl).trans e3⟩
 |nest n k off=>obtain⟨gr,m,rs,xs,e,e1,e2,e3⟩:=hx;exact⟨gr,m,rs,xs,e,(h1 n rfl).trans e1,e2,(h2 n rfl).trans e3⟩
theorem QU {it:dG×Mode} {its:List (dG×Mode)} (h:it.1.ff=none):(it::its).filterMap (·.1.ff)=its.filterMap (·.1.ff):=List.filterMap_cons_none h
theorem DU {it:dG×Mode} {its:List (dG×Mode)} {n:Nat} (h:it.1.ff=some n):(it::its).filterMap (·.1.ff)=n::its.filterMap (·.1.ff):=List.filterMap_cons_some h
theorem ad3:∀{its:List (dG×Mode)} {dK:List C} {σ σ1:St},σ.pN its dK=some σ1->(its.filterMap (·.1.ff)).Nodup->σ1.env=σ.env/\σ1.used=σ.used/\
  (∀n,n∉its.filterMap (·.1.ff)->σ1.h n=σ.h n)/\∀(i:Nat) (it:dG×Mode) (x:C),its[i]? =some it->dK[i]? =some x->FV σ σ1 it.1 x
 |[],[],σ,σ1,hx,fP=>by
  simp only[St.pN] at hx;injection hx with hx;subst hx;exact⟨rfl,rfl,fun _ _=>rfl,by intro i it x h;simp at h⟩
 |it::its,x::dK,σ,σ2,hx,fP=>by
  simp only[St.pN] at hx;split at hx
  ·rename_i σ1 e1;obtain⟨p1,p2,p3,p4⟩:=asn e1;have vO:(its.filterMap (·.1.ff)).Nodup:=by
    cases hn:it.1.ff with
    |none=>rw[QU hn] at fP;exact fP
    |some n=>rw[DU hn] at fP;exact(zaL.1 fP).2
   have pw:∀n,it.1.ff=some n->n∉its.filterMap (·.1.ff):=by
    intro n hn;rw[DU hn] at fP;exact(zaL.1 fP).1
   obtain⟨q1,q2,q3,q4⟩:=ad3 hx vO;refine⟨q1.trans p1,q2.trans p2,fun n hn=>?_,fun i BO x' hi me=>?_⟩
   ·have h1:it.1.ff≠some n:=by
     intro e;rw[DU e] at hn;exact hn (by simp)
    have h2:n∉its.filterMap (·.1.ff):=by
     intro hm;apply hn;cases hq:it.1.ff with
     |none=>rw[QU hq];exact hm
     |some q=>rw[DU hq];exact List.mem_cons_of_mem _ hm
    exact(q3 n h2).trans (p3 n h1)
   ·cases i with
    |zero=>
     simp at hi me;subst hi;subst me;exact p4.congr (fun _ _=>rfl) (fun n hn=>q3 n (pw n hn))
    |succ i=>
     have e7:its[i]? =some BO:=by simpa using hi
     refine(q4 i BO x' e7 (by simpa using me)).congr (fun n hn=>?_) (fun _ _=>rfl);refine(p3 n ?_).symm;intro e;refine pw n e ?_;rw[zbc];exact⟨BO,zaa e7,hn⟩
  ·cases hx
 |[],_::_,σ,σ1,hx,_=>by simp[St.pN] at hx
 |_::_,[],σ,σ1,hx,_=>by simp[St.pN] at hx
theorem NE:∀{its:List (dG×Mode)},(its.filterMap (·.1.ff)).Nodup->∀{i j:Nat} {x y:dG×Mode} {n:Nat},its[i]? =some x->its[j]? =some y->x.1.ff=some n->y.1.ff=some n->i=j
 |[],_,i,j,x,y,n,hi,_,_,_=>by simp at hi
 |it::its,fP,i,j,x,y,n,hi,hj,hx,hy=>by
  have vO:(its.filterMap (·.1.ff)).Nodup:=by
   cases hn:it.1.ff with
   |none=>rw[QU hn] at fP;exact fP
   |some n=>rw[DU hn] at fP;exact(zaL.1 fP).2
  have pw:∀n,it.1.ff=some n->∀(k:Nat) (z:dG×Mode),its[k]? =some z->z.1.ff≠some n:=by
   intro n hn k z hk e;rw[DU hn] at fP;exact(zaL.1 fP).1 (zbc.2 ⟨z,zaa hk,e⟩)
  cases i with
  |zero=>
   cases j with
   |zero=>rfl
   |succ j=>
    simp at hi hj;subst hi;exact absurd hy (pw n hx j y hj)
  |succ i=>
   cases j with
   |zero=>
    simp at hi hj;subst hj;exact absurd hx (pw n hy i x hi)
   |succ j=>exact congrArg (·+1) (NE vO (i:=i) (j:=j) (by simpa using hi) (by simpa using hj) hx hy)
end
end Go.Am
