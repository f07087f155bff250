/- Am1, Am2, Am3, Am4, Am5, Am6, Am7, Am8, Am9, Am10, Am11, Am12, Am13, Am14, Am15, Am16, AmM, AmN: parts of the proof. No condition. -/
import Derived.LoopN
import Derived.Orders
import Derived.Laws.AppendOwn
import Derived.Laws.MakeOwn
import Derived.Laws.Tables
import Derived.Below
import Derived.Laws.Small
import Derived.Laws.StructEq
set_option linter.unusedVariables false
set_option linter.unusedSimpArgs false
open List renaming mem_of_getElem?->zaa,getElem?_eq_some_iff->zab,getElem?_eq_getElem->zac,getElem?_map->zad,eq_nil_of_length_eq_zero->zae,getElem?_append_left->zaf,getElem?_append_right->zag,map_cons->zak,all_eq_true->zam,length_nil->zaq,mem_of_mem_drop->zas,mem_of_mem_take->zat,mem_append->zau,getElem_of_mem->zav,getElem?_toArray->zaw,nil_append->zax,length_map->zay,mem_map->zaz,flatten_cons->zaA,length_cons->zaC,getElem?_drop->zaD,length_append->zaF,mem_map_of_mem->zaJ,map_append->zaK,nodup_cons->zaL,mem_or_eq_of_mem_set->zaO,size_toArray->zaQ,append_assoc->zaR,getElem?_take_of_lt->zaS,drop_eq_nil_of_le->zaT,getElem?_set_self->zaU,getElem?_eq_none->zaV,map_nil->zaZ,getElem?_set_ne->za1,take_zero->za2,length_flatMap->za4,flatten_append->za6,map_take->za7,map_drop->za8,ne_nil_of_mem->za9,pairwise_cons->zba,mem_filterMap->zbb,zipIdx_cons->zbe,flatten_nil->zbf,append_nil->zbh,drop_zero->zbi,sum_cons->zbk
open Nat renaming mul_le_mul_right->zah,add_mul->zai,lt_of_lt_of_le->zaj,zero_add->zal,add_assoc->zan,le_refl->zap,le_mul_of_pos_right->zaE,le_trans->zaG,eq_zero_or_pos->zaM,add_zero->zaN,lt_trichotomy->zaP,zero_mul->zaX,mul_comm->zaY,add_le_add_left->za5,div_eq_of_lt->zbd,mul_add_div->zbg,lt_irrefl->zbj,lt_or_ge->zbl
open Array renaming length_toList->zao,getElem?_eq_some_iff->zaB,toList_map->zaH,getD_eq_getD_getElem?->zaI,size_append->zbc
open Bool renaming and_eq_true->zar
open Ne renaming symm->zaW
open Option renaming map_none->za0
open Int renaming toNat_of_nonneg->za3
namespace Go.Am
inductive C where
 |int (k:IntKind) (n:Int)
 |bool (b:Bool)
 |list (sz:Nat) (xs:List (List C))
instance:Inhabited C:=⟨.bool false⟩
def ad (b o:Nat):Addr:=⟨b,o,none⟩
theorem vD (b o n:Nat):(ad b o).add n=ad b (o+n):=by
 unfold ad Addr.add;split
 ·rename_i h;subst h;rfl
 ·rfl
theorem qS {b o b' o':Nat} (h:ad b o=ad b' o'):b=b'/\o=o':=by
 unfold ad at h;injection h with h1 h2;exact⟨h1,h2⟩
inductive PC where
 |int (k:IntKind) (n:Int)
 |bool (b:Bool)
 |list (sz:Nat) (a:Option Addr) (cap:Nat) (xs:List (List PC))
instance:Inhabited PC:=⟨.bool false⟩
mutual
def PC.er:PC->C
 |.int k n=>.int k n
 |.bool b=>.bool b
 |.list sz _ _ xs=>.list sz (PC.I8 xs)
def PC.bq:List PC->List C
 |[]=>[]
 |c::cs=>PC.er c::PC.bq cs
def PC.I8:List (List PC)->List (List C)
 |[]=>[]
 |e::es=>PC.bq e::PC.I8 es
end
theorem PC.ao0 (l:List PC):PC.bq l=l.map PC.er:=by
 induction l with
 |nil=>simp[PC.bq]
 |cons c l ih=>simp[PC.bq,ih]
theorem PC.aoZ (l:List (List PC)):PC.I8 l=l.map (fun e=>e.map PC.er):=by
 induction l with
 |nil=>simp[PC.I8]
 |cons c l ih=>simp[PC.I8,PC.ao0,ih]
theorem PC.fN (sz:Nat) (a:Option Addr) (cap:Nat) (xs:List (List PC)):(PC.list sz a cap xs).er=.list sz (xs.map (fun e=>e.map PC.er)):=by
 simp[PC.er,PC.aoZ]
def PC.val:PC->Value
 |.int k n=>.int k n
 |.bool b=>.bool b
 |.list _ a cap xs=>.slice a xs.length cap
theorem PC.qg (c:PC):c.val.oneCell'=true:=by cases c<;>rfl
def At {α:Type} (xs:List (List α)) (k j:Nat) (c:α):Prop:=∃e,xs[k]? =some e/\e[j]? =some c
inductive bR (b:Nat):PC->Prop where
 |here (sz o cap:Nat) (xs:List (List PC)):xs≠[]->bR b (.list sz (some (ad b o)) cap xs)
 |there (sz:Nat) (a:Option Addr) (cap:Nat) (xs:List (List PC)) (k j:Nat) (c:PC):At xs k j c->bR b c->bR b (.list sz a cap xs)
theorem bR.oE {b sz:Nat} {a:Option Addr} {cap:Nat} {xs:List (List PC)}:
  bR b (.list sz a cap xs)↔(xs≠[]/\∃o,a=some (ad b o))\/∃k j c,At xs k j c/\bR b c:=by
 constructor
 ·intro h;cases h with
  |here sz o cap xs h=>exact .inl ⟨h,o,rfl⟩
  |there sz a cap xs k j c h1 h2=>exact .inr ⟨k,j,c,h1,h2⟩
 ·rintro(⟨h,o,rfl⟩|⟨k,j,c,h1,h2⟩)
  ·exact .here _ _ _ _ h
  ·exact .there _ _ _ _ k j c h1 h2
theorem bR.ay9 {b:Nat} {k:IntKind} {n:Int}:¬bR b (.int k n):=fun h=>by cases h
theorem bR.ay8 {b:Nat} {x:Bool}:¬bR b (.bool x):=fun h=>by cases h
inductive Good (w:World):PC->Prop where
 |int (k:IntKind) (n:Int):Good w (.int k n)
 |bool (b:Bool):Good w (.bool b)
 |nil (sz:Nat) (a:Option Addr) (cap:Nat):0<sz->Good w (.list sz a cap [])
 |cons (sz b o cap:Nat) (xs:List (List PC)):xs≠[]->xs.length<=cap->0<sz->(∀e∈xs,e.length=sz)->
  (∀k j c,At xs k j c->w.cell? (ad b (o+k*sz+j))=some c.val)->(∀k j c,At xs k j c->Good w c)->Good w (.list sz (some (ad b o)) cap xs)
theorem Good.congr {w w':World} {c:PC} (h:Good w c) (hc:∀b,bR b c->∀o,w'.cell? (ad b o)=w.cell? (ad b o)):Good w' c:=by
 induction h with
 |int k n=>exact .int k n
 |bool b=>exact .bool b
 |nil sz a cap h=>exact .nil sz a cap h
 |cons sz b o cap xs h1 h2 h3 h4 h5 h6 ih=>
  refine .cons sz b o cap xs h1 h2 h3 h4 (fun k j c hk=>?_) (fun k j c hk=>ih k j c hk fun b' bX o'=>?_)
  ·rw[hc b (.here _ _ _ _ h1)];exact h5 k j c hk
  ·exact hc b' (.there _ _ _ _ k j c hk bX) o'
theorem acg {xs:List (List PC)} {sz:Nat} (h1:xs≠[]) (h3:0<sz) (h4:∀e∈xs,e.length=sz):∃c,At xs 0 0 c:=by
 cases xs with
 |nil=>exact absurd rfl h1
 |cons e es=>
  have he:=h4 e (by simp);cases e with
  |nil=>simp at he;omega
  |cons c cs=>exact⟨c,c::cs,rfl,rfl⟩
theorem Good.lt {w:World} {c:PC} (h:Good w c) {b:Nat} (hb:bR b c):b<w.heap.size:=by
 induction h with
 |int k n=>cases hb
 |bool b=>cases hb
 |nil sz a cap h=>
  cases hb with
  |here _ _ _ _ h=>exact absurd rfl h
  |there _ _ _ _ k j c h1 h2=>obtain⟨e,he,_⟩:=h1;simp at he
 |cons sz b' o cap xs h1 h2 h3 h4 h5 h6 ih=>
  cases hb with
  |here _ _ _ _ h=>
   obtain⟨c,hc⟩:=acg h1 h3 h4;exact World.block_lt_of_cell? (a:=ad b (o+0*sz+0)) w (h5 0 0 c hc)
  |there _ _ _ _ k j c h1 h2=>exact ih k j c h1 h2
inductive Sep:PC->Prop where
 |int (k:IntKind) (n:Int):Sep (.int k n)
 |bool (b:Bool):Sep (.bool b)
 |list (sz:Nat) (a:Option Addr) (cap:Nat) (xs:List (List PC)):(∀k j c,At xs k j c->Sep c)->
  (∀b o k j c,a=some (ad b o)->At xs k j c->¬bR b c)->
  (∀k j c k' j' c' b,At xs k j c->At xs k' j' c'->(k,j)≠(k',j')->bR b c->¬bR b c')->Sep (.list sz a cap xs)
def bY (b:Nat) (px:List (List PC)):Prop:=∃k j c,At px k j c/\bR b c
def kU (px:List (List PC)):Prop:=
 (∀k j c,At px k j c->Sep c)/\∀k j c k' j' c' b,At px k j c->At px k' j' c'->(k,j)≠(k',j')->bR b c->¬bR b c'
def sV (w:World) (b o sz:Nat) (px:List (List PC)):Prop:=
 (∀e∈px,e.length=sz)/\(∀k j c,At px k j c->w.cell? (ad b (o+k*sz+j))=some c.val)/\∀k j c,At px k j c->Good w c
def fL (w:World) (b:Nat):Prop:=∃arr e,w.heap[b]? =some (.cells arr e (0,0))
theorem fL.lt {w:World} {b:Nat} (h:fL w b):b<w.heap.size:=by
 obtain⟨arr,e,h⟩:=h;exact(zaB.1 h).1
theorem fL.congr {w w':World} {b:Nat} (h:fL w b) (hb:w'.heap[b]? =w.heap[b]?):fL w' b:=by
 obtain⟨arr,e,h⟩:=h;exact⟨arr,e,hb.trans h⟩
theorem lG {w w':World} {b:Nat} (hb:w'.heap[b]? =w.heap[b]?) (o:Nat):w'.cell? (ad b o)=w.cell? (ad b o):=by
 simp[World.cell?,ad,hb]
theorem sV.congr {w w':World} {b o sz:Nat} {px:List (List PC)} (h:sV w b o sz px) (h1:∀o,w'.cell? (ad b o)=w.cell? (ad b o))
  (h2:∀b',bY b' px->∀o,w'.cell? (ad b' o)=w.cell? (ad b' o)):sV w' b o sz px:=
 ⟨h.1,fun k j c hk=>(h1 _).trans (h.2.1 k j c hk),fun k j c hk=>(h.2.2 k j c hk).congr fun b' bX o'=>h2 b' ⟨k,j,c,hk,bX⟩ o'⟩
theorem sV.lt {w:World} {b o sz:Nat} {px:List (List PC)} (h:sV w b o sz px) {b':Nat} (hb:bY b' px):b'<w.heap.size:=by
 obtain⟨k,j,c,hk,hc⟩:=hb;exact(h.2.2 k j c hk).lt hc
inductive ao where
 |c (x:C)
 |nil (sz:Nat)
 |ptr (n k sz off:Nat)
 |dR (xs:List C) (off:Nat)
 |sl (n sz lo len:Nat)
 |cJ (n k aY off sz len:Nat)
 |eG (n k aY off sz i:Nat)
 |fn (f:FuncId) (ed:List ao)
 |cD
instance:Inhabited ao:=⟨.cD⟩
inductive Mode where
 |live|aZ|aV
 deriving DecidableEq
inductive aK where
 |box (cs:List ao)
 |row (gr:Bool) (m:Mode) (sz:Nat) (xs:List (List C))
inductive aA where
 |one (c:ao)
 |agg (cs:List ao)
 |cF (xs:List (Bool×List ao))
instance:Inhabited aA:=⟨.one .cD⟩
structure St where
 env:Nat->aA
 h:Nat->Option aK
 used:Nat->Bool
def aX {α:Type} (f:Nat->α) (k:Nat) (v:α):Nat->α:=fun n=>match Nat.beq n k with
 |true=>v
 |false=>f n
theorem ma {α:Type} (f:Nat->α) (k:Nat) (v:α) (n:Nat):aX f k v n=if n=k then v else f n:=by
 unfold aX;split
 ·rename_i e;rw[if_pos (Nat.eq_of_beq_eq_true e)]
 ·rename_i e;rw[if_neg (fun h=>by rw[h,Nat.beq_refl] at e;cases e)]
theorem cT {α:Type} (f:Nat->α) (k:Nat) (v:α):aX f k v k=v:=by simp[ma]
theorem dN {α:Type} (f:Nat->α) (k n:Nat) (v:α) (h:n≠k):aX f k v n=f n:=by simp[ma,h]
def ao.lY:ao->Nat->Prop
 |.ptr n _ _ _,m=>m=n
 |.sl n _ _ _,m=>m=n
 |.cJ n _ _ _ _ _,m=>m=n
 |.eG n _ _ _ _ _,m=>m=n
 |_,_=>False
def ao.ref:ao->Nat->Prop
 |.fn _ ed,m=>∃x∈ed,x.lY m
 |x,m=>x.lY m
def aA.ref:aA->Nat->Prop
 |.one c,m=>c.ref m
 |.agg cs,m=>∃c∈cs,c.ref m
 |.cF xs,m=>∃x∈xs,∃c∈x.2,c.ref m
structure PB where
 nl:Bool
 b:Nat
 o:Nat
 cap:Nat
 px:List (List PC)
 na:Option Addr
instance:Inhabited PB:=⟨⟨false,0,0,0,[],none⟩⟩
def aU:Nat:=1000000
structure Ex where
 e:Nat->Prop
 rB:Nat->Option PB
 lt:∀n p,rB n=some p->aU<=n
 a:Nat->Prop
instance:CoeFun Ex (fun _=>Nat->Prop):=⟨Ex.e⟩
def Ex.no:Ex:=⟨fun _=>False,fun _=>none,fun _ _ h=>(by cases h),fun _=>True⟩
structure Gh where
 Im:Nat->Prop
 g:Nat->PB
def PC.jX:PC->Bool
 |.list ..=>true
 |_=>false
def nh (p:PB) (sz lo len:Nat) (v:Value):Prop:=
 (p.nl=true/\v=.slice p.na 0 p.cap/\lo=0/\len=0)\/
 (p.nl=false/\∃a,v=.slice a len (p.cap - lo)/\lo+len<=p.cap/\((lo<p.cap\/lo=0)->a=some (ad p.b (p.o+lo*sz))))
def ng (w:World) (G:Gh) (h:Nat->Option aK):ao->Value->Prop
 |.c x,v=>∃pc:PC,pc.er=x/\pc.val=v/\Good w pc/\∀b,bR b pc->G.Im b
 |.nil _,v=>v=.slice none 0 0
 |.ptr n k sz off,v=>h n≠none->(G.g n).nl=false/\v=.pointer (some (ad (G.g n).b ((G.g n).o+k*sz+off)))
 |.dR xs off,v=>∃(b o:Nat) (pe:List PC),v=.pointer (some (ad b (o+off)))/\pe.map PC.er=xs/\G.Im b/\
  ∀j c,pe[j]? =some c->w.cell? (ad b (o+j))=some c.val/\Good w c/\∀b',bR b' c->G.Im b'
 |.sl n sz lo len,v=>h n≠none->nh (G.g n) sz lo len v
 |.cJ n k aY off sz len,v=>∀gr xs,h n=some (.row gr .live aY xs)->∃pc,At (G.g n).px k off pc/\pc.val=v/\pc.jX=true
 |.eG n k aY off sz i,v=>∀gr xs,h n=some (.row gr .live aY xs)->∃(pc:PC) (b o len cap:Nat),At (G.g n).px k off pc/\pc.val=.slice (some (ad b o)) len cap/\pc.jX=true/\v=.pointer (some (ad b (o+i*sz)))
 |.fn _ _,_=>False
 |.cD,_=>True
def RC (w:World) (G:Gh) (h:Nat->Option aK):ao->Value->Prop
 |.fn f ed,v=>∃vs:List Value,v=.func (.func f) #[] vs.toArray/\vs.length=ed.length/\∀(j:Nat) (c:ao) (u:Value),ed[j]? =some c->vs[j]? =some u->u.oneCell'=true/\ng w G h c u
 |c,v=>ng w G h c v
def ao.wj:ao->Bool
 |.fn _ _=>true
 |_=>false
theorem Iz (w:World) (G:Gh) (h:Nat->Option aK) (c:ao) (v:Value) (hc:c.wj=false):RC w G h c v=ng w G h c v:=by
 cases c<;>first|rfl|(simp[ao.wj] at hc)
theorem ao.aAR (c:ao) (m:Nat) (hc:c.wj=false):c.ref m=c.lY m:=by
 cases c<;>first|rfl|(simp[ao.wj] at hc)
def eO (w:World) (G:Gh) (h:Nat->Option aK) (cs:List ao) (vs:List Value):Prop:=
 vs.length=cs.length/\∀(j:Nat) (c:ao) (u:Value),cs[j]? =some c->vs[j]? =some u->u.oneCell'=true/\RC w G h c u
def RV (w:World) (G:Gh) (h:Nat->Option aK) (ag:Bool) (cs:List ao) (v:Value):Prop:=
 if ag then∃vs:List Value,v=.agg vs.toArray/\eO w G h cs vs else eO w G h cs [v]
def RA (w:World) (G:Gh) (h:Nat->Option aK):aA->Value->Prop
 |.one c,v=>c=.cD\/RV w G h false [c] v
 |.agg cs,v=>RV w G h true cs v
 |.cF xs,v=>∃vs:List Value,v=.tuple vs.toArray/\vs.length=xs.length/\∀(j:Nat) (x:Bool×List ao) (u:Value),xs[j]? =some x->vs[j]? =some u->RV w G h x.1 x.2 u
structure cr (w:World) (G:Gh) (h:Nat->Option aK) (used:Nat->Prop) (w':World) (G':Gh) (h':Nat->Option aK):Prop where
 im:∀b,G.Im b->G'.Im b
 cell:∀b,G.Im b->∀o,w'.cell? (ad b o)=w.cell? (ad b o)
 name:∀n,used n->h' n≠none->h n≠none/\(G'.g n).nl=(G.g n).nl/\(G'.g n).b=(G.g n).b/\(G'.g n).o=(G.g n).o/\(G'.g n).cap=(G.g n).cap/\(G'.g n).na=(G.g n).na
 live:∀n gr sz xs,used n->h' n=some (.row gr .live sz xs)->(∃C9 oL,h n=some (.row C9 .live sz oL))/\
  ∀k j pc,At (G.g n).px k j pc->pc.jX=true->∃fh,At (G'.g n).px k j fh/\fh.val=pc.val/\fh.jX=true
section
variable {w w':World} {G G':Gh} {h h':Nat->Option aK} {used:Nat->Prop}
theorem ng.fu (K:cr w G h used w' G' h') {c:ao} {v:Value} (hr:∀m,c.lY m->used m) (hc:ng w G h c v):ng w' G' h' c v:=by
 cases c with
 |c x=>
  obtain⟨pc,h1,h2,h3,h4⟩:=hc;exact⟨pc,h1,h2,h3.congr fun b hb o=>K.cell b (h4 b hb) o,fun b hb=>K.im b (h4 b hb)⟩
 |nil sz=>exact hc
 |ptr n k sz off=>
  intro hn;obtain⟨h0,e1,e2,e3,e4,e5⟩:=K.name n (hr n rfl) hn;rw[e1,e2,e3];exact hc h0
 |dR xs off=>
  obtain⟨b,o,pe,h1,h2,h3,h4⟩:=hc;refine⟨b,o,pe,h1,h2,K.im b h3,fun j c hj=>?_⟩;obtain⟨a1,a2,a3⟩:=h4 j c hj;exact⟨(K.cell b h3 _).trans a1,a2.congr fun b' bX o'=>K.cell b' (a3 b' bX) o',fun b' bX=>K.im b' (a3 b' bX)⟩
 |sl n sz lo len=>
  intro hn;obtain⟨h0,e1,e2,e3,e4,e5⟩:=K.name n (hr n rfl) hn;have:=hc h0;unfold nh at*
  rw[e1,e2,e3,e4,e5];exact this
 |cJ n k aY off sz len=>
  intro gr xs hn;obtain⟨⟨C9,oL,h0⟩,hl⟩:=K.live n gr aY xs (hr n rfl) hn;obtain⟨pc,p1,p2,p3⟩:=hc C9 oL h0;obtain⟨fh,q1,q2,q3⟩:=hl k off pc p1 p3;exact⟨fh,q1,q2.trans p2,q3⟩
 |eG n k aY off sz i=>
  intro gr xs hn;obtain⟨⟨C9,oL,h0⟩,hl⟩:=K.live n gr aY xs (hr n rfl) hn;obtain⟨pc,b,o,len,cap,p1,p2,p3,p4⟩:=hc C9 oL h0;obtain⟨fh,q1,q2,q3⟩:=hl k off pc p1 p3;exact⟨fh,b,o,len,cap,q1,q2.trans p2,q3,p4⟩
 |fn f ed=>exact hc
 |cD=>trivial
theorem RC.fu (K:cr w G h used w' G' h') {c:ao} {v:Value} (hr:∀m,c.ref m->used m) (hc:RC w G h c v):RC w' G' h' c v:=by
 by_cases hf:c.wj=false
 ·rw[Iz _ _ _ _ _ hf] at*
  exact hc.fu K fun m hm=>hr m (by rw[ao.aAR c m hf];exact hm)
 ·cases c<;>first|(simp[ao.wj] at hf;done)|skip
  obtain⟨vs,h1,h2,h3⟩:=hc;exact⟨vs,h1,h2,fun j c u hj hu=>⟨(h3 j c u hj hu).1,(h3 j c u hj hu).2.fu K fun m hm=>hr m ⟨c,zaa hj,hm⟩⟩⟩
theorem eO.fu (K:cr w G h used w' G' h') {cs:List ao} {vs:List Value} (hr:∀c∈cs,∀m,c.ref m->used m) (hc:eO w G h cs vs):eO w' G' h' cs vs:=
 ⟨hc.1,fun j c u hj hu=>⟨(hc.2 j c u hj hu).1,(hc.2 j c u hj hu).2.fu K (hr c (zaa hj))⟩⟩
theorem RV.fu (K:cr w G h used w' G' h') {ag:Bool} {cs:List ao} {v:Value} (hr:∀c∈cs,∀m,c.ref m->used m) (hc:RV w G h ag cs v):RV w' G' h' ag cs v:=by
 unfold RV at*
 split
 ·rename_i h1;simp only[h1,if_true] at hc;obtain⟨vs,e,hv⟩:=hc;exact⟨vs,e,hv.fu K hr⟩
 ·rename_i h1;simp only[h1] at hc;exact eO.fu K hr hc
theorem RA.fu (K:cr w G h used w' G' h') {x:aA} {v:Value} (hr:∀m,x.ref m->used m) (hc:RA w G h x v):RA w' G' h' x v:=by
 cases x with
 |one c=>exact hc.imp id fun hv=>hv.fu K fun c' dJ m hm=>hr m (by simp at dJ;subst dJ;exact hm)
 |agg cs=>exact RV.fu K (fun c' dJ m hm=>hr m ⟨c',dJ,hm⟩) hc
 |cF xs=>
  obtain⟨vs,e,hl,hv⟩:=hc;exact⟨vs,e,hl,fun j x u hj hu=>(hv j x u hj hu).fu K fun c' dJ m hm=>hr m ⟨x,zaa hj,c',dJ,hm⟩⟩
end
def Tj (w:World) (p:PB) (sz:Nat):Prop:=p.cap<=maxLen/\∃cur e,w.heap[p.b]? =some (.cells cur e (0,0))/\cur.size=p.o+p.cap*sz
def MJ (B:Nat) (E:Ex) (w:World) (G:Gh) (px:List (List PC)):Mode->Prop
 |.aV=>∀b,bY b px->G.Im b
 |.aZ=>(∀b,bY b px->G.Im b/\fL w b/\(B<=b\/E b))/\kU px
 |.live=>(∀b,bY b px->¬G.Im b/\fL w b/\(B<=b\/E b))/\kU px
structure yz (B:Nat) (E:Ex) (w:World) (G:Gh) (gr:Bool) (m:Mode) (sz:Nat) (xs:List (List C)) (p:PB):Prop where
 pos:0<sz
 er:xs=p.px.map (fun e=>e.map PC.er)
 nl:p.nl=true->p.px=[]/\(gr=true->p.cap=0)
 gd:p.nl=false->fL w p.b/\sV w p.b p.o sz p.px/\p.px.length<=p.cap
 room:p.nl=false->gr=true->Tj w p sz
 mode:MJ B E w G p.px m
structure HR (B:Nat) (E:Ex) (w:World) (G:Gh) (h:Nat->Option aK) (used:Nat->Bool) (tk:List PC):Prop where
 lI:∀n,h n≠none->used n=true
 j7:∀m cs c n,h m=some (.box cs)->c∈cs->c.ref n->used n=true
 box:∀n cs,h n=some (.box cs)->(G.g n).nl=false/\fL w (G.g n).b/\
  ∀(j:Nat) (c:ao),cs[j]? =some c->∃v,w.cell? (ad (G.g n).b ((G.g n).o+j))=some v/\v.oneCell'=true/\RC w G h c v
 row:∀n gr m sz xs,h n=some (.row gr m sz xs)->yz B E w G gr m sz xs (G.g n)
 own:∀n,h n≠none->(G.g n).nl=false->¬G.Im (G.g n).b/\(B<=(G.g n).b\/E (G.g n).b)/\(G.g n).b<w.heap.size
 inj:∀n n',h n≠none->h n'≠none->n≠n'->(G.g n).nl=false->(G.g n').nl=false->(G.g n).b≠(G.g n').b
 jM:∀b,G.Im b->b<w.heap.size
 tC:∀b,G.Im b->B<=b\/E b\/E.a b
 ja:∀n n' gr m sz xs cv m' bu aM,h n=some (.row gr m sz xs)->h n'=some (.row cv m' bu aM)->m≠ .aV->m'≠ .aV->n≠n'->
  ∀b,bY b (G.g n).px->¬bY b (G.g n').px
 live:∀n gr sz xs,h n=some (.row gr .live sz xs)->∀b,bY b (G.g n).px->∀n',h n'≠none->(G.g n').nl=false->b≠(G.g n').b
 vo:∀(i:Nat) (pc:PC),tk[i]? =some pc->Sep pc/\∀b,bR b pc->G.Im b/\fL w b/\(B<=b\/E b)
 z6:∀(i j:Nat) (pc fh:PC) (b:Nat),i≠j->tk[i]? =some pc->tk[j]? =some fh->bR b pc->¬bR b fh
 vp:∀(i:Nat) (pc:PC) (n:Nat) (gr:Bool) (m:Mode) (sz:Nat) (xs:List (List C)) (b:Nat),tk[i]? =some pc->h n=some (.row gr m sz xs)->m≠ .aV->bR b pc->¬bY b (G.g n).px
def Cz (w w':World) (b:Nat):Prop:=∀arr e,w.heap[b]? =some (.cells arr e (0,0))->∃acf,w'.heap[b]? =some (.cells acf e (0,0))/\acf.size=arr.size
theorem Cz.refl (w:World) (b:Nat):Cz w w b:=fun arr _ h=>⟨arr,h,rfl⟩
theorem Cz.of_eq {w w':World} {b:Nat} (h:w'.heap[b]? =w.heap[b]?):Cz w w' b:=fun arr _ h1=>⟨arr,h.trans h1,rfl⟩
theorem Cz.trans {w w1 w2:World} {b:Nat} (h1:Cz w w1 b) (h2:Cz w1 w2 b):Cz w w2 b:=fun arr e h=>by
 obtain⟨a1,e1,s1⟩:=h1 arr e h;obtain⟨a2,e2,s2⟩:=h2 a1 e e1;exact⟨a2,e2,s2.trans s1⟩
theorem Cz.kS {w w':World} {b:Nat} (h:Cz w w' b) (hu:fL w b):fL w' b:=by
 obtain⟨arr,e,hu⟩:=hu;obtain⟨a,e1,_⟩:=h arr e hu;exact⟨a,e,e1⟩
structure Fr (B:Nat) (E:Ex) (w0 w:World):Prop where
 os:w.os=w0.os
 tape:w.tape=w0.tape
 output:w.output=w0.output
 size:B<=w.heap.size
 block:∀b,b<B->¬E b->w.heap[b]? =w0.heap[b]?
 kS:∀b,b<B->Cz w0 w b
def am7 (p q:PB) (b:aK):Prop:=
 q.nl=p.nl/\q.b=p.b/\q.o=p.o/\q.cap=p.cap/\q.na=p.na/\
  ∀gr sz xs,b=.row gr .live sz xs->∀k j pc,At p.px k j pc->pc.jX=true->∃fh,At q.px k j fh/\fh.val=pc.val/\fh.jX=true
structure R (B:Nat) (E:Ex) (w0:World) (N:Nat) (σ:St) (a:Act) (w:World) (G:Gh):Prop where
 defers:a.defers=[]
 size:a.tmps.size=N
 env:∀s,RA w G σ.h (σ.env s) (a.tmps.getD s undef)
 wS:∀s n,(σ.env s).ref n->σ.used n=true
 hr:HR B E w G σ.h σ.used []
 fr:Fr B E w0 w
 rB:∀n p b,E.rB n=some p->σ.h n=some b->am7 p (G.g n) b
 Ec:∀n,aU<=n->σ.used n=true
inductive MO where
 |t (n:Nat)
 |k (v:aA)
inductive bm where
 |mv (x:MO)
 |pick (c x y:MO)
 |alloc (zs:List ao)
 |box (sz:Nat) (x:MO)
 |build (zs:List ao) (parts:List (Nat×Nat×MO))
 |gy (sz:Nat) (parts:List MO)
 |load (ag:Bool) (sz:Nat) (x:MO)
 |tF (ag:Bool) (sz:Nat) (x:MO)
 |store (sz:Nat) (x v:MO)
 |jZ (x:MO)
 |bin (op:BinOp) (x y:MO)
 |sZ (op:BinOp) (x y:MO)
 |un (op:UnOp) (x:MO)
 |conv (k:IntKind) (x:MO)
 |kv (m:Mode) (sz by_:Nat) (zs:List C) (l c:MO)
 |slice (sz:Nat) (x:MO) (lo hi:Option MO)
 |tail (sz:Nat) (x lo:MO)
 |q8 (off:Nat) (x:MO)
 |qE (sz:Nat) (x i:MO)
 |ext (i:Nat) (x:MO)
 |uv (ag:Bool) (off sz:Nat) (x:MO)
 |tP (f:FuncId) (gu:Bool) (x:MO)
 |len (x:MO)
 |append (fl:Bool) (sz by_:Nat) (x y:MO)
 |copy (sz:Nat) (x y:MO)
 |nY (z:C) (x:MO)
 |mm (mx:Bool) (x y:MO)
 |call (m:Mode) (f:FuncId) (xs:List MO)
 |qU (f:FuncId) (xs:List MO)
 |uW (f:FuncId) (xs:List MO)
 |qV (m:Mode) (x:MO) (xs:List MO)
 |g7 (m:Mode) (f:FuncId) (xs:List MO)
 |mn (f:FuncId) (xs:List MO)
 |pF (f:FuncId) (xs:List MO)
 |nX (f:FuncId) (xs:List MO)
 |pG (m:Mode) (f:FuncId) (xs:List MO)
structure cZ where
 dst:Option Nat
 op:bm
 guard:Option (Nat×Bool)
inductive lF where
 |skip
 |dB (vL:Bool) (ops:List cZ)
 |o9 (ps:List (Nat×Nat)) (ops:List cZ)
 |seq (a b:lF)
 |cond (c:MO) (a b:lF)
 |block (id:Nat) (c:lF)
 |join (ke kh:List Nat) (cn:List (Bool×Nat×Nat×Nat×Mode)) (c:lF)
 |loop (id:Nat) (ke kh:List Nat) (cn:List (Bool×Nat×Nat×Nat×Mode)) (c:lF)
 |exit (id:Nat)
 |ret
inductive K where
 |one|agg|ptr
 deriving DecidableEq
abbrev Dv:=K×List C
abbrev bi:=List (List (Option Mode))
structure br where
 pure:List (FuncId×(List Dv->Option (List Dv)))
 BJ:List (FuncId×bi×(List Dv->Option (List Dv×List C)))
 vs:List (FuncId×(List Dv->Option (List Dv×List C)))
 ws:List (FuncId×bi×(List Dv->Option (Nat×Nat)))
 xs:List (FuncId×Nat×(List Dv->Option (List Dv×List C)))
def br.rS:List (FuncId×bi×(List Dv->Option (List Dv×List C)))->FuncId->Option (bi×(List Dv->Option (List Dv×List C)))
 |[],_=>none
 |(g,M)::l,f=>if f=g then some M else br.rS l f
def br.vM:List (FuncId×bi×(List Dv->Option (Nat×Nat)))->FuncId->Option (bi×(List Dv->Option (Nat×Nat)))
 |[],_=>none
 |(g,M)::l,f=>if f=g then some M else br.vM l f
def br.vN:List (FuncId×Nat×(List Dv->Option (List Dv×List C)))->FuncId->Option (Nat×(List Dv->Option (List Dv×List C)))
 |[],_=>none
 |(g,M)::l,f=>if f=g then some M else br.vN l f
def br.n7:List (FuncId×(List Dv->Option (List Dv×List C)))->FuncId->Option (List Dv->Option (List Dv×List C))
 |[],_=>none
 |(g,M)::l,f=>if f=g then some M else br.n7 l f
def br.find:List (FuncId×(List Dv->Option (List Dv)))->FuncId->Option (List Dv->Option (List Dv))
 |[],_=>none
 |(g,M)::l,f=>if f=g then some M else br.find l f
inductive vB where
 |gN (σ:St)
 |ext (id:Nat) (σ:St)
 |ret (σ:St)
def St.ev (σ:St):MO->aA
 |.t n=>σ.env n
 |.k v=>v
def St.put (σ:St) (d:Option Nat) (v:aA):St:=
 match d with
 |some n=>{σ with env:=aX σ.env n v}
 |none=>σ
def St.ins (σ:St) (n:Nat) (b:aK):Option St:=
 if σ.used n=true then none else some {σ with h:=aX σ.h n (some b),used:=aX σ.used n true}
def St.fK (σ:St) (n:Nat) (b:aK):St:={σ with h:=aX σ.h n (some b)}
def St.del (σ:St) (n:Nat):St:={σ with h:=aX σ.h n none}
def aA.cells?:aA->Option (Bool×List ao)
 |.one .cD=>none
 |.one c=>some (false,[c])
 |.agg cs=>some (true,cs)
 |.cF _=>none
def qN:Bool->List ao->aA
 |true,cs=>.agg cs
 |false,[c]=>.one c
 |false,_=>.one .cD
def sub {α:Type} (l:List α) (off sz:Nat):Option (List α):=if off+sz<=l.length then some ((l.drop off).take sz) else none
def dM {α:Type} (l:List α) (off:Nat) (vs:List α):List α:=l.take off++vs++l.drop (off+vs.length)
def C.gV:C->Bool
 |.list ..=>false
 |_=>true
def iG (l:List C):Bool:=l.all C.gV
def jQ (l:List (List C)):Bool:=l.all iG
def jY (n k rs:Nat):Nat->List C->List ao
 |_,[]=>[]
 |off,.list sz ys::l=>.cJ n k rs off sz ys.length::jY n k rs (off+1) l
 |off,x::l=>.c x::jY n k rs (off+1) l
def loadAt (h:Nat->Option aK) (p:ao) (sz:Nat):Option (List ao):=
 match p with
 |.ptr n k aY off=>
  match h n with
  |some (.box cs)=>if k=0 then sub cs off sz else none
  |some (.row _ m rs xs)=>
   if aY=rs then
    match xs[k]? with
    |some e=>match sub e off sz with
     |some l=>some (if m=.live then jY n k rs off l else l.map .c)
     |none=>none
    |none=>none
   else none
  |none=>none
 |.dR xs off=>(sub xs off sz).map (·.map .c)
 |_=>none
def dH (h:Nat->Option aK):ao->Option C
 |.c x=>some x
 |.nil sz=>if 0<sz then some (.list sz []) else none
 |.sl n sz lo len=>
  match h n with
  |some (.row _ _ rs xs)=>if rs=sz/\lo+len<=xs.length then some (.list sz ((xs.drop lo).take len)) else none
  |_=>none
 |.cJ n k aY off sz len=>
  match h n with
  |some (.row _ .live rs xs)=>if rs=aY then(xs[k]?).bind (·[off]?) else none
  |_=>none
 |_=>none
def j6 (h:Nat->Option aK):List ao->Option (List C)
 |[]=>some []
 |c::cs=>match dH h c,j6 h cs with
  |some x,some xs=>some (x::xs)
  |_,_=>none
def kT (h:Nat->Option aK):aA->Option Dv
 |.one (.ptr n k sz off)=>
  match h n with
  |some (.box cs)=>if k=0/\off=0 then(j6 h cs).map fun l=>(.ptr,l) else none
  |_=>none
 |.one (.dR xs off)=>if off=0 then some (.ptr,xs) else none
 |.one c=>(dH h c).map fun x=>(.one,[x])
 |.agg cs=>(j6 h cs).map fun l=>(.agg,l)
 |.cF _=>none
def pt (h:Nat->Option aK):List aA->Option (List Dv)
 |[]=>some []
 |c::cs=>match kT h c,pt h cs with
  |some x,some xs=>some (x::xs)
  |_,_=>none
def St.iY (σ:St):ao->Option (C×Bool×St)
 |.c x=>some (x,x.gV,σ)
 |.nil sz=>if 0<sz then some (.list sz [],true,σ) else none
 |.sl n sz lo len=>
  match σ.h n with
  |some (.row _ m rs xs)=>if rs=sz/\lo=0/\len<=xs.length then some (.list sz (xs.take len),decide (m≠ .aV),σ.del n) else none
  |_=>none
 |_=>none
def St.iz (σ:St):List ao->Option (List C×Bool×St)
 |[]=>some ([],true,σ)
 |c::cs=>match σ.iY c with
  |some (x,o,σ1)=>match σ1.iz cs with
   |some (xs,o',σ2)=>some (x::xs,o&&o',σ2)
   |none=>none
  |none=>none
def St.xn (σ:St):ao->Option St
 |.ptr n _ _ _=>match σ.h n with
  |some (.box cs)=>match σ.iz cs with
   |some (xs,_,σ1)=>some (σ1.fK n (.box (xs.map .c)))
   |none=>none
  |_=>none
 |_=>none
def St.pj (sz:Nat) (σ:St):List aA->Option (List (List C)×Bool×St)
 |[]=>some ([],true,σ)
 |v::vs=>match v.cells? with
  |some (_,cs)=>if cs.length=sz then
   match σ.iz cs with
   |some (e,o,σ1)=>match σ1.pj sz vs with
    |some (es,o',σ2)=>some (e::es,o&&o',σ2)
    |none=>none
   |none=>none
   else none
  |none=>none
def St.imp (m:Mode) (σ:St):Nat->List C->Option (List ao×Nat×St)
 |nm,[]=>some ([],nm,σ)
 |nm,.list sz xs::cs=>match σ.ins nm (.row true m sz xs) with
  |some σ1=>match σ1.imp m (nm+1) cs with
   |some (l,iu,σ2)=>some (.sl nm sz 0 xs.length::l,iu,σ2)
   |none=>none
  |none=>none
 |nm,x::cs=>match σ.imp m nm cs with
  |some (l,iu,σ2)=>some (.c x::l,iu,σ2)
  |none=>none
def St.mW (m:Mode) (σ:St):Nat->List Dv->Option (List (Bool×List ao)×St)
 |_,[]=>some ([],σ)
 |nm,(.ptr,_)::_=>none
 |nm,(k,cs)::ds=>match σ.imp m nm cs with
  |some (l,iu,σ1)=>match σ1.mW m iu ds with
   |some (ls,σ2)=>some ((decide (k=.agg),l)::ls,σ2)
   |none=>none
  |none=>none
def qe:List (Bool×List ao)->aA
 |[(ag,cs)]=>qN ag cs
 |l=>.cF l
def BK (d:Option Nat):Nat:=match d with|some n=>1000*(n+1)|none=>999
def mq:List Dv->Option (List (Bool×List ao))
 |[]=>some []
 |(.ptr,_)::_=>none
 |(k,cs)::ds=>match mq ds with
  |some ls=>some ((decide (k=.agg),cs.map .c)::ls)
  |none=>none
def FC (T:br) (f:FuncId) (as:List aA) (h:Nat->Option aK):Option aA:=
 match pt h as with
 |some ds=>match br.find T.pure f with
  |some M=>match M ds with
   |some rs=>match mq rs with
    |some ls=>some (qe ls)
    |none=>none
   |none=>none
  |none=>none
 |none=>none
def yI (T:br) (m:Mode) (d:Option Nat) (f:FuncId) (as:List aA) (σ:St):Option St:=
 match pt σ.h as with
 |some ds=>match br.find T.pure f with
  |some M=>match M ds with
   |some rs=>match σ.mW m (BK d) rs with
    |some (ls,σ1)=>some (σ1.put d (qe ls))
    |none=>none
   |none=>none
  |none=>none
 |none=>none
def se:ao->Option C
 |.c x=>some x
 |.nil sz=>if 0<sz then some (.list sz []) else none
 |_=>none
def mV:List ao->Option (List C)
 |[]=>some []
 |c::cs=>match se c,mV cs with
  |some x,some xs=>some (x::xs)
  |_,_=>none
def pE (h:Nat->Option aK):aA->Option (Nat×List C)
 |.one (.ptr n k _ off)=>if k=0/\off=0 then match h n with
  |some (.box cs)=>match mV cs with
   |some xs=>some (n,xs)
   |none=>none
  |_=>none
  else none
 |_=>none
def St.kf (σ:St):List aA->Option (List Dv×List Nat×St)
 |[]=>some ([],[],σ)
 |v::vs=>match pE σ.h v with
  |some (n,xs)=>match σ.kf vs with
   |some (ds,ns,σ1)=>some ((.ptr,xs)::ds,n::ns,σ1)
   |none=>none
  |none=>match v.cells? with
   |some (ag,cs)=>match σ.iz cs with
    |some (xs,_,σ1)=>match σ1.kf vs with
     |some (ds,ns,σ2)=>some ((if ag=true then .agg else .one,xs)::ds,ns,σ2)
     |none=>none
    |none=>none
   |none=>none
def St.u6 (σ:St):List Nat->List C->Option St
 |[],[]=>some σ
 |[n],out=>match σ.h n with
  |some (.box cs)=>if cs.length=out.length then some (σ.fK n (.box (out.map .c))) else none
  |_=>none
 |_,_=>none
def ue (σ:St) (d:Option Nat):List Dv->Option St
 |[(.ptr,cs)]=>match d with
  |some q=>match σ.ins q (.box (cs.map .c)) with
   |some σ1=>some (σ1.put d (.one (.ptr q 0 0 0)))
   |none=>none
  |none=>none
 |rs=>match mq rs with
  |some ls=>some (σ.put d (qe ls))
  |none=>none
def ug (T:br) (d:Option Nat) (f:FuncId) (as:List aA) (σ:St):Option St:=
 match σ.kf as,br.n7 T.vs f with
 |some (ds,ns,σ1),some M=>match M ds with
  |some (rs,out)=>match σ1.u6 ns out with
   |some σ2=>ue σ2 d rs
   |none=>none
  |none=>none
 |_,_=>none
def Ee:List aA->Option (List Dv)
 |[]=>some []
 |v::vs=>match v.cells? with
  |some (ag,cs)=>match mV cs with
   |some xs=>match Ee vs with
    |some ds=>some ((if ag=true then .agg else .one,xs)::ds)
    |none=>none
   |none=>none
  |none=>none
def C2 (T:br) (f:FuncId) (as:List aA):Option aA:=
 match Ee as,br.n7 T.vs f with
 |some ds,some M=>match M ds with
  |some (rs,[])=>match mq rs with
   |some ls=>some (qe ls)
   |none=>none
  |_=>none
 |_,_=>none
theorem aty {c:ao} {x:C} (h:se c=some x) (σ:St):∃o,σ.iY c=some (x,o,σ):=by
 cases c with
 |c y=>simp only[se] at h;injection h with h;subst h;exact⟨_,rfl⟩
 |nil sz=>
  simp only[se] at h;split at h
  ·rename_i hp;injection h with h;subst h;exact⟨_,if_pos hp⟩
  ·cases h
 |_=>simp[se] at h
theorem age:∀{cs:List ao} {xs:List C},mV cs=some xs->∀σ:St,∃o,σ.iz cs=some (xs,o,σ)
 |[],xs,h,σ=>by simp only[mV] at h;injection h with h;subst h;exact⟨_,rfl⟩
 |c::cs,xs,h,σ=>by
  simp only[mV] at h;split at h
  ·rename_i x aM e1 e2;injection h with h;subst h;obtain⟨o1,h1⟩:=aty e1 σ;obtain⟨o2,h2⟩:=age e2 σ;exact⟨o1&&o2,by simp only[St.iz,h1,h2]⟩
  ·cases h
theorem ajt:∀{as:List aA} {ds:List Dv},Ee as=some ds->∀σ:St,σ.kf as=some (ds,[],σ)
 |[],ds,h,σ=>by simp only[Ee] at h;injection h with h;subst h;rfl
 |v::vs,ds,h,σ=>by
  simp only[Ee] at h;split at h
  ·rename_i ag cs hc;split at h
   ·rename_i xs hi;split at h
    ·rename_i yK hq;injection h with h;subst h;have hp:pE σ.h v=none:=by
      unfold pE;split
      ·simp only[aA.cells?] at hc;injection hc with hc;injection hc with _ hc;subst hc;simp[mV,se] at hi
      ·rfl
     obtain⟨o,ht⟩:=age hi σ;simp only[St.kf,hp,hc,ht,ajt hq σ]
    ·cases h
   ·cases h
  ·cases h
theorem aoR {T:br} {d:Option Nat} {f:FuncId} {as:List aA} {v:aA} (h:C2 T f as=some v) (σ:St):ug T d f as σ=some (σ.put d v):=by
 unfold C2 at h;split at h
 ·rename_i ds M hq hM;split at h
  ·rename_i rs np;split at h
   ·rename_i ls hl;injection h with h;subst h;simp only[ug,ajt hq σ,hM,np,St.u6];unfold ue;split
    ·simp[mq] at hl
    ·rw[hl]
   ·cases h
  ·cases h
 ·cases h
def C.xi:C->Bool
 |.list _ xs=>jQ xs
 |_=>true
def C.uK:C->Bool
 |.list ..=>true
 |_=>false
def xm:Mode->List (List C)->Bool
 |.aZ,xs=>jQ xs
 |.live,xs=>xs.all fun e=>e.all C.xi
 |.aV,_=>false
inductive eC where
 |nil (sz:Nat)
 |row (n:Nat)
 |nest (n k off:Nat)
def wB (h:Nat->Option aK) (md:Mode):ao->Option (eC×C)
 |.nil sz=>if 0<sz/\md≠ .aV then some (.nil sz,.list sz []) else none
 |.sl n sz lo len=>match h n with
  |some (.row _ m rs xs)=>if m≠ .aV/\(md=.live->m=.live)/\rs=sz/\lo=0/\len=xs.length/\xm md xs=true then some (.row n,.list sz xs) else none
  |_=>none
 |.cJ n k aY off sz len=>match h n with
  |some (.row _ .live rs xs)=>if rs=aY/\md=.aZ then
   match(xs[k]?).bind (·[off]?) with
   |some (.list s ys)=>if jQ ys=true then some (.nest n k off,.list s ys) else none
   |_=>none
   else none
  |_=>none
 |_=>none
def eC.fJ:eC->Option Nat
 |.nil _=>none
 |.row n=>some n
 |.nest n _ _=>some n
def ao.fJ:ao->Option Nat
 |.sl n _ _ _=>some n
 |.cJ n _ _ _ _ _=>some n
 |_=>none
def qJ:List (Option Mode)->List ao->List Nat
 |some _::fs,c::cs=>c.fJ.toList++qJ fs cs
 |none::fs,_::cs=>qJ fs cs
 |_,_=>[]
def mY (h h0:Nat->Option aK):List (Option Mode)->List ao->Option (List C×List (eC×Mode))
 |[],cs=>match j6 h0 cs with
  |some xs=>some (xs,[])
  |none=>none
 |none::fs,c::cs=>match dH h0 c,mY h h0 fs cs with
  |some x,some (xs,its)=>some (x::xs,its)
  |_,_=>none
 |some md::fs,c::cs=>match wB h md c,mY h h0 fs cs with
  |some (it,x),some (xs,its)=>some (x::xs,(it,md)::its)
  |_,_=>none
 |_::_,[]=>none
def nN:bi->List (Bool×List ao)->List Nat
 |s::sig,a::as=>qJ s a.2++nN sig as
 |_,_=>[]
def bi.hd:bi->List (Option Mode)
 |[]=>[]
 |s::_=>s
def bi.tl:bi->bi
 |[]=>[]
 |_::sig=>sig
def o6 (h h0:Nat->Option aK):bi->List (Bool×List ao)->Option (List Dv×List (eC×Mode))
 |_,[]=>some ([],[])
 |sig,(ag,cs)::as=>match mY h h0 (bi.hd sig) cs,o6 h h0 (bi.tl sig) as with
  |some (xs,its),some (ds,zr)=>some ((if ag=true then(.agg,xs) else(.one,xs))::ds,its++zr)
  |_,_=>none
def tG:List aA->Option (List (Bool×List ao))
 |[]=>some []
 |v::vs=>match v.cells?,tG vs with
  |some x,some xs=>some (x::xs)
  |_,_=>none
def fV (h:Nat->Option aK) (ns:List Nat):Nat->Option aK:=fun n=>if ns.contains n=true then none else h n
def St.rD (σ:St):eC->C->Option St
 |.nil _,_=>some σ
 |.row n,.list sz xs=>match σ.h n with
  |some (.row gr m rs _)=>if rs=sz then some (σ.fK n (.row gr m rs xs)) else none
  |_=>none
 |.nest n k off,x=>match σ.h n with
  |some (.row gr m rs xs)=>match xs[k]? with
   |some e=>some (σ.fK n (.row gr m rs (xs.set k (e.set off x))))
   |none=>none
  |_=>none
 |_,_=>none
def St.tM (σ:St):List (eC×Mode)->List C->Option St
 |[],[]=>some σ
 |it::its,x::xs=>match σ.rD it.1 x with
  |some σ1=>σ1.tM its xs
  |none=>none
 |_,_=>none
def uh (T:br) (m:Mode) (d:Option Nat) (f:FuncId) (as:List aA) (σ:St):Option St:=
 match br.rS T.BJ f,tG as with
 |some (sig,M),some e8=>
  if(nN sig e8).Nodup then
   match o6 σ.h (fV σ.h (nN sig e8)) sig e8 with
   |some (ds,its)=>match M ds with
    |some (rs,eV)=>match σ.tM its eV with
     |some σ1=>match σ1.mW m (BK d) rs with
      |some (ls,σ2)=>some (σ2.put d (qe ls))
      |none=>none
     |none=>none
    |none=>none
   |none=>none
  else none
 |_,_=>none
def nc:Nat->bi
 |0=>[[some .aZ]]
 |i+1=>[]::nc i
def dI (n:Nat):Dv:=(.one,[.int .i64 (n:Int)])
def xM (i lo hi:Nat) (M:List Dv->Option (List Dv×List C)) (ds:List Dv):Option (List Dv×List C):=
 match ds[i]? with
 |some (.one,[.list 1 _])=>M (dI lo::dI hi::ds)
 |_=>none
def Ik (h:Nat->Option aK):aA->Option (Nat×Nat×Nat×Nat)
 |.one (.sl n s lo len)=>match h n with
  |some (.row _ _ rs xs)=>if s=1/\rs=1/\lo<xs.length/\lo+len<=xs.length then some (n,lo,len,xs.length) else none
  |_=>none
 |_=>none
def yJ (T:br) (m:Mode) (d:Option Nat) (f:FuncId) (as:List aA) (σ:St):Option St:=
 match br.vN T.xs f with
 |some (i,M)=>match as[i]? with
  |some a=>match Ik σ.h a with
   |some (n,lo,len,N)=>uh {T with BJ:=[(f,nc i,xM i lo (lo+len) M)]} m d f (as.set i (.one (.sl n 1 0 N))) σ
   |none=>none
  |none=>none
 |none=>none
def tc (T:br) (f:FuncId) (as:List aA) (h:Nat->Option aK):Option aA:=
 match br.vM T.ws f,tG as with
 |some (sig,M),some e8=>
  match nN sig e8 with
  |[n]=>match o6 h (fV h [n]) sig e8 with
   |some (ds,[(.row n',_)])=>if n'=n then match h n,M ds with
    |some (.row _ _ sz _),some (lo,len)=>some (.one (.sl n sz lo len))
    |_,_=>none
    else none
   |_=>none
  |_=>none
 |_,_=>none
def Fy (op:BinOp) (k:IntKind) (a b:Int):Option C:=
 match op with
 |.add=>some (.int k (k.wrap (a+b)))
 |.sub=>some (.int k (k.wrap (a - b)))
 |.mul=>some (.int k (k.wrap (a*b)))
 |.quo=>if b=0 then none else some (.int k (k.wrap (a.tdiv b)))
 |.rem=>if b=0 then none else some (.int k (a.tmod b))
 |.and=>some (.int k (bits .and k a b))
 |.or=>some (.int k (bits .or k a b))
 |.xor=>some (.int k (bits .xor k a b))
 |.eql=>some (.bool (a==b))
 |.neq=>some (.bool (a !=b))
 |.lss=>some (.bool (decide (a<b)))
 |.leq=>some (.bool (decide (a<=b)))
 |.gtr=>some (.bool (decide (b<a)))
 |.geq=>some (.bool (decide (b<=a)))
 |_=>none
def Li (op:BinOp) (k:IntKind) (a b:Int):Option C:=
 if b<0 then none else
 match op with
 |.shl=>some (.int k (k.wrap (a*2^(min b.toNat k.bits))))
 |.shr=>some (.int k (a/(2^(min b.toNat k.bits))))
 |_=>none
def BinOp.DM:BinOp->Bool
 |.shl|.shr=>true
 |_=>false
def AA (op:BinOp):aA->aA->Option C
 |.one (.c (.int k a)),.one (.c (.int k' b))=>if BinOp.DM op=true then Li op k a b else if k=k' then Fy op k a b else none
 |_,_=>none
def Fx (op:BinOp):aA->aA->Option C
 |.one (.c (.bool a)),.one (.c (.bool b))=>match op with
  |.eql=>some (.bool (a==b))
  |.neq=>some (.bool (a !=b))
  |_=>none
 |_,_=>none
def Ie (op:UnOp):aA->Option C
 |.one (.c (.bool a))=>match op with
  |.not=>some (.bool (!a))
  |_=>none
 |.one (.c (.int k a))=>match op with
  |.neg=>some (.int k (k.wrap (0 - a)))
  |_=>none
 |_=>none
def aA.fm:aA->Option Int
 |.one (.c (.int _ n))=>some n
 |_=>none
def fo:Nat:=140737488355328
def tS (ev:MO->aA):List ao->List (Nat×Nat×MO)->Option (List ao)
 |zs,[]=>some zs
 |zs,(off,sz,x)::ps=>match(ev x).cells? with
  |some (_,cs)=>if cs.length=sz/\off+sz<=zs.length then tS ev (dM zs off cs) ps else none
  |none=>none
def qM (σ:St) (n:Nat) (gr:Bool) (m:Mode) (rs:Nat) (xs:List (List C)) (k off:Nat) (e:List C) (vs:List ao):Option St:=
 match sub e off vs.length with
 |none=>none
 |some iv=>match σ.iz vs with
  |none=>none
  |some (cs,o,σ1)=>
   if m=.live then
    if iG cs=true/\iG iv=true/\(σ1.h n).isSome=true then some (σ1.fK n (.row gr m rs (xs.set k (dM e off cs)))) else none
   else if(σ1.h n).isSome=true then
    some (σ1.fK n (.row gr (if o=true then m else .aV) rs (xs.set k (dM e off cs))))
   else none
def pM:List ao->Option (List C)
 |[]=>some []
 |.c x::l=>if x.gV=true then(pM l).map (x::·) else none
 |_::_=>none
def zQ (xs:List (List C)) (k off s i:Nat) (vs:List ao):Option (List (List C)):=
 match(xs[k]?).bind (·[off]?) with
 |some (.list s' ys)=>if s'=s/\vs.length=s/\i<ys.length/\jQ ys=true then(pM vs).map fun cs=>xs.set k ((xs.getD k []).set off (.list s' (ys.set i cs))) else none
 |_=>none
def ub (σ:St) (sz:Nat):aA->Option (List (List C)×Mode×St)
 |.one (.nil _)=>some ([],.aZ,σ)
 |.one (.sl a s 0 len)=>match σ.h a with
  |some (.row true m rs xs)=>if rs=sz/\s=sz/\len=xs.length then some (xs,m,σ.del a) else none
  |_=>none
 |_=>none
def pB (fl:Bool) (σ1:St) (sz:Nat) (m:Mode):aA->Option (List (List C)×Mode×St)
  |.one (.nil _)=>some ([],m,σ1)
  |.one (.c (.list s ys))=>if s=sz then(if(fl&&jQ ys)=true then some (ys,m,σ1) else if m=.live then none else some (ys,.aV,σ1)) else none
  |.one (.sl b s lo len)=>match σ1.h b with
   |some (.row _ m' rs ys)=>if rs=sz/\s=sz/\lo+len<=ys.length then
       (if(fl&&jQ ((ys.drop lo).take len))=true then some ((ys.drop lo).take len,m,σ1)
        else if lo=0/\len=ys.length then(if m=m' then some (ys,m,σ1.del b) else if m=.live\/m'=.live then none else some (ys,.aV,σ1.del b)) else none)
    else none
   |_=>none
  |_=>none
def ao.QU:ao->Bool
 |.cD=>false
 |_=>true
def El (gu:Bool) (n:Int) (c:ao):List ao:=if gu=true then[.c (.int .i64 n),.c (.int .i64 1),c] else[.c (.int .i64 1),.c (.int .i64 n),c]
def exec (T:br) (d:Option Nat) (op:bm) (σ:St):Option St:=
 match op with
 |.mv x=>some (σ.put d (σ.ev x))
 |.pick c x y=>match σ.ev c with
  |.one (.c (.bool b))=>if b=true then some (σ.put d (σ.ev x)) else some (σ.put d (σ.ev y))
  |_=>none
 |.alloc zs=>match d with
  |some n=>match σ.ins n (.box zs) with
   |some σ1=>some (σ1.put d (.one (.ptr n 0 0 0)))
   |none=>none
  |none=>none
 |.box sz x=>match d,(σ.ev x).cells? with
  |some n,some (_,cs)=>if cs.length=sz then
   match σ.ins n (.box cs) with
   |some σ1=>some (σ1.put d (.one (.ptr n 0 0 0)))
   |none=>none
   else none
  |_,_=>none
 |.build zs parts=>match tS σ.ev zs parts with
  |some cs=>some (σ.put d (.agg cs))
  |none=>none
 |.gy sz parts=>match d,σ.pj sz (parts.map σ.ev) with
  |some n,some (es,o,σ1)=>match σ1.ins n (.row true (if o=true then .aZ else .aV) sz es) with
   |some σ2=>some (σ2.put d (.one (.sl n sz 0 es.length)))
   |none=>none
  |_,_=>none
 |.load ag sz x=>match σ.ev x with
  |.one p=>match loadAt σ.h p sz with
   |some cs=>some (σ.put d (qN ag cs))
   |none=>none
  |_=>none
 |.tF ag sz x=>match σ.ev x with
  |.one p=>match σ.xn p with
   |some σ1=>match loadAt σ1.h p sz with
    |some cs=>some (σ1.put d (qN ag cs))
    |none=>none
   |none=>none
  |_=>none
 |.store sz x v=>match σ.ev x,(σ.ev v).cells? with
  |.one (.ptr n k aY off),some (_,vs)=>if vs.length=sz then
   match σ.h n with
   |some (.box cs)=>if k=0/\off+sz<=cs.length then some (σ.fK n (.box (dM cs off vs))) else none
   |some (.row gr m rs xs)=>if aY=rs then
    match xs[k]? with
    |some e=>qM σ n gr m rs xs k off e vs
    |none=>none
    else none
   |none=>none
   else none
  |.one (.eG n k aY off s i),some (_,vs)=>if vs.length=sz then
   match σ.h n with
   |some (.row gr .live rs xs)=>if aY=rs then
    match zQ xs k off s i vs with
    |some aM=>some (σ.fK n (.row gr .live rs aM))
    |none=>none
    else none
   |_=>none
   else none
  |_,_=>none
 |.jZ x=>match σ.ev x with
  |.one (.ptr n k sz off)=>if(σ.h n).isSome=true then some (σ.put d (.one (.ptr n k sz off))) else none
  |.one (.dR xs off)=>some (σ.put d (.one (.dR xs off)))
  |_=>none
 |.bin op x y=>match AA op (σ.ev x) (σ.ev y) with
  |some c=>some (σ.put d (.one (.c c)))
  |none=>none
 |.sZ op x y=>match Fx op (σ.ev x) (σ.ev y) with
  |some c=>some (σ.put d (.one (.c c)))
  |none=>none
 |.un op x=>match Ie op (σ.ev x) with
  |some c=>some (σ.put d (.one (.c c)))
  |none=>none
 |.conv k x=>match σ.ev x with
  |.one (.c (.int _ n))=>some (σ.put d (.one (.c (.int k (k.wrap n)))))
  |_=>none
 |.kv m sz by_ zs l c=>match d,(σ.ev l).fm,(σ.ev c).fm with
  |some n,some a,some b=>if a<=b/\0<=a/\b.toNat*by_<=fo/\zs.length=sz then
   match σ.ins n (.row true m sz (List.replicate a.toNat zs)) with
   |some σ1=>some (σ1.put d (.one (.sl n sz 0 a.toNat)))
   |none=>none
   else none
  |_,_,_=>none
 |.slice sz x lo hi=>
  let XB:Option Int:=match lo with|none=>some 0|some l=>(σ.ev l).fm
  match σ.ev x,XB with
  |.one (.sl n s l0 len),some l=>
   match(match hi with|none=>some (len:Int)|some h=>(σ.ev h).fm) with
   |some h=>if s=sz/\0<=l/\l<=h/\h<=len/\(σ.h n).isSome=true then some (σ.put d (.one (.sl n s (l0+l.toNat) (h - l).toNat))) else none
   |none=>none
  |.one (.c (.list s xs)),some l=>
   match(match hi with|none=>some (xs.length:Int)|some h=>(σ.ev h).fm) with
   |some h=>if s=sz/\0<=l/\l<=h/\h<=xs.length then some (σ.put d (.one (.c (.list s ((xs.drop l.toNat).take (h - l).toNat))))) else none
   |none=>none
  |_,_=>none
 |.tail sz x lo=>match d,σ.ev x,(σ.ev lo).fm with
  |some n,.one (.sl a s 0 len),some l=>match σ.h a with
   |some (.row true m rs xs)=>if rs=sz/\s=sz/\len=xs.length/\0<=l/\l<=len then
    match(σ.del a).ins n (.row true m sz (xs.drop l.toNat)) with
    |some σ1=>some (σ1.put d (.one (.sl n sz 0 (xs.length - l.toNat))))
    |none=>none
    else none
   |_=>none
  |_,_,_=>none
 |.q8 off x=>match σ.ev x with
  |.one (.ptr n k sz o)=>if(σ.h n).isSome=true then some (σ.put d (.one (.ptr n k sz (o+off)))) else none
  |.one (.dR xs o)=>some (σ.put d (.one (.dR xs (o+off))))
  |_=>none
 |.qE sz x i=>match σ.ev x,(σ.ev i).fm with
  |.one (.sl n s lo len),some k=>if s=sz/\0<=k/\k<len/\(σ.h n).isSome=true then some (σ.put d (.one (.ptr n (lo+k.toNat) s 0))) else none
  |.one (.c (.list s xs)),some k=>if s=sz/\0<=k then
   match xs[k.toNat]? with
   |some e=>some (σ.put d (.one (.dR e 0)))
   |none=>none
   else none
  |.one (.cJ n kk aY off s len),some k=>match dH σ.h (.cJ n kk aY off s len) with
   |some (.list s' ys)=>if s'=sz/\0<=k/\k<ys.length then some (σ.put d (.one (.eG n kk aY off sz k.toNat))) else none
   |_=>none
  |_,_=>none
 |.ext i x=>match σ.ev x with
  |.cF xs=>match xs[i]? with
   |some (ag,cs)=>some (σ.put d (qN ag cs))
   |none=>none
  |_=>none
 |.uv ag off sz x=>match σ.ev x with
  |.agg cs=>match sub cs off sz with
   |some l=>some (σ.put d (qN ag l))
   |none=>none
  |_=>none
 |.tP f gu x=>match σ.ev x with
  |.one (.sl n sz lo len)=>if(σ.h n).isSome=true then some (σ.put d (.agg (El gu len (.sl n sz lo len)))) else none
  |.one (.c (.list sz xs))=>some (σ.put d (.agg (El gu xs.length (.c (.list sz xs)))))
  |.one (.nil sz)=>some (σ.put d (.agg (El gu 0 (.nil sz))))
  |_=>none
 |.len x=>match σ.ev x with
  |.one (.sl n sz lo len)=>if(σ.h n).isSome=true then some (σ.put d (.one (.c (.int .i64 len)))) else none
  |.one (.c (.list sz xs))=>some (σ.put d (.one (.c (.int .i64 xs.length))))
  |.one (.nil sz)=>some (σ.put d (.one (.c (.int .i64 0))))
  |.one (.cJ n k aY off sz len)=>match dH σ.h (.cJ n k aY off sz len) with
   |some (.list s ys)=>some (σ.put d (.one (.c (.int .i64 ys.length))))
   |_=>none
  |_=>none
 |.append fl sz by_ x y=>match d with
  |none=>none
  |some n=>match ub σ sz (σ.ev x) with
   |none=>none
   |some (xs,m,σ1)=>match pB fl σ1 sz m (σ.ev y) with
    |none=>none
    |some (ys,m2,σ2)=>
     if(xs.length+ys.length)*by_<=fo then
      match σ2.ins n (.row true m2 sz (xs++ys)) with
      |some j8=>some (j8.put d (.one (.sl n sz 0 (xs.length+ys.length))))
      |none=>none
     else none
 |.copy sz x y=>match σ.ev x,σ.ev y with
  |.one (.sl n s lo len),.one c=>match σ.h n,dH σ.h c with
   |some (.row gr m rs xs),some (.list s' ys)=>if sz=1/\s=1/\rs=1/\s'=1/\m≠ .aV/\jQ xs=true/\jQ ys=true/\lo+len<=xs.length then
    some ((σ.fK n (.row gr m 1 (dM xs lo (ys.take len)))).put d (.one (.c (.int .i64 (Nat.min ys.length len:Nat))))) else none
   |_,_=>none
  |_,_=>none
 |.nY z x=>match σ.ev x with
  |.one (.sl n s lo len)=>match σ.h n with
   |some (.row gr m rs xs)=>if s=1/\rs=1/\z.gV=true/\m≠ .aV/\jQ xs=true/\lo+len<=xs.length then
    some ((σ.fK n (.row gr m 1 (dM xs lo (List.replicate len [z])))).put d (.cF [])) else none
   |_=>none
  |_=>none
 |.mm mx x y=>match σ.ev x,σ.ev y with
  |.one (.c (.int k a)),.one (.c (.int k' b))=>if mx=true then(if a<b then some (σ.put d (.one (.c (.int k b)))) else some (σ.put d (.one (.c (.int k a)))))
   else(if b<a then some (σ.put d (.one (.c (.int k b)))) else some (σ.put d (.one (.c (.int k a)))))
  |_,_=>none
 |.call m f xs=>yI T m d f (xs.map σ.ev) σ
 |.qU f xs=>match FC T f (xs.map σ.ev) σ.h with
  |some v=>some (σ.put d v)
  |none=>none
 |.uW f xs=>match(xs.map σ.ev).mapM (fun v=>match v with|.one c=>if c.wj=true then none else some c|_=>none) with
  |some cs=>if cs.all ao.QU=true then some (σ.put d (.one (.fn f cs))) else none
  |none=>none
 |.qV m x xs=>match σ.ev x with
  |.one (.fn f ed)=>yI T m d f (xs.map σ.ev++ed.map .one) σ
  |_=>none
 |.g7 m f xs=>uh T m d f (xs.map σ.ev) σ
 |.mn f xs=>ug T d f (xs.map σ.ev) σ
 |.pF f xs=>match tc T f (xs.map σ.ev) σ.h with
  |some v=>some (σ.put d v)
  |none=>none
 |.nX f xs=>match C2 T f (xs.map σ.ev) with
  |some v=>some (σ.put d v)
  |none=>none
 |.pG m f xs=>yJ T m d f (xs.map σ.ev) σ
def gv (T:br) (o:cZ) (σ:St):Option St:=
 match o.guard with
 |none=>exec T o.dst o.op σ
 |some (s,oK)=>match σ.env s with
  |.one (.c (.bool b))=>if b=oK then exec T o.dst o.op σ else some (σ.put o.dst (.cF []))
  |.cF []=>some (σ.put o.dst (.cF []))
  |_=>none
def ni (T:br):List cZ->St->Option St
 |[],σ=>some σ
 |o::os,σ=>match gv T o σ with
  |some σ'=>ni T os σ'
  |none=>none
def ao.iB (ok:Nat->Bool):ao->ao
 |.ptr n k sz off=>if ok n=true then .ptr n k sz off else .cD
 |.sl n sz lo len=>if ok n=true then .sl n sz lo len else .cD
 |.cJ n k aY off sz len=>if ok n=true then .cJ n k aY off sz len else .cD
 |.eG n k aY off sz i=>if ok n=true then .eG n k aY off sz i else .cD
 |x=>x
def ao.eP (ok:Nat->Bool):ao->ao
 |.fn f ed=>.fn f (ed.map (·.iB ok))
 |x=>x.iB ok
def aA.eP (ok:Nat->Bool):aA->aA
 |.one c=>.one (c.eP ok)
 |.agg cs=>.agg (cs.map (·.eP ok))
 |.cF xs=>.cF (xs.map fun x=>(x.1,x.2.map (·.eP ok)))
def aK.eP (ok:Nat->Bool):aK->aK
 |.box cs=>.box (cs.map (·.eP ok))
 |b=>b
def AG:Nat->aA:=fun _=>.one .cD
def FO:Nat->Option aK:=fun _=>none
def adj:Nat->Bool:=fun _=>false
def zM (ok:Nat->Bool) (env:Nat->aA):List Nat->(Nat->aA)
 |[]=>AG
 |s::ss=>aX (zM ok env ss) s ((env s).eP ok)
def vc (ok:Nat->Bool) (h:Nat->Option aK):List Nat->(Nat->Option aK)
 |[]=>FO
 |s::ss=>if ok s=true then match h s with
  |some b=>aX (vc ok h ss) s (some (b.eP ok))
  |none=>vc ok h ss
  else vc ok h ss
def zN (ok:Nat->Bool):List Nat->(Nat->Bool)
 |[]=>adj
 |s::ss=>if ok s=true then aX (zN ok ss) s true else zN ok ss
def ao.BW (n:Nat):ao->Bool
 |.ptr m _ _ _=>m==n
 |.sl m _ _ _=>m==n
 |.cJ m _ _ _ _ _=>m==n
 |.eG m _ _ _ _ _=>m==n
 |_=>false
def ao.j0 (n:Nat):ao->Bool
 |.fn _ ed=>ed.any (·.BW n)
 |x=>x.BW n
def aA.j0 (n:Nat):aA->Bool
 |.one c=>c.j0 n
 |.agg cs=>cs.any (·.j0 n)
 |.cF xs=>xs.any fun x=>x.2.any (·.j0 n)
def St.lV (σ:St) (ke kh:List Nat):Nat->Bool:=fun n=>kh.contains n&&(σ.h n).isSome&&
 (Nat.ble aU n||ke.any (fun s=>(σ.env s).j0 n)||kh.any fun k=>match σ.h k with|some (.box cs)=>cs.any (·.j0 n)|_=>false)
def St.kQ (σ:St) (ke kh:List Nat):St:=
 {env:=zM (σ.lV ke kh) σ.env ke,h:=vc (σ.lV ke kh) σ.h kh,used:=fun n=>Nat.ble aU n||zN (σ.lV ke kh) kh n}
def rE (x c n:Nat):Nat:=if n=x then c else n
def ao.sJ (x c:Nat):ao->ao
 |.ptr n k sz off=>.ptr (rE x c n) k sz off
 |.sl n sz lo len=>.sl (rE x c n) sz lo len
 |.cJ n k aY off sz len=>.cJ (rE x c n) k aY off sz len
 |.eG n k aY off sz i=>.eG (rE x c n) k aY off sz i
 |y=>y
def ao.ca (x c:Nat):ao->ao
 |.fn f ed=>.fn f (ed.map (·.sJ x c))
 |y=>y.sJ x c
def aA.ca (x c:Nat):aA->aA
 |.one y=>.one (y.ca x c)
 |.agg ys=>.agg (ys.map (·.ca x c))
 |.cF ys=>.cF (ys.map fun y=>(y.1,y.2.map (·.ca x c)))
def aK.ca (x c:Nat):aK->aK
 |.box cs=>.box (cs.map (·.ca x c))
 |b=>b
def St.ca (σ:St) (x c:Nat):Option St:=
 if x=c then some σ else if Nat.ble aU x=true then some σ else if σ.used c=true then none else
 some {env:=fun s=>(σ.env s).ca x c,h:=fun n=>if n=c then(σ.h x).map (·.ca x c) else if n=x then none else(σ.h n).map (·.ca x c),used:=fun n=>if n=c then σ.used x else if n=x then false else σ.used n}
def St.m8 (σ:St) (c:Nat):Mode->St
 |.aV=>match σ.h c with
  |some (.row gr .aZ rs xs)=>σ.fK c (.row gr .aV rs xs)
  |_=>σ
 |_=>σ
def St.canon (σ:St):Bool×Nat×Nat×Nat×Mode->Option St
 |(true,n,j,c,m)=>match σ.h n with
  |some (.box cs)=>match cs[j]? with
   |some (.sl a _ _ _)=>(σ.ca a c).map fun σ1=>σ1.m8 c m
   |some (.nil sz)=>if 0<sz then match σ.ins c (.row true m sz []) with
    |some σ1=>some (σ1.fK n (.box (cs.set j (.sl c sz 0 0))))
    |none=>none
    else some σ
   |_=>some σ
  |_=>some σ
 |(false,n,j,c,m)=>match σ.env n with
  |.one (.sl a _ _ _)=>(σ.ca a c).map fun σ1=>σ1.m8 c m
  |.one (.nil sz)=>if 0<sz then match σ.ins c (.row true m sz []) with
   |some σ1=>some (σ1.put (some n) (.one (.sl c sz 0 0)))
   |none=>none
   else some σ
  |_=>some σ
def St.xc (σ:St):List (Bool×Nat×Nat×Nat×Mode)->Option St
 |[]=>some σ
 |x::l=>match σ.canon x with
  |some σ1=>σ1.xc l
  |none=>none
def St.head (σ:St) (ke kh:List Nat) (cn:List (Bool×Nat×Nat×Nat×Mode)):Option St:=
 match((σ.kQ ke kh).kQ ke kh).xc cn with
 |some σ1=>some (σ1.kQ ke kh)
 |none=>none
def bm.args:bm->List MO
 |.mv x|.box _ x|.load _ _ x|.tF _ _ x|.jZ x|.un _ x|.conv _ x|.q8 _ x|.ext _ x|.uv _ _ _ x|.tP _ _ x|.len x|.nY _ x=>[x]
 |.pick c x y=>[c,x,y]
 |.alloc _=>[]
 |.build _ ps=>ps.map (·.2.2)
 |.gy _ ps=>ps
 |.store _ x v=>[x,v]
 |.bin _ x y|.sZ _ x y|.mm _ x y|.append _ _ _ x y|.copy _ x y|.qE _ x y|.tail _ x y=>[x,y]
 |.kv _ _ _ _ l c=>[l,c]
 |.slice _ x lo hi=>x::(lo.toList++hi.toList)
 |.call _ _ xs|.uW _ xs|.g7 _ _ xs|.qU _ xs|.mn _ xs|.pF _ xs|.nX _ xs|.pG _ _ xs=>xs
 |.qV _ x xs=>x::xs
def bm.Kj:bm->Bool
 |.call ..|.qV ..|.qU ..=>true
 |_=>false
def ao.wE:ao->List Nat
 |.ptr n _ _ _=>[n]
 |.sl n _ _ _=>[n]
 |.cJ n _ _ _ _ _=>[n]
 |.eG n _ _ _ _ _=>[n]
 |_=>[]
def ao.nm:ao->List Nat
 |.fn _ ed=>ed.flatMap ao.wE
 |x=>x.wE
def aA.jN:aA->List Nat
 |.one c=>c.nm
 |.agg cs=>cs.flatMap ao.nm
 |.cF xs=>xs.flatMap fun x=>x.2.flatMap ao.nm
def FA (h:Nat->Option aK) (l:List Nat):List Nat:=l.flatMap fun n=>match h n with
 |some (.box cs)=>cs.flatMap ao.nm
 |_=>[]
def bm.lU (op:bm) (ev:MO->aA):List Nat:=op.args.flatMap fun x=>(ev x).jN
def bm.qc (op:bm) (ev:MO->aA) (h:Nat->Option aK):List Nat:=cond op.Kj (op.lU ev++FA h (op.lU ev)) (op.lU ev)
def bm.nV (op:bm) (ev:MO->aA) (h:Nat->Option aK):Option (List Nat):=
 match op with
 |.store _ x v=>match ev x with
  |.one (.ptr n _ _ _)=>match h n with
   |some (.box _)=>some [n]
   |some (.row ..)=>some (n::(ev v).jN)
   |none=>none
  |.one (.eG n _ _ _ _ _)=>some [n]
  |_=>none
 |.gy _ ps=>some (ps.flatMap fun p=>(ev p).jN)
 |.mn _ xs=>some (xs.flatMap fun p=>(ev p).jN)
 |.append _ _ _ x y=>some ((ev x).jN++(ev y).jN)
 |.copy _ x _|.nY _ x=>match ev x with
  |.one (.sl n _ _ _)=>some [n]
  |_=>none
 |.g7 ..|.pG ..|.tail ..|.tF ..=>none
 |_=>some []
abbrev FP:=List Nat×List Nat
def bm.fp (op:bm) (σ:St):Option FP:=(op.nV σ.ev σ.h).map fun w=>(op.qc σ.ev σ.h,w)
def I3 (f g:FP):Bool:=f.2.all (fun n=> !(g.1.contains n))&&g.2.all (fun n=> !(f.1.contains n))
def I4:Option FP->Option FP->Bool
 |some f,some g=>I3 f g
 |_,_=>false
def qt (o:cZ) (e:Nat->aA):Option bm:=
 match o.guard with
 |none=>some o.op
 |some (s,oK)=>match e s with
  |.one (.c (.bool b))=>if b=oK then some o.op else some (.mv (.k (.cF [])))
  |.cF []=>some (.mv (.k (.cF [])))
  |_=>none
def cZ.fp (o:cZ) (σ:St):Option FP:=
 match qt o σ.env with
 |some op=>op.fp σ
 |none=>none
def zF (ps:List (Nat×Nat)) (fs:List (Option FP)):Bool:=ps.all fun p=>I4 (fs.getD p.1 none) (fs.getD p.2 none)
def pP (T:br):List cZ->List (Option FP)->St->Option (List (Option FP)×St)
 |[],eE,σ=>some (eE,σ)
 |o::os,eE,σ=>match gv T o σ with
  |some σ1=>pP T os (eE++[o.fp σ]) σ1
  |none=>none
def aI:Nat:=2^64
def Hc:Nat->(St->Option vB)->St->Option vB
 |0,_,_=>none
 |n+1,f,σ=>match f σ with
  |some (.gN σ')=>Hc n f σ'
  |o=>o
def eY (T:br):lF->St->Option vB
 |.skip,σ=>some (.gN σ)
 |.dB _ ops,σ=>match ni T ops σ with
  |some σ'=>some (.gN σ')
  |none=>none
 |.o9 ps ops,σ=>match pP T ops [] σ with
  |some (fs,σ')=>cond (zF ps fs) (some (.gN σ')) none
  |none=>none
 |.seq a b,σ=>match eY T a σ with
  |some (.gN σ')=>eY T b σ'
  |o=>o
 |.cond c a b,σ=>match σ.ev c with
  |.one (.c (.bool t))=>if t=true then eY T a σ else eY T b σ
  |_=>none
 |.block id c,σ=>match eY T c σ with
  |some (.ext i σ')=>if i=id then some (.gN σ') else some (.ext i σ')
  |o=>o
 |.join ke kh cn c,σ=>match eY T c σ with
  |some (.gN σ')=>match σ'.head ke kh cn with
   |some σ1=>some (.gN σ1)
   |none=>none
  |o=>o
 |.loop id ke kh cn c,σ=>Hc aI (fun σ=>match σ.head ke kh cn with|some σ1=>eY T c σ1|none=>none) σ
 |.exit id,σ=>some (.ext id σ)
 |.ret,σ=>some (.ret σ)
section
variable {B:Nat} {E:Ex} {w0 w w':World} {G G':Gh} {h h':Nat->Option aK} {used used':Nat->Bool} {tk:List PC}
theorem cr.refl (w:World) (G:Gh) (h:Nat->Option aK) (u:Nat->Prop):cr w G h u w G h:=
 ⟨fun _ h=>h,fun _ _ _=>rfl,fun _ _ h=>⟨h,rfl,rfl,rfl,rfl,rfl⟩,fun n gr sz xs _ hn=>⟨⟨gr,xs,hn⟩,fun k j pc h1 h2=>⟨pc,h1,rfl,h2⟩⟩⟩
theorem cr.trans {w1 w2 w3:World} {G1 G2 G3:Gh} {h1 h2 h3:Nat->Option aK} {u u2:Nat->Prop} (hu:∀n,u n->u2 n)
  (a:cr w1 G1 h1 u w2 G2 h2) (b:cr w2 G2 h2 u2 w3 G3 h3):cr w1 G1 h1 u w3 G3 h3:=by
 refine⟨fun x hx=>b.im x (a.im x hx),fun x hx o=>(b.cell x (a.im x hx) o).trans (a.cell x hx o),fun n hn h=>?_,fun n gr sz xs hn h=>?_⟩
 ·obtain⟨c0,c1,c2,c3,c4,c5⟩:=b.name n (hu n hn) h;obtain⟨d0,d1,d2,d3,d4,d5⟩:=a.name n hn c0;exact⟨d0,c1.trans d1,c2.trans d2,c3.trans d3,c4.trans d4,c5.trans d5⟩
 ·obtain⟨⟨F7,mb,e2⟩,l2⟩:=b.live n gr sz xs (hu n hn) h;obtain⟨e1,l1⟩:=a.live n F7 sz mb hn e2;refine⟨e1,fun k j pc p1 p2=>?_⟩;obtain⟨q,q1,q2,q3⟩:=l1 k j pc p1 p2;obtain⟨r,r1,r2,r3⟩:=l2 k j q q1 q3;exact⟨r,r1,r2.trans q2,r3⟩
theorem cr.world (qy:∀b,G.Im b->w'.heap[b]? =w.heap[b]?) (u:Nat->Prop):cr w G h u w' G h:=
 ⟨fun _ h=>h,fun b hb o=>lG (qy b hb) o,fun _ _ h=>⟨h,rfl,rfl,rfl,rfl,rfl⟩,fun n gr sz xs _ hn=>⟨⟨gr,xs,hn⟩,fun k j pc h1 h2=>⟨pc,h1,rfl,h2⟩⟩⟩
theorem HR.wH (H:HR B E w G h used tk) {n:Nat} {gr:Bool} {m:Mode} {sz:Nat} {xs:List (List C)} (hn:h n=some (.row gr m sz xs)) {b:Nat} (hb:bY b (G.g n).px):b<w.heap.size:=by
 have hr:=H.row n gr m sz xs hn;cases bI:(G.g n).nl with
 |true=>obtain⟨k,j,c,⟨e,he,_⟩,_⟩:=hb;rw[(hr.nl bI).1] at he;simp at he
 |false=>exact(hr.gd bI).2.1.lt hb
theorem HR.grow (H:HR B E w G h used tk) (hw:∀b,b<w.heap.size->w'.heap[b]? =w.heap[b]?) (dd:w.heap.size<=w'.heap.size):HR B E w' G h used tk:=by
 have K:cr w G h (fun n=>used n=true) w' G h:=cr.world (fun b hb=>hw b (H.jM b hb)) _;have xC:∀b,fL w b->fL w' b:=fun b hb=>hb.congr (hw b hb.lt);refine⟨H.lI,H.j7,fun n cs hn=>?_,fun n gr m sz xs hn=>?_,fun n hn hl=>?_,H.inj,fun b hb=>zaj (H.jM b hb) dd,H.tC,H.ja,H.live,fun i pc hi=>?_,H.z6,H.vp⟩
 ·obtain⟨h1,h2,h3⟩:=H.box n cs hn;refine⟨h1,xC _ h2,fun j c hj=>?_⟩;obtain⟨v,a1,a2,a3⟩:=h3 j c hj;exact⟨v,(lG (hw _ h2.lt) _).trans a1,a2,a3.fu K fun m hm=>H.j7 n cs c m hn (zaa hj) hm⟩
 ·have hr:=H.row n gr m sz xs hn;refine⟨hr.pos,hr.er,hr.nl,fun hl=>?_,fun hl hg=>?_,?_⟩
  ·obtain⟨a1,a2,a3⟩:=hr.gd hl;exact⟨xC _ a1,a2.congr (fun o=>lG (hw _ a1.lt) o) (fun b' bX o=>lG (hw _ (a2.lt bX)) o),a3⟩
  ·obtain⟨r2,cur,e,r3,r4⟩:=hr.room hl hg;exact⟨r2,cur,e,(hw _ (hr.gd hl).1.lt).trans r3,r4⟩
  ·have hm:=hr.mode;cases m with
   |aV=>exact hm
   |aZ=>exact⟨fun b hb=>⟨(hm.1 b hb).1,xC _ (hm.1 b hb).2.1,(hm.1 b hb).2.2⟩,hm.2⟩
   |live=>exact⟨fun b hb=>⟨(hm.1 b hb).1,xC _ (hm.1 b hb).2.1,(hm.1 b hb).2.2⟩,hm.2⟩
 ·obtain⟨a1,a2,a3⟩:=H.own n hn hl;exact⟨a1,a2,zaj a3 dd⟩
 ·obtain⟨a1,a2⟩:=H.vo i pc hi;exact⟨a1,fun b hb=>⟨(a2 b hb).1,xC _ (a2 b hb).2.1,(a2 b hb).2.2⟩⟩
theorem Fr.refl (B:Nat) (E:Ex) (w0:World) (hB:B<=w0.heap.size):Fr B E w0 w0:=
 ⟨rfl,rfl,rfl,hB,fun _ _ _=>rfl,fun _ _=>Cz.refl _ _⟩
theorem Fr.grow (F:Fr B E w0 w) (hw:∀b,b<w.heap.size->w'.heap[b]? =w.heap[b]?) (dd:w.heap.size<=w'.heap.size) (ho:w'.os=w.os) (ht:w'.tape=w.tape) (hp:w'.output=w.output):Fr B E w0 w':=
 ⟨ho.trans F.os,ht.trans F.tape,hp.trans F.output,zaG F.size dd,fun b hb he=>(hw b (zaj hb F.size)).trans (F.block b hb he),
  fun b hb=>(F.kS b hb).trans (Cz.of_eq (hw b (zaj hb F.size)))⟩
theorem Fr.one (F:Fr B E w0 w) {b0:Nat} (xt:B<=b0\/E b0) (hw:∀b,b<w.heap.size->b≠b0->w'.heap[b]? =w.heap[b]?) (dd:w.heap.size<=w'.heap.size)
  (hu:Cz w w' b0) (ho:w'.os=w.os) (ht:w'.tape=w.tape) (hp:w'.output=w.output):Fr B E w0 w':=by
 refine⟨ho.trans F.os,ht.trans F.tape,hp.trans F.output,zaG F.size dd,fun b hb he=>?_,fun b hb=>?_⟩
 ·refine(hw b (zaj hb F.size) ?_).trans (F.block b hb he);rintro rfl;rcases xt with h1|h1
  ·omega
  ·exact he h1
 ·by_cases Gf:b=b0
  ·subst Gf;exact(F.kS b hb).trans hu
  ·exact(F.kS b hb).trans (Cz.of_eq (hw b (zaj hb F.size) Gf))
def amY (B:Nat) (E:Ex) (w:World) (G:Gh) (h:Nat->Option aK) (p:PB):aK->Prop
 |.box cs=>p.nl=false/\fL w p.b/\∀(j:Nat) (c:ao),cs[j]? =some c->∃v,w.cell? (ad p.b (p.o+j))=some v/\v.oneCell'=true/\RC w G h c v
 |.row gr m sz xs=>yz B E w G gr m sz xs p
theorem HR.put (H:HR B E w G h used tk) {n:Nat} {blk:aK} {p:PB}
  (hw:∀b,b<w.heap.size->(p.nl=false->b≠p.b)->w'.heap[b]? =w.heap[b]?) (dd:w.heap.size<=w'.heap.size)
  (GF:∀b,b<w.heap.size->fL w b->fL w' b)
  (hu:∀m,used m=true->used' m=true) (asA:used' n=true)
  (vZ:p.nl=false->¬G.Im p.b/\(B<=p.b\/E p.b)/\p.b<w'.heap.size)
  (A7:p.nl=false->∀m,m≠n->h m≠none->(G.g m).nl=false->(G.g m).b≠p.b)
  (ar9:p.nl=false->∀m gr sz xs,m≠n->h m=some (.row gr .live sz xs)->∀b,bY b (G.g m).px->b≠p.b)
  (Bn:∀cs c m,blk=.box cs->c∈cs->c.ref m->used' m=true)
  (K:cr w G h (fun n=>used n=true) w' ⟨G.Im,aX G.g n p⟩ (aX h n (some blk)))
  (n8:amY B E w' ⟨G.Im,aX G.g n p⟩ (aX h n (some blk)) p blk)
  (PM:∀gr m sz xs,blk=.row gr m sz xs->m≠ .aV->∀n' cv m' bu aM,n'≠n->h n'=some (.row cv m' bu aM)->m'≠ .aV->∀b,bY b p.px->¬bY b (G.g n').px)
  (xu:∀gr sz xs,blk=.row gr .live sz xs->∀b,bY b p.px->(p.nl=false->b≠p.b)/\∀n',n'≠n->h n'≠none->(G.g n').nl=false->b≠(G.g n').b)
  (GA:∀gr m sz xs,blk=.row gr m sz xs->m≠ .aV->∀(i:Nat) (pc:PC) (b:Nat),tk[i]? =some pc->bR b pc->¬bY b p.px)
  (qy:p.nl=false->p.b<w.heap.size->∀b,(∃m gr mo sz xs,m≠n/\h m=some (.row gr mo sz xs)/\bY b (G.g m).px)->b≠p.b):
  HR B E w' ⟨G.Im,aX G.g n p⟩ (aX h n (some blk)) used' tk:=by
 have e1:∀m,m≠n->aX h n (some blk) m=h m:=fun m hm=>dN _ _ _ _ hm;have e2:∀m,m≠n->aX G.g n p m=G.g m:=fun m hm=>dN _ _ _ _ hm;have VW:∀m,m≠n->h m≠none->(G.g m).nl=false->w'.heap[(G.g m).b]? =w.heap[(G.g m).b]? :=fun m hm h0 hl=>
  hw _ (H.own m h0 hl).2.2 (fun hp=>A7 hp m hm h0 hl)
 refine⟨?_,?_,?_,?_,?_,?_,?_,H.tC,?_,?_,?_,?_,?_⟩
 ·intro m hm;by_cases cO:m=n
  ·subst cO;exact asA
  ·rw[e1 m cO] at hm;exact hu m (H.lI m hm)
 ·intro m cs c q hm hc hr;by_cases cO:m=n
  ·subst cO;rw[cT] at hm;injection hm with hm;exact Bn cs c q hm hc hr
  ·rw[e1 m cO] at hm;exact hu q (H.j7 m cs c q hm hc hr)
 ·intro m cs hm;by_cases cO:m=n
  ·subst cO;rw[cT] at hm;injection hm with hm;subst hm;simp only[cT];exact n8
  ·rw[e1 m cO] at hm;simp only[e2 m cO];obtain⟨a1,a2,a3⟩:=H.box m cs hm;have hs:=VW m cO (by rw[hm];simp) a1;refine⟨a1,a2.congr hs,fun j c hj=>?_⟩;obtain⟨v,b1,b2,b3⟩:=a3 j c hj;exact⟨v,(lG hs _).trans b1,b2,b3.fu K fun q hq=>H.j7 m cs c q hm (zaa hj) hq⟩
 ·intro m gr mo sz xs hm;by_cases cO:m=n
  ·subst cO;rw[cT] at hm;injection hm with hm;subst hm;simp only[cT];exact n8
  ·rw[e1 m cO] at hm;simp only[e2 m cO];have hr:=H.row m gr mo sz xs hm;have hf:∀b,bY b (G.g m).px->w'.heap[b]? =w.heap[b]? :=fun b hb=>
    hw b (H.wH hm hb) (fun hp gw=>by
     by_cases cC:p.b<w.heap.size
     ·exact qy hp cC b ⟨m,gr,mo,sz,xs,cO,hm,hb⟩ gw
     ·have:=H.wH hm hb;omega)
   refine⟨hr.pos,hr.er,hr.nl,fun hl=>?_,fun hl hg=>?_,?_⟩
   ·have hs:=VW m cO (by rw[hm];simp) hl;obtain⟨a1,a2,a3⟩:=hr.gd hl;exact⟨a1.congr hs,a2.congr (fun o=>lG hs o) (fun b' bX o=>lG (hf b' bX) o),a3⟩
   ·have hs:=VW m cO (by rw[hm];simp) hl;obtain⟨r2,cur,e,r3,r4⟩:=hr.room hl hg;exact⟨r2,cur,e,hs.trans r3,r4⟩
   ·have eR:=hr.mode;cases mo with
    |aV=>exact eR
    |aZ=>exact⟨fun b hb=>⟨(eR.1 b hb).1,(eR.1 b hb).2.1.congr (hf b hb),(eR.1 b hb).2.2⟩,eR.2⟩
    |live=>exact⟨fun b hb=>⟨(eR.1 b hb).1,(eR.1 b hb).2.1.congr (hf b hb),(eR.1 b hb).2.2⟩,eR.2⟩
 ·intro m hm hl;by_cases cO:m=n
  ·subst cO;simp only[cT] at hl⊢;exact vZ hl
  ·rw[e1 m cO] at hm;simp only[e2 m cO] at hl⊢;obtain⟨a1,a2,a3⟩:=H.own m hm hl;exact⟨a1,a2,zaj a3 dd⟩
 ·intro m m' hm cQ aR hl fv;by_cases cO:m=n
  ·subst cO;have lr:m'≠m:=fun e=>aR e.symm;rw[e1 m' lr] at cQ;simp only[cT,e2 m' lr] at hl fv⊢;exact fun e=>A7 hl m' lr cQ fv e.symm
  ·rw[e1 m cO] at hm;by_cases lr:m'=n
   ·subst lr;simp only[cT,e2 m cO] at hl fv⊢;exact A7 fv m cO hm hl
   ·rw[e1 m' lr] at cQ;simp only[e2 m cO,e2 m' lr] at hl fv⊢;exact H.inj m m' hm cQ aR hl fv
 ·exact fun b hb=>zaj (H.jM b hb) dd
 ·intro m m' gr mo sz xs cv qK bu aM hm cQ hb bX aR b eI;by_cases cO:m=n
  ·subst cO;have lr:m'≠m:=fun e=>aR e.symm;rw[e1 m' lr] at cQ;rw[cT] at hm;injection hm with hm;simp only[cT,e2 m' lr] at eI⊢;exact PM gr mo sz xs hm hb m' cv qK bu aM lr cQ bX b eI
  ·rw[e1 m cO] at hm;by_cases lr:m'=n
   ·subst lr;rw[cT] at cQ;injection cQ with cQ;simp only[cT,e2 m cO] at eI⊢;exact fun yT=>PM cv qK bu aM cQ bX m gr mo sz xs cO hm hb b yT eI
   ·rw[e1 m' lr] at cQ;simp only[e2 m cO,e2 m' lr] at eI⊢;exact H.ja m m' gr mo sz xs cv qK bu aM hm cQ hb bX aR b eI
 ·intro m gr sz xs hm b hb m' cQ fv;by_cases cO:m=n
  ·subst cO;rw[cT] at hm;injection hm with hm;simp only[cT] at hb;have:=xu gr sz xs hm b hb;by_cases lr:m'=m
   ·subst lr;simp only[cT] at fv⊢;exact this.1 fv
   ·rw[e1 m' lr] at cQ;simp only[e2 m' lr] at fv⊢;exact this.2 m' lr cQ fv
  ·rw[e1 m cO] at hm;simp only[e2 m cO] at hb;by_cases lr:m'=n
   ·subst lr;simp only[cT] at fv⊢;exact ar9 fv m gr sz xs cO hm b hb
   ·rw[e1 m' lr] at cQ;simp only[e2 m' lr] at fv⊢;exact H.live m gr sz xs hm b hb m' cQ fv
 ·intro i pc hi;obtain⟨a1,a2⟩:=H.vo i pc hi;exact⟨a1,fun b hb=>⟨(a2 b hb).1,GF b (H.jM b (a2 b hb).1) (a2 b hb).2.1,(a2 b hb).2.2⟩⟩
 ·exact H.z6
 ·intro i pc m gr mo sz xs b hi hm nv hb;by_cases cO:m=n
  ·subst cO;rw[cT] at hm;injection hm with hm;simp only[cT];exact GA gr mo sz xs hm nv i pc b hi hb
  ·rw[e1 m cO] at hm;simp only[e2 m cO];exact H.vp i pc m gr mo sz xs b hi hm nv hb
theorem HR.del (H:HR B E w G h used tk) (n:Nat):HR B E w G (aX h n none) used tk:=by
 have e0:∀m b,aX h n none m=some b->h m=some b/\m≠n:=fun m b hm=>by
  by_cases cO:m=n
  ·subst cO;rw[cT] at hm;cases hm
  ·rw[dN _ _ _ _ cO] at hm;exact⟨hm,cO⟩
 have e1:∀m,aX h n none m≠none->h m≠none:=fun m hm=>by
  by_cases cO:m=n
  ·subst cO;rw[cT] at hm;exact absurd rfl hm
  ·rwa[dN _ _ _ _ cO] at hm
 have K:cr w G h (fun n=>used n=true) w G (aX h n none):=
  ⟨fun _ h=>h,fun _ _ _=>rfl,fun m _ hm=>⟨e1 m hm,rfl,rfl,rfl,rfl,rfl⟩,fun m gr sz xs _ hm=>⟨⟨gr,xs,(e0 m _ hm).1⟩,fun k j pc h1 h2=>⟨pc,h1,rfl,h2⟩⟩⟩
 refine⟨fun m hm=>H.lI m (e1 m hm),fun m cs c q hm=>H.j7 m cs c q (e0 m _ hm).1,fun m cs hm=>?_,fun m gr mo sz xs hm=>H.row m gr mo sz xs (e0 m _ hm).1,
  fun m hm=>H.own m (e1 m hm),fun m m' hm cQ=>H.inj m m' (e1 m hm) (e1 m' cQ),H.jM,H.tC,fun m m' gr mo sz xs cv qK bu aM hm cQ=>H.ja m m' gr mo sz xs cv qK bu aM (e0 m _ hm).1 (e0 m' _ cQ).1,
  fun m gr sz xs hm b hb m' cQ=>H.live m gr sz xs (e0 m _ hm).1 b hb m' (e1 m' cQ),H.vo,H.z6,fun i pc m gr mo sz xs b hi hm=>H.vp i pc m gr mo sz xs b hi (e0 m _ hm).1⟩
 obtain⟨a1,a2,a3⟩:=H.box m cs (e0 m _ hm).1;refine⟨a1,a2,fun j c hj=>?_⟩;obtain⟨v,b1,b2,b3⟩:=a3 j c hj;exact⟨v,b1,b2,b3.fu K fun q hq=>H.j7 m cs c q (e0 m _ hm).1 (zaa hj) hq⟩
theorem cr.del (n:Nat) (u:Nat->Prop):cr w G h u w G (aX h n none):=by
 have e1:∀m b,aX h n none m=some b->h m=some b:=fun m b hm=>by
  by_cases cO:m=n
  ·subst cO;rw[cT] at hm;cases hm
  ·rwa[dN _ _ _ _ cO] at hm
 refine⟨fun _ h=>h,fun _ _ _=>rfl,fun m _ hm=>?_,fun m gr sz xs _ hm=>⟨⟨gr,xs,e1 m _ hm⟩,fun k j pc h1 h2=>⟨pc,h1,rfl,h2⟩⟩⟩;cases hh:aX h n none m with
 |none=>exact absurd hh hm
 |some b=>rw[e1 m b hh];exact⟨by simp,rfl,rfl,rfl,rfl,rfl⟩
end
theorem sY {α:Type} {px:List (List α)} {lo len k j:Nat} {c:α} (h:At ((px.drop lo).take len) k j c):At px (lo+k) j c/\k<len:=by
 obtain⟨e,he,hj⟩:=h;rw[List.getElem?_take] at he;split at he
 ·rename_i hk;rw[zaD] at he;exact⟨⟨e,he,hj⟩,hk⟩
 ·cases he
section
variable {B:Nat} {E:Ex} {w0 w w':World} {G G':Gh} {h h':Nat->Option aK} {used used':Nat->Bool} {tk:List PC}
def oG (p:PB) (sz lo len:Nat) (v:Value):PC:=
 match v with
 |.slice a _ cap=>.list sz a cap ((p.px.drop lo).take len)
 |_=>.bool false
theorem Lq {gr:Bool} {m:Mode} {sz:Nat} {xs:List (List C)} {p:PB} (hr:yz B E w G gr m sz xs p) {lo len:Nat} {v:Value} (hv:nh p sz lo len v) (hl:lo+len<=xs.length):
  (oG p sz lo len v).er=.list sz ((xs.drop lo).take len)/\(oG p sz lo len v).val=v/\Good w (oG p sz lo len v)/\
  (∀b,bR b (oG p sz lo len v)->(p.nl=false/\b=p.b)\/bY b p.px):=by
 have je:p.px.length=xs.length:=by rw[hr.er];simp
 rcases hv with⟨hn,rfl,rfl,rfl⟩|⟨hn,a,rfl,hc,ha⟩
 ·have h0:=(hr.nl hn).1;refine⟨?_,?_,?_,?_⟩
  ·simp[oG,PC.fN]
  ·simp[oG,PC.val]
  ·simp only[oG,zbi,za2];exact .nil _ _ _ hr.pos
  ·intro b hb;simp only[oG,zbi,za2] at hb;rw[bR.oE] at hb;rcases hb with⟨hb,_⟩|⟨k,j,c,⟨e,he,_⟩,_⟩
   ·exact absurd rfl hb
   ·simp at he
 ·have hlen:((p.px.drop lo).take len).length=len:=by simp;omega
  refine⟨?_,?_,?_,?_⟩
  ·simp only[oG,PC.fN];rw[hr.er,za7,za8]
  ·simp[oG,PC.val];omega
  ·simp only[oG];by_cases h0:(p.px.drop lo).take len=[]
   ·rw[h0];exact .nil _ _ _ hr.pos
   ·have afz:0<len:=by
     rcases zaM len with hz|hz
     ·subst hz;simp at h0
     ·exact hz
    have e:=ha (.inl (by omega));subst e;obtain⟨a1,a2,a3⟩:=hr.gd hn;refine .cons sz p.b (p.o+lo*sz) _ _ h0 (by omega) hr.pos (fun e he=>a2.1 e (zas (zat he))) (fun k j c hk=>?_) (fun k j c hk=>a2.2.2 _ _ _ (sY hk).1);have:=a2.2.1 _ _ _ (sY hk).1;rw[zai] at this;rw[<-this];congr 2;omega
  ·intro b hb;simp only[oG] at hb;rw[bR.oE] at hb;rcases hb with⟨hb,o,ho⟩|⟨k,j,c,hk,hb⟩
   ·have afz:0<len:=by
     rcases zaM len with hz|hz
     ·subst hz;simp at hb
     ·exact hz
    have e:=ha (.inl (by omega));rw[e] at ho;injection ho with ho;exact .inl ⟨hn,(qS ho).1.symm⟩
   ·exact .inr ⟨_,_,_,(sY hk).1,hb⟩
theorem HR.dH (H:HR B E w G h used tk) {c:ao} {x:C} {v:Value} (hx:dH h c=some x) (hc:RC w G h c v):∃pc:PC,pc.er=x/\pc.val=v/\Good w pc:=by
 cases c with
 |c y=>
  simp only[Am.dH] at hx;injection hx with hx;subst hx;obtain⟨pc,h1,h2,h3,_⟩:=hc;exact⟨pc,h1,h2,h3⟩
 |nil sz=>
  simp only[Am.dH] at hx;split at hx
  ·rename_i fO;injection hx with hx;subst hx;have dJ:v=.slice none 0 0:=hc;subst dJ;exact⟨.list sz none 0 [],by simp[PC.fN],rfl,.nil _ _ _ fO⟩
  ·cases hx
 |sl n sz lo len=>
  simp only[Am.dH] at hx;split at hx
  ·rename_i gr m rs xs hn;split at hx
   ·rename_i eQ;obtain⟨rfl,hl⟩:=eQ;injection hx with hx;subst hx;have hs:nh (G.g n) rs lo len v:=hc (by rw[hn];simp);obtain⟨a1,a2,a3,_⟩:=Lq (H.row n gr m rs xs hn) hs hl;exact⟨_,a1,a2,a3⟩
   ·cases hx
  ·cases hx
 |cJ n k aY off sz len=>
  simp only[Am.dH] at hx;split at hx
  ·rename_i gr rs xs hn;split at hx
   ·rename_i eQ;subst eQ;obtain⟨pc,p1,p2,p3⟩:=hc gr xs hn;have hr:=H.row n gr .live rs xs hn;have bI:(G.g n).nl=false:=by
     cases hq:(G.g n).nl with
     |false=>rfl
     |true=>obtain⟨e,he,_⟩:=p1;rw[(hr.nl hq).1] at he;simp at he
    refine⟨pc,?_,p2,(hr.gd bI).2.1.2.2 _ _ _ p1⟩;obtain⟨e,he,hj⟩:=p1;rw[hr.er] at hx;simp[he,hj] at hx;exact hx
   ·cases hx
  ·cases hx
 |ptr _ _ _ _=>simp[Am.dH] at hx
 |dR _ _=>simp[Am.dH] at hx
 |fn _ _=>simp[Am.dH] at hx
 |eG _ _ _ _ _ _=>simp[Am.dH] at hx
 |cD=>simp[Am.dH] at hx
theorem HR.j6 (H:HR B E w G h used tk):∀{cs:List ao} {xs:List C} {vs:List Value},j6 h cs=some xs->eO w G h cs vs->
  ∃cH:List PC,cH.map PC.er=xs/\cH.map PC.val=vs/\∀pc∈cH,Good w pc
 |[],xs,vs,hx,hc=>by
  simp only[Am.j6] at hx;injection hx with hx;subst hx;have:vs=[]:=zae (by simpa using hc.1);subst this;exact⟨[],rfl,rfl,by simp⟩
 |c::cs,xs,vs,hx,hc=>by
  simp only[Am.j6] at hx;split at hx
  ·rename_i x aM e1 e2;injection hx with hx;subst hx;obtain⟨hlen,cY⟩:=hc;match vs,hlen with
   |v::vs,hlen=>
    obtain⟨pc,a1,a2,a3⟩:=H.dH e1 (cY 0 c v rfl rfl).2;obtain⟨cH,b1,b2,b3⟩:=H.j6 e2 (cs:=cs) (vs:=vs) ⟨by simpa using hlen,fun j c u h1 h2=>cY (j+1) c u h1 h2⟩;refine⟨pc::cH,by simp[a1,b1],by simp[a2,b2],fun q hq=>?_⟩;cases hq with
    |head=>exact a3
    |tail _ hq=>exact b3 q hq
  ·cases hx
def EM (w:World) (d:Dv) (v:Value):Prop:=
 match d.1 with
 |.one=>∃cH:List PC,cH.map PC.er=d.2/\(∀pc∈cH,Good w pc)/\cH.map PC.val=[v]
 |.agg=>∃cH:List PC,cH.map PC.er=d.2/\(∀pc∈cH,Good w pc)/\v=.agg (cH.map PC.val).toArray
 |.ptr=>∃(cH:List PC) (b o:Nat),cH.map PC.er=d.2/\v=.pointer (some (ad b o))/\b<w.heap.size/\
  ∀j c,cH[j]? =some c->w.cell? (ad b (o+j))=some c.val/\Good w c
def LU (w:World) (ds:List Dv) (vs:List Value):Prop:=
 vs.length=ds.length/\∀(j:Nat) (d:Dv) (v:Value),ds[j]? =some d->vs[j]? =some v->EM w d v
theorem HR.kT (H:HR B E w G h used tk) {x:aA} {d:Dv} {v:Value} (hx:kT h x=some d) (hc:RA w G h x v):EM w d v:=by
 have one:∀c:ao,(Am.dH h c).map (fun x=>((.one,[x]):Dv))=some d->RA w G h (.one c) v->EM w d v:=by
  intro c hx hc;cases hv:Am.dH h c with
  |none=>rw[hv] at hx;cases hx
  |some y=>
   rw[hv] at hx;simp at hx;subst hx;rcases hc with rfl|hc
   ·simp[Am.dH] at hv
   ·have dJ:eO w G h [c] [v]:=hc;obtain⟨pc,a1,a2,a3⟩:=H.dH hv (dJ.2 0 c v rfl rfl).2;exact⟨[pc],by simp[a1],by simpa using a3,by simp[a2]⟩
 cases x with
 |one c=>
  cases c with
  |ptr n k sz off=>
   simp only[Am.kT] at hx;split at hx
   ·rename_i cs hn;split at hx
    ·rename_i eQ;obtain⟨rfl,rfl⟩:=eQ;cases hv:Am.j6 h cs with
     |none=>rw[hv] at hx;cases hx
     |some xs=>
      rw[hv] at hx;simp at hx;subst hx;rcases hc with hc|hc
      ·cases hc
      ·have dJ:eO w G h [.ptr n 0 sz 0] [v]:=hc;have hp:=(dJ.2 0 _ v rfl rfl).2 (by rw[hn];simp);obtain⟨tv,rj⟩:=hp;obtain⟨q1,q2,q3⟩:=H.box n cs hn;have cN:∀(cs:List ao) (o:Nat) (xs:List C),(∀(j:Nat) (c:ao),cs[j]? =some c->∃v,w.cell? (ad (G.g n).b (o+j))=some v/\v.oneCell'=true/\RC w G h c v)->Am.j6 h cs=some xs->
         ∃cH:List PC,cH.map PC.er=xs/\∀j c,cH[j]? =some c->w.cell? (ad (G.g n).b (o+j))=some c.val/\Good w c:=by
        intro cs;induction cs with
        |nil=>
         intro o xs _ hx;simp only[Am.j6] at hx;injection hx with hx;subst hx;exact⟨[],rfl,by simp⟩
        |cons c cs ih=>
         intro o xs kD hx;simp only[Am.j6] at hx;split at hx
         ·rename_i x aM e1 e2;injection hx with hx;subst hx;obtain⟨u,u1,_,u2⟩:=kD 0 c rfl;obtain⟨pc,a1,a2,a3⟩:=H.dH e1 u2;obtain⟨cH,b1,b2⟩:=ih (o+1) aM (fun j c hj=>by
           have:=kD (j+1) c hj;rwa[show o+(j+1)=o+1+j from by omega] at this) e2
          refine⟨pc::cH,by simp[a1,b1],fun j c hj=>?_⟩;cases j with
          |zero=>simp at hj;subst hj;rw[a2];exact⟨u1,a3⟩
          |succ j=>
           have:=b2 j c (by simpa using hj);rwa[show o+1+j=o+(j+1) from by omega] at this
         ·cases hx
       obtain⟨cH,b1,b2⟩:=cN cs (G.g n).o xs q3 hv;exact⟨cH,(G.g n).b,(G.g n).o,b1,by simpa using rj,q2.lt,b2⟩
    ·cases hx
   ·cases hx
  |dR xs off=>
   simp only[Am.kT] at hx;split at hx
   ·rename_i h0;subst h0;injection hx with hx;subst hx;rcases hc with hc|hc
    ·cases hc
    ·have dJ:eO w G h [.dR xs 0] [v]:=hc;obtain⟨b,o,pe,p1,p2,p3,p4⟩:=(dJ.2 0 _ v rfl rfl).2;exact⟨pe,b,o,p2,by simpa using p1,H.jM b p3,fun j c hj=>⟨(p4 j c hj).1,(p4 j c hj).2.1⟩⟩
   ·cases hx
  |c y=>exact one (.c y) hx hc
  |nil sz=>exact one (.nil sz) hx hc
  |sl n sz lo len=>exact one (.sl n sz lo len) hx hc
  |cJ n k aY off sz len=>exact one (.cJ n k aY off sz len) hx hc
  |eG n k aY off sz i=>exact one (.eG n k aY off sz i) hx hc
  |fn f ed=>exact one (.fn f ed) hx hc
  |cD=>exact one .cD hx hc
 |agg cs=>
  simp only[Am.kT] at hx;cases hv:Am.j6 h cs with
  |none=>rw[hv] at hx;cases hx
  |some xs=>
   rw[hv] at hx;simp at hx;subst hx;obtain⟨vs,e,hl⟩:∃vs:List Value,v=.agg vs.toArray/\eO w G h cs vs:=hc;obtain⟨cH,a1,a2,a3⟩:=H.j6 hv hl;exact⟨cH,a1,a3,by rw[e,a2]⟩
 |cF xs=>simp[Am.kT] at hx
theorem HR.pt (H:HR B E w G h used tk):∀{xs:List aA} {ds:List Dv} {vs:List Value},pt h xs=some ds->vs.length=xs.length->
  (∀(j:Nat) (x:aA) (v:Value),xs[j]? =some x->vs[j]? =some v->RA w G h x v)->LU w ds vs
 |[],ds,vs,hx,hl,hc=>by
  simp only[Am.pt] at hx;injection hx with hx;subst hx;exact⟨by simpa using hl,by simp⟩
 |x::xs,ds,vs,hx,hl,hc=>by
  simp only[Am.pt] at hx;split at hx
  ·rename_i d yK e1 e2;injection hx with hx;subst hx;match vs,hl with
   |v::vs,hl=>
    have a:=H.kT e1 (hc 0 x v rfl rfl);obtain⟨b1,b2⟩:=H.pt e2 (xs:=xs) (vs:=vs) (by simpa using hl) (fun j x v h1 h2=>hc (j+1) x v h1 h2);refine⟨by simp[b1],fun j d v hj hv=>?_⟩;cases j with
    |zero=>simp at hj hv;subst hj;subst hv;exact a
    |succ j=>exact b2 j d v (by simpa using hj) (by simpa using hv)
  ·cases hx
end
section
variable {B:Nat} {E:Ex} {w0 w w':World} {G G':Gh} {h h':Nat->Option aK} {used used':Nat->Bool} {tk:List PC}
theorem cr.xN (S:Nat->Prop) (u:Nat->Prop):cr w G h u w ⟨fun b=>G.Im b\/S b,G.g⟩ h:=
 ⟨fun _ h=>.inl h,fun _ _ _=>rfl,fun _ _ h=>⟨h,rfl,rfl,rfl,rfl,rfl⟩,fun n gr sz xs _ hn=>⟨⟨gr,xs,hn⟩,fun k j pc h1 h2=>⟨pc,h1,rfl,h2⟩⟩⟩
theorem HR.xN (H:HR B E w G h used tk) (S:Nat->Prop) (h1:∀b,S b->b<w.heap.size) (h2:∀b,S b->∀n,h n≠none->(G.g n).nl=false->b≠(G.g n).b)
  (h3:∀b,S b->∀n gr sz xs,h n=some (.row gr .live sz xs)->¬bY b (G.g n).px) (h4:∀b,S b->B<=b\/E b\/E.a b):HR B E w ⟨fun b=>G.Im b\/S b,G.g⟩ h used tk:=by
 refine⟨H.lI,H.j7,fun n cs hn=>?_,fun n gr m sz xs hn=>?_,fun n hn hl=>?_,H.inj,?_,fun b hb=>hb.elim (H.tC b) (h4 b),H.ja,H.live,fun i pc hi=>?_,H.z6,H.vp⟩
 ·obtain⟨a1,a2,a3⟩:=H.box n cs hn;refine⟨a1,a2,fun j c hj=>?_⟩;obtain⟨v,b1,b2,b3⟩:=a3 j c hj;exact⟨v,b1,b2,b3.fu (cr.xN S (fun n=>used n=true)) fun q hq=>H.j7 n cs c q hn (zaa hj) hq⟩
 ·have hr:=H.row n gr m sz xs hn;refine⟨hr.pos,hr.er,hr.nl,hr.gd,hr.room,?_⟩;have hm:=hr.mode;cases m with
  |aV=>exact fun b hb=>.inl (hm b hb)
  |aZ=>exact⟨fun b hb=>⟨.inl (hm.1 b hb).1,(hm.1 b hb).2⟩,hm.2⟩
  |live=>exact⟨fun b hb=>⟨fun hi=>hi.elim (hm.1 b hb).1 (fun hs=>h3 b hs n gr sz xs hn hb),(hm.1 b hb).2⟩,hm.2⟩
 ·obtain⟨a1,a2,a3⟩:=H.own n hn hl;exact⟨fun hi=>hi.elim a1 (fun hs=>h2 _ hs n hn hl rfl),a2,a3⟩
 ·exact fun b hb=>hb.elim (H.jM b) (h1 b)
 ·obtain⟨a1,a2⟩:=H.vo i pc hi;exact⟨a1,fun b hb=>⟨.inl (a2 b hb).1,(a2 b hb).2⟩⟩
theorem HR.Cc {l:List PC} (H:HR B E w G h used (tk++l)):HR B E w G h used tk:=by
 have e:∀(i:Nat) (pc:PC),tk[i]? =some pc->(tk++l)[i]? =some pc:=fun i pc hi=>by
  rw[zaf (zab.1 hi).1];exact hi
 exact⟨H.lI,H.j7,H.box,H.row,H.own,H.inj,H.jM,H.tC,H.ja,H.live,fun i pc hi=>H.vo i pc (e i pc hi),fun i j pc fh b mQ h1 h2=>H.z6 i j pc fh b mQ (e i pc h1) (e j fh h2),
  fun i pc n gr m sz xs b hi=>H.vp i pc n gr m sz xs b (e i pc hi)⟩
theorem HR.abd (H:HR B E w G h used tk) {pc:PC} (h1:Sep pc) (h2:∀b,bR b pc->G.Im b/\fL w b/\(B<=b\/E b))
  (h3:∀(i:Nat) (q:PC) (b:Nat),tk[i]? =some q->bR b q->¬bR b pc)
  (h4:∀n gr m sz xs b,h n=some (.row gr m sz xs)->m≠ .aV->bR b pc->¬bY b (G.g n).px):HR B E w G h used (tk++[pc]):=by
 have e:∀(i:Nat) (q:PC),(tk++[pc])[i]? =some q->(i<tk.length/\tk[i]? =some q)\/(i=tk.length/\q=pc):=fun i q hi=>by
  rcases zaP i tk.length with cC|gw|Dk
  ·rw[zaf cC] at hi;exact .inl ⟨cC,hi⟩
  ·subst gw;simp at hi;exact .inr ⟨rfl,hi.symm⟩
  ·rw[zaV (by simp;omega)] at hi;cases hi
 refine⟨H.lI,H.j7,H.box,H.row,H.own,H.inj,H.jM,H.tC,H.ja,H.live,fun i q hi=>?_,fun i j q q' b mQ hi hj hb=>?_,fun i q n gr m sz xs b hi hn hm hb=>?_⟩
 ·rcases e i q hi with⟨_,hi⟩|⟨_,rfl⟩
  ·exact H.vo i q hi
  ·exact⟨h1,h2⟩
 ·rcases e i q hi with⟨_,fA⟩|⟨ei,eq⟩
  ·rcases e j q' hj with⟨_,oS⟩|⟨_,eq'⟩
   ·exact H.z6 i j q q' b mQ fA oS hb
   ·rw[eq'];exact h3 i q b fA hb
  ·rcases e j q' hj with⟨_,oS⟩|⟨ej,eq'⟩
   ·rw[eq] at hb;exact fun bX=>h3 j q' b oS bX hb
   ·omega
 ·rcases e i q hi with⟨_,hi⟩|⟨_,rfl⟩
  ·exact H.vp i q n gr m sz xs b hi hn hm hb
  ·exact h4 n gr m sz xs b hn hm hb
theorem Sep.o8 {pc:PC} (hs:pc.er.gV=true):Sep pc/\∀b,¬bR b pc:=by
 cases pc with
 |int k n=>exact⟨.int k n,fun b hb=>by cases hb⟩
 |bool b=>exact⟨.bool b,fun b hb=>by cases hb⟩
 |list sz a cap xs=>simp[PC.fN,C.gV] at hs
theorem vJ {n m:Nat} {b:aK} (hm:aX h n none m=some b):h m=some b/\m≠n:=by
 by_cases cO:m=n
 ·subst cO;rw[cT] at hm;cases hm
 ·rw[dN _ _ _ _ cO] at hm;exact⟨hm,cO⟩
theorem IZ {n m:Nat} (hm:aX h n none m≠none):h m≠none/\m≠n:=by
 cases hh:aX h n none m with
 |none=>exact absurd hh hm
 |some b=>obtain⟨a,b⟩:=vJ hh;exact⟨by rw[a];simp,b⟩
def R6 (p:PB):Nat->Prop:=fun b=>(p.nl=false/\b=p.b)\/bY b p.px
theorem HR.freeze (H:HR B E w G h used tk) {n:Nat} {gr:Bool} {m:Mode} {rs:Nat} {xs:List (List C)} (hn:h n=some (.row gr m rs xs)):
  HR B E w ⟨fun b=>G.Im b\/R6 (G.g n) b,G.g⟩ (aX h n none) used tk:=by
 have hr:=H.row n gr m rs xs hn;have c8:h n≠none:=by rw[hn];simp
 have jm:∀b,bY b (G.g n).px->G.Im b\/m=.live:=fun b hb=>by
  have hm:=hr.mode;cases m with
  |aV=>exact .inl (hm b hb)
  |aZ=>exact .inl (hm.1 b hb).1
  |live=>exact .inr rfl
 refine(H.del n).xN (R6 (G.g n)) (fun b hb=>?_) (fun b hb q hq hl=>?_) (fun b hb q cv bu aM hq eI=>?_) (fun b hb=>?_)
 ·rcases hb with⟨h1,rfl⟩|hb
  ·exact(H.own n c8 h1).2.2
  ·exact H.wH hn hb
 ·obtain⟨rm,iJ⟩:=IZ hq;rcases hb with⟨h1,rfl⟩|hb
  ·exact H.inj n q c8 rm (zaW iJ) h1 hl
  ·rcases jm b hb with hi|rfl
   ·rintro rfl;exact(H.own q rm hl).1 hi
   ·exact H.live n gr rs xs hn b hb q rm hl
 ·obtain⟨rm,iJ⟩:=vJ hq;rcases hb with⟨h1,rfl⟩|hb
  ·exact H.live q cv bu aM rm _ eI n c8 h1 rfl
  ·rcases jm b hb with hi|rfl
   ·exact((H.row q cv .live bu aM rm).mode.1 b eI).1 hi
   ·exact H.ja n q gr .live rs xs cv .live bu aM hn rm (by simp) (by simp) (zaW iJ) b hb eI
 ·rcases hb with⟨h1,rfl⟩|hb
  ·exact(H.own n c8 h1).2.1.imp id .inl
  ·rcases jm b hb with hi|rfl
   ·exact H.tC b hi
   ·exact(hr.mode.1 b hb).2.2.imp id .inl
theorem kU.sub {px:List (List PC)} (hs:kU px) (lo len:Nat):kU ((px.drop lo).take len):=by
 refine⟨fun k j c hk=>hs.1 _ _ _ (sY hk).1,fun k j c k' j' c' b hk dg aR hb=>hs.2 _ _ _ _ _ _ b (sY hk).1 (sY dg).1 (fun e=>aR ?_) hb⟩;injection e with e1 e2;rw[show k=k' by omega,e2]
theorem HR.iY {σ σ1:St} (H:HR B E w G σ.h σ.used tk) {c:ao} {x:C} {o:Bool} {v:Value} (hx:σ.iY c=some (x,o,σ1)) (hc:RC w G σ.h c v):
  ∃(Im':Nat->Prop) (pc:PC),pc.er=x/\pc.val=v/\Good w pc/\(∀b,bR b pc->Im' b)/\
   HR B E w ⟨Im',G.g⟩ σ1.h σ.used (if o=true then tk++[pc] else tk)/\cr w G σ.h (fun n=>σ.used n=true) w ⟨Im',G.g⟩ σ1.h/\σ1.env=σ.env/\σ1.used=σ.used/\
   (∀n b,σ1.h n=some b->σ.h n=some b):=by
 cases c with
 |c y=>
  simp only[St.iY] at hx;injection hx with hx;injection hx with kG fw;injection fw with fw tw;subst kG fw tw;obtain⟨pc,h1,h2,h3,h4⟩:=hc;refine⟨G.Im,pc,h1,h2,h3,h4,?_,cr.refl _ _ _ _,rfl,rfl,fun _ _ h=>h⟩;by_cases hs:y.gV=true
  ·rw[if_pos hs];obtain⟨s1,s2⟩:=Sep.o8 (pc:=pc) (by rw[h1];exact hs);exact H.abd s1 (fun b hb=>absurd hb (s2 b)) (fun _ _ b _ _=>s2 b) (fun _ _ _ _ _ b _ _ hb=>absurd hb (s2 b))
  ·rw[if_neg hs];exact H
 |nil sz=>
  simp only[St.iY] at hx;split at hx
  ·rename_i fO;injection hx with hx;injection hx with kG fw;injection fw with fw tw;subst kG fw tw;have dJ:v=.slice none 0 0:=hc;subst dJ;have dE:∀b,¬bR b (.list sz none 0 []):=fun b hb=>by
    rw[bR.oE] at hb;rcases hb with⟨hb,_⟩|⟨k,j,c,⟨e,he,_⟩,_⟩
    ·exact absurd rfl hb
    ·simp at he
   refine⟨G.Im,.list sz none 0 [],by simp[PC.fN],rfl,.nil _ _ _ fO,fun b hb=>absurd hb (dE b),?_,cr.refl _ _ _ _,rfl,rfl,fun _ _ h=>h⟩;rw[if_pos rfl];refine H.abd (.list _ _ _ _ ?_ ?_ ?_) (fun b hb=>absurd hb (dE b)) (fun _ _ b _ _=>dE b) (fun _ _ _ _ _ b _ _ hb=>absurd hb (dE b))
   ·rintro k j c ⟨e,he,_⟩;simp at he
   ·rintro b o k j c _ ⟨e,he,_⟩;simp at he
   ·rintro k j c k' j' c' b ⟨e,he,_⟩;simp at he
  ·cases hx
 |sl n sz lo len=>
  simp only[St.iY] at hx;split at hx
  ·rename_i gr m rs xs hn;split at hx
   ·rename_i eQ;obtain⟨rfl,rfl,pS⟩:=eQ;injection hx with hx;injection hx with kG fw;injection fw with fw tw;subst kG fw tw;have hl:0+len<=xs.length:=by omega
    have c8:σ.h n≠none:=by rw[hn];simp
    have hs:nh (G.g n) rs 0 len v:=hc c8;have hr:=H.row n gr m rs xs hn;obtain⟨a1,a2,a3,a4⟩:=Lq hr hs hl;have HF:=H.freeze hn;have K1:cr w G σ.h (fun n=>σ.used n=true) w ⟨fun b=>G.Im b\/R6 (G.g n) b,G.g⟩ (aX σ.h n none):=
     cr.trans (fun _ h=>h) (cr.del n (fun n=>σ.used n=true)) (cr.xN (R6 (G.g n)) (fun n=>σ.used n=true))
    refine⟨_,oG (G.g n) rs 0 len v,by simpa using a1,a2,a3,fun b hb=>.inr (a4 b hb),?_,K1,rfl,rfl,fun q b hq=>(vJ hq).1⟩;by_cases hm:m≠ .aV
    ·rw[if_pos (by simpa using hm)];have vZ:(∀b,bY b (G.g n).px->fL w b/\(B<=b\/E b))/\kU (G.g n).px/\(∀b,bY b (G.g n).px->(G.g n).nl=false->b≠(G.g n).b):=by
      have eR:=hr.mode;cases m with
      |aV=>exact absurd rfl hm
      |aZ=>exact⟨fun b hb=>(eR.1 b hb).2,eR.2,fun b hb hl gw=>(H.own n c8 hl).1 (gw▸(eR.1 b hb).1)⟩
      |live=>exact⟨fun b hb=>(eR.1 b hb).2,eR.2,fun b hb hl=>H.live n gr rs xs hn b hb n c8 hl⟩
     obtain⟨o1,o2,o3⟩:=vZ;refine HF.abd ?_ (fun b hb=>⟨.inr (a4 b hb),?_⟩) (fun i q b hi hb bX=>?_) (fun q cv m' bu aM b hq cQ hb eI=>?_)
     ·
      rcases hs with⟨bI,rfl,_,rfl⟩|⟨bI,a,rfl,mr,ha⟩
      ·simp only[oG];have hz:(List.take 0 (List.drop 0 (G.g n).px))=[]:=by simp
       rw[hz];refine .list _ _ _ _ ?_ ?_ ?_
       ·rintro k j c ⟨e,he,_⟩;simp at he
       ·rintro b o k j c _ ⟨e,he,_⟩;simp at he
       ·rintro k j c k' j' c' b ⟨e,he,_⟩;simp at he
      ·simp only[oG];have JX:=o2.sub 0 len;refine .list _ _ _ _ JX.1 (fun b o k j c gT hk hb=>?_) JX.2;have dg:=(sY hk).1;have afz:0<len:=by have:=(sY hk).2;omega
       have e:=ha (.inl (by omega));rw[e] at gT;injection gT with gT;exact o3 b ⟨_,_,_,dg,hb⟩ bI (qS gT).1.symm
     ·rcases a4 b hb with⟨fv,rfl⟩|bX
      ·exact⟨(hr.gd fv).1,(H.own n c8 fv).2.1⟩
      ·exact o1 b bX
     ·rcases a4 b bX with⟨fv,rfl⟩|eI
      ·exact(H.own n c8 fv).1 ((H.vo i q hi).2 _ hb).1
      ·exact H.vp i q n gr m rs xs b hi hn hm hb eI
     ·obtain⟨rm,iJ⟩:=vJ hq;rcases a4 b hb with⟨fv,rfl⟩|bX
      ·have eR:=(H.row q cv m' bu aM rm).mode;cases m' with
       |aV=>exact absurd rfl cQ
       |aZ=>exact(H.own n c8 fv).1 (eR.1 _ eI).1
       |live=>exact H.live q cv bu aM rm _ eI n c8 fv rfl
      ·exact H.ja n q gr m rs xs cv m' bu aM hn rm hm cQ (zaW iJ) b bX eI
    ·rw[if_neg (by simpa using hm)];exact HF
   ·cases hx
  ·cases hx
 |ptr _ _ _ _=>simp[St.iY] at hx
 |dR _ _=>simp[St.iY] at hx
 |cJ _ _ _ _ _ _=>simp[St.iY] at hx
 |fn _ _=>simp[St.iY] at hx
 |eG _ _ _ _ _ _=>simp[St.iY] at hx
 |cD=>simp[St.iY] at hx
end
section
variable {B:Nat} {E:Ex} {w0 w w':World} {G G':Gh} {h h':Nat->Option aK} {used used':Nat->Bool} {tk:List PC}
theorem HR.iz:∀{cs:List ao} {σ σ1:St} {G:Gh} {tk:List PC} {xs:List C} {o:Bool} {vs:List Value},HR B E w G σ.h σ.used tk->σ.iz cs=some (xs,o,σ1)->eO w G σ.h cs vs->
  (∀c∈cs,∀m,c.ref m->σ.used m=true)->
  ∃(Im':Nat->Prop) (cH:List PC),cH.map PC.er=xs/\cH.map PC.val=vs/\(∀pc∈cH,Good w pc/\∀b,bR b pc->Im' b)/\
   HR B E w ⟨Im',G.g⟩ σ1.h σ.used (if o=true then tk++cH else tk)/\cr w G σ.h (fun n=>σ.used n=true) w ⟨Im',G.g⟩ σ1.h/\σ1.env=σ.env/\σ1.used=σ.used/\
   (∀n b,σ1.h n=some b->σ.h n=some b)
 |[],σ,σ1,G,tk,xs,o,vs,H,hx,hc,hr=>by
  simp only[St.iz] at hx;injection hx with hx;injection hx with kG fw;injection fw with fw tw;subst kG fw tw;have:vs=[]:=zae (by simpa using hc.1);subst this;exact⟨G.Im,[],rfl,rfl,by simp,by simpa using H,cr.refl _ _ _ _,rfl,rfl,fun _ _ h=>h⟩
 |c::cs,σ,σ2,G,tk,xs,o,vs,H,hx,hc,hr=>by
  simp only[St.iz] at hx;split at hx
  ·rename_i x o1 σ1 e1;split at hx
   ·rename_i aM o2 abt e2;injection hx with hx;injection hx with kG fw;injection fw with fw tw;subst kG fw tw;obtain⟨hlen,cY⟩:=hc;match vs,hlen with
    |v::vs,hlen=>
     obtain⟨CE,pc,a1,a2,a3,a4,a5,a6,a7,a8,a9⟩:=H.iY e1 (cY 0 c v rfl rfl).2;have AY:eO w ⟨CE,G.g⟩ σ1.h cs vs:=eO.fu a6 (fun c' dJ m hm=>hr c' (by simp[dJ]) m hm) ⟨by simpa using hlen,fun j c u h1 h2=>cY (j+1) c u h1 h2⟩;rw[<-a8] at a5;obtain⟨Iu,cH,b1,b2,b3,b4,b5,b6,b7,b8⟩:=HR.iz a5 e2 AY (fun c' dJ m hm=>by rw[a8];exact hr c' (by simp[dJ]) m hm);refine⟨Iu,pc::cH,by simp[a1,b1],by simp[a2,b2],fun q hq=>?_,?_,cr.trans (fun n hn=>by rw[a8];exact hn) a6 b5,b6.trans a7,b7.trans a8,fun n b hb=>a9 n b (b8 n b hb)⟩
     ·cases hq with
      |head=>exact⟨a3,fun b hb=>b5.im b (a4 b hb)⟩
      |tail _ hq=>exact b3 q hq
     ·rw[a8] at b4;cases o1<;>cases o2<;>simp at b4⊢
      ·exact b4
      ·exact b4.Cc
      ·exact b4.Cc
      ·exact b4
   ·cases hx
  ·cases hx
theorem RA.cells {x:aA} {ag:Bool} {cs:List ao} {v:Value} (hx:x.cells?=some (ag,cs)) (hc:RA w G h x v):eO w G h cs v.cells.toList:=by
 cases x with
 |one c=>
  have hj:c≠ .cD/\ag=false/\cs=[c]:=by
   cases c<;>simp[aA.cells?] at hx<;>(obtain⟨rfl,rfl⟩:=hx;simp)
  obtain⟨h1,rfl,rfl⟩:=hj;rcases hc with rfl|hc
  ·exact absurd rfl h1
  ·have dJ:eO w G h [c] [v]:=hc;have h1:=(dJ.2 0 c v rfl rfl).1;cases v<;>first|exact dJ|(simp[Value.oneCell'] at h1)
 |agg cs'=>
  simp[aA.cells?] at hx;obtain⟨rfl,rfl⟩:=hx;obtain⟨vs,e,hl⟩:∃vs:List Value,v=.agg vs.toArray/\eO w G h cs' vs:=hc;subst e;exact hl
 |cF xs=>simp[aA.cells?] at hx
theorem aA.CR {x:aA} {ag:Bool} {cs:List ao} (hx:x.cells?=some (ag,cs)) {c:ao} (hc:c∈cs) {m:Nat} (hm:c.ref m):x.ref m:=by
 cases x with
 |one c'=>
  have hj:cs=[c']:=by
   cases c'<;>simp[aA.cells?] at hx<;>exact hx.2.symm
  subst hj;simp at hc;subst hc;exact hm
 |agg cs'=>
  simp[aA.cells?] at hx;obtain⟨_,rfl⟩:=hx;exact⟨c,hc,hm⟩
 |cF xs=>simp[aA.cells?] at hx
theorem HR.pj {sz:Nat}:∀{xs:List aA} {σ σ1:St} {G:Gh} {tk:List PC} {es:List (List C)} {o:Bool} {vs:List Value},HR B E w G σ.h σ.used tk->σ.pj sz xs=some (es,o,σ1)->
  vs.length=xs.length->(∀(j:Nat) (x:aA) (v:Value),xs[j]? =some x->vs[j]? =some v->RA w G σ.h x v)->(∀x∈xs,∀m,x.ref m->σ.used m=true)->
  ∃(Im':Nat->Prop) (pes:List (List PC)),pes.map (fun e=>e.map PC.er)=es/\pes.map (fun e=>e.map PC.val)=vs.map (fun v=>v.cells.toList)/\(∀e∈pes,e.length=sz)/\
   (∀e∈pes,∀pc∈e,Good w pc/\∀b,bR b pc->Im' b)/\
   HR B E w ⟨Im',G.g⟩ σ1.h σ.used (if o=true then tk++pes.flatten else tk)/\cr w G σ.h (fun n=>σ.used n=true) w ⟨Im',G.g⟩ σ1.h/\σ1.env=σ.env/\σ1.used=σ.used/\
   (∀n b,σ1.h n=some b->σ.h n=some b)
 |[],σ,σ1,G,tk,es,o,vs,H,hx,hl,hc,hr=>by
  simp only[St.pj] at hx;injection hx with hx;injection hx with kG fw;injection fw with fw tw;subst kG fw tw;have:vs=[]:=zae (by simpa using hl);subst this;exact⟨G.Im,[],rfl,rfl,by simp,by simp,by simpa using H,cr.refl _ _ _ _,rfl,rfl,fun _ _ h=>h⟩
 |x::xs,σ,σ2,G,tk,es,o,vs,H,hx,hl,hc,hr=>by
  simp only[St.pj] at hx;split at hx
  ·rename_i ag cs n5;split at hx
   ·rename_i dd;split at hx
    ·rename_i e o1 σ1 e1;split at hx
     ·rename_i es' o2 abt e2;injection hx with hx;injection hx with kG fw;injection fw with fw tw;subst kG fw tw;match vs,hl with
      |v::vs,hl=>
       have di:=(hc 0 x v rfl rfl).cells n5;obtain⟨CE,cH,a1,a2,a3,a5,a6,a7,a8,a9⟩:=H.iz e1 di (fun c' dJ m hm=>hr x (by simp) m (aA.CR n5 dJ hm));rw[<-a8] at a5;obtain⟨Iu,pes,b1,b2,b3,b3',b4,b5,b6,b7,b8⟩:=HR.pj (xs:=xs) (vs:=vs) a5 e2 (by simpa using hl)
        (fun j x v h1 h2=>(hc (j+1) x v h1 h2).fu a6 (fun m hm=>hr x (by simp[zaa h1]) m hm)) (fun x' kF m hm=>by rw[a8];exact hr x' (by simp[kF]) m hm)
       refine⟨Iu,cH::pes,by simp[a1,b1],by simp[a2,b2],fun q hq=>?_,fun q hq pc bU=>?_,?_,cr.trans (fun n hn=>by rw[a8];exact hn) a6 b5,b6.trans a7,b7.trans a8,fun n b hb=>a9 n b (b8 n b hb)⟩
       ·cases hq with
        |head=>
         have:(cH.map PC.er).length=(v.cells.toList).length:=by rw[<-a2];simp
         have h2:=di.1;simp at this;simp at h2;omega
        |tail _ hq=>exact b3 q hq
       ·cases hq with
        |head=>exact⟨(a3 pc bU).1,fun b hb=>b5.im b ((a3 pc bU).2 b hb)⟩
        |tail _ hq=>exact b3' q hq pc bU
       ·rw[a8] at b4;cases o1<;>cases o2<;>simp at b4⊢
        ·exact b4
        ·exact b4.Cc
        ·exact b4.Cc
        ·exact b4
     ·cases hx
    ·cases hx
   ·cases hx
  ·cases hx
def mh (b:Nat) (pc:PC):Prop:=bR b pc\/∃sz o cap xs,pc=.list sz (some (ad b o)) cap xs/\cap≠0
def IB (w:World):PC->Prop
 |.list sz a cap xs=>0<sz/\xs.length<=cap/\(cap=0\/∃b o cur e,a=some (ad b o)/\w.heap[b]? =some (.cells cur e (0,0))/\cur.size=o+cap*sz/\cap<=maxLen/\∀k j c,At xs k j c->¬bR b c)
 |_=>True
structure CK (w:World) (B':Nat) (ps:List PC):Prop where
 gF:∀pc∈ps,Good w pc/\Sep pc/\IB w pc
 new:∀pc∈ps,∀b,mh b pc->B'<=b/\fL w b
 qY:∀(i j:Nat) (pc fh:PC) (b:Nat),i≠j->ps[i]? =some pc->ps[j]? =some fh->mh b pc->¬mh b fh
def vf:K×List PC->Value
 |(.one,[pc])=>pc.val
 |(_,cH)=>.agg (cH.map PC.val).toArray
def ye:List (K×List PC)->Value
 |[p]=>vf p
 |l=>.tuple (l.map vf).toArray
def dP (P:Program) (f:FuncId) (M:List Dv->Option (List Dv)):Prop:=
 ∀ds rs,M ds=some rs->∀(w:World) (vals:List Value),LU w ds vals->Calls P f vals.toArray w fun e w'=>
  ∃bO:List (K×List PC),bO.map (fun p=>(p.1,p.2.map PC.er))=rs/\e=.returned (ye bO)/\(∀p∈bO,p.1≠ .ptr/\(p.1=.one->p.2.length=1))/\
   CK w' w.heap.size (bO.flatMap (·.2))/\Fr w.heap.size Ex.no w w'
end
section
variable {B:Nat} {E:Ex} {w0 w w':World} {G G':Gh} {h h':Nat->Option aK} {used used':Nat->Bool} {tk:List PC} {N:Nat}
def sT (G:Gh) (h:Nat->Option aK) (b:Nat):Prop:=
 ¬G.Im b/\(∀n,h n≠none->(G.g n).nl=false->(G.g n).b≠b)/\∀n gr m sz xs,h n=some (.row gr m sz xs)->¬bY b (G.g n).px
theorem HR.XC (H:HR B E w G h used tk):sT G h w.heap.size:=
 ⟨fun hi=>zbj _ (H.jM _ hi),fun n hn hl he=>by have:=(H.own n hn hl).2.2;omega,fun n gr m sz xs hn hb=>zbj _ (H.wH hn hb)⟩
def am5 (B:Nat) (E:Ex) (w w':World) (G:Gh) (h:Nat->Option aK) (p:PB):aK->Prop
 |.box cs=>p.nl=false/\fL w' p.b/\∀(j:Nat) (c:ao),cs[j]? =some c->∃v,w'.cell? (ad p.b (p.o+j))=some v/\v.oneCell'=true/\RC w G h c v
 |.row gr m sz xs=>yz B E w' G gr m sz xs p
theorem cr.insert (H:HR B E w G h used tk) {n:Nat} {blk:aK} {p:PB} (hn:used n=false) (hw:∀b,b<w.heap.size->w'.heap[b]? =w.heap[b]?):
  cr w G h (fun n=>used n=true) w' ⟨G.Im,aX G.g n p⟩ (aX h n (some blk)):=by
 have ne:∀m,used m=true->m≠n:=fun m hm e=>by subst e;rw[hn] at hm;cases hm
 refine⟨fun _ h=>h,fun b hb o=>lG (hw b (H.jM b hb)) o,fun m hm h0=>?_,fun m gr sz xs hm h0=>?_⟩
 ·rw[dN _ _ _ _ (ne m hm)] at h0;simp only[dN _ _ _ _ (ne m hm)];exact⟨h0,trivial,trivial,trivial,trivial,trivial⟩
 ·rw[dN _ _ _ _ (ne m hm)] at h0;simp only[dN _ _ _ _ (ne m hm)];exact⟨⟨gr,xs,h0⟩,fun k j pc h1 h2=>⟨pc,h1,rfl,h2⟩⟩
theorem HR.insert (H:HR B E w G h used tk) {n:Nat} {blk:aK} {p:PB} (hn:used n=false) (hw:∀b,b<w.heap.size->w'.heap[b]? =w.heap[b]?) (dd:w.heap.size<=w'.heap.size)
  (hl:p.nl=false->sT G h p.b/\(B<=p.b\/E p.b)/\p.b<w'.heap.size)
  (Bn:∀cs c m,blk=.box cs->c∈cs->c.ref m->used m=true)
  (n8:am5 B E w w' G h p blk)
  (PM:∀gr m sz xs,blk=.row gr m sz xs->m≠ .aV->∀n' cv m' bu aM,h n'=some (.row cv m' bu aM)->m'≠ .aV->∀b,bY b p.px->¬bY b (G.g n').px)
  (xu:∀gr sz xs,blk=.row gr .live sz xs->∀b,bY b p.px->(p.nl=false->b≠p.b)/\∀n',h n'≠none->(G.g n').nl=false->b≠(G.g n').b)
  (GA:∀gr m sz xs,blk=.row gr m sz xs->m≠ .aV->∀(i:Nat) (pc:PC) (b:Nat),tk[i]? =some pc->bR b pc->¬bY b p.px):
  HR B E w' ⟨G.Im,aX G.g n p⟩ (aX h n (some blk)) (aX used n true) tk:=by
 have K:=cr.insert H (blk:=blk) (p:=p) hn hw;have Vm:h n=none:=by
  cases hh:h n with
  |none=>rfl
  |some b=>have:=H.lI n (by rw[hh];simp);rw[hn] at this;cases this
 have aR:∀m,h m≠none->m≠n:=fun m hm e=>by subst e;exact hm Vm
 have hu:∀m,used m=true->aX used n true m=true:=fun m hm=>by
  simp only[ma];split
  ·rfl
  ·exact hm
 refine H.put (fun b hb _=>hw b hb) dd (fun b hb hU=>hU.congr (hw b hb)) hu (cT _ _ _) (fun hp=>⟨(hl hp).1.1,(hl hp).2⟩) (fun hp m hm h0 pS=>(hl hp).1.2.1 m h0 pS)
  (fun hp m gr sz xs hm h0 b hb he=>(hl hp).1.2.2 m gr _ sz xs h0 (he▸hb)) (fun cs c m hb hc hr=>hu m (Bn cs c m hb hc hr)) K ?_
  (fun gr m sz xs hb hm n' cv m' bu aM _ h0=>PM gr m sz xs hb hm n' cv m' bu aM h0) (fun gr sz xs hb b eI=>⟨(xu gr sz xs hb b eI).1,fun n' _=>(xu gr sz xs hb b eI).2 n'⟩) GA
  (fun hp _ b hb he=>by obtain⟨m,gr,mo,sz,xs,_,h0,eI⟩:=hb;exact(hl hp).1.2.2 m gr mo sz xs h0 (he▸eI))
 cases blk with
 |box cs=>
  obtain⟨a1,a2,a3⟩:=n8;refine⟨a1,a2,fun j c hj=>?_⟩;obtain⟨v,b1,b2,b3⟩:=a3 j c hj;exact⟨v,b1,b2,b3.fu K fun m hm=>Bn cs c m rfl (zaa hj) hm⟩
 |row gr m sz xs=>
  have hr:yz B E w' G gr m sz xs p:=n8;exact⟨hr.pos,hr.er,hr.nl,hr.gd,hr.room,by
   have:=hr.mode;cases m<;>exact this⟩
theorem R.put {σ:St} {a:Act} (r:R B E w0 N σ a w G) {x:aA} {v:Value} (hv:RA w G σ.h x v) (hr:∀m,x.ref m->σ.used m=true) {d:Option Nat} (hd:∀n,d=some n->n<N):
  R B E w0 N (σ.put d x) (a.put d v) w G:=by
 cases d with
 |none=>exact r
 |some n=>
  have hn:=hd n rfl;refine⟨r.defers,by simp[Act.put,r.size],fun s=>?_,fun s m hm=>?_,r.hr,r.fr,r.rB,r.Ec⟩
  ·simp only[St.put,Act.put];by_cases hs:s=n
   ·subst hs;rw[cT];have:(a.tmps.setIfInBounds s v).getD s undef=v:=by
     simp[zaI,r.size,hn]
    rw[this];exact hv
   ·rw[dN _ _ _ _ hs];have:(a.tmps.setIfInBounds n v).getD s undef=a.tmps.getD s undef:=by
     simp[zaI,Array.getElem?_setIfInBounds_ne (zaW hs)]
    rw[this];exact r.env s
  ·simp only[St.put] at hm⊢;by_cases hs:s=n
   ·subst hs;rw[cT] at hm;exact hr m hm
   ·rw[dN _ _ _ _ hs] at hm;exact r.wS s m hm
theorem R.step {σ:St} {a:Act} (r:R B E w0 N σ a w G) {σ':St} (he:σ'.env=σ.env) (hu:∀m,σ.used m=true->σ'.used m=true) (K:cr w G σ.h (fun n=>σ.used n=true) w' G' σ'.h)
  (H:HR B E w' G' σ'.h σ'.used []) (F:Fr B E w0 w'):R B E w0 N σ' a w' G':=
 ⟨r.defers,r.size,fun s=>by rw[he];exact(r.env s).fu K (fun m hm=>r.wS s m hm),fun s m hm=>by rw[he] at hm;exact hu m (r.wS s m hm),H,F,
  fun n p b hp hb=>by
   have GF:=r.Ec n (E.lt n p hp);obtain⟨k0,k1,k2,k3,k4,k6⟩:=K.name n GF (by rw[hb];simp);cases h0:σ.h n with
   |none=>exact absurd h0 k0
   |some b0=>
    obtain⟨p1,p2,p3,p4,p6,p5⟩:=r.rB n p b0 hp h0;refine⟨k1.trans p1,k2.trans p2,k3.trans p3,k4.trans p4,k6.trans p6,fun gr sz xs Jz k j pc hk hL=>?_⟩;subst Jz;obtain⟨⟨C9,oL,e0⟩,hl⟩:=K.live n gr sz xs GF hb;rw[h0] at e0;injection e0 with e0;obtain⟨pc1,q1,q2,q3⟩:=p5 C9 sz oL e0 k j pc hk hL;obtain⟨pc2,q4,q5,q6⟩:=hl k j pc1 q1 q3;exact⟨pc2,q4,q5.trans q2,q6⟩,
  fun n hn=>hu n (r.Ec n hn)⟩
end
def OJ:Value->ao->Bool
 |.int k n,.c (.int k' n')=>decide (k=k')&&decide (n=n')
 |.bool b,.c (.bool b')=>decide (b=b')
 |.slice none 0 0,.nil sz=>true
 |.pointer none,.cD=>true
 |_,_=>false
def xg:List Value->List ao->Bool
 |[],[]=>true
 |v::vs,c::cs=>OJ v c&&xg vs cs
 |_,_=>false
def df:Operand->MO->Bool
 |.tmp n,.t m=>n==m
 |.const (.agg vs),.k (.agg cs)=>xg vs.toList cs
 |.const v,.k (.one c)=>OJ v c
 |_,_=>false
section
variable {B:Nat} {E:Ex} {w0 w w':World} {G G':Gh} {h h':Nat->Option aK} {used used':Nat->Bool} {tk:List PC} {N:Nat}
theorem acC {v:Value} {c:ao} (hc:OJ v c=true):RC w G h c v/\v.oneCell'=true/\∀m,¬c.ref m:=by
 unfold OJ at hc;split at hc
 ·simp at hc;obtain⟨rfl,rfl⟩:=hc;exact⟨⟨.int _ _,rfl,rfl,.int _ _,fun b hb=>by cases hb⟩,rfl,fun m hm=>hm⟩
 ·simp at hc;subst hc;exact⟨⟨.bool _,rfl,rfl,.bool _,fun b hb=>by cases hb⟩,rfl,fun m hm=>hm⟩
 ·exact⟨rfl,rfl,fun m hm=>hm⟩
 ·exact⟨trivial,rfl,fun m hm=>hm⟩
 ·cases hc
theorem OK:∀{vs:List Value} {cs:List ao},xg vs cs=true->eO w G h cs vs/\∀c∈cs,∀m,¬c.ref m
 |[],[],_=>⟨⟨rfl,by simp⟩,by simp⟩
 |v::vs,c::cs,hc=>by
  simp only[xg,zar] at hc;obtain⟨a1,a2,a3⟩:=acC (w:=w) (G:=G) (h:=h) hc.1;obtain⟨⟨b1,b2⟩,b3⟩:=OK hc.2;refine⟨⟨by simp[b1],fun j c' u hj hu=>?_⟩,fun c' dJ=>?_⟩
  ·cases j with
   |zero=>simp at hj hu;subst hj;subst hu;exact⟨a2,a1⟩
   |succ j=>exact b2 j c' u (by simpa using hj) (by simpa using hu)
  ·cases dJ with
   |head=>exact a3
   |tail _ dJ=>exact b3 c' dJ
 |[],_::_,hc=>by simp[xg] at hc
 |_::_,[],hc=>by simp[xg] at hc
theorem RV.jP {c:ao} {v:Value} (h1:v.oneCell'=true) (h2:RC w G h c v):RV w G h false [c] v:=by
 show eO w G h [c] [v];exact⟨rfl,fun j c' u hj hu=>by
  cases j with
  |zero=>simp at hj hu;subst hj;subst hu;exact⟨h1,h2⟩
  |succ j=>simp at hj⟩
theorem RA.jP {c:ao} {v:Value} (h1:v.oneCell'=true) (h2:RC w G h c v):RA w G h (.one c) v:=.inr (RV.jP h1 h2)
theorem R.ev {σ:St} {a:Act} (r:R B E w0 N σ a w G) {x:Operand} {m:MO} (hc:df x m=true):RA w G σ.h (σ.ev m) (a.eval x)/\∀n,(σ.ev m).ref n->σ.used n=true:=by
 unfold df at hc;split at hc
 ·simp at hc;subst hc;exact⟨r.env _,fun n hn=>r.wS _ n hn⟩
 ·rename_i vs cs;obtain⟨b1,b2⟩:=OK (w:=w) (G:=G) (h:=σ.h) hc;exact⟨⟨vs.toList,by simp[Act.eval],b1⟩,fun n hn=>by obtain⟨c,hc,hm⟩:=hn;exact absurd hm (b2 c hc n)⟩
 ·obtain⟨a1,a2,a3⟩:=acC (w:=w) (G:=G) (h:=σ.h) hc;exact⟨RA.jP a2 a1,fun n hn=>absurd hn (a3 n)⟩
 ·cases hc
theorem Ci {P:Program} {o:Oper} {a:Act} {v:Value} {K:Act->World->Prop} {Q:Exit->Act->World->Prop} (hr:(execOp a.eval o).run P w=.ok (.value v) w') (hK:K (a.put o.dst v) w'):o.wp P a w K Q:=by
 unfold Oper.wp;rw[hr];exact hK
theorem abp {P:Program} {o:Oper} {a:Act} {K:Act->World->Prop} {Q:Exit->Act->World->Prop} (hr:(execOp a.eval o).run P w=.ok .skip w') (hK:K (a.put o.dst undef) w'):o.wp P a w K Q:=by
 unfold Oper.wp;rw[hr];exact hK
end
section
variable {B:Nat} {E:Ex} {w0 w w':World} {G G':Gh} {h h':Nat->Option aK} {used used':Nat->Bool} {tk:List PC} {N:Nat}
variable {P:Program} {o:Oper} {a:Act} {σ σ':St} {Q:Exit->Act->World->Prop}
def Nx (B:Nat) (E:Ex) (w0:World) (N:Nat) (σ:St):Act->World->Prop:=fun a w=>∃G,R B E w0 N σ a w G
theorem ab3 (w:World) (ob:Obj) (b:Nat) (hb:b<w.heap.size):(w.alloc ob).heap[b]? =w.heap[b]? :=heap_alloc_old w ob b hb
theorem fL.alloc (w:World) (arr:Array Value) (e:TypeId):fL (w.alloc (.cells arr e)) w.heap.size:=⟨arr,e,heap_alloc_new w _⟩
theorem qH {σ1:St} {n:Nat} {b:aK} (hx:σ.ins n b=some σ1):σ.used n=false/\σ1={σ with h:=aX σ.h n (some b),used:=aX σ.used n true}:=by
 unfold St.ins at hx;split at hx
 ·cases hx
 ·rename_i hu;injection hx with hx;exact⟨by simpa using hu,hx.symm⟩
theorem wQ (n m:Nat) (hm:used m=true):aX used n true m=true:=by
 simp only[ma];split
 ·rfl
 ·exact hm
theorem R.aiQ (r:R B E w0 N σ a w G) {n:Nat} {cs:List ao} {vs:List Value} {e:TypeId} (hn:σ.used n=false) (hc:eO w G σ.h cs vs) (oU:∀c∈cs,∀m,c.ref m->σ.used m=true):
  ∃G',R B E w0 N {σ with h:=aX σ.h n (some (.box cs)),used:=aX σ.used n true} a (w.alloc (.cells vs.toArray e)) G'/\
   RA (w.alloc (.cells vs.toArray e)) G' (aX σ.h n (some (.box cs))) (.one (.ptr n 0 0 0)) (.pointer (some (ad w.heap.size 0))):=by
 have H:=r.hr;have hB:=r.fr.size;have hw:=ab3 w (.cells vs.toArray e);refine⟨⟨G.Im,aX G.g n ⟨false,w.heap.size,0,0,[],none⟩⟩,r.step rfl (fun m hm=>wQ n m hm) (cr.insert H hn hw) ?_ (r.fr.grow hw (by simp) rfl rfl rfl),?_⟩
 ·refine H.insert hn hw (by simp) (fun _=>⟨H.XC,.inl hB,by simp⟩) (fun cs' c m hb dJ hm=>?_) ⟨rfl,fL.alloc _ _ _,fun j c hj=>?_⟩ (fun gr m sz xs hb=>by cases hb) (fun gr sz xs hb=>by cases hb) (fun gr m sz xs hb=>by cases hb)
  ·injection hb with hb;subst hb;exact oU c dJ m hm
  ·have rY:j<vs.length:=by rw[hc.1];exact(zab.1 hj).1
   have hv:vs[j]? =some vs[j]:=zac rY;obtain⟨q1,q2⟩:=hc.2 j c _ hj hv;refine⟨vs[j],?_,q1,q2⟩;simp only[zal];unfold ad;rw[World.cell?_alloc_new];simp only[zaw];exact hv
 ·exact RA.jP rfl fun _=>by simp[cT]
theorem ao3 (r:R B E w0 N σ a w G) {n:Nat} {e:TypeId} {i:TypeInfo} {z:Value} {zs:List ao} {σ1:St} (ho:o.op=.alloc e) (hd:o.dst=some n) (hN:n<N)
  (hi:P.info? e=some i) (hz:i.zero=some z) (hc:xg z.cells.toList zs=true) (hx:σ.ins n (.box zs)=some σ1):
  o.wp P a w (Nx B E w0 N (σ1.put o.dst (.one (.ptr n 0 0 0)))) Q:=by
 obtain⟨hn,rfl⟩:=qH hx;obtain⟨di,oU⟩:=OK (w:=w) (G:=G) (h:=σ.h) hc;obtain⟨G',r',hv⟩:=r.aiQ (e:=e) hn di (fun c hc m hm=>absurd hm (oU c hc m));have c9:(execOp a.eval o).run P w=.ok (.value (.pointer (some (ad w.heap.size 0)))) (w.alloc (.cells z.cells.toList.toArray e)):=by
  simp[execOp,ho,Instr.alloc,zeroValue,typeInfo,hi,hz,newVar,newRow,ad]
 exact Ci c9 ⟨G',r'.put hv (fun m hm=>by have cQ:m=n:=hm;subst cQ;exact cT _ _ _) (fun m hm=>by rw[hd] at hm;injection hm with hm;omega)⟩
theorem ao7 (r:R B E w0 N σ a w G) {n:Nat} {e:TypeId} {x:Operand} {m:MO} {ag:Bool} {cs:List ao} {σ1:St} (ho:o.op=.box e x) (hd:o.dst=some n) (hN:n<N)
  (hm:df x m=true) (gY:(σ.ev m).cells?=some (ag,cs)) (hx:σ.ins n (.box cs)=some σ1):
  o.wp P a w (Nx B E w0 N (σ1.put o.dst (.one (.ptr n 0 0 0)))) Q:=by
 obtain⟨hn,rfl⟩:=qH hx;obtain⟨hv,oU⟩:=r.ev hm;obtain⟨G',r',fH⟩:=r.aiQ (e:=e) hn (hv.cells gY) (fun c hc q hq=>oU q (aA.CR gY hc hq));have c9:(execOp a.eval o).run P w=.ok (.value (.pointer (some (ad w.heap.size 0)))) (w.alloc (.cells (a.eval x).cells.toList.toArray e)):=by
  simp[execOp,ho,Instr.box,newVar,newRow,ad]
 exact Ci c9 ⟨G',r'.put fH (fun q hq=>by have gz:q=n:=hq;subst gz;exact cT _ _ _) (fun q hq=>by rw[hd] at hq;injection hq with hq;omega)⟩
theorem yC {α:Type} {sz:Nat}:∀{px:List (List α)} (_:∀e∈px,e.length=sz) {k j:Nat} {c:α},At px k j c->px.flatten[k*sz+j]? =some c
 |[],_,k,j,c,hk=>by obtain⟨e,he,_⟩:=hk;simp at he
 |e::px,hl,k,j,c,hk=>by
  obtain⟨e',he,hj⟩:=hk;have h0:=hl e (by simp);cases k with
  |zero=>
   simp at he;subst he;have rY:=(zab.1 hj).1;simp only[zaA,zaX,zal];rw[zaf rY];exact hj
  |succ k=>
   have ih:=yC (px:=px) (fun e he=>hl e (by simp[he])) (k:=k) (j:=j) (c:=c) ⟨e',by simpa using he,hj⟩;simp only[zaA];rw[zag (by rw[h0,zai];omega)];rw[show(k+1)*sz+j - e.length=k*sz+j by rw[h0,zai];omega];exact ih
structure Iw (B:Nat) (E:Ex) (w:World) (G:Gh) (h:Nat->Option aK) (m:Mode) (pes:List (List PC)):Prop where
 qu:∀b,bY b pes->G.Im b/\fL w b/\(B<=b\/E b)
 sep:kU pes
 ja:∀n gr m sz xs,h n=some (.row gr m sz xs)->m≠ .aV->∀b,bY b pes->¬bY b (G.g n).px
 kind:m=.aZ\/∀b,¬bY b pes
theorem anE {α:Type} {sz:Nat} (dd:0<sz) {pes:List (List α)} (hl:∀e∈pes,e.length=sz) {k j k' j':Nat} {c c':α} (h1:At pes k j c) (h2:At pes k' j' c') (aR:(k,j)≠(k',j')):k*sz+j≠k'*sz+j':=by
 intro gw;have hj:j<sz:=by obtain⟨e1,he,hj⟩:=h1;rw[<-hl e1 (zaa he)];exact(zab.1 hj).1
 have oS:j'<sz:=by obtain⟨e1,he,hj⟩:=h2;rw[<-hl e1 (zaa he)];exact(zab.1 hj).1
 have hk:k=k':=by
  have h3:(k*sz+j)/sz=k:=by rw[zaY,zbg dd,zbd hj];omega
  have h4:(k'*sz+j')/sz=k':=by rw[zaY,zbg dd,zbd oS];omega
  rw[gw] at h3;omega
 subst hk;exact aR (by rw[show j=j' by omega])
theorem HR.azk {pes:List (List PC)} {sz:Nat} (dd:0<sz) (hl:∀e∈pes,e.length=sz) (H:HR B E w G h used pes.flatten):Iw B E w G h .aZ pes:=by
 refine⟨?_,⟨fun k j c hk=>(H.vo _ c (yC hl hk)).1,fun k j c k' j' c' b hk dg aR hb=>H.z6 _ _ c c' b (anE dd hl hk dg aR) (yC hl hk) (yC hl dg) hb⟩,?_,.inl rfl⟩
 ·rintro b ⟨k,j,c,hk,hb⟩;exact(H.vo _ c (yC hl hk)).2 b hb
 ·rintro n gr m sz xs hn hm b ⟨k,j,c,hk,hb⟩;exact H.vp _ c n gr m sz xs b (yC hl hk) hn hm hb
theorem Sep.KM {w:World} {q:PC} (hq:∀b,¬bR b q) (hg:Good w q):Sep q:=by
 induction hg with
 |int k n=>exact .int k n
 |bool b=>exact .bool b
 |nil sz a cap h=>exact .list _ _ _ _ (by rintro k j c ⟨e,he,_⟩;simp at he) (by rintro b o k j c _ ⟨e,he,_⟩;simp at he) (by rintro k j c k' j' c' b ⟨e,he,_⟩;simp at he)
 |cons sz b o cap xs h1 h2 h3 h4 h5 h6 ih=>exact absurd (.here _ _ _ _ h1) (hq b)
theorem Iw.KM {m:Mode} {pes:List (List PC)} (dE:∀b,¬bY b pes) (hg:∀k j c,At pes k j c->Good w c):Iw B E w G h m pes:=
 ⟨fun b hb=>absurd hb (dE b),⟨fun k j c hk=>Sep.KM (fun b hb=>dE b ⟨k,j,c,hk,hb⟩) (hg k j c hk),fun k j c k' j' c' b hk _ _ hb=>absurd ⟨k,j,c,hk,hb⟩ (dE b)⟩,fun n gr m sz xs _ _ b hb=>absurd hb (dE b),.inr dE⟩
theorem R.newRow (r:R B E w0 N σ a w G) {Im':Nat->Prop} {σ1:St} (H:HR B E w ⟨Im',G.g⟩ σ1.h σ.used []) (K:cr w G σ.h (fun n=>σ.used n=true) w ⟨Im',G.g⟩ σ1.h)
  (Di:σ1.env=σ.env) (pU:σ1.used=σ.used)
  {n:Nat} {m:Mode} {sz cap:Nat} {pes:List (List PC)} {arr:Array Value} {e:TypeId} (hn:σ.used n=false) (dd:0<sz) (hl:∀e∈pes,e.length=sz)
  (jc:∀k j c,At pes k j c->Good w c/\∀b,bR b c->Im' b) (yS:∀k j c,At pes k j c->arr[k*sz+j]? =some c.val) (mr:pes.length<=cap) (Dq:cap<=maxLen) (zd:arr.size=cap*sz)
  (hm:m=.aV\/Iw B E w ⟨Im',G.g⟩ σ1.h m pes):
  ∃G',R B E w0 N {σ1 with h:=aX σ1.h n (some (.row true m sz (pes.map fun e=>e.map PC.er))),used:=aX σ1.used n true} a (w.alloc (.cells arr e)) G'/\
   RA (w.alloc (.cells arr e)) G' (aX σ1.h n (some (.row true m sz (pes.map fun e=>e.map PC.er)))) (.one (.sl n sz 0 pes.length)) (.slice (some (ad w.heap.size 0)) pes.length cap):=by
 have hB:=r.fr.size;have hw:=ab3 w (.cells arr e);have am0:HR B E (w.alloc (.cells arr e)) ⟨Im',aX G.g n ⟨false,w.heap.size,0,cap,pes,none⟩⟩ (aX σ1.h n (some (.row true m sz (pes.map fun e=>e.map PC.er)))) (aX σ.used n true) []:=by
  refine H.insert (p:=⟨false,w.heap.size,0,cap,pes,none⟩) hn hw (by simp) (fun _=>⟨H.XC,.inl hB,by simp⟩) (fun cs c m hb=>by cases hb) ?_ ?_ ?_ (fun gr m sz xs _ _ i pc b hi=>by simp at hi)
  ·refine⟨dd,rfl,(fun hl=>by cases hl),fun _=>⟨fL.alloc _ _ _,⟨hl,fun k j c hk=>?_,fun k j c hk=>?_⟩,mr⟩,fun _ _=>⟨Dq,arr,e,heap_alloc_new w _,(zal _).symm▸zd⟩,?_⟩
   ·simp only[zal];unfold ad;rw[World.cell?_alloc_new];exact yS k j c hk
   ·exact(jc k j c hk).1.congr fun b hb o=>lG (hw b (H.jM b ((jc k j c hk).2 b hb))) o
   ·have rb:m≠ .aV->(∀b,bY b pes->Im' b/\fL (w.alloc (.cells arr e)) b/\(B<=b\/E b))/\kU pes:=fun lM=>
     ⟨fun b hb=>by
      have hO:=hm.resolve_left lM;obtain⟨q1,q2,q3⟩:=hO.qu b hb;exact⟨q1,q2.congr (hw b (H.jM b q1)),q3⟩,(hm.resolve_left lM).sep⟩
    cases m with
    |aV=>
     rintro b ⟨k,j,c,hk,hb⟩;exact(jc k j c hk).2 b hb
    |aZ=>exact rb (by simp)
    |live=>
     have hO:=hm.resolve_left (by simp);have dE:=hO.kind.resolve_left (by simp);exact⟨fun b hb=>absurd hb (dE b),hO.sep⟩
  ·intro gr m' bu aM hb lM n' cv qK pi mb h0 nv b eI;injection hb with _ hb _ _;subst hb;exact(hm.resolve_left lM).ja n' cv qK pi mb h0 nv b eI
  ·intro gr bu aM hb b eI;injection hb with _ hb _ _;subst hb;exact absurd eI ((hm.resolve_left (by simp)).kind.resolve_left (by simp) b)
 have K2:=cr.trans (u2:=fun n=>σ.used n=true) (fun _ h=>h) K (cr.insert H (blk:=.row true m sz (pes.map fun e=>e.map PC.er)) (p:=⟨false,w.heap.size,0,cap,pes,none⟩) hn hw);refine⟨⟨Im',aX G.g n ⟨false,w.heap.size,0,cap,pes,none⟩⟩,r.step Di (fun m hm=>by rw[pU];exact wQ n m hm) K2 (by rw[pU];exact am0) (r.fr.grow hw (by simp) rfl rfl rfl),?_⟩;refine RA.jP rfl fun _=>.inr ⟨by simp[cT],some (ad w.heap.size 0),?_,?_,?_⟩
 ·simp[cT]
 ·simp[cT];omega
 ·simp[cT]
end
def TY:Value->C->Bool
 |.int k n,.int k' n'=>decide (k=k')&&decide (n=n')
 |.bool b,.bool b'=>decide (b=b')
 |.slice none 0 0,.list sz []=>decide (0<sz)
 |_,_=>false
def yF:List Value->List C->Bool
 |[],[]=>true
 |v::vs,c::cs=>TY v c&&yF vs cs
 |_,_=>false
def pw:C->PC
 |.int k n=>.int k n
 |.bool b=>.bool b
 |.list sz _=>.list sz none 0 []
theorem aoc {w:World} {v:Value} {c:C} (h:TY v c=true):(pw c).er=c/\(pw c).val=v/\Good w (pw c)/\∀b,¬bR b (pw c):=by
 unfold TY at h;split at h
 ·simp at h;obtain⟨rfl,rfl⟩:=h;exact⟨rfl,rfl,.int _ _,fun b hb=>by cases hb⟩
 ·simp at h;subst h;exact⟨rfl,rfl,.bool _,fun b hb=>by cases hb⟩
 ·simp at h;refine⟨by simp[pw,PC.fN],rfl,.nil _ _ _ h,fun b hb=>?_⟩;unfold pw at hb;rw[bR.oE] at hb;rcases hb with⟨hb,_⟩|⟨k,j,c,⟨e,he,_⟩,_⟩
  ·exact absurd rfl hb
  ·simp at he
 ·cases h
theorem TZ {w:World}:∀{vs:List Value} {cs:List C},yF vs cs=true->(cs.map pw).map PC.er=cs/\(cs.map pw).map PC.val=vs/\∀pc∈cs.map pw,Good w pc/\∀b,¬bR b pc
 |[],[],_=>⟨rfl,rfl,by simp⟩
 |v::vs,c::cs,h=>by
  simp only[yF,zar] at h;obtain⟨a1,a2,a3,a4⟩:=aoc (w:=w) h.1;obtain⟨b1,b2,b3⟩:=TZ (w:=w) h.2;refine⟨by simp only[zak,a1,b1],by simp only[zak,a2,b2],fun pc bU=>?_⟩;simp only[zak,List.mem_cons] at bU;rcases bU with rfl|bU
  ·exact⟨a3,a4⟩
  ·exact b3 pc bU
 |[],_::_,h=>by simp[yF] at h
 |_::_,[],h=>by simp[yF] at h
theorem Ou {α:Type} {n k j:Nat} {e:List α} {c:α} (h:At (List.replicate n e) k j c):k<n/\e[j]? =some c:=by
 obtain⟨e',he,hj⟩:=h;rw[List.getElem?_replicate] at he;split at he
 ·rename_i hk;injection he with he;subst he;exact⟨hk,hj⟩
 ·cases he
section
variable {B:Nat} {E:Ex} {w0 w w':World} {G G':Gh} {h h':Nat->Option aK} {used used':Nat->Bool} {tk:List PC} {N:Nat}
variable {P:Program} {o:Oper} {a:Act} {σ σ':St} {Q:Exit->Act->World->Prop}
theorem RA.int {x:aA} {n:Int} {v:Value} (hx:x.fm=some n) (hv:RA w G h x v):∃k,v=.int k n:=by
 unfold aA.fm at hx;split at hx
 ·rename_i k n';injection hx with hx;subst hx;rcases hv with hv|hv
  ·cases hv
  ·have fH:eO w G h [.c (.int k n')] [v]:=hv;obtain⟨pc,h1,h2,_⟩:=(fH.2 0 _ v rfl rfl).2;cases pc<;>simp[PC.er] at h1
   obtain⟨rfl,rfl⟩:=h1;exact⟨_,h2.symm⟩
 ·cases hx
theorem apo (r:R B E w0 N σ a w G) {n:Nat} {t e:TypeId} {i:TypeInfo} {z:Value} {zs:List C} {x y:Operand} {mx my:MO} {m:Mode} {sz by_:Nat} {q q':Int} {σ1:St}
  (ho:o.op=.makeSlice t x y) (hd:o.dst=some n) (hN:n<N) (mR:df x mx=true) (pT:df y my=true)
  (ht:P.underlying t=some (.slice e)) (hi:P.info? e=some i) (hz:i.zero=some z) (dd:i.size=sz) (rT:i.bytes=by_) (Dg:0<by_) (mT:0<sz) (hc:yF z.cells.toList zs=true)
  (hq:(σ.ev mx).fm=some q) (gz:(σ.ev my).fm=some q') (gw:q<=q') (rm:0<=q) (hb:q'.toNat*by_<=fo) (hlen:zs.length=sz)
  (hx:σ.ins n (.row true m sz (List.replicate q.toNat zs))=some σ1):
  o.wp P a w (Nx B E w0 N (σ1.put o.dst (.one (.sl n sz 0 q.toNat)))) Q:=by
 obtain⟨hn,rfl⟩:=qH hx;obtain⟨k1,e1⟩:=(r.ev mR).1.int hq;obtain⟨k2,e2⟩:=(r.ev pT).1.int gz;have hqq:q.toNat<=q'.toNat:=by omega
 obtain⟨b1,b2,b3⟩:=TZ (w:=w) hc;have aDQ:q'.toNat<=fo:=zaG (zaE _ Dg) hb;have asF:z.cells.size=sz:=by
  have:((zs.map pw).map PC.val).length=z.cells.toList.length:=by rw[b2]
  simp at this;omega
 have c9:=run_make (P:=P) w t e i z ht hi hz k1 k2 q q' rm gw (by
  rw[rT];have h1:((q'.toNat*by_:Nat):Int)<=((fo:Nat):Int):=by exact_mod_cast hb
  rw[Int.natCast_mul,za3 (by omega:0<=q')] at h1;rw[Int.mul_comm];have h2:((fo:Nat):Int)=140737488355328:=rfl;omega) (by
  have h2:(fo:Nat)=140737488355328:=rfl;omega)
 have ass:(execOp a.eval o).run P w=.ok (.value (.slice (some (ad w.heap.size 0)) q.toNat q'.toNat)) (w.alloc (.cells (madeCells z.cells (q'.toNat*sz)) e)):=by
  simp only[execOp,ho,e1,e2];rw[dd] at c9;simp[c9,ad]
 have asg:(List.replicate q.toNat (zs.map pw)).map (fun e=>e.map PC.er)=List.replicate q.toNat zs:=by
  rw[List.map_replicate,b1]
 have dE:∀b,¬bY b (List.replicate q.toNat (zs.map pw)):=by
  rintro b ⟨k,j,c,hk,hb⟩;exact(b3 c (zaa (Ou hk).2)).2 b hb
 have hg:∀k j c,At (List.replicate q.toNat (zs.map pw)) k j c->Good w c/\∀b,bR b c->G.Im b:=fun k j c hk=>
  ⟨(b3 c (zaa (Ou hk).2)).1,fun b hb=>absurd hb ((b3 c (zaa (Ou hk).2)).2 b)⟩
 obtain⟨G',r',hv⟩:=r.newRow (σ1:=σ) (Im':=G.Im) (m:=m) (sz:=sz) (cap:=q'.toNat) (pes:=List.replicate q.toNat (zs.map pw)) (arr:=madeCells z.cells (q'.toNat*sz)) (e:=e) r.hr (cr.refl _ _ _ _) rfl rfl hn mT
  (fun e he=>by rw[(List.mem_replicate.1 he).2];simpa using hlen) hg (fun k j c hk=>by
   obtain⟨h1,h2⟩:=Ou hk;have hj:j<sz:=by have:=(zab.1 h2).1;simp at this;omega
   have ar1:k*sz+j<q'.toNat*sz:=by
    have:(k+1)*sz<=q'.toNat*sz:=zah _ (by omega);rw[zai] at this;omega
   have asb:(k*sz+j)%sz=j:=by rw[zaY,Nat.mul_add_mod,Nat.mod_eq_of_lt hj]
   have kD:z.cells.toList[j]? =some c.val:=by rw[<-b2,zad,h2];rfl
   have arS:z.cells[j]? =some c.val:=by simpa using kD
   have hz3:(k*sz+j)%z.cells.size=j:=by rw[asF];exact asb
   simp[madeCells,ar1,hz3];rw[getElem!_def,arS]) (by simpa using hqq) (by
   have h2:(fo:Nat)=140737488355328:=rfl;simp only[maxLen];omega) (size_madeCells _ _) (.inr (Iw.KM dE (fun k j c hk=>(hg k j c hk).1)))
 rw[asg,List.length_replicate] at*
 refine Ci ass ⟨G',r'.put hv (fun q hq=>by have gz:q=n:=hq;subst gz;exact cT _ _ _) (fun q hq=>by rw[hd] at hq;injection hq with hq;omega)⟩
theorem aeW (off:Nat):∀(vs:List Value) (k:Nat) (cs:Array Value),off+k+vs.length<=cs.size->
  ((vs.zipIdx k).foldl (fun(cs:Array Value) (p:Value×Nat)=>cs.setIfInBounds (off+p.2) p.1) cs)=(cs.toList.take (off+k)++vs++cs.toList.drop (off+k+vs.length)).toArray
 |[],k,cs,_=>by simp
 |v::vs,k,cs,h=>by
  simp only[zbe,List.foldl_cons];have h':off+(k+1)+vs.length<=(cs.setIfInBounds (off+k) v).size:=by simp at h⊢;omega
  rw[aeW off vs (k+1) _ h'];have e:=list_seg_step cs.toList (off+k) v vs (by simp at h⊢;omega);rw[zaC,<-e];simp[Array.toList_setIfInBounds,zan]
theorem aeX (off:Nat) (v:Value) (cs:Array Value) (h:off+v.cells.size<=cs.size):
  (v.cells.zipIdx.foldl (fun cs (c,j)=>cs.setIfInBounds (off+j) c) cs)=(dM cs.toList off v.cells.toList).toArray:=by
 have:=aeW off v.cells.toList 0 cs (by simpa using h);rw[<-Array.foldl_toList];simp only[Array.toList_zipIdx];simpa[dM] using this
theorem adI (size:Nat):∀(vs:List Value) (i0:Nat) (cs:Array Value),(∀v∈vs,v.cells.size=size)->(i0+vs.length)*size<=cs.size->
  Instr.fill (fun i=>some (i*size,size)) cs ((vs.zipIdx i0).map fun p=>(p.2,p.1))=some (dM cs.toList (i0*size) (vs.flatMap fun v=>v.cells.toList)).toArray
 |[],i0,cs,_,_=>by simp[Instr.fill,dM]
 |v::vs,i0,cs,hv,hl=>by
  have h0:=hv v (by simp);have h1:i0*size+v.cells.size<=cs.size:=by
   have:(i0+1)*size<=(i0+(v::vs).length)*size:=zah _ (by simp);rw[zai] at this;omega
  simp only[zbe,zak,Instr.fill];rw[if_neg (by simp;omega)];rw[aeX _ _ _ h1];have hlen:(dM cs.toList (i0*size) v.cells.toList).length=cs.size:=by simp[dM];omega
  rw[adI size vs (i0+1) _ (fun v' fH=>hv v' (by simp[fH])) (by simp only[zaQ,hlen];simp only[zaC] at hl;rwa[show i0+1+vs.length=i0+(vs.length+1) by omega])];congr 2;have v9:v.cells.toList.length=size:=by simpa using h0
  have e1:(i0+1)*size=i0*size+size:=by rw[zai];omega
  simp only[dM,List.flatMap_cons,zaF,v9];rw[e1];have ht:(List.take (i0*size) cs.toList).length=i0*size:=by simp;omega
  have t1:List.take (i0*size+size) (List.take (i0*size) cs.toList++v.cells.toList++List.drop (i0*size+size) cs.toList)=List.take (i0*size) cs.toList++v.cells.toList:=by
   apply List.take_left';simp[ht,v9]
  have d1:∀x,List.drop (i0*size+size+x) (List.take (i0*size) cs.toList++v.cells.toList++List.drop (i0*size+size) cs.toList)=List.drop (i0*size+(size+x)) cs.toList:=by
   intro x;rw[List.drop_append,zaT (by simp[ht,v9])];simp only[zax,List.drop_drop,zaF,ht,v9];congr 1;omega
  rw[t1,d1];simp[zaR]
end
theorem adD {α:Type} (P:Nat->α->Prop):∀n:Nat,(∀j,j<n->∃v,P j v)->∃l:List α,l.length=n/\∀(j:Nat) (u:α),l[j]? =some u->P j u
 |0,_=>⟨[],rfl,by simp⟩
 |n+1,h=>by
  obtain⟨l,h1,h2⟩:=adD P n (fun j hj=>h j (by omega));obtain⟨v,hv⟩:=h n (by omega);refine⟨l++[v],by simp[h1],fun j u hj=>?_⟩;rcases zaP j n with cC|gw|Dk
  ·rw[zaf (by omega)] at hj;exact h2 j u hj
  ·subst gw;rw[zag (by omega)] at hj;simp[h1] at hj;subst hj;exact hv
  ·rw[zaV (by simp;omega)] at hj;cases hj
theorem LA {α:Type} {l l':List α} {off sz:Nat} (h:sub l off sz=some l'):off+sz<=l.length/\l'=(l.drop off).take sz/\l'.length=sz:=by
 unfold sub at h;split at h
 ·rename_i hl;injection h with h;subst h;exact⟨hl,rfl,by simp;omega⟩
 ·cases h
theorem H7 {α:Type} {l:List α} {off sz j:Nat} (hj:j<sz):((l.drop off).take sz)[j]? =l[off+j]? :=by
 rw[zaS hj,zaD]
theorem agZ (n k rs:Nat):∀(l:List C) (off:Nat),(jY n k rs off l).length=l.length
 |[],_=>rfl
 |c::l,off=>by cases c<;>simp[jY,agZ n k rs l]
theorem XA (n k rs:Nat):∀(l:List C) (off j:Nat) (x:ao),(jY n k rs off l)[j]? =some x->
  (∃c,l[j]? =some c/\c.gV=true/\x=.c c)\/(∃sz ys,l[j]? =some (.list sz ys)/\x=.cJ n k rs (off+j) sz ys.length)
 |[],off,j,x,h=>by simp[jY] at h
 |c::l,off,j,x,h=>by
  cases j with
  |zero=>
   cases c<;>simp[jY] at h<;>subst h
   ·exact .inl ⟨_,rfl,rfl,rfl⟩
   ·exact .inl ⟨_,rfl,rfl,rfl⟩
   ·exact .inr ⟨_,_,rfl,rfl⟩
  |succ j=>
   have h':(jY n k rs (off+1) l)[j]? =some x:=by cases c<;>simpa[jY] using h
   rcases XA n k rs l (off+1) j x h' with⟨c',h1,h2,h3⟩|⟨sz,ys,h1,h2⟩
   ·exact .inl ⟨c',by simpa using h1,h2,h3⟩
   ·exact .inr ⟨sz,ys,by simpa using h1,by rw[h2,show off+1+j=off+(j+1) by omega]⟩
section
variable {B:Nat} {E:Ex} {w0 w w':World} {G G':Gh} {h h':Nat->Option aK} {used used':Nat->Bool} {tk:List PC} {N:Nat}
variable {P:Program} {o:Oper} {a:Act} {σ σ':St} {Q:Exit->Act->World->Prop}
theorem ao8 (r:R B E w0 N σ a w G) {n:Nat} {t e:TypeId} {len:Nat} {parts:Array (Nat×Operand)} {Hh:List MO} {i:TypeInfo} {z:Value} {sz:Nat} {es:List (List C)} {ow:Bool} {σ1 σ2:St}
  (ho:o.op=.buildSlice t len parts) (hd:o.dst=some n) (hN:n<N) (ht:P.underlying t=some (.slice e)) (hi:P.info? e=some i) (hz:i.zero=some z) (dd:i.size=sz) (mT:0<sz)
  (hlen:Hh.length=len) (lO:parts.toList.map (·.1)=List.range len) (Va:len*sz<=16777216)
  (kE:∀(j:Nat) (p:Nat×Operand) (m:MO),parts.toList[j]? =some p->Hh[j]? =some m->df p.2 m=true)
  (VY:σ.pj sz (Hh.map σ.ev)=some (es,ow,σ1)) (hx:σ1.ins n (.row true (if ow=true then .aZ else .aV) sz es)=some σ2):
  o.wp P a w (Nx B E w0 N (σ2.put o.dst (.one (.sl n sz 0 es.length)))) Q:=by
 obtain⟨hn,rfl⟩:=qH hx;have ig:parts.toList.length=len:=by have:=congrArg List.length lO;simpa using this
 have asC:(parts.toList.map fun p=>a.eval p.2).length=(Hh.map σ.ev).length:=by simp only[zay];omega
 have hev:∀(j:Nat) (x:aA) (v:Value),(Hh.map σ.ev)[j]? =some x->(parts.toList.map fun p=>a.eval p.2)[j]? =some v->RA w G σ.h x v/\∀m,x.ref m->σ.used m=true:=by
  intro j x v GG Bm;rw[zad] at GG Bm;cases hp:parts.toList[j]? with
  |none=>rw[hp] at Bm;cases Bm
  |some p=>
   cases hm:Hh[j]? with
   |none=>rw[hm] at GG;cases GG
   |some m=>
    rw[hm] at GG;rw[hp] at Bm;simp at GG Bm;subst GG;subst Bm;exact r.ev (kE j p m hp hm)
 obtain⟨Im',pes,a1,a2,a3,a4,a5,a6,a7,a8,a9⟩:=HR.pj (sz:=sz) r.hr VY asC (fun j x v h1 h2=>(hev j x v h1 h2).1) (fun x hx m hm=>by
  obtain⟨j,hj,hjx⟩:=zav hx;have Bm:(parts.toList.map fun p=>a.eval p.2)[j]? =some ((parts.toList.map fun p=>a.eval p.2)[j]'(by omega)):=zac _;exact(hev j x _ (by rw[zac hj,hjx]) Bm).2 m hm)
 simp only[zax] at a5;have ash:pes.length=len:=by
  have:=congrArg List.length a2;simp only[zay] at this;omega
 have V2:∀v∈(parts.toList.map fun p=>a.eval p.2),v.cells.size=sz:=by
  intro v hv;obtain⟨j,hj,A9⟩:=zav hv;have h1:((parts.toList.map fun p=>a.eval p.2).map fun v=>v.cells.toList)[j]? =some v.cells.toList:=by rw[zad,zac hj,A9];rfl
  rw[<-a2,zad] at h1;cases hq:pes[j]? with
  |none=>rw[hq] at h1;cases h1
  |some pe=>
   rw[hq] at h1;simp at h1;have:=a3 pe (zaa hq);rw[<-zao,<-h1];simpa using this
 have hpz:(parts.map fun p=>(p.1,a.eval p.2)).toList=((parts.toList.map fun p=>a.eval p.2).zipIdx 0).map fun p=>(p.2,p.1):=by
  apply List.ext_getElem?;intro j;simp only[zaH,zad,List.getElem?_zipIdx];cases hp:parts.toList[j]? with
  |none=>simp
  |some p=>
   have rY:=(zab.1 hp).1;have h1:(parts.toList.map (·.1))[j]? =some p.1:=by rw[zad,hp];rfl
   rw[lO,List.getElem?_range (by omega)] at h1;injection h1 with h1;simp[h1]
 have c9:(execOp a.eval o).run P w=.ok (.value (.slice (some (ad w.heap.size 0)) len len)) (w.alloc (.cells ((parts.toList.map fun p=>a.eval p.2).flatMap fun v=>v.cells.toList).toArray e)):=by
  have arY:((parts.toList.map fun p=>a.eval p.2).flatMap fun v=>v.cells.toList).length=len*sz:=by
   rw[za4];have:∀(l:List Value),(∀v∈l,v.cells.size=sz)->(l.map fun v=>v.cells.toList.length).sum=l.length*sz:=by
    intro l;induction l with
    |nil=>simp
    |cons v l ih=>
     intro hv;simp only[zak,zbk,zaC];rw[ih (fun v' fH=>hv v' (by simp[fH])),zao,hv v (by simp),zai];omega
   rw[this _ V2];simp[ig]
  have aft:∀cs:Array Value,cs.size=len*sz->Instr.fill (fun i=>some (i*sz,sz)) cs (parts.map fun p=>(p.1,a.eval p.2)).toList=some ((parts.toList.map fun p=>a.eval p.2).flatMap fun v=>v.cells.toList).toArray:=by
   intro cs gY;rw[hpz,adI sz _ 0 cs V2 (by simp only[zay,ig,zal];omega)];congr 2;simp only[dM,zaX,za2,zax,zal];rw[zaT (by rw[arY,zao,gY];exact zap _)];simp
  by_cases h0:len*sz=0
  ·have hf:=aft ((Array.range 0).map fun _=>default) (by simp[h0]);rw[zaH] at hf;simp[execOp,ho,Instr.buildSlice,run_underlying ht,sizeOf,typeInfo,hi,dd,h0,Nat.not_lt.2 Va,hf,newRow,ad]
  ·have hf:=aft ((Array.range (len*sz)).map (z.cells[·%z.cells.size]!)) (by simp);rw[zaH] at hf;simp[execOp,ho,Instr.buildSlice,run_underlying ht,sizeOf,typeInfo,hi,dd,h0,Nat.not_lt.2 Va,zeroValue,hz,hf,newRow,ad]
 have jc:∀k j c,At pes k j c->Good w c/\∀b,bR b c->Im' b:=fun k j c hk=>by
  obtain⟨e1,he,hj⟩:=hk;exact a4 e1 (zaa he) c (zaa hj)
 have H0:HR B E w ⟨Im',G.g⟩ σ1.h σ.used []:=by
  cases ow
  ·simpa using a5
  ·have Av:HR B E w ⟨Im',G.g⟩ σ1.h σ.used ([]++pes.flatten):=by simpa using a5
   exact Av.Cc
 obtain⟨G',r',hv⟩:=r.newRow (m:=if ow=true then .aZ else .aV) (sz:=sz) (cap:=len) (pes:=pes) (arr:=((parts.toList.map fun p=>a.eval p.2).flatMap fun v=>v.cells.toList).toArray) (e:=e) H0 a6 a7 a8 (by rw[<-a8];exact hn) mT a3 jc
  (fun k j c hk=>by
   have dg:At (pes.map fun e=>e.map PC.val) k j c.val:=by
    obtain⟨e1,he,hj⟩:=hk;exact⟨e1.map PC.val,by rw[zad,he];rfl,by rw[zad,hj];rfl⟩
   have hf:=yC (sz:=sz) (px:=pes.map fun e=>e.map PC.val) (fun e he=>by
    obtain⟨e1,A6,rfl⟩:=zaz.1 he;simpa using a3 e1 A6) dg
   rw[a2] at hf;simpa[List.flatMap] using hf) (by omega) (by
   have h2:sz*len<=16777216:=by rw[zaY];exact Va
   have h3:len<=len*sz:=zaE _ mT;simp only[maxLen];omega) (by
   have Vo:((parts.toList.map fun p=>a.eval p.2).flatMap fun v=>v.cells.toList).length=len*sz:=by
    rw[za4];have:∀(l:List Value),(∀v∈l,v.cells.size=sz)->(l.map fun v=>v.cells.toList.length).sum=l.length*sz:=by
     intro l;induction l with
     |nil=>simp
     |cons v l ih=>
      intro hv;simp only[zak,zbk,zaC];rw[ih (fun v' fH=>hv v' (by simp[fH])),zao,hv v (by simp),zai];omega
    rw[this _ V2];simp[ig]
   simpa using Vo) (by
   cases ow
   ·exact .inl rfl
   ·right;simp only[if_true];have Av:HR B E w ⟨Im',G.g⟩ σ1.h σ.used pes.flatten:=by simpa using a5
    exact Av.azk mT a3)
 have arW:es.length=pes.length:=by rw[<-a1];simp
 rw[a1] at r' hv;rw[arW];rw[ash] at hv⊢;refine Ci c9 ⟨G',?_⟩;exact r'.put hv (fun q hq=>by have gz:q=n:=hq;subst gz;exact cT _ _ _) (fun q hq=>by rw[hd] at hq;injection hq with hq;omega)
theorem HR.loadAt (H:HR B E w G h used tk) {p:ao} {sz:Nat} {cs:List ao} {v:Value} (hx:loadAt h p sz=some cs) (hc:RC w G h p v) (oU:∀m,p.ref m->used m=true):
  ∃(b o:Nat) (vs:List Value),v=.pointer (some (ad b o))/\vs.length=sz/\(∀(j:Nat) (u:Value),vs[j]? =some u->w.cell? (ad b (o+j))=some u)/\eO w G h cs vs/\
   ∀c∈cs,∀m,c.ref m->used m=true:=by
 cases p with
 |ptr n k aY off=>
  simp only[Am.loadAt] at hx;split at hx
  ·rename_i lg hn;split at hx
   ·rename_i hk;subst hk;obtain⟨s1,s2,s3⟩:=LA hx;obtain⟨q1,q2⟩:=hc (by rw[hn];simp);obtain⟨b1,b2,b3⟩:=H.box n lg hn;have cN:∀j,j<sz->∃v,w.cell? (ad (G.g n).b ((G.g n).o+off+j))=some v/\∀c,cs[j]? =some c->v.oneCell'=true/\RC w G h c v:=by
     intro j hj;have gK:lg[off+j]? =some (lg[off+j]'(by omega)):=zac _;obtain⟨v,v1,v2,v3⟩:=b3 _ _ gK;refine⟨v,by rw[zan];exact v1,fun c mw=>?_⟩;rw[s2,H7 hj,gK] at mw;injection mw with mw;subst mw;exact⟨v2,v3⟩
    obtain⟨vs,l1,l2⟩:=adD _ sz cN;refine⟨(G.g n).b,(G.g n).o+off,vs,by rw[q2];simp,l1,fun j u hj=>(l2 j u hj).1,⟨by omega,fun j c u mw hu=>(l2 j u hu).2 c mw⟩,fun c tp m hm=>?_⟩;refine H.j7 n lg c m hn ?_ hm;rw[s2] at tp;exact zas (zat tp)
   ·cases hx
  ·rename_i gr mo rs xs hn;split at hx
   ·rename_i za;subst za;split at hx
    ·rename_i e he;split at hx
     ·rename_i l jG;injection hx with hx;obtain⟨s1,s2,s3⟩:=LA jG;have hr:=H.row n gr mo aY xs hn;obtain⟨q1,q2⟩:=hc (by rw[hn];simp);obtain⟨r1,r2,r3⟩:=hr.gd q1;have Be:∃pe,(G.g n).px[k]? =some pe/\pe.map PC.er=e:=by
       rw[hr.er,zad] at he;cases hp:(G.g n).px[k]? with
       |none=>rw[hp] at he;cases he
       |some pe=>rw[hp] at he;simp at he;exact⟨pe,rfl,he⟩
      obtain⟨pe,Bf,Bg⟩:=Be;have lO:off+sz<=pe.length:=by rw[<-Bg] at s1;simpa using s1
      have kD:∀j,j<sz->∃pc,At (G.g n).px k (off+j) pc/\l[j]? =some pc.er/\((pe.drop off).take sz)[j]? =some pc:=by
       intro j hj;have hp:pe[off+j]? =some (pe[off+j]'(by omega)):=zac _;refine⟨pe[off+j]'(by omega),⟨pe,Bf,hp⟩,?_,by rw[H7 hj];exact hp⟩;have e0:l[j]? =((e.drop off).take sz)[j]? :=congrArg (fun q:List C=>q[j]?) s2;rw[e0,H7 hj,<-Bg,zad,hp];rfl
      have v9:(((pe.drop off).take sz).map PC.val).length=sz:=by simp;omega
      refine⟨(G.g n).b,(G.g n).o+k*aY+off,((pe.drop off).take sz).map PC.val,q2,v9,fun j u hj=>?_,?_,?_⟩
      ·have qC:j<sz:=by have:=(zab.1 hj).1;omega
       obtain⟨pc,p1,p2,p3⟩:=kD j qC;rw[zad,p3] at hj;simp at hj;subst hj;rw[show(G.g n).o+k*aY+off+j=(G.g n).o+k*aY+(off+j) by omega];exact r2.2.1 _ _ _ p1
      ·subst hx;refine⟨by rw[v9];split<;>simp[agZ,s3],fun j c u mw hu=>?_⟩
       have qC:j<sz:=by have:=(zab.1 hu).1;omega
       obtain⟨pc,p1,p2,p3⟩:=kD j qC;rw[zad,p3] at hu;simp at hu;subst hu;refine⟨PC.qg pc,?_⟩;have hg:=r2.2.2 _ _ _ p1;split at mw
       ·rename_i xu;subst xu;rcases XA n k aY l off j c mw with⟨c',h1,h2,rfl⟩|⟨s,ys,h1,rfl⟩
        ·rw[p2] at h1;injection h1 with h1;exact⟨pc,h1,rfl,hg,fun b hb=>absurd hb ((Sep.o8 (pc:=pc) (by rw[h1];exact h2)).2 b)⟩
        ·rw[p2] at h1;injection h1 with h1;intro cv aM _;refine⟨pc,p1,rfl,?_⟩;cases pc<;>simp[PC.er] at h1<;>rfl
       ·rename_i xu;rw[zad,p2] at mw;simp at mw;subst mw;refine⟨pc,rfl,rfl,hg,fun b hb=>?_⟩;have hm:=hr.mode;have eI:bY b (G.g n).px:=⟨k,off+j,pc,p1,hb⟩;cases mo with
        |aV=>exact hm b eI
        |aZ=>exact(hm.1 b eI).1
        |live=>exact absurd rfl xu
      ·intro c tp m hm;subst hx;split at tp
       ·obtain⟨j,hj,Dm⟩:=zav tp;rcases XA n k aY l off j c (by rw[zac hj,Dm]) with⟨c',h1,h2,rfl⟩|⟨s,ys,h1,rfl⟩
        ·exact absurd hm (by simp[ao.ref,ao.lY])
        ·have:m=n:=hm;subst this;exact oU m rfl
       ·obtain⟨c',_,rfl⟩:=zaz.1 tp;exact absurd hm (by simp[ao.ref,ao.lY])
     ·cases hx
    ·cases hx
   ·cases hx
  ·cases hx
 |dR xs off=>
  simp only[Am.loadAt] at hx;cases jG:sub xs off sz with
  |none=>rw[jG] at hx;cases hx
  |some l=>
   rw[jG] at hx;simp at hx;subst hx;obtain⟨s1,s2,s3⟩:=LA jG;obtain⟨b,o,pe,p1,p2,p3,p4⟩:=hc;have lO:off+sz<=pe.length:=by rw[<-p2] at s1;simpa using s1
   have v9:(((pe.drop off).take sz).map PC.val).length=sz:=by simp;omega
   have kD:∀j,j<sz->∃pc,pe[off+j]? =some pc/\l[j]? =some pc.er/\((pe.drop off).take sz)[j]? =some pc:=by
    intro j hj;have hp:pe[off+j]? =some (pe[off+j]'(by omega)):=zac _;refine⟨pe[off+j]'(by omega),hp,?_,by rw[H7 hj];exact hp⟩;have e0:l[j]? =((xs.drop off).take sz)[j]? :=congrArg (fun q:List C=>q[j]?) s2;rw[e0,H7 hj,<-p2,zad,hp];rfl
   refine⟨b,o+off,_,p1,v9,fun j u hj=>?_,⟨by rw[v9];simp[s3],fun j c u mw hu=>?_⟩,fun c tp m hm=>?_⟩
   ·have qC:j<sz:=by have:=(zab.1 hj).1;omega
    obtain⟨pc,q1,q2,q3⟩:=kD j qC;rw[zad,q3] at hj;simp at hj;subst hj;rw[zan];exact(p4 _ _ q1).1
   ·have qC:j<sz:=by have:=(zab.1 hu).1;omega
    obtain⟨pc,q1,q2,q3⟩:=kD j qC;rw[zad,q3] at hu;rw[zad,q2] at mw;simp at hu mw;subst hu;subst mw;exact⟨PC.qg pc,pc,rfl,rfl,(p4 _ _ q1).2.1,(p4 _ _ q1).2.2⟩
   ·obtain⟨c',_,rfl⟩:=zaz.1 tp;exact absurd hm (by simp[ao.ref,ao.lY])
 |c x=>simp[Am.loadAt] at hx
 |nil sz=>simp[Am.loadAt] at hx
 |sl n sz lo len=>simp[Am.loadAt] at hx
 |cJ n k aY off sz len=>simp[Am.loadAt] at hx
 |eG n k aY off sz i=>simp[Am.loadAt] at hx
 |fn f ed=>simp[Am.loadAt] at hx
 |cD=>simp[Am.loadAt] at hx
def FE (P:Program) (t:TypeId) (ag:Bool) (sz:Nat):Bool:=
 match P.underlying t,P.info? t with
 |some (.struct _),some i=>ag&&i.size==sz
 |some (.array _ _),_=>false
 |some _,some i=> !ag&&sz==1
 |_,_=>false
theorem RA.kO {c:ao} {v:Value} (hc:c≠ .cD) (hv:RA w G h (.one c) v):RC w G h c v/\v.oneCell'=true:=by
 rcases hv with rfl|hv
 ·exact absurd rfl hc
 ·have fH:eO w G h [c] [v]:=hv;exact⟨(fH.2 0 c v rfl rfl).2,(fH.2 0 c v rfl rfl).1⟩
theorem apn (r:R B E w0 N σ a w G) {t:TypeId} {x:Operand} {m:MO} {ag:Bool} {sz:Nat} {p:ao} {cs:List ao} (ho:o.op=.load t x) (hN:∀n,o.dst=some n->n<N)
  (hm:df x m=true) (kE:FE P t ag sz=true) (hp:σ.ev m=.one p) (hx:Am.loadAt σ.h p sz=some cs):
  o.wp P a w (Nx B E w0 N (σ.put o.dst (qN ag cs))) Q:=by
 obtain⟨hv,oU⟩:=r.ev hm;rw[hp] at hv oU;have uG:p≠ .cD:=by rintro rfl;simp[Am.loadAt] at hx
 obtain⟨b,of,vs,h1,h2,h3,h4,h5⟩:=r.hr.loadAt hx (hv.kO uG).1 oU;have rl:∀v,RA w G σ.h (qN ag cs) v->(execOp a.eval o).run P w=.ok (.value v) w->o.wp P a w (Nx B E w0 N (σ.put o.dst (qN ag cs))) Q:=fun v hv c9=>
  Ci c9 ⟨G,r.put hv (fun q hq=>by
   unfold qN at hq;split at hq
   ·obtain⟨c,hc,hq⟩:=hq;exact h5 c hc q hq
   ·exact h5 _ (by simp) q hq
   ·exact absurd hq (by simp[aA.ref,ao.ref,ao.lY])) hN⟩
 have VI:∀n:Nat,n=vs.length->(loadCells (ad b of) n).run P w=.ok vs.toArray w:=fun n hn=>by
  subst hn;exact run_loadCells_list w (ad b of) vs (fun j u hj=>by rw[vD];exact h3 j u hj)
 unfold FE at kE;cases hu:P.underlying t with
 |none=>rw[hu] at kE;simp at kE
 |some d=>
  cases hi:P.info? t with
  |none=>rw[hu,hi] at kE;cases d<;>simp at kE
  |some i=>
   rw[hu,hi] at kE;have cM:(ag=true/\i.size=sz/\(isAgg t).run P w=.ok true w)\/(ag=false/\sz=1/\(isAgg t).run P w=.ok false w):=by
    cases d<;>simp at kE<;>simp[isAgg,run_underlying hu,kE]
   rcases cM with⟨rfl,e1,e2⟩|⟨rfl,e1,e2⟩
   ·refine rl (.agg vs.toArray) ⟨vs,rfl,h4⟩ ?_;simp[execOp,ho,h1,Instr.loadAt,Instr.sureAddr,loadVar,e2,sizeOf,typeInfo,hi,VI i.size (by omega)]
   ·subst e1;match vs,h2 with
    |[u],_=>
     have gY:∃c,cs=[c]:=by
      have:=h4.1;match cs,this with
      |[c],_=>exact⟨c,rfl⟩
     obtain⟨c,rfl⟩:=gY;refine rl u (.inr h4) ?_;have kD:=h3 0 u rfl;simp only[zaN] at kD;simp[execOp,ho,h1,Instr.loadAt,Instr.sureAddr,loadVar,e2,kD]
end
theorem RL {α:Type} {l vs:List α} {off:Nat} (h:off+vs.length<=l.length):(dM l off vs).length=l.length:=by
 simp[dM];omega
theorem B8 {α:Type} {l vs:List α} {off j:Nat} (h:off+vs.length<=l.length):(dM l off vs)[j]? =if off<=j/\j<off+vs.length then vs[j - off]? else l[j]? :=by
 unfold dM;have ht:(l.take off).length=off:=by simp;omega
 by_cases h1:j<off
 ·rw[if_neg (by omega),zaR,zaf (by omega),zaS h1]
 ·by_cases h2:j<off+vs.length
  ·rw[if_pos ⟨by omega,h2⟩,zaR,zag (by omega),zaf (by omega),ht]
  ·rw[if_neg (by omega),zag (by simp;omega),zaD];congr 1;simp;omega
theorem HW {α β:Type} (f:α->β) (l vs:List α) (off:Nat):(dM l off vs).map f=dM (l.map f) off (vs.map f):=by
 simp[dM,za7,za8]
def jA (w:World) (b o:Nat) (vs:List Value) (cur:Array Value):World:=w.setRow b (cur.toList.take o++vs++cur.toList.drop (o+vs.length)).toArray
section
variable {w:World} {b o:Nat} {vs:List Value} {cur:Array Value} {e:TypeId}
theorem LQ (hg:w.heap[b]? =some (.cells cur e (0,0))) (hl:o+vs.length<=cur.size) (x:Nat):
  (jA w b o vs cur).cell? (ad b x)=if o<=x/\x<o+vs.length then vs[x - o]? else w.cell? (ad b x):=by
 unfold jA ad;rw[cell_setRow_same w b x cur _ e (0,0) hg];have h1:=B8 (l:=cur.toList) (vs:=vs) (off:=o) (j:=x) (by simpa using hl);simp only[dM] at h1;rw[zaw,h1];have h2:w.cell? ⟨b,x,none⟩=cur[x]? :=by simp[World.cell?,hg]
 rw[h2];simp
theorem Ij (k:Nat) (hk:k≠b):(jA w b o vs cur).heap[k]? =w.heap[k]? :=setRow_other w b k _ hk
theorem wR:(jA w b o vs cur).heap.size=w.heap.size:=setRow_size _ _ _
theorem Sc (hg:w.heap[b]? =some (.cells cur e (0,0))) (hl:o+vs.length<=cur.size):∃mN,(jA w b o vs cur).heap[b]? =some (.cells mN e (0,0))/\mN.size=cur.size:=by
 refine⟨_,setRow_heap w b cur _ e (0,0) hg,?_⟩;simp;omega
theorem LR (hg:w.heap[b]? =some (.cells cur e (0,0))) (hl:o+vs.length<=cur.size):Cz w (jA w b o vs cur) b:=by
 intro arr e' h;obtain⟨mN,h1,h2⟩:=Sc (vs:=vs) (o:=o) hg hl;rw[hg] at h;injection h with h;injection h with ha hb;subst ha hb;exact⟨mN,h1,h2⟩
theorem Sd (hg:w.heap[b]? =some (.cells cur e (0,0))) (hl:o+vs.length<=cur.size) (k:Nat) (hk:fL w k):fL (jA w b o vs cur) k:=by
 by_cases hkb:k=b
 ·subst hkb;obtain⟨mN,h1,_⟩:=Sc (vs:=vs) (o:=o) hg hl;exact⟨mN,e,h1⟩
 ·exact hk.congr (Ij k hkb)
end
section
variable {B:Nat} {E:Ex} {w0 w w':World} {G G':Gh} {h h':Nat->Option aK} {used used':Nat->Bool} {tk:List PC} {N:Nat}
variable {P:Program} {o:Oper} {a:Act} {σ σ':St} {Q:Exit->Act->World->Prop}
theorem LM {α:Type} (f:Nat->α) (n:Nat):aX f n (f n)=f:=by
 funext m;simp only[ma];split
 ·rename_i h;rw[h]
 ·rfl
theorem Z6 {t:TypeId} {i:TypeInfo} {b off:Nat} {v:Value} {cur:Array Value} {e:TypeId} (hi:P.info? t=some i) (dd:v.cells.size=i.size) (hg:w.heap[b]? =some (.cells cur e (0,0)))
  (hl:off+v.cells.size<=cur.size) (h1:∀u∈v.cells.toList,u.oneCell'=true):
  (storeVar t (ad b off) v).run P w=.ok () (jA w b off v.cells.toList cur):=by
 have nA:=run_storeCells_at P b off e v.cells.toList 0 cur w hg (by simpa using hl) h1;simp only[zaN] at nA;simp[storeVar,sizeOf,typeInfo,hi,dd,ad,nA,jA]
theorem HR.AP (H:HR B E w G h used tk) {n m:Nat} {gr:Bool} {mo:Mode} {sz:Nat} {xs:List (List C)} (hn:h n≠none) (hl:(G.g n).nl=false) (hm:h m=some (.row gr mo sz xs)) {b:Nat} (hb:bY b (G.g m).px):b≠(G.g n).b:=by
 have eR:=(H.row m gr mo sz xs hm).mode;cases mo with
 |aV=>rintro rfl;exact(H.own n hn hl).1 (eR _ hb)
 |aZ=>rintro rfl;exact(H.own n hn hl).1 (eR.1 _ hb).1
 |live=>exact H.live m gr sz xs hm b hb n hn hl
theorem R.aCw (r:R B E w0 N σ a w G) {n:Nat} {cs:List ao} {vs:List ao} {us:List Value} {off:Nat} (hn:σ.h n=some (.box cs)) (hv:eO w G σ.h vs us) (oU:∀c∈vs,∀m,c.ref m->σ.used m=true)
  (hl:off+vs.length<=cs.length) {cur:Array Value} {e:TypeId} (hg:w.heap[(G.g n).b]? =some (.cells cur e (0,0))) (jE:(G.g n).o+off+us.length<=cur.size):
  R B E w0 N (σ.fK n (.box (dM cs off vs))) a (jA w (G.g n).b ((G.g n).o+off) us cur) G:=by
 have H:=r.hr;have c8:σ.h n≠none:=by rw[hn];simp
 obtain⟨bI,xC,kD⟩:=H.box n cs hn;obtain⟨y7,xx,y8⟩:=H.own n c8 bI;have Bk:=H.lI n c8;have hG:(⟨G.Im,aX G.g n (G.g n)⟩:Gh)=G:=by rw[LM]
 have hlen:us.length=vs.length:=hv.1;have fV:∀b,b<w.heap.size->b≠(G.g n).b->(jA w (G.g n).b ((G.g n).o+off) us cur).heap[b]? =w.heap[b]? :=fun b _ hb=>Ij b hb;have K:cr w G σ.h (fun n=>σ.used n=true) (jA w (G.g n).b ((G.g n).o+off) us cur) G (aX σ.h n (some (.box (dM cs off vs)))):=by
  refine⟨fun _ h=>h,fun b hb x=>lG (fV b (H.jM b hb) (fun he=>y7 (he▸hb))) x,fun m hm h0=>?_,fun m gr sz xs hm h0=>?_⟩
  ·by_cases cO:m=n
   ·subst cO;exact⟨c8,rfl,rfl,rfl,rfl,rfl⟩
   ·rw[dN _ _ _ _ cO] at h0;exact⟨h0,rfl,rfl,rfl,rfl,rfl⟩
  ·by_cases cO:m=n
   ·subst cO;rw[cT] at h0;cases h0
   ·rw[dN _ _ _ _ cO] at h0;exact⟨⟨gr,xs,h0⟩,fun k j pc h1 h2=>⟨pc,h1,rfl,h2⟩⟩
 have Hn:HR B E (jA w (G.g n).b ((G.g n).o+off) us cur) ⟨G.Im,aX G.g n (G.g n)⟩ (aX σ.h n (some (.box (dM cs off vs)))) σ.used []:=by
  refine H.put (fun b hb aR=>fV b hb (aR bI)) (by rw[wR];exact zap _) (fun b _ hb=>Sd hg jE b hb) (fun _ h=>h) Bk (fun _=>⟨y7,xx,by rw[wR];exact y8⟩)
   (fun _ m hm h0 pS=>(H.inj m n h0 c8 hm pS bI)) (fun _ m gr sz xs hm h0 b hb=>H.live m gr sz xs h0 b hb n c8 bI) ?_ (by rw[hG];exact K) ?_
   (fun gr m sz xs hb=>by cases hb) (fun gr sz xs hb=>by cases hb) (fun gr m sz xs hb=>by cases hb) ?_
  ·intro cs' c m hb hc hm;injection hb with hb;subst hb;simp only[dM,zau] at hc;rcases hc with(hc|hc)|hc
   ·exact H.j7 n cs c m hn (zat hc) hm
   ·exact oU c hc m hm
   ·exact H.j7 n cs c m hn (zas hc) hm
  ·rw[hG];refine⟨bI,Sd hg jE _ xC,fun j c hj=>?_⟩;rw[B8 hl] at hj;rw[LQ hg jE];by_cases gU:off<=j/\j<off+vs.length
   ·rw[if_pos gU] at hj;rw[if_pos (by omega)];have rY:j - off<us.length:=by omega
    have hu:us[j - off]? =some (us[j - off]'rY):=zac rY;obtain⟨q1,q2⟩:=hv.2 _ _ _ hj hu;refine⟨_,by rw[<-hu];congr 1;omega,q1,q2.fu K (oU c (zaa hj))⟩
   ·rw[if_neg gU] at hj;rw[if_neg (by omega)];obtain⟨v,v1,v2,v3⟩:=kD j c hj;exact⟨v,v1,v2,v3.fu K (fun m hm=>H.j7 n cs c m hn (zaa hj) hm)⟩
  ·intro _ _ b hb;obtain⟨m,gr,mo,sz,xs,hm,h0,eI⟩:=hb;exact H.AP c8 bI h0 eI
 rw[hG] at Hn;exact r.step (σ':=σ.fK n (.box (dM cs off vs))) rfl (fun _ h=>h) K Hn (r.fr.one xx (fun b hb aR=>fV b hb aR) (by rw[wR];exact zap _) (LR hg jE) rfl rfl rfl)
theorem Ov {α:Type} {px:List (List α)} {k k' j:Nat} {pe:List α} {c:α} (hk:k<px.length) (h:At (px.set k pe) k' j c):(k'=k/\pe[j]? =some c)\/(k'≠k/\At px k' j c):=by
 obtain⟨e,he,hj⟩:=h;by_cases re:k'=k
 ·subst re;rw[zaU hk] at he;injection he with he;subst he;exact .inl ⟨rfl,hj⟩
 ·rw[za1 (zaW re)] at he;exact .inr ⟨re,e,he,hj⟩
theorem PC.agt {pc:PC} (h:pc.jX=true):pc.er.gV=false:=by
 cases pc<;>simp[PC.jX] at h
 simp[PC.fN,C.gV]
theorem R.qM (r:R B E w0 N σ a w G) {n:Nat} {gr:Bool} {m:Mode} {rs:Nat} {xs:List (List C)} {k off:Nat} {e:List C} {vs:List ao} {us:List Value} {σ2:St}
  (hn:σ.h n=some (.row gr m rs xs)) (bI:(G.g n).nl=false) (hk:xs[k]? =some e) (hv:eO w G σ.h vs us) (oU:∀c∈vs,∀m,c.ref m->σ.used m=true)
  (hx:Am.qM σ n gr m rs xs k off e vs=some σ2) {cur:Array Value} {et:TypeId} (hg:w.heap[(G.g n).b]? =some (.cells cur et (0,0))) (jE:(G.g n).o+k*rs+off+us.length<=cur.size):
  ∃G',R B E w0 N σ2 a (jA w (G.g n).b ((G.g n).o+k*rs+off) us cur) G':=by
 unfold Am.qM at hx;split at hx
 ·cases hx
 rename_i iv jG;obtain⟨s1,s2,s3⟩:=LA jG;split at hx
 ·cases hx
 rename_i cs ow σ1 VY;obtain⟨Im',cH,a1,a2,a3,a4,a5,a6,a7,a8⟩:=HR.iz r.hr VY hv oU;simp only[zax] at a4;have H0:HR B E w ⟨Im',G.g⟩ σ1.h σ.used []:=by
  cases ow
  ·simpa using a4
  ·have a4':HR B E w ⟨Im',G.g⟩ σ1.h σ.used ([]++cH):=by simpa using a4
   exact a4'.Cc
 have hlen:us.length=vs.length:=hv.1;have lO:cH.length=vs.length:=by have:=congrArg List.length a2;simp at this;omega
 have Vh:(σ1.h n).isSome=true/\∃m',σ2=σ1.fK n (.row gr m' rs (xs.set k (dM e off cs)))/\
   ((m=.live/\m'=.live/\iG cs=true/\iG iv=true)\/(m≠ .live/\m'=if ow=true then m else .aV)):=by
  split at hx
  ·rename_i hm;split at hx
   ·rename_i hc;injection hx with hx;exact⟨hc.2.2,m,by rw[<-hx],.inl ⟨hm,hm,hc.1,hc.2.1⟩⟩
   ·cases hx
  ·rename_i hm;split at hx
   ·rename_i hs;injection hx with hx;exact⟨hs,_,hx.symm,.inr ⟨hm,rfl⟩⟩
   ·cases hx
 obtain⟨Gy,m',rfl,jm⟩:=Vh;have oT:σ1.h n=some (.row gr m rs xs):=by
  cases hh:σ1.h n with
  |none=>rw[hh] at Gy;cases Gy
  |some b=>rw[<-a8 n b hh,hn]
 have c8:σ1.h n≠none:=by rw[oT];simp
 have hr:=H0.row n gr m rs xs oT;obtain⟨y7,xx,y8⟩:=H0.own n c8 bI;have Bk:=H0.lI n c8;obtain⟨l1,l2,l3⟩:=hr.gd bI;have Be:∃pe,(G.g n).px[k]? =some pe/\pe.map PC.er=e:=by
  have yX:=hr.er;rw[yX,zad] at hk;cases hp:(G.g n).px[k]? with
  |none=>rw[hp] at hk;cases hk
  |some pe=>rw[hp] at hk;simp at hk;exact⟨pe,rfl,hk⟩
 obtain⟨pe,Bf,Bg⟩:=Be;have tu:k<(G.g n).px.length:=(zab.1 Bf).1;have PX:pe.length=rs:=l2.1 pe (zaa Bf);have Gu:off+cH.length<=pe.length:=by rw[<-Bg] at s1;simp at s1;omega
 let Hw:=dM pe off cH;let px':=(G.g n).px.set k Hw;let w2:=jA w (G.g n).b ((G.g n).o+k*rs+off) us cur;let p':PB:=⟨false,(G.g n).b,(G.g n).o,(G.g n).cap,px',(G.g n).na⟩;have afF:Hw.length=rs:=by show(dM pe off cH).length=rs;rw[RL Gu,PX]
 have cY:∀k' j c,At px' k' j c->(k'=k/\off<=j/\j<off+cH.length/\cH[j - off]? =some c)\/((k'≠k\/¬(off<=j/\j<off+cH.length))/\At (G.g n).px k' j c):=by
  intro k' j c h;rcases Ov tu h with⟨rfl,hj⟩|⟨aR,h⟩
  ·rw[B8 Gu] at hj;by_cases gU:off<=j/\j<off+cH.length
   ·rw[if_pos gU] at hj;exact .inl ⟨rfl,gU.1,gU.2,hj⟩
   ·rw[if_neg gU] at hj;exact .inr ⟨.inr gU,pe,Bf,hj⟩
  ·exact .inr ⟨.inl aR,h⟩
 have arO:∀k' j c,At px' k' j c->j<rs:=by
  intro k' j c h;obtain⟨e1,he,hj⟩:=h;have:e1.length=rs:=by
   rcases zaO (zaa he) with h1|h1
   ·exact l2.1 e1 h1
   ·rw[h1];exact afF
  rw[<-this];exact(zab.1 hj).1
 have rb:∀b,bY b px'->bY b (G.g n).px\/∃(i:Nat) (c:PC),cH[i]? =some c/\bR b c:=by
  rintro b ⟨k',j,c,qD,hb⟩;rcases cY k' j c qD with⟨_,_,_,hp⟩|⟨_,hp⟩
  ·exact .inr ⟨_,c,hp,hb⟩
  ·exact .inl ⟨k',j,c,hp,hb⟩
 have fV:∀b,b≠(G.g n).b->w2.heap[b]? =w.heap[b]? :=fun b hb=>Ij b hb;have VN:∀(i:Nat) (c:PC) (b:Nat),cH[i]? =some c->bR b c->Im' b:=fun i c b hi hb=>(a3 c (zaa hi)).2 b hb;have PE:∀b,Im' b->b≠(G.g n).b:=fun b hb he=>y7 (he▸hb);have VK:∀b,bY b (G.g n).px->b≠(G.g n).b:=fun b hb=>H0.AP c8 bI oT hb;have f9:sV w2 (G.g n).b (G.g n).o rs px':=by
  refine⟨fun e1 he=>?_,fun k' j c qD=>?_,fun k' j c qD=>?_⟩
  ·rcases zaO he with h1|h1
   ·exact l2.1 e1 h1
   ·rw[h1];exact afF
  ·have hj:=arO k' j c qD;show w2.cell? _=_;rw[LQ hg jE];rcases cY k' j c qD with⟨rfl,h1,h2,hp⟩|⟨aR,hp⟩
   ·rw[if_pos (by omega)];have hu:us[j - off]? =some c.val:=by rw[<-a2,zad,hp];rfl
    rw[<-hu];congr 1;omega
   ·rw[if_neg ?_]
    ·exact l2.2.1 k' j c hp
    ·rintro⟨q1,q2⟩;rcases aR with aR|aR
     ·rcases Nat.lt_or_gt_of_ne aR with cC|Dk
      ·have:(k'+1)*rs<=k*rs:=zah _ cC;rw[zai] at this;omega
      ·have:(k+1)*rs<=k'*rs:=zah _ Dk;rw[zai] at this;omega
     ·have:k'=k:=by
       rcases zaP k' k with cC|gw|Dk
       ·have:(k'+1)*rs<=k*rs:=zah _ cC;rw[zai] at this;omega
       ·exact gw
       ·have:(k+1)*rs<=k'*rs:=zah _ Dk;rw[zai] at this;omega
      subst this;omega
  ·rcases cY k' j c qD with⟨_,_,_,hp⟩|⟨_,hp⟩
   ·exact(a3 c (zaa hp)).1.congr fun b hb x=>lG (fV b (PE b (VN _ c b hp hb))) x
   ·exact(l2.2.2 k' j c hp).congr fun b hb x=>lG (fV b (VK b ⟨k',j,c,hp,hb⟩)) x
 have aDK:(G.g n).o+k*rs+off+us.length<=cur.size:=jE;have mz:iG cs=true->∀(i:Nat) (c:PC) (b:Nat),cH[i]? =some c->¬bR b c:=by
  intro hs i c b hi;have hc:c.er∈cs:=by rw[<-a1];exact zaJ (zaa hi)
  exact(Sep.o8 (pc:=c) (zam.1 hs _ hc)).2 b
 have hold:iG iv=true->∀j c,off<=j->j<off+cH.length->pe[j]? =some c->c.er.gV=true:=by
  intro hs j c h1 h2 hj;have:c.er∈iv:=by
   have h3:iv[j - off]? =some c.er:=by
    have e0:iv[j - off]? =((e.drop off).take vs.length)[j - off]? :=congrArg (fun q:List C=>q[j - off]?) s2;rw[e0,H7 (by omega),<-Bg,zad,show off+(j - off)=j by omega,hj];rfl
   exact zaa h3
  exact zam.1 hs _ this
 have K2:cr w ⟨Im',G.g⟩ σ1.h (fun n=>σ.used n=true) w2 ⟨Im',aX G.g n p'⟩ (aX σ1.h n (some (.row gr m' rs (xs.set k (dM e off cs))))):=by
  refine⟨fun _ h=>h,fun b hb x=>lG (fV b (PE b hb)) x,fun q hq h0=>?_,fun q cv bu aM hq h0=>?_⟩
  ·by_cases iJ:q=n
   ·subst iJ;refine⟨c8,?_⟩;simp only[cT];exact⟨bI.symm,rfl,rfl,rfl,rfl⟩
   ·rw[dN _ _ _ _ iJ] at h0;simp only[dN _ _ _ _ iJ];exact⟨h0,trivial,trivial,trivial,trivial,trivial⟩
  ·by_cases iJ:q=n
   ·subst iJ;rw[cT] at h0;injection h0 with h0;injection h0 with e1 e2 e3 e4;subst e1;subst e2;subst e3;rcases jm with⟨hm,_,hs,Bi⟩|⟨hm,cQ⟩
    ·subst hm;refine⟨⟨gr,xs,oT⟩,fun k' j pc qD hL=>?_⟩;simp only[cT];refine⟨pc,?_,rfl,hL⟩;obtain⟨e1,he,hj⟩:=qD;by_cases re:k'=k
     ·subst re;rw[Bf] at he;injection he with he;subst he;refine⟨Hw,zaU tu,?_⟩;show(dM pe off cH)[j]? =some pc;rw[B8 Gu];rw[if_neg ?_]
      ·exact hj
      ·rintro⟨q1,q2⟩;have:=hold Bi j pc q1 q2 hj;rw[PC.agt hL] at this;cases this
     ·exact⟨e1,by show((G.g q).px.set k Hw)[k']? =some e1;rw[za1 (zaW re)];exact he,hj⟩
    ·cases ow
     ·simp at cQ
     ·simp at cQ;exact absurd cQ.symm hm
   ·rw[dN _ _ _ _ iJ] at h0;simp only[dN _ _ _ _ iJ];exact⟨⟨cv,aM,h0⟩,fun k j pc h1 h2=>⟨pc,h1,rfl,h2⟩⟩
 have zg:∀b,fL w b->fL w2 b:=fun b hb=>Sd hg jE b hb;have VM:m'≠ .aV->(∀b,bY b px'->fL w b/\(B<=b\/E b))/\kU px'/\(m'=.aZ->∀b,bY b px'->Im' b)/\(m'=.live->∀b,bY b px'->bY b (G.g n).px)/\
   (∀q cv mo bu aM,q≠n->σ1.h q=some (.row cv mo bu aM)->mo≠ .aV->∀b,bY b px'->¬bY b (G.g q).px):=by
  intro lM;have eR:=hr.mode;rcases jm with⟨rfl,rfl,hs,Bi⟩|⟨hm,cQ⟩
  ·have jG:∀b,bY b px'->bY b (G.g n).px:=fun b hb=>(rb b hb).resolve_right (fun⟨i,c,hi,hb⟩=>mz hs i c b hi hb);refine⟨fun b hb=>(eR.1 b (jG b hb)).2,⟨fun k' j c qD=>?_,fun k1 j1 c1 k2 j2 c2 b h1 h2 aR hb=>?_⟩,(fun h=>by cases h),fun _=>jG,fun q cv mo bu aM iJ hq nv b hb=>H0.ja n q gr .live rs xs cv mo bu aM oT hq (by simp) nv (zaW iJ) b (jG b hb)⟩
   ·rcases cY k' j c qD with⟨_,_,_,hp⟩|⟨_,hp⟩
    ·exact Sep.KM (fun b hb=>mz hs _ c b hp hb) (a3 c (zaa hp)).1
    ·exact eR.2.1 k' j c hp
   ·rcases cY k1 j1 c1 h1 with⟨_,_,_,hp⟩|⟨_,hp⟩
    ·exact absurd hb (mz hs _ c1 b hp)
    ·rcases cY k2 j2 c2 h2 with⟨_,_,_,cd⟩|⟨_,cd⟩
     ·exact mz hs _ c2 b cd
     ·exact eR.2.2 k1 j1 c1 k2 j2 c2 b hp cd aR hb
  ·cases ow
   ·simp at cQ;exact absurd cQ lM
   ·simp only[if_true] at cQ a4;subst cQ;have PR:m'=.aZ:=by cases m'<;>first|rfl|exact absurd rfl hm|exact absurd rfl lM
    subst PR;refine⟨fun b hb=>?_,⟨fun k' j c qD=>?_,fun k1 j1 c1 k2 j2 c2 b h1 h2 aR hb=>?_⟩,fun _ b hb=>?_,(fun h=>by cases h),fun q cv mo bu aM iJ hq nv b hb=>?_⟩
    ·rcases rb b hb with h1|⟨i,c,hi,h1⟩
     ·exact(eR.1 b h1).2
     ·exact((a4.vo i c hi).2 b h1).2
    ·rcases cY k' j c qD with⟨_,_,_,hp⟩|⟨_,hp⟩
     ·exact(a4.vo _ c hp).1
     ·exact eR.2.1 k' j c hp
    ·rcases cY k1 j1 c1 h1 with⟨e1,q1,q2,hp⟩|⟨_,hp⟩
     ·rcases cY k2 j2 c2 h2 with⟨e2,q3,q4,cd⟩|⟨_,cd⟩
      ·have mQ:j1 - off≠j2 - off:=fun hh=>aR (by rw[e1,e2,show j1=j2 by omega]);exact a4.z6 _ _ c1 c2 b mQ hp cd hb
      ·exact fun bX=>a4.vp _ c1 n gr .aZ rs xs b hp oT (by simp) hb ⟨k2,j2,c2,cd,bX⟩
     ·rcases cY k2 j2 c2 h2 with⟨e2,q3,q4,cd⟩|⟨_,cd⟩
      ·exact fun bX=>a4.vp _ c2 n gr .aZ rs xs b cd oT (by simp) bX ⟨k1,j1,c1,hp,hb⟩
      ·exact eR.2.2 k1 j1 c1 k2 j2 c2 b hp cd aR hb
    ·rcases rb b hb with h1|⟨i,c,hi,h1⟩
     ·exact(eR.1 b h1).1
     ·exact VN i c b hi h1
    ·rcases rb b hb with h1|⟨i,c,hi,h1⟩
     ·exact H0.ja n q gr .aZ rs xs cv mo bu aM oT hq (by simp) nv (zaW iJ) b h1
     ·exact a4.vp i c q cv mo bu aM b hi hq nv h1
 have Hn:HR B E w2 ⟨Im',aX G.g n p'⟩ (aX σ1.h n (some (.row gr m' rs (xs.set k (dM e off cs))))) σ.used []:=by
  refine H0.put (p:=p') (fun b hb aR=>fV b (aR rfl)) (by show w.heap.size<=w2.heap.size;rw[wR];exact zap _) (fun b _ hb=>zg b hb) (fun _ h=>h) Bk
   (fun _=>⟨y7,xx,by show _<w2.heap.size;rw[wR];exact y8⟩)
   (fun _ q hq h0 pS=>(H0.inj q n h0 c8 hq pS bI)) (fun _ q cv bu aM hq h0 b hb=>H0.live q cv bu aM h0 b hb n c8 bI) (fun cs c q hb=>by cases hb) K2 ?_ ?_ ?_ (fun gr m sz xs _ _ i pc b hi=>by simp at hi) ?_
  ·refine⟨hr.pos,?_,(fun hl=>by cases hl),fun _=>⟨zg _ l1,f9,by show((G.g n).px.set k Hw).length<=_;simpa using l3⟩,fun _ hgr=>?_,?_⟩
   ·show xs.set k (dM e off cs)=((G.g n).px.set k Hw).map _;rw[List.map_set,<-hr.er];congr 1;show dM e off cs=(dM pe off cH).map PC.er;rw[HW,Bg,a1]
   ·obtain⟨r2,mN,e',r3,r4⟩:=hr.room bI hgr;rw[hg] at r3;injection r3 with r3;injection r3 with r3 _ _;subst r3;obtain⟨aov,c1,c2⟩:=Sc (vs:=us) (o:=(G.g n).o+k*rs+off) hg jE;exact⟨r2,aov,et,c1,by rw[c2];exact r4⟩
   ·show MJ B E w2 ⟨Im',_⟩ px' m';by_cases lM:m'=.aV
    ·rw[lM];intro b hb;rcases rb b hb with h1|⟨i,c,hi,h1⟩
     ·have eR:=hr.mode;rcases jm with⟨_,h2,_⟩|⟨hm,_⟩
      ·rw[lM] at h2;cases h2
      ·cases m with
       |aV=>exact eR b h1
       |aZ=>exact(eR.1 b h1).1
       |live=>exact absurd rfl hm
     ·exact VN i c b hi h1
    ·obtain⟨o1,o2,o3,o4,o5⟩:=VM lM;cases m' with
     |aV=>exact absurd rfl lM
     |aZ=>exact⟨fun b hb=>⟨o3 rfl b hb,zg b (o1 b hb).1,(o1 b hb).2⟩,o2⟩
     |live=>
      refine⟨fun b hb=>⟨?_,zg b (o1 b hb).1,(o1 b hb).2⟩,o2⟩;have eR:=hr.mode;rcases jm with⟨hm,_,_⟩|⟨hm,cQ⟩
      ·subst hm;exact(eR.1 b (o4 rfl b hb)).1
      ·cases ow
       ·simp at cQ
       ·simp at cQ;exact absurd cQ.symm hm
  ·intro cv m2 bu aM hb lM q F7 mo pi mb iJ hq nv b eI;injection hb with _ hb _ _;subst hb;exact(VM lM).2.2.2.2 q F7 mo pi mb iJ hq nv b eI
  ·intro cv bu aM hb b eI;injection hb with _ hb _ _;subst hb;have jG:=(VM (by simp)).2.2.2.1 rfl b eI;have hm:m=.live:=by
    rcases jm with⟨hm,_,_⟩|⟨hm,cQ⟩
    ·exact hm
    ·cases ow
     ·simp at cQ
     ·simp at cQ;exact absurd cQ.symm hm
   subst hm;exact⟨fun _=>H0.live n gr rs xs oT b jG n c8 bI,fun q iJ hq Gx=>H0.live n gr rs xs oT b jG q hq Gx⟩
  ·intro _ _ b hb;obtain⟨q,cv,mo,bu,aM,hq,h0,eI⟩:=hb;exact H0.AP c8 bI h0 eI
 refine⟨⟨Im',aX G.g n p'⟩,?_⟩;exact r.step (σ':=σ1.fK n (.row gr m' rs (xs.set k (dM e off cs)))) a6 (fun q hq=>by show σ1.used q=true;rw[a7];exact hq)
  (cr.trans (u2:=fun n=>σ.used n=true) (fun _ h=>h) a5 K2) (by show HR B E w2 _ (aX σ1.h n _) σ1.used [];rw[a7];exact Hn) (r.fr.one xx (fun b hb aR=>fV b aR) (by show w.heap.size<=w2.heap.size;rw[wR];exact zap _) (LR hg jE) rfl rfl rfl)
end
section
variable {B:Nat} {E:Ex} {w0 w w':World} {G G':Gh} {h h':Nat->Option aK} {used used':Nat->Bool} {tk:List PC} {N:Nat}
variable {P:Program} {o:Oper} {a:Act} {σ σ':St} {Q:Exit->Act->World->Prop}
theorem RA.c {x:C} {v:Value} (hv:RA w G h (.one (.c x)) v):∃pc:PC,pc.er=x/\pc.val=v/\Good w pc/\∀b,bR b pc->G.Im b:=(hv.kO (by simp)).1
theorem RA.GP {k:IntKind} {n:Int} {v:Value} (hv:RA w G h (.one (.c (.int k n))) v):v=.int k n:=by
 obtain⟨pc,h1,h2,_⟩:=hv.c;cases pc<;>simp[PC.er] at h1
 obtain⟨rfl,rfl⟩:=h1;exact h2.symm
theorem RA.Fz {b:Bool} {v:Value} (hv:RA w G h (.one (.c (.bool b))) v):v=.bool b:=by
 obtain⟨pc,h1,h2,_⟩:=hv.c;cases pc<;>simp[PC.er] at h1
 subst h1;exact h2.symm
theorem RA.of_int (k:IntKind) (n:Int):RA w G h (.one (.c (.int k n))) (.int k n):=RA.jP rfl ⟨.int k n,rfl,rfl,.int _ _,fun b hb=>by cases hb⟩
theorem RA.of_bool (b:Bool):RA w G h (.one (.c (.bool b))) (.bool b):=RA.jP rfl ⟨.bool b,rfl,rfl,.bool _,fun b hb=>by cases hb⟩
theorem x5 {x:C} {m:Nat}:¬(aA.one (.c x)).ref m:=fun h=>h
theorem lK (r:R B E w0 N σ a w G) {x:aA} {v:Value} (c9:(execOp a.eval o).run P w=.ok (.value v) w) (hv:RA w G σ.h x v) (hr:∀m,x.ref m->σ.used m=true) (hN:∀n,o.dst=some n->n<N):
  o.wp P a w (Nx B E w0 N (σ.put o.dst x)) Q:=Ci c9 ⟨G,r.put hv hr hN⟩
theorem adw (r:R B E w0 N σ a w G) {x:Operand} {m:MO} (ho:o.op=.move x\/o.op=.assign x) (hN:∀n,o.dst=some n->n<N) (hm:df x m=true):
  o.wp P a w (Nx B E w0 N (σ.put o.dst (σ.ev m))) Q:=by
 obtain⟨h1,h2⟩:=r.ev hm;refine lK r ?_ h1 h2 hN;rcases ho with ho|ho<;>simp[execOp,ho]
theorem apu (r:R B E w0 N σ a w G) {c x y:Operand} {mc mx my:MO} {b:Bool} (ho:o.op=.pick c x y) (hN:∀n,o.dst=some n->n<N) (hc:df c mc=true) (hx:df x mx=true) (hy:df y my=true)
  (hb:σ.ev mc=.one (.c (.bool b))):o.wp P a w (Nx B E w0 N (σ.put o.dst (if b=true then σ.ev mx else σ.ev my))) Q:=by
 obtain⟨h1,_⟩:=r.ev hc;rw[hb] at h1;have hv:=h1.Fz;obtain⟨x1,x2⟩:=r.ev hx;obtain⟨y1,y2⟩:=r.ev hy;refine lK r (v:=if b=true then a.eval x else a.eval y) ?_ ?_ ?_ hN
 ·simp only[execOp,ho,hv,asBool];cases b<;>simp
 ·cases b
  ·exact y1
  ·exact x1
 ·cases b
  ·exact y2
  ·exact x2
theorem aBm {op:BinOp} {k:IntKind} {n m:Int} {c:C} {t:TypeId} (hs:BinOp.DM op=false) (hx:Fy op k n m=some c):∃v,(binOp op t (.int k n) (.int k m)).run P w=.ok v w/\RA w G h (.one (.c c)) v:=by
 cases op with
 |add=>injection hx with hx;subst hx;exact⟨_,by simp[binOp,Op.intArith],RA.of_int _ _⟩
 |sub=>injection hx with hx;subst hx;exact⟨_,by simp[binOp,Op.intArith],RA.of_int _ _⟩
 |mul=>injection hx with hx;subst hx;exact⟨_,by simp[binOp,Op.intArith],RA.of_int _ _⟩
 |and=>injection hx with hx;subst hx;exact⟨_,by simp[binOp,intBits_and],RA.of_int _ _⟩
 |or=>injection hx with hx;subst hx;exact⟨_,by simp[binOp,intBits_or],RA.of_int _ _⟩
 |xor=>injection hx with hx;subst hx;exact⟨_,by simp[binOp,intBits_xor],RA.of_int _ _⟩
 |eql=>injection hx with hx;subst hx;exact⟨_,by simp[binOp,Op.intCmp],RA.of_bool _⟩
 |neq=>injection hx with hx;subst hx;exact⟨_,by simp[binOp,Op.intCmp],RA.of_bool _⟩
 |lss=>injection hx with hx;subst hx;exact⟨_,by simp[binOp,Op.intCmp],RA.of_bool _⟩
 |leq=>injection hx with hx;subst hx;exact⟨_,by simp[binOp,Op.intCmp],RA.of_bool _⟩
 |gtr=>injection hx with hx;subst hx;exact⟨_,by simp[binOp,Op.intCmp],RA.of_bool _⟩
 |geq=>injection hx with hx;subst hx;exact⟨_,by simp[binOp,Op.intCmp],RA.of_bool _⟩
 |quo=>
  simp only[Fy] at hx;split at hx
  ·cases hx
  ·rename_i h0;injection hx with hx;subst hx;exact⟨_,by simp[binOp,Op.intDiv,h0],RA.of_int _ _⟩
 |rem=>
  simp only[Fy] at hx;split at hx
  ·cases hx
  ·rename_i h0;injection hx with hx;subst hx;exact⟨_,by simp[binOp,Op.intDiv,h0],RA.of_int _ _⟩
 |shl=>simp[BinOp.DM] at hs
 |shr=>simp[BinOp.DM] at hs
 |andNot=>cases hx
theorem aBq {op:BinOp} {k k':IntKind} {n m:Int} {c:C} {t:TypeId} (hs:BinOp.DM op=true) (hx:Li op k n m=some c):∃v,(binOp op t (.int k n) (.int k' m)).run P w=.ok v w/\RA w G h (.one (.c c)) v:=by
 unfold Li at hx;split at hx
 ·cases hx
 ·rename_i h0;cases op<;>simp[BinOp.DM] at hs
  ·injection hx with hx;subst hx;exact⟨_,by simp[binOp,Op.shift,h0],RA.of_int _ _⟩
  ·injection hx with hx;subst hx;have hp:(0:Int)<=2^min m.toNat k.bits:=Int.le_of_lt (Int.pow_pos (by decide));exact⟨_,by simp[binOp,Op.shift,h0,Int.fdiv_eq_ediv_of_nonneg _ hp],RA.of_int _ _⟩
theorem ajN (op:BinOp) (t:TypeId) (x y:Operand) (k k':IntKind) (n m:Int):(eqGuard op t x y (.int k n) (.int k' m)).run P w=.ok () w:=by
 cases op<;>simp[eqGuard]
theorem ajM (op:BinOp) (t:TypeId) (x y:Operand) (n m:Bool):(eqGuard op t x y (.bool n) (.bool m)).run P w=.ok () w:=by
 cases op<;>simp[eqGuard]
theorem ao5 (r:R B E w0 N σ a w G) {op:BinOp} {t t':TypeId} {x y:Operand} {mx my:MO} {c:C} (ho:o.op=.binOp op t x y t') (hN:∀n,o.dst=some n->n<N) (hx:df x mx=true) (hy:df y my=true)
  (hb:AA op (σ.ev mx) (σ.ev my)=some c):o.wp P a w (Nx B E w0 N (σ.put o.dst (.one (.c c)))) Q:=by
 obtain⟨x1,_⟩:=r.ev hx;obtain⟨y1,_⟩:=r.ev hy;unfold AA at hb;split at hb
 ·rename_i k n k' m e1 e2;rw[e1] at x1;rw[e2] at y1;have nC:=x1.GP;have v8:=y1.GP;split at hb
  ·rename_i hs;obtain⟨v,h1,h2⟩:=aBq (P:=P) (w:=w) (G:=G) (h:=σ.h) (k':=k') (t:=t) hs hb;exact lK r (by simp only[execOp,ho,nC,v8];simp[ajN,h1]) h2 (fun q hq=>absurd hq x5) hN
  ·rename_i hs;split at hb
   ·rename_i hk;subst hk;obtain⟨v,h1,h2⟩:=aBm (P:=P) (w:=w) (G:=G) (h:=σ.h) (t:=t) (by simpa using hs) hb;exact lK r (by simp only[execOp,ho,nC,v8];simp[ajN,h1]) h2 (fun q hq=>absurd hq x5) hN
   ·cases hb
 ·cases hb
theorem ao6 (r:R B E w0 N σ a w G) {op:BinOp} {t t':TypeId} {x y:Operand} {mx my:MO} {c:C} (ho:o.op=.binOp op t x y t') (hN:∀n,o.dst=some n->n<N) (hx:df x mx=true) (hy:df y my=true)
  (ht:P.underlying t=some .bool) (hb:Fx op (σ.ev mx) (σ.ev my)=some c):o.wp P a w (Nx B E w0 N (σ.put o.dst (.one (.c c)))) Q:=by
 obtain⟨x1,_⟩:=r.ev hx;obtain⟨y1,_⟩:=r.ev hy;unfold Fx at hb;split at hb
 ·rename_i n m e1 e2;rw[e1] at x1;rw[e2] at y1;have nC:=x1.Fz;have v8:=y1.Fz;have gw:(Op.equal t (.bool n) (.bool m)).run P w=.ok (n==m) w:=run_equal_bool w t n m ht;split at hb
  ·injection hb with hb;subst hb;exact lK r (by simp only[execOp,ho,nC,v8];simp[ajM,binOp,gw]) (RA.of_bool _) (fun q hq=>absurd hq x5) hN
  ·injection hb with hb;subst hb;exact lK r (by simp only[execOp,ho,nC,v8];simp[ajM,binOp,gw,bne]) (RA.of_bool _) (fun q hq=>absurd hq x5) hN
  ·cases hb
 ·cases hb
theorem apy (r:R B E w0 N σ a w G) {op:UnOp} {t:TypeId} {x:Operand} {mx:MO} {c:C} (ho:o.op=.unOp op t x) (hN:∀n,o.dst=some n->n<N) (hx:df x mx=true)
  (hb:Ie op (σ.ev mx)=some c):o.wp P a w (Nx B E w0 N (σ.put o.dst (.one (.c c)))) Q:=by
 obtain⟨x1,_⟩:=r.ev hx;unfold Ie at hb;split at hb
 ·rename_i n e1;rw[e1] at x1;have nC:=x1.Fz;split at hb
  ·injection hb with hb;subst hb;exact lK r (by simp only[execOp,ho,nC];simp[Op.unary]) (RA.of_bool _) (fun q hq=>absurd hq x5) hN
  ·cases hb
 ·rename_i k n e1;rw[e1] at x1;have nC:=x1.GP;split at hb
  ·injection hb with hb;subst hb;exact lK r (by simp only[execOp,ho,nC];simp[Op.unary,Op.intArith]) (RA.of_int _ _) (fun q hq=>absurd hq x5) hN
  ·cases hb
 ·cases hb
theorem apf (r:R B E w0 N σ a w G) {t u:TypeId} {x:Operand} {mx:MO} {k k':IntKind} {n:Int} {d:TypeDesc} (ho:o.op=.convert t u x) (hN:∀n,o.dst=some n->n<N) (hx:df x mx=true)
  (ht:P.underlying t=some d) (hu:P.underlying u=some (.int k)) (hb:σ.ev mx=.one (.c (.int k' n))):o.wp P a w (Nx B E w0 N (σ.put o.dst (.one (.c (.int k (k.wrap n)))))) Q:=by
 obtain⟨x1,_⟩:=r.ev hx;rw[hb] at x1;have nC:=x1.GP;refine lK r ?_ (RA.of_int _ _) (fun q hq=>absurd hq x5) hN;simp only[execOp,ho,nC];cases d<;>simp[convert,run_underlying ht,run_underlying hu,Conv.intToInt]
def ON (P:Program) (s:TypeId) (f off:Nat):Bool:=
 match P.underlying s with
 |some (.struct AL)=>match AL[f]? with
  |some fd=>(fd.offset==off)&&(match P.info? fd.type with|some i=>i.size !=0|none=>false)
  |none=>false
 |_=>false
theorem ajO {s:TypeId} {f off:Nat} (hc:ON P s f off=true) (b o:Nat):(Instr.fieldAt s (.pointer (some (ad b o))) f).run P w=.ok (.pointer (some (ad b (o+off)))) w:=by
 unfold ON at hc;split at hc
 ·rename_i AL hu;split at hc
  ·rename_i fd hf;split at hc
   ·rename_i i hi;simp at hc;obtain⟨rfl,dd⟩:=hc;simp[Instr.fieldAt,run_underlying hu,hf,Instr.sureAddr,fieldPlace,sizeOf,typeInfo,hi,dd,vD]
   ·simp at hc
  ·cases hc
 ·cases hc
theorem adu (r:R B E w0 N σ a w G) {s:TypeId} {f off:Nat} {x:Operand} {mx:MO} {y:aA} (ho:o.op=.fieldAddr s x f) (hN:∀n,o.dst=some n->n<N) (hx:df x mx=true) (hc:ON P s f off=true)
  (hy:(∃n k sz q,σ.ev mx=.one (.ptr n k sz q)/\(σ.h n).isSome=true/\y=.one (.ptr n k sz (q+off)))\/(∃xs q,σ.ev mx=.one (.dR xs q)/\y=.one (.dR xs (q+off)))):
  o.wp P a w (Nx B E w0 N (σ.put o.dst y)) Q:=by
 obtain⟨x1,x2⟩:=r.ev hx;rcases hy with⟨n,k,sz,q,e1,hs,rfl⟩|⟨xs,q,e1,rfl⟩
 ·rw[e1] at x1 x2;have hp:σ.h n≠none:=by intro hh;rw[hh] at hs;cases hs
  obtain⟨h1,h2⟩:=(x1.kO (by simp)).1 hp;refine lK r (v:=.pointer (some (ad (G.g n).b ((G.g n).o+k*sz+q+off)))) ?_ ?_ (fun m hm=>x2 m hm) hN
  ·simp only[execOp,ho,h2];simp[ajO hc]
  ·exact RA.jP rfl fun _=>⟨h1,by rw[zan]⟩
 ·rw[e1] at x1;obtain⟨b,o',pe,p1,p2,p3,p4⟩:=(x1.kO (by simp)).1;refine lK r (v:=.pointer (some (ad b (o'+q+off)))) ?_ ?_ (fun m hm=>absurd hm (by simp[aA.ref,ao.ref,ao.lY])) hN
  ·simp only[execOp,ho,p1];simp[ajO hc]
  ·exact RA.jP rfl ⟨b,o',pe,by rw[zan],p2,p3,p4⟩
theorem adx (r:R B E w0 N σ a w G) {x:Operand} {mx:MO} (ho:o.op=.nilCheck x) (hN:∀n,o.dst=some n->n<N) (hx:df x mx=true)
  (hy:(∃n k sz q,σ.ev mx=.one (.ptr n k sz q)/\(σ.h n).isSome=true)\/(∃xs q,σ.ev mx=.one (.dR xs q))):
  o.wp P a w (Nx B E w0 N (σ.put o.dst (σ.ev mx))) Q:=by
 obtain⟨x1,x2⟩:=r.ev hx;have hp:∃ad,a.eval x=.pointer (some ad):=by
  rcases hy with⟨n,k,sz,q,e1,hs⟩|⟨xs,q,e1⟩
  ·rw[e1] at x1;have hp:σ.h n≠none:=by intro hh;rw[hh] at hs;cases hs
   exact⟨_,((x1.kO (by simp)).1 hp).2⟩
  ·rw[e1] at x1;obtain⟨b,o',pe,p1,_⟩:=(x1.kO (by simp)).1;exact⟨_,p1⟩
 obtain⟨adr,hp⟩:=hp;exact lK r (v:=a.eval x) (by simp only[execOp,ho,hp];simp) x1 x2 hN
theorem apl (r:R B E w0 N σ a w G) {x:Operand} {mx:MO} {i:Nat} {xs:List (Bool×List ao)} {ag:Bool} {cs:List ao} (ho:o.op=.extract x i) (hN:∀n,o.dst=some n->n<N) (hx:df x mx=true)
  (h1:σ.ev mx=.cF xs) (h2:xs[i]? =some (ag,cs)) (h3:ag=false->∃c,cs=[c]):o.wp P a w (Nx B E w0 N (σ.put o.dst (qN ag cs))) Q:=by
 obtain⟨x1,x2⟩:=r.ev hx;rw[h1] at x1 x2;obtain⟨vs,e,hl,hv⟩:=x1;have hi:i<vs.length:=by rw[hl];exact(zab.1 h2).1
 have V0:vs[i]? =some vs[i]:=zac hi;have hrv:=hv i _ _ h2 V0;refine lK r (v:=vs[i]) ?_ ?_ (fun m hm=>?_) hN
 ·simp only[execOp,ho,e];simp[Instr.extract,hi]
 ·cases ag
  ·obtain⟨c,rfl⟩:=h3 rfl;exact .inr hrv
  ·exact hrv
 ·cases ag
  ·obtain⟨c,rfl⟩:=h3 rfl;exact x2 m ⟨_,zaa h2,c,by simp,hm⟩
  ·obtain⟨c,hc,hm⟩:=hm;exact x2 m ⟨_,zaa h2,c,hc,hm⟩
theorem app (r:R B E w0 N σ a w G) {mx':Bool} {x y:Operand} {mx my:MO} {k k':IntKind} {n m:Int} {ts:Array TypeId} (ho:o.op=.call {callee:=.builtin (if mx'=true then .max else .min),args:=#[x,y],argTypes:=ts})
  (hN:∀n,o.dst=some n->n<N) (hx:df x mx=true) (hy:df y my=true) (h1:σ.ev mx=.one (.c (.int k n))) (h2:σ.ev my=.one (.c (.int k' m))):
  o.wp P a w (Nx B E w0 N (σ.put o.dst (.one (.c (.int k (if mx'=true then(if n<m then m else n) else(if m<n then m else n))))))) Q:=by
 obtain⟨x1,_⟩:=r.ev hx;obtain⟨y1,_⟩:=r.ev hy;rw[h1] at x1;rw[h2] at y1;have nC:=x1.GP;have v8:=y1.GP;refine lK r ?_ (RA.of_int _ _) (fun q hq=>absurd hq x5) hN;cases mx'
 ·simp[execOp,ho,resolve,invoke,builtin,Builtin.min_,nC,v8,Builtin.min2]
 ·simp[execOp,ho,resolve,invoke,builtin,Builtin.max_,nC,v8,Builtin.max2]
end
theorem Az {α:Type} {px py:List (List α)} {k j:Nat} {c:α} (h:At (px++py) k j c):(k<px.length/\At px k j c)\/(px.length<=k/\At py (k - px.length) j c):=by
 obtain⟨e,he,hj⟩:=h;rcases zbl k px.length with hk|hk
 ·rw[zaf hk] at he;exact .inl ⟨hk,e,he,hj⟩
 ·rw[zag hk] at he;exact .inr ⟨hk,e,he,hj⟩
theorem zO {b:Nat} {px py:List (List PC)} (h:bY b (px++py)):bY b px\/bY b py:=by
 obtain⟨k,j,c,hk,hb⟩:=h;rcases Az hk with⟨_,h1⟩|⟨_,h1⟩
 ·exact .inl ⟨_,_,_,h1,hb⟩
 ·exact .inr ⟨_,_,_,h1,hb⟩
theorem Rc {px py:List (List PC)} (h1:kU px) (h2:kU py) (h3:∀b,bY b px->¬bY b py):kU (px++py):=by
 refine⟨fun k j c hk=>?_,fun k j c k' j' c' b hk dg aR hb bX=>?_⟩
 ·rcases Az hk with⟨_,h⟩|⟨_,h⟩
  ·exact h1.1 _ _ _ h
  ·exact h2.1 _ _ _ h
 ·rcases Az hk with⟨q,h⟩|⟨q,h⟩<;>rcases Az dg with⟨q',h'⟩|⟨q',h'⟩
  ·exact h1.2 _ _ _ _ _ _ b h h' aR hb bX
  ·exact h3 b ⟨_,_,_,h,hb⟩ ⟨_,_,_,h',bX⟩
  ·exact h3 b ⟨_,_,_,h',bX⟩ ⟨_,_,_,h,hb⟩
  ·refine h2.2 _ _ _ _ _ _ b h h' (fun e=>aR ?_) hb bX;injection e with e1 e2;rw[show k=k' by omega,e2]
section
variable {B:Nat} {E:Ex} {w0 w w':World} {G G':Gh} {h h':Nat->Option aK} {used used':Nat->Bool} {tk:List PC} {N:Nat}
variable {P:Program} {o:Oper} {a:Act} {σ σ':St} {Q:Exit->Act->World->Prop}
theorem HH {py:List (List PC)} (hs:jQ (py.map fun e=>e.map PC.er)=true) (b:Nat):¬bY b py:=by
 rintro⟨k,j,c,⟨e,he,hj⟩,hb⟩;have h1:e.map PC.er∈py.map fun e=>e.map PC.er:=zaJ (f:=fun e=>e.map PC.er) (zaa he);have h2:=zam.1 hs _ h1;have h3:=zam.1 h2 c.er (zaJ (zaa hj));exact(Sep.o8 (pc:=c) h3).2 b hb
structure qj (B:Nat) (E:Ex) (w:World) (G:Gh) (h:Nat->Option aK) (sz:Nat) (m:Mode) (px:List (List PC)):Prop where
 len:∀e∈px,e.length=sz
 gF:∀k j c,At px k j c->Good w c
 mode:MJ B E w G px m
 ja:m≠ .aV->∀n gr m' bu aM,h n=some (.row gr m' bu aM)->m'≠ .aV->∀b,bY b px->¬bY b (G.g n).px
 live:m=.live->∀b,bY b px->∀n,h n≠none->(G.g n).nl=false->b≠(G.g n).b
theorem qj.aca {m:Mode} {sz:Nat} {px py:List (List PC)} (F:qj B E w G h sz m px) (hl:∀e∈py,e.length=sz) (hg:∀k j c,At py k j c->Good w c) (dE:∀b,¬bY b py):qj B E w G h sz m (px++py):=by
 have jG:∀b,bY b (px++py)->bY b px:=fun b hb=>(zO hb).resolve_right (dE b);refine⟨fun e he=>(zau.1 he).elim (F.len e) (hl e),fun k j c hk=>?_,?_,fun hm n gr m' bu aM hn cQ b hb=>F.ja hm n gr m' bu aM hn cQ b (jG b hb),fun hm b hb=>F.live hm b (jG b hb)⟩
 ·rcases Az hk with⟨_,h⟩|⟨_,h⟩
  ·exact F.gF _ _ _ h
  ·exact hg _ _ _ h
 ·have oh:kU py:=⟨fun k j c hk=>Sep.KM (fun b hb=>dE b ⟨k,j,c,hk,hb⟩) (hg k j c hk),fun k j c k' j' c' b hk _ _ hb=>absurd ⟨k,j,c,hk,hb⟩ (dE b)⟩;have hm:=F.mode;cases m with
  |aV=>exact fun b hb=>hm b (jG b hb)
  |aZ=>exact⟨fun b hb=>hm.1 b (jG b hb),Rc hm.2 oh (fun b _=>dE b)⟩
  |live=>exact⟨fun b hb=>hm.1 b (jG b hb),Rc hm.2 oh (fun b _=>dE b)⟩
theorem qj.aiV (H:HR B E w G h used []) {n:Nat} {gr:Bool} {m:Mode} {sz:Nat} {xs:List (List C)} (hn:h n=some (.row gr m sz xs)):qj B E w G (aX h n none) sz m (G.g n).px:=by
 have hr:=H.row n gr m sz xs hn;have bI:(G.g n).px≠[]->(G.g n).nl=false:=fun aR=>by
  cases hq:(G.g n).nl with
  |false=>rfl
  |true=>exact absurd (hr.nl hq).1 aR
 refine⟨fun e he=>(hr.gd (bI (za9 he))).2.1.1 e he,fun k j c hk=>?_,hr.mode,fun hm q cv m' bu aM hq cQ b hb=>?_,fun hm b hb q hq hl=>?_⟩
 ·have aR:(G.g n).px≠[]:=by obtain⟨e,he,_⟩:=hk;exact za9 (zaa he)
  exact(hr.gd (bI aR)).2.1.2.2 k j c hk
 ·obtain⟨q1,q2⟩:=vJ hq;exact H.ja n q gr m sz xs cv m' bu aM hn q1 hm cQ (zaW q2) b hb
 ·subst hm;obtain⟨q1,q2⟩:=IZ hq;exact H.live n gr sz xs hn b hb q q1 hl
theorem qj.del {m:Mode} {sz:Nat} {px:List (List PC)} (F:qj B E w G h sz m px) (n:Nat):qj B E w G (aX h n none) sz m px:=
 ⟨F.len,F.gF,F.mode,fun hm q gr m' bu aM hq cQ=>F.ja hm q gr m' bu aM (vJ hq).1 cQ,fun hm b hb q hq=>F.live hm b hb q (IZ hq).1⟩
theorem qj.abe {m:Mode} {sz:Nat} {px:List (List PC)} (F:qj B E w G h sz m px) (hm:m≠ .live):∀b,bY b px->G.Im b:=by
 intro b hb;have:=F.mode;cases m with
 |aV=>exact this b hb
 |aZ=>exact(this.1 b hb).1
 |live=>exact absurd rfl hm
def CG (B:Nat) (E:Ex) (w:World) (G:Gh) (h:Nat->Option aK) (sz:Nat) (m:Mode) (px:List (List PC)) (v:Value):Prop:=
 (∃a,v=.slice a 0 0/\px=[])\/
 ∃b o cap cur e,v=.slice (some (ad b o)) px.length cap/\w.heap[b]? =some (.cells cur e (0,0))/\cur.size=o+cap*sz/\cap<=maxLen/\px.length<=cap/\sV w b o sz px/\
  sT G h b/\(B<=b\/E b)/\(∀b',bY b' px->b'≠b)
theorem CG.del {m:Mode} {sz:Nat} {px:List (List PC)} {v:Value} (L:CG B E w G h sz m px v) (n:Nat):CG B E w G (aX h n none) sz m px v:=by
 rcases L with h1|⟨b,o,cap,cur,e,a1,a2,a3,a4,a5,a6,⟨l1,l2,l3⟩,a8,a9⟩
 ·exact .inl h1
 ·exact .inr ⟨b,o,cap,cur,e,a1,a2,a3,a4,a5,a6,⟨l1,fun q hq=>l2 q (IZ hq).1,fun q gr m sz xs hq=>l3 q gr m sz xs (vJ hq).1⟩,a8,a9⟩
theorem Up {px:List (List PC)} {sz:Nat} (hl:∀e∈px,e.length=sz):(px.flatten.map PC.val).length=px.length*sz:=by
 induction px with
 |nil=>simp
 |cons e px ih=>
  have:=ih (fun e he=>hl e (by simp[he]));simp only[zaA,zaK,zaF,zaC,zai,this,zay] at*
  rw[hl e (by simp)];omega
theorem Uo {α:Type} {sz:Nat} (dd:0<sz):∀{px:List (List α)} (_:∀e∈px,e.length=sz) {i:Nat} {c:α},px.flatten[i]? =some c->∃k j,At px k j c/\i=k*sz+j
 |[],_,i,c,hi=>by simp at hi
 |e::px,hl,i,c,hi=>by
  have h0:=hl e (by simp);simp only[zaA] at hi;rcases zbl i e.length with cC|JH
  ·rw[zaf cC] at hi;exact⟨0,i,⟨e,rfl,hi⟩,by omega⟩
  ·rw[zag JH] at hi;obtain⟨k,j,⟨e',he,hj⟩,hk⟩:=Uo dd (px:=px) (fun e he=>hl e (by simp[he])) hi;exact⟨k+1,j,⟨e',by simpa using he,hj⟩,by rw[zai];omega⟩
theorem aBl {t ty e e':TypeId} {i:TypeInfo} (ht:P.underlying t=some (.slice e)) (hi:P.info? e=some i)
  (g og B1 Z7:Nat) (cur:Array Value) (hg:w.heap[g]? =some (.cells cur e' (0,0)))
  (a:Addr) (m c:Nat) (lT:List Value) (hl:lT.length=m*i.size) (Bc:∀j u,lT[j]? =some u->w.cell? (a.add j)=some u) (h1:∀u∈lT,u.oneCell'=true)
  (JU:B1+m<=Z7) (jE:og+B1*i.size+lT.length<=cur.size):
  (Builtin.append_ #[t,t] ty #[.slice (some (ad g og)) B1 Z7,.slice (some a) m c]).run P w=.ok (.slice (some (ad g og)) (B1+m) Z7) (jA w g (og+B1*i.size) lT cur):=by
 have hf:=run_firstCells_some (P:=P) w i.size m a m c lT hl Bc;have nA:=run_storeCells_at P g (og+B1*i.size) e' lT 0 cur w hg (by simpa using jE) h1;simp only[zaN] at nA;have ha:(ad g og).add (B1*i.size)=⟨g,og+B1*i.size,none⟩:=by rw[vD];simp[ad]
 simp[Builtin.append_,run_underlying ht,sizeOf,typeInfo,hi,Builtin.lenOf,JU,hf,ha,nA,jA]
theorem aBk (w:World) {t e:TypeId} {i:TypeInfo} {z:Value} {ty:TypeId} {sz by_:Nat} (ht:P.underlying t=some (.slice e)) (hi:P.info? e=some i) (hz:i.zero=some z) (dd:i.size=sz) (mT:0<sz) (rT:i.bytes=by_) (Dg:0<by_)
  {m:Mode} {px:List (List PC)} {v:Value} (lO:∀e∈px,e.length=sz) (L:CG B E w G h sz m px v) {lT:List Value} {k c:Nat} {ya:Option Addr} (bI:lT.length=k*sz)
  (hy:(ya=none/\k=0)\/∃ay,ya=some ay/\∀(j:Nat) (u:Value),lT[j]? =some u->w.cell? (ay.add j)=some u) (h1:∀u∈lT,u.oneCell'=true) (hb:(px.length+k)*by_<=fo):
  (∃a,k=0/\v=.slice a 0 0/\px=[]/\(Builtin.append_ #[t,t] ty #[v,.slice ya k c]).run P w=.ok (.slice a 0 0) w)\/
  (∃b o cap cur e',v=.slice (some (ad b o)) px.length cap/\w.heap[b]? =some (.cells cur e' (0,0))/\cur.size=o+cap*sz/\cap<=maxLen/\px.length+k<=cap/\sV w b o sz px/\sT G h b/\(B<=b\/E b)/\(∀b',bY b' px->b'≠b)/\
   (Builtin.append_ #[t,t] ty #[v,.slice ya k c]).run P w=.ok (.slice (some (ad b o)) (px.length+k) cap) (jA w b (o+px.length*sz) lT cur))\/
  (∃(cap:Nat) (arr:Array Value),px.length+k<=cap/\cap<=maxLen/\arr.size=cap*z.cells.size+(px.length+k)*sz - (px.length+k)*z.cells.size/\(∀(q:Nat) (u:Value),(px.flatten.map PC.val++lT)[q]? =some u->arr[q]? =some u)/\
   (Builtin.append_ #[t,t] ty #[v,.slice ya k c]).run P w=.ok (.slice (some (ad w.heap.size 0)) (px.length+k) cap) (w.drew.alloc (.cells arr e))):=by
 have Dq:px.length+k<=fo:=zaG (zaE _ Dg) hb;have lM:(fo:Nat)=140737488355328:=rfl;have Vf:∀iv,grownCap w (px.length+k) iv e<=maxLen:=fun iv=>grownCap_le_maxLen w _ iv e (by simp only[maxLen];omega);have hol:=Up lO;have yS:∀iv,((px.flatten.map PC.val).toArray++lT.toArray++Builtin.zeroCells z.cells (grownCap w (px.length+k) iv e - (px.length+k))).size=grownCap w (px.length+k) iv e*z.cells.size+(px.length+k)*sz - (px.length+k)*z.cells.size:=by
  intro iv;have JH:=grownCap_ge w (px.length+k) iv e;have h2:(px.length+k)*z.cells.size<=grownCap w (px.length+k) iv e*z.cells.size:=zah _ JH;simp only[zbc,zaQ,size_zeroCells,hol,bI,Nat.sub_mul,zai] at*
  omega
 have oe:∀iv (q:Nat) (u:Value),(px.flatten.map PC.val++lT)[q]? =some u->((px.flatten.map PC.val).toArray++lT.toArray++Builtin.zeroCells z.cells (grownCap w (px.length+k) iv e - (px.length+k)))[q]? =some u:=by
  intro iv q u hq;have Gx:=(zab.1 hq).1;rw[Array.getElem?_append_left (by simp only[zbc,zaQ];simpa using Gx)];simpa using hq
 rcases L with⟨a,rfl,rfl⟩|⟨b,o,cap,cur,e',rfl,a2,a3,a4,a5,a6,a7,a8,a9⟩
 ·by_cases hk:k=0
  ·subst hk;left;have hn:lT=[]:=zae (by simpa using bI);refine⟨a,rfl,rfl,rfl,?_⟩;cases ya<;>cases a<;>simp[Builtin.append_,run_underlying ht,sizeOf,typeInfo,hi,Builtin.lenOf,Builtin.firstCells,loadCells,loadCellsFrom,storeCells]
  ·rcases hy with⟨_,h0⟩|⟨ay,rfl,Bc⟩
   ·exact absurd h0 hk
   right;right;cases a with
   |none=>
    have hr:=run_append_nil (P:=P) w t ty e i z ht hi hz ay k c lT (by rw[dd];exact bI) Bc (by omega) (by simp only[zaq,zal] at Dq;omega) (by rw[rT];simp only[zaq,zal] at hb;omega);have h3:=yS 0;have h4:=oe 0;have h5:=Vf 0;simp only[zaq,zal,zbf,zaZ,zax] at h3 h4 h5⊢;exact⟨grownCap w k 0 e,lT.toArray++Builtin.zeroCells z.cells (grownCap w k 0 e - k),grownCap_ge w k 0 e,h5,by simpa using h3,fun q u hq=>by simpa using h4 q u hq,hr⟩
   |some a=>
    have hr:=run_append_grow (P:=P) w t ty e i z ht hi hz a 0 0 [] (by simp) (fun q u hq=>by simp at hq) ay k c lT (by rw[dd];exact bI) Bc (by omega) (by simp only[zaq,zal] at Dq;omega) (growslice_fits (by simp only[zaq,zal] at Dq;omega) (by rw[rT,zal];rw[zaq,zal] at hb;exact hb));have h3:=yS 0;have h4:=oe 0;have h5:=Vf 0;simp only[zaq,zal,zbf,zaZ,zax] at h3 h4 h5 hr⊢;exact⟨_,_,grownCap_ge w k 0 e,h5,by simpa using h3,fun q u hq=>by simpa using h4 q u hq,hr⟩
 ·by_cases JU:px.length+k<=cap
  ·right;left;refine⟨b,o,cap,cur,e',rfl,a2,a3,a4,JU,a6,a7,a8,a9,?_⟩;rcases hy with⟨rfl,rfl⟩|⟨ay,rfl,Bc⟩
   ·have hn:lT=[]:=zae (by simpa using bI);subst hn;have asu:jA w b (o+px.length*sz) [] cur=w:=by
     unfold jA;simp only[zbh,zaq,zaN,List.take_append_drop,Array.toArray_toList];exact setRow_self w b cur e' (0,0) a2
    rw[asu];simp[Builtin.append_,run_underlying ht,sizeOf,typeInfo,hi,Builtin.lenOf,Builtin.firstCells,a5,storeCells]
   ·have hr:=aBl (P:=P) (w:=w) (ty:=ty) ht hi b o px.length cap cur a2 ay k c lT (by rw[dd];exact bI) Bc h1 JU (by
     rw[dd,bI,a3,zan,<-zai];exact za5 (zah _ JU) _)
    rw[dd] at hr;exact hr
  ·rcases hy with⟨_,rfl⟩|⟨ay,rfl,Bc⟩
   ·omega
   right;right;have hr:=run_append_grow (P:=P) w t ty e i z ht hi hz (ad b o) px.length cap (px.flatten.map PC.val) (by rw[dd];exact hol) (fun q u hq=>by
    rw[zad] at hq;cases hf:px.flatten[q]? with
    |none=>rw[hf] at hq;cases hq
    |some pc=>
     rw[hf] at hq;simp at hq;subst hq;obtain⟨k',j',qD,rfl⟩:=Uo mT lO hf;rw[vD,<-zan];exact a6.2.1 k' j' pc qD) ay k c lT (by rw[dd];exact bI) Bc (by omega) (by omega) (growslice_fits (by omega) (by rw[rT];exact hb))
   exact⟨_,_,grownCap_ge w _ _ _,Vf _,yS _,oe _,hr⟩
def Ar (w:World) (sz:Nat) (py:List (List PC)) (v:Value):Prop:=
 (∀e∈py,e.length=sz)/\(∀k j c,At py k j c->Good w c)/\
 ∃ya c,v=.slice ya py.length c/\((ya=none/\py.length=0)\/∃ay,ya=some ay/\∀(j:Nat) (u:Value),(py.flatten.map PC.val)[j]? =some u->w.cell? (ay.add j)=some u)
theorem Ar.aiU {sz:Nat} {ya:Option Addr} {c:Nat} {py:List (List PC)} (hg:Good w (.list sz ya c py)):Ar w sz py (.slice ya py.length c):=by
 cases hg with
 |nil _ _ _ h=>
  refine⟨by simp,by rintro k j c ⟨e,he,_⟩;simp at he,ya,c,rfl,?_⟩;cases ya with
  |none=>exact .inl ⟨rfl,rfl⟩
  |some ay=>exact .inr ⟨ay,rfl,by simp⟩
 |cons _ b o _ _ h1 h2 h3 h4 h5 h6=>
  refine⟨h4,h6,_,c,rfl,.inr ⟨_,rfl,fun j u hj=>?_⟩⟩;rw[zad] at hj;cases hf:py.flatten[j]? with
  |none=>rw[hf] at hj;cases hj
  |some pc=>
   rw[hf] at hj;simp at hj;subst hj;obtain⟨k',j',qD,rfl⟩:=Uo h3 h4 hf;rw[vD,<-zan];exact h5 k' j' pc qD
theorem R.anz (r:R B E w0 N σ a w G) {σ2:St} (Di:σ2.env=σ.env) (pU:σ2.used=σ.used) (H:HR B E w G σ2.h σ.used []) (K:cr w G σ.h (fun n=>σ.used n=true) w G σ2.h)
  {n:Nat} {sz by_:Nat} {m m2:Mode} {px py:List (List PC)} {v yv:Value} (hn:σ.used n=false) (mT:0<sz) (F:qj B E w G σ2.h sz m2 (px++py)) (lO:∀e∈px,e.length=sz) (L:CG B E w G σ2.h sz m px v) (Ry:Ar w sz py yv)
  (VK:∀b,bY b py->∀b' o cap,0<cap->v=.slice (some (ad b' o)) px.length cap->sT G σ2.h b'->b≠b')
  {t e:TypeId} {i:TypeInfo} {z:Value} {ty:TypeId} (ht:P.underlying t=some (.slice e)) (hi:P.info? e=some i) (hz:i.zero=some z) (dd:i.size=sz) (rT:i.bytes=by_) (Dg:0<by_) (Du:z.cells.size=sz)
  (hb:(px.length+py.length)*by_<=fo):
  ∃u w' G',(Builtin.append_ #[t,t] ty #[v,yv]).run P w=.ok u w'/\
   R B E w0 N {σ2 with h:=aX σ2.h n (some (.row true m2 sz ((px++py).map fun e=>e.map PC.er))),used:=aX σ2.used n true} a w' G'/\
   RA w' G' (aX σ2.h n (some (.row true m2 sz ((px++py).map fun e=>e.map PC.er)))) (.one (.sl n sz 0 (px.length+py.length))) u:=by
 obtain⟨r1,r2,ya,c,rfl,r3⟩:=Ry;have bI:(py.flatten.map PC.val).length=py.length*sz:=Up r1;have h1:∀u∈py.flatten.map PC.val,u.oneCell'=true:=fun u hu=>by obtain⟨pc,_,rfl⟩:=zaz.1 hu;exact PC.qg pc
 have hB:=r.fr.size;have afB:(px++py).length=px.length+py.length:=by simp
 have Vm:σ2.h n=none:=by
  cases hh:σ2.h n with
  |none=>rfl
  |some b=>have:=H.lI n (by rw[hh];simp);rw[hn] at this;cases this
 have ne:∀q,σ.used q=true->q≠n:=fun q hq e=>by subst e;rw[hn] at hq;cases hq
 have aR:∀q,σ2.h q≠none->q≠n:=fun q hq e=>by subst e;exact hq Vm
 rcases aBk (P:=P) w (ty:=ty) ht hi hz dd mT rT Dg lO L bI r3 h1 hb with⟨a0,k0,rfl,rfl,c9⟩|⟨b,ob,cap,cur,e',rfl,b2,b3,b4,b5,b6,b7,b8,b9,c9⟩|⟨cap,arr,c1,c2,c3,c4,c9⟩
 ·
  have hpy:py=[]:=zae k0;subst hpy;refine⟨_,w,⟨G.Im,aX G.g n ⟨true,0,0,0,[],a0⟩⟩,c9,?_,?_⟩
  ·refine r.step (σ':=_) Di (fun q hq=>by show aX σ2.used n true q=true;rw[pU];exact wQ n q hq) (cr.trans (u2:=fun n=>σ.used n=true) (fun _ h=>h) K (cr.insert H (blk:=.row true m2 sz []) (p:=⟨true,0,0,0,[],a0⟩) hn (fun _ _=>rfl))) ?_ r.fr;show HR B E w _ (aX σ2.h n (some (.row true m2 sz []))) (aX σ2.used n true) [];rw[pU];have dE:∀b,¬bY b ([]:List (List PC)):=by rintro b ⟨k,j,c,⟨e,he,_⟩,_⟩;simp at he
   refine H.insert (p:=⟨true,0,0,0,[],a0⟩) hn (fun _ _=>rfl) (zap _) (fun h=>by cases h) (fun cs c m hb=>by cases hb) ⟨mT,rfl,fun _=>⟨rfl,fun _=>rfl⟩,(fun h=>by cases h),(fun h=>by cases h),?_⟩
    (fun gr m sz xs _ _ n' cv m' bu aM _ _ b hb=>absurd hb (dE b)) (fun gr sz xs _ b hb=>absurd hb (dE b)) (fun gr m sz xs _ _ i pc b hi=>by simp at hi)
   have hm:=F.mode;simp only[zbh] at hm;exact hm
  ·refine RA.jP rfl fun _=>.inl ?_;simp[cT]
 ·
  have PV:(ob+px.length*sz)+(py.flatten.map PC.val).length<=cur.size:=by rw[bI,b3,zan,<-zai];exact za5 (zah _ b5) _
  let w2:=jA w b (ob+px.length*sz) (py.flatten.map PC.val) cur;have fV:∀x,x≠b->w2.heap[x]? =w.heap[x]? :=fun x hx=>Ij x hx;have PE:∀x,G.Im x->x≠b:=fun x hx he=>b7.1 (he▸hx);have zg:∀x,fL w x->fL w2 x:=fun x hx=>Sd b2 PV x hx;have afD:∀x,bY x (px++py)->x≠b:=fun x hx=>(zO hx).elim (b9 x) (fun h=>VK x h b ob cap (by obtain⟨k,j,c,⟨e,he,_⟩,_⟩:=h;have:=(zab.1 he).1;omega) rfl b7);let p:PB:=⟨false,b,ob,cap,px++py,none⟩;have K2:cr w G σ2.h (fun n=>σ.used n=true) w2 ⟨G.Im,aX G.g n p⟩ (aX σ2.h n (some (.row true m2 sz ((px++py).map fun e=>e.map PC.er)))):=by
   refine⟨fun _ h=>h,fun x hx o=>lG (fV x (PE x hx)) o,fun q hq h0=>?_,fun q gr bu aM hq h0=>?_⟩
   ·rw[dN _ _ _ _ (ne q hq)] at h0;simp only[dN _ _ _ _ (ne q hq)];exact⟨h0,trivial,trivial,trivial,trivial,trivial⟩
   ·rw[dN _ _ _ _ (ne q hq)] at h0;simp only[dN _ _ _ _ (ne q hq)];exact⟨⟨gr,aM,h0⟩,fun k j pc h1 h2=>⟨pc,h1,rfl,h2⟩⟩
  have arR:b<w.heap.size:=(zaB.1 b2).1;have Hn:HR B E w2 ⟨G.Im,aX G.g n p⟩ (aX σ2.h n (some (.row true m2 sz ((px++py).map fun e=>e.map PC.er)))) (aX σ.used n true) []:=by
   refine H.put (p:=p) (fun x _ hx=>fV x (hx rfl)) (by show w.heap.size<=w2.heap.size;rw[wR];exact zap _) (fun x _ hx=>zg x hx) (fun q hq=>wQ n q hq) (cT _ _ _)
    (fun _=>⟨b7.1,b8,by show b<w2.heap.size;rw[wR];exact arR⟩) (fun _ q hq h0 hl=>b7.2.1 q h0 hl) (fun _ q gr bu aM hq h0 x hx he=>b7.2.2 q gr .live bu aM h0 (by have PP:x=b:=he;rw[<-PP];exact hx))
    (fun cs c q hb=>by cases hb) K2 ?_ ?_ ?_ (fun gr m sz xs _ _ i pc b hi=>by simp at hi) (fun _ _ x hx he=>by obtain⟨q,gr,mo,bu,aM,_,h0,hxF⟩:=hx;exact b7.2.2 q gr mo bu aM h0 (by have PP:x=b:=he;rw[<-PP];exact hxF))
   ·refine⟨mT,rfl,(fun h=>by cases h),fun _=>⟨zg b ⟨cur,e',b2⟩,⟨F.len,fun k j c hk=>?_,fun k j c hk=>?_⟩,by show(px++py).length<=cap;rw[afB];exact b5⟩,fun _ _=>?_,?_⟩
    ·show w2.cell? (ad b (ob+k*sz+j))=some c.val;rw[LQ b2 PV];have hf:=yC F.len hk;rw[za6] at hf;have oR:px.flatten.length=px.length*sz:=by have:=Up lO;rwa[zay] at this
     rcases Az hk with⟨tu,dg⟩|⟨tu,dg⟩
     ·rw[if_neg ?_]
      ·exact b6.2.1 k j c dg
      ·rintro⟨q1,_⟩;have hj:j<sz:=by obtain⟨e1,he,hj⟩:=dg;rw[<-lO e1 (zaa he)];exact(zab.1 hj).1
       have:(k+1)*sz<=px.length*sz:=zah _ tu;rw[zai] at this;omega
     ·have JH:px.length*sz<=k*sz+j:=zaG (zah _ tu) (Nat.le_add_right _ _);have cC:=(zab.1 hf).1;rw[zaF,oR] at cC;rw[zag (by rw[oR];exact JH),oR] at hf;rw[if_pos ⟨by omega,by simp only[zay];omega⟩];rw[zad,show ob+k*sz+j - (ob+px.length*sz)=k*sz+j - px.length*sz by omega,hf];rfl
    ·exact(F.gF k j c hk).congr fun x hx o=>lG (fV x (afD x ⟨k,j,c,hk,hx⟩)) o
    ·obtain⟨mN,q1,q2⟩:=Sc (vs:=py.flatten.map PC.val) (o:=ob+px.length*sz) b2 PV;exact⟨b4,mN,e',q1,by rw[q2,b3]⟩
    ·have hm:=F.mode;cases m2 with
     |aV=>exact hm
     |aZ=>exact⟨fun x hx=>⟨(hm.1 x hx).1,zg x (hm.1 x hx).2.1,(hm.1 x hx).2.2⟩,hm.2⟩
     |live=>exact⟨fun x hx=>⟨(hm.1 x hx).1,zg x (hm.1 x hx).2.1,(hm.1 x hx).2.2⟩,hm.2⟩
   ·intro gr m' bu aM hb lM q cv mo pi mb iJ h0 nv x hx;injection hb with _ hb _ _;subst hb;exact F.ja lM q cv mo pi mb h0 nv x hx
   ·intro gr bu aM hb x hx;injection hb with _ hb _ _;exact⟨fun _=>afD x hx,fun q _ h0 hl=>F.live hb x hx q h0 hl⟩
  refine⟨_,w2,⟨G.Im,aX G.g n p⟩,c9,?_,?_⟩
  ·exact r.step (σ':=_) Di (fun q hq=>by show aX σ2.used n true q=true;rw[pU];exact wQ n q hq) (cr.trans (u2:=fun n=>σ.used n=true) (fun _ h=>h) K K2)
    (by show HR B E w2 _ _ (aX σ2.used n true) [];rw[pU];exact Hn) (r.fr.one b8 (fun x hx J0=>fV x J0) (by show w.heap.size<=w2.heap.size;rw[wR];exact zap _) (LR b2 PV) rfl rfl rfl)
  ·refine RA.jP rfl fun _=>.inr ⟨by simp[cT,p],some (ad b ob),?_,?_,?_⟩
   ·simp[cT,p]
   ·simp[cT,p];exact b5
   ·simp[cT,p]
 ·
  let w1:=w.drew;have hd:∀x:Nat,x<w.heap.size->(w.drew.alloc (.cells arr e)).heap[x]? =w.heap[x]? :=fun x hx=>heap_alloc_old w.drew _ x hx;have H1:HR B E w.drew G σ2.h σ.used []:=H.grow (w':=w.drew) (fun _ _=>rfl) (zap _);have r1:R B E w0 N σ a w.drew G:=r.step (w':=w.drew) rfl (fun _ h=>h) (cr.world (w:=w) (w':=w.drew) (fun _ _=>rfl) _) (r.hr.grow (w':=w.drew) (fun _ _=>rfl) (zap _)) (r.fr.grow (w':=w.drew) (fun _ _=>rfl) (zap _) rfl rfl rfl);have K1:cr w.drew G σ.h (fun n=>σ.used n=true) w.drew G σ2.h:=⟨K.im,fun _ _ _=>rfl,K.name,K.live⟩;have jc:∀k j c,At (px++py) k j c->Good w.drew c:=fun k j c hk=>(F.gF k j c hk).congr fun _ _ _=>rfl;have yS:∀k j c,At (px++py) k j c->arr[k*sz+j]? =some c.val:=fun k j c hk=>by
   have hf:=yC F.len hk;refine c4 _ _ ?_;rw[<-zaK,<-za6,zad,hf];rfl
  have zd:arr.size=cap*sz:=by rw[c3,Du];omega
  have hB2:=r1.fr.size;let p:PB:=⟨false,w.heap.size,0,cap,px++py,none⟩;have hw:∀x:Nat,x<w.drew.heap.size->(w.drew.alloc (.cells arr e)).heap[x]? =w.drew.heap[x]? :=hd;have Hn:HR B E (w.drew.alloc (.cells arr e)) ⟨G.Im,aX G.g n p⟩ (aX σ2.h n (some (.row true m2 sz ((px++py).map fun e=>e.map PC.er)))) (aX σ.used n true) []:=by
   refine H1.insert (p:=p) hn hw (by simp) (fun _=>⟨H1.XC,.inl hB,by simp[p]⟩) (fun cs c m hb=>by cases hb) ?_ ?_ ?_ (fun gr m sz xs _ _ i pc b hi=>by simp at hi)
   ·refine⟨mT,rfl,(fun h=>by cases h),fun _=>⟨fL.alloc _ _ _,⟨F.len,fun k j c hk=>?_,fun k j c hk=>?_⟩,by show(px++py).length<=cap;rw[afB];exact c1⟩,fun _ _=>⟨c2,arr,e,heap_alloc_new w.drew _,(zal _).symm▸zd⟩,?_⟩
    ·show(w.drew.alloc (.cells arr e)).cell? (ad w.drew.heap.size (0+k*sz+j))=some c.val;simp only[zal];unfold ad;rw[World.cell?_alloc_new];exact yS k j c hk
    ·exact(jc k j c hk).congr fun x hx o=>lG (hw x ((jc k j c hk).lt hx)) o
    ·have hm:=F.mode;have hu:∀x,fL w x->fL (w.drew.alloc (.cells arr e)) x:=fun x hx=>hx.congr (hd x hx.lt);cases m2 with
     |aV=>exact hm
     |aZ=>exact⟨fun x hx=>⟨(hm.1 x hx).1,hu x (hm.1 x hx).2.1,(hm.1 x hx).2.2⟩,hm.2⟩
     |live=>exact⟨fun x hx=>⟨(hm.1 x hx).1,hu x (hm.1 x hx).2.1,(hm.1 x hx).2.2⟩,hm.2⟩
   ·intro gr m' bu aM hb lM q cv mo pi mb h0 nv x hx;injection hb with _ hb _ _;subst hb;exact F.ja lM q cv mo pi mb h0 nv x hx
   ·intro gr bu aM hb x hx;injection hb with _ hb _ _;refine⟨fun _=>?_,fun q h0 hl=>F.live hb x hx q h0 hl⟩;obtain⟨k,j,c,hk,hxc⟩:=hx;have:=(F.gF k j c hk).lt hxc;show x≠w.heap.size;omega
  refine⟨_,_,⟨G.Im,aX G.g n p⟩,c9,?_,?_⟩
  ·exact r1.step (σ':=_) Di (fun q hq=>by show aX σ2.used n true q=true;rw[pU];exact wQ n q hq) (cr.trans (u2:=fun n=>σ.used n=true) (fun _ h=>h) K1 (cr.insert H1 hn hw))
    (by show HR B E _ _ _ (aX σ2.used n true) [];rw[pU];exact Hn) (r1.fr.grow hw (by simp) rfl rfl rfl)
  ·refine RA.jP rfl fun _=>.inr ⟨by simp[cT,p],some (ad w.heap.size 0),?_,?_,?_⟩
   ·simp[cT,p]
   ·simp[cT,p];exact c1
   ·simp[cT,p]
theorem avW (r:R B E w0 N σ a w G) {sz:Nat} {x:aA} {v:Value} {xs:List (List C)} {m:Mode} {σ1:St} (hv:RA w G σ.h x v) (hx:ub σ sz x=some (xs,m,σ1)):
  ∃px:List (List PC),xs=px.map (fun e=>e.map PC.er)/\qj B E w G σ1.h sz m px/\CG B E w G σ1.h sz m px v/\HR B E w G σ1.h σ.used []/\cr w G σ.h (fun n=>σ.used n=true) w G σ1.h/\σ1.env=σ.env/\σ1.used=σ.used/\
   (∀n b,σ1.h n=some b->σ.h n=some b):=by
 unfold ub at hx;split at hx
 ·rename_i s;injection hx with hx;injection hx with h1 h2;injection h2 with h2 h3;subst h1 h2 h3;have fH:v=.slice none 0 0:=(hv.kO (by simp)).1;have dE:∀b,¬bY b ([]:List (List PC)):=by rintro b ⟨k,j,c,⟨e,he,_⟩,_⟩;simp at he
  exact⟨[],rfl,⟨by simp,by rintro k j c ⟨e,he,_⟩;simp at he,⟨fun b hb=>absurd hb (dE b),(by rintro k j c ⟨e,he,_⟩;simp at he),(by rintro k j c k' j' c' b ⟨e,he,_⟩;simp at he)⟩,fun _ _ _ _ _ _ _ _ b hb=>absurd hb (dE b),fun _ b hb=>absurd hb (dE b)⟩,
   .inl ⟨none,fH,rfl⟩,r.hr,cr.refl _ _ _ _,rfl,rfl,fun _ _ h=>h⟩
 ·rename_i n s len;split at hx
  ·rename_i m0 rs oL hn;split at hx
   ·rename_i hc;obtain⟨rfl,rfl,rfl⟩:=hc;injection hx with hx;injection hx with h1 h2;injection h2 with h2 h3;subst h1 h2 h3;have H:=r.hr;have c8:σ.h n≠none:=by rw[hn];simp
    have hr:=H.row n true m0 s oL hn;have lv:nh (G.g n) s 0 oL.length v:=(hv.kO (by simp)).1 c8;have ot:oL.length=(G.g n).px.length:=by rw[hr.er];simp
    refine⟨(G.g n).px,hr.er,qj.aiV H hn,?_,H.del n,cr.del n _,rfl,rfl,fun q b hq=>(vJ hq).1⟩;rcases lv with⟨bI,fH,_,_⟩|⟨bI,a',fH,mr,ha⟩
    ·have g2:=(hr.nl bI).2 rfl;exact .inl ⟨(G.g n).na,by rw[fH,g2],(hr.nl bI).1⟩
    ·right;obtain⟨r2,cur,e,r3,r4⟩:=hr.room bI rfl;obtain⟨l1,l2,l3⟩:=hr.gd bI;obtain⟨o1,o2,o3⟩:=H.own n c8 bI;have AX:=ha (.inr rfl);refine⟨(G.g n).b,(G.g n).o,(G.g n).cap,cur,e,?_,r3,r4,r2,l3,l2,⟨o1,fun q hq hl=>?_,fun q gr m' bu aM hq hb=>?_⟩,o2,fun b hb=>H.AP c8 bI hn hb⟩
     ·rw[fH,AX,ot];simp
     ·obtain⟨q1,q2⟩:=IZ hq;exact H.inj q n q1 c8 q2 hl bI
     ·exact H.AP c8 bI (vJ hq).1 hb rfl
   ·cases hx
  ·cases hx
 ·cases hx
theorem aA1 {fl:Bool} {sz:Nat} {x:aA} {v:Value} {ys:List (List C)} {m m2:Mode} {σ1 σ2:St} {px:List (List PC)} (mT:0<sz) (H:HR B E w G σ1.h σ1.used []) (F:qj B E w G σ1.h sz m px) (hv:RA w G σ1.h x v)
  (hx:pB fl σ1 sz m x=some (ys,m2,σ2)):
  ∃py:List (List PC),ys=py.map (fun e=>e.map PC.er)/\Ar w sz py v/\qj B E w G σ2.h sz m2 (px++py)/\HR B E w G σ2.h σ1.used []/\cr w G σ1.h (fun n=>σ1.used n=true) w G σ2.h/\σ2.env=σ1.env/\σ2.used=σ1.used/\
   (∀n b,σ2.h n=some b->σ1.h n=some b)/\(∀b,bY b py->∀b',¬G.Im b'->(∀q gr mo bu aM,σ1.h q=some (.row gr mo bu aM)->¬bY b' (G.g q).px)->b≠b'):=by
 unfold pB at hx;have ase:∀b,¬bY b ([]:List (List PC)):=by rintro b ⟨k,j,c,⟨e,he,_⟩,_⟩;simp at he
 split at hx
 ·rename_i s;injection hx with hx;injection hx with h1 h2;injection h2 with h2 h3;subst h1 h2 h3;have fH:v=.slice none 0 0:=(hv.kO (by simp)).1;subst fH;exact⟨[],rfl,⟨by simp,by rintro k j c ⟨e,he,_⟩;simp at he,none,0,rfl,.inl ⟨rfl,rfl⟩⟩,by simpa using F,H,cr.refl _ _ _ _,rfl,rfl,fun _ _ h=>h,fun b hb=>absurd hb (ase b)⟩
 ·rename_i s z8;split at hx
  ·rename_i hs;subst hs;obtain⟨pc,e1,e2,e3,e4⟩:=hv.c;have bU:∃ya c py,pc=.list s ya c py/\py.map (fun e=>e.map PC.er)=z8:=by
    cases pc with
    |int k n=>simp[PC.er] at e1
    |bool b=>simp[PC.er] at e1
    |list s' ya c py=>rw[PC.fN] at e1;injection e1 with e1 e5;subst e1;exact⟨ya,c,py,rfl,e5⟩
   obtain⟨ya,c,py,rfl,e5⟩:=bU;have hR:Ar w s py v:=by rw[<-e2];exact Ar.aiU e3
   have qy:∀b,bY b py->G.Im b:=fun b ⟨k,j,c,hk,hb⟩=>e4 b (.there _ _ _ _ k j c hk hb);have tq:∀b,bY b py->∀b',¬G.Im b'->(∀q gr mo bu aM,σ1.h q=some (.row gr mo bu aM)->¬bY b' (G.g q).px)->b≠b':=fun b hb b' bX _ he=>bX (he▸qy b hb);split at hx
   ·rename_i xA;injection hx with hx;injection hx with h1 h2;injection h2 with h2 h3;subst h1 h2 h3
    replace xA:=(zar _ _▸xA).2
    rw[<-e5] at xA;exact⟨py,e5.symm,hR,F.aca hR.1 hR.2.1 (HH xA),H,cr.refl _ _ _ _,rfl,rfl,fun _ _ h=>h,tq⟩
   ·split at hx
    ·cases hx
    ·rename_i xu;injection hx with hx;injection hx with h1 h2;injection h2 with h2 h3;subst h1 h2 h3;refine⟨py,e5.symm,hR,⟨fun e he=>(zau.1 he).elim (F.len e) (hR.1 e),fun k j c hk=>?_,fun b hb=>(zO hb).elim (F.abe xu b) (qy b),fun h=>absurd rfl h,fun h=>by cases h⟩,H,cr.refl _ _ _ _,rfl,rfl,fun _ _ h=>h,tq⟩;rcases Az hk with⟨_,h⟩|⟨_,h⟩
     ·exact F.gF _ _ _ h
     ·exact hR.2.1 _ _ _ h
  ·cases hx
 ·rename_i n s lo len;split at hx
  ·rename_i gr m' rs z8 hn;split at hx
   ·rename_i hc;obtain⟨rfl,rfl,hl⟩:=hc;have c8:σ1.h n≠none:=by rw[hn];simp
    have hr:=H.row n gr m' s z8 hn;have lv:nh (G.g n) s lo len v:=(hv.kO (by simp)).1 c8;obtain⟨q1,q2,q3,q4⟩:=Lq hr lv hl;have Vp:∃ya c,oG (G.g n) s lo len v=.list s ya c (((G.g n).px.drop lo).take len):=by
     rcases lv with⟨_,rfl,_,_⟩|⟨_,a',rfl,_,_⟩<;>exact⟨_,_,rfl⟩
    obtain⟨ya,c,Vp⟩:=Vp;rw[Vp] at q1 q2 q3 q4;have hR:Ar w s (((G.g n).px.drop lo).take len) v:=by rw[<-q2];exact Ar.aiU q3
    have xD:(z8.drop lo).take len=(((G.g n).px.drop lo).take len).map (fun e=>e.map PC.er):=by rw[PC.fN] at q1;injection q1 with _ q1;exact q1.symm
    have tq:∀b,bY b (((G.g n).px.drop lo).take len)->∀b',¬G.Im b'->(∀q gr mo bu aM,σ1.h q=some (.row gr mo bu aM)->¬bY b' (G.g q).px)->b≠b':=by
     rintro b ⟨k,j,c,hk,hb⟩ b' _ bX rfl;exact bX n gr m' s z8 hn ⟨_,_,_,(sY hk).1,hb⟩
    split at hx
    ·rename_i xA;injection hx with hx;injection hx with h1 h2;injection h2 with h2 h3;subst h1 h2 h3;have afK:=(zar _ _▸xA).2;rw[xD] at afK;exact⟨_,xD,hR,F.aca hR.1 hR.2.1 (HH afK),H,cr.refl _ _ _ _,rfl,rfl,fun _ _ h=>h,tq⟩
    ·split at hx
     ·rename_i arZ;obtain⟨rfl,rfl⟩:=arZ;have je:((G.g n).px.drop 0).take z8.length=(G.g n).px:=by
       have:z8.length=(G.g n).px.length:=by rw[hr.er];simp
       rw[this];simp
      rw[je] at hR tq;have F2:=qj.aiV H hn;have F1:=F.del n;have jc:∀k j c,At (px++(G.g n).px) k j c->Good w c:=fun k j c hk=>by
       rcases Az hk with⟨_,h⟩|⟨_,h⟩
       ·exact F.gF _ _ _ h
       ·exact F2.gF _ _ _ h
      have hlen:∀e∈px++(G.g n).px,e.length=s:=fun e he=>(zau.1 he).elim (F.len e) (F2.len e);split at hx
      ·rename_i eR;subst eR;injection hx with hx;injection hx with h1 h2;injection h2 with h2 h3;subst h1 h2 h3;refine⟨(G.g n).px,hr.er,hR,⟨hlen,jc,?_,fun hm q cv mo bu aM hq nv b hb=>?_,fun hm b hb q hq hl=>?_⟩,H.del n,cr.del n _,rfl,rfl,fun q b hq=>(vJ hq).1,tq⟩
       ·have m1:=F.mode;have m3:=F2.mode;cases m with
        |aV=>exact fun b hb=>(zO hb).elim (m1 b) (m3 b)
        |aZ=>exact⟨fun b hb=>(zO hb).elim (m1.1 b) (m3.1 b),Rc m1.2 m3.2 (fun b hb=>F.ja (by simp) n gr .aZ s z8 hn (by simp) b hb)⟩
        |live=>exact⟨fun b hb=>(zO hb).elim (m1.1 b) (m3.1 b),Rc m1.2 m3.2 (fun b hb=>F.ja (by simp) n gr .live s z8 hn (by simp) b hb)⟩
       ·exact(zO hb).elim (F1.ja hm q cv mo bu aM hq nv b) (F2.ja hm q cv mo bu aM hq nv b)
       ·exact(zO hb).elim (fun h=>F1.live hm b h q hq hl) (fun h=>F2.live hm b h q hq hl)
      ·split at hx
       ·cases hx
       ·rename_i bI;injection hx with hx;injection hx with h1 h2;injection h2 with h2 h3;subst h1 h2 h3;refine⟨(G.g n).px,hr.er,hR,⟨hlen,jc,fun b hb=>(zO hb).elim (F.abe (fun h=>bI (.inl h)) b) (F2.abe (fun h=>bI (.inr h)) b),fun h=>absurd rfl h,fun h=>by cases h⟩,H.del n,cr.del n _,rfl,rfl,fun q b hq=>(vJ hq).1,tq⟩
     ·cases hx
   ·cases hx
  ·cases hx
 ·cases hx
theorem ao4 (r:R B E w0 N σ a w G) {n:Nat} {t e:TypeId} {i:TypeInfo} {z:Value} {x y:Operand} {mx my:MO} {fl:Bool} {sz by_:Nat} {xs ys:List (List C)} {m m2:Mode} {σ1 σ2 j8:St}
  (ho:o.op=.call {callee:=.builtin .append,args:=#[x,y],argTypes:=#[t,t]}) (hd:o.dst=some n) (hN:n<N) (mR:df x mx=true) (pT:df y my=true)
  (ht:P.underlying t=some (.slice e)) (hi:P.info? e=some i) (hz:i.zero=some z) (dd:i.size=sz) (mT:0<sz) (rT:i.bytes=by_) (Dg:0<by_) (Du:z.cells.size=sz)
  (hl:ub σ sz (σ.ev mx)=some (xs,m,σ1)) (hr:pB fl σ1 sz m (σ.ev my)=some (ys,m2,σ2)) (hb:(xs.length+ys.length)*by_<=fo)
  (hx:σ2.ins n (.row true m2 sz (xs++ys))=some j8):
  o.wp P a w (Nx B E w0 N (j8.put o.dst (.one (.sl n sz 0 (xs.length+ys.length))))) Q:=by
 obtain⟨hn,rfl⟩:=qH hx;obtain⟨x1,x2⟩:=r.ev mR;obtain⟨y1,y2⟩:=r.ev pT;obtain⟨px,e1,F1,L1,H1,K1,q1,q2,q3⟩:=avW r x1 hl;have y1':RA w G σ1.h (σ.ev my) (a.eval y):=y1.fu K1 y2;rw[<-q2] at H1;obtain⟨py,e2,R2,F2,H2,K2,p1,p2,p3,tq⟩:=aA1 mT H1 F1 y1' hr;rw[q2] at H2;have ot:xs.length=px.length:=by rw[e1];simp
 have hyl:ys.length=py.length:=by rw[e2];simp
 have L2:CG B E w G σ2.h sz m px (a.eval x):=by
  rcases L1 with h|⟨b,o,cap,cur,e',b1,b2,b3,b4,b5,b6,⟨l1,l2,l3⟩,b8,b9⟩
  ·exact .inl h
  ·refine .inr ⟨b,o,cap,cur,e',b1,b2,b3,b4,b5,b6,⟨l1,fun q hq=>?_,fun q gr mo bu aM hq=>l3 q gr mo bu aM (p3 q _ hq)⟩,b8,b9⟩;cases hh:σ2.h q with
   |none=>exact absurd hh hq
   |some bb=>exact l2 q (by rw[p3 q bb hh];simp)
 obtain⟨u,w',G',c9,r',hv⟩:=r.anz (P:=P) (σ2:=σ2) (n:=n) (m:=m) (m2:=m2) (px:=px) (py:=py) (ty:=o.type) (p1.trans q1) (p2.trans q2) H2 (cr.trans (u2:=fun n=>σ1.used n=true) (fun q hq=>by rw[q2];exact hq) K1 K2)
  (by rw[<-q2,<-p2];exact hn) mT F2 F1.len L2 R2 (fun b eI b' o' cap gK zh afC=>by
   rcases L1 with⟨_,h,_⟩|⟨b0,o0,OB,cur,e',b1,b2,b3,b4,b5,b6,⟨l1,l2,l3⟩,b8,b9⟩
   ·rw[h] at zh;injection zh with _ _ zh;omega
   ·rw[b1] at zh;injection zh with zh;injection zh with zh;have Gf:=(qS zh).1;subst Gf;exact tq b eI b0 l1 l3) ht hi hz dd rT Dg Du (by rw[<-ot,<-hyl];exact hb)
 have Gr:(px++py).map (fun e=>e.map PC.er)=xs++ys:=by rw[zaK,<-e1,<-e2]
 rw[Gr] at r' hv;rw[<-ot,<-hyl] at hv;refine Ci (v:=u) (w':=w') ?_ ⟨G',r'.put hv (fun q hq=>by have gz:q=n:=hq;subst gz;exact cT _ _ _) (fun q hq=>by rw[hd] at hq;injection hq with hq;omega)⟩
 simp[execOp,ho,resolve,invoke,builtin,c9]
end
section
variable {B:Nat} {E:Ex} {w0 w w':World} {G G':Gh} {h h':Nat->Option aK} {used used':Nat->Bool} {tk:List PC} {N:Nat}
variable {P:Program} {o:Oper} {a:Act} {σ σ':St} {Q:Exit->Act->World->Prop}
theorem WS {n:Nat} (hs:(h n).isSome=true):h n≠none:=by intro hh;rw[hh] at hs;cases hs
theorem Z4 {t e:TypeId} {i:TypeInfo} {sz b off len cap:Nat} {kk:IntKind} {q:Int} (ht:P.underlying t=some (.slice e)) (hi:P.info? e=some i) (dd:i.size=sz) (h0:0<=q) (h1:q<len):
  (Instr.indexAt t (.slice (some (ad b off)) len cap) (.int kk q)).run P w=.ok (.pointer (some (ad b (off+q.toNat*sz)))) w:=by
 simp[Instr.indexAt,run_underlying ht,asIntOf,h0,h1,sizeOf,typeInfo,hi,dd,vD]
theorem adv (r:R B E w0 N σ a w G) {t e:TypeId} {i:TypeInfo} {x y:Operand} {mx my:MO} {sz:Nat} {q:Int} {z:aA} (ho:o.op=.indexAddr t x y) (hN:∀n,o.dst=some n->n<N) (mR:df x mx=true) (pT:df y my=true)
  (ht:P.underlying t=some (.slice e)) (hi:P.info? e=some i) (dd:i.size=sz) (hq:(σ.ev my).fm=some q) (h0:0<=q)
  (hz:(∃n lo len,σ.ev mx=.one (.sl n sz lo len)/\q<(len:Int)/\(σ.h n).isSome=true/\z=.one (.ptr n (lo+q.toNat) sz 0))\/(∃xs el,σ.ev mx=.one (.c (.list sz xs))/\xs[q.toNat]? =some el/\z=.one (.dR el 0))):
  o.wp P a w (Nx B E w0 N (σ.put o.dst z)) Q:=by
 obtain⟨x1,x2⟩:=r.ev mR;obtain⟨kk,ey⟩:=(r.ev pT).1.int hq;rcases hz with⟨n,lo,len,e1,h1,hs,rfl⟩|⟨xs,el,e1,h1,rfl⟩
 ·rw[e1] at x1 x2;have lv:nh (G.g n) sz lo len (a.eval x):=(x1.kO (by simp)).1 (WS hs);rcases lv with⟨_,_,_,hl⟩|⟨bI,a',hv,mr,ha⟩
  ·omega
  ·have AX:=ha (.inl (by omega));subst AX;refine lK r (v:=.pointer (some (ad (G.g n).b ((G.g n).o+lo*sz+q.toNat*sz)))) ?_ ?_ (fun m hm=>x2 m hm) hN
   ·simp only[execOp,ho,hv,ey];simp[Z4 ht hi dd h0 h1]
   ·exact RA.jP rfl fun _=>⟨bI,by rw[zai];congr 3;omega⟩
 ·rw[e1] at x1;obtain⟨pc,p1,p2,p3,p4⟩:=x1.c;cases pc with
  |int k n=>simp[PC.er] at p1
  |bool b=>simp[PC.er] at p1
  |list s' ya c py=>
   rw[PC.fN] at p1;injection p1 with p0 p1;subst p0;have Be:∃pe,py[q.toNat]? =some pe/\pe.map PC.er=el:=by
    rw[<-p1,zad] at h1;cases hp:py[q.toNat]? with
    |none=>rw[hp] at h1;cases h1
    |some pe=>rw[hp] at h1;simp at h1;exact⟨pe,rfl,h1⟩
   obtain⟨pe,tv,rj⟩:=Be;have cC:q.toNat<py.length:=(zab.1 tv).1;cases p3 with
   |nil _ _ _ _=>simp at cC
   |cons _ b oo _ _ g1 g2 g3 g4 g5 g6=>
    have gz:q<(py.length:Int):=by omega
    refine lK r (v:=.pointer (some (ad b (oo+q.toNat*s')))) ?_ ?_ (fun m hm=>absurd hm (by simp[aA.ref,ao.ref,ao.lY])) hN
    ·simp only[execOp,ho,<-p2,PC.val,ey];simp[Z4 ht hi dd h0 gz]
    ·refine RA.jP rfl ⟨b,oo+q.toNat*s',pe,by simp,rj,p4 b (.here _ _ _ _ g1),fun j c hj=>?_⟩;exact⟨g5 _ _ _ ⟨pe,tv,hj⟩,g6 _ _ _ ⟨pe,tv,hj⟩,fun b' bX=>p4 b' (.there _ _ _ _ _ _ c ⟨pe,tv,hj⟩ bX)⟩
theorem Pg (r:R B E w0 N σ a w G) {t e:TypeId} {x:Operand} {mx:MO} {len:Nat} (ho:o.op=.call {callee:=.builtin .len,args:=#[x],argTypes:=#[t]}) (hN:∀n,o.dst=some n->n<N) (hm:df x mx=true)
  (ht:P.underlying t=some (.slice e))
  (hz:(∃n sz lo,σ.ev mx=.one (.sl n sz lo len)/\(σ.h n).isSome=true)\/(∃sz xs,σ.ev mx=.one (.c (.list sz xs))/\len=xs.length)\/(∃sz,σ.ev mx=.one (.nil sz)/\len=0)\/
   (∃n k aY off sz l s ys,σ.ev mx=.one (.cJ n k aY off sz l)/\dH σ.h (.cJ n k aY off sz l)=some (.list s ys)/\len=ys.length)):
  o.wp P a w (Nx B E w0 N (σ.put o.dst (.one (.c (.int .i64 len))))) Q:=by
 obtain⟨x1,x2⟩:=r.ev hm;have hv:∃a' c,a.eval x=.slice a' len c:=by
  rcases hz with⟨n,sz,lo,e1,hs⟩|⟨sz,xs,e1,rfl⟩|⟨sz,e1,rfl⟩|⟨n,k,aY,off,sz,l,s,ys,e1,V3,rfl⟩
  ·rw[e1] at x1;have lv:nh (G.g n) sz lo len (a.eval x):=(x1.kO (by simp)).1 (WS hs);rcases lv with⟨_,hv,_,rfl⟩|⟨_,a',hv,_,_⟩
   ·exact⟨_,_,hv⟩
   ·exact⟨_,_,hv⟩
  ·rw[e1] at x1;obtain⟨pc,p1,p2,_⟩:=x1.c;cases pc with
   |int k n=>simp[PC.er] at p1
   |bool b=>simp[PC.er] at p1
   |list s' ya c py=>
    rw[PC.fN] at p1;injection p1 with _ p1;refine⟨ya,c,?_⟩;rw[<-p2,<-p1];simp[PC.val]
  ·rw[e1] at x1;have fH:a.eval x=.slice none 0 0:=(x1.kO (by simp)).1;exact⟨_,_,fH⟩
  ·rw[e1] at x1;obtain⟨pc,p1,p2,_⟩:=r.hr.dH V3 (x1.kO (by simp)).1;cases pc with
   |int k n=>simp[PC.er] at p1
   |bool b=>simp[PC.er] at p1
   |list s' ya c py=>
    rw[PC.fN] at p1;injection p1 with _ p1;refine⟨ya,c,?_⟩;rw[<-p2,<-p1];simp[PC.val]
 obtain⟨a',c,hv⟩:=hv;refine lK r (v:=.int .i64 len) ?_ (RA.of_int _ _) (fun q hq=>absurd hq x5) hN;simp[execOp,ho,resolve,invoke,builtin,hv,Builtin.len_,run_underlying ht,goInt]
theorem Z5 {t e:TypeId} {i:TypeInfo} {sz:Nat} {ya:Option Addr} {len cap:Nat} {lo fA:Option Value} {l hh:Int} (ht:P.underlying t=some (.slice e)) (hi:P.info? e=some i) (dd:i.size=sz)
  (vY:(lo=none/\l=0)\/∃k,lo=some (.int k l)) (y4:(fA=none/\hh=len)\/∃k,fA=some (.int k hh)) (h0:0<=l) (h1:l<=hh) (h2:hh<=len) (h3:len<=cap):
  (Instr.sliceAt t (.slice ya len cap) lo fA none).run P w=.ok (.slice (if cap=l.toNat then ya else ya.map (·.add (l.toNat*sz))) (hh - l).toNat (cap - l.toNat)) w:=by
 have e1:(hh.toNat:Int)=hh:=za3 (by omega);have e2:(hh - l).toNat=hh.toNat - l.toNat:=by omega
 have h4:hh<=(cap:Int):=by omega
 have h5:0<=hh:=by omega
 rcases vY with⟨rfl,rfl⟩|⟨k,rfl⟩<;>rcases y4 with⟨rfl,rfl⟩|⟨k',rfl⟩<;>
  simp[Instr.sliceAt,Instr.slice,run_underlying ht,Instr.sliceBounds,Instr.sliceBound,asIntOf,sizeOf,typeInfo,hi,dd,h0,h1,h4,h5,e1,e2]<;>omega
theorem adz (r:R B E w0 N σ a w G) {t e:TypeId} {i:TypeInfo} {x:Operand} {lo fA:Option Operand} {mx:MO} {sz:Nat} {l hh:Int} {z:aA} (ho:o.op=.slice t x lo fA none) (hN:∀n,o.dst=some n->n<N) (mR:df x mx=true)
  (ht:P.underlying t=some (.slice e)) (hi:P.info? e=some i) (dd:i.size=sz) (mT:0<sz) {len:Nat}
  (vY:(lo=none/\l=0)\/∃y my,lo=some y/\df y my=true/\(σ.ev my).fm=some l) (y4:(fA=none/\hh=len)\/∃y my,fA=some y/\df y my=true/\(σ.ev my).fm=some hh)
  (h0:0<=l) (h1:l<=hh) (h2:hh<=len)
  (hz:(∃n l0,σ.ev mx=.one (.sl n sz l0 len)/\(σ.h n).isSome=true/\z=.one (.sl n sz (l0+l.toNat) (hh - l).toNat))\/(∃xs,σ.ev mx=.one (.c (.list sz xs))/\len=xs.length/\z=.one (.c (.list sz ((xs.drop l.toNat).take (hh - l).toNat))))):
  o.wp P a w (Nx B E w0 N (σ.put o.dst z)) Q:=by
 obtain⟨x1,x2⟩:=r.ev mR;have VH:(lo.map a.eval=none/\l=0)\/∃k,lo.map a.eval=some (.int k l):=by
  rcases vY with⟨rfl,h⟩|⟨y,my,rfl,c1,c2⟩
  ·exact .inl ⟨rfl,h⟩
  ·obtain⟨k,hk⟩:=(r.ev c1).1.int c2;exact .inr ⟨k,by simp[hk]⟩
 have Vu:(fA.map a.eval=none/\hh=len)\/∃k,fA.map a.eval=some (.int k hh):=by
  rcases y4 with⟨rfl,h⟩|⟨y,my,rfl,c1,c2⟩
  ·exact .inl ⟨rfl,h⟩
  ·obtain⟨k,hk⟩:=(r.ev c1).1.int c2;exact .inr ⟨k,by simp[hk]⟩
 rcases hz with⟨n,l0,e1,hs,rfl⟩|⟨xs,e1,rfl,rfl⟩
 ·rw[e1] at x1 x2;have lv:nh (G.g n) sz l0 len (a.eval x):=(x1.kO (by simp)).1 (WS hs);rcases lv with⟨bI,hv,rfl,rfl⟩|⟨bI,a',hv,mr,ha⟩
  ·have hr:=Z5 (P:=P) (w:=w) (ya:=(G.g n).na) (len:=0) (cap:=(G.g n).cap) ht hi dd VH Vu h0 h1 h2 (Nat.zero_le _);have pS:l.toNat=0:=by omega
   have JJ:(hh - l).toNat=0:=by omega
   refine lK r (v:=.slice (G.g n).na 0 (G.g n).cap) ?_ (RA.jP rfl fun _=>.inl ⟨bI,rfl,by omega,by omega⟩) (fun m hm=>x2 m hm) hN;simp only[execOp,ho,hv,za0];simp only[pS,JJ,zaX] at hr;have ha:(G.g n).na.map (fun x=>x.add 0)=(G.g n).na:=by
    cases (G.g n).na with
    |none=>rfl
    |some x=>simp[Addr.add]
   rw[ha] at hr;simp[hr]
  ·have hr:=Z5 (P:=P) (w:=w) (ya:=a') (len:=len) (cap:=(G.g n).cap - l0) ht hi dd VH Vu h0 h1 h2 (by omega);refine lK r (by simp only[execOp,ho,hv,za0];simp[hr];rfl) (RA.jP rfl fun _=>.inr ⟨bI,_,by rw[Nat.sub_sub],by omega,fun hc=>?_⟩) (fun m hm=>x2 m hm) hN;split
   ·rename_i di;have:l0=0/\l.toNat=0:=by omega
    rw[ha (.inr this.1),this.1,this.2]
   ·rename_i di;have cC:l0<(G.g n).cap:=by omega
    rw[ha (.inl cC)];simp only[Option.map_some,vD];rw[zai,zan]
 ·rw[e1] at x1;obtain⟨pc,p1,p2,p3,p4⟩:=x1.c;cases pc with
  |int k n=>simp[PC.er] at p1
  |bool b=>simp[PC.er] at p1
  |list s' ya c py=>
   rw[PC.fN] at p1;injection p1 with p0 p1;subst p0;have hlen:xs.length=py.length:=by rw[<-p1];simp
   have hv:a.eval x=.slice ya xs.length c:=by rw[<-p2,hlen];rfl
   have mr:xs.length<=c\/py=[]:=by
    cases p3 with
    |nil _ _ _ _=>exact .inr rfl
    |cons _ b oo _ _ g1 g2 g3 g4 g5 g6=>exact .inl (by rw[hlen];exact g2)
   have AY:xs.length<=c:=by
    rcases mr with hc|hc
    ·exact hc
    ·rw[hlen,hc];exact Nat.zero_le _
   have hr:=Z5 (P:=P) (w:=w) (ya:=ya) (len:=xs.length) (cap:=c) ht hi dd VH Vu h0 h1 h2 AY;have afA:((py.drop l.toNat).take (hh - l).toNat).length=(hh - l).toNat:=by simp;omega
   let fh:PC:=.list s' (if c=l.toNat then ya else ya.map (·.add (l.toNat*s'))) (c - l.toNat) ((py.drop l.toNat).take (hh - l).toNat)
   have jc:Good w fh/\∀b,bR b fh->G.Im b:=by
    by_cases Gi:(py.drop l.toNat).take (hh - l).toNat=[]
    ·constructor
     ·show Good w (.list _ _ _ _);rw[Gi];exact .nil _ _ _ mT
     ·intro b hb;rw[bR.oE,Gi] at hb;rcases hb with⟨hb,_⟩|⟨k,j,c,⟨e,he,_⟩,_⟩
      ·exact absurd rfl hb
      ·simp at he
    ·cases p3 with
     |nil _ _ _ _=>simp at Gi
     |cons _ b oo _ _ g1 g2 g3 g4 g5 g6=>
      have fO:0<(hh - l).toNat:=by
       rcases zaM (hh - l).toNat with hz|hz
       ·rw[hz] at Gi;simp at Gi
       ·exact hz
      have aR:c≠l.toNat:=by omega
      have bU:fh=.list s' (some (ad b (oo+l.toNat*s'))) (c - l.toNat) ((py.drop l.toNat).take (hh - l).toNat):=by
       show PC.list _ _ _ _=_;rw[if_neg aR];simp[vD]
      rw[bU];constructor
      ·refine .cons _ _ _ _ _ Gi (by omega) g3 (fun e he=>g4 e (zas (zat he))) (fun k j c' hk=>?_) (fun k j c' hk=>g6 _ _ _ (sY hk).1);have:=g5 _ _ _ (sY hk).1;rw[zai] at this;rw[<-this];congr 2;omega
      ·intro x hx;rw[bR.oE] at hx;rcases hx with⟨_,o',jV⟩|⟨k,j,c',hk,hx⟩
       ·injection jV with jV;rw[<-(qS jV).1];exact p4 b (.here _ _ _ _ g1)
       ·exact p4 x (.there _ _ _ _ _ _ c' (sY hk).1 hx)
   refine lK r (v:=fh.val) ?_ (RA.jP (PC.qg _) ⟨fh,?_,rfl,jc.1,jc.2⟩) (fun q hq=>absurd hq x5) hN
   ·simp only[execOp,ho,hv,za0];simp[hr,fh,PC.val,afA]
   ·show PC.er (.list _ _ _ _)=_;rw[PC.fN,za7,za8,p1]
theorem OE {b x:Nat} {v:Value} {cur:Array Value} {e:TypeId} (hg:w.heap[b]? =some (.cells cur e (0,0))) (hc:w.cell? (ad b x)=some v):x<cur.size:=by
 have h2:w.cell? (ad b x)=cur[x]? :=by simp[World.cell?,ad,hg]
 rw[h2] at hc;exact(zaB.1 hc).1
theorem apv (r:R B E w0 N σ a w G) {t:TypeId} {i:TypeInfo} {x y:Operand} {mx my:MO} {sz n k aY off:Nat} {ag:Bool} {vs cs:List ao} (ho:o.op=.store t x y) (hd:o.dst=none) (mR:df x mx=true) (pT:df y my=true)
  (hi:P.info? t=some i) (dd:i.size=sz) (mT:0<sz) (hp:σ.ev mx=.one (.ptr n k aY off)) (hv:(σ.ev my).cells?=some (ag,vs)) (hl:vs.length=sz) (hn:σ.h n=some (.box cs)) (hk:k=0) (jE:off+sz<=cs.length):
  o.wp P a w (Nx B E w0 N (σ.fK n (.box (dM cs off vs)))) Q:=by
 obtain⟨x1,_⟩:=r.ev mR;obtain⟨y1,y2⟩:=r.ev pT;rw[hp] at x1;subst hk;obtain⟨p1,p2⟩:=(x1.kO (by simp)).1 (by rw[hn];simp);obtain⟨q1,⟨cur,et,q2⟩,q3⟩:=r.hr.box n cs hn;have di:=y1.cells hv;have JZ:(a.eval y).cells.toList.length=sz:=by rw[di.1,hl]
 have Jy:(G.g n).o+off+(a.eval y).cells.toList.length<=cur.size:=by
  obtain⟨v,v1,_⟩:=q3 (off+sz - 1) (cs[off+sz - 1]'(by omega)) (zac _);have:=OE q2 v1;omega
 have r':=r.aCw hn di (fun c hc m hm=>y2 m (aA.CR hv hc hm)) (by omega) q2 Jy;have c9:=Z6 (P:=P) (w:=w) (t:=t) (i:=i) (b:=(G.g n).b) (off:=(G.g n).o+off) (v:=a.eval y) (cur:=cur) (e:=et) hi (by rw[dd,<-JZ];simp) q2 (by simpa using Jy) (fun u hu=>by
  obtain⟨j,hj,JL⟩:=zav hu;have Dm:j<vs.length:=by omega
  have:=(di.2 j _ u (zac Dm) (by rw[zac hj,JL])).1;exact this)
 refine abp (w':=jA w (G.g n).b ((G.g n).o+off) (a.eval y).cells.toList cur) ?_ ⟨G,?_⟩
 ·simp only[execOp,ho,p2,zaX,zaN];simp[Instr.storeAt,Instr.sureAddr,c9]
 ·rw[hd];exact r'
theorem apx (r:R B E w0 N σ a w G) {t:TypeId} {i:TypeInfo} {x y:Operand} {mx my:MO} {sz n k off:Nat} {ag gr:Bool} {m:Mode} {rs:Nat} {xs:List (List C)} {el:List C} {vs:List ao} {σ2:St} (ho:o.op=.store t x y) (hd:o.dst=none) (mR:df x mx=true) (pT:df y my=true)
  (hi:P.info? t=some i) (dd:i.size=sz) (mT:0<sz) (hp:σ.ev mx=.one (.ptr n k rs off)) (hv:(σ.ev my).cells?=some (ag,vs)) (hl:vs.length=sz) (hn:σ.h n=some (.row gr m rs xs)) (hk:xs[k]? =some el)
  (hx:qM σ n gr m rs xs k off el vs=some σ2):o.wp P a w (Nx B E w0 N σ2) Q:=by
 obtain⟨x1,_⟩:=r.ev mR;obtain⟨y1,y2⟩:=r.ev pT;rw[hp] at x1;obtain⟨p1,p2⟩:=(x1.kO (by simp)).1 (by rw[hn];simp);have hr:=r.hr.row n gr m rs xs hn;obtain⟨⟨cur,et,q2⟩,l2,l3⟩:=hr.gd p1;have di:=y1.cells hv;have JZ:(a.eval y).cells.toList.length=sz:=by rw[di.1,hl]
 have Gu:off+vs.length<=el.length:=by
  unfold qM at hx;split at hx
  ·cases hx
  ·rename_i iv hs;exact(LA hs).1
 have Be:∃pe,(G.g n).px[k]? =some pe/\pe.map PC.er=el:=by
  have dg:=hk;rw[hr.er,zad] at dg;cases hq:(G.g n).px[k]? with
  |none=>rw[hq] at dg;cases dg
  |some pe=>rw[hq] at dg;simp at dg;exact⟨pe,rfl,dg⟩
 obtain⟨pe,Bf,Bg⟩:=Be;have PX:pe.length=el.length:=by rw[<-Bg];simp
 have Jy:(G.g n).o+k*rs+off+(a.eval y).cells.toList.length<=cur.size:=by
  have hc:=l2.2.1 k (off+sz - 1) (pe[off+sz - 1]'(by omega)) ⟨pe,Bf,zac _⟩;have:=OE q2 hc;omega
 obtain⟨G',r'⟩:=r.qM hn p1 hk di (fun c hc m hm=>y2 m (aA.CR hv hc hm)) hx q2 Jy;have c9:=Z6 (P:=P) (w:=w) (t:=t) (i:=i) (b:=(G.g n).b) (off:=(G.g n).o+k*rs+off) (v:=a.eval y) (cur:=cur) (e:=et) hi (by rw[dd,<-JZ];simp) q2 (by simpa using Jy) (fun u hu=>by
  obtain⟨j,hj,JL⟩:=zav hu;have Dm:j<vs.length:=by omega
  exact(di.2 j _ u (zac Dm) (by rw[zac hj,JL])).1)
 refine abp (w':=jA w (G.g n).b ((G.g n).o+k*rs+off) (a.eval y).cells.toList cur) ?_ ⟨G',?_⟩
 ·simp only[execOp,ho,p2];simp[Instr.storeAt,Instr.sureAddr,c9]
 ·rw[hd];exact r'
def CS (places:List (Nat×Nat)):List (Nat×Operand)->List (Nat×Nat×MO)->Bool
 |[],[]=>true
 |(i,x)::ps,(off,sz,m)::ms=>(places[i]? ==some (off,sz))&&df x m&&CS places ps ms
 |_,_=>false
theorem adJ (r:R B E w0 N σ a w G) (places:List (Nat×Nat)):∀(ps:List (Nat×Operand)) (ms:List (Nat×Nat×MO)) (zs cs:List ao) (cur:Array Value),CS places ps ms=true->
  eO w G σ.h zs cur.toList->(∀c∈zs,∀m,c.ref m->σ.used m=true)->tS σ.ev zs ms=some cs->
  ∃mN,Instr.fill (places.toArray[·]?) cur (ps.map fun p=>(p.1,a.eval p.2))=some mN/\eO w G σ.h cs mN.toList/\∀c∈cs,∀m,c.ref m->σ.used m=true
 |[],[],zs,cs,cur,_,hz,hr,hx=>by
  simp only[tS] at hx;injection hx with hx;subst hx;exact⟨cur,rfl,hz,hr⟩
 |(i,x)::ps,(off,sz,m)::ms,zs,cs,cur,hc,hz,hr,hx=>by
  simp only[CS,zar,beq_iff_eq] at hc;obtain⟨⟨c1,c2⟩,c3⟩:=hc;simp only[tS] at hx;split at hx
  ·rename_i ag vs hv;split at hx
   ·rename_i eQ;obtain⟨h1,h2⟩:=eQ;obtain⟨y1,y2⟩:=r.ev c2;have di:=y1.cells hv;have v9:(a.eval x).cells.size=sz:=by rw[<-zao,di.1,h1]
    have hzl:cur.size=zs.length:=by rw[<-zao,hz.1]
    have Dt:eO w G σ.h (dM zs off vs) (dM cur.toList off (a.eval x).cells.toList):=by
     have V1:(a.eval x).cells.toList.length=vs.length:=di.1;refine⟨?_,fun j c u hj hu=>?_⟩
     ·rw[RL (by rw[V1,hz.1];omega),RL (by omega),hz.1]
     ·rw[B8 (by omega)] at hj;rw[B8 (by rw[V1,hz.1];omega),V1] at hu;by_cases gU:off<=j/\j<off+vs.length
      ·rw[if_pos gU] at hj hu;exact di.2 _ c u hj hu
      ·rw[if_neg gU] at hj hu;exact hz.2 _ c u hj hu
    obtain⟨mN,e1,e2,e3⟩:=adJ r places ps ms (dM zs off vs) cs (dM cur.toList off (a.eval x).cells.toList).toArray c3 Dt (fun c hc q hq=>by
     simp only[dM,zau] at hc;rcases hc with(hc|hc)|hc
     ·exact hr c (zat hc) q hq
     ·exact y2 q (aA.CR hv hc hq)
     ·exact hr c (zas hc) q hq) hx
    refine⟨mN,?_,e2,e3⟩;simp only[zaw] at e1;simp only[zak,Instr.fill,zaw,c1];rw[if_neg (by simp;omega),aeX _ _ _ (by omega)];exact e1
   ·cases hx
  ·cases hx
 |[],_::_,_,_,_,hc,_,_,_=>by simp[CS] at hc
 |(_,_)::_,[],_,_,_,hc,_,_,_=>by simp[CS] at hc
theorem ao9 (r:R B E w0 N σ a w G) {t:TypeId} {parts:Array (Nat×Operand)} {ms:List (Nat×Nat×MO)} {zs cs:List ao} {it:TypeInfo} {z:Value} {AL:Array Field} {places:List (Nat×Nat)} (ho:o.op=.build t parts) (hN:∀n,o.dst=some n->n<N)
  (A8:P.info? t=some it) (hz:it.zero=some z) (hu:P.underlying t=some (.struct AL)) (lO:AL.toList.mapM (fun f=>(P.info? f.type).map fun i=>(f.offset,i.size))=some places)
  (hzc:xg z.cells.toList zs=true) (hc:CS places parts.toList ms=true) (hx:tS σ.ev zs ms=some cs):o.wp P a w (Nx B E w0 N (σ.put o.dst (.agg cs))) Q:=by
 obtain⟨z1,z2⟩:=OK (w:=w) (G:=G) (h:=σ.h) hzc;obtain⟨mN,e1,e2,e3⟩:=adJ r places parts.toList ms zs cs z.cells hc z1 (fun c hc m hm=>absurd hm (z2 c hc m)) hx;refine lK r (v:=.agg mN) ?_ ⟨mN.toList,by simp,e2⟩ (fun m hm=>by obtain⟨c,hc,hm⟩:=hm;exact e3 c hc m hm) hN;have hb:P.built t (parts.map fun p=>(p.1,a.eval p.2)).toList=some mN:=by
  unfold Program.built;simp only[A8,hu,hz,lO,zaH];exact e1
 have c9:=run_build (P:=P) w t _ mN hb;simp only[execOp,ho];simp[c9]
theorem Ts {α:Type} {xs:List (List α)} {l k j:Nat} {c:α} (h:At (xs.drop l) k j c):At xs (l+k) j c:=by
 obtain⟨e,he,hj⟩:=h;rw[zaD] at he;exact⟨e,he,hj⟩
theorem kU.drop {px:List (List PC)} (h:kU px) (l:Nat):kU (px.drop l):=
 ⟨fun k j c hk=>h.1 _ _ _ (Ts hk),fun k j c k' j' c' b hk dg aR=>h.2 _ _ _ _ _ _ b (Ts hk) (Ts dg) (fun e=>aR (by injection e with e1 e2;rw[show k=k' by omega,e2]))⟩
end
section
variable {B:Nat} {E:Ex} {w0 w w':World} {G G':Gh} {h h':Nat->Option aK} {used used':Nat->Bool} {tk:List PC} {N:Nat}
variable {P:Program} {o:Oper} {a:Act} {σ σ':St} {Q:Exit->Act->World->Prop}
theorem HR.atz (H:HR B E w G h used []) {n sz cap:Nat} {x:Option Addr} {xs:List (List PC)} {m:Mode} (hg:Good w (.list sz x cap xs)) (hs:Sep (.list sz x cap xs)) (ht:IB w (.list sz x cap xs))
  (hl:∀b,mh b (.list sz x cap xs)->sT G h b/\fL w b/\B<=b) (hn:used n=false):
  ∃G',HR B E w G' (aX h n (some (.row true m sz (xs.map fun e=>e.map PC.er)))) (aX used n true) []/\
   cr w G h (fun n=>used n=true) w G' (aX h n (some (.row true m sz (xs.map fun e=>e.map PC.er))))/\
   RC w G' (aX h n (some (.row true m sz (xs.map fun e=>e.map PC.er)))) (.sl n sz 0 xs.length) (PC.val (.list sz x cap xs))/\
   ∀b,sT G h b->¬mh b (.list sz x cap xs)->sT G' (aX h n (some (.row true m sz (xs.map fun e=>e.map PC.er)))) b:=by
 obtain⟨fO,mr,Bj⟩:=ht;have hF:∀b,bY b xs->bR b (.list sz x cap xs):=fun b ⟨k,j,c,h1,h2⟩=>.there _ _ _ _ k j c h1 h2;have oh:kU xs:=by cases hs with|list _ _ _ _ h1 h2 h3=>exact⟨h1,h3⟩
 let S:Nat->Prop:=fun b=>m≠ .live/\bY b xs;have H1:HR B E w ⟨fun b=>G.Im b\/S b,G.g⟩ h used []:=H.xN S (fun b hb=>(hl b (.inl (hF b hb.2))).2.1.lt)
  (fun b hb q hq nz he=>(hl b (.inl (hF b hb.2))).1.2.1 q hq nz he.symm) (fun b hb q gr sz xs hq=>(hl b (.inl (hF b hb.2))).1.2.2 q gr _ sz xs hq) (fun b hb=>.inl (hl b (.inl (hF b hb.2))).2.2)
 obtain⟨p,asm,je,JS,VP,asn,asi⟩:∃p:PB,(p.nl=true->xs=[]/\(true=true->p.cap=0))/\p.px=xs/\
   (p.nl=false->sT ⟨fun b=>G.Im b\/S b,G.g⟩ h p.b/\fL w p.b/\B<=p.b/\∀b,bY b xs->b≠p.b)/\
   (p.nl=false->sV w p.b p.o sz xs/\xs.length<=p.cap/\Tj w p sz)/\nh p sz 0 xs.length (PC.val (.list sz x cap xs))/\(p.nl=false->mh p.b (.list sz x cap xs)):=by
  by_cases Ve:cap=0
  ·subst Ve;have hx:xs=[]:=zae (by omega);subst hx;exact⟨⟨true,0,0,0,[],x⟩,fun _=>⟨rfl,fun _=>rfl⟩,rfl,(fun hf=>by cases hf),(fun hf=>by cases hf),.inl ⟨rfl,rfl,rfl,rfl⟩,(fun hf=>by cases hf)⟩
  ·obtain⟨b,o,cur,e,rfl,hh,dd,Dq,dE⟩:=Bj.resolve_left Ve;have hT:mh b (.list sz (some (ad b o)) cap xs):=.inr ⟨_,_,_,_,rfl,Ve⟩;obtain⟨l1,l2,l3⟩:=hl b hT;have aR:∀b',bY b' xs->b'≠b:=fun b' ⟨k,j,c,h1,h2⟩ he=>dE k j c h1 (he▸h2);refine⟨⟨false,b,o,cap,xs,none⟩,(fun hf=>by cases hf),rfl,fun _=>⟨⟨fun hi=>hi.elim l1.1 (fun hS=>aR b hS.2 rfl),l1.2⟩,l2,l3,aR⟩,fun _=>⟨?_,mr,Dq,cur,e,hh,dd⟩,.inr ⟨rfl,some (ad b o),by simp[PC.val],by simpa using mr,fun _=>by simp⟩,fun _=>hT⟩;cases hg with
   |nil _ _ _ _=>exact⟨by simp,by rintro k j c ⟨e,he,_⟩;simp at he,by rintro k j c ⟨e,he,_⟩;simp at he⟩
   |cons _ _ _ _ _ h1 h2 h3 h4 h5 h6=>exact⟨h4,h5,h6⟩
 subst je;have f9:yz B E w ⟨fun b=>G.Im b\/S b,G.g⟩ true m sz (p.px.map fun e=>e.map PC.er) p:=by
  refine⟨fO,rfl,asm,fun hf=>⟨(JS hf).2.1,(VP hf).1,(VP hf).2.1⟩,fun hf _=>(VP hf).2.2,?_⟩;cases hm:m with
  |aV=>exact fun b hb=>.inr ⟨by simp[hm],hb⟩
  |aZ=>exact⟨fun b hb=>⟨.inr ⟨by simp[hm],hb⟩,(hl b (.inl (hF b hb))).2.1,.inl (hl b (.inl (hF b hb))).2.2⟩,oh⟩
  |live=>exact⟨fun b hb=>⟨fun hi=>hi.elim (hl b (.inl (hF b hb))).1.1 (fun hS=>hS.1 hm),(hl b (.inl (hF b hb))).2.1,.inl (hl b (.inl (hF b hb))).2.2⟩,oh⟩
 have Hn:=H1.insert (w':=w) (n:=n) (blk:=.row true m sz (p.px.map fun e=>e.map PC.er)) (p:=p) hn (fun _ _=>rfl) (zap _)
  (fun hf=>⟨(JS hf).1,.inl (JS hf).2.2.1,(JS hf).2.1.lt⟩) (fun cs c q hb=>by cases hb) (by exact f9)
  (fun gr m' bu aM hb hm n' cv qK pi mb h0 nv b eI=>(hl b (.inl (hF b eI))).1.2.2 n' cv qK pi mb h0)
  (fun gr bu aM hb b eI=>⟨fun hf=>(JS hf).2.2.2 b eI,fun n' h0 pS he=>(hl b (.inl (hF b eI))).1.2.1 n' h0 pS he.symm⟩)
  (fun gr m' bu aM hb hm i pc b hi=>by simp at hi)
 refine⟨_,Hn,cr.trans (u2:=fun n=>used n=true) (fun _ h=>h) (cr.xN S _) (cr.insert H1 hn (fun _ _=>rfl)),fun _=>by simpa[cT] using asn,fun b hb U8=>?_⟩;refine⟨fun hi=>hi.elim hb.1 (fun hS=>U8 (.inl (hF b hS.2))),fun q hq nz he=>?_,fun q gr mo bu aM hq eI=>?_⟩
 ·by_cases iJ:q=n
  ·subst iJ;simp only[cT] at nz he;exact U8 (he▸asi nz)
  ·rw[dN _ _ _ _ iJ] at hq;simp only[dN _ _ _ _ iJ] at nz he;exact hb.2.1 q hq nz he
 ·by_cases iJ:q=n
  ·subst iJ;simp only[cT] at eI;exact U8 (.inl (hF b eI))
  ·rw[dN _ _ _ _ iJ] at hq;simp only[dN _ _ _ _ iJ] at eI;exact hb.2.2 q gr mo bu aM hq eI
structure yx (B:Nat) (w:World) (G:Gh) (h:Nat->Option aK) (ps:List PC):Prop where
 gF:∀pc∈ps,Good w pc/\Sep pc/\IB w pc
 lone:∀pc∈ps,∀b,mh b pc->sT G h b/\fL w b/\B<=b
 qY:ps.Pairwise fun p q=>∀b,mh b p->¬mh b q
theorem yx.tail {p:PC} {ps:List PC} (hi:yx B w G h (p::ps)) (hL:∀b,sT G h b->¬mh b p->sT G' h' b):yx B w G' h' ps:=
 ⟨fun q hq=>hi.gF q (by simp[hq]),fun q hq b hb=>⟨hL b (hi.lone q (by simp[hq]) b hb).1 (fun hp=>(zba.1 hi.qY).1 q hq b hp hb),(hi.lone q (by simp[hq]) b hb).2⟩,(zba.1 hi.qY).2⟩
theorem HR.imp {m:Mode}:∀{ps qs:List PC} {σ σ1:St} {G:Gh} {nm iu:Nat} {l:List ao},HR B E w G σ.h σ.used []->σ.imp m nm (ps.map PC.er)=some (l,iu,σ1)->yx B w G σ.h (ps++qs)->
  ∃G',HR B E w G' σ1.h σ1.used []/\cr w G σ.h (fun n=>σ.used n=true) w G' σ1.h/\eO w G' σ1.h l (ps.map PC.val)/\(∀c∈l,∀q,c.ref q->σ1.used q=true)/\σ1.env=σ.env/\
   (∀q,σ.used q=true->σ1.used q=true)/\yx B w G' σ1.h qs
 |[],qs,σ,σ1,G,nm,iu,l,H,hx,hi=>by
  simp only[zaZ,St.imp] at hx;injection hx with hx;injection hx with h1 h2;injection h2 with h2 h3;subst h1 h3;exact⟨G,H,cr.refl _ _ _ _,⟨rfl,by simp⟩,by simp,rfl,fun _ h=>h,by simpa using hi⟩
 |p::ps,qs,σ,σ2,G,nm,iu,l,H,hx,hi=>by
  have gV:∀(x:C) (hx:(match σ.imp m nm (ps.map PC.er) with|some (l,iu,σ2)=>some (ao.c x::l,iu,σ2)|none=>none)=some (l,iu,σ2)) (hp:p.er=x) (dE:∀b,¬mh b p) (hg:Good w p),
    ∃G',HR B E w G' σ2.h σ2.used []/\cr w G σ.h (fun n=>σ.used n=true) w G' σ2.h/\eO w G' σ2.h l ((p::ps).map PC.val)/\(∀c∈l,∀q,c.ref q->σ2.used q=true)/\σ2.env=σ.env/\
     (∀q,σ.used q=true->σ2.used q=true)/\yx B w G' σ2.h qs:=by
   intro x hx hp dE hg;split at hx
   ·rename_i l' KF j8 e1;injection hx with hx;injection hx with h1 h2;injection h2 with h2 h3;subst h1 h2 h3;obtain⟨G',b1,b2,b3,b4,b5,b6,b7⟩:=HR.imp H e1 (hi.tail (fun b hb _=>hb));refine⟨G',b1,b2,⟨by simp[b3.1],fun j c u hj hu=>?_⟩,fun c hc q hq=>?_,b5,b6,b7⟩
    ·cases j with
     |zero=>
      simp at hj hu;subst hj;subst hu;exact⟨PC.qg p,p,hp,rfl,hg,fun b hb=>absurd (.inl hb) (dE b)⟩
     |succ j=>exact b3.2 j c u (by simpa using hj) (by simpa using hu)
    ·cases hc with
     |head=>exact absurd hq id
     |tail _ hc=>exact b4 c hc q hq
   ·cases hx
  cases p with
  |int k n=>exact gV (.int k n) (by simp only[zak,St.imp,PC.er] at hx;exact hx) (by simp[PC.er]) (fun b hb=>by rcases hb with hb|⟨_,_,_,_,hb,_⟩<;>cases hb) (.int _ _)
  |bool b=>exact gV (.bool b) (by simp only[zak,St.imp,PC.er] at hx;exact hx) (by simp[PC.er]) (fun b hb=>by rcases hb with hb|⟨_,_,_,_,hb,_⟩<;>cases hb) (.bool _)
  |list sz x cap xs=>
   simp only[zak,PC.fN,St.imp] at hx;split at hx
   ·rename_i σ1 e1;split at hx
    ·rename_i l' KF j8 e2;injection hx with hx;injection hx with h1 h2;injection h2 with h2 h3;subst h1 h2 h3;obtain⟨hn,rfl⟩:=qH e1;obtain⟨g1,g2,g3⟩:=hi.gF (.list sz x cap xs) (by simp);obtain⟨G1,a1,a2,a3,a4⟩:=H.atz (m:=m) g1 g2 g3 (hi.lone (.list sz x cap xs) (by simp)) hn;obtain⟨G',b1,b2,b3,b4,b5,b6,b7⟩:=HR.imp a1 e2 (hi.tail a4);have GD:∀q,σ.used q=true->aX σ.used nm true q=true:=fun q hq=>wQ _ _ hq;refine⟨G',b1,cr.trans GD a2 b2,⟨by simp[b3.1],fun j c u hj hu=>?_⟩,fun c hc q hq=>?_,b5,fun q hq=>b6 q (GD q hq),b7⟩
     ·cases j with
      |zero=>
       simp at hj hu;subst hj;subst hu;exact⟨rfl,a3.fu b2 fun q hq=>by have gz:q=nm:=hq;subst gz;exact cT _ _ _⟩
      |succ j=>exact b3.2 j c u (by simpa using hj) (by simpa using hu)
     ·cases hc with
      |head=>have gz:q=nm:=hq;subst gz;exact b6 _ (cT _ _ _)
      |tail _ hc=>exact b4 c hc q hq
    ·cases hx
   ·cases hx
theorem HR.mW {m:Mode}:∀{bO:List (K×List PC)} {σ σ1:St} {G:Gh} {nm:Nat} {ls:List (Bool×List ao)},HR B E w G σ.h σ.used []->σ.mW m nm (bO.map fun p=>(p.1,p.2.map PC.er))=some (ls,σ1)->
  (∀p∈bO,p.1≠ .ptr/\(p.1=.one->p.2.length=1))->yx B w G σ.h (bO.flatMap (·.2))->
  ∃G',HR B E w G' σ1.h σ1.used []/\cr w G σ.h (fun n=>σ.used n=true) w G' σ1.h/\ls.length=bO.length/\
   (∀(j:Nat) (x:Bool×List ao) (p:K×List PC),ls[j]? =some x->bO[j]? =some p->RV w G' σ1.h x.1 x.2 (vf p))/\(∀x∈ls,∀c∈x.2,∀q,c.ref q->σ1.used q=true)/\σ1.env=σ.env/\
   (∀q,σ.used q=true->σ1.used q=true)
 |[],σ,σ1,G,nm,ls,H,hx,hk,hi=>by
  simp only[zaZ,St.mW] at hx;injection hx with hx;injection hx with h1 h2;subst h1 h2;exact⟨G,H,cr.refl _ _ _ _,rfl,by simp,by simp,rfl,fun _ h=>h⟩
 |(k,ps)::bO,σ,σ2,G,nm,ls,H,hx,hk,hi=>by
  have VC:=hk (k,ps) (by simp);have kF:(match σ.imp m nm (ps.map PC.er) with
   |some (l,iu,σ1)=>match σ1.mW m iu (bO.map fun p=>(p.1,p.2.map PC.er)) with
    |some (ls,σ2)=>some ((decide (k=.agg),l)::ls,σ2)
    |none=>none
   |none=>none)=some (ls,σ2):=by
   cases k with
   |ptr=>exact absurd rfl VC.1
   |one=>simp[St.mW] at hx;exact hx
   |agg=>simp[St.mW] at hx;exact hx
  clear hx;split at kF
  ·rename_i l iu σ1 e1;split at kF
   ·rename_i Ky j8 e2;injection kF with hx;injection hx with h1 h2;subst h1 h2;obtain⟨G1,a1,a2,a3,a4,a5,a6,a7⟩:=HR.imp H e1 (by simpa using hi);obtain⟨G',b1,b2,b3,b4,b5,b6,b7⟩:=HR.mW a1 e2 (fun p hp=>hk p (by simp[hp])) a7;refine⟨G',b1,cr.trans a6 a2 b2,by simp[b3],fun j x p hj hp=>?_,fun x hx c hc q hq=>?_,b6.trans a5,fun q hq=>b7 q (a6 q hq)⟩
    ·cases j with
     |zero=>
      simp at hj hp;subst hj;subst hp;have di:=eO.fu b2 (fun c hc q hq=>a4 c hc q hq) a3;cases k with
      |ptr=>exact absurd rfl VC.1
      |agg=>exact⟨ps.map PC.val,rfl,di⟩
      |one=>
       have h1:=VC.2 rfl;match ps,h1 with
       |[p],_=>exact di
     |succ j=>exact b4 j x p (by simpa using hj) (by simpa using hp)
    ·cases hx with
     |head=>exact b7 q (a4 c hc q hq)
     |tail _ hx=>exact b5 x hx c hc q hq
   ·cases kF
  ·cases kF
theorem RA.qe {ls:List (Bool×List ao)} {bO:List (K×List PC)} (hlen:ls.length=bO.length) (hk:∀p∈bO,p.1≠ .ptr/\(p.1=.one->p.2.length=1))
  (hv:∀(j:Nat) (x:Bool×List ao) (p:K×List PC),ls[j]? =some x->bO[j]? =some p->RV w G h x.1 x.2 (vf p)):RA w G h (qe ls) (ye bO):=by
 match ls,bO,hlen with
 |[],[],_=>exact⟨[],rfl,rfl,by simp⟩
 |[(ag,cs)],[p],_=>
  have h0:=hv 0 (ag,cs) p rfl rfl;cases ag with
  |true=>exact h0
  |false=>
   have di:eO w G h cs [vf p]:=h0;match cs,di.1 with
   |[c],_=>exact .inr h0
 |x::y::ls,p::q::bO,hl=>
  refine⟨(p::q::bO).map vf,rfl,by simpa using hl.symm,fun j x' u hj hu=>?_⟩;rw[zad] at hu;cases hp:(p::q::bO)[j]? with
  |none=>rw[hp] at hu;cases hu
  |some p'=>rw[hp] at hu;simp at hu;subst hu;exact hv j x' p' hj hp
def MN (P:Program) (T:br):Prop:=∀f M,br.find T.pure f=some M->dP P f M
def cc (P:Program) (f:FuncId):Bool:=
 match P.funcs[f]? with
 |some fn=>fn.body.isSome&&(fn.name != "runtime.NumGoroutine")
 |none=>false
theorem K8 {f:FuncId} (hc:cc P f=true) (args:Array Value):(callFunc f args).run P w=.ok (.enter f args) w:=by
 unfold cc at hc;split at hc
 ·rename_i fn hf;simp only[zar,bne_iff_ne,ne_eq] at hc;obtain⟨h1,h2⟩:=hc;cases hb:fn.body with
  |none=>rw[hb] at h1;cases h1
  |some c=>simp[callFunc,hf,h2,hb]
 ·cases hc
theorem Fr.call (F:Fr B E w0 w) (F':Fr w.heap.size Ex.no w w'):Fr B E w0 w':=
 F.grow (fun b hb=>F'.block b hb id) F'.size F'.os F'.tape F'.output
theorem apg (r:R B E w0 N σ a w G) {T:br} (hT:MN P T) {m:Mode} {f:FuncId} {as:List aA} {vals:List Value} {σ1:St} (hN:∀n,o.dst=some n->n<N)
  (c9:(execOp a.eval o).run P w=.ok (.enter f vals.toArray) w) (hl:vals.length=as.length)
  (uw:∀(j:Nat) (x:aA) (v:Value),as[j]? =some x->vals[j]? =some v->RA w G σ.h x v)
  (hx:yI T m o.dst f as σ=some σ1):o.wp P a w (Nx B E w0 N σ1) Q:=by
 unfold yI at hx;split at hx
 ·rename_i ds mP;split at hx
  ·rename_i M hM;split at hx
   ·rename_i rs za;split at hx
    ·rename_i ls σ2 JK;injection hx with hx;subst hx;have PJ:=r.hr.pt mP hl uw;unfold Oper.wp;rw[c9];refine(hT f M hM ds rs za w vals PJ).mono fun e w' ⟨bO,p1,p2,p3,p4,p5⟩=>?_;subst p2;have n8:∀b,b<w.heap.size->w'.heap[b]? =w.heap[b]? :=fun b hb=>p5.block b hb id;have H':=r.hr.grow n8 p5.size;have gU:yx B w' G σ.h (bO.flatMap (·.2)):=by
      refine⟨p4.gF,fun pc bU b hb=>?_,?_⟩
      ·obtain⟨n1,n2⟩:=p4.new pc bU b hb;refine⟨⟨fun hi=>?_,fun q hq nz he=>?_,fun q gr mo sz xs hq eI=>?_⟩,n2,zaG r.fr.size n1⟩
       ·have:=r.hr.jM b hi;omega
       ·have:=(r.hr.own q hq nz).2.2;omega
       ·have:=r.hr.wH hq eI;omega
      ·rw[List.pairwise_iff_getElem];intro i j hi hj mQ b hb;exact p4.qY i j _ _ b (by omega) (zac hi) (zac hj) hb
     rw[<-p1] at JK;obtain⟨G',b1,b2,b3,b4,b5,b6,b7⟩:=HR.mW H' JK p3 gU;have K:cr w G σ.h (fun n=>σ.used n=true) w' G' σ2.h:=cr.trans (fun _ h=>h) (cr.world (fun b hb=>n8 b (r.hr.jM b hb)) _) b2;have r2:R B E w0 N σ2 a w' G':=r.step b6 b7 K b1 (r.fr.call p5);refine⟨G',r2.put (RA.qe b3 p3 b4) ?_ hN⟩;intro q hq;match ls,hq with
     |[],hq=>obtain⟨x,hx,_⟩:=hq;simp at hx
     |[(true,cs)],hq=>obtain⟨c,hc,hq⟩:=hq;exact b5 (true,cs) (by simp) c hc q hq
     |[(false,[c])],hq=>exact b5 (false,[c]) (by simp) c (by simp) q hq
     |[(false,[])],hq=>exact absurd hq id
     |[(false,_::_::_)],hq=>exact absurd hq id
     |x::y::ls,hq=>obtain⟨x',kF,c,hc,hq⟩:=hq;exact b5 x' kF c hc q hq
    ·cases hx
   ·cases hx
  ·cases hx
 ·cases hx
theorem aAZ {ls:List (Bool×List ao)} {q:Nat} (dE:∀x∈ls,∀c∈x.2,¬c.ref q):¬(qe ls).ref q:=by
 intro hq;match ls,hq with
 |[],hq=>obtain⟨x,hx,_⟩:=hq;simp at hx
 |[(true,cs)],hq=>obtain⟨c,hc,hq⟩:=hq;exact dE (true,cs) (by simp) c hc hq
 |[(false,[c])],hq=>exact dE (false,[c]) (by simp) c (by simp) hq
 |[(false,[])],hq=>exact hq
 |[(false,_::_::_)],hq=>exact hq
 |x::y::ls,hq=>obtain⟨x',kF,c,hc,hq⟩:=hq;exact dE x' kF c hc hq
def ld:List Operand->List MO->Bool
 |[],[]=>true
 |x::xs,m::ms=>df x m&&ld xs ms
 |_,_=>false
theorem R.FU (r:R B E w0 N σ a w G):∀{xs:List Operand} {ms:List MO},ld xs ms=true->xs.length=ms.length/\
  ∀(j:Nat) (x:aA) (v:Value),(ms.map σ.ev)[j]? =some x->(xs.map a.eval)[j]? =some v->RA w G σ.h x v
 |[],[],_=>⟨rfl,by simp⟩
 |x::xs,m::ms,hc=>by
  simp only[ld,zar] at hc;obtain⟨i1,i2⟩:=r.FU hc.2;refine⟨by simp[i1],fun j x' v hj hv=>?_⟩;cases j with
  |zero=>simp at hj hv;subst hj;subst hv;exact(r.ev hc.1).1
  |succ j=>exact i2 j x' v (by simpa using hj) (by simpa using hv)
 |[],_::_,hc=>by simp[ld] at hc
 |_::_,[],hc=>by simp[ld] at hc
theorem apa (r:R B E w0 N σ a w G) {T:br} (hT:MN P T) {m:Mode} {f:FuncId} {xs:Array Operand} {ms:List MO} {ts:Array TypeId} {σ1:St} (hN:∀n,o.dst=some n->n<N)
  (ho:o.op=.call {callee:=.value (.func f),args:=xs,argTypes:=ts}) (hf:cc P f=true) (hm:ld xs.toList ms=true)
  (hx:yI T m o.dst f (ms.map σ.ev) σ=some σ1):o.wp P a w (Nx B E w0 N σ1) Q:=by
 obtain⟨e1,e2⟩:=r.FU hm;refine apg r hT (vals:=xs.toList.map a.eval) hN ?_ (by simpa using e1) e2 hx;have he:(xs.toList.map a.eval).toArray=xs.map a.eval:=by apply Array.ext';simp
 rw[he];simp[execOp,ho,resolve,Deferred.ofValue,invoke,Act.eval,K8 hf]
end
def gj {α:Type}:List (Option Mode)->List α->List (Mode×α)
 |some m::fs,x::xs=>(m,x)::gj fs xs
 |none::fs,_::xs=>gj fs xs
 |_,_=>[]
def rI {α:Type}:List (Option Mode)->List α->List α
 |some _::fs,_::xs=>rI fs xs
 |none::fs,x::xs=>x::rI fs xs
 |[],xs=>xs
 |_,[]=>[]
def eT {α:Type}:bi->List (List α)->List (Mode×α)
 |s::sig,xs::xss=>gj s xs++eT sig xss
 |_,_=>[]
def tV {α:Type}:bi->List (List α)->List α
 |s::sig,xs::xss=>rI s xs++tV sig xss
 |[],xss=>xss.flatten
 |_,[]=>[]
theorem Pm {α β:Type} (f:α->β):∀(s:List (Option Mode)) (xs:List α),gj s (xs.map f)=(gj s xs).map fun x=>(x.1,f x.2)
 |some m::fs,x::xs=>by simp only[zak,gj,Pm f fs xs]
 |none::fs,x::xs=>by simp only[zak,gj,Pm f fs xs]
 |[],_=>by simp[gj]
 |some m::fs,[]=>rfl
 |none::fs,[]=>rfl
theorem FW {α β:Type} (f:α->β):∀(s:bi) (xs:List (List α)),eT s (xs.map fun l=>l.map f)=(eT s xs).map fun x=>(x.1,f x.2)
 |s::sig,xs::xss=>by simp only[zak,eT,zaK,Pm f s xs,FW f sig xss]
 |[],_=>by simp[eT]
 |s::sig,[]=>rfl
structure CI (w:World) (m:Mode) (pc:PC):Prop where
 sep:Sep pc
 un:∀b,bR b pc->fL w b
 gd:∃sz a cap xs,pc=.list sz a cap xs/\0<sz/\(∀b o,a=some (ad b o)->¬bY b xs)/\xm m (xs.map fun e=>e.map PC.er)=true
structure PA where
 k:K
 ps:List PC
 b:Nat
 o:Nat
def EL (w:World) (d:Dv) (v:Value) (p:PA):Prop:=
 d=(p.k,p.ps.map PC.er)/\(∀pc∈p.ps,Good w pc)/\
 match p.k with
 |.one=>p.ps.map PC.val=[v]
 |.agg=>v=.agg (p.ps.map PC.val).toArray
 |.ptr=>v=.pointer (some (ad p.b p.o))/\p.b<w.heap.size/\∀j c,p.ps[j]? =some c->w.cell? (ad p.b (p.o+j))=some c.val
structure CH (w:World) (sig:bi) (ds:List Dv) (vals:List Value) (pas:List PA):Prop where
 l1:vals.length=ds.length
 l2:pas.length=ds.length
 at_:∀(i:Nat) (d:Dv) (v:Value) (p:PA),ds[i]? =some d->vals[i]? =some v->pas[i]? =some p->EL w d v p
 ok:∀x∈eT sig (pas.map (·.ps)),CI w x.1 x.2
 qY:(eT sig (pas.map (·.ps))).Pairwise fun x y=>∀b,bR b x.2->¬bR b y.2
 free:∀pc∈tV sig (pas.map (·.ps)),∀x∈eT sig (pas.map (·.ps)),∀b,bR b pc->¬bR b x.2
 ptr:∀p∈pas,p.k=.ptr->∀x∈eT sig (pas.map (·.ps)),¬bR p.b x.2
 ay5:∀(i:Nat) (p:PA) (s:List (Option Mode)),pas[i]? =some p->sig[i]? =some s->p.k=.ptr->s=[]
def AJ (fl:List (Mode×PC)):Ex:=⟨fun b=>∃x∈fl,bR b x.2,fun _=>none,fun _ _ h=>(by cases h),fun _=>True⟩
structure sU (w:World) (m:Mode) (pc fh:PC):Prop where
 val:fh.val=pc.val
 gF:Good w fh
 sep:Sep fh
 sub:∀b,bR b fh->bR b pc
 flat:xm m (match fh.er with|.list _ xs=>xs|_=>[])=true
 live:∀sz a cap xs bu a' oO aM,pc=.list sz a cap xs->fh=.list bu a' oO aM->bu=sz/\a'=a/\oO=cap/\aM.length=xs.length/\
  (m=.live->∀k j c,At xs k j c->c.jX=true->∃c',At aM k j c'/\c'.val=c.val/\c'.jX=true)
def rM (P:Program) (f:FuncId) (sig:bi) (M:List Dv->Option (List Dv×List C)):Prop:=
 ∀ds rs eV,M ds=some (rs,eV)->∀(w:World) (vals:List Value) (pas:List PA),CH w sig ds vals pas->Calls P f vals.toArray w fun e w'=>
  ∃bO:List (K×List PC),bO.map (fun p=>(p.1,p.2.map PC.er))=rs/\e=.returned (ye bO)/\(∀p∈bO,p.1≠ .ptr/\(p.1=.one->p.2.length=1))/\
   CK w' w.heap.size (bO.flatMap (·.2))/\Fr w.heap.size (AJ (eT sig (pas.map (·.ps)))) w w'/\
   ∃qs:List PC,qs.map PC.er=eV/\qs.length=(eT sig (pas.map (·.ps))).length/\
    ∀(i:Nat) (x:Mode×PC) (q:PC),(eT sig (pas.map (·.ps)))[i]? =some x->qs[i]? =some q->sU w' x.1 x.2 q
section
variable {B:Nat} {E:Ex} {w0 w w':World} {G G':Gh} {N:Nat} {h h':Nat->Option aK} {used:Nat->Bool}
variable {P:Program} {o:Oper} {a:Act} {σ σ':St} {Q:Exit->Act->World->Prop}
def rF (sz:Nat) (p:PB):PC:=.list sz (if p.nl=true then p.na else some (ad p.b p.o)) p.cap p.px
theorem ajJ {gr:Bool} {m:Mode} {sz:Nat} {xs:List (List C)} {p:PB} (hr:yz B E w G gr m sz xs p):(rF sz p).er=.list sz xs:=by
 rw[rF,PC.fN,hr.er]
theorem aA7 {gr:Bool} {m:Mode} {sz:Nat} {xs:List (List C)} {p:PB} (hr:yz B E w G gr m sz xs p) {v:Value} (hv:nh p sz 0 xs.length v):(rF sz p).val=v:=by
 have je:p.px.length=xs.length:=by rw[hr.er];simp
 rcases hv with⟨hn,rfl,_,hl⟩|⟨hn,a,rfl,hc,ha⟩
 ·simp[rF,PC.val,hn,je,hl]
 ·have:=ha (.inr rfl);subst this;simp[rF,PC.val,hn,je]
theorem aA6 {gr:Bool} {m:Mode} {sz:Nat} {xs:List (List C)} {p:PB} (hr:yz B E w G gr m sz xs p):Good w (rF sz p):=by
 unfold rF;by_cases h0:p.px=[]
 ·rw[h0];exact .nil _ _ _ hr.pos
 ·have bI:p.nl=false:=by
   cases hq:p.nl with
   |false=>rfl
   |true=>exact absurd (hr.nl hq).1 h0
  obtain⟨a1,a2,a3⟩:=hr.gd bI;rw[if_neg (by simp[bI])];exact .cons _ _ _ _ _ h0 a3 hr.pos a2.1 a2.2.1 a2.2.2
theorem YC {sz:Nat} {p:PB} {b:Nat} (hn:p.nl=true->p.px=[]) (h:bR b (rF sz p)):(p.nl=false/\b=p.b)\/bY b p.px:=by
 unfold rF at h;rw[bR.oE] at h;rcases h with⟨h0,o,ho⟩|⟨k,j,c,hk,hb⟩
 ·cases hq:p.nl with
  |true=>exact absurd (hn hq) h0
  |false=>
   rw[hq] at ho;simp at ho;exact .inl ⟨rfl,(qS ho).1.symm⟩
 ·exact .inr ⟨k,j,c,hk,hb⟩
def vP (G:Gh) (n b:Nat):Prop:=((G.g n).nl=false/\b=(G.g n).b)\/bY b (G.g n).px
structure wY (B:Nat) (E:Ex) (w:World) (G:Gh) (h:Nat->Option aK) (it:eC) (md:Mode) (pc:PC):Prop where
 ok:CI w md pc
 gF:Good w pc
 at_:match it with
  |.nil sz=>pc=.list sz none 0 []
  |.row n=>∃gr m sz xs,h n=some (.row gr m sz xs)/\m≠ .aV/\(md=.live->m=.live)/\pc=rF sz (G.g n)/\xm md xs=true
  |.nest n k off=>∃gr sz xs,h n=some (.row gr .live sz xs)/\md=.aZ/\At (G.g n).px k off pc
theorem wY.qu {it:eC} {md:Mode} {pc:PC} (H:HR B E w G h used []) (i:wY B E w G h it md pc) {b:Nat} (hb:bR b pc):
  ∃n gr m sz xs,it.fJ=some n/\h n=some (.row gr m sz xs)/\m≠ .aV/\vP G n b/\((∀b,¬bY b (G.g n).px)\/m=.live):=by
 have ha:=i.at_;cases it with
 |nil sz=>
  have ha:pc=.list sz none 0 []:=ha;subst ha;rw[bR.oE] at hb;rcases hb with⟨hb,_⟩|⟨k,j,c,⟨e,he,_⟩,_⟩
  ·exact absurd rfl hb
  ·simp at he
 |row n=>
  obtain⟨gr,m,sz,xs,h1,h2,h3,rfl,h5⟩:=ha;have hr:=H.row n gr m sz xs h1;refine⟨n,gr,m,sz,xs,rfl,h1,h2,YC (fun hq=>(hr.nl hq).1) hb,?_⟩;cases md with
  |live=>exact .inr (h3 rfl)
  |aV=>cases h5
  |aZ=>
   left;intro b' bX;have Pz:jQ xs=true:=h5;rw[hr.er] at Pz;obtain⟨k,j,c,⟨e,he,hj⟩,hc⟩:=bX;have h6:=zam.1 Pz (e.map PC.er) (by simp only[zaz];exact⟨e,zaa he,rfl⟩);have h7:=zam.1 h6 c.er (by simp only[zaz];exact⟨c,zaa hj,rfl⟩);exact(Sep.o8 h7).2 b' hc
 |nest n k off=>
  obtain⟨gr,sz,xs,h1,h2,h3⟩:=ha;exact⟨n,gr,.live,sz,xs,rfl,h1,by simp,.inr ⟨k,off,pc,h3,hb⟩,.inr rfl⟩
theorem HR.Jo (H:HR B E w G h used []) {n n':Nat} (aR:n≠n') {gr cv:Bool} {m m':Mode} {sz bu:Nat} {xs aM:List (List C)} (h1:h n=some (.row gr m sz xs)) (h2:h n'=some (.row cv m' bu aM))
  (cQ:(∀b,¬bY b (G.g n').px)\/m'=.live) {b:Nat} (hb:vP G n b):¬vP G n' b:=by
 have e1:h n≠none:=by rw[h1];simp
 have e2:h n'≠none:=by rw[h2];simp
 have own:∀{p q:Nat} {gr:Bool} {m:Mode} {sz:Nat} {xs:List (List C)},h p≠none->h q=some (.row gr m sz xs)->(G.g p).nl=false->¬bY (G.g p).b (G.g q).px:=by
  intro p q gr m sz xs hp hq hl hF;have jm:=(H.row q gr m sz xs hq).mode;cases m with
  |aV=>exact(H.own p hp hl).1 (jm _ hF)
  |aZ=>exact(H.own p hp hl).1 (jm.1 _ hF).1
  |live=>exact H.live q gr sz xs hq _ hF p hp hl rfl
 rintro(⟨l2,rfl⟩|b2)
 ·rcases hb with⟨l1,b1⟩|b1
  ·exact H.inj n n' e1 e2 aR l1 l2 b1.symm
  ·exact own e2 h1 l2 b1
 ·rcases hb with⟨l1,rfl⟩|b1
  ·exact own e1 h2 l1 b2
  ·rcases cQ with cQ|rfl
   ·exact cQ b b2
   ·have q2:=(H.row n' cv .live bu aM h2).mode;have q1:=(H.row n gr m sz xs h1).mode;cases m with
    |aV=>exact(q2.1 b b2).1 (q1 b b1)
    |aZ=>exact(q2.1 b b2).1 (q1.1 b b1).1
    |live=>exact H.ja n n' gr .live sz xs cv .live bu aM h1 h2 (by simp) (by simp) aR b b1 b2
theorem HR.item (H:HR B E w G h used []) {md:Mode} {c:ao} {it:eC} {x:C} {v:Value} (hx:wB h md c=some (it,x)) (hc:RC w G h c v):
  ∃pc:PC,pc.er=x/\pc.val=v/\wY B E w G h it md pc/\it.fJ=c.fJ:=by
 unfold wB at hx;split at hx
 ·rename_i sz;split at hx
  ·rename_i fO;injection hx with hx;injection hx with h1 h2;subst h1 h2;have dJ:v=.slice none 0 0:=hc;subst dJ;refine⟨.list sz none 0 [],by simp[PC.fN],rfl,⟨⟨?_,?_,sz,none,0,[],rfl,fO.1,(fun b o h=>by cases h),?_⟩,.nil _ _ _ fO.1,rfl⟩,rfl⟩
   ·refine .list _ _ _ _ ?_ ?_ ?_
    ·rintro k j c ⟨e,he,_⟩;simp at he
    ·rintro b o k j c _ ⟨e,he,_⟩;simp at he
    ·rintro k j c k' j' c' b ⟨e,he,_⟩;simp at he
   ·intro b hb;rw[bR.oE] at hb;rcases hb with⟨hb,_⟩|⟨k,j,c,⟨e,he,_⟩,_⟩
    ·exact absurd rfl hb
    ·simp at he
   ·cases md with
    |aV=>exact absurd rfl fO.2
    |aZ=>rfl
    |live=>rfl
  ·cases hx
 ·rename_i n sz lo len;split at hx
  ·rename_i gr m rs xs hn;split at hx
   ·rename_i eQ;obtain⟨hm,y5,rfl,rfl,rfl,oR⟩:=eQ;injection hx with hx;injection hx with h1 h2;subst h1 h2;have c8:h n≠none:=by rw[hn];simp
    have hs:nh (G.g n) rs 0 xs.length v:=hc c8;have hr:=H.row n gr m rs xs hn;have vZ:(∀b,bY b (G.g n).px->fL w b)/\kU (G.g n).px/\(∀b,bY b (G.g n).px->(G.g n).nl=false->b≠(G.g n).b):=by
     have eR:=hr.mode;cases m with
     |aV=>exact absurd rfl hm
     |aZ=>exact⟨fun b hb=>(eR.1 b hb).2.1,eR.2,fun b hb hl gw=>(H.own n c8 hl).1 (gw▸(eR.1 b hb).1)⟩
     |live=>exact⟨fun b hb=>(eR.1 b hb).2.1,eR.2,fun b hb hl=>H.live n gr rs xs hn b hb n c8 hl⟩
    obtain⟨o1,o2,o3⟩:=vZ;have Bj:∀b o,(if(G.g n).nl=true then(G.g n).na else some (ad (G.g n).b (G.g n).o))=some (ad b o)->¬bY b (G.g n).px:=by
     intro b o gT hF;cases hq:(G.g n).nl with
     |true=>rw[(hr.nl hq).1] at hF;obtain⟨k,j,c,⟨e,he,_⟩,_⟩:=hF;simp at he
     |false=>
      rw[hq] at gT;simp at gT;exact o3 b hF hq (qS gT).1.symm
    refine⟨rF rs (G.g n),ajJ hr,aA7 hr hs,⟨⟨.list _ _ _ _ o2.1 (fun b o k j c gT hk hb=>Bj b o gT ⟨k,j,c,hk,hb⟩) o2.2,fun b hb=>?_,rs,_,_,_,rfl,hr.pos,Bj,by rw[<-hr.er];exact oR⟩,aA6 hr,
     gr,m,rs,xs,hn,hm,y5,rfl,oR⟩,rfl⟩
    rcases YC (fun hq=>(hr.nl hq).1) hb with⟨hl,rfl⟩|hF
    ·exact(hr.gd hl).1
    ·exact o1 b hF
   ·cases hx
  ·cases hx
 ·rename_i n k aY off sz len;split at hx
  ·rename_i gr rs xs hn;split at hx
   ·rename_i eQ;obtain⟨rfl,rfl⟩:=eQ;split at hx
    ·rename_i s ys xD;split at hx
     ·rename_i oR;injection hx with hx;injection hx with h1 h2;subst h1 h2;obtain⟨pc,p1,p2,p3⟩:=hc gr xs hn;have hr:=H.row n gr .live rs xs hn;have bI:(G.g n).nl=false:=by
       cases hq:(G.g n).nl with
       |false=>rfl
       |true=>obtain⟨e,he,_⟩:=p1;rw[(hr.nl hq).1] at he;simp at he
      have jc:Good w pc:=(hr.gd bI).2.1.2.2 _ _ _ p1;have yX:pc.er=.list s ys:=by
       obtain⟨e,he,hj⟩:=p1;rw[hr.er] at xD;simp[he,hj] at xD;exact xD
      have oh:=hr.mode.2.1 _ _ _ p1;cases pc with
      |int k n=>cases p3
      |bool b=>cases p3
      |list s' a' oO px'=>
       rw[PC.fN] at yX;injection yX with g1 g2;subst g1;have mz:jQ (px'.map fun e=>e.map PC.er)=true:=by rw[g2];exact oR
       refine⟨_,by rw[PC.fN,g2],p2,⟨⟨oh,fun b hb=>(hr.mode.1 b ⟨k,off,_,p1,hb⟩).2.1,s',a',oO,px',rfl,?_,fun b o _ hF=>?_,mz⟩,jc,gr,rs,xs,hn,rfl,p1⟩,rfl⟩
       ·cases jc with
        |nil _ _ _ h=>exact h
        |cons _ _ _ _ _ _ _ h=>exact h
       ·obtain⟨kk,jj,c,⟨e,he,hj⟩,hc⟩:=hF;have h6:=zam.1 mz (e.map PC.er) (by simp only[zaz];exact⟨e,zaa he,rfl⟩);have h7:=zam.1 h6 c.er (by simp only[zaz];exact⟨c,zaa hj,rfl⟩);exact(Sep.o8 h7).2 b hc
     ·cases hx
    ·cases hx
   ·cases hx
  ·cases hx
 ·cases hx
theorem HR.abk (H:HR B E w G h used []) {c:ao} {x:C} {v:Value} (hx:Am.dH h c=some x) (hc:RC w G h c v):
  ∃pc:PC,pc.er=x/\pc.val=v/\Good w pc/\∀b,bR b pc->G.Im b\/∃n gr m sz xs,c.fJ=some n/\h n=some (.row gr m sz xs)/\vP G n b:=by
 cases c with
 |c y=>
  simp only[Am.dH] at hx;injection hx with hx;subst hx;obtain⟨pc,h1,h2,h3,h4⟩:=hc;exact⟨pc,h1,h2,h3,fun b hb=>.inl (h4 b hb)⟩
 |nil sz=>
  simp only[Am.dH] at hx;split at hx
  ·rename_i fO;injection hx with hx;subst hx;have dJ:v=.slice none 0 0:=hc;subst dJ;refine⟨.list sz none 0 [],by simp[PC.fN],rfl,.nil _ _ _ fO,fun b hb=>?_⟩;rw[bR.oE] at hb;rcases hb with⟨hb,_⟩|⟨k,j,c,⟨e,he,_⟩,_⟩
   ·exact absurd rfl hb
   ·simp at he
  ·cases hx
 |sl n sz lo len=>
  simp only[Am.dH] at hx;split at hx
  ·rename_i gr m rs xs hn;split at hx
   ·rename_i eQ;obtain⟨rfl,hl⟩:=eQ;injection hx with hx;subst hx;have hs:nh (G.g n) rs lo len v:=hc (by rw[hn];simp);obtain⟨a1,a2,a3,a4⟩:=Lq (H.row n gr m rs xs hn) hs hl;exact⟨_,a1,a2,a3,fun b hb=>.inr ⟨n,gr,m,rs,xs,rfl,hn,a4 b hb⟩⟩
   ·cases hx
  ·cases hx
 |cJ n k aY off sz len=>
  simp only[Am.dH] at hx;split at hx
  ·rename_i gr rs xs hn;split at hx
   ·rename_i eQ;subst eQ;obtain⟨pc,p1,p2,p3⟩:=hc gr xs hn;have hr:=H.row n gr .live rs xs hn;have bI:(G.g n).nl=false:=by
     cases hq:(G.g n).nl with
     |false=>rfl
     |true=>obtain⟨e,he,_⟩:=p1;rw[(hr.nl hq).1] at he;simp at he
    refine⟨pc,?_,p2,(hr.gd bI).2.1.2.2 _ _ _ p1,fun b hb=>.inr ⟨n,gr,.live,rs,xs,rfl,hn,.inr ⟨k,off,pc,p1,hb⟩⟩⟩;obtain⟨e,he,hj⟩:=p1;rw[hr.er] at hx;simp[he,hj] at hx;exact hx
   ·cases hx
  ·cases hx
 |ptr _ _ _ _=>simp[Am.dH] at hx
 |dR _ _=>simp[Am.dH] at hx
 |fn _ _=>simp[Am.dH] at hx
 |eG _ _ _ _ _ _=>simp[Am.dH] at hx
 |cD=>simp[Am.dH] at hx
theorem afS {ns:List Nat} {n:Nat} {b:aK} (hx:fV h ns n=some b):h n=some b/\n∉ns:=by
 unfold fV at hx;split at hx
 ·cases hx
 ·rename_i hc;exact⟨hx,fun hm=>hc (by simpa using hm)⟩
theorem amK {ns:List Nat} {c:ao} {x:C} (hx:dH (fV h ns) c=some x):dH h c=some x/\∀n,c.fJ=some n->n∉ns:=by
 cases c with
 |c y=>exact⟨hx,by intro n hn;cases hn⟩
 |nil sz=>exact⟨hx,by intro n hn;cases hn⟩
 |sl n sz lo len=>
  simp only[Am.dH] at hx;split at hx
  ·rename_i gr m rs xs hn;obtain⟨h1,h2⟩:=afS hn;exact⟨by simp only[Am.dH,h1];exact hx,by intro q hq;injection hq with hq;subst hq;exact h2⟩
  ·cases hx
 |cJ n k aY off sz len=>
  simp only[Am.dH] at hx;split at hx
  ·rename_i gr rs xs hn;obtain⟨h1,h2⟩:=afS hn;exact⟨by simp only[Am.dH,h1];exact hx,by intro q hq;injection hq with hq;subst hq;exact h2⟩
  ·cases hx
 |ptr _ _ _ _=>simp[Am.dH] at hx
 |dR _ _=>simp[Am.dH] at hx
 |fn _ _=>simp[Am.dH] at hx
 |eG _ _ _ _ _ _=>simp[Am.dH] at hx
 |cD=>simp[Am.dH] at hx
def Si (G:Gh) (h:Nat->Option aK) (ns:List Nat) (pc:PC):Prop:=
 ∀b,bR b pc->G.Im b\/∃n gr m sz xs,n∉ns/\h n=some (.row gr m sz xs)/\vP G n b
structure qk (B:Nat) (E:Ex) (w:World) (G:Gh) (h:Nat->Option aK) (its:List (eC×Mode)) (fl:List (Mode×PC)):Prop where
 len:its.length=fl.length
 at_:∀(i:Nat) (it:eC×Mode) (x:Mode×PC),its[i]? =some it->fl[i]? =some x->it.2=x.1/\wY B E w G h it.1 x.1 x.2
theorem qk.nil:qk B E w G h [] []:=⟨rfl,by intro i it x h;simp at h⟩
theorem qk.cons {it:eC×Mode} {its:List (eC×Mode)} {x:Mode×PC} {fl:List (Mode×PC)} (h1:it.2=x.1) (h2:wY B E w G h it.1 x.1 x.2) (h3:qk B E w G h its fl):qk B E w G h (it::its) (x::fl):=by
 refine⟨by simp[h3.len],fun i DN x' hi hx=>?_⟩;cases i with
 |zero=>simp at hi hx;subst hi;subst hx;exact⟨h1,h2⟩
 |succ i=>exact h3.at_ i DN x' (by simpa using hi) (by simpa using hx)
theorem qk.append {its zr:List (eC×Mode)} {fl fl':List (Mode×PC)} (h1:qk B E w G h its fl) (h2:qk B E w G h zr fl'):qk B E w G h (its++zr) (fl++fl'):=by
 refine⟨by simp[h1.len,h2.len],fun i it x hi hx=>?_⟩;by_cases cC:i<its.length
 ·rw[zaf cC] at hi;rw[zaf (by rw[<-h1.len];exact cC)] at hx;exact h1.at_ i it x hi hx
 ·rw[zag (by omega)] at hi;rw[zag (by rw[<-h1.len];omega)] at hx;rw[h1.len] at hi;exact h2.at_ _ it x hi hx
theorem HR.mY (H:HR B E w G h used []) {ns:List Nat}:∀{fs:List (Option Mode)} {cs:List ao} {xs:List C} {its:List (eC×Mode)} {vs:List Value},Am.mY h (fV h ns) fs cs=some (xs,its)->eO w G h cs vs->
  ∃ps:List PC,ps.map PC.er=xs/\ps.map PC.val=vs/\(∀pc∈ps,Good w pc)/\qk B E w G h its (gj fs ps)/\its.filterMap (·.1.fJ)=qJ fs cs/\∀pc∈rI fs ps,Si G h ns pc
 |[],cs,xs,its,vs,hx,hc=>by
  simp only[Am.mY] at hx;split at hx
  ·rename_i ys hy;injection hx with hx;injection hx with h1 h2;subst h1 h2;have cN:∀(cs:List ao) (xs:List C) (vs:List Value),Am.j6 (fV h ns) cs=some xs->eO w G h cs vs->∃ps:List PC,ps.map PC.er=xs/\ps.map PC.val=vs/\(∀pc∈ps,Good w pc)/\∀pc∈ps,Si G h ns pc:=by
    intro cs;induction cs with
    |nil=>
     intro xs vs hx hc;simp only[Am.j6] at hx;injection hx with hx;subst hx;have:vs=[]:=zae (by simpa using hc.1);subst this;exact⟨[],rfl,rfl,by simp,by simp⟩
    |cons c cs ih=>
     intro xs vs hx hc;simp only[Am.j6] at hx;split at hx
     ·rename_i x aM e1 e2;injection hx with hx;subst hx;obtain⟨hlen,cY⟩:=hc;match vs,hlen with
      |v::vs,hlen=>
       obtain⟨v1,v2⟩:=amK e1;obtain⟨pc,a1,a2,a3,a4⟩:=H.abk v1 (cY 0 c v rfl rfl).2;obtain⟨ps,b1,b2,b3,b4⟩:=ih aM vs e2 ⟨by simpa using hlen,fun j c u h1 h2=>cY (j+1) c u h1 h2⟩;refine⟨pc::ps,by simp[a1,b1],by simp[a2,b2],fun q hq=>?_,fun q hq=>?_⟩
       ·cases hq with
        |head=>exact a3
        |tail _ hq=>exact b3 q hq
       ·cases hq with
        |head=>exact fun b hb=>(a4 b hb).imp id fun⟨n,gr,m,sz,xs,hn,h1,h2⟩=>⟨n,gr,m,sz,xs,v2 n hn,h1,h2⟩
        |tail _ hq=>exact b4 q hq
     ·cases hx
   obtain⟨ps,b1,b2,b3,b4⟩:=cN cs ys vs hy hc;exact⟨ps,b1,b2,b3,by simpa[gj] using qk.nil,by simp[qJ],by simpa[rI] using b4⟩
  ·cases hx
 |f::fs,[],xs,its,vs,hx,hc=>by cases f<;>simp[Am.mY] at hx
 |none::fs,c::cs,xs,its,vs,hx,hc=>by
  simp only[Am.mY] at hx;split at hx
  ·rename_i x aM zr e1 e2;injection hx with hx;injection hx with h1 h2;subst h1 h2;obtain⟨hlen,cY⟩:=hc;match vs,hlen with
   |v::vs,hlen=>
    obtain⟨v1,v2⟩:=amK e1;obtain⟨pc,a1,a2,a3,a4⟩:=H.abk v1 (cY 0 c v rfl rfl).2;obtain⟨ps,b1,b2,b3,b4,b5,b6⟩:=H.mY e2 (vs:=vs) ⟨by simpa using hlen,fun j c u h1 h2=>cY (j+1) c u h1 h2⟩;refine⟨pc::ps,by simp[a1,b1],by simp[a2,b2],fun q hq=>?_,by simpa[gj] using b4,by simpa[qJ] using b5,fun q hq=>?_⟩
    ·cases hq with
     |head=>exact a3
     |tail _ hq=>exact b3 q hq
    ·simp only[rI] at hq;cases hq with
     |head=>exact fun b hb=>(a4 b hb).imp id fun⟨n,gr,m,sz,xs,hn,h1,h2⟩=>⟨n,gr,m,sz,xs,v2 n hn,h1,h2⟩
     |tail _ hq=>exact b6 q hq
  ·cases hx
 |some md::fs,c::cs,xs,its,vs,hx,hc=>by
  simp only[Am.mY] at hx;split at hx
  ·rename_i it x aM zr e1 e2;injection hx with hx;injection hx with h1 h2;subst h1 h2;obtain⟨hlen,cY⟩:=hc;match vs,hlen with
   |v::vs,hlen=>
    obtain⟨pc,a1,a2,a3,a4⟩:=H.item e1 (cY 0 c v rfl rfl).2;obtain⟨ps,b1,b2,b3,b4,b5,b6⟩:=H.mY e2 (vs:=vs) ⟨by simpa using hlen,fun j c u h1 h2=>cY (j+1) c u h1 h2⟩;refine⟨pc::ps,by simp[a1,b1],by simp[a2,b2],fun q hq=>?_,?_,?_,fun q hq=>b6 q (by simpa[rI] using hq)⟩
    ·cases hq with
     |head=>exact a3.gF
     |tail _ hq=>exact b3 q hq
    ·simp only[gj];exact qk.cons rfl a3 b4
    ·simp only[qJ,<-a4,<-b5];cases jn:it.fJ with
     |none=>simp[jn]
     |some n=>simp[jn]
  ·cases hx
theorem HR.o6 (H:HR B E w G h used []) {ns:List Nat}:∀{as:List (Bool×List ao)} {sig:bi} {ds:List Dv} {its:List (eC×Mode)} {vals:List Value},Am.o6 h (fV h ns) sig as=some (ds,its)->vals.length=as.length->
  (∀(j:Nat) (x:Bool×List ao) (v:Value),as[j]? =some x->vals[j]? =some v->RV w G h x.1 x.2 v)->
  ∃pas:List PA,pas.length=ds.length/\vals.length=ds.length/\(∀(i:Nat) (d:Dv) (v:Value) (p:PA),ds[i]? =some d->vals[i]? =some v->pas[i]? =some p->EL w d v p)/\(∀p∈pas,p.k≠ .ptr)/\
   qk B E w G h its (eT sig (pas.map (·.ps)))/\its.filterMap (·.1.fJ)=nN sig as/\∀pc∈tV sig (pas.map (·.ps)),Si G h ns pc
 |[],sig,ds,its,vals,hx,hl,hc=>by
  simp only[Am.o6] at hx;injection hx with hx;injection hx with h1 h2;subst h1 h2;refine⟨[],rfl,by simpa using hl,by simp,by simp,?_,?_,?_⟩
  ·cases sig<;>exact qk.nil
  ·cases sig<;>rfl
  ·cases sig<;>simp[tV]
 |(ag,cs)::as,sig,ds,its,vals,hx,hl,hc=>by
  simp only[Am.o6] at hx;split at hx
  ·rename_i xs agu yK agv e1 e2;injection hx with hx;injection hx with h1 h2;subst h1 h2;match vals,hl with
   |v::vals,hl=>
    have h0:=hc 0 (ag,cs) v rfl rfl;obtain⟨q1,q2,q3,q4,q5,q6,q7⟩:=H.o6 e2 (as:=as) (vals:=vals) (by simpa using hl) (fun j x v h1 h2=>hc (j+1) x v h1 h2);obtain⟨vs,lP,hR⟩:∃vs:List Value,(if ag=true then v=.agg vs.toArray else vs=[v])/\eO w G h cs vs:=by
     unfold RV at h0;split at h0
     ·rename_i cM;obtain⟨vs,e,hR⟩:=h0;exact⟨vs,by rw[if_pos cM];exact e,hR⟩
     ·rename_i cM;exact⟨[v],by rw[if_neg cM],h0⟩
    obtain⟨ps,p1,p2,p3,p4,p5,p6⟩:=H.mY e1 hR;refine⟨⟨if ag=true then .agg else .one,ps,0,0⟩::q1,by simp[q2],by simp[q3],fun i d v' p hd hv hp=>?_,fun p hp=>?_,?_,?_,?_⟩
    ·cases i with
     |zero=>
      simp at hd hv hp;subst hd hv hp;cases ag with
      |true=>
       simp only[if_true] at lP⊢;exact⟨by rw[p1],p3,by simp only[p2];exact lP⟩
      |false=>
       simp only[if_false,Bool.false_eq_true] at lP⊢;exact⟨by rw[p1],p3,by simp only[p2];exact lP⟩
     |succ i=>exact q4 i d v' p (by simpa using hd) (by simpa using hv) (by simpa using hp)
    ·cases hp with
     |head=>cases ag<;>simp
     |tail _ hp=>exact q5 p hp
    ·cases sig with
     |nil=>
      have e3:gj (bi.hd ([]:bi)) ps=[]:=rfl;rw[e3] at p4;have e4:agu=[]:=zae p4.len;subst e4;have e5:eT (bi.tl ([]:bi)) (q1.map (·.ps))=[]:=rfl;rw[e5] at q6;have e6:agv=[]:=zae q6.len;subst e6;exact qk.nil
     |cons s sig=>exact qk.append p4 q6
    ·cases sig with
     |nil=>
      have e3:gj (bi.hd ([]:bi)) ps=[]:=rfl;rw[e3] at p4;have e4:agu=[]:=zae p4.len;subst e4;have e5:eT (bi.tl ([]:bi)) (q1.map (·.ps))=[]:=rfl;rw[e5] at q6;have e6:agv=[]:=zae q6.len;subst e6;rfl
     |cons s sig=>
      rw[List.filterMap_append,p5,q7.1];rfl
    ·intro pc bU;cases sig with
     |nil=>
      simp only[zak,tV,zaA,zau] at bU;rcases bU with bU|bU
      ·exact p6 pc bU
      ·exact q7.2 pc (by simpa[tV,bi.tl] using bU)
     |cons s sig=>
      simp only[zak,tV,zau] at bU;rcases bU with bU|bU
      ·exact p6 pc bU
      ·exact q7.2 pc bU
  ·cases hx
end
section
variable {B:Nat} {E:Ex} {w0 w w':World} {G G':Gh} {N:Nat} {h h':Nat->Option aK} {used:Nat->Bool}
variable {P:Program} {o:Oper} {a:Act} {σ σ':St} {Q:Exit->Act->World->Prop}
structure LW (w':World) (p p':PB) (gr:Bool) (m:Mode) (sz:Nat) (aM:List (List C)):Prop where
 m1:m≠ .aV
 fl:(∀b,¬bY b p.px)\/m=.live
 nl:p'.nl=p.nl
 b:p'.b=p.b
 o:p'.o=p.o
 cap:p'.cap=p.cap
 na:p'.na=p.na
 er:aM=p'.px.map (fun e=>e.map PC.er)
 nlx:p.nl=true->p'.px=[]
 gd:p.nl=false->sV w' p.b p.o sz p'.px/\p'.px.length<=p.cap
 sep:kU p'.px
 sub:∀b,bY b p'.px->bY b p.px
 live:m=.live->∀k j pc,At p.px k j pc->pc.jX=true->∃fh,At p'.px k j fh/\fh.val=pc.val/\fh.jX=true
theorem HR.QQ (H:HR B E w G h used []) {S:Nat->Prop} (dd:w.heap.size<=w'.heap.size)
  (hw:∀b,b<w.heap.size->(∀n,S n->¬vP G n b)->w'.heap[b]? =w.heap[b]?) (pR:∀b,b<w.heap.size->Cz w w' b) (qy:G'.Im=G.Im)
  (hS:∀n,S n->∃gr m sz xs aM,h n=some (.row gr m sz xs)/\h' n=some (.row gr m sz aM)/\LW w' (G.g n) (G'.g n) gr m sz aM)
  (hN:∀n,¬S n->h' n=h n/\G'.g n=G.g n):HR B E w' G' h' used []/\cr w G h (fun n=>used n=true) w' G' h'/\∀n b,bY b (G'.g n).px->bY b (G.g n).px:=by
 have ne:∀n,h' n≠none->h n≠none:=by
  intro n hn;by_cases hs:S n
  ·obtain⟨gr,m,sz,xs,aM,e1,e2,_⟩:=hS n hs;rw[e1];simp
  ·rwa[(hN n hs).1] at hn
 have jk:∀n,(G'.g n).nl=(G.g n).nl/\(G'.g n).b=(G.g n).b/\(G'.g n).o=(G.g n).o/\(G'.g n).cap=(G.g n).cap/\(G'.g n).na=(G.g n).na:=by
  intro n;by_cases hs:S n
  ·obtain⟨gr,m,sz,xs,aM,e1,e2,c⟩:=hS n hs;exact⟨c.nl,c.b,c.o,c.cap,c.na⟩
  ·rw[(hN n hs).2];exact⟨rfl,rfl,rfl,rfl,rfl⟩
 have sub:∀n b,bY b (G'.g n).px->bY b (G.g n).px:=by
  intro n b hb;by_cases hs:S n
  ·obtain⟨gr,m,sz,xs,aM,e1,e2,c⟩:=hS n hs;exact c.sub b hb
  ·rwa[(hN n hs).2] at hb
 have nQ:∀n gr m sz aM,h' n=some (.row gr m sz aM)->∃xs,h n=some (.row gr m sz xs):=by
  intro n gr m sz aM hn;by_cases hs:S n
  ·obtain⟨Py,m1,sK,xs,vr,e1,e2,_⟩:=hS n hs;rw[e2] at hn;injection hn with hn;injection hn with a1 a2 a3 a4;subst a1 a2 a3;exact⟨xs,e1⟩
  ·rw[(hN n hs).1] at hn;exact⟨aM,hn⟩
 have aco:∀n cs,h' n=some (.box cs)->h n=some (.box cs)/\¬S n:=by
  intro n cs hn;by_cases hs:S n
  ·obtain⟨Py,m1,sK,xs,vr,e1,e2,_⟩:=hS n hs;rw[e2] at hn;cases hn
  ·rw[(hN n hs).1] at hn;exact⟨hn,hs⟩
 have avr:∀b,G.Im b->w'.heap[b]? =w.heap[b]? :=by
  intro b hb;refine hw b (H.jM b hb) fun n hs hf=>?_;obtain⟨gr,m,sz,xs,aM,e1,e2,c⟩:=hS n hs;rcases hf with⟨hl,rfl⟩|hF
  ·exact(H.own n (by rw[e1];simp) hl).1 hb
  ·rcases c.fl with c1|rfl
   ·exact c1 b hF
   ·exact((H.row n gr .live sz xs e1).mode.1 b hF).1 hb
 have Xd:∀n,¬S n->h n≠none->(G.g n).nl=false->w'.heap[(G.g n).b]? =w.heap[(G.g n).b]? :=by
  intro n hs hn hl;refine hw _ (H.own n hn hl).2.2 fun q hq hf=>?_;obtain⟨gr,m,sz,xs,aM,e1,e2,c⟩:=hS q hq;have aR:n≠q:=fun e=>hs (e▸hq);rcases hf with⟨uE,hb⟩|hF
  ·exact H.inj n q hn (by rw[e1];simp) aR hl uE hb
  ·rcases c.fl with c1|rfl
   ·exact c1 _ hF
   ·exact H.live q gr sz xs e1 _ hF n hn hl rfl
 have avs:∀n gr m sz xs,¬S n->h n=some (.row gr m sz xs)->∀b,bY b (G.g n).px->w'.heap[b]? =w.heap[b]? :=by
  intro n gr m sz xs hs hn b hb;refine hw _ (H.wH hn hb) fun q hq hf=>?_;obtain⟨cv,m',bu,vr,amU,e1,e2,c⟩:=hS q hq;have aR:n≠q:=fun e=>hs (e▸hq);exact H.Jo aR hn e1 c.fl (.inr hb) hf
 have K:cr w G h (fun n=>used n=true) w' G' h':=by
  refine⟨fun b hb=>by rw[qy];exact hb,fun b hb o=>lG (avr b hb) o,fun n _ hn=>⟨ne n hn,jk n⟩,fun n gr sz aM _ hn=>?_⟩;obtain⟨xs,e⟩:=nQ n gr .live sz aM hn;refine⟨⟨gr,xs,e⟩,fun k j pc hk hL=>?_⟩;by_cases hs:S n
  ·obtain⟨Py,m1,sK,vr,amU,e1,e2,c⟩:=hS n hs;rw[e] at e1;injection e1 with e1;injection e1 with _ e1 _ _;exact c.live e1.symm k j pc hk hL
  ·rw[(hN n hs).2];exact⟨pc,hk,rfl,hL⟩
 refine⟨⟨fun n hn=>H.lI n (ne n hn),fun m cs c n hm=>H.j7 m cs c n (aco m cs hm).1,fun n cs hn=>?_,fun n gr m sz aM hn=>?_,fun n hn hl=>?_,fun n n' hn cb aR hl fv=>?_,
  fun b hb=>?_,fun b hb=>H.tC b (by rw[qy] at hb;exact hb),fun n n' gr m sz xs cv m' bu aM hn cb hm cQ aR b hb bX=>?_,fun n gr sz xs hn b hb n' cb hl=>?_,?_,?_,?_⟩,K,sub⟩
 ·obtain⟨h1,hs⟩:=aco n cs hn;obtain⟨a1,a2,a3⟩:=H.box n cs h1;have hb:=Xd n hs (by rw[h1];simp) a1;rw[(hN n hs).2];refine⟨a1,a2.congr hb,fun j c hj=>?_⟩;obtain⟨v,v1,v2,v3⟩:=a3 j c hj;exact⟨v,(lG hb _).trans v1,v2,v3.fu K fun q hq=>H.j7 n cs c q h1 (zaa hj) hq⟩
 ·by_cases hs:S n
  ·obtain⟨Py,m1,sK,vr,amU,e1,e2,c⟩:=hS n hs;rw[e2] at hn;injection hn with hn;injection hn with q1 q2 q3 q4;subst q1 q2 q3 q4;have hr:=H.row n Py m1 sK vr e1;refine⟨hr.pos,c.er,fun hl=>?_,fun hl=>?_,fun hl hg=>?_,?_⟩
   ·rw[c.nl] at hl;refine⟨c.nlx hl,fun hg=>?_⟩;rw[c.cap];exact(hr.nl hl).2 hg
   ·rw[c.nl] at hl;obtain⟨l1,l2,l3⟩:=hr.gd hl;obtain⟨c1,c2⟩:=c.gd hl;rw[c.b,c.o,c.cap];exact⟨(pR _ l1.lt).kS l1,c1,c2⟩
   ·rw[c.nl] at hl;obtain⟨r2,cur,e,r3,r4⟩:=hr.room hl hg;obtain⟨mN,s1,s2⟩:=pR (G.g n).b (H.own n (by rw[e1];simp) hl).2.2 cur e r3;unfold Tj;rw[c.b,c.o,c.cap];exact⟨r2,mN,e,s1,s2.trans r4⟩
   ·have hm:=hr.mode;cases m1 with
    |aV=>exact absurd rfl c.m1
    |aZ=>exact⟨fun b hb=>by
     have bX:=c.sub b hb;have:=hm.1 b bX;exact⟨by rw[qy];exact this.1,(pR b this.2.1.lt).kS this.2.1,this.2.2⟩,c.sep⟩
    |live=>exact⟨fun b hb=>by
     have bX:=c.sub b hb;have:=hm.1 b bX;exact⟨by rw[qy];exact this.1,(pR b this.2.1.lt).kS this.2.1,this.2.2⟩,c.sep⟩
  ·rw[(hN n hs).1] at hn;rw[(hN n hs).2];have hr:=H.row n gr m sz aM hn;have f9:=avs n gr m sz aM hs hn;refine⟨hr.pos,hr.er,hr.nl,fun hl=>?_,fun hl hg=>?_,?_⟩
   ·obtain⟨l1,l2,l3⟩:=hr.gd hl;have hb:=Xd n hs (by rw[hn];simp) hl;exact⟨l1.congr hb,l2.congr (fun o=>lG hb o) (fun b' bX o=>lG (f9 b' bX) o),l3⟩
   ·obtain⟨r2,cur,e,r3,r4⟩:=hr.room hl hg;exact⟨r2,cur,e,(Xd n hs (by rw[hn];simp) hl).trans r3,r4⟩
   ·have hm:=hr.mode;cases m with
    |aV=>exact fun b hb=>by rw[qy];exact hm b hb
    |aZ=>exact⟨fun b hb=>⟨by rw[qy];exact(hm.1 b hb).1,(hm.1 b hb).2.1.congr (f9 b hb),(hm.1 b hb).2.2⟩,hm.2⟩
    |live=>exact⟨fun b hb=>⟨by rw[qy];exact(hm.1 b hb).1,(hm.1 b hb).2.1.congr (f9 b hb),(hm.1 b hb).2.2⟩,hm.2⟩
 ·obtain⟨s1,s2,s3,s4,s5⟩:=jk n;rw[s1] at hl;rw[s2];obtain⟨o1,o2,o3⟩:=H.own n (ne n hn) hl;exact⟨by rw[qy];exact o1,o2,zaj o3 dd⟩
 ·rw[(jk n).1] at hl;rw[(jk n').1] at fv;rw[(jk n).2.1,(jk n').2.1];exact H.inj n n' (ne n hn) (ne n' cb) aR hl fv
 ·rw[qy] at hb;exact zaj (H.jM b hb) dd
 ·obtain⟨x1,e1⟩:=nQ n gr m sz xs hn;obtain⟨x2,e2⟩:=nQ n' cv m' bu aM cb;exact H.ja n n' gr m sz x1 cv m' bu x2 e1 e2 hm cQ aR b (sub n b hb) (sub n' b bX)
 ·obtain⟨x1,e1⟩:=nQ n gr .live sz xs hn;rw[(jk n').1] at hl;rw[(jk n').2.1];exact H.live n gr sz x1 e1 b (sub n b hb) n' (ne n' cb) hl
 ·intro i pc hi;simp at hi
 ·intro i j pc fh b _ hi;simp at hi
 ·intro i pc n gr m sz xs b hi;simp at hi
def Iv (σ σ1:St) (it:eC) (x:C):Prop:=
 match it with
 |.nil _=>True
 |.row n=>∃gr m rs xs aM,σ.h n=some (.row gr m rs xs)/\x=.list rs aM/\σ1.h n=some (.row gr m rs aM)
 |.nest n k off=>∃gr m rs xs e,σ.h n=some (.row gr m rs xs)/\xs[k]? =some e/\σ1.h n=some (.row gr m rs (xs.set k (e.set off x)))
theorem aAE {it:eC} {x:C} {σ1:St} (hx:σ.rD it x=some σ1):σ1.env=σ.env/\σ1.used=σ.used/\(∀n,it.fJ≠some n->σ1.h n=σ.h n)/\Iv σ σ1 it x:=by
 cases it with
 |nil sz=>simp only[St.rD] at hx;injection hx with hx;subst hx;exact⟨rfl,rfl,fun _ _=>rfl,trivial⟩
 |row n=>
  cases x with
  |int k i=>simp[St.rD] at hx
  |bool b=>simp[St.rD] at hx
  |list sz xs=>
   simp only[St.rD] at hx;split at hx
   ·rename_i gr m rs oL hn;split at hx
    ·rename_i e;injection hx with hx;subst hx;subst e;exact⟨rfl,rfl,fun q hq=>dN _ _ _ _ (fun e=>hq (by rw[e];rfl)),gr,m,rs,oL,xs,hn,rfl,cT _ _ _⟩
    ·cases hx
   ·cases hx
 |nest n k off=>
  simp only[St.rD] at hx;split at hx
  ·rename_i gr m rs xs hn;split at hx
   ·rename_i e he;injection hx with hx;subst hx;exact⟨rfl,rfl,fun q hq=>dN _ _ _ _ (fun e=>hq (by rw[e];rfl)),gr,m,rs,xs,e,hn,he,cT _ _ _⟩
   ·cases hx
  ·cases hx
theorem Iv.congr {σ σ1 τ sO:St} {it:eC} {x:C} (hx:Iv σ σ1 it x) (h1:∀n,it.fJ=some n->τ.h n=σ.h n) (h2:∀n,it.fJ=some n->sO.h n=σ1.h n):Iv τ sO it x:=by
 cases it with
 |nil sz=>trivial
 |row n=>obtain⟨gr,m,rs,xs,aM,e1,e2,e3⟩:=hx;exact⟨gr,m,rs,xs,aM,(h1 n rfl).trans e1,e2,(h2 n rfl).trans e3⟩
 |nest n k off=>obtain⟨gr,m,rs,xs,e,e1,e2,e3⟩:=hx;exact⟨gr,m,rs,xs,e,(h1 n rfl).trans e1,e2,(h2 n rfl).trans e3⟩
theorem Ut {it:eC×Mode} {its:List (eC×Mode)} (h:it.1.fJ=none):(it::its).filterMap (·.1.fJ)=its.filterMap (·.1.fJ):=List.filterMap_cons_none h
theorem FZ {it:eC×Mode} {its:List (eC×Mode)} {n:Nat} (h:it.1.fJ=some n):(it::its).filterMap (·.1.fJ)=n::its.filterMap (·.1.fJ):=List.filterMap_cons_some h
theorem ajr:∀{its:List (eC×Mode)} {eV:List C} {σ σ1:St},σ.tM its eV=some σ1->(its.filterMap (·.1.fJ)).Nodup->σ1.env=σ.env/\σ1.used=σ.used/\
  (∀n,n∉its.filterMap (·.1.fJ)->σ1.h n=σ.h n)/\∀(i:Nat) (it:eC×Mode) (x:C),its[i]? =some it->eV[i]? =some x->Iv σ σ1 it.1 x
 |[],[],σ,σ1,hx,iI=>by
  simp only[St.tM] at hx;injection hx with hx;subst hx;exact⟨rfl,rfl,fun _ _=>rfl,by intro i it x h;simp at h⟩
 |it::its,x::eV,σ,σ2,hx,iI=>by
  simp only[St.tM] at hx;split at hx
  ·rename_i σ1 e1;obtain⟨p1,p2,p3,p4⟩:=aAE e1;have xv:(its.filterMap (·.1.fJ)).Nodup:=by
    cases hn:it.1.fJ with
    |none=>rw[Ut hn] at iI;exact iI
    |some n=>rw[FZ hn] at iI;exact(zaL.1 iI).2
   have rh:∀n,it.1.fJ=some n->n∉its.filterMap (·.1.fJ):=by
    intro n hn;rw[FZ hn] at iI;exact(zaL.1 iI).1
   obtain⟨q1,q2,q3,q4⟩:=ajr hx xv;refine⟨q1.trans p1,q2.trans p2,fun n hn=>?_,fun i DN x' hi kF=>?_⟩
   ·have h1:it.1.fJ≠some n:=by
     intro e;rw[FZ e] at hn;exact hn (by simp)
    have h2:n∉its.filterMap (·.1.fJ):=by
     intro hm;apply hn;cases hq:it.1.fJ with
     |none=>rw[Ut hq];exact hm
     |some q=>rw[FZ hq];exact List.mem_cons_of_mem _ hm
    exact(q3 n h2).trans (p3 n h1)
   ·cases i with
    |zero=>
     simp at hi kF;subst hi;subst kF;exact p4.congr (fun _ _=>rfl) (fun n hn=>q3 n (rh n hn))
    |succ i=>
     have fA:its[i]? =some DN:=by simpa using hi
     refine(q4 i DN x' fA (by simpa using kF)).congr (fun n hn=>?_) (fun _ _=>rfl);refine(p3 n ?_).symm;intro e;refine rh n e ?_;rw[zbb];exact⟨DN,zaa fA,hn⟩
  ·cases hx
 |[],_::_,σ,σ1,hx,_=>by simp[St.tM] at hx
 |_::_,[],σ,σ1,hx,_=>by simp[St.tM] at hx
theorem QR:∀{its:List (eC×Mode)},(its.filterMap (·.1.fJ)).Nodup->∀{i j:Nat} {x y:eC×Mode} {n:Nat},its[i]? =some x->its[j]? =some y->x.1.fJ=some n->y.1.fJ=some n->i=j
 |[],_,i,j,x,y,n,hi,_,_,_=>by simp at hi
 |it::its,iI,i,j,x,y,n,hi,hj,hx,hy=>by
  have xv:(its.filterMap (·.1.fJ)).Nodup:=by
   cases hn:it.1.fJ with
   |none=>rw[Ut hn] at iI;exact iI
   |some n=>rw[FZ hn] at iI;exact(zaL.1 iI).2
  have rh:∀n,it.1.fJ=some n->∀(k:Nat) (z:eC×Mode),its[k]? =some z->z.1.fJ≠some n:=by
   intro n hn k z hk e;rw[FZ hn] at iI;exact(zaL.1 iI).1 (zbb.2 ⟨z,zaa hk,e⟩)
  cases i with
  |zero=>
   cases j with
   |zero=>rfl
   |succ j=>
    simp at hi hj;subst hi;exact absurd hy (rh n hx j y hj)
  |succ i=>
   cases j with
   |zero=>
    simp at hi hj;subst hj;exact absurd hx (rh n hy i x hi)
   |succ j=>exact congrArg (·+1) (QR xv (i:=i) (j:=j) (by simpa using hi) (by simpa using hj) hx hy)
end
end Go.Am
