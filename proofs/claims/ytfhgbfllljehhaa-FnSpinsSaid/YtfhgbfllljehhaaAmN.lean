/- Am1, Am2, Am3, Am4, Am5, Am6, Am7, Am8, Am9, Am10, Am11, Am12, Am13, Am14, Am15, Am16, AmM, AmN: parts of the proof. No condition. -/
import Derived.LoopN
import Derived.Orders
import Derived.Laws.AppendOwn
import Derived.Laws.MakeOwn
import Derived.Laws.Tables
import Derived.Below
import Derived.Laws.Small
import Derived.Laws.StructEq
set_option linter.unusedVariables false
set_option linter.unusedSimpArgs false
open List renaming mem_of_getElem?->co,getElem?_map->so,getElem?_eq_some_iff->wt,getElem?_eq_getElem->AI,eq_nil_of_length_eq_zero->AN,getElem?_append_left->AT,getElem?_append_right->By,map_cons->If,all_eq_true->IT,replicate->OF,mem_map->Pe,getElem_of_mem->zab,mem_map_of_mem->zae,length_nil->zaf,mem_of_mem_drop->zah,mem_of_mem_take->zai,length_map->zaj,mem_append->zak,getElem?_toArray->zal,nil_append->zam,flatten_cons->zao,length_cons->zaq,getElem?_drop->zar,length_append->zat,map_append->zax,nodup_cons->zay,mem_or_eq_of_mem_set->zaB,size_toArray->zaD,append_assoc->zaE,getElem?_take_of_lt->zaF,drop_eq_nil_of_le->zaG,getElem?_set_self->zaH,getElem?_eq_none->zaI,take->zaK,map_nil->zaN,getElem?_set_ne->zaP,take_zero->zaQ,length_flatMap->zaS,flatten_append->zaU,map_take->zaV,map_drop->zaW,drop->zaX,ne_nil_of_mem->zaY,pairwise_cons->za0,mem_filterMap->za1,zipIdx_cons->za4,flatten_nil->za5,length->za7,append_nil->za8,drop_zero->za9,sum_cons->zbd
open Nat renaming mul_le_mul_right->BY,add_mul->GB,lt_of_lt_of_le->IN,zero_add->IS,add_assoc->Pd,le_refl->zad,le_mul_of_pos_right->zas,le_trans->zau,eq_zero_or_pos->zaz,add_zero->zaA,lt_trichotomy->zaC,zero_mul->zaL,mul_comm->zaM,add_le_add_left->zaT,div_eq_of_lt->za3,mul_add_div->za6,lt_irrefl->zbc,lt_or_ge->zbe,zero_le->zbg,beq->zbh,ble->zbi
open Option.some renaming injEq->zaa
open Array renaming length_toList->zac,getElem?_eq_some_iff->zap,toList_map->zav,getD_eq_getD_getElem?->zaw,size_append->za2,ext'->zba,range->zbf
open Bool renaming and_eq_true->zag,false_eq_true->zaZ,and_self->zbb
open Prod.mk renaming injEq->zan
open Ne renaming symm->zaJ
open Option renaming map_none->zaO
open Int renaming toNat_of_nonneg->zaR
namespace Go.Am
theorem ah.{u} {c:Prop} {h:Decidable c} (a:c) {α:Sort u} {t e:α}:ite c t e=t:=if_pos a
theorem ak.{u} {c:Prop} {h:Decidable c} (a:¬c) {α:Sort u} {t e:α}:ite c t e=e:=if_neg a
inductive C where
 |int (k:IntKind) (n:Int)
 |bool (b:Bool)
 |list (sz:Nat) (xs:List (List C))
instance:Inhabited C:=⟨.bool false⟩
def ad (b o:Nat):Addr:=⟨b,o,none⟩
theorem ud (b o n:Nat):(ad b o).add n=ad b (o+n):=by unfold ad Addr.add;split;rename_i h;subst h;rfl;rfl
theorem q9 {b o c a:Nat} (h:ad b o=ad c a):b=c/\o=a:=by unfold ad at h;injection h with d h2;exact⟨d,h2⟩
inductive PC where
 |int (k:IntKind) (n:Int)
 |bool (b:Bool)
 |list (sz:Nat) (a:Option Addr) (cap:Nat) (xs:List (List PC))
instance:Inhabited PC:=⟨.bool false⟩
mutual
def PC.er:PC->C
 |.int k n=>.int k n
 |.bool b=>.bool b
 |.list sz _ _ xs=>.list sz (PC.KP xs)
def PC.aE:List PC->List C
 |[]=>[]
 |c::cs=>PC.er c::PC.aE cs
def PC.KP:List (List PC)->List (List C)
 |[]=>[]
 |e::es=>PC.aE e::PC.KP es
end
theorem PC.ap0 (l:List PC):PC.aE l=l.map PC.er:=by induction l with|nil=>simp[PC.aE]|cons c l a=>simp[PC.aE,a]
theorem PC.apZ (l:List (List PC)):PC.KP l=l.map (fun e=>e.map PC.er):=by induction l with|nil=>simp[PC.KP]|cons c l a=>simp[PC.KP,PC.ap0,a]
theorem PC.fK (sz:Nat) (a:Option Addr) (cap:Nat) (xs:List (List PC)):(PC.list sz a cap xs).er=.list sz (xs.map (fun e=>e.map PC.er)):=by simp[PC.er,PC.apZ]
def PC.val:PC->Value
 |.int k n=>.int k n
 |.bool b=>.bool b
 |.list _ a cap xs=>.slice a xs.length cap
theorem PC.od (c:PC):c.val.oneCell'=true:=by cases c<;>rfl
def At {α:Type} (xs:List (List α)) (k j:Nat) (c:α):Prop:=∃e,xs[k]? =some e/\e[j]? =some c
inductive bD (b:Nat):PC->Prop where
 |here (sz o cap:Nat) (xs:List (List PC)):xs≠[]->bD b (.list sz (some (ad b o)) cap xs)
 |there (sz:Nat) (a:Option Addr) (cap:Nat) (xs:List (List PC)) (k j:Nat) (c:PC):At xs k j c->bD b c->bD b (.list sz a cap xs)
theorem bD.pq {b sz:Nat} {a:Option Addr} {cap:Nat} {xs:List (List PC)}: bD b (.list sz a cap xs)↔(xs≠[]/\∃o,a=some (ad b o))\/∃k j c,At xs k j c/\bD b c:=by constructor;intro h;(cases h with|here sz o cap xs h=>exact .inl ⟨h,o,rfl⟩|there sz a cap xs k j c d e=>exact .inr ⟨k,j,c,d,e⟩);rintro(⟨h,o,rfl⟩|⟨k,j,c,d,e⟩);exact .here _ _ _ _ h;exact .there _ _ _ _ k j c d e
theorem bD.axp {b:Nat} {k:IntKind} {n:Int}:¬bD b (.int k n):=fun h=>by cases h
theorem bD.axo {b:Nat} {x:Bool}:¬bD b (.bool x):=fun h=>by cases h
inductive Good (w:World):PC->Prop where
 |int (k:IntKind) (n:Int):Good w (.int k n)
 |bool (b:Bool):Good w (.bool b)
 |nil (sz:Nat) (a:Option Addr) (cap:Nat):0<sz->Good w (.list sz a cap [])
 |cons (sz b o cap:Nat) (xs:List (List PC)):xs≠[]->xs.length<=cap->0<sz->(∀e∈xs,e.length=sz)->
  (∀k j c,At xs k j c->w.cell? (ad b (o+k*sz+j))=some c.val)->(∀k j c,At xs k j c->Good w c)->Good w (.list sz (some (ad b o)) cap xs)
theorem Good.congr {w w':World} {c:PC} (h:Good w c) (f:∀b,bD b c->∀o,w'.cell? (ad b o)=w.cell? (ad b o)):Good w' c:=by induction h with|int k n=>exact .int k n|bool b=>exact .bool b|nil sz a cap h=>exact .nil sz a cap h|cons sz b o cap xs e i p g l h6 m=>refine .cons sz b o cap xs e i p g (fun k j c d=>?_) (fun k j c d=>m k j c d fun r s q=>?_);rw[f b (.here _ _ _ _ e)];exact l k j c d;exact f r (.there _ _ _ _ k j c d s) q
theorem aco {xs:List (List PC)} {sz:Nat} (a:xs≠[]) (h3:0<sz) (d:∀e∈xs,e.length=sz):∃c,At xs 0 0 c:=by cases xs with|nil=>exact absurd rfl a|cons e es=>have b:=d e (by simp);cases e with|nil=>simp at b;omega|cons c cs=>exact⟨c,c::cs,rfl,rfl⟩
theorem Good.lt {w:World} {c:PC} (h:Good w c) {b:Nat} (hb:bD b c):b<w.heap.size:=by induction h with|int k n=>cases hb|bool b=>cases hb|nil sz a cap h=>(cases hb with|here _ _ _ _ h=>exact absurd rfl h|there _ _ _ _ k j c d f=>obtain⟨e,i,_⟩:=d;simp at i)|cons sz b' o cap xs d f q g l h6 m=>cases hb with|here _ _ _ _ h=>obtain⟨c,p⟩:=aco d q g;exact World.block_lt_of_cell? (a:=ad b (o+0*sz+0)) w (l 0 0 c p)|there _ _ _ _ k j c d f=>exact m k j c d f
inductive Sep:PC->Prop where
 |int (k:IntKind) (n:Int):Sep (.int k n)
 |bool (b:Bool):Sep (.bool b)
 |list (sz:Nat) (a:Option Addr) (cap:Nat) (xs:List (List PC)):(∀k j c,At xs k j c->Sep c)->
  (∀b o k j c,a=some (ad b o)->At xs k j c->¬bD b c)->
  (∀k j c k' j' c' b,At xs k j c->At xs k' j' c'->(k,j)≠(k',j')->bD b c->¬bD b c')->Sep (.list sz a cap xs)
def bF (b:Nat) (px:List (List PC)):Prop:=∃k j c,At px k j c/\bD b c
def lK (px:List (List PC)):Prop:=
 (∀k j c,At px k j c->Sep c)/\∀k j c k' j' c' b,At px k j c->At px k' j' c'->(k,j)≠(k',j')->bD b c->¬bD b c'
def sY (w:World) (b o sz:Nat) (px:List (List PC)):Prop:=
 (∀e∈px,e.length=sz)/\(∀k j c,At px k j c->w.cell? (ad b (o+k*sz+j))=some c.val)/\∀k j c,At px k j c->Good w c
def fA (w:World) (b:Nat):Prop:=∃arr e,w.heap[b]? =some (.cells arr e (0,0))
theorem fA.lt {w:World} {b:Nat} (h:fA w b):b<w.heap.size:=by obtain⟨arr,e,h⟩:=h;exact(zap.1 h).1
theorem fA.congr {w w':World} {b:Nat} (h:fA w b) (hb:w'.heap[b]? =w.heap[b]?):fA w' b:=by obtain⟨arr,e,h⟩:=h;exact⟨arr,e,hb.trans h⟩
theorem kx {w w':World} {b:Nat} (hb:w'.heap[b]? =w.heap[b]?) (o:Nat):w'.cell? (ad b o)=w.cell? (ad b o):=by simp[World.cell?,ad,hb]
theorem sY.congr {w w':World} {b o sz:Nat} {px:List (List PC)} (h:sY w b o sz px) (e:∀o,w'.cell? (ad b o)=w.cell? (ad b o)) (g:∀a,bF a px->∀o,w'.cell? (ad a o)=w.cell? (ad a o)):sY w' b o sz px:= ⟨h.1,fun k j c d=>(e _).trans (h.2.1 k j c d),fun k j c d=>(h.2.2 k j c d).congr fun a i f=>g a ⟨k,j,c,d,i⟩ f⟩
theorem sY.lt {w:World} {b o sz:Nat} {px:List (List PC)} (h:sY w b o sz px) {a:Nat} (hb:bF a px):a<w.heap.size:=by obtain⟨k,j,c,e,d⟩:=hb;exact(h.2.2 k j c e).lt d
inductive aj where
 |c (x:C)
 |nil (sz:Nat)
 |ptr (n k sz off:Nat)
 |dN (xs:List C) (off:Nat)
 |sl (n sz lo len:Nat)
 |cF (n k aO off sz len:Nat)
 |dU (n k aO off sz i:Nat)
 |dh (xs:List C) (off j n sz len:Nat)
 |fn (f:FuncId) (dM:List aj)
 |bZ
instance:Inhabited aj:=⟨.bZ⟩
inductive Mode where
 |live|aS|aQ
 deriving DecidableEq
inductive aA where
 |box (cs:List aj)
 |row (gr:Bool) (m:Mode) (sz:Nat) (xs:List (List C))
inductive au where
 |one (c:aj)
 |agg (cs:List aj)
 |ct (xs:List (Bool×List aj))
instance:Inhabited au:=⟨.one .bZ⟩
structure St where
 env:Nat->au
 h:Nat->Option aA
 used:Nat->Bool
def aV {α:Type} (f:Nat->α) (k:Nat) (v:α):Nat->α:=fun n=>match zbh n k with
 |true=>v
 |false=>f n
theorem mR {α:Type} (f:Nat->α) (k:Nat) (v:α) (n:Nat):aV f k v n=if n=k then v else f n:=by unfold aV;split;rename_i e;rw[ah (Nat.eq_of_beq_eq_true e)];rename_i e;rw[ak (fun h=>by rw[h,Nat.beq_refl] at e;cases e)]
theorem cX {α:Type} (f:Nat->α) (k:Nat) (v:α):aV f k v k=v:=by simp[mR]
theorem dJ {α:Type} (f:Nat->α) (k n:Nat) (v:α) (h:n≠k):aV f k v n=f n:=by simp[mR,h]
def aj.j4:aj->Nat->Prop
 |.ptr n _ _ _,m=>m=n
 |.sl n _ _ _,m=>m=n
 |.cF n _ _ _ _ _,m=>m=n
 |.dU n _ _ _ _ _,m=>m=n
 |.dh _ _ _ n _ _,m=>m=n
 |_,_=>False
def aj.ref:aj->Nat->Prop
 |.fn _ dM,m=>∃x∈dM,x.j4 m
 |x,m=>x.j4 m
def au.ref:au->Nat->Prop
 |.one c,m=>c.ref m
 |.agg cs,m=>∃c∈cs,c.ref m
 |.ct xs,m=>∃x∈xs,∃c∈x.2,c.ref m
structure PB where
 nl:Bool
 b:Nat
 o:Nat
 cap:Nat
 px:List (List PC)
 na:Option Addr
instance:Inhabited PB:=⟨⟨false,0,0,0,[],none⟩⟩
def aL:Nat:=1000000
structure Ex where
 e:Nat->Prop
 nZ:Nat->Option PB
 lt:∀n p,nZ n=some p->aL<=n
 a:Nat->Prop
instance:CoeFun Ex (fun _=>Nat->Prop):=⟨Ex.e⟩
def Ex.no:Ex:=⟨fun _=>False,fun _=>none,fun _ _ h=>(by cases h),fun _=>True⟩
structure Gh where
 Im:Nat->Prop
 g:Nat->PB
def PC.jY:PC->Bool
 |.list ..=>true
 |_=>false
def kY (p:PB) (sz lo len:Nat) (v:Value):Prop:=
 (p.nl=true/\v=.slice p.na 0 p.cap/\lo=0/\len=0)\/
 (p.nl=false/\∃a,v=.slice a len (p.cap - lo)/\lo+len<=p.cap/\((lo<p.cap\/lo=0)->a=some (ad p.b (p.o+lo*sz))))
def jQ (w:World) (G:Gh) (h:Nat->Option aA):aj->Value->Prop
 |.c x,v=>∃pc:PC,pc.er=x/\pc.val=v/\Good w pc/\∀b,bD b pc->G.Im b
 |.nil _,v=>v=.slice none 0 0
 |.ptr n k sz off,v=>h n≠none->(G.g n).nl=false/\v=.pointer (some (ad (G.g n).b ((G.g n).o+k*sz+off)))
 |.dN xs off,v=>∃(b o:Nat) (pe:List PC),v=.pointer (some (ad b (o+off)))/\pe.map PC.er=xs/\G.Im b/\
  ∀j c,pe[j]? =some c->w.cell? (ad b (o+j))=some c.val/\Good w c/\∀b',bD b' c->G.Im b'
 |.sl n sz lo len,v=>h n≠none->kY (G.g n) sz lo len v
 |.cF n k aO off sz len,v=>∀gr xs,h n=some (.row gr .live aO xs)->∃pc,At (G.g n).px k off pc/\pc.val=v/\pc.jY=true
 |.dU n k aO off sz i,v=>∀gr xs,h n=some (.row gr .live aO xs)->∃(pc:PC) (b o len cap:Nat),At (G.g n).px k off pc/\pc.val=.slice (some (ad b o)) len cap/\pc.jY=true/\v=.pointer (some (ad b (o+i*sz)))
 |.dh xs off j n sz len,v=>∃(b o:Nat) (pe:List PC),v=.pointer (some (ad b (o+off)))/\pe.map PC.er=xs/\G.Im b/\
  (∀i c,i≠j->pe[i]? =some c->w.cell? (ad b (o+i))=some c.val/\Good w c/\∀b',bD b' c->G.Im b')/\∃u,w.cell? (ad b (o+j))=some u/\u.oneCell'=true/\(h n≠none->kY (G.g n) sz 0 len u)
 |.fn _ _,_=>False
 |.bZ,_=>True
def RC (w:World) (G:Gh) (h:Nat->Option aA):aj->Value->Prop
 |.fn f dM,v=>∃vs:List Value,v=.func (.func f) #[] vs.toArray/\vs.length=dM.length/\∀(j:Nat) (c:aj) (u:Value),dM[j]? =some c->vs[j]? =some u->u.oneCell'=true/\jQ w G h c u
 |c,v=>jQ w G h c v
def aj.kP:aj->Bool
 |.fn _ _=>true
 |_=>false
theorem wO (w:World) (G:Gh) (h:Nat->Option aA) (c:aj) (v:Value) (a:c.kP=false):RC w G h c v=jQ w G h c v:=by cases c<;>first|rfl|(simp[aj.kP] at a)
theorem aj.ZE (c:aj) (m:Nat) (a:c.kP=false):c.ref m=c.j4 m:=by cases c<;>first|rfl|(simp[aj.kP] at a)
def ed (w:World) (G:Gh) (h:Nat->Option aA) (cs:List aj) (vs:List Value):Prop:=
 vs.length=cs.length/\∀(j:Nat) (c:aj) (u:Value),cs[j]? =some c->vs[j]? =some u->u.oneCell'=true/\RC w G h c u
def RV (w:World) (G:Gh) (h:Nat->Option aA) (ag:Bool) (cs:List aj) (v:Value):Prop:=
 if ag then∃vs:List Value,v=.agg vs.toArray/\ed w G h cs vs else ed w G h cs [v]
def RA (w:World) (G:Gh) (h:Nat->Option aA):au->Value->Prop
 |.one c,v=>c=.bZ\/RV w G h false [c] v
 |.agg cs,v=>RV w G h true cs v
 |.ct xs,v=>∃vs:List Value,v=.tuple vs.toArray/\vs.length=xs.length/\∀(j:Nat) (x:Bool×List aj) (u:Value),xs[j]? =some x->vs[j]? =some u->RV w G h x.1 x.2 u
structure cm (w:World) (G:Gh) (h:Nat->Option aA) (used:Nat->Prop) (w':World) (G':Gh) (h':Nat->Option aA):Prop where
 im:∀b,G.Im b->G'.Im b
 cell:∀b,G.Im b->∀o,w'.cell? (ad b o)=w.cell? (ad b o)
 name:∀n,used n->h' n≠none->h n≠none/\(G'.g n).nl=(G.g n).nl/\(G'.g n).b=(G.g n).b/\(G'.g n).o=(G.g n).o/\(G'.g n).cap=(G.g n).cap/\(G'.g n).na=(G.g n).na
 live:∀n gr sz xs,used n->h' n=some (.row gr .live sz xs)->(∃uE lI,h n=some (.row uE .live sz lI))/\
  ∀k j pc,At (G.g n).px k j pc->pc.jY=true->∃eW,At (G'.g n).px k j eW/\eW.val=pc.val/\eW.jY=true
section
variable {w w':World} {G G':Gh} {h h':Nat->Option aA} {used:Nat->Prop}
theorem jQ.keep (K:cm w G h used w' G' h') {c:aj} {v:Value} (hr:∀m,c.j4 m->used m) (e:jQ w G h c v):jQ w' G' h' c v:=by cases c with|c x=>obtain⟨pc,t,s,g,p⟩:=e;exact⟨pc,t,s,g.congr fun b hb o=>K.cell b (p b hb) o,fun b hb=>K.im b (p b hb)⟩|nil sz=>exact e|ptr n k sz off=>intro hn;obtain⟨d,y,z,q,B,A⟩:=K.name n (hr n rfl) hn;rw[y,z,q];exact e d|dN xs off=>obtain⟨b,o,pe,t,s,g,p⟩:=e;refine⟨b,o,pe,t,s,K.im b g,fun j c hj=>?_⟩;obtain⟨H,J,r⟩:=p j c hj;exact⟨(K.cell b g _).trans H,J.congr fun a l P=>K.cell a (r a l) P,fun a l=>K.im a (r a l)⟩|sl n sz lo len=>intro hn;obtain⟨d,y,z,q,B,A⟩:=K.name n (hr n rfl) hn;have:=e d;unfold kY at*;rw[y,z,q,B,A];exact this|cF n k O off sz len=>intro L xs hn;obtain⟨⟨E,F,d⟩,hl⟩:=K.live n L O xs (hr n rfl) hn;obtain⟨pc,p1,I,Q⟩:=e E F d;obtain⟨N,M,C,D⟩:=hl k off pc p1 Q;exact⟨N,M,C.trans I,D⟩|dU n k O off sz i=>intro L xs hn;obtain⟨⟨E,F,d⟩,hl⟩:=K.live n L O xs (hr n rfl) hn;obtain⟨pc,b,o,len,cap,p1,I,Q,p4⟩:=e E F d;obtain⟨N,M,C,D⟩:=hl k off pc p1 Q;exact⟨N,b,o,len,cap,M,C.trans I,D,p4⟩|dh xs off j n sz len=>obtain⟨b,o,pe,t,s,g,p,S⟩:=e;obtain⟨u,U,u2,T⟩:=S;refine⟨b,o,pe,t,s,K.im b g,fun i c R hi=>?_,u,(K.cell b g _).trans U,u2,fun hn=>?_⟩;obtain⟨H,J,r⟩:=p i c R hi;exact⟨(K.cell b g _).trans H,J.congr fun a l P=>K.cell a (r a l) P,fun a l=>K.im a (r a l)⟩;obtain⟨d,y,z,q,B,A⟩:=K.name n (hr n rfl) hn;have:=T d;unfold kY at*;rw[y,z,q,B,A];exact this|fn f dM=>exact e|bZ=>trivial
theorem RC.keep (K:cm w G h used w' G' h') {c:aj} {v:Value} (hr:∀m,c.ref m->used m) (d:RC w G h c v):RC w' G' h' c v:=by by_cases a:c.kP=false;rw[wO _ _ _ _ _ a] at*;exact d.keep K fun m hm=>hr m (by rw[aj.ZE c m a];exact hm);(cases c<;>first|(simp[aj.kP] at a;done)|skip);obtain⟨vs,f,g,b⟩:=d;exact⟨vs,f,g,fun j c u hj e=>⟨(b j c u hj e).1,(b j c u hj e).2.keep K fun m hm=>hr m ⟨c,co hj,hm⟩⟩⟩
theorem ed.keep (K:cm w G h used w' G' h') {cs:List aj} {vs:List Value} (hr:∀c∈cs,∀m,c.ref m->used m) (a:ed w G h cs vs):ed w' G' h' cs vs:= ⟨a.1,fun j c u hj b=>⟨(a.2 j c u hj b).1,(a.2 j c u hj b).2.keep K (hr c (co hj))⟩⟩
theorem RV.keep (K:cm w G h used w' G' h') {ag:Bool} {cs:List aj} {v:Value} (hr:∀c∈cs,∀m,c.ref m->used m) (a:RV w G h ag cs v):RV w' G' h' ag cs v:=by unfold RV at*;split;rename_i b;simp only[b,if_true] at a;obtain⟨vs,e,d⟩:=a;exact⟨vs,e,d.keep K hr⟩;rename_i b;simp only[b] at a;exact ed.keep K hr a
theorem RA.keep (K:cm w G h used w' G' h') {x:au} {v:Value} (hr:∀m,x.ref m->used m) (d:RA w G h x v):RA w' G' h' x v:=by cases x with|one c=>exact d.imp id fun f=>f.keep K fun b a m hm=>hr m (by simp at a;subst a;exact hm)|agg cs=>exact RV.keep K (fun b a m hm=>hr m ⟨b,a,hm⟩) d|ct xs=>obtain⟨vs,e,hl,f⟩:=d;exact⟨vs,e,hl,fun j x u hj g=>(f j x u hj g).keep K fun b a m hm=>hr m ⟨x,co hj,b,a,hm⟩⟩
end
def Uy (w:World) (p:PB) (sz:Nat):Prop:=p.cap<=maxLen/\∃cur e,w.heap[p.b]? =some (.cells cur e (0,0))/\cur.size=p.o+p.cap*sz
def N6 (B:Nat) (E:Ex) (w:World) (G:Gh) (px:List (List PC)):Mode->Prop
 |.aQ=>∀b,bF b px->G.Im b
 |.aS=>(∀b,bF b px->G.Im b/\fA w b/\(B<=b\/E b))/\lK px
 |.live=>(∀b,bF b px->¬G.Im b/\fA w b/\(B<=b\/E b))/\lK px
def wL (w:World):PC->Prop
 |.list sz a cap xs=>cap=0\/(xs≠[]/\cap<=maxLen/\∃b o cur e,a=some (ad b o)/\w.heap[b]? =some (.cells cur e (0,0))/\cur.size=o+cap*sz)
 |_=>True
def wM (w:World) (sz:Nat) (px:List (List PC)):Prop:=∀k pc,At px k (sz - 1) pc->wL w pc
theorem wL.cz {w w':World} {pc:PC} (h:wL w pc) (hb:∀b,bD b pc->∀arr e,w.heap[b]? =some (.cells arr e (0,0))->∃c,w'.heap[b]? =some (.cells c e (0,0))/\c.size=arr.size):wL w' pc:=by cases pc with|int k n=>trivial|bool b=>trivial|list sz a cap xs=>rcases h with h|⟨d,i,b,o,cur,e,rfl,g,j⟩;exact .inl h;obtain⟨c,l,f⟩:=hb b (.here _ _ _ _ d) cur e g;exact .inr ⟨d,i,b,o,c,e,rfl,l,by rw[f];exact j⟩
theorem wM.congr {w w':World} {sz:Nat} {px:List (List PC)} (h:wM w sz px) (hb:∀b,bF b px->w'.heap[b]? =w.heap[b]?):wM w' sz px:= fun k pc a=>(h k pc a).cz fun b d arr e c=>⟨arr,(hb b ⟨k,_,pc,a,d⟩).trans c,rfl⟩
theorem wM.cz {w w':World} {sz:Nat} {px:List (List PC)} (h:wM w sz px) (hb:∀b,bF b px->∀arr e,w.heap[b]? =some (.cells arr e (0,0))->∃a,w'.heap[b]? =some (.cells a e (0,0))/\a.size=arr.size):wM w' sz px:= fun k pc c=>(h k pc c).cz fun b d=>hb b ⟨k,_,pc,c,d⟩
structure zI (B:Nat) (E:Ex) (w:World) (G:Gh) (gr:Bool) (m:Mode) (sz:Nat) (xs:List (List C)) (p:PB):Prop where
 pos:0<sz
 er:xs=p.px.map (fun e=>e.map PC.er)
 nl:p.nl=true->p.px=[]/\(gr=true->p.cap=0)
 f6:p.nl=false->fA w p.b/\sY w p.b p.o sz p.px/\p.px.length<=p.cap
 room:p.nl=false->gr=true->Uy w p sz
 mode:N6 B E w G p.px m
 nr:gr=true->m=.live->wM w sz p.px
structure HR (B:Nat) (E:Ex) (w:World) (G:Gh) (h:Nat->Option aA) (used:Nat->Bool) (tk:List PC):Prop where
 lc:∀n,h n≠none->used n=true
 kq:∀m cs c n,h m=some (.box cs)->c∈cs->c.ref n->used n=true
 box:∀n cs,h n=some (.box cs)->(G.g n).nl=false/\fA w (G.g n).b/\
  ∀(j:Nat) (c:aj),cs[j]? =some c->∃v,w.cell? (ad (G.g n).b ((G.g n).o+j))=some v/\v.oneCell'=true/\RC w G h c v
 row:∀n gr m sz xs,h n=some (.row gr m sz xs)->zI B E w G gr m sz xs (G.g n)
 own:∀n,h n≠none->(G.g n).nl=false->¬G.Im (G.g n).b/\(B<=(G.g n).b\/E (G.g n).b)/\(G.g n).b<w.heap.size
 inj:∀n n',h n≠none->h n'≠none->n≠n'->(G.g n).nl=false->(G.g n').nl=false->(G.g n).b≠(G.g n').b
 jX:∀b,G.Im b->b<w.heap.size
 tx:∀b,G.Im b->B<=b\/E b\/E.a b
 ji:∀n n' gr m sz xs cd m' ba aH,h n=some (.row gr m sz xs)->h n'=some (.row cd m' ba aH)->m≠ .aQ->m'≠ .aQ->n≠n'->
  ∀b,bF b (G.g n).px->¬bF b (G.g n').px
 live:∀n gr sz xs,h n=some (.row gr .live sz xs)->∀b,bF b (G.g n).px->∀n',h n'≠none->(G.g n').nl=false->b≠(G.g n').b
 wz:∀(i:Nat) (pc:PC),tk[i]? =some pc->Sep pc/\∀b,bD b pc->G.Im b/\fA w b/\(B<=b\/E b)
 Bm:∀(i j:Nat) (pc eW:PC) (b:Nat),i≠j->tk[i]? =some pc->tk[j]? =some eW->bD b pc->¬bD b eW
 wA:∀(i:Nat) (pc:PC) (n:Nat) (gr:Bool) (m:Mode) (sz:Nat) (xs:List (List C)) (b:Nat),tk[i]? =some pc->h n=some (.row gr m sz xs)->m≠ .aQ->bD b pc->¬bF b (G.g n).px
def Cz (w w':World) (b:Nat):Prop:=∀arr e,w.heap[b]? =some (.cells arr e (0,0))->∃x9,w'.heap[b]? =some (.cells x9 e (0,0))/\x9.size=arr.size
theorem Cz.refl (w:World) (b:Nat):Cz w w b:=fun arr _ h=>⟨arr,h,rfl⟩
theorem Cz.of_eq {w w':World} {b:Nat} (h:w'.heap[b]? =w.heap[b]?):Cz w w' b:=fun arr _ a=>⟨arr,h.trans a,rfl⟩
theorem Cz.trans {w c a:World} {b:Nat} (d:Cz w c b) (l:Cz c a b):Cz w a b:=fun arr e h=>by obtain⟨j,m,g⟩:=d arr e h;obtain⟨f,i,k⟩:=l j e m;exact⟨f,i,k.trans g⟩
theorem Cz.mh {w w':World} {b:Nat} (h:Cz w w' b) (c:fA w b):fA w' b:=by obtain⟨arr,e,c⟩:=c;obtain⟨a,d,_⟩:=h arr e c;exact⟨a,e,d⟩
structure Fr (B:Nat) (E:Ex) (w0 w:World):Prop where
 os:w.os=w0.os
 tape:w.tape=w0.tape
 output:w.output=w0.output
 size:B<=w.heap.size
 block:∀b,b<B->¬E b->w.heap[b]? =w0.heap[b]?
 mh:∀b,b<B->Cz w0 w b
def anS (p q:PB) (b:aA):Prop:=
 q.nl=p.nl/\q.b=p.b/\q.o=p.o/\q.cap=p.cap/\q.na=p.na/\
  ∀gr sz xs,b=.row gr .live sz xs->∀k j pc,At p.px k j pc->pc.jY=true->∃eW,At q.px k j eW/\eW.val=pc.val/\eW.jY=true
structure R (B:Nat) (E:Ex) (w0:World) (N:Nat) (σ:St) (a:Act) (w:World) (G:Gh):Prop where
 defers:a.defers=[]
 size:a.tmps.size=N
 env:∀s,RA w G σ.h (σ.env s) (a.tmps.getD s undef)
 t6:∀s n,(σ.env s).ref n->σ.used n=true
 hr:HR B E w G σ.h σ.used []
 fr:Fr B E w0 w
 nZ:∀n p b,E.nZ n=some p->σ.h n=some b->anS p (G.g n) b
 AS:∀n,aL<=n->σ.used n=true
inductive MO where
 |t (n:Nat)
 |k (v:au)
inductive bo where
 |mv (x:MO)
 |pick (c x y:MO)
 |alloc (zs:List aj)
 |box (sz:Nat) (x:MO)
 |build (zs:List aj) (parts:List (Nat×Nat×MO))
 |f8 (sz:Nat) (parts:List MO)
 |zM (sz:Nat) (parts:List MO)
 |load (ag:Bool) (sz:Nat) (x:MO)
 |store (sz:Nat) (x v:MO)
 |gS (x:MO)
 |bin (op:BinOp) (x y:MO)
 |un (op:UnOp) (x:MO)
 |conv (k:IntKind) (x:MO)
 |jP (m:Mode) (sz dW:Nat) (zs:List C) (l c:MO)
 |slice (sz:Nat) (x:MO) (lo hi:Option MO)
 |ri (off:Nat) (x:MO)
 |qL (sz:Nat) (x i:MO)
 |oF (len:Nat) (x i:MO)
 |ext (i:Nat) (x:MO)
 |len (x:MO)
 |append (fl:Bool) (sz dW:Nat) (x y:MO)
 |copy (sz:Nat) (x y:MO)
 |oW (z:C) (x:MO)
 |mm (mx:Bool) (x y:MO)
 |call (m:Mode) (f:FuncId) (xs:List MO)
 |tJ (f:FuncId) (xs:List MO)
 |pK (m:Mode) (x:MO) (xs:List MO)
 |oU (m:Mode) (f:FuncId) (xs:List MO)
 |lN (f:FuncId) (xs:List MO)
 |pL (f:FuncId) (xs:List MO)
 |oV (f:FuncId) (xs:List MO)
 |ox (m:Mode) (f:FuncId) (xs:List MO)
structure cZ where
 dst:Option Nat
 op:bo
 guard:Option (Nat×Bool)
structure J3 where
 ia:Nat
 sz:Nat
 dW:Nat
 mx:MO
 ml:MO
 my:MO
 d:Nat
inductive COp where
 |U8 (sz:Nat) (p:MO)
 |U9 (p:MO) (s:Nat)
 |pop (x lo:MO) (s:Nat)
 |Vc (f:FuncId) (xs:List MO)
inductive anG where
 |op (m:cZ)
 |Hh (d:Nat) (c:COp)
inductive mn where
 |skip
 |eH (w4:Bool) (ops:List cZ)
 |qR (ps:List (Nat×Nat)) (ops:List cZ)
 |seq (a b:mn)
 |cond (c:MO) (a b:mn)
 |block (id:Nat) (c:mn)
 |join (ke kh:List Nat) (cn:List (Bool×Nat×Nat×Nat×Mode)) (c:mn)
 |loop (id:Nat) (ke kh:List Nat) (cn:List (Bool×Nat×Nat×Nat×Mode)) (c:mn)
 |exit (id:Nat)
 |ret
inductive K where
 |one|agg|ptr
 deriving DecidableEq
abbrev Dv:=K×List C
abbrev cR:=List (List (Option Mode))
structure bj where
 pure:List (FuncId×(List Dv->Option (List Dv)))
 CX:List (FuncId×cR×(List Dv->Option (List Dv×List C)))
 vs:List (FuncId×(List Dv->Option (List Dv×List C)))
 ws:List (FuncId×cR×(List Dv->Option (Nat×Nat)))
 xs:List (FuncId×Nat×(List Dv->Option (List Dv×List C)))
 ns:List (FuncId×(List Dv->Option (List Dv)))
def bj.th:List (FuncId×cR×(List Dv->Option (List Dv×List C)))->FuncId->Option (cR×(List Dv->Option (List Dv×List C)))
 |[],_=>none
 |(g,M)::l,f=>if f=g then some M else bj.th l f
def bj.w6:List (FuncId×cR×(List Dv->Option (Nat×Nat)))->FuncId->Option (cR×(List Dv->Option (Nat×Nat)))
 |[],_=>none
 |(g,M)::l,f=>if f=g then some M else bj.w6 l f
def bj.w7:List (FuncId×Nat×(List Dv->Option (List Dv×List C)))->FuncId->Option (Nat×(List Dv->Option (List Dv×List C)))
 |[],_=>none
 |(g,M)::l,f=>if f=g then some M else bj.w7 l f
def bj.o8:List (FuncId×(List Dv->Option (List Dv×List C)))->FuncId->Option (List Dv->Option (List Dv×List C))
 |[],_=>none
 |(g,M)::l,f=>if f=g then some M else bj.o8 l f
def bj.find:List (FuncId×(List Dv->Option (List Dv)))->FuncId->Option (List Dv->Option (List Dv))
 |[],_=>none
 |(g,M)::l,f=>if f=g then some M else bj.find l f
inductive wN where
 |ij (σ:St)
 |ext (id:Nat) (σ:St)
 |ret (σ:St)
def St.ev (σ:St):MO->au
 |.t n=>σ.env n
 |.k v=>v
def St.put (σ:St) (d:Option Nat) (v:au):St:=
 match d with
 |some n=>{σ with env:=aV σ.env n v}
 |none=>σ
def St.ins (σ:St) (n:Nat) (b:aA):Option St:=
 if σ.used n=true then none else some {σ with h:=aV σ.h n (some b),used:=aV σ.used n true}
def St.fh (σ:St) (n:Nat) (b:aA):St:={σ with h:=aV σ.h n (some b)}
def St.del (σ:St) (n:Nat):St:={σ with h:=aV σ.h n none}
def au.cells?:au->Option (Bool×List aj)
 |.one .bZ=>none
 |.one c=>some (false,[c])
 |.agg cs=>some (true,cs)
 |.ct _=>none
def rT:Bool->List aj->au
 |true,cs=>.agg cs
 |false,[c]=>.one c
 |false,_=>.one .bZ
def sub {α:Type} (l:List α) (off sz:Nat):Option (List α):=if off+sz<=l.length then some ((l.drop off).take sz) else none
def dA {α:Type} (l:List α) (off:Nat) (vs:List α):List α:=l.take off++vs++l.drop (off+vs.length)
def C.gx:C->Bool
 |.list ..=>false
 |_=>true
def gz (l:List C):Bool:=l.all C.gx
def iV (l:List (List C)):Bool:=l.all gz
def kF (n k rs:Nat):Nat->List C->List aj
 |_,[]=>[]
 |off,.list sz ys::l=>.cF n k rs off sz ys.length::kF n k rs (off+1) l
 |off,x::l=>.c x::kF n k rs (off+1) l
def loadAt (h:Nat->Option aA) (p:aj) (sz:Nat):Option (List aj):=
 match p with
 |.ptr n k aO off=>
  match h n with
  |some (.box cs)=>if k=0 then sub cs off sz else none
  |some (.row _ m rs xs)=>
   if aO=rs then
    match xs[k]? with
    |some e=>match sub e off sz with
     |some l=>some (if m=.live then kF n k rs off l else l.map .c)
     |none=>none
    |none=>none
   else none
  |none=>none
 |.dN xs off=>(sub xs off sz).map (·.map .c)
 |.dh xs off j n s len=>if off=j/\sz=1 then some [.sl n s 0 len] else if off+sz<=j then(sub xs off sz).map (·.map .c) else none
 |.dU n k aO off s i=>
  match h n with
  |some (.row _ .live rs xs)=>if rs=aO then
   match(xs[k]?).bind (·[off]?) with
   |some (.list s' ys)=>if s'=s/\sz=s then
    match ys[i]? with
    |some e=>if gz e=true then some (e.map .c) else none
    |none=>none
    else none
   |_=>none
   else none
  |_=>none
 |_=>none
def dE (h:Nat->Option aA):aj->Option C
 |.c x=>some x
 |.nil sz=>if 0<sz then some (.list sz []) else none
 |.sl n sz lo len=>
  match h n with
  |some (.row _ _ rs xs)=>if rs=sz/\lo+len<=xs.length then some (.list sz ((xs.drop lo).take len)) else none
  |_=>none
 |.cF n k aO off sz len=>
  match h n with
  |some (.row _ .live rs xs)=>if rs=aO then(xs[k]?).bind (·[off]?) else none
  |_=>none
 |_=>none
def ie (h:Nat->Option aA):List aj->Option (List C)
 |[]=>some []
 |c::cs=>match dE h c,ie h cs with
  |some x,some xs=>some (x::xs)
  |_,_=>none
def ko (h:Nat->Option aA):au->Option Dv
 |.one (.ptr n k sz off)=>
  match h n with
  |some (.box cs)=>if k=0/\off=0 then(ie h cs).map fun l=>(.ptr,l) else none
  |_=>none
 |.one (.dN xs off)=>if off=0 then some (.ptr,xs) else none
 |.one c=>(dE h c).map fun x=>(.one,[x])
 |.agg cs=>(ie h cs).map fun l=>(.agg,l)
 |.ct _=>none
def mS (h:Nat->Option aA):List au->Option (List Dv)
 |[]=>some []
 |c::cs=>match ko h c,mS h cs with
  |some x,some xs=>some (x::xs)
  |_,_=>none
def St.iD (σ:St):aj->Option (C×Bool×St)
 |.c x=>some (x,x.gx,σ)
 |.nil sz=>if 0<sz then some (.list sz [],true,σ) else none
 |.sl n sz lo len=>
  match σ.h n with
  |some (.row _ m rs xs)=>if rs=sz/\lo=0/\len<=xs.length then some (.list sz (xs.take len),decide (m≠ .aQ),σ.del n) else none
  |_=>none
 |_=>none
def St.iE (σ:St):List aj->Option (List C×Bool×St)
 |[]=>some ([],true,σ)
 |c::cs=>match σ.iD c with
  |some (x,o,σ1)=>match σ1.iE cs with
   |some (xs,o',σ2)=>some (x::xs,o&&o',σ2)
   |none=>none
  |none=>none
def St.mQ (sz:Nat) (σ:St):List au->Option (List (List C)×Bool×St)
 |[]=>some ([],true,σ)
 |v::vs=>match v.cells? with
  |some (_,cs)=>if cs.length=sz then
   match σ.iE cs with
   |some (e,o,σ1)=>match σ1.mQ sz vs with
    |some (es,o',σ2)=>some (e::es,o&&o',σ2)
    |none=>none
   |none=>none
   else none
  |none=>none
def IK:List aj->Option (List C)
 |[]=>some []
 |.c x::cs=>if x.gx=true then match IK cs with
  |some e=>some (x::e)
  |none=>none
  else none
 |_::_=>none
def Fw (sz:Nat):List au->Option (List (List C))
 |[]=>some []
 |v::vs=>match v.cells? with
  |some (_,cs)=>if cs.length=sz then
   match IK cs with
   |some e=>match Fw sz vs with
    |some es=>some (e::es)
    |none=>none
   |none=>none
   else none
  |none=>none
theorem ajI (σ:St):∀{cs:List aj} {e:List C},IK cs=some e->σ.iE cs=some (e,true,σ)
 |[],e,h=>by injection h with h;rw[<-h];rfl
 |c::cs,e,h=>by cases c with|c x=>simp only[IK] at h;split at h;rename_i hx;split at h;rename_i e1 a;injection h with h;subst h;simp only[St.iE,St.iD,ajI σ a,hx,zbb];cases h;cases h|_=>cases h
theorem ajH (σ:St) {sz:Nat}:∀{vs:List au} {es:List (List C)},Fw sz vs=some es->σ.mQ sz vs=some (es,true,σ)
 |[],es,h=>by injection h with h;rw[<-h];rfl
 |v::vs,es,h=>by simp only[Fw] at h;split at h;rename_i b cs c;split at h;rename_i hl;split at h;rename_i e a;split at h;rename_i es1 d;injection h with h;subst h;simp only[St.mQ,c,hl,if_true,ajI σ a,ajH σ d,zbb];cases h;cases h;cases h;cases h
theorem ana {σ:St}:∀{cs:List aj} {e:List C} {o:Bool} {σ1:St},σ.iE cs=some (e,o,σ1)->(∀x∈e,x.gx=true)->IK cs=some e/\o=true/\σ1=σ
 |[],e,o,σ1,h,_=>by simp only[St.iE,zaa,zan] at h;obtain⟨rfl,rfl,rfl⟩:=h;exact⟨rfl,rfl,rfl⟩
 |c::cs,e,o,σ1,h,hs=>by simp only[St.iE] at h;split at h;rename_i x o1 σ2 a;split at h;rename_i xs o2 jG f;simp only[zaa,zan] at h;obtain⟨rfl,rfl,rfl⟩:=h;have hx:=hs x (by simp);(cases c with|c y=>simp only[St.iD,zaa,zan] at a;obtain⟨rfl,rfl,rfl⟩:=a;obtain⟨p1,d,g⟩:=ana f fun z b=>hs z (by simp[b]);exact⟨by simp only[IK,hx,p1,if_true],by rw[hx,d];rfl,g⟩|nil sz=>simp only[St.iD] at a;split at a;simp only[zaa,zan] at a;obtain⟨rfl,rfl,rfl⟩:=a;cases hx;cases a|sl n sz lo len=>simp only[St.iD] at a;split at a;split at a;simp only[zaa,zan] at a;obtain⟨rfl,rfl,rfl⟩:=a;cases hx;cases a;cases a|_=>cases a);cases h;cases h
theorem am9 {σ:St} {sz:Nat}:∀{vs:List au} {es:List (List C)} {o:Bool} {σ1:St},σ.mQ sz vs=some (es,o,σ1)->(∀e∈es,∀x∈e,x.gx=true)->Fw sz vs=some es/\o=true/\σ1=σ
 |[],es,o,σ1,h,_=>by simp only[St.mQ,zaa,zan] at h;obtain⟨rfl,rfl,rfl⟩:=h;exact⟨rfl,rfl,rfl⟩
 |v::vs,es,o,σ1,h,hs=>by simp only[St.mQ] at h;split at h;rename_i b cs f;split at h;rename_i hl;split at h;rename_i e o1 σ2 d;split at h;rename_i es1 o2 jG c;simp only[zaa,zan] at h;obtain⟨rfl,rfl,rfl⟩:=h;obtain⟨p1,rfl,rfl⟩:=ana d (hs e (by simp));obtain⟨g,rfl,rfl⟩:=am9 c fun z a=>hs z (by simp[a]);exact⟨by simp only[Fw,f,hl,if_true,p1,g],rfl,rfl⟩;cases h;cases h;cases h;cases h
def Mode.xF:Mode->Bool
 |.live=>false
 |_=>true
def St.imp (m:Mode) (σ:St):Nat->List C->Option (List aj×Nat×St)
 |nm,[]=>some ([],nm,σ)
 |nm,.list sz xs::cs=>match σ.ins nm (.row m.xF m sz xs) with
  |some σ1=>match σ1.imp m (nm+1) cs with
   |some (l,iU,σ2)=>some (.sl nm sz 0 xs.length::l,iU,σ2)
   |none=>none
  |none=>none
 |nm,x::cs=>match σ.imp m nm cs with
  |some (l,iU,σ2)=>some (.c x::l,iU,σ2)
  |none=>none
def St.mb (m:Mode) (σ:St):Nat->List Dv->Option (List (Bool×List aj)×St)
 |_,[]=>some ([],σ)
 |nm,(.ptr,_)::_=>none
 |nm,(k,cs)::ds=>match σ.imp m nm cs with
  |some (l,iU,σ1)=>match σ1.mb m iU ds with
   |some (ls,σ2)=>some ((decide (k=.agg),l)::ls,σ2)
   |none=>none
  |none=>none
def oM:List (Bool×List aj)->au
 |[(ag,cs)]=>rT ag cs
 |l=>.ct l
def sI (d:Option Nat):Nat:=match d with|some n=>1000*(n+1)|none=>999
def mB:List Dv->Option (List (Bool×List aj))
 |[]=>some []
 |(.ptr,_)::_=>none
 |(k,cs)::ds=>match mB ds with
  |some ls=>some ((decide (k=.agg),cs.map .c)::ls)
  |none=>none
def qy (T:bj) (m:Mode) (d:Option Nat) (f:FuncId) (as:List au) (σ:St):Option St:=
 match mS σ.h as with
 |some ds=>match bj.find T.pure f with
  |some M=>match M ds with
   |some rs=>match σ.mb m (sI d) rs with
    |some (ls,σ1)=>some (σ1.put d (oM ls))
    |none=>none
   |none=>none
  |none=>none
 |none=>none
def su:aj->Option C
 |.c x=>some x
 |.nil sz=>if 0<sz then some (.list sz []) else none
 |_=>none
def oG:List aj->Option (List C)
 |[]=>some []
 |c::cs=>match su c,oG cs with
  |some x,some xs=>some (x::xs)
  |_,_=>none
def pI (h:Nat->Option aA):au->Option (Nat×List C)
 |.one (.ptr n k _ off)=>if k=0/\off=0 then match h n with
  |some (.box cs)=>match oG cs with
   |some xs=>some (n,xs)
   |none=>none
  |_=>none
  else none
 |_=>none
def St.kw (σ:St):List au->Option (List Dv×List Nat×St)
 |[]=>some ([],[],σ)
 |v::vs=>match pI σ.h v with
  |some (n,xs)=>match σ.kw vs with
   |some (ds,ns,σ1)=>some ((.ptr,xs)::ds,n::ns,σ1)
   |none=>none
  |none=>match v.cells? with
   |some (ag,cs)=>match σ.iE cs with
    |some (xs,_,σ1)=>match σ1.kw vs with
     |some (ds,ns,σ2)=>some ((if ag=true then .agg else .one,xs)::ds,ns,σ2)
     |none=>none
    |none=>none
   |none=>none
def St.tN (σ:St):List Nat->List C->Option St
 |[],[]=>some σ
 |[n],out=>match σ.h n with
  |some (.box cs)=>if cs.length=out.length then some (σ.fh n (.box (out.map .c))) else none
  |_=>none
 |_,_=>none
def rZ (σ:St) (d:Option Nat):List Dv->Option St
 |[(.ptr,cs)]=>match d with
  |some q=>match σ.ins q (.box (cs.map .c)) with
   |some σ1=>some (σ1.put d (.one (.ptr q 0 0 0)))
   |none=>none
  |none=>none
 |rs=>match mB rs with
  |some ls=>some (σ.put d (oM ls))
  |none=>none
def rc (T:bj) (d:Option Nat) (f:FuncId) (as:List au) (σ:St):Option St:=
 match σ.kw as,bj.o8 T.vs f with
 |some (ds,ns,σ1),some M=>match M ds with
  |some (rs,out)=>match σ1.tN ns out with
   |some σ2=>rZ σ2 d rs
   |none=>none
  |none=>none
 |_,_=>none
def FA:List au->Option (List Dv)
 |[]=>some []
 |v::vs=>match v.cells? with
  |some (ag,cs)=>match oG cs with
   |some xs=>match FA vs with
    |some ds=>some ((if ag=true then .agg else .one,xs)::ds)
    |none=>none
   |none=>none
  |none=>none
def Ef (T:bj) (f:FuncId) (as:List au):Option au:=
 match FA as,bj.o8 T.vs f with
 |some ds,some M=>match M ds with
  |some (rs,[])=>match mB rs with
   |some ls=>some (oM ls)
   |none=>none
  |_=>none
 |_,_=>none
theorem as7 {c:aj} {x:C} (h:su c=some x) (σ:St):∃o,σ.iD c=some (x,o,σ):=by cases c with|c y=>simp only[su] at h;injection h with h;subst h;exact⟨_,rfl⟩|nil sz=>simp only[su] at h;split at h;rename_i hp;injection h with h;subst h;exact⟨_,ah hp⟩;cases h|_=>simp[su] at h
theorem af6:∀{cs:List aj} {xs:List C},oG cs=some xs->∀σ:St,∃o,σ.iE cs=some (xs,o,σ)
 |[],xs,h,σ=>by simp only[oG] at h;injection h with h;subst h;exact⟨_,rfl⟩
 |c::cs,xs,h,σ=>by simp only[oG] at h;split at h;rename_i x aH e g;injection h with h;subst h;obtain⟨b,a⟩:=as7 e σ;obtain⟨f,d⟩:=af6 g σ;exact⟨b&&f,by simp only[St.iE,a,d]⟩;cases h
theorem aj5:∀{as:List au} {ds:List Dv},FA as=some ds->∀σ:St,σ.kw as=some (ds,[],σ)
 |[],ds,h,σ=>by simp only[FA] at h;injection h with h;subst h;rfl
 |v::vs,ds,h,σ=>by simp only[FA] at h;split at h;rename_i ag cs a;split at h;rename_i xs hi;split at h;rename_i zU c;injection h with h;subst h;have hp:pI σ.h v=none:=(by unfold pI;split;simp only[au.cells?] at a;injection a with a;injection a with _ a;subst a;simp[oG,su] at hi;rfl);obtain⟨o,b⟩:=af6 hi σ;simp only[St.kw,hp,a,b,aj5 c σ];cases h;cases h;cases h
theorem apP {T:bj} {d:Option Nat} {f:FuncId} {as:List au} {v:au} (h:Ef T f as=some v) (σ:St):rc T d f as σ=some (σ.put d v):=by unfold Ef at h;split at h;rename_i ds M a b;split at h;rename_i rs c;split at h;rename_i ls hl;injection h with h;subst h;simp only[rc,aj5 a σ,b,c,St.tN];unfold rZ;split;simp[mB] at hl;rw[hl];cases h;cases h;cases h
def C.yn:C->Bool
 |.list _ xs=>iV xs
 |_=>true
def C.vN:C->Bool
 |.list ..=>true
 |_=>false
def yq:Mode->List (List C)->Bool
 |.aS,xs=>iV xs
 |.live,xs=>xs.all fun e=>e.all C.yn
 |.aQ,_=>false
inductive eK where
 |nil (sz:Nat)
 |row (n:Nat)
 |nest (n k off:Nat)
def xD (h:Nat->Option aA) (md:Mode):aj->Option (eK×C)
 |.nil sz=>if 0<sz/\md≠ .aQ then some (.nil sz,.list sz []) else none
 |.sl n sz lo len=>match h n with
  |some (.row gr m rs xs)=>if m≠ .aQ/\(md=.live->m=.live)/\rs=sz/\lo=0/\len=xs.length/\yq md xs=true/\(m=.live->gr=false) then some (.row n,.list sz xs) else none
  |_=>none
 |.cF n k aO off sz len=>match h n with
  |some (.row false .live rs xs)=>if rs=aO/\md=.aS then
   match(xs[k]?).bind (·[off]?) with
   |some (.list s ys)=>if iV ys=true then some (.nest n k off,.list s ys) else none
   |_=>none
   else none
  |_=>none
 |_=>none
def eK.fV:eK->Option Nat
 |.nil _=>none
 |.row n=>some n
 |.nest n _ _=>some n
def aj.fV:aj->Option Nat
 |.sl n _ _ _=>some n
 |.cF n _ _ _ _ _=>some n
 |_=>none
def rH:List (Option Mode)->List aj->List Nat
 |some _::fs,c::cs=>c.fV.toList++rH fs cs
 |none::fs,_::cs=>rH fs cs
 |_,_=>[]
def nY (h h0:Nat->Option aA):List (Option Mode)->List aj->Option (List C×List (eK×Mode))
 |[],cs=>match ie h0 cs with
  |some xs=>some (xs,[])
  |none=>none
 |none::fs,c::cs=>match dE h0 c,nY h h0 fs cs with
  |some x,some (xs,its)=>some (x::xs,its)
  |_,_=>none
 |some md::fs,c::cs=>match xD h md c,nY h h0 fs cs with
  |some (it,x),some (xs,its)=>some (x::xs,(it,md)::its)
  |_,_=>none
 |_::_,[]=>none
def sH:cR->List (Bool×List aj)->List Nat
 |s::sig,a::as=>rH s a.2++sH sig as
 |_,_=>[]
def cR.hd:cR->List (Option Mode)
 |[]=>[]
 |s::_=>s
def cR.tl:cR->cR
 |[]=>[]
 |_::sig=>sig
def qc (h h0:Nat->Option aA):cR->List (Bool×List aj)->Option (List Dv×List (eK×Mode))
 |_,[]=>some ([],[])
 |sig,(ag,cs)::as=>match nY h h0 (cR.hd sig) cs,qc h h0 (cR.tl sig) as with
  |some (xs,its),some (ds,Az)=>some ((if ag=true then(.agg,xs) else(.one,xs))::ds,its++Az)
  |_,_=>none
def u0:List au->Option (List (Bool×List aj))
 |[]=>some []
 |v::vs=>match v.cells?,u0 vs with
  |some x,some xs=>some (x::xs)
  |_,_=>none
def fv (h:Nat->Option aA) (ns:List Nat):Nat->Option aA:=fun n=>if ns.contains n=true then none else h n
def St.sL (σ:St):eK->C->Option St
 |.nil _,_=>some σ
 |.row n,.list sz xs=>match σ.h n with
  |some (.row gr m rs _)=>if rs=sz then some (σ.fh n (.row gr m rs xs)) else none
  |_=>none
 |.nest n k off,x=>match σ.h n with
  |some (.row gr m rs xs)=>match xs[k]? with
   |some e=>some (σ.fh n (.row gr m rs (xs.set k (e.set off x))))
   |none=>none
  |_=>none
 |_,_=>none
def St.tO (σ:St):List (eK×Mode)->List C->Option St
 |[],[]=>some σ
 |it::its,x::xs=>match σ.sL it.1 x with
  |some σ1=>σ1.tO its xs
  |none=>none
 |_,_=>none
def vm (T:bj) (m:Mode) (d:Option Nat) (f:FuncId) (as:List au) (σ:St):Option St:=
 match bj.th T.CX f,u0 as with
 |some (sig,M),some fQ=>
  if(sH sig fQ).Nodup then
   match qc σ.h (fv σ.h (sH sig fQ)) sig fQ with
   |some (ds,its)=>match M ds with
    |some (rs,eV)=>match σ.tO its eV with
     |some σ1=>match σ1.mb m (sI d) rs with
      |some (ls,σ2)=>some (σ2.put d (oM ls))
      |none=>none
     |none=>none
    |none=>none
   |none=>none
  else none
 |_,_=>none
def oe:Nat->cR
 |0=>[[some .aS]]
 |i+1=>[]::oe i
def dI (n:Nat):Dv:=(.one,[.int .i64 (n:Int)])
def xM (i lo hi:Nat) (M:List Dv->Option (List Dv×List C)) (ds:List Dv):Option (List Dv×List C):=
 match ds[i]? with
 |some (.one,[.list 1 _])=>M (dI lo::dI hi::ds)
 |_=>none
def Jy (h:Nat->Option aA):au->Option (Nat×Nat×Nat×Nat)
 |.one (.sl n s lo len)=>match h n with
  |some (.row _ _ rs xs)=>if s=1/\rs=1/\lo<xs.length/\lo+len<=xs.length then some (n,lo,len,xs.length) else none
  |_=>none
 |_=>none
def zT (T:bj) (m:Mode) (d:Option Nat) (f:FuncId) (as:List au) (σ:St):Option St:=
 match bj.w7 T.xs f with
 |some (i,M)=>match as[i]? with
  |some a=>match Jy σ.h a with
   |some (n,lo,len,N)=>vm {T with CX:=[(f,oe i,xM i lo (lo+len) M)]} m d f (as.set i (.one (.sl n 1 0 N))) σ
   |none=>none
  |none=>none
 |none=>none
def ur (T:bj) (f:FuncId) (as:List au) (h:Nat->Option aA):Option au:=
 match bj.w6 T.ws f,u0 as with
 |some (sig,M),some fQ=>
  match sH sig fQ with
  |[n]=>match qc h (fv h [n]) sig fQ with
   |some (ds,[(.row n',_)])=>if n'=n then match h n,M ds with
    |some (.row _ _ sz _),some (lo,len)=>some (.one (.sl n sz lo len))
    |_,_=>none
    else none
   |_=>none
  |_=>none
 |_,_=>none
def GO (op:BinOp) (k:IntKind) (a b:Int):Option C:=
 match op with
 |.add=>some (.int k (k.wrap (a+b)))
 |.sub=>some (.int k (k.wrap (a - b)))
 |.mul=>some (.int k (k.wrap (a*b)))
 |.quo=>if b=0 then none else some (.int k (k.wrap (a.tdiv b)))
 |.rem=>if b=0 then none else some (.int k (a.tmod b))
 |.and=>some (.int k (bits .and k a b))
 |.or=>some (.int k (bits .or k a b))
 |.xor=>some (.int k (bits .xor k a b))
 |.eql=>some (.bool (a==b))
 |.neq=>some (.bool (a !=b))
 |.lss=>some (.bool (decide (a<b)))
 |.leq=>some (.bool (decide (a<=b)))
 |.gtr=>some (.bool (decide (b<a)))
 |.geq=>some (.bool (decide (b<=a)))
 |_=>none
def Np (op:BinOp) (k:IntKind) (a b:Int):Option C:=
 if b<0 then none else
 match op with
 |.shl=>some (.int k (k.wrap (a*2^(min b.toNat k.bits))))
 |.shr=>some (.int k (a/(2^(min b.toNat k.bits))))
 |_=>none
def BinOp.EX:BinOp->Bool
 |.shl|.shr=>true
 |_=>false
def BU (op:BinOp):au->au->Option C
 |.one (.c (.int k a)),.one (.c (.int k' b))=>if BinOp.EX op=true then Np op k a b else if k=k' then GO op k a b else none
 |_,_=>none
def Jt (op:UnOp):au->Option C
 |.one (.c (.bool a))=>match op with
  |.not=>some (.bool (!a))
  |_=>none
 |.one (.c (.int k a))=>match op with
  |.neg=>some (.int k (k.wrap (0 - a)))
  |_=>none
 |_=>none
def au.fw:au->Option Int
 |.one (.c (.int _ n))=>some n
 |_=>none
def gH:Nat:=140737488355328
def pz (ev:MO->au):List aj->List (Nat×Nat×MO)->Option (List aj)
 |zs,[]=>some zs
 |zs,(off,sz,x)::ps=>match(ev x).cells? with
  |some (_,cs)=>if cs.length=sz/\off+sz<=zs.length then pz ev (dA zs off cs) ps else none
  |none=>none
def rS (σ:St) (n:Nat) (gr:Bool) (m:Mode) (rs:Nat) (xs:List (List C)) (k off:Nat) (e:List C) (vs:List aj):Option St:=
 match sub e off vs.length with
 |none=>none
 |some j0=>match σ.iE vs with
  |none=>none
  |some (cs,o,σ1)=>
   if m=.live then
    if gz cs=true/\gz j0=true/\(σ1.h n).isSome=true/\gr=false then some (σ1.fh n (.row gr m rs (xs.set k (dA e off cs)))) else none
   else if(σ1.h n).isSome=true then
    some (σ1.fh n (.row gr (if o=true then m else .aQ) rs (xs.set k (dA e off cs))))
   else none
def pP:List aj->Option (List C)
 |[]=>some []
 |.c x::l=>if x.gx=true then(pP l).map (x::·) else none
 |_::_=>none
def A9 (xs:List (List C)) (k off s i:Nat) (vs:List aj):Option (List (List C)):=
 match(xs[k]?).bind (·[off]?) with
 |some (.list s' ys)=>if s'=s/\vs.length=s/\i<ys.length/\iV ys=true then(pP vs).map fun cs=>xs.set k ((xs.getD k []).set off (.list s' (ys.set i cs))) else none
 |_=>none
def vj (σ:St) (sz:Nat):au->Option (List (List C)×Mode×St)
 |.one (.nil _)=>some ([],.aS,σ)
 |.one (.sl a s 0 len)=>match σ.h a with
  |some (.row true m rs xs)=>if rs=sz/\s=sz/\len=xs.length then some (xs,m,σ.del a) else none
  |_=>none
 |_=>none
def pH (fl:Bool) (σ1:St) (sz:Nat) (m:Mode):au->Option (List (List C)×Mode×St)
  |.one (.nil _)=>some ([],m,σ1)
  |.one (.c (.list s ys))=>if s=sz then(if(fl&&iV ys)=true then some (ys,m,σ1) else if m=.live then none else some (ys,.aQ,σ1)) else none
  |.one (.sl b s lo len)=>match σ1.h b with
   |some (.row gr m' rs ys)=>if rs=sz/\s=sz/\lo+len<=ys.length then
       (if(fl&&iV ((ys.drop lo).take len))=true then some ((ys.drop lo).take len,m,σ1)
        else if lo=0/\len=ys.length then(if m=m'/\(m=.live->gr=true) then some (ys,m,σ1.del b) else if m=.live\/m'=.live then none else some (ys,.aQ,σ1.del b)) else none)
    else none
   |_=>none
  |_=>none
def aj.MJ:aj->Bool
 |.bZ=>false
 |_=>true
def exec (T:bj) (d:Option Nat) (op:bo) (σ:St):Option St:=
 match op with
 |.mv x=>some (σ.put d (σ.ev x))
 |.pick c x y=>match σ.ev c with
  |.one (.c (.bool b))=>if b=true then some (σ.put d (σ.ev x)) else some (σ.put d (σ.ev y))
  |_=>none
 |.alloc zs=>match d with
  |some n=>match σ.ins n (.box zs) with
   |some σ1=>some (σ1.put d (.one (.ptr n 0 0 0)))
   |none=>none
  |none=>none
 |.box sz x=>match d,(σ.ev x).cells? with
  |some n,some (_,cs)=>if cs.length=sz then
   match σ.ins n (.box cs) with
   |some σ1=>some (σ1.put d (.one (.ptr n 0 0 0)))
   |none=>none
   else none
  |_,_=>none
 |.build zs parts=>match pz σ.ev zs parts with
  |some cs=>some (σ.put d (.agg cs))
  |none=>none
 |.f8 sz parts=>match d,σ.mQ sz (parts.map σ.ev) with
  |some n,some (es,o,σ1)=>match σ1.ins n (.row true (if o=true then .aS else .aQ) sz es) with
   |some σ2=>some (σ2.put d (.one (.sl n sz 0 es.length)))
   |none=>none
  |_,_=>none
 |.zM sz parts=>match d,Fw sz (parts.map σ.ev) with
  |some n,some es=>match σ.ins n (.row true .aS sz es) with
   |some σ2=>some (σ2.put d (.one (.sl n sz 0 es.length)))
   |none=>none
  |_,_=>none
 |.load ag sz x=>match σ.ev x with
  |.one p=>match loadAt σ.h p sz with
   |some cs=>some (σ.put d (rT ag cs))
   |none=>none
  |_=>none
 |.store sz x v=>match σ.ev x,(σ.ev v).cells? with
  |.one (.ptr n k aO off),some (_,vs)=>if vs.length=sz then
   match σ.h n with
   |some (.box cs)=>if k=0/\off+sz<=cs.length then some (σ.fh n (.box (dA cs off vs))) else none
   |some (.row gr m rs xs)=>if aO=rs then
    match xs[k]? with
    |some e=>rS σ n gr m rs xs k off e vs
    |none=>none
    else none
   |none=>none
   else none
  |.one (.dU n k aO off s i),some (_,vs)=>if vs.length=sz then
   match σ.h n with
   |some (.row false .live rs xs)=>if aO=rs then
    match A9 xs k off s i vs with
    |some aH=>some (σ.fh n (.row false .live rs aH))
    |none=>none
    else none
   |_=>none
   else none
  |_,_=>none
 |.gS x=>match σ.ev x with
  |.one (.ptr n k sz off)=>if(σ.h n).isSome=true then some (σ.put d (.one (.ptr n k sz off))) else none
  |.one (.dN xs off)=>some (σ.put d (.one (.dN xs off)))
  |.one (.dh xs off j n s len)=>some (σ.put d (.one (.dh xs off j n s len)))
  |_=>none
 |.bin op x y=>match BU op (σ.ev x) (σ.ev y) with
  |some c=>some (σ.put d (.one (.c c)))
  |none=>none
 |.un op x=>match Jt op (σ.ev x) with
  |some c=>some (σ.put d (.one (.c c)))
  |none=>none
 |.conv k x=>match σ.ev x with
  |.one (.c (.int _ n))=>some (σ.put d (.one (.c (.int k (k.wrap n)))))
  |_=>none
 |.jP m sz dW zs l c=>match d,(σ.ev l).fw,(σ.ev c).fw with
  |some n,some a,some b=>if a<=b/\0<=a/\b.toNat*dW<=gH/\zs.length=sz then
   match σ.ins n (.row true m sz (OF a.toNat zs)) with
   |some σ1=>some (σ1.put d (.one (.sl n sz 0 a.toNat)))
   |none=>none
   else none
  |_,_,_=>none
 |.slice sz x lo hi=>
  let YO:Option Int:=match lo with|none=>some 0|some l=>(σ.ev l).fw
  match σ.ev x,YO with
  |.one (.sl n s l0 len),some l=>
   match(match hi with|none=>some (len:Int)|some h=>(σ.ev h).fw) with
   |some h=>if s=sz/\0<=l/\l<=h/\h<=len/\(σ.h n).isSome=true then some (σ.put d (.one (.sl n s (l0+l.toNat) (h - l).toNat))) else none
   |none=>none
  |.one (.c (.list s xs)),some l=>
   match(match hi with|none=>some (xs.length:Int)|some h=>(σ.ev h).fw) with
   |some h=>if s=sz/\0<=l/\l<=h/\h<=xs.length then some (σ.put d (.one (.c (.list s ((xs.drop l.toNat).take (h - l).toNat))))) else none
   |none=>none
  |_,_=>none
 |.ri off x=>match σ.ev x with
  |.one (.ptr n k sz o)=>if(σ.h n).isSome=true then some (σ.put d (.one (.ptr n k sz (o+off)))) else none
  |.one (.dN xs o)=>some (σ.put d (.one (.dN xs (o+off))))
  |.one (.dh xs o j n s len)=>some (σ.put d (.one (.dh xs (o+off) j n s len)))
  |_=>none
 |.qL sz x i=>match σ.ev x,(σ.ev i).fw with
  |.one (.sl n s lo len),some k=>if s=sz/\0<=k/\k<len/\(σ.h n).isSome=true then some (σ.put d (.one (.ptr n (lo+k.toNat) s 0))) else none
  |.one (.c (.list s xs)),some k=>if s=sz/\0<=k then
   match xs[k.toNat]? with
   |some e=>some (σ.put d (.one (.dN e 0)))
   |none=>none
   else none
  |.one (.cF n kk aO off s len),some k=>match dE σ.h (.cF n kk aO off s len) with
   |some (.list s' ys)=>if s'=sz/\0<=k/\k<ys.length then some (σ.put d (.one (.dU n kk aO off sz k.toNat))) else none
   |_=>none
  |_,_=>none
 |.oF len x i=>match σ.ev x,(σ.ev i).fw with
  |.one (.ptr n kk s o),some k=>if 0<=k/\k<len/\(σ.h n).isSome=true then some (σ.put d (.one (.ptr n kk s (o+k.toNat)))) else none
  |_,_=>none
 |.ext i x=>match σ.ev x with
  |.ct xs=>match xs[i]? with
   |some (ag,cs)=>some (σ.put d (rT ag cs))
   |none=>none
  |_=>none
 |.len x=>match σ.ev x with
  |.one (.sl n sz lo len)=>if(σ.h n).isSome=true then some (σ.put d (.one (.c (.int .i64 len)))) else none
  |.one (.c (.list sz xs))=>some (σ.put d (.one (.c (.int .i64 xs.length))))
  |.one (.nil sz)=>some (σ.put d (.one (.c (.int .i64 0))))
  |.one (.cF n k aO off sz len)=>match dE σ.h (.cF n k aO off sz len) with
   |some (.list s ys)=>some (σ.put d (.one (.c (.int .i64 ys.length))))
   |_=>none
  |_=>none
 |.append fl sz dW x y=>match d with
  |none=>none
  |some n=>match vj σ sz (σ.ev x) with
   |none=>none
   |some (xs,m,σ1)=>match pH fl σ1 sz m (σ.ev y) with
    |none=>none
    |some (ys,m2,σ2)=>
     if(xs.length+ys.length)*dW<=gH then
      match σ2.ins n (.row true m2 sz (xs++ys)) with
      |some jG=>some (jG.put d (.one (.sl n sz 0 (xs.length+ys.length))))
      |none=>none
     else none
 |.copy sz x y=>match σ.ev x,σ.ev y with
  |.one (.sl n s lo len),.one c=>match σ.h n,dE σ.h c with
   |some (.row gr m rs xs),some (.list s' ys)=>if sz=1/\s=1/\rs=1/\s'=1/\m≠ .aQ/\iV xs=true/\iV ys=true/\lo+len<=xs.length then
    some ((σ.fh n (.row gr m 1 (dA xs lo (ys.take len)))).put d (.one (.c (.int .i64 (Nat.min ys.length len:Nat))))) else none
   |_,_=>none
  |_,_=>none
 |.oW z x=>match σ.ev x with
  |.one (.sl n s lo len)=>match σ.h n with
   |some (.row gr m rs xs)=>if s=1/\rs=1/\z.gx=true/\m≠ .aQ/\iV xs=true/\lo+len<=xs.length then
    some ((σ.fh n (.row gr m 1 (dA xs lo (OF len [z])))).put d (.ct [])) else none
   |_=>none
  |_=>none
 |.mm mx x y=>match σ.ev x,σ.ev y with
  |.one (.c (.int k a)),.one (.c (.int k' b))=>if mx=true then(if a<b then some (σ.put d (.one (.c (.int k b)))) else some (σ.put d (.one (.c (.int k a)))))
   else(if b<a then some (σ.put d (.one (.c (.int k b)))) else some (σ.put d (.one (.c (.int k a)))))
  |_,_=>none
 |.call m f xs=>qy T m d f (xs.map σ.ev) σ
 |.tJ f xs=>match(xs.map σ.ev).mapM (fun v=>match v with|.one c=>if c.kP=true then none else some c|_=>none) with
  |some cs=>if cs.all aj.MJ=true then some (σ.put d (.one (.fn f cs))) else none
  |none=>none
 |.pK m x xs=>match σ.ev x with
  |.one (.fn f dM)=>qy T m d f (xs.map σ.ev++dM.map .one) σ
  |_=>none
 |.oU m f xs=>vm T m d f (xs.map σ.ev) σ
 |.lN f xs=>rc T d f (xs.map σ.ev) σ
 |.pL f xs=>match ur T f (xs.map σ.ev) σ.h with
  |some v=>some (σ.put d v)
  |none=>none
 |.oV f xs=>match Ef T f (xs.map σ.ev) with
  |some v=>some (σ.put d v)
  |none=>none
 |.ox m f xs=>zT T m d f (xs.map σ.ev) σ
def gQ (T:bj) (o:cZ) (σ:St):Option St:=
 match o.guard with
 |none=>exec T o.dst o.op σ
 |some (s,pC)=>match σ.env s with
  |.one (.c (.bool b))=>if b=pC then exec T o.dst o.op σ else some (σ.put o.dst (.ct []))
  |.ct []=>some (σ.put o.dst (.ct []))
  |_=>none
def oz (T:bj):List cZ->St->Option St
 |[],σ=>some σ
 |o::os,σ=>match gQ T o σ with
  |some σ'=>oz T os σ'
  |none=>none
def aj.hY (ok:Nat->Bool):aj->aj
 |.ptr n k sz off=>if ok n=true then .ptr n k sz off else .bZ
 |.sl n sz lo len=>if ok n=true then .sl n sz lo len else .bZ
 |.cF n k aO off sz len=>if ok n=true then .cF n k aO off sz len else .bZ
 |.dU n k aO off sz i=>if ok n=true then .dU n k aO off sz i else .bZ
 |.dh xs off j n sz len=>if ok n=true then .dh xs off j n sz len else .bZ
 |x=>x
def aj.dX (ok:Nat->Bool):aj->aj
 |.fn f dM=>.fn f (dM.map (·.hY ok))
 |x=>x.hY ok
def au.dX (ok:Nat->Bool):au->au
 |.one c=>.one (c.dX ok)
 |.agg cs=>.agg (cs.map (·.dX ok))
 |.ct xs=>.ct (xs.map fun x=>(x.1,x.2.map (·.dX ok)))
def aA.dX (ok:Nat->Bool):aA->aA
 |.box cs=>.box (cs.map (·.dX ok))
 |b=>b
def B3:Nat->au:=fun _=>.one .bZ
def Hm:Nat->Option aA:=fun _=>none
def adL:Nat->Bool:=fun _=>false
def A6 (ok:Nat->Bool) (env:Nat->au):List Nat->(Nat->au)
 |[]=>B3
 |s::ss=>aV (A6 ok env ss) s ((env s).dX ok)
def v5 (ok:Nat->Bool) (h:Nat->Option aA):List Nat->(Nat->Option aA)
 |[]=>Hm
 |s::ss=>if ok s=true then match h s with
  |some b=>aV (v5 ok h ss) s (some (b.dX ok))
  |none=>v5 ok h ss
  else v5 ok h ss
def A7 (ok:Nat->Bool):List Nat->(Nat->Bool)
 |[]=>adL
 |s::ss=>if ok s=true then aV (A7 ok ss) s true else A7 ok ss
def aj.C5 (n:Nat):aj->Bool
 |.ptr m _ _ _=>m==n
 |.sl m _ _ _=>m==n
 |.cF m _ _ _ _ _=>m==n
 |.dU m _ _ _ _ _=>m==n
 |.dh _ _ _ m _ _=>m==n
 |_=>false
def aj.iN (n:Nat):aj->Bool
 |.fn _ dM=>dM.any (·.C5 n)
 |x=>x.C5 n
def au.iN (n:Nat):au->Bool
 |.one c=>c.iN n
 |.agg cs=>cs.any (·.iN n)
 |.ct xs=>xs.any fun x=>x.2.any (·.iN n)
def St.mN (σ:St) (ke kh:List Nat):Nat->Bool:=fun n=>kh.contains n&&(σ.h n).isSome&&
 (zbi aL n||ke.any (fun s=>(σ.env s).iN n)||kh.any fun k=>match σ.h k with|some (.box cs)=>cs.any (·.iN n)|_=>false)
def St.lG (σ:St) (ke kh:List Nat):St:=
 {env:=A6 (σ.mN ke kh) σ.env ke,h:=v5 (σ.mN ke kh) σ.h kh,used:=fun n=>zbi aL n||A7 (σ.mN ke kh) kh n}
def rO (x c n:Nat):Nat:=if n=x then c else n
def aj.sM (x c:Nat):aj->aj
 |.ptr n k sz off=>.ptr (rO x c n) k sz off
 |.sl n sz lo len=>.sl (rO x c n) sz lo len
 |.cF n k aO off sz len=>.cF (rO x c n) k aO off sz len
 |.dU n k aO off sz i=>.dU (rO x c n) k aO off sz i
 |.dh xs off j n sz len=>.dh xs off j (rO x c n) sz len
 |y=>y
def aj.bN (x c:Nat):aj->aj
 |.fn f dM=>.fn f (dM.map (·.sM x c))
 |y=>y.sM x c
def au.bN (x c:Nat):au->au
 |.one y=>.one (y.bN x c)
 |.agg ys=>.agg (ys.map (·.bN x c))
 |.ct ys=>.ct (ys.map fun y=>(y.1,y.2.map (·.bN x c)))
def aA.bN (x c:Nat):aA->aA
 |.box cs=>.box (cs.map (·.bN x c))
 |b=>b
def St.bN (σ:St) (x c:Nat):Option St:=
 if x=c then some σ else if zbi aL x=true then some σ else if σ.used c=true then none else
 some {env:=fun s=>(σ.env s).bN x c,h:=fun n=>if n=c then(σ.h x).map (·.bN x c) else if n=x then none else(σ.h n).map (·.bN x c),used:=fun n=>if n=c then σ.used x else if n=x then false else σ.used n}
def St.np (σ:St) (c:Nat):Mode->St
 |.aQ=>match σ.h c with
  |some (.row gr .aS rs xs)=>σ.fh c (.row gr .aQ rs xs)
  |_=>σ
 |_=>σ
def St.canon (σ:St):Bool×Nat×Nat×Nat×Mode->Option St
 |(true,n,j,c,m)=>match σ.h n with
  |some (.box cs)=>match cs[j]? with
   |some (.sl a _ _ _)=>(σ.bN a c).map fun σ1=>σ1.np c m
   |some (.nil sz)=>if 0<sz then match σ.ins c (.row true m sz []) with
    |some σ1=>some (σ1.fh n (.box (cs.set j (.sl c sz 0 0))))
    |none=>none
    else some σ
   |_=>some σ
  |_=>some σ
 |(false,n,j,c,m)=>match σ.env n with
  |.one (.sl a _ _ _)=>(σ.bN a c).map fun σ1=>σ1.np c m
  |.one (.nil sz)=>if 0<sz then match σ.ins c (.row true m sz []) with
   |some σ1=>some (σ1.put (some n) (.one (.sl c sz 0 0)))
   |none=>none
   else some σ
  |_=>some σ
def St.ye (σ:St):List (Bool×Nat×Nat×Nat×Mode)->Option St
 |[]=>some σ
 |x::l=>match σ.canon x with
  |some σ1=>σ1.ye l
  |none=>none
def St.head (σ:St) (ke kh:List Nat) (cn:List (Bool×Nat×Nat×Nat×Mode)):Option St:=
 match((σ.lG ke kh).lG ke kh).ye cn with
 |some σ1=>some (σ1.lG ke kh)
 |none=>none
def bo.args:bo->List MO
 |.mv x|.box _ x|.load _ _ x|.gS x|.un _ x|.conv _ x|.ri _ x|.ext _ x|.len x|.oW _ x=>[x]
 |.pick c x y=>[c,x,y]
 |.alloc _=>[]
 |.build _ ps=>ps.map (·.2.2)
 |.f8 _ ps|.zM _ ps=>ps
 |.store _ x v=>[x,v]
 |.bin _ x y|.mm _ x y|.append _ _ _ x y|.copy _ x y|.qL _ x y|.oF _ x y=>[x,y]
 |.jP _ _ _ _ l c=>[l,c]
 |.slice _ x lo hi=>x::(lo.toList++hi.toList)
 |.call _ _ xs|.tJ _ xs|.oU _ _ xs|.lN _ xs|.pL _ xs|.oV _ xs|.ox _ _ xs=>xs
 |.pK _ x xs=>x::xs
def bo.Mb:bo->Bool
 |.call ..|.pK ..=>true
 |_=>false
def aj.xG:aj->List Nat
 |.ptr n _ _ _=>[n]
 |.sl n _ _ _=>[n]
 |.cF n _ _ _ _ _=>[n]
 |.dU n _ _ _ _ _=>[n]
 |.dh _ _ _ n _ _=>[n]
 |_=>[]
def aj.nm:aj->List Nat
 |.fn _ dM=>dM.flatMap aj.xG
 |x=>x.xG
def au.kj:au->List Nat
 |.one c=>c.nm
 |.agg cs=>cs.flatMap aj.nm
 |.ct xs=>xs.flatMap fun x=>x.2.flatMap aj.nm
def GP (h:Nat->Option aA) (l:List Nat):List Nat:=l.flatMap fun n=>match h n with
 |some (.box cs)=>cs.flatMap aj.nm
 |_=>[]
def bo.mM (op:bo) (ev:MO->au):List Nat:=op.args.flatMap fun x=>(ev x).kj
def bo.qQ (op:bo) (ev:MO->au) (h:Nat->Option aA):List Nat:=cond op.Mb (op.mM ev++GP h (op.mM ev)) (op.mM ev)
def bo.oS (op:bo) (ev:MO->au) (h:Nat->Option aA):Option (List Nat):=
 match op with
 |.store _ x v=>match ev x with
  |.one (.ptr n _ _ _)=>match h n with
   |some (.box _)=>some [n]
   |some (.row ..)=>some (n::(ev v).kj)
   |none=>none
  |.one (.dU n _ _ _ _ _)=>some [n]
  |_=>none
 |.f8 _ ps=>some (ps.flatMap fun p=>(ev p).kj)
 |.lN _ xs=>some (xs.flatMap fun p=>(ev p).kj)
 |.append _ _ _ x y=>some ((ev x).kj++(ev y).kj)
 |.copy _ x _|.oW _ x=>match ev x with
  |.one (.sl n _ _ _)=>some [n]
  |_=>none
 |.oU ..|.ox ..=>none
 |_=>some []
abbrev FP:=List Nat×List Nat
def bo.fp (op:bo) (σ:St):Option FP:=(op.oS σ.ev σ.h).map fun w=>(op.qQ σ.ev σ.h,w)
def KI (f g:FP):Bool:=f.2.all (fun n=> !(g.1.contains n))&&g.2.all (fun n=> !(f.1.contains n))
def KJ:Option FP->Option FP->Bool
 |some f,some g=>KI f g
 |_,_=>false
def rf (o:cZ) (e:Nat->au):Option bo:=
 match o.guard with
 |none=>some o.op
 |some (s,pC)=>match e s with
  |.one (.c (.bool b))=>if b=pC then some o.op else some (.mv (.k (.ct [])))
  |.ct []=>some (.mv (.k (.ct [])))
  |_=>none
def cZ.fp (o:cZ) (σ:St):Option FP:=
 match rf o σ.env with
 |some op=>op.fp σ
 |none=>none
def AR (ps:List (Nat×Nat)) (fs:List (Option FP)):Bool:=ps.all fun p=>KJ (fs.getD p.1 none) (fs.getD p.2 none)
def qD (T:bj):List cZ->List (Option FP)->St->Option (List (Option FP)×St)
 |[],cW,σ=>some (cW,σ)
 |o::os,cW,σ=>match gQ T o σ with
  |some σ1=>qD T os (cW++[o.fp σ]) σ1
  |none=>none
def aP:Nat:=2^64
def Iq:Nat->(St->Option wN)->St->Option wN
 |0,_,_=>none
 |n+1,f,σ=>match f σ with
  |some (.ij σ')=>Iq n f σ'
  |o=>o
def aj.pO (n:Nat):aj->aj
 |.cF m k aO off sz len=>match zbh m n with
  |true=>.bZ
  |false=>.cF m k aO off sz len
 |.dU m k aO off sz i=>match zbh m n with
  |true=>.bZ
  |false=>.dU m k aO off sz i
 |y=>y
def aj.cut (n:Nat):aj->aj
 |.fn f dM=>.fn f (dM.map (·.pO n))
 |y=>y.pO n
def au.cut (n:Nat):au->au
 |.one c=>.one (c.cut n)
 |.agg cs=>.agg (cs.map (·.cut n))
 |.ct xs=>.ct (xs.map fun x=>(x.1,x.2.map (·.cut n)))
def aA.cut (n:Nat):aA->aA
 |.box cs=>.box (cs.map (·.cut n))
 |b=>b
def St.cut (σ:St) (n:Nat):St:={σ with env:=fun s=>(σ.env s).cut n,h:=fun m=>(σ.h m).map (·.cut n)}
def fm (T:bj):mn->St->Option wN
 |.skip,σ=>some (.ij σ)
 |.eH _ ops,σ=>match oz T ops σ with
  |some σ'=>some (.ij σ')
  |none=>none
 |.qR ps ops,σ=>match qD T ops [] σ with
  |some (fs,σ')=>cond (AR ps fs) (some (.ij σ')) none
  |none=>none
 |.seq a b,σ=>match fm T a σ with
  |some (.ij σ')=>fm T b σ'
  |o=>o
 |.cond c a b,σ=>match σ.ev c with
  |.one (.c (.bool t))=>if t=true then fm T a σ else fm T b σ
  |_=>none
 |.block id c,σ=>match fm T c σ with
  |some (.ext i σ')=>if i=id then some (.ij σ') else some (.ext i σ')
  |o=>o
 |.join ke kh cn c,σ=>match fm T c σ with
  |some (.ij σ')=>match σ'.head ke kh cn with
   |some σ1=>some (.ij σ1)
   |none=>none
  |o=>o
 |.loop id ke kh cn c,σ=>Iq aP (fun σ=>match σ.head ke kh cn with|some σ1=>fm T c σ1|none=>none) σ
 |.exit id,σ=>some (.ext id σ)
 |.ret,σ=>some (.ret σ)
section
variable {B:Nat} {E:Ex} {w0 w w':World} {G G':Gh} {h h':Nat->Option aA} {used used':Nat->Bool} {tk:List PC}
theorem cm.refl (w:World) (G:Gh) (h:Nat->Option aA) (u:Nat->Prop):cm w G h u w G h:= ⟨fun _ h=>h,fun _ _ _=>rfl,fun _ _ h=>⟨h,rfl,rfl,rfl,rfl,rfl⟩,fun n b sz xs _ hn=>⟨⟨b,xs,hn⟩,fun k j pc a c=>⟨pc,a,rfl,c⟩⟩⟩
theorem cm.trans {g m e:World} {c d f:Gh} {l i p:Nat->Option aA} {u u2:Nat->Prop} (s:∀n,u n->u2 n) (a:cm g c l u m d i) (b:cm m d i u2 e f p):cm g c l u e f p:=by refine⟨fun x hx=>b.im x (a.im x hx),fun x hx o=>(b.cell x (a.im x hx) o).trans (a.cell x hx o),fun n hn h=>?_,fun n K sz xs hn h=>?_⟩;obtain⟨O,I,D,C,J,L⟩:=b.name n (s n hn) h;obtain⟨E,v,M,G,t,y⟩:=a.name n hn O;exact⟨E,I.trans v,D.trans M,C.trans G,J.trans t,L.trans y⟩;obtain⟨⟨z,A,P⟩,l2⟩:=b.live n K sz xs (s n hn) h;obtain⟨H,l1⟩:=a.live n z sz A hn P;refine⟨H,fun k j pc p1 F=>?_⟩;obtain⟨q,N,w,B⟩:=l1 k j pc p1 F;obtain⟨r,r1,r2,r3⟩:=l2 k j q N B;exact⟨r,r1,r2.trans w,r3⟩
theorem cm.world (c:∀b,G.Im b->w'.heap[b]? =w.heap[b]?) (u:Nat->Prop):cm w G h u w' G h:= ⟨fun _ h=>h,fun b hb o=>kx (c b hb) o,fun _ _ h=>⟨h,rfl,rfl,rfl,rfl,rfl⟩,fun n d sz xs _ hn=>⟨⟨d,xs,hn⟩,fun k j pc a e=>⟨pc,a,rfl,e⟩⟩⟩
theorem HR.wb (H:HR B E w G h used tk) {n:Nat} {d:Bool} {m:Mode} {sz:Nat} {xs:List (List C)} (hn:h n=some (.row d m sz xs)) {b:Nat} (hb:bF b (G.g n).px):b<w.heap.size:=by have hr:=H.row n d m sz xs hn;cases bk:(G.g n).nl with|true=>obtain⟨k,j,c,⟨e,a,_⟩,_⟩:=hb;rw[(hr.nl bk).1] at a;simp at a|false=>exact(hr.f6 bk).2.1.lt hb
theorem HR.grow (H:HR B E w G h used tk) (f:∀b,b<w.heap.size->w'.heap[b]? =w.heap[b]?) (q:w.heap.size<=w'.heap.size):HR B E w' G h used tk:=by have K:cm w G h (fun n=>used n=true) w' G h:=cm.world (fun b hb=>f b (H.jX b hb)) _;have k:∀b,fA w b->fA w' b:=fun b hb=>hb.congr (f b hb.lt);refine⟨H.lc,H.kq,fun n cs hn=>?_,fun n t m sz xs hn=>?_,fun n hn hl=>?_,H.inj,fun b hb=>IN (H.jX b hb) q,H.tx,H.ji,H.live,fun i pc hi=>?_,H.Bm,H.wA⟩;obtain⟨s,p,u⟩:=H.box n cs hn;refine⟨s,k _ p,fun j c hj=>?_⟩;obtain⟨v,d,a,g⟩:=u j c hj;exact⟨v,(kx (f _ p.lt) _).trans d,a,g.keep K fun m hm=>H.kq n cs c m hn (co hj) hm⟩;have hr:=H.row n t m sz xs hn;refine⟨hr.pos,hr.er,hr.nl,fun hl=>?_,fun hl l=>?_,?_,fun l hm=>(hr.nr l hm).congr fun b hb=>f b (H.wb hn hb)⟩;obtain⟨d,a,g⟩:=hr.f6 hl;exact⟨k _ d,a.congr (fun o=>kx (f _ d.lt) o) (fun b' x o=>kx (f _ (a.lt x)) o),g⟩;obtain⟨r2,cur,e,r3,r⟩:=hr.room hl l;exact⟨r2,cur,e,(f _ (hr.f6 hl).1.lt).trans r3,r⟩;have hm:=hr.mode;(cases m with|aQ=>exact hm|aS=>exact⟨fun b hb=>⟨(hm.1 b hb).1,k _ (hm.1 b hb).2.1,(hm.1 b hb).2.2⟩,hm.2⟩|live=>exact⟨fun b hb=>⟨(hm.1 b hb).1,k _ (hm.1 b hb).2.1,(hm.1 b hb).2.2⟩,hm.2⟩);obtain⟨d,a,g⟩:=H.own n hn hl;exact⟨d,a,IN g q⟩;obtain⟨d,a⟩:=H.wz i pc hi;exact⟨d,fun b hb=>⟨(a b hb).1,k _ (a b hb).2.1,(a b hb).2.2⟩⟩
theorem Fr.refl (B:Nat) (E:Ex) (w0:World) (a:B<=w0.heap.size):Fr B E w0 w0:= ⟨rfl,rfl,rfl,a,fun _ _ _=>rfl,fun _ _=>Cz.refl _ _⟩
theorem Fr.grow (F:Fr B E w0 w) (a:∀b,b<w.heap.size->w'.heap[b]? =w.heap[b]?) (e:w.heap.size<=w'.heap.size) (f:w'.os=w.os) (d:w'.tape=w.tape) (hp:w'.output=w.output):Fr B E w0 w':= ⟨f.trans F.os,d.trans F.tape,hp.trans F.output,zau F.size e,fun b hb c=>(a b (IN hb F.size)).trans (F.block b hb c), fun b hb=>(F.mh b hb).trans (Cz.of_eq (a b (IN hb F.size)))⟩
theorem Fr.one (F:Fr B E w0 w) {b0:Nat} (h:B<=b0\/E b0) (d:∀b,b<w.heap.size->b≠b0->w'.heap[b]? =w.heap[b]?) (g:w.heap.size<=w'.heap.size) (i:Cz w w' b0) (j:w'.os=w.os) (f:w'.tape=w.tape) (hp:w'.output=w.output):Fr B E w0 w':=by refine⟨j.trans F.os,f.trans F.tape,hp.trans F.output,zau F.size g,fun b hb a=>?_,fun b hb=>?_⟩;refine(d b (IN hb F.size) ?_).trans (F.block b hb a);rintro rfl;rcases h with c|c;omega;exact a c;by_cases e:b=b0;subst e;exact(F.mh b hb).trans i;exact(F.mh b hb).trans (Cz.of_eq (d b (IN hb F.size) e))
def abG (B:Nat) (E:Ex) (w:World) (G:Gh) (h:Nat->Option aA) (p:PB):aA->Prop
 |.box cs=>p.nl=false/\fA w p.b/\∀(j:Nat) (c:aj),cs[j]? =some c->∃v,w.cell? (ad p.b (p.o+j))=some v/\v.oneCell'=true/\RC w G h c v
 |.row gr m sz xs=>zI B E w G gr m sz xs p
theorem HR.aj1 (H:HR B E w G h used tk) {n:Nat} {blk:aA} {p:PB} (V:∀b,b<w.heap.size->(p.nl=false->b≠p.b)->w'.heap[b]? =w.heap[b]?) (Z:w.heap.size<=w'.heap.size) (Cv:∀b,b<w.heap.size->fA w b->fA w' b) (T:∀m,used m=true->used' m=true) (XI:used' n=true) (uK:p.nl=false->¬G.Im p.b/\(B<=p.b\/E p.b)/\p.b<w'.heap.size) (P:p.nl=false->∀m,m≠n->h m≠none->(G.g m).nl=false->(G.g m).b≠p.b) (Xg:p.nl=false->∀m k sz xs,m≠n->h m=some (.row k .live sz xs)->∀b,bF b (G.g m).px->b≠p.b) (yM:∀cs c m,blk=.box cs->c∈cs->c.ref m->used' m=true) (K:∀m cs c v,m≠n->h m=some (.box cs)->c∈cs->RC w G h c v->RC w' ⟨G.Im,aV G.g n p⟩ (aV h n (some blk)) c v) (Y:abG B E w' ⟨G.Im,aV G.g n p⟩ (aV h n (some blk)) p blk) (X:∀k m sz xs,blk=.row k m sz xs->m≠ .aQ->∀z F d D J,z≠n->h z=some (.row F d D J)->d≠ .aQ->∀b,bF b p.px->¬bF b (G.g z).px) (vF:∀k sz xs,blk=.row k .live sz xs->∀b,bF b p.px->(p.nl=false->b≠p.b)/\∀z,z≠n->h z≠none->(G.g z).nl=false->b≠(G.g z).b) (qG:∀k m sz xs,blk=.row k m sz xs->m≠ .aQ->∀(i:Nat) (pc:PC) (b:Nat),tk[i]? =some pc->bD b pc->¬bF b p.px) (pU:p.nl=false->p.b<w.heap.size->∀b,(∃m k u sz xs,m≠n/\h m=some (.row k u sz xs)/\bF b (G.g m).px)->b≠p.b): HR B E w' ⟨G.Im,aV G.g n p⟩ (aV h n (some blk)) used' tk:=by have t:∀m,m≠n->aV h n (some blk) m=h m:=fun m hm=>dJ _ _ _ _ hm;have s:∀m,m≠n->aV G.g n p m=G.g m:=fun m hm=>dJ _ _ _ _ hm;have Q:∀m,m≠n->h m≠none->(G.g m).nl=false->w'.heap[(G.g m).b]? =w.heap[(G.g m).b]? :=fun m hm U hl=> V _ (H.own m U hl).2.2 (fun hp=>P hp m hm U hl);refine⟨?_,?_,?_,?_,?_,?_,?_,H.tx,?_,?_,?_,?_,?_⟩;intro m hm;by_cases a:m=n;subst a;exact XI;rw[t m a] at hm;exact T m (H.lc m hm);intro m cs c q hm S hr;by_cases a:m=n;subst a;rw[cX] at hm;injection hm with hm;exact yM cs c q hm S hr;rw[t m a] at hm;exact T q (H.kq m cs c q hm S hr);intro m cs hm;by_cases a:m=n;subst a;rw[cX] at hm;injection hm with hm;subst hm;simp only[cX];exact Y;rw[t m a] at hm;simp only[s m a];obtain⟨A,x,I⟩:=H.box m cs hm;have hs:=Q m a (by rw[hm];simp) A;refine⟨A,x.congr hs,fun j c hj=>?_⟩;obtain⟨v,b1,b2,b3⟩:=I j c hj;exact⟨v,(kx hs _).trans b1,b2,K m cs c v a hm (co hj) b3⟩;intro m k u sz xs hm;by_cases a:m=n;subst a;rw[cX] at hm;injection hm with hm;subst hm;simp only[cX];exact Y;rw[t m a] at hm;simp only[s m a];have hr:=H.row m k u sz xs hm;have N:∀b,bF b (G.g m).px->w'.heap[b]? =w.heap[b]? :=fun b hb=> V b (H.wb hm hb) (fun hp gE=>by by_cases cu:p.b<w.heap.size;exact pU hp cu b ⟨m,k,u,sz,xs,a,hm,hb⟩ gE;have:=H.wb hm hb;omega);refine⟨hr.pos,hr.er,hr.nl,fun hl=>?_,fun hl O=>?_,?_,fun O hm=>(hr.nr O hm).congr N⟩;have hs:=Q m a (by rw[hm];simp) hl;obtain⟨A,x,I⟩:=hr.f6 hl;exact⟨A.congr hs,x.congr (fun o=>kx hs o) (fun b' M o=>kx (N b' M) o),I⟩;have hs:=Q m a (by rw[hm];simp) hl;obtain⟨r2,cur,e,r3,r4⟩:=hr.room hl O;exact⟨r2,cur,e,hs.trans r3,r4⟩;have y:=hr.mode;(cases u with|aQ=>exact y|aS=>exact⟨fun b hb=>⟨(y.1 b hb).1,(y.1 b hb).2.1.congr (N b hb),(y.1 b hb).2.2⟩,y.2⟩|live=>exact⟨fun b hb=>⟨(y.1 b hb).1,(y.1 b hb).2.1.congr (N b hb),(y.1 b hb).2.2⟩,y.2⟩);intro m hm hl;by_cases a:m=n;subst a;simp only[cX] at hl⊢;exact uK hl;rw[t m a] at hm;simp only[s m a] at hl⊢;obtain⟨A,x,I⟩:=H.own m hm hl;exact⟨A,x,IN I Z⟩;intro m d hm l L hl r;by_cases a:m=n;subst a;have f:d≠m:=fun e=>L e.symm;rw[t d f] at l;simp only[cX,s d f] at hl r⊢;exact fun e=>P hl d f l r e.symm;rw[t m a] at hm;by_cases f:d=n;subst f;simp only[cX,s m a] at hl r⊢;exact P r m a hm hl;rw[t d f] at l;simp only[s m a,s d f] at hl r⊢;exact H.inj m d hm l L hl r;exact fun b hb=>IN (H.jX b hb) Z;intro m d k u sz xs F R D J hm l hb M L b C;by_cases a:m=n;subst a;have f:d≠m:=fun e=>L e.symm;rw[t d f] at l;rw[cX] at hm;injection hm with hm;simp only[cX,s d f] at C⊢;exact X k u sz xs hm hb d F R D J f l M b C;rw[t m a] at hm;by_cases f:d=n;subst f;rw[cX] at l;injection l with l;simp only[cX,s m a] at C⊢;exact fun Lh=>X F R D J l M m k u sz xs a hm hb b Lh C;rw[t d f] at l;simp only[s m a,s d f] at C⊢;exact H.ji m d k u sz xs F R D J hm l hb M L b C;intro m k sz xs hm b hb d l r;by_cases a:m=n;subst a;rw[cX] at hm;injection hm with hm;simp only[cX] at hb;have:=vF k sz xs hm b hb;by_cases f:d=m;subst f;simp only[cX] at r⊢;exact this.1 r;rw[t d f] at l;simp only[s d f] at r⊢;exact this.2 d f l r;rw[t m a] at hm;simp only[s m a] at hb;by_cases f:d=n;subst f;simp only[cX] at r⊢;exact Xg r m k sz xs a hm b hb;rw[t d f] at l;simp only[s d f] at r⊢;exact H.live m k sz xs hm b hb d l r;intro i pc hi;obtain⟨A,x⟩:=H.wz i pc hi;exact⟨A,fun b hb=>⟨(x b hb).1,Cv b (H.jX b (x b hb).1) (x b hb).2.1,(x b hb).2.2⟩⟩;exact H.Bm;intro i pc m k u sz xs b hi hm W hb;by_cases a:m=n;subst a;rw[cX] at hm;injection hm with hm;simp only[cX];exact qG k u sz xs hm W i pc b hi hb;rw[t m a] at hm;simp only[s m a];exact H.wA i pc m k u sz xs b hi hm W hb
theorem HR.put (H:HR B E w G h used tk) {n:Nat} {blk:aA} {p:PB} (o:∀b,b<w.heap.size->(p.nl=false->b≠p.b)->w'.heap[b]? =w.heap[b]?) (z:w.heap.size<=w'.heap.size) (I:∀b,b<w.heap.size->fA w b->fA w' b) (J:∀m,used m=true->used' m=true) (k:used' n=true) (r:p.nl=false->¬G.Im p.b/\(B<=p.b\/E p.b)/\p.b<w'.heap.size) (L:p.nl=false->∀m,m≠n->h m≠none->(G.g m).nl=false->(G.g m).b≠p.b) (F:p.nl=false->∀m a sz xs,m≠n->h m=some (.row a .live sz xs)->∀b,bF b (G.g m).px->b≠p.b) (u:∀cs c m,blk=.box cs->c∈cs->c.ref m->used' m=true) (K:cm w G h (fun n=>used n=true) w' ⟨G.Im,aV G.g n p⟩ (aV h n (some blk))) (x:abG B E w' ⟨G.Im,aV G.g n p⟩ (aV h n (some blk)) p blk) (M:∀a m sz xs,blk=.row a m sz xs->m≠ .aQ->∀d D e l A,d≠n->h d=some (.row D e l A)->e≠ .aQ->∀b,bF b p.px->¬bF b (G.g d).px) (j:∀a sz xs,blk=.row a .live sz xs->∀b,bF b p.px->(p.nl=false->b≠p.b)/\∀d,d≠n->h d≠none->(G.g d).nl=false->b≠(G.g d).b) (f:∀a m sz xs,blk=.row a m sz xs->m≠ .aQ->∀(i:Nat) (pc:PC) (b:Nat),tk[i]? =some pc->bD b pc->¬bF b p.px) (s:p.nl=false->p.b<w.heap.size->∀b,(∃m a y sz xs,m≠n/\h m=some (.row a y sz xs)/\bF b (G.g m).px)->b≠p.b): HR B E w' ⟨G.Im,aV G.g n p⟩ (aV h n (some blk)) used' tk:= H.aj1 o z I J k r L F u (fun m cs c v _ hm C N=>N.keep K fun q t=>H.kq m cs c q hm C t) x M j f s
theorem HR.del (H:HR B E w G h used tk) (n:Nat):HR B E w G (aV h n none) used tk:=by have a:∀m b,aV h n none m=some b->h m=some b/\m≠n:=fun m b hm=>(by by_cases f:m=n;subst f;rw[cX] at hm;cases hm;rw[dJ _ _ _ _ f] at hm;exact⟨hm,f⟩);have g:∀m,aV h n none m≠none->h m≠none:=fun m hm=>(by by_cases f:m=n;subst f;rw[cX] at hm;exact absurd rfl hm;rwa[dJ _ _ _ _ f] at hm);have K:cm w G h (fun n=>used n=true) w G (aV h n none):= ⟨fun _ h=>h,fun _ _ _=>rfl,fun m _ hm=>⟨g m hm,rfl,rfl,rfl,rfl,rfl⟩,fun m d sz xs _ hm=>⟨⟨d,xs,(a m _ hm).1⟩,fun k j pc z x=>⟨pc,z,rfl,x⟩⟩⟩;refine⟨fun m hm=>H.lc m (g m hm),fun m cs c q hm=>H.kq m cs c q (a m _ hm).1,fun m cs hm=>?_,fun m d o sz xs hm=>H.row m d o sz xs (a m _ hm).1, fun m hm=>H.own m (g m hm),fun m e hm l=>H.inj m e (g m hm) (g e l),H.jX,H.tx,fun m e d o sz xs D I p C hm l=>H.ji m e d o sz xs D I p C (a m _ hm).1 (a e _ l).1, fun m d sz xs hm b hb e l=>H.live m d sz xs (a m _ hm).1 b hb e (g e l),H.wz,H.Bm,fun i pc m d o sz xs b hi hm=>H.wA i pc m d o sz xs b hi (a m _ hm).1⟩;obtain⟨u,A,s⟩:=H.box m cs (a m _ hm).1;refine⟨u,A,fun j c hj=>?_⟩;obtain⟨v,r,F,y⟩:=s j c hj;exact⟨v,r,F,y.keep K fun q t=>H.kq m cs c q (a m _ hm).1 (co hj) t⟩
theorem cm.del (n:Nat) (u:Nat->Prop):cm w G h u w G (aV h n none):=by have c:∀m b,aV h n none m=some b->h m=some b:=fun m b hm=>(by by_cases a:m=n;subst a;rw[cX] at hm;cases hm;rwa[dJ _ _ _ _ a] at hm);refine⟨fun _ h=>h,fun _ _ _=>rfl,fun m _ hm=>?_,fun m e sz xs _ hm=>⟨⟨e,xs,c m _ hm⟩,fun k j pc d f=>⟨pc,d,rfl,f⟩⟩⟩;cases hh:aV h n none m with|none=>exact absurd hh hm|some b=>rw[c m b hh];exact⟨by simp,rfl,rfl,rfl,rfl,rfl⟩
end
theorem ug {α:Type} {px:List (List α)} {lo len k j:Nat} {c:α} (h:At ((px.drop lo).take len) k j c):At px (lo+k) j c/\k<len:=by obtain⟨e,a,hj⟩:=h;rw[List.getElem?_take] at a;split at a;rename_i b;rw[zar] at a;exact⟨⟨e,a,hj⟩,b⟩;cases a
section
variable {B N:Nat} {E:Ex} {w0 w w':World} {G G':Gh} {h h':Nat->Option aA} {used used':Nat->Bool} {tk:List PC}
def n7 (p:PB) (sz lo len:Nat) (v:Value):PC:=
 match v with
 |.slice a _ cap=>.list sz a cap ((p.px.drop lo).take len)
 |_=>.bool false
theorem Nw {q:Bool} {m:Mode} {sz:Nat} {xs:List (List C)} {p:PB} (hr:zI B E w G q m sz xs p) {lo len:Nat} {v:Value} (r:kY p sz lo len v) (hl:lo+len<=xs.length): (n7 p sz lo len v).er=.list sz ((xs.drop lo).take len)/\(n7 p sz lo len v).val=v/\Good w (n7 p sz lo len v)/\ (∀b,bD b (n7 p sz lo len v)->(p.nl=false/\b=p.b)\/bF b p.px):=by have jM:p.px.length=xs.length:=(by rw[hr.er];simp);rcases r with⟨hn,rfl,rfl,rfl⟩|⟨hn,a,rfl,hc,ha⟩;have g:=(hr.nl hn).1;refine⟨?_,?_,?_,?_⟩;simp[n7,PC.fK];simp[n7,PC.val];simp only[n7,za9,zaQ];exact .nil _ _ _ hr.pos;intro b hb;simp only[n7,za9,zaQ] at hb;rw[bD.pq] at hb;rcases hb with⟨hb,_⟩|⟨k,j,c,⟨e,i,_⟩,_⟩;exact absurd rfl hb;simp at i;have hlen:((p.px.drop lo).take len).length=len:=(by simp;omega);refine⟨?_,?_,?_,?_⟩;simp only[n7,PC.fK];rw[hr.er,zaV,zaW];simp[n7,PC.val];omega;simp only[n7];by_cases g:(p.px.drop lo).take len=[];rw[g];exact .nil _ _ _ hr.pos;have l:0<len:=(by rcases zaz len with d|d;subst d;simp at g;exact d);have e:=ha (.inl (by omega));subst e;obtain⟨a1,n,a3⟩:=hr.f6 hn;refine .cons sz p.b (p.o+lo*sz) _ _ g (by omega) hr.pos (fun e i=>n.1 e (zah (zai i))) (fun k j c f=>?_) (fun k j c f=>n.2.2 _ _ _ (ug f).1);have:=n.2.1 _ _ _ (ug f).1;rw[GB] at this;rw[<-this];congr 2;omega;intro b hb;simp only[n7] at hb;rw[bD.pq] at hb;rcases hb with⟨hb,o,h⟩|⟨k,j,c,f,hb⟩;have l:0<len:=(by rcases zaz len with d|d;subst d;simp at hb;exact d);have e:=ha (.inl (by omega));rw[e] at h;injection h with h;exact .inl ⟨hn,(q9 h).1.symm⟩;exact .inr ⟨_,_,_,(ug f).1,hb⟩
theorem HR.dE (H:HR B E w G h used tk) {c:aj} {x:C} {v:Value} (hx:dE h c=some x) (f:RC w G h c v):∃pc:PC,pc.er=x/\pc.val=v/\Good w pc:=by cases c with|c y=>simp only[Am.dE] at hx;injection hx with hx;subst hx;obtain⟨pc,r,p,u,_⟩:=f;exact⟨pc,r,p,u⟩|nil sz=>simp only[Am.dE] at hx;split at hx;rename_i t;injection hx with hx;subst hx;have z:v=.slice none 0 0:=f;subst z;exact⟨.list sz none 0 [],by simp[PC.fK],rfl,.nil _ _ _ t⟩;cases hx|sl n sz lo len=>simp only[Am.dE] at hx;split at hx;rename_i d m a xs hn;split at hx;rename_i i;obtain⟨rfl,hl⟩:=i;injection hx with hx;subst hx;have hs:kY (G.g n) a lo len v:=f (by rw[hn];simp);obtain⟨l,s,j,_⟩:=Nw (H.row n d m a xs hn) hs hl;exact⟨_,l,s,j⟩;cases hx;cases hx|cF n k aO off sz len=>simp only[Am.dE] at hx;split at hx;rename_i d a xs hn;split at hx;rename_i i;subst i;obtain⟨pc,p1,o,p3⟩:=f d xs hn;have hr:=H.row n d .live a xs hn;have q:(G.g n).nl=false:=(by cases hq:(G.g n).nl with|false=>rfl|true=>obtain⟨e,b,_⟩:=p1;rw[(hr.nl hq).1] at b;simp at b);refine⟨pc,?_,o,(hr.f6 q).2.1.2.2 _ _ _ p1⟩;obtain⟨e,b,hj⟩:=p1;rw[hr.er] at hx;simp[b,hj] at hx;exact hx;cases hx;cases hx|ptr _ _ _ _=>simp[Am.dE] at hx|dN _ _=>simp[Am.dE] at hx|dh _ _ _ _ _ _=>simp[Am.dE] at hx|fn _ _=>simp[Am.dE] at hx|dU _ _ _ _ _ _=>simp[Am.dE] at hx|bZ=>simp[Am.dE] at hx
theorem HR.ie (H:HR B E w G h used tk):∀{cs:List aj} {xs:List C} {vs:List Value},ie h cs=some xs->ed w G h cs vs->
  ∃b:List PC,b.map PC.er=xs/\b.map PC.val=vs/\∀pc∈b,Good w pc
 |[],xs,vs,hx,hc=>by
  simp only[Am.ie] at hx;injection hx with hx;subst hx;have:vs=[]:=AN (by simpa using hc.1);subst this;exact⟨[],rfl,rfl,by simp⟩
 |c::cs,xs,vs,hx,hc=>by
  simp only[Am.ie] at hx;split at hx
  ·rename_i x aH p r;injection hx with hx;subst hx;obtain⟨a,e⟩:=hc;match vs,a with
   |v::vs,a=>
    obtain⟨pc,i,m,g⟩:=H.dE p (e 0 c v rfl rfl).2;obtain⟨b,f,o,k⟩:=H.ie r (cs:=cs) (vs:=vs) ⟨by simpa using a,fun j c u n l=>e (j+1) c u n l⟩;refine⟨pc::b,by simp[i,f],by simp[m,o],fun q d=>?_⟩;cases d with
    |head=>exact g
    |tail _ d=>exact k q d
  ·cases hx
def Gb (w:World) (d:Dv) (v:Value):Prop:=
 match d.1 with
 |.one=>∃cQ:List PC,cQ.map PC.er=d.2/\(∀pc∈cQ,Good w pc)/\cQ.map PC.val=[v]
 |.agg=>∃cQ:List PC,cQ.map PC.er=d.2/\(∀pc∈cQ,Good w pc)/\v=.agg (cQ.map PC.val).toArray
 |.ptr=>∃(cQ:List PC) (b o:Nat),cQ.map PC.er=d.2/\v=.pointer (some (ad b o))/\b<w.heap.size/\
  ∀j c,cQ[j]? =some c->w.cell? (ad b (o+j))=some c.val/\Good w c
def Jz (w:World) (ds:List Dv) (vs:List Value):Prop:=
 vs.length=ds.length/\∀(j:Nat) (d:Dv) (v:Value),ds[j]? =some d->vs[j]? =some v->Gb w d v
theorem HR.ko (H:HR B E w G h used tk) {x:au} {d:Dv} {v:Value} (hx:ko h x=some d) (a:RA w G h x v):Gb w d v:=by have one:∀c:aj,(Am.dE h c).map (fun x=>((.one,[x]):Dv))=some d->RA w G h (.one c) v->Gb w d v:=(by intro c hx a;cases hv:Am.dE h c with|none=>rw[hv] at hx;cases hx|some y=>rw[hv] at hx;simp at hx;subst hx;rcases a with rfl|a;simp[Am.dE] at hv;have r:ed w G h [c] [v]:=a;obtain⟨pc,p,q,m⟩:=H.dE hv (r.2 0 c v rfl rfl).2;exact⟨[pc],by simp[p],by simpa using m,by simp[q]⟩);cases x with|one c=>(cases c with|ptr n k sz off=>simp only[Am.ko] at hx;split at hx;rename_i cs hn;split at hx;rename_i I;obtain⟨rfl,rfl⟩:=I;(cases hv:Am.ie h cs with|none=>rw[hv] at hx;cases hx|some xs=>rw[hv] at hx;simp at hx;subst hx;rcases a with a|a;cases a;have r:ed w G h [.ptr n 0 sz 0] [v]:=a;have hp:=(r.2 0 _ v rfl rfl).2 (by rw[hn];simp);obtain⟨sn,K⟩:=hp;obtain⟨q1,D,F⟩:=H.box n cs hn;have P:∀(cs:List aj) (o:Nat) (xs:List C),(∀(j:Nat) (c:aj),cs[j]? =some c->∃v,w.cell? (ad (G.g n).b (o+j))=some v/\v.oneCell'=true/\RC w G h c v)->Am.ie h cs=some xs-> ∃l:List PC,l.map PC.er=xs/\∀j c,l[j]? =some c->w.cell? (ad (G.g n).b (o+j))=some c.val/\Good w c:=(by intro cs;induction cs with|nil=>intro o xs _ hx;simp only[Am.ie] at hx;injection hx with hx;subst hx;exact⟨[],rfl,by simp⟩|cons c cs N=>intro o xs A hx;simp only[Am.ie] at hx;split at hx;rename_i x M S T;injection hx with hx;subst hx;obtain⟨u,Q,_,u2⟩:=A 0 c rfl;obtain⟨pc,p,q,m⟩:=H.dE S u2;obtain⟨l,s,z⟩:=N (o+1) M (fun j c hj=>by have:=A (j+1) c hj;rwa[show o+(j+1)=o+1+j from by omega] at this) T;refine⟨pc::l,by simp[p,s],fun j c hj=>?_⟩;(cases j with|zero=>simp at hj;subst hj;rw[q];exact⟨Q,m⟩|succ j=>have:=z j c (by simpa using hj);rwa[show o+1+j=o+(j+1) from by omega] at this);cases hx);obtain⟨l,s,z⟩:=P cs (G.g n).o xs F hv;exact⟨l,(G.g n).b,(G.g n).o,s,by simpa using K,D.lt,z⟩);cases hx;cases hx|dN xs off=>simp only[Am.ko] at hx;split at hx;rename_i L;subst L;injection hx with hx;subst hx;rcases a with a|a;cases a;have r:ed w G h [.dN xs 0] [v]:=a;obtain⟨b,o,pe,p1,J,R,p4⟩:=(r.2 0 _ v rfl rfl).2;exact⟨pe,b,o,J,by simpa using p1,H.jX b R,fun j c hj=>⟨(p4 j c hj).1,(p4 j c hj).2.1⟩⟩;cases hx|c y=>exact one (.c y) hx a|nil sz=>exact one (.nil sz) hx a|sl n sz lo len=>exact one (.sl n sz lo len) hx a|cF n k t off sz len=>exact one (.cF n k t off sz len) hx a|dU n k t off sz i=>exact one (.dU n k t off sz i) hx a|dh xs off j n sz len=>exact one (.dh xs off j n sz len) hx a|fn f O=>exact one (.fn f O) hx a|bZ=>exact one .bZ hx a)|agg cs=>simp only[Am.ko] at hx;(cases hv:Am.ie h cs with|none=>rw[hv] at hx;cases hx|some xs=>rw[hv] at hx;simp at hx;subst hx;obtain⟨vs,e,hl⟩:∃vs:List Value,v=.agg vs.toArray/\ed w G h cs vs:=a;obtain⟨l,p,q,m⟩:=H.ie hv hl;exact⟨l,p,m,by rw[e,q]⟩)|ct xs=>simp[Am.ko] at hx
theorem HR.mS (H:HR B E w G h used tk):∀{xs:List au} {ds:List Dv} {vs:List Value},mS h xs=some ds->vs.length=xs.length->
  (∀(j:Nat) (x:au) (v:Value),xs[j]? =some x->vs[j]? =some v->RA w G h x v)->Jz w ds vs
 |[],ds,vs,hx,hl,hc=>by
  simp only[Am.mS] at hx;injection hx with hx;subst hx;exact⟨by simpa using hl,by simp⟩
 |x::xs,ds,vs,hx,hl,hc=>by
  simp only[Am.mS] at hx;split at hx
  ·rename_i d zU i k;injection hx with hx;subst hx;match vs,hl with
   |v::vs,hl=>
    have a:=H.ko i (hc 0 x v rfl rfl);obtain⟨c,g⟩:=H.mS k (xs:=xs) (vs:=vs) (by simpa using hl) (fun j x v f e=>hc (j+1) x v f e);refine⟨by simp[c],fun j d v hj b=>?_⟩;cases j with
    |zero=>simp at hj b;subst hj;subst b;exact a
    |succ j=>exact g j d v (by simpa using hj) (by simpa using b)
  ·cases hx
theorem cm.yR (S:Nat->Prop) (u:Nat->Prop):cm w G h u w ⟨fun b=>G.Im b\/S b,G.g⟩ h:= ⟨fun _ h=>.inl h,fun _ _ _=>rfl,fun _ _ h=>⟨h,rfl,rfl,rfl,rfl,rfl⟩,fun n c sz xs _ hn=>⟨⟨c,xs,hn⟩,fun k j pc a d=>⟨pc,a,rfl,d⟩⟩⟩
theorem HR.yR (H:HR B E w G h used tk) (S:Nat->Prop) (t:∀b,S b->b<w.heap.size) (r:∀b,S b->∀n,h n≠none->(G.g n).nl=false->b≠(G.g n).b) (u:∀b,S b->∀n f sz xs,h n=some (.row f .live sz xs)->¬bF b (G.g n).px) (p:∀b,S b->B<=b\/E b\/E.a b):HR B E w ⟨fun b=>G.Im b\/S b,G.g⟩ h used tk:=by refine⟨H.lc,H.kq,fun n cs hn=>?_,fun n f m sz xs hn=>?_,fun n hn hl=>?_,H.inj,?_,fun b hb=>hb.elim (H.tx b) (p b),H.ji,H.live,fun i pc hi=>?_,H.Bm,H.wA⟩;obtain⟨e,d,k⟩:=H.box n cs hn;refine⟨e,d,fun j c hj=>?_⟩;obtain⟨v,l,x,s⟩:=k j c hj;exact⟨v,l,x,s.keep (cm.yR S (fun n=>used n=true)) fun q o=>H.kq n cs c q hn (co hj) o⟩;have hr:=H.row n f m sz xs hn;refine⟨hr.pos,hr.er,hr.nl,hr.f6,hr.room,?_,hr.nr⟩;have hm:=hr.mode;(cases m with|aQ=>exact fun b hb=>.inl (hm b hb)|aS=>exact⟨fun b hb=>⟨.inl (hm.1 b hb).1,(hm.1 b hb).2⟩,hm.2⟩|live=>exact⟨fun b hb=>⟨fun hi=>hi.elim (hm.1 b hb).1 (fun hs=>u b hs n f sz xs hn hb),(hm.1 b hb).2⟩,hm.2⟩);obtain⟨e,d,k⟩:=H.own n hn hl;exact⟨fun hi=>hi.elim e (fun hs=>r _ hs n hn hl rfl),d,k⟩;exact fun b hb=>hb.elim (H.jX b) (t b);obtain⟨e,d⟩:=H.wz i pc hi;exact⟨e,fun b hb=>⟨.inl (d b hb).1,(d b hb).2⟩⟩
theorem HR.F6 {l:List PC} (H:HR B E w G h used (tk++l)):HR B E w G h used tk:=by have e:∀(i:Nat) (pc:PC),tk[i]? =some pc->(tk++l)[i]? =some pc:=fun i pc hi=>(by rw[AT (wt.1 hi).1];exact hi);exact⟨H.lc,H.kq,H.box,H.row,H.own,H.inj,H.jX,H.tx,H.ji,H.live,fun i pc hi=>H.wz i pc (e i pc hi),fun i j pc a b d c g=>H.Bm i j pc a b d (e i pc c) (e j a g), fun i pc n f m sz xs b hi=>H.wA i pc n f m sz xs b (e i pc hi)⟩
theorem HR.abk (H:HR B E w G h used tk) {pc:PC} (u:Sep pc) (t:∀b,bD b pc->G.Im b/\fA w b/\(B<=b\/E b)) (l:∀(i:Nat) (q:PC) (b:Nat),tk[i]? =some q->bD b q->¬bD b pc) (s:∀n d m sz xs b,h n=some (.row d m sz xs)->m≠ .aQ->bD b pc->¬bF b (G.g n).px):HR B E w G h used (tk++[pc]):=by have e:∀(i:Nat) (q:PC),(tk++[pc])[i]? =some q->(i<tk.length/\tk[i]? =some q)\/(i=tk.length/\q=pc):=fun i q hi=>(by rcases zaC i tk.length with k|p|Ae;rw[AT k] at hi;exact .inl ⟨k,hi⟩;subst p;simp at hi;exact .inr ⟨rfl,hi.symm⟩;rw[zaI (by simp;omega)] at hi;cases hi);refine⟨H.lc,H.kq,H.box,H.row,H.own,H.inj,H.jX,H.tx,H.ji,H.live,fun i q hi=>?_,fun i j q c b r hi hj hb=>?_,fun i q n d m sz xs b hi hn hm hb=>?_⟩;rcases e i q hi with⟨_,hi⟩|⟨_,rfl⟩;exact H.wz i q hi;exact⟨u,t⟩;rcases e i q hi with⟨_,o⟩|⟨ei,v⟩;rcases e j c hj with⟨_,f⟩|⟨_,a⟩;exact H.Bm i j q c b r o f hb;rw[a];exact l i q b o hb;rcases e j c hj with⟨_,f⟩|⟨ej,a⟩;rw[v] at hb;exact fun x=>l j c b f x hb;omega;rcases e i q hi with⟨_,hi⟩|⟨_,rfl⟩;exact H.wA i q n d m sz xs b hi hn hm hb;exact s n d m sz xs b hn hm hb
theorem Sep.lE {pc:PC} (hs:pc.er.gx=true):Sep pc/\∀b,¬bD b pc:=by cases pc with|int k n=>exact⟨.int k n,fun b hb=>by cases hb⟩|bool b=>exact⟨.bool b,fun b hb=>by cases hb⟩|list sz a cap xs=>simp[PC.fK,C.gx] at hs
theorem wL.lE {pc:PC} (h:pc.er.gx=true):wL w pc:=by cases pc with|int k n=>trivial|bool b=>trivial|list sz a cap xs=>rw[PC.fK] at h;cases h
theorem wY {n m:Nat} {b:aA} (hm:aV h n none m=some b):h m=some b/\m≠n:=by by_cases a:m=n;subst a;rw[cX] at hm;cases hm;rw[dJ _ _ _ _ a] at hm;exact⟨hm,a⟩
theorem KG {n m:Nat} (hm:aV h n none m≠none):h m≠none/\m≠n:=by cases hh:aV h n none m with|none=>exact absurd hh hm|some b=>obtain⟨a,b⟩:=wY hh;exact⟨by rw[a];simp,b⟩
def SO (p:PB):Nat->Prop:=fun b=>(p.nl=false/\b=p.b)\/bF b p.px
theorem HR.freeze (H:HR B E w G h used tk) {n:Nat} {d:Bool} {m:Mode} {f:Nat} {xs:List (List C)} (hn:h n=some (.row d m f xs)): HR B E w ⟨fun b=>G.Im b\/SO (G.g n) b,G.g⟩ (aV h n none) used tk:=by have hr:=H.row n d m f xs hn;have e:h n≠none:=(by rw[hn];simp);have r:∀b,bF b (G.g n).px->G.Im b\/m=.live:=fun b hb=>(by have hm:=hr.mode;cases m with|aQ=>exact .inl (hm b hb)|aS=>exact .inl (hm.1 b hb).1|live=>exact .inr rfl);refine(H.del n).yR (SO (G.g n)) (fun b hb=>?_) (fun b hb q k hl=>?_) (fun b hb q o i l k j=>?_) (fun b hb=>?_);rcases hb with⟨a,rfl⟩|hb;exact(H.own n e a).2.2;exact H.wb hn hb;obtain⟨c,p⟩:=KG k;rcases hb with⟨a,rfl⟩|hb;exact H.inj n q e c (zaJ p) a hl;rcases r b hb with hi|rfl;rintro rfl;exact(H.own q c hl).1 hi;exact H.live n d f xs hn b hb q c hl;obtain⟨c,p⟩:=wY k;rcases hb with⟨a,rfl⟩|hb;exact H.live q o i l c _ j n e a rfl;rcases r b hb with hi|rfl;exact((H.row q o .live i l c).mode.1 b j).1 hi;exact H.ji n q d .live f xs o .live i l hn c (by simp) (by simp) (zaJ p) b hb j;rcases hb with⟨a,rfl⟩|hb;exact(H.own n e a).2.1.imp id .inl;rcases r b hb with hi|rfl;exact H.tx b hi;exact(hr.mode.1 b hb).2.2.imp id .inl
theorem lK.sub {px:List (List PC)} (hs:lK px) (lo len:Nat):lK ((px.drop lo).take len):=by refine⟨fun k j c a=>hs.1 _ _ _ (ug a).1,fun k j c k' j' c' b a d f hb=>hs.2 _ _ _ _ _ _ b (ug a).1 (ug d).1 (fun e=>f ?_) hb⟩;injection e with e1 e2;rw[show k=k' by omega,e2]
theorem HR.iD {σ σ1:St} (H:HR B E w G σ.h σ.used tk) {c:aj} {x:C} {o:Bool} {v:Value} (hx:σ.iD c=some (x,o,σ1)) (K:RC w G σ.h c v): ∃(Im':Nat->Prop) (pc:PC),pc.er=x/\pc.val=v/\Good w pc/\(∀b,bD b pc->Im' b)/\ HR B E w ⟨Im',G.g⟩ σ1.h σ.used (if o=true then tk++[pc] else tk)/\cm w G σ.h (fun n=>σ.used n=true) w ⟨Im',G.g⟩ σ1.h/\σ1.env=σ.env/\σ1.used=σ.used/\ (∀n b,σ1.h n=some b->σ.h n=some b):=by cases c with|c y=>simp only[St.iD] at hx;injection hx with hx;injection hx with u f;injection f with f uO;subst u f uO;obtain⟨pc,W,h2,h3,h4⟩:=K;refine⟨G.Im,pc,W,h2,h3,h4,?_,cm.refl _ _ _ _,rfl,rfl,fun _ _ h=>h⟩;by_cases hs:y.gx=true;rw[ah hs];obtain⟨Z,Q⟩:=Sep.lE (pc:=pc) (by rw[W];exact hs);exact H.abk Z (fun b hb=>absurd hb (Q b)) (fun _ _ b _ _=>Q b) (fun _ _ _ _ _ b _ _ hb=>absurd hb (Q b));rw[ak hs];exact H|nil sz=>simp only[St.iD] at hx;split at hx;rename_i Y;injection hx with hx;injection hx with u f;injection f with f uO;subst u f uO;have dH:v=.slice none 0 0:=K;subst dH;have D:∀b,¬bD b (.list sz none 0 []):=fun b hb=>(by rw[bD.pq] at hb;rcases hb with⟨hb,_⟩|⟨k,j,c,⟨e,d,_⟩,_⟩;exact absurd rfl hb;simp at d);refine⟨G.Im,.list sz none 0 [],by simp[PC.fK],rfl,.nil _ _ _ Y,fun b hb=>absurd hb (D b),?_,cm.refl _ _ _ _,rfl,rfl,fun _ _ h=>h⟩;rw[ah rfl];refine H.abk (.list _ _ _ _ ?_ ?_ ?_) (fun b hb=>absurd hb (D b)) (fun _ _ b _ _=>D b) (fun _ _ _ _ _ b _ _ hb=>absurd hb (D b));rintro k j c ⟨e,d,_⟩;simp at d;rintro b o k j c _ ⟨e,d,_⟩;simp at d;rintro k j c k' j' c' b ⟨e,d,_⟩;simp at d;cases hx|sl n sz lo len=>simp only[St.iD] at hx;split at hx;rename_i F m s xs hn;split at hx;rename_i eu;obtain⟨rfl,rfl,qF⟩:=eu;injection hx with hx;injection hx with u f;injection f with f uO;subst u f uO;have hl:0+len<=xs.length:=(by omega);have p:σ.h n≠none:=(by rw[hn];simp);have hs:kY (G.g n) s 0 len v:=K p;have hr:=H.row n F m s xs hn;obtain⟨a1,a2,a3,t⟩:=Nw hr hs hl;have V:=H.freeze hn;have K1:cm w G σ.h (fun n=>σ.used n=true) w ⟨fun b=>G.Im b\/SO (G.g n) b,G.g⟩ (aV σ.h n none):= cm.trans (fun _ h=>h) (cm.del n (fun n=>σ.used n=true)) (cm.yR (SO (G.g n)) (fun n=>σ.used n=true));refine⟨_,n7 (G.g n) s 0 len v,by simpa using a1,a2,a3,fun b hb=>.inr (t b hb),?_,K1,rfl,rfl,fun q b M=>(wY M).1⟩;by_cases hm:m≠ .aQ;rw[ah (by simpa using hm)];have uK:(∀b,bF b (G.g n).px->fA w b/\(B<=b\/E b))/\lK (G.g n).px/\(∀b,bF b (G.g n).px->(G.g n).nl=false->b≠(G.g n).b):=(by have r:=hr.mode;cases m with|aQ=>exact absurd rfl hm|aS=>exact⟨fun b hb=>(r.1 b hb).2,r.2,fun b hb hl gE=>(H.own n p hl).1 (gE▸(r.1 b hb).1)⟩|live=>exact⟨fun b hb=>(r.1 b hb).2,r.2,fun b hb hl=>H.live n F s xs hn b hb n p hl⟩);obtain⟨X,o2,o3⟩:=uK;refine V.abk ?_ (fun b hb=>⟨.inr (t b hb),?_⟩) (fun i q b hi hb A=>?_) (fun q L P J N b M R hb z=>?_);rcases hs with⟨T,rfl,_,rfl⟩|⟨T,a,rfl,lV,ha⟩;simp only[n7];have hz:(zaK 0 (zaX 0 (G.g n).px))=[]:=(by simp);rw[hz];refine .list _ _ _ _ ?_ ?_ ?_;rintro k j c ⟨e,d,_⟩;simp at d;rintro b o k j c _ ⟨e,d,_⟩;simp at d;rintro k j c k' j' c' b ⟨e,d,_⟩;simp at d;simp only[n7];have S:=o2.sub 0 len;refine .list _ _ _ _ S.1 (fun b o k j c I U hb=>?_) S.2;have dC:=(ug U).1;have afI:0<len:=(by have:=(ug U).2;omega);have e:=ha (.inl (by omega));rw[e] at I;injection I with I;exact o3 b ⟨_,_,_,dC,hb⟩ T (q9 I).1.symm;rcases t b hb with⟨l,rfl⟩|A;exact⟨(hr.f6 l).1,(H.own n p l).2.1⟩;exact X b A;rcases t b A with⟨l,rfl⟩|z;exact(H.own n p l).1 ((H.wz i q hi).2 _ hb).1;exact H.wA i q n F m s xs b hi hn hm hb z;obtain⟨O,iZ⟩:=wY M;rcases t b hb with⟨l,rfl⟩|A;have r:=(H.row q L P J N O).mode;(cases P with|aQ=>exact absurd rfl R|aS=>exact(H.own n p l).1 (r.1 _ z).1|live=>exact H.live q L J N O _ z n p l rfl);exact H.ji n q F m s xs L P J N hn O hm R (zaJ iZ) b A z;rw[ak (by simpa using hm)];exact V;cases hx;cases hx|ptr _ _ _ _=>simp[St.iD] at hx|dN _ _=>simp[St.iD] at hx|dh _ _ _ _ _ _=>simp[St.iD] at hx|cF _ _ _ _ _ _=>simp[St.iD] at hx|fn _ _=>simp[St.iD] at hx|dU _ _ _ _ _ _=>simp[St.iD] at hx|bZ=>simp[St.iD] at hx
theorem HR.iE:∀{cs:List aj} {σ σ1:St} {G:Gh} {tk:List PC} {xs:List C} {o:Bool} {vs:List Value},HR B E w G σ.h σ.used tk->σ.iE cs=some (xs,o,σ1)->ed w G σ.h cs vs->
  (∀c∈cs,∀m,c.ref m->σ.used m=true)->
  ∃(Im':Nat->Prop) (e:List PC),e.map PC.er=xs/\e.map PC.val=vs/\(∀pc∈e,Good w pc/\∀b,bD b pc->Im' b)/\
   HR B E w ⟨Im',G.g⟩ σ1.h σ.used (if o=true then tk++e else tk)/\cm w G σ.h (fun n=>σ.used n=true) w ⟨Im',G.g⟩ σ1.h/\σ1.env=σ.env/\σ1.used=σ.used/\
   (∀n b,σ1.h n=some b->σ.h n=some b)
 |[],σ,σ1,G,tk,xs,o,vs,H,hx,hc,hr=>by
  simp only[St.iE] at hx;injection hx with hx;injection hx with k d;injection d with d uO;subst k d uO;have:vs=[]:=AN (by simpa using hc.1);subst this;exact⟨G.Im,[],rfl,rfl,by simp,by simpa using H,cm.refl _ _ _ _,rfl,rfl,fun _ _ h=>h⟩
 |c::cs,σ,σ2,G,tk,xs,o,vs,H,hx,hc,hr=>by
  simp only[St.iE] at hx;split at hx
  ·rename_i x L σ1 X;split at hx
   ·rename_i aH W abF Y;injection hx with hx;injection hx with k d;injection d with d uO;subst k d uO;obtain⟨a,s⟩:=hc;match vs,a with
    |v::vs,a=>
     obtain⟨I,pc,N,Q,M,D,t,y,J,i,T⟩:=H.iD X (s 0 c v rfl rfl).2;have U:ed w ⟨I,G.g⟩ σ1.h cs vs:=ed.keep y (fun p r m hm=>hr p (by simp[r]) m hm) ⟨by simpa using a,fun j c u R O=>s (j+1) c u R O⟩;rw[<-i] at t;obtain⟨S,e,F,V,P,f,z,K,A,b8⟩:=HR.iE t Y U (fun p r m hm=>by rw[i];exact hr p (by simp[r]) m hm);refine⟨S,pc::e,by simp[N,F],by simp[Q,V],fun q l=>?_,?_,cm.trans (fun n hn=>by rw[i];exact hn) y z,K.trans J,A.trans i,fun n b hb=>T n b (b8 n b hb)⟩
     ·cases l with
      |head=>exact⟨M,fun b hb=>z.im b (D b hb)⟩
      |tail _ l=>exact P q l
     ·rw[i] at f;cases L<;>cases W<;>simp at f⊢
      ·exact f
      ·exact f.F6
      ·exact f.F6
      ·exact f
   ·cases hx
  ·cases hx
theorem RA.cells {x:au} {ag:Bool} {cs:List aj} {v:Value} (hx:x.cells?=some (ag,cs)) (a:RA w G h x v):ed w G h cs v.cells.toList:=by cases x with|one c=>have hj:c≠ .bZ/\ag=false/\cs=[c]:=(by cases c<;>simp[au.cells?] at hx<;>(obtain⟨rfl,rfl⟩:=hx;simp));obtain⟨b,rfl,rfl⟩:=hj;rcases a with rfl|a;exact absurd rfl b;have d:ed w G h [c] [v]:=a;have b:=(d.2 0 c v rfl rfl).1;(cases v<;>first|exact d|(simp[Value.oneCell'] at b))|agg cs'=>simp[au.cells?] at hx;obtain⟨rfl,rfl⟩:=hx;obtain⟨vs,e,hl⟩:∃vs:List Value,v=.agg vs.toArray/\ed w G h cs' vs:=a;subst e;exact hl|ct xs=>simp[au.cells?] at hx
theorem au.D3 {x:au} {ag:Bool} {cs:List aj} (hx:x.cells?=some (ag,cs)) {c:aj} (a:c∈cs) {m:Nat} (hm:c.ref m):x.ref m:=by cases x with|one b=>have hj:cs=[b]:=(by cases b<;>simp[au.cells?] at hx<;>exact hx.2.symm);subst hj;simp at a;subst a;exact hm|agg cs'=>simp[au.cells?] at hx;obtain⟨_,rfl⟩:=hx;exact⟨c,a,hm⟩|ct xs=>simp[au.cells?] at hx
theorem HR.mQ {sz:Nat}:∀{xs:List au} {σ σ1:St} {G:Gh} {tk:List PC} {es:List (List C)} {o:Bool} {vs:List Value},HR B E w G σ.h σ.used tk->σ.mQ sz xs=some (es,o,σ1)->
  vs.length=xs.length->(∀(j:Nat) (x:au) (v:Value),xs[j]? =some x->vs[j]? =some v->RA w G σ.h x v)->(∀x∈xs,∀m,x.ref m->σ.used m=true)->
  ∃(Im':Nat->Prop) (pes:List (List PC)),pes.map (fun e=>e.map PC.er)=es/\pes.map (fun e=>e.map PC.val)=vs.map (fun v=>v.cells.toList)/\(∀e∈pes,e.length=sz)/\
   (∀e∈pes,∀pc∈e,Good w pc/\∀b,bD b pc->Im' b)/\
   HR B E w ⟨Im',G.g⟩ σ1.h σ.used (if o=true then tk++pes.flatten else tk)/\cm w G σ.h (fun n=>σ.used n=true) w ⟨Im',G.g⟩ σ1.h/\σ1.env=σ.env/\σ1.used=σ.used/\
   (∀n b,σ1.h n=some b->σ.h n=some b)
 |[],σ,σ1,G,tk,es,o,vs,H,hx,hl,hc,hr=>by
  simp only[St.mQ] at hx;injection hx with hx;injection hx with i c;injection c with c uO;subst i c uO;have:vs=[]:=AN (by simpa using hl);subst this;exact⟨G.Im,[],rfl,rfl,by simp,by simp,by simpa using H,cm.refl _ _ _ _,rfl,rfl,fun _ _ h=>h⟩
 |x::xs,σ,σ2,G,tk,es,o,vs,H,hx,hl,hc,hr=>by
  simp only[St.mQ] at hx;split at hx
  ·rename_i ag cs s;split at hx
   ·rename_i cY;split at hx
    ·rename_i e M σ1 V;split at hx
     ·rename_i es' U abF W;injection hx with hx;injection hx with i c;injection c with c uO;subst i c uO;match vs,hl with
      |v::vs,hl=>
       have D:=(hc 0 x v rfl rfl).cells s;obtain⟨J0,r,N,z,u,t,y,K,f,R⟩:=H.iE V D (fun c' S m hm=>hr x (by simp) m (au.D3 s S hm));rw[<-f] at t;obtain⟨Q,pes,J,T,O,p,d,F,L,I,b8⟩:=HR.mQ (xs:=xs) (vs:=vs) t W (by simpa using hl)
        (fun j x v A k=>(hc (j+1) x v A k).keep y (fun m hm=>hr x (by simp[co A]) m hm)) (fun x' P m hm=>by rw[f];exact hr x' (by simp[P]) m hm)
       refine⟨Q,r::pes,by simp[N,J],by simp[z,T],fun q a=>?_,fun q a pc l=>?_,?_,cm.trans (fun n hn=>by rw[f];exact hn) y F,L.trans K,I.trans f,fun n b hb=>R n b (b8 n b hb)⟩
       ·cases a with
        |head=>
         have:(r.map PC.er).length=(v.cells.toList).length:=by rw[<-z];simp
         have k:=D.1;simp at this;simp at k;omega
        |tail _ a=>exact O q a
       ·cases a with
        |head=>exact⟨(u pc l).1,fun b hb=>F.im b ((u pc l).2 b hb)⟩
        |tail _ a=>exact p q a pc l
       ·rw[f] at d;cases M<;>cases U<;>simp at d⊢
        ·exact d
        ·exact d.F6
        ·exact d.F6
        ·exact d
     ·cases hx
    ·cases hx
   ·cases hx
  ·cases hx
def nu (b:Nat) (pc:PC):Prop:=bD b pc\/∃sz o cap xs,pc=.list sz (some (ad b o)) cap xs/\cap≠0
def Kc (w:World):PC->Prop
 |.list sz a cap xs=>0<sz/\xs.length<=cap/\(cap=0\/∃b o cur e,a=some (ad b o)/\w.heap[b]? =some (.cells cur e (0,0))/\cur.size=o+cap*sz/\cap<=maxLen/\∀k j c,At xs k j c->¬bD b c)
 |_=>True
structure BO (w:World) (B':Nat) (ps:List PC):Prop where
 hZ:∀pc∈ps,Good w pc/\Sep pc/\Kc w pc
 new:∀pc∈ps,∀b,nu b pc->B'<=b/\fA w b
 sb:∀(i j:Nat) (pc eW:PC) (b:Nat),i≠j->ps[i]? =some pc->ps[j]? =some eW->nu b pc->¬nu b eW
def wa:K×List PC->Value
 |(.one,[pc])=>pc.val
 |(_,cQ)=>.agg (cQ.map PC.val).toArray
def zr:List (K×List PC)->Value
 |[p]=>wa p
 |l=>.tuple (l.map wa).toArray
def dV (P:Program) (f:FuncId) (M:List Dv->Option (List Dv)):Prop:=
 ∀ds rs,M ds=some rs->∀(w:World) (vals:List Value),Jz w ds vals->Calls P f vals.toArray w fun e w'=>
  ∃bQ:List (K×List PC),bQ.map (fun p=>(p.1,p.2.map PC.er))=rs/\e=.returned (zr bQ)/\(∀p∈bQ,p.1≠ .ptr/\(p.1=.one->p.2.length=1))/\
   BO w' w.heap.size (bQ.flatMap (·.2))/\Fr w.heap.size Ex.no w w'
def t9 (G:Gh) (h:Nat->Option aA) (b:Nat):Prop:=
 ¬G.Im b/\(∀n,h n≠none->(G.g n).nl=false->(G.g n).b≠b)/\∀n gr m sz xs,h n=some (.row gr m sz xs)->¬bF b (G.g n).px
theorem HR.YP (H:HR B E w G h used tk):t9 G h w.heap.size:= ⟨fun hi=>zbc _ (H.jX _ hi),fun n hn hl he=>by have:=(H.own n hn hl).2.2;omega,fun n gr m sz xs hn hb=>zbc _ (H.wb hn hb)⟩
def anQ (B:Nat) (E:Ex) (w w':World) (G:Gh) (h:Nat->Option aA) (p:PB):aA->Prop
 |.box cs=>p.nl=false/\fA w' p.b/\∀(j:Nat) (c:aj),cs[j]? =some c->∃v,w'.cell? (ad p.b (p.o+j))=some v/\v.oneCell'=true/\RC w G h c v
 |.row gr m sz xs=>zI B E w' G gr m sz xs p
theorem cm.insert (H:HR B E w G h used tk) {n:Nat} {blk:aA} {p:PB} (hn:used n=false) (c:∀b,b<w.heap.size->w'.heap[b]? =w.heap[b]?): cm w G h (fun n=>used n=true) w' ⟨G.Im,aV G.g n p⟩ (aV h n (some blk)):=by have ne:∀m,used m=true->m≠n:=fun m hm e=>(by subst e;rw[hn] at hm;cases hm);refine⟨fun _ h=>h,fun b hb o=>kx (c b (H.jX b hb)) o,fun m hm a=>?_,fun m i sz xs hm a=>?_⟩;rw[dJ _ _ _ _ (ne m hm)] at a;simp only[dJ _ _ _ _ (ne m hm)];exact⟨a,trivial,trivial,trivial,trivial,trivial⟩;rw[dJ _ _ _ _ (ne m hm)] at a;simp only[dJ _ _ _ _ (ne m hm)];exact⟨⟨i,xs,a⟩,fun k j pc f d=>⟨pc,f,rfl,d⟩⟩
theorem HR.insert (H:HR B E w G h used tk) {n:Nat} {blk:aA} {p:PB} (hn:used n=false) (q:∀b,b<w.heap.size->w'.heap[b]? =w.heap[b]?) (N:w.heap.size<=w'.heap.size) (hl:p.nl=false->t9 G h p.b/\(B<=p.b\/E p.b)/\p.b<w'.heap.size) (x:∀cs c m,blk=.box cs->c∈cs->c.ref m->used m=true) (y:anQ B E w w' G h p blk) (Q:∀a m sz xs,blk=.row a m sz xs->m≠ .aQ->∀d t k o s,h d=some (.row t k o s)->k≠ .aQ->∀b,bF b p.px->¬bF b (G.g d).px) (u:∀a sz xs,blk=.row a .live sz xs->∀b,bF b p.px->(p.nl=false->b≠p.b)/\∀d,h d≠none->(G.g d).nl=false->b≠(G.g d).b) (A:∀a m sz xs,blk=.row a m sz xs->m≠ .aQ->∀(i:Nat) (pc:PC) (b:Nat),tk[i]? =some pc->bD b pc->¬bF b p.px): HR B E w' ⟨G.Im,aV G.g n p⟩ (aV h n (some blk)) (aV used n true) tk:=by have K:=cm.insert H (blk:=blk) (p:=p) hn q;have P:h n=none:=(by cases hh:h n with|none=>rfl|some b=>have:=H.lc n (by rw[hh];simp);rw[hn] at this;cases this);have aJ:∀m,h m≠none->m≠n:=fun m hm e=>(by subst e;exact hm P);have z:∀m,used m=true->aV used n true m=true:=fun m hm=>(by simp only[mR];split;rfl;exact hm);refine H.put (fun b hb _=>q b hb) N (fun b hb S=>S.congr (q b hb)) z (cX _ _ _) (fun hp=>⟨(hl hp).1.1,(hl hp).2⟩) (fun hp m hm f D=>(hl hp).1.2.1 m f D) (fun hp m a sz xs hm f b hb r=>(hl hp).1.2.2 m a _ sz xs f (r▸hb)) (fun cs c m hb O hr=>z m (x cs c m hb O hr)) K ?_ (fun a m sz xs hb hm d t k o s _ f=>Q a m sz xs hb hm d t k o s f) (fun a sz xs hb b l=>⟨(u a sz xs hb b l).1,fun d _=>(u a sz xs hb b l).2 d⟩) A (fun hp _ b hb r=>by obtain⟨m,a,L,sz,xs,_,f,l⟩:=hb;exact(hl hp).1.2.2 m a L sz xs f (r▸l));cases blk with|box cs=>obtain⟨I,M,F⟩:=y;refine⟨I,M,fun j c hj=>?_⟩;obtain⟨v,C,R,J⟩:=F j c hj;exact⟨v,C,R,J.keep K fun m hm=>x cs c m rfl (co hj) hm⟩|row a m sz xs=>have hr:zI B E w' G a m sz xs p:=y;exact⟨hr.pos,hr.er,hr.nl,hr.f6,hr.room,by have:=hr.mode;cases m<;>exact this,hr.nr⟩
theorem R.put {σ:St} {a:Act} (r:R B E w0 N σ a w G) {x:au} {v:Value} (b:RA w G σ.h x v) (hr:∀m,x.ref m->σ.used m=true) {d:Option Nat} (hd:∀n,d=some n->n<N): R B E w0 N (σ.put d x) (a.put d v) w G:=by cases d with|none=>exact r|some n=>have hn:=hd n rfl;refine⟨r.defers,by simp[Act.put,r.size],fun s=>?_,fun s m hm=>?_,r.hr,r.fr,r.nZ,r.AS⟩;simp only[St.put,Act.put];by_cases hs:s=n;subst hs;rw[cX];have:(a.tmps.setIfInBounds s v).getD s undef=v:=(by simp[zaw,r.size,hn]);rw[this];exact b;rw[dJ _ _ _ _ hs];have:(a.tmps.setIfInBounds n v).getD s undef=a.tmps.getD s undef:=(by simp[zaw,Array.getElem?_setIfInBounds_ne (zaJ hs)]);rw[this];exact r.env s;simp only[St.put] at hm⊢;by_cases hs:s=n;subst hs;rw[cX] at hm;exact hr m hm;rw[dJ _ _ _ _ hs] at hm;exact r.t6 s m hm
theorem R.step {σ:St} {a:Act} (r:R B E w0 N σ a w G) {σ':St} (f:σ'.env=σ.env) (i:∀m,σ.used m=true->σ'.used m=true) (K:cm w G σ.h (fun n=>σ.used n=true) w' G' σ'.h) (H:HR B E w' G' σ'.h σ'.used []) (F:Fr B E w0 w'):R B E w0 N σ' a w' G':= ⟨r.defers,r.size,fun s=>by rw[f];exact(r.env s).keep K (fun m hm=>r.t6 s m hm),fun s m hm=>by rw[f] at hm;exact i m (r.t6 s m hm),H,F, fun n p b hp hb=>by have g:=r.AS n (E.lt n p hp);obtain⟨t,u,v,D,A,l⟩:=K.name n g (by rw[hb];simp);cases h0:σ.h n with|none=>exact absurd h0 t|some b0=>obtain⟨p1,I,T,p4,z,q⟩:=r.nZ n p b0 hp h0;refine⟨u.trans p1,v.trans I,D.trans T,A.trans p4,l.trans z,fun L sz xs P k j pc M hL=>?_⟩;subst P;obtain⟨⟨x,C,c⟩,hl⟩:=K.live n L sz xs g hb;rw[h0] at c;injection c with c;obtain⟨d,O,o,y⟩:=q x sz C c k j pc M hL;obtain⟨e,J,Q,S⟩:=hl k j d O y;exact⟨e,J,Q.trans o,S⟩, fun n hn=>i n (r.AS n hn)⟩
end
def OG:Value->aj->Bool
 |.int k n,.c (.int k' n')=>decide (k=k')&&decide (n=n')
 |.bool b,.c (.bool b')=>decide (b=b')
 |.slice none 0 0,.nil sz=>true
 |.pointer none,.bZ=>true
 |_,_=>false
def yf:List Value->List aj->Bool
 |[],[]=>true
 |v::vs,c::cs=>OG v c&&yf vs cs
 |_,_=>false
def c8:Operand->MO->Bool
 |.tmp n,.t m=>n==m
 |.const (.agg vs),.k (.agg cs)=>yf vs.toList cs
 |.const v,.k (.one c)=>OG v c
 |_,_=>false
section
variable {B N:Nat} {E:Ex} {w0 w w':World} {G G':Gh} {h h':Nat->Option aA} {used used':Nat->Bool} {tk:List PC} {P:Program} {o:Oper} {a:Act} {σ σ':St} {Q:Exit->Act->World->Prop}
theorem acN {v:Value} {c:aj} (a:OG v c=true):RC w G h c v/\v.oneCell'=true/\∀m,¬c.ref m:=by unfold OG at a;split at a;simp at a;obtain⟨rfl,rfl⟩:=a;exact⟨⟨.int _ _,rfl,rfl,.int _ _,fun b hb=>by cases hb⟩,rfl,fun m hm=>hm⟩;simp at a;subst a;exact⟨⟨.bool _,rfl,rfl,.bool _,fun b hb=>by cases hb⟩,rfl,fun m hm=>hm⟩;exact⟨rfl,rfl,fun m hm=>hm⟩;exact⟨trivial,rfl,fun m hm=>hm⟩;cases a
theorem OH:∀{vs:List Value} {cs:List aj},yf vs cs=true->ed w G h cs vs/\∀c∈cs,∀m,¬c.ref m
 |[],[],_=>⟨⟨rfl,by simp⟩,by simp⟩
 |v::vs,c::cs,hc=>by simp only[yf,zag] at hc;obtain⟨g,e,f⟩:=acN (w:=w) (G:=G) (h:=h) hc.1;obtain⟨⟨k,l⟩,i⟩:=OH hc.2;refine⟨⟨by simp[k],fun j d u hj b=>?_⟩,fun d a=>?_⟩;(cases j with|zero=>simp at hj b;subst hj;subst b;exact⟨e,g⟩|succ j=>exact l j d u (by simpa using hj) (by simpa using b));cases a with|head=>exact f|tail _ a=>exact i d a
 |[],_::_,hc=>by simp[yf] at hc
 |_::_,[],hc=>by simp[yf] at hc
theorem RV.je {c:aj} {v:Value} (b:v.oneCell'=true) (d:RC w G h c v):RV w G h false [c] v:=by show ed w G h [c] [v];exact⟨rfl,fun j c' u hj a=>by cases j with|zero=>simp at hj a;subst hj;subst a;exact⟨b,d⟩|succ j=>simp at hj⟩
theorem RA.je {c:aj} {v:Value} (a:v.oneCell'=true) (b:RC w G h c v):RA w G h (.one c) v:=.inr (RV.je a b)
theorem R.ev {σ:St} {a:Act} (r:R B E w0 N σ a w G) {x:Operand} {m:MO} (b:c8 x m=true):RA w G σ.h (σ.ev m) (a.eval x)/\∀n,(σ.ev m).ref n->σ.used n=true:=by unfold c8 at b;split at b;simp at b;subst b;exact⟨r.env _,fun n hn=>r.t6 _ n hn⟩;rename_i vs cs;obtain⟨g,i⟩:=OH (w:=w) (G:=G) (h:=σ.h) b;exact⟨⟨vs.toList,by simp[Act.eval],g⟩,fun n hn=>by obtain⟨c,b,hm⟩:=hn;exact absurd hm (i c b n)⟩;obtain⟨f,d,e⟩:=acN (w:=w) (G:=G) (h:=σ.h) b;exact⟨RA.je d f,fun n hn=>absurd hn (e n)⟩;cases b
theorem Bq {P:Program} {o:Oper} {a:Act} {v:Value} {K:Act->World->Prop} {Q:Exit->Act->World->Prop} (hr:(execOp a.eval o).run P w=.ok (.value v) w') (b:K (a.put o.dst v) w'):o.wp P a w K Q:=by unfold Oper.wp;rw[hr];exact b
theorem abB {P:Program} {o:Oper} {a:Act} {K:Act->World->Prop} {Q:Exit->Act->World->Prop} (hr:(execOp a.eval o).run P w=.ok .skip w') (b:K (a.put o.dst undef) w'):o.wp P a w K Q:=by unfold Oper.wp;rw[hr];exact b
def Nx (B:Nat) (E:Ex) (w0:World) (N:Nat) (σ:St):Act->World->Prop:=fun a w=>∃G,R B E w0 N σ a w G
theorem aca (w:World) (a:Obj) (b:Nat) (hb:b<w.heap.size):(w.alloc a).heap[b]? =w.heap[b]? :=heap_alloc_old w a b hb
theorem fA.alloc (w:World) (arr:Array Value) (e:TypeId):fA (w.alloc (.cells arr e)) w.heap.size:=⟨arr,e,heap_alloc_new w _⟩
theorem rD {σ1:St} {n:Nat} {b:aA} (hx:σ.ins n b=some σ1):σ.used n=false/\σ1={σ with h:=aV σ.h n (some b),used:=aV σ.used n true}:=by unfold St.ins at hx;split at hx;cases hx;rename_i a;injection hx with hx;exact⟨by simpa using a,hx.symm⟩
theorem xS (n m:Nat) (hm:used m=true):aV used n true m=true:=by simp only[mR];split;rfl;exact hm
theorem R.aiW (r:R B E w0 N σ a w G) {n:Nat} {cs:List aj} {vs:List Value} {e:TypeId} (hn:σ.used n=false) (f:ed w G σ.h cs vs) (s:∀c∈cs,∀m,c.ref m->σ.used m=true): ∃G',R B E w0 N {σ with h:=aV σ.h n (some (.box cs)),used:=aV σ.used n true} a (w.alloc (.cells vs.toArray e)) G'/\ RA (w.alloc (.cells vs.toArray e)) G' (aV σ.h n (some (.box cs))) (.one (.ptr n 0 0 0)) (.pointer (some (ad w.heap.size 0))):=by have H:=r.hr;have o:=r.fr.size;have b:=aca w (.cells vs.toArray e);refine⟨⟨G.Im,aV G.g n ⟨false,w.heap.size,0,0,[],none⟩⟩,r.step rfl (fun m hm=>xS n m hm) (cm.insert H hn b) ?_ (r.fr.grow b (by simp) rfl rfl rfl),?_⟩;refine H.insert hn b (by simp) (fun _=>⟨H.YP,.inl o,by simp⟩) (fun cs' c m hb q hm=>?_) ⟨rfl,fA.alloc _ _ _,fun j c hj=>?_⟩ (fun d m sz xs hb=>by cases hb) (fun d sz xs hb=>by cases hb) (fun d m sz xs hb=>by cases hb);injection hb with hb;subst hb;exact s c q m hm;have l:j<vs.length:=(by rw[f.1];exact(wt.1 hj).1);have i:vs[j]? =some vs[j]:=AI l;obtain⟨p,k⟩:=f.2 j c _ hj i;refine⟨vs[j],?_,p,k⟩;simp only[IS];unfold ad;rw[World.cell?_alloc_new];simp only[zal];exact i;exact RA.je rfl fun _=>by simp[cX]
theorem ap5 (r:R B E w0 N σ a w G) {n:Nat} {e:TypeId} {i:TypeInfo} {z:Value} {d:List aj} {σ1:St} (k:o.op=.alloc e) (hd:o.dst=some n) (hN:n<N) (hi:P.info? e=some i) (f:i.zero=some z) (b:yf z.cells.toList d=true) (hx:σ.ins n (.box d)=some σ1): o.wp P a w (Nx B E w0 N (σ1.put o.dst (.one (.ptr n 0 0 0)))) Q:=by obtain⟨hn,rfl⟩:=rD hx;obtain⟨l,p⟩:=OH (w:=w) (G:=G) (h:=σ.h) b;obtain⟨G',q,s⟩:=r.aiW (e:=e) hn l (fun c b m hm=>absurd hm (p c b m));have g:(execOp a.eval o).run P w=.ok (.value (.pointer (some (ad w.heap.size 0)))) (w.alloc (.cells z.cells.toList.toArray e)):=(by simp[execOp,k,Instr.alloc,zeroValue,typeInfo,hi,f,newVar,newRow,ad]);exact Bq g ⟨G',q.put s (fun m hm=>by have j:m=n:=hm;subst j;exact cX _ _ _) (fun m hm=>by rw[hd] at hm;injection hm with hm;omega)⟩
theorem ap8 (r:R B E w0 N σ a w G) {n:Nat} {e:TypeId} {x:Operand} {m:MO} {ag:Bool} {cs:List aj} {σ1:St} (j:o.op=.box e x) (hd:o.dst=some n) (hN:n<N) (hm:c8 x m=true) (d:(σ.ev m).cells?=some (ag,cs)) (hx:σ.ins n (.box cs)=some σ1): o.wp P a w (Nx B E w0 N (σ1.put o.dst (.one (.ptr n 0 0 0)))) Q:=by obtain⟨hn,rfl⟩:=rD hx;obtain⟨p,k⟩:=r.ev hm;obtain⟨G',l,f⟩:=r.aiW (e:=e) hn (p.cells d) (fun c i q b=>k q (au.D3 d i b));have h:(execOp a.eval o).run P w=.ok (.value (.pointer (some (ad w.heap.size 0)))) (w.alloc (.cells (a.eval x).cells.toList.toArray e)):=(by simp[execOp,j,Instr.box,newVar,newRow,ad]);exact Bq h ⟨G',l.put f (fun q b=>by have g:q=n:=b;subst g;exact cX _ _ _) (fun q b=>by rw[hd] at b;injection b with b;omega)⟩
theorem zK {α:Type} {sz:Nat}:∀{px:List (List α)} (_:∀e∈px,e.length=sz) {k j:Nat} {c:α},At px k j c->px.flatten[k*sz+j]? =some c
 |[],_,k,j,c,hk=>by obtain⟨e,a,_⟩:=hk;simp at a
 |e::px,hl,k,j,c,hk=>by obtain⟨d,a,hj⟩:=hk;have b:=hl e (by simp);cases k with|zero=>simp at a;subst a;have g:=(wt.1 hj).1;simp only[zao,zaL,IS];rw[AT g];exact hj|succ k=>have f:=zK (px:=px) (fun e a=>hl e (by simp[a])) (k:=k) (j:=j) (c:=c) ⟨d,by simpa using a,hj⟩;simp only[zao];rw[By (by rw[b,GB];omega)];rw[show(k+1)*sz+j - e.length=k*sz+j by rw[b,GB];omega];exact f
structure J6 (B:Nat) (E:Ex) (w:World) (G:Gh) (h:Nat->Option aA) (m:Mode) (pes:List (List PC)):Prop where
 rj:∀b,bF b pes->G.Im b/\fA w b/\(B<=b\/E b)
 sep:lK pes
 ji:∀n gr m sz xs,h n=some (.row gr m sz xs)->m≠ .aQ->∀b,bF b pes->¬bF b (G.g n).px
 kind:m=.aS\/∀b,¬bF b pes
theorem acn {α:Type} {sz:Nat} (f:0<sz) {pes:List (List α)} (hl:∀e∈pes,e.length=sz) {k j k' a:Nat} {c o:α} (l:At pes k j c) (i:At pes k' a o) (m:(k,j)≠(k',a)):k*sz+j≠k'*sz+a:=by
 intro h;have hj:j<sz:=by obtain⟨d,b,hj⟩:=l;rw[<-hl d (co b)];exact(wt.1 hj).1
 have g:a<sz:=by obtain⟨d,b,hj⟩:=i;rw[<-hl d (co b)];exact(wt.1 hj).1
 have n:k=k':=by
  have p:(k*sz+j)/sz=k:=by rw[zaM,za6 f,za3 hj];omega
  have h4:(k'*sz+a)/sz=k':=by rw[zaM,za6 f,za3 g];omega
  rw[h] at p;omega
 subst n;exact m (by rw[show j=a by omega])
theorem HR.axR {pes:List (List PC)} {sz:Nat} (f:0<sz) (hl:∀e∈pes,e.length=sz) (H:HR B E w G h used pes.flatten):J6 B E w G h .aS pes:=by refine⟨?_,⟨fun k j c a=>(H.wz _ c (zK hl a)).1,fun k j c k' j' l b a d i hb=>H.Bm _ _ c l b (acn f hl a d i) (zK hl a) (zK hl d) hb⟩,?_,.inl rfl⟩;rintro b ⟨k,j,c,a,hb⟩;exact(H.wz _ c (zK hl a)).2 b hb;rintro n g m sz xs hn hm b ⟨k,j,c,a,hb⟩;exact H.wA _ c n g m sz xs b (zK hl a) hn hm hb
theorem Sep.Fq {w:World} {q:PC} (f:∀b,¬bD b q) (g:Good w q):Sep q:=by induction g with|int k n=>exact .int k n|bool b=>exact .bool b|nil sz a cap h=>exact .list _ _ _ _ (by rintro k j c ⟨e,d,_⟩;simp at d) (by rintro b o k j c _ ⟨e,d,_⟩;simp at d) (by rintro k j c k' j' c' b ⟨e,d,_⟩;simp at d)|cons sz b o cap xs i h2 h3 h4 h5 h6 ih=>exact absurd (.here _ _ _ _ i) (f b)
theorem J6.Fq {m:Mode} {pes:List (List PC)} (a:∀b,¬bF b pes) (e:∀k j c,At pes k j c->Good w c):J6 B E w G h m pes:= ⟨fun b hb=>absurd hb (a b),⟨fun k j c d=>Sep.Fq (fun b hb=>a b ⟨k,j,c,d,hb⟩) (e k j c d),fun k j c k' j' c' b d _ _ hb=>absurd ⟨k,j,c,d,hb⟩ (a b)⟩,fun n gr m sz xs _ _ b hb=>absurd hb (a b),.inr a⟩
theorem R.newRow (r:R B E w0 N σ a w G) {Im':Nat->Prop} {σ1:St} (H:HR B E w ⟨Im',G.g⟩ σ1.h σ.used []) (K:cm w G σ.h (fun n=>σ.used n=true) w ⟨Im',G.g⟩ σ1.h) (F:σ1.env=σ.env) (v:σ1.used=σ.used) {n:Nat} {m:Mode} {sz cap:Nat} {pes:List (List PC)} {arr:Array Value} {e:TypeId} (hn:σ.used n=false) (S:0<sz) (hl:∀e∈pes,e.length=sz) (s:∀k j c,At pes k j c->Good w c/\∀b,bD b c->Im' b) (T:∀k j c,At pes k j c->arr[k*sz+j]? =some c.val) (lV:pes.length<=cap) (Z:cap<=maxLen) (P:arr.size=cap*sz) (hm:m=.aQ\/J6 B E w ⟨Im',G.g⟩ σ1.h m pes) (Q:m=.live->∀w',wM w' sz pes): ∃G',R B E w0 N {σ1 with h:=aV σ1.h n (some (.row true m sz (pes.map fun e=>e.map PC.er))),used:=aV σ1.used n true} a (w.alloc (.cells arr e)) G'/\ RA (w.alloc (.cells arr e)) G' (aV σ1.h n (some (.row true m sz (pes.map fun e=>e.map PC.er)))) (.one (.sl n sz 0 pes.length)) (.slice (some (ad w.heap.size 0)) pes.length cap)/\ cm w ⟨Im',G.g⟩ σ1.h (fun n=>σ.used n=true) (w.alloc (.cells arr e)) G' (aV σ1.h n (some (.row true m sz (pes.map fun e=>e.map PC.er)))):=by have M:=r.fr.size;have d:=aca w (.cells arr e);have t:HR B E (w.alloc (.cells arr e)) ⟨Im',aV G.g n ⟨false,w.heap.size,0,cap,pes,none⟩⟩ (aV σ1.h n (some (.row true m sz (pes.map fun e=>e.map PC.er)))) (aV σ.used n true) []:=(by refine H.insert (p:=⟨false,w.heap.size,0,cap,pes,none⟩) hn d (by simp) (fun _=>⟨H.YP,.inl M,by simp⟩) (fun cs c m hb=>by cases hb) ?_ ?_ ?_ (fun x m sz xs _ _ i pc b hi=>by simp at hi);refine⟨S,rfl,(fun hl=>by cases hl),fun _=>⟨fA.alloc _ _ _,⟨hl,fun k j c f=>?_,fun k j c f=>?_⟩,lV⟩,fun _ _=>⟨Z,arr,e,heap_alloc_new w _,(IS _).symm▸P⟩,?_,fun _ hl=>Q hl _⟩;simp only[IS];unfold ad;rw[World.cell?_alloc_new];exact T k j c f;exact(s k j c f).1.congr fun b hb o=>kx (d b (H.jX b ((s k j c f).2 b hb))) o;have I:m≠ .aQ->(∀b,bF b pes->Im' b/\fA (w.alloc (.cells arr e)) b/\(B<=b\/E b))/\lK pes:=fun q=> ⟨fun b hb=>by have l:=hm.resolve_left q;obtain⟨y,A,D⟩:=l.rj b hb;exact⟨y,A.congr (d b (H.jX b y)),D⟩,(hm.resolve_left q).sep⟩;(cases m with|aQ=>rintro b ⟨k,j,c,f,hb⟩;exact(s k j c f).2 b hb|aS=>exact I (by simp)|live=>have l:=hm.resolve_left (by simp);have L:=l.kind.resolve_left (by simp);exact⟨fun b hb=>absurd hb (L b),l.sep⟩);intro x m' z U hb q W X oH V C J O b u;injection hb with _ hb _ _;subst hb;exact(hm.resolve_left q).ji W X oH V C J O b u;intro x z U hb b u;injection hb with _ hb _ _;subst hb;exact absurd u ((hm.resolve_left (by simp)).kind.resolve_left (by simp) b));have Y:=cm.trans (u2:=fun n=>σ.used n=true) (fun _ h=>h) K (cm.insert H (blk:=.row true m sz (pes.map fun e=>e.map PC.er)) (p:=⟨false,w.heap.size,0,cap,pes,none⟩) hn d);refine⟨⟨Im',aV G.g n ⟨false,w.heap.size,0,cap,pes,none⟩⟩,r.step F (fun m hm=>by rw[v];exact xS n m hm) Y (by rw[v];exact t) (r.fr.grow d (by simp) rfl rfl rfl),?_,cm.insert H (blk:=.row true m sz (pes.map fun e=>e.map PC.er)) (p:=⟨false,w.heap.size,0,cap,pes,none⟩) hn d⟩;refine RA.je rfl fun _=>.inr ⟨by simp[cX],some (ad w.heap.size 0),?_,?_,?_⟩;simp[cX];simp[cX];omega;simp[cX]
end
def Vl:Value->C->Bool
 |.int k n,.int k' n'=>decide (k=k')&&decide (n=n')
 |.bool b,.bool b'=>decide (b=b')
 |.slice none 0 0,.list sz []=>decide (0<sz)
 |_,_=>false
def zQ:List Value->List C->Bool
 |[],[]=>true
 |v::vs,c::cs=>Vl v c&&zQ vs cs
 |_,_=>false
def qh:C->PC
 |.int k n=>.int k n
 |.bool b=>.bool b
 |.list sz _=>.list sz none 0 []
theorem aoP {w:World} {v:Value} {c:C} (h:Vl v c=true):(qh c).er=c/\(qh c).val=v/\Good w (qh c)/\∀b,¬bD b (qh c):=by unfold Vl at h;split at h;simp at h;obtain⟨rfl,rfl⟩:=h;exact⟨rfl,rfl,.int _ _,fun b hb=>by cases hb⟩;simp at h;subst h;exact⟨rfl,rfl,.bool _,fun b hb=>by cases hb⟩;simp at h;refine⟨by simp[qh,PC.fK],rfl,.nil _ _ _ h,fun b hb=>?_⟩;unfold qh at hb;rw[bD.pq] at hb;rcases hb with⟨hb,_⟩|⟨k,j,c,⟨e,a,_⟩,_⟩;exact absurd rfl hb;simp at a;cases h
theorem Vm {w:World}:∀{vs:List Value} {cs:List C},zQ vs cs=true->(cs.map qh).map PC.er=cs/\(cs.map qh).map PC.val=vs/\∀pc∈cs.map qh,Good w pc/\∀b,¬bD b pc
 |[],[],_=>⟨rfl,rfl,by simp⟩
 |v::vs,c::cs,h=>by simp only[zQ,zag] at h;obtain⟨f,d,e,g⟩:=aoP (w:=w) h.1;obtain⟨j,k,i⟩:=Vm (w:=w) h.2;refine⟨by simp only[If,f,j],by simp only[If,d,k],fun pc a=>?_⟩;simp only[If,List.mem_cons] at a;rcases a with rfl|a;exact⟨e,g⟩;exact i pc a
 |[],_::_,h=>by simp[zQ] at h
 |_::_,[],h=>by simp[zQ] at h
theorem Kj {α:Type} {n k j:Nat} {e:List α} {c:α} (h:At (OF n e) k j c):k<n/\e[j]? =some c:=by obtain⟨e',a,hj⟩:=h;rw[List.getElem?_replicate] at a;split at a;rename_i b;injection a with a;subst a;exact⟨b,hj⟩;cases a
section
variable {B N:Nat} {E:Ex} {w0 w w':World} {G G':Gh} {h h':Nat->Option aA} {used used':Nat->Bool} {tk:List PC} {P:Program} {o:Oper} {a:Act} {σ σ':St} {Q:Exit->Act->World->Prop}
theorem RA.int {x:au} {n:Int} {v:Value} (hx:x.fw=some n) (a:RA w G h x v):∃k,v=.int k n:=by unfold au.fw at hx;split at hx;rename_i k d;injection hx with hx;subst hx;rcases a with a|a;cases a;have e:ed w G h [.c (.int k d)] [v]:=a;obtain⟨pc,b,f,_⟩:=(e.2 0 _ v rfl rfl).2;cases pc<;>simp[PC.er] at b;obtain⟨rfl,rfl⟩:=b;exact⟨_,f.symm⟩;cases hx
theorem aqs (r:R B E w0 N σ a w G) {n:Nat} {t e:TypeId} {i:TypeInfo} {z:Value} {g:List C} {x y:Operand} {mx my:MO} {m:Mode} {sz dW:Nat} {q d:Int} {σ1:St} (ho:o.op=.makeSlice t x y) (hd:o.dst=some n) (hN:n<N) (jS:c8 x mx=true) (Z:c8 y my=true) (ht:P.underlying t=some (.slice e)) (hi:P.info? e=some i) (hz:i.zero=some z) (cY:i.size=sz) (U:i.bytes=dW) (Ew:0<dW) (nT:0<sz) (hc:zQ z.cells.toList g=true) (h:(σ.ev mx).fw=some q) (A:(σ.ev my).fw=some d) (gE:q<=d) (rv:0<=q) (hb:d.toNat*dW<=gH) (p:g.length=sz) (hx:σ.ins n (.row true m sz (OF q.toNat g))=some σ1): o.wp P a w (Nx B E w0 N (σ1.put o.dst (.one (.sl n sz 0 q.toNat)))) Q:=by obtain⟨hn,rfl⟩:=rD hx;obtain⟨W,e1⟩:=(r.ev jS).1.int h;obtain⟨k2,e2⟩:=(r.ev Z).1.int A;have X:q.toNat<=d.toNat:=(by omega);obtain⟨Y,T,D⟩:=Vm (w:=w) hc;have aB7:d.toNat<=gH:=zau (zas _ Ew) hb;have H:z.cells.size=sz:=(by have:((g.map qh).map PC.val).length=z.cells.toList.length:=(by rw[T]);simp at this;omega);have M:=run_make (P:=P) w t e i z ht hi hz W k2 q d rv gE (by rw[U];have O:((d.toNat*dW:Nat):Int)<=((gH:Nat):Int):=(by exact_mod_cast hb);rw[Int.natCast_mul,zaR (by omega:0<=d)] at O;rw[Int.mul_comm];have u:((gH:Nat):Int)=140737488355328:=rfl;omega) (by have u:(gH:Nat)=140737488355328:=rfl;omega);have L:(execOp a.eval o).run P w=.ok (.value (.slice (some (ad w.heap.size 0)) q.toNat d.toNat)) (w.alloc (.cells (madeCells z.cells (d.toNat*sz)) e)):=(by simp only[execOp,ho,e1,e2];rw[cY] at M;simp[M,ad]);have v:(OF q.toNat (g.map qh)).map (fun e=>e.map PC.er)=OF q.toNat g:=(by rw[List.map_replicate,Y]);have dK:∀b,¬bF b (OF q.toNat (g.map qh)):=(by rintro b ⟨k,j,c,f,hb⟩;exact(D c (co (Kj f).2)).2 b hb);have S:∀k j c,At (OF q.toNat (g.map qh)) k j c->Good w c/\∀b,bD b c->G.Im b:=fun k j c f=> ⟨(D c (co (Kj f).2)).1,fun b hb=>absurd hb ((D c (co (Kj f).2)).2 b)⟩;obtain⟨G',r',hv,_⟩:=r.newRow (σ1:=σ) (Im':=G.Im) (m:=m) (sz:=sz) (cap:=d.toNat) (pes:=OF q.toNat (g.map qh)) (arr:=madeCells z.cells (d.toNat*sz)) (e:=e) r.hr (cm.refl _ _ _ _) rfl rfl hn nT (fun e he=>by rw[(List.mem_replicate.1 he).2];simpa using p) S (fun k j c f=>by obtain⟨O,u⟩:=Kj f;have hj:j<sz:=(by have:=(wt.1 u).1;simp at this;omega);have J:k*sz+j<d.toNat*sz:=(by have:(k+1)*sz<=d.toNat*sz:=BY _ (by omega);rw[GB] at this;omega);have I:(k*sz+j)%sz=j:=(by rw[zaM,Nat.mul_add_mod,Nat.mod_eq_of_lt hj]);have V:z.cells.toList[j]? =some c.val:=(by rw[<-T,so,u];rfl);have K:z.cells[j]? =some c.val:=(by simpa using V);have F:(k*sz+j)%z.cells.size=j:=(by rw[H];exact I);simp[madeCells,J,F];rw[getElem!_def,K]) (by simpa using X) (by have u:(gH:Nat)=140737488355328:=rfl;simp only[maxLen];omega) (size_madeCells _ _) (.inr (J6.Fq dK (fun k j c f=>(S k j c f).1))) (fun _ w' k pc f=>by obtain⟨c,_,rfl⟩:=Pe.1 (co (Kj f).2);cases c with|int k n=>trivial|bool b=>trivial|list s l=>exact .inl rfl);rw[v,List.length_replicate] at*;refine Bq L ⟨G',r'.put hv (fun q h=>by have A:q=n:=h;subst A;exact cX _ _ _) (fun q h=>by rw[hd] at h;injection h with h;omega)⟩
theorem afa (off:Nat):∀(vs:List Value) (k:Nat) (cs:Array Value),off+k+vs.length<=cs.size-> ((vs.zipIdx k).foldl (fun(cs:Array Value) (p:Value×Nat)=>cs.setIfInBounds (off+p.2) p.1) cs)=(cs.toList.take (off+k)++vs++cs.toList.drop (off+k+vs.length)).toArray
 |[],k,cs,_=>by simp
 |v::vs,k,cs,h=>by simp only[za4,List.foldl_cons];have h':off+(k+1)+vs.length<=(cs.setIfInBounds (off+k) v).size:=(by simp at h⊢;omega);rw[afa off vs (k+1) _ h'];have e:=list_seg_step cs.toList (off+k) v vs (by simp at h⊢;omega);rw[zaq,<-e];simp[Array.toList_setIfInBounds,Pd]
theorem afb (off:Nat) (v:Value) (cs:Array Value) (h:off+v.cells.size<=cs.size): (v.cells.zipIdx.foldl (fun cs (c,j)=>cs.setIfInBounds (off+j) c) cs)=(dA cs.toList off v.cells.toList).toArray:=by have:=afa off v.cells.toList 0 cs (by simpa using h);rw[<-Array.foldl_toList];simp only[Array.toList_zipIdx];simpa[dA] using this
theorem aed (size:Nat):∀(vs:List Value) (i0:Nat) (cs:Array Value),(∀v∈vs,v.cells.size=size)->(i0+vs.length)*size<=cs.size-> Instr.fill (fun i=>some (i*size,size)) cs ((vs.zipIdx i0).map fun p=>(p.2,p.1))=some (dA cs.toList (i0*size) (vs.flatMap fun v=>v.cells.toList)).toArray
 |[],i0,cs,_,_=>by simp[Instr.fill,dA]
 |v::vs,i0,cs,hv,hl=>by have j:=hv v (by simp);have d:i0*size+v.cells.size<=cs.size:=(by have:(i0+1)*size<=(i0+(v::vs).length)*size:=BY _ (by simp);rw[GB] at this;omega);simp only[za4,If,Instr.fill];rw[ak (by simp;omega)];rw[afb _ _ _ d];have a:(dA cs.toList (i0*size) v.cells.toList).length=cs.size:=(by simp[dA];omega);rw[aed size vs (i0+1) _ (fun e h=>hv e (by simp[h])) (by simp only[zaD,a];simp only[zaq] at hl;rwa[show i0+1+vs.length=i0+(vs.length+1) by omega])];congr 2;have b:v.cells.toList.length=size:=(by simpa using j);have k:(i0+1)*size=i0*size+size:=(by rw[GB];omega);simp only[dA,List.flatMap_cons,zat,b];rw[k];have c:(zaK (i0*size) cs.toList).length=i0*size:=(by simp;omega);have f:zaK (i0*size+size) (zaK (i0*size) cs.toList++v.cells.toList++zaX (i0*size+size) cs.toList)=zaK (i0*size) cs.toList++v.cells.toList:=(by apply List.take_left';simp[c,b]);have g:∀x,zaX (i0*size+size+x) (zaK (i0*size) cs.toList++v.cells.toList++zaX (i0*size+size) cs.toList)=zaX (i0*size+(size+x)) cs.toList:=(by intro x;rw[List.drop_append,zaG (by simp[c,b])];simp only[zam,List.drop_drop,zat,c,b];congr 1;omega);rw[f,g];simp[zaE]
end
theorem ad5 {α:Type} (P:Nat->α->Prop):∀n:Nat,(∀j,j<n->∃v,P j v)->∃l:List α,l.length=n/\∀(j:Nat) (u:α),l[j]? =some u->P j u
 |0,_=>⟨[],rfl,by simp⟩
 |n+1,h=>by obtain⟨l,a,c⟩:=ad5 P n (fun j hj=>h j (by omega));obtain⟨v,d⟩:=h n (by omega);refine⟨l++[v],by simp[a],fun j u hj=>?_⟩;rcases zaC j n with cu|b|Ae;rw[AT (by omega)] at hj;exact c j u hj;subst b;rw[By (by omega)] at hj;simp[a] at hj;subst hj;exact d;rw[zaI (by simp;omega)] at hj;cases hj
theorem Jl {α:Type} {l a:List α} {off sz:Nat} (h:sub l off sz=some a):off+sz<=l.length/\a=(l.drop off).take sz/\a.length=sz:=by unfold sub at h;split at h;rename_i hl;injection h with h;subst h;exact⟨hl,rfl,by simp;omega⟩;cases h
theorem Dx {α:Type} {l:List α} {off sz j:Nat} (hj:j<sz):((l.drop off).take sz)[j]? =l[off+j]? :=by rw[zaF hj,zar]
theorem agR (n k a:Nat):∀(l:List C) (off:Nat),(kF n k a off l).length=l.length
 |[],_=>rfl
 |c::l,off=>by cases c<;>simp[kF,agR n k a l]
theorem YN (n k a:Nat):∀(l:List C) (off j:Nat) (x:aj),(kF n k a off l)[j]? =some x-> (∃c,l[j]? =some c/\c.gx=true/\x=.c c)\/(∃sz ys,l[j]? =some (.list sz ys)/\x=.cF n k a (off+j) sz ys.length)
 |[],off,j,x,h=>by simp[kF] at h
 |c::l,off,j,x,h=>by cases j with|zero=>cases c<;>simp[kF] at h<;>subst h;exact .inl ⟨_,rfl,rfl,rfl⟩;exact .inl ⟨_,rfl,rfl,rfl⟩;exact .inr ⟨_,_,rfl,rfl⟩|succ j=>have h':(kF n k a (off+1) l)[j]? =some x:=(by cases c<;>simpa[kF] using h);rcases YN n k a l (off+1) j x h' with⟨f,b,d,e⟩|⟨sz,ys,b,d⟩;exact .inl ⟨f,by simpa using b,d,e⟩;exact .inr ⟨sz,ys,by simpa using b,by rw[d,show off+1+j=off+(j+1) by omega]⟩
section
variable {B N:Nat} {E:Ex} {w0 w w':World} {G G':Gh} {h h':Nat->Option aA} {used used':Nat->Bool} {tk:List PC} {P:Program} {o:Oper} {a:Act} {σ σ':St} {Q:Exit->Act->World->Prop}
theorem adR (r:R B E w0 N σ a w G) {n:Nat} {t e:TypeId} {len:Nat} {parts:Array (Nat×Operand)} {D:List MO} {i:TypeInfo} {z:Value} {sz:Nat} {es:List (List C)} {A:Bool} {σ1 σ2:St}
  (ho:o.op=.buildSlice t len parts) (hd:o.dst=some n) (hN:n<N) (ht:P.underlying t=some (.slice e)) (hi:P.info? e=some i) (hz:i.zero=some z) (cY:i.size=sz) (W:0<sz)
  (hlen:D.length=len) (jU:parts.toList.map (·.1)=List.range len) (T:len*sz<=16777216)
  (lW:∀(j:Nat) (p:Nat×Operand) (m:MO),parts.toList[j]? =some p->D[j]? =some m->c8 p.2 m=true)
  (XH:σ.mQ sz (D.map σ.ev)=some (es,A,σ1)) (hx:σ1.ins n (.row true (if A=true then .aS else .aQ) sz es)=some σ2):
  o.wp P a w (Nx B E w0 N (σ2.put o.dst (.one (.sl n sz 0 es.length)))) Q:=by
 obtain⟨hn,rfl⟩:=rD hx;have ir:parts.toList.length=len:=by have:=congrArg za7 jU;simpa using this
 have X:(parts.toList.map fun p=>a.eval p.2).length=(D.map σ.ev).length:=by simp only[zaj];omega
 have I:∀(j:Nat) (x:au) (v:Value),(D.map σ.ev)[j]? =some x->(parts.toList.map fun p=>a.eval p.2)[j]? =some v->RA w G σ.h x v/\∀m,x.ref m->σ.used m=true:=by
  intro j x v F u;rw[so] at F u;cases hp:parts.toList[j]? with
  |none=>rw[hp] at u;cases u
  |some p=>
   cases hm:D[j]? with
   |none=>rw[hm] at F;cases F
   |some m=>
    rw[hm] at F;rw[hp] at u;simp at F u;subst F;subst u;exact r.ev (lW j p m hp hm)
 obtain⟨Im',pes,a1,V,M,a4,L,a6,a7,a8,a9⟩:=HR.mQ (sz:=sz) r.hr XH X (fun j x v d h2=>(I j x v d h2).1) (fun x hx m hm=>by
  obtain⟨j,hj,hjx⟩:=zab hx;have u:(parts.toList.map fun p=>a.eval p.2)[j]? =some ((parts.toList.map fun p=>a.eval p.2)[j]'(by omega)):=AI _;exact(I j x _ (by rw[AI hj,hjx]) u).2 m hm)
 simp only[zam] at L;have asi:pes.length=len:=by
  have:=congrArg za7 V;simp only[zaj] at this;omega
 have Y:∀v∈(parts.toList.map fun p=>a.eval p.2),v.cells.size=sz:=by
  intro v f;obtain⟨j,hj,Cm⟩:=zab f;have d:((parts.toList.map fun p=>a.eval p.2).map fun v=>v.cells.toList)[j]? =some v.cells.toList:=by rw[so,AI hj,Cm];rfl
  rw[<-V,so] at d;cases s:pes[j]? with
  |none=>rw[s] at d;cases d
  |some pe=>
   rw[s] at d;simp at d;have:=M pe (co s);rw[<-zac,<-d];simpa using this
 have hpz:(parts.map fun p=>(p.1,a.eval p.2)).toList=((parts.toList.map fun p=>a.eval p.2).zipIdx 0).map fun p=>(p.2,p.1):=by
  apply List.ext_getElem?;intro j;simp only[zav,so,List.getElem?_zipIdx];cases hp:parts.toList[j]? with
  |none=>simp
  |some p=>
   have nN:=(wt.1 hp).1;have d:(parts.toList.map (·.1))[j]? =some p.1:=by rw[so,hp];rfl
   rw[jU,List.getElem?_range (by omega)] at d;injection d with d;simp[d]
 have di:(execOp a.eval o).run P w=.ok (.value (.slice (some (ad w.heap.size 0)) len len)) (w.alloc (.cells ((parts.toList.map fun p=>a.eval p.2).flatMap fun v=>v.cells.toList).toArray e)):=by
  have arW:((parts.toList.map fun p=>a.eval p.2).flatMap fun v=>v.cells.toList).length=len*sz:=by
   rw[zaS];have:∀(l:List Value),(∀v∈l,v.cells.size=sz)->(l.map fun v=>v.cells.toList.length).sum=l.length*sz:=by
    intro l;induction l with
    |nil=>simp
    |cons v l ih=>
     intro f;simp only[If,zbd,zaq];rw[ih (fun Z O=>f Z (by simp[O])),zac,f v (by simp),GB];omega
   rw[this _ Y];simp[ir]
  have H:∀cs:Array Value,cs.size=len*sz->Instr.fill (fun i=>some (i*sz,sz)) cs (parts.map fun p=>(p.1,a.eval p.2)).toList=some ((parts.toList.map fun p=>a.eval p.2).flatMap fun v=>v.cells.toList).toArray:=by
   intro cs f9;rw[hpz,aed sz _ 0 cs Y (by simp only[zaj,ir,IS];omega)];congr 2;simp only[dA,zaL,zaQ,zam,IS];rw[zaG (by rw[arW,zac,f9];exact zad _)];simp
  by_cases U:len*sz=0
  ·have y:=H ((zbf 0).map fun _=>default) (by simp[U]);rw[zav] at y;simp[execOp,ho,Instr.buildSlice,run_underlying ht,sizeOf,typeInfo,hi,cY,U,Nat.not_lt.2 T,y,newRow,ad]
  ·have y:=H ((zbf (len*sz)).map (z.cells[·%z.cells.size]!)) (by simp);rw[zav] at y;simp[execOp,ho,Instr.buildSlice,run_underlying ht,sizeOf,typeInfo,hi,cY,U,Nat.not_lt.2 T,zeroValue,hz,y,newRow,ad]
 have jK:∀k j c,At pes k j c->Good w c/\∀b,bD b c->Im' b:=fun k j c hk=>by
  obtain⟨J,K,hj⟩:=hk;exact a4 J (co K) c (co hj)
 have H0:HR B E w ⟨Im',G.g⟩ σ1.h σ.used []:=by
  cases A
  ·simpa using L
  ·have GJ:HR B E w ⟨Im',G.g⟩ σ1.h σ.used ([]++pes.flatten):=by simpa using L
   exact GJ.F6
 obtain⟨G',r',f,_⟩:=r.newRow (m:=if A=true then .aS else .aQ) (sz:=sz) (cap:=len) (pes:=pes) (arr:=((parts.toList.map fun p=>a.eval p.2).flatMap fun v=>v.cells.toList).toArray) (e:=e) H0 a6 a7 a8 (by rw[<-a8];exact hn) W M jK
  (fun k j c hk=>by
   have dC:At (pes.map fun e=>e.map PC.val) k j c.val:=by
    obtain⟨J,K,hj⟩:=hk;exact⟨J.map PC.val,by rw[so,K];rfl,by rw[so,hj];rfl⟩
   have y:=zK (sz:=sz) (px:=pes.map fun e=>e.map PC.val) (fun e K=>by
    obtain⟨J,xk,rfl⟩:=Pe.1 K;simpa using M J xk) dC
   rw[V] at y;simpa[List.flatMap] using y) (by omega) (by
   have h2:sz*len<=16777216:=by rw[zaM];exact T
   have h3:len<=len*sz:=zas _ W;simp only[maxLen];omega) (by
   have WX:((parts.toList.map fun p=>a.eval p.2).flatMap fun v=>v.cells.toList).length=len*sz:=by
    rw[zaS];have:∀(l:List Value),(∀v∈l,v.cells.size=sz)->(l.map fun v=>v.cells.toList.length).sum=l.length*sz:=by
     intro l;induction l with
     |nil=>simp
     |cons v l ih=>
      intro f;simp only[If,zbd,zaq];rw[ih (fun Z O=>f Z (by simp[O])),zac,f v (by simp),GB];omega
    rw[this _ Y];simp[ir]
   simpa using WX) (by
   cases A
   ·exact .inl rfl
   ·right;simp only[if_true];have GJ:HR B E w ⟨Im',G.g⟩ σ1.h σ.used pes.flatten:=by simpa using L
    exact GJ.axR W M) (fun hl=>by cases A<;>cases hl)
 have S:es.length=pes.length:=by rw[<-a1];simp
 rw[a1] at r' f;rw[S];rw[asi] at f⊢;refine Bq di ⟨G',?_⟩;exact r'.put f (fun q s=>by have ig:q=n:=s;subst ig;exact cX _ _ _) (fun q s=>by rw[hd] at s;injection s with s;omega)
theorem HR.loadAt (H:HR B E w G h used tk) {p:aj} {sz:Nat} {cs:List aj} {v:Value} (hx:loadAt h p sz=some cs) (W:RC w G h p v) (nR:∀m,p.ref m->used m=true):
  ∃(b o:Nat) (vs:List Value),v=.pointer (some (ad b o))/\vs.length=sz/\(∀(j:Nat) (u:Value),vs[j]? =some u->w.cell? (ad b (o+j))=some u)/\ed w G h cs vs/\
   ∀c∈cs,∀m,c.ref m->used m=true:=by
 cases p with
 |ptr n k L off=>
  simp only[Am.loadAt] at hx;split at hx
  ·rename_i Z hn;split at hx
   ·rename_i hk;subst hk;obtain⟨K,P,T⟩:=Jl hx;obtain⟨z,F⟩:=W (by rw[hn];simp);obtain⟨b1,b2,b3⟩:=H.box n Z hn;have dd:∀j,j<sz->∃v,w.cell? (ad (G.g n).b ((G.g n).o+off+j))=some v/\∀c,cs[j]? =some c->v.oneCell'=true/\RC w G h c v:=by
     intro j hj;have e8:Z[off+j]? =some (Z[off+j]'(by omega)):=AI _;obtain⟨v,v1,v2,v3⟩:=b3 _ _ e8;refine⟨v,by rw[Pd];exact v1,fun c r=>?_⟩;rw[P,Dx hj,e8] at r;injection r with r;subst r;exact⟨v2,v3⟩
    obtain⟨vs,l1,l2⟩:=ad5 _ sz dd;refine⟨(G.g n).b,(G.g n).o+off,vs,by rw[F];simp,l1,fun j u hj=>(l2 j u hj).1,⟨by omega,fun j c u r d=>(l2 j u d).2 c r⟩,fun c y m hm=>?_⟩;refine H.kq n Z c m hn ?_ hm;rw[P] at y;exact zah (zai y)
   ·cases hx
  ·rename_i X mo rs xs hn;split at hx
   ·rename_i xo;subst xo;split at hx
    ·rename_i e t;split at hx
     ·rename_i l J;injection hx with hx;obtain⟨K,P,T⟩:=Jl J;have hr:=H.row n X mo L xs hn;obtain⟨z,F⟩:=W (by rw[hn];simp);obtain⟨r1,r2,r3⟩:=hr.f6 z;have mF:∃pe,(G.g n).px[k]? =some pe/\pe.map PC.er=e:=by
       rw[hr.er,so] at t;cases hp:(G.g n).px[k]? with
       |none=>rw[hp] at t;cases t
       |some pe=>rw[hp] at t;simp at t;exact⟨pe,rfl,t⟩
      obtain⟨pe,Cp,Cq⟩:=mF;have jU:off+sz<=pe.length:=by rw[<-Cq] at K;simpa using K
      have O:∀j,j<sz->∃pc,At (G.g n).px k (off+j) pc/\l[j]? =some pc.er/\((pe.drop off).take sz)[j]? =some pc:=by
       intro j hj;have hp:pe[off+j]? =some (pe[off+j]'(by omega)):=AI _;refine⟨pe[off+j]'(by omega),⟨pe,Cp,hp⟩,?_,by rw[Dx hj];exact hp⟩;have U:l[j]? =((e.drop off).take sz)[j]? :=congrArg (fun q:List C=>q[j]?) P;rw[U,Dx hj,<-Cq,so,hp];rfl
      have M:(((pe.drop off).take sz).map PC.val).length=sz:=by simp;omega
      refine⟨(G.g n).b,(G.g n).o+k*L+off,((pe.drop off).take sz).map PC.val,F,M,fun j u hj=>?_,?_,?_⟩
      ·have Q:j<sz:=by have:=(wt.1 hj).1;omega
       obtain⟨pc,p1,A,R⟩:=O j Q;rw[so,R] at hj;simp at hj;subst hj;rw[show(G.g n).o+k*L+off+j=(G.g n).o+k*L+(off+j) by omega];exact r2.2.1 _ _ _ p1
      ·subst hx;refine⟨by rw[M];split<;>simp[agR,T],fun j c u r d=>?_⟩
       have Q:j<sz:=by have:=(wt.1 d).1;omega
       obtain⟨pc,p1,A,R⟩:=O j Q;rw[so,R] at d;simp at d;subst d;refine⟨PC.od pc,?_⟩;have V:=r2.2.2 _ _ _ p1;split at r
       ·rename_i vF;subst vF;rcases YN n k L l off j c r with⟨I,D,h2,rfl⟩|⟨s,ys,D,rfl⟩
        ·rw[A] at D;injection D with D;exact⟨pc,D,rfl,V,fun b hb=>absurd hb ((Sep.lE (pc:=pc) (by rw[D];exact h2)).2 b)⟩
        ·rw[A] at D;injection D with D;intro cd aH _;refine⟨pc,p1,rfl,?_⟩;cases pc<;>simp[PC.er] at D<;>rfl
       ·rename_i vF;rw[so,A] at r;simp at r;subst r;refine⟨pc,rfl,rfl,V,fun b hb=>?_⟩;have hm:=hr.mode;have eB:bF b (G.g n).px:=⟨k,off+j,pc,p1,hb⟩;cases mo with
        |aQ=>exact hm b eB
        |aS=>exact(hm.1 b eB).1
        |live=>exact absurd rfl vF
      ·intro c y m hm;subst hx;split at y
       ·obtain⟨j,hj,Ah⟩:=zab y;rcases YN n k L l off j c (by rw[AI hj,Ah]) with⟨I,D,h2,rfl⟩|⟨s,ys,D,rfl⟩
        ·exact absurd hm (by simp[aj.ref,aj.j4])
        ·have:m=n:=hm;subst this;exact nR m rfl
       ·obtain⟨I,_,rfl⟩:=Pe.1 y;exact absurd hm (by simp[aj.ref,aj.j4])
     ·cases hx
    ·cases hx
   ·cases hx
  ·cases hx
 |dN xs off=>
  simp only[Am.loadAt] at hx;cases J:sub xs off sz with
  |none=>rw[J] at hx;cases hx
  |some l=>
   rw[J] at hx;simp at hx;subst hx;obtain⟨K,P,T⟩:=Jl J;obtain⟨b,o,pe,p1,A,R,p4⟩:=W;have jU:off+sz<=pe.length:=by rw[<-A] at K;simpa using K
   have M:(((pe.drop off).take sz).map PC.val).length=sz:=by simp;omega
   have O:∀j,j<sz->∃pc,pe[off+j]? =some pc/\l[j]? =some pc.er/\((pe.drop off).take sz)[j]? =some pc:=by
    intro j hj;have hp:pe[off+j]? =some (pe[off+j]'(by omega)):=AI _;refine⟨pe[off+j]'(by omega),hp,?_,by rw[Dx hj];exact hp⟩;have U:l[j]? =((xs.drop off).take sz)[j]? :=congrArg (fun q:List C=>q[j]?) P;rw[U,Dx hj,<-A,so,hp];rfl
   refine⟨b,o+off,_,p1,M,fun j u hj=>?_,⟨by rw[M];simp[T],fun j c u r d=>?_⟩,fun c y m hm=>?_⟩
   ·have Q:j<sz:=by have:=(wt.1 hj).1;omega
    obtain⟨pc,z,F,N⟩:=O j Q;rw[so,N] at hj;simp at hj;subst hj;rw[Pd];exact(p4 _ _ z).1
   ·have Q:j<sz:=by have:=(wt.1 d).1;omega
    obtain⟨pc,z,F,N⟩:=O j Q;rw[so,N] at d;rw[so,F] at r;simp at d r;subst d;subst r;exact⟨PC.od pc,pc,rfl,rfl,(p4 _ _ z).2.1,(p4 _ _ z).2.2⟩
   ·obtain⟨I,_,rfl⟩:=Pe.1 y;exact absurd hm (by simp[aj.ref,aj.j4])
 |dh xs off j n s len=>
  simp only[Am.loadAt] at hx;obtain⟨b,o,pe,p1,A,R,p4,u,u1,u2,u3⟩:=W;split at hx
  ·rename_i eu;obtain⟨rfl,rfl⟩:=eu;injection hx with hx;subst hx;refine⟨b,o+off,[u],p1,rfl,fun i u' hi=>?_,⟨rfl,fun i c u' S d=>?_⟩,fun c y m hm=>?_⟩
   ·cases i with
    |zero=>simp at hi;subst hi;exact u1
    |succ i=>simp at hi
   ·cases i with
    |zero=>simp at S d;subst S;subst d;exact⟨u2,u3⟩
    |succ i=>simp at d
   ·simp at y;subst y;have:m=n:=hm;subst this;exact nR m rfl
  ·split at hx
   ·rename_i cu;cases J:sub xs off sz with
    |none=>rw[J] at hx;cases hx
    |some l=>
     rw[J] at hx;simp at hx;subst hx;obtain⟨K,P,T⟩:=Jl J;have jU:off+sz<=pe.length:=by rw[<-A] at K;simpa using K
     have M:(((pe.drop off).take sz).map PC.val).length=sz:=by simp;omega
     have O:∀j,j<sz->∃pc,pe[off+j]? =some pc/\l[j]? =some pc.er/\((pe.drop off).take sz)[j]? =some pc:=by
      intro j hj;have hp:pe[off+j]? =some (pe[off+j]'(by omega)):=AI _;refine⟨pe[off+j]'(by omega),hp,?_,by rw[Dx hj];exact hp⟩;have U:l[j]? =((xs.drop off).take sz)[j]? :=congrArg (fun q:List C=>q[j]?) P;rw[U,Dx hj,<-A,so,hp];rfl
     refine⟨b,o+off,_,p1,M,fun i u hi=>?_,⟨by rw[M];simp[T],fun i c u S d=>?_⟩,fun c y m hm=>?_⟩
     ·have Lt:i<sz:=by have:=(wt.1 hi).1;omega
      obtain⟨pc,z,F,N⟩:=O i Lt;rw[so,N] at hi;simp at hi;subst hi;rw[Pd];exact(p4 _ _ (by omega) z).1
     ·have Lt:i<sz:=by have:=(wt.1 d).1;omega
      obtain⟨pc,z,F,N⟩:=O i Lt;rw[so,N] at d;rw[so,F] at S;simp at d S;subst d;subst S;exact⟨PC.od pc,pc,rfl,rfl,(p4 _ _ (by omega) z).2.1,(p4 _ _ (by omega) z).2.2⟩
     ·obtain⟨I,_,rfl⟩:=Pe.1 y;exact absurd hm (by simp[aj.ref,aj.j4])
   ·cases hx
 |c x=>simp[Am.loadAt] at hx
 |nil sz=>simp[Am.loadAt] at hx
 |sl n sz lo len=>simp[Am.loadAt] at hx
 |cF n k L off sz len=>simp[Am.loadAt] at hx
 |dU n k L off s i=>
  simp only[Am.loadAt] at hx;split at hx
  ·rename_i X rs xs hn;split at hx
   ·rename_i xo;subst xo;split at hx
    ·rename_i s' ys vB;split at hx
     ·rename_i eu;obtain⟨si,rm⟩:=eu;split at hx
      ·rename_i e t;split at hx
       ·rename_i uL;injection hx with hx;subst hx;obtain⟨pc,b,o,len,cap,p1,A,R,p4⟩:=W X xs hn;have hr:=H.row n X .live rs xs hn;have bk:(G.g n).nl=false:=by
         cases hq:(G.g n).nl with
         |false=>rfl
         |true=>obtain⟨e,t,_⟩:=p1;rw[(hr.nl hq).1] at t;simp at t
        have V:Good w pc:=(hr.f6 bk).2.1.2.2 _ _ _ p1;have tn:pc.er=.list s' ys:=by
         obtain⟨e',Ci,kc⟩:=p1;rw[hr.er] at vB;simp[Ci,kc] at vB;exact vB
        cases pc with
        |int k n=>simp[PC.er] at tn
        |bool b=>simp[PC.er] at tn
        |list ba a oy py=>
         rw[PC.fK] at tn;injection tn with e1 e2;have e3:ba=s:=e1.trans si;have e4:sz=ba:=rm.trans e3.symm;rw[<-e3] at p4;clear si rm e1 e3;subst e2 e4;simp only[PC.val] at A;injection A with f1 Y f3;subst f1 f3;rw[so] at t;cases hp:py[i]? with
         |none=>rw[hp] at t;cases t
         |some pe=>
          rw[hp] at t;simp at t;subst t;generalize ph:PC.list sz (some (ad b o)) oy py=q at V;cases V with
          |int k n=>cases ph
          |bool b=>cases ph
          |nil _ _ _ _=>injection ph with _ _ _ e4;subst e4;simp at hp
          |cons _ b' oo' _ _ z F N q4 q5 q6=>
           injection ph with f1 Y f3 f4;injection Y with Y;obtain⟨rfl,rfl⟩:=q9 Y;subst f1 f3 f4;have Cr:pe.length=sz:=q4 pe (co hp);refine⟨b,o+i*sz,pe.map PC.val,p4,by simpa using Cr,fun j u hj=>?_,⟨by simp,fun j c u r d=>?_⟩,fun c y m hm=>?_⟩
           ·rw[so] at hj;cases nO:pe[j]? with
            |none=>rw[nO] at hj;cases hj
            |some c=>rw[nO] at hj;simp at hj;subst hj;exact q5 i j c ⟨pe,hp,nO⟩
           ·rw[so] at d;rw[so,so] at r;cases nO:pe[j]? with
            |none=>rw[nO] at d;cases d
            |some I=>
             rw[nO] at d r;simp at d r;subst d;subst r;have nc:I.er.gx=true:=IT.1 uL _ (zae (co nO));exact⟨PC.od I,I,rfl,rfl,q6 i j I ⟨pe,hp,nO⟩,fun b hb=>absurd hb ((Sep.lE nc).2 b)⟩
           ·obtain⟨I,_,rfl⟩:=Pe.1 y;exact absurd hm (by simp[aj.ref,aj.j4])
       ·cases hx
      ·cases hx
     ·cases hx
    ·cases hx
   ·cases hx
  ·cases hx
 |fn f dM=>simp[Am.loadAt] at hx
 |bZ=>simp[Am.loadAt] at hx
def GY (P:Program) (t:TypeId) (ag:Bool) (sz:Nat):Bool:=
 match P.underlying t,P.info? t with
 |some (.struct _),some i=>ag&&i.size==sz
 |some (.array _ _),some i=>ag&&i.size==sz
 |some _,some i=> !ag&&sz==1
 |_,_=>false
theorem RA.jp {c:aj} {v:Value} (d:c≠ .bZ) (a:RA w G h (.one c) v):RC w G h c v/\v.oneCell'=true:=by rcases a with rfl|a;exact absurd rfl d;have b:ed w G h [c] [v]:=a;exact⟨(b.2 0 c v rfl rfl).2,(b.2 0 c v rfl rfl).1⟩
theorem aqq (r:R B E w0 N σ a w G) {t:TypeId} {x:Operand} {m:MO} {ag:Bool} {sz:Nat} {p:aj} {cs:List aj} (C:o.op=.load t x) (I:∀n,o.dst=some n->n<N)
  (hm:c8 x m=true) (e:GY P t ag sz=true) (hp:σ.ev m=.one p) (hx:Am.loadAt σ.h p sz=some cs):
  o.wp P a w (Nx B E w0 N (σ.put o.dst (rT ag cs))) Q:=by
 obtain⟨g,F⟩:=r.ev hm;rw[hp] at g F;have S:p≠ .bZ:=by rintro rfl;simp[Am.loadAt] at hx
 obtain⟨b,of,vs,z,J,D,k,A⟩:=r.hr.loadAt hx (g.jp S).1 F;have y:∀v,RA w G σ.h (rT ag cs) v->(execOp a.eval o).run P w=.ok (.value v) w->o.wp P a w (Nx B E w0 N (σ.put o.dst (rT ag cs))) Q:=fun v g K=>
  Bq K ⟨G,r.put g (fun q f=>by
   unfold rT at f;split at f
   ·obtain⟨c,O,f⟩:=f;exact A c O q f
   ·exact A _ (by simp) q f
   ·exact absurd f (by simp[au.ref,aj.ref,aj.j4])) I⟩
 have T:∀n:Nat,n=vs.length->(loadCells (ad b of) n).run P w=.ok vs.toArray w:=fun n hn=>by
  subst hn;exact run_loadCells_list w (ad b of) vs (fun j u hj=>by rw[ud];exact D j u hj)
 unfold GY at e;cases hu:P.underlying t with
 |none=>rw[hu] at e;simp at e
 |some d=>
  cases hi:P.info? t with
  |none=>rw[hu,hi] at e;cases d<;>simp at e
  |some i=>
   rw[hu,hi] at e;have M:(ag=true/\i.size=sz/\(isAgg t).run P w=.ok true w)\/(ag=false/\sz=1/\(isAgg t).run P w=.ok false w):=by
    cases d<;>simp at e<;>simp[isAgg,run_underlying hu,e]
   rcases M with⟨rfl,H,l⟩|⟨rfl,H,l⟩
   ·refine y (.agg vs.toArray) ⟨vs,rfl,k⟩ ?_;simp[execOp,C,z,Instr.loadAt,Instr.sureAddr,loadVar,l,sizeOf,typeInfo,hi,T i.size (by omega)]
   ·subst H;match vs,J with
    |[u],_=>
     have L:∃c,cs=[c]:=by
      have:=k.1;match cs,this with
      |[c],_=>exact⟨c,rfl⟩
     obtain⟨c,rfl⟩:=L;refine y u (.inr k) ?_;have s:=D 0 u rfl;simp only[zaA] at s;simp[execOp,C,z,Instr.loadAt,Instr.sureAddr,loadVar,l,s]
end
theorem Sm {α:Type} {l vs:List α} {off:Nat} (h:off+vs.length<=l.length):(dA l off vs).length=l.length:=by simp[dA];omega
theorem Dr {α:Type} {l vs:List α} {off j:Nat} (h:off+vs.length<=l.length):(dA l off vs)[j]? =if off<=j/\j<off+vs.length then vs[j - off]? else l[j]? :=by unfold dA;have b:(l.take off).length=off:=(by simp;omega);by_cases a:j<off;rw[ak (by omega),zaE,AT (by omega),zaF a];by_cases c:j<off+vs.length;rw[ah ⟨by omega,c⟩,zaE,By (by omega),AT (by omega),b];rw[ak (by omega),By (by simp;omega),zar];congr 1;simp;omega
theorem FV {α β:Type} (f:α->β) (l vs:List α) (off:Nat):(dA l off vs).map f=dA (l.map f) off (vs.map f):=by simp[dA,zaV,zaW]
def iW (w:World) (b o:Nat) (vs:List Value) (cur:Array Value):World:=w.setRow b (cur.toList.take o++vs++cur.toList.drop (o+vs.length)).toArray
section
variable {w:World} {b o:Nat} {vs:List Value} {cur:Array Value} {e:TypeId}
theorem Jw (c:w.heap[b]? =some (.cells cur e (0,0))) (hl:o+vs.length<=cur.size) (x:Nat): (iW w b o vs cur).cell? (ad b x)=if o<=x/\x<o+vs.length then vs[x - o]? else w.cell? (ad b x):=by unfold iW ad;rw[cell_setRow_same w b x cur _ e (0,0) c];have a:=Dr (l:=cur.toList) (vs:=vs) (off:=o) (j:=x) (by simpa using hl);simp only[dA] at a;rw[zal,a];have d:w.cell? ⟨b,x,none⟩=cur[x]? :=(by simp[World.cell?,c]);rw[d];simp
theorem F9 (k:Nat) (a:k≠b):(iW w b o vs cur).heap[k]? =w.heap[k]? :=setRow_other w b k _ a
theorem wC:(iW w b o vs cur).heap.size=w.heap.size:=setRow_size _ _ _
theorem NX (c:w.heap[b]? =some (.cells cur e (0,0))) (hl:o+vs.length<=cur.size):∃a,(iW w b o vs cur).heap[b]? =some (.cells a e (0,0))/\a.size=cur.size:=by refine⟨_,setRow_heap w b cur _ e (0,0) c,?_⟩;simp;omega
theorem Jx (a:w.heap[b]? =some (.cells cur e (0,0))) (hl:o+vs.length<=cur.size):Cz w (iW w b o vs cur) b:=by intro arr e' h;obtain⟨d,c,f⟩:=NX (vs:=vs) (o:=o) a hl;rw[a] at h;injection h with h;injection h with ha hb;subst ha hb;exact⟨d,c,f⟩
theorem NY (d:w.heap[b]? =some (.cells cur e (0,0))) (hl:o+vs.length<=cur.size) (k:Nat) (g:fA w k):fA (iW w b o vs cur) k:=by by_cases a:k=b;subst a;obtain⟨f,c,_⟩:=NX (vs:=vs) (o:=o) d hl;exact⟨f,e,c⟩;exact g.congr (F9 k a)
end
section
variable {B N:Nat} {E:Ex} {w0 w w':World} {G G':Gh} {h h':Nat->Option aA} {used used':Nat->Bool} {tk:List PC} {P:Program} {o:Oper} {a:Act} {σ σ':St} {Q:Exit->Act->World->Prop}
theorem NR {α:Type} (f:Nat->α) (n:Nat):aV f n (f n)=f:=by funext m;simp only[mR];split;rename_i h;rw[h];rfl
theorem ZT {t:TypeId} {i:TypeInfo} {b off:Nat} {v:Value} {cur:Array Value} {e:TypeId} (hi:P.info? t=some i) (f:v.cells.size=i.size) (d:w.heap[b]? =some (.cells cur e (0,0))) (hl:off+v.cells.size<=cur.size) (c:∀u∈v.cells.toList,u.oneCell'=true): (storeVar t (ad b off) v).run P w=.ok () (iW w b off v.cells.toList cur):=by have a:=run_storeCells_at P b off e v.cells.toList 0 cur w d (by simpa using hl) c;simp only[zaA] at a;simp[storeVar,sizeOf,typeInfo,hi,f,ad,a,iW]
theorem HR.yt (H:HR B E w G h used tk) {n m:Nat} {a:Bool} {c:Mode} {sz:Nat} {xs:List (List C)} (hn:h n≠none) (hl:(G.g n).nl=false) (hm:h m=some (.row a c sz xs)) {b:Nat} (hb:bF b (G.g m).px):b≠(G.g n).b:=by have d:=(H.row m a c sz xs hm).mode;cases c with|aQ=>rintro rfl;exact(H.own n hn hl).1 (d _ hb)|aS=>rintro rfl;exact(H.own n hn hl).1 (d.1 _ hb).1|live=>exact H.live m a sz xs hm b hb n hn hl
theorem R.aAR (r:R B E w0 N σ a w G) {n:Nat} {cs:List aj} {vs:List aj} {us:List Value} {off:Nat} (hn:σ.h n=some (.box cs)) (L:ed w G σ.h vs us) (I:∀c∈vs,∀m,c.ref m->σ.used m=true)
  (hl:off+vs.length<=cs.length) {cur:Array Value} {e:TypeId} (s:w.heap[(G.g n).b]? =some (.cells cur e (0,0))) (t:(G.g n).o+off+us.length<=cur.size):
  R B E w0 N (σ.fh n (.box (dA cs off vs))) a (iW w (G.g n).b ((G.g n).o+off) us cur) G:=by
 have H:=r.hr;have p:σ.h n≠none:=by rw[hn];simp
 obtain⟨l,U,M⟩:=H.box n cs hn;obtain⟨C,D,Q⟩:=H.own n p l;have T:=H.lc n p;have u:(⟨G.Im,aV G.g n (G.g n)⟩:Gh)=G:=by rw[NR]
 have hlen:us.length=vs.length:=L.1;have fv:∀b,b<w.heap.size->b≠(G.g n).b->(iW w (G.g n).b ((G.g n).o+off) us cur).heap[b]? =w.heap[b]? :=fun b _ hb=>F9 b hb;have K:cm w G σ.h (fun n=>σ.used n=true) (iW w (G.g n).b ((G.g n).o+off) us cur) G (aV σ.h n (some (.box (dA cs off vs)))):=by
  refine⟨fun _ h=>h,fun b hb x=>kx (fv b (H.jX b hb) (fun W=>C (W▸hb))) x,fun m hm d=>?_,fun m i sz xs hm d=>?_⟩
  ·by_cases q:m=n
   ·subst q;exact⟨p,rfl,rfl,rfl,rfl,rfl⟩
   ·rw[dJ _ _ _ _ q] at d;exact⟨d,rfl,rfl,rfl,rfl,rfl⟩
  ·by_cases q:m=n
   ·subst q;rw[cX] at d;cases d
   ·rw[dJ _ _ _ _ q] at d;exact⟨⟨i,xs,d⟩,fun k j pc X V=>⟨pc,X,rfl,V⟩⟩
 have F:HR B E (iW w (G.g n).b ((G.g n).o+off) us cur) ⟨G.Im,aV G.g n (G.g n)⟩ (aV σ.h n (some (.box (dA cs off vs)))) σ.used []:=by
  refine H.put (fun b hb y=>fv b hb (y l)) (by rw[wC];exact zad _) (fun b _ hb=>NY s t b hb) (fun _ h=>h) T (fun _=>⟨C,D,by rw[wC];exact Q⟩)
   (fun _ m hm d P=>(H.inj m n d p hm P l)) (fun _ m i sz xs hm d b hb=>H.live m i sz xs d b hb n p l) ?_ (by rw[u];exact K) ?_
   (fun i m sz xs hb=>by cases hb) (fun i sz xs hb=>by cases hb) (fun i m sz xs hb=>by cases hb) ?_
  ·intro cs' c m hb f hm;injection hb with hb;subst hb;simp only[dA,zak] at f;rcases f with(f|f)|f
   ·exact H.kq n cs c m hn (zai f) hm
   ·exact I c f m hm
   ·exact H.kq n cs c m hn (zah f) hm
  ·rw[u];refine⟨l,NY s t _ U,fun j c hj=>?_⟩;rw[Dr hl] at hj;rw[Jw s t];by_cases z:off<=j/\j<off+vs.length
   ·rw[ah z] at hj;rw[ah (by omega)];have A:j - off<us.length:=by omega
    have J:us[j - off]? =some (us[j - off]'A):=AI A;obtain⟨Z,O⟩:=L.2 _ _ _ hj J;refine⟨_,by rw[<-J];congr 1;omega,Z,O.keep K (I c (co hj))⟩
   ·rw[ak z] at hj;rw[ak (by omega)];obtain⟨v,v1,v2,Y⟩:=M j c hj;exact⟨v,v1,v2,Y.keep K (fun m hm=>H.kq n cs c m hn (co hj) hm)⟩
  ·intro _ _ b hb;obtain⟨m,i,mo,sz,xs,hm,d,S⟩:=hb;exact H.yt p l d S
 rw[u] at F;exact r.step (σ':=σ.fh n (.box (dA cs off vs))) rfl (fun _ h=>h) K F (r.fr.one D (fun b hb y=>fv b hb y) (by rw[wC];exact zad _) (Jx s t) rfl rfl rfl)
theorem Ol {α:Type} {px:List (List α)} {k k' j:Nat} {pe:List α} {c:α} (d:k<px.length) (h:At (px.set k pe) k' j c):(k'=k/\pe[j]? =some c)\/(k'≠k/\At px k' j c):=by obtain⟨e,a,hj⟩:=h;by_cases b:k'=k;subst b;rw[zaH d] at a;injection a with a;subst a;exact .inl ⟨rfl,hj⟩;rw[zaP (zaJ b)] at a;exact .inr ⟨b,e,a,hj⟩
theorem PC.agk {pc:PC} (h:pc.jY=true):pc.er.gx=false:=by cases pc<;>simp[PC.jY] at h;simp[PC.fK,C.gx]
theorem R.rS (r:R B E w0 N σ a w G) {n:Nat} {s:Bool} {m:Mode} {d:Nat} {xs:List (List C)} {k off:Nat} {e:List C} {vs:List aj} {us:List Value} {σ2:St}
  (hn:σ.h n=some (.row s m d xs)) (Z:(G.g n).nl=false) (hk:xs[k]? =some e) (hv:ed w G σ.h vs us) (nR:∀c∈vs,∀m,c.ref m->σ.used m=true)
  (hx:Am.rS σ n s m d xs k off e vs=some σ2) {cur:Array Value} {et:TypeId} (hg:w.heap[(G.g n).b]? =some (.cells cur et (0,0))) (jJ:(G.g n).o+k*d+off+us.length<=cur.size):
  ∃G',R B E w0 N σ2 a (iW w (G.g n).b ((G.g n).o+k*d+off) us cur) G':=by
 unfold Am.rS at hx;split at hx
 ·cases hx
 rename_i j0 ju;obtain⟨s1,s2,s3⟩:=Jl ju;split at hx
 ·cases hx
 rename_i cs ow σ1 XH;obtain⟨Im',v,a1,a2,a3,U,a5,a6,a7,a8⟩:=HR.iE r.hr XH hv nR;simp only[zam] at U;have J:HR B E w ⟨Im',G.g⟩ σ1.h σ.used []:=by
  cases ow
  ·simpa using U
  ·have a4':HR B E w ⟨Im',G.g⟩ σ1.h σ.used ([]++v):=by simpa using U
   exact a4'.F6
 have hlen:us.length=vs.length:=hv.1;have jU:v.length=vs.length:=by have:=congrArg za7 a2;simp at this;omega
 have arN:(σ1.h n).isSome=true/\∃y,σ2=σ1.fh n (.row s y d (xs.set k (dA e off cs)))/\
   ((m=.live/\y=.live/\gz cs=true/\gz j0=true/\s=false)\/(m≠ .live/\y=if ow=true then m else .aQ)):=by
  split at hx
  ·rename_i hm;split at hx
   ·rename_i hc;injection hx with hx;exact⟨hc.2.2.1,m,by rw[<-hx],.inl ⟨hm,hm,hc.1,hc.2.1,hc.2.2.2⟩⟩
   ·cases hx
  ·rename_i hm;split at hx
   ·rename_i hs;injection hx with hx;exact⟨hs,_,hx.symm,.inr ⟨hm,rfl⟩⟩
   ·cases hx
 obtain⟨HY,y,rfl,iK⟩:=arN;have V:σ1.h n=some (.row s m d xs):=by
  cases hh:σ1.h n with
  |none=>rw[hh] at HY;cases HY
  |some b=>rw[<-a8 n b hh,hn]
 have cC:σ1.h n≠none:=by rw[V];simp
 have hr:=J.row n s m d xs V;obtain⟨vG,uJ,xn⟩:=J.own n cC Z;have Cw:=J.lc n cC;obtain⟨l1,l2,l3⟩:=hr.f6 Z;have mF:∃pe,(G.g n).px[k]? =some pe/\pe.map PC.er=e:=by
  have tn:=hr.er;rw[tn,so] at hk;cases hp:(G.g n).px[k]? with
  |none=>rw[hp] at hk;cases hk
  |some pe=>rw[hp] at hk;simp at hk;exact⟨pe,rfl,hk⟩
 obtain⟨pe,Cp,Cq⟩:=mF;have uH:k<(G.g n).px.length:=(wt.1 Cp).1;have Cr:pe.length=d:=l2.1 pe (co Cp);have HV:off+v.length<=pe.length:=by rw[<-Cq] at s1;simp at s1;omega
 let II:=dA pe off v;let px':=(G.g n).px.set k II;let M:=iW w (G.g n).b ((G.g n).o+k*d+off) us cur;let p':PB:=⟨false,(G.g n).b,(G.g n).o,(G.g n).cap,px',(G.g n).na⟩;have afM:II.length=d:=by show(dA pe off v).length=d;rw[Sm HV,Cr]
 have X:∀k' j c,At px' k' j c->(k'=k/\off<=j/\j<off+v.length/\v[j - off]? =some c)\/((k'≠k\/¬(off<=j/\j<off+v.length))/\At (G.g n).px k' j c):=by
  intro k' j c h;rcases Ol uH h with⟨rfl,hj⟩|⟨z,h⟩
  ·rw[Dr HV] at hj;by_cases gV:off<=j/\j<off+v.length
   ·rw[ah gV] at hj;exact .inl ⟨rfl,gV.1,gV.2,hj⟩
   ·rw[ak gV] at hj;exact .inr ⟨.inr gV,pe,Cp,hj⟩
  ·exact .inr ⟨.inl z,h⟩
 have arI:∀k' j c,At px' k' j c->j<d:=by
  intro k' j c h;obtain⟨S,T,hj⟩:=h;have:S.length=d:=by
   rcases zaB (co T) with f|f
   ·exact l2.1 S f
   ·rw[f];exact afM
  rw[<-this];exact(wt.1 hj).1
 have oA:∀b,bF b px'->bF b (G.g n).px\/∃(i:Nat) (c:PC),v[i]? =some c/\bD b c:=by
  rintro b ⟨k',j,c,K,hb⟩;rcases X k' j c K with⟨_,_,_,hp⟩|⟨_,hp⟩
  ·exact .inr ⟨_,c,hp,hb⟩
  ·exact .inl ⟨k',j,c,hp,hb⟩
 have fv:∀b,b≠(G.g n).b->M.heap[b]? =w.heap[b]? :=fun b hb=>F9 b hb;have Xr:∀(i:Nat) (c:PC) (b:Nat),v[i]? =some c->bD b c->Im' b:=fun i c b hi hb=>(a3 c (co hi)).2 b hb;have Eu:∀b,Im' b->b≠(G.g n).b:=fun b hb T=>vG (T▸hb);have EH:∀b,bF b (G.g n).px->b≠(G.g n).b:=fun b hb=>J.yt cC Z V hb;have gG:sY M (G.g n).b (G.g n).o d px':=by
  refine⟨fun S T=>?_,fun k' j c K=>?_,fun k' j c K=>?_⟩
  ·rcases zaB T with f|f
   ·exact l2.1 S f
   ·rw[f];exact afM
  ·have hj:=arI k' j c K;show M.cell? _=_;rw[Jw hg jJ];rcases X k' j c K with⟨rfl,f,P,hp⟩|⟨z,hp⟩
   ·rw[ah (by omega)];have hu:us[j - off]? =some c.val:=by rw[<-a2,so,hp];rfl
    rw[<-hu];congr 1;omega
   ·rw[ak ?_]
    ·exact l2.2.1 k' j c hp
    ·rintro⟨q1,q2⟩;rcases z with z|z
     ·rcases Nat.lt_or_gt_of_ne z with cu|Ae
      ·have:(k'+1)*d<=k*d:=BY _ cu;rw[GB] at this;omega
      ·have:(k+1)*d<=k'*d:=BY _ Ae;rw[GB] at this;omega
     ·have:k'=k:=by
       rcases zaC k' k with cu|gE|Ae
       ·have:(k'+1)*d<=k*d:=BY _ cu;rw[GB] at this;omega
       ·exact gE
       ·have:(k+1)*d<=k'*d:=BY _ Ae;rw[GB] at this;omega
      subst this;omega
  ·rcases X k' j c K with⟨_,_,_,hp⟩|⟨_,hp⟩
   ·exact(a3 c (co hp)).1.congr fun b hb x=>kx (fv b (Eu b (Xr _ c b hp hb))) x
   ·exact(l2.2.2 k' j c hp).congr fun b hb x=>kx (fv b (EH b ⟨k',j,c,hp,hb⟩)) x
 have aB4:(G.g n).o+k*d+off+us.length<=cur.size:=jJ;have mG:gz cs=true->∀(i:Nat) (c:PC) (b:Nat),v[i]? =some c->¬bD b c:=by
  intro hs i c b hi;have hc:c.er∈cs:=by rw[<-a1];exact zae (co hi)
  exact(Sep.lE (pc:=c) (IT.1 hs _ hc)).2 b
 have hold:gz j0=true->∀j c,off<=j->j<off+v.length->pe[j]? =some c->c.er.gx=true:=by
  intro hs j c f P hj;have:c.er∈j0:=by
   have h3:j0[j - off]? =some c.er:=by
    have e0:j0[j - off]? =((e.drop off).take vs.length)[j - off]? :=congrArg (fun q:List C=>q[j - off]?) s2;rw[e0,Dx (by omega),<-Cq,so,show off+(j - off)=j by omega,hj];rfl
   exact co h3
  exact IT.1 hs _ this
 have K2:cm w ⟨Im',G.g⟩ σ1.h (fun n=>σ.used n=true) M ⟨Im',aV G.g n p'⟩ (aV σ1.h n (some (.row s y d (xs.set k (dA e off cs))))):=by
  refine⟨fun _ h=>h,fun b hb x=>kx (fv b (Eu b hb)) x,fun q t u=>?_,fun q D H F t u=>?_⟩
  ·by_cases A:q=n
   ·subst A;refine⟨cC,?_⟩;simp only[cX];exact⟨Z.symm,rfl,rfl,rfl,rfl⟩
   ·rw[dJ _ _ _ _ A] at u;simp only[dJ _ _ _ _ A];exact⟨u,trivial,trivial,trivial,trivial,trivial⟩
  ·by_cases A:q=n
   ·subst A;rw[cX] at u;injection u with u;injection u with S e2 e3 e4;subst S;subst e2;subst e3;rcases iK with⟨hm,_,hs,hso,_⟩|⟨hm,l⟩
    ·subst hm;refine⟨⟨s,xs,V⟩,fun k' j pc K hL=>?_⟩;simp only[cX];refine⟨pc,?_,rfl,hL⟩;obtain⟨S,T,hj⟩:=K;by_cases Co:k'=k
     ·subst Co;rw[Cp] at T;injection T with T;subst T;refine⟨II,zaH uH,?_⟩;show(dA pe off v)[j]? =some pc;rw[Dr HV];rw[ak ?_]
      ·exact hj
      ·rintro⟨q1,q2⟩;have:=hold hso j pc q1 q2 hj;rw[PC.agk hL] at this;cases this
     ·exact⟨S,by show((G.g q).px.set k II)[k']? =some S;rw[zaP (zaJ Co)];exact T,hj⟩
    ·cases ow
     ·simp at l
     ·simp at l;exact absurd l.symm hm
   ·rw[dJ _ _ _ _ A] at u;simp only[dJ _ _ _ _ A];exact⟨⟨D,F,u⟩,fun k j pc f P=>⟨pc,f,rfl,P⟩⟩
 have tr:∀b,fA w b->fA M b:=fun b hb=>NY hg jJ b hb;have Xq:y≠ .aQ->(∀b,bF b px'->fA w b/\(B<=b\/E b))/\lK px'/\(y=.aS->∀b,bF b px'->Im' b)/\(y=.live->∀b,bF b px'->bF b (G.g n).px)/\
   (∀q D W H F,q≠n->σ1.h q=some (.row D W H F)->W≠ .aQ->∀b,bF b px'->¬bF b (G.g q).px):=by
  intro Y;have L:=hr.mode;rcases iK with⟨rfl,rfl,hs,hso,_⟩|⟨hm,l⟩
  ·have ju:∀b,bF b px'->bF b (G.g n).px:=fun b hb=>(oA b hb).resolve_right (fun⟨i,c,hi,hb⟩=>mG hs i c b hi hb);refine⟨fun b hb=>(L.1 b (ju b hb)).2,⟨fun k' j c K=>?_,fun k1 j1 Q k2 j2 I b f P z hb=>?_⟩,(fun h=>by cases h),fun _=>ju,fun q D W H F A t ma b hb=>J.ji n q s .live d xs D W H F V t (by simp) ma (zaJ A) b (ju b hb)⟩
   ·rcases X k' j c K with⟨_,_,_,hp⟩|⟨_,hp⟩
    ·exact Sep.Fq (fun b hb=>mG hs _ c b hp hb) (a3 c (co hp)).1
    ·exact L.2.1 k' j c hp
   ·rcases X k1 j1 Q f with⟨_,_,_,hp⟩|⟨_,hp⟩
    ·exact absurd hb (mG hs _ Q b hp)
    ·rcases X k2 j2 I P with⟨_,_,_,O⟩|⟨_,O⟩
     ·exact mG hs _ I b O
     ·exact L.2.2 k1 j1 Q k2 j2 I b hp O z hb
  ·cases ow
   ·simp at l;exact absurd l Y
   ·simp only[if_true] at l U;subst l;have PH:y=.aS:=by cases y<;>first|rfl|exact absurd rfl hm|exact absurd rfl Y
    subst PH;refine⟨fun b hb=>?_,⟨fun k' j c K=>?_,fun k1 j1 Q k2 j2 I b f P z hb=>?_⟩,fun _ b hb=>?_,(fun h=>by cases h),fun q D W H F A t ma b hb=>?_⟩
    ·rcases oA b hb with f|⟨i,c,hi,f⟩
     ·exact(L.1 b f).2
     ·exact((U.wz i c hi).2 b f).2
    ·rcases X k' j c K with⟨_,_,_,hp⟩|⟨_,hp⟩
     ·exact(U.wz _ c hp).1
     ·exact L.2.1 k' j c hp
    ·rcases X k1 j1 Q f with⟨S,q1,q2,hp⟩|⟨_,hp⟩
     ·rcases X k2 j2 I P with⟨e2,q3,q4,O⟩|⟨_,O⟩
      ·have kC:j1 - off≠j2 - off:=fun hh=>z (by rw[S,e2,show j1=j2 by omega]);exact U.Bm _ _ Q I b kC hp O hb
      ·exact fun bn=>U.wA _ Q n s .aS d xs b hp V (by simp) hb ⟨k2,j2,I,O,bn⟩
     ·rcases X k2 j2 I P with⟨e2,q3,q4,O⟩|⟨_,O⟩
      ·exact fun bn=>U.wA _ I n s .aS d xs b O V (by simp) bn ⟨k1,j1,Q,hp,hb⟩
      ·exact L.2.2 k1 j1 Q k2 j2 I b hp O z hb
    ·rcases oA b hb with f|⟨i,c,hi,f⟩
     ·exact(L.1 b f).1
     ·exact Xr i c b hi f
    ·rcases oA b hb with f|⟨i,c,hi,f⟩
     ·exact J.ji n q s .aS d xs D W H F V t (by simp) ma (zaJ A) b f
     ·exact U.wA i c q D W H F b hi t ma f
 have Hn:HR B E M ⟨Im',aV G.g n p'⟩ (aV σ1.h n (some (.row s y d (xs.set k (dA e off cs))))) σ.used []:=by
  refine J.put (p:=p') (fun b hb z=>fv b (z rfl)) (by show w.heap.size<=M.heap.size;rw[wC];exact zad _) (fun b _ hb=>tr b hb) (fun _ h=>h) Cw
   (fun _=>⟨vG,uJ,by show _<M.heap.size;rw[wC];exact xn⟩)
   (fun _ q t u qF=>(J.inj q n u cC t qF Z)) (fun _ q D H F t u b hb=>J.live q D H F u b hb n cC Z) (fun cs c q hb=>by cases hb) K2 ?_ ?_ ?_ (fun s m sz xs _ _ i pc b hi=>by simp at hi) ?_
  ·refine⟨hr.pos,?_,(fun hl=>by cases hl),fun _=>⟨tr _ l1,gG,by show((G.g n).px.set k II).length<=_;simpa using l3⟩,fun _ Lr=>?_,?_,fun hg1 jS=>?_⟩
   ·show xs.set k (dA e off cs)=((G.g n).px.set k II).map _;rw[List.map_set,<-hr.er];congr 1;show dA e off cs=(dA pe off v).map PC.er;rw[FV,Cq,a1]
   ·obtain⟨r2,mY,e',r3,r4⟩:=hr.room Z Lr;rw[hg] at r3;injection r3 with r3;injection r3 with r3 _ _;subst r3;obtain⟨Vu,Q,I⟩:=NX (vs:=us) (o:=(G.g n).o+k*d+off) hg jJ;exact⟨r2,Vu,et,Q,by rw[I];exact r4⟩
   ·show N6 B E M ⟨Im',_⟩ px' y;by_cases Y:y=.aQ
    ·rw[Y];intro b hb;rcases oA b hb with f|⟨i,c,hi,f⟩
     ·have L:=hr.mode;rcases iK with⟨_,P,_⟩|⟨hm,_⟩
      ·rw[Y] at P;cases P
      ·cases m with
       |aQ=>exact L b f
       |aS=>exact(L.1 b f).1
       |live=>exact absurd rfl hm
     ·exact Xr i c b hi f
    ·obtain⟨o1,o2,o3,o4,o5⟩:=Xq Y;cases y with
     |aQ=>exact absurd rfl Y
     |aS=>exact⟨fun b hb=>⟨o3 rfl b hb,tr b (o1 b hb).1,(o1 b hb).2⟩,o2⟩
     |live=>
      refine⟨fun b hb=>⟨?_,tr b (o1 b hb).1,(o1 b hb).2⟩,o2⟩;have L:=hr.mode;rcases iK with⟨hm,_,_⟩|⟨hm,l⟩
      ·subst hm;exact(L.1 b (o4 rfl b hb)).1
      ·cases ow
       ·simp at l
       ·simp at l;exact absurd l.symm hm
   ·rcases iK with⟨_,_,_,_,hg2⟩|⟨hm,l⟩
    ·rw[hg2] at hg1;cases hg1
    ·rw[jS] at l;cases ow
     ·simp at l
     ·simp at l;exact absurd l.symm hm
  ·intro D m2 H F hb Y q Hz W qf kU A t ma b eB;injection hb with _ hb _ _;subst hb;exact(Xq Y).2.2.2.2 q Hz W qf kU A t ma b eB
  ·intro D H F hb b eB;injection hb with _ hb _ _;subst hb;have ju:=(Xq (by simp)).2.2.2.1 rfl b eB;have hm:m=.live:=by
    rcases iK with⟨hm,_,_⟩|⟨hm,l⟩
    ·exact hm
    ·cases ow
     ·simp at l
     ·simp at l;exact absurd l.symm hm
   subst hm;exact⟨fun _=>J.live n s d xs V b ju n cC Z,fun q A t Xz=>J.live n s d xs V b ju q t Xz⟩
  ·intro _ _ b hb;obtain⟨q,D,W,H,F,t,u,eB⟩:=hb;exact J.yt cC Z u eB
 refine⟨⟨Im',aV G.g n p'⟩,?_⟩;exact r.step (σ':=σ1.fh n (.row s y d (xs.set k (dA e off cs)))) a6 (fun q t=>by show σ1.used q=true;rw[a7];exact t)
  (cm.trans (u2:=fun n=>σ.used n=true) (fun _ h=>h) a5 K2) (by show HR B E M _ (aV σ1.h n _) σ1.used [];rw[a7];exact Hn) (r.fr.one uJ (fun b hb z=>fv b z) (by show w.heap.size<=M.heap.size;rw[wC];exact zad _) (Jx hg jJ) rfl rfl rfl)
theorem RA.c {x:C} {v:Value} (a:RA w G h (.one (.c x)) v):∃pc:PC,pc.er=x/\pc.val=v/\Good w pc/\∀b,bD b pc->G.Im b:=(a.jp (by simp)).1
theorem RA.H8 {k:IntKind} {n:Int} {v:Value} (d:RA w G h (.one (.c (.int k n))) v):v=.int k n:=by obtain⟨pc,a,b,_⟩:=d.c;cases pc<;>simp[PC.er] at a;obtain⟨rfl,rfl⟩:=a;exact b.symm
theorem RA.Ou {b:Bool} {v:Value} (e:RA w G h (.one (.c (.bool b))) v):v=.bool b:=by obtain⟨pc,a,d,_⟩:=e.c;cases pc<;>simp[PC.er] at a;subst a;exact d.symm
theorem RA.of_int (k:IntKind) (n:Int):RA w G h (.one (.c (.int k n))) (.int k n):=RA.je rfl ⟨.int k n,rfl,rfl,.int _ _,fun b hb=>by cases hb⟩
theorem RA.of_bool (b:Bool):RA w G h (.one (.c (.bool b))) (.bool b):=RA.je rfl ⟨.bool b,rfl,rfl,.bool _,fun b hb=>by cases hb⟩
theorem zj {x:C} {m:Nat}:¬(au.one (.c x)).ref m:=fun h=>h
theorem lf (r:R B E w0 N σ a w G) {x:au} {v:Value} (b:(execOp a.eval o).run P w=.ok (.value v) w) (c:RA w G σ.h x v) (hr:∀m,x.ref m->σ.used m=true) (d:∀n,o.dst=some n->n<N): o.wp P a w (Nx B E w0 N (σ.put o.dst x)) Q:=Bq b ⟨G,r.put c hr d⟩
theorem adW (r:R B E w0 N σ a w G) {x:Operand} {m:MO} (b:o.op=.move x\/o.op=.assign x) (e:∀n,o.dst=some n->n<N) (hm:c8 x m=true): o.wp P a w (Nx B E w0 N (σ.put o.dst (σ.ev m))) Q:=by obtain⟨c,d⟩:=r.ev hm;refine lf r ?_ c d e;rcases b with b|b<;>simp[execOp,b]
theorem aqy (r:R B E w0 N σ a w G) {c x y:Operand} {e mx my:MO} {b:Bool} (k:o.op=.pick c x y) (f:∀n,o.dst=some n->n<N) (j:c8 c e=true) (hx:c8 x mx=true) (hy:c8 y my=true)
  (hb:σ.ev e=.one (.c (.bool b))):o.wp P a w (Nx B E w0 N (σ.put o.dst (if b=true then σ.ev mx else σ.ev my))) Q:=by
 obtain⟨d,_⟩:=r.ev j;rw[hb] at d;have l:=d.Ou;obtain⟨h,g⟩:=r.ev hx;obtain⟨m,i⟩:=r.ev hy;refine lf r (v:=if b=true then a.eval x else a.eval y) ?_ ?_ ?_ f
 ·simp only[execOp,k,l,asBool];cases b<;>simp
 ·cases b
  ·exact m
  ·exact h
 ·cases b
  ·exact i
  ·exact g
theorem azM {op:BinOp} {k:IntKind} {n m:Int} {c:C} {t:TypeId} (hs:BinOp.EX op=false) (hx:GO op k n m=some c):∃v,(binOp op t (.int k n) (.int k m)).run P w=.ok v w/\RA w G h (.one (.c c)) v:=by cases op with|add=>injection hx with hx;subst hx;exact⟨_,by simp[binOp,Op.intArith],RA.of_int _ _⟩|sub=>injection hx with hx;subst hx;exact⟨_,by simp[binOp,Op.intArith],RA.of_int _ _⟩|mul=>injection hx with hx;subst hx;exact⟨_,by simp[binOp,Op.intArith],RA.of_int _ _⟩|and=>injection hx with hx;subst hx;exact⟨_,by simp[binOp,intBits_and],RA.of_int _ _⟩|or=>injection hx with hx;subst hx;exact⟨_,by simp[binOp,intBits_or],RA.of_int _ _⟩|xor=>injection hx with hx;subst hx;exact⟨_,by simp[binOp,intBits_xor],RA.of_int _ _⟩|eql=>injection hx with hx;subst hx;exact⟨_,by simp[binOp,Op.intCmp],RA.of_bool _⟩|neq=>injection hx with hx;subst hx;exact⟨_,by simp[binOp,Op.intCmp],RA.of_bool _⟩|lss=>injection hx with hx;subst hx;exact⟨_,by simp[binOp,Op.intCmp],RA.of_bool _⟩|leq=>injection hx with hx;subst hx;exact⟨_,by simp[binOp,Op.intCmp],RA.of_bool _⟩|gtr=>injection hx with hx;subst hx;exact⟨_,by simp[binOp,Op.intCmp],RA.of_bool _⟩|geq=>injection hx with hx;subst hx;exact⟨_,by simp[binOp,Op.intCmp],RA.of_bool _⟩|quo=>simp only[GO] at hx;split at hx;cases hx;rename_i a;injection hx with hx;subst hx;exact⟨_,by simp[binOp,Op.intDiv,a],RA.of_int _ _⟩|rem=>simp only[GO] at hx;split at hx;cases hx;rename_i a;injection hx with hx;subst hx;exact⟨_,by simp[binOp,Op.intDiv,a],RA.of_int _ _⟩|shl=>simp[BinOp.EX] at hs|shr=>simp[BinOp.EX] at hs|andNot=>cases hx
theorem azT {op:BinOp} {k k':IntKind} {n m:Int} {c:C} {t:TypeId} (hs:BinOp.EX op=true) (hx:Np op k n m=some c):∃v,(binOp op t (.int k n) (.int k' m)).run P w=.ok v w/\RA w G h (.one (.c c)) v:=by unfold Np at hx;split at hx;cases hx;rename_i a;cases op<;>simp[BinOp.EX] at hs;injection hx with hx;subst hx;exact⟨_,by simp[binOp,Op.shift,a],RA.of_int _ _⟩;injection hx with hx;subst hx;have hp:(0:Int)<=2^min m.toNat k.bits:=Int.le_of_lt (Int.pow_pos (by decide));exact⟨_,by simp[binOp,Op.shift,a,Int.fdiv_eq_ediv_of_nonneg _ hp],RA.of_int _ _⟩
theorem akr (op:BinOp) (t:TypeId) (x y:Operand) (k k':IntKind) (n m:Int):(eqGuard op t x y (.int k n) (.int k' m)).run P w=.ok () w:=by cases op<;>simp[eqGuard]
theorem ap7 (r:R B E w0 N σ a w G) {op:BinOp} {t t':TypeId} {x y:Operand} {mx my:MO} {c:C} (l:o.op=.binOp op t x y t') (g:∀n,o.dst=some n->n<N) (hx:c8 x mx=true) (hy:c8 y my=true) (hb:BU op (σ.ev mx) (σ.ev my)=some c):o.wp P a w (Nx B E w0 N (σ.put o.dst (.one (.c c)))) Q:=by obtain⟨j,_⟩:=r.ev hx;obtain⟨p,_⟩:=r.ev hy;unfold BU at hb;split at hb;rename_i k n k' m u z;rw[u] at j;rw[z] at p;have i:=j.H8;have f:=p.H8;split at hb;rename_i hs;obtain⟨v,e,d⟩:=azT (P:=P) (w:=w) (G:=G) (h:=σ.h) (k':=k') (t:=t) hs hb;exact lf r (by simp only[execOp,l,i,f];simp[akr,e]) d (fun q b=>absurd b zj) g;rename_i hs;split at hb;rename_i s;subst s;obtain⟨v,e,d⟩:=azM (P:=P) (w:=w) (G:=G) (h:=σ.h) (t:=t) (by simpa using hs) hb;exact lf r (by simp only[execOp,l,i,f];simp[akr,e]) d (fun q b=>absurd b zj) g;cases hb;cases hb
theorem aqC (r:R B E w0 N σ a w G) {op:UnOp} {t:TypeId} {x:Operand} {mx:MO} {c:C} (g:o.op=.unOp op t x) (h:∀n,o.dst=some n->n<N) (hx:c8 x mx=true) (hb:Jt op (σ.ev mx)=some c):o.wp P a w (Nx B E w0 N (σ.put o.dst (.one (.c c)))) Q:=by obtain⟨b,_⟩:=r.ev hx;unfold Jt at hb;split at hb;rename_i n f;rw[f] at b;have d:=b.Ou;split at hb;injection hb with hb;subst hb;exact lf r (by simp only[execOp,g,d];simp[Op.unary]) (RA.of_bool _) (fun q e=>absurd e zj) h;cases hb;rename_i k n f;rw[f] at b;have d:=b.H8;split at hb;injection hb with hb;subst hb;exact lf r (by simp only[execOp,g,d];simp[Op.unary,Op.intArith]) (RA.of_int _ _) (fun q e=>absurd e zj) h;cases hb;cases hb
theorem aqh (r:R B E w0 N σ a w G) {t u:TypeId} {x:Operand} {mx:MO} {k k':IntKind} {n:Int} {d:TypeDesc} (h:o.op=.convert t u x) (e:∀n,o.dst=some n->n<N) (hx:c8 x mx=true) (i:P.underlying t=some d) (j:P.underlying u=some (.int k)) (hb:σ.ev mx=.one (.c (.int k' n))):o.wp P a w (Nx B E w0 N (σ.put o.dst (.one (.c (.int k (k.wrap n)))))) Q:=by obtain⟨b,_⟩:=r.ev hx;rw[hb] at b;have f:=b.H8;refine lf r ?_ (RA.of_int _ _) (fun q g=>absurd g zj) e;simp only[execOp,h,f];cases d<;>simp[convert,run_underlying i,run_underlying j,Conv.intToInt]
def OK (P:Program) (s:TypeId) (f off:Nat):Bool:=
 match P.underlying s with
 |some (.struct B8)=>match B8[f]? with
  |some fd=>(fd.offset==off)&&(match P.info? fd.type with|some i=>i.size !=0|none=>false)
  |none=>false
 |_=>false
theorem ZQ {s:TypeId} {f off:Nat} (a:OK P s f off=true) (b o:Nat):(Instr.fieldAt s (.pointer (some (ad b o))) f).run P w=.ok (.pointer (some (ad b (o+off)))) w:=by unfold OK at a;split at a;rename_i B8 e;split at a;rename_i fd c;split at a;rename_i i hi;simp at a;obtain⟨rfl,d⟩:=a;simp[Instr.fieldAt,run_underlying e,c,Instr.sureAddr,fieldPlace,sizeOf,typeInfo,hi,d,ud];simp at a;cases a;cases a
theorem VM (r:R B E w0 N σ a w G) {s:TypeId} {f off:Nat} {x:Operand} {mx:MO} {y:au} (u:o.op=.fieldAddr s x f) (l:∀n,o.dst=some n->n<N) (hx:c8 x mx=true) (t:OK P s f off=true) (hy:(∃n k sz q,σ.ev mx=.one (.ptr n k sz q)/\(σ.h n).isSome=true/\y=.one (.ptr n k sz (q+off)))\/(∃xs q,σ.ev mx=.one (.dN xs q)/\y=.one (.dN xs (q+off)))\/(∃xs q j n s len,σ.ev mx=.one (.dh xs q j n s len)/\y=.one (.dh xs (q+off) j n s len))): o.wp P a w (Nx B E w0 N (σ.put o.dst y)) Q:=by obtain⟨c,i⟩:=r.ev hx;rcases hy with⟨n,k,sz,q,e,hs,rfl⟩|⟨xs,q,e,rfl⟩|⟨xs,q,j,n,s',len,e,rfl⟩;rw[e] at c i;have hp:σ.h n≠none:=(by intro D;rw[D] at hs;cases hs);obtain⟨F,C⟩:=(c.jp (by simp)).1 hp;refine lf r (v:=.pointer (some (ad (G.g n).b ((G.g n).o+k*sz+q+off)))) ?_ ?_ (fun m hm=>i m hm) l;simp only[execOp,u,C];simp[ZQ t];exact RA.je rfl fun _=>⟨F,by rw[Pd]⟩;rw[e] at c;obtain⟨b,d,pe,p1,p,z,p4⟩:=(c.jp (by simp)).1;refine lf r (v:=.pointer (some (ad b (d+q+off)))) ?_ ?_ (fun m hm=>absurd hm (by simp[au.ref,aj.ref,aj.j4])) l;simp only[execOp,u,p1];simp[ZQ t];exact RA.je rfl ⟨b,d,pe,by rw[Pd],p,z,p4⟩;rw[e] at c i;obtain⟨b,d,pe,p1,p,z,p4,A⟩:=(c.jp (by simp)).1;refine lf r (v:=.pointer (some (ad b (d+q+off)))) ?_ ?_ (fun m hm=>i m hm) l;simp only[execOp,u,p1];simp[ZQ t];exact RA.je rfl ⟨b,d,pe,by rw[Pd],p,z,p4,A⟩
theorem VN (r:R B E w0 N σ a w G) {x:Operand} {mx:MO} (i:o.op=.nilCheck x) (e:∀n,o.dst=some n->n<N) (hx:c8 x mx=true) (hy:(∃n k sz q,σ.ev mx=.one (.ptr n k sz q)/\(σ.h n).isSome=true)\/(∃xs q,σ.ev mx=.one (.dN xs q))\/(∃xs q j n s len,σ.ev mx=.one (.dh xs q j n s len))): o.wp P a w (Nx B E w0 N (σ.put o.dst (σ.ev mx))) Q:=by obtain⟨c,f⟩:=r.ev hx;have hp:∃ad,a.eval x=.pointer (some ad):=(by rcases hy with⟨n,k,sz,q,d,hs⟩|⟨xs,q,d⟩|⟨xs,q,j,n,s',len,d⟩;rw[d] at c;have hp:σ.h n≠none:=(by intro g;rw[g] at hs;cases hs);exact⟨_,((c.jp (by simp)).1 hp).2⟩;rw[d] at c;obtain⟨b,l,pe,p1,_⟩:=(c.jp (by simp)).1;exact⟨_,p1⟩;rw[d] at c;obtain⟨b,l,pe,p1,_⟩:=(c.jp (by simp)).1;exact⟨_,p1⟩);obtain⟨adr,hp⟩:=hp;exact lf r (v:=a.eval x) (by simp only[execOp,i,hp];simp) c f e
theorem aqn (r:R B E w0 N σ a w G) {x:Operand} {mx:MO} {i:Nat} {xs:List (Bool×List aj)} {ag:Bool} {cs:List aj} (q:o.op=.extract x i) (k:∀n,o.dst=some n->n<N) (hx:c8 x mx=true) (l:σ.ev mx=.ct xs) (d:xs[i]? =some (ag,cs)) (h:ag=false->∃c,cs=[c]):o.wp P a w (Nx B E w0 N (σ.put o.dst (rT ag cs))) Q:=by obtain⟨g,f⟩:=r.ev hx;rw[l] at g f;obtain⟨vs,e,hl,s⟩:=g;have hi:i<vs.length:=(by rw[hl];exact(wt.1 d).1);have j:vs[i]? =some vs[i]:=AI hi;have b:=s i _ _ d j;refine lf r (v:=vs[i]) ?_ ?_ (fun m hm=>?_) k;simp only[execOp,q,e];simp[Instr.extract,hi];cases ag;obtain⟨c,rfl⟩:=h rfl;exact .inr b;exact b;cases ag;obtain⟨c,rfl⟩:=h rfl;exact f m ⟨_,co d,c,by simp,hm⟩;obtain⟨c,p,hm⟩:=hm;exact f m ⟨_,co d,c,p,hm⟩
theorem aqt (r:R B E w0 N σ a w G) {mx':Bool} {x y:Operand} {mx my:MO} {k k':IntKind} {n m:Int} {ts:Array TypeId} (f:o.op=.call {callee:=.builtin (if mx'=true then .max else .min),args:=#[x,y],argTypes:=ts}) (h:∀n,o.dst=some n->n<N) (hx:c8 x mx=true) (hy:c8 y my=true) (l:σ.ev mx=.one (.c (.int k n))) (j:σ.ev my=.one (.c (.int k' m))): o.wp P a w (Nx B E w0 N (σ.put o.dst (.one (.c (.int k (if mx'=true then(if n<m then m else n) else(if m<n then m else n))))))) Q:=by obtain⟨e,_⟩:=r.ev hx;obtain⟨g,_⟩:=r.ev hy;rw[l] at e;rw[j] at g;have d:=e.H8;have b:=g.H8;refine lf r ?_ (RA.of_int _ _) (fun q i=>absurd i zj) h;cases mx';simp[execOp,f,resolve,invoke,builtin,Builtin.min_,d,b,Builtin.min2];simp[execOp,f,resolve,invoke,builtin,Builtin.max_,d,b,Builtin.max2]
end
theorem yb {α:Type} {px py:List (List α)} {k j:Nat} {c:α} (h:At (px++py) k j c):(k<px.length/\At px k j c)\/(px.length<=k/\At py (k - px.length) j c):=by obtain⟨e,b,hj⟩:=h;rcases zbe k px.length with a|a;rw[AT a] at b;exact .inl ⟨a,e,b,hj⟩;rw[By a] at b;exact .inr ⟨a,e,b,hj⟩
theorem A8 {b:Nat} {px py:List (List PC)} (h:bF b (px++py)):bF b px\/bF b py:=by obtain⟨k,j,c,d,hb⟩:=h;rcases yb d with⟨_,a⟩|⟨_,a⟩;exact .inl ⟨_,_,_,a,hb⟩;exact .inr ⟨_,_,_,a,hb⟩
theorem Rj {px py:List (List PC)} (g:lK px) (f:lK py) (l:∀b,bF b px->¬bF b py):lK (px++py):=by refine⟨fun k j c d=>?_,fun k j c k' j' c' b d n i hb a=>?_⟩;rcases yb d with⟨_,h⟩|⟨_,h⟩;exact g.1 _ _ _ h;exact f.1 _ _ _ h;rcases yb d with⟨q,h⟩|⟨q,h⟩<;>rcases yb n with⟨m,h'⟩|⟨m,h'⟩;exact g.2 _ _ _ _ _ _ b h h' i hb a;exact l b ⟨_,_,_,h,hb⟩ ⟨_,_,_,h',a⟩;exact l b ⟨_,_,_,h',a⟩ ⟨_,_,_,h,hb⟩;refine f.2 _ _ _ _ _ _ b h h' (fun e=>i ?_) hb a;injection e with e1 e2;rw[show k=k' by omega,e2]
section
variable {B N:Nat} {E:Ex} {w0 w w':World} {G G':Gh} {h h':Nat->Option aA} {used used':Nat->Bool} {tk:List PC} {P:Program} {o:Oper} {a:Act} {σ σ':St} {Q:Exit->Act->World->Prop}
theorem I0 {py:List (List PC)} (hs:iV (py.map fun e=>e.map PC.er)=true) (b:Nat):¬bF b py:=by rintro⟨k,j,c,⟨e,a,hj⟩,hb⟩;have d:e.map PC.er∈py.map fun e=>e.map PC.er:=zae (f:=fun e=>e.map PC.er) (co a);have h:=IT.1 hs _ d;have g:=IT.1 h c.er (zae (co hj));exact(Sep.lE (pc:=c) g).2 b hb
theorem alX {py:List (List PC)} (hs:iV (py.map fun e=>e.map PC.er)=true) (k j:Nat) (c:PC) (b:At py k j c):wL w c:=by obtain⟨e,a,hj⟩:=b;have d:=IT.1 hs _ (zae (f:=fun e=>e.map PC.er) (co a));exact wL.lE (IT.1 d c.er (zae (co hj)))
structure qk (B:Nat) (E:Ex) (w:World) (G:Gh) (h:Nat->Option aA) (sz:Nat) (m:Mode) (px:List (List PC)):Prop where
 len:∀e∈px,e.length=sz
 hZ:∀k j c,At px k j c->Good w c
 mode:N6 B E w G px m
 ji:m≠ .aQ->∀n gr m' ba aH,h n=some (.row gr m' ba aH)->m'≠ .aQ->∀b,bF b px->¬bF b (G.g n).px
 live:m=.live->∀b,bF b px->∀n,h n≠none->(G.g n).nl=false->b≠(G.g n).b
 nr:m=.live->wM w sz px
theorem qk.ach {m:Mode} {sz:Nat} {px py:List (List PC)} (F:qk B E w G h sz m px) (hl:∀e∈py,e.length=sz) (i:∀k j c,At py k j c->Good w c) (d:∀b,¬bF b py) (r:∀k j c,At py k j c->wL w c):qk B E w G h sz m (px++py):=by have f:∀b,bF b (px++py)->bF b px:=fun b hb=>(A8 hb).resolve_right (d b);refine⟨fun e q=>(zak.1 q).elim (F.len e) (hl e),fun k j c a=>?_,?_,fun hm n t o l s hn p b hb=>F.ji hm n t o l s hn p b (f b hb),fun hm b hb=>F.live hm b (f b hb),fun hm k c a=>(yb a).elim (fun h=>F.nr hm _ _ h.2) (fun h=>r _ _ _ h.2)⟩;rcases yb a with⟨_,h⟩|⟨_,h⟩;exact F.hZ _ _ _ h;exact i _ _ _ h;have g:lK py:=⟨fun k j c a=>Sep.Fq (fun b hb=>d b ⟨k,j,c,a,hb⟩) (i k j c a),fun k j c k' j' c' b a _ _ hb=>absurd ⟨k,j,c,a,hb⟩ (d b)⟩;have hm:=F.mode;cases m with|aQ=>exact fun b hb=>hm b (f b hb)|aS=>exact⟨fun b hb=>hm.1 b (f b hb),Rj hm.2 g (fun b _=>d b)⟩|live=>exact⟨fun b hb=>hm.1 b (f b hb),Rj hm.2 g (fun b _=>d b)⟩
theorem qk.Zc (H:HR B E w G h used []) {n:Nat} {d:Bool} {m:Mode} {sz:Nat} {xs:List (List C)} (hn:h n=some (.row d m sz xs)) (x:m=.live->d=true):qk B E w G (aV h n none) sz m (G.g n).px:=by have hr:=H.row n d m sz xs hn;have p:(G.g n).px≠[]->(G.g n).nl=false:=fun i=>(by cases a:(G.g n).nl with|false=>rfl|true=>exact absurd (hr.nl a).1 i);refine⟨fun e f=>(hr.f6 (p (zaY f))).2.1.1 e f,fun k j c r=>?_,hr.mode,fun hm q y t s v a u b hb=>?_,fun hm b hb q a hl=>?_,fun hm=>hr.nr (x hm) hm⟩;have i:(G.g n).px≠[]:=(by obtain⟨e,f,_⟩:=r;exact zaY (co f));exact(hr.f6 (p i)).2.1.2.2 k j c r;obtain⟨l,o⟩:=wY a;exact H.ji n q d m sz xs y t s v hn l hm u (zaJ o) b hb;subst hm;obtain⟨l,o⟩:=KG a;exact H.live n d sz xs hn b hb q l hl
theorem qk.del {m:Mode} {sz:Nat} {px:List (List PC)} (F:qk B E w G h sz m px) (n:Nat):qk B E w G (aV h n none) sz m px:= ⟨F.len,F.hZ,F.mode,fun hm q e f c d a g=>F.ji hm q e f c d (wY a).1 g,fun hm b hb q a=>F.live hm b hb q (KG a).1,F.nr⟩
theorem qk.abl {m:Mode} {sz:Nat} {px:List (List PC)} (F:qk B E w G h sz m px) (hm:m≠ .live):∀b,bF b px->G.Im b:=by intro b hb;have:=F.mode;cases m with|aQ=>exact this b hb|aS=>exact(this.1 b hb).1|live=>exact absurd rfl hm
def DO (B:Nat) (E:Ex) (w:World) (G:Gh) (h:Nat->Option aA) (sz:Nat) (m:Mode) (px:List (List PC)) (v:Value):Prop:=
 (∃a,v=.slice a 0 0/\px=[])\/
 ∃b o cap cur e,v=.slice (some (ad b o)) px.length cap/\w.heap[b]? =some (.cells cur e (0,0))/\cur.size=o+cap*sz/\cap<=maxLen/\px.length<=cap/\sY w b o sz px/\
  t9 G h b/\(B<=b\/E b)/\(∀b',bF b' px->b'≠b)
theorem DO.del {m:Mode} {sz:Nat} {px:List (List PC)} {v:Value} (L:DO B E w G h sz m px v) (n:Nat):DO B E w G (aV h n none) sz m px v:=by rcases L with k|⟨b,o,cap,cur,e,g,l,f,c,d,i,⟨l1,l2,j⟩,r,s⟩;exact .inl k;exact .inr ⟨b,o,cap,cur,e,g,l,f,c,d,i,⟨l1,fun q a=>l2 q (KG a).1,fun q p m sz xs a=>j q p m sz xs (wY a).1⟩,r,s⟩
theorem VV {px:List (List PC)} {sz:Nat} (hl:∀e∈px,e.length=sz):(px.flatten.map PC.val).length=px.length*sz:=by induction px with|nil=>simp|cons e px b=>have:=b (fun e a=>hl e (by simp[a]));simp only[zao,zax,zat,zaq,GB,this,zaj] at*;rw[hl e (by simp)];omega
theorem VU {α:Type} {sz:Nat} (b:0<sz):∀{px:List (List α)} (_:∀e∈px,e.length=sz) {i:Nat} {c:α},px.flatten[i]? =some c->∃k j,At px k j c/\i=k*sz+j
 |[],_,i,c,hi=>by simp at hi
 |e::px,hl,i,c,hi=>by have h0:=hl e (by simp);simp only[zao] at hi;rcases zbe i e.length with d|g;rw[AT d] at hi;exact⟨0,i,⟨e,rfl,hi⟩,by omega⟩;rw[By g] at hi;obtain⟨k,j,⟨f,a,hj⟩,hk⟩:=VU b (px:=px) (fun e a=>hl e (by simp[a])) hi;exact⟨k+1,j,⟨f,by simpa using a,hj⟩,by rw[GB];omega⟩
theorem azL {t ty e k:TypeId} {i:TypeInfo} (s:P.underlying t=some (.slice e)) (hi:P.info? e=some i) (g f b h:Nat) (cur:Array Value) (r:w.heap[g]? =some (.cells cur k (0,0))) (a:Addr) (m c:Nat) (d:List Value) (hl:d.length=m*i.size) (p:∀j u,d[j]? =some u->w.cell? (a.add j)=some u) (q:∀u∈d,u.oneCell'=true) (o:b+m<=h) (v:f+b*i.size+d.length<=cur.size): (Builtin.append_ #[t,t] ty #[.slice (some (ad g f)) b h,.slice (some a) m c]).run P w=.ok (.slice (some (ad g f)) (b+m) h) (iW w g (f+b*i.size) d cur):=by have n:=run_firstCells_some (P:=P) w i.size m a m c d hl p;have l:=run_storeCells_at P g (f+b*i.size) k d 0 cur w r (by simpa using v) q;simp only[zaA] at l;have ha:(ad g f).add (b*i.size)=⟨g,f+b*i.size,none⟩:=(by rw[ud];simp[ad]);simp[Builtin.append_,run_underlying s,sizeOf,typeInfo,hi,Builtin.lenOf,o,n,ha,l,iW]
theorem azK (w:World) {t e:TypeId} {i:TypeInfo} {z:Value} {ty:TypeId} {sz dW:Nat} (s:P.underlying t=some (.slice e)) (hi:P.info? e=some i) (H:i.zero=some z) (p:i.size=sz) (nT:0<sz) (F:i.bytes=dW) (Y:0<dW) {m:Mode} {px:List (List PC)} {v:Value} (T:∀e∈px,e.length=sz) (L:DO B E w G h sz m px v) {d:List Value} {k c:Nat} {ya:Option Addr} (n:d.length=k*sz) (hy:(ya=none/\k=0)\/∃l,ya=some l/\∀(j:Nat) (u:Value),d[j]? =some u->w.cell? (l.add j)=some u) (h1:∀u∈d,u.oneCell'=true) (hb:(px.length+k)*dW<=gH): (∃a,k=0/\v=.slice a 0 0/\px=[]/\(Builtin.append_ #[t,t] ty #[v,.slice ya k c]).run P w=.ok (.slice a 0 0) w)\/ (∃b o cap cur D,v=.slice (some (ad b o)) px.length cap/\w.heap[b]? =some (.cells cur D (0,0))/\cur.size=o+cap*sz/\cap<=maxLen/\px.length+k<=cap/\sY w b o sz px/\t9 G h b/\(B<=b\/E b)/\(∀U,bF U px->U≠b)/\ (Builtin.append_ #[t,t] ty #[v,.slice ya k c]).run P w=.ok (.slice (some (ad b o)) (px.length+k) cap) (iW w b (o+px.length*sz) d cur))\/ (∃(cap:Nat) (arr:Array Value),px.length+k<=cap/\cap<=maxLen/\arr.size=cap*z.cells.size+(px.length+k)*sz - (px.length+k)*z.cells.size/\(∀(q:Nat) (u:Value),(px.flatten.map PC.val++d)[q]? =some u->arr[q]? =some u)/\ (Builtin.append_ #[t,t] ty #[v,.slice ya k c]).run P w=.ok (.slice (some (ad w.heap.size 0)) (px.length+k) cap) (w.drew.alloc (.cells arr e))):=by have O:px.length+k<=gH:=zau (zas _ Y) hb;have mE:(gH:Nat)=140737488355328:=rfl;have N:∀g,grownCap w (px.length+k) g e<=maxLen:=fun g=>grownCap_le_maxLen w _ g e (by simp only[maxLen];omega);have x:=VV T;have M:∀g,((px.flatten.map PC.val).toArray++d.toArray++Builtin.zeroCells z.cells (grownCap w (px.length+k) g e - (px.length+k))).size=grownCap w (px.length+k) g e*z.cells.size+(px.length+k)*sz - (px.length+k)*z.cells.size:=(by intro g;have Lo:=grownCap_ge w (px.length+k) g e;have h2:(px.length+k)*z.cells.size<=grownCap w (px.length+k) g e*z.cells.size:=BY _ Lo;simp only[za2,zaD,size_zeroCells,x,n,Nat.sub_mul,GB] at*;omega);have J:∀g (q:Nat) (u:Value),(px.flatten.map PC.val++d)[q]? =some u->((px.flatten.map PC.val).toArray++d.toArray++Builtin.zeroCells z.cells (grownCap w (px.length+k) g e - (px.length+k)))[q]? =some u:=(by intro g q u f;have Xz:=(wt.1 f).1;rw[Array.getElem?_append_left (by simp only[za2,zaD];simpa using Xz)];simpa using f);rcases L with⟨a,rfl,rfl⟩|⟨b,o,cap,cur,D,rfl,K,Q,V,X,R,W,a8,a9⟩;by_cases S:k=0;subst S;left;have hn:d=[]:=AN (by simpa using n);refine⟨a,rfl,rfl,rfl,?_⟩;cases ya<;>cases a<;>simp[Builtin.append_,run_underlying s,sizeOf,typeInfo,hi,Builtin.lenOf,Builtin.firstCells,loadCells,loadCellsFrom,storeCells];rcases hy with⟨_,Z⟩|⟨l,rfl,r⟩;exact absurd Z S;right;right;(cases a with|none=>have hr:=run_append_nil (P:=P) w t ty e i z s hi H l k c d (by rw[p];exact n) r (by omega) (by simp only[zaf,IS] at O;omega) (by rw[F];simp only[zaf,IS] at hb;omega);have C:=M 0;have y:=J 0;have A:=N 0;simp only[zaf,IS,za5,zaN,zam] at C y A⊢;exact⟨grownCap w k 0 e,d.toArray++Builtin.zeroCells z.cells (grownCap w k 0 e - k),grownCap_ge w k 0 e,A,by simpa using C,fun q u f=>by simpa using y q u f,hr⟩|some a=>have hr:=run_append_grow (P:=P) w t ty e i z s hi H a 0 0 [] (by simp) (fun q u f=>by simp at f) l k c d (by rw[p];exact n) r (by omega) (by simp only[zaf,IS] at O;omega) (growslice_fits (by simp only[zaf,IS] at O;omega) (by rw[F,IS];rw[zaf,IS] at hb;exact hb));have C:=M 0;have y:=J 0;have A:=N 0;simp only[zaf,IS,za5,zaN,zam] at C y A hr⊢;exact⟨_,_,grownCap_ge w k 0 e,A,by simpa using C,fun q u f=>by simpa using y q u f,hr⟩);by_cases I:px.length+k<=cap;right;left;refine⟨b,o,cap,cur,D,rfl,K,Q,V,I,R,W,a8,a9,?_⟩;rcases hy with⟨rfl,rfl⟩|⟨l,rfl,r⟩;have hn:d=[]:=AN (by simpa using n);subst hn;have An:iW w b (o+px.length*sz) [] cur=w:=(by unfold iW;simp only[za8,zaf,zaA,List.take_append_drop,Array.toArray_toList];exact setRow_self w b cur D (0,0) K);rw[An];simp[Builtin.append_,run_underlying s,sizeOf,typeInfo,hi,Builtin.lenOf,Builtin.firstCells,X,storeCells];have hr:=azL (P:=P) (w:=w) (ty:=ty) s hi b o px.length cap cur K l k c d (by rw[p];exact n) r h1 I (by rw[p,n,Q,Pd,<-GB];exact zaT (BY _ I) _);rw[p] at hr;exact hr;rcases hy with⟨_,rfl⟩|⟨l,rfl,r⟩;omega;right;right;have hr:=run_append_grow (P:=P) w t ty e i z s hi H (ad b o) px.length cap (px.flatten.map PC.val) (by rw[p];exact x) (fun q u f=>by rw[so] at f;cases hf:px.flatten[q]? with|none=>rw[hf] at f;cases f|some pc=>rw[hf] at f;simp at f;subst f;obtain⟨k',j',rp,rfl⟩:=VU nT T hf;rw[ud,<-Pd];exact R.2.1 k' j' pc rp) l k c d (by rw[p];exact n) r (by omega) (by omega) (growslice_fits (by omega) (by rw[F];exact hb));exact⟨_,_,grownCap_ge w _ _ _,N _,M _,J _,hr⟩
def BP (w:World) (sz:Nat) (py:List (List PC)) (v:Value):Prop:=
 (∀e∈py,e.length=sz)/\(∀k j c,At py k j c->Good w c)/\
 ∃ya c,v=.slice ya py.length c/\((ya=none/\py.length=0)\/∃ay,ya=some ay/\∀(j:Nat) (u:Value),(py.flatten.map PC.val)[j]? =some u->w.cell? (ay.add j)=some u)
theorem BP.ai4 {sz:Nat} {ya:Option Addr} {c:Nat} {py:List (List PC)} (i:Good w (.list sz ya c py)):BP w sz py (.slice ya py.length c):=by cases i with|nil _ _ _ h=>refine⟨by simp,by rintro k j c ⟨e,g,_⟩;simp at g,ya,c,rfl,?_⟩;(cases ya with|none=>exact .inl ⟨rfl,rfl⟩|some m=>exact .inr ⟨m,rfl,by simp⟩)|cons _ b o _ _ h1 h2 n a l d=>refine⟨a,d,_,c,rfl,.inr ⟨_,rfl,fun j u hj=>?_⟩⟩;rw[so] at hj;cases hf:py.flatten[j]? with|none=>rw[hf] at hj;cases hj|some pc=>rw[hf] at hj;simp at hj;subst hj;obtain⟨k',p,f,rfl⟩:=VU n a hf;rw[ud,<-Pd];exact l k' p pc f
theorem R.aoc (r:R B E w0 N σ a w G) {σ2:St} (EA:σ2.env=σ.env) (M:σ2.used=σ.used) (H:HR B E w G σ2.h σ.used []) (K:cm w G σ.h (fun n=>σ.used n=true) w G σ2.h) {n:Nat} {sz dW:Nat} {m m2:Mode} {px py:List (List PC)} {v yv:Value} (hn:σ.used n=false) (Y:0<sz) (F:qk B E w G σ2.h sz m2 (px++py)) (jU:∀e∈px,e.length=sz) (L:DO B E w G σ2.h sz m px v) (Ry:BP w sz py yv) (EH:∀b,bF b py->∀b' o cap,0<cap->v=.slice (some (ad b' o)) px.length cap->t9 G σ2.h b'->b≠b') {t e:TypeId} {i:TypeInfo} {z:Value} {ty:TypeId} (ht:P.underlying t=some (.slice e)) (hi:P.info? e=some i) (hz:i.zero=some z) (cY:i.size=sz) (tj:i.bytes=dW) (Ew:0<dW) (EO:z.cells.size=sz) (hb:(px.length+py.length)*dW<=gH): ∃u w' G',(Builtin.append_ #[t,t] ty #[v,yv]).run P w=.ok u w'/\ R B E w0 N {σ2 with h:=aV σ2.h n (some (.row true m2 sz ((px++py).map fun e=>e.map PC.er))),used:=aV σ2.used n true} a w' G'/\ RA w' G' (aV σ2.h n (some (.row true m2 sz ((px++py).map fun e=>e.map PC.er)))) (.one (.sl n sz 0 (px.length+py.length))) u:=by obtain⟨r1,r2,ya,c,rfl,r3⟩:=Ry;have bk:(py.flatten.map PC.val).length=py.length*sz:=VV r1;have h1:∀u∈py.flatten.map PC.val,u.oneCell'=true:=fun u X=>(by obtain⟨pc,_,rfl⟩:=Pe.1 X;exact PC.od pc);have hB:=r.fr.size;have U:(px++py).length=px.length+py.length:=(by simp);have WV:σ2.h n=none:=(by cases hh:σ2.h n with|none=>rfl|some b=>have:=H.lc n (by rw[hh];simp);rw[hn] at this;cases this);have ne:∀q,σ.used q=true->q≠n:=fun q d e=>(by subst e;rw[hn] at d;cases d);have aJ:∀q,σ2.h q≠none->q≠n:=fun q d e=>(by subst e;exact d WV);rcases azK (P:=P) w (ty:=ty) ht hi hz cY Y tj Ew jU L bk r3 h1 hb with⟨a0,k0,rfl,rfl,S⟩|⟨b,I,cap,cur,e',rfl,O,b3,b4,b5,b6,J,b8,b9,S⟩|⟨cap,arr,c1,c2,c3,c4,S⟩;have hpy:py=[]:=AN k0;subst hpy;refine⟨_,w,⟨G.Im,aV G.g n ⟨true,0,0,0,[],a0⟩⟩,S,?_,?_⟩;refine r.step (σ':=_) EA (fun q d=>by show aV σ2.used n true q=true;rw[M];exact xS n q d) (cm.trans (u2:=fun n=>σ.used n=true) (fun _ h=>h) K (cm.insert H (blk:=.row true m2 sz []) (p:=⟨true,0,0,0,[],a0⟩) hn (fun _ _=>rfl))) ?_ r.fr;show HR B E w _ (aV σ2.h n (some (.row true m2 sz []))) (aV σ2.used n true) [];rw[M];have dK:∀b,¬bF b ([]:List (List PC)):=(by rintro b ⟨k,j,c,⟨e,y,_⟩,_⟩;simp at y);refine H.insert (p:=⟨true,0,0,0,[],a0⟩) hn (fun _ _=>rfl) (zad _) (fun h=>by cases h) (fun cs c m hb=>by cases hb) ⟨Y,rfl,fun _=>⟨rfl,fun _=>rfl⟩,(fun h=>by cases h),(fun h=>by cases h),?_,fun _ hm=>by have:=F.nr hm;simpa using this⟩ (fun s m sz xs _ _ n' V m' D C _ _ b hb=>absurd hb (dK b)) (fun s sz xs _ b hb=>absurd hb (dK b)) (fun s m sz xs _ _ i pc b hi=>by simp at hi);have hm:=F.mode;simp only[za8] at hm;exact hm;refine RA.je rfl fun _=>.inl ?_;simp[cX];have PN:(I+px.length*sz)+(py.flatten.map PC.val).length<=cur.size:=(by rw[bk,b3,Pd,<-GB];exact zaT (BY _ b5) _);let A:=iW w b (I+px.length*sz) (py.flatten.map PC.val) cur;have fv:∀x,x≠b->A.heap[x]? =w.heap[x]? :=fun x hx=>F9 x hx;have Eu:∀x,G.Im x->x≠b:=fun x hx y=>J.1 (y▸hx);have W:∀x,fA w x->fA A x:=fun x hx=>NY O PN x hx;have Xo:∀x,bF x (px++py)->x≠b:=fun x hx=>(A8 hx).elim (b9 x) (fun h=>EH x h b I cap (by obtain⟨k,j,c,⟨e,y,_⟩,_⟩:=h;have:=(wt.1 y).1;omega) rfl J);let p:PB:=⟨false,b,I,cap,px++py,none⟩;have K2:cm w G σ2.h (fun n=>σ.used n=true) A ⟨G.Im,aV G.g n p⟩ (aV σ2.h n (some (.row true m2 sz ((px++py).map fun e=>e.map PC.er)))):=(by refine⟨fun _ h=>h,fun x hx o=>kx (fv x (Eu x hx)) o,fun q d f=>?_,fun q s D C d f=>?_⟩;rw[dJ _ _ _ _ (ne q d)] at f;simp only[dJ _ _ _ _ (ne q d)];exact⟨f,trivial,trivial,trivial,trivial,trivial⟩;rw[dJ _ _ _ _ (ne q d)] at f;simp only[dJ _ _ _ _ (ne q d)];exact⟨⟨s,C,f⟩,fun k j pc h1 h2=>⟨pc,h1,rfl,h2⟩⟩);have arL:b<w.heap.size:=(zap.1 O).1;have Hn:HR B E A ⟨G.Im,aV G.g n p⟩ (aV σ2.h n (some (.row true m2 sz ((px++py).map fun e=>e.map PC.er)))) (aV σ.used n true) []:=(by refine H.put (p:=p) (fun x _ hx=>fv x (hx rfl)) (by show w.heap.size<=A.heap.size;rw[wC];exact zad _) (fun x _ hx=>W x hx) (fun q d=>xS n q d) (cX _ _ _) (fun _=>⟨J.1,b8,by show b<A.heap.size;rw[wC];exact arL⟩) (fun _ q d f hl=>J.2.1 q f hl) (fun _ q s D C d f x hx y=>J.2.2 q s .live D C f (by have Ci:x=b:=y;rw[<-Ci];exact hx)) (fun cs c q hb=>by cases hb) K2 ?_ ?_ ?_ (fun s m sz xs _ _ i pc b hi=>by simp at hi) (fun _ _ x hx y=>by obtain⟨q,s,T,D,C,_,f,hxF⟩:=hx;exact J.2.2 q s T D C f (by have Ci:x=b:=y;rw[<-Ci];exact hxF));refine⟨Y,rfl,(fun h=>by cases h),fun _=>⟨W b ⟨cur,e',O⟩,⟨F.len,fun k j c l=>?_,fun k j c l=>?_⟩,by show(px++py).length<=cap;rw[U];exact b5⟩,fun _ _=>?_,?_,fun _ hm=>(F.nr hm).congr fun x hx=>fv x (Xo x hx)⟩;show A.cell? (ad b (I+k*sz+j))=some c.val;rw[Jw O PN];have Q:=zK F.len l;rw[zaU] at Q;have pg:px.flatten.length=px.length*sz:=(by have:=VV jU;rwa[zaj] at this);rcases yb l with⟨uH,dC⟩|⟨uH,dC⟩;rw[ak ?_];exact b6.2.1 k j c dC;rintro⟨q1,_⟩;have hj:j<sz:=(by obtain⟨e1,y,hj⟩:=dC;rw[<-jU e1 (co y)];exact(wt.1 hj).1);have:(k+1)*sz<=px.length*sz:=BY _ uH;rw[GB] at this;omega;have Lo:px.length*sz<=k*sz+j:=zau (BY _ uH) (Nat.le_add_right _ _);have cu:=(wt.1 Q).1;rw[zat,pg] at cu;rw[By (by rw[pg];exact Lo),pg] at Q;rw[ah ⟨by omega,by simp only[zaj];omega⟩];rw[so,show I+k*sz+j - (I+px.length*sz)=k*sz+j - px.length*sz by omega,Q];rfl;exact(F.hZ k j c l).congr fun x hx o=>kx (fv x (Xo x ⟨k,j,c,l,hx⟩)) o;obtain⟨mY,q1,q2⟩:=NX (vs:=py.flatten.map PC.val) (o:=I+px.length*sz) O PN;exact⟨b4,mY,e',q1,by rw[q2,b3]⟩;have hm:=F.mode;(cases m2 with|aQ=>exact hm|aS=>exact⟨fun x hx=>⟨(hm.1 x hx).1,W x (hm.1 x hx).2.1,(hm.1 x hx).2.2⟩,hm.2⟩|live=>exact⟨fun x hx=>⟨(hm.1 x hx).1,W x (hm.1 x hx).2.1,(hm.1 x hx).2.2⟩,hm.2⟩);intro s m' D C hb mE q V T qf kU iZ f ma x hx;injection hb with _ hb _ _;subst hb;exact F.ji mE q V T qf kU f ma x hx;intro s D C hb x hx;injection hb with _ hb _ _;exact⟨fun _=>Xo x hx,fun q _ f hl=>F.live hb x hx q f hl⟩);refine⟨_,A,⟨G.Im,aV G.g n p⟩,S,?_,?_⟩;exact r.step (σ':=_) EA (fun q d=>by show aV σ2.used n true q=true;rw[M];exact xS n q d) (cm.trans (u2:=fun n=>σ.used n=true) (fun _ h=>h) K K2) (by show HR B E A _ _ (aV σ2.used n true) [];rw[M];exact Hn) (r.fr.one b8 (fun x hx yN=>fv x yN) (by show w.heap.size<=A.heap.size;rw[wC];exact zad _) (Jx O PN) rfl rfl rfl);refine RA.je rfl fun _=>.inr ⟨by simp[cX,p],some (ad b I),?_,?_,?_⟩;simp[cX,p];simp[cX,p];exact b5;simp[cX,p];let w1:=w.drew;have hd:∀x:Nat,x<w.heap.size->(w.drew.alloc (.cells arr e)).heap[x]? =w.heap[x]? :=fun x hx=>heap_alloc_old w.drew _ x hx;have H1:HR B E w.drew G σ2.h σ.used []:=H.grow (w':=w.drew) (fun _ _=>rfl) (zad _);have r1:R B E w0 N σ a w.drew G:=r.step (w':=w.drew) rfl (fun _ h=>h) (cm.world (w:=w) (w':=w.drew) (fun _ _=>rfl) _) (r.hr.grow (w':=w.drew) (fun _ _=>rfl) (zad _)) (r.fr.grow (w':=w.drew) (fun _ _=>rfl) (zad _) rfl rfl rfl);have K1:cm w.drew G σ.h (fun n=>σ.used n=true) w.drew G σ2.h:=⟨K.im,fun _ _ _=>rfl,K.name,K.live⟩;have jK:∀k j c,At (px++py) k j c->Good w.drew c:=fun k j c l=>(F.hZ k j c l).congr fun _ _ _=>rfl;have z8:∀k j c,At (px++py) k j c->arr[k*sz+j]? =some c.val:=fun k j c l=>(by have Q:=zK F.len l;refine c4 _ _ ?_;rw[<-zax,<-zaU,so,Q];rfl);have uN:arr.size=cap*sz:=(by rw[c3,EO];omega);have hB2:=r1.fr.size;let p:PB:=⟨false,w.heap.size,0,cap,px++py,none⟩;have Z:∀x:Nat,x<w.drew.heap.size->(w.drew.alloc (.cells arr e)).heap[x]? =w.drew.heap[x]? :=hd;have Hn:HR B E (w.drew.alloc (.cells arr e)) ⟨G.Im,aV G.g n p⟩ (aV σ2.h n (some (.row true m2 sz ((px++py).map fun e=>e.map PC.er)))) (aV σ.used n true) []:=(by refine H1.insert (p:=p) hn Z (by simp) (fun _=>⟨H1.YP,.inl hB,by simp[p]⟩) (fun cs c m hb=>by cases hb) ?_ ?_ ?_ (fun s m sz xs _ _ i pc b hi=>by simp at hi);refine⟨Y,rfl,(fun h=>by cases h),fun _=>⟨fA.alloc _ _ _,⟨F.len,fun k j c l=>?_,fun k j c l=>?_⟩,by show(px++py).length<=cap;rw[U];exact c1⟩,fun _ _=>⟨c2,arr,e,heap_alloc_new w.drew _,(IS _).symm▸uN⟩,?_,fun _ hm=>(F.nr hm).congr fun x hx=>by obtain⟨k,j,c,l,XP⟩:=hx;exact hd x ((F.hZ k j c l).lt XP)⟩;show(w.drew.alloc (.cells arr e)).cell? (ad w.drew.heap.size (0+k*sz+j))=some c.val;simp only[IS];unfold ad;rw[World.cell?_alloc_new];exact z8 k j c l;exact(jK k j c l).congr fun x hx o=>kx (Z x ((jK k j c l).lt hx)) o;have hm:=F.mode;have X:∀x,fA w x->fA (w.drew.alloc (.cells arr e)) x:=fun x hx=>hx.congr (hd x hx.lt);(cases m2 with|aQ=>exact hm|aS=>exact⟨fun x hx=>⟨(hm.1 x hx).1,X x (hm.1 x hx).2.1,(hm.1 x hx).2.2⟩,hm.2⟩|live=>exact⟨fun x hx=>⟨(hm.1 x hx).1,X x (hm.1 x hx).2.1,(hm.1 x hx).2.2⟩,hm.2⟩);intro s m' D C hb mE q V T qf kU f ma x hx;injection hb with _ hb _ _;subst hb;exact F.ji mE q V T qf kU f ma x hx;intro s D C hb x hx;injection hb with _ hb _ _;refine⟨fun _=>?_,fun q f hl=>F.live hb x hx q f hl⟩;obtain⟨k,j,c,l,XP⟩:=hx;have:=(F.hZ k j c l).lt XP;show x≠w.heap.size;omega);refine⟨_,_,⟨G.Im,aV G.g n p⟩,S,?_,?_⟩;exact r1.step (σ':=_) EA (fun q d=>by show aV σ2.used n true q=true;rw[M];exact xS n q d) (cm.trans (u2:=fun n=>σ.used n=true) (fun _ h=>h) K1 (cm.insert H1 hn Z)) (by show HR B E _ _ _ (aV σ2.used n true) [];rw[M];exact Hn) (r1.fr.grow Z (by simp) rfl rfl rfl);refine RA.je rfl fun _=>.inr ⟨by simp[cX,p],some (ad w.heap.size 0),?_,?_,?_⟩;simp[cX,p];simp[cX,p];exact c1;simp[cX,p]
theorem avi (r:R B E w0 N σ a w G) {sz:Nat} {x:au} {v:Value} {xs:List (List C)} {m:Mode} {σ1:St} (A:RA w G σ.h x v) (hx:vj σ sz x=some (xs,m,σ1)): ∃px:List (List PC),xs=px.map (fun e=>e.map PC.er)/\qk B E w G σ1.h sz m px/\DO B E w G σ1.h sz m px v/\HR B E w G σ1.h σ.used []/\cm w G σ.h (fun n=>σ.used n=true) w G σ1.h/\σ1.env=σ.env/\σ1.used=σ.used/\ (∀n b,σ1.h n=some b->σ.h n=some b):=by unfold vj at hx;split at hx;rename_i s;injection hx with hx;injection hx with z f;injection f with f h3;subst z f h3;have l:v=.slice none 0 0:=(A.jp (by simp)).1;have y:∀b,¬bF b ([]:List (List PC)):=(by rintro b ⟨k,j,c,⟨e,i,_⟩,_⟩;simp at i);exact⟨[],rfl,⟨by simp,by rintro k j c ⟨e,i,_⟩;simp at i,⟨fun b hb=>absurd hb (y b),(by rintro k j c ⟨e,i,_⟩;simp at i),(by rintro k j c k' j' c' b ⟨e,i,_⟩;simp at i)⟩,fun _ _ _ _ _ _ _ _ b hb=>absurd hb (y b),fun _ b hb=>absurd hb (y b),fun h=>by cases h⟩, .inl ⟨none,l,rfl⟩,r.hr,cm.refl _ _ _ _,rfl,rfl,fun _ _ h=>h⟩;rename_i n s len;split at hx;rename_i D rs u hn;split at hx;rename_i P;obtain⟨rfl,rfl,rfl⟩:=P;injection hx with hx;injection hx with z f;injection f with f h3;subst z f h3;have H:=r.hr;have t:σ.h n≠none:=(by rw[hn];simp);have hr:=H.row n true D s u hn;have F:kY (G.g n) s 0 u.length v:=(A.jp (by simp)).1 t;have L:u.length=(G.g n).px.length:=(by rw[hr.er];simp);refine⟨(G.g n).px,hr.er,qk.Zc H hn (fun _=>rfl),?_,H.del n,cm.del n _,rfl,rfl,fun q b p=>(wY p).1⟩;rcases F with⟨d,l,_,_⟩|⟨d,a',l,lV,ha⟩;have O:=(hr.nl d).2 rfl;exact .inl ⟨(G.g n).na,by rw[l,O],(hr.nl d).1⟩;right;obtain⟨r2,cur,e,r3,J⟩:=hr.room d rfl;obtain⟨l1,l2,M⟩:=hr.f6 d;obtain⟨K,T,o3⟩:=H.own n t d;have Q:=ha (.inr rfl);refine⟨(G.g n).b,(G.g n).o,(G.g n).cap,cur,e,?_,r3,J,r2,M,l2,⟨K,fun q p hl=>?_,fun q gr m' ba aH p hb=>?_⟩,T,fun b hb=>H.yt t d hn hb⟩;rw[l,Q,L];simp;obtain⟨S,I⟩:=KG p;exact H.inj q n S t I hl d;exact H.yt t d (wY p).1 hb rfl;cases hx;cases hx;cases hx
theorem azt {fl:Bool} {sz:Nat} {x:au} {v:Value} {ys:List (List C)} {m m2:Mode} {σ1 σ2:St} {px:List (List PC)} (nT:0<sz) (H:HR B E w G σ1.h σ1.used []) (F:qk B E w G σ1.h sz m px) (U:RA w G σ1.h x v) (hx:pH fl σ1 sz m x=some (ys,m2,σ2)): ∃py:List (List PC),ys=py.map (fun e=>e.map PC.er)/\BP w sz py v/\qk B E w G σ2.h sz m2 (px++py)/\HR B E w G σ2.h σ1.used []/\cm w G σ1.h (fun n=>σ1.used n=true) w G σ2.h/\σ2.env=σ1.env/\σ2.used=σ1.used/\ (∀n b,σ2.h n=some b->σ1.h n=some b)/\(∀b,bF b py->∀f,¬G.Im f->(∀q l y u z,σ1.h q=some (.row l y u z)->¬bF f (G.g q).px)->b≠f):=by unfold pH at hx;have O:∀b,¬bF b ([]:List (List PC)):=(by rintro b ⟨k,j,c,⟨e,t,_⟩,_⟩;simp at t);split at hx;rename_i s;injection hx with hx;injection hx with i a;injection a with a h3;subst i a h3;have gW:v=.slice none 0 0:=(U.jp (by simp)).1;subst gW;exact⟨[],rfl,⟨by simp,by rintro k j c ⟨e,t,_⟩;simp at t,none,0,rfl,.inl ⟨rfl,rfl⟩⟩,by simpa using F,H,cm.refl _ _ _ _,rfl,rfl,fun _ _ h=>h,fun b hb=>absurd hb (O b)⟩;rename_i s o;split at hx;rename_i hs;subst hs;obtain⟨pc,K,e2,e3,e4⟩:=U.c;have ci:∃ya c py,pc=.list s ya c py/\py.map (fun e=>e.map PC.er)=o:=(by cases pc with|int k n=>simp[PC.er] at K|bool b=>simp[PC.er] at K|list s' ya c py=>rw[PC.fK] at K;injection K with K N;subst K;exact⟨ya,c,py,rfl,N⟩);obtain⟨ya,c,py,rfl,N⟩:=ci;have d:BP w s py v:=(by rw[<-e2];exact BP.ai4 e3);have pU:∀b,bF b py->G.Im b:=fun b ⟨k,j,c,r,hb⟩=>e4 b (.there _ _ _ _ k j c r hb);have I:∀b,bF b py->∀f,¬G.Im f->(∀q l y u z,σ1.h q=some (.row l y u z)->¬bF f (G.g q).px)->b≠f:=fun b hb f V _ t=>V (t▸pU b hb);split at hx;rename_i D;injection hx with hx;injection hx with i a;injection a with a h3;subst i a h3;replace D:=(zag _ _▸D).2;rw[<-N] at D;exact⟨py,N.symm,d,F.ach d.1 d.2.1 (I0 D) (alX D),H,cm.refl _ _ _ _,rfl,rfl,fun _ _ h=>h,I⟩;split at hx;cases hx;rename_i vF;injection hx with hx;injection hx with i a;injection a with a h3;subst i a h3;refine⟨py,N.symm,d,⟨fun e t=>(zak.1 t).elim (F.len e) (d.1 e),fun k j c r=>?_,fun b hb=>(A8 hb).elim (F.abl vF b) (pU b),fun h=>absurd rfl h,(fun h=>by cases h),fun h=>by cases h⟩,H,cm.refl _ _ _ _,rfl,rfl,fun _ _ h=>h,I⟩;rcases yb r with⟨_,h⟩|⟨_,h⟩;exact F.hZ _ _ _ h;exact d.2.1 _ _ _ h;cases hx;rename_i n s lo len;split at hx;rename_i l m' rs o hn;split at hx;rename_i hc;obtain⟨rfl,rfl,hl⟩:=hc;have cC:σ1.h n≠none:=(by rw[hn];simp);have hr:=H.row n l m' s o hn;have jN:kY (G.g n) s lo len v:=(U.jp (by simp)).1 cC;obtain⟨L,W,q3,q4⟩:=Nw hr jN hl;have P:∃ya c,n7 (G.g n) s lo len v=.list s ya c (((G.g n).px.drop lo).take len):=(by rcases jN with⟨_,rfl,_,_⟩|⟨_,a',rfl,_,_⟩<;>exact⟨_,_,rfl⟩);obtain⟨ya,c,P⟩:=P;rw[P] at L W q3 q4;have d:BP w s (((G.g n).px.drop lo).take len) v:=(by rw[<-W];exact BP.ai4 q3);have uP:(o.drop lo).take len=(((G.g n).px.drop lo).take len).map (fun e=>e.map PC.er):=(by rw[PC.fK] at L;injection L with _ L;exact L.symm);have I:∀b,bF b (((G.g n).px.drop lo).take len)->∀f,¬G.Im f->(∀q l y u z,σ1.h q=some (.row l y u z)->¬bF f (G.g q).px)->b≠f:=(by rintro b ⟨k,j,c,r,hb⟩ f _ V rfl;exact V n l m' s o hn ⟨_,_,_,(ug r).1,hb⟩);split at hx;rename_i D;injection hx with hx;injection hx with i a;injection a with a h3;subst i a h3;have R:=(zag _ _▸D).2;rw[uP] at R;exact⟨_,uP,d,F.ach d.1 d.2.1 (I0 R) (alX R),H,cm.refl _ _ _ _,rfl,rfl,fun _ _ h=>h,I⟩;split at hx;rename_i S;obtain⟨rfl,rfl⟩:=S;have jM:((G.g n).px.drop 0).take o.length=(G.g n).px:=(by have:o.length=(G.g n).px.length:=(by rw[hr.er];simp);rw[this];simp);rw[jM] at d I;have Y:=F.del n;have Z:∀k j c,At (px++(G.g n).px) k j c->Good w c:=fun k j c r=>(by rcases yb r with⟨_,h⟩|⟨_,h⟩;exact F.hZ _ _ _ h;exact d.2.1 _ _ _ h);have A:∀e∈px++(G.g n).px,e.length=s:=fun e t=>(zak.1 t).elim (F.len e) (d.1 e);split at hx;rename_i T;obtain⟨T,Lr⟩:=T;subst T;have J:=qk.Zc H hn Lr;injection hx with hx;injection hx with i a;injection a with a h3;subst i a h3;refine⟨(G.g n).px,hr.er,d,⟨A,Z,?_,fun hm q X y u z p ma b hb=>?_,fun hm b hb q p hl=>?_,fun hm k c r=>(yb r).elim (fun h=>F.nr hm _ _ h.2) (fun h=>J.nr hm _ _ h.2)⟩,H.del n,cm.del n _,rfl,rfl,fun q b p=>(wY p).1,I⟩;have m1:=F.mode;have M:=J.mode;(cases m with|aQ=>exact fun b hb=>(A8 hb).elim (m1 b) (M b)|aS=>exact⟨fun b hb=>(A8 hb).elim (m1.1 b) (M.1 b),Rj m1.2 M.2 (fun b hb=>F.ji (by simp) n l .aS s o hn (by simp) b hb)⟩|live=>exact⟨fun b hb=>(A8 hb).elim (m1.1 b) (M.1 b),Rj m1.2 M.2 (fun b hb=>F.ji (by simp) n l .live s o hn (by simp) b hb)⟩);exact(A8 hb).elim (Y.ji hm q X y u z p ma b) (J.ji hm q X y u z p ma b);exact(A8 hb).elim (fun h=>Y.live hm b h q p hl) (fun h=>J.live hm b h q p hl);split at hx;cases hx;rename_i Q;have J:=qk.Zc H hn (fun h=>absurd (.inr h) Q);injection hx with hx;injection hx with i a;injection a with a h3;subst i a h3;refine⟨(G.g n).px,hr.er,d,⟨A,Z,fun b hb=>(A8 hb).elim (F.abl (fun h=>Q (.inl h)) b) (J.abl (fun h=>Q (.inr h)) b),fun h=>absurd rfl h,(fun h=>by cases h),fun h=>by cases h⟩,H.del n,cm.del n _,rfl,rfl,fun q b p=>(wY p).1,I⟩;cases hx;cases hx;cases hx;cases hx
theorem ap6 (r:R B E w0 N σ a w G) {n:Nat} {t e:TypeId} {i:TypeInfo} {z:Value} {x y:Operand} {mx my:MO} {fl:Bool} {sz dW:Nat} {xs ys:List (List C)} {m m2:Mode} {σ1 σ2 T:St} (ho:o.op=.call {callee:=.builtin .append,args:=#[x,y],argTypes:=#[t,t]}) (hd:o.dst=some n) (hN:n<N) (jS:c8 x mx=true) (mD:c8 y my=true) (ht:P.underlying t=some (.slice e)) (hi:P.info? e=some i) (hz:i.zero=some z) (cY:i.size=sz) (J:0<sz) (tj:i.bytes=dW) (Ew:0<dW) (EO:z.cells.size=sz) (hl:vj σ sz (σ.ev mx)=some (xs,m,σ1)) (hr:pH fl σ1 sz m (σ.ev my)=some (ys,m2,σ2)) (hb:(xs.length+ys.length)*dW<=gH) (hx:σ2.ins n (.row true m2 sz (xs++ys))=some T): o.wp P a w (Nx B E w0 N (T.put o.dst (.one (.sl n sz 0 (xs.length+ys.length))))) Q:=by obtain⟨hn,rfl⟩:=rD hx;obtain⟨x1,x2⟩:=r.ev jS;obtain⟨y1,y2⟩:=r.ev mD;obtain⟨px,U,A,L,K,S,q1,f,q3⟩:=avi r x1 hl;have k:RA w G σ1.h (σ.ev my) (a.eval y):=y1.keep S y2;rw[<-f] at K;obtain⟨py,H,R2,F2,p,K2,p1,M,D,uF⟩:=azt J K A k hr;rw[f] at p;have O:xs.length=px.length:=(by rw[U];simp);have W:ys.length=py.length:=(by rw[H];simp);have L2:DO B E w G σ2.h sz m px (a.eval x):=(by rcases L with h|⟨b,o,cap,cur,s,g,F,I,Y,Z,V,⟨l1,l2,j⟩,b8,X⟩;exact .inl h;refine .inr ⟨b,o,cap,cur,s,g,F,I,Y,Z,V,⟨l1,fun q c=>?_,fun q gr mo ba aH c=>j q gr mo ba aH (D q _ c)⟩,b8,X⟩;cases hh:σ2.h q with|none=>exact absurd hh c|some bb=>exact l2 q (by rw[D q bb hh];simp));obtain⟨u,w',G',di,r',l⟩:=r.aoc (P:=P) (σ2:=σ2) (n:=n) (m:=m) (m2:=m2) (px:=px) (py:=py) (ty:=o.type) (p1.trans q1) (M.trans f) p (cm.trans (u2:=fun n=>σ1.used n=true) (fun q c=>by rw[f];exact c) S K2) (by rw[<-f,<-M];exact hn) J F2 A.len L2 R2 (fun b eB b' o' cap e8 d afK=>by rcases L with⟨_,h,_⟩|⟨b0,o0,Oy,cur,s,g,F,I,Y,Z,V,⟨l1,l2,j⟩,b8,X⟩;rw[h] at d;injection d with _ _ d;omega;rw[g] at d;injection d with d;injection d with d;have HI:=(q9 d).1;subst HI;exact uF b eB b0 l1 j) ht hi hz cY tj Ew EO (by rw[<-O,<-W];exact hb);have Xm:(px++py).map (fun e=>e.map PC.er)=xs++ys:=(by rw[zax,<-U,<-H]);rw[Xm] at r' l;rw[<-O,<-W] at l;refine Bq (v:=u) (w':=w') ?_ ⟨G',r'.put l (fun q c=>by have ig:q=n:=c;subst ig;exact cX _ _ _) (fun q c=>by rw[hd] at c;injection c with c;omega)⟩;simp[execOp,ho,resolve,invoke,builtin,di]
theorem Qa {n:Nat} (hs:(h n).isSome=true):h n≠none:=by intro a;rw[a] at hs;cases hs
theorem ZR {t e:TypeId} {i:TypeInfo} {sz b off len cap:Nat} {f:IntKind} {q:Int} (c:P.underlying t=some (.slice e)) (hi:P.info? e=some i) (d:i.size=sz) (g:0<=q) (a:q<len): (Instr.indexAt t (.slice (some (ad b off)) len cap) (.int f q)).run P w=.ok (.pointer (some (ad b (off+q.toNat*sz)))) w:=by simp[Instr.indexAt,run_underlying c,asIntOf,g,a,sizeOf,typeInfo,hi,d,ud]
theorem adV (r:R B E w0 N σ a w G) {t e:TypeId} {i:TypeInfo} {x y:Operand} {mx my:MO} {sz:Nat} {q:Int} {z:au} (J:o.op=.indexAddr t x y) (A:∀n,o.dst=some n->n<N) (X:c8 x mx=true) (S:c8 y my=true) (K:P.underlying t=some (.slice e)) (hi:P.info? e=some i) (I:i.size=sz) (U:(σ.ev my).fw=some q) (F:0<=q) (T:(∃n lo len,σ.ev mx=.one (.sl n sz lo len)/\q<(len:Int)/\(σ.h n).isSome=true/\z=.one (.ptr n (lo+q.toNat) sz 0))\/(∃xs p,σ.ev mx=.one (.c (.list sz xs))/\xs[q.toNat]? =some p/\z=.one (.dN p 0))): o.wp P a w (Nx B E w0 N (σ.put o.dst z)) Q:=by obtain⟨l,D⟩:=r.ev X;obtain⟨kk,H⟩:=(r.ev S).1.int U;rcases T with⟨n,lo,len,s,d,hs,rfl⟩|⟨xs,p,s,d,rfl⟩;rw[s] at l D;have M:kY (G.g n) sz lo len (a.eval x):=(l.jp (by simp)).1 (Qa hs);rcases M with⟨_,_,_,hl⟩|⟨bk,a',hv,lV,ha⟩;omega;have yA:=ha (.inl (by omega));subst yA;refine lf r (v:=.pointer (some (ad (G.g n).b ((G.g n).o+lo*sz+q.toNat*sz)))) ?_ ?_ (fun m hm=>D m hm) A;simp only[execOp,J,hv,H];simp[ZR K hi I F d];exact RA.je rfl fun _=>⟨bk,by rw[GB];congr 3;omega⟩;rw[s] at l;obtain⟨pc,p1,W,p3,p4⟩:=l.c;cases pc with|int k n=>simp[PC.er] at p1|bool b=>simp[PC.er] at p1|list u ya c py=>rw[PC.fK] at p1;injection p1 with p0 p1;subst p0;have O:∃pe,py[q.toNat]? =some pe/\pe.map PC.er=p:=(by rw[<-p1,so] at d;cases hp:py[q.toNat]? with|none=>rw[hp] at d;cases d|some pe=>rw[hp] at d;simp at d;exact⟨pe,rfl,d⟩);obtain⟨pe,f,Y⟩:=O;have V:q.toNat<py.length:=(wt.1 f).1;cases p3 with|nil _ _ _ _=>simp at V|cons _ b C _ _ Z g2 g3 g4 g5 L=>have ig:q<(py.length:Int):=(by omega);refine lf r (v:=.pointer (some (ad b (C+q.toNat*u)))) ?_ ?_ (fun m hm=>absurd hm (by simp[au.ref,aj.ref,aj.j4])) A;simp only[execOp,J,<-W,PC.val,H];simp[ZR K hi I F ig];refine RA.je rfl ⟨b,C+q.toNat*u,pe,by simp,Y,p4 b (.here _ _ _ _ Z),fun j c hj=>?_⟩;exact⟨g5 _ _ _ ⟨pe,f,hj⟩,L _ _ _ ⟨pe,f,hj⟩,fun b' bn=>p4 b' (.there _ _ _ _ _ _ c ⟨pe,f,hj⟩ bn)⟩
theorem azR {t e:TypeId} {i:TypeInfo} {b off len:Nat} {f:IntKind} {q:Int} (c:P.underlying t=some (.array len e)) (hi:P.info? e=some i) (d:i.size=1) (g:0<=q) (a:q<len): (Instr.indexAt t (.pointer (some (ad b off))) (.int f q)).run P w=.ok (.pointer (some (ad b (off+q.toNat)))) w:=by simp[Instr.indexAt,run_underlying c,asIntOf,Instr.sureAddr,g,a,sizeOf,typeInfo,hi,d,ud]
theorem aqo (r:R B E w0 N σ a w G) {t e:TypeId} {i:TypeInfo} {x y:Operand} {mx my:MO} {len:Nat} {q:Int} {n k s off:Nat} (H:o.op=.indexAddr t x y) (j:∀n,o.dst=some n->n<N) (p:c8 x mx=true) (f:c8 y my=true) (I:P.underlying t=some (.array len e)) (hi:P.info? e=some i) (D:i.size=1) (l:(σ.ev my).fw=some q) (z:0<=q) (C:q<len) (hx:σ.ev mx=.one (.ptr n k s off)) (hs:(σ.h n).isSome=true): o.wp P a w (Nx B E w0 N (σ.put o.dst (.one (.ptr n k s (off+q.toNat))))) Q:=by obtain⟨d,c⟩:=r.ev p;obtain⟨kk,A⟩:=(r.ev f).1.int l;rw[hx] at d c;obtain⟨u,F⟩:=(d.jp (by simp)).1 (Qa hs);refine lf r (v:=.pointer (some (ad (G.g n).b ((G.g n).o+k*s+off+q.toNat)))) ?_ ?_ (fun m hm=>c m hm) j;simp only[execOp,H,F,A];simp[azR I hi D z C];exact RA.je rfl fun _=>⟨u,by rw[Pd]⟩
theorem Pg (r:R B E w0 N σ a w G) {t e:TypeId} {x:Operand} {mx:MO} {len:Nat} (H:o.op=.call {callee:=.builtin .len,args:=#[x],argTypes:=#[t]}) (C:∀n,o.dst=some n->n<N) (hm:c8 x mx=true) (I:P.underlying t=some (.slice e)) (A:(∃n sz lo,σ.ev mx=.one (.sl n sz lo len)/\(σ.h n).isSome=true)\/(∃sz xs,σ.ev mx=.one (.c (.list sz xs))/\len=xs.length)\/(∃sz,σ.ev mx=.one (.nil sz)/\len=0)\/ (∃n k p off sz l s ys,σ.ev mx=.one (.cF n k p off sz l)/\dE σ.h (.cF n k p off sz l)=some (.list s ys)/\len=ys.length)): o.wp P a w (Nx B E w0 N (σ.put o.dst (.one (.c (.int .i64 len))))) Q:=by obtain⟨d,x2⟩:=r.ev hm;have f:∃m c,a.eval x=.slice m len c:=(by rcases A with⟨n,sz,lo,i,hs⟩|⟨sz,xs,i,rfl⟩|⟨sz,i,rfl⟩|⟨n,k,p,off,sz,l,s,ys,i,F,rfl⟩;rw[i] at d;have y:kY (G.g n) sz lo len (a.eval x):=(d.jp (by simp)).1 (Qa hs);rcases y with⟨_,f,_,rfl⟩|⟨_,m,f,_,_⟩;exact⟨_,_,f⟩;exact⟨_,_,f⟩;rw[i] at d;obtain⟨pc,p1,j,_⟩:=d.c;(cases pc with|int k n=>simp[PC.er] at p1|bool b=>simp[PC.er] at p1|list u ya c py=>rw[PC.fK] at p1;injection p1 with _ p1;refine⟨ya,c,?_⟩;rw[<-j,<-p1];simp[PC.val]);rw[i] at d;have z:a.eval x=.slice none 0 0:=(d.jp (by simp)).1;exact⟨_,_,z⟩;rw[i] at d;obtain⟨pc,p1,j,_⟩:=r.hr.dE F (d.jp (by simp)).1;cases pc with|int k n=>simp[PC.er] at p1|bool b=>simp[PC.er] at p1|list u ya c py=>rw[PC.fK] at p1;injection p1 with _ p1;refine⟨ya,c,?_⟩;rw[<-j,<-p1];simp[PC.val]);obtain⟨m,c,f⟩:=f;refine lf r (v:=.int .i64 len) ?_ (RA.of_int _ _) (fun q D=>absurd D zj) C;simp[execOp,H,resolve,invoke,builtin,f,Builtin.len_,run_underlying I,goInt]
theorem ZS {t e:TypeId} {i:TypeInfo} {sz:Nat} {ya:Option Addr} {len cap:Nat} {lo b:Option Value} {l a:Int} (o:P.underlying t=some (.slice e)) (hi:P.info? e=some i) (j:i.size=sz) (n:(lo=none/\l=0)\/∃k,lo=some (.int k l)) (m:(b=none/\a=len)\/∃k,b=some (.int k a)) (d:0<=l) (g:l<=a) (h2:a<=len) (h3:len<=cap): (Instr.sliceAt t (.slice ya len cap) lo b none).run P w=.ok (.slice (if cap=l.toNat then ya else ya.map (·.add (l.toNat*sz))) (a - l).toNat (cap - l.toNat)) w:=by have f:(a.toNat:Int)=a:=zaR (by omega);have p:(a - l).toNat=a.toNat - l.toNat:=(by omega);have c:a<=(cap:Int):=(by omega);have h:0<=a:=(by omega);rcases n with⟨rfl,rfl⟩|⟨k,rfl⟩<;>rcases m with⟨rfl,rfl⟩|⟨k',rfl⟩<;> simp[Instr.sliceAt,Instr.slice,run_underlying o,Instr.sliceBounds,Instr.sliceBound,asIntOf,sizeOf,typeInfo,hi,j,d,g,c,h,f,p]<;>omega
theorem adY (r:R B E w0 N σ a w G) {t e:TypeId} {i:TypeInfo} {x:Operand} {lo C:Option Operand} {mx:MO} {sz:Nat} {l d:Int} {z:au} (O:o.op=.slice t x lo C none) (V:∀n,o.dst=some n->n<N) (jS:c8 x mx=true)
  (ht:P.underlying t=some (.slice e)) (hi:P.info? e=some i) (cY:i.size=sz) (nT:0<sz) {len:Nat}
  (m8:(lo=none/\l=0)\/∃y my,lo=some y/\c8 y my=true/\(σ.ev my).fw=some l) (Af:(C=none/\d=len)\/∃y my,C=some y/\c8 y my=true/\(σ.ev my).fw=some d)
  (T:0<=l) (h1:l<=d) (W:d<=len)
  (D:(∃n s,σ.ev mx=.one (.sl n sz s len)/\(σ.h n).isSome=true/\z=.one (.sl n sz (s+l.toNat) (d - l).toNat))\/(∃xs,σ.ev mx=.one (.c (.list sz xs))/\len=xs.length/\z=.one (.c (.list sz ((xs.drop l.toNat).take (d - l).toNat))))):
  o.wp P a w (Nx B E w0 N (σ.put o.dst z)) Q:=by
 obtain⟨H,S⟩:=r.ev jS;have Xi:(lo.map a.eval=none/\l=0)\/∃k,lo.map a.eval=some (.int k l):=by
  rcases m8 with⟨rfl,h⟩|⟨y,my,rfl,Y,K⟩
  ·exact .inl ⟨rfl,h⟩
  ·obtain⟨k,p⟩:=(r.ev Y).1.int K;exact .inr ⟨k,by simp[p]⟩
 have M:(C.map a.eval=none/\d=len)\/∃k,C.map a.eval=some (.int k d):=by
  rcases Af with⟨rfl,h⟩|⟨y,my,rfl,Y,K⟩
  ·exact .inl ⟨rfl,h⟩
  ·obtain⟨k,p⟩:=(r.ev Y).1.int K;exact .inr ⟨k,by simp[p]⟩
 rcases D with⟨n,s,Z,hs,rfl⟩|⟨xs,Z,rfl,rfl⟩
 ·rw[Z] at H S;have jN:kY (G.g n) sz s len (a.eval x):=(H.jp (by simp)).1 (Qa hs);rcases jN with⟨X,F,rfl,rfl⟩|⟨X,a',F,lV,ha⟩
  ·have hr:=ZS (P:=P) (w:=w) (ya:=(G.g n).na) (len:=0) (cap:=(G.g n).cap) ht hi cY Xi M T h1 W (zbg _);have qF:l.toNat=0:=by omega
   have Ls:(d - l).toNat=0:=by omega
   refine lf r (v:=.slice (G.g n).na 0 (G.g n).cap) ?_ (RA.je rfl fun _=>.inl ⟨X,rfl,by omega,by omega⟩) (fun m hm=>S m hm) V;simp only[execOp,O,F,zaO];simp only[qF,Ls,zaL] at hr;have ha:(G.g n).na.map (fun x=>x.add 0)=(G.g n).na:=by
    cases (G.g n).na with
    |none=>rfl
    |some x=>simp[Addr.add]
   rw[ha] at hr;simp[hr]
  ·have hr:=ZS (P:=P) (w:=w) (ya:=a') (len:=len) (cap:=(G.g n).cap - s) ht hi cY Xi M T h1 W (by omega);refine lf r (by simp only[execOp,O,F,zaO];simp[hr];rfl) (RA.je rfl fun _=>.inr ⟨X,_,by rw[Nat.sub_sub],by omega,fun I=>?_⟩) (fun m hm=>S m hm) V;split
   ·rename_i cP;have:s=0/\l.toNat=0:=by omega
    rw[ha (.inr this.1),this.1,this.2]
   ·rename_i cP;have cu:s<(G.g n).cap:=by omega
    rw[ha (.inl cu)];simp only[Option.map_some,ud];rw[GB,Pd]
 ·rw[Z] at H;obtain⟨pc,p1,p2,p3,p4⟩:=H.c;cases pc with
  |int k n=>simp[PC.er] at p1
  |bool b=>simp[PC.er] at p1
  |list J ya c py=>
   rw[PC.fK] at p1;injection p1 with p0 p1;subst p0;have f:xs.length=py.length:=by rw[<-p1];simp
   have F:a.eval x=.slice ya xs.length c:=by rw[<-p2,f];rfl
   have lV:xs.length<=c\/py=[]:=by
    cases p3 with
    |nil _ _ _ _=>exact .inr rfl
    |cons _ b oo _ _ g1 g2 g3 g4 g5 g6=>exact .inl (by rw[f];exact g2)
   have rm:xs.length<=c:=by
    rcases lV with I|I
    ·exact I
    ·rw[f,I];exact zbg _
   have hr:=ZS (P:=P) (w:=w) (ya:=ya) (len:=xs.length) (cap:=c) ht hi cY Xi M T h1 W rm;have L:((py.drop l.toNat).take (d - l).toNat).length=(d - l).toNat:=by simp;omega
   let A:PC:=.list J (if c=l.toNat then ya else ya.map (·.add (l.toNat*J))) (c - l.toNat) ((py.drop l.toNat).take (d - l).toNat)
   have jK:Good w A/\∀b,bD b A->G.Im b:=by
    by_cases u:(py.drop l.toNat).take (d - l).toNat=[]
    ·constructor
     ·show Good w (.list _ _ _ _);rw[u];exact .nil _ _ _ nT
     ·intro b hb;rw[bD.pq,u] at hb;rcases hb with⟨hb,_⟩|⟨k,j,c,⟨e,he,_⟩,_⟩
      ·exact absurd rfl hb
      ·simp at he
    ·cases p3 with
     |nil _ _ _ _=>simp at u
     |cons _ b oo _ _ g1 g2 g3 g4 g5 g6=>
      have gk:0<(d - l).toNat:=by
       rcases zaz (d - l).toNat with D|D
       ·rw[D] at u;simp at u
       ·exact D
      have aJ:c≠l.toNat:=by omega
      have ci:A=.list J (some (ad b (oo+l.toNat*J))) (c - l.toNat) ((py.drop l.toNat).take (d - l).toNat):=by
       show PC.list _ _ _ _=_;rw[ak aJ];simp[ud]
      rw[ci];constructor
      ·refine .cons _ _ _ _ _ u (by omega) g3 (fun e he=>g4 e (zah (zai he))) (fun k j U p=>?_) (fun k j U p=>g6 _ _ _ (ug p).1);have:=g5 _ _ _ (ug p).1;rw[GB] at this;rw[<-this];congr 2;omega
      ·intro x hx;rw[bD.pq] at hx;rcases hx with⟨_,o',kD⟩|⟨k,j,U,p,hx⟩
       ·injection kD with kD;rw[<-(q9 kD).1];exact p4 b (.here _ _ _ _ g1)
       ·exact p4 x (.there _ _ _ _ _ _ U (ug p).1 hx)
   refine lf r (v:=A.val) ?_ (RA.je (PC.od _) ⟨A,?_,rfl,jK.1,jK.2⟩) (fun q hq=>absurd hq zj) V
   ·simp only[execOp,O,F,zaO];simp[hr,A,PC.val,L]
   ·show PC.er (.list _ _ _ _)=_;rw[PC.fK,zaV,zaW,p1]
theorem GU {b x:Nat} {v:Value} {cur:Array Value} {e:TypeId} (c:w.heap[b]? =some (.cells cur e (0,0))) (a:w.cell? (ad b x)=some v):x<cur.size:=by
 have d:w.cell? (ad b x)=cur[x]? :=by simp[World.cell?,ad,c]
 rw[d] at a;exact(zap.1 a).1
theorem aqz (r:R B E w0 N σ a w G) {t:TypeId} {i:TypeInfo} {x y:Operand} {mx my:MO} {sz n k U off:Nat} {ag:Bool} {vs cs:List aj} (O:o.op=.store t x y) (hd:o.dst=none) (H:c8 x mx=true) (A:c8 y my=true)
  (hi:P.info? t=some i) (K:i.size=sz) (nT:0<sz) (hp:σ.ev mx=.one (.ptr n k U off)) (q:(σ.ev my).cells?=some (ag,vs)) (hl:vs.length=sz) (hn:σ.h n=some (.box cs)) (S:k=0) (jJ:off+sz<=cs.length):
  o.wp P a w (Nx B E w0 N (σ.fh n (.box (dA cs off vs)))) Q:=by
 obtain⟨l,_⟩:=r.ev H;obtain⟨s,I⟩:=r.ev A;rw[hp] at l;subst S;obtain⟨p1,F⟩:=(l.jp (by simp)).1 (by rw[hn];simp);obtain⟨q1,⟨cur,W,d⟩,C⟩:=r.hr.box n cs hn;have f:=s.cells q;have L:(a.eval y).cells.toList.length=sz:=by rw[f.1,hl]
 have p:(G.g n).o+off+(a.eval y).cells.toList.length<=cur.size:=by
  obtain⟨v,T,_⟩:=C (off+sz - 1) (cs[off+sz - 1]'(by omega)) (AI _);have:=GU d T;omega
 have X:=r.aAR hn f (fun c M m hm=>I m (au.D3 q M hm)) (by omega) d p;have J:=ZT (P:=P) (w:=w) (t:=t) (i:=i) (b:=(G.g n).b) (off:=(G.g n).o+off) (v:=a.eval y) (cur:=cur) (e:=W) hi (by rw[K,<-L];simp) d (by simpa using p) (fun u V=>by
  obtain⟨j,hj,z⟩:=zab V;have D:j<vs.length:=by omega
  have:=(f.2 j _ u (AI D) (by rw[AI hj,z])).1;exact this)
 refine abB (w':=iW w (G.g n).b ((G.g n).o+off) (a.eval y).cells.toList cur) ?_ ⟨G,?_⟩
 ·simp only[execOp,O,F,zaL,zaA];simp[Instr.storeAt,Instr.sureAddr,J]
 ·rw[hd];exact X
theorem aqB (r:R B E w0 N σ a w G) {t:TypeId} {i:TypeInfo} {x y:Operand} {mx my:MO} {sz n k off:Nat} {ag q:Bool} {m:Mode} {d:Nat} {xs:List (List C)} {l:List C} {vs:List aj} {σ2:St} (X:o.op=.store t x y) (hd:o.dst=none) (S:c8 x mx=true) (L:c8 y my=true)
  (hi:P.info? t=some i) (V:i.size=sz) (nT:0<sz) (hp:σ.ev mx=.one (.ptr n k d off)) (H:(σ.ev my).cells?=some (ag,vs)) (hl:vs.length=sz) (hn:σ.h n=some (.row q m d xs)) (F:xs[k]? =some l)
  (hx:rS σ n q m d xs k off l vs=some σ2):o.wp P a w (Nx B E w0 N σ2) Q:=by
 obtain⟨A,_⟩:=r.ev S;obtain⟨I,T⟩:=r.ev L;rw[hp] at A;obtain⟨p1,O⟩:=(A.jp (by simp)).1 (by rw[hn];simp);have hr:=r.hr.row n q m d xs hn;obtain⟨⟨cur,et,p⟩,l2,l3⟩:=hr.f6 p1;have z:=I.cells H;have W:(a.eval y).cells.toList.length=sz:=by rw[z.1,hl]
 have HV:off+vs.length<=l.length:=by
  unfold rS at hx;split at hx
  ·cases hx
  ·rename_i j0 hs;exact(Jl hs).1
 have J:∃pe,(G.g n).px[k]? =some pe/\pe.map PC.er=l:=by
  have f:=F;rw[hr.er,so] at f;cases hq:(G.g n).px[k]? with
  |none=>rw[hq] at f;cases f
  |some pe=>rw[hq] at f;simp at f;exact⟨pe,rfl,f⟩
 obtain⟨pe,Z,Y⟩:=J;have Cr:pe.length=l.length:=by rw[<-Y];simp
 have D:(G.g n).o+k*d+off+(a.eval y).cells.toList.length<=cur.size:=by
  have s:=l2.2.1 k (off+sz - 1) (pe[off+sz - 1]'(by omega)) ⟨pe,Z,AI _⟩;have:=GU p s;omega
 obtain⟨G',r'⟩:=r.rS hn p1 F z (fun c s m hm=>T m (au.D3 H s hm)) hx p D;have U:=ZT (P:=P) (w:=w) (t:=t) (i:=i) (b:=(G.g n).b) (off:=(G.g n).o+k*d+off) (v:=a.eval y) (cur:=cur) (e:=et) hi (by rw[V,<-W];simp) p (by simpa using D) (fun u hu=>by
  obtain⟨j,hj,K⟩:=zab hu;have M:j<vs.length:=by omega
  exact(z.2 j _ u (AI M) (by rw[AI hj,K])).1)
 refine abB (w':=iW w (G.g n).b ((G.g n).o+k*d+off) (a.eval y).cells.toList cur) ?_ ⟨G',?_⟩
 ·simp only[execOp,X,O];simp[Instr.storeAt,Instr.sureAddr,U]
 ·rw[hd];exact r'
def D5 (places:List (Nat×Nat)):List (Nat×Operand)->List (Nat×Nat×MO)->Bool
 |[],[]=>true
 |(i,x)::ps,(off,sz,m)::ms=>(places[i]? ==some (off,sz))&&c8 x m&&D5 places ps ms
 |_,_=>false
theorem aee (r:R B E w0 N σ a w G) (b:List (Nat×Nat)):∀(ps:List (Nat×Operand)) (ms:List (Nat×Nat×MO)) (e cs:List aj) (cur:Array Value),D5 b ps ms=true-> ed w G σ.h e cur.toList->(∀c∈e,∀m,c.ref m->σ.used m=true)->pz σ.ev e ms=some cs-> ∃g,Instr.fill (b.toArray[·]?) cur (ps.map fun p=>(p.1,a.eval p.2))=some g/\ed w G σ.h cs g.toList/\∀c∈cs,∀m,c.ref m->σ.used m=true
 |[],[],e,cs,cur,_,hz,hr,hx=>by simp only[pz] at hx;injection hx with hx;subst hx;exact⟨cur,rfl,hz,hr⟩
 |(i,x)::ps,(off,sz,m)::ms,e,cs,cur,d,hz,hr,hx=>by simp only[D5,zag,beq_iff_eq] at d;obtain⟨⟨F,A⟩,z⟩:=d;simp only[pz] at hx;split at hx;rename_i ag vs s;split at hx;rename_i C;obtain⟨H,h2⟩:=C;obtain⟨y,D⟩:=r.ev A;have n:=y.cells s;have qI:(a.eval x).cells.size=sz:=(by rw[<-zac,n.1,H]);have hzl:cur.size=e.length:=(by rw[<-zac,hz.1]);have I:ed w G σ.h (dA e off vs) (dA cur.toList off (a.eval x).cells.toList):=(by have l:(a.eval x).cells.toList.length=vs.length:=n.1;refine⟨?_,fun j c u hj f=>?_⟩;rw[Sm (by rw[l,hz.1];omega),Sm (by omega),hz.1];rw[Dr (by omega)] at hj;rw[Dr (by rw[l,hz.1];omega),l] at f;by_cases o:off<=j/\j<off+vs.length;rw[ah o] at hj f;exact n.2 _ c u hj f;rw[ak o] at hj f;exact hz.2 _ c u hj f);obtain⟨g,t,J,v⟩:=aee r b ps ms (dA e off vs) cs (dA cur.toList off (a.eval x).cells.toList).toArray z I (fun c d q k=>by simp only[dA,zak] at d;rcases d with(d|d)|d;exact hr c (zai d) q k;exact D q (au.D3 s d k);exact hr c (zah d) q k) hx;refine⟨g,?_,J,v⟩;simp only[zal] at t;simp only[If,Instr.fill,zal,F];rw[ak (by simp;omega),afb _ _ _ (by omega)];exact t;cases hx;cases hx
 |[],_::_,_,_,_,d,_,_,_=>by simp[D5] at d
 |(_,_)::_,[],_,_,_,d,_,_,_=>by simp[D5] at d
theorem ap9 (r:R B E w0 N σ a w G) {t:TypeId} {parts:Array (Nat×Operand)} {ms:List (Nat×Nat×MO)} {g cs:List aj} {it:TypeInfo} {z:Value} {k:Array Field} {b:List (Nat×Nat)} (A:o.op=.build t parts) (u:∀n,o.dst=some n->n<N) (C:P.info? t=some it) (s:it.zero=some z) (F:P.underlying t=some (.struct k)) (D:k.toList.mapM (fun f=>(P.info? f.type).map fun i=>(f.offset,i.size))=some b) (j:yf z.cells.toList g=true) (d:D5 b parts.toList ms=true) (hx:pz σ.ev g ms=some cs):o.wp P a w (Nx B E w0 N (σ.put o.dst (.agg cs))) Q:=by obtain⟨q,x⟩:=OH (w:=w) (G:=G) (h:=σ.h) j;obtain⟨e,H,I,l⟩:=aee r b parts.toList ms g cs z.cells d q (fun c d m hm=>absurd hm (x c d m)) hx;refine lf r (v:=.agg e) ?_ ⟨e.toList,by simp,I⟩ (fun m hm=>by obtain⟨c,d,hm⟩:=hm;exact l c d m hm) u;have hb:P.built t (parts.map fun p=>(p.1,a.eval p.2)).toList=some e:=(by unfold Program.built;simp only[C,F,s,D,zav];exact H);have y:=run_build (P:=P) w t _ e hb;simp only[execOp,A];simp[y]
theorem aqr (r:R B E w0 N σ a w G) {f:FuncId} {xs:Array Operand} {ms:List MO} {cs:List aj} (K:o.op=.makeFunc (.func f) #[] xs) (D:∀n,o.dst=some n->n<N)
  (e:ms.length=xs.size/\∀(j:Nat) (x:Operand) (m:MO),xs.toList[j]? =some x->ms[j]? =some m->c8 x m=true)
  (hx:(ms.map σ.ev).mapM (fun v=>match v with|.one c=>if c.kP=true then none else some c|_=>none)=some cs) (hj:∀c∈cs,c≠ .bZ):o.wp P a w (Nx B E w0 N (σ.put o.dst (.one (.fn f cs)))) Q:=by
 have M:∀(ms:List MO) (xs:List Operand) (cs:List aj),ms.length=xs.length->(∀(j:Nat) (x:Operand) (m:MO),xs[j]? =some x->ms[j]? =some m->c8 x m=true)->
   (ms.map σ.ev).mapM (fun v=>match v with|.one c=>if c.kP=true then none else some c|_=>none)=some cs->(∀c∈cs,c≠ .bZ)->
   (xs.map a.eval).length=cs.length/\∀(j:Nat) (c:aj) (u:Value),cs[j]? =some c->(xs.map a.eval)[j]? =some u->(u.oneCell'=true/\jQ w G σ.h c u)/\∀m,c.j4 m->σ.used m=true:=by
  intro ms;induction ms with
  |nil=>
   intro xs cs hl _ hx _;have:xs=[]:=AN (by simpa using hl.symm);subst this;simp at hx;subst hx;simp
  |cons m ms J=>
   intro xs cs hl s hx hj;match xs,hl with
   |x::xs,hl=>
    simp only[If,List.mapM_cons,Option.bind_eq_bind,Option.pure_def] at hx;cases hm:σ.ev m with
    |one c=>
     rw[hm] at hx;by_cases g:c.kP=true
     ·simp[g] at hx
     ·simp only[g,if_false,zaZ,Option.bind_some] at hx;cases hr:(ms.map σ.ev).mapM (fun v=>match v with|.one c=>if c.kP=true then none else some c|_=>none) with
      |none=>rw[hr] at hx;simp at hx
      |some cs'=>
       rw[hr] at hx;simp at hx;subst hx;obtain⟨i1,i2⟩:=J xs cs' (by simpa using hl) (fun j x m b i=>s (j+1) x m b i) hr (fun c e=>hj c (by simp[e]));refine⟨by simp[i1],fun j L u d k=>?_⟩;cases j with
       |zero=>
        simp at d k;subst d;subst k;obtain⟨y,z⟩:=r.ev (s 0 x m rfl rfl);rw[hm] at y z;have t:c.kP=false:=by simpa using g
        have b:=(y.jp (hj c (by simp)));rw[wO _ _ _ _ _ t] at b;exact⟨⟨b.2,b.1⟩,fun q H=>z q (by show c.ref q;rw[aj.ZE c q t];exact H)⟩
       |succ j=>exact i2 j L u (by simpa using d) (by simpa using k)
    |agg iI=>rw[hm] at hx;simp at hx
    |ct l=>rw[hm] at hx;simp at hx
 obtain⟨C,p⟩:=M ms xs.toList cs (by simpa using e.1) e.2 hx hj;have O:∀m,(aj.fn f cs).ref m->σ.used m=true:=fun m hm=>by
  obtain⟨c,I,hm⟩:=hm;obtain⟨j,d,F⟩:=zab I;have A:j<(xs.toList.map a.eval).length:=by omega
  exact(p j c _ (by rw[AI d,F]) (AI A)).2 m hm
 refine lf r (v:=.func (.func f) #[] (xs.toList.map a.eval).toArray) ?_ (RA.je rfl ⟨xs.toList.map a.eval,rfl,C,fun j c u b i=>(p j c u b i).1⟩) O D;simp only[execOp,K,Instr.makeFunc];have:Array.map a.eval xs=(xs.toList.map a.eval).toArray:=by apply zba;simp
 simp[this]
theorem US {α:Type} {xs:List (List α)} {l k j:Nat} {c:α} (h:At (xs.drop l) k j c):At xs (l+k) j c:=by obtain⟨e,a,hj⟩:=h;rw[zar] at a;exact⟨e,a,hj⟩
theorem lK.drop {px:List (List PC)} (h:lK px) (l:Nat):lK (px.drop l):= ⟨fun k j c a=>h.1 _ _ _ (US a),fun k j c k' j' c' b a d f=>h.2 _ _ _ _ _ _ b (US a) (US d) (fun e=>f (by injection e with e1 e2;rw[show k=k' by omega,e2]))⟩
theorem HR.as8 (H:HR B E w G h used []) {n sz cap:Nat} {x:Option Addr} {xs:List (List PC)} {m:Mode} (hg:Good w (.list sz x cap xs)) (hs:Sep (.list sz x cap xs)) (ht:Kc w (.list sz x cap xs))
  (hl:∀b,nu b (.list sz x cap xs)->t9 G h b/\fA w b/\B<=b) (hn:used n=false):
  ∃G',HR B E w G' (aV h n (some (.row m.xF m sz (xs.map fun e=>e.map PC.er)))) (aV used n true) []/\
   cm w G h (fun n=>used n=true) w G' (aV h n (some (.row m.xF m sz (xs.map fun e=>e.map PC.er))))/\
   RC w G' (aV h n (some (.row m.xF m sz (xs.map fun e=>e.map PC.er)))) (.sl n sz 0 xs.length) (PC.val (.list sz x cap xs))/\
   ∀b,t9 G h b->¬nu b (.list sz x cap xs)->t9 G' (aV h n (some (.row m.xF m sz (xs.map fun e=>e.map PC.er)))) b:=by
 obtain⟨gk,Q,xr⟩:=ht;have f:∀b,bF b xs->bD b (.list sz x cap xs):=fun b ⟨k,j,c,v,z⟩=>.there _ _ _ _ k j c v z;have R:lK xs:=by cases hs with|list _ _ _ _ v z V=>exact⟨v,V⟩
 let S:Nat->Prop:=fun b=>m≠ .live/\bF b xs;have U:HR B E w ⟨fun b=>G.Im b\/S b,G.g⟩ h used []:=H.yR S (fun b hb=>(hl b (.inl (f b hb.2))).2.1.lt)
  (fun b hb q l u d=>(hl b (.inl (f b hb.2))).1.2.1 q l u d.symm) (fun b hb q t sz xs l=>(hl b (.inl (f b hb.2))).1.2.2 q t _ sz xs l) (fun b hb=>.inl (hl b (.inl (f b hb.2))).2.2)
 obtain⟨p,C,jM,y,L,K,I⟩:∃p:PB,(p.nl=true->xs=[]/\(true=true->p.cap=0))/\p.px=xs/\
   (p.nl=false->t9 ⟨fun b=>G.Im b\/S b,G.g⟩ h p.b/\fA w p.b/\B<=p.b/\∀b,bF b xs->b≠p.b)/\
   (p.nl=false->sY w p.b p.o sz xs/\xs.length<=p.cap/\Uy w p sz)/\kY p sz 0 xs.length (PC.val (.list sz x cap xs))/\(p.nl=false->nu p.b (.list sz x cap xs)):=by
  by_cases O:cap=0
  ·subst O;have hx:xs=[]:=AN (by omega);subst hx;exact⟨⟨true,0,0,0,[],x⟩,fun _=>⟨rfl,fun _=>rfl⟩,rfl,(fun a=>by cases a),(fun a=>by cases a),.inl ⟨rfl,rfl,rfl,rfl⟩,(fun a=>by cases a)⟩
  ·obtain⟨b,o,cur,e,rfl,hh,cY,EF,Y⟩:=xr.resolve_left O;have T:nu b (.list sz (some (ad b o)) cap xs):=.inr ⟨_,_,_,_,rfl,O⟩;obtain⟨l1,l2,Z⟩:=hl b T;have W:∀P,bF P xs->P≠b:=fun P ⟨k,j,c,v,z⟩ d=>Y k j c v (d▸z);refine⟨⟨false,b,o,cap,xs,none⟩,(fun a=>by cases a),rfl,fun _=>⟨⟨fun hi=>hi.elim l1.1 (fun A=>W b A.2 rfl),l1.2⟩,l2,Z,W⟩,fun _=>⟨?_,Q,EF,cur,e,hh,cY⟩,.inr ⟨rfl,some (ad b o),by simp[PC.val],by simpa using Q,fun _=>by simp⟩,fun _=>T⟩;cases hg with
   |nil _ _ _ _=>exact⟨by simp,by rintro k j c ⟨e,d,_⟩;simp at d,by rintro k j c ⟨e,d,_⟩;simp at d⟩
   |cons _ _ _ _ _ v z V h4 h5 X=>exact⟨h4,h5,X⟩
 subst jM;have gG:zI B E w ⟨fun b=>G.Im b\/S b,G.g⟩ m.xF m sz (p.px.map fun e=>e.map PC.er) p:=by
  refine⟨gk,rfl,fun h=>⟨(C h).1,fun _=>(C h).2 rfl⟩,fun a=>⟨(y a).2.1,(L a).1,(L a).2.1⟩,fun a _=>(L a).2.2,?_,fun h hm=>by rw[hm] at h;cases h⟩;cases hm:m with
  |aQ=>exact fun b hb=>.inr ⟨by simp[hm],hb⟩
  |aS=>exact⟨fun b hb=>⟨.inr ⟨by simp[hm],hb⟩,(hl b (.inl (f b hb))).2.1,.inl (hl b (.inl (f b hb))).2.2⟩,R⟩
  |live=>exact⟨fun b hb=>⟨fun hi=>hi.elim (hl b (.inl (f b hb))).1.1 (fun A=>A.1 hm),(hl b (.inl (f b hb))).2.1,.inl (hl b (.inl (f b hb))).2.2⟩,R⟩
 have Hn:=U.insert (w':=w) (n:=n) (blk:=.row m.xF m sz (p.px.map fun e=>e.map PC.er)) (p:=p) hn (fun _ _=>rfl) (zad _)
  (fun a=>⟨(y a).1,.inl (y a).2.2.1,(y a).2.1.lt⟩) (fun cs c q hb=>by cases hb) (by exact gG)
  (fun t m' D F hb hm N cd oH qf kU M ma b r=>(hl b (.inl (f b r))).1.2.2 N cd oH qf kU M)
  (fun t D F hb b r=>⟨fun a=>(y a).2.2.2 b r,fun N M qF d=>(hl b (.inl (f b r))).1.2.1 N M qF d.symm⟩)
  (fun t m' D F hb hm i pc b hi=>by simp at hi)
 refine⟨_,Hn,cm.trans (u2:=fun n=>used n=true) (fun _ h=>h) (cm.yR S _) (cm.insert U hn (fun _ _=>rfl)),fun _=>by simpa[cX] using K,fun b hb J=>?_⟩;refine⟨fun hi=>hi.elim hb.1 (fun A=>J (.inl (f b A.2))),fun q l u d=>?_,fun q t mo D F l r=>?_⟩
 ·by_cases s:q=n
  ·subst s;simp only[cX] at u d;exact J (d▸I u)
  ·rw[dJ _ _ _ _ s] at l;simp only[dJ _ _ _ _ s] at u d;exact hb.2.1 q l u d
 ·by_cases s:q=n
  ·subst s;simp only[cX] at r;exact J (.inl (f b r))
  ·rw[dJ _ _ _ _ s] at l;simp only[dJ _ _ _ _ s] at r;exact hb.2.2 q t mo D F l r
structure zG (B:Nat) (w:World) (G:Gh) (h:Nat->Option aA) (ps:List PC):Prop where
 hZ:∀pc∈ps,Good w pc/\Sep pc/\Kc w pc
 lone:∀pc∈ps,∀b,nu b pc->t9 G h b/\fA w b/\B<=b
 sb:ps.Pairwise fun p q=>∀b,nu b p->¬nu b q
theorem zG.tail {p:PC} {ps:List PC} (hi:zG B w G h (p::ps)) (hL:∀b,t9 G h b->¬nu b p->t9 G' h' b):zG B w G' h' ps:= ⟨fun q a=>hi.hZ q (by simp[a]),fun q a b hb=>⟨hL b (hi.lone q (by simp[a]) b hb).1 (fun hp=>(za0.1 hi.sb).1 q a b hp hb),(hi.lone q (by simp[a]) b hb).2⟩,(za0.1 hi.sb).2⟩
theorem HR.imp {m:Mode}:∀{ps r:List PC} {σ σ1:St} {G:Gh} {nm g:Nat} {l:List aj},HR B E w G σ.h σ.used []->σ.imp m nm (ps.map PC.er)=some (l,g,σ1)->zG B w G σ.h (ps++r)->
  ∃G',HR B E w G' σ1.h σ1.used []/\cm w G σ.h (fun n=>σ.used n=true) w G' σ1.h/\ed w G' σ1.h l (ps.map PC.val)/\(∀c∈l,∀q,c.ref q->σ1.used q=true)/\σ1.env=σ.env/\
   (∀q,σ.used q=true->σ1.used q=true)/\zG B w G' σ1.h r
 |[],r,σ,σ1,G,nm,g,l,H,hx,hi=>by
  simp only[zaN,St.imp] at hx;injection hx with hx;injection hx with o d;injection d with d h3;subst o h3;exact⟨G,H,cm.refl _ _ _ _,⟨rfl,by simp⟩,by simp,rfl,fun _ h=>h,by simpa using hi⟩
 |p::ps,r,σ,σ2,G,nm,g,l,H,hx,hi=>by
  have gx:∀(x:C) (hx:(match σ.imp m nm (ps.map PC.er) with|some (l,g,σ2)=>some (aj.c x::l,g,σ2)|none=>none)=some (l,g,σ2)) (hp:p.er=x) (I:∀b,¬nu b p) (J:Good w p),
    ∃G',HR B E w G' σ2.h σ2.used []/\cm w G σ.h (fun n=>σ.used n=true) w G' σ2.h/\ed w G' σ2.h l ((p::ps).map PC.val)/\(∀c∈l,∀q,c.ref q->σ2.used q=true)/\σ2.env=σ.env/\
     (∀q,σ.used q=true->σ2.used q=true)/\zG B w G' σ2.h r:=by
   intro x hx hp I J;split at hx
   ·rename_i U M S F;injection hx with hx;injection hx with o d;injection d with d h3;subst o d h3;obtain⟨G',y,t,i,A,D,s,v⟩:=HR.imp H F (hi.tail (fun b hb _=>hb));refine⟨G',y,t,⟨by simp[i.1],fun j c u hj f=>?_⟩,fun c e q a=>?_,D,s,v⟩
    ·cases j with
     |zero=>
      simp at hj f;subst hj;subst f;exact⟨PC.od p,p,hp,rfl,J,fun b hb=>absurd (.inl hb) (I b)⟩
     |succ j=>exact i.2 j c u (by simpa using hj) (by simpa using f)
    ·cases e with
     |head=>exact absurd a id
     |tail _ e=>exact A c e q a
   ·cases hx
  cases p with
  |int k n=>exact gx (.int k n) (by simp only[If,St.imp,PC.er] at hx;exact hx) (by simp[PC.er]) (fun b hb=>by rcases hb with hb|⟨_,_,_,_,hb,_⟩<;>cases hb) (.int _ _)
  |bool b=>exact gx (.bool b) (by simp only[If,St.imp,PC.er] at hx;exact hx) (by simp[PC.er]) (fun b hb=>by rcases hb with hb|⟨_,_,_,_,hb,_⟩<;>cases hb) (.bool _)
  |list sz x cap xs=>
   simp only[If,PC.fK,St.imp] at hx;split at hx
   ·rename_i σ1 F;split at hx
    ·rename_i U M S V;injection hx with hx;injection hx with o d;injection d with d h3;subst o d h3;obtain⟨hn,rfl⟩:=rD F;obtain⟨P,R,T⟩:=hi.hZ (.list sz x cap xs) (by simp);obtain⟨G1,O,Q,N,L⟩:=H.as8 (m:=m) P R T (hi.lone (.list sz x cap xs) (by simp)) hn;obtain⟨G',y,t,i,A,D,s,v⟩:=HR.imp O V (hi.tail L);have K:∀q,σ.used q=true->aV σ.used nm true q=true:=fun q a=>xS _ _ a;refine⟨G',y,cm.trans K Q t,⟨by simp[i.1],fun j c u hj f=>?_⟩,fun c e q a=>?_,D,fun q a=>s q (K q a),v⟩
     ·cases j with
      |zero=>
       simp at hj f;subst hj;subst f;exact⟨rfl,N.keep t fun q a=>by have z:q=nm:=a;subst z;exact cX _ _ _⟩
      |succ j=>exact i.2 j c u (by simpa using hj) (by simpa using f)
     ·cases e with
      |head=>have z:q=nm:=a;subst z;exact s _ (cX _ _ _)
      |tail _ e=>exact A c e q a
    ·cases hx
   ·cases hx
theorem HR.mb {m:Mode}:∀{b:List (K×List PC)} {σ σ1:St} {G:Gh} {nm:Nat} {a:List (Bool×List aj)},HR B E w G σ.h σ.used []->σ.mb m nm (b.map fun p=>(p.1,p.2.map PC.er))=some (a,σ1)->
  (∀p∈b,p.1≠ .ptr/\(p.1=.one->p.2.length=1))->zG B w G σ.h (b.flatMap (·.2))->
  ∃G',HR B E w G' σ1.h σ1.used []/\cm w G σ.h (fun n=>σ.used n=true) w G' σ1.h/\a.length=b.length/\
   (∀(j:Nat) (x:Bool×List aj) (p:K×List PC),a[j]? =some x->b[j]? =some p->RV w G' σ1.h x.1 x.2 (wa p))/\(∀x∈a,∀c∈x.2,∀q,c.ref q->σ1.used q=true)/\σ1.env=σ.env/\
   (∀q,σ.used q=true->σ1.used q=true)
 |[],σ,σ1,G,nm,a,H,hx,hk,hi=>by
  simp only[zaN,St.mb] at hx;injection hx with hx;injection hx with f h2;subst f h2;exact⟨G,H,cm.refl _ _ _ _,rfl,by simp,by simp,rfl,fun _ h=>h⟩
 |(k,ps)::b,σ,σ2,G,nm,a,H,hx,hk,hi=>by
  have i:=hk (k,ps) (by simp);have e:(match σ.imp m nm (ps.map PC.er) with
   |some (l,o,σ1)=>match σ1.mb m o (b.map fun p=>(p.1,p.2.map PC.er)) with
    |some (a,σ2)=>some ((decide (k=.agg),l)::a,σ2)
    |none=>none
   |none=>none)=some (a,σ2):=by
   cases k with
   |ptr=>exact absurd rfl i.1
   |one=>simp[St.mb] at hx;exact hx
   |agg=>simp[St.mb] at hx;exact hx
  clear hx;split at e
  ·rename_i l o σ1 N;split at e
   ·rename_i Mw jG O;injection e with hx;injection hx with f h2;subst f h2;obtain⟨G1,F,J,D,s,C,t,z⟩:=HR.imp H N (by simpa using hi);obtain⟨G',y,v,I,L,M,A,r⟩:=HR.mb F O (fun p hp=>hk p (by simp[hp])) z;refine⟨G',y,cm.trans t J v,by simp[I],fun j x p hj hp=>?_,fun x hx c g q d=>?_,A.trans C,fun q d=>r q (t q d)⟩
    ·cases j with
     |zero=>
      simp at hj hp;subst hj;subst hp;have u:=ed.keep v (fun c g q d=>s c g q d) D;cases k with
      |ptr=>exact absurd rfl i.1
      |agg=>exact⟨ps.map PC.val,rfl,u⟩
      |one=>
       have f:=i.2 rfl;match ps,f with
       |[p],_=>exact u
     |succ j=>exact L j x p (by simpa using hj) (by simpa using hp)
    ·cases hx with
     |head=>exact r q (s c g q d)
     |tail _ hx=>exact M x hx c g q d
   ·cases e
  ·cases e
theorem RA.oM {d:List (Bool×List aj)} {a:List (K×List PC)} (e:d.length=a.length) (hk:∀p∈a,p.1≠ .ptr/\(p.1=.one->p.2.length=1))
  (g:∀(j:Nat) (x:Bool×List aj) (p:K×List PC),d[j]? =some x->a[j]? =some p->RV w G h x.1 x.2 (wa p)):RA w G h (oM d) (zr a):=by
 match d,a,e with
 |[],[],_=>exact⟨[],rfl,rfl,by simp⟩
 |[(ag,cs)],[p],_=>
  have f:=g 0 (ag,cs) p rfl rfl;cases ag with
  |true=>exact f
  |false=>
   have i:ed w G h cs [wa p]:=f;match cs,i.1 with
   |[c],_=>exact .inr f
 |x::y::d,p::q::a,hl=>
  refine⟨(p::q::a).map wa,rfl,by simpa using hl.symm,fun j x' u hj b=>?_⟩;rw[so] at b;cases hp:(p::q::a)[j]? with
  |none=>rw[hp] at b;cases b
  |some k=>rw[hp] at b;simp at b;subst b;exact g j x' k hj hp
def Ka (P:Program) (T:bj):Prop:=∀f M,bj.find T.pure f=some M->dV P f M
def bX (P:Program) (f:FuncId):Bool:=
 match P.funcs[f]? with
 |some fn=>fn.body.isSome&&(fn.name != "runtime.NumGoroutine")
 |none=>false
theorem IZ {f:FuncId} (a:bX P f=true) (args:Array Value):(callFunc f args).run P w=.ok (.enter f args) w:=by unfold bX at a;split at a;rename_i fn d;simp only[zag,bne_iff_ne,ne_eq] at a;obtain⟨b,e⟩:=a;(cases hb:fn.body with|none=>rw[hb] at b;cases b|some c=>simp[callFunc,d,e,hb]);cases a
theorem Fr.call (F:Fr B E w0 w) (a:Fr w.heap.size Ex.no w w'):Fr B E w0 w':= F.grow (fun b hb=>a.block b hb id) a.size a.os a.tape a.output
theorem adT (r:R B E w0 N σ a w G) {T:bj} (V:Ka P T) {m:Mode} {f:FuncId} {as:List au} {vals:List Value} {σ1:St} (I:∀n,o.dst=some n->n<N)
  (Y:(execOp a.eval o).run P w=.ok (.enter f vals.toArray) w) (hl:vals.length=as.length)
  (X:∀(j:Nat) (x:au) (v:Value),as[j]? =some x->vals[j]? =some v->RA w G σ.h x v)
  (hx:qy T m o.dst f as σ=some σ1):o.wp P a w (Nx B E w0 N σ1) Q:=by
 unfold qy at hx;split at hx
 ·rename_i ds z;split at hx
  ·rename_i M S;split at hx
   ·rename_i rs L;split at hx
    ·rename_i s σ2 p;injection hx with hx;subst hx;have H:=r.hr.mS z hl X;unfold Oper.wp;rw[Y];refine(V f M S ds rs L w vals H).mono fun e w' ⟨C,p1,U,u,p4,g⟩=>?_;subst U;have t:∀b,b<w.heap.size->w'.heap[b]? =w.heap[b]? :=fun b hb=>g.block b hb id;have O:=r.hr.grow t g.size;have gV:zG B w' G σ.h (C.flatMap (·.2)):=by
      refine⟨p4.hZ,fun pc Z b hb=>?_,?_⟩
      ·obtain⟨n1,n2⟩:=p4.new pc Z b hb;refine⟨⟨fun hi=>?_,fun q d oC he=>?_,fun q gr mo sz xs d J=>?_⟩,n2,zau r.fr.size n1⟩
       ·have:=r.hr.jX b hi;omega
       ·have:=(r.hr.own q d oC).2.2;omega
       ·have:=r.hr.wb d J;omega
      ·rw[List.pairwise_iff_getElem];intro i j hi hj kC b hb;exact p4.sb i j _ _ b (by omega) (AI hi) (AI hj) hb
     rw[<-p1] at p;obtain⟨G',D,b2,W,b4,l,F,A⟩:=HR.mb O p u gV;have K:cm w G σ.h (fun n=>σ.used n=true) w' G' σ2.h:=cm.trans (fun _ h=>h) (cm.world (fun b hb=>t b (r.hr.jX b hb)) _) b2;have r2:R B E w0 N σ2 a w' G':=r.step F A K D (r.fr.call g);refine⟨G',r2.put (RA.oM W u b4) ?_ I⟩;intro q d;match s,d with
     |[],d=>obtain⟨x,hx,_⟩:=d;simp at hx
     |[(true,cs)],d=>obtain⟨c,k,d⟩:=d;exact l (true,cs) (by simp) c k q d
     |[(false,[c])],d=>exact l (false,[c]) (by simp) c (by simp) q d
     |[(false,[])],d=>exact absurd d id
     |[(false,_::_::_)],d=>exact absurd d id
     |x::y::s,d=>obtain⟨x',jW,c,k,d⟩:=d;exact l x' jW c k q d
    ·cases hx
   ·cases hx
  ·cases hx
 ·cases hx
theorem azq {b:List (Bool×List aj)} {q:Nat} (e:∀x∈b,∀c∈x.2,¬c.ref q):¬(oM b).ref q:=by
 intro a;match b,a with
 |[],a=>obtain⟨x,hx,_⟩:=a;simp at hx
 |[(true,cs)],a=>obtain⟨c,d,a⟩:=a;exact e (true,cs) (by simp) c d a
 |[(false,[c])],a=>exact e (false,[c]) (by simp) c (by simp) a
 |[(false,[])],a=>exact a
 |[(false,_::_::_)],a=>exact a
 |x::y::b,a=>obtain⟨x',f,c,d,a⟩:=a;exact e x' f c d a
def j8:List Operand->List MO->Bool
 |[],[]=>true
 |x::xs,m::ms=>c8 x m&&j8 xs ms
 |_,_=>false
theorem R.Ek (r:R B E w0 N σ a w G):∀{xs:List Operand} {ms:List MO},j8 xs ms=true->xs.length=ms.length/\ ∀(j:Nat) (x:au) (v:Value),(ms.map σ.ev)[j]? =some x->(xs.map a.eval)[j]? =some v->RA w G σ.h x v
 |[],[],_=>⟨rfl,by simp⟩
 |x::xs,m::ms,hc=>by simp only[j8,zag] at hc;obtain⟨i1,i2⟩:=r.Ek hc.2;refine⟨by simp[i1],fun j x' v hj b=>?_⟩;cases j with|zero=>simp at hj b;subst hj;subst b;exact(r.ev hc.1).1|succ j=>exact i2 j x' v (by simpa using hj) (by simpa using b)
 |[],_::_,hc=>by simp[j8] at hc
 |_::_,[],hc=>by simp[j8] at hc
theorem aqa (r:R B E w0 N σ a w G) {T:bj} (e:Ka P T) {m:Mode} {f:FuncId} {xs:Array Operand} {ms:List MO} {ts:Array TypeId} {σ1:St} (i:∀n,o.dst=some n->n<N) (g:o.op=.call {callee:=.value (.func f),args:=xs,argTypes:=ts}) (d:bX P f=true) (hm:j8 xs.toList ms=true) (hx:qy T m o.dst f (ms.map σ.ev) σ=some σ1):o.wp P a w (Nx B E w0 N σ1) Q:=by obtain⟨h,c⟩:=r.Ek hm;refine adT r e (vals:=xs.toList.map a.eval) i ?_ (by simpa using h) c hx;have b:(xs.toList.map a.eval).toArray=xs.map a.eval:=(by apply zba;simp);rw[b];simp[execOp,g,resolve,Deferred.ofValue,invoke,Act.eval,IZ d]
theorem aqd (r:R B E w0 N σ a w G) {T:bj} (s:Ka P T) {m:Mode} {f:FuncId} {x:Operand} {mx:MO} {e:List aj} {xs:Array Operand} {ms:List MO} {ts:Array TypeId} {σ1:St} (l:∀n,o.dst=some n->n<N) (A:o.op=.call {callee:=.value x,args:=xs,argTypes:=ts}) (k:bX P f=true) (p:c8 x mx=true) (hm:j8 xs.toList ms=true) (t:σ.ev mx=.one (.fn f e)) (hx:qy T m o.dst f (ms.map σ.ev++e.map .one) σ=some σ1):o.wp P a w (Nx B E w0 N σ1) Q:=by obtain⟨d,H⟩:=r.Ek hm;obtain⟨h,x2⟩:=r.ev p;rw[t] at h;obtain⟨vs,D,F,z⟩:=(h.jp (by simp)).1;refine adT r s (vals:=xs.toList.map a.eval++vs) l ?_ (by simp[d,F]) (fun j y v hj b=>?_) hx;have u:(xs.toList.map a.eval++vs).toArray=xs.map a.eval++vs.toArray:=(by apply zba;simp);rw[u];simp[execOp,A,resolve,D,Deferred.ofValue,invoke,IZ k];have KK:xs.size=ms.length:=(by simpa using d);by_cases q:j<ms.length;rw[AT (by simpa using q)] at hj;rw[AT (by simp;omega)] at b;exact H j y v hj b;rw[By (by simp;omega)] at hj;rw[By (by simp;omega)] at b;simp only[zaj,<-d] at hj b;rw[so] at hj;simp only[d] at hj b;cases hc:e[j - ms.length]? with|none=>rw[hc] at hj;cases hj|some c=>rw[hc] at hj;simp at hj;subst hj;obtain⟨C,g⟩:=z _ c v hc b;refine RA.je C ?_;by_cases i:c.kP=false;rw[wO _ _ _ _ _ i];exact g;cases c<;>first|exact g.elim|(simp[aj.kP] at i)
end
def gB {α:Type}:List (Option Mode)->List α->List (Mode×α)
 |some m::fs,x::xs=>(m,x)::gB fs xs
 |none::fs,_::xs=>gB fs xs
 |_,_=>[]
def rU {α:Type}:List (Option Mode)->List α->List α
 |some _::fs,_::xs=>rU fs xs
 |none::fs,x::xs=>x::rU fs xs
 |[],xs=>xs
 |_,[]=>[]
def e7 {α:Type}:cR->List (List α)->List (Mode×α)
 |s::sig,xs::xss=>gB s xs++e7 sig xss
 |_,_=>[]
def tZ {α:Type}:cR->List (List α)->List α
 |s::sig,xs::xss=>rU s xs++tZ sig xss
 |[],xss=>xss.flatten
 |_,[]=>[]
theorem Pm {α β:Type} (f:α->β):∀(s:List (Option Mode)) (xs:List α),gB s (xs.map f)=(gB s xs).map fun x=>(x.1,f x.2)
 |some m::fs,x::xs=>by simp only[If,gB,Pm f fs xs]
 |none::fs,x::xs=>by simp only[If,gB,Pm f fs xs]
 |[],_=>by simp[gB]
 |some m::fs,[]=>rfl
 |none::fs,[]=>rfl
theorem Hq {α β:Type} (f:α->β):∀(s:cR) (xs:List (List α)),e7 s (xs.map fun l=>l.map f)=(e7 s xs).map fun x=>(x.1,f x.2)
 |s::sig,xs::xss=>by simp only[If,e7,zax,Pm f s xs,Hq f sig xss]
 |[],_=>by simp[e7]
 |s::sig,[]=>rfl
def Rc (s:List (Option Mode)) (n:Nat):Prop:=s=[]\/∃j,n=j+1/\s=OF j none++[some .aS]
theorem ad7 {α:Type} (m:Mode) (y:α):∀(xs:List α),gB (OF xs.length none++[some m]) (xs++[y])=[(m,y)]
 |[]=>rfl
 |x::xs=>ad7 m y xs
theorem anh {α:Type} (m:Mode) (y:α):∀(xs:List α),rU (OF xs.length none++[some m]) (xs++[y])=xs
 |[]=>rfl
 |x::xs=>congrArg (x::·) (anh m y xs)
structure DP (w:World) (m:Mode) (pc:PC):Prop where
 sep:Sep pc
 un:∀b,bD b pc->fA w b
 f6:∃sz a cap xs,pc=.list sz a cap xs/\0<sz/\(∀b o,a=some (ad b o)->¬bF b xs)/\yq m (xs.map fun e=>e.map PC.er)=true
structure PA where
 k:K
 ps:List PC
 b:Nat
 o:Nat
def DI (w:World) (d:Dv) (v:Value) (p:PA):Prop:=
 d=(p.k,p.ps.map PC.er)/\(∀pc∈p.ps,Good w pc)/\
 match p.k with
 |.one=>p.ps.map PC.val=[v]
 |.agg=>v=.agg (p.ps.map PC.val).toArray
 |.ptr=>v=.pointer (some (ad p.b p.o))/\p.b<w.heap.size/\∀j c,p.ps[j]? =some c->w.cell? (ad p.b (p.o+j))=some c.val
structure BM (w:World) (sig:cR) (ds:List Dv) (vals:List Value) (pas:List PA):Prop where
 l1:vals.length=ds.length
 l2:pas.length=ds.length
 at_:∀(i:Nat) (d:Dv) (v:Value) (p:PA),ds[i]? =some d->vals[i]? =some v->pas[i]? =some p->DI w d v p
 ok:∀x∈e7 sig (pas.map (·.ps)),DP w x.1 x.2
 sb:(e7 sig (pas.map (·.ps))).Pairwise fun x y=>∀b,bD b x.2->¬bD b y.2
 free:∀pc∈tZ sig (pas.map (·.ps)),∀x∈e7 sig (pas.map (·.ps)),∀b,bD b pc->¬bD b x.2
 ptr:∀p∈pas,p.k=.ptr->∀x∈e7 sig (pas.map (·.ps)),¬bD p.b x.2
 axm:∀(i:Nat) (p:PA) (s:List (Option Mode)),pas[i]? =some p->sig[i]? =some s->p.k=.ptr->Rc s p.ps.length
def B6 (fl:List (Mode×PC)):Ex:=⟨fun b=>∃x∈fl,bD b x.2,fun _=>none,fun _ _ h=>(by cases h),fun _=>True⟩
structure ua (w:World) (m:Mode) (pc eW:PC):Prop where
 val:eW.val=pc.val
 hZ:Good w eW
 sep:Sep eW
 sub:∀b,bD b eW->bD b pc
 flat:yq m (match eW.er with|.list _ xs=>xs|_=>[])=true
 live:∀sz a cap xs ba a' oy aH,pc=.list sz a cap xs->eW=.list ba a' oy aH->ba=sz/\a'=a/\oy=cap/\aH.length=xs.length/\
  (m=.live->∀k j c,At xs k j c->c.jY=true->∃c',At aH k j c'/\c'.val=c.val/\c'.jY=true)
def BN (P:Program) (f:FuncId) (sig:cR) (M:List Dv->Option (List Dv×List C)):Prop:=
 ∀ds rs eV,M ds=some (rs,eV)->∀(w:World) (vals:List Value) (pas:List PA),BM w sig ds vals pas->Calls P f vals.toArray w fun e w'=>
  ∃bQ:List (K×List PC),bQ.map (fun p=>(p.1,p.2.map PC.er))=rs/\e=.returned (zr bQ)/\(∀p∈bQ,p.1≠ .ptr/\(p.1=.one->p.2.length=1))/\
   BO w' w.heap.size (bQ.flatMap (·.2))/\Fr w.heap.size (B6 (e7 sig (pas.map (·.ps)))) w w'/\
   ∃qs:List PC,qs.map PC.er=eV/\qs.length=(e7 sig (pas.map (·.ps))).length/\
    ∀(i:Nat) (x:Mode×PC) (q:PC),(e7 sig (pas.map (·.ps)))[i]? =some x->qs[i]? =some q->ua w' x.1 x.2 q
section
variable {B N:Nat} {E:Ex} {w0 w w':World} {G G':Gh} {h h':Nat->Option aA} {used:Nat->Bool} {P:Program} {o:Oper} {a:Act} {σ σ':St} {Q:Exit->Act->World->Prop}
def sP (sz:Nat) (p:PB):PC:=.list sz (if p.nl=true then p.na else some (ad p.b p.o)) p.cap p.px
theorem akp {a:Bool} {m:Mode} {sz:Nat} {xs:List (List C)} {p:PB} (hr:zI B E w G a m sz xs p):(sP sz p).er=.list sz xs:=by rw[sP,PC.fK,hr.er]
theorem azA {c:Bool} {m:Mode} {sz:Nat} {xs:List (List C)} {p:PB} (hr:zI B E w G c m sz xs p) {v:Value} (d:kY p sz 0 xs.length v):(sP sz p).val=v:=by have b:p.px.length=xs.length:=(by rw[hr.er];simp);rcases d with⟨hn,rfl,_,hl⟩|⟨hn,a,rfl,hc,ha⟩;simp[sP,PC.val,hn,b,hl];have:=ha (.inr rfl);subst this;simp[sP,PC.val,hn,b]
theorem azz {e:Bool} {m:Mode} {sz:Nat} {xs:List (List C)} {p:PB} (hr:zI B E w G e m sz xs p):Good w (sP sz p):=by unfold sP;by_cases b:p.px=[];rw[b];exact .nil _ _ _ hr.pos;have c:p.nl=false:=(by cases hq:p.nl with|false=>rfl|true=>exact absurd (hr.nl hq).1 b);obtain⟨a1,a,d⟩:=hr.f6 c;rw[ak (by simp[c])];exact .cons _ _ _ _ _ b d hr.pos a.1 a.2.1 a.2.2
theorem ZN {sz:Nat} {p:PB} {b:Nat} (hn:p.nl=true->p.px=[]) (h:bD b (sP sz p)):(p.nl=false/\b=p.b)\/bF b p.px:=by unfold sP at h;rw[bD.pq] at h;rcases h with⟨d,o,a⟩|⟨k,j,c,e,hb⟩;(cases hq:p.nl with|true=>exact absurd (hn hq) d|false=>rw[hq] at a;simp at a;exact .inl ⟨rfl,(q9 a).1.symm⟩);exact .inr ⟨k,j,c,e,hb⟩
def xd (G:Gh) (n b:Nat):Prop:=((G.g n).nl=false/\b=(G.g n).b)\/bF b (G.g n).px
structure x6 (B:Nat) (E:Ex) (w:World) (G:Gh) (h:Nat->Option aA) (it:eK) (md:Mode) (pc:PC):Prop where
 ok:DP w md pc
 hZ:Good w pc
 at_:match it with
  |.nil sz=>pc=.list sz none 0 []
  |.row n=>∃gr m sz xs,h n=some (.row gr m sz xs)/\m≠ .aQ/\(md=.live->m=.live)/\pc=sP sz (G.g n)/\yq md xs=true/\(m=.live->gr=false)
  |.nest n k off=>∃gr sz xs,h n=some (.row gr .live sz xs)/\md=.aS/\At (G.g n).px k off pc/\gr=false
theorem x6.rj {it:eK} {q:Mode} {pc:PC} (H:HR B E w G h used []) (i:x6 B E w G h it q pc) {b:Nat} (hb:bD b pc): ∃n a m sz xs,it.fV=some n/\h n=some (.row a m sz xs)/\m≠ .aQ/\xd G n b/\((∀b,¬bF b (G.g n).px)\/m=.live):=by have ha:=i.at_;cases it with|nil sz=>have ha:pc=.list sz none 0 []:=ha;subst ha;rw[bD.pq] at hb;rcases hb with⟨hb,_⟩|⟨k,j,c,⟨e,f,_⟩,_⟩;exact absurd rfl hb;simp at f|row n=>obtain⟨a,m,sz,xs,d,p,l,rfl,r,_⟩:=ha;have hr:=H.row n a m sz xs d;refine⟨n,a,m,sz,xs,rfl,d,p,ZN (fun t=>(hr.nl t).1) hb,?_⟩;(cases q with|live=>exact .inr (l rfl)|aQ=>cases r|aS=>left;intro x y;have o:iV xs=true:=r;rw[hr.er] at o;obtain⟨k,j,c,⟨e,f,hj⟩,v⟩:=y;have s:=IT.1 o (e.map PC.er) (by simp only[Pe];exact⟨e,co f,rfl⟩);have u:=IT.1 s c.er (by simp only[Pe];exact⟨c,co hj,rfl⟩);exact(Sep.lE u).2 x v)|nest n k off=>obtain⟨a,sz,xs,d,p,l,_⟩:=ha;exact⟨n,a,.live,sz,xs,rfl,d,by simp,.inr ⟨k,off,pc,l,hb⟩,.inr rfl⟩
theorem HR.K8 (H:HR B E w G h used []) {n c:Nat} (v:n≠c) {a o:Bool} {m t:Mode} {sz j:Nat} {xs l:List (List C)} (i:h n=some (.row a m sz xs)) (f:h c=some (.row o t j l)) (k:(∀b,¬bF b (G.g c).px)\/t=.live) {b:Nat} (hb:xd G n b):¬xd G c b:=by have z:h n≠none:=(by rw[i];simp);have A:h c≠none:=(by rw[f];simp);have own:∀{p q:Nat} {a:Bool} {m:Mode} {sz:Nat} {xs:List (List C)},h p≠none->h q=some (.row a m sz xs)->(G.g p).nl=false->¬bF (G.g p).b (G.g q).px:=(by intro p q a m sz xs hp u hl r;have y:=(H.row q a m sz xs u).mode;cases m with|aQ=>exact(H.own p hp hl).1 (y _ r)|aS=>exact(H.own p hp hl).1 (y.1 _ r).1|live=>exact H.live q a sz xs u _ r p hp hl rfl);rintro(⟨l2,rfl⟩|e);rcases hb with⟨l1,d⟩|d;exact H.inj n c z A v l1 l2 d.symm;exact own A i l2 d;rcases hb with⟨l1,rfl⟩|d;exact own z f l1 e;rcases k with k|rfl;exact k b e;have s:=(H.row c o .live j l f).mode;have x:=(H.row n a m sz xs i).mode;cases m with|aQ=>exact(s.1 b e).1 (x b d)|aS=>exact(s.1 b e).1 (x.1 b d).1|live=>exact H.ji n c a .live sz xs o .live j l i f (by simp) (by simp) v b d e
theorem HR.item (H:HR B E w G h used []) {y:Mode} {c:aj} {it:eK} {x:C} {v:Value} (hx:xD h y c=some (it,x)) (q:RC w G h c v):
  ∃pc:PC,pc.er=x/\pc.val=v/\x6 B E w G h it y pc/\it.fV=c.fV:=by
 unfold xD at hx;split at hx
 ·rename_i sz;split at hx
  ·rename_i D;injection hx with hx;injection hx with p h2;subst p h2;have dH:v=.slice none 0 0:=q;subst dH;refine⟨.list sz none 0 [],by simp[PC.fK],rfl,⟨⟨?_,?_,sz,none,0,[],rfl,D.1,(fun b o h=>by cases h),?_⟩,.nil _ _ _ D.1,rfl⟩,rfl⟩
   ·refine .list _ _ _ _ ?_ ?_ ?_
    ·rintro k j c ⟨e,a,_⟩;simp at a
    ·rintro b o k j c _ ⟨e,a,_⟩;simp at a
    ·rintro k j c k' j' c' b ⟨e,a,_⟩;simp at a
   ·intro b hb;rw[bD.pq] at hb;rcases hb with⟨hb,_⟩|⟨k,j,c,⟨e,a,_⟩,_⟩
    ·exact absurd rfl hb
    ·simp at a
   ·cases y with
    |aQ=>exact absurd rfl D.2
    |aS=>rfl
    |live=>rfl
  ·cases hx
 ·rename_i n sz lo len;split at hx
  ·rename_i z m d xs hn;split at hx
   ·rename_i u;obtain⟨hm,yG,rfl,rfl,rfl,t,T⟩:=u;injection hx with hx;injection hx with p h2;subst p h2;have A:h n≠none:=by rw[hn];simp
    have hs:kY (G.g n) d 0 xs.length v:=q A;have hr:=H.row n z m d xs hn;have Q:(∀b,bF b (G.g n).px->fA w b)/\lK (G.g n).px/\(∀b,bF b (G.g n).px->(G.g n).nl=false->b≠(G.g n).b):=by
     have r:=hr.mode;cases m with
     |aQ=>exact absurd rfl hm
     |aS=>exact⟨fun b hb=>(r.1 b hb).2.1,r.2,fun b hb hl S=>(H.own n A hl).1 (S▸(r.1 b hb).1)⟩
     |live=>exact⟨fun b hb=>(r.1 b hb).2.1,r.2,fun b hb hl=>H.live n z d xs hn b hb n A hl⟩
    obtain⟨R,N,o3⟩:=Q;have J:∀b o,(if(G.g n).nl=true then(G.g n).na else some (ad (G.g n).b (G.g n).o))=some (ad b o)->¬bF b (G.g n).px:=by
     intro b o l i;cases f:(G.g n).nl with
     |true=>rw[(hr.nl f).1] at i;obtain⟨k,j,c,⟨e,a,_⟩,_⟩:=i;simp at a
     |false=>
      rw[f] at l;simp at l;exact o3 b i f (q9 l).1.symm
    refine⟨sP d (G.g n),akp hr,azA hr hs,⟨⟨.list _ _ _ _ N.1 (fun b o k j c l hk hb=>J b o l ⟨k,j,c,hk,hb⟩) N.2,fun b hb=>?_,d,_,_,_,rfl,hr.pos,J,by rw[<-hr.er];exact t⟩,azz hr,
     z,m,d,xs,hn,hm,yG,rfl,t,T⟩,rfl⟩
    rcases ZN (fun f=>(hr.nl f).1) hb with⟨hl,rfl⟩|i
    ·exact(hr.f6 hl).1
    ·exact R b i
   ·cases hx
  ·cases hx
 ·rename_i n k aO off sz len;split at hx
  ·rename_i d xs hn;split at hx
   ·rename_i u;obtain⟨rfl,rfl⟩:=u;split at hx
    ·rename_i s ys F;split at hx
     ·rename_i t;injection hx with hx;injection hx with p h2;subst p h2;obtain⟨pc,p1,X,L⟩:=q false xs hn;have hr:=H.row n false .live d xs hn;have Z:(G.g n).nl=false:=by
       cases f:(G.g n).nl with
       |false=>rfl
       |true=>obtain⟨e,a,_⟩:=p1;rw[(hr.nl f).1] at a;simp at a
      have I:Good w pc:=(hr.f6 Z).2.1.2.2 _ _ _ p1;have M:pc.er=.list s ys:=by
       obtain⟨e,a,hj⟩:=p1;rw[hr.er] at F;simp[a,hj] at F;exact F
      have U:=hr.mode.2.1 _ _ _ p1;cases pc with
      |int k n=>cases L
      |bool b=>cases L
      |list O a' P px'=>
       rw[PC.fK] at M;injection M with Y g2;subst Y;have K:iV (px'.map fun e=>e.map PC.er)=true:=by rw[g2];exact t
       refine⟨_,by rw[PC.fK,g2],X,⟨⟨U,fun b hb=>(hr.mode.1 b ⟨k,off,_,p1,hb⟩).2.1,O,a',P,px',rfl,?_,fun b o _ i=>?_,K⟩,I,false,d,xs,hn,rfl,p1,rfl⟩,rfl⟩
       ·cases I with
        |nil _ _ _ h=>exact h
        |cons _ _ _ _ _ _ _ h=>exact h
       ·obtain⟨kk,jj,c,⟨e,a,hj⟩,q⟩:=i;have V:=IT.1 K (e.map PC.er) (by simp only[Pe];exact⟨e,co a,rfl⟩);have W:=IT.1 V c.er (by simp only[Pe];exact⟨c,co hj,rfl⟩);exact(Sep.lE W).2 b q
     ·cases hx
    ·cases hx
   ·cases hx
  ·cases hx
 ·cases hx
theorem HR.abw (H:HR B E w G h used []) {c:aj} {x:C} {v:Value} (hx:Am.dE h c=some x) (i:RC w G h c v): ∃pc:PC,pc.er=x/\pc.val=v/\Good w pc/\∀b,bD b pc->G.Im b\/∃n a m sz xs,c.fV=some n/\h n=some (.row a m sz xs)/\xd G n b:=by cases c with|c y=>simp only[Am.dE] at hx;injection hx with hx;subst hx;obtain⟨pc,z,t,F,s⟩:=i;exact⟨pc,z,t,F,fun b hb=>.inl (s b hb)⟩|nil sz=>simp only[Am.dE] at hx;split at hx;rename_i D;injection hx with hx;subst hx;have I:v=.slice none 0 0:=i;subst I;refine⟨.list sz none 0 [],by simp[PC.fK],rfl,.nil _ _ _ D,fun b hb=>?_⟩;rw[bD.pq] at hb;rcases hb with⟨hb,_⟩|⟨k,j,c,⟨e,f,_⟩,_⟩;exact absurd rfl hb;simp at f;cases hx|sl n sz lo len=>simp only[Am.dE] at hx;split at hx;rename_i a m d xs hn;split at hx;rename_i l;obtain⟨rfl,hl⟩:=l;injection hx with hx;subst hx;have hs:kY (G.g n) d lo len v:=i (by rw[hn];simp);obtain⟨q,A,p,o⟩:=Nw (H.row n a m d xs hn) hs hl;exact⟨_,q,A,p,fun b hb=>.inr ⟨n,a,m,d,xs,rfl,hn,o b hb⟩⟩;cases hx;cases hx|cF n k aO off sz len=>simp only[Am.dE] at hx;split at hx;rename_i a d xs hn;split at hx;rename_i l;subst l;obtain⟨pc,p1,r,p3⟩:=i a xs hn;have hr:=H.row n a .live d xs hn;have u:(G.g n).nl=false:=(by cases hq:(G.g n).nl with|false=>rfl|true=>obtain⟨e,f,_⟩:=p1;rw[(hr.nl hq).1] at f;simp at f);refine⟨pc,?_,r,(hr.f6 u).2.1.2.2 _ _ _ p1,fun b hb=>.inr ⟨n,a,.live,d,xs,rfl,hn,.inr ⟨k,off,pc,p1,hb⟩⟩⟩;obtain⟨e,f,hj⟩:=p1;rw[hr.er] at hx;simp[f,hj] at hx;exact hx;cases hx;cases hx|ptr _ _ _ _=>simp[Am.dE] at hx|dN _ _=>simp[Am.dE] at hx|dh _ _ _ _ _ _=>simp[Am.dE] at hx|fn _ _=>simp[Am.dE] at hx|dU _ _ _ _ _ _=>simp[Am.dE] at hx|bZ=>simp[Am.dE] at hx
theorem afX {ns:List Nat} {n:Nat} {b:aA} (hx:fv h ns n=some b):h n=some b/\n∉ns:=by unfold fv at hx;split at hx;cases hx;rename_i a;exact⟨hx,fun hm=>a (by simpa using hm)⟩
theorem anr {ns:List Nat} {c:aj} {x:C} (hx:dE (fv h ns) c=some x):dE h c=some x/\∀n,c.fV=some n->n∉ns:=by cases c with|c y=>exact⟨hx,by intro n hn;cases hn⟩|nil sz=>exact⟨hx,by intro n hn;cases hn⟩|sl n sz lo len=>simp only[Am.dE] at hx;split at hx;rename_i e m f xs hn;obtain⟨d,b⟩:=afX hn;exact⟨by simp only[Am.dE,d];exact hx,by intro q a;injection a with a;subst a;exact b⟩;cases hx|cF n k aO off sz len=>simp only[Am.dE] at hx;split at hx;rename_i e f xs hn;obtain⟨d,b⟩:=afX hn;exact⟨by simp only[Am.dE,d];exact hx,by intro q a;injection a with a;subst a;exact b⟩;cases hx|ptr _ _ _ _=>simp[Am.dE] at hx|dN _ _=>simp[Am.dE] at hx|dh _ _ _ _ _ _=>simp[Am.dE] at hx|fn _ _=>simp[Am.dE] at hx|dU _ _ _ _ _ _=>simp[Am.dE] at hx|bZ=>simp[Am.dE] at hx
def N0 (G:Gh) (h:Nat->Option aA) (ns:List Nat) (pc:PC):Prop:=
 ∀b,bD b pc->G.Im b\/∃n gr m sz xs,n∉ns/\h n=some (.row gr m sz xs)/\xd G n b
structure ql (B:Nat) (E:Ex) (w:World) (G:Gh) (h:Nat->Option aA) (its:List (eK×Mode)) (fl:List (Mode×PC)):Prop where
 len:its.length=fl.length
 at_:∀(i:Nat) (it:eK×Mode) (x:Mode×PC),its[i]? =some it->fl[i]? =some x->it.2=x.1/\x6 B E w G h it.1 x.1 x.2
theorem ql.nil:ql B E w G h [] []:=⟨rfl,by intro i it x h;simp at h⟩
theorem ql.cons {it:eK×Mode} {a:List (eK×Mode)} {x:Mode×PC} {fl:List (Mode×PC)} (c:it.2=x.1) (e:x6 B E w G h it.1 x.1 x.2) (b:ql B E w G h a fl):ql B E w G h (it::a) (x::fl):=by refine⟨by simp[b.len],fun i d x' hi hx=>?_⟩;cases i with|zero=>simp at hi hx;subst hi;subst hx;exact⟨c,e⟩|succ i=>exact b.at_ i d x' (by simpa using hi) (by simpa using hx)
theorem ql.append {a d:List (eK×Mode)} {fl c:List (Mode×PC)} (b:ql B E w G h a fl) (f:ql B E w G h d c):ql B E w G h (a++d) (fl++c):=by refine⟨by simp[b.len,f.len],fun i it x hi hx=>?_⟩;by_cases e:i<a.length;rw[AT e] at hi;rw[AT (by rw[<-b.len];exact e)] at hx;exact b.at_ i it x hi hx;rw[By (by omega)] at hi;rw[By (by rw[<-b.len];omega)] at hx;rw[b.len] at hi;exact f.at_ _ it x hi hx
theorem HR.nY (H:HR B E w G h used []) {ns:List Nat}:∀{r:List (Option Mode)} {cs:List aj} {xs:List C} {i:List (eK×Mode)} {vs:List Value},Am.nY h (fv h ns) r cs=some (xs,i)->ed w G h cs vs->
  ∃ps:List PC,ps.map PC.er=xs/\ps.map PC.val=vs/\(∀pc∈ps,Good w pc)/\ql B E w G h i (gB r ps)/\i.filterMap (·.1.fV)=rH r cs/\∀pc∈rU r ps,N0 G h ns pc
 |[],cs,xs,i,vs,hx,k=>by
  simp only[Am.nY] at hx;split at hx
  ·rename_i ys hy;injection hx with hx;injection hx with g e;subst g e;have R:∀(cs:List aj) (xs:List C) (vs:List Value),Am.ie (fv h ns) cs=some xs->ed w G h cs vs->∃ps:List PC,ps.map PC.er=xs/\ps.map PC.val=vs/\(∀pc∈ps,Good w pc)/\∀pc∈ps,N0 G h ns pc:=by
    intro cs;induction cs with
    |nil=>
     intro xs vs hx k;simp only[Am.ie] at hx;injection hx with hx;subst hx;have:vs=[]:=AN (by simpa using k.1);subst this;exact⟨[],rfl,rfl,by simp,by simp⟩
    |cons c cs Q=>
     intro xs vs hx k;simp only[Am.ie] at hx;split at hx
     ·rename_i x K F I;injection hx with hx;subst hx;obtain⟨a,l⟩:=k;match vs,a with
      |v::vs,a=>
       obtain⟨M,O⟩:=anr F;obtain⟨pc,A,D,y,z⟩:=H.abw M (l 0 c v rfl rfl).2;obtain⟨ps,o,t,p,s⟩:=Q K vs I ⟨by simpa using a,fun j c u g e=>l (j+1) c u g e⟩;refine⟨pc::ps,by simp[A,o],by simp[D,t],fun q d=>?_,fun q d=>?_⟩
       ·cases d with
        |head=>exact y
        |tail _ d=>exact p q d
       ·cases d with
        |head=>exact fun b hb=>(z b hb).imp id fun⟨n,L,m,sz,xs,hn,g,e⟩=>⟨n,L,m,sz,xs,O n hn,g,e⟩
        |tail _ d=>exact s q d
     ·cases hx
   obtain⟨ps,o,t,p,s⟩:=R cs ys vs hy k;exact⟨ps,o,t,p,by simpa[gB] using ql.nil,by simp[rH],by simpa[rU] using s⟩
  ·cases hx
 |f::r,[],xs,i,vs,hx,k=>by cases f<;>simp[Am.nY] at hx
 |none::r,c::cs,xs,i,vs,hx,k=>by
  simp only[Am.nY] at hx;split at hx
  ·rename_i x K P F I;injection hx with hx;injection hx with g e;subst g e;obtain⟨a,l⟩:=k;match vs,a with
   |v::vs,a=>
    obtain⟨M,O⟩:=anr F;obtain⟨pc,A,D,y,z⟩:=H.abw M (l 0 c v rfl rfl).2;obtain⟨ps,o,t,p,s,N,J⟩:=H.nY I (vs:=vs) ⟨by simpa using a,fun j c u g e=>l (j+1) c u g e⟩;refine⟨pc::ps,by simp[A,o],by simp[D,t],fun q d=>?_,by simpa[gB] using s,by simpa[rH] using N,fun q d=>?_⟩
    ·cases d with
     |head=>exact y
     |tail _ d=>exact p q d
    ·simp only[rU] at d;cases d with
     |head=>exact fun b hb=>(z b hb).imp id fun⟨n,L,m,sz,xs,hn,g,e⟩=>⟨n,L,m,sz,xs,O n hn,g,e⟩
     |tail _ d=>exact J q d
  ·cases hx
 |some md::r,c::cs,xs,i,vs,hx,k=>by
  simp only[Am.nY] at hx;split at hx
  ·rename_i it x K P F I;injection hx with hx;injection hx with g e;subst g e;obtain⟨a,l⟩:=k;match vs,a with
   |v::vs,a=>
    obtain⟨pc,A,D,y,z⟩:=H.item F (l 0 c v rfl rfl).2;obtain⟨ps,o,t,p,s,N,J⟩:=H.nY I (vs:=vs) ⟨by simpa using a,fun j c u g e=>l (j+1) c u g e⟩;refine⟨pc::ps,by simp[A,o],by simp[D,t],fun q d=>?_,?_,?_,fun q d=>J q (by simpa[rU] using d)⟩
    ·cases d with
     |head=>exact y.hZ
     |tail _ d=>exact p q d
    ·simp only[gB];exact ql.cons rfl y s
    ·simp only[rH,<-z,<-N];cases jT:it.fV with
     |none=>simp[jT]
     |some n=>simp[jT]
  ·cases hx
theorem HR.qc (H:HR B E w G h used []) {ns:List Nat}:∀{as:List (Bool×List aj)} {sig:cR} {ds:List Dv} {b:List (eK×Mode)} {vals:List Value},Am.qc h (fv h ns) sig as=some (ds,b)->vals.length=as.length->
  (∀(j:Nat) (x:Bool×List aj) (v:Value),as[j]? =some x->vals[j]? =some v->RV w G h x.1 x.2 v)->
  ∃pas:List PA,pas.length=ds.length/\vals.length=ds.length/\(∀(i:Nat) (d:Dv) (v:Value) (p:PA),ds[i]? =some d->vals[i]? =some v->pas[i]? =some p->DI w d v p)/\(∀p∈pas,p.k≠ .ptr)/\
   ql B E w G h b (e7 sig (pas.map (·.ps)))/\b.filterMap (·.1.fV)=sH sig as/\∀pc∈tZ sig (pas.map (·.ps)),N0 G h ns pc
 |[],sig,ds,b,vals,hx,hl,hc=>by
  simp only[Am.qc] at hx;injection hx with hx;injection hx with g f;subst g f;refine⟨[],rfl,by simpa using hl,by simp,by simp,?_,?_,?_⟩
  ·cases sig<;>exact ql.nil
  ·cases sig<;>rfl
  ·cases sig<;>simp[tZ]
 |(ag,cs)::as,sig,ds,b,vals,hx,hl,hc=>by
  simp only[Am.qc] at hx;split at hx
  ·rename_i xs c zU l Q R;injection hx with hx;injection hx with g f;subst g f;match vals,hl with
   |v::vals,hl=>
    have o:=hc 0 (ag,cs) v rfl rfl;obtain⟨z,K,M,O,P,m,t⟩:=H.qc R (as:=as) (vals:=vals) (by simpa using hl) (fun j x v g f=>hc (j+1) x v g f);obtain⟨vs,n,C⟩:∃vs:List Value,(if ag=true then v=.agg vs.toArray else vs=[v])/\ed w G h cs vs:=by
     unfold RV at o;split at o
     ·rename_i y;obtain⟨vs,e,C⟩:=o;exact⟨vs,by rw[ah y];exact e,C⟩
     ·rename_i y;exact⟨[v],by rw[ak y],o⟩
    obtain⟨ps,p1,I,J,p4,L,F⟩:=H.nY Q C;refine⟨⟨if ag=true then .agg else .one,ps,0,0⟩::z,by simp[K],by simp[M],fun i d N p hd D hp=>?_,fun p hp=>?_,?_,?_,?_⟩
    ·cases i with
     |zero=>
      simp at hd D hp;subst hd D hp;cases ag with
      |true=>
       simp only[if_true] at n⊢;exact⟨by rw[p1],J,by simp only[I];exact n⟩
      |false=>
       simp only[if_false,zaZ] at n⊢;exact⟨by rw[p1],J,by simp only[I];exact n⟩
     |succ i=>exact O i d N p (by simpa using hd) (by simpa using D) (by simpa using hp)
    ·cases hp with
     |head=>cases ag<;>simp
     |tail _ hp=>exact P p hp
    ·cases sig with
     |nil=>
      have q:gB (cR.hd ([]:cR)) ps=[]:=rfl;rw[q] at p4;have A:c=[]:=AN p4.len;subst A;have r:e7 (cR.tl ([]:cR)) (z.map (·.ps))=[]:=rfl;rw[r] at m;have u:l=[]:=AN m.len;subst u;exact ql.nil
     |cons s sig=>exact ql.append p4 m
    ·cases sig with
     |nil=>
      have q:gB (cR.hd ([]:cR)) ps=[]:=rfl;rw[q] at p4;have A:c=[]:=AN p4.len;subst A;have r:e7 (cR.tl ([]:cR)) (z.map (·.ps))=[]:=rfl;rw[r] at m;have u:l=[]:=AN m.len;subst u;rfl
     |cons s sig=>
      rw[List.filterMap_append,L,t.1];rfl
    ·intro pc a;cases sig with
     |nil=>
      simp only[If,tZ,zao,zak] at a;rcases a with a|a
      ·exact F pc a
      ·exact t.2 pc (by simpa[tZ,cR.tl] using a)
     |cons s sig=>
      simp only[If,tZ,zak] at a;rcases a with a|a
      ·exact F pc a
      ·exact t.2 pc a
  ·cases hx
structure N2 (w':World) (p p':PB) (gr:Bool) (m:Mode) (sz:Nat) (aH:List (List C)):Prop where
 m1:m≠ .aQ
 fl:(∀b,¬bF b p.px)\/m=.live
 nl:p'.nl=p.nl
 b:p'.b=p.b
 o:p'.o=p.o
 cap:p'.cap=p.cap
 na:p'.na=p.na
 er:aH=p'.px.map (fun e=>e.map PC.er)
 nlx:p.nl=true->p'.px=[]
 f6:p.nl=false->sY w' p.b p.o sz p'.px/\p'.px.length<=p.cap
 sep:lK p'.px
 sub:∀b,bF b p'.px->bF b p.px
 live:m=.live->∀k j pc,At p.px k j pc->pc.jY=true->∃eW,At p'.px k j eW/\eW.val=pc.val/\eW.jY=true
 nr:gr=true->m=.live->wM w' sz p'.px
theorem HR.QP (H:HR B E w G h used []) {S:Nat->Prop} (cY:w.heap.size<=w'.heap.size) (hw:∀b,b<w.heap.size->(∀n,S n->¬xd G n b)->w'.heap[b]? =w.heap[b]?) (O:∀b,b<w.heap.size->Cz w w' b) (s:G'.Im=G.Im) (r:∀n,S n->∃a m sz xs f,h n=some (.row a m sz xs)/\h' n=some (.row a m sz f)/\N2 w' (G.g n) (G'.g n) a m sz f) (t:∀n,¬S n->h' n=h n/\G'.g n=G.g n):HR B E w' G' h' used []/\cm w G h (fun n=>used n=true) w' G' h'/\∀n b,bF b (G'.g n).px->bF b (G.g n).px:=by have ne:∀n,h' n≠none->h n≠none:=(by intro n hn;by_cases hs:S n;obtain⟨a,m,sz,xs,f,d,l,_⟩:=r n hs;rw[d];simp;rwa[(t n hs).1] at hn);have same:∀n,(G'.g n).nl=(G.g n).nl/\(G'.g n).b=(G.g n).b/\(G'.g n).o=(G.g n).o/\(G'.g n).cap=(G.g n).cap/\(G'.g n).na=(G.g n).na:=(by intro n;by_cases hs:S n;obtain⟨a,m,sz,xs,f,d,l,c⟩:=r n hs;exact⟨c.nl,c.b,c.o,c.cap,c.na⟩;rw[(t n hs).2];exact⟨rfl,rfl,rfl,rfl,rfl⟩);have sub:∀n b,bF b (G'.g n).px->bF b (G.g n).px:=(by intro n b hb;by_cases hs:S n;obtain⟨a,m,sz,xs,f,d,l,c⟩:=r n hs;exact c.sub b hb;rwa[(t n hs).2] at hb);have oO:∀n a m sz f,h' n=some (.row a m sz f)->∃xs,h n=some (.row a m sz xs):=(by intro n a m sz f hn;by_cases hs:S n;obtain⟨N,m1,M,xs,J,d,l,_⟩:=r n hs;rw[l] at hn;injection hn with hn;injection hn with P Z Y a4;subst P Z Y;exact⟨xs,d⟩;rw[(t n hs).1] at hn;exact⟨f,hn⟩);have D:∀n cs,h' n=some (.box cs)->h n=some (.box cs)/\¬S n:=(by intro n cs hn;by_cases hs:S n;obtain⟨N,m1,M,xs,J,d,l,_⟩:=r n hs;rw[l] at hn;cases hn;rw[(t n hs).1] at hn;exact⟨hn,hs⟩);have W:∀b,G.Im b->w'.heap[b]? =w.heap[b]? :=(by intro b hb;refine hw b (H.jX b hb) fun n hs I=>?_;obtain⟨a,m,sz,xs,f,d,l,c⟩:=r n hs;rcases I with⟨hl,rfl⟩|L;exact(H.own n (by rw[d];simp) hl).1 hb;rcases c.fl with F|rfl;exact F b L;exact((H.row n a .live sz xs d).mode.1 b L).1 hb);have YE:∀n,¬S n->h n≠none->(G.g n).nl=false->w'.heap[(G.g n).b]? =w.heap[(G.g n).b]? :=(by intro n hs hn hl;refine hw _ (H.own n hn hl).2.2 fun q x I=>?_;obtain⟨a,m,sz,xs,f,d,l,c⟩:=r q x;have y:n≠q:=fun e=>hs (e▸x);rcases I with⟨yF,hb⟩|L;exact H.inj n q hn (by rw[d];simp) y hl yF hb;rcases c.fl with F|rfl;exact F _ L;exact H.live q a sz xs d _ L n hn hl rfl);have auX:∀n a m sz xs,¬S n->h n=some (.row a m sz xs)->∀b,bF b (G.g n).px->w'.heap[b]? =w.heap[b]? :=(by intro n a m sz xs hs hn b hb;refine hw _ (H.wb hn hb) fun q x I=>?_;obtain⟨V,m',R,J,A,d,l,c⟩:=r q x;have y:n≠q:=fun e=>hs (e▸x);exact H.K8 y hn d c.fl (.inr hb) I);have K:cm w G h (fun n=>used n=true) w' G' h':=(by refine⟨fun b hb=>by rw[s];exact hb,fun b hb o=>kx (W b hb) o,fun n _ hn=>⟨ne n hn,same n⟩,fun n a sz f _ hn=>?_⟩;obtain⟨xs,e⟩:=oO n a .live sz f hn;refine⟨⟨a,xs,e⟩,fun k j pc hk hL=>?_⟩;by_cases hs:S n;obtain⟨N,m1,M,J,A,d,l,c⟩:=r n hs;rw[e] at d;injection d with d;injection d with _ d _ _;exact c.live d.symm k j pc hk hL;rw[(t n hs).2];exact⟨pc,hk,rfl,hL⟩);refine⟨⟨fun n hn=>H.lc n (ne n hn),fun m cs c n hm=>H.kq m cs c n (D m cs hm).1,fun n cs hn=>?_,fun n a m sz f hn=>?_,fun n hn hl=>?_,fun n p hn C y hl fM=>?_, fun b hb=>?_,fun b hb=>H.tx b (by rw[s] at hb;exact hb),fun n p a m sz xs V m' R f hn C hm cG y b hb z=>?_,fun n a sz xs hn b hb p C hl=>?_,?_,?_,?_⟩,K,sub⟩;obtain⟨h1,hs⟩:=D n cs hn;obtain⟨P,Z,Y⟩:=H.box n cs h1;have hb:=YE n hs (by rw[h1];simp) P;rw[(t n hs).2];refine⟨P,Z.congr hb,fun j c hj=>?_⟩;obtain⟨v,v1,v2,v3⟩:=Y j c hj;exact⟨v,(kx hb _).trans v1,v2,v3.keep K fun q x=>H.kq n cs c q h1 (co hj) x⟩;by_cases hs:S n;obtain⟨N,m1,M,J,A,d,l,c⟩:=r n hs;rw[l] at hn;injection hn with hn;injection hn with q1 q2 q3 q4;subst q1 q2 q3 q4;have hr:=H.row n N m1 M J d;refine⟨hr.pos,c.er,fun hl=>?_,fun hl=>?_,fun hl u=>?_,?_,c.nr⟩;rw[c.nl] at hl;refine⟨c.nlx hl,fun u=>?_⟩;rw[c.cap];exact(hr.nl hl).2 u;rw[c.nl] at hl;obtain⟨l1,l2,l3⟩:=hr.f6 hl;obtain⟨F,c2⟩:=c.f6 hl;rw[c.b,c.o,c.cap];exact⟨(O _ l1.lt).mh l1,F,c2⟩;rw[c.nl] at hl;obtain⟨r2,cur,e,r3,T⟩:=hr.room hl u;obtain⟨mY,X,s2⟩:=O (G.g n).b (H.own n (by rw[d];simp) hl).2.2 cur e r3;unfold Uy;rw[c.b,c.o,c.cap];exact⟨r2,mY,e,X,s2.trans T⟩;have hm:=hr.mode;(cases m1 with|aQ=>exact absurd rfl c.m1|aS=>exact⟨fun b hb=>by have z:=c.sub b hb;have:=hm.1 b z;exact⟨by rw[s];exact this.1,(O b this.2.1.lt).mh this.2.1,this.2.2⟩,c.sep⟩|live=>exact⟨fun b hb=>by have z:=c.sub b hb;have:=hm.1 b z;exact⟨by rw[s];exact this.1,(O b this.2.1.lt).mh this.2.1,this.2.2⟩,c.sep⟩);rw[(t n hs).1] at hn;rw[(t n hs).2];have hr:=H.row n a m sz f hn;have Q:=auX n a m sz f hs hn;refine⟨hr.pos,hr.er,hr.nl,fun hl=>?_,fun hl u=>?_,?_,fun u hm=>(hr.nr u hm).congr Q⟩;obtain⟨l1,l2,l3⟩:=hr.f6 hl;have hb:=YE n hs (by rw[hn];simp) hl;exact⟨l1.congr hb,l2.congr (fun o=>kx hb o) (fun b' z o=>kx (Q b' z) o),l3⟩;obtain⟨r2,cur,e,r3,T⟩:=hr.room hl u;exact⟨r2,cur,e,(YE n hs (by rw[hn];simp) hl).trans r3,T⟩;have hm:=hr.mode;(cases m with|aQ=>exact fun b hb=>by rw[s];exact hm b hb|aS=>exact⟨fun b hb=>⟨by rw[s];exact(hm.1 b hb).1,(hm.1 b hb).2.1.congr (Q b hb),(hm.1 b hb).2.2⟩,hm.2⟩|live=>exact⟨fun b hb=>⟨by rw[s];exact(hm.1 b hb).1,(hm.1 b hb).2.1.congr (Q b hb),(hm.1 b hb).2.2⟩,hm.2⟩);obtain⟨X,s2,s3,s4,s5⟩:=same n;rw[X] at hl;rw[s2];obtain⟨o1,o2,o3⟩:=H.own n (ne n hn) hl;exact⟨by rw[s];exact o1,o2,IN o3 cY⟩;rw[(same n).1] at hl;rw[(same p).1] at fM;rw[(same n).2.1,(same p).2.1];exact H.inj n p (ne n hn) (ne p C) y hl fM;rw[s] at hb;exact IN (H.jX b hb) cY;obtain⟨U,d⟩:=oO n a m sz xs hn;obtain⟨x2,l⟩:=oO p V m' R f C;exact H.ji n p a m sz U V m' R x2 d l hm cG y b (sub n b hb) (sub p b z);obtain⟨U,d⟩:=oO n a .live sz xs hn;rw[(same p).1] at hl;rw[(same p).2.1];exact H.live n a sz U d b (sub n b hb) p (ne p C) hl;intro i pc hi;simp at hi;intro i j pc eW b _ hi;simp at hi;intro i pc n a m sz xs b hi;simp at hi
def J5 (σ σ1:St) (it:eK) (x:C):Prop:=
 match it with
 |.nil _=>True
 |.row n=>∃gr m rs xs aH,σ.h n=some (.row gr m rs xs)/\x=.list rs aH/\σ1.h n=some (.row gr m rs aH)
 |.nest n k off=>∃gr m rs xs e,σ.h n=some (.row gr m rs xs)/\xs[k]? =some e/\σ1.h n=some (.row gr m rs (xs.set k (e.set off x)))
theorem aza {it:eK} {x:C} {σ1:St} (hx:σ.sL it x=some σ1):σ1.env=σ.env/\σ1.used=σ.used/\(∀n,it.fV≠some n->σ1.h n=σ.h n)/\J5 σ σ1 it x:=by cases it with|nil sz=>simp only[St.sL] at hx;injection hx with hx;subst hx;exact⟨rfl,rfl,fun _ _=>rfl,trivial⟩|row n=>(cases x with|int k i=>simp[St.sL] at hx|bool b=>simp[St.sL] at hx|list sz xs=>simp only[St.sL] at hx;split at hx;rename_i c m d f hn;split at hx;rename_i e;injection hx with hx;subst hx;subst e;exact⟨rfl,rfl,fun q a=>dJ _ _ _ _ (fun e=>a (by rw[e];rfl)),c,m,d,f,xs,hn,rfl,cX _ _ _⟩;cases hx;cases hx)|nest n k off=>simp only[St.sL] at hx;split at hx;rename_i c m d xs hn;split at hx;rename_i e g;injection hx with hx;subst hx;exact⟨rfl,rfl,fun q a=>dJ _ _ _ _ (fun e=>a (by rw[e];rfl)),c,m,d,xs,e,hn,g,cX _ _ _⟩;cases hx;cases hx
theorem J5.congr {σ σ1 τ j:St} {it:eK} {x:C} (hx:J5 σ σ1 it x) (i:∀n,it.fV=some n->τ.h n=σ.h n) (g:∀n,it.fV=some n->j.h n=σ1.h n):J5 τ j it x:=by cases it with|nil sz=>trivial|row n=>obtain⟨b,m,c,xs,l,d,f,a⟩:=hx;exact⟨b,m,c,xs,l,(i n rfl).trans d,f,(g n rfl).trans a⟩|nest n k off=>obtain⟨b,m,c,xs,e,d,f,a⟩:=hx;exact⟨b,m,c,xs,e,(i n rfl).trans d,f,(g n rfl).trans a⟩
theorem VY {it:eK×Mode} {a:List (eK×Mode)} (h:it.1.fV=none):(it::a).filterMap (·.1.fV)=a.filterMap (·.1.fV):=List.filterMap_cons_none h
theorem Hr {it:eK×Mode} {a:List (eK×Mode)} {n:Nat} (h:it.1.fV=some n):(it::a).filterMap (·.1.fV)=n::a.filterMap (·.1.fV):=List.filterMap_cons_some h
theorem aj3:∀{a:List (eK×Mode)} {d:List C} {σ σ1:St},σ.tO a d=some σ1->(a.filterMap (·.1.fV)).Nodup->σ1.env=σ.env/\σ1.used=σ.used/\ (∀n,n∉a.filterMap (·.1.fV)->σ1.h n=σ.h n)/\∀(i:Nat) (it:eK×Mode) (x:C),a[i]? =some it->d[i]? =some x->J5 σ σ1 it.1 x
 |[],[],σ,σ1,hx,iQ=>by simp only[St.tO] at hx;injection hx with hx;subst hx;exact⟨rfl,rfl,fun _ _=>rfl,by intro i it x h;simp at h⟩
 |it::a,x::d,σ,σ2,hx,iQ=>by simp only[St.tO] at hx;split at hx;rename_i σ1 u;obtain⟨p1,o,k,p4⟩:=aza u;have t:(a.filterMap (·.1.fV)).Nodup:=(by cases hn:it.1.fV with|none=>rw[VY hn] at iQ;exact iQ|some n=>rw[Hr hn] at iQ;exact(zay.1 iQ).2);have g:∀n,it.1.fV=some n->n∉a.filterMap (·.1.fV):=(by intro n hn;rw[Hr hn] at iQ;exact(zay.1 iQ).1);obtain⟨s,l,f,m⟩:=aj3 hx t;refine⟨s.trans p1,l.trans o,fun n hn=>?_,fun i c x' hi b=>?_⟩;have r:it.1.fV≠some n:=(by intro e;rw[Hr e] at hn;exact hn (by simp));have p:n∉a.filterMap (·.1.fV):=(by intro hm;apply hn;cases hq:it.1.fV with|none=>rw[VY hq];exact hm|some q=>rw[Hr hq];exact List.mem_cons_of_mem _ hm);exact(f n p).trans (k n r);(cases i with|zero=>simp at hi b;subst hi;subst b;exact p4.congr (fun _ _=>rfl) (fun n hn=>f n (g n hn))|succ i=>have j:a[i]? =some c:=(by simpa using hi);refine(m i c x' j (by simpa using b)).congr (fun n hn=>?_) (fun _ _=>rfl);refine(k n ?_).symm;intro e;refine g n e ?_;rw[za1];exact⟨c,co j,hn⟩);cases hx
 |[],_::_,σ,σ1,hx,_=>by simp[St.tO] at hx
 |_::_,[],σ,σ1,hx,_=>by simp[St.tO] at hx
theorem QQ:∀{a:List (eK×Mode)},(a.filterMap (·.1.fV)).Nodup->∀{i j:Nat} {x y:eK×Mode} {n:Nat},a[i]? =some x->a[j]? =some y->x.1.fV=some n->y.1.fV=some n->i=j
 |[],_,i,j,x,y,n,hi,_,_,_=>by simp at hi
 |it::a,iQ,i,j,x,y,n,hi,hj,hx,hy=>by have c:(a.filterMap (·.1.fV)).Nodup:=(by cases hn:it.1.fV with|none=>rw[VY hn] at iQ;exact iQ|some n=>rw[Hr hn] at iQ;exact(zay.1 iQ).2);have b:∀n,it.1.fV=some n->∀(k:Nat) (z:eK×Mode),a[k]? =some z->z.1.fV≠some n:=(by intro n hn k z d e;rw[Hr hn] at iQ;exact(zay.1 iQ).1 (za1.2 ⟨z,co d,e⟩));cases i with|zero=>(cases j with|zero=>rfl|succ j=>simp at hi hj;subst hi;exact absurd hy (b n hx j y hj))|succ i=>cases j with|zero=>simp at hi hj;subst hj;exact absurd hx (b n hy i x hi)|succ j=>exact congrArg (·+1) (QQ c (i:=i) (j:=j) (by simpa using hi) (by simpa using hj) hx hy)
end
end Go.Am
