/- Am1, Am2, Am3, Am4, Am5, Am6, Am7, Am8, Am9, Am10, Am11, Am12, Am13, Am14, Am15, Am16, AmM, AmN: parts of the proof. No condition. -/
import Derived.LoopN
import Derived.Orders
import Derived.Laws.AppendOwn
import Derived.Laws.MakeOwn
import Derived.Laws.Tables
import Derived.Below
import Derived.Laws.Small
import Derived.Laws.StructEq
set_option linter.unusedVariables false
set_option linter.unusedSimpArgs false
open List renaming mem_of_getElem?->co,getElem?_map->wt,getElem?_eq_some_iff->AI,getElem?_eq_getElem->AN,eq_nil_of_length_eq_zero->AT,getElem?_append_right->BY,getElem?_append_left->GB,all_eq_true->If,replicate->IS,map_cons->IT,mem_map_of_mem->zaa,mem_append->zad,getElem_of_mem->zae,getElem?_toArray->zaf,nil_append->zag,flatten_cons->zal,mem_of_mem_drop->zao,mem_of_mem_take->zap,length_map->zar,nodup_cons->zas,getElem?_drop->zau,length_append->zaw,mem_or_eq_of_mem_set->zay,size_toArray->zaz,length_cons->zaA,drop_eq_nil_of_le->zaB,take->zaD,mem_map->zaG,length_nil->zaH,map_nil->zaI,map_append->zaJ,getElem?_set_ne->zaL,take_zero->zaM,length_flatMap->zaO,flatten_append->zaQ,map_take->zaR,map_drop->zaS,drop->zaT,ne_nil_of_mem->zaU,pairwise_cons->zaV,mem_filterMap->zaW,zipIdx_cons->za0,flatten_nil->za1,length->za3,drop_zero->za4
open Nat renaming mul_le_mul_right->By,lt_of_lt_of_le->IN,add_assoc->OF,add_mul->Pe,zero_add->zac,le_refl->zaj,le_mul_of_pos_right->zak,le_trans->zam,eq_zero_or_pos->zav,add_zero->zax,zero_mul->zaE,mul_comm->zaF,add_le_add_left->zaP,lt_trichotomy->zaX,div_eq_of_lt->zaZ,mul_add_div->za2,lt_irrefl->za6,lt_or_ge->za7,ble->za8,zero_le->zba,beq->zbb
open Option.some renaming injEq->Pd
open Bool renaming and_eq_true->zab,and_self->za5
open Prod.mk renaming injEq->zah
open Array renaming length_toList->zai,toList_map->zan,getD_eq_getD_getElem?->zaq,getElem?_eq_some_iff->zat,size_append->zaY,range->za9
open Ne renaming symm->zaC
open Option renaming map_none->zaK
open Int renaming toNat_of_nonneg->zaN
namespace Go.Am
theorem ai.{u} {c:Prop} {h:Decidable c} (a:c) {α:Sort u} {t e:α}:ite c t e=t:=if_pos a
theorem aq.{u} {c:Prop} {h:Decidable c} (a:¬c) {α:Sort u} {t e:α}:ite c t e=e:=if_neg a
inductive C where
 |int (k:IntKind) (n:Int)
 |bool (b:Bool)
 |list (sz:Nat) (xs:List (List C))
instance:Inhabited C:=⟨.bool false⟩
def ad (b o:Nat):Addr:=⟨b,o,none⟩
theorem vn (b o n:Nat):(ad b o).add n=ad b (o+n):=by unfold ad Addr.add;split;rename_i h;subst h;rfl;rfl
theorem pn {b o a c:Nat} (h:ad b o=ad a c):b=a/\o=c:=by unfold ad at h;injection h with d h2;exact⟨d,h2⟩
inductive PC where
 |int (k:IntKind) (n:Int)
 |bool (b:Bool)
 |list (sz:Nat) (a:Option Addr) (cap:Nat) (xs:List (List PC))
instance:Inhabited PC:=⟨.bool false⟩
mutual
def PC.er:PC->C
 |.int k n=>.int k n
 |.bool b=>.bool b
 |.list sz _ _ xs=>.list sz (PC.LN xs)
def PC.aQ:List PC->List C
 |[]=>[]
 |c::cs=>PC.er c::PC.aQ cs
def PC.LN:List (List PC)->List (List C)
 |[]=>[]
 |e::es=>PC.aQ e::PC.LN es
end
theorem PC.alM (l:List PC):PC.aQ l=l.map PC.er:=by induction l with|nil=>simp[PC.aQ]|cons c l a=>simp[PC.aQ,a]
theorem PC.alL (l:List (List PC)):PC.LN l=l.map (fun e=>e.map PC.er):=by induction l with|nil=>simp[PC.LN]|cons c l a=>simp[PC.LN,PC.alM,a]
theorem PC.fk (sz:Nat) (a:Option Addr) (cap:Nat) (xs:List (List PC)):(PC.list sz a cap xs).er=.list sz (xs.map (fun e=>e.map PC.er)):=by simp[PC.er,PC.alL]
def PC.val:PC->Value
 |.int k n=>.int k n
 |.bool b=>.bool b
 |.list _ a cap xs=>.slice a xs.length cap
theorem PC.nW (c:PC):c.val.oneCell'=true:=by cases c<;>rfl
def At {α:Type} (xs:List (List α)) (k j:Nat) (c:α):Prop:=∃e,xs[k]? =some e/\e[j]? =some c
inductive bB (b:Nat):PC->Prop where
 |here (sz o cap:Nat) (xs:List (List PC)):xs≠[]->bB b (.list sz (some (ad b o)) cap xs)
 |there (sz:Nat) (a:Option Addr) (cap:Nat) (xs:List (List PC)) (k j:Nat) (c:PC):At xs k j c->bB b c->bB b (.list sz a cap xs)
theorem bB.oZ {b sz:Nat} {a:Option Addr} {cap:Nat} {xs:List (List PC)}: bB b (.list sz a cap xs)↔(xs≠[]/\∃o,a=some (ad b o))\/∃k j c,At xs k j c/\bB b c:=by constructor;intro h;(cases h with|here sz o cap xs h=>exact .inl ⟨h,o,rfl⟩|there sz a cap xs k j c e d=>exact .inr ⟨k,j,c,e,d⟩);rintro(⟨h,o,rfl⟩|⟨k,j,c,e,d⟩);exact .here _ _ _ _ h;exact .there _ _ _ _ k j c e d
theorem bB.ar6 {b:Nat} {k:IntKind} {n:Int}:¬bB b (.int k n):=fun h=>by cases h
theorem bB.ar5 {b:Nat} {x:Bool}:¬bB b (.bool x):=fun h=>by cases h
inductive Good (w:World):PC->Prop where
 |int (k:IntKind) (n:Int):Good w (.int k n)
 |bool (b:Bool):Good w (.bool b)
 |nil (sz:Nat) (a:Option Addr) (cap:Nat):0<sz->Good w (.list sz a cap [])
 |cons (sz b o cap:Nat) (xs:List (List PC)):xs≠[]->xs.length<=cap->0<sz->(∀e∈xs,e.length=sz)->
  (∀k j c,At xs k j c->w.cell? (ad b (o+k*sz+j))=some c.val)->(∀k j c,At xs k j c->Good w c)->Good w (.list sz (some (ad b o)) cap xs)
theorem Good.congr {w w':World} {c:PC} (h:Good w c) (e:∀b,bB b c->∀o,w'.cell? (ad b o)=w.cell? (ad b o)):Good w' c:=by induction h with|int k n=>exact .int k n|bool b=>exact .bool b|nil sz a cap h=>exact .nil sz a cap h|cons sz b o cap xs f s p i l h6 r=>refine .cons sz b o cap xs f s p i (fun k j c d=>?_) (fun k j c d=>r k j c d fun g m q=>?_);rw[e b (.here _ _ _ _ f)];exact l k j c d;exact e g (.there _ _ _ _ k j c d m) q
theorem abC {xs:List (List PC)} {sz:Nat} (b:xs≠[]) (h3:0<sz) (a:∀e∈xs,e.length=sz):∃c,At xs 0 0 c:=by cases xs with|nil=>exact absurd rfl b|cons e es=>have d:=a e (by simp);cases e with|nil=>simp at d;omega|cons c cs=>exact⟨c,c::cs,rfl,rfl⟩
theorem Good.lt {w:World} {c:PC} (h:Good w c) {b:Nat} (f:bB b c):b<w.heap.size:=by induction h with|int k n=>cases f|bool b=>cases f|nil sz a cap h=>(cases f with|here _ _ _ _ h=>exact absurd rfl h|there _ _ _ _ k j c d g=>obtain⟨e,m,_⟩:=d;simp at m)|cons sz b' o cap xs d g p i l h6 r=>cases f with|here _ _ _ _ h=>obtain⟨c,q⟩:=abC d p i;exact World.block_lt_of_cell? (a:=ad b (o+0*sz+0)) w (l 0 0 c q)|there _ _ _ _ k j c d g=>exact r k j c d g
inductive Sep:PC->Prop where
 |int (k:IntKind) (n:Int):Sep (.int k n)
 |bool (b:Bool):Sep (.bool b)
 |list (sz:Nat) (a:Option Addr) (cap:Nat) (xs:List (List PC)):(∀k j c,At xs k j c->Sep c)->
  (∀b o k j c,a=some (ad b o)->At xs k j c->¬bB b c)->
  (∀k j c k' j' c' b,At xs k j c->At xs k' j' c'->(k,j)≠(k',j')->bB b c->¬bB b c')->Sep (.list sz a cap xs)
def bK (b:Nat) (px:List (List PC)):Prop:=∃k j c,At px k j c/\bB b c
def me (px:List (List PC)):Prop:=
 (∀k j c,At px k j c->Sep c)/\∀k j c k' j' c' b,At px k j c->At px k' j' c'->(k,j)≠(k',j')->bB b c->¬bB b c'
def rI (w:World) (b o sz:Nat) (px:List (List PC)):Prop:=
 (∀e∈px,e.length=sz)/\(∀k j c,At px k j c->w.cell? (ad b (o+k*sz+j))=some c.val)/\∀k j c,At px k j c->Good w c
def fB (w:World) (b:Nat):Prop:=∃arr e,w.heap[b]? =some (.cells arr e (0,0))
theorem fB.lt {w:World} {b:Nat} (h:fB w b):b<w.heap.size:=by obtain⟨arr,e,h⟩:=h;exact(zat.1 h).1
theorem fB.congr {w w':World} {b:Nat} (h:fB w b) (a:w'.heap[b]? =w.heap[b]?):fB w' b:=by obtain⟨arr,e,h⟩:=h;exact⟨arr,e,a.trans h⟩
theorem kv {w w':World} {b:Nat} (a:w'.heap[b]? =w.heap[b]?) (o:Nat):w'.cell? (ad b o)=w.cell? (ad b o):=by simp[World.cell?,ad,a]
theorem rI.congr {w w':World} {b o sz:Nat} {px:List (List PC)} (h:rI w b o sz px) (g:∀o,w'.cell? (ad b o)=w.cell? (ad b o)) (f:∀a,bK a px->∀o,w'.cell? (ad a o)=w.cell? (ad a o)):rI w' b o sz px:= ⟨h.1,fun k j c d=>(g _).trans (h.2.1 k j c d),fun k j c d=>(h.2.2 k j c d).congr fun a i e=>f a ⟨k,j,c,d,i⟩ e⟩
theorem rI.lt {w:World} {b o sz:Nat} {px:List (List PC)} (h:rI w b o sz px) {a:Nat} (d:bK a px):a<w.heap.size:=by obtain⟨k,j,c,f,e⟩:=d;exact(h.2.2 k j c f).lt e
inductive ao where
 |c (x:C)
 |nil (sz:Nat)
 |ptr (n k sz off:Nat)
 |ez (xs:List C) (off:Nat)
 |sl (n sz lo len:Nat)
 |cF (n k aZ off sz len:Nat)
 |eE (n k aZ off sz i:Nat)
 |dE (xs:List C) (off j n sz len:Nat)
 |fn (f:FuncId) (fv:List ao)
 |cj
instance:Inhabited ao:=⟨.cj⟩
inductive Mode where
 |live|bi|bh
 deriving DecidableEq
inductive aV where
 |box (cs:List ao)
 |row (gr:Bool) (m:Mode) (sz:Nat) (xs:List (List C))
inductive aw where
 |one (c:ao)
 |agg (cs:List ao)
 |cT (xs:List (Bool×List ao))
instance:Inhabited aw:=⟨.one .cj⟩
structure St where
 env:Nat->aw
 h:Nat->Option aV
 used:Nat->Bool
def aN {α:Type} (f:Nat->α) (k:Nat) (v:α):Nat->α:=fun n=>match zbb n k with
 |true=>v
 |false=>f n
theorem mZ {α:Type} (f:Nat->α) (k:Nat) (v:α) (n:Nat):aN f k v n=if n=k then v else f n:=by unfold aN;split;simp_all;grind [Nat.beq_refl]
theorem dd {α:Type} (f:Nat->α) (k:Nat) (v:α):aN f k v k=v:=by simp[mZ]
theorem dP {α:Type} (f:Nat->α) (k n:Nat) (v:α) (h:n≠k):aN f k v n=f n:=by simp[mZ,h]
def ao.kE:ao->Nat->Prop
 |.ptr n _ _ _,m=>m=n
 |.sl n _ _ _,m=>m=n
 |.cF n _ _ _ _ _,m=>m=n
 |.eE n _ _ _ _ _,m=>m=n
 |.dE _ _ _ n _ _,m=>m=n
 |_,_=>False
def ao.ref:ao->Nat->Prop
 |.fn _ fv,m=>∃x∈fv,x.kE m
 |x,m=>x.kE m
def aw.ref:aw->Nat->Prop
 |.one c,m=>c.ref m
 |.agg cs,m=>∃c∈cs,c.ref m
 |.cT xs,m=>∃x∈xs,∃c∈x.2,c.ref m
structure PB where
 nl:Bool
 b:Nat
 o:Nat
 cap:Nat
 px:List (List PC)
 na:Option Addr
instance:Inhabited PB:=⟨⟨false,0,0,0,[],none⟩⟩
def aY:Nat:=1000000
structure Ex where
 e:Nat->Prop
 qg:Nat->Option PB
 lt:∀n p,qg n=some p->aY<=n
 a:Nat->Prop
instance:CoeFun Ex (fun _=>Nat->Prop):=⟨Ex.e⟩
def Ex.no:Ex:=⟨fun _=>False,fun _=>none,fun _ _ h=>(by cases h),fun _=>True⟩
structure Gh where
 Im:Nat->Prop
 g:Nat->PB
def PC.kO:PC->Bool
 |.list ..=>true
 |_=>false
def jD (p:PB) (sz lo len:Nat) (v:Value):Prop:=
 (p.nl=true/\v=.slice p.na 0 p.cap/\lo=0/\len=0)\/
 (p.nl=false/\∃a,v=.slice a len (p.cap - lo)/\lo+len<=p.cap/\((lo<p.cap\/lo=0)->a=some (ad p.b (p.o+lo*sz))))
def kT (w:World) (G:Gh) (h:Nat->Option aV):ao->Value->Prop
 |.c x,v=>∃pc:PC,pc.er=x/\pc.val=v/\Good w pc/\∀b,bB b pc->G.Im b
 |.nil _,v=>v=.slice none 0 0
 |.ptr n k sz off,v=>h n≠none->(G.g n).nl=false/\v=.pointer (some (ad (G.g n).b ((G.g n).o+k*sz+off)))
 |.ez xs off,v=>∃(b o:Nat) (pe:List PC),v=.pointer (some (ad b (o+off)))/\pe.map PC.er=xs/\G.Im b/\
  ∀j c,pe[j]? =some c->w.cell? (ad b (o+j))=some c.val/\Good w c/\∀b',bB b' c->G.Im b'
 |.sl n sz lo len,v=>h n≠none->jD (G.g n) sz lo len v
 |.cF n k aZ off sz len,v=>∀gr xs,h n=some (.row gr .live aZ xs)->∃pc,At (G.g n).px k off pc/\pc.val=v/\pc.kO=true
 |.eE n k aZ off sz i,v=>∀gr xs,h n=some (.row gr .live aZ xs)->∃(pc:PC) (b o len cap:Nat),At (G.g n).px k off pc/\pc.val=.slice (some (ad b o)) len cap/\pc.kO=true/\v=.pointer (some (ad b (o+i*sz)))
 |.dE xs off j n sz len,v=>∃(b o:Nat) (pe:List PC),v=.pointer (some (ad b (o+off)))/\pe.map PC.er=xs/\G.Im b/\
  (∀i c,i≠j->pe[i]? =some c->w.cell? (ad b (o+i))=some c.val/\Good w c/\∀b',bB b' c->G.Im b')/\∃u,w.cell? (ad b (o+j))=some u/\u.oneCell'=true/\(h n≠none->jD (G.g n) sz 0 len u)
 |.fn _ _,_=>False
 |.cj,_=>True
def RC (w:World) (G:Gh) (h:Nat->Option aV):ao->Value->Prop
 |.fn f fv,v=>∃vs:List Value,v=.func (.func f) #[] vs.toArray/\vs.length=fv.length/\∀(j:Nat) (c:ao) (u:Value),fv[j]? =some c->vs[j]? =some u->u.oneCell'=true/\kT w G h c u
 |c,v=>kT w G h c v
def ao.r6:ao->Bool
 |.fn _ _=>true
 |_=>false
theorem AS (w:World) (G:Gh) (h:Nat->Option aV) (c:ao) (v:Value) (a:c.r6=false):RC w G h c v=kT w G h c v:=by cases c<;>first|rfl|(simp[ao.r6] at a)
theorem ao.ahk (c:ao) (m:Nat) (a:c.r6=false):c.ref m=c.kE m:=by cases c<;>first|rfl|(simp[ao.r6] at a)
def eN (w:World) (G:Gh) (h:Nat->Option aV) (cs:List ao) (vs:List Value):Prop:=
 vs.length=cs.length/\∀(j:Nat) (c:ao) (u:Value),cs[j]? =some c->vs[j]? =some u->u.oneCell'=true/\RC w G h c u
def RV (w:World) (G:Gh) (h:Nat->Option aV) (ag:Bool) (cs:List ao) (v:Value):Prop:=
 if ag then∃vs:List Value,v=.agg vs.toArray/\eN w G h cs vs else eN w G h cs [v]
def RA (w:World) (G:Gh) (h:Nat->Option aV):aw->Value->Prop
 |.one c,v=>c=.cj\/RV w G h false [c] v
 |.agg cs,v=>RV w G h true cs v
 |.cT xs,v=>∃vs:List Value,v=.tuple vs.toArray/\vs.length=xs.length/\∀(j:Nat) (x:Bool×List ao) (u:Value),xs[j]? =some x->vs[j]? =some u->RV w G h x.1 x.2 u
structure bU (w:World) (G:Gh) (h:Nat->Option aV) (used:Nat->Prop) (w':World) (G':Gh) (h':Nat->Option aV):Prop where
 im:∀b,G.Im b->G'.Im b
 cell:∀b,G.Im b->∀o,w'.cell? (ad b o)=w.cell? (ad b o)
 name:∀n,used n->h' n≠none->h n≠none/\(G'.g n).nl=(G.g n).nl/\(G'.g n).b=(G.g n).b/\(G'.g n).o=(G.g n).o/\(G'.g n).cap=(G.g n).cap/\(G'.g n).na=(G.g n).na
 live:∀n gr sz xs,used n->h' n=some (.row gr .live sz xs)->(∃vM m7,h n=some (.row vM .live sz m7))/\
  ∀k j pc,At (G.g n).px k j pc->pc.kO=true->∃fP,At (G'.g n).px k j fP/\fP.val=pc.val/\fP.kO=true
section
variable {w w':World} {G G':Gh} {h h':Nat->Option aV} {used:Nat->Prop}
theorem kT.d9 (K:bU w G h used w' G' h') {c:ao} {v:Value} (hr:∀m,c.kE m->used m) (d:kT w G h c v):kT w' G' h' c v:=by cases c with|c x=>obtain⟨pc,q,r,e,p⟩:=d;exact⟨pc,q,r,e.congr fun b C o=>K.cell b (p b C) o,fun b C=>K.im b (p b C)⟩|nil sz=>exact d|ptr n k sz off=>intro hn;obtain⟨g,y,D,I,J,L⟩:=K.name n (hr n rfl) hn;rw[y,D,I];exact d g|ez xs off=>obtain⟨b,o,pe,q,r,e,p⟩:=d;refine⟨b,o,pe,q,r,K.im b e,fun j c Q=>?_⟩;obtain⟨F,A,s⟩:=p j c Q;exact⟨(K.cell b e _).trans F,A.congr fun a l E=>K.cell a (s a l) E,fun a l=>K.im a (s a l)⟩|sl n sz lo len=>intro hn;obtain⟨g,y,D,I,J,L⟩:=K.name n (hr n rfl) hn;have:=d g;simp_all [jD]|cF n k B off sz len=>intro t xs hn;obtain⟨⟨H,z,g⟩,hl⟩:=K.live n t B xs (hr n rfl) hn;obtain⟨pc,p1,M,S⟩:=d H z g;grind|eE n k B off sz i=>intro t xs hn;obtain⟨⟨H,z,g⟩,hl⟩:=K.live n t B xs (hr n rfl) hn;obtain⟨pc,b,o,len,cap,p1,M,S,p4⟩:=d H z g;grind|dE xs off j n sz len=>obtain⟨b,o,pe,q,r,e,p,N⟩:=d;obtain⟨u,P,u2,u3⟩:=N;refine⟨b,o,pe,q,r,K.im b e,fun i c O R=>?_,u,(K.cell b e _).trans P,u2,fun hn=>?_⟩;obtain⟨F,A,s⟩:=p i c O R;exact⟨(K.cell b e _).trans F,A.congr fun a l E=>K.cell a (s a l) E,fun a l=>K.im a (s a l)⟩;obtain⟨g,y,D,I,J,L⟩:=K.name n (hr n rfl) hn;simp_all [jD]|fn f fv=>exact d|cj=>trivial
theorem RC.d9 (K:bU w G h used w' G' h') {c:ao} {v:Value} (hr:∀m,c.ref m->used m) (d:RC w G h c v):RC w' G' h' c v:=by by_cases a:c.r6=false;rw[AS _ _ _ _ _ a] at*;exact d.d9 K fun m hm=>hr m (by rw[ao.ahk c m a];exact hm);(cases c<;>first|(simp[ao.r6] at a;done)|skip);obtain⟨vs,i,g,f⟩:=d;exact⟨vs,i,g,fun j c u b e=>⟨(f j c u b e).1,(f j c u b e).2.d9 K fun m hm=>hr m ⟨c,co b,hm⟩⟩⟩
theorem eN.d9 (K:bU w G h used w' G' h') {cs:List ao} {vs:List Value} (hr:∀c∈cs,∀m,c.ref m->used m) (a:eN w G h cs vs):eN w' G' h' cs vs:= ⟨a.1,fun j c u b d=>⟨(a.2 j c u b d).1,(a.2 j c u b d).2.d9 K (hr c (co b))⟩⟩
theorem RV.d9 (K:bU w G h used w' G' h') {ag:Bool} {cs:List ao} {v:Value} (hr:∀c∈cs,∀m,c.ref m->used m) (a:RV w G h ag cs v):RV w' G' h' ag cs v:=by unfold RV at*;split;rename_i b;simp only[b,if_true] at a;obtain⟨vs,e,d⟩:=a;exact⟨vs,e,d.d9 K hr⟩;rename_i b;simp only[b] at a;exact eN.d9 K hr a
theorem RA.d9 (K:bU w G h used w' G' h') {x:aw} {v:Value} (hr:∀m,x.ref m->used m) (f:RA w G h x v):RA w' G' h' x v:=by cases x with|one c=>exact f.imp id fun d=>d.d9 K fun b a m hm=>hr m (by simp at a;subst a;exact hm)|agg cs=>exact RV.d9 K (fun b a m hm=>hr m ⟨b,a,hm⟩) f|cT xs=>obtain⟨vs,e,hl,d⟩:=f;exact⟨vs,e,hl,fun j x u g i=>(d j x u g i).d9 K fun b a m hm=>hr m ⟨x,co g,b,a,hm⟩⟩
end
def Ld (w:World) (p:PB) (sz:Nat):Prop:=p.cap<=maxLen/\∃cur e,w.heap[p.b]? =some (.cells cur e (0,0))/\cur.size=p.o+p.cap*sz
def Hd (B:Nat) (E:Ex) (w:World) (G:Gh) (px:List (List PC)):Mode->Prop
 |.bh=>∀b,bK b px->G.Im b
 |.bi=>(∀b,bK b px->G.Im b/\fB w b/\(B<=b\/E b))/\me px
 |.live=>(∀b,bK b px->¬G.Im b/\fB w b/\(B<=b\/E b))/\me px
def t7 (w:World):PC->Prop
 |.list sz a cap xs=>cap=0\/(xs≠[]/\cap<=maxLen/\∃b o cur e,a=some (ad b o)/\w.heap[b]? =some (.cells cur e (0,0))/\cur.size=o+cap*sz)
 |_=>True
def t8 (w:World) (sz:Nat) (px:List (List PC)):Prop:=∀k pc,At px k (sz - 1) pc->t7 w pc
theorem t7.cz {w w':World} {pc:PC} (h:t7 w pc) (i:∀b,bB b pc->∀arr e,w.heap[b]? =some (.cells arr e (0,0))->∃c,w'.heap[b]? =some (.cells c e (0,0))/\c.size=arr.size):t7 w' pc:=by cases pc with|int k n=>trivial|bool b=>trivial|list sz a cap xs=>rcases h with h|⟨d,j,b,o,cur,e,rfl,g,h5⟩;exact .inl h;obtain⟨c,f,q2⟩:=i b (.here _ _ _ _ d) cur e g;exact .inr ⟨d,j,b,o,c,e,rfl,f,by omega⟩
theorem t8.congr {w w':World} {sz:Nat} {px:List (List PC)} (h:t8 w sz px) (c:∀b,bK b px->w'.heap[b]? =w.heap[b]?):t8 w' sz px:= fun k pc a=>(h k pc a).cz fun b f arr e d=>⟨arr,(c b ⟨k,_,pc,a,f⟩).trans d,rfl⟩
theorem t8.cz {w w':World} {sz:Nat} {px:List (List PC)} (h:t8 w sz px) (d:∀b,bK b px->∀arr e,w.heap[b]? =some (.cells arr e (0,0))->∃c,w'.heap[b]? =some (.cells c e (0,0))/\c.size=arr.size):t8 w' sz px:= fun k pc a=>(h k pc a).cz fun b f=>d b ⟨k,_,pc,a,f⟩
structure zn (B:Nat) (E:Ex) (w:World) (G:Gh) (gr:Bool) (m:Mode) (sz:Nat) (xs:List (List C)) (p:PB):Prop where
 pos:0<sz
 er:xs=p.px.map (fun e=>e.map PC.er)
 nl:p.nl=true->p.px=[]/\(gr=true->p.cap=0)
 f6:p.nl=false->fB w p.b/\rI w p.b p.o sz p.px/\p.px.length<=p.cap
 room:p.nl=false->gr=true->Ld w p sz
 mode:Hd B E w G p.px m
 nr:gr=true->m=.live->t8 w sz p.px
structure HR (B:Nat) (E:Ex) (w:World) (G:Gh) (h:Nat->Option aV) (used:Nat->Bool) (tk:List PC):Prop where
 mM:∀n,h n≠none->used n=true
 lz:∀m cs c n,h m=some (.box cs)->c∈cs->c.ref n->used n=true
 box:∀n cs,h n=some (.box cs)->(G.g n).nl=false/\fB w (G.g n).b/\
  ∀(j:Nat) (c:ao),cs[j]? =some c->∃v,w.cell? (ad (G.g n).b ((G.g n).o+j))=some v/\v.oneCell'=true/\RC w G h c v
 row:∀n gr m sz xs,h n=some (.row gr m sz xs)->zn B E w G gr m sz xs (G.g n)
 own:∀n,h n≠none->(G.g n).nl=false->¬G.Im (G.g n).b/\(B<=(G.g n).b\/E (G.g n).b)/\(G.g n).b<w.heap.size
 inj:∀n n',h n≠none->h n'≠none->n≠n'->(G.g n).nl=false->(G.g n').nl=false->(G.g n).b≠(G.g n').b
 jG:∀b,G.Im b->b<w.heap.size
 uD:∀b,G.Im b->B<=b\/E b\/E.a b
 jE:∀n n' gr m sz xs cq m' bf aM,h n=some (.row gr m sz xs)->h n'=some (.row cq m' bf aM)->m≠ .bh->m'≠ .bh->n≠n'->
  ∀b,bK b (G.g n).px->¬bK b (G.g n').px
 live:∀n gr sz xs,h n=some (.row gr .live sz xs)->∀b,bK b (G.g n).px->∀n',h n'≠none->(G.g n').nl=false->b≠(G.g n').b
 xK:∀(i:Nat) (pc:PC),tk[i]? =some pc->Sep pc/\∀b,bB b pc->G.Im b/\fB w b/\(B<=b\/E b)
 Ct:∀(i j:Nat) (pc fP:PC) (b:Nat),i≠j->tk[i]? =some pc->tk[j]? =some fP->bB b pc->¬bB b fP
 xL:∀(i:Nat) (pc:PC) (n:Nat) (gr:Bool) (m:Mode) (sz:Nat) (xs:List (List C)) (b:Nat),tk[i]? =some pc->h n=some (.row gr m sz xs)->m≠ .bh->bB b pc->¬bK b (G.g n).px
def Cz (w w':World) (b:Nat):Prop:=∀arr e,w.heap[b]? =some (.cells arr e (0,0))->∃zo,w'.heap[b]? =some (.cells zo e (0,0))/\zo.size=arr.size
theorem Cz.refl (w:World) (b:Nat):Cz w w b:=fun arr _ h=>⟨arr,h,rfl⟩
theorem Cz.of_eq {w w':World} {b:Nat} (h:w'.heap[b]? =w.heap[b]?):Cz w w' b:=fun arr _ a=>⟨arr,h.trans a,rfl⟩
theorem Cz.trans {w c a:World} {b:Nat} (g:Cz w c b) (d:Cz c a b):Cz w a b:=fun arr e h=>by obtain⟨i,f,s1⟩:=g arr e h;obtain⟨a2,e2,s2⟩:=d i e f;simp_all
theorem Cz.mY {w w':World} {b:Nat} (h:Cz w w' b) (c:fB w b):fB w' b:=by obtain⟨arr,e,c⟩:=c;obtain⟨a,d,_⟩:=h arr e c;exact⟨a,e,d⟩
structure Fr (B:Nat) (E:Ex) (w0 w:World):Prop where
 os:w.os=w0.os
 tape:w.tape=w0.tape
 output:w.output=w0.output
 size:B<=w.heap.size
 block:∀b,b<B->¬E b->w.heap[b]? =w0.heap[b]?
 mY:∀b,b<B->Cz w0 w b
def ajY (p q:PB) (b:aV):Prop:=
 q.nl=p.nl/\q.b=p.b/\q.o=p.o/\q.cap=p.cap/\q.na=p.na/\
  ∀gr sz xs,b=.row gr .live sz xs->∀k j pc,At p.px k j pc->pc.kO=true->∃fP,At q.px k j fP/\fP.val=pc.val/\fP.kO=true
structure R (B:Nat) (E:Ex) (w0:World) (N:Nat) (σ:St) (a:Act) (w:World) (G:Gh):Prop where
 defers:a.defers=[]
 size:a.tmps.size=N
 env:∀s,RA w G σ.h (σ.env s) (a.tmps.getD s undef)
 tP:∀s n,(σ.env s).ref n->σ.used n=true
 hr:HR B E w G σ.h σ.used []
 fr:Fr B E w0 w
 qg:∀n p b,E.qg n=some p->σ.h n=some b->ajY p (G.g n) b
 Aw:∀n,aY<=n->σ.used n=true
inductive MO where
 |t (n:Nat)
 |k (v:aw)
inductive dB where
 |mv (x:MO)
 |pick (c x y:MO)
 |alloc (zs:List ao)
 |box (sz:Nat) (x:MO)
 |build (zs:List ao) (parts:List (Nat×Nat×MO))
 |iu (sz:Nat) (parts:List MO)
 |AZ (sz:Nat) (parts:List MO)
 |load (ag:Bool) (sz:Nat) (x:MO)
 |store (sz:Nat) (x v:MO)
 |lZ (x:MO)
 |bin (op:BinOp) (x y:MO)
 |ue (op:BinOp) (x y:MO)
 |un (op:UnOp) (x:MO)
 |conv (k:IntKind) (x:MO)
 |jW (m:Mode) (sz ew:Nat) (zs:List C) (l c:MO)
 |slice (sz:Nat) (x:MO) (lo hi:Option MO)
 |q8 (off:Nat) (x:MO)
 |rm (sz:Nat) (x i:MO)
 |ext (i:Nat) (x:MO)
 |len (x:MO)
 |append (fl:Bool) (sz ew:Nat) (x y:MO)
 |copy (sz:Nat) (x y:MO)
 |wR (z:C) (x:MO)
 |mm (mx:Bool) (x y:MO)
 |call (m:Mode) (f:FuncId) (xs:List MO)
 |qp (m:Mode) (f:FuncId) (xs:List MO)
 |qV (f:FuncId) (xs:List MO)
 |pS (f:FuncId) (xs:List MO)
 |oI (f:FuncId) (xs:List MO)
 |uf (m:Mode) (f:FuncId) (xs:List MO)
structure dC where
 dst:Option Nat
 op:dB
 guard:Option (Nat×Bool)
structure vm where
 ia:Nat
 sz:Nat
 ew:Nat
 mx:MO
 ml:MO
 my:MO
 d:Nat
inductive KJ where
 |A6 (sz:Nat) (p:MO)
 |CV (p:MO) (s:Nat)
 |pop (x lo:MO) (s:Nat)
 |A7 (f:FuncId) (xs:List MO)
inductive KI where
 |op (m:dC)
 |vB (d:Nat) (c:KJ)
inductive mH where
 |skip
 |fz (pU:Bool) (aR:List dC)
 |tH (ps:List (Nat×Nat)) (aR:List dC)
 |Ay (its:List KI)
 |wy (pU:Bool) (ps:List (Nat×Nat)) (aR:List dC) (sp:vm)
 |seq (a b:mH)
 |cond (c:MO) (a b:mH)
 |block (id:Nat) (c:mH)
 |join (ke kh:List Nat) (cn:List (Bool×Nat×Nat×Nat×Mode)) (c:mH)
 |loop (id:Nat) (ke kh:List Nat) (cn:List (Bool×Nat×Nat×Nat×Mode)) (c:mH)
 |exit (id:Nat)
 |ret
inductive K where
 |one|agg|ptr
 deriving DecidableEq
abbrev Dv:=K×List C
abbrev df:=List (List (Option Mode))
structure bz where
 pure:List (FuncId×(List Dv->Option (List Dv)))
 DP:List (FuncId×df×(List Dv->Option (List Dv×List C)))
 vs:List (FuncId×Bool×(List Dv->Option (List Dv×List C)))
 ws:List (FuncId×df×(List Dv->Option (Nat×Nat)))
 xs:List (FuncId×Nat×(List Dv->Option (List Dv×List C)))
 ns:List (FuncId×(List Dv->Option (List Dv)))
def bz.uo:List (FuncId×df×(List Dv->Option (List Dv×List C)))->FuncId->Option (df×(List Dv->Option (List Dv×List C)))
 |[],_=>none
 |(g,M)::l,f=>if f=g then some M else bz.uo l f
def bz.ye:List (FuncId×df×(List Dv->Option (Nat×Nat)))->FuncId->Option (df×(List Dv->Option (Nat×Nat)))
 |[],_=>none
 |(g,M)::l,f=>if f=g then some M else bz.ye l f
def bz.yf:List (FuncId×Nat×(List Dv->Option (List Dv×List C)))->FuncId->Option (Nat×(List Dv->Option (List Dv×List C)))
 |[],_=>none
 |(g,M)::l,f=>if f=g then some M else bz.yf l f
def bz.rO:List (FuncId×Bool×(List Dv->Option (List Dv×List C)))->FuncId->Option (Bool×(List Dv->Option (List Dv×List C)))
 |[],_=>none
 |(g,M)::l,f=>if f=g then some M else bz.rO l f
def bz.find:List (FuncId×(List Dv->Option (List Dv)))->FuncId->Option (List Dv->Option (List Dv))
 |[],_=>none
 |(g,M)::l,f=>if f=g then some M else bz.find l f
inductive xT where
 |gT (σ:St)
 |ext (id:Nat) (σ:St)
 |ret (σ:St)
def St.ev (σ:St):MO->aw
 |.t n=>σ.env n
 |.k v=>v
def St.put (σ:St) (d:Option Nat) (v:aw):St:=
 match d with
 |some n=>{σ with env:=aN σ.env n v}
 |none=>σ
def St.ins (σ:St) (n:Nat) (b:aV):Option St:=
 if σ.used n=true then none else some {σ with h:=aN σ.h n (some b),used:=aN σ.used n true}
def St.fQ (σ:St) (n:Nat) (b:aV):St:={σ with h:=aN σ.h n (some b)}
def St.del (σ:St) (n:Nat):St:={σ with h:=aN σ.h n none}
def aw.cells?:aw->Option (Bool×List ao)
 |.one .cj=>none
 |.one c=>some (false,[c])
 |.agg cs=>some (true,cs)
 |.cT _=>none
def wF:Bool->List ao->aw
 |true,cs=>.agg cs
 |false,[c]=>.one c
 |false,_=>.one .cj
def sub {α:Type} (l:List α) (off sz:Nat):Option (List α):=if off+sz<=l.length then some ((l.drop off).take sz) else none
def eP {α:Type} (l:List α) (off:Nat) (vs:List α):List α:=l.take off++vs++l.drop (off+vs.length)
def C.gI:C->Bool
 |.list ..=>false
 |_=>true
def io (l:List C):Bool:=l.all C.gI
def gU (l:List (List C)):Bool:=l.all io
def lY (n k rs:Nat):Nat->List C->List ao
 |_,[]=>[]
 |off,.list sz ys::l=>.cF n k rs off sz ys.length::lY n k rs (off+1) l
 |off,x::l=>.c x::lY n k rs (off+1) l
def loadAt (h:Nat->Option aV) (p:ao) (sz:Nat):Option (List ao):=
 match p with
 |.ptr n k aZ off=>
  match h n with
  |some (.box cs)=>if k=0 then sub cs off sz else none
  |some (.row _ m rs xs)=>
   if aZ=rs then
    match xs[k]? with
    |some e=>match sub e off sz with
     |some l=>some (if m=.live then lY n k rs off l else l.map .c)
     |none=>none
    |none=>none
   else none
  |none=>none
 |.ez xs off=>(sub xs off sz).map (·.map .c)
 |.dE xs off j n s len=>if off=j/\sz=1 then some [.sl n s 0 len] else if off+sz<=j then(sub xs off sz).map (·.map .c) else none
 |.eE n k aZ off s i=>
  match h n with
  |some (.row _ .live rs xs)=>if rs=aZ then
   match(xs[k]?).bind (·[off]?) with
   |some (.list s' ys)=>if s'=s/\sz=s then
    match ys[i]? with
    |some e=>if io e=true then some (e.map .c) else none
    |none=>none
    else none
   |_=>none
   else none
  |_=>none
 |_=>none
def dX (h:Nat->Option aV):ao->Option C
 |.c x=>some x
 |.nil sz=>if 0<sz then some (.list sz []) else none
 |.sl n sz lo len=>
  match h n with
  |some (.row _ _ rs xs)=>if rs=sz/\lo+len<=xs.length then some (.list sz ((xs.drop lo).take len)) else none
  |_=>none
 |.cF n k aZ off sz len=>
  match h n with
  |some (.row _ .live rs xs)=>if rs=aZ then(xs[k]?).bind (·[off]?) else none
  |_=>none
 |_=>none
def mb (h:Nat->Option aV):List ao->Option (List C)
 |[]=>some []
 |c::cs=>match dX h c,mb h cs with
  |some x,some xs=>some (x::xs)
  |_,_=>none
def mD (h:Nat->Option aV):aw->Option Dv
 |.one (.ptr n k sz off)=>
  match h n with
  |some (.box cs)=>if k=0/\off=0 then(mb h cs).map fun l=>(.ptr,l) else none
  |_=>none
 |.one (.ez xs off)=>if off=0 then some (.ptr,xs) else none
 |.one c=>(dX h c).map fun x=>(.one,[x])
 |.agg cs=>(mb h cs).map fun l=>(.agg,l)
 |.cT _=>none
def qk (h:Nat->Option aV):List aw->Option (List Dv)
 |[]=>some []
 |c::cs=>match mD h c,qk h cs with
  |some x,some xs=>some (x::xs)
  |_,_=>none
def St.ir (σ:St):ao->Option (C×Bool×St)
 |.c x=>some (x,x.gI,σ)
 |.nil sz=>if 0<sz then some (.list sz [],true,σ) else none
 |.sl n sz lo len=>
  match σ.h n with
  |some (.row _ m rs xs)=>if rs=sz/\lo=0/\len<=xs.length then some (.list sz (xs.take len),decide (m≠ .bh),σ.del n) else none
  |_=>none
 |_=>none
def St.jm (σ:St):List ao->Option (List C×Bool×St)
 |[]=>some ([],true,σ)
 |c::cs=>match σ.ir c with
  |some (x,o,σ1)=>match σ1.jm cs with
   |some (xs,o',σ2)=>some (x::xs,o&&o',σ2)
   |none=>none
  |none=>none
def St.nE (sz:Nat) (σ:St):List aw->Option (List (List C)×Bool×St)
 |[]=>some ([],true,σ)
 |v::vs=>match v.cells? with
  |some (_,cs)=>if cs.length=sz then
   match σ.jm cs with
   |some (e,o,σ1)=>match σ1.nE sz vs with
    |some (es,o',σ2)=>some (e::es,o&&o',σ2)
    |none=>none
   |none=>none
   else none
  |none=>none
def JE:List ao->Option (List C)
 |[]=>some []
 |.c x::cs=>if x.gI=true then match JE cs with
  |some e=>some (x::e)
  |none=>none
  else none
 |_::_=>none
def Gk (sz:Nat):List aw->Option (List (List C))
 |[]=>some []
 |v::vs=>match v.cells? with
  |some (_,cs)=>if cs.length=sz then
   match JE cs with
   |some e=>match Gk sz vs with
    |some es=>some (e::es)
    |none=>none
   |none=>none
   else none
  |none=>none
theorem agR (σ:St):∀{cs:List ao} {e:List C},JE cs=some e->σ.jm cs=some (e,true,σ)
 |[],e,h=>by injection h with h;rw[<-h];rfl
 |c::cs,e,h=>by cases c with|c x=>simp only[JE] at h;split at h;rename_i hx;split at h;rename_i e1 a;injection h with h;subst h;simp only[St.jm,St.ir,agR σ a,hx,za5];cases h;cases h|_=>cases h
theorem agQ (σ:St) {sz:Nat}:∀{vs:List aw} {a:List (List C)},Gk sz vs=some a->σ.nE sz vs=some (a,true,σ)
 |[],a,h=>by injection h with h;rw[<-h];rfl
 |v::vs,a,h=>by simp only[Gk] at h;split at h;rename_i b cs c;split at h;rename_i hl;split at h;rename_i e f;split at h;rename_i es1 d;injection h with h;subst h;simp only[St.nE,c,hl,if_true,agR σ f,agQ σ d,za5];cases h;cases h;cases h;cases h
theorem ajm {σ:St}:∀{cs:List ao} {e:List C} {o:Bool} {σ1:St},σ.jm cs=some (e,o,σ1)->(∀x∈e,x.gI=true)->JE cs=some e/\o=true/\σ1=σ
 |[],e,o,σ1,h,_=>by simp only[St.jm,Pd,zah] at h;obtain⟨rfl,rfl,rfl⟩:=h;exact⟨rfl,rfl,rfl⟩
 |c::cs,e,o,σ1,h,hs=>by simp only[St.jm] at h;split at h;rename_i x o1 σ2 a;split at h;rename_i xs o2 jX d;simp only[Pd,zah] at h;obtain⟨rfl,rfl,rfl⟩:=h;have hx:=hs x (by simp);(cases c with|c y=>simp only[St.ir,Pd,zah] at a;obtain⟨rfl,rfl,rfl⟩:=a;obtain⟨p1,p2,p3⟩:=ajm d fun z b=>hs z (by simp[b]);simp_all [JE,if_true]|nil sz=>simp only[St.ir] at a;split at a;simp only[Pd,zah] at a;obtain⟨rfl,rfl,rfl⟩:=a;cases hx;cases a|sl n sz lo len=>simp only[St.ir] at a;split at a;split at a;simp only[Pd,zah] at a;obtain⟨rfl,rfl,rfl⟩:=a;cases hx;cases a;cases a|_=>cases a);cases h;cases h
theorem ajl {σ:St} {sz:Nat}:∀{vs:List aw} {a:List (List C)} {o:Bool} {σ1:St},σ.nE sz vs=some (a,o,σ1)->(∀e∈a,∀x∈e,x.gI=true)->Gk sz vs=some a/\o=true/\σ1=σ
 |[],a,o,σ1,h,_=>by simp only[St.nE,Pd,zah] at h;obtain⟨rfl,rfl,rfl⟩:=h;exact⟨rfl,rfl,rfl⟩
 |v::vs,a,o,σ1,h,hs=>by simp only[St.nE] at h;split at h;rename_i b cs hc;split at h;rename_i hl;split at h;rename_i e o1 σ2 d;split at h;rename_i es1 o2 jX f;simp only[Pd,zah] at h;obtain⟨rfl,rfl,rfl⟩:=h;obtain⟨p1,rfl,rfl⟩:=ajm d (hs e (by simp));obtain⟨q1,rfl,rfl⟩:=ajl f fun z c=>hs z (by simp[c]);simp_all [Gk,if_true];cases h;cases h;cases h;cases h
def Mode.yU:Mode->Bool
 |.live=>false
 |_=>true
def St.imp (m:Mode) (σ:St):Nat->List C->Option (List ao×Nat×St)
 |nm,[]=>some ([],nm,σ)
 |nm,.list sz xs::cs=>match σ.ins nm (.row m.yU m sz xs) with
  |some σ1=>match σ1.imp m (nm+1) cs with
   |some (l,jN,σ2)=>some (.sl nm sz 0 xs.length::l,jN,σ2)
   |none=>none
  |none=>none
 |nm,x::cs=>match σ.imp m nm cs with
  |some (l,jN,σ2)=>some (.c x::l,jN,σ2)
  |none=>none
def St.nQ (m:Mode) (σ:St):Nat->List Dv->Option (List (Bool×List ao)×St)
 |_,[]=>some ([],σ)
 |nm,(.ptr,_)::_=>none
 |nm,(k,cs)::ds=>match σ.imp m nm cs with
  |some (l,jN,σ1)=>match σ1.nQ m jN ds with
   |some (ls,σ2)=>some ((decide (k=.agg),l)::ls,σ2)
   |none=>none
  |none=>none
def pL:List (Bool×List ao)->aw
 |[(ag,cs)]=>wF ag cs
 |l=>.cT l
def nT (d:Option Nat):Nat:=match d with|some n=>1000*(n+1)|none=>999
def qu:List Dv->Option (List (Bool×List ao))
 |[]=>some []
 |(.ptr,_)::_=>none
 |(k,cs)::ds=>match qu ds with
  |some ls=>some ((decide (k=.agg),cs.map .c)::ls)
  |none=>none
def C4 (T:bz) (m:Mode) (d:Option Nat) (f:FuncId) (as:List aw) (σ:St):Option St:=
 match qk σ.h as with
 |some ds=>match bz.find T.pure f with
  |some M=>match M ds with
   |some rs=>match σ.nQ m (nT d) rs with
    |some (ls,σ1)=>some (σ1.put d (pL ls))
    |none=>none
   |none=>none
  |none=>none
 |none=>none
def uE:ao->Option C
 |.c x=>some x
 |.nil sz=>if 0<sz then some (.list sz []) else none
 |_=>none
def oQ:List ao->Option (List C)
 |[]=>some []
 |c::cs=>match uE c,oQ cs with
  |some x,some xs=>some (x::xs)
  |_,_=>none
def vt (h:Nat->Option aV):aw->Option (Nat×List C)
 |.one (.ptr n k _ off)=>if k=0/\off=0 then match h n with
  |some (.box cs)=>match oQ cs with
   |some xs=>some (n,xs)
   |none=>none
  |_=>none
  else none
 |_=>none
def St.lE (σ:St):List aw->Option (List Dv×List Nat×St)
 |[]=>some ([],[],σ)
 |v::vs=>match vt σ.h v with
  |some (n,xs)=>match σ.lE vs with
   |some (ds,ns,σ1)=>some ((.ptr,xs)::ds,n::ns,σ1)
   |none=>none
  |none=>match v.cells? with
   |some (ag,cs)=>match σ.jm cs with
    |some (xs,_,σ1)=>match σ1.lE vs with
     |some (ds,ns,σ2)=>some ((if ag=true then .agg else .one,xs)::ds,ns,σ2)
     |none=>none
    |none=>none
   |none=>none
def St.uW (σ:St):List Nat->List C->Option St
 |[],[]=>some σ
 |[n],out=>match σ.h n with
  |some (.box cs)=>if cs.length=out.length\/out=[] then some (σ.fQ n (.box (out.map .c))) else none
  |_=>none
 |_,_=>none
def vu (σ:St) (d:Option Nat):List Dv->Option St
 |[(.ptr,cs)]=>match d with
  |some q=>match σ.ins q (.box (cs.map .c)) with
   |some σ1=>some (σ1.put d (.one (.ptr q 0 0 0)))
   |none=>none
  |none=>none
 |rs=>match qu rs with
  |some ls=>some (σ.put d (pL ls))
  |none=>none
def zC (f:Nat):Nat:=match za8 1000000 f with
 |true=>f - 1000000
 |false=>f
def vv (σ:St) (d:Option Nat):Bool->List Dv->Option St
 |false,rs=>vu σ d rs
 |true,rs=>match σ.nQ .live (nT d) rs with
  |some (ls,σ1)=>some (σ1.put d (pL ls))
  |none=>none
def vD (T:bz) (d:Option Nat) (f:FuncId) (as:List aw) (σ:St):Option St:=
 match σ.lE as,bz.rO T.vs f with
 |some (ds,ns,σ1),some (o,M)=>match M ds with
  |some (rs,out)=>match σ1.uW ns out with
   |some σ2=>vv σ2 d o rs
   |none=>none
  |none=>none
 |_,_=>none
def Gp:List aw->Option (List Dv)
 |[]=>some []
 |v::vs=>match v.cells? with
  |some (ag,cs)=>match oQ cs with
   |some xs=>match Gp vs with
    |some ds=>some ((if ag=true then .agg else .one,xs)::ds)
    |none=>none
   |none=>none
  |none=>none
def EY (T:bz) (f:FuncId) (as:List aw):Option aw:=
 match Gp as,bz.rO T.vs f with
 |some ds,some (false,M)=>match M ds with
  |some (rs,[])=>match qu rs with
   |some ls=>some (pL ls)
   |none=>none
  |_=>none
 |_,_=>none
theorem aoV {c:ao} {x:C} (h:uE c=some x) (σ:St):∃o,σ.ir c=some (x,o,σ):=by cases c with|c y=>simp only[uE] at h;injection h with h;subst h;exact⟨_,rfl⟩|nil sz=>simp only[uE] at h;split at h;rename_i a;injection h with h;subst h;exact⟨_,ai a⟩;cases h|_=>simp[uE] at h
theorem ae2:∀{cs:List ao} {xs:List C},oQ cs=some xs->∀σ:St,∃o,σ.jm cs=some (xs,o,σ)
 |[],xs,h,σ=>by simp only[oQ] at h;injection h with h;subst h;exact⟨_,rfl⟩
 |c::cs,xs,h,σ=>by simp only[oQ] at h;split at h;rename_i x aM a b;injection h with h;subst h;obtain⟨o1,h1⟩:=aoV a σ;obtain⟨o2,h2⟩:=ae2 b σ;simp_all [St.jm];cases h
theorem ag8:∀{as:List aw} {ds:List Dv},Gp as=some ds->∀σ:St,σ.lE as=some (ds,[],σ)
 |[],ds,h,σ=>by simp only[Gp] at h;injection h with h;subst h;rfl
 |v::vs,ds,h,σ=>by simp only[Gp] at h;split at h;rename_i ag cs a;split at h;rename_i xs c;split at h;rename_i Bj d;injection h with h;subst h;have e:vt σ.h v=none:=(by unfold vt;split;grind [aw.cells?,oQ,uE];rfl);obtain⟨o,b⟩:=ae2 c σ;simp only[St.lE,e,a,b,ag8 d σ];cases h;cases h;cases h
theorem alB {T:bz} {d:Option Nat} {f:FuncId} {as:List aw} {v:aw} (h:EY T f as=some v) (σ:St):vD T d f as σ=some (σ.put d v):=by unfold EY at h;split at h;rename_i ds M b c;split at h;rename_i rs a;split at h;rename_i ls hl;injection h with h;subst h;simp only[vD,ag8 b σ,c,a,St.uW,vv];unfold vu;grind [qu];cases h;cases h;cases h
def C.zA:C->Bool
 |.list _ xs=>gU xs
 |_=>true
def C.xl:C->Bool
 |.list ..=>true
 |_=>false
def zD:Mode->List (List C)->Bool
 |.bi,xs=>gU xs
 |.live,xs=>xs.all fun e=>e.all C.zA
 |.bh,_=>false
inductive e7 where
 |nil (sz:Nat)
 |row (n:Nat)
 |nest (n k off:Nat)
def yT (h:Nat->Option aV) (md:Mode):ao->Option (e7×C)
 |.nil sz=>if 0<sz/\md≠ .bh then some (.nil sz,.list sz []) else none
 |.sl n sz lo len=>match h n with
  |some (.row gr m rs xs)=>if m≠ .bh/\(md=.live->m=.live)/\rs=sz/\lo=0/\len=xs.length/\zD md xs=true/\(m=.live->gr=false) then some (.row n,.list sz xs) else none
  |_=>none
 |.cF n k aZ off sz len=>match h n with
  |some (.row false .live rs xs)=>if rs=aZ/\md=.bi then
   match(xs[k]?).bind (·[off]?) with
   |some (.list s ys)=>if gU ys=true then some (.nest n k off,.list s ys) else none
   |_=>none
   else none
  |_=>none
 |_=>none
def e7.g0:e7->Option Nat
 |.nil _=>none
 |.row n=>some n
 |.nest n _ _=>some n
def ao.g0:ao->Option Nat
 |.sl n _ _ _=>some n
 |.cF n _ _ _ _ _=>some n
 |_=>none
def sj:List (Option Mode)->List ao->List Nat
 |some _::fs,c::cs=>c.g0.toList++sj fs cs
 |none::fs,_::cs=>sj fs cs
 |_,_=>[]
def o8 (h h0:Nat->Option aV):List (Option Mode)->List ao->Option (List C×List (e7×Mode))
 |[],cs=>match mb h0 cs with
  |some xs=>some (xs,[])
  |none=>none
 |none::fs,c::cs=>match dX h0 c,o8 h h0 fs cs with
  |some x,some (xs,its)=>some (x::xs,its)
  |_,_=>none
 |some md::fs,c::cs=>match yT h md c,o8 h h0 fs cs with
  |some (it,x),some (xs,its)=>some (x::xs,(it,md)::its)
  |_,_=>none
 |_::_,[]=>none
def tz:df->List (Bool×List ao)->List Nat
 |s::sig,a::as=>sj s a.2++tz sig as
 |_,_=>[]
def df.hd:df->List (Option Mode)
 |[]=>[]
 |s::_=>s
def df.tl:df->df
 |[]=>[]
 |_::sig=>sig
def qJ (h h0:Nat->Option aV):df->List (Bool×List ao)->Option (List Dv×List (e7×Mode))
 |_,[]=>some ([],[])
 |sig,(ag,cs)::as=>match o8 h h0 (df.hd sig) cs,qJ h h0 (df.tl sig) as with
  |some (xs,its),some (ds,BU)=>some ((if ag=true then(.agg,xs) else(.one,xs))::ds,its++BU)
  |_,_=>none
def wu:List aw->Option (List (Bool×List ao))
 |[]=>some []
 |v::vs=>match v.cells?,wu vs with
  |some x,some xs=>some (x::xs)
  |_,_=>none
def fq (h:Nat->Option aV) (ns:List Nat):Nat->Option aV:=fun n=>if ns.contains n=true then none else h n
def St.tG (σ:St):e7->C->Option St
 |.nil _,_=>some σ
 |.row n,.list sz xs=>match σ.h n with
  |some (.row gr m rs _)=>if rs=sz then some (σ.fQ n (.row gr m rs xs)) else none
  |_=>none
 |.nest n k off,x=>match σ.h n with
  |some (.row gr m rs xs)=>match xs[k]? with
   |some e=>some (σ.fQ n (.row gr m rs (xs.set k (e.set off x))))
   |none=>none
  |_=>none
 |_,_=>none
def St.wx (σ:St):List (e7×Mode)->List C->Option St
 |[],[]=>some σ
 |it::its,x::xs=>match σ.tG it.1 x with
  |some σ1=>σ1.wx its xs
  |none=>none
 |_,_=>none
def wT (T:bz) (m:Mode) (d:Option Nat) (f:FuncId) (as:List aw) (σ:St):Option St:=
 match bz.uo T.DP f,wu as with
 |some (sig,M),some gh=>
  if(tz sig gh).Nodup then
   match qJ σ.h (fq σ.h (tz sig gh)) sig gh with
   |some (ds,its)=>match M ds with
    |some (rs,fy)=>match σ.wx its fy with
     |some σ1=>match σ1.nQ m (nT d) rs with
      |some (ls,σ2)=>some (σ2.put d (pL ls))
      |none=>none
     |none=>none
    |none=>none
   |none=>none
  else none
 |_,_=>none
def pi:Nat->df
 |0=>[[some .bi]]
 |i+1=>[]::pi i
def dI (n:Nat):Dv:=(.one,[.int .i64 (n:Int)])
def xM (i lo hi:Nat) (M:List Dv->Option (List Dv×List C)) (ds:List Dv):Option (List Dv×List C):=
 match ds[i]? with
 |some (.one,[.list 1 _])=>M (dI lo::dI hi::ds)
 |_=>none
def KE (h:Nat->Option aV):aw->Option (Nat×Nat×Nat×Nat)
 |.one (.sl n s lo len)=>match h n with
  |some (.row _ _ rs xs)=>if s=1/\rs=1/\lo<xs.length/\lo+len<=xs.length then some (n,lo,len,xs.length) else none
  |_=>none
 |_=>none
def Bi (T:bz) (m:Mode) (d:Option Nat) (f:FuncId) (as:List aw) (σ:St):Option St:=
 match bz.yf T.xs f with
 |some (i,M)=>match as[i]? with
  |some a=>match KE σ.h a with
   |some (n,lo,len,N)=>wT {T with DP:=[(f,pi i,xM i lo (lo+len) M)]} m d f (as.set i (.one (.sl n 1 0 N))) σ
   |none=>none
  |none=>none
 |none=>none
def vE (T:bz) (f:FuncId) (as:List aw) (h:Nat->Option aV):Option aw:=
 match bz.ye T.ws f,wu as with
 |some (sig,M),some gh=>
  match tz sig gh with
  |[n]=>match qJ h (fq h [n]) sig gh with
   |some (ds,[(.row n',_)])=>if n'=n then match h n,M ds with
    |some (.row _ _ sz _),some (lo,len)=>some (.one (.sl n sz lo len))
    |_,_=>none
    else none
   |_=>none
  |_=>none
 |_,_=>none
def Hs (op:BinOp) (k:IntKind) (a b:Int):Option C:=
 match op with
 |.add=>some (.int k (k.wrap (a+b)))
 |.sub=>some (.int k (k.wrap (a - b)))
 |.mul=>some (.int k (k.wrap (a*b)))
 |.quo=>if b=0 then none else some (.int k (k.wrap (a.tdiv b)))
 |.rem=>if b=0 then none else some (.int k (a.tmod b))
 |.and=>some (.int k (bits .and k a b))
 |.or=>some (.int k (bits .or k a b))
 |.xor=>some (.int k (bits .xor k a b))
 |.eql=>some (.bool (a==b))
 |.neq=>some (.bool (a !=b))
 |.lss=>some (.bool (decide (a<b)))
 |.leq=>some (.bool (decide (a<=b)))
 |.gtr=>some (.bool (decide (b<a)))
 |.geq=>some (.bool (decide (b<=a)))
 |_=>none
def J8 (op:BinOp) (k:IntKind) (a b:Int):Option C:=
 if b<0 then none else
 match op with
 |.shl=>some (.int k (k.wrap (a*2^(min b.toNat k.bits))))
 |.shr=>some (.int k (a/(2^(min b.toNat k.bits))))
 |_=>none
def BinOp.FK:BinOp->Bool
 |.shl|.shr=>true
 |_=>false
def CU (op:BinOp):aw->aw->Option C
 |.one (.c (.int k a)),.one (.c (.int k' b))=>if BinOp.FK op=true then J8 op k a b else if k=k' then Hs op k a b else none
 |_,_=>none
def Hr (op:BinOp):aw->aw->Option C
 |.one (.c (.bool a)),.one (.c (.bool b))=>match op with
  |.eql=>some (.bool (a==b))
  |.neq=>some (.bool (a !=b))
  |_=>none
 |_,_=>none
def Kz (op:UnOp):aw->Option C
 |.one (.c (.bool a))=>match op with
  |.not=>some (.bool (!a))
  |_=>none
 |.one (.c (.int k a))=>match op with
  |.neg=>some (.int k (k.wrap (0 - a)))
  |_=>none
 |_=>none
def aw.fW:aw->Option Int
 |.one (.c (.int _ n))=>some n
 |_=>none
def fe:Nat:=140737488355328
def wD (ev:MO->aw):List ao->List (Nat×Nat×MO)->Option (List ao)
 |zs,[]=>some zs
 |zs,(off,sz,x)::ps=>match(ev x).cells? with
  |some (_,cs)=>if cs.length=sz/\off+sz<=zs.length then wD ev (eP zs off cs) ps else none
  |none=>none
def u9 (σ:St) (n:Nat) (gr:Bool) (m:Mode) (rs:Nat) (xs:List (List C)) (k off:Nat) (e:List C) (vs:List ao):Option St:=
 match sub e off vs.length with
 |none=>none
 |some mB=>match σ.jm vs with
  |none=>none
  |some (cs,o,σ1)=>
   if m=.live then
    if io cs=true/\io mB=true/\(σ1.h n).isSome=true/\gr=false then some (σ1.fQ n (.row gr m rs (xs.set k (eP e off cs)))) else none
   else if(σ1.h n).isSome=true then
    some (σ1.fQ n (.row gr (if o=true then m else .bh) rs (xs.set k (eP e off cs))))
   else none
def qt:List ao->Option (List C)
 |[]=>some []
 |.c x::l=>if x.gI=true then(qt l).map (x::·) else none
 |_::_=>none
def Gv (xs:List (List C)) (k off s i:Nat) (vs:List ao):Option (List (List C)):=
 match(xs[k]?).bind (·[off]?) with
 |some (.list s' ys)=>if s'=s/\vs.length=s/\i<ys.length/\gU ys=true then(qt vs).map fun cs=>xs.set k ((xs.getD k []).set off (.list s' (ys.set i cs))) else none
 |_=>none
def AX (σ:St) (sz:Nat):aw->Option (List (List C)×Mode×St)
 |.one (.nil _)=>some ([],.bi,σ)
 |.one (.sl a s 0 len)=>match σ.h a with
  |some (.row true m rs xs)=>if rs=sz/\s=sz/\len=xs.length then some (xs,m,σ.del a) else none
  |_=>none
 |_=>none
def ud (fl:Bool) (σ1:St) (sz:Nat) (m:Mode):aw->Option (List (List C)×Mode×St)
  |.one (.nil _)=>some ([],m,σ1)
  |.one (.c (.list s ys))=>if s=sz then(if(fl&&gU ys)=true then some (ys,m,σ1) else if m=.live then none else some (ys,.bh,σ1)) else none
  |.one (.sl b s lo len)=>match σ1.h b with
   |some (.row gr m' rs ys)=>if rs=sz/\s=sz/\lo+len<=ys.length then
       (if(fl&&gU ((ys.drop lo).take len))=true then some ((ys.drop lo).take len,m,σ1)
        else if lo=0/\len=ys.length then(if m=m'/\(m=.live->gr=true) then some (ys,m,σ1.del b) else if m=.live\/m'=.live then none else some (ys,.bh,σ1.del b)) else none)
    else none
   |_=>none
  |_=>none
def exec (T:bz) (d:Option Nat) (op:dB) (σ:St):Option St:=
 match op with
 |.mv x=>some (σ.put d (σ.ev x))
 |.pick c x y=>match σ.ev c with
  |.one (.c (.bool b))=>if b=true then some (σ.put d (σ.ev x)) else some (σ.put d (σ.ev y))
  |_=>none
 |.alloc zs=>match d with
  |some n=>match σ.ins n (.box zs) with
   |some σ1=>some (σ1.put d (.one (.ptr n 0 0 0)))
   |none=>none
  |none=>none
 |.box sz x=>match d,(σ.ev x).cells? with
  |some n,some (_,cs)=>if cs.length=sz then
   match σ.ins n (.box cs) with
   |some σ1=>some (σ1.put d (.one (.ptr n 0 0 0)))
   |none=>none
   else none
  |_,_=>none
 |.build zs parts=>match wD σ.ev zs parts with
  |some cs=>some (σ.put d (.agg cs))
  |none=>none
 |.iu sz parts=>match d,σ.nE sz (parts.map σ.ev) with
  |some n,some (es,o,σ1)=>match σ1.ins n (.row true (if o=true then .bi else .bh) sz es) with
   |some σ2=>some (σ2.put d (.one (.sl n sz 0 es.length)))
   |none=>none
  |_,_=>none
 |.AZ sz parts=>match d,Gk sz (parts.map σ.ev) with
  |some n,some es=>match σ.ins n (.row true .bi sz es) with
   |some σ2=>some (σ2.put d (.one (.sl n sz 0 es.length)))
   |none=>none
  |_,_=>none
 |.load ag sz x=>match σ.ev x with
  |.one p=>match loadAt σ.h p sz with
   |some cs=>some (σ.put d (wF ag cs))
   |none=>none
  |_=>none
 |.store sz x v=>match σ.ev x,(σ.ev v).cells? with
  |.one (.ptr n k aZ off),some (_,vs)=>if vs.length=sz then
   match σ.h n with
   |some (.box cs)=>if k=0/\off+sz<=cs.length then some (σ.fQ n (.box (eP cs off vs))) else none
   |some (.row gr m rs xs)=>if aZ=rs then
    match xs[k]? with
    |some e=>u9 σ n gr m rs xs k off e vs
    |none=>none
    else none
   |none=>none
   else none
  |.one (.eE n k aZ off s i),some (_,vs)=>if vs.length=sz then
   match σ.h n with
   |some (.row false .live rs xs)=>if aZ=rs then
    match Gv xs k off s i vs with
    |some aM=>some (σ.fQ n (.row false .live rs aM))
    |none=>none
    else none
   |_=>none
   else none
  |_,_=>none
 |.lZ x=>match σ.ev x with
  |.one (.ptr n k sz off)=>if(σ.h n).isSome=true then some (σ.put d (.one (.ptr n k sz off))) else none
  |.one (.ez xs off)=>some (σ.put d (.one (.ez xs off)))
  |.one (.dE xs off j n s len)=>some (σ.put d (.one (.dE xs off j n s len)))
  |_=>none
 |.bin op x y=>match CU op (σ.ev x) (σ.ev y) with
  |some c=>some (σ.put d (.one (.c c)))
  |none=>none
 |.ue op x y=>match Hr op (σ.ev x) (σ.ev y) with
  |some c=>some (σ.put d (.one (.c c)))
  |none=>none
 |.un op x=>match Kz op (σ.ev x) with
  |some c=>some (σ.put d (.one (.c c)))
  |none=>none
 |.conv k x=>match σ.ev x with
  |.one (.c (.int _ n))=>some (σ.put d (.one (.c (.int k (k.wrap n)))))
  |_=>none
 |.jW m sz ew zs l c=>match d,(σ.ev l).fW,(σ.ev c).fW with
  |some n,some a,some b=>if a<=b/\0<=a/\b.toNat*ew<=fe/\zs.length=sz then
   match σ.ins n (.row true m sz (IS a.toNat zs)) with
   |some σ1=>some (σ1.put d (.one (.sl n sz 0 a.toNat)))
   |none=>none
   else none
  |_,_,_=>none
 |.slice sz x lo hi=>
  let Yv:Option Int:=match lo with|none=>some 0|some l=>(σ.ev l).fW
  match σ.ev x,Yv with
  |.one (.sl n s l0 len),some l=>
   match(match hi with|none=>some (len:Int)|some h=>(σ.ev h).fW) with
   |some h=>if s=sz/\0<=l/\l<=h/\h<=len/\(σ.h n).isSome=true then some (σ.put d (.one (.sl n s (l0+l.toNat) (h - l).toNat))) else none
   |none=>none
  |.one (.c (.list s xs)),some l=>
   match(match hi with|none=>some (xs.length:Int)|some h=>(σ.ev h).fW) with
   |some h=>if s=sz/\0<=l/\l<=h/\h<=xs.length then some (σ.put d (.one (.c (.list s ((xs.drop l.toNat).take (h - l).toNat))))) else none
   |none=>none
  |_,_=>none
 |.q8 off x=>match σ.ev x with
  |.one (.ptr n k sz o)=>if(σ.h n).isSome=true then some (σ.put d (.one (.ptr n k sz (o+off)))) else none
  |.one (.ez xs o)=>some (σ.put d (.one (.ez xs (o+off))))
  |.one (.dE xs o j n s len)=>some (σ.put d (.one (.dE xs (o+off) j n s len)))
  |_=>none
 |.rm sz x i=>match σ.ev x,(σ.ev i).fW with
  |.one (.sl n s lo len),some k=>if s=sz/\0<=k/\k<len/\(σ.h n).isSome=true then some (σ.put d (.one (.ptr n (lo+k.toNat) s 0))) else none
  |.one (.c (.list s xs)),some k=>if s=sz/\0<=k then
   match xs[k.toNat]? with
   |some e=>some (σ.put d (.one (.ez e 0)))
   |none=>none
   else none
  |.one (.cF n kk aZ off s len),some k=>match dX σ.h (.cF n kk aZ off s len) with
   |some (.list s' ys)=>if s'=sz/\0<=k/\k<ys.length then some (σ.put d (.one (.eE n kk aZ off sz k.toNat))) else none
   |_=>none
  |_,_=>none
 |.ext i x=>match σ.ev x with
  |.cT xs=>match xs[i]? with
   |some (ag,cs)=>some (σ.put d (wF ag cs))
   |none=>none
  |_=>none
 |.len x=>match σ.ev x with
  |.one (.sl n sz lo len)=>if(σ.h n).isSome=true then some (σ.put d (.one (.c (.int .i64 len)))) else none
  |.one (.c (.list sz xs))=>some (σ.put d (.one (.c (.int .i64 xs.length))))
  |.one (.nil sz)=>some (σ.put d (.one (.c (.int .i64 0))))
  |.one (.cF n k aZ off sz len)=>match dX σ.h (.cF n k aZ off sz len) with
   |some (.list s ys)=>some (σ.put d (.one (.c (.int .i64 ys.length))))
   |_=>none
  |_=>none
 |.append fl sz ew x y=>match d with
  |none=>none
  |some n=>match AX σ sz (σ.ev x) with
   |none=>none
   |some (xs,m,σ1)=>match ud fl σ1 sz m (σ.ev y) with
    |none=>none
    |some (ys,m2,σ2)=>
     if(xs.length+ys.length)*ew<=fe then
      match σ2.ins n (.row true m2 sz (xs++ys)) with
      |some jX=>some (jX.put d (.one (.sl n sz 0 (xs.length+ys.length))))
      |none=>none
     else none
 |.copy sz x y=>match σ.ev x,σ.ev y with
  |.one (.sl n s lo len),.one c=>match σ.h n,dX σ.h c with
   |some (.row gr m rs xs),some (.list s' ys)=>if sz=1/\s=1/\rs=1/\s'=1/\m≠ .bh/\gU xs=true/\gU ys=true/\lo+len<=xs.length then
    some ((σ.fQ n (.row gr m 1 (eP xs lo (ys.take len)))).put d (.one (.c (.int .i64 (Nat.min ys.length len:Nat))))) else none
   |_,_=>none
  |_,_=>none
 |.wR z x=>match σ.ev x with
  |.one (.sl n s lo len)=>match σ.h n with
   |some (.row gr m rs xs)=>if s=1/\rs=1/\z.gI=true/\m≠ .bh/\gU xs=true/\lo+len<=xs.length then
    some ((σ.fQ n (.row gr m 1 (eP xs lo (IS len [z])))).put d (.cT [])) else none
   |_=>none
  |_=>none
 |.mm mx x y=>match σ.ev x,σ.ev y with
  |.one (.c (.int k a)),.one (.c (.int k' b))=>if mx=true then(if a<b then some (σ.put d (.one (.c (.int k b)))) else some (σ.put d (.one (.c (.int k a)))))
   else(if b<a then some (σ.put d (.one (.c (.int k b)))) else some (σ.put d (.one (.c (.int k a)))))
  |_,_=>none
 |.call m f xs=>C4 T m d f (xs.map σ.ev) σ
 |.qp m f xs=>wT T m d f (xs.map σ.ev) σ
 |.qV f xs=>vD T d f (xs.map σ.ev) σ
 |.pS f xs=>match vE T f (xs.map σ.ev) σ.h with
  |some v=>some (σ.put d v)
  |none=>none
 |.oI f xs=>match EY T f (xs.map σ.ev) with
  |some v=>some (σ.put d v)
  |none=>none
 |.uf m f xs=>Bi T m d f (xs.map σ.ev) σ
def gA (T:bz) (o:dC) (σ:St):Option St:=
 match o.guard with
 |none=>exec T o.dst o.op σ
 |some (s,tO)=>match σ.env s with
  |.one (.c (.bool b))=>if b=tO then exec T o.dst o.op σ else some (σ.put o.dst (.cT []))
  |.cT []=>some (σ.put o.dst (.cT []))
  |_=>none
def iv (T:bz):List dC->St->Option St
 |[],σ=>some σ
 |o::os,σ=>match gA T o σ with
  |some σ'=>iv T os σ'
  |none=>none
def ao.iJ (ok:Nat->Bool):ao->ao
 |.ptr n k sz off=>if ok n=true then .ptr n k sz off else .cj
 |.sl n sz lo len=>if ok n=true then .sl n sz lo len else .cj
 |.cF n k aZ off sz len=>if ok n=true then .cF n k aZ off sz len else .cj
 |.eE n k aZ off sz i=>if ok n=true then .eE n k aZ off sz i else .cj
 |.dE xs off j n sz len=>if ok n=true then .dE xs off j n sz len else .cj
 |x=>x
def ao.eR (ok:Nat->Bool):ao->ao
 |.fn f fv=>.fn f (fv.map (·.iJ ok))
 |x=>x.iJ ok
def aw.eR (ok:Nat->Bool):aw->aw
 |.one c=>.one (c.eR ok)
 |.agg cs=>.agg (cs.map (·.eR ok))
 |.cT xs=>.cT (xs.map fun x=>(x.1,x.2.map (·.eR ok)))
def aV.eR (ok:Nat->Bool):aV->aV
 |.box cs=>.box (cs.map (·.eR ok))
 |b=>b
def C5:Nat->aw:=fun _=>.one .cj
def HS:Nat->Option aV:=fun _=>none
def acv:Nat->Bool:=fun _=>false
def Cg (ok:Nat->Bool) (env:Nat->aw):List Nat->(Nat->aw)
 |[]=>C5
 |s::ss=>aN (Cg ok env ss) s ((env s).eR ok)
def xB (ok:Nat->Bool) (h:Nat->Option aV):List Nat->(Nat->Option aV)
 |[]=>HS
 |s::ss=>if ok s=true then match h s with
  |some b=>aN (xB ok h ss) s (some (b.eR ok))
  |none=>xB ok h ss
  else xB ok h ss
def Ch (ok:Nat->Bool):List Nat->(Nat->Bool)
 |[]=>acv
 |s::ss=>if ok s=true then aN (Ch ok ss) s true else Ch ok ss
def ao.DZ (n:Nat):ao->Bool
 |.ptr m _ _ _=>m==n
 |.sl m _ _ _=>m==n
 |.cF m _ _ _ _ _=>m==n
 |.eE m _ _ _ _ _=>m==n
 |.dE _ _ _ m _ _=>m==n
 |_=>false
def ao.km (n:Nat):ao->Bool
 |.fn _ fv=>fv.any (·.DZ n)
 |x=>x.DZ n
def aw.km (n:Nat):aw->Bool
 |.one c=>c.km n
 |.agg cs=>cs.any (·.km n)
 |.cT xs=>xs.any fun x=>x.2.any (·.km n)
def St.nV (σ:St) (ke kh:List Nat):Nat->Bool:=fun n=>kh.contains n&&(σ.h n).isSome&&
 (za8 aY n||ke.any (fun s=>(σ.env s).km n)||kh.any fun k=>match σ.h k with|some (.box cs)=>cs.any (·.km n)|_=>false)
def St.mU (σ:St) (ke kh:List Nat):St:=
 {env:=Cg (σ.nV ke kh) σ.env ke,h:=xB (σ.nV ke kh) σ.h kh,used:=fun n=>za8 aY n||Ch (σ.nV ke kh) kh n}
def sv (x c n:Nat):Nat:=if n=x then c else n
def ao.tI (x c:Nat):ao->ao
 |.ptr n k sz off=>.ptr (sv x c n) k sz off
 |.sl n sz lo len=>.sl (sv x c n) sz lo len
 |.cF n k aZ off sz len=>.cF (sv x c n) k aZ off sz len
 |.eE n k aZ off sz i=>.eE (sv x c n) k aZ off sz i
 |.dE xs off j n sz len=>.dE xs off j (sv x c n) sz len
 |y=>y
def ao.cf (x c:Nat):ao->ao
 |.fn f fv=>.fn f (fv.map (·.tI x c))
 |y=>y.tI x c
def aw.cf (x c:Nat):aw->aw
 |.one y=>.one (y.cf x c)
 |.agg ys=>.agg (ys.map (·.cf x c))
 |.cT ys=>.cT (ys.map fun y=>(y.1,y.2.map (·.cf x c)))
def aV.cf (x c:Nat):aV->aV
 |.box cs=>.box (cs.map (·.cf x c))
 |b=>b
def St.cf (σ:St) (x c:Nat):Option St:=
 if x=c then some σ else if za8 aY x=true then some σ else if σ.used c=true then none else
 some {env:=fun s=>(σ.env s).cf x c,h:=fun n=>if n=c then(σ.h x).map (·.cf x c) else if n=x then none else(σ.h n).map (·.cf x c),used:=fun n=>if n=c then σ.used x else if n=x then false else σ.used n}
def St.ph (σ:St) (c:Nat):Mode->St
 |.bh=>match σ.h c with
  |some (.row gr .bi rs xs)=>σ.fQ c (.row gr .bh rs xs)
  |_=>σ
 |_=>σ
def St.canon (σ:St):Bool×Nat×Nat×Nat×Mode->Option St
 |(true,n,j,c,m)=>match σ.h n with
  |some (.box cs)=>match cs[j]? with
   |some (.sl a _ _ _)=>(σ.cf a c).map fun σ1=>σ1.ph c m
   |some (.nil sz)=>if 0<sz then match σ.ins c (.row true m sz []) with
    |some σ1=>some (σ1.fQ n (.box (cs.set j (.sl c sz 0 0))))
    |none=>none
    else some σ
   |_=>some σ
  |_=>some σ
 |(false,n,j,c,m)=>match σ.env n with
  |.one (.sl a _ _ _)=>(σ.cf a c).map fun σ1=>σ1.ph c m
  |.one (.nil sz)=>if 0<sz then match σ.ins c (.row true m sz []) with
   |some σ1=>some (σ1.put (some n) (.one (.sl c sz 0 0)))
   |none=>none
   else some σ
  |_=>some σ
def St.zq (σ:St):List (Bool×Nat×Nat×Nat×Mode)->Option St
 |[]=>some σ
 |x::l=>match σ.canon x with
  |some σ1=>σ1.zq l
  |none=>none
def St.head (σ:St) (ke kh:List Nat) (cn:List (Bool×Nat×Nat×Nat×Mode)):Option St:=
 match((σ.mU ke kh).mU ke kh).zq cn with
 |some σ1=>some (σ1.mU ke kh)
 |none=>none
def dB.args:dB->List MO
 |.mv x|.box _ x|.load _ _ x|.lZ x|.un _ x|.conv _ x|.q8 _ x|.ext _ x|.len x|.wR _ x=>[x]
 |.pick c x y=>[c,x,y]
 |.alloc _=>[]
 |.build _ ps=>ps.map (·.2.2)
 |.iu _ ps|.AZ _ ps=>ps
 |.store _ x v=>[x,v]
 |.bin _ x y|.ue _ x y|.mm _ x y|.append _ _ _ x y|.copy _ x y|.rm _ x y=>[x,y]
 |.jW _ _ _ _ l c=>[l,c]
 |.slice _ x lo hi=>x::(lo.toList++hi.toList)
 |.call _ _ xs|.qp _ _ xs|.qV _ xs|.pS _ xs|.oI _ xs|.uf _ _ xs=>xs
def dB.afd:dB->Bool
 |.call ..=>true
 |_=>false
def ao.B8:ao->List Nat
 |.ptr n _ _ _=>[n]
 |.sl n _ _ _=>[n]
 |.cF n _ _ _ _ _=>[n]
 |.eE n _ _ _ _ _=>[n]
 |.dE _ _ _ n _ _=>[n]
 |_=>[]
def ao.nm:ao->List Nat
 |.fn _ fv=>fv.flatMap ao.B8
 |x=>x.B8
def aw.xz:aw->List Nat
 |.one c=>c.nm
 |.agg cs=>cs.flatMap ao.nm
 |.cT xs=>xs.flatMap fun x=>x.2.flatMap ao.nm
def dB.Ar (op:dB) (ev:MO->aw):List Nat:=op.args.flatMap fun x=>(ev x).xz
abbrev FP:=List Nat
def dB.fp (op:dB) (σ:St):Option FP:=
 match op with
 |.store _ x _=>match σ.ev x with
  |.one (.ptr n _ _ _)=>match σ.h n with
   |some (.box _)=>some (op.Ar σ.ev)
   |_=>none
  |_=>none
 |.mv _|.load ..|.q8 ..|.alloc _|.iu ..|.qV ..=>some (op.Ar σ.ev)
 |_=>none
def Pk:Option FP->Option FP->Bool
 |some f,some g=>f.all fun n=> !(g.contains n)
 |_,_=>false
def wU (o:dC) (e:Nat->aw):Option dB:=
 match o.guard with
 |none=>some o.op
 |some (s,tO)=>match e s with
  |.one (.c (.bool b))=>if b=tO then some o.op else some (.mv (.k (.cT [])))
  |.cT []=>some (.mv (.k (.cT [])))
  |_=>none
def dC.fp (o:dC) (σ:St):Option FP:=
 match wU o σ.env with
 |some op=>op.fp σ
 |none=>none
def xA (ps:List (Nat×Nat)) (fs:List (Option FP)):Bool:=ps.all fun p=>Pk (fs.getD p.1 none) (fs.getD p.2 none)
def n7 (T:bz):List dC->List (Option FP)->St->Option (List (Option FP)×St)
 |[],acc,σ=>some (acc,σ)
 |o::os,acc,σ=>match gA T o σ with
  |some σ1=>n7 T os (acc++[o.fp σ]) σ1
  |none=>none
def bW:Nat:=2^64
def Jk:Nat->(St->Option xT)->St->Option xT
 |0,_,_=>none
 |n+1,f,σ=>match f σ with
  |some (.gT σ')=>Jk n f σ'
  |o=>o
def ao.mL (n:Nat):ao->ao
 |.cF m k aZ off sz len=>match zbb m n with
  |true=>.cj
  |false=>.cF m k aZ off sz len
 |.eE m k aZ off sz i=>match zbb m n with
  |true=>.cj
  |false=>.eE m k aZ off sz i
 |y=>y
def ao.cut (n:Nat):ao->ao
 |.fn f fv=>.fn f (fv.map (·.mL n))
 |y=>y.mL n
def aw.cut (n:Nat):aw->aw
 |.one c=>.one (c.cut n)
 |.agg cs=>.agg (cs.map (·.cut n))
 |.cT xs=>.cT (xs.map fun x=>(x.1,x.2.map (·.cut n)))
def aV.cut (n:Nat):aV->aV
 |.box cs=>.box (cs.map (·.cut n))
 |b=>b
def St.cut (σ:St) (n:Nat):St:={σ with env:=fun s=>(σ.env s).cut n,h:=fun m=>(σ.h m).map (·.cut n)}
def DR (sp:vm) (σ:St):Option St:=
 match σ.ev sp.mx,σ.ev sp.ml,σ.ev sp.my with
 |.one (.ptr n k rs off),.one (.cF n' k' pf qL s0 Ak),.one yc=>
  if n'=n/\k'=k/\pf=rs/\qL=off/\off+1=rs/\n<aY then
   match σ.h n with
   |some (.row true .live N4 xs)=>if N4=rs then
    match(xs[k]?).bind (·[off]?),dX σ.h yc with
    |some (.list s ls),some (.list s' ys)=>
     if s=sp.sz/\s'=sp.sz/\gU ls=true/\gU ys=true/\(ls.length+ys.length)*sp.ew<=fe then
      some ((σ.cut n).fQ n (.row true .live rs (xs.set k ((xs.getD k []).set off (.list sp.sz (ls++ys))))))
     else none
    |_,_=>none
    else none
   |_=>none
  else none
 |_,_,_=>none
def St.AF (σ:St):ao->Option (C×Bool×St)
 |.c x=>if x.gI=true then some (x,true,σ) else none
 |.nil sz=>if 0<sz then some (.list sz [],true,σ) else none
 |.sl n sz 0 len=>match σ.h n with
  |some (.row gr m rs xs)=>if rs=sz/\m≠ .bh/\gU xs=true/\len<=xs.length then some (.list sz (xs.take len),gr&&decide (0<len),σ.del n) else none
  |_=>none
 |_=>none
def St.xJ (σ:St):List ao->Option (List C×Bool×St)
 |[]=>some ([],true,σ)
 |c::cs=>match σ.AF c with
  |some (x,o,σ1)=>match σ1.xJ cs with
   |some (xs,o',σ2)=>some (x::xs,(match cs with|[]=>o|_::_=>o'),σ2)
   |none=>none
  |none=>none
def LJ (T:bz) (d:Nat) (f:FuncId) (as:List aw) (σ:St):Option St:=
 match qk σ.h as,bz.find T.ns f with
 |some ds,some M=>match M ds with
  |some [(.one,[.list sz xs])]=>match σ.ins (nT (some d)) (.row true .live sz xs) with
   |some σ1=>some (σ1.put (some d) (.one (.sl (nT (some d)) sz 0 xs.length)))
   |none=>none
  |_=>none
 |_,_=>none
def St.xG (σ:St) (s:Nat) (v:aw):St:={σ with env:=aN σ.env s v}
def x8 (T:bz) (d:Nat) (c:KJ) (σ:St):Option St:=
 match c with
 |.A6 sz p=>match(σ.ev p).cells? with
  |some (_,cs)=>if cs.length=sz then
   match σ.xJ cs with
   |some (es,true,σ1)=>match σ1.ins d (.row true .live sz [es]) with
    |some σ2=>some (σ2.put (some d) (.one (.sl d sz 0 1)))
    |none=>none
   |_=>none
   else none
  |none=>none
 |.CV p s=>match σ.ev p,σ.env s with
  |.one (.sl q sz lo len),.one (.sl q' bf An xt)=>if q'=q/\bf=sz/\xt=len/\s≠d/\lo=0/\An=0 then
   match σ.ir (.sl q sz 0 len) with
   |some (y,true,σ1)=>match σ1.ins d (.row true .bi 1 [[y]]) with
    |some σ2=>some ((σ2.put (some d) (.one (.sl d 1 0 1))).xG s (.one (.c y)))
    |none=>none
   |_=>none
   else none
  |_,_=>none
 |.pop x lo s=>match σ.ev x,(σ.ev lo).fW,σ.env s with
  |.one (.sl n s1 l1 len),some l,.one (.cF n' k rs off _ _)=>if s1=1/\l1=0/\l=1/\n'=n/\k=0/\rs=1/\off=0/\s≠d then
   match σ.h n with
   |some (.row true .live N4 xs)=>if N4=1/\len=xs.length then
    match xs[0]? with
    |some [C.list sz ys]=>if gU ys=true then
     match(σ.del n).ins d (.row true .live 1 (xs.drop 1)) with
     |some σ1=>match σ1.ins (nT (some d)) (.row false .bi sz ys) with
      |some σ2=>some ((σ2.put (some d) (.one (.sl d 1 0 (xs.length - 1)))).xG s (.one (.sl (nT (some d)) sz 0 ys.length)))
      |none=>none
     |none=>none
     else none
    |_=>none
    else none
   |_=>none
   else none
  |_,_,_=>none
 |.A7 f xs=>LJ T d f (xs.map σ.ev) σ
def zu (T:bz):List KI->St->Option St
 |[],σ=>some σ
 |.op m::l,σ=>match gA T m σ with
  |some σ1=>zu T l σ1
  |none=>none
 |.vB d c::l,σ=>match x8 T d c σ with
  |some σ1=>zu T l σ1
  |none=>none
def e9 (T:bz):mH->St->Option xT
 |.skip,σ=>some (.gT σ)
 |.fz _ aR,σ=>match iv T aR σ with
  |some σ'=>some (.gT σ')
  |none=>none
 |.tH ps aR,σ=>match n7 T aR [] σ with
  |some (fs,σ')=>cond (xA ps fs) (some (.gT σ')) none
  |none=>none
 |.Ay its,σ=>match zu T its σ with
  |some σ'=>some (.gT σ')
  |none=>none
 |.wy false _ aR sp,σ=>match iv T aR σ with
  |some σ1=>match DR sp σ1 with
   |some σ'=>some (.gT σ')
   |none=>none
  |none=>none
 |.wy true ps aR sp,σ=>match n7 T aR [] σ with
  |some (fs,σ1)=>match DR sp σ1 with
   |some σ'=>cond (xA ps fs) (some (.gT σ')) none
   |none=>none
  |none=>none
 |.seq a b,σ=>match e9 T a σ with
  |some (.gT σ')=>e9 T b σ'
  |o=>o
 |.cond c a b,σ=>match σ.ev c with
  |.one (.c (.bool t))=>if t=true then e9 T a σ else e9 T b σ
  |_=>none
 |.block id c,σ=>match e9 T c σ with
  |some (.ext i σ')=>if i=id then some (.gT σ') else some (.ext i σ')
  |o=>o
 |.join ke kh cn c,σ=>match e9 T c σ with
  |some (.gT σ')=>match σ'.head ke kh cn with
   |some σ1=>some (.gT σ1)
   |none=>none
  |o=>o
 |.loop id ke kh cn c,σ=>Jk bW (fun σ=>match σ.head ke kh cn with|some σ1=>e9 T c σ1|none=>none) σ
 |.exit id,σ=>some (.ext id σ)
 |.ret,σ=>some (.ret σ)
section
variable {B:Nat} {E:Ex} {w0 w w':World} {G G':Gh} {h h':Nat->Option aV} {used used':Nat->Bool} {tk:List PC}
theorem bU.refl (w:World) (G:Gh) (h:Nat->Option aV) (u:Nat->Prop):bU w G h u w G h:= ⟨fun _ h=>h,fun _ _ _=>rfl,fun _ _ h=>⟨h,rfl,rfl,rfl,rfl,rfl⟩,fun n b sz xs _ hn=>⟨⟨b,xs,hn⟩,fun k j pc c a=>⟨pc,c,rfl,a⟩⟩⟩
theorem bU.trans {c g d:World} {i e l:Gh} {j k f:Nat->Option aV} {u u2:Nat->Prop} (m:∀n,u n->u2 n) (a:bU c i j u g e k) (b:bU g e k u2 d l f):bU c i j u d l f:=by refine⟨fun x hx=>b.im x (a.im x hx),fun x hx o=>(b.cell x (a.im x hx) o).trans (a.cell x hx o),fun n hn h=>?_,fun n p sz xs hn h=>?_⟩;obtain⟨t,c1,c2,c3,c4,c5⟩:=b.name n (m n hn) h;obtain⟨d0,d1,d2,d3,d4,d5⟩:=a.name n hn t;simp_all;obtain⟨⟨s,q,r⟩,l2⟩:=b.live n p sz xs (m n hn) h;obtain⟨e1,l1⟩:=a.live n s sz q hn r;grind
theorem bU.world (f:∀b,G.Im b->w'.heap[b]? =w.heap[b]?) (u:Nat->Prop):bU w G h u w' G h:= ⟨fun _ h=>h,fun b e o=>kv (f b e) o,fun _ _ h=>⟨h,rfl,rfl,rfl,rfl,rfl⟩,fun n c sz xs _ hn=>⟨⟨c,xs,hn⟩,fun k j pc d a=>⟨pc,d,rfl,a⟩⟩⟩
theorem HR.tK (H:HR B E w G h used tk) {n:Nat} {d:Bool} {m:Mode} {sz:Nat} {xs:List (List C)} (hn:h n=some (.row d m sz xs)) {b:Nat} (a:bK b (G.g n).px):b<w.heap.size:=by have hr:=H.row n d m sz xs hn;cases bq:(G.g n).nl with|true=>obtain⟨k,j,c,⟨e,f,_⟩,_⟩:=a;rw[(hr.nl bq).1] at f;simp at f|false=>exact(hr.f6 bq).2.1.lt a
theorem HR.grow (H:HR B E w G h used tk) (d:∀b,b<w.heap.size->w'.heap[b]? =w.heap[b]?) (y:w.heap.size<=w'.heap.size):HR B E w' G h used tk:=by have K:bU w G h (fun n=>used n=true) w' G h:=bU.world (fun b a=>d b (H.jG b a)) _;have k:∀b,fB w b->fB w' b:=fun b a=>a.congr (d b a.lt);refine⟨H.mM,H.lz,fun n cs hn=>?_,fun n s m sz xs hn=>?_,fun n hn hl=>?_,H.inj,fun b a=>IN (H.jG b a) y,H.uD,H.jE,H.live,fun i pc A=>?_,H.Ct,H.xL⟩;obtain⟨z,r,u⟩:=H.box n cs hn;refine⟨z,k _ r,fun j c q=>?_⟩;obtain⟨v,g,f,l⟩:=u j c q;exact⟨v,(kv (d _ r.lt) _).trans g,f,l.d9 K fun m hm=>H.lz n cs c m hn (co q) hm⟩;have hr:=H.row n s m sz xs hn;refine⟨hr.pos,hr.er,hr.nl,fun hl=>?_,fun hl p=>?_,?_,fun p hm=>(hr.nr p hm).congr fun b a=>d b (H.tK hn a)⟩;obtain⟨g,f,l⟩:=hr.f6 hl;exact⟨k _ g,f.congr (fun o=>kv (d _ g.lt) o) (fun b' t o=>kv (d _ (f.lt t)) o),l⟩;obtain⟨D,cur,e,x,C⟩:=hr.room hl p;exact⟨D,cur,e,(d _ (hr.f6 hl).1.lt).trans x,C⟩;have hm:=hr.mode;(cases m with|bh=>exact hm|bi=>exact⟨fun b a=>⟨(hm.1 b a).1,k _ (hm.1 b a).2.1,(hm.1 b a).2.2⟩,hm.2⟩|live=>exact⟨fun b a=>⟨(hm.1 b a).1,k _ (hm.1 b a).2.1,(hm.1 b a).2.2⟩,hm.2⟩);obtain⟨g,f,l⟩:=H.own n hn hl;grind;obtain⟨g,f⟩:=H.xK i pc A;simp_all
theorem Fr.refl (B:Nat) (E:Ex) (a:World) (b:B<=a.heap.size):Fr B E a a:= ⟨rfl,rfl,rfl,b,fun _ _ _=>rfl,fun _ _=>Cz.refl _ _⟩
theorem Fr.grow (F:Fr B E w0 w) (c:∀b,b<w.heap.size->w'.heap[b]? =w.heap[b]?) (d:w.heap.size<=w'.heap.size) (f:w'.os=w.os) (e:w'.tape=w.tape) (g:w'.output=w.output):Fr B E w0 w':= ⟨f.trans F.os,e.trans F.tape,g.trans F.output,zam F.size d,fun b a h=>(c b (IN a F.size)).trans (F.block b a h), fun b a=>(F.mY b a).trans (Cz.of_eq (c b (IN a F.size)))⟩
theorem Fr.one (F:Fr B E w0 w) {b0:Nat} (Br:B<=b0\/E b0) (d:∀b,b<w.heap.size->b≠b0->w'.heap[b]? =w.heap[b]?) (e:w.heap.size<=w'.heap.size) (h:Cz w w' b0) (g:w'.os=w.os) (f:w'.tape=w.tape) (i:w'.output=w.output):Fr B E w0 w':=by refine⟨g.trans F.os,f.trans F.tape,i.trans F.output,zam F.size e,fun b a j=>?_,fun b a=>?_⟩;refine(d b (IN a F.size) ?_).trans (F.block b a j);grind;by_cases c:b=b0;subst c;exact(F.mY b a).trans h;exact(F.mY b a).trans (Cz.of_eq (d b (IN a F.size) c))
def aaX (B:Nat) (E:Ex) (w:World) (G:Gh) (h:Nat->Option aV) (p:PB):aV->Prop
 |.box cs=>p.nl=false/\fB w p.b/\∀(j:Nat) (c:ao),cs[j]? =some c->∃v,w.cell? (ad p.b (p.o+j))=some v/\v.oneCell'=true/\RC w G h c v
 |.row gr m sz xs=>zn B E w G gr m sz xs p
theorem HR.ag3 (H:HR B E w G h used tk) {n:Nat} {blk:aV} {p:PB} (Z:∀b,b<w.heap.size->(p.nl=false->b≠p.b)->w'.heap[b]? =w.heap[b]?) (dn:w.heap.size<=w'.heap.size) (Dn:∀b,b<w.heap.size->fB w b->fB w' b) (hu:∀m,used m=true->used' m=true) (Xs:used' n=true) (vV:p.nl=false->¬G.Im p.b/\(B<=p.b\/E p.b)/\p.b<w'.heap.size) (T:p.nl=false->∀m,m≠n->h m≠none->(G.g m).nl=false->(G.g m).b≠p.b) (WX:p.nl=false->∀m l sz xs,m≠n->h m=some (.row l .live sz xs)->∀b,bK b (G.g m).px->b≠p.b) (zY:∀cs c m,blk=.box cs->c∈cs->c.ref m->used' m=true) (K:∀m cs c v,m≠n->h m=some (.box cs)->c∈cs->RC w G h c v->RC w' ⟨G.Im,aN G.g n p⟩ (aN h n (some blk)) c v) (nh:aaX B E w' ⟨G.Im,aN G.g n p⟩ (aN h n (some blk)) p blk) (Ip:∀l m sz xs,blk=.row l m sz xs->m≠ .bh->∀C J f M N,C≠n->h C=some (.row J f M N)->f≠ .bh->∀b,bK b p.px->¬bK b (G.g C).px) (yr:∀l sz xs,blk=.row l .live sz xs->∀b,bK b p.px->(p.nl=false->b≠p.b)/\∀C,C≠n->h C≠none->(G.g C).nl=false->b≠(G.g C).b) (pA:∀l m sz xs,blk=.row l m sz xs->m≠ .bh->∀(i:Nat) (pc:PC) (b:Nat),tk[i]? =some pc->bB b pc->¬bK b p.px) (vN:p.nl=false->p.b<w.heap.size->∀b,(∃m l x sz xs,m≠n/\h m=some (.row l x sz xs)/\bK b (G.g m).px)->b≠p.b): HR B E w' ⟨G.Im,aN G.g n p⟩ (aN h n (some blk)) used' tk:=by have s:∀m,m≠n->aN h n (some blk) m=h m:=fun m hm=>dP _ _ _ _ hm;have t:∀m,m≠n->aN G.g n p m=G.g m:=fun m hm=>dP _ _ _ _ hm;have W:∀m,m≠n->h m≠none->(G.g m).nl=false->w'.heap[(G.g m).b]? =w.heap[(G.g m).b]? :=fun m hm h0 hl=> Z _ (H.own m h0 hl).2.2 (fun S=>T S m hm h0 hl);refine⟨?_,?_,?_,?_,?_,?_,?_,H.uD,?_,?_,?_,?_,?_⟩;intro m hm;by_cases a:m=n;subst a;exact Xs;rw[s m a] at hm;exact hu m (H.mM m hm);intro m cs c q hm X hr;by_cases a:m=n;subst a;rw[dd] at hm;injection hm with hm;exact zY cs c q hm X hr;rw[s m a] at hm;exact hu q (H.lz m cs c q hm X hr);intro m cs hm;by_cases a:m=n;subst a;rw[dd] at hm;injection hm with hm;subst hm;simp only[dd];exact nh;rw[s m a] at hm;simp only[t m a];obtain⟨A,y,O⟩:=H.box m cs hm;have D:=W m a (by rw[hm];simp) A;refine⟨A,y.congr D,fun j c hj=>?_⟩;obtain⟨v,b1,b2,b3⟩:=O j c hj;exact⟨v,(kv D _).trans b1,b2,K m cs c v a hm (co hj) b3⟩;intro m l x sz xs hm;by_cases a:m=n;subst a;rw[dd] at hm;injection hm with hm;subst hm;simp only[dd];exact nh;rw[s m a] at hm;simp only[t m a];have hr:=H.row m l x sz xs hm;have P:∀b,bK b (G.g m).px->w'.heap[b]? =w.heap[b]? :=fun b d=> Z b (H.tK hm d) (fun S iK=>by by_cases cI:p.b<w.heap.size;exact vN S cI b ⟨m,l,x,sz,xs,a,hm,d⟩ iK;have:=H.tK hm d;omega);refine⟨hr.pos,hr.er,hr.nl,fun hl=>?_,fun hl U=>?_,?_,fun U hm=>(hr.nr U hm).congr P⟩;have D:=W m a (by rw[hm];simp) hl;obtain⟨A,y,O⟩:=hr.f6 hl;exact⟨A.congr D,y.congr (fun o=>kv D o) (fun b' I o=>kv (P b' I) o),O⟩;have D:=W m a (by rw[hm];simp) hl;obtain⟨r2,cur,e,r3,r4⟩:=hr.room hl U;exact⟨r2,cur,e,D.trans r3,r4⟩;have z:=hr.mode;(cases x with|bh=>exact z|bi=>exact⟨fun b d=>⟨(z.1 b d).1,(z.1 b d).2.1.congr (P b d),(z.1 b d).2.2⟩,z.2⟩|live=>exact⟨fun b d=>⟨(z.1 b d).1,(z.1 b d).2.1.congr (P b d),(z.1 b d).2.2⟩,z.2⟩);intro m hm hl;by_cases a:m=n;subst a;simp only[dd] at hl⊢;exact vV hl;rw[s m a] at hm;simp only[t m a] at hl⊢;obtain⟨A,y,O⟩:=H.own m hm hl;exact⟨A,y,IN O dn⟩;intro m f hm r L hl u;by_cases a:m=n;subst a;have k:f≠m:=fun e=>L e.symm;rw[s f k] at r;simp only[dd,t f k] at hl u⊢;exact fun e=>T hl f k r u e.symm;rw[s m a] at hm;by_cases k:f=n;subst k;simp only[dd,t m a] at hl u⊢;exact T u m a hm hl;rw[s f k] at r;simp only[t m a,t f k] at hl u⊢;exact H.inj m f hm r L hl u;exact fun b d=>IN (H.jG b d) dn;intro m f l x sz xs J V M N hm r d I L b F;by_cases a:m=n;subst a;have k:f≠m:=fun e=>L e.symm;rw[s f k] at r;rw[dd] at hm;injection hm with hm;simp only[dd,t f k] at F⊢;exact Ip l x sz xs hm d f J V M N k r I b F;rw[s m a] at hm;by_cases k:f=n;subst k;rw[dd] at r;injection r with r;simp only[dd,t m a] at F⊢;exact fun R=>Ip J V M N r I m l x sz xs a hm d b R F;rw[s f k] at r;simp only[t m a,t f k] at F⊢;exact H.jE m f l x sz xs J V M N hm r d I L b F;intro m l sz xs hm b d f r u;by_cases a:m=n;subst a;rw[dd] at hm;injection hm with hm;simp only[dd] at d;have:=yr l sz xs hm b d;by_cases k:f=m;subst k;simp only[dd] at u⊢;exact this.1 u;rw[s f k] at r;simp only[t f k] at u⊢;exact this.2 f k r u;rw[s m a] at hm;simp only[t m a] at d;by_cases k:f=n;subst k;simp only[dd] at u⊢;exact WX u m l sz xs a hm b d;rw[s f k] at r;simp only[t f k] at u⊢;exact H.live m l sz xs hm b d f r u;intro i pc Q;obtain⟨A,y⟩:=H.xK i pc Q;exact⟨A,fun b d=>⟨(y b d).1,Dn b (H.jG b (y b d).1) (y b d).2.1,(y b d).2.2⟩⟩;exact H.Ct;intro i pc m l x sz xs b Q hm Y d;by_cases a:m=n;subst a;rw[dd] at hm;injection hm with hm;simp only[dd];exact pA l x sz xs hm Y i pc b Q d;rw[s m a] at hm;simp only[t m a];exact H.xL i pc m l x sz xs b Q hm Y d
theorem HR.put (H:HR B E w G h used tk) {n:Nat} {blk:aV} {p:PB} (t:∀b,b<w.heap.size->(p.nl=false->b≠p.b)->w'.heap[b]? =w.heap[b]?) (z:w.heap.size<=w'.heap.size) (M:∀b,b<w.heap.size->fB w b->fB w' b) (L:∀m,used m=true->used' m=true) (C:used' n=true) (J:p.nl=false->¬G.Im p.b/\(B<=p.b\/E p.b)/\p.b<w'.heap.size) (x:p.nl=false->∀m,m≠n->h m≠none->(G.g m).nl=false->(G.g m).b≠p.b) (A:p.nl=false->∀m a sz xs,m≠n->h m=some (.row a .live sz xs)->∀b,bK b (G.g m).px->b≠p.b) (j:∀cs c m,blk=.box cs->c∈cs->c.ref m->used' m=true) (K:bU w G h (fun n=>used n=true) w' ⟨G.Im,aN G.g n p⟩ (aN h n (some blk))) (o:aaX B E w' ⟨G.Im,aN G.g n p⟩ (aN h n (some blk)) p blk) (y:∀a m sz xs,blk=.row a m sz xs->m≠ .bh->∀d r e D F,d≠n->h d=some (.row r e D F)->e≠ .bh->∀b,bK b p.px->¬bK b (G.g d).px) (k:∀a sz xs,blk=.row a .live sz xs->∀b,bK b p.px->(p.nl=false->b≠p.b)/\∀d,d≠n->h d≠none->(G.g d).nl=false->b≠(G.g d).b) (l:∀a m sz xs,blk=.row a m sz xs->m≠ .bh->∀(i:Nat) (pc:PC) (b:Nat),tk[i]? =some pc->bB b pc->¬bK b p.px) (I:p.nl=false->p.b<w.heap.size->∀b,(∃m a f sz xs,m≠n/\h m=some (.row a f sz xs)/\bK b (G.g m).px)->b≠p.b): HR B E w' ⟨G.Im,aN G.g n p⟩ (aN h n (some blk)) used' tk:= H.ag3 t z M L C J x A j (fun m cs c v _ hm u s=>s.d9 K fun q N=>H.lz m cs c q hm u N) o y k l I
theorem HR.del (H:HR B E w G h used tk) (n:Nat):HR B E w G (aN h n none) used tk:=by have d:∀m b,aN h n none m=some b->h m=some b/\m≠n:=fun m b hm=>(by by_cases o:m=n;simp_all [dd];rw[dP _ _ _ _ o] at hm;exact⟨hm,o⟩);have f:∀m,aN h n none m≠none->h m≠none:=fun m hm=>(by by_cases o:m=n;simp_all [dd];rwa[dP _ _ _ _ o] at hm);have K:bU w G h (fun n=>used n=true) w G (aN h n none):= ⟨fun _ h=>h,fun _ _ _=>rfl,fun m _ hm=>⟨f m hm,rfl,rfl,rfl,rfl,rfl⟩,fun m a sz xs _ hm=>⟨⟨a,xs,(d m _ hm).1⟩,fun k j pc x F=>⟨pc,x,rfl,F⟩⟩⟩;refine⟨fun m hm=>H.mM m (f m hm),fun m cs c q hm=>H.lz m cs c q (d m _ hm).1,fun m cs hm=>?_,fun m a g sz xs hm=>H.row m a g sz xs (d m _ hm).1, fun m hm=>H.own m (f m hm),fun m e hm l=>H.inj m e (f m hm) (f e l),H.jG,H.uD,fun m e a g sz xs u J C D hm l=>H.jE m e a g sz xs u J C D (d m _ hm).1 (d e _ l).1, fun m a sz xs hm b t e l=>H.live m a sz xs (d m _ hm).1 b t e (f e l),H.xK,H.Ct,fun i pc m a g sz xs b y hm=>H.xL i pc m a g sz xs b y (d m _ hm).1⟩;obtain⟨A,r,I⟩:=H.box m cs (d m _ hm).1;refine⟨A,r,fun j c p=>?_⟩;obtain⟨v,s,z,L⟩:=I j c p;exact⟨v,s,z,L.d9 K fun q M=>H.lz m cs c q (d m _ hm).1 (co p) M⟩
theorem bU.del (n:Nat) (u:Nat->Prop):bU w G h u w G (aN h n none):=by have e:∀m b,aN h n none m=some b->h m=some b:=fun m b hm=>(by by_cases a:m=n;simp_all [dd];rwa[dP _ _ _ _ a] at hm);refine⟨fun _ h=>h,fun _ _ _=>rfl,fun m _ hm=>?_,fun m d sz xs _ hm=>⟨⟨d,xs,e m _ hm⟩,fun k j pc f c=>⟨pc,f,rfl,c⟩⟩⟩;cases hh:aN h n none m with|none=>simp_all|some b=>simp_all
end
theorem vr {α:Type} {px:List (List α)} {lo len k j:Nat} {c:α} (h:At ((px.drop lo).take len) k j c):At px (lo+k) j c/\k<len:=by obtain⟨e,a,d⟩:=h;rw[List.getElem?_take] at a;split at a;rename_i b;rw[zau] at a;exact⟨⟨e,a,d⟩,b⟩;cases a
section
variable {B N:Nat} {E:Ex} {w0 w w':World} {G G':Gh} {h h':Nat->Option aV} {used used':Nat->Bool} {tk:List PC}
def nC (p:PB) (sz lo len:Nat) (v:Value):PC:=
 match v with
 |.slice a _ cap=>.list sz a cap ((p.px.drop lo).take len)
 |_=>.bool false
theorem Ka {s:Bool} {m:Mode} {sz:Nat} {xs:List (List C)} {p:PB} (hr:zn B E w G s m sz xs p) {lo len:Nat} {v:Value} (t:jD p sz lo len v) (hl:lo+len<=xs.length): (nC p sz lo len v).er=.list sz ((xs.drop lo).take len)/\(nC p sz lo len v).val=v/\Good w (nC p sz lo len v)/\ (∀b,bB b (nC p sz lo len v)->(p.nl=false/\b=p.b)\/bK b p.px):=by have iO:p.px.length=xs.length:=(by rw[hr.er];simp);rcases t with⟨hn,rfl,rfl,rfl⟩|⟨hn,a,rfl,hc,q⟩;have i:=(hr.nl hn).1;refine⟨?_,?_,?_,?_⟩;simp[nC,PC.fk];simp[nC,PC.val];simp only[nC,za4,zaM];exact .nil _ _ _ hr.pos;intro b d;simp only[nC,za4,zaM] at d;rw[bB.oZ] at d;rcases d with⟨d,_⟩|⟨k,j,c,⟨e,n,_⟩,_⟩;exact absurd rfl d;simp at n;have hlen:((p.px.drop lo).take len).length=len:=(by simp;omega);refine⟨?_,?_,?_,?_⟩;simp only[nC,PC.fk];rw[hr.er,zaR,zaS];simp[nC,PC.val];omega;simp only[nC];by_cases i:(p.px.drop lo).take len=[];rw[i];exact .nil _ _ _ hr.pos;have r:0<len:=(by rcases zav len with f|f;subst f;simp at i;exact f);have e:=q (.inl (by omega));subst e;obtain⟨a1,l,a3⟩:=hr.f6 hn;refine .cons sz p.b (p.o+lo*sz) _ _ i (by omega) hr.pos (fun e n=>l.1 e (zao (zap n))) (fun k j c g=>?_) (fun k j c g=>l.2.2 _ _ _ (vr g).1);have:=l.2.1 _ _ _ (vr g).1;rw[Pe] at this;rw[<-this];congr 2;omega;intro b d;simp only[nC] at d;rw[bB.oZ] at d;rcases d with⟨d,o,h⟩|⟨k,j,c,g,d⟩;have r:0<len:=(by rcases zav len with f|f;subst f;simp at d;exact f);have e:=q (.inl (by omega));rw[e] at h;injection h with h;exact .inl ⟨hn,(pn h).1.symm⟩;exact .inr ⟨_,_,_,(vr g).1,d⟩
theorem HR.dX (H:HR B E w G h used tk) {c:ao} {x:C} {v:Value} (hx:dX h c=some x) (f:RC w G h c v):∃pc:PC,pc.er=x/\pc.val=v/\Good w pc:=by cases c with|c y=>simp only[Am.dX] at hx;injection hx with hx;subst hx;obtain⟨pc,s,z,o,_⟩:=f;exact⟨pc,s,z,o⟩|nil sz=>simp only[Am.dX] at hx;split at hx;rename_i p;injection hx with hx;subst hx;have r:v=.slice none 0 0:=f;subst r;exact⟨.list sz none 0 [],by simp[PC.fk],rfl,.nil _ _ _ p⟩;cases hx|sl n sz lo len=>simp only[Am.dX] at hx;split at hx;rename_i b m a xs hn;split at hx;rename_i i;obtain⟨rfl,hl⟩:=i;injection hx with hx;subst hx;have u:jD (G.g n) a lo len v:=f (by rw[hn];simp);obtain⟨t,l,A,_⟩:=Ka (H.row n b m a xs hn) u hl;exact⟨_,t,l,A⟩;cases hx;cases hx|cF n k aZ off sz len=>simp only[Am.dX] at hx;split at hx;rename_i b a xs hn;split at hx;rename_i i;subst i;obtain⟨pc,p1,j,p3⟩:=f b xs hn;have hr:=H.row n b .live a xs hn;have D:(G.g n).nl=false:=(by cases hq:(G.g n).nl with|false=>rfl|true=>obtain⟨e,d,_⟩:=p1;rw[(hr.nl hq).1] at d;simp at d);refine⟨pc,?_,j,(hr.f6 D).2.1.2.2 _ _ _ p1⟩;obtain⟨e,d,q⟩:=p1;rw[hr.er] at hx;simp[d,q] at hx;exact hx;cases hx;cases hx|ptr _ _ _ _=>simp[Am.dX] at hx|ez _ _=>simp[Am.dX] at hx|dE _ _ _ _ _ _=>simp[Am.dX] at hx|fn _ _=>simp[Am.dX] at hx|eE _ _ _ _ _ _=>simp[Am.dX] at hx|cj=>simp[Am.dX] at hx
theorem HR.mb (H:HR B E w G h used tk):∀{cs:List ao} {xs:List C} {vs:List Value},mb h cs=some xs->eN w G h cs vs->
  ∃b:List PC,b.map PC.er=xs/\b.map PC.val=vs/\∀pc∈b,Good w pc
 |[],xs,vs,hx,hc=>by
  simp only[Am.mb] at hx;injection hx with hx;subst hx;have:vs=[]:=AT (by simpa using hc.1);subst this;exact⟨[],rfl,rfl,by simp⟩
 |c::cs,xs,vs,hx,hc=>by
  simp only[Am.mb] at hx;split at hx
  ·rename_i x aM f k;injection hx with hx;subst hx;obtain⟨a,e⟩:=hc;match vs,a with
   |v::vs,a=>
    obtain⟨pc,n,g,p⟩:=H.dX f (e 0 c v rfl rfl).2;obtain⟨b,i,m,r⟩:=H.mb k (cs:=cs) (vs:=vs) ⟨by simpa using a,fun j c u l o=>e (j+1) c u l o⟩;refine⟨pc::b,by simp[n,i],by simp[g,m],fun q d=>?_⟩;cases d with
    |head=>exact p
    |tail _ d=>exact r q d
  ·cases hx
def GO (w:World) (d:Dv) (v:Value):Prop:=
 match d.1 with
 |.one=>∃cK:List PC,cK.map PC.er=d.2/\(∀pc∈cK,Good w pc)/\cK.map PC.val=[v]
 |.agg=>∃cK:List PC,cK.map PC.er=d.2/\(∀pc∈cK,Good w pc)/\v=.agg (cK.map PC.val).toArray
 |.ptr=>∃(cK:List PC) (b o:Nat),cK.map PC.er=d.2/\v=.pointer (some (ad b o))/\b<w.heap.size/\
  ∀j c,cK[j]? =some c->w.cell? (ad b (o+j))=some c.val/\Good w c
def KG (w:World) (ds:List Dv) (vs:List Value):Prop:=
 vs.length=ds.length/\∀(j:Nat) (d:Dv) (v:Value),ds[j]? =some d->vs[j]? =some v->GO w d v
theorem HR.mD (H:HR B E w G h used tk) {x:aw} {d:Dv} {v:Value} (hx:mD h x=some d) (a:RA w G h x v):GO w d v:=by have one:∀c:ao,(Am.dX h c).map (fun x=>((.one,[x]):Dv))=some d->RA w G h (.one c) v->GO w d v:=(by intro c hx a;cases hv:Am.dX h c with|none=>rw[hv] at hx;cases hx|some y=>rw[hv] at hx;simp at hx;subst hx;rcases a with rfl|a;simp[Am.dX] at hv;have q:eN w G h [c] [v]:=a;obtain⟨pc,r,p,s⟩:=H.dX hv (q.2 0 c v rfl rfl).2;exact⟨[pc],by simp[r],by simpa using s,by simp[p]⟩);cases x with|one c=>(cases c with|ptr n k sz off=>simp only[Am.mD] at hx;split at hx;rename_i cs hn;split at hx;rename_i K;obtain⟨rfl,rfl⟩:=K;(cases hv:Am.mb h cs with|none=>rw[hv] at hx;cases hx|some xs=>rw[hv] at hx;simp at hx;subst hx;rcases a with a|a;cases a;have q:eN w G h [.ptr n 0 sz 0] [v]:=a;have M:=(q.2 0 _ v rfl rfl).2 (by rw[hn];simp);obtain⟨mQ,Q⟩:=M;obtain⟨q1,L,T⟩:=H.box n cs hn;have I:∀(cs:List ao) (o:Nat) (xs:List C),(∀(j:Nat) (c:ao),cs[j]? =some c->∃v,w.cell? (ad (G.g n).b (o+j))=some v/\v.oneCell'=true/\RC w G h c v)->Am.mb h cs=some xs-> ∃m:List PC,m.map PC.er=xs/\∀j c,m[j]? =some c->w.cell? (ad (G.g n).b (o+j))=some c.val/\Good w c:=(by intro cs;induction cs with|nil=>intro o xs _ hx;simp only[Am.mb] at hx;injection hx with hx;subst hx;exact⟨[],rfl,by simp⟩|cons c cs R=>intro o xs D hx;simp only[Am.mb] at hx;split at hx;rename_i x V J P;injection hx with hx;subst hx;obtain⟨u,N,_,u2⟩:=D 0 c rfl;obtain⟨pc,r,p,s⟩:=H.dX J u2;obtain⟨m,z,A⟩:=R (o+1) V (fun j c l=>by have:=D (j+1) c l;rwa[show o+(j+1)=o+1+j from by omega] at this) P;refine⟨pc::m,by simp[r,z],fun j c l=>?_⟩;(cases j with|zero=>simp at l;subst l;rw[p];exact⟨N,s⟩|succ j=>have:=A j c (by simpa using l);rwa[show o+1+j=o+(j+1) from by omega] at this);cases hx);obtain⟨m,z,A⟩:=I cs (G.g n).o xs T hv;exact⟨m,(G.g n).b,(G.g n).o,z,by simpa using Q,L.lt,A⟩);cases hx;cases hx|ez xs off=>simp only[Am.mD] at hx;split at hx;rename_i S;subst S;injection hx with hx;subst hx;rcases a with a|a;cases a;have q:eN w G h [.ez xs 0] [v]:=a;obtain⟨b,o,pe,p1,F,U,p4⟩:=(q.2 0 _ v rfl rfl).2;exact⟨pe,b,o,F,by simpa using p1,H.jG b U,fun j c l=>⟨(p4 j c l).1,(p4 j c l).2.1⟩⟩;cases hx|c y=>exact one (.c y) hx a|nil sz=>exact one (.nil sz) hx a|sl n sz lo len=>exact one (.sl n sz lo len) hx a|cF n k t off sz len=>exact one (.cF n k t off sz len) hx a|eE n k t off sz i=>exact one (.eE n k t off sz i) hx a|dE xs off j n sz len=>exact one (.dE xs off j n sz len) hx a|fn f O=>exact one (.fn f O) hx a|cj=>exact one .cj hx a)|agg cs=>simp only[Am.mD] at hx;(cases hv:Am.mb h cs with|none=>rw[hv] at hx;cases hx|some xs=>rw[hv] at hx;simp at hx;subst hx;obtain⟨vs,e,hl⟩:∃vs:List Value,v=.agg vs.toArray/\eN w G h cs vs:=a;obtain⟨m,r,p,s⟩:=H.mb hv hl;exact⟨m,r,s,by rw[e,p]⟩)|cT xs=>simp[Am.mD] at hx
theorem HR.qk (H:HR B E w G h used tk):∀{xs:List aw} {ds:List Dv} {vs:List Value},qk h xs=some ds->vs.length=xs.length->
  (∀(j:Nat) (x:aw) (v:Value),xs[j]? =some x->vs[j]? =some v->RA w G h x v)->KG w ds vs
 |[],ds,vs,hx,hl,hc=>by
  simp only[Am.qk] at hx;injection hx with hx;subst hx;exact⟨by simpa using hl,by simp⟩
 |x::xs,ds,vs,hx,hl,hc=>by
  simp only[Am.qk] at hx;split at hx
  ·rename_i d Bj e g;injection hx with hx;subst hx;match vs,hl with
   |v::vs,hl=>
    have a:=H.mD e (hc 0 x v rfl rfl);obtain⟨f,k⟩:=H.qk g (xs:=xs) (vs:=vs) (by simpa using hl) (fun j x v i l=>hc (j+1) x v i l);refine⟨by simp[f],fun j d v c b=>?_⟩;cases j with
    |zero=>simp at c b;subst c;subst b;exact a
    |succ j=>exact k j d v (by simpa using c) (by simpa using b)
  ·cases hx
theorem bU.z7 (S:Nat->Prop) (u:Nat->Prop):bU w G h u w ⟨fun b=>G.Im b\/S b,G.g⟩ h:= ⟨fun _ h=>.inl h,fun _ _ _=>rfl,fun _ _ h=>⟨h,rfl,rfl,rfl,rfl,rfl⟩,fun n c sz xs _ hn=>⟨⟨c,xs,hn⟩,fun k j pc d a=>⟨pc,d,rfl,a⟩⟩⟩
theorem HR.z7 (H:HR B E w G h used tk) (S:Nat->Prop) (x:∀b,S b->b<w.heap.size) (z:∀b,S b->∀n,h n≠none->(G.g n).nl=false->b≠(G.g n).b) (u:∀b,S b->∀n l sz xs,h n=some (.row l .live sz xs)->¬bK b (G.g n).px) (s:∀b,S b->B<=b\/E b\/E.a b):HR B E w ⟨fun b=>G.Im b\/S b,G.g⟩ h used tk:=by refine⟨H.mM,H.lz,fun n cs hn=>?_,fun n l m sz xs hn=>?_,fun n hn hl=>?_,H.inj,?_,fun b d=>d.elim (H.uD b) (s b),H.jE,H.live,fun i pc f=>?_,H.Ct,H.xL⟩;obtain⟨k,e,p⟩:=H.box n cs hn;refine⟨k,e,fun j c r=>?_⟩;obtain⟨v,t,y,A⟩:=p j c r;exact⟨v,t,y,A.d9 (bU.z7 S (fun n=>used n=true)) fun q C=>H.lz n cs c q hn (co r) C⟩;have hr:=H.row n l m sz xs hn;refine⟨hr.pos,hr.er,hr.nl,hr.f6,hr.room,?_,hr.nr⟩;have hm:=hr.mode;(cases m with|bh=>exact fun b d=>.inl (hm b d)|bi=>exact⟨fun b d=>⟨.inl (hm.1 b d).1,(hm.1 b d).2⟩,hm.2⟩|live=>exact⟨fun b d=>⟨fun f=>f.elim (hm.1 b d).1 (fun o=>u b o n l sz xs hn d),(hm.1 b d).2⟩,hm.2⟩);obtain⟨k,e,p⟩:=H.own n hn hl;exact⟨fun f=>f.elim k (fun o=>z _ o n hn hl rfl),e,p⟩;exact fun b d=>d.elim (H.jG b) (x b);obtain⟨k,e⟩:=H.xK i pc f;exact⟨k,fun b d=>⟨.inl (e b d).1,(e b d).2⟩⟩
theorem HR.Ef {l:List PC} (H:HR B E w G h used (tk++l)):HR B E w G h used tk:=by have e:∀(i:Nat) (pc:PC),tk[i]? =some pc->(tk++l)[i]? =some pc:=fun i pc a=>(by rw[GB (AI.1 a).1];exact a);exact⟨H.mM,H.lz,H.box,H.row,H.own,H.inj,H.jG,H.uD,H.jE,H.live,fun i pc a=>H.xK i pc (e i pc a),fun i j pc c b d k f=>H.Ct i j pc c b d (e i pc k) (e j c f), fun i pc n g m sz xs b a=>H.xL i pc n g m sz xs b (e i pc a)⟩
theorem HR.aaF (H:HR B E w G h used tk) {pc:PC} (y:Sep pc) (z:∀b,bB b pc->G.Im b/\fB w b/\(B<=b\/E b)) (p:∀(i:Nat) (q:PC) (b:Nat),tk[i]? =some q->bB b q->¬bB b pc) (s:∀n f m sz xs b,h n=some (.row f m sz xs)->m≠ .bh->bB b pc->¬bK b (G.g n).px):HR B E w G h used (tk++[pc]):=by have e:∀(i:Nat) (q:PC),(tk++[pc])[i]? =some q->(i<tk.length/\tk[i]? =some q)\/(i=tk.length/\q=pc):=fun i q a=>(by rcases zaX i tk.length with o|x|Ir;rw[GB o] at a;exact .inl ⟨o,a⟩;subst x;simp at a;exact .inr ⟨rfl,a.symm⟩;rw[List.getElem?_eq_none (by simp;omega)] at a;cases a);refine⟨H.mM,H.lz,H.box,H.row,H.own,H.inj,H.jG,H.uD,H.jE,H.live,fun i q a=>?_,fun i j q k b u a r c=>?_,fun i q n f m sz xs b a hn hm c=>?_⟩;rcases e i q a with⟨_,a⟩|⟨_,rfl⟩;exact H.xK i q a;exact⟨y,z⟩;rcases e i q a with⟨_,hi'⟩|⟨ei,v⟩;rcases e j k r with⟨_,l⟩|⟨_,d⟩;exact H.Ct i j q k b u hi' l c;rw[d];exact p i q b hi' c;rcases e j k r with⟨_,l⟩|⟨ej,d⟩;rw[v] at c;exact fun t=>p j k b l t c;omega;rcases e i q a with⟨_,a⟩|⟨_,rfl⟩;exact H.xL i q n f m sz xs b a hn hm c;exact s n f m sz xs b hn hm c
theorem Sep.kC {pc:PC} (d:pc.er.gI=true):Sep pc/\∀b,¬bB b pc:=by cases pc with|int k n=>exact⟨.int k n,fun b c=>by cases c⟩|bool b=>exact⟨.bool b,fun b c=>by cases c⟩|list sz a cap xs=>simp[PC.fk,C.gI] at d
theorem t7.kC {pc:PC} (h:pc.er.gI=true):t7 w pc:=by cases pc with|int k n=>trivial|bool b=>trivial|list sz a cap xs=>rw[PC.fk] at h;cases h
theorem rL {n m:Nat} {b:aV} (hm:aN h n none m=some b):h m=some b/\m≠n:=by by_cases a:m=n;subst a;rw[dd] at hm;cases hm;rw[dP _ _ _ _ a] at hm;exact⟨hm,a⟩
theorem Bh {n m:Nat} (hm:aN h n none m≠none):h m≠none/\m≠n:=by cases hh:aN h n none m with|none=>exact absurd hh hm|some b=>obtain⟨a,b⟩:=rL hh;exact⟨by rw[a];simp,b⟩
def SW (p:PB):Nat->Prop:=fun b=>(p.nl=false/\b=p.b)\/bK b p.px
theorem HR.freeze (H:HR B E w G h used tk) {n:Nat} {i:Bool} {m:Mode} {f:Nat} {xs:List (List C)} (hn:h n=some (.row i m f xs)): HR B E w ⟨fun b=>G.Im b\/SW (G.g n) b,G.g⟩ (aN h n none) used tk:=by have hr:=H.row n i m f xs hn;have j:h n≠none:=(by rw[hn];simp);have o:∀b,bK b (G.g n).px->G.Im b\/m=.live:=fun b a=>(by have hm:=hr.mode;cases m with|bh=>exact .inl (hm b a)|bi=>exact .inl (hm.1 b a).1|live=>exact .inr rfl);refine(H.del n).z7 (SW (G.g n)) (fun b a=>?_) (fun b a q t hl=>?_) (fun b a q l r p t k=>?_) (fun b a=>?_);rcases a with⟨d,rfl⟩|a;exact(H.own n j d).2.2;exact H.tK hn a;obtain⟨c,s⟩:=Bh t;rcases a with⟨d,rfl⟩|a;exact H.inj n q j c (zaC s) d hl;rcases o b a with e|rfl;rintro rfl;exact(H.own q c hl).1 e;exact H.live n i f xs hn b a q c hl;obtain⟨c,s⟩:=rL t;rcases a with⟨d,rfl⟩|a;exact H.live q l r p c _ k n j d rfl;rcases o b a with e|rfl;exact((H.row q l .live r p c).mode.1 b k).1 e;exact H.jE n q i .live f xs l .live r p hn c (by simp) (by simp) (zaC s) b a k;rcases a with⟨d,rfl⟩|a;exact(H.own n j d).2.1.imp id .inl;rcases o b a with e|rfl;exact H.uD b e;exact(hr.mode.1 b a).2.2.imp id .inl
theorem me.sub {px:List (List PC)} (d:me px) (lo len:Nat):me ((px.drop lo).take len):=by refine⟨fun k j c a=>d.1 _ _ _ (vr a).1,fun k j c k' j' c' b a f h g=>d.2 _ _ _ _ _ _ b (vr a).1 (vr f).1 (fun e=>h ?_) g⟩;injection e with e1 e2;rw[show k=k' by omega,e2]
theorem HR.ir {σ σ1:St} (H:HR B E w G σ.h σ.used tk) {c:ao} {x:C} {o:Bool} {v:Value} (hx:σ.ir c=some (x,o,σ1)) (L:RC w G σ.h c v): ∃(Im':Nat->Prop) (pc:PC),pc.er=x/\pc.val=v/\Good w pc/\(∀b,bB b pc->Im' b)/\ HR B E w ⟨Im',G.g⟩ σ1.h σ.used (if o=true then tk++[pc] else tk)/\bU w G σ.h (fun n=>σ.used n=true) w ⟨Im',G.g⟩ σ1.h/\σ1.env=σ.env/\σ1.used=σ.used/\ (∀n b,σ1.h n=some b->σ.h n=some b):=by cases c with|c y=>simp only[St.ir] at hx;injection hx with hx;injection hx with F l;injection l with l vZ;subst F l vZ;obtain⟨pc,T,h2,h3,h4⟩:=L;refine⟨G.Im,pc,T,h2,h3,h4,?_,bU.refl _ _ _ _,rfl,rfl,fun _ _ h=>h⟩;by_cases u:y.gI=true;rw[ai u];obtain⟨s1,N⟩:=Sep.kC (pc:=pc) (by rw[T];exact u);exact H.aaF s1 (fun b d=>absurd d (N b)) (fun _ _ b _ _=>N b) (fun _ _ _ _ _ b _ _ d=>absurd d (N b));rw[aq u];exact H|nil sz=>simp only[St.ir] at hx;split at hx;rename_i fZ;injection hx with hx;injection hx with F l;injection l with l vZ;subst F l vZ;have eH:v=.slice none 0 0:=L;subst eH;have K:∀b,¬bB b (.list sz none 0 []):=fun b d=>(by rw[bB.oZ] at d;rcases d with⟨d,_⟩|⟨k,j,c,⟨e,f,_⟩,_⟩;exact absurd rfl d;simp at f);refine⟨G.Im,.list sz none 0 [],by simp[PC.fk],rfl,.nil _ _ _ fZ,fun b d=>absurd d (K b),?_,bU.refl _ _ _ _,rfl,rfl,fun _ _ h=>h⟩;rw[ai rfl];refine H.aaF (.list _ _ _ _ ?_ ?_ ?_) (fun b d=>absurd d (K b)) (fun _ _ b _ _=>K b) (fun _ _ _ _ _ b _ _ d=>absurd d (K b));rintro k j c ⟨e,f,_⟩;simp at f;rintro b o k j c _ ⟨e,f,_⟩;simp at f;rintro k j c k' j' c' b ⟨e,f,_⟩;simp at f;cases hx|sl n sz lo len=>simp only[St.ir] at hx;split at hx;rename_i I m t xs hn;split at hx;rename_i eo;obtain⟨rfl,rfl,kw⟩:=eo;injection hx with hx;injection hx with F l;injection l with l vZ;subst F l vZ;have hl:0+len<=xs.length:=(by omega);have r:σ.h n≠none:=(by rw[hn];simp);have u:jD (G.g n) t 0 len v:=L r;have hr:=H.row n I m t xs hn;obtain⟨a1,a2,a3,A⟩:=Ka hr u hl;have V:=H.freeze hn;have K1:bU w G σ.h (fun n=>σ.used n=true) w ⟨fun b=>G.Im b\/SW (G.g n) b,G.g⟩ (aN σ.h n none):= bU.trans (fun _ h=>h) (bU.del n (fun n=>σ.used n=true)) (bU.z7 (SW (G.g n)) (fun n=>σ.used n=true));refine⟨_,nC (G.g n) t 0 len v,by simpa using a1,a2,a3,fun b d=>.inr (A b d),?_,K1,rfl,rfl,fun q b M=>(rL M).1⟩;by_cases hm:m≠ .bh;rw[ai (by simpa using hm)];have vV:(∀b,bK b (G.g n).px->fB w b/\(B<=b\/E b))/\me (G.g n).px/\(∀b,bK b (G.g n).px->(G.g n).nl=false->b≠(G.g n).b):=(by have p:=hr.mode;cases m with|bh=>exact absurd rfl hm|bi=>exact⟨fun b d=>(p.1 b d).2,p.2,fun b d hl iK=>(H.own n r hl).1 (iK▸(p.1 b d).1)⟩|live=>exact⟨fun b d=>(p.1 b d).2,p.2,fun b d hl=>H.live n I t xs hn b d n r hl⟩);obtain⟨o1,o2,o3⟩:=vV;refine V.aaF ?_ (fun b d=>⟨.inr (A b d),?_⟩) (fun i q b Z d z=>?_) (fun q O S Q R b M W d D=>?_);rcases u with⟨U,rfl,_,rfl⟩|⟨U,a,rfl,j9,ha⟩;simp only[nC];have hz:(zaD 0 (zaT 0 (G.g n).px))=[]:=(by simp);rw[hz];refine .list _ _ _ _ ?_ ?_ ?_;rintro k j c ⟨e,f,_⟩;simp at f;rintro b o k j c _ ⟨e,f,_⟩;simp at f;rintro k j c k' j' c' b ⟨e,f,_⟩;simp at f;simp only[nC];have X:=o2.sub 0 len;refine .list _ _ _ _ X.1 (fun b o k j c J Y d=>?_) X.2;have cM:=(vr Y).1;have WW:0<len:=(by have:=(vr Y).2;omega);have e:=ha (.inl (by omega));rw[e] at J;injection J with J;exact o3 b ⟨_,_,_,cM,d⟩ U (pn J).1.symm;rcases A b d with⟨s,rfl⟩|z;exact⟨(hr.f6 s).1,(H.own n r s).2.1⟩;exact o1 b z;rcases A b z with⟨s,rfl⟩|D;exact(H.own n r s).1 ((H.xK i q Z).2 _ d).1;exact H.xL i q n I m t xs b Z hn hm d D;obtain⟨P,kx⟩:=rL M;rcases A b d with⟨s,rfl⟩|z;have p:=(H.row q O S Q R P).mode;(cases S with|bh=>exact absurd rfl W|bi=>exact(H.own n r s).1 (p.1 _ D).1|live=>exact H.live q O Q R P _ D n r s rfl);exact H.jE n q I m t xs O S Q R hn P hm W (zaC kx) b z D;rw[aq (by simpa using hm)];exact V;cases hx;cases hx|ptr _ _ _ _=>simp[St.ir] at hx|ez _ _=>simp[St.ir] at hx|dE _ _ _ _ _ _=>simp[St.ir] at hx|cF _ _ _ _ _ _=>simp[St.ir] at hx|fn _ _=>simp[St.ir] at hx|eE _ _ _ _ _ _=>simp[St.ir] at hx|cj=>simp[St.ir] at hx
theorem HR.jm:∀{cs:List ao} {σ σ1:St} {G:Gh} {tk:List PC} {xs:List C} {o:Bool} {vs:List Value},HR B E w G σ.h σ.used tk->σ.jm cs=some (xs,o,σ1)->eN w G σ.h cs vs->
  (∀c∈cs,∀m,c.ref m->σ.used m=true)->
  ∃(Im':Nat->Prop) (f:List PC),f.map PC.er=xs/\f.map PC.val=vs/\(∀pc∈f,Good w pc/\∀b,bB b pc->Im' b)/\
   HR B E w ⟨Im',G.g⟩ σ1.h σ.used (if o=true then tk++f else tk)/\bU w G σ.h (fun n=>σ.used n=true) w ⟨Im',G.g⟩ σ1.h/\σ1.env=σ.env/\σ1.used=σ.used/\
   (∀n b,σ1.h n=some b->σ.h n=some b)
 |[],σ,σ1,G,tk,xs,o,vs,H,hx,hc,hr=>by
  simp only[St.jm] at hx;injection hx with hx;injection hx with s d;injection d with d vZ;subst s d vZ;have:vs=[]:=AT (by simpa using hc.1);subst this;exact⟨G.Im,[],rfl,rfl,by simp,by simpa using H,bU.refl _ _ _ _,rfl,rfl,fun _ _ h=>h⟩
 |c::cs,σ,σ2,G,tk,xs,o,vs,H,hx,hc,hr=>by
  simp only[St.jm] at hx;split at hx
  ·rename_i x P σ1 D;split at hx
   ·rename_i aM K aaW N;injection hx with hx;injection hx with s d;injection d with d vZ;subst s d vZ;obtain⟨a,t⟩:=hc;match vs,a with
    |v::vs,a=>
     obtain⟨J,pc,S,F,V,O,z,y,L,i,Z⟩:=H.ir D (t 0 c v rfl rfl).2;have W:eN w ⟨J,G.g⟩ σ1.h cs vs:=eN.d9 y (fun r l m hm=>hr r (by simp[l]) m hm) ⟨by simpa using a,fun j c u Q U=>t (j+1) c u Q U⟩;rw[<-i] at z;obtain⟨T,f,I,R,X,e,A,M,Y,b8⟩:=HR.jm z N W (fun r l m hm=>by rw[i];exact hr r (by simp[l]) m hm);refine⟨T,pc::f,by simp[S,I],by simp[F,R],fun q p=>?_,?_,bU.trans (fun n hn=>by rw[i];exact hn) y A,M.trans L,Y.trans i,fun n b k=>Z n b (b8 n b k)⟩
     ·cases p with
      |head=>exact⟨V,fun b k=>A.im b (O b k)⟩
      |tail _ p=>exact X q p
     ·rw[i] at e;cases P<;>cases K<;>simp at e⊢
      ·exact e
      ·exact e.Ef
      ·exact e.Ef
      ·exact e
   ·cases hx
  ·cases hx
theorem RA.cells {x:aw} {ag:Bool} {cs:List ao} {v:Value} (hx:x.cells?=some (ag,cs)) (a:RA w G h x v):eN w G h cs v.cells.toList:=by cases x with|one c=>have f:c≠ .cj/\ag=false/\cs=[c]:=(by cases c<;>simp[aw.cells?] at hx<;>(obtain⟨rfl,rfl⟩:=hx;simp));obtain⟨b,rfl,rfl⟩:=f;rcases a with rfl|a;exact absurd rfl b;have d:eN w G h [c] [v]:=a;have b:=(d.2 0 c v rfl rfl).1;(cases v<;>first|exact d|(simp[Value.oneCell'] at b))|agg cs'=>simp[aw.cells?] at hx;obtain⟨rfl,rfl⟩:=hx;obtain⟨vs,e,hl⟩:∃vs:List Value,v=.agg vs.toArray/\eN w G h cs' vs:=a;subst e;exact hl|cT xs=>simp[aw.cells?] at hx
theorem aw.CY {x:aw} {ag:Bool} {cs:List ao} (hx:x.cells?=some (ag,cs)) {c:ao} (a:c∈cs) {m:Nat} (hm:c.ref m):x.ref m:=by cases x with|one b=>have d:cs=[b]:=(by cases b<;>simp[aw.cells?] at hx<;>exact hx.2.symm);subst d;simp at a;subst a;exact hm|agg cs'=>simp[aw.cells?] at hx;obtain⟨_,rfl⟩:=hx;exact⟨c,a,hm⟩|cT xs=>simp[aw.cells?] at hx
theorem HR.nE {sz:Nat}:∀{xs:List aw} {σ σ1:St} {G:Gh} {tk:List PC} {i:List (List C)} {o:Bool} {vs:List Value},HR B E w G σ.h σ.used tk->σ.nE sz xs=some (i,o,σ1)->
  vs.length=xs.length->(∀(j:Nat) (x:aw) (v:Value),xs[j]? =some x->vs[j]? =some v->RA w G σ.h x v)->(∀x∈xs,∀m,x.ref m->σ.used m=true)->
  ∃(Im':Nat->Prop) (pes:List (List PC)),pes.map (fun e=>e.map PC.er)=i/\pes.map (fun e=>e.map PC.val)=vs.map (fun v=>v.cells.toList)/\(∀e∈pes,e.length=sz)/\
   (∀e∈pes,∀pc∈e,Good w pc/\∀b,bB b pc->Im' b)/\
   HR B E w ⟨Im',G.g⟩ σ1.h σ.used (if o=true then tk++pes.flatten else tk)/\bU w G σ.h (fun n=>σ.used n=true) w ⟨Im',G.g⟩ σ1.h/\σ1.env=σ.env/\σ1.used=σ.used/\
   (∀n b,σ1.h n=some b->σ.h n=some b)
 |[],σ,σ1,G,tk,i,o,vs,H,hx,hl,hc,hr=>by
  simp only[St.nE] at hx;injection hx with hx;injection hx with r a;injection a with a vZ;subst r a vZ;have:vs=[]:=AT (by simpa using hl);subst this;exact⟨G.Im,[],rfl,rfl,by simp,by simp,by simpa using H,bU.refl _ _ _ _,rfl,rfl,fun _ _ h=>h⟩
 |x::xs,σ,σ2,G,tk,i,o,vs,H,hx,hl,hc,hr=>by
  simp only[St.nE] at hx;split at hx
  ·rename_i ag cs y;split at hx
   ·rename_i dn;split at hx
    ·rename_i e S σ1 K;split at hx
     ·rename_i es' M aaW P;injection hx with hx;injection hx with r a;injection a with a vZ;subst r a vZ;match vs,hl with
      |v::vs,hl=>
       have D:=(hc 0 x v rfl rfl).cells y;obtain⟨K5,A,U,t,I,F,u,N,f,Y⟩:=H.jm K D (fun c' Q m hm=>hr x (by simp) m (aw.CY y Q hm));rw[<-f] at F;obtain⟨V,pes,L,T,W,p,d,J,O,X,b8⟩:=HR.nE (xs:=xs) (vs:=vs) F P (by simpa using hl)
        (fun j x v z s=>(hc (j+1) x v z s).d9 u (fun m hm=>hr x (by simp[co z]) m hm)) (fun x' R m hm=>by rw[f];exact hr x' (by simp[R]) m hm)
       refine⟨V,A::pes,by simp[U,L],by simp[t,T],fun q c=>?_,fun q c pc l=>?_,?_,bU.trans (fun n hn=>by rw[f];exact hn) u J,O.trans N,X.trans f,fun n b k=>Y n b (b8 n b k)⟩
       ·cases c with
        |head=>
         have:(A.map PC.er).length=(v.cells.toList).length:=by rw[<-t];simp
         have s:=D.1;simp at this;simp at s;omega
        |tail _ c=>exact W q c
       ·cases c with
        |head=>exact⟨(I pc l).1,fun b k=>J.im b ((I pc l).2 b k)⟩
        |tail _ c=>exact p q c pc l
       ·rw[f] at d;cases S<;>cases M<;>simp at d⊢
        ·exact d
        ·exact d.Ef
        ·exact d.Ef
        ·exact d
     ·cases hx
    ·cases hx
   ·cases hx
  ·cases hx
def m8 (b:Nat) (pc:PC):Prop:=bB b pc\/∃sz o cap xs,pc=.list sz (some (ad b o)) cap xs/\cap≠0
def Hi (w:World):PC->Prop
 |.list sz a cap xs=>0<sz/\xs.length<=cap/\(cap=0\/∃b o cur e,a=some (ad b o)/\w.heap[b]? =some (.cells cur e (0,0))/\cur.size=o+cap*sz/\cap<=maxLen/\∀k j c,At xs k j c->¬bB b c)
 |_=>True
structure xW (w:World) (B':Nat) (ps:List PC):Prop where
 fm:∀pc∈ps,Good w pc/\Sep pc/\Hi w pc
 new:∀pc∈ps,∀b,m8 b pc->B'<=b/\fB w b
 qX:∀(i j:Nat) (pc fP:PC) (b:Nat),i≠j->ps[i]? =some pc->ps[j]? =some fP->m8 b pc->¬m8 b fP
def uZ:K×List PC->Value
 |(.one,[pc])=>pc.val
 |(_,cK)=>.agg (cK.map PC.val).toArray
def yW:List (K×List PC)->Value
 |[p]=>uZ p
 |l=>.tuple (l.map uZ).toArray
def eI (P:Program) (f:FuncId) (M:List Dv->Option (List Dv)):Prop:=
 ∀ds rs,M ds=some rs->∀(w:World) (vals:List Value),KG w ds vals->Calls P f vals.toArray w fun e w'=>
  ∃bJ:List (K×List PC),bJ.map (fun p=>(p.1,p.2.map PC.er))=rs/\e=.returned (yW bJ)/\(∀p∈bJ,p.1≠ .ptr/\(p.1=.one->p.2.length=1))/\
   xW w' w.heap.size (bJ.flatMap (·.2))/\Fr w.heap.size Ex.no w w'
def sG (G:Gh) (h:Nat->Option aV) (b:Nat):Prop:=
 ¬G.Im b/\(∀n,h n≠none->(G.g n).nl=false->(G.g n).b≠b)/\∀n gr m sz xs,h n=some (.row gr m sz xs)->¬bK b (G.g n).px
theorem HR.QR (H:HR B E w G h used tk):sG G h w.heap.size:= ⟨fun b=>za6 _ (H.jG _ b),fun n hn hl he=>by have:=(H.own n hn hl).2.2;omega,fun n gr m sz xs hn a=>za6 _ (H.tK hn a)⟩
def ajS (B:Nat) (E:Ex) (w w':World) (G:Gh) (h:Nat->Option aV) (p:PB):aV->Prop
 |.box cs=>p.nl=false/\fB w' p.b/\∀(j:Nat) (c:ao),cs[j]? =some c->∃v,w'.cell? (ad p.b (p.o+j))=some v/\v.oneCell'=true/\RC w G h c v
 |.row gr m sz xs=>zn B E w' G gr m sz xs p
theorem bU.insert (H:HR B E w G h used tk) {n:Nat} {blk:aV} {p:PB} (hn:used n=false) (f:∀b,b<w.heap.size->w'.heap[b]? =w.heap[b]?): bU w G h (fun n=>used n=true) w' ⟨G.Im,aN G.g n p⟩ (aN h n (some blk)):=by have ne:∀m,used m=true->m≠n:=fun m hm e=>(by subst e;rw[hn] at hm;cases hm);refine⟨fun _ h=>h,fun b d o=>kv (f b (H.jG b d)) o,fun m hm a=>?_,fun m c sz xs hm a=>?_⟩;rw[dP _ _ _ _ (ne m hm)] at a;simp only[dP _ _ _ _ (ne m hm)];exact⟨a,trivial,trivial,trivial,trivial,trivial⟩;rw[dP _ _ _ _ (ne m hm)] at a;simp only[dP _ _ _ _ (ne m hm)];exact⟨⟨c,xs,a⟩,fun k j pc i l=>⟨pc,i,rfl,l⟩⟩
theorem HR.insert (H:HR B E w G h used tk) {n:Nat} {blk:aV} {p:PB} (hn:used n=false) (t:∀b,b<w.heap.size->w'.heap[b]? =w.heap[b]?) (P:w.heap.size<=w'.heap.size) (hl:p.nl=false->sG G h p.b/\(B<=p.b\/E p.b)/\p.b<w'.heap.size) (y:∀cs c m,blk=.box cs->c∈cs->c.ref m->used m=true) (A:ajS B E w w' G h p blk) (O:∀a m sz xs,blk=.row a m sz xs->m≠ .bh->∀f s q u x,h f=some (.row s q u x)->q≠ .bh->∀b,bK b p.px->¬bK b (G.g f).px) (z:∀a sz xs,blk=.row a .live sz xs->∀b,bK b p.px->(p.nl=false->b≠p.b)/\∀f,h f≠none->(G.g f).nl=false->b≠(G.g f).b) (L:∀a m sz xs,blk=.row a m sz xs->m≠ .bh->∀(i:Nat) (pc:PC) (b:Nat),tk[i]? =some pc->bB b pc->¬bK b p.px): HR B E w' ⟨G.Im,aN G.g n p⟩ (aN h n (some blk)) (aN used n true) tk:=by have K:=bU.insert H (blk:=blk) (p:=p) hn t;have S:h n=none:=(by cases hh:h n with|none=>rfl|some b=>have:=H.mM n (by rw[hh];simp);rw[hn] at this;cases this);have bm:∀m,h m≠none->m≠n:=fun m hm e=>(by subst e;exact hm S);have D:∀m,used m=true->aN used n true m=true:=fun m hm=>(by simp only[mZ];split;rfl;exact hm);refine H.put (fun b d _=>t b d) P (fun b d I=>I.congr (t b d)) D (dd _ _ _) (fun k=>⟨(hl k).1.1,(hl k).2⟩) (fun k m hm l T=>(hl k).1.2.1 m l T) (fun k m a sz xs hm l b d r=>(hl k).1.2.2 m a _ sz xs l (r▸d)) (fun cs c m d N hr=>D m (y cs c m d N hr)) K ?_ (fun a m sz xs d hm f s q u x _ l=>O a m sz xs d hm f s q u x l) (fun a sz xs d b o=>⟨(z a sz xs d b o).1,fun f _=>(z a sz xs d b o).2 f⟩) L (fun k _ b d r=>by obtain⟨m,a,F,sz,xs,_,l,o⟩:=d;exact(hl k).1.2.2 m a F sz xs l (r▸o));cases blk with|box cs=>obtain⟨R,J,U⟩:=A;refine⟨R,J,fun j c C=>?_⟩;obtain⟨v,M,Q,V⟩:=U j c C;exact⟨v,M,Q,V.d9 K fun m hm=>y cs c m rfl (co C) hm⟩|row a m sz xs=>have hr:zn B E w' G a m sz xs p:=A;exact⟨hr.pos,hr.er,hr.nl,hr.f6,hr.room,by have:=hr.mode;cases m<;>exact this,hr.nr⟩
theorem R.put {σ:St} {a:Act} (r:R B E w0 N σ a w G) {x:aw} {v:Value} (c:RA w G σ.h x v) (hr:∀m,x.ref m->σ.used m=true) {d:Option Nat} (hd:∀n,d=some n->n<N): R B E w0 N (σ.put d x) (a.put d v) w G:=by cases d with|none=>exact r|some n=>have hn:=hd n rfl;refine⟨r.defers,by simp[Act.put,r.size],fun s=>?_,fun s m hm=>?_,r.hr,r.fr,r.qg,r.Aw⟩;simp only[St.put,Act.put];by_cases b:s=n;subst b;rw[dd];have:(a.tmps.setIfInBounds s v).getD s undef=v:=(by simp[zaq,r.size,hn]);rw[this];exact c;rw[dP _ _ _ _ b];have:(a.tmps.setIfInBounds n v).getD s undef=a.tmps.getD s undef:=(by simp[zaq,Array.getElem?_setIfInBounds_ne (zaC b)]);rw[this];exact r.env s;simp only[St.put] at hm⊢;by_cases b:s=n;subst b;rw[dd] at hm;exact hr m hm;rw[dP _ _ _ _ b] at hm;exact r.tP s m hm
theorem R.step {σ:St} {a:Act} (r:R B E w0 N σ a w G) {σ':St} (i:σ'.env=σ.env) (l:∀m,σ.used m=true->σ'.used m=true) (K:bU w G σ.h (fun n=>σ.used n=true) w' G' σ'.h) (H:HR B E w' G' σ'.h σ'.used []) (F:Fr B E w0 w'):R B E w0 N σ' a w' G':= ⟨r.defers,r.size,fun s=>by rw[i];exact(r.env s).d9 K (fun m hm=>r.tP s m hm),fun s m hm=>by rw[i] at hm;exact l m (r.tP s m hm),H,F, fun n p b f g=>by have o:=r.Aw n (E.lt n p f);obtain⟨P,x,I,M,C,u⟩:=K.name n o (by rw[g];simp);cases h0:σ.h n with|none=>exact absurd h0 P|some b0=>obtain⟨p1,t,O,p4,T,U⟩:=r.qg n p b0 f h0;refine⟨x.trans p1,I.trans t,M.trans O,C.trans p4,u.trans T,fun y sz xs V k j pc J hL=>?_⟩;subst V;obtain⟨⟨Q,z,c⟩,hl⟩:=K.live n y sz xs o g;rw[h0] at c;injection c with c;obtain⟨e,v,A,L⟩:=U Q sz z c k j pc J hL;obtain⟨d,q,S,D⟩:=hl k j e v L;exact⟨d,q,S.trans A,D⟩, fun n hn=>l n (r.Aw n hn)⟩
end
def O5:Value->ao->Bool
 |.int k n,.c (.int k' n')=>decide (k=k')&&decide (n=n')
 |.bool b,.c (.bool b')=>decide (b=b')
 |.slice none 0 0,.nil sz=>true
 |.pointer none,.cj=>true
 |_,_=>false
def zv:List Value->List ao->Bool
 |[],[]=>true
 |v::vs,c::cs=>O5 v c&&zv vs cs
 |_,_=>false
def cX:Operand->MO->Bool
 |.tmp n,.t m=>n==m
 |.const (.agg vs),.k (.agg cs)=>zv vs.toList cs
 |.const v,.k (.one c)=>O5 v c
 |_,_=>false
section
variable {B N:Nat} {E:Ex} {w0 w w':World} {G G':Gh} {h h':Nat->Option aV} {used used':Nat->Bool} {tk:List PC} {P:Program} {o:Oper} {a:Act} {σ σ':St} {Q:Exit->Act->World->Prop}
theorem abW {v:Value} {c:ao} (a:O5 v c=true):RC w G h c v/\v.oneCell'=true/\∀m,¬c.ref m:=by unfold O5 at a;split at a;simp at a;obtain⟨rfl,rfl⟩:=a;exact⟨⟨.int _ _,rfl,rfl,.int _ _,fun b d=>by cases d⟩,rfl,fun m hm=>hm⟩;simp at a;subst a;exact⟨⟨.bool _,rfl,rfl,.bool _,fun b d=>by cases d⟩,rfl,fun m hm=>hm⟩;exact⟨rfl,rfl,fun m hm=>hm⟩;exact⟨trivial,rfl,fun m hm=>hm⟩;cases a
theorem O7:∀{vs:List Value} {cs:List ao},zv vs cs=true->eN w G h cs vs/\∀c∈cs,∀m,¬c.ref m
 |[],[],_=>⟨⟨rfl,by simp⟩,by simp⟩
 |v::vs,c::cs,hc=>by simp only[zv,zab] at hc;obtain⟨l,g,f⟩:=abW (w:=w) (G:=G) (h:=h) hc.1;obtain⟨⟨n,k⟩,i⟩:=O7 hc.2;refine⟨⟨by simp[n],fun j a u b e=>?_⟩,fun a d=>?_⟩;(cases j with|zero=>simp at b e;subst b;subst e;exact⟨g,l⟩|succ j=>exact k j a u (by simpa using b) (by simpa using e));cases d with|head=>exact f|tail _ d=>exact i a d
 |[],_::_,hc=>by simp[zv] at hc
 |_::_,[],hc=>by simp[zv] at hc
theorem RV.iB {c:ao} {v:Value} (e:v.oneCell'=true) (d:RC w G h c v):RV w G h false [c] v:=by show eN w G h [c] [v];exact⟨rfl,fun j c' u a b=>by cases j with|zero=>simp at a b;subst a;subst b;exact⟨e,d⟩|succ j=>simp at a⟩
theorem RA.iB {c:ao} {v:Value} (b:v.oneCell'=true) (a:RC w G h c v):RA w G h (.one c) v:=.inr (RV.iB b a)
theorem R.ev {σ:St} {a:Act} (r:R B E w0 N σ a w G) {x:Operand} {m:MO} (b:cX x m=true):RA w G σ.h (σ.ev m) (a.eval x)/\∀n,(σ.ev m).ref n->σ.used n=true:=by unfold cX at b;split at b;simp at b;subst b;exact⟨r.env _,fun n hn=>r.tP _ n hn⟩;rename_i vs cs;obtain⟨i,f⟩:=O7 (w:=w) (G:=G) (h:=σ.h) b;exact⟨⟨vs.toList,by simp[Act.eval],i⟩,fun n hn=>by obtain⟨c,b,hm⟩:=hn;exact absurd hm (f c b n)⟩;obtain⟨g,e,d⟩:=abW (w:=w) (G:=G) (h:=σ.h) b;exact⟨RA.iB e g,fun n hn=>absurd hn (d n)⟩;cases b
theorem sE {P:Program} {o:Oper} {a:Act} {v:Value} {K:Act->World->Prop} {Q:Exit->Act->World->Prop} (hr:(execOp a.eval o).run P w=.ok (.value v) w') (b:K (a.put o.dst v) w'):o.wp P a w K Q:=by unfold Oper.wp;rw[hr];exact b
theorem S5 {P:Program} {o:Oper} {a:Act} {K:Act->World->Prop} {Q:Exit->Act->World->Prop} (hr:(execOp a.eval o).run P w=.ok .skip w') (b:K (a.put o.dst undef) w'):o.wp P a w K Q:=by unfold Oper.wp;rw[hr];exact b
def Nx (B:Nat) (E:Ex) (w0:World) (N:Nat) (σ:St):Act->World->Prop:=fun a w=>∃G,R B E w0 N σ a w G
theorem UE (w:World) (a:Obj) (b:Nat) (c:b<w.heap.size):(w.alloc a).heap[b]? =w.heap[b]? :=heap_alloc_old w a b c
theorem fB.alloc (w:World) (arr:Array Value) (e:TypeId):fB (w.alloc (.cells arr e)) w.heap.size:=⟨arr,e,heap_alloc_new w _⟩
theorem oR {σ1:St} {n:Nat} {b:aV} (hx:σ.ins n b=some σ1):σ.used n=false/\σ1={σ with h:=aN σ.h n (some b),used:=aN σ.used n true}:=by unfold St.ins at hx;split at hx;cases hx;rename_i a;injection hx with hx;exact⟨by simpa using a,hx.symm⟩
theorem sD (n m:Nat) (hm:used m=true):aN used n true m=true:=by simp only[mZ];split;rfl;exact hm
theorem R.agf (r:R B E w0 N σ a w G) {n:Nat} {cs:List ao} {vs:List Value} {e:TypeId} (hn:σ.used n=false) (k:eN w G σ.h cs vs) (q:∀c∈cs,∀m,c.ref m->σ.used m=true): ∃G',R B E w0 N {σ with h:=aN σ.h n (some (.box cs)),used:=aN σ.used n true} a (w.alloc (.cells vs.toArray e)) G'/\ RA (w.alloc (.cells vs.toArray e)) G' (aN σ.h n (some (.box cs))) (.one (.ptr n 0 0 0)) (.pointer (some (ad w.heap.size 0))):=by have H:=r.hr;have s:=r.fr.size;have d:=UE w (.cells vs.toArray e);refine⟨⟨G.Im,aN G.g n ⟨false,w.heap.size,0,0,[],none⟩⟩,r.step rfl (fun m hm=>sD n m hm) (bU.insert H hn d) ?_ (r.fr.grow d (by simp) rfl rfl rfl),?_⟩;refine H.insert hn d (by simp) (fun _=>⟨H.QR,.inl s,by simp⟩) (fun cs' c m b t hm=>?_) ⟨rfl,fB.alloc _ _ _,fun j c l=>?_⟩ (fun f m sz xs b=>by cases b) (fun f sz xs b=>by cases b) (fun f m sz xs b=>by cases b);injection b with b;subst b;exact q c t m hm;have u:j<vs.length:=(by rw[k.1];exact(AI.1 l).1);have i:vs[j]? =some vs[j]:=AN u;obtain⟨o,p⟩:=k.2 j c _ l i;refine⟨vs[j],?_,o,p⟩;simp only[zac];unfold ad;rw[World.cell?_alloc_new];simp only[zaf];exact i;exact RA.iB rfl fun _=>by simp[dd]
theorem alP (r:R B E w0 N σ a w G) {n:Nat} {e:TypeId} {i:TypeInfo} {z:Value} {d:List ao} {σ1:St} (g:o.op=.alloc e) (hd:o.dst=some n) (hN:n<N) (p:P.info? e=some i) (j:i.zero=some z) (b:zv z.cells.toList d=true) (hx:σ.ins n (.box d)=some σ1): o.wp P a w (Nx B E w0 N (σ1.put o.dst (.one (.ptr n 0 0 0)))) Q:=by obtain⟨hn,rfl⟩:=oR hx;obtain⟨s,k⟩:=O7 (w:=w) (G:=G) (h:=σ.h) b;obtain⟨G',f,l⟩:=r.agf (e:=e) hn s (fun c b m hm=>absurd hm (k c b m));have t:(execOp a.eval o).run P w=.ok (.value (.pointer (some (ad w.heap.size 0)))) (w.alloc (.cells z.cells.toList.toArray e)):=(by simp[execOp,g,Instr.alloc,zeroValue,typeInfo,p,j,newVar,newRow,ad]);exact sE t ⟨G',f.put l (fun m hm=>by have q:m=n:=hm;subst q;exact dd _ _ _) (fun m hm=>by rw[hd] at hm;injection hm with hm;omega)⟩
theorem alU (r:R B E w0 N σ a w G) {n:Nat} {e:TypeId} {x:Operand} {m:MO} {ag:Bool} {cs:List ao} {σ1:St} (h:o.op=.box e x) (hd:o.dst=some n) (hN:n<N) (hm:cX x m=true) (d:(σ.ev m).cells?=some (ag,cs)) (hx:σ.ins n (.box cs)=some σ1): o.wp P a w (Nx B E w0 N (σ1.put o.dst (.one (.ptr n 0 0 0)))) Q:=by obtain⟨hn,rfl⟩:=oR hx;obtain⟨j,i⟩:=r.ev hm;obtain⟨G',g,f⟩:=r.agf (e:=e) hn (j.cells d) (fun c k q b=>i q (aw.CY d k b));have p:(execOp a.eval o).run P w=.ok (.value (.pointer (some (ad w.heap.size 0)))) (w.alloc (.cells (a.eval x).cells.toList.toArray e)):=(by simp[execOp,h,Instr.box,newVar,newRow,ad]);exact sE p ⟨G',g.put f (fun q b=>by have l:q=n:=b;subst l;exact dd _ _ _) (fun q b=>by rw[hd] at b;injection b with b;omega)⟩
theorem xY {α:Type} {sz:Nat}:∀{px:List (List α)} (_:∀e∈px,e.length=sz) {k j:Nat} {c:α},At px k j c->px.flatten[k*sz+j]? =some c
 |[],_,k,j,c,hk=>by obtain⟨e,a,_⟩:=hk;simp at a
 |e::px,hl,k,j,c,hk=>by obtain⟨h,a,b⟩:=hk;have d:=hl e (by simp);cases k with|zero=>simp at a;subst a;have f:=(AI.1 b).1;simp only[zal,zaE,zac];rw[GB f];exact b|succ k=>have g:=xY (px:=px) (fun e a=>hl e (by simp[a])) (k:=k) (j:=j) (c:=c) ⟨h,by simpa using a,b⟩;simp only[zal];rw[BY (by rw[d,Pe];omega)];rw[show(k+1)*sz+j - e.length=k*sz+j by rw[d,Pe];omega];exact g
structure K9 (B:Nat) (E:Ex) (w:World) (G:Gh) (h:Nat->Option aV) (m:Mode) (pes:List (List PC)):Prop where
 ra:∀b,bK b pes->G.Im b/\fB w b/\(B<=b\/E b)
 sep:me pes
 jE:∀n gr m sz xs,h n=some (.row gr m sz xs)->m≠ .bh->∀b,bK b pes->¬bK b (G.g n).px
 kind:m=.bi\/∀b,¬bK b pes
theorem abB {α:Type} {sz:Nat} (g:0<sz) {pes:List (List α)} (hl:∀e∈pes,e.length=sz) {k j k' a:Nat} {c p:α} (n:At pes k j c) (o:At pes k' a p) (m:(k,j)≠(k',a)):k*sz+j≠k'*sz+a:=by
 intro i;have b:j<sz:=by obtain⟨d,f,b⟩:=n;rw[<-hl d (co f)];exact(AI.1 b).1
 have q:a<sz:=by obtain⟨d,f,b⟩:=o;rw[<-hl d (co f)];exact(AI.1 b).1
 have l:k=k':=by
  have h:(k*sz+j)/sz=k:=by rw[zaF,za2 g,zaZ b];omega
  have h4:(k'*sz+a)/sz=k':=by rw[zaF,za2 g,zaZ q];omega
  rw[i] at h;omega
 subst l;exact m (by rw[show j=a by omega])
theorem HR.agu {pes:List (List PC)} {sz:Nat} (l:0<sz) (hl:∀e∈pes,e.length=sz) (H:HR B E w G h used pes.flatten):K9 B E w G h .bi pes:=by refine⟨?_,⟨fun k j c a=>(H.xK _ c (xY hl a)).1,fun k j c k' j' o b a f i d=>H.Ct _ _ c o b (abB l hl a f i) (xY hl a) (xY hl f) d⟩,?_,.inl rfl⟩;rintro b ⟨k,j,c,a,d⟩;exact(H.xK _ c (xY hl a)).2 b d;rintro n g m sz xs hn hm b ⟨k,j,c,a,d⟩;exact H.xL _ c n g m sz xs b (xY hl a) hn hm d
theorem Sep.Ca {w:World} {q:PC} (i:∀b,¬bB b q) (g:Good w q):Sep q:=by induction g with|int k n=>exact .int k n|bool b=>exact .bool b|nil sz a cap h=>exact .list _ _ _ _ (by rintro k j c ⟨e,d,_⟩;simp at d) (by rintro b o k j c _ ⟨e,d,_⟩;simp at d) (by rintro k j c k' j' c' b ⟨e,d,_⟩;simp at d)|cons sz b o cap xs f h2 h3 h4 h5 h6 ih=>exact absurd (.here _ _ _ _ f) (i b)
theorem K9.Ca {m:Mode} {pes:List (List PC)} (d:∀b,¬bK b pes) (f:∀k j c,At pes k j c->Good w c):K9 B E w G h m pes:= ⟨fun b a=>absurd a (d b),⟨fun k j c e=>Sep.Ca (fun b a=>d b ⟨k,j,c,e,a⟩) (f k j c e),fun k j c k' j' c' b e _ _ a=>absurd ⟨k,j,c,e,a⟩ (d b)⟩,fun n gr m sz xs _ _ b a=>absurd a (d b),.inr d⟩
theorem R.newRow (r:R B E w0 N σ a w G) {Im':Nat->Prop} {σ1:St} (H:HR B E w ⟨Im',G.g⟩ σ1.h σ.used []) (K:bU w G σ.h (fun n=>σ.used n=true) w ⟨Im',G.g⟩ σ1.h) (A:σ1.env=σ.env) (z:σ1.used=σ.used) {n:Nat} {m:Mode} {sz cap:Nat} {pes:List (List PC)} {arr:Array Value} {e:TypeId} (hn:σ.used n=false) (O:0<sz) (hl:∀e∈pes,e.length=sz) (u:∀k j c,At pes k j c->Good w c/\∀b,bB b c->Im' b) (Q:∀k j c,At pes k j c->arr[k*sz+j]? =some c.val) (j9:pes.length<=cap) (Z:cap<=maxLen) (U:arr.size=cap*sz) (hm:m=.bh\/K9 B E w ⟨Im',G.g⟩ σ1.h m pes) (sV:m=.live->∀w',t8 w' sz pes): ∃G',R B E w0 N {σ1 with h:=aN σ1.h n (some (.row true m sz (pes.map fun e=>e.map PC.er))),used:=aN σ1.used n true} a (w.alloc (.cells arr e)) G'/\ RA (w.alloc (.cells arr e)) G' (aN σ1.h n (some (.row true m sz (pes.map fun e=>e.map PC.er)))) (.one (.sl n sz 0 pes.length)) (.slice (some (ad w.heap.size 0)) pes.length cap)/\ bU w ⟨Im',G.g⟩ σ1.h (fun n=>σ.used n=true) (w.alloc (.cells arr e)) G' (aN σ1.h n (some (.row true m sz (pes.map fun e=>e.map PC.er)))):=by have F:=r.fr.size;have f:=UE w (.cells arr e);have v:HR B E (w.alloc (.cells arr e)) ⟨Im',aN G.g n ⟨false,w.heap.size,0,cap,pes,none⟩⟩ (aN σ1.h n (some (.row true m sz (pes.map fun e=>e.map PC.er)))) (aN σ.used n true) []:=(by refine H.insert (p:=⟨false,w.heap.size,0,cap,pes,none⟩) hn f (by simp) (fun _=>⟨H.QR,.inl F,by simp⟩) (fun cs c m d=>by cases d) ?_ ?_ ?_ (fun y m sz xs _ _ i pc b S=>by simp at S);refine⟨O,rfl,(fun hl=>by cases hl),fun _=>⟨fB.alloc _ _ _,⟨hl,fun k j c l=>?_,fun k j c l=>?_⟩,j9⟩,fun _ _=>⟨Z,arr,e,heap_alloc_new w _,(zac _).symm▸U⟩,?_,fun _ hl=>sV hl _⟩;simp only[zac];unfold ad;rw[World.cell?_alloc_new];exact Q k j c l;exact(u k j c l).1.congr fun b d o=>kv (f b (H.jG b ((u k j c l).2 b d))) o;have V:m≠ .bh->(∀b,bK b pes->Im' b/\fB (w.alloc (.cells arr e)) b/\(B<=b\/E b))/\me pes:=fun s=> ⟨fun b d=>by have q:=hm.resolve_left s;obtain⟨x,D,T⟩:=q.ra b d;exact⟨x,D.congr (f b (H.jG b x)),T⟩,(hm.resolve_left s).sep⟩;(cases m with|bh=>rintro b ⟨k,j,c,l,d⟩;exact(u k j c l).2 b d|bi=>exact V (by simp)|live=>have q:=hm.resolve_left (by simp);have dD:=q.kind.resolve_left (by simp);exact⟨fun b d=>absurd d (dD b),q.sep⟩);intro y m' W X d s M L nA Y I P J b t;injection d with _ d _ _;subst d;exact(hm.resolve_left s).jE M L nA Y I P J b t;intro y W X d b t;injection d with _ d _ _;subst d;exact absurd t ((hm.resolve_left (by simp)).kind.resolve_left (by simp) b));have C:=bU.trans (u2:=fun n=>σ.used n=true) (fun _ h=>h) K (bU.insert H (blk:=.row true m sz (pes.map fun e=>e.map PC.er)) (p:=⟨false,w.heap.size,0,cap,pes,none⟩) hn f);refine⟨⟨Im',aN G.g n ⟨false,w.heap.size,0,cap,pes,none⟩⟩,r.step A (fun m hm=>by rw[z];exact sD n m hm) C (by rw[z];exact v) (r.fr.grow f (by simp) rfl rfl rfl),?_,bU.insert H (blk:=.row true m sz (pes.map fun e=>e.map PC.er)) (p:=⟨false,w.heap.size,0,cap,pes,none⟩) hn f⟩;refine RA.iB rfl fun _=>.inr ⟨by simp[dd],some (ad w.heap.size 0),?_,?_,?_⟩;simp[dd];simp[dd];omega;simp[dd]
end
def Ve:Value->C->Bool
 |.int k n,.int k' n'=>decide (k=k')&&decide (n=n')
 |.bool b,.bool b'=>decide (b=b')
 |.slice none 0 0,.list sz []=>decide (0<sz)
 |_,_=>false
def Bc:List Value->List C->Bool
 |[],[]=>true
 |v::vs,c::cs=>Ve v c&&Bc vs cs
 |_,_=>false
def qQ:C->PC
 |.int k n=>.int k n
 |.bool b=>.bool b
 |.list sz _=>.list sz none 0 []
theorem ak0 {w:World} {v:Value} {c:C} (h:Ve v c=true):(qQ c).er=c/\(qQ c).val=v/\Good w (qQ c)/\∀b,¬bB b (qQ c):=by unfold Ve at h;split at h;simp at h;obtain⟨rfl,rfl⟩:=h;exact⟨rfl,rfl,.int _ _,fun b a=>by cases a⟩;simp at h;subst h;exact⟨rfl,rfl,.bool _,fun b a=>by cases a⟩;simp at h;refine⟨by simp[qQ,PC.fk],rfl,.nil _ _ _ h,fun b a=>?_⟩;unfold qQ at a;rw[bB.oZ] at a;rcases a with⟨a,_⟩|⟨k,j,c,⟨e,d,_⟩,_⟩;exact absurd rfl a;simp at d;cases h
theorem Vf {w:World}:∀{vs:List Value} {cs:List C},Bc vs cs=true->(cs.map qQ).map PC.er=cs/\(cs.map qQ).map PC.val=vs/\∀pc∈cs.map qQ,Good w pc/\∀b,¬bB b pc
 |[],[],_=>⟨rfl,rfl,by simp⟩
 |v::vs,c::cs,h=>by simp only[Bc,zab] at h;obtain⟨k,g,e,f⟩:=ak0 (w:=w) h.1;obtain⟨d,j,i⟩:=Vf (w:=w) h.2;refine⟨by simp only[IT,k,d],by simp only[IT,g,j],fun pc a=>?_⟩;simp only[IT,List.mem_cons] at a;rcases a with rfl|a;exact⟨e,f⟩;exact i pc a
 |[],_::_,h=>by simp[Bc] at h
 |_::_,[],h=>by simp[Bc] at h
theorem Lk {α:Type} {n k j:Nat} {e:List α} {c:α} (h:At (IS n e) k j c):k<n/\e[j]? =some c:=by obtain⟨e',a,d⟩:=h;rw[List.getElem?_replicate] at a;split at a;rename_i b;injection a with a;subst a;exact⟨b,d⟩;cases a
section
variable {B N:Nat} {E:Ex} {w0 w w':World} {G G':Gh} {h h':Nat->Option aV} {used used':Nat->Bool} {tk:List PC} {P:Program} {o:Oper} {a:Act} {σ σ':St} {Q:Exit->Act->World->Prop}
theorem RA.int {x:aw} {n:Int} {v:Value} (hx:x.fW=some n) (a:RA w G h x v):∃k,v=.int k n:=by unfold aw.fW at hx;split at hx;rename_i k f;injection hx with hx;subst hx;rcases a with a|a;cases a;have d:eN w G h [.c (.int k f)] [v]:=a;obtain⟨pc,b,e,_⟩:=(d.2 0 _ v rfl rfl).2;cases pc<;>simp[PC.er] at b;obtain⟨rfl,rfl⟩:=b;exact⟨_,e.symm⟩;cases hx
theorem amh (r:R B E w0 N σ a w G) {n:Nat} {t e:TypeId} {i:TypeInfo} {z:Value} {g:List C} {x y:Operand} {mx my:MO} {m:Mode} {sz ew:Nat} {q d:Int} {σ1:St} (Y:o.op=.makeSlice t x y) (hd:o.dst=some n) (hN:n<N) (iL:cX x mx=true) (iM:cX y my=true) (ht:P.underlying t=some (.slice e)) (hi:P.info? e=some i) (hz:i.zero=some z) (dn:i.size=sz) (w4:i.bytes=ew) (Bt:0<ew) (W:0<sz) (hc:Bc z.cells.toList g=true) (h:(σ.ev mx).fW=some q) (L:(σ.ev my).fW=some d) (iK:q<=d) (qA:0<=q) (p:d.toNat*ew<=fe) (v:g.length=sz) (hx:σ.ins n (.row true m sz (IS q.toNat g))=some σ1): o.wp P a w (Nx B E w0 N (σ1.put o.dst (.one (.sl n sz 0 q.toNat)))) Q:=by obtain⟨hn,rfl⟩:=oR hx;obtain⟨X,Z⟩:=(r.ev iL).1.int h;obtain⟨k2,e2⟩:=(r.ev iM).1.int L;have K:q.toNat<=d.toNat:=(by omega);obtain⟨b1,S,M⟩:=Vf (w:=w) hc;have axC:d.toNat<=fe:=zam (zak _ Bt) p;have J:z.cells.size=sz:=(by have:((g.map qQ).map PC.val).length=z.cells.toList.length:=(by rw[S]);simp at this;omega);have U:=run_make (P:=P) w t e i z ht hi hz X k2 q d qA iK (by rw[w4];have O:((d.toNat*ew:Nat):Int)<=((fe:Nat):Int):=(by exact_mod_cast p);rw[Int.natCast_mul,zaN (by omega:0<=d)] at O;rw[Int.mul_comm];have u:((fe:Nat):Int)=140737488355328:=rfl;omega) (by have u:(fe:Nat)=140737488355328:=rfl;omega);have I:(execOp a.eval o).run P w=.ok (.value (.slice (some (ad w.heap.size 0)) q.toNat d.toNat)) (w.alloc (.cells (madeCells z.cells (d.toNat*sz)) e)):=(by simp only[execOp,Y,Z,e2];rw[dn] at U;simp[U,ad]);have A:(IS q.toNat (g.map qQ)).map (fun e=>e.map PC.er)=IS q.toNat g:=(by rw[List.map_replicate,b1]);have dD:∀b,¬bK b (IS q.toNat (g.map qQ)):=(by rintro b ⟨k,j,c,f,p⟩;exact(M c (co (Lk f).2)).2 b p);have T:∀k j c,At (IS q.toNat (g.map qQ)) k j c->Good w c/\∀b,bB b c->G.Im b:=fun k j c f=> ⟨(M c (co (Lk f).2)).1,fun b p=>absurd p ((M c (co (Lk f).2)).2 b)⟩;obtain⟨G',V,hv,_⟩:=r.newRow (σ1:=σ) (Im':=G.Im) (m:=m) (sz:=sz) (cap:=d.toNat) (pes:=IS q.toNat (g.map qQ)) (arr:=madeCells z.cells (d.toNat*sz)) (e:=e) r.hr (bU.refl _ _ _ _) rfl rfl hn W (fun e he=>by rw[(List.mem_replicate.1 he).2];simpa using v) T (fun k j c f=>by obtain⟨O,u⟩:=Lk f;have hj:j<sz:=(by have:=(AI.1 u).1;simp at this;omega);have H:k*sz+j<d.toNat*sz:=(by have:(k+1)*sz<=d.toNat*sz:=By _ (by omega);rw[Pe] at this;omega);have W5:(k*sz+j)%sz=j:=(by rw[zaF,Nat.mul_add_mod,Nat.mod_eq_of_lt hj]);have kY:z.cells.toList[j]? =some c.val:=(by rw[<-S,wt,u];rfl);have D:z.cells[j]? =some c.val:=(by simpa using kY);have F:(k*sz+j)%z.cells.size=j:=(by rw[J];exact W5);simp[madeCells,H,F];rw[getElem!_def,D]) (by simpa using K) (by have u:(fe:Nat)=140737488355328:=rfl;simp only[maxLen];omega) (size_madeCells _ _) (.inr (K9.Ca dD (fun k j c f=>(T k j c f).1))) (fun _ w' k pc f=>by obtain⟨c,_,rfl⟩:=zaG.1 (co (Lk f).2);cases c with|int k n=>trivial|bool b=>trivial|list s l=>exact .inl rfl);rw[A,List.length_replicate] at*;refine sE I ⟨G',V.put hv (fun q h=>by have L:q=n:=h;subst L;exact dd _ _ _) (fun q h=>by rw[hd] at h;injection h with h;omega)⟩
theorem ad9 (off:Nat):∀(vs:List Value) (k:Nat) (cs:Array Value),off+k+vs.length<=cs.size-> ((vs.zipIdx k).foldl (fun(cs:Array Value) (p:Value×Nat)=>cs.setIfInBounds (off+p.2) p.1) cs)=(cs.toList.take (off+k)++vs++cs.toList.drop (off+k+vs.length)).toArray
 |[],k,cs,_=>by simp
 |v::vs,k,cs,h=>by simp only[za0,List.foldl_cons];have h':off+(k+1)+vs.length<=(cs.setIfInBounds (off+k) v).size:=(by simp at h⊢;omega);rw[ad9 off vs (k+1) _ h'];have e:=list_seg_step cs.toList (off+k) v vs (by simp at h⊢;omega);rw[zaA,<-e];simp[Array.toList_setIfInBounds,OF]
theorem aea (off:Nat) (v:Value) (cs:Array Value) (h:off+v.cells.size<=cs.size): (v.cells.zipIdx.foldl (fun cs (c,j)=>cs.setIfInBounds (off+j) c) cs)=(eP cs.toList off v.cells.toList).toArray:=by have:=ad9 off v.cells.toList 0 cs (by simpa using h);rw[<-Array.foldl_toList];simp only[Array.toList_zipIdx];simpa[eP] using this
theorem VN (size:Nat):∀(vs:List Value) (a:Nat) (cs:Array Value),(∀v∈vs,v.cells.size=size)->(a+vs.length)*size<=cs.size-> Instr.fill (fun i=>some (i*size,size)) cs ((vs.zipIdx a).map fun p=>(p.2,p.1))=some (eP cs.toList (a*size) (vs.flatMap fun v=>v.cells.toList)).toArray
 |[],a,cs,_,_=>by simp[Instr.fill,eP]
 |v::vs,a,cs,hv,hl=>by have g:=hv v (by simp);have h:a*size+v.cells.size<=cs.size:=(by have:(a+1)*size<=(a+(v::vs).length)*size:=By _ (by simp);rw[Pe] at this;omega);simp only[za0,IT,Instr.fill];rw[aq (by simp;omega)];rw[aea _ _ _ h];have b:(eP cs.toList (a*size) v.cells.toList).length=cs.size:=(by simp[eP];omega);rw[VN size vs (a+1) _ (fun f e=>hv f (by simp[e])) (by simp only[zaz,b];simp only[zaA] at hl;rwa[show a+1+vs.length=a+(vs.length+1) by omega])];congr 2;have c:v.cells.toList.length=size:=(by simpa using g);have j:(a+1)*size=a*size+size:=(by rw[Pe];omega);simp only[eP,List.flatMap_cons,zaw,c];rw[j];have d:(zaD (a*size) cs.toList).length=a*size:=(by simp;omega);have l:zaD (a*size+size) (zaD (a*size) cs.toList++v.cells.toList++zaT (a*size+size) cs.toList)=zaD (a*size) cs.toList++v.cells.toList:=(by apply List.take_left';simp[d,c]);have k:∀x,zaT (a*size+size+x) (zaD (a*size) cs.toList++v.cells.toList++zaT (a*size+size) cs.toList)=zaT (a*size+(size+x)) cs.toList:=(by intro x;rw[List.drop_append,zaB (by simp[d,c])];simp only[zag,List.drop_drop,zaw,d,c];congr 1;omega);rw[l,k];simp[List.append_assoc]
end
theorem acQ {α:Type} (P:Nat->α->Prop):∀n:Nat,(∀j,j<n->∃v,P j v)->∃l:List α,l.length=n/\∀(j:Nat) (u:α),l[j]? =some u->P j u
 |0,_=>⟨[],rfl,by simp⟩
 |n+1,h=>by obtain⟨l,b,h2⟩:=acQ P n (fun j a=>h j (by omega));obtain⟨v,hv⟩:=h n (by omega);refine⟨l++[v],by simp[b],fun j u a=>?_⟩;grind
theorem Kr {α:Type} {l a:List α} {off sz:Nat} (h:sub l off sz=some a):off+sz<=l.length/\a=(l.drop off).take sz/\a.length=sz:=by grind [sub]
theorem Kq {α:Type} {l:List α} {off sz j:Nat} (hj:j<sz):((l.drop off).take sz)[j]? =l[off+j]? :=by simp_all
theorem afO (n k a:Nat):∀(l:List C) (off:Nat),(lY n k a off l).length=l.length
 |[],_=>rfl
 |c::l,off=>by cases c<;>simp[lY,afO n k a l]
theorem Yu (n k a:Nat):∀(l:List C) (off j:Nat) (x:ao),(lY n k a off l)[j]? =some x-> (∃c,l[j]? =some c/\c.gI=true/\x=.c c)\/(∃sz ys,l[j]? =some (.list sz ys)/\x=.cF n k a (off+j) sz ys.length)
 |[],off,j,x,h=>by simp[lY] at h
 |c::l,off,j,x,h=>by cases j with|zero=>cases c<;>simp[lY] at h<;>subst h;exact .inl ⟨_,rfl,rfl,rfl⟩;exact .inl ⟨_,rfl,rfl,rfl⟩;grind|succ j=>have h':(lY n k a (off+1) l)[j]? =some x:=(by cases c<;>simpa[lY] using h);rcases Yu n k a l (off+1) j x h' with⟨c',d,b,h3⟩|⟨sz,ys,d,b⟩;simp_all;grind
section
variable {B N:Nat} {E:Ex} {w0 w w':World} {G G':Gh} {h h':Nat->Option aV} {used used':Nat->Bool} {tk:List PC} {P:Program} {o:Oper} {a:Act} {σ σ':St} {Q:Exit->Act->World->Prop}
theorem acC (r:R B E w0 N σ a w G) {n:Nat} {t e:TypeId} {len:Nat} {parts:Array (Nat×Operand)} {y:List MO} {i:TypeInfo} {z:Value} {sz:Nat} {I:List (List C)} {ow:Bool} {σ1 σ2:St}
  (ho:o.op=.buildSlice t len parts) (hd:o.dst=some n) (hN:n<N) (ht:P.underlying t=some (.slice e)) (hi:P.info? e=some i) (hz:i.zero=some z) (dn:i.size=sz) (L:0<sz)
  (hlen:y.length=len) (ij:parts.toList.map (·.1)=List.range len) (U:len*sz<=16777216)
  (j3:∀(j:Nat) (p:Nat×Operand) (m:MO),parts.toList[j]? =some p->y[j]? =some m->cX p.2 m=true)
  (Xp:σ.nE sz (y.map σ.ev)=some (I,ow,σ1)) (hx:σ1.ins n (.row true (if ow=true then .bi else .bh) sz I)=some σ2):
  o.wp P a w (Nx B E w0 N (σ2.put o.dst (.one (.sl n sz 0 I.length)))) Q:=by
 obtain⟨hn,rfl⟩:=oR hx;have K:parts.toList.length=len:=by have:=congrArg za3 ij;simpa using this
 have M:(parts.toList.map fun p=>a.eval p.2).length=(y.map σ.ev).length:=by simp only[zar];omega
 have Fa:∀(j:Nat) (x:aw) (v:Value),(y.map σ.ev)[j]? =some x->(parts.toList.map fun p=>a.eval p.2)[j]? =some v->RA w G σ.h x v/\∀m,x.ref m->σ.used m=true:=by
  intro j x v F D;rw[wt] at F D;cases hp:parts.toList[j]? with
  |none=>grind
  |some p=>
   cases hm:y[j]? with
   |none=>grind
   |some m=>
    rw[hm] at F;rw[hp] at D;simp at F D;subst F;subst D;exact r.ev (j3 j p m hp hm)
 obtain⟨Im',pes,a1,V,a3,a4,a5,a6,a7,a8,a9⟩:=HR.nE (sz:=sz) r.hr Xp M (fun j x v d h2=>(Fa j x v d h2).1) (fun x hx m hm=>by
  obtain⟨j,u,hjx⟩:=zae hx;have D:(parts.toList.map fun p=>a.eval p.2)[j]? =some ((parts.toList.map fun p=>a.eval p.2)[j]'(by omega)):=AN _
  grind)
 simp only[zag] at a5;have W:pes.length=len:=by
  have:=congrArg za3 V;simp only[zar] at this;omega
 have J:∀v∈(parts.toList.map fun p=>a.eval p.2),v.cells.size=sz:=by
  intro v f;obtain⟨j,u,Iv⟩:=zae f;have d:((parts.toList.map fun p=>a.eval p.2).map fun v=>v.cells.toList)[j]? =some v.cells.toList:=by rw[wt,AN u,Iv];rfl
  rw[<-V,wt] at d;cases A:pes[j]? with
  |none=>grind
  |some pe=>
   rw[A] at d;simp at d;have:=a3 pe (co A)
   grind [zai]
 have T:(parts.map fun p=>(p.1,a.eval p.2)).toList=((parts.toList.map fun p=>a.eval p.2).zipIdx 0).map fun p=>(p.2,p.1):=by
  apply List.ext_getElem?;intro j;simp only[zan,wt,List.getElem?_zipIdx];cases hp:parts.toList[j]? with
  |none=>simp
  |some p=>
   have lO:=(AI.1 hp).1;have d:(parts.toList.map (·.1))[j]? =some p.1:=by rw[wt,hp];rfl
   rw[ij,List.getElem?_range (by omega)] at d;injection d with d;simp[d]
 have cG:(execOp a.eval o).run P w=.ok (.value (.slice (some (ad w.heap.size 0)) len len)) (w.alloc (.cells ((parts.toList.map fun p=>a.eval p.2).flatMap fun v=>v.cells.toList).toArray e)):=by
  have axu:((parts.toList.map fun p=>a.eval p.2).flatMap fun v=>v.cells.toList).length=len*sz:=by
   rw[zaO];have:∀(l:List Value),(∀v∈l,v.cells.size=sz)->(l.map fun v=>v.cells.toList.length).sum=l.length*sz:=by
    intro l;induction l with
    |nil=>simp
    |cons v l ih=>
     grind
   rw[this _ J];simp[K]
  have PY:∀cs:Array Value,cs.size=len*sz->Instr.fill (fun i=>some (i*sz,sz)) cs (parts.map fun p=>(p.1,a.eval p.2)).toList=some ((parts.toList.map fun p=>a.eval p.2).flatMap fun v=>v.cells.toList).toArray:=by
   intro cs iS;rw[T,VN sz _ 0 cs J (by simp only[zar,K,zac];omega)];congr 2;simp only[eP,zaE,zaM,zag,zac];rw[zaB (by grind)];simp
  by_cases Z:len*sz=0
  ·have s:=PY ((za9 0).map fun _=>default) (by simp[Z]);rw[zan] at s;simp[execOp,ho,Instr.buildSlice,run_underlying ht,sizeOf,typeInfo,hi,dn,Z,Nat.not_lt.2 U,s,newRow,ad]
  ·have s:=PY ((za9 (len*sz)).map (z.cells[·%z.cells.size]!)) (by simp);rw[zan] at s;simp[execOp,ho,Instr.buildSlice,run_underlying ht,sizeOf,typeInfo,hi,dn,Z,Nat.not_lt.2 U,zeroValue,hz,s,newRow,ad]
 have iE:∀k j c,At pes k j c->Good w c/\∀b,bB b c->Im' b:=fun k j c Y=>by
  obtain⟨S,H,u⟩:=Y;exact a4 S (co H) c (co u)
 have H0:HR B E w ⟨Im',G.g⟩ σ1.h σ.used []:=by
  cases ow
  ·grind
  ·have O:HR B E w ⟨Im',G.g⟩ σ1.h σ.used ([]++pes.flatten):=by simpa using a5
   exact O.Ef
 obtain⟨G',r',f,_⟩:=r.newRow (m:=if ow=true then .bi else .bh) (sz:=sz) (cap:=len) (pes:=pes) (arr:=((parts.toList.map fun p=>a.eval p.2).flatMap fun v=>v.cells.toList).toArray) (e:=e) H0 a6 a7 a8 (by rw[<-a8];exact hn) L a3 iE
  (fun k j c Y=>by
   have cM:At (pes.map fun e=>e.map PC.val) k j c.val:=by
    obtain⟨S,H,u⟩:=Y;exact⟨S.map PC.val,by rw[wt,H];rfl,by rw[wt,u];rfl⟩
   have s:=xY (sz:=sz) (px:=pes.map fun e=>e.map PC.val) (fun e H=>by
    grind) cM
   rw[V] at s;simpa[List.flatMap] using s) (by omega) (by
   have h2:sz*len<=16777216:=by rw[zaF];exact U
   have h3:len<=len*sz:=zak _ L;simp only[maxLen];omega) (by
   have WM:((parts.toList.map fun p=>a.eval p.2).flatMap fun v=>v.cells.toList).length=len*sz:=by
    rw[zaO];have:∀(l:List Value),(∀v∈l,v.cells.size=sz)->(l.map fun v=>v.cells.toList.length).sum=l.length*sz:=by
     intro l;induction l with
     |nil=>simp
     |cons v l ih=>
      intro f;simp only[IT,List.sum_cons,zaA];rw[ih (fun v' jw=>f v' (by simp[jw])),zai,f v (by simp),Pe];omega
    rw[this _ J];simp[K]
   simpa using WM) (by
   cases ow
   ·grind
   ·right;simp only[if_true];have O:HR B E w ⟨Im',G.g⟩ σ1.h σ.used pes.flatten:=by simpa using a5
    exact O.agu L a3) (fun hl=>by cases ow<;>cases hl)
 have X:I.length=pes.length:=by rw[<-a1];simp
 rw[a1] at r' f;rw[X];rw[W] at f⊢;refine sE cG ⟨G',?_⟩;exact r'.put f (fun q A=>by have gB:q=n:=A;subst gB;exact dd _ _ _) (fun q A=>by grind)
theorem HR.loadAt (H:HR B E w G h used tk) {p:ao} {sz:Nat} {cs:List ao} {v:Value} (hx:loadAt h p sz=some cs) (V:RC w G h p v) (qB:∀m,p.ref m->used m=true):
  ∃(b o:Nat) (vs:List Value),v=.pointer (some (ad b o))/\vs.length=sz/\(∀(j:Nat) (u:Value),vs[j]? =some u->w.cell? (ad b (o+j))=some u)/\eN w G h cs vs/\
   ∀c∈cs,∀m,c.ref m->used m=true:=by
 cases p with
 |ptr n k L off=>
  simp only[Am.loadAt] at hx;split at hx
  ·rename_i jS hn;split at hx
   ·rename_i hk;subst hk;obtain⟨K,N,Y⟩:=Kr hx;obtain⟨F,J⟩:=V (by rw[hn];simp);obtain⟨b1,b2,b3⟩:=H.box n jS hn;have eW:∀j,j<sz->∃v,w.cell? (ad (G.g n).b ((G.g n).o+off+j))=some v/\∀c,cs[j]? =some c->v.oneCell'=true/\RC w G h c v:=by
     intro j r;have fK:jS[off+j]? =some (jS[off+j]'(by omega)):=AN _;obtain⟨v,v1,v2,v3⟩:=b3 _ _ fK;refine⟨v,by rw[OF];exact v1,fun c t=>?_⟩;rw[N,Kq r,fK] at t;injection t with t;subst t;exact⟨v2,v3⟩
    obtain⟨vs,l1,l2⟩:=acQ _ sz eW;refine⟨(G.g n).b,(G.g n).o+off,vs,by rw[J];simp,l1,fun j u r=>(l2 j u r).1,⟨by omega,fun j c u t d=>(l2 j u d).2 c t⟩,fun c I m hm=>?_⟩;refine H.lz n jS c m hn ?_ hm
    grind
   ·cases hx
  ·rename_i gr mo rs xs hn;split at hx
   ·rename_i sZ;subst sZ;split at hx
    ·rename_i e z;split at hx
     ·rename_i l O;injection hx with hx;obtain⟨K,N,Y⟩:=Kr O;have hr:=H.row n gr mo L xs hn;obtain⟨F,J⟩:=V (by rw[hn];simp);obtain⟨r1,r2,r3⟩:=hr.f6 F;have lR:∃pe,(G.g n).px[k]? =some pe/\pe.map PC.er=e:=by
       rw[hr.er,wt] at z;cases y:(G.g n).px[k]? with
       |none=>rw[y] at z;cases z
       |some pe=>rw[y] at z;simp at z;exact⟨pe,rfl,z⟩
      obtain⟨pe,xf,zU⟩:=lR;have ij:off+sz<=pe.length:=by rw[<-zU] at K;simpa using K
      have Q:∀j,j<sz->∃pc,At (G.g n).px k (off+j) pc/\l[j]? =some pc.er/\((pe.drop off).take sz)[j]? =some pc:=by
       intro j r;have y:pe[off+j]? =some (pe[off+j]'(by omega)):=AN _;refine⟨pe[off+j]'(by omega),⟨pe,xf,y⟩,?_,by rw[Kq r];exact y⟩;have Z:l[j]? =((e.drop off).take sz)[j]? :=congrArg (fun q:List C=>q[j]?) N;rw[Z,Kq r,<-zU,wt,y];rfl
      have P:(((pe.drop off).take sz).map PC.val).length=sz:=by simp;omega
      refine⟨(G.g n).b,(G.g n).o+k*L+off,((pe.drop off).take sz).map PC.val,J,P,fun j u r=>?_,?_,?_⟩
      ·have S:j<sz:=by have:=(AI.1 r).1;omega
       obtain⟨pc,p1,A,U⟩:=Q j S;rw[wt,U] at r;simp at r;subst r;rw[show(G.g n).o+k*L+off+j=(G.g n).o+k*L+(off+j) by omega];exact r2.2.1 _ _ _ p1
      ·subst hx;refine⟨by grind [afO],fun j c u t d=>?_⟩;have S:j<sz:=by have:=(AI.1 d).1;omega
       obtain⟨pc,p1,A,U⟩:=Q j S;rw[wt,U] at d;simp at d;subst d;refine⟨PC.nW pc,?_⟩;have X:=r2.2.2 _ _ _ p1;split at t
       ·rename_i yr;subst yr;rcases Yu n k L l off j c t with⟨M,D,h2,rfl⟩|⟨s,ys,D,rfl⟩
        ·rw[A] at D;injection D with D;exact⟨pc,D,rfl,X,fun b W=>absurd W ((Sep.kC (pc:=pc) (by grind)).2 b)⟩
        ·rw[A] at D;injection D with D;intro cq aM _;refine⟨pc,p1,rfl,?_⟩;cases pc<;>simp[PC.er] at D<;>rfl
       ·rename_i yr;rw[wt,A] at t;simp at t;subst t;refine⟨pc,rfl,rfl,X,fun b W=>?_⟩;have hm:=hr.mode;have dV:bK b (G.g n).px:=⟨k,off+j,pc,p1,W⟩;cases mo with
        |bh=>exact hm b dV
        |bi=>exact(hm.1 b dV).1
        |live=>grind
      ·intro c I m hm;subst hx;split at I
       ·obtain⟨j,r,It⟩:=zae I;rcases Yu n k L l off j c (by grind) with⟨M,D,h2,rfl⟩|⟨s,ys,D,rfl⟩
        ·exact absurd hm (by simp[ao.ref,ao.kE])
        ·have:m=n:=hm;subst this;exact qB m rfl
       ·obtain⟨M,_,rfl⟩:=zaG.1 I
        grind [ao.ref,ao.kE]
     ·cases hx
    ·cases hx
   ·cases hx
  ·cases hx
 |ez xs off=>
  simp only[Am.loadAt] at hx;cases O:sub xs off sz with
  |none=>simp_all
  |some l=>
   rw[O] at hx;simp at hx;subst hx;obtain⟨K,N,Y⟩:=Kr O;obtain⟨b,o,pe,p1,A,U,p4⟩:=V;have ij:off+sz<=pe.length:=by rw[<-A] at K;simpa using K
   have P:(((pe.drop off).take sz).map PC.val).length=sz:=by simp;omega
   have Q:∀j,j<sz->∃pc,pe[off+j]? =some pc/\l[j]? =some pc.er/\((pe.drop off).take sz)[j]? =some pc:=by
    intro j r;have y:pe[off+j]? =some (pe[off+j]'(by omega)):=AN _;refine⟨pe[off+j]'(by omega),y,?_,by simp_all⟩;have Z:l[j]? =((xs.drop off).take sz)[j]? :=congrArg (fun q:List C=>q[j]?) N;rw[Z,Kq r,<-A,wt,y];rfl
   refine⟨b,o+off,_,p1,P,fun j u r=>?_,⟨by rw[P];simp[Y],fun j c u t d=>?_⟩,fun c I m hm=>?_⟩
   ·have S:j<sz:=by have:=(AI.1 r).1;omega
    grind
   ·have S:j<sz:=by have:=(AI.1 d).1;omega
    obtain⟨pc,F,J,T⟩:=Q j S;rw[wt,T] at d;rw[wt,J] at t;simp at d t;subst d;subst t;exact⟨PC.nW pc,pc,rfl,rfl,(p4 _ _ F).2.1,(p4 _ _ F).2.2⟩
   grind [ao.ref,ao.kE]
 |dE xs off j n s len=>
  simp only[Am.loadAt] at hx;obtain⟨b,o,pe,p1,A,U,p4,u,u1,u2,u3⟩:=V;split at hx
  ·rename_i eo;obtain⟨rfl,rfl⟩:=eo;injection hx with hx;subst hx;refine⟨b,o+off,[u],p1,rfl,fun i u' hi=>?_,⟨rfl,fun i c u' R d=>?_⟩,fun c I m hm=>?_⟩
   ·grind
   ·cases i with
    |zero=>simp at R d;subst R;subst d;exact⟨u2,u3⟩
    |succ i=>simp at d
   ·simp at I;subst I;have:m=n:=hm;subst this;exact qB m rfl
  ·split at hx
   ·rename_i cI;cases O:sub xs off sz with
    |none=>simp_all
    |some l=>
     rw[O] at hx;simp at hx;subst hx;obtain⟨K,N,Y⟩:=Kr O;have ij:off+sz<=pe.length:=by rw[<-A] at K;simpa using K
     have P:(((pe.drop off).take sz).map PC.val).length=sz:=by simp;omega
     have Q:∀j,j<sz->∃pc,pe[off+j]? =some pc/\l[j]? =some pc.er/\((pe.drop off).take sz)[j]? =some pc:=by
      intro j r;have y:pe[off+j]? =some (pe[off+j]'(by omega)):=AN _;refine⟨pe[off+j]'(by omega),y,?_,by simp_all⟩;have Z:l[j]? =((xs.drop off).take sz)[j]? :=congrArg (fun q:List C=>q[j]?) N;rw[Z,Kq r,<-A,wt,y];rfl
     refine⟨b,o+off,_,p1,P,fun i u hi=>?_,⟨by rw[P];simp[Y],fun i c u R d=>?_⟩,fun c I m hm=>?_⟩
     ·have MC:i<sz:=by have:=(AI.1 hi).1;omega
      obtain⟨pc,F,J,T⟩:=Q i MC;rw[wt,T] at hi;simp at hi;subst hi;rw[OF];exact(p4 _ _ (by omega) F).1
     ·have MC:i<sz:=by have:=(AI.1 d).1;omega
      obtain⟨pc,F,J,T⟩:=Q i MC;rw[wt,T] at d;rw[wt,J] at R;simp at d R;subst d;subst R;exact⟨PC.nW pc,pc,rfl,rfl,(p4 _ _ (by omega) F).2.1,(p4 _ _ (by omega) F).2.2⟩
     ·obtain⟨M,_,rfl⟩:=zaG.1 I
      grind [ao.ref,ao.kE]
   ·cases hx
 |c x=>simp[Am.loadAt] at hx
 |nil sz=>simp[Am.loadAt] at hx
 |sl n sz lo len=>simp[Am.loadAt] at hx
 |cF n k L off sz len=>simp[Am.loadAt] at hx
 |eE n k L off s i=>
  simp only[Am.loadAt] at hx;split at hx
  ·rename_i gr rs xs hn;split at hx
   ·rename_i sZ;subst sZ;split at hx
    ·rename_i s' ys Br;split at hx
     ·rename_i eo;obtain⟨re,iw⟩:=eo;split at hx
      ·rename_i e z;split at hx
       ·rename_i lc;injection hx with hx;subst hx;obtain⟨pc,b,o,len,cap,p1,A,U,p4⟩:=V gr xs hn;have hr:=H.row n gr .live rs xs hn;have bq:(G.g n).nl=false:=by
         cases hq:(G.g n).nl with
         |false=>rfl
         |true=>obtain⟨e,z,_⟩:=p1;rw[(hr.nl hq).1] at z;simp at z
        have X:Good w pc:=(hr.f6 bq).2.1.2.2 _ _ _ p1;have j4:pc.er=.list s' ys:=by
         obtain⟨e',he',sT⟩:=p1;rw[hr.er] at Br;simp[he',sT] at Br;exact Br
        cases pc with
        |int k n=>simp[PC.er] at j4
        |bool b=>simp[PC.er] at j4
        |list bf a oJ py=>
         rw[PC.fk] at j4;injection j4 with e1 e2;have e3:bf=s:=e1.trans re;have e4:sz=bf:=iw.trans e3.symm;rw[<-e3] at p4;clear re iw e1 e3;subst e2 e4;simp only[PC.val] at A;injection A with f1 f2 f3;subst f1 f3;rw[wt] at z;cases y:py[i]? with
         |none=>rw[y] at z;cases z
         |some pe=>
          rw[y] at z;simp at z;subst z;generalize kc:PC.list sz (some (ad b o)) oJ py=q at X;cases X with
          |int k n=>cases kc
          |bool b=>cases kc
          |nil _ _ _ _=>grind
          |cons _ b' Y0 _ _ F J T q4 q5 q6=>
           injection kc with f1 f2 f3 f4;injection f2 with f2;obtain⟨rfl,rfl⟩:=pn f2;subst f1 f3 f4;have Dm:pe.length=sz:=q4 pe (co y);refine⟨b,o+i*sz,pe.map PC.val,p4,by simp_all,fun j u r=>?_,⟨by simp,fun j c u t d=>?_⟩,fun c I m hm=>?_⟩
           ·rw[wt] at r;cases rh:pe[j]? with
            |none=>simp_all
            |some c=>rw[rh] at r;simp at r;subst r;exact q5 i j c ⟨pe,y,rh⟩
           ·rw[wt] at d;rw[wt,wt] at t;cases rh:pe[j]? with
            |none=>simp_all
            |some M=>
             rw[rh] at d t;simp at d t;subst d;subst t;have s6:M.er.gI=true:=If.1 lc _ (zaa (co rh));exact⟨PC.nW M,M,rfl,rfl,q6 i j M ⟨pe,y,rh⟩,fun b W=>absurd W ((Sep.kC s6).2 b)⟩
           grind [ao.ref,ao.kE]
       ·cases hx
      ·cases hx
     ·cases hx
    ·cases hx
   ·cases hx
  ·cases hx
 |fn f fv=>simp[Am.loadAt] at hx
 |cj=>simp[Am.loadAt] at hx
def Hx (P:Program) (t:TypeId) (ag:Bool) (sz:Nat):Bool:=
 match P.underlying t,P.info? t with
 |some (.struct _),some i=>ag&&i.size==sz
 |some (.array _ _),some i=>ag&&i.size==sz
 |some _,some i=> !ag&&sz==1
 |_,_=>false
theorem RA.il {c:ao} {v:Value} (hc:c≠ .cj) (a:RA w G h (.one c) v):RC w G h c v/\v.oneCell'=true:=by rcases a with rfl|a;simp_all;have b:eN w G h [c] [v]:=a;exact⟨(b.2 0 c v rfl rfl).2,(b.2 0 c v rfl rfl).1⟩
theorem amg (r:R B E w0 N σ a w G) {t:TypeId} {x:Operand} {m:MO} {ag:Bool} {sz:Nat} {p:ao} {cs:List ao} (l:o.op=.load t x) (D:∀n,o.dst=some n->n<N)
  (hm:cX x m=true) (e:Hx P t ag sz=true) (F:σ.ev m=.one p) (hx:Am.loadAt σ.h p sz=some cs):
  o.wp P a w (Nx B E w0 N (σ.put o.dst (wF ag cs))) Q:=by
 obtain⟨f,z⟩:=r.ev hm;rw[F] at f z;have K:p≠ .cj:=by rintro rfl;simp[Am.loadAt] at hx
 obtain⟨b,of,vs,A,M,I,g,h5⟩:=r.hr.loadAt hx (f.il K).1 z;have C:∀v,RA w G σ.h (wF ag cs) v->(execOp a.eval o).run P w=.ok (.value v) w->o.wp P a w (Nx B E w0 N (σ.put o.dst (wF ag cs))) Q:=fun v f S=>
  sE S ⟨G,r.put f (fun q O=>by
   unfold wF at O
   grind [aw.ref,ao.ref,ao.kE]) D⟩
 have J:∀n:Nat,n=vs.length->(loadCells (ad b of) n).run P w=.ok vs.toArray w:=fun n hn=>by
  subst hn;exact run_loadCells_list w (ad b of) vs (fun j u hj=>by simp_all [vn])
 unfold Hx at e;cases hu:P.underlying t with
 |none=>simp_all
 |some d=>
  cases hi:P.info? t with
  |none=>rw[hu,hi] at e;cases d<;>simp at e
  |some i=>
   rw[hu,hi] at e;have H:(ag=true/\i.size=sz/\(isAgg t).run P w=.ok true w)\/(ag=false/\sz=1/\(isAgg t).run P w=.ok false w):=by
    cases d<;>simp at e<;>simp[isAgg,run_underlying hu,e]
   rcases H with⟨rfl,s,k⟩|⟨rfl,s,k⟩
   ·refine C (.agg vs.toArray) ⟨vs,rfl,g⟩ ?_;simp[execOp,l,A,Instr.loadAt,Instr.sureAddr,loadVar,k,sizeOf,typeInfo,hi,J i.size (by omega)]
   ·subst s;match vs,M with
    |[u],_=>
     have L:∃c,cs=[c]:=by
      have:=g.1;match cs,this with
      |[c],_=>exact⟨c,rfl⟩
     obtain⟨c,rfl⟩:=L;refine C u (.inr g) ?_;have y:=I 0 u rfl;simp only[zax] at y;simp[execOp,l,A,Instr.loadAt,Instr.sureAddr,loadVar,k,y]
end
theorem Sq {α:Type} {l vs:List α} {off:Nat} (h:off+vs.length<=l.length):(eP l off vs).length=l.length:=by simp[eP];omega
theorem Ec {α:Type} {l vs:List α} {off j:Nat} (h:off+vs.length<=l.length):(eP l off vs)[j]? =if off<=j/\j<off+vs.length then vs[j - off]? else l[j]? :=by unfold eP;have ht:(l.take off).length=off:=(by simp;omega);by_cases h1:j<off;(first|grind|simp_all);by_cases h2:j<off+vs.length;(first|grind|simp_all);rw[aq (by omega),BY (by simp;omega),zau];congr 1;simp;omega
theorem Ki {α β:Type} (f:α->β) (l vs:List α) (off:Nat):(eP l off vs).map f=eP (l.map f) off (vs.map f):=by simp[eP,zaR,zaS]
def jq (w:World) (b o:Nat) (vs:List Value) (cur:Array Value):World:=w.setRow b (cur.toList.take o++vs++cur.toList.drop (o+vs.length)).toArray
section
variable {w:World} {b o:Nat} {vs:List Value} {cur:Array Value} {e:TypeId}
theorem Ek (c:w.heap[b]? =some (.cells cur e (0,0))) (hl:o+vs.length<=cur.size) (x:Nat): (jq w b o vs cur).cell? (ad b x)=if o<=x/\x<o+vs.length then vs[x - o]? else w.cell? (ad b x):=by unfold jq ad;rw[cell_setRow_same w b x cur _ e (0,0) c];have a:=Ec (l:=cur.toList) (vs:=vs) (off:=o) (j:=x) (by omega);simp only[eP] at a;rw[zaf,a];have d:w.cell? ⟨b,x,none⟩=cur[x]? :=(by simp[World.cell?,c]);rw[d];simp
theorem El (k:Nat) (a:k≠b):(jq w b o vs cur).heap[k]? =w.heap[k]? :=setRow_other w b k _ a
theorem wH:(jq w b o vs cur).heap.size=w.heap.size:=setRow_size _ _ _
theorem KC (c:w.heap[b]? =some (.cells cur e (0,0))) (hl:o+vs.length<=cur.size):∃a,(jq w b o vs cur).heap[b]? =some (.cells a e (0,0))/\a.size=cur.size:=by refine⟨_,setRow_heap w b cur _ e (0,0) c,?_⟩;simp;omega
theorem GN (a:w.heap[b]? =some (.cells cur e (0,0))) (hl:o+vs.length<=cur.size):Cz w (jq w b o vs cur) b:=by intro arr e' h;obtain⟨nH,h1,h2⟩:=KC (vs:=vs) (o:=o) a hl;simp_all
theorem OJ (f:w.heap[b]? =some (.cells cur e (0,0))) (hl:o+vs.length<=cur.size) (k:Nat) (c:fB w k):fB (jq w b o vs cur) k:=by by_cases a:k=b;subst a;obtain⟨g,d,_⟩:=KC (vs:=vs) (o:=o) f hl;exact⟨g,e,d⟩;exact c.congr (El k a)
end
section
variable {B N:Nat} {E:Ex} {w0 w w':World} {G G':Gh} {h h':Nat->Option aV} {used used':Nat->Bool} {tk:List PC} {P:Program} {o:Oper} {a:Act} {σ σ':St} {Q:Exit->Act->World->Prop}
theorem OE {α:Type} (f:Nat->α) (n:Nat):aN f n (f n)=f:=by grind [mZ]
theorem RN {t:TypeId} {i:TypeInfo} {b off:Nat} {v:Value} {cur:Array Value} {e:TypeId} (f:P.info? t=some i) (c:v.cells.size=i.size) (g:w.heap[b]? =some (.cells cur e (0,0))) (hl:off+v.cells.size<=cur.size) (d:∀u∈v.cells.toList,u.oneCell'=true): (storeVar t (ad b off) v).run P w=.ok () (jq w b off v.cells.toList cur):=by have a:=run_storeCells_at P b off e v.cells.toList 0 cur w g (by omega) d;simp only[zax] at a;simp[storeVar,sizeOf,typeInfo,f,c,ad,a,jq]
theorem HR.vI (H:HR B E w G h used tk) {n m:Nat} {d:Bool} {a:Mode} {sz:Nat} {xs:List (List C)} (hn:h n≠none) (hl:(G.g n).nl=false) (hm:h m=some (.row d a sz xs)) {b:Nat} (c:bK b (G.g m).px):b≠(G.g n).b:=by have e:=(H.row m d a sz xs hm).mode;cases a with|bh=>rintro rfl;exact(H.own n hn hl).1 (e _ c)|bi=>rintro rfl;exact(H.own n hn hl).1 (e.1 _ c).1|live=>exact H.live m d sz xs hm b c n hn hl
theorem R.awB (r:R B E w0 N σ a w G) {n:Nat} {cs:List ao} {vs:List ao} {us:List Value} {off:Nat} (hn:σ.h n=some (.box cs)) (F:eN w G σ.h vs us) (Q:∀c∈vs,∀m,c.ref m->σ.used m=true)
  (hl:off+vs.length<=cs.length) {cur:Array Value} {e:TypeId} (t:w.heap[(G.g n).b]? =some (.cells cur e (0,0))) (u:(G.g n).o+off+us.length<=cur.size):
  R B E w0 N (σ.fQ n (.box (eP cs off vs))) a (jq w (G.g n).b ((G.g n).o+off) us cur) G:=by
 have H:=r.hr;have s:σ.h n≠none:=by rw[hn];simp
 obtain⟨q,W,P⟩:=H.box n cs hn;obtain⟨C,A,yx⟩:=H.own n s q;have T:=H.mM n s;have D:(⟨G.Im,aN G.g n (G.g n)⟩:Gh)=G:=by rw[OE]
 have hlen:us.length=vs.length:=F.1;have fq:∀b,b<w.heap.size->b≠(G.g n).b->(jq w (G.g n).b ((G.g n).o+off) us cur).heap[b]? =w.heap[b]? :=fun b _ d=>El b d;have K:bU w G σ.h (fun n=>σ.used n=true) (jq w (G.g n).b ((G.g n).o+off) us cur) G (aN σ.h n (some (.box (eP cs off vs)))):=by
  refine⟨fun _ h=>h,fun b d x=>kv (fq b (H.jG b d) (fun S=>C (S▸d))) x,fun m hm f=>?_,fun m i sz xs hm f=>?_⟩
  ·by_cases y:m=n
   ·simp_all
   ·rw[dP _ _ _ _ y] at f;exact⟨f,rfl,rfl,rfl,rfl,rfl⟩
  ·by_cases y:m=n
   ·simp_all [dd]
   ·rw[dP _ _ _ _ y] at f;exact⟨⟨i,xs,f⟩,fun k j pc Y Z=>⟨pc,Y,rfl,Z⟩⟩
 have L:HR B E (jq w (G.g n).b ((G.g n).o+off) us cur) ⟨G.Im,aN G.g n (G.g n)⟩ (aN σ.h n (some (.box (eP cs off vs)))) σ.used []:=by
  refine H.put (fun b d z=>fq b d (z q)) (by rw[wH];exact zaj _) (fun b _ d=>OJ t u b d) (fun _ h=>h) T (fun _=>⟨C,A,by rw[wH];exact yx⟩)
   (fun _ m hm f kw=>(H.inj m n f s hm kw q)) (fun _ m i sz xs hm f b d=>H.live m i sz xs f b d n s q) ?_ (by simp_all) ?_
   (fun i m sz xs d=>by cases d) (fun i sz xs d=>by cases d) (fun i m sz xs d=>by cases d) ?_
  ·intro cs' c m d l hm;injection d with d;subst d;simp only[eP,zad] at l;rcases l with(l|l)|l
   ·exact H.lz n cs c m hn (zap l) hm
   ·grind
   ·exact H.lz n cs c m hn (zao l) hm
  ·rw[D];refine⟨q,OJ t u _ W,fun j c p=>?_⟩;rw[Ec hl] at p;rw[Ek t u];by_cases J:off<=j/\j<off+vs.length
   ·rw[ai J] at p;rw[ai (by omega)];have I:j - off<us.length:=by omega
    have hu:us[j - off]? =some (us[j - off]'I):=AN I;obtain⟨M,O⟩:=F.2 _ _ _ p hu;refine⟨_,by grind,M,O.d9 K (Q c (co p))⟩
   ·rw[aq J] at p;rw[aq (by omega)];obtain⟨v,X,v2,V⟩:=P j c p;exact⟨v,X,v2,V.d9 K (fun m hm=>H.lz n cs c m hn (co p) hm)⟩
  ·intro _ _ b d;obtain⟨m,i,mo,sz,xs,hm,f,U⟩:=d;exact H.vI s q f U
 rw[D] at L;exact r.step (σ':=σ.fQ n (.box (eP cs off vs))) rfl (fun _ h=>h) K L (r.fr.one A (fun b d z=>fq b d z) (by simp_all [wH]) (GN t u) rfl rfl rfl)
theorem OX {α:Type} {px:List (List α)} {k k' j:Nat} {pe:List α} {c:α} (hk:k<px.length) (h:At (px.set k pe) k' j c):(k'=k/\pe[j]? =some c)\/(k'≠k/\At px k' j c):=by obtain⟨e,a,d⟩:=h;by_cases b:k'=k;simp_all;rw[zaL (zaC b)] at a;exact .inr ⟨b,e,a,d⟩
theorem PC.afi {pc:PC} (h:pc.kO=true):pc.er.gI=false:=by cases pc<;>simp[PC.kO] at h;simp[PC.fk,C.gI]
theorem R.u9 (r:R B E w0 N σ a w G) {n:Nat} {u:Bool} {m:Mode} {l:Nat} {xs:List (List C)} {k off:Nat} {e:List C} {vs:List ao} {us:List Value} {σ2:St}
  (hn:σ.h n=some (.row u m l xs)) (bq:(G.g n).nl=false) (hk:xs[k]? =some e) (hv:eN w G σ.h vs us) (qB:∀c∈vs,∀m,c.ref m->σ.used m=true)
  (hx:Am.u9 σ n u m l xs k off e vs=some σ2) {cur:Array Value} {et:TypeId} (hg:w.heap[(G.g n).b]? =some (.cells cur et (0,0))) (jt:(G.g n).o+k*l+off+us.length<=cur.size):
  ∃G',R B E w0 N σ2 a (jq w (G.g n).b ((G.g n).o+k*l+off) us cur) G':=by
 unfold Am.u9 at hx;split at hx
 ·cases hx
 rename_i mB iy;obtain⟨s1,s2,s3⟩:=Kr iy;split at hx
 ·cases hx
 rename_i cs ow σ1 Xp;obtain⟨Im',y,a1,a2,a3,a4,a5,a6,a7,a8⟩:=HR.jm r.hr Xp hv qB;simp only[zag] at a4;have L:HR B E w ⟨Im',G.g⟩ σ1.h σ.used []:=by
  cases ow
  ·simpa using a4
  ·have a4':HR B E w ⟨Im',G.g⟩ σ1.h σ.used ([]++y):=by simpa using a4
   exact a4'.Ef
 have hlen:us.length=vs.length:=hv.1;have ij:y.length=vs.length:=by have:=congrArg za3 a2;simp at this;omega
 have anD:(σ1.h n).isSome=true/\∃z,σ2=σ1.fQ n (.row u z l (xs.set k (eP e off cs)))/\
   ((m=.live/\z=.live/\io cs=true/\io mB=true/\u=false)\/(m≠ .live/\z=if ow=true then m else .bh)):=by
  split at hx
  ·simp_all
  ·simp_all
 obtain⟨Ql,z,rfl,ju⟩:=anD;have rU:σ1.h n=some (.row u m l xs):=by
  cases hh:σ1.h n with
  |none=>simp_all
  |some b=>simp_all
 have cQ:σ1.h n≠none:=by rw[rU];simp
 have hr:=L.row n u m l xs rU;obtain⟨xd,vT,yx⟩:=L.own n cQ bq;have Dp:=L.mM n cQ;obtain⟨l1,l2,l3⟩:=hr.f6 bq;have lR:∃pe,(G.g n).px[k]? =some pe/\pe.map PC.er=e:=by
  have j4:=hr.er;rw[j4,wt] at hk;cases f:(G.g n).px[k]? with
  |none=>rw[f] at hk;cases hk
  |some pe=>grind
 obtain⟨pe,xf,zU⟩:=lR;have rf:k<(G.g n).px.length:=(AI.1 xf).1;have Dm:pe.length=l:=l2.1 pe (co xf);have pW:off+y.length<=pe.length:=by rw[<-zU] at s1;simp at s1;omega
 let JC:=eP pe off y;let px':=(G.g n).px.set k JC;let U:=jq w (G.g n).b ((G.g n).o+k*l+off) us cur;let p':PB:=⟨false,(G.g n).b,(G.g n).o,(G.g n).cap,px',(G.g n).na⟩;have axA:JC.length=l:=by show(eP pe off y).length=l;rw[Sq pW,Dm]
 have Z:∀k' j c,At px' k' j c->(k'=k/\off<=j/\j<off+y.length/\y[j - off]? =some c)\/((k'≠k\/¬(off<=j/\j<off+y.length))/\At (G.g n).px k' j c):=by
  intro k' j c h;rcases OX rf h with⟨rfl,Q⟩|⟨F,h⟩
  ·rw[Ec pW] at Q;by_cases d6:off<=j/\j<off+y.length
   ·grind
   ·rw[aq d6] at Q;exact .inr ⟨.inr d6,pe,xf,Q⟩
  ·grind
 have anB:∀k' j c,At px' k' j c->j<l:=by
  intro k' j c h;obtain⟨V,S,Q⟩:=h;have:V.length=l:=by
   rcases zay (co S) with s|s
   ·exact l2.1 V s
   ·grind
  rw[<-this];exact(AI.1 Q).1
 have pw:∀b,bK b px'->bK b (G.g n).px\/∃(i:Nat) (c:PC),y[i]? =some c/\bB b c:=by
  rintro b ⟨k',j,c,P,d⟩;rcases Z k' j c P with⟨_,_,_,f⟩|⟨_,f⟩
  ·exact .inr ⟨_,c,f,d⟩
  ·exact .inl ⟨k',j,c,f,d⟩
 have fq:∀b,b≠(G.g n).b->U.heap[b]? =w.heap[b]? :=fun b d=>El b d;have Xe:∀(i:Nat) (c:PC) (b:Nat),y[i]? =some c->bB b c->Im' b:=fun i c b D d=>(a3 c (co D)).2 b d;have E4:∀b,Im' b->b≠(G.g n).b:=fun b d S=>xd (S▸d);have lQ:∀b,bK b (G.g n).px->b≠(G.g n).b:=fun b d=>L.vI cQ bq rU d;have f9:rI U (G.g n).b (G.g n).o l px':=by
  refine⟨fun V S=>?_,fun k' j c P=>?_,fun k' j c P=>?_⟩
  ·rcases zay S with s|s
   ·exact l2.1 V s
   grind
  ·have Q:=anB k' j c P;show U.cell? _=_;rw[Ek hg jt];rcases Z k' j c P with⟨rfl,s,W,f⟩|⟨F,f⟩
   ·rw[ai (by omega)];have hu:us[j - off]? =some c.val:=by rw[<-a2,wt,f];rfl
    rw[<-hu];congr 1;omega
   ·rw[aq ?_]
    ·exact l2.2.1 k' j c f
    ·rintro⟨q1,q2⟩;rcases F with F|F
     ·rcases Nat.lt_or_gt_of_ne F with cI|Ir
      ·have:(k'+1)*l<=k*l:=By _ cI
       grind
      ·have:(k+1)*l<=k'*l:=By _ Ir
       grind
     ·have:k'=k:=by
       rcases zaX k' k with cI|iK|Ir
       ·have:(k'+1)*l<=k*l:=By _ cI;rw[Pe] at this;omega
       ·exact iK
       ·have:(k+1)*l<=k'*l:=By _ Ir
        grind
      subst this;omega
  ·rcases Z k' j c P with⟨_,_,_,f⟩|⟨_,f⟩
   ·exact(a3 c (co f)).1.congr fun b d x=>kv (fq b (E4 b (Xe _ c b f d))) x
   ·exact(l2.2.2 k' j c f).congr fun b d x=>kv (fq b (lQ b ⟨k',j,c,f,d⟩)) x
 have aeB:(G.g n).o+k*l+off+us.length<=cur.size:=jt;have lT:io cs=true->∀(i:Nat) (c:PC) (b:Nat),y[i]? =some c->¬bB b c:=by
  intro hs i c b D;have hc:c.er∈cs:=by rw[<-a1];exact zaa (co D)
  exact(Sep.kC (pc:=c) (If.1 hs _ hc)).2 b
 have hold:io mB=true->∀j c,off<=j->j<off+y.length->pe[j]? =some c->c.er.gI=true:=by
  intro hs j c s W Q;have:c.er∈mB:=by
   have h3:mB[j - off]? =some c.er:=by
    have e0:mB[j - off]? =((e.drop off).take vs.length)[j - off]? :=congrArg (fun q:List C=>q[j - off]?) s2;rw[e0,Kq (by omega),<-zU,wt,show off+(j - off)=j by omega,Q];rfl
   exact co h3
  exact If.1 hs _ this
 have K2:bU w ⟨Im',G.g⟩ σ1.h (fun n=>σ.used n=true) U ⟨Im',aN G.g n p'⟩ (aN σ1.h n (some (.row u z l (xs.set k (eP e off cs))))):=by
  refine⟨fun _ h=>h,fun b d x=>kv (fq b (E4 b d)) x,fun q v A=>?_,fun q I M J v A=>?_⟩
  ·by_cases H:q=n
   ·subst H;refine⟨cQ,?_⟩;simp only[dd];exact⟨bq.symm,rfl,rfl,rfl,rfl⟩
   ·rw[dP _ _ _ _ H] at A;simp only[dP _ _ _ _ H];exact⟨A,trivial,trivial,trivial,trivial,trivial⟩
  ·by_cases H:q=n
   ·subst H;rw[dd] at A;injection A with A;injection A with V e2 e3 e4;subst V;subst e2;subst e3;rcases ju with⟨hm,_,hs,xg,_⟩|⟨hm,t⟩
    ·subst hm;refine⟨⟨u,xs,rU⟩,fun k' j pc P hL=>?_⟩;simp only[dd];refine⟨pc,?_,rfl,hL⟩;obtain⟨V,S,Q⟩:=P;by_cases Fi:k'=k
     ·subst Fi;rw[xf] at S;injection S with S;subst S;refine⟨JC,List.getElem?_set_self rf,?_⟩;show(eP pe off y)[j]? =some pc;rw[Ec pW];rw[aq ?_]
      ·exact Q
      ·rintro⟨q1,q2⟩;have:=hold xg j pc q1 q2 Q;rw[PC.afi hL] at this;cases this
     ·exact⟨V,by show((G.g q).px.set k JC)[k']? =some V;rw[zaL (zaC Fi)];exact S,Q⟩
    ·cases ow
     ·simp at t
     grind
   ·rw[dP _ _ _ _ H] at A;simp only[dP _ _ _ _ H];exact⟨⟨I,J,A⟩,fun k j pc s W=>⟨pc,s,rfl,W⟩⟩
 have uw:∀b,fB w b->fB U b:=fun b d=>OJ hg jt b d;have Xc:z≠ .bh->(∀b,bK b px'->fB w b/\(B<=b\/E b))/\me px'/\(z=.bi->∀b,bK b px'->Im' b)/\(z=.live->∀b,bK b px'->bK b (G.g n).px)/\
   (∀q I Y M J,q≠n->σ1.h q=some (.row I Y M J)->Y≠ .bh->∀b,bK b px'->¬bK b (G.g q).px):=by
  intro kL;have K:=hr.mode;rcases ju with⟨rfl,rfl,hs,xg,_⟩|⟨hm,t⟩
  ·have iy:∀b,bK b px'->bK b (G.g n).px:=fun b d=>(pw b d).resolve_right (fun⟨i,c,D,d⟩=>lT hs i c b D d);refine⟨fun b d=>(K.1 b (iy b d)).2,⟨fun k' j c P=>?_,fun k1 j1 X k2 j2 O b s W F d=>?_⟩,(fun h=>by cases h),fun _=>iy,fun q I Y M J H v kM b d=>L.jE n q u .live l xs I Y M J rU v (by simp) kM (zaC H) b (iy b d)⟩
   ·rcases Z k' j c P with⟨_,_,_,f⟩|⟨_,f⟩
    ·exact Sep.Ca (fun b d=>lT hs _ c b f d) (a3 c (co f)).1
    ·exact K.2.1 k' j c f
   ·rcases Z k1 j1 X s with⟨_,_,_,f⟩|⟨_,f⟩
    ·exact absurd d (lT hs _ X b f)
    ·rcases Z k2 j2 O W with⟨_,_,_,T⟩|⟨_,T⟩
     ·exact lT hs _ O b T
     ·exact K.2.2 k1 j1 X k2 j2 O b f T F d
  ·cases ow
   ·simp at t;exact absurd t kL
   ·simp only[if_true] at t a4;subst t;have PZ:z=.bi:=by cases z<;>first|rfl|exact absurd rfl hm|exact absurd rfl kL
    subst PZ;refine⟨fun b d=>?_,⟨fun k' j c P=>?_,fun k1 j1 X k2 j2 O b s W F d=>?_⟩,fun _ b d=>?_,(fun h=>by cases h),fun q I Y M J H v kM b d=>?_⟩
    ·rcases pw b d with s|⟨i,c,D,s⟩
     ·exact(K.1 b s).2
     ·exact((a4.xK i c D).2 b s).2
    ·rcases Z k' j c P with⟨_,_,_,f⟩|⟨_,f⟩
     ·exact(a4.xK _ c f).1
     ·exact K.2.1 k' j c f
    ·rcases Z k1 j1 X s with⟨V,q1,q2,f⟩|⟨_,f⟩
     ·rcases Z k2 j2 O W with⟨e2,q3,q4,T⟩|⟨_,T⟩
      ·have lN:j1 - off≠j2 - off:=fun hh=>F (by rw[V,e2,show j1=j2 by omega]);exact a4.Ct _ _ X O b lN f T d
      ·exact fun bk=>a4.xL _ X n u .bi l xs b f rU (by simp) d ⟨k2,j2,O,T,bk⟩
     ·rcases Z k2 j2 O W with⟨e2,q3,q4,T⟩|⟨_,T⟩
      ·exact fun bk=>a4.xL _ O n u .bi l xs b T rU (by simp) bk ⟨k1,j1,X,f,d⟩
      ·exact K.2.2 k1 j1 X k2 j2 O b f T F d
    ·rcases pw b d with s|⟨i,c,D,s⟩
     ·exact(K.1 b s).1
     ·exact Xe i c b D s
    ·rcases pw b d with s|⟨i,c,D,s⟩
     ·exact L.jE n q u .bi l xs I Y M J rU v (by simp) kM (zaC H) b s
     ·exact a4.xL i c q I Y M J b D v kM s
 have Hn:HR B E U ⟨Im',aN G.g n p'⟩ (aN σ1.h n (some (.row u z l (xs.set k (eP e off cs))))) σ.used []:=by
  refine L.put (p:=p') (fun b d F=>fq b (F rfl)) (by show w.heap.size<=U.heap.size;rw[wH];exact zaj _) (fun b _ d=>uw b d) (fun _ h=>h) Dp
   (fun _=>⟨xd,vT,by show _<U.heap.size;rw[wH];exact yx⟩)
   (fun _ q v A kw=>(L.inj q n A cQ v kw bq)) (fun _ q I M J v A b d=>L.live q I M J A b d n cQ bq) (fun cs c q d=>by cases d) K2 ?_ ?_ ?_ (fun u m sz xs _ _ i pc b D=>by simp at D) ?_
  ·refine⟨hr.pos,?_,(fun hl=>by cases hl),fun _=>⟨uw _ l1,f9,by show((G.g n).px.set k JC).length<=_;simpa using l3⟩,fun _ Mz=>?_,?_,fun hg1 iL=>?_⟩
   ·show xs.set k (eP e off cs)=((G.g n).px.set k JC).map _;rw[List.map_set,<-hr.er];congr 1;show eP e off cs=(eP pe off y).map PC.er;rw[Ki,zU,a1]
   ·obtain⟨r2,nH,e',r3,r4⟩:=hr.room bq Mz;rw[hg] at r3;injection r3 with r3;injection r3 with r3 _ _;subst r3;obtain⟨Vm,X,O⟩:=KC (vs:=us) (o:=(G.g n).o+k*l+off) hg jt;exact⟨r2,Vm,et,X,by rw[O];exact r4⟩
   ·show Hd B E U ⟨Im',_⟩ px' z;by_cases kL:z=.bh
    ·rw[kL];intro b d;rcases pw b d with s|⟨i,c,D,s⟩
     ·have K:=hr.mode;rcases ju with⟨_,W,_⟩|⟨hm,_⟩
      ·rw[kL] at W;cases W
      ·cases m with
       |bh=>exact K b s
       |bi=>exact(K.1 b s).1
       |live=>exact absurd rfl hm
     ·exact Xe i c b D s
    ·obtain⟨o1,o2,o3,o4,o5⟩:=Xc kL;cases z with
     |bh=>exact absurd rfl kL
     |bi=>exact⟨fun b d=>⟨o3 rfl b d,uw b (o1 b d).1,(o1 b d).2⟩,o2⟩
     |live=>
      refine⟨fun b d=>⟨?_,uw b (o1 b d).1,(o1 b d).2⟩,o2⟩;have K:=hr.mode;rcases ju with⟨hm,_,_⟩|⟨hm,t⟩
      ·subst hm;exact(K.1 b (o4 rfl b d)).1
      ·cases ow
       ·simp at t
       ·simp at t;exact absurd t.symm hm
   ·rcases ju with⟨_,_,_,_,hg2⟩|⟨hm,t⟩
    ·simp_all
    ·rw[iL] at t;cases ow
     ·simp at t
     ·simp at t;exact absurd t.symm hm
  ·intro I m2 M J d kL q Ie Y mC ko H v kM b dV;injection d with _ d _ _;subst d;exact(Xc kL).2.2.2.2 q Ie Y mC ko H v kM b dV
  ·intro I M J d b dV;injection d with _ d _ _;subst d;have iy:=(Xc (by simp)).2.2.2.1 rfl b dV;have hm:m=.live:=by
    rcases ju with⟨hm,_,_⟩|⟨hm,t⟩
    ·exact hm
    ·cases ow
     ·simp at t
     ·simp at t;exact absurd t.symm hm
   subst hm;exact⟨fun _=>L.live n u l xs rU b iy n cQ bq,fun q H v MN=>L.live n u l xs rU b iy q v MN⟩
  ·intro _ _ b d;obtain⟨q,I,Y,M,J,v,A,dV⟩:=d;exact L.vI cQ bq A dV
 refine⟨⟨Im',aN G.g n p'⟩,?_⟩;exact r.step (σ':=σ1.fQ n (.row u z l (xs.set k (eP e off cs)))) a6 (fun q v=>by show σ1.used q=true;rw[a7];exact v)
  (bU.trans (u2:=fun n=>σ.used n=true) (fun _ h=>h) a5 K2) (by show HR B E U _ (aN σ1.h n _) σ1.used [];rw[a7];exact Hn) (r.fr.one vT (fun b d F=>fq b F) (by show w.heap.size<=U.heap.size;rw[wH];exact zaj _) (GN hg jt) rfl rfl rfl)
theorem RA.c {x:C} {v:Value} (a:RA w G h (.one (.c x)) v):∃pc:PC,pc.er=x/\pc.val=v/\Good w pc/\∀b,bB b pc->G.Im b:=(a.il (by simp)).1
theorem RA.IX {k:IntKind} {n:Int} {v:Value} (d:RA w G h (.one (.c (.int k n))) v):v=.int k n:=by obtain⟨pc,a,b,_⟩:=d.c;cases pc<;>simp[PC.er] at a;obtain⟨rfl,rfl⟩:=a;exact b.symm
theorem RA.Hu {b:Bool} {v:Value} (e:RA w G h (.one (.c (.bool b))) v):v=.bool b:=by obtain⟨pc,a,d,_⟩:=e.c;cases pc<;>simp[PC.er] at a;subst a;exact d.symm
theorem RA.of_int (k:IntKind) (n:Int):RA w G h (.one (.c (.int k n))) (.int k n):=RA.iB rfl ⟨.int k n,rfl,rfl,.int _ _,fun b a=>by cases a⟩
theorem RA.of_bool (b:Bool):RA w G h (.one (.c (.bool b))) (.bool b):=RA.iB rfl ⟨.bool b,rfl,rfl,.bool _,fun b a=>by cases a⟩
theorem uS {x:C} {m:Nat}:¬(aw.one (.c x)).ref m:=fun h=>h
theorem mN (r:R B E w0 N σ a w G) {x:aw} {v:Value} (d:(execOp a.eval o).run P w=.ok (.value v) w) (b:RA w G σ.h x v) (hr:∀m,x.ref m->σ.used m=true) (c:∀n,o.dst=some n->n<N): o.wp P a w (Nx B E w0 N (σ.put o.dst x)) Q:=sE d ⟨G,r.put b hr c⟩
theorem acH (r:R B E w0 N σ a w G) {x:Operand} {m:MO} (b:o.op=.move x\/o.op=.assign x) (e:∀n,o.dst=some n->n<N) (hm:cX x m=true): o.wp P a w (Nx B E w0 N (σ.put o.dst (σ.ev m))) Q:=by obtain⟨d,c⟩:=r.ev hm;refine mN r ?_ d c e;rcases b with b|b<;>simp[execOp,b]
theorem amo (r:R B E w0 N σ a w G) {c x y:Operand} {d mx my:MO} {b:Bool} (f:o.op=.pick c x y) (g:∀n,o.dst=some n->n<N) (j:cX c d=true) (hx:cX x mx=true) (hy:cX y my=true)
  (h:σ.ev d=.one (.c (.bool b))):o.wp P a w (Nx B E w0 N (σ.put o.dst (if b=true then σ.ev mx else σ.ev my))) Q:=by
 obtain⟨e,_⟩:=r.ev j;rw[h] at e;have i:=e.Hu;obtain⟨x1,x2⟩:=r.ev hx;obtain⟨y1,y2⟩:=r.ev hy;refine mN r (v:=if b=true then a.eval x else a.eval y) ?_ ?_ ?_ g
 ·simp only[execOp,f,i,asBool];cases b<;>simp
 ·grind
 grind
theorem aup {op:BinOp} {k:IntKind} {n m:Int} {c:C} {t:TypeId} (b:BinOp.FK op=false) (hx:Hs op k n m=some c):∃v,(binOp op t (.int k n) (.int k m)).run P w=.ok v w/\RA w G h (.one (.c c)) v:=by cases op with|add=>injection hx with hx;subst hx;exact⟨_,by simp[binOp,Op.intArith],RA.of_int _ _⟩|sub=>injection hx with hx;subst hx;exact⟨_,by simp[binOp,Op.intArith],RA.of_int _ _⟩|mul=>injection hx with hx;subst hx;exact⟨_,by simp[binOp,Op.intArith],RA.of_int _ _⟩|and=>injection hx with hx;subst hx;exact⟨_,by simp[binOp,intBits_and],RA.of_int _ _⟩|or=>injection hx with hx;subst hx;exact⟨_,by simp[binOp,intBits_or],RA.of_int _ _⟩|xor=>injection hx with hx;subst hx;exact⟨_,by simp[binOp,intBits_xor],RA.of_int _ _⟩|eql=>injection hx with hx;subst hx;exact⟨_,by simp[binOp,Op.intCmp],RA.of_bool _⟩|neq=>injection hx with hx;subst hx;exact⟨_,by simp[binOp,Op.intCmp],RA.of_bool _⟩|lss=>injection hx with hx;subst hx;exact⟨_,by simp[binOp,Op.intCmp],RA.of_bool _⟩|leq=>injection hx with hx;subst hx;exact⟨_,by simp[binOp,Op.intCmp],RA.of_bool _⟩|gtr=>injection hx with hx;subst hx;exact⟨_,by simp[binOp,Op.intCmp],RA.of_bool _⟩|geq=>injection hx with hx;subst hx;exact⟨_,by simp[binOp,Op.intCmp],RA.of_bool _⟩|quo=>simp only[Hs] at hx;split at hx;cases hx;rename_i a;injection hx with hx;subst hx;exact⟨_,by simp[binOp,Op.intDiv,a],RA.of_int _ _⟩|rem=>simp only[Hs] at hx;split at hx;cases hx;rename_i a;injection hx with hx;subst hx;exact⟨_,by simp[binOp,Op.intDiv,a],RA.of_int _ _⟩|shl=>simp[BinOp.FK] at b|shr=>simp[BinOp.FK] at b|andNot=>cases hx
theorem auv {op:BinOp} {k k':IntKind} {n m:Int} {c:C} {t:TypeId} (b:BinOp.FK op=true) (hx:J8 op k n m=some c):∃v,(binOp op t (.int k n) (.int k' m)).run P w=.ok v w/\RA w G h (.one (.c c)) v:=by unfold J8 at hx;split at hx;cases hx;rename_i a;cases op<;>simp[BinOp.FK] at b;injection hx with hx;subst hx;exact⟨_,by simp[binOp,Op.shift,a],RA.of_int _ _⟩;injection hx with hx;subst hx;have d:(0:Int)<=2^min m.toNat k.bits:=Int.le_of_lt (Int.pow_pos (by decide));exact⟨_,by simp[binOp,Op.shift,a,Int.fdiv_eq_ediv_of_nonneg _ d],RA.of_int _ _⟩
theorem ahx (op:BinOp) (t:TypeId) (x y:Operand) (k k':IntKind) (n m:Int):(eqGuard op t x y (.int k n) (.int k' m)).run P w=.ok () w:=by cases op<;>simp[eqGuard]
theorem ahw (op:BinOp) (t:TypeId) (x y:Operand) (n m:Bool):(eqGuard op t x y (.bool n) (.bool m)).run P w=.ok () w:=by cases op<;>simp[eqGuard]
theorem alS (r:R B E w0 N σ a w G) {op:BinOp} {t t':TypeId} {x y:Operand} {mx my:MO} {c:C} (i:o.op=.binOp op t x y t') (j:∀n,o.dst=some n->n<N) (hx:cX x mx=true) (hy:cX y my=true) (b:CU op (σ.ev mx) (σ.ev my)=some c):o.wp P a w (Nx B E w0 N (σ.put o.dst (.one (.c c)))) Q:=by obtain⟨l,_⟩:=r.ev hx;obtain⟨p,_⟩:=r.ev hy;unfold CU at b;split at b;rename_i k n k' m z A;rw[z] at l;rw[A] at p;have s:=l.IX;have u:=p.IX;split at b;rename_i e;obtain⟨v,d,f⟩:=auv (P:=P) (w:=w) (G:=G) (h:=σ.h) (k':=k') (t:=t) e b;exact mN r (by simp only[execOp,i,s,u];simp[ahx,d]) f (fun q g=>absurd g uS) j;rename_i e;split at b;rename_i D;subst D;obtain⟨v,d,f⟩:=aup (P:=P) (w:=w) (G:=G) (h:=σ.h) (t:=t) (by simpa using e) b;exact mN r (by simp only[execOp,i,s,u];simp[ahx,d]) f (fun q g=>absurd g uS) j;cases b;cases b
theorem alT (r:R B E w0 N σ a w G) {op:BinOp} {t t':TypeId} {x y:Operand} {mx my:MO} {c:C} (e:o.op=.binOp op t x y t') (f:∀n,o.dst=some n->n<N) (hx:cX x mx=true) (hy:cX y my=true) (s:P.underlying t=some .bool) (b:Hr op (σ.ev mx) (σ.ev my)=some c):o.wp P a w (Nx B E w0 N (σ.put o.dst (.one (.c c)))) Q:=by obtain⟨g,_⟩:=r.ev hx;obtain⟨i,_⟩:=r.ev hy;unfold Hr at b;split at b;rename_i n m l p;rw[l] at g;rw[p] at i;have j:=g.Hu;have k:=i.Hu;have h:(Op.equal t (.bool n) (.bool m)).run P w=.ok (n==m) w:=run_equal_bool w t n m s;split at b;injection b with b;subst b;exact mN r (by simp only[execOp,e,j,k];simp[ahw,binOp,h]) (RA.of_bool _) (fun q d=>absurd d uS) f;injection b with b;subst b;exact mN r (by simp only[execOp,e,j,k];simp[ahw,binOp,h,bne]) (RA.of_bool _) (fun q d=>absurd d uS) f;cases b;cases b
theorem amu (r:R B E w0 N σ a w G) {op:UnOp} {t:TypeId} {x:Operand} {mx:MO} {c:C} (h:o.op=.unOp op t x) (i:∀n,o.dst=some n->n<N) (hx:cX x mx=true) (b:Kz op (σ.ev mx)=some c):o.wp P a w (Nx B E w0 N (σ.put o.dst (.one (.c c)))) Q:=by obtain⟨d,_⟩:=r.ev hx;unfold Kz at b;split at b;rename_i n f;rw[f] at d;have e:=d.Hu;split at b;injection b with b;subst b;exact mN r (by simp only[execOp,h,e];simp[Op.unary]) (RA.of_bool _) (fun q g=>absurd g uS) i;cases b;rename_i k n f;rw[f] at d;have e:=d.IX;split at b;injection b with b;subst b;exact mN r (by simp only[execOp,h,e];simp[Op.unary,Op.intArith]) (RA.of_int _ _) (fun q g=>absurd g uS) i;cases b;cases b
theorem al4 (r:R B E w0 N σ a w G) {t u:TypeId} {x:Operand} {mx:MO} {k k':IntKind} {n:Int} {d:TypeDesc} (e:o.op=.convert t u x) (f:∀n,o.dst=some n->n<N) (hx:cX x mx=true) (i:P.underlying t=some d) (j:P.underlying u=some (.int k)) (g:σ.ev mx=.one (.c (.int k' n))):o.wp P a w (Nx B E w0 N (σ.put o.dst (.one (.c (.int k (k.wrap n)))))) Q:=by obtain⟨b,_⟩:=r.ev hx;rw[g] at b;have h:=b.IX;refine mN r ?_ (RA.of_int _ _) (fun q l=>absurd l uS) f;simp only[execOp,e,h];cases d<;>simp[convert,run_underlying i,run_underlying j,Conv.intToInt]
def Ls (P:Program) (s:TypeId) (f off:Nat):Bool:=
 match P.underlying s with
 |some (.struct C9)=>match C9[f]? with
  |some fd=>(fd.offset==off)&&(match P.info? fd.type with|some i=>i.size !=0|none=>false)
  |none=>false
 |_=>false
theorem JV {s:TypeId} {f off:Nat} (a:Ls P s f off=true) (b o:Nat):(Instr.fieldAt s (.pointer (some (ad b o))) f).run P w=.ok (.pointer (some (ad b (o+off)))) w:=by unfold Ls at a;split at a;rename_i C9 e;split at a;rename_i fd c;split at a;rename_i i g;simp at a;obtain⟨rfl,d⟩:=a;simp[Instr.fieldAt,run_underlying e,c,Instr.sureAddr,fieldPlace,sizeOf,typeInfo,g,d,vn];simp at a;cases a;cases a
theorem VF (r:R B E w0 N σ a w G) {s:TypeId} {f off:Nat} {x:Operand} {mx:MO} {y:aw} (p:o.op=.fieldAddr s x f) (t:∀n,o.dst=some n->n<N) (hx:cX x mx=true) (u:Ls P s f off=true) (hy:(∃n k sz q,σ.ev mx=.one (.ptr n k sz q)/\(σ.h n).isSome=true/\y=.one (.ptr n k sz (q+off)))\/(∃xs q,σ.ev mx=.one (.ez xs q)/\y=.one (.ez xs (q+off)))\/(∃xs q j n s len,σ.ev mx=.one (.dE xs q j n s len)/\y=.one (.dE xs (q+off) j n s len))): o.wp P a w (Nx B E w0 N (σ.put o.dst y)) Q:=by obtain⟨c,i⟩:=r.ev hx;rcases hy with⟨n,k,sz,q,d,A,rfl⟩|⟨xs,q,d,rfl⟩|⟨xs,q,j,n,s',len,d,rfl⟩;rw[d] at c i;have C:σ.h n≠none:=(by intro hh;rw[hh] at A;cases A);obtain⟨D,F⟩:=(c.il (by simp)).1 C;refine mN r (v:=.pointer (some (ad (G.g n).b ((G.g n).o+k*sz+q+off)))) ?_ ?_ (fun m hm=>i m hm) t;simp only[execOp,p,F];simp[JV u];exact RA.iB rfl fun _=>⟨D,by rw[OF]⟩;rw[d] at c;obtain⟨b,e,pe,p1,l,z,p4⟩:=(c.il (by simp)).1;refine mN r (v:=.pointer (some (ad b (e+q+off)))) ?_ ?_ (fun m hm=>absurd hm (by simp[aw.ref,ao.ref,ao.kE])) t;simp only[execOp,p,p1];simp[JV u];exact RA.iB rfl ⟨b,e,pe,by rw[OF],l,z,p4⟩;rw[d] at c i;obtain⟨b,e,pe,p1,l,z,p4,H⟩:=(c.il (by simp)).1;refine mN r (v:=.pointer (some (ad b (e+q+off)))) ?_ ?_ (fun m hm=>i m hm) t;simp only[execOp,p,p1];simp[JV u];exact RA.iB rfl ⟨b,e,pe,by rw[OF],l,z,p4,H⟩
theorem VH (r:R B E w0 N σ a w G) {x:Operand} {mx:MO} (g:o.op=.nilCheck x) (i:∀n,o.dst=some n->n<N) (hx:cX x mx=true) (hy:(∃n k sz q,σ.ev mx=.one (.ptr n k sz q)/\(σ.h n).isSome=true)\/(∃xs q,σ.ev mx=.one (.ez xs q))\/(∃xs q j n s len,σ.ev mx=.one (.dE xs q j n s len))): o.wp P a w (Nx B E w0 N (σ.put o.dst (σ.ev mx))) Q:=by obtain⟨c,l⟩:=r.ev hx;have e:∃ad,a.eval x=.pointer (some ad):=(by rcases hy with⟨n,k,sz,q,d,f⟩|⟨xs,q,d⟩|⟨xs,q,j,n,s',len,d⟩;rw[d] at c;have e:σ.h n≠none:=(by intro hh;rw[hh] at f;cases f);exact⟨_,((c.il (by simp)).1 e).2⟩;rw[d] at c;obtain⟨b,m,pe,p1,_⟩:=(c.il (by simp)).1;simp_all;rw[d] at c;obtain⟨b,m,pe,p1,_⟩:=(c.il (by simp)).1;simp_all);obtain⟨adr,e⟩:=e;exact mN r (v:=a.eval x) (by simp only[execOp,g,e];simp) c l i
theorem amd (r:R B E w0 N σ a w G) {x:Operand} {mx:MO} {i:Nat} {xs:List (Bool×List ao)} {ag:Bool} {cs:List ao} (k:o.op=.extract x i) (l:∀n,o.dst=some n->n<N) (hx:cX x mx=true) (t:σ.ev mx=.cT xs) (d:xs[i]? =some (ag,cs)) (g:ag=false->∃c,cs=[c]):o.wp P a w (Nx B E w0 N (σ.put o.dst (wF ag cs))) Q:=by obtain⟨h,f⟩:=r.ev hx;rw[t] at h f;obtain⟨vs,e,hl,p⟩:=h;have j:i<vs.length:=(by rw[hl];exact(AI.1 d).1);have q:vs[i]? =some vs[i]:=AN j;have b:=p i _ _ d q;refine mN r (v:=vs[i]) ?_ ?_ (fun m hm=>?_) l;simp only[execOp,k,e];simp[Instr.extract,j];cases ag;obtain⟨c,rfl⟩:=g rfl;exact .inr b;exact b;cases ag;obtain⟨c,rfl⟩:=g rfl;exact f m ⟨_,co d,c,by simp,hm⟩;obtain⟨c,s,hm⟩:=hm;exact f m ⟨_,co d,c,s,hm⟩
theorem ami (r:R B E w0 N σ a w G) {mx':Bool} {x y:Operand} {mx my:MO} {k k':IntKind} {n m:Int} {ts:Array TypeId} (b:o.op=.call {callee:=.builtin (if mx'=true then .max else .min),args:=#[x,y],argTypes:=ts}) (h:∀n,o.dst=some n->n<N) (hx:cX x mx=true) (hy:cX y my=true) (i:σ.ev mx=.one (.c (.int k n))) (j:σ.ev my=.one (.c (.int k' m))): o.wp P a w (Nx B E w0 N (σ.put o.dst (.one (.c (.int k (if mx'=true then(if n<m then m else n) else(if m<n then m else n))))))) Q:=by obtain⟨d,_⟩:=r.ev hx;obtain⟨e,_⟩:=r.ev hy;rw[i] at d;rw[j] at e;have f:=d.IX;have g:=e.IX;refine mN r ?_ (RA.of_int _ _) (fun q l=>absurd l uS) h;cases mx';simp[execOp,b,resolve,invoke,builtin,Builtin.min_,f,g,Builtin.min2];simp[execOp,b,resolve,invoke,builtin,Builtin.max_,f,g,Builtin.max2]
end
theorem wO {α:Type} {px py:List (List α)} {k j:Nat} {c:α} (h:At (px++py) k j c):(k<px.length/\At px k j c)\/(px.length<=k/\At py (k - px.length) j c):=by obtain⟨e,b,d⟩:=h;rcases za7 k px.length with a|a;rw[GB a] at b;exact .inl ⟨a,e,b,d⟩;rw[BY a] at b;exact .inr ⟨a,e,b,d⟩
theorem Cj {b:Nat} {px py:List (List PC)} (h:bK b (px++py)):bK b px\/bK b py:=by obtain⟨k,j,c,e,d⟩:=h;rcases wO e with⟨_,a⟩|⟨_,a⟩;exact .inl ⟨_,_,_,a,d⟩;exact .inr ⟨_,_,_,a,d⟩
theorem RD {px py:List (List PC)} (l:me px) (m:me py) (g:∀b,bK b px->¬bK b py):me (px++py):=by refine⟨fun k j c f=>?_,fun k j c k' j' c' b f n i d a=>?_⟩;rcases wO f with⟨_,h⟩|⟨_,h⟩;exact l.1 _ _ _ h;exact m.1 _ _ _ h;rcases wO f with⟨q,h⟩|⟨q,h⟩<;>rcases wO n with⟨o,h'⟩|⟨o,h'⟩;exact l.2 _ _ _ _ _ _ b h h' i d a;exact g b ⟨_,_,_,h,d⟩ ⟨_,_,_,h',a⟩;exact g b ⟨_,_,_,h',a⟩ ⟨_,_,_,h,d⟩;refine m.2 _ _ _ _ _ _ b h h' (fun e=>i ?_) d a;grind
section
variable {B N:Nat} {E:Ex} {w0 w w':World} {G G':Gh} {h h':Nat->Option aV} {used used':Nat->Bool} {tk:List PC} {P:Program} {o:Oper} {a:Act} {σ σ':St} {Q:Exit->Act->World->Prop}
theorem AA {py:List (List PC)} (a:gU (py.map fun e=>e.map PC.er)=true) (b:Nat):¬bK b py:=by rintro⟨k,j,c,⟨e,m,g⟩,l⟩;have h:e.map PC.er∈py.map fun e=>e.map PC.er:=zaa (f:=fun e=>e.map PC.er) (co m);have d:=If.1 a _ h;have i:=If.1 d c.er (zaa (co g));exact(Sep.kC (pc:=c) i).2 b l
theorem ahK {py:List (List PC)} (a:gU (py.map fun e=>e.map PC.er)=true) (k j:Nat) (c:PC) (b:At py k j c):t7 w c:=by obtain⟨e,h,g⟩:=b;have d:=If.1 a _ (zaa (f:=fun e=>e.map PC.er) (co h));exact t7.kC (If.1 d c.er (zaa (co g)))
structure ql (B:Nat) (E:Ex) (w:World) (G:Gh) (h:Nat->Option aV) (sz:Nat) (m:Mode) (px:List (List PC)):Prop where
 len:∀e∈px,e.length=sz
 fm:∀k j c,At px k j c->Good w c
 mode:Hd B E w G px m
 jE:m≠ .bh->∀n gr m' bf aM,h n=some (.row gr m' bf aM)->m'≠ .bh->∀b,bK b px->¬bK b (G.g n).px
 live:m=.live->∀b,bK b px->∀n,h n≠none->(G.g n).nl=false->b≠(G.g n).b
 nr:m=.live->t8 w sz px
theorem ql.abw {m:Mode} {sz:Nat} {px py:List (List PC)} (F:ql B E w G h sz m px) (hl:∀e∈py,e.length=sz) (q:∀k j c,At py k j c->Good w c) (g:∀b,¬bK b py) (t:∀k j c,At py k j c->t7 w c):ql B E w G h sz m (px++py):=by have f:∀b,bK b (px++py)->bK b px:=fun b a=>(Cj a).resolve_right (g b);refine⟨fun e o=>(zad.1 o).elim (F.len e) (hl e),fun k j c d=>?_,?_,fun hm n l u r s hn p b a=>F.jE hm n l u r s hn p b (f b a),fun hm b a=>F.live hm b (f b a),fun hm k c d=>(wO d).elim (fun h=>F.nr hm _ _ h.2) (fun h=>t _ _ _ h.2)⟩;rcases wO d with⟨_,h⟩|⟨_,h⟩;exact F.fm _ _ _ h;grind;have i:me py:=⟨fun k j c d=>Sep.Ca (fun b a=>g b ⟨k,j,c,d,a⟩) (q k j c d),fun k j c k' j' c' b d _ _ a=>absurd ⟨k,j,c,d,a⟩ (g b)⟩;have hm:=F.mode;cases m with|bh=>exact fun b a=>hm b (f b a)|bi=>exact⟨fun b a=>hm.1 b (f b a),RD hm.2 i (fun b _=>g b)⟩|live=>exact⟨fun b a=>hm.1 b (f b a),RD hm.2 i (fun b _=>g b)⟩
theorem ql.Q1 (H:HR B E w G h used []) {n:Nat} {a:Bool} {m:Mode} {sz:Nat} {xs:List (List C)} (hn:h n=some (.row a m sz xs)) (u:m=.live->a=true):ql B E w G (aN h n none) sz m (G.g n).px:=by have hr:=H.row n a m sz xs hn;have s:(G.g n).px≠[]->(G.g n).nl=false:=fun o=>(by cases d:(G.g n).nl with|false=>rfl|true=>exact absurd (hr.nl d).1 o);refine⟨fun e f=>(hr.f6 (s (zaU f))).2.1.1 e f,fun k j c r=>?_,hr.mode,fun hm q t z x y d v b l=>?_,fun hm b l q d hl=>?_,fun hm=>hr.nr (u hm) hm⟩;have o:(G.g n).px≠[]:=(by obtain⟨e,f,_⟩:=r;exact zaU (co f));exact(hr.f6 (s o)).2.1.2.2 k j c r;obtain⟨i,p⟩:=rL d;exact H.jE n q a m sz xs t z x y hn i hm v (zaC p) b l;subst hm;obtain⟨i,p⟩:=Bh d;exact H.live n a sz xs hn b l q i hl
theorem ql.del {m:Mode} {sz:Nat} {px:List (List PC)} (F:ql B E w G h sz m px) (n:Nat):ql B E w G (aN h n none) sz m px:= ⟨F.len,F.fm,F.mode,fun hm q d e i g a f=>F.jE hm q d e i g (rL a).1 f,fun hm b c q a=>F.live hm b c q (Bh a).1,F.nr⟩
theorem ql.aaG {m:Mode} {sz:Nat} {px:List (List PC)} (F:ql B E w G h sz m px) (hm:m≠ .live):∀b,bK b px->G.Im b:=by intro b a;have:=F.mode;cases m with|bh=>exact this b a|bi=>exact(this.1 b a).1|live=>simp_all
def CJ (B:Nat) (E:Ex) (w:World) (G:Gh) (h:Nat->Option aV) (sz:Nat) (m:Mode) (px:List (List PC)) (v:Value):Prop:=
 (∃a,v=.slice a 0 0/\px=[])\/
 ∃b o cap cur e,v=.slice (some (ad b o)) px.length cap/\w.heap[b]? =some (.cells cur e (0,0))/\cur.size=o+cap*sz/\cap<=maxLen/\px.length<=cap/\rI w b o sz px/\
  sG G h b/\(B<=b\/E b)/\(∀b',bK b' px->b'≠b)
theorem CJ.del {m:Mode} {sz:Nat} {px:List (List PC)} {v:Value} (L:CJ B E w G h sz m px v) (n:Nat):CJ B E w G (aN h n none) sz m px v:=by rcases L with j|⟨b,o,cap,cur,e,l,f,r,i,p,g,⟨l1,l2,c⟩,k,s⟩;exact .inl j;exact .inr ⟨b,o,cap,cur,e,l,f,r,i,p,g,⟨l1,fun q a=>l2 q (Bh a).1,fun q d m sz xs a=>c q d m sz xs (rL a).1⟩,k,s⟩
theorem LU {px:List (List PC)} {sz:Nat} (hl:∀e∈px,e.length=sz):(px.flatten.map PC.val).length=px.length*sz:=by induction px with|nil=>simp|cons e px ih=>grind
theorem VQ {α:Type} {sz:Nat} (f:0<sz):∀{px:List (List α)} (_:∀e∈px,e.length=sz) {i:Nat} {c:α},px.flatten[i]? =some c->∃k j,At px k j c/\i=k*sz+j
 |[],_,i,c,hi=>by simp at hi
 |e::px,hl,i,c,hi=>by have h0:=hl e (by simp);simp only[zal] at hi;rcases za7 i e.length with b|g;rw[GB b] at hi;exact⟨0,i,⟨e,rfl,hi⟩,by omega⟩;rw[BY g] at hi;obtain⟨k,j,⟨h,a,d⟩,hk⟩:=VQ f (px:=px) (fun e a=>hl e (by simp[a])) hi;exact⟨k+1,j,⟨h,by simpa using a,d⟩,by grind⟩
theorem auo {t ty e k:TypeId} {i:TypeInfo} (v:P.underlying t=some (.slice e)) (p:P.info? e=some i) (g d b h:Nat) (cur:Array Value) (q:w.heap[g]? =some (.cells cur k (0,0))) (a:Addr) (m c:Nat) (f:List Value) (hl:f.length=m*i.size) (r:∀j u,f[j]? =some u->w.cell? (a.add j)=some u) (o:∀u∈f,u.oneCell'=true) (n:b+m<=h) (jt:d+b*i.size+f.length<=cur.size): (Builtin.append_ #[t,t] ty #[.slice (some (ad g d)) b h,.slice (some a) m c]).run P w=.ok (.slice (some (ad g d)) (b+m) h) (jq w g (d+b*i.size) f cur):=by have s:=run_firstCells_some (P:=P) w i.size m a m c f hl r;have l:=run_storeCells_at P g (d+b*i.size) k f 0 cur w q (by omega) o;simp only[zax] at l;have x:(ad g d).add (b*i.size)=⟨g,d+b*i.size,none⟩:=(by rw[vn];simp[ad]);simp[Builtin.append_,run_underlying v,sizeOf,typeInfo,p,Builtin.lenOf,n,s,x,l,jq]
theorem ahu (w:World) {t e:TypeId} {i:TypeInfo} {z:Value} {ty:TypeId} {sz ew:Nat} (p:P.underlying t=some (.slice e)) (n:P.info? e=some i) (D:i.zero=some z) (dn:i.size=sz) (S:0<sz) (w4:i.bytes=ew) (Bt:0<ew) {m:Mode} {px:List (List PC)} {v:Value} (O:∀e∈px,e.length=sz) (L:CJ B E w G h sz m px v) {d:List Value} {k c:Nat} {ya:Option Addr} (Q:d.length=k*sz) (hy:(ya=none/\k=0)\/∃l,ya=some l/\∀(j:Nat) (u:Value),d[j]? =some u->w.cell? (l.add j)=some u) (h1:∀u∈d,u.oneCell'=true) (U:(px.length+k)*ew<=fe): (∃a,k=0/\v=.slice a 0 0/\px=[]/\(Builtin.append_ #[t,t] ty #[v,.slice ya k c]).run P w=.ok (.slice a 0 0) w)\/ (∃b o cap cur x,v=.slice (some (ad b o)) px.length cap/\w.heap[b]? =some (.cells cur x (0,0))/\cur.size=o+cap*sz/\cap<=maxLen/\px.length+k<=cap/\rI w b o sz px/\sG G h b/\(B<=b\/E b)/\(∀M,bK M px->M≠b)/\ (Builtin.append_ #[t,t] ty #[v,.slice ya k c]).run P w=.ok (.slice (some (ad b o)) (px.length+k) cap) (jq w b (o+px.length*sz) d cur))\/ (∃(cap:Nat) (arr:Array Value),px.length+k<=cap/\cap<=maxLen/\arr.size=cap*z.cells.size+(px.length+k)*sz - (px.length+k)*z.cells.size/\(∀(q:Nat) (u:Value),(px.flatten.map PC.val++d)[q]? =some u->arr[q]? =some u)/\ (Builtin.append_ #[t,t] ty #[v,.slice ya k c]).run P w=.ok (.slice (some (ad w.heap.size 0)) (px.length+k) cap) (w.drew.alloc (.cells arr e))):=by have Iw:px.length+k<=fe:=zam (zak _ Bt) U;have kL:(fe:Nat)=140737488355328:=rfl;have I:∀f,grownCap w (px.length+k) f e<=maxLen:=fun f=>grownCap_le_maxLen w _ f e (by simp only[maxLen];omega);have C:=LU O;have K:∀f,((px.flatten.map PC.val).toArray++d.toArray++Builtin.zeroCells z.cells (grownCap w (px.length+k) f e - (px.length+k))).size=grownCap w (px.length+k) f e*z.cells.size+(px.length+k)*sz - (px.length+k)*z.cells.size:=(by intro f;have Y:=grownCap_ge w (px.length+k) f e;have h2:(px.length+k)*z.cells.size<=grownCap w (px.length+k) f e*z.cells.size:=By _ Y;simp only[zaY,zaz,size_zeroCells,C,Q,Nat.sub_mul,Pe] at*;omega);have J:∀f (q:Nat) (u:Value),(px.flatten.map PC.val++d)[q]? =some u->((px.flatten.map PC.val).toArray++d.toArray++Builtin.zeroCells z.cells (grownCap w (px.length+k) f e - (px.length+k)))[q]? =some u:=(by intro f q u g;have V:=(AI.1 g).1;rw[Array.getElem?_append_left (by simp only[zaY,zaz];simpa using V)];simpa using g);rcases L with⟨a,rfl,rfl⟩|⟨b,o,cap,cur,x,rfl,A,R,a4,a5,N,W,a8,a9⟩;by_cases hk:k=0;subst hk;left;have hn:d=[]:=AT (by omega);refine⟨a,rfl,rfl,rfl,?_⟩;cases ya<;>cases a<;>simp[Builtin.append_,run_underlying p,sizeOf,typeInfo,n,Builtin.lenOf,Builtin.firstCells,loadCells,loadCellsFrom,storeCells];rcases hy with⟨_,h0⟩|⟨l,rfl,r⟩;omega;right;right;(cases a with|none=>have hr:=run_append_nil (P:=P) w t ty e i z p n D l k c d (by simp_all) r (by omega) (by omega) (by grind);have H:=K 0;have y:=J 0;have s:=I 0;simp only[zaH,zac,za1,zaI,zag] at H y s⊢;exact⟨grownCap w k 0 e,d.toArray++Builtin.zeroCells z.cells (grownCap w k 0 e - k),grownCap_ge w k 0 e,s,by grind,fun q u g=>by grind,hr⟩|some a=>have hr:=run_append_grow (P:=P) w t ty e i z p n D a 0 0 [] (by simp) (fun q u g=>by simp at g) l k c d (by simp_all) r (by omega) (by omega) (growslice_fits (by omega) (by simp_all));have H:=K 0;have y:=J 0;have s:=I 0;simp only[zaH,zac,za1,zaI,zag] at H y s hr⊢;exact⟨_,_,grownCap_ge w k 0 e,s,by omega,fun q u g=>by grind,hr⟩);by_cases F:px.length+k<=cap;right;left;refine⟨b,o,cap,cur,x,rfl,A,R,a4,F,N,W,a8,a9,?_⟩;rcases hy with⟨rfl,rfl⟩|⟨l,rfl,r⟩;have hn:d=[]:=AT (by omega);subst hn;have X:jq w b (o+px.length*sz) [] cur=w:=(by unfold jq;simp only[List.append_nil,zaH,zax,List.take_append_drop,Array.toArray_toList];exact setRow_self w b cur x (0,0) A);rw[X];simp[Builtin.append_,run_underlying p,sizeOf,typeInfo,n,Builtin.lenOf,Builtin.firstCells,a5,storeCells];have hr:=auo (P:=P) (w:=w) (ty:=ty) p n b o px.length cap cur A l k c d (by grind) r h1 F (by rw[dn,Q,R,OF,<-Pe];exact zaP (By _ F) _);grind;rcases hy with⟨_,rfl⟩|⟨l,rfl,r⟩;omega;right;right;have hr:=run_append_grow (P:=P) w t ty e i z p n D (ad b o) px.length cap (px.flatten.map PC.val) (by grind) (fun q u g=>by rw[wt] at g;cases hf:px.flatten[q]? with|none=>grind|some pc=>rw[hf] at g;simp at g;subst g;obtain⟨k',Z,T,rfl⟩:=VQ S O hf;rw[vn,<-OF];exact N.2.1 k' Z pc T) l k c d (by grind) r (by omega) (by omega) (growslice_fits (by omega) (by grind));exact⟨_,_,grownCap_ge w _ _ _,I _,K _,J _,hr⟩
def zm (w:World) (sz:Nat) (py:List (List PC)) (v:Value):Prop:=
 (∀e∈py,e.length=sz)/\(∀k j c,At py k j c->Good w c)/\
 ∃ya c,v=.slice ya py.length c/\((ya=none/\py.length=0)\/∃ay,ya=some ay/\∀(j:Nat) (u:Value),(py.flatten.map PC.val)[j]? =some u->w.cell? (ay.add j)=some u)
theorem zm.YW {sz:Nat} {ya:Option Addr} {c:Nat} {py:List (List PC)} (l:Good w (.list sz ya c py)):zm w sz py (.slice ya py.length c):=by cases l with|nil _ _ _ h=>refine⟨by simp,by rintro k j c ⟨e,g,_⟩;simp at g,ya,c,rfl,?_⟩;(cases ya with|none=>simp_all|some ay=>simp_all)|cons _ b o _ _ h1 h2 i d h5 f=>refine⟨d,f,_,c,rfl,.inr ⟨_,rfl,fun j u a=>?_⟩⟩;rw[wt] at a;cases hf:py.flatten[j]? with|none=>simp_all|some pc=>rw[hf] at a;simp at a;subst a;obtain⟨k',j',sU,rfl⟩:=VQ i d hf;grind [vn,OF]
theorem R.aka (r:R B E w0 N σ a w G) {σ2:St} (yn:σ2.env=σ.env) (pZ:σ2.used=σ.used) (H:HR B E w G σ2.h σ.used []) (K:bU w G σ.h (fun n=>σ.used n=true) w G σ2.h) {n:Nat} {sz ew:Nat} {m m2:Mode} {px py:List (List PC)} {v yv:Value} (hn:σ.used n=false) (X:0<sz) (F:ql B E w G σ2.h sz m2 (px++py)) (ij:∀e∈px,e.length=sz) (L:CJ B E w G σ2.h sz m px v) (Ry:zm w sz py yv) (lQ:∀b,bK b py->∀b' o cap,0<cap->v=.slice (some (ad b' o)) px.length cap->sG G σ2.h b'->b≠b') {t e:TypeId} {i:TypeInfo} {z:Value} {ty:TypeId} (ht:P.underlying t=some (.slice e)) (J:P.info? e=some i) (hz:i.zero=some z) (dn:i.size=sz) (w4:i.bytes=ew) (Bt:0<ew) (BN:z.cells.size=sz) (d:(px.length+py.length)*ew<=fe): ∃u w' G',(Builtin.append_ #[t,t] ty #[v,yv]).run P w=.ok u w'/\ R B E w0 N {σ2 with h:=aN σ2.h n (some (.row true m2 sz ((px++py).map fun e=>e.map PC.er))),used:=aN σ2.used n true} a w' G'/\ RA w' G' (aN σ2.h n (some (.row true m2 sz ((px++py).map fun e=>e.map PC.er)))) (.one (.sl n sz 0 (px.length+py.length))) u:=by obtain⟨U,r2,ya,c,rfl,r3⟩:=Ry;have bq:(py.flatten.map PC.val).length=py.length*sz:=LU U;have h1:∀u∈py.flatten.map PC.val,u.oneCell'=true:=fun u hu=>(by obtain⟨pc,_,rfl⟩:=zaG.1 hu;exact PC.nW pc);have hB:=r.fr.size;have anZ:(px++py).length=px.length+py.length:=(by simp);have rT:σ2.h n=none:=(by cases hh:σ2.h n with|none=>rfl|some b=>have:=H.mM n (by rw[hh];simp);simp_all);have ne:∀q,σ.used q=true->q≠n:=fun q f e=>(by simp_all);have bm:∀q,σ2.h q≠none->q≠n:=fun q f e=>(by simp_all);rcases ahu (P:=P) w (ty:=ty) ht J hz dn X w4 Bt ij L bq r3 h1 d with⟨a0,k0,rfl,rfl,V⟩|⟨b,A,cap,cur,e',rfl,O,b3,b4,b5,b6,S,b8,b9,V⟩|⟨cap,arr,c1,c2,c3,c4,V⟩;have hpy:py=[]:=AT k0;subst hpy;refine⟨_,w,⟨G.Im,aN G.g n ⟨true,0,0,0,[],a0⟩⟩,V,?_,?_⟩;refine r.step (σ':=_) yn (fun q f=>by show aN σ2.used n true q=true;rw[pZ];exact sD n q f) (bU.trans (u2:=fun n=>σ.used n=true) (fun _ h=>h) K (bU.insert H (blk:=.row true m2 sz []) (p:=⟨true,0,0,0,[],a0⟩) hn (fun _ _=>rfl))) ?_ r.fr;show HR B E w _ (aN σ2.h n (some (.row true m2 sz []))) (aN σ2.used n true) [];rw[pZ];have dD:∀b,¬bK b ([]:List (List PC)):=(by rintro b ⟨k,j,c,⟨e,I,_⟩,_⟩;simp at I);refine H.insert (p:=⟨true,0,0,0,[],a0⟩) hn (fun _ _=>rfl) (zaj _) (fun h=>by cases h) (fun cs c m d=>by cases d) ⟨X,rfl,fun _=>⟨rfl,fun _=>rfl⟩,(fun h=>by cases h),(fun h=>by cases h),?_,fun _ hm=>by have:=F.nr hm;simp_all⟩ (fun y m sz xs _ _ n' Y m' C D _ _ b d=>absurd d (dD b)) (fun y sz xs _ b d=>absurd d (dD b)) (fun y m sz xs _ _ i pc b J=>by simp at J);have hm:=F.mode;simp_all;refine RA.iB rfl fun _=>.inl ?_;simp[dd];have W:(A+px.length*sz)+(py.flatten.map PC.val).length<=cur.size:=(by rw[bq,b3,OF,<-Pe];exact zaP (By _ b5) _);let M:=jq w b (A+px.length*sz) (py.flatten.map PC.val) cur;have fq:∀x,x≠b->M.heap[x]? =w.heap[x]? :=fun x hx=>El x hx;have E4:∀x,G.Im x->x≠b:=fun x hx I=>S.1 (I▸hx);have uw:∀x,fB w x->fB M x:=fun x hx=>OJ O W x hx;have W7:∀x,bK x (px++py)->x≠b:=fun x hx=>(Cj hx).elim (b9 x) (fun h=>lQ x h b A cap (by obtain⟨k,j,c,⟨e,I,_⟩,_⟩:=h;grind) rfl S);let p:PB:=⟨false,b,A,cap,px++py,none⟩;have K2:bU w G σ2.h (fun n=>σ.used n=true) M ⟨G.Im,aN G.g n p⟩ (aN σ2.h n (some (.row true m2 sz ((px++py).map fun e=>e.map PC.er)))):=(by refine⟨fun _ h=>h,fun x hx o=>kv (fq x (E4 x hx)) o,fun q f s=>?_,fun q y C D f s=>?_⟩;rw[dP _ _ _ _ (ne q f)] at s;simp only[dP _ _ _ _ (ne q f)];grind;rw[dP _ _ _ _ (ne q f)] at s;simp only[dP _ _ _ _ (ne q f)];grind);have axq:b<w.heap.size:=(zat.1 O).1;have Hn:HR B E M ⟨G.Im,aN G.g n p⟩ (aN σ2.h n (some (.row true m2 sz ((px++py).map fun e=>e.map PC.er)))) (aN σ.used n true) []:=(by refine H.put (p:=p) (fun x _ hx=>fq x (hx rfl)) (by grind [wH]) (fun x _ hx=>uw x hx) (fun q f=>sD n q f) (dd _ _ _) (fun _=>⟨S.1,b8,by grind [wH]⟩) (fun _ q f s hl=>S.2.1 q s hl) (fun _ q y C D f s x hx I=>S.2.2 q y .live C D s (by grind)) (fun cs c q d=>by cases d) K2 ?_ ?_ ?_ (fun y m sz xs _ _ i pc b J=>by simp at J) (fun _ _ x hx I=>by obtain⟨q,y,T,C,D,_,s,hxF⟩:=hx;exact S.2.2 q y T C D s (by grind));refine⟨X,rfl,(fun h=>by cases h),fun _=>⟨uw b ⟨cur,e',O⟩,⟨F.len,fun k j c l=>?_,fun k j c l=>?_⟩,by grind⟩,fun _ _=>?_,?_,fun _ hm=>(F.nr hm).congr fun x hx=>fq x (W7 x hx)⟩;show M.cell? (ad b (A+k*sz+j))=some c.val;rw[Ek O W];have Q:=xY F.len l;rw[zaQ] at Q;have lM:px.flatten.length=px.length*sz:=(by have:=LU ij;rwa[zar] at this);rcases wO l with⟨rf,cM⟩|⟨rf,cM⟩;rw[aq ?_];exact b6.2.1 k j c cM;rintro⟨q1,_⟩;have hj:j<sz:=(by obtain⟨e1,I,hj⟩:=cM;rw[<-ij e1 (co I)];exact(AI.1 hj).1);have:(k+1)*sz<=px.length*sz:=By _ rf;grind;have Mx:px.length*sz<=k*sz+j:=zam (By _ rf) (Nat.le_add_right _ _);have cI:=(AI.1 Q).1;rw[zaw,lM] at cI;rw[BY (by omega),lM] at Q;rw[ai ⟨by omega,by grind⟩];rw[wt,show A+k*sz+j - (A+px.length*sz)=k*sz+j - px.length*sz by omega,Q];rfl;exact(F.fm k j c l).congr fun x hx o=>kv (fq x (W7 x ⟨k,j,c,l,hx⟩)) o;obtain⟨nH,q1,q2⟩:=KC (vs:=py.flatten.map PC.val) (o:=A+px.length*sz) O W;exact⟨b4,nH,e',q1,by rw[q2,b3]⟩;have hm:=F.mode;(cases m2 with|bh=>exact hm|bi=>exact⟨fun x hx=>⟨(hm.1 x hx).1,uw x (hm.1 x hx).2.1,(hm.1 x hx).2.2⟩,hm.2⟩|live=>exact⟨fun x hx=>⟨(hm.1 x hx).1,uw x (hm.1 x hx).2.1,(hm.1 x hx).2.2⟩,hm.2⟩);intro y m' C D d kL q Y T mC ko kx s kM x hx;injection d with _ d _ _;subst d;exact F.jE kL q Y T mC ko s kM x hx;intro y C D d x hx;injection d with _ d _ _;exact⟨fun _=>W7 x hx,fun q _ s hl=>F.live d x hx q s hl⟩);refine⟨_,M,⟨G.Im,aN G.g n p⟩,V,?_,?_⟩;exact r.step (σ':=_) yn (fun q f=>by show aN σ2.used n true q=true;rw[pZ];exact sD n q f) (bU.trans (u2:=fun n=>σ.used n=true) (fun _ h=>h) K K2) (by grind) (r.fr.one b8 (fun x hx Dq=>fq x Dq) (by grind [wH]) (GN O W) rfl rfl rfl);refine RA.iB rfl fun _=>.inr ⟨by simp[dd,p],some (ad b A),?_,?_,?_⟩;simp[dd,p];simp[dd,p];exact b5;simp[dd,p];let w1:=w.drew;have hd:∀x:Nat,x<w.heap.size->(w.drew.alloc (.cells arr e)).heap[x]? =w.heap[x]? :=fun x hx=>heap_alloc_old w.drew _ x hx;have H1:HR B E w.drew G σ2.h σ.used []:=H.grow (w':=w.drew) (fun _ _=>rfl) (zaj _);have U:R B E w0 N σ a w.drew G:=r.step (w':=w.drew) rfl (fun _ h=>h) (bU.world (w:=w) (w':=w.drew) (fun _ _=>rfl) _) (r.hr.grow (w':=w.drew) (fun _ _=>rfl) (zaj _)) (r.fr.grow (w':=w.drew) (fun _ _=>rfl) (zaj _) rfl rfl rfl);have K1:bU w.drew G σ.h (fun n=>σ.used n=true) w.drew G σ2.h:=⟨K.im,fun _ _ _=>rfl,K.name,K.live⟩;have iE:∀k j c,At (px++py) k j c->Good w.drew c:=fun k j c l=>(F.fm k j c l).congr fun _ _ _=>rfl;have Dg:∀k j c,At (px++py) k j c->arr[k*sz+j]? =some c.val:=fun k j c l=>(by have Q:=xY F.len l;refine c4 _ _ ?_;rw[<-zaJ,<-zaQ,wt,Q];rfl);have s8:arr.size=cap*sz:=(by rw[c3,BN];omega);have hB2:=U.fr.size;let p:PB:=⟨false,w.heap.size,0,cap,px++py,none⟩;have Z:∀x:Nat,x<w.drew.heap.size->(w.drew.alloc (.cells arr e)).heap[x]? =w.drew.heap[x]? :=hd;have Hn:HR B E (w.drew.alloc (.cells arr e)) ⟨G.Im,aN G.g n p⟩ (aN σ2.h n (some (.row true m2 sz ((px++py).map fun e=>e.map PC.er)))) (aN σ.used n true) []:=(by refine H1.insert (p:=p) hn Z (by simp) (fun _=>⟨H1.QR,.inl hB,by simp[p]⟩) (fun cs c m d=>by cases d) ?_ ?_ ?_ (fun y m sz xs _ _ i pc b J=>by simp at J);refine⟨X,rfl,(fun h=>by cases h),fun _=>⟨fB.alloc _ _ _,⟨F.len,fun k j c l=>?_,fun k j c l=>?_⟩,by grind⟩,fun _ _=>⟨c2,arr,e,heap_alloc_new w.drew _,(zac _).symm▸s8⟩,?_,fun _ hm=>(F.nr hm).congr fun x hx=>by obtain⟨k,j,c,l,Xy⟩:=hx;exact hd x ((F.fm k j c l).lt Xy)⟩;show(w.drew.alloc (.cells arr e)).cell? (ad w.drew.heap.size (0+k*sz+j))=some c.val;simp only[zac];unfold ad;rw[World.cell?_alloc_new];grind;exact(iE k j c l).congr fun x hx o=>kv (Z x ((iE k j c l).lt hx)) o;have hm:=F.mode;have hu:∀x,fB w x->fB (w.drew.alloc (.cells arr e)) x:=fun x hx=>hx.congr (hd x hx.lt);(cases m2 with|bh=>exact hm|bi=>exact⟨fun x hx=>⟨(hm.1 x hx).1,hu x (hm.1 x hx).2.1,(hm.1 x hx).2.2⟩,hm.2⟩|live=>exact⟨fun x hx=>⟨(hm.1 x hx).1,hu x (hm.1 x hx).2.1,(hm.1 x hx).2.2⟩,hm.2⟩);intro y m' C D d kL q Y T mC ko s kM x hx;injection d with _ d _ _;subst d;exact F.jE kL q Y T mC ko s kM x hx;intro y C D d x hx;injection d with _ d _ _;refine⟨fun _=>?_,fun q s hl=>F.live d x hx q s hl⟩;obtain⟨k,j,c,l,Xy⟩:=hx;have:=(F.fm k j c l).lt Xy;grind);refine⟨_,_,⟨G.Im,aN G.g n p⟩,V,?_,?_⟩;exact U.step (σ':=_) yn (fun q f=>by show aN σ2.used n true q=true;rw[pZ];exact sD n q f) (bU.trans (u2:=fun n=>σ.used n=true) (fun _ h=>h) K1 (bU.insert H1 hn Z)) (by grind) (U.fr.grow Z (by simp) rfl rfl rfl);refine RA.iB rfl fun _=>.inr ⟨by simp[dd,p],some (ad w.heap.size 0),?_,?_,?_⟩;simp[dd,p];simp[dd,p];exact c1;simp[dd,p]
theorem ap6 (r:R B E w0 N σ a w G) {sz:Nat} {x:aw} {v:Value} {xs:List (List C)} {m:Mode} {σ1:St} (D:RA w G σ.h x v) (hx:AX σ sz x=some (xs,m,σ1)): ∃px:List (List PC),xs=px.map (fun e=>e.map PC.er)/\ql B E w G σ1.h sz m px/\CJ B E w G σ1.h sz m px v/\HR B E w G σ1.h σ.used []/\bU w G σ.h (fun n=>σ.used n=true) w G σ1.h/\σ1.env=σ.env/\σ1.used=σ.used/\ (∀n b,σ1.h n=some b->σ.h n=some b):=by unfold AX at hx;split at hx;rename_i s;injection hx with hx;injection hx with z l;injection l with l h3;subst z l h3;have u:v=.slice none 0 0:=(D.il (by simp)).1;have A:∀b,¬bK b ([]:List (List PC)):=(by rintro b ⟨k,j,c,⟨e,i,_⟩,_⟩;simp at i);exact⟨[],rfl,⟨by simp,by rintro k j c ⟨e,i,_⟩;simp at i,⟨fun b d=>absurd d (A b),(by rintro k j c ⟨e,i,_⟩;simp at i),(by rintro k j c k' j' c' b ⟨e,i,_⟩;simp at i)⟩,fun _ _ _ _ _ _ _ _ b d=>absurd d (A b),fun _ b d=>absurd d (A b),fun h=>by cases h⟩, .inl ⟨none,u,rfl⟩,r.hr,bU.refl _ _ _ _,rfl,rfl,fun _ _ h=>h⟩;rename_i n s len;split at hx;rename_i S rs y hn;split at hx;rename_i M;obtain⟨rfl,rfl,rfl⟩:=M;injection hx with hx;injection hx with z l;injection l with l h3;subst z l h3;have H:=r.hr;have t:σ.h n≠none:=(by rw[hn];simp);have hr:=H.row n true S s y hn;have L:jD (G.g n) s 0 y.length v:=(D.il (by simp)).1 t;have tc:y.length=(G.g n).px.length:=(by rw[hr.er];simp);refine⟨(G.g n).px,hr.er,ql.Q1 H hn (fun _=>rfl),?_,H.del n,bU.del n _,rfl,rfl,fun q b p=>(rL p).1⟩;rcases L with⟨f,u,_,_⟩|⟨f,a',u,j9,T⟩;have O:=(hr.nl f).2 rfl;exact .inl ⟨(G.g n).na,by rw[u,O],(hr.nl f).1⟩;right;obtain⟨V,cur,e,P,U⟩:=hr.room f rfl;obtain⟨l1,l2,I⟩:=hr.f6 f;obtain⟨Q,K,o3⟩:=H.own n t f;have rQ:=T (.inr rfl);refine⟨(G.g n).b,(G.g n).o,(G.g n).cap,cur,e,?_,P,U,V,I,l2,⟨Q,fun q p hl=>?_,fun q gr m' bf aM p d=>?_⟩,K,fun b d=>H.vI t f hn d⟩;simp_all;obtain⟨F,J⟩:=Bh p;exact H.inj q n F t J hl f;exact H.vI t f (rL p).1 d rfl;cases hx;cases hx;cases hx
theorem at6 {fl:Bool} {sz:Nat} {x:aw} {v:Value} {ys:List (List C)} {m m2:Mode} {σ1 σ2:St} {px:List (List PC)} (jh:0<sz) (H:HR B E w G σ1.h σ1.used []) (F:ql B E w G σ1.h sz m px) (O:RA w G σ1.h x v) (hx:ud fl σ1 sz m x=some (ys,m2,σ2)): ∃py:List (List PC),ys=py.map (fun e=>e.map PC.er)/\zm w sz py v/\ql B E w G σ2.h sz m2 (px++py)/\HR B E w G σ2.h σ1.used []/\bU w G σ1.h (fun n=>σ1.used n=true) w G σ2.h/\σ2.env=σ1.env/\σ2.used=σ1.used/\ (∀n b,σ2.h n=some b->σ1.h n=some b)/\(∀b,bK b py->∀i,¬G.Im i->(∀q o y z A,σ1.h q=some (.row o y z A)->¬bK i (G.g q).px)->b≠i):=by unfold ud at hx;have T:∀b,¬bK b ([]:List (List PC)):=(by rintro b ⟨k,j,c,⟨e,p,_⟩,_⟩;simp at p);split at hx;rename_i s;injection hx with hx;injection hx with l d;injection d with d h3;subst l d h3;have jw:v=.slice none 0 0:=(O.il (by simp)).1;subst jw;exact⟨[],rfl,⟨by simp,by rintro k j c ⟨e,p,_⟩;simp at p,none,0,rfl,.inl ⟨rfl,rfl⟩⟩,by simpa using F,H,bU.refl _ _ _ _,rfl,rfl,fun _ _ h=>h,fun b a=>absurd a (T b)⟩;rename_i s t;split at hx;rename_i hs;subst hs;obtain⟨pc,e1,e2,e3,e4⟩:=O.c;have bZ:∃ya c py,pc=.list s ya c py/\py.map (fun e=>e.map PC.er)=t:=(by cases pc with|int k n=>simp[PC.er] at e1|bool b=>simp[PC.er] at e1|list s' ya c py=>grind [PC.fk]);obtain⟨ya,c,py,rfl,U⟩:=bZ;have f:zm w s py v:=(by rw[<-e2];exact zm.YW e3);have vN:∀b,bK b py->G.Im b:=fun b ⟨k,j,c,u,a⟩=>e4 b (.there _ _ _ _ k j c u a);have I:∀b,bK b py->∀i,¬G.Im i->(∀q o y z A,σ1.h q=some (.row o y z A)->¬bK i (G.g q).px)->b≠i:=fun b a i N _ p=>N (p▸vN b a);split at hx;rename_i J;injection hx with hx;injection hx with l d;injection d with d h3;subst l d h3;replace J:=(zab _ _▸J).2;rw[<-U] at J;exact⟨py,U.symm,f,F.abw f.1 f.2.1 (AA J) (ahK J),H,bU.refl _ _ _ _,rfl,rfl,fun _ _ h=>h,I⟩;split at hx;cases hx;rename_i yr;injection hx with hx;injection hx with l d;injection d with d h3;subst l d h3;refine⟨py,U.symm,f,⟨fun e p=>(zad.1 p).elim (F.len e) (f.1 e),fun k j c u=>?_,fun b a=>(Cj a).elim (F.aaG yr b) (vN b),fun h=>absurd rfl h,(fun h=>by cases h),fun h=>by cases h⟩,H,bU.refl _ _ _ _,rfl,rfl,fun _ _ h=>h,I⟩;rcases wO u with⟨_,h⟩|⟨_,h⟩;exact F.fm _ _ _ h;exact f.2.1 _ _ _ h;cases hx;rename_i n s lo len;split at hx;rename_i o m' rs t hn;split at hx;rename_i hc;obtain⟨rfl,rfl,hl⟩:=hc;have cQ:σ1.h n≠none:=(by rw[hn];simp);have hr:=H.row n o m' s t hn;have kg:jD (G.g n) s lo len v:=(O.il (by simp)).1 cQ;obtain⟨L,X,q3,q4⟩:=Ka hr kg hl;have V:∃ya c,nC (G.g n) s lo len v=.list s ya c (((G.g n).px.drop lo).take len):=(by rcases kg with⟨_,rfl,_,_⟩|⟨_,a',rfl,_,_⟩<;>exact⟨_,_,rfl⟩);obtain⟨ya,c,V⟩:=V;rw[V] at L X q3 q4;have f:zm w s (((G.g n).px.drop lo).take len) v:=(by rw[<-X];exact zm.YW q3);have rj:(t.drop lo).take len=(((G.g n).px.drop lo).take len).map (fun e=>e.map PC.er):=(by rw[PC.fk] at L;injection L with _ L;exact L.symm);have I:∀b,bK b (((G.g n).px.drop lo).take len)->∀i,¬G.Im i->(∀q o y z A,σ1.h q=some (.row o y z A)->¬bK i (G.g q).px)->b≠i:=(by rintro b ⟨k,j,c,u,a⟩ i _ N rfl;exact N n o m' s t hn ⟨_,_,_,(vr u).1,a⟩);split at hx;rename_i J;injection hx with hx;injection hx with l d;injection d with d h3;subst l d h3;have R:=(zab _ _▸J).2;rw[rj] at R;exact⟨_,rj,f,F.abw f.1 f.2.1 (AA R) (ahK R),H,bU.refl _ _ _ _,rfl,rfl,fun _ _ h=>h,I⟩;split at hx;rename_i S;obtain⟨rfl,rfl⟩:=S;have iO:((G.g n).px.drop 0).take t.length=(G.g n).px:=(by have:t.length=(G.g n).px.length:=(by rw[hr.er];simp);rw[this];simp);rw[iO] at f I;have W:=F.del n;have iE:∀k j c,At (px++(G.g n).px) k j c->Good w c:=fun k j c u=>(by rcases wO u with⟨_,h⟩|⟨_,h⟩;exact F.fm _ _ _ h;exact f.2.1 _ _ _ h);have D:∀e∈px++(G.g n).px,e.length=s:=fun e p=>(zad.1 p).elim (F.len e) (f.1 e);split at hx;rename_i P;obtain⟨P,Mz⟩:=P;subst P;have K:=ql.Q1 H hn Mz;injection hx with hx;injection hx with l d;injection d with d h3;subst l d h3;refine⟨(G.g n).px,hr.er,f,⟨D,iE,?_,fun hm q Z y z A r Y b a=>?_,fun hm b a q r hl=>?_,fun hm k c u=>(wO u).elim (fun h=>F.nr hm _ _ h.2) (fun h=>K.nr hm _ _ h.2)⟩,H.del n,bU.del n _,rfl,rfl,fun q b r=>(rL r).1,I⟩;have m1:=F.mode;have M:=K.mode;(cases m with|bh=>exact fun b a=>(Cj a).elim (m1 b) (M b)|bi=>exact⟨fun b a=>(Cj a).elim (m1.1 b) (M.1 b),RD m1.2 M.2 (fun b a=>F.jE (by simp) n o .bi s t hn (by simp) b a)⟩|live=>exact⟨fun b a=>(Cj a).elim (m1.1 b) (M.1 b),RD m1.2 M.2 (fun b a=>F.jE (by simp) n o .live s t hn (by simp) b a)⟩);exact(Cj a).elim (W.jE hm q Z y z A r Y b) (K.jE hm q Z y z A r Y b);exact(Cj a).elim (fun h=>W.live hm b h q r hl) (fun h=>K.live hm b h q r hl);split at hx;cases hx;rename_i Q;have K:=ql.Q1 H hn (fun h=>absurd (.inr h) Q);injection hx with hx;injection hx with l d;injection d with d h3;subst l d h3;refine⟨(G.g n).px,hr.er,f,⟨D,iE,fun b a=>(Cj a).elim (F.aaG (fun h=>Q (.inl h)) b) (K.aaG (fun h=>Q (.inr h)) b),fun h=>absurd rfl h,(fun h=>by cases h),fun h=>by cases h⟩,H.del n,bU.del n _,rfl,rfl,fun q b r=>(rL r).1,I⟩;cases hx;cases hx;cases hx;cases hx
theorem alR (r:R B E w0 N σ a w G) {n:Nat} {t e:TypeId} {i:TypeInfo} {z:Value} {x y:Operand} {mx my:MO} {fl:Bool} {sz ew:Nat} {xs ys:List (List C)} {m m2:Mode} {σ1 σ2 W:St} (ho:o.op=.call {callee:=.builtin .append,args:=#[x,y],argTypes:=#[t,t]}) (hd:o.dst=some n) (hN:n<N) (iL:cX x mx=true) (iM:cX y my=true) (ht:P.underlying t=some (.slice e)) (hi:P.info? e=some i) (hz:i.zero=some z) (dn:i.size=sz) (s:0<sz) (w4:i.bytes=ew) (Bt:0<ew) (BN:z.cells.size=sz) (hl:AX σ sz (σ.ev mx)=some (xs,m,σ1)) (hr:ud fl σ1 sz m (σ.ev my)=some (ys,m2,σ2)) (hb:(xs.length+ys.length)*ew<=fe) (hx:σ2.ins n (.row true m2 sz (xs++ys))=some W): o.wp P a w (Nx B E w0 N (W.put o.dst (.one (.sl n sz 0 (xs.length+ys.length))))) Q:=by obtain⟨hn,rfl⟩:=oR hx;obtain⟨x1,x2⟩:=r.ev iL;obtain⟨y1,y2⟩:=r.ev iM;obtain⟨px,J,p,l,A,M,q1,j,q3⟩:=ap6 r x1 hl;have k:RA w G σ1.h (σ.ev my) (a.eval y):=y1.d9 M y2;rw[<-j] at A;obtain⟨py,K,R2,F2,O,K2,p1,p2,p3,sP⟩:=at6 s A p k hr;rw[j] at O;have tc:xs.length=px.length:=(by rw[J];simp);have Z:ys.length=py.length:=(by rw[K];simp);have L2:CJ B E w G σ2.h sz m px (a.eval x):=(by rcases l with h|⟨b,o,cap,cur,U,f,F,L,V,H,D,⟨l1,l2,T⟩,b8,S⟩;exact .inl h;refine .inr ⟨b,o,cap,cur,U,f,F,L,V,H,D,⟨l1,fun q c=>?_,fun q Y X bf aM c=>T q Y X bf aM (p3 q _ c)⟩,b8,S⟩;cases hh:σ2.h q with|none=>grind|some bb=>grind);obtain⟨u,w',G',cG,I,g⟩:=r.aka (P:=P) (σ2:=σ2) (n:=n) (m:=m) (m2:=m2) (px:=px) (py:=py) (ty:=o.type) (p1.trans q1) (p2.trans j) O (bU.trans (u2:=fun n=>σ1.used n=true) (fun q c=>by simp_all) M K2) (by simp_all) s F2 p.len L2 R2 (fun b dV b' o' cap fK d aeG=>by rcases l with⟨_,h,_⟩|⟨b0,o0,EG,cur,U,f,F,L,V,H,D,⟨l1,l2,T⟩,b8,S⟩;simp_all;rw[f] at d;injection d with d;injection d with d;have Wx:=(pn d).1;grind) ht hi hz dn w4 Bt BN (by simp_all);have W3:(px++py).map (fun e=>e.map PC.er)=xs++ys:=(by rw[zaJ,<-J,<-K]);rw[W3] at I g;rw[<-tc,<-Z] at g;refine sE (v:=u) (w':=w') ?_ ⟨G',I.put g (fun q c=>by have gB:q=n:=c;subst gB;exact dd _ _ _) (fun q c=>by simp_all)⟩;simp[execOp,ho,resolve,invoke,builtin,cG]
theorem QD {n:Nat} (hs:(h n).isSome=true):h n≠none:=by grind
theorem JW {t e:TypeId} {i:TypeInfo} {sz b off len cap:Nat} {a:IntKind} {q:Int} (c:P.underlying t=some (.slice e)) (h:P.info? e=some i) (d:i.size=sz) (f:0<=q) (g:q<len): (Instr.indexAt t (.slice (some (ad b off)) len cap) (.int a q)).run P w=.ok (.pointer (some (ad b (off+q.toNat*sz)))) w:=by simp[Instr.indexAt,run_underlying c,asIntOf,f,g,sizeOf,typeInfo,h,d,vn]
theorem acF (r:R B E w0 N σ a w G) {t e:TypeId} {i:TypeInfo} {x y:Operand} {mx my:MO} {sz:Nat} {q:Int} {z:aw} (A:o.op=.indexAddr t x y) (C:∀n,o.dst=some n->n<N) (iL:cX x mx=true) (iM:cX y my=true) (M:P.underlying t=some (.slice e)) (K:P.info? e=some i) (H:i.size=sz) (hq:(σ.ev my).fW=some q) (I:0<=q) (U:(∃n lo len,σ.ev mx=.one (.sl n sz lo len)/\q<(len:Int)/\(σ.h n).isSome=true/\z=.one (.ptr n (lo+q.toNat) sz 0))\/(∃xs l,σ.ev mx=.one (.c (.list sz xs))/\xs[q.toNat]? =some l/\z=.one (.ez l 0))): o.wp P a w (Nx B E w0 N (σ.put o.dst z)) Q:=by obtain⟨p,F⟩:=r.ev iL;obtain⟨kk,D⟩:=(r.ev iM).1.int hq;rcases U with⟨n,lo,len,s,d,hs,rfl⟩|⟨xs,l,s,d,rfl⟩;rw[s] at p F;have X:jD (G.g n) sz lo len (a.eval x):=(p.il (by simp)).1 (QD hs);rcases X with⟨_,_,_,hl⟩|⟨bq,a',hv,j9,ha⟩;omega;have Z:=ha (.inl (by omega));subst Z;refine mN r (v:=.pointer (some (ad (G.g n).b ((G.g n).o+lo*sz+q.toNat*sz)))) ?_ ?_ (fun m hm=>F m hm) C;simp only[execOp,A,hv,D];simp[JW M K H I d];exact RA.iB rfl fun _=>⟨bq,by grind⟩;rw[s] at p;obtain⟨pc,p1,S,p3,p4⟩:=p.c;cases pc with|int k n=>simp[PC.er] at p1|bool b=>simp[PC.er] at p1|list J ya c py=>rw[PC.fk] at p1;injection p1 with p0 p1;subst p0;have lR:∃pe,py[q.toNat]? =some pe/\pe.map PC.er=l:=(by rw[<-p1,wt] at d;cases hp:py[q.toNat]? with|none=>rw[hp] at d;cases d|some pe=>rw[hp] at d;simp at d;exact⟨pe,rfl,d⟩);obtain⟨pe,f,kf⟩:=lR;have T:q.toNat<py.length:=(AI.1 f).1;cases p3 with|nil _ _ _ _=>simp at T|cons _ b L _ _ Y g2 g3 g4 W g6=>have gB:q<(py.length:Int):=(by omega);refine mN r (v:=.pointer (some (ad b (L+q.toNat*J)))) ?_ ?_ (fun m hm=>absurd hm (by simp[aw.ref,ao.ref,ao.kE])) C;simp only[execOp,A,<-S,PC.val,D];simp[JW M K H I gB];refine RA.iB rfl ⟨b,L+q.toNat*J,pe,by simp,kf,p4 b (.here _ _ _ _ Y),fun j c u=>?_⟩;exact⟨W _ _ _ ⟨pe,f,u⟩,g6 _ _ _ ⟨pe,f,u⟩,fun O V=>p4 O (.there _ _ _ _ _ _ c ⟨pe,f,u⟩ V)⟩
theorem Pw (r:R B E w0 N σ a w G) {t e:TypeId} {x:Operand} {mx:MO} {len:Nat} (u:o.op=.call {callee:=.builtin .len,args:=#[x],argTypes:=#[t]}) (y:∀n,o.dst=some n->n<N) (hm:cX x mx=true) (H:P.underlying t=some (.slice e)) (z:(∃n sz lo,σ.ev mx=.one (.sl n sz lo len)/\(σ.h n).isSome=true)\/(∃sz xs,σ.ev mx=.one (.c (.list sz xs))/\len=xs.length)\/(∃sz,σ.ev mx=.one (.nil sz)/\len=0)\/ (∃n k j off sz l s ys,σ.ev mx=.one (.cF n k j off sz l)/\dX σ.h (.cF n k j off sz l)=some (.list s ys)/\len=ys.length)): o.wp P a w (Nx B E w0 N (σ.put o.dst (.one (.c (.int .i64 len))))) Q:=by obtain⟨d,x2⟩:=r.ev hm;have i:∃m c,a.eval x=.slice m len c:=(by rcases z with⟨n,sz,lo,f,F⟩|⟨sz,xs,f,rfl⟩|⟨sz,f,rfl⟩|⟨n,k,j,off,sz,l,s,ys,f,D,rfl⟩;rw[f] at d;have A:jD (G.g n) sz lo len (a.eval x):=(d.il (by simp)).1 (QD F);rcases A with⟨_,i,_,rfl⟩|⟨_,m,i,_,_⟩;simp_all;simp_all;rw[f] at d;obtain⟨pc,p1,p,_⟩:=d.c;(cases pc with|int k n=>simp[PC.er] at p1|bool b=>simp[PC.er] at p1|list C ya c py=>grind [PC.fk,PC.val]);rw[f] at d;have jw:a.eval x=.slice none 0 0:=(d.il (by simp)).1;simp_all;rw[f] at d;obtain⟨pc,p1,p,_⟩:=r.hr.dX D (d.il (by simp)).1;cases pc with|int k n=>simp[PC.er] at p1|bool b=>simp[PC.er] at p1|list C ya c py=>grind [PC.fk,PC.val]);obtain⟨m,c,i⟩:=i;refine mN r (v:=.int .i64 len) ?_ (RA.of_int _ _) (fun q I=>absurd I uS) y;simp[execOp,u,resolve,invoke,builtin,i,Builtin.len_,run_underlying H,goInt]
theorem N6 {t e:TypeId} {i:TypeInfo} {sz:Nat} {ya:Option Addr} {len cap:Nat} {lo hi':Option Value} {l hh:Int} (o:P.underlying t=some (.slice e)) (n:P.info? e=some i) (h:i.size=sz) (c:(lo=none/\l=0)\/∃k,lo=some (.int k l)) (f:(hi'=none/\hh=len)\/∃k,hi'=some (.int k hh)) (j:0<=l) (m:l<=hh) (h2:hh<=len) (h3:len<=cap): (Instr.sliceAt t (.slice ya len cap) lo hi' none).run P w=.ok (.slice (if cap=l.toNat then ya else ya.map (·.add (l.toNat*sz))) (hh - l).toNat (cap - l.toNat)) w:=by have d:(hh.toNat:Int)=hh:=zaN (by omega);have g:(hh - l).toNat=hh.toNat - l.toNat:=(by omega);have a:hh<=(cap:Int):=(by omega);have b:0<=hh:=(by omega);rcases c with⟨rfl,rfl⟩|⟨k,rfl⟩<;>rcases f with⟨rfl,rfl⟩|⟨k',rfl⟩<;> simp[Instr.sliceAt,Instr.slice,run_underlying o,Instr.sliceBounds,Instr.sliceBound,asIntOf,sizeOf,typeInfo,n,h,j,m,a,b,d,g]<;>omega
theorem acK (r:R B E w0 N σ a w G) {t e:TypeId} {i:TypeInfo} {x:Operand} {lo hi':Option Operand} {mx:MO} {sz:Nat} {l hh:Int} {z:aw} (ho:o.op=.slice t x lo hi' none) (S:∀n,o.dst=some n->n<N) (iL:cX x mx=true)
  (ht:P.underlying t=some (.slice e)) (hi:P.info? e=some i) (dn:i.size=sz) (jh:0<sz) {len:Nat}
  (n8:(lo=none/\l=0)\/∃y my,lo=some y/\cX y my=true/\(σ.ev my).fW=some l) (Bz:(hi'=none/\hh=len)\/∃y my,hi'=some y/\cX y my=true/\(σ.ev my).fW=some hh)
  (h0:0<=l) (K:l<=hh) (Z:hh<=len)
  (C:(∃n p,σ.ev mx=.one (.sl n sz p len)/\(σ.h n).isSome=true/\z=.one (.sl n sz (p+l.toNat) (hh - l).toNat))\/(∃xs,σ.ev mx=.one (.c (.list sz xs))/\len=xs.length/\z=.one (.c (.list sz ((xs.drop l.toNat).take (hh - l).toNat))))):
  o.wp P a w (Nx B E w0 N (σ.put o.dst z)) Q:=by
 obtain⟨D,T⟩:=r.ev iL;have V:(lo.map a.eval=none/\l=0)\/∃k,lo.map a.eval=some (.int k l):=by
  rcases n8 with⟨rfl,h⟩|⟨y,my,rfl,c1,Y⟩
  ·simp_all
  ·obtain⟨k,f⟩:=(r.ev c1).1.int Y
   simp_all
 have L:(hi'.map a.eval=none/\hh=len)\/∃k,hi'.map a.eval=some (.int k hh):=by
  rcases Bz with⟨rfl,h⟩|⟨y,my,rfl,c1,Y⟩
  ·simp_all
  ·obtain⟨k,f⟩:=(r.ev c1).1.int Y
   simp_all
 rcases C with⟨n,p,W,hs,rfl⟩|⟨xs,W,rfl,rfl⟩
 ·rw[W] at D T;have kg:jD (G.g n) sz p len (a.eval x):=(D.il (by simp)).1 (QD hs);rcases kg with⟨O,A,rfl,rfl⟩|⟨O,a',A,j9,ha⟩
  ·have hr:=N6 (P:=P) (w:=w) (ya:=(G.g n).na) (len:=0) (cap:=(G.g n).cap) ht hi dn V L h0 K Z (zba _);have kw:l.toNat=0:=by omega
   have MB:(hh - l).toNat=0:=by omega
   refine mN r (v:=.slice (G.g n).na 0 (G.g n).cap) ?_ (RA.iB rfl fun _=>.inl ⟨O,rfl,by omega,by omega⟩) (fun m hm=>T m hm) S;simp only[execOp,ho,A,zaK];simp only[kw,MB,zaE] at hr;have ha:(G.g n).na.map (fun x=>x.add 0)=(G.g n).na:=by
    cases (G.g n).na with
    |none=>rfl
    |some x=>simp[Addr.add]
   simp_all
  ·have hr:=N6 (P:=P) (w:=w) (ya:=a') (len:=len) (cap:=(G.g n).cap - p) ht hi dn V L h0 K Z (by omega);refine mN r (by simp only[execOp,ho,A,zaK];simp[hr];rfl) (RA.iB rfl fun _=>.inr ⟨O,_,by rw[Nat.sub_sub],by omega,fun F=>?_⟩) (fun m hm=>T m hm) S;split
   ·grind
   ·rename_i dK;have cI:p<(G.g n).cap:=by omega
    grind [vn,Pe,OF]
 ·rw[W] at D;obtain⟨pc,p1,p2,p3,p4⟩:=D.c;cases pc with
  |int k n=>simp[PC.er] at p1
  |bool b=>simp[PC.er] at p1
  |list H ya c py=>
   rw[PC.fk] at p1;injection p1 with p0 p1;subst p0;have d:xs.length=py.length:=by rw[<-p1];simp
   have A:a.eval x=.slice ya xs.length c:=by rw[<-p2,d];rfl
   have j9:xs.length<=c\/py=[]:=by
    cases p3 with
    |nil _ _ _ _=>exact .inr rfl
    |cons _ b oo _ _ g1 g2 g3 g4 g5 g6=>omega
   have iw:xs.length<=c:=by
    rcases j9 with F|F
    ·exact F
    ·rw[d,F];exact zba _
   have hr:=N6 (P:=P) (w:=w) (ya:=ya) (len:=xs.length) (cap:=c) ht hi dn V L h0 K Z iw;have J:((py.drop l.toNat).take (hh - l).toNat).length=(hh - l).toNat:=by simp;omega
   let u:PC:=.list H (if c=l.toNat then ya else ya.map (·.add (l.toNat*H))) (c - l.toNat) ((py.drop l.toNat).take (hh - l).toNat)
   have iE:Good w u/\∀b,bB b u->G.Im b:=by
    by_cases s:(py.drop l.toNat).take (hh - l).toNat=[]
    ·constructor
     ·show Good w (.list _ _ _ _);rw[s];exact .nil _ _ _ jh
     ·intro b X;rw[bB.oZ,s] at X;rcases X with⟨X,_⟩|⟨k,j,c,⟨e,I,_⟩,_⟩
      ·grind
      ·simp at I
    ·cases p3 with
     |nil _ _ _ _=>simp at s
     |cons _ b oo _ _ g1 g2 g3 g4 g5 g6=>
      have fZ:0<(hh - l).toNat:=by
       rcases zav (hh - l).toNat with C|C
       ·rw[C] at s;simp at s
       ·exact C
      have bm:c≠l.toNat:=by omega
      have bZ:u=.list H (some (ad b (oo+l.toNat*H))) (c - l.toNat) ((py.drop l.toNat).take (hh - l).toNat):=by
       show PC.list _ _ _ _=_;rw[aq bm];simp[vn]
      rw[bZ];constructor
      ·refine .cons _ _ _ _ _ s (by omega) g3 (fun e I=>g4 e (zao (zap I))) (fun k j M f=>?_) (fun k j M f=>g6 _ _ _ (vr f).1);have:=g5 _ _ _ (vr f).1
       grind
      ·intro x hx;rw[bB.oZ] at hx;rcases hx with⟨_,o',U⟩|⟨k,j,M,f,hx⟩
       ·injection U with U;rw[<-(pn U).1];exact p4 b (.here _ _ _ _ g1)
       ·exact p4 x (.there _ _ _ _ _ _ M (vr f).1 hx)
   refine mN r (v:=u.val) ?_ (RA.iB (PC.nW _) ⟨u,?_,rfl,iE.1,iE.2⟩) (fun q hq=>absurd hq uS) S
   ·simp only[execOp,ho,A,zaK];simp[hr,u,PC.val,J]
   grind [PC.fk,zaR,zaS]
theorem EJ {b x:Nat} {v:Value} {cur:Array Value} {e:TypeId} (a:w.heap[b]? =some (.cells cur e (0,0))) (hc:w.cell? (ad b x)=some v):x<cur.size:=by
 have h2:w.cell? (ad b x)=cur[x]? :=by simp[World.cell?,ad,a]
 grind
theorem amq (r:R B E w0 N σ a w G) {t:TypeId} {i:TypeInfo} {x y:Operand} {mx my:MO} {sz n k A off:Nat} {ag:Bool} {vs cs:List ao} (z:o.op=.store t x y) (hd:o.dst=none) (T:cX x mx=true) (K:cX y my=true)
  (M:P.info? t=some i) (dn:i.size=sz) (jh:0<sz) (D:σ.ev mx=.one (.ptr n k A off)) (l:(σ.ev my).cells?=some (ag,vs)) (hl:vs.length=sz) (hn:σ.h n=some (.box cs)) (J:k=0) (jt:off+sz<=cs.length):
  o.wp P a w (Nx B E w0 N (σ.fQ n (.box (eP cs off vs)))) Q:=by
 obtain⟨p,_⟩:=r.ev T;obtain⟨L,F⟩:=r.ev K;rw[D] at p;subst J;obtain⟨p1,s⟩:=(p.il (by simp)).1 (by rw[hn];simp);obtain⟨q1,⟨cur,O,d⟩,S⟩:=r.hr.box n cs hn;have f:=L.cells l;have Xr:(a.eval y).cells.toList.length=sz:=by rw[f.1,hl]
 have V:(G.g n).o+off+(a.eval y).cells.toList.length<=cur.size:=by
  obtain⟨v,H,_⟩:=S (off+sz - 1) (cs[off+sz - 1]'(by omega)) (AN _);have:=EJ d H;omega
 have q:=r.awB hn f (fun c I m hm=>F m (aw.CY l I hm)) (by omega) d V;have W:=RN (P:=P) (w:=w) (t:=t) (i:=i) (b:=(G.g n).b) (off:=(G.g n).o+off) (v:=a.eval y) (cur:=cur) (e:=O) M (by simp_all) d (by omega) (fun u U=>by
  obtain⟨j,hj,WU⟩:=zae U;have C:j<vs.length:=by omega
  have:=(f.2 j _ u (AN C) (by simp_all)).1;exact this)
 refine S5 (w':=jq w (G.g n).b ((G.g n).o+off) (a.eval y).cells.toList cur) ?_ ⟨G,?_⟩
 ·simp only[execOp,z,s,zaE,zax];simp[Instr.storeAt,Instr.sureAddr,W]
 ·rw[hd];exact q
theorem ams (r:R B E w0 N σ a w G) {t:TypeId} {i:TypeInfo} {x y:Operand} {mx my:MO} {sz n k off:Nat} {ag p:Bool} {m:Mode} {d:Nat} {xs:List (List C)} {l:List C} {vs:List ao} {σ2:St} (J:o.op=.store t x y) (hd:o.dst=none) (W:cX x mx=true) (S:cX y my=true)
  (U:P.info? t=some i) (dn:i.size=sz) (jh:0<sz) (M:σ.ev mx=.one (.ptr n k d off)) (A:(σ.ev my).cells?=some (ag,vs)) (hl:vs.length=sz) (hn:σ.h n=some (.row p m d xs)) (F:xs[k]? =some l)
  (hx:u9 σ n p m d xs k off l vs=some σ2):o.wp P a w (Nx B E w0 N σ2) Q:=by
 obtain⟨D,_⟩:=r.ev W;obtain⟨T,O⟩:=r.ev S;rw[M] at D;obtain⟨p1,I⟩:=(D.il (by simp)).1 (by rw[hn];simp);have hr:=r.hr.row n p m d xs hn;obtain⟨⟨cur,V,q⟩,l2,l3⟩:=hr.f6 p1;have z:=T.cells A;have Xr:(a.eval y).cells.toList.length=sz:=by rw[z.1,hl]
 have pW:off+vs.length<=l.length:=by
  unfold u9 at hx;split at hx
  ·cases hx
  ·rename_i mB X;exact(Kr X).1
 have Z:∃pe,(G.g n).px[k]? =some pe/\pe.map PC.er=l:=by
  have f:=F;rw[hr.er,wt] at f;cases hq:(G.g n).px[k]? with
  |none=>rw[hq] at f;cases f
  |some pe=>rw[hq] at f;simp at f;exact⟨pe,rfl,f⟩
 obtain⟨pe,Y,K⟩:=Z;have Dm:pe.length=l.length:=by rw[<-K];simp
 have Ml:(G.g n).o+k*d+off+(a.eval y).cells.toList.length<=cur.size:=by
  have s:=l2.2.1 k (off+sz - 1) (pe[off+sz - 1]'(by omega)) ⟨pe,Y,AN _⟩;have:=EJ q s;omega
 obtain⟨G',H⟩:=r.u9 hn p1 F z (fun c s m hm=>O m (aw.CY A s hm)) hx q Ml;have cG:=RN (P:=P) (w:=w) (t:=t) (i:=i) (b:=(G.g n).b) (off:=(G.g n).o+k*d+off) (v:=a.eval y) (cur:=cur) (e:=V) U (by simp_all) q (by omega) (fun u hu=>by
  obtain⟨j,hj,WU⟩:=zae hu;have L:j<vs.length:=by omega
  exact(z.2 j _ u (AN L) (by simp_all)).1)
 refine S5 (w':=jq w (G.g n).b ((G.g n).o+k*d+off) (a.eval y).cells.toList cur) ?_ ⟨G',?_⟩
 ·simp only[execOp,J,I];simp[Instr.storeAt,Instr.sureAddr,cG]
 ·rw[hd];exact H
def EL (places:List (Nat×Nat)):List (Nat×Operand)->List (Nat×Nat×MO)->Bool
 |[],[]=>true
 |(i,x)::ps,(off,sz,m)::ms=>(places[i]? ==some (off,sz))&&cX x m&&EL places ps ms
 |_,_=>false
theorem acZ (r:R B E w0 N σ a w G) (b:List (Nat×Nat)):∀(ps:List (Nat×Operand)) (ms:List (Nat×Nat×MO)) (e cs:List ao) (cur:Array Value),EL b ps ms=true-> eN w G σ.h e cur.toList->(∀c∈e,∀m,c.ref m->σ.used m=true)->wD σ.ev e ms=some cs-> ∃k,Instr.fill (b.toArray[·]?) cur (ps.map fun p=>(p.1,a.eval p.2))=some k/\eN w G σ.h cs k.toList/\∀c∈cs,∀m,c.ref m->σ.used m=true
 |[],[],e,cs,cur,_,hz,hr,hx=>by simp only[wD] at hx;injection hx with hx;subst hx;exact⟨cur,rfl,hz,hr⟩
 |(i,x)::ps,(off,sz,m)::ms,e,cs,cur,d,hz,hr,hx=>by simp only[EL,zab,beq_iff_eq] at d;obtain⟨⟨v,C⟩,J⟩:=d;simp only[wD] at hx;split at hx;rename_i ag vs s;split at hx;rename_i y;obtain⟨D,h2⟩:=y;obtain⟨H,z⟩:=r.ev C;have l:=H.cells s;have ux:(a.eval x).cells.size=sz:=(by rw[<-zai,l.1,D]);have hzl:cur.size=e.length:=(by rw[<-zai,hz.1]);have F:eN w G σ.h (eP e off vs) (eP cur.toList off (a.eval x).cells.toList):=(by have n:(a.eval x).cells.toList.length=vs.length:=l.1;refine⟨?_,fun j c u f g=>?_⟩;rw[Sq (by simp_all),Sq (by omega),hz.1];rw[Ec (by omega)] at f;rw[Ec (by simp_all),n] at g;by_cases t:off<=j/\j<off+vs.length;rw[ai t] at f g;exact l.2 _ c u f g;rw[aq t] at f g;exact hz.2 _ c u f g);obtain⟨k,o,A,I⟩:=acZ r b ps ms (eP e off vs) cs (eP cur.toList off (a.eval x).cells.toList).toArray J F (fun c d q K=>by simp only[eP,zad] at d;rcases d with(d|d)|d;grind;exact z q (aw.CY s d K);grind) hx;refine⟨k,?_,A,I⟩;simp only[zaf] at o;simp only[IT,Instr.fill,zaf,v];rw[aq (by simp;omega),aea _ _ _ (by omega)];exact o;cases hx;cases hx
 |[],_::_,_,_,_,d,_,_,_=>by simp[EL] at d
 |(_,_)::_,[],_,_,_,d,_,_,_=>by simp[EL] at d
theorem alX (r:R B E w0 N σ a w G) {t:TypeId} {parts:Array (Nat×Operand)} {ms:List (Nat×Nat×MO)} {g cs:List ao} {it:TypeInfo} {z:Value} {k:Array Field} {b:List (Nat×Nat)} (l:o.op=.build t parts) (u:∀n,o.dst=some n->n<N) (D:P.info? t=some it) (x:it.zero=some z) (F:P.underlying t=some (.struct k)) (A:k.toList.mapM (fun f=>(P.info? f.type).map fun i=>(f.offset,i.size))=some b) (j:zv z.cells.toList g=true) (e:EL b parts.toList ms=true) (hx:wD σ.ev g ms=some cs):o.wp P a w (Nx B E w0 N (σ.put o.dst (.agg cs))) Q:=by obtain⟨s,H⟩:=O7 (w:=w) (G:=G) (h:=σ.h) j;obtain⟨d,q,C,e3⟩:=acZ r b parts.toList ms g cs z.cells e s (fun c e m hm=>absurd hm (H c e m)) hx;refine mN r (v:=.agg d) ?_ ⟨d.toList,by simp,C⟩ (fun m hm=>by obtain⟨c,e,hm⟩:=hm;grind) u;have y:P.built t (parts.map fun p=>(p.1,a.eval p.2)).toList=some d:=(by unfold Program.built;simp only[D,F,x,A,zan];exact q);have I:=run_build (P:=P) w t _ d y;simp only[execOp,l];simp[I]
theorem CR {α:Type} {xs:List (List α)} {l k j:Nat} {c:α} (h:At (xs.drop l) k j c):At xs (l+k) j c:=by obtain⟨e,a,b⟩:=h;rw[zau] at a;exact⟨e,a,b⟩
theorem at9 {b l:Nat} {px:List (List PC)} (h:bK b (px.drop l)):bK b px:=by obtain⟨k,j,c,d,a⟩:=h;exact⟨_,_,_,CR d,a⟩
theorem me.drop {px:List (List PC)} (h:me px) (l:Nat):me (px.drop l):= ⟨fun k j c a=>h.1 _ _ _ (CR a),fun k j c k' j' c' b a d f=>h.2 _ _ _ _ _ _ b (CR a) (CR d) (fun e=>f (by simp_all))⟩
theorem HR.aoX (H:HR B E w G h used []) {n sz cap:Nat} {x:Option Addr} {xs:List (List PC)} {m:Mode} (hg:Good w (.list sz x cap xs)) (X:Sep (.list sz x cap xs)) (ht:Hi w (.list sz x cap xs))
  (hl:∀b,m8 b (.list sz x cap xs)->sG G h b/\fB w b/\B<=b) (hn:used n=false):
  ∃G',HR B E w G' (aN h n (some (.row m.yU m sz (xs.map fun e=>e.map PC.er)))) (aN used n true) []/\
   bU w G h (fun n=>used n=true) w G' (aN h n (some (.row m.yU m sz (xs.map fun e=>e.map PC.er))))/\
   RC w G' (aN h n (some (.row m.yU m sz (xs.map fun e=>e.map PC.er)))) (.sl n sz 0 xs.length) (PC.val (.list sz x cap xs))/\
   ∀b,sG G h b->¬m8 b (.list sz x cap xs)->sG G' (aN h n (some (.row m.yU m sz (xs.map fun e=>e.map PC.er)))) b:=by
 obtain⟨fZ,j9,rW⟩:=ht;have f:∀b,bK b xs->bB b (.list sz x cap xs):=fun b ⟨k,j,c,v,A⟩=>.there _ _ _ _ k j c v A;have R:me xs:=by cases X with|list _ _ _ _ v A Q=>exact⟨v,Q⟩
 let S:Nat->Prop:=fun b=>m≠ .live/\bK b xs;have T:HR B E w ⟨fun b=>G.Im b\/S b,G.g⟩ h used []:=H.z7 S (fun b a=>(hl b (.inl (f b a.2))).2.1.lt)
  (fun b a q r J l=>(hl b (.inl (f b a.2))).1.2.1 q r J l.symm) (fun b a q u sz xs r=>(hl b (.inl (f b a.2))).1.2.2 q u _ sz xs r) (fun b a=>.inl (hl b (.inl (f b a.2))).2.2)
 obtain⟨p,P,iO,D,L,Xj,axB⟩:∃p:PB,(p.nl=true->xs=[]/\(true=true->p.cap=0))/\p.px=xs/\
   (p.nl=false->sG ⟨fun b=>G.Im b\/S b,G.g⟩ h p.b/\fB w p.b/\B<=p.b/\∀b,bK b xs->b≠p.b)/\
   (p.nl=false->rI w p.b p.o sz xs/\xs.length<=p.cap/\Ld w p sz)/\jD p sz 0 xs.length (PC.val (.list sz x cap xs))/\(p.nl=false->m8 p.b (.list sz x cap xs)):=by
  by_cases K:cap=0
  ·subst K;have hx:xs=[]:=AT (by omega);subst hx;exact⟨⟨true,0,0,0,[],x⟩,fun _=>⟨rfl,fun _=>rfl⟩,rfl,(fun d=>by cases d),(fun d=>by cases d),.inl ⟨rfl,rfl,rfl,rfl⟩,(fun d=>by cases d)⟩
  ·obtain⟨b,o,cur,e,rfl,hh,dn,Y,dD⟩:=rW.resolve_left K;have V:m8 b (.list sz (some (ad b o)) cap xs):=.inr ⟨_,_,_,_,rfl,K⟩;obtain⟨l1,l2,l3⟩:=hl b V;have U:∀N,bK N xs->N≠b:=fun N ⟨k,j,c,v,A⟩ l=>dD k j c v (l▸A);refine⟨⟨false,b,o,cap,xs,none⟩,(fun d=>by cases d),rfl,fun _=>⟨⟨fun t=>t.elim l1.1 (fun C=>U b C.2 rfl),l1.2⟩,l2,l3,U⟩,fun _=>⟨?_,j9,Y,cur,e,hh,dn⟩,.inr ⟨rfl,some (ad b o),by simp[PC.val],by grind,fun _=>by simp⟩,fun _=>V⟩;cases hg with
   |nil _ _ _ _=>exact⟨by simp,by rintro k j c ⟨e,l,_⟩;simp at l,by rintro k j c ⟨e,l,_⟩;simp at l⟩
   |cons _ _ _ _ _ v A Q h4 h5 h6=>exact⟨h4,h5,h6⟩
 subst iO;have f9:zn B E w ⟨fun b=>G.Im b\/S b,G.g⟩ m.yU m sz (p.px.map fun e=>e.map PC.er) p:=by
  refine⟨fZ,rfl,fun h=>⟨(P h).1,fun _=>(P h).2 rfl⟩,fun d=>⟨(D d).2.1,(L d).1,(L d).2.1⟩,fun d _=>(L d).2.2,?_,fun h hm=>by rw[hm] at h;cases h⟩;cases hm:m with
  |bh=>exact fun b a=>.inr ⟨by simp[hm],a⟩
  |bi=>exact⟨fun b a=>⟨.inr ⟨by simp[hm],a⟩,(hl b (.inl (f b a))).2.1,.inl (hl b (.inl (f b a))).2.2⟩,R⟩
  |live=>exact⟨fun b a=>⟨fun t=>t.elim (hl b (.inl (f b a))).1.1 (fun C=>C.1 hm),(hl b (.inl (f b a))).2.1,.inl (hl b (.inl (f b a))).2.2⟩,R⟩
 have Hn:=T.insert (w':=w) (n:=n) (blk:=.row m.yU m sz (p.px.map fun e=>e.map PC.er)) (p:=p) hn (fun _ _=>rfl) (zaj _)
  (fun d=>⟨(D d).1,.inl (D d).2.2.1,(D d).2.1.lt⟩) (fun cs c q a=>by cases a) (by exact f9)
  (fun u m' F I a hm M cq nA mC ko O kM b s=>(hl b (.inl (f b s))).1.2.2 M cq nA mC ko O)
  (fun u F I a b s=>⟨fun d=>(D d).2.2.2 b s,fun M O Z l=>(hl b (.inl (f b s))).1.2.1 M O Z l.symm⟩)
  (fun u m' F I a hm i pc b t=>by simp at t)
 refine⟨_,Hn,bU.trans (u2:=fun n=>used n=true) (fun _ h=>h) (bU.z7 S _) (bU.insert T hn (fun _ _=>rfl)),fun _=>by simpa[dd] using Xj,fun b a z=>?_⟩;refine⟨fun t=>t.elim a.1 (fun C=>z (.inl (f b C.2))),fun q r J l=>?_,fun q u W F I r s=>?_⟩
 ·by_cases y:q=n
  ·grind [dd]
  ·rw[dP _ _ _ _ y] at r;simp only[dP _ _ _ _ y] at J l;exact a.2.1 q r J l
 ·by_cases y:q=n
  ·subst y;simp only[dd] at s;exact z (.inl (f b s))
  ·rw[dP _ _ _ _ y] at r;simp only[dP _ _ _ _ y] at s;exact a.2.2 q u W F I r s
structure zg (B:Nat) (w:World) (G:Gh) (h:Nat->Option aV) (ps:List PC):Prop where
 fm:∀pc∈ps,Good w pc/\Sep pc/\Hi w pc
 lone:∀pc∈ps,∀b,m8 b pc->sG G h b/\fB w b/\B<=b
 qX:ps.Pairwise fun p q=>∀b,m8 b p->¬m8 b q
theorem zg.tail {p:PC} {ps:List PC} (a:zg B w G h (p::ps)) (hL:∀b,sG G h b->¬m8 b p->sG G' h' b):zg B w G' h' ps:= ⟨fun q c=>a.fm q (by simp[c]),fun q c b d=>⟨hL b (a.lone q (by simp[c]) b d).1 (fun e=>(zaV.1 a.qX).1 q c b e d),(a.lone q (by simp[c]) b d).2⟩,(zaV.1 a.qX).2⟩
theorem HR.imp {m:Mode}:∀{ps r:List PC} {σ σ1:St} {G:Gh} {nm i:Nat} {l:List ao},HR B E w G σ.h σ.used []->σ.imp m nm (ps.map PC.er)=some (l,i,σ1)->zg B w G σ.h (ps++r)->
  ∃G',HR B E w G' σ1.h σ1.used []/\bU w G σ.h (fun n=>σ.used n=true) w G' σ1.h/\eN w G' σ1.h l (ps.map PC.val)/\(∀c∈l,∀q,c.ref q->σ1.used q=true)/\σ1.env=σ.env/\
   (∀q,σ.used q=true->σ1.used q=true)/\zg B w G' σ1.h r
 |[],r,σ,σ1,G,nm,i,l,H,hx,hi=>by
  simp only[zaI,St.imp] at hx;injection hx with hx;injection hx with t e;injection e with e h3;subst t h3;exact⟨G,H,bU.refl _ _ _ _,⟨rfl,by simp⟩,by simp,rfl,fun _ h=>h,by simpa using hi⟩
 |p::ps,r,σ,σ2,G,nm,i,l,H,hx,hi=>by
  have gI:∀(x:C) (hx:(match σ.imp m nm (ps.map PC.er) with|some (l,i,σ2)=>some (ao.c x::l,i,σ2)|none=>none)=some (l,i,σ2)) (L:p.er=x) (N:∀b,¬m8 b p) (M:Good w p),
    ∃G',HR B E w G' σ2.h σ2.used []/\bU w G σ.h (fun n=>σ.used n=true) w G' σ2.h/\eN w G' σ2.h l ((p::ps).map PC.val)/\(∀c∈l,∀q,c.ref q->σ2.used q=true)/\σ2.env=σ.env/\
     (∀q,σ.used q=true->σ2.used q=true)/\zg B w G' σ2.h r:=by
   intro x hx L N M;split at hx
   ·rename_i T P X A;injection hx with hx;injection hx with t e;injection e with e h3;subst t e h3;obtain⟨G',D,z,v,F,J,y,K⟩:=HR.imp H A (hi.tail (fun b a _=>a));refine⟨G',D,z,⟨by simp[v.1],fun j c u o g=>?_⟩,fun c f q d=>?_,J,y,K⟩
    ·cases j with
     |zero=>
      simp at o g;subst o;subst g;exact⟨PC.nW p,p,L,rfl,M,fun b a=>absurd (.inl a) (N b)⟩
     |succ j=>exact v.2 j c u (by simpa using o) (by simpa using g)
    ·cases f with
     |head=>exact absurd d id
     |tail _ f=>exact F c f q d
   ·cases hx
  cases p with
  |int k n=>exact gI (.int k n) (by grind [St.imp,PC.er]) (by simp[PC.er]) (fun b a=>by rcases a with a|⟨_,_,_,_,a,_⟩<;>cases a) (.int _ _)
  |bool b=>exact gI (.bool b) (by grind [St.imp,PC.er]) (by simp[PC.er]) (fun b a=>by rcases a with a|⟨_,_,_,_,a,_⟩<;>cases a) (.bool _)
  |list sz x cap xs=>
   simp only[IT,PC.fk,St.imp] at hx;split at hx
   ·rename_i σ1 A;split at hx
    ·rename_i T P X S;injection hx with hx;injection hx with t e;injection e with e h3;subst t e h3;obtain⟨hn,rfl⟩:=oR A;obtain⟨R,U,O⟩:=hi.fm (.list sz x cap xs) (by simp);obtain⟨G1,W,Q,Y,V⟩:=H.aoX (m:=m) R U O (hi.lone (.list sz x cap xs) (by simp)) hn;obtain⟨G',D,z,v,F,J,y,K⟩:=HR.imp W S (hi.tail V);have s:∀q,σ.used q=true->aN σ.used nm true q=true:=fun q d=>sD _ _ d;refine⟨G',D,bU.trans s Q z,⟨by simp[v.1],fun j c u o g=>?_⟩,fun c f q d=>?_,J,fun q d=>y q (s q d),K⟩
     ·cases j with
      |zero=>
       simp at o g;subst o;subst g;exact⟨rfl,Y.d9 z fun q d=>by have I:q=nm:=d;subst I;exact dd _ _ _⟩
      |succ j=>exact v.2 j c u (by grind) (by simpa using g)
     ·cases f with
      |head=>have I:q=nm:=d;subst I;exact y _ (dd _ _ _)
      |tail _ f=>exact F c f q d
    ·cases hx
   ·cases hx
theorem HR.nQ {m:Mode}:∀{b:List (K×List PC)} {σ σ1:St} {G:Gh} {nm:Nat} {a:List (Bool×List ao)},HR B E w G σ.h σ.used []->σ.nQ m nm (b.map fun p=>(p.1,p.2.map PC.er))=some (a,σ1)->
  (∀p∈b,p.1≠ .ptr/\(p.1=.one->p.2.length=1))->zg B w G σ.h (b.flatMap (·.2))->
  ∃G',HR B E w G' σ1.h σ1.used []/\bU w G σ.h (fun n=>σ.used n=true) w G' σ1.h/\a.length=b.length/\
   (∀(j:Nat) (x:Bool×List ao) (p:K×List PC),a[j]? =some x->b[j]? =some p->RV w G' σ1.h x.1 x.2 (uZ p))/\(∀x∈a,∀c∈x.2,∀q,c.ref q->σ1.used q=true)/\σ1.env=σ.env/\
   (∀q,σ.used q=true->σ1.used q=true)
 |[],σ,σ1,G,nm,a,H,hx,hk,hi=>by
  simp only[zaI,St.nQ] at hx;injection hx with hx;injection hx with e h2;subst e h2;exact⟨G,H,bU.refl _ _ _ _,rfl,by simp,by simp,rfl,fun _ h=>h⟩
 |(k,ps)::b,σ,σ2,G,nm,a,H,hx,hk,hi=>by
  have v:=hk (k,ps) (by simp);have d:(match σ.imp m nm (ps.map PC.er) with
   |some (l,i,σ1)=>match σ1.nQ m i (b.map fun p=>(p.1,p.2.map PC.er)) with
    |some (a,σ2)=>some ((decide (k=.agg),l)::a,σ2)
    |none=>none
   |none=>none)=some (a,σ2):=by
   cases k with
   |ptr=>exact absurd rfl v.1
   |one=>simp[St.nQ] at hx;exact hx
   |agg=>simp[St.nQ] at hx;exact hx
  clear hx;split at d
  ·rename_i l i σ1 y;split at d
   ·rename_i NE jX F;injection d with hx;injection hx with e h2;subst e h2;obtain⟨G1,L,z,N,J,M,o,C⟩:=HR.imp H y (by simpa using hi);obtain⟨G',A,t,O,I,b5,D,P⟩:=HR.nQ L F (fun p f=>hk p (by simp[f])) C;refine⟨G',A,bU.trans o z t,by simp[O],fun j x p s f=>?_,fun x hx c r q g=>?_,D.trans M,fun q g=>P q (o q g)⟩
    ·cases j with
     |zero=>
      simp at s f;subst s;subst f;have u:=eN.d9 t (fun c r q g=>J c r q g) N;cases k with
      |ptr=>grind
      |agg=>exact⟨ps.map PC.val,rfl,u⟩
      |one=>
       have e:=v.2 rfl;match ps,e with
       |[p],_=>exact u
     |succ j=>exact I j x p (by grind) (by grind)
    grind
   ·cases d
  ·cases d
theorem RA.pL {e:List (Bool×List ao)} {a:List (K×List PC)} (d:e.length=a.length) (hk:∀p∈a,p.1≠ .ptr/\(p.1=.one->p.2.length=1))
  (g:∀(j:Nat) (x:Bool×List ao) (p:K×List PC),e[j]? =some x->a[j]? =some p->RV w G h x.1 x.2 (uZ p)):RA w G h (pL e) (yW a):=by
 match e,a,d with
 |[],[],_=>exact⟨[],rfl,rfl,by simp⟩
 |[(ag,cs)],[p],_=>
  have f:=g 0 (ag,cs) p rfl rfl;cases ag with
  |true=>exact f
  |false=>
   have i:eN w G h cs [uZ p]:=f;match cs,i.1 with
   |[c],_=>exact .inr f
 |x::y::e,p::q::a,hl=>
  refine⟨(p::q::a).map uZ,rfl,by grind,fun j x' u l b=>?_⟩;rw[wt] at b;cases hp:(p::q::a)[j]? with
  |none=>rw[hp] at b;cases b
  |some k=>rw[hp] at b;simp at b;subst b;exact g j x' k l hp
def OR (P:Program) (T:bz):Prop:=∀f M,bz.find T.pure f=some M->eI P f M
def cB (P:Program) (f:FuncId):Bool:=
 match P.funcs[f]? with
 |some fn=>fn.body.isSome&&(fn.name != "runtime.NumGoroutine")
 |none=>false
theorem JU {f:FuncId} (a:cB P f=true) (args:Array Value):(callFunc f args).run P w=.ok (.enter f args) w:=by unfold cB at a;split at a;rename_i fn d;simp only[zab,bne_iff_ne,ne_eq] at a;obtain⟨h1,b⟩:=a;(cases hb:fn.body with|none=>simp_all|some c=>simp[callFunc,d,b,hb]);cases a
theorem Fr.call (F:Fr B E w0 w) (a:Fr w.heap.size Ex.no w w'):Fr B E w0 w':= F.grow (fun b c=>a.block b c id) a.size a.os a.tape a.output
theorem al7 (r:R B E w0 N σ a w G) {T:bz} (hT:OR P T) {m:Mode} {f:FuncId} {as:List aw} {vals:List Value} {σ1:St} (F:∀n,o.dst=some n->n<N)
  (cG:(execOp a.eval o).run P w=.ok (.enter f vals.toArray) w) (hl:vals.length=as.length)
  (S:∀(j:Nat) (x:aw) (v:Value),as[j]? =some x->vals[j]? =some v->RA w G σ.h x v)
  (hx:C4 T m o.dst f as σ=some σ1):o.wp P a w (Nx B E w0 N σ1) Q:=by
 unfold C4 at hx;split at hx
 ·rename_i ds O;split at hx
  ·rename_i M hM;split at hx
   ·rename_i C X;split at hx
    ·rename_i p σ2 s;injection hx with hx;subst hx;have V:=r.hr.qk O hl S;unfold Oper.wp;rw[cG];refine(hT f M hM ds C X w vals V).mono fun e w' ⟨bJ,p1,D,z,p4,l⟩=>?_;subst D;have t:∀b,b<w.heap.size->w'.heap[b]? =w.heap[b]? :=fun b g=>l.block b g id;have H':=r.hr.grow t l.size;have d6:zg B w' G σ.h (bJ.flatMap (·.2)):=by
      refine⟨p4.fm,fun pc bZ b g=>?_,?_⟩
      ·obtain⟨n1,L⟩:=p4.new pc bZ b g;refine⟨⟨fun k=>?_,fun q d H he=>?_,fun q gr mo sz xs d J=>?_⟩,L,zam r.fr.size n1⟩
       ·have:=r.hr.jG b k;omega
       ·have:=(r.hr.own q d H).2.2;omega
       ·have:=r.hr.tK d J;omega
      ·rw[List.pairwise_iff_getElem];intro i j k Z lN b g;exact p4.qX i j _ _ b (by omega) (AN k) (AN Z) g
     rw[<-p1] at s;obtain⟨G',I,b2,b3,Y,A,U,W⟩:=HR.nQ H' s z d6;have K:bU w G σ.h (fun n=>σ.used n=true) w' G' σ2.h:=bU.trans (fun _ h=>h) (bU.world (fun b g=>t b (r.hr.jG b g)) _) b2;have r2:R B E w0 N σ2 a w' G':=r.step U W K I (r.fr.call l);refine⟨G',r2.put (RA.pL b3 z Y) ?_ F⟩;intro q d;match p,d with
     |[],d=>obtain⟨x,hx,_⟩:=d;simp at hx
     |[(true,cs)],d=>obtain⟨c,u,d⟩:=d;exact A (true,cs) (by simp) c u q d
     |[(false,[c])],d=>exact A (false,[c]) (by simp) c (by simp) q d
     |[(false,[])],d=>exact absurd d id
     |[(false,_::_::_)],d=>exact absurd d id
     |x::y::p,d=>obtain⟨x',pC,c,u,d⟩:=d;grind
    ·cases hx
   ·cases hx
  ·cases hx
 ·cases hx
theorem atZ {b:List (Bool×List ao)} {q:Nat} (e:∀x∈b,∀c∈x.2,¬c.ref q):¬(pL b).ref q:=by
 intro a;match b,a with
 |[],a=>obtain⟨x,hx,_⟩:=a;simp at hx
 |[(true,cs)],a=>obtain⟨c,d,a⟩:=a;simp_all
 |[(false,[c])],a=>exact e (false,[c]) (by simp) c (by simp) a
 |[(false,[])],a=>exact a
 |[(false,_::_::_)],a=>exact a
 |x::y::b,a=>obtain⟨x',pC,c,d,a⟩:=a;grind
def mn:List Operand->List MO->Bool
 |[],[]=>true
 |x::xs,m::ms=>cX x m&&mn xs ms
 |_,_=>false
theorem R.HV (r:R B E w0 N σ a w G):∀{xs:List Operand} {ms:List MO},mn xs ms=true->xs.length=ms.length/\ ∀(j:Nat) (x:aw) (v:Value),(ms.map σ.ev)[j]? =some x->(xs.map a.eval)[j]? =some v->RA w G σ.h x v
 |[],[],_=>⟨rfl,by simp⟩
 |x::xs,m::ms,hc=>by simp only[mn,zab] at hc;obtain⟨e,d⟩:=r.HV hc.2;refine⟨by simp[e],fun j x' v b c=>?_⟩;cases j with|zero=>simp at b c;subst b;subst c;exact(r.ev hc.1).1|succ j=>exact d j x' v (by simpa using b) (by simpa using c)
 |[],_::_,hc=>by simp[mn] at hc
 |_::_,[],hc=>by simp[mn] at hc
theorem alY (r:R B E w0 N σ a w G) {T:bz} (c:OR P T) {m:Mode} {f:FuncId} {xs:Array Operand} {ms:List MO} {ts:Array TypeId} {σ1:St} (d:∀n,o.dst=some n->n<N) (e:o.op=.call {callee:=.value (.func f),args:=xs,argTypes:=ts}) (b:cB P f=true) (hm:mn xs.toList ms=true) (hx:C4 T m o.dst f (ms.map σ.ev) σ=some σ1):o.wp P a w (Nx B E w0 N σ1) Q:=by obtain⟨e1,g⟩:=r.HV hm;refine al7 r c (vals:=xs.toList.map a.eval) d ?_ (by grind) g hx;have h:(xs.toList.map a.eval).toArray=xs.map a.eval:=(by apply Array.ext';simp);rw[h];simp[execOp,e,resolve,Deferred.ofValue,invoke,Act.eval,JU b]
end
def hZ {α:Type}:List (Option Mode)->List α->List (Mode×α)
 |some m::fs,x::xs=>(m,x)::hZ fs xs
 |none::fs,_::xs=>hZ fs xs
 |_,_=>[]
def sC {α:Type}:List (Option Mode)->List α->List α
 |some _::fs,_::xs=>sC fs xs
 |none::fs,x::xs=>x::sC fs xs
 |[],xs=>xs
 |_,[]=>[]
def fx {α:Type}:df->List (List α)->List (Mode×α)
 |s::sig,xs::xss=>hZ s xs++fx sig xss
 |_,_=>[]
def vg {α:Type}:df->List (List α)->List α
 |s::sig,xs::xss=>sC s xs++vg sig xss
 |[],xss=>xss.flatten
 |_,[]=>[]
theorem Py {α β:Type} (f:α->β):∀(s:List (Option Mode)) (xs:List α),hZ s (xs.map f)=(hZ s xs).map fun x=>(x.1,f x.2)
 |some m::fs,x::xs=>by simp only[IT,hZ,Py f fs xs]
 |none::fs,x::xs=>by simp only[IT,hZ,Py f fs xs]
 |[],_=>by simp[hZ]
 |some m::fs,[]=>rfl
 |none::fs,[]=>rfl
theorem HX {α β:Type} (f:α->β):∀(s:df) (xs:List (List α)),fx s (xs.map fun l=>l.map f)=(fx s xs).map fun x=>(x.1,f x.2)
 |s::sig,xs::xss=>by simp only[IT,fx,zaJ,Py f s xs,HX f sig xss]
 |[],_=>by simp[fx]
 |s::sig,[]=>rfl
def Rn (s:List (Option Mode)) (n:Nat):Prop:=s=[]\/∃j,n=j+1/\s=IS j none++[some .bi]
theorem acS {α:Type} (m:Mode) (y:α):∀(xs:List α),hZ (IS xs.length none++[some m]) (xs++[y])=[(m,y)]
 |[]=>rfl
 |x::xs=>acS m y xs
theorem aju {α:Type} (m:Mode) (y:α):∀(xs:List α),sC (IS xs.length none++[some m]) (xs++[y])=xs
 |[]=>rfl
 |x::xs=>congrArg (x::·) (aju m y xs)
structure EB (w:World) (m:Mode) (pc:PC):Prop where
 sep:Sep pc
 un:∀b,bB b pc->fB w b
 f6:∃sz a cap xs,pc=.list sz a cap xs/\0<sz/\(∀b o,a=some (ad b o)->¬bK b xs)/\zD m (xs.map fun e=>e.map PC.er)=true
structure PA where
 k:K
 ps:List PC
 b:Nat
 o:Nat
def Ep (w:World) (d:Dv) (v:Value) (p:PA):Prop:=
 d=(p.k,p.ps.map PC.er)/\(∀pc∈p.ps,Good w pc)/\
 match p.k with
 |.one=>p.ps.map PC.val=[v]
 |.agg=>v=.agg (p.ps.map PC.val).toArray
 |.ptr=>v=.pointer (some (ad p.b p.o))/\p.b<w.heap.size/\∀j c,p.ps[j]? =some c->w.cell? (ad p.b (p.o+j))=some c.val
structure CK (w:World) (sig:df) (ds:List Dv) (vals:List Value) (pas:List PA):Prop where
 l1:vals.length=ds.length
 l2:pas.length=ds.length
 at_:∀(i:Nat) (d:Dv) (v:Value) (p:PA),ds[i]? =some d->vals[i]? =some v->pas[i]? =some p->Ep w d v p
 ok:∀x∈fx sig (pas.map (·.ps)),EB w x.1 x.2
 qX:(fx sig (pas.map (·.ps))).Pairwise fun x y=>∀b,bB b x.2->¬bB b y.2
 free:∀pc∈vg sig (pas.map (·.ps)),∀x∈fx sig (pas.map (·.ps)),∀b,bB b pc->¬bB b x.2
 ptr:∀p∈pas,p.k=.ptr->∀x∈fx sig (pas.map (·.ps)),¬bB p.b x.2
 ar4:∀(i:Nat) (p:PA) (s:List (Option Mode)),pas[i]? =some p->sig[i]? =some s->p.k=.ptr->Rn s p.ps.length
def C8 (fl:List (Mode×PC)):Ex:=⟨fun b=>∃x∈fl,bB b x.2,fun _=>none,fun _ _ h=>(by cases h),fun _=>True⟩
structure vl (w:World) (m:Mode) (pc fP:PC):Prop where
 val:fP.val=pc.val
 fm:Good w fP
 sep:Sep fP
 sub:∀b,bB b fP->bB b pc
 flat:zD m (match fP.er with|.list _ xs=>xs|_=>[])=true
 live:∀sz a cap xs bf a' oJ aM,pc=.list sz a cap xs->fP=.list bf a' oJ aM->bf=sz/\a'=a/\oJ=cap/\aM.length=xs.length/\
  (m=.live->∀k j c,At xs k j c->c.kO=true->∃c',At aM k j c'/\c'.val=c.val/\c'.kO=true)
def zi (P:Program) (f:FuncId) (sig:df) (M:List Dv->Option (List Dv×List C)):Prop:=
 ∀ds rs fy,M ds=some (rs,fy)->∀(w:World) (vals:List Value) (pas:List PA),CK w sig ds vals pas->Calls P f vals.toArray w fun e w'=>
  ∃bJ:List (K×List PC),bJ.map (fun p=>(p.1,p.2.map PC.er))=rs/\e=.returned (yW bJ)/\(∀p∈bJ,p.1≠ .ptr/\(p.1=.one->p.2.length=1))/\
   xW w' w.heap.size (bJ.flatMap (·.2))/\Fr w.heap.size (C8 (fx sig (pas.map (·.ps)))) w w'/\
   ∃qs:List PC,qs.map PC.er=fy/\qs.length=(fx sig (pas.map (·.ps))).length/\
    ∀(i:Nat) (x:Mode×PC) (q:PC),(fx sig (pas.map (·.ps)))[i]? =some x->qs[i]? =some q->vl w' x.1 x.2 q
section
variable {B N:Nat} {E:Ex} {w0 w w':World} {G G':Gh} {h h':Nat->Option aV} {used:Nat->Bool} {P:Program} {o:Oper} {a:Act} {σ σ':St} {Q:Exit->Act->World->Prop}
def tL (sz:Nat) (p:PB):PC:=.list sz (if p.nl=true then p.na else some (ad p.b p.o)) p.cap p.px
theorem ahr {a:Bool} {m:Mode} {sz:Nat} {xs:List (List C)} {p:PB} (hr:zn B E w G a m sz xs p):(tL sz p).er=.list sz xs:=by rw[tL,PC.fk,hr.er]
theorem auc {b:Bool} {m:Mode} {sz:Nat} {xs:List (List C)} {p:PB} (hr:zn B E w G b m sz xs p) {v:Value} (c:jD p sz 0 xs.length v):(tL sz p).val=v:=by have d:p.px.length=xs.length:=(by rw[hr.er];simp);rcases c with⟨hn,rfl,_,hl⟩|⟨hn,a,rfl,hc,ha⟩;simp[tL,PC.val,hn,d,hl];simp_all [tL,PC.val]
theorem aub {e:Bool} {m:Mode} {sz:Nat} {xs:List (List C)} {p:PB} (hr:zn B E w G e m sz xs p):Good w (tL sz p):=by unfold tL;by_cases a:p.px=[];rw[a];exact .nil _ _ _ hr.pos;have c:p.nl=false:=(by cases hq:p.nl with|false=>rfl|true=>exact absurd (hr.nl hq).1 a);obtain⟨a1,b,d⟩:=hr.f6 c;rw[aq (by simp[c])];exact .cons _ _ _ _ _ a d hr.pos b.1 b.2.1 b.2.2
theorem Zr {sz:Nat} {p:PB} {b:Nat} (hn:p.nl=true->p.px=[]) (h:bB b (tL sz p)):(p.nl=false/\b=p.b)\/bK b p.px:=by unfold tL at h;rw[bB.oZ] at h;rcases h with⟨h0,o,a⟩|⟨k,j,c,e,d⟩;(cases hq:p.nl with|true=>simp_all|false=>rw[hq] at a;simp at a;exact .inl ⟨rfl,(pn a).1.symm⟩);exact .inr ⟨k,j,c,e,d⟩
def yh (G:Gh) (n b:Nat):Prop:=((G.g n).nl=false/\b=(G.g n).b)\/bK b (G.g n).px
structure zh (B:Nat) (E:Ex) (w:World) (G:Gh) (h:Nat->Option aV) (it:e7) (md:Mode) (pc:PC):Prop where
 ok:EB w md pc
 fm:Good w pc
 at_:match it with
  |.nil sz=>pc=.list sz none 0 []
  |.row n=>∃gr m sz xs,h n=some (.row gr m sz xs)/\m≠ .bh/\(md=.live->m=.live)/\pc=tL sz (G.g n)/\zD md xs=true/\(m=.live->gr=false)
  |.nest n k off=>∃gr sz xs,h n=some (.row gr .live sz xs)/\md=.bi/\At (G.g n).px k off pc/\gr=false
theorem zh.ra {it:e7} {p:Mode} {pc:PC} (H:HR B E w G h used []) (i:zh B E w G h it p pc) {b:Nat} (d:bB b pc): ∃n a m sz xs,it.g0=some n/\h n=some (.row a m sz xs)/\m≠ .bh/\yh G n b/\((∀b,¬bK b (G.g n).px)\/m=.live):=by have l:=i.at_;cases it with|nil sz=>have l:pc=.list sz none 0 []:=l;subst l;rw[bB.oZ] at d;rcases d with⟨d,_⟩|⟨k,j,c,⟨e,r,_⟩,_⟩;simp_all;simp at r|row n=>obtain⟨a,m,sz,xs,o,t,s,rfl,q,_⟩:=l;have hr:=H.row n a m sz xs o;refine⟨n,a,m,sz,xs,rfl,o,t,Zr (fun A=>(hr.nl A).1) d,?_⟩;(cases p with|live=>simp_all|bh=>cases q|bi=>left;intro u x;have f:gU xs=true:=q;rw[hr.er] at f;obtain⟨k,j,c,⟨e,r,hj⟩,z⟩:=x;have v:=If.1 f (e.map PC.er) (by grind);have y:=If.1 v c.er (by grind);exact(Sep.kC y).2 u z)|nest n k off=>obtain⟨a,sz,xs,o,t,s,_⟩:=l;exact⟨n,a,.live,sz,xs,rfl,o,by simp,.inr ⟨k,off,pc,s,d⟩,.inr rfl⟩
theorem HR.L9 (H:HR B E w G h used []) {n c:Nat} (y:n≠c) {a i:Bool} {m z:Mode} {sz r:Nat} {xs o:List (List C)} (j:h n=some (.row a m sz xs)) (s:h c=some (.row i z r o)) (k:(∀b,¬bK b (G.g c).px)\/z=.live) {b:Nat} (v:yh G n b):¬yh G c b:=by have D:h n≠none:=(by rw[j];simp);have F:h c≠none:=(by rw[s];simp);have own:∀{p q:Nat} {a:Bool} {m:Mode} {sz:Nat} {xs:List (List C)},h p≠none->h q=some (.row a m sz xs)->(G.g p).nl=false->¬bK (G.g p).b (G.g q).px:=(by intro p q a m sz xs f A hl l;have x:=(H.row q a m sz xs A).mode;cases m with|bh=>exact(H.own p f hl).1 (x _ l)|bi=>exact(H.own p f hl).1 (x.1 _ l).1|live=>exact H.live q a sz xs A _ l p f hl rfl);rintro(⟨l2,rfl⟩|e);rcases v with⟨l1,d⟩|d;exact H.inj n c D F y l1 l2 d.symm;grind;rcases v with⟨l1,rfl⟩|d;grind;rcases k with k|rfl;exact k b e;have u:=(H.row c i .live r o s).mode;have t:=(H.row n a m sz xs j).mode;cases m with|bh=>exact(u.1 b e).1 (t b d)|bi=>exact(u.1 b e).1 (t.1 b d).1|live=>exact H.jE n c a .live sz xs i .live r o j s (by simp) (by simp) y b d e
theorem HR.item (H:HR B E w G h used []) {y:Mode} {c:ao} {it:e7} {x:C} {v:Value} (hx:yT h y c=some (it,x)) (r:RC w G h c v):
  ∃pc:PC,pc.er=x/\pc.val=v/\zh B E w G h it y pc/\it.g0=c.g0:=by
 unfold yT at hx;split at hx
 ·rename_i sz;split at hx
  ·rename_i M;injection hx with hx;injection hx with t h2;subst t h2;have Z:v=.slice none 0 0:=r;subst Z;refine⟨.list sz none 0 [],by simp[PC.fk],rfl,⟨⟨?_,?_,sz,none,0,[],rfl,M.1,(fun b o h=>by cases h),?_⟩,.nil _ _ _ M.1,rfl⟩,rfl⟩
   ·refine .list _ _ _ _ ?_ ?_ ?_
    ·rintro k j c ⟨e,d,_⟩;simp at d
    ·simp_all
    ·rintro k j c k' j' c' b ⟨e,d,_⟩;simp at d
   ·intro b a;rw[bB.oZ] at a;rcases a with⟨a,_⟩|⟨k,j,c,⟨e,d,_⟩,_⟩
    ·simp_all
    ·simp at d
   ·cases y with
    |bh=>simp_all
    |bi=>rfl
    |live=>rfl
  ·cases hx
 ·rename_i n sz lo len;split at hx
  ·rename_i z m f xs hn;split at hx
   ·rename_i A;obtain⟨hm,Fo,rfl,rfl,rfl,u,Fb⟩:=A;injection hx with hx;injection hx with t h2;subst t h2;have F:h n≠none:=by rw[hn];simp
    have hs:jD (G.g n) f 0 xs.length v:=r F;have hr:=H.row n z m f xs hn;have vV:(∀b,bK b (G.g n).px->fB w b)/\me (G.g n).px/\(∀b,bK b (G.g n).px->(G.g n).nl=false->b≠(G.g n).b):=by
     have q:=hr.mode;cases m with
     |bh=>simp_all
     |bi=>exact⟨fun b a=>(q.1 b a).2.1,q.2,fun b a hl X=>(H.own n F hl).1 (X▸(q.1 b a).1)⟩
     |live=>exact⟨fun b a=>(q.1 b a).2.1,q.2,fun b a hl=>H.live n z f xs hn b a n F hl⟩
    obtain⟨o1,J,U⟩:=vV;have K:∀b o,(if(G.g n).nl=true then(G.g n).na else some (ad (G.g n).b (G.g n).o))=some (ad b o)->¬bK b (G.g n).px:=by
     intro b o p l;cases i:(G.g n).nl with
     |true=>rw[(hr.nl i).1] at l;obtain⟨k,j,c,⟨e,d,_⟩,_⟩:=l;simp at d
     |false=>
      rw[i] at p;simp at p;exact U b l i (pn p).1.symm
    refine⟨tL f (G.g n),ahr hr,auc hr hs,⟨⟨.list _ _ _ _ J.1 (fun b o k j c p Y a=>K b o p ⟨k,j,c,Y,a⟩) J.2,fun b a=>?_,f,_,_,_,rfl,hr.pos,K,by rw[<-hr.er];exact u⟩,aub hr,
     z,m,f,xs,hn,hm,Fo,rfl,u,Fb⟩,rfl⟩
    rcases Zr (fun i=>(hr.nl i).1) a with⟨hl,rfl⟩|l
    ·exact(hr.f6 hl).1
    simp_all
   ·cases hx
  ·cases hx
 ·rename_i n k aZ off sz len;split at hx
  ·rename_i f xs hn;split at hx
   ·rename_i A;obtain⟨rfl,rfl⟩:=A;split at hx
    ·rename_i s ys D;split at hx
     ·rename_i u;injection hx with hx;injection hx with t h2;subst t h2;obtain⟨pc,p1,Q,O⟩:=r false xs hn;have hr:=H.row n false .live f xs hn;have bq:(G.g n).nl=false:=by
       cases i:(G.g n).nl with
       |false=>rfl
       |true=>obtain⟨e,d,_⟩:=p1;rw[(hr.nl i).1] at d;simp at d
      have L:Good w pc:=(hr.f6 bq).2.1.2.2 _ _ _ p1;have I:pc.er=.list s ys:=by
       obtain⟨e,d,N⟩:=p1;rw[hr.er] at D;simp[d,N] at D;exact D
      have W:=hr.mode.2.1 _ _ _ p1;cases pc with
      |int k n=>cases O
      |bool b=>cases O
      |list s' V oJ px'=>
       rw[PC.fk] at I;injection I with T g2;subst T;have P:gU (px'.map fun e=>e.map PC.er)=true:=by rw[g2];exact u
       refine⟨_,by rw[PC.fk,g2],Q,⟨⟨W,fun b a=>(hr.mode.1 b ⟨k,off,_,p1,a⟩).2.1,s',V,oJ,px',rfl,?_,fun b o _ l=>?_,P⟩,L,false,f,xs,hn,rfl,p1,rfl⟩,rfl⟩
       ·cases L with
        |nil _ _ _ h=>exact h
        |cons _ _ _ _ _ _ _ h=>exact h
       ·obtain⟨kk,jj,c,⟨e,d,N⟩,r⟩:=l;have R:=If.1 P (e.map PC.er) (by grind);have S:=If.1 R c.er (by grind);exact(Sep.kC S).2 b r
     ·cases hx
    ·cases hx
   ·cases hx
  ·cases hx
 ·cases hx
theorem HR.aaR (H:HR B E w G h used []) {c:ao} {x:C} {v:Value} (hx:Am.dX h c=some x) (l:RC w G h c v): ∃pc:PC,pc.er=x/\pc.val=v/\Good w pc/\∀b,bB b pc->G.Im b\/∃n a m sz xs,c.g0=some n/\h n=some (.row a m sz xs)/\yh G n b:=by cases c with|c y=>simp only[Am.dX] at hx;injection hx with hx;subst hx;obtain⟨pc,h1,h2,h3,h4⟩:=l;grind|nil sz=>simp only[Am.dX] at hx;split at hx;rename_i r;injection hx with hx;subst hx;have s:v=.slice none 0 0:=l;subst s;refine⟨.list sz none 0 [],by simp[PC.fk],rfl,.nil _ _ _ r,fun b d=>?_⟩;rw[bB.oZ] at d;rcases d with⟨d,_⟩|⟨k,j,c,⟨e,i,_⟩,_⟩;simp_all;simp at i;cases hx|sl n sz lo len=>simp only[Am.dX] at hx;split at hx;rename_i a m f xs hn;split at hx;rename_i o;obtain⟨rfl,hl⟩:=o;injection hx with hx;subst hx;have z:jD (G.g n) f lo len v:=l (by rw[hn];simp);obtain⟨u,q,A,t⟩:=Ka (H.row n a m f xs hn) z hl;exact⟨_,u,q,A,fun b d=>.inr ⟨n,a,m,f,xs,rfl,hn,t b d⟩⟩;cases hx;cases hx|cF n k aZ off sz len=>simp only[Am.dX] at hx;split at hx;rename_i a f xs hn;split at hx;rename_i o;subst o;obtain⟨pc,p1,p,p3⟩:=l a xs hn;have hr:=H.row n a .live f xs hn;have D:(G.g n).nl=false:=(by cases hq:(G.g n).nl with|false=>rfl|true=>obtain⟨e,i,_⟩:=p1;rw[(hr.nl hq).1] at i;simp at i);refine⟨pc,?_,p,(hr.f6 D).2.1.2.2 _ _ _ p1,fun b d=>.inr ⟨n,a,.live,f,xs,rfl,hn,.inr ⟨k,off,pc,p1,d⟩⟩⟩;obtain⟨e,i,hj⟩:=p1;rw[hr.er] at hx;simp_all;cases hx;cases hx|ptr _ _ _ _=>simp[Am.dX] at hx|ez _ _=>simp[Am.dX] at hx|dE _ _ _ _ _ _=>simp[Am.dX] at hx|fn _ _=>simp[Am.dX] at hx|eE _ _ _ _ _ _=>simp[Am.dX] at hx|cj=>simp[Am.dX] at hx
theorem aeS {ns:List Nat} {n:Nat} {b:aV} (hx:fq h ns n=some b):h n=some b/\n∉ns:=by simp_all [fq]
theorem ajC {ns:List Nat} {c:ao} {x:C} (hx:dX (fq h ns) c=some x):dX h c=some x/\∀n,c.g0=some n->n∉ns:=by cases c with|c y=>exact⟨hx,by intro n hn;cases hn⟩|nil sz=>exact⟨hx,by intro n hn;cases hn⟩|sl n sz lo len=>simp only[Am.dX] at hx;split at hx;rename_i e m d xs hn;obtain⟨b,f⟩:=aeS hn;exact⟨by simp only[Am.dX,b];exact hx,by intro q a;injection a with a;simp_all⟩;cases hx|cF n k aZ off sz len=>simp only[Am.dX] at hx;split at hx;rename_i e d xs hn;obtain⟨b,f⟩:=aeS hn;exact⟨by simp only[Am.dX,b];exact hx,by intro q a;injection a with a;simp_all⟩;cases hx|ptr _ _ _ _=>simp[Am.dX] at hx|ez _ _=>simp[Am.dX] at hx|dE _ _ _ _ _ _=>simp[Am.dX] at hx|fn _ _=>simp[Am.dX] at hx|eE _ _ _ _ _ _=>simp[Am.dX] at hx|cj=>simp[Am.dX] at hx
def OK (G:Gh) (h:Nat->Option aV) (ns:List Nat) (pc:PC):Prop:=
 ∀b,bB b pc->G.Im b\/∃n gr m sz xs,n∉ns/\h n=some (.row gr m sz xs)/\yh G n b
structure qS (B:Nat) (E:Ex) (w:World) (G:Gh) (h:Nat->Option aV) (its:List (e7×Mode)) (fl:List (Mode×PC)):Prop where
 len:its.length=fl.length
 at_:∀(i:Nat) (it:e7×Mode) (x:Mode×PC),its[i]? =some it->fl[i]? =some x->it.2=x.1/\zh B E w G h it.1 x.1 x.2
theorem qS.nil:qS B E w G h [] []:=⟨rfl,by simp_all⟩
theorem qS.cons {it:e7×Mode} {a:List (e7×Mode)} {x:Mode×PC} {fl:List (Mode×PC)} (h1:it.2=x.1) (h2:zh B E w G h it.1 x.1 x.2) (b:qS B E w G h a fl):qS B E w G h (it::a) (x::fl):=by refine⟨by simp[b.len],fun i c x' d hx=>?_⟩;cases i with|zero=>simp_all|succ i=>exact b.at_ i c x' (by simpa using d) (by simpa using hx)
theorem qS.append {a f:List (e7×Mode)} {fl c:List (Mode×PC)} (b:qS B E w G h a fl) (e:qS B E w G h f c):qS B E w G h (a++f) (fl++c):=by refine⟨by simp[b.len,e.len],fun i it x d hx=>?_⟩;by_cases g:i<a.length;rw[GB g] at d;rw[GB (by rw[<-b.len];exact g)] at hx;exact b.at_ i it x d hx;rw[BY (by omega)] at d;rw[BY (by rw[<-b.len];omega)] at hx;rw[b.len] at d;exact e.at_ _ it x d hx
theorem HR.o8 (H:HR B E w G h used []) {ns:List Nat}:∀{s:List (Option Mode)} {cs:List ao} {xs:List C} {e:List (e7×Mode)} {vs:List Value},Am.o8 h (fq h ns) s cs=some (xs,e)->eN w G h cs vs->
  ∃ps:List PC,ps.map PC.er=xs/\ps.map PC.val=vs/\(∀pc∈ps,Good w pc)/\qS B E w G h e (hZ s ps)/\e.filterMap (·.1.g0)=sj s cs/\∀pc∈sC s ps,OK G h ns pc
 |[],cs,xs,e,vs,hx,k=>by
  simp only[Am.o8] at hx;split at hx
  ·rename_i ys hy;injection hx with hx;injection hx with g i;subst g i;have Q:∀(cs:List ao) (xs:List C) (vs:List Value),Am.mb (fq h ns) cs=some xs->eN w G h cs vs->∃ps:List PC,ps.map PC.er=xs/\ps.map PC.val=vs/\(∀pc∈ps,Good w pc)/\∀pc∈ps,OK G h ns pc:=by
    intro cs;induction cs with
    |nil=>
     intro xs vs hx k;simp only[Am.mb] at hx;injection hx with hx;subst hx;have:vs=[]:=AT (by simpa using k.1)
     simp_all
    |cons c cs R=>
     intro xs vs hx k;simp only[Am.mb] at hx;split at hx
     ·rename_i x N t z;injection hx with hx;subst hx;obtain⟨a,l⟩:=k;match vs,a with
      |v::vs,a=>
       obtain⟨M,v2⟩:=ajC t;obtain⟨pc,A,y,I,F⟩:=H.aaR M (l 0 c v rfl rfl).2;obtain⟨ps,o,r,D,p⟩:=R N vs z ⟨by grind,fun j c u g i=>l (j+1) c u g i⟩;refine⟨pc::ps,by simp[A,o],by simp[y,r],fun q d=>?_,fun q d=>?_⟩
       ·grind
       ·cases d with
        |head=>exact fun b K=>(F b K).imp id fun⟨n,J,m,sz,xs,hn,g,i⟩=>⟨n,J,m,sz,xs,v2 n hn,g,i⟩
        |tail _ d=>exact p q d
     ·cases hx
   obtain⟨ps,o,r,D,p⟩:=Q cs ys vs hy k;exact⟨ps,o,r,D,by simpa[hZ] using qS.nil,by simp[sj],by simpa[sC] using p⟩
  ·cases hx
 |f::s,[],xs,e,vs,hx,k=>by cases f<;>simp[Am.o8] at hx
 |none::s,c::cs,xs,e,vs,hx,k=>by
  simp only[Am.o8] at hx;split at hx
  ·rename_i x N P t z;injection hx with hx;injection hx with g i;subst g i;obtain⟨a,l⟩:=k;match vs,a with
   |v::vs,a=>
    obtain⟨M,v2⟩:=ajC t;obtain⟨pc,A,y,I,F⟩:=H.aaR M (l 0 c v rfl rfl).2;obtain⟨ps,o,r,D,p,O,L⟩:=H.o8 z (vs:=vs) ⟨by simp_all,fun j c u g i=>l (j+1) c u g i⟩;refine⟨pc::ps,by simp[A,o],by simp[y,r],fun q d=>?_,by simpa[hZ] using p,by simpa[sj] using O,fun q d=>?_⟩
    ·grind
    ·simp only[sC] at d;cases d with
     |head=>exact fun b K=>(F b K).imp id fun⟨n,J,m,sz,xs,hn,g,i⟩=>⟨n,J,m,sz,xs,v2 n hn,g,i⟩
     |tail _ d=>exact L q d
  ·cases hx
 |some md::s,c::cs,xs,e,vs,hx,k=>by
  simp only[Am.o8] at hx;split at hx
  ·rename_i it x N P t z;injection hx with hx;injection hx with g i;subst g i;obtain⟨a,l⟩:=k;match vs,a with
   |v::vs,a=>
    obtain⟨pc,A,y,I,F⟩:=H.item t (l 0 c v rfl rfl).2;obtain⟨ps,o,r,D,p,O,L⟩:=H.o8 z (vs:=vs) ⟨by simp_all,fun j c u g i=>l (j+1) c u g i⟩;refine⟨pc::ps,by simp[A,o],by simp[y,r],fun q d=>?_,?_,?_,fun q d=>L q (by simpa[sC] using d)⟩
    ·cases d with
     |head=>exact I.fm
     |tail _ d=>exact D q d
    ·simp only[hZ];exact qS.cons rfl I p
    grind [sj]
  ·cases hx
theorem HR.qJ (H:HR B E w G h used []) {ns:List Nat}:∀{as:List (Bool×List ao)} {sig:df} {ds:List Dv} {a:List (e7×Mode)} {vals:List Value},Am.qJ h (fq h ns) sig as=some (ds,a)->vals.length=as.length->
  (∀(j:Nat) (x:Bool×List ao) (v:Value),as[j]? =some x->vals[j]? =some v->RV w G h x.1 x.2 v)->
  ∃pas:List PA,pas.length=ds.length/\vals.length=ds.length/\(∀(i:Nat) (d:Dv) (v:Value) (p:PA),ds[i]? =some d->vals[i]? =some v->pas[i]? =some p->Ep w d v p)/\(∀p∈pas,p.k≠ .ptr)/\
   qS B E w G h a (fx sig (pas.map (·.ps)))/\a.filterMap (·.1.g0)=tz sig as/\∀pc∈vg sig (pas.map (·.ps)),OK G h ns pc
 |[],sig,ds,a,vals,hx,hl,hc=>by
  simp only[Am.qJ] at hx;injection hx with hx;injection hx with e g;subst e g;refine⟨[],rfl,by omega,by simp,by simp,?_,?_,?_⟩
  ·cases sig<;>exact qS.nil
  ·cases sig<;>rfl
  ·cases sig<;>simp[vg]
 |(ag,cs)::as,sig,ds,a,vals,hx,hl,hc=>by
  simp only[Am.qJ] at hx;split at hx
  ·rename_i xs l Bj f D I;injection hx with hx;injection hx with e g;subst e g;match vals,hl with
   |v::vals,hl=>
    have h0:=hc 0 (ag,cs) v rfl rfl;obtain⟨m,F,J,q4,q5,c,y⟩:=H.qJ I (as:=as) (vals:=vals) (by simpa using hl) (fun j x v e g=>hc (j+1) x v e g);obtain⟨vs,z,K⟩:∃vs:List Value,(if ag=true then v=.agg vs.toArray else vs=[v])/\eN w G h cs vs:=by
     grind [RV]
    obtain⟨ps,p1,p2,A,p4,L,C⟩:=H.o8 D K;refine⟨⟨if ag=true then .agg else .one,ps,0,0⟩::m,by simp[F],by simp[J],fun i d v' p hd u o=>?_,fun p o=>?_,?_,?_,?_⟩
    ·cases i with
     |zero=>
      simp at hd u o;subst hd u o;cases ag with
      |true=>
       simp only[if_true] at z⊢;exact⟨by rw[p1],A,by grind⟩
      |false=>
       simp only[if_false,Bool.false_eq_true] at z⊢;exact⟨by rw[p1],A,by grind⟩
     |succ i=>grind
    ·grind
    ·cases sig with
     |nil=>
      have t:hZ (df.hd ([]:df)) ps=[]:=rfl;rw[t] at p4;have n:l=[]:=AT p4.len;subst n;have r:fx (df.tl ([]:df)) (m.map (·.ps))=[]:=rfl;rw[r] at c;have q:f=[]:=AT c.len;subst q;exact qS.nil
     |cons s sig=>exact qS.append p4 c
    ·cases sig with
     |nil=>
      have t:hZ (df.hd ([]:df)) ps=[]:=rfl;rw[t] at p4;have n:l=[]:=AT p4.len;subst n;have r:fx (df.tl ([]:df)) (m.map (·.ps))=[]:=rfl;rw[r] at c;have q:f=[]:=AT c.len;subst q;rfl
     |cons s sig=>
      rw[List.filterMap_append,L,y.1];rfl
    ·intro pc b;cases sig with
     |nil=>
      simp only[IT,vg,zal,zad] at b;rcases b with b|b
      ·exact C pc b
      grind [vg,df.tl]
     |cons s sig=>
      simp only[IT,vg,zad] at b;rcases b with b|b
      ·exact C pc b
      ·exact y.2 pc b
  ·cases hx
structure KK (w':World) (p p':PB) (gr:Bool) (m:Mode) (sz:Nat) (aM:List (List C)):Prop where
 m1:m≠ .bh
 fl:(∀b,¬bK b p.px)\/m=.live
 nl:p'.nl=p.nl
 b:p'.b=p.b
 o:p'.o=p.o
 cap:p'.cap=p.cap
 na:p'.na=p.na
 er:aM=p'.px.map (fun e=>e.map PC.er)
 nlx:p.nl=true->p'.px=[]
 f6:p.nl=false->rI w' p.b p.o sz p'.px/\p'.px.length<=p.cap
 sep:me p'.px
 sub:∀b,bK b p'.px->bK b p.px
 live:m=.live->∀k j pc,At p.px k j pc->pc.kO=true->∃fP,At p'.px k j fP/\fP.val=pc.val/\fP.kO=true
 nr:gr=true->m=.live->t8 w' sz p'.px
theorem HR.NI (H:HR B E w G h used []) {S:Nat->Prop} (dn:w.heap.size<=w'.heap.size) (hw:∀b,b<w.heap.size->(∀n,S n->¬yh G n b)->w'.heap[b]? =w.heap[b]?) (Q:∀b,b<w.heap.size->Cz w w' b) (U:G'.Im=G.Im) (t:∀n,S n->∃f m sz xs p,h n=some (.row f m sz xs)/\h' n=some (.row f m sz p)/\KK w' (G.g n) (G'.g n) f m sz p) (u:∀n,¬S n->h' n=h n/\G'.g n=G.g n):HR B E w' G' h' used []/\bU w G h (fun n=>used n=true) w' G' h'/\∀n b,bK b (G'.g n).px->bK b (G.g n).px:=by have ne:∀n,h' n≠none->h n≠none:=(by intro n hn;by_cases d:S n;obtain⟨f,m,sz,xs,p,l,r,_⟩:=t n d;rw[l];simp;rwa[(u n d).1] at hn);have mW:∀n,(G'.g n).nl=(G.g n).nl/\(G'.g n).b=(G.g n).b/\(G'.g n).o=(G.g n).o/\(G'.g n).cap=(G.g n).cap/\(G'.g n).na=(G.g n).na:=(by intro n;by_cases d:S n;obtain⟨f,m,sz,xs,p,l,r,c⟩:=t n d;exact⟨c.nl,c.b,c.o,c.cap,c.na⟩;grind);have sub:∀n b,bK b (G'.g n).px->bK b (G.g n).px:=(by intro n b a;by_cases d:S n;obtain⟨f,m,sz,xs,p,l,r,c⟩:=t n d;exact c.sub b a;rwa[(u n d).2] at a);have qj:∀n f m sz p,h' n=some (.row f m sz p)->∃xs,h n=some (.row f m sz xs):=(by intro n f m sz p hn;by_cases d:S n;obtain⟨T,m1,O,xs,C,l,r,_⟩:=t n d;rw[r] at hn;injection hn with hn;injection hn with P a2 a3 a4;subst P a2 a3;exact⟨xs,l⟩;rw[(u n d).1] at hn;exact⟨p,hn⟩);have J:∀n cs,h' n=some (.box cs)->h n=some (.box cs)/\¬S n:=(by intro n cs hn;by_cases d:S n;obtain⟨T,m1,O,xs,C,l,r,_⟩:=t n d;rw[r] at hn;cases hn;rw[(u n d).1] at hn;exact⟨hn,d⟩);have Y:∀b,G.Im b->w'.heap[b]? =w.heap[b]? :=(by intro b a;refine hw b (H.jG b a) fun n d D=>?_;obtain⟨f,m,sz,xs,p,l,r,c⟩:=t n d;rcases D with⟨hl,rfl⟩|I;exact(H.own n (by rw[l];simp) hl).1 a;rcases c.fl with L|rfl;exact L b I;exact((H.row n f .live sz xs l).mode.1 b I).1 a);have X:∀n,¬S n->h n≠none->(G.g n).nl=false->w'.heap[(G.g n).b]? =w.heap[(G.g n).b]? :=(by intro n d hn hl;refine hw _ (H.own n hn hl).2.2 fun q y D=>?_;obtain⟨f,m,sz,xs,p,l,r,c⟩:=t q y;have z:n≠q:=fun e=>d (e▸y);rcases D with⟨vS,a⟩|I;exact H.inj n q hn (by rw[l];simp) z hl vS a;rcases c.fl with L|rfl;exact L _ I;exact H.live q f sz xs l _ I n hn hl rfl);have apo:∀n f m sz xs,¬S n->h n=some (.row f m sz xs)->∀b,bK b (G.g n).px->w'.heap[b]? =w.heap[b]? :=(by intro n f m sz xs d hn b a;refine hw _ (H.tK hn a) fun q y D=>?_;obtain⟨cq,m',bf,C,F,l,r,c⟩:=t q y;have z:n≠q:=fun e=>d (e▸y);exact H.L9 z hn l c.fl (.inr a) D);have K:bU w G h (fun n=>used n=true) w' G' h':=(by refine⟨fun b a=>by grind,fun b a o=>kv (Y b a) o,fun n _ hn=>⟨ne n hn,mW n⟩,fun n f sz p _ hn=>?_⟩;obtain⟨xs,e⟩:=qj n f .live sz p hn;refine⟨⟨f,xs,e⟩,fun k j pc hk hL=>?_⟩;by_cases d:S n;obtain⟨T,m1,O,C,F,l,r,c⟩:=t n d;rw[e] at l;injection l with l;injection l with _ l _ _;exact c.live l.symm k j pc hk hL;rw[(u n d).2];exact⟨pc,hk,rfl,hL⟩);refine⟨⟨fun n hn=>H.mM n (ne n hn),fun m cs c n hm=>H.lz m cs c n (J m cs hm).1,fun n cs hn=>?_,fun n f m sz p hn=>?_,fun n hn hl=>?_,fun n s hn M z hl gu=>?_, fun b a=>?_,fun b a=>H.uD b (by grind),fun n s f m sz xs cq m' bf p hn M hm dk z b a x=>?_,fun n f sz xs hn b a s M hl=>?_,?_,?_,?_⟩,K,sub⟩;obtain⟨W,d⟩:=J n cs hn;obtain⟨P,a2,a3⟩:=H.box n cs W;have a:=X n d (by rw[W];simp) P;rw[(u n d).2];refine⟨P,a2.congr a,fun j c hj=>?_⟩;obtain⟨v,v1,v2,v3⟩:=a3 j c hj;exact⟨v,(kv a _).trans v1,v2,v3.d9 K fun q y=>H.lz n cs c q W (co hj) y⟩;by_cases d:S n;obtain⟨T,m1,O,C,F,l,r,c⟩:=t n d;rw[r] at hn;injection hn with hn;injection hn with q1 q2 q3 q4;subst q1 q2 q3 q4;have hr:=H.row n T m1 O C l;refine⟨hr.pos,c.er,fun hl=>?_,fun hl=>?_,fun hl A=>?_,?_,c.nr⟩;rw[c.nl] at hl;refine⟨c.nlx hl,fun A=>?_⟩;rw[c.cap];exact(hr.nl hl).2 A;rw[c.nl] at hl;obtain⟨l1,l2,l3⟩:=hr.f6 hl;obtain⟨L,c2⟩:=c.f6 hl;rw[c.b,c.o,c.cap];exact⟨(Q _ l1.lt).mY l1,L,c2⟩;rw[c.nl] at hl;obtain⟨r2,cur,e,r3,r4⟩:=hr.room hl A;obtain⟨nH,s1,Z⟩:=Q (G.g n).b (H.own n (by rw[l];simp) hl).2.2 cur e r3;unfold Ld;rw[c.b,c.o,c.cap];exact⟨r2,nH,e,s1,Z.trans r4⟩;have hm:=hr.mode;(cases m1 with|bh=>exact absurd rfl c.m1|bi=>exact⟨fun b a=>by have x:=c.sub b a;have:=hm.1 b x;exact⟨by grind,(Q b this.2.1.lt).mY this.2.1,this.2.2⟩,c.sep⟩|live=>exact⟨fun b a=>by have x:=c.sub b a;have:=hm.1 b x;exact⟨by grind,(Q b this.2.1.lt).mY this.2.1,this.2.2⟩,c.sep⟩);rw[(u n d).1] at hn;rw[(u n d).2];have hr:=H.row n f m sz p hn;have R:=apo n f m sz p d hn;refine⟨hr.pos,hr.er,hr.nl,fun hl=>?_,fun hl A=>?_,?_,fun A hm=>(hr.nr A hm).congr R⟩;obtain⟨l1,l2,l3⟩:=hr.f6 hl;have a:=X n d (by rw[hn];simp) hl;exact⟨l1.congr a,l2.congr (fun o=>kv a o) (fun b' x o=>kv (R b' x) o),l3⟩;obtain⟨r2,cur,e,r3,r4⟩:=hr.room hl A;exact⟨r2,cur,e,(X n d (by rw[hn];simp) hl).trans r3,r4⟩;have hm:=hr.mode;(cases m with|bh=>exact fun b a=>by rw[U];exact hm b a|bi=>exact⟨fun b a=>⟨by rw[U];exact(hm.1 b a).1,(hm.1 b a).2.1.congr (R b a),(hm.1 b a).2.2⟩,hm.2⟩|live=>exact⟨fun b a=>⟨by rw[U];exact(hm.1 b a).1,(hm.1 b a).2.1.congr (R b a),(hm.1 b a).2.2⟩,hm.2⟩);obtain⟨s1,Z,s3,s4,s5⟩:=mW n;rw[s1] at hl;rw[Z];obtain⟨o1,o2,o3⟩:=H.own n (ne n hn) hl;exact⟨by grind,o2,IN o3 dn⟩;rw[(mW n).1] at hl;rw[(mW s).1] at gu;rw[(mW n).2.1,(mW s).2.1];exact H.inj n s (ne n hn) (ne s M) z hl gu;rw[U] at a;exact IN (H.jG b a) dn;obtain⟨V,l⟩:=qj n f m sz xs hn;obtain⟨x2,r⟩:=qj s cq m' bf p M;exact H.jE n s f m sz V cq m' bf x2 l r hm dk z b (sub n b a) (sub s b x);obtain⟨V,l⟩:=qj n f .live sz xs hn;rw[(mW s).1] at hl;rw[(mW s).2.1];exact H.live n f sz V l b (sub n b a) s (ne s M) hl;intro i pc N;simp at N;intro i j pc fP b _ N;simp at N;intro i pc n f m sz xs b N;simp at N
def K8 (σ σ1:St) (it:e7) (x:C):Prop:=
 match it with
 |.nil _=>True
 |.row n=>∃gr m rs xs aM,σ.h n=some (.row gr m rs xs)/\x=.list rs aM/\σ1.h n=some (.row gr m rs aM)
 |.nest n k off=>∃gr m rs xs e,σ.h n=some (.row gr m rs xs)/\xs[k]? =some e/\σ1.h n=some (.row gr m rs (xs.set k (e.set off x)))
theorem atB {it:e7} {x:C} {σ1:St} (hx:σ.tG it x=some σ1):σ1.env=σ.env/\σ1.used=σ.used/\(∀n,it.g0≠some n->σ1.h n=σ.h n)/\K8 σ σ1 it x:=by cases it with|nil sz=>simp only[St.tG] at hx;injection hx with hx;subst hx;exact⟨rfl,rfl,fun _ _=>rfl,trivial⟩|row n=>(cases x with|int k i=>simp[St.tG] at hx|bool b=>simp[St.tG] at hx|list sz xs=>simp only[St.tG] at hx;split at hx;rename_i c m a f hn;split at hx;rename_i e;injection hx with hx;subst hx;subst e;exact⟨rfl,rfl,fun q d=>dP _ _ _ _ (fun e=>d (by rw[e];rfl)),c,m,a,f,xs,hn,rfl,dd _ _ _⟩;cases hx;cases hx)|nest n k off=>simp only[St.tG] at hx;split at hx;rename_i c m a xs hn;split at hx;rename_i e g;injection hx with hx;subst hx;exact⟨rfl,rfl,fun q d=>dP _ _ _ _ (fun e=>d (by rw[e];rfl)),c,m,a,xs,e,hn,g,dd _ _ _⟩;cases hx;cases hx
theorem K8.congr {σ σ1 τ g:St} {it:e7} {x:C} (hx:K8 σ σ1 it x) (i:∀n,it.g0=some n->τ.h n=σ.h n) (j:∀n,it.g0=some n->g.h n=σ1.h n):K8 τ g it x:=by cases it with|nil sz=>trivial|row n=>obtain⟨b,m,a,xs,l,c,d,f⟩:=hx;exact⟨b,m,a,xs,l,(i n rfl).trans c,d,(j n rfl).trans f⟩|nest n k off=>obtain⟨b,m,a,xs,e,c,d,f⟩:=hx;exact⟨b,m,a,xs,e,(i n rfl).trans c,d,(j n rfl).trans f⟩
theorem adh {it:e7×Mode} {a:List (e7×Mode)} (h:it.1.g0=none):(it::a).filterMap (·.1.g0)=a.filterMap (·.1.g0):=List.filterMap_cons_none h
theorem Pz {it:e7×Mode} {a:List (e7×Mode)} {n:Nat} (h:it.1.g0=some n):(it::a).filterMap (·.1.g0)=n::a.filterMap (·.1.g0):=List.filterMap_cons_some h
theorem ag4:∀{a:List (e7×Mode)} {c:List C} {σ σ1:St},σ.wx a c=some σ1->(a.filterMap (·.1.g0)).Nodup->σ1.env=σ.env/\σ1.used=σ.used/\ (∀n,n∉a.filterMap (·.1.g0)->σ1.h n=σ.h n)/\∀(i:Nat) (it:e7×Mode) (x:C),a[i]? =some it->c[i]? =some x->K8 σ σ1 it.1 x
 |[],[],σ,σ1,hx,jv=>by simp_all [St.wx]
 |it::a,x::c,σ,σ2,hx,jv=>by simp only[St.wx] at hx;split at hx;rename_i σ1 m;obtain⟨p1,k,r,p4⟩:=atB m;have p:(a.filterMap (·.1.g0)).Nodup:=(by cases hn:it.1.g0 with|none=>rw[adh hn] at jv;exact jv|some n=>rw[Pz hn] at jv;exact(zas.1 jv).2);have f:∀n,it.1.g0=some n->n∉a.filterMap (·.1.g0):=(by intro n hn;rw[Pz hn] at jv;exact(zas.1 jv).1);obtain⟨l,o,q,j⟩:=ag4 hx p;refine⟨l.trans p1,o.trans k,fun n hn=>?_,fun i b x' d g=>?_⟩;grind;(cases i with|zero=>simp at d g;subst d;subst g;exact p4.congr (fun _ _=>rfl) (fun n hn=>q n (f n hn))|succ i=>have hi':a[i]? =some b:=(by simpa using d);refine(j i b x' hi' (by grind)).congr (fun n hn=>?_) (fun _ _=>rfl);refine(r n ?_).symm;intro e;refine f n e ?_;rw[zaW];exact⟨b,co hi',hn⟩);cases hx
 |[],_::_,σ,σ1,hx,_=>by simp[St.wx] at hx
 |_::_,[],σ,σ1,hx,_=>by simp[St.wx] at hx
theorem QX:∀{a:List (e7×Mode)},(a.filterMap (·.1.g0)).Nodup->∀{i j:Nat} {x y:e7×Mode} {n:Nat},a[i]? =some x->a[j]? =some y->x.1.g0=some n->y.1.g0=some n->i=j
 |[],_,i,j,x,y,n,hi,_,_,_=>by simp at hi
 |it::a,jv,i,j,x,y,n,hi,hj,hx,hy=>by have c:(a.filterMap (·.1.g0)).Nodup:=(by cases hn:it.1.g0 with|none=>rw[adh hn] at jv;exact jv|some n=>rw[Pz hn] at jv;exact(zas.1 jv).2);have d:∀n,it.1.g0=some n->∀(k:Nat) (z:e7×Mode),a[k]? =some z->z.1.g0≠some n:=(by intro n hn k z b e;rw[Pz hn] at jv;exact(zas.1 jv).1 (zaW.2 ⟨z,co b,e⟩));cases i with|zero=>(cases j with|zero=>rfl|succ j=>simp at hi hj;subst hi;exact absurd hy (d n hx j y hj))|succ i=>cases j with|zero=>grind|succ j=>exact congrArg (·+1) (QX c (i:=i) (j:=j) (by simpa using hi) (by simpa using hj) hx hy)
end
end Go.Am
