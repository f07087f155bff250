/- Am1, Am2, Am3, Am4, Am5, Am6, Am7, Am8, Am9, Am10, Am11, Am12, Am13, Am14, Am15, Am16, AmM, AmN: parts of the proof. No condition. -/
import Derived.LoopN
import Derived.Orders
import Derived.Laws.AppendOwn
import Derived.Laws.MakeOwn
import Derived.Laws.Tables
import Derived.Below
import Derived.Laws.Small
import Derived.Laws.StructEq
set_option linter.unusedVariables false
set_option linter.unusedSimpArgs false
open List renaming mem_of_getElem?->co,getElem?_map->wt,getElem?_eq_some_iff->AI,getElem?_eq_getElem->AN,eq_nil_of_length_eq_zero->AT,getElem?_append_left->By,getElem?_append_right->BY,map_cons->If,all_eq_true->OF,replicate->Pd,mem_map->zaa,mem_map_of_mem->zae,length_nil->zaf,mem_of_mem_drop->zah,mem_of_mem_take->zai,mem_append->zaj,getElem_of_mem->zak,getElem?_toArray->zal,nil_append->zam,length_map->zan,flatten_cons->zap,length_cons->zar,getElem?_drop->zat,length_append->zav,map_append->zay,nodup_cons->zaz,map_nil->zaC,mem_or_eq_of_mem_set->zaD,size_toArray->zaF,append_assoc->zaG,getElem?_take_of_lt->zaH,drop_eq_nil_of_le->zaI,getElem?_set_self->zaJ,getElem?_eq_none->zaK,take->zaM,getElem?_set_ne->zaQ,take_zero->zaR,length_flatMap->zaT,flatten_append->zaV,map_take->zaW,map_drop->zaX,drop->zaY,ne_nil_of_mem->zaZ,pairwise_cons->za0,mem_filterMap->za1,zipIdx_cons->za4,flatten_nil->za5,length->za7,append_nil->za8,drop_zero->za9,sum_cons->zbc,map_map->zbe
open Nat renaming mul_le_mul_right->GB,add_mul->IN,lt_of_lt_of_le->IS,zero_add->IT,add_assoc->Pe,le_refl->zad,le_trans->zas,le_mul_of_pos_right->zau,eq_zero_or_pos->zaA,add_zero->zaB,lt_trichotomy->zaE,zero_mul->zaN,mul_comm->zaO,add_le_add_left->zaU,div_eq_of_lt->za3,mul_add_div->za6,lt_irrefl->zbb,lt_or_ge->zbd,zero_le->zbg,beq->zbi,ble->zbj
open Option.some renaming injEq->zab
open Array renaming length_toList->zac,getElem?_eq_some_iff->zaq,toList_map->zaw,getD_eq_getD_getElem?->zax,size_append->za2,range->zbf,ext'->zbh
open Bool renaming and_eq_true->zag,and_self->zba
open Prod.mk renaming injEq->zao
open Ne renaming symm->zaL
open Option renaming map_none->zaP
open Int renaming toNat_of_nonneg->zaS
namespace Go.Am
theorem aj.{u} {c:Prop} {h:Decidable c} (a:c) {α:Sort u} {t e:α}:ite c t e=t:=if_pos a
theorem ak.{u} {c:Prop} {h:Decidable c} (a:¬c) {α:Sort u} {t e:α}:ite c t e=e:=if_neg a
inductive C where
 |int (k:IntKind) (n:Int)
 |bool (b:Bool)
 |list (sz:Nat) (xs:List (List C))
instance:Inhabited C:=⟨.bool false⟩
def ad (b o:Nat):Addr:=⟨b,o,none⟩
theorem xp (b o n:Nat):(ad b o).add n=ad b (o+n):=by unfold ad Addr.add;split;rename_i h;subst h;rfl;rfl
theorem pF {b o a c:Nat} (h:ad b o=ad a c):b=a/\o=c:=by unfold ad at h;injection h with d h2;exact⟨d,h2⟩
inductive PC where
 |int (k:IntKind) (n:Int)
 |bool (b:Bool)
 |list (sz:Nat) (a:Option Addr) (cap:Nat) (xs:List (List PC))
instance:Inhabited PC:=⟨.bool false⟩
mutual
def PC.er:PC->C
 |.int k n=>.int k n
 |.bool b=>.bool b
 |.list sz _ _ xs=>.list sz (PC.Lc xs)
def PC.bu:List PC->List C
 |[]=>[]
 |c::cs=>PC.er c::PC.bu cs
def PC.Lc:List (List PC)->List (List C)
 |[]=>[]
 |e::es=>PC.bu e::PC.Lc es
end
theorem PC.aoh (l:List PC):PC.bu l=l.map PC.er:=by induction l with|nil=>simp[PC.bu]|cons c l a=>simp[PC.bu,a]
theorem PC.aog (l:List (List PC)):PC.Lc l=l.map (fun e=>e.map PC.er):=by induction l with|nil=>simp[PC.Lc]|cons c l a=>simp[PC.Lc,PC.aoh,a]
theorem PC.fx (sz:Nat) (a:Option Addr) (cap:Nat) (xs:List (List PC)):(PC.list sz a cap xs).er=.list sz (xs.map (fun e=>e.map PC.er)):=by simp[PC.er,PC.aog]
def PC.val:PC->Value
 |.int k n=>.int k n
 |.bool b=>.bool b
 |.list _ a cap xs=>.slice a xs.length cap
theorem PC.mU (c:PC):c.val.oneCell'=true:=by cases c<;>rfl
def At {α:Type} (xs:List (List α)) (k j:Nat) (c:α):Prop:=∃e,xs[k]? =some e/\e[j]? =some c
inductive bP (b:Nat):PC->Prop where
 |here (sz o cap:Nat) (xs:List (List PC)):xs≠[]->bP b (.list sz (some (ad b o)) cap xs)
 |there (sz:Nat) (a:Option Addr) (cap:Nat) (xs:List (List PC)) (k j:Nat) (c:PC):At xs k j c->bP b c->bP b (.list sz a cap xs)
theorem bP.pg {b sz:Nat} {a:Option Addr} {cap:Nat} {xs:List (List PC)}: bP b (.list sz a cap xs)↔(xs≠[]/\∃o,a=some (ad b o))\/∃k j c,At xs k j c/\bP b c:=by constructor;intro h;(cases h with|here sz o cap xs h=>exact .inl ⟨h,o,rfl⟩|there sz a cap xs k j c e d=>exact .inr ⟨k,j,c,e,d⟩);rintro(⟨h,o,rfl⟩|⟨k,j,c,e,d⟩);exact .here _ _ _ _ h;exact .there _ _ _ _ k j c e d
theorem bP.axy {b:Nat} {k:IntKind} {n:Int}:¬bP b (.int k n):=fun h=>by cases h
theorem bP.axx {b:Nat} {x:Bool}:¬bP b (.bool x):=fun h=>by cases h
inductive Good (w:World):PC->Prop where
 |int (k:IntKind) (n:Int):Good w (.int k n)
 |bool (b:Bool):Good w (.bool b)
 |nil (sz:Nat) (a:Option Addr) (cap:Nat):0<sz->Good w (.list sz a cap [])
 |cons (sz b o cap:Nat) (xs:List (List PC)):xs≠[]->xs.length<=cap->0<sz->(∀e∈xs,e.length=sz)->
  (∀k j c,At xs k j c->w.cell? (ad b (o+k*sz+j))=some c.val)->(∀k j c,At xs k j c->Good w c)->Good w (.list sz (some (ad b o)) cap xs)
theorem Good.congr {w w':World} {c:PC} (h:Good w c) (f:∀b,bP b c->∀o,w'.cell? (ad b o)=w.cell? (ad b o)):Good w' c:=by induction h with|int k n=>exact .int k n|bool b=>exact .bool b|nil sz a cap h=>exact .nil sz a cap h|cons sz b o cap xs e p q g r h6 i=>refine .cons sz b o cap xs e p q g (fun k j c d=>?_) (fun k j c d=>i k j c d fun l m s=>?_);rw[f b (.here _ _ _ _ e)];exact r k j c d;exact f l (.there _ _ _ _ k j c d m) s
theorem aaP {xs:List (List PC)} {sz:Nat} (b:xs≠[]) (h3:0<sz) (d:∀e∈xs,e.length=sz):∃c,At xs 0 0 c:=by cases xs with|nil=>exact absurd rfl b|cons e es=>have a:=d e (by simp);cases e with|nil=>simp at a;omega|cons c cs=>exact⟨c,c::cs,rfl,rfl⟩
theorem Good.lt {w:World} {c:PC} (h:Good w c) {b:Nat} (f:bP b c):b<w.heap.size:=by induction h with|int k n=>cases f|bool b=>cases f|nil sz a cap h=>(cases f with|here _ _ _ _ h=>exact absurd rfl h|there _ _ _ _ k j c d g=>obtain⟨e,p,_⟩:=d;simp at p)|cons sz b' o cap xs d g q l r h6 m=>cases f with|here _ _ _ _ h=>obtain⟨c,i⟩:=aaP d q l;exact World.block_lt_of_cell? (a:=ad b (o+0*sz+0)) w (r 0 0 c i)|there _ _ _ _ k j c d g=>exact m k j c d g
inductive Sep:PC->Prop where
 |int (k:IntKind) (n:Int):Sep (.int k n)
 |bool (b:Bool):Sep (.bool b)
 |list (sz:Nat) (a:Option Addr) (cap:Nat) (xs:List (List PC)):(∀k j c,At xs k j c->Sep c)->
  (∀b o k j c,a=some (ad b o)->At xs k j c->¬bP b c)->
  (∀k j c k' j' c' b,At xs k j c->At xs k' j' c'->(k,j)≠(k',j')->bP b c->¬bP b c')->Sep (.list sz a cap xs)
def bY (b:Nat) (px:List (List PC)):Prop:=∃k j c,At px k j c/\bP b c
def mz (px:List (List PC)):Prop:=
 (∀k j c,At px k j c->Sep c)/\∀k j c k' j' c' b,At px k j c->At px k' j' c'->(k,j)≠(k',j')->bP b c->¬bP b c'
def tP (w:World) (b o sz:Nat) (px:List (List PC)):Prop:=
 (∀e∈px,e.length=sz)/\(∀k j c,At px k j c->w.cell? (ad b (o+k*sz+j))=some c.val)/\∀k j c,At px k j c->Good w c
def fD (w:World) (b:Nat):Prop:=∃arr e,w.heap[b]? =some (.cells arr e (0,0))
theorem fD.lt {w:World} {b:Nat} (h:fD w b):b<w.heap.size:=by obtain⟨arr,e,h⟩:=h;exact(zaq.1 h).1
theorem fD.congr {w w':World} {b:Nat} (h:fD w b) (a:w'.heap[b]? =w.heap[b]?):fD w' b:=by obtain⟨arr,e,h⟩:=h;exact⟨arr,e,a.trans h⟩
theorem ku {w w':World} {b:Nat} (a:w'.heap[b]? =w.heap[b]?) (o:Nat):w'.cell? (ad b o)=w.cell? (ad b o):=by simp[World.cell?,ad,a]
theorem tP.congr {w w':World} {b o sz:Nat} {px:List (List PC)} (h:tP w b o sz px) (g:∀o,w'.cell? (ad b o)=w.cell? (ad b o)) (e:∀a,bY a px->∀o,w'.cell? (ad a o)=w.cell? (ad a o)):tP w' b o sz px:= ⟨h.1,fun k j c d=>(g _).trans (h.2.1 k j c d),fun k j c d=>(h.2.2 k j c d).congr fun a f i=>e a ⟨k,j,c,d,f⟩ i⟩
theorem tP.lt {w:World} {b o sz:Nat} {px:List (List PC)} (h:tP w b o sz px) {a:Nat} (d:bY a px):a<w.heap.size:=by obtain⟨k,j,c,e,f⟩:=d;exact(h.2.2 k j c e).lt f
inductive ar where
 |c (x:C)
 |nil (sz:Nat)
 |ptr (n k sz off:Nat)
 |eU (xs:List C) (off:Nat)
 |sl (n sz lo len:Nat)
 |cG (n k aZ off sz len:Nat)
 |ez (n k aZ off sz i:Nat)
 |dW (xs:List C) (off j n sz len:Nat)
 |fn (f:FuncId) (fv:List ar)
 |cC
instance:Inhabited ar:=⟨.cC⟩
inductive Mode where
 |live|bq|bn
 deriving DecidableEq
inductive bf where
 |box (cs:List ar)
 |row (gr:Bool) (m:Mode) (sz:Nat) (xs:List (List C))
inductive aE where
 |one (c:ar)
 |agg (cs:List ar)
 |dh (xs:List (Bool×List ar))
instance:Inhabited aE:=⟨.one .cC⟩
structure St where
 env:Nat->aE
 h:Nat->Option bf
 used:Nat->Bool
def bj {α:Type} (f:Nat->α) (k:Nat) (v:α):Nat->α:=fun n=>match zbi n k with
 |true=>v
 |false=>f n
theorem nt {α:Type} (f:Nat->α) (k:Nat) (v:α) (n:Nat):bj f k v n=if n=k then v else f n:=by unfold bj;split;rename_i e;rw[aj (Nat.eq_of_beq_eq_true e)];rename_i e;rw[ak (fun h=>by rw[h,Nat.beq_refl] at e;cases e)]
theorem dD {α:Type} (f:Nat->α) (k:Nat) (v:α):bj f k v k=v:=by simp[nt]
theorem dZ {α:Type} (f:Nat->α) (k n:Nat) (v:α) (h:n≠k):bj f k v n=f n:=by simp[nt,h]
def ar.lf:ar->Nat->Prop
 |.ptr n _ _ _,m=>m=n
 |.sl n _ _ _,m=>m=n
 |.cG n _ _ _ _ _,m=>m=n
 |.ez n _ _ _ _ _,m=>m=n
 |.dW _ _ _ n _ _,m=>m=n
 |_,_=>False
def ar.ref:ar->Nat->Prop
 |.fn _ fv,m=>∃x∈fv,x.lf m
 |x,m=>x.lf m
def aE.ref:aE->Nat->Prop
 |.one c,m=>c.ref m
 |.agg cs,m=>∃c∈cs,c.ref m
 |.dh xs,m=>∃x∈xs,∃c∈x.2,c.ref m
structure PB where
 nl:Bool
 b:Nat
 o:Nat
 cap:Nat
 px:List (List PC)
 na:Option Addr
instance:Inhabited PB:=⟨⟨false,0,0,0,[],none⟩⟩
def aY:Nat:=1000000
structure Ex where
 e:Nat->Prop
 rG:Nat->Option PB
 lt:∀n p,rG n=some p->aY<=n
 a:Nat->Prop
instance:CoeFun Ex (fun _=>Nat->Prop):=⟨Ex.e⟩
def Ex.no:Ex:=⟨fun _=>False,fun _=>none,fun _ _ h=>(by cases h),fun _=>True⟩
structure Gh where
 Im:Nat->Prop
 g:Nat->PB
def PC.kw:PC->Bool
 |.list ..=>true
 |_=>false
def lL (p:PB) (sz lo len:Nat) (v:Value):Prop:=
 (p.nl=true/\v=.slice p.na 0 p.cap/\lo=0/\len=0)\/
 (p.nl=false/\∃a,v=.slice a len (p.cap - lo)/\lo+len<=p.cap/\((lo<p.cap\/lo=0)->a=some (ad p.b (p.o+lo*sz))))
def kG (w:World) (G:Gh) (h:Nat->Option bf):ar->Value->Prop
 |.c x,v=>∃pc:PC,pc.er=x/\pc.val=v/\Good w pc/\∀b,bP b pc->G.Im b
 |.nil _,v=>v=.slice none 0 0
 |.ptr n k sz off,v=>h n≠none->(G.g n).nl=false/\v=.pointer (some (ad (G.g n).b ((G.g n).o+k*sz+off)))
 |.eU xs off,v=>∃(b o:Nat) (pe:List PC),v=.pointer (some (ad b (o+off)))/\pe.map PC.er=xs/\G.Im b/\
  ∀j c,pe[j]? =some c->w.cell? (ad b (o+j))=some c.val/\Good w c/\∀b',bP b' c->G.Im b'
 |.sl n sz lo len,v=>h n≠none->lL (G.g n) sz lo len v
 |.cG n k aZ off sz len,v=>∀gr xs,h n=some (.row gr .live aZ xs)->∃pc,At (G.g n).px k off pc/\pc.val=v/\pc.kw=true
 |.ez n k aZ off sz i,v=>∀gr xs,h n=some (.row gr .live aZ xs)->∃(pc:PC) (b o len cap:Nat),At (G.g n).px k off pc/\pc.val=.slice (some (ad b o)) len cap/\pc.kw=true/\v=.pointer (some (ad b (o+i*sz)))
 |.dW xs off j n sz len,v=>∃(b o:Nat) (pe:List PC),v=.pointer (some (ad b (o+off)))/\pe.map PC.er=xs/\G.Im b/\
  (∀i c,i≠j->pe[i]? =some c->w.cell? (ad b (o+i))=some c.val/\Good w c/\∀b',bP b' c->G.Im b')/\∃u,w.cell? (ad b (o+j))=some u/\u.oneCell'=true/\(h n≠none->lL (G.g n) sz 0 len u)
 |.fn _ _,_=>False
 |.cC,_=>True
def RC (w:World) (G:Gh) (h:Nat->Option bf):ar->Value->Prop
 |.fn f fv,v=>∃vs:List Value,v=.func (.func f) #[] vs.toArray/\vs.length=fv.length/\∀(j:Nat) (c:ar) (u:Value),fv[j]? =some c->vs[j]? =some u->u.oneCell'=true/\kG w G h c u
 |c,v=>kG w G h c v
def ar.sf:ar->Bool
 |.fn _ _=>true
 |_=>false
theorem Ao (w:World) (G:Gh) (h:Nat->Option bf) (c:ar) (v:Value) (a:c.sf=false):RC w G h c v=kG w G h c v:=by cases c<;>first|rfl|(simp[ar.sf] at a)
theorem ar.aiY (c:ar) (m:Nat) (a:c.sf=false):c.ref m=c.lf m:=by cases c<;>first|rfl|(simp[ar.sf] at a)
def eJ (w:World) (G:Gh) (h:Nat->Option bf) (cs:List ar) (vs:List Value):Prop:=
 vs.length=cs.length/\∀(j:Nat) (c:ar) (u:Value),cs[j]? =some c->vs[j]? =some u->u.oneCell'=true/\RC w G h c u
def RV (w:World) (G:Gh) (h:Nat->Option bf) (ag:Bool) (cs:List ar) (v:Value):Prop:=
 if ag then∃vs:List Value,v=.agg vs.toArray/\eJ w G h cs vs else eJ w G h cs [v]
def RA (w:World) (G:Gh) (h:Nat->Option bf):aE->Value->Prop
 |.one c,v=>c=.cC\/RV w G h false [c] v
 |.agg cs,v=>RV w G h true cs v
 |.dh xs,v=>∃vs:List Value,v=.tuple vs.toArray/\vs.length=xs.length/\∀(j:Nat) (x:Bool×List ar) (u:Value),xs[j]? =some x->vs[j]? =some u->RV w G h x.1 x.2 u
structure cD (w:World) (G:Gh) (h:Nat->Option bf) (used:Nat->Prop) (w':World) (G':Gh) (h':Nat->Option bf):Prop where
 im:∀b,G.Im b->G'.Im b
 cell:∀b,G.Im b->∀o,w'.cell? (ad b o)=w.cell? (ad b o)
 name:∀n,used n->h' n≠none->h n≠none/\(G'.g n).nl=(G.g n).nl/\(G'.g n).b=(G.g n).b/\(G'.g n).o=(G.g n).o/\(G'.g n).cap=(G.g n).cap/\(G'.g n).na=(G.g n).na
 live:∀n gr sz xs,used n->h' n=some (.row gr .live sz xs)->(∃u4 mr,h n=some (.row u4 .live sz mr))/\
  ∀k j pc,At (G.g n).px k j pc->pc.kw=true->∃fo,At (G'.g n).px k j fo/\fo.val=pc.val/\fo.kw=true
section
variable {w w':World} {G G':Gh} {h h':Nat->Option bf} {used:Nat->Prop}
theorem kG.keep (K:cD w G h used w' G' h') {c:ar} {v:Value} (hr:∀m,c.lf m->used m) (d:kG w G h c v):kG w' G' h' c v:=by cases c with|c x=>obtain⟨pc,r,y,g,p⟩:=d;exact⟨pc,r,y,g.congr fun b P o=>K.cell b (p b P) o,fun b P=>K.im b (p b P)⟩|nil sz=>exact d|ptr n k sz off=>intro hn;obtain⟨e,q,z,t,B,A⟩:=K.name n (hr n rfl) hn;rw[q,z,t];exact d e|eU xs off=>obtain⟨b,o,pe,r,y,g,p⟩:=d;refine⟨b,o,pe,r,y,K.im b g,fun j c U=>?_⟩;obtain⟨H,Q,s⟩:=p j c U;exact⟨(K.cell b g _).trans H,Q.congr fun a l R=>K.cell a (s a l) R,fun a l=>K.im a (s a l)⟩|sl n sz lo len=>intro hn;obtain⟨e,q,z,t,B,A⟩:=K.name n (hr n rfl) hn;have:=d e;unfold lL at*;rw[q,z,t,B,A];exact this|cG n k L off sz len=>intro J xs hn;obtain⟨⟨C,D,e⟩,hl⟩:=K.live n J L xs (hr n rfl) hn;obtain⟨pc,p1,E,O⟩:=d C D e;obtain⟨M,I,N,F⟩:=hl k off pc p1 O;exact⟨M,I,N.trans E,F⟩|ez n k L off sz i=>intro J xs hn;obtain⟨⟨C,D,e⟩,hl⟩:=K.live n J L xs (hr n rfl) hn;obtain⟨pc,b,o,len,cap,p1,E,O,p4⟩:=d C D e;obtain⟨M,I,N,F⟩:=hl k off pc p1 O;exact⟨M,b,o,len,cap,I,N.trans E,F,p4⟩|dW xs off j n sz len=>obtain⟨b,o,pe,r,y,g,p,X⟩:=d;obtain⟨u,T,u2,V⟩:=X;refine⟨b,o,pe,r,y,K.im b g,fun i c S W=>?_,u,(K.cell b g _).trans T,u2,fun hn=>?_⟩;obtain⟨H,Q,s⟩:=p i c S W;exact⟨(K.cell b g _).trans H,Q.congr fun a l R=>K.cell a (s a l) R,fun a l=>K.im a (s a l)⟩;obtain⟨e,q,z,t,B,A⟩:=K.name n (hr n rfl) hn;have:=V e;unfold lL at*;rw[q,z,t,B,A];exact this|fn f fv=>exact d|cC=>trivial
theorem RC.keep (K:cD w G h used w' G' h') {c:ar} {v:Value} (hr:∀m,c.ref m->used m) (f:RC w G h c v):RC w' G' h' c v:=by by_cases b:c.sf=false;rw[Ao _ _ _ _ _ b] at*;exact f.keep K fun m hm=>hr m (by rw[ar.aiY c m b];exact hm);(cases c<;>first|(simp[ar.sf] at b;done)|skip);obtain⟨vs,i,g,d⟩:=f;exact⟨vs,i,g,fun j c u a e=>⟨(d j c u a e).1,(d j c u a e).2.keep K fun m hm=>hr m ⟨c,co a,hm⟩⟩⟩
theorem eJ.keep (K:cD w G h used w' G' h') {cs:List ar} {vs:List Value} (hr:∀c∈cs,∀m,c.ref m->used m) (a:eJ w G h cs vs):eJ w' G' h' cs vs:= ⟨a.1,fun j c u b d=>⟨(a.2 j c u b d).1,(a.2 j c u b d).2.keep K (hr c (co b))⟩⟩
theorem RV.keep (K:cD w G h used w' G' h') {ag:Bool} {cs:List ar} {v:Value} (hr:∀c∈cs,∀m,c.ref m->used m) (a:RV w G h ag cs v):RV w' G' h' ag cs v:=by unfold RV at*;split;rename_i b;simp only[b,if_true] at a;obtain⟨vs,e,d⟩:=a;exact⟨vs,e,d.keep K hr⟩;rename_i b;simp only[b] at a;exact eJ.keep K hr a
theorem RA.keep (K:cD w G h used w' G' h') {x:aE} {v:Value} (hr:∀m,x.ref m->used m) (d:RA w G h x v):RA w' G' h' x v:=by cases x with|one c=>exact d.imp id fun f=>f.keep K fun b a m hm=>hr m (by simp at a;subst a;exact hm)|agg cs=>exact RV.keep K (fun b a m hm=>hr m ⟨b,a,hm⟩) d|dh xs=>obtain⟨vs,e,hl,f⟩:=d;exact⟨vs,e,hl,fun j x u g i=>(f j x u g i).keep K fun b a m hm=>hr m ⟨x,co g,b,a,hm⟩⟩
end
def TI (w:World) (p:PB) (sz:Nat):Prop:=p.cap<=maxLen/\∃cur e,w.heap[p.b]? =some (.cells cur e (0,0))/\cur.size=p.o+p.cap*sz
def N6 (B:Nat) (E:Ex) (w:World) (G:Gh) (px:List (List PC)):Mode->Prop
 |.bn=>∀b,bY b px->G.Im b
 |.bq=>(∀b,bY b px->G.Im b/\fD w b/\(B<=b\/E b))/\mz px
 |.live=>(∀b,bY b px->¬G.Im b/\fD w b/\(B<=b\/E b))/\mz px
def xk (w:World):PC->Prop
 |.list sz a cap xs=>cap=0\/(xs≠[]/\cap<=maxLen/\∃b o cur e,a=some (ad b o)/\w.heap[b]? =some (.cells cur e (0,0))/\cur.size=o+cap*sz)
 |_=>True
def xl (w:World) (sz:Nat) (px:List (List PC)):Prop:=∀k pc,At px k (sz - 1) pc->xk w pc
theorem xk.cz {w w':World} {pc:PC} (h:xk w pc) (j:∀b,bP b pc->∀arr e,w.heap[b]? =some (.cells arr e (0,0))->∃c,w'.heap[b]? =some (.cells c e (0,0))/\c.size=arr.size):xk w' pc:=by cases pc with|int k n=>trivial|bool b=>trivial|list sz a cap xs=>rcases h with h|⟨d,l,b,o,cur,e,rfl,f,m⟩;exact .inl h;obtain⟨c,g,i⟩:=j b (.here _ _ _ _ d) cur e f;exact .inr ⟨d,l,b,o,c,e,rfl,g,by rw[i];exact m⟩
theorem xl.congr {w w':World} {sz:Nat} {px:List (List PC)} (h:xl w sz px) (c:∀b,bY b px->w'.heap[b]? =w.heap[b]?):xl w' sz px:= fun k pc a=>(h k pc a).cz fun b f arr e d=>⟨arr,(c b ⟨k,_,pc,a,f⟩).trans d,rfl⟩
theorem xl.cz {w w':World} {sz:Nat} {px:List (List PC)} (h:xl w sz px) (d:∀b,bY b px->∀arr e,w.heap[b]? =some (.cells arr e (0,0))->∃a,w'.heap[b]? =some (.cells a e (0,0))/\a.size=arr.size):xl w' sz px:= fun k pc c=>(h k pc c).cz fun b f=>d b ⟨k,_,pc,c,f⟩
structure Ap (B:Nat) (E:Ex) (w:World) (G:Gh) (gr:Bool) (m:Mode) (sz:Nat) (xs:List (List C)) (p:PB):Prop where
 pos:0<sz
 er:xs=p.px.map (fun e=>e.map PC.er)
 nl:p.nl=true->p.px=[]/\(gr=true->p.cap=0)
 f0:p.nl=false->fD w p.b/\tP w p.b p.o sz p.px/\p.px.length<=p.cap
 room:p.nl=false->gr=true->TI w p sz
 mode:N6 B E w G p.px m
 nr:gr=true->m=.live->xl w sz p.px
structure HR (B:Nat) (E:Ex) (w:World) (G:Gh) (h:Nat->Option bf) (used:Nat->Bool) (tk:List PC):Prop where
 lP:∀n,h n≠none->used n=true
 kP:∀m cs c n,h m=some (.box cs)->c∈cs->c.ref n->used n=true
 box:∀n cs,h n=some (.box cs)->(G.g n).nl=false/\fD w (G.g n).b/\
  ∀(j:Nat) (c:ar),cs[j]? =some c->∃v,w.cell? (ad (G.g n).b ((G.g n).o+j))=some v/\v.oneCell'=true/\RC w G h c v
 row:∀n gr m sz xs,h n=some (.row gr m sz xs)->Ap B E w G gr m sz xs (G.g n)
 own:∀n,h n≠none->(G.g n).nl=false->¬G.Im (G.g n).b/\(B<=(G.g n).b\/E (G.g n).b)/\(G.g n).b<w.heap.size
 inj:∀n n',h n≠none->h n'≠none->n≠n'->(G.g n).nl=false->(G.g n').nl=false->(G.g n).b≠(G.g n').b
 jN:∀b,G.Im b->b<w.heap.size
 uf:∀b,G.Im b->B<=b\/E b\/E.a b
 ju:∀n n' gr m sz xs cv m' bw aP,h n=some (.row gr m sz xs)->h n'=some (.row cv m' bw aP)->m≠ .bn->m'≠ .bn->n≠n'->
  ∀b,bY b (G.g n).px->¬bY b (G.g n').px
 live:∀n gr sz xs,h n=some (.row gr .live sz xs)->∀b,bY b (G.g n).px->∀n',h n'≠none->(G.g n').nl=false->b≠(G.g n').b
 w5:∀(i:Nat) (pc:PC),tk[i]? =some pc->Sep pc/\∀b,bP b pc->G.Im b/\fD w b/\(B<=b\/E b)
 B3:∀(i j:Nat) (pc fo:PC) (b:Nat),i≠j->tk[i]? =some pc->tk[j]? =some fo->bP b pc->¬bP b fo
 w6:∀(i:Nat) (pc:PC) (n:Nat) (gr:Bool) (m:Mode) (sz:Nat) (xs:List (List C)) (b:Nat),tk[i]? =some pc->h n=some (.row gr m sz xs)->m≠ .bn->bP b pc->¬bY b (G.g n).px
def Cz (w w':World) (b:Nat):Prop:=∀arr e,w.heap[b]? =some (.cells arr e (0,0))->∃yO,w'.heap[b]? =some (.cells yO e (0,0))/\yO.size=arr.size
theorem Cz.refl (w:World) (b:Nat):Cz w w b:=fun arr _ h=>⟨arr,h,rfl⟩
theorem Cz.of_eq {w w':World} {b:Nat} (h:w'.heap[b]? =w.heap[b]?):Cz w w' b:=fun arr _ a=>⟨arr,h.trans a,rfl⟩
theorem Cz.trans {w c a:World} {b:Nat} (k:Cz w c b) (f:Cz c a b):Cz w a b:=fun arr e h=>by obtain⟨d,i,l⟩:=k arr e h;obtain⟨j,m,g⟩:=f d e i;exact⟨j,m,g.trans l⟩
theorem Cz.mh {w w':World} {b:Nat} (h:Cz w w' b) (c:fD w b):fD w' b:=by obtain⟨arr,e,c⟩:=c;obtain⟨a,d,_⟩:=h arr e c;exact⟨a,e,d⟩
structure Fr (B:Nat) (E:Ex) (w0 w:World):Prop where
 os:w.os=w0.os
 tape:w.tape=w0.tape
 output:w.output=w0.output
 size:B<=w.heap.size
 block:∀b,b<B->¬E b->w.heap[b]? =w0.heap[b]?
 mh:∀b,b<B->Cz w0 w b
def amA (p q:PB) (b:bf):Prop:=
 q.nl=p.nl/\q.b=p.b/\q.o=p.o/\q.cap=p.cap/\q.na=p.na/\
  ∀gr sz xs,b=.row gr .live sz xs->∀k j pc,At p.px k j pc->pc.kw=true->∃fo,At q.px k j fo/\fo.val=pc.val/\fo.kw=true
structure R (B:Nat) (E:Ex) (w0:World) (N:Nat) (σ:St) (a:Act) (w:World) (G:Gh):Prop where
 defers:a.defers=[]
 size:a.tmps.size=N
 env:∀s,RA w G σ.h (σ.env s) (a.tmps.getD s undef)
 uH:∀s n,(σ.env s).ref n->σ.used n=true
 hr:HR B E w G σ.h σ.used []
 fr:Fr B E w0 w
 rG:∀n p b,E.rG n=some p->σ.h n=some b->amA p (G.g n) b
 BQ:∀n,aY<=n->σ.used n=true
inductive MO where
 |t (n:Nat)
 |k (v:aE)
inductive eB where
 |mv (x:MO)
 |pick (c x y:MO)
 |alloc (zs:List ar)
 |box (sz:Nat) (x:MO)
 |build (zs:List ar) (parts:List (Nat×Nat×MO))
 |gk (sz:Nat) (parts:List MO)
 |Av (sz:Nat) (parts:List MO)
 |load (ag:Bool) (sz:Nat) (x:MO)
 |store (sz:Nat) (x v:MO)
 |bin (op:BinOp) (x y:MO)
 |qV (op:BinOp) (x y:MO)
 |un (op:UnOp) (x:MO)
 |ji (m:Mode) (sz by_:Nat) (zs:List C) (l c:MO)
 |slice (sz:Nat) (x:MO) (lo hi:Option MO)
 |rQ (off:Nat) (x:MO)
 |ru (sz:Nat) (x i:MO)
 |ext (i:Nat) (x:MO)
 |len (x:MO)
 |append (fl:Bool) (sz by_:Nat) (x y:MO)
 |vR (z:C) (x:MO)
 |mm (mx:Bool) (x y:MO)
 |call (m:Mode) (f:FuncId) (xs:List MO)
 |qW (f:FuncId) (xs:List MO)
 |kH (m:Mode) (f:FuncId) (xs:List MO)
 |tR (f:FuncId) (xs:List MO)
 |qX (f:FuncId) (xs:List MO)
 |pG (f:FuncId) (xs:List MO)
 |tT (m:Mode) (f:FuncId) (xs:List MO)
structure eI where
 dst:Option Nat
 op:eB
 guard:Option (Nat×Bool)
structure yH where
 ia:Nat
 sz:Nat
 by_:Nat
 mx:MO
 ml:MO
 my:MO
 d:Nat
inductive Z7 where
 |T8 (sz:Nat) (p:MO)
 |T9 (p:MO) (s:Nat)
 |pop (x lo:MO) (s:Nat)
 |Ue (f:FuncId) (xs:List MO)
inductive ams where
 |op (m:eI)
 |HO (d:Nat) (c:Z7)
inductive mX where
 |skip
 |dM (sT:Bool) (ops:List eI)
 |wJ (sT:Bool) (ps:List (Nat×Nat)) (ops:List eI) (sp:yH)
 |seq (a b:mX)
 |cond (c:MO) (a b:mX)
 |block (id:Nat) (c:mX)
 |join (ke kh:List Nat) (cn:List (Bool×Nat×Nat×Nat×Mode)) (c:mX)
 |loop (id:Nat) (ke kh:List Nat) (cn:List (Bool×Nat×Nat×Nat×Mode)) (c:mX)
 |exit (id:Nat)
 |ret
inductive K where
 |one|agg|ptr
 deriving DecidableEq
abbrev Dv:=K×List C
abbrev cX:=List (List (Option Mode))
structure bL where
 pure:List (FuncId×(List Dv->Option (List Dv)))
 DG:List (FuncId×cX×(List Dv->Option (List Dv×List C)))
 vs:List (FuncId×(List Dv->Option (List Dv×List C)))
 ws:List (FuncId×cX×(List Dv->Option (Nat×Nat)))
 xs:List (FuncId×Nat×(List Dv->Option (List Dv×List C)))
 ns:List (FuncId×(List Dv->Option (List Dv)))
def bL.tZ:List (FuncId×cX×(List Dv->Option (List Dv×List C)))->FuncId->Option (cX×(List Dv->Option (List Dv×List C)))
 |[],_=>none
 |(g,M)::l,f=>if f=g then some M else bL.tZ l f
def bL.xC:List (FuncId×cX×(List Dv->Option (Nat×Nat)))->FuncId->Option (cX×(List Dv->Option (Nat×Nat)))
 |[],_=>none
 |(g,M)::l,f=>if f=g then some M else bL.xC l f
def bL.xD:List (FuncId×Nat×(List Dv->Option (List Dv×List C)))->FuncId->Option (Nat×(List Dv->Option (List Dv×List C)))
 |[],_=>none
 |(g,M)::l,f=>if f=g then some M else bL.xD l f
def bL.rR:List (FuncId×(List Dv->Option (List Dv×List C)))->FuncId->Option (List Dv->Option (List Dv×List C))
 |[],_=>none
 |(g,M)::l,f=>if f=g then some M else bL.rR l f
def bL.find:List (FuncId×(List Dv->Option (List Dv)))->FuncId->Option (List Dv->Option (List Dv))
 |[],_=>none
 |(g,M)::l,f=>if f=g then some M else bL.find l f
inductive xm where
 |iH (σ:St)
 |ext (id:Nat) (σ:St)
 |ret (σ:St)
def St.ev (σ:St):MO->aE
 |.t n=>σ.env n
 |.k v=>v
def St.put (σ:St) (d:Option Nat) (v:aE):St:=
 match d with
 |some n=>{σ with env:=bj σ.env n v}
 |none=>σ
def St.ins (σ:St) (n:Nat) (b:bf):Option St:=
 if σ.used n=true then none else some {σ with h:=bj σ.h n (some b),used:=bj σ.used n true}
def St.gu (σ:St) (n:Nat) (b:bf):St:={σ with h:=bj σ.h n (some b)}
def St.del (σ:St) (n:Nat):St:={σ with h:=bj σ.h n none}
def aE.cells?:aE->Option (Bool×List ar)
 |.one .cC=>none
 |.one c=>some (false,[c])
 |.agg cs=>some (true,cs)
 |.dh _=>none
def vD:Bool->List ar->aE
 |true,cs=>.agg cs
 |false,[c]=>.one c
 |false,_=>.one .cC
def sub {α:Type} (l:List α) (off sz:Nat):Option (List α):=if off+sz<=l.length then some ((l.drop off).take sz) else none
def e9 {α:Type} (l:List α) (off:Nat) (vs:List α):List α:=l.take off++vs++l.drop (off+vs.length)
def C.gU:C->Bool
 |.list ..=>false
 |_=>true
def jb (l:List C):Bool:=l.all C.gU
def jm (l:List (List C)):Bool:=l.all jb
def ld (n k rs:Nat):Nat->List C->List ar
 |_,[]=>[]
 |off,.list sz ys::l=>.cG n k rs off sz ys.length::ld n k rs (off+1) l
 |off,x::l=>.c x::ld n k rs (off+1) l
def loadAt (h:Nat->Option bf) (p:ar) (sz:Nat):Option (List ar):=
 match p with
 |.ptr n k aZ off=>
  match h n with
  |some (.box cs)=>if k=0 then sub cs off sz else none
  |some (.row _ m rs xs)=>
   if aZ=rs then
    match xs[k]? with
    |some e=>match sub e off sz with
     |some l=>some (if m=.live then ld n k rs off l else l.map .c)
     |none=>none
    |none=>none
   else none
  |none=>none
 |.eU xs off=>(sub xs off sz).map (·.map .c)
 |.dW xs off j n s len=>if off=j/\sz=1 then some [.sl n s 0 len] else if off+sz<=j then(sub xs off sz).map (·.map .c) else none
 |.ez n k aZ off s i=>
  match h n with
  |some (.row _ .live rs xs)=>if rs=aZ then
   match(xs[k]?).bind (·[off]?) with
   |some (.list s' ys)=>if s'=s/\sz=s then
    match ys[i]? with
    |some e=>if jb e=true then some (e.map .c) else none
    |none=>none
    else none
   |_=>none
   else none
  |_=>none
 |_=>none
def eA (h:Nat->Option bf):ar->Option C
 |.c x=>some x
 |.nil sz=>if 0<sz then some (.list sz []) else none
 |.sl n sz lo len=>
  match h n with
  |some (.row _ _ rs xs)=>if rs=sz/\lo+len<=xs.length then some (.list sz ((xs.drop lo).take len)) else none
  |_=>none
 |.cG n k aZ off sz len=>
  match h n with
  |some (.row _ .live rs xs)=>if rs=aZ then(xs[k]?).bind (·[off]?) else none
  |_=>none
 |_=>none
def lm (h:Nat->Option bf):List ar->Option (List C)
 |[]=>some []
 |c::cs=>match eA h c,lm h cs with
  |some x,some xs=>some (x::xs)
  |_,_=>none
def lH (h:Nat->Option bf):aE->Option Dv
 |.one (.ptr n k sz off)=>
  match h n with
  |some (.box cs)=>if k=0/\off=0 then(lm h cs).map fun l=>(.ptr,l) else none
  |_=>none
 |.one (.eU xs off)=>if off=0 then some (.ptr,xs) else none
 |.one c=>(eA h c).map fun x=>(.one,[x])
 |.agg cs=>(lm h cs).map fun l=>(.agg,l)
 |.dh _=>none
def qa (h:Nat->Option bf):List aE->Option (List Dv)
 |[]=>some []
 |c::cs=>match lH h c,qa h cs with
  |some x,some xs=>some (x::xs)
  |_,_=>none
def St.jC (σ:St):ar->Option (C×Bool×St)
 |.c x=>some (x,x.gU,σ)
 |.nil sz=>if 0<sz then some (.list sz [],true,σ) else none
 |.sl n sz lo len=>
  match σ.h n with
  |some (.row _ m rs xs)=>if rs=sz/\lo=0/\len<=xs.length then some (.list sz (xs.take len),decide (m≠ .bn),σ.del n) else none
  |_=>none
 |_=>none
def St.jp (σ:St):List ar->Option (List C×Bool×St)
 |[]=>some ([],true,σ)
 |c::cs=>match σ.jC c with
  |some (x,o,σ1)=>match σ1.jp cs with
   |some (xs,o',σ2)=>some (x::xs,o&&o',σ2)
   |none=>none
  |none=>none
def St.oJ (sz:Nat) (σ:St):List aE->Option (List (List C)×Bool×St)
 |[]=>some ([],true,σ)
 |v::vs=>match v.cells? with
  |some (_,cs)=>if cs.length=sz then
   match σ.jp cs with
   |some (e,o,σ1)=>match σ1.oJ sz vs with
    |some (es,o',σ2)=>some (e::es,o&&o',σ2)
    |none=>none
   |none=>none
   else none
  |none=>none
def Jt:List ar->Option (List C)
 |[]=>some []
 |.c x::cs=>if x.gU=true then match Jt cs with
  |some e=>some (x::e)
  |none=>none
  else none
 |_::_=>none
def FY (sz:Nat):List aE->Option (List (List C))
 |[]=>some []
 |v::vs=>match v.cells? with
  |some (_,cs)=>if cs.length=sz then
   match Jt cs with
   |some e=>match FY sz vs with
    |some es=>some (e::es)
    |none=>none
   |none=>none
   else none
  |none=>none
theorem aiA (σ:St):∀{cs:List ar} {e:List C},Jt cs=some e->σ.jp cs=some (e,true,σ)
 |[],e,h=>by injection h with h;rw[<-h];rfl
 |c::cs,e,h=>by cases c with|c x=>simp only[Jt] at h;split at h;rename_i hx;split at h;rename_i e1 a;injection h with h;subst h;simp only[St.jp,St.jC,aiA σ a,hx,zba];cases h;cases h|_=>cases h
theorem aiz (σ:St) {sz:Nat}:∀{vs:List aE} {a:List (List C)},FY sz vs=some a->σ.oJ sz vs=some (a,true,σ)
 |[],a,h=>by injection h with h;rw[<-h];rfl
 |v::vs,a,h=>by simp only[FY] at h;split at h;rename_i b cs f;split at h;rename_i hl;split at h;rename_i e d;split at h;rename_i es1 c;injection h with h;subst h;simp only[St.oJ,f,hl,if_true,aiA σ d,aiz σ c,zba];cases h;cases h;cases h;cases h
theorem alW {σ:St}:∀{cs:List ar} {e:List C} {o:Bool} {σ1:St},σ.jp cs=some (e,o,σ1)->(∀x∈e,x.gU=true)->Jt cs=some e/\o=true/\σ1=σ
 |[],e,o,σ1,h,_=>by simp only[St.jp,zab,zao] at h;obtain⟨rfl,rfl,rfl⟩:=h;exact⟨rfl,rfl,rfl⟩
 |c::cs,e,o,σ1,h,hs=>by simp only[St.jp] at h;split at h;rename_i x o1 σ2 a;split at h;rename_i xs o2 j6 g;simp only[zab,zao] at h;obtain⟨rfl,rfl,rfl⟩:=h;have hx:=hs x (by simp);(cases c with|c y=>simp only[St.jC,zab,zao] at a;obtain⟨rfl,rfl,rfl⟩:=a;obtain⟨p1,b,f⟩:=alW g fun z d=>hs z (by simp[d]);exact⟨by simp only[Jt,hx,p1,if_true],by rw[hx,b];rfl,f⟩|nil sz=>simp only[St.jC] at a;split at a;simp only[zab,zao] at a;obtain⟨rfl,rfl,rfl⟩:=a;cases hx;cases a|sl n sz lo len=>simp only[St.jC] at a;split at a;split at a;simp only[zab,zao] at a;obtain⟨rfl,rfl,rfl⟩:=a;cases hx;cases a;cases a|_=>cases a);cases h;cases h
theorem alV {σ:St} {sz:Nat}:∀{vs:List aE} {a:List (List C)} {o:Bool} {σ1:St},σ.oJ sz vs=some (a,o,σ1)->(∀e∈a,∀x∈e,x.gU=true)->FY sz vs=some a/\o=true/\σ1=σ
 |[],a,o,σ1,h,_=>by simp only[St.oJ,zab,zao] at h;obtain⟨rfl,rfl,rfl⟩:=h;exact⟨rfl,rfl,rfl⟩
 |v::vs,a,o,σ1,h,hs=>by simp only[St.oJ] at h;split at h;rename_i b cs d;split at h;rename_i hl;split at h;rename_i e o1 σ2 c;split at h;rename_i es1 o2 j6 i;simp only[zab,zao] at h;obtain⟨rfl,rfl,rfl⟩:=h;obtain⟨p1,rfl,rfl⟩:=alW c (hs e (by simp));obtain⟨f,rfl,rfl⟩:=alV i fun z g=>hs z (by simp[g]);exact⟨by simp only[FY,d,hl,if_true,p1,f],rfl,rfl⟩;cases h;cases h;cases h;cases h
def Mode.yi:Mode->Bool
 |.live=>false
 |_=>true
def St.imp (m:Mode) (σ:St):Nat->List C->Option (List ar×Nat×St)
 |nm,[]=>some ([],nm,σ)
 |nm,.list sz xs::cs=>match σ.ins nm (.row m.yi m sz xs) with
  |some σ1=>match σ1.imp m (nm+1) cs with
   |some (l,jk,σ2)=>some (.sl nm sz 0 xs.length::l,jk,σ2)
   |none=>none
  |none=>none
 |nm,x::cs=>match σ.imp m nm cs with
  |some (l,jk,σ2)=>some (.c x::l,jk,σ2)
  |none=>none
def St.nF (m:Mode) (σ:St):Nat->List Dv->Option (List (Bool×List ar)×St)
 |_,[]=>some ([],σ)
 |nm,(.ptr,_)::_=>none
 |nm,(k,cs)::ds=>match σ.imp m nm cs with
  |some (l,jk,σ1)=>match σ1.nF m jk ds with
   |some (ls,σ2)=>some ((decide (k=.agg),l)::ls,σ2)
   |none=>none
  |none=>none
def rH:List (Bool×List ar)->aE
 |[(ag,cs)]=>vD ag cs
 |l=>.dh l
def BM (d:Option Nat):Nat:=match d with|some n=>1000*(n+1)|none=>999
def mG:List Dv->Option (List (Bool×List ar))
 |[]=>some []
 |(.ptr,_)::_=>none
 |(k,cs)::ds=>match mG ds with
  |some ls=>some ((decide (k=.agg),cs.map .c)::ls)
  |none=>none
def Aw (T:bL) (f:FuncId) (as:List aE) (h:Nat->Option bf):Option aE:=
 match qa h as with
 |some ds=>match bL.find T.pure f with
  |some M=>match M ds with
   |some rs=>match mG rs with
    |some ls=>some (rH ls)
    |none=>none
   |none=>none
  |none=>none
 |none=>none
def CH (T:bL) (m:Mode) (d:Option Nat) (f:FuncId) (as:List aE) (σ:St):Option St:=
 match qa σ.h as with
 |some ds=>match bL.find T.pure f with
  |some M=>match M ds with
   |some rs=>match σ.nF m (BM d) rs with
    |some (ls,σ1)=>some (σ1.put d (rH ls))
    |none=>none
   |none=>none
  |none=>none
 |none=>none
def ug:ar->Option C
 |.c x=>some x
 |.nil sz=>if 0<sz then some (.list sz []) else none
 |_=>none
def ot:List ar->Option (List C)
 |[]=>some []
 |c::cs=>match ug c,ot cs with
  |some x,some xs=>some (x::xs)
  |_,_=>none
def yP (h:Nat->Option bf):aE->Option (Nat×List C)
 |.one (.ptr n k _ off)=>if k=0/\off=0 then match h n with
  |some (.box cs)=>match ot cs with
   |some xs=>some (n,xs)
   |none=>none
  |_=>none
  else none
 |_=>none
def St.mB (σ:St):List aE->Option (List Dv×List Nat×St)
 |[]=>some ([],[],σ)
 |v::vs=>match yP σ.h v with
  |some (n,xs)=>match σ.mB vs with
   |some (ds,ns,σ1)=>some ((.ptr,xs)::ds,n::ns,σ1)
   |none=>none
  |none=>match v.cells? with
   |some (ag,cs)=>match σ.jp cs with
    |some (xs,_,σ1)=>match σ1.mB vs with
     |some (ds,ns,σ2)=>some ((if ag=true then .agg else .one,xs)::ds,ns,σ2)
     |none=>none
    |none=>none
   |none=>none
def St.zR (σ:St):List Nat->List C->Option St
 |[],[]=>some σ
 |[n],out=>match σ.h n with
  |some (.box cs)=>if cs.length=out.length then some (σ.gu n (.box (out.map .c))) else none
  |_=>none
 |_,_=>none
def yQ (σ:St) (d:Option Nat):List Dv->Option St
 |[(.ptr,cs)]=>match d with
  |some q=>match σ.ins q (.box (cs.map .c)) with
   |some σ1=>some (σ1.put d (.one (.ptr q 0 0 0)))
   |none=>none
  |none=>none
 |rs=>match mG rs with
  |some ls=>some (σ.put d (rH ls))
  |none=>none
def xy (T:bL) (d:Option Nat) (f:FuncId) (as:List aE) (σ:St):Option St:=
 match σ.mB as,bL.rR T.vs f with
 |some (ds,ns,σ1),some M=>match M ds with
  |some (rs,out)=>match σ1.zR ns out with
   |some σ2=>yQ σ2 d rs
   |none=>none
  |none=>none
 |_,_=>none
def F0:List aE->Option (List Dv)
 |[]=>some []
 |v::vs=>match v.cells? with
  |some (ag,cs)=>match ot cs with
   |some xs=>match F0 vs with
    |some ds=>some ((if ag=true then .agg else .one,xs)::ds)
    |none=>none
   |none=>none
  |none=>none
def ER (T:bL) (f:FuncId) (as:List aE):Option aE:=
 match F0 as,bL.rR T.vs f with
 |some ds,some M=>match M ds with
  |some (rs,[])=>match mG rs with
   |some ls=>some (rH ls)
   |none=>none
  |_=>none
 |_,_=>none
theorem aso {c:ar} {x:C} (h:ug c=some x) (σ:St):∃o,σ.jC c=some (x,o,σ):=by cases c with|c y=>simp only[ug] at h;injection h with h;subst h;exact⟨_,rfl⟩|nil sz=>simp only[ug] at h;split at h;rename_i a;injection h with h;subst h;exact⟨_,aj a⟩;cases h|_=>simp[ug] at h
theorem aeR:∀{cs:List ar} {xs:List C},ot cs=some xs->∀σ:St,∃o,σ.jp cs=some (xs,o,σ)
 |[],xs,h,σ=>by simp only[ot] at h;injection h with h;subst h;exact⟨_,rfl⟩
 |c::cs,xs,h,σ=>by simp only[ot] at h;split at h;rename_i x aP d f;injection h with h;subst h;obtain⟨g,e⟩:=aso d σ;obtain⟨a,b⟩:=aeR f σ;exact⟨g&&a,by simp only[St.jp,e,b]⟩;cases h
theorem aiO:∀{as:List aE} {ds:List Dv},F0 as=some ds->∀σ:St,σ.mB as=some (ds,[],σ)
 |[],ds,h,σ=>by simp only[F0] at h;injection h with h;subst h;rfl
 |v::vs,ds,h,σ=>by simp only[F0] at h;split at h;rename_i ag cs a;split at h;rename_i xs b;split at h;rename_i CI d;injection h with h;subst h;have e:yP σ.h v=none:=(by unfold yP;split;simp only[aE.cells?] at a;injection a with a;injection a with _ a;subst a;simp[ot,ug] at b;rfl);obtain⟨o,c⟩:=aeR b σ;simp only[St.mB,e,a,c,aiO d σ];cases h;cases h;cases h
theorem an6 {T:bL} {d:Option Nat} {f:FuncId} {as:List aE} {v:aE} (h:ER T f as=some v) (σ:St):xy T d f as σ=some (σ.put d v):=by unfold ER at h;split at h;rename_i ds M a c;split at h;rename_i rs b;split at h;rename_i ls hl;injection h with h;subst h;simp only[xy,aiO a σ,c,b,St.zR];unfold yQ;split;simp[mG] at hl;rw[hl];cases h;cases h;cases h
def C.yY:C->Bool
 |.list _ xs=>jm xs
 |_=>true
def C.wy:C->Bool
 |.list ..=>true
 |_=>false
def y3:Mode->List (List C)->Bool
 |.bq,xs=>jm xs
 |.live,xs=>xs.all fun e=>e.all C.yY
 |.bn,_=>false
inductive fe where
 |nil (sz:Nat)
 |row (n:Nat)
 |nest (n k off:Nat)
def yf (h:Nat->Option bf) (md:Mode):ar->Option (fe×C)
 |.nil sz=>if 0<sz/\md≠ .bn then some (.nil sz,.list sz []) else none
 |.sl n sz lo len=>match h n with
  |some (.row gr m rs xs)=>if m≠ .bn/\(md=.live->m=.live)/\rs=sz/\lo=0/\len=xs.length/\y3 md xs=true/\(m=.live->gr=false) then some (.row n,.list sz xs) else none
  |_=>none
 |.cG n k aZ off sz len=>match h n with
  |some (.row false .live rs xs)=>if rs=aZ/\md=.bq then
   match(xs[k]?).bind (·[off]?) with
   |some (.list s ys)=>if jm ys=true then some (.nest n k off,.list s ys) else none
   |_=>none
   else none
  |_=>none
 |_=>none
def fe.gh:fe->Option Nat
 |.nil _=>none
 |.row n=>some n
 |.nest n _ _=>some n
def ar.gh:ar->Option Nat
 |.sl n _ _ _=>some n
 |.cG n _ _ _ _ _=>some n
 |_=>none
def sC:List (Option Mode)->List ar->List Nat
 |some _::fs,c::cs=>c.gh.toList++sC fs cs
 |none::fs,_::cs=>sC fs cs
 |_,_=>[]
def oF (h h0:Nat->Option bf):List (Option Mode)->List ar->Option (List C×List (fe×Mode))
 |[],cs=>match lm h0 cs with
  |some xs=>some (xs,[])
  |none=>none
 |none::fs,c::cs=>match eA h0 c,oF h h0 fs cs with
  |some x,some (xs,its)=>some (x::xs,its)
  |_,_=>none
 |some md::fs,c::cs=>match yf h md c,oF h h0 fs cs with
  |some (it,x),some (xs,its)=>some (x::xs,(it,md)::its)
  |_,_=>none
 |_::_,[]=>none
def tv:cX->List (Bool×List ar)->List Nat
 |s::sig,a::as=>sC s a.2++tv sig as
 |_,_=>[]
def cX.hd:cX->List (Option Mode)
 |[]=>[]
 |s::_=>s
def cX.tl:cX->cX
 |[]=>[]
 |_::sig=>sig
def qI (h h0:Nat->Option bf):cX->List (Bool×List ar)->Option (List Dv×List (fe×Mode))
 |_,[]=>some ([],[])
 |sig,(ag,cs)::as=>match oF h h0 (cX.hd sig) cs,qI h h0 (cX.tl sig) as with
  |some (xs,its),some (ds,Bx)=>some ((if ag=true then(.agg,xs) else(.one,xs))::ds,its++Bx)
  |_,_=>none
def vq:List aE->Option (List (Bool×List ar))
 |[]=>some []
 |v::vs=>match v.cells?,vq vs with
  |some x,some xs=>some (x::xs)
  |_,_=>none
def fk (h:Nat->Option bf) (ns:List Nat):Nat->Option bf:=fun n=>if ns.contains n=true then none else h n
def St.tE (σ:St):fe->C->Option St
 |.nil _,_=>some σ
 |.row n,.list sz xs=>match σ.h n with
  |some (.row gr m rs _)=>if rs=sz then some (σ.gu n (.row gr m rs xs)) else none
  |_=>none
 |.nest n k off,x=>match σ.h n with
  |some (.row gr m rs xs)=>match xs[k]? with
   |some e=>some (σ.gu n (.row gr m rs (xs.set k (e.set off x))))
   |none=>none
  |_=>none
 |_,_=>none
def St.uy (σ:St):List (fe×Mode)->List C->Option St
 |[],[]=>some σ
 |it::its,x::xs=>match σ.tE it.1 x with
  |some σ1=>σ1.uy its xs
  |none=>none
 |_,_=>none
def vV (T:bL) (m:Mode) (d:Option Nat) (f:FuncId) (as:List aE) (σ:St):Option St:=
 match bL.tZ T.DG f,vq as with
 |some (sig,M),some fW=>
  if(tv sig fW).Nodup then
   match qI σ.h (fk σ.h (tv sig fW)) sig fW with
   |some (ds,its)=>match M ds with
    |some (rs,fm)=>match σ.uy its fm with
     |some σ1=>match σ1.nF m (BM d) rs with
      |some (ls,σ2)=>some (σ2.put d (rH ls))
      |none=>none
     |none=>none
    |none=>none
   |none=>none
  else none
 |_,_=>none
def oL:Nat->cX
 |0=>[[some .bq]]
 |i+1=>[]::oL i
def dI (n:Nat):Dv:=(.one,[.int .i64 (n:Int)])
def xM (i lo hi:Nat) (M:List Dv->Option (List Dv×List C)) (ds:List Dv):Option (List Dv×List C):=
 match ds[i]? with
 |some (.one,[.list 1 _])=>M (dI lo::dI hi::ds)
 |_=>none
def Km (h:Nat->Option bf):aE->Option (Nat×Nat×Nat×Nat)
 |.one (.sl n s lo len)=>match h n with
  |some (.row _ _ rs xs)=>if s=1/\rs=1/\lo<xs.length/\lo+len<=xs.length then some (n,lo,len,xs.length) else none
  |_=>none
 |_=>none
def AF (T:bL) (m:Mode) (d:Option Nat) (f:FuncId) (as:List aE) (σ:St):Option St:=
 match bL.xD T.xs f with
 |some (i,M)=>match as[i]? with
  |some a=>match Km σ.h a with
   |some (n,lo,len,N)=>vV {T with DG:=[(f,oL i,xM i lo (lo+len) M)]} m d f (as.set i (.one (.sl n 1 0 N))) σ
   |none=>none
  |none=>none
 |none=>none
def uU (T:bL) (f:FuncId) (as:List aE) (h:Nat->Option bf):Option aE:=
 match bL.xC T.ws f,vq as with
 |some (sig,M),some fW=>
  match tv sig fW with
  |[n]=>match qI h (fk h [n]) sig fW with
   |some (ds,[(.row n',_)])=>if n'=n then match h n,M ds with
    |some (.row _ _ sz _),some (lo,len)=>some (.one (.sl n sz lo len))
    |_,_=>none
    else none
   |_=>none
  |_=>none
 |_,_=>none
def Hr (op:BinOp) (k:IntKind) (a b:Int):Option C:=
 match op with
 |.add=>some (.int k (k.wrap (a+b)))
 |.sub=>some (.int k (k.wrap (a - b)))
 |.mul=>some (.int k (k.wrap (a*b)))
 |.quo=>if b=0 then none else some (.int k (k.wrap (a.tdiv b)))
 |.rem=>if b=0 then none else some (.int k (a.tmod b))
 |.and=>some (.int k (bits .and k a b))
 |.or=>some (.int k (bits .or k a b))
 |.xor=>some (.int k (bits .xor k a b))
 |.eql=>some (.bool (a==b))
 |.neq=>some (.bool (a !=b))
 |.lss=>some (.bool (decide (a<b)))
 |.leq=>some (.bool (decide (a<=b)))
 |.gtr=>some (.bool (decide (b<a)))
 |.geq=>some (.bool (decide (b<=a)))
 |_=>none
def Nh (op:BinOp) (k:IntKind) (a b:Int):Option C:=
 if b<0 then none else
 match op with
 |.shl=>some (.int k (k.wrap (a*2^(min b.toNat k.bits))))
 |.shr=>some (.int k (a/(2^(min b.toNat k.bits))))
 |_=>none
def BinOp.FA:BinOp->Bool
 |.shl|.shr=>true
 |_=>false
def CA (op:BinOp):aE->aE->Option C
 |.one (.c (.int k a)),.one (.c (.int k' b))=>if BinOp.FA op=true then Nh op k a b else if k=k' then Hr op k a b else none
 |_,_=>none
def Hq (op:BinOp):aE->aE->Option C
 |.one (.c (.bool a)),.one (.c (.bool b))=>match op with
  |.eql=>some (.bool (a==b))
  |.neq=>some (.bool (a !=b))
  |_=>none
 |_,_=>none
def Ke (op:UnOp):aE->Option C
 |.one (.c (.bool a))=>match op with
  |.not=>some (.bool (!a))
  |_=>none
 |.one (.c (.int k a))=>match op with
  |.neg=>some (.int k (k.wrap (0 - a)))
  |_=>none
 |_=>none
def aE.fZ:aE->Option Int
 |.one (.c (.int _ n))=>some n
 |_=>none
def eD:Nat:=140737488355328
def vB (ev:MO->aE):List ar->List (Nat×Nat×MO)->Option (List ar)
 |zs,[]=>some zs
 |zs,(off,sz,x)::ps=>match(ev x).cells? with
  |some (_,cs)=>if cs.length=sz/\off+sz<=zs.length then vB ev (e9 zs off cs) ps else none
  |none=>none
def uB (σ:St) (n:Nat) (gr:Bool) (m:Mode) (rs:Nat) (xs:List (List C)) (k off:Nat) (e:List C) (vs:List ar):Option St:=
 match sub e off vs.length with
 |none=>none
 |some lG=>match σ.jp vs with
  |none=>none
  |some (cs,o,σ1)=>
   if m=.live then
    if jb cs=true/\jb lG=true/\(σ1.h n).isSome=true/\gr=false then some (σ1.gu n (.row gr m rs (xs.set k (e9 e off cs)))) else none
   else if(σ1.h n).isSome=true then
    some (σ1.gu n (.row gr (if o=true then m else .bn) rs (xs.set k (e9 e off cs))))
   else none
def qi:List ar->Option (List C)
 |[]=>some []
 |.c x::l=>if x.gU=true then(qi l).map (x::·) else none
 |_::_=>none
def Ge (xs:List (List C)) (k off s i:Nat) (vs:List ar):Option (List (List C)):=
 match(xs[k]?).bind (·[off]?) with
 |some (.list s' ys)=>if s'=s/\vs.length=s/\i<ys.length/\jm ys=true then(qi vs).map fun cs=>xs.set k ((xs.getD k []).set off (.list s' (ys.set i cs))) else none
 |_=>none
def yN (σ:St) (sz:Nat):aE->Option (List (List C)×Mode×St)
 |.one (.nil _)=>some ([],.bq,σ)
 |.one (.sl a s 0 len)=>match σ.h a with
  |some (.row true m rs xs)=>if rs=sz/\s=sz/\len=xs.length then some (xs,m,σ.del a) else none
  |_=>none
 |_=>none
def sO (fl:Bool) (σ1:St) (sz:Nat) (m:Mode):aE->Option (List (List C)×Mode×St)
  |.one (.nil _)=>some ([],m,σ1)
  |.one (.c (.list s ys))=>if s=sz then(if(fl&&jm ys)=true then some (ys,m,σ1) else if m=.live then none else some (ys,.bn,σ1)) else none
  |.one (.sl b s lo len)=>match σ1.h b with
   |some (.row gr m' rs ys)=>if rs=sz/\s=sz/\lo+len<=ys.length then
       (if(fl&&jm ((ys.drop lo).take len))=true then some ((ys.drop lo).take len,m,σ1)
        else if lo=0/\len=ys.length then(if m=m'/\(m=.live->gr=true) then some (ys,m,σ1.del b) else if m=.live\/m'=.live then none else some (ys,.bn,σ1.del b)) else none)
    else none
   |_=>none
  |_=>none
def exec (T:bL) (d:Option Nat) (op:eB) (σ:St):Option St:=
 match op with
 |.mv x=>some (σ.put d (σ.ev x))
 |.pick c x y=>match σ.ev c with
  |.one (.c (.bool b))=>if b=true then some (σ.put d (σ.ev x)) else some (σ.put d (σ.ev y))
  |_=>none
 |.alloc zs=>match d with
  |some n=>match σ.ins n (.box zs) with
   |some σ1=>some (σ1.put d (.one (.ptr n 0 0 0)))
   |none=>none
  |none=>none
 |.box sz x=>match d,(σ.ev x).cells? with
  |some n,some (_,cs)=>if cs.length=sz then
   match σ.ins n (.box cs) with
   |some σ1=>some (σ1.put d (.one (.ptr n 0 0 0)))
   |none=>none
   else none
  |_,_=>none
 |.build zs parts=>match vB σ.ev zs parts with
  |some cs=>some (σ.put d (.agg cs))
  |none=>none
 |.gk sz parts=>match d,σ.oJ sz (parts.map σ.ev) with
  |some n,some (es,o,σ1)=>match σ1.ins n (.row true (if o=true then .bq else .bn) sz es) with
   |some σ2=>some (σ2.put d (.one (.sl n sz 0 es.length)))
   |none=>none
  |_,_=>none
 |.Av sz parts=>match d,FY sz (parts.map σ.ev) with
  |some n,some es=>match σ.ins n (.row true .bq sz es) with
   |some σ2=>some (σ2.put d (.one (.sl n sz 0 es.length)))
   |none=>none
  |_,_=>none
 |.load ag sz x=>match σ.ev x with
  |.one p=>match loadAt σ.h p sz with
   |some cs=>some (σ.put d (vD ag cs))
   |none=>none
  |_=>none
 |.store sz x v=>match σ.ev x,(σ.ev v).cells? with
  |.one (.ptr n k aZ off),some (_,vs)=>if vs.length=sz then
   match σ.h n with
   |some (.box cs)=>if k=0/\off+sz<=cs.length then some (σ.gu n (.box (e9 cs off vs))) else none
   |some (.row gr m rs xs)=>if aZ=rs then
    match xs[k]? with
    |some e=>uB σ n gr m rs xs k off e vs
    |none=>none
    else none
   |none=>none
   else none
  |.one (.ez n k aZ off s i),some (_,vs)=>if vs.length=sz then
   match σ.h n with
   |some (.row false .live rs xs)=>if aZ=rs then
    match Ge xs k off s i vs with
    |some aP=>some (σ.gu n (.row false .live rs aP))
    |none=>none
    else none
   |_=>none
   else none
  |_,_=>none
 |.bin op x y=>match CA op (σ.ev x) (σ.ev y) with
  |some c=>some (σ.put d (.one (.c c)))
  |none=>none
 |.qV op x y=>match Hq op (σ.ev x) (σ.ev y) with
  |some c=>some (σ.put d (.one (.c c)))
  |none=>none
 |.un op x=>match Ke op (σ.ev x) with
  |some c=>some (σ.put d (.one (.c c)))
  |none=>none
 |.ji m sz by_ zs l c=>match d,(σ.ev l).fZ,(σ.ev c).fZ with
  |some n,some a,some b=>if a<=b/\0<=a/\b.toNat*by_<=eD/\zs.length=sz then
   match σ.ins n (.row true m sz (Pd a.toNat zs)) with
   |some σ1=>some (σ1.put d (.one (.sl n sz 0 a.toNat)))
   |none=>none
   else none
  |_,_,_=>none
 |.slice sz x lo hi=>
  let XC:Option Int:=match lo with|none=>some 0|some l=>(σ.ev l).fZ
  match σ.ev x,XC with
  |.one (.sl n s l0 len),some l=>
   match(match hi with|none=>some (len:Int)|some h=>(σ.ev h).fZ) with
   |some h=>if s=sz/\0<=l/\l<=h/\h<=len/\(σ.h n).isSome=true then some (σ.put d (.one (.sl n s (l0+l.toNat) (h - l).toNat))) else none
   |none=>none
  |.one (.c (.list s xs)),some l=>
   match(match hi with|none=>some (xs.length:Int)|some h=>(σ.ev h).fZ) with
   |some h=>if s=sz/\0<=l/\l<=h/\h<=xs.length then some (σ.put d (.one (.c (.list s ((xs.drop l.toNat).take (h - l).toNat))))) else none
   |none=>none
  |_,_=>none
 |.rQ off x=>match σ.ev x with
  |.one (.ptr n k sz o)=>if(σ.h n).isSome=true then some (σ.put d (.one (.ptr n k sz (o+off)))) else none
  |.one (.eU xs o)=>some (σ.put d (.one (.eU xs (o+off))))
  |.one (.dW xs o j n s len)=>some (σ.put d (.one (.dW xs (o+off) j n s len)))
  |_=>none
 |.ru sz x i=>match σ.ev x,(σ.ev i).fZ with
  |.one (.sl n s lo len),some k=>if s=sz/\0<=k/\k<len/\(σ.h n).isSome=true then some (σ.put d (.one (.ptr n (lo+k.toNat) s 0))) else none
  |.one (.c (.list s xs)),some k=>if s=sz/\0<=k then
   match xs[k.toNat]? with
   |some e=>some (σ.put d (.one (.eU e 0)))
   |none=>none
   else none
  |.one (.cG n kk aZ off s len),some k=>match eA σ.h (.cG n kk aZ off s len) with
   |some (.list s' ys)=>if s'=sz/\0<=k/\k<ys.length then some (σ.put d (.one (.ez n kk aZ off sz k.toNat))) else none
   |_=>none
  |_,_=>none
 |.ext i x=>match σ.ev x with
  |.dh xs=>match xs[i]? with
   |some (ag,cs)=>some (σ.put d (vD ag cs))
   |none=>none
  |_=>none
 |.len x=>match σ.ev x with
  |.one (.sl n sz lo len)=>if(σ.h n).isSome=true then some (σ.put d (.one (.c (.int .i64 len)))) else none
  |.one (.c (.list sz xs))=>some (σ.put d (.one (.c (.int .i64 xs.length))))
  |.one (.nil sz)=>some (σ.put d (.one (.c (.int .i64 0))))
  |.one (.cG n k aZ off sz len)=>match eA σ.h (.cG n k aZ off sz len) with
   |some (.list s ys)=>some (σ.put d (.one (.c (.int .i64 ys.length))))
   |_=>none
  |_=>none
 |.append fl sz by_ x y=>match d with
  |none=>none
  |some n=>match yN σ sz (σ.ev x) with
   |none=>none
   |some (xs,m,σ1)=>match sO fl σ1 sz m (σ.ev y) with
    |none=>none
    |some (ys,m2,σ2)=>
     if(xs.length+ys.length)*by_<=eD then
      match σ2.ins n (.row true m2 sz (xs++ys)) with
      |some j6=>some (j6.put d (.one (.sl n sz 0 (xs.length+ys.length))))
      |none=>none
     else none
 |.vR z x=>match σ.ev x with
  |.one (.sl n s lo len)=>match σ.h n with
   |some (.row gr m rs xs)=>if s=1/\rs=1/\z.gU=true/\m≠ .bn/\jm xs=true/\lo+len<=xs.length then
    some ((σ.gu n (.row gr m 1 (e9 xs lo (Pd len [z])))).put d (.dh [])) else none
   |_=>none
  |_=>none
 |.mm mx x y=>match σ.ev x,σ.ev y with
  |.one (.c (.int k a)),.one (.c (.int k' b))=>if mx=true then(if a<b then some (σ.put d (.one (.c (.int k b)))) else some (σ.put d (.one (.c (.int k a)))))
   else(if b<a then some (σ.put d (.one (.c (.int k b)))) else some (σ.put d (.one (.c (.int k a)))))
  |_,_=>none
 |.call m f xs=>CH T m d f (xs.map σ.ev) σ
 |.qW f xs=>match Aw T f (xs.map σ.ev) σ.h with
  |some v=>some (σ.put d v)
  |none=>none
 |.kH m f xs=>vV T m d f (xs.map σ.ev) σ
 |.tR f xs=>xy T d f (xs.map σ.ev) σ
 |.qX f xs=>match uU T f (xs.map σ.ev) σ.h with
  |some v=>some (σ.put d v)
  |none=>none
 |.pG f xs=>match ER T f (xs.map σ.ev) with
  |some v=>some (σ.put d v)
  |none=>none
 |.tT m f xs=>AF T m d f (xs.map σ.ev) σ
def iY (T:bL) (o:eI) (σ:St):Option St:=
 match o.guard with
 |none=>exec T o.dst o.op σ
 |some (s,vG)=>match σ.env s with
  |.one (.c (.bool b))=>if b=vG then exec T o.dst o.op σ else some (σ.put o.dst (.dh []))
  |.dh []=>some (σ.put o.dst (.dh []))
  |_=>none
def ic (T:bL):List eI->St->Option St
 |[],σ=>some σ
 |o::os,σ=>match iY T o σ with
  |some σ'=>ic T os σ'
  |none=>none
def ar.iz (ok:Nat->Bool):ar->ar
 |.ptr n k sz off=>if ok n=true then .ptr n k sz off else .cC
 |.sl n sz lo len=>if ok n=true then .sl n sz lo len else .cC
 |.cG n k aZ off sz len=>if ok n=true then .cG n k aZ off sz len else .cC
 |.ez n k aZ off sz i=>if ok n=true then .ez n k aZ off sz i else .cC
 |.dW xs off j n sz len=>if ok n=true then .dW xs off j n sz len else .cC
 |x=>x
def ar.fh (ok:Nat->Bool):ar->ar
 |.fn f fv=>.fn f (fv.map (·.iz ok))
 |x=>x.iz ok
def aE.fh (ok:Nat->Bool):aE->aE
 |.one c=>.one (c.fh ok)
 |.agg cs=>.agg (cs.map (·.fh ok))
 |.dh xs=>.dh (xs.map fun x=>(x.1,x.2.map (·.fh ok)))
def bf.fh (ok:Nat->Bool):bf->bf
 |.box cs=>.box (cs.map (·.fh ok))
 |b=>b
def CJ:Nat->aE:=fun _=>.one .cC
def HX:Nat->Option bf:=fun _=>none
def abN:Nat->Bool:=fun _=>false
def BU (ok:Nat->Bool) (env:Nat->aE):List Nat->(Nat->aE)
 |[]=>CJ
 |s::ss=>bj (BU ok env ss) s ((env s).fh ok)
def wL (ok:Nat->Bool) (h:Nat->Option bf):List Nat->(Nat->Option bf)
 |[]=>HX
 |s::ss=>if ok s=true then match h s with
  |some b=>bj (wL ok h ss) s (some (b.fh ok))
  |none=>wL ok h ss
  else wL ok h ss
def BV (ok:Nat->Bool):List Nat->(Nat->Bool)
 |[]=>abN
 |s::ss=>if ok s=true then bj (BV ok ss) s true else BV ok ss
def ar.DX (n:Nat):ar->Bool
 |.ptr m _ _ _=>m==n
 |.sl m _ _ _=>m==n
 |.cG m _ _ _ _ _=>m==n
 |.ez m _ _ _ _ _=>m==n
 |.dW _ _ _ m _ _=>m==n
 |_=>false
def ar.lg (n:Nat):ar->Bool
 |.fn _ fv=>fv.any (·.DX n)
 |x=>x.DX n
def aE.lg (n:Nat):aE->Bool
 |.one c=>c.lg n
 |.agg cs=>cs.any (·.lg n)
 |.dh xs=>xs.any fun x=>x.2.any (·.lg n)
def St.np (σ:St) (ke kh:List Nat):Nat->Bool:=fun n=>kh.contains n&&(σ.h n).isSome&&
 (zbj aY n||ke.any (fun s=>(σ.env s).lg n)||kh.any fun k=>match σ.h k with|some (.box cs)=>cs.any (·.lg n)|_=>false)
def St.mf (σ:St) (ke kh:List Nat):St:=
 {env:=BU (σ.np ke kh) σ.env ke,h:=wL (σ.np ke kh) σ.h kh,used:=fun n=>zbj aY n||BV (σ.np ke kh) kh n}
def sF (x c n:Nat):Nat:=if n=x then c else n
def ar.tF (x c:Nat):ar->ar
 |.ptr n k sz off=>.ptr (sF x c n) k sz off
 |.sl n sz lo len=>.sl (sF x c n) sz lo len
 |.cG n k aZ off sz len=>.cG (sF x c n) k aZ off sz len
 |.ez n k aZ off sz i=>.ez (sF x c n) k aZ off sz i
 |.dW xs off j n sz len=>.dW xs off j (sF x c n) sz len
 |y=>y
def ar.cr (x c:Nat):ar->ar
 |.fn f fv=>.fn f (fv.map (·.tF x c))
 |y=>y.tF x c
def aE.cr (x c:Nat):aE->aE
 |.one y=>.one (y.cr x c)
 |.agg ys=>.agg (ys.map (·.cr x c))
 |.dh ys=>.dh (ys.map fun y=>(y.1,y.2.map (·.cr x c)))
def bf.cr (x c:Nat):bf->bf
 |.box cs=>.box (cs.map (·.cr x c))
 |b=>b
def St.cr (σ:St) (x c:Nat):Option St:=
 if x=c then some σ else if zbj aY x=true then some σ else if σ.used c=true then none else
 some {env:=fun s=>(σ.env s).cr x c,h:=fun n=>if n=c then(σ.h x).map (·.cr x c) else if n=x then none else(σ.h n).map (·.cr x c),used:=fun n=>if n=c then σ.used x else if n=x then false else σ.used n}
def St.oK (σ:St) (c:Nat):Mode->St
 |.bn=>match σ.h c with
  |some (.row gr .bq rs xs)=>σ.gu c (.row gr .bn rs xs)
  |_=>σ
 |_=>σ
def St.canon (σ:St):Bool×Nat×Nat×Nat×Mode->Option St
 |(true,n,j,c,m)=>match σ.h n with
  |some (.box cs)=>match cs[j]? with
   |some (.sl a _ _ _)=>(σ.cr a c).map fun σ1=>σ1.oK c m
   |some (.nil sz)=>if 0<sz then match σ.ins c (.row true m sz []) with
    |some σ1=>some (σ1.gu n (.box (cs.set j (.sl c sz 0 0))))
    |none=>none
    else some σ
   |_=>some σ
  |_=>some σ
 |(false,n,j,c,m)=>match σ.env n with
  |.one (.sl a _ _ _)=>(σ.cr a c).map fun σ1=>σ1.oK c m
  |.one (.nil sz)=>if 0<sz then match σ.ins c (.row true m sz []) with
   |some σ1=>some (σ1.put (some n) (.one (.sl c sz 0 0)))
   |none=>none
   else some σ
  |_=>some σ
def St.yR (σ:St):List (Bool×Nat×Nat×Nat×Mode)->Option St
 |[]=>some σ
 |x::l=>match σ.canon x with
  |some σ1=>σ1.yR l
  |none=>none
def St.head (σ:St) (ke kh:List Nat) (cn:List (Bool×Nat×Nat×Nat×Mode)):Option St:=
 match((σ.mf ke kh).mf ke kh).yR cn with
 |some σ1=>some (σ1.mf ke kh)
 |none=>none
def eB.args:eB->List MO
 |.mv x|.box _ x|.load _ _ x|.un _ x|.rQ _ x|.ext _ x|.len x|.vR _ x=>[x]
 |.pick c x y=>[c,x,y]
 |.alloc _=>[]
 |.build _ ps=>ps.map (·.2.2)
 |.gk _ ps|.Av _ ps=>ps
 |.store _ x v=>[x,v]
 |.bin _ x y|.qV _ x y|.mm _ x y|.append _ _ _ x y|.ru _ x y=>[x,y]
 |.ji _ _ _ _ l c=>[l,c]
 |.slice _ x lo hi=>x::(lo.toList++hi.toList)
 |.call _ _ xs|.kH _ _ xs|.qW _ xs|.tR _ xs|.qX _ xs|.pG _ xs|.tT _ _ xs=>xs
def eB.asA:eB->Bool
 |.call ..|.qW ..=>true
 |_=>false
def ar.nm0:ar->List Nat
 |.ptr n _ _ _=>[n]
 |.sl n _ _ _=>[n]
 |.cG n _ _ _ _ _=>[n]
 |.ez n _ _ _ _ _=>[n]
 |.dW _ _ _ n _ _=>[n]
 |_=>[]
def ar.nm:ar->List Nat
 |.fn _ fv=>fv.flatMap ar.nm0
 |x=>x.nm0
abbrev FP:=List Nat×List Nat
def an0 (f g:FP):Bool:=f.2.all (fun n=> !(g.1.contains n))&&g.2.all (fun n=> !(f.1.contains n))
def an1:Option FP->Option FP->Bool
 |some f,some g=>an0 f g
 |_,_=>false
def xz (o:eI) (e:Nat->aE):Option eB:=
 match o.guard with
 |none=>some o.op
 |some (s,vG)=>match e s with
  |.one (.c (.bool b))=>if b=vG then some o.op else some (.mv (.k (.dh [])))
  |.dh []=>some (.mv (.k (.dh [])))
  |_=>none
def aN:Nat:=2^64
def Jf:Nat->(St->Option xm)->St->Option xm
 |0,_,_=>none
 |n+1,f,σ=>match f σ with
  |some (.iH σ')=>Jf n f σ'
  |o=>o
def ar.kS (n:Nat):ar->ar
 |.cG m k aZ off sz len=>match zbi m n with
  |true=>.cC
  |false=>.cG m k aZ off sz len
 |.ez m k aZ off sz i=>match zbi m n with
  |true=>.cC
  |false=>.ez m k aZ off sz i
 |y=>y
def ar.cut (n:Nat):ar->ar
 |.fn f fv=>.fn f (fv.map (·.kS n))
 |y=>y.kS n
def aE.cut (n:Nat):aE->aE
 |.one c=>.one (c.cut n)
 |.agg cs=>.agg (cs.map (·.cut n))
 |.dh xs=>.dh (xs.map fun x=>(x.1,x.2.map (·.cut n)))
def bf.cut (n:Nat):bf->bf
 |.box cs=>.box (cs.map (·.cut n))
 |b=>b
def St.cut (σ:St) (n:Nat):St:={σ with env:=fun s=>(σ.env s).cut n,h:=fun m=>(σ.h m).map (·.cut n)}
def Jj (sp:yH) (σ:St):Option St:=
 match σ.ev sp.mx,σ.ev sp.ml,σ.ev sp.my with
 |.one (.ptr n k rs off),.one (.cG n' k' oH qK s0 DA),.one yc=>
  if n'=n/\k'=k/\oH=rs/\qK=off/\off+1=rs/\n<aY then
   match σ.h n with
   |some (.row true .live rs2 xs)=>if rs2=rs then
    match(xs[k]?).bind (·[off]?),eA σ.h yc with
    |some (.list s ls),some (.list s' ys)=>
     if s=sp.sz/\s'=sp.sz/\jm ls=true/\jm ys=true/\(ls.length+ys.length)*sp.by_<=eD then
      some ((σ.cut n).gu n (.row true .live rs (xs.set k ((xs.getD k []).set off (.list sp.sz (ls++ys))))))
     else none
    |_,_=>none
    else none
   |_=>none
  else none
 |_,_,_=>none
def fB (T:bL):mX->St->Option xm
 |.skip,σ=>some (.iH σ)
 |.dM _ ops,σ=>match ic T ops σ with
  |some σ'=>some (.iH σ')
  |none=>none
 |.wJ false _ ops sp,σ=>match ic T ops σ with
  |some σ1=>match Jj sp σ1 with
   |some σ'=>some (.iH σ')
   |none=>none
  |none=>none
 |.wJ true ps ops sp,σ=>none
 |.seq a b,σ=>match fB T a σ with
  |some (.iH σ')=>fB T b σ'
  |o=>o
 |.cond c a b,σ=>match σ.ev c with
  |.one (.c (.bool t))=>if t=true then fB T a σ else fB T b σ
  |_=>none
 |.block id c,σ=>match fB T c σ with
  |some (.ext i σ')=>if i=id then some (.iH σ') else some (.ext i σ')
  |o=>o
 |.join ke kh cn c,σ=>match fB T c σ with
  |some (.iH σ')=>match σ'.head ke kh cn with
   |some σ1=>some (.iH σ1)
   |none=>none
  |o=>o
 |.loop id ke kh cn c,σ=>Jf aN (fun σ=>match σ.head ke kh cn with|some σ1=>fB T c σ1|none=>none) σ
 |.exit id,σ=>some (.ext id σ)
 |.ret,σ=>some (.ret σ)
section
variable {B:Nat} {E:Ex} {w0 w w':World} {G G':Gh} {h h':Nat->Option bf} {used used':Nat->Bool} {tk:List PC}
theorem cD.refl (w:World) (G:Gh) (h:Nat->Option bf) (u:Nat->Prop):cD w G h u w G h:= ⟨fun _ h=>h,fun _ _ _=>rfl,fun _ _ h=>⟨h,rfl,rfl,rfl,rfl,rfl⟩,fun n c sz xs _ hn=>⟨⟨c,xs,hn⟩,fun k j pc b a=>⟨pc,b,rfl,a⟩⟩⟩
theorem cD.trans {d f l:World} {i g e:Gh} {c m p:Nat->Option bf} {u u2:Nat->Prop} (s:∀n,u n->u2 n) (a:cD d i c u f g m) (b:cD f g m u2 l e p):cD d i c u l e p:=by refine⟨fun x hx=>b.im x (a.im x hx),fun x hx o=>(b.cell x (a.im x hx) o).trans (a.cell x hx o),fun n hn h=>?_,fun n I sz xs hn h=>?_⟩;obtain⟨P,v,F,w,L,y⟩:=b.name n (s n hn) h;obtain⟨J,Q,O,z,N,H⟩:=a.name n hn P;exact⟨J,v.trans Q,F.trans O,w.trans z,L.trans N,y.trans H⟩;obtain⟨⟨R,M,S⟩,l2⟩:=b.live n I sz xs (s n hn) h;obtain⟨t,l1⟩:=a.live n R sz M hn S;refine⟨t,fun k j pc p1 A=>?_⟩;obtain⟨q,E,K,B⟩:=l1 k j pc p1 A;obtain⟨r,G,C,D⟩:=l2 k j q E B;exact⟨r,G,C.trans K,D⟩
theorem cD.world (d:∀b,G.Im b->w'.heap[b]? =w.heap[b]?) (u:Nat->Prop):cD w G h u w' G h:= ⟨fun _ h=>h,fun b a o=>ku (d b a) o,fun _ _ h=>⟨h,rfl,rfl,rfl,rfl,rfl⟩,fun n f sz xs _ hn=>⟨⟨f,xs,hn⟩,fun k j pc e c=>⟨pc,e,rfl,c⟩⟩⟩
theorem HR.tG (H:HR B E w G h used tk) {n:Nat} {f:Bool} {m:Mode} {sz:Nat} {xs:List (List C)} (hn:h n=some (.row f m sz xs)) {b:Nat} (a:bY b (G.g n).px):b<w.heap.size:=by have hr:=H.row n f m sz xs hn;cases bJ:(G.g n).nl with|true=>obtain⟨k,j,c,⟨e,d,_⟩,_⟩:=a;rw[(hr.nl bJ).1] at d;simp at d|false=>exact(hr.f0 bJ).2.1.lt a
theorem HR.grow (H:HR B E w G h used tk) (g:∀b,b<w.heap.size->w'.heap[b]? =w.heap[b]?) (r:w.heap.size<=w'.heap.size):HR B E w' G h used tk:=by have K:cD w G h (fun n=>used n=true) w' G h:=cD.world (fun b a=>g b (H.jN b a)) _;have k:∀b,fD w b->fD w' b:=fun b a=>a.congr (g b a.lt);refine⟨H.lP,H.kP,fun n cs hn=>?_,fun n z m sz xs hn=>?_,fun n hn hl=>?_,H.inj,fun b a=>IS (H.jN b a) r,H.uf,H.ju,H.live,fun i pc C=>?_,H.B3,H.w6⟩;obtain⟨u,s,D⟩:=H.box n cs hn;refine⟨u,k _ s,fun j c q=>?_⟩;obtain⟨v,f,d,l⟩:=D j c q;exact⟨v,(ku (g _ s.lt) _).trans f,d,l.keep K fun m hm=>H.kP n cs c m hn (co q) hm⟩;have hr:=H.row n z m sz xs hn;refine⟨hr.pos,hr.er,hr.nl,fun hl=>?_,fun hl p=>?_,?_,fun p hm=>(hr.nr p hm).congr fun b a=>g b (H.tG hn a)⟩;obtain⟨f,d,l⟩:=hr.f0 hl;exact⟨k _ f,d.congr (fun o=>ku (g _ f.lt) o) (fun b' A o=>ku (g _ (d.lt A)) o),l⟩;obtain⟨y,cur,e,x,t⟩:=hr.room hl p;exact⟨y,cur,e,(g _ (hr.f0 hl).1.lt).trans x,t⟩;have hm:=hr.mode;(cases m with|bn=>exact hm|bq=>exact⟨fun b a=>⟨(hm.1 b a).1,k _ (hm.1 b a).2.1,(hm.1 b a).2.2⟩,hm.2⟩|live=>exact⟨fun b a=>⟨(hm.1 b a).1,k _ (hm.1 b a).2.1,(hm.1 b a).2.2⟩,hm.2⟩);obtain⟨f,d,l⟩:=H.own n hn hl;exact⟨f,d,IS l r⟩;obtain⟨f,d⟩:=H.w5 i pc C;exact⟨f,fun b a=>⟨(d b a).1,k _ (d b a).2.1,(d b a).2.2⟩⟩
theorem Fr.refl (B:Nat) (E:Ex) (w0:World) (a:B<=w0.heap.size):Fr B E w0 w0:= ⟨rfl,rfl,rfl,a,fun _ _ _=>rfl,fun _ _=>Cz.refl _ _⟩
theorem Fr.grow (F:Fr B E w0 w) (c:∀b,b<w.heap.size->w'.heap[b]? =w.heap[b]?) (h:w.heap.size<=w'.heap.size) (f:w'.os=w.os) (d:w'.tape=w.tape) (g:w'.output=w.output):Fr B E w0 w':= ⟨f.trans F.os,d.trans F.tape,g.trans F.output,zas F.size h,fun b a e=>(c b (IS a F.size)).trans (F.block b a e), fun b a=>(F.mh b a).trans (Cz.of_eq (c b (IS a F.size)))⟩
theorem Fr.one (F:Fr B E w0 w) {b0:Nat} (l:B<=b0\/E b0) (e:∀b,b<w.heap.size->b≠b0->w'.heap[b]? =w.heap[b]?) (h:w.heap.size<=w'.heap.size) (i:Cz w w' b0) (j:w'.os=w.os) (g:w'.tape=w.tape) (k:w'.output=w.output):Fr B E w0 w':=by refine⟨j.trans F.os,g.trans F.tape,k.trans F.output,zas F.size h,fun b a c=>?_,fun b a=>?_⟩;refine(e b (IS a F.size) ?_).trans (F.block b a c);rintro rfl;rcases l with d|d;omega;exact c d;by_cases f:b=b0;subst f;exact(F.mh b a).trans i;exact(F.mh b a).trans (Cz.of_eq (e b (IS a F.size) f))
def Z6 (B:Nat) (E:Ex) (w:World) (G:Gh) (h:Nat->Option bf) (p:PB):bf->Prop
 |.box cs=>p.nl=false/\fD w p.b/\∀(j:Nat) (c:ar),cs[j]? =some c->∃v,w.cell? (ad p.b (p.o+j))=some v/\v.oneCell'=true/\RC w G h c v
 |.row gr m sz xs=>Ap B E w G gr m sz xs p
theorem HR.aiL (H:HR B E w G h used tk) {n:Nat} {blk:bf} {p:PB} (hw:∀b,b<w.heap.size->(p.nl=false->b≠p.b)->w'.heap[b]? =w.heap[b]?) (X:w.heap.size<=w'.heap.size) (C5:∀b,b<w.heap.size->fD w b->fD w' b) (hu:∀m,used m=true->used' m=true) (Wx:used' n=true) (ve:p.nl=false->¬G.Im p.b/\(B<=p.b\/E p.b)/\p.b<w'.heap.size) (U:p.nl=false->∀m,m≠n->h m≠none->(G.g m).nl=false->(G.g m).b≠p.b) (V5:p.nl=false->∀m l sz xs,m≠n->h m=some (.row l .live sz xs)->∀b,bY b (G.g m).px->b≠p.b) (zo:∀cs c m,blk=.box cs->c∈cs->c.ref m->used' m=true) (K:∀m cs c v,m≠n->h m=some (.box cs)->c∈cs->RC w G h c v->RC w' ⟨G.Im,bj G.g n p⟩ (bj h n (some blk)) c v) (mH:Z6 B E w' ⟨G.Im,bj G.g n p⟩ (bj h n (some blk)) p blk) (V:∀l m sz xs,blk=.row l m sz xs->m≠ .bn->∀n' L f N F,n'≠n->h n'=some (.row L f N F)->f≠ .bn->∀b,bY b p.px->¬bY b (G.g n').px) (wk:∀l sz xs,blk=.row l .live sz xs->∀b,bY b p.px->(p.nl=false->b≠p.b)/\∀n',n'≠n->h n'≠none->(G.g n').nl=false->b≠(G.g n').b) (zl:∀l m sz xs,blk=.row l m sz xs->m≠ .bn->∀(i:Nat) (pc:PC) (b:Nat),tk[i]? =some pc->bP b pc->¬bY b p.px) (ql:p.nl=false->p.b<w.heap.size->∀b,(∃m l x sz xs,m≠n/\h m=some (.row l x sz xs)/\bY b (G.g m).px)->b≠p.b): HR B E w' ⟨G.Im,bj G.g n p⟩ (bj h n (some blk)) used' tk:=by have t:∀m,m≠n->bj h n (some blk) m=h m:=fun m hm=>dZ _ _ _ _ hm;have u:∀m,m≠n->bj G.g n p m=G.g m:=fun m hm=>dZ _ _ _ _ hm;have R:∀m,m≠n->h m≠none->(G.g m).nl=false->w'.heap[(G.g m).b]? =w.heap[(G.g m).b]? :=fun m hm W hl=> hw _ (H.own m W hl).2.2 (fun S=>U S m hm W hl);refine⟨?_,?_,?_,?_,?_,?_,?_,H.uf,?_,?_,?_,?_,?_⟩;intro m hm;by_cases a:m=n;subst a;exact Wx;rw[t m a] at hm;exact hu m (H.lP m hm);intro m cs c q hm Y hr;by_cases a:m=n;subst a;rw[dD] at hm;injection hm with hm;exact zo cs c q hm Y hr;rw[t m a] at hm;exact hu q (H.kP m cs c q hm Y hr);intro m cs hm;by_cases a:m=n;subst a;rw[dD] at hm;injection hm with hm;subst hm;simp only[dD];exact mH;rw[t m a] at hm;simp only[u m a];obtain⟨A,y,M⟩:=H.box m cs hm;have C:=R m a (by rw[hm];simp) A;refine⟨A,y.congr C,fun j c Z=>?_⟩;obtain⟨v,b1,b2,b3⟩:=M j c Z;exact⟨v,(ku C _).trans b1,b2,K m cs c v a hm (co Z) b3⟩;intro m l x sz xs hm;by_cases a:m=n;subst a;rw[dD] at hm;injection hm with hm;subst hm;simp only[dD];exact mH;rw[t m a] at hm;simp only[u m a];have hr:=H.row m l x sz xs hm;have P:∀b,bY b (G.g m).px->w'.heap[b]? =w.heap[b]? :=fun b d=> hw b (H.tG hm d) (fun S ig=>by by_cases cF:p.b<w.heap.size;exact ql S cF b ⟨m,l,x,sz,xs,a,hm,d⟩ ig;have:=H.tG hm d;omega);refine⟨hr.pos,hr.er,hr.nl,fun hl=>?_,fun hl T=>?_,?_,fun T hm=>(hr.nr T hm).congr P⟩;have C:=R m a (by rw[hm];simp) hl;obtain⟨A,y,M⟩:=hr.f0 hl;exact⟨A.congr C,y.congr (fun o=>ku C o) (fun b' J o=>ku (P b' J) o),M⟩;have C:=R m a (by rw[hm];simp) hl;obtain⟨r2,cur,e,r3,r4⟩:=hr.room hl T;exact⟨r2,cur,e,C.trans r3,r4⟩;have z:=hr.mode;(cases x with|bn=>exact z|bq=>exact⟨fun b d=>⟨(z.1 b d).1,(z.1 b d).2.1.congr (P b d),(z.1 b d).2.2⟩,z.2⟩|live=>exact⟨fun b d=>⟨(z.1 b d).1,(z.1 b d).2.1.congr (P b d),(z.1 b d).2.2⟩,z.2⟩);intro m hm hl;by_cases a:m=n;subst a;simp only[dD] at hl⊢;exact ve hl;rw[t m a] at hm;simp only[u m a] at hl⊢;obtain⟨A,y,M⟩:=H.own m hm hl;exact⟨A,y,IS M X⟩;intro m f hm r I hl s;by_cases a:m=n;subst a;have k:f≠m:=fun e=>I e.symm;rw[t f k] at r;simp only[dD,u f k] at hl s⊢;exact fun e=>U hl f k r s e.symm;rw[t m a] at hm;by_cases k:f=n;subst k;simp only[dD,u m a] at hl s⊢;exact U s m a hm hl;rw[t f k] at r;simp only[u m a,u f k] at hl s⊢;exact H.inj m f hm r I hl s;exact fun b d=>IS (H.jN b d) X;intro m f l x sz xs L Q N F hm r d J I b D;by_cases a:m=n;subst a;have k:f≠m:=fun e=>I e.symm;rw[t f k] at r;rw[dD] at hm;injection hm with hm;simp only[dD,u f k] at D⊢;exact V l x sz xs hm d f L Q N F k r J b D;rw[t m a] at hm;by_cases k:f=n;subst k;rw[dD] at r;injection r with r;simp only[dD,u m a] at D⊢;exact fun Vy=>V L Q N F r J m l x sz xs a hm d b Vy D;rw[t f k] at r;simp only[u m a,u f k] at D⊢;exact H.ju m f l x sz xs L Q N F hm r d J I b D;intro m l sz xs hm b d f r s;by_cases a:m=n;subst a;rw[dD] at hm;injection hm with hm;simp only[dD] at d;have:=wk l sz xs hm b d;by_cases k:f=m;subst k;simp only[dD] at s⊢;exact this.1 s;rw[t f k] at r;simp only[u f k] at s⊢;exact this.2 f k r s;rw[t m a] at hm;simp only[u m a] at d;by_cases k:f=n;subst k;simp only[dD] at s⊢;exact V5 s m l sz xs a hm b d;rw[t f k] at r;simp only[u f k] at s⊢;exact H.live m l sz xs hm b d f r s;intro i pc O;obtain⟨A,y⟩:=H.w5 i pc O;exact⟨A,fun b d=>⟨(y b d).1,C5 b (H.jN b (y b d).1) (y b d).2.1,(y b d).2.2⟩⟩;exact H.B3;intro i pc m l x sz xs b O hm lS d;by_cases a:m=n;subst a;rw[dD] at hm;injection hm with hm;simp only[dD];exact zl l x sz xs hm lS i pc b O d;rw[t m a] at hm;simp only[u m a];exact H.w6 i pc m l x sz xs b O hm lS d
theorem HR.put (H:HR B E w G h used tk) {n:Nat} {blk:bf} {p:PB} (o:∀b,b<w.heap.size->(p.nl=false->b≠p.b)->w'.heap[b]? =w.heap[b]?) (D:w.heap.size<=w'.heap.size) (u:∀b,b<w.heap.size->fD w b->fD w' b) (I:∀m,used m=true->used' m=true) (y:used' n=true) (f:p.nl=false->¬G.Im p.b/\(B<=p.b\/E p.b)/\p.b<w'.heap.size) (r:p.nl=false->∀m,m≠n->h m≠none->(G.g m).nl=false->(G.g m).b≠p.b) (z:p.nl=false->∀m a sz xs,m≠n->h m=some (.row a .live sz xs)->∀b,bY b (G.g m).px->b≠p.b) (s:∀cs c m,blk=.box cs->c∈cs->c.ref m->used' m=true) (K:cD w G h (fun n=>used n=true) w' ⟨G.Im,bj G.g n p⟩ (bj h n (some blk))) (M:Z6 B E w' ⟨G.Im,bj G.g n p⟩ (bj h n (some blk)) p blk) (t:∀a m sz xs,blk=.row a m sz xs->m≠ .bn->∀n' A d J j,n'≠n->h n'=some (.row A d J j)->d≠ .bn->∀b,bY b p.px->¬bY b (G.g n').px) (e:∀a sz xs,blk=.row a .live sz xs->∀b,bY b p.px->(p.nl=false->b≠p.b)/\∀n',n'≠n->h n'≠none->(G.g n').nl=false->b≠(G.g n').b) (L:∀a m sz xs,blk=.row a m sz xs->m≠ .bn->∀(i:Nat) (pc:PC) (b:Nat),tk[i]? =some pc->bP b pc->¬bY b p.px) (x:p.nl=false->p.b<w.heap.size->∀b,(∃m a k sz xs,m≠n/\h m=some (.row a k sz xs)/\bY b (G.g m).px)->b≠p.b): HR B E w' ⟨G.Im,bj G.g n p⟩ (bj h n (some blk)) used' tk:= H.aiL o D u I y f r z s (fun m cs c v _ hm l C=>C.keep K fun q F=>H.kP m cs c q hm l F) M t e L x
theorem HR.del (H:HR B E w G h used tk) (n:Nat):HR B E w G (bj h n none) used tk:=by have d:∀m b,bj h n none m=some b->h m=some b/\m≠n:=fun m b hm=>(by by_cases g:m=n;subst g;rw[dD] at hm;cases hm;rw[dZ _ _ _ _ g] at hm;exact⟨hm,g⟩);have f:∀m,bj h n none m≠none->h m≠none:=fun m hm=>(by by_cases g:m=n;subst g;rw[dD] at hm;exact absurd rfl hm;rwa[dZ _ _ _ _ g] at hm);have K:cD w G h (fun n=>used n=true) w G (bj h n none):= ⟨fun _ h=>h,fun _ _ _=>rfl,fun m _ hm=>⟨f m hm,rfl,rfl,rfl,rfl,rfl⟩,fun m a sz xs _ hm=>⟨⟨a,xs,(d m _ hm).1⟩,fun k j pc r I=>⟨pc,r,rfl,I⟩⟩⟩;refine⟨fun m hm=>H.lP m (f m hm),fun m cs c q hm=>H.kP m cs c q (d m _ hm).1,fun m cs hm=>?_,fun m a l sz xs hm=>H.row m a l sz xs (d m _ hm).1, fun m hm=>H.own m (f m hm),fun m e hm o=>H.inj m e (f m hm) (f e o),H.jN,H.uf,fun m e a l sz xs z t M s hm o=>H.ju m e a l sz xs z t M s (d m _ hm).1 (d e _ o).1, fun m a sz xs hm b F e o=>H.live m a sz xs (d m _ hm).1 b F e (f e o),H.w5,H.B3,fun i pc m a l sz xs b D hm=>H.w6 i pc m a l sz xs b D (d m _ hm).1⟩;obtain⟨u,L,x⟩:=H.box m cs (d m _ hm).1;refine⟨u,L,fun j c p=>?_⟩;obtain⟨v,A,y,C⟩:=x j c p;exact⟨v,A,y,C.keep K fun q J=>H.kP m cs c q (d m _ hm).1 (co p) J⟩
theorem cD.del (n:Nat) (u:Nat->Prop):cD w G h u w G (bj h n none):=by have c:∀m b,bj h n none m=some b->h m=some b:=fun m b hm=>(by by_cases a:m=n;subst a;rw[dD] at hm;cases hm;rwa[dZ _ _ _ _ a] at hm);refine⟨fun _ h=>h,fun _ _ _=>rfl,fun m _ hm=>?_,fun m f sz xs _ hm=>⟨⟨f,xs,c m _ hm⟩,fun k j pc e d=>⟨pc,e,rfl,d⟩⟩⟩;cases hh:bj h n none m with|none=>exact absurd hh hm|some b=>rw[c m b hh];exact⟨by simp,rfl,rfl,rfl,rfl,rfl⟩
end
theorem uR {α:Type} {px:List (List α)} {lo len k j:Nat} {c:α} (h:At ((px.drop lo).take len) k j c):At px (lo+k) j c/\k<len:=by obtain⟨e,a,d⟩:=h;rw[List.getElem?_take] at a;split at a;rename_i b;rw[zat] at a;exact⟨⟨e,a,d⟩,b⟩;cases a
section
variable {B:Nat} {E:Ex} {w0 w w':World} {G G':Gh} {h h':Nat->Option bf} {used used':Nat->Bool} {tk:List PC}
def oI (p:PB) (sz lo len:Nat) (v:Value):PC:=
 match v with
 |.slice a _ cap=>.list sz a cap ((p.px.drop lo).take len)
 |_=>.bool false
theorem Np {s:Bool} {m:Mode} {sz:Nat} {xs:List (List C)} {p:PB} (hr:Ap B E w G s m sz xs p) {lo len:Nat} {v:Value} (t:lL p sz lo len v) (hl:lo+len<=xs.length): (oI p sz lo len v).er=.list sz ((xs.drop lo).take len)/\(oI p sz lo len v).val=v/\Good w (oI p sz lo len v)/\ (∀b,bP b (oI p sz lo len v)->(p.nl=false/\b=p.b)\/bY b p.px):=by have kj:p.px.length=xs.length:=(by rw[hr.er];simp);rcases t with⟨hn,rfl,rfl,rfl⟩|⟨hn,a,rfl,hc,r⟩;have i:=(hr.nl hn).1;refine⟨?_,?_,?_,?_⟩;simp[oI,PC.fx];simp[oI,PC.val];simp only[oI,za9,zaR];exact .nil _ _ _ hr.pos;intro b d;simp only[oI,za9,zaR] at d;rw[bP.pg] at d;rcases d with⟨d,_⟩|⟨k,j,c,⟨e,l,_⟩,_⟩;exact absurd rfl d;simp at l;have hlen:((p.px.drop lo).take len).length=len:=(by simp;omega);refine⟨?_,?_,?_,?_⟩;simp only[oI,PC.fx];rw[hr.er,zaW,zaX];simp[oI,PC.val];omega;simp only[oI];by_cases i:(p.px.drop lo).take len=[];rw[i];exact .nil _ _ _ hr.pos;have n:0<len:=(by rcases zaA len with f|f;subst f;simp at i;exact f);have e:=r (.inl (by omega));subst e;obtain⟨a1,q,a3⟩:=hr.f0 hn;refine .cons sz p.b (p.o+lo*sz) _ _ i (by omega) hr.pos (fun e l=>q.1 e (zah (zai l))) (fun k j c g=>?_) (fun k j c g=>q.2.2 _ _ _ (uR g).1);have:=q.2.1 _ _ _ (uR g).1;rw[IN] at this;rw[<-this];congr 2;omega;intro b d;simp only[oI] at d;rw[bP.pg] at d;rcases d with⟨d,o,h⟩|⟨k,j,c,g,d⟩;have n:0<len:=(by rcases zaA len with f|f;subst f;simp at d;exact f);have e:=r (.inl (by omega));rw[e] at h;injection h with h;exact .inl ⟨hn,(pF h).1.symm⟩;exact .inr ⟨_,_,_,(uR g).1,d⟩
theorem HR.eA (H:HR B E w G h used tk) {c:ar} {x:C} {v:Value} (hx:eA h c=some x) (a:RC w G h c v):∃pc:PC,pc.er=x/\pc.val=v/\Good w pc:=by cases c with|c y=>simp only[Am.eA] at hx;injection hx with hx;subst hx;obtain⟨pc,l,z,A,_⟩:=a;exact⟨pc,l,z,A⟩|nil sz=>simp only[Am.eA] at hx;split at hx;rename_i j;injection hx with hx;subst hx;have u:v=.slice none 0 0:=a;subst u;exact⟨.list sz none 0 [],by simp[PC.fx],rfl,.nil _ _ _ j⟩;cases hx|sl n sz lo len=>simp only[Am.eA] at hx;split at hx;rename_i b m f xs hn;split at hx;rename_i i;obtain⟨rfl,hl⟩:=i;injection hx with hx;subst hx;have o:lL (G.g n) f lo len v:=a (by rw[hn];simp);obtain⟨r,D,s,_⟩:=Np (H.row n b m f xs hn) o hl;exact⟨_,r,D,s⟩;cases hx;cases hx|cG n k aZ off sz len=>simp only[Am.eA] at hx;split at hx;rename_i b f xs hn;split at hx;rename_i i;subst i;obtain⟨pc,p1,p,p3⟩:=a b xs hn;have hr:=H.row n b .live f xs hn;have t:(G.g n).nl=false:=(by cases hq:(G.g n).nl with|false=>rfl|true=>obtain⟨e,d,_⟩:=p1;rw[(hr.nl hq).1] at d;simp at d);refine⟨pc,?_,p,(hr.f0 t).2.1.2.2 _ _ _ p1⟩;obtain⟨e,d,q⟩:=p1;rw[hr.er] at hx;simp[d,q] at hx;exact hx;cases hx;cases hx|ptr _ _ _ _=>simp[Am.eA] at hx|eU _ _=>simp[Am.eA] at hx|dW _ _ _ _ _ _=>simp[Am.eA] at hx|fn _ _=>simp[Am.eA] at hx|ez _ _ _ _ _ _=>simp[Am.eA] at hx|cC=>simp[Am.eA] at hx
theorem HR.lm (H:HR B E w G h used tk):∀{cs:List ar} {xs:List C} {vs:List Value},lm h cs=some xs->eJ w G h cs vs->
  ∃b:List PC,b.map PC.er=xs/\b.map PC.val=vs/\∀pc∈b,Good w pc
 |[],xs,vs,hx,hc=>by
  simp only[Am.lm] at hx;injection hx with hx;subst hx;have:vs=[]:=AT (by simpa using hc.1);subst this;exact⟨[],rfl,rfl,by simp⟩
 |c::cs,xs,vs,hx,hc=>by
  simp only[Am.lm] at hx;split at hx
  ·rename_i x aP f r;injection hx with hx;subst hx;obtain⟨a,e⟩:=hc;match vs,a with
   |v::vs,a=>
    obtain⟨pc,i,p,k⟩:=H.eA f (e 0 c v rfl rfl).2;obtain⟨b,m,l,n⟩:=H.lm r (cs:=cs) (vs:=vs) ⟨by simpa using a,fun j c u g o=>e (j+1) c u g o⟩;refine⟨pc::b,by simp[i,m],by simp[p,l],fun q d=>?_⟩;cases d with
    |head=>exact k
    |tail _ d=>exact n q d
  ·cases hx
def GC (w:World) (d:Dv) (v:Value):Prop:=
 match d.1 with
 |.one=>∃di:List PC,di.map PC.er=d.2/\(∀pc∈di,Good w pc)/\di.map PC.val=[v]
 |.agg=>∃di:List PC,di.map PC.er=d.2/\(∀pc∈di,Good w pc)/\v=.agg (di.map PC.val).toArray
 |.ptr=>∃(di:List PC) (b o:Nat),di.map PC.er=d.2/\v=.pointer (some (ad b o))/\b<w.heap.size/\
  ∀j c,di[j]? =some c->w.cell? (ad b (o+j))=some c.val/\Good w c
def Kn (w:World) (ds:List Dv) (vs:List Value):Prop:=
 vs.length=ds.length/\∀(j:Nat) (d:Dv) (v:Value),ds[j]? =some d->vs[j]? =some v->GC w d v
theorem HR.lH (H:HR B E w G h used tk) {x:aE} {d:Dv} {v:Value} (hx:lH h x=some d) (a:RA w G h x v):GC w d v:=by have one:∀c:ar,(Am.eA h c).map (fun x=>((.one,[x]):Dv))=some d->RA w G h (.one c) v->GC w d v:=(by intro c hx a;cases hv:Am.eA h c with|none=>rw[hv] at hx;cases hx|some y=>rw[hv] at hx;simp at hx;subst hx;rcases a with rfl|a;simp[Am.eA] at hv;have r:eJ w G h [c] [v]:=a;obtain⟨pc,p,s,q⟩:=H.eA hv (r.2 0 c v rfl rfl).2;exact⟨[pc],by simp[p],by simpa using q,by simp[s]⟩);cases x with|one c=>(cases c with|ptr n k sz off=>simp only[Am.lH] at hx;split at hx;rename_i cs hn;split at hx;rename_i U;obtain⟨rfl,rfl⟩:=U;(cases hv:Am.lm h cs with|none=>rw[hv] at hx;cases hx|some xs=>rw[hv] at hx;simp at hx;subst hx;rcases a with a|a;cases a;have r:eJ w G h [.ptr n 0 sz 0] [v]:=a;have P:=(r.2 0 _ v rfl rfl).2 (by rw[hn];simp);obtain⟨mM,J⟩:=P;obtain⟨q1,S,N⟩:=H.box n cs hn;have O:∀(cs:List ar) (o:Nat) (xs:List C),(∀(j:Nat) (c:ar),cs[j]? =some c->∃v,w.cell? (ad (G.g n).b (o+j))=some v/\v.oneCell'=true/\RC w G h c v)->Am.lm h cs=some xs-> ∃m:List PC,m.map PC.er=xs/\∀j c,m[j]? =some c->w.cell? (ad (G.g n).b (o+j))=some c.val/\Good w c:=(by intro cs;induction cs with|nil=>intro o xs _ hx;simp only[Am.lm] at hx;injection hx with hx;subst hx;exact⟨[],rfl,by simp⟩|cons c cs L=>intro o xs D hx;simp only[Am.lm] at hx;split at hx;rename_i x K I V;injection hx with hx;subst hx;obtain⟨u,F,_,u2⟩:=D 0 c rfl;obtain⟨pc,p,s,q⟩:=H.eA I u2;obtain⟨m,A,t⟩:=L (o+1) K (fun j c l=>by have:=D (j+1) c l;rwa[show o+(j+1)=o+1+j from by omega] at this) V;refine⟨pc::m,by simp[p,A],fun j c l=>?_⟩;(cases j with|zero=>simp at l;subst l;rw[s];exact⟨F,q⟩|succ j=>have:=t j c (by simpa using l);rwa[show o+1+j=o+(j+1) from by omega] at this);cases hx);obtain⟨m,A,t⟩:=O cs (G.g n).o xs N hv;exact⟨m,(G.g n).b,(G.g n).o,A,by simpa using J,S.lt,t⟩);cases hx;cases hx|eU xs off=>simp only[Am.lH] at hx;split at hx;rename_i Q;subst Q;injection hx with hx;subst hx;rcases a with a|a;cases a;have r:eJ w G h [.eU xs 0] [v]:=a;obtain⟨b,o,pe,p1,M,T,p4⟩:=(r.2 0 _ v rfl rfl).2;exact⟨pe,b,o,M,by simpa using p1,H.jN b T,fun j c l=>⟨(p4 j c l).1,(p4 j c l).2.1⟩⟩;cases hx|c y=>exact one (.c y) hx a|nil sz=>exact one (.nil sz) hx a|sl n sz lo len=>exact one (.sl n sz lo len) hx a|cG n k z off sz len=>exact one (.cG n k z off sz len) hx a|ez n k z off sz i=>exact one (.ez n k z off sz i) hx a|dW xs off j n sz len=>exact one (.dW xs off j n sz len) hx a|fn f R=>exact one (.fn f R) hx a|cC=>exact one .cC hx a)|agg cs=>simp only[Am.lH] at hx;(cases hv:Am.lm h cs with|none=>rw[hv] at hx;cases hx|some xs=>rw[hv] at hx;simp at hx;subst hx;obtain⟨vs,e,hl⟩:∃vs:List Value,v=.agg vs.toArray/\eJ w G h cs vs:=a;obtain⟨m,p,s,q⟩:=H.lm hv hl;exact⟨m,p,q,by rw[e,s]⟩)|dh xs=>simp[Am.lH] at hx
theorem HR.qa (H:HR B E w G h used tk):∀{xs:List aE} {ds:List Dv} {vs:List Value},qa h xs=some ds->vs.length=xs.length->
  (∀(j:Nat) (x:aE) (v:Value),xs[j]? =some x->vs[j]? =some v->RA w G h x v)->Kn w ds vs
 |[],ds,vs,hx,hl,hc=>by
  simp only[Am.qa] at hx;injection hx with hx;subst hx;exact⟨by simpa using hl,by simp⟩
 |x::xs,ds,vs,hx,hl,hc=>by
  simp only[Am.qa] at hx;split at hx
  ·rename_i d CI e l;injection hx with hx;subst hx;match vs,hl with
   |v::vs,hl=>
    have a:=H.lH e (hc 0 x v rfl rfl);obtain⟨i,g⟩:=H.qa l (xs:=xs) (vs:=vs) (by simpa using hl) (fun j x v f k=>hc (j+1) x v f k);refine⟨by simp[i],fun j d v b c=>?_⟩;cases j with
    |zero=>simp at b c;subst b;subst c;exact a
    |succ j=>exact g j d v (by simpa using b) (by simpa using c)
  ·cases hx
end
section
variable {B:Nat} {E:Ex} {w0 w w':World} {G G':Gh} {h h':Nat->Option bf} {used used':Nat->Bool} {tk:List PC}
theorem cD.wx (S:Nat->Prop) (u:Nat->Prop):cD w G h u w ⟨fun b=>G.Im b\/S b,G.g⟩ h:= ⟨fun _ h=>.inl h,fun _ _ _=>rfl,fun _ _ h=>⟨h,rfl,rfl,rfl,rfl,rfl⟩,fun n d sz xs _ hn=>⟨⟨d,xs,hn⟩,fun k j pc c a=>⟨pc,c,rfl,a⟩⟩⟩
theorem HR.wx (H:HR B E w G h used tk) (S:Nat->Prop) (s:∀b,S b->b<w.heap.size) (z:∀b,S b->∀n,h n≠none->(G.g n).nl=false->b≠(G.g n).b) (A:∀b,S b->∀n l sz xs,h n=some (.row l .live sz xs)->¬bY b (G.g n).px) (t:∀b,S b->B<=b\/E b\/E.a b):HR B E w ⟨fun b=>G.Im b\/S b,G.g⟩ h used tk:=by refine⟨H.lP,H.kP,fun n cs hn=>?_,fun n l m sz xs hn=>?_,fun n hn hl=>?_,H.inj,?_,fun b d=>d.elim (H.uf b) (t b),H.ju,H.live,fun i pc k=>?_,H.B3,H.w6⟩;obtain⟨f,e,p⟩:=H.box n cs hn;refine⟨f,e,fun j c r=>?_⟩;obtain⟨v,x,u,y⟩:=p j c r;exact⟨v,x,u,y.keep (cD.wx S (fun n=>used n=true)) fun q C=>H.kP n cs c q hn (co r) C⟩;have hr:=H.row n l m sz xs hn;refine⟨hr.pos,hr.er,hr.nl,hr.f0,hr.room,?_,hr.nr⟩;have hm:=hr.mode;(cases m with|bn=>exact fun b d=>.inl (hm b d)|bq=>exact⟨fun b d=>⟨.inl (hm.1 b d).1,(hm.1 b d).2⟩,hm.2⟩|live=>exact⟨fun b d=>⟨fun k=>k.elim (hm.1 b d).1 (fun o=>A b o n l sz xs hn d),(hm.1 b d).2⟩,hm.2⟩);obtain⟨f,e,p⟩:=H.own n hn hl;exact⟨fun k=>k.elim f (fun o=>z _ o n hn hl rfl),e,p⟩;exact fun b d=>d.elim (H.jN b) (s b);obtain⟨f,e⟩:=H.w5 i pc k;exact⟨f,fun b d=>⟨.inl (e b d).1,(e b d).2⟩⟩
theorem HR.Gt {l:List PC} (H:HR B E w G h used (tk++l)):HR B E w G h used tk:=by have e:∀(i:Nat) (pc:PC),tk[i]? =some pc->(tk++l)[i]? =some pc:=fun i pc a=>(by rw[By (AI.1 a).1];exact a);exact⟨H.lP,H.kP,H.box,H.row,H.own,H.inj,H.jN,H.uf,H.ju,H.live,fun i pc a=>H.w5 i pc (e i pc a),fun i j pc c b d g f=>H.B3 i j pc c b d (e i pc g) (e j c f), fun i pc n k m sz xs b a=>H.w6 i pc n k m sz xs b (e i pc a)⟩
theorem HR.ZK (H:HR B E w G h used tk) {pc:PC} (v:Sep pc) (A:∀b,bP b pc->G.Im b/\fD w b/\(B<=b\/E b)) (s:∀(i:Nat) (q:PC) (b:Nat),tk[i]? =some q->bP b q->¬bP b pc) (x:∀n k m sz xs b,h n=some (.row k m sz xs)->m≠ .bn->bP b pc->¬bY b (G.g n).px):HR B E w G h used (tk++[pc]):=by have e:∀(i:Nat) (q:PC),(tk++[pc])[i]? =some q->(i<tk.length/\tk[i]? =some q)\/(i=tk.length/\q=pc):=fun i q a=>(by rcases zaE i tk.length with r|y|Fa;rw[By r] at a;exact .inl ⟨r,a⟩;subst y;simp at a;exact .inr ⟨rfl,a.symm⟩;rw[zaK (by simp;omega)] at a;cases a);refine⟨H.lP,H.kP,H.box,H.row,H.own,H.inj,H.jN,H.uf,H.ju,H.live,fun i q a=>?_,fun i j q f b t a o c=>?_,fun i q n k m sz xs b a hn hm c=>?_⟩;rcases e i q a with⟨_,a⟩|⟨_,rfl⟩;exact H.w5 i q a;exact⟨v,A⟩;rcases e i q a with⟨_,p⟩|⟨ei,u⟩;rcases e j f o with⟨_,l⟩|⟨_,d⟩;exact H.B3 i j q f b t p l c;rw[d];exact s i q b p c;rcases e j f o with⟨_,l⟩|⟨ej,d⟩;rw[u] at c;exact fun z=>s j f b l z c;omega;rcases e i q a with⟨_,a⟩|⟨_,rfl⟩;exact H.w6 i q n k m sz xs b a hn hm c;exact x n k m sz xs b hn hm c
theorem Sep.kO {pc:PC} (d:pc.er.gU=true):Sep pc/\∀b,¬bP b pc:=by cases pc with|int k n=>exact⟨.int k n,fun b c=>by cases c⟩|bool b=>exact⟨.bool b,fun b c=>by cases c⟩|list sz a cap xs=>simp[PC.fx,C.gU] at d
theorem xk.kO {pc:PC} (h:pc.er.gU=true):xk w pc:=by cases pc with|int k n=>trivial|bool b=>trivial|list sz a cap xs=>rw[PC.fx] at h;cases h
theorem vT {n m:Nat} {b:bf} (hm:bj h n none m=some b):h m=some b/\m≠n:=by by_cases a:m=n;subst a;rw[dD] at hm;cases hm;rw[dZ _ _ _ _ a] at hm;exact⟨hm,a⟩
theorem HU {n m:Nat} (hm:bj h n none m≠none):h m≠none/\m≠n:=by cases hh:bj h n none m with|none=>exact absurd hh hm|some b=>obtain⟨a,b⟩:=vT hh;exact⟨by rw[a];simp,b⟩
def Se (p:PB):Nat->Prop:=fun b=>(p.nl=false/\b=p.b)\/bY b p.px
theorem HR.freeze (H:HR B E w G h used tk) {n:Nat} {i:Bool} {m:Mode} {j:Nat} {xs:List (List C)} (hn:h n=some (.row i m j xs)): HR B E w ⟨fun b=>G.Im b\/Se (G.g n) b,G.g⟩ (bj h n none) used tk:=by have hr:=H.row n i m j xs hn;have f:h n≠none:=(by rw[hn];simp);have o:∀b,bY b (G.g n).px->G.Im b\/m=.live:=fun b a=>(by have hm:=hr.mode;cases m with|bn=>exact .inl (hm b a)|bq=>exact .inl (hm.1 b a).1|live=>exact .inr rfl);refine(H.del n).wx (Se (G.g n)) (fun b a=>?_) (fun b a q s hl=>?_) (fun b a q l t k s r=>?_) (fun b a=>?_);rcases a with⟨c,rfl⟩|a;exact(H.own n f c).2.2;exact H.tG hn a;obtain⟨d,p⟩:=HU s;rcases a with⟨c,rfl⟩|a;exact H.inj n q f d (zaL p) c hl;rcases o b a with e|rfl;rintro rfl;exact(H.own q d hl).1 e;exact H.live n i j xs hn b a q d hl;obtain⟨d,p⟩:=vT s;rcases a with⟨c,rfl⟩|a;exact H.live q l t k d _ r n f c rfl;rcases o b a with e|rfl;exact((H.row q l .live t k d).mode.1 b r).1 e;exact H.ju n q i .live j xs l .live t k hn d (by simp) (by simp) (zaL p) b a r;rcases a with⟨c,rfl⟩|a;exact(H.own n f c).2.1.imp id .inl;rcases o b a with e|rfl;exact H.uf b e;exact(hr.mode.1 b a).2.2.imp id .inl
theorem mz.sub {px:List (List PC)} (d:mz px) (lo len:Nat):mz ((px.drop lo).take len):=by refine⟨fun k j c a=>d.1 _ _ _ (uR a).1,fun k j c k' j' c' b a g h f=>d.2 _ _ _ _ _ _ b (uR a).1 (uR g).1 (fun e=>h ?_) f⟩;injection e with e1 e2;rw[show k=k' by omega,e2]
theorem HR.jC {σ σ1:St} (H:HR B E w G σ.h σ.used tk) {c:ar} {x:C} {o:Bool} {v:Value} (hx:σ.jC c=some (x,o,σ1)) (N:RC w G σ.h c v): ∃(Im':Nat->Prop) (pc:PC),pc.er=x/\pc.val=v/\Good w pc/\(∀b,bP b pc->Im' b)/\ HR B E w ⟨Im',G.g⟩ σ1.h σ.used (if o=true then tk++[pc] else tk)/\cD w G σ.h (fun n=>σ.used n=true) w ⟨Im',G.g⟩ σ1.h/\σ1.env=σ.env/\σ1.used=σ.used/\ (∀n b,σ1.h n=some b->σ.h n=some b):=by cases c with|c y=>simp only[St.jC] at hx;injection hx with hx;injection hx with D l;injection l with l vg;subst D l vg;obtain⟨pc,W,h2,h3,h4⟩:=N;refine⟨G.Im,pc,W,h2,h3,h4,?_,cD.refl _ _ _ _,rfl,rfl,fun _ _ h=>h⟩;by_cases u:y.gU=true;rw[aj u];obtain⟨s1,M⟩:=Sep.kO (pc:=pc) (by rw[W];exact u);exact H.ZK s1 (fun b d=>absurd d (M b)) (fun _ _ b _ _=>M b) (fun _ _ _ _ _ b _ _ d=>absurd d (M b));rw[ak u];exact H|nil sz=>simp only[St.jC] at hx;split at hx;rename_i fN;injection hx with hx;injection hx with D l;injection l with l vg;subst D l vg;have eQ:v=.slice none 0 0:=N;subst eQ;have K:∀b,¬bP b (.list sz none 0 []):=fun b d=>(by rw[bP.pg] at d;rcases d with⟨d,_⟩|⟨k,j,c,⟨e,f,_⟩,_⟩;exact absurd rfl d;simp at f);refine⟨G.Im,.list sz none 0 [],by simp[PC.fx],rfl,.nil _ _ _ fN,fun b d=>absurd d (K b),?_,cD.refl _ _ _ _,rfl,rfl,fun _ _ h=>h⟩;rw[aj rfl];refine H.ZK (.list _ _ _ _ ?_ ?_ ?_) (fun b d=>absurd d (K b)) (fun _ _ b _ _=>K b) (fun _ _ _ _ _ b _ _ d=>absurd d (K b));rintro k j c ⟨e,f,_⟩;simp at f;rintro b o k j c _ ⟨e,f,_⟩;simp at f;rintro k j c k' j' c' b ⟨e,f,_⟩;simp at f;cases hx|sl n sz lo len=>simp only[St.jC] at hx;split at hx;rename_i I m t xs hn;split at hx;rename_i eO;obtain⟨rfl,rfl,pK⟩:=eO;injection hx with hx;injection hx with D l;injection l with l vg;subst D l vg;have hl:0+len<=xs.length:=(by omega);have p:σ.h n≠none:=(by rw[hn];simp);have u:lL (G.g n) t 0 len v:=N p;have hr:=H.row n I m t xs hn;obtain⟨a1,a2,a3,A⟩:=Np hr u hl;have U:=H.freeze hn;have K1:cD w G σ.h (fun n=>σ.used n=true) w ⟨fun b=>G.Im b\/Se (G.g n) b,G.g⟩ (bj σ.h n none):= cD.trans (fun _ h=>h) (cD.del n (fun n=>σ.used n=true)) (cD.wx (Se (G.g n)) (fun n=>σ.used n=true));refine⟨_,oI (G.g n) t 0 len v,by simpa using a1,a2,a3,fun b d=>.inr (A b d),?_,K1,rfl,rfl,fun q b R=>(vT R).1⟩;by_cases hm:m≠ .bn;rw[aj (by simpa using hm)];have ve:(∀b,bY b (G.g n).px->fD w b/\(B<=b\/E b))/\mz (G.g n).px/\(∀b,bY b (G.g n).px->(G.g n).nl=false->b≠(G.g n).b):=(by have r:=hr.mode;cases m with|bn=>exact absurd rfl hm|bq=>exact⟨fun b d=>(r.1 b d).2,r.2,fun b d hl ig=>(H.own n p hl).1 (ig▸(r.1 b d).1)⟩|live=>exact⟨fun b d=>(r.1 b d).2,r.2,fun b d hl=>H.live n I t xs hn b d n p hl⟩);obtain⟨o1,o2,o3⟩:=ve;refine U.ZK ?_ (fun b d=>⟨.inr (A b d),?_⟩) (fun i q b V d z=>?_) (fun q P O S L b R X d F=>?_);rcases u with⟨Z,rfl,_,rfl⟩|⟨Z,a,rfl,kJ,ha⟩;simp only[oI];have hz:(zaM 0 (zaY 0 (G.g n).px))=[]:=(by simp);rw[hz];refine .list _ _ _ _ ?_ ?_ ?_;rintro k j c ⟨e,f,_⟩;simp at f;rintro b o k j c _ ⟨e,f,_⟩;simp at f;rintro k j c k' j' c' b ⟨e,f,_⟩;simp at f;simp only[oI];have Y:=o2.sub 0 len;refine .list _ _ _ _ Y.1 (fun b o k j c J T d=>?_) Y.2;have cI:=(uR T).1;have aef:0<len:=(by have:=(uR T).2;omega);have e:=ha (.inl (by omega));rw[e] at J;injection J with J;exact o3 b ⟨_,_,_,cI,d⟩ Z (pF J).1.symm;rcases A b d with⟨s,rfl⟩|z;exact⟨(hr.f0 s).1,(H.own n p s).2.1⟩;exact o1 b z;rcases A b z with⟨s,rfl⟩|F;exact(H.own n p s).1 ((H.w5 i q V).2 _ d).1;exact H.w6 i q n I m t xs b V hn hm d F;obtain⟨Q,jK⟩:=vT R;rcases A b d with⟨s,rfl⟩|z;have r:=(H.row q P O S L Q).mode;(cases O with|bn=>exact absurd rfl X|bq=>exact(H.own n p s).1 (r.1 _ F).1|live=>exact H.live q P S L Q _ F n p s rfl);exact H.ju n q I m t xs P O S L hn Q hm X (zaL jK) b z F;rw[ak (by simpa using hm)];exact U;cases hx;cases hx|ptr _ _ _ _=>simp[St.jC] at hx|eU _ _=>simp[St.jC] at hx|dW _ _ _ _ _ _=>simp[St.jC] at hx|cG _ _ _ _ _ _=>simp[St.jC] at hx|fn _ _=>simp[St.jC] at hx|ez _ _ _ _ _ _=>simp[St.jC] at hx|cC=>simp[St.jC] at hx
end
section
variable {B:Nat} {E:Ex} {w0 w w':World} {G G':Gh} {h h':Nat->Option bf} {used used':Nat->Bool} {tk:List PC}
theorem HR.jp:∀{cs:List ar} {σ σ1:St} {G:Gh} {tk:List PC} {xs:List C} {o:Bool} {vs:List Value},HR B E w G σ.h σ.used tk->σ.jp cs=some (xs,o,σ1)->eJ w G σ.h cs vs->
  (∀c∈cs,∀m,c.ref m->σ.used m=true)->
  ∃(Im':Nat->Prop) (f:List PC),f.map PC.er=xs/\f.map PC.val=vs/\(∀pc∈f,Good w pc/\∀b,bP b pc->Im' b)/\
   HR B E w ⟨Im',G.g⟩ σ1.h σ.used (if o=true then tk++f else tk)/\cD w G σ.h (fun n=>σ.used n=true) w ⟨Im',G.g⟩ σ1.h/\σ1.env=σ.env/\σ1.used=σ.used/\
   (∀n b,σ1.h n=some b->σ.h n=some b)
 |[],σ,σ1,G,tk,xs,o,vs,H,hx,hc,hr=>by
  simp only[St.jp] at hx;injection hx with hx;injection hx with p d;injection d with d vg;subst p d vg;have:vs=[]:=AT (by simpa using hc.1);subst this;exact⟨G.Im,[],rfl,rfl,by simp,by simpa using H,cD.refl _ _ _ _,rfl,rfl,fun _ _ h=>h⟩
 |c::cs,σ,σ2,G,tk,xs,o,vs,H,hx,hc,hr=>by
  simp only[St.jp] at hx;split at hx
  ·rename_i x K σ1 D;split at hx
   ·rename_i aP U Z4 Y;injection hx with hx;injection hx with p d;injection d with d vg;subst p d vg;obtain⟨a,y⟩:=hc;match vs,a with
    |v::vs,a=>
     obtain⟨Q,pc,L,X,M,F,z,t,N,i,J⟩:=H.jC D (y 0 c v rfl rfl).2;have W:eJ w ⟨Q,G.g⟩ σ1.h cs vs:=eJ.keep t (fun k l m hm=>hr k (by simp[l]) m hm) ⟨by simpa using a,fun j c u I V=>y (j+1) c u I V⟩;rw[<-i] at z;obtain⟨T,f,R,O,S,e,A,Z,P,b8⟩:=HR.jp z Y W (fun k l m hm=>by rw[i];exact hr k (by simp[l]) m hm);refine⟨T,pc::f,by simp[L,R],by simp[X,O],fun q s=>?_,?_,cD.trans (fun n hn=>by rw[i];exact hn) t A,Z.trans N,P.trans i,fun n b r=>J n b (b8 n b r)⟩
     ·cases s with
      |head=>exact⟨M,fun b r=>A.im b (F b r)⟩
      |tail _ s=>exact S q s
     ·rw[i] at e;cases K<;>cases U<;>simp at e⊢
      ·exact e
      ·exact e.Gt
      ·exact e.Gt
      ·exact e
   ·cases hx
  ·cases hx
theorem RA.cells {x:aE} {ag:Bool} {cs:List ar} {v:Value} (hx:x.cells?=some (ag,cs)) (a:RA w G h x v):eJ w G h cs v.cells.toList:=by cases x with|one c=>have f:c≠ .cC/\ag=false/\cs=[c]:=(by cases c<;>simp[aE.cells?] at hx<;>(obtain⟨rfl,rfl⟩:=hx;simp));obtain⟨b,rfl,rfl⟩:=f;rcases a with rfl|a;exact absurd rfl b;have d:eJ w G h [c] [v]:=a;have b:=(d.2 0 c v rfl rfl).1;(cases v<;>first|exact d|(simp[Value.oneCell'] at b))|agg cs'=>simp[aE.cells?] at hx;obtain⟨rfl,rfl⟩:=hx;obtain⟨vs,e,hl⟩:∃vs:List Value,v=.agg vs.toArray/\eJ w G h cs' vs:=a;subst e;exact hl|dh xs=>simp[aE.cells?] at hx
theorem aE.EH {x:aE} {ag:Bool} {cs:List ar} (hx:x.cells?=some (ag,cs)) {c:ar} (a:c∈cs) {m:Nat} (hm:c.ref m):x.ref m:=by cases x with|one b=>have d:cs=[b]:=(by cases b<;>simp[aE.cells?] at hx<;>exact hx.2.symm);subst d;simp at a;subst a;exact hm|agg cs'=>simp[aE.cells?] at hx;obtain⟨_,rfl⟩:=hx;exact⟨c,a,hm⟩|dh xs=>simp[aE.cells?] at hx
theorem HR.oJ {sz:Nat}:∀{xs:List aE} {σ σ1:St} {G:Gh} {tk:List PC} {i:List (List C)} {o:Bool} {vs:List Value},HR B E w G σ.h σ.used tk->σ.oJ sz xs=some (i,o,σ1)->
  vs.length=xs.length->(∀(j:Nat) (x:aE) (v:Value),xs[j]? =some x->vs[j]? =some v->RA w G σ.h x v)->(∀x∈xs,∀m,x.ref m->σ.used m=true)->
  ∃(Im':Nat->Prop) (pes:List (List PC)),pes.map (fun e=>e.map PC.er)=i/\pes.map (fun e=>e.map PC.val)=vs.map (fun v=>v.cells.toList)/\(∀e∈pes,e.length=sz)/\
   (∀e∈pes,∀pc∈e,Good w pc/\∀b,bP b pc->Im' b)/\
   HR B E w ⟨Im',G.g⟩ σ1.h σ.used (if o=true then tk++pes.flatten else tk)/\cD w G σ.h (fun n=>σ.used n=true) w ⟨Im',G.g⟩ σ1.h/\σ1.env=σ.env/\σ1.used=σ.used/\
   (∀n b,σ1.h n=some b->σ.h n=some b)
 |[],σ,σ1,G,tk,i,o,vs,H,hx,hl,hc,hr=>by
  simp only[St.oJ] at hx;injection hx with hx;injection hx with p a;injection a with a vg;subst p a vg;have:vs=[]:=AT (by simpa using hl);subst this;exact⟨G.Im,[],rfl,rfl,by simp,by simp,by simpa using H,cD.refl _ _ _ _,rfl,rfl,fun _ _ h=>h⟩
 |x::xs,σ,σ2,G,tk,i,o,vs,H,hx,hl,hc,hr=>by
  simp only[St.oJ] at hx;split at hx
  ·rename_i ag cs A;split at hx
   ·rename_i du;split at hx
    ·rename_i e M σ1 K;split at hx
     ·rename_i es' V Z4 X;injection hx with hx;injection hx with p a;injection a with a vg;subst p a vg;match vs,hl with
      |v::vs,hl=>
       have I:=(hc 0 x v rfl rfl).cells A;obtain⟨Kt,F,N,J,y,z,u,O,f,L⟩:=H.jp K I (fun c' R m hm=>hr x (by simp) m (aE.EH A R hm));rw[<-f] at z;obtain⟨U,pes,S,P,T,k,d,D,Y,Q,b8⟩:=HR.oJ (xs:=xs) (vs:=vs) z X (by simpa using hl)
        (fun j x v t s=>(hc (j+1) x v t s).keep u (fun m hm=>hr x (by simp[co t]) m hm)) (fun x' W m hm=>by rw[f];exact hr x' (by simp[W]) m hm)
       refine⟨U,F::pes,by simp[N,S],by simp[J,P],fun q c=>?_,fun q c pc l=>?_,?_,cD.trans (fun n hn=>by rw[f];exact hn) u D,Y.trans O,Q.trans f,fun n b r=>L n b (b8 n b r)⟩
       ·cases c with
        |head=>
         have:(F.map PC.er).length=(v.cells.toList).length:=by rw[<-J];simp
         have s:=I.1;simp at this;simp at s;omega
        |tail _ c=>exact T q c
       ·cases c with
        |head=>exact⟨(y pc l).1,fun b r=>D.im b ((y pc l).2 b r)⟩
        |tail _ c=>exact k q c pc l
       ·rw[f] at d;cases M<;>cases V<;>simp at d⊢
        ·exact d
        ·exact d.Gt
        ·exact d.Gt
        ·exact d
     ·cases hx
    ·cases hx
   ·cases hx
  ·cases hx
def nZ (b:Nat) (pc:PC):Prop:=bP b pc\/∃sz o cap xs,pc=.list sz (some (ad b o)) cap xs/\cap≠0
def KD (w:World):PC->Prop
 |.list sz a cap xs=>0<sz/\xs.length<=cap/\(cap=0\/∃b o cur e,a=some (ad b o)/\w.heap[b]? =some (.cells cur e (0,0))/\cur.size=o+cap*sz/\cap<=maxLen/\∀k j c,At xs k j c->¬bP b c)
 |_=>True
structure Cu (w:World) (B':Nat) (ps:List PC):Prop where
 fF:∀pc∈ps,Good w pc/\Sep pc/\KD w pc
 new:∀pc∈ps,∀b,nZ b pc->B'<=b/\fD w b
 sR:∀(i j:Nat) (pc fo:PC) (b:Nat),i≠j->ps[i]? =some pc->ps[j]? =some fo->nZ b pc->¬nZ b fo
def wO:K×List PC->Value
 |(.one,[pc])=>pc.val
 |(_,di)=>.agg (di.map PC.val).toArray
def zV:List (K×List PC)->Value
 |[p]=>wO p
 |l=>.tuple (l.map wO).toArray
def dz (P:Program) (f:FuncId) (M:List Dv->Option (List Dv)):Prop:=
 ∀ds rs,M ds=some rs->∀(w:World) (vals:List Value),Kn w ds vals->Calls P f vals.toArray w fun e w'=>
  ∃bX:List (K×List PC),bX.map (fun p=>(p.1,p.2.map PC.er))=rs/\e=.returned (zV bX)/\(∀p∈bX,p.1≠ .ptr/\(p.1=.one->p.2.length=1))/\
   Cu w' w.heap.size (bX.flatMap (·.2))/\Fr w.heap.size Ex.no w w'
end
section
variable {B:Nat} {E:Ex} {w0 w w':World} {G G':Gh} {h h':Nat->Option bf} {used used':Nat->Bool} {tk:List PC} {N:Nat}
def uK (G:Gh) (h:Nat->Option bf) (b:Nat):Prop:=
 ¬G.Im b/\(∀n,h n≠none->(G.g n).nl=false->(G.g n).b≠b)/\∀n gr m sz xs,h n=some (.row gr m sz xs)->¬bY b (G.g n).px
theorem HR.XD (H:HR B E w G h used tk):uK G h w.heap.size:= ⟨fun b=>zbb _ (H.jN _ b),fun n hn hl he=>by have:=(H.own n hn hl).2.2;omega,fun n gr m sz xs hn a=>zbb _ (H.tG hn a)⟩
def amx (B:Nat) (E:Ex) (w w':World) (G:Gh) (h:Nat->Option bf) (p:PB):bf->Prop
 |.box cs=>p.nl=false/\fD w' p.b/\∀(j:Nat) (c:ar),cs[j]? =some c->∃v,w'.cell? (ad p.b (p.o+j))=some v/\v.oneCell'=true/\RC w G h c v
 |.row gr m sz xs=>Ap B E w' G gr m sz xs p
theorem cD.insert (H:HR B E w G h used tk) {n:Nat} {blk:bf} {p:PB} (hn:used n=false) (d:∀b,b<w.heap.size->w'.heap[b]? =w.heap[b]?): cD w G h (fun n=>used n=true) w' ⟨G.Im,bj G.g n p⟩ (bj h n (some blk)):=by have ne:∀m,used m=true->m≠n:=fun m hm e=>(by subst e;rw[hn] at hm;cases hm);refine⟨fun _ h=>h,fun b i o=>ku (d b (H.jN b i)) o,fun m hm a=>?_,fun m f sz xs hm a=>?_⟩;rw[dZ _ _ _ _ (ne m hm)] at a;simp only[dZ _ _ _ _ (ne m hm)];exact⟨a,trivial,trivial,trivial,trivial,trivial⟩;rw[dZ _ _ _ _ (ne m hm)] at a;simp only[dZ _ _ _ _ (ne m hm)];exact⟨⟨f,xs,a⟩,fun k j pc c l=>⟨pc,c,rfl,l⟩⟩
theorem HR.insert (H:HR B E w G h used tk) {n:Nat} {blk:bf} {p:PB} (hn:used n=false) (r:∀b,b<w.heap.size->w'.heap[b]? =w.heap[b]?) (S:w.heap.size<=w'.heap.size) (hl:p.nl=false->uK G h p.b/\(B<=p.b\/E p.b)/\p.b<w'.heap.size) (z:∀cs c m,blk=.box cs->c∈cs->c.ref m->used m=true) (C:amx B E w w' G h p blk) (J:∀a m sz xs,blk=.row a m sz xs->m≠ .bn->∀n' s l u q,h n'=some (.row s l u q)->l≠ .bn->∀b,bY b p.px->¬bY b (G.g n').px) (x:∀a sz xs,blk=.row a .live sz xs->∀b,bY b p.px->(p.nl=false->b≠p.b)/\∀n',h n'≠none->(G.g n').nl=false->b≠(G.g n').b) (U:∀a m sz xs,blk=.row a m sz xs->m≠ .bn->∀(i:Nat) (pc:PC) (b:Nat),tk[i]? =some pc->bP b pc->¬bY b p.px): HR B E w' ⟨G.Im,bj G.g n p⟩ (bj h n (some blk)) (bj used n true) tk:=by have K:=cD.insert H (blk:=blk) (p:=p) hn r;have O:h n=none:=(by cases hh:h n with|none=>rfl|some b=>have:=H.lP n (by rw[hh];simp);rw[hn] at this;cases this);have bk:∀m,h m≠none->m≠n:=fun m hm e=>(by subst e;exact hm O);have A:∀m,used m=true->bj used n true m=true:=fun m hm=>(by simp only[nt];split;rfl;exact hm);refine H.put (fun b d _=>r b d) S (fun b d N=>N.congr (r b d)) A (dD _ _ _) (fun f=>⟨(hl f).1.1,(hl f).2⟩) (fun f m hm k P=>(hl f).1.2.1 m k P) (fun f m a sz xs hm k b d t=>(hl f).1.2.2 m a _ sz xs k (t▸d)) (fun cs c m d D hr=>A m (z cs c m d D hr)) K ?_ (fun a m sz xs d hm n' s l u q _ k=>J a m sz xs d hm n' s l u q k) (fun a sz xs d b o=>⟨(x a sz xs d b o).1,fun n' _=>(x a sz xs d b o).2 n'⟩) U (fun f _ b d t=>by obtain⟨m,a,F,sz,xs,_,k,o⟩:=d;exact(hl f).1.2.2 m a F sz xs k (t▸o));cases blk with|box cs=>obtain⟨I,T,L⟩:=C;refine⟨I,T,fun j c y=>?_⟩;obtain⟨v,Q,M,R⟩:=L j c y;exact⟨v,Q,M,R.keep K fun m hm=>z cs c m rfl (co y) hm⟩|row a m sz xs=>have hr:Ap B E w' G a m sz xs p:=C;exact⟨hr.pos,hr.er,hr.nl,hr.f0,hr.room,by have:=hr.mode;cases m<;>exact this,hr.nr⟩
theorem R.put {σ:St} {a:Act} (r:R B E w0 N σ a w G) {x:aE} {v:Value} (c:RA w G σ.h x v) (hr:∀m,x.ref m->σ.used m=true) {d:Option Nat} (hd:∀n,d=some n->n<N): R B E w0 N (σ.put d x) (a.put d v) w G:=by cases d with|none=>exact r|some n=>have hn:=hd n rfl;refine⟨r.defers,by simp[Act.put,r.size],fun s=>?_,fun s m hm=>?_,r.hr,r.fr,r.rG,r.BQ⟩;simp only[St.put,Act.put];by_cases b:s=n;subst b;rw[dD];have:(a.tmps.setIfInBounds s v).getD s undef=v:=(by simp[zax,r.size,hn]);rw[this];exact c;rw[dZ _ _ _ _ b];have:(a.tmps.setIfInBounds n v).getD s undef=a.tmps.getD s undef:=(by simp[zax,Array.getElem?_setIfInBounds_ne (zaL b)]);rw[this];exact r.env s;simp only[St.put] at hm⊢;by_cases b:s=n;subst b;rw[dD] at hm;exact hr m hm;rw[dZ _ _ _ _ b] at hm;exact r.uH s m hm
theorem R.step {σ:St} {a:Act} (r:R B E w0 N σ a w G) {σ':St} (i:σ'.env=σ.env) (o:∀m,σ.used m=true->σ'.used m=true) (K:cD w G σ.h (fun n=>σ.used n=true) w' G' σ'.h) (H:HR B E w' G' σ'.h σ'.used []) (F:Fr B E w0 w'):R B E w0 N σ' a w' G':= ⟨r.defers,r.size,fun s=>by rw[i];exact(r.env s).keep K (fun m hm=>r.uH s m hm),fun s m hm=>by rw[i] at hm;exact o m (r.uH s m hm),H,F, fun n p b g l=>by have f:=r.BQ n (E.lt n p g);obtain⟨v,I,O,S,V,T⟩:=K.name n f (by rw[l];simp);cases h0:σ.h n with|none=>exact absurd h0 v|some b0=>obtain⟨p1,y,L,p4,q,x⟩:=r.rG n p b0 g h0;refine⟨I.trans p1,O.trans y,S.trans L,V.trans p4,T.trans q,fun D sz xs P k j pc M hL=>?_⟩;subst P;obtain⟨⟨t,u,c⟩,hl⟩:=K.live n D sz xs f l;rw[h0] at c;injection c with c;obtain⟨d,C,J,z⟩:=x t sz u c k j pc M hL;obtain⟨e,A,Q,U⟩:=hl k j d C z;exact⟨e,A,Q.trans J,U⟩, fun n hn=>o n (r.BQ n hn)⟩
end
def On:Value->ar->Bool
 |.int k n,.c (.int k' n')=>decide (k=k')&&decide (n=n')
 |.bool b,.c (.bool b')=>decide (b=b')
 |.slice none 0 0,.nil sz=>true
 |.pointer none,.cC=>true
 |_,_=>false
def yT:List Value->List ar->Bool
 |[],[]=>true
 |v::vs,c::cs=>On v c&&yT vs cs
 |_,_=>false
def dC:Operand->MO->Bool
 |.tmp n,.t m=>n==m
 |.const (.agg vs),.k (.agg cs)=>yT vs.toList cs
 |.const v,.k (.one c)=>On v c
 |_,_=>false
section
variable {B:Nat} {E:Ex} {w0 w w':World} {G G':Gh} {h h':Nat->Option bf} {used used':Nat->Bool} {tk:List PC} {N:Nat}
theorem abc {v:Value} {c:ar} (a:On v c=true):RC w G h c v/\v.oneCell'=true/\∀m,¬c.ref m:=by unfold On at a;split at a;simp at a;obtain⟨rfl,rfl⟩:=a;exact⟨⟨.int _ _,rfl,rfl,.int _ _,fun b d=>by cases d⟩,rfl,fun m hm=>hm⟩;simp at a;subst a;exact⟨⟨.bool _,rfl,rfl,.bool _,fun b d=>by cases d⟩,rfl,fun m hm=>hm⟩;exact⟨rfl,rfl,fun m hm=>hm⟩;exact⟨trivial,rfl,fun m hm=>hm⟩;cases a
theorem Oo:∀{vs:List Value} {cs:List ar},yT vs cs=true->eJ w G h cs vs/\∀c∈cs,∀m,¬c.ref m
 |[],[],_=>⟨⟨rfl,by simp⟩,by simp⟩
 |v::vs,c::cs,hc=>by simp only[yT,zag] at hc;obtain⟨f,i,g⟩:=abc (w:=w) (G:=G) (h:=h) hc.1;obtain⟨⟨l,k⟩,n⟩:=Oo hc.2;refine⟨⟨by simp[l],fun j a u e b=>?_⟩,fun a d=>?_⟩;(cases j with|zero=>simp at e b;subst e;subst b;exact⟨i,f⟩|succ j=>exact k j a u (by simpa using e) (by simpa using b));cases d with|head=>exact g|tail _ d=>exact n a d
 |[],_::_,hc=>by simp[yT] at hc
 |_::_,[],hc=>by simp[yT] at hc
theorem RV.iR {c:ar} {v:Value} (e:v.oneCell'=true) (d:RC w G h c v):RV w G h false [c] v:=by show eJ w G h [c] [v];exact⟨rfl,fun j c' u a b=>by cases j with|zero=>simp at a b;subst a;subst b;exact⟨e,d⟩|succ j=>simp at a⟩
theorem RA.iR {c:ar} {v:Value} (b:v.oneCell'=true) (a:RC w G h c v):RA w G h (.one c) v:=.inr (RV.iR b a)
theorem R.ev {σ:St} {a:Act} (r:R B E w0 N σ a w G) {x:Operand} {m:MO} (b:dC x m=true):RA w G σ.h (σ.ev m) (a.eval x)/\∀n,(σ.ev m).ref n->σ.used n=true:=by unfold dC at b;split at b;simp at b;subst b;exact⟨r.env _,fun n hn=>r.uH _ n hn⟩;rename_i vs cs;obtain⟨i,f⟩:=Oo (w:=w) (G:=G) (h:=σ.h) b;exact⟨⟨vs.toList,by simp[Act.eval],i⟩,fun n hn=>by obtain⟨c,b,hm⟩:=hn;exact absurd hm (f c b n)⟩;obtain⟨d,g,e⟩:=abc (w:=w) (G:=G) (h:=σ.h) b;exact⟨RA.iR g d,fun n hn=>absurd hn (e n)⟩;cases b
theorem w9 {P:Program} {o:Oper} {a:Act} {v:Value} {K:Act->World->Prop} {Q:Exit->Act->World->Prop} (hr:(execOp a.eval o).run P w=.ok (.value v) w') (b:K (a.put o.dst v) w'):o.wp P a w K Q:=by unfold Oper.wp;rw[hr];exact b
theorem Sk {P:Program} {o:Oper} {a:Act} {K:Act->World->Prop} {Q:Exit->Act->World->Prop} (hr:(execOp a.eval o).run P w=.ok .skip w') (b:K (a.put o.dst undef) w'):o.wp P a w K Q:=by unfold Oper.wp;rw[hr];exact b
end
section
variable {B:Nat} {E:Ex} {w0 w w':World} {G G':Gh} {h h':Nat->Option bf} {used used':Nat->Bool} {tk:List PC} {N:Nat}
variable {P:Program} {o:Oper} {a:Act} {σ σ':St} {Q:Exit->Act->World->Prop}
def Nx (B:Nat) (E:Ex) (w0:World) (N:Nat) (σ:St):Act->World->Prop:=fun a w=>∃G,R B E w0 N σ a w G
theorem aaH (w:World) (a:Obj) (b:Nat) (c:b<w.heap.size):(w.alloc a).heap[b]? =w.heap[b]? :=heap_alloc_old w a b c
theorem fD.alloc (w:World) (arr:Array Value) (e:TypeId):fD (w.alloc (.cells arr e)) w.heap.size:=⟨arr,e,heap_alloc_new w _⟩
theorem ui {σ1:St} {n:Nat} {b:bf} (hx:σ.ins n b=some σ1):σ.used n=false/\σ1={σ with h:=bj σ.h n (some b),used:=bj σ.used n true}:=by unfold St.ins at hx;split at hx;cases hx;rename_i a;injection hx with hx;exact⟨by simpa using a,hx.symm⟩
theorem Ac (n m:Nat) (hm:used m=true):bj used n true m=true:=by simp only[nt];split;rfl;exact hm
theorem R.ah3 (r:R B E w0 N σ a w G) {n:Nat} {cs:List ar} {vs:List Value} {e:TypeId} (hn:σ.used n=false) (f:eJ w G σ.h cs vs) (t:∀c∈cs,∀m,c.ref m->σ.used m=true): ∃G',R B E w0 N {σ with h:=bj σ.h n (some (.box cs)),used:=bj σ.used n true} a (w.alloc (.cells vs.toArray e)) G'/\ RA (w.alloc (.cells vs.toArray e)) G' (bj σ.h n (some (.box cs))) (.one (.ptr n 0 0 0)) (.pointer (some (ad w.heap.size 0))):=by have H:=r.hr;have u:=r.fr.size;have d:=aaH w (.cells vs.toArray e);refine⟨⟨G.Im,bj G.g n ⟨false,w.heap.size,0,0,[],none⟩⟩,r.step rfl (fun m hm=>Ac n m hm) (cD.insert H hn d) ?_ (r.fr.grow d (by simp) rfl rfl rfl),?_⟩;refine H.insert hn d (by simp) (fun _=>⟨H.XD,.inl u,by simp⟩) (fun cs' c m b q hm=>?_) ⟨rfl,fD.alloc _ _ _,fun j c i=>?_⟩ (fun k m sz xs b=>by cases b) (fun k sz xs b=>by cases b) (fun k m sz xs b=>by cases b);injection b with b;subst b;exact t c q m hm;have o:j<vs.length:=(by rw[f.1];exact(AI.1 i).1);have l:vs[j]? =some vs[j]:=AN o;obtain⟨p,s⟩:=f.2 j c _ i l;refine⟨vs[j],?_,p,s⟩;simp only[IT];unfold ad;rw[World.cell?_alloc_new];simp only[zal];exact l;exact RA.iR rfl fun _=>by simp[dD]
theorem aol (r:R B E w0 N σ a w G) {n:Nat} {e:TypeId} {i:TypeInfo} {z:Value} {d:List ar} {σ1:St} (f:o.op=.alloc e) (hd:o.dst=some n) (hN:n<N) (p:P.info? e=some i) (j:i.zero=some z) (b:yT z.cells.toList d=true) (hx:σ.ins n (.box d)=some σ1): o.wp P a w (Nx B E w0 N (σ1.put o.dst (.one (.ptr n 0 0 0)))) Q:=by obtain⟨hn,rfl⟩:=ui hx;obtain⟨s,q⟩:=Oo (w:=w) (G:=G) (h:=σ.h) b;obtain⟨G',g,l⟩:=r.ah3 (e:=e) hn s (fun c b m hm=>absurd hm (q c b m));have k:(execOp a.eval o).run P w=.ok (.value (.pointer (some (ad w.heap.size 0)))) (w.alloc (.cells z.cells.toList.toArray e)):=(by simp[execOp,f,Instr.alloc,zeroValue,typeInfo,p,j,newVar,newRow,ad]);exact w9 k ⟨G',g.put l (fun m hm=>by have t:m=n:=hm;subst t;exact dD _ _ _) (fun m hm=>by rw[hd] at hm;injection hm with hm;omega)⟩
theorem aoq (r:R B E w0 N σ a w G) {n:Nat} {e:TypeId} {x:Operand} {m:MO} {ag:Bool} {cs:List ar} {σ1:St} (g:o.op=.box e x) (hd:o.dst=some n) (hN:n<N) (hm:dC x m=true) (d:(σ.ev m).cells?=some (ag,cs)) (hx:σ.ins n (.box cs)=some σ1): o.wp P a w (Nx B E w0 N (σ1.put o.dst (.one (.ptr n 0 0 0)))) Q:=by obtain⟨hn,rfl⟩:=ui hx;obtain⟨l,p⟩:=r.ev hm;obtain⟨G',j,f⟩:=r.ah3 (e:=e) hn (l.cells d) (fun c h q b=>p q (aE.EH d h b));have k:(execOp a.eval o).run P w=.ok (.value (.pointer (some (ad w.heap.size 0)))) (w.alloc (.cells (a.eval x).cells.toList.toArray e)):=(by simp[execOp,g,Instr.box,newVar,newRow,ad]);exact w9 k ⟨G',j.put f (fun q b=>by have i:q=n:=b;subst i;exact dD _ _ _) (fun q b=>by rw[hd] at b;injection b with b;omega)⟩
theorem xq {α:Type} {sz:Nat}:∀{px:List (List α)} (_:∀e∈px,e.length=sz) {k j:Nat} {c:α},At px k j c->px.flatten[k*sz+j]? =some c
 |[],_,k,j,c,hk=>by obtain⟨e,a,_⟩:=hk;simp at a
 |e::px,hl,k,j,c,hk=>by obtain⟨g,a,b⟩:=hk;have d:=hl e (by simp);cases k with|zero=>simp at a;subst a;have f:=(AI.1 b).1;simp only[zap,zaN,IT];rw[By f];exact b|succ k=>have h:=xq (px:=px) (fun e a=>hl e (by simp[a])) (k:=k) (j:=j) (c:=c) ⟨g,by simpa using a,b⟩;simp only[zap];rw[BY (by rw[d,IN];omega)];rw[show(k+1)*sz+j - e.length=k*sz+j by rw[d,IN];omega];exact h
structure Kz (B:Nat) (E:Ex) (w:World) (G:Gh) (h:Nat->Option bf) (m:Mode) (pes:List (List PC)):Prop where
 rS:∀b,bY b pes->G.Im b/\fD w b/\(B<=b\/E b)
 sep:mz pes
 ju:∀n gr m sz xs,h n=some (.row gr m sz xs)->m≠ .bn->∀b,bY b pes->¬bY b (G.g n).px
 kind:m=.bq\/∀b,¬bY b pes
theorem aaO {α:Type} {sz:Nat} (g:0<sz) {pes:List (List α)} (hl:∀e∈pes,e.length=sz) {k j k' a:Nat} {c l:α} (h:At pes k j c) (o:At pes k' a l) (m:(k,j)≠(k',a)):k*sz+j≠k'*sz+a:=by
 intro i;have b:j<sz:=by obtain⟨d,f,b⟩:=h;rw[<-hl d (co f)];exact(AI.1 b).1
 have q:a<sz:=by obtain⟨d,f,b⟩:=o;rw[<-hl d (co f)];exact(AI.1 b).1
 have n:k=k':=by
  have p:(k*sz+j)/sz=k:=by rw[zaO,za6 g,za3 b];omega
  have h4:(k'*sz+a)/sz=k':=by rw[zaO,za6 g,za3 q];omega
  rw[i] at p;omega
 subst n;exact m (by rw[show j=a by omega])
theorem HR.axS {pes:List (List PC)} {sz:Nat} (o:0<sz) (hl:∀e∈pes,e.length=sz) (H:HR B E w G h used pes.flatten):Kz B E w G h .bq pes:=by refine⟨?_,⟨fun k j c a=>(H.w5 _ c (xq hl a)).1,fun k j c k' j' g b a f l d=>H.B3 _ _ c g b (aaO o hl a f l) (xq hl a) (xq hl f) d⟩,?_,.inl rfl⟩;rintro b ⟨k,j,c,a,d⟩;exact(H.w5 _ c (xq hl a)).2 b d;rintro n i m sz xs hn hm b ⟨k,j,c,a,d⟩;exact H.w6 _ c n i m sz xs b (xq hl a) hn hm d
theorem Sep.FV {w:World} {q:PC} (i:∀b,¬bP b q) (g:Good w q):Sep q:=by induction g with|int k n=>exact .int k n|bool b=>exact .bool b|nil sz a cap h=>exact .list _ _ _ _ (by rintro k j c ⟨e,d,_⟩;simp at d) (by rintro b o k j c _ ⟨e,d,_⟩;simp at d) (by rintro k j c k' j' c' b ⟨e,d,_⟩;simp at d)|cons sz b o cap xs f h2 h3 h4 h5 h6 ih=>exact absurd (.here _ _ _ _ f) (i b)
theorem Kz.FV {m:Mode} {pes:List (List PC)} (d:∀b,¬bY b pes) (f:∀k j c,At pes k j c->Good w c):Kz B E w G h m pes:= ⟨fun b a=>absurd a (d b),⟨fun k j c e=>Sep.FV (fun b a=>d b ⟨k,j,c,e,a⟩) (f k j c e),fun k j c k' j' c' b e _ _ a=>absurd ⟨k,j,c,e,a⟩ (d b)⟩,fun n gr m sz xs _ _ b a=>absurd a (d b),.inr d⟩
theorem R.newRow (r:R B E w0 N σ a w G) {Im':Nat->Prop} {σ1:St} (H:HR B E w ⟨Im',G.g⟩ σ1.h σ.used []) (K:cD w G σ.h (fun n=>σ.used n=true) w ⟨Im',G.g⟩ σ1.h) (U:σ1.env=σ.env) (z:σ1.used=σ.used) {n:Nat} {m:Mode} {sz cap:Nat} {pes:List (List PC)} {arr:Array Value} {e:TypeId} (hn:σ.used n=false) (W:0<sz) (hl:∀e∈pes,e.length=sz) (u:∀k j c,At pes k j c->Good w c/\∀b,bP b c->Im' b) (F:∀k j c,At pes k j c->arr[k*sz+j]? =some c.val) (O:pes.length<=cap) (Z:cap<=maxLen) (D:arr.size=cap*sz) (hm:m=.bn\/Kz B E w ⟨Im',G.g⟩ σ1.h m pes) (A:m=.live->∀w',xl w' sz pes): ∃G',R B E w0 N {σ1 with h:=bj σ1.h n (some (.row true m sz (pes.map fun e=>e.map PC.er))),used:=bj σ1.used n true} a (w.alloc (.cells arr e)) G'/\ RA (w.alloc (.cells arr e)) G' (bj σ1.h n (some (.row true m sz (pes.map fun e=>e.map PC.er)))) (.one (.sl n sz 0 pes.length)) (.slice (some (ad w.heap.size 0)) pes.length cap)/\ cD w ⟨Im',G.g⟩ σ1.h (fun n=>σ.used n=true) (w.alloc (.cells arr e)) G' (bj σ1.h n (some (.row true m sz (pes.map fun e=>e.map PC.er)))):=by have hB:=r.fr.size;have f:=aaH w (.cells arr e);have t:HR B E (w.alloc (.cells arr e)) ⟨Im',bj G.g n ⟨false,w.heap.size,0,cap,pes,none⟩⟩ (bj σ1.h n (some (.row true m sz (pes.map fun e=>e.map PC.er)))) (bj σ.used n true) []:=(by refine H.insert (p:=⟨false,w.heap.size,0,cap,pes,none⟩) hn f (by simp) (fun _=>⟨H.XD,.inl hB,by simp⟩) (fun cs c m d=>by cases d) ?_ ?_ ?_ (fun y m sz xs _ _ i pc b X=>by simp at X);refine⟨W,rfl,(fun hl=>by cases hl),fun _=>⟨fD.alloc _ _ _,⟨hl,fun k j c l=>?_,fun k j c l=>?_⟩,O⟩,fun _ _=>⟨Z,arr,e,heap_alloc_new w _,(IT _).symm▸D⟩,?_,fun _ hl=>A hl _⟩;simp only[IT];unfold ad;rw[World.cell?_alloc_new];exact F k j c l;exact(u k j c l).1.congr fun b d o=>ku (f b (H.jN b ((u k j c l).2 b d))) o;have oS:m≠ .bn->(∀b,bY b pes->Im' b/\fD (w.alloc (.cells arr e)) b/\(B<=b\/E b))/\mz pes:=fun q=> ⟨fun b d=>by have s:=hm.resolve_left q;obtain⟨x,S,L⟩:=s.rS b d;exact⟨x,S.congr (f b (H.jN b x)),L⟩,(hm.resolve_left q).sep⟩;(cases m with|bn=>rintro b ⟨k,j,c,l,d⟩;exact(u k j c l).2 b d|bq=>exact oS (by simp)|live=>have s:=hm.resolve_left (by simp);have M:=s.kind.resolve_left (by simp);exact⟨fun b d=>absurd d (M b),s.sep⟩);intro y m' bw I d q n' P J Y V Q C b v;injection d with _ d _ _;subst d;exact(hm.resolve_left q).ju n' P J Y V Q C b v;intro y bw I d b v;injection d with _ d _ _;subst d;exact absurd v ((hm.resolve_left (by simp)).kind.resolve_left (by simp) b));have T:=cD.trans (u2:=fun n=>σ.used n=true) (fun _ h=>h) K (cD.insert H (blk:=.row true m sz (pes.map fun e=>e.map PC.er)) (p:=⟨false,w.heap.size,0,cap,pes,none⟩) hn f);refine⟨⟨Im',bj G.g n ⟨false,w.heap.size,0,cap,pes,none⟩⟩,r.step U (fun m hm=>by rw[z];exact Ac n m hm) T (by rw[z];exact t) (r.fr.grow f (by simp) rfl rfl rfl),?_,cD.insert H (blk:=.row true m sz (pes.map fun e=>e.map PC.er)) (p:=⟨false,w.heap.size,0,cap,pes,none⟩) hn f⟩;refine RA.iR rfl fun _=>.inr ⟨by simp[dD],some (ad w.heap.size 0),?_,?_,?_⟩;simp[dD];simp[dD];omega;simp[dD]
end
def Um:Value->C->Bool
 |.int k n,.int k' n'=>decide (k=k')&&decide (n=n')
 |.bool b,.bool b'=>decide (b=b')
 |.slice none 0 0,.list sz []=>decide (0<sz)
 |_,_=>false
def Az:List Value->List C->Bool
 |[],[]=>true
 |v::vs,c::cs=>Um v c&&Az vs cs
 |_,_=>false
def qO:C->PC
 |.int k n=>.int k n
 |.bool b=>.bool b
 |.list sz _=>.list sz none 0 []
theorem anu {w:World} {v:Value} {c:C} (h:Um v c=true):(qO c).er=c/\(qO c).val=v/\Good w (qO c)/\∀b,¬bP b (qO c):=by unfold Um at h;split at h;simp at h;obtain⟨rfl,rfl⟩:=h;exact⟨rfl,rfl,.int _ _,fun b a=>by cases a⟩;simp at h;subst h;exact⟨rfl,rfl,.bool _,fun b a=>by cases a⟩;simp at h;refine⟨by simp[qO,PC.fx],rfl,.nil _ _ _ h,fun b a=>?_⟩;unfold qO at a;rw[bP.pg] at a;rcases a with⟨a,_⟩|⟨k,j,c,⟨e,d,_⟩,_⟩;exact absurd rfl a;simp at d;cases h
theorem Un {w:World}:∀{vs:List Value} {cs:List C},Az vs cs=true->(cs.map qO).map PC.er=cs/\(cs.map qO).map PC.val=vs/\∀pc∈cs.map qO,Good w pc/\∀b,¬bP b pc
 |[],[],_=>⟨rfl,rfl,by simp⟩
 |v::vs,c::cs,h=>by simp only[Az,zag] at h;obtain⟨d,g,e,f⟩:=anu (w:=w) h.1;obtain⟨j,i,k⟩:=Un (w:=w) h.2;refine⟨by simp only[If,d,j],by simp only[If,g,i],fun pc a=>?_⟩;simp only[If,List.mem_cons] at a;rcases a with rfl|a;exact⟨e,f⟩;exact k pc a
 |[],_::_,h=>by simp[Az] at h
 |_::_,[],h=>by simp[Az] at h
theorem KL {α:Type} {n k j:Nat} {e:List α} {c:α} (h:At (Pd n e) k j c):k<n/\e[j]? =some c:=by obtain⟨e',a,d⟩:=h;rw[List.getElem?_replicate] at a;split at a;rename_i b;injection a with a;subst a;exact⟨b,d⟩;cases a
section
variable {B:Nat} {E:Ex} {w0 w w':World} {G G':Gh} {h h':Nat->Option bf} {used used':Nat->Bool} {tk:List PC} {N:Nat}
variable {P:Program} {o:Oper} {a:Act} {σ σ':St} {Q:Exit->Act->World->Prop}
theorem RA.int {x:aE} {n:Int} {v:Value} (hx:x.fZ=some n) (a:RA w G h x v):∃k,v=.int k n:=by unfold aE.fZ at hx;split at hx;rename_i k n';injection hx with hx;subst hx;rcases a with a|a;cases a;have e:eJ w G h [.c (.int k n')] [v]:=a;obtain⟨pc,b,d,_⟩:=(e.2 0 _ v rfl rfl).2;cases pc<;>simp[PC.er] at b;obtain⟨rfl,rfl⟩:=b;exact⟨_,d.symm⟩;cases hx
theorem aoJ (r:R B E w0 N σ a w G) {n:Nat} {t e:TypeId} {i:TypeInfo} {z:Value} {g:List C} {x y:Operand} {mx my:MO} {m:Mode} {sz by_:Nat} {q d:Int} {σ1:St} (ho:o.op=.makeSlice t x y) (hd:o.dst=some n) (hN:n<N) (W:dC x mx=true) (X:dC y my=true) (ht:P.underlying t=some (.slice e)) (hi:P.info? e=some i) (hz:i.zero=some z) (du:i.size=sz) (rY:i.bytes=by_) (AW:0<by_) (kU:0<sz) (hc:Az z.cells.toList g=true) (h:(σ.ev mx).fZ=some q) (A:(σ.ev my).fZ=some d) (ig:q<=d) (s8:0<=q) (p:d.toNat*by_<=eD) (u:g.length=sz) (hx:σ.ins n (.row true m sz (Pd q.toNat g))=some σ1): o.wp P a w (Nx B E w0 N (σ1.put o.dst (.one (.sl n sz 0 q.toNat)))) Q:=by obtain⟨hn,rfl⟩:=ui hx;obtain⟨k1,Z⟩:=(r.ev W).1.int h;obtain⟨k2,e2⟩:=(r.ev X).1.int A;have K:q.toNat<=d.toNat:=(by omega);obtain⟨b1,T,J⟩:=Un (w:=w) hc;have aBJ:d.toNat<=eD:=zas (zau _ AW) p;have H:z.cells.size=sz:=(by have:((g.map qO).map PC.val).length=z.cells.toList.length:=(by rw[T]);simp at this;omega);have V:=run_make (P:=P) w t e i z ht hi hz k1 k2 q d s8 ig (by rw[rY];have S:((d.toNat*by_:Nat):Int)<=((eD:Nat):Int):=(by exact_mod_cast p);rw[Int.natCast_mul,zaS (by omega:0<=d)] at S;rw[Int.mul_comm];have v:((eD:Nat):Int)=140737488355328:=rfl;omega) (by have v:(eD:Nat)=140737488355328:=rfl;omega);have L:(execOp a.eval o).run P w=.ok (.value (.slice (some (ad w.heap.size 0)) q.toNat d.toNat)) (w.alloc (.cells (madeCells z.cells (d.toNat*sz)) e)):=(by simp only[execOp,ho,Z,e2];rw[du] at V;simp[V,ad]);have D:(Pd q.toNat (g.map qO)).map (fun e=>e.map PC.er)=Pd q.toNat g:=(by rw[List.map_replicate,b1]);have dU:∀b,¬bY b (Pd q.toNat (g.map qO)):=(by rintro b ⟨k,j,c,f,p⟩;exact(J c (co (KL f).2)).2 b p);have U:∀k j c,At (Pd q.toNat (g.map qO)) k j c->Good w c/\∀b,bP b c->G.Im b:=fun k j c f=> ⟨(J c (co (KL f).2)).1,fun b p=>absurd p ((J c (co (KL f).2)).2 b)⟩;obtain⟨G',r',hv,_⟩:=r.newRow (σ1:=σ) (Im':=G.Im) (m:=m) (sz:=sz) (cap:=d.toNat) (pes:=Pd q.toNat (g.map qO)) (arr:=madeCells z.cells (d.toNat*sz)) (e:=e) r.hr (cD.refl _ _ _ _) rfl rfl hn kU (fun e he=>by rw[(List.mem_replicate.1 he).2];simpa using u) U (fun k j c f=>by obtain⟨S,v⟩:=KL f;have hj:j<sz:=(by have:=(AI.1 v).1;simp at this;omega);have I:k*sz+j<d.toNat*sz:=(by have:(k+1)*sz<=d.toNat*sz:=GB _ (by omega);rw[IN] at this;omega);have M:(k*sz+j)%sz=j:=(by rw[zaO,Nat.mul_add_mod,Nat.mod_eq_of_lt hj]);have Y:z.cells.toList[j]? =some c.val:=(by rw[<-T,wt,v];rfl);have O:z.cells[j]? =some c.val:=(by simpa using Y);have F:(k*sz+j)%z.cells.size=j:=(by rw[H];exact M);simp[madeCells,I,F];rw[getElem!_def,O]) (by simpa using K) (by have v:(eD:Nat)=140737488355328:=rfl;simp only[maxLen];omega) (size_madeCells _ _) (.inr (Kz.FV dU (fun k j c f=>(U k j c f).1))) (fun _ w' k pc f=>by obtain⟨c,_,rfl⟩:=zaa.1 (co (KL f).2);cases c with|int k n=>trivial|bool b=>trivial|list s l=>exact .inl rfl);rw[D,List.length_replicate] at*;refine w9 L ⟨G',r'.put hv (fun q h=>by have A:q=n:=h;subst A;exact dD _ _ _) (fun q h=>by rw[hd] at h;injection h with h;omega)⟩
theorem adF (off:Nat):∀(vs:List Value) (k:Nat) (cs:Array Value),off+k+vs.length<=cs.size-> ((vs.zipIdx k).foldl (fun(cs:Array Value) (p:Value×Nat)=>cs.setIfInBounds (off+p.2) p.1) cs)=(cs.toList.take (off+k)++vs++cs.toList.drop (off+k+vs.length)).toArray
 |[],k,cs,_=>by simp
 |v::vs,k,cs,h=>by simp only[za4,List.foldl_cons];have h':off+(k+1)+vs.length<=(cs.setIfInBounds (off+k) v).size:=(by simp at h⊢;omega);rw[adF off vs (k+1) _ h'];have e:=list_seg_step cs.toList (off+k) v vs (by simp at h⊢;omega);rw[zar,<-e];simp[Array.toList_setIfInBounds,Pe]
theorem adG (off:Nat) (v:Value) (cs:Array Value) (h:off+v.cells.size<=cs.size): (v.cells.zipIdx.foldl (fun cs (c,j)=>cs.setIfInBounds (off+j) c) cs)=(e9 cs.toList off v.cells.toList).toArray:=by have:=adF off v.cells.toList 0 cs (by simpa using h);rw[<-Array.foldl_toList];simp only[Array.toList_zipIdx];simpa[e9] using this
theorem ach (size:Nat):∀(vs:List Value) (a:Nat) (cs:Array Value),(∀v∈vs,v.cells.size=size)->(a+vs.length)*size<=cs.size-> Instr.fill (fun i=>some (i*size,size)) cs ((vs.zipIdx a).map fun p=>(p.2,p.1))=some (e9 cs.toList (a*size) (vs.flatMap fun v=>v.cells.toList)).toArray
 |[],a,cs,_,_=>by simp[Instr.fill,e9]
 |v::vs,a,cs,hv,hl=>by have l:=hv v (by simp);have k:a*size+v.cells.size<=cs.size:=(by have:(a+1)*size<=(a+(v::vs).length)*size:=GB _ (by simp);rw[IN] at this;omega);simp only[za4,If,Instr.fill];rw[ak (by simp;omega)];rw[adG _ _ _ k];have b:(e9 cs.toList (a*size) v.cells.toList).length=cs.size:=(by simp[e9];omega);rw[ach size vs (a+1) _ (fun e f=>hv e (by simp[f])) (by simp only[zaF,b];simp only[zar] at hl;rwa[show a+1+vs.length=a+(vs.length+1) by omega])];congr 2;have c:v.cells.toList.length=size:=(by simpa using l);have g:(a+1)*size=a*size+size:=(by rw[IN];omega);simp only[e9,List.flatMap_cons,zav,c];rw[g];have d:(zaM (a*size) cs.toList).length=a*size:=(by simp;omega);have h:zaM (a*size+size) (zaM (a*size) cs.toList++v.cells.toList++zaY (a*size+size) cs.toList)=zaM (a*size) cs.toList++v.cells.toList:=(by apply List.take_left';simp[d,c]);have j:∀x,zaY (a*size+size+x) (zaM (a*size) cs.toList++v.cells.toList++zaY (a*size+size) cs.toList)=zaY (a*size+(size+x)) cs.toList:=(by intro x;rw[List.drop_append,zaI (by simp[d,c])];simp only[zam,List.drop_drop,zav,d,c];congr 1;omega);rw[h,j];simp[zaG]
end
theorem ab8 {α:Type} (P:Nat->α->Prop):∀n:Nat,(∀j,j<n->∃v,P j v)->∃l:List α,l.length=n/\∀(j:Nat) (u:α),l[j]? =some u->P j u
 |0,_=>⟨[],rfl,by simp⟩
 |n+1,h=>by obtain⟨l,b,c⟩:=ab8 P n (fun j a=>h j (by omega));obtain⟨v,e⟩:=h n (by omega);refine⟨l++[v],by simp[b],fun j u a=>?_⟩;rcases zaE j n with cF|d|Fa;rw[By (by omega)] at a;exact c j u a;subst d;rw[BY (by omega)] at a;simp[b] at a;subst a;exact e;rw[zaK (by simp;omega)] at a;cases a
theorem J8 {α:Type} {l a:List α} {off sz:Nat} (h:sub l off sz=some a):off+sz<=l.length/\a=(l.drop off).take sz/\a.length=sz:=by unfold sub at h;split at h;rename_i hl;injection h with h;subst h;exact⟨hl,rfl,by simp;omega⟩;cases h
theorem Ee {α:Type} {l:List α} {off sz j:Nat} (a:j<sz):((l.drop off).take sz)[j]? =l[off+j]? :=by rw[zaH a,zat]
theorem afV (n k a:Nat):∀(l:List C) (off:Nat),(ld n k a off l).length=l.length
 |[],_=>rfl
 |c::l,off=>by cases c<;>simp[ld,afV n k a l]
theorem Xz (n k a:Nat):∀(l:List C) (off j:Nat) (x:ar),(ld n k a off l)[j]? =some x-> (∃c,l[j]? =some c/\c.gU=true/\x=.c c)\/(∃sz ys,l[j]? =some (.list sz ys)/\x=.cG n k a (off+j) sz ys.length)
 |[],off,j,x,h=>by simp[ld] at h
 |c::l,off,j,x,h=>by cases j with|zero=>cases c<;>simp[ld] at h<;>subst h;exact .inl ⟨_,rfl,rfl,rfl⟩;exact .inl ⟨_,rfl,rfl,rfl⟩;exact .inr ⟨_,_,rfl,rfl⟩|succ j=>have h':(ld n k a (off+1) l)[j]? =some x:=(by cases c<;>simpa[ld] using h);rcases Xz n k a l (off+1) j x h' with⟨f,d,b,e⟩|⟨sz,ys,d,b⟩;exact .inl ⟨f,by simpa using d,b,e⟩;exact .inr ⟨sz,ys,by simpa using d,by rw[b,show off+1+j=off+(j+1) by omega]⟩
section
variable {B:Nat} {E:Ex} {w0 w w':World} {G G':Gh} {h h':Nat->Option bf} {used used':Nat->Bool} {tk:List PC} {N:Nat}
variable {P:Program} {o:Oper} {a:Act} {σ σ':St} {Q:Exit->Act->World->Prop}
theorem abX (r:R B E w0 N σ a w G) {n:Nat} {t e:TypeId} {len:Nat} {parts:Array (Nat×Operand)} {D:List MO} {i:TypeInfo} {z:Value} {sz:Nat} {O:List (List C)} {F:Bool} {σ1 σ2:St}
  (ho:o.op=.buildSlice t len parts) (hd:o.dst=some n) (hN:n<N) (ht:P.underlying t=some (.slice e)) (hi:P.info? e=some i) (hz:i.zero=some z) (du:i.size=sz) (kU:0<sz)
  (hlen:D.length=len) (jz:parts.toList.map (·.1)=List.range len) (VB:len*sz<=16777216)
  (kK:∀(j:Nat) (p:Nat×Operand) (m:MO),parts.toList[j]? =some p->D[j]? =some m->dC p.2 m=true)
  (Ww:σ.oJ sz (D.map σ.ev)=some (O,F,σ1)) (hx:σ1.ins n (.row true (if F=true then .bq else .bn) sz O)=some σ2):
  o.wp P a w (Nx B E w0 N (σ2.put o.dst (.one (.sl n sz 0 O.length)))) Q:=by
 obtain⟨hn,rfl⟩:=ui hx;have V:parts.toList.length=len:=by have:=congrArg za7 jz;simpa using this
 have arJ:(parts.toList.map fun p=>a.eval p.2).length=(D.map σ.ev).length:=by simp only[zan];omega
 have K:∀(j:Nat) (x:aE) (v:Value),(D.map σ.ev)[j]? =some x->(parts.toList.map fun p=>a.eval p.2)[j]? =some v->RA w G σ.h x v/\∀m,x.ref m->σ.used m=true:=by
  intro j x v H u;rw[wt] at H u;cases hp:parts.toList[j]? with
  |none=>rw[hp] at u;cases u
  |some p=>
   cases hm:D[j]? with
   |none=>rw[hm] at H;cases H
   |some m=>
    rw[hm] at H;rw[hp] at u;simp at H u;subst H;subst u;exact r.ev (kK j p m hp hm)
 obtain⟨Im',pes,a1,a2,S,a4,M,a6,a7,a8,a9⟩:=HR.oJ (sz:=sz) r.hr Ww arJ (fun j x v d h2=>(K j x v d h2).1) (fun x hx m hm=>by
  obtain⟨j,A,hjx⟩:=zak hx;have u:(parts.toList.map fun p=>a.eval p.2)[j]? =some ((parts.toList.map fun p=>a.eval p.2)[j]'(by omega)):=AN _;exact(K j x _ (by rw[AN A,hjx]) u).2 m hm)
 simp only[zam] at M;have Z:pes.length=len:=by
  have:=congrArg za7 a2;simp only[zan] at this;omega
 have X:∀v∈(parts.toList.map fun p=>a.eval p.2),v.cells.size=sz:=by
  intro v f;obtain⟨j,A,CZ⟩:=zak f;have d:((parts.toList.map fun p=>a.eval p.2).map fun v=>v.cells.toList)[j]? =some v.cells.toList:=by rw[wt,AN A,CZ];rfl
  rw[<-a2,wt] at d;cases s:pes[j]? with
  |none=>rw[s] at d;cases d
  |some pe=>
   rw[s] at d;simp at d;have:=S pe (co s);rw[<-zac,<-d];simpa using this
 have hpz:(parts.map fun p=>(p.1,a.eval p.2)).toList=((parts.toList.map fun p=>a.eval p.2).zipIdx 0).map fun p=>(p.2,p.1):=by
  apply List.ext_getElem?;intro j;simp only[zaw,wt,List.getElem?_zipIdx];cases hp:parts.toList[j]? with
  |none=>simp
  |some p=>
   have m6:=(AI.1 hp).1;have d:(parts.toList.map (·.1))[j]? =some p.1:=by rw[wt,hp];rfl
   rw[jz,List.getElem?_range (by omega)] at d;injection d with d;simp[d]
 have de:(execOp a.eval o).run P w=.ok (.value (.slice (some (ad w.heap.size 0)) len len)) (w.alloc (.cells ((parts.toList.map fun p=>a.eval p.2).flatMap fun v=>v.cells.toList).toArray e)):=by
  have aq3:((parts.toList.map fun p=>a.eval p.2).flatMap fun v=>v.cells.toList).length=len*sz:=by
   rw[zaT];have:∀(l:List Value),(∀v∈l,v.cells.size=sz)->(l.map fun v=>v.cells.toList.length).sum=l.length*sz:=by
    intro l;induction l with
    |nil=>simp
    |cons v l U=>
     intro f;simp only[If,zbc,zar];rw[U (fun v' T=>f v' (by simp[T])),zac,f v (by simp),IN];omega
   rw[this _ X];simp[V]
  have I:∀cs:Array Value,cs.size=len*sz->Instr.fill (fun i=>some (i*sz,sz)) cs (parts.map fun p=>(p.1,a.eval p.2)).toList=some ((parts.toList.map fun p=>a.eval p.2).flatMap fun v=>v.cells.toList).toArray:=by
   intro cs jf;rw[hpz,ach sz _ 0 cs X (by simp only[zan,V,IT];omega)];congr 2;simp only[e9,zaN,zaR,zam,IT];rw[zaI (by rw[aq3,zac,jf];exact zad _)];simp
  by_cases W:len*sz=0
  ·have y:=I ((zbf 0).map fun _=>default) (by simp[W]);rw[zaw] at y;simp[execOp,ho,Instr.buildSlice,run_underlying ht,sizeOf,typeInfo,hi,du,W,Nat.not_lt.2 VB,y,newRow,ad]
  ·have y:=I ((zbf (len*sz)).map (z.cells[·%z.cells.size]!)) (by simp);rw[zaw] at y;simp[execOp,ho,Instr.buildSlice,run_underlying ht,sizeOf,typeInfo,hi,du,W,Nat.not_lt.2 VB,zeroValue,hz,y,newRow,ad]
 have iK:∀k j c,At pes k j c->Good w c/\∀b,bP b c->Im' b:=fun k j c Y=>by
  obtain⟨L,J,A⟩:=Y;exact a4 L (co J) c (co A)
 have H0:HR B E w ⟨Im',G.g⟩ σ1.h σ.used []:=by
  cases F
  ·simpa using M
  ·have Hl:HR B E w ⟨Im',G.g⟩ σ1.h σ.used ([]++pes.flatten):=by simpa using M
   exact Hl.Gt
 obtain⟨G',r',f,_⟩:=r.newRow (m:=if F=true then .bq else .bn) (sz:=sz) (cap:=len) (pes:=pes) (arr:=((parts.toList.map fun p=>a.eval p.2).flatMap fun v=>v.cells.toList).toArray) (e:=e) H0 a6 a7 a8 (by rw[<-a8];exact hn) kU S iK
  (fun k j c Y=>by
   have cI:At (pes.map fun e=>e.map PC.val) k j c.val:=by
    obtain⟨L,J,A⟩:=Y;exact⟨L.map PC.val,by rw[wt,J];rfl,by rw[wt,A];rfl⟩
   have y:=xq (sz:=sz) (px:=pes.map fun e=>e.map PC.val) (fun e J=>by
    obtain⟨L,CV,rfl⟩:=zaa.1 J;simpa using S L CV) cI
   rw[a2] at y;simpa[List.flatMap] using y) (by omega) (by
   have h2:sz*len<=16777216:=by rw[zaO];exact VB
   have h3:len<=len*sz:=zau _ kU;simp only[maxLen];omega) (by
   have VP:((parts.toList.map fun p=>a.eval p.2).flatMap fun v=>v.cells.toList).length=len*sz:=by
    rw[zaT];have:∀(l:List Value),(∀v∈l,v.cells.size=sz)->(l.map fun v=>v.cells.toList.length).sum=l.length*sz:=by
     intro l;induction l with
     |nil=>simp
     |cons v l U=>
      intro f;simp only[If,zbc,zar];rw[U (fun v' T=>f v' (by simp[T])),zac,f v (by simp),IN];omega
    rw[this _ X];simp[V]
   simpa using VP) (by
   cases F
   ·exact .inl rfl
   ·right;simp only[if_true];have Hl:HR B E w ⟨Im',G.g⟩ σ1.h σ.used pes.flatten:=by simpa using M
    exact Hl.axS kU S) (fun hl=>by cases F<;>cases hl)
 have aq1:O.length=pes.length:=by rw[<-a1];simp
 rw[a1] at r' f;rw[aq1];rw[Z] at f⊢;refine w9 de ⟨G',?_⟩;exact r'.put f (fun q s=>by have gn:q=n:=s;subst gn;exact dD _ _ _) (fun q s=>by rw[hd] at s;injection s with s;omega)
theorem HR.loadAt (H:HR B E w G h used tk) {p:ar} {sz:Nat} {cs:List ar} {v:Value} (hx:loadAt h p sz=some cs) (X:RC w G h p v) (pL:∀m,p.ref m->used m=true):
  ∃(b o:Nat) (vs:List Value),v=.pointer (some (ad b o))/\vs.length=sz/\(∀(j:Nat) (u:Value),vs[j]? =some u->w.cell? (ad b (o+j))=some u)/\eJ w G h cs vs/\
   ∀c∈cs,∀m,c.ref m->used m=true:=by
 cases p with
 |ptr n k S off=>
  simp only[Am.loadAt] at hx;split at hx
  ·rename_i iV hn;split at hx
   ·rename_i hk;subst hk;obtain⟨L,O,V⟩:=J8 hx;obtain⟨F,K⟩:=X (by rw[hn];simp);obtain⟨b1,b2,b3⟩:=H.box n iV hn;have dY:∀j,j<sz->∃v,w.cell? (ad (G.g n).b ((G.g n).o+off+j))=some v/\∀c,cs[j]? =some c->v.oneCell'=true/\RC w G h c v:=by
     intro j d;have fj:iV[off+j]? =some (iV[off+j]'(by omega)):=AN _;obtain⟨v,v1,v2,v3⟩:=b3 _ _ fj;refine⟨v,by rw[Pe];exact v1,fun c y=>?_⟩;rw[O,Ee d,fj] at y;injection y with y;subst y;exact⟨v2,v3⟩
    obtain⟨vs,l1,l2⟩:=ab8 _ sz dY;refine⟨(G.g n).b,(G.g n).o+off,vs,by rw[K];simp,l1,fun j u d=>(l2 j u d).1,⟨by omega,fun j c u y r=>(l2 j u r).2 c y⟩,fun c A m hm=>?_⟩;refine H.kP n iV c m hn ?_ hm;rw[O] at A;exact zah (zai A)
   ·cases hx
  ·rename_i gr mo rs xs hn;split at hx
   ·rename_i tc;subst tc;split at hx
    ·rename_i e z;split at hx
     ·rename_i l M;injection hx with hx;obtain⟨L,O,V⟩:=J8 M;have hr:=H.row n gr mo S xs hn;obtain⟨F,K⟩:=X (by rw[hn];simp);obtain⟨r1,r2,r3⟩:=hr.f0 F;have lT:∃pe,(G.g n).px[k]? =some pe/\pe.map PC.er=e:=by
       rw[hr.er,wt] at z;cases t:(G.g n).px[k]? with
       |none=>rw[t] at z;cases z
       |some pe=>rw[t] at z;simp at z;exact⟨pe,rfl,z⟩
      obtain⟨pe,wq,zj⟩:=lT;have jz:off+sz<=pe.length:=by rw[<-zj] at L;simpa using L
      have Q:∀j,j<sz->∃pc,At (G.g n).px k (off+j) pc/\l[j]? =some pc.er/\((pe.drop off).take sz)[j]? =some pc:=by
       intro j d;have t:pe[off+j]? =some (pe[off+j]'(by omega)):=AN _;refine⟨pe[off+j]'(by omega),⟨pe,wq,t⟩,?_,by rw[Ee d];exact t⟩;have e0:l[j]? =((e.drop off).take sz)[j]? :=congrArg (fun q:List C=>q[j]?) O;rw[e0,Ee d,<-zj,wt,t];rfl
      have R:(((pe.drop off).take sz).map PC.val).length=sz:=by simp;omega
      refine⟨(G.g n).b,(G.g n).o+k*S+off,((pe.drop off).take sz).map PC.val,K,R,fun j u d=>?_,?_,?_⟩
      ·have T:j<sz:=by have:=(AI.1 d).1;omega
       obtain⟨pc,p1,D,U⟩:=Q j T;rw[wt,U] at d;simp at d;subst d;rw[show(G.g n).o+k*S+off+j=(G.g n).o+k*S+(off+j) by omega];exact r2.2.1 _ _ _ p1
      ·subst hx;refine⟨by rw[R];split<;>simp[afV,V],fun j c u y r=>?_⟩
       have T:j<sz:=by have:=(AI.1 r).1;omega
       obtain⟨pc,p1,D,U⟩:=Q j T;rw[wt,U] at r;simp at r;subst r;refine⟨PC.mU pc,?_⟩;have Y:=r2.2.2 _ _ _ p1;split at y
       ·rename_i wk;subst wk;rcases Xz n k S l off j c y with⟨J,I,h2,rfl⟩|⟨s,ys,I,rfl⟩
        ·rw[D] at I;injection I with I;exact⟨pc,I,rfl,Y,fun b Z=>absurd Z ((Sep.kO (pc:=pc) (by rw[I];exact h2)).2 b)⟩
        ·rw[D] at I;injection I with I;intro cv aP _;refine⟨pc,p1,rfl,?_⟩;cases pc<;>simp[PC.er] at I<;>rfl
       ·rename_i wk;rw[wt,D] at y;simp at y;subst y;refine⟨pc,rfl,rfl,Y,fun b Z=>?_⟩;have hm:=hr.mode;have eW:bY b (G.g n).px:=⟨k,off+j,pc,p1,Z⟩;cases mo with
        |bn=>exact hm b eW
        |bq=>exact(hm.1 b eW).1
        |live=>exact absurd rfl wk
      ·intro c A m hm;subst hx;split at A
       ·obtain⟨j,d,Fc⟩:=zak A;rcases Xz n k S l off j c (by rw[AN d,Fc]) with⟨J,I,h2,rfl⟩|⟨s,ys,I,rfl⟩
        ·exact absurd hm (by simp[ar.ref,ar.lf])
        ·have:m=n:=hm;subst this;exact pL m rfl
       ·obtain⟨J,_,rfl⟩:=zaa.1 A;exact absurd hm (by simp[ar.ref,ar.lf])
     ·cases hx
    ·cases hx
   ·cases hx
  ·cases hx
 |eU xs off=>
  simp only[Am.loadAt] at hx;cases M:sub xs off sz with
  |none=>rw[M] at hx;cases hx
  |some l=>
   rw[M] at hx;simp at hx;subst hx;obtain⟨L,O,V⟩:=J8 M;obtain⟨b,o,pe,p1,D,U,p4⟩:=X;have jz:off+sz<=pe.length:=by rw[<-D] at L;simpa using L
   have R:(((pe.drop off).take sz).map PC.val).length=sz:=by simp;omega
   have Q:∀j,j<sz->∃pc,pe[off+j]? =some pc/\l[j]? =some pc.er/\((pe.drop off).take sz)[j]? =some pc:=by
    intro j d;have t:pe[off+j]? =some (pe[off+j]'(by omega)):=AN _;refine⟨pe[off+j]'(by omega),t,?_,by rw[Ee d];exact t⟩;have e0:l[j]? =((xs.drop off).take sz)[j]? :=congrArg (fun q:List C=>q[j]?) O;rw[e0,Ee d,<-D,wt,t];rfl
   refine⟨b,o+off,_,p1,R,fun j u d=>?_,⟨by rw[R];simp[V],fun j c u y r=>?_⟩,fun c A m hm=>?_⟩
   ·have T:j<sz:=by have:=(AI.1 d).1;omega
    obtain⟨pc,F,K,N⟩:=Q j T;rw[wt,N] at d;simp at d;subst d;rw[Pe];exact(p4 _ _ F).1
   ·have T:j<sz:=by have:=(AI.1 r).1;omega
    obtain⟨pc,F,K,N⟩:=Q j T;rw[wt,N] at r;rw[wt,K] at y;simp at r y;subst r;subst y;exact⟨PC.mU pc,pc,rfl,rfl,(p4 _ _ F).2.1,(p4 _ _ F).2.2⟩
   ·obtain⟨J,_,rfl⟩:=zaa.1 A;exact absurd hm (by simp[ar.ref,ar.lf])
 |dW xs off j n s len=>
  simp only[Am.loadAt] at hx;obtain⟨b,o,pe,p1,D,U,p4,u,u1,u2,u3⟩:=X;split at hx
  ·rename_i eO;obtain⟨rfl,rfl⟩:=eO;injection hx with hx;subst hx;refine⟨b,o+off,[u],p1,rfl,fun i u' P=>?_,⟨rfl,fun i c u' W r=>?_⟩,fun c A m hm=>?_⟩
   ·cases i with
    |zero=>simp at P;subst P;exact u1
    |succ i=>simp at P
   ·cases i with
    |zero=>simp at W r;subst W;subst r;exact⟨u2,u3⟩
    |succ i=>simp at r
   ·simp at A;subst A;have:m=n:=hm;subst this;exact pL m rfl
  ·split at hx
   ·rename_i cF;cases M:sub xs off sz with
    |none=>rw[M] at hx;cases hx
    |some l=>
     rw[M] at hx;simp at hx;subst hx;obtain⟨L,O,V⟩:=J8 M;have jz:off+sz<=pe.length:=by rw[<-D] at L;simpa using L
     have R:(((pe.drop off).take sz).map PC.val).length=sz:=by simp;omega
     have Q:∀j,j<sz->∃pc,pe[off+j]? =some pc/\l[j]? =some pc.er/\((pe.drop off).take sz)[j]? =some pc:=by
      intro j d;have t:pe[off+j]? =some (pe[off+j]'(by omega)):=AN _;refine⟨pe[off+j]'(by omega),t,?_,by rw[Ee d];exact t⟩;have e0:l[j]? =((xs.drop off).take sz)[j]? :=congrArg (fun q:List C=>q[j]?) O;rw[e0,Ee d,<-D,wt,t];rfl
     refine⟨b,o+off,_,p1,R,fun i u P=>?_,⟨by rw[R];simp[V],fun i c u W r=>?_⟩,fun c A m hm=>?_⟩
     ·have Pt:i<sz:=by have:=(AI.1 P).1;omega
      obtain⟨pc,F,K,N⟩:=Q i Pt;rw[wt,N] at P;simp at P;subst P;rw[Pe];exact(p4 _ _ (by omega) F).1
     ·have Pt:i<sz:=by have:=(AI.1 r).1;omega
      obtain⟨pc,F,K,N⟩:=Q i Pt;rw[wt,N] at r;rw[wt,K] at W;simp at r W;subst r;subst W;exact⟨PC.mU pc,pc,rfl,rfl,(p4 _ _ (by omega) F).2.1,(p4 _ _ (by omega) F).2.2⟩
     ·obtain⟨J,_,rfl⟩:=zaa.1 A;exact absurd hm (by simp[ar.ref,ar.lf])
   ·cases hx
 |c x=>simp[Am.loadAt] at hx
 |nil sz=>simp[Am.loadAt] at hx
 |sl n sz lo len=>simp[Am.loadAt] at hx
 |cG n k S off sz len=>simp[Am.loadAt] at hx
 |ez n k S off s i=>
  simp only[Am.loadAt] at hx;split at hx
  ·rename_i gr rs xs hn;split at hx
   ·rename_i tc;subst tc;split at hx
    ·rename_i s' ys wa;split at hx
     ·rename_i eO;obtain⟨wb,xI⟩:=eO;split at hx
      ·rename_i e z;split at hx
       ·rename_i r6;injection hx with hx;subst hx;obtain⟨pc,b,o,len,cap,p1,D,U,p4⟩:=X gr xs hn;have hr:=H.row n gr .live rs xs hn;have bJ:(G.g n).nl=false:=by
         cases hq:(G.g n).nl with
         |false=>rfl
         |true=>obtain⟨e,z,_⟩:=p1;rw[(hr.nl hq).1] at z;simp at z
        have Y:Good w pc:=(hr.f0 bJ).2.1.2.2 _ _ _ p1;have nz:pc.er=.list s' ys:=by
         obtain⟨e',It,sZ⟩:=p1;rw[hr.er] at wa;simp[It,sZ] at wa;exact wa
        cases pc with
        |int k n=>simp[PC.er] at nz
        |bool b=>simp[PC.er] at nz
        |list bw a oN py=>
         rw[PC.fx] at nz;injection nz with e1 e2;have e3:bw=s:=e1.trans wb;have e4:sz=bw:=xI.trans e3.symm;rw[<-e3] at p4;clear wb xI e1 e3;subst e2 e4;simp only[PC.val] at D;injection D with f1 f2 f3;subst f1 f3;rw[wt] at z;cases t:py[i]? with
         |none=>rw[t] at z;cases z
         |some pe=>
          rw[t] at z;simp at z;subst z;generalize mK:PC.list sz (some (ad b o)) oN py=q at Y;cases Y with
          |int k n=>cases mK
          |bool b=>cases mK
          |nil _ _ _ _=>injection mK with _ _ _ e4;subst e4;simp at t
          |cons _ b' oo' _ _ F K N q4 q5 q6=>
           injection mK with f1 f2 f3 f4;injection f2 with f2;obtain⟨rfl,rfl⟩:=pF f2;subst f1 f3 f4;have Bh:pe.length=sz:=q4 pe (co t);refine⟨b,o+i*sz,pe.map PC.val,p4,by simpa using Bh,fun j u d=>?_,⟨by simp,fun j c u y r=>?_⟩,fun c A m hm=>?_⟩
           ·rw[wt] at d;cases lU:pe[j]? with
            |none=>rw[lU] at d;cases d
            |some c=>rw[lU] at d;simp at d;subst d;exact q5 i j c ⟨pe,t,lU⟩
           ·rw[wt] at r;rw[wt,wt] at y;cases lU:pe[j]? with
            |none=>rw[lU] at r;cases r
            |some J=>
             rw[lU] at r y;simp at r y;subst r;subst y;have vf:J.er.gU=true:=OF.1 r6 _ (zae (co lU));exact⟨PC.mU J,J,rfl,rfl,q6 i j J ⟨pe,t,lU⟩,fun b Z=>absurd Z ((Sep.kO vf).2 b)⟩
           ·obtain⟨J,_,rfl⟩:=zaa.1 A;exact absurd hm (by simp[ar.ref,ar.lf])
       ·cases hx
      ·cases hx
     ·cases hx
    ·cases hx
   ·cases hx
  ·cases hx
 |fn f fv=>simp[Am.loadAt] at hx
 |cC=>simp[Am.loadAt] at hx
def Hy (P:Program) (t:TypeId) (ag:Bool) (sz:Nat):Bool:=
 match P.underlying t,P.info? t with
 |some (.struct _),some i=>ag&&i.size==sz
 |some (.array _ _),_=>false
 |some _,some i=> !ag&&sz==1
 |_,_=>false
theorem RA.jR {c:ar} {v:Value} (d:c≠ .cC) (a:RA w G h (.one c) v):RC w G h c v/\v.oneCell'=true:=by rcases a with rfl|a;exact absurd rfl d;have b:eJ w G h [c] [v]:=a;exact⟨(b.2 0 c v rfl rfl).2,(b.2 0 c v rfl rfl).1⟩
theorem aoI (r:R B E w0 N σ a w G) {t:TypeId} {x:Operand} {m:MO} {ag:Bool} {sz:Nat} {p:ar} {cs:List ar} (C:o.op=.load t x) (M:∀n,o.dst=some n->n<N)
  (hm:dC x m=true) (e:Hy P t ag sz=true) (L:σ.ev m=.one p) (hx:Am.loadAt σ.h p sz=some cs):
  o.wp P a w (Nx B E w0 N (σ.put o.dst (vD ag cs))) Q:=by
 obtain⟨g,H⟩:=r.ev hm;rw[L] at g H;have T:p≠ .cC:=by rintro rfl;simp[Am.loadAt] at hx
 obtain⟨b,of,vs,A,U,D,k,F⟩:=r.hr.loadAt hx (g.jR T).1 H;have s:∀v,RA w G σ.h (vD ag cs) v->(execOp a.eval o).run P w=.ok (.value v) w->o.wp P a w (Nx B E w0 N (σ.put o.dst (vD ag cs))) Q:=fun v g S=>
  w9 S ⟨G,r.put g (fun q f=>by
   unfold vD at f;split at f
   ·obtain⟨c,I,f⟩:=f;exact F c I q f
   ·exact F _ (by simp) q f
   ·exact absurd f (by simp[aE.ref,ar.ref,ar.lf])) M⟩
 have O:∀n:Nat,n=vs.length->(loadCells (ad b of) n).run P w=.ok vs.toArray w:=fun n hn=>by
  subst hn;exact run_loadCells_list w (ad b of) vs (fun j u J=>by rw[xp];exact D j u J)
 unfold Hy at e;cases hu:P.underlying t with
 |none=>rw[hu] at e;simp at e
 |some d=>
  cases hi:P.info? t with
  |none=>rw[hu,hi] at e;cases d<;>simp at e
  |some i=>
   rw[hu,hi] at e;have K:(ag=true/\i.size=sz/\(isAgg t).run P w=.ok true w)\/(ag=false/\sz=1/\(isAgg t).run P w=.ok false w):=by
    cases d<;>simp at e<;>simp[isAgg,run_underlying hu,e]
   rcases K with⟨rfl,z,l⟩|⟨rfl,z,l⟩
   ·refine s (.agg vs.toArray) ⟨vs,rfl,k⟩ ?_;simp[execOp,C,A,Instr.loadAt,Instr.sureAddr,loadVar,l,sizeOf,typeInfo,hi,O i.size (by omega)]
   ·subst z;match vs,U with
    |[u],_=>
     have V:∃c,cs=[c]:=by
      have:=k.1;match cs,this with
      |[c],_=>exact⟨c,rfl⟩
     obtain⟨c,rfl⟩:=V;refine s u (.inr k) ?_;have y:=D 0 u rfl;simp only[zaB] at y;simp[execOp,C,A,Instr.loadAt,Instr.sureAddr,loadVar,l,y]
end
theorem RL {α:Type} {l vs:List α} {off:Nat} (h:off+vs.length<=l.length):(e9 l off vs).length=l.length:=by simp[e9];omega
theorem Ec {α:Type} {l vs:List α} {off j:Nat} (h:off+vs.length<=l.length):(e9 l off vs)[j]? =if off<=j/\j<off+vs.length then vs[j - off]? else l[j]? :=by unfold e9;have b:(l.take off).length=off:=(by simp;omega);by_cases c:j<off;rw[ak (by omega),zaG,By (by omega),zaH c];by_cases a:j<off+vs.length;rw[aj ⟨by omega,a⟩,zaG,BY (by omega),By (by omega),b];rw[ak (by omega),BY (by simp;omega),zat];congr 1;simp;omega
theorem JY {α β:Type} (f:α->β) (l vs:List α) (off:Nat):(e9 l off vs).map f=e9 (l.map f) off (vs.map f):=by simp[e9,zaW,zaX]
def jD (w:World) (b o:Nat) (vs:List Value) (cur:Array Value):World:=w.setRow b (cur.toList.take o++vs++cur.toList.drop (o+vs.length)).toArray
section
variable {w:World} {b o:Nat} {vs:List Value} {cur:Array Value} {e:TypeId}
theorem Ei (a:w.heap[b]? =some (.cells cur e (0,0))) (hl:o+vs.length<=cur.size) (x:Nat): (jD w b o vs cur).cell? (ad b x)=if o<=x/\x<o+vs.length then vs[x - o]? else w.cell? (ad b x):=by unfold jD ad;rw[cell_setRow_same w b x cur _ e (0,0) a];have c:=Ec (l:=cur.toList) (vs:=vs) (off:=o) (j:=x) (by simpa using hl);simp only[e9] at c;rw[zal,c];have d:w.cell? ⟨b,x,none⟩=cur[x]? :=(by simp[World.cell?,a]);rw[d];simp
theorem Ej (k:Nat) (a:k≠b):(jD w b o vs cur).heap[k]? =w.heap[k]? :=setRow_other w b k _ a
theorem vF:(jD w b o vs cur).heap.size=w.heap.size:=setRow_size _ _ _
theorem Kj (c:w.heap[b]? =some (.cells cur e (0,0))) (hl:o+vs.length<=cur.size):∃a,(jD w b o vs cur).heap[b]? =some (.cells a e (0,0))/\a.size=cur.size:=by refine⟨_,setRow_heap w b cur _ e (0,0) c,?_⟩;simp;omega
theorem Gx (a:w.heap[b]? =some (.cells cur e (0,0))) (hl:o+vs.length<=cur.size):Cz w (jD w b o vs cur) b:=by intro arr e' h;obtain⟨c,g,d⟩:=Kj (vs:=vs) (o:=o) a hl;rw[a] at h;injection h with h;injection h with f hb;subst f hb;exact⟨c,g,d⟩
theorem NI (c:w.heap[b]? =some (.cells cur e (0,0))) (hl:o+vs.length<=cur.size) (k:Nat) (g:fD w k):fD (jD w b o vs cur) k:=by by_cases a:k=b;subst a;obtain⟨d,f,_⟩:=Kj (vs:=vs) (o:=o) c hl;exact⟨d,e,f⟩;exact g.congr (Ej k a)
end
section
variable {B:Nat} {E:Ex} {w0 w w':World} {G G':Gh} {h h':Nat->Option bf} {used used':Nat->Bool} {tk:List PC} {N:Nat}
variable {P:Program} {o:Oper} {a:Act} {σ σ':St} {Q:Exit->Act->World->Prop}
theorem NF {α:Type} (f:Nat->α) (n:Nat):bj f n (f n)=f:=by funext m;simp only[nt];split;rename_i h;rw[h];rfl
theorem Q1 {t:TypeId} {i:TypeInfo} {b off:Nat} {v:Value} {cur:Array Value} {e:TypeId} (g:P.info? t=some i) (d:v.cells.size=i.size) (c:w.heap[b]? =some (.cells cur e (0,0))) (hl:off+v.cells.size<=cur.size) (f:∀u∈v.cells.toList,u.oneCell'=true): (storeVar t (ad b off) v).run P w=.ok () (jD w b off v.cells.toList cur):=by have a:=run_storeCells_at P b off e v.cells.toList 0 cur w c (by simpa using hl) f;simp only[zaB] at a;simp[storeVar,sizeOf,typeInfo,g,d,ad,a,jD]
theorem HR.y5 (H:HR B E w G h used tk) {n m:Nat} {d:Bool} {c:Mode} {sz:Nat} {xs:List (List C)} (hn:h n≠none) (hl:(G.g n).nl=false) (hm:h m=some (.row d c sz xs)) {b:Nat} (a:bY b (G.g m).px):b≠(G.g n).b:=by have e:=(H.row m d c sz xs hm).mode;cases c with|bn=>rintro rfl;exact(H.own n hn hl).1 (e _ a)|bq=>rintro rfl;exact(H.own n hn hl).1 (e.1 _ a).1|live=>exact H.live m d sz xs hm b a n hn hl
theorem R.aAU (r:R B E w0 N σ a w G) {n:Nat} {cs:List ar} {vs:List ar} {us:List Value} {off:Nat} (hn:σ.h n=some (.box cs)) (J:eJ w G σ.h vs us) (M:∀c∈vs,∀m,c.ref m->σ.used m=true)
  (hl:off+vs.length<=cs.length) {cur:Array Value} {e:TypeId} (y:w.heap[(G.g n).b]? =some (.cells cur e (0,0))) (u:(G.g n).o+off+us.length<=cur.size):
  R B E w0 N (σ.gu n (.box (e9 cs off vs))) a (jD w (G.g n).b ((G.g n).o+off) us cur) G:=by
 have H:=r.hr;have q:σ.h n≠none:=by rw[hn];simp
 obtain⟨s,P,Q⟩:=H.box n cs hn;obtain⟨L,D,xP⟩:=H.own n q s;have Z:=H.lP n q;have A:(⟨G.Im,bj G.g n (G.g n)⟩:Gh)=G:=by rw[NF]
 have hlen:us.length=vs.length:=J.1;have fk:∀b,b<w.heap.size->b≠(G.g n).b->(jD w (G.g n).b ((G.g n).o+off) us cur).heap[b]? =w.heap[b]? :=fun b _ d=>Ej b d;have K:cD w G σ.h (fun n=>σ.used n=true) (jD w (G.g n).b ((G.g n).o+off) us cur) G (bj σ.h n (some (.box (e9 cs off vs)))):=by
  refine⟨fun _ h=>h,fun b d x=>ku (fk b (H.jN b d) (fun W=>L (W▸d))) x,fun m hm f=>?_,fun m p sz xs hm f=>?_⟩
  ·by_cases t:m=n
   ·subst t;exact⟨q,rfl,rfl,rfl,rfl,rfl⟩
   ·rw[dZ _ _ _ _ t] at f;exact⟨f,rfl,rfl,rfl,rfl,rfl⟩
  ·by_cases t:m=n
   ·subst t;rw[dD] at f;cases f
   ·rw[dZ _ _ _ _ t] at f;exact⟨⟨p,xs,f⟩,fun k j pc S h2=>⟨pc,S,rfl,h2⟩⟩
 have I:HR B E (jD w (G.g n).b ((G.g n).o+off) us cur) ⟨G.Im,bj G.g n (G.g n)⟩ (bj σ.h n (some (.box (e9 cs off vs)))) σ.used []:=by
  refine H.put (fun b d z=>fk b d (z s)) (by rw[vF];exact zad _) (fun b _ d=>NI y u b d) (fun _ h=>h) Z (fun _=>⟨L,D,by rw[vF];exact xP⟩)
   (fun _ m hm f X=>(H.inj m n f q hm X s)) (fun _ m p sz xs hm f b d=>H.live m p sz xs f b d n q s) ?_ (by rw[A];exact K) ?_
   (fun p m sz xs d=>by cases d) (fun p sz xs d=>by cases d) (fun p m sz xs d=>by cases d) ?_
  ·intro cs' c m d i hm;injection d with d;subst d;simp only[e9,zaj] at i;rcases i with(i|i)|i
   ·exact H.kP n cs c m hn (zai i) hm
   ·exact M c i m hm
   ·exact H.kP n cs c m hn (zah i) hm
  ·rw[A];refine⟨s,NI y u _ P,fun j c l=>?_⟩;rw[Ec hl] at l;rw[Ei y u];by_cases F:off<=j/\j<off+vs.length
   ·rw[aj F] at l;rw[aj (by omega)];have C:j - off<us.length:=by omega
    have O:us[j - off]? =some (us[j - off]'C):=AN C;obtain⟨U,Y⟩:=J.2 _ _ _ l O;refine⟨_,by rw[<-O];congr 1;omega,U,Y.keep K (M c (co l))⟩
   ·rw[ak F] at l;rw[ak (by omega)];obtain⟨v,V,v2,T⟩:=Q j c l;exact⟨v,V,v2,T.keep K (fun m hm=>H.kP n cs c m hn (co l) hm)⟩
  ·intro _ _ b d;obtain⟨m,p,mo,sz,xs,hm,f,eW⟩:=d;exact H.y5 q s f eW
 rw[A] at I;exact r.step (σ':=σ.gu n (.box (e9 cs off vs))) rfl (fun _ h=>h) K I (r.fr.one D (fun b d z=>fk b d z) (by rw[vF];exact zad _) (Gx y u) rfl rfl rfl)
theorem Of {α:Type} {px:List (List α)} {k k' j:Nat} {pe:List α} {c:α} (f:k<px.length) (h:At (px.set k pe) k' j c):(k'=k/\pe[j]? =some c)\/(k'≠k/\At px k' j c):=by obtain⟨e,a,d⟩:=h;by_cases b:k'=k;subst b;rw[zaJ f] at a;injection a with a;subst a;exact .inl ⟨rfl,d⟩;rw[zaQ (zaL b)] at a;exact .inr ⟨b,e,a,d⟩
theorem PC.ae5 {pc:PC} (h:pc.kw=true):pc.er.gU=false:=by cases pc<;>simp[PC.kw] at h;simp[PC.fx,C.gU]
theorem R.uB (r:R B E w0 N σ a w G) {n:Nat} {u:Bool} {m:Mode} {l:Nat} {xs:List (List C)} {k off:Nat} {e:List C} {vs:List ar} {us:List Value} {σ2:St}
  (hn:σ.h n=some (.row u m l xs)) (bJ:(G.g n).nl=false) (hk:xs[k]? =some e) (hv:eJ w G σ.h vs us) (pL:∀c∈vs,∀m,c.ref m->σ.used m=true)
  (hx:Am.uB σ n u m l xs k off e vs=some σ2) {cur:Array Value} {et:TypeId} (hg:w.heap[(G.g n).b]? =some (.cells cur et (0,0))) (iZ:(G.g n).o+k*l+off+us.length<=cur.size):
  ∃G',R B E w0 N σ2 a (jD w (G.g n).b ((G.g n).o+k*l+off) us cur) G':=by
 unfold Am.uB at hx;split at hx
 ·cases hx
 rename_i lG jW;obtain⟨s1,s2,s3⟩:=J8 jW;split at hx
 ·cases hx
 rename_i cs ow σ1 Ww;obtain⟨Im',A,a1,a2,a3,a4,a5,a6,a7,a8⟩:=HR.jp r.hr Ww hv pL;simp only[zam] at a4;have M:HR B E w ⟨Im',G.g⟩ σ1.h σ.used []:=by
  cases ow
  ·simpa using a4
  ·have a4':HR B E w ⟨Im',G.g⟩ σ1.h σ.used ([]++A):=by simpa using a4
   exact a4'.Gt
 have hlen:us.length=vs.length:=hv.1;have jz:A.length=vs.length:=by have:=congrArg za7 a2;simp at this;omega
 have aqS:(σ1.h n).isSome=true/\∃F,σ2=σ1.gu n (.row u F l (xs.set k (e9 e off cs)))/\
   ((m=.live/\F=.live/\jb cs=true/\jb lG=true/\u=false)\/(m≠ .live/\F=if ow=true then m else .bn)):=by
  split at hx
  ·rename_i hm;split at hx
   ·rename_i hc;injection hx with hx;exact⟨hc.2.2.1,m,by rw[<-hx],.inl ⟨hm,hm,hc.1,hc.2.1,hc.2.2.2⟩⟩
   ·cases hx
  ·rename_i hm;split at hx
   ·rename_i V;injection hx with hx;exact⟨V,_,hx.symm,.inr ⟨hm,rfl⟩⟩
   ·cases hx
 obtain⟨IF,F,rfl,jI⟩:=aqS;have Z:σ1.h n=some (.row u m l xs):=by
  cases hh:σ1.h n with
  |none=>rw[hh] at IF;cases IF
  |some b=>rw[<-a8 n b hh,hn]
 have cY:σ1.h n≠none:=by rw[Z];simp
 have hr:=M.row n u m l xs Z;obtain⟨wm,vc,xP⟩:=M.own n cY bJ;have C6:=M.lP n cY;obtain⟨l1,l2,l3⟩:=hr.f0 bJ;have lT:∃pe,(G.g n).px[k]? =some pe/\pe.map PC.er=e:=by
  have nz:=hr.er;rw[nz,wt] at hk;cases f:(G.g n).px[k]? with
  |none=>rw[f] at hk;cases hk
  |some pe=>rw[f] at hk;simp at hk;exact⟨pe,rfl,hk⟩
 obtain⟨pe,wq,zj⟩:=lT;have oT:k<(G.g n).px.length:=(AI.1 wq).1;have Bh:pe.length=l:=l2.1 pe (co wq);have oW:off+A.length<=pe.length:=by rw[<-zj] at s1;simp at s1;omega
 let Jr:=e9 pe off A;let px':=(G.g n).px.set k Jr;let W:=jD w (G.g n).b ((G.g n).o+k*l+off) us cur;let p':PB:=⟨false,(G.g n).b,(G.g n).o,(G.g n).cap,px',(G.g n).na⟩;have aem:Jr.length=l:=by show(e9 pe off A).length=l;rw[RL oW,Bh]
 have eN:∀k' j c,At px' k' j c->(k'=k/\off<=j/\j<off+A.length/\A[j - off]? =some c)\/((k'≠k\/¬(off<=j/\j<off+A.length))/\At (G.g n).px k' j c):=by
  intro k' j c h;rcases Of oT h with⟨rfl,H⟩|⟨z,h⟩
  ·rw[Ec oW] at H;by_cases fY:off<=j/\j<off+A.length
   ·rw[aj fY] at H;exact .inl ⟨rfl,fY.1,fY.2,H⟩
   ·rw[ak fY] at H;exact .inr ⟨.inr fY,pe,wq,H⟩
  ·exact .inr ⟨.inl z,h⟩
 have aqN:∀k' j c,At px' k' j c->j<l:=by
  intro k' j c h;obtain⟨Y,T,H⟩:=h;have:Y.length=l:=by
   rcases zaD (co T) with s|s
   ·exact l2.1 Y s
   ·rw[s];exact aem
  rw[<-this];exact(AI.1 H).1
 have oS:∀b,bY b px'->bY b (G.g n).px\/∃(i:Nat) (c:PC),A[i]? =some c/\bP b c:=by
  rintro b ⟨k',j,c,O,d⟩;rcases eN k' j c O with⟨_,_,_,f⟩|⟨_,f⟩
  ·exact .inr ⟨_,c,f,d⟩
  ·exact .inl ⟨k',j,c,f,d⟩
 have fk:∀b,b≠(G.g n).b->W.heap[b]? =w.heap[b]? :=fun b d=>Ej b d;have Wk:∀(i:Nat) (c:PC) (b:Nat),A[i]? =some c->bP b c->Im' b:=fun i c b D d=>(a3 c (co D)).2 b d;have E3:∀b,Im' b->b≠(G.g n).b:=fun b d T=>wm (T▸d);have oV:∀b,bY b (G.g n).px->b≠(G.g n).b:=fun b d=>M.y5 cY bJ Z d;have gd:tP W (G.g n).b (G.g n).o l px':=by
  refine⟨fun Y T=>?_,fun k' j c O=>?_,fun k' j c O=>?_⟩
  ·rcases zaD T with s|s
   ·exact l2.1 Y s
   ·rw[s];exact aem
  ·have H:=aqN k' j c O;show W.cell? _=_;rw[Ei hg iZ];rcases eN k' j c O with⟨rfl,s,U,f⟩|⟨z,f⟩
   ·rw[aj (by omega)];have hu:us[j - off]? =some c.val:=by rw[<-a2,wt,f];rfl
    rw[<-hu];congr 1;omega
   ·rw[ak ?_]
    ·exact l2.2.1 k' j c f
    ·rintro⟨q1,q2⟩;rcases z with z|z
     ·rcases Nat.lt_or_gt_of_ne z with cF|Fa
      ·have:(k'+1)*l<=k*l:=GB _ cF;rw[IN] at this;omega
      ·have:(k+1)*l<=k'*l:=GB _ Fa;rw[IN] at this;omega
     ·have:k'=k:=by
       rcases zaE k' k with cF|ig|Fa
       ·have:(k'+1)*l<=k*l:=GB _ cF;rw[IN] at this;omega
       ·exact ig
       ·have:(k+1)*l<=k'*l:=GB _ Fa;rw[IN] at this;omega
      subst this;omega
  ·rcases eN k' j c O with⟨_,_,_,f⟩|⟨_,f⟩
   ·exact(a3 c (co f)).1.congr fun b d x=>ku (fk b (E3 b (Wk _ c b f d))) x
   ·exact(l2.2.2 k' j c f).congr fun b d x=>ku (fk b (oV b ⟨k',j,c,f,d⟩)) x
 have aec:(G.g n).o+k*l+off+us.length<=cur.size:=iZ;have kT:jb cs=true->∀(i:Nat) (c:PC) (b:Nat),A[i]? =some c->¬bP b c:=by
  intro V i c b D;have hc:c.er∈cs:=by rw[<-a1];exact zae (co D)
  exact(Sep.kO (pc:=c) (OF.1 V _ hc)).2 b
 have hold:jb lG=true->∀j c,off<=j->j<off+A.length->pe[j]? =some c->c.er.gU=true:=by
  intro V j c s U H;have:c.er∈lG:=by
   have h3:lG[j - off]? =some c.er:=by
    have e0:lG[j - off]? =((e.drop off).take vs.length)[j - off]? :=congrArg (fun q:List C=>q[j - off]?) s2;rw[e0,Ee (by omega),<-zj,wt,show off+(j - off)=j by omega,H];rfl
   exact co h3
  exact OF.1 V _ this
 have K2:cD w ⟨Im',G.g⟩ σ1.h (fun n=>σ.used n=true) W ⟨Im',bj G.g n p'⟩ (bj σ1.h n (some (.row u F l (xs.set k (e9 e off cs))))):=by
  refine⟨fun _ h=>h,fun b d x=>ku (fk b (E3 b d)) x,fun q v y=>?_,fun q K Q J v y=>?_⟩
  ·by_cases I:q=n
   ·subst I;refine⟨cY,?_⟩;simp only[dD];exact⟨bJ.symm,rfl,rfl,rfl,rfl⟩
   ·rw[dZ _ _ _ _ I] at y;simp only[dZ _ _ _ _ I];exact⟨y,trivial,trivial,trivial,trivial,trivial⟩
  ·by_cases I:q=n
   ·subst I;rw[dD] at y;injection y with y;injection y with Y e2 e3 e4;subst Y;subst e2;subst e3;rcases jI with⟨hm,_,V,Fm,_⟩|⟨hm,t⟩
    ·subst hm;refine⟨⟨u,xs,Z⟩,fun k' j pc O hL=>?_⟩;simp only[dD];refine⟨pc,?_,rfl,hL⟩;obtain⟨Y,T,H⟩:=O;by_cases C0:k'=k
     ·subst C0;rw[wq] at T;injection T with T;subst T;refine⟨Jr,zaJ oT,?_⟩;show(e9 pe off A)[j]? =some pc;rw[Ec oW];rw[ak ?_]
      ·exact H
      ·rintro⟨q1,q2⟩;have:=hold Fm j pc q1 q2 H;rw[PC.ae5 hL] at this;cases this
     ·exact⟨Y,by show((G.g q).px.set k Jr)[k']? =some Y;rw[zaQ (zaL C0)];exact T,H⟩
    ·cases ow
     ·simp at t
     ·simp at t;exact absurd t.symm hm
   ·rw[dZ _ _ _ _ I] at y;simp only[dZ _ _ _ _ I];exact⟨⟨K,J,y⟩,fun k j pc s U=>⟨pc,s,rfl,U⟩⟩
 have t9:∀b,fD w b->fD W b:=fun b d=>NI hg iZ b d;have Wi:F≠ .bn->(∀b,bY b px'->fD w b/\(B<=b\/E b))/\mz px'/\(F=.bq->∀b,bY b px'->Im' b)/\(F=.live->∀b,bY b px'->bY b (G.g n).px)/\
   (∀q K mo Q J,q≠n->σ1.h q=some (.row K mo Q J)->mo≠ .bn->∀b,bY b px'->¬bY b (G.g q).px):=by
  intro n9;have P:=hr.mode;rcases jI with⟨rfl,rfl,V,Fm,_⟩|⟨hm,t⟩
  ·have jW:∀b,bY b px'->bY b (G.g n).px:=fun b d=>(oS b d).resolve_right (fun⟨i,c,D,d⟩=>kT V i c b D d);refine⟨fun b d=>(P.1 b (jW b d)).2,⟨fun k' j c O=>?_,fun k1 j1 X k2 j2 L b s U z d=>?_⟩,(fun h=>by cases h),fun _=>jW,fun q K mo Q J I v lS b d=>M.ju n q u .live l xs K mo Q J Z v (by simp) lS (zaL I) b (jW b d)⟩
   ·rcases eN k' j c O with⟨_,_,_,f⟩|⟨_,f⟩
    ·exact Sep.FV (fun b d=>kT V _ c b f d) (a3 c (co f)).1
    ·exact P.2.1 k' j c f
   ·rcases eN k1 j1 X s with⟨_,_,_,f⟩|⟨_,f⟩
    ·exact absurd d (kT V _ X b f)
    ·rcases eN k2 j2 L U with⟨_,_,_,S⟩|⟨_,S⟩
     ·exact kT V _ L b S
     ·exact P.2.2 k1 j1 X k2 j2 L b f S z d
  ·cases ow
   ·simp at t;exact absurd t n9
   ·simp only[if_true] at t a4;subst t;have Ps:F=.bq:=by cases F<;>first|rfl|exact absurd rfl hm|exact absurd rfl n9
    subst Ps;refine⟨fun b d=>?_,⟨fun k' j c O=>?_,fun k1 j1 X k2 j2 L b s U z d=>?_⟩,fun _ b d=>?_,(fun h=>by cases h),fun q K mo Q J I v lS b d=>?_⟩
    ·rcases oS b d with s|⟨i,c,D,s⟩
     ·exact(P.1 b s).2
     ·exact((a4.w5 i c D).2 b s).2
    ·rcases eN k' j c O with⟨_,_,_,f⟩|⟨_,f⟩
     ·exact(a4.w5 _ c f).1
     ·exact P.2.1 k' j c f
    ·rcases eN k1 j1 X s with⟨Y,q1,q2,f⟩|⟨_,f⟩
     ·rcases eN k2 j2 L U with⟨e2,q3,q4,S⟩|⟨_,S⟩
      ·have lR:j1 - off≠j2 - off:=fun hh=>z (by rw[Y,e2,show j1=j2 by omega]);exact a4.B3 _ _ X L b lR f S d
      ·exact fun bD=>a4.w6 _ X n u .bq l xs b f Z (by simp) d ⟨k2,j2,L,S,bD⟩
     ·rcases eN k2 j2 L U with⟨e2,q3,q4,S⟩|⟨_,S⟩
      ·exact fun bD=>a4.w6 _ L n u .bq l xs b S Z (by simp) bD ⟨k1,j1,X,f,d⟩
      ·exact P.2.2 k1 j1 X k2 j2 L b f S z d
    ·rcases oS b d with s|⟨i,c,D,s⟩
     ·exact(P.1 b s).1
     ·exact Wk i c b D s
    ·rcases oS b d with s|⟨i,c,D,s⟩
     ·exact M.ju n q u .bq l xs K mo Q J Z v (by simp) lS (zaL I) b s
     ·exact a4.w6 i c q K mo Q J b D v lS s
 have Hn:HR B E W ⟨Im',bj G.g n p'⟩ (bj σ1.h n (some (.row u F l (xs.set k (e9 e off cs))))) σ.used []:=by
  refine M.put (p:=p') (fun b d z=>fk b (z rfl)) (by show w.heap.size<=W.heap.size;rw[vF];exact zad _) (fun b _ d=>t9 b d) (fun _ h=>h) C6
   (fun _=>⟨wm,vc,by show _<W.heap.size;rw[vF];exact xP⟩)
   (fun _ q v y pK=>(M.inj q n y cY v pK bJ)) (fun _ q K Q J v y b d=>M.live q K Q J y b d n cY bJ) (fun cs c q d=>by cases d) K2 ?_ ?_ ?_ (fun u m sz xs _ _ i pc b D=>by simp at D) ?_
  ·refine⟨hr.pos,?_,(fun hl=>by cases hl),fun _=>⟨t9 _ l1,gd,by show((G.g n).px.set k Jr).length<=_;simpa using l3⟩,fun _ LC=>?_,?_,fun hg1 jw=>?_⟩
   ·show xs.set k (e9 e off cs)=((G.g n).px.set k Jr).map _;rw[List.map_set,<-hr.er];congr 1;show e9 e off cs=(e9 pe off A).map PC.er;rw[JY,zj,a1]
   ·obtain⟨r2,mE,e',r3,r4⟩:=hr.room bJ LC;rw[hg] at r3;injection r3 with r3;injection r3 with r3 _ _;subst r3;obtain⟨Ur,X,L⟩:=Kj (vs:=us) (o:=(G.g n).o+k*l+off) hg iZ;exact⟨r2,Ur,et,X,by rw[L];exact r4⟩
   ·show N6 B E W ⟨Im',_⟩ px' F;by_cases n9:F=.bn
    ·rw[n9];intro b d;rcases oS b d with s|⟨i,c,D,s⟩
     ·have P:=hr.mode;rcases jI with⟨_,U,_⟩|⟨hm,_⟩
      ·rw[n9] at U;cases U
      ·cases m with
       |bn=>exact P b s
       |bq=>exact(P.1 b s).1
       |live=>exact absurd rfl hm
     ·exact Wk i c b D s
    ·obtain⟨o1,o2,o3,o4,o5⟩:=Wi n9;cases F with
     |bn=>exact absurd rfl n9
     |bq=>exact⟨fun b d=>⟨o3 rfl b d,t9 b (o1 b d).1,(o1 b d).2⟩,o2⟩
     |live=>
      refine⟨fun b d=>⟨?_,t9 b (o1 b d).1,(o1 b d).2⟩,o2⟩;have P:=hr.mode;rcases jI with⟨hm,_,_⟩|⟨hm,t⟩
      ·subst hm;exact(P.1 b (o4 rfl b d)).1
      ·cases ow
       ·simp at t
       ·simp at t;exact absurd t.symm hm
   ·rcases jI with⟨_,_,_,_,hg2⟩|⟨hm,t⟩
    ·rw[hg2] at hg1;cases hg1
    ·rw[jw] at t;cases ow
     ·simp at t
     ·simp at t;exact absurd t.symm hm
  ·intro K m2 Q J d n9 q Ig mo qN mV I v lS b eW;injection d with _ d _ _;subst d;exact(Wi n9).2.2.2.2 q Ig mo qN mV I v lS b eW
  ·intro K Q J d b eW;injection d with _ d _ _;subst d;have jW:=(Wi (by simp)).2.2.2.1 rfl b eW;have hm:m=.live:=by
    rcases jI with⟨hm,_,_⟩|⟨hm,t⟩
    ·exact hm
    ·cases ow
     ·simp at t
     ·simp at t;exact absurd t.symm hm
   subst hm;exact⟨fun _=>M.live n u l xs Z b jW n cY bJ,fun q I v Wp=>M.live n u l xs Z b jW q v Wp⟩
  ·intro _ _ b d;obtain⟨q,K,mo,Q,J,v,y,eW⟩:=d;exact M.y5 cY bJ y eW
 refine⟨⟨Im',bj G.g n p'⟩,?_⟩;exact r.step (σ':=σ1.gu n (.row u F l (xs.set k (e9 e off cs)))) a6 (fun q v=>by show σ1.used q=true;rw[a7];exact v)
  (cD.trans (u2:=fun n=>σ.used n=true) (fun _ h=>h) a5 K2) (by show HR B E W _ (bj σ1.h n _) σ1.used [];rw[a7];exact Hn) (r.fr.one vc (fun b d z=>fk b z) (by show w.heap.size<=W.heap.size;rw[vF];exact zad _) (Gx hg iZ) rfl rfl rfl)
end
section
variable {B:Nat} {E:Ex} {w0 w w':World} {G G':Gh} {h h':Nat->Option bf} {used used':Nat->Bool} {tk:List PC} {N:Nat}
variable {P:Program} {o:Oper} {a:Act} {σ σ':St} {Q:Exit->Act->World->Prop}
theorem RA.c {x:C} {v:Value} (a:RA w G h (.one (.c x)) v):∃pc:PC,pc.er=x/\pc.val=v/\Good w pc/\∀b,bP b pc->G.Im b:=(a.jR (by simp)).1
theorem RA.Mi {k:IntKind} {n:Int} {v:Value} (d:RA w G h (.one (.c (.int k n))) v):v=.int k n:=by obtain⟨pc,a,b,_⟩:=d.c;cases pc<;>simp[PC.er] at a;obtain⟨rfl,rfl⟩:=a;exact b.symm
theorem RA.Ht {b:Bool} {v:Value} (e:RA w G h (.one (.c (.bool b))) v):v=.bool b:=by obtain⟨pc,a,d,_⟩:=e.c;cases pc<;>simp[PC.er] at a;subst a;exact d.symm
theorem RA.of_int (k:IntKind) (n:Int):RA w G h (.one (.c (.int k n))) (.int k n):=RA.iR rfl ⟨.int k n,rfl,rfl,.int _ _,fun b a=>by cases a⟩
theorem RA.of_bool (b:Bool):RA w G h (.one (.c (.bool b))) (.bool b):=RA.iR rfl ⟨.bool b,rfl,rfl,.bool _,fun b a=>by cases a⟩
theorem BO {x:C} {m:Nat}:¬(aE.one (.c x)).ref m:=fun h=>h
theorem ny (r:R B E w0 N σ a w G) {x:aE} {v:Value} (b:(execOp a.eval o).run P w=.ok (.value v) w) (c:RA w G σ.h x v) (hr:∀m,x.ref m->σ.used m=true) (d:∀n,o.dst=some n->n<N): o.wp P a w (Nx B E w0 N (σ.put o.dst x)) Q:=w9 b ⟨G,r.put c hr d⟩
theorem ab2 (r:R B E w0 N σ a w G) {x:Operand} {m:MO} (b:o.op=.move x\/o.op=.assign x) (e:∀n,o.dst=some n->n<N) (hm:dC x m=true): o.wp P a w (Nx B E w0 N (σ.put o.dst (σ.ev m))) Q:=by obtain⟨d,c⟩:=r.ev hm;refine ny r ?_ d c e;rcases b with b|b<;>simp[execOp,b]
theorem aoQ (r:R B E w0 N σ a w G) {c x y:Operand} {e mx my:MO} {b:Bool} (f:o.op=.pick c x y) (j:∀n,o.dst=some n->n<N) (g:dC c e=true) (hx:dC x mx=true) (hy:dC y my=true)
  (p:σ.ev e=.one (.c (.bool b))):o.wp P a w (Nx B E w0 N (σ.put o.dst (if b=true then σ.ev mx else σ.ev my))) Q:=by
 obtain⟨d,_⟩:=r.ev g;rw[p] at d;have l:=d.Ht;obtain⟨m,i⟩:=r.ev hx;obtain⟨k,h⟩:=r.ev hy;refine ny r (v:=if b=true then a.eval x else a.eval y) ?_ ?_ ?_ j
 ·simp only[execOp,f,l,asBool];cases b<;>simp
 ·cases b
  ·exact k
  ·exact m
 ·cases b
  ·exact h
  ·exact i
theorem azU {op:BinOp} {k:IntKind} {n m:Int} {c:C} {t:TypeId} (b:BinOp.FA op=false) (hx:Hr op k n m=some c):∃v,(binOp op t (.int k n) (.int k m)).run P w=.ok v w/\RA w G h (.one (.c c)) v:=by cases op with|add=>injection hx with hx;subst hx;exact⟨_,by simp[binOp,Op.intArith],RA.of_int _ _⟩|sub=>injection hx with hx;subst hx;exact⟨_,by simp[binOp,Op.intArith],RA.of_int _ _⟩|mul=>injection hx with hx;subst hx;exact⟨_,by simp[binOp,Op.intArith],RA.of_int _ _⟩|and=>injection hx with hx;subst hx;exact⟨_,by simp[binOp,intBits_and],RA.of_int _ _⟩|or=>injection hx with hx;subst hx;exact⟨_,by simp[binOp,intBits_or],RA.of_int _ _⟩|xor=>injection hx with hx;subst hx;exact⟨_,by simp[binOp,intBits_xor],RA.of_int _ _⟩|eql=>injection hx with hx;subst hx;exact⟨_,by simp[binOp,Op.intCmp],RA.of_bool _⟩|neq=>injection hx with hx;subst hx;exact⟨_,by simp[binOp,Op.intCmp],RA.of_bool _⟩|lss=>injection hx with hx;subst hx;exact⟨_,by simp[binOp,Op.intCmp],RA.of_bool _⟩|leq=>injection hx with hx;subst hx;exact⟨_,by simp[binOp,Op.intCmp],RA.of_bool _⟩|gtr=>injection hx with hx;subst hx;exact⟨_,by simp[binOp,Op.intCmp],RA.of_bool _⟩|geq=>injection hx with hx;subst hx;exact⟨_,by simp[binOp,Op.intCmp],RA.of_bool _⟩|quo=>simp only[Hr] at hx;split at hx;cases hx;rename_i a;injection hx with hx;subst hx;exact⟨_,by simp[binOp,Op.intDiv,a],RA.of_int _ _⟩|rem=>simp only[Hr] at hx;split at hx;cases hx;rename_i a;injection hx with hx;subst hx;exact⟨_,by simp[binOp,Op.intDiv,a],RA.of_int _ _⟩|shl=>simp[BinOp.FA] at b|shr=>simp[BinOp.FA] at b|andNot=>cases hx
theorem azY {op:BinOp} {k k':IntKind} {n m:Int} {c:C} {t:TypeId} (d:BinOp.FA op=true) (hx:Nh op k n m=some c):∃v,(binOp op t (.int k n) (.int k' m)).run P w=.ok v w/\RA w G h (.one (.c c)) v:=by unfold Nh at hx;split at hx;cases hx;rename_i a;cases op<;>simp[BinOp.FA] at d;injection hx with hx;subst hx;exact⟨_,by simp[binOp,Op.shift,a],RA.of_int _ _⟩;injection hx with hx;subst hx;have b:(0:Int)<=2^min m.toNat k.bits:=Int.le_of_lt (Int.pow_pos (by decide));exact⟨_,by simp[binOp,Op.shift,a,Int.fdiv_eq_ediv_of_nonneg _ b],RA.of_int _ _⟩
theorem aja (op:BinOp) (t:TypeId) (x y:Operand) (k k':IntKind) (n m:Int):(eqGuard op t x y (.int k n) (.int k' m)).run P w=.ok () w:=by cases op<;>simp[eqGuard]
theorem ai9 (op:BinOp) (t:TypeId) (x y:Operand) (n m:Bool):(eqGuard op t x y (.bool n) (.bool m)).run P w=.ok () w:=by cases op<;>simp[eqGuard]
theorem aoo (r:R B E w0 N σ a w G) {op:BinOp} {t A:TypeId} {x y:Operand} {mx my:MO} {c:C} (i:o.op=.binOp op t x y A) (l:∀n,o.dst=some n->n<N) (hx:dC x mx=true) (hy:dC y my=true) (b:CA op (σ.ev mx) (σ.ev my)=some c):o.wp P a w (Nx B E w0 N (σ.put o.dst (.one (.c c)))) Q:=by obtain⟨u,_⟩:=r.ev hx;obtain⟨p,_⟩:=r.ev hy;unfold CA at b;split at b;rename_i k n k' m z F;rw[z] at u;rw[F] at p;have j:=u.Mi;have s:=p.Mi;split at b;rename_i e;obtain⟨v,d,f⟩:=azY (P:=P) (w:=w) (G:=G) (h:=σ.h) (k':=k') (t:=t) e b;exact ny r (by simp only[execOp,i,j,s];simp[aja,d]) f (fun q g=>absurd g BO) l;rename_i e;split at b;rename_i D;subst D;obtain⟨v,d,f⟩:=azU (P:=P) (w:=w) (G:=G) (h:=σ.h) (t:=t) (by simpa using e) b;exact ny r (by simp only[execOp,i,j,s];simp[aja,d]) f (fun q g=>absurd g BO) l;cases b;cases b
theorem aop (r:R B E w0 N σ a w G) {op:BinOp} {t p:TypeId} {x y:Operand} {mx my:MO} {c:C} (e:o.op=.binOp op t x y p) (h:∀n,o.dst=some n->n<N) (hx:dC x mx=true) (hy:dC y my=true) (s:P.underlying t=some .bool) (b:Hq op (σ.ev mx) (σ.ev my)=some c):o.wp P a w (Nx B E w0 N (σ.put o.dst (.one (.c c)))) Q:=by obtain⟨k,_⟩:=r.ev hx;obtain⟨i,_⟩:=r.ev hy;unfold Hq at b;split at b;rename_i n m l u;rw[l] at k;rw[u] at i;have g:=k.Ht;have j:=i.Ht;have f:(Op.equal t (.bool n) (.bool m)).run P w=.ok (n==m) w:=run_equal_bool w t n m s;split at b;injection b with b;subst b;exact ny r (by simp only[execOp,e,g,j];simp[ai9,binOp,f]) (RA.of_bool _) (fun q d=>absurd d BO) h;injection b with b;subst b;exact ny r (by simp only[execOp,e,g,j];simp[ai9,binOp,f,bne]) (RA.of_bool _) (fun q d=>absurd d BO) h;cases b;cases b
theorem aoU (r:R B E w0 N σ a w G) {op:UnOp} {t:TypeId} {x:Operand} {mx:MO} {c:C} (h:o.op=.unOp op t x) (i:∀n,o.dst=some n->n<N) (hx:dC x mx=true) (b:Ke op (σ.ev mx)=some c):o.wp P a w (Nx B E w0 N (σ.put o.dst (.one (.c c)))) Q:=by obtain⟨d,_⟩:=r.ev hx;unfold Ke at b;split at b;rename_i n f;rw[f] at d;have g:=d.Ht;split at b;injection b with b;subst b;exact ny r (by simp only[execOp,h,g];simp[Op.unary]) (RA.of_bool _) (fun q e=>absurd e BO) i;cases b;rename_i k n f;rw[f] at d;have g:=d.Mi;split at b;injection b with b;subst b;exact ny r (by simp only[execOp,h,g];simp[Op.unary,Op.intArith]) (RA.of_int _ _) (fun q e=>absurd e BO) i;cases b;cases b
def KV (P:Program) (s:TypeId) (f off:Nat):Bool:=
 match P.underlying s with
 |some (.struct CM)=>match CM[f]? with
  |some fd=>(fd.offset==off)&&(match P.info? fd.type with|some i=>i.size !=0|none=>false)
  |none=>false
 |_=>false
theorem JI {s:TypeId} {f off:Nat} (a:KV P s f off=true) (b o:Nat):(Instr.fieldAt s (.pointer (some (ad b o))) f).run P w=.ok (.pointer (some (ad b (o+off)))) w:=by unfold KV at a;split at a;rename_i CM c;split at a;rename_i fd g;split at a;rename_i i e;simp at a;obtain⟨rfl,d⟩:=a;simp[Instr.fieldAt,run_underlying c,g,Instr.sureAddr,fieldPlace,sizeOf,typeInfo,e,d,xp];simp at a;cases a;cases a
theorem UJ (r:R B E w0 N σ a w G) {s:TypeId} {f off:Nat} {x:Operand} {mx:MO} {y:aE} (l:o.op=.fieldAddr s x f) (u:∀n,o.dst=some n->n<N) (hx:dC x mx=true) (p:KV P s f off=true) (hy:(∃n k sz q,σ.ev mx=.one (.ptr n k sz q)/\(σ.h n).isSome=true/\y=.one (.ptr n k sz (q+off)))\/(∃xs q,σ.ev mx=.one (.eU xs q)/\y=.one (.eU xs (q+off)))\/(∃xs q j n s len,σ.ev mx=.one (.dW xs q j n s len)/\y=.one (.dW xs (q+off) j n s len))): o.wp P a w (Nx B E w0 N (σ.put o.dst y)) Q:=by obtain⟨c,i⟩:=r.ev hx;rcases hy with⟨n,k,sz,q,d,A,rfl⟩|⟨xs,q,d,rfl⟩|⟨xs,q,j,n,s',len,d,rfl⟩;rw[d] at c i;have H:σ.h n≠none:=(by intro F;rw[F] at A;cases A);obtain⟨D,I⟩:=(c.jR (by simp)).1 H;refine ny r (v:=.pointer (some (ad (G.g n).b ((G.g n).o+k*sz+q+off)))) ?_ ?_ (fun m hm=>i m hm) u;simp only[execOp,l,I];simp[JI p];exact RA.iR rfl fun _=>⟨D,by rw[Pe]⟩;rw[d] at c;obtain⟨b,e,pe,p1,t,z,p4⟩:=(c.jR (by simp)).1;refine ny r (v:=.pointer (some (ad b (e+q+off)))) ?_ ?_ (fun m hm=>absurd hm (by simp[aE.ref,ar.ref,ar.lf])) u;simp only[execOp,l,p1];simp[JI p];exact RA.iR rfl ⟨b,e,pe,by rw[Pe],t,z,p4⟩;rw[d] at c i;obtain⟨b,e,pe,p1,t,z,p4,C⟩:=(c.jR (by simp)).1;refine ny r (v:=.pointer (some (ad b (e+q+off)))) ?_ ?_ (fun m hm=>i m hm) u;simp only[execOp,l,p1];simp[JI p];exact RA.iR rfl ⟨b,e,pe,by rw[Pe],t,z,p4,C⟩
theorem aoF (r:R B E w0 N σ a w G) {x:Operand} {mx:MO} {i:Nat} {xs:List (Bool×List ar)} {ag:Bool} {cs:List ar} (l:o.op=.extract x i) (q:∀n,o.dst=some n->n<N) (hx:dC x mx=true) (k:σ.ev mx=.dh xs) (d:xs[i]? =some (ag,cs)) (j:ag=false->∃c,cs=[c]):o.wp P a w (Nx B E w0 N (σ.put o.dst (vD ag cs))) Q:=by obtain⟨g,f⟩:=r.ev hx;rw[k] at g f;obtain⟨vs,e,hl,s⟩:=g;have h:i<vs.length:=(by rw[hl];exact(AI.1 d).1);have t:vs[i]? =some vs[i]:=AN h;have b:=s i _ _ d t;refine ny r (v:=vs[i]) ?_ ?_ (fun m hm=>?_) q;simp only[execOp,l,e];simp[Instr.extract,h];cases ag;obtain⟨c,rfl⟩:=j rfl;exact .inr b;exact b;cases ag;obtain⟨c,rfl⟩:=j rfl;exact f m ⟨_,co d,c,by simp,hm⟩;obtain⟨c,p,hm⟩:=hm;exact f m ⟨_,co d,c,p,hm⟩
theorem aoK (r:R B E w0 N σ a w G) {mx':Bool} {x y:Operand} {mx my:MO} {k k':IntKind} {n m:Int} {ts:Array TypeId} (b:o.op=.call {callee:=.builtin (if mx'=true then .max else .min),args:=#[x,y],argTypes:=ts}) (i:∀n,o.dst=some n->n<N) (hx:dC x mx=true) (hy:dC y my=true) (h:σ.ev mx=.one (.c (.int k n))) (j:σ.ev my=.one (.c (.int k' m))): o.wp P a w (Nx B E w0 N (σ.put o.dst (.one (.c (.int k (if mx'=true then(if n<m then m else n) else(if m<n then m else n))))))) Q:=by obtain⟨g,_⟩:=r.ev hx;obtain⟨e,_⟩:=r.ev hy;rw[h] at g;rw[j] at e;have d:=g.Mi;have f:=e.Mi;refine ny r ?_ (RA.of_int _ _) (fun q l=>absurd l BO) i;cases mx';simp[execOp,b,resolve,invoke,builtin,Builtin.min_,d,f,Builtin.min2];simp[execOp,b,resolve,invoke,builtin,Builtin.max_,d,f,Builtin.max2]
end
theorem vP {α:Type} {px py:List (List α)} {k j:Nat} {c:α} (h:At (px++py) k j c):(k<px.length/\At px k j c)\/(px.length<=k/\At py (k - px.length) j c):=by obtain⟨e,b,d⟩:=h;rcases zbd k px.length with a|a;rw[By a] at b;exact .inl ⟨a,e,b,d⟩;rw[BY a] at b;exact .inr ⟨a,e,b,d⟩
theorem BW {b:Nat} {px py:List (List PC)} (h:bY b (px++py)):bY b px\/bY b py:=by obtain⟨k,j,c,e,d⟩:=h;rcases vP e with⟨_,a⟩|⟨_,a⟩;exact .inl ⟨_,_,_,a,d⟩;exact .inr ⟨_,_,_,a,d⟩
theorem QS {px py:List (List PC)} (g:mz px) (l:mz py) (m:∀b,bY b px->¬bY b py):mz (px++py):=by refine⟨fun k j c f=>?_,fun k j c k' j' c' b f o i d a=>?_⟩;rcases vP f with⟨_,h⟩|⟨_,h⟩;exact g.1 _ _ _ h;exact l.1 _ _ _ h;rcases vP f with⟨q,h⟩|⟨q,h⟩<;>rcases vP o with⟨n,h'⟩|⟨n,h'⟩;exact g.2 _ _ _ _ _ _ b h h' i d a;exact m b ⟨_,_,_,h,d⟩ ⟨_,_,_,h',a⟩;exact m b ⟨_,_,_,h',a⟩ ⟨_,_,_,h,d⟩;refine l.2 _ _ _ _ _ _ b h h' (fun e=>i ?_) d a;injection e with e1 e2;rw[show k=k' by omega,e2]
section
variable {B:Nat} {E:Ex} {w0 w w':World} {G G':Gh} {h h':Nat->Option bf} {used used':Nat->Bool} {tk:List PC} {N:Nat}
variable {P:Program} {o:Oper} {a:Act} {σ σ':St} {Q:Exit->Act->World->Prop}
theorem D0 {py:List (List PC)} (l:jm (py.map fun e=>e.map PC.er)=true) (b:Nat):¬bY b py:=by rintro⟨k,j,c,⟨e,h,m⟩,a⟩;have i:e.map PC.er∈py.map fun e=>e.map PC.er:=zae (f:=fun e=>e.map PC.er) (co h);have d:=OF.1 l _ i;have g:=OF.1 d c.er (zae (co m));exact(Sep.kO (pc:=c) g).2 b a
theorem akU {py:List (List PC)} (d:jm (py.map fun e=>e.map PC.er)=true) (k j:Nat) (c:PC) (g:At py k j c):xk w c:=by obtain⟨e,b,h⟩:=g;have a:=OF.1 d _ (zae (f:=fun e=>e.map PC.er) (co b));exact xk.kO (OF.1 a c.er (zae (co h)))
structure qP (B:Nat) (E:Ex) (w:World) (G:Gh) (h:Nat->Option bf) (sz:Nat) (m:Mode) (px:List (List PC)):Prop where
 len:∀e∈px,e.length=sz
 fF:∀k j c,At px k j c->Good w c
 mode:N6 B E w G px m
 ju:m≠ .bn->∀n gr m' bw aP,h n=some (.row gr m' bw aP)->m'≠ .bn->∀b,bY b px->¬bY b (G.g n).px
 live:m=.live->∀b,bY b px->∀n,h n≠none->(G.g n).nl=false->b≠(G.g n).b
 nr:m=.live->xl w sz px
theorem qP.aaK {m:Mode} {sz:Nat} {px py:List (List PC)} (F:qP B E w G h sz m px) (hl:∀e∈py,e.length=sz) (l:∀k j c,At py k j c->Good w c) (f:∀b,¬bY b py) (o:∀k j c,At py k j c->xk w c):qP B E w G h sz m (px++py):=by have g:∀b,bY b (px++py)->bY b px:=fun b a=>(BW a).resolve_right (f b);refine⟨fun e s=>(zaj.1 s).elim (F.len e) (hl e),fun k j c d=>?_,?_,fun hm n r q t p hn u b a=>F.ju hm n r q t p hn u b (g b a),fun hm b a=>F.live hm b (g b a),fun hm k c d=>(vP d).elim (fun h=>F.nr hm _ _ h.2) (fun h=>o _ _ _ h.2)⟩;rcases vP d with⟨_,h⟩|⟨_,h⟩;exact F.fF _ _ _ h;exact l _ _ _ h;have i:mz py:=⟨fun k j c d=>Sep.FV (fun b a=>f b ⟨k,j,c,d,a⟩) (l k j c d),fun k j c k' j' c' b d _ _ a=>absurd ⟨k,j,c,d,a⟩ (f b)⟩;have hm:=F.mode;cases m with|bn=>exact fun b a=>hm b (g b a)|bq=>exact⟨fun b a=>hm.1 b (g b a),QS hm.2 i (fun b _=>f b)⟩|live=>exact⟨fun b a=>hm.1 b (g b a),QS hm.2 i (fun b _=>f b)⟩
theorem qP.XZ (H:HR B E w G h used []) {n:Nat} {a:Bool} {m:Mode} {sz:Nat} {xs:List (List C)} (hn:h n=some (.row a m sz xs)) (t:m=.live->a=true):qP B E w G (bj h n none) sz m (G.g n).px:=by have hr:=H.row n a m sz xs hn;have p:(G.g n).px≠[]->(G.g n).nl=false:=fun l=>(by cases d:(G.g n).nl with|false=>rfl|true=>exact absurd (hr.nl d).1 l);refine⟨fun e f=>(hr.f0 (p (zaZ f))).2.1.1 e f,fun k j c s=>?_,hr.mode,fun hm q x v y u d z b o=>?_,fun hm b o q d hl=>?_,fun hm=>hr.nr (t hm) hm⟩;have l:(G.g n).px≠[]:=(by obtain⟨e,f,_⟩:=s;exact zaZ (co f));exact(hr.f0 (p l)).2.1.2.2 k j c s;obtain⟨i,r⟩:=vT d;exact H.ju n q a m sz xs x v y u hn i hm z (zaL r) b o;subst hm;obtain⟨i,r⟩:=HU d;exact H.live n a sz xs hn b o q i hl
theorem qP.del {m:Mode} {sz:Nat} {px:List (List PC)} (F:qP B E w G h sz m px) (n:Nat):qP B E w G (bj h n none) sz m px:= ⟨F.len,F.fF,F.mode,fun hm q f g d e a i=>F.ju hm q f g d e (vT a).1 i,fun hm b c q a=>F.live hm b c q (HU a).1,F.nr⟩
theorem qP.ZL {m:Mode} {sz:Nat} {px:List (List PC)} (F:qP B E w G h sz m px) (hm:m≠ .live):∀b,bY b px->G.Im b:=by intro b a;have:=F.mode;cases m with|bn=>exact this b a|bq=>exact(this.1 b a).1|live=>exact absurd rfl hm
def Cr (B:Nat) (E:Ex) (w:World) (G:Gh) (h:Nat->Option bf) (sz:Nat) (m:Mode) (px:List (List PC)) (v:Value):Prop:=
 (∃a,v=.slice a 0 0/\px=[])\/
 ∃b o cap cur e,v=.slice (some (ad b o)) px.length cap/\w.heap[b]? =some (.cells cur e (0,0))/\cur.size=o+cap*sz/\cap<=maxLen/\px.length<=cap/\tP w b o sz px/\
  uK G h b/\(B<=b\/E b)/\(∀b',bY b' px->b'≠b)
theorem Cr.del {m:Mode} {sz:Nat} {px:List (List PC)} {v:Value} (L:Cr B E w G h sz m px v) (n:Nat):Cr B E w G (bj h n none) sz m px v:=by rcases L with d|⟨b,o,cap,cur,e,j,s,k,c,p,f,⟨l1,l2,i⟩,l,g⟩;exact .inl d;exact .inr ⟨b,o,cap,cur,e,j,s,k,c,p,f,⟨l1,fun q a=>l2 q (HU a).1,fun q r m sz xs a=>i q r m sz xs (vT a).1⟩,l,g⟩
theorem Lf {px:List (List PC)} {sz:Nat} (hl:∀e∈px,e.length=sz):(px.flatten.map PC.val).length=px.length*sz:=by induction px with|nil=>simp|cons e px b=>have:=b (fun e a=>hl e (by simp[a]));simp only[zap,zay,zav,zar,IN,this,zan] at*;rw[hl e (by simp)];omega
theorem UT {α:Type} {sz:Nat} (g:0<sz):∀{px:List (List α)} (_:∀e∈px,e.length=sz) {i:Nat} {c:α},px.flatten[i]? =some c->∃k j,At px k j c/\i=k*sz+j
 |[],_,i,c,hi=>by simp at hi
 |e::px,hl,i,c,hi=>by have h0:=hl e (by simp);simp only[zap] at hi;rcases zbd i e.length with h|d;rw[By h] at hi;exact⟨0,i,⟨e,rfl,hi⟩,by omega⟩;rw[BY d] at hi;obtain⟨k,j,⟨f,a,b⟩,hk⟩:=UT g (px:=px) (fun e a=>hl e (by simp[a])) hi;exact⟨k+1,j,⟨f,by simpa using a,b⟩,by rw[IN];omega⟩
theorem azT {t ty e l:TypeId} {i:TypeInfo} (v:P.underlying t=some (.slice e)) (r:P.info? e=some i) (g f b h:Nat) (cur:Array Value) (q:w.heap[g]? =some (.cells cur l (0,0))) (a:Addr) (m c:Nat) (d:List Value) (hl:d.length=m*i.size) (y:∀j u,d[j]? =some u->w.cell? (a.add j)=some u) (o:∀u∈d,u.oneCell'=true) (x:b+m<=h) (n:f+b*i.size+d.length<=cur.size): (Builtin.append_ #[t,t] ty #[.slice (some (ad g f)) b h,.slice (some a) m c]).run P w=.ok (.slice (some (ad g f)) (b+m) h) (jD w g (f+b*i.size) d cur):=by have s:=run_firstCells_some (P:=P) w i.size m a m c d hl y;have k:=run_storeCells_at P g (f+b*i.size) l d 0 cur w q (by simpa using n) o;simp only[zaB] at k;have p:(ad g f).add (b*i.size)=⟨g,f+b*i.size,none⟩:=(by rw[xp];simp[ad]);simp[Builtin.append_,run_underlying v,sizeOf,typeInfo,r,Builtin.lenOf,x,s,p,k,jD]
theorem ai8 (w:World) {t e:TypeId} {i:TypeInfo} {z:Value} {ty:TypeId} {sz by_:Nat} (x:P.underlying t=some (.slice e)) (s:P.info? e=some i) (J:i.zero=some z) (p:i.size=sz) (kU:0<sz) (R:i.bytes=by_) (AW:0<by_) {m:Mode} {px:List (List PC)} {v:Value} (W:∀e∈px,e.length=sz) (L:Cr B E w G h sz m px v) {d:List Value} {k c:Nat} {ya:Option Addr} (n:d.length=k*sz) (hy:(ya=none/\k=0)\/∃l,ya=some l/\∀(j:Nat) (u:Value),d[j]? =some u->w.cell? (l.add j)=some u) (Y:∀u∈d,u.oneCell'=true) (C:(px.length+k)*by_<=eD): (∃a,k=0/\v=.slice a 0 0/\px=[]/\(Builtin.append_ #[t,t] ty #[v,.slice ya k c]).run P w=.ok (.slice a 0 0) w)\/ (∃b o cap cur H,v=.slice (some (ad b o)) px.length cap/\w.heap[b]? =some (.cells cur H (0,0))/\cur.size=o+cap*sz/\cap<=maxLen/\px.length+k<=cap/\tP w b o sz px/\uK G h b/\(B<=b\/E b)/\(∀T,bY T px->T≠b)/\ (Builtin.append_ #[t,t] ty #[v,.slice ya k c]).run P w=.ok (.slice (some (ad b o)) (px.length+k) cap) (jD w b (o+px.length*sz) d cur))\/ (∃(cap:Nat) (arr:Array Value),px.length+k<=cap/\cap<=maxLen/\arr.size=cap*z.cells.size+(px.length+k)*sz - (px.length+k)*z.cells.size/\(∀(q:Nat) (u:Value),(px.flatten.map PC.val++d)[q]? =some u->arr[q]? =some u)/\ (Builtin.append_ #[t,t] ty #[v,.slice ya k c]).run P w=.ok (.slice (some (ad w.heap.size 0)) (px.length+k) cap) (w.drew.alloc (.cells arr e))):=by have K:px.length+k<=eD:=zas (zau _ AW) C;have n9:(eD:Nat)=140737488355328:=rfl;have M:∀g,grownCap w (px.length+k) g e<=maxLen:=fun g=>grownCap_le_maxLen w _ g e (by simp only[maxLen];omega);have A:=Lf W;have I:∀g,((px.flatten.map PC.val).toArray++d.toArray++Builtin.zeroCells z.cells (grownCap w (px.length+k) g e - (px.length+k))).size=grownCap w (px.length+k) g e*z.cells.size+(px.length+k)*sz - (px.length+k)*z.cells.size:=(by intro g;have CW:=grownCap_ge w (px.length+k) g e;have h2:(px.length+k)*z.cells.size<=grownCap w (px.length+k) g e*z.cells.size:=GB _ CW;simp only[za2,zaF,size_zeroCells,A,n,Nat.sub_mul,IN] at*;omega);have Q:∀g (q:Nat) (u:Value),(px.flatten.map PC.val++d)[q]? =some u->((px.flatten.map PC.val).toArray++d.toArray++Builtin.zeroCells z.cells (grownCap w (px.length+k) g e - (px.length+k)))[q]? =some u:=(by intro g q u f;have Wp:=(AI.1 f).1;rw[Array.getElem?_append_left (by simp only[za2,zaF];simpa using Wp)];simpa using f);rcases L with⟨a,rfl,rfl⟩|⟨b,o,cap,cur,H,rfl,O,U,X,a5,S,a7,a8,Z⟩;by_cases V:k=0;subst V;left;have hn:d=[]:=AT (by simpa using n);refine⟨a,rfl,rfl,rfl,?_⟩;cases ya<;>cases a<;>simp[Builtin.append_,run_underlying x,sizeOf,typeInfo,s,Builtin.lenOf,Builtin.firstCells,loadCells,loadCellsFrom,storeCells];rcases hy with⟨_,h0⟩|⟨l,rfl,r⟩;exact absurd h0 V;right;right;(cases a with|none=>have hr:=run_append_nil (P:=P) w t ty e i z x s J l k c d (by rw[p];exact n) r (by omega) (by simp only[zaf,IT] at K;omega) (by rw[R];simp only[zaf,IT] at C;omega);have D:=I 0;have y:=Q 0;have F:=M 0;simp only[zaf,IT,za5,zaC,zam] at D y F⊢;exact⟨grownCap w k 0 e,d.toArray++Builtin.zeroCells z.cells (grownCap w k 0 e - k),grownCap_ge w k 0 e,F,by simpa using D,fun q u f=>by simpa using y q u f,hr⟩|some a=>have hr:=run_append_grow (P:=P) w t ty e i z x s J a 0 0 [] (by simp) (fun q u f=>by simp at f) l k c d (by rw[p];exact n) r (by omega) (by simp only[zaf,IT] at K;omega) (growslice_fits (by simp only[zaf,IT] at K;omega) (by rw[R,IT];rw[zaf,IT] at C;exact C));have D:=I 0;have y:=Q 0;have F:=M 0;simp only[zaf,IT,za5,zaC,zam] at D y F hr⊢;exact⟨_,_,grownCap_ge w k 0 e,F,by simpa using D,fun q u f=>by simpa using y q u f,hr⟩);by_cases N:px.length+k<=cap;right;left;refine⟨b,o,cap,cur,H,rfl,O,U,X,N,S,a7,a8,Z,?_⟩;rcases hy with⟨rfl,rfl⟩|⟨l,rfl,r⟩;have hn:d=[]:=AT (by simpa using n);subst hn;have Bm:jD w b (o+px.length*sz) [] cur=w:=(by unfold jD;simp only[za8,zaf,zaB,List.take_append_drop,Array.toArray_toList];exact setRow_self w b cur H (0,0) O);rw[Bm];simp[Builtin.append_,run_underlying x,sizeOf,typeInfo,s,Builtin.lenOf,Builtin.firstCells,a5,storeCells];have hr:=azT (P:=P) (w:=w) (ty:=ty) x s b o px.length cap cur O l k c d (by rw[p];exact n) r Y N (by rw[p,n,U,Pe,<-IN];exact zaU (GB _ N) _);rw[p] at hr;exact hr;rcases hy with⟨_,rfl⟩|⟨l,rfl,r⟩;omega;right;right;have hr:=run_append_grow (P:=P) w t ty e i z x s J (ad b o) px.length cap (px.flatten.map PC.val) (by rw[p];exact A) (fun q u f=>by rw[wt] at f;cases hf:px.flatten[q]? with|none=>rw[hf] at f;cases f|some pc=>rw[hf] at f;simp at f;subst f;obtain⟨k',j',rZ,rfl⟩:=UT kU W hf;rw[xp,<-Pe];exact S.2.1 k' j' pc rZ) l k c d (by rw[p];exact n) r (by omega) (by omega) (growslice_fits (by omega) (by rw[R];exact C));exact⟨_,_,grownCap_ge w _ _ _,M _,I _,Q _,hr⟩
def yJ (w:World) (sz:Nat) (py:List (List PC)) (v:Value):Prop:=
 (∀e∈py,e.length=sz)/\(∀k j c,At py k j c->Good w c)/\
 ∃ya c,v=.slice ya py.length c/\((ya=none/\py.length=0)\/∃ay,ya=some ay/\∀(j:Nat) (u:Value),(py.flatten.map PC.val)[j]? =some u->w.cell? (ay.add j)=some u)
theorem yJ.XY {sz:Nat} {ya:Option Addr} {c:Nat} {py:List (List PC)} (g:Good w (.list sz ya c py)):yJ w sz py (.slice ya py.length c):=by cases g with|nil _ _ _ h=>refine⟨by simp,by rintro k j c ⟨e,m,_⟩;simp at m,ya,c,rfl,?_⟩;(cases ya with|none=>exact .inl ⟨rfl,rfl⟩|some l=>exact .inr ⟨l,rfl,by simp⟩)|cons _ b o _ _ h1 h2 n d p i=>refine⟨d,i,_,c,rfl,.inr ⟨_,rfl,fun j u a=>?_⟩⟩;rw[wt] at a;cases hf:py.flatten[j]? with|none=>rw[hf] at a;cases a|some pc=>rw[hf] at a;simp at a;subst a;obtain⟨k',f,q,rfl⟩:=UT n d hf;rw[xp,<-Pe];exact p k' f pc q
theorem R.amO (r:R B E w0 N σ a w G) {σ2:St} (E8:σ2.env=σ.env) (S:σ2.used=σ.used) (H:HR B E w G σ2.h σ.used []) (K:cD w G σ.h (fun n=>σ.used n=true) w G σ2.h) {n:Nat} {sz by_:Nat} {m m2:Mode} {px py:List (List PC)} {v yv:Value} (hn:σ.used n=false) (kU:0<sz) (F:qP B E w G σ2.h sz m2 (px++py)) (jz:∀e∈px,e.length=sz) (L:Cr B E w G σ2.h sz m px v) (Ry:yJ w sz py yv) (oV:∀b,bY b py->∀b' o cap,0<cap->v=.slice (some (ad b' o)) px.length cap->uK G σ2.h b'->b≠b') {t e:TypeId} {i:TypeInfo} {z:Value} {ty:TypeId} (ht:P.underlying t=some (.slice e)) (M:P.info? e=some i) (hz:i.zero=some z) (du:i.size=sz) (rY:i.bytes=by_) (AW:0<by_) (Fs:z.cells.size=sz) (d:(px.length+py.length)*by_<=eD): ∃u w' G',(Builtin.append_ #[t,t] ty #[v,yv]).run P w=.ok u w'/\ R B E w0 N {σ2 with h:=bj σ2.h n (some (.row true m2 sz ((px++py).map fun e=>e.map PC.er))),used:=bj σ2.used n true} a w' G'/\ RA w' G' (bj σ2.h n (some (.row true m2 sz ((px++py).map fun e=>e.map PC.er)))) (.one (.sl n sz 0 (px.length+py.length))) u:=by obtain⟨V,r2,ya,c,rfl,r3⟩:=Ry;have bJ:(py.flatten.map PC.val).length=py.length*sz:=Lf V;have h1:∀u∈py.flatten.map PC.val,u.oneCell'=true:=fun u Y=>(by obtain⟨pc,_,rfl⟩:=zaa.1 Y;exact PC.mU pc);have hB:=r.fr.size;have LI:(px++py).length=px.length+py.length:=(by simp);have u9:σ2.h n=none:=(by cases hh:σ2.h n with|none=>rfl|some b=>have:=H.lP n (by rw[hh];simp);rw[hn] at this;cases this);have ne:∀q,σ.used q=true->q≠n:=fun q f e=>(by subst e;rw[hn] at f;cases f);have bk:∀q,σ2.h q≠none->q≠n:=fun q f e=>(by subst e;exact f u9);rcases ai8 (P:=P) w (ty:=ty) ht M hz du kU rY AW jz L bJ r3 h1 d with⟨a0,k0,rfl,rfl,U⟩|⟨b,I,cap,cur,e',rfl,O,b3,b4,b5,b6,Q,b8,b9,U⟩|⟨cap,arr,c1,c2,c3,c4,U⟩;have hpy:py=[]:=AT k0;subst hpy;refine⟨_,w,⟨G.Im,bj G.g n ⟨true,0,0,0,[],a0⟩⟩,U,?_,?_⟩;refine r.step (σ':=_) E8 (fun q f=>by show bj σ2.used n true q=true;rw[S];exact Ac n q f) (cD.trans (u2:=fun n=>σ.used n=true) (fun _ h=>h) K (cD.insert H (blk:=.row true m2 sz []) (p:=⟨true,0,0,0,[],a0⟩) hn (fun _ _=>rfl))) ?_ r.fr;show HR B E w _ (bj σ2.h n (some (.row true m2 sz []))) (bj σ2.used n true) [];rw[S];have dU:∀b,¬bY b ([]:List (List PC)):=(by rintro b ⟨k,j,c,⟨e,A,_⟩,_⟩;simp at A);refine H.insert (p:=⟨true,0,0,0,[],a0⟩) hn (fun _ _=>rfl) (zad _) (fun h=>by cases h) (fun cs c m d=>by cases d) ⟨kU,rfl,fun _=>⟨rfl,fun _=>rfl⟩,(fun h=>by cases h),(fun h=>by cases h),?_,fun _ hm=>by have:=F.nr hm;simpa using this⟩ (fun y m sz xs _ _ n' X m' J C _ _ b d=>absurd d (dU b)) (fun y sz xs _ b d=>absurd d (dU b)) (fun y m sz xs _ _ i pc b M=>by simp at M);have hm:=F.mode;simp only[za8] at hm;exact hm;refine RA.iR rfl fun _=>.inl ?_;simp[dD];have Z:(I+px.length*sz)+(py.flatten.map PC.val).length<=cur.size:=(by rw[bJ,b3,Pe,<-IN];exact zaU (GB _ b5) _);let D:=jD w b (I+px.length*sz) (py.flatten.map PC.val) cur;have fk:∀x,x≠b->D.heap[x]? =w.heap[x]? :=fun x hx=>Ej x hx;have E3:∀x,G.Im x->x≠b:=fun x hx A=>Q.1 (A▸hx);have t9:∀x,fD w x->fD D x:=fun x hx=>NI O Z x hx;have Wa:∀x,bY x (px++py)->x≠b:=fun x hx=>(BW hx).elim (b9 x) (fun h=>oV x h b I cap (by obtain⟨k,j,c,⟨e,A,_⟩,_⟩:=h;have:=(AI.1 A).1;omega) rfl Q);let p:PB:=⟨false,b,I,cap,px++py,none⟩;have K2:cD w G σ2.h (fun n=>σ.used n=true) D ⟨G.Im,bj G.g n p⟩ (bj σ2.h n (some (.row true m2 sz ((px++py).map fun e=>e.map PC.er)))):=(by refine⟨fun _ h=>h,fun x hx o=>ku (fk x (E3 x hx)) o,fun q f l=>?_,fun q y J C f l=>?_⟩;rw[dZ _ _ _ _ (ne q f)] at l;simp only[dZ _ _ _ _ (ne q f)];exact⟨l,trivial,trivial,trivial,trivial,trivial⟩;rw[dZ _ _ _ _ (ne q f)] at l;simp only[dZ _ _ _ _ (ne q f)];exact⟨⟨y,C,l⟩,fun k j pc h1 h2=>⟨pc,h1,rfl,h2⟩⟩);have aqR:b<w.heap.size:=(zaq.1 O).1;have Hn:HR B E D ⟨G.Im,bj G.g n p⟩ (bj σ2.h n (some (.row true m2 sz ((px++py).map fun e=>e.map PC.er)))) (bj σ.used n true) []:=(by refine H.put (p:=p) (fun x _ hx=>fk x (hx rfl)) (by show w.heap.size<=D.heap.size;rw[vF];exact zad _) (fun x _ hx=>t9 x hx) (fun q f=>Ac n q f) (dD _ _ _) (fun _=>⟨Q.1,b8,by show b<D.heap.size;rw[vF];exact aqR⟩) (fun _ q f l hl=>Q.2.1 q l hl) (fun _ q y J C f l x hx A=>Q.2.2 q y .live J C l (by have It:x=b:=A;rw[<-It];exact hx)) (fun cs c q d=>by cases d) K2 ?_ ?_ ?_ (fun y m sz xs _ _ i pc b M=>by simp at M) (fun _ _ x hx A=>by obtain⟨q,y,W,J,C,_,l,hxF⟩:=hx;exact Q.2.2 q y W J C l (by have It:x=b:=A;rw[<-It];exact hxF));refine⟨kU,rfl,(fun h=>by cases h),fun _=>⟨t9 b ⟨cur,e',O⟩,⟨F.len,fun k j c s=>?_,fun k j c s=>?_⟩,by show(px++py).length<=cap;rw[LI];exact b5⟩,fun _ _=>?_,?_,fun _ hm=>(F.nr hm).congr fun x hx=>fk x (Wa x hx)⟩;show D.cell? (ad b (I+k*sz+j))=some c.val;rw[Ei O Z];have T:=xq F.len s;rw[zaV] at T;have m5:px.flatten.length=px.length*sz:=(by have:=Lf jz;rwa[zan] at this);rcases vP s with⟨oT,cI⟩|⟨oT,cI⟩;rw[ak ?_];exact b6.2.1 k j c cI;rintro⟨q1,_⟩;have hj:j<sz:=(by obtain⟨e1,A,hj⟩:=cI;rw[<-jz e1 (co A)];exact(AI.1 hj).1);have:(k+1)*sz<=px.length*sz:=GB _ oT;rw[IN] at this;omega;have CW:px.length*sz<=k*sz+j:=zas (GB _ oT) (Nat.le_add_right _ _);have cF:=(AI.1 T).1;rw[zav,m5] at cF;rw[BY (by rw[m5];exact CW),m5] at T;rw[aj ⟨by omega,by simp only[zan];omega⟩];rw[wt,show I+k*sz+j - (I+px.length*sz)=k*sz+j - px.length*sz by omega,T];rfl;exact(F.fF k j c s).congr fun x hx o=>ku (fk x (Wa x ⟨k,j,c,s,hx⟩)) o;obtain⟨mE,q1,q2⟩:=Kj (vs:=py.flatten.map PC.val) (o:=I+px.length*sz) O Z;exact⟨b4,mE,e',q1,by rw[q2,b3]⟩;have hm:=F.mode;(cases m2 with|bn=>exact hm|bq=>exact⟨fun x hx=>⟨(hm.1 x hx).1,t9 x (hm.1 x hx).2.1,(hm.1 x hx).2.2⟩,hm.2⟩|live=>exact⟨fun x hx=>⟨(hm.1 x hx).1,t9 x (hm.1 x hx).2.1,(hm.1 x hx).2.2⟩,hm.2⟩);intro y m' J C d n9 q X W qN mV jK l lS x hx;injection d with _ d _ _;subst d;exact F.ju n9 q X W qN mV l lS x hx;intro y J C d x hx;injection d with _ d _ _;exact⟨fun _=>Wa x hx,fun q _ l hl=>F.live d x hx q l hl⟩);refine⟨_,D,⟨G.Im,bj G.g n p⟩,U,?_,?_⟩;exact r.step (σ':=_) E8 (fun q f=>by show bj σ2.used n true q=true;rw[S];exact Ac n q f) (cD.trans (u2:=fun n=>σ.used n=true) (fun _ h=>h) K K2) (by show HR B E D _ _ (bj σ2.used n true) [];rw[S];exact Hn) (r.fr.one b8 (fun x hx C9=>fk x C9) (by show w.heap.size<=D.heap.size;rw[vF];exact zad _) (Gx O Z) rfl rfl rfl);refine RA.iR rfl fun _=>.inr ⟨by simp[dD,p],some (ad b I),?_,?_,?_⟩;simp[dD,p];simp[dD,p];exact b5;simp[dD,p];let w1:=w.drew;have hd:∀x:Nat,x<w.heap.size->(w.drew.alloc (.cells arr e)).heap[x]? =w.heap[x]? :=fun x hx=>heap_alloc_old w.drew _ x hx;have H1:HR B E w.drew G σ2.h σ.used []:=H.grow (w':=w.drew) (fun _ _=>rfl) (zad _);have V:R B E w0 N σ a w.drew G:=r.step (w':=w.drew) rfl (fun _ h=>h) (cD.world (w:=w) (w':=w.drew) (fun _ _=>rfl) _) (r.hr.grow (w':=w.drew) (fun _ _=>rfl) (zad _)) (r.fr.grow (w':=w.drew) (fun _ _=>rfl) (zad _) rfl rfl rfl);have K1:cD w.drew G σ.h (fun n=>σ.used n=true) w.drew G σ2.h:=⟨K.im,fun _ _ _=>rfl,K.name,K.live⟩;have iK:∀k j c,At (px++py) k j c->Good w.drew c:=fun k j c s=>(F.fF k j c s).congr fun _ _ _=>rfl;have AV:∀k j c,At (px++py) k j c->arr[k*sz+j]? =some c.val:=fun k j c s=>(by have T:=xq F.len s;refine c4 _ _ ?_;rw[<-zay,<-zaV,wt,T];rfl);have qp:arr.size=cap*sz:=(by rw[c3,Fs];omega);have hB2:=V.fr.size;let p:PB:=⟨false,w.heap.size,0,cap,px++py,none⟩;have hw:∀x:Nat,x<w.drew.heap.size->(w.drew.alloc (.cells arr e)).heap[x]? =w.drew.heap[x]? :=hd;have Hn:HR B E (w.drew.alloc (.cells arr e)) ⟨G.Im,bj G.g n p⟩ (bj σ2.h n (some (.row true m2 sz ((px++py).map fun e=>e.map PC.er)))) (bj σ.used n true) []:=(by refine H1.insert (p:=p) hn hw (by simp) (fun _=>⟨H1.XD,.inl hB,by simp[p]⟩) (fun cs c m d=>by cases d) ?_ ?_ ?_ (fun y m sz xs _ _ i pc b M=>by simp at M);refine⟨kU,rfl,(fun h=>by cases h),fun _=>⟨fD.alloc _ _ _,⟨F.len,fun k j c s=>?_,fun k j c s=>?_⟩,by show(px++py).length<=cap;rw[LI];exact c1⟩,fun _ _=>⟨c2,arr,e,heap_alloc_new w.drew _,(IT _).symm▸qp⟩,?_,fun _ hm=>(F.nr hm).congr fun x hx=>by obtain⟨k,j,c,s,WG⟩:=hx;exact hd x ((F.fF k j c s).lt WG)⟩;show(w.drew.alloc (.cells arr e)).cell? (ad w.drew.heap.size (0+k*sz+j))=some c.val;simp only[IT];unfold ad;rw[World.cell?_alloc_new];exact AV k j c s;exact(iK k j c s).congr fun x hx o=>ku (hw x ((iK k j c s).lt hx)) o;have hm:=F.mode;have Y:∀x,fD w x->fD (w.drew.alloc (.cells arr e)) x:=fun x hx=>hx.congr (hd x hx.lt);(cases m2 with|bn=>exact hm|bq=>exact⟨fun x hx=>⟨(hm.1 x hx).1,Y x (hm.1 x hx).2.1,(hm.1 x hx).2.2⟩,hm.2⟩|live=>exact⟨fun x hx=>⟨(hm.1 x hx).1,Y x (hm.1 x hx).2.1,(hm.1 x hx).2.2⟩,hm.2⟩);intro y m' J C d n9 q X W qN mV l lS x hx;injection d with _ d _ _;subst d;exact F.ju n9 q X W qN mV l lS x hx;intro y J C d x hx;injection d with _ d _ _;refine⟨fun _=>?_,fun q l hl=>F.live d x hx q l hl⟩;obtain⟨k,j,c,s,WG⟩:=hx;have:=(F.fF k j c s).lt WG;show x≠w.heap.size;omega);refine⟨_,_,⟨G.Im,bj G.g n p⟩,U,?_,?_⟩;exact V.step (σ':=_) E8 (fun q f=>by show bj σ2.used n true q=true;rw[S];exact Ac n q f) (cD.trans (u2:=fun n=>σ.used n=true) (fun _ h=>h) K1 (cD.insert H1 hn hw)) (by show HR B E _ _ _ (bj σ2.used n true) [];rw[S];exact Hn) (V.fr.grow hw (by simp) rfl rfl rfl);refine RA.iR rfl fun _=>.inr ⟨by simp[dD,p],some (ad w.heap.size 0),?_,?_,?_⟩;simp[dD,p];simp[dD,p];exact c1;simp[dD,p]
theorem avq (r:R B E w0 N σ a w G) {sz:Nat} {x:aE} {v:Value} {xs:List (List C)} {m:Mode} {σ1:St} (D:RA w G σ.h x v) (hx:yN σ sz x=some (xs,m,σ1)): ∃px:List (List PC),xs=px.map (fun e=>e.map PC.er)/\qP B E w G σ1.h sz m px/\Cr B E w G σ1.h sz m px v/\HR B E w G σ1.h σ.used []/\cD w G σ.h (fun n=>σ.used n=true) w G σ1.h/\σ1.env=σ.env/\σ1.used=σ.used/\ (∀n b,σ1.h n=some b->σ.h n=some b):=by unfold yN at hx;split at hx;rename_i s;injection hx with hx;injection hx with z l;injection l with l h3;subst z l h3;have p:v=.slice none 0 0:=(D.jR (by simp)).1;have A:∀b,¬bY b ([]:List (List PC)):=(by rintro b ⟨k,j,c,⟨e,i,_⟩,_⟩;simp at i);exact⟨[],rfl,⟨by simp,by rintro k j c ⟨e,i,_⟩;simp at i,⟨fun b f=>absurd f (A b),(by rintro k j c ⟨e,i,_⟩;simp at i),(by rintro k j c k' j' c' b ⟨e,i,_⟩;simp at i)⟩,fun _ _ _ _ _ _ _ _ b f=>absurd f (A b),fun _ b f=>absurd f (A b),fun h=>by cases h⟩, .inl ⟨none,p,rfl⟩,r.hr,cD.refl _ _ _ _,rfl,rfl,fun _ _ h=>h⟩;rename_i n s len;split at hx;rename_i W rs y hn;split at hx;rename_i I;obtain⟨rfl,rfl,rfl⟩:=I;injection hx with hx;injection hx with z l;injection l with l h3;subst z l h3;have H:=r.hr;have t:σ.h n≠none:=(by rw[hn];simp);have hr:=H.row n true W s y hn;have X:lL (G.g n) s 0 y.length v:=(D.jR (by simp)).1 t;have J:y.length=(G.g n).px.length:=(by rw[hr.er];simp);refine⟨(G.g n).px,hr.er,qP.XZ H hn (fun _=>rfl),?_,H.del n,cD.del n _,rfl,rfl,fun q b u=>(vT u).1⟩;rcases X with⟨d,p,_,_⟩|⟨d,a',p,kJ,Q⟩;have V:=(hr.nl d).2 rfl;exact .inl ⟨(G.g n).na,by rw[p,V],(hr.nl d).1⟩;right;obtain⟨P,cur,e,L,F⟩:=hr.room d rfl;obtain⟨l1,l2,K⟩:=hr.f0 d;obtain⟨M,U,o3⟩:=H.own n t d;have O:=Q (.inr rfl);refine⟨(G.g n).b,(G.g n).o,(G.g n).cap,cur,e,?_,L,F,P,K,l2,⟨M,fun q u hl=>?_,fun q gr m' bw aP u f=>?_⟩,U,fun b f=>H.y5 t d hn f⟩;rw[p,O,J];simp;obtain⟨S,T⟩:=HU u;exact H.inj q n S t T hl d;exact H.y5 t d (vT u).1 f rfl;cases hx;cases hx;cases hx
theorem azE {fl:Bool} {sz:Nat} {x:aE} {v:Value} {ys:List (List C)} {m m2:Mode} {σ1 σ2:St} {px:List (List PC)} (kU:0<sz) (H:HR B E w G σ1.h σ1.used []) (F:qP B E w G σ1.h sz m px) (R:RA w G σ1.h x v) (hx:sO fl σ1 sz m x=some (ys,m2,σ2)): ∃py:List (List PC),ys=py.map (fun e=>e.map PC.er)/\yJ w sz py v/\qP B E w G σ2.h sz m2 (px++py)/\HR B E w G σ2.h σ1.used []/\cD w G σ1.h (fun n=>σ1.used n=true) w G σ2.h/\σ2.env=σ1.env/\σ2.used=σ1.used/\ (∀n b,σ2.h n=some b->σ1.h n=some b)/\(∀b,bY b py->∀i,¬G.Im i->(∀q o z D y,σ1.h q=some (.row o z D y)->¬bY i (G.g q).px)->b≠i):=by unfold sO at hx;have T:∀b,¬bY b ([]:List (List PC)):=(by rintro b ⟨k,j,c,⟨e,p,_⟩,_⟩;simp at p);split at hx;rename_i s;injection hx with hx;injection hx with l d;injection d with d h3;subst l d h3;have jM:v=.slice none 0 0:=(R.jR (by simp)).1;subst jM;exact⟨[],rfl,⟨by simp,by rintro k j c ⟨e,p,_⟩;simp at p,none,0,rfl,.inl ⟨rfl,rfl⟩⟩,by simpa using F,H,cD.refl _ _ _ _,rfl,rfl,fun _ _ h=>h,fun b a=>absurd a (T b)⟩;rename_i s t;split at hx;rename_i hs;subst hs;obtain⟨pc,L,e2,e3,e4⟩:=R.c;have cA:∃ya c py,pc=.list s ya c py/\py.map (fun e=>e.map PC.er)=t:=(by cases pc with|int k n=>simp[PC.er] at L|bool b=>simp[PC.er] at L|list s' ya c py=>rw[PC.fx] at L;injection L with L M;subst L;exact⟨ya,c,py,rfl,M⟩);obtain⟨ya,c,py,rfl,M⟩:=cA;have f:yJ w s py v:=(by rw[<-e2];exact yJ.XY e3);have ql:∀b,bY b py->G.Im b:=fun b ⟨k,j,c,r,a⟩=>e4 b (.there _ _ _ _ k j c r a);have J:∀b,bY b py->∀i,¬G.Im i->(∀q o z D y,σ1.h q=some (.row o z D y)->¬bY i (G.g q).px)->b≠i:=fun b a i S _ p=>S (p▸ql b a);split at hx;rename_i I;injection hx with hx;injection hx with l d;injection d with d h3;subst l d h3;replace I:=(zag _ _▸I).2;rw[<-M] at I;exact⟨py,M.symm,f,F.aaK f.1 f.2.1 (D0 I) (akU I),H,cD.refl _ _ _ _,rfl,rfl,fun _ _ h=>h,J⟩;split at hx;cases hx;rename_i wk;injection hx with hx;injection hx with l d;injection d with d h3;subst l d h3;refine⟨py,M.symm,f,⟨fun e p=>(zaj.1 p).elim (F.len e) (f.1 e),fun k j c r=>?_,fun b a=>(BW a).elim (F.ZL wk b) (ql b),fun h=>absurd rfl h,(fun h=>by cases h),fun h=>by cases h⟩,H,cD.refl _ _ _ _,rfl,rfl,fun _ _ h=>h,J⟩;rcases vP r with⟨_,h⟩|⟨_,h⟩;exact F.fF _ _ _ h;exact f.2.1 _ _ _ h;cases hx;rename_i n s lo len;split at hx;rename_i o m' rs t hn;split at hx;rename_i hc;obtain⟨rfl,rfl,hl⟩:=hc;have cY:σ1.h n≠none:=(by rw[hn];simp);have hr:=H.row n o m' s t hn;have lB:lL (G.g n) s lo len v:=(R.jR (by simp)).1 cY;obtain⟨N,q2,X,q4⟩:=Np hr lB hl;have V:∃ya c,oI (G.g n) s lo len v=.list s ya c (((G.g n).px.drop lo).take len):=(by rcases lB with⟨_,rfl,_,_⟩|⟨_,a',rfl,_,_⟩<;>exact⟨_,_,rfl⟩);obtain⟨ya,c,V⟩:=V;rw[V] at N q2 X q4;have f:yJ w s (((G.g n).px.drop lo).take len) v:=(by rw[<-q2];exact yJ.XY X);have ua:(t.drop lo).take len=(((G.g n).px.drop lo).take len).map (fun e=>e.map PC.er):=(by rw[PC.fx] at N;injection N with _ N;exact N.symm);have J:∀b,bY b (((G.g n).px.drop lo).take len)->∀i,¬G.Im i->(∀q o z D y,σ1.h q=some (.row o z D y)->¬bY i (G.g q).px)->b≠i:=(by rintro b ⟨k,j,c,r,a⟩ i _ S rfl;exact S n o m' s t hn ⟨_,_,_,(uR r).1,a⟩);split at hx;rename_i I;injection hx with hx;injection hx with l d;injection d with d h3;subst l d h3;have Q:=(zag _ _▸I).2;rw[ua] at Q;exact⟨_,ua,f,F.aaK f.1 f.2.1 (D0 Q) (akU Q),H,cD.refl _ _ _ _,rfl,rfl,fun _ _ h=>h,J⟩;split at hx;rename_i P;obtain⟨rfl,rfl⟩:=P;have kj:((G.g n).px.drop 0).take t.length=(G.g n).px:=(by have:t.length=(G.g n).px.length:=(by rw[hr.er];simp);rw[this];simp);rw[kj] at f J;have Z:=F.del n;have Y:∀k j c,At (px++(G.g n).px) k j c->Good w c:=fun k j c r=>(by rcases vP r with⟨_,h⟩|⟨_,h⟩;exact F.fF _ _ _ h;exact f.2.1 _ _ _ h);have A:∀e∈px++(G.g n).px,e.length=s:=fun e p=>(zaj.1 p).elim (F.len e) (f.1 e);split at hx;rename_i U;obtain⟨U,LC⟩:=U;subst U;have K:=qP.XZ H hn LC;injection hx with hx;injection hx with l d;injection d with d h3;subst l d h3;refine⟨(G.g n).px,hr.er,f,⟨A,Y,?_,fun hm q cv z D y u lS b a=>?_,fun hm b a q u hl=>?_,fun hm k c r=>(vP r).elim (fun h=>F.nr hm _ _ h.2) (fun h=>K.nr hm _ _ h.2)⟩,H.del n,cD.del n _,rfl,rfl,fun q b u=>(vT u).1,J⟩;have m1:=F.mode;have O:=K.mode;(cases m with|bn=>exact fun b a=>(BW a).elim (m1 b) (O b)|bq=>exact⟨fun b a=>(BW a).elim (m1.1 b) (O.1 b),QS m1.2 O.2 (fun b a=>F.ju (by simp) n o .bq s t hn (by simp) b a)⟩|live=>exact⟨fun b a=>(BW a).elim (m1.1 b) (O.1 b),QS m1.2 O.2 (fun b a=>F.ju (by simp) n o .live s t hn (by simp) b a)⟩);exact(BW a).elim (Z.ju hm q cv z D y u lS b) (K.ju hm q cv z D y u lS b);exact(BW a).elim (fun h=>Z.live hm b h q u hl) (fun h=>K.live hm b h q u hl);split at hx;cases hx;rename_i W;have K:=qP.XZ H hn (fun h=>absurd (.inr h) W);injection hx with hx;injection hx with l d;injection d with d h3;subst l d h3;refine⟨(G.g n).px,hr.er,f,⟨A,Y,fun b a=>(BW a).elim (F.ZL (fun h=>W (.inl h)) b) (K.ZL (fun h=>W (.inr h)) b),fun h=>absurd rfl h,(fun h=>by cases h),fun h=>by cases h⟩,H.del n,cD.del n _,rfl,rfl,fun q b u=>(vT u).1,J⟩;cases hx;cases hx;cases hx;cases hx
theorem aon (r:R B E w0 N σ a w G) {n:Nat} {t e:TypeId} {i:TypeInfo} {z:Value} {x y:Operand} {mx my:MO} {fl:Bool} {sz by_:Nat} {xs ys:List (List C)} {m m2:Mode} {σ1 σ2 D:St} (ho:o.op=.call {callee:=.builtin .append,args:=#[x,y],argTypes:=#[t,t]}) (hd:o.dst=some n) (hN:n<N) (jw:dC x mx=true) (jV:dC y my=true) (ht:P.underlying t=some (.slice e)) (hi:P.info? e=some i) (hz:i.zero=some z) (du:i.size=sz) (kU:0<sz) (rY:i.bytes=by_) (AW:0<by_) (Fs:z.cells.size=sz) (hl:yN σ sz (σ.ev mx)=some (xs,m,σ1)) (hr:sO fl σ1 sz m (σ.ev my)=some (ys,m2,σ2)) (hb:(xs.length+ys.length)*by_<=eD) (hx:σ2.ins n (.row true m2 sz (xs++ys))=some D): o.wp P a w (Nx B E w0 N (D.put o.dst (.one (.sl n sz 0 (xs.length+ys.length))))) Q:=by obtain⟨hn,rfl⟩:=ui hx;obtain⟨x1,x2⟩:=r.ev jw;obtain⟨y1,y2⟩:=r.ev jV;obtain⟨px,W,M,J,L,U,q1,f,q3⟩:=avq r x1 hl;have g:RA w G σ1.h (σ.ev my) (a.eval y):=y1.keep U y2;rw[<-f] at L;obtain⟨py,Z,R2,F2,S,K2,p1,H,K,u7⟩:=azE kU L M g hr;rw[f] at S;have p:xs.length=px.length:=(by rw[W];simp);have I:ys.length=py.length:=(by rw[Z];simp);have L2:Cr B E w G σ2.h sz m px (a.eval x):=(by rcases J with h|⟨b,o,cap,cur,Y,k,s,F,T,A,V,⟨l1,l2,l⟩,b8,X⟩;exact .inl h;refine .inr ⟨b,o,cap,cur,Y,k,s,F,T,A,V,⟨l1,fun q c=>?_,fun q gr mo bw aP c=>l q gr mo bw aP (K q _ c)⟩,b8,X⟩;cases hh:σ2.h q with|none=>exact absurd hh c|some bb=>exact l2 q (by rw[K q bb hh];simp));obtain⟨u,w',G',de,O,j⟩:=r.amO (P:=P) (σ2:=σ2) (n:=n) (m:=m) (m2:=m2) (px:=px) (py:=py) (ty:=o.type) (p1.trans q1) (H.trans f) S (cD.trans (u2:=fun n=>σ1.used n=true) (fun q c=>by rw[f];exact c) U K2) (by rw[<-f,<-H];exact hn) kU F2 M.len L2 R2 (fun b eW b' o' cap fj d aei=>by rcases J with⟨_,h,_⟩|⟨b0,o0,Oj,cur,Y,k,s,F,T,A,V,⟨l1,l2,l⟩,b8,X⟩;rw[h] at d;injection d with _ _ d;omega;rw[k] at d;injection d with d;injection d with d;have Ip:=(pF d).1;subst Ip;exact u7 b eW b0 l1 l) ht hi hz du rY AW Fs (by rw[<-p,<-I];exact hb);have V8:(px++py).map (fun e=>e.map PC.er)=xs++ys:=(by rw[zay,<-W,<-Z]);rw[V8] at O j;rw[<-p,<-I] at j;refine w9 (v:=u) (w':=w') ?_ ⟨G',O.put j (fun q c=>by have gn:q=n:=c;subst gn;exact dD _ _ _) (fun q c=>by rw[hd] at c;injection c with c;omega)⟩;simp[execOp,ho,resolve,invoke,builtin,de]
end
section
variable {B:Nat} {E:Ex} {w0 w w':World} {G G':Gh} {h h':Nat->Option bf} {used used':Nat->Bool} {tk:List PC} {N:Nat}
variable {P:Program} {o:Oper} {a:Act} {σ σ':St} {Q:Exit->Act->World->Prop}
theorem P1 {n:Nat} (a:(h n).isSome=true):h n≠none:=by intro b;rw[b] at a;cases a
theorem JJ {t e:TypeId} {i:TypeInfo} {sz b off len cap:Nat} {h:IntKind} {q:Int} (a:P.underlying t=some (.slice e)) (g:P.info? e=some i) (c:i.size=sz) (f:0<=q) (d:q<len): (Instr.indexAt t (.slice (some (ad b off)) len cap) (.int h q)).run P w=.ok (.pointer (some (ad b (off+q.toNat*sz)))) w:=by simp[Instr.indexAt,run_underlying a,asIntOf,f,d,sizeOf,typeInfo,g,c,xp]
theorem ab0 (r:R B E w0 N σ a w G) {t e:TypeId} {i:TypeInfo} {x y:Operand} {mx my:MO} {sz:Nat} {q:Int} {z:aE} (A:o.op=.indexAddr t x y) (F:∀n,o.dst=some n->n<N) (O:dC x mx=true) (S:dC y my=true) (M:P.underlying t=some (.slice e)) (J:P.info? e=some i) (I:i.size=sz) (hq:(σ.ev my).fZ=some q) (D:0<=q) (hz:(∃n lo len,σ.ev mx=.one (.sl n sz lo len)/\q<(len:Int)/\(σ.h n).isSome=true/\z=.one (.ptr n (lo+q.toNat) sz 0))\/(∃xs p,σ.ev mx=.one (.c (.list sz xs))/\xs[q.toNat]? =some p/\z=.one (.eU p 0))): o.wp P a w (Nx B E w0 N (σ.put o.dst z)) Q:=by obtain⟨f,C⟩:=r.ev O;obtain⟨kk,K⟩:=(r.ev S).1.int hq;rcases hz with⟨n,lo,len,s,d,T,rfl⟩|⟨xs,p,s,d,rfl⟩;rw[s] at f C;have lB:lL (G.g n) sz lo len (a.eval x):=(f.jR (by simp)).1 (P1 T);rcases lB with⟨_,_,_,hl⟩|⟨bJ,a',hv,kJ,ha⟩;omega;have Z:=ha (.inl (by omega));subst Z;refine ny r (v:=.pointer (some (ad (G.g n).b ((G.g n).o+lo*sz+q.toNat*sz)))) ?_ ?_ (fun m hm=>C m hm) F;simp only[execOp,A,hv,K];simp[JJ M J I D d];exact RA.iR rfl fun _=>⟨bJ,by rw[IN];congr 3;omega⟩;rw[s] at f;obtain⟨pc,p1,X,p3,p4⟩:=f.c;cases pc with|int k n=>simp[PC.er] at p1|bool b=>simp[PC.er] at p1|list H ya c py=>rw[PC.fx] at p1;injection p1 with p0 p1;subst p0;have Y:∃pe,py[q.toNat]? =some pe/\pe.map PC.er=p:=(by rw[<-p1,wt] at d;cases hp:py[q.toNat]? with|none=>rw[hp] at d;cases d|some pe=>rw[hp] at d;simp at d;exact⟨pe,rfl,d⟩);obtain⟨pe,l,U⟩:=Y;have cF:q.toNat<py.length:=(AI.1 l).1;cases p3 with|nil _ _ _ _=>simp at cF|cons _ b L _ _ g1 g2 g3 g4 g5 g6=>have V:q<(py.length:Int):=(by omega);refine ny r (v:=.pointer (some (ad b (L+q.toNat*H)))) ?_ ?_ (fun m hm=>absurd hm (by simp[aE.ref,ar.ref,ar.lf])) F;simp only[execOp,A,<-X,PC.val,K];simp[JJ M J I D V];refine RA.iR rfl ⟨b,L+q.toNat*H,pe,by simp,U,p4 b (.here _ _ _ _ g1),fun j c u=>?_⟩;exact⟨g5 _ _ _ ⟨pe,l,u⟩,g6 _ _ _ ⟨pe,l,u⟩,fun W bD=>p4 W (.there _ _ _ _ _ _ c ⟨pe,l,u⟩ bD)⟩
theorem O0 (r:R B E w0 N σ a w G) {t e:TypeId} {x:Operand} {mx:MO} {len:Nat} (y:o.op=.call {callee:=.builtin .len,args:=#[x],argTypes:=#[t]}) (D:∀n,o.dst=some n->n<N) (hm:dC x mx=true) (H:P.underlying t=some (.slice e)) (C:(∃n sz lo,σ.ev mx=.one (.sl n sz lo len)/\(σ.h n).isSome=true)\/(∃sz xs,σ.ev mx=.one (.c (.list sz xs))/\len=xs.length)\/(∃sz,σ.ev mx=.one (.nil sz)/\len=0)\/ (∃n k m off sz l s ys,σ.ev mx=.one (.cG n k m off sz l)/\eA σ.h (.cG n k m off sz l)=some (.list s ys)/\len=ys.length)): o.wp P a w (Nx B E w0 N (σ.put o.dst (.one (.c (.int .i64 len))))) Q:=by obtain⟨d,x2⟩:=r.ev hm;have i:∃p c,a.eval x=.slice p len c:=(by rcases C with⟨n,sz,lo,f,z⟩|⟨sz,xs,f,rfl⟩|⟨sz,f,rfl⟩|⟨n,k,m,off,sz,l,s,ys,f,A,rfl⟩;rw[f] at d;have J:lL (G.g n) sz lo len (a.eval x):=(d.jR (by simp)).1 (P1 z);rcases J with⟨_,i,_,rfl⟩|⟨_,p,i,_,_⟩;exact⟨_,_,i⟩;exact⟨_,_,i⟩;rw[f] at d;obtain⟨pc,p1,j,_⟩:=d.c;(cases pc with|int k n=>simp[PC.er] at p1|bool b=>simp[PC.er] at p1|list F ya c py=>rw[PC.fx] at p1;injection p1 with _ p1;refine⟨ya,c,?_⟩;rw[<-j,<-p1];simp[PC.val]);rw[f] at d;have u:a.eval x=.slice none 0 0:=(d.jR (by simp)).1;exact⟨_,_,u⟩;rw[f] at d;obtain⟨pc,p1,j,_⟩:=r.hr.eA A (d.jR (by simp)).1;cases pc with|int k n=>simp[PC.er] at p1|bool b=>simp[PC.er] at p1|list F ya c py=>rw[PC.fx] at p1;injection p1 with _ p1;refine⟨ya,c,?_⟩;rw[<-j,<-p1];simp[PC.val]);obtain⟨p,c,i⟩:=i;refine ny r (v:=.int .i64 len) ?_ (RA.of_int _ _) (fun q I=>absurd I BO) D;simp[execOp,y,resolve,invoke,builtin,i,Builtin.len_,run_underlying H,goInt]
theorem YH {t e:TypeId} {i:TypeInfo} {sz:Nat} {ya:Option Addr} {len cap:Nat} {lo b:Option Value} {l a:Int} (o:P.underlying t=some (.slice e)) (n:P.info? e=some i) (m:i.size=sz) (h:(lo=none/\l=0)\/∃k,lo=some (.int k l)) (j:(b=none/\a=len)\/∃k,b=some (.int k a)) (g:0<=l) (d:l<=a) (h2:a<=len) (h3:len<=cap): (Instr.sliceAt t (.slice ya len cap) lo b none).run P w=.ok (.slice (if cap=l.toNat then ya else ya.map (·.add (l.toNat*sz))) (a - l).toNat (cap - l.toNat)) w:=by have c:(a.toNat:Int)=a:=zaS (by omega);have q:(a - l).toNat=a.toNat - l.toNat:=(by omega);have f:a<=(cap:Int):=(by omega);have p:0<=a:=(by omega);rcases h with⟨rfl,rfl⟩|⟨k,rfl⟩<;>rcases j with⟨rfl,rfl⟩|⟨k',rfl⟩<;> simp[Instr.sliceAt,Instr.slice,run_underlying o,Instr.sliceBounds,Instr.sliceBound,asIntOf,sizeOf,typeInfo,n,m,g,d,f,p,c,q]<;>omega
theorem ab5 (r:R B E w0 N σ a w G) {t e:TypeId} {i:TypeInfo} {x:Operand} {lo D:Option Operand} {mx:MO} {sz:Nat} {l d:Int} {z:aE} (Z:o.op=.slice t x lo D none) (hN:∀n,o.dst=some n->n<N) (jw:dC x mx=true)
  (X:P.underlying t=some (.slice e)) (V:P.info? e=some i) (U:i.size=sz) (kU:0<sz) {len:Nat}
  (oU:(lo=none/\l=0)\/∃y my,lo=some y/\dC y my=true/\(σ.ev my).fZ=some l) (A9:(D=none/\d=len)\/∃y my,D=some y/\dC y my=true/\(σ.ev my).fZ=some d)
  (S:0<=l) (h1:l<=d) (W:d<=len)
  (F:(∃n s,σ.ev mx=.one (.sl n sz s len)/\(σ.h n).isSome=true/\z=.one (.sl n sz (s+l.toNat) (d - l).toNat))\/(∃xs,σ.ev mx=.one (.c (.list sz xs))/\len=xs.length/\z=.one (.c (.list sz ((xs.drop l.toNat).take (d - l).toNat))))):
  o.wp P a w (Nx B E w0 N (σ.put o.dst z)) Q:=by
 obtain⟨L,x2⟩:=r.ev jw;have V6:(lo.map a.eval=none/\l=0)\/∃k,lo.map a.eval=some (.int k l):=by
  rcases oU with⟨rfl,h⟩|⟨y,my,rfl,c1,O⟩
  ·exact .inl ⟨rfl,h⟩
  ·obtain⟨k,p⟩:=(r.ev c1).1.int O;exact .inr ⟨k,by simp[p]⟩
 have V0:(D.map a.eval=none/\d=len)\/∃k,D.map a.eval=some (.int k d):=by
  rcases A9 with⟨rfl,h⟩|⟨y,my,rfl,c1,O⟩
  ·exact .inl ⟨rfl,h⟩
  ·obtain⟨k,p⟩:=(r.ev c1).1.int O;exact .inr ⟨k,by simp[p]⟩
 rcases F with⟨n,s,e1,hs,rfl⟩|⟨xs,e1,rfl,rfl⟩
 ·rw[e1] at L x2;have lB:lL (G.g n) sz s len (a.eval x):=(L.jR (by simp)).1 (P1 hs);rcases lB with⟨bJ,C,rfl,rfl⟩|⟨bJ,a',C,kJ,I⟩
  ·have hr:=YH (P:=P) (w:=w) (ya:=(G.g n).na) (len:=0) (cap:=(G.g n).cap) X V U V6 V0 S h1 W (zbg _);have pK:l.toNat=0:=by omega
   have LF:(d - l).toNat=0:=by omega
   refine ny r (v:=.slice (G.g n).na 0 (G.g n).cap) ?_ (RA.iR rfl fun _=>.inl ⟨bJ,rfl,by omega,by omega⟩) (fun m hm=>x2 m hm) hN;simp only[execOp,Z,C,zaP];simp only[pK,LF,zaN] at hr;have I:(G.g n).na.map (fun x=>x.add 0)=(G.g n).na:=by
    cases (G.g n).na with
    |none=>rfl
    |some x=>simp[Addr.add]
   rw[I] at hr;simp[hr]
  ·have hr:=YH (P:=P) (w:=w) (ya:=a') (len:=len) (cap:=(G.g n).cap - s) X V U V6 V0 S h1 W (by omega);refine ny r (by simp only[execOp,Z,C,zaP];simp[hr];rfl) (RA.iR rfl fun _=>.inr ⟨bJ,_,by rw[Nat.sub_sub],by omega,fun H=>?_⟩) (fun m hm=>x2 m hm) hN;split
   ·rename_i dT;have:s=0/\l.toNat=0:=by omega
    rw[I (.inr this.1),this.1,this.2]
   ·rename_i dT;have cF:s<(G.g n).cap:=by omega
    rw[I (.inl cF)];simp only[Option.map_some,xp];rw[IN,Pe]
 ·rw[e1] at L;obtain⟨pc,p1,p2,p3,p4⟩:=L.c;cases pc with
  |int k n=>simp[PC.er] at p1
  |bool b=>simp[PC.er] at p1
  |list K ya c py=>
   rw[PC.fx] at p1;injection p1 with p0 p1;subst p0;have f:xs.length=py.length:=by rw[<-p1];simp
   have C:a.eval x=.slice ya xs.length c:=by rw[<-p2,f];rfl
   have kJ:xs.length<=c\/py=[]:=by
    cases p3 with
    |nil _ _ _ _=>exact .inr rfl
    |cons _ b oo _ _ g1 g2 g3 g4 g5 g6=>exact .inl (by rw[f];exact g2)
   have xI:xs.length<=c:=by
    rcases kJ with H|H
    ·exact H
    ·rw[f,H];exact zbg _
   have hr:=YH (P:=P) (w:=w) (ya:=ya) (len:=xs.length) (cap:=c) X V U V6 V0 S h1 W xI;have M:((py.drop l.toNat).take (d - l).toNat).length=(d - l).toNat:=by simp;omega
   let A:PC:=.list K (if c=l.toNat then ya else ya.map (·.add (l.toNat*K))) (c - l.toNat) ((py.drop l.toNat).take (d - l).toNat)
   have iK:Good w A/\∀b,bP b A->G.Im b:=by
    by_cases u:(py.drop l.toNat).take (d - l).toNat=[]
    ·constructor
     ·show Good w (.list _ _ _ _);rw[u];exact .nil _ _ _ kU
     ·intro b J;rw[bP.pg,u] at J;rcases J with⟨J,_⟩|⟨k,j,c,⟨e,T,_⟩,_⟩
      ·exact absurd rfl J
      ·simp at T
    ·cases p3 with
     |nil _ _ _ _=>simp at u
     |cons _ b oo _ _ g1 g2 g3 g4 g5 g6=>
      have fN:0<(d - l).toNat:=by
       rcases zaA (d - l).toNat with F|F
       ·rw[F] at u;simp at u
       ·exact F
      have bk:c≠l.toNat:=by omega
      have cA:A=.list K (some (ad b (oo+l.toNat*K))) (c - l.toNat) ((py.drop l.toNat).take (d - l).toNat):=by
       show PC.list _ _ _ _=_;rw[ak bk];simp[xp]
      rw[cA];constructor
      ·refine .cons _ _ _ _ _ u (by omega) g3 (fun e T=>g4 e (zah (zai T))) (fun k j c' p=>?_) (fun k j c' p=>g6 _ _ _ (uR p).1);have:=g5 _ _ _ (uR p).1;rw[IN] at this;rw[<-this];congr 2;omega
      ·intro x hx;rw[bP.pg] at hx;rcases hx with⟨_,o',Y⟩|⟨k,j,c',p,hx⟩
       ·injection Y with Y;rw[<-(pF Y).1];exact p4 b (.here _ _ _ _ g1)
       ·exact p4 x (.there _ _ _ _ _ _ c' (uR p).1 hx)
   refine ny r (v:=A.val) ?_ (RA.iR (PC.mU _) ⟨A,?_,rfl,iK.1,iK.2⟩) (fun q hq=>absurd hq BO) hN
   ·simp only[execOp,Z,C,zaP];simp[hr,A,PC.val,M]
   ·show PC.er (.list _ _ _ _)=_;rw[PC.fx,zaW,zaX,p1]
theorem Hv {b x:Nat} {v:Value} {cur:Array Value} {e:TypeId} (c:w.heap[b]? =some (.cells cur e (0,0))) (a:w.cell? (ad b x)=some v):x<cur.size:=by
 have d:w.cell? (ad b x)=cur[x]? :=by simp[World.cell?,ad,c]
 rw[d] at a;exact(zaq.1 a).1
theorem aoR (r:R B E w0 N σ a w G) {t:TypeId} {i:TypeInfo} {x y:Operand} {mx my:MO} {sz n k T off:Nat} {ag:Bool} {vs cs:List ar} (C:o.op=.store t x y) (hd:o.dst=none) (s:dC x mx=true) (A:dC y my=true)
  (Y:P.info? t=some i) (Z:i.size=sz) (kU:0<sz) (M:σ.ev mx=.one (.ptr n k T off)) (l:(σ.ev my).cells?=some (ag,vs)) (hl:vs.length=sz) (hn:σ.h n=some (.box cs)) (X:k=0) (iZ:off+sz<=cs.length):
  o.wp P a w (Nx B E w0 N (σ.gu n (.box (e9 cs off vs)))) Q:=by
 obtain⟨p,_⟩:=r.ev s;obtain⟨S,H⟩:=r.ev A;rw[M] at p;subst X;obtain⟨p1,I⟩:=(p.jR (by simp)).1 (by rw[hn];simp);obtain⟨q1,⟨cur,F,d⟩,K⟩:=r.hr.box n cs hn;have f:=S.cells l;have W:(a.eval y).cells.toList.length=sz:=by rw[f.1,hl]
 have q:(G.g n).o+off+(a.eval y).cells.toList.length<=cur.size:=by
  obtain⟨v,O,_⟩:=K (off+sz - 1) (cs[off+sz - 1]'(by omega)) (AN _);have:=Hv d O;omega
 have L:=r.aAU hn f (fun c D m hm=>H m (aE.EH l D hm)) (by omega) d q;have V:=Q1 (P:=P) (w:=w) (t:=t) (i:=i) (b:=(G.g n).b) (off:=(G.g n).o+off) (v:=a.eval y) (cur:=cur) (e:=F) Y (by rw[Z,<-W];simp) d (by simpa using q) (fun u hu=>by
  obtain⟨j,J,z⟩:=zak hu;have U:j<vs.length:=by omega
  have:=(f.2 j _ u (AN U) (by rw[AN J,z])).1;exact this)
 refine Sk (w':=jD w (G.g n).b ((G.g n).o+off) (a.eval y).cells.toList cur) ?_ ⟨G,?_⟩
 ·simp only[execOp,C,I,zaN,zaB];simp[Instr.storeAt,Instr.sureAddr,V]
 ·rw[hd];exact L
theorem aoT (r:R B E w0 N σ a w G) {t:TypeId} {i:TypeInfo} {x y:Operand} {mx my:MO} {sz n k off:Nat} {ag q:Bool} {m:Mode} {d:Nat} {xs:List (List C)} {l:List C} {vs:List ar} {σ2:St} (L:o.op=.store t x y) (hd:o.dst=none) (I:dC x mx=true) (K:dC y my=true)
  (hi:P.info? t=some i) (du:i.size=sz) (kU:0<sz) (X:σ.ev mx=.one (.ptr n k d off)) (A:(σ.ev my).cells?=some (ag,vs)) (hl:vs.length=sz) (hn:σ.h n=some (.row q m d xs)) (D:xs[k]? =some l)
  (hx:uB σ n q m d xs k off l vs=some σ2):o.wp P a w (Nx B E w0 N σ2) Q:=by
 obtain⟨F,_⟩:=r.ev I;obtain⟨Y,S⟩:=r.ev K;rw[X] at F;obtain⟨p1,T⟩:=(F.jR (by simp)).1 (by rw[hn];simp);have hr:=r.hr.row n q m d xs hn;obtain⟨⟨cur,O,s⟩,l2,l3⟩:=hr.f0 p1;have z:=Y.cells A;have LR:(a.eval y).cells.toList.length=sz:=by rw[z.1,hl]
 have oW:off+vs.length<=l.length:=by
  unfold uB at hx;split at hx
  ·cases hx
  ·rename_i lG M;exact(J8 M).1
 have U:∃pe,(G.g n).px[k]? =some pe/\pe.map PC.er=l:=by
  have f:=D;rw[hr.er,wt] at f;cases hq:(G.g n).px[k]? with
  |none=>rw[hq] at f;cases f
  |some pe=>rw[hq] at f;simp at f;exact⟨pe,rfl,f⟩
 obtain⟨pe,wq,zj⟩:=U;have Bh:pe.length=l.length:=by rw[<-zj];simp
 have H:(G.g n).o+k*d+off+(a.eval y).cells.toList.length<=cur.size:=by
  have p:=l2.2.1 k (off+sz - 1) (pe[off+sz - 1]'(by omega)) ⟨pe,wq,AN _⟩;have:=Hv s p;omega
 obtain⟨G',W⟩:=r.uB hn p1 D z (fun c p m hm=>S m (aE.EH A p hm)) hx s H;have de:=Q1 (P:=P) (w:=w) (t:=t) (i:=i) (b:=(G.g n).b) (off:=(G.g n).o+k*d+off) (v:=a.eval y) (cur:=cur) (e:=O) hi (by rw[du,<-LR];simp) s (by simpa using H) (fun u hu=>by
  obtain⟨j,V,J⟩:=zak hu;have Z:j<vs.length:=by omega
  exact(z.2 j _ u (AN Z) (by rw[AN V,J])).1)
 refine Sk (w':=jD w (G.g n).b ((G.g n).o+k*d+off) (a.eval y).cells.toList cur) ?_ ⟨G',?_⟩
 ·simp only[execOp,L,T];simp[Instr.storeAt,Instr.sureAddr,de]
 ·rw[hd];exact W
def EJ (places:List (Nat×Nat)):List (Nat×Operand)->List (Nat×Nat×MO)->Bool
 |[],[]=>true
 |(i,x)::ps,(off,sz,m)::ms=>(places[i]? ==some (off,sz))&&dC x m&&EJ places ps ms
 |_,_=>false
theorem acj (r:R B E w0 N σ a w G) (b:List (Nat×Nat)):∀(ps:List (Nat×Operand)) (k:List (Nat×Nat×MO)) (e cs:List ar) (cur:Array Value),EJ b ps k=true-> eJ w G σ.h e cur.toList->(∀c∈e,∀m,c.ref m->σ.used m=true)->vB σ.ev e k=some cs-> ∃l,Instr.fill (b.toArray[·]?) cur (ps.map fun p=>(p.1,a.eval p.2))=some l/\eJ w G σ.h cs l.toList/\∀c∈cs,∀m,c.ref m->σ.used m=true
 |[],[],e,cs,cur,_,hz,hr,hx=>by simp only[vB] at hx;injection hx with hx;subst hx;exact⟨cur,rfl,hz,hr⟩
 |(i,x)::ps,(off,sz,m)::k,e,cs,cur,d,hz,hr,hx=>by simp only[EJ,zag,beq_iff_eq] at d;obtain⟨⟨z,I⟩,D⟩:=d;simp only[vB] at hx;split at hx;rename_i ag vs y;split at hx;rename_i L;obtain⟨A,h2⟩:=L;obtain⟨K,C⟩:=r.ev I;have s:=K.cells y;have td:(a.eval x).cells.size=sz:=(by rw[<-zac,s.1,A]);have hzl:cur.size=e.length:=(by rw[<-zac,hz.1]);have H:eJ w G σ.h (e9 e off vs) (e9 cur.toList off (a.eval x).cells.toList):=(by have n:(a.eval x).cells.toList.length=vs.length:=s.1;refine⟨?_,fun j c u f g=>?_⟩;rw[RL (by rw[n,hz.1];omega),RL (by omega),hz.1];rw[Ec (by omega)] at f;rw[Ec (by rw[n,hz.1];omega),n] at g;by_cases v:off<=j/\j<off+vs.length;rw[aj v] at f g;exact s.2 _ c u f g;rw[ak v] at f g;exact hz.2 _ c u f g);obtain⟨l,t,F,J⟩:=acj r b ps k (e9 e off vs) cs (e9 cur.toList off (a.eval x).cells.toList).toArray D H (fun c d q o=>by simp only[e9,zaj] at d;rcases d with(d|d)|d;exact hr c (zai d) q o;exact C q (aE.EH y d o);exact hr c (zah d) q o) hx;refine⟨l,?_,F,J⟩;simp only[zal] at t;simp only[If,Instr.fill,zal,z];rw[ak (by simp;omega),adG _ _ _ (by omega)];exact t;cases hx;cases hx
 |[],_::_,_,_,_,d,_,_,_=>by simp[EJ] at d
 |(_,_)::_,[],_,_,_,d,_,_,_=>by simp[EJ] at d
theorem aor (r:R B E w0 N σ a w G) {t:TypeId} {parts:Array (Nat×Operand)} {g:List (Nat×Nat×MO)} {k cs:List ar} {it:TypeInfo} {z:Value} {l:Array Field} {b:List (Nat×Nat)} (s:o.op=.build t parts) (y:∀n,o.dst=some n->n<N) (D:P.info? t=some it) (x:it.zero=some z) (J:P.underlying t=some (.struct l)) (F:l.toList.mapM (fun f=>(P.info? f.type).map fun i=>(f.offset,i.size))=some b) (j:yT z.cells.toList k=true) (d:EJ b parts.toList g=true) (hx:vB σ.ev k g=some cs):o.wp P a w (Nx B E w0 N (σ.put o.dst (.agg cs))) Q:=by obtain⟨I,A⟩:=Oo (w:=w) (G:=G) (h:=σ.h) j;obtain⟨e,q,K,u⟩:=acj r b parts.toList g k cs z.cells d I (fun c d m hm=>absurd hm (A c d m)) hx;refine ny r (v:=.agg e) ?_ ⟨e.toList,by simp,K⟩ (fun m hm=>by obtain⟨c,d,hm⟩:=hm;exact u c d m hm) y;have H:P.built t (parts.map fun p=>(p.1,a.eval p.2)).toList=some e:=(by unfold Program.built;simp only[D,J,x,F,zaw];exact q);have C:=run_build (P:=P) w t _ e H;simp only[execOp,s];simp[C]
theorem TU {α:Type} {xs:List (List α)} {l k j:Nat} {c:α} (h:At (xs.drop l) k j c):At xs (l+k) j c:=by obtain⟨e,a,b⟩:=h;rw[zat] at a;exact⟨e,a,b⟩
theorem mz.drop {px:List (List PC)} (h:mz px) (l:Nat):mz (px.drop l):= ⟨fun k j c a=>h.1 _ _ _ (TU a),fun k j c k' j' c' b a d f=>h.2 _ _ _ _ _ _ b (TU a) (TU d) (fun e=>f (by injection e with e1 e2;rw[show k=k' by omega,e2]))⟩
end
section
variable {B:Nat} {E:Ex} {w0 w w':World} {G G':Gh} {h h':Nat->Option bf} {used used':Nat->Bool} {tk:List PC} {N:Nat}
variable {P:Program} {o:Oper} {a:Act} {σ σ':St} {Q:Exit->Act->World->Prop}
theorem HR.asp (H:HR B E w G h used []) {n sz cap:Nat} {x:Option Addr} {xs:List (List PC)} {m:Mode} (hg:Good w (.list sz x cap xs)) (hs:Sep (.list sz x cap xs)) (ht:KD w (.list sz x cap xs))
  (hl:∀b,nZ b (.list sz x cap xs)->uK G h b/\fD w b/\B<=b) (hn:used n=false):
  ∃G',HR B E w G' (bj h n (some (.row m.yi m sz (xs.map fun e=>e.map PC.er)))) (bj used n true) []/\
   cD w G h (fun n=>used n=true) w G' (bj h n (some (.row m.yi m sz (xs.map fun e=>e.map PC.er))))/\
   RC w G' (bj h n (some (.row m.yi m sz (xs.map fun e=>e.map PC.er)))) (.sl n sz 0 xs.length) (PC.val (.list sz x cap xs))/\
   ∀b,uK G h b->¬nZ b (.list sz x cap xs)->uK G' (bj h n (some (.row m.yi m sz (xs.map fun e=>e.map PC.er)))) b:=by
 obtain⟨fN,R,r7⟩:=ht;have l:∀b,bY b xs->bP b (.list sz x cap xs):=fun b ⟨k,j,c,v,A⟩=>.there _ _ _ _ k j c v A;have V:mz xs:=by cases hs with|list _ _ _ _ v A U=>exact⟨v,U⟩
 let S:Nat->Prop:=fun b=>m≠ .live/\bY b xs;have W:HR B E w ⟨fun b=>G.Im b\/S b,G.g⟩ h used []:=H.wx S (fun b a=>(hl b (.inl (l b a.2))).2.1.lt)
  (fun b a q s z f=>(hl b (.inl (l b a.2))).1.2.1 q s z f.symm) (fun b a q y sz xs s=>(hl b (.inl (l b a.2))).1.2.2 q y _ sz xs s) (fun b a=>.inl (hl b (.inl (l b a.2))).2.2)
 obtain⟨p,C,kj,F,O,P,K⟩:∃p:PB,(p.nl=true->xs=[]/\(true=true->p.cap=0))/\p.px=xs/\
   (p.nl=false->uK ⟨fun b=>G.Im b\/S b,G.g⟩ h p.b/\fD w p.b/\B<=p.b/\∀b,bY b xs->b≠p.b)/\
   (p.nl=false->tP w p.b p.o sz xs/\xs.length<=p.cap/\TI w p sz)/\lL p sz 0 xs.length (PC.val (.list sz x cap xs))/\(p.nl=false->nZ p.b (.list sz x cap xs)):=by
  by_cases Q:cap=0
  ·subst Q;have hx:xs=[]:=AT (by omega);subst hx;exact⟨⟨true,0,0,0,[],x⟩,fun _=>⟨rfl,fun _=>rfl⟩,rfl,(fun d=>by cases d),(fun d=>by cases d),.inl ⟨rfl,rfl,rfl,rfl⟩,(fun d=>by cases d)⟩
  ·obtain⟨b,o,cur,e,rfl,hh,du,Fi,dU⟩:=r7.resolve_left Q;have X:nZ b (.list sz (some (ad b o)) cap xs):=.inr ⟨_,_,_,_,rfl,Q⟩;obtain⟨l1,l2,l3⟩:=hl b X;have T:∀N,bY N xs->N≠b:=fun N ⟨k,j,c,v,A⟩ f=>dU k j c v (f▸A);refine⟨⟨false,b,o,cap,xs,none⟩,(fun d=>by cases d),rfl,fun _=>⟨⟨fun t=>t.elim l1.1 (fun D=>T b D.2 rfl),l1.2⟩,l2,l3,T⟩,fun _=>⟨?_,R,Fi,cur,e,hh,du⟩,.inr ⟨rfl,some (ad b o),by simp[PC.val],by simpa using R,fun _=>by simp⟩,fun _=>X⟩;cases hg with
   |nil _ _ _ _=>exact⟨by simp,by rintro k j c ⟨e,f,_⟩;simp at f,by rintro k j c ⟨e,f,_⟩;simp at f⟩
   |cons _ _ _ _ _ v A U Y h5 Z=>exact⟨Y,h5,Z⟩
 subst kj;have gd:Ap B E w ⟨fun b=>G.Im b\/S b,G.g⟩ m.yi m sz (p.px.map fun e=>e.map PC.er) p:=by
  refine⟨fN,rfl,fun h=>⟨(C h).1,fun _=>(C h).2 rfl⟩,fun d=>⟨(F d).2.1,(O d).1,(O d).2.1⟩,fun d _=>(O d).2.2,?_,fun h hm=>by rw[hm] at h;cases h⟩;cases hm:m with
  |bn=>exact fun b a=>.inr ⟨by simp[hm],a⟩
  |bq=>exact⟨fun b a=>⟨.inr ⟨by simp[hm],a⟩,(hl b (.inl (l b a))).2.1,.inl (hl b (.inl (l b a))).2.2⟩,V⟩
  |live=>exact⟨fun b a=>⟨fun t=>t.elim (hl b (.inl (l b a))).1.1 (fun D=>D.1 hm),(hl b (.inl (l b a))).2.1,.inl (hl b (.inl (l b a))).2.2⟩,V⟩
 have Hn:=W.insert (w':=w) (n:=n) (blk:=.row m.yi m sz (p.px.map fun e=>e.map PC.er)) (p:=p) hn (fun _ _=>rfl) (zad _)
  (fun d=>⟨(F d).1,.inl (F d).2.2.1,(F d).2.1.lt⟩) (fun cs c q a=>by cases a) (by exact gd)
  (fun y m' J I a hm n' cv pi qN mV L lS b r=>(hl b (.inl (l b r))).1.2.2 n' cv pi qN mV L)
  (fun y J I a b r=>⟨fun d=>(F d).2.2.2 b r,fun n' L pK f=>(hl b (.inl (l b r))).1.2.1 n' L pK f.symm⟩)
  (fun y m' J I a hm i pc b t=>by simp at t)
 refine⟨_,Hn,cD.trans (u2:=fun n=>used n=true) (fun _ h=>h) (cD.wx S _) (cD.insert W hn (fun _ _=>rfl)),fun _=>by simpa[dD] using P,fun b a M=>?_⟩;refine⟨fun t=>t.elim a.1 (fun D=>M (.inl (l b D.2))),fun q s z f=>?_,fun q y mo J I s r=>?_⟩
 ·by_cases u:q=n
  ·subst u;simp only[dD] at z f;exact M (f▸K z)
  ·rw[dZ _ _ _ _ u] at s;simp only[dZ _ _ _ _ u] at z f;exact a.2.1 q s z f
 ·by_cases u:q=n
  ·subst u;simp only[dD] at r;exact M (.inl (l b r))
  ·rw[dZ _ _ _ _ u] at s;simp only[dZ _ _ _ _ u] at r;exact a.2.2 q y mo J I s r
structure Al (B:Nat) (w:World) (G:Gh) (h:Nat->Option bf) (ps:List PC):Prop where
 fF:∀pc∈ps,Good w pc/\Sep pc/\KD w pc
 lone:∀pc∈ps,∀b,nZ b pc->uK G h b/\fD w b/\B<=b
 sR:ps.Pairwise fun p q=>∀b,nZ b p->¬nZ b q
theorem Al.tail {p:PC} {ps:List PC} (c:Al B w G h (p::ps)) (hL:∀b,uK G h b->¬nZ b p->uK G' h' b):Al B w G' h' ps:= ⟨fun q a=>c.fF q (by simp[a]),fun q a b d=>⟨hL b (c.lone q (by simp[a]) b d).1 (fun e=>(za0.1 c.sR).1 q a b e d),(c.lone q (by simp[a]) b d).2⟩,(za0.1 c.sR).2⟩
theorem HR.imp {m:Mode}:∀{ps v:List PC} {σ σ1:St} {G:Gh} {nm o:Nat} {l:List ar},HR B E w G σ.h σ.used []->σ.imp m nm (ps.map PC.er)=some (l,o,σ1)->Al B w G σ.h (ps++v)->
  ∃G',HR B E w G' σ1.h σ1.used []/\cD w G σ.h (fun n=>σ.used n=true) w G' σ1.h/\eJ w G' σ1.h l (ps.map PC.val)/\(∀c∈l,∀q,c.ref q->σ1.used q=true)/\σ1.env=σ.env/\
   (∀q,σ.used q=true->σ1.used q=true)/\Al B w G' σ1.h v
 |[],v,σ,σ1,G,nm,o,l,H,hx,hi=>by
  simp only[zaC,St.imp] at hx;injection hx with hx;injection hx with s e;injection e with e h3;subst s h3;exact⟨G,H,cD.refl _ _ _ _,⟨rfl,by simp⟩,by simp,rfl,fun _ h=>h,by simpa using hi⟩
 |p::ps,v,σ,σ2,G,nm,o,l,H,hx,hi=>by
  have gU:∀(x:C) (hx:(match σ.imp m nm (ps.map PC.er) with|some (l,o,σ2)=>some (ar.c x::l,o,σ2)|none=>none)=some (l,o,σ2)) (M:p.er=x) (L:∀b,¬nZ b p) (N:Good w p),
    ∃G',HR B E w G' σ2.h σ2.used []/\cD w G σ.h (fun n=>σ.used n=true) w G' σ2.h/\eJ w G' σ2.h l ((p::ps).map PC.val)/\(∀c∈l,∀q,c.ref q->σ2.used q=true)/\σ2.env=σ.env/\
     (∀q,σ.used q=true->σ2.used q=true)/\Al B w G' σ2.h v:=by
   intro x hx M L N;split at hx
   ·rename_i O V T A;injection hx with hx;injection hx with s e;injection e with e h3;subst s e h3;obtain⟨G',K,y,t,J,I,z,F⟩:=HR.imp H A (hi.tail (fun b a _=>a));refine⟨G',K,y,⟨by simp[t.1],fun j c u g i=>?_⟩,fun c f q d=>?_,I,z,F⟩
    ·cases j with
     |zero=>
      simp at g i;subst g;subst i;exact⟨PC.mU p,p,M,rfl,N,fun b a=>absurd (.inl a) (L b)⟩
     |succ j=>exact t.2 j c u (by simpa using g) (by simpa using i)
    ·cases f with
     |head=>exact absurd d id
     |tail _ f=>exact J c f q d
   ·cases hx
  cases p with
  |int k n=>exact gU (.int k n) (by simp only[If,St.imp,PC.er] at hx;exact hx) (by simp[PC.er]) (fun b a=>by rcases a with a|⟨_,_,_,_,a,_⟩<;>cases a) (.int _ _)
  |bool b=>exact gU (.bool b) (by simp only[If,St.imp,PC.er] at hx;exact hx) (by simp[PC.er]) (fun b a=>by rcases a with a|⟨_,_,_,_,a,_⟩<;>cases a) (.bool _)
  |list sz x cap xs=>
   simp only[If,PC.fx,St.imp] at hx;split at hx
   ·rename_i σ1 A;split at hx
    ·rename_i O V T Y;injection hx with hx;injection hx with s e;injection e with e h3;subst s e h3;obtain⟨hn,rfl⟩:=ui A;obtain⟨S,W,U⟩:=hi.fF (.list sz x cap xs) (by simp);obtain⟨G1,Q,X,R,P⟩:=H.asp (m:=m) S W U (hi.lone (.list sz x cap xs) (by simp)) hn;obtain⟨G',K,y,t,J,I,z,F⟩:=HR.imp Q Y (hi.tail P);have r:∀q,σ.used q=true->bj σ.used nm true q=true:=fun q d=>Ac _ _ d;refine⟨G',K,cD.trans r X y,⟨by simp[t.1],fun j c u g i=>?_⟩,fun c f q d=>?_,I,fun q d=>z q (r q d),F⟩
     ·cases j with
      |zero=>
       simp at g i;subst g;subst i;exact⟨rfl,R.keep y fun q d=>by have D:q=nm:=d;subst D;exact dD _ _ _⟩
      |succ j=>exact t.2 j c u (by simpa using g) (by simpa using i)
     ·cases f with
      |head=>have D:q=nm:=d;subst D;exact z _ (dD _ _ _)
      |tail _ f=>exact J c f q d
    ·cases hx
   ·cases hx
theorem HR.nF {m:Mode}:∀{b:List (K×List PC)} {σ σ1:St} {G:Gh} {nm:Nat} {a:List (Bool×List ar)},HR B E w G σ.h σ.used []->σ.nF m nm (b.map fun p=>(p.1,p.2.map PC.er))=some (a,σ1)->
  (∀p∈b,p.1≠ .ptr/\(p.1=.one->p.2.length=1))->Al B w G σ.h (b.flatMap (·.2))->
  ∃G',HR B E w G' σ1.h σ1.used []/\cD w G σ.h (fun n=>σ.used n=true) w G' σ1.h/\a.length=b.length/\
   (∀(j:Nat) (x:Bool×List ar) (p:K×List PC),a[j]? =some x->b[j]? =some p->RV w G' σ1.h x.1 x.2 (wO p))/\(∀x∈a,∀c∈x.2,∀q,c.ref q->σ1.used q=true)/\σ1.env=σ.env/\
   (∀q,σ.used q=true->σ1.used q=true)
 |[],σ,σ1,G,nm,a,H,hx,hk,hi=>by
  simp only[zaC,St.nF] at hx;injection hx with hx;injection hx with e h2;subst e h2;exact⟨G,H,cD.refl _ _ _ _,rfl,by simp,by simp,rfl,fun _ h=>h⟩
 |(k,ps)::b,σ,σ2,G,nm,a,H,hx,hk,hi=>by
  have o:=hk (k,ps) (by simp);have g:(match σ.imp m nm (ps.map PC.er) with
   |some (l,y,σ1)=>match σ1.nF m y (b.map fun p=>(p.1,p.2.map PC.er)) with
    |some (a,σ2)=>some ((decide (k=.agg),l)::a,σ2)
    |none=>none
   |none=>none)=some (a,σ2):=by
   cases k with
   |ptr=>exact absurd rfl o.1
   |one=>simp[St.nF] at hx;exact hx
   |agg=>simp[St.nF] at hx;exact hx
  clear hx;split at g
  ·rename_i l y σ1 A;split at g
   ·rename_i FN j6 P;injection g with hx;injection hx with e h2;subst e h2;obtain⟨G1,C,O,D,s,I,t,F⟩:=HR.imp H A (by simpa using hi);obtain⟨G',M,u,N,L,J,Q,v⟩:=HR.nF C P (fun p f=>hk p (by simp[f])) F;refine⟨G',M,cD.trans t O u,by simp[N],fun j x p r f=>?_,fun x hx c i q d=>?_,Q.trans I,fun q d=>v q (t q d)⟩
    ·cases j with
     |zero=>
      simp at r f;subst r;subst f;have z:=eJ.keep u (fun c i q d=>s c i q d) D;cases k with
      |ptr=>exact absurd rfl o.1
      |agg=>exact⟨ps.map PC.val,rfl,z⟩
      |one=>
       have e:=o.2 rfl;match ps,e with
       |[p],_=>exact z
     |succ j=>exact L j x p (by simpa using r) (by simpa using f)
    ·cases hx with
     |head=>exact v q (s c i q d)
     |tail _ hx=>exact J x hx c i q d
   ·cases g
  ·cases g
theorem RA.rH {e:List (Bool×List ar)} {a:List (K×List PC)} (d:e.length=a.length) (hk:∀p∈a,p.1≠ .ptr/\(p.1=.one->p.2.length=1))
  (g:∀(j:Nat) (x:Bool×List ar) (p:K×List PC),e[j]? =some x->a[j]? =some p->RV w G h x.1 x.2 (wO p)):RA w G h (rH e) (zV a):=by
 match e,a,d with
 |[],[],_=>exact⟨[],rfl,rfl,by simp⟩
 |[(ag,cs)],[p],_=>
  have f:=g 0 (ag,cs) p rfl rfl;cases ag with
  |true=>exact f
  |false=>
   have k:eJ w G h cs [wO p]:=f;match cs,k.1 with
   |[c],_=>exact .inr f
 |x::y::e,p::q::a,hl=>
  refine⟨(p::q::a).map wO,rfl,by simpa using hl.symm,fun j x' u l b=>?_⟩;rw[wt] at b;cases hp:(p::q::a)[j]? with
  |none=>rw[hp] at b;cases b
  |some i=>rw[hp] at b;simp at b;subst b;exact g j x' i l hp
def Hf (P:Program) (T:bL):Prop:=∀f M,bL.find T.pure f=some M->dz P f M
def cg (P:Program) (f:FuncId):Bool:=
 match P.funcs[f]? with
 |some fn=>fn.body.isSome&&(fn.name != "runtime.NumGoroutine")
 |none=>false
theorem JH {f:FuncId} (a:cg P f=true) (args:Array Value):(callFunc f args).run P w=.ok (.enter f args) w:=by unfold cg at a;split at a;rename_i fn e;simp only[zag,bne_iff_ne,ne_eq] at a;obtain⟨b,d⟩:=a;(cases hb:fn.body with|none=>rw[hb] at b;cases b|some c=>simp[callFunc,e,d,hb]);cases a
theorem Fr.call (F:Fr B E w0 w) (a:Fr w.heap.size Ex.no w w'):Fr B E w0 w':= F.grow (fun b c=>a.block b c id) a.size a.os a.tape a.output
theorem aoz (r:R B E w0 N σ a w G) {T:bL} (hT:Hf P T) {m:Mode} {f:FuncId} {as:List aE} {vals:List Value} {σ1:St} (Y:∀n,o.dst=some n->n<N)
  (de:(execOp a.eval o).run P w=.ok (.enter f vals.toArray) w) (hl:vals.length=as.length)
  (D:∀(j:Nat) (x:aE) (v:Value),as[j]? =some x->vals[j]? =some v->RA w G σ.h x v)
  (hx:CH T m o.dst f as σ=some σ1):o.wp P a w (Nx B E w0 N σ1) Q:=by
 unfold CH at hx;split at hx
 ·rename_i ds C;split at hx
  ·rename_i M F;split at hx
   ·rename_i rs U;split at hx
    ·rename_i t σ2 u;injection hx with hx;subst hx;have I:=r.hr.qa C hl D;unfold Oper.wp;rw[de];refine(hT f M F ds rs U w vals I).mono fun e w' ⟨Z,p1,J,z,p4,k⟩=>?_;subst J;have A:∀b,b<w.heap.size->w'.heap[b]? =w.heap[b]? :=fun b g=>k.block b g id;have H':=r.hr.grow A k.size;have V:Al B w' G σ.h (Z.flatMap (·.2)):=by
      refine⟨p4.fF,fun pc cA b g=>?_,?_⟩
      ·obtain⟨H,O⟩:=p4.new pc cA b g;refine⟨⟨fun s=>?_,fun q d oY he=>?_,fun q gr mo sz xs d eW=>?_⟩,O,zas r.fr.size H⟩
       ·have:=r.hr.jN b s;omega
       ·have:=(r.hr.own q d oY).2.2;omega
       ·have:=r.hr.tG d eW;omega
      ·rw[List.pairwise_iff_getElem];intro i j s L lR b g;exact p4.sR i j _ _ b (by omega) (AN s) (AN L) g
     rw[<-p1] at u;obtain⟨G',b1,W,b3,b4,p,b6,X⟩:=HR.nF H' u z V;have K:cD w G σ.h (fun n=>σ.used n=true) w' G' σ2.h:=cD.trans (fun _ h=>h) (cD.world (fun b g=>A b (r.hr.jN b g)) _) W;have S:R B E w0 N σ2 a w' G':=r.step b6 X K b1 (r.fr.call k);refine⟨G',S.put (RA.rH b3 z b4) ?_ Y⟩;intro q d;match t,d with
     |[],d=>obtain⟨x,hx,_⟩:=d;simp at hx
     |[(true,cs)],d=>obtain⟨c,l,d⟩:=d;exact p (true,cs) (by simp) c l q d
     |[(false,[c])],d=>exact p (false,[c]) (by simp) c (by simp) q d
     |[(false,[])],d=>exact absurd d id
     |[(false,_::_::_)],d=>exact absurd d id
     |x::y::t,d=>obtain⟨x',pP,c,l,d⟩:=d;exact p x' pP c l q d
    ·cases hx
   ·cases hx
  ·cases hx
 ·cases hx
theorem Uw:∀{b:List (K×List PC)} {a:List (Bool×List ar)},mG (b.map fun p=>(p.1,p.2.map PC.er))=some a->a=b.map fun p=>(decide (p.1=.agg),p.2.map fun pc=>ar.c pc.er)
 |[],a,h=>by simp only[zaC,mG] at h;injection h with h;exact h.symm
 |(k,ps)::b,a,h=>by cases k with|ptr=>simp[mG] at h|one=>simp only[If,mG] at h;split at h;rename_i d e;injection h with h;rw[<-h,Uw e,zbe];rfl;cases h|agg=>simp only[If,mG] at h;split at h;rename_i d e;injection h with h;rw[<-h,Uw e,zbe];rfl;cases h
theorem ai2 {b:List (Bool×List ar)} {q:Nat} (d:∀x∈b,∀c∈x.2,¬c.ref q):¬(rH b).ref q:=by
 intro a;match b,a with
 |[],a=>obtain⟨x,hx,_⟩:=a;simp at hx
 |[(true,cs)],a=>obtain⟨c,e,a⟩:=a;exact d (true,cs) (by simp) c e a
 |[(false,[c])],a=>exact d (false,[c]) (by simp) c (by simp) a
 |[(false,[])],a=>exact a
 |[(false,_::_::_)],a=>exact a
 |x::y::b,a=>obtain⟨x',f,c,e,a⟩:=a;exact d x' f c e a
theorem aoB (r:R B E w0 N σ a w G) {T:bL} (hT:Hf P T) {f:FuncId} {as:List aE} {vals:List Value} {z:aE} (hN:∀n,o.dst=some n->n<N)
  (de:(execOp a.eval o).run P w=.ok (.enter f vals.toArray) w) (hl:vals.length=as.length)
  (L:∀(j:Nat) (x:aE) (v:Value),as[j]? =some x->vals[j]? =some v->RA w G σ.h x v)
  (hx:Aw T f as σ.h=some z):o.wp P a w (Nx B E w0 N (σ.put o.dst z)) Q:=by
 unfold Aw at hx;split at hx
 ·rename_i ds J;split at hx
  ·rename_i M O;split at hx
   ·rename_i rs tc;split at hx
    ·rename_i ls F;injection hx with hx;subst hx;have W:=r.hr.qa J hl L;unfold Oper.wp;rw[de];refine(hT f M O ds rs tc w vals W).mono fun e w' ⟨s,p1,Y,H,p4,y⟩=>?_;subst Y;have I:∀b,b<w.heap.size->w'.heap[b]? =w.heap[b]? :=fun b d=>y.block b d id;have H':=r.hr.grow I y.size;rw[<-p1] at F;have s6:=Uw F;subst s6;let S:Nat->Prop:=fun b=>∃pc∈s.flatMap (·.2),bP b pc;have m:∀b,S b->w.heap.size<=b/\b<w'.heap.size:=fun b ⟨pc,cA,d⟩=>by
      obtain⟨U,Z⟩:=p4.new pc cA b (.inl d);exact⟨U,Z.lt⟩
     have H2:HR B E w' ⟨fun b=>G.Im b\/S b,G.g⟩ σ.h σ.used []:=H'.wx S (fun b d=>(m b d).2) (fun b d n hn hl he=>by have:=(m b d).1;have:=(r.hr.own n hn hl).2.2;omega)
      (fun b d n gr sz xs hn X=>by have:=(m b d).1;have:=r.hr.tG hn X;omega) (fun b d=>.inl (zas r.fr.size (m b d).1))
     have K:cD w G σ.h (fun n=>σ.used n=true) w' ⟨fun b=>G.Im b\/S b,G.g⟩ σ.h:=cD.trans (fun _ h=>h) (cD.world (fun b d=>I b (r.hr.jN b d)) _) (cD.wx S _);have r2:R B E w0 N σ a w' ⟨fun b=>G.Im b\/S b,G.g⟩:=r.step rfl (fun _ h=>h) K H2 (r.fr.call y);have dT:∀p∈s,eJ w' ⟨fun b=>G.Im b\/S b,G.g⟩ σ.h (p.2.map fun pc=>ar.c pc.er) (p.2.map PC.val):=fun p l=>by
      refine⟨by simp,fun j c u i t=>?_⟩;rw[wt] at i t;cases lU:p.2[j]? with
      |none=>rw[lU] at i;cases i
      |some pc=>
       rw[lU] at i t;simp at i t;subst i t;have hm:pc∈s.flatMap (·.2):=List.mem_flatMap.2 ⟨p,l,co lU⟩;exact⟨PC.mU pc,pc,rfl,rfl,(p4.fF pc hm).1,fun b d=>.inr ⟨pc,hm,d⟩⟩
     refine⟨_,r2.put (RA.rH (by simp) H (fun j x p i l=>?_)) (fun q A=>?_) hN⟩
     ·rw[wt,l] at i;simp at i;subst i;have D:=dT p (co l);obtain⟨k,ps⟩:=p;have C:=H (k,ps) (co l);cases k with
      |ptr=>exact absurd rfl C.1
      |agg=>exact⟨ps.map PC.val,rfl,D⟩
      |one=>
       have h2:=C.2 rfl;match ps,h2 with
       |[p],_=>exact D
     ·exfalso;have dU:∀x∈s.map (fun p=>(decide (p.1=Am.K.agg),p.2.map fun pc=>ar.c pc.er)),∀c∈x.2,¬c.ref q:=fun x hx c V A=>by
       obtain⟨p,_,rfl⟩:=zaa.1 hx;obtain⟨pc,_,rfl⟩:=zaa.1 V;exact A
      exact ai2 dU A
    ·cases hx
   ·cases hx
  ·cases hx
 ·cases hx
def kR:List Operand->List MO->Bool
 |[],[]=>true
 |x::xs,m::ms=>dC x m&&kR xs ms
 |_,_=>false
theorem R.EV (r:R B E w0 N σ a w G):∀{xs:List Operand} {b:List MO},kR xs b=true->xs.length=b.length/\ ∀(j:Nat) (x:aE) (v:Value),(b.map σ.ev)[j]? =some x->(xs.map a.eval)[j]? =some v->RA w G σ.h x v
 |[],[],_=>⟨rfl,by simp⟩
 |x::xs,m::b,hc=>by simp only[kR,zag] at hc;obtain⟨f,e⟩:=r.EV hc.2;refine⟨by simp[f],fun j x' v d c=>?_⟩;cases j with|zero=>simp at d c;subst d;subst c;exact(r.ev hc.1).1|succ j=>exact e j x' v (by simpa using d) (by simpa using c)
 |[],_::_,hc=>by simp[kR] at hc
 |_::_,[],hc=>by simp[kR] at hc
theorem aos (r:R B E w0 N σ a w G) {T:bL} (d:Hf P T) {m:Mode} {f:FuncId} {xs:Array Operand} {b:List MO} {ts:Array TypeId} {σ1:St} (i:∀n,o.dst=some n->n<N) (h:o.op=.call {callee:=.value (.func f),args:=xs,argTypes:=ts}) (j:cg P f=true) (hm:kR xs.toList b=true) (hx:CH T m o.dst f (b.map σ.ev) σ=some σ1):o.wp P a w (Nx B E w0 N σ1) Q:=by obtain⟨g,c⟩:=r.EV hm;refine aoz r d (vals:=xs.toList.map a.eval) i ?_ (by simpa using g) c hx;have e:(xs.toList.map a.eval).toArray=xs.map a.eval:=(by apply zbh;simp);rw[e];simp[execOp,h,resolve,Deferred.ofValue,invoke,Act.eval,JH j]
theorem aou (r:R B E w0 N σ a w G) {T:bL} (d:Hf P T) {f:FuncId} {xs:Array Operand} {b:List MO} {ts:Array TypeId} {z:aE} (k:∀n,o.dst=some n->n<N) (i:o.op=.call {callee:=.value (.func f),args:=xs,argTypes:=ts}) (j:cg P f=true) (hm:kR xs.toList b=true) (hx:Aw T f (b.map σ.ev) σ.h=some z):o.wp P a w (Nx B E w0 N (σ.put o.dst z)) Q:=by obtain⟨g,c⟩:=r.EV hm;refine aoB r d (vals:=xs.toList.map a.eval) k ?_ (by simpa using g) c hx;have e:(xs.toList.map a.eval).toArray=xs.map a.eval:=(by apply zbh;simp);rw[e];simp[execOp,i,resolve,Deferred.ofValue,invoke,Act.eval,JH j]
end
def gO {α:Type}:List (Option Mode)->List α->List (Mode×α)
 |some m::fs,x::xs=>(m,x)::gO fs xs
 |none::fs,_::xs=>gO fs xs
 |_,_=>[]
def sJ {α:Type}:List (Option Mode)->List α->List α
 |some _::fs,_::xs=>sJ fs xs
 |none::fs,x::xs=>x::sJ fs xs
 |[],xs=>xs
 |_,[]=>[]
def fq {α:Type}:cX->List (List α)->List (Mode×α)
 |s::sig,xs::xss=>gO s xs++fq sig xss
 |_,_=>[]
def uG {α:Type}:cX->List (List α)->List α
 |s::sig,xs::xss=>sJ s xs++uG sig xss
 |[],xss=>xss.flatten
 |_,[]=>[]
theorem O4 {α β:Type} (f:α->β):∀(s:List (Option Mode)) (xs:List α),gO s (xs.map f)=(gO s xs).map fun x=>(x.1,f x.2)
 |some m::fs,x::xs=>by simp only[If,gO,O4 f fs xs]
 |none::fs,x::xs=>by simp only[If,gO,O4 f fs xs]
 |[],_=>by simp[gO]
 |some m::fs,[]=>rfl
 |none::fs,[]=>rfl
theorem H4 {α β:Type} (f:α->β):∀(s:cX) (xs:List (List α)),fq s (xs.map fun l=>l.map f)=(fq s xs).map fun x=>(x.1,f x.2)
 |s::sig,xs::xss=>by simp only[If,fq,zay,O4 f s xs,H4 f sig xss]
 |[],_=>by simp[fq]
 |s::sig,[]=>rfl
def QN (s:List (Option Mode)) (n:Nat):Prop:=s=[]\/∃j,n=j+1/\s=Pd j none++[some .bq]
theorem aca {α:Type} (m:Mode) (y:α):∀(xs:List α),gO (Pd xs.length none++[some m]) (xs++[y])=[(m,y)]
 |[]=>rfl
 |x::xs=>aca m y xs
theorem al5 {α:Type} (m:Mode) (y:α):∀(xs:List α),sJ (Pd xs.length none++[some m]) (xs++[y])=xs
 |[]=>rfl
 |x::xs=>congrArg (x::·) (al5 m y xs)
structure Ez (w:World) (m:Mode) (pc:PC):Prop where
 sep:Sep pc
 un:∀b,bP b pc->fD w b
 f0:∃sz a cap xs,pc=.list sz a cap xs/\0<sz/\(∀b o,a=some (ad b o)->¬bY b xs)/\y3 m (xs.map fun e=>e.map PC.er)=true
structure PA where
 k:K
 ps:List PC
 b:Nat
 o:Nat
def En (w:World) (d:Dv) (v:Value) (p:PA):Prop:=
 d=(p.k,p.ps.map PC.er)/\(∀pc∈p.ps,Good w pc)/\
 match p.k with
 |.one=>p.ps.map PC.val=[v]
 |.agg=>v=.agg (p.ps.map PC.val).toArray
 |.ptr=>v=.pointer (some (ad p.b p.o))/\p.b<w.heap.size/\∀j c,p.ps[j]? =some c->w.cell? (ad p.b (p.o+j))=some c.val
structure Cs (w:World) (sig:cX) (ds:List Dv) (vals:List Value) (pas:List PA):Prop where
 l1:vals.length=ds.length
 l2:pas.length=ds.length
 at_:∀(i:Nat) (d:Dv) (v:Value) (p:PA),ds[i]? =some d->vals[i]? =some v->pas[i]? =some p->En w d v p
 ok:∀x∈fq sig (pas.map (·.ps)),Ez w x.1 x.2
 sR:(fq sig (pas.map (·.ps))).Pairwise fun x y=>∀b,bP b x.2->¬bP b y.2
 free:∀pc∈uG sig (pas.map (·.ps)),∀x∈fq sig (pas.map (·.ps)),∀b,bP b pc->¬bP b x.2
 ptr:∀p∈pas,p.k=.ptr->∀x∈fq sig (pas.map (·.ps)),¬bP p.b x.2
 axw:∀(i:Nat) (p:PA) (s:List (Option Mode)),pas[i]? =some p->sig[i]? =some s->p.k=.ptr->QN s p.ps.length
def CL (fl:List (Mode×PC)):Ex:=⟨fun b=>∃x∈fl,bP b x.2,fun _=>none,fun _ _ h=>(by cases h),fun _=>True⟩
structure uL (w:World) (m:Mode) (pc fo:PC):Prop where
 val:fo.val=pc.val
 fF:Good w fo
 sep:Sep fo
 sub:∀b,bP b fo->bP b pc
 flat:y3 m (match fo.er with|.list _ xs=>xs|_=>[])=true
 live:∀sz a cap xs bw a' oN aP,pc=.list sz a cap xs->fo=.list bw a' oN aP->bw=sz/\a'=a/\oN=cap/\aP.length=xs.length/\
  (m=.live->∀k j c,At xs k j c->c.kw=true->∃c',At aP k j c'/\c'.val=c.val/\c'.kw=true)
def uM (P:Program) (f:FuncId) (sig:cX) (M:List Dv->Option (List Dv×List C)):Prop:=
 ∀ds rs fm,M ds=some (rs,fm)->∀(w:World) (vals:List Value) (pas:List PA),Cs w sig ds vals pas->Calls P f vals.toArray w fun e w'=>
  ∃bX:List (K×List PC),bX.map (fun p=>(p.1,p.2.map PC.er))=rs/\e=.returned (zV bX)/\(∀p∈bX,p.1≠ .ptr/\(p.1=.one->p.2.length=1))/\
   Cu w' w.heap.size (bX.flatMap (·.2))/\Fr w.heap.size (CL (fq sig (pas.map (·.ps)))) w w'/\
   ∃qs:List PC,qs.map PC.er=fm/\qs.length=(fq sig (pas.map (·.ps))).length/\
    ∀(i:Nat) (x:Mode×PC) (q:PC),(fq sig (pas.map (·.ps)))[i]? =some x->qs[i]? =some q->uL w' x.1 x.2 q
section
variable {B:Nat} {E:Ex} {w0 w w':World} {G G':Gh} {N:Nat} {h h':Nat->Option bf} {used:Nat->Bool}
variable {P:Program} {o:Oper} {a:Act} {σ σ':St} {Q:Exit->Act->World->Prop}
def tH (sz:Nat) (p:PB):PC:=.list sz (if p.nl=true then p.na else some (ad p.b p.o)) p.cap p.px
theorem ai7 {a:Bool} {m:Mode} {sz:Nat} {xs:List (List C)} {p:PB} (hr:Ap B E w G a m sz xs p):(tH sz p).er=.list sz xs:=by rw[tH,PC.fx,hr.er]
theorem azI {e:Bool} {m:Mode} {sz:Nat} {xs:List (List C)} {p:PB} (hr:Ap B E w G e m sz xs p) {v:Value} (d:lL p sz 0 xs.length v):(tH sz p).val=v:=by have b:p.px.length=xs.length:=(by rw[hr.er];simp);rcases d with⟨hn,rfl,_,hl⟩|⟨hn,a,rfl,hc,c⟩;simp[tH,PC.val,hn,b,hl];have:=c (.inr rfl);subst this;simp[tH,PC.val,hn,b]
theorem azH {e:Bool} {m:Mode} {sz:Nat} {xs:List (List C)} {p:PB} (hr:Ap B E w G e m sz xs p):Good w (tH sz p):=by unfold tH;by_cases b:p.px=[];rw[b];exact .nil _ _ _ hr.pos;have c:p.nl=false:=(by cases hq:p.nl with|false=>rfl|true=>exact absurd (hr.nl hq).1 b);obtain⟨a1,a,d⟩:=hr.f0 c;rw[ak (by simp[c])];exact .cons _ _ _ _ _ b d hr.pos a.1 a.2.1 a.2.2
theorem YE {sz:Nat} {p:PB} {b:Nat} (hn:p.nl=true->p.px=[]) (h:bP b (tH sz p)):(p.nl=false/\b=p.b)\/bY b p.px:=by unfold tH at h;rw[bP.pg] at h;rcases h with⟨e,o,a⟩|⟨k,j,c,f,d⟩;(cases hq:p.nl with|true=>exact absurd (hn hq) e|false=>rw[hq] at a;simp at a;exact .inl ⟨rfl,(pF a).1.symm⟩);exact .inr ⟨k,j,c,f,d⟩
def xE (G:Gh) (n b:Nat):Prop:=((G.g n).nl=false/\b=(G.g n).b)\/bY b (G.g n).px
structure yG (B:Nat) (E:Ex) (w:World) (G:Gh) (h:Nat->Option bf) (it:fe) (md:Mode) (pc:PC):Prop where
 ok:Ez w md pc
 fF:Good w pc
 at_:match it with
  |.nil sz=>pc=.list sz none 0 []
  |.row n=>∃gr m sz xs,h n=some (.row gr m sz xs)/\m≠ .bn/\(md=.live->m=.live)/\pc=tH sz (G.g n)/\y3 md xs=true/\(m=.live->gr=false)
  |.nest n k off=>∃gr sz xs,h n=some (.row gr .live sz xs)/\md=.bq/\At (G.g n).px k off pc/\gr=false
theorem yG.rS {it:fe} {t:Mode} {pc:PC} (H:HR B E w G h used []) (i:yG B E w G h it t pc) {b:Nat} (d:bP b pc): ∃n a m sz xs,it.gh=some n/\h n=some (.row a m sz xs)/\m≠ .bn/\xE G n b/\((∀b,¬bY b (G.g n).px)\/m=.live):=by have f:=i.at_;cases it with|nil sz=>have f:pc=.list sz none 0 []:=f;subst f;rw[bP.pg] at d;rcases d with⟨d,_⟩|⟨k,j,c,⟨e,o,_⟩,_⟩;exact absurd rfl d;simp at o|row n=>obtain⟨a,m,sz,xs,l,r,p,rfl,s,_⟩:=f;have hr:=H.row n a m sz xs l;refine⟨n,a,m,sz,xs,rfl,l,r,YE (fun C=>(hr.nl C).1) d,?_⟩;(cases t with|live=>exact .inr (p rfl)|bn=>cases s|bq=>left;intro x A;have q:jm xs=true:=s;rw[hr.er] at q;obtain⟨k,j,c,⟨e,o,y⟩,u⟩:=A;have z:=OF.1 q (e.map PC.er) (by simp only[zaa];exact⟨e,co o,rfl⟩);have v:=OF.1 z c.er (by simp only[zaa];exact⟨c,co y,rfl⟩);exact(Sep.kO v).2 x u)|nest n k off=>obtain⟨a,sz,xs,l,r,p,_⟩:=f;exact⟨n,a,.live,sz,xs,rfl,l,by simp,.inr ⟨k,off,pc,p,d⟩,.inr rfl⟩
theorem HR.Lr (H:HR B E w G h used []) {n n':Nat} (v:n≠n') {a l:Bool} {m t:Mode} {sz o:Nat} {xs i:List (List C)} (e:h n=some (.row a m sz xs)) (f:h n'=some (.row l t o i)) (r:(∀b,¬bY b (G.g n').px)\/t=.live) {b:Nat} (z:xE G n b):¬xE G n' b:=by have s:h n≠none:=(by rw[e];simp);have D:h n'≠none:=(by rw[f];simp);have own:∀{p q:Nat} {a:Bool} {m:Mode} {sz:Nat} {xs:List (List C)},h p≠none->h q=some (.row a m sz xs)->(G.g p).nl=false->¬bY (G.g p).b (G.g q).px:=(by intro p q a m sz xs k A hl j;have y:=(H.row q a m sz xs A).mode;cases m with|bn=>exact(H.own p k hl).1 (y _ j)|bq=>exact(H.own p k hl).1 (y.1 _ j).1|live=>exact H.live q a sz xs A _ j p k hl rfl);rintro(⟨l2,rfl⟩|d);rcases z with⟨l1,c⟩|c;exact H.inj n n' s D v l1 l2 c.symm;exact own D e l2 c;rcases z with⟨l1,rfl⟩|c;exact own s f l1 d;rcases r with r|rfl;exact r b d;have x:=(H.row n' l .live o i f).mode;have u:=(H.row n a m sz xs e).mode;cases m with|bn=>exact(x.1 b d).1 (u b c)|bq=>exact(x.1 b d).1 (u.1 b c).1|live=>exact H.ju n n' a .live sz xs l .live o i e f (by simp) (by simp) v b c d
theorem HR.item (H:HR B E w G h used []) {J:Mode} {c:ar} {it:fe} {x:C} {v:Value} (hx:yf h J c=some (it,x)) (q:RC w G h c v):
  ∃pc:PC,pc.er=x/\pc.val=v/\yG B E w G h it J pc/\it.gh=c.gh:=by
 unfold yf at hx;split at hx
 ·rename_i sz;split at hx
  ·rename_i z;injection hx with hx;injection hx with p h2;subst p h2;have eQ:v=.slice none 0 0:=q;subst eQ;refine⟨.list sz none 0 [],by simp[PC.fx],rfl,⟨⟨?_,?_,sz,none,0,[],rfl,z.1,(fun b o h=>by cases h),?_⟩,.nil _ _ _ z.1,rfl⟩,rfl⟩
   ·refine .list _ _ _ _ ?_ ?_ ?_
    ·rintro k j c ⟨e,d,_⟩;simp at d
    ·rintro b o k j c _ ⟨e,d,_⟩;simp at d
    ·rintro k j c k' j' c' b ⟨e,d,_⟩;simp at d
   ·intro b a;rw[bP.pg] at a;rcases a with⟨a,_⟩|⟨k,j,c,⟨e,d,_⟩,_⟩
    ·exact absurd rfl a
    ·simp at d
   ·cases J with
    |bn=>exact absurd rfl z.2
    |bq=>rfl
    |live=>rfl
  ·cases hx
 ·rename_i n sz lo len;split at hx
  ·rename_i F m f xs hn;split at hx
   ·rename_i I;obtain⟨hm,Bb,rfl,rfl,rfl,u,A8⟩:=I;injection hx with hx;injection hx with p h2;subst p h2;have A:h n≠none:=by rw[hn];simp
    have R:lL (G.g n) f 0 xs.length v:=q A;have hr:=H.row n F m f xs hn;have Q:(∀b,bY b (G.g n).px->fD w b)/\mz (G.g n).px/\(∀b,bY b (G.g n).px->(G.g n).nl=false->b≠(G.g n).b):=by
     have t:=hr.mode;cases m with
     |bn=>exact absurd rfl hm
     |bq=>exact⟨fun b a=>(t.1 b a).2.1,t.2,fun b a hl W=>(H.own n A hl).1 (W▸(t.1 b a).1)⟩
     |live=>exact⟨fun b a=>(t.1 b a).2.1,t.2,fun b a hl=>H.live n F f xs hn b a n A hl⟩
    obtain⟨U,P,Z⟩:=Q;have L:∀b o,(if(G.g n).nl=true then(G.g n).na else some (ad (G.g n).b (G.g n).o))=some (ad b o)->¬bY b (G.g n).px:=by
     intro b o r i;cases l:(G.g n).nl with
     |true=>rw[(hr.nl l).1] at i;obtain⟨k,j,c,⟨e,d,_⟩,_⟩:=i;simp at d
     |false=>
      rw[l] at r;simp at r;exact Z b i l (pF r).1.symm
    refine⟨tH f (G.g n),ai7 hr,azI hr R,⟨⟨.list _ _ _ _ P.1 (fun b o k j c r hk a=>L b o r ⟨k,j,c,hk,a⟩) P.2,fun b a=>?_,f,_,_,_,rfl,hr.pos,L,by rw[<-hr.er];exact u⟩,azH hr,
     F,m,f,xs,hn,hm,Bb,rfl,u,A8⟩,rfl⟩
    rcases YE (fun l=>(hr.nl l).1) a with⟨hl,rfl⟩|i
    ·exact(hr.f0 hl).1
    ·exact U b i
   ·cases hx
  ·cases hx
 ·rename_i n k aZ off sz len;split at hx
  ·rename_i f xs hn;split at hx
   ·rename_i I;obtain⟨rfl,rfl⟩:=I;split at hx
    ·rename_i s ys y;split at hx
     ·rename_i u;injection hx with hx;injection hx with p h2;subst p h2;obtain⟨pc,p1,T,M⟩:=q false xs hn;have hr:=H.row n false .live f xs hn;have Y:(G.g n).nl=false:=by
       cases l:(G.g n).nl with
       |false=>rfl
       |true=>obtain⟨e,d,_⟩:=p1;rw[(hr.nl l).1] at d;simp at d
      have O:Good w pc:=(hr.f0 Y).2.1.2.2 _ _ _ p1;have K:pc.er=.list s ys:=by
       obtain⟨e,d,D⟩:=p1;rw[hr.er] at y;simp[d,D] at y;exact y
      have X:=hr.mode.2.1 _ _ _ p1;cases pc with
      |int k n=>cases M
      |bool b=>cases M
      |list s' a' V px'=>
       rw[PC.fx] at K;injection K with g1 g2;subst g1;have N:jm (px'.map fun e=>e.map PC.er)=true:=by rw[g2];exact u
       refine⟨_,by rw[PC.fx,g2],T,⟨⟨X,fun b a=>(hr.mode.1 b ⟨k,off,_,p1,a⟩).2.1,s',a',V,px',rfl,?_,fun b o _ i=>?_,N⟩,O,false,f,xs,hn,rfl,p1,rfl⟩,rfl⟩
       ·cases O with
        |nil _ _ _ h=>exact h
        |cons _ _ _ _ _ _ _ h=>exact h
       ·obtain⟨kk,jj,c,⟨e,d,D⟩,q⟩:=i;have h6:=OF.1 N (e.map PC.er) (by simp only[zaa];exact⟨e,co d,rfl⟩);have S:=OF.1 h6 c.er (by simp only[zaa];exact⟨c,co D,rfl⟩);exact(Sep.kO S).2 b q
     ·cases hx
    ·cases hx
   ·cases hx
  ·cases hx
 ·cases hx
theorem HR.ZX (H:HR B E w G h used []) {c:ar} {x:C} {v:Value} (hx:Am.eA h c=some x) (l:RC w G h c v): ∃pc:PC,pc.er=x/\pc.val=v/\Good w pc/\∀b,bP b pc->G.Im b\/∃n d m sz xs,c.gh=some n/\h n=some (.row d m sz xs)/\xE G n b:=by cases c with|c y=>simp only[Am.eA] at hx;injection hx with hx;subst hx;obtain⟨pc,r,J,K,s⟩:=l;exact⟨pc,r,J,K,fun b a=>.inl (s b a)⟩|nil sz=>simp only[Am.eA] at hx;split at hx;rename_i p;injection hx with hx;subst hx;have I:v=.slice none 0 0:=l;subst I;refine⟨.list sz none 0 [],by simp[PC.fx],rfl,.nil _ _ _ p,fun b a=>?_⟩;rw[bP.pg] at a;rcases a with⟨a,_⟩|⟨k,j,c,⟨e,f,_⟩,_⟩;exact absurd rfl a;simp at f;cases hx|sl n sz lo len=>simp only[Am.eA] at hx;split at hx;rename_i d m i xs hn;split at hx;rename_i o;obtain⟨rfl,hl⟩:=o;injection hx with hx;subst hx;have t:lL (G.g n) i lo len v:=l (by rw[hn];simp);obtain⟨A,L,D,q⟩:=Np (H.row n d m i xs hn) t hl;exact⟨_,A,L,D,fun b a=>.inr ⟨n,d,m,i,xs,rfl,hn,q b a⟩⟩;cases hx;cases hx|cG n k aZ off sz len=>simp only[Am.eA] at hx;split at hx;rename_i d i xs hn;split at hx;rename_i o;subst o;obtain⟨pc,p1,u,p3⟩:=l d xs hn;have hr:=H.row n d .live i xs hn;have F:(G.g n).nl=false:=(by cases hq:(G.g n).nl with|false=>rfl|true=>obtain⟨e,f,_⟩:=p1;rw[(hr.nl hq).1] at f;simp at f);refine⟨pc,?_,u,(hr.f0 F).2.1.2.2 _ _ _ p1,fun b a=>.inr ⟨n,d,.live,i,xs,rfl,hn,.inr ⟨k,off,pc,p1,a⟩⟩⟩;obtain⟨e,f,z⟩:=p1;rw[hr.er] at hx;simp[f,z] at hx;exact hx;cases hx;cases hx|ptr _ _ _ _=>simp[Am.eA] at hx|eU _ _=>simp[Am.eA] at hx|dW _ _ _ _ _ _=>simp[Am.eA] at hx|fn _ _=>simp[Am.eA] at hx|ez _ _ _ _ _ _=>simp[Am.eA] at hx|cC=>simp[Am.eA] at hx
theorem aez {ns:List Nat} {n:Nat} {b:bf} (hx:fk h ns n=some b):h n=some b/\n∉ns:=by unfold fk at hx;split at hx;cases hx;rename_i a;exact⟨hx,fun hm=>a (by simpa using hm)⟩
theorem amf {ns:List Nat} {c:ar} {x:C} (hx:eA (fk h ns) c=some x):eA h c=some x/\∀n,c.gh=some n->n∉ns:=by cases c with|c y=>exact⟨hx,by intro n hn;cases hn⟩|nil sz=>exact⟨hx,by intro n hn;cases hn⟩|sl n sz lo len=>simp only[Am.eA] at hx;split at hx;rename_i e m f xs hn;obtain⟨b,d⟩:=aez hn;exact⟨by simp only[Am.eA,b];exact hx,by intro q a;injection a with a;subst a;exact d⟩;cases hx|cG n k aZ off sz len=>simp only[Am.eA] at hx;split at hx;rename_i e f xs hn;obtain⟨b,d⟩:=aez hn;exact⟨by simp only[Am.eA,b];exact hx,by intro q a;injection a with a;subst a;exact d⟩;cases hx|ptr _ _ _ _=>simp[Am.eA] at hx|eU _ _=>simp[Am.eA] at hx|dW _ _ _ _ _ _=>simp[Am.eA] at hx|fn _ _=>simp[Am.eA] at hx|ez _ _ _ _ _ _=>simp[Am.eA] at hx|cC=>simp[Am.eA] at hx
def NJ (G:Gh) (h:Nat->Option bf) (ns:List Nat) (pc:PC):Prop:=
 ∀b,bP b pc->G.Im b\/∃n gr m sz xs,n∉ns/\h n=some (.row gr m sz xs)/\xE G n b
structure qQ (B:Nat) (E:Ex) (w:World) (G:Gh) (h:Nat->Option bf) (its:List (fe×Mode)) (fl:List (Mode×PC)):Prop where
 len:its.length=fl.length
 at_:∀(i:Nat) (it:fe×Mode) (x:Mode×PC),its[i]? =some it->fl[i]? =some x->it.2=x.1/\yG B E w G h it.1 x.1 x.2
theorem qQ.nil:qQ B E w G h [] []:=⟨rfl,by intro i it x h;simp at h⟩
theorem qQ.cons {it:fe×Mode} {a:List (fe×Mode)} {x:Mode×PC} {fl:List (Mode×PC)} (f:it.2=x.1) (e:yG B E w G h it.1 x.1 x.2) (c:qQ B E w G h a fl):qQ B E w G h (it::a) (x::fl):=by refine⟨by simp[c.len],fun i d x' b hx=>?_⟩;cases i with|zero=>simp at b hx;subst b;subst hx;exact⟨f,e⟩|succ i=>exact c.at_ i d x' (by simpa using b) (by simpa using hx)
theorem qQ.append {a f:List (fe×Mode)} {fl c:List (Mode×PC)} (b:qQ B E w G h a fl) (e:qQ B E w G h f c):qQ B E w G h (a++f) (fl++c):=by refine⟨by simp[b.len,e.len],fun i it x d hx=>?_⟩;by_cases g:i<a.length;rw[By g] at d;rw[By (by rw[<-b.len];exact g)] at hx;exact b.at_ i it x d hx;rw[BY (by omega)] at d;rw[BY (by rw[<-b.len];omega)] at hx;rw[b.len] at d;exact e.at_ _ it x d hx
theorem HR.oF (H:HR B E w G h used []) {ns:List Nat}:∀{t:List (Option Mode)} {cs:List ar} {xs:List C} {g:List (fe×Mode)} {vs:List Value},Am.oF h (fk h ns) t cs=some (xs,g)->eJ w G h cs vs->
  ∃ps:List PC,ps.map PC.er=xs/\ps.map PC.val=vs/\(∀pc∈ps,Good w pc)/\qQ B E w G h g (gO t ps)/\g.filterMap (·.1.gh)=sC t cs/\∀pc∈sJ t ps,NJ G h ns pc
 |[],cs,xs,g,vs,hx,k=>by
  simp only[Am.oF] at hx;split at hx
  ·rename_i ys hy;injection hx with hx;injection hx with e i;subst e i;have S:∀(cs:List ar) (xs:List C) (vs:List Value),Am.lm (fk h ns) cs=some xs->eJ w G h cs vs->∃ps:List PC,ps.map PC.er=xs/\ps.map PC.val=vs/\(∀pc∈ps,Good w pc)/\∀pc∈ps,NJ G h ns pc:=by
    intro cs;induction cs with
    |nil=>
     intro xs vs hx k;simp only[Am.lm] at hx;injection hx with hx;subst hx;have:vs=[]:=AT (by simpa using k.1);subst this;exact⟨[],rfl,rfl,by simp,by simp⟩
    |cons c cs Q=>
     intro xs vs hx k;simp only[Am.lm] at hx;split at hx
     ·rename_i x J z I;injection hx with hx;subst hx;obtain⟨a,l⟩:=k;match vs,a with
      |v::vs,a=>
       obtain⟨L,O⟩:=amf z;obtain⟨pc,D,F,y,A⟩:=H.ZX L (l 0 c v rfl rfl).2;obtain⟨ps,r,o,s,p⟩:=Q J vs I ⟨by simpa using a,fun j c u e i=>l (j+1) c u e i⟩;refine⟨pc::ps,by simp[D,r],by simp[F,o],fun q d=>?_,fun q d=>?_⟩
       ·cases d with
        |head=>exact y
        |tail _ d=>exact s q d
       ·cases d with
        |head=>exact fun b N=>(A b N).imp id fun⟨n,K,m,sz,xs,hn,e,i⟩=>⟨n,K,m,sz,xs,O n hn,e,i⟩
        |tail _ d=>exact p q d
     ·cases hx
   obtain⟨ps,r,o,s,p⟩:=S cs ys vs hy k;exact⟨ps,r,o,s,by simpa[gO] using qQ.nil,by simp[sC],by simpa[sJ] using p⟩
  ·cases hx
 |f::t,[],xs,g,vs,hx,k=>by cases f<;>simp[Am.oF] at hx
 |none::t,c::cs,xs,g,vs,hx,k=>by
  simp only[Am.oF] at hx;split at hx
  ·rename_i x J R z I;injection hx with hx;injection hx with e i;subst e i;obtain⟨a,l⟩:=k;match vs,a with
   |v::vs,a=>
    obtain⟨L,O⟩:=amf z;obtain⟨pc,D,F,y,A⟩:=H.ZX L (l 0 c v rfl rfl).2;obtain⟨ps,r,o,s,p,M,P⟩:=H.oF I (vs:=vs) ⟨by simpa using a,fun j c u e i=>l (j+1) c u e i⟩;refine⟨pc::ps,by simp[D,r],by simp[F,o],fun q d=>?_,by simpa[gO] using p,by simpa[sC] using M,fun q d=>?_⟩
    ·cases d with
     |head=>exact y
     |tail _ d=>exact s q d
    ·simp only[sJ] at d;cases d with
     |head=>exact fun b N=>(A b N).imp id fun⟨n,K,m,sz,xs,hn,e,i⟩=>⟨n,K,m,sz,xs,O n hn,e,i⟩
     |tail _ d=>exact P q d
  ·cases hx
 |some md::t,c::cs,xs,g,vs,hx,k=>by
  simp only[Am.oF] at hx;split at hx
  ·rename_i it x J R z I;injection hx with hx;injection hx with e i;subst e i;obtain⟨a,l⟩:=k;match vs,a with
   |v::vs,a=>
    obtain⟨pc,D,F,y,A⟩:=H.item z (l 0 c v rfl rfl).2;obtain⟨ps,r,o,s,p,M,P⟩:=H.oF I (vs:=vs) ⟨by simpa using a,fun j c u e i=>l (j+1) c u e i⟩;refine⟨pc::ps,by simp[D,r],by simp[F,o],fun q d=>?_,?_,?_,fun q d=>P q (by simpa[sJ] using d)⟩
    ·cases d with
     |head=>exact y.fF
     |tail _ d=>exact s q d
    ·simp only[gO];exact qQ.cons rfl y p
    ·simp only[sC,<-A,<-M];cases jJ:it.gh with
     |none=>simp[jJ]
     |some n=>simp[jJ]
  ·cases hx
theorem HR.qI (H:HR B E w G h used []) {ns:List Nat}:∀{as:List (Bool×List ar)} {sig:cX} {ds:List Dv} {b:List (fe×Mode)} {vals:List Value},Am.qI h (fk h ns) sig as=some (ds,b)->vals.length=as.length->
  (∀(j:Nat) (x:Bool×List ar) (v:Value),as[j]? =some x->vals[j]? =some v->RV w G h x.1 x.2 v)->
  ∃pas:List PA,pas.length=ds.length/\vals.length=ds.length/\(∀(i:Nat) (d:Dv) (v:Value) (p:PA),ds[i]? =some d->vals[i]? =some v->pas[i]? =some p->En w d v p)/\(∀p∈pas,p.k≠ .ptr)/\
   qQ B E w G h b (fq sig (pas.map (·.ps)))/\b.filterMap (·.1.gh)=tv sig as/\∀pc∈uG sig (pas.map (·.ps)),NJ G h ns pc
 |[],sig,ds,b,vals,hx,hl,hc=>by
  simp only[Am.qI] at hx;injection hx with hx;injection hx with f m;subst f m;refine⟨[],rfl,by simpa using hl,by simp,by simp,?_,?_,?_⟩
  ·cases sig<;>exact qQ.nil
  ·cases sig<;>rfl
  ·cases sig<;>simp[uG]
 |(ag,cs)::as,sig,ds,b,vals,hx,hl,hc=>by
  simp only[Am.qI] at hx;split at hx
  ·rename_i xs l CI g M S;injection hx with hx;injection hx with f m;subst f m;match vals,hl with
   |v::vals,hl=>
    have o:=hc 0 (ag,cs) v rfl rfl;obtain⟨A,Q,N,P,R,n,r⟩:=H.qI S (as:=as) (vals:=vals) (by simpa using hl) (fun j x v f m=>hc (j+1) x v f m);obtain⟨vs,q,z⟩:∃vs:List Value,(if ag=true then v=.agg vs.toArray else vs=[v])/\eJ w G h cs vs:=by
     unfold RV at o;split at o
     ·rename_i y;obtain⟨vs,e,z⟩:=o;exact⟨vs,by rw[aj y];exact e,z⟩
     ·rename_i y;exact⟨[v],by rw[ak y],o⟩
    obtain⟨ps,p1,J,K,p4,L,I⟩:=H.oF M z;refine⟨⟨if ag=true then .agg else .one,ps,0,0⟩::A,by simp[Q],by simp[N],fun i d O p hd D c=>?_,fun p c=>?_,?_,?_,?_⟩
    ·cases i with
     |zero=>
      simp at hd D c;subst hd D c;cases ag with
      |true=>
       simp only[if_true] at q⊢;exact⟨by rw[p1],K,by simp only[J];exact q⟩
      |false=>
       simp only[if_false,Bool.false_eq_true] at q⊢;exact⟨by rw[p1],K,by simp only[J];exact q⟩
     |succ i=>exact P i d O p (by simpa using hd) (by simpa using D) (by simpa using c)
    ·cases c with
     |head=>cases ag<;>simp
     |tail _ c=>exact R p c
    ·cases sig with
     |nil=>
      have C:gO (cX.hd ([]:cX)) ps=[]:=rfl;rw[C] at p4;have F:l=[]:=AT p4.len;subst F;have u:fq (cX.tl ([]:cX)) (A.map (·.ps))=[]:=rfl;rw[u] at n;have t:g=[]:=AT n.len;subst t;exact qQ.nil
     |cons s sig=>exact qQ.append p4 n
    ·cases sig with
     |nil=>
      have C:gO (cX.hd ([]:cX)) ps=[]:=rfl;rw[C] at p4;have F:l=[]:=AT p4.len;subst F;have u:fq (cX.tl ([]:cX)) (A.map (·.ps))=[]:=rfl;rw[u] at n;have t:g=[]:=AT n.len;subst t;rfl
     |cons s sig=>
      rw[List.filterMap_append,L,r.1];rfl
    ·intro pc a;cases sig with
     |nil=>
      simp only[If,uG,zap,zaj] at a;rcases a with a|a
      ·exact I pc a
      ·exact r.2 pc (by simpa[uG,cX.tl] using a)
     |cons s sig=>
      simp only[If,uG,zaj] at a;rcases a with a|a
      ·exact I pc a
      ·exact r.2 pc a
  ·cases hx
end
section
variable {B:Nat} {E:Ex} {w0 w w':World} {G G':Gh} {N:Nat} {h h':Nat->Option bf} {used:Nat->Bool}
variable {P:Program} {o:Oper} {a:Act} {σ σ':St} {Q:Exit->Act->World->Prop}
structure Kp (w':World) (p p':PB) (gr:Bool) (m:Mode) (sz:Nat) (aP:List (List C)):Prop where
 m1:m≠ .bn
 fl:(∀b,¬bY b p.px)\/m=.live
 nl:p'.nl=p.nl
 b:p'.b=p.b
 o:p'.o=p.o
 cap:p'.cap=p.cap
 na:p'.na=p.na
 er:aP=p'.px.map (fun e=>e.map PC.er)
 nlx:p.nl=true->p'.px=[]
 f0:p.nl=false->tP w' p.b p.o sz p'.px/\p'.px.length<=p.cap
 sep:mz p'.px
 sub:∀b,bY b p'.px->bY b p.px
 live:m=.live->∀k j pc,At p.px k j pc->pc.kw=true->∃fo,At p'.px k j fo/\fo.val=pc.val/\fo.kw=true
 nr:gr=true->m=.live->xl w' sz p'.px
theorem HR.MF (H:HR B E w G h used []) {S:Nat->Prop} (du:w.heap.size<=w'.heap.size) (hw:∀b,b<w.heap.size->(∀n,S n->¬xE G n b)->w'.heap[b]? =w.heap[b]?) (P:∀b,b<w.heap.size->Cz w w' b) (t:G'.Im=G.Im) (s:∀n,S n->∃f m sz xs p,h n=some (.row f m sz xs)/\h' n=some (.row f m sz p)/\Kp w' (G.g n) (G'.g n) f m sz p) (u:∀n,¬S n->h' n=h n/\G'.g n=G.g n):HR B E w' G' h' used []/\cD w G h (fun n=>used n=true) w' G' h'/\∀n b,bY b (G'.g n).px->bY b (G.g n).px:=by have ne:∀n,h' n≠none->h n≠none:=(by intro n hn;by_cases d:S n;obtain⟨f,m,sz,xs,p,l,r,_⟩:=s n d;rw[l];simp;rwa[(u n d).1] at hn);have kt:∀n,(G'.g n).nl=(G.g n).nl/\(G'.g n).b=(G.g n).b/\(G'.g n).o=(G.g n).o/\(G'.g n).cap=(G.g n).cap/\(G'.g n).na=(G.g n).na:=(by intro n;by_cases d:S n;obtain⟨f,m,sz,xs,p,l,r,c⟩:=s n d;exact⟨c.nl,c.b,c.o,c.cap,c.na⟩;rw[(u n d).2];exact⟨rfl,rfl,rfl,rfl,rfl⟩);have sub:∀n b,bY b (G'.g n).px->bY b (G.g n).px:=(by intro n b a;by_cases d:S n;obtain⟨f,m,sz,xs,p,l,r,c⟩:=s n d;exact c.sub b a;rwa[(u n d).2] at a);have pt:∀n f m sz p,h' n=some (.row f m sz p)->∃xs,h n=some (.row f m sz xs):=(by intro n f m sz p hn;by_cases d:S n;obtain⟨Q,m1,O,xs,C,l,r,_⟩:=s n d;rw[r] at hn;injection hn with hn;injection hn with R a2 a3 a4;subst R a2 a3;exact⟨xs,l⟩;rw[(u n d).1] at hn;exact⟨p,hn⟩);have F:∀n cs,h' n=some (.box cs)->h n=some (.box cs)/\¬S n:=(by intro n cs hn;by_cases d:S n;obtain⟨Q,m1,O,xs,C,l,r,_⟩:=s n d;rw[r] at hn;cases hn;rw[(u n d).1] at hn;exact⟨hn,d⟩);have auv:∀b,G.Im b->w'.heap[b]? =w.heap[b]? :=(by intro b a;refine hw b (H.jN b a) fun n d M=>?_;obtain⟨f,m,sz,xs,p,l,r,c⟩:=s n d;rcases M with⟨hl,rfl⟩|J;exact(H.own n (by rw[l];simp) hl).1 a;rcases c.fl with I|rfl;exact I b J;exact((H.row n f .live sz xs l).mode.1 b J).1 a);have Xn:∀n,¬S n->h n≠none->(G.g n).nl=false->w'.heap[(G.g n).b]? =w.heap[(G.g n).b]? :=(by intro n d hn hl;refine hw _ (H.own n hn hl).2.2 fun q A M=>?_;obtain⟨f,m,sz,xs,p,l,r,c⟩:=s q A;have x:n≠q:=fun e=>d (e▸A);rcases M with⟨xL,a⟩|J;exact H.inj n q hn (by rw[l];simp) x hl xL a;rcases c.fl with I|rfl;exact I _ J;exact H.live q f sz xs l _ J n hn hl rfl);have W:∀n f m sz xs,¬S n->h n=some (.row f m sz xs)->∀b,bY b (G.g n).px->w'.heap[b]? =w.heap[b]? :=(by intro n f m sz xs d hn b a;refine hw _ (H.tG hn a) fun q A M=>?_;obtain⟨cv,Z,bw,C,N,l,r,c⟩:=s q A;have x:n≠q:=fun e=>d (e▸A);exact H.Lr x hn l c.fl (.inr a) M);have K:cD w G h (fun n=>used n=true) w' G' h':=(by refine⟨fun b a=>by rw[t];exact a,fun b a o=>ku (auv b a) o,fun n _ hn=>⟨ne n hn,kt n⟩,fun n f sz p _ hn=>?_⟩;obtain⟨xs,e⟩:=pt n f .live sz p hn;refine⟨⟨f,xs,e⟩,fun k j pc hk hL=>?_⟩;by_cases d:S n;obtain⟨Q,m1,O,C,N,l,r,c⟩:=s n d;rw[e] at l;injection l with l;injection l with _ l _ _;exact c.live l.symm k j pc hk hL;rw[(u n d).2];exact⟨pc,hk,rfl,hL⟩);refine⟨⟨fun n hn=>H.lP n (ne n hn),fun m cs c n hm=>H.kP m cs c n (F m cs hm).1,fun n cs hn=>?_,fun n f m sz p hn=>?_,fun n hn hl=>?_,fun n n' hn L x hl gR=>?_, fun b a=>?_,fun b a=>H.uf b (by rw[t] at a;exact a),fun n n' f m sz xs cv Z bw p hn L hm cU x b a y=>?_,fun n f sz xs hn b a n' L hl=>?_,?_,?_,?_⟩,K,sub⟩;obtain⟨Y,d⟩:=F n cs hn;obtain⟨R,a2,a3⟩:=H.box n cs Y;have a:=Xn n d (by rw[Y];simp) R;rw[(u n d).2];refine⟨R,a2.congr a,fun j c hj=>?_⟩;obtain⟨v,v1,v2,v3⟩:=a3 j c hj;exact⟨v,(ku a _).trans v1,v2,v3.keep K fun q A=>H.kP n cs c q Y (co hj) A⟩;by_cases d:S n;obtain⟨Q,m1,O,C,N,l,r,c⟩:=s n d;rw[r] at hn;injection hn with hn;injection hn with q1 q2 q3 q4;subst q1 q2 q3 q4;have hr:=H.row n Q m1 O C l;refine⟨hr.pos,c.er,fun hl=>?_,fun hl=>?_,fun hl z=>?_,?_,c.nr⟩;rw[c.nl] at hl;refine⟨c.nlx hl,fun z=>?_⟩;rw[c.cap];exact(hr.nl hl).2 z;rw[c.nl] at hl;obtain⟨l1,l2,l3⟩:=hr.f0 hl;obtain⟨I,c2⟩:=c.f0 hl;rw[c.b,c.o,c.cap];exact⟨(P _ l1.lt).mh l1,I,c2⟩;rw[c.nl] at hl;obtain⟨r2,cur,e,r3,U⟩:=hr.room hl z;obtain⟨mE,X,V⟩:=P (G.g n).b (H.own n (by rw[l];simp) hl).2.2 cur e r3;unfold TI;rw[c.b,c.o,c.cap];exact⟨r2,mE,e,X,V.trans U⟩;have hm:=hr.mode;(cases m1 with|bn=>exact absurd rfl c.m1|bq=>exact⟨fun b a=>by have y:=c.sub b a;have:=hm.1 b y;exact⟨by rw[t];exact this.1,(P b this.2.1.lt).mh this.2.1,this.2.2⟩,c.sep⟩|live=>exact⟨fun b a=>by have y:=c.sub b a;have:=hm.1 b y;exact⟨by rw[t];exact this.1,(P b this.2.1.lt).mh this.2.1,this.2.2⟩,c.sep⟩);rw[(u n d).1] at hn;rw[(u n d).2];have hr:=H.row n f m sz p hn;have T:=W n f m sz p d hn;refine⟨hr.pos,hr.er,hr.nl,fun hl=>?_,fun hl z=>?_,?_,fun z hm=>(hr.nr z hm).congr T⟩;obtain⟨l1,l2,l3⟩:=hr.f0 hl;have a:=Xn n d (by rw[hn];simp) hl;exact⟨l1.congr a,l2.congr (fun o=>ku a o) (fun b' y o=>ku (T b' y) o),l3⟩;obtain⟨r2,cur,e,r3,U⟩:=hr.room hl z;exact⟨r2,cur,e,(Xn n d (by rw[hn];simp) hl).trans r3,U⟩;have hm:=hr.mode;(cases m with|bn=>exact fun b a=>by rw[t];exact hm b a|bq=>exact⟨fun b a=>⟨by rw[t];exact(hm.1 b a).1,(hm.1 b a).2.1.congr (T b a),(hm.1 b a).2.2⟩,hm.2⟩|live=>exact⟨fun b a=>⟨by rw[t];exact(hm.1 b a).1,(hm.1 b a).2.1.congr (T b a),(hm.1 b a).2.2⟩,hm.2⟩);obtain⟨X,V,s3,s4,s5⟩:=kt n;rw[X] at hl;rw[V];obtain⟨o1,o2,o3⟩:=H.own n (ne n hn) hl;exact⟨by rw[t];exact o1,o2,IS o3 du⟩;rw[(kt n).1] at hl;rw[(kt n').1] at gR;rw[(kt n).2.1,(kt n').2.1];exact H.inj n n' (ne n hn) (ne n' L) x hl gR;rw[t] at a;exact IS (H.jN b a) du;obtain⟨x1,l⟩:=pt n f m sz xs hn;obtain⟨x2,r⟩:=pt n' cv Z bw p L;exact H.ju n n' f m sz x1 cv Z bw x2 l r hm cU x b (sub n b a) (sub n' b y);obtain⟨x1,l⟩:=pt n f .live sz xs hn;rw[(kt n').1] at hl;rw[(kt n').2.1];exact H.live n f sz x1 l b (sub n b a) n' (ne n' L) hl;intro i pc D;simp at D;intro i j pc fo b _ D;simp at D;intro i pc n f m sz xs b D;simp at D
def Ky (σ σ1:St) (it:fe) (x:C):Prop:=
 match it with
 |.nil _=>True
 |.row n=>∃gr m rs xs aP,σ.h n=some (.row gr m rs xs)/\x=.list rs aP/\σ1.h n=some (.row gr m rs aP)
 |.nest n k off=>∃gr m rs xs e,σ.h n=some (.row gr m rs xs)/\xs[k]? =some e/\σ1.h n=some (.row gr m rs (xs.set k (e.set off x)))
theorem azi {it:fe} {x:C} {σ1:St} (hx:σ.tE it x=some σ1):σ1.env=σ.env/\σ1.used=σ.used/\(∀n,it.gh≠some n->σ1.h n=σ.h n)/\Ky σ σ1 it x:=by cases it with|nil sz=>simp only[St.tE] at hx;injection hx with hx;subst hx;exact⟨rfl,rfl,fun _ _=>rfl,trivial⟩|row n=>(cases x with|int k i=>simp[St.tE] at hx|bool b=>simp[St.tE] at hx|list sz xs=>simp only[St.tE] at hx;split at hx;rename_i a m d f hn;split at hx;rename_i e;injection hx with hx;subst hx;subst e;exact⟨rfl,rfl,fun q c=>dZ _ _ _ _ (fun e=>c (by rw[e];rfl)),a,m,d,f,xs,hn,rfl,dD _ _ _⟩;cases hx;cases hx)|nest n k off=>simp only[St.tE] at hx;split at hx;rename_i a m d xs hn;split at hx;rename_i e g;injection hx with hx;subst hx;exact⟨rfl,rfl,fun q c=>dZ _ _ _ _ (fun e=>c (by rw[e];rfl)),a,m,d,xs,e,hn,g,dD _ _ _⟩;cases hx;cases hx
theorem Ky.congr {σ σ1 τ i:St} {it:fe} {x:C} (hx:Ky σ σ1 it x) (g:∀n,it.gh=some n->τ.h n=σ.h n) (j:∀n,it.gh=some n->i.h n=σ1.h n):Ky τ i it x:=by cases it with|nil sz=>trivial|row n=>obtain⟨d,m,c,xs,l,a,f,b⟩:=hx;exact⟨d,m,c,xs,l,(g n rfl).trans a,f,(j n rfl).trans b⟩|nest n k off=>obtain⟨d,m,c,xs,e,a,f,b⟩:=hx;exact⟨d,m,c,xs,e,(g n rfl).trans a,f,(j n rfl).trans b⟩
theorem UU {it:fe×Mode} {a:List (fe×Mode)} (h:it.1.gh=none):(it::a).filterMap (·.1.gh)=a.filterMap (·.1.gh):=List.filterMap_cons_none h
theorem H6 {it:fe×Mode} {a:List (fe×Mode)} {n:Nat} (h:it.1.gh=some n):(it::a).filterMap (·.1.gh)=n::a.filterMap (·.1.gh):=List.filterMap_cons_some h
theorem aiM:∀{a:List (fe×Mode)} {b:List C} {σ σ1:St},σ.uy a b=some σ1->(a.filterMap (·.1.gh)).Nodup->σ1.env=σ.env/\σ1.used=σ.used/\ (∀n,n∉a.filterMap (·.1.gh)->σ1.h n=σ.h n)/\∀(i:Nat) (it:fe×Mode) (x:C),a[i]? =some it->b[i]? =some x->Ky σ σ1 it.1 x
 |[],[],σ,σ1,hx,jg=>by simp only[St.uy] at hx;injection hx with hx;subst hx;exact⟨rfl,rfl,fun _ _=>rfl,by intro i it x h;simp at h⟩
 |it::a,x::b,σ,σ2,hx,jg=>by simp only[St.uy] at hx;split at hx;rename_i σ1 o;obtain⟨p1,r,l,p4⟩:=azi o;have m:(a.filterMap (·.1.gh)).Nodup:=(by cases hn:it.1.gh with|none=>rw[UU hn] at jg;exact jg|some n=>rw[H6 hn] at jg;exact(zaz.1 jg).2);have k:∀n,it.1.gh=some n->n∉a.filterMap (·.1.gh):=(by intro n hn;rw[H6 hn] at jg;exact(zaz.1 jg).1);obtain⟨t,u,g,s⟩:=aiM hx m;refine⟨t.trans p1,u.trans r,fun n hn=>?_,fun i d x' c f=>?_⟩;have p:it.1.gh≠some n:=(by intro e;rw[H6 e] at hn;exact hn (by simp));have v:n∉a.filterMap (·.1.gh):=(by intro hm;apply hn;cases hq:it.1.gh with|none=>rw[UU hq];exact hm|some q=>rw[H6 hq];exact List.mem_cons_of_mem _ hm);exact(g n v).trans (l n p);(cases i with|zero=>simp at c f;subst c;subst f;exact p4.congr (fun _ _=>rfl) (fun n hn=>g n (k n hn))|succ i=>have j:a[i]? =some d:=(by simpa using c);refine(s i d x' j (by simpa using f)).congr (fun n hn=>?_) (fun _ _=>rfl);refine(l n ?_).symm;intro e;refine k n e ?_;rw[za1];exact⟨d,co j,hn⟩);cases hx
 |[],_::_,σ,σ1,hx,_=>by simp[St.uy] at hx
 |_::_,[],σ,σ1,hx,_=>by simp[St.uy] at hx
theorem Qz:∀{a:List (fe×Mode)},(a.filterMap (·.1.gh)).Nodup->∀{i j:Nat} {x y:fe×Mode} {n:Nat},a[i]? =some x->a[j]? =some y->x.1.gh=some n->y.1.gh=some n->i=j
 |[],_,i,j,x,y,n,hi,_,_,_=>by simp at hi
 |it::a,jg,i,j,x,y,n,hi,hj,hx,hy=>by have c:(a.filterMap (·.1.gh)).Nodup:=(by cases hn:it.1.gh with|none=>rw[UU hn] at jg;exact jg|some n=>rw[H6 hn] at jg;exact(zaz.1 jg).2);have b:∀n,it.1.gh=some n->∀(k:Nat) (z:fe×Mode),a[k]? =some z->z.1.gh≠some n:=(by intro n hn k z d e;rw[H6 hn] at jg;exact(zaz.1 jg).1 (za1.2 ⟨z,co d,e⟩));cases i with|zero=>(cases j with|zero=>rfl|succ j=>simp at hi hj;subst hi;exact absurd hy (b n hx j y hj))|succ i=>cases j with|zero=>simp at hi hj;subst hj;exact absurd hx (b n hy i x hi)|succ j=>exact congrArg (·+1) (Qz c (i:=i) (j:=j) (by simpa using hi) (by simpa using hj) hx hy)
end
end Go.Am
