/- Am1, Am2, Am3, Am4, Am5, Am6, Am7, Am8, Am9, Am10, Am11, Am12, Am13, Am14, Am15, Am16, AmM, AmN: parts of the proof. No condition. -/
import Derived.LoopN
import Derived.Orders
import Derived.Laws.AppendOwn
import Derived.Laws.MakeOwn
import Derived.Laws.Tables
import Derived.Below
import Derived.Laws.Small
import Derived.Laws.StructEq
set_option linter.unusedVariables false
set_option linter.unusedSimpArgs false
open List renaming mem_of_getElem?->co,getElem?_map->wt,getElem?_eq_some_iff->AI,getElem?_eq_getElem->AN,eq_nil_of_length_eq_zero->AT,getElem?_append_left->By,getElem?_append_right->BY,map_cons->If,all_eq_true->OF,replicate->Pd,mem_map->zaa,mem_map_of_mem->zae,length_nil->zaf,mem_of_mem_drop->zah,mem_of_mem_take->zai,mem_append->zaj,getElem_of_mem->zak,getElem?_toArray->zal,nil_append->zam,length_map->zan,flatten_cons->zap,length_cons->zar,getElem?_drop->zat,length_append->zav,map_append->zay,nodup_cons->zaz,map_nil->zaC,mem_or_eq_of_mem_set->zaD,size_toArray->zaF,append_assoc->zaG,getElem?_take_of_lt->zaH,drop_eq_nil_of_le->zaI,getElem?_set_self->zaJ,getElem?_eq_none->zaK,take->zaM,getElem?_set_ne->zaQ,take_zero->zaR,length_flatMap->zaT,flatten_append->zaV,map_take->zaW,map_drop->zaX,drop->zaY,ne_nil_of_mem->zaZ,pairwise_cons->za0,mem_filterMap->za1,zipIdx_cons->za4,flatten_nil->za5,length->za7,append_nil->za8,drop_zero->za9,sum_cons->zbc,map_map->zbe
open Nat renaming mul_le_mul_right->GB,add_mul->IN,lt_of_lt_of_le->IS,zero_add->IT,add_assoc->Pe,le_refl->zad,le_trans->zas,le_mul_of_pos_right->zau,eq_zero_or_pos->zaA,add_zero->zaB,lt_trichotomy->zaE,zero_mul->zaN,mul_comm->zaO,add_le_add_left->zaU,div_eq_of_lt->za3,mul_add_div->za6,lt_irrefl->zbb,lt_or_ge->zbd,zero_le->zbg,beq->zbi,ble->zbj
open Option.some renaming injEq->zab
open Array renaming length_toList->zac,getElem?_eq_some_iff->zaq,toList_map->zaw,getD_eq_getD_getElem?->zax,size_append->za2,range->zbf,ext'->zbh
open Bool renaming and_eq_true->zag,and_self->zba
open Prod.mk renaming injEq->zao
open Ne renaming symm->zaL
open Option renaming map_none->zaP
open Int renaming toNat_of_nonneg->zaS
namespace Go.Am
theorem ak.{u} {c:Prop} {h:Decidable c} (a:c) {α:Sort u} {t e:α}:ite c t e=t:=if_pos a
theorem aq.{u} {c:Prop} {h:Decidable c} (a:¬c) {α:Sort u} {t e:α}:ite c t e=e:=if_neg a
inductive C where
 |int (k:IntKind) (n:Int)
 |bool (b:Bool)
 |list (sz:Nat) (xs:List (List C))
instance:Inhabited C:=⟨.bool false⟩
def ad (b o:Nat):Addr:=⟨b,o,none⟩
theorem qy (b o n:Nat):(ad b o).add n=ad b (o+n):=by unfold ad Addr.add;split;rename_i h;subst h;rfl;rfl
theorem lV {b o a c:Nat} (h:ad b o=ad a c):b=a/\o=c:=by unfold ad at h;injection h with d h2;exact⟨d,h2⟩
inductive PC where
 |int (k:IntKind) (n:Int)
 |bool (b:Bool)
 |list (sz:Nat) (a:Option Addr) (cap:Nat) (xs:List (List PC))
instance:Inhabited PC:=⟨.bool false⟩
mutual
def PC.er:PC->C
 |.int k n=>.int k n
 |.bool b=>.bool b
 |.list sz _ _ xs=>.list sz (PC.F4 xs)
def PC.aA:List PC->List C
 |[]=>[]
 |c::cs=>PC.er c::PC.aA cs
def PC.F4:List (List PC)->List (List C)
 |[]=>[]
 |e::es=>PC.aA e::PC.F4 es
end
theorem PC.ahV (l:List PC):PC.aA l=l.map PC.er:=by induction l with|nil=>simp[PC.aA]|cons c l a=>simp[PC.aA,a]
theorem PC.ahU (l:List (List PC)):PC.F4 l=l.map (fun e=>e.map PC.er):=by induction l with|nil=>simp[PC.F4]|cons c l a=>simp[PC.F4,PC.ahV,a]
theorem PC.dW (sz:Nat) (a:Option Addr) (cap:Nat) (xs:List (List PC)):(PC.list sz a cap xs).er=.list sz (xs.map (fun e=>e.map PC.er)):=by simp[PC.er,PC.ahU]
def PC.val:PC->Value
 |.int k n=>.int k n
 |.bool b=>.bool b
 |.list _ a cap xs=>.slice a xs.length cap
theorem PC.kF (c:PC):c.val.oneCell'=true:=by cases c<;>rfl
def At {α:Type} (xs:List (List α)) (k j:Nat) (c:α):Prop:=∃e,xs[k]? =some e/\e[j]? =some c
inductive ba (b:Nat):PC->Prop where
 |here (sz o cap:Nat) (xs:List (List PC)):xs≠[]->ba b (.list sz (some (ad b o)) cap xs)
 |there (sz:Nat) (a:Option Addr) (cap:Nat) (xs:List (List PC)) (k j:Nat) (c:PC):At xs k j c->ba b c->ba b (.list sz a cap xs)
theorem ba.lK {b sz:Nat} {a:Option Addr} {cap:Nat} {xs:List (List PC)}: ba b (.list sz a cap xs)↔(xs≠[]/\∃o,a=some (ad b o))\/∃k j c,At xs k j c/\ba b c:=by constructor;intro h;(cases h with|here sz o cap xs h=>exact .inl ⟨h,o,rfl⟩|there sz a cap xs k j c d e=>exact .inr ⟨k,j,c,d,e⟩);rintro(⟨h,o,rfl⟩|⟨k,j,c,d,e⟩);exact .here _ _ _ _ h;exact .there _ _ _ _ k j c d e
theorem ba.ao7 {b:Nat} {k:IntKind} {n:Int}:¬ba b (.int k n):=fun h=>by cases h
theorem ba.ao6 {b:Nat} {x:Bool}:¬ba b (.bool x):=fun h=>by cases h
inductive Good (w:World):PC->Prop where
 |int (k:IntKind) (n:Int):Good w (.int k n)
 |bool (b:Bool):Good w (.bool b)
 |nil (sz:Nat) (a:Option Addr) (cap:Nat):0<sz->Good w (.list sz a cap [])
 |cons (sz b o cap:Nat) (xs:List (List PC)):xs≠[]->xs.length<=cap->0<sz->(∀e∈xs,e.length=sz)->
  (∀k j c,At xs k j c->w.cell? (ad b (o+k*sz+j))=some c.val)->(∀k j c,At xs k j c->Good w c)->Good w (.list sz (some (ad b o)) cap xs)
theorem Good.congr {w w':World} {c:PC} (h:Good w c) (e:∀b,ba b c->∀o,w'.cell? (ad b o)=w.cell? (ad b o)):Good w' c:=by induction h with|int k n=>exact .int k n|bool b=>exact .bool b|nil sz a cap h=>exact .nil sz a cap h|cons sz b o cap xs f q i l g h6 m=>refine .cons sz b o cap xs f q i l (fun k j c d=>?_) (fun k j c d=>m k j c d fun p r s=>?_);rw[e b (.here _ _ _ _ f)];exact g k j c d;exact e p (.there _ _ _ _ k j c d r) s
theorem Vu {xs:List (List PC)} {sz:Nat} (d:xs≠[]) (h3:0<sz) (b:∀e∈xs,e.length=sz):∃c,At xs 0 0 c:=by cases xs with|nil=>exact absurd rfl d|cons e es=>have a:=b e (by simp);cases e with|nil=>simp at a;omega|cons c cs=>exact⟨c,c::cs,rfl,rfl⟩
theorem Good.lt {w:World} {c:PC} (h:Good w c) {b:Nat} (f:ba b c):b<w.heap.size:=by induction h with|int k n=>cases f|bool b=>cases f|nil sz a cap h=>(cases f with|here _ _ _ _ h=>exact absurd rfl h|there _ _ _ _ k j c d g=>obtain⟨e,m,_⟩:=d;simp at m)|cons sz b' o cap xs d g l q i h6 r=>cases f with|here _ _ _ _ h=>obtain⟨c,p⟩:=Vu d l q;exact World.block_lt_of_cell? (a:=ad b (o+0*sz+0)) w (i 0 0 c p)|there _ _ _ _ k j c d g=>exact r k j c d g
inductive Sep:PC->Prop where
 |int (k:IntKind) (n:Int):Sep (.int k n)
 |bool (b:Bool):Sep (.bool b)
 |list (sz:Nat) (a:Option Addr) (cap:Nat) (xs:List (List PC)):(∀k j c,At xs k j c->Sep c)->
  (∀b o k j c,a=some (ad b o)->At xs k j c->¬ba b c)->
  (∀k j c k' j' c' b,At xs k j c->At xs k' j' c'->(k,j)≠(k',j')->ba b c->¬ba b c')->Sep (.list sz a cap xs)
def bc (b:Nat) (px:List (List PC)):Prop:=∃k j c,At px k j c/\ba b c
def jE (px:List (List PC)):Prop:=
 (∀k j c,At px k j c->Sep c)/\∀k j c k' j' c' b,At px k j c->At px k' j' c'->(k,j)≠(k',j')->ba b c->¬ba b c'
def pL (w:World) (b o sz:Nat) (px:List (List PC)):Prop:=
 (∀e∈px,e.length=sz)/\(∀k j c,At px k j c->w.cell? (ad b (o+k*sz+j))=some c.val)/\∀k j c,At px k j c->Good w c
def ek (w:World) (b:Nat):Prop:=∃arr e,w.heap[b]? =some (.cells arr e (0,0))
theorem ek.lt {w:World} {b:Nat} (h:ek w b):b<w.heap.size:=by obtain⟨arr,e,h⟩:=h;exact(zaq.1 h).1
theorem ek.congr {w w':World} {b:Nat} (h:ek w b) (a:w'.heap[b]? =w.heap[b]?):ek w' b:=by obtain⟨arr,e,h⟩:=h;exact⟨arr,e,a.trans h⟩
theorem ik {w w':World} {b:Nat} (a:w'.heap[b]? =w.heap[b]?) (o:Nat):w'.cell? (ad b o)=w.cell? (ad b o):=by simp[World.cell?,ad,a]
theorem pL.congr {w w':World} {b o sz:Nat} {px:List (List PC)} (h:pL w b o sz px) (i:∀o,w'.cell? (ad b o)=w.cell? (ad b o)) (e:∀a,bc a px->∀o,w'.cell? (ad a o)=w.cell? (ad a o)):pL w' b o sz px:= ⟨h.1,fun k j c d=>(i _).trans (h.2.1 k j c d),fun k j c d=>(h.2.2 k j c d).congr fun a g f=>e a ⟨k,j,c,d,g⟩ f⟩
theorem pL.lt {w:World} {b o sz:Nat} {px:List (List PC)} (h:pL w b o sz px) {a:Nat} (e:bc a px):a<w.heap.size:=by obtain⟨k,j,c,f,d⟩:=e;exact(h.2.2 k j c f).lt d
inductive ah where
 |c (x:C)
 |nil (sz:Nat)
 |ptr (n k sz off:Nat)
 |di (xs:List C) (off:Nat)
 |sl (n sz lo len:Nat)
 |bz (n k aD off sz len:Nat)
 |cX (n k aD off sz i:Nat)
 |cO (xs:List C) (off j n sz len:Nat)
 |fn (f:FuncId) (dR:List ah)
 |bC
instance:Inhabited ah:=⟨.bC⟩
inductive Mode where
 |live|aN|aM
 deriving DecidableEq
inductive ar where
 |box (cs:List ah)
 |row (gr:Bool) (m:Mode) (sz:Nat) (xs:List (List C))
inductive ao where
 |one (c:ah)
 |agg (cs:List ah)
 |bH (xs:List (Bool×List ah))
instance:Inhabited ao:=⟨.one .bC⟩
structure St where
 env:Nat->ao
 h:Nat->Option ar
 used:Nat->Bool
def aI {α:Type} (f:Nat->α) (k:Nat) (v:α):Nat->α:=fun n=>match zbi n k with
 |true=>v
 |false=>f n
theorem kE {α:Type} (f:Nat->α) (k:Nat) (v:α) (n:Nat):aI f k v n=if n=k then v else f n:=by unfold aI;split;rename_i e;rw[ak (Nat.eq_of_beq_eq_true e)];rename_i e;rw[aq (fun h=>by rw[h,Nat.beq_refl] at e;cases e)]
theorem cr {α:Type} (f:Nat->α) (k:Nat) (v:α):aI f k v k=v:=by simp[kE]
theorem cQ {α:Type} (f:Nat->α) (k n:Nat) (v:α) (h:n≠k):aI f k v n=f n:=by simp[kE,h]
def ah.ie:ah->Nat->Prop
 |.ptr n _ _ _,m=>m=n
 |.sl n _ _ _,m=>m=n
 |.bz n _ _ _ _ _,m=>m=n
 |.cX n _ _ _ _ _,m=>m=n
 |.cO _ _ _ n _ _,m=>m=n
 |_,_=>False
def ah.ref:ah->Nat->Prop
 |.fn _ dR,m=>∃x∈dR,x.ie m
 |x,m=>x.ie m
def ao.ref:ao->Nat->Prop
 |.one c,m=>c.ref m
 |.agg cs,m=>∃c∈cs,c.ref m
 |.bH xs,m=>∃x∈xs,∃c∈x.2,c.ref m
structure PB where
 nl:Bool
 b:Nat
 o:Nat
 cap:Nat
 px:List (List PC)
 na:Option Addr
instance:Inhabited PB:=⟨⟨false,0,0,0,[],none⟩⟩
def aX:Nat:=1000000
structure Ex where
 e:Nat->Prop
 pi:Nat->Option PB
 lt:∀n p,pi n=some p->aX<=n
 a:Nat->Prop
instance:CoeFun Ex (fun _=>Nat->Prop):=⟨Ex.e⟩
def Ex.no:Ex:=⟨fun _=>False,fun _=>none,fun _ _ h=>(by cases h),fun _=>True⟩
structure Gh where
 Im:Nat->Prop
 g:Nat->PB
def PC.iu:PC->Bool
 |.list ..=>true
 |_=>false
def jb (p:PB) (sz lo len:Nat) (v:Value):Prop:=
 (p.nl=true/\v=.slice p.na 0 p.cap/\lo=0/\len=0)\/
 (p.nl=false/\∃a,v=.slice a len (p.cap - lo)/\lo+len<=p.cap/\((lo<p.cap\/lo=0)->a=some (ad p.b (p.o+lo*sz))))
def iC (w:World) (G:Gh) (h:Nat->Option ar):ah->Value->Prop
 |.c x,v=>∃pc:PC,pc.er=x/\pc.val=v/\Good w pc/\∀b,ba b pc->G.Im b
 |.nil _,v=>v=.slice none 0 0
 |.ptr n k sz off,v=>h n≠none->(G.g n).nl=false/\v=.pointer (some (ad (G.g n).b ((G.g n).o+k*sz+off)))
 |.di xs off,v=>∃(b o:Nat) (pe:List PC),v=.pointer (some (ad b (o+off)))/\pe.map PC.er=xs/\G.Im b/\
  ∀j c,pe[j]? =some c->w.cell? (ad b (o+j))=some c.val/\Good w c/\∀b',ba b' c->G.Im b'
 |.sl n sz lo len,v=>h n≠none->jb (G.g n) sz lo len v
 |.bz n k aD off sz len,v=>∀gr xs,h n=some (.row gr .live aD xs)->∃pc,At (G.g n).px k off pc/\pc.val=v/\pc.iu=true
 |.cX n k aD off sz i,v=>∀gr xs,h n=some (.row gr .live aD xs)->∃(pc:PC) (b o len cap:Nat),At (G.g n).px k off pc/\pc.val=.slice (some (ad b o)) len cap/\pc.iu=true/\v=.pointer (some (ad b (o+i*sz)))
 |.cO xs off j n sz len,v=>∃(b o:Nat) (pe:List PC),v=.pointer (some (ad b (o+off)))/\pe.map PC.er=xs/\G.Im b/\
  (∀i c,i≠j->pe[i]? =some c->w.cell? (ad b (o+i))=some c.val/\Good w c/\∀b',ba b' c->G.Im b')/\∃u,w.cell? (ad b (o+j))=some u/\u.oneCell'=true/\(h n≠none->jb (G.g n) sz 0 len u)
 |.fn _ _,_=>False
 |.bC,_=>True
def RC (w:World) (G:Gh) (h:Nat->Option ar):ah->Value->Prop
 |.fn f dR,v=>∃vs:List Value,v=.func (.func f) #[] vs.toArray/\vs.length=dR.length/\∀(j:Nat) (c:ah) (u:Value),dR[j]? =some c->vs[j]? =some u->u.oneCell'=true/\iC w G h c u
 |c,v=>iC w G h c v
def ah.oB:ah->Bool
 |.fn _ _=>true
 |_=>false
theorem vL (w:World) (G:Gh) (h:Nat->Option ar) (c:ah) (v:Value) (a:c.oB=false):RC w G h c v=iC w G h c v:=by cases c<;>first|rfl|(simp[ah.oB] at a)
theorem ah.ac0 (c:ah) (m:Nat) (a:c.oB=false):c.ref m=c.ie m:=by cases c<;>first|rfl|(simp[ah.oB] at a)
def dA (w:World) (G:Gh) (h:Nat->Option ar) (cs:List ah) (vs:List Value):Prop:=
 vs.length=cs.length/\∀(j:Nat) (c:ah) (u:Value),cs[j]? =some c->vs[j]? =some u->u.oneCell'=true/\RC w G h c u
def RV (w:World) (G:Gh) (h:Nat->Option ar) (ag:Bool) (cs:List ah) (v:Value):Prop:=
 if ag then∃vs:List Value,v=.agg vs.toArray/\dA w G h cs vs else dA w G h cs [v]
def RA (w:World) (G:Gh) (h:Nat->Option ar):ao->Value->Prop
 |.one c,v=>c=.bC\/RV w G h false [c] v
 |.agg cs,v=>RV w G h true cs v
 |.bH xs,v=>∃vs:List Value,v=.tuple vs.toArray/\vs.length=xs.length/\∀(j:Nat) (x:Bool×List ah) (u:Value),xs[j]? =some x->vs[j]? =some u->RV w G h x.1 x.2 u
structure bu (w:World) (G:Gh) (h:Nat->Option ar) (used:Nat->Prop) (w':World) (G':Gh) (h':Nat->Option ar):Prop where
 im:∀b,G.Im b->G'.Im b
 cell:∀b,G.Im b->∀o,w'.cell? (ad b o)=w.cell? (ad b o)
 name:∀n,used n->h' n≠none->h n≠none/\(G'.g n).nl=(G.g n).nl/\(G'.g n).b=(G.g n).b/\(G'.g n).o=(G.g n).o/\(G'.g n).cap=(G.g n).cap/\(G'.g n).na=(G.g n).na
 live:∀n gr sz xs,used n->h' n=some (.row gr .live sz xs)->(∃qL jD,h n=some (.row qL .live sz jD))/\
  ∀k j pc,At (G.g n).px k j pc->pc.iu=true->∃dQ,At (G'.g n).px k j dQ/\dQ.val=pc.val/\dQ.iu=true
section
variable {w w':World} {G G':Gh} {h h':Nat->Option ar} {used:Nat->Prop}
theorem iC.gf (K:bu w G h used w' G' h') {c:ah} {v:Value} (hr:∀m,c.ie m->used m) (d:iC w G h c v):iC w' G' h' c v:=by cases c with|c x=>obtain⟨pc,s,z,g,p⟩:=d;exact⟨pc,s,z,g.congr fun b D o=>K.cell b (p b D) o,fun b D=>K.im b (p b D)⟩|nil sz=>exact d|ptr n k sz off=>intro hn;obtain⟨e,r,y,q,A,B⟩:=K.name n (hr n rfl) hn;rw[r,y,q];exact d e|di xs off=>obtain⟨b,o,pe,s,z,g,p⟩:=d;refine⟨b,o,pe,s,z,K.im b g,fun j c X=>?_⟩;obtain⟨C,P,t⟩:=p j c X;exact⟨(K.cell b g _).trans C,P.congr fun a l N=>K.cell a (t a l) N,fun a l=>K.im a (t a l)⟩|sl n sz lo len=>intro hn;obtain⟨e,r,y,q,A,B⟩:=K.name n (hr n rfl) hn;have:=d e;unfold jb at*;rw[r,y,q,A,B];exact this|bz n k Q off sz len=>intro E xs hn;obtain⟨⟨O,J,e⟩,hl⟩:=K.live n E Q xs (hr n rfl) hn;obtain⟨pc,p1,L,H⟩:=d O J e;obtain⟨I,M,F,R⟩:=hl k off pc p1 H;exact⟨I,M,F.trans L,R⟩|cX n k Q off sz i=>intro E xs hn;obtain⟨⟨O,J,e⟩,hl⟩:=K.live n E Q xs (hr n rfl) hn;obtain⟨pc,b,o,len,cap,p1,L,H,p4⟩:=d O J e;obtain⟨I,M,F,R⟩:=hl k off pc p1 H;exact⟨I,b,o,len,cap,M,F.trans L,R,p4⟩|cO xs off j n sz len=>obtain⟨b,o,pe,s,z,g,p,S⟩:=d;obtain⟨u,T,u2,V⟩:=S;refine⟨b,o,pe,s,z,K.im b g,fun i c W U=>?_,u,(K.cell b g _).trans T,u2,fun hn=>?_⟩;obtain⟨C,P,t⟩:=p i c W U;exact⟨(K.cell b g _).trans C,P.congr fun a l N=>K.cell a (t a l) N,fun a l=>K.im a (t a l)⟩;obtain⟨e,r,y,q,A,B⟩:=K.name n (hr n rfl) hn;have:=V e;unfold jb at*;rw[r,y,q,A,B];exact this|fn f dR=>exact d|bC=>trivial
theorem RC.gf (K:bu w G h used w' G' h') {c:ah} {v:Value} (hr:∀m,c.ref m->used m) (d:RC w G h c v):RC w' G' h' c v:=by by_cases a:c.oB=false;rw[vL _ _ _ _ _ a] at*;exact d.gf K fun m hm=>hr m (by rw[ah.ac0 c m a];exact hm);(cases c<;>first|(simp[ah.oB] at a;done)|skip);obtain⟨vs,i,g,e⟩:=d;exact⟨vs,i,g,fun j c u b f=>⟨(e j c u b f).1,(e j c u b f).2.gf K fun m hm=>hr m ⟨c,co b,hm⟩⟩⟩
theorem dA.gf (K:bu w G h used w' G' h') {cs:List ah} {vs:List Value} (hr:∀c∈cs,∀m,c.ref m->used m) (a:dA w G h cs vs):dA w' G' h' cs vs:= ⟨a.1,fun j c u b d=>⟨(a.2 j c u b d).1,(a.2 j c u b d).2.gf K (hr c (co b))⟩⟩
theorem RV.gf (K:bu w G h used w' G' h') {ag:Bool} {cs:List ah} {v:Value} (hr:∀c∈cs,∀m,c.ref m->used m) (a:RV w G h ag cs v):RV w' G' h' ag cs v:=by unfold RV at*;split;rename_i b;simp only[b,if_true] at a;obtain⟨vs,e,d⟩:=a;exact⟨vs,e,d.gf K hr⟩;rename_i b;simp only[b] at a;exact dA.gf K hr a
theorem RA.gf (K:bu w G h used w' G' h') {x:ao} {v:Value} (hr:∀m,x.ref m->used m) (d:RA w G h x v):RA w' G' h' x v:=by cases x with|one c=>exact d.imp id fun f=>f.gf K fun b a m hm=>hr m (by simp at a;subst a;exact hm)|agg cs=>exact RV.gf K (fun b a m hm=>hr m ⟨b,a,hm⟩) d|bH xs=>obtain⟨vs,e,hl,f⟩:=d;exact⟨vs,e,hl,fun j x u g i=>(f j x u g i).gf K fun b a m hm=>hr m ⟨x,co g,b,a,hm⟩⟩
end
def Ox (w:World) (p:PB) (sz:Nat):Prop:=p.cap<=maxLen/\∃cur e,w.heap[p.b]? =some (.cells cur e (0,0))/\cur.size=p.o+p.cap*sz
def Js (B:Nat) (E:Ex) (w:World) (G:Gh) (px:List (List PC)):Mode->Prop
 |.aM=>∀b,bc b px->G.Im b
 |.aN=>(∀b,bc b px->G.Im b/\ek w b/\(B<=b\/E b))/\jE px
 |.live=>(∀b,bc b px->¬G.Im b/\ek w b/\(B<=b\/E b))/\jE px
def s6 (w:World):PC->Prop
 |.list sz a cap xs=>cap=0\/(xs≠[]/\cap<=maxLen/\∃b o cur e,a=some (ad b o)/\w.heap[b]? =some (.cells cur e (0,0))/\cur.size=o+cap*sz)
 |_=>True
def s7 (w:World) (sz:Nat) (px:List (List PC)):Prop:=∀k pc,At px k (sz - 1) pc->s6 w pc
theorem s6.cz {w w':World} {pc:PC} (h:s6 w pc) (f:∀b,ba b pc->∀arr e,w.heap[b]? =some (.cells arr e (0,0))->∃c,w'.heap[b]? =some (.cells c e (0,0))/\c.size=arr.size):s6 w' pc:=by cases pc with|int k n=>trivial|bool b=>trivial|list sz a cap xs=>rcases h with h|⟨d,m,b,o,cur,e,rfl,j,g⟩;exact .inl h;obtain⟨c,l,i⟩:=f b (.here _ _ _ _ d) cur e j;exact .inr ⟨d,m,b,o,c,e,rfl,l,by rw[i];exact g⟩
theorem s7.congr {w w':World} {sz:Nat} {px:List (List PC)} (h:s7 w sz px) (c:∀b,bc b px->w'.heap[b]? =w.heap[b]?):s7 w' sz px:= fun k pc a=>(h k pc a).cz fun b f arr e d=>⟨arr,(c b ⟨k,_,pc,a,f⟩).trans d,rfl⟩
theorem s7.cz {w w':World} {sz:Nat} {px:List (List PC)} (h:s7 w sz px) (d:∀b,bc b px->∀arr e,w.heap[b]? =some (.cells arr e (0,0))->∃a,w'.heap[b]? =some (.cells a e (0,0))/\a.size=arr.size):s7 w' sz px:= fun k pc c=>(h k pc c).cz fun b f=>d b ⟨k,_,pc,c,f⟩
structure vM (B:Nat) (E:Ex) (w:World) (G:Gh) (gr:Bool) (m:Mode) (sz:Nat) (xs:List (List C)) (p:PB):Prop where
 pos:0<sz
 er:xs=p.px.map (fun e=>e.map PC.er)
 nl:p.nl=true->p.px=[]/\(gr=true->p.cap=0)
 eG:p.nl=false->ek w p.b/\pL w p.b p.o sz p.px/\p.px.length<=p.cap
 room:p.nl=false->gr=true->Ox w p sz
 mode:Js B E w G p.px m
 nr:gr=true->m=.live->s7 w sz p.px
structure HR (B:Nat) (E:Ex) (w:World) (G:Gh) (h:Nat->Option ar) (used:Nat->Bool) (tk:List PC):Prop where
 jp:∀n,h n≠none->used n=true
 iK:∀m cs c n,h m=some (.box cs)->c∈cs->c.ref n->used n=true
 box:∀n cs,h n=some (.box cs)->(G.g n).nl=false/\ek w (G.g n).b/\
  ∀(j:Nat) (c:ah),cs[j]? =some c->∃v,w.cell? (ad (G.g n).b ((G.g n).o+j))=some v/\v.oneCell'=true/\RC w G h c v
 row:∀n gr m sz xs,h n=some (.row gr m sz xs)->vM B E w G gr m sz xs (G.g n)
 own:∀n,h n≠none->(G.g n).nl=false->¬G.Im (G.g n).b/\(B<=(G.g n).b\/E (G.g n).b)/\(G.g n).b<w.heap.size
 inj:∀n n',h n≠none->h n'≠none->n≠n'->(G.g n).nl=false->(G.g n').nl=false->(G.g n).b≠(G.g n').b
 gN:∀b,G.Im b->b<w.heap.size
 qY:∀b,G.Im b->B<=b\/E b\/E.a b
 gw:∀n n' gr m sz xs br m' aL av,h n=some (.row gr m sz xs)->h n'=some (.row br m' aL av)->m≠ .aM->m'≠ .aM->n≠n'->
  ∀b,bc b (G.g n).px->¬bc b (G.g n').px
 live:∀n gr sz xs,h n=some (.row gr .live sz xs)->∀b,bc b (G.g n).px->∀n',h n'≠none->(G.g n').nl=false->b≠(G.g n').b
 sU:∀(i:Nat) (pc:PC),tk[i]? =some pc->Sep pc/\∀b,ba b pc->G.Im b/\ek w b/\(B<=b\/E b)
 xq:∀(i j:Nat) (pc dQ:PC) (b:Nat),i≠j->tk[i]? =some pc->tk[j]? =some dQ->ba b pc->¬ba b dQ
 sV:∀(i:Nat) (pc:PC) (n:Nat) (gr:Bool) (m:Mode) (sz:Nat) (xs:List (List C)) (b:Nat),tk[i]? =some pc->h n=some (.row gr m sz xs)->m≠ .aM->ba b pc->¬bc b (G.g n).px
def Cz (w w':World) (b:Nat):Prop:=∀arr e,w.heap[b]? =some (.cells arr e (0,0))->∃uv,w'.heap[b]? =some (.cells uv e (0,0))/\uv.size=arr.size
theorem Cz.refl (w:World) (b:Nat):Cz w w b:=fun arr _ h=>⟨arr,h,rfl⟩
theorem Cz.of_eq {w w':World} {b:Nat} (h:w'.heap[b]? =w.heap[b]?):Cz w w' b:=fun arr _ a=>⟨arr,h.trans a,rfl⟩
theorem Cz.trans {w c a:World} {b:Nat} (m:Cz w c b) (k:Cz c a b):Cz w a b:=fun arr e h=>by obtain⟨g,l,i⟩:=m arr e h;obtain⟨j,d,f⟩:=k g e l;exact⟨j,d,f.trans i⟩
theorem Cz.kD {w w':World} {b:Nat} (h:Cz w w' b) (c:ek w b):ek w' b:=by obtain⟨arr,e,c⟩:=c;obtain⟨a,d,_⟩:=h arr e c;exact⟨a,e,d⟩
structure Fr (B:Nat) (E:Ex) (w0 w:World):Prop where
 os:w.os=w0.os
 tape:w.tape=w0.tape
 output:w.output=w0.output
 size:B<=w.heap.size
 block:∀b,b<B->¬E b->w.heap[b]? =w0.heap[b]?
 kD:∀b,b<B->Cz w0 w b
def agh (p q:PB) (b:ar):Prop:=
 q.nl=p.nl/\q.b=p.b/\q.o=p.o/\q.cap=p.cap/\q.na=p.na/\
  ∀gr sz xs,b=.row gr .live sz xs->∀k j pc,At p.px k j pc->pc.iu=true->∃dQ,At q.px k j dQ/\dQ.val=pc.val/\dQ.iu=true
structure R (B:Nat) (E:Ex) (w0:World) (N:Nat) (σ:St) (a:Act) (w:World) (G:Gh):Prop where
 defers:a.defers=[]
 size:a.tmps.size=N
 env:∀s,RA w G σ.h (σ.env s) (a.tmps.getD s undef)
 qq:∀s n,(σ.env s).ref n->σ.used n=true
 hr:HR B E w G σ.h σ.used []
 fr:Fr B E w0 w
 pi:∀n p b,E.pi n=some p->σ.h n=some b->agh p (G.g n) b
 wY:∀n,aX<=n->σ.used n=true
inductive MO where
 |t (n:Nat)
 |k (v:ao)
inductive aV where
 |mv (x:MO)
 |pick (c x y:MO)
 |alloc (zs:List ah)
 |box (sz:Nat) (x:MO)
 |build (zs:List ah) (parts:List (Nat×Nat×MO))
 |fG (sz:Nat) (parts:List MO)
 |vQ (sz:Nat) (parts:List MO)
 |load (ag:Bool) (sz:Nat) (x:MO)
 |store (sz:Nat) (x v:MO)
 |bin (op:BinOp) (x y:MO)
 |nO (op:BinOp) (x y:MO)
 |un (op:UnOp) (x:MO)
 |kx (m:Mode) (sz by_:Nat) (zs:List C) (l c:MO)
 |slice (sz:Nat) (x:MO) (lo hi:Option MO)
 |nZ (off:Nat) (x:MO)
 |nz (sz:Nat) (x i:MO)
 |lH (len:Nat) (x i:MO)
 |ext (i:Nat) (x:MO)
 |len (x:MO)
 |append (fl:Bool) (sz by_:Nat) (x y:MO)
 |copy (sz:Nat) (x y:MO)
 |mG (z:C) (x:MO)
 |mm (mx:Bool) (x y:MO)
 |call (m:Mode) (f:FuncId) (xs:List MO)
 |nP (f:FuncId) (xs:List MO)
 |jo (m:Mode) (f:FuncId) (xs:List MO)
 |kj (f:FuncId) (xs:List MO)
 |m9 (f:FuncId) (xs:List MO)
 |nQ (f:FuncId) (xs:List MO)
 |nc (m:Mode) (f:FuncId) (xs:List MO)
structure bO where
 dst:Option Nat
 op:aV
 guard:Option (Nat×Bool)
structure uo where
 ia:Nat
 sz:Nat
 by_:Nat
 mx:MO
 ml:MO
 my:MO
 d:Nat
inductive UO where
 |OS (sz:Nat) (p:MO)
 |OT (p:MO) (s:Nat)
 |pop (x lo:MO) (s:Nat)
 |OZ (f:FuncId) (xs:List MO)
inductive af9 where
 |op (m:bO)
 |CV (d:Nat) (c:UO)
inductive kJ where
 |skip
 |fE (ni:Bool) (ops:List bO)
 |sF (ps:List (Nat×Nat)) (ops:List bO)
 |tV (ni:Bool) (ps:List (Nat×Nat)) (ops:List bO) (sp:uo)
 |seq (a b:kJ)
 |cond (c:MO) (a b:kJ)
 |block (id:Nat) (c:kJ)
 |join (ke kh:List Nat) (cn:List (Bool×Nat×Nat×Nat×Mode)) (c:kJ)
 |loop (id:Nat) (ke kh:List Nat) (cn:List (Bool×Nat×Nat×Nat×Mode)) (c:kJ)
 |exit (id:Nat)
 |ret
inductive K where
 |one|agg|ptr
 deriving DecidableEq
abbrev Dv:=K×List C
abbrev bP:=List (List (Option Mode))
structure aQ where
 pure:List (FuncId×(List Dv->Option (List Dv)))
 yP:List (FuncId×bP×(List Dv->Option (List Dv×List C)))
 vs:List (FuncId×(List Dv->Option (List Dv×List C)))
 ws:List (FuncId×bP×(List Dv->Option (Nat×Nat)))
 xs:List (FuncId×Nat×(List Dv->Option (List Dv×List C)))
 ns:List (FuncId×(List Dv->Option (List Dv)))
def aQ.pQ:List (FuncId×bP×(List Dv->Option (List Dv×List C)))->FuncId->Option (bP×(List Dv->Option (List Dv×List C)))
 |[],_=>none
 |(g,M)::l,f=>if f=g then some M else aQ.pQ l f
def aQ.tr:List (FuncId×bP×(List Dv->Option (Nat×Nat)))->FuncId->Option (bP×(List Dv->Option (Nat×Nat)))
 |[],_=>none
 |(g,M)::l,f=>if f=g then some M else aQ.tr l f
def aQ.tt:List (FuncId×Nat×(List Dv->Option (List Dv×List C)))->FuncId->Option (Nat×(List Dv->Option (List Dv×List C)))
 |[],_=>none
 |(g,M)::l,f=>if f=g then some M else aQ.tt l f
def aQ.lY:List (FuncId×(List Dv->Option (List Dv×List C)))->FuncId->Option (List Dv->Option (List Dv×List C))
 |[],_=>none
 |(g,M)::l,f=>if f=g then some M else aQ.lY l f
def aQ.find:List (FuncId×(List Dv->Option (List Dv)))->FuncId->Option (List Dv->Option (List Dv))
 |[],_=>none
 |(g,M)::l,f=>if f=g then some M else aQ.find l f
inductive s8 where
 |fR (σ:St)
 |ext (id:Nat) (σ:St)
 |ret (σ:St)
def St.ev (σ:St):MO->ao
 |.t n=>σ.env n
 |.k v=>v
def St.put (σ:St) (d:Option Nat) (v:ao):St:=
 match d with
 |some n=>{σ with env:=aI σ.env n v}
 |none=>σ
def St.ins (σ:St) (n:Nat) (b:ar):Option St:=
 if σ.used n=true then none else some {σ with h:=aI σ.h n (some b),used:=aI σ.used n true}
def St.ef (σ:St) (n:Nat) (b:ar):St:={σ with h:=aI σ.h n (some b)}
def St.del (σ:St) (n:Nat):St:={σ with h:=aI σ.h n none}
def ao.cells?:ao->Option (Bool×List ah)
 |.one .bC=>none
 |.one c=>some (false,[c])
 |.agg cs=>some (true,cs)
 |.bH _=>none
def rv:Bool->List ah->ao
 |true,cs=>.agg cs
 |false,[c]=>.one c
 |false,_=>.one .bC
def sub {α:Type} (l:List α) (off sz:Nat):Option (List α):=if off+sz<=l.length then some ((l.drop off).take sz) else none
def cZ {α:Type} (l:List α) (off:Nat) (vs:List α):List α:=l.take off++vs++l.drop (off+vs.length)
def C.eX:C->Bool
 |.list ..=>false
 |_=>true
def e9 (l:List C):Bool:=l.all C.eX
def fh (l:List (List C)):Bool:=l.all e9
def iV (n k rs:Nat):Nat->List C->List ah
 |_,[]=>[]
 |off,.list sz ys::l=>.bz n k rs off sz ys.length::iV n k rs (off+1) l
 |off,x::l=>.c x::iV n k rs (off+1) l
def loadAt (h:Nat->Option ar) (p:ah) (sz:Nat):Option (List ah):=
 match p with
 |.ptr n k aD off=>
  match h n with
  |some (.box cs)=>if k=0 then sub cs off sz else none
  |some (.row _ m rs xs)=>
   if aD=rs then
    match xs[k]? with
    |some e=>match sub e off sz with
     |some l=>some (if m=.live then iV n k rs off l else l.map .c)
     |none=>none
    |none=>none
   else none
  |none=>none
 |.di xs off=>(sub xs off sz).map (·.map .c)
 |.cO xs off j n s len=>if off=j/\sz=1 then some [.sl n s 0 len] else if off+sz<=j then(sub xs off sz).map (·.map .c) else none
 |.cX n k aD off s i=>
  match h n with
  |some (.row _ .live rs xs)=>if rs=aD then
   match(xs[k]?).bind (·[off]?) with
   |some (.list s' ys)=>if s'=s/\sz=s then
    match ys[i]? with
    |some e=>if e9 e=true then some (e.map .c) else none
    |none=>none
    else none
   |_=>none
   else none
  |_=>none
 |_=>none
def cF (h:Nat->Option ar):ah->Option C
 |.c x=>some x
 |.nil sz=>if 0<sz then some (.list sz []) else none
 |.sl n sz lo len=>
  match h n with
  |some (.row _ _ rs xs)=>if rs=sz/\lo+len<=xs.length then some (.list sz ((xs.drop lo).take len)) else none
  |_=>none
 |.bz n k aD off sz len=>
  match h n with
  |some (.row _ .live rs xs)=>if rs=aD then(xs[k]?).bind (·[off]?) else none
  |_=>none
 |_=>none
def jC (h:Nat->Option ar):List ah->Option (List C)
 |[]=>some []
 |c::cs=>match cF h c,jC h cs with
  |some x,some xs=>some (x::xs)
  |_,_=>none
def iZ (h:Nat->Option ar):ao->Option Dv
 |.one (.ptr n k sz off)=>
  match h n with
  |some (.box cs)=>if k=0/\off=0 then(jC h cs).map fun l=>(.ptr,l) else none
  |_=>none
 |.one (.di xs off)=>if off=0 then some (.ptr,xs) else none
 |.one c=>(cF h c).map fun x=>(.one,[x])
 |.agg cs=>(jC h cs).map fun l=>(.agg,l)
 |.bH _=>none
def kf (h:Nat->Option ar):List ao->Option (List Dv)
 |[]=>some []
 |c::cs=>match iZ h c,kf h cs with
  |some x,some xs=>some (x::xs)
  |_,_=>none
def St.f0 (σ:St):ah->Option (C×Bool×St)
 |.c x=>some (x,x.eX,σ)
 |.nil sz=>if 0<sz then some (.list sz [],true,σ) else none
 |.sl n sz lo len=>
  match σ.h n with
  |some (.row _ m rs xs)=>if rs=sz/\lo=0/\len<=xs.length then some (.list sz (xs.take len),decide (m≠ .aM),σ.del n) else none
  |_=>none
 |_=>none
def St.f6 (σ:St):List ah->Option (List C×Bool×St)
 |[]=>some ([],true,σ)
 |c::cs=>match σ.f0 c with
  |some (x,o,σ1)=>match σ1.f6 cs with
   |some (xs,o',σ2)=>some (x::xs,o&&o',σ2)
   |none=>none
  |none=>none
def St.kc (sz:Nat) (σ:St):List ao->Option (List (List C)×Bool×St)
 |[]=>some ([],true,σ)
 |v::vs=>match v.cells? with
  |some (_,cs)=>if cs.length=sz then
   match σ.f6 cs with
   |some (e,o,σ1)=>match σ1.kc sz vs with
    |some (es,o',σ2)=>some (e::es,o&&o',σ2)
    |none=>none
   |none=>none
   else none
  |none=>none
def En:List ah->Option (List C)
 |[]=>some []
 |.c x::cs=>if x.eX=true then match En cs with
  |some e=>some (x::e)
  |none=>none
  else none
 |_::_=>none
def Bj (sz:Nat):List ao->Option (List (List C))
 |[]=>some []
 |v::vs=>match v.cells? with
  |some (_,cs)=>if cs.length=sz then
   match En cs with
   |some e=>match Bj sz vs with
    |some es=>some (e::es)
    |none=>none
   |none=>none
   else none
  |none=>none
theorem acC (σ:St):∀{cs:List ah} {e:List C},En cs=some e->σ.f6 cs=some (e,true,σ)
 |[],e,h=>by injection h with h;rw[<-h];rfl
 |c::cs,e,h=>by cases c with|c x=>simp only[En] at h;split at h;rename_i hx;split at h;rename_i e1 a;injection h with h;subst h;simp only[St.f6,St.f0,acC σ a,hx,zba];cases h;cases h|_=>cases h
theorem acB (σ:St) {sz:Nat}:∀{vs:List ao} {es:List (List C)},Bj sz vs=some es->σ.kc sz vs=some (es,true,σ)
 |[],es,h=>by injection h with h;rw[<-h];rfl
 |v::vs,es,h=>by simp only[Bj] at h;split at h;rename_i b cs a;split at h;rename_i hl;split at h;rename_i e d;split at h;rename_i es1 c;injection h with h;subst h;simp only[St.kc,a,hl,if_true,acC σ d,acB σ c,zba];cases h;cases h;cases h;cases h
theorem afz {σ:St}:∀{cs:List ah} {e:List C} {o:Bool} {σ1:St},σ.f6 cs=some (e,o,σ1)->(∀x∈e,x.eX=true)->En cs=some e/\o=true/\σ1=σ
 |[],e,o,σ1,h,_=>by simp only[St.f6,zab,zao] at h;obtain⟨rfl,rfl,rfl⟩:=h;exact⟨rfl,rfl,rfl⟩
 |c::cs,e,o,σ1,h,hs=>by simp only[St.f6] at h;split at h;rename_i x o1 σ2 a;split at h;rename_i xs o2 gZ g;simp only[zab,zao] at h;obtain⟨rfl,rfl,rfl⟩:=h;have hx:=hs x (by simp);(cases c with|c y=>simp only[St.f0,zab,zao] at a;obtain⟨rfl,rfl,rfl⟩:=a;obtain⟨p1,d,b⟩:=afz g fun z f=>hs z (by simp[f]);exact⟨by simp only[En,hx,p1,if_true],by rw[hx,d];rfl,b⟩|nil sz=>simp only[St.f0] at a;split at a;simp only[zab,zao] at a;obtain⟨rfl,rfl,rfl⟩:=a;cases hx;cases a|sl n sz lo len=>simp only[St.f0] at a;split at a;split at a;simp only[zab,zao] at a;obtain⟨rfl,rfl,rfl⟩:=a;cases hx;cases a;cases a|_=>cases a);cases h;cases h
theorem afy {σ:St} {sz:Nat}:∀{vs:List ao} {es:List (List C)} {o:Bool} {σ1:St},σ.kc sz vs=some (es,o,σ1)->(∀e∈es,∀x∈e,x.eX=true)->Bj sz vs=some es/\o=true/\σ1=σ
 |[],es,o,σ1,h,_=>by simp only[St.kc,zab,zao] at h;obtain⟨rfl,rfl,rfl⟩:=h;exact⟨rfl,rfl,rfl⟩
 |v::vs,es,o,σ1,h,hs=>by simp only[St.kc] at h;split at h;rename_i b cs a;split at h;rename_i hl;split at h;rename_i e o1 σ2 c;split at h;rename_i es1 o2 gZ g;simp only[zab,zao] at h;obtain⟨rfl,rfl,rfl⟩:=h;obtain⟨p1,rfl,rfl⟩:=afz c (hs e (by simp));obtain⟨d,rfl,rfl⟩:=afy g fun z f=>hs z (by simp[f]);exact⟨by simp only[Bj,a,hl,if_true,p1,d],rfl,rfl⟩;cases h;cases h;cases h;cases h
def Mode.tR:Mode->Bool
 |.live=>false
 |_=>true
def St.imp (m:Mode) (σ:St):Nat->List C->Option (List ah×Nat×St)
 |nm,[]=>some ([],nm,σ)
 |nm,.list sz xs::cs=>match σ.ins nm (.row m.tR m sz xs) with
  |some σ1=>match σ1.imp m (nm+1) cs with
   |some (l,gv,σ2)=>some (.sl nm sz 0 xs.length::l,gv,σ2)
   |none=>none
  |none=>none
 |nm,x::cs=>match σ.imp m nm cs with
  |some (l,gv,σ2)=>some (.c x::l,gv,σ2)
  |none=>none
def St.jQ (m:Mode) (σ:St):Nat->List Dv->Option (List (Bool×List ah)×St)
 |_,[]=>some ([],σ)
 |nm,(.ptr,_)::_=>none
 |nm,(k,cs)::ds=>match σ.imp m nm cs with
  |some (l,gv,σ1)=>match σ1.jQ m gv ds with
   |some (ls,σ2)=>some ((decide (k=.agg),l)::ls,σ2)
   |none=>none
  |none=>none
def lO:List (Bool×List ah)->ao
 |[(ag,cs)]=>rv ag cs
 |l=>.bH l
def qc (d:Option Nat):Nat:=match d with|some n=>1000*(n+1)|none=>999
def iP:List Dv->Option (List (Bool×List ah))
 |[]=>some []
 |(.ptr,_)::_=>none
 |(k,cs)::ds=>match iP ds with
  |some ls=>some ((decide (k=.agg),cs.map .c)::ls)
  |none=>none
def vR (T:aQ) (f:FuncId) (as:List ao) (h:Nat->Option ar):Option ao:=
 match kf h as with
 |some ds=>match aQ.find T.pure f with
  |some M=>match M ds with
   |some rs=>match iP rs with
    |some ls=>some (lO ls)
    |none=>none
   |none=>none
  |none=>none
 |none=>none
def rL (T:aQ) (m:Mode) (d:Option Nat) (f:FuncId) (as:List ao) (σ:St):Option St:=
 match kf σ.h as with
 |some ds=>match aQ.find T.pure f with
  |some M=>match M ds with
   |some rs=>match σ.jQ m (qc d) rs with
    |some (ls,σ1)=>some (σ1.put d (lO ls))
    |none=>none
   |none=>none
  |none=>none
 |none=>none
def pY:ah->Option C
 |.c x=>some x
 |.nil sz=>if 0<sz then some (.list sz []) else none
 |_=>none
def nA:List ah->Option (List C)
 |[]=>some []
 |c::cs=>match pY c,nA cs with
  |some x,some xs=>some (x::xs)
  |_,_=>none
def nN (h:Nat->Option ar):ao->Option (Nat×List C)
 |.one (.ptr n k _ off)=>if k=0/\off=0 then match h n with
  |some (.box cs)=>match nA cs with
   |some xs=>some (n,xs)
   |none=>none
  |_=>none
  else none
 |_=>none
def St.jc (σ:St):List ao->Option (List Dv×List Nat×St)
 |[]=>some ([],[],σ)
 |v::vs=>match nN σ.h v with
  |some (n,xs)=>match σ.jc vs with
   |some (ds,ns,σ1)=>some ((.ptr,xs)::ds,n::ns,σ1)
   |none=>none
  |none=>match v.cells? with
   |some (ag,cs)=>match σ.f6 cs with
    |some (xs,_,σ1)=>match σ1.jc vs with
     |some (ds,ns,σ2)=>some ((if ag=true then .agg else .one,xs)::ds,ns,σ2)
     |none=>none
    |none=>none
   |none=>none
def St.sD (σ:St):List Nat->List C->Option St
 |[],[]=>some σ
 |[n],out=>match σ.h n with
  |some (.box cs)=>if cs.length=out.length then some (σ.ef n (.box (out.map .c))) else none
  |_=>none
 |_,_=>none
def rH (σ:St) (d:Option Nat):List Dv->Option St
 |[(.ptr,cs)]=>match d with
  |some q=>match σ.ins q (.box (cs.map .c)) with
   |some σ1=>some (σ1.put d (.one (.ptr q 0 0 0)))
   |none=>none
  |none=>none
 |rs=>match iP rs with
  |some ls=>some (σ.put d (lO ls))
  |none=>none
def rM (T:aQ) (d:Option Nat) (f:FuncId) (as:List ao) (σ:St):Option St:=
 match σ.jc as,aQ.lY T.vs f with
 |some (ds,ns,σ1),some M=>match M ds with
  |some (rs,out)=>match σ1.sD ns out with
   |some σ2=>rH σ2 d rs
   |none=>none
  |none=>none
 |_,_=>none
def Bl:List ao->Option (List Dv)
 |[]=>some []
 |v::vs=>match v.cells? with
  |some (ag,cs)=>match nA cs with
   |some xs=>match Bl vs with
    |some ds=>some ((if ag=true then .agg else .one,xs)::ds)
    |none=>none
   |none=>none
  |none=>none
def Aj (T:aQ) (f:FuncId) (as:List ao):Option ao:=
 match Bl as,aQ.lY T.vs f with
 |some ds,some M=>match M ds with
  |some (rs,[])=>match iP rs with
   |some ls=>some (lO ls)
   |none=>none
  |_=>none
 |_,_=>none
theorem alB {c:ah} {x:C} (h:pY c=some x) (σ:St):∃o,σ.f0 c=some (x,o,σ):=by cases c with|c y=>simp only[pY] at h;injection h with h;subst h;exact⟨_,rfl⟩|nil sz=>simp only[pY] at h;split at h;rename_i a;injection h with h;subst h;exact⟨_,ak a⟩;cases h|_=>simp[pY] at h
theorem ZC:∀{cs:List ah} {xs:List C},nA cs=some xs->∀σ:St,∃o,σ.f6 cs=some (xs,o,σ)
 |[],xs,h,σ=>by simp only[nA] at h;injection h with h;subst h;exact⟨_,rfl⟩
 |c::cs,xs,h,σ=>by simp only[nA] at h;split at h;rename_i x av d a;injection h with h;subst h;obtain⟨g,e⟩:=alB d σ;obtain⟨f,b⟩:=ZC a σ;exact⟨g&&f,by simp only[St.f6,e,b]⟩;cases h
theorem acM:∀{as:List ao} {ds:List Dv},Bl as=some ds->∀σ:St,σ.jc as=some (ds,[],σ)
 |[],ds,h,σ=>by simp only[Bl] at h;injection h with h;subst h;rfl
 |v::vs,ds,h,σ=>by simp only[Bl] at h;split at h;rename_i ag cs a;split at h;rename_i xs b;split at h;rename_i xS e;injection h with h;subst h;have c:nN σ.h v=none:=(by unfold nN;split;simp only[ao.cells?] at a;injection a with a;injection a with _ a;subst a;simp[nA,pY] at b;rfl);obtain⟨o,d⟩:=ZC b σ;simp only[St.jc,c,a,d,acM e σ];cases h;cases h;cases h
theorem ahJ {T:aQ} {d:Option Nat} {f:FuncId} {as:List ao} {v:ao} (h:Aj T f as=some v) (σ:St):rM T d f as σ=some (σ.put d v):=by unfold Aj at h;split at h;rename_i ds M c b;split at h;rename_i rs a;split at h;rename_i ls hl;injection h with h;subst h;simp only[rM,acM c σ,b,a,St.sD];unfold rH;split;simp[iP] at hl;rw[hl];cases h;cases h;cases h
def C.uF:C->Bool
 |.list _ xs=>fh xs
 |_=>true
def C.si:C->Bool
 |.list ..=>true
 |_=>false
def uH:Mode->List (List C)->Bool
 |.aN,xs=>fh xs
 |.live,xs=>xs.all fun e=>e.all C.uF
 |.aM,_=>false
inductive dG where
 |nil (sz:Nat)
 |row (n:Nat)
 |nest (n k off:Nat)
def tP (h:Nat->Option ar) (md:Mode):ah->Option (dG×C)
 |.nil sz=>if 0<sz/\md≠ .aM then some (.nil sz,.list sz []) else none
 |.sl n sz lo len=>match h n with
  |some (.row gr m rs xs)=>if m≠ .aM/\(md=.live->m=.live)/\rs=sz/\lo=0/\len=xs.length/\uH md xs=true/\(m=.live->gr=false) then some (.row n,.list sz xs) else none
  |_=>none
 |.bz n k aD off sz len=>match h n with
  |some (.row false .live rs xs)=>if rs=aD/\md=.aN then
   match(xs[k]?).bind (·[off]?) with
   |some (.list s ys)=>if fh ys=true then some (.nest n k off,.list s ys) else none
   |_=>none
   else none
  |_=>none
 |_=>none
def dG.eS:dG->Option Nat
 |.nil _=>none
 |.row n=>some n
 |.nest n _ _=>some n
def ah.eS:ah->Option Nat
 |.sl n _ _ _=>some n
 |.bz n _ _ _ _ _=>some n
 |_=>none
def oG:List (Option Mode)->List ah->List Nat
 |some _::fs,c::cs=>c.eS.toList++oG fs cs
 |none::fs,_::cs=>oG fs cs
 |_,_=>[]
def kT (h h0:Nat->Option ar):List (Option Mode)->List ah->Option (List C×List (dG×Mode))
 |[],cs=>match jC h0 cs with
  |some xs=>some (xs,[])
  |none=>none
 |none::fs,c::cs=>match cF h0 c,kT h h0 fs cs with
  |some x,some (xs,its)=>some (x::xs,its)
  |_,_=>none
 |some md::fs,c::cs=>match tP h md c,kT h h0 fs cs with
  |some (it,x),some (xs,its)=>some (x::xs,(it,md)::its)
  |_,_=>none
 |_::_,[]=>none
def o9:bP->List (Bool×List ah)->List Nat
 |s::sig,a::as=>oG s a.2++o9 sig as
 |_,_=>[]
def bP.hd:bP->List (Option Mode)
 |[]=>[]
 |s::_=>s
def bP.tl:bP->bP
 |[]=>[]
 |_::sig=>sig
def mQ (h h0:Nat->Option ar):bP->List (Bool×List ah)->Option (List Dv×List (dG×Mode))
 |_,[]=>some ([],[])
 |sig,(ag,cs)::as=>match kT h h0 (bP.hd sig) cs,mQ h h0 (bP.tl sig) as with
  |some (xs,its),some (ds,wM)=>some ((if ag=true then(.agg,xs) else(.one,xs))::ds,its++wM)
  |_,_=>none
def q9:List ao->Option (List (Bool×List ah))
 |[]=>some []
 |v::vs=>match v.cells?,q9 vs with
  |some x,some xs=>some (x::xs)
  |_,_=>none
def dL (h:Nat->Option ar) (ns:List Nat):Nat->Option ar:=fun n=>if ns.contains n=true then none else h n
def St.pj (σ:St):dG->C->Option St
 |.nil _,_=>some σ
 |.row n,.list sz xs=>match σ.h n with
  |some (.row gr m rs _)=>if rs=sz then some (σ.ef n (.row gr m rs xs)) else none
  |_=>none
 |.nest n k off,x=>match σ.h n with
  |some (.row gr m rs xs)=>match xs[k]? with
   |some e=>some (σ.ef n (.row gr m rs (xs.set k (e.set off x))))
   |none=>none
  |_=>none
 |_,_=>none
def St.qf (σ:St):List (dG×Mode)->List C->Option St
 |[],[]=>some σ
 |it::its,x::xs=>match σ.pj it.1 x with
  |some σ1=>σ1.qf its xs
  |none=>none
 |_,_=>none
def rN (T:aQ) (m:Mode) (d:Option Nat) (f:FuncId) (as:List ao) (σ:St):Option St:=
 match aQ.pQ T.yP f,q9 as with
 |some (sig,M),some eI=>
  if(o9 sig eI).Nodup then
   match mQ σ.h (dL σ.h (o9 sig eI)) sig eI with
   |some (ds,its)=>match M ds with
    |some (rs,dN)=>match σ.qf its dN with
     |some σ1=>match σ1.jQ m (qc d) rs with
      |some (ls,σ2)=>some (σ2.put d (lO ls))
      |none=>none
     |none=>none
    |none=>none
   |none=>none
  else none
 |_,_=>none
def ld:Nat->bP
 |0=>[[some .aN]]
 |i+1=>[]::ld i
def dI (n:Nat):Dv:=(.one,[.int .i64 (n:Int)])
def xM (i lo hi:Nat) (M:List Dv->Option (List Dv×List C)) (ds:List Dv):Option (List Dv×List C):=
 match ds[i]? with
 |some (.one,[.list 1 _])=>M (dI lo::dI hi::ds)
 |_=>none
def Fc (h:Nat->Option ar):ao->Option (Nat×Nat×Nat×Nat)
 |.one (.sl n s lo len)=>match h n with
  |some (.row _ _ rs xs)=>if s=1/\rs=1/\lo<xs.length/\lo+len<=xs.length then some (n,lo,len,xs.length) else none
  |_=>none
 |_=>none
def v5 (T:aQ) (m:Mode) (d:Option Nat) (f:FuncId) (as:List ao) (σ:St):Option St:=
 match aQ.tt T.xs f with
 |some (i,M)=>match as[i]? with
  |some a=>match Fc σ.h a with
   |some (n,lo,len,N)=>rN {T with yP:=[(f,ld i,xM i lo (lo+len) M)]} m d f (as.set i (.one (.sl n 1 0 N))) σ
   |none=>none
  |none=>none
 |none=>none
def qF (T:aQ) (f:FuncId) (as:List ao) (h:Nat->Option ar):Option ao:=
 match aQ.tr T.ws f,q9 as with
 |some (sig,M),some eI=>
  match o9 sig eI with
  |[n]=>match mQ h (dL h [n]) sig eI with
   |some (ds,[(.row n',_)])=>if n'=n then match h n,M ds with
    |some (.row _ _ sz _),some (lo,len)=>some (.one (.sl n sz lo len))
    |_,_=>none
    else none
   |_=>none
  |_=>none
 |_,_=>none
def CE (op:BinOp) (k:IntKind) (a b:Int):Option C:=
 match op with
 |.add=>some (.int k (k.wrap (a+b)))
 |.sub=>some (.int k (k.wrap (a - b)))
 |.mul=>some (.int k (k.wrap (a*b)))
 |.quo=>if b=0 then none else some (.int k (k.wrap (a.tdiv b)))
 |.rem=>if b=0 then none else some (.int k (a.tmod b))
 |.and=>some (.int k (bits .and k a b))
 |.or=>some (.int k (bits .or k a b))
 |.xor=>some (.int k (bits .xor k a b))
 |.eql=>some (.bool (a==b))
 |.neq=>some (.bool (a !=b))
 |.lss=>some (.bool (decide (a<b)))
 |.leq=>some (.bool (decide (a<=b)))
 |.gtr=>some (.bool (decide (b<a)))
 |.geq=>some (.bool (decide (b<=a)))
 |_=>none
def ID (op:BinOp) (k:IntKind) (a b:Int):Option C:=
 if b<0 then none else
 match op with
 |.shl=>some (.int k (k.wrap (a*2^(min b.toNat k.bits))))
 |.shr=>some (.int k (a/(2^(min b.toNat k.bits))))
 |_=>none
def BinOp.AS:BinOp->Bool
 |.shl|.shr=>true
 |_=>false
def xN (op:BinOp):ao->ao->Option C
 |.one (.c (.int k a)),.one (.c (.int k' b))=>if BinOp.AS op=true then ID op k a b else if k=k' then CE op k a b else none
 |_,_=>none
def CD (op:BinOp):ao->ao->Option C
 |.one (.c (.bool a)),.one (.c (.bool b))=>match op with
  |.eql=>some (.bool (a==b))
  |.neq=>some (.bool (a !=b))
  |_=>none
 |_,_=>none
def E7 (op:UnOp):ao->Option C
 |.one (.c (.bool a))=>match op with
  |.not=>some (.bool (!a))
  |_=>none
 |.one (.c (.int k a))=>match op with
  |.neg=>some (.int k (k.wrap (0 - a)))
  |_=>none
 |_=>none
def ao.d6:ao->Option Int
 |.one (.c (.int _ n))=>some n
 |_=>none
def fQ:Nat:=140737488355328
def rp (ev:MO->ao):List ah->List (Nat×Nat×MO)->Option (List ah)
 |zs,[]=>some zs
 |zs,(off,sz,x)::ps=>match(ev x).cells? with
  |some (_,cs)=>if cs.length=sz/\off+sz<=zs.length then rp ev (cZ zs off cs) ps else none
  |none=>none
def oK (σ:St) (n:Nat) (gr:Bool) (m:Mode) (rs:Nat) (xs:List (List C)) (k off:Nat) (e:List C) (vs:List ah):Option St:=
 match sub e off vs.length with
 |none=>none
 |some iv=>match σ.f6 vs with
  |none=>none
  |some (cs,o,σ1)=>
   if m=.live then
    if e9 cs=true/\e9 iv=true/\(σ1.h n).isSome=true/\gr=false then some (σ1.ef n (.row gr m rs (xs.set k (cZ e off cs)))) else none
   else if(σ1.h n).isSome=true then
    some (σ1.ef n (.row gr (if o=true then m else .aM) rs (xs.set k (cZ e off cs))))
   else none
def mH:List ah->Option (List C)
 |[]=>some []
 |.c x::l=>if x.eX=true then(mH l).map (x::·) else none
 |_::_=>none
def xi (xs:List (List C)) (k off s i:Nat) (vs:List ah):Option (List (List C)):=
 match(xs[k]?).bind (·[off]?) with
 |some (.list s' ys)=>if s'=s/\vs.length=s/\i<ys.length/\fh ys=true then(mH vs).map fun cs=>xs.set k ((xs.getD k []).set off (.list s' (ys.set i cs))) else none
 |_=>none
def rF (σ:St) (sz:Nat):ao->Option (List (List C)×Mode×St)
 |.one (.nil _)=>some ([],.aN,σ)
 |.one (.sl a s 0 len)=>match σ.h a with
  |some (.row true m rs xs)=>if rs=sz/\s=sz/\len=xs.length then some (xs,m,σ.del a) else none
  |_=>none
 |_=>none
def mF (fl:Bool) (σ1:St) (sz:Nat) (m:Mode):ao->Option (List (List C)×Mode×St)
  |.one (.nil _)=>some ([],m,σ1)
  |.one (.c (.list s ys))=>if s=sz then(if(fl&&fh ys)=true then some (ys,m,σ1) else if m=.live then none else some (ys,.aM,σ1)) else none
  |.one (.sl b s lo len)=>match σ1.h b with
   |some (.row gr m' rs ys)=>if rs=sz/\s=sz/\lo+len<=ys.length then
       (if(fl&&fh ((ys.drop lo).take len))=true then some ((ys.drop lo).take len,m,σ1)
        else if lo=0/\len=ys.length then(if m=m'/\(m=.live->gr=true) then some (ys,m,σ1.del b) else if m=.live\/m'=.live then none else some (ys,.aM,σ1.del b)) else none)
    else none
   |_=>none
  |_=>none
def exec (T:aQ) (d:Option Nat) (op:aV) (σ:St):Option St:=
 match op with
 |.mv x=>some (σ.put d (σ.ev x))
 |.pick c x y=>match σ.ev c with
  |.one (.c (.bool b))=>if b=true then some (σ.put d (σ.ev x)) else some (σ.put d (σ.ev y))
  |_=>none
 |.alloc zs=>match d with
  |some n=>match σ.ins n (.box zs) with
   |some σ1=>some (σ1.put d (.one (.ptr n 0 0 0)))
   |none=>none
  |none=>none
 |.box sz x=>match d,(σ.ev x).cells? with
  |some n,some (_,cs)=>if cs.length=sz then
   match σ.ins n (.box cs) with
   |some σ1=>some (σ1.put d (.one (.ptr n 0 0 0)))
   |none=>none
   else none
  |_,_=>none
 |.build zs parts=>match rp σ.ev zs parts with
  |some cs=>some (σ.put d (.agg cs))
  |none=>none
 |.fG sz parts=>match d,σ.kc sz (parts.map σ.ev) with
  |some n,some (es,o,σ1)=>match σ1.ins n (.row true (if o=true then .aN else .aM) sz es) with
   |some σ2=>some (σ2.put d (.one (.sl n sz 0 es.length)))
   |none=>none
  |_,_=>none
 |.vQ sz parts=>match d,Bj sz (parts.map σ.ev) with
  |some n,some es=>match σ.ins n (.row true .aN sz es) with
   |some σ2=>some (σ2.put d (.one (.sl n sz 0 es.length)))
   |none=>none
  |_,_=>none
 |.load ag sz x=>match σ.ev x with
  |.one p=>match loadAt σ.h p sz with
   |some cs=>some (σ.put d (rv ag cs))
   |none=>none
  |_=>none
 |.store sz x v=>match σ.ev x,(σ.ev v).cells? with
  |.one (.ptr n k aD off),some (_,vs)=>if vs.length=sz then
   match σ.h n with
   |some (.box cs)=>if k=0/\off+sz<=cs.length then some (σ.ef n (.box (cZ cs off vs))) else none
   |some (.row gr m rs xs)=>if aD=rs then
    match xs[k]? with
    |some e=>oK σ n gr m rs xs k off e vs
    |none=>none
    else none
   |none=>none
   else none
  |.one (.cX n k aD off s i),some (_,vs)=>if vs.length=sz then
   match σ.h n with
   |some (.row false .live rs xs)=>if aD=rs then
    match xi xs k off s i vs with
    |some av=>some (σ.ef n (.row false .live rs av))
    |none=>none
    else none
   |_=>none
   else none
  |_,_=>none
 |.bin op x y=>match xN op (σ.ev x) (σ.ev y) with
  |some c=>some (σ.put d (.one (.c c)))
  |none=>none
 |.nO op x y=>match CD op (σ.ev x) (σ.ev y) with
  |some c=>some (σ.put d (.one (.c c)))
  |none=>none
 |.un op x=>match E7 op (σ.ev x) with
  |some c=>some (σ.put d (.one (.c c)))
  |none=>none
 |.kx m sz by_ zs l c=>match d,(σ.ev l).d6,(σ.ev c).d6 with
  |some n,some a,some b=>if a<=b/\0<=a/\b.toNat*by_<=fQ/\zs.length=sz then
   match σ.ins n (.row true m sz (Pd a.toNat zs)) with
   |some σ1=>some (σ1.put d (.one (.sl n sz 0 a.toNat)))
   |none=>none
   else none
  |_,_,_=>none
 |.slice sz x lo hi=>
  let Sq:Option Int:=match lo with|none=>some 0|some l=>(σ.ev l).d6
  match σ.ev x,Sq with
  |.one (.sl n s l0 len),some l=>
   match(match hi with|none=>some (len:Int)|some h=>(σ.ev h).d6) with
   |some h=>if s=sz/\0<=l/\l<=h/\h<=len/\(σ.h n).isSome=true then some (σ.put d (.one (.sl n s (l0+l.toNat) (h - l).toNat))) else none
   |none=>none
  |.one (.c (.list s xs)),some l=>
   match(match hi with|none=>some (xs.length:Int)|some h=>(σ.ev h).d6) with
   |some h=>if s=sz/\0<=l/\l<=h/\h<=xs.length then some (σ.put d (.one (.c (.list s ((xs.drop l.toNat).take (h - l).toNat))))) else none
   |none=>none
  |_,_=>none
 |.nZ off x=>match σ.ev x with
  |.one (.ptr n k sz o)=>if(σ.h n).isSome=true then some (σ.put d (.one (.ptr n k sz (o+off)))) else none
  |.one (.di xs o)=>some (σ.put d (.one (.di xs (o+off))))
  |.one (.cO xs o j n s len)=>some (σ.put d (.one (.cO xs (o+off) j n s len)))
  |_=>none
 |.nz sz x i=>match σ.ev x,(σ.ev i).d6 with
  |.one (.sl n s lo len),some k=>if s=sz/\0<=k/\k<len/\(σ.h n).isSome=true then some (σ.put d (.one (.ptr n (lo+k.toNat) s 0))) else none
  |.one (.c (.list s xs)),some k=>if s=sz/\0<=k then
   match xs[k.toNat]? with
   |some e=>some (σ.put d (.one (.di e 0)))
   |none=>none
   else none
  |.one (.bz n kk aD off s len),some k=>match cF σ.h (.bz n kk aD off s len) with
   |some (.list s' ys)=>if s'=sz/\0<=k/\k<ys.length then some (σ.put d (.one (.cX n kk aD off sz k.toNat))) else none
   |_=>none
  |_,_=>none
 |.lH len x i=>match σ.ev x,(σ.ev i).d6 with
  |.one (.ptr n kk s o),some k=>if 0<=k/\k<len/\(σ.h n).isSome=true then some (σ.put d (.one (.ptr n kk s (o+k.toNat)))) else none
  |_,_=>none
 |.ext i x=>match σ.ev x with
  |.bH xs=>match xs[i]? with
   |some (ag,cs)=>some (σ.put d (rv ag cs))
   |none=>none
  |_=>none
 |.len x=>match σ.ev x with
  |.one (.sl n sz lo len)=>if(σ.h n).isSome=true then some (σ.put d (.one (.c (.int .i64 len)))) else none
  |.one (.c (.list sz xs))=>some (σ.put d (.one (.c (.int .i64 xs.length))))
  |.one (.nil sz)=>some (σ.put d (.one (.c (.int .i64 0))))
  |.one (.bz n k aD off sz len)=>match cF σ.h (.bz n k aD off sz len) with
   |some (.list s ys)=>some (σ.put d (.one (.c (.int .i64 ys.length))))
   |_=>none
  |_=>none
 |.append fl sz by_ x y=>match d with
  |none=>none
  |some n=>match rF σ sz (σ.ev x) with
   |none=>none
   |some (xs,m,σ1)=>match mF fl σ1 sz m (σ.ev y) with
    |none=>none
    |some (ys,m2,σ2)=>
     if(xs.length+ys.length)*by_<=fQ then
      match σ2.ins n (.row true m2 sz (xs++ys)) with
      |some gZ=>some (gZ.put d (.one (.sl n sz 0 (xs.length+ys.length))))
      |none=>none
     else none
 |.copy sz x y=>match σ.ev x,σ.ev y with
  |.one (.sl n s lo len),.one c=>match σ.h n,cF σ.h c with
   |some (.row gr m rs xs),some (.list s' ys)=>if sz=1/\s=1/\rs=1/\s'=1/\m≠ .aM/\fh xs=true/\fh ys=true/\lo+len<=xs.length then
    some ((σ.ef n (.row gr m 1 (cZ xs lo (ys.take len)))).put d (.one (.c (.int .i64 (Nat.min ys.length len:Nat))))) else none
   |_,_=>none
  |_,_=>none
 |.mG z x=>match σ.ev x with
  |.one (.sl n s lo len)=>match σ.h n with
   |some (.row gr m rs xs)=>if s=1/\rs=1/\z.eX=true/\m≠ .aM/\fh xs=true/\lo+len<=xs.length then
    some ((σ.ef n (.row gr m 1 (cZ xs lo (Pd len [z])))).put d (.bH [])) else none
   |_=>none
  |_=>none
 |.mm mx x y=>match σ.ev x,σ.ev y with
  |.one (.c (.int k a)),.one (.c (.int k' b))=>if mx=true then(if a<b then some (σ.put d (.one (.c (.int k b)))) else some (σ.put d (.one (.c (.int k a)))))
   else(if b<a then some (σ.put d (.one (.c (.int k b)))) else some (σ.put d (.one (.c (.int k a)))))
  |_,_=>none
 |.call m f xs=>rL T m d f (xs.map σ.ev) σ
 |.nP f xs=>match vR T f (xs.map σ.ev) σ.h with
  |some v=>some (σ.put d v)
  |none=>none
 |.jo m f xs=>rN T m d f (xs.map σ.ev) σ
 |.kj f xs=>rM T d f (xs.map σ.ev) σ
 |.m9 f xs=>match qF T f (xs.map σ.ev) σ.h with
  |some v=>some (σ.put d v)
  |none=>none
 |.nQ f xs=>match Aj T f (xs.map σ.ev) with
  |some v=>some (σ.put d v)
  |none=>none
 |.nc m f xs=>v5 T m d f (xs.map σ.ev) σ
def ez (T:aQ) (o:bO) (σ:St):Option St:=
 match o.guard with
 |none=>exec T o.dst o.op σ
 |some (s,mC)=>match σ.env s with
  |.one (.c (.bool b))=>if b=mC then exec T o.dst o.op σ else some (σ.put o.dst (.bH []))
  |.bH []=>some (σ.put o.dst (.bH []))
  |_=>none
def fy (T:aQ):List bO->St->Option St
 |[],σ=>some σ
 |o::os,σ=>match ez T o σ with
  |some σ'=>fy T os σ'
  |none=>none
def ah.fN (ok:Nat->Bool):ah->ah
 |.ptr n k sz off=>if ok n=true then .ptr n k sz off else .bC
 |.sl n sz lo len=>if ok n=true then .sl n sz lo len else .bC
 |.bz n k aD off sz len=>if ok n=true then .bz n k aD off sz len else .bC
 |.cX n k aD off sz i=>if ok n=true then .cX n k aD off sz i else .bC
 |.cO xs off j n sz len=>if ok n=true then .cO xs off j n sz len else .bC
 |x=>x
def ah.df (ok:Nat->Bool):ah->ah
 |.fn f dR=>.fn f (dR.map (·.fN ok))
 |x=>x.fN ok
def ao.df (ok:Nat->Bool):ao->ao
 |.one c=>.one (c.df ok)
 |.agg cs=>.agg (cs.map (·.df ok))
 |.bH xs=>.bH (xs.map fun x=>(x.1,x.2.map (·.df ok)))
def ar.df (ok:Nat->Bool):ar->ar
 |.box cs=>.box (cs.map (·.df ok))
 |b=>b
def C0:Nat->ao:=fun _=>.one .bC
def C1:Nat->Option ar:=fun _=>none
def Wu:Nat->Bool:=fun _=>false
def w9 (ok:Nat->Bool) (env:Nat->ao):List Nat->(Nat->ao)
 |[]=>C0
 |s::ss=>aI (w9 ok env ss) s ((env s).df ok)
def sG (ok:Nat->Bool) (h:Nat->Option ar):List Nat->(Nat->Option ar)
 |[]=>C1
 |s::ss=>if ok s=true then match h s with
  |some b=>aI (sG ok h ss) s (some (b.df ok))
  |none=>sG ok h ss
  else sG ok h ss
def xc (ok:Nat->Bool):List Nat->(Nat->Bool)
 |[]=>Wu
 |s::ss=>if ok s=true then aI (xc ok ss) s true else xc ok ss
def ah.yZ (n:Nat):ah->Bool
 |.ptr m _ _ _=>m==n
 |.sl m _ _ _=>m==n
 |.bz m _ _ _ _ _=>m==n
 |.cX m _ _ _ _ _=>m==n
 |.cO _ _ _ m _ _=>m==n
 |_=>false
def ah.gY (n:Nat):ah->Bool
 |.fn _ dR=>dR.any (·.yZ n)
 |x=>x.yZ n
def ao.gY (n:Nat):ao->Bool
 |.one c=>c.gY n
 |.agg cs=>cs.any (·.gY n)
 |.bH xs=>xs.any fun x=>x.2.any (·.gY n)
def St.j6 (σ:St) (ke kh:List Nat):Nat->Bool:=fun n=>kh.contains n&&(σ.h n).isSome&&
 (zbj aX n||ke.any (fun s=>(σ.env s).gY n)||kh.any fun k=>match σ.h k with|some (.box cs)=>cs.any (·.gY n)|_=>false)
def St.jA (σ:St) (ke kh:List Nat):St:=
 {env:=w9 (σ.j6 ke kh) σ.env ke,h:=sG (σ.j6 ke kh) σ.h kh,used:=fun n=>zbj aX n||xc (σ.j6 ke kh) kh n}
def oI (x c n:Nat):Nat:=if n=x then c else n
def ah.pn (x c:Nat):ah->ah
 |.ptr n k sz off=>.ptr (oI x c n) k sz off
 |.sl n sz lo len=>.sl (oI x c n) sz lo len
 |.bz n k aD off sz len=>.bz (oI x c n) k aD off sz len
 |.cX n k aD off sz i=>.cX (oI x c n) k aD off sz i
 |.cO xs off j n sz len=>.cO xs off j (oI x c n) sz len
 |y=>y
def ah.bf (x c:Nat):ah->ah
 |.fn f dR=>.fn f (dR.map (·.pn x c))
 |y=>y.pn x c
def ao.bf (x c:Nat):ao->ao
 |.one y=>.one (y.bf x c)
 |.agg ys=>.agg (ys.map (·.bf x c))
 |.bH ys=>.bH (ys.map fun y=>(y.1,y.2.map (·.bf x c)))
def ar.bf (x c:Nat):ar->ar
 |.box cs=>.box (cs.map (·.bf x c))
 |b=>b
def St.bf (σ:St) (x c:Nat):Option St:=
 if x=c then some σ else if zbj aX x=true then some σ else if σ.used c=true then none else
 some {env:=fun s=>(σ.env s).bf x c,h:=fun n=>if n=c then(σ.h x).map (·.bf x c) else if n=x then none else(σ.h n).map (·.bf x c),used:=fun n=>if n=c then σ.used x else if n=x then false else σ.used n}
def St.lc (σ:St) (c:Nat):Mode->St
 |.aM=>match σ.h c with
  |some (.row gr .aN rs xs)=>σ.ef c (.row gr .aM rs xs)
  |_=>σ
 |_=>σ
def St.canon (σ:St):Bool×Nat×Nat×Nat×Mode->Option St
 |(true,n,j,c,m)=>match σ.h n with
  |some (.box cs)=>match cs[j]? with
   |some (.sl a _ _ _)=>(σ.bf a c).map fun σ1=>σ1.lc c m
   |some (.nil sz)=>if 0<sz then match σ.ins c (.row true m sz []) with
    |some σ1=>some (σ1.ef n (.box (cs.set j (.sl c sz 0 0))))
    |none=>none
    else some σ
   |_=>some σ
  |_=>some σ
 |(false,n,j,c,m)=>match σ.env n with
  |.one (.sl a _ _ _)=>(σ.bf a c).map fun σ1=>σ1.lc c m
  |.one (.nil sz)=>if 0<sz then match σ.ins c (.row true m sz []) with
   |some σ1=>some (σ1.put (some n) (.one (.sl c sz 0 0)))
   |none=>none
   else some σ
  |_=>some σ
def St.uw (σ:St):List (Bool×Nat×Nat×Nat×Mode)->Option St
 |[]=>some σ
 |x::l=>match σ.canon x with
  |some σ1=>σ1.uw l
  |none=>none
def St.head (σ:St) (ke kh:List Nat) (cn:List (Bool×Nat×Nat×Nat×Mode)):Option St:=
 match((σ.jA ke kh).jA ke kh).uw cn with
 |some σ1=>some (σ1.jA ke kh)
 |none=>none
def aV.args:aV->List MO
 |.mv x|.box _ x|.load _ _ x|.un _ x|.nZ _ x|.ext _ x|.len x|.mG _ x=>[x]
 |.pick c x y=>[c,x,y]
 |.alloc _=>[]
 |.build _ ps=>ps.map (·.2.2)
 |.fG _ ps|.vQ _ ps=>ps
 |.store _ x v=>[x,v]
 |.bin _ x y|.nO _ x y|.mm _ x y|.append _ _ _ x y|.copy _ x y|.nz _ x y|.lH _ x y=>[x,y]
 |.kx _ _ _ _ l c=>[l,c]
 |.slice _ x lo hi=>x::(lo.toList++hi.toList)
 |.call _ _ xs|.jo _ _ xs|.nP _ xs|.kj _ xs|.m9 _ xs|.nQ _ xs|.nc _ _ xs=>xs
def aV.Hr:aV->Bool
 |.call ..|.nP ..=>true
 |_=>false
def ah.tS:ah->List Nat
 |.ptr n _ _ _=>[n]
 |.sl n _ _ _=>[n]
 |.bz n _ _ _ _ _=>[n]
 |.cX n _ _ _ _ _=>[n]
 |.cO _ _ _ n _ _=>[n]
 |_=>[]
def ah.nm:ah->List Nat
 |.fn _ dR=>dR.flatMap ah.tS
 |x=>x.tS
def ao.iH:ao->List Nat
 |.one c=>c.nm
 |.agg cs=>cs.flatMap ah.nm
 |.bH xs=>xs.flatMap fun x=>x.2.flatMap ah.nm
def CG (h:Nat->Option ar) (l:List Nat):List Nat:=l.flatMap fun n=>match h n with
 |some (.box cs)=>cs.flatMap ah.nm
 |_=>[]
def aV.j5 (op:aV) (ev:MO->ao):List Nat:=op.args.flatMap fun x=>(ev x).iH
def aV.nG (op:aV) (ev:MO->ao) (h:Nat->Option ar):List Nat:=cond op.Hr (op.j5 ev++CG h (op.j5 ev)) (op.j5 ev)
def aV.lT (op:aV) (ev:MO->ao) (h:Nat->Option ar):Option (List Nat):=
 match op with
 |.store _ x v=>match ev x with
  |.one (.ptr n _ _ _)=>match h n with
   |some (.box _)=>some [n]
   |some (.row ..)=>some (n::(ev v).iH)
   |none=>none
  |.one (.cX n _ _ _ _ _)=>some [n]
  |_=>none
 |.fG _ ps=>some (ps.flatMap fun p=>(ev p).iH)
 |.kj _ xs=>some (xs.flatMap fun p=>(ev p).iH)
 |.append _ _ _ x y=>some ((ev x).iH++(ev y).iH)
 |.copy _ x _|.mG _ x=>match ev x with
  |.one (.sl n _ _ _)=>some [n]
  |_=>none
 |.jo ..|.nc ..=>none
 |_=>some []
abbrev FP:=List Nat×List Nat
def aV.fp (op:aV) (σ:St):Option FP:=(op.lT σ.ev σ.h).map fun w=>(op.nG σ.ev σ.h,w)
def FT (f g:FP):Bool:=f.2.all (fun n=> !(g.1.contains n))&&g.2.all (fun n=> !(f.1.contains n))
def FU:Option FP->Option FP->Bool
 |some f,some g=>FT f g
 |_,_=>false
def nY (o:bO) (e:Nat->ao):Option aV:=
 match o.guard with
 |none=>some o.op
 |some (s,mC)=>match e s with
  |.one (.c (.bool b))=>if b=mC then some o.op else some (.mv (.k (.bH [])))
  |.bH []=>some (.mv (.k (.bH [])))
  |_=>none
def bO.fp (o:bO) (σ:St):Option FP:=
 match nY o σ.env with
 |some op=>op.fp σ
 |none=>none
def wX (ps:List (Nat×Nat)) (fs:List (Option FP)):Bool:=ps.all fun p=>FU (fs.getD p.1 none) (fs.getD p.2 none)
def nq (T:aQ):List bO->List (Option FP)->St->Option (List (Option FP)×St)
 |[],dH,σ=>some (dH,σ)
 |o::os,dH,σ=>match ez T o σ with
  |some σ1=>nq T os (dH++[o.fp σ]) σ1
  |none=>none
def aK:Nat:=2^64
def Ea:Nat->(St->Option s8)->St->Option s8
 |0,_,_=>none
 |n+1,f,σ=>match f σ with
  |some (.fR σ')=>Ea n f σ'
  |o=>o
def ah.iO (n:Nat):ah->ah
 |.bz m k aD off sz len=>match zbi m n with
  |true=>.bC
  |false=>.bz m k aD off sz len
 |.cX m k aD off sz i=>match zbi m n with
  |true=>.bC
  |false=>.cX m k aD off sz i
 |y=>y
def ah.cut (n:Nat):ah->ah
 |.fn f dR=>.fn f (dR.map (·.iO n))
 |y=>y.iO n
def ao.cut (n:Nat):ao->ao
 |.one c=>.one (c.cut n)
 |.agg cs=>.agg (cs.map (·.cut n))
 |.bH xs=>.bH (xs.map fun x=>(x.1,x.2.map (·.cut n)))
def ar.cut (n:Nat):ar->ar
 |.box cs=>.box (cs.map (·.cut n))
 |b=>b
def St.cut (σ:St) (n:Nat):St:={σ with env:=fun s=>(σ.env s).cut n,h:=fun m=>(σ.h m).map (·.cut n)}
def Ee (sp:uo) (σ:St):Option St:=
 match σ.ev sp.mx,σ.ev sp.ml,σ.ev sp.my with
 |.one (.ptr n k rs off),.one (.bz n' k' pz mR s0 yM),.one yc=>
  if n'=n/\k'=k/\pz=rs/\mR=off/\off+1=rs/\n<aX then
   match σ.h n with
   |some (.row true .live rs2 xs)=>if rs2=rs then
    match(xs[k]?).bind (·[off]?),cF σ.h yc with
    |some (.list s ls),some (.list s' ys)=>
     if s=sp.sz/\s'=sp.sz/\fh ls=true/\fh ys=true/\(ls.length+ys.length)*sp.by_<=fQ then
      some ((σ.cut n).ef n (.row true .live rs (xs.set k ((xs.getD k []).set off (.list sp.sz (ls++ys))))))
     else none
    |_,_=>none
    else none
   |_=>none
  else none
 |_,_,_=>none
def dZ (T:aQ):kJ->St->Option s8
 |.skip,σ=>some (.fR σ)
 |.fE _ ops,σ=>match fy T ops σ with
  |some σ'=>some (.fR σ')
  |none=>none
 |.sF ps ops,σ=>match nq T ops [] σ with
  |some (fs,σ')=>cond (wX ps fs) (some (.fR σ')) none
  |none=>none
 |.tV false _ ops sp,σ=>match fy T ops σ with
  |some σ1=>match Ee sp σ1 with
   |some σ'=>some (.fR σ')
   |none=>none
  |none=>none
 |.tV true ps ops sp,σ=>none
 |.seq a b,σ=>match dZ T a σ with
  |some (.fR σ')=>dZ T b σ'
  |o=>o
 |.cond c a b,σ=>match σ.ev c with
  |.one (.c (.bool t))=>if t=true then dZ T a σ else dZ T b σ
  |_=>none
 |.block id c,σ=>match dZ T c σ with
  |some (.ext i σ')=>if i=id then some (.fR σ') else some (.ext i σ')
  |o=>o
 |.join ke kh cn c,σ=>match dZ T c σ with
  |some (.fR σ')=>match σ'.head ke kh cn with
   |some σ1=>some (.fR σ1)
   |none=>none
  |o=>o
 |.loop id ke kh cn c,σ=>Ea aK (fun σ=>match σ.head ke kh cn with|some σ1=>dZ T c σ1|none=>none) σ
 |.exit id,σ=>some (.ext id σ)
 |.ret,σ=>some (.ret σ)
section
variable {B:Nat} {E:Ex} {w0 w w':World} {G G':Gh} {h h':Nat->Option ar} {used used':Nat->Bool} {tk:List PC}
theorem bu.refl (w:World) (G:Gh) (h:Nat->Option ar) (u:Nat->Prop):bu w G h u w G h:= ⟨fun _ h=>h,fun _ _ _=>rfl,fun _ _ h=>⟨h,rfl,rfl,rfl,rfl,rfl⟩,fun n a sz xs _ hn=>⟨⟨a,xs,hn⟩,fun k j pc c b=>⟨pc,c,rfl,b⟩⟩⟩
theorem bu.trans {f d i:World} {g p m:Gh} {e s c:Nat->Option ar} {u u2:Nat->Prop} (l:∀n,u n->u2 n) (a:bu f g e u d p s) (b:bu d p s u2 i m c):bu f g e u i m c:=by refine⟨fun x hx=>b.im x (a.im x hx),fun x hx o=>(b.cell x (a.im x hx) o).trans (a.cell x hx o),fun n hn h=>?_,fun n t sz xs hn h=>?_⟩;obtain⟨v,K,O,E,D,F⟩:=b.name n (l n hn) h;obtain⟨M,J,H,L,B,w⟩:=a.name n hn v;exact⟨M,K.trans J,O.trans H,E.trans L,D.trans B,F.trans w⟩;obtain⟨⟨S,z,N⟩,l2⟩:=b.live n t sz xs (l n hn) h;obtain⟨C,l1⟩:=a.live n S sz z hn N;refine⟨C,fun k j pc p1 G=>?_⟩;obtain⟨q,I,y,P⟩:=l1 k j pc p1 G;obtain⟨r,A,R,Q⟩:=l2 k j q I P;exact⟨r,A,R.trans y,Q⟩
theorem bu.world (f:∀b,G.Im b->w'.heap[b]? =w.heap[b]?) (u:Nat->Prop):bu w G h u w' G h:= ⟨fun _ h=>h,fun b a o=>ik (f b a) o,fun _ _ h=>⟨h,rfl,rfl,rfl,rfl,rfl⟩,fun n c sz xs _ hn=>⟨⟨c,xs,hn⟩,fun k j pc e d=>⟨pc,e,rfl,d⟩⟩⟩
theorem HR.pu (H:HR B E w G h used tk) {n:Nat} {d:Bool} {m:Mode} {sz:Nat} {xs:List (List C)} (hn:h n=some (.row d m sz xs)) {b:Nat} (a:bc b (G.g n).px):b<w.heap.size:=by have hr:=H.row n d m sz xs hn;cases aR:(G.g n).nl with|true=>obtain⟨k,j,c,⟨e,f,_⟩,_⟩:=a;rw[(hr.nl aR).1] at f;simp at f|false=>exact(hr.eG aR).2.1.lt a
theorem HR.grow (H:HR B E w G h used tk) (g:∀b,b<w.heap.size->w'.heap[b]? =w.heap[b]?) (r:w.heap.size<=w'.heap.size):HR B E w' G h used tk:=by have K:bu w G h (fun n=>used n=true) w' G h:=bu.world (fun b a=>g b (H.gN b a)) _;have k:∀b,ek w b->ek w' b:=fun b a=>a.congr (g b a.lt);refine⟨H.jp,H.iK,fun n cs hn=>?_,fun n t m sz xs hn=>?_,fun n hn hl=>?_,H.inj,fun b a=>IS (H.gN b a) r,H.qY,H.gw,H.live,fun i pc x=>?_,H.xq,H.sV⟩;obtain⟨z,s,u⟩:=H.box n cs hn;refine⟨z,k _ s,fun j c q=>?_⟩;obtain⟨v,f,d,l⟩:=u j c q;exact⟨v,(ik (g _ s.lt) _).trans f,d,l.gf K fun m hm=>H.iK n cs c m hn (co q) hm⟩;have hr:=H.row n t m sz xs hn;refine⟨hr.pos,hr.er,hr.nl,fun hl=>?_,fun hl p=>?_,?_,fun p hm=>(hr.nr p hm).congr fun b a=>g b (H.pu hn a)⟩;obtain⟨f,d,l⟩:=hr.eG hl;exact⟨k _ f,d.congr (fun o=>ik (g _ f.lt) o) (fun b' C o=>ik (g _ (d.lt C)) o),l⟩;obtain⟨D,cur,e,A,y⟩:=hr.room hl p;exact⟨D,cur,e,(g _ (hr.eG hl).1.lt).trans A,y⟩;have hm:=hr.mode;(cases m with|aM=>exact hm|aN=>exact⟨fun b a=>⟨(hm.1 b a).1,k _ (hm.1 b a).2.1,(hm.1 b a).2.2⟩,hm.2⟩|live=>exact⟨fun b a=>⟨(hm.1 b a).1,k _ (hm.1 b a).2.1,(hm.1 b a).2.2⟩,hm.2⟩);obtain⟨f,d,l⟩:=H.own n hn hl;exact⟨f,d,IS l r⟩;obtain⟨f,d⟩:=H.sU i pc x;exact⟨f,fun b a=>⟨(d b a).1,k _ (d b a).2.1,(d b a).2.2⟩⟩
theorem Fr.refl (B:Nat) (E:Ex) (w0:World) (a:B<=w0.heap.size):Fr B E w0 w0:= ⟨rfl,rfl,rfl,a,fun _ _ _=>rfl,fun _ _=>Cz.refl _ _⟩
theorem Fr.grow (F:Fr B E w0 w) (c:∀b,b<w.heap.size->w'.heap[b]? =w.heap[b]?) (h:w.heap.size<=w'.heap.size) (g:w'.os=w.os) (e:w'.tape=w.tape) (d:w'.output=w.output):Fr B E w0 w':= ⟨g.trans F.os,e.trans F.tape,d.trans F.output,zas F.size h,fun b a f=>(c b (IS a F.size)).trans (F.block b a f), fun b a=>(F.kD b a).trans (Cz.of_eq (c b (IS a F.size)))⟩
theorem Fr.one (F:Fr B E w0 w) {b0:Nat} (g:B<=b0\/E b0) (c:∀b,b<w.heap.size->b≠b0->w'.heap[b]? =w.heap[b]?) (l:w.heap.size<=w'.heap.size) (j:Cz w w' b0) (k:w'.os=w.os) (i:w'.tape=w.tape) (h:w'.output=w.output):Fr B E w0 w':=by refine⟨k.trans F.os,i.trans F.tape,h.trans F.output,zas F.size l,fun b a e=>?_,fun b a=>?_⟩;refine(c b (IS a F.size) ?_).trans (F.block b a e);rintro rfl;rcases g with f|f;omega;exact e f;by_cases d:b=b0;subst d;exact(F.kD b a).trans j;exact(F.kD b a).trans (Cz.of_eq (c b (IS a F.size) d))
def UN (B:Nat) (E:Ex) (w:World) (G:Gh) (h:Nat->Option ar) (p:PB):ar->Prop
 |.box cs=>p.nl=false/\ek w p.b/\∀(j:Nat) (c:ah),cs[j]? =some c->∃v,w.cell? (ad p.b (p.o+j))=some v/\v.oneCell'=true/\RC w G h c v
 |.row gr m sz xs=>vM B E w G gr m sz xs p
theorem HR.acJ (H:HR B E w G h used tk) {n:Nat} {blk:ar} {p:PB} (hw:∀b,b<w.heap.size->(p.nl=false->b≠p.b)->w'.heap[b]? =w.heap[b]?) (bN:w.heap.size<=w'.heap.size) (ye:∀b,b<w.heap.size->ek w b->ek w' b) (hu:∀m,used m=true->used' m=true) (Re:used' n=true) (qU:p.nl=false->¬G.Im p.b/\(B<=p.b\/E p.b)/\p.b<w'.heap.size) (S:p.nl=false->∀m,m≠n->h m≠none->(G.g m).nl=false->(G.g m).b≠p.b) (QM:p.nl=false->∀m l sz xs,m≠n->h m=some (.row l .live sz xs)->∀b,bc b (G.g m).px->b≠p.b) (u9:∀cs c m,blk=.box cs->c∈cs->c.ref m->used' m=true) (K:∀m cs c v,m≠n->h m=some (.box cs)->c∈cs->RC w G h c v->RC w' ⟨G.Im,aI G.g n p⟩ (aI h n (some blk)) c v) (X:UN B E w' ⟨G.Im,aI G.g n p⟩ (aI h n (some blk)) p blk) (Z:∀l m sz xs,blk=.row l m sz xs->m≠ .aM->∀C I f O M,C≠n->h C=some (.row I f O M)->f≠ .aM->∀b,bc b p.px->¬bc b (G.g C).px) (r6:∀l sz xs,blk=.row l .live sz xs->∀b,bc b p.px->(p.nl=false->b≠p.b)/\∀C,C≠n->h C≠none->(G.g C).nl=false->b≠(G.g C).b) (qV:∀l m sz xs,blk=.row l m sz xs->m≠ .aM->∀(i:Nat) (pc:PC) (b:Nat),tk[i]? =some pc->ba b pc->¬bc b p.px) (mK:p.nl=false->p.b<w.heap.size->∀b,(∃m l x sz xs,m≠n/\h m=some (.row l x sz xs)/\bc b (G.g m).px)->b≠p.b): HR B E w' ⟨G.Im,aI G.g n p⟩ (aI h n (some blk)) used' tk:=by have u:∀m,m≠n->aI h n (some blk) m=h m:=fun m hm=>cQ _ _ _ _ hm;have t:∀m,m≠n->aI G.g n p m=G.g m:=fun m hm=>cQ _ _ _ _ hm;have T:∀m,m≠n->h m≠none->(G.g m).nl=false->w'.heap[(G.g m).b]? =w.heap[(G.g m).b]? :=fun m hm Y hl=> hw _ (H.own m Y hl).2.2 (fun W=>S W m hm Y hl);refine⟨?_,?_,?_,?_,?_,?_,?_,H.qY,?_,?_,?_,?_,?_⟩;intro m hm;by_cases a:m=n;subst a;exact Re;rw[u m a] at hm;exact hu m (H.jp m hm);intro m cs c q hm hc hr;by_cases a:m=n;subst a;rw[cr] at hm;injection hm with hm;exact u9 cs c q hm hc hr;rw[u m a] at hm;exact hu q (H.iK m cs c q hm hc hr);intro m cs hm;by_cases a:m=n;subst a;rw[cr] at hm;injection hm with hm;subst hm;simp only[cr];exact X;rw[u m a] at hm;simp only[t m a];obtain⟨A,y,N⟩:=H.box m cs hm;have D:=T m a (by rw[hm];simp) A;refine⟨A,y.congr D,fun j c hj=>?_⟩;obtain⟨v,b1,b2,b3⟩:=N j c hj;exact⟨v,(ik D _).trans b1,b2,K m cs c v a hm (co hj) b3⟩;intro m l x sz xs hm;by_cases a:m=n;subst a;rw[cr] at hm;injection hm with hm;subst hm;simp only[cr];exact X;rw[u m a] at hm;simp only[t m a];have hr:=H.row m l x sz xs hm;have Q:∀b,bc b (G.g m).px->w'.heap[b]? =w.heap[b]? :=fun b d=> hw b (H.pu hm d) (fun W fA=>by by_cases cm:p.b<w.heap.size;exact mK W cm b ⟨m,l,x,sz,xs,a,hm,d⟩ fA;have:=H.pu hm d;omega);refine⟨hr.pos,hr.er,hr.nl,fun hl=>?_,fun hl R=>?_,?_,fun R hm=>(hr.nr R hm).congr Q⟩;have D:=T m a (by rw[hm];simp) hl;obtain⟨A,y,N⟩:=hr.eG hl;exact⟨A.congr D,y.congr (fun o=>ik D o) (fun b' J o=>ik (Q b' J) o),N⟩;have D:=T m a (by rw[hm];simp) hl;obtain⟨r2,cur,e,r3,r4⟩:=hr.room hl R;exact⟨r2,cur,e,D.trans r3,r4⟩;have z:=hr.mode;(cases x with|aM=>exact z|aN=>exact⟨fun b d=>⟨(z.1 b d).1,(z.1 b d).2.1.congr (Q b d),(z.1 b d).2.2⟩,z.2⟩|live=>exact⟨fun b d=>⟨(z.1 b d).1,(z.1 b d).2.1.congr (Q b d),(z.1 b d).2.2⟩,z.2⟩);intro m hm hl;by_cases a:m=n;subst a;simp only[cr] at hl⊢;exact qU hl;rw[u m a] at hm;simp only[t m a] at hl⊢;obtain⟨A,y,N⟩:=H.own m hm hl;exact⟨A,y,IS N bN⟩;intro m f hm r L hl s;by_cases a:m=n;subst a;have k:f≠m:=fun e=>L e.symm;rw[u f k] at r;simp only[cr,t f k] at hl s⊢;exact fun e=>S hl f k r s e.symm;rw[u m a] at hm;by_cases k:f=n;subst k;simp only[cr,t m a] at hl s⊢;exact S s m a hm hl;rw[u f k] at r;simp only[t m a,t f k] at hl s⊢;exact H.inj m f hm r L hl s;exact fun b d=>IS (H.gN b d) bN;intro m f l x sz xs I V O M hm r d J L b F;by_cases a:m=n;subst a;have k:f≠m:=fun e=>L e.symm;rw[u f k] at r;rw[cr] at hm;injection hm with hm;simp only[cr,t f k] at F⊢;exact Z l x sz xs hm d f I V O M k r J b F;rw[u m a] at hm;by_cases k:f=n;subst k;rw[cr] at r;injection r with r;simp only[cr,t m a] at F⊢;exact fun U=>Z I V O M r J m l x sz xs a hm d b U F;rw[u f k] at r;simp only[t m a,t f k] at F⊢;exact H.gw m f l x sz xs I V O M hm r d J L b F;intro m l sz xs hm b d f r s;by_cases a:m=n;subst a;rw[cr] at hm;injection hm with hm;simp only[cr] at d;have:=r6 l sz xs hm b d;by_cases k:f=m;subst k;simp only[cr] at s⊢;exact this.1 s;rw[u f k] at r;simp only[t f k] at s⊢;exact this.2 f k r s;rw[u m a] at hm;simp only[t m a] at d;by_cases k:f=n;subst k;simp only[cr] at s⊢;exact QM s m l sz xs a hm b d;rw[u f k] at r;simp only[t f k] at s⊢;exact H.live m l sz xs hm b d f r s;intro i pc P;obtain⟨A,y⟩:=H.sU i pc P;exact⟨A,fun b d=>⟨(y b d).1,ye b (H.gN b (y b d).1) (y b d).2.1,(y b d).2.2⟩⟩;exact H.xq;intro i pc m l x sz xs b P hm iQ d;by_cases a:m=n;subst a;rw[cr] at hm;injection hm with hm;simp only[cr];exact qV l x sz xs hm iQ i pc b P d;rw[u m a] at hm;simp only[t m a];exact H.sV i pc m l x sz xs b P hm iQ d
theorem HR.put (H:HR B E w G h used tk) {n:Nat} {blk:ar} {p:PB} (z:∀b,b<w.heap.size->(p.nl=false->b≠p.b)->w'.heap[b]? =w.heap[b]?) (N:w.heap.size<=w'.heap.size) (j:∀b,b<w.heap.size->ek w b->ek w' b) (D:∀m,used m=true->used' m=true) (I:used' n=true) (s:p.nl=false->¬G.Im p.b/\(B<=p.b\/E p.b)/\p.b<w'.heap.size) (A:p.nl=false->∀m,m≠n->h m≠none->(G.g m).nl=false->(G.g m).b≠p.b) (J:p.nl=false->∀m a sz xs,m≠n->h m=some (.row a .live sz xs)->∀b,bc b (G.g m).px->b≠p.b) (t:∀cs c m,blk=.box cs->c∈cs->c.ref m->used' m=true) (K:bu w G h (fun n=>used n=true) w' ⟨G.Im,aI G.g n p⟩ (aI h n (some blk))) (o:UN B E w' ⟨G.Im,aI G.g n p⟩ (aI h n (some blk)) p blk) (x:∀a m sz xs,blk=.row a m sz xs->m≠ .aM->∀d L e f r,d≠n->h d=some (.row L e f r)->e≠ .aM->∀b,bc b p.px->¬bc b (G.g d).px) (M:∀a sz xs,blk=.row a .live sz xs->∀b,bc b p.px->(p.nl=false->b≠p.b)/\∀d,d≠n->h d≠none->(G.g d).nl=false->b≠(G.g d).b) (y:∀a m sz xs,blk=.row a m sz xs->m≠ .aM->∀(i:Nat) (pc:PC) (b:Nat),tk[i]? =some pc->ba b pc->¬bc b p.px) (u:p.nl=false->p.b<w.heap.size->∀b,(∃m a C sz xs,m≠n/\h m=some (.row a C sz xs)/\bc b (G.g m).px)->b≠p.b): HR B E w' ⟨G.Im,aI G.g n p⟩ (aI h n (some blk)) used' tk:= H.acJ z N j D I s A J t (fun m cs c v _ hm k l=>l.gf K fun q F=>H.iK m cs c q hm k F) o x M y u
theorem HR.del (H:HR B E w G h used tk) (n:Nat):HR B E w G (aI h n none) used tk:=by have a:∀m b,aI h n none m=some b->h m=some b/\m≠n:=fun m b hm=>(by by_cases g:m=n;subst g;rw[cr] at hm;cases hm;rw[cQ _ _ _ _ g] at hm;exact⟨hm,g⟩);have f:∀m,aI h n none m≠none->h m≠none:=fun m hm=>(by by_cases g:m=n;subst g;rw[cr] at hm;exact absurd rfl hm;rwa[cQ _ _ _ _ g] at hm);have K:bu w G h (fun n=>used n=true) w G (aI h n none):= ⟨fun _ h=>h,fun _ _ _=>rfl,fun m _ hm=>⟨f m hm,rfl,rfl,rfl,rfl,rfl⟩,fun m d sz xs _ hm=>⟨⟨d,xs,(a m _ hm).1⟩,fun k j pc z L=>⟨pc,z,rfl,L⟩⟩⟩;refine⟨fun m hm=>H.jp m (f m hm),fun m cs c q hm=>H.iK m cs c q (a m _ hm).1,fun m cs hm=>?_,fun m d o sz xs hm=>H.row m d o sz xs (a m _ hm).1, fun m hm=>H.own m (f m hm),fun m e hm l=>H.inj m e (f m hm) (f e l),H.gN,H.qY,fun m e d o sz xs J D r y hm l=>H.gw m e d o sz xs J D r y (a m _ hm).1 (a e _ l).1, fun m d sz xs hm b t e l=>H.live m d sz xs (a m _ hm).1 b t e (f e l),H.sU,H.xq,fun i pc m d o sz xs b x hm=>H.sV i pc m d o sz xs b x (a m _ hm).1⟩;obtain⟨s,M,A⟩:=H.box m cs (a m _ hm).1;refine⟨s,M,fun j c p=>?_⟩;obtain⟨v,u,C,F⟩:=A j c p;exact⟨v,u,C,F.gf K fun q I=>H.iK m cs c q (a m _ hm).1 (co p) I⟩
theorem bu.del (n:Nat) (u:Nat->Prop):bu w G h u w G (aI h n none):=by have c:∀m b,aI h n none m=some b->h m=some b:=fun m b hm=>(by by_cases a:m=n;subst a;rw[cr] at hm;cases hm;rwa[cQ _ _ _ _ a] at hm);refine⟨fun _ h=>h,fun _ _ _=>rfl,fun m _ hm=>?_,fun m d sz xs _ hm=>⟨⟨d,xs,c m _ hm⟩,fun k j pc f e=>⟨pc,f,rfl,e⟩⟩⟩;cases hh:aI h n none m with|none=>exact absurd hh hm|some b=>rw[c m b hh];exact⟨by simp,rfl,rfl,rfl,rfl,rfl⟩
end
theorem qA {α:Type} {px:List (List α)} {lo len k j:Nat} {c:α} (h:At ((px.drop lo).take len) k j c):At px (lo+k) j c/\k<len:=by obtain⟨e,a,b⟩:=h;rw[List.getElem?_take] at a;split at a;rename_i d;rw[zat] at a;exact⟨⟨e,a,b⟩,d⟩;cases a
section
variable {B:Nat} {E:Ex} {w0 w w':World} {G G':Gh} {h h':Nat->Option ar} {used used':Nat->Bool} {tk:List PC}
def kV (p:PB) (sz lo len:Nat) (v:Value):PC:=
 match v with
 |.slice a _ cap=>.list sz a cap ((p.px.drop lo).take len)
 |_=>.bool false
theorem II {r:Bool} {m:Mode} {sz:Nat} {xs:List (List C)} {p:PB} (hr:vM B E w G r m sz xs p) {lo len:Nat} {v:Value} (s:jb p sz lo len v) (hl:lo+len<=xs.length): (kV p sz lo len v).er=.list sz ((xs.drop lo).take len)/\(kV p sz lo len v).val=v/\Good w (kV p sz lo len v)/\ (∀b,ba b (kV p sz lo len v)->(p.nl=false/\b=p.b)\/bc b p.px):=by have hY:p.px.length=xs.length:=(by rw[hr.er];simp);rcases s with⟨hn,rfl,rfl,rfl⟩|⟨hn,a,rfl,hc,q⟩;have h:=(hr.nl hn).1;refine⟨?_,?_,?_,?_⟩;simp[kV,PC.dW];simp[kV,PC.val];simp only[kV,za9,zaR];exact .nil _ _ _ hr.pos;intro b d;simp only[kV,za9,zaR] at d;rw[ba.lK] at d;rcases d with⟨d,_⟩|⟨k,j,c,⟨e,l,_⟩,_⟩;exact absurd rfl d;simp at l;have hlen:((p.px.drop lo).take len).length=len:=(by simp;omega);refine⟨?_,?_,?_,?_⟩;simp only[kV,PC.dW];rw[hr.er,zaW,zaX];simp[kV,PC.val];omega;simp only[kV];by_cases h:(p.px.drop lo).take len=[];rw[h];exact .nil _ _ _ hr.pos;have t:0<len:=(by rcases zaA len with f|f;subst f;simp at h;exact f);have e:=q (.inl (by omega));subst e;obtain⟨a1,n,a3⟩:=hr.eG hn;refine .cons sz p.b (p.o+lo*sz) _ _ h (by omega) hr.pos (fun e l=>n.1 e (zah (zai l))) (fun k j c g=>?_) (fun k j c g=>n.2.2 _ _ _ (qA g).1);have:=n.2.1 _ _ _ (qA g).1;rw[IN] at this;rw[<-this];congr 2;omega;intro b d;simp only[kV] at d;rw[ba.lK] at d;rcases d with⟨d,o,i⟩|⟨k,j,c,g,d⟩;have t:0<len:=(by rcases zaA len with f|f;subst f;simp at d;exact f);have e:=q (.inl (by omega));rw[e] at i;injection i with i;exact .inl ⟨hn,(lV i).1.symm⟩;exact .inr ⟨_,_,_,(qA g).1,d⟩
theorem HR.cF (H:HR B E w G h used tk) {c:ah} {x:C} {v:Value} (hx:cF h c=some x) (d:RC w G h c v):∃pc:PC,pc.er=x/\pc.val=v/\Good w pc:=by cases c with|c y=>simp only[Am.cF] at hx;injection hx with hx;subst hx;obtain⟨pc,p,A,l,_⟩:=d;exact⟨pc,p,A,l⟩|nil sz=>simp only[Am.cF] at hx;split at hx;rename_i o;injection hx with hx;subst hx;have u:v=.slice none 0 0:=d;subst u;exact⟨.list sz none 0 [],by simp[PC.dW],rfl,.nil _ _ _ o⟩;cases hx|sl n sz lo len=>simp only[Am.cF] at hx;split at hx;rename_i a m f xs hn;split at hx;rename_i i;obtain⟨rfl,hl⟩:=i;injection hx with hx;subst hx;have r:jb (G.g n) f lo len v:=d (by rw[hn];simp);obtain⟨j,z,q,_⟩:=II (H.row n a m f xs hn) r hl;exact⟨_,j,z,q⟩;cases hx;cases hx|bz n k aD off sz len=>simp only[Am.cF] at hx;split at hx;rename_i a f xs hn;split at hx;rename_i i;subst i;obtain⟨pc,p1,s,p3⟩:=d a xs hn;have hr:=H.row n a .live f xs hn;have D:(G.g n).nl=false:=(by cases hq:(G.g n).nl with|false=>rfl|true=>obtain⟨e,b,_⟩:=p1;rw[(hr.nl hq).1] at b;simp at b);refine⟨pc,?_,s,(hr.eG D).2.1.2.2 _ _ _ p1⟩;obtain⟨e,b,t⟩:=p1;rw[hr.er] at hx;simp[b,t] at hx;exact hx;cases hx;cases hx|ptr _ _ _ _=>simp[Am.cF] at hx|di _ _=>simp[Am.cF] at hx|cO _ _ _ _ _ _=>simp[Am.cF] at hx|fn _ _=>simp[Am.cF] at hx|cX _ _ _ _ _ _=>simp[Am.cF] at hx|bC=>simp[Am.cF] at hx
theorem HR.jC (H:HR B E w G h used tk):∀{cs:List ah} {xs:List C} {vs:List Value},jC h cs=some xs->dA w G h cs vs->
  ∃b:List PC,b.map PC.er=xs/\b.map PC.val=vs/\∀pc∈b,Good w pc
 |[],xs,vs,hx,hc=>by
  simp only[Am.jC] at hx;injection hx with hx;subst hx;have:vs=[]:=AT (by simpa using hc.1);subst this;exact⟨[],rfl,rfl,by simp⟩
 |c::cs,xs,vs,hx,hc=>by
  simp only[Am.jC] at hx;split at hx
  ·rename_i x av i o;injection hx with hx;subst hx;obtain⟨a,e⟩:=hc;match vs,a with
   |v::vs,a=>
    obtain⟨pc,f,p,k⟩:=H.cF i (e 0 c v rfl rfl).2;obtain⟨b,g,m,n⟩:=H.jC o (cs:=cs) (vs:=vs) ⟨by simpa using a,fun j c u l r=>e (j+1) c u l r⟩;refine⟨pc::b,by simp[f,g],by simp[p,m],fun q d=>?_⟩;cases d with
    |head=>exact k
    |tail _ d=>exact n q d
  ·cases hx
def BN (w:World) (d:Dv) (v:Value):Prop:=
 match d.1 with
 |.one=>∃bV:List PC,bV.map PC.er=d.2/\(∀pc∈bV,Good w pc)/\bV.map PC.val=[v]
 |.agg=>∃bV:List PC,bV.map PC.er=d.2/\(∀pc∈bV,Good w pc)/\v=.agg (bV.map PC.val).toArray
 |.ptr=>∃(bV:List PC) (b o:Nat),bV.map PC.er=d.2/\v=.pointer (some (ad b o))/\b<w.heap.size/\
  ∀j c,bV[j]? =some c->w.cell? (ad b (o+j))=some c.val/\Good w c
def Fg (w:World) (ds:List Dv) (vs:List Value):Prop:=
 vs.length=ds.length/\∀(j:Nat) (d:Dv) (v:Value),ds[j]? =some d->vs[j]? =some v->BN w d v
theorem HR.iZ (H:HR B E w G h used tk) {x:ao} {d:Dv} {v:Value} (hx:iZ h x=some d) (a:RA w G h x v):BN w d v:=by have one:∀c:ah,(Am.cF h c).map (fun x=>((.one,[x]):Dv))=some d->RA w G h (.one c) v->BN w d v:=(by intro c hx a;cases hv:Am.cF h c with|none=>rw[hv] at hx;cases hx|some y=>rw[hv] at hx;simp at hx;subst hx;rcases a with rfl|a;simp[Am.cF] at hv;have r:dA w G h [c] [v]:=a;obtain⟨pc,p,s,q⟩:=H.cF hv (r.2 0 c v rfl rfl).2;exact⟨[pc],by simp[p],by simpa using q,by simp[s]⟩);cases x with|one c=>(cases c with|ptr n k sz off=>simp only[Am.iZ] at hx;split at hx;rename_i cs hn;split at hx;rename_i U;obtain⟨rfl,rfl⟩:=U;(cases hv:Am.jC h cs with|none=>rw[hv] at hx;cases hx|some xs=>rw[hv] at hx;simp at hx;subst hx;rcases a with a|a;cases a;have r:dA w G h [.ptr n 0 sz 0] [v]:=a;have R:=(r.2 0 _ v rfl rfl).2 (by rw[hn];simp);obtain⟨tE,F⟩:=R;obtain⟨q1,J,V⟩:=H.box n cs hn;have I:∀(cs:List ah) (o:Nat) (xs:List C),(∀(j:Nat) (c:ah),cs[j]? =some c->∃v,w.cell? (ad (G.g n).b (o+j))=some v/\v.oneCell'=true/\RC w G h c v)->Am.jC h cs=some xs-> ∃l:List PC,l.map PC.er=xs/\∀j c,l[j]? =some c->w.cell? (ad (G.g n).b (o+j))=some c.val/\Good w c:=(by intro cs;induction cs with|nil=>intro o xs _ hx;simp only[Am.jC] at hx;injection hx with hx;subst hx;exact⟨[],rfl,by simp⟩|cons c cs T=>intro o xs D hx;simp only[Am.jC] at hx;split at hx;rename_i x N O S;injection hx with hx;subst hx;obtain⟨u,K,_,u2⟩:=D 0 c rfl;obtain⟨pc,p,s,q⟩:=H.cF O u2;obtain⟨l,t,z⟩:=T (o+1) N (fun j c m=>by have:=D (j+1) c m;rwa[show o+(j+1)=o+1+j from by omega] at this) S;refine⟨pc::l,by simp[p,t],fun j c m=>?_⟩;(cases j with|zero=>simp at m;subst m;rw[s];exact⟨K,q⟩|succ j=>have:=z j c (by simpa using m);rwa[show o+1+j=o+(j+1) from by omega] at this);cases hx);obtain⟨l,t,z⟩:=I cs (G.g n).o xs V hv;exact⟨l,(G.g n).b,(G.g n).o,t,by simpa using F,J.lt,z⟩);cases hx;cases hx|di xs off=>simp only[Am.iZ] at hx;split at hx;rename_i Q;subst Q;injection hx with hx;subst hx;rcases a with a|a;cases a;have r:dA w G h [.di xs 0] [v]:=a;obtain⟨b,o,pe,p1,P,L,p4⟩:=(r.2 0 _ v rfl rfl).2;exact⟨pe,b,o,P,by simpa using p1,H.gN b L,fun j c m=>⟨(p4 j c m).1,(p4 j c m).2.1⟩⟩;cases hx|c y=>exact one (.c y) hx a|nil sz=>exact one (.nil sz) hx a|sl n sz lo len=>exact one (.sl n sz lo len) hx a|bz n k A off sz len=>exact one (.bz n k A off sz len) hx a|cX n k A off sz i=>exact one (.cX n k A off sz i) hx a|cO xs off j n sz len=>exact one (.cO xs off j n sz len) hx a|fn f M=>exact one (.fn f M) hx a|bC=>exact one .bC hx a)|agg cs=>simp only[Am.iZ] at hx;(cases hv:Am.jC h cs with|none=>rw[hv] at hx;cases hx|some xs=>rw[hv] at hx;simp at hx;subst hx;obtain⟨vs,e,hl⟩:∃vs:List Value,v=.agg vs.toArray/\dA w G h cs vs:=a;obtain⟨l,p,s,q⟩:=H.jC hv hl;exact⟨l,p,q,by rw[e,s]⟩)|bH xs=>simp[Am.iZ] at hx
theorem HR.kf (H:HR B E w G h used tk):∀{xs:List ao} {ds:List Dv} {vs:List Value},kf h xs=some ds->vs.length=xs.length->
  (∀(j:Nat) (x:ao) (v:Value),xs[j]? =some x->vs[j]? =some v->RA w G h x v)->Fg w ds vs
 |[],ds,vs,hx,hl,hc=>by
  simp only[Am.kf] at hx;injection hx with hx;subst hx;exact⟨by simpa using hl,by simp⟩
 |x::xs,ds,vs,hx,hl,hc=>by
  simp only[Am.kf] at hx;split at hx
  ·rename_i d xS f k;injection hx with hx;subst hx;match vs,hl with
   |v::vs,hl=>
    have a:=H.iZ f (hc 0 x v rfl rfl);obtain⟨e,i⟩:=H.kf k (xs:=xs) (vs:=vs) (by simpa using hl) (fun j x v g l=>hc (j+1) x v g l);refine⟨by simp[e],fun j d v c b=>?_⟩;cases j with
    |zero=>simp at c b;subst c;subst b;exact a
    |succ j=>exact i j d v (by simpa using c) (by simpa using b)
  ·cases hx
end
section
variable {B:Nat} {E:Ex} {w0 w w':World} {G G':Gh} {h h':Nat->Option ar} {used used':Nat->Bool} {tk:List PC}
theorem bu.se (S:Nat->Prop) (u:Nat->Prop):bu w G h u w ⟨fun b=>G.Im b\/S b,G.g⟩ h:= ⟨fun _ h=>.inl h,fun _ _ _=>rfl,fun _ _ h=>⟨h,rfl,rfl,rfl,rfl,rfl⟩,fun n a sz xs _ hn=>⟨⟨a,xs,hn⟩,fun k j pc d c=>⟨pc,d,rfl,c⟩⟩⟩
theorem HR.se (H:HR B E w G h used tk) (S:Nat->Prop) (x:∀b,S b->b<w.heap.size) (C:∀b,S b->∀n,h n≠none->(G.g n).nl=false->b≠(G.g n).b) (s:∀b,S b->∀n l sz xs,h n=some (.row l .live sz xs)->¬bc b (G.g n).px) (u:∀b,S b->B<=b\/E b\/E.a b):HR B E w ⟨fun b=>G.Im b\/S b,G.g⟩ h used tk:=by refine⟨H.jp,H.iK,fun n cs hn=>?_,fun n l m sz xs hn=>?_,fun n hn hl=>?_,H.inj,?_,fun b d=>d.elim (H.qY b) (u b),H.gw,H.live,fun i pc k=>?_,H.xq,H.sV⟩;obtain⟨f,e,o⟩:=H.box n cs hn;refine⟨f,e,fun j c r=>?_⟩;obtain⟨v,t,y,z⟩:=o j c r;exact⟨v,t,y,z.gf (bu.se S (fun n=>used n=true)) fun q A=>H.iK n cs c q hn (co r) A⟩;have hr:=H.row n l m sz xs hn;refine⟨hr.pos,hr.er,hr.nl,hr.eG,hr.room,?_,hr.nr⟩;have hm:=hr.mode;(cases m with|aM=>exact fun b d=>.inl (hm b d)|aN=>exact⟨fun b d=>⟨.inl (hm.1 b d).1,(hm.1 b d).2⟩,hm.2⟩|live=>exact⟨fun b d=>⟨fun k=>k.elim (hm.1 b d).1 (fun p=>s b p n l sz xs hn d),(hm.1 b d).2⟩,hm.2⟩);obtain⟨f,e,o⟩:=H.own n hn hl;exact⟨fun k=>k.elim f (fun p=>C _ p n hn hl rfl),e,o⟩;exact fun b d=>d.elim (H.gN b) (x b);obtain⟨f,e⟩:=H.sU i pc k;exact⟨f,fun b d=>⟨.inl (e b d).1,(e b d).2⟩⟩
theorem HR.BK {l:List PC} (H:HR B E w G h used (tk++l)):HR B E w G h used tk:=by have e:∀(i:Nat) (pc:PC),tk[i]? =some pc->(tk++l)[i]? =some pc:=fun i pc a=>(by rw[By (AI.1 a).1];exact a);exact⟨H.jp,H.iK,H.box,H.row,H.own,H.inj,H.gN,H.qY,H.gw,H.live,fun i pc a=>H.sU i pc (e i pc a),fun i j pc c b d k g=>H.xq i j pc c b d (e i pc k) (e j c g), fun i pc n f m sz xs b a=>H.sV i pc n f m sz xs b (e i pc a)⟩
theorem HR.Ur (H:HR B E w G h used tk) {pc:PC} (v:Sep pc) (z:∀b,ba b pc->G.Im b/\ek w b/\(B<=b\/E b)) (l:∀(i:Nat) (q:PC) (b:Nat),tk[i]? =some q->ba b q->¬ba b pc) (u:∀n d m sz xs b,h n=some (.row d m sz xs)->m≠ .aM->ba b pc->¬bc b (G.g n).px):HR B E w G h used (tk++[pc]):=by have e:∀(i:Nat) (q:PC),(tk++[pc])[i]? =some q->(i<tk.length/\tk[i]? =some q)\/(i=tk.length/\q=pc):=fun i q a=>(by rcases zaE i tk.length with o|t|AA;rw[By o] at a;exact .inl ⟨o,a⟩;subst t;simp at a;exact .inr ⟨rfl,a.symm⟩;rw[zaK (by simp;omega)] at a;cases a);refine⟨H.jp,H.iK,H.box,H.row,H.own,H.inj,H.gN,H.qY,H.gw,H.live,fun i q a=>?_,fun i j q f b y a p c=>?_,fun i q n d m sz xs b a hn hm c=>?_⟩;rcases e i q a with⟨_,a⟩|⟨_,rfl⟩;exact H.sU i q a;exact⟨v,z⟩;rcases e i q a with⟨_,r⟩|⟨ei,x⟩;rcases e j f p with⟨_,k⟩|⟨_,s⟩;exact H.xq i j q f b y r k c;rw[s];exact l i q b r c;rcases e j f p with⟨_,k⟩|⟨ej,s⟩;rw[x] at c;exact fun A=>l j f b k A c;omega;rcases e i q a with⟨_,a⟩|⟨_,rfl⟩;exact H.sV i q n d m sz xs b a hn hm c;exact u n d m sz xs b hn hm c
theorem Sep.iI {pc:PC} (d:pc.er.eX=true):Sep pc/\∀b,¬ba b pc:=by cases pc with|int k n=>exact⟨.int k n,fun b c=>by cases c⟩|bool b=>exact⟨.bool b,fun b c=>by cases c⟩|list sz a cap xs=>simp[PC.dW,C.eX] at d
theorem s6.iI {pc:PC} (h:pc.er.eX=true):s6 w pc:=by cases pc with|int k n=>trivial|bool b=>trivial|list sz a cap xs=>rw[PC.dW] at h;cases h
theorem rJ {n m:Nat} {b:ar} (hm:aI h n none m=some b):h m=some b/\m≠n:=by by_cases a:m=n;subst a;rw[cr] at hm;cases hm;rw[cQ _ _ _ _ a] at hm;exact⟨hm,a⟩
theorem CZ {n m:Nat} (hm:aI h n none m≠none):h m≠none/\m≠n:=by cases hh:aI h n none m with|none=>exact absurd hh hm|some b=>obtain⟨a,b⟩:=rJ hh;exact⟨by rw[a];simp,b⟩
def Nl (p:PB):Nat->Prop:=fun b=>(p.nl=false/\b=p.b)\/bc b p.px
theorem HR.freeze (H:HR B E w G h used tk) {n:Nat} {f:Bool} {m:Mode} {j:Nat} {xs:List (List C)} (hn:h n=some (.row f m j xs)): HR B E w ⟨fun b=>G.Im b\/Nl (G.g n) b,G.g⟩ (aI h n none) used tk:=by have hr:=H.row n f m j xs hn;have i:h n≠none:=(by rw[hn];simp);have o:∀b,bc b (G.g n).px->G.Im b\/m=.live:=fun b a=>(by have hm:=hr.mode;cases m with|aM=>exact .inl (hm b a)|aN=>exact .inl (hm.1 b a).1|live=>exact .inr rfl);refine(H.del n).se (Nl (G.g n)) (fun b a=>?_) (fun b a q r hl=>?_) (fun b a q s l p r k=>?_) (fun b a=>?_);rcases a with⟨d,rfl⟩|a;exact(H.own n i d).2.2;exact H.pu hn a;obtain⟨c,t⟩:=CZ r;rcases a with⟨d,rfl⟩|a;exact H.inj n q i c (zaL t) d hl;rcases o b a with e|rfl;rintro rfl;exact(H.own q c hl).1 e;exact H.live n f j xs hn b a q c hl;obtain⟨c,t⟩:=rJ r;rcases a with⟨d,rfl⟩|a;exact H.live q s l p c _ k n i d rfl;rcases o b a with e|rfl;exact((H.row q s .live l p c).mode.1 b k).1 e;exact H.gw n q f .live j xs s .live l p hn c (by simp) (by simp) (zaL t) b a k;rcases a with⟨d,rfl⟩|a;exact(H.own n i d).2.1.imp id .inl;rcases o b a with e|rfl;exact H.qY b e;exact(hr.mode.1 b a).2.2.imp id .inl
theorem jE.sub {px:List (List PC)} (d:jE px) (lo len:Nat):jE ((px.drop lo).take len):=by refine⟨fun k j c a=>d.1 _ _ _ (qA a).1,fun k j c k' j' c' b a g f h=>d.2 _ _ _ _ _ _ b (qA a).1 (qA g).1 (fun e=>f ?_) h⟩;injection e with e1 e2;rw[show k=k' by omega,e2]
theorem HR.f0 {σ σ1:St} (H:HR B E w G σ.h σ.used tk) {c:ah} {x:C} {o:Bool} {v:Value} (hx:σ.f0 c=some (x,o,σ1)) (S:RC w G σ.h c v): ∃(Im':Nat->Prop) (pc:PC),pc.er=x/\pc.val=v/\Good w pc/\(∀b,ba b pc->Im' b)/\ HR B E w ⟨Im',G.g⟩ σ1.h σ.used (if o=true then tk++[pc] else tk)/\bu w G σ.h (fun n=>σ.used n=true) w ⟨Im',G.g⟩ σ1.h/\σ1.env=σ.env/\σ1.used=σ.used/\ (∀n b,σ1.h n=some b->σ.h n=some b):=by cases c with|c y=>simp only[St.f0] at hx;injection hx with hx;injection hx with z l;injection l with l qW;subst z l qW;obtain⟨pc,T,h2,h3,h4⟩:=S;refine⟨G.Im,pc,T,h2,h3,h4,?_,bu.refl _ _ _ _,rfl,rfl,fun _ _ h=>h⟩;by_cases t:y.eX=true;rw[ak t];obtain⟨s1,N⟩:=Sep.iI (pc:=pc) (by rw[T];exact t);exact H.Ur s1 (fun b d=>absurd d (N b)) (fun _ _ b _ _=>N b) (fun _ _ _ _ _ b _ _ d=>absurd d (N b));rw[aq t];exact H|nil sz=>simp only[St.f0] at hx;split at hx;rename_i fc;injection hx with hx;injection hx with z l;injection l with l qW;subst z l qW;have dm:v=.slice none 0 0:=S;subst dm;have J:∀b,¬ba b (.list sz none 0 []):=fun b d=>(by rw[ba.lK] at d;rcases d with⟨d,_⟩|⟨k,j,c,⟨e,f,_⟩,_⟩;exact absurd rfl d;simp at f);refine⟨G.Im,.list sz none 0 [],by simp[PC.dW],rfl,.nil _ _ _ fc,fun b d=>absurd d (J b),?_,bu.refl _ _ _ _,rfl,rfl,fun _ _ h=>h⟩;rw[ak rfl];refine H.Ur (.list _ _ _ _ ?_ ?_ ?_) (fun b d=>absurd d (J b)) (fun _ _ b _ _=>J b) (fun _ _ _ _ _ b _ _ d=>absurd d (J b));rintro k j c ⟨e,f,_⟩;simp at f;rintro b o k j c _ ⟨e,f,_⟩;simp at f;rintro k j c k' j' c' b ⟨e,f,_⟩;simp at f;cases hx|sl n sz lo len=>simp only[St.f0] at hx;split at hx;rename_i I m u xs hn;split at hx;rename_i cY;obtain⟨rfl,rfl,mb⟩:=cY;injection hx with hx;injection hx with z l;injection l with l qW;subst z l qW;have hl:0+len<=xs.length:=(by omega);have p:σ.h n≠none:=(by rw[hn];simp);have t:jb (G.g n) u 0 len v:=S p;have hr:=H.row n I m u xs hn;obtain⟨a1,a2,a3,D⟩:=II hr t hl;have U:=H.freeze hn;have K1:bu w G σ.h (fun n=>σ.used n=true) w ⟨fun b=>G.Im b\/Nl (G.g n) b,G.g⟩ (aI σ.h n none):= bu.trans (fun _ h=>h) (bu.del n (fun n=>σ.used n=true)) (bu.se (Nl (G.g n)) (fun n=>σ.used n=true));refine⟨_,kV (G.g n) u 0 len v,by simpa using a1,a2,a3,fun b d=>.inr (D b d),?_,K1,rfl,rfl,fun q b Q=>(rJ Q).1⟩;by_cases hm:m≠ .aM;rw[ak (by simpa using hm)];have qU:(∀b,bc b (G.g n).px->ek w b/\(B<=b\/E b))/\jE (G.g n).px/\(∀b,bc b (G.g n).px->(G.g n).nl=false->b≠(G.g n).b):=(by have r:=hr.mode;cases m with|aM=>exact absurd rfl hm|aN=>exact⟨fun b d=>(r.1 b d).2,r.2,fun b d hl fA=>(H.own n p hl).1 (fA▸(r.1 b d).1)⟩|live=>exact⟨fun b d=>(r.1 b d).2,r.2,fun b d hl=>H.live n I u xs hn b d n p hl⟩);obtain⟨o1,o2,o3⟩:=qU;refine U.Ur ?_ (fun b d=>⟨.inr (D b d),?_⟩) (fun i q b X d A=>?_) (fun q M L R P b Q Z d F=>?_);rcases t with⟨W,rfl,_,rfl⟩|⟨W,a,rfl,jM,ha⟩;simp only[kV];have hz:(zaM 0 (zaY 0 (G.g n).px))=[]:=(by simp);rw[hz];refine .list _ _ _ _ ?_ ?_ ?_;rintro k j c ⟨e,f,_⟩;simp at f;rintro b o k j c _ ⟨e,f,_⟩;simp at f;rintro k j c k' j' c' b ⟨e,f,_⟩;simp at f;simp only[kV];have Y:=o2.sub 0 len;refine .list _ _ _ _ Y.1 (fun b o k j c K V d=>?_) Y.2;have bW:=(qA V).1;have YY:0<len:=(by have:=(qA V).2;omega);have e:=ha (.inl (by omega));rw[e] at K;injection K with K;exact o3 b ⟨_,_,_,bW,d⟩ W (lV K).1.symm;rcases D b d with⟨s,rfl⟩|A;exact⟨(hr.eG s).1,(H.own n p s).2.1⟩;exact o1 b A;rcases D b A with⟨s,rfl⟩|F;exact(H.own n p s).1 ((H.sU i q X).2 _ d).1;exact H.sV i q n I m u xs b X hn hm d F;obtain⟨O,gK⟩:=rJ Q;rcases D b d with⟨s,rfl⟩|A;have r:=(H.row q M L R P O).mode;(cases L with|aM=>exact absurd rfl Z|aN=>exact(H.own n p s).1 (r.1 _ F).1|live=>exact H.live q M R P O _ F n p s rfl);exact H.gw n q I m u xs M L R P hn O hm Z (zaL gK) b A F;rw[aq (by simpa using hm)];exact U;cases hx;cases hx|ptr _ _ _ _=>simp[St.f0] at hx|di _ _=>simp[St.f0] at hx|cO _ _ _ _ _ _=>simp[St.f0] at hx|bz _ _ _ _ _ _=>simp[St.f0] at hx|fn _ _=>simp[St.f0] at hx|cX _ _ _ _ _ _=>simp[St.f0] at hx|bC=>simp[St.f0] at hx
end
section
variable {B:Nat} {E:Ex} {w0 w w':World} {G G':Gh} {h h':Nat->Option ar} {used used':Nat->Bool} {tk:List PC}
theorem HR.f6:∀{cs:List ah} {σ σ1:St} {G:Gh} {tk:List PC} {xs:List C} {o:Bool} {vs:List Value},HR B E w G σ.h σ.used tk->σ.f6 cs=some (xs,o,σ1)->dA w G σ.h cs vs->
  (∀c∈cs,∀m,c.ref m->σ.used m=true)->
  ∃(Im':Nat->Prop) (f:List PC),f.map PC.er=xs/\f.map PC.val=vs/\(∀pc∈f,Good w pc/\∀b,ba b pc->Im' b)/\
   HR B E w ⟨Im',G.g⟩ σ1.h σ.used (if o=true then tk++f else tk)/\bu w G σ.h (fun n=>σ.used n=true) w ⟨Im',G.g⟩ σ1.h/\σ1.env=σ.env/\σ1.used=σ.used/\
   (∀n b,σ1.h n=some b->σ.h n=some b)
 |[],σ,σ1,G,tk,xs,o,vs,H,hx,hc,hr=>by
  simp only[St.f6] at hx;injection hx with hx;injection hx with s d;injection d with d qW;subst s d qW;have:vs=[]:=AT (by simpa using hc.1);subst this;exact⟨G.Im,[],rfl,rfl,by simp,by simpa using H,bu.refl _ _ _ _,rfl,rfl,fun _ _ h=>h⟩
 |c::cs,σ,σ2,G,tk,xs,o,vs,H,hx,hc,hr=>by
  simp only[St.f6] at hx;split at hx
  ·rename_i x Z σ1 O;split at hx
   ·rename_i av M UL V;injection hx with hx;injection hx with s d;injection d with d qW;subst s d qW;obtain⟨a,z⟩:=hc;match vs,a with
    |v::vs,a=>
     obtain⟨S,pc,F,X,P,W,A,y,N,i,L⟩:=H.f0 O (z 0 c v rfl rfl).2;have D:dA w ⟨S,G.g⟩ σ1.h cs vs:=dA.gf y (fun l r m hm=>hr l (by simp[r]) m hm) ⟨by simpa using a,fun j c u Q Y=>z (j+1) c u Q Y⟩;rw[<-i] at A;obtain⟨T,f,J,R,U,e,t,I,K,b8⟩:=HR.f6 A V D (fun l r m hm=>by rw[i];exact hr l (by simp[r]) m hm);refine⟨T,pc::f,by simp[F,J],by simp[X,R],fun q p=>?_,?_,bu.trans (fun n hn=>by rw[i];exact hn) y t,I.trans N,K.trans i,fun n b k=>L n b (b8 n b k)⟩
     ·cases p with
      |head=>exact⟨P,fun b k=>t.im b (W b k)⟩
      |tail _ p=>exact U q p
     ·rw[i] at e;cases Z<;>cases M<;>simp at e⊢
      ·exact e
      ·exact e.BK
      ·exact e.BK
      ·exact e
   ·cases hx
  ·cases hx
theorem RA.cells {x:ao} {ag:Bool} {cs:List ah} {v:Value} (hx:x.cells?=some (ag,cs)) (a:RA w G h x v):dA w G h cs v.cells.toList:=by cases x with|one c=>have f:c≠ .bC/\ag=false/\cs=[c]:=(by cases c<;>simp[ao.cells?] at hx<;>(obtain⟨rfl,rfl⟩:=hx;simp));obtain⟨b,rfl,rfl⟩:=f;rcases a with rfl|a;exact absurd rfl b;have d:dA w G h [c] [v]:=a;have b:=(d.2 0 c v rfl rfl).1;(cases v<;>first|exact d|(simp[Value.oneCell'] at b))|agg cs'=>simp[ao.cells?] at hx;obtain⟨rfl,rfl⟩:=hx;obtain⟨vs,e,hl⟩:∃vs:List Value,v=.agg vs.toArray/\dA w G h cs' vs:=a;subst e;exact hl|bH xs=>simp[ao.cells?] at hx
theorem ao.zY {x:ao} {ag:Bool} {cs:List ah} (hx:x.cells?=some (ag,cs)) {c:ah} (a:c∈cs) {m:Nat} (hm:c.ref m):x.ref m:=by cases x with|one b=>have d:cs=[b]:=(by cases b<;>simp[ao.cells?] at hx<;>exact hx.2.symm);subst d;simp at a;subst a;exact hm|agg cs'=>simp[ao.cells?] at hx;obtain⟨_,rfl⟩:=hx;exact⟨c,a,hm⟩|bH xs=>simp[ao.cells?] at hx
theorem HR.kc {sz:Nat}:∀{xs:List ao} {σ σ1:St} {G:Gh} {tk:List PC} {es:List (List C)} {o:Bool} {vs:List Value},HR B E w G σ.h σ.used tk->σ.kc sz xs=some (es,o,σ1)->
  vs.length=xs.length->(∀(j:Nat) (x:ao) (v:Value),xs[j]? =some x->vs[j]? =some v->RA w G σ.h x v)->(∀x∈xs,∀m,x.ref m->σ.used m=true)->
  ∃(Im':Nat->Prop) (pes:List (List PC)),pes.map (fun e=>e.map PC.er)=es/\pes.map (fun e=>e.map PC.val)=vs.map (fun v=>v.cells.toList)/\(∀e∈pes,e.length=sz)/\
   (∀e∈pes,∀pc∈e,Good w pc/\∀b,ba b pc->Im' b)/\
   HR B E w ⟨Im',G.g⟩ σ1.h σ.used (if o=true then tk++pes.flatten else tk)/\bu w G σ.h (fun n=>σ.used n=true) w ⟨Im',G.g⟩ σ1.h/\σ1.env=σ.env/\σ1.used=σ.used/\
   (∀n b,σ1.h n=some b->σ.h n=some b)
 |[],σ,σ1,G,tk,es,o,vs,H,hx,hl,hc,hr=>by
  simp only[St.kc] at hx;injection hx with hx;injection hx with p a;injection a with a qW;subst p a qW;have:vs=[]:=AT (by simpa using hl);subst this;exact⟨G.Im,[],rfl,rfl,by simp,by simp,by simpa using H,bu.refl _ _ _ _,rfl,rfl,fun _ _ h=>h⟩
 |x::xs,σ,σ2,G,tk,es,o,vs,H,hx,hl,hc,hr=>by
  simp only[St.kc] at hx;split at hx
  ·rename_i ag cs A;split at hx
   ·rename_i bN;split at hx
    ·rename_i e X σ1 R;split at hx
     ·rename_i es' P UL V;injection hx with hx;injection hx with p a;injection a with a qW;subst p a qW;match vs,hl with
      |v::vs,hl=>
       have D:=(hc 0 x v rfl rfl).cells A;obtain⟨Fl,y,J,F,s,I,z,Q,f,N⟩:=H.f6 R D (fun c' W m hm=>hr x (by simp) m (ao.zY A W hm));rw[<-f] at I;obtain⟨T,pes,L,S,U,k,d,u,K,M,b8⟩:=HR.kc (xs:=xs) (vs:=vs) I V (by simpa using hl)
        (fun j x v t r=>(hc (j+1) x v t r).gf z (fun m hm=>hr x (by simp[co t]) m hm)) (fun x' O m hm=>by rw[f];exact hr x' (by simp[O]) m hm)
       refine⟨T,y::pes,by simp[J,L],by simp[F,S],fun q c=>?_,fun q c pc l=>?_,?_,bu.trans (fun n hn=>by rw[f];exact hn) z u,K.trans Q,M.trans f,fun n b i=>N n b (b8 n b i)⟩
       ·cases c with
        |head=>
         have:(y.map PC.er).length=(v.cells.toList).length:=by rw[<-F];simp
         have r:=D.1;simp at this;simp at r;omega
        |tail _ c=>exact U q c
       ·cases c with
        |head=>exact⟨(s pc l).1,fun b i=>u.im b ((s pc l).2 b i)⟩
        |tail _ c=>exact k q c pc l
       ·rw[f] at d;cases X<;>cases P<;>simp at d⊢
        ·exact d
        ·exact d.BK
        ·exact d.BK
        ·exact d
     ·cases hx
    ·cases hx
   ·cases hx
  ·cases hx
def kI (b:Nat) (pc:PC):Prop:=ba b pc\/∃sz o cap xs,pc=.list sz (some (ad b o)) cap xs/\cap≠0
def Fx (w:World):PC->Prop
 |.list sz a cap xs=>0<sz/\xs.length<=cap/\(cap=0\/∃b o cur e,a=some (ad b o)/\w.heap[b]? =some (.cells cur e (0,0))/\cur.size=o+cap*sz/\cap<=maxLen/\∀k j c,At xs k j c->¬ba b c)
 |_=>True
structure xH (w:World) (B':Nat) (ps:List PC):Prop where
 e7:∀pc∈ps,Good w pc/\Sep pc/\Fx w pc
 new:∀pc∈ps,∀b,kI b pc->B'<=b/\ek w b
 oP:∀(i j:Nat) (pc dQ:PC) (b:Nat),i≠j->ps[i]? =some pc->ps[j]? =some dQ->kI b pc->¬kI b dQ
def sJ:K×List PC->Value
 |(.one,[pc])=>pc.val
 |(_,bV)=>.agg (bV.map PC.val).toArray
def vw:List (K×List PC)->Value
 |[p]=>sJ p
 |l=>.tuple (l.map sJ).toArray
def dd (P:Program) (f:FuncId) (M:List Dv->Option (List Dv)):Prop:=
 ∀ds rs,M ds=some rs->∀(w:World) (vals:List Value),Fg w ds vals->Calls P f vals.toArray w fun e w'=>
  ∃bt:List (K×List PC),bt.map (fun p=>(p.1,p.2.map PC.er))=rs/\e=.returned (vw bt)/\(∀p∈bt,p.1≠ .ptr/\(p.1=.one->p.2.length=1))/\
   xH w' w.heap.size (bt.flatMap (·.2))/\Fr w.heap.size Ex.no w w'
end
section
variable {B:Nat} {E:Ex} {w0 w w':World} {G G':Gh} {h h':Nat->Option ar} {used used':Nat->Bool} {tk:List PC} {N:Nat}
def qw (G:Gh) (h:Nat->Option ar) (b:Nat):Prop:=
 ¬G.Im b/\(∀n,h n≠none->(G.g n).nl=false->(G.g n).b≠b)/\∀n gr m sz xs,h n=some (.row gr m sz xs)->¬bc b (G.g n).px
theorem HR.Ss (H:HR B E w G h used tk):qw G h w.heap.size:= ⟨fun a=>zbb _ (H.gN _ a),fun n hn hl he=>by have:=(H.own n hn hl).2.2;omega,fun n gr m sz xs hn b=>zbb _ (H.pu hn b)⟩
def age (B:Nat) (E:Ex) (w w':World) (G:Gh) (h:Nat->Option ar) (p:PB):ar->Prop
 |.box cs=>p.nl=false/\ek w' p.b/\∀(j:Nat) (c:ah),cs[j]? =some c->∃v,w'.cell? (ad p.b (p.o+j))=some v/\v.oneCell'=true/\RC w G h c v
 |.row gr m sz xs=>vM B E w' G gr m sz xs p
theorem bu.insert (H:HR B E w G h used tk) {n:Nat} {blk:ar} {p:PB} (hn:used n=false) (i:∀b,b<w.heap.size->w'.heap[b]? =w.heap[b]?): bu w G h (fun n=>used n=true) w' ⟨G.Im,aI G.g n p⟩ (aI h n (some blk)):=by have ne:∀m,used m=true->m≠n:=fun m hm e=>(by subst e;rw[hn] at hm;cases hm);refine⟨fun _ h=>h,fun b c o=>ik (i b (H.gN b c)) o,fun m hm a=>?_,fun m d sz xs hm a=>?_⟩;rw[cQ _ _ _ _ (ne m hm)] at a;simp only[cQ _ _ _ _ (ne m hm)];exact⟨a,trivial,trivial,trivial,trivial,trivial⟩;rw[cQ _ _ _ _ (ne m hm)] at a;simp only[cQ _ _ _ _ (ne m hm)];exact⟨⟨d,xs,a⟩,fun k j pc f l=>⟨pc,f,rfl,l⟩⟩
theorem HR.insert (H:HR B E w G h used tk) {n:Nat} {blk:ar} {p:PB} (hn:used n=false) (u:∀b,b<w.heap.size->w'.heap[b]? =w.heap[b]?) (V:w.heap.size<=w'.heap.size) (hl:p.nl=false->qw G h p.b/\(B<=p.b\/E p.b)/\p.b<w'.heap.size) (z:∀cs c m,blk=.box cs->c∈cs->c.ref m->used m=true) (y:age B E w w' G h p blk) (P:∀a m sz xs,blk=.row a m sz xs->m≠ .aM->∀f x q r t,h f=some (.row x q r t)->q≠ .aM->∀b,bc b p.px->¬bc b (G.g f).px) (D:∀a sz xs,blk=.row a .live sz xs->∀b,bc b p.px->(p.nl=false->b≠p.b)/\∀f,h f≠none->(G.g f).nl=false->b≠(G.g f).b) (Q:∀a m sz xs,blk=.row a m sz xs->m≠ .aM->∀(i:Nat) (pc:PC) (b:Nat),tk[i]? =some pc->ba b pc->¬bc b p.px): HR B E w' ⟨G.Im,aI G.g n p⟩ (aI h n (some blk)) (aI used n true) tk:=by have K:=bu.insert H (blk:=blk) (p:=p) hn u;have T:h n=none:=(by cases hh:h n with|none=>rfl|some b=>have:=H.jp n (by rw[hh];simp);rw[hn] at this;cases this);have aJ:∀m,h m≠none->m≠n:=fun m hm e=>(by subst e;exact hm T);have A:∀m,used m=true->aI used n true m=true:=fun m hm=>(by simp only[kE];split;rfl;exact hm);refine H.put (fun b d _=>u b d) V (fun b d I=>I.congr (u b d)) A (cr _ _ _) (fun k=>⟨(hl k).1.1,(hl k).2⟩) (fun k m hm l L=>(hl k).1.2.1 m l L) (fun k m a sz xs hm l b d s=>(hl k).1.2.2 m a _ sz xs l (s▸d)) (fun cs c m d M hr=>A m (z cs c m d M hr)) K ?_ (fun a m sz xs d hm f x q r t _ l=>P a m sz xs d hm f x q r t l) (fun a sz xs d b o=>⟨(D a sz xs d b o).1,fun f _=>(D a sz xs d b o).2 f⟩) Q (fun k _ b d s=>by obtain⟨m,a,R,sz,xs,_,l,o⟩:=d;exact(hl k).1.2.2 m a R sz xs l (s▸o));cases blk with|box cs=>obtain⟨F,U,N⟩:=y;refine⟨F,U,fun j c C=>?_⟩;obtain⟨v,J,O,S⟩:=N j c C;exact⟨v,J,O,S.gf K fun m hm=>z cs c m rfl (co C) hm⟩|row a m sz xs=>have hr:vM B E w' G a m sz xs p:=y;exact⟨hr.pos,hr.er,hr.nl,hr.eG,hr.room,by have:=hr.mode;cases m<;>exact this,hr.nr⟩
theorem R.put {σ:St} {a:Act} (r:R B E w0 N σ a w G) {x:ao} {v:Value} (c:RA w G σ.h x v) (hr:∀m,x.ref m->σ.used m=true) {d:Option Nat} (hd:∀n,d=some n->n<N): R B E w0 N (σ.put d x) (a.put d v) w G:=by cases d with|none=>exact r|some n=>have hn:=hd n rfl;refine⟨r.defers,by simp[Act.put,r.size],fun s=>?_,fun s m hm=>?_,r.hr,r.fr,r.pi,r.wY⟩;simp only[St.put,Act.put];by_cases b:s=n;subst b;rw[cr];have:(a.tmps.setIfInBounds s v).getD s undef=v:=(by simp[zax,r.size,hn]);rw[this];exact c;rw[cQ _ _ _ _ b];have:(a.tmps.setIfInBounds n v).getD s undef=a.tmps.getD s undef:=(by simp[zax,Array.getElem?_setIfInBounds_ne (zaL b)]);rw[this];exact r.env s;simp only[St.put] at hm⊢;by_cases b:s=n;subst b;rw[cr] at hm;exact hr m hm;rw[cQ _ _ _ _ b] at hm;exact r.qq s m hm
theorem R.step {σ:St} {a:Act} (r:R B E w0 N σ a w G) {σ':St} (g:σ'.env=σ.env) (o:∀m,σ.used m=true->σ'.used m=true) (K:bu w G σ.h (fun n=>σ.used n=true) w' G' σ'.h) (H:HR B E w' G' σ'.h σ'.used []) (F:Fr B E w0 w'):R B E w0 N σ' a w' G':= ⟨r.defers,r.size,fun s=>by rw[g];exact(r.env s).gf K (fun m hm=>r.qq s m hm),fun s m hm=>by rw[g] at hm;exact o m (r.qq s m hm),H,F, fun n p b l f=>by have i:=r.wY n (E.lt n p l);obtain⟨z,P,J,y,S,Q⟩:=K.name n i (by rw[f];simp);cases h0:σ.h n with|none=>exact absurd h0 z|some b0=>obtain⟨p1,D,x,p4,q,A⟩:=r.pi n p b0 l h0;refine⟨P.trans p1,J.trans D,y.trans x,S.trans p4,Q.trans q,fun t sz xs u k j pc M hL=>?_⟩;subst u;obtain⟨⟨U,C,c⟩,hl⟩:=K.live n t sz xs i f;rw[h0] at c;injection c with c;obtain⟨e,I,v,V⟩:=A U sz C c k j pc M hL;obtain⟨d,L,T,O⟩:=hl k j e I V;exact⟨d,L,T.trans v,O⟩, fun n hn=>o n (r.wY n hn)⟩
end
def JN:Value->ah->Bool
 |.int k n,.c (.int k' n')=>decide (k=k')&&decide (n=n')
 |.bool b,.c (.bool b')=>decide (b=b')
 |.slice none 0 0,.nil sz=>true
 |.pointer none,.bC=>true
 |_,_=>false
def uA:List Value->List ah->Bool
 |[],[]=>true
 |v::vs,c::cs=>JN v c&&uA vs cs
 |_,_=>false
def bU:Operand->MO->Bool
 |.tmp n,.t m=>n==m
 |.const (.agg vs),.k (.agg cs)=>uA vs.toList cs
 |.const v,.k (.one c)=>JN v c
 |_,_=>false
section
variable {B:Nat} {E:Ex} {w0 w w':World} {G G':Gh} {h h':Nat->Option ar} {used used':Nat->Bool} {tk:List PC} {N:Nat}
theorem VT {v:Value} {c:ah} (a:JN v c=true):RC w G h c v/\v.oneCell'=true/\∀m,¬c.ref m:=by unfold JN at a;split at a;simp at a;obtain⟨rfl,rfl⟩:=a;exact⟨⟨.int _ _,rfl,rfl,.int _ _,fun b d=>by cases d⟩,rfl,fun m hm=>hm⟩;simp at a;subst a;exact⟨⟨.bool _,rfl,rfl,.bool _,fun b d=>by cases d⟩,rfl,fun m hm=>hm⟩;exact⟨rfl,rfl,fun m hm=>hm⟩;exact⟨trivial,rfl,fun m hm=>hm⟩;cases a
theorem JO:∀{vs:List Value} {cs:List ah},uA vs cs=true->dA w G h cs vs/\∀c∈cs,∀m,¬c.ref m
 |[],[],_=>⟨⟨rfl,by simp⟩,by simp⟩
 |v::vs,c::cs,hc=>by simp only[uA,zag] at hc;obtain⟨f,g,k⟩:=VT (w:=w) (G:=G) (h:=h) hc.1;obtain⟨⟨i,n⟩,l⟩:=JO hc.2;refine⟨⟨by simp[i],fun j a u b e=>?_⟩,fun a d=>?_⟩;(cases j with|zero=>simp at b e;subst b;subst e;exact⟨g,f⟩|succ j=>exact n j a u (by simpa using b) (by simpa using e));cases d with|head=>exact k|tail _ d=>exact l a d
 |[],_::_,hc=>by simp[uA] at hc
 |_::_,[],hc=>by simp[uA] at hc
theorem RV.gh {c:ah} {v:Value} (e:v.oneCell'=true) (d:RC w G h c v):RV w G h false [c] v:=by show dA w G h [c] [v];exact⟨rfl,fun j c' u a b=>by cases j with|zero=>simp at a b;subst a;subst b;exact⟨e,d⟩|succ j=>simp at a⟩
theorem RA.gh {c:ah} {v:Value} (a:v.oneCell'=true) (b:RC w G h c v):RA w G h (.one c) v:=.inr (RV.gh a b)
theorem R.ev {σ:St} {a:Act} (r:R B E w0 N σ a w G) {x:Operand} {m:MO} (b:bU x m=true):RA w G σ.h (σ.ev m) (a.eval x)/\∀n,(σ.ev m).ref n->σ.used n=true:=by unfold bU at b;split at b;simp at b;subst b;exact⟨r.env _,fun n hn=>r.qq _ n hn⟩;rename_i vs cs;obtain⟨f,i⟩:=JO (w:=w) (G:=G) (h:=σ.h) b;exact⟨⟨vs.toList,by simp[Act.eval],f⟩,fun n hn=>by obtain⟨c,b,hm⟩:=hn;exact absurd hm (i c b n)⟩;obtain⟨d,e,g⟩:=VT (w:=w) (G:=G) (h:=σ.h) b;exact⟨RA.gh e d,fun n hn=>absurd hn (g n)⟩;cases b
theorem rz {P:Program} {o:Oper} {a:Act} {v:Value} {K:Act->World->Prop} {Q:Exit->Act->World->Prop} (hr:(execOp a.eval o).run P w=.ok (.value v) w') (b:K (a.put o.dst v) w'):o.wp P a w K Q:=by unfold Oper.wp;rw[hr];exact b
theorem Nu {P:Program} {o:Oper} {a:Act} {K:Act->World->Prop} {Q:Exit->Act->World->Prop} (hr:(execOp a.eval o).run P w=.ok .skip w') (b:K (a.put o.dst undef) w'):o.wp P a w K Q:=by unfold Oper.wp;rw[hr];exact b
end
section
variable {B:Nat} {E:Ex} {w0 w w':World} {G G':Gh} {h h':Nat->Option ar} {used used':Nat->Bool} {tk:List PC} {N:Nat}
variable {P:Program} {o:Oper} {a:Act} {σ σ':St} {Q:Exit->Act->World->Prop}
def Nx (B:Nat) (E:Ex) (w0:World) (N:Nat) (σ:St):Act->World->Prop:=fun a w=>∃G,R B E w0 N σ a w G
theorem Vk (w:World) (a:Obj) (b:Nat) (c:b<w.heap.size):(w.alloc a).heap[b]? =w.heap[b]? :=heap_alloc_old w a b c
theorem ek.alloc (w:World) (arr:Array Value) (e:TypeId):ek (w.alloc (.cells arr e)) w.heap.size:=⟨arr,e,heap_alloc_new w _⟩
theorem oA {σ1:St} {n:Nat} {b:ar} (hx:σ.ins n b=some σ1):σ.used n=false/\σ1={σ with h:=aI σ.h n (some b),used:=aI σ.used n true}:=by unfold St.ins at hx;split at hx;cases hx;rename_i a;injection hx with hx;exact⟨by simpa using a,hx.symm⟩
theorem t9 (n m:Nat) (hm:used m=true):aI used n true m=true:=by simp only[kE];split;rfl;exact hm
theorem R.aca (r:R B E w0 N σ a w G) {n:Nat} {cs:List ah} {vs:List Value} {e:TypeId} (hn:σ.used n=false) (i:dA w G σ.h cs vs) (p:∀c∈cs,∀m,c.ref m->σ.used m=true): ∃G',R B E w0 N {σ with h:=aI σ.h n (some (.box cs)),used:=aI σ.used n true} a (w.alloc (.cells vs.toArray e)) G'/\ RA (w.alloc (.cells vs.toArray e)) G' (aI σ.h n (some (.box cs))) (.one (.ptr n 0 0 0)) (.pointer (some (ad w.heap.size 0))):=by have H:=r.hr;have u:=r.fr.size;have d:=Vk w (.cells vs.toArray e);refine⟨⟨G.Im,aI G.g n ⟨false,w.heap.size,0,0,[],none⟩⟩,r.step rfl (fun m hm=>t9 n m hm) (bu.insert H hn d) ?_ (r.fr.grow d (by simp) rfl rfl rfl),?_⟩;refine H.insert hn d (by simp) (fun _=>⟨H.Ss,.inl u,by simp⟩) (fun cs' c m b s hm=>?_) ⟨rfl,ek.alloc _ _ _,fun j c l=>?_⟩ (fun f m sz xs b=>by cases b) (fun f sz xs b=>by cases b) (fun f m sz xs b=>by cases b);injection b with b;subst b;exact p c s m hm;have t:j<vs.length:=(by rw[i.1];exact(AI.1 l).1);have k:vs[j]? =some vs[j]:=AN t;obtain⟨q,o⟩:=i.2 j c _ l k;refine⟨vs[j],?_,q,o⟩;simp only[IT];unfold ad;rw[World.cell?_alloc_new];simp only[zal];exact k;exact RA.gh rfl fun _=>by simp[cr]
theorem ahZ (r:R B E w0 N σ a w G) {n:Nat} {e:TypeId} {i:TypeInfo} {z:Value} {d:List ah} {σ1:St} (t:o.op=.alloc e) (hd:o.dst=some n) (hN:n<N) (g:P.info? e=some i) (p:i.zero=some z) (b:uA z.cells.toList d=true) (hx:σ.ins n (.box d)=some σ1): o.wp P a w (Nx B E w0 N (σ1.put o.dst (.one (.ptr n 0 0 0)))) Q:=by obtain⟨hn,rfl⟩:=oA hx;obtain⟨q,k⟩:=JO (w:=w) (G:=G) (h:=σ.h) b;obtain⟨G',s,j⟩:=r.aca (e:=e) hn q (fun c b m hm=>absurd hm (k c b m));have f:(execOp a.eval o).run P w=.ok (.value (.pointer (some (ad w.heap.size 0)))) (w.alloc (.cells z.cells.toList.toArray e)):=(by simp[execOp,t,Instr.alloc,zeroValue,typeInfo,g,p,newVar,newRow,ad]);exact rz f ⟨G',s.put j (fun m hm=>by have l:m=n:=hm;subst l;exact cr _ _ _) (fun m hm=>by rw[hd] at hm;injection hm with hm;omega)⟩
theorem ah4 (r:R B E w0 N σ a w G) {n:Nat} {e:TypeId} {x:Operand} {m:MO} {ag:Bool} {cs:List ah} {σ1:St} (p:o.op=.box e x) (hd:o.dst=some n) (hN:n<N) (hm:bU x m=true) (d:(σ.ev m).cells?=some (ag,cs)) (hx:σ.ins n (.box cs)=some σ1): o.wp P a w (Nx B E w0 N (σ1.put o.dst (.one (.ptr n 0 0 0)))) Q:=by obtain⟨hn,rfl⟩:=oA hx;obtain⟨i,j⟩:=r.ev hm;obtain⟨G',l,g⟩:=r.aca (e:=e) hn (i.cells d) (fun c h q b=>j q (ao.zY d h b));have f:(execOp a.eval o).run P w=.ok (.value (.pointer (some (ad w.heap.size 0)))) (w.alloc (.cells (a.eval x).cells.toList.toArray e)):=(by simp[execOp,p,Instr.box,newVar,newRow,ad]);exact rz f ⟨G',l.put g (fun q b=>by have k:q=n:=b;subst k;exact cr _ _ _) (fun q b=>by rw[hd] at b;injection b with b;omega)⟩
theorem te {α:Type} {sz:Nat}:∀{px:List (List α)} (_:∀e∈px,e.length=sz) {k j:Nat} {c:α},At px k j c->px.flatten[k*sz+j]? =some c
 |[],_,k,j,c,hk=>by obtain⟨e,a,_⟩:=hk;simp at a
 |e::px,hl,k,j,c,hk=>by obtain⟨f,a,b⟩:=hk;have d:=hl e (by simp);cases k with|zero=>simp at a;subst a;have g:=(AI.1 b).1;simp only[zap,zaN,IT];rw[By g];exact b|succ k=>have h:=te (px:=px) (fun e a=>hl e (by simp[a])) (k:=k) (j:=j) (c:=c) ⟨f,by simpa using a,b⟩;simp only[zap];rw[BY (by rw[d,IN];omega)];rw[show(k+1)*sz+j - e.length=k*sz+j by rw[d,IN];omega];exact h
structure Fs (B:Nat) (E:Ex) (w:World) (G:Gh) (h:Nat->Option ar) (m:Mode) (pes:List (List PC)):Prop where
 n4:∀b,bc b pes->G.Im b/\ek w b/\(B<=b\/E b)
 sep:jE pes
 gw:∀n gr m sz xs,h n=some (.row gr m sz xs)->m≠ .aM->∀b,bc b pes->¬bc b (G.g n).px
 kind:m=.aN\/∀b,¬bc b pes
theorem Vt {α:Type} {sz:Nat} (g:0<sz) {pes:List (List α)} (hl:∀e∈pes,e.length=sz) {k j k' a:Nat} {c p:α} (n:At pes k j c) (q:At pes k' a p) (i:(k,j)≠(k',a)):k*sz+j≠k'*sz+a:=by
 intro m;have b:j<sz:=by obtain⟨f,d,b⟩:=n;rw[<-hl f (co d)];exact(AI.1 b).1
 have h:a<sz:=by obtain⟨f,d,b⟩:=q;rw[<-hl f (co d)];exact(AI.1 b).1
 have o:k=k':=by
  have l:(k*sz+j)/sz=k:=by rw[zaO,za6 g,za3 b];omega
  have h4:(k'*sz+a)/sz=k':=by rw[zaO,za6 g,za3 h];omega
  rw[m] at l;omega
 subst o;exact i (by rw[show j=a by omega])
theorem HR.apm {pes:List (List PC)} {sz:Nat} (o:0<sz) (hl:∀e∈pes,e.length=sz) (H:HR B E w G h used pes.flatten):Fs B E w G h .aN pes:=by refine⟨?_,⟨fun k j c a=>(H.sU _ c (te hl a)).1,fun k j c k' j' l b a f g d=>H.xq _ _ c l b (Vt o hl a f g) (te hl a) (te hl f) d⟩,?_,.inl rfl⟩;rintro b ⟨k,j,c,a,d⟩;exact(H.sU _ c (te hl a)).2 b d;rintro n i m sz xs hn hm b ⟨k,j,c,a,d⟩;exact H.sV _ c n i m sz xs b (te hl a) hn hm d
theorem Sep.Bg {w:World} {q:PC} (i:∀b,¬ba b q) (f:Good w q):Sep q:=by induction f with|int k n=>exact .int k n|bool b=>exact .bool b|nil sz a cap h=>exact .list _ _ _ _ (by rintro k j c ⟨e,d,_⟩;simp at d) (by rintro b o k j c _ ⟨e,d,_⟩;simp at d) (by rintro k j c k' j' c' b ⟨e,d,_⟩;simp at d)|cons sz b o cap xs g h2 h3 h4 h5 h6 ih=>exact absurd (.here _ _ _ _ g) (i b)
theorem Fs.Bg {m:Mode} {pes:List (List PC)} (d:∀b,¬bc b pes) (f:∀k j c,At pes k j c->Good w c):Fs B E w G h m pes:= ⟨fun b a=>absurd a (d b),⟨fun k j c e=>Sep.Bg (fun b a=>d b ⟨k,j,c,e,a⟩) (f k j c e),fun k j c k' j' c' b e _ _ a=>absurd ⟨k,j,c,e,a⟩ (d b)⟩,fun n gr m sz xs _ _ b a=>absurd a (d b),.inr d⟩
theorem R.newRow (r:R B E w0 N σ a w G) {Im':Nat->Prop} {σ1:St} (H:HR B E w ⟨Im',G.g⟩ σ1.h σ.used []) (K:bu w G σ.h (fun n=>σ.used n=true) w ⟨Im',G.g⟩ σ1.h) (F:σ1.env=σ.env) (y:σ1.used=σ.used) {n:Nat} {m:Mode} {sz cap:Nat} {pes:List (List PC)} {arr:Array Value} {e:TypeId} (hn:σ.used n=false) (bN:0<sz) (hl:∀e∈pes,e.length=sz) (v:∀k j c,At pes k j c->Good w c/\∀b,ba b c->Im' b) (P:∀k j c,At pes k j c->arr[k*sz+j]? =some c.val) (X:pes.length<=cap) (Y:cap<=maxLen) (C:arr.size=cap*sz) (hm:m=.aM\/Fs B E w ⟨Im',G.g⟩ σ1.h m pes) (Q:m=.live->∀w',s7 w' sz pes): ∃G',R B E w0 N {σ1 with h:=aI σ1.h n (some (.row true m sz (pes.map fun e=>e.map PC.er))),used:=aI σ1.used n true} a (w.alloc (.cells arr e)) G'/\ RA (w.alloc (.cells arr e)) G' (aI σ1.h n (some (.row true m sz (pes.map fun e=>e.map PC.er)))) (.one (.sl n sz 0 pes.length)) (.slice (some (ad w.heap.size 0)) pes.length cap)/\ bu w ⟨Im',G.g⟩ σ1.h (fun n=>σ.used n=true) (w.alloc (.cells arr e)) G' (aI σ1.h n (some (.row true m sz (pes.map fun e=>e.map PC.er)))):=by have W:=r.fr.size;have f:=Vk w (.cells arr e);have u:HR B E (w.alloc (.cells arr e)) ⟨Im',aI G.g n ⟨false,w.heap.size,0,cap,pes,none⟩⟩ (aI σ1.h n (some (.row true m sz (pes.map fun e=>e.map PC.er)))) (aI σ.used n true) []:=(by refine H.insert (p:=⟨false,w.heap.size,0,cap,pes,none⟩) hn f (by simp) (fun _=>⟨H.Ss,.inl W,by simp⟩) (fun cs c m d=>by cases d) ?_ ?_ ?_ (fun x m sz xs _ _ i pc b J=>by simp at J);refine⟨bN,rfl,(fun hl=>by cases hl),fun _=>⟨ek.alloc _ _ _,⟨hl,fun k j c l=>?_,fun k j c l=>?_⟩,X⟩,fun _ _=>⟨Y,arr,e,heap_alloc_new w _,(IT _).symm▸C⟩,?_,fun _ hl=>Q hl _⟩;simp only[IT];unfold ad;rw[World.cell?_alloc_new];exact P k j c l;exact(v k j c l).1.congr fun b d o=>ik (f b (H.gN b ((v k j c l).2 b d))) o;have L:m≠ .aM->(∀b,bc b pes->Im' b/\ek (w.alloc (.cells arr e)) b/\(B<=b\/E b))/\jE pes:=fun s=> ⟨fun b d=>by have q:=hm.resolve_left s;obtain⟨z,D,q3⟩:=q.n4 b d;exact⟨z,D.congr (f b (H.gN b z)),q3⟩,(hm.resolve_left s).sep⟩;(cases m with|aM=>rintro b ⟨k,j,c,l,d⟩;exact(v k j c l).2 b d|aN=>exact L (by simp)|live=>have q:=hm.resolve_left (by simp);have Z:=q.kind.resolve_left (by simp);exact⟨fun b d=>absurd d (Z b),q.sep⟩);intro x m' A M d s O br T V I S U b t;injection d with _ d _ _;subst d;exact(hm.resolve_left s).gw O br T V I S U b t;intro x A M d b t;injection d with _ d _ _;subst d;exact absurd t ((hm.resolve_left (by simp)).kind.resolve_left (by simp) b));have K2:=bu.trans (u2:=fun n=>σ.used n=true) (fun _ h=>h) K (bu.insert H (blk:=.row true m sz (pes.map fun e=>e.map PC.er)) (p:=⟨false,w.heap.size,0,cap,pes,none⟩) hn f);refine⟨⟨Im',aI G.g n ⟨false,w.heap.size,0,cap,pes,none⟩⟩,r.step F (fun m hm=>by rw[y];exact t9 n m hm) K2 (by rw[y];exact u) (r.fr.grow f (by simp) rfl rfl rfl),?_,bu.insert H (blk:=.row true m sz (pes.map fun e=>e.map PC.er)) (p:=⟨false,w.heap.size,0,cap,pes,none⟩) hn f⟩;refine RA.gh rfl fun _=>.inr ⟨by simp[cr],some (ad w.heap.size 0),?_,?_,?_⟩;simp[cr];simp[cr];omega;simp[cr]
end
def Pf:Value->C->Bool
 |.int k n,.int k' n'=>decide (k=k')&&decide (n=n')
 |.bool b,.bool b'=>decide (b=b')
 |.slice none 0 0,.list sz []=>decide (0<sz)
 |_,_=>false
def vU:List Value->List C->Bool
 |[],[]=>true
 |v::vs,c::cs=>Pf v c&&vU vs cs
 |_,_=>false
def mV:C->PC
 |.int k n=>.int k n
 |.bool b=>.bool b
 |.list sz _=>.list sz none 0 []
theorem ahe {w:World} {v:Value} {c:C} (h:Pf v c=true):(mV c).er=c/\(mV c).val=v/\Good w (mV c)/\∀b,¬ba b (mV c):=by unfold Pf at h;split at h;simp at h;obtain⟨rfl,rfl⟩:=h;exact⟨rfl,rfl,.int _ _,fun b a=>by cases a⟩;simp at h;subst h;exact⟨rfl,rfl,.bool _,fun b a=>by cases a⟩;simp at h;refine⟨by simp[mV,PC.dW],rfl,.nil _ _ _ h,fun b a=>?_⟩;unfold mV at a;rw[ba.lK] at a;rcases a with⟨a,_⟩|⟨k,j,c,⟨e,d,_⟩,_⟩;exact absurd rfl a;simp at d;cases h
theorem Pg {w:World}:∀{vs:List Value} {cs:List C},vU vs cs=true->(cs.map mV).map PC.er=cs/\(cs.map mV).map PC.val=vs/\∀pc∈cs.map mV,Good w pc/\∀b,¬ba b pc
 |[],[],_=>⟨rfl,rfl,by simp⟩
 |v::vs,c::cs,h=>by simp only[vU,zag] at h;obtain⟨e,f,i,d⟩:=ahe (w:=w) h.1;obtain⟨g,k,j⟩:=Pg (w:=w) h.2;refine⟨by simp only[If,e,g],by simp only[If,f,k],fun pc a=>?_⟩;simp only[If,List.mem_cons] at a;rcases a with rfl|a;exact⟨i,d⟩;exact j pc a
 |[],_::_,h=>by simp[vU] at h
 |_::_,[],h=>by simp[vU] at h
theorem FB {α:Type} {n k j:Nat} {e:List α} {c:α} (h:At (Pd n e) k j c):k<n/\e[j]? =some c:=by obtain⟨e',a,b⟩:=h;rw[List.getElem?_replicate] at a;split at a;rename_i d;injection a with a;subst a;exact⟨d,b⟩;cases a
section
variable {B:Nat} {E:Ex} {w0 w w':World} {G G':Gh} {h h':Nat->Option ar} {used used':Nat->Bool} {tk:List PC} {N:Nat}
variable {P:Program} {o:Oper} {a:Act} {σ σ':St} {Q:Exit->Act->World->Prop}
theorem RA.int {x:ao} {n:Int} {v:Value} (hx:x.d6=some n) (a:RA w G h x v):∃k,v=.int k n:=by unfold ao.d6 at hx;split at hx;rename_i k e;injection hx with hx;subst hx;rcases a with a|a;cases a;have d:dA w G h [.c (.int k e)] [v]:=a;obtain⟨pc,b,f,_⟩:=(d.2 0 _ v rfl rfl).2;cases pc<;>simp[PC.er] at b;obtain⟨rfl,rfl⟩:=b;exact⟨_,f.symm⟩;cases hx
theorem aiq (r:R B E w0 N σ a w G) {n:Nat} {t e:TypeId} {i:TypeInfo} {z:Value} {g:List C} {x y:Operand} {mx my:MO} {m:Mode} {sz by_:Nat} {q d:Int} {σ1:St} (ho:o.op=.makeSlice t x y) (hd:o.dst=some n) (hN:n<N) (e8:bU x mx=true) (X:bU y my=true) (ht:P.underlying t=some (.slice e)) (Y:P.info? e=some i) (hz:i.zero=some z) (bN:i.size=sz) (n6:i.bytes=by_) (wi:0<by_) (iT:0<sz) (Z:vU z.cells.toList g=true) (h:(σ.ev mx).d6=some q) (K:(σ.ev my).d6=some d) (fA:q<=d) (U:0<=q) (p:d.toNat*by_<=fQ) (u:g.length=sz) (hx:σ.ins n (.row true m sz (Pd q.toNat g))=some σ1): o.wp P a w (Nx B E w0 N (σ1.put o.dst (.one (.sl n sz 0 q.toNat)))) Q:=by obtain⟨hn,rfl⟩:=oA hx;obtain⟨k1,e1⟩:=(r.ev e8).1.int h;obtain⟨k2,e2⟩:=(r.ev X).1.int K;have AL:q.toNat<=d.toNat:=(by omega);obtain⟨W,T,L⟩:=Pg (w:=w) Z;have atg:d.toNat<=fQ:=zas (zau _ wi) p;have H:z.cells.size=sz:=(by have:((g.map mV).map PC.val).length=z.cells.toList.length:=(by rw[T]);simp at this;omega);have O:=run_make (P:=P) w t e i z ht Y hz k1 k2 q d U fA (by rw[n6];have S:((d.toNat*by_:Nat):Int)<=((fQ:Nat):Int):=(by exact_mod_cast p);rw[Int.natCast_mul,zaS (by omega:0<=d)] at S;rw[Int.mul_comm];have v:((fQ:Nat):Int)=140737488355328:=rfl;omega) (by have v:(fQ:Nat)=140737488355328:=rfl;omega);have I:(execOp a.eval o).run P w=.ok (.value (.slice (some (ad w.heap.size 0)) q.toNat d.toNat)) (w.alloc (.cells (madeCells z.cells (d.toNat*sz)) e)):=(by simp only[execOp,ho,e1,e2];rw[bN] at O;simp[O,ad]);have A:(Pd q.toNat (g.map mV)).map (fun e=>e.map PC.er)=Pd q.toNat g:=(by rw[List.map_replicate,W]);have cN:∀b,¬bc b (Pd q.toNat (g.map mV)):=(by rintro b ⟨k,j,c,f,p⟩;exact(L c (co (FB f).2)).2 b p);have M:∀k j c,At (Pd q.toNat (g.map mV)) k j c->Good w c/\∀b,ba b c->G.Im b:=fun k j c f=> ⟨(L c (co (FB f).2)).1,fun b p=>absurd p ((L c (co (FB f).2)).2 b)⟩;obtain⟨G',r',hv,_⟩:=r.newRow (σ1:=σ) (Im':=G.Im) (m:=m) (sz:=sz) (cap:=d.toNat) (pes:=Pd q.toNat (g.map mV)) (arr:=madeCells z.cells (d.toNat*sz)) (e:=e) r.hr (bu.refl _ _ _ _) rfl rfl hn iT (fun e V=>by rw[(List.mem_replicate.1 V).2];simpa using u) M (fun k j c f=>by obtain⟨S,v⟩:=FB f;have hj:j<sz:=(by have:=(AI.1 v).1;simp at this;omega);have F:k*sz+j<d.toNat*sz:=(by have:(k+1)*sz<=d.toNat*sz:=GB _ (by omega);rw[IN] at this;omega);have J:(k*sz+j)%sz=j:=(by rw[zaO,Nat.mul_add_mod,Nat.mod_eq_of_lt hj]);have hH:z.cells.toList[j]? =some c.val:=(by rw[<-T,wt,v];rfl);have D:z.cells[j]? =some c.val:=(by simpa using hH);have Zw:(k*sz+j)%z.cells.size=j:=(by rw[H];exact J);simp[madeCells,F,Zw];rw[getElem!_def,D]) (by simpa using AL) (by have v:(fQ:Nat)=140737488355328:=rfl;simp only[maxLen];omega) (size_madeCells _ _) (.inr (Fs.Bg cN (fun k j c f=>(M k j c f).1))) (fun _ w' k pc f=>by obtain⟨c,_,rfl⟩:=zaa.1 (co (FB f).2);cases c with|int k n=>trivial|bool b=>trivial|list s l=>exact .inl rfl);rw[A,List.length_replicate] at*;refine rz I ⟨G',r'.put hv (fun q h=>by have K:q=n:=h;subst K;exact cr _ _ _) (fun q h=>by rw[hd] at h;injection h with h;omega)⟩
theorem X8 (off:Nat):∀(vs:List Value) (k:Nat) (cs:Array Value),off+k+vs.length<=cs.size-> ((vs.zipIdx k).foldl (fun(cs:Array Value) (p:Value×Nat)=>cs.setIfInBounds (off+p.2) p.1) cs)=(cs.toList.take (off+k)++vs++cs.toList.drop (off+k+vs.length)).toArray
 |[],k,cs,_=>by simp
 |v::vs,k,cs,h=>by simp only[za4,List.foldl_cons];have h':off+(k+1)+vs.length<=(cs.setIfInBounds (off+k) v).size:=(by simp at h⊢;omega);rw[X8 off vs (k+1) _ h'];have e:=list_seg_step cs.toList (off+k) v vs (by simp at h⊢;omega);rw[zar,<-e];simp[Array.toList_setIfInBounds,Pe]
theorem X9 (off:Nat) (v:Value) (cs:Array Value) (h:off+v.cells.size<=cs.size): (v.cells.zipIdx.foldl (fun cs (c,j)=>cs.setIfInBounds (off+j) c) cs)=(cZ cs.toList off v.cells.toList).toArray:=by have:=X8 off v.cells.toList 0 cs (by simpa using h);rw[<-Array.foldl_toList];simp only[Array.toList_zipIdx];simpa[cZ] using this
theorem WZ (size:Nat):∀(vs:List Value) (a:Nat) (cs:Array Value),(∀v∈vs,v.cells.size=size)->(a+vs.length)*size<=cs.size-> Instr.fill (fun i=>some (i*size,size)) cs ((vs.zipIdx a).map fun p=>(p.2,p.1))=some (cZ cs.toList (a*size) (vs.flatMap fun v=>v.cells.toList)).toArray
 |[],a,cs,_,_=>by simp[Instr.fill,cZ]
 |v::vs,a,cs,hv,hl=>by have e:=hv v (by simp);have l:a*size+v.cells.size<=cs.size:=(by have:(a+1)*size<=(a+(v::vs).length)*size:=GB _ (by simp);rw[IN] at this;omega);simp only[za4,If,Instr.fill];rw[aq (by simp;omega)];rw[X9 _ _ _ l];have b:(cZ cs.toList (a*size) v.cells.toList).length=cs.size:=(by simp[cZ];omega);rw[WZ size vs (a+1) _ (fun h j=>hv h (by simp[j])) (by simp only[zaF,b];simp only[zar] at hl;rwa[show a+1+vs.length=a+(vs.length+1) by omega])];congr 2;have c:v.cells.toList.length=size:=(by simpa using e);have k:(a+1)*size=a*size+size:=(by rw[IN];omega);simp only[cZ,List.flatMap_cons,zav,c];rw[k];have d:(zaM (a*size) cs.toList).length=a*size:=(by simp;omega);have f:zaM (a*size+size) (zaM (a*size) cs.toList++v.cells.toList++zaY (a*size+size) cs.toList)=zaM (a*size) cs.toList++v.cells.toList:=(by apply List.take_left';simp[d,c]);have g:∀x,zaY (a*size+size+x) (zaM (a*size) cs.toList++v.cells.toList++zaY (a*size+size) cs.toList)=zaY (a*size+(size+x)) cs.toList:=(by intro x;rw[List.drop_append,zaI (by simp[d,c])];simp only[zam,List.drop_drop,zav,d,c];congr 1;omega);rw[f,g];simp[zaG]
end
theorem WR {α:Type} (P:Nat->α->Prop):∀n:Nat,(∀j,j<n->∃v,P j v)->∃l:List α,l.length=n/\∀(j:Nat) (u:α),l[j]? =some u->P j u
 |0,_=>⟨[],rfl,by simp⟩
 |n+1,h=>by obtain⟨l,b,e⟩:=WR P n (fun j a=>h j (by omega));obtain⟨v,c⟩:=h n (by omega);refine⟨l++[v],by simp[b],fun j u a=>?_⟩;rcases zaE j n with cm|d|AA;rw[By (by omega)] at a;exact e j u a;subst d;rw[BY (by omega)] at a;simp[b] at a;subst a;exact c;rw[zaK (by simp;omega)] at a;cases a
theorem EU {α:Type} {l a:List α} {off sz:Nat} (h:sub l off sz=some a):off+sz<=l.length/\a=(l.drop off).take sz/\a.length=sz:=by unfold sub at h;split at h;rename_i hl;injection h with h;subst h;exact⟨hl,rfl,by simp;omega⟩;cases h
theorem zu {α:Type} {l:List α} {off sz j:Nat} (a:j<sz):((l.drop off).take sz)[j]? =l[off+j]? :=by rw[zaH a,zat]
theorem aav (n k a:Nat):∀(l:List C) (off:Nat),(iV n k a off l).length=l.length
 |[],_=>rfl
 |c::l,off=>by cases c<;>simp[iV,aav n k a l]
theorem So (n k a:Nat):∀(l:List C) (off j:Nat) (x:ah),(iV n k a off l)[j]? =some x-> (∃c,l[j]? =some c/\c.eX=true/\x=.c c)\/(∃sz ys,l[j]? =some (.list sz ys)/\x=.bz n k a (off+j) sz ys.length)
 |[],off,j,x,h=>by simp[iV] at h
 |c::l,off,j,x,h=>by cases j with|zero=>cases c<;>simp[iV] at h<;>subst h;exact .inl ⟨_,rfl,rfl,rfl⟩;exact .inl ⟨_,rfl,rfl,rfl⟩;exact .inr ⟨_,_,rfl,rfl⟩|succ j=>have h':(iV n k a (off+1) l)[j]? =some x:=(by cases c<;>simpa[iV] using h);rcases So n k a l (off+1) j x h' with⟨f,b,d,e⟩|⟨sz,ys,b,d⟩;exact .inl ⟨f,by simpa using b,d,e⟩;exact .inr ⟨sz,ys,by simpa using b,by rw[d,show off+1+j=off+(j+1) by omega]⟩
section
variable {B:Nat} {E:Ex} {w0 w w':World} {G G':Gh} {h h':Nat->Option ar} {used used':Nat->Bool} {tk:List PC} {N:Nat}
variable {P:Program} {o:Oper} {a:Act} {σ σ':St} {Q:Exit->Act->World->Prop}
theorem WD (r:R B E w0 N σ a w G) {n:Nat} {t e:TypeId} {len:Nat} {parts:Array (Nat×Operand)} {D:List MO} {i:TypeInfo} {z:Value} {sz:Nat} {es:List (List C)} {H:Bool} {σ1 σ2:St}
  (ho:o.op=.buildSlice t len parts) (hd:o.dst=some n) (hN:n<N) (ht:P.underlying t=some (.slice e)) (hi:P.info? e=some i) (hz:i.zero=some z) (bN:i.size=sz) (U:0<sz)
  (hlen:D.length=len) (iq:parts.toList.map (·.1)=List.range len) (Ql:len*sz<=16777216)
  (kM:∀(j:Nat) (p:Nat×Operand) (m:MO),parts.toList[j]? =some p->D[j]? =some m->bU p.2 m=true)
  (Rd:σ.kc sz (D.map σ.ev)=some (es,H,σ1)) (hx:σ1.ins n (.row true (if H=true then .aN else .aM) sz es)=some σ2):
  o.wp P a w (Nx B E w0 N (σ2.put o.dst (.one (.sl n sz 0 es.length)))) Q:=by
 obtain⟨hn,rfl⟩:=oA hx;have M:parts.toList.length=len:=by have:=congrArg za7 iq;simpa using this
 have akP:(parts.toList.map fun p=>a.eval p.2).length=(D.map σ.ev).length:=by simp only[zan];omega
 have YM:∀(j:Nat) (x:ao) (v:Value),(D.map σ.ev)[j]? =some x->(parts.toList.map fun p=>a.eval p.2)[j]? =some v->RA w G σ.h x v/\∀m,x.ref m->σ.used m=true:=by
  intro j x v F u;rw[wt] at F u;cases hp:parts.toList[j]? with
  |none=>rw[hp] at u;cases u
  |some p=>
   cases hm:D[j]? with
   |none=>rw[hm] at F;cases F
   |some m=>
    rw[hm] at F;rw[hp] at u;simp at F u;subst F;subst u;exact r.ev (kM j p m hp hm)
 obtain⟨Im',pes,a1,a2,L,a4,K,a6,a7,a8,a9⟩:=HR.kc (sz:=sz) r.hr Rd akP (fun j x v d h2=>(YM j x v d h2).1) (fun x hx m hm=>by
  obtain⟨j,A,X⟩:=zak hx;have u:(parts.toList.map fun p=>a.eval p.2)[j]? =some ((parts.toList.map fun p=>a.eval p.2)[j]'(by omega)):=AN _;exact(YM j x _ (by rw[AN A,X]) u).2 m hm)
 simp only[zam] at K;have O:pes.length=len:=by
  have:=congrArg za7 a2;simp only[zan] at this;omega
 have Rj:∀v∈(parts.toList.map fun p=>a.eval p.2),v.cells.size=sz:=by
  intro v f;obtain⟨j,A,x6⟩:=zak f;have d:((parts.toList.map fun p=>a.eval p.2).map fun v=>v.cells.toList)[j]? =some v.cells.toList:=by rw[wt,AN A,x6];rfl
  rw[<-a2,wt] at d;cases s:pes[j]? with
  |none=>rw[s] at d;cases d
  |some pe=>
   rw[s] at d;simp at d;have:=L pe (co s);rw[<-zac,<-d];simpa using this
 have T:(parts.map fun p=>(p.1,a.eval p.2)).toList=((parts.toList.map fun p=>a.eval p.2).zipIdx 0).map fun p=>(p.2,p.1):=by
  apply List.ext_getElem?;intro j;simp only[zaw,wt,List.getElem?_zipIdx];cases hp:parts.toList[j]? with
  |none=>simp
  |some p=>
   have jZ:=(AI.1 hp).1;have d:(parts.toList.map (·.1))[j]? =some p.1:=by rw[wt,hp];rfl
   rw[iq,List.getElem?_range (by omega)] at d;injection d with d;simp[d]
 have bX:(execOp a.eval o).run P w=.ok (.value (.slice (some (ad w.heap.size 0)) len len)) (w.alloc (.cells ((parts.toList.map fun p=>a.eval p.2).flatMap fun v=>v.cells.toList).toArray e)):=by
  have Y:((parts.toList.map fun p=>a.eval p.2).flatMap fun v=>v.cells.toList).length=len*sz:=by
   rw[zaT];have:∀(l:List Value),(∀v∈l,v.cells.size=sz)->(l.map fun v=>v.cells.toList.length).sum=l.length*sz:=by
    intro l;induction l with
    |nil=>simp
    |cons v l ih=>
     intro f;simp only[If,zbc,zar];rw[ih (fun V fY=>f V (by simp[fY])),zac,f v (by simp),IN];omega
   rw[this _ Rj];simp[M]
  have YN:∀cs:Array Value,cs.size=len*sz->Instr.fill (fun i=>some (i*sz,sz)) cs (parts.map fun p=>(p.1,a.eval p.2)).toList=some ((parts.toList.map fun p=>a.eval p.2).flatMap fun v=>v.cells.toList).toArray:=by
   intro cs gQ;rw[T,WZ sz _ 0 cs Rj (by simp only[zan,M,IT];omega)];congr 2;simp only[cZ,zaN,zaR,zam,IT];rw[zaI (by rw[Y,zac,gQ];exact zad _)];simp
  by_cases S:len*sz=0
  ·have y:=YN ((zbf 0).map fun _=>default) (by simp[S]);rw[zaw] at y;simp[execOp,ho,Instr.buildSlice,run_underlying ht,sizeOf,typeInfo,hi,bN,S,Nat.not_lt.2 Ql,y,newRow,ad]
  ·have y:=YN ((zbf (len*sz)).map (z.cells[·%z.cells.size]!)) (by simp);rw[zaw] at y;simp[execOp,ho,Instr.buildSlice,run_underlying ht,sizeOf,typeInfo,hi,bN,S,Nat.not_lt.2 Ql,zeroValue,hz,y,newRow,ad]
 have gp:∀k j c,At pes k j c->Good w c/\∀b,ba b c->Im' b:=fun k j c W=>by
  obtain⟨J,I,A⟩:=W;exact a4 J (co I) c (co A)
 have H0:HR B E w ⟨Im',G.g⟩ σ1.h σ.used []:=by
  cases H
  ·simpa using K
  ·have Cv:HR B E w ⟨Im',G.g⟩ σ1.h σ.used ([]++pes.flatten):=by simpa using K
   exact Cv.BK
 obtain⟨G',r',f,_⟩:=r.newRow (m:=if H=true then .aN else .aM) (sz:=sz) (cap:=len) (pes:=pes) (arr:=((parts.toList.map fun p=>a.eval p.2).flatMap fun v=>v.cells.toList).toArray) (e:=e) H0 a6 a7 a8 (by rw[<-a8];exact hn) U L gp
  (fun k j c W=>by
   have bW:At (pes.map fun e=>e.map PC.val) k j c.val:=by
    obtain⟨J,I,A⟩:=W;exact⟨J.map PC.val,by rw[wt,I];rfl,by rw[wt,A];rfl⟩
   have y:=te (sz:=sz) (px:=pes.map fun e=>e.map PC.val) (fun e I=>by
    obtain⟨J,x4,rfl⟩:=zaa.1 I;simpa using L J x4) bW
   rw[a2] at y;simpa[List.flatMap] using y) (by omega) (by
   have h2:sz*len<=16777216:=by rw[zaO];exact Ql
   have h3:len<=len*sz:=zau _ U;simp only[maxLen];omega) (by
   have Qx:((parts.toList.map fun p=>a.eval p.2).flatMap fun v=>v.cells.toList).length=len*sz:=by
    rw[zaT];have:∀(l:List Value),(∀v∈l,v.cells.size=sz)->(l.map fun v=>v.cells.toList.length).sum=l.length*sz:=by
     intro l;induction l with
     |nil=>simp
     |cons v l ih=>
      intro f;simp only[If,zbc,zar];rw[ih (fun V fY=>f V (by simp[fY])),zac,f v (by simp),IN];omega
    rw[this _ Rj];simp[M]
   simpa using Qx) (by
   cases H
   ·exact .inl rfl
   ·right;simp only[if_true];have Cv:HR B E w ⟨Im',G.g⟩ σ1.h σ.used pes.flatten:=by simpa using K
    exact Cv.apm U L) (fun hl=>by cases H<;>cases hl)
 have Z:es.length=pes.length:=by rw[<-a1];simp
 rw[a1] at r' f;rw[Z];rw[O] at f⊢;refine rz bX ⟨G',?_⟩;exact r'.put f (fun q s=>by have fB:q=n:=s;subst fB;exact cr _ _ _) (fun q s=>by rw[hd] at s;injection s with s;omega)
theorem HR.loadAt (H:HR B E w G h used tk) {p:ah} {sz:Nat} {cs:List ah} {v:Value} (hx:loadAt h p sz=some cs) (hc:RC w G h p v) (me:∀m,p.ref m->used m=true):
  ∃(b o:Nat) (vs:List Value),v=.pointer (some (ad b o))/\vs.length=sz/\(∀(j:Nat) (u:Value),vs[j]? =some u->w.cell? (ad b (o+j))=some u)/\dA w G h cs vs/\
   ∀c∈cs,∀m,c.ref m->used m=true:=by
 cases p with
 |ptr n k P off=>
  simp only[Am.loadAt] at hx;split at hx
  ·rename_i f9 hn;split at hx
   ·rename_i hk;subst hk;obtain⟨M,R,W⟩:=EU hx;obtain⟨F,K⟩:=hc (by rw[hn];simp);obtain⟨b1,b2,b3⟩:=H.box n f9 hn;have cU:∀j,j<sz->∃v,w.cell? (ad (G.g n).b ((G.g n).o+off+j))=some v/\∀c,cs[j]? =some c->v.oneCell'=true/\RC w G h c v:=by
     intro j d;have dK:f9[off+j]? =some (f9[off+j]'(by omega)):=AN _;obtain⟨v,v1,v2,v3⟩:=b3 _ _ dK;refine⟨v,by rw[Pe];exact v1,fun c t=>?_⟩;rw[R,zu d,dK] at t;injection t with t;subst t;exact⟨v2,v3⟩
    obtain⟨vs,l1,l2⟩:=WR _ sz cU;refine⟨(G.g n).b,(G.g n).o+off,vs,by rw[K];simp,l1,fun j u d=>(l2 j u d).1,⟨by omega,fun j c u t r=>(l2 j u r).2 c t⟩,fun c A m hm=>?_⟩;refine H.iK n f9 c m hn ?_ hm;rw[R] at A;exact zah (zai A)
   ·cases hx
  ·rename_i gr mo rs xs hn;split at hx
   ·rename_i oY;subst oY;split at hx
    ·rename_i e z;split at hx
     ·rename_i l L;injection hx with hx;obtain⟨M,R,W⟩:=EU L;have hr:=H.row n gr mo P xs hn;obtain⟨F,K⟩:=hc (by rw[hn];simp);obtain⟨r1,r2,r3⟩:=hr.eG F;have jh:∃pe,(G.g n).px[k]? =some pe/\pe.map PC.er=e:=by
       rw[hr.er,wt] at z;cases y:(G.g n).px[k]? with
       |none=>rw[y] at z;cases z
       |some pe=>rw[y] at z;simp at z;exact⟨pe,rfl,z⟩
      obtain⟨pe,r9,u0⟩:=jh;have iq:off+sz<=pe.length:=by rw[<-u0] at M;simpa using M
      have O:∀j,j<sz->∃pc,At (G.g n).px k (off+j) pc/\l[j]? =some pc.er/\((pe.drop off).take sz)[j]? =some pc:=by
       intro j d;have y:pe[off+j]? =some (pe[off+j]'(by omega)):=AN _;refine⟨pe[off+j]'(by omega),⟨pe,r9,y⟩,?_,by rw[zu d];exact y⟩;have Y:l[j]? =((e.drop off).take sz)[j]? :=congrArg (fun q:List C=>q[j]?) R;rw[Y,zu d,<-u0,wt,y];rfl
      have N:(((pe.drop off).take sz).map PC.val).length=sz:=by simp;omega
      refine⟨(G.g n).b,(G.g n).o+k*P+off,((pe.drop off).take sz).map PC.val,K,N,fun j u d=>?_,?_,?_⟩
      ·have T:j<sz:=by have:=(AI.1 d).1;omega
       obtain⟨pc,p1,D,V⟩:=O j T;rw[wt,V] at d;simp at d;subst d;rw[show(G.g n).o+k*P+off+j=(G.g n).o+k*P+(off+j) by omega];exact r2.2.1 _ _ _ p1
      ·subst hx;refine⟨by rw[N];split<;>simp[aav,W],fun j c u t r=>?_⟩
       have T:j<sz:=by have:=(AI.1 r).1;omega
       obtain⟨pc,p1,D,V⟩:=O j T;rw[wt,V] at r;simp at r;subst r;refine⟨PC.kF pc,?_⟩;have X:=r2.2.2 _ _ _ p1;split at t
       ·rename_i r6;subst r6;rcases So n k P l off j c t with⟨J,I,h2,rfl⟩|⟨s,ys,I,rfl⟩
        ·rw[D] at I;injection I with I;exact⟨pc,I,rfl,X,fun b Z=>absurd Z ((Sep.iI (pc:=pc) (by rw[I];exact h2)).2 b)⟩
        ·rw[D] at I;injection I with I;intro br av _;refine⟨pc,p1,rfl,?_⟩;cases pc<;>simp[PC.er] at I<;>rfl
       ·rename_i r6;rw[wt,D] at t;simp at t;subst t;refine⟨pc,rfl,rfl,X,fun b Z=>?_⟩;have hm:=hr.mode;have dk:bc b (G.g n).px:=⟨k,off+j,pc,p1,Z⟩;cases mo with
        |aM=>exact hm b dk
        |aN=>exact(hm.1 b dk).1
        |live=>exact absurd rfl r6
      ·intro c A m hm;subst hx;split at A
       ·obtain⟨j,d,AE⟩:=zak A;rcases So n k P l off j c (by rw[AN d,AE]) with⟨J,I,h2,rfl⟩|⟨s,ys,I,rfl⟩
        ·exact absurd hm (by simp[ah.ref,ah.ie])
        ·have:m=n:=hm;subst this;exact me m rfl
       ·obtain⟨J,_,rfl⟩:=zaa.1 A;exact absurd hm (by simp[ah.ref,ah.ie])
     ·cases hx
    ·cases hx
   ·cases hx
  ·cases hx
 |di xs off=>
  simp only[Am.loadAt] at hx;cases L:sub xs off sz with
  |none=>rw[L] at hx;cases hx
  |some l=>
   rw[L] at hx;simp at hx;subst hx;obtain⟨M,R,W⟩:=EU L;obtain⟨b,o,pe,p1,D,V,p4⟩:=hc;have iq:off+sz<=pe.length:=by rw[<-D] at M;simpa using M
   have N:(((pe.drop off).take sz).map PC.val).length=sz:=by simp;omega
   have O:∀j,j<sz->∃pc,pe[off+j]? =some pc/\l[j]? =some pc.er/\((pe.drop off).take sz)[j]? =some pc:=by
    intro j d;have y:pe[off+j]? =some (pe[off+j]'(by omega)):=AN _;refine⟨pe[off+j]'(by omega),y,?_,by rw[zu d];exact y⟩;have Y:l[j]? =((xs.drop off).take sz)[j]? :=congrArg (fun q:List C=>q[j]?) R;rw[Y,zu d,<-D,wt,y];rfl
   refine⟨b,o+off,_,p1,N,fun j u d=>?_,⟨by rw[N];simp[W],fun j c u t r=>?_⟩,fun c A m hm=>?_⟩
   ·have T:j<sz:=by have:=(AI.1 d).1;omega
    obtain⟨pc,F,K,Q⟩:=O j T;rw[wt,Q] at d;simp at d;subst d;rw[Pe];exact(p4 _ _ F).1
   ·have T:j<sz:=by have:=(AI.1 r).1;omega
    obtain⟨pc,F,K,Q⟩:=O j T;rw[wt,Q] at r;rw[wt,K] at t;simp at r t;subst r;subst t;exact⟨PC.kF pc,pc,rfl,rfl,(p4 _ _ F).2.1,(p4 _ _ F).2.2⟩
   ·obtain⟨J,_,rfl⟩:=zaa.1 A;exact absurd hm (by simp[ah.ref,ah.ie])
 |cO xs off j n s len=>
  simp only[Am.loadAt] at hx;obtain⟨b,o,pe,p1,D,V,p4,u,u1,u2,u3⟩:=hc;split at hx
  ·rename_i cY;obtain⟨rfl,rfl⟩:=cY;injection hx with hx;subst hx;refine⟨b,o+off,[u],p1,rfl,fun i u' S=>?_,⟨rfl,fun i c u' U r=>?_⟩,fun c A m hm=>?_⟩
   ·cases i with
    |zero=>simp at S;subst S;exact u1
    |succ i=>simp at S
   ·cases i with
    |zero=>simp at U r;subst U;subst r;exact⟨u2,u3⟩
    |succ i=>simp at r
   ·simp at A;subst A;have:m=n:=hm;subst this;exact me m rfl
  ·split at hx
   ·rename_i cm;cases L:sub xs off sz with
    |none=>rw[L] at hx;cases hx
    |some l=>
     rw[L] at hx;simp at hx;subst hx;obtain⟨M,R,W⟩:=EU L;have iq:off+sz<=pe.length:=by rw[<-D] at M;simpa using M
     have N:(((pe.drop off).take sz).map PC.val).length=sz:=by simp;omega
     have O:∀j,j<sz->∃pc,pe[off+j]? =some pc/\l[j]? =some pc.er/\((pe.drop off).take sz)[j]? =some pc:=by
      intro j d;have y:pe[off+j]? =some (pe[off+j]'(by omega)):=AN _;refine⟨pe[off+j]'(by omega),y,?_,by rw[zu d];exact y⟩;have Y:l[j]? =((xs.drop off).take sz)[j]? :=congrArg (fun q:List C=>q[j]?) R;rw[Y,zu d,<-D,wt,y];rfl
     refine⟨b,o+off,_,p1,N,fun i u S=>?_,⟨by rw[N];simp[W],fun i c u U r=>?_⟩,fun c A m hm=>?_⟩
     ·have GH:i<sz:=by have:=(AI.1 S).1;omega
      obtain⟨pc,F,K,Q⟩:=O i GH;rw[wt,Q] at S;simp at S;subst S;rw[Pe];exact(p4 _ _ (by omega) F).1
     ·have GH:i<sz:=by have:=(AI.1 r).1;omega
      obtain⟨pc,F,K,Q⟩:=O i GH;rw[wt,Q] at r;rw[wt,K] at U;simp at r U;subst r;subst U;exact⟨PC.kF pc,pc,rfl,rfl,(p4 _ _ (by omega) F).2.1,(p4 _ _ (by omega) F).2.2⟩
     ·obtain⟨J,_,rfl⟩:=zaa.1 A;exact absurd hm (by simp[ah.ref,ah.ie])
   ·cases hx
 |c x=>simp[Am.loadAt] at hx
 |nil sz=>simp[Am.loadAt] at hx
 |sl n sz lo len=>simp[Am.loadAt] at hx
 |bz n k P off sz len=>simp[Am.loadAt] at hx
 |cX n k P off s i=>
  simp only[Am.loadAt] at hx;split at hx
  ·rename_i gr rs xs hn;split at hx
   ·rename_i oY;subst oY;split at hx
    ·rename_i s' ys rW;split at hx
     ·rename_i cY;obtain⟨pS,qN⟩:=cY;split at hx
      ·rename_i e z;split at hx
       ·rename_i ot;injection hx with hx;subst hx;obtain⟨pc,b,o,len,cap,p1,D,V,p4⟩:=hc gr xs hn;have hr:=H.row n gr .live rs xs hn;have aR:(G.g n).nl=false:=by
         cases hq:(G.g n).nl with
         |false=>rfl
         |true=>obtain⟨e,z,_⟩:=p1;rw[(hr.nl hq).1] at z;simp at z
        have X:Good w pc:=(hr.eG aR).2.1.2.2 _ _ _ p1;have km:pc.er=.list s' ys:=by
         obtain⟨e',Dm,oS⟩:=p1;rw[hr.er] at rW;simp[Dm,oS] at rW;exact rW
        cases pc with
        |int k n=>simp[PC.er] at km
        |bool b=>simp[PC.er] at km
        |list aL a lk py=>
         rw[PC.dW] at km;injection km with e1 e2;have e3:aL=s:=e1.trans pS;have e4:sz=aL:=qN.trans e3.symm;rw[<-e3] at p4;clear pS qN e1 e3;subst e2 e4;simp only[PC.val] at D;injection D with f1 f2 f3;subst f1 f3;rw[wt] at z;cases y:py[i]? with
         |none=>rw[y] at z;cases z
         |some pe=>
          rw[y] at z;simp at z;subst z;generalize io:PC.list sz (some (ad b o)) lk py=q at X;cases X with
          |int k n=>cases io
          |bool b=>cases io
          |nil _ _ _ _=>injection io with _ _ _ e4;subst e4;simp at y
          |cons _ b' oo' _ _ F K Q q4 q5 q6=>
           injection io with f1 f2 f3 f4;injection f2 with f2;obtain⟨rfl,rfl⟩:=lV f2;subst f1 f3 f4;have wB:pe.length=sz:=q4 pe (co y);refine⟨b,o+i*sz,pe.map PC.val,p4,by simpa using wB,fun j u d=>?_,⟨by simp,fun j c u t r=>?_⟩,fun c A m hm=>?_⟩
           ·rw[wt] at d;cases lD:pe[j]? with
            |none=>rw[lD] at d;cases d
            |some c=>rw[lD] at d;simp at d;subst d;exact q5 i j c ⟨pe,y,lD⟩
           ·rw[wt] at r;rw[wt,wt] at t;cases lD:pe[j]? with
            |none=>rw[lD] at r;cases r
            |some J=>
             rw[lD] at r t;simp at r t;subst r;subst t;have kq:J.er.eX=true:=OF.1 ot _ (zae (co lD));exact⟨PC.kF J,J,rfl,rfl,q6 i j J ⟨pe,y,lD⟩,fun b Z=>absurd Z ((Sep.iI kq).2 b)⟩
           ·obtain⟨J,_,rfl⟩:=zaa.1 A;exact absurd hm (by simp[ah.ref,ah.ie])
       ·cases hx
      ·cases hx
     ·cases hx
    ·cases hx
   ·cases hx
  ·cases hx
 |fn f dR=>simp[Am.loadAt] at hx
 |bC=>simp[Am.loadAt] at hx
def CK (P:Program) (t:TypeId) (ag:Bool) (sz:Nat):Bool:=
 match P.underlying t,P.info? t with
 |some (.struct _),some i=>ag&&i.size==sz
 |some (.array _ _),some i=>ag&&i.size==sz
 |some _,some i=> !ag&&sz==1
 |_,_=>false
theorem RA.gj {c:ah} {v:Value} (d:c≠ .bC) (a:RA w G h (.one c) v):RC w G h c v/\v.oneCell'=true:=by rcases a with rfl|a;exact absurd rfl d;have b:dA w G h [c] [v]:=a;exact⟨(b.2 0 c v rfl rfl).2,(b.2 0 c v rfl rfl).1⟩
theorem aip (r:R B E w0 N σ a w G) {t:TypeId} {x:Operand} {m:MO} {ag:Bool} {sz:Nat} {p:ah} {cs:List ah} (H:o.op=.load t x) (J:∀n,o.dst=some n->n<N)
  (hm:bU x m=true) (e:CK P t ag sz=true) (O:σ.ev m=.one p) (hx:Am.loadAt σ.h p sz=some cs):
  o.wp P a w (Nx B E w0 N (σ.put o.dst (rv ag cs))) Q:=by
 obtain⟨g,z⟩:=r.ev hm;rw[O] at g z;have U:p≠ .bC:=by rintro rfl;simp[Am.loadAt] at hx
 obtain⟨b,of,vs,C,T,y,k,s⟩:=r.hr.loadAt hx (g.gj U).1 z;have F:∀v,RA w G σ.h (rv ag cs) v->(execOp a.eval o).run P w=.ok (.value v) w->o.wp P a w (Nx B E w0 N (σ.put o.dst (rv ag cs))) Q:=fun v g I=>
  rz I ⟨G,r.put g (fun q f=>by
   unfold rv at f;split at f
   ·obtain⟨c,K,f⟩:=f;exact s c K q f
   ·exact s _ (by simp) q f
   ·exact absurd f (by simp[ao.ref,ah.ref,ah.ie])) J⟩
 have L:∀n:Nat,n=vs.length->(loadCells (ad b of) n).run P w=.ok vs.toArray w:=fun n hn=>by
  subst hn;exact run_loadCells_list w (ad b of) vs (fun j u S=>by rw[qy];exact y j u S)
 unfold CK at e;cases hu:P.underlying t with
 |none=>rw[hu] at e;simp at e
 |some d=>
  cases hi:P.info? t with
  |none=>rw[hu,hi] at e;cases d<;>simp at e
  |some i=>
   rw[hu,hi] at e;have M:(ag=true/\i.size=sz/\(isAgg t).run P w=.ok true w)\/(ag=false/\sz=1/\(isAgg t).run P w=.ok false w):=by
    cases d<;>simp at e<;>simp[isAgg,run_underlying hu,e]
   rcases M with⟨rfl,A,l⟩|⟨rfl,A,l⟩
   ·refine F (.agg vs.toArray) ⟨vs,rfl,k⟩ ?_;simp[execOp,H,C,Instr.loadAt,Instr.sureAddr,loadVar,l,sizeOf,typeInfo,hi,L i.size (by omega)]
   ·subst A;match vs,T with
    |[u],_=>
     have V:∃c,cs=[c]:=by
      have:=k.1;match cs,this with
      |[c],_=>exact⟨c,rfl⟩
     obtain⟨c,rfl⟩:=V;refine F u (.inr k) ?_;have D:=y 0 u rfl;simp only[zaB] at D;simp[execOp,H,C,Instr.loadAt,Instr.sureAddr,loadVar,l,D]
end
theorem MT {α:Type} {l vs:List α} {off:Nat} (h:off+vs.length<=l.length):(cZ l off vs).length=l.length:=by simp[cZ];omega
theorem zo {α:Type} {l vs:List α} {off j:Nat} (h:off+vs.length<=l.length):(cZ l off vs)[j]? =if off<=j/\j<off+vs.length then vs[j - off]? else l[j]? :=by unfold cZ;have a:(l.take off).length=off:=(by simp;omega);by_cases c:j<off;rw[aq (by omega),zaG,By (by omega),zaH c];by_cases b:j<off+vs.length;rw[ak ⟨by omega,b⟩,zaG,BY (by omega),By (by omega),a];rw[aq (by omega),BY (by simp;omega),zat];congr 1;simp;omega
theorem EL {α β:Type} (f:α->β) (l vs:List α) (off:Nat):(cZ l off vs).map f=cZ (l.map f) off (vs.map f):=by simp[cZ,zaW,zaX]
def f7 (w:World) (b o:Nat) (vs:List Value) (cur:Array Value):World:=w.setRow b (cur.toList.take o++vs++cur.toList.drop (o+vs.length)).toArray
section
variable {w:World} {b o:Nat} {vs:List Value} {cur:Array Value} {e:TypeId}
theorem zz (a:w.heap[b]? =some (.cells cur e (0,0))) (hl:o+vs.length<=cur.size) (x:Nat): (f7 w b o vs cur).cell? (ad b x)=if o<=x/\x<o+vs.length then vs[x - o]? else w.cell? (ad b x):=by unfold f7 ad;rw[cell_setRow_same w b x cur _ e (0,0) a];have c:=zo (l:=cur.toList) (vs:=vs) (off:=o) (j:=x) (by simpa using hl);simp only[cZ] at c;rw[zal,c];have d:w.cell? ⟨b,x,none⟩=cur[x]? :=(by simp[World.cell?,a]);rw[d];simp
theorem zA (k:Nat) (a:k≠b):(f7 w b o vs cur).heap[k]? =w.heap[k]? :=setRow_other w b k _ a
theorem ry:(f7 w b o vs cur).heap.size=w.heap.size:=setRow_size _ _ _
theorem Fa (c:w.heap[b]? =some (.cells cur e (0,0))) (hl:o+vs.length<=cur.size):∃a,(f7 w b o vs cur).heap[b]? =some (.cells a e (0,0))/\a.size=cur.size:=by refine⟨_,setRow_heap w b cur _ e (0,0) c,?_⟩;simp;omega
theorem BM (a:w.heap[b]? =some (.cells cur e (0,0))) (hl:o+vs.length<=cur.size):Cz w (f7 w b o vs cur) b:=by intro arr e' h;obtain⟨c,g,f⟩:=Fa (vs:=vs) (o:=o) a hl;rw[a] at h;injection h with h;injection h with d hb;subst d hb;exact⟨c,g,f⟩
theorem Jb (d:w.heap[b]? =some (.cells cur e (0,0))) (hl:o+vs.length<=cur.size) (k:Nat) (f:ek w k):ek (f7 w b o vs cur) k:=by by_cases a:k=b;subst a;obtain⟨c,g,_⟩:=Fa (vs:=vs) (o:=o) d hl;exact⟨c,e,g⟩;exact f.congr (zA k a)
end
section
variable {B:Nat} {E:Ex} {w0 w w':World} {G G':Gh} {h h':Nat->Option ar} {used used':Nat->Bool} {tk:List PC} {N:Nat}
variable {P:Program} {o:Oper} {a:Act} {σ σ':St} {Q:Exit->Act->World->Prop}
theorem I7 {α:Type} (f:Nat->α) (n:Nat):aI f n (f n)=f:=by funext m;simp only[kE];split;rename_i h;rw[h];rfl
theorem Md {t:TypeId} {i:TypeInfo} {b off:Nat} {v:Value} {cur:Array Value} {e:TypeId} (c:P.info? t=some i) (f:v.cells.size=i.size) (d:w.heap[b]? =some (.cells cur e (0,0))) (hl:off+v.cells.size<=cur.size) (g:∀u∈v.cells.toList,u.oneCell'=true): (storeVar t (ad b off) v).run P w=.ok () (f7 w b off v.cells.toList cur):=by have a:=run_storeCells_at P b off e v.cells.toList 0 cur w d (by simpa using hl) g;simp only[zaB] at a;simp[storeVar,sizeOf,typeInfo,c,f,ad,a,f7]
theorem HR.uJ (H:HR B E w G h used tk) {n m:Nat} {c:Bool} {d:Mode} {sz:Nat} {xs:List (List C)} (hn:h n≠none) (hl:(G.g n).nl=false) (hm:h m=some (.row c d sz xs)) {b:Nat} (a:bc b (G.g m).px):b≠(G.g n).b:=by have e:=(H.row m c d sz xs hm).mode;cases d with|aM=>rintro rfl;exact(H.own n hn hl).1 (e _ a)|aN=>rintro rfl;exact(H.own n hn hl).1 (e.1 _ a).1|live=>exact H.live m c sz xs hm b a n hn hl
theorem R.asf (r:R B E w0 N σ a w G) {n:Nat} {cs:List ah} {vs:List ah} {us:List Value} {off:Nat} (hn:σ.h n=some (.box cs)) (C:dA w G σ.h vs us) (D:∀c∈vs,∀m,c.ref m->σ.used m=true)
  (hl:off+vs.length<=cs.length) {cur:Array Value} {e:TypeId} (u:w.heap[(G.g n).b]? =some (.cells cur e (0,0))) (y:(G.g n).o+off+us.length<=cur.size):
  R B E w0 N (σ.ef n (.box (cZ cs off vs))) a (f7 w (G.g n).b ((G.g n).o+off) us cur) G:=by
 have H:=r.hr;have q:σ.h n≠none:=by rw[hn];simp
 obtain⟨s,T,X⟩:=H.box n cs hn;obtain⟨J,F,Z⟩:=H.own n q s;have Q:=H.jp n q;have A:(⟨G.Im,aI G.g n (G.g n)⟩:Gh)=G:=by rw[I7]
 have hlen:us.length=vs.length:=C.1;have dL:∀b,b<w.heap.size->b≠(G.g n).b->(f7 w (G.g n).b ((G.g n).o+off) us cur).heap[b]? =w.heap[b]? :=fun b _ d=>zA b d;have K:bu w G σ.h (fun n=>σ.used n=true) (f7 w (G.g n).b ((G.g n).o+off) us cur) G (aI σ.h n (some (.box (cZ cs off vs)))):=by
  refine⟨fun _ h=>h,fun b d x=>ik (dL b (H.gN b d) (fun S=>J (S▸d))) x,fun m hm f=>?_,fun m l sz xs hm f=>?_⟩
  ·by_cases t:m=n
   ·subst t;exact⟨q,rfl,rfl,rfl,rfl,rfl⟩
   ·rw[cQ _ _ _ _ t] at f;exact⟨f,rfl,rfl,rfl,rfl,rfl⟩
  ·by_cases t:m=n
   ·subst t;rw[cr] at f;cases f
   ·rw[cQ _ _ _ _ t] at f;exact⟨⟨l,xs,f⟩,fun k j pc W h2=>⟨pc,W,rfl,h2⟩⟩
 have I:HR B E (f7 w (G.g n).b ((G.g n).o+off) us cur) ⟨G.Im,aI G.g n (G.g n)⟩ (aI σ.h n (some (.box (cZ cs off vs)))) σ.used []:=by
  refine H.put (fun b d z=>dL b d (z s)) (by rw[ry];exact zad _) (fun b _ d=>Jb u y b d) (fun _ h=>h) Q (fun _=>⟨J,F,by rw[ry];exact Z⟩)
   (fun _ m hm f V=>(H.inj m n f q hm V s)) (fun _ m l sz xs hm f b d=>H.live m l sz xs f b d n q s) ?_ (by rw[A];exact K) ?_
   (fun l m sz xs d=>by cases d) (fun l sz xs d=>by cases d) (fun l m sz xs d=>by cases d) ?_
  ·intro cs' c m d i hm;injection d with d;subst d;simp only[cZ,zaj] at i;rcases i with(i|i)|i
   ·exact H.iK n cs c m hn (zai i) hm
   ·exact D c i m hm
   ·exact H.iK n cs c m hn (zah i) hm
  ·rw[A];refine⟨s,Jb u y _ T,fun j c p=>?_⟩;rw[zo hl] at p;rw[zz u y];by_cases M:off<=j/\j<off+vs.length
   ·rw[ak M] at p;rw[ak (by omega)];have O:j - off<us.length:=by omega
    have L:us[j - off]? =some (us[j - off]'O):=AN O;obtain⟨Y,U⟩:=C.2 _ _ _ p L;refine⟨_,by rw[<-L];congr 1;omega,Y,U.gf K (D c (co p))⟩
   ·rw[aq M] at p;rw[aq (by omega)];obtain⟨v,v1,v2,v3⟩:=X j c p;exact⟨v,v1,v2,v3.gf K (fun m hm=>H.iK n cs c m hn (co p) hm)⟩
  ·intro _ _ b d;obtain⟨m,l,mo,sz,xs,hm,f,P⟩:=d;exact H.uJ q s f P
 rw[A] at I;exact r.step (σ':=σ.ef n (.box (cZ cs off vs))) rfl (fun _ h=>h) K I (r.fr.one F (fun b d z=>dL b d z) (by rw[ry];exact zad _) (BM u y) rfl rfl rfl)
theorem JB {α:Type} {px:List (List α)} {k k' j:Nat} {pe:List α} {c:α} (f:k<px.length) (h:At (px.set k pe) k' j c):(k'=k/\pe[j]? =some c)\/(k'≠k/\At px k' j c):=by obtain⟨e,a,d⟩:=h;by_cases b:k'=k;subst b;rw[zaJ f] at a;injection a with a;subst a;exact .inl ⟨rfl,d⟩;rw[zaQ (zaL b)] at a;exact .inr ⟨b,e,a,d⟩
theorem PC.ZR {pc:PC} (h:pc.iu=true):pc.er.eX=false:=by cases pc<;>simp[PC.iu] at h;simp[PC.dW,C.eX]
theorem R.oK (r:R B E w0 N σ a w G) {n:Nat} {u:Bool} {m:Mode} {l:Nat} {xs:List (List C)} {k off:Nat} {e:List C} {vs:List ah} {us:List Value} {σ2:St}
  (hn:σ.h n=some (.row u m l xs)) (aR:(G.g n).nl=false) (hk:xs[k]? =some e) (hv:dA w G σ.h vs us) (me:∀c∈vs,∀m,c.ref m->σ.used m=true)
  (hx:Am.oK σ n u m l xs k off e vs=some σ2) {cur:Array Value} {et:TypeId} (hg:w.heap[(G.g n).b]? =some (.cells cur et (0,0))) (fV:(G.g n).o+k*l+off+us.length<=cur.size):
  ∃G',R B E w0 N σ2 a (f7 w (G.g n).b ((G.g n).o+k*l+off) us cur) G':=by
 unfold Am.oK at hx;split at hx
 ·cases hx
 rename_i iv gR;obtain⟨s1,s2,s3⟩:=EU gR;split at hx
 ·cases hx
 rename_i cs ow σ1 Rd;obtain⟨Im',A,a1,a2,a3,a4,a5,a6,a7,a8⟩:=HR.f6 r.hr Rd hv me;simp only[zam] at a4;have Q:HR B E w ⟨Im',G.g⟩ σ1.h σ.used []:=by
  cases ow
  ·simpa using a4
  ·have a4':HR B E w ⟨Im',G.g⟩ σ1.h σ.used ([]++A):=by simpa using a4
   exact a4'.BK
 have hlen:us.length=vs.length:=hv.1;have iq:A.length=vs.length:=by have:=congrArg za7 a2;simp at this;omega
 have aj5:(σ1.h n).isSome=true/\∃z,σ2=σ1.ef n (.row u z l (xs.set k (cZ e off cs)))/\
   ((m=.live/\z=.live/\e9 cs=true/\e9 iv=true/\u=false)\/(m≠ .live/\z=if ow=true then m else .aM)):=by
  split at hx
  ·rename_i hm;split at hx
   ·rename_i hc;injection hx with hx;exact⟨hc.2.2.1,m,by rw[<-hx],.inl ⟨hm,hm,hc.1,hc.2.1,hc.2.2.2⟩⟩
   ·cases hx
  ·rename_i hm;split at hx
   ·rename_i U;injection hx with hx;exact⟨U,_,hx.symm,.inr ⟨hm,rfl⟩⟩
   ·cases hx
 obtain⟨DD,z,rfl,jg⟩:=aj5;have oU:σ1.h n=some (.row u m l xs):=by
  cases hh:σ1.h n with
  |none=>rw[hh] at DD;cases DD
  |some b=>rw[<-a8 n b hh,hn]
 have cf:σ1.h n≠none:=by rw[oU];simp
 have hr:=Q.row n u m l xs oU;obtain⟨r8,qS,tD⟩:=Q.own n cf aR;have yf:=Q.jp n cf;obtain⟨l1,l2,l3⟩:=hr.eG aR;have jh:∃pe,(G.g n).px[k]? =some pe/\pe.map PC.er=e:=by
  have km:=hr.er;rw[km,wt] at hk;cases f:(G.g n).px[k]? with
  |none=>rw[f] at hk;cases hk
  |some pe=>rw[f] at hk;simp at hk;exact⟨pe,rfl,hk⟩
 obtain⟨pe,r9,u0⟩:=jh;have uV:k<(G.g n).px.length:=(AI.1 r9).1;have wB:pe.length=l:=l2.1 pe (co r9);have od:off+A.length<=pe.length:=by rw[<-u0] at s1;simp at s1;omega
 let El:=cZ pe off A;let px':=(G.g n).px.set k El;let T:=f7 w (G.g n).b ((G.g n).o+k*l+off) us cur;let p':PB:=⟨false,(G.g n).b,(G.g n).o,(G.g n).cap,px',(G.g n).na⟩;have Y6:El.length=l:=by show(cZ pe off A).length=l;rw[MT od,wB]
 have dj:∀k' j c,At px' k' j c->(k'=k/\off<=j/\j<off+A.length/\A[j - off]? =some c)\/((k'≠k\/¬(off<=j/\j<off+A.length))/\At (G.g n).px k' j c):=by
  intro k' j c h;rcases JB uV h with⟨rfl,H⟩|⟨D,h⟩
  ·rw[zo od] at H;by_cases gC:off<=j/\j<off+A.length
   ·rw[ak gC] at H;exact .inl ⟨rfl,gC.1,gC.2,H⟩
   ·rw[aq gC] at H;exact .inr ⟨.inr gC,pe,r9,H⟩
  ·exact .inr ⟨.inl D,h⟩
 have aj2:∀k' j c,At px' k' j c->j<l:=by
  intro k' j c h;obtain⟨X,S,H⟩:=h;have:X.length=l:=by
   rcases zaD (co S) with s|s
   ·exact l2.1 X s
   ·rw[s];exact Y6
  rw[<-this];exact(AI.1 H).1
 have lv:∀b,bc b px'->bc b (G.g n).px\/∃(i:Nat) (c:PC),A[i]? =some c/\ba b c:=by
  rintro b ⟨k',j,c,L,d⟩;rcases dj k' j c L with⟨_,_,_,f⟩|⟨_,f⟩
  ·exact .inr ⟨_,c,f,d⟩
  ·exact .inl ⟨k',j,c,f,d⟩
 have dL:∀b,b≠(G.g n).b->T.heap[b]? =w.heap[b]? :=fun b d=>zA b d;have QX:∀(i:Nat) (c:PC) (b:Nat),A[i]? =some c->ba b c->Im' b:=fun i c b F d=>(a3 c (co F)).2 b d;have As:∀b,Im' b->b≠(G.g n).b:=fun b d S=>r8 (S▸d);have lB:∀b,bc b (G.g n).px->b≠(G.g n).b:=fun b d=>Q.uJ cf aR oU d;have fo:pL T (G.g n).b (G.g n).o l px':=by
  refine⟨fun X S=>?_,fun k' j c L=>?_,fun k' j c L=>?_⟩
  ·rcases zaD S with s|s
   ·exact l2.1 X s
   ·rw[s];exact Y6
  ·have H:=aj2 k' j c L;show T.cell? _=_;rw[zz hg fV];rcases dj k' j c L with⟨rfl,s,W,f⟩|⟨D,f⟩
   ·rw[ak (by omega)];have hu:us[j - off]? =some c.val:=by rw[<-a2,wt,f];rfl
    rw[<-hu];congr 1;omega
   ·rw[aq ?_]
    ·exact l2.2.1 k' j c f
    ·rintro⟨q1,q2⟩;rcases D with D|D
     ·rcases Nat.lt_or_gt_of_ne D with cm|AA
      ·have:(k'+1)*l<=k*l:=GB _ cm;rw[IN] at this;omega
      ·have:(k+1)*l<=k'*l:=GB _ AA;rw[IN] at this;omega
     ·have:k'=k:=by
       rcases zaE k' k with cm|fA|AA
       ·have:(k'+1)*l<=k*l:=GB _ cm;rw[IN] at this;omega
       ·exact fA
       ·have:(k+1)*l<=k'*l:=GB _ AA;rw[IN] at this;omega
      subst this;omega
  ·rcases dj k' j c L with⟨_,_,_,f⟩|⟨_,f⟩
   ·exact(a3 c (co f)).1.congr fun b d x=>ik (dL b (As b (QX _ c b f d))) x
   ·exact(l2.2.2 k' j c f).congr fun b d x=>ik (dL b (lB b ⟨k',j,c,f,d⟩)) x
 have YO:(G.g n).o+k*l+off+us.length<=cur.size:=fV;have iR:e9 cs=true->∀(i:Nat) (c:PC) (b:Nat),A[i]? =some c->¬ba b c:=by
  intro U i c b F;have hc:c.er∈cs:=by rw[<-a1];exact zae (co F)
  exact(Sep.iI (pc:=c) (OF.1 U _ hc)).2 b
 have hold:e9 iv=true->∀j c,off<=j->j<off+A.length->pe[j]? =some c->c.er.eX=true:=by
  intro U j c s W H;have:c.er∈iv:=by
   have h3:iv[j - off]? =some c.er:=by
    have e0:iv[j - off]? =((e.drop off).take vs.length)[j - off]? :=congrArg (fun q:List C=>q[j - off]?) s2;rw[e0,zu (by omega),<-u0,wt,show off+(j - off)=j by omega,H];rfl
   exact co h3
  exact OF.1 U _ this
 have K2:bu w ⟨Im',G.g⟩ σ1.h (fun n=>σ.used n=true) T ⟨Im',aI G.g n p'⟩ (aI σ1.h n (some (.row u z l (xs.set k (cZ e off cs))))):=by
  refine⟨fun _ h=>h,fun b d x=>ik (dL b (As b d)) x,fun q v y=>?_,fun q J P K v y=>?_⟩
  ·by_cases I:q=n
   ·subst I;refine⟨cf,?_⟩;simp only[cr];exact⟨aR.symm,rfl,rfl,rfl,rfl⟩
   ·rw[cQ _ _ _ _ I] at y;simp only[cQ _ _ _ _ I];exact⟨y,trivial,trivial,trivial,trivial,trivial⟩
  ·by_cases I:q=n
   ·subst I;rw[cr] at y;injection y with y;injection y with X e2 e3 e4;subst X;subst e2;subst e3;rcases jg with⟨hm,_,U,Zg,_⟩|⟨hm,t⟩
    ·subst hm;refine⟨⟨u,xs,oU⟩,fun k' j pc L hL=>?_⟩;simp only[cr];refine⟨pc,?_,rfl,hL⟩;obtain⟨X,S,H⟩:=L;by_cases x7:k'=k
     ·subst x7;rw[r9] at S;injection S with S;subst S;refine⟨El,zaJ uV,?_⟩;show(cZ pe off A)[j]? =some pc;rw[zo od];rw[aq ?_]
      ·exact H
      ·rintro⟨q1,q2⟩;have:=hold Zg j pc q1 q2 H;rw[PC.ZR hL] at this;cases this
     ·exact⟨X,by show((G.g q).px.set k El)[k']? =some X;rw[zaQ (zaL x7)];exact S,H⟩
    ·cases ow
     ·simp at t
     ·simp at t;exact absurd t.symm hm
   ·rw[cQ _ _ _ _ I] at y;simp only[cQ _ _ _ _ I];exact⟨⟨J,K,y⟩,fun k j pc s W=>⟨pc,s,rfl,W⟩⟩
 have pU:∀b,ek w b->ek T b:=fun b d=>Jb hg fV b d;have QV:z≠ .aM->(∀b,bc b px'->ek w b/\(B<=b\/E b))/\jE px'/\(z=.aN->∀b,bc b px'->Im' b)/\(z=.live->∀b,bc b px'->bc b (G.g n).px)/\
   (∀q J Z P K,q≠n->σ1.h q=some (.row J Z P K)->Z≠ .aM->∀b,bc b px'->¬bc b (G.g q).px):=by
  intro j0;have M:=hr.mode;rcases jg with⟨rfl,rfl,U,Zg,_⟩|⟨hm,t⟩
  ·have gR:∀b,bc b px'->bc b (G.g n).px:=fun b d=>(lv b d).resolve_right (fun⟨i,c,F,d⟩=>iR U i c b F d);refine⟨fun b d=>(M.1 b (gR b d)).2,⟨fun k' j c L=>?_,fun k1 j1 V k2 j2 O b s W D d=>?_⟩,(fun h=>by cases h),fun _=>gR,fun q J Z P K I v iQ b d=>Q.gw n q u .live l xs J Z P K oU v (by simp) iQ (zaL I) b (gR b d)⟩
   ·rcases dj k' j c L with⟨_,_,_,f⟩|⟨_,f⟩
    ·exact Sep.Bg (fun b d=>iR U _ c b f d) (a3 c (co f)).1
    ·exact M.2.1 k' j c f
   ·rcases dj k1 j1 V s with⟨_,_,_,f⟩|⟨_,f⟩
    ·exact absurd d (iR U _ V b f)
    ·rcases dj k2 j2 O W with⟨_,_,_,Y⟩|⟨_,Y⟩
     ·exact iR U _ O b Y
     ·exact M.2.2 k1 j1 V k2 j2 O b f Y D d
  ·cases ow
   ·simp at t;exact absurd t j0
   ·simp only[if_true] at t a4;subst t;have KB:z=.aN:=by cases z<;>first|rfl|exact absurd rfl hm|exact absurd rfl j0
    subst KB;refine⟨fun b d=>?_,⟨fun k' j c L=>?_,fun k1 j1 V k2 j2 O b s W D d=>?_⟩,fun _ b d=>?_,(fun h=>by cases h),fun q J Z P K I v iQ b d=>?_⟩
    ·rcases lv b d with s|⟨i,c,F,s⟩
     ·exact(M.1 b s).2
     ·exact((a4.sU i c F).2 b s).2
    ·rcases dj k' j c L with⟨_,_,_,f⟩|⟨_,f⟩
     ·exact(a4.sU _ c f).1
     ·exact M.2.1 k' j c f
    ·rcases dj k1 j1 V s with⟨X,q1,q2,f⟩|⟨_,f⟩
     ·rcases dj k2 j2 O W with⟨e2,q3,q4,Y⟩|⟨_,Y⟩
      ·have jO:j1 - off≠j2 - off:=fun hh=>D (by rw[X,e2,show j1=j2 by omega]);exact a4.xq _ _ V O b jO f Y d
      ·exact fun aO=>a4.sV _ V n u .aN l xs b f oU (by simp) d ⟨k2,j2,O,Y,aO⟩
     ·rcases dj k2 j2 O W with⟨e2,q3,q4,Y⟩|⟨_,Y⟩
      ·exact fun aO=>a4.sV _ O n u .aN l xs b Y oU (by simp) aO ⟨k1,j1,V,f,d⟩
      ·exact M.2.2 k1 j1 V k2 j2 O b f Y D d
    ·rcases lv b d with s|⟨i,c,F,s⟩
     ·exact(M.1 b s).1
     ·exact QX i c b F s
    ·rcases lv b d with s|⟨i,c,F,s⟩
     ·exact Q.gw n q u .aN l xs J Z P K oU v (by simp) iQ (zaL I) b s
     ·exact a4.sV i c q J Z P K b F v iQ s
 have Hn:HR B E T ⟨Im',aI G.g n p'⟩ (aI σ1.h n (some (.row u z l (xs.set k (cZ e off cs))))) σ.used []:=by
  refine Q.put (p:=p') (fun b d D=>dL b (D rfl)) (by show w.heap.size<=T.heap.size;rw[ry];exact zad _) (fun b _ d=>pU b d) (fun _ h=>h) yf
   (fun _=>⟨r8,qS,by show _<T.heap.size;rw[ry];exact tD⟩)
   (fun _ q v y mb=>(Q.inj q n y cf v mb aR)) (fun _ q J P K v y b d=>Q.live q J P K y b d n cf aR) (fun cs c q d=>by cases d) K2 ?_ ?_ ?_ (fun u m sz xs _ _ i pc b F=>by simp at F) ?_
  ·refine⟨hr.pos,?_,(fun hl=>by cases hl),fun _=>⟨pU _ l1,fo,by show((G.g n).px.set k El).length<=_;simpa using l3⟩,fun _ GC=>?_,?_,fun YP e8=>?_⟩
   ·show xs.set k (cZ e off cs)=((G.g n).px.set k El).map _;rw[List.map_set,<-hr.er];congr 1;show cZ e off cs=(cZ pe off A).map PC.er;rw[EL,u0,a1]
   ·obtain⟨r2,jH,e',r3,r4⟩:=hr.room aR GC;rw[hg] at r3;injection r3 with r3;injection r3 with r3 _ _;subst r3;obtain⟨Pl,V,O⟩:=Fa (vs:=us) (o:=(G.g n).o+k*l+off) hg fV;exact⟨r2,Pl,et,V,by rw[O];exact r4⟩
   ·show Js B E T ⟨Im',_⟩ px' z;by_cases j0:z=.aM
    ·rw[j0];intro b d;rcases lv b d with s|⟨i,c,F,s⟩
     ·have M:=hr.mode;rcases jg with⟨_,W,_⟩|⟨hm,_⟩
      ·rw[j0] at W;cases W
      ·cases m with
       |aM=>exact M b s
       |aN=>exact(M.1 b s).1
       |live=>exact absurd rfl hm
     ·exact QX i c b F s
    ·obtain⟨o1,o2,o3,o4,o5⟩:=QV j0;cases z with
     |aM=>exact absurd rfl j0
     |aN=>exact⟨fun b d=>⟨o3 rfl b d,pU b (o1 b d).1,(o1 b d).2⟩,o2⟩
     |live=>
      refine⟨fun b d=>⟨?_,pU b (o1 b d).1,(o1 b d).2⟩,o2⟩;have M:=hr.mode;rcases jg with⟨hm,_,_⟩|⟨hm,t⟩
      ·subst hm;exact(M.1 b (o4 rfl b d)).1
      ·cases ow
       ·simp at t
       ·simp at t;exact absurd t.symm hm
   ·rcases jg with⟨_,_,_,_,hg2⟩|⟨hm,t⟩
    ·rw[hg2] at YP;cases YP
    ·rw[e8] at t;cases ow
     ·simp at t
     ·simp at t;exact absurd t.symm hm
  ·intro J m2 P K d j0 q Dc Z mS jl I v iQ b dk;injection d with _ d _ _;subst d;exact(QV j0).2.2.2.2 q Dc Z mS jl I v iQ b dk
  ·intro J P K d b dk;injection d with _ d _ _;subst d;have gR:=(QV (by simp)).2.2.2.1 rfl b dk;have hm:m=.live:=by
    rcases jg with⟨hm,_,_⟩|⟨hm,t⟩
    ·exact hm
    ·cases ow
     ·simp at t
     ·simp at t;exact absurd t.symm hm
   subst hm;exact⟨fun _=>Q.live n u l xs oU b gR n cf aR,fun q I v Q3=>Q.live n u l xs oU b gR q v Q3⟩
  ·intro _ _ b d;obtain⟨q,J,Z,P,K,v,y,dk⟩:=d;exact Q.uJ cf aR y dk
 refine⟨⟨Im',aI G.g n p'⟩,?_⟩;exact r.step (σ':=σ1.ef n (.row u z l (xs.set k (cZ e off cs)))) a6 (fun q v=>by show σ1.used q=true;rw[a7];exact v)
  (bu.trans (u2:=fun n=>σ.used n=true) (fun _ h=>h) a5 K2) (by show HR B E T _ (aI σ1.h n _) σ1.used [];rw[a7];exact Hn) (r.fr.one qS (fun b d D=>dL b D) (by show w.heap.size<=T.heap.size;rw[ry];exact zad _) (BM hg fV) rfl rfl rfl)
end
section
variable {B:Nat} {E:Ex} {w0 w w':World} {G G':Gh} {h h':Nat->Option ar} {used used':Nat->Bool} {tk:List PC} {N:Nat}
variable {P:Program} {o:Oper} {a:Act} {σ σ':St} {Q:Exit->Act->World->Prop}
theorem RA.c {x:C} {v:Value} (a:RA w G h (.one (.c x)) v):∃pc:PC,pc.er=x/\pc.val=v/\Good w pc/\∀b,ba b pc->G.Im b:=(a.gj (by simp)).1
theorem RA.Hq {k:IntKind} {n:Int} {v:Value} (b:RA w G h (.one (.c (.int k n))) v):v=.int k n:=by obtain⟨pc,a,d,_⟩:=b.c;cases pc<;>simp[PC.er] at a;obtain⟨rfl,rfl⟩:=a;exact d.symm
theorem RA.CF {b:Bool} {v:Value} (d:RA w G h (.one (.c (.bool b))) v):v=.bool b:=by obtain⟨pc,a,e,_⟩:=d.c;cases pc<;>simp[PC.er] at a;subst a;exact e.symm
theorem RA.of_int (k:IntKind) (n:Int):RA w G h (.one (.c (.int k n))) (.int k n):=RA.gh rfl ⟨.int k n,rfl,rfl,.int _ _,fun b a=>by cases a⟩
theorem RA.of_bool (b:Bool):RA w G h (.one (.c (.bool b))) (.bool b):=RA.gh rfl ⟨.bool b,rfl,rfl,.bool _,fun b a=>by cases a⟩
theorem tT {x:C} {m:Nat}:¬(ao.one (.c x)).ref m:=fun h=>h
theorem jI (r:R B E w0 N σ a w G) {x:ao} {v:Value} (c:(execOp a.eval o).run P w=.ok (.value v) w) (b:RA w G σ.h x v) (hr:∀m,x.ref m->σ.used m=true) (d:∀n,o.dst=some n->n<N): o.wp P a w (Nx B E w0 N (σ.put o.dst x)) Q:=rz c ⟨G,r.put b hr d⟩
theorem WJ (r:R B E w0 N σ a w G) {x:Operand} {m:MO} (b:o.op=.move x\/o.op=.assign x) (e:∀n,o.dst=some n->n<N) (hm:bU x m=true): o.wp P a w (Nx B E w0 N (σ.put o.dst (σ.ev m))) Q:=by obtain⟨d,c⟩:=r.ev hm;refine jI r ?_ d c e;rcases b with b|b<;>simp[execOp,b]
theorem aix (r:R B E w0 N σ a w G) {c x y:Operand} {e mx my:MO} {b:Bool} (p:o.op=.pick c x y) (g:∀n,o.dst=some n->n<N) (h:bU c e=true) (hx:bU x mx=true) (hy:bU y my=true)
  (f:σ.ev e=.one (.c (.bool b))):o.wp P a w (Nx B E w0 N (σ.put o.dst (if b=true then σ.ev mx else σ.ev my))) Q:=by
 obtain⟨d,_⟩:=r.ev h;rw[f] at d;have i:=d.CF;obtain⟨m,j⟩:=r.ev hx;obtain⟨l,k⟩:=r.ev hy;refine jI r (v:=if b=true then a.eval x else a.eval y) ?_ ?_ ?_ g
 ·simp only[execOp,p,i,asBool];cases b<;>simp
 ·cases b
  ·exact l
  ·exact m
 ·cases b
  ·exact k
  ·exact j
theorem aq9 {op:BinOp} {k:IntKind} {n m:Int} {c:C} {t:TypeId} (b:BinOp.AS op=false) (hx:CE op k n m=some c):∃v,(binOp op t (.int k n) (.int k m)).run P w=.ok v w/\RA w G h (.one (.c c)) v:=by cases op with|add=>injection hx with hx;subst hx;exact⟨_,by simp[binOp,Op.intArith],RA.of_int _ _⟩|sub=>injection hx with hx;subst hx;exact⟨_,by simp[binOp,Op.intArith],RA.of_int _ _⟩|mul=>injection hx with hx;subst hx;exact⟨_,by simp[binOp,Op.intArith],RA.of_int _ _⟩|and=>injection hx with hx;subst hx;exact⟨_,by simp[binOp,intBits_and],RA.of_int _ _⟩|or=>injection hx with hx;subst hx;exact⟨_,by simp[binOp,intBits_or],RA.of_int _ _⟩|xor=>injection hx with hx;subst hx;exact⟨_,by simp[binOp,intBits_xor],RA.of_int _ _⟩|eql=>injection hx with hx;subst hx;exact⟨_,by simp[binOp,Op.intCmp],RA.of_bool _⟩|neq=>injection hx with hx;subst hx;exact⟨_,by simp[binOp,Op.intCmp],RA.of_bool _⟩|lss=>injection hx with hx;subst hx;exact⟨_,by simp[binOp,Op.intCmp],RA.of_bool _⟩|leq=>injection hx with hx;subst hx;exact⟨_,by simp[binOp,Op.intCmp],RA.of_bool _⟩|gtr=>injection hx with hx;subst hx;exact⟨_,by simp[binOp,Op.intCmp],RA.of_bool _⟩|geq=>injection hx with hx;subst hx;exact⟨_,by simp[binOp,Op.intCmp],RA.of_bool _⟩|quo=>simp only[CE] at hx;split at hx;cases hx;rename_i a;injection hx with hx;subst hx;exact⟨_,by simp[binOp,Op.intDiv,a],RA.of_int _ _⟩|rem=>simp only[CE] at hx;split at hx;cases hx;rename_i a;injection hx with hx;subst hx;exact⟨_,by simp[binOp,Op.intDiv,a],RA.of_int _ _⟩|shl=>simp[BinOp.AS] at b|shr=>simp[BinOp.AS] at b|andNot=>cases hx
theorem ari {op:BinOp} {k k':IntKind} {n m:Int} {c:C} {t:TypeId} (d:BinOp.AS op=true) (hx:ID op k n m=some c):∃v,(binOp op t (.int k n) (.int k' m)).run P w=.ok v w/\RA w G h (.one (.c c)) v:=by unfold ID at hx;split at hx;cases hx;rename_i a;cases op<;>simp[BinOp.AS] at d;injection hx with hx;subst hx;exact⟨_,by simp[binOp,Op.shift,a],RA.of_int _ _⟩;injection hx with hx;subst hx;have b:(0:Int)<=2^min m.toNat k.bits:=Int.le_of_lt (Int.pow_pos (by decide));exact⟨_,by simp[binOp,Op.shift,a,Int.fdiv_eq_ediv_of_nonneg _ b],RA.of_int _ _⟩
theorem ade (op:BinOp) (t:TypeId) (x y:Operand) (k k':IntKind) (n m:Int):(eqGuard op t x y (.int k n) (.int k' m)).run P w=.ok () w:=by cases op<;>simp[eqGuard]
theorem adb (op:BinOp) (t:TypeId) (x y:Operand) (n m:Bool):(eqGuard op t x y (.bool n) (.bool m)).run P w=.ok () w:=by cases op<;>simp[eqGuard]
theorem ah2 (r:R B E w0 N σ a w G) {op:BinOp} {t t':TypeId} {x y:Operand} {mx my:MO} {c:C} (u:o.op=.binOp op t x y t') (j:∀n,o.dst=some n->n<N) (hx:bU x mx=true) (hy:bU y my=true) (b:xN op (σ.ev mx) (σ.ev my)=some c):o.wp P a w (Nx B E w0 N (σ.put o.dst (.one (.c c)))) Q:=by obtain⟨s,_⟩:=r.ev hx;obtain⟨l,_⟩:=r.ev hy;unfold xN at b;split at b;rename_i k n k' m z D;rw[z] at s;rw[D] at l;have i:=s.Hq;have p:=l.Hq;split at b;rename_i e;obtain⟨v,d,g⟩:=ari (P:=P) (w:=w) (G:=G) (h:=σ.h) (k':=k') (t:=t) e b;exact jI r (by simp only[execOp,u,i,p];simp[ade,d]) g (fun q f=>absurd f tT) j;rename_i e;split at b;rename_i A;subst A;obtain⟨v,d,g⟩:=aq9 (P:=P) (w:=w) (G:=G) (h:=σ.h) (t:=t) (by simpa using e) b;exact jI r (by simp only[execOp,u,i,p];simp[ade,d]) g (fun q f=>absurd f tT) j;cases b;cases b
theorem ah3 (r:R B E w0 N σ a w G) {op:BinOp} {t t':TypeId} {x y:Operand} {mx my:MO} {c:C} (k:o.op=.binOp op t x y t') (f:∀n,o.dst=some n->n<N) (hx:bU x mx=true) (hy:bU y my=true) (s:P.underlying t=some .bool) (b:CD op (σ.ev mx) (σ.ev my)=some c):o.wp P a w (Nx B E w0 N (σ.put o.dst (.one (.c c)))) Q:=by obtain⟨j,_⟩:=r.ev hx;obtain⟨h,_⟩:=r.ev hy;unfold CD at b;split at b;rename_i n m l p;rw[l] at j;rw[p] at h;have e:=j.CF;have i:=h.CF;have g:(Op.equal t (.bool n) (.bool m)).run P w=.ok (n==m) w:=run_equal_bool w t n m s;split at b;injection b with b;subst b;exact jI r (by simp only[execOp,k,e,i];simp[adb,binOp,g]) (RA.of_bool _) (fun q d=>absurd d tT) f;injection b with b;subst b;exact jI r (by simp only[execOp,k,e,i];simp[adb,binOp,g,bne]) (RA.of_bool _) (fun q d=>absurd d tT) f;cases b;cases b
theorem aiB (r:R B E w0 N σ a w G) {op:UnOp} {t:TypeId} {x:Operand} {mx:MO} {c:C} (i:o.op=.unOp op t x) (h:∀n,o.dst=some n->n<N) (hx:bU x mx=true) (b:E7 op (σ.ev mx)=some c):o.wp P a w (Nx B E w0 N (σ.put o.dst (.one (.c c)))) Q:=by obtain⟨d,_⟩:=r.ev hx;unfold E7 at b;split at b;rename_i n f;rw[f] at d;have e:=d.CF;split at b;injection b with b;subst b;exact jI r (by simp only[execOp,i,e];simp[Op.unary]) (RA.of_bool _) (fun q g=>absurd g tT) h;cases b;rename_i k n f;rw[f] at d;have e:=d.Hq;split at b;injection b with b;subst b;exact jI r (by simp only[execOp,i,e];simp[Op.unary,Op.intArith]) (RA.of_int _ _) (fun q g=>absurd g tT) h;cases b;cases b
def FH (P:Program) (s:TypeId) (f off:Nat):Bool:=
 match P.underlying s with
 |some (.struct xW)=>match xW[f]? with
  |some fd=>(fd.offset==off)&&(match P.info? fd.type with|some i=>i.size !=0|none=>false)
  |none=>false
 |_=>false
theorem Ez {s:TypeId} {f off:Nat} (a:FH P s f off=true) (b o:Nat):(Instr.fieldAt s (.pointer (some (ad b o))) f).run P w=.ok (.pointer (some (ad b (o+off)))) w:=by unfold FH at a;split at a;rename_i xW g;split at a;rename_i fd d;split at a;rename_i i c;simp at a;obtain⟨rfl,e⟩:=a;simp[Instr.fieldAt,run_underlying g,d,Instr.sureAddr,fieldPlace,sizeOf,typeInfo,c,e,qy];simp at a;cases a;cases a
theorem PJ (r:R B E w0 N σ a w G) {s:TypeId} {f off:Nat} {x:Operand} {mx:MO} {y:ao} (z:o.op=.fieldAddr s x f) (p:∀n,o.dst=some n->n<N) (hx:bU x mx=true) (t:FH P s f off=true) (hy:(∃n k sz q,σ.ev mx=.one (.ptr n k sz q)/\(σ.h n).isSome=true/\y=.one (.ptr n k sz (q+off)))\/(∃xs q,σ.ev mx=.one (.di xs q)/\y=.one (.di xs (q+off)))\/(∃xs q j n s len,σ.ev mx=.one (.cO xs q j n s len)/\y=.one (.cO xs (q+off) j n s len))): o.wp P a w (Nx B E w0 N (σ.put o.dst y)) Q:=by obtain⟨c,i⟩:=r.ev hx;rcases hy with⟨n,k,sz,q,d,A,rfl⟩|⟨xs,q,d,rfl⟩|⟨xs,q,j,n,s',len,d,rfl⟩;rw[d] at c i;have F:σ.h n≠none:=(by intro H;rw[H] at A;cases A);obtain⟨D,I⟩:=(c.gj (by simp)).1 F;refine jI r (v:=.pointer (some (ad (G.g n).b ((G.g n).o+k*sz+q+off)))) ?_ ?_ (fun m hm=>i m hm) p;simp only[execOp,z,I];simp[Ez t];exact RA.gh rfl fun _=>⟨D,by rw[Pe]⟩;rw[d] at c;obtain⟨b,e,pe,p1,u,l,p4⟩:=(c.gj (by simp)).1;refine jI r (v:=.pointer (some (ad b (e+q+off)))) ?_ ?_ (fun m hm=>absurd hm (by simp[ao.ref,ah.ref,ah.ie])) p;simp only[execOp,z,p1];simp[Ez t];exact RA.gh rfl ⟨b,e,pe,by rw[Pe],u,l,p4⟩;rw[d] at c i;obtain⟨b,e,pe,p1,u,l,p4,C⟩:=(c.gj (by simp)).1;refine jI r (v:=.pointer (some (ad b (e+q+off)))) ?_ ?_ (fun m hm=>i m hm) p;simp only[execOp,z,p1];simp[Ez t];exact RA.gh rfl ⟨b,e,pe,by rw[Pe],u,l,p4,C⟩
theorem ail (r:R B E w0 N σ a w G) {x:Operand} {mx:MO} {i:Nat} {xs:List (Bool×List ah)} {ag:Bool} {cs:List ah} (t:o.op=.extract x i) (k:∀n,o.dst=some n->n<N) (hx:bU x mx=true) (s:σ.ev mx=.bH xs) (b:xs[i]? =some (ag,cs)) (f:ag=false->∃c,cs=[c]):o.wp P a w (Nx B E w0 N (σ.put o.dst (rv ag cs))) Q:=by obtain⟨j,d⟩:=r.ev hx;rw[s] at j d;obtain⟨vs,e,hl,p⟩:=j;have g:i<vs.length:=(by rw[hl];exact(AI.1 b).1);have q:vs[i]? =some vs[i]:=AN g;have h:=p i _ _ b q;refine jI r (v:=vs[i]) ?_ ?_ (fun m hm=>?_) k;simp only[execOp,t,e];simp[Instr.extract,g];cases ag;obtain⟨c,rfl⟩:=f rfl;exact .inr h;exact h;cases ag;obtain⟨c,rfl⟩:=f rfl;exact d m ⟨_,co b,c,by simp,hm⟩;obtain⟨c,l,hm⟩:=hm;exact d m ⟨_,co b,c,l,hm⟩
theorem air (r:R B E w0 N σ a w G) {mx':Bool} {x y:Operand} {mx my:MO} {k k':IntKind} {n m:Int} {ts:Array TypeId} (g:o.op=.call {callee:=.builtin (if mx'=true then .max else .min),args:=#[x,y],argTypes:=ts}) (h:∀n,o.dst=some n->n<N) (hx:bU x mx=true) (hy:bU y my=true) (i:σ.ev mx=.one (.c (.int k n))) (l:σ.ev my=.one (.c (.int k' m))): o.wp P a w (Nx B E w0 N (σ.put o.dst (.one (.c (.int k (if mx'=true then(if n<m then m else n) else(if m<n then m else n))))))) Q:=by obtain⟨f,_⟩:=r.ev hx;obtain⟨d,_⟩:=r.ev hy;rw[i] at f;rw[l] at d;have b:=f.Hq;have e:=d.Hq;refine jI r ?_ (RA.of_int _ _) (fun q j=>absurd j tT) h;cases mx';simp[execOp,g,resolve,invoke,builtin,Builtin.min_,b,e,Builtin.min2];simp[execOp,g,resolve,invoke,builtin,Builtin.max_,b,e,Builtin.max2]
end
theorem rG {α:Type} {px py:List (List α)} {k j:Nat} {c:α} (h:At (px++py) k j c):(k<px.length/\At px k j c)\/(px.length<=k/\At py (k - px.length) j c):=by obtain⟨e,b,d⟩:=h;rcases zbd k px.length with a|a;rw[By a] at b;exact .inl ⟨a,e,b,d⟩;rw[BY a] at b;exact .inr ⟨a,e,b,d⟩
theorem xd {b:Nat} {px py:List (List PC)} (h:bc b (px++py)):bc b px\/bc b py:=by obtain⟨k,j,c,e,d⟩:=h;rcases rG e with⟨_,a⟩|⟨_,a⟩;exact .inl ⟨_,_,_,a,d⟩;exact .inr ⟨_,_,_,a,d⟩
theorem L6 {px py:List (List PC)} (l:jE px) (m:jE py) (i:∀b,bc b px->¬bc b py):jE (px++py):=by refine⟨fun k j c f=>?_,fun k j c k' j' c' b f o g a d=>?_⟩;rcases rG f with⟨_,h⟩|⟨_,h⟩;exact l.1 _ _ _ h;exact m.1 _ _ _ h;rcases rG f with⟨q,h⟩|⟨q,h⟩<;>rcases rG o with⟨n,h'⟩|⟨n,h'⟩;exact l.2 _ _ _ _ _ _ b h h' g a d;exact i b ⟨_,_,_,h,a⟩ ⟨_,_,_,h',d⟩;exact i b ⟨_,_,_,h',d⟩ ⟨_,_,_,h,a⟩;refine m.2 _ _ _ _ _ _ b h h' (fun e=>g ?_) a d;injection e with e1 e2;rw[show k=k' by omega,e2]
section
variable {B:Nat} {E:Ex} {w0 w w':World} {G G':Gh} {h h':Nat->Option ar} {used used':Nat->Bool} {tk:List PC} {N:Nat}
variable {P:Program} {o:Oper} {a:Act} {σ σ':St} {Q:Exit->Act->World->Prop}
theorem y7 {py:List (List PC)} (m:fh (py.map fun e=>e.map PC.er)=true) (b:Nat):¬bc b py:=by rintro⟨k,j,c,⟨e,h,a⟩,d⟩;have l:e.map PC.er∈py.map fun e=>e.map PC.er:=zae (f:=fun e=>e.map PC.er) (co h);have i:=OF.1 m _ l;have g:=OF.1 i c.er (zae (co a));exact(Sep.iI (pc:=c) g).2 b d
theorem aex {py:List (List PC)} (h:fh (py.map fun e=>e.map PC.er)=true) (k j:Nat) (c:PC) (b:At py k j c):s6 w c:=by obtain⟨e,d,a⟩:=b;have g:=OF.1 h _ (zae (f:=fun e=>e.map PC.er) (co d));exact s6.iI (OF.1 g c.er (zae (co a)))
structure mX (B:Nat) (E:Ex) (w:World) (G:Gh) (h:Nat->Option ar) (sz:Nat) (m:Mode) (px:List (List PC)):Prop where
 len:∀e∈px,e.length=sz
 e7:∀k j c,At px k j c->Good w c
 mode:Js B E w G px m
 gw:m≠ .aM->∀n gr m' aL av,h n=some (.row gr m' aL av)->m'≠ .aM->∀b,bc b px->¬bc b (G.g n).px
 live:m=.live->∀b,bc b px->∀n,h n≠none->(G.g n).nl=false->b≠(G.g n).b
 nr:m=.live->s7 w sz px
theorem mX.Vn {m:Mode} {sz:Nat} {px py:List (List PC)} (F:mX B E w G h sz m px) (hl:∀e∈py,e.length=sz) (i:∀k j c,At py k j c->Good w c) (g:∀b,¬bc b py) (t:∀k j c,At py k j c->s6 w c):mX B E w G h sz m (px++py):=by have f:∀b,bc b (px++py)->bc b px:=fun b a=>(xd a).resolve_right (g b);refine⟨fun e q=>(zaj.1 q).elim (F.len e) (hl e),fun k j c d=>?_,?_,fun hm n p u o r hn s b a=>F.gw hm n p u o r hn s b (f b a),fun hm b a=>F.live hm b (f b a),fun hm k c d=>(rG d).elim (fun h=>F.nr hm _ _ h.2) (fun h=>t _ _ _ h.2)⟩;rcases rG d with⟨_,h⟩|⟨_,h⟩;exact F.e7 _ _ _ h;exact i _ _ _ h;have l:jE py:=⟨fun k j c d=>Sep.Bg (fun b a=>g b ⟨k,j,c,d,a⟩) (i k j c d),fun k j c k' j' c' b d _ _ a=>absurd ⟨k,j,c,d,a⟩ (g b)⟩;have hm:=F.mode;cases m with|aM=>exact fun b a=>hm b (f b a)|aN=>exact⟨fun b a=>hm.1 b (f b a),L6 hm.2 l (fun b _=>g b)⟩|live=>exact⟨fun b a=>hm.1 b (f b a),L6 hm.2 l (fun b _=>g b)⟩
theorem mX.SS (H:HR B E w G h used []) {n:Nat} {a:Bool} {m:Mode} {sz:Nat} {xs:List (List C)} (hn:h n=some (.row a m sz xs)) (u:m=.live->a=true):mX B E w G (aI h n none) sz m (G.g n).px:=by have hr:=H.row n a m sz xs hn;have s:(G.g n).px≠[]->(G.g n).nl=false:=fun i=>(by cases d:(G.g n).nl with|false=>rfl|true=>exact absurd (hr.nl d).1 i);refine⟨fun e f=>(hr.eG (s (zaZ f))).2.1.1 e f,fun k j c r=>?_,hr.mode,fun hm q y z t v d x b l=>?_,fun hm b l q d hl=>?_,fun hm=>hr.nr (u hm) hm⟩;have i:(G.g n).px≠[]:=(by obtain⟨e,f,_⟩:=r;exact zaZ (co f));exact(hr.eG (s i)).2.1.2.2 k j c r;obtain⟨o,p⟩:=rJ d;exact H.gw n q a m sz xs y z t v hn o hm x (zaL p) b l;subst hm;obtain⟨o,p⟩:=CZ d;exact H.live n a sz xs hn b l q o hl
theorem mX.del {m:Mode} {sz:Nat} {px:List (List PC)} (F:mX B E w G h sz m px) (n:Nat):mX B E w G (aI h n none) sz m px:= ⟨F.len,F.e7,F.mode,fun hm q f g c d a i=>F.gw hm q f g c d (rJ a).1 i,fun hm b e q a=>F.live hm b e q (CZ a).1,F.nr⟩
theorem mX.Ut {m:Mode} {sz:Nat} {px:List (List PC)} (F:mX B E w G h sz m px) (hm:m≠ .live):∀b,bc b px->G.Im b:=by intro b a;have:=F.mode;cases m with|aM=>exact this b a|aN=>exact(this.1 b a).1|live=>exact absurd rfl hm
def xF (B:Nat) (E:Ex) (w:World) (G:Gh) (h:Nat->Option ar) (sz:Nat) (m:Mode) (px:List (List PC)) (v:Value):Prop:=
 (∃a,v=.slice a 0 0/\px=[])\/
 ∃b o cap cur e,v=.slice (some (ad b o)) px.length cap/\w.heap[b]? =some (.cells cur e (0,0))/\cur.size=o+cap*sz/\cap<=maxLen/\px.length<=cap/\pL w b o sz px/\
  qw G h b/\(B<=b\/E b)/\(∀b',bc b' px->b'≠b)
theorem xF.del {m:Mode} {sz:Nat} {px:List (List PC)} {v:Value} (L:xF B E w G h sz m px v) (n:Nat):xF B E w G (aI h n none) sz m px v:=by rcases L with j|⟨b,o,cap,cur,e,c,s,i,p,r,l,⟨l1,l2,k⟩,g,f⟩;exact .inl j;exact .inr ⟨b,o,cap,cur,e,c,s,i,p,r,l,⟨l1,fun q a=>l2 q (CZ a).1,fun q d m sz xs a=>k q d m sz xs (rJ a).1⟩,g,f⟩
theorem Ga {px:List (List PC)} {sz:Nat} (hl:∀e∈px,e.length=sz):(px.flatten.map PC.val).length=px.length*sz:=by induction px with|nil=>simp|cons e px a=>have:=a (fun e b=>hl e (by simp[b]));simp only[zap,zay,zav,zar,IN,this,zan] at*;rw[hl e (by simp)];omega
theorem PS {α:Type} {sz:Nat} (h:0<sz):∀{px:List (List α)} (_:∀e∈px,e.length=sz) {i:Nat} {c:α},px.flatten[i]? =some c->∃k j,At px k j c/\i=k*sz+j
 |[],_,i,c,hi=>by simp at hi
 |e::px,hl,i,c,hi=>by have h0:=hl e (by simp);simp only[zap] at hi;rcases zbd i e.length with g|b;rw[By g] at hi;exact⟨0,i,⟨e,rfl,hi⟩,by omega⟩;rw[BY b] at hi;obtain⟨k,j,⟨f,a,d⟩,hk⟩:=PS h (px:=px) (fun e a=>hl e (by simp[a])) hi;exact⟨k+1,j,⟨f,by simpa using a,d⟩,by rw[IN];omega⟩
theorem aq8 {t ty e l:TypeId} {i:TypeInfo} (y:P.underlying t=some (.slice e)) (p:P.info? e=some i) (g f b h:Nat) (cur:Array Value) (n:w.heap[g]? =some (.cells cur l (0,0))) (a:Addr) (m c:Nat) (d:List Value) (hl:d.length=m*i.size) (o:∀j u,d[j]? =some u->w.cell? (a.add j)=some u) (q:∀u∈d,u.oneCell'=true) (r:b+m<=h) (v:f+b*i.size+d.length<=cur.size): (Builtin.append_ #[t,t] ty #[.slice (some (ad g f)) b h,.slice (some a) m c]).run P w=.ok (.slice (some (ad g f)) (b+m) h) (f7 w g (f+b*i.size) d cur):=by have s:=run_firstCells_some (P:=P) w i.size m a m c d hl o;have k:=run_storeCells_at P g (f+b*i.size) l d 0 cur w n (by simpa using v) q;simp only[zaB] at k;have x:(ad g f).add (b*i.size)=⟨g,f+b*i.size,none⟩:=(by rw[qy];simp[ad]);simp[Builtin.append_,run_underlying y,sizeOf,typeInfo,p,Builtin.lenOf,r,s,x,k,f7]
theorem ada (w:World) {t e:TypeId} {i:TypeInfo} {z:Value} {ty:TypeId} {sz by_:Nat} (x:P.underlying t=some (.slice e)) (s:P.info? e=some i) (M:i.zero=some z) (p:i.size=sz) (iT:0<sz) (J:i.bytes=by_) (wi:0<by_) {m:Mode} {px:List (List PC)} {v:Value} (R:∀e∈px,e.length=sz) (L:xF B E w G h sz m px v) {d:List Value} {k c:Nat} {ya:Option Addr} (n:d.length=k*sz) (hy:(ya=none/\k=0)\/∃l,ya=some l/\∀(j:Nat) (u:Value),d[j]? =some u->w.cell? (l.add j)=some u) (h1:∀u∈d,u.oneCell'=true) (y:(px.length+k)*by_<=fQ): (∃a,k=0/\v=.slice a 0 0/\px=[]/\(Builtin.append_ #[t,t] ty #[v,.slice ya k c]).run P w=.ok (.slice a 0 0) w)\/ (∃b o cap cur F,v=.slice (some (ad b o)) px.length cap/\w.heap[b]? =some (.cells cur F (0,0))/\cur.size=o+cap*sz/\cap<=maxLen/\px.length+k<=cap/\pL w b o sz px/\qw G h b/\(B<=b\/E b)/\(∀W,bc W px->W≠b)/\ (Builtin.append_ #[t,t] ty #[v,.slice ya k c]).run P w=.ok (.slice (some (ad b o)) (px.length+k) cap) (f7 w b (o+px.length*sz) d cur))\/ (∃(cap:Nat) (arr:Array Value),px.length+k<=cap/\cap<=maxLen/\arr.size=cap*z.cells.size+(px.length+k)*sz - (px.length+k)*z.cells.size/\(∀(q:Nat) (u:Value),(px.flatten.map PC.val++d)[q]? =some u->arr[q]? =some u)/\ (Builtin.append_ #[t,t] ty #[v,.slice ya k c]).run P w=.ok (.slice (some (ad w.heap.size 0)) (px.length+k) cap) (w.drew.alloc (.cells arr e))):=by have O:px.length+k<=fQ:=zas (zau _ wi) y;have j0:(fQ:Nat)=140737488355328:=rfl;have K:∀g,grownCap w (px.length+k) g e<=maxLen:=fun g=>grownCap_le_maxLen w _ g e (by simp only[maxLen];omega);have T:=Ga R;have H:∀g,((px.flatten.map PC.val).toArray++d.toArray++Builtin.zeroCells z.cells (grownCap w (px.length+k) g e - (px.length+k))).size=grownCap w (px.length+k) g e*z.cells.size+(px.length+k)*sz - (px.length+k)*z.cells.size:=(by intro g;have Az:=grownCap_ge w (px.length+k) g e;have h2:(px.length+k)*z.cells.size<=grownCap w (px.length+k) g e*z.cells.size:=GB _ Az;simp only[za2,zaF,size_zeroCells,T,n,Nat.sub_mul,IN] at*;omega);have Q:∀g (q:Nat) (u:Value),(px.flatten.map PC.val++d)[q]? =some u->((px.flatten.map PC.val).toArray++d.toArray++Builtin.zeroCells z.cells (grownCap w (px.length+k) g e - (px.length+k)))[q]? =some u:=(by intro g q u f;have Q3:=(AI.1 f).1;rw[Array.getElem?_append_left (by simp only[za2,zaF];simpa using Q3)];simpa using f);rcases L with⟨a,rfl,rfl⟩|⟨b,o,cap,cur,F,rfl,N,S,a4,a5,V,Y,Z,X⟩;by_cases U:k=0;subst U;left;have hn:d=[]:=AT (by simpa using n);refine⟨a,rfl,rfl,rfl,?_⟩;cases ya<;>cases a<;>simp[Builtin.append_,run_underlying x,sizeOf,typeInfo,s,Builtin.lenOf,Builtin.firstCells,loadCells,loadCellsFrom,storeCells];rcases hy with⟨_,h0⟩|⟨l,rfl,r⟩;exact absurd h0 U;right;right;(cases a with|none=>have hr:=run_append_nil (P:=P) w t ty e i z x s M l k c d (by rw[p];exact n) r (by omega) (by simp only[zaf,IT] at O;omega) (by rw[J];simp only[zaf,IT] at y;omega);have C:=H 0;have D:=Q 0;have A:=K 0;simp only[zaf,IT,za5,zaC,zam] at C D A⊢;exact⟨grownCap w k 0 e,d.toArray++Builtin.zeroCells z.cells (grownCap w k 0 e - k),grownCap_ge w k 0 e,A,by simpa using C,fun q u f=>by simpa using D q u f,hr⟩|some a=>have hr:=run_append_grow (P:=P) w t ty e i z x s M a 0 0 [] (by simp) (fun q u f=>by simp at f) l k c d (by rw[p];exact n) r (by omega) (by simp only[zaf,IT] at O;omega) (growslice_fits (by simp only[zaf,IT] at O;omega) (by rw[J,IT];rw[zaf,IT] at y;exact y));have C:=H 0;have D:=Q 0;have A:=K 0;simp only[zaf,IT,za5,zaC,zam] at C D A hr⊢;exact⟨_,_,grownCap_ge w k 0 e,A,by simpa using C,fun q u f=>by simpa using D q u f,hr⟩);by_cases I:px.length+k<=cap;right;left;refine⟨b,o,cap,cur,F,rfl,N,S,a4,I,V,Y,Z,X,?_⟩;rcases hy with⟨rfl,rfl⟩|⟨l,rfl,r⟩;have hn:d=[]:=AT (by simpa using n);subst hn;have wE:f7 w b (o+px.length*sz) [] cur=w:=(by unfold f7;simp only[za8,zaf,zaB,List.take_append_drop,Array.toArray_toList];exact setRow_self w b cur F (0,0) N);rw[wE];simp[Builtin.append_,run_underlying x,sizeOf,typeInfo,s,Builtin.lenOf,Builtin.firstCells,a5,storeCells];have hr:=aq8 (P:=P) (w:=w) (ty:=ty) x s b o px.length cap cur N l k c d (by rw[p];exact n) r h1 I (by rw[p,n,S,Pe,<-IN];exact zaU (GB _ I) _);rw[p] at hr;exact hr;rcases hy with⟨_,rfl⟩|⟨l,rfl,r⟩;omega;right;right;have hr:=run_append_grow (P:=P) w t ty e i z x s M (ad b o) px.length cap (px.flatten.map PC.val) (by rw[p];exact T) (fun q u f=>by rw[wt] at f;cases hf:px.flatten[q]? with|none=>rw[hf] at f;cases f|some pc=>rw[hf] at f;simp at f;subst f;obtain⟨k',j',n8,rfl⟩:=PS iT R hf;rw[qy,<-Pe];exact V.2.1 k' j' pc n8) l k c d (by rw[p];exact n) r (by omega) (by omega) (growslice_fits (by omega) (by rw[J];exact y));exact⟨_,_,grownCap_ge w _ _ _,K _,H _,Q _,hr⟩
def ur (w:World) (sz:Nat) (py:List (List PC)) (v:Value):Prop:=
 (∀e∈py,e.length=sz)/\(∀k j c,At py k j c->Good w c)/\
 ∃ya c,v=.slice ya py.length c/\((ya=none/\py.length=0)\/∃ay,ya=some ay/\∀(j:Nat) (u:Value),(py.flatten.map PC.val)[j]? =some u->w.cell? (ay.add j)=some u)
theorem ur.SR {sz:Nat} {ya:Option Addr} {c:Nat} {py:List (List PC)} (f:Good w (.list sz ya c py)):ur w sz py (.slice ya py.length c):=by cases f with|nil _ _ _ h=>refine⟨by simp,by rintro k j c ⟨e,l,_⟩;simp at l,ya,c,rfl,?_⟩;(cases ya with|none=>exact .inl ⟨rfl,rfl⟩|some q=>exact .inr ⟨q,rfl,by simp⟩)|cons _ b o _ _ h1 h2 i d g n=>refine⟨d,n,_,c,rfl,.inr ⟨_,rfl,fun j u a=>?_⟩⟩;rw[wt] at a;cases hf:py.flatten[j]? with|none=>rw[hf] at a;cases a|some pc=>rw[hf] at a;simp at a;subst a;obtain⟨k',m,p,rfl⟩:=PS i d hf;rw[qy,<-Pe];exact g k' m pc p
theorem R.agA (r:R B E w0 N σ a w G) {σ2:St} (Ax:σ2.env=σ.env) (O:σ2.used=σ.used) (H:HR B E w G σ2.h σ.used []) (K:bu w G σ.h (fun n=>σ.used n=true) w G σ2.h) {n:Nat} {sz by_:Nat} {m m2:Mode} {px py:List (List PC)} {v yv:Value} (hn:σ.used n=false) (Y:0<sz) (F:mX B E w G σ2.h sz m2 (px++py)) (iq:∀e∈px,e.length=sz) (L:xF B E w G σ2.h sz m px v) (Ry:ur w sz py yv) (lB:∀b,bc b py->∀b' o cap,0<cap->v=.slice (some (ad b' o)) px.length cap->qw G σ2.h b'->b≠b') {t e:TypeId} {i:TypeInfo} {z:Value} {ty:TypeId} (ht:P.underlying t=some (.slice e)) (M:P.info? e=some i) (hz:i.zero=some z) (bN:i.size=sz) (n6:i.bytes=by_) (wi:0<by_) (wJ:z.cells.size=sz) (d:(px.length+py.length)*by_<=fQ): ∃u w' G',(Builtin.append_ #[t,t] ty #[v,yv]).run P w=.ok u w'/\ R B E w0 N {σ2 with h:=aI σ2.h n (some (.row true m2 sz ((px++py).map fun e=>e.map PC.er))),used:=aI σ2.used n true} a w' G'/\ RA w' G' (aI σ2.h n (some (.row true m2 sz ((px++py).map fun e=>e.map PC.er)))) (.one (.sl n sz 0 (px.length+py.length))) u:=by obtain⟨W,r2,ya,c,rfl,r3⟩:=Ry;have aR:(py.flatten.map PC.val).length=py.length*sz:=Ga W;have h1:∀u∈py.flatten.map PC.val,u.oneCell'=true:=fun u hu=>(by obtain⟨pc,_,rfl⟩:=zaa.1 hu;exact PC.kF pc);have hB:=r.fr.size;have GK:(px++py).length=px.length+py.length:=(by simp);have Qw:σ2.h n=none:=(by cases hh:σ2.h n with|none=>rfl|some b=>have:=H.jp n (by rw[hh];simp);rw[hn] at this;cases this);have ne:∀q,σ.used q=true->q≠n:=fun q f e=>(by subst e;rw[hn] at f;cases f);have aJ:∀q,σ2.h q≠none->q≠n:=fun q f e=>(by subst e;exact f Qw);rcases ada (P:=P) w (ty:=ty) ht M hz bN Y n6 wi iq L aR r3 h1 d with⟨a0,k0,rfl,rfl,U⟩|⟨b,J,cap,cur,e',rfl,T,b3,b4,b5,b6,Q,b8,b9,U⟩|⟨cap,arr,c1,c2,c3,c4,U⟩;have hpy:py=[]:=AT k0;subst hpy;refine⟨_,w,⟨G.Im,aI G.g n ⟨true,0,0,0,[],a0⟩⟩,U,?_,?_⟩;refine r.step (σ':=_) Ax (fun q f=>by show aI σ2.used n true q=true;rw[O];exact t9 n q f) (bu.trans (u2:=fun n=>σ.used n=true) (fun _ h=>h) K (bu.insert H (blk:=.row true m2 sz []) (p:=⟨true,0,0,0,[],a0⟩) hn (fun _ _=>rfl))) ?_ r.fr;show HR B E w _ (aI σ2.h n (some (.row true m2 sz []))) (aI σ2.used n true) [];rw[O];have cN:∀b,¬bc b ([]:List (List PC)):=(by rintro b ⟨k,j,c,⟨e,A,_⟩,_⟩;simp at A);refine H.insert (p:=⟨true,0,0,0,[],a0⟩) hn (fun _ _=>rfl) (zad _) (fun h=>by cases h) (fun cs c m d=>by cases d) ⟨Y,rfl,fun _=>⟨rfl,fun _=>rfl⟩,(fun h=>by cases h),(fun h=>by cases h),?_,fun _ hm=>by have:=F.nr hm;simpa using this⟩ (fun y m sz xs _ _ n' Z m' I D _ _ b d=>absurd d (cN b)) (fun y sz xs _ b d=>absurd d (cN b)) (fun y m sz xs _ _ i pc b M=>by simp at M);have hm:=F.mode;simp only[za8] at hm;exact hm;refine RA.gh rfl fun _=>.inl ?_;simp[cr];have X:(J+px.length*sz)+(py.flatten.map PC.val).length<=cur.size:=(by rw[aR,b3,Pe,<-IN];exact zaU (GB _ b5) _);let C:=f7 w b (J+px.length*sz) (py.flatten.map PC.val) cur;have dL:∀x,x≠b->C.heap[x]? =w.heap[x]? :=fun x hx=>zA x hx;have As:∀x,G.Im x->x≠b:=fun x hx A=>Q.1 (A▸hx);have pU:∀x,ek w x->ek C x:=fun x hx=>Jb T X x hx;have QS:∀x,bc x (px++py)->x≠b:=fun x hx=>(xd hx).elim (b9 x) (fun h=>lB x h b J cap (by obtain⟨k,j,c,⟨e,A,_⟩,_⟩:=h;have:=(AI.1 A).1;omega) rfl Q);let p:PB:=⟨false,b,J,cap,px++py,none⟩;have K2:bu w G σ2.h (fun n=>σ.used n=true) C ⟨G.Im,aI G.g n p⟩ (aI σ2.h n (some (.row true m2 sz ((px++py).map fun e=>e.map PC.er)))):=(by refine⟨fun _ h=>h,fun x hx o=>ik (dL x (As x hx)) o,fun q f l=>?_,fun q y I D f l=>?_⟩;rw[cQ _ _ _ _ (ne q f)] at l;simp only[cQ _ _ _ _ (ne q f)];exact⟨l,trivial,trivial,trivial,trivial,trivial⟩;rw[cQ _ _ _ _ (ne q f)] at l;simp only[cQ _ _ _ _ (ne q f)];exact⟨⟨y,D,l⟩,fun k j pc h1 h2=>⟨pc,h1,rfl,h2⟩⟩);have aj4:b<w.heap.size:=(zaq.1 T).1;have Hn:HR B E C ⟨G.Im,aI G.g n p⟩ (aI σ2.h n (some (.row true m2 sz ((px++py).map fun e=>e.map PC.er)))) (aI σ.used n true) []:=(by refine H.put (p:=p) (fun x _ hx=>dL x (hx rfl)) (by show w.heap.size<=C.heap.size;rw[ry];exact zad _) (fun x _ hx=>pU x hx) (fun q f=>t9 n q f) (cr _ _ _) (fun _=>⟨Q.1,b8,by show b<C.heap.size;rw[ry];exact aj4⟩) (fun _ q f l hl=>Q.2.1 q l hl) (fun _ q y I D f l x hx A=>Q.2.2 q y .live I D l (by have Dm:x=b:=A;rw[<-Dm];exact hx)) (fun cs c q d=>by cases d) K2 ?_ ?_ ?_ (fun y m sz xs _ _ i pc b M=>by simp at M) (fun _ _ x hx A=>by obtain⟨q,y,V,I,D,_,l,hxF⟩:=hx;exact Q.2.2 q y V I D l (by have Dm:x=b:=A;rw[<-Dm];exact hxF));refine⟨Y,rfl,(fun h=>by cases h),fun _=>⟨pU b ⟨cur,e',T⟩,⟨F.len,fun k j c s=>?_,fun k j c s=>?_⟩,by show(px++py).length<=cap;rw[GK];exact b5⟩,fun _ _=>?_,?_,fun _ hm=>(F.nr hm).congr fun x hx=>dL x (QS x hx)⟩;show C.cell? (ad b (J+k*sz+j))=some c.val;rw[zz T X];have S:=te F.len s;rw[zaV] at S;have jY:px.flatten.length=px.length*sz:=(by have:=Ga iq;rwa[zan] at this);rcases rG s with⟨uV,bW⟩|⟨uV,bW⟩;rw[aq ?_];exact b6.2.1 k j c bW;rintro⟨q1,_⟩;have hj:j<sz:=(by obtain⟨e1,A,hj⟩:=bW;rw[<-iq e1 (co A)];exact(AI.1 hj).1);have:(k+1)*sz<=px.length*sz:=GB _ uV;rw[IN] at this;omega;have Az:px.length*sz<=k*sz+j:=zas (GB _ uV) (Nat.le_add_right _ _);have cm:=(AI.1 S).1;rw[zav,jY] at cm;rw[BY (by rw[jY];exact Az),jY] at S;rw[ak ⟨by omega,by simp only[zan];omega⟩];rw[wt,show J+k*sz+j - (J+px.length*sz)=k*sz+j - px.length*sz by omega,S];rfl;exact(F.e7 k j c s).congr fun x hx o=>ik (dL x (QS x ⟨k,j,c,s,hx⟩)) o;obtain⟨jH,q1,q2⟩:=Fa (vs:=py.flatten.map PC.val) (o:=J+px.length*sz) T X;exact⟨b4,jH,e',q1,by rw[q2,b3]⟩;have hm:=F.mode;(cases m2 with|aM=>exact hm|aN=>exact⟨fun x hx=>⟨(hm.1 x hx).1,pU x (hm.1 x hx).2.1,(hm.1 x hx).2.2⟩,hm.2⟩|live=>exact⟨fun x hx=>⟨(hm.1 x hx).1,pU x (hm.1 x hx).2.1,(hm.1 x hx).2.2⟩,hm.2⟩);intro y m' I D d j0 q Z V mS jl gK l iQ x hx;injection d with _ d _ _;subst d;exact F.gw j0 q Z V mS jl l iQ x hx;intro y I D d x hx;injection d with _ d _ _;exact⟨fun _=>QS x hx,fun q _ l hl=>F.live d x hx q l hl⟩);refine⟨_,C,⟨G.Im,aI G.g n p⟩,U,?_,?_⟩;exact r.step (σ':=_) Ax (fun q f=>by show aI σ2.used n true q=true;rw[O];exact t9 n q f) (bu.trans (u2:=fun n=>σ.used n=true) (fun _ h=>h) K K2) (by show HR B E C _ _ (aI σ2.used n true) [];rw[O];exact Hn) (r.fr.one b8 (fun x hx yi=>dL x yi) (by show w.heap.size<=C.heap.size;rw[ry];exact zad _) (BM T X) rfl rfl rfl);refine RA.gh rfl fun _=>.inr ⟨by simp[cr,p],some (ad b J),?_,?_,?_⟩;simp[cr,p];simp[cr,p];exact b5;simp[cr,p];let w1:=w.drew;have hd:∀x:Nat,x<w.heap.size->(w.drew.alloc (.cells arr e)).heap[x]? =w.heap[x]? :=fun x hx=>heap_alloc_old w.drew _ x hx;have H1:HR B E w.drew G σ2.h σ.used []:=H.grow (w':=w.drew) (fun _ _=>rfl) (zad _);have W:R B E w0 N σ a w.drew G:=r.step (w':=w.drew) rfl (fun _ h=>h) (bu.world (w:=w) (w':=w.drew) (fun _ _=>rfl) _) (r.hr.grow (w':=w.drew) (fun _ _=>rfl) (zad _)) (r.fr.grow (w':=w.drew) (fun _ _=>rfl) (zad _) rfl rfl rfl);have K1:bu w.drew G σ.h (fun n=>σ.used n=true) w.drew G σ2.h:=⟨K.im,fun _ _ _=>rfl,K.name,K.live⟩;have gp:∀k j c,At (px++py) k j c->Good w.drew c:=fun k j c s=>(F.e7 k j c s).congr fun _ _ _=>rfl;have wh:∀k j c,At (px++py) k j c->arr[k*sz+j]? =some c.val:=fun k j c s=>(by have S:=te F.len s;refine c4 _ _ ?_;rw[<-zay,<-zaV,wt,S];rfl);have mN:arr.size=cap*sz:=(by rw[c3,wJ];omega);have hB2:=W.fr.size;let p:PB:=⟨false,w.heap.size,0,cap,px++py,none⟩;have hw:∀x:Nat,x<w.drew.heap.size->(w.drew.alloc (.cells arr e)).heap[x]? =w.drew.heap[x]? :=hd;have Hn:HR B E (w.drew.alloc (.cells arr e)) ⟨G.Im,aI G.g n p⟩ (aI σ2.h n (some (.row true m2 sz ((px++py).map fun e=>e.map PC.er)))) (aI σ.used n true) []:=(by refine H1.insert (p:=p) hn hw (by simp) (fun _=>⟨H1.Ss,.inl hB,by simp[p]⟩) (fun cs c m d=>by cases d) ?_ ?_ ?_ (fun y m sz xs _ _ i pc b M=>by simp at M);refine⟨Y,rfl,(fun h=>by cases h),fun _=>⟨ek.alloc _ _ _,⟨F.len,fun k j c s=>?_,fun k j c s=>?_⟩,by show(px++py).length<=cap;rw[GK];exact c1⟩,fun _ _=>⟨c2,arr,e,heap_alloc_new w.drew _,(IT _).symm▸mN⟩,?_,fun _ hm=>(F.nr hm).congr fun x hx=>by obtain⟨k,j,c,s,Rl⟩:=hx;exact hd x ((F.e7 k j c s).lt Rl)⟩;show(w.drew.alloc (.cells arr e)).cell? (ad w.drew.heap.size (0+k*sz+j))=some c.val;simp only[IT];unfold ad;rw[World.cell?_alloc_new];exact wh k j c s;exact(gp k j c s).congr fun x hx o=>ik (hw x ((gp k j c s).lt hx)) o;have hm:=F.mode;have hu:∀x,ek w x->ek (w.drew.alloc (.cells arr e)) x:=fun x hx=>hx.congr (hd x hx.lt);(cases m2 with|aM=>exact hm|aN=>exact⟨fun x hx=>⟨(hm.1 x hx).1,hu x (hm.1 x hx).2.1,(hm.1 x hx).2.2⟩,hm.2⟩|live=>exact⟨fun x hx=>⟨(hm.1 x hx).1,hu x (hm.1 x hx).2.1,(hm.1 x hx).2.2⟩,hm.2⟩);intro y m' I D d j0 q Z V mS jl l iQ x hx;injection d with _ d _ _;subst d;exact F.gw j0 q Z V mS jl l iQ x hx;intro y I D d x hx;injection d with _ d _ _;refine⟨fun _=>?_,fun q l hl=>F.live d x hx q l hl⟩;obtain⟨k,j,c,s,Rl⟩:=hx;have:=(F.e7 k j c s).lt Rl;show x≠w.heap.size;omega);refine⟨_,_,⟨G.Im,aI G.g n p⟩,U,?_,?_⟩;exact W.step (σ':=_) Ax (fun q f=>by show aI σ2.used n true q=true;rw[O];exact t9 n q f) (bu.trans (u2:=fun n=>σ.used n=true) (fun _ h=>h) K1 (bu.insert H1 hn hw)) (by show HR B E _ _ _ (aI σ2.used n true) [];rw[O];exact Hn) (W.fr.grow hw (by simp) rfl rfl rfl);refine RA.gh rfl fun _=>.inr ⟨by simp[cr,p],some (ad w.heap.size 0),?_,?_,?_⟩;simp[cr,p];simp[cr,p];exact c1;simp[cr,p]
theorem ann (r:R B E w0 N σ a w G) {sz:Nat} {x:ao} {v:Value} {xs:List (List C)} {m:Mode} {σ1:St} (D:RA w G σ.h x v) (hx:rF σ sz x=some (xs,m,σ1)): ∃px:List (List PC),xs=px.map (fun e=>e.map PC.er)/\mX B E w G σ1.h sz m px/\xF B E w G σ1.h sz m px v/\HR B E w G σ1.h σ.used []/\bu w G σ.h (fun n=>σ.used n=true) w G σ1.h/\σ1.env=σ.env/\σ1.used=σ.used/\ (∀n b,σ1.h n=some b->σ.h n=some b):=by unfold rF at hx;split at hx;rename_i s;injection hx with hx;injection hx with y l;injection l with l h3;subst y l h3;have p:v=.slice none 0 0:=(D.gj (by simp)).1;have A:∀b,¬bc b ([]:List (List PC)):=(by rintro b ⟨k,j,c,⟨e,i,_⟩,_⟩;simp at i);exact⟨[],rfl,⟨by simp,by rintro k j c ⟨e,i,_⟩;simp at i,⟨fun b d=>absurd d (A b),(by rintro k j c ⟨e,i,_⟩;simp at i),(by rintro k j c k' j' c' b ⟨e,i,_⟩;simp at i)⟩,fun _ _ _ _ _ _ _ _ b d=>absurd d (A b),fun _ b d=>absurd d (A b),fun h=>by cases h⟩, .inl ⟨none,p,rfl⟩,r.hr,bu.refl _ _ _ _,rfl,rfl,fun _ _ h=>h⟩;rename_i n s len;split at hx;rename_i Q rs z hn;split at hx;rename_i J;obtain⟨rfl,rfl,rfl⟩:=J;injection hx with hx;injection hx with y l;injection l with l h3;subst y l h3;have H:=r.hr;have t:σ.h n≠none:=(by rw[hn];simp);have hr:=H.row n true Q s z hn;have I:jb (G.g n) s 0 z.length v:=(D.gj (by simp)).1 t;have M:z.length=(G.g n).px.length:=(by rw[hr.er];simp);refine⟨(G.g n).px,hr.er,mX.SS H hn (fun _=>rfl),?_,H.del n,bu.del n _,rfl,rfl,fun q b u=>(rJ u).1⟩;rcases I with⟨f,p,_,_⟩|⟨f,a',p,jM,S⟩;have T:=(hr.nl f).2 rfl;exact .inl ⟨(G.g n).na,by rw[p,T],(hr.nl f).1⟩;right;obtain⟨W,cur,e,U,L⟩:=hr.room f rfl;obtain⟨l1,l2,O⟩:=hr.eG f;obtain⟨X,V,o3⟩:=H.own n t f;have K:=S (.inr rfl);refine⟨(G.g n).b,(G.g n).o,(G.g n).cap,cur,e,?_,U,L,W,O,l2,⟨X,fun q u hl=>?_,fun q gr m' aL av u d=>?_⟩,V,fun b d=>H.uJ t f hn d⟩;rw[p,K,M];simp;obtain⟨P,F⟩:=CZ u;exact H.inj q n P t F hl f;exact H.uJ t f (rJ u).1 d rfl;cases hx;cases hx;cases hx
theorem aqT {fl:Bool} {sz:Nat} {x:ao} {v:Value} {ys:List (List C)} {m m2:Mode} {σ1 σ2:St} {px:List (List PC)} (iT:0<sz) (H:HR B E w G σ1.h σ1.used []) (F:mX B E w G σ1.h sz m px) (W:RA w G σ1.h x v) (hx:mF fl σ1 sz m x=some (ys,m2,σ2)): ∃py:List (List PC),ys=py.map (fun e=>e.map PC.er)/\ur w sz py v/\mX B E w G σ2.h sz m2 (px++py)/\HR B E w G σ2.h σ1.used []/\bu w G σ1.h (fun n=>σ1.used n=true) w G σ2.h/\σ2.env=σ1.env/\σ2.used=σ1.used/\ (∀n b,σ2.h n=some b->σ1.h n=some b)/\(∀b,bc b py->∀i,¬G.Im i->(∀q o y D A,σ1.h q=some (.row o y D A)->¬bc i (G.g q).px)->b≠i):=by unfold mF at hx;have S:∀b,¬bc b ([]:List (List PC)):=(by rintro b ⟨k,j,c,⟨e,p,_⟩,_⟩;simp at p);split at hx;rename_i s;injection hx with hx;injection hx with l d;injection d with d h3;subst l d h3;have fY:v=.slice none 0 0:=(W.gj (by simp)).1;subst fY;exact⟨[],rfl,⟨by simp,by rintro k j c ⟨e,p,_⟩;simp at p,none,0,rfl,.inl ⟨rfl,rfl⟩⟩,by simpa using F,H,bu.refl _ _ _ _,rfl,rfl,fun _ _ h=>h,fun b a=>absurd a (S b)⟩;rename_i s t;split at hx;rename_i hs;subst hs;obtain⟨pc,K,e2,e3,e4⟩:=W.c;have cg:∃ya c py,pc=.list s ya c py/\py.map (fun e=>e.map PC.er)=t:=(by cases pc with|int k n=>simp[PC.er] at K|bool b=>simp[PC.er] at K|list s' ya c py=>rw[PC.dW] at K;injection K with K N;subst K;exact⟨ya,c,py,rfl,N⟩);obtain⟨ya,c,py,rfl,N⟩:=cg;have f:ur w s py v:=(by rw[<-e2];exact ur.SR e3);have mK:∀b,bc b py->G.Im b:=fun b ⟨k,j,c,r,a⟩=>e4 b (.there _ _ _ _ k j c r a);have I:∀b,bc b py->∀i,¬G.Im i->(∀q o y D A,σ1.h q=some (.row o y D A)->¬bc i (G.g q).px)->b≠i:=fun b a i T _ p=>T (p▸mK b a);split at hx;rename_i J;injection hx with hx;injection hx with l d;injection d with d h3;subst l d h3;replace J:=(zag _ _▸J).2;rw[<-N] at J;exact⟨py,N.symm,f,F.Vn f.1 f.2.1 (y7 J) (aex J),H,bu.refl _ _ _ _,rfl,rfl,fun _ _ h=>h,I⟩;split at hx;cases hx;rename_i r6;injection hx with hx;injection hx with l d;injection d with d h3;subst l d h3;refine⟨py,N.symm,f,⟨fun e p=>(zaj.1 p).elim (F.len e) (f.1 e),fun k j c r=>?_,fun b a=>(xd a).elim (F.Ut r6 b) (mK b),fun h=>absurd rfl h,(fun h=>by cases h),fun h=>by cases h⟩,H,bu.refl _ _ _ _,rfl,rfl,fun _ _ h=>h,I⟩;rcases rG r with⟨_,h⟩|⟨_,h⟩;exact F.e7 _ _ _ h;exact f.2.1 _ _ _ h;cases hx;rename_i n s lo len;split at hx;rename_i o Y rs t hn;split at hx;rename_i hc;obtain⟨rfl,rfl,hl⟩:=hc;have cf:σ1.h n≠none:=(by rw[hn];simp);have hr:=H.row n o Y s t hn;have X:jb (G.g n) s lo len v:=(W.gj (by simp)).1 cf;obtain⟨O,q2,q3,q4⟩:=II hr X hl;have Q:∃ya c,kV (G.g n) s lo len v=.list s ya c (((G.g n).px.drop lo).take len):=(by rcases X with⟨_,rfl,_,_⟩|⟨_,a',rfl,_,_⟩<;>exact⟨_,_,rfl⟩);obtain⟨ya,c,Q⟩:=Q;rw[Q] at O q2 q3 q4;have f:ur w s (((G.g n).px.drop lo).take len) v:=(by rw[<-q2];exact ur.SR q3);have nu:(t.drop lo).take len=(((G.g n).px.drop lo).take len).map (fun e=>e.map PC.er):=(by rw[PC.dW] at O;injection O with _ O;exact O.symm);have I:∀b,bc b (((G.g n).px.drop lo).take len)->∀i,¬G.Im i->(∀q o y D A,σ1.h q=some (.row o y D A)->¬bc i (G.g q).px)->b≠i:=(by rintro b ⟨k,j,c,r,a⟩ i _ T rfl;exact T n o Y s t hn ⟨_,_,_,(qA r).1,a⟩);split at hx;rename_i J;injection hx with hx;injection hx with l d;injection d with d h3;subst l d h3;have V:=(zag _ _▸J).2;rw[nu] at V;exact⟨_,nu,f,F.Vn f.1 f.2.1 (y7 V) (aex V),H,bu.refl _ _ _ _,rfl,rfl,fun _ _ h=>h,I⟩;split at hx;rename_i P;obtain⟨rfl,rfl⟩:=P;have hY:((G.g n).px.drop 0).take t.length=(G.g n).px:=(by have:t.length=(G.g n).px.length:=(by rw[hr.er];simp);rw[this];simp);rw[hY] at f I;have F1:=F.del n;have gp:∀k j c,At (px++(G.g n).px) k j c->Good w c:=fun k j c r=>(by rcases rG r with⟨_,h⟩|⟨_,h⟩;exact F.e7 _ _ _ h;exact f.2.1 _ _ _ h);have z:∀e∈px++(G.g n).px,e.length=s:=fun e p=>(zaj.1 p).elim (F.len e) (f.1 e);split at hx;rename_i R;obtain⟨R,GC⟩:=R;subst R;have L:=mX.SS H hn GC;injection hx with hx;injection hx with l d;injection d with d h3;subst l d h3;refine⟨(G.g n).px,hr.er,f,⟨z,gp,?_,fun hm q Z y D A u iQ b a=>?_,fun hm b a q u hl=>?_,fun hm k c r=>(rG r).elim (fun h=>F.nr hm _ _ h.2) (fun h=>L.nr hm _ _ h.2)⟩,H.del n,bu.del n _,rfl,rfl,fun q b u=>(rJ u).1,I⟩;have m1:=F.mode;have M:=L.mode;(cases m with|aM=>exact fun b a=>(xd a).elim (m1 b) (M b)|aN=>exact⟨fun b a=>(xd a).elim (m1.1 b) (M.1 b),L6 m1.2 M.2 (fun b a=>F.gw (by simp) n o .aN s t hn (by simp) b a)⟩|live=>exact⟨fun b a=>(xd a).elim (m1.1 b) (M.1 b),L6 m1.2 M.2 (fun b a=>F.gw (by simp) n o .live s t hn (by simp) b a)⟩);exact(xd a).elim (F1.gw hm q Z y D A u iQ b) (L.gw hm q Z y D A u iQ b);exact(xd a).elim (fun h=>F1.live hm b h q u hl) (fun h=>L.live hm b h q u hl);split at hx;cases hx;rename_i U;have L:=mX.SS H hn (fun h=>absurd (.inr h) U);injection hx with hx;injection hx with l d;injection d with d h3;subst l d h3;refine⟨(G.g n).px,hr.er,f,⟨z,gp,fun b a=>(xd a).elim (F.Ut (fun h=>U (.inl h)) b) (L.Ut (fun h=>U (.inr h)) b),fun h=>absurd rfl h,(fun h=>by cases h),fun h=>by cases h⟩,H.del n,bu.del n _,rfl,rfl,fun q b u=>(rJ u).1,I⟩;cases hx;cases hx;cases hx;cases hx
theorem ah1 (r:R B E w0 N σ a w G) {n:Nat} {t e:TypeId} {i:TypeInfo} {z:Value} {x y:Operand} {mx my:MO} {fl:Bool} {sz by_:Nat} {xs ys:List (List C)} {m m2:Mode} {σ1 σ2 H:St} (ho:o.op=.call {callee:=.builtin .append,args:=#[x,y],argTypes:=#[t,t]}) (hd:o.dst=some n) (hN:n<N) (e8:bU x mx=true) (iD:bU y my=true) (ht:P.underlying t=some (.slice e)) (hi:P.info? e=some i) (hz:i.zero=some z) (bN:i.size=sz) (D:0<sz) (n6:i.bytes=by_) (wi:0<by_) (wJ:z.cells.size=sz) (hl:rF σ sz (σ.ev mx)=some (xs,m,σ1)) (hr:mF fl σ1 sz m (σ.ev my)=some (ys,m2,σ2)) (hb:(xs.length+ys.length)*by_<=fQ) (hx:σ2.ins n (.row true m2 sz (xs++ys))=some H): o.wp P a w (Nx B E w0 N (H.put o.dst (.one (.sl n sz 0 (xs.length+ys.length))))) Q:=by obtain⟨hn,rfl⟩:=oA hx;obtain⟨x1,x2⟩:=r.ev e8;obtain⟨y1,y2⟩:=r.ev iD;obtain⟨px,W,L,Z,U,K1,q1,f,q3⟩:=ann r x1 hl;have j:RA w G σ1.h (σ.ev my) (a.eval y):=y1.gf K1 y2;rw[<-f] at U;obtain⟨py,S,R2,F2,K,K2,p1,A,I,qO⟩:=aqT D U L j hr;rw[f] at K;have X:xs.length=px.length:=(by rw[W];simp);have J:ys.length=py.length:=(by rw[S];simp);have L2:xF B E w G σ2.h sz m px (a.eval x):=(by rcases Z with h|⟨b,o,cap,cur,O,k,Y,F,M,s,p,⟨l1,l2,g⟩,b8,V⟩;exact .inl h;refine .inr ⟨b,o,cap,cur,O,k,Y,F,M,s,p,⟨l1,fun q c=>?_,fun q gr mo aL av c=>g q gr mo aL av (I q _ c)⟩,b8,V⟩;cases hh:σ2.h q with|none=>exact absurd hh c|some bb=>exact l2 q (by rw[I q bb hh];simp));obtain⟨u,w',G',bX,T,l⟩:=r.agA (P:=P) (σ2:=σ2) (n:=n) (m:=m) (m2:=m2) (px:=px) (py:=py) (ty:=o.type) (p1.trans q1) (A.trans f) K (bu.trans (u2:=fun n=>σ1.used n=true) (fun q c=>by rw[f];exact c) K1 K2) (by rw[<-f,<-A];exact hn) D F2 L.len L2 R2 (fun b dk b' o' cap dK d Y0=>by rcases Z with⟨_,h,_⟩|⟨b0,o0,JI,cur,O,k,Y,F,M,s,p,⟨l1,l2,g⟩,b8,V⟩;rw[h] at d;injection d with _ _ d;omega;rw[k] at d;injection d with d;injection d with d;have Dj:=(lV d).1;subst Dj;exact qO b dk b0 l1 g) ht hi hz bN n6 wi wJ (by rw[<-X,<-J];exact hb);have QR:(px++py).map (fun e=>e.map PC.er)=xs++ys:=(by rw[zay,<-W,<-S]);rw[QR] at T l;rw[<-X,<-J] at l;refine rz (v:=u) (w':=w') ?_ ⟨G',T.put l (fun q c=>by have fB:q=n:=c;subst fB;exact cr _ _ _) (fun q c=>by rw[hd] at c;injection c with c;omega)⟩;simp[execOp,ho,resolve,invoke,builtin,bX]
end
section
variable {B:Nat} {E:Ex} {w0 w w':World} {G G':Gh} {h h':Nat->Option ar} {used used':Nat->Bool} {tk:List PC} {N:Nat}
variable {P:Program} {o:Oper} {a:Act} {σ σ':St} {Q:Exit->Act->World->Prop}
theorem Ht {n:Nat} (a:(h n).isSome=true):h n≠none:=by intro b;rw[b] at a;cases a
theorem EA {t e:TypeId} {i:TypeInfo} {sz b off len cap:Nat} {c:IntKind} {q:Int} (f:P.underlying t=some (.slice e)) (a:P.info? e=some i) (g:i.size=sz) (d:0<=q) (h:q<len): (Instr.indexAt t (.slice (some (ad b off)) len cap) (.int c q)).run P w=.ok (.pointer (some (ad b (off+q.toNat*sz)))) w:=by simp[Instr.indexAt,run_underlying f,asIntOf,d,h,sizeOf,typeInfo,a,g,qy]
theorem WH (r:R B E w0 N σ a w G) {t e:TypeId} {i:TypeInfo} {x y:Operand} {mx my:MO} {sz:Nat} {q:Int} {z:ao} (L:o.op=.indexAddr t x y) (A:∀n,o.dst=some n->n<N) (e8:bU x mx=true) (S:bU y my=true) (K:P.underlying t=some (.slice e)) (C:P.info? e=some i) (M:i.size=sz) (hq:(σ.ev my).d6=some q) (H:0<=q) (hz:(∃n lo len,σ.ev mx=.one (.sl n sz lo len)/\q<(len:Int)/\(σ.h n).isSome=true/\z=.one (.ptr n (lo+q.toNat) sz 0))\/(∃xs l,σ.ev mx=.one (.c (.list sz xs))/\xs[q.toNat]? =some l/\z=.one (.di l 0))): o.wp P a w (Nx B E w0 N (σ.put o.dst z)) Q:=by obtain⟨f,F⟩:=r.ev e8;obtain⟨kk,I⟩:=(r.ev S).1.int hq;rcases hz with⟨n,lo,len,s,d,hs,rfl⟩|⟨xs,l,s,d,rfl⟩;rw[s] at f F;have T:jb (G.g n) sz lo len (a.eval x):=(f.gj (by simp)).1 (Ht hs);rcases T with⟨_,_,_,hl⟩|⟨aR,a',V,jM,ha⟩;omega;have W:=ha (.inl (by omega));subst W;refine jI r (v:=.pointer (some (ad (G.g n).b ((G.g n).o+lo*sz+q.toNat*sz)))) ?_ ?_ (fun m hm=>F m hm) A;simp only[execOp,L,V,I];simp[EA K C M H d];exact RA.gh rfl fun _=>⟨aR,by rw[IN];congr 3;omega⟩;rw[s] at f;obtain⟨pc,p1,p2,U,p4⟩:=f.c;cases pc with|int k n=>simp[PC.er] at p1|bool b=>simp[PC.er] at p1|list J ya c py=>rw[PC.dW] at p1;injection p1 with p0 p1;subst p0;have X:∃pe,py[q.toNat]? =some pe/\pe.map PC.er=l:=(by rw[<-p1,wt] at d;cases hp:py[q.toNat]? with|none=>rw[hp] at d;cases d|some pe=>rw[hp] at d;simp at d;exact⟨pe,rfl,d⟩);obtain⟨pe,p,O⟩:=X;have cm:q.toNat<py.length:=(AI.1 p).1;cases U with|nil _ _ _ _=>simp at cm|cons _ b D _ _ Z g2 g3 g4 g5 Y=>have fB:q<(py.length:Int):=(by omega);refine jI r (v:=.pointer (some (ad b (D+q.toNat*J)))) ?_ ?_ (fun m hm=>absurd hm (by simp[ao.ref,ah.ref,ah.ie])) A;simp only[execOp,L,<-p2,PC.val,I];simp[EA K C M H fB];refine RA.gh rfl ⟨b,D+q.toNat*J,pe,by simp,O,p4 b (.here _ _ _ _ Z),fun j c u=>?_⟩;exact⟨g5 _ _ _ ⟨pe,p,u⟩,Y _ _ _ ⟨pe,p,u⟩,fun b' aO=>p4 b' (.there _ _ _ _ _ _ c ⟨pe,p,u⟩ aO)⟩
theorem arf {t e:TypeId} {i:TypeInfo} {b off len:Nat} {c:IntKind} {q:Int} (f:P.underlying t=some (.array len e)) (a:P.info? e=some i) (g:i.size=1) (d:0<=q) (h:q<len): (Instr.indexAt t (.pointer (some (ad b off))) (.int c q)).run P w=.ok (.pointer (some (ad b (off+q.toNat)))) w:=by simp[Instr.indexAt,run_underlying f,asIntOf,Instr.sureAddr,d,h,sizeOf,typeInfo,a,g,qy]
theorem aim (r:R B E w0 N σ a w G) {t e:TypeId} {i:TypeInfo} {x y:Operand} {mx my:MO} {len:Nat} {q:Int} {n k s off:Nat} (K:o.op=.indexAddr t x y) (j:∀n,o.dst=some n->n<N) (J:bU x mx=true) (f:bU y my=true) (H:P.underlying t=some (.array len e)) (l:P.info? e=some i) (I:i.size=1) (F:(σ.ev my).d6=some q) (A:0<=q) (p:q<len) (hx:σ.ev mx=.one (.ptr n k s off)) (z:(σ.h n).isSome=true): o.wp P a w (Nx B E w0 N (σ.put o.dst (.one (.ptr n k s (off+q.toNat))))) Q:=by obtain⟨d,c⟩:=r.ev J;obtain⟨kk,C⟩:=(r.ev f).1.int F;rw[hx] at d c;obtain⟨u,D⟩:=(d.gj (by simp)).1 (Ht z);refine jI r (v:=.pointer (some (ad (G.g n).b ((G.g n).o+k*s+off+q.toNat)))) ?_ ?_ (fun m hm=>c m hm) j;simp only[execOp,K,D,C];simp[arf H l I A p];exact RA.gh rfl fun _=>⟨u,by rw[Pe]⟩
theorem Kk (r:R B E w0 N σ a w G) {t e:TypeId} {x:Operand} {mx:MO} {len:Nat} (J:o.op=.call {callee:=.builtin .len,args:=#[x],argTypes:=#[t]}) (A:∀n,o.dst=some n->n<N) (hm:bU x mx=true) (I:P.underlying t=some (.slice e)) (D:(∃n sz lo,σ.ev mx=.one (.sl n sz lo len)/\(σ.h n).isSome=true)\/(∃sz xs,σ.ev mx=.one (.c (.list sz xs))/\len=xs.length)\/(∃sz,σ.ev mx=.one (.nil sz)/\len=0)\/ (∃n k p off sz l s ys,σ.ev mx=.one (.bz n k p off sz l)/\cF σ.h (.bz n k p off sz l)=some (.list s ys)/\len=ys.length)): o.wp P a w (Nx B E w0 N (σ.put o.dst (.one (.c (.int .i64 len))))) Q:=by obtain⟨d,x2⟩:=r.ev hm;have f:∃m c,a.eval x=.slice m len c:=(by rcases D with⟨n,sz,lo,i,C⟩|⟨sz,xs,i,rfl⟩|⟨sz,i,rfl⟩|⟨n,k,p,off,sz,l,s,ys,i,u,rfl⟩;rw[i] at d;have z:jb (G.g n) sz lo len (a.eval x):=(d.gj (by simp)).1 (Ht C);rcases z with⟨_,f,_,rfl⟩|⟨_,m,f,_,_⟩;exact⟨_,_,f⟩;exact⟨_,_,f⟩;rw[i] at d;obtain⟨pc,p1,j,_⟩:=d.c;(cases pc with|int k n=>simp[PC.er] at p1|bool b=>simp[PC.er] at p1|list H ya c py=>rw[PC.dW] at p1;injection p1 with _ p1;refine⟨ya,c,?_⟩;rw[<-j,<-p1];simp[PC.val]);rw[i] at d;have y:a.eval x=.slice none 0 0:=(d.gj (by simp)).1;exact⟨_,_,y⟩;rw[i] at d;obtain⟨pc,p1,j,_⟩:=r.hr.cF u (d.gj (by simp)).1;cases pc with|int k n=>simp[PC.er] at p1|bool b=>simp[PC.er] at p1|list H ya c py=>rw[PC.dW] at p1;injection p1 with _ p1;refine⟨ya,c,?_⟩;rw[<-j,<-p1];simp[PC.val]);obtain⟨m,c,f⟩:=f;refine jI r (v:=.int .i64 len) ?_ (RA.of_int _ _) (fun q F=>absurd F tT) A;simp[execOp,J,resolve,invoke,builtin,f,Builtin.len_,run_underlying I,goInt]
theorem Tp {t e:TypeId} {i:TypeInfo} {sz:Nat} {ya:Option Addr} {len cap:Nat} {lo b:Option Value} {l a:Int} (p:P.underlying t=some (.slice e)) (f:P.info? e=some i) (q:i.size=sz) (g:(lo=none/\l=0)\/∃k,lo=some (.int k l)) (c:(b=none/\a=len)\/∃k,b=some (.int k a)) (n:0<=l) (m:l<=a) (h2:a<=len) (h3:len<=cap): (Instr.sliceAt t (.slice ya len cap) lo b none).run P w=.ok (.slice (if cap=l.toNat then ya else ya.map (·.add (l.toNat*sz))) (a - l).toNat (cap - l.toNat)) w:=by have h:(a.toNat:Int)=a:=zaS (by omega);have o:(a - l).toNat=a.toNat - l.toNat:=(by omega);have j:a<=(cap:Int):=(by omega);have d:0<=a:=(by omega);rcases g with⟨rfl,rfl⟩|⟨k,rfl⟩<;>rcases c with⟨rfl,rfl⟩|⟨k',rfl⟩<;> simp[Instr.sliceAt,Instr.slice,run_underlying p,Instr.sliceBounds,Instr.sliceBound,asIntOf,sizeOf,typeInfo,f,q,n,m,j,d,h,o]<;>omega
theorem WM (r:R B E w0 N σ a w G) {t e:TypeId} {i:TypeInfo} {x:Operand} {lo D:Option Operand} {mx:MO} {sz:Nat} {l d:Int} {z:ao} (W:o.op=.slice t x lo D none) (O:∀n,o.dst=some n->n<N) (e8:bU x mx=true)
  (X:P.underlying t=some (.slice e)) (hi:P.info? e=some i) (Z:i.size=sz) (iT:0<sz) {len:Nat}
  (lA:(lo=none/\l=0)\/∃y my,lo=some y/\bU y my=true/\(σ.ev my).d6=some l) (wv:(D=none/\d=len)\/∃y my,D=some y/\bU y my=true/\(σ.ev my).d6=some d)
  (T:0<=l) (S:l<=d) (h2:d<=len)
  (C:(∃n s,σ.ev mx=.one (.sl n sz s len)/\(σ.h n).isSome=true/\z=.one (.sl n sz (s+l.toNat) (d - l).toNat))\/(∃xs,σ.ev mx=.one (.c (.list sz xs))/\len=xs.length/\z=.one (.c (.list sz ((xs.drop l.toNat).take (d - l).toNat))))):
  o.wp P a w (Nx B E w0 N (σ.put o.dst z)) Q:=by
 obtain⟨H,x2⟩:=r.ev e8;have QP:(lo.map a.eval=none/\l=0)\/∃k,lo.map a.eval=some (.int k l):=by
  rcases lA with⟨rfl,h⟩|⟨y,my,rfl,c1,c2⟩
  ·exact .inl ⟨rfl,h⟩
  ·obtain⟨k,p⟩:=(r.ev c1).1.int c2;exact .inr ⟨k,by simp[p]⟩
 have U:(D.map a.eval=none/\d=len)\/∃k,D.map a.eval=some (.int k d):=by
  rcases wv with⟨rfl,h⟩|⟨y,my,rfl,c1,c2⟩
  ·exact .inl ⟨rfl,h⟩
  ·obtain⟨k,p⟩:=(r.ev c1).1.int c2;exact .inr ⟨k,by simp[p]⟩
 rcases C with⟨n,s,e1,hs,rfl⟩|⟨xs,e1,rfl,rfl⟩
 ·rw[e1] at H x2;have iS:jb (G.g n) sz s len (a.eval x):=(H.gj (by simp)).1 (Ht hs);rcases iS with⟨Y,F,rfl,rfl⟩|⟨Y,a',F,jM,I⟩
  ·have hr:=Tp (P:=P) (w:=w) (ya:=(G.g n).na) (len:=0) (cap:=(G.g n).cap) X hi Z QP U T S h2 (zbg _);have mb:l.toNat=0:=by omega
   have GF:(d - l).toNat=0:=by omega
   refine jI r (v:=.slice (G.g n).na 0 (G.g n).cap) ?_ (RA.gh rfl fun _=>.inl ⟨Y,rfl,by omega,by omega⟩) (fun m hm=>x2 m hm) O;simp only[execOp,W,F,zaP];simp only[mb,GF,zaN] at hr;have I:(G.g n).na.map (fun x=>x.add 0)=(G.g n).na:=by
    cases (G.g n).na with
    |none=>rfl
    |some x=>simp[Addr.add]
   rw[I] at hr;simp[hr]
  ·have hr:=Tp (P:=P) (w:=w) (ya:=a') (len:=len) (cap:=(G.g n).cap - s) X hi Z QP U T S h2 (by omega);refine jI r (by simp only[execOp,W,F,zaP];simp[hr];rfl) (RA.gh rfl fun _=>.inr ⟨Y,_,by rw[Nat.sub_sub],by omega,fun L=>?_⟩) (fun m hm=>x2 m hm) O;split
   ·rename_i cJ;have:s=0/\l.toNat=0:=by omega
    rw[I (.inr this.1),this.1,this.2]
   ·rename_i cJ;have cm:s<(G.g n).cap:=by omega
    rw[I (.inl cm)];simp only[Option.map_some,qy];rw[IN,Pe]
 ·rw[e1] at H;obtain⟨pc,p1,p2,p3,p4⟩:=H.c;cases pc with
  |int k n=>simp[PC.er] at p1
  |bool b=>simp[PC.er] at p1
  |list J ya c py=>
   rw[PC.dW] at p1;injection p1 with p0 p1;subst p0;have f:xs.length=py.length:=by rw[<-p1];simp
   have F:a.eval x=.slice ya xs.length c:=by rw[<-p2,f];rfl
   have jM:xs.length<=c\/py=[]:=by
    cases p3 with
    |nil _ _ _ _=>exact .inr rfl
    |cons _ b oo _ _ g1 g2 g3 g4 g5 g6=>exact .inl (by rw[f];exact g2)
   have qN:xs.length<=c:=by
    rcases jM with L|L
    ·exact L
    ·rw[f,L];exact zbg _
   have hr:=Tp (P:=P) (w:=w) (ya:=ya) (len:=xs.length) (cap:=c) X hi Z QP U T S h2 qN;have akp:((py.drop l.toNat).take (d - l).toNat).length=(d - l).toNat:=by simp;omega
   let u:PC:=.list J (if c=l.toNat then ya else ya.map (·.add (l.toNat*J))) (c - l.toNat) ((py.drop l.toNat).take (d - l).toNat)
   have gp:Good w u/\∀b,ba b u->G.Im b:=by
    by_cases A:(py.drop l.toNat).take (d - l).toNat=[]
    ·constructor
     ·show Good w (.list _ _ _ _);rw[A];exact .nil _ _ _ iT
     ·intro b K;rw[ba.lK,A] at K;rcases K with⟨K,_⟩|⟨k,j,c,⟨e,M,_⟩,_⟩
      ·exact absurd rfl K
      ·simp at M
    ·cases p3 with
     |nil _ _ _ _=>simp at A
     |cons _ b oo _ _ g1 g2 g3 g4 g5 g6=>
      have fc:0<(d - l).toNat:=by
       rcases zaA (d - l).toNat with C|C
       ·rw[C] at A;simp at A
       ·exact C
      have aJ:c≠l.toNat:=by omega
      have cg:u=.list J (some (ad b (oo+l.toNat*J))) (c - l.toNat) ((py.drop l.toNat).take (d - l).toNat):=by
       show PC.list _ _ _ _=_;rw[aq aJ];simp[qy]
      rw[cg];constructor
      ·refine .cons _ _ _ _ _ A (by omega) g3 (fun e M=>g4 e (zah (zai M))) (fun k j V p=>?_) (fun k j V p=>g6 _ _ _ (qA p).1);have:=g5 _ _ _ (qA p).1;rw[IN] at this;rw[<-this];congr 2;omega
      ·intro x hx;rw[ba.lK] at hx;rcases hx with⟨_,o',gd⟩|⟨k,j,V,p,hx⟩
       ·injection gd with gd;rw[<-(lV gd).1];exact p4 b (.here _ _ _ _ g1)
       ·exact p4 x (.there _ _ _ _ _ _ V (qA p).1 hx)
   refine jI r (v:=u.val) ?_ (RA.gh (PC.kF _) ⟨u,?_,rfl,gp.1,gp.2⟩) (fun q hq=>absurd hq tT) O
   ·simp only[execOp,W,F,zaP];simp[hr,u,PC.val,akp]
   ·show PC.er (.list _ _ _ _)=_;rw[PC.dW,zaW,zaX,p1]
theorem zW {b x:Nat} {v:Value} {cur:Array Value} {e:TypeId} (c:w.heap[b]? =some (.cells cur e (0,0))) (a:w.cell? (ad b x)=some v):x<cur.size:=by
 have d:w.cell? (ad b x)=cur[x]? :=by simp[World.cell?,ad,c]
 rw[d] at a;exact(zaq.1 a).1
theorem aiy (r:R B E w0 N σ a w G) {t:TypeId} {i:TypeInfo} {x y:Operand} {mx my:MO} {sz n k V off:Nat} {ag:Bool} {vs cs:List ah} (Z:o.op=.store t x y) (hd:o.dst=none) (W:bU x mx=true) (A:bU y my=true)
  (D:P.info? t=some i) (U:i.size=sz) (iT:0<sz) (J:σ.ev mx=.one (.ptr n k V off)) (l:(σ.ev my).cells?=some (ag,vs)) (hl:vs.length=sz) (hn:σ.h n=some (.box cs)) (L:k=0) (fV:off+sz<=cs.length):
  o.wp P a w (Nx B E w0 N (σ.ef n (.box (cZ cs off vs)))) Q:=by
 obtain⟨q,_⟩:=r.ev W;obtain⟨K,H⟩:=r.ev A;rw[J] at q;subst L;obtain⟨p1,I⟩:=(q.gj (by simp)).1 (by rw[hn];simp);obtain⟨q1,⟨cur,s,d⟩,q3⟩:=r.hr.box n cs hn;have f:=K.cells l;have S:(a.eval y).cells.toList.length=sz:=by rw[f.1,hl]
 have p:(G.g n).o+off+(a.eval y).cells.toList.length<=cur.size:=by
  obtain⟨v,X,_⟩:=q3 (off+sz - 1) (cs[off+sz - 1]'(by omega)) (AN _);have:=zW d X;omega
 have Y:=r.asf hn f (fun c F m hm=>H m (ao.zY l F hm)) (by omega) d p;have z:=Md (P:=P) (w:=w) (t:=t) (i:=i) (b:=(G.g n).b) (off:=(G.g n).o+off) (v:=a.eval y) (cur:=cur) (e:=s) D (by rw[U,<-S];simp) d (by simpa using p) (fun u M=>by
  obtain⟨j,T,O⟩:=zak M;have C:j<vs.length:=by omega
  have:=(f.2 j _ u (AN C) (by rw[AN T,O])).1;exact this)
 refine Nu (w':=f7 w (G.g n).b ((G.g n).o+off) (a.eval y).cells.toList cur) ?_ ⟨G,?_⟩
 ·simp only[execOp,Z,I,zaN,zaB];simp[Instr.storeAt,Instr.sureAddr,z]
 ·rw[hd];exact Y
theorem aiA (r:R B E w0 N σ a w G) {t:TypeId} {i:TypeInfo} {x y:Operand} {mx my:MO} {sz n k off:Nat} {ag p:Bool} {m:Mode} {d:Nat} {xs:List (List C)} {l:List C} {vs:List ah} {σ2:St} (ho:o.op=.store t x y) (hd:o.dst=none) (e8:bU x mx=true) (L:bU y my=true)
  (O:P.info? t=some i) (bN:i.size=sz) (iT:0<sz) (X:σ.ev mx=.one (.ptr n k d off)) (A:(σ.ev my).cells?=some (ag,vs)) (hl:vs.length=sz) (hn:σ.h n=some (.row p m d xs)) (F:xs[k]? =some l)
  (hx:oK σ n p m d xs k off l vs=some σ2):o.wp P a w (Nx B E w0 N σ2) Q:=by
 obtain⟨H,_⟩:=r.ev e8;obtain⟨Y,V⟩:=r.ev L;rw[X] at H;obtain⟨p1,W⟩:=(H.gj (by simp)).1 (by rw[hn];simp);have hr:=r.hr.row n p m d xs hn;obtain⟨⟨cur,I,q⟩,l2,l3⟩:=hr.eG p1;have z:=Y.cells A;have GV:(a.eval y).cells.toList.length=sz:=by rw[z.1,hl]
 have od:off+vs.length<=l.length:=by
  unfold oK at hx;split at hx
  ·cases hx
  ·rename_i iv U;exact(EU U).1
 have T:∃pe,(G.g n).px[k]? =some pe/\pe.map PC.er=l:=by
  have f:=F;rw[hr.er,wt] at f;cases hq:(G.g n).px[k]? with
  |none=>rw[hq] at f;cases f
  |some pe=>rw[hq] at f;simp at f;exact⟨pe,rfl,f⟩
 obtain⟨pe,S,J⟩:=T;have wB:pe.length=l.length:=by rw[<-J];simp
 have D:(G.g n).o+k*d+off+(a.eval y).cells.toList.length<=cur.size:=by
  have s:=l2.2.1 k (off+sz - 1) (pe[off+sz - 1]'(by omega)) ⟨pe,S,AN _⟩;have:=zW q s;omega
 obtain⟨G',r'⟩:=r.oK hn p1 F z (fun c s m hm=>V m (ao.zY A s hm)) hx q D;have K:=Md (P:=P) (w:=w) (t:=t) (i:=i) (b:=(G.g n).b) (off:=(G.g n).o+k*d+off) (v:=a.eval y) (cur:=cur) (e:=I) O (by rw[bN,<-GV];simp) q (by simpa using D) (fun u Z=>by
  obtain⟨j,hj,GI⟩:=zak Z;have M:j<vs.length:=by omega
  exact(z.2 j _ u (AN M) (by rw[AN hj,GI])).1)
 refine Nu (w':=f7 w (G.g n).b ((G.g n).o+k*d+off) (a.eval y).cells.toList cur) ?_ ⟨G',?_⟩
 ·simp only[execOp,ho,W];simp[Instr.storeAt,Instr.sureAddr,K]
 ·rw[hd];exact r'
def zZ (places:List (Nat×Nat)):List (Nat×Operand)->List (Nat×Nat×MO)->Bool
 |[],[]=>true
 |(i,x)::ps,(off,sz,m)::ms=>(places[i]? ==some (off,sz))&&bU x m&&zZ places ps ms
 |_,_=>false
theorem W3 (r:R B E w0 N σ a w G) (b:List (Nat×Nat)):∀(ps:List (Nat×Operand)) (ms:List (Nat×Nat×MO)) (e cs:List ah) (cur:Array Value),zZ b ps ms=true-> dA w G σ.h e cur.toList->(∀c∈e,∀m,c.ref m->σ.used m=true)->rp σ.ev e ms=some cs-> ∃k,Instr.fill (b.toArray[·]?) cur (ps.map fun p=>(p.1,a.eval p.2))=some k/\dA w G σ.h cs k.toList/\∀c∈cs,∀m,c.ref m->σ.used m=true
 |[],[],e,cs,cur,_,hz,hr,hx=>by simp only[rp] at hx;injection hx with hx;subst hx;exact⟨cur,rfl,hz,hr⟩
 |(i,x)::ps,(off,sz,m)::ms,e,cs,cur,d,hz,hr,hx=>by simp only[zZ,zag,beq_iff_eq] at d;obtain⟨⟨F,I⟩,z⟩:=d;simp only[rp] at hx;split at hx;rename_i ag vs s;split at hx;rename_i J;obtain⟨C,h2⟩:=J;obtain⟨D,K⟩:=r.ev I;have n:=D.cells s;have mg:(a.eval x).cells.size=sz:=(by rw[<-zac,n.1,C]);have hzl:cur.size=e.length:=(by rw[<-zac,hz.1]);have A:dA w G σ.h (cZ e off vs) (cZ cur.toList off (a.eval x).cells.toList):=(by have l:(a.eval x).cells.toList.length=vs.length:=n.1;refine⟨?_,fun j c u g f=>?_⟩;rw[MT (by rw[l,hz.1];omega),MT (by omega),hz.1];rw[zo (by omega)] at g;rw[zo (by rw[l,hz.1];omega),l] at f;by_cases v:off<=j/\j<off+vs.length;rw[ak v] at g f;exact n.2 _ c u g f;rw[aq v] at g f;exact hz.2 _ c u g f);obtain⟨k,t,H,y⟩:=W3 r b ps ms (cZ e off vs) cs (cZ cur.toList off (a.eval x).cells.toList).toArray z A (fun c d q o=>by simp only[cZ,zaj] at d;rcases d with(d|d)|d;exact hr c (zai d) q o;exact K q (ao.zY s d o);exact hr c (zah d) q o) hx;refine⟨k,?_,H,y⟩;simp only[zal] at t;simp only[If,Instr.fill,zal,F];rw[aq (by simp;omega),X9 _ _ _ (by omega)];exact t;cases hx;cases hx
 |[],_::_,_,_,_,d,_,_,_=>by simp[zZ] at d
 |(_,_)::_,[],_,_,_,d,_,_,_=>by simp[zZ] at d
theorem ah5 (r:R B E w0 N σ a w G) {t:TypeId} {parts:Array (Nat×Operand)} {ms:List (Nat×Nat×MO)} {g cs:List ah} {it:TypeInfo} {z:Value} {k:Array Field} {b:List (Nat×Nat)} (J:o.op=.build t parts) (x:∀n,o.dst=some n->n<N) (s:P.info? t=some it) (F:it.zero=some z) (D:P.underlying t=some (.struct k)) (A:k.toList.mapM (fun f=>(P.info? f.type).map fun i=>(f.offset,i.size))=some b) (j:uA z.cells.toList g=true) (d:zZ b parts.toList ms=true) (hx:rp σ.ev g ms=some cs):o.wp P a w (Nx B E w0 N (σ.put o.dst (.agg cs))) Q:=by obtain⟨y,I⟩:=JO (w:=w) (G:=G) (h:=σ.h) j;obtain⟨e,C,H,u⟩:=W3 r b parts.toList ms g cs z.cells d y (fun c d m hm=>absurd hm (I c d m)) hx;refine jI r (v:=.agg e) ?_ ⟨e.toList,by simp,H⟩ (fun m hm=>by obtain⟨c,d,hm⟩:=hm;exact u c d m hm) x;have l:P.built t (parts.map fun p=>(p.1,a.eval p.2)).toList=some e:=(by unfold Program.built;simp only[s,D,F,A,zaw];exact C);have q:=run_build (P:=P) w t _ e l;simp only[execOp,J];simp[q]
theorem OI {α:Type} {xs:List (List α)} {l k j:Nat} {c:α} (h:At (xs.drop l) k j c):At xs (l+k) j c:=by obtain⟨e,a,b⟩:=h;rw[zat] at a;exact⟨e,a,b⟩
theorem jE.drop {px:List (List PC)} (h:jE px) (l:Nat):jE (px.drop l):= ⟨fun k j c a=>h.1 _ _ _ (OI a),fun k j c k' j' c' b a f d=>h.2 _ _ _ _ _ _ b (OI a) (OI f) (fun e=>d (by injection e with e1 e2;rw[show k=k' by omega,e2]))⟩
end
section
variable {B:Nat} {E:Ex} {w0 w w':World} {G G':Gh} {h h':Nat->Option ar} {used used':Nat->Bool} {tk:List PC} {N:Nat}
variable {P:Program} {o:Oper} {a:Act} {σ σ':St} {Q:Exit->Act->World->Prop}
theorem HR.alC (H:HR B E w G h used []) {n sz cap:Nat} {x:Option Addr} {xs:List (List PC)} {m:Mode} (hg:Good w (.list sz x cap xs)) (hs:Sep (.list sz x cap xs)) (ht:Fx w (.list sz x cap xs))
  (hl:∀b,kI b (.list sz x cap xs)->qw G h b/\ek w b/\B<=b) (hn:used n=false):
  ∃G',HR B E w G' (aI h n (some (.row m.tR m sz (xs.map fun e=>e.map PC.er)))) (aI used n true) []/\
   bu w G h (fun n=>used n=true) w G' (aI h n (some (.row m.tR m sz (xs.map fun e=>e.map PC.er))))/\
   RC w G' (aI h n (some (.row m.tR m sz (xs.map fun e=>e.map PC.er)))) (.sl n sz 0 xs.length) (PC.val (.list sz x cap xs))/\
   ∀b,qw G h b->¬kI b (.list sz x cap xs)->qw G' (aI h n (some (.row m.tR m sz (xs.map fun e=>e.map PC.er)))) b:=by
 obtain⟨fc,V,oZ⟩:=ht;have l:∀b,bc b xs->ba b (.list sz x cap xs):=fun b ⟨k,j,c,y,C⟩=>.there _ _ _ _ k j c y C;have U:jE xs:=by cases hs with|list _ _ _ _ y C T=>exact⟨y,T⟩
 let S:Nat->Prop:=fun b=>m≠ .live/\bc b xs;have X:HR B E w ⟨fun b=>G.Im b\/S b,G.g⟩ h used []:=H.se S (fun b a=>(hl b (.inl (l b a.2))).2.1.lt)
  (fun b a q r z f=>(hl b (.inl (l b a.2))).1.2.1 q r z f.symm) (fun b a q v sz xs r=>(hl b (.inl (l b a.2))).1.2.2 q v _ sz xs r) (fun b a=>.inl (hl b (.inl (l b a.2))).2.2)
 obtain⟨p,Y,hY,A,O,M,L⟩:∃p:PB,(p.nl=true->xs=[]/\(true=true->p.cap=0))/\p.px=xs/\
   (p.nl=false->qw ⟨fun b=>G.Im b\/S b,G.g⟩ h p.b/\ek w p.b/\B<=p.b/\∀b,bc b xs->b≠p.b)/\
   (p.nl=false->pL w p.b p.o sz xs/\xs.length<=p.cap/\Ox w p sz)/\jb p sz 0 xs.length (PC.val (.list sz x cap xs))/\(p.nl=false->kI p.b (.list sz x cap xs)):=by
  by_cases P:cap=0
  ·subst P;have hx:xs=[]:=AT (by omega);subst hx;exact⟨⟨true,0,0,0,[],x⟩,fun _=>⟨rfl,fun _=>rfl⟩,rfl,(fun d=>by cases d),(fun d=>by cases d),.inl ⟨rfl,rfl,rfl,rfl⟩,(fun d=>by cases d)⟩
  ·obtain⟨b,o,cur,e,rfl,hh,bN,AG,cN⟩:=oZ.resolve_left P;have R:kI b (.list sz (some (ad b o)) cap xs):=.inr ⟨_,_,_,_,rfl,P⟩;obtain⟨l1,l2,l3⟩:=hl b R;have W:∀Q,bc Q xs->Q≠b:=fun Q ⟨k,j,c,y,C⟩ f=>cN k j c y (f▸C);refine⟨⟨false,b,o,cap,xs,none⟩,(fun d=>by cases d),rfl,fun _=>⟨⟨fun t=>t.elim l1.1 (fun D=>W b D.2 rfl),l1.2⟩,l2,l3,W⟩,fun _=>⟨?_,V,AG,cur,e,hh,bN⟩,.inr ⟨rfl,some (ad b o),by simp[PC.val],by simpa using V,fun _=>by simp⟩,fun _=>R⟩;cases hg with
   |nil _ _ _ _=>exact⟨by simp,by rintro k j c ⟨e,f,_⟩;simp at f,by rintro k j c ⟨e,f,_⟩;simp at f⟩
   |cons _ _ _ _ _ y C T h4 h5 h6=>exact⟨h4,h5,h6⟩
 subst hY;have fo:vM B E w ⟨fun b=>G.Im b\/S b,G.g⟩ m.tR m sz (p.px.map fun e=>e.map PC.er) p:=by
  refine⟨fc,rfl,fun h=>⟨(Y h).1,fun _=>(Y h).2 rfl⟩,fun d=>⟨(A d).2.1,(O d).1,(O d).2.1⟩,fun d _=>(O d).2.2,?_,fun h hm=>by rw[hm] at h;cases h⟩;cases hm:m with
  |aM=>exact fun b a=>.inr ⟨by simp[hm],a⟩
  |aN=>exact⟨fun b a=>⟨.inr ⟨by simp[hm],a⟩,(hl b (.inl (l b a))).2.1,.inl (hl b (.inl (l b a))).2.2⟩,U⟩
  |live=>exact⟨fun b a=>⟨fun t=>t.elim (hl b (.inl (l b a))).1.1 (fun D=>D.1 hm),(hl b (.inl (l b a))).2.1,.inl (hl b (.inl (l b a))).2.2⟩,U⟩
 have Hn:=X.insert (w':=w) (n:=n) (blk:=.row m.tR m sz (p.px.map fun e=>e.map PC.er)) (p:=p) hn (fun _ _=>rfl) (zad _)
  (fun d=>⟨(A d).1,.inl (A d).2.2.1,(A d).2.1.lt⟩) (fun cs c q a=>by cases a) (by exact fo)
  (fun v m' I F a hm N br lM mS Z K iQ b s=>(hl b (.inl (l b s))).1.2.2 N br lM mS Z K)
  (fun v I F a b s=>⟨fun d=>(A d).2.2.2 b s,fun N K mb f=>(hl b (.inl (l b s))).1.2.1 N K mb f.symm⟩)
  (fun v m' I F a hm i pc b t=>by simp at t)
 refine⟨_,Hn,bu.trans (u2:=fun n=>used n=true) (fun _ h=>h) (bu.se S _) (bu.insert X hn (fun _ _=>rfl)),fun _=>by simpa[cr] using M,fun b a J=>?_⟩;refine⟨fun t=>t.elim a.1 (fun D=>J (.inl (l b D.2))),fun q r z f=>?_,fun q v mo I F r s=>?_⟩
 ·by_cases u:q=n
  ·subst u;simp only[cr] at z f;exact J (f▸L z)
  ·rw[cQ _ _ _ _ u] at r;simp only[cQ _ _ _ _ u] at z f;exact a.2.1 q r z f
 ·by_cases u:q=n
  ·subst u;simp only[cr] at s;exact J (.inl (l b s))
  ·rw[cQ _ _ _ _ u] at r;simp only[cQ _ _ _ _ u] at s;exact a.2.2 q v mo I F r s
structure vJ (B:Nat) (w:World) (G:Gh) (h:Nat->Option ar) (ps:List PC):Prop where
 e7:∀pc∈ps,Good w pc/\Sep pc/\Fx w pc
 lone:∀pc∈ps,∀b,kI b pc->qw G h b/\ek w b/\B<=b
 oP:ps.Pairwise fun p q=>∀b,kI b p->¬kI b q
theorem vJ.tail {p:PC} {ps:List PC} (a:vJ B w G h (p::ps)) (hL:∀b,qw G h b->¬kI b p->qw G' h' b):vJ B w G' h' ps:= ⟨fun q c=>a.e7 q (by simp[c]),fun q c b d=>⟨hL b (a.lone q (by simp[c]) b d).1 (fun e=>(za0.1 a.oP).1 q c b e d),(a.lone q (by simp[c]) b d).2⟩,(za0.1 a.oP).2⟩
theorem HR.imp {m:Mode}:∀{ps t:List PC} {σ σ1:St} {G:Gh} {nm o:Nat} {l:List ah},HR B E w G σ.h σ.used []->σ.imp m nm (ps.map PC.er)=some (l,o,σ1)->vJ B w G σ.h (ps++t)->
  ∃G',HR B E w G' σ1.h σ1.used []/\bu w G σ.h (fun n=>σ.used n=true) w G' σ1.h/\dA w G' σ1.h l (ps.map PC.val)/\(∀c∈l,∀q,c.ref q->σ1.used q=true)/\σ1.env=σ.env/\
   (∀q,σ.used q=true->σ1.used q=true)/\vJ B w G' σ1.h t
 |[],t,σ,σ1,G,nm,o,l,H,hx,hi=>by
  simp only[zaC,St.imp] at hx;injection hx with hx;injection hx with r e;injection e with e h3;subst r h3;exact⟨G,H,bu.refl _ _ _ _,⟨rfl,by simp⟩,by simp,rfl,fun _ h=>h,by simpa using hi⟩
 |p::ps,t,σ,σ2,G,nm,o,l,H,hx,hi=>by
  have eX:∀(x:C) (hx:(match σ.imp m nm (ps.map PC.er) with|some (l,o,σ2)=>some (ah.c x::l,o,σ2)|none=>none)=some (l,o,σ2)) (L:p.er=x) (M:∀b,¬kI b p) (K:Good w p),
    ∃G',HR B E w G' σ2.h σ2.used []/\bu w G σ.h (fun n=>σ.used n=true) w G' σ2.h/\dA w G' σ2.h l ((p::ps).map PC.val)/\(∀c∈l,∀q,c.ref q->σ2.used q=true)/\σ2.env=σ.env/\
     (∀q,σ.used q=true->σ2.used q=true)/\vJ B w G' σ2.h t:=by
   intro x hx L M K;split at hx
   ·rename_i R U P D;injection hx with hx;injection hx with r e;injection e with e h3;subst r e h3;obtain⟨G',z,y,s,F,I,v,A⟩:=HR.imp H D (hi.tail (fun b a _=>a));refine⟨G',z,y,⟨by simp[s.1],fun j c u i g=>?_⟩,fun c f q d=>?_,I,v,A⟩
    ·cases j with
     |zero=>
      simp at i g;subst i;subst g;exact⟨PC.kF p,p,L,rfl,K,fun b a=>absurd (.inl a) (M b)⟩
     |succ j=>exact s.2 j c u (by simpa using i) (by simpa using g)
    ·cases f with
     |head=>exact absurd d id
     |tail _ f=>exact F c f q d
   ·cases hx
  cases p with
  |int k n=>exact eX (.int k n) (by simp only[If,St.imp,PC.er] at hx;exact hx) (by simp[PC.er]) (fun b a=>by rcases a with a|⟨_,_,_,_,a,_⟩<;>cases a) (.int _ _)
  |bool b=>exact eX (.bool b) (by simp only[If,St.imp,PC.er] at hx;exact hx) (by simp[PC.er]) (fun b a=>by rcases a with a|⟨_,_,_,_,a,_⟩<;>cases a) (.bool _)
  |list sz x cap xs=>
   simp only[If,PC.dW,St.imp] at hx;split at hx
   ·rename_i σ1 D;split at hx
    ·rename_i R U P W;injection hx with hx;injection hx with r e;injection e with e h3;subst r e h3;obtain⟨hn,rfl⟩:=oA D;obtain⟨S,V,T⟩:=hi.e7 (.list sz x cap xs) (by simp);obtain⟨G1,O,Y,Q,X⟩:=H.alC (m:=m) S V T (hi.lone (.list sz x cap xs) (by simp)) hn;obtain⟨G',z,y,s,F,I,v,A⟩:=HR.imp O W (hi.tail X);have N:∀q,σ.used q=true->aI σ.used nm true q=true:=fun q d=>t9 _ _ d;refine⟨G',z,bu.trans N Y y,⟨by simp[s.1],fun j c u i g=>?_⟩,fun c f q d=>?_,I,fun q d=>v q (N q d),A⟩
     ·cases j with
      |zero=>
       simp at i g;subst i;subst g;exact⟨rfl,Q.gf y fun q d=>by have J:q=nm:=d;subst J;exact cr _ _ _⟩
      |succ j=>exact s.2 j c u (by simpa using i) (by simpa using g)
     ·cases f with
      |head=>have J:q=nm:=d;subst J;exact v _ (cr _ _ _)
      |tail _ f=>exact F c f q d
    ·cases hx
   ·cases hx
theorem HR.jQ {m:Mode}:∀{b:List (K×List PC)} {σ σ1:St} {G:Gh} {nm:Nat} {a:List (Bool×List ah)},HR B E w G σ.h σ.used []->σ.jQ m nm (b.map fun p=>(p.1,p.2.map PC.er))=some (a,σ1)->
  (∀p∈b,p.1≠ .ptr/\(p.1=.one->p.2.length=1))->vJ B w G σ.h (b.flatMap (·.2))->
  ∃G',HR B E w G' σ1.h σ1.used []/\bu w G σ.h (fun n=>σ.used n=true) w G' σ1.h/\a.length=b.length/\
   (∀(j:Nat) (x:Bool×List ah) (p:K×List PC),a[j]? =some x->b[j]? =some p->RV w G' σ1.h x.1 x.2 (sJ p))/\(∀x∈a,∀c∈x.2,∀q,c.ref q->σ1.used q=true)/\σ1.env=σ.env/\
   (∀q,σ.used q=true->σ1.used q=true)
 |[],σ,σ1,G,nm,a,H,hx,hk,hi=>by
  simp only[zaC,St.jQ] at hx;injection hx with hx;injection hx with f h2;subst f h2;exact⟨G,H,bu.refl _ _ _ _,rfl,by simp,by simp,rfl,fun _ h=>h⟩
 |(k,ps)::b,σ,σ2,G,nm,a,H,hx,hk,hi=>by
  have o:=hk (k,ps) (by simp);have e:(match σ.imp m nm (ps.map PC.er) with
   |some (l,t,σ1)=>match σ1.jQ m t (b.map fun p=>(p.1,p.2.map PC.er)) with
    |some (a,σ2)=>some ((decide (k=.agg),l)::a,σ2)
    |none=>none
   |none=>none)=some (a,σ2):=by
   cases k with
   |ptr=>exact absurd rfl o.1
   |one=>simp[St.jQ] at hx;exact hx
   |agg=>simp[St.jQ] at hx;exact hx
  clear hx;split at e
  ·rename_i l t σ1 I;split at e
   ·rename_i Bb gZ O;injection e with hx;injection hx with f h2;subst f h2;obtain⟨G1,A,Q,L,z,P,v,F⟩:=HR.imp H I (by simpa using hi);obtain⟨G',D,u,N,J,M,C,s⟩:=HR.jQ A O (fun p g=>hk p (by simp[g])) F;refine⟨G',D,bu.trans v Q u,by simp[N],fun j x p r g=>?_,fun x hx c i q d=>?_,C.trans P,fun q d=>s q (v q d)⟩
    ·cases j with
     |zero=>
      simp at r g;subst r;subst g;have y:=dA.gf u (fun c i q d=>z c i q d) L;cases k with
      |ptr=>exact absurd rfl o.1
      |agg=>exact⟨ps.map PC.val,rfl,y⟩
      |one=>
       have f:=o.2 rfl;match ps,f with
       |[p],_=>exact y
     |succ j=>exact J j x p (by simpa using r) (by simpa using g)
    ·cases hx with
     |head=>exact s q (z c i q d)
     |tail _ hx=>exact M x hx c i q d
   ·cases e
  ·cases e
theorem RA.lO {d:List (Bool×List ah)} {a:List (K×List PC)} (e:d.length=a.length) (hk:∀p∈a,p.1≠ .ptr/\(p.1=.one->p.2.length=1))
  (g:∀(j:Nat) (x:Bool×List ah) (p:K×List PC),d[j]? =some x->a[j]? =some p->RV w G h x.1 x.2 (sJ p)):RA w G h (lO d) (vw a):=by
 match d,a,e with
 |[],[],_=>exact⟨[],rfl,rfl,by simp⟩
 |[(ag,cs)],[p],_=>
  have f:=g 0 (ag,cs) p rfl rfl;cases ag with
  |true=>exact f
  |false=>
   have l:dA w G h cs [sJ p]:=f;match cs,l.1 with
   |[c],_=>exact .inr f
 |x::y::d,p::q::a,hl=>
  refine⟨(p::q::a).map sJ,rfl,by simpa using hl.symm,fun j x' u k b=>?_⟩;rw[wt] at b;cases hp:(p::q::a)[j]? with
  |none=>rw[hp] at b;cases b
  |some i=>rw[hp] at b;simp at b;subst b;exact g j x' i k hp
def Cp (P:Program) (T:aQ):Prop:=∀f M,aQ.find T.pure f=some M->dd P f M
def bL (P:Program) (f:FuncId):Bool:=
 match P.funcs[f]? with
 |some fn=>fn.body.isSome&&(fn.name != "runtime.NumGoroutine")
 |none=>false
theorem Ey {f:FuncId} (a:bL P f=true) (args:Array Value):(callFunc f args).run P w=.ok (.enter f args) w:=by unfold bL at a;split at a;rename_i fn d;simp only[zag,bne_iff_ne,ne_eq] at a;obtain⟨b,e⟩:=a;(cases hb:fn.body with|none=>rw[hb] at b;cases b|some c=>simp[callFunc,d,e,hb]);cases a
theorem Fr.call (F:Fr B E w0 w) (a:Fr w.heap.size Ex.no w w'):Fr B E w0 w':= F.grow (fun b c=>a.block b c id) a.size a.os a.tape a.output
theorem aie (r:R B E w0 N σ a w G) {T:aQ} (Y:Cp P T) {m:Mode} {f:FuncId} {as:List ao} {vals:List Value} {σ1:St} (S:∀n,o.dst=some n->n<N)
  (F:(execOp a.eval o).run P w=.ok (.enter f vals.toArray) w) (hl:vals.length=as.length)
  (pR:∀(j:Nat) (x:ao) (v:Value),as[j]? =some x->vals[j]? =some v->RA w G σ.h x v)
  (hx:rL T m o.dst f as σ=some σ1):o.wp P a w (Nx B E w0 N σ1) Q:=by
 unfold rL at hx;split at hx
 ·rename_i ds kN;split at hx
  ·rename_i M hM;split at hx
   ·rename_i rs X;split at hx
    ·rename_i z σ2 A;injection hx with hx;subst hx;have Dh:=r.hr.kf kN hl pR;unfold Oper.wp;rw[F];refine(Y f M hM ds rs X w vals Dh).mono fun e w' ⟨V,p1,p2,t,p4,p⟩=>?_;subst p2;have u:∀b,b<w.heap.size->w'.heap[b]? =w.heap[b]? :=fun b g=>p.block b g id;have J:=r.hr.grow u p.size;have gC:vJ B w' G σ.h (V.flatMap (·.2)):=by
      refine⟨p4.e7,fun pc cg b g=>?_,?_⟩
      ·obtain⟨L,H⟩:=p4.new pc cg b g;refine⟨⟨fun k=>?_,fun q d lE he=>?_,fun q gr mo sz xs d C=>?_⟩,H,zas r.fr.size L⟩
       ·have:=r.hr.gN b k;omega
       ·have:=(r.hr.own q d lE).2.2;omega
       ·have:=r.hr.pu d C;omega
      ·rw[List.pairwise_iff_getElem];intro i j k hj jO b g;exact p4.oP i j _ _ b (by omega) (AN k) (AN hj) g
     rw[<-p1] at A;obtain⟨G',I,Z,b3,W,s,D,O⟩:=HR.jQ J A t gC;have K:bu w G σ.h (fun n=>σ.used n=true) w' G' σ2.h:=bu.trans (fun _ h=>h) (bu.world (fun b g=>u b (r.hr.gN b g)) _) Z;have r2:R B E w0 N σ2 a w' G':=r.step D O K I (r.fr.call p);refine⟨G',r2.put (RA.lO b3 t W) ?_ S⟩;intro q d;match z,d with
     |[],d=>obtain⟨x,hx,_⟩:=d;simp at hx
     |[(true,cs)],d=>obtain⟨c,l,d⟩:=d;exact s (true,cs) (by simp) c l q d
     |[(false,[c])],d=>exact s (false,[c]) (by simp) c (by simp) q d
     |[(false,[])],d=>exact absurd d id
     |[(false,_::_::_)],d=>exact absurd d id
     |x::y::z,d=>obtain⟨x',U,c,l,d⟩:=d;exact s x' U c l q d
    ·cases hx
   ·cases hx
  ·cases hx
 ·cases hx
theorem Pu:∀{b:List (K×List PC)} {a:List (Bool×List ah)},iP (b.map fun p=>(p.1,p.2.map PC.er))=some a->a=b.map fun p=>(decide (p.1=.agg),p.2.map fun pc=>ah.c pc.er)
 |[],a,h=>by simp only[zaC,iP] at h;injection h with h;exact h.symm
 |(k,ps)::b,a,h=>by cases k with|ptr=>simp[iP] at h|one=>simp only[If,iP] at h;split at h;rename_i d e;injection h with h;rw[<-h,Pu e,zbe];rfl;cases h|agg=>simp only[If,iP] at h;split at h;rename_i d e;injection h with h;rw[<-h,Pu e,zbe];rfl;cases h
theorem ac4 {b:List (Bool×List ah)} {q:Nat} (e:∀x∈b,∀c∈x.2,¬c.ref q):¬(lO b).ref q:=by
 intro a;match b,a with
 |[],a=>obtain⟨x,hx,_⟩:=a;simp at hx
 |[(true,cs)],a=>obtain⟨c,d,a⟩:=a;exact e (true,cs) (by simp) c d a
 |[(false,[c])],a=>exact e (false,[c]) (by simp) c (by simp) a
 |[(false,[])],a=>exact a
 |[(false,_::_::_)],a=>exact a
 |x::y::b,a=>obtain⟨x',f,c,d,a⟩:=a;exact e x' f c d a
theorem aih (r:R B E w0 N σ a w G) {T:aQ} (Z:Cp P T) {f:FuncId} {as:List ao} {vals:List Value} {z:ao} (W:∀n,o.dst=some n->n<N)
  (L:(execOp a.eval o).run P w=.ok (.enter f vals.toArray) w) (hl:vals.length=as.length)
  (pR:∀(j:Nat) (x:ao) (v:Value),as[j]? =some x->vals[j]? =some v->RA w G σ.h x v)
  (hx:vR T f as σ.h=some z):o.wp P a w (Nx B E w0 N (σ.put o.dst z)) Q:=by
 unfold vR at hx;split at hx
 ·rename_i ds kN;split at hx
  ·rename_i M hM;split at hx
   ·rename_i rs Y;split at hx
    ·rename_i ls I;injection hx with hx;subst hx;have Dh:=r.hr.kf kN hl pR;unfold Oper.wp;rw[L];refine(Z f M hM ds rs Y w vals Dh).mono fun e w' ⟨m,p1,p2,D,p4,y⟩=>?_;subst p2;have F:∀b,b<w.heap.size->w'.heap[b]? =w.heap[b]? :=fun b d=>y.block b d id;have U:=r.hr.grow F y.size;rw[<-p1] at I;have oT:=Pu I;subst oT;let S:Nat->Prop:=fun b=>∃pc∈m.flatMap (·.2),ba b pc;have s:∀b,S b->w.heap.size<=b/\b<w'.heap.size:=fun b ⟨pc,cg,d⟩=>by
      obtain⟨V,O⟩:=p4.new pc cg b (.inl d);exact⟨V,O.lt⟩
     have J:HR B E w' ⟨fun b=>G.Im b\/S b,G.g⟩ σ.h σ.used []:=U.se S (fun b d=>(s b d).2) (fun b d n hn hl he=>by have:=(s b d).1;have:=(r.hr.own n hn hl).2.2;omega)
      (fun b d n gr sz xs hn hF=>by have:=(s b d).1;have:=r.hr.pu hn hF;omega) (fun b d=>.inl (zas r.fr.size (s b d).1))
     have K:bu w G σ.h (fun n=>σ.used n=true) w' ⟨fun b=>G.Im b\/S b,G.g⟩ σ.h:=bu.trans (fun _ h=>h) (bu.world (fun b d=>F b (r.hr.gN b d)) _) (bu.se S _);have r2:R B E w0 N σ a w' ⟨fun b=>G.Im b\/S b,G.g⟩:=r.step rfl (fun _ h=>h) K J (r.fr.call y);have cJ:∀p∈m,dA w' ⟨fun b=>G.Im b\/S b,G.g⟩ σ.h (p.2.map fun pc=>ah.c pc.er) (p.2.map PC.val):=fun p l=>by
      refine⟨by simp,fun j c u i t=>?_⟩;rw[wt] at i t;cases lD:p.2[j]? with
      |none=>rw[lD] at i;cases i
      |some pc=>
       rw[lD] at i t;simp at i t;subst i t;have hm:pc∈m.flatMap (·.2):=List.mem_flatMap.2 ⟨p,l,co lD⟩;exact⟨PC.kF pc,pc,rfl,rfl,(p4.e7 pc hm).1,fun b d=>.inr ⟨pc,hm,d⟩⟩
     refine⟨_,r2.put (RA.lO (by simp) D (fun j x p i l=>?_)) (fun q A=>?_) W⟩
     ·rw[wt,l] at i;simp at i;subst i;have H:=cJ p (co l);obtain⟨k,ps⟩:=p;have C:=D (k,ps) (co l);cases k with
      |ptr=>exact absurd rfl C.1
      |agg=>exact⟨ps.map PC.val,rfl,H⟩
      |one=>
       have h2:=C.2 rfl;match ps,h2 with
       |[p],_=>exact H
     ·exfalso;have cN:∀x∈m.map (fun p=>(decide (p.1=Am.K.agg),p.2.map fun pc=>ah.c pc.er)),∀c∈x.2,¬c.ref q:=fun x hx c X A=>by
       obtain⟨p,_,rfl⟩:=zaa.1 hx;obtain⟨pc,_,rfl⟩:=zaa.1 X;exact A
      exact ac4 cN A
    ·cases hx
   ·cases hx
  ·cases hx
 ·cases hx
def iN:List Operand->List MO->Bool
 |[],[]=>true
 |x::xs,m::ms=>bU x m&&iN xs ms
 |_,_=>false
theorem R.An (r:R B E w0 N σ a w G):∀{xs:List Operand} {ms:List MO},iN xs ms=true->xs.length=ms.length/\ ∀(j:Nat) (x:ao) (v:Value),(ms.map σ.ev)[j]? =some x->(xs.map a.eval)[j]? =some v->RA w G σ.h x v
 |[],[],_=>⟨rfl,by simp⟩
 |x::xs,m::ms,hc=>by simp only[iN,zag] at hc;obtain⟨e,d⟩:=r.An hc.2;refine⟨by simp[e],fun j x' v c b=>?_⟩;cases j with|zero=>simp at c b;subst c;subst b;exact(r.ev hc.1).1|succ j=>exact d j x' v (by simpa using c) (by simpa using b)
 |[],_::_,hc=>by simp[iN] at hc
 |_::_,[],hc=>by simp[iN] at hc
theorem ah6 (r:R B E w0 N σ a w G) {T:aQ} (g:Cp P T) {m:Mode} {f:FuncId} {xs:Array Operand} {ms:List MO} {ts:Array TypeId} {σ1:St} (h:∀n,o.dst=some n->n<N) (i:o.op=.call {callee:=.value (.func f),args:=xs,argTypes:=ts}) (c:bL P f=true) (hm:iN xs.toList ms=true) (hx:rL T m o.dst f (ms.map σ.ev) σ=some σ1):o.wp P a w (Nx B E w0 N σ1) Q:=by obtain⟨e,b⟩:=r.An hm;refine aie r g (vals:=xs.toList.map a.eval) h ?_ (by simpa using e) b hx;have d:(xs.toList.map a.eval).toArray=xs.map a.eval:=(by apply zbh;simp);rw[d];simp[execOp,i,resolve,Deferred.ofValue,invoke,Act.eval,Ey c]
theorem ah8 (r:R B E w0 N σ a w G) {T:aQ} (g:Cp P T) {f:FuncId} {xs:Array Operand} {ms:List MO} {ts:Array TypeId} {z:ao} (i:∀n,o.dst=some n->n<N) (j:o.op=.call {callee:=.value (.func f),args:=xs,argTypes:=ts}) (c:bL P f=true) (hm:iN xs.toList ms=true) (hx:vR T f (ms.map σ.ev) σ.h=some z):o.wp P a w (Nx B E w0 N (σ.put o.dst z)) Q:=by obtain⟨e,b⟩:=r.An hm;refine aih r g (vals:=xs.toList.map a.eval) i ?_ (by simpa using e) b hx;have d:(xs.toList.map a.eval).toArray=xs.map a.eval:=(by apply zbh;simp);rw[d];simp[execOp,j,resolve,Deferred.ofValue,invoke,Act.eval,Ey c]
end
def fg {α:Type}:List (Option Mode)->List α->List (Mode×α)
 |some m::fs,x::xs=>(m,x)::fg fs xs
 |none::fs,_::xs=>fg fs xs
 |_,_=>[]
def oL {α:Type}:List (Option Mode)->List α->List α
 |some _::fs,_::xs=>oL fs xs
 |none::fs,x::xs=>x::oL fs xs
 |[],xs=>xs
 |_,[]=>[]
def dS {α:Type}:bP->List (List α)->List (Mode×α)
 |s::sig,xs::xss=>fg s xs++dS sig xss
 |_,_=>[]
def qn {α:Type}:bP->List (List α)->List α
 |s::sig,xs::xss=>oL s xs++qn sig xss
 |[],xss=>xss.flatten
 |_,[]=>[]
theorem Ko {α β:Type} (f:α->β):∀(s:List (Option Mode)) (xs:List α),fg s (xs.map f)=(fg s xs).map fun x=>(x.1,f x.2)
 |some m::fs,x::xs=>by simp only[If,fg,Ko f fs xs]
 |none::fs,x::xs=>by simp only[If,fg,Ko f fs xs]
 |[],_=>by simp[fg]
 |some m::fs,[]=>rfl
 |none::fs,[]=>rfl
theorem C5 {α β:Type} (f:α->β):∀(s:bP) (xs:List (List α)),dS s (xs.map fun l=>l.map f)=(dS s xs).map fun x=>(x.1,f x.2)
 |s::sig,xs::xss=>by simp only[If,dS,zay,Ko f s xs,C5 f sig xss]
 |[],_=>by simp[dS]
 |s::sig,[]=>rfl
def LU (s:List (Option Mode)) (n:Nat):Prop:=s=[]\/∃j,n=j+1/\s=Pd j none++[some .aN]
theorem WU {α:Type} (m:Mode) (y:α):∀(xs:List α),fg (Pd xs.length none++[some m]) (xs++[y])=[(m,y)]
 |[]=>rfl
 |x::xs=>WU m y xs
theorem afE {α:Type} (m:Mode) (y:α):∀(xs:List α),oL (Pd xs.length none++[some m]) (xs++[y])=xs
 |[]=>rfl
 |x::xs=>congrArg (x::·) (afE m y xs)
structure zL (w:World) (m:Mode) (pc:PC):Prop where
 sep:Sep pc
 un:∀b,ba b pc->ek w b
 eG:∃sz a cap xs,pc=.list sz a cap xs/\0<sz/\(∀b o,a=some (ad b o)->¬bc b xs)/\uH m (xs.map fun e=>e.map PC.er)=true
structure PA where
 k:K
 ps:List PC
 b:Nat
 o:Nat
def zD (w:World) (d:Dv) (v:Value) (p:PA):Prop:=
 d=(p.k,p.ps.map PC.er)/\(∀pc∈p.ps,Good w pc)/\
 match p.k with
 |.one=>p.ps.map PC.val=[v]
 |.agg=>v=.agg (p.ps.map PC.val).toArray
 |.ptr=>v=.pointer (some (ad p.b p.o))/\p.b<w.heap.size/\∀j c,p.ps[j]? =some c->w.cell? (ad p.b (p.o+j))=some c.val
structure xG (w:World) (sig:bP) (ds:List Dv) (vals:List Value) (aT:List PA):Prop where
 l1:vals.length=ds.length
 l2:aT.length=ds.length
 at_:∀(i:Nat) (d:Dv) (v:Value) (p:PA),ds[i]? =some d->vals[i]? =some v->aT[i]? =some p->zD w d v p
 ok:∀x∈dS sig (aT.map (·.ps)),zL w x.1 x.2
 oP:(dS sig (aT.map (·.ps))).Pairwise fun x y=>∀b,ba b x.2->¬ba b y.2
 free:∀pc∈qn sig (aT.map (·.ps)),∀x∈dS sig (aT.map (·.ps)),∀b,ba b pc->¬ba b x.2
 ptr:∀p∈aT,p.k=.ptr->∀x∈dS sig (aT.map (·.ps)),¬ba p.b x.2
 ao5:∀(i:Nat) (p:PA) (s:List (Option Mode)),aT[i]? =some p->sig[i]? =some s->p.k=.ptr->LU s p.ps.length
def xU (fl:List (Mode×PC)):Ex:=⟨fun b=>∃x∈fl,ba b x.2,fun _=>none,fun _ _ h=>(by cases h),fun _=>True⟩
structure qx (w:World) (m:Mode) (pc dQ:PC):Prop where
 val:dQ.val=pc.val
 e7:Good w dQ
 sep:Sep dQ
 sub:∀b,ba b dQ->ba b pc
 flat:uH m (match dQ.er with|.list _ xs=>xs|_=>[])=true
 live:∀sz a cap xs aL a' lk av,pc=.list sz a cap xs->dQ=.list aL a' lk av->aL=sz/\a'=a/\lk=cap/\av.length=xs.length/\
  (m=.live->∀k j c,At xs k j c->c.iu=true->∃c',At av k j c'/\c'.val=c.val/\c'.iu=true)
def sZ (P:Program) (f:FuncId) (sig:bP) (M:List Dv->Option (List Dv×List C)):Prop:=
 ∀ds rs dN,M ds=some (rs,dN)->∀(w:World) (vals:List Value) (aT:List PA),xG w sig ds vals aT->Calls P f vals.toArray w fun e w'=>
  ∃bt:List (K×List PC),bt.map (fun p=>(p.1,p.2.map PC.er))=rs/\e=.returned (vw bt)/\(∀p∈bt,p.1≠ .ptr/\(p.1=.one->p.2.length=1))/\
   xH w' w.heap.size (bt.flatMap (·.2))/\Fr w.heap.size (xU (dS sig (aT.map (·.ps)))) w w'/\
   ∃qs:List PC,qs.map PC.er=dN/\qs.length=(dS sig (aT.map (·.ps))).length/\
    ∀(i:Nat) (x:Mode×PC) (q:PC),(dS sig (aT.map (·.ps)))[i]? =some x->qs[i]? =some q->qx w' x.1 x.2 q
section
variable {B:Nat} {E:Ex} {w0 w w':World} {G G':Gh} {N:Nat} {h h':Nat->Option ar} {used:Nat->Bool}
variable {P:Program} {o:Oper} {a:Act} {σ σ':St} {Q:Exit->Act->World->Prop}
def pw (sz:Nat) (p:PB):PC:=.list sz (if p.nl=true then p.na else some (ad p.b p.o)) p.cap p.px
theorem ac8 {a:Bool} {m:Mode} {sz:Nat} {xs:List (List C)} {p:PB} (hr:vM B E w G a m sz xs p):(pw sz p).er=.list sz xs:=by rw[pw,PC.dW,hr.er]
theorem aqZ {d:Bool} {m:Mode} {sz:Nat} {xs:List (List C)} {p:PB} (hr:vM B E w G d m sz xs p) {v:Value} (c:jb p sz 0 xs.length v):(pw sz p).val=v:=by have b:p.px.length=xs.length:=(by rw[hr.er];simp);rcases c with⟨hn,rfl,_,hl⟩|⟨hn,a,rfl,hc,e⟩;simp[pw,PC.val,hn,b,hl];have:=e (.inr rfl);subst this;simp[pw,PC.val,hn,b]
theorem aqY {d:Bool} {m:Mode} {sz:Nat} {xs:List (List C)} {p:PB} (hr:vM B E w G d m sz xs p):Good w (pw sz p):=by unfold pw;by_cases a:p.px=[];rw[a];exact .nil _ _ _ hr.pos;have c:p.nl=false:=(by cases hq:p.nl with|false=>rfl|true=>exact absurd (hr.nl hq).1 a);obtain⟨a1,b,e⟩:=hr.eG c;rw[aq (by simp[c])];exact .cons _ _ _ _ _ a e hr.pos b.1 b.2.1 b.2.2
theorem Tm {sz:Nat} {p:PB} {b:Nat} (hn:p.nl=true->p.px=[]) (h:ba b (pw sz p)):(p.nl=false/\b=p.b)\/bc b p.px:=by unfold pw at h;rw[ba.lK] at h;rcases h with⟨d,o,a⟩|⟨k,j,c,f,e⟩;(cases hq:p.nl with|true=>exact absurd (hn hq) d|false=>rw[hq] at a;simp at a;exact .inl ⟨rfl,(lV a).1.symm⟩);exact .inr ⟨k,j,c,f,e⟩
def uL (G:Gh) (n b:Nat):Prop:=((G.g n).nl=false/\b=(G.g n).b)\/bc b (G.g n).px
structure uk (B:Nat) (E:Ex) (w:World) (G:Gh) (h:Nat->Option ar) (it:dG) (md:Mode) (pc:PC):Prop where
 ok:zL w md pc
 e7:Good w pc
 at_:match it with
  |.nil sz=>pc=.list sz none 0 []
  |.row n=>∃gr m sz xs,h n=some (.row gr m sz xs)/\m≠ .aM/\(md=.live->m=.live)/\pc=pw sz (G.g n)/\uH md xs=true/\(m=.live->gr=false)
  |.nest n k off=>∃gr sz xs,h n=some (.row gr .live sz xs)/\md=.aN/\At (G.g n).px k off pc/\gr=false
theorem uk.n4 {it:dG} {t:Mode} {pc:PC} (H:HR B E w G h used []) (i:uk B E w G h it t pc) {b:Nat} (a:ba b pc): ∃n d m sz xs,it.eS=some n/\h n=some (.row d m sz xs)/\m≠ .aM/\uL G n b/\((∀b,¬bc b (G.g n).px)\/m=.live):=by have f:=i.at_;cases it with|nil sz=>have f:pc=.list sz none 0 []:=f;subst f;rw[ba.lK] at a;rcases a with⟨a,_⟩|⟨k,j,c,⟨e,p,_⟩,_⟩;exact absurd rfl a;simp at p|row n=>obtain⟨d,m,sz,xs,l,s,o,rfl,q,_⟩:=f;have hr:=H.row n d m sz xs l;refine⟨n,d,m,sz,xs,rfl,l,s,Tm (fun v=>(hr.nl v).1) a,?_⟩;(cases t with|live=>exact .inr (o rfl)|aM=>cases q|aN=>left;intro A C;have r:fh xs=true:=q;rw[hr.er] at r;obtain⟨k,j,c,⟨e,p,z⟩,u⟩:=C;have x:=OF.1 r (e.map PC.er) (by simp only[zaa];exact⟨e,co p,rfl⟩);have y:=OF.1 x c.er (by simp only[zaa];exact⟨c,co z,rfl⟩);exact(Sep.iI y).2 A u)|nest n k off=>obtain⟨d,sz,xs,l,s,o,_⟩:=f;exact⟨n,d,.live,sz,xs,rfl,l,by simp,.inr ⟨k,off,pc,o,a⟩,.inr rfl⟩
theorem HR.Gj (H:HR B E w G h used []) {n c:Nat} (t:n≠c) {a s:Bool} {m F:Mode} {sz j:Nat} {xs k:List (List C)} (f:h n=some (.row a m sz xs)) (i:h c=some (.row s F j k)) (l:(∀b,¬bc b (G.g c).px)\/F=.live) {b:Nat} (u:uL G n b):¬uL G c b:=by have y:h n≠none:=(by rw[f];simp);have D:h c≠none:=(by rw[i];simp);have own:∀{p q:Nat} {a:Bool} {m:Mode} {sz:Nat} {xs:List (List C)},h p≠none->h q=some (.row a m sz xs)->(G.g p).nl=false->¬bc (G.g p).b (G.g q).px:=(by intro p q a m sz xs o A hl r;have x:=(H.row q a m sz xs A).mode;cases m with|aM=>exact(H.own p o hl).1 (x _ r)|aN=>exact(H.own p o hl).1 (x.1 _ r).1|live=>exact H.live q a sz xs A _ r p o hl rfl);rintro(⟨l2,rfl⟩|e);rcases u with⟨l1,d⟩|d;exact H.inj n c y D t l1 l2 d.symm;exact own D f l2 d;rcases u with⟨l1,rfl⟩|d;exact own y i l1 e;rcases l with l|rfl;exact l b e;have v:=(H.row c s .live j k i).mode;have z:=(H.row n a m sz xs f).mode;cases m with|aM=>exact(v.1 b e).1 (z b d)|aN=>exact(v.1 b e).1 (z.1 b d).1|live=>exact H.gw n c a .live sz xs s .live j k f i (by simp) (by simp) t b d e
theorem HR.item (H:HR B E w G h used []) {I:Mode} {c:ah} {it:dG} {x:C} {v:Value} (hx:tP h I c=some (it,x)) (p:RC w G h c v):
  ∃pc:PC,pc.er=x/\pc.val=v/\uk B E w G h it I pc/\it.eS=c.eS:=by
 unfold tP at hx;split at hx
 ·rename_i sz;split at hx
  ·rename_i z;injection hx with hx;injection hx with q h2;subst q h2;have dm:v=.slice none 0 0:=p;subst dm;refine⟨.list sz none 0 [],by simp[PC.dW],rfl,⟨⟨?_,?_,sz,none,0,[],rfl,z.1,(fun b o h=>by cases h),?_⟩,.nil _ _ _ z.1,rfl⟩,rfl⟩
   ·refine .list _ _ _ _ ?_ ?_ ?_
    ·rintro k j c ⟨e,d,_⟩;simp at d
    ·rintro b o k j c _ ⟨e,d,_⟩;simp at d
    ·rintro k j c k' j' c' b ⟨e,d,_⟩;simp at d
   ·intro b a;rw[ba.lK] at a;rcases a with⟨a,_⟩|⟨k,j,c,⟨e,d,_⟩,_⟩
    ·exact absurd rfl a
    ·simp at d
   ·cases I with
    |aM=>exact absurd rfl z.2
    |aN=>rfl
    |live=>rfl
  ·cases hx
 ·rename_i n sz lo len;split at hx
  ·rename_i y m f xs hn;split at hx
   ·rename_i J;obtain⟨hm,T,rfl,rfl,rfl,u,R⟩:=J;injection hx with hx;injection hx with q h2;subst q h2;have A:h n≠none:=by rw[hn];simp
    have V:jb (G.g n) f 0 xs.length v:=p A;have hr:=H.row n y m f xs hn;have S:(∀b,bc b (G.g n).px->ek w b)/\jE (G.g n).px/\(∀b,bc b (G.g n).px->(G.g n).nl=false->b≠(G.g n).b):=by
     have r:=hr.mode;cases m with
     |aM=>exact absurd rfl hm
     |aN=>exact⟨fun b a=>(r.1 b a).2.1,r.2,fun b a hl U=>(H.own n A hl).1 (U▸(r.1 b a).1)⟩
     |live=>exact⟨fun b a=>(r.1 b a).2.1,r.2,fun b a hl=>H.live n y f xs hn b a n A hl⟩
    obtain⟨o1,M,Q⟩:=S;have P:∀b o,(if(G.g n).nl=true then(G.g n).na else some (ad (G.g n).b (G.g n).o))=some (ad b o)->¬bc b (G.g n).px:=by
     intro b o t l;cases i:(G.g n).nl with
     |true=>rw[(hr.nl i).1] at l;obtain⟨k,j,c,⟨e,d,_⟩,_⟩:=l;simp at d
     |false=>
      rw[i] at t;simp at t;exact Q b l i (lV t).1.symm
    refine⟨pw f (G.g n),ac8 hr,aqZ hr V,⟨⟨.list _ _ _ _ M.1 (fun b o k j c t Y a=>P b o t ⟨k,j,c,Y,a⟩) M.2,fun b a=>?_,f,_,_,_,rfl,hr.pos,P,by rw[<-hr.er];exact u⟩,aqY hr,
     y,m,f,xs,hn,hm,T,rfl,u,R⟩,rfl⟩
    rcases Tm (fun i=>(hr.nl i).1) a with⟨hl,rfl⟩|l
    ·exact(hr.eG hl).1
    ·exact o1 b l
   ·cases hx
  ·cases hx
 ·rename_i n k aD off sz len;split at hx
  ·rename_i f xs hn;split at hx
   ·rename_i J;obtain⟨rfl,rfl⟩:=J;split at hx
    ·rename_i s ys D;split at hx
     ·rename_i u;injection hx with hx;injection hx with q h2;subst q h2;obtain⟨pc,p1,X,L⟩:=p false xs hn;have hr:=H.row n false .live f xs hn;have aR:(G.g n).nl=false:=by
       cases i:(G.g n).nl with
       |false=>rfl
       |true=>obtain⟨e,d,_⟩:=p1;rw[(hr.nl i).1] at d;simp at d
      have O:Good w pc:=(hr.eG aR).2.1.2.2 _ _ _ p1;have K:pc.er=.list s ys:=by
       obtain⟨e,d,F⟩:=p1;rw[hr.er] at D;simp[d,F] at D;exact D
      have mf:=hr.mode.2.1 _ _ _ p1;cases pc with
      |int k n=>cases L
      |bool b=>cases L
      |list s' a' Z px'=>
       rw[PC.dW] at K;injection K with W g2;subst W;have N:fh (px'.map fun e=>e.map PC.er)=true:=by rw[g2];exact u
       refine⟨_,by rw[PC.dW,g2],X,⟨⟨mf,fun b a=>(hr.mode.1 b ⟨k,off,_,p1,a⟩).2.1,s',a',Z,px',rfl,?_,fun b o _ l=>?_,N⟩,O,false,f,xs,hn,rfl,p1,rfl⟩,rfl⟩
       ·cases O with
        |nil _ _ _ h=>exact h
        |cons _ _ _ _ _ _ _ h=>exact h
       ·obtain⟨kk,jj,c,⟨e,d,F⟩,p⟩:=l;have h6:=OF.1 N (e.map PC.er) (by simp only[zaa];exact⟨e,co d,rfl⟩);have h7:=OF.1 h6 c.er (by simp only[zaa];exact⟨c,co F,rfl⟩);exact(Sep.iI h7).2 b p
     ·cases hx
    ·cases hx
   ·cases hx
  ·cases hx
 ·cases hx
theorem HR.afS (H:HR B E w G h used []) {c:ah} {x:C} {v:Value} (hx:Am.cF h c=some x) (l:RC w G h c v): ∃pc:PC,pc.er=x/\pc.val=v/\Good w pc/\∀b,ba b pc->G.Im b\/∃n d m sz xs,c.eS=some n/\h n=some (.row d m sz xs)/\uL G n b:=by cases c with|c y=>simp only[Am.cF] at hx;injection hx with hx;subst hx;obtain⟨pc,t,K,q,s⟩:=l;exact⟨pc,t,K,q,fun b a=>.inl (s b a)⟩|nil sz=>simp only[Am.cF] at hx;split at hx;rename_i r;injection hx with hx;subst hx;have I:v=.slice none 0 0:=l;subst I;refine⟨.list sz none 0 [],by simp[PC.dW],rfl,.nil _ _ _ r,fun b a=>?_⟩;rw[ba.lK] at a;rcases a with⟨a,_⟩|⟨k,j,c,⟨e,f,_⟩,_⟩;exact absurd rfl a;simp at f;cases hx|sl n sz lo len=>simp only[Am.cF] at hx;split at hx;rename_i d m i xs hn;split at hx;rename_i o;obtain⟨rfl,hl⟩:=o;injection hx with hx;subst hx;have z:jb (G.g n) i lo len v:=l (by rw[hn];simp);obtain⟨p,J,u,D⟩:=II (H.row n d m i xs hn) z hl;exact⟨_,p,J,u,fun b a=>.inr ⟨n,d,m,i,xs,rfl,hn,D b a⟩⟩;cases hx;cases hx|bz n k aD off sz len=>simp only[Am.cF] at hx;split at hx;rename_i d i xs hn;split at hx;rename_i o;subst o;obtain⟨pc,p1,A,p3⟩:=l d xs hn;have hr:=H.row n d .live i xs hn;have L:(G.g n).nl=false:=(by cases hq:(G.g n).nl with|false=>rfl|true=>obtain⟨e,f,_⟩:=p1;rw[(hr.nl hq).1] at f;simp at f);refine⟨pc,?_,A,(hr.eG L).2.1.2.2 _ _ _ p1,fun b a=>.inr ⟨n,d,.live,i,xs,rfl,hn,.inr ⟨k,off,pc,p1,a⟩⟩⟩;obtain⟨e,f,F⟩:=p1;rw[hr.er] at hx;simp[f,F] at hx;exact hx;cases hx;cases hx|ptr _ _ _ _=>simp[Am.cF] at hx|di _ _=>simp[Am.cF] at hx|cO _ _ _ _ _ _=>simp[Am.cF] at hx|fn _ _=>simp[Am.cF] at hx|cX _ _ _ _ _ _=>simp[Am.cF] at hx|bC=>simp[Am.cF] at hx
theorem Zn {ns:List Nat} {n:Nat} {b:ar} (hx:dL h ns n=some b):h n=some b/\n∉ns:=by unfold dL at hx;split at hx;cases hx;rename_i a;exact⟨hx,fun hm=>a (by simpa using hm)⟩
theorem afT {ns:List Nat} {c:ah} {x:C} (hx:cF (dL h ns) c=some x):cF h c=some x/\∀n,c.eS=some n->n∉ns:=by cases c with|c y=>exact⟨hx,by intro n hn;cases hn⟩|nil sz=>exact⟨hx,by intro n hn;cases hn⟩|sl n sz lo len=>simp only[Am.cF] at hx;split at hx;rename_i e m f xs hn;obtain⟨b,d⟩:=Zn hn;exact⟨by simp only[Am.cF,b];exact hx,by intro q a;injection a with a;subst a;exact d⟩;cases hx|bz n k aD off sz len=>simp only[Am.cF] at hx;split at hx;rename_i e f xs hn;obtain⟨b,d⟩:=Zn hn;exact⟨by simp only[Am.cF,b];exact hx,by intro q a;injection a with a;subst a;exact d⟩;cases hx|ptr _ _ _ _=>simp[Am.cF] at hx|di _ _=>simp[Am.cF] at hx|cO _ _ _ _ _ _=>simp[Am.cF] at hx|fn _ _=>simp[Am.cF] at hx|cX _ _ _ _ _ _=>simp[Am.cF] at hx|bC=>simp[Am.cF] at hx
def Jd (G:Gh) (h:Nat->Option ar) (ns:List Nat) (pc:PC):Prop:=
 ∀b,ba b pc->G.Im b\/∃n gr m sz xs,n∉ns/\h n=some (.row gr m sz xs)/\uL G n b
structure mY (B:Nat) (E:Ex) (w:World) (G:Gh) (h:Nat->Option ar) (its:List (dG×Mode)) (fl:List (Mode×PC)):Prop where
 len:its.length=fl.length
 at_:∀(i:Nat) (it:dG×Mode) (x:Mode×PC),its[i]? =some it->fl[i]? =some x->it.2=x.1/\uk B E w G h it.1 x.1 x.2
theorem mY.nil:mY B E w G h [] []:=⟨rfl,by intro i it x h;simp at h⟩
theorem mY.cons {it:dG×Mode} {a:List (dG×Mode)} {x:Mode×PC} {fl:List (Mode×PC)} (f:it.2=x.1) (d:uk B E w G h it.1 x.1 x.2) (c:mY B E w G h a fl):mY B E w G h (it::a) (x::fl):=by refine⟨by simp[c.len],fun i e x' b hx=>?_⟩;cases i with|zero=>simp at b hx;subst b;subst hx;exact⟨f,d⟩|succ i=>exact c.at_ i e x' (by simpa using b) (by simpa using hx)
theorem mY.append {a d:List (dG×Mode)} {fl g:List (Mode×PC)} (c:mY B E w G h a fl) (e:mY B E w G h d g):mY B E w G h (a++d) (fl++g):=by refine⟨by simp[c.len,e.len],fun i it x b hx=>?_⟩;by_cases f:i<a.length;rw[By f] at b;rw[By (by rw[<-c.len];exact f)] at hx;exact c.at_ i it x b hx;rw[BY (by omega)] at b;rw[BY (by rw[<-c.len];omega)] at hx;rw[c.len] at b;exact e.at_ _ it x b hx
theorem HR.kT (H:HR B E w G h used []) {ns:List Nat}:∀{p:List (Option Mode)} {cs:List ah} {xs:List C} {g:List (dG×Mode)} {vs:List Value},Am.kT h (dL h ns) p cs=some (xs,g)->dA w G h cs vs->
  ∃ps:List PC,ps.map PC.er=xs/\ps.map PC.val=vs/\(∀pc∈ps,Good w pc)/\mY B E w G h g (fg p ps)/\g.filterMap (·.1.eS)=oG p cs/\∀pc∈oL p ps,Jd G h ns pc
 |[],cs,xs,g,vs,hx,k=>by
  simp only[Am.kT] at hx;split at hx
  ·rename_i ys hy;injection hx with hx;injection hx with e i;subst e i;have Q:∀(cs:List ah) (xs:List C) (vs:List Value),Am.jC (dL h ns) cs=some xs->dA w G h cs vs->∃ps:List PC,ps.map PC.er=xs/\ps.map PC.val=vs/\(∀pc∈ps,Good w pc)/\∀pc∈ps,Jd G h ns pc:=by
    intro cs;induction cs with
    |nil=>
     intro xs vs hx k;simp only[Am.jC] at hx;injection hx with hx;subst hx;have:vs=[]:=AT (by simpa using k.1);subst this;exact⟨[],rfl,rfl,by simp,by simp⟩
    |cons c cs S=>
     intro xs vs hx k;simp only[Am.jC] at hx;split at hx
     ·rename_i x M A D;injection hx with hx;subst hx;obtain⟨a,l⟩:=k;match vs,a with
      |v::vs,a=>
       obtain⟨P,O⟩:=afT A;obtain⟨pc,z,I,y,F⟩:=H.afS P (l 0 c v rfl rfl).2;obtain⟨ps,o,s,t,r⟩:=S M vs D ⟨by simpa using a,fun j c u e i=>l (j+1) c u e i⟩;refine⟨pc::ps,by simp[z,o],by simp[I,s],fun q d=>?_,fun q d=>?_⟩
       ·cases d with
        |head=>exact y
        |tail _ d=>exact t q d
       ·cases d with
        |head=>exact fun b J=>(F b J).imp id fun⟨n,K,m,sz,xs,hn,e,i⟩=>⟨n,K,m,sz,xs,O n hn,e,i⟩
        |tail _ d=>exact r q d
     ·cases hx
   obtain⟨ps,o,s,t,r⟩:=Q cs ys vs hy k;exact⟨ps,o,s,t,by simpa[fg] using mY.nil,by simp[oG],by simpa[oL] using r⟩
  ·cases hx
 |f::p,[],xs,g,vs,hx,k=>by cases f<;>simp[Am.kT] at hx
 |none::p,c::cs,xs,g,vs,hx,k=>by
  simp only[Am.kT] at hx;split at hx
  ·rename_i x M R A D;injection hx with hx;injection hx with e i;subst e i;obtain⟨a,l⟩:=k;match vs,a with
   |v::vs,a=>
    obtain⟨P,O⟩:=afT A;obtain⟨pc,z,I,y,F⟩:=H.afS P (l 0 c v rfl rfl).2;obtain⟨ps,o,s,t,r,N,L⟩:=H.kT D (vs:=vs) ⟨by simpa using a,fun j c u e i=>l (j+1) c u e i⟩;refine⟨pc::ps,by simp[z,o],by simp[I,s],fun q d=>?_,by simpa[fg] using r,by simpa[oG] using N,fun q d=>?_⟩
    ·cases d with
     |head=>exact y
     |tail _ d=>exact t q d
    ·simp only[oL] at d;cases d with
     |head=>exact fun b J=>(F b J).imp id fun⟨n,K,m,sz,xs,hn,e,i⟩=>⟨n,K,m,sz,xs,O n hn,e,i⟩
     |tail _ d=>exact L q d
  ·cases hx
 |some md::p,c::cs,xs,g,vs,hx,k=>by
  simp only[Am.kT] at hx;split at hx
  ·rename_i it x M R A D;injection hx with hx;injection hx with e i;subst e i;obtain⟨a,l⟩:=k;match vs,a with
   |v::vs,a=>
    obtain⟨pc,z,I,y,F⟩:=H.item A (l 0 c v rfl rfl).2;obtain⟨ps,o,s,t,r,N,L⟩:=H.kT D (vs:=vs) ⟨by simpa using a,fun j c u e i=>l (j+1) c u e i⟩;refine⟨pc::ps,by simp[z,o],by simp[I,s],fun q d=>?_,?_,?_,fun q d=>L q (by simpa[oL] using d)⟩
    ·cases d with
     |head=>exact y.e7
     |tail _ d=>exact t q d
    ·simp only[fg];exact mY.cons rfl y r
    ·simp only[oG,<-F,<-N];cases gH:it.eS with
     |none=>simp[gH]
     |some n=>simp[gH]
  ·cases hx
theorem HR.mQ (H:HR B E w G h used []) {ns:List Nat}:∀{as:List (Bool×List ah)} {sig:bP} {ds:List Dv} {b:List (dG×Mode)} {vals:List Value},Am.mQ h (dL h ns) sig as=some (ds,b)->vals.length=as.length->
  (∀(j:Nat) (x:Bool×List ah) (v:Value),as[j]? =some x->vals[j]? =some v->RV w G h x.1 x.2 v)->
  ∃l:List PA,l.length=ds.length/\vals.length=ds.length/\(∀(i:Nat) (d:Dv) (v:Value) (p:PA),ds[i]? =some d->vals[i]? =some v->l[i]? =some p->zD w d v p)/\(∀p∈l,p.k≠ .ptr)/\
   mY B E w G h b (dS sig (l.map (·.ps)))/\b.filterMap (·.1.eS)=o9 sig as/\∀pc∈qn sig (l.map (·.ps)),Jd G h ns pc
 |[],sig,ds,b,vals,hx,hl,hc=>by
  simp only[Am.mQ] at hx;injection hx with hx;injection hx with f m;subst f m;refine⟨[],rfl,by simpa using hl,by simp,by simp,?_,?_,?_⟩
  ·cases sig<;>exact mY.nil
  ·cases sig<;>rfl
  ·cases sig<;>simp[qn]
 |(ag,cs)::as,sig,ds,b,vals,hx,hl,hc=>by
  simp only[Am.mQ] at hx;split at hx
  ·rename_i xs L xS K O S;injection hx with hx;injection hx with f m;subst f m;match vals,hl with
   |v::vals,hl=>
    have o:=hc 0 (ag,cs) v rfl rfl;obtain⟨C,M,T,P,R,g,q⟩:=H.mQ S (as:=as) (vals:=vals) (by simpa using hl) (fun j x v f m=>hc (j+1) x v f m);obtain⟨vs,n,A⟩:∃vs:List Value,(if ag=true then v=.agg vs.toArray else vs=[v])/\dA w G h cs vs:=by
     unfold RV at o;split at o
     ·rename_i z;obtain⟨vs,e,A⟩:=o;exact⟨vs,by rw[ak z];exact e,A⟩
     ·rename_i z;exact⟨[v],by rw[aq z],o⟩
    obtain⟨ps,p1,J,I,p4,N,F⟩:=H.kT O A;refine⟨⟨if ag=true then .agg else .one,ps,0,0⟩::C,by simp[M],by simp[T],fun i d Q p hd u c=>?_,fun p c=>?_,?_,?_,?_⟩
    ·cases i with
     |zero=>
      simp at hd u c;subst hd u c;cases ag with
      |true=>
       simp only[if_true] at n⊢;exact⟨by rw[p1],I,by simp only[J];exact n⟩
      |false=>
       simp only[if_false,Bool.false_eq_true] at n⊢;exact⟨by rw[p1],I,by simp only[J];exact n⟩
     |succ i=>exact P i d Q p (by simpa using hd) (by simpa using u) (by simpa using c)
    ·cases c with
     |head=>cases ag<;>simp
     |tail _ c=>exact R p c
    ·cases sig with
     |nil=>
      have r:fg (bP.hd ([]:bP)) ps=[]:=rfl;rw[r] at p4;have y:L=[]:=AT p4.len;subst y;have D:dS (bP.tl ([]:bP)) (C.map (·.ps))=[]:=rfl;rw[D] at g;have t:K=[]:=AT g.len;subst t;exact mY.nil
     |cons s sig=>exact mY.append p4 g
    ·cases sig with
     |nil=>
      have r:fg (bP.hd ([]:bP)) ps=[]:=rfl;rw[r] at p4;have y:L=[]:=AT p4.len;subst y;have D:dS (bP.tl ([]:bP)) (C.map (·.ps))=[]:=rfl;rw[D] at g;have t:K=[]:=AT g.len;subst t;rfl
     |cons s sig=>
      rw[List.filterMap_append,N,q.1];rfl
    ·intro pc a;cases sig with
     |nil=>
      simp only[If,qn,zap,zaj] at a;rcases a with a|a
      ·exact F pc a
      ·exact q.2 pc (by simpa[qn,bP.tl] using a)
     |cons s sig=>
      simp only[If,qn,zaj] at a;rcases a with a|a
      ·exact F pc a
      ·exact q.2 pc a
  ·cases hx
end
section
variable {B:Nat} {E:Ex} {w0 w w':World} {G G':Gh} {N:Nat} {h h':Nat->Option ar} {used:Nat->Bool}
variable {P:Program} {o:Oper} {a:Act} {σ σ':St} {Q:Exit->Act->World->Prop}
structure Fi (w':World) (p p':PB) (gr:Bool) (m:Mode) (sz:Nat) (av:List (List C)):Prop where
 m1:m≠ .aM
 fl:(∀b,¬bc b p.px)\/m=.live
 nl:p'.nl=p.nl
 b:p'.b=p.b
 o:p'.o=p.o
 cap:p'.cap=p.cap
 na:p'.na=p.na
 er:av=p'.px.map (fun e=>e.map PC.er)
 nlx:p.nl=true->p'.px=[]
 eG:p.nl=false->pL w' p.b p.o sz p'.px/\p'.px.length<=p.cap
 sep:jE p'.px
 sub:∀b,bc b p'.px->bc b p.px
 live:m=.live->∀k j pc,At p.px k j pc->pc.iu=true->∃dQ,At p'.px k j dQ/\dQ.val=pc.val/\dQ.iu=true
 nr:gr=true->m=.live->s7 w' sz p'.px
theorem HR.HX (H:HR B E w G h used []) {S:Nat->Prop} (bN:w.heap.size<=w'.heap.size) (Z:∀b,b<w.heap.size->(∀n,S n->¬uL G n b)->w'.heap[b]? =w.heap[b]?) (O:∀b,b<w.heap.size->Cz w w' b) (x:G'.Im=G.Im) (t:∀n,S n->∃f m sz xs p,h n=some (.row f m sz xs)/\h' n=some (.row f m sz p)/\Fi w' (G.g n) (G'.g n) f m sz p) (u:∀n,¬S n->h' n=h n/\G'.g n=G.g n):HR B E w' G' h' used []/\bu w G h (fun n=>used n=true) w' G' h'/\∀n b,bc b (G'.g n).px->bc b (G.g n).px:=by have ne:∀n,h' n≠none->h n≠none:=(by intro n hn;by_cases d:S n;obtain⟨f,m,sz,xs,p,l,r,_⟩:=t n d;rw[l];simp;rwa[(u n d).1] at hn);have ig:∀n,(G'.g n).nl=(G.g n).nl/\(G'.g n).b=(G.g n).b/\(G'.g n).o=(G.g n).o/\(G'.g n).cap=(G.g n).cap/\(G'.g n).na=(G.g n).na:=(by intro n;by_cases d:S n;obtain⟨f,m,sz,xs,p,l,r,c⟩:=t n d;exact⟨c.nl,c.b,c.o,c.cap,c.na⟩;rw[(u n d).2];exact⟨rfl,rfl,rfl,rfl,rfl⟩);have sub:∀n b,bc b (G'.g n).px->bc b (G.g n).px:=(by intro n b a;by_cases d:S n;obtain⟨f,m,sz,xs,p,l,r,c⟩:=t n d;exact c.sub b a;rwa[(u n d).2] at a);have lQ:∀n f m sz p,h' n=some (.row f m sz p)->∃xs,h n=some (.row f m sz xs):=(by intro n f m sz p hn;by_cases d:S n;obtain⟨T,m1,R,xs,M,l,r,_⟩:=t n d;rw[r] at hn;injection hn with hn;injection hn with P a2 a3 a4;subst P a2 a3;exact⟨xs,l⟩;rw[(u n d).1] at hn;exact⟨p,hn⟩);have VI:∀n cs,h' n=some (.box cs)->h n=some (.box cs)/\¬S n:=(by intro n cs hn;by_cases d:S n;obtain⟨T,m1,R,xs,M,l,r,_⟩:=t n d;rw[r] at hn;cases hn;rw[(u n d).1] at hn;exact⟨hn,d⟩);have am2:∀b,G.Im b->w'.heap[b]? =w.heap[b]? :=(by intro b a;refine Z b (H.gN b a) fun n d J=>?_;obtain⟨f,m,sz,xs,p,l,r,c⟩:=t n d;rcases J with⟨hl,rfl⟩|D;exact(H.own n (by rw[l];simp) hl).1 a;rcases c.fl with L|rfl;exact L b D;exact((H.row n f .live sz xs l).mode.1 b D).1 a);have Sb:∀n,¬S n->h n≠none->(G.g n).nl=false->w'.heap[(G.g n).b]? =w.heap[(G.g n).b]? :=(by intro n d hn hl;refine Z _ (H.own n hn hl).2.2 fun q C J=>?_;obtain⟨f,m,sz,xs,p,l,r,c⟩:=t q C;have A:n≠q:=fun e=>d (e▸C);rcases J with⟨AF,a⟩|D;exact H.inj n q hn (by rw[l];simp) A hl AF a;rcases c.fl with L|rfl;exact L _ D;exact H.live q f sz xs l _ D n hn hl rfl);have am3:∀n f m sz xs,¬S n->h n=some (.row f m sz xs)->∀b,bc b (G.g n).px->w'.heap[b]? =w.heap[b]? :=(by intro n f m sz xs d hn b a;refine Z _ (H.pu hn a) fun q C J=>?_;obtain⟨X,W,aL,M,I,l,r,c⟩:=t q C;have A:n≠q:=fun e=>d (e▸C);exact H.Gj A hn l c.fl (.inr a) J);have K:bu w G h (fun n=>used n=true) w' G' h':=(by refine⟨fun b a=>by rw[x];exact a,fun b a o=>ik (am2 b a) o,fun n _ hn=>⟨ne n hn,ig n⟩,fun n f sz p _ hn=>?_⟩;obtain⟨xs,e⟩:=lQ n f .live sz p hn;refine⟨⟨f,xs,e⟩,fun k j pc hk hL=>?_⟩;by_cases d:S n;obtain⟨T,m1,R,M,I,l,r,c⟩:=t n d;rw[e] at l;injection l with l;injection l with _ l _ _;exact c.live l.symm k j pc hk hL;rw[(u n d).2];exact⟨pc,hk,rfl,hL⟩);refine⟨⟨fun n hn=>H.jp n (ne n hn),fun m cs c n hm=>H.iK m cs c n (VI m cs hm).1,fun n cs hn=>?_,fun n f m sz p hn=>?_,fun n hn hl=>?_,fun n s hn N A hl eJ=>?_, fun b a=>?_,fun b a=>H.qY b (by rw[x] at a;exact a),fun n s f m sz xs X W aL p hn N hm bM A b a z=>?_,fun n f sz xs hn b a s N hl=>?_,?_,?_,?_⟩,K,sub⟩;obtain⟨U,d⟩:=VI n cs hn;obtain⟨P,a2,a3⟩:=H.box n cs U;have a:=Sb n d (by rw[U];simp) P;rw[(u n d).2];refine⟨P,a2.congr a,fun j c hj=>?_⟩;obtain⟨v,v1,v2,v3⟩:=a3 j c hj;exact⟨v,(ik a _).trans v1,v2,v3.gf K fun q C=>H.iK n cs c q U (co hj) C⟩;by_cases d:S n;obtain⟨T,m1,R,M,I,l,r,c⟩:=t n d;rw[r] at hn;injection hn with hn;injection hn with q1 q2 q3 q4;subst q1 q2 q3 q4;have hr:=H.row n T m1 R M l;refine⟨hr.pos,c.er,fun hl=>?_,fun hl=>?_,fun hl y=>?_,?_,c.nr⟩;rw[c.nl] at hl;refine⟨c.nlx hl,fun y=>?_⟩;rw[c.cap];exact(hr.nl hl).2 y;rw[c.nl] at hl;obtain⟨l1,l2,l3⟩:=hr.eG hl;obtain⟨L,c2⟩:=c.eG hl;rw[c.b,c.o,c.cap];exact⟨(O _ l1.lt).kD l1,L,c2⟩;rw[c.nl] at hl;obtain⟨r2,cur,e,r3,Y⟩:=hr.room hl y;obtain⟨jH,s1,s2⟩:=O (G.g n).b (H.own n (by rw[l];simp) hl).2.2 cur e r3;unfold Ox;rw[c.b,c.o,c.cap];exact⟨r2,jH,e,s1,s2.trans Y⟩;have hm:=hr.mode;(cases m1 with|aM=>exact absurd rfl c.m1|aN=>exact⟨fun b a=>by have z:=c.sub b a;have:=hm.1 b z;exact⟨by rw[x];exact this.1,(O b this.2.1.lt).kD this.2.1,this.2.2⟩,c.sep⟩|live=>exact⟨fun b a=>by have z:=c.sub b a;have:=hm.1 b z;exact⟨by rw[x];exact this.1,(O b this.2.1.lt).kD this.2.1,this.2.2⟩,c.sep⟩);rw[(u n d).1] at hn;rw[(u n d).2];have hr:=H.row n f m sz p hn;have Q:=am3 n f m sz p d hn;refine⟨hr.pos,hr.er,hr.nl,fun hl=>?_,fun hl y=>?_,?_,fun y hm=>(hr.nr y hm).congr Q⟩;obtain⟨l1,l2,l3⟩:=hr.eG hl;have a:=Sb n d (by rw[hn];simp) hl;exact⟨l1.congr a,l2.congr (fun o=>ik a o) (fun b' z o=>ik (Q b' z) o),l3⟩;obtain⟨r2,cur,e,r3,Y⟩:=hr.room hl y;exact⟨r2,cur,e,(Sb n d (by rw[hn];simp) hl).trans r3,Y⟩;have hm:=hr.mode;(cases m with|aM=>exact fun b a=>by rw[x];exact hm b a|aN=>exact⟨fun b a=>⟨by rw[x];exact(hm.1 b a).1,(hm.1 b a).2.1.congr (Q b a),(hm.1 b a).2.2⟩,hm.2⟩|live=>exact⟨fun b a=>⟨by rw[x];exact(hm.1 b a).1,(hm.1 b a).2.1.congr (Q b a),(hm.1 b a).2.2⟩,hm.2⟩);obtain⟨s1,s2,s3,s4,s5⟩:=ig n;rw[s1] at hl;rw[s2];obtain⟨o1,o2,o3⟩:=H.own n (ne n hn) hl;exact⟨by rw[x];exact o1,o2,IS o3 bN⟩;rw[(ig n).1] at hl;rw[(ig s).1] at eJ;rw[(ig n).2.1,(ig s).2.1];exact H.inj n s (ne n hn) (ne s N) A hl eJ;rw[x] at a;exact IS (H.gN b a) bN;obtain⟨V,l⟩:=lQ n f m sz xs hn;obtain⟨x2,r⟩:=lQ s X W aL p N;exact H.gw n s f m sz V X W aL x2 l r hm bM A b (sub n b a) (sub s b z);obtain⟨V,l⟩:=lQ n f .live sz xs hn;rw[(ig s).1] at hl;rw[(ig s).2.1];exact H.live n f sz V l b (sub n b a) s (ne s N) hl;intro i pc F;simp at F;intro i j pc dQ b _ F;simp at F;intro i pc n f m sz xs b F;simp at F
def Fq (σ σ1:St) (it:dG) (x:C):Prop:=
 match it with
 |.nil _=>True
 |.row n=>∃gr m rs xs av,σ.h n=some (.row gr m rs xs)/\x=.list rs av/\σ1.h n=some (.row gr m rs av)
 |.nest n k off=>∃gr m rs xs e,σ.h n=some (.row gr m rs xs)/\xs[k]? =some e/\σ1.h n=some (.row gr m rs (xs.set k (e.set off x)))
theorem aqy {it:dG} {x:C} {σ1:St} (hx:σ.pj it x=some σ1):σ1.env=σ.env/\σ1.used=σ.used/\(∀n,it.eS≠some n->σ1.h n=σ.h n)/\Fq σ σ1 it x:=by cases it with|nil sz=>simp only[St.pj] at hx;injection hx with hx;subst hx;exact⟨rfl,rfl,fun _ _=>rfl,trivial⟩|row n=>(cases x with|int k i=>simp[St.pj] at hx|bool b=>simp[St.pj] at hx|list sz xs=>simp only[St.pj] at hx;split at hx;rename_i a m d g hn;split at hx;rename_i e;injection hx with hx;subst hx;subst e;exact⟨rfl,rfl,fun q c=>cQ _ _ _ _ (fun e=>c (by rw[e];rfl)),a,m,d,g,xs,hn,rfl,cr _ _ _⟩;cases hx;cases hx)|nest n k off=>simp only[St.pj] at hx;split at hx;rename_i a m d xs hn;split at hx;rename_i e f;injection hx with hx;subst hx;exact⟨rfl,rfl,fun q c=>cQ _ _ _ _ (fun e=>c (by rw[e];rfl)),a,m,d,xs,e,hn,f,cr _ _ _⟩;cases hx;cases hx
theorem Fq.congr {σ σ1 τ i:St} {it:dG} {x:C} (hx:Fq σ σ1 it x) (g:∀n,it.eS=some n->τ.h n=σ.h n) (j:∀n,it.eS=some n->i.h n=σ1.h n):Fq τ i it x:=by cases it with|nil sz=>trivial|row n=>obtain⟨a,m,f,xs,l,c,d,b⟩:=hx;exact⟨a,m,f,xs,l,(g n rfl).trans c,d,(j n rfl).trans b⟩|nest n k off=>obtain⟨a,m,f,xs,e,c,d,b⟩:=hx;exact⟨a,m,f,xs,e,(g n rfl).trans c,d,(j n rfl).trans b⟩
theorem PT {it:dG×Mode} {a:List (dG×Mode)} (h:it.1.eS=none):(it::a).filterMap (·.1.eS)=a.filterMap (·.1.eS):=List.filterMap_cons_none h
theorem C6 {it:dG×Mode} {a:List (dG×Mode)} {n:Nat} (h:it.1.eS=some n):(it::a).filterMap (·.1.eS)=n::a.filterMap (·.1.eS):=List.filterMap_cons_some h
theorem acK:∀{a:List (dG×Mode)} {d:List C} {σ σ1:St},σ.qf a d=some σ1->(a.filterMap (·.1.eS)).Nodup->σ1.env=σ.env/\σ1.used=σ.used/\ (∀n,n∉a.filterMap (·.1.eS)->σ1.h n=σ.h n)/\∀(i:Nat) (it:dG×Mode) (x:C),a[i]? =some it->d[i]? =some x->Fq σ σ1 it.1 x
 |[],[],σ,σ1,hx,gI=>by simp only[St.qf] at hx;injection hx with hx;subst hx;exact⟨rfl,rfl,fun _ _=>rfl,by intro i it x h;simp at h⟩
 |it::a,x::d,σ,σ2,hx,gI=>by simp only[St.qf] at hx;split at hx;rename_i σ1 o;obtain⟨p1,r,j,p4⟩:=aqy o;have v:(a.filterMap (·.1.eS)).Nodup:=(by cases hn:it.1.eS with|none=>rw[PT hn] at gI;exact gI|some n=>rw[C6 hn] at gI;exact(zaz.1 gI).2);have g:∀n,it.1.eS=some n->n∉a.filterMap (·.1.eS):=(by intro n hn;rw[C6 hn] at gI;exact(zaz.1 gI).1);obtain⟨s,m,l,t⟩:=acK hx v;refine⟨s.trans p1,m.trans r,fun n hn=>?_,fun i b x' f c=>?_⟩;have p:it.1.eS≠some n:=(by intro e;rw[C6 e] at hn;exact hn (by simp));have u:n∉a.filterMap (·.1.eS):=(by intro hm;apply hn;cases hq:it.1.eS with|none=>rw[PT hq];exact hm|some q=>rw[C6 hq];exact List.mem_cons_of_mem _ hm);exact(l n u).trans (j n p);(cases i with|zero=>simp at f c;subst f;subst c;exact p4.congr (fun _ _=>rfl) (fun n hn=>l n (g n hn))|succ i=>have k:a[i]? =some b:=(by simpa using f);refine(t i b x' k (by simpa using c)).congr (fun n hn=>?_) (fun _ _=>rfl);refine(j n ?_).symm;intro e;refine g n e ?_;rw[za1];exact⟨b,co k,hn⟩);cases hx
 |[],_::_,σ,σ1,hx,_=>by simp[St.qf] at hx
 |_::_,[],σ,σ1,hx,_=>by simp[St.qf] at hx
theorem LF:∀{a:List (dG×Mode)},(a.filterMap (·.1.eS)).Nodup->∀{i j:Nat} {x y:dG×Mode} {n:Nat},a[i]? =some x->a[j]? =some y->x.1.eS=some n->y.1.eS=some n->i=j
 |[],_,i,j,x,y,n,hi,_,_,_=>by simp at hi
 |it::a,gI,i,j,x,y,n,hi,hj,hx,hy=>by have d:(a.filterMap (·.1.eS)).Nodup:=(by cases hn:it.1.eS with|none=>rw[PT hn] at gI;exact gI|some n=>rw[C6 hn] at gI;exact(zaz.1 gI).2);have b:∀n,it.1.eS=some n->∀(k:Nat) (z:dG×Mode),a[k]? =some z->z.1.eS≠some n:=(by intro n hn k z c e;rw[C6 hn] at gI;exact(zaz.1 gI).1 (za1.2 ⟨z,co c,e⟩));cases i with|zero=>(cases j with|zero=>rfl|succ j=>simp at hi hj;subst hi;exact absurd hy (b n hx j y hj))|succ i=>cases j with|zero=>simp at hi hj;subst hj;exact absurd hx (b n hy i x hi)|succ j=>exact congrArg (·+1) (LF d (i:=i) (j:=j) (by simpa using hi) (by simpa using hj) hx hy)
end
end Go.Am
