/- Am1: data without addresses (C), data with addresses (PC), how they lie in a world, and that they stay. No condition. -/
import Derived.LoopN
import Derived.Orders
import Derived.Laws.AppendOwn
import Derived.Laws.MakeOwn
import Derived.Laws.Tables
import Derived.Below
set_option linter.unusedVariables false
namespace Go.Am
inductive C where
 |int (k:IntKind) (n:Int)
 |bool (b:Bool)
 |list (sz:Nat) (xs:List (List C))
instance:Inhabited C:=⟨.bool false⟩
def ad (b o:Nat):Addr:=⟨b,o,none⟩
theorem oI (b o n:Nat):(ad b o).add n=ad b (o+n):=by
 unfold ad Addr.add
 split
 ·rename_i h;subst h;rfl
 ·rfl
theorem nG {b o b' o':Nat} (h:ad b o=ad b' o'):b=b'/\o=o':=by
 unfold ad at h;injection h with h1 h2;exact⟨h1,h2⟩
inductive PC where
 |int (k:IntKind) (n:Int)
 |bool (b:Bool)
 |list (sz:Nat) (a:Option Addr) (cap:Nat) (xs:List (List PC))
instance:Inhabited PC:=⟨.bool false⟩
mutual
def PC.er:PC->C
 |.int k n=>.int k n
 |.bool b=>.bool b
 |.list sz _ _ xs=>.list sz (PC.ED xs)
def PC.aI:List PC->List C
 |[]=>[]
 |c::cs=>PC.er c::PC.aI cs
def PC.ED:List (List PC)->List (List C)
 |[]=>[]
 |e::es=>PC.aI e::PC.ED es
end
theorem PC.agx (l:List PC):PC.aI l=l.map PC.er:=by
 induction l with
 |nil=>simp[PC.aI]
 |cons c l ih=>simp[PC.aI,ih]
theorem PC.agw (l:List (List PC)):PC.ED l=l.map (fun e=>e.map PC.er):=by
 induction l with
 |nil=>simp[PC.ED]
 |cons c l ih=>simp[PC.ED,PC.agx,ih]
theorem PC.dR (sz:Nat) (a:Option Addr) (cap:Nat) (xs:List (List PC)):(PC.list sz a cap xs).er=.list sz (xs.map (fun e=>e.map PC.er)):=by
 simp[PC.er,PC.agw]
def PC.val:PC->Value
 |.int k n=>.int k n
 |.bool b=>.bool b
 |.list _ a cap xs=>.slice a xs.length cap
theorem PC.lx (c:PC):c.val.oneCell'=true:=by cases c<;>rfl
def At {α:Type} (xs:List (List α)) (k j:Nat) (c:α):Prop:=∃e,xs[k]? =some e/\e[j]? =some c
inductive aX (b:Nat):PC->Prop where
 |here (sz o cap:Nat) (xs:List (List PC)):xs≠[]->aX b (.list sz (some (ad b o)) cap xs)
 |there (sz:Nat) (a:Option Addr) (cap:Nat) (xs:List (List PC)) (k j:Nat) (c:PC):At xs k j c->aX b c->aX b (.list sz a cap xs)
theorem aX.lm {b sz:Nat} {a:Option Addr} {cap:Nat} {xs:List (List PC)}:
  aX b (.list sz a cap xs)↔(xs≠[]/\∃o,a=some (ad b o))\/∃k j c,At xs k j c/\aX b c:=by
 constructor
 ·intro h
  cases h with
  |here sz o cap xs h=>exact .inl ⟨h,o,rfl⟩
  |there sz a cap xs k j c h1 h2=>exact .inr ⟨k,j,c,h1,h2⟩
 ·rintro(⟨h,o,rfl⟩|⟨k,j,c,h1,h2⟩)
  ·exact .here _ _ _ _ h
  ·exact .there _ _ _ _ k j c h1 h2
theorem aX.apf {b:Nat} {k:IntKind} {n:Int}:¬aX b (.int k n):=fun h=>by cases h
theorem aX.ape {b:Nat} {x:Bool}:¬aX b (.bool x):=fun h=>by cases h
inductive Good (w:World):PC->Prop where
 |int (k:IntKind) (n:Int):Good w (.int k n)
 |bool (b:Bool):Good w (.bool b)
 |nil (sz:Nat) (a:Option Addr) (cap:Nat):0<sz->Good w (.list sz a cap [])
 |cons (sz b o cap:Nat) (xs:List (List PC)):xs≠[]->xs.length<=cap->0<sz->(∀e∈xs,e.length=sz)->
  (∀k j c,At xs k j c->w.cell? (ad b (o+k*sz+j))=some c.val)->(∀k j c,At xs k j c->Good w c)->Good w (.list sz (some (ad b o)) cap xs)
theorem Good.congr {w w':World} {c:PC} (h:Good w c) (hc:∀b,aX b c->∀o,w'.cell? (ad b o)=w.cell? (ad b o)):Good w' c:=by
 induction h with
 |int k n=>exact .int k n
 |bool b=>exact .bool b
 |nil sz a cap h=>exact .nil sz a cap h
 |cons sz b o cap xs h1 h2 h3 h4 h5 h6 ih=>
  refine .cons sz b o cap xs h1 h2 h3 h4 (fun k j c hk=>?_) (fun k j c hk=>ih k j c hk fun b' be o'=>?_)
  ·rw[hc b (.here _ _ _ _ h1)];exact h5 k j c hk
  ·exact hc b' (.there _ _ _ _ k j c hk be) o'
theorem X8 {xs:List (List PC)} {sz:Nat} (h1:xs≠[]) (h3:0<sz) (h4:∀e∈xs,e.length=sz):∃c,At xs 0 0 c:=by
 cases xs with
 |nil=>exact absurd rfl h1
 |cons e es=>
  have he:=h4 e (by simp)
  cases e with
  |nil=>simp at he;omega
  |cons c cs=>exact⟨c,c::cs,rfl,rfl⟩
theorem Good.lt {w:World} {c:PC} (h:Good w c) {b:Nat} (hb:aX b c):b<w.heap.size:=by
 induction h with
 |int k n=>cases hb
 |bool b=>cases hb
 |nil sz a cap h=>
  cases hb with
  |here _ _ _ _ h=>exact absurd rfl h
  |there _ _ _ _ k j c h1 h2=>obtain⟨e,he,_⟩:=h1;simp at he
 |cons sz b' o cap xs h1 h2 h3 h4 h5 h6 ih=>
  cases hb with
  |here _ _ _ _ h=>
   obtain⟨c,hc⟩:=X8 h1 h3 h4
   exact World.block_lt_of_cell? (a:=ad b (o+0*sz+0)) w (h5 0 0 c hc)
  |there _ _ _ _ k j c h1 h2=>exact ih k j c h1 h2
inductive Sep:PC->Prop where
 |int (k:IntKind) (n:Int):Sep (.int k n)
 |bool (b:Bool):Sep (.bool b)
 |list (sz:Nat) (a:Option Addr) (cap:Nat) (xs:List (List PC)):(∀k j c,At xs k j c->Sep c)->
  (∀b o k j c,a=some (ad b o)->At xs k j c->¬aX b c)->
  (∀k j c k' j' c' b,At xs k j c->At xs k' j' c'->(k,j)≠(k',j')->aX b c->¬aX b c')->Sep (.list sz a cap xs)
def aZ (b:Nat) (px:List (List PC)):Prop:=∃k j c,At px k j c/\aX b c
def iI (px:List (List PC)):Prop:=
 (∀k j c,At px k j c->Sep c)/\∀k j c k' j' c' b,At px k j c->At px k' j' c'->(k,j)≠(k',j')->aX b c->¬aX b c'
def pB (w:World) (b o sz:Nat) (px:List (List PC)):Prop:=
 (∀e∈px,e.length=sz)/\(∀k j c,At px k j c->w.cell? (ad b (o+k*sz+j))=some c.val)/\∀k j c,At px k j c->Good w c
def dK (w:World) (b:Nat):Prop:=∃arr e,w.heap[b]? =some (.cells arr e (0,0))
theorem dK.lt {w:World} {b:Nat} (h:dK w b):b<w.heap.size:=by
 obtain⟨arr,e,h⟩:=h
 exact(Array.getElem?_eq_some_iff.1 h).1
theorem dK.congr {w w':World} {b:Nat} (h:dK w b) (hb:w'.heap[b]? =w.heap[b]?):dK w' b:=by
 obtain⟨arr,e,h⟩:=h
 exact⟨arr,e,hb.trans h⟩
theorem ja {w w':World} {b:Nat} (hb:w'.heap[b]? =w.heap[b]?) (o:Nat):w'.cell? (ad b o)=w.cell? (ad b o):=by
 simp[World.cell?,ad,hb]
theorem pB.congr {w w':World} {b o sz:Nat} {px:List (List PC)} (h:pB w b o sz px) (h1:∀o,w'.cell? (ad b o)=w.cell? (ad b o))
  (h2:∀b',aZ b' px->∀o,w'.cell? (ad b' o)=w.cell? (ad b' o)):pB w' b o sz px:=
 ⟨h.1,fun k j c hk=>(h1 _).trans (h.2.1 k j c hk),fun k j c hk=>(h.2.2 k j c hk).congr fun b' be o'=>h2 b' ⟨k,j,c,hk,be⟩ o'⟩
theorem pB.lt {w:World} {b o sz:Nat} {px:List (List PC)} (h:pB w b o sz px) {b':Nat} (hb:aZ b' px):b'<w.heap.size:=by
 obtain⟨k,j,c,hk,hc⟩:=hb
 exact(h.2.2 k j c hk).lt hc
end Go.Am
