/- Br2: a law whose model is true at all data holds. No condition. -/
import Derived.Test.YtfkfmbhknekkdaaBr1
import Derived.WalkKit
import Derived.ProofKit
import Derived.OpenShut
set_option linter.unusedVariables false
namespace Go.Am
open Go.ChangeShapes Go.WideShapes Go.ChangeAt Go.RowKit
def xW:(as:ax)->bA as.bz->Prop
 |[],_=>True
 |[a],x=>Ty.jv a.2 x
 |a::b::as,x=>Ty.jv a.2 x.1/\xW (b::as) x.2
theorem aaR (a:K×List Ty) (as:ax) (x:Ty.DL a.2) (y:bA (ax.bz as)):Ty.jv a.2 x->xW as y->xW (a::as) (ED a.2 (ax.bz as) x y):=by
 intro h1 h2
 cases as with
 |nil=>exact h1
 |cons b as=>exact⟨h1,h2⟩
def I4 (P:Program) (t:TypeId) (a:K×List Ty):Bool:=
 match Aj P 30 t with
 |some ts=>Ty.pd ts a.2&&(match P.underlying t,a.1 with
  |some (.struct _),.agg=>true
  |some (.int _),.one=>true
  |some .bool,.one=>true
  |some (.slice _),.one=>true
  |_,_=>false)
 |none=>false
def yf (P:Program):List TypeId->ax->Bool
 |[],[]=>true
 |t::ts,a::as=>I4 P t a&&yf P ts as
 |_,_=>false
section
variable {H:Type} {enc:TypeId×Value->H} {P:Program} {w w':World} {sp:Nat->Bool} {held:Bool}
theorem aab {t:TypeId} {a:K×List Ty} {v:Value} {d:DataW H} {ps:List MemPlace} (hc:I4 P t a=true) (hv:Value.okWide P w .any 0 t v) (hd:DataW.Trod enc P w 0 sp held t v d ps):
  ∃x:Ty.DL a.2,xy w (a.1,Ty.az a.2 x) v/\Ty.jv a.2 x:=by
 obtain⟨gC,hd⟩:=hd
 unfold I4 at hc
 split at hc
 ·rename_i ts Le
  simp only[Bool.and_eq_true] at hc
  obtain⟨h1,h2⟩:=hc
  have h1:=Ty.pf h1
  subst h1
  obtain⟨x,bk,e1,e2,e3,e4⟩:=Qp gC t v.cells.toList _ 30 a.2 hd Le
  refine⟨x,?_,e4⟩
  unfold Value.okWide at hv
  have one:(∀cs,v≠ .agg cs)->a.1=.one->xy w (a.1,Ty.az a.2 x) v:=by
   intro hn ha
   have wb:v.cells.toList=[v]:=by cases v<;>first|rfl|(rename_i cs;exact absurd rfl (hn cs))
   rw[ha]
   exact⟨bk,e1,e3,by rw[e2,wb]⟩
  split at h2
  ·rename_i fs hu ha
   rw[hu] at hv
   obtain⟨cs,rfl,_,_⟩:=hv
   rw[ha]
   exact⟨bk,e1,e3,by rw[e2];rfl⟩
  ·rename_i k hu ha
   refine one (fun cs e=>?_) ha
   subst e
   rw[hu] at hv
   simp[Cell.okWide,hu,Cell.ok] at hv
  ·rename_i hu ha
   refine one (fun cs e=>?_) ha
   subst e
   rw[hu] at hv
   simp[Cell.okWide,hu,Cell.ok] at hv
  ·rename_i e hu ha
   refine one (fun cs e=>?_) ha
   subst e
   rw[hu] at hv
   simp[Cell.okWide,hu,Cell.ok] at hv
  ·cases h2
 ·cases hc
theorem Rd:∀{ts:List TypeId} {as:ax} {vs:List Value} {ds:List (DataW H)} {ps:List MemPlace},yf P ts as=true->(∀(j:Nat) (t:TypeId) (v:Value),ts[j]? =some t->vs[j]? =some v->Value.okWide P w .any 0 t v)->
  DataW.TrodAll enc P w 0 sp held ts vs ds ps->∃x:bA (ax.bz as),Dj w (dj as x) vs/\xW as x
 |[],[],vs,ds,ps,hc,hv,h=>by
  obtain⟨rfl,rfl,rfl⟩:=trodAll_nil h
  exact⟨(),⟨rfl,by intro j d v hj;simp[dj] at hj⟩,trivial⟩
 |t::ts,a::as,vs,ds,ps,hc,hv,h=>by
  simp only[yf,Bool.and_eq_true] at hc
  obtain⟨v,vs1,d,ds1,p,q,rfl,rfl,rfl,h1,h2⟩:=trodAll_cons h
  obtain⟨x,a1,a2⟩:=aab hc.1 (hv 0 t v rfl rfl) h1
  obtain⟨y,b1,b2⟩:=Rd hc.2 (fun j t v h3 h4=>hv (j+1) t v (by simpa using h3) (by simpa using h4)) h2
  refine⟨ED a.2 (ax.bz as) x y,?_,aaR a as x y a2 b2⟩
  rw[Sz]
  refine⟨by simp[b1.1],fun j d v hj eO=>?_⟩
  cases j with
  |zero=>simp at hj eO;subst hj;subst eO;exact a1
  |succ j=>exact b1.2 j d v (by simpa using hj) (by simpa using eO)
 |[],_::_,vs,ds,ps,hc,hv,h=>by simp[yf] at hc
 |_::_,[],vs,ds,ps,hc,hv,h=>by simp[yf] at hc
theorem Zh (hw:∀b,b<w.heap.size->w'.heap[b]? =w.heap[b]?):∀{ts:List TypeId} {vs:List Value} {ds:List (DataW H)} {ps:List MemPlace},DataW.TrodAll enc P w 0 sp held ts vs ds ps->DataW.TrodAll enc P w' 0 sp held ts vs ds ps
 |[],[],[],_,h=>h
 |t::ts,v::vs,d::ds,_,⟨p,q,⟨n,h1⟩,h2,e⟩=>by
  refine⟨p,q,⟨n,DataW.trod_carry n t _ _ h1 fun pl eH=>?_⟩,Zh hw h2,e⟩
  have bB:=DataW.trod_lt n t _ _ h1 pl eH
  cases pl with
  |cell b o=>
   have hb:=hw b bB
   simp only[World.sameAt,World.cell?,hb]
  |map b=>exact hw b bB
 |[],[],_::_,_,h=>h.elim
 |[],_::_,_,_,h=>h.elim
 |_::_,[],_,_,h=>h.elim
 |_::_,_::_,[],_,h=>h.elim
theorem af3 (h1:w'.os=w.os) (h2:w'.output=w.output) (hw:∀b,b<w.heap.size->w'.heap[b]? =w.heap[b]?) (W4:MemPlace->Prop):w.keptBut w' W4:=by
 have xZ:=World.keptBut_refl w W4
 refine⟨h1,h2,fun i hi=>?_⟩
 rw[hw i hi]
 exact xZ.2.2 i hi
theorem aja {f:Func} {s:ChangeSpec} {apart Ki Kr IE:Bool} {W W':World} {args:Array Value} {v:Value} {ds gs:List (DataW H)} {pb pa pv:List MemPlace}
  (hW:DataW.Whole enc P f.params.toList s.vars apart W args.toList ds gs pb)
  (wB:∀(b:Nat) (sp:Nat->Bool) (hd:Bool),DataW.TrodAll enc P W' b sp hd f.resultTypes.toList (v.resultList f.resultTypes.size) (s.fn H (ds++gs)).results [])
  (pC:∀sp:Nat->Bool,(∀p∈pb,sp p.block=true)->DataW.TrodAll enc P W' 0 sp true f.params.toList args.toList (s.fn H (ds++gs)).args pa)
  (Uw:∀sp:Nat->Bool,(∀p∈pb,sp p.block=true)->DataW.TrodVars enc P W' sp s.vars (s.fn H (ds++gs)).vars pv)
  (eK:pb=pa++pv) (hk:W.keptBut W' (·∈pb)) (Fl:∀a:Addr,a.block<W.heap.size->W'.frozen? a=W.frozen? a)
  (eG:∀(j:Nat) (t:TypeId) (r:Value),f.resultTypes[j]? =some t->(v.resultList f.resultTypes.size)[j]? =some r->Value.okWide P W' .any 0 t r):
  s.post enc P f apart Ki Kr IE W args v W':=by
 have hold:∀p∈pb,(fun b=>decide (b<W.heap.size)) p.block=true:=fun p hp=>by simpa using hW.lt p hp
 have bB:=hW.lt
 refine⟨ds,gs,pb,[],pa,pv,hW,wB _ _ _,pC _ hold,Uw _ hold,World.keptBut_mono (fun p hp=>⟨hp,?_⟩) hk,fun _=>?_⟩
 ·rw[eK,List.mem_append] at hp
  exact Or.inr hp
 ·obtain⟨_,_,_,_,_,hz,hn⟩:=hW
  refine⟨eG,_,_,([]++pa)++pv,⟨[]++pa,pv,trodAll_append (pC _ (fun _ _=>rfl)) (wB _ _ _),Uw _ (fun _ _=>rfl),rfl,?_,?_⟩,?_⟩
  ·intro b off hp
   have aX:MemPlace.cell b off∈pb:=by rw[eK];simpa using hp
   rw[Fl ⟨b,off,none⟩ (bB _ aX)]
   exact hz b off aX
  ·intro ha
   have:=hn ha
   rw[eK] at this
   simpa using this
  ·intro p hp _
   rw[eK]
   simpa using hp
theorem ajH {aT:List (K×List PC)} {b:Bool} (h:aT.map (fun p=>(p.1,p.2.map PC.er))=[(K.one,[C.bool b])]):sZ aT=.bool b:=by
 match aT,h with
 |[],h=>simp at h
 |_::_::_,h=>simp at h
 |[(k,bk)],h=>
  simp only[List.map_cons,List.map_nil,List.cons.injEq,Prod.mk.injEq,and_true] at h
  obtain⟨rfl,h⟩:=h
  match bk,h with
  |[],h=>simp at h
  |_::_::_,h=>simp at h
  |[pc],h=>
   simp only[List.map_cons,List.map_nil,List.cons.injEq,and_true] at h
   cases pc with
   |bool b=>simp[PC.er] at h;subst h;rfl
   |int k n=>simp[PC.er] at h
   |list sz a cap xs=>rw[PC.du] at h;cases h
theorem Zi:∀{ts:List TypeId} {vs:List Value} {ds:List (DataW H)} {ps:List MemPlace},DataW.TrodAll enc P w 0 sp held ts vs ds ps->ds.length=ts.length
 |[],vs,ds,ps,h=>by obtain⟨rfl,rfl,rfl⟩:=trodAll_nil h;rfl
 |t::ts,vs,ds,ps,h=>by
  obtain⟨v,vs1,d,ds1,p,q,rfl,rfl,rfl,h1,h2⟩:=trodAll_cons h
  simp[Zi h2]
def Tx (P:Program):Bool:=(List.range P.types.size).all fun t=>match P.underlying t with|some (.slice e)=>decide (0<P.cellsOf e)|_=>true
theorem agD {f:FuncId} {fn:Func} {s:ChangeSpec} {sg:ax} {M:List Dv->Option (List Dv)} {tb:TypeId} (hl:laidOutB P=true) (hmr:mapsRowed P=true)
  (hz:Tx P=true)
  (Le:∀t∈fn.params.toList,t<P.types.size)
  (hp:yf P fn.params.toList sg=true) (hr:fn.resultTypes=#[tb]) (hb:P.underlying tb=some .bool) (hs:s.vars=[])
  (wD:∀ds:List (DataW H),ds.length=fn.params.toList.length->(s.fn H ds).results=[.lit (.bool true)]/\(s.fn H ds).args=ds/\(s.fn H ds).vars=[])
  (adn:dO P f M) (hM:∀x:bA (ax.bz sg),xW sg x->M (dj sg x)=some [(.one,[.bool true])]) {apart Ki Kr IE:Bool}
  {W:World} {xZ:Nat} {args:Array Value} {ds gs:List (DataW H)} {pb:List MemPlace}
  (BX:∀(j:Nat) t v,fn.params[j]? =some t->args[j]? =some v->Value.okWide P W .any xZ t v) (hW:DataW.Whole enc P fn.params.toList s.vars apart W args.toList ds gs pb):
  Calls P f args W fun e W'=>∃v,e=.returned v/\s.post enc P fn apart Ki Kr IE W args v W':=by
 have hW':=hW
 obtain⟨p,q,hA,hV,rfl,Fl,dN⟩:=hW
 rw[hs] at hV
 obtain⟨rfl,rfl⟩:=trodVars_none hV
 obtain⟨x,hx,uf⟩:=Rd hp (fun j t v h1 h2=>Value.okWide_any_base<|BX j t v (by rw[<-Array.getElem?_toList];exact h1) (by rw[<-Array.getElem?_toList];exact h2)) hA
 have TT:=adn _ _ (hM x uf) W args.toList hx
 have sq:args.toList.toArray=args:=by cases args;rfl
 rw[sq] at TT
 refine TT.mono fun e W' ⟨aT,p1,p2,p3,p4,p5⟩=>?_
 have hv:=ajH p1
 have gh:∀b,b<W.heap.size->W'.heap[b]? =W.heap[b]? :=fun b hb=>p5.block b hb id
 have hlen:=Zi hA
 obtain⟨s1,s2,s3⟩:=wD ds hlen
 refine⟨_,p2,?_⟩
 rw[hv]
 refine aja (pa:=p) (pv:=[]) hW' (fun _ _ _=>?_) (fun sp wD=>?_) (fun _ _=>?_) (by simp) (af3 p5.os p5.output gh _) (fun a ha=>?_) ?_
 ·rw[List.append_nil,s1,hr]
  exact trodAll_cons_mk (shut_bool hb _) trodAll_mk0
 ·rw[List.append_nil,s2]
  exact DataW.TrodAll.respare (kids_rows hl hmr) (slices_full_of P hz) Le (Zh gh hA) (fun pl eH=>wD pl (by simpa using eH))
 ·rw[List.append_nil,hs,s3]
  rfl
 ·simp only[World.frozen?,gh a.block ha]
 ·rw[hr]
  rw[<-hr]
  exact ok_one hr rfl (okWide_bool_mk hb _)
end
end Go.Am
