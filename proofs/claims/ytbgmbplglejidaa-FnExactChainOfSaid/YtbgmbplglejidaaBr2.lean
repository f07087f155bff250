/- Br2: a law whose model is true at all data holds. No condition. -/
import Derived.Test.YtbgmbplglejidaaBr1
import Derived.WalkKit
import Derived.ProofKit
import Derived.OpenShut
set_option linter.unusedVariables false
namespace Go.Am
open Go.ChangeShapes Go.WideShapes Go.ChangeAt Go.RowKit
def Ag:(as:ai)->aQ as.aP->Prop
 |[],_=>True
 |[a],x=>Ty.ma a.2 x
 |a::b::as,x=>Ty.ma a.2 x.1/\Ag (b::as) x.2
theorem ae8 (a:K×List Ty) (as:ai) (x:Ty.DL a.2) (y:aQ (ai.aP as)):Ty.ma a.2 x->Ag as y->Ag (a::as) (H8 a.2 (ai.aP as) x y):=by
 intro h1 h2
 cases as with
 |nil=>exact h1
 |cons b as=>exact⟨h1,h2⟩
def MB (P:Program) (t:TypeId) (a:K×List Ty):Bool:=
 match Cv P 30 t with
 |some ts=>Ty.q9 ts a.2&&(match P.underlying t,a.1 with
  |some (.struct _),.agg=>true
  |some (.int _),.one=>true
  |some .bool,.one=>true
  |some (.slice _),.one=>true
  |_,_=>false)
 |none=>false
def Aw (P:Program):List TypeId->ai->Bool
 |[],[]=>true
 |t::ts,a::as=>MB P t a&&Aw P ts as
 |_,_=>false
section
variable {H:Type} {enc:TypeId×Value->H} {P:Program} {w w':World} {sp:Nat->Bool} {held:Bool}
theorem aes {t:TypeId} {a:K×List Ty} {v:Value} {d:DataW H} {ps:List MemPlace} (hc:MB P t a=true) (hv:Value.okWide P w .any 0 t v) (hd:DataW.Trod enc P w 0 sp held t v d ps):
  ∃x:Ty.DL a.2,zC w (a.1,Ty.aJ a.2 x) v/\Ty.ma a.2 x:=by
 obtain⟨ik,hd⟩:=hd
 unfold MB at hc
 split at hc
 ·rename_i ts D8
  simp only[Bool.and_eq_true] at hc
  obtain⟨h1,h2⟩:=hc
  have h1:=Ty.sx h1
  subst h1
  obtain⟨x,bt,e1,e2,e3,e4⟩:=Wt ik t v.cells.toList _ 30 a.2 hd D8
  refine⟨x,?_,e4⟩
  unfold Value.okWide at hv
  have one:(∀cs,v≠ .agg cs)->a.1=.one->zC w (a.1,Ty.aJ a.2 x) v:=by
   intro hn ha
   have yp:v.cells.toList=[v]:=by cases v<;>first|rfl|(rename_i cs;exact absurd rfl (hn cs))
   rw[ha]
   exact⟨bt,e1,e3,by rw[e2,yp]⟩
  split at h2
  ·rename_i fs hu ha
   rw[hu] at hv
   obtain⟨cs,rfl,_,_⟩:=hv
   rw[ha]
   exact⟨bt,e1,e3,by rw[e2];rfl⟩
  ·rename_i k hu ha
   refine one (fun cs e=>?_) ha
   subst e
   rw[hu] at hv
   simp[Cell.okWide,hu,Cell.ok] at hv
  ·rename_i hu ha
   refine one (fun cs e=>?_) ha
   subst e
   rw[hu] at hv
   simp[Cell.okWide,hu,Cell.ok] at hv
  ·rename_i e hu ha
   refine one (fun cs e=>?_) ha
   subst e
   rw[hu] at hv
   simp[Cell.okWide,hu,Cell.ok] at hv
  ·cases h2
 ·cases hc
theorem Xa:∀{ts:List TypeId} {as:ai} {vs:List Value} {ds:List (DataW H)} {ps:List MemPlace},Aw P ts as=true->(∀(j:Nat) (t:TypeId) (v:Value),ts[j]? =some t->vs[j]? =some v->Value.okWide P w .any 0 t v)->
  DataW.TrodAll enc P w 0 sp held ts vs ds ps->∃x:aQ (ai.aP as),FM w (c6 as x) vs/\Ag as x
 |[],[],vs,ds,ps,hc,hv,h=>by
  obtain⟨rfl,rfl,rfl⟩:=trodAll_nil h
  exact⟨(),⟨rfl,by intro j d v hj;simp[c6] at hj⟩,trivial⟩
 |t::ts,a::as,vs,ds,ps,hc,hv,h=>by
  simp only[Aw,Bool.and_eq_true] at hc
  obtain⟨v,vs1,d,ds1,p,q,rfl,rfl,rfl,h1,h2⟩:=trodAll_cons h
  obtain⟨x,a1,a2⟩:=aes hc.1 (hv 0 t v rfl rfl) h1
  obtain⟨y,b1,b2⟩:=Xa hc.2 (fun j t v h3 h4=>hv (j+1) t v (by simpa using h3) (by simpa using h4)) h2
  refine⟨H8 a.2 (ai.aP as) x y,?_,ae8 a as x y a2 b2⟩
  rw[Yp]
  refine⟨by simp[b1.1],fun j d v hj fK=>?_⟩
  cases j with
  |zero=>simp at hj fK;subst hj;subst fK;exact a1
  |succ j=>exact b1.2 j d v (by simpa using hj) (by simpa using fK)
 |[],_::_,vs,ds,ps,hc,hv,h=>by simp[Aw] at hc
 |_::_,[],vs,ds,ps,hc,hv,h=>by simp[Aw] at hc
theorem adQ (hw:∀b,b<w.heap.size->w'.heap[b]? =w.heap[b]?):∀{ts:List TypeId} {vs:List Value} {ds:List (DataW H)} {ps:List MemPlace},DataW.TrodAll enc P w 0 sp held ts vs ds ps->DataW.TrodAll enc P w' 0 sp held ts vs ds ps
 |[],[],[],_,h=>h
 |t::ts,v::vs,d::ds,_,⟨p,q,⟨n,h1⟩,h2,e⟩=>by
  refine⟨p,q,⟨n,DataW.trod_carry n t _ _ h1 fun pl fk=>?_⟩,adQ hw h2,e⟩
  have bB:=DataW.trod_lt n t _ _ h1 pl fk
  cases pl with
  |cell b o=>
   have hb:=hw b bB
   simp only[World.sameAt,World.cell?,hb]
  |map b=>exact hw b bB
 |[],[],_::_,_,h=>h.elim
 |[],_::_,_,_,h=>h.elim
 |_::_,[],_,_,h=>h.elim
 |_::_,_::_,[],_,h=>h.elim
theorem akj (h1:w'.os=w.os) (h2:w'.output=w.output) (hw:∀b,b<w.heap.size->w'.heap[b]? =w.heap[b]?) (may:MemPlace->Prop):w.keptBut w' may:=by
 have Ak:=World.keptBut_refl w may
 refine⟨h1,h2,fun i hi=>?_⟩
 rw[hw i hi]
 exact Ak.2.2 i hi
theorem aoG {f:Func} {s:ChangeSpec} {apart Ou OC Me:Bool} {W W':World} {args:Array Value} {v:Value} {ds gs:List (DataW H)} {q8 pa pv:List MemPlace}
  (hW:DataW.Whole enc P f.params.toList s.vars apart W args.toList ds gs q8)
  (yC:∀(b:Nat) (sp:Nat->Bool) (hd:Bool),DataW.TrodAll enc P W' b sp hd f.resultTypes.toList (v.resultList f.resultTypes.size) (s.fn H (ds++gs)).results [])
  (ru:∀sp:Nat->Bool,(∀p∈q8,sp p.block=true)->DataW.TrodAll enc P W' 0 sp true f.params.toList args.toList (s.fn H (ds++gs)).args pa)
  (Z8:∀sp:Nat->Bool,(∀p∈q8,sp p.block=true)->DataW.TrodVars enc P W' sp s.vars (s.fn H (ds++gs)).vars pv)
  (fJ:q8=pa++pv) (hk:W.keptBut W' (·∈q8)) (IV:∀a:Addr,a.block<W.heap.size->W'.frozen? a=W.frozen? a)
  (fI:∀(j:Nat) (t:TypeId) (r:Value),f.resultTypes[j]? =some t->(v.resultList f.resultTypes.size)[j]? =some r->Value.okWide P W' .any 0 t r):
  s.post enc P f apart Ou OC Me W args v W':=by
 have hold:∀p∈q8,(fun b=>decide (b<W.heap.size)) p.block=true:=fun p hp=>by simpa using hW.lt p hp
 have bB:=hW.lt
 refine⟨ds,gs,q8,[],pa,pv,hW,yC _ _ _,ru _ hold,Z8 _ hold,World.keptBut_mono (fun p hp=>⟨hp,?_⟩) hk,fun _=>?_⟩
 ·rw[fJ,List.mem_append] at hp
  exact Or.inr hp
 ·obtain⟨_,_,_,_,_,hz,hn⟩:=hW
  refine⟨fI,_,_,([]++pa)++pv,⟨[]++pa,pv,trodAll_append (ru _ (fun _ _=>rfl)) (yC _ _ _),Z8 _ (fun _ _=>rfl),rfl,?_,?_⟩,?_⟩
  ·intro b off hp
   have be:MemPlace.cell b off∈q8:=by rw[fJ];simpa using hp
   rw[IV ⟨b,off,none⟩ (bB _ be)]
   exact hz b off be
  ·intro ha
   have:=hn ha
   rw[fJ] at this
   simpa using this
  ·intro p hp _
   rw[fJ]
   simpa using hp
theorem aoY {aV:List (K×List PC)} {b:Bool} (h:aV.map (fun p=>(p.1,p.2.map PC.er))=[(K.one,[C.bool b])]):xd aV=.bool b:=by
 match aV,h with
 |[],h=>simp at h
 |_::_::_,h=>simp at h
 |[(k,bt)],h=>
  simp only[List.map_cons,List.map_nil,List.cons.injEq,Prod.mk.injEq,and_true] at h
  obtain⟨rfl,h⟩:=h
  match bt,h with
  |[],h=>simp at h
  |_::_::_,h=>simp at h
  |[pc],h=>
   simp only[List.map_cons,List.map_nil,List.cons.injEq,and_true] at h
   cases pc with
   |bool b=>simp[PC.er] at h;subst h;rfl
   |int k n=>simp[PC.er] at h
   |list sz a cap xs=>rw[PC.dG] at h;cases h
theorem adR:∀{ts:List TypeId} {vs:List Value} {ds:List (DataW H)} {ps:List MemPlace},DataW.TrodAll enc P w 0 sp held ts vs ds ps->ds.length=ts.length
 |[],vs,ds,ps,h=>by obtain⟨rfl,rfl,rfl⟩:=trodAll_nil h;rfl
 |t::ts,vs,ds,ps,h=>by
  obtain⟨v,vs1,d,ds1,p,q,rfl,rfl,rfl,h1,h2⟩:=trodAll_cons h
  simp[adR h2]
def Zg (P:Program):Bool:=(List.range P.types.size).all fun t=>match P.underlying t with|some (.slice e)=>decide (0<P.cellsOf e)|_=>true
theorem akr {f:FuncId} {fn:Func} {s:ChangeSpec} {sg:ai} {M:List Dv->Option (List Dv)} {tb:TypeId} (hl:laidOutB P=true) (hmr:mapsRowed P=true)
  (hz:Zg P=true)
  (D8:∀t∈fn.params.toList,t<P.types.size)
  (hp:Aw P fn.params.toList sg=true) (hr:fn.resultTypes=#[tb]) (hb:P.underlying tb=some .bool) (hs:s.vars=[])
  (yE:∀ds:List (DataW H),ds.length=fn.params.toList.length->(s.fn H ds).results=[.lit (.bool true)]/\(s.fn H ds).args=ds/\(s.fn H ds).vars=[])
  (aik:bV P f M) (hM:∀x:aQ (ai.aP sg),Ag sg x->M (c6 sg x)=some [(.one,[.bool true])]) {apart Ou OC Me:Bool}
  {W:World} {Ak:Nat} {args:Array Value} {ds gs:List (DataW H)} {q8:List MemPlace}
  (Ea:∀(j:Nat) t v,fn.params[j]? =some t->args[j]? =some v->Value.okWide P W .any Ak t v) (hW:DataW.Whole enc P fn.params.toList s.vars apart W args.toList ds gs q8):
  Calls P f args W fun e W'=>∃v,e=.returned v/\s.post enc P fn apart Ou OC Me W args v W':=by
 have hW':=hW
 obtain⟨p,q,hA,hV,rfl,IV,gb⟩:=hW
 rw[hs] at hV
 obtain⟨rfl,rfl⟩:=trodVars_none hV
 obtain⟨x,hx,wB⟩:=Xa hp (fun j t v h1 h2=>Value.okWide_any_base<|Ea j t v (by rw[<-Array.getElem?_toList];exact h1) (by rw[<-Array.getElem?_toList];exact h2)) hA
 have Zu:=aik _ _ (hM x wB) W args.toList hx
 have ui:args.toList.toArray=args:=by cases args;rfl
 rw[ui] at Zu
 refine Zu.mono fun e W' ⟨aV,p1,p2,p3,p4,p5⟩=>?_
 have hv:=aoY p1
 have gY:∀b,b<W.heap.size->W'.heap[b]? =W.heap[b]? :=fun b hb=>p5.block b hb id
 have hlen:=adR hA
 obtain⟨s1,s2,s3⟩:=yE ds hlen
 refine⟨_,p2,?_⟩
 rw[hv]
 refine aoG (pa:=p) (pv:=[]) hW' (fun _ _ _=>?_) (fun sp yE=>?_) (fun _ _=>?_) (by simp) (akj p5.os p5.output gY _) (fun a ha=>?_) ?_
 ·rw[List.append_nil,s1,hr]
  exact trodAll_cons_mk (shut_bool hb _) trodAll_mk0
 ·rw[List.append_nil,s2]
  exact DataW.TrodAll.respare (kids_rows hl hmr) (slices_full_of P hz) D8 (adQ gY hA) (fun pl fk=>yE pl (by simpa using fk))
 ·rw[List.append_nil,hs,s3]
  rfl
 ·simp only[World.frozen?,gY a.block ha]
 ·rw[hr]
  rw[<-hr]
  exact ok_one hr rfl (okWide_bool_mk hb _)
end
end Go.Am
