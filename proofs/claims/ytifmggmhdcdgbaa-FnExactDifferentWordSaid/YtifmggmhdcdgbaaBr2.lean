/- Br2: a law whose model is true at all data holds. No condition. -/
import Derived.Test.YtifmggmhdcdgbaaBr1
import Derived.WalkKit
import Derived.ProofKit
import Derived.OpenShut
set_option linter.unusedVariables false
namespace Go.Am
open Go.ChangeShapes Go.WideShapes Go.ChangeAt Go.RowKit
def zx:(as:ao)->aQ as.aP->Prop
 |[],_=>True
 |[a],x=>Ty.j0 a.2 x
 |a::b::as,x=>Ty.j0 a.2 x.1/\zx (b::as) x.2
theorem ac2 (a:K×List Ty) (as:ao) (x:Ty.DL a.2) (y:aQ (ao.aP as)):Ty.j0 a.2 x->zx as y->zx (a::as) (He a.2 (ao.aP as) x y):=by
 intro h1 h2
 cases as with
 |nil=>exact h1
 |cons b as=>exact⟨h1,h2⟩
def LV (P:Program) (t:TypeId) (a:K×List Ty):Bool:=
 match B2 P 30 t with
 |some ts=>Ty.qv ts a.2&&(match P.underlying t,a.1 with
  |some (.struct _),.agg=>true
  |some (.int _),.one=>true
  |some .bool,.one=>true
  |some (.slice _),.one=>true
  |_,_=>false)
 |none=>false
def zK (P:Program):List TypeId->ao->Bool
 |[],[]=>true
 |t::ts,a::as=>LV P t a&&zK P ts as
 |_,_=>false
section
variable {H:Type} {enc:TypeId×Value->H} {P:Program} {w w':World} {sp:Nat->Bool} {held:Bool}
theorem aco {t:TypeId} {a:K×List Ty} {v:Value} {d:DataW H} {ps:List MemPlace} (hc:LV P t a=true) (hv:Value.okWide P w .any 0 t v) (hd:DataW.Trod enc P w 0 sp held t v d ps):
  ∃x:Ty.DL a.2,zg w (a.1,Ty.aF a.2 x) v/\Ty.j0 a.2 x:=by
 obtain⟨gO,hd⟩:=hd
 unfold LV at hc
 split at hc
 ·rename_i ts Of
  simp only[Bool.and_eq_true] at hc
  obtain⟨h1,h2⟩:=hc
  have h1:=Ty.rH h1
  subst h1
  obtain⟨x,bo,e1,e2,e3,e4⟩:=Ut gO t v.cells.toList _ 30 a.2 hd Of
  refine⟨x,?_,e4⟩
  unfold Value.okWide at hv
  have one:(∀cs,v≠ .agg cs)->a.1=.one->zg w (a.1,Ty.aF a.2 x) v:=by
   intro hn ha
   have xY:v.cells.toList=[v]:=by cases v<;>first|rfl|(rename_i cs;exact absurd rfl (hn cs))
   rw[ha]
   exact⟨bo,e1,e3,by rw[e2,xY]⟩
  split at h2
  ·rename_i fs hu ha
   rw[hu] at hv
   obtain⟨cs,rfl,_,_⟩:=hv
   rw[ha]
   exact⟨bo,e1,e3,by rw[e2];rfl⟩
  ·rename_i k hu ha
   refine one (fun cs e=>?_) ha
   subst e
   rw[hu] at hv
   simp[Cell.okWide,hu,Cell.ok] at hv
  ·rename_i hu ha
   refine one (fun cs e=>?_) ha
   subst e
   rw[hu] at hv
   simp[Cell.okWide,hu,Cell.ok] at hv
  ·rename_i e hu ha
   refine one (fun cs e=>?_) ha
   subst e
   rw[hu] at hv
   simp[Cell.okWide,hu,Cell.ok] at hv
  ·cases h2
 ·cases hc
theorem Vb:∀{ts:List TypeId} {as:ao} {vs:List Value} {ds:List (DataW H)} {ps:List MemPlace},zK P ts as=true->(∀(j:Nat) (t:TypeId) (v:Value),ts[j]? =some t->vs[j]? =some v->Value.okWide P w .any 0 t v)->
  DataW.TrodAll enc P w 0 sp held ts vs ds ps->∃x:aQ (ao.aP as),Fi w (cH as x) vs/\zx as x
 |[],[],vs,ds,ps,hc,hv,h=>by
  obtain⟨rfl,rfl,rfl⟩:=trodAll_nil h
  exact⟨(),⟨rfl,by intro j d v hj;simp[cH] at hj⟩,trivial⟩
 |t::ts,a::as,vs,ds,ps,hc,hv,h=>by
  simp only[zK,Bool.and_eq_true] at hc
  obtain⟨v,vs1,d,ds1,p,q,rfl,rfl,rfl,h1,h2⟩:=trodAll_cons h
  obtain⟨x,a1,a2⟩:=aco hc.1 (hv 0 t v rfl rfl) h1
  obtain⟨y,b1,b2⟩:=Vb hc.2 (fun j t v h3 h4=>hv (j+1) t v (by simpa using h3) (by simpa using h4)) h2
  refine⟨He a.2 (ao.aP as) x y,?_,ac2 a as x y a2 b2⟩
  rw[V7]
  refine⟨by simp[b1.1],fun j d v hj fi=>?_⟩
  cases j with
  |zero=>simp at hj fi;subst hj;subst fi;exact a1
  |succ j=>exact b1.2 j d v (by simpa using hj) (by simpa using fi)
 |[],_::_,vs,ds,ps,hc,hv,h=>by simp[zK] at hc
 |_::_,[],vs,ds,ps,hc,hv,h=>by simp[zK] at hc
theorem abS (hw:∀b,b<w.heap.size->w'.heap[b]? =w.heap[b]?):∀{ts:List TypeId} {vs:List Value} {ds:List (DataW H)} {ps:List MemPlace},DataW.TrodAll enc P w 0 sp held ts vs ds ps->DataW.TrodAll enc P w' 0 sp held ts vs ds ps
 |[],[],[],_,h=>h
 |t::ts,v::vs,d::ds,_,⟨p,q,⟨n,h1⟩,h2,e⟩=>by
  refine⟨p,q,⟨n,DataW.trod_carry n t _ _ h1 fun pl fK=>?_⟩,abS hw h2,e⟩
  have bN:=DataW.trod_lt n t _ _ h1 pl fK
  cases pl with
  |cell b o=>
   have hb:=hw b bN
   simp only[World.sameAt,World.cell?,hb]
  |map b=>exact hw b bN
 |[],[],_::_,_,h=>h.elim
 |[],_::_,_,_,h=>h.elim
 |_::_,[],_,_,h=>h.elim
 |_::_,_::_,[],_,h=>h.elim
theorem aiB (h1:w'.os=w.os) (h2:w'.output=w.output) (hw:∀b,b<w.heap.size->w'.heap[b]? =w.heap[b]?) (Zx:MemPlace->Prop):w.keptBut w' Zx:=by
 have zB:=World.keptBut_refl w Zx
 refine⟨h1,h2,fun i hi=>?_⟩
 rw[hw i hi]
 exact zB.2.2 i hi
theorem amC {f:Func} {s:ChangeSpec} {apart Ng Nn Lx:Bool} {W W':World} {args:Array Value} {v:Value} {ds gs:List (DataW H)} {qu pa pv:List MemPlace}
  (hW:DataW.Whole enc P f.params.toList s.vars apart W args.toList ds gs qu)
  (ye:∀(b:Nat) (sp:Nat->Bool) (hd:Bool),DataW.TrodAll enc P W' b sp hd f.resultTypes.toList (v.resultList f.resultTypes.size) (s.fn H (ds++gs)).results [])
  (qJ:∀sp:Nat->Bool,(∀p∈qu,sp p.block=true)->DataW.TrodAll enc P W' 0 sp true f.params.toList args.toList (s.fn H (ds++gs)).args pa)
  (XK:∀sp:Nat->Bool,(∀p∈qu,sp p.block=true)->DataW.TrodVars enc P W' sp s.vars (s.fn H (ds++gs)).vars pv)
  (fh:qu=pa++pv) (hk:W.keptBut W' (·∈qu)) (H6:∀a:Addr,a.block<W.heap.size->W'.frozen? a=W.frozen? a)
  (fg:∀(j:Nat) (t:TypeId) (r:Value),f.resultTypes[j]? =some t->(v.resultList f.resultTypes.size)[j]? =some r->Value.okWide P W' .any 0 t r):
  s.post enc P f apart Ng Nn Lx W args v W':=by
 have hold:∀p∈qu,(fun b=>decide (b<W.heap.size)) p.block=true:=fun p hp=>by simpa using hW.lt p hp
 have bN:=hW.lt
 refine⟨ds,gs,qu,[],pa,pv,hW,ye _ _ _,qJ _ hold,XK _ hold,World.keptBut_mono (fun p hp=>⟨hp,?_⟩) hk,fun _=>?_⟩
 ·rw[fh,List.mem_append] at hp
  exact Or.inr hp
 ·obtain⟨_,_,_,_,_,hz,hn⟩:=hW
  refine⟨fg,_,_,([]++pa)++pv,⟨[]++pa,pv,trodAll_append (qJ _ (fun _ _=>rfl)) (ye _ _ _),XK _ (fun _ _=>rfl),rfl,?_,?_⟩,?_⟩
  ·intro b off hp
   have bc:MemPlace.cell b off∈qu:=by rw[fh];simpa using hp
   rw[H6 ⟨b,off,none⟩ (bN _ bc)]
   exact hz b off bc
  ·intro ha
   have:=hn ha
   rw[fh] at this
   simpa using this
  ·intro p hp _
   rw[fh]
   simpa using hp
theorem amT {aO:List (K×List PC)} {b:Bool} (h:aO.map (fun p=>(p.1,p.2.map PC.er))=[(K.one,[C.bool b])]):wK aO=.bool b:=by
 match aO,h with
 |[],h=>simp at h
 |_::_::_,h=>simp at h
 |[(k,bo)],h=>
  simp only[List.map_cons,List.map_nil,List.cons.injEq,Prod.mk.injEq,and_true] at h
  obtain⟨rfl,h⟩:=h
  match bo,h with
  |[],h=>simp at h
  |_::_::_,h=>simp at h
  |[pc],h=>
   simp only[List.map_cons,List.map_nil,List.cons.injEq,and_true] at h
   cases pc with
   |bool b=>simp[PC.er] at h;subst h;rfl
   |int k n=>simp[PC.er] at h
   |list sz a cap xs=>rw[PC.df] at h;cases h
theorem abT:∀{ts:List TypeId} {vs:List Value} {ds:List (DataW H)} {ps:List MemPlace},DataW.TrodAll enc P w 0 sp held ts vs ds ps->ds.length=ts.length
 |[],vs,ds,ps,h=>by obtain⟨rfl,rfl,rfl⟩:=trodAll_nil h;rfl
 |t::ts,vs,ds,ps,h=>by
  obtain⟨v,vs1,d,ds1,p,q,rfl,rfl,rfl,h1,h2⟩:=trodAll_cons h
  simp[abT h2]
def WW (P:Program):Bool:=(List.range P.types.size).all fun t=>match P.underlying t with|some (.slice e)=>decide (0<P.cellsOf e)|_=>true
theorem ajw {f:FuncId} {fn:Func} {s:ChangeSpec} {sg:ao} {M:List Dv->Option (List Dv)} {tb:TypeId} (hl:laidOutB P=true) (hmr:mapsRowed P=true)
  (hz:WW P=true)
  (Of:∀t∈fn.params.toList,t<P.types.size)
  (hp:zK P fn.params.toList sg=true) (hr:fn.resultTypes=#[tb]) (hb:P.underlying tb=some .bool) (hs:s.vars=[])
  (yg:∀ds:List (DataW H),ds.length=fn.params.toList.length->(s.fn H ds).results=[.lit (.bool true)]/\(s.fn H ds).args=ds/\(s.fn H ds).vars=[])
  (afY:cJ P f M) (hM:∀x:aQ (ao.aP sg),zx sg x->M (cH sg x)=some [(.one,[.bool true])]) {apart Ng Nn Lx:Bool}
  {W:World} {zB:Nat} {args:Array Value} {ds gs:List (DataW H)} {qu:List MemPlace}
  (Dz:∀(j:Nat) t v,fn.params[j]? =some t->args[j]? =some v->Value.okWide P W .any zB t v) (hW:DataW.Whole enc P fn.params.toList s.vars apart W args.toList ds gs qu):
  Calls P f args W fun e W'=>∃v,e=.returned v/\s.post enc P fn apart Ng Nn Lx W args v W':=by
 have hW':=hW
 obtain⟨p,q,hA,hV,rfl,H6,fJ⟩:=hW
 rw[hs] at hV
 obtain⟨rfl,rfl⟩:=trodVars_none hV
 obtain⟨x,hx,vO⟩:=Vb hp (fun j t v h1 h2=>Value.okWide_any_base<|Dz j t v (by rw[<-Array.getElem?_toList];exact h1) (by rw[<-Array.getElem?_toList];exact h2)) hA
 have W9:=afY _ _ (hM x vO) W args.toList hx
 have tF:args.toList.toArray=args:=by cases args;rfl
 rw[tF] at W9
 refine W9.mono fun e W' ⟨aO,p1,p2,p3,p4,p5⟩=>?_
 have hv:=amT p1
 have gx:∀b,b<W.heap.size->W'.heap[b]? =W.heap[b]? :=fun b hb=>p5.block b hb id
 have hlen:=abT hA
 obtain⟨s1,s2,s3⟩:=yg ds hlen
 refine⟨_,p2,?_⟩
 rw[hv]
 refine amC (pa:=p) (pv:=[]) hW' (fun _ _ _=>?_) (fun sp yg=>?_) (fun _ _=>?_) (by simp) (aiB p5.os p5.output gx _) (fun a ha=>?_) ?_
 ·rw[List.append_nil,s1,hr]
  exact trodAll_cons_mk (shut_bool hb _) trodAll_mk0
 ·rw[List.append_nil,s2]
  exact DataW.TrodAll.respare (kids_rows hl hmr) (slices_full_of P hz) Of (abS gx hA) (fun pl fK=>yg pl (by simpa using fK))
 ·rw[List.append_nil,hs,s3]
  rfl
 ·simp only[World.frozen?,gx a.block ha]
 ·rw[hr]
  rw[<-hr]
  exact ok_one hr rfl (okWide_bool_mk hb _)
end
end Go.Am
