/- Br2: a law whose model is true at all data holds. No condition. -/
import Derived.Test.YtifmggmhdcdgbaaBr1
import Derived.WalkKit
import Derived.ProofKit
import Derived.OpenShut
set_option linter.unusedVariables false
namespace Go.Am
open Go.ChangeShapes Go.WideShapes Go.ChangeAt Go.RowKit
def ze:(as:ao)->aQ as.aP->Prop
 |[],_=>True
 |[a],x=>Ty.kM a.2 x
 |a::b::as,x=>Ty.kM a.2 x.1/\ze (b::as) x.2
theorem abj (a:K×List Ty) (as:ao) (x:Ty.DL a.2) (y:aQ (ao.aP as)):Ty.kM a.2 x->ze as y->ze (a::as) (Gx a.2 (ao.aP as) x y):=by
 intro h1 h2
 cases as with
 |nil=>exact h1
 |cons b as=>exact⟨h1,h2⟩
def KM (P:Program) (t:TypeId) (a:K×List Ty):Bool:=
 match BD P 30 t with
 |some ts=>Ty.qO ts a.2&&(match P.underlying t,a.1 with
  |some (.struct _),.agg=>true
  |some (.int _),.one=>true
  |some .bool,.one=>true
  |some (.slice _),.one=>true
  |_,_=>false)
 |none=>false
def zu (P:Program):List TypeId->ao->Bool
 |[],[]=>true
 |t::ts,a::as=>KM P t a&&zu P ts as
 |_,_=>false
section
variable {H:Type} {enc:TypeId×Value->H} {P:Program} {w w':World} {sp:Nat->Bool} {held:Bool}
theorem aaF {t:TypeId} {a:K×List Ty} {v:Value} {d:DataW H} {ps:List MemPlace} (hc:KM P t a=true) (hv:Value.okWide P w .any 0 t v) (hd:DataW.Trod enc P w 0 sp held t v d ps):
  ∃x:Ty.DL a.2,yQ w (a.1,Ty.aH a.2 x) v/\Ty.kM a.2 x:=by
 obtain⟨ix,hd⟩:=hd
 unfold KM at hc
 split at hc
 ·rename_i ts Nb
  simp only[Bool.and_eq_true] at hc
  obtain⟨h1,h2⟩:=hc
  have h1:=Ty.rW h1
  subst h1
  obtain⟨x,bz,e1,e2,e3,e4⟩:=Tf ix t v.cells.toList _ 30 a.2 hd Nb
  refine⟨x,?_,e4⟩
  unfold Value.okWide at hv
  have one:(∀cs,v≠ .agg cs)->a.1=.one->yQ w (a.1,Ty.aH a.2 x) v:=by
   intro hn ha
   have xI:v.cells.toList=[v]:=by cases v<;>first|rfl|(rename_i cs;exact absurd rfl (hn cs))
   rw[ha]
   exact⟨bz,e1,e3,by rw[e2,xI]⟩
  split at h2
  ·rename_i fs hu ha
   rw[hu] at hv
   obtain⟨cs,rfl,_,_⟩:=hv
   rw[ha]
   exact⟨bz,e1,e3,by rw[e2];rfl⟩
  ·rename_i k hu ha
   refine one (fun cs e=>?_) ha
   subst e
   rw[hu] at hv
   simp[Cell.okWide,hu,Cell.ok] at hv
  ·rename_i hu ha
   refine one (fun cs e=>?_) ha
   subst e
   rw[hu] at hv
   simp[Cell.okWide,hu,Cell.ok] at hv
  ·rename_i e hu ha
   refine one (fun cs e=>?_) ha
   subst e
   rw[hu] at hv
   simp[Cell.okWide,hu,Cell.ok] at hv
  ·cases h2
 ·cases hc
theorem T0:∀{ts:List TypeId} {as:ao} {vs:List Value} {ds:List (DataW H)} {ps:List MemPlace},zu P ts as=true->(∀(j:Nat) (t:TypeId) (v:Value),ts[j]? =some t->vs[j]? =some v->Value.okWide P w .any 0 t v)->
  DataW.TrodAll enc P w 0 sp held ts vs ds ps->∃x:aQ (ao.aP as),Ey w (cW as x) vs/\ze as x
 |[],[],vs,ds,ps,hc,hv,h=>by
  obtain⟨rfl,rfl,rfl⟩:=trodAll_nil h
  exact⟨(),⟨rfl,by intro j d v hj;simp[cW] at hj⟩,trivial⟩
 |t::ts,a::as,vs,ds,ps,hc,hv,h=>by
  simp only[zu,Bool.and_eq_true] at hc
  obtain⟨v,vs1,d,ds1,p,q,rfl,rfl,rfl,h1,h2⟩:=trodAll_cons h
  obtain⟨x,a1,a2⟩:=aaF hc.1 (hv 0 t v rfl rfl) h1
  obtain⟨y,b1,b2⟩:=T0 hc.2 (fun j t v h3 h4=>hv (j+1) t v (by simpa using h3) (by simpa using h4)) h2
  refine⟨Gx a.2 (ao.aP as) x y,?_,abj a as x y a2 b2⟩
  rw[UT]
  refine⟨by simp[b1.1],fun j d v hj fJ=>?_⟩
  cases j with
  |zero=>simp at hj fJ;subst hj;subst fJ;exact a1
  |succ j=>exact b1.2 j d v (by simpa using hj) (by simpa using fJ)
 |[],_::_,vs,ds,ps,hc,hv,h=>by simp[zu] at hc
 |_::_,[],vs,ds,ps,hc,hv,h=>by simp[zu] at hc
theorem Z7 (hw:∀b,b<w.heap.size->w'.heap[b]? =w.heap[b]?):∀{ts:List TypeId} {vs:List Value} {ds:List (DataW H)} {ps:List MemPlace},DataW.TrodAll enc P w 0 sp held ts vs ds ps->DataW.TrodAll enc P w' 0 sp held ts vs ds ps
 |[],[],[],_,h=>h
 |t::ts,v::vs,d::ds,_,⟨p,q,⟨n,h1⟩,h2,e⟩=>by
  refine⟨p,q,⟨n,DataW.trod_carry n t _ _ h1 fun pl gk=>?_⟩,Z7 hw h2,e⟩
  have bX:=DataW.trod_lt n t _ _ h1 pl gk
  cases pl with
  |cell b o=>
   have hb:=hw b bX
   simp only[World.sameAt,World.cell?,hb]
  |map b=>exact hw b bX
 |[],[],_::_,_,h=>h.elim
 |[],_::_,_,_,h=>h.elim
 |_::_,[],_,_,h=>h.elim
 |_::_,_::_,[],_,h=>h.elim
theorem af3 (h1:w'.os=w.os) (h2:w'.output=w.output) (hw:∀b,b<w.heap.size->w'.heap[b]? =w.heap[b]?) (XO:MemPlace->Prop):w.keptBut w' XO:=by
 have zj:=World.keptBut_refl w XO
 refine⟨h1,h2,fun i hi=>?_⟩
 rw[hw i hi]
 exact zj.2.2 i hi
theorem ajv {f:Func} {s:ChangeSpec} {apart Mb Mh Kp:Bool} {W W':World} {args:Array Value} {v:Value} {ds gs:List (DataW H)} {qN pa pv:List MemPlace}
  (hW:DataW.Whole enc P f.params.toList s.vars apart W args.toList ds gs qN)
  (xS:∀(b:Nat) (sp:Nat->Bool) (hd:Bool),DataW.TrodAll enc P W' b sp hd f.resultTypes.toList (v.resultList f.resultTypes.size) (s.fn H (ds++gs)).results [])
  (qX:∀sp:Nat->Bool,(∀p∈qN,sp p.block=true)->DataW.TrodAll enc P W' 0 sp true f.params.toList args.toList (s.fn H (ds++gs)).args pa)
  (Wu:∀sp:Nat->Bool,(∀p∈qN,sp p.block=true)->DataW.TrodVars enc P W' sp s.vars (s.fn H (ds++gs)).vars pv)
  (fI:qN=pa++pv) (hk:W.keptBut W' (·∈qN)) (Hp:∀a:Addr,a.block<W.heap.size->W'.frozen? a=W.frozen? a)
  (fH:∀(j:Nat) (t:TypeId) (r:Value),f.resultTypes[j]? =some t->(v.resultList f.resultTypes.size)[j]? =some r->Value.okWide P W' .any 0 t r):
  s.post enc P f apart Mb Mh Kp W args v W':=by
 have hold:∀p∈qN,(fun b=>decide (b<W.heap.size)) p.block=true:=fun p hp=>by simpa using hW.lt p hp
 have bX:=hW.lt
 refine⟨ds,gs,qN,[],pa,pv,hW,xS _ _ _,qX _ hold,Wu _ hold,World.keptBut_mono (fun p hp=>⟨hp,?_⟩) hk,fun _=>?_⟩
 ·rw[fI,List.mem_append] at hp
  exact Or.inr hp
 ·obtain⟨_,_,_,_,_,hz,hn⟩:=hW
  refine⟨fH,_,_,([]++pa)++pv,⟨[]++pa,pv,trodAll_append (qX _ (fun _ _=>rfl)) (xS _ _ _),Wu _ (fun _ _=>rfl),rfl,?_,?_⟩,?_⟩
  ·intro b off hp
   have be:MemPlace.cell b off∈qN:=by rw[fI];simpa using hp
   rw[Hp ⟨b,off,none⟩ (bX _ be)]
   exact hz b off be
  ·intro ha
   have:=hn ha
   rw[fI] at this
   simpa using this
  ·intro p hp _
   rw[fI]
   simpa using hp
theorem ajL {aU:List (K×List PC)} {b:Bool} (h:aU.map (fun p=>(p.1,p.2.map PC.er))=[(K.one,[C.bool b])]):wA aU=.bool b:=by
 match aU,h with
 |[],h=>simp at h
 |_::_::_,h=>simp at h
 |[(k,bz)],h=>
  simp only[List.map_cons,List.map_nil,List.cons.injEq,Prod.mk.injEq,and_true] at h
  obtain⟨rfl,h⟩:=h
  match bz,h with
  |[],h=>simp at h
  |_::_::_,h=>simp at h
  |[pc],h=>
   simp only[List.map_cons,List.map_nil,List.cons.injEq,and_true] at h
   cases pc with
   |bool b=>simp[PC.er] at h;subst h;rfl
   |int k n=>simp[PC.er] at h
   |list sz a cap xs=>rw[PC.dw] at h;cases h
theorem Z8:∀{ts:List TypeId} {vs:List Value} {ds:List (DataW H)} {ps:List MemPlace},DataW.TrodAll enc P w 0 sp held ts vs ds ps->ds.length=ts.length
 |[],vs,ds,ps,h=>by obtain⟨rfl,rfl,rfl⟩:=trodAll_nil h;rfl
 |t::ts,vs,ds,ps,h=>by
  obtain⟨v,vs1,d,ds1,p,q,rfl,rfl,rfl,h1,h2⟩:=trodAll_cons h
  simp[Z8 h2]
def VE (P:Program):Bool:=(List.range P.types.size).all fun t=>match P.underlying t with|some (.slice e)=>decide (0<P.cellsOf e)|_=>true
theorem agd {f:FuncId} {fn:Func} {s:ChangeSpec} {sg:ao} {M:List Dv->Option (List Dv)} {tb:TypeId} (hl:laidOutB P=true) (hmr:mapsRowed P=true)
  (hz:VE P=true)
  (Nb:∀t∈fn.params.toList,t<P.types.size)
  (hp:zu P fn.params.toList sg=true) (hr:fn.resultTypes=#[tb]) (hb:P.underlying tb=some .bool) (hs:s.vars=[])
  (xU:∀ds:List (DataW H),ds.length=fn.params.toList.length->(s.fn H ds).results=[.lit (.bool true)]/\(s.fn H ds).args=ds/\(s.fn H ds).vars=[])
  (aeg:cJ P f M) (hM:∀x:aQ (ao.aP sg),ze sg x->M (cW sg x)=some [(.one,[.bool true])]) {apart Mb Mh Kp:Bool}
  {W:World} {zj:Nat} {args:Array Value} {ds gs:List (DataW H)} {qN:List MemPlace}
  (C3:∀(j:Nat) t v,fn.params[j]? =some t->args[j]? =some v->Value.okWide P W .any zj t v) (hW:DataW.Whole enc P fn.params.toList s.vars apart W args.toList ds gs qN):
  Calls P f args W fun e W'=>∃v,e=.returned v/\s.post enc P fn apart Mb Mh Kp W args v W':=by
 have hW':=hW
 obtain⟨p,q,hA,hV,rfl,Hp,gj⟩:=hW
 rw[hs] at hV
 obtain⟨rfl,rfl⟩:=trodVars_none hV
 obtain⟨x,hx,vN⟩:=T0 hp (fun j t v h1 h2=>Value.okWide_any_base<|C3 j t v (by rw[<-Array.getElem?_toList];exact h1) (by rw[<-Array.getElem?_toList];exact h2)) hA
 have VU:=aeg _ _ (hM x vN) W args.toList hx
 have tK:args.toList.toArray=args:=by cases args;rfl
 rw[tK] at VU
 refine VU.mono fun e W' ⟨aU,p1,p2,p3,p4,p5⟩=>?_
 have hv:=ajL p1
 have g0:∀b,b<W.heap.size->W'.heap[b]? =W.heap[b]? :=fun b hb=>p5.block b hb id
 have hlen:=Z8 hA
 obtain⟨s1,s2,s3⟩:=xU ds hlen
 refine⟨_,p2,?_⟩
 rw[hv]
 refine ajv (pa:=p) (pv:=[]) hW' (fun _ _ _=>?_) (fun sp xU=>?_) (fun _ _=>?_) (by simp) (af3 p5.os p5.output g0 _) (fun a ha=>?_) ?_
 ·rw[List.append_nil,s1,hr]
  exact trodAll_cons_mk (shut_bool hb _) trodAll_mk0
 ·rw[List.append_nil,s2]
  exact DataW.TrodAll.respare (kids_rows hl hmr) (slices_full_of P hz) Nb (Z7 g0 hA) (fun pl gk=>xU pl (by simpa using gk))
 ·rw[List.append_nil,hs,s3]
  rfl
 ·simp only[World.frozen?,g0 a.block ha]
 ·rw[hr]
  rw[<-hr]
  exact ok_one hr rfl (okWide_bool_mk hb _)
end
end Go.Am
