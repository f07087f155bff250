/- Br2: a law whose model is true at all data holds. No condition. -/
import Derived.Test.YtbgmbplglejidaaBr1
import Derived.WalkKit
import Derived.ProofKit
import Derived.OpenShut
set_option linter.unusedVariables false
namespace Go.Am
open Go.ChangeShapes Go.WideShapes Go.ChangeAt Go.RowKit
def AA:(as:ak)->aS as.aR->Prop
 |[],_=>True
 |[a],x=>Ty.ot a.2 x
 |a::b::as,x=>Ty.ot a.2 x.1/\AA (b::as) x.2
theorem afc (a:K×List Ty) (as:ak) (x:Ty.DL a.2) (y:aS (ak.aR as)):Ty.ot a.2 x->AA as y->AA (a::as) (IA a.2 (ak.aR as) x y):=by
 intro h1 h2
 cases as with
 |nil=>exact h1
 |cons b as=>exact⟨h1,h2⟩
def M8 (P:Program) (t:TypeId) (a:K×List Ty):Bool:=
 match C0 P 30 t with
 |some ts=>Ty.rM ts a.2&&(match P.underlying t,a.1 with
  |some (.struct _),.agg=>true
  |some (.int _),.one=>true
  |some .bool,.one=>true
  |some (.slice _),.one=>true
  |_,_=>false)
 |none=>false
def AU (P:Program):List TypeId->ak->Bool
 |[],[]=>true
 |t::ts,a::as=>M8 P t a&&AU P ts as
 |_,_=>false
section
variable {H:Type} {enc:TypeId×Value->H} {P:Program} {w w':World} {sp:Nat->Bool} {held:Bool}
theorem aep {t:TypeId} {a:K×List Ty} {v:Value} {d:DataW H} {ps:List MemPlace} (hc:M8 P t a=true) (hv:Value.okWide P w .any 0 t v) (hd:DataW.Trod enc P w 0 sp held t v d ps):
  ∃x:Ty.DL a.2,z3 w (a.1,Ty.aI a.2 x) v/\Ty.ot a.2 x:=by
 obtain⟨iB,hd⟩:=hd
 unfold M8 at hc
 split at hc
 ·rename_i ts BK
  simp only[Bool.and_eq_true] at hc
  obtain⟨h1,h2⟩:=hc
  have h1:=Ty.sR h1
  subst h1
  obtain⟨x,bw,e1,e2,e3,e4⟩:=V0 iB t v.cells.toList _ 30 a.2 hd BK
  refine⟨x,?_,e4⟩
  unfold Value.okWide at hv
  have one:(∀cs,v≠ .agg cs)->a.1=.one->z3 w (a.1,Ty.aI a.2 x) v:=by
   intro hn ha
   have yy:v.cells.toList=[v]:=by cases v<;>first|rfl|(rename_i cs;exact absurd rfl (hn cs))
   rw[ha]
   exact⟨bw,e1,e3,by rw[e2,yy]⟩
  split at h2
  ·rename_i fs hu ha
   rw[hu] at hv
   obtain⟨cs,rfl,_,_⟩:=hv
   rw[ha]
   exact⟨bw,e1,e3,by rw[e2];rfl⟩
  ·rename_i k hu ha
   refine one (fun cs e=>?_) ha
   subst e
   rw[hu] at hv
   simp[Cell.okWide,hu,Cell.ok] at hv
  ·rename_i hu ha
   refine one (fun cs e=>?_) ha
   subst e
   rw[hu] at hv
   simp[Cell.okWide,hu,Cell.ok] at hv
  ·rename_i e hu ha
   refine one (fun cs e=>?_) ha
   subst e
   rw[hu] at hv
   simp[Cell.okWide,hu,Cell.ok] at hv
  ·cases h2
 ·cases hc
theorem WT:∀{ts:List TypeId} {as:ak} {vs:List Value} {ds:List (DataW H)} {ps:List MemPlace},AU P ts as=true->(∀(j:Nat) (t:TypeId) (v:Value),ts[j]? =some t->vs[j]? =some v->Value.okWide P w .any 0 t v)->
  DataW.TrodAll enc P w 0 sp held ts vs ds ps->∃x:aS (ak.aR as),Gk w (dd as x) vs/\AA as x
 |[],[],vs,ds,ps,hc,hv,h=>by
  obtain⟨rfl,rfl,rfl⟩:=trodAll_nil h
  exact⟨(),⟨rfl,by intro j d v hj;simp[dd] at hj⟩,trivial⟩
 |t::ts,a::as,vs,ds,ps,hc,hv,h=>by
  simp only[AU,Bool.and_eq_true] at hc
  obtain⟨v,vs1,d,ds1,p,q,rfl,rfl,rfl,h1,h2⟩:=trodAll_cons h
  obtain⟨x,a1,a2⟩:=aep hc.1 (hv 0 t v rfl rfl) h1
  obtain⟨y,b1,b2⟩:=WT hc.2 (fun j t v h3 h4=>hv (j+1) t v (by simpa using h3) (by simpa using h4)) h2
  refine⟨IA a.2 (ak.aR as) x y,?_,afc a as x y a2 b2⟩
  rw[Yb]
  refine⟨by simp[b1.1],fun j d v hj dS=>?_⟩
  cases j with
  |zero=>simp at hj dS;subst hj;subst dS;exact a1
  |succ j=>exact b1.2 j d v (by simpa using hj) (by simpa using dS)
 |[],_::_,vs,ds,ps,hc,hv,h=>by simp[AU] at hc
 |_::_,[],vs,ds,ps,hc,hv,h=>by simp[AU] at hc
theorem adH (hw:∀b,b<w.heap.size->w'.heap[b]? =w.heap[b]?):∀{ts:List TypeId} {vs:List Value} {ds:List (DataW H)} {ps:List MemPlace},DataW.TrodAll enc P w 0 sp held ts vs ds ps->DataW.TrodAll enc P w' 0 sp held ts vs ds ps
 |[],[],[],_,h=>h
 |t::ts,v::vs,d::ds,_,⟨p,q,⟨n,h1⟩,h2,e⟩=>by
  refine⟨p,q,⟨n,DataW.trod_carry n t _ _ h1 fun pl fK=>?_⟩,adH hw h2,e⟩
  have bH:=DataW.trod_lt n t _ _ h1 pl fK
  cases pl with
  |cell b o=>
   have hb:=hw b bH
   simp only[World.sameAt,World.cell?,hb]
  |map b=>exact hw b bH
 |[],[],_::_,_,h=>h.elim
 |[],_::_,_,_,h=>h.elim
 |_::_,[],_,_,h=>h.elim
 |_::_,_::_,[],_,h=>h.elim
theorem ajR (h1:w'.os=w.os) (h2:w'.output=w.output) (hw:∀b,b<w.heap.size->w'.heap[b]? =w.heap[b]?) (may:MemPlace->Prop):w.keptBut w' may:=by
 have AE:=World.keptBut_refl w may
 refine⟨h1,h2,fun i hi=>?_⟩
 rw[hw i hi]
 exact AE.2.2 i hi
theorem anq {f:Func} {s:ChangeSpec} {apart OC OM MB:Bool} {W W':World} {args:Array Value} {v:Value} {ds gs:List (DataW H)} {rK pa pv:List MemPlace}
  (hW:DataW.Whole enc P f.params.toList s.vars apart W args.toList ds gs rK)
  (yN:∀(b:Nat) (sp:Nat->Bool) (hd:Bool),DataW.TrodAll enc P W' b sp hd f.resultTypes.toList (v.resultList f.resultTypes.size) (s.fn H (ds++gs)).results [])
  (r7:∀sp:Nat->Bool,(∀p∈rK,sp p.block=true)->DataW.TrodAll enc P W' 0 sp true f.params.toList args.toList (s.fn H (ds++gs)).args pa)
  (Z4:∀sp:Nat->Bool,(∀p∈rK,sp p.block=true)->DataW.TrodVars enc P W' sp s.vars (s.fn H (ds++gs)).vars pv)
  (fV:rK=pa++pv) (hk:W.keptBut W' (·∈rK)) (Jv:∀a:Addr,a.block<W.heap.size->W'.frozen? a=W.frozen? a)
  (fU:∀(j:Nat) (t:TypeId) (r:Value),f.resultTypes[j]? =some t->(v.resultList f.resultTypes.size)[j]? =some r->Value.okWide P W' .any 0 t r):
  s.post enc P f apart OC OM MB W args v W':=by
 have hold:∀p∈rK,(fun b=>decide (b<W.heap.size)) p.block=true:=fun p hp=>by simpa using hW.lt p hp
 have bH:=hW.lt
 refine⟨ds,gs,rK,[],pa,pv,hW,yN _ _ _,r7 _ hold,Z4 _ hold,World.keptBut_mono (fun p hp=>⟨hp,?_⟩) hk,fun _=>?_⟩
 ·rw[fV,List.mem_append] at hp
  exact Or.inr hp
 ·obtain⟨_,_,_,_,_,hz,hn⟩:=hW
  refine⟨fU,_,_,([]++pa)++pv,⟨[]++pa,pv,trodAll_append (r7 _ (fun _ _=>rfl)) (yN _ _ _),Z4 _ (fun _ _=>rfl),rfl,?_,?_⟩,?_⟩
  ·intro b off hp
   have bj:MemPlace.cell b off∈rK:=by rw[fV];simpa using hp
   rw[Jv ⟨b,off,none⟩ (bH _ bj)]
   exact hz b off bj
  ·intro ha
   have:=hn ha
   rw[fV] at this
   simpa using this
  ·intro p hp _
   rw[fV]
   simpa using hp
theorem anZ {aW:List (K×List PC)} {b:Bool} (h:aW.map (fun p=>(p.1,p.2.map PC.er))=[(K.one,[C.bool b])]):xd aW=.bool b:=by
 match aW,h with
 |[],h=>simp at h
 |_::_::_,h=>simp at h
 |[(k,bw)],h=>
  simp only[List.map_cons,List.map_nil,List.cons.injEq,Prod.mk.injEq,and_true] at h
  obtain⟨rfl,h⟩:=h
  match bw,h with
  |[],h=>simp at h
  |_::_::_,h=>simp at h
  |[pc],h=>
   simp only[List.map_cons,List.map_nil,List.cons.injEq,and_true] at h
   cases pc with
   |bool b=>simp[PC.er] at h;subst h;rfl
   |int k n=>simp[PC.er] at h
   |list sz a cap xs=>rw[PC.dO] at h;cases h
theorem adI:∀{ts:List TypeId} {vs:List Value} {ds:List (DataW H)} {ps:List MemPlace},DataW.TrodAll enc P w 0 sp held ts vs ds ps->ds.length=ts.length
 |[],vs,ds,ps,h=>by obtain⟨rfl,rfl,rfl⟩:=trodAll_nil h;rfl
 |t::ts,vs,ds,ps,h=>by
  obtain⟨v,vs1,d,ds1,p,q,rfl,rfl,rfl,h1,h2⟩:=trodAll_cons h
  simp[adI h2]
def Y0 (P:Program):Bool:=(List.range P.types.size).all fun t=>match P.underlying t with|some (.slice e)=>decide (0<P.cellsOf e)|_=>true
theorem ajW {f:FuncId} {fn:Func} {s:ChangeSpec} {sg:ak} {M:List Dv->Option (List Dv)} {tb:TypeId} (hl:laidOutB P=true) (hmr:mapsRowed P=true)
  (hz:Y0 P=true)
  (BK:∀t∈fn.params.toList,t<P.types.size)
  (hp:AU P fn.params.toList sg=true) (hr:fn.resultTypes=#[tb]) (hb:P.underlying tb=some .bool) (hs:s.vars=[])
  (yP:∀ds:List (DataW H),ds.length=fn.params.toList.length->(s.fn H ds).results=[.lit (.bool true)]/\(s.fn H ds).args=ds/\(s.fn H ds).vars=[])
  (aid:du P f M) (hM:∀x:aS (ak.aR sg),AA sg x->M (dd sg x)=some [(.one,[.bool true])]) {apart OC OM MB:Bool}
  {W:World} {AE:Nat} {args:Array Value} {ds gs:List (DataW H)} {rK:List MemPlace}
  (EJ:∀(j:Nat) t v,fn.params[j]? =some t->args[j]? =some v->Value.okWide P W .any AE t v) (hW:DataW.Whole enc P fn.params.toList s.vars apart W args.toList ds gs rK):
  Calls P f args W fun e W'=>∃v,e=.returned v/\s.post enc P fn apart OC OM MB W args v W':=by
 have hW':=hW
 obtain⟨p,q,hA,hV,rfl,Jv,gz⟩:=hW
 rw[hs] at hV
 obtain⟨rfl,rfl⟩:=trodVars_none hV
 obtain⟨x,hx,wJ⟩:=WT hp (fun j t v h1 h2=>Value.okWide_any_base<|EJ j t v (by rw[<-Array.getElem?_toList];exact h1) (by rw[<-Array.getElem?_toList];exact h2)) hA
 have Zm:=aid _ _ (hM x wJ) W args.toList hx
 have ur:args.toList.toArray=args:=by cases args;rfl
 rw[ur] at Zm
 refine Zm.mono fun e W' ⟨aW,p1,p2,p3,p4,p5⟩=>?_
 have hv:=anZ p1
 have ig:∀b,b<W.heap.size->W'.heap[b]? =W.heap[b]? :=fun b hb=>p5.block b hb id
 have hlen:=adI hA
 obtain⟨s1,s2,s3⟩:=yP ds hlen
 refine⟨_,p2,?_⟩
 rw[hv]
 refine anq (pa:=p) (pv:=[]) hW' (fun _ _ _=>?_) (fun sp yP=>?_) (fun _ _=>?_) (by simp) (ajR p5.os p5.output ig _) (fun a ha=>?_) ?_
 ·rw[List.append_nil,s1,hr]
  exact trodAll_cons_mk (shut_bool hb _) trodAll_mk0
 ·rw[List.append_nil,s2]
  exact DataW.TrodAll.respare (kids_rows hl hmr) (slices_full_of P hz) BK (adH ig hA) (fun pl fK=>yP pl (by simpa using fK))
 ·rw[List.append_nil,hs,s3]
  rfl
 ·simp only[World.frozen?,ig a.block ha]
 ·rw[hr]
  rw[<-hr]
  exact ok_one hr rfl (okWide_bool_mk hb _)
end
end Go.Am
