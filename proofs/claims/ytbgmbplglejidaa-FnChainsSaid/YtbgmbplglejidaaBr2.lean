/- Br2: a law whose model is true at all data holds. No condition. -/
import Derived.Test.YtbgmbplglejidaaBr1
import Derived.WalkKit
import Derived.ProofKit
import Derived.OpenShut
set_option linter.unusedVariables false
namespace Go.Am
open Go.ChangeShapes Go.WideShapes Go.ChangeAt Go.RowKit
def Aa:(as:ak)->aQ as.aP->Prop
 |[],_=>True
 |[a],x=>Ty.nI a.2 x
 |a::b::as,x=>Ty.nI a.2 x.1/\Aa (b::as) x.2
theorem aeo (a:K×List Ty) (as:ak) (x:Ty.DL a.2) (y:aQ (ak.aP as)):Ty.nI a.2 x->Aa as y->Aa (a::as) (HO a.2 (ak.aP as) x y):=by
 intro h1 h2
 cases as with
 |nil=>exact h1
 |cons b as=>exact⟨h1,h2⟩
def Mf (P:Program) (t:TypeId) (a:K×List Ty):Bool:=
 match Cs P 30 t with
 |some ts=>Ty.q8 ts a.2&&(match P.underlying t,a.1 with
  |some (.struct _),.agg=>true
  |some (.int _),.one=>true
  |some .bool,.one=>true
  |some (.slice _),.one=>true
  |_,_=>false)
 |none=>false
def Ar (P:Program):List TypeId->ak->Bool
 |[],[]=>true
 |t::ts,a::as=>Mf P t a&&Ar P ts as
 |_,_=>false
section
variable {H:Type} {enc:TypeId×Value->H} {P:Program} {w w':World} {sp:Nat->Bool} {held:Bool}
theorem adA {t:TypeId} {a:K×List Ty} {v:Value} {d:DataW H} {ps:List MemPlace} (hc:Mf P t a=true) (hv:Value.okWide P w .any 0 t v) (hd:DataW.Trod enc P w 0 sp held t v d ps):
  ∃x:Ty.DL a.2,zA w (a.1,Ty.aH a.2 x) v/\Ty.nI a.2 x:=by
 obtain⟨iq,hd⟩:=hd
 unfold Mf at hc
 split at hc
 ·rename_i ts Bi
  simp only[Bool.and_eq_true] at hc
  obtain⟨h1,h2⟩:=hc
  have h1:=Ty.si h1
  subst h1
  obtain⟨x,bu,e1,e2,e3,e4⟩:=Vh iq t v.cells.toList _ 30 a.2 hd Bi
  refine⟨x,?_,e4⟩
  unfold Value.okWide at hv
  have one:(∀cs,v≠ .agg cs)->a.1=.one->zA w (a.1,Ty.aH a.2 x) v:=by
   intro hn ha
   have yd:v.cells.toList=[v]:=by cases v<;>first|rfl|(rename_i cs;exact absurd rfl (hn cs))
   rw[ha]
   exact⟨bu,e1,e3,by rw[e2,yd]⟩
  split at h2
  ·rename_i fs hu ha
   rw[hu] at hv
   obtain⟨cs,rfl,_,_⟩:=hv
   rw[ha]
   exact⟨bu,e1,e3,by rw[e2];rfl⟩
  ·rename_i k hu ha
   refine one (fun cs e=>?_) ha
   subst e
   rw[hu] at hv
   simp[Cell.okWide,hu,Cell.ok] at hv
  ·rename_i hu ha
   refine one (fun cs e=>?_) ha
   subst e
   rw[hu] at hv
   simp[Cell.okWide,hu,Cell.ok] at hv
  ·rename_i e hu ha
   refine one (fun cs e=>?_) ha
   subst e
   rw[hu] at hv
   simp[Cell.okWide,hu,Cell.ok] at hv
  ·cases h2
 ·cases hc
theorem V9:∀{ts:List TypeId} {as:ak} {vs:List Value} {ds:List (DataW H)} {ps:List MemPlace},Ar P ts as=true->(∀(j:Nat) (t:TypeId) (v:Value),ts[j]? =some t->vs[j]? =some v->Value.okWide P w .any 0 t v)->
  DataW.TrodAll enc P w 0 sp held ts vs ds ps->∃x:aQ (ak.aP as),FA w (c9 as x) vs/\Aa as x
 |[],[],vs,ds,ps,hc,hv,h=>by
  obtain⟨rfl,rfl,rfl⟩:=trodAll_nil h
  exact⟨(),⟨rfl,by intro j d v hj;simp[c9] at hj⟩,trivial⟩
 |t::ts,a::as,vs,ds,ps,hc,hv,h=>by
  simp only[Ar,Bool.and_eq_true] at hc
  obtain⟨v,vs1,d,ds1,p,q,rfl,rfl,rfl,h1,h2⟩:=trodAll_cons h
  obtain⟨x,a1,a2⟩:=adA hc.1 (hv 0 t v rfl rfl) h1
  obtain⟨y,b1,b2⟩:=V9 hc.2 (fun j t v h3 h4=>hv (j+1) t v (by simpa using h3) (by simpa using h4)) h2
  refine⟨HO a.2 (ak.aP as) x y,?_,aeo a as x y a2 b2⟩
  rw[Xq]
  refine⟨by simp[b1.1],fun j d v hj fE=>?_⟩
  cases j with
  |zero=>simp at hj fE;subst hj;subst fE;exact a1
  |succ j=>exact b1.2 j d v (by simpa using hj) (by simpa using fE)
 |[],_::_,vs,ds,ps,hc,hv,h=>by simp[Ar] at hc
 |_::_,[],vs,ds,ps,hc,hv,h=>by simp[Ar] at hc
theorem acR (hw:∀b,b<w.heap.size->w'.heap[b]? =w.heap[b]?):∀{ts:List TypeId} {vs:List Value} {ds:List (DataW H)} {ps:List MemPlace},DataW.TrodAll enc P w 0 sp held ts vs ds ps->DataW.TrodAll enc P w' 0 sp held ts vs ds ps
 |[],[],[],_,h=>h
 |t::ts,v::vs,d::ds,_,⟨p,q,⟨n,h1⟩,h2,e⟩=>by
  refine⟨p,q,⟨n,DataW.trod_carry n t _ _ h1 fun pl fK=>?_⟩,acR hw h2,e⟩
  have bG:=DataW.trod_lt n t _ _ h1 pl fK
  cases pl with
  |cell b o=>
   have hb:=hw b bG
   simp only[World.sameAt,World.cell?,hb]
  |map b=>exact hw b bG
 |[],[],_::_,_,h=>h.elim
 |[],_::_,_,_,h=>h.elim
 |_::_,[],_,_,h=>h.elim
 |_::_,_::_,[],_,h=>h.elim
theorem ajh (h1:w'.os=w.os) (h2:w'.output=w.output) (hw:∀b,b<w.heap.size->w'.heap[b]? =w.heap[b]?) (may:MemPlace->Prop):w.keptBut w' may:=by
 have Ae:=World.keptBut_refl w may
 refine⟨h1,h2,fun i hi=>?_⟩
 rw[hw i hi]
 exact Ae.2.2 i hi
theorem amW {f:Func} {s:ChangeSpec} {apart NI NT LK:Bool} {W W':World} {args:Array Value} {v:Value} {ds gs:List (DataW H)} {qZ pa pv:List MemPlace}
  (hW:DataW.Whole enc P f.params.toList s.vars apart W args.toList ds gs qZ)
  (yu:∀(b:Nat) (sp:Nat->Bool) (hd:Bool),DataW.TrodAll enc P W' b sp hd f.resultTypes.toList (v.resultList f.resultTypes.size) (s.fn H (ds++gs)).results [])
  (ru:∀sp:Nat->Bool,(∀p∈qZ,sp p.block=true)->DataW.TrodAll enc P W' 0 sp true f.params.toList args.toList (s.fn H (ds++gs)).args pa)
  (Zj:∀sp:Nat->Bool,(∀p∈qZ,sp p.block=true)->DataW.TrodVars enc P W' sp s.vars (s.fn H (ds++gs)).vars pv)
  (fV:qZ=pa++pv) (hk:W.keptBut W' (·∈qZ)) (IL:∀a:Addr,a.block<W.heap.size->W'.frozen? a=W.frozen? a)
  (fU:∀(j:Nat) (t:TypeId) (r:Value),f.resultTypes[j]? =some t->(v.resultList f.resultTypes.size)[j]? =some r->Value.okWide P W' .any 0 t r):
  s.post enc P f apart NI NT LK W args v W':=by
 have hold:∀p∈qZ,(fun b=>decide (b<W.heap.size)) p.block=true:=fun p hp=>by simpa using hW.lt p hp
 have bG:=hW.lt
 refine⟨ds,gs,qZ,[],pa,pv,hW,yu _ _ _,ru _ hold,Zj _ hold,World.keptBut_mono (fun p hp=>⟨hp,?_⟩) hk,fun _=>?_⟩
 ·rw[fV,List.mem_append] at hp
  exact Or.inr hp
 ·obtain⟨_,_,_,_,_,hz,hn⟩:=hW
  refine⟨fU,_,_,([]++pa)++pv,⟨[]++pa,pv,trodAll_append (ru _ (fun _ _=>rfl)) (yu _ _ _),Zj _ (fun _ _=>rfl),rfl,?_,?_⟩,?_⟩
  ·intro b off hp
   have bi:MemPlace.cell b off∈qZ:=by rw[fV];simpa using hp
   rw[IL ⟨b,off,none⟩ (bG _ bi)]
   exact hz b off bi
  ·intro ha
   have:=hn ha
   rw[fV] at this
   simpa using this
  ·intro p hp _
   rw[fV]
   simpa using hp
theorem anv {aT:List (K×List PC)} {b:Bool} (h:aT.map (fun p=>(p.1,p.2.map PC.er))=[(K.one,[C.bool b])]):wV aT=.bool b:=by
 match aT,h with
 |[],h=>simp at h
 |_::_::_,h=>simp at h
 |[(k,bu)],h=>
  simp only[List.map_cons,List.map_nil,List.cons.injEq,Prod.mk.injEq,and_true] at h
  obtain⟨rfl,h⟩:=h
  match bu,h with
  |[],h=>simp at h
  |_::_::_,h=>simp at h
  |[pc],h=>
   simp only[List.map_cons,List.map_nil,List.cons.injEq,and_true] at h
   cases pc with
   |bool b=>simp[PC.er] at h;subst h;rfl
   |int k n=>simp[PC.er] at h
   |list sz a cap xs=>rw[PC.dJ] at h;cases h
theorem acS:∀{ts:List TypeId} {vs:List Value} {ds:List (DataW H)} {ps:List MemPlace},DataW.TrodAll enc P w 0 sp held ts vs ds ps->ds.length=ts.length
 |[],vs,ds,ps,h=>by obtain⟨rfl,rfl,rfl⟩:=trodAll_nil h;rfl
 |t::ts,vs,ds,ps,h=>by
  obtain⟨v,vs1,d,ds1,p,q,rfl,rfl,rfl,h1,h2⟩:=trodAll_cons h
  simp[acS h2]
def Yh (P:Program):Bool:=(List.range P.types.size).all fun t=>match P.underlying t with|some (.slice e)=>decide (0<P.cellsOf e)|_=>true
theorem ajl {f:FuncId} {fn:Func} {s:ChangeSpec} {sg:ak} {M:List Dv->Option (List Dv)} {tb:TypeId} (hl:laidOutB P=true) (hmr:mapsRowed P=true)
  (hz:Yh P=true)
  (Bi:∀t∈fn.params.toList,t<P.types.size)
  (hp:Ar P fn.params.toList sg=true) (hr:fn.resultTypes=#[tb]) (hb:P.underlying tb=some .bool) (hs:s.vars=[])
  (yx:∀ds:List (DataW H),ds.length=fn.params.toList.length->(s.fn H ds).results=[.lit (.bool true)]/\(s.fn H ds).args=ds/\(s.fn H ds).vars=[])
  (ahv:dh P f M) (hM:∀x:aQ (ak.aP sg),Aa sg x->M (c9 sg x)=some [(.one,[.bool true])]) {apart NI NT LK:Bool}
  {W:World} {Ae:Nat} {args:Array Value} {ds gs:List (DataW H)} {qZ:List MemPlace}
  (uv:∀(j:Nat) t v,fn.params[j]? =some t->args[j]? =some v->Value.okWide P W .any Ae t v) (hW:DataW.Whole enc P fn.params.toList s.vars apart W args.toList ds gs qZ):
  Calls P f args W fun e W'=>∃v,e=.returned v/\s.post enc P fn apart NI NT LK W args v W':=by
 have hW':=hW
 obtain⟨p,q,hA,hV,rfl,IL,gi⟩:=hW
 rw[hs] at hV
 obtain⟨rfl,rfl⟩:=trodVars_none hV
 obtain⟨x,hx,wm⟩:=V9 hp (fun j t v h1 h2=>Value.okWide_any_base<|uv j t v (by rw[<-Array.getElem?_toList];exact h1) (by rw[<-Array.getElem?_toList];exact h2)) hA
 have YB:=ahv _ _ (hM x wm) W args.toList hx
 have tW:args.toList.toArray=args:=by cases args;rfl
 rw[tW] at YB
 refine YB.mono fun e W' ⟨aT,p1,p2,p3,p4,p5⟩=>?_
 have hv:=anv p1
 have gV:∀b,b<W.heap.size->W'.heap[b]? =W.heap[b]? :=fun b hb=>p5.block b hb id
 have hlen:=acS hA
 obtain⟨s1,s2,s3⟩:=yx ds hlen
 refine⟨_,p2,?_⟩
 rw[hv]
 refine amW (pa:=p) (pv:=[]) hW' (fun _ _ _=>?_) (fun sp yx=>?_) (fun _ _=>?_) (by simp) (ajh p5.os p5.output gV _) (fun a ha=>?_) ?_
 ·rw[List.append_nil,s1,hr]
  exact trodAll_cons_mk (shut_bool hb _) trodAll_mk0
 ·rw[List.append_nil,s2]
  exact DataW.TrodAll.respare (kids_rows hl hmr) (slices_full_of P hz) Bi (acR gV hA) (fun pl fK=>yx pl (by simpa using fK))
 ·rw[List.append_nil,hs,s3]
  rfl
 ·simp only[World.frozen?,gV a.block ha]
 ·rw[hr]
  rw[<-hr]
  exact ok_one hr rfl (okWide_bool_mk hb _)
end
end Go.Am
