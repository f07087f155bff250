/- Br2: a law whose model is true at all data holds. No condition. -/
import Derived.Test.YtbgmbplglejidaaBr1
import Derived.WalkKit
import Derived.ProofKit
import Derived.OpenShut
set_option linter.unusedVariables false
namespace Go.Am
open Go.ChangeShapes Go.WideShapes Go.ChangeAt Go.RowKit
def Bq:(as:ao)->aV as.aU->Prop
 |[],_=>True
 |[a],x=>Ty.oH a.2 x
 |a::b::as,x=>Ty.oH a.2 x.1/\Bq (b::as) x.2
theorem af6 (a:K×List Ty) (as:ao) (x:Ty.DL a.2) (y:aV (ao.aU as)):Ty.oH a.2 x->Bq as y->Bq (a::as) (Jj a.2 (ao.aU as) x y):=by
 intro h1 h2
 cases as with
 |nil=>exact h1
 |cons b as=>exact⟨h1,h2⟩
def ND (P:Program) (t:TypeId) (a:K×List Ty):Bool:=
 match DJ P 30 t with
 |some ts=>Ty.rQ ts a.2&&(match P.underlying t,a.1 with
  |some (.struct _),.agg=>true
  |some (.int _),.one=>true
  |some .bool,.one=>true
  |some (.slice _),.one=>true
  |_,_=>false)
 |none=>false
def BF (P:Program):List TypeId->ao->Bool
 |[],[]=>true
 |t::ts,a::as=>ND P t a&&BF P ts as
 |_,_=>false
section
variable {H:Type} {enc:TypeId×Value->H} {P:Program} {w w':World} {sp:Nat->Bool} {held:Bool}
theorem afl {t:TypeId} {a:K×List Ty} {v:Value} {d:DataW H} {ps:List MemPlace} (hc:ND P t a=true) (hv:Value.okWide P w .any 0 t v) (hd:DataW.Trod enc P w 0 sp held t v d ps):
  ∃x:Ty.DL a.2,AM w (a.1,Ty.aI a.2 x) v/\Ty.oH a.2 x:=by
 obtain⟨iM,hd⟩:=hd
 unfold ND at hc
 split at hc
 ·rename_i ts Cp
  simp only[Bool.and_eq_true] at hc
  obtain⟨h1,h2⟩:=hc
  have h1:=Ty.s6 h1
  subst h1
  obtain⟨x,bx,e1,e2,e3,e4⟩:=Xa iM t v.cells.toList _ 30 a.2 hd Cp
  refine⟨x,?_,e4⟩
  unfold Value.okWide at hv
  have one:(∀cs,v≠ .agg cs)->a.1=.one->AM w (a.1,Ty.aI a.2 x) v:=by
   intro hn ha
   have y7:v.cells.toList=[v]:=by cases v<;>first|rfl|(rename_i cs;exact absurd rfl (hn cs))
   rw[ha]
   exact⟨bx,e1,e3,by rw[e2,y7]⟩
  split at h2
  ·rename_i fs hu ha
   rw[hu] at hv
   obtain⟨cs,rfl,_,_⟩:=hv
   rw[ha]
   exact⟨bx,e1,e3,by rw[e2];rfl⟩
  ·rename_i k hu ha
   refine one (fun cs e=>?_) ha
   subst e
   rw[hu] at hv
   simp[Cell.okWide,hu,Cell.ok] at hv
  ·rename_i hu ha
   refine one (fun cs e=>?_) ha
   subst e
   rw[hu] at hv
   simp[Cell.okWide,hu,Cell.ok] at hv
  ·rename_i e hu ha
   refine one (fun cs e=>?_) ha
   subst e
   rw[hu] at hv
   simp[Cell.okWide,hu,Cell.ok] at hv
  ·cases h2
 ·cases hc
theorem X6:∀{ts:List TypeId} {as:ao} {vs:List Value} {ds:List (DataW H)} {ps:List MemPlace},BF P ts as=true->(∀(j:Nat) (t:TypeId) (v:Value),ts[j]? =some t->vs[j]? =some v->Value.okWide P w .any 0 t v)->
  DataW.TrodAll enc P w 0 sp held ts vs ds ps->∃x:aV (ao.aU as),GX w (dg as x) vs/\Bq as x
 |[],[],vs,ds,ps,hc,hv,h=>by
  obtain⟨rfl,rfl,rfl⟩:=trodAll_nil h
  exact⟨(),⟨rfl,by intro j d v hj;simp[dg] at hj⟩,trivial⟩
 |t::ts,a::as,vs,ds,ps,hc,hv,h=>by
  simp only[BF,Bool.and_eq_true] at hc
  obtain⟨v,vs1,d,ds1,p,q,rfl,rfl,rfl,h1,h2⟩:=trodAll_cons h
  obtain⟨x,a1,a2⟩:=afl hc.1 (hv 0 t v rfl rfl) h1
  obtain⟨y,b1,b2⟩:=X6 hc.2 (fun j t v h3 h4=>hv (j+1) t v (by simpa using h3) (by simpa using h4)) h2
  refine⟨Jj a.2 (ao.aU as) x y,?_,af6 a as x y a2 b2⟩
  rw[Zi]
  refine⟨by simp[b1.1],fun j d v hj eS=>?_⟩
  cases j with
  |zero=>simp at hj eS;subst hj;subst eS;exact a1
  |succ j=>exact b1.2 j d v (by simpa using hj) (by simpa using eS)
 |[],_::_,vs,ds,ps,hc,hv,h=>by simp[BF] at hc
 |_::_,[],vs,ds,ps,hc,hv,h=>by simp[BF] at hc
theorem aeB (hw:∀b,b<w.heap.size->w'.heap[b]? =w.heap[b]?):∀{ts:List TypeId} {vs:List Value} {ds:List (DataW H)} {ps:List MemPlace},DataW.TrodAll enc P w 0 sp held ts vs ds ps->DataW.TrodAll enc P w' 0 sp held ts vs ds ps
 |[],[],[],_,h=>h
 |t::ts,v::vs,d::ds,_,⟨p,q,⟨n,h1⟩,h2,e⟩=>by
  refine⟨p,q,⟨n,DataW.trod_carry n t _ _ h1 fun pl fY=>?_⟩,aeB hw h2,e⟩
  have bK:=DataW.trod_lt n t _ _ h1 pl fY
  cases pl with
  |cell b o=>
   have hb:=hw b bK
   simp only[World.sameAt,World.cell?,hb]
  |map b=>exact hw b bK
 |[],[],_::_,_,h=>h.elim
 |[],_::_,_,_,h=>h.elim
 |_::_,[],_,_,h=>h.elim
 |_::_,_::_,[],_,h=>h.elim
theorem amc (h1:w'.os=w.os) (h2:w'.output=w.output) (hw:∀b,b<w.heap.size->w'.heap[b]? =w.heap[b]?) (may:MemPlace->Prop):w.keptBut w' may:=by
 have Bu:=World.keptBut_refl w may
 refine⟨h1,h2,fun i hi=>?_⟩
 rw[hw i hi]
 exact Bu.2.2 i hi
theorem aqm {f:Func} {s:ChangeSpec} {apart O7 Pk M7:Bool} {W W':World} {args:Array Value} {v:Value} {ds gs:List (DataW H)} {rP pa pv:List MemPlace}
  (hW:DataW.Whole enc P f.params.toList s.vars apart W args.toList ds gs rP)
  (zo:∀(b:Nat) (sp:Nat->Bool) (hd:Bool),DataW.TrodAll enc P W' b sp hd f.resultTypes.toList (v.resultList f.resultTypes.size) (s.fn H (ds++gs)).results [])
  (r9:∀sp:Nat->Bool,(∀p∈rP,sp p.block=true)->DataW.TrodAll enc P W' 0 sp true f.params.toList args.toList (s.fn H (ds++gs)).args pa)
  (aaI:∀sp:Nat->Bool,(∀p∈rP,sp p.block=true)->DataW.TrodVars enc P W' sp s.vars (s.fn H (ds++gs)).vars pv)
  (gh:rP=pa++pv) (hk:W.keptBut W' (·∈rP)) (J6:∀a:Addr,a.block<W.heap.size->W'.frozen? a=W.frozen? a)
  (fH:∀(j:Nat) (t:TypeId) (r:Value),f.resultTypes[j]? =some t->(v.resultList f.resultTypes.size)[j]? =some r->Value.okWide P W' .any 0 t r):
  s.post enc P f apart O7 Pk M7 W args v W':=by
 have hold:∀p∈rP,(fun b=>decide (b<W.heap.size)) p.block=true:=fun p hp=>by simpa using hW.lt p hp
 have bK:=hW.lt
 refine⟨ds,gs,rP,[],pa,pv,hW,zo _ _ _,r9 _ hold,aaI _ hold,World.keptBut_mono (fun p hp=>⟨hp,?_⟩) hk,fun _=>?_⟩
 ·rw[gh,List.mem_append] at hp
  exact Or.inr hp
 ·obtain⟨_,_,_,_,_,hz,hn⟩:=hW
  refine⟨fH,_,_,([]++pa)++pv,⟨[]++pa,pv,trodAll_append (r9 _ (fun _ _=>rfl)) (zo _ _ _),aaI _ (fun _ _=>rfl),rfl,?_,?_⟩,?_⟩
  ·intro b off hp
   have bg:MemPlace.cell b off∈rP:=by rw[gh];simpa using hp
   rw[J6 ⟨b,off,none⟩ (bK _ bg)]
   exact hz b off bg
  ·intro ha
   have:=hn ha
   rw[gh] at this
   simpa using this
  ·intro p hp _
   rw[gh]
   simpa using hp
theorem aqV {aY:List (K×List PC)} {b:Bool} (h:aY.map (fun p=>(p.1,p.2.map PC.er))=[(K.one,[C.bool b])]):xM aY=.bool b:=by
 match aY,h with
 |[],h=>simp at h
 |_::_::_,h=>simp at h
 |[(k,bx)],h=>
  simp only[List.map_cons,List.map_nil,List.cons.injEq,Prod.mk.injEq,and_true] at h
  obtain⟨rfl,h⟩:=h
  match bx,h with
  |[],h=>simp at h
  |_::_::_,h=>simp at h
  |[pc],h=>
   simp only[List.map_cons,List.map_nil,List.cons.injEq,and_true] at h
   cases pc with
   |bool b=>simp[PC.er] at h;subst h;rfl
   |int k n=>simp[PC.er] at h
   |list sz a cap xs=>rw[PC.dR] at h;cases h
theorem aeC:∀{ts:List TypeId} {vs:List Value} {ds:List (DataW H)} {ps:List MemPlace},DataW.TrodAll enc P w 0 sp held ts vs ds ps->ds.length=ts.length
 |[],vs,ds,ps,h=>by obtain⟨rfl,rfl,rfl⟩:=trodAll_nil h;rfl
 |t::ts,vs,ds,ps,h=>by
  obtain⟨v,vs1,d,ds1,p,q,rfl,rfl,rfl,h1,h2⟩:=trodAll_cons h
  simp[aeC h2]
def Z7 (P:Program):Bool:=(List.range P.types.size).all fun t=>match P.underlying t with|some (.slice e)=>decide (0<P.cellsOf e)|_=>true
theorem amE {f:FuncId} {fn:Func} {s:ChangeSpec} {sg:ao} {M:List Dv->Option (List Dv)} {tb:TypeId} (hl:laidOutB P=true) (hmr:mapsRowed P=true)
  (hz:Z7 P=true)
  (Cp:∀t∈fn.params.toList,t<P.types.size)
  (hp:BF P fn.params.toList sg=true) (hr:fn.resultTypes=#[tb]) (hb:P.underlying tb=some .bool) (hs:s.vars=[])
  (zr:∀ds:List (DataW H),ds.length=fn.params.toList.length->(s.fn H ds).results=[.lit (.bool true)]/\(s.fn H ds).args=ds/\(s.fn H ds).vars=[])
  (ajm:dj P f M) (hM:∀x:aV (ao.aU sg),Bq sg x->M (dg sg x)=some [(.one,[.bool true])]) {apart O7 Pk M7:Bool}
  {W:World} {Bu:Nat} {args:Array Value} {ds gs:List (DataW H)} {rP:List MemPlace}
  (Fu:∀(j:Nat) t v,fn.params[j]? =some t->args[j]? =some v->Value.okWide P W .any Bu t v) (hW:DataW.Whole enc P fn.params.toList s.vars apart W args.toList ds gs rP):
  Calls P f args W fun e W'=>∃v,e=.returned v/\s.post enc P fn apart O7 Pk M7 W args v W':=by
 have hW':=hW
 obtain⟨p,q,hA,hV,rfl,J6,gH⟩:=hW
 rw[hs] at hV
 obtain⟨rfl,rfl⟩:=trodVars_none hV
 obtain⟨x,hx,xc⟩:=X6 hp (fun j t v h1 h2=>Value.okWide_any_base<|Fu j t v (by rw[<-Array.getElem?_toList];exact h1) (by rw[<-Array.getElem?_toList];exact h2)) hA
 have aal:=ajm _ _ (hM x xc) W args.toList hx
 have uS:args.toList.toArray=args:=by cases args;rfl
 rw[uS] at aal
 refine aal.mono fun e W' ⟨aY,p1,p2,p3,p4,p5⟩=>?_
 have hv:=aqV p1
 have iv:∀b,b<W.heap.size->W'.heap[b]? =W.heap[b]? :=fun b hb=>p5.block b hb id
 have hlen:=aeC hA
 obtain⟨s1,s2,s3⟩:=zr ds hlen
 refine⟨_,p2,?_⟩
 rw[hv]
 refine aqm (pa:=p) (pv:=[]) hW' (fun _ _ _=>?_) (fun sp zr=>?_) (fun _ _=>?_) (by simp) (amc p5.os p5.output iv _) (fun a ha=>?_) ?_
 ·rw[List.append_nil,s1,hr]
  exact trodAll_cons_mk (shut_bool hb _) trodAll_mk0
 ·rw[List.append_nil,s2]
  exact DataW.TrodAll.respare (kids_rows hl hmr) (slices_full_of P hz) Cp (aeB iv hA) (fun pl fY=>zr pl (by simpa using fY))
 ·rw[List.append_nil,hs,s3]
  rfl
 ·simp only[World.frozen?,iv a.block ha]
 ·rw[hr]
  rw[<-hr]
  exact ok_one hr rfl (okWide_bool_mk hb _)
end
end Go.Am
