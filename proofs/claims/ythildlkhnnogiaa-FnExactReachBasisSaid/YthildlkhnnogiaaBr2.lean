/- Br2: a law whose model is true at all data holds. No condition. -/
import Derived.Test.YthildlkhnnogiaaBr1
import Derived.WalkKit
import Derived.ProofKit
import Derived.OpenShut
set_option linter.unusedVariables false
namespace Go.Am
open Go.ChangeShapes Go.WideShapes Go.ChangeAt Go.RowKit
def A5:(as:aq)->aZ as.aY->Prop
 |[],_=>True
 |[a],x=>Ty.km a.2 x
 |a::b::as,x=>Ty.km a.2 x.1/\A5 (b::as) x.2
theorem acQ (a:K×List Ty) (as:aq) (x:Ty.DL a.2) (y:aZ (aq.aY as)):Ty.km a.2 x->A5 as y->A5 (a::as) (Io a.2 (aq.aY as) x y):=by
 intro h1 h2
 cases as with
 |nil=>exact h1
 |cons b as=>exact⟨h1,h2⟩
def Mn (P:Program) (t:TypeId) (a:K×List Ty):Bool:=
 match Dc P 30 t with
 |some ts=>Ty.rG ts a.2&&(match P.underlying t,a.1 with
  |some (.struct _),.agg=>true
  |some (.int _),.one=>true
  |some .bool,.one=>true
  |some (.slice _),.one=>true
  |_,_=>false)
 |none=>false
def Bj (P:Program):List TypeId->aq->Bool
 |[],[]=>true
 |t::ts,a::as=>Mn P t a&&Bj P ts as
 |_,_=>false
section
variable {H:Type} {enc:TypeId×Value->H} {P:Program} {w w':World} {sp:Nat->Bool} {held:Bool}
theorem acb {t:TypeId} {a:K×List Ty} {v:Value} {d:DataW H} {ps:List MemPlace} (hc:Mn P t a=true) (hv:Value.okWide P w .any 0 t v) (hd:DataW.Trod enc P w 0 sp held t v d ps):
  ∃x:Ty.DL a.2,Au w (a.1,Ty.aw a.2 x) v/\Ty.km a.2 x:=by
 obtain⟨eW,hd⟩:=hd
 unfold Mn at hc
 split at hc
 ·rename_i ts B4
  simp only[Bool.and_eq_true] at hc
  obtain⟨h1,h2⟩:=hc
  have h1:=Ty.rH h1
  subst h1
  obtain⟨x,bg,e1,e2,e3,e4⟩:=UD eW t v.cells.toList _ 30 a.2 hd B4
  refine⟨x,?_,e4⟩
  unfold Value.okWide at hv
  have one:(∀cs,v≠ .agg cs)->a.1=.one->Au w (a.1,Ty.aw a.2 x) v:=by
   intro hn ha
   have nf:v.cells.toList=[v]:=by cases v<;>first|rfl|(rename_i cs;exact absurd rfl (hn cs))
   rw[ha]
   exact⟨bg,e1,e3,by rw[e2,nf]⟩
  split at h2
  ·rename_i fs hu ha
   rw[hu] at hv
   obtain⟨cs,rfl,_,_⟩:=hv
   rw[ha]
   exact⟨bg,e1,e3,by rw[e2];rfl⟩
  ·rename_i k hu ha
   refine one (fun cs e=>?_) ha
   subst e
   rw[hu] at hv
   simp[Cell.okWide,hu,Cell.ok] at hv
  ·rename_i hu ha
   refine one (fun cs e=>?_) ha
   subst e
   rw[hu] at hv
   simp[Cell.okWide,hu,Cell.ok] at hv
  ·rename_i e hu ha
   refine one (fun cs e=>?_) ha
   subst e
   rw[hu] at hv
   simp[Cell.okWide,hu,Cell.ok] at hv
  ·cases h2
 ·cases hc
theorem Vo:∀{ts:List TypeId} {as:aq} {vs:List Value} {ds:List (DataW H)} {ps:List MemPlace},Bj P ts as=true->(∀(j:Nat) (t:TypeId) (v:Value),ts[j]? =some t->vs[j]? =some v->Value.okWide P w .any 0 t v)->
  DataW.TrodAll enc P w 0 sp held ts vs ds ps->∃x:aZ (aq.aY as),Dn w (cF as x) vs/\A5 as x
 |[],[],vs,ds,ps,hc,hv,h=>by
  obtain⟨rfl,rfl,rfl⟩:=trodAll_nil h
  exact⟨(),⟨rfl,by intro j d v hj;simp[cF] at hj⟩,trivial⟩
 |t::ts,a::as,vs,ds,ps,hc,hv,h=>by
  simp only[Bj,Bool.and_eq_true] at hc
  obtain⟨v,vs1,d,ds1,p,q,rfl,rfl,rfl,h1,h2⟩:=trodAll_cons h
  obtain⟨x,a1,a2⟩:=acb hc.1 (hv 0 t v rfl rfl) h1
  obtain⟨y,b1,b2⟩:=Vo hc.2 (fun j t v h3 h4=>hv (j+1) t v (by simpa using h3) (by simpa using h4)) h2
  refine⟨Io a.2 (aq.aY as) x y,?_,acQ a as x y a2 b2⟩
  rw[Wk]
  refine⟨by simp[b1.1],fun j d v hj eH=>?_⟩
  cases j with
  |zero=>simp at hj eH;subst hj;subst eH;exact a1
  |succ j=>exact b1.2 j d v (by simpa using hj) (by simpa using eH)
 |[],_::_,vs,ds,ps,hc,hv,h=>by simp[Bj] at hc
 |_::_,[],vs,ds,ps,hc,hv,h=>by simp[Bj] at hc
theorem abE (hw:∀b,b<w.heap.size->w'.heap[b]? =w.heap[b]?):∀{ts:List TypeId} {vs:List Value} {ds:List (DataW H)} {ps:List MemPlace},DataW.TrodAll enc P w 0 sp held ts vs ds ps->DataW.TrodAll enc P w' 0 sp held ts vs ds ps
 |[],[],[],_,h=>h
 |t::ts,v::vs,d::ds,_,⟨p,q,⟨n,h1⟩,h2,e⟩=>by
  refine⟨p,q,⟨n,DataW.trod_carry n t _ _ h1 fun pl dz=>?_⟩,abE hw h2,e⟩
  have bS:=DataW.trod_lt n t _ _ h1 pl dz
  cases pl with
  |cell b o=>
   have hb:=hw b bS
   simp only[World.sameAt,World.cell?,hb]
  |map b=>exact hw b bS
 |[],[],_::_,_,h=>h.elim
 |[],_::_,_,_,h=>h.elim
 |_::_,[],_,_,h=>h.elim
 |_::_,_::_,[],_,h=>h.elim
theorem ahH (h1:w'.os=w.os) (h2:w'.output=w.output) (hw:∀b,b<w.heap.size->w'.heap[b]? =w.heap[b]?) (Za:MemPlace->Prop):w.keptBut w' Za:=by
 have base:=World.keptBut_refl w Za
 refine⟨h1,h2,fun i hi=>?_⟩
 rw[hw i hi]
 exact base.2.2 i hi
theorem akP {f:Func} {s:ChangeSpec} {apart NX N3 LY:Bool} {W W':World} {args:Array Value} {v:Value} {ds gs:List (DataW H)} {rF pa pv:List MemPlace}
  (hW:DataW.Whole enc P f.params.toList s.vars apart W args.toList ds gs rF)
  (zA:∀(b:Nat) (sp:Nat->Bool) (hd:Bool),DataW.TrodAll enc P W' b sp hd f.resultTypes.toList (v.resultList f.resultTypes.size) (s.fn H (ds++gs)).results [])
  (pn:∀sp:Nat->Bool,(∀p∈rF,sp p.block=true)->DataW.TrodAll enc P W' 0 sp true f.params.toList args.toList (s.fn H (ds++gs)).args pa)
  (X7:∀sp:Nat->Bool,(∀p∈rF,sp p.block=true)->DataW.TrodVars enc P W' sp s.vars (s.fn H (ds++gs)).vars pv)
  (fc:rF=pa++pv) (hk:W.keptBut W' (·∈rF)) (I1:∀a:Addr,a.block<W.heap.size->W'.frozen? a=W.frozen? a)
  (eG:∀(j:Nat) (t:TypeId) (r:Value),f.resultTypes[j]? =some t->(v.resultList f.resultTypes.size)[j]? =some r->Value.okWide P W' .any 0 t r):
  s.post enc P f apart NX N3 LY W args v W':=by
 have hold:∀p∈rF,(fun b=>decide (b<W.heap.size)) p.block=true:=fun p hp=>by simpa using hW.lt p hp
 have bS:=hW.lt
 refine⟨ds,gs,rF,[],pa,pv,hW,zA _ _ _,pn _ hold,X7 _ hold,World.keptBut_mono (fun p hp=>⟨hp,?_⟩) hk,fun _=>?_⟩
 ·rw[fc,List.mem_append] at hp
  exact Or.inr hp
 ·obtain⟨_,_,_,_,_,hz,hn⟩:=hW
  refine⟨eG,_,_,([]++pa)++pv,⟨[]++pa,pv,trodAll_append (pn _ (fun _ _=>rfl)) (zA _ _ _),X7 _ (fun _ _=>rfl),rfl,?_,?_⟩,?_⟩
  ·intro b off hp
   have be:MemPlace.cell b off∈rF:=by rw[fc];simpa using hp
   rw[I1 ⟨b,off,none⟩ (bS _ be)]
   exact hz b off be
  ·intro ha
   have:=hn ha
   rw[fc] at this
   simpa using this
  ·intro p hp _
   rw[fc]
   simpa using hp
theorem ak9 {aU:List (K×List PC)} {b:Bool} (h:aU.map (fun p=>(p.1,p.2.map PC.er))=[(K.one,[C.bool b])]):v5 aU=.bool b:=by
 match aU,h with
 |[],h=>simp at h
 |_::_::_,h=>simp at h
 |[(k,bg)],h=>
  simp only[List.map_cons,List.map_nil,List.cons.injEq,Prod.mk.injEq,and_true] at h
  obtain⟨rfl,h⟩:=h
  match bg,h with
  |[],h=>simp at h
  |_::_::_,h=>simp at h
  |[pc],h=>
   simp only[List.map_cons,List.map_nil,List.cons.injEq,and_true] at h
   cases pc with
   |bool b=>simp[PC.er] at h;subst h;rfl
   |int k n=>simp[PC.er] at h
   |list sz a cap xs=>rw[PC.cN] at h;cases h
theorem abF:∀{ts:List TypeId} {vs:List Value} {ds:List (DataW H)} {ps:List MemPlace},DataW.TrodAll enc P w 0 sp held ts vs ds ps->ds.length=ts.length
 |[],vs,ds,ps,h=>by obtain⟨rfl,rfl,rfl⟩:=trodAll_nil h;rfl
 |t::ts,vs,ds,ps,h=>by
  obtain⟨v,vs1,d,ds1,p,q,rfl,rfl,rfl,h1,h2⟩:=trodAll_cons h
  simp[abF h2]
def Xf (P:Program):Bool:=(List.range P.types.size).all fun t=>match P.underlying t with|some (.slice e)=>decide (0<P.cellsOf e)|_=>true
theorem ahP {f:FuncId} {fn:Func} {s:ChangeSpec} {sg:aq} {M:List Dv->Option (List Dv)} {tb:TypeId} (hl:laidOutB P=true) (hmr:mapsRowed P=true)
  (hz:Xf P=true)
  (B4:∀t∈fn.params.toList,t<P.types.size)
  (hp:Bj P fn.params.toList sg=true) (hr:fn.resultTypes=#[tb]) (hb:P.underlying tb=some .bool) (hs:s.vars=[])
  (zC:∀ds:List (DataW H),ds.length=fn.params.toList.length->(s.fn H ds).results=[.lit (.bool true)]/\(s.fn H ds).args=ds/\(s.fn H ds).vars=[])
  (af9:de P f M) (hM:∀x:aZ (aq.aY sg),A5 sg x->M (cF sg x)=some [(.one,[.bool true])]) {apart NX N3 LY:Bool}
  {W:World} {base:Nat} {args:Array Value} {ds gs:List (DataW H)} {rF:List MemPlace}
  (zE:∀(j:Nat) t v,fn.params[j]? =some t->args[j]? =some v->Value.okWide P W .any base t v) (hW:DataW.Whole enc P fn.params.toList s.vars apart W args.toList ds gs rF):
  Calls P f args W fun e W'=>∃v,e=.returned v/\s.post enc P fn apart NX N3 LY W args v W':=by
 have hW':=hW
 obtain⟨p,q,hA,hV,rfl,I1,d7⟩:=hW
 rw[hs] at hV
 obtain⟨rfl,rfl⟩:=trodVars_none hV
 obtain⟨x,hx,tC⟩:=Vo hp (fun j t v h1 h2=>Value.okWide_any_base<|zE j t v (by rw[<-Array.getElem?_toList];exact h1) (by rw[<-Array.getElem?_toList];exact h2)) hA
 have Xw:=af9 _ _ (hM x tC) W args.toList hx
 have uZ:args.toList.toArray=args:=by cases args;rfl
 rw[uZ] at Xw
 refine Xw.mono fun e W' ⟨aU,p1,p2,p3,p4,p5⟩=>?_
 have hv:=ak9 p1
 have fP:∀b,b<W.heap.size->W'.heap[b]? =W.heap[b]? :=fun b hb=>p5.block b hb id
 have hlen:=abF hA
 obtain⟨s1,s2,s3⟩:=zC ds hlen
 refine⟨_,p2,?_⟩
 rw[hv]
 refine akP (pa:=p) (pv:=[]) hW' (fun _ _ _=>?_) (fun sp zC=>?_) (fun _ _=>?_) (by simp) (ahH p5.os p5.output fP _) (fun a ha=>?_) ?_
 ·rw[List.append_nil,s1,hr]
  exact trodAll_cons_mk (shut_bool hb _) trodAll_mk0
 ·rw[List.append_nil,s2]
  exact DataW.TrodAll.respare (kids_rows hl hmr) (slices_full_of P hz) B4 (abE fP hA) (fun pl dz=>zC pl (by simpa using dz))
 ·rw[List.append_nil,hs,s3]
  rfl
 ·simp only[World.frozen?,fP a.block ha]
 ·rw[hr]
  rw[<-hr]
  exact ok_one hr rfl (okWide_bool_mk hb _)
end
end Go.Am
