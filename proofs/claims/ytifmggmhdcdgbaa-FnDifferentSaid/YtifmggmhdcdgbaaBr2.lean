/- Br2: a law whose model is true at all data holds. No condition. -/
import Derived.Test.YtifmggmhdcdgbaaBr1
import Derived.WalkKit
import Derived.ProofKit
import Derived.OpenShut
set_option linter.unusedVariables false
namespace Go.Am
open Go.ChangeShapes Go.WideShapes Go.ChangeAt Go.RowKit
def zU:(as:au)->aV as.aU->Prop
 |[],_=>True
 |[a],x=>Ty.nv a.2 x
 |a::b::as,x=>Ty.nv a.2 x.1/\zU (b::as) x.2
theorem adJ (a:K×List Ty) (as:au) (x:Ty.DL a.2) (y:aV (au.aU as)):Ty.nv a.2 x->zU as y->zU (a::as) (HP a.2 (au.aU as) x y):=by
 intro h1 h2
 cases as with
 |nil=>exact h1
 |cons b as=>exact⟨h1,h2⟩
def Ms (P:Program) (t:TypeId) (a:K×List Ty):Bool:=
 match CD P 30 t with
 |some ts=>Ty.qP ts a.2&&(match P.underlying t,a.1 with
  |some (.struct _),.agg=>true
  |some (.int _),.one=>true
  |some .bool,.one=>true
  |some (.slice _),.one=>true
  |_,_=>false)
 |none=>false
def Ad (P:Program):List TypeId->au->Bool
 |[],[]=>true
 |t::ts,a::as=>Ms P t a&&Ad P ts as
 |_,_=>false
section
variable {H:Type} {enc:TypeId×Value->H} {P:Program} {w w':World} {sp:Nat->Bool} {held:Bool}
theorem ade {t:TypeId} {a:K×List Ty} {v:Value} {d:DataW H} {ps:List MemPlace} (hc:Ms P t a=true) (hv:Value.okWide P w .any 0 t v) (hd:DataW.Trod enc P w 0 sp held t v d ps):
  ∃x:Ty.DL a.2,zG w (a.1,Ty.aF a.2 x) v/\Ty.nv a.2 x:=by
 obtain⟨ia,hd⟩:=hd
 unfold Ms at hc
 split at hc
 ·rename_i ts OU
  simp only[Bool.and_eq_true] at hc
  obtain⟨h1,h2⟩:=hc
  have h1:=Ty.sa h1
  subst h1
  obtain⟨x,bu,e1,e2,e3,e4⟩:=UZ ia t v.cells.toList _ 30 a.2 hd OU
  refine⟨x,?_,e4⟩
  unfold Value.okWide at hv
  have one:(∀cs,v≠ .agg cs)->a.1=.one->zG w (a.1,Ty.aF a.2 x) v:=by
   intro hn ha
   have yC:v.cells.toList=[v]:=by cases v<;>first|rfl|(rename_i cs;exact absurd rfl (hn cs))
   rw[ha]
   exact⟨bu,e1,e3,by rw[e2,yC]⟩
  split at h2
  ·rename_i fs hu ha
   rw[hu] at hv
   obtain⟨cs,rfl,_,_⟩:=hv
   rw[ha]
   exact⟨bu,e1,e3,by rw[e2];rfl⟩
  ·rename_i k hu ha
   refine one (fun cs e=>?_) ha
   subst e
   rw[hu] at hv
   simp[Cell.okWide,hu,Cell.ok] at hv
  ·rename_i hu ha
   refine one (fun cs e=>?_) ha
   subst e
   rw[hu] at hv
   simp[Cell.okWide,hu,Cell.ok] at hv
  ·rename_i e hu ha
   refine one (fun cs e=>?_) ha
   subst e
   rw[hu] at hv
   simp[Cell.okWide,hu,Cell.ok] at hv
  ·cases h2
 ·cases hc
theorem VK:∀{ts:List TypeId} {as:au} {vs:List Value} {ds:List (DataW H)} {ps:List MemPlace},Ad P ts as=true->(∀(j:Nat) (t:TypeId) (v:Value),ts[j]? =some t->vs[j]? =some v->Value.okWide P w .any 0 t v)->
  DataW.TrodAll enc P w 0 sp held ts vs ds ps->∃x:aV (au.aU as),FN w (cU as x) vs/\zU as x
 |[],[],vs,ds,ps,hc,hv,h=>by
  obtain⟨rfl,rfl,rfl⟩:=trodAll_nil h
  exact⟨(),⟨rfl,by intro j d v hj;simp[cU] at hj⟩,trivial⟩
 |t::ts,a::as,vs,ds,ps,hc,hv,h=>by
  simp only[Ad,Bool.and_eq_true] at hc
  obtain⟨v,vs1,d,ds1,p,q,rfl,rfl,rfl,h1,h2⟩:=trodAll_cons h
  obtain⟨x,a1,a2⟩:=ade hc.1 (hv 0 t v rfl rfl) h1
  obtain⟨y,b1,b2⟩:=VK hc.2 (fun j t v h3 h4=>hv (j+1) t v (by simpa using h3) (by simpa using h4)) h2
  refine⟨HP a.2 (au.aU as) x y,?_,adJ a as x y a2 b2⟩
  rw[WJ]
  refine⟨by simp[b1.1],fun j d v hj fH=>?_⟩
  cases j with
  |zero=>simp at hj fH;subst hj;subst fH;exact a1
  |succ j=>exact b1.2 j d v (by simpa using hj) (by simpa using fH)
 |[],_::_,vs,ds,ps,hc,hv,h=>by simp[Ad] at hc
 |_::_,[],vs,ds,ps,hc,hv,h=>by simp[Ad] at hc
theorem acB (hw:∀b,b<w.heap.size->w'.heap[b]? =w.heap[b]?):∀{ts:List TypeId} {vs:List Value} {ds:List (DataW H)} {ps:List MemPlace},DataW.TrodAll enc P w 0 sp held ts vs ds ps->DataW.TrodAll enc P w' 0 sp held ts vs ds ps
 |[],[],[],_,h=>h
 |t::ts,v::vs,d::ds,_,⟨p,q,⟨n,h1⟩,h2,e⟩=>by
  refine⟨p,q,⟨n,DataW.trod_carry n t _ _ h1 fun pl fY=>?_⟩,acB hw h2,e⟩
  have bH:=DataW.trod_lt n t _ _ h1 pl fY
  cases pl with
  |cell b o=>
   have hb:=hw b bH
   simp only[World.sameAt,World.cell?,hb]
  |map b=>exact hw b bH
 |[],[],_::_,_,h=>h.elim
 |[],_::_,_,_,h=>h.elim
 |_::_,[],_,_,h=>h.elim
 |_::_,_::_,[],_,h=>h.elim
theorem aiY (h1:w'.os=w.os) (h2:w'.output=w.output) (hw:∀b,b<w.heap.size->w'.heap[b]? =w.heap[b]?) (may:MemPlace->Prop):w.keptBut w' may:=by
 have zZ:=World.keptBut_refl w may
 refine⟨h1,h2,fun i hi=>?_⟩
 rw[hw i hi]
 exact zZ.2.2 i hi
theorem amO {f:Func} {s:ChangeSpec} {apart NQ NX L6:Bool} {W W':World} {args:Array Value} {v:Value} {ds gs:List (DataW H)} {qO pa pv:List MemPlace}
  (hW:DataW.Whole enc P f.params.toList s.vars apart W args.toList ds gs qO)
  (yK:∀(b:Nat) (sp:Nat->Bool) (hd:Bool),DataW.TrodAll enc P W' b sp hd f.resultTypes.toList (v.resultList f.resultTypes.size) (s.fn H (ds++gs)).results [])
  (re:∀sp:Nat->Bool,(∀p∈qO,sp p.block=true)->DataW.TrodAll enc P W' 0 sp true f.params.toList args.toList (s.fn H (ds++gs)).args pa)
  (Ys:∀sp:Nat->Bool,(∀p∈qO,sp p.block=true)->DataW.TrodVars enc P W' sp s.vars (s.fn H (ds++gs)).vars pv)
  (fG:qO=pa++pv) (hk:W.keptBut W' (·∈qO)) (IF:∀a:Addr,a.block<W.heap.size->W'.frozen? a=W.frozen? a)
  (fF:∀(j:Nat) (t:TypeId) (r:Value),f.resultTypes[j]? =some t->(v.resultList f.resultTypes.size)[j]? =some r->Value.okWide P W' .any 0 t r):
  s.post enc P f apart NQ NX L6 W args v W':=by
 have hold:∀p∈qO,(fun b=>decide (b<W.heap.size)) p.block=true:=fun p hp=>by simpa using hW.lt p hp
 have bH:=hW.lt
 refine⟨ds,gs,qO,[],pa,pv,hW,yK _ _ _,re _ hold,Ys _ hold,World.keptBut_mono (fun p hp=>⟨hp,?_⟩) hk,fun _=>?_⟩
 ·rw[fG,List.mem_append] at hp
  exact Or.inr hp
 ·obtain⟨_,_,_,_,_,hz,hn⟩:=hW
  refine⟨fF,_,_,([]++pa)++pv,⟨[]++pa,pv,trodAll_append (re _ (fun _ _=>rfl)) (yK _ _ _),Ys _ (fun _ _=>rfl),rfl,?_,?_⟩,?_⟩
  ·intro b off hp
   have bd:MemPlace.cell b off∈qO:=by rw[fG];simpa using hp
   rw[IF ⟨b,off,none⟩ (bH _ bd)]
   exact hz b off bd
  ·intro ha
   have:=hn ha
   rw[fG] at this
   simpa using this
  ·intro p hp _
   rw[fG]
   simpa using hp
theorem anb {aR:List (K×List PC)} {b:Bool} (h:aR.map (fun p=>(p.1,p.2.map PC.er))=[(K.one,[C.bool b])]):xi aR=.bool b:=by
 match aR,h with
 |[],h=>simp at h
 |_::_::_,h=>simp at h
 |[(k,bu)],h=>
  simp only[List.map_cons,List.map_nil,List.cons.injEq,Prod.mk.injEq,and_true] at h
  obtain⟨rfl,h⟩:=h
  match bu,h with
  |[],h=>simp at h
  |_::_::_,h=>simp at h
  |[pc],h=>
   simp only[List.map_cons,List.map_nil,List.cons.injEq,and_true] at h
   cases pc with
   |bool b=>simp[PC.er] at h;subst h;rfl
   |int k n=>simp[PC.er] at h
   |list sz a cap xs=>rw[PC.dz] at h;cases h
theorem acC:∀{ts:List TypeId} {vs:List Value} {ds:List (DataW H)} {ps:List MemPlace},DataW.TrodAll enc P w 0 sp held ts vs ds ps->ds.length=ts.length
 |[],vs,ds,ps,h=>by obtain⟨rfl,rfl,rfl⟩:=trodAll_nil h;rfl
 |t::ts,vs,ds,ps,h=>by
  obtain⟨v,vs1,d,ds1,p,q,rfl,rfl,rfl,h1,h2⟩:=trodAll_cons h
  simp[acC h2]
def Xy (P:Program):Bool:=(List.range P.types.size).all fun t=>match P.underlying t with|some (.slice e)=>decide (0<P.cellsOf e)|_=>true
theorem ajT {f:FuncId} {fn:Func} {s:ChangeSpec} {sg:au} {M:List Dv->Option (List Dv)} {tb:TypeId} (hl:laidOutB P=true) (hmr:mapsRowed P=true)
  (hz:Xy P=true)
  (OU:∀t∈fn.params.toList,t<P.types.size)
  (hp:Ad P fn.params.toList sg=true) (hr:fn.resultTypes=#[tb]) (hb:P.underlying tb=some .bool) (hs:s.vars=[])
  (yM:∀ds:List (DataW H),ds.length=fn.params.toList.length->(s.fn H ds).results=[.lit (.bool true)]/\(s.fn H ds).args=ds/\(s.fn H ds).vars=[])
  (agr:dL P f M) (hM:∀x:aV (au.aU sg),zU sg x->M (cU sg x)=some [(.one,[.bool true])]) {apart NQ NX L6:Bool}
  {W:World} {zZ:Nat} {args:Array Value} {ds gs:List (DataW H)} {qO:List MemPlace}
  (Ea:∀(j:Nat) t v,fn.params[j]? =some t->args[j]? =some v->Value.okWide P W .any zZ t v) (hW:DataW.Whole enc P fn.params.toList s.vars apart W args.toList ds gs qO):
  Calls P f args W fun e W'=>∃v,e=.returned v/\s.post enc P fn apart NQ NX L6 W args v W':=by
 have hW':=hW
 obtain⟨p,q,hA,hV,rfl,IF,fW⟩:=hW
 rw[hs] at hV
 obtain⟨rfl,rfl⟩:=trodVars_none hV
 obtain⟨x,hx,wG⟩:=VK hp (fun j t v h1 h2=>Value.okWide_any_base<|Ea j t v (by rw[<-Array.getElem?_toList];exact h1) (by rw[<-Array.getElem?_toList];exact h2)) hA
 have XO:=agr _ _ (hM x wG) W args.toList hx
 have ul:args.toList.toArray=args:=by cases args;rfl
 rw[ul] at XO
 refine XO.mono fun e W' ⟨aR,p1,p2,p3,p4,p5⟩=>?_
 have hv:=anb p1
 have gM:∀b,b<W.heap.size->W'.heap[b]? =W.heap[b]? :=fun b hb=>p5.block b hb id
 have hlen:=acC hA
 obtain⟨s1,s2,s3⟩:=yM ds hlen
 refine⟨_,p2,?_⟩
 rw[hv]
 refine amO (pa:=p) (pv:=[]) hW' (fun _ _ _=>?_) (fun sp yM=>?_) (fun _ _=>?_) (by simp) (aiY p5.os p5.output gM _) (fun a ha=>?_) ?_
 ·rw[List.append_nil,s1,hr]
  exact trodAll_cons_mk (shut_bool hb _) trodAll_mk0
 ·rw[List.append_nil,s2]
  exact DataW.TrodAll.respare (kids_rows hl hmr) (slices_full_of P hz) OU (acB gM hA) (fun pl fY=>yM pl (by simpa using fY))
 ·rw[List.append_nil,hs,s3]
  rfl
 ·simp only[World.frozen?,gM a.block ha]
 ·rw[hr]
  rw[<-hr]
  exact ok_one hr rfl (okWide_bool_mk hb _)
end
end Go.Am
