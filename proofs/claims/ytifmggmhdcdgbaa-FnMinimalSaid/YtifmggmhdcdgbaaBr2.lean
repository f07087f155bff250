/- Br2: a law whose model is true at all data holds. No condition. -/
import Derived.Test.YtifmggmhdcdgbaaBr1
import Derived.WalkKit
import Derived.ProofKit
import Derived.OpenShut
set_option linter.unusedVariables false
namespace Go.Am
open Go.ChangeShapes Go.WideShapes Go.ChangeAt Go.RowKit
def y8:(as:av)->be as.aZ->Prop
 |[],_=>True
 |[a],x=>Ty.m8 a.2 x
 |a::b::as,x=>Ty.m8 a.2 x.1/\y8 (b::as) x.2
theorem aa3 (a:K×List Ty) (as:av) (x:Ty.DL a.2) (y:be (av.aZ as)):Ty.m8 a.2 x->y8 as y->y8 (a::as) (F9 a.2 (av.aZ as) x y):=by
 intro h1 h2
 cases as with
 |nil=>exact h1
 |cons b as=>exact⟨h1,h2⟩
def Kg (P:Program) (t:TypeId) (a:K×List Ty):Bool:=
 match Bx P 30 t with
 |some ts=>Ty.qk ts a.2&&(match P.underlying t,a.1 with
  |some (.struct _),.agg=>true
  |some (.int _),.one=>true
  |some .bool,.one=>true
  |some (.slice _),.one=>true
  |_,_=>false)
 |none=>false
def zm (P:Program):List TypeId->av->Bool
 |[],[]=>true
 |t::ts,a::as=>Kg P t a&&zm P ts as
 |_,_=>false
section
variable {H:Type} {enc:TypeId×Value->H} {P:Program} {w w':World} {sp:Nat->Bool} {held:Bool}
theorem aau {t:TypeId} {a:K×List Ty} {v:Value} {d:DataW H} {ps:List MemPlace} (hc:Kg P t a=true) (hv:Value.okWide P w .any 0 t v) (hd:DataW.Trod enc P w 0 sp held t v d ps):
  ∃x:Ty.DL a.2,yR w (a.1,Ty.aD a.2 x) v/\Ty.m8 a.2 x:=by
 obtain⟨gX,hd⟩:=hd
 unfold Kg at hc
 split at hc
 ·rename_i ts Mo
  simp only[Bool.and_eq_true] at hc
  obtain⟨h1,h2⟩:=hc
  have h1:=Ty.rz h1
  subst h1
  obtain⟨x,bu,e1,e2,e3,e4⟩:=Sh gX t v.cells.toList _ 30 a.2 hd Mo
  refine⟨x,?_,e4⟩
  unfold Value.okWide at hv
  have one:(∀cs,v≠ .agg cs)->a.1=.one->yR w (a.1,Ty.aD a.2 x) v:=by
   intro hn ha
   have xv:v.cells.toList=[v]:=by cases v<;>first|rfl|(rename_i cs;exact absurd rfl (hn cs))
   rw[ha]
   exact⟨bu,e1,e3,by rw[e2,xv]⟩
  split at h2
  ·rename_i fs hu ha
   rw[hu] at hv
   obtain⟨cs,rfl,_,_⟩:=hv
   rw[ha]
   exact⟨bu,e1,e3,by rw[e2];rfl⟩
  ·rename_i k hu ha
   refine one (fun cs e=>?_) ha
   subst e
   rw[hu] at hv
   simp[Cell.okWide,hu,Cell.ok] at hv
  ·rename_i hu ha
   refine one (fun cs e=>?_) ha
   subst e
   rw[hu] at hv
   simp[Cell.okWide,hu,Cell.ok] at hv
  ·rename_i e hu ha
   refine one (fun cs e=>?_) ha
   subst e
   rw[hu] at hv
   simp[Cell.okWide,hu,Cell.ok] at hv
  ·cases h2
 ·cases hc
theorem Tg:∀{ts:List TypeId} {as:av} {vs:List Value} {ds:List (DataW H)} {ps:List MemPlace},zm P ts as=true->(∀(j:Nat) (t:TypeId) (v:Value),ts[j]? =some t->vs[j]? =some v->Value.okWide P w .any 0 t v)->
  DataW.TrodAll enc P w 0 sp held ts vs ds ps->∃x:be (av.aZ as),Eu w (cQ as x) vs/\y8 as x
 |[],[],vs,ds,ps,hc,hv,h=>by
  obtain⟨rfl,rfl,rfl⟩:=trodAll_nil h
  exact⟨(),⟨rfl,by intro j d v hj;simp[cQ] at hj⟩,trivial⟩
 |t::ts,a::as,vs,ds,ps,hc,hv,h=>by
  simp only[zm,Bool.and_eq_true] at hc
  obtain⟨v,vs1,d,ds1,p,q,rfl,rfl,rfl,h1,h2⟩:=trodAll_cons h
  obtain⟨x,a1,a2⟩:=aau hc.1 (hv 0 t v rfl rfl) h1
  obtain⟨y,b1,b2⟩:=Tg hc.2 (fun j t v h3 h4=>hv (j+1) t v (by simpa using h3) (by simpa using h4)) h2
  refine⟨F9 a.2 (av.aZ as) x y,?_,aa3 a as x y a2 b2⟩
  rw[Ud]
  refine⟨by simp[b1.1],fun j d v hj fw=>?_⟩
  cases j with
  |zero=>simp at hj fw;subst hj;subst fw;exact a1
  |succ j=>exact b1.2 j d v (by simpa using hj) (by simpa using fw)
 |[],_::_,vs,ds,ps,hc,hv,h=>by simp[zm] at hc
 |_::_,[],vs,ds,ps,hc,hv,h=>by simp[zm] at hc
theorem ZM (hw:∀b,b<w.heap.size->w'.heap[b]? =w.heap[b]?):∀{ts:List TypeId} {vs:List Value} {ds:List (DataW H)} {ps:List MemPlace},DataW.TrodAll enc P w 0 sp held ts vs ds ps->DataW.TrodAll enc P w' 0 sp held ts vs ds ps
 |[],[],[],_,h=>h
 |t::ts,v::vs,d::ds,_,⟨p,q,⟨n,h1⟩,h2,e⟩=>by
  refine⟨p,q,⟨n,DataW.trod_carry n t _ _ h1 fun pl fM=>?_⟩,ZM hw h2,e⟩
  have bL:=DataW.trod_lt n t _ _ h1 pl fM
  cases pl with
  |cell b o=>
   have hb:=hw b bL
   simp only[World.sameAt,World.cell?,hb]
  |map b=>exact hw b bL
 |[],[],_::_,_,h=>h.elim
 |[],_::_,_,_,h=>h.elim
 |_::_,[],_,_,h=>h.elim
 |_::_,_::_,[],_,h=>h.elim
theorem afH (h1:w'.os=w.os) (h2:w'.output=w.output) (hw:∀b,b<w.heap.size->w'.heap[b]? =w.heap[b]?) (XI:MemPlace->Prop):w.keptBut w' XI:=by
 have zd:=World.keptBut_refl w XI
 refine⟨h1,h2,fun i hi=>?_⟩
 rw[hw i hi]
 exact zd.2.2 i hi
theorem aiQ {f:Func} {s:ChangeSpec} {apart Li Ls JQ:Bool} {W W':World} {args:Array Value} {v:Value} {ds gs:List (DataW H)} {qj pa pv:List MemPlace}
  (hW:DataW.Whole enc P f.params.toList s.vars apart W args.toList ds gs qj)
  (xI:∀(b:Nat) (sp:Nat->Bool) (hd:Bool),DataW.TrodAll enc P W' b sp hd f.resultTypes.toList (v.resultList f.resultTypes.size) (s.fn H (ds++gs)).results [])
  (qA:∀sp:Nat->Bool,(∀p∈qj,sp p.block=true)->DataW.TrodAll enc P W' 0 sp true f.params.toList args.toList (s.fn H (ds++gs)).args pa)
  (VW:∀sp:Nat->Bool,(∀p∈qj,sp p.block=true)->DataW.TrodVars enc P W' sp s.vars (s.fn H (ds++gs)).vars pv)
  (fv:qj=pa++pv) (hk:W.keptBut W' (·∈qj)) (GW:∀a:Addr,a.block<W.heap.size->W'.frozen? a=W.frozen? a)
  (eF:∀(j:Nat) (t:TypeId) (r:Value),f.resultTypes[j]? =some t->(v.resultList f.resultTypes.size)[j]? =some r->Value.okWide P W' .any 0 t r):
  s.post enc P f apart Li Ls JQ W args v W':=by
 have hold:∀p∈qj,(fun b=>decide (b<W.heap.size)) p.block=true:=fun p hp=>by simpa using hW.lt p hp
 have bL:=hW.lt
 refine⟨ds,gs,qj,[],pa,pv,hW,xI _ _ _,qA _ hold,VW _ hold,World.keptBut_mono (fun p hp=>⟨hp,?_⟩) hk,fun _=>?_⟩
 ·rw[fv,List.mem_append] at hp
  exact Or.inr hp
 ·obtain⟨_,_,_,_,_,hz,hn⟩:=hW
  refine⟨eF,_,_,([]++pa)++pv,⟨[]++pa,pv,trodAll_append (qA _ (fun _ _=>rfl)) (xI _ _ _),VW _ (fun _ _=>rfl),rfl,?_,?_⟩,?_⟩
  ·intro b off hp
   have aX:MemPlace.cell b off∈qj:=by rw[fv];simpa using hp
   rw[GW ⟨b,off,none⟩ (bL _ aX)]
   exact hz b off aX
  ·intro ha
   have:=hn ha
   rw[fv] at this
   simpa using this
  ·intro p hp _
   rw[fv]
   simpa using hp
theorem ajj {aO:List (K×List PC)} {b:Bool} (h:aO.map (fun p=>(p.1,p.2.map PC.er))=[(K.one,[C.bool b])]):vZ aO=.bool b:=by
 match aO,h with
 |[],h=>simp at h
 |_::_::_,h=>simp at h
 |[(k,bu)],h=>
  simp only[List.map_cons,List.map_nil,List.cons.injEq,Prod.mk.injEq,and_true] at h
  obtain⟨rfl,h⟩:=h
  match bu,h with
  |[],h=>simp at h
  |_::_::_,h=>simp at h
  |[pc],h=>
   simp only[List.map_cons,List.map_nil,List.cons.injEq,and_true] at h
   cases pc with
   |bool b=>simp[PC.er] at h;subst h;rfl
   |int k n=>simp[PC.er] at h
   |list sz a cap xs=>rw[PC.dr] at h;cases h
theorem ZN:∀{ts:List TypeId} {vs:List Value} {ds:List (DataW H)} {ps:List MemPlace},DataW.TrodAll enc P w 0 sp held ts vs ds ps->ds.length=ts.length
 |[],vs,ds,ps,h=>by obtain⟨rfl,rfl,rfl⟩:=trodAll_nil h;rfl
 |t::ts,vs,ds,ps,h=>by
  obtain⟨v,vs1,d,ds1,p,q,rfl,rfl,rfl,h1,h2⟩:=trodAll_cons h
  simp[ZN h2]
def U1 (P:Program):Bool:=(List.range P.types.size).all fun t=>match P.underlying t with|some (.slice e)=>decide (0<P.cellsOf e)|_=>true
theorem agr {f:FuncId} {fn:Func} {s:ChangeSpec} {sg:av} {M:List Dv->Option (List Dv)} {tb:TypeId} (hl:laidOutB P=true) (hmr:mapsRowed P=true)
  (hz:U1 P=true)
  (Mo:∀t∈fn.params.toList,t<P.types.size)
  (hp:zm P fn.params.toList sg=true) (hr:fn.resultTypes=#[tb]) (hb:P.underlying tb=some .bool) (hs:s.vars=[])
  (tG:∀ds:List (DataW H),ds.length=fn.params.toList.length->(s.fn H ds).results=[.lit (.bool true)]/\(s.fn H ds).args=ds/\(s.fn H ds).vars=[])
  (adC:ff P f M) (hM:∀x:be (av.aZ sg),y8 sg x->M (cQ sg x)=some [(.one,[.bool true])]) {apart Li Ls JQ:Bool}
  {W:World} {zd:Nat} {args:Array Value} {ds gs:List (DataW H)} {qj:List MemPlace}
  (C1:∀(j:Nat) t v,fn.params[j]? =some t->args[j]? =some v->Value.okWide P W .any zd t v) (hW:DataW.Whole enc P fn.params.toList s.vars apart W args.toList ds gs qj):
  Calls P f args W fun e W'=>∃v,e=.returned v/\s.post enc P fn apart Li Ls JQ W args v W':=by
 have hW':=hW
 obtain⟨p,q,hA,hV,rfl,GW,fL⟩:=hW
 rw[hs] at hV
 obtain⟨rfl,rfl⟩:=trodVars_none hV
 obtain⟨x,hx,vm⟩:=Tg hp (fun j t v h1 h2=>Value.okWide_any_base<|C1 j t v (by rw[<-Array.getElem?_toList];exact h1) (by rw[<-Array.getElem?_toList];exact h2)) hA
 have Vm:=adC _ _ (hM x vm) W args.toList hx
 have ti:args.toList.toArray=args:=by cases args;rfl
 rw[ti] at Vm
 refine Vm.mono fun e W' ⟨aO,p1,p2,p3,p4,p5⟩=>?_
 have hv:=ajj p1
 have gB:∀b,b<W.heap.size->W'.heap[b]? =W.heap[b]? :=fun b hb=>p5.block b hb id
 have hlen:=ZN hA
 obtain⟨s1,s2,s3⟩:=tG ds hlen
 refine⟨_,p2,?_⟩
 rw[hv]
 refine aiQ (pa:=p) (pv:=[]) hW' (fun _ _ _=>?_) (fun sp tG=>?_) (fun _ _=>?_) (by simp) (afH p5.os p5.output gB _) (fun a ha=>?_) ?_
 ·rw[List.append_nil,s1,hr]
  exact trodAll_cons_mk (shut_bool hb _) trodAll_mk0
 ·rw[List.append_nil,s2]
  exact DataW.TrodAll.respare (kids_rows hl hmr) (slices_full_of P hz) Mo (ZM gB hA) (fun pl fM=>tG pl (by simpa using fM))
 ·rw[List.append_nil,hs,s3]
  rfl
 ·simp only[World.frozen?,gB a.block ha]
 ·rw[hr]
  rw[<-hr]
  exact ok_one hr rfl (okWide_bool_mk hb _)
end
end Go.Am
