/- Am26, Am27: parts of the proof. No condition. -/
import Derived.Test.YtbgmbplglejidaaAm25
set_option linter.unusedVariables false
section
namespace Go.Am
def xF:Dv->aj
 |(.one,[x])=>.one (.c x)
 |(.one,_)=>.one .bm
 |(.agg,xs)=>.agg (xs.map .c)
 |(.ptr,xs)=>.one (.cu xs 0)
def sV:Nat->List Dv->(Nat->aj)
 |_,[]=>vJ
 |k,d::ds=>au (sV (k+1) ds) k (xF d)
def Ec (ds:List Dv):St:={env:=sV 0 ds,h:=AB,used:=fun n=>Nat.ble aK n}
def JS (T:aO) (mc:lg) (aA:List bA) (ds:List Dv):Option (List Dv):=
 match dX T mc (Ec ds) with
 |some (.fG σ)=>σ.td aA
 |some (.ret σ)=>σ.td aA
 |_=>none
section
variable {B:Nat} {E:Ex} {w0 w w':World} {G G':Gh} {N:Nat} {h h':Nat->Option ao} {used:Nat->Bool}
variable {P:Program} {T:aO} {a:Act} {σ σ':St} {Q:Exit->Act->World->Prop}
theorem O8:∀(ds:List Dv) (k n:Nat),sV k ds n=if k<=n then(match ds[n - k]? with|some d=>xF d|none=>.one .bm) else .one .bm
 |[],k,n=>by simp[sV,vJ]
 |d::ds,k,n=>by
  simp only[sV,iP,O8 ds]
  by_cases h:n=k
  ·subst h;simp
  ·by_cases h2:k<=n
   ·have h3:k+1<=n:=by omega
    have h4:n - k=(n - (k+1))+1:=by omega
    simp[h,h2,h3,h4]
   ·have h3:¬k+1<=n:=by omega
    simp[h,h2,h3]
def NL (w:World):Gh:=⟨fun b=>b<w.heap.size,fun _=>default⟩
theorem ady {d:Dv} {v:Value} (hd:zA w d v):RA w (NL w) AB (xF d) v:=by
 have cells:∀{bu:List PC},(∀pc∈bu,Good w pc)->cN w (NL w) AB ((bu.map PC.er).map .c) (bu.map PC.val):=by
  intro bu hg
  refine⟨by simp,fun j c u hj hu=>?_⟩
  simp only[List.getElem?_map,List.map_map] at hj hu
  cases hp:bu[j]? with
  |none=>rw[hp] at hj;cases hj
  |some pc=>
   rw[hp] at hj hu
   simp at hj hu
   subst hj;subst hu
   have YL:=hg pc (List.mem_of_getElem? hp)
   exact⟨PC.kw pc,pc,rfl,rfl,YL,fun b hb=>YL.lt hb⟩
 obtain⟨k,xs⟩:=d
 cases k with
 |one=>
  obtain⟨bu,p1,p2,p3⟩:=hd
  have p1:bu.map PC.er=xs:=p1
  subst p1
  match bu,p3 with
  |[pc],p3=>
   simp at p3
   subst p3
   exact RA.ga (PC.kw pc) ⟨pc,rfl,rfl,p2 pc (by simp),fun b hb=>(p2 pc (by simp)).lt hb⟩
 |agg=>
  obtain⟨bu,p1,p2,p3⟩:=hd
  have p1:bu.map PC.er=xs:=p1
  subst p1
  exact⟨_,p3,cells p2⟩
 |ptr=>
  obtain⟨bu,b,o,p1,p2,p3,p4⟩:=hd
  have p1:bu.map PC.er=xs:=p1
  subst p1 p2
  exact RA.ga rfl ⟨b,o,bu,by simp,rfl,p3,fun j c hj=>⟨(p4 j c hj).1,(p4 j c hj).2,fun b' aY=>(p4 j c hj).2.lt aY⟩⟩
theorem adz {d:Dv} {m:Nat}:¬(xF d).ref m:=by
 obtain⟨k,xs⟩:=d
 cases k with
 |one=>match xs with
  |[]=>exact id
  |[x]=>exact id
  |_::_::_=>exact id
 |agg=>
  rintro⟨c,hc,h⟩
  obtain⟨y,_,rfl⟩:=List.mem_map.1 hc
  exact h
 |ptr=>exact id
theorem R.init {ds:List Dv} {vals:List Value} (ha:FA w ds vals) (hN:ds.length<=N):
  R w.heap.size Ex.no w N (Ec ds) {tmps:=vals.toArray++Array.replicate (N - vals.toArray.size) undef,defers:=[]} w (NL w):=by
 obtain⟨hl,bQ⟩:=ha
 refine⟨rfl,by simp;omega,fun s=>?_,fun s n hn=>?_,?_,Fr.refl _ _ _ (Nat.le_refl _),fun n p b hp=>(by cases hp),fun n hn=>Nat.ble_eq_true_of_le hn⟩
 ·show RA w _ AB (sV 0 ds s) _
  rw[O8]
  simp only[Nat.zero_le,if_true,Nat.sub_zero]
  cases hs:ds[s]? with
  |none=>exact Or.inl rfl
  |some d=>
   have gj:s<vals.length:=by rw[hl];exact(List.getElem?_eq_some_iff.1 hs).1
   have hv:vals[s]? =some vals[s]:=List.getElem?_eq_getElem gj
   have:(vals.toArray++Array.replicate (N - vals.toArray.size) undef).getD s undef=vals[s]:=by
    simp[Array.getD_eq_getD_getElem?,Array.getElem?_append,gj]
   rw[this]
   exact ady (bQ s d _ hs hv)
 ·have bj:(sV 0 ds s).ref n:=hn
  rw[O8] at bj
  simp only[Nat.zero_le,if_true,Nat.sub_zero] at bj
  cases hs:ds[s]? with
  |none=>rw[hs] at bj;exact absurd bj id
  |some d=>rw[hs] at bj;exact absurd bj adz
 ·have h0:∀n,(Ec ds).h n=none:=fun n=>rfl
  refine⟨fun n hn=>absurd (h0 n) hn,fun m cs c n hm=>?_,fun n cs hn=>?_,fun n gr m sz xs hn=>?_,fun n hn=>absurd (h0 n) hn,fun n n' hn=>absurd (h0 n) hn,fun b hb=>hb,fun b _=>.inr (.inr trivial),
   fun n n' gr m sz xs bk m' aJ aq hn=>?_,fun n gr sz xs hn=>?_,?_,?_,?_⟩
  ·rw[h0] at hm;cases hm
  ·rw[h0] at hn;cases hn
  ·rw[h0] at hn;cases hn
  ·rw[h0] at hn;cases hn
  ·rw[h0] at hn;cases hn
  ·intro i pc hi;simp at hi
  ·intro i j pc dg b _ hi;simp at hi
  ·intro i pc n gr m sz xs b hi;simp at hi
theorem anX (r:R B E w0 N σ a w G) {t sz:Nat} {ag:Bool} {ty:TypeId} {p:ah} {cs:List ah} (dr:pR P ty ag sz=true) (hp:σ.env t=.one p) (hx:loadAt σ.h p sz=some cs):
  ∃v,(tc a.tmps (.cell t ty)).run P w=.ok v w/\RA w G σ.h (kV ag cs) v:=by
 have hv:=r.env t
 have iH:=r.r7 t
 rw[hp] at hv iH
 have mF:p≠ .bm:=by rintro rfl;simp[Am.loadAt] at hx
 obtain⟨b,of,vs,h1,h2,h3,h4,h5⟩:=r.hr.loadAt hx (hv.fH mF).1 (fun m hm=>iH m hm)
 have DT:∀n:Nat,n=vs.length->(loadCells (ad b of) n).run P w=.ok vs.toArray w:=fun n hn=>by
  subst hn
  exact run_loadCells_list w (ad b of) vs (fun j u hj=>by rw[nJ];exact h3 j u hj)
 unfold pR at dr
 cases hu:P.underlying ty with
 |none=>rw[hu] at dr;simp at dr
 |some d=>
  cases hi:P.info? ty with
  |none=>rw[hu,hi] at dr;cases d<;>simp at dr
  |some i=>
   rw[hu,hi] at dr
   have bo:(ag=true/\i.size=sz/\(isAgg ty).run P w=.ok true w)\/(ag=false/\sz=1/\(isAgg ty).run P w=.ok false w):=by
    cases d<;>simp at dr<;>simp[isAgg,run_underlying hu,dr]
   rcases bo with⟨rfl,e1,e2⟩|⟨rfl,e1,e2⟩
   ·refine⟨.agg vs.toArray,?_,vs,rfl,h4⟩
    simp[tc,h1,loadVar,asAddr,e2,sizeOf,typeInfo,hi,DT i.size (by omega)]
   ·subst e1
    match vs,h2 with
    |[u],_=>
     have ez:∃c,cs=[c]:=by
      have:=h4.1
      match cs,this with
      |[c],_=>exact⟨c,rfl⟩
     obtain⟨c,rfl⟩:=ez
     have gW:=h3 0 u rfl
     simp only[Nat.add_zero] at gW
     exact⟨u,by simp[tc,h1,loadVar,asAddr,e2,gW],.inr h4⟩
theorem JV (r:R B E w0 N σ a w G):∀{rs:List ResultVar} {ms:List bA} {vs:List aj},m6 P rs ms=true->σ.rU ms=some vs->
  ∃us:List Value,(rs.mapM (tc a.tmps)).run P w=.ok us w/\us.length=vs.length/\us.length=rs.length/\∀(j:Nat) (x:aj) (v:Value),vs[j]? =some x->us[j]? =some v->RA w G σ.h x v
 |[],[],vs,hc,hx=>by
  simp only[St.rU] at hx
  injection hx with hx
  subst hx
  exact⟨[],by simp,rfl,rfl,by simp⟩
 |.tmp t::rs,.tmp t'::ms,vs,hc,hx=>by
  simp only[m6,Bool.and_eq_true,beq_iff_eq] at hc
  obtain⟨rfl,hc⟩:=hc
  simp only[St.rU] at hx
  split at hx
  ·rename_i vs' e
   injection hx with hx
   subst hx
   obtain⟨us,u1,u2,Vj,u3⟩:=JV r hc e
   refine⟨a.tmps.getD t undef::us,by simp[tc,u1],by simp[u2],by simp[Vj],fun j x v hj hv=>?_⟩
   cases j with
   |zero=>simp only[List.getElem?_cons_zero,Option.some.injEq] at hj hv;subst hj;subst hv;exact r.env t
   |succ j=>exact u3 j x v (by simpa using hj) (by simpa using hv)
  ·cases hx
 |.cell t ty::rs,.cell t' sz ag::ms,vs,hc,hx=>by
  simp only[m6,Bool.and_eq_true,beq_iff_eq] at hc
  obtain⟨⟨rfl,dr⟩,hc⟩:=hc
  simp only[St.rU] at hx
  split at hx
  ·rename_i p hp
   split at hx
   ·rename_i cs vs' e1 e2
    injection hx with hx
    subst hx
    obtain⟨us,u1,u2,Vj,u3⟩:=JV r hc e2
    obtain⟨v0,v1,v2⟩:=anX r dr hp e1
    refine⟨v0::us,by simp[v1,u1],by simp[u2],by simp[Vj],fun j x v hj hv=>?_⟩
    cases j with
    |zero=>simp only[List.getElem?_cons_zero,Option.some.injEq] at hj hv;subst hj;subst hv;exact v2
    |succ j=>exact u3 j x v (by simpa using hj) (by simpa using hv)
   ·cases hx
  ·cases hx
 |[],_::_,_,hc,_=>by simp[m6] at hc
 |.tmp _::_,[],_,hc,_=>by simp[m6] at hc
 |.cell _ _::_,[],_,hc,_=>by simp[m6] at hc
 |.tmp _::_,.cell _ _ _::_,_,hc,_=>by simp[m6] at hc
 |.cell _ _::_,.tmp _::_,_,hc,_=>by simp[m6] at hc
theorem amS {aT:List (K×List PC)}:BV (aT.map qH)=wV aT:=by
 match aT with
 |[]=>rfl
 |[p]=>rfl
 |p::q::aT=>rfl
theorem abo (r:R B Ex.no w0 N σ a w G) {fn:Func} {ms:List bA} {ds:List Dv} (hc:m6 P fn.results.toList ms=true) (hx:σ.td ms=some ds):
  ∃aT:List (K×List PC),aT.map (fun p=>(p.1,p.2.map PC.er))=ds/\(results fn a.tmps).run P w=.ok (wV aT) w/\(∀p∈aT,p.1≠ .ptr/\(p.1=.one->p.2.length=1))/\
   CO w B (aT.flatMap (·.2)):=by
 unfold St.td at hx
 split at hx
 ·rename_i vs e1
  split at hx
  ·rename_i tK ns e2
   split at hx
   ·rename_i gi
    injection hx with hx
    subst hx
    obtain⟨us,u1,u2,_,u3⟩:=JV r hc e1
    obtain⟨aT,p1,p2,p3,p4,p5⟩:=r.hr.qG e2 u2 u3
    refine⟨aT,p1,?_,p3,⟨fun pc aZ=>(p4.each pc aZ).eu,fun pc aZ b hb=>((p4.each pc aZ).new b hb).1,fun i j pc dg b jw hi hj hb=>?_⟩⟩
    ·rw[JW fn a.tmps u1,<-p2,amS]
    ·have hp:=p4.m7 gi
     rw[List.pairwise_iff_getElem] at hp
     obtain⟨li,ei⟩:=List.getElem?_eq_some_iff.1 hi
     obtain⟨lj,ej⟩:=List.getElem?_eq_some_iff.1 hj
     subst ei
     subst ej
     rcases Nat.lt_or_gt_of_ne jw with bG|bG
     ·exact hp i j li lj bG b hb
     ·exact fun aY=>hp j i lj li bG b aY hb
   ·cases hx
  ·cases hx
 ·cases hx
theorem am8 (hT:nH P T) (hm:P.follows .mixedOrders=true) {f:FuncId} {fn:Func} {c:Code} {mc:lg} {ms:List bA} {M:List Dv->Option (List Dv)} (hf:P.funcs[f]? =some fn) (hb:fn.body=some c)
  (hc:iV P fn.ntmps c mc=true) (hr:m6 P fn.results.toList ms=true) (hM:∀ds rs,M ds=some rs->ds.length<=fn.ntmps/\JS T mc ms ds=some rs):dh P f M:=by
 intro ds rs nf w vals ha
 obtain⟨hN,bU⟩:=hM ds rs nf
 refine calls_of_wp hf hb ?_
 have r0:=R.init (N:=fn.ntmps) ha hN
 unfold JS at bU
 have fin:∀{σ:St} {a:Act} {w':World} {G:Gh},σ.td ms=some rs->R w.heap.size Ex.no w fn.ntmps σ a w' G->a.defers=[]/\∃v,(results fn a.tmps).run P w'=.ok v w'/\
   ∃aT:List (K×List PC),aT.map (fun p=>(p.1,p.2.map PC.er))=rs/\(Ending.returned v)=.returned (wV aT)/\(∀p∈aT,p.1≠ .ptr/\(p.1=.one->p.2.length=1))/\
   CO w' w.heap.size (aT.flatMap (·.2))/\Fr w.heap.size Ex.no w w':=by
  intro σ a w' G hx r
  obtain⟨aT,p1,p2,p3,p4⟩:=abo r hr hx
  exact⟨r.defers,_,p2,aT,p1,rfl,p3,p4,r.fr⟩
 split at bU
 ·rename_i σ e
  exact lA hT hm mc hc e r0 fun a w' G r=>fin bU r
 ·rename_i σ e
  exact lA hT hm mc hc e r0 fun a w' G r=>fin bU r
 ·cases bU
end
end Go.Am
end
section
namespace Go.Am
end Go.Am
end
