/- Am26, Am27: parts of the proof. No condition. -/
import Derived.Test.YtifmggmhdcdgbaaAm25
set_option linter.unusedVariables false
section
namespace Go.Am
def wR:Dv->ak
 |(.one,[x])=>.one (.c x)
 |(.one,_)=>.one .bf
 |(.agg,xs)=>.agg (xs.map .c)
 |(.ptr,xs)=>.one (.cd xs 0)
def sa:Nat->List Dv->(Nat->ak)
 |_,[]=>uP
 |k,d::ds=>au (sa (k+1) ds) k (wR d)
def Dd (ds:List Dv):St:={env:=sa 0 ds,h:=zw,used:=fun n=>Nat.ble aF n}
def Ir (T:bg) (mc:kN) (aH:List bV) (ds:List Dv):Option (List Dv):=
 match dF T mc (Dd ds) with
 |some (.ft σ)=>σ.sC aH
 |some (.ret σ)=>σ.sC aH
 |_=>none
section
variable {B:Nat} {E:Ex} {w0 w w':World} {G G':Gh} {N:Nat} {h h':Nat->Option aq} {used:Nat->Bool}
variable {P:Program} {T:bg} {a:Act} {σ σ':St} {Q:Exit->Act->World->Prop}
theorem Nb:∀(ds:List Dv) (k n:Nat),sa k ds n=if k<=n then(match ds[n - k]? with|some d=>wR d|none=>.one .bf) else .one .bf
 |[],k,n=>by simp[sa,uP]
 |d::ds,k,n=>by
  simp only[sa,iK,Nb ds]
  by_cases h:n=k
  ·subst h;simp
  ·by_cases h2:k<=n
   ·have h3:k+1<=n:=by omega
    have h4:n - k=(n - (k+1))+1:=by omega
    simp[h,h2,h3,h4]
   ·have h3:¬k+1<=n:=by omega
    simp[h,h2,h3]
def Lm (w:World):Gh:=⟨fun b=>b<w.heap.size,fun _=>default⟩
theorem aas {d:Dv} {v:Value} (hd:yR w d v):RA w (Lm w) zw (wR d) v:=by
 have cells:∀{bu:List PC},(∀pc∈bu,Good w pc)->cA w (Lm w) zw ((bu.map PC.er).map .c) (bu.map PC.val):=by
  intro bu hg
  refine⟨by simp,fun j c u hj hu=>?_⟩
  simp only[List.getElem?_map,List.map_map] at hj hu
  cases hp:bu[j]? with
  |none=>rw[hp] at hj;cases hj
  |some pc=>
   rw[hp] at hj hu
   simp at hj hu
   subst hj;subst hu
   have Vs:=hg pc (List.mem_of_getElem? hp)
   exact⟨PC.j8 pc,pc,rfl,rfl,Vs,fun b hb=>Vs.lt hb⟩
 obtain⟨k,xs⟩:=d
 cases k with
 |one=>
  obtain⟨bu,p1,p2,p3⟩:=hd
  have p1:bu.map PC.er=xs:=p1
  subst p1
  match bu,p3 with
  |[pc],p3=>
   simp at p3
   subst p3
   exact RA.fR (PC.j8 pc) ⟨pc,rfl,rfl,p2 pc (by simp),fun b hb=>(p2 pc (by simp)).lt hb⟩
 |agg=>
  obtain⟨bu,p1,p2,p3⟩:=hd
  have p1:bu.map PC.er=xs:=p1
  subst p1
  exact⟨_,p3,cells p2⟩
 |ptr=>
  obtain⟨bu,b,o,p1,p2,p3,p4⟩:=hd
  have p1:bu.map PC.er=xs:=p1
  subst p1 p2
  exact RA.fR rfl ⟨b,o,bu,by simp,rfl,p3,fun j c hj=>⟨(p4 j c hj).1,(p4 j c hj).2,fun b' aR=>(p4 j c hj).2.lt aR⟩⟩
theorem aat {d:Dv} {m:Nat}:¬(wR d).ref m:=by
 obtain⟨k,xs⟩:=d
 cases k with
 |one=>match xs with
  |[]=>exact id
  |[x]=>exact id
  |_::_::_=>exact id
 |agg=>
  rintro⟨c,hc,h⟩
  obtain⟨y,_,rfl⟩:=List.mem_map.1 hc
  exact h
 |ptr=>exact id
theorem R.init {ds:List Dv} {vals:List Value} (ha:Eu w ds vals) (hN:ds.length<=N):
  R w.heap.size Ex.no w N (Dd ds) {tmps:=vals.toArray++Array.replicate (N - vals.toArray.size) undef,defers:=[]} w (Lm w):=by
 obtain⟨hl,bO⟩:=ha
 refine⟨rfl,by simp;omega,fun s=>?_,fun s n hn=>?_,?_,Fr.refl _ _ _ (Nat.le_refl _),fun n p b hp=>(by cases hp),fun n hn=>Nat.ble_eq_true_of_le hn⟩
 ·show RA w _ zw (sa 0 ds s) _
  rw[Nb]
  simp only[Nat.zero_le,if_true,Nat.sub_zero]
  cases hs:ds[s]? with
  |none=>exact Or.inl rfl
  |some d=>
   have gv:s<vals.length:=by rw[hl];exact(List.getElem?_eq_some_iff.1 hs).1
   have hv:vals[s]? =some vals[s]:=List.getElem?_eq_getElem gv
   have:(vals.toArray++Array.replicate (N - vals.toArray.size) undef).getD s undef=vals[s]:=by
    simp[Array.getD_eq_getD_getElem?,Array.getElem?_append,gv]
   rw[this]
   exact aas (bO s d _ hs hv)
 ·have bk:(sa 0 ds s).ref n:=hn
  rw[Nb] at bk
  simp only[Nat.zero_le,if_true,Nat.sub_zero] at bk
  cases hs:ds[s]? with
  |none=>rw[hs] at bk;exact absurd bk id
  |some d=>rw[hs] at bk;exact absurd bk aat
 ·have h0:∀n,(Dd ds).h n=none:=fun n=>rfl
  refine⟨fun n hn=>absurd (h0 n) hn,fun m cs c n hm=>?_,fun n cs hn=>?_,fun n gr m sz xs hn=>?_,fun n hn=>absurd (h0 n) hn,fun n n' hn=>absurd (h0 n) hn,fun b hb=>hb,fun b _=>.inr (.inr trivial),
   fun n n' gr m sz xs bh m' aG ar hn=>?_,fun n gr sz xs hn=>?_,?_,?_,?_⟩
  ·rw[h0] at hm;cases hm
  ·rw[h0] at hn;cases hn
  ·rw[h0] at hn;cases hn
  ·rw[h0] at hn;cases hn
  ·rw[h0] at hn;cases hn
  ·intro i pc hi;simp at hi
  ·intro i j pc c8 b _ hi;simp at hi
  ·intro i pc n gr m sz xs b hi;simp at hi
theorem ajF (r:R B E w0 N σ a w G) {t sz:Nat} {ag:Bool} {ty:TypeId} {p:ai} {cs:List ai} (dt:oW P ty ag sz=true) (hp:σ.env t=.one p) (hx:loadAt σ.h p sz=some cs):
  ∃v,(sB a.tmps (.cell t ty)).run P w=.ok v w/\RA w G σ.h (kI ag cs) v:=by
 have hv:=r.env t
 have ic:=r.rf t
 rw[hp] at hv ic
 have lO:p≠ .bf:=by rintro rfl;simp[Am.loadAt] at hx
 obtain⟨b,of,vs,h1,h2,h3,h4,h5⟩:=r.hr.loadAt hx (hv.fb lO).1 (fun m hm=>ic m hm)
 have CQ:∀n:Nat,n=vs.length->(loadCells (ad b of) n).run P w=.ok vs.toArray w:=fun n hn=>by
  subst hn
  exact run_loadCells_list w (ad b of) vs (fun j u hj=>by rw[m9];exact h3 j u hj)
 unfold oW at dt
 cases hu:P.underlying ty with
 |none=>rw[hu] at dt;simp at dt
 |some d=>
  cases hi:P.info? ty with
  |none=>rw[hu,hi] at dt;cases d<;>simp at dt
  |some i=>
   rw[hu,hi] at dt
   have br:(ag=true/\i.size=sz/\(isAgg ty).run P w=.ok true w)\/(ag=false/\sz=1/\(isAgg ty).run P w=.ok false w):=by
    cases d<;>simp at dt<;>simp[isAgg,run_underlying hu,dt]
   rcases br with⟨rfl,e1,e2⟩|⟨rfl,e1,e2⟩
   ·refine⟨.agg vs.toArray,?_,vs,rfl,h4⟩
    simp[sB,h1,loadVar,asAddr,e2,sizeOf,typeInfo,hi,CQ i.size (by omega)]
   ·subst e1
    match vs,h2 with
    |[u],_=>
     have dL:∃c,cs=[c]:=by
      have:=h4.1
      match cs,this with
      |[c],_=>exact⟨c,rfl⟩
     obtain⟨c,rfl⟩:=dL
     have gC:=h3 0 u rfl
     simp only[Nat.add_zero] at gC
     exact⟨u,by simp[sB,h1,loadVar,asAddr,e2,gC],.inr h4⟩
theorem Iu (r:R B E w0 N σ a w G):∀{rs:List ResultVar} {ms:List bV} {vs:List ak},mw P rs ms=true->σ.qV ms=some vs->
  ∃us:List Value,(rs.mapM (sB a.tmps)).run P w=.ok us w/\us.length=vs.length/\us.length=rs.length/\∀(j:Nat) (x:ak) (v:Value),vs[j]? =some x->us[j]? =some v->RA w G σ.h x v
 |[],[],vs,hc,hx=>by
  simp only[St.qV] at hx
  injection hx with hx
  subst hx
  exact⟨[],by simp,rfl,rfl,by simp⟩
 |.tmp t::rs,.tmp t'::ms,vs,hc,hx=>by
  simp only[mw,Bool.and_eq_true,beq_iff_eq] at hc
  obtain⟨rfl,hc⟩:=hc
  simp only[St.qV] at hx
  split at hx
  ·rename_i vs' e
   injection hx with hx
   subst hx
   obtain⟨us,u1,u2,Sk,u3⟩:=Iu r hc e
   refine⟨a.tmps.getD t undef::us,by simp[sB,u1],by simp[u2],by simp[Sk],fun j x v hj hv=>?_⟩
   cases j with
   |zero=>simp only[List.getElem?_cons_zero,Option.some.injEq] at hj hv;subst hj;subst hv;exact r.env t
   |succ j=>exact u3 j x v (by simpa using hj) (by simpa using hv)
  ·cases hx
 |.cell t ty::rs,.cell t' sz ag::ms,vs,hc,hx=>by
  simp only[mw,Bool.and_eq_true,beq_iff_eq] at hc
  obtain⟨⟨rfl,dt⟩,hc⟩:=hc
  simp only[St.qV] at hx
  split at hx
  ·rename_i p hp
   split at hx
   ·rename_i cs vs' e1 e2
    injection hx with hx
    subst hx
    obtain⟨us,u1,u2,Sk,u3⟩:=Iu r hc e2
    obtain⟨v0,v1,v2⟩:=ajF r dt hp e1
    refine⟨v0::us,by simp[v1,u1],by simp[u2],by simp[Sk],fun j x v hj hv=>?_⟩
    cases j with
    |zero=>simp only[List.getElem?_cons_zero,Option.some.injEq] at hj hv;subst hj;subst hv;exact v2
    |succ j=>exact u3 j x v (by simpa using hj) (by simpa using hv)
   ·cases hx
  ·cases hx
 |[],_::_,_,hc,_=>by simp[mw] at hc
 |.tmp _::_,[],_,hc,_=>by simp[mw] at hc
 |.cell _ _::_,[],_,hc,_=>by simp[mw] at hc
 |.tmp _::_,.cell _ _ _::_,_,hc,_=>by simp[mw] at hc
 |.cell _ _::_,.tmp _::_,_,hc,_=>by simp[mw] at hc
theorem aiM {aO:List (K×List PC)}:A3 (aO.map pR)=vZ aO:=by
 match aO with
 |[]=>rfl
 |[p]=>rfl
 |p::q::aO=>rfl
theorem YH (r:R B Ex.no w0 N σ a w G) {fn:Func} {ms:List bV} {ds:List Dv} (hc:mw P fn.results.toList ms=true) (hx:σ.sC ms=some ds):
  ∃aO:List (K×List PC),aO.map (fun p=>(p.1,p.2.map PC.er))=ds/\(results fn a.tmps).run P w=.ok (vZ aO) w/\(∀p∈aO,p.1≠ .ptr/\(p.1=.one->p.2.length=1))/\
   BT w B (aO.flatMap (·.2)):=by
 unfold St.sC at hx
 split at hx
 ·rename_i vs e1
  split at hx
  ·rename_i xa ns e2
   split at hx
   ·rename_i fL
    injection hx with hx
    subst hx
    obtain⟨us,u1,u2,_,u3⟩:=Iu r hc e1
    obtain⟨aO,p1,p2,p3,p4,p5⟩:=r.hr.pQ e2 u2 u3
    refine⟨aO,p1,?_,p3,⟨fun pc aV=>(p4.each pc aV).ek,fun pc aV b hb=>((p4.each pc aV).new b hb).1,fun i j pc c8 b jN hi hj hb=>?_⟩⟩
    ·rw[Iv fn a.tmps u1,<-p2,aiM]
    ·have hp:=p4.mz fL
     rw[List.pairwise_iff_getElem] at hp
     obtain⟨li,ei⟩:=List.getElem?_eq_some_iff.1 hi
     obtain⟨lj,ej⟩:=List.getElem?_eq_some_iff.1 hj
     subst ei
     subst ej
     rcases Nat.lt_or_gt_of_ne jN with bL|bL
     ·exact hp i j li lj bL b hb
     ·exact fun aR=>hp j i lj li bL b aR hb
   ·cases hx
  ·cases hx
 ·cases hx
theorem aiY (hT:m7 P T) (hm:P.follows .mixedOrders=true) {f:FuncId} {fn:Func} {c:Code} {mc:kN} {ms:List bV} {M:List Dv->Option (List Dv)} (hf:P.funcs[f]? =some fn) (hb:fn.body=some c)
  (hc:iz P fn.ntmps c mc=true) (hr:mw P fn.results.toList ms=true) (hM:∀ds rs,M ds=some rs->ds.length<=fn.ntmps/\Ir T mc ms ds=some rs):ff P f M:=by
 intro ds rs mE w vals ha
 obtain⟨hN,bK⟩:=hM ds rs mE
 refine calls_of_wp hf hb ?_
 have r0:=R.init (N:=fn.ntmps) ha hN
 unfold Ir at bK
 have fin:∀{σ:St} {a:Act} {w':World} {G:Gh},σ.sC ms=some rs->R w.heap.size Ex.no w fn.ntmps σ a w' G->a.defers=[]/\∃v,(results fn a.tmps).run P w'=.ok v w'/\
   ∃aO:List (K×List PC),aO.map (fun p=>(p.1,p.2.map PC.er))=rs/\(Ending.returned v)=.returned (vZ aO)/\(∀p∈aO,p.1≠ .ptr/\(p.1=.one->p.2.length=1))/\
   BT w' w.heap.size (aO.flatMap (·.2))/\Fr w.heap.size Ex.no w w':=by
  intro σ a w' G hx r
  obtain⟨aO,p1,p2,p3,p4⟩:=YH r hr hx
  exact⟨r.defers,_,p2,aO,p1,rfl,p3,p4,r.fr⟩
 split at bK
 ·rename_i σ e
  exact kU hT hm mc hc e r0 fun a w' G r=>fin bK r
 ·rename_i σ e
  exact kU hT hm mc hc e r0 fun a w' G r=>fin bK r
 ·cases bK
end
end Go.Am
end
section
namespace Go.Am
end Go.Am
end
