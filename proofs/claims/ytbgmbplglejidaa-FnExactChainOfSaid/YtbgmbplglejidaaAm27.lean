/- Am26, Am27: parts of the proof. No condition. -/
import Derived.Test.YtbgmbplglejidaaAm25
set_option linter.unusedVariables false
section
namespace Go.Am
def xU:Dv->aj
 |(.one,[x])=>.one (.c x)
 |(.one,_)=>.one .bn
 |(.agg,xs)=>.agg (xs.map .c)
 |(.ptr,xs)=>.one (.cj xs 0)
def s8:Nat->List Dv->(Nat->aj)
 |_,[]=>vO
 |k,d::ds=>ax (s8 (k+1) ds) k (xU d)
def Ee (ds:List Dv):St:={env:=s8 0 ds,h:=AE,used:=fun n=>Nat.ble aM n}
def J3 (T:aS) (mc:lg) (aA:List bh) (ds:List Dv):Option (List Dv):=
 match dY T mc (Ee ds) with
 |some (.fy σ)=>σ.tq aA
 |some (.ret σ)=>σ.tq aA
 |_=>none
section
variable {B:Nat} {E:Ex} {w0 w w':World} {G G':Gh} {N:Nat} {h h':Nat->Option aq} {used:Nat->Bool}
variable {P:Program} {T:aS} {a:Act} {σ σ':St} {Q:Exit->Act->World->Prop}
theorem PX:∀(ds:List Dv) (k n:Nat),s8 k ds n=if k<=n then(match ds[n - k]? with|some d=>xU d|none=>.one .bn) else .one .bn
 |[],k,n=>by simp[s8,vO]
 |d::ds,k,n=>by
  simp only[s8,iO,PX ds]
  by_cases h:n=k
  ·subst h;simp
  ·by_cases h2:k<=n
   ·have h3:k+1<=n:=by omega
    have h4:n - k=(n - (k+1))+1:=by omega
    simp[h,h2,h3,h4]
   ·have h3:¬k+1<=n:=by omega
    simp[h,h2,h3]
def Oy (w:World):Gh:=⟨fun b=>b<w.heap.size,fun _=>default⟩
theorem aeq {d:Dv} {v:Value} (hd:zC w d v):RA w (Oy w) AE (xU d) v:=by
 have cells:∀{bt:List PC},(∀pc∈bt,Good w pc)->cJ w (Oy w) AE ((bt.map PC.er).map .c) (bt.map PC.val):=by
  intro bt hg
  refine⟨by simp,fun j c u hj hu=>?_⟩
  simp only[List.getElem?_map,List.map_map] at hj hu
  cases hp:bt[j]? with
  |none=>rw[hp] at hj;cases hj
  |some pc=>
   rw[hp] at hj hu
   simp at hj hu
   subst hj;subst hu
   have ZG:=hg pc (List.mem_of_getElem? hp)
   exact⟨PC.kv pc,pc,rfl,rfl,ZG,fun b hb=>ZG.lt hb⟩
 obtain⟨k,xs⟩:=d
 cases k with
 |one=>
  obtain⟨bt,p1,p2,p3⟩:=hd
  have p1:bt.map PC.er=xs:=p1
  subst p1
  match bt,p3 with
  |[pc],p3=>
   simp at p3
   subst p3
   exact RA.fZ (PC.kv pc) ⟨pc,rfl,rfl,p2 pc (by simp),fun b hb=>(p2 pc (by simp)).lt hb⟩
 |agg=>
  obtain⟨bt,p1,p2,p3⟩:=hd
  have p1:bt.map PC.er=xs:=p1
  subst p1
  exact⟨_,p3,cells p2⟩
 |ptr=>
  obtain⟨bt,b,o,p1,p2,p3,p4⟩:=hd
  have p1:bt.map PC.er=xs:=p1
  subst p1 p2
  exact RA.fZ rfl ⟨b,o,bt,by simp,rfl,p3,fun j c hj=>⟨(p4 j c hj).1,(p4 j c hj).2,fun b' aW=>(p4 j c hj).2.lt aW⟩⟩
theorem aer {d:Dv} {m:Nat}:¬(xU d).ref m:=by
 obtain⟨k,xs⟩:=d
 cases k with
 |one=>match xs with
  |[]=>exact id
  |[x]=>exact id
  |_::_::_=>exact id
 |agg=>
  rintro⟨c,hc,h⟩
  obtain⟨y,_,rfl⟩:=List.mem_map.1 hc
  exact h
 |ptr=>exact id
theorem R.init {ds:List Dv} {vals:List Value} (ha:FM w ds vals) (hN:ds.length<=N):
  R w.heap.size Ex.no w N (Ee ds) {tmps:=vals.toArray++Array.replicate (N - vals.toArray.size) undef,defers:=[]} w (Oy w):=by
 obtain⟨hl,cg⟩:=ha
 refine⟨rfl,by simp;omega,fun s=>?_,fun s n hn=>?_,?_,Fr.refl _ _ _ (Nat.le_refl _),fun n p b hp=>(by cases hp),fun n hn=>Nat.ble_eq_true_of_le hn⟩
 ·show RA w _ AE (s8 0 ds s) _
  rw[PX]
  simp only[Nat.zero_le,if_true,Nat.sub_zero]
  cases hs:ds[s]? with
  |none=>exact Or.inl rfl
  |some d=>
   have fV:s<vals.length:=by rw[hl];exact(List.getElem?_eq_some_iff.1 hs).1
   have hv:vals[s]? =some vals[s]:=List.getElem?_eq_getElem fV
   have:(vals.toArray++Array.replicate (N - vals.toArray.size) undef).getD s undef=vals[s]:=by
    simp[Array.getD_eq_getD_getElem?,Array.getElem?_append,fV]
   rw[this]
   exact aeq (cg s d _ hs hv)
 ·have bk:(s8 0 ds s).ref n:=hn
  rw[PX] at bk
  simp only[Nat.zero_le,if_true,Nat.sub_zero] at bk
  cases hs:ds[s]? with
  |none=>rw[hs] at bk;exact absurd bk id
  |some d=>rw[hs] at bk;exact absurd bk aer
 ·have h0:∀n,(Ee ds).h n=none:=fun n=>rfl
  refine⟨fun n hn=>absurd (h0 n) hn,fun m cs c n hm=>?_,fun n cs hn=>?_,fun n gr m sz xs hn=>?_,fun n hn=>absurd (h0 n) hn,fun n n' hn=>absurd (h0 n) hn,fun b hb=>hb,fun b _=>.inr (.inr trivial),
   fun n n' gr m sz xs bj m' aL ar hn=>?_,fun n gr sz xs hn=>?_,?_,?_,?_⟩
  ·rw[h0] at hm;cases hm
  ·rw[h0] at hn;cases hn
  ·rw[h0] at hn;cases hn
  ·rw[h0] at hn;cases hn
  ·rw[h0] at hn;cases hn
  ·intro i pc hi;simp at hi
  ·intro i j pc di b _ hi;simp at hi
  ·intro i pc n gr m sz xs b hi;simp at hi
theorem apl (r:R B E w0 N σ a w G) {t sz:Nat} {ag:Bool} {ty:TypeId} {p:ah} {cs:List ah} (dF:pM P ty ag sz=true) (hp:σ.env t=.one p) (hx:loadAt σ.h p sz=some cs):
  ∃v,(tp a.tmps (.cell t ty)).run P w=.ok v w/\RA w G σ.h (kZ ag cs) v:=by
 have hv:=r.env t
 have iC:=r.r7 t
 rw[hp] at hv iC
 have mC:p≠ .bn:=by rintro rfl;simp[Am.loadAt] at hx
 obtain⟨b,of,vs,h1,h2,h3,h4,h5⟩:=r.hr.loadAt hx (hv.fz mC).1 (fun m hm=>iC m hm)
 have DU:∀n:Nat,n=vs.length->(loadCells (ad b of) n).run P w=.ok vs.toArray w:=fun n hn=>by
  subst hn
  exact run_loadCells_list w (ad b of) vs (fun j u hj=>by rw[nK];exact h3 j u hj)
 unfold pM at dF
 cases hu:P.underlying ty with
 |none=>rw[hu] at dF;simp at dF
 |some d=>
  cases hi:P.info? ty with
  |none=>rw[hu,hi] at dF;cases d<;>simp at dF
  |some i=>
   rw[hu,hi] at dF
   have bq:(ag=true/\i.size=sz/\(isAgg ty).run P w=.ok true w)\/(ag=false/\sz=1/\(isAgg ty).run P w=.ok false w):=by
    cases d<;>simp at dF<;>simp[isAgg,run_underlying hu,dF]
   rcases bq with⟨rfl,e1,e2⟩|⟨rfl,e1,e2⟩
   ·refine⟨.agg vs.toArray,?_,vs,rfl,h4⟩
    simp[tp,h1,loadVar,asAddr,e2,sizeOf,typeInfo,hi,DU i.size (by omega)]
   ·subst e1
    match vs,h2 with
    |[u],_=>
     have ew:∃c,cs=[c]:=by
      have:=h4.1
      match cs,this with
      |[c],_=>exact⟨c,rfl⟩
     obtain⟨c,rfl⟩:=ew
     have gZ:=h3 0 u rfl
     simp only[Nat.add_zero] at gZ
     exact⟨u,by simp[tp,h1,loadVar,asAddr,e2,gZ],.inr h4⟩
theorem J6 (r:R B E w0 N σ a w G):∀{rs:List ResultVar} {ms:List bh} {vs:List aj},mZ P rs ms=true->σ.rT ms=some vs->
  ∃us:List Value,(rs.mapM (tp a.tmps)).run P w=.ok us w/\us.length=vs.length/\us.length=rs.length/\∀(j:Nat) (x:aj) (v:Value),vs[j]? =some x->us[j]? =some v->RA w G σ.h x v
 |[],[],vs,hc,hx=>by
  simp only[St.rT] at hx
  injection hx with hx
  subst hx
  exact⟨[],by simp,rfl,rfl,by simp⟩
 |.tmp t::rs,.tmp t'::ms,vs,hc,hx=>by
  simp only[mZ,Bool.and_eq_true,beq_iff_eq] at hc
  obtain⟨rfl,hc⟩:=hc
  simp only[St.rT] at hx
  split at hx
  ·rename_i vs' e
   injection hx with hx
   subst hx
   obtain⟨us,u1,u2,Wv,u3⟩:=J6 r hc e
   refine⟨a.tmps.getD t undef::us,by simp[tp,u1],by simp[u2],by simp[Wv],fun j x v hj hv=>?_⟩
   cases j with
   |zero=>simp only[List.getElem?_cons_zero,Option.some.injEq] at hj hv;subst hj;subst hv;exact r.env t
   |succ j=>exact u3 j x v (by simpa using hj) (by simpa using hv)
  ·cases hx
 |.cell t ty::rs,.cell t' sz ag::ms,vs,hc,hx=>by
  simp only[mZ,Bool.and_eq_true,beq_iff_eq] at hc
  obtain⟨⟨rfl,dF⟩,hc⟩:=hc
  simp only[St.rT] at hx
  split at hx
  ·rename_i p hp
   split at hx
   ·rename_i cs vs' e1 e2
    injection hx with hx
    subst hx
    obtain⟨us,u1,u2,Wv,u3⟩:=J6 r hc e2
    obtain⟨v0,v1,v2⟩:=apl r dF hp e1
    refine⟨v0::us,by simp[v1,u1],by simp[u2],by simp[Wv],fun j x v hj hv=>?_⟩
    cases j with
    |zero=>simp only[List.getElem?_cons_zero,Option.some.injEq] at hj hv;subst hj;subst hv;exact v2
    |succ j=>exact u3 j x v (by simpa using hj) (by simpa using hv)
   ·cases hx
  ·cases hx
 |[],_::_,_,hc,_=>by simp[mZ] at hc
 |.tmp _::_,[],_,hc,_=>by simp[mZ] at hc
 |.cell _ _::_,[],_,hc,_=>by simp[mZ] at hc
 |.tmp _::_,.cell _ _ _::_,_,hc,_=>by simp[mZ] at hc
 |.cell _ _::_,.tmp _::_,_,hc,_=>by simp[mZ] at hc
theorem aoC {aV:List (K×List PC)}:BR (aV.map qK)=xd aV:=by
 match aV with
 |[]=>rfl
 |[p]=>rfl
 |p::q::aV=>rfl
theorem ab9 (r:R B Ex.no w0 N σ a w G) {fn:Func} {ms:List bh} {ds:List Dv} (hc:mZ P fn.results.toList ms=true) (hx:σ.tq ms=some ds):
  ∃aV:List (K×List PC),aV.map (fun p=>(p.1,p.2.map PC.er))=ds/\(results fn a.tmps).run P w=.ok (xd aV) w/\(∀p∈aV,p.1≠ .ptr/\(p.1=.one->p.2.length=1))/\
   CP w B (aV.flatMap (·.2)):=by
 unfold St.tq at hx
 split at hx
 ·rename_i vs e1
  split at hx
  ·rename_i tW ns e2
   split at hx
   ·rename_i gb
    injection hx with hx
    subst hx
    obtain⟨us,u1,u2,_,u3⟩:=J6 r hc e1
    obtain⟨aV,p1,p2,p3,p4,p5⟩:=r.hr.qJ e2 u2 u3
    refine⟨aV,p1,?_,p3,⟨fun pc aY=>(p4.each pc aY).dH,fun pc aY b hb=>((p4.each pc aY).new b hb).1,fun i j pc di b jm hi hj hb=>?_⟩⟩
    ·rw[J7 fn a.tmps u1,<-p2,aoC]
    ·have hp:=p4.m4 gb
     rw[List.pairwise_iff_getElem] at hp
     obtain⟨li,ei⟩:=List.getElem?_eq_some_iff.1 hi
     obtain⟨lj,ej⟩:=List.getElem?_eq_some_iff.1 hj
     subst ei
     subst ej
     rcases Nat.lt_or_gt_of_ne jm with bB|bB
     ·exact hp i j li lj bB b hb
     ·exact fun aW=>hp j i lj li bB b aW hb
   ·cases hx
  ·cases hx
 ·cases hx
theorem aoJ (hT:nI P T) (hm:P.follows .mixedOrders=true) {f:FuncId} {fn:Func} {c:Code} {mc:lg} {ms:List bh} {M:List Dv->Option (List Dv)} (hf:P.funcs[f]? =some fn) (hb:fn.body=some c)
  (hc:iT P fn.ntmps c mc=true) (hr:mZ P fn.results.toList ms=true) (hM:∀ds rs,M ds=some rs->ds.length<=fn.ntmps/\J3 T mc ms ds=some rs):bV P f M:=by
 intro ds rs m8 w vals ha
 obtain⟨hN,bO⟩:=hM ds rs m8
 refine calls_of_wp hf hb ?_
 have r0:=R.init (N:=fn.ntmps) ha hN
 unfold J3 at bO
 have fin:∀{σ:St} {a:Act} {w':World} {G:Gh},σ.tq ms=some rs->R w.heap.size Ex.no w fn.ntmps σ a w' G->a.defers=[]/\∃v,(results fn a.tmps).run P w'=.ok v w'/\
   ∃aV:List (K×List PC),aV.map (fun p=>(p.1,p.2.map PC.er))=rs/\(Ending.returned v)=.returned (xd aV)/\(∀p∈aV,p.1≠ .ptr/\(p.1=.one->p.2.length=1))/\
   CP w' w.heap.size (aV.flatMap (·.2))/\Fr w.heap.size Ex.no w w':=by
  intro σ a w' G hx r
  obtain⟨aV,p1,p2,p3,p4⟩:=ab9 r hr hx
  exact⟨r.defers,_,p2,aV,p1,rfl,p3,p4,r.fr⟩
 split at bO
 ·rename_i σ e
  exact lD hT hm mc hc e r0 fun a w' G r=>fin bO r
 ·rename_i σ e
  exact lD hT hm mc hc e r0 fun a w' G r=>fin bO r
 ·cases bO
end
end Go.Am
end
section
namespace Go.Am
end Go.Am
end
