/- Am26, Am27: parts of the proof. No condition. -/
import Derived.Test.YtbgmbplglejidaaAm25
set_option linter.unusedVariables false
section
namespace Go.Am
def xU:Dv->aj
 |(.one,[x])=>.one (.c x)
 |(.one,_)=>.one .bn
 |(.agg,xs)=>.agg (xs.map .c)
 |(.ptr,xs)=>.one (.cB xs 0)
def tt:Nat->List Dv->(Nat->aj)
 |_,[]=>vZ
 |k,d::ds=>av (tt (k+1) ds) k (xU d)
def EN (ds:List Dv):St:={env:=tt 0 ds,h:=A9,used:=fun n=>Nat.ble aK n}
def KI (T:aO) (mc:lT) (aD:List bC) (ds:List Dv):Option (List Dv):=
 match d8 T mc (EN ds) with
 |some (.fG σ)=>σ.tF aD
 |some (.ret σ)=>σ.tF aD
 |_=>none
section
variable {B:Nat} {E:Ex} {w0 w w':World} {G G':Gh} {N:Nat} {h h':Nat->Option ao} {used:Nat->Bool}
variable {P:Program} {T:aO} {a:Act} {σ σ':St} {Q:Exit->Act->World->Prop}
theorem P7:∀(ds:List Dv) (k n:Nat),tt k ds n=if k<=n then(match ds[n - k]? with|some d=>xU d|none=>.one .bn) else .one .bn
 |[],k,n=>by simp[tt,vZ]
 |d::ds,k,n=>by
  simp only[tt,iY,P7 ds]
  by_cases h:n=k
  ·subst h;simp
  ·by_cases h2:k<=n
   ·have h3:k+1<=n:=by omega
    have h4:n - k=(n - (k+1))+1:=by omega
    simp[h,h2,h3,h4]
   ·have h3:¬k+1<=n:=by omega
    simp[h,h2,h3]
def OH (w:World):Gh:=⟨fun b=>b<w.heap.size,fun _=>default⟩
theorem aen {d:Dv} {v:Value} (hd:z3 w d v):RA w (OH w) A9 (xU d) v:=by
 have cells:∀{bw:List PC},(∀pc∈bw,Good w pc)->cT w (OH w) A9 ((bw.map PC.er).map .c) (bw.map PC.val):=by
  intro bw hg
  refine⟨by simp,fun j c u hj hu=>?_⟩
  simp only[List.getElem?_map,List.map_map] at hj hu
  cases hp:bw[j]? with
  |none=>rw[hp] at hj;cases hj
  |some pc=>
   rw[hp] at hj hu
   simp at hj hu
   subst hj;subst hu
   have Zw:=hg pc (List.mem_of_getElem? hp)
   exact⟨PC.kN pc,pc,rfl,rfl,Zw,fun b hb=>Zw.lt hb⟩
 obtain⟨k,xs⟩:=d
 cases k with
 |one=>
  obtain⟨bw,p1,p2,p3⟩:=hd
  have p1:bw.map PC.er=xs:=p1
  subst p1
  match bw,p3 with
  |[pc],p3=>
   simp at p3
   subst p3
   exact RA.gu (PC.kN pc) ⟨pc,rfl,rfl,p2 pc (by simp),fun b hb=>(p2 pc (by simp)).lt hb⟩
 |agg=>
  obtain⟨bw,p1,p2,p3⟩:=hd
  have p1:bw.map PC.er=xs:=p1
  subst p1
  exact⟨_,p3,cells p2⟩
 |ptr=>
  obtain⟨bw,b,o,p1,p2,p3,p4⟩:=hd
  have p1:bw.map PC.er=xs:=p1
  subst p1 p2
  exact RA.gu rfl ⟨b,o,bw,by simp,rfl,p3,fun j c hj=>⟨(p4 j c hj).1,(p4 j c hj).2,fun b' aY=>(p4 j c hj).2.lt aY⟩⟩
theorem aeo {d:Dv} {m:Nat}:¬(xU d).ref m:=by
 obtain⟨k,xs⟩:=d
 cases k with
 |one=>match xs with
  |[]=>exact id
  |[x]=>exact id
  |_::_::_=>exact id
 |agg=>
  rintro⟨c,hc,h⟩
  obtain⟨y,_,rfl⟩:=List.mem_map.1 hc
  exact h
 |ptr=>exact id
theorem R.init {ds:List Dv} {vals:List Value} (ha:Gk w ds vals) (hN:ds.length<=N):
  R w.heap.size Ex.no w N (EN ds) {tmps:=vals.toArray++Array.replicate (N - vals.toArray.size) undef,defers:=[]} w (OH w):=by
 obtain⟨hl,bU⟩:=ha
 refine⟨rfl,by simp;omega,fun s=>?_,fun s n hn=>?_,?_,Fr.refl _ _ _ (Nat.le_refl _),fun n p b hp=>(by cases hp),fun n hn=>Nat.ble_eq_true_of_le hn⟩
 ·show RA w _ A9 (tt 0 ds s) _
  rw[P7]
  simp only[Nat.zero_le,if_true,Nat.sub_zero]
  cases hs:ds[s]? with
  |none=>exact Or.inl rfl
  |some d=>
   have gA:s<vals.length:=by rw[hl];exact(List.getElem?_eq_some_iff.1 hs).1
   have hv:vals[s]? =some vals[s]:=List.getElem?_eq_getElem gA
   have:(vals.toArray++Array.replicate (N - vals.toArray.size) undef).getD s undef=vals[s]:=by
    simp[Array.getD_eq_getD_getElem?,Array.getElem?_append,gA]
   rw[this]
   exact aen (bU s d _ hs hv)
 ·have bk:(tt 0 ds s).ref n:=hn
  rw[P7] at bk
  simp only[Nat.zero_le,if_true,Nat.sub_zero] at bk
  cases hs:ds[s]? with
  |none=>rw[hs] at bk;exact absurd bk id
  |some d=>rw[hs] at bk;exact absurd bk aeo
 ·have h0:∀n,(EN ds).h n=none:=fun n=>rfl
  refine⟨fun n hn=>absurd (h0 n) hn,fun m cs c n hm=>?_,fun n cs hn=>?_,fun n gr m sz xs hn=>?_,fun n hn=>absurd (h0 n) hn,fun n n' hn=>absurd (h0 n) hn,fun b hb=>hb,fun b _=>.inr (.inr trivial),
   fun n n' gr m sz xs bm m' aJ aq hn=>?_,fun n gr sz xs hn=>?_,?_,?_,?_⟩
  ·rw[h0] at hm;cases hm
  ·rw[h0] at hn;cases hn
  ·rw[h0] at hn;cases hn
  ·rw[h0] at hn;cases hn
  ·rw[h0] at hn;cases hn
  ·intro i pc hi;simp at hi
  ·intro i j pc dn b _ hi;simp at hi
  ·intro i pc n gr m sz xs b hi;simp at hi
theorem aop (r:R B E w0 N σ a w G) {t sz:Nat} {ag:Bool} {ty:TypeId} {p:ah} {cs:List ah} (dr:qw P ty ag sz=true) (hp:σ.env t=.one p) (hx:loadAt σ.h p sz=some cs):
  ∃v,(tE a.tmps (.cell t ty)).run P w=.ok v w/\RA w G σ.h (lO ag cs) v:=by
 have hv:=r.env t
 have iN:=r.sI t
 rw[hp] at hv iN
 have m5:p≠ .bn:=by rintro rfl;simp[Am.loadAt] at hx
 obtain⟨b,of,vs,h1,h2,h3,h4,h5⟩:=r.hr.loadAt hx (hv.fH m5).1 (fun m hm=>iN m hm)
 have Ey:∀n:Nat,n=vs.length->(loadCells (ad b of) n).run P w=.ok vs.toArray w:=fun n hn=>by
  subst hn
  exact run_loadCells_list w (ad b of) vs (fun j u hj=>by rw[ou];exact h3 j u hj)
 unfold qw at dr
 cases hu:P.underlying ty with
 |none=>rw[hu] at dr;simp at dr
 |some d=>
  cases hi:P.info? ty with
  |none=>rw[hu,hi] at dr;cases d<;>simp at dr
  |some i=>
   rw[hu,hi] at dr
   have br:(ag=true/\i.size=sz/\(isAgg ty).run P w=.ok true w)\/(ag=false/\sz=1/\(isAgg ty).run P w=.ok false w):=by
    cases d<;>simp at dr<;>simp[isAgg,run_underlying hu,dr]
   rcases br with⟨rfl,e1,e2⟩|⟨rfl,e1,e2⟩
   ·refine⟨.agg vs.toArray,?_,vs,rfl,h4⟩
    simp[tE,h1,loadVar,asAddr,e2,sizeOf,typeInfo,hi,Ey i.size (by omega)]
   ·subst e1
    match vs,h2 with
    |[u],_=>
     have eB:∃c,cs=[c]:=by
      have:=h4.1
      match cs,this with
      |[c],_=>exact⟨c,rfl⟩
     obtain⟨c,rfl⟩:=eB
     have ii:=h3 0 u rfl
     simp only[Nat.add_zero] at ii
     exact⟨u,by simp[tE,h1,loadVar,asAddr,e2,ii],.inr h4⟩
theorem KL (r:R B E w0 N σ a w G):∀{rs:List ResultVar} {ms:List bC} {vs:List aj},nE P rs ms=true->σ.sB ms=some vs->
  ∃us:List Value,(rs.mapM (tE a.tmps)).run P w=.ok us w/\us.length=vs.length/\us.length=rs.length/\∀(j:Nat) (x:aj) (v:Value),vs[j]? =some x->us[j]? =some v->RA w G σ.h x v
 |[],[],vs,hc,hx=>by
  simp only[St.sB] at hx
  injection hx with hx
  subst hx
  exact⟨[],by simp,rfl,rfl,by simp⟩
 |.tmp t::rs,.tmp t'::ms,vs,hc,hx=>by
  simp only[nE,Bool.and_eq_true,beq_iff_eq] at hc
  obtain⟨rfl,hc⟩:=hc
  simp only[St.sB] at hx
  split at hx
  ·rename_i vs' e
   injection hx with hx
   subst hx
   obtain⟨us,u1,u2,V2,u3⟩:=KL r hc e
   refine⟨a.tmps.getD t undef::us,by simp[tE,u1],by simp[u2],by simp[V2],fun j x v hj hv=>?_⟩
   cases j with
   |zero=>simp only[List.getElem?_cons_zero,Option.some.injEq] at hj hv;subst hj;subst hv;exact r.env t
   |succ j=>exact u3 j x v (by simpa using hj) (by simpa using hv)
  ·cases hx
 |.cell t ty::rs,.cell t' sz ag::ms,vs,hc,hx=>by
  simp only[nE,Bool.and_eq_true,beq_iff_eq] at hc
  obtain⟨⟨rfl,dr⟩,hc⟩:=hc
  simp only[St.sB] at hx
  split at hx
  ·rename_i p hp
   split at hx
   ·rename_i cs vs' e1 e2
    injection hx with hx
    subst hx
    obtain⟨us,u1,u2,V2,u3⟩:=KL r hc e2
    obtain⟨v0,v1,v2⟩:=aop r dr hp e1
    refine⟨v0::us,by simp[v1,u1],by simp[u2],by simp[V2],fun j x v hj hv=>?_⟩
    cases j with
    |zero=>simp only[List.getElem?_cons_zero,Option.some.injEq] at hj hv;subst hj;subst hv;exact v2
    |succ j=>exact u3 j x v (by simpa using hj) (by simpa using hv)
   ·cases hx
  ·cases hx
 |[],_::_,_,hc,_=>by simp[nE] at hc
 |.tmp _::_,[],_,hc,_=>by simp[nE] at hc
 |.cell _ _::_,[],_,hc,_=>by simp[nE] at hc
 |.tmp _::_,.cell _ _ _::_,_,hc,_=>by simp[nE] at hc
 |.cell _ _::_,.tmp _::_,_,hc,_=>by simp[nE] at hc
theorem anm {aW:List (K×List PC)}:Cs (aW.map rp)=xd aW:=by
 match aW with
 |[]=>rfl
 |[p]=>rfl
 |p::q::aW=>rfl
theorem ab9 (r:R B Ex.no w0 N σ a w G) {fn:Func} {ms:List bC} {ds:List Dv} (hc:nE P fn.results.toList ms=true) (hx:σ.tF ms=some ds):
  ∃aW:List (K×List PC),aW.map (fun p=>(p.1,p.2.map PC.er))=ds/\(results fn a.tmps).run P w=.ok (xd aW) w/\(∀p∈aW,p.1≠ .ptr/\(p.1=.one->p.2.length=1))/\
   Dl w B (aW.flatMap (·.2)):=by
 unfold St.tF at hx
 split at hx
 ·rename_i vs e1
  split at hx
  ·rename_i ue ns e2
   split at hx
   ·rename_i gz
    injection hx with hx
    subst hx
    obtain⟨us,u1,u2,_,u3⟩:=KL r hc e1
    obtain⟨aW,p1,p2,p3,p4,p5⟩:=r.hr.rn e2 u2 u3
    refine⟨aW,p1,?_,p3,⟨fun pc aU=>(p4.each pc aU).eA,fun pc aU b hb=>((p4.each pc aU).new b hb).1,fun i j pc dn b jG hi hj hb=>?_⟩⟩
    ·rw[KM fn a.tmps u1,<-p2,anm]
    ·have hp:=p4.nF gz
     rw[List.pairwise_iff_getElem] at hp
     obtain⟨li,ei⟩:=List.getElem?_eq_some_iff.1 hi
     obtain⟨lj,ej⟩:=List.getElem?_eq_some_iff.1 hj
     subst ei
     subst ej
     rcases Nat.lt_or_gt_of_ne jG with bH|bH
     ·exact hp i j li lj bH b hb
     ·exact fun aY=>hp j i lj li bH b aY hb
   ·cases hx
  ·cases hx
 ·cases hx
theorem anD (hT:oq P T) (hm:P.follows .mixedOrders=true) {f:FuncId} {fn:Func} {c:Code} {mc:lT} {ms:List bC} {M:List Dv->Option (List Dv)} (hf:P.funcs[f]? =some fn) (hb:fn.body=some c)
  (hc:jd P fn.ntmps c mc=true) (hr:nE P fn.results.toList ms=true) (hM:∀ds rs,M ds=some rs->ds.length<=fn.ntmps/\KI T mc ms ds=some rs):du P f M:=by
 intro ds rs nJ w vals ha
 obtain⟨hN,bX⟩:=hM ds rs nJ
 refine calls_of_wp hf hb ?_
 have r0:=R.init (N:=fn.ntmps) ha hN
 unfold KI at bX
 have fin:∀{σ:St} {a:Act} {w':World} {G:Gh},σ.tF ms=some rs->R w.heap.size Ex.no w fn.ntmps σ a w' G->a.defers=[]/\∃v,(results fn a.tmps).run P w'=.ok v w'/\
   ∃aW:List (K×List PC),aW.map (fun p=>(p.1,p.2.map PC.er))=rs/\(Ending.returned v)=.returned (xd aW)/\(∀p∈aW,p.1≠ .ptr/\(p.1=.one->p.2.length=1))/\
   Dl w' w.heap.size (aW.flatMap (·.2))/\Fr w.heap.size Ex.no w w':=by
  intro σ a w' G hx r
  obtain⟨aW,p1,p2,p3,p4⟩:=ab9 r hr hx
  exact⟨r.defers,_,p2,aW,p1,rfl,p3,p4,r.fr⟩
 split at bX
 ·rename_i σ e
  exact mf hT hm mc hc e r0 fun a w' G r=>fin bX r
 ·rename_i σ e
  exact mf hT hm mc hc e r0 fun a w' G r=>fin bX r
 ·cases bX
end
end Go.Am
end
section
namespace Go.Am
end Go.Am
end
