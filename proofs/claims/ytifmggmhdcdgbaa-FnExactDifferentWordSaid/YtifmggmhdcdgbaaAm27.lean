/- Am26, Am27: parts of the proof. No condition. -/
import Derived.Test.YtifmggmhdcdgbaaAm25
set_option linter.unusedVariables false
section
namespace Go.Am
def xu:Dv->ai
 |(.one,[x])=>.one (.c x)
 |(.one,_)=>.one .bg
 |(.agg,xs)=>.agg (xs.map .c)
 |(.ptr,xs)=>.one (.bT xs 0)
def si:Nat->List Dv->(Nat->ai)
 |_,[]=>vn
 |k,d::ds=>av (si (k+1) ds) k (xu d)
def DN (ds:List Dv):St:={env:=si 0 ds,h:=zS,used:=fun n=>Nat.ble aJ n}
def J1 (T:be) (mc:kI) (aB:List bx) (ds:List Dv):Option (List Dv):=
 match dw T mc (DN ds) with
 |some (.fe σ)=>σ.sW aB
 |some (.ret σ)=>σ.sW aB
 |_=>none
section
variable {B:Nat} {E:Ex} {w0 w w':World} {G G':Gh} {N:Nat} {h h':Nat->Option ar} {used:Nat->Bool}
variable {P:Program} {T:be} {a:Act} {σ σ':St} {Q:Exit->Act->World->Prop}
theorem OK:∀(ds:List Dv) (k n:Nat),si k ds n=if k<=n then(match ds[n - k]? with|some d=>xu d|none=>.one .bg) else .one .bg
 |[],k,n=>by simp[si,vn]
 |d::ds,k,n=>by
  simp only[si,iE,OK ds]
  by_cases h:n=k
  ·subst h;simp
  ·by_cases h2:k<=n
   ·have h3:k+1<=n:=by omega
    have h4:n - k=(n - (k+1))+1:=by omega
    simp[h,h2,h3,h4]
   ·have h3:¬k+1<=n:=by omega
    simp[h,h2,h3]
def Nj (w:World):Gh:=⟨fun b=>b<w.heap.size,fun _=>default⟩
theorem acm {d:Dv} {v:Value} (hd:zg w d v):RA w (Nj w) zS (xu d) v:=by
 have cells:∀{bo:List PC},(∀pc∈bo,Good w pc)->cj w (Nj w) zS ((bo.map PC.er).map .c) (bo.map PC.val):=by
  intro bo hg
  refine⟨by simp,fun j c u hj hu=>?_⟩
  simp only[List.getElem?_map,List.map_map] at hj hu
  cases hp:bo[j]? with
  |none=>rw[hp] at hj;cases hj
  |some pc=>
   rw[hp] at hj hu
   simp at hj hu
   subst hj;subst hu
   have Xh:=hg pc (List.mem_of_getElem? hp)
   exact⟨PC.jU pc,pc,rfl,rfl,Xh,fun b hb=>Xh.lt hb⟩
 obtain⟨k,xs⟩:=d
 cases k with
 |one=>
  obtain⟨bo,p1,p2,p3⟩:=hd
  have p1:bo.map PC.er=xs:=p1
  subst p1
  match bo,p3 with
  |[pc],p3=>
   simp at p3
   subst p3
   exact RA.fQ (PC.jU pc) ⟨pc,rfl,rfl,p2 pc (by simp),fun b hb=>(p2 pc (by simp)).lt hb⟩
 |agg=>
  obtain⟨bo,p1,p2,p3⟩:=hd
  have p1:bo.map PC.er=xs:=p1
  subst p1
  exact⟨_,p3,cells p2⟩
 |ptr=>
  obtain⟨bo,b,o,p1,p2,p3,p4⟩:=hd
  have p1:bo.map PC.er=xs:=p1
  subst p1 p2
  exact RA.fQ rfl ⟨b,o,bo,by simp,rfl,p3,fun j c hj=>⟨(p4 j c hj).1,(p4 j c hj).2,fun b' aU=>(p4 j c hj).2.lt aU⟩⟩
theorem acn {d:Dv} {m:Nat}:¬(xu d).ref m:=by
 obtain⟨k,xs⟩:=d
 cases k with
 |one=>match xs with
  |[]=>exact id
  |[x]=>exact id
  |_::_::_=>exact id
 |agg=>
  rintro⟨c,hc,h⟩
  obtain⟨y,_,rfl⟩:=List.mem_map.1 hc
  exact h
 |ptr=>exact id
theorem R.init {ds:List Dv} {vals:List Value} (ha:Fi w ds vals) (hN:ds.length<=N):
  R w.heap.size Ex.no w N (DN ds) {tmps:=vals.toArray++Array.replicate (N - vals.toArray.size) undef,defers:=[]} w (Nj w):=by
 obtain⟨hl,bZ⟩:=ha
 refine⟨rfl,by simp;omega,fun s=>?_,fun s n hn=>?_,?_,Fr.refl _ _ _ (Nat.le_refl _),fun n p b hp=>(by cases hp),fun n hn=>Nat.ble_eq_true_of_le hn⟩
 ·show RA w _ zS (si 0 ds s) _
  rw[OK]
  simp only[Nat.zero_le,if_true,Nat.sub_zero]
  cases hs:ds[s]? with
  |none=>exact Or.inl rfl
  |some d=>
   have gh:s<vals.length:=by rw[hl];exact(List.getElem?_eq_some_iff.1 hs).1
   have hv:vals[s]? =some vals[s]:=List.getElem?_eq_getElem gh
   have:(vals.toArray++Array.replicate (N - vals.toArray.size) undef).getD s undef=vals[s]:=by
    simp[Array.getD_eq_getD_getElem?,Array.getElem?_append,gh]
   rw[this]
   exact acm (bZ s d _ hs hv)
 ·have bh:(si 0 ds s).ref n:=hn
  rw[OK] at bh
  simp only[Nat.zero_le,if_true,Nat.sub_zero] at bh
  cases hs:ds[s]? with
  |none=>rw[hs] at bh;exact absurd bh id
  |some d=>rw[hs] at bh;exact absurd bh acn
 ·have h0:∀n,(DN ds).h n=none:=fun n=>rfl
  refine⟨fun n hn=>absurd (h0 n) hn,fun m cs c n hm=>?_,fun n cs hn=>?_,fun n gr m sz xs hn=>?_,fun n hn=>absurd (h0 n) hn,fun n n' hn=>absurd (h0 n) hn,fun b hb=>hb,fun b _=>.inr (.inr trivial),
   fun n n' gr m sz xs bf m' aK au hn=>?_,fun n gr sz xs hn=>?_,?_,?_,?_⟩
  ·rw[h0] at hm;cases hm
  ·rw[h0] at hn;cases hn
  ·rw[h0] at hn;cases hn
  ·rw[h0] at hn;cases hn
  ·rw[h0] at hn;cases hn
  ·intro i pc hi;simp at hi
  ·intro i j pc cR b _ hi;simp at hi
  ·intro i pc n gr m sz xs b hi;simp at hi
theorem ang (r:R B E w0 N σ a w G) {t sz:Nat} {ag:Bool} {ty:TypeId} {p:ah} {cs:List ah} (dg:pf P ty ag sz=true) (hp:σ.env t=.one p) (hx:loadAt σ.h p sz=some cs):
  ∃v,(sV a.tmps (.cell t ty)).run P w=.ok v w/\RA w G σ.h (kC ag cs) v:=by
 have hv:=r.env t
 have g0:=r.ru t
 rw[hp] at hv g0
 have lH:p≠ .bg:=by rintro rfl;simp[Am.loadAt] at hx
 obtain⟨b,of,vs,h1,h2,h3,h4,h5⟩:=r.hr.loadAt hx (hv.eX lH).1 (fun m hm=>g0 m hm)
 have Dj:∀n:Nat,n=vs.length->(loadCells (ad b of) n).run P w=.ok vs.toArray w:=fun n hn=>by
  subst hn
  exact run_loadCells_list w (ad b of) vs (fun j u hj=>by rw[nb];exact h3 j u hj)
 unfold pf at dg
 cases hu:P.underlying ty with
 |none=>rw[hu] at dg;simp at dg
 |some d=>
  cases hi:P.info? ty with
  |none=>rw[hu,hi] at dg;cases d<;>simp at dg
  |some i=>
   rw[hu,hi] at dg
   have bn:(ag=true/\i.size=sz/\(isAgg ty).run P w=.ok true w)\/(ag=false/\sz=1/\(isAgg ty).run P w=.ok false w):=by
    cases d<;>simp at dg<;>simp[isAgg,run_underlying hu,dg]
   rcases bn with⟨rfl,e1,e2⟩|⟨rfl,e1,e2⟩
   ·refine⟨.agg vs.toArray,?_,vs,rfl,h4⟩
    simp[sV,h1,loadVar,asAddr,e2,sizeOf,typeInfo,hi,Dj i.size (by omega)]
   ·subst e1
    match vs,h2 with
    |[u],_=>
     have dG:∃c,cs=[c]:=by
      have:=h4.1
      match cs,this with
      |[c],_=>exact⟨c,rfl⟩
     obtain⟨c,rfl⟩:=dG
     have gy:=h3 0 u rfl
     simp only[Nat.add_zero] at gy
     exact⟨u,by simp[sV,h1,loadVar,asAddr,e2,gy],.inr h4⟩
theorem J5 (r:R B E w0 N σ a w G):∀{rs:List ResultVar} {ms:List bx} {vs:List ai},mw P rs ms=true->σ.rl ms=some vs->
  ∃us:List Value,(rs.mapM (sV a.tmps)).run P w=.ok us w/\us.length=vs.length/\us.length=rs.length/\∀(j:Nat) (x:ai) (v:Value),vs[j]? =some x->us[j]? =some v->RA w G σ.h x v
 |[],[],vs,hc,hx=>by
  simp only[St.rl] at hx
  injection hx with hx
  subst hx
  exact⟨[],by simp,rfl,rfl,by simp⟩
 |.tmp t::rs,.tmp t'::ms,vs,hc,hx=>by
  simp only[mw,Bool.and_eq_true,beq_iff_eq] at hc
  obtain⟨rfl,hc⟩:=hc
  simp only[St.rl] at hx
  split at hx
  ·rename_i vs' e
   injection hx with hx
   subst hx
   obtain⟨us,u1,u2,Uv,u3⟩:=J5 r hc e
   refine⟨a.tmps.getD t undef::us,by simp[sV,u1],by simp[u2],by simp[Uv],fun j x v hj hv=>?_⟩
   cases j with
   |zero=>simp only[List.getElem?_cons_zero,Option.some.injEq] at hj hv;subst hj;subst hv;exact r.env t
   |succ j=>exact u3 j x v (by simpa using hj) (by simpa using hv)
  ·cases hx
 |.cell t ty::rs,.cell t' sz ag::ms,vs,hc,hx=>by
  simp only[mw,Bool.and_eq_true,beq_iff_eq] at hc
  obtain⟨⟨rfl,dg⟩,hc⟩:=hc
  simp only[St.rl] at hx
  split at hx
  ·rename_i p hp
   split at hx
   ·rename_i cs vs' e1 e2
    injection hx with hx
    subst hx
    obtain⟨us,u1,u2,Uv,u3⟩:=J5 r hc e2
    obtain⟨v0,v1,v2⟩:=ang r dg hp e1
    refine⟨v0::us,by simp[v1,u1],by simp[u2],by simp[Uv],fun j x v hj hv=>?_⟩
    cases j with
    |zero=>simp only[List.getElem?_cons_zero,Option.some.injEq] at hj hv;subst hj;subst hv;exact v2
    |succ j=>exact u3 j x v (by simpa using hj) (by simpa using hv)
   ·cases hx
  ·cases hx
 |[],_::_,_,hc,_=>by simp[mw] at hc
 |.tmp _::_,[],_,hc,_=>by simp[mw] at hc
 |.cell _ _::_,[],_,hc,_=>by simp[mw] at hc
 |.tmp _::_,.cell _ _ _::_,_,hc,_=>by simp[mw] at hc
 |.cell _ _::_,.tmp _::_,_,hc,_=>by simp[mw] at hc
theorem amz {aO:List (K×List PC)}:Br (aO.map qc)=wK aO:=by
 match aO with
 |[]=>rfl
 |[p]=>rfl
 |p::q::aO=>rfl
theorem aas (r:R B Ex.no w0 N σ a w G) {fn:Func} {ms:List bx} {ds:List Dv} (hc:mw P fn.results.toList ms=true) (hx:σ.sW ms=some ds):
  ∃aO:List (K×List PC),aO.map (fun p=>(p.1,p.2.map PC.er))=ds/\(results fn a.tmps).run P w=.ok (wK aO) w/\(∀p∈aO,p.1≠ .ptr/\(p.1=.one->p.2.length=1))/\
   Cl w B (aO.flatMap (·.2)):=by
 unfold St.sW at hx
 split at hx
 ·rename_i vs e1
  split at hx
  ·rename_i xE ns e2
   split at hx
   ·rename_i fJ
    injection hx with hx
    subst hx
    obtain⟨us,u1,u2,_,u3⟩:=J5 r hc e1
    obtain⟨aO,p1,p2,p3,p4,p5⟩:=r.hr.qb e2 u2 u3
    refine⟨aO,p1,?_,p3,⟨fun pc aZ=>(p4.each pc aZ).dF,fun pc aZ b hb=>((p4.each pc aZ).new b hb).1,fun i j pc cR b jC hi hj hb=>?_⟩⟩
    ·rw[J6 fn a.tmps u1,<-p2,amz]
    ·have hp:=p4.mz fJ
     rw[List.pairwise_iff_getElem] at hp
     obtain⟨li,ei⟩:=List.getElem?_eq_some_iff.1 hi
     obtain⟨lj,ej⟩:=List.getElem?_eq_some_iff.1 hj
     subst ei
     subst ej
     rcases Nat.lt_or_gt_of_ne jC with bN|bN
     ·exact hp i j li lj bN b hb
     ·exact fun aU=>hp j i lj li bN b aU hb
   ·cases hx
  ·cases hx
 ·cases hx
theorem amD (hT:m8 P T) (hm:P.follows .mixedOrders=true) {f:FuncId} {fn:Func} {c:Code} {mc:kI} {ms:List bx} {M:List Dv->Option (List Dv)} (hf:P.funcs[f]? =some fn) (hb:fn.body=some c)
  (hc:il P fn.ntmps c mc=true) (hr:mw P fn.results.toList ms=true) (hM:∀ds rs,M ds=some rs->ds.length<=fn.ntmps/\J1 T mc ms ds=some rs):cJ P f M:=by
 intro ds rs mD w vals ha
 obtain⟨hN,bm⟩:=hM ds rs mD
 refine calls_of_wp hf hb ?_
 have r0:=R.init (N:=fn.ntmps) ha hN
 unfold J1 at bm
 have gb:∀{σ:St} {a:Act} {w':World} {G:Gh},σ.sW ms=some rs->R w.heap.size Ex.no w fn.ntmps σ a w' G->a.defers=[]/\∃v,(results fn a.tmps).run P w'=.ok v w'/\
   ∃aO:List (K×List PC),aO.map (fun p=>(p.1,p.2.map PC.er))=rs/\(Ending.returned v)=.returned (wK aO)/\(∀p∈aO,p.1≠ .ptr/\(p.1=.one->p.2.length=1))/\
   Cl w' w.heap.size (aO.flatMap (·.2))/\Fr w.heap.size Ex.no w w':=by
  intro σ a w' G hx r
  obtain⟨aO,p1,p2,p3,p4⟩:=aas r hr hx
  exact⟨r.defers,_,p2,aO,p1,rfl,p3,p4,r.fr⟩
 split at bm
 ·rename_i σ e
  exact kO hT hm mc hc e r0 fun a w' G r=>gb bm r
 ·rename_i σ e
  exact kO hT hm mc hc e r0 fun a w' G r=>gb bm r
 ·cases bm
end
end Go.Am
end
section
namespace Go.Am
end Go.Am
end
