/- Am26, Am27: parts of the proof. No condition. -/
import Derived.Test.YthildlkhnnogiaaAm25
set_option linter.unusedVariables false
section
namespace Go.Am
def yQ:Dv->ah
 |(.one,[x])=>.one (.c x)
 |(.one,_)=>.one .aX
 |(.agg,xs)=>.agg (xs.map .c)
 |(.ptr,xs)=>.one (.cd xs 0)
def tL:Nat->List Dv->(Nat->ah)
 |_,[]=>wU
 |k,d::ds=>ao (tL (k+1) ds) k (yQ d)
def E3 (ds:List Dv):St:={env:=tL 0 ds,h:=Bv,used:=fun n=>Nat.ble aJ n}
def Kf (T:aF) (mc:kR) (aB:List bN) (ds:List Dv):Option (List Dv):=
 match dv T mc (E3 ds) with
 |some (.eF σ)=>σ.ub aB
 |some (.ret σ)=>σ.ub aB
 |_=>none
section
variable {B:Nat} {E:Ex} {w0 w w':World} {G G':Gh} {N:Nat} {h h':Nat->Option aj} {used:Nat->Bool}
variable {P:Program} {T:aF} {a:Act} {σ σ':St} {Q:Exit->Act->World->Prop}
theorem Pl:∀(ds:List Dv) (k n:Nat),tL k ds n=if k<=n then(match ds[n - k]? with|some d=>yQ d|none=>.one .aX) else .one .aX
 |[],k,n=>by simp[tL,wU]
 |d::ds,k,n=>by
  simp only[tL,iU,Pl ds]
  by_cases h:n=k
  ·subst h;simp
  ·by_cases h2:k<=n
   ·have h3:k+1<=n:=by omega
    have h4:n - k=(n - (k+1))+1:=by omega
    simp[h,h2,h3,h4]
   ·have h3:¬k+1<=n:=by omega
    simp[h,h2,h3]
def NY (w:World):Gh:=⟨fun b=>b<w.heap.size,fun _=>default⟩
theorem ab9 {d:Dv} {v:Value} (hd:Au w d v):RA w (NY w) Bv (yQ d) v:=by
 have cells:∀{bg:List PC},(∀pc∈bg,Good w pc)->cb w (NY w) Bv ((bg.map PC.er).map .c) (bg.map PC.val):=by
  intro bg hg
  refine⟨by simp,fun j c u hj hu=>?_⟩
  simp only[List.getElem?_map,List.map_map] at hj hu
  cases hp:bg[j]? with
  |none=>rw[hp] at hj;cases hj
  |some pc=>
   rw[hp] at hj hu
   simp at hj hu
   subst hj;subst hu
   have XH:=hg pc (List.mem_of_getElem? hp)
   exact⟨PC.hY pc,pc,rfl,rfl,XH,fun b hb=>XH.lt hb⟩
 obtain⟨k,xs⟩:=d
 cases k with
 |one=>
  obtain⟨bg,p1,p2,p3⟩:=hd
  have p1:bg.map PC.er=xs:=p1
  subst p1
  match bg,p3 with
  |[pc],p3=>
   simp at p3
   subst p3
   exact RA.dS (PC.hY pc) ⟨pc,rfl,rfl,p2 pc (by simp),fun b hb=>(p2 pc (by simp)).lt hb⟩
 |agg=>
  obtain⟨bg,p1,p2,p3⟩:=hd
  have p1:bg.map PC.er=xs:=p1
  subst p1
  exact⟨_,p3,cells p2⟩
 |ptr=>
  obtain⟨bg,b,o,p1,p2,p3,p4⟩:=hd
  have p1:bg.map PC.er=xs:=p1
  subst p1 p2
  exact RA.dS rfl ⟨b,o,bg,by simp,rfl,p3,fun j c hj=>⟨(p4 j c hj).1,(p4 j c hj).2,fun b' aE=>(p4 j c hj).2.lt aE⟩⟩
theorem aca {d:Dv} {m:Nat}:¬(yQ d).ref m:=by
 obtain⟨k,xs⟩:=d
 cases k with
 |one=>match xs with
  |[]=>exact id
  |[x]=>exact id
  |_::_::_=>exact id
 |agg=>
  rintro⟨c,hc,h⟩
  obtain⟨y,_,rfl⟩:=List.mem_map.1 hc
  exact h
 |ptr=>exact id
theorem R.init {ds:List Dv} {vals:List Value} (ha:Dn w ds vals) (hN:ds.length<=N):
  R w.heap.size Ex.no w N (E3 ds) {tmps:=vals.toArray++Array.replicate (N - vals.toArray.size) undef,defers:=[]} w (NY w):=by
 obtain⟨hl,bO⟩:=ha
 refine⟨rfl,by simp;omega,fun s=>?_,fun s n hn=>?_,?_,Fr.refl _ _ _ (Nat.le_refl _),fun n p b hp=>(by cases hp),fun n hn=>Nat.ble_eq_true_of_le hn⟩
 ·show RA w _ Bv (tL 0 ds s) _
  rw[Pl]
  simp only[Nat.zero_le,if_true,Nat.sub_zero]
  cases hs:ds[s]? with
  |none=>exact Or.inl rfl
  |some d=>
   have fC:s<vals.length:=by rw[hl];exact(List.getElem?_eq_some_iff.1 hs).1
   have hv:vals[s]? =some vals[s]:=List.getElem?_eq_getElem fC
   have:(vals.toArray++Array.replicate (N - vals.toArray.size) undef).getD s undef=vals[s]:=by
    simp[Array.getD_eq_getD_getElem?,Array.getElem?_append,fC]
   rw[this]
   exact ab9 (bO s d _ hs hv)
 ·have bh:(tL 0 ds s).ref n:=hn
  rw[Pl] at bh
  simp only[Nat.zero_le,if_true,Nat.sub_zero] at bh
  cases hs:ds[s]? with
  |none=>rw[hs] at bh;exact absurd bh id
  |some d=>rw[hs] at bh;exact absurd bh aca
 ·have h0:∀n,(E3 ds).h n=none:=fun n=>rfl
  refine⟨fun n hn=>absurd (h0 n) hn,fun m cs c n hm=>?_,fun n cs hn=>?_,fun n gr m sz xs hn=>?_,fun n hn=>absurd (h0 n) hn,fun n n' hn=>absurd (h0 n) hn,fun b hb=>hb,fun b _=>.inr (.inr trivial),
   fun n n' gr m sz xs aW m' ax ak hn=>?_,fun n gr sz xs hn=>?_,?_,?_,?_⟩
  ·rw[h0] at hm;cases hm
  ·rw[h0] at hn;cases hn
  ·rw[h0] at hn;cases hn
  ·rw[h0] at hn;cases hn
  ·rw[h0] at hn;cases hn
  ·intro i pc hi;simp at hi
  ·intro i j pc cm b _ hi;simp at hi
  ·intro i pc n gr m sz xs b hi;simp at hi
theorem alu (r:R B E w0 N σ a w G) {t sz:Nat} {ag:Bool} {ty:TypeId} {p:ab} {cs:List ab} (dO:qm P ty ag sz=true) (hp:σ.env t=.one p) (hx:loadAt σ.h p sz=some cs):
  ∃v,(ua a.tmps (.cell t ty)).run P w=.ok v w/\RA w G σ.h (kM ag cs) v:=by
 have hv:=r.env t
 have io:=r.nO t
 rw[hp] at hv io
 have gW:p≠ .aX:=by rintro rfl;simp[Am.loadAt] at hx
 obtain⟨b,of,vs,h1,h2,h3,h4,h5⟩:=r.hr.loadAt hx (hv.dB gW).1 (fun m hm=>io m hm)
 have EB:∀n:Nat,n=vs.length->(loadCells (ad b of) n).run P w=.ok vs.toArray w:=fun n hn=>by
  subst hn
  exact run_loadCells_list w (ad b of) vs (fun j u hj=>by rw[mY];exact h3 j u hj)
 unfold qm at dO
 cases hu:P.underlying ty with
 |none=>rw[hu] at dO;simp at dO
 |some d=>
  cases hi:P.info? ty with
  |none=>rw[hu,hi] at dO;cases d<;>simp at dO
  |some i=>
   rw[hu,hi] at dO
   have bu:(ag=true/\i.size=sz/\(isAgg ty).run P w=.ok true w)\/(ag=false/\sz=1/\(isAgg ty).run P w=.ok false w):=by
    cases d<;>simp at dO<;>simp[isAgg,run_underlying hu,dO]
   rcases bu with⟨rfl,e1,e2⟩|⟨rfl,e1,e2⟩
   ·refine⟨.agg vs.toArray,?_,vs,rfl,h4⟩
    simp[ua,h1,loadVar,asAddr,e2,sizeOf,typeInfo,hi,EB i.size (by omega)]
   ·subst e1
    match vs,h2 with
    |[u],_=>
     have dm:∃c,cs=[c]:=by
      have:=h4.1
      match cs,this with
      |[c],_=>exact⟨c,rfl⟩
     obtain⟨c,rfl⟩:=dm
     have fQ:=h3 0 u rfl
     simp only[Nat.add_zero] at fQ
     exact⟨u,by simp[ua,h1,loadVar,asAddr,e2,fQ],.inr h4⟩
theorem Kj (r:R B E w0 N σ a w G):∀{rs:List ResultVar} {ms:List bN} {vs:List ah},m6 P rs ms=true->σ.su ms=some vs->
  ∃us:List Value,(rs.mapM (ua a.tmps)).run P w=.ok us w/\us.length=vs.length/\us.length=rs.length/\∀(j:Nat) (x:ah) (v:Value),vs[j]? =some x->us[j]? =some v->RA w G σ.h x v
 |[],[],vs,hc,hx=>by
  simp only[St.su] at hx
  injection hx with hx
  subst hx
  exact⟨[],by simp,rfl,rfl,by simp⟩
 |.tmp t::rs,.tmp t'::ms,vs,hc,hx=>by
  simp only[m6,Bool.and_eq_true,beq_iff_eq] at hc
  obtain⟨rfl,hc⟩:=hc
  simp only[St.su] at hx
  split at hx
  ·rename_i vs' e
   injection hx with hx
   subst hx
   obtain⟨us,u1,u2,UF,u3⟩:=Kj r hc e
   refine⟨a.tmps.getD t undef::us,by simp[ua,u1],by simp[u2],by simp[UF],fun j x v hj hv=>?_⟩
   cases j with
   |zero=>simp only[List.getElem?_cons_zero,Option.some.injEq] at hj hv;subst hj;subst hv;exact r.env t
   |succ j=>exact u3 j x v (by simpa using hj) (by simpa using hv)
  ·cases hx
 |.cell t ty::rs,.cell t' sz ag::ms,vs,hc,hx=>by
  simp only[m6,Bool.and_eq_true,beq_iff_eq] at hc
  obtain⟨⟨rfl,dO⟩,hc⟩:=hc
  simp only[St.su] at hx
  split at hx
  ·rename_i p hp
   split at hx
   ·rename_i cs vs' e1 e2
    injection hx with hx
    subst hx
    obtain⟨us,u1,u2,UF,u3⟩:=Kj r hc e2
    obtain⟨v0,v1,v2⟩:=alu r dO hp e1
    refine⟨v0::us,by simp[v1,u1],by simp[u2],by simp[UF],fun j x v hj hv=>?_⟩
    cases j with
    |zero=>simp only[List.getElem?_cons_zero,Option.some.injEq] at hj hv;subst hj;subst hv;exact v2
    |succ j=>exact u3 j x v (by simpa using hj) (by simpa using hv)
   ·cases hx
  ·cases hx
 |[],_::_,_,hc,_=>by simp[m6] at hc
 |.tmp _::_,[],_,hc,_=>by simp[m6] at hc
 |.cell _ _::_,[],_,hc,_=>by simp[m6] at hc
 |.tmp _::_,.cell _ _ _::_,_,hc,_=>by simp[m6] at hc
 |.cell _ _::_,.tmp _::_,_,hc,_=>by simp[m6] at hc
theorem akM {aU:List (K×List PC)}:CE (aU.map rk)=v5 aU:=by
 match aU with
 |[]=>rfl
 |[p]=>rfl
 |p::q::aU=>rfl
theorem Z8 (r:R B Ex.no w0 N σ a w G) {fn:Func} {ms:List bN} {ds:List Dv} (hc:m6 P fn.results.toList ms=true) (hx:σ.ub ms=some ds):
  ∃aU:List (K×List PC),aU.map (fun p=>(p.1,p.2.map PC.er))=ds/\(results fn a.tmps).run P w=.ok (v5 aU) w/\(∀p∈aU,p.1≠ .ptr/\(p.1=.one->p.2.length=1))/\
   yM w B (aU.flatMap (·.2)):=by
 unfold St.ub at hx
 split at hx
 ·rename_i vs e1
  split at hx
  ·rename_i tf ns e2
   split at hx
   ·rename_i d7
    injection hx with hx
    subst hx
    obtain⟨us,u1,u2,_,u3⟩:=Kj r hc e1
    obtain⟨aU,p1,p2,p3,p4,p5⟩:=r.hr.rj e2 u2 u3
    refine⟨aU,p1,?_,p3,⟨fun pc aT=>(p4.each pc aT).dk,fun pc aT b hb=>((p4.each pc aT).new b hb).1,fun i j pc cm b gL hi hj hb=>?_⟩⟩
    ·rw[Kk fn a.tmps u1,<-p2,akM]
    ·have hp:=p4.m8 d7
     rw[List.pairwise_iff_getElem] at hp
     obtain⟨li,ei⟩:=List.getElem?_eq_some_iff.1 hi
     obtain⟨lj,ej⟩:=List.getElem?_eq_some_iff.1 hj
     subst ei
     subst ej
     rcases Nat.lt_or_gt_of_ne gL with bS|bS
     ·exact hp i j li lj bS b hb
     ·exact fun aE=>hp j i lj li bS b aE hb
   ·cases hx
  ·cases hx
 ·cases hx
theorem akR (hT:jn P T) (hm:P.follows .mixedOrders=true) {f:FuncId} {fn:Func} {c:Code} {mc:kR} {ms:List bN} {M:List Dv->Option (List Dv)} (hf:P.funcs[f]? =some fn) (hb:fn.body=some c)
  (hc:ic P fn.ntmps c mc=true) (hr:m6 P fn.results.toList ms=true) (hM:∀ds rs,M ds=some rs->ds.length<=fn.ntmps/\Kf T mc ms ds=some rs):de P f M:=by
 intro ds rs iC w vals ha
 obtain⟨hN,aS⟩:=hM ds rs iC
 refine calls_of_wp hf hb ?_
 have r0:=R.init (N:=fn.ntmps) ha hN
 unfold Kf at aS
 have gv:∀{σ:St} {a:Act} {w':World} {G:Gh},σ.ub ms=some rs->R w.heap.size Ex.no w fn.ntmps σ a w' G->a.defers=[]/\∃v,(results fn a.tmps).run P w'=.ok v w'/\
   ∃aU:List (K×List PC),aU.map (fun p=>(p.1,p.2.map PC.er))=rs/\(Ending.returned v)=.returned (v5 aU)/\(∀p∈aU,p.1≠ .ptr/\(p.1=.one->p.2.length=1))/\
   yM w' w.heap.size (aU.flatMap (·.2))/\Fr w.heap.size Ex.no w w':=by
  intro σ a w' G hx r
  obtain⟨aU,p1,p2,p3,p4⟩:=Z8 r hr hx
  exact⟨r.defers,_,p2,aU,p1,rfl,p3,p4,r.fr⟩
 split at aS
 ·rename_i σ e
  exact kZ hT hm mc hc e r0 fun a w' G r=>gv aS r
 ·rename_i σ e
  exact kZ hT hm mc hc e r0 fun a w' G r=>gv aS r
 ·cases aS
end
end Go.Am
end
section
namespace Go.Am
end Go.Am
end
