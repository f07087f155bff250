/- Am26, Am27: parts of the proof. No condition. -/
import Derived.Test.YtfkfmbhknekkdaaAm25
set_option linter.unusedVariables false
section
namespace Go.Am
def vC:Dv->ai
 |(.one,[x])=>.one (.c x)
 |(.one,_)=>.one .bg
 |(.agg,xs)=>.agg (xs.map .c)
 |(.ptr,xs)=>.one (.bV xs 0)
def re:Nat->List Dv->(Nat->ai)
 |_,[]=>yn
 |k,d::ds=>aq (re (k+1) ds) k (vC d)
def Cc (ds:List Dv):St:={env:=re 0 ds,h:=yo,used:=fun n=>Nat.ble aZ n}
def GL (T:aA) (mc:ld) (aG:List cD) (ds:List Dv):Option (List Dv):=
 match dH T mc (Cc ds) with
 |some (.fx σ)=>σ.rz aG
 |some (.ret σ)=>σ.rz aG
 |_=>none
section
variable {B:Nat} {E:Ex} {w0 w w':World} {G G':Gh} {N:Nat} {h h':Nat->Option ak} {used:Nat->Bool}
variable {P:Program} {T:aA} {a:Act} {σ σ':St} {Q:Exit->Act->World->Prop}
theorem LK:∀(ds:List Dv) (k n:Nat),re k ds n=if k<=n then(match ds[n - k]? with|some d=>vC d|none=>.one .bg) else .one .bg
 |[],k,n=>by simp[re,yn]
 |d::ds,k,n=>by
  simp only[re,ik,LK ds]
  by_cases h:n=k
  ·subst h;simp
  ·by_cases h2:k<=n
   ·have h3:k+1<=n:=by omega
    have h4:n - k=(n - (k+1))+1:=by omega
    simp[h,h2,h3,h4]
   ·have h3:¬k+1<=n:=by omega
    simp[h,h2,h3]
def Kq (w:World):Gh:=⟨fun b=>b<w.heap.size,fun _=>default⟩
theorem Z9 {d:Dv} {v:Value} (hd:xy w d v):RA w (Kq w) yo (vC d) v:=by
 have cells:∀{bk:List PC},(∀pc∈bk,Good w pc)->cL w (Kq w) yo ((bk.map PC.er).map .c) (bk.map PC.val):=by
  intro bk hg
  refine⟨by simp,fun j c u hj hu=>?_⟩
  simp only[List.getElem?_map,List.map_map] at hj hu
  cases hp:bk[j]? with
  |none=>rw[hp] at hj;cases hj
  |some pc=>
   rw[hp] at hj hu
   simp at hj hu
   subst hj;subst hu
   have T5:=hg pc (List.mem_of_getElem? hp)
   exact⟨PC.jN pc,pc,rfl,rfl,T5,fun b hb=>T5.lt hb⟩
 obtain⟨k,xs⟩:=d
 cases k with
 |one=>
  obtain⟨bk,p1,p2,p3⟩:=hd
  have p1:bk.map PC.er=xs:=p1
  subst p1
  match bk,p3 with
  |[pc],p3=>
   simp at p3
   subst p3
   exact RA.fi (PC.jN pc) ⟨pc,rfl,rfl,p2 pc (by simp),fun b hb=>(p2 pc (by simp)).lt hb⟩
 |agg=>
  obtain⟨bk,p1,p2,p3⟩:=hd
  have p1:bk.map PC.er=xs:=p1
  subst p1
  exact⟨_,p3,cells p2⟩
 |ptr=>
  obtain⟨bk,b,o,p1,p2,p3,p4⟩:=hd
  have p1:bk.map PC.er=xs:=p1
  subst p1 p2
  exact RA.fi rfl ⟨b,o,bk,by simp,rfl,p3,fun j c hj=>⟨(p4 j c hj).1,(p4 j c hj).2,fun b' aL=>(p4 j c hj).2.lt aL⟩⟩
theorem aaa {d:Dv} {m:Nat}:¬(vC d).ref m:=by
 obtain⟨k,xs⟩:=d
 cases k with
 |one=>match xs with
  |[]=>exact id
  |[x]=>exact id
  |_::_::_=>exact id
 |agg=>
  rintro⟨c,hc,h⟩
  obtain⟨y,_,rfl⟩:=List.mem_map.1 hc
  exact h
 |ptr=>exact id
theorem R.init {ds:List Dv} {vals:List Value} (ha:Dj w ds vals) (hN:ds.length<=N):
  R w.heap.size Ex.no w N (Cc ds) {tmps:=vals.toArray++Array.replicate (N - vals.toArray.size) undef,defers:=[]} w (Kq w):=by
 obtain⟨hl,bK⟩:=ha
 refine⟨rfl,by simp;omega,fun s=>?_,fun s n hn=>?_,?_,Fr.refl _ _ _ (Nat.le_refl _),fun n p b hp=>(by cases hp),fun n hn=>Nat.ble_eq_true_of_le hn⟩
 ·show RA w _ yo (re 0 ds s) _
  rw[LK]
  simp only[Nat.zero_le,if_true,Nat.sub_zero]
  cases hs:ds[s]? with
  |none=>exact Or.inl rfl
  |some d=>
   have fQ:s<vals.length:=by rw[hl];exact(List.getElem?_eq_some_iff.1 hs).1
   have hv:vals[s]? =some vals[s]:=List.getElem?_eq_getElem fQ
   have:(vals.toArray++Array.replicate (N - vals.toArray.size) undef).getD s undef=vals[s]:=by
    simp[Array.getD_eq_getD_getElem?,Array.getElem?_append,fQ]
   rw[this]
   exact Z9 (bK s d _ hs hv)
 ·have bC:(re 0 ds s).ref n:=hn
  rw[LK] at bC
  simp only[Nat.zero_le,if_true,Nat.sub_zero] at bC
  cases hs:ds[s]? with
  |none=>rw[hs] at bC;exact absurd bC id
  |some d=>rw[hs] at bC;exact absurd bC aaa
 ·have h0:∀n,(Cc ds).h n=none:=fun n=>rfl
  refine⟨fun n hn=>absurd (h0 n) hn,fun m cs c n hm=>?_,fun n cs hn=>?_,fun n gr m sz xs hn=>?_,fun n hn=>absurd (h0 n) hn,fun n n' hn=>absurd (h0 n) hn,fun b hb=>hb,fun b _=>.inr (.inr trivial),
   fun n n' gr m sz xs aU m' aC ao hn=>?_,fun n gr sz xs hn=>?_,?_,?_,?_⟩
  ·rw[h0] at hm;cases hm
  ·rw[h0] at hn;cases hn
  ·rw[h0] at hn;cases hn
  ·rw[h0] at hn;cases hn
  ·rw[h0] at hn;cases hn
  ·intro i pc hi;simp at hi
  ·intro i j pc dd b _ hi;simp at hi
  ·intro i pc n gr m sz xs b hi;simp at hi
theorem aj8 (r:R B E w0 N σ a w G) {t sz:Nat} {ag:Bool} {ty:TypeId} {p:ae} {cs:List ae} (dh:nP P ty ag sz=true) (hp:σ.env t=.one p) (hx:loadAt σ.h p sz=some cs):
  ∃v,(rv a.tmps (.cell t ty)).run P w=.ok v w/\RA w G σ.h (jL ag cs) v:=by
 have hv:=r.env t
 have gE:=r.qj t
 rw[hp] at hv gE
 have pK:p≠ .bg:=by rintro rfl;simp[Am.loadAt] at hx
 obtain⟨b,of,vs,h1,h2,h3,h4,h5⟩:=r.hr.loadAt hx (hv.eB pK).1 (fun m hm=>gE m hm)
 have BM:∀n:Nat,n=vs.length->(loadCells (ad b of) n).run P w=.ok vs.toArray w:=fun n hn=>by
  subst hn
  exact run_loadCells_list w (ad b of) vs (fun j u hj=>by rw[lV];exact h3 j u hj)
 unfold nP at dh
 cases hu:P.underlying ty with
 |none=>rw[hu] at dh;simp at dh
 |some d=>
  cases hi:P.info? ty with
  |none=>rw[hu,hi] at dh;cases d<;>simp at dh
  |some i=>
   rw[hu,hi] at dh
   have aW:(ag=true/\i.size=sz/\(isAgg ty).run P w=.ok true w)\/(ag=false/\sz=1/\(isAgg ty).run P w=.ok false w):=by
    cases d<;>simp at dh<;>simp[isAgg,run_underlying hu,dh]
   rcases aW with⟨rfl,e1,e2⟩|⟨rfl,e1,e2⟩
   ·refine⟨.agg vs.toArray,?_,vs,rfl,h4⟩
    simp[rv,h1,loadVar,asAddr,e2,sizeOf,typeInfo,hi,BM i.size (by omega)]
   ·subst e1
    match vs,h2 with
    |[u],_=>
     have eF:∃c,cs=[c]:=by
      have:=h4.1
      match cs,this with
      |[c],_=>exact⟨c,rfl⟩
     obtain⟨c,rfl⟩:=eF
     have fI:=h3 0 u rfl
     simp only[Nat.add_zero] at fI
     exact⟨u,by simp[rv,h1,loadVar,asAddr,e2,fI],.inr h4⟩
theorem OI (r:R B E w0 N σ a w G):∀{rs:List ResultVar} {ms:List cD} {vs:List ai},lW P rs ms=true->σ.ry ms=some vs->
  ∃us:List Value,(rs.mapM (rv a.tmps)).run P w=.ok us w/\us.length=vs.length/\us.length=rs.length/\∀(j:Nat) (x:ai) (v:Value),vs[j]? =some x->us[j]? =some v->RA w G σ.h x v
 |[],[],vs,hc,hx=>by
  simp only[St.ry] at hx
  injection hx with hx
  subst hx
  exact⟨[],by simp,rfl,rfl,by simp⟩
 |.tmp t::rs,.tmp t'::ms,vs,hc,hx=>by
  simp only[lW,Bool.and_eq_true,beq_iff_eq] at hc
  obtain⟨rfl,hc⟩:=hc
  simp only[St.ry] at hx
  split at hx
  ·rename_i vs' e
   injection hx with hx
   subst hx
   obtain⟨us,u1,u2,Qr,u3⟩:=OI r hc e
   refine⟨a.tmps.getD t undef::us,by simp[rv,u1],by simp[u2],by simp[Qr],fun j x v hj hv=>?_⟩
   cases j with
   |zero=>simp only[List.getElem?_cons_zero,Option.some.injEq] at hj hv;subst hj;subst hv;exact r.env t
   |succ j=>exact u3 j x v (by simpa using hj) (by simpa using hv)
  ·cases hx
 |.cell t ty::rs,.cell t' sz ag::ms,vs,hc,hx=>by
  simp only[lW,Bool.and_eq_true,beq_iff_eq] at hc
  obtain⟨⟨rfl,dh⟩,hc⟩:=hc
  simp only[St.ry] at hx
  split at hx
  ·rename_i p hp
   split at hx
   ·rename_i cs vs' e1 e2
    injection hx with hx
    subst hx
    obtain⟨us,u1,u2,Qr,u3⟩:=OI r hc e2
    obtain⟨v0,v1,v2⟩:=aj8 r dh hp e1
    refine⟨v0::us,by simp[v1,u1],by simp[u2],by simp[Qr],fun j x v hj hv=>?_⟩
    cases j with
    |zero=>simp only[List.getElem?_cons_zero,Option.some.injEq] at hj hv;subst hj;subst hv;exact v2
    |succ j=>exact u3 j x v (by simpa using hj) (by simpa using hv)
   ·cases hx
  ·cases hx
 |[],_::_,_,hc,_=>by simp[lW] at hc
 |.tmp _::_,[],_,hc,_=>by simp[lW] at hc
 |.cell _ _::_,[],_,hc,_=>by simp[lW] at hc
 |.tmp _::_,.cell _ _ _::_,_,hc,_=>by simp[lW] at hc
 |.cell _ _::_,.tmp _::_,_,hc,_=>by simp[lW] at hc
theorem ai2 {aT:List (K×List PC)}:CE (aT.map oJ)=sZ aT:=by
 match aT with
 |[]=>rfl
 |[p]=>rfl
 |p::q::aT=>rfl
theorem XZ (r:R B Ex.no w0 N σ a w G) {fn:Func} {ms:List cD} {ds:List Dv} (hc:lW P fn.results.toList ms=true) (hx:σ.rz ms=some ds):
  ∃aT:List (K×List PC),aT.map (fun p=>(p.1,p.2.map PC.er))=ds/\(results fn a.tmps).run P w=.ok (sZ aT) w/\(∀p∈aT,p.1≠ .ptr/\(p.1=.one->p.2.length=1))/\
   xT w B (aT.flatMap (·.2)):=by
 unfold St.rz at hx
 split at hx
 ·rename_i vs e1
  split at hx
  ·rename_i r9 ns e2
   split at hx
   ·rename_i dN
    injection hx with hx
    subst hx
    obtain⟨us,u1,u2,_,u3⟩:=OI r hc e1
    obtain⟨aT,p1,p2,p3,p4,p5⟩:=r.hr.oI e2 u2 u3
    refine⟨aT,p1,?_,p3,⟨fun pc bc=>(p4.each pc bc).dA,fun pc bc b hb=>((p4.each pc bc).new b hb).1,fun i j pc dd b hZ hi hj hb=>?_⟩⟩
    ·rw[Yc fn a.tmps u1,<-p2,ai2]
    ·have hp:=p4.lm dN
     rw[List.pairwise_iff_getElem] at hp
     obtain⟨li,ei⟩:=List.getElem?_eq_some_iff.1 hi
     obtain⟨lj,ej⟩:=List.getElem?_eq_some_iff.1 hj
     subst ei
     subst ej
     rcases Nat.lt_or_gt_of_ne hZ with bB|bB
     ·exact hp i j li lj bB b hb
     ·exact fun aL=>hp j i lj li bB b aL hb
   ·cases hx
  ·cases hx
 ·cases hx
theorem ajf (hT:mR P T) (hm:P.follows .mixedOrders=true) {f:FuncId} {fn:Func} {c:Code} {mc:ld} {ms:List cD} {M:List Dv->Option (List Dv)} (hf:P.funcs[f]? =some fn) (hb:fn.body=some c)
  (hc:iv P fn.ntmps c mc=true) (hr:lW P fn.results.toList ms=true) (hM:∀ds rs,M ds=some rs->ds.length<=fn.ntmps/\GL T mc ms ds=some rs):dO P f M:=by
 intro ds rs jZ w vals ha
 obtain⟨hN,bH⟩:=hM ds rs jZ
 refine calls_of_wp hf hb ?_
 have r0:=R.init (N:=fn.ntmps) ha hN
 unfold GL at bH
 have fin:∀{σ:St} {a:Act} {w':World} {G:Gh},σ.rz ms=some rs->R w.heap.size Ex.no w fn.ntmps σ a w' G->a.defers=[]/\∃v,(results fn a.tmps).run P w'=.ok v w'/\
   ∃aT:List (K×List PC),aT.map (fun p=>(p.1,p.2.map PC.er))=rs/\(Ending.returned v)=.returned (sZ aT)/\(∀p∈aT,p.1≠ .ptr/\(p.1=.one->p.2.length=1))/\
   xT w' w.heap.size (aT.flatMap (·.2))/\Fr w.heap.size Ex.no w w':=by
  intro σ a w' G hx r
  obtain⟨aT,p1,p2,p3,p4⟩:=XZ r hr hx
  exact⟨r.defers,_,p2,aT,p1,rfl,p3,p4,r.fr⟩
 split at bH
 ·rename_i σ e
  exact lk hT hm mc hc e r0 fun a w' G r=>fin bH r
 ·rename_i σ e
  exact lk hT hm mc hc e r0 fun a w' G r=>fin bH r
 ·cases bH
end
end Go.Am
end
section
namespace Go.Am
end Go.Am
end
