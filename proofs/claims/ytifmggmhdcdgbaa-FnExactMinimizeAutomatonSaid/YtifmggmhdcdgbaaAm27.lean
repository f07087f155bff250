/- Am26, Am27: parts of the proof. No condition. -/
import Derived.Test.YtifmggmhdcdgbaaAm25
set_option linter.unusedVariables false
section
namespace Go.Am
def xf:Dv->aj
 |(.one,[x])=>.one (.c x)
 |(.one,_)=>.one .bj
 |(.agg,xs)=>.agg (xs.map .c)
 |(.ptr,xs)=>.one (.cf xs 0)
def sG:Nat->List Dv->(Nat->aj)
 |_,[]=>vm
 |k,d::ds=>av (sG (k+1) ds) k (xf d)
def Dc (ds:List Dv):St:={env:=sG 0 ds,h:=zC,used:=fun n=>Nat.ble aI n}
def IH (T:bh) (mc:lz) (aB:List bA) (ds:List Dv):Option (List Dv):=
 match dK T mc (Dc ds) with
 |some (.fC σ)=>σ.sT aB
 |some (.ret σ)=>σ.sT aB
 |_=>none
section
variable {B:Nat} {E:Ex} {w0 w w':World} {G G':Gh} {N:Nat} {h h':Nat->Option aq} {used:Nat->Bool}
variable {P:Program} {T:bh} {a:Act} {σ σ':St} {Q:Exit->Act->World->Prop}
theorem NB:∀(ds:List Dv) (k n:Nat),sG k ds n=if k<=n then(match ds[n - k]? with|some d=>xf d|none=>.one .bj) else .one .bj
 |[],k,n=>by simp[sG,vm]
 |d::ds,k,n=>by
  simp only[sG,jp,NB ds]
  by_cases h:n=k
  ·subst h;simp
  ·by_cases h2:k<=n
   ·have h3:k+1<=n:=by omega
    have h4:n - k=(n - (k+1))+1:=by omega
    simp[h,h2,h3,h4]
   ·have h3:¬k+1<=n:=by omega
    simp[h,h2,h3]
def Md (w:World):Gh:=⟨fun b=>b<w.heap.size,fun _=>default⟩
theorem aaD {d:Dv} {v:Value} (hd:yQ w d v):RA w (Md w) zC (xf d) v:=by
 have cells:∀{bz:List PC},(∀pc∈bz,Good w pc)->cA w (Md w) zC ((bz.map PC.er).map .c) (bz.map PC.val):=by
  intro bz hg
  refine⟨by simp,fun j c u hj hu=>?_⟩
  simp only[List.getElem?_map,List.map_map] at hj hu
  cases hp:bz[j]? with
  |none=>rw[hp] at hj;cases hj
  |some pc=>
   rw[hp] at hj hu
   simp at hj hu
   subst hj;subst hu
   have V2:=hg pc (List.mem_of_getElem? hp)
   exact⟨PC.kI pc,pc,rfl,rfl,V2,fun b hb=>V2.lt hb⟩
 obtain⟨k,xs⟩:=d
 cases k with
 |one=>
  obtain⟨bz,p1,p2,p3⟩:=hd
  have p1:bz.map PC.er=xs:=p1
  subst p1
  match bz,p3 with
  |[pc],p3=>
   simp at p3
   subst p3
   exact RA.gp (PC.kI pc) ⟨pc,rfl,rfl,p2 pc (by simp),fun b hb=>(p2 pc (by simp)).lt hb⟩
 |agg=>
  obtain⟨bz,p1,p2,p3⟩:=hd
  have p1:bz.map PC.er=xs:=p1
  subst p1
  exact⟨_,p3,cells p2⟩
 |ptr=>
  obtain⟨bz,b,o,p1,p2,p3,p4⟩:=hd
  have p1:bz.map PC.er=xs:=p1
  subst p1 p2
  exact RA.gp rfl ⟨b,o,bz,by simp,rfl,p3,fun j c hj=>⟨(p4 j c hj).1,(p4 j c hj).2,fun b' aX=>(p4 j c hj).2.lt aX⟩⟩
theorem aaE {d:Dv} {m:Nat}:¬(xf d).ref m:=by
 obtain⟨k,xs⟩:=d
 cases k with
 |one=>match xs with
  |[]=>exact id
  |[x]=>exact id
  |_::_::_=>exact id
 |agg=>
  rintro⟨c,hc,h⟩
  obtain⟨y,_,rfl⟩:=List.mem_map.1 hc
  exact h
 |ptr=>exact id
theorem R.init {ds:List Dv} {vals:List Value} (ha:Ey w ds vals) (hN:ds.length<=N):
  R w.heap.size Ex.no w N (Dc ds) {tmps:=vals.toArray++Array.replicate (N - vals.toArray.size) undef,defers:=[]} w (Md w):=by
 obtain⟨hl,cr⟩:=ha
 refine⟨rfl,by simp;omega,fun s=>?_,fun s n hn=>?_,?_,Fr.refl _ _ _ (Nat.le_refl _),fun n p b hp=>(by cases hp),fun n hn=>Nat.ble_eq_true_of_le hn⟩
 ·show RA w _ zC (sG 0 ds s) _
  rw[NB]
  simp only[Nat.zero_le,if_true,Nat.sub_zero]
  cases hs:ds[s]? with
  |none=>exact Or.inl rfl
  |some d=>
   have gL:s<vals.length:=by rw[hl];exact(List.getElem?_eq_some_iff.1 hs).1
   have hv:vals[s]? =some vals[s]:=List.getElem?_eq_getElem gL
   have:(vals.toArray++Array.replicate (N - vals.toArray.size) undef).getD s undef=vals[s]:=by
    simp[Array.getD_eq_getD_getElem?,Array.getElem?_append,gL]
   rw[this]
   exact aaD (cr s d _ hs hv)
 ·have bn:(sG 0 ds s).ref n:=hn
  rw[NB] at bn
  simp only[Nat.zero_le,if_true,Nat.sub_zero] at bn
  cases hs:ds[s]? with
  |none=>rw[hs] at bn;exact absurd bn id
  |some d=>rw[hs] at bn;exact absurd bn aaE
 ·have h0:∀n,(Dc ds).h n=none:=fun n=>rfl
  refine⟨fun n hn=>absurd (h0 n) hn,fun m cs c n hm=>?_,fun n cs hn=>?_,fun n gr m sz xs hn=>?_,fun n hn=>absurd (h0 n) hn,fun n n' hn=>absurd (h0 n) hn,fun b hb=>hb,fun b _=>.inr (.inr trivial),
   fun n n' gr m sz xs bi m' aK ar hn=>?_,fun n gr sz xs hn=>?_,?_,?_,?_⟩
  ·rw[h0] at hm;cases hm
  ·rw[h0] at hn;cases hn
  ·rw[h0] at hn;cases hn
  ·rw[h0] at hn;cases hn
  ·rw[h0] at hn;cases hn
  ·intro i pc hi;simp at hi
  ·intro i j pc df b _ hi;simp at hi
  ·intro i pc n gr m sz xs b hi;simp at hi
theorem aj7 (r:R B E w0 N σ a w G) {t sz:Nat} {ag:Bool} {ty:TypeId} {p:ah} {cs:List ah} (dL:r6 P ty ag sz=true) (hp:σ.env t=.one p) (hx:loadAt σ.h p sz=some cs):
  ∃v,(sS a.tmps (.cell t ty)).run P w=.ok v w/\RA w G σ.h (mW ag cs) v:=by
 have hv:=r.env t
 have iH:=r.rF t
 rw[hp] at hv iH
 have mD:p≠ .bj:=by rintro rfl;simp[Am.loadAt] at hx
 obtain⟨b,of,vs,h1,h2,h3,h4,h5⟩:=r.hr.loadAt hx (hv.fv mD).1 (fun m hm=>iH m hm)
 have CR:∀n:Nat,n=vs.length->(loadCells (ad b of) n).run P w=.ok vs.toArray w:=fun n hn=>by
  subst hn
  exact run_loadCells_list w (ad b of) vs (fun j u hj=>by rw[nP];exact h3 j u hj)
 unfold r6 at dL
 cases hu:P.underlying ty with
 |none=>rw[hu] at dL;simp at dL
 |some d=>
  cases hi:P.info? ty with
  |none=>rw[hu,hi] at dL;cases d<;>simp at dL
  |some i=>
   rw[hu,hi] at dL
   have br:(ag=true/\i.size=sz/\(isAgg ty).run P w=.ok true w)\/(ag=false/\sz=1/\(isAgg ty).run P w=.ok false w):=by
    cases d<;>simp at dL<;>simp[isAgg,run_underlying hu,dL]
   rcases br with⟨rfl,e1,e2⟩|⟨rfl,e1,e2⟩
   ·refine⟨.agg vs.toArray,?_,vs,rfl,h4⟩
    simp[sS,h1,loadVar,asAddr,e2,sizeOf,typeInfo,hi,CR i.size (by omega)]
   ·subst e1
    match vs,h2 with
    |[u],_=>
     have ez:∃c,cs=[c]:=by
      have:=h4.1
      match cs,this with
      |[c],_=>exact⟨c,rfl⟩
     obtain⟨c,rfl⟩:=ez
     have g7:=h3 0 u rfl
     simp only[Nat.add_zero] at g7
     exact⟨u,by simp[sS,h1,loadVar,asAddr,e2,g7],.inr h4⟩
theorem IL (r:R B E w0 N σ a w G):∀{rs:List ResultVar} {ms:List bA} {vs:List aj},m9 P rs ms=true->σ.rz ms=some vs->
  ∃us:List Value,(rs.mapM (sS a.tmps)).run P w=.ok us w/\us.length=vs.length/\us.length=rs.length/\∀(j:Nat) (x:aj) (v:Value),vs[j]? =some x->us[j]? =some v->RA w G σ.h x v
 |[],[],vs,hc,hx=>by
  simp only[St.rz] at hx
  injection hx with hx
  subst hx
  exact⟨[],by simp,rfl,rfl,by simp⟩
 |.tmp t::rs,.tmp t'::ms,vs,hc,hx=>by
  simp only[m9,Bool.and_eq_true,beq_iff_eq] at hc
  obtain⟨rfl,hc⟩:=hc
  simp only[St.rz] at hx
  split at hx
  ·rename_i vs' e
   injection hx with hx
   subst hx
   obtain⟨us,u1,u2,Ti,u3⟩:=IL r hc e
   refine⟨a.tmps.getD t undef::us,by simp[sS,u1],by simp[u2],by simp[Ti],fun j x v hj hv=>?_⟩
   cases j with
   |zero=>simp only[List.getElem?_cons_zero,Option.some.injEq] at hj hv;subst hj;subst hv;exact r.env t
   |succ j=>exact u3 j x v (by simpa using hj) (by simpa using hv)
  ·cases hx
 |.cell t ty::rs,.cell t' sz ag::ms,vs,hc,hx=>by
  simp only[m9,Bool.and_eq_true,beq_iff_eq] at hc
  obtain⟨⟨rfl,dL⟩,hc⟩:=hc
  simp only[St.rz] at hx
  split at hx
  ·rename_i p hp
   split at hx
   ·rename_i cs vs' e1 e2
    injection hx with hx
    subst hx
    obtain⟨us,u1,u2,Ti,u3⟩:=IL r hc e2
    obtain⟨v0,v1,v2⟩:=aj7 r dL hp e1
    refine⟨v0::us,by simp[v1,u1],by simp[u2],by simp[Ti],fun j x v hj hv=>?_⟩
    cases j with
    |zero=>simp only[List.getElem?_cons_zero,Option.some.injEq] at hj hv;subst hj;subst hv;exact v2
    |succ j=>exact u3 j x v (by simpa using hj) (by simpa using hv)
   ·cases hx
  ·cases hx
 |[],_::_,_,hc,_=>by simp[m9] at hc
 |.tmp _::_,[],_,hc,_=>by simp[m9] at hc
 |.cell _ _::_,[],_,hc,_=>by simp[m9] at hc
 |.tmp _::_,.cell _ _ _::_,_,hc,_=>by simp[m9] at hc
 |.cell _ _::_,.tmp _::_,_,hc,_=>by simp[m9] at hc
theorem ajs {aU:List (K×List PC)}:A3 (aU.map qz)=wA aU:=by
 match aU with
 |[]=>rfl
 |[p]=>rfl
 |p::q::aU=>rfl
theorem YO (r:R B Ex.no w0 N σ a w G) {fn:Func} {ms:List bA} {ds:List Dv} (hc:m9 P fn.results.toList ms=true) (hx:σ.sT ms=some ds):
  ∃aU:List (K×List PC),aU.map (fun p=>(p.1,p.2.map PC.er))=ds/\(results fn a.tmps).run P w=.ok (wA aU) w/\(∀p∈aU,p.1≠ .ptr/\(p.1=.one->p.2.length=1))/\
   BU w B (aU.flatMap (·.2)):=by
 unfold St.sT at hx
 split at hx
 ·rename_i vs e1
  split at hx
  ·rename_i xo ns e2
   split at hx
   ·rename_i gj
    injection hx with hx
    subst hx
    obtain⟨us,u1,u2,_,u3⟩:=IL r hc e1
    obtain⟨aU,p1,p2,p3,p4,p5⟩:=r.hr.qy e2 u2 u3
    refine⟨aU,p1,?_,p3,⟨fun pc bd=>(p4.each pc bd).dV,fun pc bd b hb=>((p4.each pc bd).new b hb).1,fun i j pc df b ko hi hj hb=>?_⟩⟩
    ·rw[IM fn a.tmps u1,<-p2,ajs]
    ·have hp:=p4.nb gj
     rw[List.pairwise_iff_getElem] at hp
     obtain⟨li,ei⟩:=List.getElem?_eq_some_iff.1 hi
     obtain⟨lj,ej⟩:=List.getElem?_eq_some_iff.1 hj
     subst ei
     subst ej
     rcases Nat.lt_or_gt_of_ne ko with bX|bX
     ·exact hp i j li lj bX b hb
     ·exact fun aX=>hp j i lj li bX b aX hb
   ·cases hx
  ·cases hx
 ·cases hx
theorem ajw (hT:nN P T) (hm:P.follows .mixedOrders=true) {f:FuncId} {fn:Func} {c:Code} {mc:lz} {ms:List bA} {M:List Dv->Option (List Dv)} (hf:P.funcs[f]? =some fn) (hb:fn.body=some c)
  (hc:ja P fn.ntmps c mc=true) (hr:m9 P fn.results.toList ms=true) (hM:∀ds rs,M ds=some rs->ds.length<=fn.ntmps/\IH T mc ms ds=some rs):cJ P f M:=by
 intro ds rs ni w vals ha
 obtain⟨hN,bo⟩:=hM ds rs ni
 refine calls_of_wp hf hb ?_
 have r0:=R.init (N:=fn.ntmps) ha hN
 unfold IH at bo
 have gI:∀{σ:St} {a:Act} {w':World} {G:Gh},σ.sT ms=some rs->R w.heap.size Ex.no w fn.ntmps σ a w' G->a.defers=[]/\∃v,(results fn a.tmps).run P w'=.ok v w'/\
   ∃aU:List (K×List PC),aU.map (fun p=>(p.1,p.2.map PC.er))=rs/\(Ending.returned v)=.returned (wA aU)/\(∀p∈aU,p.1≠ .ptr/\(p.1=.one->p.2.length=1))/\
   BU w' w.heap.size (aU.flatMap (·.2))/\Fr w.heap.size Ex.no w w':=by
  intro σ a w' G hx r
  obtain⟨aU,p1,p2,p3,p4⟩:=YO r hr hx
  exact⟨r.defers,_,p2,aU,p1,rfl,p3,p4,r.fr⟩
 split at bo
 ·rename_i σ e
  exact lG hT hm mc hc e r0 fun a w' G r=>gI bo r
 ·rename_i σ e
  exact lG hT hm mc hc e r0 fun a w' G r=>gI bo r
 ·cases bo
end
end Go.Am
end
section
namespace Go.Am
end Go.Am
end
