/- Am26, Am27: parts of the proof. No condition. -/
import Derived.Test.YtifmggmhdcdgbaaAm25
set_option linter.unusedVariables false
section
namespace Go.Am
def xW:Dv->aj
 |(.one,[x])=>.one (.c x)
 |(.one,_)=>.one .bh
 |(.agg,xs)=>.agg (xs.map .c)
 |(.ptr,xs)=>.one (.ca xs 0)
def sS:Nat->List Dv->(Nat->aj)
 |_,[]=>vZ
 |k,d::ds=>aw (sS (k+1) ds) k (xW d)
def Eo (ds:List Dv):St:={env:=sS 0 ds,h:=An,used:=fun n=>Nat.ble aH n}
def KD (T:bj) (mc:kY) (aE:List bG) (ds:List Dv):Option (List Dv):=
 match dI T mc (Eo ds) with
 |some (.fD σ)=>σ.tF aE
 |some (.ret σ)=>σ.tF aE
 |_=>none
section
variable {B:Nat} {E:Ex} {w0 w w':World} {G G':Gh} {N:Nat} {h h':Nat->Option ar} {used:Nat->Bool}
variable {P:Program} {T:bj} {a:Act} {σ σ':St} {Q:Exit->Act->World->Prop}
theorem Pp:∀(ds:List Dv) (k n:Nat),sS k ds n=if k<=n then(match ds[n - k]? with|some d=>xW d|none=>.one .bh) else .one .bh
 |[],k,n=>by simp[sS,vZ]
 |d::ds,k,n=>by
  simp only[sS,jg,Pp ds]
  by_cases h:n=k
  ·subst h;simp
  ·by_cases h2:k<=n
   ·have h3:k+1<=n:=by omega
    have h4:n - k=(n - (k+1))+1:=by omega
    simp[h,h2,h3,h4]
   ·have h3:¬k+1<=n:=by omega
    simp[h,h2,h3]
def NT (w:World):Gh:=⟨fun b=>b<w.heap.size,fun _=>default⟩
theorem ada {d:Dv} {v:Value} (hd:zG w d v):RA w (NT w) An (xW d) v:=by
 have cells:∀{bu:List PC},(∀pc∈bu,Good w pc)->cA w (NT w) An ((bu.map PC.er).map .c) (bu.map PC.val):=by
  intro bu hg
  refine⟨by simp,fun j c u hj hu=>?_⟩
  simp only[List.getElem?_map,List.map_map] at hj hu
  cases hp:bu[j]? with
  |none=>rw[hp] at hj;cases hj
  |some pc=>
   rw[hp] at hj hu
   simp at hj hu
   subst hj;subst hu
   have XW:=hg pc (List.mem_of_getElem? hp)
   exact⟨PC.ki pc,pc,rfl,rfl,XW,fun b hb=>XW.lt hb⟩
 obtain⟨k,xs⟩:=d
 cases k with
 |one=>
  obtain⟨bu,p1,p2,p3⟩:=hd
  have p1:bu.map PC.er=xs:=p1
  subst p1
  match bu,p3 with
  |[pc],p3=>
   simp at p3
   subst p3
   exact RA.gb (PC.ki pc) ⟨pc,rfl,rfl,p2 pc (by simp),fun b hb=>(p2 pc (by simp)).lt hb⟩
 |agg=>
  obtain⟨bu,p1,p2,p3⟩:=hd
  have p1:bu.map PC.er=xs:=p1
  subst p1
  exact⟨_,p3,cells p2⟩
 |ptr=>
  obtain⟨bu,b,o,p1,p2,p3,p4⟩:=hd
  have p1:bu.map PC.er=xs:=p1
  subst p1 p2
  exact RA.gb rfl ⟨b,o,bu,by simp,rfl,p3,fun j c hj=>⟨(p4 j c hj).1,(p4 j c hj).2,fun b' aT=>(p4 j c hj).2.lt aT⟩⟩
theorem adb {d:Dv} {m:Nat}:¬(xW d).ref m:=by
 obtain⟨k,xs⟩:=d
 cases k with
 |one=>match xs with
  |[]=>exact id
  |[x]=>exact id
  |_::_::_=>exact id
 |agg=>
  rintro⟨c,hc,h⟩
  obtain⟨y,_,rfl⟩:=List.mem_map.1 hc
  exact h
 |ptr=>exact id
theorem R.init {ds:List Dv} {vals:List Value} (ha:FN w ds vals) (hN:ds.length<=N):
  R w.heap.size Ex.no w N (Eo ds) {tmps:=vals.toArray++Array.replicate (N - vals.toArray.size) undef,defers:=[]} w (NT w):=by
 obtain⟨hl,bI⟩:=ha
 refine⟨rfl,by simp;omega,fun s=>?_,fun s n hn=>?_,?_,Fr.refl _ _ _ (Nat.le_refl _),fun n p b hp=>(by cases hp),fun n hn=>Nat.ble_eq_true_of_le hn⟩
 ·show RA w _ An (sS 0 ds s) _
  rw[Pp]
  simp only[Nat.zero_le,if_true,Nat.sub_zero]
  cases hs:ds[s]? with
  |none=>exact Or.inl rfl
  |some d=>
   have gE:s<vals.length:=by rw[hl];exact(List.getElem?_eq_some_iff.1 hs).1
   have hv:vals[s]? =some vals[s]:=List.getElem?_eq_getElem gE
   have:(vals.toArray++Array.replicate (N - vals.toArray.size) undef).getD s undef=vals[s]:=by
    simp[Array.getD_eq_getD_getElem?,Array.getElem?_append,gE]
   rw[this]
   exact ada (bI s d _ hs hv)
 ·have bm:(sS 0 ds s).ref n:=hn
  rw[Pp] at bm
  simp only[Nat.zero_le,if_true,Nat.sub_zero] at bm
  cases hs:ds[s]? with
  |none=>rw[hs] at bm;exact absurd bm id
  |some d=>rw[hs] at bm;exact absurd bm adb
 ·have h0:∀n,(Eo ds).h n=none:=fun n=>rfl
  refine⟨fun n hn=>absurd (h0 n) hn,fun m cs c n hm=>?_,fun n cs hn=>?_,fun n gr m sz xs hn=>?_,fun n hn=>absurd (h0 n) hn,fun n n' hn=>absurd (h0 n) hn,fun b hb=>hb,fun b _=>.inr (.inr trivial),
   fun n n' gr m sz xs bk m' aK av hn=>?_,fun n gr sz xs hn=>?_,?_,?_,?_⟩
  ·rw[h0] at hm;cases hm
  ·rw[h0] at hn;cases hn
  ·rw[h0] at hn;cases hn
  ·rw[h0] at hn;cases hn
  ·rw[h0] at hn;cases hn
  ·intro i pc hi;simp at hi
  ·intro i j pc c6 b _ hi;simp at hi
  ·intro i pc n gr m sz xs b hi;simp at hi
theorem anz (r:R B E w0 N σ a w G) {t sz:Nat} {ag:Bool} {ty:TypeId} {p:ai} {cs:List ai} (dA:pu P ty ag sz=true) (hp:σ.env t=.one p) (hx:loadAt σ.h p sz=some cs):
  ∃v,(tE a.tmps (.cell t ty)).run P w=.ok v w/\RA w G σ.h (kQ ag cs) v:=by
 have hv:=r.env t
 have ix:=r.rR t
 rw[hp] at hv ix
 have ma:p≠ .bh:=by rintro rfl;simp[Am.loadAt] at hx
 obtain⟨b,of,vs,h1,h2,h3,h4,h5⟩:=r.hr.loadAt hx (hv.fq ma).1 (fun m hm=>ix m hm)
 have DV:∀n:Nat,n=vs.length->(loadCells (ad b of) n).run P w=.ok vs.toArray w:=fun n hn=>by
  subst hn
  exact run_loadCells_list w (ad b of) vs (fun j u hj=>by rw[nw];exact h3 j u hj)
 unfold pu at dA
 cases hu:P.underlying ty with
 |none=>rw[hu] at dA;simp at dA
 |some d=>
  cases hi:P.info? ty with
  |none=>rw[hu,hi] at dA;cases d<;>simp at dA
  |some i=>
   rw[hu,hi] at dA
   have br:(ag=true/\i.size=sz/\(isAgg ty).run P w=.ok true w)\/(ag=false/\sz=1/\(isAgg ty).run P w=.ok false w):=by
    cases d<;>simp at dA<;>simp[isAgg,run_underlying hu,dA]
   rcases br with⟨rfl,e1,e2⟩|⟨rfl,e1,e2⟩
   ·refine⟨.agg vs.toArray,?_,vs,rfl,h4⟩
    simp[tE,h1,loadVar,asAddr,e2,sizeOf,typeInfo,hi,DV i.size (by omega)]
   ·subst e1
    match vs,h2 with
    |[u],_=>
     have dP:∃c,cs=[c]:=by
      have:=h4.1
      match cs,this with
      |[c],_=>exact⟨c,rfl⟩
     obtain⟨c,rfl⟩:=dP
     have gN:=h3 0 u rfl
     simp only[Nat.add_zero] at gN
     exact⟨u,by simp[tE,h1,loadVar,asAddr,e2,gN],.inr h4⟩
theorem KG (r:R B E w0 N σ a w G):∀{rs:List ResultVar} {ms:List bG} {vs:List aj},mH P rs ms=true->σ.rK ms=some vs->
  ∃us:List Value,(rs.mapM (tE a.tmps)).run P w=.ok us w/\us.length=vs.length/\us.length=rs.length/\∀(j:Nat) (x:aj) (v:Value),vs[j]? =some x->us[j]? =some v->RA w G σ.h x v
 |[],[],vs,hc,hx=>by
  simp only[St.rK] at hx
  injection hx with hx
  subst hx
  exact⟨[],by simp,rfl,rfl,by simp⟩
 |.tmp t::rs,.tmp t'::ms,vs,hc,hx=>by
  simp only[mH,Bool.and_eq_true,beq_iff_eq] at hc
  obtain⟨rfl,hc⟩:=hc
  simp only[St.rK] at hx
  split at hx
  ·rename_i vs' e
   injection hx with hx
   subst hx
   obtain⟨us,u1,u2,U1,u3⟩:=KG r hc e
   refine⟨a.tmps.getD t undef::us,by simp[tE,u1],by simp[u2],by simp[U1],fun j x v hj hv=>?_⟩
   cases j with
   |zero=>simp only[List.getElem?_cons_zero,Option.some.injEq] at hj hv;subst hj;subst hv;exact r.env t
   |succ j=>exact u3 j x v (by simpa using hj) (by simpa using hv)
  ·cases hx
 |.cell t ty::rs,.cell t' sz ag::ms,vs,hc,hx=>by
  simp only[mH,Bool.and_eq_true,beq_iff_eq] at hc
  obtain⟨⟨rfl,dA⟩,hc⟩:=hc
  simp only[St.rK] at hx
  split at hx
  ·rename_i p hp
   split at hx
   ·rename_i cs vs' e1 e2
    injection hx with hx
    subst hx
    obtain⟨us,u1,u2,U1,u3⟩:=KG r hc e2
    obtain⟨v0,v1,v2⟩:=anz r dA hp e1
    refine⟨v0::us,by simp[v1,u1],by simp[u2],by simp[U1],fun j x v hj hv=>?_⟩
    cases j with
    |zero=>simp only[List.getElem?_cons_zero,Option.some.injEq] at hj hv;subst hj;subst hv;exact v2
    |succ j=>exact u3 j x v (by simpa using hj) (by simpa using hv)
   ·cases hx
  ·cases hx
 |[],_::_,_,hc,_=>by simp[mH] at hc
 |.tmp _::_,[],_,hc,_=>by simp[mH] at hc
 |.cell _ _::_,[],_,hc,_=>by simp[mH] at hc
 |.tmp _::_,.cell _ _ _::_,_,hc,_=>by simp[mH] at hc
 |.cell _ _::_,.tmp _::_,_,hc,_=>by simp[mH] at hc
theorem amJ {aR:List (K×List PC)}:B6 (aR.map qB)=xi aR:=by
 match aR with
 |[]=>rfl
 |[p]=>rfl
 |p::q::aR=>rfl
theorem aba (r:R B Ex.no w0 N σ a w G) {fn:Func} {ms:List bG} {ds:List Dv} (hc:mH P fn.results.toList ms=true) (hx:σ.tF ms=some ds):
  ∃aR:List (K×List PC),aR.map (fun p=>(p.1,p.2.map PC.er))=ds/\(results fn a.tmps).run P w=.ok (xi aR) w/\(∀p∈aR,p.1≠ .ptr/\(p.1=.one->p.2.length=1))/\
   CW w B (aR.flatMap (·.2)):=by
 unfold St.tF at hx
 split at hx
 ·rename_i vs e1
  split at hx
  ·rename_i yg ns e2
   split at hx
   ·rename_i fW
    injection hx with hx
    subst hx
    obtain⟨us,u1,u2,_,u3⟩:=KG r hc e1
    obtain⟨aR,p1,p2,p3,p4,p5⟩:=r.hr.qA e2 u2 u3
    refine⟨aR,p1,?_,p3,⟨fun pc aZ=>(p4.each pc aZ).eD,fun pc aZ b hb=>((p4.each pc aZ).new b hb).1,fun i j pc c6 b j3 hi hj hb=>?_⟩⟩
    ·rw[KH fn a.tmps u1,<-p2,amJ]
    ·have hp:=p4.mI fW
     rw[List.pairwise_iff_getElem] at hp
     obtain⟨li,ei⟩:=List.getElem?_eq_some_iff.1 hi
     obtain⟨lj,ej⟩:=List.getElem?_eq_some_iff.1 hj
     subst ei
     subst ej
     rcases Nat.lt_or_gt_of_ne j3 with bH|bH
     ·exact hp i j li lj bH b hb
     ·exact fun aT=>hp j i lj li bH b aT hb
   ·cases hx
  ·cases hx
 ·cases hx
theorem amW (hT:nu P T) (hm:P.follows .mixedOrders=true) {f:FuncId} {fn:Func} {c:Code} {mc:kY} {ms:List bG} {M:List Dv->Option (List Dv)} (hf:P.funcs[f]? =some fn) (hb:fn.body=some c)
  (hc:iR P fn.ntmps c mc=true) (hr:mH P fn.results.toList ms=true) (hM:∀ds rs,M ds=some rs->ds.length<=fn.ntmps/\KD T mc ms ds=some rs):dL P f M:=by
 intro ds rs mL w vals ha
 obtain⟨hN,bq⟩:=hM ds rs mL
 refine calls_of_wp hf hb ?_
 have r0:=R.init (N:=fn.ntmps) ha hN
 unfold KD at bq
 have gB:∀{σ:St} {a:Act} {w':World} {G:Gh},σ.tF ms=some rs->R w.heap.size Ex.no w fn.ntmps σ a w' G->a.defers=[]/\∃v,(results fn a.tmps).run P w'=.ok v w'/\
   ∃aR:List (K×List PC),aR.map (fun p=>(p.1,p.2.map PC.er))=rs/\(Ending.returned v)=.returned (xi aR)/\(∀p∈aR,p.1≠ .ptr/\(p.1=.one->p.2.length=1))/\
   CW w' w.heap.size (aR.flatMap (·.2))/\Fr w.heap.size Ex.no w w':=by
  intro σ a w' G hx r
  obtain⟨aR,p1,p2,p3,p4⟩:=aba r hr hx
  exact⟨r.defers,_,p2,aR,p1,rfl,p3,p4,r.fr⟩
 split at bq
 ·rename_i σ e
  exact lk hT hm mc hc e r0 fun a w' G r=>gB bq r
 ·rename_i σ e
  exact lk hT hm mc hc e r0 fun a w' G r=>gB bq r
 ·cases bq
end
end Go.Am
end
section
namespace Go.Am
end Go.Am
end
