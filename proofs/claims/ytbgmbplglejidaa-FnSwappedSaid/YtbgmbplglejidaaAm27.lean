/- Am26, Am27: parts of the proof. No condition. -/
import Derived.Test.YtbgmbplglejidaaAm25
set_option linter.unusedVariables false
section
namespace Go.Am
def yt:Dv->ak
 |(.one,[x])=>.one (.c x)
 |(.one,_)=>.one .bq
 |(.agg,xs)=>.agg (xs.map .c)
 |(.ptr,xs)=>.one (.cH xs 0)
def tH:Nat->List Dv->(Nat->ak)
 |_,[]=>wG
 |k,d::ds=>aA (tH (k+1) ds) k (yt d)
def FC (ds:List Dv):St:={env:=tH 0 ds,h:=BN,used:=fun n=>Nat.ble aK n}
def Lh (T:aT) (mc:mh) (aF:List bD) (ds:List Dv):Option (List Dv):=
 match d8 T mc (FC ds) with
 |some (.fR σ)=>σ.tY aF
 |some (.ret σ)=>σ.tY aF
 |_=>none
section
variable {B:Nat} {E:Ex} {w0 w w':World} {G G':Gh} {N:Nat} {h h':Nat->Option ar} {used:Nat->Bool}
variable {P:Program} {T:aT} {a:Act} {σ σ':St} {Q:Exit->Act->World->Prop}
theorem QF:∀(ds:List Dv) (k n:Nat),tH k ds n=if k<=n then(match ds[n - k]? with|some d=>yt d|none=>.one .bq) else .one .bq
 |[],k,n=>by simp[tH,wG]
 |d::ds,k,n=>by
  simp only[tH,jr,QF ds]
  by_cases h:n=k
  ·subst h;simp
  ·by_cases h2:k<=n
   ·have h3:k+1<=n:=by omega
    have h4:n - k=(n - (k+1))+1:=by omega
    simp[h,h2,h3,h4]
   ·have h3:¬k+1<=n:=by omega
    simp[h,h2,h3]
def Pa (w:World):Gh:=⟨fun b=>b<w.heap.size,fun _=>default⟩
theorem afj {d:Dv} {v:Value} (hd:AM w d v):RA w (Pa w) BN (yt d) v:=by
 have cells:∀{bx:List PC},(∀pc∈bx,Good w pc)->cZ w (Pa w) BN ((bx.map PC.er).map .c) (bx.map PC.val):=by
  intro bx hg
  refine⟨by simp,fun j c u hj hu=>?_⟩
  simp only[List.getElem?_map,List.map_map] at hj hu
  cases hp:bx[j]? with
  |none=>rw[hp] at hj;cases hj
  |some pc=>
   rw[hp] at hj hu
   simp at hj hu
   subst hj;subst hu
   have hgp:=hg pc (List.mem_of_getElem? hp)
   exact⟨PC.lx pc,pc,rfl,rfl,hgp,fun b hb=>hgp.lt hb⟩
 obtain⟨k,xs⟩:=d
 cases k with
 |one=>
  obtain⟨bx,p1,p2,p3⟩:=hd
  have p1:bx.map PC.er=xs:=p1
  subst p1
  match bx,p3 with
  |[pc],p3=>
   simp at p3
   subst p3
   exact RA.gD (PC.lx pc) ⟨pc,rfl,rfl,p2 pc (by simp),fun b hb=>(p2 pc (by simp)).lt hb⟩
 |agg=>
  obtain⟨bx,p1,p2,p3⟩:=hd
  have p1:bx.map PC.er=xs:=p1
  subst p1
  exact⟨_,p3,cells p2⟩
 |ptr=>
  obtain⟨bx,b,o,p1,p2,p3,p4⟩:=hd
  have p1:bx.map PC.er=xs:=p1
  subst p1 p2
  exact RA.gD rfl ⟨b,o,bx,by simp,rfl,p3,fun j c hj=>⟨(p4 j c hj).1,(p4 j c hj).2,fun b' be=>(p4 j c hj).2.lt be⟩⟩
theorem afk {d:Dv} {m:Nat}:¬(yt d).ref m:=by
 obtain⟨k,xs⟩:=d
 cases k with
 |one=>match xs with
  |[]=>exact id
  |[x]=>exact id
  |_::_::_=>exact id
 |agg=>
  rintro⟨c,hc,h⟩
  obtain⟨y,_,rfl⟩:=List.mem_map.1 hc
  exact h
 |ptr=>exact id
theorem R.init {ds:List Dv} {vals:List Value} (ha:GX w ds vals) (hN:ds.length<=N):
  R w.heap.size Ex.no w N (FC ds) {tmps:=vals.toArray++Array.replicate (N - vals.toArray.size) undef,defers:=[]} w (Pa w):=by
 obtain⟨hl,bU⟩:=ha
 refine⟨rfl,by simp;omega,fun s=>?_,fun s n hn=>?_,?_,Fr.refl _ _ _ (Nat.le_refl _),fun n p b hp=>(by cases hp),fun n hn=>Nat.ble_eq_true_of_le hn⟩
 ·show RA w _ BN (tH 0 ds s) _
  rw[QF]
  simp only[Nat.zero_le,if_true,Nat.sub_zero]
  cases hs:ds[s]? with
  |none=>exact Or.inl rfl
  |some d=>
   have gI:s<vals.length:=by rw[hl];exact(List.getElem?_eq_some_iff.1 hs).1
   have hv:vals[s]? =some vals[s]:=List.getElem?_eq_getElem gI
   have:(vals.toArray++Array.replicate (N - vals.toArray.size) undef).getD s undef=vals[s]:=by
    simp[Array.getD_eq_getD_getElem?,Array.getElem?_append,gI]
   rw[this]
   exact afj (bU s d _ hs hv)
 ·have bm:(tH 0 ds s).ref n:=hn
  rw[QF] at bm
  simp only[Nat.zero_le,if_true,Nat.sub_zero] at bm
  cases hs:ds[s]? with
  |none=>rw[hs] at bm;exact absurd bm id
  |some d=>rw[hs] at bm;exact absurd bm afk
 ·have h0:∀n,(FC ds).h n=none:=fun n=>rfl
  refine⟨fun n hn=>absurd (h0 n) hn,fun m cs c n hm=>?_,fun n cs hn=>?_,fun n gr m sz xs hn=>?_,fun n hn=>absurd (h0 n) hn,fun n n' hn=>absurd (h0 n) hn,fun b hb=>hb,fun b _=>.inr (.inr trivial),
   fun n n' gr m sz xs bo m' aJ au hn=>?_,fun n gr sz xs hn=>?_,?_,?_,?_⟩
  ·rw[h0] at hm;cases hm
  ·rw[h0] at hn;cases hn
  ·rw[h0] at hn;cases hn
  ·rw[h0] at hn;cases hn
  ·rw[h0] at hn;cases hn
  ·intro i pc hi;simp at hi
  ·intro i j pc dq b _ hi;simp at hi
  ·intro i pc n gr m sz xs b hi;simp at hi
theorem aro (r:R B E w0 N σ a w G) {t sz:Nat} {ag:Bool} {ty:TypeId} {p:aj} {cs:List aj} (dF:qF P ty ag sz=true) (hp:σ.env t=.one p) (hx:loadAt σ.h p sz=some cs):
  ∃v,(tW a.tmps (.cell t ty)).run P w=.ok v w/\RA w G σ.h (ma ag cs) v:=by
 have hv:=r.env t
 have je:=r.sP t
 rw[hp] at hv je
 have nb:p≠ .bq:=by rintro rfl;simp[Am.loadAt] at hx
 obtain⟨b,of,vs,h1,h2,h3,h4,h5⟩:=r.hr.loadAt hx (hv.fS nb).1 (fun m hm=>je m hm)
 have Ff:∀n:Nat,n=vs.length->(loadCells (ad b of) n).run P w=.ok vs.toArray w:=fun n hn=>by
  subst hn
  exact run_loadCells_list w (ad b of) vs (fun j u hj=>by rw[oI];exact h3 j u hj)
 unfold qF at dF
 cases hu:P.underlying ty with
 |none=>rw[hu] at dF;simp at dF
 |some d=>
  cases hi:P.info? ty with
  |none=>rw[hu,hi] at dF;cases d<;>simp at dF
  |some i=>
   rw[hu,hi] at dF
   have bu:(ag=true/\i.size=sz/\(isAgg ty).run P w=.ok true w)\/(ag=false/\sz=1/\(isAgg ty).run P w=.ok false w):=by
    cases d<;>simp at dF<;>simp[isAgg,run_underlying hu,dF]
   rcases bu with⟨rfl,e1,e2⟩|⟨rfl,e1,e2⟩
   ·refine⟨.agg vs.toArray,?_,vs,rfl,h4⟩
    simp[tW,h1,loadVar,asAddr,e2,sizeOf,typeInfo,hi,Ff i.size (by omega)]
   ·subst e1
    match vs,h2 with
    |[u],_=>
     have eE:∃c,cs=[c]:=by
      have:=h4.1
      match cs,this with
      |[c],_=>exact⟨c,rfl⟩
     obtain⟨c,rfl⟩:=eE
     have iw:=h3 0 u rfl
     simp only[Nat.add_zero] at iw
     exact⟨u,by simp[tW,h1,loadVar,asAddr,e2,iw],.inr h4⟩
theorem Lk (r:R B E w0 N σ a w G):∀{rs:List ResultVar} {ms:List bD} {vs:List ak},nK P rs ms=true->σ.sG ms=some vs->
  ∃us:List Value,(rs.mapM (tW a.tmps)).run P w=.ok us w/\us.length=vs.length/\us.length=rs.length/\∀(j:Nat) (x:ak) (v:Value),vs[j]? =some x->us[j]? =some v->RA w G σ.h x v
 |[],[],vs,hc,hx=>by
  simp only[St.sG] at hx
  injection hx with hx
  subst hx
  exact⟨[],by simp,rfl,rfl,by simp⟩
 |.tmp t::rs,.tmp t'::ms,vs,hc,hx=>by
  simp only[nK,Bool.and_eq_true,beq_iff_eq] at hc
  obtain⟨rfl,hc⟩:=hc
  simp only[St.sG] at hx
  split at hx
  ·rename_i vs' e
   injection hx with hx
   subst hx
   obtain⟨us,u1,u2,Xc,u3⟩:=Lk r hc e
   refine⟨a.tmps.getD t undef::us,by simp[tW,u1],by simp[u2],by simp[Xc],fun j x v hj hv=>?_⟩
   cases j with
   |zero=>simp only[List.getElem?_cons_zero,Option.some.injEq] at hj hv;subst hj;subst hv;exact r.env t
   |succ j=>exact u3 j x v (by simpa using hj) (by simpa using hv)
  ·cases hx
 |.cell t ty::rs,.cell t' sz ag::ms,vs,hc,hx=>by
  simp only[nK,Bool.and_eq_true,beq_iff_eq] at hc
  obtain⟨⟨rfl,dF⟩,hc⟩:=hc
  simp only[St.sG] at hx
  split at hx
  ·rename_i p hp
   split at hx
   ·rename_i cs vs' e1 e2
    injection hx with hx
    subst hx
    obtain⟨us,u1,u2,Xc,u3⟩:=Lk r hc e2
    obtain⟨v0,v1,v2⟩:=aro r dF hp e1
    refine⟨v0::us,by simp[v1,u1],by simp[u2],by simp[Xc],fun j x v hj hv=>?_⟩
    cases j with
    |zero=>simp only[List.getElem?_cons_zero,Option.some.injEq] at hj hv;subst hj;subst hv;exact v2
    |succ j=>exact u3 j x v (by simpa using hj) (by simpa using hv)
   ·cases hx
  ·cases hx
 |[],_::_,_,hc,_=>by simp[nK] at hc
 |.tmp _::_,[],_,hc,_=>by simp[nK] at hc
 |.cell _ _::_,[],_,hc,_=>by simp[nK] at hc
 |.tmp _::_,.cell _ _ _::_,_,hc,_=>by simp[nK] at hc
 |.cell _ _::_,.tmp _::_,_,hc,_=>by simp[nK] at hc
theorem aqg {aY:List (K×List PC)}:C8 (aY.map ry)=xM aY:=by
 match aY with
 |[]=>rfl
 |[p]=>rfl
 |p::q::aY=>rfl
theorem ac0 (r:R B Ex.no w0 N σ a w G) {fn:Func} {ms:List bD} {ds:List Dv} (hc:nK P fn.results.toList ms=true) (hx:σ.tY ms=some ds):
  ∃aY:List (K×List PC),aY.map (fun p=>(p.1,p.2.map PC.er))=ds/\(results fn a.tmps).run P w=.ok (xM aY) w/\(∀p∈aY,p.1≠ .ptr/\(p.1=.one->p.2.length=1))/\
   Ea w B (aY.flatMap (·.2)):=by
 unfold St.tY at hx
 split at hx
 ·rename_i vs e1
  split at hx
  ·rename_i uH ns e2
   split at hx
   ·rename_i gH
    injection hx with hx
    subst hx
    obtain⟨us,u1,u2,_,u3⟩:=Lk r hc e1
    obtain⟨aY,p1,p2,p3,p4,p5⟩:=r.hr.rv e2 u2 u3
    refine⟨aY,p1,?_,p3,⟨fun pc bc=>(p4.each pc bc).eD,fun pc bc b hb=>((p4.each pc bc).new b hb).1,fun i j pc dq b jS hi hj hb=>?_⟩⟩
    ·rw[Ll fn a.tmps u1,<-p2,aqg]
    ·have hp:=p4.nM gH
     rw[List.pairwise_iff_getElem] at hp
     obtain⟨li,ei⟩:=List.getElem?_eq_some_iff.1 hi
     obtain⟨lj,ej⟩:=List.getElem?_eq_some_iff.1 hj
     subst ei
     subst ej
     rcases Nat.lt_or_gt_of_ne jS with bK|bK
     ·exact hp i j li lj bK b hb
     ·exact fun be=>hp j i lj li bK b be hb
   ·cases hx
  ·cases hx
 ·cases hx
theorem aqx (hT:oG P T) (hm:P.follows .mixedOrders=true) {f:FuncId} {fn:Func} {c:Code} {mc:mh} {ms:List bD} {M:List Dv->Option (List Dv)} (hf:P.funcs[f]? =some fn) (hb:fn.body=some c)
  (hc:jw P fn.ntmps c mc=true) (hr:nK P fn.results.toList ms=true) (hM:∀ds rs,M ds=some rs->ds.length<=fn.ntmps/\Lh T mc ms ds=some rs):dj P f M:=by
 intro ds rs nR w vals ha
 obtain⟨hN,bY⟩:=hM ds rs nR
 refine calls_of_wp hf hb ?_
 have r0:=R.init (N:=fn.ntmps) ha hN
 unfold Lh at bY
 have fin:∀{σ:St} {a:Act} {w':World} {G:Gh},σ.tY ms=some rs->R w.heap.size Ex.no w fn.ntmps σ a w' G->a.defers=[]/\∃v,(results fn a.tmps).run P w'=.ok v w'/\
   ∃aY:List (K×List PC),aY.map (fun p=>(p.1,p.2.map PC.er))=rs/\(Ending.returned v)=.returned (xM aY)/\(∀p∈aY,p.1≠ .ptr/\(p.1=.one->p.2.length=1))/\
   Ea w' w.heap.size (aY.flatMap (·.2))/\Fr w.heap.size Ex.no w w':=by
  intro σ a w' G hx r
  obtain⟨aY,p1,p2,p3,p4⟩:=ac0 r hr hx
  exact⟨r.defers,_,p2,aY,p1,rfl,p3,p4,r.fr⟩
 split at bY
 ·rename_i σ e
  exact mD hT hm mc hc e r0 fun a w' G r=>fin bY r
 ·rename_i σ e
  exact mD hT hm mc hc e r0 fun a w' G r=>fin bY r
 ·cases bY
end
end Go.Am
end
section
namespace Go.Am
end Go.Am
end
