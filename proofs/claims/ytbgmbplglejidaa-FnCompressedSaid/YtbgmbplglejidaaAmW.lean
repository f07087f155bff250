/- AmW: functions whose results may share, and that may change the cells of one pointer: from code to what is said of them. No condition. -/
import Derived.Test.YtbgmbplglejidaaAm30
set_option linter.unusedVariables false
namespace Go.Am
def Dr:Dv->aj
 |(.one,[x])=>.one (.c x)
 |(.one,_)=>.one .bn
 |(.agg,xs)=>.agg (xs.map .c)
 |(.ptr,_)=>.one (.ptr aK 0 0 0)
def tu:Nat->List Dv->(Nat->aj)
 |_,[]=>vZ
 |k,d::ds=>av (tu (k+1) ds) k (Dr d)
def oR:List Dv->Option (List C)
 |[]=>none
 |(.ptr,xs)::_=>some xs
 |_::ds=>oR ds
def oK (ds:List Dv):Nat->Option ao:=fun n=>match Nat.beq n aK with
 |true=>(oR ds).map fun xs=>.box (xs.map .c)
 |false=>none
def EO (ds:List Dv):St:={env:=tu 0 ds,h:=oK ds,used:=fun n=>Nat.ble aK n}
theorem adO (ds:List Dv) (n:Nat) (hn:aK<=n):(EO ds).used n=true:=Nat.ble_eq_true_of_le hn
def rm (h:Nat->Option ao):List aj->Option (List Dv)
 |[]=>some []
 |v::vs=>match v.cells? with
  |some (ag,cs)=>match gU h cs,rm h vs with
   |some xs,some ds=>some ((if ag=true then .agg else .one,xs)::ds)
   |_,_=>none
  |none=>none
def CC (h:Nat->Option ao):List aj->Option (List Dv)
 |[v]=>match lY h v with
  |some (n,xs)=>if aK<=n then none else some [(.ptr,xs)]
  |none=>rm h [v]
 |vs=>rm h vs
def Cq (h:Nat->Option ao):Option (List C)->Option (List C)
 |none=>some []
 |some xs=>match h aK with
  |some (.box cs)=>if cs.length=xs.length then jJ cs else none
  |_=>none
def St.CB (σ:St) (ms:List bC) (ds:List Dv):Option (List Dv×List C):=
 match σ.sB ms with
 |some vs=>match CC σ.h vs,Cq σ.h (oR ds) with
  |some rs,some out=>some (rs,out)
  |_,_=>none
 |none=>none
def KK (T:aO) (mc:lT) (aD:List bC) (ds:List Dv):Option (List Dv×List C):=
 match d8 T mc (EO ds) with
 |some (.fG σ)=>σ.CB aD ds
 |some (.ret σ)=>σ.CB aD ds
 |_=>none
section
variable {B:Nat} {E:Ex} {w0 w w':World} {G G':Gh} {N:Nat} {h h':Nat->Option ao} {used:Nat->Bool}
variable {P:Program} {T:aO} {a:Act} {σ σ':St} {Q:Exit->Act->World->Prop}
theorem P6:∀(ds:List Dv) (k n:Nat),tu k ds n=if k<=n then(match ds[n - k]? with|some d=>Dr d|none=>.one .bn) else .one .bn
 |[],k,n=>by simp[tu,vZ]
 |d::ds,k,n=>by
  simp only[tu,iY,P6 ds]
  by_cases h:n=k
  ·subst h;simp
  ·by_cases h2:k<=n
   ·have h3:k+1<=n:=by omega
    have h4:n - k=(n - (k+1))+1:=by omega
    simp[h,h2,h3,h4]
   ·have h3:¬k+1<=n:=by omega
    simp[h,h2,h3]
theorem JT {ds:List Dv} {n:Nat} {b:ao} (hn:oK ds n=some b):n=aK/\∃xs,oR ds=some xs/\b=.box (xs.map .c):=by
 unfold oK at hn
 split at hn
 ·rename_i e
  have:=Nat.eq_of_beq_eq_true e
  subst this
  refine⟨rfl,?_⟩
  cases hp:oR ds with
  |none=>rw[hp] at hn;cases hn
  |some xs=>rw[hp] at hn;injection hn with hn;exact⟨xs,rfl,hn.symm⟩
 ·cases hn
def g8:List PA->Option PA
 |[]=>none
 |p::ps=>if p.k=.ptr then some p else g8 ps
theorem DI:∀{pas:List PA} {p:PA},g8 pas=some p->p∈pas/\p.k=.ptr
 |[],p,h=>by cases h
 |q::pas,p,h=>by
  unfold g8 at h
  split at h
  ·injection h with h;subst h;rename_i hk;exact⟨by simp,hk⟩
  ·obtain⟨h1,h2⟩:=DI h;exact⟨by simp[h1],h2⟩
theorem IF:∀{pas:List PA},g8 pas=none->∀p∈pas,p.k≠ .ptr
 |[],_,p,hp=>by cases hp
 |q::pas,h,p,hp=>by
  unfold g8 at h
  split at h
  ·cases h
  ·rename_i hk
   cases hp with
   |head=>exact hk
   |tail _ hp=>exact IF h p hp
theorem Sm:∀{ds:List Dv} {pas:List PA},pas.length=ds.length->(∀(i:Nat) (d:Dv) (p:PA),ds[i]? =some d->pas[i]? =some p->d=(p.k,p.ps.map PC.er))->oR ds=(g8 pas).map fun p=>p.ps.map PC.er
 |[],[],_,_=>rfl
 |[],_::_,hl,_=>by simp at hl
 |_::_,[],hl,_=>by simp at hl
 |d::ds,p::pas,hl,hd=>by
  have h0:=hd 0 d p rfl rfl
  have ih:=Sm (ds:=ds) (pas:=pas) (by simpa using hl) (fun i d p h1 h2=>hd (i+1) d p h1 h2)
  subst h0
  obtain⟨k,ps,b,o⟩:=p
  cases k with
  |ptr=>rfl
  |one=>simpa[oR,g8] using ih
  |agg=>simpa[oR,g8] using ih
def w6 (p:PA):PB:=⟨false,p.b,p.o,0,[],none⟩
def DY (pas:List PA):Ex:=
 ⟨fun b=>∃p∈pas,p.k=.ptr/\b=p.b,fun n=>if n=aK then(g8 pas).map w6 else none,fun n p h=>(by
  by_cases hn:n=aK
  ·exact Nat.le_of_eq hn.symm
  ·rw[if_neg hn] at h;cases h),fun b=>∃q∈pas,∃pc∈q.ps,aT b pc⟩
def wb (pas:List PA):Gh:=⟨fun b=>∃q∈pas,∃pc∈q.ps,aT b pc,fun n=>match g8 pas with|some p=>w6 p|none=>default⟩
theorem R.aiD {ds:List Dv} {vals:List Value} {pas:List PA} (va:Mz w ds vals pas) (hN:ds.length<=N):
  R w.heap.size (DY pas) w N (EO ds) {tmps:=vals.toArray++Array.replicate (N - vals.toArray.size) undef,defers:=[]} w (wb pas):=by
 have hl:=va.l1
 have BC:oR ds=(g8 pas).map fun p=>p.ps.map PC.er:=by
  refine Sm va.l2 fun i d p hd hp=>?_
  have hv:vals[i]? =some (vals[i]'(by rw[va.l1];exact(List.getElem?_eq_some_iff.1 hd).1)):=List.getElem?_eq_getElem _
  exact(va.at_ i d _ p hd hv hp).1
 have hJ:∀q∈pas,∀pc∈q.ps,Good w pc:=by
  intro q hq pc aU
  obtain⟨i,hi,rfl⟩:=List.getElem_of_mem hq
  have hd:ds[i]? =some (ds[i]'(by rw[<-va.l2];exact hi)):=List.getElem?_eq_getElem _
  have hv:vals[i]? =some (vals[i]'(by rw[va.l1,<-va.l2];exact hi)):=List.getElem?_eq_getElem _
  exact(va.at_ i _ _ _ hd hv (List.getElem?_eq_getElem hi)).2.1 pc aU
 have ahZ:∀q∈pas,q.k=.ptr->GR w q.b q.o q.ps/\∃v:Value,v∈vals/\v=.pointer (some (ad q.b q.o)):=by
  intro q hq hk
  obtain⟨i,hi,rfl⟩:=List.getElem_of_mem hq
  have hd:ds[i]? =some (ds[i]'(by rw[<-va.l2];exact hi)):=List.getElem?_eq_getElem _
  have hv:vals[i]? =some (vals[i]'(by rw[va.l1,<-va.l2];exact hi)):=List.getElem?_eq_getElem _
  have h3:=(va.at_ i _ _ _ hd hv (List.getElem?_eq_getElem hi)).2.2
  rw[hk] at h3
  exact⟨h3.2.2,_,List.mem_of_getElem? hv,h3.1⟩
 have cell:∀q∈pas,∀pc∈q.ps,RC w (wb pas) (oK ds) (.c pc.er) pc.val:=fun q hq pc aU=>⟨pc,rfl,rfl,hJ q hq pc aU,fun b hb=>⟨q,hq,pc,aU,hb⟩⟩
 have cells:∀q∈pas,cT w (wb pas) (oK ds) ((q.ps.map PC.er).map .c) (q.ps.map PC.val):=by
  intro q hq
  refine⟨by simp,fun j c u hj hu=>?_⟩
  simp only[List.getElem?_map,List.map_map] at hj hu
  cases hp:q.ps[j]? with
  |none=>rw[hp] at hj;cases hj
  |some pc=>
   rw[hp] at hj hu
   simp at hj hu
   subst hj hu
   exact⟨PC.kN pc,cell q hq pc (List.mem_of_getElem? hp)⟩
 refine⟨rfl,by simp;omega,fun s=>?_,fun s n hn=>?_,?_,Fr.refl _ _ _ (Nat.le_refl _),fun n p b hp hb=>?_,fun n hn=>Nat.ble_eq_true_of_le hn⟩
 ·show RA w _ (oK ds) (tu 0 ds s) _
  rw[P6]
  simp only[Nat.zero_le,if_true,Nat.sub_zero]
  cases hs:ds[s]? with
  |none=>exact Or.inl rfl
  |some d=>
   have ZX:=(List.getElem?_eq_some_iff.1 hs).1
   have gA:s<vals.length:=by rw[hl];exact ZX
   have hv:vals[s]? =some vals[s]:=List.getElem?_eq_getElem gA
   obtain⟨q,hp⟩:∃q,pas[s]? =some q:=⟨_,List.getElem?_eq_getElem (by rw[va.l2];exact ZX)⟩
   have:(vals.toArray++Array.replicate (N - vals.toArray.size) undef).getD s undef=vals[s]:=by
    simp[Array.getD_eq_getD_getElem?,Array.getElem?_append,gA]
   rw[this]
   have uH:=List.mem_of_getElem? hp
   obtain⟨e1,e2,e3⟩:=va.at_ s d _ q hs hv hp
   generalize vals[s]=u at*
   subst e1
   obtain⟨k,ps,b,o⟩:=q
   cases k with
   |one=>
    have e3:ps.map PC.val=[u]:=e3
    obtain⟨pc,rfl⟩:∃pc,ps=[pc]:=by
     have:=congrArg List.length e3
     exact List.length_eq_one_iff.1 (by simpa using this)
    simp at e3
    rw[<-e3]
    exact RA.gu (PC.kN pc) (cell _ uH pc (by simp))
   |agg=>exact⟨_,e3,cells _ uH⟩
   |ptr=>
    have e3:u=.pointer (some (ad b o))/\_:=e3
    rw[e3.1]
    have hc:g8 pas=some ⟨.ptr,ps,b,o⟩:=by
     cases hc:g8 pas with
     |none=>exact absurd rfl (IF hc _ uH)
     |some p=>
      obtain⟨c1,c2⟩:=DI hc
      obtain⟨i,hi⟩:=List.getElem?_of_mem c1
      have:=va.one i s p _ hi hp c2 rfl
      subst this
      rw[hi] at hp
      injection hp with hp
      rw[hp]
    refine RA.gu (c:=.ptr aK 0 0 0) rfl (fun _=>?_)
    simp[wb,hc,w6]
 ·have bk:(tu 0 ds s).ref n:=hn
  rw[P6] at bk
  simp only[Nat.zero_le,if_true,Nat.sub_zero] at bk
  cases hs:ds[s]? with
  |none=>rw[hs] at bk;exact absurd bk id
  |some d=>
   rw[hs] at bk
   obtain⟨k,xs⟩:=d
   cases k with
   |one=>match xs,bk with
    |[],bk=>exact absurd bk id
    |[x],bk=>exact absurd bk id
    |_::_::_,bk=>exact absurd bk id
   |agg=>
    obtain⟨c,hc,hh⟩:=bk
    obtain⟨y,_,rfl⟩:=List.mem_map.1 hc
    exact absurd hh id
   |ptr=>
    have bk:n=aK:=bk
    subst bk
    exact adO ds aK (Nat.le_refl aK)
 ·
  have R5:∀n gr m sz xs,oK ds n≠some (.row gr m sz xs):=fun n gr m sz xs hn=>by obtain⟨_,_,_,e⟩:=JT hn;cases e
  have mn:∀n,oK ds n≠none->n=aK/\∃p,g8 pas=some p/\(wb pas).g n=w6 p/\oK ds n=some (.box ((p.ps.map PC.er).map .c)):=by
   intro n hn
   cases hh:oK ds n with
   |none=>exact absurd hh hn
   |some b=>
    obtain⟨rfl,xs,e1,e2⟩:=JT hh
    rw[BC] at e1
    cases hc:g8 pas with
    |none=>rw[hc] at e1;cases e1
    |some p=>
     rw[hc] at e1
     injection e1 with e1
     exact⟨rfl,p,rfl,by simp[wb,hc],by rw[e2,<-e1]⟩
  refine⟨fun n hn=>?_,fun m cs c n hm hc hr=>?_,fun n cs hn=>?_,fun n gr m sz xs hn=>absurd hn (R5 _ _ _ _ _),fun n hn ZI=>?_,fun n n' hn bk aC=>?_,fun b hb=>?_,fun b hb=>.inr (.inr hb),
   fun n n' gr m sz xs bm m' aJ aq hn=>absurd hn (R5 _ _ _ _ _),fun n gr sz xs hn=>absurd hn (R5 _ _ _ _ _),?_,?_,?_⟩
  ·obtain⟨rfl,_⟩:=mn n hn
   exact adO ds aK (Nat.le_refl aK)
  ·have bM:oK ds m=some (.box cs):=hm
   obtain⟨_,xs,_,e⟩:=JT bM
   injection e with e
   subst e
   obtain⟨x,_,rfl⟩:=List.mem_map.1 hc
   exact absurd hr id
  ·have bk:oK ds n=some (.box cs):=hn
   obtain⟨rfl,p,c1,c2,c3⟩:=mn n (by rw[bk];simp)
   rw[bk] at c3
   injection c3 with c3
   injection c3 with c3
   subst c3
   obtain⟨m1,m2⟩:=DI c1
   rw[c2]
   refine⟨rfl,(va.iu p m1 m2).1,fun j c hj=>?_⟩
   rw[List.getElem?_map,List.getElem?_map] at hj
   cases m5:p.ps[j]? with
   |none=>rw[m5] at hj;cases hj
   |some pc=>
    rw[m5] at hj
    simp at hj
    subst hj
    exact⟨pc.val,(ahZ p m1 m2).1 j pc m5,PC.kN pc,cell p m1 pc (List.mem_of_getElem? m5)⟩
  ·obtain⟨rfl,p,c1,c2,c3⟩:=mn n hn
   obtain⟨m1,m2⟩:=DI c1
   rw[c2]
   obtain⟨u1,u2⟩:=va.iu p m1 m2
   exact⟨fun⟨q,hq,pc,aU,hb⟩=>u2 q hq pc aU hb,.inr ⟨p,m1,m2,rfl⟩,u1.lt⟩
  ·obtain⟨rfl,_⟩:=mn n hn
   obtain⟨rfl,_⟩:=mn n' bk
   exact absurd rfl aC
  ·obtain⟨q,hq,pc,aU,hb⟩:=hb
   exact(hJ q hq pc aU).lt hb
  ·intro i pc hi;simp at hi
  ·intro i j pc dn b _ hi;simp at hi
  ·intro i pc n gr m sz xs b hi;simp at hi
 ·have bj:(if n=aK then(g8 pas).map w6 else none)=some p:=hp
  split at bj
  ·rename_i hn
   subst hn
   cases hc:g8 pas with
   |none=>rw[hc] at bj;cases bj
   |some q=>
    rw[hc] at bj
    injection bj with bj
    subst bj
    have hg:(wb pas).g aK=w6 q:=by simp[wb,hc]
    rw[hg]
    refine⟨rfl,rfl,rfl,rfl,rfl,fun gr sz xs aY=>?_⟩
    have wi:oK ds aK=some b:=hb
    obtain⟨_,_,_,e⟩:=JT wi
    rw[e] at aY;cases aY
  ·cases bj
def Mw (G:Gh) (h:Nat->Option ao) (b:Nat):Prop:=G.Im b\/∃n gr m sz xs,h n=some (.row gr m sz xs)/\rZ G n b
theorem HR.adT (H:HR B E w G h used []):∀{cs:List ah} {xs:List C} {vs:List Value},Am.gU h cs=some xs->cT w G h cs vs->∃ps:List PC,ps.map PC.er=xs/\ps.map PC.val=vs/\∀pc∈ps,Good w pc/\∀b,aT b pc->Mw G h b
 |[],xs,vs,hx,hc=>by
  simp only[Am.gU] at hx
  injection hx with hx
  subst hx
  have:vs=[]:=List.eq_nil_of_length_eq_zero (by simpa using hc.1)
  subst this
  exact⟨[],rfl,rfl,by simp⟩
 |c::cs,xs,vs,hx,hc=>by
  simp only[Am.gU] at hx
  split at hx
  ·rename_i x aq e1 e2
   injection hx with hx
   subst hx
   match vs,hc.1 with
   |v::vs,hl=>
    obtain⟨pc,a1,a2,a3,a4⟩:=H.Wa e1 (hc.2 0 c v rfl rfl).2
    obtain⟨ps,b1,b2,b3⟩:=H.adT (vs:=vs) e2 ⟨by simpa using hl,fun j c u h1 h2=>hc.2 (j+1) c u h1 h2⟩
    refine⟨pc::ps,by simp[a1,b1],by simp[a2,b2],fun q hq=>?_⟩
    cases hq with
    |head=>exact⟨a3,fun b hb=>(a4 b hb).imp id fun⟨n,gr,m,sz,xs,_,h1,h2⟩=>⟨n,gr,m,sz,xs,h1,h2⟩⟩
    |tail _ hq=>exact b3 q hq
  ·cases hx
theorem HR.rm (H:HR B E w G h used []):∀{vs:List aj} {ds:List Dv} {us:List Value},Am.rm h vs=some ds->us.length=vs.length->(∀(j:Nat) (x:aj) (v:Value),vs[j]? =some x->us[j]? =some v->RA w G h x v)->
  ∃aW:List PA,aW.map (fun p=>(p.k,p.ps.map PC.er))=ds/\aW.map zB=us/\(∀p∈aW,p.k≠ .ptr/\(p.k=.one->p.ps.length=1))/\∀p∈aW,∀pc∈p.ps,Good w pc/\∀b,aT b pc->Mw G h b
 |[],ds,us,hx,hl,hc=>by
  simp only[Am.rm] at hx
  injection hx with hx
  subst hx
  have:us=[]:=List.eq_nil_of_length_eq_zero (by simpa using hl)
  subst this
  exact⟨[],rfl,rfl,by simp,by simp⟩
 |x::vs,ds,us,hx,hl,hc=>by
  simp only[Am.rm] at hx
  split at hx
  ·rename_i ag cs ku
   split at hx
   ·rename_i xs ue e1 e2
    injection hx with hx
    subst hx
    match us,hl with
    |v::us,hl=>
     obtain⟨aW,b1,b2,b3,b4⟩:=H.rm (us:=us) e2 (by simpa using hl) (fun j x v h1 h2=>hc (j+1) x v h1 h2)
     have h0:=hc 0 x v rfl rfl
     have dJ:∃vs:List Value,(if ag=true then v=.agg vs.toArray else vs=[v])/\cT w G h cs vs:=by
      cases x with
      |one c=>
       have Jp:ag=false/\cs=[c]:=by cases c<;>simp[aj.cells?] at ku<;>exact⟨ku.1,ku.2.symm⟩
       obtain⟨rfl,rfl⟩:=Jp
       rcases h0 with h0|h0
       ·subst h0;simp[aj.cells?] at ku
       ·exact⟨[v],rfl,h0⟩
      |agg cs'=>
       simp[aj.cells?] at ku
       obtain⟨rfl,rfl⟩:=ku
       obtain⟨vs,e,h1⟩:∃vs:List Value,v=.agg vs.toArray/\cT w G h cs' vs:=h0
       exact⟨vs,e,h1⟩
      |bq xs=>simp[aj.cells?] at ku
     obtain⟨XO,iP,bO⟩:=dJ
     obtain⟨ps,p1,p2,p3⟩:=H.adT e1 bO
     refine⟨⟨if ag=true then .agg else .one,ps,0,0⟩::aW,by simp[p1,b1],?_,fun p hp=>?_,fun p hp pc aU=>?_⟩
     ·rw[List.map_cons,b2]
      congr 1
      cases ag with
      |true=>
       simp only[if_true] at iP⊢
       rw[iP,<-p2]
       rfl
      |false=>
       simp only[Bool.false_eq_true,if_false] at iP⊢
       rw[<-p2] at iP
       match ps,iP with
       |[pc],iP=>simp at iP;exact iP
     ·cases hp with
      |head=>
       cases ag with
       |true=>exact⟨by simp,fun h=>by cases h⟩
       |false=>
        simp only[Bool.false_eq_true,if_false] at iP
        refine⟨by simp,fun _=>?_⟩
        have:(ps.map PC.val).length=1:=by rw[p2,iP];rfl
        simpa using this
      |tail _ hp=>exact b3 p hp
     ·cases hp with
      |head=>exact p3 pc aU
      |tail _ hp=>exact b4 p hp pc aU
   ·cases hx
  ·cases hx
theorem ann {aW:List PA}:Cs (aW.map zB)=zC aW:=by
 match aW with
 |[]=>rfl
 |[p]=>rfl
 |p::q::aW=>rfl
theorem apW (hT:oq P T) (hm:P.follows .mixedOrders=true) {f:FuncId} {fn:Func} {c:Code} {mc:lT} {ms:List bC} {M:List Dv->Option (List Dv×List C)} (hf:P.funcs[f]? =some fn) (hb:fn.body=some c)
  (hc:jd P fn.ntmps c mc=true) (hr:nE P fn.results.toList ms=true) (hM:∀ds rs out,M ds=some (rs,out)->ds.length<=fn.ntmps/\KK T mc ms ds=some (rs,out)):kT P f M:=by
 intro ds rs out nJ w vals pas va
 obtain⟨hN,bX⟩:=hM ds rs out nJ
 refine calls_of_wp hf hb ?_
 have r0:=R.aiD (N:=fn.ntmps) va hN
 have BC:oR ds=(g8 pas).map fun p=>p.ps.map PC.er:=by
  refine Sm va.l2 fun i d p hd hp=>?_
  have hv:vals[i]? =some (vals[i]'(by rw[va.l1];exact(List.getElem?_eq_some_iff.1 hd).1)):=List.getElem?_eq_getElem _
  exact(va.at_ i d _ p hd hv hp).1
 unfold KK at bX
 have fin:∀{σ:St} {a:Act} {w':World} {G:Gh},σ.CB ms ds=some (rs,out)->R w.heap.size (DY pas) w fn.ntmps σ a w' G->a.defers=[]/\∃v,(results fn a.tmps).run P w'=.ok v w'/\
   ∃(aW:List PA) (qs:List PC),aW.map (fun p=>(p.k,p.ps.map PC.er))=rs/\(Ending.returned v)=.returned (zC aW)/\qs.map PC.er=out/\My w w' pas aW qs:=by
  intro σ a w' G hx r
  have H:=r.hr
  unfold St.CB at hx
  split at hx
  ·rename_i vs e1
   split at hx
   ·rename_i vi Sd e2 e3
    injection hx with hx
    injection hx with mA eJ
    subst mA eJ
    have Br:∀p,g8 pas=some p->∃cs,σ.h aK=some (.box cs)/\cs.length=p.ps.length/\jJ cs=some Sd/\(G.g aK).nl=false/\(G.g aK).b=p.b/\(G.g aK).o=p.o:=by
     intro p hp
     rw[BC,hp] at e3
     simp only[Option.map_some,Cq] at e3
     split at e3
     ·rename_i cs eB
      split at e3
      ·rename_i hl
       have wC:(DY pas).re aK=some (w6 p):=by
        show(if aK=aK then(g8 pas).map w6 else none)=_
        rw[if_pos rfl,hp];rfl
       obtain⟨q1,q2,q3,_⟩:=r.re _ _ _ wC eB
       exact⟨cs,eB,by simpa using hl,e3,q1,q2,q3⟩
      ·cases e3
     ·cases e3
    have JG:∀q∈pas,q.k=.ptr->∃p,g8 pas=some p/\q=p:=by
     intro q hq hk
     cases hc:g8 pas with
     |none=>exact absurd hk (IF hc q hq)
     |some p=>
      obtain⟨c1,c2⟩:=DI hc
      obtain⟨i,hi⟩:=List.getElem?_of_mem hq
      obtain⟨j,hj⟩:=List.getElem?_of_mem c1
      have:=va.one i j q p hi hj hk c2
      subst this
      rw[hi] at hj
      injection hj with hj
      exact⟨p,rfl,hj⟩
    have hE:∀b,(DY pas) b->∃p cs,g8 pas=some p/\σ.h aK=some (.box cs)/\(G.g aK).nl=false/\b=(G.g aK).b:=by
     rintro b ⟨q,hq,hk,rfl⟩
     obtain⟨p,hp,rfl⟩:=JG q hq hk
     obtain⟨cs,h1,_,_,h2,h3,_⟩:=Br q hp
     exact⟨q,cs,hp,h1,h2,h3.symm⟩
    have qO:∀b,G.Im b->Az w pas b:=fun b hb=>by
     rcases H.pP b hb with h1|h1|h1
     ·exact .inl h1
     ·obtain⟨p,cs,_,h2,h3,rfl⟩:=hE b h1
      exact absurd hb (H.own aK (by rw[h2];simp) h3).1
     ·exact .inr h1
    have aij:∀b,Mw G σ.h b->Az w pas b/\(∀p,g8 pas=some p->b≠p.b):=by
     have aC:∀b,(∀cs,σ.h aK=some (.box cs)->(G.g aK).nl=false->b≠(G.g aK).b)->∀p,g8 pas=some p->b≠p.b:=fun b hb p hp=>by
      obtain⟨cs,h1,_,_,h2,h3,_⟩:=Br p hp
      rw[<-h3]
      exact hb cs h1 h2
     have YZ:∀b,(w.heap.size<=b\/(DY pas) b)->(∀cs,σ.h aK=some (.box cs)->(G.g aK).nl=false->b≠(G.g aK).b)->Az w pas b:=fun b hb aC=>by
      rcases hb with hb|hb
      ·exact .inl hb
      ·obtain⟨p,cs,_,h2,h3,h4⟩:=hE b hb
       exact absurd h4 (aC cs h2 h3)
     intro b hb
     rcases hb with hb|⟨n,gr,m,sz,xs,hn,hft⟩
     ·exact⟨qO b hb,aC b fun cs h1 h2 he=>(H.own aK (by rw[h1];simp) h2).1 (he▸hb)⟩
     ·have bP:σ.h n≠none:=by rw[hn];simp
      rcases hft with⟨aL,rfl⟩|hF
      ·have hd:∀cs,σ.h aK=some (.box cs)->(G.g aK).nl=false->(G.g n).b≠(G.g aK).b:=fun cs h1 h2=>
        H.inj n aK bP (by rw[h1];simp) (by rintro rfl;rw[hn] at h1;cases h1) aL h2
       exact⟨YZ _ (H.own n bP aL).2.1 hd,aC _ hd⟩
      ·have gf:=(H.row n gr m sz xs hn).mode
       cases m with
       |aF=>exact⟨qO b (gf b hF),aC b fun cs h1 h2 he=>(H.own aK (by rw[h1];simp) h2).1 (he▸gf b hF)⟩
       |ab=>exact⟨qO b (gf.1 b hF).1,aC b fun cs h1 h2 he=>(H.own aK (by rw[h1];simp) h2).1 (he▸(gf.1 b hF).1)⟩
       |live=>
        have hd:∀cs,σ.h aK=some (.box cs)->(G.g aK).nl=false->b≠(G.g aK).b:=fun cs h1 h2=>H.live n gr sz xs hn b hF aK (by rw[h1];simp) h2
        exact⟨YZ b (gf.1 b hF).2.2 hd,aC b hd⟩
    obtain⟨us,u1,u2,_,u3⟩:=KL r hr e1
    obtain⟨qs,q1,q2,q3⟩:∃qs:List PC,qs.map PC.er=Sd/\(∀pc∈qs,Good w' pc/\∀b,aT b pc->G.Im b)/\∀p∈pas,p.k=.ptr->GR w' p.b p.o qs:=by
     cases hc:g8 pas with
     |none=>
      rw[BC,hc] at e3
      simp only[Option.map_none,Cq] at e3
      injection e3 with e3
      subst e3
      exact⟨[],rfl,by simp,fun p hp hk=>absurd hk (IF hc p hp)⟩
     |some p=>
      obtain⟨cs,h1,h2,h3,h4,h5,h6⟩:=Br p hc
      obtain⟨XO,v1,v2⟩:=H.Ij h1
      obtain⟨ps,p1,p2,p3⟩:=HR.jJ h3 v1
      refine⟨ps,p1,p3,fun q hq hk j c hj=>?_⟩
      obtain⟨p',bj,rfl⟩:=JG q hq hk
      rw[hc] at bj
      injection bj with bj
      subst bj
      rw[<-h5,<-h6]
      refine v2 j _ ?_
      rw[<-p2,List.getElem?_map,hj];rfl
    have uE:Fr w.heap.size (Yh pas) w w':=⟨r.fr.os,r.fr.tape,r.fr.output,r.fr.size,r.fr.block,r.fr.iu⟩
    have IG:∀{vi:List Dv},rm σ.h vs=some vi->∃v,(results fn a.tmps).run P w'=.ok v w'/\
      ∃(aW:List PA) (qs:List PC),aW.map (fun p=>(p.k,p.ps.map PC.er))=vi/\(Ending.returned v)=.returned (zC aW)/\qs.map PC.er=Sd/\My w w' pas aW qs:=by
     intro vi hrb
     obtain⟨aW,b1,b2,b3,b4⟩:=H.rm hrb u2 u3
     refine⟨_,KM fn a.tmps u1,aW,qs,b1,by rw[<-b2,ann],q1,?_⟩
     exact⟨fun p hp=>(b3 p hp).2,fun p hp hk=>absurd hk (b3 p hp).1,fun p hp pc aU=>⟨(b4 p hp pc aU).1,fun b hb=>(aij b ((b4 p hp pc aU).2 b hb)).1⟩,uE,fun pc aU=>⟨(q2 pc aU).1,fun b hb=>qO b ((q2 pc aU).2 b hb)⟩,q3⟩
    refine⟨r.defers,?_⟩
    unfold CC at e2
    split at e2
    ·rename_i v0
     split at e2
     ·rename_i n xs Bq
      split at e2
      ·cases e2
      ·rename_i yM
       injection e2 with e2
       subst e2
       obtain⟨sz,cs,rfl,hn,eB⟩:=ML Bq
       obtain⟨nl,un,_⟩:=H.box n cs hn
       have bP:σ.h n≠none:=by rw[hn];simp
       obtain⟨o1,o2,o3⟩:=H.own n bP nl
       obtain⟨XO,v1,v2⟩:=H.Ij hn
       obtain⟨ps,p1,p2,p3⟩:=HR.jJ eB v1
       match us,u2 with
       |[u],_=>
        have hu:u=.pointer (some (ad (G.g n).b (G.g n).o)):=by
         have h0:=u3 0 _ u rfl rfl
         rcases h0 with h0|h0
         ·cases h0
         ·have h1:RC w' G σ.h (.ptr n 0 sz 0) u:=(h0.2 0 _ u rfl rfl).2
          simpa using(h1 bP).2
        have hB:w.heap.size<=(G.g n).b:=by
         rcases o2 with o2|o2
         ·exact o2
         ·obtain⟨p,cs',_,h2,h3,h4⟩:=hE _ o2
          exact absurd h4 (H.inj n aK bP (by rw[h2];simp) (by rintro rfl;exact yM (Nat.le_refl _)) nl h3)
        refine⟨_,KM fn a.tmps u1,[⟨.ptr,ps,(G.g n).b,(G.g n).o⟩],qs,by simp[p1],?_,q1,?_⟩
        ·rw[hu];rfl
        ·refine⟨fun p hp hk=>?_,fun p hp hk=>?_,fun p hp pc aU=>?_,uE,fun pc aU=>⟨(q2 pc aU).1,fun b hb=>qO b ((q2 pc aU).2 b hb)⟩,q3⟩
         ·simp at hp;subst hp;cases hk
         ·simp at hp
          subst hp
          refine⟨rfl,hB,un,fun j c hj=>v2 j _ ?_,fun pc aU hb=>o1 ((p3 pc aU).2 _ hb),fun pc aU hb=>o1 ((q2 pc aU).2 _ hb)⟩
          rw[<-p2,List.getElem?_map,hj];rfl
         ·simp at hp
          subst hp
          exact⟨(p3 pc aU).1,fun b hb=>qO b ((p3 pc aU).2 b hb)⟩
     ·exact IG e2
    ·exact IG e2
   ·cases hx
  ·cases hx
 split at bX
 ·rename_i σ e
  exact mf hT hm mc hc e r0 fun a w' G r=>fin bX r
 ·rename_i σ e
  exact mf hT hm mc hc e r0 fun a w' G r=>fin bX r
 ·cases bX
end
end Go.Am
