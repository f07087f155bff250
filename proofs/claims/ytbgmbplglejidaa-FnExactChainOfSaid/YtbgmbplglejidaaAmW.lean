/- AmW: functions whose results may share, and that may change the cells of one pointer: from code to what is said of them. No condition. -/
import Derived.Test.YtbgmbplglejidaaAm30
set_option linter.unusedVariables false
namespace Go.Am
def CT:Dv->aj
 |(.one,[x])=>.one (.c x)
 |(.one,_)=>.one .bn
 |(.agg,xs)=>.agg (xs.map .c)
 |(.ptr,_)=>.one (.ptr aM 0 0 0)
def s9:Nat->List Dv->(Nat->aj)
 |_,[]=>vO
 |k,d::ds=>ax (s9 (k+1) ds) k (CT d)
def oe:List Dv->Option (List C)
 |[]=>none
 |(.ptr,xs)::_=>some xs
 |_::ds=>oe ds
def nX (ds:List Dv):Nat->Option aq:=fun n=>match Nat.beq n aM with
 |true=>(oe ds).map fun xs=>.box (xs.map .c)
 |false=>none
def Ef (ds:List Dv):St:={env:=s9 0 ds,h:=nX ds,used:=fun n=>Nat.ble aM n}
theorem adV (ds:List Dv) (n:Nat) (hn:aM<=n):(Ef ds).used n=true:=Nat.ble_eq_true_of_le hn
def qI (h:Nat->Option aq):List aj->Option (List Dv)
 |[]=>some []
 |v::vs=>match v.cells? with
  |some (ag,cs)=>match gB h cs,qI h vs with
   |some xs,some ds=>some ((if ag=true then .agg else .one,xs)::ds)
   |_,_=>none
  |none=>none
def B6 (h:Nat->Option aq):List aj->Option (List Dv)
 |[v]=>match lr h v with
  |some (n,xs)=>if aM<=n then none else some [(.ptr,xs)]
  |none=>qI h [v]
 |vs=>qI h vs
def BP (h:Nat->Option aq):Option (List C)->Option (List C)
 |none=>some []
 |some xs=>match h aM with
  |some (.box cs)=>if cs.length=xs.length then jr cs else none
  |_=>none
def St.B5 (σ:St) (ms:List bh) (ds:List Dv):Option (List Dv×List C):=
 match σ.rT ms with
 |some vs=>match B6 σ.h vs,BP σ.h (oe ds) with
  |some rs,some out=>some (rs,out)
  |_,_=>none
 |none=>none
def J5 (T:aS) (mc:lg) (aA:List bh) (ds:List Dv):Option (List Dv×List C):=
 match dY T mc (Ef ds) with
 |some (.fy σ)=>σ.B5 aA ds
 |some (.ret σ)=>σ.B5 aA ds
 |_=>none
section
variable {B:Nat} {E:Ex} {w0 w w':World} {G G':Gh} {N:Nat} {h h':Nat->Option aq} {used:Nat->Bool}
variable {P:Program} {T:aS} {a:Act} {σ σ':St} {Q:Exit->Act->World->Prop}
theorem PW:∀(ds:List Dv) (k n:Nat),s9 k ds n=if k<=n then(match ds[n - k]? with|some d=>CT d|none=>.one .bn) else .one .bn
 |[],k,n=>by simp[s9,vO]
 |d::ds,k,n=>by
  simp only[s9,iO,PW ds]
  by_cases h:n=k
  ·subst h;simp
  ·by_cases h2:k<=n
   ·have h3:k+1<=n:=by omega
    have h4:n - k=(n - (k+1))+1:=by omega
    simp[h,h2,h3,h4]
   ·have h3:¬k+1<=n:=by omega
    simp[h,h2,h3]
theorem Jf {ds:List Dv} {n:Nat} {b:aq} (hn:nX ds n=some b):n=aM/\∃xs,oe ds=some xs/\b=.box (xs.map .c):=by
 unfold nX at hn
 split at hn
 ·rename_i e
  have:=Nat.eq_of_beq_eq_true e
  subst this
  refine⟨rfl,?_⟩
  cases hp:oe ds with
  |none=>rw[hp] at hn;cases hn
  |some xs=>rw[hp] at hn;injection hn with hn;exact⟨xs,rfl,hn.symm⟩
 ·cases hn
def gG:List PA->Option PA
 |[]=>none
 |p::ps=>if p.k=.ptr then some p else gG ps
theorem C6:∀{pas:List PA} {p:PA},gG pas=some p->p∈pas/\p.k=.ptr
 |[],p,h=>by cases h
 |q::pas,p,h=>by
  unfold gG at h
  split at h
  ·injection h with h;subst h;rename_i hk;exact⟨by simp,hk⟩
  ·obtain⟨h1,h2⟩:=C6 h;exact⟨by simp[h1],h2⟩
theorem Ib:∀{pas:List PA},gG pas=none->∀p∈pas,p.k≠ .ptr
 |[],_,p,hp=>by cases hp
 |q::pas,h,p,hp=>by
  unfold gG at h
  split at h
  ·cases h
  ·rename_i hk
   cases hp with
   |head=>exact hk
   |tail _ hp=>exact Ib h p hp
theorem Sl:∀{ds:List Dv} {pas:List PA},pas.length=ds.length->(∀(i:Nat) (d:Dv) (p:PA),ds[i]? =some d->pas[i]? =some p->d=(p.k,p.ps.map PC.er))->oe ds=(gG pas).map fun p=>p.ps.map PC.er
 |[],[],_,_=>rfl
 |[],_::_,hl,_=>by simp at hl
 |_::_,[],hl,_=>by simp at hl
 |d::ds,p::pas,hl,hd=>by
  have h0:=hd 0 d p rfl rfl
  have ih:=Sl (ds:=ds) (pas:=pas) (by simpa using hl) (fun i d p h1 h2=>hd (i+1) d p h1 h2)
  subst h0
  obtain⟨k,ps,b,o⟩:=p
  cases k with
  |ptr=>rfl
  |one=>simpa[oe,gG] using ih
  |agg=>simpa[oe,gG] using ih
def w5 (p:PA):PB:=⟨false,p.b,p.o,0,[],none⟩
def Dk (pas:List PA):Ex:=
 ⟨fun b=>∃p∈pas,p.k=.ptr/\b=p.b,fun n=>if n=aM then(gG pas).map w5 else none,fun n p h=>(by
  by_cases hn:n=aM
  ·exact Nat.le_of_eq hn.symm
  ·rw[if_neg hn] at h;cases h),fun b=>∃q∈pas,∃pc∈q.ps,aT b pc⟩
def vT (pas:List PA):Gh:=⟨fun b=>∃q∈pas,∃pc∈q.ps,aT b pc,fun n=>match gG pas with|some p=>w5 p|none=>default⟩
theorem R.aiQ {ds:List Dv} {vals:List Value} {pas:List PA} (va:Mc w ds vals pas) (hN:ds.length<=N):
  R w.heap.size (Dk pas) w N (Ef ds) {tmps:=vals.toArray++Array.replicate (N - vals.toArray.size) undef,defers:=[]} w (vT pas):=by
 have hl:=va.l1
 have A9:oe ds=(gG pas).map fun p=>p.ps.map PC.er:=by
  refine Sl va.l2 fun i d p hd hp=>?_
  have hv:vals[i]? =some (vals[i]'(by rw[va.l1];exact(List.getElem?_eq_some_iff.1 hd).1)):=List.getElem?_eq_getElem _
  exact(va.at_ i d _ p hd hv hp).1
 have gH:∀q∈pas,∀pc∈q.ps,Good w pc:=by
  intro q hq pc aY
  obtain⟨i,hi,rfl⟩:=List.getElem_of_mem hq
  have hd:ds[i]? =some (ds[i]'(by rw[<-va.l2];exact hi)):=List.getElem?_eq_getElem _
  have hv:vals[i]? =some (vals[i]'(by rw[va.l1,<-va.l2];exact hi)):=List.getElem?_eq_getElem _
  exact(va.at_ i _ _ _ hd hv (List.getElem?_eq_getElem hi)).2.1 pc aY
 have ah5:∀q∈pas,q.k=.ptr->F5 w q.b q.o q.ps/\∃v:Value,v∈vals/\v=.pointer (some (ad q.b q.o)):=by
  intro q hq hk
  obtain⟨i,hi,rfl⟩:=List.getElem_of_mem hq
  have hd:ds[i]? =some (ds[i]'(by rw[<-va.l2];exact hi)):=List.getElem?_eq_getElem _
  have hv:vals[i]? =some (vals[i]'(by rw[va.l1,<-va.l2];exact hi)):=List.getElem?_eq_getElem _
  have h3:=(va.at_ i _ _ _ hd hv (List.getElem?_eq_getElem hi)).2.2
  rw[hk] at h3
  exact⟨h3.2.2,_,List.mem_of_getElem? hv,h3.1⟩
 have cell:∀q∈pas,∀pc∈q.ps,RC w (vT pas) (nX ds) (.c pc.er) pc.val:=fun q hq pc aY=>⟨pc,rfl,rfl,gH q hq pc aY,fun b hb=>⟨q,hq,pc,aY,hb⟩⟩
 have cells:∀q∈pas,cJ w (vT pas) (nX ds) ((q.ps.map PC.er).map .c) (q.ps.map PC.val):=by
  intro q hq
  refine⟨by simp,fun j c u hj hu=>?_⟩
  simp only[List.getElem?_map,List.map_map] at hj hu
  cases hp:q.ps[j]? with
  |none=>rw[hp] at hj;cases hj
  |some pc=>
   rw[hp] at hj hu
   simp at hj hu
   subst hj hu
   exact⟨PC.kv pc,cell q hq pc (List.mem_of_getElem? hp)⟩
 refine⟨rfl,by simp;omega,fun s=>?_,fun s n hn=>?_,?_,Fr.refl _ _ _ (Nat.le_refl _),fun n p b hp hb=>?_,fun n hn=>Nat.ble_eq_true_of_le hn⟩
 ·show RA w _ (nX ds) (s9 0 ds s) _
  rw[PW]
  simp only[Nat.zero_le,if_true,Nat.sub_zero]
  cases hs:ds[s]? with
  |none=>exact Or.inl rfl
  |some d=>
   have Z1:=(List.getElem?_eq_some_iff.1 hs).1
   have fV:s<vals.length:=by rw[hl];exact Z1
   have hv:vals[s]? =some vals[s]:=List.getElem?_eq_getElem fV
   obtain⟨q,hp⟩:∃q,pas[s]? =some q:=⟨_,List.getElem?_eq_getElem (by rw[va.l2];exact Z1)⟩
   have:(vals.toArray++Array.replicate (N - vals.toArray.size) undef).getD s undef=vals[s]:=by
    simp[Array.getD_eq_getD_getElem?,Array.getElem?_append,fV]
   rw[this]
   have uA:=List.mem_of_getElem? hp
   obtain⟨e1,e2,e3⟩:=va.at_ s d _ q hs hv hp
   generalize vals[s]=u at*
   subst e1
   obtain⟨k,ps,b,o⟩:=q
   cases k with
   |one=>
    have e3:ps.map PC.val=[u]:=e3
    obtain⟨pc,rfl⟩:∃pc,ps=[pc]:=by
     have:=congrArg List.length e3
     exact List.length_eq_one_iff.1 (by simpa using this)
    simp at e3
    rw[<-e3]
    exact RA.fZ (PC.kv pc) (cell _ uA pc (by simp))
   |agg=>exact⟨_,e3,cells _ uA⟩
   |ptr=>
    have e3:u=.pointer (some (ad b o))/\_:=e3
    rw[e3.1]
    have hc:gG pas=some ⟨.ptr,ps,b,o⟩:=by
     cases hc:gG pas with
     |none=>exact absurd rfl (Ib hc _ uA)
     |some p=>
      obtain⟨c1,c2⟩:=C6 hc
      obtain⟨i,hi⟩:=List.getElem?_of_mem c1
      have:=va.one i s p _ hi hp c2 rfl
      subst this
      rw[hi] at hp
      injection hp with hp
      rw[hp]
    refine RA.fZ (c:=.ptr aM 0 0 0) rfl (fun _=>?_)
    simp[vT,hc,w5]
 ·have bk:(s9 0 ds s).ref n:=hn
  rw[PW] at bk
  simp only[Nat.zero_le,if_true,Nat.sub_zero] at bk
  cases hs:ds[s]? with
  |none=>rw[hs] at bk;exact absurd bk id
  |some d=>
   rw[hs] at bk
   obtain⟨k,xs⟩:=d
   cases k with
   |one=>match xs,bk with
    |[],bk=>exact absurd bk id
    |[x],bk=>exact absurd bk id
    |_::_::_,bk=>exact absurd bk id
   |agg=>
    obtain⟨c,hc,hh⟩:=bk
    obtain⟨y,_,rfl⟩:=List.mem_map.1 hc
    exact absurd hh id
   |ptr=>
    have bk:n=aM:=bk
    subst bk
    exact adV ds aM (Nat.le_refl aM)
 ·
  have R6:∀n gr m sz xs,nX ds n≠some (.row gr m sz xs):=fun n gr m sz xs hn=>by obtain⟨_,_,_,e⟩:=Jf hn;cases e
  have lH:∀n,nX ds n≠none->n=aM/\∃p,gG pas=some p/\(vT pas).g n=w5 p/\nX ds n=some (.box ((p.ps.map PC.er).map .c)):=by
   intro n hn
   cases hh:nX ds n with
   |none=>exact absurd hh hn
   |some b=>
    obtain⟨rfl,xs,e1,e2⟩:=Jf hh
    rw[A9] at e1
    cases hc:gG pas with
    |none=>rw[hc] at e1;cases e1
    |some p=>
     rw[hc] at e1
     injection e1 with e1
     exact⟨rfl,p,rfl,by simp[vT,hc],by rw[e2,<-e1]⟩
  refine⟨fun n hn=>?_,fun m cs c n hm hc hr=>?_,fun n cs hn=>?_,fun n gr m sz xs hn=>absurd hn (R6 _ _ _ _ _),fun n hn hlf=>?_,fun n n' hn bk aE=>?_,fun b hb=>?_,fun b hb=>.inr (.inr hb),
   fun n n' gr m sz xs bj m' aL ar hn=>absurd hn (R6 _ _ _ _ _),fun n gr sz xs hn=>absurd hn (R6 _ _ _ _ _),?_,?_,?_⟩
  ·obtain⟨rfl,_⟩:=lH n hn
   exact adV ds aM (Nat.le_refl aM)
  ·have bI:nX ds m=some (.box cs):=hm
   obtain⟨_,xs,_,e⟩:=Jf bI
   injection e with e
   subst e
   obtain⟨x,_,rfl⟩:=List.mem_map.1 hc
   exact absurd hr id
  ·have bk:nX ds n=some (.box cs):=hn
   obtain⟨rfl,p,c1,c2,c3⟩:=lH n (by rw[bk];simp)
   rw[bk] at c3
   injection c3 with c3
   injection c3 with c3
   subst c3
   obtain⟨m1,m2⟩:=C6 c1
   rw[c2]
   refine⟨rfl,(va.jc p m1 m2).1,fun j c hj=>?_⟩
   rw[List.getElem?_map,List.getElem?_map] at hj
   cases mC:p.ps[j]? with
   |none=>rw[mC] at hj;cases hj
   |some pc=>
    rw[mC] at hj
    simp at hj
    subst hj
    exact⟨pc.val,(ah5 p m1 m2).1 j pc mC,PC.kv pc,cell p m1 pc (List.mem_of_getElem? mC)⟩
  ·obtain⟨rfl,p,c1,c2,c3⟩:=lH n hn
   obtain⟨m1,m2⟩:=C6 c1
   rw[c2]
   obtain⟨u1,u2⟩:=va.jc p m1 m2
   exact⟨fun⟨q,hq,pc,aY,hb⟩=>u2 q hq pc aY hb,.inr ⟨p,m1,m2,rfl⟩,u1.lt⟩
  ·obtain⟨rfl,_⟩:=lH n hn
   obtain⟨rfl,_⟩:=lH n' bk
   exact absurd rfl aE
  ·obtain⟨q,hq,pc,aY,hb⟩:=hb
   exact(gH q hq pc aY).lt hb
  ·intro i pc hi;simp at hi
  ·intro i j pc di b _ hi;simp at hi
  ·intro i pc n gr m sz xs b hi;simp at hi
 ·have be:(if n=aM then(gG pas).map w5 else none)=some p:=hp
  split at be
  ·rename_i hn
   subst hn
   cases hc:gG pas with
   |none=>rw[hc] at be;cases be
   |some q=>
    rw[hc] at be
    injection be with be
    subst be
    have hg:(vT pas).g aM=w5 q:=by simp[vT,hc]
    rw[hg]
    refine⟨rfl,rfl,rfl,rfl,rfl,fun gr sz xs aW=>?_⟩
    have OE:nX ds aM=some b:=hb
    obtain⟨_,_,_,e⟩:=Jf OE
    rw[e] at aW;cases aW
  ·cases be
def Ma (G:Gh) (h:Nat->Option aq) (b:Nat):Prop:=G.Im b\/∃n gr m sz xs,h n=some (.row gr m sz xs)/\rp G n b
theorem HR.adY (H:HR B E w G h used []):∀{cs:List ah} {xs:List C} {vs:List Value},Am.gB h cs=some xs->cJ w G h cs vs->∃ps:List PC,ps.map PC.er=xs/\ps.map PC.val=vs/\∀pc∈ps,Good w pc/\∀b,aT b pc->Ma G h b
 |[],xs,vs,hx,hc=>by
  simp only[Am.gB] at hx
  injection hx with hx
  subst hx
  have:vs=[]:=List.eq_nil_of_length_eq_zero (by simpa using hc.1)
  subst this
  exact⟨[],rfl,rfl,by simp⟩
 |c::cs,xs,vs,hx,hc=>by
  simp only[Am.gB] at hx
  split at hx
  ·rename_i x ar e1 e2
   injection hx with hx
   subst hx
   match vs,hc.1 with
   |v::vs,hl=>
    obtain⟨pc,a1,a2,a3,a4⟩:=H.WB e1 (hc.2 0 c v rfl rfl).2
    obtain⟨ps,b1,b2,b3⟩:=H.adY (vs:=vs) e2 ⟨by simpa using hl,fun j c u h1 h2=>hc.2 (j+1) c u h1 h2⟩
    refine⟨pc::ps,by simp[a1,b1],by simp[a2,b2],fun q hq=>?_⟩
    cases hq with
    |head=>exact⟨a3,fun b hb=>(a4 b hb).imp id fun⟨n,gr,m,sz,xs,_,h1,h2⟩=>⟨n,gr,m,sz,xs,h1,h2⟩⟩
    |tail _ hq=>exact b3 q hq
  ·cases hx
theorem HR.qI (H:HR B E w G h used []):∀{vs:List aj} {ds:List Dv} {us:List Value},Am.qI h vs=some ds->us.length=vs.length->(∀(j:Nat) (x:aj) (v:Value),vs[j]? =some x->us[j]? =some v->RA w G h x v)->
  ∃aV:List PA,aV.map (fun p=>(p.k,p.ps.map PC.er))=ds/\aV.map zi=us/\(∀p∈aV,p.k≠ .ptr/\(p.k=.one->p.ps.length=1))/\∀p∈aV,∀pc∈p.ps,Good w pc/\∀b,aT b pc->Ma G h b
 |[],ds,us,hx,hl,hc=>by
  simp only[Am.qI] at hx
  injection hx with hx
  subst hx
  have:us=[]:=List.eq_nil_of_length_eq_zero (by simpa using hl)
  subst this
  exact⟨[],rfl,rfl,by simp,by simp⟩
 |x::vs,ds,us,hx,hl,hc=>by
  simp only[Am.qI] at hx
  split at hx
  ·rename_i ag cs j7
   split at hx
   ·rename_i xs tW e1 e2
    injection hx with hx
    subst hx
    match us,hl with
    |v::us,hl=>
     obtain⟨aV,b1,b2,b3,b4⟩:=H.qI (us:=us) e2 (by simpa using hl) (fun j x v h1 h2=>hc (j+1) x v h1 h2)
     have h0:=hc 0 x v rfl rfl
     have db:∃vs:List Value,(if ag=true then v=.agg vs.toArray else vs=[v])/\cJ w G h cs vs:=by
      cases x with
      |one c=>
       have OQ:ag=false/\cs=[c]:=by cases c<;>simp[aj.cells?] at j7<;>exact⟨j7.1,j7.2.symm⟩
       obtain⟨rfl,rfl⟩:=OQ
       rcases h0 with h0|h0
       ·subst h0;simp[aj.cells?] at j7
       ·exact⟨[v],rfl,h0⟩
      |agg cs'=>
       simp[aj.cells?] at j7
       obtain⟨rfl,rfl⟩:=j7
       obtain⟨vs,e,h1⟩:∃vs:List Value,v=.agg vs.toArray/\cJ w G h cs' vs:=h0
       exact⟨vs,e,h1⟩
      |bo xs=>simp[aj.cells?] at j7
     obtain⟨X4,iE,bG⟩:=db
     obtain⟨ps,p1,p2,p3⟩:=H.adY e1 bG
     refine⟨⟨if ag=true then .agg else .one,ps,0,0⟩::aV,by simp[p1,b1],?_,fun p hp=>?_,fun p hp pc aY=>?_⟩
     ·rw[List.map_cons,b2]
      congr 1
      cases ag with
      |true=>
       simp only[if_true] at iE⊢
       rw[iE,<-p2]
       rfl
      |false=>
       simp only[Bool.false_eq_true,if_false] at iE⊢
       rw[<-p2] at iE
       match ps,iE with
       |[pc],iE=>simp at iE;exact iE
     ·cases hp with
      |head=>
       cases ag with
       |true=>exact⟨by simp,fun h=>by cases h⟩
       |false=>
        simp only[Bool.false_eq_true,if_false] at iE
        refine⟨by simp,fun _=>?_⟩
        have:(ps.map PC.val).length=1:=by rw[p2,iE];rfl
        simpa using this
      |tail _ hp=>exact b3 p hp
     ·cases hp with
      |head=>exact p3 pc aY
      |tail _ hp=>exact b4 p hp pc aY
   ·cases hx
  ·cases hx
theorem aoD {aV:List PA}:BR (aV.map zi)=zj aV:=by
 match aV with
 |[]=>rfl
 |[p]=>rfl
 |p::q::aV=>rfl
theorem aqz (hT:nI P T) (hm:P.follows .mixedOrders=true) {f:FuncId} {fn:Func} {c:Code} {mc:lg} {ms:List bh} {M:List Dv->Option (List Dv×List C)} (hf:P.funcs[f]? =some fn) (hb:fn.body=some c)
  (hc:iT P fn.ntmps c mc=true) (hr:mZ P fn.results.toList ms=true) (hM:∀ds rs out,M ds=some (rs,out)->ds.length<=fn.ntmps/\J5 T mc ms ds=some (rs,out)):Af P f M:=by
 intro ds rs out m8 w vals pas va
 obtain⟨hN,bO⟩:=hM ds rs out m8
 refine calls_of_wp hf hb ?_
 have r0:=R.aiQ (N:=fn.ntmps) va hN
 have A9:oe ds=(gG pas).map fun p=>p.ps.map PC.er:=by
  refine Sl va.l2 fun i d p hd hp=>?_
  have hv:vals[i]? =some (vals[i]'(by rw[va.l1];exact(List.getElem?_eq_some_iff.1 hd).1)):=List.getElem?_eq_getElem _
  exact(va.at_ i d _ p hd hv hp).1
 unfold J5 at bO
 have fin:∀{σ:St} {a:Act} {w':World} {G:Gh},σ.B5 ms ds=some (rs,out)->R w.heap.size (Dk pas) w fn.ntmps σ a w' G->a.defers=[]/\∃v,(results fn a.tmps).run P w'=.ok v w'/\
   ∃(aV:List PA) (qs:List PC),aV.map (fun p=>(p.k,p.ps.map PC.er))=rs/\(Ending.returned v)=.returned (zj aV)/\qs.map PC.er=out/\Mb w w' pas aV qs:=by
  intro σ a w' G hx r
  have H:=r.hr
  unfold St.B5 at hx
  split at hx
  ·rename_i vs e1
   split at hx
   ·rename_i u7 Sd e2 e3
    injection hx with hx
    injection hx with lL eC
    subst lL eC
    have AV:∀p,gG pas=some p->∃cs,σ.h aM=some (.box cs)/\cs.length=p.ps.length/\jr cs=some Sd/\(G.g aM).nl=false/\(G.g aM).b=p.b/\(G.g aM).o=p.o:=by
     intro p hp
     rw[A9,hp] at e3
     simp only[Option.map_some,BP] at e3
     split at e3
     ·rename_i cs ew
      split at e3
      ·rename_i hl
       have wk:(Dk pas).qD aM=some (w5 p):=by
        show(if aM=aM then(gG pas).map w5 else none)=_
        rw[if_pos rfl,hp];rfl
       obtain⟨q1,q2,q3,_⟩:=r.qD _ _ _ wk ew
       exact⟨cs,ew,by simpa using hl,e3,q1,q2,q3⟩
      ·cases e3
     ·cases e3
    have Jb:∀q∈pas,q.k=.ptr->∃p,gG pas=some p/\q=p:=by
     intro q hq hk
     cases hc:gG pas with
     |none=>exact absurd hk (Ib hc q hq)
     |some p=>
      obtain⟨c1,c2⟩:=C6 hc
      obtain⟨i,hi⟩:=List.getElem?_of_mem hq
      obtain⟨j,hj⟩:=List.getElem?_of_mem c1
      have:=va.one i j q p hi hj hk c2
      subst this
      rw[hi] at hj
      injection hj with hj
      exact⟨p,rfl,hj⟩
    have hE:∀b,(Dk pas) b->∃p cs,gG pas=some p/\σ.h aM=some (.box cs)/\(G.g aM).nl=false/\b=(G.g aM).b:=by
     rintro b ⟨q,hq,hk,rfl⟩
     obtain⟨p,hp,rfl⟩:=Jb q hq hk
     obtain⟨cs,h1,_,_,h2,h3,_⟩:=AV q hp
     exact⟨q,cs,hp,h1,h2,h3.symm⟩
    have qc:∀b,G.Im b->Ae w pas b:=fun b hb=>by
     rcases H.oY b hb with h1|h1|h1
     ·exact .inl h1
     ·obtain⟨p,cs,_,h2,h3,rfl⟩:=hE b h1
      exact absurd hb (H.own aM (by rw[h2];simp) h3).1
     ·exact .inr h1
    have aio:∀b,Ma G σ.h b->Ae w pas b/\(∀p,gG pas=some p->b≠p.b):=by
     have aE:∀b,(∀cs,σ.h aM=some (.box cs)->(G.g aM).nl=false->b≠(G.g aM).b)->∀p,gG pas=some p->b≠p.b:=fun b hb p hp=>by
      obtain⟨cs,h1,_,_,h2,h3,_⟩:=AV p hp
      rw[<-h3]
      exact hb cs h1 h2
     have Zf:∀b,(w.heap.size<=b\/(Dk pas) b)->(∀cs,σ.h aM=some (.box cs)->(G.g aM).nl=false->b≠(G.g aM).b)->Ae w pas b:=fun b hb aE=>by
      rcases hb with hb|hb
      ·exact .inl hb
      ·obtain⟨p,cs,_,h2,h3,h4⟩:=hE b hb
       exact absurd h4 (aE cs h2 h3)
     intro b hb
     rcases hb with hb|⟨n,gr,m,sz,xs,hn,hft⟩
     ·exact⟨qc b hb,aE b fun cs h1 h2 he=>(H.own aM (by rw[h1];simp) h2).1 (he▸hb)⟩
     ·have bJ:σ.h n≠none:=by rw[hn];simp
      rcases hft with⟨aR,rfl⟩|hF
      ·have hd:∀cs,σ.h aM=some (.box cs)->(G.g aM).nl=false->(G.g n).b≠(G.g aM).b:=fun cs h1 h2=>
        H.inj n aM bJ (by rw[h1];simp) (by rintro rfl;rw[hn] at h1;cases h1) aR h2
       exact⟨Zf _ (H.own n bJ aR).2.1 hd,aE _ hd⟩
      ·have fS:=(H.row n gr m sz xs hn).mode
       cases m with
       |aO=>exact⟨qc b (fS b hF),aE b fun cs h1 h2 he=>(H.own aM (by rw[h1];simp) h2).1 (he▸fS b hF)⟩
       |ab=>exact⟨qc b (fS.1 b hF).1,aE b fun cs h1 h2 he=>(H.own aM (by rw[h1];simp) h2).1 (he▸(fS.1 b hF).1)⟩
       |live=>
        have hd:∀cs,σ.h aM=some (.box cs)->(G.g aM).nl=false->b≠(G.g aM).b:=fun cs h1 h2=>H.live n gr sz xs hn b hF aM (by rw[h1];simp) h2
        exact⟨Zf b (fS.1 b hF).2.2 hd,aE b hd⟩
    obtain⟨us,u1,u2,_,u3⟩:=J6 r hr e1
    obtain⟨qs,q1,q2,q3⟩:∃qs:List PC,qs.map PC.er=Sd/\(∀pc∈qs,Good w' pc/\∀b,aT b pc->G.Im b)/\∀p∈pas,p.k=.ptr->F5 w' p.b p.o qs:=by
     cases hc:gG pas with
     |none=>
      rw[A9,hc] at e3
      simp only[Option.map_none,BP] at e3
      injection e3 with e3
      subst e3
      exact⟨[],rfl,by simp,fun p hp hk=>absurd hk (Ib hc p hp)⟩
     |some p=>
      obtain⟨cs,h1,h2,h3,h4,h5,h6⟩:=AV p hc
      obtain⟨X4,v1,v2⟩:=H.HL h1
      obtain⟨ps,p1,p2,p3⟩:=HR.jr h3 v1
      refine⟨ps,p1,p3,fun q hq hk j c hj=>?_⟩
      obtain⟨p',be,rfl⟩:=Jb q hq hk
      rw[hc] at be
      injection be with be
      subst be
      rw[<-h5,<-h6]
      refine v2 j _ ?_
      rw[<-p2,List.getElem?_map,hj];rfl
    have uv:Fr w.heap.size (Yv pas) w w':=⟨r.fr.os,r.fr.tape,r.fr.output,r.fr.size,r.fr.block,r.fr.jc⟩
    have Ic:∀{u7:List Dv},qI σ.h vs=some u7->∃v,(results fn a.tmps).run P w'=.ok v w'/\
      ∃(aV:List PA) (qs:List PC),aV.map (fun p=>(p.k,p.ps.map PC.er))=u7/\(Ending.returned v)=.returned (zj aV)/\qs.map PC.er=Sd/\Mb w w' pas aV qs:=by
     intro u7 hrb
     obtain⟨aV,b1,b2,b3,b4⟩:=H.qI hrb u2 u3
     refine⟨_,J7 fn a.tmps u1,aV,qs,b1,by rw[<-b2,aoD],q1,?_⟩
     exact⟨fun p hp=>(b3 p hp).2,fun p hp hk=>absurd hk (b3 p hp).1,fun p hp pc aY=>⟨(b4 p hp pc aY).1,fun b hb=>(aio b ((b4 p hp pc aY).2 b hb)).1⟩,uv,fun pc aY=>⟨(q2 pc aY).1,fun b hb=>qc b ((q2 pc aY).2 b hb)⟩,q3⟩
    refine⟨r.defers,?_⟩
    unfold B6 at e2
    split at e2
    ·rename_i v0
     split at e2
     ·rename_i n xs hbp
      split at e2
      ·cases e2
      ·rename_i wl
       injection e2 with e2
       subst e2
       obtain⟨sz,cs,rfl,hn,ew⟩:=Mm hbp
       obtain⟨nl,un,_⟩:=H.box n cs hn
       have bJ:σ.h n≠none:=by rw[hn];simp
       obtain⟨o1,o2,o3⟩:=H.own n bJ nl
       obtain⟨X4,v1,v2⟩:=H.HL hn
       obtain⟨ps,p1,p2,p3⟩:=HR.jr ew v1
       match us,u2 with
       |[u],_=>
        have hu:u=.pointer (some (ad (G.g n).b (G.g n).o)):=by
         have h0:=u3 0 _ u rfl rfl
         rcases h0 with h0|h0
         ·cases h0
         ·have h1:RC w' G σ.h (.ptr n 0 sz 0) u:=(h0.2 0 _ u rfl rfl).2
          simpa using(h1 bJ).2
        have hB:w.heap.size<=(G.g n).b:=by
         rcases o2 with o2|o2
         ·exact o2
         ·obtain⟨p,cs',_,h2,h3,h4⟩:=hE _ o2
          exact absurd h4 (H.inj n aM bJ (by rw[h2];simp) (by rintro rfl;exact wl (Nat.le_refl _)) nl h3)
        refine⟨_,J7 fn a.tmps u1,[⟨.ptr,ps,(G.g n).b,(G.g n).o⟩],qs,by simp[p1],?_,q1,?_⟩
        ·rw[hu];rfl
        ·refine⟨fun p hp hk=>?_,fun p hp hk=>?_,fun p hp pc aY=>?_,uv,fun pc aY=>⟨(q2 pc aY).1,fun b hb=>qc b ((q2 pc aY).2 b hb)⟩,q3⟩
         ·simp at hp;subst hp;cases hk
         ·simp at hp
          subst hp
          refine⟨rfl,hB,un,fun j c hj=>v2 j _ ?_,fun pc aY hb=>o1 ((p3 pc aY).2 _ hb),fun pc aY hb=>o1 ((q2 pc aY).2 _ hb)⟩
          rw[<-p2,List.getElem?_map,hj];rfl
         ·simp at hp
          subst hp
          exact⟨(p3 pc aY).1,fun b hb=>qc b ((p3 pc aY).2 b hb)⟩
     ·exact Ic e2
    ·exact Ic e2
   ·cases hx
  ·cases hx
 split at bO
 ·rename_i σ e
  exact lD hT hm mc hc e r0 fun a w' G r=>fin bO r
 ·rename_i σ e
  exact lD hT hm mc hc e r0 fun a w' G r=>fin bO r
 ·cases bO
end
end Go.Am
