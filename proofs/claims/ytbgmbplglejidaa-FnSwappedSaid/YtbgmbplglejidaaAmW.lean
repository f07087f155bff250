/- AmW: functions whose results may share, and that may change the cells of one pointer: from code to what is said of them. No condition. -/
import Derived.Test.YtbgmbplglejidaaAm30
set_option linter.unusedVariables false
namespace Go.Am
def Ee:Dv->ak
 |(.one,[x])=>.one (.c x)
 |(.one,_)=>.one .bq
 |(.agg,xs)=>.agg (xs.map .c)
 |(.ptr,_)=>.one (.ptr aK 0 0 0)
def tI:Nat->List Dv->(Nat->ak)
 |_,[]=>wG
 |k,d::ds=>aA (tI (k+1) ds) k (Ee d)
def pf:List Dv->Option (List C)
 |[]=>none
 |(.ptr,xs)::_=>some xs
 |_::ds=>pf ds
def oV (ds:List Dv):Nat->Option ar:=fun n=>match Nat.beq n aK with
 |true=>(pf ds).map fun xs=>.box (xs.map .c)
 |false=>none
def FD (ds:List Dv):St:={env:=tI 0 ds,h:=oV ds,used:=fun n=>Nat.ble aK n}
theorem aeJ (ds:List Dv) (n:Nat) (hn:aK<=n):(FD ds).used n=true:=Nat.ble_eq_true_of_le hn
def ru (h:Nat->Option ar):List ak->Option (List Dv)
 |[]=>some []
 |v::vs=>match v.cells? with
  |some (ag,cs)=>match g7 h cs,ru h vs with
   |some xs,some ds=>some ((if ag=true then .agg else .one,xs)::ds)
   |_,_=>none
  |none=>none
def Dg (h:Nat->Option ar):List ak->Option (List Dv)
 |[v]=>match mw h v with
  |some (n,xs)=>if aK<=n then none else some [(.ptr,xs)]
  |none=>ru h [v]
 |vs=>ru h vs
def C5 (h:Nat->Option ar):Option (List C)->Option (List C)
 |none=>some []
 |some xs=>match h aK with
  |some (.box cs)=>if cs.length=xs.length then jW cs else none
  |_=>none
def St.Df (σ:St) (ms:List bD) (ds:List Dv):Option (List Dv×List C):=
 match σ.sG ms with
 |some vs=>match Dg σ.h vs,C5 σ.h (pf ds) with
  |some rs,some out=>some (rs,out)
  |_,_=>none
 |none=>none
def Lj (T:aT) (mc:mh) (aF:List bD) (ds:List Dv):Option (List Dv×List C):=
 match d8 T mc (FD ds) with
 |some (.fR σ)=>σ.Df aF ds
 |some (.ret σ)=>σ.Df aF ds
 |_=>none
section
variable {B:Nat} {E:Ex} {w0 w w':World} {G G':Gh} {N:Nat} {h h':Nat->Option ar} {used:Nat->Bool}
variable {P:Program} {T:aT} {a:Act} {σ σ':St} {Q:Exit->Act->World->Prop}
theorem QE:∀(ds:List Dv) (k n:Nat),tI k ds n=if k<=n then(match ds[n - k]? with|some d=>Ee d|none=>.one .bq) else .one .bq
 |[],k,n=>by simp[tI,wG]
 |d::ds,k,n=>by
  simp only[tI,jr,QE ds]
  by_cases h:n=k
  ·subst h;simp
  ·by_cases h2:k<=n
   ·have h3:k+1<=n:=by omega
    have h4:n - k=(n - (k+1))+1:=by omega
    simp[h,h2,h3,h4]
   ·have h3:¬k+1<=n:=by omega
    simp[h,h2,h3]
theorem Kt {ds:List Dv} {n:Nat} {b:ar} (hn:oV ds n=some b):n=aK/\∃xs,pf ds=some xs/\b=.box (xs.map .c):=by
 unfold oV at hn
 split at hn
 ·rename_i e
  have:=Nat.eq_of_beq_eq_true e
  subst this
  refine⟨rfl,?_⟩
  cases hp:pf ds with
  |none=>rw[hp] at hn;cases hn
  |some xs=>rw[hp] at hn;injection hn with hn;exact⟨xs,rfl,hn.symm⟩
 ·cases hn
def ib:List PA->Option PA
 |[]=>none
 |p::ps=>if p.k=.ptr then some p else ib ps
theorem Eu:∀{pas:List PA} {p:PA},ib pas=some p->p∈pas/\p.k=.ptr
 |[],p,h=>by cases h
 |q::pas,p,h=>by
  unfold ib at h
  split at h
  ·injection h with h;subst h;rename_i hk;exact⟨by simp,hk⟩
  ·obtain⟨h1,h2⟩:=Eu h;exact⟨by simp[h1],h2⟩
theorem Jp:∀{pas:List PA},ib pas=none->∀p∈pas,p.k≠ .ptr
 |[],_,p,hp=>by cases hp
 |q::pas,h,p,hp=>by
  unfold ib at h
  split at h
  ·cases h
  ·rename_i hk
   cases hp with
   |head=>exact hk
   |tail _ hp=>exact Jp h p hp
theorem To:∀{ds:List Dv} {pas:List PA},pas.length=ds.length->(∀(i:Nat) (d:Dv) (p:PA),ds[i]? =some d->pas[i]? =some p->d=(p.k,p.ps.map PC.er))->pf ds=(ib pas).map fun p=>p.ps.map PC.er
 |[],[],_,_=>rfl
 |[],_::_,hl,_=>by simp at hl
 |_::_,[],hl,_=>by simp at hl
 |d::ds,p::pas,hl,hd=>by
  have h0:=hd 0 d p rfl rfl
  have ih:=To (ds:=ds) (pas:=pas) (by simpa using hl) (fun i d p h1 h2=>hd (i+1) d p h1 h2)
  subst h0
  obtain⟨k,ps,b,o⟩:=p
  cases k with
  |ptr=>rfl
  |one=>simpa[pf,ib] using ih
  |agg=>simpa[pf,ib] using ih
def xF (p:PA):PB:=⟨false,p.b,p.o,0,[],none⟩
def EJ (pas:List PA):Ex:=
 ⟨fun b=>∃p∈pas,p.k=.ptr/\b=p.b,fun n=>if n=aK then(ib pas).map xF else none,fun n p h=>(by
  by_cases hn:n=aK
  ·exact Nat.le_of_eq hn.symm
  ·rw[if_neg hn] at h;cases h),fun b=>∃q∈pas,∃pc∈q.ps,aX b pc⟩
def wM (pas:List PA):Gh:=⟨fun b=>∃q∈pas,∃pc∈q.ps,aX b pc,fun n=>match ib pas with|some p=>xF p|none=>default⟩
theorem R.akU {ds:List Dv} {vals:List Value} {pas:List PA} (va:M5 w ds vals pas) (hN:ds.length<=N):
  R w.heap.size (EJ pas) w N (FD ds) {tmps:=vals.toArray++Array.replicate (N - vals.toArray.size) undef,defers:=[]} w (wM pas):=by
 have hl:=va.l1
 have Cf:pf ds=(ib pas).map fun p=>p.ps.map PC.er:=by
  refine To va.l2 fun i d p hd hp=>?_
  have hv:vals[i]? =some (vals[i]'(by rw[va.l1];exact(List.getElem?_eq_some_iff.1 hd).1)):=List.getElem?_eq_getElem _
  exact(va.at_ i d _ p hd hv hp).1
 have ie:∀q∈pas,∀pc∈q.ps,Good w pc:=by
  intro q hq pc bc
  obtain⟨i,hi,rfl⟩:=List.getElem_of_mem hq
  have hd:ds[i]? =some (ds[i]'(by rw[<-va.l2];exact hi)):=List.getElem?_eq_getElem _
  have hv:vals[i]? =some (vals[i]'(by rw[va.l1,<-va.l2];exact hi)):=List.getElem?_eq_getElem _
  exact(va.at_ i _ _ _ hd hv (List.getElem?_eq_getElem hi)).2.1 pc bc
 have ai7:∀q∈pas,q.k=.ptr->HA w q.b q.o q.ps/\∃v:Value,v∈vals/\v=.pointer (some (ad q.b q.o)):=by
  intro q hq hk
  obtain⟨i,hi,rfl⟩:=List.getElem_of_mem hq
  have hd:ds[i]? =some (ds[i]'(by rw[<-va.l2];exact hi)):=List.getElem?_eq_getElem _
  have hv:vals[i]? =some (vals[i]'(by rw[va.l1,<-va.l2];exact hi)):=List.getElem?_eq_getElem _
  have h3:=(va.at_ i _ _ _ hd hv (List.getElem?_eq_getElem hi)).2.2
  rw[hk] at h3
  exact⟨h3.2.2,_,List.mem_of_getElem? hv,h3.1⟩
 have cell:∀q∈pas,∀pc∈q.ps,RC w (wM pas) (oV ds) (.c pc.er) pc.val:=fun q hq pc bc=>⟨pc,rfl,rfl,ie q hq pc bc,fun b hb=>⟨q,hq,pc,bc,hb⟩⟩
 have cells:∀q∈pas,cZ w (wM pas) (oV ds) ((q.ps.map PC.er).map .c) (q.ps.map PC.val):=by
  intro q hq
  refine⟨by simp,fun j c u hj hu=>?_⟩
  simp only[List.getElem?_map,List.map_map] at hj hu
  cases hp:q.ps[j]? with
  |none=>rw[hp] at hj;cases hj
  |some pc=>
   rw[hp] at hj hu
   simp at hj hu
   subst hj hu
   exact⟨PC.lx pc,cell q hq pc (List.mem_of_getElem? hp)⟩
 refine⟨rfl,by simp;omega,fun s=>?_,fun s n hn=>?_,?_,Fr.refl _ _ _ (Nat.le_refl _),fun n p b hp hb=>?_,fun n hn=>Nat.ble_eq_true_of_le hn⟩
 ·show RA w _ (oV ds) (tI 0 ds s) _
  rw[QE]
  simp only[Nat.zero_le,if_true,Nat.sub_zero]
  cases hs:ds[s]? with
  |none=>exact Or.inl rfl
  |some d=>
   have hsd:=(List.getElem?_eq_some_iff.1 hs).1
   have gI:s<vals.length:=by rw[hl];exact hsd
   have hv:vals[s]? =some vals[s]:=List.getElem?_eq_getElem gI
   obtain⟨q,hp⟩:∃q,pas[s]? =some q:=⟨_,List.getElem?_eq_getElem (by rw[va.l2];exact hsd)⟩
   have:(vals.toArray++Array.replicate (N - vals.toArray.size) undef).getD s undef=vals[s]:=by
    simp[Array.getD_eq_getD_getElem?,Array.getElem?_append,gI]
   rw[this]
   have u7:=List.mem_of_getElem? hp
   obtain⟨e1,e2,e3⟩:=va.at_ s d _ q hs hv hp
   generalize vals[s]=u at*
   subst e1
   obtain⟨k,ps,b,o⟩:=q
   cases k with
   |one=>
    have e3:ps.map PC.val=[u]:=e3
    obtain⟨pc,rfl⟩:∃pc,ps=[pc]:=by
     have:=congrArg List.length e3
     exact List.length_eq_one_iff.1 (by simpa using this)
    simp at e3
    rw[<-e3]
    exact RA.gD (PC.lx pc) (cell _ u7 pc (by simp))
   |agg=>exact⟨_,e3,cells _ u7⟩
   |ptr=>
    have e3:u=.pointer (some (ad b o))/\_:=e3
    rw[e3.1]
    have hc:ib pas=some ⟨.ptr,ps,b,o⟩:=by
     cases hc:ib pas with
     |none=>exact absurd rfl (Jp hc _ u7)
     |some p=>
      obtain⟨c1,c2⟩:=Eu hc
      obtain⟨i,hi⟩:=List.getElem?_of_mem c1
      have:=va.one i s p _ hi hp c2 rfl
      subst this
      rw[hi] at hp
      injection hp with hp
      rw[hp]
    refine RA.gD (c:=.ptr aK 0 0 0) rfl (fun _=>?_)
    simp[wM,hc,xF]
 ·have bm:(tI 0 ds s).ref n:=hn
  rw[QE] at bm
  simp only[Nat.zero_le,if_true,Nat.sub_zero] at bm
  cases hs:ds[s]? with
  |none=>rw[hs] at bm;exact absurd bm id
  |some d=>
   rw[hs] at bm
   obtain⟨k,xs⟩:=d
   cases k with
   |one=>match xs,bm with
    |[],bm=>exact absurd bm id
    |[x],bm=>exact absurd bm id
    |_::_::_,bm=>exact absurd bm id
   |agg=>
    obtain⟨c,hc,hh⟩:=bm
    obtain⟨y,_,rfl⟩:=List.mem_map.1 hc
    exact absurd hh id
   |ptr=>
    have bm:n=aK:=bm
    subst bm
    exact aeJ ds aK (Nat.le_refl aK)
 ·
  have S5:∀n gr m sz xs,oV ds n≠some (.row gr m sz xs):=fun n gr m sz xs hn=>by obtain⟨_,_,_,e⟩:=Kt hn;cases e
  have mG:∀n,oV ds n≠none->n=aK/\∃p,ib pas=some p/\(wM pas).g n=xF p/\oV ds n=some (.box ((p.ps.map PC.er).map .c)):=by
   intro n hn
   cases hh:oV ds n with
   |none=>exact absurd hh hn
   |some b=>
    obtain⟨rfl,xs,e1,e2⟩:=Kt hh
    rw[Cf] at e1
    cases hc:ib pas with
    |none=>rw[hc] at e1;cases e1
    |some p=>
     rw[hc] at e1
     injection e1 with e1
     exact⟨rfl,p,rfl,by simp[wM,hc],by rw[e2,<-e1]⟩
  refine⟨fun n hn=>?_,fun m cs c n hm hc hr=>?_,fun n cs hn=>?_,fun n gr m sz xs hn=>absurd hn (S5 _ _ _ _ _),fun n hn hlf=>?_,fun n n' hn bm aD=>?_,fun b hb=>?_,fun b hb=>.inr (.inr hb),
   fun n n' gr m sz xs bo m' aJ au hn=>absurd hn (S5 _ _ _ _ _),fun n gr sz xs hn=>absurd hn (S5 _ _ _ _ _),?_,?_,?_⟩
  ·obtain⟨rfl,_⟩:=mG n hn
   exact aeJ ds aK (Nat.le_refl aK)
  ·have bO:oV ds m=some (.box cs):=hm
   obtain⟨_,xs,_,e⟩:=Kt bO
   injection e with e
   subst e
   obtain⟨x,_,rfl⟩:=List.mem_map.1 hc
   exact absurd hr id
  ·have bm:oV ds n=some (.box cs):=hn
   obtain⟨rfl,p,c1,c2,c3⟩:=mG n (by rw[bm];simp)
   rw[bm] at c3
   injection c3 with c3
   injection c3 with c3
   subst c3
   obtain⟨m1,m2⟩:=Eu c1
   rw[c2]
   refine⟨rfl,(va.jq p m1 m2).1,fun j c hj=>?_⟩
   rw[List.getElem?_map,List.getElem?_map] at hj
   cases nb:p.ps[j]? with
   |none=>rw[nb] at hj;cases hj
   |some pc=>
    rw[nb] at hj
    simp at hj
    subst hj
    exact⟨pc.val,(ai7 p m1 m2).1 j pc nb,PC.lx pc,cell p m1 pc (List.mem_of_getElem? nb)⟩
  ·obtain⟨rfl,p,c1,c2,c3⟩:=mG n hn
   obtain⟨m1,m2⟩:=Eu c1
   rw[c2]
   obtain⟨u1,u2⟩:=va.jq p m1 m2
   exact⟨fun⟨q,hq,pc,bc,hb⟩=>u2 q hq pc bc hb,.inr ⟨p,m1,m2,rfl⟩,u1.lt⟩
  ·obtain⟨rfl,_⟩:=mG n hn
   obtain⟨rfl,_⟩:=mG n' bm
   exact absurd rfl aD
  ·obtain⟨q,hq,pc,bc,hb⟩:=hb
   exact(ie q hq pc bc).lt hb
  ·intro i pc hi;simp at hi
  ·intro i j pc dq b _ hi;simp at hi
  ·intro i pc n gr m sz xs b hi;simp at hi
 ·have bg:(if n=aK then(ib pas).map xF else none)=some p:=hp
  split at bg
  ·rename_i hn
   subst hn
   cases hc:ib pas with
   |none=>rw[hc] at bg;cases bg
   |some q=>
    rw[hc] at bg
    injection bg with bg
    subst bg
    have hg:(wM pas).g aK=xF q:=by simp[wM,hc]
    rw[hg]
    refine⟨rfl,rfl,rfl,rfl,rfl,fun gr sz xs be=>?_⟩
    have tq:oV ds aK=some b:=hb
    obtain⟨_,_,_,e⟩:=Kt tq
    rw[e] at be;cases be
  ·cases bg
def M1 (G:Gh) (h:Nat->Option ar) (b:Nat):Prop:=G.Im b\/∃n gr m sz xs,h n=some (.row gr m sz xs)/\r5 G n b
theorem HR.aeN (H:HR B E w G h used []):∀{cs:List aj} {xs:List C} {vs:List Value},Am.g7 h cs=some xs->cZ w G h cs vs->∃ps:List PC,ps.map PC.er=xs/\ps.map PC.val=vs/\∀pc∈ps,Good w pc/\∀b,aX b pc->M1 G h b
 |[],xs,vs,hx,hc=>by
  simp only[Am.g7] at hx
  injection hx with hx
  subst hx
  have:vs=[]:=List.eq_nil_of_length_eq_zero (by simpa using hc.1)
  subst this
  exact⟨[],rfl,rfl,by simp⟩
 |c::cs,xs,vs,hx,hc=>by
  simp only[Am.g7] at hx
  split at hx
  ·rename_i x au e1 e2
   injection hx with hx
   subst hx
   match vs,hc.1 with
   |v::vs,hl=>
    obtain⟨pc,a1,a2,a3,a4⟩:=H.Xj e1 (hc.2 0 c v rfl rfl).2
    obtain⟨ps,b1,b2,b3⟩:=H.aeN (vs:=vs) e2 ⟨by simpa using hl,fun j c u h1 h2=>hc.2 (j+1) c u h1 h2⟩
    refine⟨pc::ps,by simp[a1,b1],by simp[a2,b2],fun q hq=>?_⟩
    cases hq with
    |head=>exact⟨a3,fun b hb=>(a4 b hb).imp id fun⟨n,gr,m,sz,xs,_,h1,h2⟩=>⟨n,gr,m,sz,xs,h1,h2⟩⟩
    |tail _ hq=>exact b3 q hq
  ·cases hx
theorem HR.ru (H:HR B E w G h used []):∀{vs:List ak} {ds:List Dv} {us:List Value},Am.ru h vs=some ds->us.length=vs.length->(∀(j:Nat) (x:ak) (v:Value),vs[j]? =some x->us[j]? =some v->RA w G h x v)->
  ∃aY:List PA,aY.map (fun p=>(p.k,p.ps.map PC.er))=ds/\aY.map Aj=us/\(∀p∈aY,p.k≠ .ptr/\(p.k=.one->p.ps.length=1))/\∀p∈aY,∀pc∈p.ps,Good w pc/\∀b,aX b pc->M1 G h b
 |[],ds,us,hx,hl,hc=>by
  simp only[Am.ru] at hx
  injection hx with hx
  subst hx
  have:us=[]:=List.eq_nil_of_length_eq_zero (by simpa using hl)
  subst this
  exact⟨[],rfl,rfl,by simp,by simp⟩
 |x::vs,ds,us,hx,hl,hc=>by
  simp only[Am.ru] at hx
  split at hx
  ·rename_i ag cs kN
   split at hx
   ·rename_i xs uH e1 e2
    injection hx with hx
    subst hx
    match us,hl with
    |v::us,hl=>
     obtain⟨aY,b1,b2,b3,b4⟩:=H.ru (us:=us) e2 (by simpa using hl) (fun j x v h1 h2=>hc (j+1) x v h1 h2)
     have h0:=hc 0 x v rfl rfl
     have dV:∃vs:List Value,(if ag=true then v=.agg vs.toArray else vs=[v])/\cZ w G h cs vs:=by
      cases x with
      |one c=>
       have J1:ag=false/\cs=[c]:=by cases c<;>simp[ak.cells?] at kN<;>exact⟨kN.1,kN.2.symm⟩
       obtain⟨rfl,rfl⟩:=J1
       rcases h0 with h0|h0
       ·subst h0;simp[ak.cells?] at kN
       ·exact⟨[v],rfl,h0⟩
      |agg cs'=>
       simp[ak.cells?] at kN
       obtain⟨rfl,rfl⟩:=kN
       obtain⟨vs,e,h1⟩:∃vs:List Value,v=.agg vs.toArray/\cZ w G h cs' vs:=h0
       exact⟨vs,e,h1⟩
      |br xs=>simp[ak.cells?] at kN
     obtain⟨YV,jg,bT⟩:=dV
     obtain⟨ps,p1,p2,p3⟩:=H.aeN e1 bT
     refine⟨⟨if ag=true then .agg else .one,ps,0,0⟩::aY,by simp[p1,b1],?_,fun p hp=>?_,fun p hp pc bc=>?_⟩
     ·rw[List.map_cons,b2]
      congr 1
      cases ag with
      |true=>
       simp only[if_true] at jg⊢
       rw[jg,<-p2]
       rfl
      |false=>
       simp only[Bool.false_eq_true,if_false] at jg⊢
       rw[<-p2] at jg
       match ps,jg with
       |[pc],jg=>simp at jg;exact jg
     ·cases hp with
      |head=>
       cases ag with
       |true=>exact⟨by simp,fun h=>by cases h⟩
       |false=>
        simp only[Bool.false_eq_true,if_false] at jg
        refine⟨by simp,fun _=>?_⟩
        have:(ps.map PC.val).length=1:=by rw[p2,jg];rfl
        simpa using this
      |tail _ hp=>exact b3 p hp
     ·cases hp with
      |head=>exact p3 pc bc
      |tail _ hp=>exact b4 p hp pc bc
   ·cases hx
  ·cases hx
theorem aqh {aY:List PA}:C8 (aY.map Aj)=Ak aY:=by
 match aY with
 |[]=>rfl
 |[p]=>rfl
 |p::q::aY=>rfl
theorem as2 (hT:oG P T) (hm:P.follows .mixedOrders=true) {f:FuncId} {fn:Func} {c:Code} {mc:mh} {ms:List bD} {M:List Dv->Option (List Dv×List C)} (hf:P.funcs[f]? =some fn) (hb:fn.body=some c)
  (hc:jw P fn.ntmps c mc=true) (hr:nK P fn.results.toList ms=true) (hM:∀ds rs out,M ds=some (rs,out)->ds.length<=fn.ntmps/\Lj T mc ms ds=some (rs,out)):lD P f M:=by
 intro ds rs out nR w vals pas va
 obtain⟨hN,bY⟩:=hM ds rs out nR
 refine calls_of_wp hf hb ?_
 have r0:=R.akU (N:=fn.ntmps) va hN
 have Cf:pf ds=(ib pas).map fun p=>p.ps.map PC.er:=by
  refine To va.l2 fun i d p hd hp=>?_
  have hv:vals[i]? =some (vals[i]'(by rw[va.l1];exact(List.getElem?_eq_some_iff.1 hd).1)):=List.getElem?_eq_getElem _
  exact(va.at_ i d _ p hd hv hp).1
 unfold Lj at bY
 have fin:∀{σ:St} {a:Act} {w':World} {G:Gh},σ.Df ms ds=some (rs,out)->R w.heap.size (EJ pas) w fn.ntmps σ a w' G->a.defers=[]/\∃v,(results fn a.tmps).run P w'=.ok v w'/\
   ∃(aY:List PA) (qs:List PC),aY.map (fun p=>(p.k,p.ps.map PC.er))=rs/\(Ending.returned v)=.returned (Ak aY)/\qs.map PC.er=out/\M4 w w' pas aY qs:=by
  intro σ a w' G hx r
  have H:=r.hr
  unfold St.Df at hx
  split at hx
  ·rename_i vs e1
   split at hx
   ·rename_i vG Td e2 e3
    injection hx with hx
    injection hx with mJ eK
    subst mJ eK
    have B4:∀p,ib pas=some p->∃cs,σ.h aK=some (.box cs)/\cs.length=p.ps.length/\jW cs=some Td/\(G.g aK).nl=false/\(G.g aK).b=p.b/\(G.g aK).o=p.o:=by
     intro p hp
     rw[Cf,hp] at e3
     simp only[Option.map_some,C5] at e3
     split at e3
     ·rename_i cs eE
      split at e3
      ·rename_i hl
       have w5:(EJ pas).rm aK=some (xF p):=by
        show(if aK=aK then(ib pas).map xF else none)=_
        rw[if_pos rfl,hp];rfl
       obtain⟨q1,q2,q3,_⟩:=r.rm _ _ _ w5 eE
       exact⟨cs,eE,by simpa using hl,e3,q1,q2,q3⟩
      ·cases e3
     ·cases e3
    have Kk:∀q∈pas,q.k=.ptr->∃p,ib pas=some p/\q=p:=by
     intro q hq hk
     cases hc:ib pas with
     |none=>exact absurd hk (Jp hc q hq)
     |some p=>
      obtain⟨c1,c2⟩:=Eu hc
      obtain⟨i,hi⟩:=List.getElem?_of_mem hq
      obtain⟨j,hj⟩:=List.getElem?_of_mem c1
      have:=va.one i j q p hi hj hk c2
      subst this
      rw[hi] at hj
      injection hj with hj
      exact⟨p,rfl,hj⟩
    have hE:∀b,(EJ pas) b->∃p cs,ib pas=some p/\σ.h aK=some (.box cs)/\(G.g aK).nl=false/\b=(G.g aK).b:=by
     rintro b ⟨q,hq,hk,rfl⟩
     obtain⟨p,hp,rfl⟩:=Kk q hq hk
     obtain⟨cs,h1,_,_,h2,h3,_⟩:=B4 q hp
     exact⟨q,cs,hp,h1,h2,h3.symm⟩
    have qU:∀b,G.Im b->Bp w pas b:=fun b hb=>by
     rcases H.pZ b hb with h1|h1|h1
     ·exact .inl h1
     ·obtain⟨p,cs,_,h2,h3,rfl⟩:=hE b h1
      exact absurd hb (H.own aK (by rw[h2];simp) h3).1
     ·exact .inr h1
    have ajr:∀b,M1 G σ.h b->Bp w pas b/\(∀p,ib pas=some p->b≠p.b):=by
     have aD:∀b,(∀cs,σ.h aK=some (.box cs)->(G.g aK).nl=false->b≠(G.g aK).b)->∀p,ib pas=some p->b≠p.b:=fun b hb p hp=>by
      obtain⟨cs,h1,_,_,h2,h3,_⟩:=B4 p hp
      rw[<-h3]
      exact hb cs h1 h2
     have Z6:∀b,(w.heap.size<=b\/(EJ pas) b)->(∀cs,σ.h aK=some (.box cs)->(G.g aK).nl=false->b≠(G.g aK).b)->Bp w pas b:=fun b hb aD=>by
      rcases hb with hb|hb
      ·exact .inl hb
      ·obtain⟨p,cs,_,h2,h3,h4⟩:=hE b hb
       exact absurd h4 (aD cs h2 h3)
     intro b hb
     rcases hb with hb|⟨n,gr,m,sz,xs,hn,hft⟩
     ·exact⟨qU b hb,aD b fun cs h1 h2 he=>(H.own aK (by rw[h1];simp) h2).1 (he▸hb)⟩
     ·have bS:σ.h n≠none:=by rw[hn];simp
      rcases hft with⟨aN,rfl⟩|hF
      ·have hd:∀cs,σ.h aK=some (.box cs)->(G.g aK).nl=false->(G.g n).b≠(G.g aK).b:=fun cs h1 h2=>
        H.inj n aK bS (by rw[h1];simp) (by rintro rfl;rw[hn] at h1;cases h1) aN h2
       exact⟨Z6 _ (H.own n bS aN).2.1 hd,aD _ hd⟩
      ·have gx:=(H.row n gr m sz xs hn).mode
       cases m with
       |aG=>exact⟨qU b (gx b hF),aD b fun cs h1 h2 he=>(H.own aK (by rw[h1];simp) h2).1 (he▸gx b hF)⟩
       |ae=>exact⟨qU b (gx.1 b hF).1,aD b fun cs h1 h2 he=>(H.own aK (by rw[h1];simp) h2).1 (he▸(gx.1 b hF).1)⟩
       |live=>
        have hd:∀cs,σ.h aK=some (.box cs)->(G.g aK).nl=false->b≠(G.g aK).b:=fun cs h1 h2=>H.live n gr sz xs hn b hF aK (by rw[h1];simp) h2
        exact⟨Z6 b (gx.1 b hF).2.2 hd,aD b hd⟩
    obtain⟨us,u1,u2,_,u3⟩:=Lk r hr e1
    obtain⟨qs,q1,q2,q3⟩:∃qs:List PC,qs.map PC.er=Td/\(∀pc∈qs,Good w' pc/\∀b,aX b pc->G.Im b)/\∀p∈pas,p.k=.ptr->HA w' p.b p.o qs:=by
     cases hc:ib pas with
     |none=>
      rw[Cf,hc] at e3
      simp only[Option.map_none,C5] at e3
      injection e3 with e3
      subst e3
      exact⟨[],rfl,by simp,fun p hp hk=>absurd hk (Jp hc p hp)⟩
     |some p=>
      obtain⟨cs,h1,h2,h3,h4,h5,h6⟩:=B4 p hc
      obtain⟨YV,v1,v2⟩:=H.I4 h1
      obtain⟨ps,p1,p2,p3⟩:=HR.jW h3 v1
      refine⟨ps,p1,p3,fun q hq hk j c hj=>?_⟩
      obtain⟨p',bg,rfl⟩:=Kk q hq hk
      rw[hc] at bg
      injection bg with bg
      subst bg
      rw[<-h5,<-h6]
      refine v2 j _ ?_
      rw[<-p2,List.getElem?_map,hj];rfl
    have u4:Fr w.heap.size (Zo pas) w w':=⟨r.fr.os,r.fr.tape,r.fr.output,r.fr.size,r.fr.block,r.fr.jq⟩
    have Jq:∀{vG:List Dv},ru σ.h vs=some vG->∃v,(results fn a.tmps).run P w'=.ok v w'/\
      ∃(aY:List PA) (qs:List PC),aY.map (fun p=>(p.k,p.ps.map PC.er))=vG/\(Ending.returned v)=.returned (Ak aY)/\qs.map PC.er=Td/\M4 w w' pas aY qs:=by
     intro vG hrb
     obtain⟨aY,b1,b2,b3,b4⟩:=H.ru hrb u2 u3
     refine⟨_,Ll fn a.tmps u1,aY,qs,b1,by rw[<-b2,aqh],q1,?_⟩
     exact⟨fun p hp=>(b3 p hp).2,fun p hp hk=>absurd hk (b3 p hp).1,fun p hp pc bc=>⟨(b4 p hp pc bc).1,fun b hb=>(ajr b ((b4 p hp pc bc).2 b hb)).1⟩,u4,fun pc bc=>⟨(q2 pc bc).1,fun b hb=>qU b ((q2 pc bc).2 b hb)⟩,q3⟩
    refine⟨r.defers,?_⟩
    unfold Dg at e2
    split at e2
    ·rename_i v0
     split at e2
     ·rename_i n xs hbp
      split at e2
      ·cases e2
      ·rename_i Ce
       injection e2 with e2
       subst e2
       obtain⟨sz,cs,rfl,hn,eE⟩:=Ni hbp
       obtain⟨nl,un,_⟩:=H.box n cs hn
       have bS:σ.h n≠none:=by rw[hn];simp
       obtain⟨o1,o2,o3⟩:=H.own n bS nl
       obtain⟨YV,v1,v2⟩:=H.I4 hn
       obtain⟨ps,p1,p2,p3⟩:=HR.jW eE v1
       match us,u2 with
       |[u],_=>
        have hu:u=.pointer (some (ad (G.g n).b (G.g n).o)):=by
         have h0:=u3 0 _ u rfl rfl
         rcases h0 with h0|h0
         ·cases h0
         ·have h1:RC w' G σ.h (.ptr n 0 sz 0) u:=(h0.2 0 _ u rfl rfl).2
          simpa using(h1 bS).2
        have hB:w.heap.size<=(G.g n).b:=by
         rcases o2 with o2|o2
         ·exact o2
         ·obtain⟨p,cs',_,h2,h3,h4⟩:=hE _ o2
          exact absurd h4 (H.inj n aK bS (by rw[h2];simp) (by rintro rfl;exact Ce (Nat.le_refl _)) nl h3)
        refine⟨_,Ll fn a.tmps u1,[⟨.ptr,ps,(G.g n).b,(G.g n).o⟩],qs,by simp[p1],?_,q1,?_⟩
        ·rw[hu];rfl
        ·refine⟨fun p hp hk=>?_,fun p hp hk=>?_,fun p hp pc bc=>?_,u4,fun pc bc=>⟨(q2 pc bc).1,fun b hb=>qU b ((q2 pc bc).2 b hb)⟩,q3⟩
         ·simp at hp;subst hp;cases hk
         ·simp at hp
          subst hp
          refine⟨rfl,hB,un,fun j c hj=>v2 j _ ?_,fun pc bc hb=>o1 ((p3 pc bc).2 _ hb),fun pc bc hb=>o1 ((q2 pc bc).2 _ hb)⟩
          rw[<-p2,List.getElem?_map,hj];rfl
         ·simp at hp
          subst hp
          exact⟨(p3 pc bc).1,fun b hb=>qU b ((p3 pc bc).2 b hb)⟩
     ·exact Jq e2
    ·exact Jq e2
   ·cases hx
  ·cases hx
 split at bY
 ·rename_i σ e
  exact mD hT hm mc hc e r0 fun a w' G r=>fin bY r
 ·rename_i σ e
  exact mD hT hm mc hc e r0 fun a w' G r=>fin bY r
 ·cases bY
end
end Go.Am
