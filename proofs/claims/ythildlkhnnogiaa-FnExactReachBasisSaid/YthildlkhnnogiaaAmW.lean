/- AmW: functions whose results may share, and that may change the cells of one pointer: from code to what is said of them. No condition. -/
import Derived.Test.YthildlkhnnogiaaAm30
set_option linter.unusedVariables false
namespace Go.Am
def DB:Dv->ah
 |(.one,[x])=>.one (.c x)
 |(.one,_)=>.one .aX
 |(.agg,xs)=>.agg (xs.map .c)
 |(.ptr,_)=>.one (.ptr aJ 0 0 0)
def tM:Nat->List Dv->(Nat->ah)
 |_,[]=>wU
 |k,d::ds=>ao (tM (k+1) ds) k (DB d)
def oJ:List Dv->Option (List C)
 |[]=>none
 |(.ptr,xs)::_=>some xs
 |_::ds=>oJ ds
def oy (ds:List Dv):Nat->Option aj:=fun n=>match Nat.beq n aJ with
 |true=>(oJ ds).map fun xs=>.box (xs.map .c)
 |false=>none
def E4 (ds:List Dv):St:={env:=tM 0 ds,h:=oy ds,used:=fun n=>Nat.ble aJ n}
theorem abJ (ds:List Dv) (n:Nat) (hn:aJ<=n):(E4 ds).used n=true:=Nat.ble_eq_true_of_le hn
def rh (h:Nat->Option aj):List ah->Option (List Dv)
 |[]=>some []
 |v::vs=>match v.cells? with
  |some (ag,cs)=>match gE h cs,rh h vs with
   |some xs,some ds=>some ((if ag=true then .agg else .one,xs)::ds)
   |_,_=>none
  |none=>none
def CP (h:Nat->Option aj):List ah->Option (List Dv)
 |[v]=>match kU h v with
  |some (n,xs)=>if aJ<=n then none else some [(.ptr,xs)]
  |none=>rh h [v]
 |vs=>rh h vs
def CD (h:Nat->Option aj):Option (List C)->Option (List C)
 |none=>some []
 |some xs=>match h aJ with
  |some (.box cs)=>if cs.length=xs.length then jt cs else none
  |_=>none
def St.CO (σ:St) (ms:List bN) (ds:List Dv):Option (List Dv×List C):=
 match σ.su ms with
 |some vs=>match CP σ.h vs,CD σ.h (oJ ds) with
  |some rs,some out=>some (rs,out)
  |_,_=>none
 |none=>none
def Kh (T:aF) (mc:kR) (aB:List bN) (ds:List Dv):Option (List Dv×List C):=
 match dv T mc (E4 ds) with
 |some (.eF σ)=>σ.CO aB ds
 |some (.ret σ)=>σ.CO aB ds
 |_=>none
section
variable {B:Nat} {E:Ex} {w0 w w':World} {G G':Gh} {N:Nat} {h h':Nat->Option aj} {used:Nat->Bool}
variable {P:Program} {T:aF} {a:Act} {σ σ':St} {Q:Exit->Act->World->Prop}
theorem Pk:∀(ds:List Dv) (k n:Nat),tM k ds n=if k<=n then(match ds[n - k]? with|some d=>DB d|none=>.one .aX) else .one .aX
 |[],k,n=>by simp[tM,wU]
 |d::ds,k,n=>by
  simp only[tM,iU,Pk ds]
  by_cases h:n=k
  ·subst h;simp
  ·by_cases h2:k<=n
   ·have h3:k+1<=n:=by omega
    have h4:n - k=(n - (k+1))+1:=by omega
    simp[h,h2,h3,h4]
   ·have h3:¬k+1<=n:=by omega
    simp[h,h2,h3]
theorem Jp {ds:List Dv} {n:Nat} {b:aj} (hn:oy ds n=some b):n=aJ/\∃xs,oJ ds=some xs/\b=.box (xs.map .c):=by
 unfold oy at hn
 split at hn
 ·rename_i e
  have:=Nat.eq_of_beq_eq_true e
  subst this
  refine⟨rfl,?_⟩
  cases hp:oJ ds with
  |none=>rw[hp] at hn;cases hn
  |some xs=>rw[hp] at hn;injection hn with hn;exact⟨xs,rfl,hn.symm⟩
 ·cases hn
def gJ:List PA->Option PA
 |[]=>none
 |p::ps=>if p.k=.ptr then some p else gJ ps
theorem DP:∀{pas:List PA} {p:PA},gJ pas=some p->p∈pas/\p.k=.ptr
 |[],p,h=>by cases h
 |q::pas,p,h=>by
  unfold gJ at h
  split at h
  ·injection h with h;subst h;rename_i hk;exact⟨by simp,hk⟩
  ·obtain⟨h1,h2⟩:=DP h;exact⟨by simp[h1],h2⟩
theorem Iq:∀{pas:List PA},gJ pas=none->∀p∈pas,p.k≠ .ptr
 |[],_,p,hp=>by cases hp
 |q::pas,h,p,hp=>by
  unfold gJ at h
  split at h
  ·cases h
  ·rename_i hk
   cases hp with
   |head=>exact hk
   |tail _ hp=>exact Iq h p hp
theorem Rh:∀{ds:List Dv} {pas:List PA},pas.length=ds.length->(∀(i:Nat) (d:Dv) (p:PA),ds[i]? =some d->pas[i]? =some p->d=(p.k,p.ps.map PC.er))->oJ ds=(gJ pas).map fun p=>p.ps.map PC.er
 |[],[],_,_=>rfl
 |[],_::_,hl,_=>by simp at hl
 |_::_,[],hl,_=>by simp at hl
 |d::ds,p::pas,hl,hd=>by
  have h0:=hd 0 d p rfl rfl
  have ih:=Rh (ds:=ds) (pas:=pas) (by simpa using hl) (fun i d p h1 h2=>hd (i+1) d p h1 h2)
  subst h0
  obtain⟨k,ps,b,o⟩:=p
  cases k with
  |ptr=>rfl
  |one=>simpa[oJ,gJ] using ih
  |agg=>simpa[oJ,gJ] using ih
def xU (p:PA):PB:=⟨false,p.b,p.o,0,[],none⟩
def D2 (pas:List PA):Ex:=
 ⟨fun b=>∃p∈pas,p.k=.ptr/\b=p.b,fun n=>if n=aJ then(gJ pas).map xU else none,fun n p h=>(by
  by_cases hn:n=aJ
  ·exact Nat.le_of_eq hn.symm
  ·rw[if_neg hn] at h;cases h),fun b=>∃q∈pas,∃pc∈q.ps,aK b pc⟩
def wZ (pas:List PA):Gh:=⟨fun b=>∃q∈pas,∃pc∈q.ps,aK b pc,fun n=>match gJ pas with|some p=>xU p|none=>default⟩
theorem R.agC {ds:List Dv} {vals:List Value} {pas:List PA} (va:LW w ds vals pas) (hN:ds.length<=N):
  R w.heap.size (D2 pas) w N (E4 ds) {tmps:=vals.toArray++Array.replicate (N - vals.toArray.size) undef,defers:=[]} w (wZ pas):=by
 have hl:=va.l1
 have vn:oJ ds=(gJ pas).map fun p=>p.ps.map PC.er:=by
  refine Rh va.l2 fun i d p hd hp=>?_
  have hv:vals[i]? =some (vals[i]'(by rw[va.l1];exact(List.getElem?_eq_some_iff.1 hd).1)):=List.getElem?_eq_getElem _
  exact(va.at_ i d _ p hd hv hp).1
 have eQ:∀q∈pas,∀pc∈q.ps,Good w pc:=by
  intro q hq pc aT
  obtain⟨i,hi,rfl⟩:=List.getElem_of_mem hq
  have hd:ds[i]? =some (ds[i]'(by rw[<-va.l2];exact hi)):=List.getElem?_eq_getElem _
  have hv:vals[i]? =some (vals[i]'(by rw[va.l1,<-va.l2];exact hi)):=List.getElem?_eq_getElem _
  exact(va.at_ i _ _ _ hd hv (List.getElem?_eq_getElem hi)).2.1 pc aT
 have afT:∀q∈pas,q.k=.ptr->GP w q.b q.o q.ps/\∃v:Value,v∈vals/\v=.pointer (some (ad q.b q.o)):=by
  intro q hq hk
  obtain⟨i,hi,rfl⟩:=List.getElem_of_mem hq
  have hd:ds[i]? =some (ds[i]'(by rw[<-va.l2];exact hi)):=List.getElem?_eq_getElem _
  have hv:vals[i]? =some (vals[i]'(by rw[va.l1,<-va.l2];exact hi)):=List.getElem?_eq_getElem _
  have h3:=(va.at_ i _ _ _ hd hv (List.getElem?_eq_getElem hi)).2.2
  rw[hk] at h3
  exact⟨h3.2.2,_,List.mem_of_getElem? hv,h3.1⟩
 have cell:∀q∈pas,∀pc∈q.ps,RC w (wZ pas) (oy ds) (.c pc.er) pc.val:=fun q hq pc aT=>⟨pc,rfl,rfl,eQ q hq pc aT,fun b hb=>⟨q,hq,pc,aT,hb⟩⟩
 have cells:∀q∈pas,cb w (wZ pas) (oy ds) ((q.ps.map PC.er).map .c) (q.ps.map PC.val):=by
  intro q hq
  refine⟨by simp,fun j c u hj hu=>?_⟩
  simp only[List.getElem?_map,List.map_map] at hj hu
  cases hp:q.ps[j]? with
  |none=>rw[hp] at hj;cases hj
  |some pc=>
   rw[hp] at hj hu
   simp at hj hu
   subst hj hu
   exact⟨PC.hY pc,cell q hq pc (List.mem_of_getElem? hp)⟩
 refine⟨rfl,by simp;omega,fun s=>?_,fun s n hn=>?_,?_,Fr.refl _ _ _ (Nat.le_refl _),fun n p b hp hb=>?_,fun n hn=>Nat.ble_eq_true_of_le hn⟩
 ·show RA w _ (oy ds) (tM 0 ds s) _
  rw[Pk]
  simp only[Nat.zero_le,if_true,Nat.sub_zero]
  cases hs:ds[s]? with
  |none=>exact Or.inl rfl
  |some d=>
   have B2:=(List.getElem?_eq_some_iff.1 hs).1
   have fC:s<vals.length:=by rw[hl];exact B2
   have hv:vals[s]? =some vals[s]:=List.getElem?_eq_getElem fC
   obtain⟨q,hp⟩:∃q,pas[s]? =some q:=⟨_,List.getElem?_eq_getElem (by rw[va.l2];exact B2)⟩
   have:(vals.toArray++Array.replicate (N - vals.toArray.size) undef).getD s undef=vals[s]:=by
    simp[Array.getD_eq_getD_getElem?,Array.getElem?_append,fC]
   rw[this]
   have qJ:=List.mem_of_getElem? hp
   obtain⟨e1,e2,e3⟩:=va.at_ s d _ q hs hv hp
   generalize vals[s]=u at*
   subst e1
   obtain⟨k,ps,b,o⟩:=q
   cases k with
   |one=>
    have e3:ps.map PC.val=[u]:=e3
    obtain⟨pc,rfl⟩:∃pc,ps=[pc]:=by
     have:=congrArg List.length e3
     exact List.length_eq_one_iff.1 (by simpa using this)
    simp at e3
    rw[<-e3]
    exact RA.dS (PC.hY pc) (cell _ qJ pc (by simp))
   |agg=>exact⟨_,e3,cells _ qJ⟩
   |ptr=>
    have e3:u=.pointer (some (ad b o))/\_:=e3
    rw[e3.1]
    have hc:gJ pas=some ⟨.ptr,ps,b,o⟩:=by
     cases hc:gJ pas with
     |none=>exact absurd rfl (Iq hc _ qJ)
     |some p=>
      obtain⟨c1,c2⟩:=DP hc
      obtain⟨i,hi⟩:=List.getElem?_of_mem c1
      have:=va.one i s p _ hi hp c2 rfl
      subst this
      rw[hi] at hp
      injection hp with hp
      rw[hp]
    refine RA.dS (c:=.ptr aJ 0 0 0) rfl (fun _=>?_)
    simp[wZ,hc,xU]
 ·have bh:(tM 0 ds s).ref n:=hn
  rw[Pk] at bh
  simp only[Nat.zero_le,if_true,Nat.sub_zero] at bh
  cases hs:ds[s]? with
  |none=>rw[hs] at bh;exact absurd bh id
  |some d=>
   rw[hs] at bh
   obtain⟨k,xs⟩:=d
   cases k with
   |one=>match xs,bh with
    |[],bh=>exact absurd bh id
    |[x],bh=>exact absurd bh id
    |_::_::_,bh=>exact absurd bh id
   |agg=>
    obtain⟨c,hc,hh⟩:=bh
    obtain⟨y,_,rfl⟩:=List.mem_map.1 hc
    exact absurd hh id
   |ptr=>
    have bh:n=aJ:=bh
    subst bh
    exact abJ ds aJ (Nat.le_refl aJ)
 ·
  have QZ:∀n gr m sz xs,oy ds n≠some (.row gr m sz xs):=fun n gr m sz xs hn=>by obtain⟨_,_,_,e⟩:=Jp hn;cases e
  have lv:∀n,oy ds n≠none->n=aJ/\∃p,gJ pas=some p/\(wZ pas).g n=xU p/\oy ds n=some (.box ((p.ps.map PC.er).map .c)):=by
   intro n hn
   cases hh:oy ds n with
   |none=>exact absurd hh hn
   |some b=>
    obtain⟨rfl,xs,e1,e2⟩:=Jp hh
    rw[vn] at e1
    cases hc:gJ pas with
    |none=>rw[hc] at e1;cases e1
    |some p=>
     rw[hc] at e1
     injection e1 with e1
     exact⟨rfl,p,rfl,by simp[wZ,hc],by rw[e2,<-e1]⟩
  refine⟨fun n hn=>?_,fun m cs c n hm hc hr=>?_,fun n cs hn=>?_,fun n gr m sz xs hn=>absurd hn (QZ _ _ _ _ _),fun n hn hlf=>?_,fun n n' hn bh av=>?_,fun b hb=>?_,fun b hb=>.inr (.inr hb),
   fun n n' gr m sz xs aW m' ax ak hn=>absurd hn (QZ _ _ _ _ _),fun n gr sz xs hn=>absurd hn (QZ _ _ _ _ _),?_,?_,?_⟩
  ·obtain⟨rfl,_⟩:=lv n hn
   exact abJ ds aJ (Nat.le_refl aJ)
  ·have bm:oy ds m=some (.box cs):=hm
   obtain⟨_,xs,_,e⟩:=Jp bm
   injection e with e
   subst e
   obtain⟨x,_,rfl⟩:=List.mem_map.1 hc
   exact absurd hr id
  ·have bh:oy ds n=some (.box cs):=hn
   obtain⟨rfl,p,c1,c2,c3⟩:=lv n (by rw[bh];simp)
   rw[bh] at c3
   injection c3 with c3
   injection c3 with c3
   subst c3
   obtain⟨m1,m2⟩:=DP c1
   rw[c2]
   refine⟨rfl,(va.iT p m1 m2).1,fun j c hj=>?_⟩
   rw[List.getElem?_map,List.getElem?_map] at hj
   cases gW:p.ps[j]? with
   |none=>rw[gW] at hj;cases hj
   |some pc=>
    rw[gW] at hj
    simp at hj
    subst hj
    exact⟨pc.val,(afT p m1 m2).1 j pc gW,PC.hY pc,cell p m1 pc (List.mem_of_getElem? gW)⟩
  ·obtain⟨rfl,p,c1,c2,c3⟩:=lv n hn
   obtain⟨m1,m2⟩:=DP c1
   rw[c2]
   obtain⟨u1,u2⟩:=va.iT p m1 m2
   exact⟨fun⟨q,hq,pc,aT,hb⟩=>u2 q hq pc aT hb,.inr ⟨p,m1,m2,rfl⟩,u1.lt⟩
  ·obtain⟨rfl,_⟩:=lv n hn
   obtain⟨rfl,_⟩:=lv n' bh
   exact absurd rfl av
  ·obtain⟨q,hq,pc,aT,hb⟩:=hb
   exact(eQ q hq pc aT).lt hb
  ·intro i pc hi;simp at hi
  ·intro i j pc cm b _ hi;simp at hi
  ·intro i pc n gr m sz xs b hi;simp at hi
 ·have be:(if n=aJ then(gJ pas).map xU else none)=some p:=hp
  split at be
  ·rename_i hn
   subst hn
   cases hc:gJ pas with
   |none=>rw[hc] at be;cases be
   |some q=>
    rw[hc] at be
    injection be with be
    subst be
    have hg:(wZ pas).g aJ=xU q:=by simp[wZ,hc]
    rw[hg]
    refine⟨rfl,rfl,rfl,rfl,rfl,fun gr sz xs aE=>?_⟩
    have N5:oy ds aJ=some b:=hb
    obtain⟨_,_,_,e⟩:=Jp N5
    rw[e] at aE;cases aE
  ·cases be
def LU (G:Gh) (h:Nat->Option aj) (b:Nat):Prop:=G.Im b\/∃n gr m sz xs,h n=some (.row gr m sz xs)/\rP G n b
theorem HR.abQ (H:HR B E w G h used []):∀{cs:List ab} {xs:List C} {vs:List Value},Am.gE h cs=some xs->cb w G h cs vs->∃ps:List PC,ps.map PC.er=xs/\ps.map PC.val=vs/\∀pc∈ps,Good w pc/\∀b,aK b pc->LU G h b
 |[],xs,vs,hx,hc=>by
  simp only[Am.gE] at hx
  injection hx with hx
  subst hx
  have:vs=[]:=List.eq_nil_of_length_eq_zero (by simpa using hc.1)
  subst this
  exact⟨[],rfl,rfl,by simp⟩
 |c::cs,xs,vs,hx,hc=>by
  simp only[Am.gE] at hx
  split at hx
  ·rename_i x ak e1 e2
   injection hx with hx
   subst hx
   match vs,hc.1 with
   |v::vs,hl=>
    obtain⟨pc,a1,a2,a3,a4⟩:=H.UL e1 (hc.2 0 c v rfl rfl).2
    obtain⟨ps,b1,b2,b3⟩:=H.abQ (vs:=vs) e2 ⟨by simpa using hl,fun j c u h1 h2=>hc.2 (j+1) c u h1 h2⟩
    refine⟨pc::ps,by simp[a1,b1],by simp[a2,b2],fun q hq=>?_⟩
    cases hq with
    |head=>exact⟨a3,fun b hb=>(a4 b hb).imp id fun⟨n,gr,m,sz,xs,_,h1,h2⟩=>⟨n,gr,m,sz,xs,h1,h2⟩⟩
    |tail _ hq=>exact b3 q hq
  ·cases hx
theorem HR.rh (H:HR B E w G h used []):∀{vs:List ah} {ds:List Dv} {us:List Value},Am.rh h vs=some ds->us.length=vs.length->(∀(j:Nat) (x:ah) (v:Value),vs[j]? =some x->us[j]? =some v->RA w G h x v)->
  ∃aU:List PA,aU.map (fun p=>(p.k,p.ps.map PC.er))=ds/\aU.map z6=us/\(∀p∈aU,p.k≠ .ptr/\(p.k=.one->p.ps.length=1))/\∀p∈aU,∀pc∈p.ps,Good w pc/\∀b,aK b pc->LU G h b
 |[],ds,us,hx,hl,hc=>by
  simp only[Am.rh] at hx
  injection hx with hx
  subst hx
  have:us=[]:=List.eq_nil_of_length_eq_zero (by simpa using hl)
  subst this
  exact⟨[],rfl,rfl,by simp,by simp⟩
 |x::vs,ds,us,hx,hl,hc=>by
  simp only[Am.rh] at hx
  split at hx
  ·rename_i ag cs jX
   split at hx
   ·rename_i xs tf e1 e2
    injection hx with hx
    subst hx
    match us,hl with
    |v::us,hl=>
     obtain⟨aU,b1,b2,b3,b4⟩:=H.rh (us:=us) e2 (by simpa using hl) (fun j x v h1 h2=>hc (j+1) x v h1 h2)
     have h0:=hc 0 x v rfl rfl
     have dc:∃vs:List Value,(if ag=true then v=.agg vs.toArray else vs=[v])/\cb w G h cs vs:=by
      cases x with
      |one c=>
       have Od:ag=false/\cs=[c]:=by cases c<;>simp[ah.cells?] at jX<;>exact⟨jX.1,jX.2.symm⟩
       obtain⟨rfl,rfl⟩:=Od
       rcases h0 with h0|h0
       ·subst h0;simp[ah.cells?] at jX
       ·exact⟨[v],rfl,h0⟩
      |agg cs'=>
       simp[ah.cells?] at jX
       obtain⟨rfl,rfl⟩:=jX
       obtain⟨vs,e,h1⟩:∃vs:List Value,v=.agg vs.toArray/\cb w G h cs' vs:=h0
       exact⟨vs,e,h1⟩
      |bk xs=>simp[ah.cells?] at jX
     obtain⟨V3,gP,bA⟩:=dc
     obtain⟨ps,p1,p2,p3⟩:=H.abQ e1 bA
     refine⟨⟨if ag=true then .agg else .one,ps,0,0⟩::aU,by simp[p1,b1],?_,fun p hp=>?_,fun p hp pc aT=>?_⟩
     ·rw[List.map_cons,b2]
      congr 1
      cases ag with
      |true=>
       simp only[if_true] at gP⊢
       rw[gP,<-p2]
       rfl
      |false=>
       simp only[Bool.false_eq_true,if_false] at gP⊢
       rw[<-p2] at gP
       match ps,gP with
       |[pc],gP=>simp at gP;exact gP
     ·cases hp with
      |head=>
       cases ag with
       |true=>exact⟨by simp,fun h=>by cases h⟩
       |false=>
        simp only[Bool.false_eq_true,if_false] at gP
        refine⟨by simp,fun _=>?_⟩
        have:(ps.map PC.val).length=1:=by rw[p2,gP];rfl
        simpa using this
      |tail _ hp=>exact b3 p hp
     ·cases hp with
      |head=>exact p3 pc aT
      |tail _ hp=>exact b4 p hp pc aT
   ·cases hx
  ·cases hx
theorem akN {aU:List PA}:CE (aU.map z6)=z7 aU:=by
 match aU with
 |[]=>rfl
 |[p]=>rfl
 |p::q::aU=>rfl
theorem amJ (hT:jn P T) (hm:P.follows .mixedOrders=true) {f:FuncId} {fn:Func} {c:Code} {mc:kR} {ms:List bN} {M:List Dv->Option (List Dv×List C)} (hf:P.funcs[f]? =some fn) (hb:fn.body=some c)
  (hc:ic P fn.ntmps c mc=true) (hr:m6 P fn.results.toList ms=true) (hM:∀ds rs out,M ds=some (rs,out)->ds.length<=fn.ntmps/\Kh T mc ms ds=some (rs,out)):yO P f M:=by
 intro ds rs out iC w vals pas va
 obtain⟨hN,aS⟩:=hM ds rs out iC
 refine calls_of_wp hf hb ?_
 have r0:=R.agC (N:=fn.ntmps) va hN
 have vn:oJ ds=(gJ pas).map fun p=>p.ps.map PC.er:=by
  refine Rh va.l2 fun i d p hd hp=>?_
  have hv:vals[i]? =some (vals[i]'(by rw[va.l1];exact(List.getElem?_eq_some_iff.1 hd).1)):=List.getElem?_eq_getElem _
  exact(va.at_ i d _ p hd hv hp).1
 unfold Kh at aS
 have gv:∀{σ:St} {a:Act} {w':World} {G:Gh},σ.CO ms ds=some (rs,out)->R w.heap.size (D2 pas) w fn.ntmps σ a w' G->a.defers=[]/\∃v,(results fn a.tmps).run P w'=.ok v w'/\
   ∃(aU:List PA) (qs:List PC),aU.map (fun p=>(p.k,p.ps.map PC.er))=rs/\(Ending.returned v)=.returned (z7 aU)/\qs.map PC.er=out/\LV w w' pas aU qs:=by
  intro σ a w' G hx r
  have H:=r.hr
  unfold St.CO at hx
  split at hx
  ·rename_i vs e1
   split at hx
   ·rename_i kJ Q7 e2 e3
    injection hx with hx
    injection hx with jr dh
    subst jr dh
    have BP:∀p,gJ pas=some p->∃cs,σ.h aJ=some (.box cs)/\cs.length=p.ps.length/\jt cs=some Q7/\(G.g aJ).nl=false/\(G.g aJ).b=p.b/\(G.g aJ).o=p.o:=by
     intro p hp
     rw[vn,hp] at e3
     simp only[Option.map_some,CD] at e3
     split at e3
     ·rename_i cs dm
      split at e3
      ·rename_i hl
       have np:(D2 pas).nF aJ=some (xU p):=by
        show(if aJ=aJ then(gJ pas).map xU else none)=_
        rw[if_pos rfl,hp];rfl
       obtain⟨q1,q2,q3,_⟩:=r.nF _ _ _ np dm
       exact⟨cs,dm,by simpa using hl,e3,q1,q2,q3⟩
      ·cases e3
     ·cases e3
    have Jh:∀q∈pas,q.k=.ptr->∃p,gJ pas=some p/\q=p:=by
     intro q hq hk
     cases hc:gJ pas with
     |none=>exact absurd hk (Iq hc q hq)
     |some p=>
      obtain⟨c1,c2⟩:=DP hc
      obtain⟨i,hi⟩:=List.getElem?_of_mem hq
      obtain⟨j,hj⟩:=List.getElem?_of_mem c1
      have:=va.one i j q p hi hj hk c2
      subst this
      rw[hi] at hj
      injection hj with hj
      exact⟨p,rfl,hj⟩
    have hE:∀b,(D2 pas) b->∃p cs,gJ pas=some p/\σ.h aJ=some (.box cs)/\(G.g aJ).nl=false/\b=(G.g aJ).b:=by
     rintro b ⟨q,hq,hk,rfl⟩
     obtain⟨p,hp,rfl⟩:=Jh q hq hk
     obtain⟨cs,h1,_,_,h2,h3,_⟩:=BP q hp
     exact⟨q,cs,hp,h1,h2,h3.symm⟩
    have n9:∀b,G.Im b->A4 w pas b:=fun b hb=>by
     rcases H.ov b hb with h1|h1|h1
     ·exact .inl h1
     ·obtain⟨p,cs,_,h2,h3,rfl⟩:=hE b h1
      exact absurd hb (H.own aJ (by rw[h2];simp) h3).1
     ·exact .inr h1
    have agf:∀b,LU G σ.h b->A4 w pas b/\(∀p,gJ pas=some p->b≠p.b):=by
     have av:∀b,(∀cs,σ.h aJ=some (.box cs)->(G.g aJ).nl=false->b≠(G.g aJ).b)->∀p,gJ pas=some p->b≠p.b:=fun b hb p hp=>by
      obtain⟨cs,h1,_,_,h2,h3,_⟩:=BP p hp
      rw[<-h3]
      exact hb cs h1 h2
     have Xd:∀b,(w.heap.size<=b\/(D2 pas) b)->(∀cs,σ.h aJ=some (.box cs)->(G.g aJ).nl=false->b≠(G.g aJ).b)->A4 w pas b:=fun b hb av=>by
      rcases hb with hb|hb
      ·exact .inl hb
      ·obtain⟨p,cs,_,h2,h3,h4⟩:=hE b hb
       exact absurd h4 (av cs h2 h3)
     intro b hb
     rcases hb with hb|⟨n,gr,m,sz,xs,hn,hft⟩
     ·exact⟨n9 b hb,av b fun cs h1 h2 he=>(H.own aJ (by rw[h1];simp) h2).1 (he▸hb)⟩
     ·have bi:σ.h n≠none:=by rw[hn];simp
      rcases hft with⟨aD,rfl⟩|hF
      ·have hd:∀cs,σ.h aJ=some (.box cs)->(G.g aJ).nl=false->(G.g n).b≠(G.g aJ).b:=fun cs h1 h2=>
        H.inj n aJ bi (by rw[h1];simp) (by rintro rfl;rw[hn] at h1;cases h1) aD h2
       exact⟨Xd _ (H.own n bi aD).2.1 hd,av _ hd⟩
      ·have eY:=(H.row n gr m sz xs hn).mode
       cases m with
       |aG=>exact⟨n9 b (eY b hF),av b fun cs h1 h2 he=>(H.own aJ (by rw[h1];simp) h2).1 (he▸eY b hF)⟩
       |af=>exact⟨n9 b (eY.1 b hF).1,av b fun cs h1 h2 he=>(H.own aJ (by rw[h1];simp) h2).1 (he▸(eY.1 b hF).1)⟩
       |live=>
        have hd:∀cs,σ.h aJ=some (.box cs)->(G.g aJ).nl=false->b≠(G.g aJ).b:=fun cs h1 h2=>H.live n gr sz xs hn b hF aJ (by rw[h1];simp) h2
        exact⟨Xd b (eY.1 b hF).2.2 hd,av b hd⟩
    obtain⟨us,u1,u2,_,u3⟩:=Kj r hr e1
    obtain⟨qs,q1,q2,q3⟩:∃qs:List PC,qs.map PC.er=Q7/\(∀pc∈qs,Good w' pc/\∀b,aK b pc->G.Im b)/\∀p∈pas,p.k=.ptr->GP w' p.b p.o qs:=by
     cases hc:gJ pas with
     |none=>
      rw[vn,hc] at e3
      simp only[Option.map_none,CD] at e3
      injection e3 with e3
      subst e3
      exact⟨[],rfl,by simp,fun p hp hk=>absurd hk (Iq hc p hp)⟩
     |some p=>
      obtain⟨cs,h1,h2,h3,h4,h5,h6⟩:=BP p hc
      obtain⟨V3,v1,v2⟩:=H.H5 h1
      obtain⟨ps,p1,p2,p3⟩:=HR.jt h3 v1
      refine⟨ps,p1,p3,fun q hq hk j c hj=>?_⟩
      obtain⟨p',be,rfl⟩:=Jh q hq hk
      rw[hc] at be
      injection be with be
      subst be
      rw[<-h5,<-h6]
      refine v2 j _ ?_
      rw[<-p2,List.getElem?_map,hj];rfl
    have vc:Fr w.heap.size (Wq pas) w w':=⟨r.fr.os,r.fr.tape,r.fr.output,r.fr.size,r.fr.block,r.fr.iT⟩
    have Ir:∀{kJ:List Dv},rh σ.h vs=some kJ->∃v,(results fn a.tmps).run P w'=.ok v w'/\
      ∃(aU:List PA) (qs:List PC),aU.map (fun p=>(p.k,p.ps.map PC.er))=kJ/\(Ending.returned v)=.returned (z7 aU)/\qs.map PC.er=Q7/\LV w w' pas aU qs:=by
     intro kJ hrb
     obtain⟨aU,b1,b2,b3,b4⟩:=H.rh hrb u2 u3
     refine⟨_,Kk fn a.tmps u1,aU,qs,b1,by rw[<-b2,akN],q1,?_⟩
     exact⟨fun p hp=>(b3 p hp).2,fun p hp hk=>absurd hk (b3 p hp).1,fun p hp pc aT=>⟨(b4 p hp pc aT).1,fun b hb=>(agf b ((b4 p hp pc aT).2 b hb)).1⟩,vc,fun pc aT=>⟨(q2 pc aT).1,fun b hb=>n9 b ((q2 pc aT).2 b hb)⟩,q3⟩
    refine⟨r.defers,?_⟩
    unfold CP at e2
    split at e2
    ·rename_i v0
     split at e2
     ·rename_i n xs hbp
      split at e2
      ·cases e2
      ·rename_i vm
       injection e2 with e2
       subst e2
       obtain⟨sz,cs,rfl,hn,dm⟩:=L9 hbp
       obtain⟨nl,un,_⟩:=H.box n cs hn
       have bi:σ.h n≠none:=by rw[hn];simp
       obtain⟨o1,o2,o3⟩:=H.own n bi nl
       obtain⟨V3,v1,v2⟩:=H.H5 hn
       obtain⟨ps,p1,p2,p3⟩:=HR.jt dm v1
       match us,u2 with
       |[u],_=>
        have hu:u=.pointer (some (ad (G.g n).b (G.g n).o)):=by
         have h0:=u3 0 _ u rfl rfl
         rcases h0 with h0|h0
         ·cases h0
         ·have h1:RC w' G σ.h (.ptr n 0 sz 0) u:=(h0.2 0 _ u rfl rfl).2
          simpa using(h1 bi).2
        have hB:w.heap.size<=(G.g n).b:=by
         rcases o2 with o2|o2
         ·exact o2
         ·obtain⟨p,cs',_,h2,h3,h4⟩:=hE _ o2
          exact absurd h4 (H.inj n aJ bi (by rw[h2];simp) (by rintro rfl;exact vm (Nat.le_refl _)) nl h3)
        refine⟨_,Kk fn a.tmps u1,[⟨.ptr,ps,(G.g n).b,(G.g n).o⟩],qs,by simp[p1],?_,q1,?_⟩
        ·rw[hu];rfl
        ·refine⟨fun p hp hk=>?_,fun p hp hk=>?_,fun p hp pc aT=>?_,vc,fun pc aT=>⟨(q2 pc aT).1,fun b hb=>n9 b ((q2 pc aT).2 b hb)⟩,q3⟩
         ·simp at hp;subst hp;cases hk
         ·simp at hp
          subst hp
          refine⟨rfl,hB,un,fun j c hj=>v2 j _ ?_,fun pc aT hb=>o1 ((p3 pc aT).2 _ hb),fun pc aT hb=>o1 ((q2 pc aT).2 _ hb)⟩
          rw[<-p2,List.getElem?_map,hj];rfl
         ·simp at hp
          subst hp
          exact⟨(p3 pc aT).1,fun b hb=>n9 b ((p3 pc aT).2 b hb)⟩
     ·exact Ir e2
    ·exact Ir e2
   ·cases hx
  ·cases hx
 split at aS
 ·rename_i σ e
  exact kZ hT hm mc hc e r0 fun a w' G r=>gv aS r
 ·rename_i σ e
  exact kZ hT hm mc hc e r0 fun a w' G r=>gv aS r
 ·cases aS
end
end Go.Am
