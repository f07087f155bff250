/- AmW: functions whose results may share, and that may change the cells of one pointer: from code to what is said of them. No condition. -/
import Derived.Test.YtifmggmhdcdgbaaAm30
set_option linter.unusedVariables false
namespace Go.Am
def C1:Dv->aj
 |(.one,[x])=>.one (.c x)
 |(.one,_)=>.one .bh
 |(.agg,xs)=>.agg (xs.map .c)
 |(.ptr,_)=>.one (.ptr aH 0 0 0)
def sT:Nat->List Dv->(Nat->aj)
 |_,[]=>vZ
 |k,d::ds=>aw (sT (k+1) ds) k (C1 d)
def n8:List Dv->Option (List C)
 |[]=>none
 |(.ptr,xs)::_=>some xs
 |_::ds=>n8 ds
def nS (ds:List Dv):Nat->Option ar:=fun n=>match Nat.beq n aH with
 |true=>(n8 ds).map fun xs=>.box (xs.map .c)
 |false=>none
def Ep (ds:List Dv):St:={env:=sT 0 ds,h:=nS ds,used:=fun n=>Nat.ble aH n}
theorem acF (ds:List Dv) (n:Nat) (hn:aH<=n):(Ep ds).used n=true:=Nat.ble_eq_true_of_le hn
def qz (h:Nat->Option ar):List aj->Option (List Dv)
 |[]=>some []
 |v::vs=>match v.cells? with
  |some (ag,cs)=>match gx h cs,qz h vs with
   |some xs,some ds=>some ((if ag=true then .agg else .one,xs)::ds)
   |_,_=>none
  |none=>none
def Cg (h:Nat->Option ar):List aj->Option (List Dv)
 |[v]=>match mG h v with
  |some (n,xs)=>if aH<=n then none else some [(.ptr,xs)]
  |none=>qz h [v]
 |vs=>qz h vs
def B5 (h:Nat->Option ar):Option (List C)->Option (List C)
 |none=>some []
 |some xs=>match h aH with
  |some (.box cs)=>if cs.length=xs.length then mf cs else none
  |_=>none
def St.Cf (σ:St) (ms:List bG) (ds:List Dv):Option (List Dv×List C):=
 match σ.rK ms with
 |some vs=>match Cg σ.h vs,B5 σ.h (n8 ds) with
  |some rs,some out=>some (rs,out)
  |_,_=>none
 |none=>none
def KF (T:bj) (mc:kY) (aE:List bG) (ds:List Dv):Option (List Dv×List C):=
 match dI T mc (Ep ds) with
 |some (.fD σ)=>σ.Cf aE ds
 |some (.ret σ)=>σ.Cf aE ds
 |_=>none
section
variable {B:Nat} {E:Ex} {w0 w w':World} {G G':Gh} {N:Nat} {h h':Nat->Option ar} {used:Nat->Bool}
variable {P:Program} {T:bj} {a:Act} {σ σ':St} {Q:Exit->Act->World->Prop}
theorem Po:∀(ds:List Dv) (k n:Nat),sT k ds n=if k<=n then(match ds[n - k]? with|some d=>C1 d|none=>.one .bh) else .one .bh
 |[],k,n=>by simp[sT,vZ]
 |d::ds,k,n=>by
  simp only[sT,jg,Po ds]
  by_cases h:n=k
  ·subst h;simp
  ·by_cases h2:k<=n
   ·have h3:k+1<=n:=by omega
    have h4:n - k=(n - (k+1))+1:=by omega
    simp[h,h2,h3,h4]
   ·have h3:¬k+1<=n:=by omega
    simp[h,h2,h3]
theorem JG {ds:List Dv} {n:Nat} {b:ar} (hn:nS ds n=some b):n=aH/\∃xs,n8 ds=some xs/\b=.box (xs.map .c):=by
 unfold nS at hn
 split at hn
 ·rename_i e
  have:=Nat.eq_of_beq_eq_true e
  subst this
  refine⟨rfl,?_⟩
  cases hp:n8 ds with
  |none=>rw[hp] at hn;cases hn
  |some xs=>rw[hp] at hn;injection hn with hn;exact⟨xs,rfl,hn.symm⟩
 ·cases hn
def gA:List PA->Option PA
 |[]=>none
 |p::ps=>if p.k=.ptr then some p else gA ps
theorem Dc:∀{pas:List PA} {p:PA},gA pas=some p->p∈pas/\p.k=.ptr
 |[],p,h=>by cases h
 |q::pas,p,h=>by
  unfold gA at h
  split at h
  ·injection h with h;subst h;rename_i hk;exact⟨by simp,hk⟩
  ·obtain⟨h1,h2⟩:=Dc h;exact⟨by simp[h1],h2⟩
theorem HT:∀{pas:List PA},gA pas=none->∀p∈pas,p.k≠ .ptr
 |[],_,p,hp=>by cases hp
 |q::pas,h,p,hp=>by
  unfold gA at h
  split at h
  ·cases h
  ·rename_i hk
   cases hp with
   |head=>exact hk
   |tail _ hp=>exact HT h p hp
theorem RQ:∀{ds:List Dv} {pas:List PA},pas.length=ds.length->(∀(i:Nat) (d:Dv) (p:PA),ds[i]? =some d->pas[i]? =some p->d=(p.k,p.ps.map PC.er))->n8 ds=(gA pas).map fun p=>p.ps.map PC.er
 |[],[],_,_=>rfl
 |[],_::_,hl,_=>by simp at hl
 |_::_,[],hl,_=>by simp at hl
 |d::ds,p::pas,hl,hd=>by
  have h0:=hd 0 d p rfl rfl
  have ih:=RQ (ds:=ds) (pas:=pas) (by simpa using hl) (fun i d p h1 h2=>hd (i+1) d p h1 h2)
  subst h0
  obtain⟨k,ps,b,o⟩:=p
  cases k with
  |ptr=>rfl
  |one=>simpa[n8,gA] using ih
  |agg=>simpa[n8,gA] using ih
def xb (p:PA):PB:=⟨false,p.b,p.o,0,[],none⟩
def Dp (pas:List PA):Ex:=
 ⟨fun b=>∃p∈pas,p.k=.ptr/\b=p.b,fun n=>if n=aH then(gA pas).map xb else none,fun n p h=>(by
  by_cases hn:n=aH
  ·exact Nat.le_of_eq hn.symm
  ·rw[if_neg hn] at h;cases h),fun b=>∃q∈pas,∃pc∈q.ps,aP b pc⟩
def wb (pas:List PA):Gh:=⟨fun b=>∃q∈pas,∃pc∈q.ps,aP b pc,fun n=>match gA pas with|some p=>xb p|none=>default⟩
theorem R.ahW {ds:List Dv} {vals:List Value} {pas:List PA} (va:L5 w ds vals pas) (hN:ds.length<=N):
  R w.heap.size (Dp pas) w N (Ep ds) {tmps:=vals.toArray++Array.replicate (N - vals.toArray.size) undef,defers:=[]} w (wb pas):=by
 have hl:=va.l1
 have AM:n8 ds=(gA pas).map fun p=>p.ps.map PC.er:=by
  refine RQ va.l2 fun i d p hd hp=>?_
  have hv:vals[i]? =some (vals[i]'(by rw[va.l1];exact(List.getElem?_eq_some_iff.1 hd).1)):=List.getElem?_eq_getElem _
  exact(va.at_ i d _ p hd hv hp).1
 have gC:∀q∈pas,∀pc∈q.ps,Good w pc:=by
  intro q hq pc aZ
  obtain⟨i,hi,rfl⟩:=List.getElem_of_mem hq
  have hd:ds[i]? =some (ds[i]'(by rw[<-va.l2];exact hi)):=List.getElem?_eq_getElem _
  have hv:vals[i]? =some (vals[i]'(by rw[va.l1,<-va.l2];exact hi)):=List.getElem?_eq_getElem _
  exact(va.at_ i _ _ _ hd hv (List.getElem?_eq_getElem hi)).2.1 pc aZ
 have agb:∀q∈pas,q.k=.ptr->Gp w q.b q.o q.ps/\∃v:Value,v∈vals/\v=.pointer (some (ad q.b q.o)):=by
  intro q hq hk
  obtain⟨i,hi,rfl⟩:=List.getElem_of_mem hq
  have hd:ds[i]? =some (ds[i]'(by rw[<-va.l2];exact hi)):=List.getElem?_eq_getElem _
  have hv:vals[i]? =some (vals[i]'(by rw[va.l1,<-va.l2];exact hi)):=List.getElem?_eq_getElem _
  have h3:=(va.at_ i _ _ _ hd hv (List.getElem?_eq_getElem hi)).2.2
  rw[hk] at h3
  exact⟨h3.2.2,_,List.mem_of_getElem? hv,h3.1⟩
 have cell:∀q∈pas,∀pc∈q.ps,RC w (wb pas) (nS ds) (.c pc.er) pc.val:=fun q hq pc aZ=>⟨pc,rfl,rfl,gC q hq pc aZ,fun b hb=>⟨q,hq,pc,aZ,hb⟩⟩
 have cells:∀q∈pas,cA w (wb pas) (nS ds) ((q.ps.map PC.er).map .c) (q.ps.map PC.val):=by
  intro q hq
  refine⟨by simp,fun j c u hj hu=>?_⟩
  simp only[List.getElem?_map,List.map_map] at hj hu
  cases hp:q.ps[j]? with
  |none=>rw[hp] at hj;cases hj
  |some pc=>
   rw[hp] at hj hu
   simp at hj hu
   subst hj hu
   exact⟨PC.ki pc,cell q hq pc (List.mem_of_getElem? hp)⟩
 refine⟨rfl,by simp;omega,fun s=>?_,fun s n hn=>?_,?_,Fr.refl _ _ _ (Nat.le_refl _),fun n p b hp hb=>?_,fun n hn=>Nat.ble_eq_true_of_le hn⟩
 ·show RA w _ (nS ds) (sT 0 ds s) _
  rw[Po]
  simp only[Nat.zero_le,if_true,Nat.sub_zero]
  cases hs:ds[s]? with
  |none=>exact Or.inl rfl
  |some d=>
   have Yl:=(List.getElem?_eq_some_iff.1 hs).1
   have gE:s<vals.length:=by rw[hl];exact Yl
   have hv:vals[s]? =some vals[s]:=List.getElem?_eq_getElem gE
   obtain⟨q,hp⟩:∃q,pas[s]? =some q:=⟨_,List.getElem?_eq_getElem (by rw[va.l2];exact Yl)⟩
   have:(vals.toArray++Array.replicate (N - vals.toArray.size) undef).getD s undef=vals[s]:=by
    simp[Array.getD_eq_getD_getElem?,Array.getElem?_append,gE]
   rw[this]
   have uC:=List.mem_of_getElem? hp
   obtain⟨e1,e2,e3⟩:=va.at_ s d _ q hs hv hp
   generalize vals[s]=u at*
   subst e1
   obtain⟨k,ps,b,o⟩:=q
   cases k with
   |one=>
    have e3:ps.map PC.val=[u]:=e3
    obtain⟨pc,rfl⟩:∃pc,ps=[pc]:=by
     have:=congrArg List.length e3
     exact List.length_eq_one_iff.1 (by simpa using this)
    simp at e3
    rw[<-e3]
    exact RA.gb (PC.ki pc) (cell _ uC pc (by simp))
   |agg=>exact⟨_,e3,cells _ uC⟩
   |ptr=>
    have e3:u=.pointer (some (ad b o))/\_:=e3
    rw[e3.1]
    have hc:gA pas=some ⟨.ptr,ps,b,o⟩:=by
     cases hc:gA pas with
     |none=>exact absurd rfl (HT hc _ uC)
     |some p=>
      obtain⟨c1,c2⟩:=Dc hc
      obtain⟨i,hi⟩:=List.getElem?_of_mem c1
      have:=va.one i s p _ hi hp c2 rfl
      subst this
      rw[hi] at hp
      injection hp with hp
      rw[hp]
    refine RA.gb (c:=.ptr aH 0 0 0) rfl (fun _=>?_)
    simp[wb,hc,xb]
 ·have bm:(sT 0 ds s).ref n:=hn
  rw[Po] at bm
  simp only[Nat.zero_le,if_true,Nat.sub_zero] at bm
  cases hs:ds[s]? with
  |none=>rw[hs] at bm;exact absurd bm id
  |some d=>
   rw[hs] at bm
   obtain⟨k,xs⟩:=d
   cases k with
   |one=>match xs,bm with
    |[],bm=>exact absurd bm id
    |[x],bm=>exact absurd bm id
    |_::_::_,bm=>exact absurd bm id
   |agg=>
    obtain⟨c,hc,hh⟩:=bm
    obtain⟨y,_,rfl⟩:=List.mem_map.1 hc
    exact absurd hh id
   |ptr=>
    have bm:n=aH:=bm
    subst bm
    exact acF ds aH (Nat.le_refl aH)
 ·
  have Rt:∀n gr m sz xs,nS ds n≠some (.row gr m sz xs):=fun n gr m sz xs hn=>by obtain⟨_,_,_,e⟩:=JG hn;cases e
  have lr:∀n,nS ds n≠none->n=aH/\∃p,gA pas=some p/\(wb pas).g n=xb p/\nS ds n=some (.box ((p.ps.map PC.er).map .c)):=by
   intro n hn
   cases hh:nS ds n with
   |none=>exact absurd hh hn
   |some b=>
    obtain⟨rfl,xs,e1,e2⟩:=JG hh
    rw[AM] at e1
    cases hc:gA pas with
    |none=>rw[hc] at e1;cases e1
    |some p=>
     rw[hc] at e1
     injection e1 with e1
     exact⟨rfl,p,rfl,by simp[wb,hc],by rw[e2,<-e1]⟩
  refine⟨fun n hn=>?_,fun m cs c n hm hc hr=>?_,fun n cs hn=>?_,fun n gr m sz xs hn=>absurd hn (Rt _ _ _ _ _),fun n hn hlf=>?_,fun n n' hn bm ax=>?_,fun b hb=>?_,fun b hb=>.inr (.inr hb),
   fun n n' gr m sz xs bk m' aK av hn=>absurd hn (Rt _ _ _ _ _),fun n gr sz xs hn=>absurd hn (Rt _ _ _ _ _),?_,?_,?_⟩
  ·obtain⟨rfl,_⟩:=lr n hn
   exact acF ds aH (Nat.le_refl aH)
  ·have bB:nS ds m=some (.box cs):=hm
   obtain⟨_,xs,_,e⟩:=JG bB
   injection e with e
   subst e
   obtain⟨x,_,rfl⟩:=List.mem_map.1 hc
   exact absurd hr id
  ·have bm:nS ds n=some (.box cs):=hn
   obtain⟨rfl,p,c1,c2,c3⟩:=lr n (by rw[bm];simp)
   rw[bm] at c3
   injection c3 with c3
   injection c3 with c3
   subst c3
   obtain⟨m1,m2⟩:=Dc c1
   rw[c2]
   refine⟨rfl,(va.kg p m1 m2).1,fun j c hj=>?_⟩
   rw[List.getElem?_map,List.getElem?_map] at hj
   cases ma:p.ps[j]? with
   |none=>rw[ma] at hj;cases hj
   |some pc=>
    rw[ma] at hj
    simp at hj
    subst hj
    exact⟨pc.val,(agb p m1 m2).1 j pc ma,PC.ki pc,cell p m1 pc (List.mem_of_getElem? ma)⟩
  ·obtain⟨rfl,p,c1,c2,c3⟩:=lr n hn
   obtain⟨m1,m2⟩:=Dc c1
   rw[c2]
   obtain⟨u1,u2⟩:=va.kg p m1 m2
   exact⟨fun⟨q,hq,pc,aZ,hb⟩=>u2 q hq pc aZ hb,.inr ⟨p,m1,m2,rfl⟩,u1.lt⟩
  ·obtain⟨rfl,_⟩:=lr n hn
   obtain⟨rfl,_⟩:=lr n' bm
   exact absurd rfl ax
  ·obtain⟨q,hq,pc,aZ,hb⟩:=hb
   exact(gC q hq pc aZ).lt hb
  ·intro i pc hi;simp at hi
  ·intro i j pc c6 b _ hi;simp at hi
  ·intro i pc n gr m sz xs b hi;simp at hi
 ·have bd:(if n=aH then(gA pas).map xb else none)=some p:=hp
  split at bd
  ·rename_i hn
   subst hn
   cases hc:gA pas with
   |none=>rw[hc] at bd;cases bd
   |some q=>
    rw[hc] at bd
    injection bd with bd
    subst bd
    have hg:(wb pas).g aH=xb q:=by simp[wb,hc]
    rw[hg]
    refine⟨rfl,rfl,rfl,rfl,rfl,fun gr sz xs aT=>?_⟩
    have IA:nS ds aH=some b:=hb
    obtain⟨_,_,_,e⟩:=JG IA
    rw[e] at aT;cases aT
  ·cases bd
def L3 (G:Gh) (h:Nat->Option ar) (b:Nat):Prop:=G.Im b\/∃n gr m sz xs,h n=some (.row gr m sz xs)/\su G n b
theorem HR.acI (H:HR B E w G h used []):∀{cs:List ai} {xs:List C} {vs:List Value},Am.gx h cs=some xs->cA w G h cs vs->∃ps:List PC,ps.map PC.er=xs/\ps.map PC.val=vs/\∀pc∈ps,Good w pc/\∀b,aP b pc->L3 G h b
 |[],xs,vs,hx,hc=>by
  simp only[Am.gx] at hx
  injection hx with hx
  subst hx
  have:vs=[]:=List.eq_nil_of_length_eq_zero (by simpa using hc.1)
  subst this
  exact⟨[],rfl,rfl,by simp⟩
 |c::cs,xs,vs,hx,hc=>by
  simp only[Am.gx] at hx
  split at hx
  ·rename_i x av e1 e2
   injection hx with hx
   subst hx
   match vs,hc.1 with
   |v::vs,hl=>
    obtain⟨pc,a1,a2,a3,a4⟩:=H.U8 e1 (hc.2 0 c v rfl rfl).2
    obtain⟨ps,b1,b2,b3⟩:=H.acI (vs:=vs) e2 ⟨by simpa using hl,fun j c u h1 h2=>hc.2 (j+1) c u h1 h2⟩
    refine⟨pc::ps,by simp[a1,b1],by simp[a2,b2],fun q hq=>?_⟩
    cases hq with
    |head=>exact⟨a3,fun b hb=>(a4 b hb).imp id fun⟨n,gr,m,sz,xs,_,h1,h2⟩=>⟨n,gr,m,sz,xs,h1,h2⟩⟩
    |tail _ hq=>exact b3 q hq
  ·cases hx
theorem HR.qz (H:HR B E w G h used []):∀{vs:List aj} {ds:List Dv} {us:List Value},Am.qz h vs=some ds->us.length=vs.length->(∀(j:Nat) (x:aj) (v:Value),vs[j]? =some x->us[j]? =some v->RA w G h x v)->
  ∃aR:List PA,aR.map (fun p=>(p.k,p.ps.map PC.er))=ds/\aR.map zj=us/\(∀p∈aR,p.k≠ .ptr/\(p.k=.one->p.ps.length=1))/\∀p∈aR,∀pc∈p.ps,Good w pc/\∀b,aP b pc->L3 G h b
 |[],ds,us,hx,hl,hc=>by
  simp only[Am.qz] at hx
  injection hx with hx
  subst hx
  have:us=[]:=List.eq_nil_of_length_eq_zero (by simpa using hl)
  subst this
  exact⟨[],rfl,rfl,by simp,by simp⟩
 |x::vs,ds,us,hx,hl,hc=>by
  simp only[Am.qz] at hx
  split at hx
  ·rename_i ag cs jX
   split at hx
   ·rename_i xs yg e1 e2
    injection hx with hx
    subst hx
    match us,hl with
    |v::us,hl=>
     obtain⟨aR,b1,b2,b3,b4⟩:=H.qz (us:=us) e2 (by simpa using hl) (fun j x v h1 h2=>hc (j+1) x v h1 h2)
     have h0:=hc 0 x v rfl rfl
     have dB:∃vs:List Value,(if ag=true then v=.agg vs.toArray else vs=[v])/\cA w G h cs vs:=by
      cases x with
      |one c=>
       have N7:ag=false/\cs=[c]:=by cases c<;>simp[aj.cells?] at jX<;>exact⟨jX.1,jX.2.symm⟩
       obtain⟨rfl,rfl⟩:=N7
       rcases h0 with h0|h0
       ·subst h0;simp[aj.cells?] at jX
       ·exact⟨[v],rfl,h0⟩
      |agg cs'=>
       simp[aj.cells?] at jX
       obtain⟨rfl,rfl⟩:=jX
       obtain⟨vs,e,h1⟩:∃vs:List Value,v=.agg vs.toArray/\cA w G h cs' vs:=h0
       exact⟨vs,e,h1⟩
      |bn xs=>simp[aj.cells?] at jX
     obtain⟨Ws,iz,bN⟩:=dB
     obtain⟨ps,p1,p2,p3⟩:=H.acI e1 bN
     refine⟨⟨if ag=true then .agg else .one,ps,0,0⟩::aR,by simp[p1,b1],?_,fun p hp=>?_,fun p hp pc aZ=>?_⟩
     ·rw[List.map_cons,b2]
      congr 1
      cases ag with
      |true=>
       simp only[if_true] at iz⊢
       rw[iz,<-p2]
       rfl
      |false=>
       simp only[Bool.false_eq_true,if_false] at iz⊢
       rw[<-p2] at iz
       match ps,iz with
       |[pc],iz=>simp at iz;exact iz
     ·cases hp with
      |head=>
       cases ag with
       |true=>exact⟨by simp,fun h=>by cases h⟩
       |false=>
        simp only[Bool.false_eq_true,if_false] at iz
        refine⟨by simp,fun _=>?_⟩
        have:(ps.map PC.val).length=1:=by rw[p2,iz];rfl
        simpa using this
      |tail _ hp=>exact b3 p hp
     ·cases hp with
      |head=>exact p3 pc aZ
      |tail _ hp=>exact b4 p hp pc aZ
   ·cases hx
  ·cases hx
theorem amK {aR:List PA}:B6 (aR.map zj)=zk aR:=by
 match aR with
 |[]=>rfl
 |[p]=>rfl
 |p::q::aR=>rfl
theorem aoH (hT:nu P T) (hm:P.follows .mixedOrders=true) {f:FuncId} {fn:Func} {c:Code} {mc:kY} {ms:List bG} {M:List Dv->Option (List Dv×List C)} (hf:P.funcs[f]? =some fn) (hb:fn.body=some c)
  (hc:iR P fn.ntmps c mc=true) (hr:mH P fn.results.toList ms=true) (hM:∀ds rs out,M ds=some (rs,out)->ds.length<=fn.ntmps/\KF T mc ms ds=some (rs,out)):k8 P f M:=by
 intro ds rs out mL w vals pas va
 obtain⟨hN,bq⟩:=hM ds rs out mL
 refine calls_of_wp hf hb ?_
 have r0:=R.ahW (N:=fn.ntmps) va hN
 have AM:n8 ds=(gA pas).map fun p=>p.ps.map PC.er:=by
  refine RQ va.l2 fun i d p hd hp=>?_
  have hv:vals[i]? =some (vals[i]'(by rw[va.l1];exact(List.getElem?_eq_some_iff.1 hd).1)):=List.getElem?_eq_getElem _
  exact(va.at_ i d _ p hd hv hp).1
 unfold KF at bq
 have gB:∀{σ:St} {a:Act} {w':World} {G:Gh},σ.Cf ms ds=some (rs,out)->R w.heap.size (Dp pas) w fn.ntmps σ a w' G->a.defers=[]/\∃v,(results fn a.tmps).run P w'=.ok v w'/\
   ∃(aR:List PA) (qs:List PC),aR.map (fun p=>(p.k,p.ps.map PC.er))=rs/\(Ending.returned v)=.returned (zk aR)/\qs.map PC.er=out/\L4 w w' pas aR qs:=by
  intro σ a w' G hx r
  have H:=r.hr
  unfold St.Cf at hx
  split at hx
  ·rename_i vs e1
   split at hx
   ·rename_i vd RD e2 e3
    injection hx with hx
    injection hx with lz dV
    subst lz dV
    have wi:∀p,gA pas=some p->∃cs,σ.h aH=some (.box cs)/\cs.length=p.ps.length/\mf cs=some RD/\(G.g aH).nl=false/\(G.g aH).b=p.b/\(G.g aH).o=p.o:=by
     intro p hp
     rw[AM,hp] at e3
     simp only[Option.map_some,B5] at e3
     split at e3
     ·rename_i cs dP
      split at e3
      ·rename_i hl
       have wB:(Dp pas).qv aH=some (xb p):=by
        show(if aH=aH then(gA pas).map xb else none)=_
        rw[if_pos rfl,hp];rfl
       obtain⟨q1,q2,q3,_⟩:=r.qv _ _ _ wB dP
       exact⟨cs,dP,by simpa using hl,e3,q1,q2,q3⟩
      ·cases e3
     ·cases e3
    have IV:∀q∈pas,q.k=.ptr->∃p,gA pas=some p/\q=p:=by
     intro q hq hk
     cases hc:gA pas with
     |none=>exact absurd hk (HT hc q hq)
     |some p=>
      obtain⟨c1,c2⟩:=Dc hc
      obtain⟨i,hi⟩:=List.getElem?_of_mem hq
      obtain⟨j,hj⟩:=List.getElem?_of_mem c1
      have:=va.one i j q p hi hj hk c2
      subst this
      rw[hi] at hj
      injection hj with hj
      exact⟨p,rfl,hj⟩
    have hE:∀b,(Dp pas) b->∃p cs,gA pas=some p/\σ.h aH=some (.box cs)/\(G.g aH).nl=false/\b=(G.g aH).b:=by
     rintro b ⟨q,hq,hk,rfl⟩
     obtain⟨p,hp,rfl⟩:=IV q hq hk
     obtain⟨cs,h1,_,_,h2,h3,_⟩:=wi q hp
     exact⟨q,cs,hp,h1,h2,h3.symm⟩
    have pM:∀b,G.Im b->zT w pas b:=fun b hb=>by
     rcases H.oT b hb with h1|h1|h1
     ·exact .inl h1
     ·obtain⟨p,cs,_,h2,h3,rfl⟩:=hE b h1
      exact absurd hb (H.own aH (by rw[h2];simp) h3).1
     ·exact .inr h1
    have agw:∀b,L3 G σ.h b->zT w pas b/\(∀p,gA pas=some p->b≠p.b):=by
     have ax:∀b,(∀cs,σ.h aH=some (.box cs)->(G.g aH).nl=false->b≠(G.g aH).b)->∀p,gA pas=some p->b≠p.b:=fun b hb p hp=>by
      obtain⟨cs,h1,_,_,h2,h3,_⟩:=wi p hp
      rw[<-h3]
      exact hb cs h1 h2
     have Xx:∀b,(w.heap.size<=b\/(Dp pas) b)->(∀cs,σ.h aH=some (.box cs)->(G.g aH).nl=false->b≠(G.g aH).b)->zT w pas b:=fun b hb ax=>by
      rcases hb with hb|hb
      ·exact .inl hb
      ·obtain⟨p,cs,_,h2,h3,h4⟩:=hE b hb
       exact absurd h4 (ax cs h2 h3)
     intro b hb
     rcases hb with hb|⟨n,gr,m,sz,xs,hn,hft⟩
     ·exact⟨pM b hb,ax b fun cs h1 h2 he=>(H.own aH (by rw[h1];simp) h2).1 (he▸hb)⟩
     ·have bJ:σ.h n≠none:=by rw[hn];simp
      rcases hft with⟨aM,rfl⟩|hF
      ·have hd:∀cs,σ.h aH=some (.box cs)->(G.g aH).nl=false->(G.g n).b≠(G.g aH).b:=fun cs h1 h2=>
        H.inj n aH bJ (by rw[h1];simp) (by rintro rfl;rw[hn] at h1;cases h1) aM h2
       exact⟨Xx _ (H.own n bJ aM).2.1 hd,ax _ hd⟩
      ·have gD:=(H.row n gr m sz xs hn).mode
       cases m with
       |aA=>exact⟨pM b (gD b hF),ax b fun cs h1 h2 he=>(H.own aH (by rw[h1];simp) h2).1 (he▸gD b hF)⟩
       |ab=>exact⟨pM b (gD.1 b hF).1,ax b fun cs h1 h2 he=>(H.own aH (by rw[h1];simp) h2).1 (he▸(gD.1 b hF).1)⟩
       |live=>
        have hd:∀cs,σ.h aH=some (.box cs)->(G.g aH).nl=false->b≠(G.g aH).b:=fun cs h1 h2=>H.live n gr sz xs hn b hF aH (by rw[h1];simp) h2
        exact⟨Xx b (gD.1 b hF).2.2 hd,ax b hd⟩
    obtain⟨us,u1,u2,_,u3⟩:=KG r hr e1
    obtain⟨qs,q1,q2,q3⟩:∃qs:List PC,qs.map PC.er=RD/\(∀pc∈qs,Good w' pc/\∀b,aP b pc->G.Im b)/\∀p∈pas,p.k=.ptr->Gp w' p.b p.o qs:=by
     cases hc:gA pas with
     |none=>
      rw[AM,hc] at e3
      simp only[Option.map_none,B5] at e3
      injection e3 with e3
      subst e3
      exact⟨[],rfl,by simp,fun p hp hk=>absurd hk (HT hc p hp)⟩
     |some p=>
      obtain⟨cs,h1,h2,h3,h4,h5,h6⟩:=wi p hc
      obtain⟨Ws,v1,v2⟩:=H.HC h1
      obtain⟨ps,p1,p2,p3⟩:=HR.mf h3 v1
      refine⟨ps,p1,p3,fun q hq hk j c hj=>?_⟩
      obtain⟨p',bd,rfl⟩:=IV q hq hk
      rw[hc] at bd
      injection bd with bd
      subst bd
      rw[<-h5,<-h6]
      refine v2 j _ ?_
      rw[<-p2,List.getElem?_map,hj];rfl
    have yE:Fr w.heap.size (WQ pas) w w':=⟨r.fr.os,r.fr.tape,r.fr.output,r.fr.size,r.fr.block,r.fr.kg⟩
    have HU:∀{vd:List Dv},qz σ.h vs=some vd->∃v,(results fn a.tmps).run P w'=.ok v w'/\
      ∃(aR:List PA) (qs:List PC),aR.map (fun p=>(p.k,p.ps.map PC.er))=vd/\(Ending.returned v)=.returned (zk aR)/\qs.map PC.er=RD/\L4 w w' pas aR qs:=by
     intro vd hrb
     obtain⟨aR,b1,b2,b3,b4⟩:=H.qz hrb u2 u3
     refine⟨_,KH fn a.tmps u1,aR,qs,b1,by rw[<-b2,amK],q1,?_⟩
     exact⟨fun p hp=>(b3 p hp).2,fun p hp hk=>absurd hk (b3 p hp).1,fun p hp pc aZ=>⟨(b4 p hp pc aZ).1,fun b hb=>(agw b ((b4 p hp pc aZ).2 b hb)).1⟩,yE,fun pc aZ=>⟨(q2 pc aZ).1,fun b hb=>pM b ((q2 pc aZ).2 b hb)⟩,q3⟩
    refine⟨r.defers,?_⟩
    unfold Cg at e2
    split at e2
    ·rename_i v0
     split at e2
     ·rename_i n xs hbp
      split at e2
      ·cases e2
      ·rename_i AL
       injection e2 with e2
       subst e2
       obtain⟨sz,cs,rfl,hn,dP⟩:=Mg hbp
       obtain⟨nl,un,_⟩:=H.box n cs hn
       have bJ:σ.h n≠none:=by rw[hn];simp
       obtain⟨o1,o2,o3⟩:=H.own n bJ nl
       obtain⟨Ws,v1,v2⟩:=H.HC hn
       obtain⟨ps,p1,p2,p3⟩:=HR.mf dP v1
       match us,u2 with
       |[u],_=>
        have hu:u=.pointer (some (ad (G.g n).b (G.g n).o)):=by
         have h0:=u3 0 _ u rfl rfl
         rcases h0 with h0|h0
         ·cases h0
         ·have h1:RC w' G σ.h (.ptr n 0 sz 0) u:=(h0.2 0 _ u rfl rfl).2
          simpa using(h1 bJ).2
        have hB:w.heap.size<=(G.g n).b:=by
         rcases o2 with o2|o2
         ·exact o2
         ·obtain⟨p,cs',_,h2,h3,h4⟩:=hE _ o2
          exact absurd h4 (H.inj n aH bJ (by rw[h2];simp) (by rintro rfl;exact AL (Nat.le_refl _)) nl h3)
        refine⟨_,KH fn a.tmps u1,[⟨.ptr,ps,(G.g n).b,(G.g n).o⟩],qs,by simp[p1],?_,q1,?_⟩
        ·rw[hu];rfl
        ·refine⟨fun p hp hk=>?_,fun p hp hk=>?_,fun p hp pc aZ=>?_,yE,fun pc aZ=>⟨(q2 pc aZ).1,fun b hb=>pM b ((q2 pc aZ).2 b hb)⟩,q3⟩
         ·simp at hp;subst hp;cases hk
         ·simp at hp
          subst hp
          refine⟨rfl,hB,un,fun j c hj=>v2 j _ ?_,fun pc aZ hb=>o1 ((p3 pc aZ).2 _ hb),fun pc aZ hb=>o1 ((q2 pc aZ).2 _ hb)⟩
          rw[<-p2,List.getElem?_map,hj];rfl
         ·simp at hp
          subst hp
          exact⟨(p3 pc aZ).1,fun b hb=>pM b ((p3 pc aZ).2 b hb)⟩
     ·exact HU e2
    ·exact HU e2
   ·cases hx
  ·cases hx
 split at bq
 ·rename_i σ e
  exact lk hT hm mc hc e r0 fun a w' G r=>gB bq r
 ·rename_i σ e
  exact lk hT hm mc hc e r0 fun a w' G r=>gB bq r
 ·cases bq
end
end Go.Am
