/- AmW: functions whose results may share, and that may change the cells of one pointer: from code to what is said of them. No condition. -/
import Derived.Test.YtifmggmhdcdgbaaAm30
set_option linter.unusedVariables false
namespace Go.Am
def BW:Dv->ak
 |(.one,[x])=>.one (.c x)
 |(.one,_)=>.one .bf
 |(.agg,xs)=>.agg (xs.map .c)
 |(.ptr,_)=>.one (.ptr aF 0 0 0)
def sb:Nat->List Dv->(Nat->ak)
 |_,[]=>uP
 |k,d::ds=>au (sb (k+1) ds) k (BW d)
def nF:List Dv->Option (List C)
 |[]=>none
 |(.ptr,xs)::_=>some xs
 |_::ds=>nF ds
def nA (ds:List Dv):Nat->Option aq:=fun n=>match Nat.beq n aF with
 |true=>(nF ds).map fun xs=>.box (xs.map .c)
 |false=>none
def De (ds:List Dv):St:={env:=sb 0 ds,h:=nA ds,used:=fun n=>Nat.ble aF n}
theorem ZT (ds:List Dv) (n:Nat) (hn:aF<=n):(De ds).used n=true:=Nat.ble_eq_true_of_le hn
def pP (h:Nat->Option aq):List ak->Option (List Dv)
 |[]=>some []
 |v::vs=>match v.cells? with
  |some (ag,cs)=>match gh h cs,pP h vs with
   |some xs,some ds=>some ((if ag=true then .agg else .one,xs)::ds)
   |_,_=>none
  |none=>none
def Bc (h:Nat->Option aq):List ak->Option (List Dv)
 |[v]=>match mr h v with
  |some (n,xs)=>if aF<=n then none else some [(.ptr,xs)]
  |none=>pP h [v]
 |vs=>pP h vs
def AZ (h:Nat->Option aq):Option (List C)->Option (List C)
 |none=>some []
 |some xs=>match h aF with
  |some (.box cs)=>if cs.length=xs.length then lV cs else none
  |_=>none
def St.Bb (σ:St) (ms:List bV) (ds:List Dv):Option (List Dv×List C):=
 match σ.qV ms with
 |some vs=>match Bc σ.h vs,AZ σ.h (nF ds) with
  |some rs,some out=>some (rs,out)
  |_,_=>none
 |none=>none
def It (T:bg) (mc:kN) (aH:List bV) (ds:List Dv):Option (List Dv×List C):=
 match dF T mc (De ds) with
 |some (.ft σ)=>σ.Bb aH ds
 |some (.ret σ)=>σ.Bb aH ds
 |_=>none
section
variable {B:Nat} {E:Ex} {w0 w w':World} {G G':Gh} {N:Nat} {h h':Nat->Option aq} {used:Nat->Bool}
variable {P:Program} {T:bg} {a:Act} {σ σ':St} {Q:Exit->Act->World->Prop}
theorem Na:∀(ds:List Dv) (k n:Nat),sb k ds n=if k<=n then(match ds[n - k]? with|some d=>BW d|none=>.one .bf) else .one .bf
 |[],k,n=>by simp[sb,uP]
 |d::ds,k,n=>by
  simp only[sb,iK,Na ds]
  by_cases h:n=k
  ·subst h;simp
  ·by_cases h2:k<=n
   ·have h3:k+1<=n:=by omega
    have h4:n - k=(n - (k+1))+1:=by omega
    simp[h,h2,h3,h4]
   ·have h3:¬k+1<=n:=by omega
    simp[h,h2,h3]
theorem Hx {ds:List Dv} {n:Nat} {b:aq} (hn:nA ds n=some b):n=aF/\∃xs,nF ds=some xs/\b=.box (xs.map .c):=by
 unfold nA at hn
 split at hn
 ·rename_i e
  have:=Nat.eq_of_beq_eq_true e
  subst this
  refine⟨rfl,?_⟩
  cases hp:nF ds with
  |none=>rw[hp] at hn;cases hn
  |some xs=>rw[hp] at hn;injection hn with hn;exact⟨xs,rfl,hn.symm⟩
 ·cases hn
def gm:List PA->Option PA
 |[]=>none
 |p::ps=>if p.k=.ptr then some p else gm ps
theorem B8:∀{pas:List PA} {p:PA},gm pas=some p->p∈pas/\p.k=.ptr
 |[],p,h=>by cases h
 |q::pas,p,h=>by
  unfold gm at h
  split at h
  ·injection h with h;subst h;rename_i hk;exact⟨by simp,hk⟩
  ·obtain⟨h1,h2⟩:=B8 h;exact⟨by simp[h1],h2⟩
theorem Gc:∀{pas:List PA},gm pas=none->∀p∈pas,p.k≠ .ptr
 |[],_,p,hp=>by cases hp
 |q::pas,h,p,hp=>by
  unfold gm at h
  split at h
  ·cases h
  ·rename_i hk
   cases hp with
   |head=>exact hk
   |tail _ hp=>exact Gc h p hp
theorem Px:∀{ds:List Dv} {pas:List PA},pas.length=ds.length->(∀(i:Nat) (d:Dv) (p:PA),ds[i]? =some d->pas[i]? =some p->d=(p.k,p.ps.map PC.er))->nF ds=(gm pas).map fun p=>p.ps.map PC.er
 |[],[],_,_=>rfl
 |[],_::_,hl,_=>by simp at hl
 |_::_,[],hl,_=>by simp at hl
 |d::ds,p::pas,hl,hd=>by
  have h0:=hd 0 d p rfl rfl
  have ih:=Px (ds:=ds) (pas:=pas) (by simpa using hl) (fun i d p h1 h2=>hd (i+1) d p h1 h2)
  subst h0
  obtain⟨k,ps,b,o⟩:=p
  cases k with
  |ptr=>rfl
  |one=>simpa[nF,gm] using ih
  |agg=>simpa[nF,gm] using ih
def vS (p:PA):PB:=⟨false,p.b,p.o,0,[],none⟩
def Co (pas:List PA):Ex:=
 ⟨fun b=>∃p∈pas,p.k=.ptr/\b=p.b,fun n=>if n=aF then(gm pas).map vS else none,fun n p h=>(by
  by_cases hn:n=aF
  ·exact Nat.le_of_eq hn.symm
  ·rw[if_neg hn] at h;cases h),fun b=>∃q∈pas,∃pc∈q.ps,aM b pc⟩
def uV (pas:List PA):Gh:=⟨fun b=>∃q∈pas,∃pc∈q.ps,aM b pc,fun n=>match gm pas with|some p=>vS p|none=>default⟩
theorem R.aeP {ds:List Dv} {vals:List Value} {pas:List PA} (va:JP w ds vals pas) (hN:ds.length<=N):
  R w.heap.size (Co pas) w N (De ds) {tmps:=vals.toArray++Array.replicate (N - vals.toArray.size) undef,defers:=[]} w (uV pas):=by
 have hl:=va.l1
 have zT:nF ds=(gm pas).map fun p=>p.ps.map PC.er:=by
  refine Px va.l2 fun i d p hd hp=>?_
  have hv:vals[i]? =some (vals[i]'(by rw[va.l1];exact(List.getElem?_eq_some_iff.1 hd).1)):=List.getElem?_eq_getElem _
  exact(va.at_ i d _ p hd hv hp).1
 have gp:∀q∈pas,∀pc∈q.ps,Good w pc:=by
  intro q hq pc aV
  obtain⟨i,hi,rfl⟩:=List.getElem_of_mem hq
  have hd:ds[i]? =some (ds[i]'(by rw[<-va.l2];exact hi)):=List.getElem?_eq_getElem _
  have hv:vals[i]? =some (vals[i]'(by rw[va.l1,<-va.l2];exact hi)):=List.getElem?_eq_getElem _
  exact(va.at_ i _ _ _ hd hv (List.getElem?_eq_getElem hi)).2.1 pc aV
 have adn:∀q∈pas,q.k=.ptr->EY w q.b q.o q.ps/\∃v:Value,v∈vals/\v=.pointer (some (ad q.b q.o)):=by
  intro q hq hk
  obtain⟨i,hi,rfl⟩:=List.getElem_of_mem hq
  have hd:ds[i]? =some (ds[i]'(by rw[<-va.l2];exact hi)):=List.getElem?_eq_getElem _
  have hv:vals[i]? =some (vals[i]'(by rw[va.l1,<-va.l2];exact hi)):=List.getElem?_eq_getElem _
  have h3:=(va.at_ i _ _ _ hd hv (List.getElem?_eq_getElem hi)).2.2
  rw[hk] at h3
  exact⟨h3.2.2,_,List.mem_of_getElem? hv,h3.1⟩
 have cell:∀q∈pas,∀pc∈q.ps,RC w (uV pas) (nA ds) (.c pc.er) pc.val:=fun q hq pc aV=>⟨pc,rfl,rfl,gp q hq pc aV,fun b hb=>⟨q,hq,pc,aV,hb⟩⟩
 have cells:∀q∈pas,cA w (uV pas) (nA ds) ((q.ps.map PC.er).map .c) (q.ps.map PC.val):=by
  intro q hq
  refine⟨by simp,fun j c u hj hu=>?_⟩
  simp only[List.getElem?_map,List.map_map] at hj hu
  cases hp:q.ps[j]? with
  |none=>rw[hp] at hj;cases hj
  |some pc=>
   rw[hp] at hj hu
   simp at hj hu
   subst hj hu
   exact⟨PC.j8 pc,cell q hq pc (List.mem_of_getElem? hp)⟩
 refine⟨rfl,by simp;omega,fun s=>?_,fun s n hn=>?_,?_,Fr.refl _ _ _ (Nat.le_refl _),fun n p b hp hb=>?_,fun n hn=>Nat.ble_eq_true_of_le hn⟩
 ·show RA w _ (nA ds) (sb 0 ds s) _
  rw[Na]
  simp only[Nat.zero_le,if_true,Nat.sub_zero]
  cases hs:ds[s]? with
  |none=>exact Or.inl rfl
  |some d=>
   have VO:=(List.getElem?_eq_some_iff.1 hs).1
   have gv:s<vals.length:=by rw[hl];exact VO
   have hv:vals[s]? =some vals[s]:=List.getElem?_eq_getElem gv
   obtain⟨q,hp⟩:∃q,pas[s]? =some q:=⟨_,List.getElem?_eq_getElem (by rw[va.l2];exact VO)⟩
   have:(vals.toArray++Array.replicate (N - vals.toArray.size) undef).getD s undef=vals[s]:=by
    simp[Array.getD_eq_getD_getElem?,Array.getElem?_append,gv]
   rw[this]
   have tv:=List.mem_of_getElem? hp
   obtain⟨e1,e2,e3⟩:=va.at_ s d _ q hs hv hp
   generalize vals[s]=u at*
   subst e1
   obtain⟨k,ps,b,o⟩:=q
   cases k with
   |one=>
    have e3:ps.map PC.val=[u]:=e3
    obtain⟨pc,rfl⟩:∃pc,ps=[pc]:=by
     have:=congrArg List.length e3
     exact List.length_eq_one_iff.1 (by simpa using this)
    simp at e3
    rw[<-e3]
    exact RA.fR (PC.j8 pc) (cell _ tv pc (by simp))
   |agg=>exact⟨_,e3,cells _ tv⟩
   |ptr=>
    have e3:u=.pointer (some (ad b o))/\_:=e3
    rw[e3.1]
    have hc:gm pas=some ⟨.ptr,ps,b,o⟩:=by
     cases hc:gm pas with
     |none=>exact absurd rfl (Gc hc _ tv)
     |some p=>
      obtain⟨c1,c2⟩:=B8 hc
      obtain⟨i,hi⟩:=List.getElem?_of_mem c1
      have:=va.one i s p _ hi hp c2 rfl
      subst this
      rw[hi] at hp
      injection hp with hp
      rw[hp]
    refine RA.fR (c:=.ptr aF 0 0 0) rfl (fun _=>?_)
    simp[uV,hc,vS]
 ·have bk:(sb 0 ds s).ref n:=hn
  rw[Na] at bk
  simp only[Nat.zero_le,if_true,Nat.sub_zero] at bk
  cases hs:ds[s]? with
  |none=>rw[hs] at bk;exact absurd bk id
  |some d=>
   rw[hs] at bk
   obtain⟨k,xs⟩:=d
   cases k with
   |one=>match xs,bk with
    |[],bk=>exact absurd bk id
    |[x],bk=>exact absurd bk id
    |_::_::_,bk=>exact absurd bk id
   |agg=>
    obtain⟨c,hc,hh⟩:=bk
    obtain⟨y,_,rfl⟩:=List.mem_map.1 hc
    exact absurd hh id
   |ptr=>
    have bk:n=aF:=bk
    subst bk
    exact ZT ds aF (Nat.le_refl aF)
 ·
  have Pk:∀n gr m sz xs,nA ds n≠some (.row gr m sz xs):=fun n gr m sz xs hn=>by obtain⟨_,_,_,e⟩:=Hx hn;cases e
  have kY:∀n,nA ds n≠none->n=aF/\∃p,gm pas=some p/\(uV pas).g n=vS p/\nA ds n=some (.box ((p.ps.map PC.er).map .c)):=by
   intro n hn
   cases hh:nA ds n with
   |none=>exact absurd hh hn
   |some b=>
    obtain⟨rfl,xs,e1,e2⟩:=Hx hh
    rw[zT] at e1
    cases hc:gm pas with
    |none=>rw[hc] at e1;cases e1
    |some p=>
     rw[hc] at e1
     injection e1 with e1
     exact⟨rfl,p,rfl,by simp[uV,hc],by rw[e2,<-e1]⟩
  refine⟨fun n hn=>?_,fun m cs c n hm hc hr=>?_,fun n cs hn=>?_,fun n gr m sz xs hn=>absurd hn (Pk _ _ _ _ _),fun n hn hlf=>?_,fun n n' hn bk aw=>?_,fun b hb=>?_,fun b hb=>.inr (.inr hb),
   fun n n' gr m sz xs bh m' aG ar hn=>absurd hn (Pk _ _ _ _ _),fun n gr sz xs hn=>absurd hn (Pk _ _ _ _ _),?_,?_,?_⟩
  ·obtain⟨rfl,_⟩:=kY n hn
   exact ZT ds aF (Nat.le_refl aF)
  ·have bI:nA ds m=some (.box cs):=hm
   obtain⟨_,xs,_,e⟩:=Hx bI
   injection e with e
   subst e
   obtain⟨x,_,rfl⟩:=List.mem_map.1 hc
   exact absurd hr id
  ·have bk:nA ds n=some (.box cs):=hn
   obtain⟨rfl,p,c1,c2,c3⟩:=kY n (by rw[bk];simp)
   rw[bk] at c3
   injection c3 with c3
   injection c3 with c3
   subst c3
   obtain⟨m1,m2⟩:=B8 c1
   rw[c2]
   refine⟨rfl,(va.j7 p m1 m2).1,fun j c hj=>?_⟩
   rw[List.getElem?_map,List.getElem?_map] at hj
   cases lO:p.ps[j]? with
   |none=>rw[lO] at hj;cases hj
   |some pc=>
    rw[lO] at hj
    simp at hj
    subst hj
    exact⟨pc.val,(adn p m1 m2).1 j pc lO,PC.j8 pc,cell p m1 pc (List.mem_of_getElem? lO)⟩
  ·obtain⟨rfl,p,c1,c2,c3⟩:=kY n hn
   obtain⟨m1,m2⟩:=B8 c1
   rw[c2]
   obtain⟨u1,u2⟩:=va.j7 p m1 m2
   exact⟨fun⟨q,hq,pc,aV,hb⟩=>u2 q hq pc aV hb,.inr ⟨p,m1,m2,rfl⟩,u1.lt⟩
  ·obtain⟨rfl,_⟩:=kY n hn
   obtain⟨rfl,_⟩:=kY n' bk
   exact absurd rfl aw
  ·obtain⟨q,hq,pc,aV,hb⟩:=hb
   exact(gp q hq pc aV).lt hb
  ·intro i pc hi;simp at hi
  ·intro i j pc c8 b _ hi;simp at hi
  ·intro i pc n gr m sz xs b hi;simp at hi
 ·have aX:(if n=aF then(gm pas).map vS else none)=some p:=hp
  split at aX
  ·rename_i hn
   subst hn
   cases hc:gm pas with
   |none=>rw[hc] at aX;cases aX
   |some q=>
    rw[hc] at aX
    injection aX with aX
    subst aX
    have hg:(uV pas).g aF=vS q:=by simp[uV,hc]
    rw[hg]
    refine⟨rfl,rfl,rfl,rfl,rfl,fun gr sz xs aR=>?_⟩
    have GR:nA ds aF=some b:=hb
    obtain⟨_,_,_,e⟩:=Hx GR
    rw[e] at aR;cases aR
  ·cases aX
def JN (G:Gh) (h:Nat->Option aq) (b:Nat):Prop:=G.Im b\/∃n gr m sz xs,h n=some (.row gr m sz xs)/\rL G n b
theorem HR.ZY (H:HR B E w G h used []):∀{cs:List ai} {xs:List C} {vs:List Value},Am.gh h cs=some xs->cA w G h cs vs->∃ps:List PC,ps.map PC.er=xs/\ps.map PC.val=vs/\∀pc∈ps,Good w pc/\∀b,aM b pc->JN G h b
 |[],xs,vs,hx,hc=>by
  simp only[Am.gh] at hx
  injection hx with hx
  subst hx
  have:vs=[]:=List.eq_nil_of_length_eq_zero (by simpa using hc.1)
  subst this
  exact⟨[],rfl,rfl,by simp⟩
 |c::cs,xs,vs,hx,hc=>by
  simp only[Am.gh] at hx
  split at hx
  ·rename_i x ar e1 e2
   injection hx with hx
   subst hx
   match vs,hc.1 with
   |v::vs,hl=>
    obtain⟨pc,a1,a2,a3,a4⟩:=H.Ss e1 (hc.2 0 c v rfl rfl).2
    obtain⟨ps,b1,b2,b3⟩:=H.ZY (vs:=vs) e2 ⟨by simpa using hl,fun j c u h1 h2=>hc.2 (j+1) c u h1 h2⟩
    refine⟨pc::ps,by simp[a1,b1],by simp[a2,b2],fun q hq=>?_⟩
    cases hq with
    |head=>exact⟨a3,fun b hb=>(a4 b hb).imp id fun⟨n,gr,m,sz,xs,_,h1,h2⟩=>⟨n,gr,m,sz,xs,h1,h2⟩⟩
    |tail _ hq=>exact b3 q hq
  ·cases hx
theorem HR.pP (H:HR B E w G h used []):∀{vs:List ak} {ds:List Dv} {us:List Value},Am.pP h vs=some ds->us.length=vs.length->(∀(j:Nat) (x:ak) (v:Value),vs[j]? =some x->us[j]? =some v->RA w G h x v)->
  ∃aO:List PA,aO.map (fun p=>(p.k,p.ps.map PC.er))=ds/\aO.map yw=us/\(∀p∈aO,p.k≠ .ptr/\(p.k=.one->p.ps.length=1))/\∀p∈aO,∀pc∈p.ps,Good w pc/\∀b,aM b pc->JN G h b
 |[],ds,us,hx,hl,hc=>by
  simp only[Am.pP] at hx
  injection hx with hx
  subst hx
  have:us=[]:=List.eq_nil_of_length_eq_zero (by simpa using hl)
  subst this
  exact⟨[],rfl,rfl,by simp,by simp⟩
 |x::vs,ds,us,hx,hl,hc=>by
  simp only[Am.pP] at hx
  split at hx
  ·rename_i ag cs jK
   split at hx
   ·rename_i xs xa e1 e2
    injection hx with hx
    subst hx
    match us,hl with
    |v::us,hl=>
     obtain⟨aO,b1,b2,b3,b4⟩:=H.pP (us:=us) e2 (by simpa using hl) (fun j x v h1 h2=>hc (j+1) x v h1 h2)
     have h0:=hc 0 x v rfl rfl
     have ew:∃vs:List Value,(if ag=true then v=.agg vs.toArray else vs=[v])/\cA w G h cs vs:=by
      cases x with
      |one c=>
       have LC:ag=false/\cs=[c]:=by cases c<;>simp[ak.cells?] at jK<;>exact⟨jK.1,jK.2.symm⟩
       obtain⟨rfl,rfl⟩:=LC
       rcases h0 with h0|h0
       ·subst h0;simp[ak.cells?] at jK
       ·exact⟨[v],rfl,h0⟩
      |agg cs'=>
       simp[ak.cells?] at jK
       obtain⟨rfl,rfl⟩:=jK
       obtain⟨vs,e,h1⟩:∃vs:List Value,v=.agg vs.toArray/\cA w G h cs' vs:=h0
       exact⟨vs,e,h1⟩
      |bn xs=>simp[ak.cells?] at jK
     obtain⟨TV,ig,bP⟩:=ew
     obtain⟨ps,p1,p2,p3⟩:=H.ZY e1 bP
     refine⟨⟨if ag=true then .agg else .one,ps,0,0⟩::aO,by simp[p1,b1],?_,fun p hp=>?_,fun p hp pc aV=>?_⟩
     ·rw[List.map_cons,b2]
      congr 1
      cases ag with
      |true=>
       simp only[if_true] at ig⊢
       rw[ig,<-p2]
       rfl
      |false=>
       simp only[Bool.false_eq_true,if_false] at ig⊢
       rw[<-p2] at ig
       match ps,ig with
       |[pc],ig=>simp at ig;exact ig
     ·cases hp with
      |head=>
       cases ag with
       |true=>exact⟨by simp,fun h=>by cases h⟩
       |false=>
        simp only[Bool.false_eq_true,if_false] at ig
        refine⟨by simp,fun _=>?_⟩
        have:(ps.map PC.val).length=1:=by rw[p2,ig];rfl
        simpa using this
      |tail _ hp=>exact b3 p hp
     ·cases hp with
      |head=>exact p3 pc aV
      |tail _ hp=>exact b4 p hp pc aV
   ·cases hx
  ·cases hx
theorem aiN {aO:List PA}:A3 (aO.map yw)=yx aO:=by
 match aO with
 |[]=>rfl
 |[p]=>rfl
 |p::q::aO=>rfl
theorem alc (hT:m7 P T) (hm:P.follows .mixedOrders=true) {f:FuncId} {fn:Func} {c:Code} {mc:kN} {ms:List bV} {M:List Dv->Option (List Dv×List C)} (hf:P.funcs[f]? =some fn) (hb:fn.body=some c)
  (hc:iz P fn.ntmps c mc=true) (hr:mw P fn.results.toList ms=true) (hM:∀ds rs out,M ds=some (rs,out)->ds.length<=fn.ntmps/\It T mc ms ds=some (rs,out)):kP P f M:=by
 intro ds rs out mE w vals pas va
 obtain⟨hN,bK⟩:=hM ds rs out mE
 refine calls_of_wp hf hb ?_
 have r0:=R.aeP (N:=fn.ntmps) va hN
 have zT:nF ds=(gm pas).map fun p=>p.ps.map PC.er:=by
  refine Px va.l2 fun i d p hd hp=>?_
  have hv:vals[i]? =some (vals[i]'(by rw[va.l1];exact(List.getElem?_eq_some_iff.1 hd).1)):=List.getElem?_eq_getElem _
  exact(va.at_ i d _ p hd hv hp).1
 unfold It at bK
 have fin:∀{σ:St} {a:Act} {w':World} {G:Gh},σ.Bb ms ds=some (rs,out)->R w.heap.size (Co pas) w fn.ntmps σ a w' G->a.defers=[]/\∃v,(results fn a.tmps).run P w'=.ok v w'/\
   ∃(aO:List PA) (qs:List PC),aO.map (fun p=>(p.k,p.ps.map PC.er))=rs/\(Ending.returned v)=.returned (yx aO)/\qs.map PC.er=out/\JO w w' pas aO qs:=by
  intro σ a w' G hx r
  have H:=r.hr
  unfold St.Bb at hx
  split at hx
  ·rename_i vs e1
   split at hx
   ·rename_i t9 Pq e2 e3
    injection hx with hx
    injection hx with la dO
    subst la dO
    have u0:∀p,gm pas=some p->∃cs,σ.h aF=some (.box cs)/\cs.length=p.ps.length/\lV cs=some Pq/\(G.g aF).nl=false/\(G.g aF).b=p.b/\(G.g aF).o=p.o:=by
     intro p hp
     rw[zT,hp] at e3
     simp only[Option.map_some,AZ] at e3
     split at e3
     ·rename_i cs dL
      split at e3
      ·rename_i hl
       have vf:(Co pas).pK aF=some (vS p):=by
        show(if aF=aF then(gm pas).map vS else none)=_
        rw[if_pos rfl,hp];rfl
       obtain⟨q1,q2,q3,_⟩:=r.pK _ _ _ vf dL
       exact⟨cs,dL,by simpa using hl,e3,q1,q2,q3⟩
      ·cases e3
     ·cases e3
    have Ha:∀q∈pas,q.k=.ptr->∃p,gm pas=some p/\q=p:=by
     intro q hq hk
     cases hc:gm pas with
     |none=>exact absurd hk (Gc hc q hq)
     |some p=>
      obtain⟨c1,c2⟩:=B8 hc
      obtain⟨i,hi⟩:=List.getElem?_of_mem hq
      obtain⟨j,hj⟩:=List.getElem?_of_mem c1
      have:=va.one i j q p hi hj hk c2
      subst this
      rw[hi] at hj
      injection hj with hj
      exact⟨p,rfl,hj⟩
    have hE:∀b,(Co pas) b->∃p cs,gm pas=some p/\σ.h aF=some (.box cs)/\(G.g aF).nl=false/\b=(G.g aF).b:=by
     rintro b ⟨q,hq,hk,rfl⟩
     obtain⟨p,hp,rfl⟩:=Ha q hq hk
     obtain⟨cs,h1,_,_,h2,h3,_⟩:=u0 q hp
     exact⟨q,cs,hp,h1,h2,h3.symm⟩
    have pn:∀b,G.Im b->y7 w pas b:=fun b hb=>by
     rcases H.ox b hb with h1|h1|h1
     ·exact .inl h1
     ·obtain⟨p,cs,_,h2,h3,rfl⟩:=hE b h1
      exact absurd hb (H.own aF (by rw[h2];simp) h3).1
     ·exact .inr h1
    have adG:∀b,JN G σ.h b->y7 w pas b/\(∀p,gm pas=some p->b≠p.b):=by
     have aw:∀b,(∀cs,σ.h aF=some (.box cs)->(G.g aF).nl=false->b≠(G.g aF).b)->∀p,gm pas=some p->b≠p.b:=fun b hb p hp=>by
      obtain⟨cs,h1,_,_,h2,h3,_⟩:=u0 p hp
      rw[<-h3]
      exact hb cs h1 h2
     have U0:∀b,(w.heap.size<=b\/(Co pas) b)->(∀cs,σ.h aF=some (.box cs)->(G.g aF).nl=false->b≠(G.g aF).b)->y7 w pas b:=fun b hb aw=>by
      rcases hb with hb|hb
      ·exact .inl hb
      ·obtain⟨p,cs,_,h2,h3,h4⟩:=hE b hb
       exact absurd h4 (aw cs h2 h3)
     intro b hb
     rcases hb with hb|⟨n,gr,m,sz,xs,hn,hft⟩
     ·exact⟨pn b hb,aw b fun cs h1 h2 he=>(H.own aF (by rw[h1];simp) h2).1 (he▸hb)⟩
     ·have bM:σ.h n≠none:=by rw[hn];simp
      rcases hft with⟨aK,rfl⟩|hF
      ·have hd:∀cs,σ.h aF=some (.box cs)->(G.g aF).nl=false->(G.g n).b≠(G.g aF).b:=fun cs h1 h2=>
        H.inj n aF bM (by rw[h1];simp) (by rintro rfl;rw[hn] at h1;cases h1) aK h2
       exact⟨U0 _ (H.own n bM aK).2.1 hd,aw _ hd⟩
      ·have gu:=(H.row n gr m sz xs hn).mode
       cases m with
       |aA=>exact⟨pn b (gu b hF),aw b fun cs h1 h2 he=>(H.own aF (by rw[h1];simp) h2).1 (he▸gu b hF)⟩
       |ae=>exact⟨pn b (gu.1 b hF).1,aw b fun cs h1 h2 he=>(H.own aF (by rw[h1];simp) h2).1 (he▸(gu.1 b hF).1)⟩
       |live=>
        have hd:∀cs,σ.h aF=some (.box cs)->(G.g aF).nl=false->b≠(G.g aF).b:=fun cs h1 h2=>H.live n gr sz xs hn b hF aF (by rw[h1];simp) h2
        exact⟨U0 b (gu.1 b hF).2.2 hd,aw b hd⟩
    obtain⟨us,u1,u2,_,u3⟩:=Iu r hr e1
    obtain⟨qs,q1,q2,q3⟩:∃qs:List PC,qs.map PC.er=Pq/\(∀pc∈qs,Good w' pc/\∀b,aM b pc->G.Im b)/\∀p∈pas,p.k=.ptr->EY w' p.b p.o qs:=by
     cases hc:gm pas with
     |none=>
      rw[zT,hc] at e3
      simp only[Option.map_none,AZ] at e3
      injection e3 with e3
      subst e3
      exact⟨[],rfl,by simp,fun p hp hk=>absurd hk (Gc hc p hp)⟩
     |some p=>
      obtain⟨cs,h1,h2,h3,h4,h5,h6⟩:=u0 p hc
      obtain⟨TV,v1,v2⟩:=H.FU h1
      obtain⟨ps,p1,p2,p3⟩:=HR.lV h3 v1
      refine⟨ps,p1,p3,fun q hq hk j c hj=>?_⟩
      obtain⟨p',aX,rfl⟩:=Ha q hq hk
      rw[hc] at aX
      injection aX with aX
      subst aX
      rw[<-h5,<-h6]
      refine v2 j _ ?_
      rw[<-p2,List.getElem?_map,hj];rfl
    have xz:Fr w.heap.size (Uj pas) w w':=⟨r.fr.os,r.fr.tape,r.fr.output,r.fr.size,r.fr.block,r.fr.j7⟩
    have Gd:∀{t9:List Dv},pP σ.h vs=some t9->∃v,(results fn a.tmps).run P w'=.ok v w'/\
      ∃(aO:List PA) (qs:List PC),aO.map (fun p=>(p.k,p.ps.map PC.er))=t9/\(Ending.returned v)=.returned (yx aO)/\qs.map PC.er=Pq/\JO w w' pas aO qs:=by
     intro t9 hrb
     obtain⟨aO,b1,b2,b3,b4⟩:=H.pP hrb u2 u3
     refine⟨_,Iv fn a.tmps u1,aO,qs,b1,by rw[<-b2,aiN],q1,?_⟩
     exact⟨fun p hp=>(b3 p hp).2,fun p hp hk=>absurd hk (b3 p hp).1,fun p hp pc aV=>⟨(b4 p hp pc aV).1,fun b hb=>(adG b ((b4 p hp pc aV).2 b hb)).1⟩,xz,fun pc aV=>⟨(q2 pc aV).1,fun b hb=>pn b ((q2 pc aV).2 b hb)⟩,q3⟩
    refine⟨r.defers,?_⟩
    unfold Bc at e2
    split at e2
    ·rename_i v0
     split at e2
     ·rename_i n xs hbp
      split at e2
      ·cases e2
      ·rename_i zS
       injection e2 with e2
       subst e2
       obtain⟨sz,cs,rfl,hn,dL⟩:=J3 hbp
       obtain⟨nl,un,_⟩:=H.box n cs hn
       have bM:σ.h n≠none:=by rw[hn];simp
       obtain⟨o1,o2,o3⟩:=H.own n bM nl
       obtain⟨TV,v1,v2⟩:=H.FU hn
       obtain⟨ps,p1,p2,p3⟩:=HR.lV dL v1
       match us,u2 with
       |[u],_=>
        have hu:u=.pointer (some (ad (G.g n).b (G.g n).o)):=by
         have h0:=u3 0 _ u rfl rfl
         rcases h0 with h0|h0
         ·cases h0
         ·have h1:RC w' G σ.h (.ptr n 0 sz 0) u:=(h0.2 0 _ u rfl rfl).2
          simpa using(h1 bM).2
        have hB:w.heap.size<=(G.g n).b:=by
         rcases o2 with o2|o2
         ·exact o2
         ·obtain⟨p,cs',_,h2,h3,h4⟩:=hE _ o2
          exact absurd h4 (H.inj n aF bM (by rw[h2];simp) (by rintro rfl;exact zS (Nat.le_refl _)) nl h3)
        refine⟨_,Iv fn a.tmps u1,[⟨.ptr,ps,(G.g n).b,(G.g n).o⟩],qs,by simp[p1],?_,q1,?_⟩
        ·rw[hu];rfl
        ·refine⟨fun p hp hk=>?_,fun p hp hk=>?_,fun p hp pc aV=>?_,xz,fun pc aV=>⟨(q2 pc aV).1,fun b hb=>pn b ((q2 pc aV).2 b hb)⟩,q3⟩
         ·simp at hp;subst hp;cases hk
         ·simp at hp
          subst hp
          refine⟨rfl,hB,un,fun j c hj=>v2 j _ ?_,fun pc aV hb=>o1 ((p3 pc aV).2 _ hb),fun pc aV hb=>o1 ((q2 pc aV).2 _ hb)⟩
          rw[<-p2,List.getElem?_map,hj];rfl
         ·simp at hp
          subst hp
          exact⟨(p3 pc aV).1,fun b hb=>pn b ((p3 pc aV).2 b hb)⟩
     ·exact Gd e2
    ·exact Gd e2
   ·cases hx
  ·cases hx
 split at bK
 ·rename_i σ e
  exact kU hT hm mc hc e r0 fun a w' G r=>fin bK r
 ·rename_i σ e
  exact kU hT hm mc hc e r0 fun a w' G r=>fin bK r
 ·cases bK
end
end Go.Am
