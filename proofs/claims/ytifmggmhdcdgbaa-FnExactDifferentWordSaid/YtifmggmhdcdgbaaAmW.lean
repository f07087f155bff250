/- AmW: functions whose results may share, and that may change the cells of one pointer: from code to what is said of them. No condition. -/
import Derived.Test.YtifmggmhdcdgbaaAm30
set_option linter.unusedVariables false
namespace Go.Am
def Cs:Dv->ai
 |(.one,[x])=>.one (.c x)
 |(.one,_)=>.one .bg
 |(.agg,xs)=>.agg (xs.map .c)
 |(.ptr,_)=>.one (.ptr aJ 0 0 0)
def sj:Nat->List Dv->(Nat->ai)
 |_,[]=>vn
 |k,d::ds=>av (sj (k+1) ds) k (Cs d)
def nN:List Dv->Option (List C)
 |[]=>none
 |(.ptr,xs)::_=>some xs
 |_::ds=>nN ds
def nB (ds:List Dv):Nat->Option ar:=fun n=>match Nat.beq n aJ with
 |true=>(nN ds).map fun xs=>.box (xs.map .c)
 |false=>none
def DO (ds:List Dv):St:={env:=sj 0 ds,h:=nB ds,used:=fun n=>Nat.ble aJ n}
theorem abW (ds:List Dv) (n:Nat) (hn:aJ<=n):(DO ds).used n=true:=Nat.ble_eq_true_of_le hn
def qa (h:Nat->Option ar):List ai->Option (List Dv)
 |[]=>some []
 |v::vs=>match v.cells? with
  |some (ag,cs)=>match f7 h cs,qa h vs with
   |some xs,some ds=>some ((if ag=true then .agg else .one,xs)::ds)
   |_,_=>none
  |none=>none
def BE (h:Nat->Option ar):List ai->Option (List Dv)
 |[v]=>match mr h v with
  |some (n,xs)=>if aJ<=n then none else some [(.ptr,xs)]
  |none=>qa h [v]
 |vs=>qa h vs
def Bq (h:Nat->Option ar):Option (List C)->Option (List C)
 |none=>some []
 |some xs=>match h aJ with
  |some (.box cs)=>if cs.length=xs.length then lN cs else none
  |_=>none
def St.BD (σ:St) (ms:List bx) (ds:List Dv):Option (List Dv×List C):=
 match σ.rl ms with
 |some vs=>match BE σ.h vs,Bq σ.h (nN ds) with
  |some rs,some out=>some (rs,out)
  |_,_=>none
 |none=>none
def J3 (T:be) (mc:kI) (aB:List bx) (ds:List Dv):Option (List Dv×List C):=
 match dw T mc (DO ds) with
 |some (.fe σ)=>σ.BD aB ds
 |some (.ret σ)=>σ.BD aB ds
 |_=>none
section
variable {B:Nat} {E:Ex} {w0 w w':World} {G G':Gh} {N:Nat} {h h':Nat->Option ar} {used:Nat->Bool}
variable {P:Program} {T:be} {a:Act} {σ σ':St} {Q:Exit->Act->World->Prop}
theorem OJ:∀(ds:List Dv) (k n:Nat),sj k ds n=if k<=n then(match ds[n - k]? with|some d=>Cs d|none=>.one .bg) else .one .bg
 |[],k,n=>by simp[sj,vn]
 |d::ds,k,n=>by
  simp only[sj,iE,OJ ds]
  by_cases h:n=k
  ·subst h;simp
  ·by_cases h2:k<=n
   ·have h3:k+1<=n:=by omega
    have h4:n - k=(n - (k+1))+1:=by omega
    simp[h,h2,h3,h4]
   ·have h3:¬k+1<=n:=by omega
    simp[h,h2,h3]
theorem I9 {ds:List Dv} {n:Nat} {b:ar} (hn:nB ds n=some b):n=aJ/\∃xs,nN ds=some xs/\b=.box (xs.map .c):=by
 unfold nB at hn
 split at hn
 ·rename_i e
  have:=Nat.eq_of_beq_eq_true e
  subst this
  refine⟨rfl,?_⟩
  cases hp:nN ds with
  |none=>rw[hp] at hn;cases hn
  |some xs=>rw[hp] at hn;injection hn with hn;exact⟨xs,rfl,hn.symm⟩
 ·cases hn
def ga:List PA->Option PA
 |[]=>none
 |p::ps=>if p.k=.ptr then some p else ga ps
theorem CE:∀{pas:List PA} {p:PA},ga pas=some p->p∈pas/\p.k=.ptr
 |[],p,h=>by cases h
 |q::pas,p,h=>by
  unfold ga at h
  split at h
  ·injection h with h;subst h;rename_i hk;exact⟨by simp,hk⟩
  ·obtain⟨h1,h2⟩:=CE h;exact⟨by simp[h1],h2⟩
theorem Hi:∀{pas:List PA},ga pas=none->∀p∈pas,p.k≠ .ptr
 |[],_,p,hp=>by cases hp
 |q::pas,h,p,hp=>by
  unfold ga at h
  split at h
  ·cases h
  ·rename_i hk
   cases hp with
   |head=>exact hk
   |tail _ hp=>exact Hi h p hp
theorem Q9:∀{ds:List Dv} {pas:List PA},pas.length=ds.length->(∀(i:Nat) (d:Dv) (p:PA),ds[i]? =some d->pas[i]? =some p->d=(p.k,p.ps.map PC.er))->nN ds=(ga pas).map fun p=>p.ps.map PC.er
 |[],[],_,_=>rfl
 |[],_::_,hl,_=>by simp at hl
 |_::_,[],hl,_=>by simp at hl
 |d::ds,p::pas,hl,hd=>by
  have h0:=hd 0 d p rfl rfl
  have ih:=Q9 (ds:=ds) (pas:=pas) (by simpa using hl) (fun i d p h1 h2=>hd (i+1) d p h1 h2)
  subst h0
  obtain⟨k,ps,b,o⟩:=p
  cases k with
  |ptr=>rfl
  |one=>simpa[nN,ga] using ih
  |agg=>simpa[nN,ga] using ih
def wF (p:PA):PB:=⟨false,p.b,p.o,0,[],none⟩
def CO (pas:List PA):Ex:=
 ⟨fun b=>∃p∈pas,p.k=.ptr/\b=p.b,fun n=>if n=aJ then(ga pas).map wF else none,fun n p h=>(by
  by_cases hn:n=aJ
  ·exact Nat.le_of_eq hn.symm
  ·rw[if_neg hn] at h;cases h),fun b=>∃q∈pas,∃pc∈q.ps,aN b pc⟩
def vt (pas:List PA):Gh:=⟨fun b=>∃q∈pas,∃pc∈q.ps,aN b pc,fun n=>match ga pas with|some p=>wF p|none=>default⟩
theorem R.aht {ds:List Dv} {vals:List Value} {pas:List PA} (va:Lw w ds vals pas) (hN:ds.length<=N):
  R w.heap.size (CO pas) w N (DO ds) {tmps:=vals.toArray++Array.replicate (N - vals.toArray.size) undef,defers:=[]} w (vt pas):=by
 have hl:=va.l1
 have Aj:nN ds=(ga pas).map fun p=>p.ps.map PC.er:=by
  refine Q9 va.l2 fun i d p hd hp=>?_
  have hv:vals[i]? =some (vals[i]'(by rw[va.l1];exact(List.getElem?_eq_some_iff.1 hd).1)):=List.getElem?_eq_getElem _
  exact(va.at_ i d _ p hd hv hp).1
 have gd:∀q∈pas,∀pc∈q.ps,Good w pc:=by
  intro q hq pc aZ
  obtain⟨i,hi,rfl⟩:=List.getElem_of_mem hq
  have hd:ds[i]? =some (ds[i]'(by rw[<-va.l2];exact hi)):=List.getElem?_eq_getElem _
  have hv:vals[i]? =some (vals[i]'(by rw[va.l1,<-va.l2];exact hi)):=List.getElem?_eq_getElem _
  exact(va.at_ i _ _ _ hd hv (List.getElem?_eq_getElem hi)).2.1 pc aZ
 have afJ:∀q∈pas,q.k=.ptr->FF w q.b q.o q.ps/\∃v:Value,v∈vals/\v=.pointer (some (ad q.b q.o)):=by
  intro q hq hk
  obtain⟨i,hi,rfl⟩:=List.getElem_of_mem hq
  have hd:ds[i]? =some (ds[i]'(by rw[<-va.l2];exact hi)):=List.getElem?_eq_getElem _
  have hv:vals[i]? =some (vals[i]'(by rw[va.l1,<-va.l2];exact hi)):=List.getElem?_eq_getElem _
  have h3:=(va.at_ i _ _ _ hd hv (List.getElem?_eq_getElem hi)).2.2
  rw[hk] at h3
  exact⟨h3.2.2,_,List.mem_of_getElem? hv,h3.1⟩
 have cell:∀q∈pas,∀pc∈q.ps,RC w (vt pas) (nB ds) (.c pc.er) pc.val:=fun q hq pc aZ=>⟨pc,rfl,rfl,gd q hq pc aZ,fun b hb=>⟨q,hq,pc,aZ,hb⟩⟩
 have cells:∀q∈pas,cj w (vt pas) (nB ds) ((q.ps.map PC.er).map .c) (q.ps.map PC.val):=by
  intro q hq
  refine⟨by simp,fun j c u hj hu=>?_⟩
  simp only[List.getElem?_map,List.map_map] at hj hu
  cases hp:q.ps[j]? with
  |none=>rw[hp] at hj;cases hj
  |some pc=>
   rw[hp] at hj hu
   simp at hj hu
   subst hj hu
   exact⟨PC.jU pc,cell q hq pc (List.mem_of_getElem? hp)⟩
 refine⟨rfl,by simp;omega,fun s=>?_,fun s n hn=>?_,?_,Fr.refl _ _ _ (Nat.le_refl _),fun n p b hp hb=>?_,fun n hn=>Nat.ble_eq_true_of_le hn⟩
 ·show RA w _ (nB ds) (sj 0 ds s) _
  rw[OJ]
  simp only[Nat.zero_le,if_true,Nat.sub_zero]
  cases hs:ds[s]? with
  |none=>exact Or.inl rfl
  |some d=>
   have XD:=(List.getElem?_eq_some_iff.1 hs).1
   have gh:s<vals.length:=by rw[hl];exact XD
   have hv:vals[s]? =some vals[s]:=List.getElem?_eq_getElem gh
   obtain⟨q,hp⟩:∃q,pas[s]? =some q:=⟨_,List.getElem?_eq_getElem (by rw[va.l2];exact XD)⟩
   have:(vals.toArray++Array.replicate (N - vals.toArray.size) undef).getD s undef=vals[s]:=by
    simp[Array.getD_eq_getD_getElem?,Array.getElem?_append,gh]
   rw[this]
   have tP:=List.mem_of_getElem? hp
   obtain⟨e1,e2,e3⟩:=va.at_ s d _ q hs hv hp
   generalize vals[s]=u at*
   subst e1
   obtain⟨k,ps,b,o⟩:=q
   cases k with
   |one=>
    have e3:ps.map PC.val=[u]:=e3
    obtain⟨pc,rfl⟩:∃pc,ps=[pc]:=by
     have:=congrArg List.length e3
     exact List.length_eq_one_iff.1 (by simpa using this)
    simp at e3
    rw[<-e3]
    exact RA.fQ (PC.jU pc) (cell _ tP pc (by simp))
   |agg=>exact⟨_,e3,cells _ tP⟩
   |ptr=>
    have e3:u=.pointer (some (ad b o))/\_:=e3
    rw[e3.1]
    have hc:ga pas=some ⟨.ptr,ps,b,o⟩:=by
     cases hc:ga pas with
     |none=>exact absurd rfl (Hi hc _ tP)
     |some p=>
      obtain⟨c1,c2⟩:=CE hc
      obtain⟨i,hi⟩:=List.getElem?_of_mem c1
      have:=va.one i s p _ hi hp c2 rfl
      subst this
      rw[hi] at hp
      injection hp with hp
      rw[hp]
    refine RA.fQ (c:=.ptr aJ 0 0 0) rfl (fun _=>?_)
    simp[vt,hc,wF]
 ·have bh:(sj 0 ds s).ref n:=hn
  rw[OJ] at bh
  simp only[Nat.zero_le,if_true,Nat.sub_zero] at bh
  cases hs:ds[s]? with
  |none=>rw[hs] at bh;exact absurd bh id
  |some d=>
   rw[hs] at bh
   obtain⟨k,xs⟩:=d
   cases k with
   |one=>match xs,bh with
    |[],bh=>exact absurd bh id
    |[x],bh=>exact absurd bh id
    |_::_::_,bh=>exact absurd bh id
   |agg=>
    obtain⟨c,hc,hh⟩:=bh
    obtain⟨y,_,rfl⟩:=List.mem_map.1 hc
    exact absurd hh id
   |ptr=>
    have bh:n=aJ:=bh
    subst bh
    exact abW ds aJ (Nat.le_refl aJ)
 ·
  have QV:∀n gr m sz xs,nB ds n≠some (.row gr m sz xs):=fun n gr m sz xs hn=>by obtain⟨_,_,_,e⟩:=I9 hn;cases e
  have kT:∀n,nB ds n≠none->n=aJ/\∃p,ga pas=some p/\(vt pas).g n=wF p/\nB ds n=some (.box ((p.ps.map PC.er).map .c)):=by
   intro n hn
   cases hh:nB ds n with
   |none=>exact absurd hh hn
   |some b=>
    obtain⟨rfl,xs,e1,e2⟩:=I9 hh
    rw[Aj] at e1
    cases hc:ga pas with
    |none=>rw[hc] at e1;cases e1
    |some p=>
     rw[hc] at e1
     injection e1 with e1
     exact⟨rfl,p,rfl,by simp[vt,hc],by rw[e2,<-e1]⟩
  refine⟨fun n hn=>?_,fun m cs c n hm hc hr=>?_,fun n cs hn=>?_,fun n gr m sz xs hn=>absurd hn (QV _ _ _ _ _),fun n hn hlf=>?_,fun n n' hn bh aA=>?_,fun b hb=>?_,fun b hb=>.inr (.inr hb),
   fun n n' gr m sz xs bf m' aK au hn=>absurd hn (QV _ _ _ _ _),fun n gr sz xs hn=>absurd hn (QV _ _ _ _ _),?_,?_,?_⟩
  ·obtain⟨rfl,_⟩:=kT n hn
   exact abW ds aJ (Nat.le_refl aJ)
  ·have bz:nB ds m=some (.box cs):=hm
   obtain⟨_,xs,_,e⟩:=I9 bz
   injection e with e
   subst e
   obtain⟨x,_,rfl⟩:=List.mem_map.1 hc
   exact absurd hr id
  ·have bh:nB ds n=some (.box cs):=hn
   obtain⟨rfl,p,c1,c2,c3⟩:=kT n (by rw[bh];simp)
   rw[bh] at c3
   injection c3 with c3
   injection c3 with c3
   subst c3
   obtain⟨m1,m2⟩:=CE c1
   rw[c2]
   refine⟨rfl,(va.jT p m1 m2).1,fun j c hj=>?_⟩
   rw[List.getElem?_map,List.getElem?_map] at hj
   cases lH:p.ps[j]? with
   |none=>rw[lH] at hj;cases hj
   |some pc=>
    rw[lH] at hj
    simp at hj
    subst hj
    exact⟨pc.val,(afJ p m1 m2).1 j pc lH,PC.jU pc,cell p m1 pc (List.mem_of_getElem? lH)⟩
  ·obtain⟨rfl,p,c1,c2,c3⟩:=kT n hn
   obtain⟨m1,m2⟩:=CE c1
   rw[c2]
   obtain⟨u1,u2⟩:=va.jT p m1 m2
   exact⟨fun⟨q,hq,pc,aZ,hb⟩=>u2 q hq pc aZ hb,.inr ⟨p,m1,m2,rfl⟩,u1.lt⟩
  ·obtain⟨rfl,_⟩:=kT n hn
   obtain⟨rfl,_⟩:=kT n' bh
   exact absurd rfl aA
  ·obtain⟨q,hq,pc,aZ,hb⟩:=hb
   exact(gd q hq pc aZ).lt hb
  ·intro i pc hi;simp at hi
  ·intro i j pc cR b _ hi;simp at hi
  ·intro i pc n gr m sz xs b hi;simp at hi
 ·have bc:(if n=aJ then(ga pas).map wF else none)=some p:=hp
  split at bc
  ·rename_i hn
   subst hn
   cases hc:ga pas with
   |none=>rw[hc] at bc;cases bc
   |some q=>
    rw[hc] at bc
    injection bc with bc
    subst bc
    have hg:(vt pas).g aJ=wF q:=by simp[vt,hc]
    rw[hg]
    refine⟨rfl,rfl,rfl,rfl,rfl,fun gr sz xs aU=>?_⟩
    have HX:nB ds aJ=some b:=hb
    obtain⟨_,_,_,e⟩:=I9 HX
    rw[e] at aU;cases aU
  ·cases bc
def Lu (G:Gh) (h:Nat->Option ar) (b:Nat):Prop:=G.Im b\/∃n gr m sz xs,h n=some (.row gr m sz xs)/\rS G n b
theorem HR.ab0 (H:HR B E w G h used []):∀{cs:List ah} {xs:List C} {vs:List Value},Am.f7 h cs=some xs->cj w G h cs vs->∃ps:List PC,ps.map PC.er=xs/\ps.map PC.val=vs/\∀pc∈ps,Good w pc/\∀b,aN b pc->Lu G h b
 |[],xs,vs,hx,hc=>by
  simp only[Am.f7] at hx
  injection hx with hx
  subst hx
  have:vs=[]:=List.eq_nil_of_length_eq_zero (by simpa using hc.1)
  subst this
  exact⟨[],rfl,rfl,by simp⟩
 |c::cs,xs,vs,hx,hc=>by
  simp only[Am.f7] at hx
  split at hx
  ·rename_i x au e1 e2
   injection hx with hx
   subst hx
   match vs,hc.1 with
   |v::vs,hl=>
    obtain⟨pc,a1,a2,a3,a4⟩:=H.UB e1 (hc.2 0 c v rfl rfl).2
    obtain⟨ps,b1,b2,b3⟩:=H.ab0 (vs:=vs) e2 ⟨by simpa using hl,fun j c u h1 h2=>hc.2 (j+1) c u h1 h2⟩
    refine⟨pc::ps,by simp[a1,b1],by simp[a2,b2],fun q hq=>?_⟩
    cases hq with
    |head=>exact⟨a3,fun b hb=>(a4 b hb).imp id fun⟨n,gr,m,sz,xs,_,h1,h2⟩=>⟨n,gr,m,sz,xs,h1,h2⟩⟩
    |tail _ hq=>exact b3 q hq
  ·cases hx
theorem HR.qa (H:HR B E w G h used []):∀{vs:List ai} {ds:List Dv} {us:List Value},Am.qa h vs=some ds->us.length=vs.length->(∀(j:Nat) (x:ai) (v:Value),vs[j]? =some x->us[j]? =some v->RA w G h x v)->
  ∃aO:List PA,aO.map (fun p=>(p.k,p.ps.map PC.er))=ds/\aO.map yQ=us/\(∀p∈aO,p.k≠ .ptr/\(p.k=.one->p.ps.length=1))/\∀p∈aO,∀pc∈p.ps,Good w pc/\∀b,aN b pc->Lu G h b
 |[],ds,us,hx,hl,hc=>by
  simp only[Am.qa] at hx
  injection hx with hx
  subst hx
  have:us=[]:=List.eq_nil_of_length_eq_zero (by simpa using hl)
  subst this
  exact⟨[],rfl,rfl,by simp,by simp⟩
 |x::vs,ds,us,hx,hl,hc=>by
  simp only[Am.qa] at hx
  split at hx
  ·rename_i ag cs jw
   split at hx
   ·rename_i xs xE e1 e2
    injection hx with hx
    subst hx
    match us,hl with
    |v::us,hl=>
     obtain⟨aO,b1,b2,b3,b4⟩:=H.qa (us:=us) e2 (by simpa using hl) (fun j x v h1 h2=>hc (j+1) x v h1 h2)
     have h0:=hc 0 x v rfl rfl
     have di:∃vs:List Value,(if ag=true then v=.agg vs.toArray else vs=[v])/\cj w G h cs vs:=by
      cases x with
      |one c=>
       have Nz:ag=false/\cs=[c]:=by cases c<;>simp[ai.cells?] at jw<;>exact⟨jw.1,jw.2.symm⟩
       obtain⟨rfl,rfl⟩:=Nz
       rcases h0 with h0|h0
       ·subst h0;simp[ai.cells?] at jw
       ·exact⟨[v],rfl,h0⟩
      |agg cs'=>
       simp[ai.cells?] at jw
       obtain⟨rfl,rfl⟩:=jw
       obtain⟨vs,e,h1⟩:∃vs:List Value,v=.agg vs.toArray/\cj w G h cs' vs:=h0
       exact⟨vs,e,h1⟩
      |bj xs=>simp[ai.cells?] at jw
     obtain⟨VR,g8,bI⟩:=di
     obtain⟨ps,p1,p2,p3⟩:=H.ab0 e1 bI
     refine⟨⟨if ag=true then .agg else .one,ps,0,0⟩::aO,by simp[p1,b1],?_,fun p hp=>?_,fun p hp pc aZ=>?_⟩
     ·rw[List.map_cons,b2]
      congr 1
      cases ag with
      |true=>
       simp only[if_true] at g8⊢
       rw[g8,<-p2]
       rfl
      |false=>
       simp only[Bool.false_eq_true,if_false] at g8⊢
       rw[<-p2] at g8
       match ps,g8 with
       |[pc],g8=>simp at g8;exact g8
     ·cases hp with
      |head=>
       cases ag with
       |true=>exact⟨by simp,fun h=>by cases h⟩
       |false=>
        simp only[Bool.false_eq_true,if_false] at g8
        refine⟨by simp,fun _=>?_⟩
        have:(ps.map PC.val).length=1:=by rw[p2,g8];rfl
        simpa using this
      |tail _ hp=>exact b3 p hp
     ·cases hp with
      |head=>exact p3 pc aZ
      |tail _ hp=>exact b4 p hp pc aZ
   ·cases hx
  ·cases hx
theorem amA {aO:List PA}:Br (aO.map yQ)=yR aO:=by
 match aO with
 |[]=>rfl
 |[p]=>rfl
 |p::q::aO=>rfl
theorem aol (hT:m8 P T) (hm:P.follows .mixedOrders=true) {f:FuncId} {fn:Func} {c:Code} {mc:kI} {ms:List bx} {M:List Dv->Option (List Dv×List C)} (hf:P.funcs[f]? =some fn) (hb:fn.body=some c)
  (hc:il P fn.ntmps c mc=true) (hr:mw P fn.results.toList ms=true) (hM:∀ds rs out,M ds=some (rs,out)->ds.length<=fn.ntmps/\J3 T mc ms ds=some (rs,out)):xr P f M:=by
 intro ds rs out mD w vals pas va
 obtain⟨hN,bm⟩:=hM ds rs out mD
 refine calls_of_wp hf hb ?_
 have r0:=R.aht (N:=fn.ntmps) va hN
 have Aj:nN ds=(ga pas).map fun p=>p.ps.map PC.er:=by
  refine Q9 va.l2 fun i d p hd hp=>?_
  have hv:vals[i]? =some (vals[i]'(by rw[va.l1];exact(List.getElem?_eq_some_iff.1 hd).1)):=List.getElem?_eq_getElem _
  exact(va.at_ i d _ p hd hv hp).1
 unfold J3 at bm
 have gb:∀{σ:St} {a:Act} {w':World} {G:Gh},σ.BD ms ds=some (rs,out)->R w.heap.size (CO pas) w fn.ntmps σ a w' G->a.defers=[]/\∃v,(results fn a.tmps).run P w'=.ok v w'/\
   ∃(aO:List PA) (qs:List PC),aO.map (fun p=>(p.k,p.ps.map PC.er))=rs/\(Ending.returned v)=.returned (yR aO)/\qs.map PC.er=out/\Lv w w' pas aO qs:=by
  intro σ a w' G hx r
  have H:=r.hr
  unfold St.BD at hx
  split at hx
  ·rename_i vs e1
   split at hx
   ·rename_i uA Q1 e2 e3
    injection hx with hx
    injection hx with kZ dK
    subst kZ dK
    have vw:∀p,ga pas=some p->∃cs,σ.h aJ=some (.box cs)/\cs.length=p.ps.length/\lN cs=some Q1/\(G.g aJ).nl=false/\(G.g aJ).b=p.b/\(G.g aJ).o=p.o:=by
     intro p hp
     rw[Aj,hp] at e3
     simp only[Option.map_some,Bq] at e3
     split at e3
     ·rename_i cs dG
      split at e3
      ·rename_i hl
       have vJ:(CO pas).pV aJ=some (wF p):=by
        show(if aJ=aJ then(ga pas).map wF else none)=_
        rw[if_pos rfl,hp];rfl
       obtain⟨q1,q2,q3,_⟩:=r.pV _ _ _ vJ dG
       exact⟨cs,dG,by simpa using hl,e3,q1,q2,q3⟩
      ·cases e3
     ·cases e3
    have Ij:∀q∈pas,q.k=.ptr->∃p,ga pas=some p/\q=p:=by
     intro q hq hk
     cases hc:ga pas with
     |none=>exact absurd hk (Hi hc q hq)
     |some p=>
      obtain⟨c1,c2⟩:=CE hc
      obtain⟨i,hi⟩:=List.getElem?_of_mem hq
      obtain⟨j,hj⟩:=List.getElem?_of_mem c1
      have:=va.one i j q p hi hj hk c2
      subst this
      rw[hi] at hj
      injection hj with hj
      exact⟨p,rfl,hj⟩
    have hE:∀b,(CO pas) b->∃p cs,ga pas=some p/\σ.h aJ=some (.box cs)/\(G.g aJ).nl=false/\b=(G.g aJ).b:=by
     rintro b ⟨q,hq,hk,rfl⟩
     obtain⟨p,hp,rfl⟩:=Ij q hq hk
     obtain⟨cs,h1,_,_,h2,h3,_⟩:=vw q hp
     exact⟨q,cs,hp,h1,h2,h3.symm⟩
    have pA:∀b,G.Im b->zw w pas b:=fun b hb=>by
     rcases H.oH b hb with h1|h1|h1
     ·exact .inl h1
     ·obtain⟨p,cs,_,h2,h3,rfl⟩:=hE b h1
      exact absurd hb (H.own aJ (by rw[h2];simp) h3).1
     ·exact .inr h1
    have af3:∀b,Lu G σ.h b->zw w pas b/\(∀p,ga pas=some p->b≠p.b):=by
     have aA:∀b,(∀cs,σ.h aJ=some (.box cs)->(G.g aJ).nl=false->b≠(G.g aJ).b)->∀p,ga pas=some p->b≠p.b:=fun b hb p hp=>by
      obtain⟨cs,h1,_,_,h2,h3,_⟩:=vw p hp
      rw[<-h3]
      exact hb cs h1 h2
     have WV:∀b,(w.heap.size<=b\/(CO pas) b)->(∀cs,σ.h aJ=some (.box cs)->(G.g aJ).nl=false->b≠(G.g aJ).b)->zw w pas b:=fun b hb aA=>by
      rcases hb with hb|hb
      ·exact .inl hb
      ·obtain⟨p,cs,_,h2,h3,h4⟩:=hE b hb
       exact absurd h4 (aA cs h2 h3)
     intro b hb
     rcases hb with hb|⟨n,gr,m,sz,xs,hn,hft⟩
     ·exact⟨pA b hb,aA b fun cs h1 h2 he=>(H.own aJ (by rw[h1];simp) h2).1 (he▸hb)⟩
     ·have bF:σ.h n≠none:=by rw[hn];simp
      rcases hft with⟨aL,rfl⟩|hF
      ·have hd:∀cs,σ.h aJ=some (.box cs)->(G.g aJ).nl=false->(G.g n).b≠(G.g aJ).b:=fun cs h1 h2=>
        H.inj n aJ bF (by rw[h1];simp) (by rintro rfl;rw[hn] at h1;cases h1) aL h2
       exact⟨WV _ (H.own n bF aL).2.1 hd,aA _ hd⟩
      ·have gf:=(H.row n gr m sz xs hn).mode
       cases m with
       |aE=>exact⟨pA b (gf b hF),aA b fun cs h1 h2 he=>(H.own aJ (by rw[h1];simp) h2).1 (he▸gf b hF)⟩
       |aa=>exact⟨pA b (gf.1 b hF).1,aA b fun cs h1 h2 he=>(H.own aJ (by rw[h1];simp) h2).1 (he▸(gf.1 b hF).1)⟩
       |live=>
        have hd:∀cs,σ.h aJ=some (.box cs)->(G.g aJ).nl=false->b≠(G.g aJ).b:=fun cs h1 h2=>H.live n gr sz xs hn b hF aJ (by rw[h1];simp) h2
        exact⟨WV b (gf.1 b hF).2.2 hd,aA b hd⟩
    obtain⟨us,u1,u2,_,u3⟩:=J5 r hr e1
    obtain⟨qs,q1,q2,q3⟩:∃qs:List PC,qs.map PC.er=Q1/\(∀pc∈qs,Good w' pc/\∀b,aN b pc->G.Im b)/\∀p∈pas,p.k=.ptr->FF w' p.b p.o qs:=by
     cases hc:ga pas with
     |none=>
      rw[Aj,hc] at e3
      simp only[Option.map_none,Bq] at e3
      injection e3 with e3
      subst e3
      exact⟨[],rfl,by simp,fun p hp hk=>absurd hk (Hi hc p hp)⟩
     |some p=>
      obtain⟨cs,h1,h2,h3,h4,h5,h6⟩:=vw p hc
      obtain⟨VR,v1,v2⟩:=H.GV h1
      obtain⟨ps,p1,p2,p3⟩:=HR.lN h3 v1
      refine⟨ps,p1,p3,fun q hq hk j c hj=>?_⟩
      obtain⟨p',bc,rfl⟩:=Ij q hq hk
      rw[hc] at bc
      injection bc with bc
      subst bc
      rw[<-h5,<-h6]
      refine v2 j _ ?_
      rw[<-p2,List.getElem?_map,hj];rfl
    have x6:Fr w.heap.size (We pas) w w':=⟨r.fr.os,r.fr.tape,r.fr.output,r.fr.size,r.fr.block,r.fr.jT⟩
    have Hj:∀{uA:List Dv},qa σ.h vs=some uA->∃v,(results fn a.tmps).run P w'=.ok v w'/\
      ∃(aO:List PA) (qs:List PC),aO.map (fun p=>(p.k,p.ps.map PC.er))=uA/\(Ending.returned v)=.returned (yR aO)/\qs.map PC.er=Q1/\Lv w w' pas aO qs:=by
     intro uA hrb
     obtain⟨aO,b1,b2,b3,b4⟩:=H.qa hrb u2 u3
     refine⟨_,J6 fn a.tmps u1,aO,qs,b1,by rw[<-b2,amA],q1,?_⟩
     exact⟨fun p hp=>(b3 p hp).2,fun p hp hk=>absurd hk (b3 p hp).1,fun p hp pc aZ=>⟨(b4 p hp pc aZ).1,fun b hb=>(af3 b ((b4 p hp pc aZ).2 b hb)).1⟩,x6,fun pc aZ=>⟨(q2 pc aZ).1,fun b hb=>pA b ((q2 pc aZ).2 b hb)⟩,q3⟩
    refine⟨r.defers,?_⟩
    unfold BE at e2
    split at e2
    ·rename_i v0
     split at e2
     ·rename_i n xs hbp
      split at e2
      ·cases e2
      ·rename_i Ai
       injection e2 with e2
       subst e2
       obtain⟨sz,cs,rfl,hn,dG⟩:=LH hbp
       obtain⟨nl,un,_⟩:=H.box n cs hn
       have bF:σ.h n≠none:=by rw[hn];simp
       obtain⟨o1,o2,o3⟩:=H.own n bF nl
       obtain⟨VR,v1,v2⟩:=H.GV hn
       obtain⟨ps,p1,p2,p3⟩:=HR.lN dG v1
       match us,u2 with
       |[u],_=>
        have hu:u=.pointer (some (ad (G.g n).b (G.g n).o)):=by
         have h0:=u3 0 _ u rfl rfl
         rcases h0 with h0|h0
         ·cases h0
         ·have h1:RC w' G σ.h (.ptr n 0 sz 0) u:=(h0.2 0 _ u rfl rfl).2
          simpa using(h1 bF).2
        have hB:w.heap.size<=(G.g n).b:=by
         rcases o2 with o2|o2
         ·exact o2
         ·obtain⟨p,cs',_,h2,h3,h4⟩:=hE _ o2
          exact absurd h4 (H.inj n aJ bF (by rw[h2];simp) (by rintro rfl;exact Ai (Nat.le_refl _)) nl h3)
        refine⟨_,J6 fn a.tmps u1,[⟨.ptr,ps,(G.g n).b,(G.g n).o⟩],qs,by simp[p1],?_,q1,?_⟩
        ·rw[hu];rfl
        ·refine⟨fun p hp hk=>?_,fun p hp hk=>?_,fun p hp pc aZ=>?_,x6,fun pc aZ=>⟨(q2 pc aZ).1,fun b hb=>pA b ((q2 pc aZ).2 b hb)⟩,q3⟩
         ·simp at hp;subst hp;cases hk
         ·simp at hp
          subst hp
          refine⟨rfl,hB,un,fun j c hj=>v2 j _ ?_,fun pc aZ hb=>o1 ((p3 pc aZ).2 _ hb),fun pc aZ hb=>o1 ((q2 pc aZ).2 _ hb)⟩
          rw[<-p2,List.getElem?_map,hj];rfl
         ·simp at hp
          subst hp
          exact⟨(p3 pc aZ).1,fun b hb=>pA b ((p3 pc aZ).2 b hb)⟩
     ·exact Hj e2
    ·exact Hj e2
   ·cases hx
  ·cases hx
 split at bm
 ·rename_i σ e
  exact kO hT hm mc hc e r0 fun a w' G r=>gb bm r
 ·rename_i σ e
  exact kO hT hm mc hc e r0 fun a w' G r=>gb bm r
 ·cases bm
end
end Go.Am
