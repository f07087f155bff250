/- AmW: functions whose results may share, and that may change the cells of one pointer: from code to what is said of them. No condition. -/
import Derived.Test.YtbgmbplglejidaaAm30
set_option linter.unusedVariables false
namespace Go.Am
def CS:Dv->aj
 |(.one,[x])=>.one (.c x)
 |(.one,_)=>.one .bm
 |(.agg,xs)=>.agg (xs.map .c)
 |(.ptr,_)=>.one (.ptr aK 0 0 0)
def sW:Nat->List Dv->(Nat->aj)
 |_,[]=>vJ
 |k,d::ds=>au (sW (k+1) ds) k (CS d)
def oe:List Dv->Option (List C)
 |[]=>none
 |(.ptr,xs)::_=>some xs
 |_::ds=>oe ds
def n6 (ds:List Dv):Nat->Option ao:=fun n=>match Nat.beq n aK with
 |true=>(oe ds).map fun xs=>.box (xs.map .c)
 |false=>none
def Ed (ds:List Dv):St:={env:=sW 0 ds,h:=n6 ds,used:=fun n=>Nat.ble aK n}
theorem acX (ds:List Dv) (n:Nat) (hn:aK<=n):(Ed ds).used n=true:=Nat.ble_eq_true_of_le hn
def qF (h:Nat->Option ao):List aj->Option (List Dv)
 |[]=>some []
 |v::vs=>match v.cells? with
  |some (ag,cs)=>match gG h cs,qF h vs with
   |some xs,some ds=>some ((if ag=true then .agg else .one,xs)::ds)
   |_,_=>none
  |none=>none
def B4 (h:Nat->Option ao):List aj->Option (List Dv)
 |[v]=>match lr h v with
  |some (n,xs)=>if aK<=n then none else some [(.ptr,xs)]
  |none=>qF h [v]
 |vs=>qF h vs
def BU (h:Nat->Option ao):Option (List C)->Option (List C)
 |none=>some []
 |some xs=>match h aK with
  |some (.box cs)=>if cs.length=xs.length then jB cs else none
  |_=>none
def St.B3 (σ:St) (ms:List bA) (ds:List Dv):Option (List Dv×List C):=
 match σ.rU ms with
 |some vs=>match B4 σ.h vs,BU σ.h (oe ds) with
  |some rs,some out=>some (rs,out)
  |_,_=>none
 |none=>none
def JU (T:aO) (mc:lg) (aA:List bA) (ds:List Dv):Option (List Dv×List C):=
 match dX T mc (Ed ds) with
 |some (.fG σ)=>σ.B3 aA ds
 |some (.ret σ)=>σ.B3 aA ds
 |_=>none
section
variable {B:Nat} {E:Ex} {w0 w w':World} {G G':Gh} {N:Nat} {h h':Nat->Option ao} {used:Nat->Bool}
variable {P:Program} {T:aO} {a:Act} {σ σ':St} {Q:Exit->Act->World->Prop}
theorem O7:∀(ds:List Dv) (k n:Nat),sW k ds n=if k<=n then(match ds[n - k]? with|some d=>CS d|none=>.one .bm) else .one .bm
 |[],k,n=>by simp[sW,vJ]
 |d::ds,k,n=>by
  simp only[sW,iP,O7 ds]
  by_cases h:n=k
  ·subst h;simp
  ·by_cases h2:k<=n
   ·have h3:k+1<=n:=by omega
    have h4:n - k=(n - (k+1))+1:=by omega
    simp[h,h2,h3,h4]
   ·have h3:¬k+1<=n:=by omega
    simp[h,h2,h3]
theorem Jb {ds:List Dv} {n:Nat} {b:ao} (hn:n6 ds n=some b):n=aK/\∃xs,oe ds=some xs/\b=.box (xs.map .c):=by
 unfold n6 at hn
 split at hn
 ·rename_i e
  have:=Nat.eq_of_beq_eq_true e
  subst this
  refine⟨rfl,?_⟩
  cases hp:oe ds with
  |none=>rw[hp] at hn;cases hn
  |some xs=>rw[hp] at hn;injection hn with hn;exact⟨xs,rfl,hn.symm⟩
 ·cases hn
def gM:List PA->Option PA
 |[]=>none
 |p::ps=>if p.k=.ptr then some p else gM ps
theorem C5:∀{pas:List PA} {p:PA},gM pas=some p->p∈pas/\p.k=.ptr
 |[],p,h=>by cases h
 |q::pas,p,h=>by
  unfold gM at h
  split at h
  ·injection h with h;subst h;rename_i hk;exact⟨by simp,hk⟩
  ·obtain⟨h1,h2⟩:=C5 h;exact⟨by simp[h1],h2⟩
theorem HU:∀{pas:List PA},gM pas=none->∀p∈pas,p.k≠ .ptr
 |[],_,p,hp=>by cases hp
 |q::pas,h,p,hp=>by
  unfold gM at h
  split at h
  ·cases h
  ·rename_i hk
   cases hp with
   |head=>exact hk
   |tail _ hp=>exact HU h p hp
theorem Rm:∀{ds:List Dv} {pas:List PA},pas.length=ds.length->(∀(i:Nat) (d:Dv) (p:PA),ds[i]? =some d->pas[i]? =some p->d=(p.k,p.ps.map PC.er))->oe ds=(gM pas).map fun p=>p.ps.map PC.er
 |[],[],_,_=>rfl
 |[],_::_,hl,_=>by simp at hl
 |_::_,[],hl,_=>by simp at hl
 |d::ds,p::pas,hl,hd=>by
  have h0:=hd 0 d p rfl rfl
  have ih:=Rm (ds:=ds) (pas:=pas) (by simpa using hl) (fun i d p h1 h2=>hd (i+1) d p h1 h2)
  subst h0
  obtain⟨k,ps,b,o⟩:=p
  cases k with
  |ptr=>rfl
  |one=>simpa[oe,gM] using ih
  |agg=>simpa[oe,gM] using ih
def wP (p:PA):PB:=⟨false,p.b,p.o,0,[],none⟩
def Dj (pas:List PA):Ex:=
 ⟨fun b=>∃p∈pas,p.k=.ptr/\b=p.b,fun n=>if n=aK then(gM pas).map wP else none,fun n p h=>(by
  by_cases hn:n=aK
  ·exact Nat.le_of_eq hn.symm
  ·rw[if_neg hn] at h;cases h),fun b=>∃q∈pas,∃pc∈q.ps,aS b pc⟩
def vP (pas:List PA):Gh:=⟨fun b=>∃q∈pas,∃pc∈q.ps,aS b pc,fun n=>match gM pas with|some p=>wP p|none=>default⟩
theorem R.ah0 {ds:List Dv} {vals:List Value} {pas:List PA} (va:LH w ds vals pas) (hN:ds.length<=N):
  R w.heap.size (Dj pas) w N (Ed ds) {tmps:=vals.toArray++Array.replicate (N - vals.toArray.size) undef,defers:=[]} w (vP pas):=by
 have hl:=va.l1
 have Ba:oe ds=(gM pas).map fun p=>p.ps.map PC.er:=by
  refine Rm va.l2 fun i d p hd hp=>?_
  have hv:vals[i]? =some (vals[i]'(by rw[va.l1];exact(List.getElem?_eq_some_iff.1 hd).1)):=List.getElem?_eq_getElem _
  exact(va.at_ i d _ p hd hv hp).1
 have gO:∀q∈pas,∀pc∈q.ps,Good w pc:=by
  intro q hq pc aZ
  obtain⟨i,hi,rfl⟩:=List.getElem_of_mem hq
  have hd:ds[i]? =some (ds[i]'(by rw[<-va.l2];exact hi)):=List.getElem?_eq_getElem _
  have hv:vals[i]? =some (vals[i]'(by rw[va.l1,<-va.l2];exact hi)):=List.getElem?_eq_getElem _
  exact(va.at_ i _ _ _ hd hv (List.getElem?_eq_getElem hi)).2.1 pc aZ
 have ahh:∀q∈pas,q.k=.ptr->F7 w q.b q.o q.ps/\∃v:Value,v∈vals/\v=.pointer (some (ad q.b q.o)):=by
  intro q hq hk
  obtain⟨i,hi,rfl⟩:=List.getElem_of_mem hq
  have hd:ds[i]? =some (ds[i]'(by rw[<-va.l2];exact hi)):=List.getElem?_eq_getElem _
  have hv:vals[i]? =some (vals[i]'(by rw[va.l1,<-va.l2];exact hi)):=List.getElem?_eq_getElem _
  have h3:=(va.at_ i _ _ _ hd hv (List.getElem?_eq_getElem hi)).2.2
  rw[hk] at h3
  exact⟨h3.2.2,_,List.mem_of_getElem? hv,h3.1⟩
 have cell:∀q∈pas,∀pc∈q.ps,RC w (vP pas) (n6 ds) (.c pc.er) pc.val:=fun q hq pc aZ=>⟨pc,rfl,rfl,gO q hq pc aZ,fun b hb=>⟨q,hq,pc,aZ,hb⟩⟩
 have cells:∀q∈pas,cN w (vP pas) (n6 ds) ((q.ps.map PC.er).map .c) (q.ps.map PC.val):=by
  intro q hq
  refine⟨by simp,fun j c u hj hu=>?_⟩
  simp only[List.getElem?_map,List.map_map] at hj hu
  cases hp:q.ps[j]? with
  |none=>rw[hp] at hj;cases hj
  |some pc=>
   rw[hp] at hj hu
   simp at hj hu
   subst hj hu
   exact⟨PC.kw pc,cell q hq pc (List.mem_of_getElem? hp)⟩
 refine⟨rfl,by simp;omega,fun s=>?_,fun s n hn=>?_,?_,Fr.refl _ _ _ (Nat.le_refl _),fun n p b hp hb=>?_,fun n hn=>Nat.ble_eq_true_of_le hn⟩
 ·show RA w _ (n6 ds) (sW 0 ds s) _
  rw[O7]
  simp only[Nat.zero_le,if_true,Nat.sub_zero]
  cases hs:ds[s]? with
  |none=>exact Or.inl rfl
  |some d=>
   have Zc:=(List.getElem?_eq_some_iff.1 hs).1
   have gj:s<vals.length:=by rw[hl];exact Zc
   have hv:vals[s]? =some vals[s]:=List.getElem?_eq_getElem gj
   obtain⟨q,hp⟩:∃q,pas[s]? =some q:=⟨_,List.getElem?_eq_getElem (by rw[va.l2];exact Zc)⟩
   have:(vals.toArray++Array.replicate (N - vals.toArray.size) undef).getD s undef=vals[s]:=by
    simp[Array.getD_eq_getD_getElem?,Array.getElem?_append,gj]
   rw[this]
   have ui:=List.mem_of_getElem? hp
   obtain⟨e1,e2,e3⟩:=va.at_ s d _ q hs hv hp
   generalize vals[s]=u at*
   subst e1
   obtain⟨k,ps,b,o⟩:=q
   cases k with
   |one=>
    have e3:ps.map PC.val=[u]:=e3
    obtain⟨pc,rfl⟩:∃pc,ps=[pc]:=by
     have:=congrArg List.length e3
     exact List.length_eq_one_iff.1 (by simpa using this)
    simp at e3
    rw[<-e3]
    exact RA.ga (PC.kw pc) (cell _ ui pc (by simp))
   |agg=>exact⟨_,e3,cells _ ui⟩
   |ptr=>
    have e3:u=.pointer (some (ad b o))/\_:=e3
    rw[e3.1]
    have hc:gM pas=some ⟨.ptr,ps,b,o⟩:=by
     cases hc:gM pas with
     |none=>exact absurd rfl (HU hc _ ui)
     |some p=>
      obtain⟨c1,c2⟩:=C5 hc
      obtain⟨i,hi⟩:=List.getElem?_of_mem c1
      have:=va.one i s p _ hi hp c2 rfl
      subst this
      rw[hi] at hp
      injection hp with hp
      rw[hp]
    refine RA.ga (c:=.ptr aK 0 0 0) rfl (fun _=>?_)
    simp[vP,hc,wP]
 ·have bj:(sW 0 ds s).ref n:=hn
  rw[O7] at bj
  simp only[Nat.zero_le,if_true,Nat.sub_zero] at bj
  cases hs:ds[s]? with
  |none=>rw[hs] at bj;exact absurd bj id
  |some d=>
   rw[hs] at bj
   obtain⟨k,xs⟩:=d
   cases k with
   |one=>match xs,bj with
    |[],bj=>exact absurd bj id
    |[x],bj=>exact absurd bj id
    |_::_::_,bj=>exact absurd bj id
   |agg=>
    obtain⟨c,hc,hh⟩:=bj
    obtain⟨y,_,rfl⟩:=List.mem_map.1 hc
    exact absurd hh id
   |ptr=>
    have bj:n=aK:=bj
    subst bj
    exact acX ds aK (Nat.le_refl aK)
 ·
  have Q5:∀n gr m sz xs,n6 ds n≠some (.row gr m sz xs):=fun n gr m sz xs hn=>by obtain⟨_,_,_,e⟩:=Jb hn;cases e
  have lD:∀n,n6 ds n≠none->n=aK/\∃p,gM pas=some p/\(vP pas).g n=wP p/\n6 ds n=some (.box ((p.ps.map PC.er).map .c)):=by
   intro n hn
   cases hh:n6 ds n with
   |none=>exact absurd hh hn
   |some b=>
    obtain⟨rfl,xs,e1,e2⟩:=Jb hh
    rw[Ba] at e1
    cases hc:gM pas with
    |none=>rw[hc] at e1;cases e1
    |some p=>
     rw[hc] at e1
     injection e1 with e1
     exact⟨rfl,p,rfl,by simp[vP,hc],by rw[e2,<-e1]⟩
  refine⟨fun n hn=>?_,fun m cs c n hm hc hr=>?_,fun n cs hn=>?_,fun n gr m sz xs hn=>absurd hn (Q5 _ _ _ _ _),fun n hn YX=>?_,fun n n' hn bj aB=>?_,fun b hb=>?_,fun b hb=>.inr (.inr hb),
   fun n n' gr m sz xs bk m' aJ aq hn=>absurd hn (Q5 _ _ _ _ _),fun n gr sz xs hn=>absurd hn (Q5 _ _ _ _ _),?_,?_,?_⟩
  ·obtain⟨rfl,_⟩:=lD n hn
   exact acX ds aK (Nat.le_refl aK)
  ·have bJ:n6 ds m=some (.box cs):=hm
   obtain⟨_,xs,_,e⟩:=Jb bJ
   injection e with e
   subst e
   obtain⟨x,_,rfl⟩:=List.mem_map.1 hc
   exact absurd hr id
  ·have bj:n6 ds n=some (.box cs):=hn
   obtain⟨rfl,p,c1,c2,c3⟩:=lD n (by rw[bj];simp)
   rw[bj] at c3
   injection c3 with c3
   injection c3 with c3
   subst c3
   obtain⟨m1,m2⟩:=C5 c1
   rw[c2]
   refine⟨rfl,(va.ie p m1 m2).1,fun j c hj=>?_⟩
   rw[List.getElem?_map,List.getElem?_map] at hj
   cases mF:p.ps[j]? with
   |none=>rw[mF] at hj;cases hj
   |some pc=>
    rw[mF] at hj
    simp at hj
    subst hj
    exact⟨pc.val,(ahh p m1 m2).1 j pc mF,PC.kw pc,cell p m1 pc (List.mem_of_getElem? mF)⟩
  ·obtain⟨rfl,p,c1,c2,c3⟩:=lD n hn
   obtain⟨m1,m2⟩:=C5 c1
   rw[c2]
   obtain⟨u1,u2⟩:=va.ie p m1 m2
   exact⟨fun⟨q,hq,pc,aZ,hb⟩=>u2 q hq pc aZ hb,.inr ⟨p,m1,m2,rfl⟩,u1.lt⟩
  ·obtain⟨rfl,_⟩:=lD n hn
   obtain⟨rfl,_⟩:=lD n' bj
   exact absurd rfl aB
  ·obtain⟨q,hq,pc,aZ,hb⟩:=hb
   exact(gO q hq pc aZ).lt hb
  ·intro i pc hi;simp at hi
  ·intro i j pc dg b _ hi;simp at hi
  ·intro i pc n gr m sz xs b hi;simp at hi
 ·have bi:(if n=aK then(gM pas).map wP else none)=some p:=hp
  split at bi
  ·rename_i hn
   subst hn
   cases hc:gM pas with
   |none=>rw[hc] at bi;cases bi
   |some q=>
    rw[hc] at bi
    injection bi with bi
    subst bi
    have hg:(vP pas).g aK=wP q:=by simp[vP,hc]
    rw[hg]
    refine⟨rfl,rfl,rfl,rfl,rfl,fun gr sz xs aY=>?_⟩
    have NV:n6 ds aK=some b:=hb
    obtain⟨_,_,_,e⟩:=Jb NV
    rw[e] at aY;cases aY
  ·cases bi
def LD (G:Gh) (h:Nat->Option ao) (b:Nat):Prop:=G.Im b\/∃n gr m sz xs,h n=some (.row gr m sz xs)/\rq G n b
theorem HR.ac1 (H:HR B E w G h used []):∀{cs:List ah} {xs:List C} {vs:List Value},Am.gG h cs=some xs->cN w G h cs vs->∃ps:List PC,ps.map PC.er=xs/\ps.map PC.val=vs/\∀pc∈ps,Good w pc/\∀b,aS b pc->LD G h b
 |[],xs,vs,hx,hc=>by
  simp only[Am.gG] at hx
  injection hx with hx
  subst hx
  have:vs=[]:=List.eq_nil_of_length_eq_zero (by simpa using hc.1)
  subst this
  exact⟨[],rfl,rfl,by simp⟩
 |c::cs,xs,vs,hx,hc=>by
  simp only[Am.gG] at hx
  split at hx
  ·rename_i x aq e1 e2
   injection hx with hx
   subst hx
   match vs,hc.1 with
   |v::vs,hl=>
    obtain⟨pc,a1,a2,a3,a4⟩:=H.Vs e1 (hc.2 0 c v rfl rfl).2
    obtain⟨ps,b1,b2,b3⟩:=H.ac1 (vs:=vs) e2 ⟨by simpa using hl,fun j c u h1 h2=>hc.2 (j+1) c u h1 h2⟩
    refine⟨pc::ps,by simp[a1,b1],by simp[a2,b2],fun q hq=>?_⟩
    cases hq with
    |head=>exact⟨a3,fun b hb=>(a4 b hb).imp id fun⟨n,gr,m,sz,xs,_,h1,h2⟩=>⟨n,gr,m,sz,xs,h1,h2⟩⟩
    |tail _ hq=>exact b3 q hq
  ·cases hx
theorem HR.qF (H:HR B E w G h used []):∀{vs:List aj} {ds:List Dv} {us:List Value},Am.qF h vs=some ds->us.length=vs.length->(∀(j:Nat) (x:aj) (v:Value),vs[j]? =some x->us[j]? =some v->RA w G h x v)->
  ∃aT:List PA,aT.map (fun p=>(p.k,p.ps.map PC.er))=ds/\aT.map za=us/\(∀p∈aT,p.k≠ .ptr/\(p.k=.one->p.ps.length=1))/\∀p∈aT,∀pc∈p.ps,Good w pc/\∀b,aS b pc->LD G h b
 |[],ds,us,hx,hl,hc=>by
  simp only[Am.qF] at hx
  injection hx with hx
  subst hx
  have:us=[]:=List.eq_nil_of_length_eq_zero (by simpa using hl)
  subst this
  exact⟨[],rfl,rfl,by simp,by simp⟩
 |x::vs,ds,us,hx,hl,hc=>by
  simp only[Am.qF] at hx
  split at hx
  ·rename_i ag cs j5
   split at hx
   ·rename_i xs tK e1 e2
    injection hx with hx
    subst hx
    match us,hl with
    |v::us,hl=>
     obtain⟨aT,b1,b2,b3,b4⟩:=H.qF (us:=us) e2 (by simpa using hl) (fun j x v h1 h2=>hc (j+1) x v h1 h2)
     have h0:=hc 0 x v rfl rfl
     have dM:∃vs:List Value,(if ag=true then v=.agg vs.toArray else vs=[v])/\cN w G h cs vs:=by
      cases x with
      |one c=>
       have IF:ag=false/\cs=[c]:=by cases c<;>simp[aj.cells?] at j5<;>exact⟨j5.1,j5.2.symm⟩
       obtain⟨rfl,rfl⟩:=IF
       rcases h0 with h0|h0
       ·subst h0;simp[aj.cells?] at j5
       ·exact⟨[v],rfl,h0⟩
      |agg cs'=>
       simp[aj.cells?] at j5
       obtain⟨rfl,rfl⟩:=j5
       obtain⟨vs,e,h1⟩:∃vs:List Value,v=.agg vs.toArray/\cN w G h cs' vs:=h0
       exact⟨vs,e,h1⟩
      |bn xs=>simp[aj.cells?] at j5
     obtain⟨W6,iJ,bL⟩:=dM
     obtain⟨ps,p1,p2,p3⟩:=H.ac1 e1 bL
     refine⟨⟨if ag=true then .agg else .one,ps,0,0⟩::aT,by simp[p1,b1],?_,fun p hp=>?_,fun p hp pc aZ=>?_⟩
     ·rw[List.map_cons,b2]
      congr 1
      cases ag with
      |true=>
       simp only[if_true] at iJ⊢
       rw[iJ,<-p2]
       rfl
      |false=>
       simp only[Bool.false_eq_true,if_false] at iJ⊢
       rw[<-p2] at iJ
       match ps,iJ with
       |[pc],iJ=>simp at iJ;exact iJ
     ·cases hp with
      |head=>
       cases ag with
       |true=>exact⟨by simp,fun h=>by cases h⟩
       |false=>
        simp only[Bool.false_eq_true,if_false] at iJ
        refine⟨by simp,fun _=>?_⟩
        have:(ps.map PC.val).length=1:=by rw[p2,iJ];rfl
        simpa using this
      |tail _ hp=>exact b3 p hp
     ·cases hp with
      |head=>exact p3 pc aZ
      |tail _ hp=>exact b4 p hp pc aZ
   ·cases hx
  ·cases hx
theorem amT {aT:List PA}:BV (aT.map za)=zb aT:=by
 match aT with
 |[]=>rfl
 |[p]=>rfl
 |p::q::aT=>rfl
theorem apx (hT:nH P T) (hm:P.follows .mixedOrders=true) {f:FuncId} {fn:Func} {c:Code} {mc:lg} {ms:List bA} {M:List Dv->Option (List Dv×List C)} (hf:P.funcs[f]? =some fn) (hb:fn.body=some c)
  (hc:iV P fn.ntmps c mc=true) (hr:m6 P fn.results.toList ms=true) (hM:∀ds rs out,M ds=some (rs,out)->ds.length<=fn.ntmps/\JU T mc ms ds=some (rs,out)):jM P f M:=by
 intro ds rs out nf w vals pas va
 obtain⟨hN,bU⟩:=hM ds rs out nf
 refine calls_of_wp hf hb ?_
 have r0:=R.ah0 (N:=fn.ntmps) va hN
 have Ba:oe ds=(gM pas).map fun p=>p.ps.map PC.er:=by
  refine Rm va.l2 fun i d p hd hp=>?_
  have hv:vals[i]? =some (vals[i]'(by rw[va.l1];exact(List.getElem?_eq_some_iff.1 hd).1)):=List.getElem?_eq_getElem _
  exact(va.at_ i d _ p hd hv hp).1
 unfold JU at bU
 have fin:∀{σ:St} {a:Act} {w':World} {G:Gh},σ.B3 ms ds=some (rs,out)->R w.heap.size (Dj pas) w fn.ntmps σ a w' G->a.defers=[]/\∃v,(results fn a.tmps).run P w'=.ok v w'/\
   ∃(aT:List PA) (qs:List PC),aT.map (fun p=>(p.k,p.ps.map PC.er))=rs/\(Ending.returned v)=.returned (zb aT)/\qs.map PC.er=out/\LG w w' pas aT qs:=by
  intro σ a w' G hx r
  have H:=r.hr
  unfold St.B3 at hx
  split at hx
  ·rename_i vs e1
   split at hx
   ·rename_i uZ Rd e2 e3
    injection hx with hx
    injection hx with lH eD
    subst lH eD
    have AV:∀p,gM pas=some p->∃cs,σ.h aK=some (.box cs)/\cs.length=p.ps.length/\jB cs=some Rd/\(G.g aK).nl=false/\(G.g aK).b=p.b/\(G.g aK).o=p.o:=by
     intro p hp
     rw[Ba,hp] at e3
     simp only[Option.map_some,BU] at e3
     split at e3
     ·rename_i cs ez
      split at e3
      ·rename_i hl
       have wb:(Dj pas).qA aK=some (wP p):=by
        show(if aK=aK then(gM pas).map wP else none)=_
        rw[if_pos rfl,hp];rfl
       obtain⟨q1,q2,q3,_⟩:=r.qA _ _ _ wb ez
       exact⟨cs,ez,by simpa using hl,e3,q1,q2,q3⟩
      ·cases e3
     ·cases e3
    have I1:∀q∈pas,q.k=.ptr->∃p,gM pas=some p/\q=p:=by
     intro q hq hk
     cases hc:gM pas with
     |none=>exact absurd hk (HU hc q hq)
     |some p=>
      obtain⟨c1,c2⟩:=C5 hc
      obtain⟨i,hi⟩:=List.getElem?_of_mem hq
      obtain⟨j,hj⟩:=List.getElem?_of_mem c1
      have:=va.one i j q p hi hj hk c2
      subst this
      rw[hi] at hj
      injection hj with hj
      exact⟨p,rfl,hj⟩
    have hE:∀b,(Dj pas) b->∃p cs,gM pas=some p/\σ.h aK=some (.box cs)/\(G.g aK).nl=false/\b=(G.g aK).b:=by
     rintro b ⟨q,hq,hk,rfl⟩
     obtain⟨p,hp,rfl⟩:=I1 q hq hk
     obtain⟨cs,h1,_,_,h2,h3,_⟩:=AV q hp
     exact⟨q,cs,hp,h1,h2,h3.symm⟩
    have qe:∀b,G.Im b->z9 w pas b:=fun b hb=>by
     rcases H.pf b hb with h1|h1|h1
     ·exact .inl h1
     ·obtain⟨p,cs,_,h2,h3,rfl⟩:=hE b h1
      exact absurd hb (H.own aK (by rw[h2];simp) h3).1
     ·exact .inr h1
    have ahA:∀b,LD G σ.h b->z9 w pas b/\(∀p,gM pas=some p->b≠p.b):=by
     have aB:∀b,(∀cs,σ.h aK=some (.box cs)->(G.g aK).nl=false->b≠(G.g aK).b)->∀p,gM pas=some p->b≠p.b:=fun b hb p hp=>by
      obtain⟨cs,h1,_,_,h2,h3,_⟩:=AV p hp
      rw[<-h3]
      exact hb cs h1 h2
     have Yg:∀b,(w.heap.size<=b\/(Dj pas) b)->(∀cs,σ.h aK=some (.box cs)->(G.g aK).nl=false->b≠(G.g aK).b)->z9 w pas b:=fun b hb aB=>by
      rcases hb with hb|hb
      ·exact .inl hb
      ·obtain⟨p,cs,_,h2,h3,h4⟩:=hE b hb
       exact absurd h4 (aB cs h2 h3)
     intro b hb
     rcases hb with hb|⟨n,gr,m,sz,xs,hn,hft⟩
     ·exact⟨qe b hb,aB b fun cs h1 h2 he=>(H.own aK (by rw[h1];simp) h2).1 (he▸hb)⟩
     ·have bM:σ.h n≠none:=by rw[hn];simp
      rcases hft with⟨aL,rfl⟩|hF
      ·have hd:∀cs,σ.h aK=some (.box cs)->(G.g aK).nl=false->(G.g n).b≠(G.g aK).b:=fun cs h1 h2=>
        H.inj n aK bM (by rw[h1];simp) (by rintro rfl;rw[hn] at h1;cases h1) aL h2
       exact⟨Yg _ (H.own n bM aL).2.1 hd,aB _ hd⟩
      ·have f0:=(H.row n gr m sz xs hn).mode
       cases m with
       |aD=>exact⟨qe b (f0 b hF),aB b fun cs h1 h2 he=>(H.own aK (by rw[h1];simp) h2).1 (he▸f0 b hF)⟩
       |ae=>exact⟨qe b (f0.1 b hF).1,aB b fun cs h1 h2 he=>(H.own aK (by rw[h1];simp) h2).1 (he▸(f0.1 b hF).1)⟩
       |live=>
        have hd:∀cs,σ.h aK=some (.box cs)->(G.g aK).nl=false->b≠(G.g aK).b:=fun cs h1 h2=>H.live n gr sz xs hn b hF aK (by rw[h1];simp) h2
        exact⟨Yg b (f0.1 b hF).2.2 hd,aB b hd⟩
    obtain⟨us,u1,u2,_,u3⟩:=JV r hr e1
    obtain⟨qs,q1,q2,q3⟩:∃qs:List PC,qs.map PC.er=Rd/\(∀pc∈qs,Good w' pc/\∀b,aS b pc->G.Im b)/\∀p∈pas,p.k=.ptr->F7 w' p.b p.o qs:=by
     cases hc:gM pas with
     |none=>
      rw[Ba,hc] at e3
      simp only[Option.map_none,BU] at e3
      injection e3 with e3
      subst e3
      exact⟨[],rfl,by simp,fun p hp hk=>absurd hk (HU hc p hp)⟩
     |some p=>
      obtain⟨cs,h1,h2,h3,h4,h5,h6⟩:=AV p hc
      obtain⟨W6,v1,v2⟩:=H.Hx h1
      obtain⟨ps,p1,p2,p3⟩:=HR.jB h3 v1
      refine⟨ps,p1,p3,fun q hq hk j c hj=>?_⟩
      obtain⟨p',bi,rfl⟩:=I1 q hq hk
      rw[hc] at bi
      injection bi with bi
      subst bi
      rw[<-h5,<-h6]
      refine v2 j _ ?_
      rw[<-p2,List.getElem?_map,hj];rfl
    have uf:Fr w.heap.size (Xw pas) w w':=⟨r.fr.os,r.fr.tape,r.fr.output,r.fr.size,r.fr.block,r.fr.ie⟩
    have HV:∀{uZ:List Dv},qF σ.h vs=some uZ->∃v,(results fn a.tmps).run P w'=.ok v w'/\
      ∃(aT:List PA) (qs:List PC),aT.map (fun p=>(p.k,p.ps.map PC.er))=uZ/\(Ending.returned v)=.returned (zb aT)/\qs.map PC.er=Rd/\LG w w' pas aT qs:=by
     intro uZ hrb
     obtain⟨aT,b1,b2,b3,b4⟩:=H.qF hrb u2 u3
     refine⟨_,JW fn a.tmps u1,aT,qs,b1,by rw[<-b2,amT],q1,?_⟩
     exact⟨fun p hp=>(b3 p hp).2,fun p hp hk=>absurd hk (b3 p hp).1,fun p hp pc aZ=>⟨(b4 p hp pc aZ).1,fun b hb=>(ahA b ((b4 p hp pc aZ).2 b hb)).1⟩,uf,fun pc aZ=>⟨(q2 pc aZ).1,fun b hb=>qe b ((q2 pc aZ).2 b hb)⟩,q3⟩
    refine⟨r.defers,?_⟩
    unfold B4 at e2
    split at e2
    ·rename_i v0
     split at e2
     ·rename_i n xs hbp
      split at e2
      ·cases e2
      ·rename_i yt
       injection e2 with e2
       subst e2
       obtain⟨sz,cs,rfl,hn,ez⟩:=LV hbp
       obtain⟨nl,un,_⟩:=H.box n cs hn
       have bM:σ.h n≠none:=by rw[hn];simp
       obtain⟨o1,o2,o3⟩:=H.own n bM nl
       obtain⟨W6,v1,v2⟩:=H.Hx hn
       obtain⟨ps,p1,p2,p3⟩:=HR.jB ez v1
       match us,u2 with
       |[u],_=>
        have hu:u=.pointer (some (ad (G.g n).b (G.g n).o)):=by
         have h0:=u3 0 _ u rfl rfl
         rcases h0 with h0|h0
         ·cases h0
         ·have h1:RC w' G σ.h (.ptr n 0 sz 0) u:=(h0.2 0 _ u rfl rfl).2
          simpa using(h1 bM).2
        have hB:w.heap.size<=(G.g n).b:=by
         rcases o2 with o2|o2
         ·exact o2
         ·obtain⟨p,cs',_,h2,h3,h4⟩:=hE _ o2
          exact absurd h4 (H.inj n aK bM (by rw[h2];simp) (by rintro rfl;exact yt (Nat.le_refl _)) nl h3)
        refine⟨_,JW fn a.tmps u1,[⟨.ptr,ps,(G.g n).b,(G.g n).o⟩],qs,by simp[p1],?_,q1,?_⟩
        ·rw[hu];rfl
        ·refine⟨fun p hp hk=>?_,fun p hp hk=>?_,fun p hp pc aZ=>?_,uf,fun pc aZ=>⟨(q2 pc aZ).1,fun b hb=>qe b ((q2 pc aZ).2 b hb)⟩,q3⟩
         ·simp at hp;subst hp;cases hk
         ·simp at hp
          subst hp
          refine⟨rfl,hB,un,fun j c hj=>v2 j _ ?_,fun pc aZ hb=>o1 ((p3 pc aZ).2 _ hb),fun pc aZ hb=>o1 ((q2 pc aZ).2 _ hb)⟩
          rw[<-p2,List.getElem?_map,hj];rfl
         ·simp at hp
          subst hp
          exact⟨(p3 pc aZ).1,fun b hb=>qe b ((p3 pc aZ).2 b hb)⟩
     ·exact HV e2
    ·exact HV e2
   ·cases hx
  ·cases hx
 split at bU
 ·rename_i σ e
  exact lA hT hm mc hc e r0 fun a w' G r=>fin bU r
 ·rename_i σ e
  exact lA hT hm mc hc e r0 fun a w' G r=>fin bU r
 ·cases bU
end
end Go.Am
