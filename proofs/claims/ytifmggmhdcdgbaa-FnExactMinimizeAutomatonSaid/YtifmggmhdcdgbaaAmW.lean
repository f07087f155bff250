/- AmW: functions whose results may share, and that may change the cells of one pointer: from code to what is said of them. No condition. -/
import Derived.Test.YtifmggmhdcdgbaaAm30
set_option linter.unusedVariables false
namespace Go.Am
def BX:Dv->aj
 |(.one,[x])=>.one (.c x)
 |(.one,_)=>.one .bj
 |(.agg,xs)=>.agg (xs.map .c)
 |(.ptr,_)=>.one (.ptr aI 0 0 0)
def sH:Nat->List Dv->(Nat->aj)
 |_,[]=>vm
 |k,d::ds=>av (sH (k+1) ds) k (BX d)
def oz:List Dv->Option (List C)
 |[]=>none
 |(.ptr,xs)::_=>some xs
 |_::ds=>oz ds
def od (ds:List Dv):Nat->Option aq:=fun n=>match Nat.beq n aI with
 |true=>(oz ds).map fun xs=>.box (xs.map .c)
 |false=>none
def Dd (ds:List Dv):St:={env:=sH 0 ds,h:=od ds,used:=fun n=>Nat.ble aI n}
theorem aag (ds:List Dv) (n:Nat) (hn:aI<=n):(Dd ds).used n=true:=Nat.ble_eq_true_of_le hn
def qx (h:Nat->Option aq):List aj->Option (List Dv)
 |[]=>some []
 |v::vs=>match v.cells? with
  |some (ag,cs)=>match gE h cs,qx h vs with
   |some xs,some ds=>some ((if ag=true then .agg else .one,xs)::ds)
   |_,_=>none
  |none=>none
def Bc (h:Nat->Option aq):List aj->Option (List Dv)
 |[v]=>match m8 h v with
  |some (n,xs)=>if aI<=n then none else some [(.ptr,xs)]
  |none=>qx h [v]
 |vs=>qx h vs
def AY (h:Nat->Option aq):Option (List C)->Option (List C)
 |none=>some []
 |some xs=>match h aI with
  |some (.box cs)=>if cs.length=xs.length then mI cs else none
  |_=>none
def St.Bb (σ:St) (ms:List bA) (ds:List Dv):Option (List Dv×List C):=
 match σ.rz ms with
 |some vs=>match Bc σ.h vs,AY σ.h (oz ds) with
  |some rs,some out=>some (rs,out)
  |_,_=>none
 |none=>none
def IJ (T:bh) (mc:lz) (aB:List bA) (ds:List Dv):Option (List Dv×List C):=
 match dK T mc (Dd ds) with
 |some (.fC σ)=>σ.Bb aB ds
 |some (.ret σ)=>σ.Bb aB ds
 |_=>none
section
variable {B:Nat} {E:Ex} {w0 w w':World} {G G':Gh} {N:Nat} {h h':Nat->Option aq} {used:Nat->Bool}
variable {P:Program} {T:bh} {a:Act} {σ σ':St} {Q:Exit->Act->World->Prop}
theorem NA:∀(ds:List Dv) (k n:Nat),sH k ds n=if k<=n then(match ds[n - k]? with|some d=>BX d|none=>.one .bj) else .one .bj
 |[],k,n=>by simp[sH,vm]
 |d::ds,k,n=>by
  simp only[sH,jp,NA ds]
  by_cases h:n=k
  ·subst h;simp
  ·by_cases h2:k<=n
   ·have h3:k+1<=n:=by omega
    have h4:n - k=(n - (k+1))+1:=by omega
    simp[h,h2,h3,h4]
   ·have h3:¬k+1<=n:=by omega
    simp[h,h2,h3]
theorem HM {ds:List Dv} {n:Nat} {b:aq} (hn:od ds n=some b):n=aI/\∃xs,oz ds=some xs/\b=.box (xs.map .c):=by
 unfold od at hn
 split at hn
 ·rename_i e
  have:=Nat.eq_of_beq_eq_true e
  subst this
  refine⟨rfl,?_⟩
  cases hp:oz ds with
  |none=>rw[hp] at hn;cases hn
  |some xs=>rw[hp] at hn;injection hn with hn;exact⟨xs,rfl,hn.symm⟩
 ·cases hn
def gH:List PA->Option PA
 |[]=>none
 |p::ps=>if p.k=.ptr then some p else gH ps
theorem B6:∀{pas:List PA} {p:PA},gH pas=some p->p∈pas/\p.k=.ptr
 |[],p,h=>by cases h
 |q::pas,p,h=>by
  unfold gH at h
  split at h
  ·injection h with h;subst h;rename_i hk;exact⟨by simp,hk⟩
  ·obtain⟨h1,h2⟩:=B6 h;exact⟨by simp[h1],h2⟩
theorem GA:∀{pas:List PA},gH pas=none->∀p∈pas,p.k≠ .ptr
 |[],_,p,hp=>by cases hp
 |q::pas,h,p,hp=>by
  unfold gH at h
  split at h
  ·cases h
  ·rename_i hk
   cases hp with
   |head=>exact hk
   |tail _ hp=>exact GA h p hp
theorem PO:∀{ds:List Dv} {pas:List PA},pas.length=ds.length->(∀(i:Nat) (d:Dv) (p:PA),ds[i]? =some d->pas[i]? =some p->d=(p.k,p.ps.map PC.er))->oz ds=(gH pas).map fun p=>p.ps.map PC.er
 |[],[],_,_=>rfl
 |[],_::_,hl,_=>by simp at hl
 |_::_,[],hl,_=>by simp at hl
 |d::ds,p::pas,hl,hd=>by
  have h0:=hd 0 d p rfl rfl
  have ih:=PO (ds:=ds) (pas:=pas) (by simpa using hl) (fun i d p h1 h2=>hd (i+1) d p h1 h2)
  subst h0
  obtain⟨k,ps,b,o⟩:=p
  cases k with
  |ptr=>rfl
  |one=>simpa[oz,gH] using ih
  |agg=>simpa[oz,gH] using ih
def wq (p:PA):PB:=⟨false,p.b,p.o,0,[],none⟩
def Cg (pas:List PA):Ex:=
 ⟨fun b=>∃p∈pas,p.k=.ptr/\b=p.b,fun n=>if n=aI then(gH pas).map wq else none,fun n p h=>(by
  by_cases hn:n=aI
  ·exact Nat.le_of_eq hn.symm
  ·rw[if_neg hn] at h;cases h),fun b=>∃q∈pas,∃pc∈q.ps,aR b pc⟩
def vr (pas:List PA):Gh:=⟨fun b=>∃q∈pas,∃pc∈q.ps,aR b pc,fun n=>match gH pas with|some p=>wq p|none=>default⟩
theorem R.aeQ {ds:List Dv} {vals:List Value} {pas:List PA} (va:Ko w ds vals pas) (hN:ds.length<=N):
  R w.heap.size (Cg pas) w N (Dd ds) {tmps:=vals.toArray++Array.replicate (N - vals.toArray.size) undef,defers:=[]} w (vr pas):=by
 have hl:=va.l1
 have z3:oz ds=(gH pas).map fun p=>p.ps.map PC.er:=by
  refine PO va.l2 fun i d p hd hp=>?_
  have hv:vals[i]? =some (vals[i]'(by rw[va.l1];exact(List.getElem?_eq_some_iff.1 hd).1)):=List.getElem?_eq_getElem _
  exact(va.at_ i d _ p hd hv hp).1
 have gJ:∀q∈pas,∀pc∈q.ps,Good w pc:=by
  intro q hq pc bd
  obtain⟨i,hi,rfl⟩:=List.getElem_of_mem hq
  have hd:ds[i]? =some (ds[i]'(by rw[<-va.l2];exact hi)):=List.getElem?_eq_getElem _
  have hv:vals[i]? =some (vals[i]'(by rw[va.l1,<-va.l2];exact hi)):=List.getElem?_eq_getElem _
  exact(va.at_ i _ _ _ hd hv (List.getElem?_eq_getElem hi)).2.1 pc bd
 have ad1:∀q∈pas,q.k=.ptr->EV w q.b q.o q.ps/\∃v:Value,v∈vals/\v=.pointer (some (ad q.b q.o)):=by
  intro q hq hk
  obtain⟨i,hi,rfl⟩:=List.getElem_of_mem hq
  have hd:ds[i]? =some (ds[i]'(by rw[<-va.l2];exact hi)):=List.getElem?_eq_getElem _
  have hv:vals[i]? =some (vals[i]'(by rw[va.l1,<-va.l2];exact hi)):=List.getElem?_eq_getElem _
  have h3:=(va.at_ i _ _ _ hd hv (List.getElem?_eq_getElem hi)).2.2
  rw[hk] at h3
  exact⟨h3.2.2,_,List.mem_of_getElem? hv,h3.1⟩
 have cell:∀q∈pas,∀pc∈q.ps,RC w (vr pas) (od ds) (.c pc.er) pc.val:=fun q hq pc bd=>⟨pc,rfl,rfl,gJ q hq pc bd,fun b hb=>⟨q,hq,pc,bd,hb⟩⟩
 have cells:∀q∈pas,cA w (vr pas) (od ds) ((q.ps.map PC.er).map .c) (q.ps.map PC.val):=by
  intro q hq
  refine⟨by simp,fun j c u hj hu=>?_⟩
  simp only[List.getElem?_map,List.map_map] at hj hu
  cases hp:q.ps[j]? with
  |none=>rw[hp] at hj;cases hj
  |some pc=>
   rw[hp] at hj hu
   simp at hj hu
   subst hj hu
   exact⟨PC.kI pc,cell q hq pc (List.mem_of_getElem? hp)⟩
 refine⟨rfl,by simp;omega,fun s=>?_,fun s n hn=>?_,?_,Fr.refl _ _ _ (Nat.le_refl _),fun n p b hp hb=>?_,fun n hn=>Nat.ble_eq_true_of_le hn⟩
 ·show RA w _ (od ds) (sH 0 ds s) _
  rw[NA]
  simp only[Nat.zero_le,if_true,Nat.sub_zero]
  cases hs:ds[s]? with
  |none=>exact Or.inl rfl
  |some d=>
   have Wn:=(List.getElem?_eq_some_iff.1 hs).1
   have gL:s<vals.length:=by rw[hl];exact Wn
   have hv:vals[s]? =some vals[s]:=List.getElem?_eq_getElem gL
   obtain⟨q,hp⟩:∃q,pas[s]? =some q:=⟨_,List.getElem?_eq_getElem (by rw[va.l2];exact Wn)⟩
   have:(vals.toArray++Array.replicate (N - vals.toArray.size) undef).getD s undef=vals[s]:=by
    simp[Array.getD_eq_getD_getElem?,Array.getElem?_append,gL]
   rw[this]
   have tT:=List.mem_of_getElem? hp
   obtain⟨e1,e2,e3⟩:=va.at_ s d _ q hs hv hp
   generalize vals[s]=u at*
   subst e1
   obtain⟨k,ps,b,o⟩:=q
   cases k with
   |one=>
    have e3:ps.map PC.val=[u]:=e3
    obtain⟨pc,rfl⟩:∃pc,ps=[pc]:=by
     have:=congrArg List.length e3
     exact List.length_eq_one_iff.1 (by simpa using this)
    simp at e3
    rw[<-e3]
    exact RA.gp (PC.kI pc) (cell _ tT pc (by simp))
   |agg=>exact⟨_,e3,cells _ tT⟩
   |ptr=>
    have e3:u=.pointer (some (ad b o))/\_:=e3
    rw[e3.1]
    have hc:gH pas=some ⟨.ptr,ps,b,o⟩:=by
     cases hc:gH pas with
     |none=>exact absurd rfl (GA hc _ tT)
     |some p=>
      obtain⟨c1,c2⟩:=B6 hc
      obtain⟨i,hi⟩:=List.getElem?_of_mem c1
      have:=va.one i s p _ hi hp c2 rfl
      subst this
      rw[hi] at hp
      injection hp with hp
      rw[hp]
    refine RA.gp (c:=.ptr aI 0 0 0) rfl (fun _=>?_)
    simp[vr,hc,wq]
 ·have bn:(sH 0 ds s).ref n:=hn
  rw[NA] at bn
  simp only[Nat.zero_le,if_true,Nat.sub_zero] at bn
  cases hs:ds[s]? with
  |none=>rw[hs] at bn;exact absurd bn id
  |some d=>
   rw[hs] at bn
   obtain⟨k,xs⟩:=d
   cases k with
   |one=>match xs,bn with
    |[],bn=>exact absurd bn id
    |[x],bn=>exact absurd bn id
    |_::_::_,bn=>exact absurd bn id
   |agg=>
    obtain⟨c,hc,hh⟩:=bn
    obtain⟨y,_,rfl⟩:=List.mem_map.1 hc
    exact absurd hh id
   |ptr=>
    have bn:n=aI:=bn
    subst bn
    exact aag ds aI (Nat.le_refl aI)
 ·
  have Pz:∀n gr m sz xs,od ds n≠some (.row gr m sz xs):=fun n gr m sz xs hn=>by obtain⟨_,_,_,e⟩:=HM hn;cases e
  have lL:∀n,od ds n≠none->n=aI/\∃p,gH pas=some p/\(vr pas).g n=wq p/\od ds n=some (.box ((p.ps.map PC.er).map .c)):=by
   intro n hn
   cases hh:od ds n with
   |none=>exact absurd hh hn
   |some b=>
    obtain⟨rfl,xs,e1,e2⟩:=HM hh
    rw[z3] at e1
    cases hc:gH pas with
    |none=>rw[hc] at e1;cases e1
    |some p=>
     rw[hc] at e1
     injection e1 with e1
     exact⟨rfl,p,rfl,by simp[vr,hc],by rw[e2,<-e1]⟩
  refine⟨fun n hn=>?_,fun m cs c n hm hc hr=>?_,fun n cs hn=>?_,fun n gr m sz xs hn=>absurd hn (Pz _ _ _ _ _),fun n hn hlf=>?_,fun n n' hn bn aC=>?_,fun b hb=>?_,fun b hb=>.inr (.inr hb),
   fun n n' gr m sz xs bi m' aK ar hn=>absurd hn (Pz _ _ _ _ _),fun n gr sz xs hn=>absurd hn (Pz _ _ _ _ _),?_,?_,?_⟩
  ·obtain⟨rfl,_⟩:=lL n hn
   exact aag ds aI (Nat.le_refl aI)
  ·have bE:od ds m=some (.box cs):=hm
   obtain⟨_,xs,_,e⟩:=HM bE
   injection e with e
   subst e
   obtain⟨x,_,rfl⟩:=List.mem_map.1 hc
   exact absurd hr id
  ·have bn:od ds n=some (.box cs):=hn
   obtain⟨rfl,p,c1,c2,c3⟩:=lL n (by rw[bn];simp)
   rw[bn] at c3
   injection c3 with c3
   injection c3 with c3
   subst c3
   obtain⟨m1,m2⟩:=B6 c1
   rw[c2]
   refine⟨rfl,(va.kH p m1 m2).1,fun j c hj=>?_⟩
   rw[List.getElem?_map,List.getElem?_map] at hj
   cases mD:p.ps[j]? with
   |none=>rw[mD] at hj;cases hj
   |some pc=>
    rw[mD] at hj
    simp at hj
    subst hj
    exact⟨pc.val,(ad1 p m1 m2).1 j pc mD,PC.kI pc,cell p m1 pc (List.mem_of_getElem? mD)⟩
  ·obtain⟨rfl,p,c1,c2,c3⟩:=lL n hn
   obtain⟨m1,m2⟩:=B6 c1
   rw[c2]
   obtain⟨u1,u2⟩:=va.kH p m1 m2
   exact⟨fun⟨q,hq,pc,bd,hb⟩=>u2 q hq pc bd hb,.inr ⟨p,m1,m2,rfl⟩,u1.lt⟩
  ·obtain⟨rfl,_⟩:=lL n hn
   obtain⟨rfl,_⟩:=lL n' bn
   exact absurd rfl aC
  ·obtain⟨q,hq,pc,bd,hb⟩:=hb
   exact(gJ q hq pc bd).lt hb
  ·intro i pc hi;simp at hi
  ·intro i j pc df b _ hi;simp at hi
  ·intro i pc n gr m sz xs b hi;simp at hi
 ·have be:(if n=aI then(gH pas).map wq else none)=some p:=hp
  split at be
  ·rename_i hn
   subst hn
   cases hc:gH pas with
   |none=>rw[hc] at be;cases be
   |some q=>
    rw[hc] at be
    injection be with be
    subst be
    have hg:(vr pas).g aI=wq q:=by simp[vr,hc]
    rw[hg]
    refine⟨rfl,rfl,rfl,rfl,rfl,fun gr sz xs aX=>?_⟩
    have Mi:od ds aI=some b:=hb
    obtain⟨_,_,_,e⟩:=HM Mi
    rw[e] at aX;cases aX
  ·cases be
def Km (G:Gh) (h:Nat->Option aq) (b:Nat):Prop:=G.Im b\/∃n gr m sz xs,h n=some (.row gr m sz xs)/\sf G n b
theorem HR.aak (H:HR B E w G h used []):∀{cs:List ah} {xs:List C} {vs:List Value},Am.gE h cs=some xs->cA w G h cs vs->∃ps:List PC,ps.map PC.er=xs/\ps.map PC.val=vs/\∀pc∈ps,Good w pc/\∀b,aR b pc->Km G h b
 |[],xs,vs,hx,hc=>by
  simp only[Am.gE] at hx
  injection hx with hx
  subst hx
  have:vs=[]:=List.eq_nil_of_length_eq_zero (by simpa using hc.1)
  subst this
  exact⟨[],rfl,rfl,by simp⟩
 |c::cs,xs,vs,hx,hc=>by
  simp only[Am.gE] at hx
  split at hx
  ·rename_i x ar e1 e2
   injection hx with hx
   subst hx
   match vs,hc.1 with
   |v::vs,hl=>
    obtain⟨pc,a1,a2,a3,a4⟩:=H.Tp e1 (hc.2 0 c v rfl rfl).2
    obtain⟨ps,b1,b2,b3⟩:=H.aak (vs:=vs) e2 ⟨by simpa using hl,fun j c u h1 h2=>hc.2 (j+1) c u h1 h2⟩
    refine⟨pc::ps,by simp[a1,b1],by simp[a2,b2],fun q hq=>?_⟩
    cases hq with
    |head=>exact⟨a3,fun b hb=>(a4 b hb).imp id fun⟨n,gr,m,sz,xs,_,h1,h2⟩=>⟨n,gr,m,sz,xs,h1,h2⟩⟩
    |tail _ hq=>exact b3 q hq
  ·cases hx
theorem HR.qx (H:HR B E w G h used []):∀{vs:List aj} {ds:List Dv} {us:List Value},Am.qx h vs=some ds->us.length=vs.length->(∀(j:Nat) (x:aj) (v:Value),vs[j]? =some x->us[j]? =some v->RA w G h x v)->
  ∃aU:List PA,aU.map (fun p=>(p.k,p.ps.map PC.er))=ds/\aU.map yA=us/\(∀p∈aU,p.k≠ .ptr/\(p.k=.one->p.ps.length=1))/\∀p∈aU,∀pc∈p.ps,Good w pc/\∀b,aR b pc->Km G h b
 |[],ds,us,hx,hl,hc=>by
  simp only[Am.qx] at hx
  injection hx with hx
  subst hx
  have:us=[]:=List.eq_nil_of_length_eq_zero (by simpa using hl)
  subst this
  exact⟨[],rfl,rfl,by simp,by simp⟩
 |x::vs,ds,us,hx,hl,hc=>by
  simp only[Am.qx] at hx
  split at hx
  ·rename_i ag cs ki
   split at hx
   ·rename_i xs xo e1 e2
    injection hx with hx
    subst hx
    match us,hl with
    |v::us,hl=>
     obtain⟨aU,b1,b2,b3,b4⟩:=H.qx (us:=us) e2 (by simpa using hl) (fun j x v h1 h2=>hc (j+1) x v h1 h2)
     have h0:=hc 0 x v rfl rfl
     have dh:∃vs:List Value,(if ag=true then v=.agg vs.toArray else vs=[v])/\cA w G h cs vs:=by
      cases x with
      |one c=>
       have Ms:ag=false/\cs=[c]:=by cases c<;>simp[aj.cells?] at ki<;>exact⟨ki.1,ki.2.symm⟩
       obtain⟨rfl,rfl⟩:=Ms
       rcases h0 with h0|h0
       ·subst h0;simp[aj.cells?] at ki
       ·exact⟨[v],rfl,h0⟩
      |agg cs'=>
       simp[aj.cells?] at ki
       obtain⟨rfl,rfl⟩:=ki
       obtain⟨vs,e,h1⟩:∃vs:List Value,v=.agg vs.toArray/\cA w G h cs' vs:=h0
       exact⟨vs,e,h1⟩
      |bk xs=>simp[aj.cells?] at ki
     obtain⟨UD,iJ,bQ⟩:=dh
     obtain⟨ps,p1,p2,p3⟩:=H.aak e1 bQ
     refine⟨⟨if ag=true then .agg else .one,ps,0,0⟩::aU,by simp[p1,b1],?_,fun p hp=>?_,fun p hp pc bd=>?_⟩
     ·rw[List.map_cons,b2]
      congr 1
      cases ag with
      |true=>
       simp only[if_true] at iJ⊢
       rw[iJ,<-p2]
       rfl
      |false=>
       simp only[Bool.false_eq_true,if_false] at iJ⊢
       rw[<-p2] at iJ
       match ps,iJ with
       |[pc],iJ=>simp at iJ;exact iJ
     ·cases hp with
      |head=>
       cases ag with
       |true=>exact⟨by simp,fun h=>by cases h⟩
       |false=>
        simp only[Bool.false_eq_true,if_false] at iJ
        refine⟨by simp,fun _=>?_⟩
        have:(ps.map PC.val).length=1:=by rw[p2,iJ];rfl
        simpa using this
      |tail _ hp=>exact b3 p hp
     ·cases hp with
      |head=>exact p3 pc bd
      |tail _ hp=>exact b4 p hp pc bd
   ·cases hx
  ·cases hx
theorem ajt {aU:List PA}:A3 (aU.map yA)=yB aU:=by
 match aU with
 |[]=>rfl
 |[p]=>rfl
 |p::q::aU=>rfl
theorem alb (hT:nN P T) (hm:P.follows .mixedOrders=true) {f:FuncId} {fn:Func} {c:Code} {mc:lz} {ms:List bA} {M:List Dv->Option (List Dv×List C)} (hf:P.funcs[f]? =some fn) (hb:fn.body=some c)
  (hc:ja P fn.ntmps c mc=true) (hr:m9 P fn.results.toList ms=true) (hM:∀ds rs out,M ds=some (rs,out)->ds.length<=fn.ntmps/\IJ T mc ms ds=some (rs,out)):xc P f M:=by
 intro ds rs out ni w vals pas va
 obtain⟨hN,bo⟩:=hM ds rs out ni
 refine calls_of_wp hf hb ?_
 have r0:=R.aeQ (N:=fn.ntmps) va hN
 have z3:oz ds=(gH pas).map fun p=>p.ps.map PC.er:=by
  refine PO va.l2 fun i d p hd hp=>?_
  have hv:vals[i]? =some (vals[i]'(by rw[va.l1];exact(List.getElem?_eq_some_iff.1 hd).1)):=List.getElem?_eq_getElem _
  exact(va.at_ i d _ p hd hv hp).1
 unfold IJ at bo
 have gI:∀{σ:St} {a:Act} {w':World} {G:Gh},σ.Bb ms ds=some (rs,out)->R w.heap.size (Cg pas) w fn.ntmps σ a w' G->a.defers=[]/\∃v,(results fn a.tmps).run P w'=.ok v w'/\
   ∃(aU:List PA) (qs:List PC),aU.map (fun p=>(p.k,p.ps.map PC.er))=rs/\(Ending.returned v)=.returned (yB aU)/\qs.map PC.er=out/\Kn w w' pas aU qs:=by
  intro σ a w' G hx r
  have H:=r.hr
  unfold St.Bb at hx
  split at hx
  ·rename_i vs e1
   split at hx
   ·rename_i uH PI e2 e3
    injection hx with hx
    injection hx with lP d9
    subst lP d9
    have zO:∀p,gH pas=some p->∃cs,σ.h aI=some (.box cs)/\cs.length=p.ps.length/\mI cs=some PI/\(G.g aI).nl=false/\(G.g aI).b=p.b/\(G.g aI).o=p.o:=by
     intro p hp
     rw[z3,hp] at e3
     simp only[Option.map_some,AY] at e3
     split at e3
     ·rename_i cs ez
      split at e3
      ·rename_i hl
       have vI:(Cg pas).qt aI=some (wq p):=by
        show(if aI=aI then(gH pas).map wq else none)=_
        rw[if_pos rfl,hp];rfl
       obtain⟨q1,q2,q3,_⟩:=r.qt _ _ _ vI ez
       exact⟨cs,ez,by simpa using hl,e3,q1,q2,q3⟩
      ·cases e3
     ·cases e3
    have HB:∀q∈pas,q.k=.ptr->∃p,gH pas=some p/\q=p:=by
     intro q hq hk
     cases hc:gH pas with
     |none=>exact absurd hk (GA hc q hq)
     |some p=>
      obtain⟨c1,c2⟩:=B6 hc
      obtain⟨i,hi⟩:=List.getElem?_of_mem hq
      obtain⟨j,hj⟩:=List.getElem?_of_mem c1
      have:=va.one i j q p hi hj hk c2
      subst this
      rw[hi] at hj
      injection hj with hj
      exact⟨p,rfl,hj⟩
    have hE:∀b,(Cg pas) b->∃p cs,gH pas=some p/\σ.h aI=some (.box cs)/\(G.g aI).nl=false/\b=(G.g aI).b:=by
     rintro b ⟨q,hq,hk,rfl⟩
     obtain⟨p,hp,rfl⟩:=HB q hq hk
     obtain⟨cs,h1,_,_,h2,h3,_⟩:=zO q hp
     exact⟨q,cs,hp,h1,h2,h3.symm⟩
    have pY:∀b,G.Im b->zd w pas b:=fun b hb=>by
     rcases H.pg b hb with h1|h1|h1
     ·exact .inl h1
     ·obtain⟨p,cs,_,h2,h3,rfl⟩:=hE b h1
      exact absurd hb (H.own aI (by rw[h2];simp) h3).1
     ·exact .inr h1
    have ael:∀b,Km G σ.h b->zd w pas b/\(∀p,gH pas=some p->b≠p.b):=by
     have aC:∀b,(∀cs,σ.h aI=some (.box cs)->(G.g aI).nl=false->b≠(G.g aI).b)->∀p,gH pas=some p->b≠p.b:=fun b hb p hp=>by
      obtain⟨cs,h1,_,_,h2,h3,_⟩:=zO p hp
      rw[<-h3]
      exact hb cs h1 h2
     have VD:∀b,(w.heap.size<=b\/(Cg pas) b)->(∀cs,σ.h aI=some (.box cs)->(G.g aI).nl=false->b≠(G.g aI).b)->zd w pas b:=fun b hb aC=>by
      rcases hb with hb|hb
      ·exact .inl hb
      ·obtain⟨p,cs,_,h2,h3,h4⟩:=hE b hb
       exact absurd h4 (aC cs h2 h3)
     intro b hb
     rcases hb with hb|⟨n,gr,m,sz,xs,hn,hft⟩
     ·exact⟨pY b hb,aC b fun cs h1 h2 he=>(H.own aI (by rw[h1];simp) h2).1 (he▸hb)⟩
     ·have bN:σ.h n≠none:=by rw[hn];simp
      rcases hft with⟨aO,rfl⟩|hF
      ·have hd:∀cs,σ.h aI=some (.box cs)->(G.g aI).nl=false->(G.g n).b≠(G.g aI).b:=fun cs h1 h2=>
        H.inj n aI bN (by rw[h1];simp) (by rintro rfl;rw[hn] at h1;cases h1) aO h2
       exact⟨VD _ (H.own n bN aO).2.1 hd,aC _ hd⟩
      ·have gK:=(H.row n gr m sz xs hn).mode
       cases m with
       |aF=>exact⟨pY b (gK b hF),aC b fun cs h1 h2 he=>(H.own aI (by rw[h1];simp) h2).1 (he▸gK b hF)⟩
       |aa=>exact⟨pY b (gK.1 b hF).1,aC b fun cs h1 h2 he=>(H.own aI (by rw[h1];simp) h2).1 (he▸(gK.1 b hF).1)⟩
       |live=>
        have hd:∀cs,σ.h aI=some (.box cs)->(G.g aI).nl=false->b≠(G.g aI).b:=fun cs h1 h2=>H.live n gr sz xs hn b hF aI (by rw[h1];simp) h2
        exact⟨VD b (gK.1 b hF).2.2 hd,aC b hd⟩
    obtain⟨us,u1,u2,_,u3⟩:=IL r hr e1
    obtain⟨qs,q1,q2,q3⟩:∃qs:List PC,qs.map PC.er=PI/\(∀pc∈qs,Good w' pc/\∀b,aR b pc->G.Im b)/\∀p∈pas,p.k=.ptr->EV w' p.b p.o qs:=by
     cases hc:gH pas with
     |none=>
      rw[z3,hc] at e3
      simp only[Option.map_none,AY] at e3
      injection e3 with e3
      subst e3
      exact⟨[],rfl,by simp,fun p hp hk=>absurd hk (GA hc p hp)⟩
     |some p=>
      obtain⟨cs,h1,h2,h3,h4,h5,h6⟩:=zO p hc
      obtain⟨UD,v1,v2⟩:=H.KB h1
      obtain⟨ps,p1,p2,p3⟩:=HR.mI h3 v1
      refine⟨ps,p1,p3,fun q hq hk j c hj=>?_⟩
      obtain⟨p',be,rfl⟩:=HB q hq hk
      rw[hc] at be
      injection be with be
      subst be
      rw[<-h5,<-h6]
      refine v2 j _ ?_
      rw[<-p2,List.getElem?_map,hj];rfl
    have xL:Fr w.heap.size (U0 pas) w w':=⟨r.fr.os,r.fr.tape,r.fr.output,r.fr.size,r.fr.block,r.fr.kH⟩
    have GC:∀{uH:List Dv},qx σ.h vs=some uH->∃v,(results fn a.tmps).run P w'=.ok v w'/\
      ∃(aU:List PA) (qs:List PC),aU.map (fun p=>(p.k,p.ps.map PC.er))=uH/\(Ending.returned v)=.returned (yB aU)/\qs.map PC.er=PI/\Kn w w' pas aU qs:=by
     intro uH hrb
     obtain⟨aU,b1,b2,b3,b4⟩:=H.qx hrb u2 u3
     refine⟨_,IM fn a.tmps u1,aU,qs,b1,by rw[<-b2,ajt],q1,?_⟩
     exact⟨fun p hp=>(b3 p hp).2,fun p hp hk=>absurd hk (b3 p hp).1,fun p hp pc bd=>⟨(b4 p hp pc bd).1,fun b hb=>(ael b ((b4 p hp pc bd).2 b hb)).1⟩,xL,fun pc bd=>⟨(q2 pc bd).1,fun b hb=>pY b ((q2 pc bd).2 b hb)⟩,q3⟩
    refine⟨r.defers,?_⟩
    unfold Bc at e2
    split at e2
    ·rename_i v0
     split at e2
     ·rename_i n xs hbp
      split at e2
      ·cases e2
      ·rename_i zZ
       injection e2 with e2
       subst e2
       obtain⟨sz,cs,rfl,hn,ez⟩:=Ky hbp
       obtain⟨nl,un,_⟩:=H.box n cs hn
       have bN:σ.h n≠none:=by rw[hn];simp
       obtain⟨o1,o2,o3⟩:=H.own n bN nl
       obtain⟨UD,v1,v2⟩:=H.KB hn
       obtain⟨ps,p1,p2,p3⟩:=HR.mI ez v1
       match us,u2 with
       |[u],_=>
        have hu:u=.pointer (some (ad (G.g n).b (G.g n).o)):=by
         have h0:=u3 0 _ u rfl rfl
         rcases h0 with h0|h0
         ·cases h0
         ·have h1:RC w' G σ.h (.ptr n 0 sz 0) u:=(h0.2 0 _ u rfl rfl).2
          simpa using(h1 bN).2
        have hB:w.heap.size<=(G.g n).b:=by
         rcases o2 with o2|o2
         ·exact o2
         ·obtain⟨p,cs',_,h2,h3,h4⟩:=hE _ o2
          exact absurd h4 (H.inj n aI bN (by rw[h2];simp) (by rintro rfl;exact zZ (Nat.le_refl _)) nl h3)
        refine⟨_,IM fn a.tmps u1,[⟨.ptr,ps,(G.g n).b,(G.g n).o⟩],qs,by simp[p1],?_,q1,?_⟩
        ·rw[hu];rfl
        ·refine⟨fun p hp hk=>?_,fun p hp hk=>?_,fun p hp pc bd=>?_,xL,fun pc bd=>⟨(q2 pc bd).1,fun b hb=>pY b ((q2 pc bd).2 b hb)⟩,q3⟩
         ·simp at hp;subst hp;cases hk
         ·simp at hp
          subst hp
          refine⟨rfl,hB,un,fun j c hj=>v2 j _ ?_,fun pc bd hb=>o1 ((p3 pc bd).2 _ hb),fun pc bd hb=>o1 ((q2 pc bd).2 _ hb)⟩
          rw[<-p2,List.getElem?_map,hj];rfl
         ·simp at hp
          subst hp
          exact⟨(p3 pc bd).1,fun b hb=>pY b ((p3 pc bd).2 b hb)⟩
     ·exact GC e2
    ·exact GC e2
   ·cases hx
  ·cases hx
 split at bo
 ·rename_i σ e
  exact lG hT hm mc hc e r0 fun a w' G r=>gI bo r
 ·rename_i σ e
  exact lG hT hm mc hc e r0 fun a w' G r=>gI bo r
 ·cases bo
end
end Go.Am
