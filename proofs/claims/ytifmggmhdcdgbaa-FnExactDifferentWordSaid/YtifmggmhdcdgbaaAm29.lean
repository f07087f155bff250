/- Am29: functions that change lists of their arguments: from code to contract. No condition. -/
import Derived.Test.YtifmggmhdcdgbaaAm28
set_option linter.unusedVariables false
namespace Go.Am
section
variable {B:Nat} {E:Ex} {w0 w w':World} {G G':Gh} {N:Nat} {h h':Nat->Option ar} {used:Nat->Bool}
variable {P:Program} {T:be} {a:Act} {σ σ':St} {Q:Exit->Act->World->Prop}
theorem Mn {α:Type}:∀{s:List (Option Mode)} {xs:List α} {x:Mode×α},x∈dE s xs->x.2∈xs
 |some m::fs,y::xs,x,h=>by
  simp only[dE,List.mem_cons] at h
  rcases h with rfl|h
  ·simp
  ·exact List.mem_cons_of_mem _ (Mn h)
 |none::fs,y::xs,x,h=>by
  simp only[dE] at h
  exact List.mem_cons_of_mem _ (Mn h)
 |[],_,x,h=>by simp[dE] at h
 |some m::fs,[],x,h=>by simp[dE] at h
 |none::fs,[],x,h=>by simp[dE] at h
theorem Ml {α:Type}:∀{sig:aY} {ry:List (List α)} {x:Mode×α},x∈dW sig ry->∃xs∈ry,x.2∈xs
 |s::sig,xs::ry,x,h=>by
  simp only[dW,List.mem_append] at h
  rcases h with h|h
  ·exact⟨xs,by simp,Mn h⟩
  ·obtain⟨ys,h1,h2⟩:=Ml h
   exact⟨ys,by simp[h1],h2⟩
 |[],_,x,h=>by simp[dW] at h
 |s::sig,[],x,h=>by simp[dW] at h
theorem GO {fl:List (Mode×PC)} (fg:∀x∈fl,xn w x.1 x.2) (hg:∀x∈fl,Good w x.2):∀(c:Nat) (fs:List (Option Mode)) (ps:List PC),(∀(q:Nat) (x:Mode×PC),(dE fs ps)[q]? =some x->fl[c+q]? =some x)->(∀pc∈ps,Good w pc)->
  (∀pc∈mZ fs ps,∀x∈fl,∀b,aN b pc->¬aN b x.2)->cj w (nq w fl) (mE fl) (fR c fs (ps.map PC.er)) (ps.map PC.val)
 |c,[],ps,hq,fh,hu=>by
  simp only[fR]
  refine⟨by simp,fun j x u hj lI=>?_⟩
  simp only[List.getElem?_map,List.map_map] at hj lI
  cases hp:ps[j]? with
  |none=>rw[hp] at hj;cases hj
  |some pc=>
   rw[hp] at hj lI
   simp at hj lI
   subst hj;subst lI
   have hm:=List.mem_of_getElem? hp
   exact⟨PC.jU pc,pc,rfl,rfl,fh pc hm,fun b hb=>⟨(fh pc hm).lt hb,fun⟨x,hx,dK⟩=>hu pc (by simpa[mZ] using hm) x hx b hb dK⟩⟩
 |c,f::fs,[],hq,fh,hu=>by
  cases f<;>exact⟨rfl,by intro j c u hj;simp[fR] at hj⟩
 |c,none::fs,p::ps,hq,fh,hu=>by
  have ih:=GO fg hg c fs ps (fun q x h=>hq q x (by simpa[dE] using h)) (fun pc h=>fh pc (by simp[h])) (fun pc h=>hu pc (by simp[mZ,h]))
  simp only[List.map_cons,fR]
  refine⟨by simp[ih.1],fun j x u hj lI=>?_⟩
  cases j with
  |zero=>
   simp at hj lI
   subst hj;subst lI
   exact⟨PC.jU p,p,rfl,rfl,fh p (by simp),fun b hb=>⟨(fh p (by simp)).lt hb,fun⟨x,hx,dK⟩=>hu p (by simp[mZ]) x hx b hb dK⟩⟩
  |succ j=>exact ih.2 j x u (by simpa using hj) (by simpa using lI)
 |c,some m::fs,p::ps,hq,fh,hu=>by
  have h0:=hq 0 (m,p) (by simp[dE])
  simp only[Nat.add_zero] at h0
  have tP:=List.mem_of_getElem? h0
  obtain⟨sz,a,cap,xs,e,d9,nt,vA⟩:=(fg _ tP).dq
  simp only at e
  subst e
  have ih:=GO fg hg (c+1) fs ps (fun q x h=>by have:=hq (q+1) x (by simpa[dE] using h);rwa[show c+(q+1)=c+1+q by omega] at this) (fun pc h=>fh pc (by simp[h])) (fun pc h=>hu pc (by simpa[mZ] using h))
  simp only[List.map_cons,PC.df,fR]
  refine⟨by simp[ih.1],fun j x u hj lI=>?_⟩
  cases j with
  |zero=>
   simp at hj lI
   subst hj;subst lI
   refine⟨PC.jU _,fun _=>?_⟩
   have NJ:(nq w fl).g (aJ+c)=oQ (.list sz a cap xs):=by simp only[nq,Nat.add_sub_cancel_left,h0]
   rw[NJ]
   rcases(hg _ tP).cases with rfl|⟨aA,jA,b,o,rfl⟩
   ·rw[Et]
    exact .inl ⟨rfl,rfl,rfl,rfl⟩
   ·rw[yN aA]
    exact .inr ⟨rfl,some (ad b o),by simp[PC.val],by simpa using jA,fun _=>by simp⟩
  |succ j=>exact ih.2 j x u (by simpa using hj) (by simpa using lI)
theorem U9 {fl:List (Mode×PC)} (fg:∀x∈fl,xn w x.1 x.2) (hg:∀x∈fl,Good w x.2) {c:Nat} {s:List (Option Mode)} {d:Dv} {v:Value} {p:PA} (hA:zf w d v p)
  (hq:∀(q:Nat) (x:Mode×PC),(dE s p.ps)[q]? =some x->fl[c+q]? =some x) (hu:∀pc∈mZ s p.ps,∀x∈fl,∀b,aN b pc->¬aN b x.2) (hp:p.k=.ptr->s=[]/\∀x∈fl,¬aN p.b x.2):
  RA w (nq w fl) (mE fl) (rG c s d) v:=by
 obtain⟨k,ps,b,o⟩:=p
 obtain⟨rfl,fh,hv⟩:=hA
 cases k with
 |one=>
  have hv:ps.map PC.val=[v]:=hv
  have hl:=GO fg hg c s ps hq fh hu
  rw[hv] at hl
  simp only[rG]
  obtain⟨x,hx⟩:∃x,fR c s (ps.map PC.er)=[x]:=by
   have:=hl.1
   match hh:fR c s (ps.map PC.er),this with
   |[x],_=>exact⟨x,rfl⟩
  rw[hx] at hl⊢
  exact .inr hl
 |agg=>
  have hv:v=.agg (ps.map PC.val).toArray:=hv
  exact⟨_,hv,GO fg hg c s ps hq fh hu⟩
 |ptr=>
  obtain⟨h1,h2,h3⟩:v=.pointer (some (ad b o))/\b<w.heap.size/\∀j c,ps[j]? =some c->w.cell? (ad b (o+j))=some c.val:=hv
  obtain⟨rfl,Aj⟩:=hp rfl
  subst h1
  refine RA.fQ rfl ⟨b,o,ps,by simp,rfl,⟨h2,fun⟨x,hx,dK⟩=>Aj x hx dK⟩,fun j c hj=>?_⟩
  have hm:=List.mem_of_getElem? hj
  exact⟨h3 j c hj,fh c hm,fun b' aU=>⟨(fh c hm).lt aU,fun⟨x,hx,dK⟩=>hu c (by simpa[mZ] using hm) x hx b' aU dK⟩⟩
theorem OH {fl:List (Mode×PC)} (fg:∀x∈fl,xn w x.1 x.2) (hg:∀x∈fl,Good w x.2):∀(ds:List Dv) (k c:Nat) (sig:aY) (vals:List Value) (pas:List PA),vals.length=ds.length->pas.length=ds.length->
  (∀(i:Nat) (d:Dv) (v:Value) (p:PA),ds[i]? =some d->vals[i]? =some v->pas[i]? =some p->zf w d v p)->(∀(q:Nat) (x:Mode×PC),(dW sig (pas.map (·.ps)))[q]? =some x->fl[c+q]? =some x)->
  (∀pc∈o7 sig (pas.map (·.ps)),∀x∈fl,∀b,aN b pc->¬aN b x.2)->(∀p∈pas,p.k=.ptr->∀x∈fl,¬aN p.b x.2)->(∀(i:Nat) (p:PA) (s:List (Option Mode)),pas[i]? =some p->sig[i]? =some s->p.k=.ptr->s=[])->
  ∀s,RA w (nq w fl) (mE fl) (la k c sig ds s) (if k<=s then vals.getD (s - k) undef else undef)
 |[],k,c,sig,vals,pas,l1,l2,hA,hq,hu,hp,hs,s=>by simp only[la];exact Or.inl rfl
 |d::ds,k,c,sig,v::vals,p::pas,l1,l2,hA,hq,hu,hp,hs,s=>by
  have YN:vals.length=ds.length:=by simpa using l1
  have YY:pas.length=ds.length:=by simpa using l2
  have A0:=hA 0 d v p rfl rfl rfl
  have A1:=fun i d' v' p' (h1:ds[i]? =some d') (h2:vals[i]? =some v') (h3:pas[i]? =some p')=>hA (i+1) d' v' p' (by simpa using h1) (by simpa using h2) (by simpa using h3)
  have fh:=A0.2.1
  have hd2:d.2=p.ps.map PC.er:=by rw[A0.1]
  have shift:∀x:ai,(s≠k->RA w (nq w fl) (mE fl) x (if k+1<=s then vals.getD (s - (k+1)) undef else undef))->s≠k->RA w (nq w fl) (mE fl) x (if k<=s then(v::vals).getD (s - k) undef else undef):=by
   intro x hx tT
   have:=hx tT
   by_cases hk:k+1<=s
   ·rw[if_pos hk] at this
    rw[if_pos (by omega),show s - k=(s - (k+1))+1 by omega]
    simpa using this
   ·rw[if_neg hk] at this
    rw[if_neg (by omega)]
    exact this
  cases sig with
  |nil=>
   simp only[la]
   by_cases tT:s=k
   ·subst tT
    rw[bw,if_pos (Nat.le_refl _)]
    simp only[Nat.sub_self,List.getD_cons_zero]
    refine U9 fg hg A0 (fun q x h=>by simp[dE] at h) (fun pc aZ=>hu pc ?_) (fun e=>⟨rfl,hp p (by simp) e⟩)
    simp only[mZ] at aZ
    simp[o7,aZ]
   ·rw[bS _ _ _ _ tT]
    refine shift _ (fun _=>OH fg hg ds (k+1) c [] vals pas YN YY A1 (fun q x h=>by simp[dW] at h) (fun pc aZ=>hu pc ?_) (fun p bc=>hp p (by simp[bc])) (fun i p s _ h=>by simp at h) s) tT
    simp only[o7] at aZ
    simp only[List.map_cons,o7,List.flatten_cons,List.mem_append]
    exact .inr aZ
  |cons sg sig=>
   simp only[la]
   have hlen:(dE sg d.2).length=(dE sg p.ps).length:=by rw[hd2,HG,List.length_map]
   by_cases tT:s=k
   ·subst tT
    rw[bw,if_pos (Nat.le_refl _)]
    simp only[Nat.sub_self,List.getD_cons_zero]
    refine U9 fg hg A0 (fun q x h=>hq q x ?_) (fun pc aZ=>hu pc ?_) (fun e=>⟨hs 0 p sg rfl rfl e,hp p (by simp) e⟩)
    ·simp only[List.map_cons,dW]
     rw[List.getElem?_append_left (List.getElem?_eq_some_iff.1 h).1]
     exact h
    ·simp only[List.map_cons,o7,List.mem_append]
     exact .inl aZ
   ·rw[bS _ _ _ _ tT]
    refine shift _ (fun _=>OH fg hg ds (k+1) (c+(dE sg d.2).length) sig vals pas YN YY A1 (fun q x h=>?_) (fun pc aZ=>hu pc ?_) (fun p bc=>hp p (by simp[bc])) (fun i p s h1 h2=>hs (i+1) p s (by simpa using h1) (by simpa using h2)) s) tT
    ·have:=hq ((dE sg p.ps).length+q) x (by
      simp only[List.map_cons,dW]
      rw[List.getElem?_append_right (Nat.le_add_right _ _),Nat.add_sub_cancel_left]
      exact h)
     rw[hlen,Nat.add_assoc]
     exact this
    ·simp only[List.map_cons,o7,List.mem_append]
     exact .inr aZ
 |_::_,k,c,sig,[],pas,l1,l2,hA,hq,hu,hp,hs,s=>by simp at l1
 |_::_,k,c,sig,_::_,[],l1,l2,hA,hq,hu,hp,hs,s=>by simp at l2
theorem Va {c:Nat} {s:List (Option Mode)} {d:Dv} {m:Nat} (h:(rG c s d).ref m):aJ<=m:=by
 have cq:∀(cs:List C) (c:Nat) (s:List (Option Mode)),∀x∈fR c s cs,x.ref m->aJ<=m:=by
  intro cs
  induction cs with
  |nil=>
   intro c s x hx
   cases s with
   |nil=>simp[fR] at hx
   |cons f fs=>cases f<;>simp[fR] at hx
  |cons y cs ih=>
   intro c s x hx hr
   cases s with
   |nil=>
    simp only[fR,List.mem_map] at hx
    obtain⟨z,_,rfl⟩:=hx
    exact absurd hr id
   |cons f fs=>
    cases f with
    |none=>
     simp only[fR,List.mem_cons] at hx
     rcases hx with rfl|hx
     ·exact absurd hr id
     ·exact ih _ _ _ hx hr
    |some md=>
     cases y with
     |list sz xs=>
      simp only[fR,List.mem_cons] at hx
      rcases hx with rfl|hx
      ·have hr:m=aJ+c:=hr
       omega
      ·exact ih _ _ _ hx hr
     |int k n=>
      simp only[fR,List.mem_cons] at hx
      rcases hx with rfl|hx
      ·exact absurd hr id
      ·exact ih _ _ _ hx hr
     |bool b=>
      simp only[fR,List.mem_cons] at hx
      rcases hx with rfl|hx
      ·exact absurd hr id
      ·exact ih _ _ _ hx hr
 obtain⟨k,xs⟩:=d
 cases k with
 |one=>
  simp only[rG] at h
  match hh:fR c s xs,h with
  |[],h=>exact absurd h id
  |[x],h=>exact cq xs c s x (by rw[hh];simp) h
  |_::_::_,h=>exact absurd h id
 |agg=>
  obtain⟨x,hx,hr⟩:=h
  exact cq xs c s x hx hr
 |ptr=>exact absurd h id
theorem OI:∀{ds:List Dv} {k c:Nat} {sig:aY} {s m:Nat},(la k c sig ds s).ref m->aJ<=m
 |[],k,c,sig,s,m,h=>by simp only[la] at h;exact absurd h id
 |d::ds,k,c,[],s,m,h=>by
  simp only[la,iE] at h
  split at h
  ·exact Va h
  ·exact OI h
 |d::ds,k,c,sg::sig,s,m,h=>by
  simp only[la,iE] at h
  split at h
  ·exact Va h
  ·exact OI h
theorem R.OL {sig:aY} {ds:List Dv} {vals:List Value} {pas:List PA} (M:Lr w sig ds vals pas) (hN:ds.length<=N):
  R w.heap.size (xK (dW sig (pas.map (·.ps)))) w N (AJ sig ds) {tmps:=vals.toArray++Array.replicate (N - vals.toArray.size) undef,defers:=[]} w (nq w (dW sig (pas.map (·.ps)))):=by
 have mD:ds.map (·.2)=(pas.map (·.ps)).map fun l=>l.map PC.er:=by
  apply List.ext_getElem?
  intro i
  simp only[List.getElem?_map]
  cases hd:ds[i]? with
  |none=>
   have:ds.length<=i:=List.getElem?_eq_none_iff.1 hd
   rw[List.getElem?_eq_none (by rw[M.l2];exact this)]
   rfl
  |some d=>
   have hi:=(List.getElem?_eq_some_iff.1 hd).1
   have hv:vals[i]? =some (vals[i]'(by rw[M.l1];exact hi)):=List.getElem?_eq_getElem _
   have hp:pas[i]? =some (pas[i]'(by rw[M.l2];exact hi)):=List.getElem?_eq_getElem _
   have:=(M.at_ i d _ _ hd hv hp).1
   rw[hp]
   simp only[Option.map_some]
   rw[this]
 have fh:∀p∈pas,∀pc∈p.ps,Good w pc:=by
  intro p hp pc aZ
  obtain⟨i,hi,rfl⟩:=List.getElem_of_mem hp
  have hd:ds[i]? =some (ds[i]'(by rw[<-M.l2];exact hi)):=List.getElem?_eq_getElem _
  have hv:vals[i]? =some (vals[i]'(by rw[M.l1,<-M.l2];exact hi)):=List.getElem?_eq_getElem _
  exact(M.at_ i _ _ _ hd hv (List.getElem?_eq_getElem hi)).2.1 pc aZ
 have hg:∀x∈dW sig (pas.map (·.ps)),Good w x.2:=by
  intro x hx
  obtain⟨l,hl,pE⟩:=Ml hx
  obtain⟨p,hp,rfl⟩:=List.mem_map.1 hl
  exact fh p hp _ pE
 have Ac:(AJ sig ds).h=mE (dW sig (pas.map (·.ps))):=by
  funext n
  simp only[AJ,mE,mD,HE]
 refine⟨rfl,by simp[M.l1];omega,fun s=>?_,fun s n hn=>Nat.ble_eq_true_of_le (OI hn),?_,Fr.refl _ _ _ (Nat.le_refl _),fun n p b hp hb=>?_,fun n hn=>Nat.ble_eq_true_of_le hn⟩
 ·rw[Ac]
  have:=OH M.ok hg ds 0 0 sig vals pas M.l1 M.l2 M.at_ (fun q x h=>by rw[Nat.zero_add];exact h) M.free M.ptr M.alI s
  simp only[Nat.zero_le,if_true,Nat.sub_zero] at this
  have e:(vals.toArray++Array.replicate (N - vals.toArray.size) undef).getD s undef=vals.getD s undef:=by
   simp only[Array.getD_eq_getD_getElem?,List.getD_eq_getElem?_getD]
   by_cases bN:s<vals.length
   ·simp[Array.getElem?_append,bN]
   ·rw[List.getElem?_eq_none (by omega)]
    simp only[Array.getElem?_append,List.size_toArray,bN,if_false,Array.getElem?_replicate]
    split<;>rfl
  rw[e]
  exact this
 ·rw[Ac]
  exact HR.OL hg M.ok M.mz
 ·rw[Ac] at hb
  obtain⟨Ai,m,sz,a,cap,xs,hf,e⟩:=pz hb
  have bc:(if aJ<=n then((dW sig (pas.map (·.ps)))[n - aJ]?).map (fun x=>oQ x.2) else none)=some p:=hp
  rw[if_pos Ai,hf] at bc
  simp at bc
  subst bc
  have NJ:(nq w (dW sig (pas.map (·.ps)))).g n=oQ (.list sz a cap xs):=by simp only[nq,hf]
  rw[NJ]
  exact⟨rfl,rfl,rfl,rfl,rfl,fun gr aK au _ k j pc hk hL=>⟨pc,hk,rfl,hL⟩⟩
theorem Q2:∀{fl:List (Mode×C)} {q:Nat} {dZ:List C},wD σ q fl=some dZ->dZ.length=fl.length/\∀i x,fl[i]? =some x->∃o,dZ[i]? =some o/\Bp σ (q+i) x=some o
 |[],q,dZ,h=>by simp only[wD] at h;injection h with h;subst h;exact⟨rfl,by simp⟩
 |y::l,q,dZ,h=>by
  simp only[wD] at h
  split at h
  ·rename_i o os h1 h2
   injection h with h
   subst h
   obtain⟨i1,i2⟩:=Q2 h2
   refine⟨by simp[i1],fun i x hx=>?_⟩
   cases i with
   |zero=>simp at hx;subst hx;exact⟨o,rfl,h1⟩
   |succ i=>
    obtain⟨o',e1,e2⟩:=i2 i x (by simpa using hx)
    exact⟨o',by simpa using e1,by rw[show q+(i+1)=q+1+i by omega];exact e2⟩
  ·cases h
theorem alQ {q:Nat} {x:Mode×C} {o:C} (h:Bp σ q x=some o):∃sz xs gr au,x.2=.list sz xs/\σ.h (aJ+q)=some (.row gr x.1 sz au)/\au.length=xs.length/\rQ x.1 au=true/\au.map (fun e=>e.map C.pJ)=xs.map (fun e=>e.map C.pJ)/\o=.list sz au:=by
 unfold Bp at h
 split at h
 ·rename_i sz xs gr m' aK au h1 h2
  split at h
  ·rename_i hc
   obtain⟨rfl,rfl,h3,h4,h5⟩:=hc
   injection h with h
   exact⟨_,xs,gr,au,h1,h2,h3,h4,h5,h.symm⟩
  ·cases h
 ·cases h
theorem ac9 {px:List (List PC)} (hd:(px.map fun e=>e.map PC.er).all (fun e=>e.all C.rM)=true) {k j:Nat} {c:PC} (hk:At px k j c):∀sz a cap ys,c=.list sz a cap ys->∀b,¬aR b ys:=by
 rintro sz a cap ys rfl b
 obtain⟨e,he,hj⟩:=hk
 simp only[List.all_eq_true,List.mem_map] at hd
 have h1:=hd (e.map PC.er) ⟨e,List.mem_of_getElem? he,rfl⟩ (PC.er (.list sz a cap ys)) (List.mem_map.2 ⟨_,List.mem_of_getElem? hj,rfl⟩)
 rw[PC.df] at h1
 exact BJ h1 b
theorem PC.ahB (c:PC):c.er.pJ=c.fV:=by
 cases c with
 |int k n=>rfl
 |bool b=>rfl
 |list sz a cap xs=>rw[PC.df];rfl
theorem anz {px px':List (List PC)} (hs:(px'.map fun e=>e.map PC.er).map (fun e=>e.map C.pJ)=(px.map fun e=>e.map PC.er).map (fun e=>e.map C.pJ)) {k j:Nat} {c:PC} (hk:At px' k j c):
  ∃c0,At px k j c0/\c0.fV=c.fV:=by
 obtain⟨e,he,hj⟩:=hk
 have h1:=congrArg (fun l=>l[k]?) hs
 simp only[List.getElem?_map,he,Option.map_some] at h1
 cases h0:px[k]? with
 |none=>rw[h0] at h1;cases h1
 |some e0=>
  rw[h0] at h1
  simp only[Option.map_some,Option.some.injEq] at h1
  have h2:=congrArg (fun l=>l[j]?) h1
  simp only[List.getElem?_map,hj,Option.map_some] at h2
  cases h3:e0[j]? with
  |none=>rw[h3] at h2;cases h2
  |some c0=>
   rw[h3] at h2
   simp only[Option.map_some,Option.some.injEq,PC.ahB] at h2
   exact⟨c0,⟨e0,h0,h3⟩,h2.symm⟩
theorem At.inj {α:Type} {px:List (List α)} {k j:Nat} {c c':α} (h:At px k j c) (h':At px k j c'):c=c':=by
 obtain⟨e,h1,h2⟩:=h
 obtain⟨e',h3,h4⟩:=h'
 rw[h1] at h3
 injection h3 with h3
 subst h3
 rw[h2] at h4
 injection h4
theorem Zm {px px':List (List PC)} (hd:(px.map fun e=>e.map PC.er).all (fun e=>e.all C.rM)=true)
  (hl:∀k j pc,At px k j pc->pc.fV=true->∃cR,At px' k j cR/\cR.val=pc.val/\cR.fV=true) {b:Nat} (hb:aR b px):aR b px':=by
 obtain⟨k,j,c,hk,hc⟩:=hb
 cases c with
 |int k n=>exact absurd hc aN.alL
 |bool x=>exact absurd hc aN.alK
 |list sz a cap ys=>
  have vA:=ac9 hd hk sz a cap ys rfl
  rw[aN.jP] at hc
  rcases hc with⟨aA,o,rfl⟩|⟨k',j',c',cM,cz⟩
  ·obtain⟨c',h1,h2,h3⟩:=hl k j _ hk rfl
   cases c' with
   |int k n=>cases h3
   |bool x=>cases h3
   |list aK a' rJ ys'=>
    simp only[PC.val] at h2
    injection h2 with e1 e2 e3
    subst e1
    refine⟨k,j,_,h1,?_⟩
    rw[aN.jP]
    refine .inl ⟨fun afQ=>?_,o,rfl⟩
    subst afQ
    exact aA (List.eq_nil_of_length_eq_zero e2.symm)
  ·exact absurd ⟨k',j',c',cM,cz⟩ (vA b)
end
end Go.Am
