/- Am29: functions that change lists of their arguments: from code to contract. No condition. -/
import Derived.Test.YtifmggmhdcdgbaaAm28
set_option linter.unusedVariables false
namespace Go.Am
section
variable {B:Nat} {E:Ex} {w0 w w':World} {G G':Gh} {N:Nat} {h h':Nat->Option aq} {used:Nat->Bool}
variable {P:Program} {T:bh} {a:Act} {σ σ':St} {Q:Exit->Act->World->Prop}
theorem Lf {α:Type}:∀{s:List (Option Mode)} {xs:List α} {x:Mode×α},x∈dU s xs->x.2∈xs
 |some m::fs,y::xs,x,h=>by
  simp only[dU,List.mem_cons] at h
  rcases h with rfl|h
  ·simp
  ·exact List.mem_cons_of_mem _ (Lf h)
 |none::fs,y::xs,x,h=>by
  simp only[dU] at h
  exact List.mem_cons_of_mem _ (Lf h)
 |[],_,x,h=>by simp[dU] at h
 |some m::fs,[],x,h=>by simp[dU] at h
 |none::fs,[],x,h=>by simp[dU] at h
theorem Ld {α:Type}:∀{sig:aW} {rH:List (List α)} {x:Mode×α},x∈eF sig rH->∃xs∈rH,x.2∈xs
 |s::sig,xs::rH,x,h=>by
  simp only[eF,List.mem_append] at h
  rcases h with h|h
  ·exact⟨xs,by simp,Lf h⟩
  ·obtain⟨ys,h1,h2⟩:=Ld h
   exact⟨ys,by simp[h1],h2⟩
 |[],_,x,h=>by simp[eF] at h
 |s::sig,[],x,h=>by simp[eF] at h
theorem Gb {fl:List (Mode×PC)} (fH:∀x∈fl,w7 w x.1 x.2) (hg:∀x∈fl,Good w x.2):∀(c:Nat) (fs:List (Option Mode)) (ps:List PC),(∀(q:Nat) (x:Mode×PC),(dU fs ps)[q]? =some x->fl[c+q]? =some x)->(∀pc∈ps,Good w pc)->
  (∀pc∈nI fs ps,∀x∈fl,∀b,aR b pc->¬aR b x.2)->cA w (nZ w fl) (nj fl) (gv c fs (ps.map PC.er)) (ps.map PC.val)
 |c,[],ps,hq,fI,hu=>by
  simp only[gv]
  refine⟨by simp,fun j x u hj mE=>?_⟩
  simp only[List.getElem?_map,List.map_map] at hj mE
  cases hp:ps[j]? with
  |none=>rw[hp] at hj;cases hj
  |some pc=>
   rw[hp] at hj mE
   simp at hj mE
   subst hj;subst mE
   have hm:=List.mem_of_getElem? hp
   exact⟨PC.kI pc,pc,rfl,rfl,fI pc hm,fun b hb=>⟨(fI pc hm).lt hb,fun⟨x,hx,d9⟩=>hu pc (by simpa[nI] using hm) x hx b hb d9⟩⟩
 |c,f::fs,[],hq,fI,hu=>by
  cases f<;>exact⟨rfl,by intro j c u hj;simp[gv] at hj⟩
 |c,none::fs,p::ps,hq,fI,hu=>by
  have ih:=Gb fH hg c fs ps (fun q x h=>hq q x (by simpa[dU] using h)) (fun pc h=>fI pc (by simp[h])) (fun pc h=>hu pc (by simp[nI,h]))
  simp only[List.map_cons,gv]
  refine⟨by simp[ih.1],fun j x u hj mE=>?_⟩
  cases j with
  |zero=>
   simp at hj mE
   subst hj;subst mE
   exact⟨PC.kI p,p,rfl,rfl,fI p (by simp),fun b hb=>⟨(fI p (by simp)).lt hb,fun⟨x,hx,d9⟩=>hu p (by simp[nI]) x hx b hb d9⟩⟩
  |succ j=>exact ih.2 j x u (by simpa using hj) (by simpa using mE)
 |c,some m::fs,p::ps,hq,fI,hu=>by
  have h0:=hq 0 (m,p) (by simp[dU])
  simp only[Nat.add_zero] at h0
  have tT:=List.mem_of_getElem? h0
  obtain⟨sz,a,cap,xs,e,eO,n5,vw⟩:=(fH _ tT).dE
  simp only at e
  subst e
  have ih:=Gb fH hg (c+1) fs ps (fun q x h=>by have:=hq (q+1) x (by simpa[dU] using h);rwa[show c+(q+1)=c+1+q by omega] at this) (fun pc h=>fI pc (by simp[h])) (fun pc h=>hu pc (by simpa[nI] using h))
  simp only[List.map_cons,PC.dw,gv]
  refine⟨by simp[ih.1],fun j x u hj mE=>?_⟩
  cases j with
  |zero=>
   simp at hj mE
   subst hj;subst mE
   refine⟨PC.kI _,fun _=>?_⟩
   have MC:(nZ w fl).g (aI+c)=pz (.list sz a cap xs):=by simp only[nZ,Nat.add_sub_cancel_left,h0]
   rw[MC]
   rcases(hg _ tT).cases with rfl|⟨aC,kl,b,o,rfl⟩
   ·rw[DH]
    exact .inl ⟨rfl,rfl,rfl,rfl⟩
   ·rw[yw aC]
    exact .inr ⟨rfl,some (ad b o),by simp[PC.val],by simpa using kl,fun _=>by simp⟩
  |succ j=>exact ih.2 j x u (by simpa using hj) (by simpa using mE)
theorem TY {fl:List (Mode×PC)} (fH:∀x∈fl,w7 w x.1 x.2) (hg:∀x∈fl,Good w x.2) {c:Nat} {s:List (Option Mode)} {d:Dv} {v:Value} {p:PA} (hA:yP w d v p)
  (hq:∀(q:Nat) (x:Mode×PC),(dU s p.ps)[q]? =some x->fl[c+q]? =some x) (hu:∀pc∈nI s p.ps,∀x∈fl,∀b,aR b pc->¬aR b x.2) (hp:p.k=.ptr->s=[]/\∀x∈fl,¬aR p.b x.2):
  RA w (nZ w fl) (nj fl) (rU c s d) v:=by
 obtain⟨k,ps,b,o⟩:=p
 obtain⟨rfl,fI,hv⟩:=hA
 cases k with
 |one=>
  have hv:ps.map PC.val=[v]:=hv
  have hl:=Gb fH hg c s ps hq fI hu
  rw[hv] at hl
  simp only[rU]
  obtain⟨x,hx⟩:∃x,gv c s (ps.map PC.er)=[x]:=by
   have:=hl.1
   match hh:gv c s (ps.map PC.er),this with
   |[x],_=>exact⟨x,rfl⟩
  rw[hx] at hl⊢
  exact .inr hl
 |agg=>
  have hv:v=.agg (ps.map PC.val).toArray:=hv
  exact⟨_,hv,Gb fH hg c s ps hq fI hu⟩
 |ptr=>
  obtain⟨h1,h2,h3⟩:v=.pointer (some (ad b o))/\b<w.heap.size/\∀j c,ps[j]? =some c->w.cell? (ad b (o+j))=some c.val:=hv
  obtain⟨rfl,z3⟩:=hp rfl
  subst h1
  refine RA.gp rfl ⟨b,o,ps,by simp,rfl,⟨h2,fun⟨x,hx,d9⟩=>z3 x hx d9⟩,fun j c hj=>?_⟩
  have hm:=List.mem_of_getElem? hj
  exact⟨h3 j c hj,fI c hm,fun b' aX=>⟨(fI c hm).lt aX,fun⟨x,hx,d9⟩=>hu c (by simpa[nI] using hm) x hx b' aX d9⟩⟩
theorem Ny {fl:List (Mode×PC)} (fH:∀x∈fl,w7 w x.1 x.2) (hg:∀x∈fl,Good w x.2):∀(ds:List Dv) (k c:Nat) (sig:aW) (vals:List Value) (pas:List PA),vals.length=ds.length->pas.length=ds.length->
  (∀(i:Nat) (d:Dv) (v:Value) (p:PA),ds[i]? =some d->vals[i]? =some v->pas[i]? =some p->yP w d v p)->(∀(q:Nat) (x:Mode×PC),(eF sig (pas.map (·.ps)))[q]? =some x->fl[c+q]? =some x)->
  (∀pc∈pG sig (pas.map (·.ps)),∀x∈fl,∀b,aR b pc->¬aR b x.2)->(∀p∈pas,p.k=.ptr->∀x∈fl,¬aR p.b x.2)->(∀(i:Nat) (p:PA) (s:List (Option Mode)),pas[i]? =some p->sig[i]? =some s->p.k=.ptr->s=[])->
  ∀s,RA w (nZ w fl) (nj fl) (lV k c sig ds s) (if k<=s then vals.getD (s - k) undef else undef)
 |[],k,c,sig,vals,pas,l1,l2,hA,hq,hu,hp,hs,s=>by simp only[lV];exact Or.inl rfl
 |d::ds,k,c,sig,v::vals,p::pas,l1,l2,hA,hq,hu,hp,hs,s=>by
  have Xl:vals.length=ds.length:=by simpa using l1
  have Xr:pas.length=ds.length:=by simpa using l2
  have A0:=hA 0 d v p rfl rfl rfl
  have A1:=fun i d' v' p' (h1:ds[i]? =some d') (h2:vals[i]? =some v') (h3:pas[i]? =some p')=>hA (i+1) d' v' p' (by simpa using h1) (by simpa using h2) (by simpa using h3)
  have fI:=A0.2.1
  have hd2:d.2=p.ps.map PC.er:=by rw[A0.1]
  have shift:∀x:aj,(s≠k->RA w (nZ w fl) (nj fl) x (if k+1<=s then vals.getD (s - (k+1)) undef else undef))->s≠k->RA w (nZ w fl) (nj fl) x (if k<=s then(v::vals).getD (s - k) undef else undef):=by
   intro x hx t7
   have:=hx t7
   by_cases hk:k+1<=s
   ·rw[if_pos hk] at this
    rw[if_pos (by omega),show s - k=(s - (k+1))+1 by omega]
    simpa using this
   ·rw[if_neg hk] at this
    rw[if_neg (by omega)]
    exact this
  cases sig with
  |nil=>
   simp only[lV]
   by_cases t7:s=k
   ·subst t7
    rw[bD,if_pos (Nat.le_refl _)]
    simp only[Nat.sub_self,List.getD_cons_zero]
    refine TY fH hg A0 (fun q x h=>by simp[dU] at h) (fun pc bd=>hu pc ?_) (fun e=>⟨rfl,hp p (by simp) e⟩)
    simp only[nI] at bd
    simp[pG,bd]
   ·rw[cd _ _ _ _ t7]
    refine shift _ (fun _=>Ny fH hg ds (k+1) c [] vals pas Xl Xr A1 (fun q x h=>by simp[eF] at h) (fun pc bd=>hu pc ?_) (fun p be=>hp p (by simp[be])) (fun i p s _ h=>by simp at h) s) t7
    simp only[pG] at bd
    simp only[List.map_cons,pG,List.flatten_cons,List.mem_append]
    exact .inr bd
  |cons sg sig=>
   simp only[lV]
   have hlen:(dU sg d.2).length=(dU sg p.ps).length:=by rw[hd2,GX,List.length_map]
   by_cases t7:s=k
   ·subst t7
    rw[bD,if_pos (Nat.le_refl _)]
    simp only[Nat.sub_self,List.getD_cons_zero]
    refine TY fH hg A0 (fun q x h=>hq q x ?_) (fun pc bd=>hu pc ?_) (fun e=>⟨hs 0 p sg rfl rfl e,hp p (by simp) e⟩)
    ·simp only[List.map_cons,eF]
     rw[List.getElem?_append_left (List.getElem?_eq_some_iff.1 h).1]
     exact h
    ·simp only[List.map_cons,pG,List.mem_append]
     exact .inl bd
   ·rw[cd _ _ _ _ t7]
    refine shift _ (fun _=>Ny fH hg ds (k+1) (c+(dU sg d.2).length) sig vals pas Xl Xr A1 (fun q x h=>?_) (fun pc bd=>hu pc ?_) (fun p be=>hp p (by simp[be])) (fun i p s h1 h2=>hs (i+1) p s (by simpa using h1) (by simpa using h2)) s) t7
    ·have:=hq ((dU sg p.ps).length+q) x (by
      simp only[List.map_cons,eF]
      rw[List.getElem?_append_right (Nat.le_add_right _ _),Nat.add_sub_cancel_left]
      exact h)
     rw[hlen,Nat.add_assoc]
     exact this
    ·simp only[List.map_cons,pG,List.mem_append]
     exact .inr bd
 |_::_,k,c,sig,[],pas,l1,l2,hA,hq,hu,hp,hs,s=>by simp at l1
 |_::_,k,c,sig,_::_,[],l1,l2,hA,hq,hu,hp,hs,s=>by simp at l2
theorem TZ {c:Nat} {s:List (Option Mode)} {d:Dv} {m:Nat} (h:(rU c s d).ref m):aI<=m:=by
 have cP:∀(cs:List C) (c:Nat) (s:List (Option Mode)),∀x∈gv c s cs,x.ref m->aI<=m:=by
  intro cs
  induction cs with
  |nil=>
   intro c s x hx
   cases s with
   |nil=>simp[gv] at hx
   |cons f fs=>cases f<;>simp[gv] at hx
  |cons y cs ih=>
   intro c s x hx hr
   cases s with
   |nil=>
    simp only[gv,List.mem_map] at hx
    obtain⟨z,_,rfl⟩:=hx
    exact absurd hr id
   |cons f fs=>
    cases f with
    |none=>
     simp only[gv,List.mem_cons] at hx
     rcases hx with rfl|hx
     ·exact absurd hr id
     ·exact ih _ _ _ hx hr
    |some md=>
     cases y with
     |list sz xs=>
      simp only[gv,List.mem_cons] at hx
      rcases hx with rfl|hx
      ·have hr:m=aI+c:=hr
       omega
      ·exact ih _ _ _ hx hr
     |int k n=>
      simp only[gv,List.mem_cons] at hx
      rcases hx with rfl|hx
      ·exact absurd hr id
      ·exact ih _ _ _ hx hr
     |bool b=>
      simp only[gv,List.mem_cons] at hx
      rcases hx with rfl|hx
      ·exact absurd hr id
      ·exact ih _ _ _ hx hr
 obtain⟨k,xs⟩:=d
 cases k with
 |one=>
  simp only[rU] at h
  match hh:gv c s xs,h with
  |[],h=>exact absurd h id
  |[x],h=>exact cP xs c s x (by rw[hh];simp) h
  |_::_::_,h=>exact absurd h id
 |agg=>
  obtain⟨x,hx,hr⟩:=h
  exact cP xs c s x hx hr
 |ptr=>exact absurd h id
theorem Nz:∀{ds:List Dv} {k c:Nat} {sig:aW} {s m:Nat},(lV k c sig ds s).ref m->aI<=m
 |[],k,c,sig,s,m,h=>by simp only[lV] at h;exact absurd h id
 |d::ds,k,c,[],s,m,h=>by
  simp only[lV,jp] at h
  split at h
  ·exact TZ h
  ·exact Nz h
 |d::ds,k,c,sg::sig,s,m,h=>by
  simp only[lV,jp] at h
  split at h
  ·exact TZ h
  ·exact Nz h
theorem R.NC {sig:aW} {ds:List Dv} {vals:List Value} {pas:List PA} (M:Kj w sig ds vals pas) (hN:ds.length<=N):
  R w.heap.size (xv (eF sig (pas.map (·.ps)))) w N (Al sig ds) {tmps:=vals.toArray++Array.replicate (N - vals.toArray.size) undef,defers:=[]} w (nZ w (eF sig (pas.map (·.ps)))):=by
 have ni:ds.map (·.2)=(pas.map (·.ps)).map fun l=>l.map PC.er:=by
  apply List.ext_getElem?
  intro i
  simp only[List.getElem?_map]
  cases hd:ds[i]? with
  |none=>
   have:ds.length<=i:=List.getElem?_eq_none_iff.1 hd
   rw[List.getElem?_eq_none (by rw[M.l2];exact this)]
   rfl
  |some d=>
   have hi:=(List.getElem?_eq_some_iff.1 hd).1
   have hv:vals[i]? =some (vals[i]'(by rw[M.l1];exact hi)):=List.getElem?_eq_getElem _
   have hp:pas[i]? =some (pas[i]'(by rw[M.l2];exact hi)):=List.getElem?_eq_getElem _
   have:=(M.at_ i d _ _ hd hv hp).1
   rw[hp]
   simp only[Option.map_some]
   rw[this]
 have fI:∀p∈pas,∀pc∈p.ps,Good w pc:=by
  intro p hp pc bd
  obtain⟨i,hi,rfl⟩:=List.getElem_of_mem hp
  have hd:ds[i]? =some (ds[i]'(by rw[<-M.l2];exact hi)):=List.getElem?_eq_getElem _
  have hv:vals[i]? =some (vals[i]'(by rw[M.l1,<-M.l2];exact hi)):=List.getElem?_eq_getElem _
  exact(M.at_ i _ _ _ hd hv (List.getElem?_eq_getElem hi)).2.1 pc bd
 have hg:∀x∈eF sig (pas.map (·.ps)),Good w x.2:=by
  intro x hx
  obtain⟨l,hl,qb⟩:=Ld hx
  obtain⟨p,hp,rfl⟩:=List.mem_map.1 hl
  exact fI p hp _ qb
 have zS:(Al sig ds).h=nj (eF sig (pas.map (·.ps))):=by
  funext n
  simp only[Al,nj,ni,GW]
 refine⟨rfl,by simp[M.l1];omega,fun s=>?_,fun s n hn=>Nat.ble_eq_true_of_le (Nz hn),?_,Fr.refl _ _ _ (Nat.le_refl _),fun n p b hp hb=>?_,fun n hn=>Nat.ble_eq_true_of_le hn⟩
 ·rw[zS]
  have:=Ny M.ok hg ds 0 0 sig vals pas M.l1 M.l2 M.at_ (fun q x h=>by rw[Nat.zero_add];exact h) M.free M.ptr M.aiz s
  simp only[Nat.zero_le,if_true,Nat.sub_zero] at this
  have e:(vals.toArray++Array.replicate (N - vals.toArray.size) undef).getD s undef=vals.getD s undef:=by
   simp only[Array.getD_eq_getD_getElem?,List.getD_eq_getElem?_getD]
   by_cases bX:s<vals.length
   ·simp[Array.getElem?_append,bX]
   ·rw[List.getElem?_eq_none (by omega)]
    simp only[Array.getElem?_append,List.size_toArray,bX,if_false,Array.getElem?_replicate]
    split<;>rfl
  rw[e]
  exact this
 ·rw[zS]
  exact HR.NC hg M.ok M.nb
 ·rw[zS] at hb
  obtain⟨zZ,m,sz,a,cap,xs,hf,e⟩:=pW hb
  have be:(if aI<=n then((eF sig (pas.map (·.ps)))[n - aI]?).map (fun x=>pz x.2) else none)=some p:=hp
  rw[if_pos zZ,hf] at be
  simp at be
  subst be
  have MC:(nZ w (eF sig (pas.map (·.ps)))).g n=pz (.list sz a cap xs):=by simp only[nZ,hf]
  rw[MC]
  exact⟨rfl,rfl,rfl,rfl,rfl,fun gr aK ar _ k j pc hk hL=>⟨pc,hk,rfl,hL⟩⟩
theorem PJ:∀{fl:List (Mode×C)} {q:Nat} {eJ:List C},wl σ q fl=some eJ->eJ.length=fl.length/\∀i x,fl[i]? =some x->∃o,eJ[i]? =some o/\AX σ (q+i) x=some o
 |[],q,eJ,h=>by simp only[wl] at h;injection h with h;subst h;exact⟨rfl,by simp⟩
 |y::l,q,eJ,h=>by
  simp only[wl] at h
  split at h
  ·rename_i o os h1 h2
   injection h with h
   subst h
   obtain⟨i1,i2⟩:=PJ h2
   refine⟨by simp[i1],fun i x hx=>?_⟩
   cases i with
   |zero=>simp at hx;subst hx;exact⟨o,rfl,h1⟩
   |succ i=>
    obtain⟨o',e1,e2⟩:=i2 i x (by simpa using hx)
    exact⟨o',by simpa using e1,by rw[show q+(i+1)=q+1+i by omega];exact e2⟩
  ·cases h
theorem aiG {q:Nat} {x:Mode×C} {o:C} (h:AX σ q x=some o):∃sz xs gr ar,x.2=.list sz xs/\σ.h (aI+q)=some (.row gr x.1 sz ar)/\ar.length=xs.length/\sd x.1 ar=true/\ar.map (fun e=>e.map C.qh)=xs.map (fun e=>e.map C.qh)/\o=.list sz ar:=by
 unfold AX at h
 split at h
 ·rename_i sz xs gr m' aK ar h1 h2
  split at h
  ·rename_i hc
   obtain⟨rfl,rfl,h3,h4,h5⟩:=hc
   injection h with h
   exact⟨_,xs,gr,ar,h1,h2,h3,h4,h5,h.symm⟩
  ·cases h
 ·cases h
theorem abq {px:List (List PC)} (hd:(px.map fun e=>e.map PC.er).all (fun e=>e.all C.r8)=true) {k j:Nat} {c:PC} (hk:At px k j c):∀sz a cap ys,c=.list sz a cap ys->∀b,¬aV b ys:=by
 rintro sz a cap ys rfl b
 obtain⟨e,he,hj⟩:=hk
 simp only[List.all_eq_true,List.mem_map] at hd
 have h1:=hd (e.map PC.er) ⟨e,List.mem_of_getElem? he,rfl⟩ (PC.er (.list sz a cap ys)) (List.mem_map.2 ⟨_,List.mem_of_getElem? hj,rfl⟩)
 rw[PC.dw] at h1
 exact Bg h1 b
theorem PC.aeY (c:PC):c.er.qh=c.gy:=by
 cases c with
 |int k n=>rfl
 |bool b=>rfl
 |list sz a cap xs=>rw[PC.dw];rfl
theorem akn {px px':List (List PC)} (hs:(px'.map fun e=>e.map PC.er).map (fun e=>e.map C.qh)=(px.map fun e=>e.map PC.er).map (fun e=>e.map C.qh)) {k j:Nat} {c:PC} (hk:At px' k j c):
  ∃c0,At px k j c0/\c0.gy=c.gy:=by
 obtain⟨e,he,hj⟩:=hk
 have h1:=congrArg (fun l=>l[k]?) hs
 simp only[List.getElem?_map,he,Option.map_some] at h1
 cases h0:px[k]? with
 |none=>rw[h0] at h1;cases h1
 |some e0=>
  rw[h0] at h1
  simp only[Option.map_some,Option.some.injEq] at h1
  have h2:=congrArg (fun l=>l[j]?) h1
  simp only[List.getElem?_map,hj,Option.map_some] at h2
  cases h3:e0[j]? with
  |none=>rw[h3] at h2;cases h2
  |some c0=>
   rw[h3] at h2
   simp only[Option.map_some,Option.some.injEq,PC.aeY] at h2
   exact⟨c0,⟨e0,h0,h3⟩,h2.symm⟩
theorem At.inj {α:Type} {px:List (List α)} {k j:Nat} {c c':α} (h:At px k j c) (h':At px k j c'):c=c':=by
 obtain⟨e,h1,h2⟩:=h
 obtain⟨e',h3,h4⟩:=h'
 rw[h1] at h3
 injection h3 with h3
 subst h3
 rw[h2] at h4
 injection h4
theorem XE {px px':List (List PC)} (hd:(px.map fun e=>e.map PC.er).all (fun e=>e.all C.r8)=true)
  (hl:∀k j pc,At px k j pc->pc.gy=true->∃df,At px' k j df/\df.val=pc.val/\df.gy=true) {b:Nat} (hb:aV b px):aV b px':=by
 obtain⟨k,j,c,hk,hc⟩:=hb
 cases c with
 |int k n=>exact absurd hc aR.aiC
 |bool x=>exact absurd hc aR.aiB
 |list sz a cap ys=>
  have vw:=abq hd hk sz a cap ys rfl
  rw[aR.kA] at hc
  rcases hc with⟨aC,o,rfl⟩|⟨k',j',c',da,cI⟩
  ·obtain⟨c',h1,h2,h3⟩:=hl k j _ hk rfl
   cases c' with
   |int k n=>cases h3
   |bool x=>cases h3
   |list aK a' rZ ys'=>
    simp only[PC.val] at h2
    injection h2 with e1 e2 e3
    subst e1
    refine⟨k,j,_,h1,?_⟩
    rw[aR.kA]
    refine .inl ⟨fun ad8=>?_,o,rfl⟩
    subst ad8
    exact aC (List.eq_nil_of_length_eq_zero e2.symm)
  ·exact absurd ⟨k',j',c',da,cI⟩ (vw b)
end
end Go.Am
