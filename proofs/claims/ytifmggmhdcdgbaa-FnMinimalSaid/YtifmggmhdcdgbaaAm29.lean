/- Am29: functions that change lists of their arguments: from code to contract. No condition. -/
import Derived.Test.YtifmggmhdcdgbaaAm28
set_option linter.unusedVariables false
namespace Go.Am
section
variable {B:Nat} {E:Ex} {w0 w w':World} {G G':Gh} {N:Nat} {h h':Nat->Option aq} {used:Nat->Bool}
variable {P:Program} {T:bg} {a:Act} {σ σ':St} {Q:Exit->Act->World->Prop}
theorem KG {α:Type}:∀{s:List (Option Mode)} {xs:List α} {x:Mode×α},x∈dJ s xs->x.2∈xs
 |some m::fs,y::xs,x,h=>by
  simp only[dJ,List.mem_cons] at h
  rcases h with rfl|h
  ·simp
  ·exact List.mem_cons_of_mem _ (KG h)
 |none::fs,y::xs,x,h=>by
  simp only[dJ] at h
  exact List.mem_cons_of_mem _ (KG h)
 |[],_,x,h=>by simp[dJ] at h
 |some m::fs,[],x,h=>by simp[dJ] at h
 |none::fs,[],x,h=>by simp[dJ] at h
theorem KE {α:Type}:∀{sig:bo} {rj:List (List α)} {x:Mode×α},x∈dW sig rj->∃xs∈rj,x.2∈xs
 |s::sig,xs::rj,x,h=>by
  simp only[dW,List.mem_append] at h
  rcases h with h|h
  ·exact⟨xs,by simp,KG h⟩
  ·obtain⟨ys,h1,h2⟩:=KE h
   exact⟨ys,by simp[h1],h2⟩
 |[],_,x,h=>by simp[dW] at h
 |s::sig,[],x,h=>by simp[dW] at h
theorem FN {fl:List (Mode×PC)} (eF:∀x∈fl,wM w x.1 x.2) (hg:∀x∈fl,Good w x.2):∀(c:Nat) (fs:List (Option Mode)) (ps:List PC),(∀(q:Nat) (x:Mode×PC),(dJ fs ps)[q]? =some x->fl[c+q]? =some x)->(∀pc∈ps,Good w pc)->
  (∀pc∈mW fs ps,∀x∈fl,∀b,aM b pc->¬aM b x.2)->cA w (nk w fl) (mF fl) (fS c fs (ps.map PC.er)) (ps.map PC.val)
 |c,[],ps,hq,fv,hu=>by
  simp only[fS]
  refine⟨by simp,fun j x u hj jq=>?_⟩
  simp only[List.getElem?_map,List.map_map] at hj jq
  cases hp:ps[j]? with
  |none=>rw[hp] at hj;cases hj
  |some pc=>
   rw[hp] at hj jq
   simp at hj jq
   subst hj;subst jq
   have hm:=List.mem_of_getElem? hp
   exact⟨PC.j8 pc,pc,rfl,rfl,fv pc hm,fun b hb=>⟨(fv pc hm).lt hb,fun⟨x,hx,dO⟩=>hu pc (by simpa[mW] using hm) x hx b hb dO⟩⟩
 |c,f::fs,[],hq,fv,hu=>by
  cases f<;>exact⟨rfl,by intro j c u hj;simp[fS] at hj⟩
 |c,none::fs,p::ps,hq,fv,hu=>by
  have ih:=FN eF hg c fs ps (fun q x h=>hq q x (by simpa[dJ] using h)) (fun pc h=>fv pc (by simp[h])) (fun pc h=>hu pc (by simp[mW,h]))
  simp only[List.map_cons,fS]
  refine⟨by simp[ih.1],fun j x u hj jq=>?_⟩
  cases j with
  |zero=>
   simp at hj jq
   subst hj;subst jq
   exact⟨PC.j8 p,p,rfl,rfl,fv p (by simp),fun b hb=>⟨(fv p (by simp)).lt hb,fun⟨x,hx,dO⟩=>hu p (by simp[mW]) x hx b hb dO⟩⟩
  |succ j=>exact ih.2 j x u (by simpa using hj) (by simpa using jq)
 |c,some m::fs,p::ps,hq,fv,hu=>by
  have h0:=hq 0 (m,p) (by simp[dJ])
  simp only[Nat.add_zero] at h0
  have tv:=List.mem_of_getElem? h0
  obtain⟨sz,a,cap,xs,e,eu,nq,u5⟩:=(eF _ tv).dB
  simp only at e
  subst e
  have ih:=FN eF hg (c+1) fs ps (fun q x h=>by have:=hq (q+1) x (by simpa[dJ] using h);rwa[show c+(q+1)=c+1+q by omega] at this) (fun pc h=>fv pc (by simp[h])) (fun pc h=>hu pc (by simpa[mW] using h))
  simp only[List.map_cons,PC.dr,fS]
  refine⟨by simp[ih.1],fun j x u hj jq=>?_⟩
  cases j with
  |zero=>
   simp at hj jq
   subst hj;subst jq
   refine⟨PC.j8 _,fun _=>?_⟩
   have LN:(nk w fl).g (aF+c)=oD (.list sz a cap xs):=by simp only[nk,Nat.add_sub_cancel_left,h0]
   rw[LN]
   rcases(hg _ tv).cases with rfl|⟨aw,jL,b,o,rfl⟩
   ·rw[DH]
    exact .inl ⟨rfl,rfl,rfl,rfl⟩
   ·rw[yq aw]
    exact .inr ⟨rfl,some (ad b o),by simp[PC.val],by simpa using jL,fun _=>by simp⟩
  |succ j=>exact ih.2 j x u (by simpa using hj) (by simpa using jq)
theorem Te {fl:List (Mode×PC)} (eF:∀x∈fl,wM w x.1 x.2) (hg:∀x∈fl,Good w x.2) {c:Nat} {s:List (Option Mode)} {d:Dv} {v:Value} {p:PA} (hA:yQ w d v p)
  (hq:∀(q:Nat) (x:Mode×PC),(dJ s p.ps)[q]? =some x->fl[c+q]? =some x) (hu:∀pc∈mW s p.ps,∀x∈fl,∀b,aM b pc->¬aM b x.2) (hp:p.k=.ptr->s=[]/\∀x∈fl,¬aM p.b x.2):
  RA w (nk w fl) (mF fl) (rv c s d) v:=by
 obtain⟨k,ps,b,o⟩:=p
 obtain⟨rfl,fv,hv⟩:=hA
 cases k with
 |one=>
  have hv:ps.map PC.val=[v]:=hv
  have hl:=FN eF hg c s ps hq fv hu
  rw[hv] at hl
  simp only[rv]
  obtain⟨x,hx⟩:∃x,fS c s (ps.map PC.er)=[x]:=by
   have:=hl.1
   match hh:fS c s (ps.map PC.er),this with
   |[x],_=>exact⟨x,rfl⟩
  rw[hx] at hl⊢
  exact .inr hl
 |agg=>
  have hv:v=.agg (ps.map PC.val).toArray:=hv
  exact⟨_,hv,FN eF hg c s ps hq fv hu⟩
 |ptr=>
  obtain⟨h1,h2,h3⟩:v=.pointer (some (ad b o))/\b<w.heap.size/\∀j c,ps[j]? =some c->w.cell? (ad b (o+j))=some c.val:=hv
  obtain⟨rfl,zT⟩:=hp rfl
  subst h1
  refine RA.fR rfl ⟨b,o,ps,by simp,rfl,⟨h2,fun⟨x,hx,dO⟩=>zT x hx dO⟩,fun j c hj=>?_⟩
  have hm:=List.mem_of_getElem? hj
  exact⟨h3 j c hj,fv c hm,fun b' aR=>⟨(fv c hm).lt aR,fun⟨x,hx,dO⟩=>hu c (by simpa[mW] using hm) x hx b' aR dO⟩⟩
theorem M8 {fl:List (Mode×PC)} (eF:∀x∈fl,wM w x.1 x.2) (hg:∀x∈fl,Good w x.2):∀(ds:List Dv) (k c:Nat) (sig:bo) (vals:List Value) (pas:List PA),vals.length=ds.length->pas.length=ds.length->
  (∀(i:Nat) (d:Dv) (v:Value) (p:PA),ds[i]? =some d->vals[i]? =some v->pas[i]? =some p->yQ w d v p)->(∀(q:Nat) (x:Mode×PC),(dW sig (pas.map (·.ps)))[q]? =some x->fl[c+q]? =some x)->
  (∀pc∈oO sig (pas.map (·.ps)),∀x∈fl,∀b,aM b pc->¬aM b x.2)->(∀p∈pas,p.k=.ptr->∀x∈fl,¬aM p.b x.2)->(∀(i:Nat) (p:PA) (s:List (Option Mode)),pas[i]? =some p->sig[i]? =some s->p.k=.ptr->s=[])->
  ∀s,RA w (nk w fl) (mF fl) (lk k c sig ds s) (if k<=s then vals.getD (s - k) undef else undef)
 |[],k,c,sig,vals,pas,l1,l2,hA,hq,hu,hp,hs,s=>by simp only[lk];exact Or.inl rfl
 |d::ds,k,c,sig,v::vals,p::pas,l1,l2,hA,hq,hu,hp,hs,s=>by
  have WY:vals.length=ds.length:=by simpa using l1
  have Xa:pas.length=ds.length:=by simpa using l2
  have A0:=hA 0 d v p rfl rfl rfl
  have A1:=fun i d' v' p' (h1:ds[i]? =some d') (h2:vals[i]? =some v') (h3:pas[i]? =some p')=>hA (i+1) d' v' p' (by simpa using h1) (by simpa using h2) (by simpa using h3)
  have fv:=A0.2.1
  have hd2:d.2=p.ps.map PC.er:=by rw[A0.1]
  have shift:∀x:ak,(s≠k->RA w (nk w fl) (mF fl) x (if k+1<=s then vals.getD (s - (k+1)) undef else undef))->s≠k->RA w (nk w fl) (mF fl) x (if k<=s then(v::vals).getD (s - k) undef else undef):=by
   intro x hx tF
   have:=hx tF
   by_cases hk:k+1<=s
   ·rw[if_pos hk] at this
    rw[if_pos (by omega),show s - k=(s - (k+1))+1 by omega]
    simpa using this
   ·rw[if_neg hk] at this
    rw[if_neg (by omega)]
    exact this
  cases sig with
  |nil=>
   simp only[lk]
   by_cases tF:s=k
   ·subst tF
    rw[bC,if_pos (Nat.le_refl _)]
    simp only[Nat.sub_self,List.getD_cons_zero]
    refine Te eF hg A0 (fun q x h=>by simp[dJ] at h) (fun pc aV=>hu pc ?_) (fun e=>⟨rfl,hp p (by simp) e⟩)
    simp only[mW] at aV
    simp[oO,aV]
   ·rw[cb _ _ _ _ tF]
    refine shift _ (fun _=>M8 eF hg ds (k+1) c [] vals pas WY Xa A1 (fun q x h=>by simp[dW] at h) (fun pc aV=>hu pc ?_) (fun p aX=>hp p (by simp[aX])) (fun i p s _ h=>by simp at h) s) tF
    simp only[oO] at aV
    simp only[List.map_cons,oO,List.flatten_cons,List.mem_append]
    exact .inr aV
  |cons sg sig=>
   simp only[lk]
   have hlen:(dJ sg d.2).length=(dJ sg p.ps).length:=by rw[hd2,Gz,List.length_map]
   by_cases tF:s=k
   ·subst tF
    rw[bC,if_pos (Nat.le_refl _)]
    simp only[Nat.sub_self,List.getD_cons_zero]
    refine Te eF hg A0 (fun q x h=>hq q x ?_) (fun pc aV=>hu pc ?_) (fun e=>⟨hs 0 p sg rfl rfl e,hp p (by simp) e⟩)
    ·simp only[List.map_cons,dW]
     rw[List.getElem?_append_left (List.getElem?_eq_some_iff.1 h).1]
     exact h
    ·simp only[List.map_cons,oO,List.mem_append]
     exact .inl aV
   ·rw[cb _ _ _ _ tF]
    refine shift _ (fun _=>M8 eF hg ds (k+1) (c+(dJ sg d.2).length) sig vals pas WY Xa A1 (fun q x h=>?_) (fun pc aV=>hu pc ?_) (fun p aX=>hp p (by simp[aX])) (fun i p s h1 h2=>hs (i+1) p s (by simpa using h1) (by simpa using h2)) s) tF
    ·have:=hq ((dJ sg p.ps).length+q) x (by
      simp only[List.map_cons,dW]
      rw[List.getElem?_append_right (Nat.le_add_right _ _),Nat.add_sub_cancel_left]
      exact h)
     rw[hlen,Nat.add_assoc]
     exact this
    ·simp only[List.map_cons,oO,List.mem_append]
     exact .inr aV
 |_::_,k,c,sig,[],pas,l1,l2,hA,hq,hu,hp,hs,s=>by simp at l1
 |_::_,k,c,sig,_::_,[],l1,l2,hA,hq,hu,hp,hs,s=>by simp at l2
theorem Tf {c:Nat} {s:List (Option Mode)} {d:Dv} {m:Nat} (h:(rv c s d).ref m):aF<=m:=by
 have cu:∀(cs:List C) (c:Nat) (s:List (Option Mode)),∀x∈fS c s cs,x.ref m->aF<=m:=by
  intro cs
  induction cs with
  |nil=>
   intro c s x hx
   cases s with
   |nil=>simp[fS] at hx
   |cons f fs=>cases f<;>simp[fS] at hx
  |cons y cs ih=>
   intro c s x hx hr
   cases s with
   |nil=>
    simp only[fS,List.mem_map] at hx
    obtain⟨z,_,rfl⟩:=hx
    exact absurd hr id
   |cons f fs=>
    cases f with
    |none=>
     simp only[fS,List.mem_cons] at hx
     rcases hx with rfl|hx
     ·exact absurd hr id
     ·exact ih _ _ _ hx hr
    |some md=>
     cases y with
     |list sz xs=>
      simp only[fS,List.mem_cons] at hx
      rcases hx with rfl|hx
      ·have hr:m=aF+c:=hr
       omega
      ·exact ih _ _ _ hx hr
     |int k n=>
      simp only[fS,List.mem_cons] at hx
      rcases hx with rfl|hx
      ·exact absurd hr id
      ·exact ih _ _ _ hx hr
     |bool b=>
      simp only[fS,List.mem_cons] at hx
      rcases hx with rfl|hx
      ·exact absurd hr id
      ·exact ih _ _ _ hx hr
 obtain⟨k,xs⟩:=d
 cases k with
 |one=>
  simp only[rv] at h
  match hh:fS c s xs,h with
  |[],h=>exact absurd h id
  |[x],h=>exact cu xs c s x (by rw[hh];simp) h
  |_::_::_,h=>exact absurd h id
 |agg=>
  obtain⟨x,hx,hr⟩:=h
  exact cu xs c s x hx hr
 |ptr=>exact absurd h id
theorem M9:∀{ds:List Dv} {k c:Nat} {sig:bo} {s m:Nat},(lk k c sig ds s).ref m->aF<=m
 |[],k,c,sig,s,m,h=>by simp only[lk] at h;exact absurd h id
 |d::ds,k,c,[],s,m,h=>by
  simp only[lk,iK] at h
  split at h
  ·exact Tf h
  ·exact M9 h
 |d::ds,k,c,sg::sig,s,m,h=>by
  simp only[lk,iK] at h
  split at h
  ·exact Tf h
  ·exact M9 h
theorem R.Nc {sig:bo} {ds:List Dv} {vals:List Value} {pas:List PA} (M:JJ w sig ds vals pas) (hN:ds.length<=N):
  R w.heap.size (xg (dW sig (pas.map (·.ps)))) w N (Ah sig ds) {tmps:=vals.toArray++Array.replicate (N - vals.toArray.size) undef,defers:=[]} w (nk w (dW sig (pas.map (·.ps)))):=by
 have mE:ds.map (·.2)=(pas.map (·.ps)).map fun l=>l.map PC.er:=by
  apply List.ext_getElem?
  intro i
  simp only[List.getElem?_map]
  cases hd:ds[i]? with
  |none=>
   have:ds.length<=i:=List.getElem?_eq_none_iff.1 hd
   rw[List.getElem?_eq_none (by rw[M.l2];exact this)]
   rfl
  |some d=>
   have hi:=(List.getElem?_eq_some_iff.1 hd).1
   have hv:vals[i]? =some (vals[i]'(by rw[M.l1];exact hi)):=List.getElem?_eq_getElem _
   have hp:pas[i]? =some (pas[i]'(by rw[M.l2];exact hi)):=List.getElem?_eq_getElem _
   have:=(M.at_ i d _ _ hd hv hp).1
   rw[hp]
   simp only[Option.map_some]
   rw[this]
 have fv:∀p∈pas,∀pc∈p.ps,Good w pc:=by
  intro p hp pc aV
  obtain⟨i,hi,rfl⟩:=List.getElem_of_mem hp
  have hd:ds[i]? =some (ds[i]'(by rw[<-M.l2];exact hi)):=List.getElem?_eq_getElem _
  have hv:vals[i]? =some (vals[i]'(by rw[M.l1,<-M.l2];exact hi)):=List.getElem?_eq_getElem _
  exact(M.at_ i _ _ _ hd hv (List.getElem?_eq_getElem hi)).2.1 pc aV
 have hg:∀x∈dW sig (pas.map (·.ps)),Good w x.2:=by
  intro x hx
  obtain⟨l,hl,pt⟩:=KE hx
  obtain⟨p,hp,rfl⟩:=List.mem_map.1 hl
  exact fv p hp _ pt
 have zL:(Ah sig ds).h=mF (dW sig (pas.map (·.ps))):=by
  funext n
  simp only[Ah,mF,mE,Gy]
 refine⟨rfl,by simp[M.l1];omega,fun s=>?_,fun s n hn=>Nat.ble_eq_true_of_le (M9 hn),?_,Fr.refl _ _ _ (Nat.le_refl _),fun n p b hp hb=>?_,fun n hn=>Nat.ble_eq_true_of_le hn⟩
 ·rw[zL]
  have:=M8 M.ok hg ds 0 0 sig vals pas M.l1 M.l2 M.at_ (fun q x h=>by rw[Nat.zero_add];exact h) M.free M.ptr M.ah9 s
  simp only[Nat.zero_le,if_true,Nat.sub_zero] at this
  have e:(vals.toArray++Array.replicate (N - vals.toArray.size) undef).getD s undef=vals.getD s undef:=by
   simp only[Array.getD_eq_getD_getElem?,List.getD_eq_getElem?_getD]
   by_cases bL:s<vals.length
   ·simp[Array.getElem?_append,bL]
   ·rw[List.getElem?_eq_none (by omega)]
    simp only[Array.getElem?_append,List.size_toArray,bL,if_false,Array.getElem?_replicate]
    split<;>rfl
  rw[e]
  exact this
 ·rw[zL]
  exact HR.Nc hg M.ok M.mz
 ·rw[zL] at hb
  obtain⟨zS,m,sz,a,cap,xs,hf,e⟩:=pk hb
  have aX:(if aF<=n then((dW sig (pas.map (·.ps)))[n - aF]?).map (fun x=>oD x.2) else none)=some p:=hp
  rw[if_pos zS,hf] at aX
  simp at aX
  subst aX
  have LN:(nk w (dW sig (pas.map (·.ps)))).g n=oD (.list sz a cap xs):=by simp only[nk,hf]
  rw[LN]
  exact⟨rfl,rfl,rfl,rfl,rfl,fun gr aG ar _ k j pc hk hL=>⟨pc,hk,rfl,hL⟩⟩
theorem Pr:∀{fl:List (Mode×C)} {q:Nat} {d7:List C},vQ σ q fl=some d7->d7.length=fl.length/\∀i x,fl[i]? =some x->∃o,d7[i]? =some o/\AY σ (q+i) x=some o
 |[],q,d7,h=>by simp only[vQ] at h;injection h with h;subst h;exact⟨rfl,by simp⟩
 |y::l,q,d7,h=>by
  simp only[vQ] at h
  split at h
  ·rename_i o os h1 h2
   injection h with h
   subst h
   obtain⟨i1,i2⟩:=Pr h2
   refine⟨by simp[i1],fun i x hx=>?_⟩
   cases i with
   |zero=>simp at hx;subst hx;exact⟨o,rfl,h1⟩
   |succ i=>
    obtain⟨o',e1,e2⟩:=i2 i x (by simpa using hx)
    exact⟨o',by simpa using e1,by rw[show q+(i+1)=q+1+i by omega];exact e2⟩
  ·cases h
theorem aij {q:Nat} {x:Mode×C} {o:C} (h:AY σ q x=some o):∃sz xs gr ar,x.2=.list sz xs/\σ.h (aF+q)=some (.row gr x.1 sz ar)/\ar.length=xs.length/\rJ x.1 ar=true/\ar.map (fun e=>e.map C.pB)=xs.map (fun e=>e.map C.pB)/\o=.list sz ar:=by
 unfold AY at h
 split at h
 ·rename_i sz xs gr m' aG ar h1 h2
  split at h
  ·rename_i hc
   obtain⟨rfl,rfl,h3,h4,h5⟩:=hc
   injection h with h
   exact⟨_,xs,gr,ar,h1,h2,h3,h4,h5,h.symm⟩
  ·cases h
 ·cases h
theorem aa7 {px:List (List PC)} (hd:(px.map fun e=>e.map PC.er).all (fun e=>e.all C.rE)=true) {k j:Nat} {c:PC} (hk:At px k j c):∀sz a cap ys,c=.list sz a cap ys->∀b,¬aP b ys:=by
 rintro sz a cap ys rfl b
 obtain⟨e,he,hj⟩:=hk
 simp only[List.all_eq_true,List.mem_map] at hd
 have h1:=hd (e.map PC.er) ⟨e,List.mem_of_getElem? he,rfl⟩ (PC.er (.list sz a cap ys)) (List.mem_map.2 ⟨_,List.mem_of_getElem? hj,rfl⟩)
 rw[PC.dr] at h1
 exact Bf h1 b
theorem PC.aeY (c:PC):c.er.pB=c.f7:=by
 cases c with
 |int k n=>rfl
 |bool b=>rfl
 |list sz a cap xs=>rw[PC.dr];rfl
theorem aj2 {px px':List (List PC)} (hs:(px'.map fun e=>e.map PC.er).map (fun e=>e.map C.pB)=(px.map fun e=>e.map PC.er).map (fun e=>e.map C.pB)) {k j:Nat} {c:PC} (hk:At px' k j c):
  ∃c0,At px k j c0/\c0.f7=c.f7:=by
 obtain⟨e,he,hj⟩:=hk
 have h1:=congrArg (fun l=>l[k]?) hs
 simp only[List.getElem?_map,he,Option.map_some] at h1
 cases h0:px[k]? with
 |none=>rw[h0] at h1;cases h1
 |some e0=>
  rw[h0] at h1
  simp only[Option.map_some,Option.some.injEq] at h1
  have h2:=congrArg (fun l=>l[j]?) h1
  simp only[List.getElem?_map,hj,Option.map_some] at h2
  cases h3:e0[j]? with
  |none=>rw[h3] at h2;cases h2
  |some c0=>
   rw[h3] at h2
   simp only[Option.map_some,Option.some.injEq,PC.aeY] at h2
   exact⟨c0,⟨e0,h0,h3⟩,h2.symm⟩
theorem At.inj {α:Type} {px:List (List α)} {k j:Nat} {c c':α} (h:At px k j c) (h':At px k j c'):c=c':=by
 obtain⟨e,h1,h2⟩:=h
 obtain⟨e',h3,h4⟩:=h'
 rw[h1] at h3
 injection h3 with h3
 subst h3
 rw[h2] at h4
 injection h4
theorem Xv {px px':List (List PC)} (hd:(px.map fun e=>e.map PC.er).all (fun e=>e.all C.rE)=true)
  (hl:∀k j pc,At px k j pc->pc.f7=true->∃c8,At px' k j c8/\c8.val=pc.val/\c8.f7=true) {b:Nat} (hb:aP b px):aP b px':=by
 obtain⟨k,j,c,hk,hc⟩:=hb
 cases c with
 |int k n=>exact absurd hc aM.aib
 |bool x=>exact absurd hc aM.aia
 |list sz a cap ys=>
  have u5:=aa7 hd hk sz a cap ys rfl
  rw[aM.jZ] at hc
  rcases hc with⟨aw,o,rfl⟩|⟨k',j',c',cW,ct⟩
  ·obtain⟨c',h1,h2,h3⟩:=hl k j _ hk rfl
   cases c' with
   |int k n=>cases h3
   |bool x=>cases h3
   |list aG a' rB ys'=>
    simp only[PC.val] at h2
    injection h2 with e1 e2 e3
    subst e1
    refine⟨k,j,_,h1,?_⟩
    rw[aM.jZ]
    refine .inl ⟨fun adu=>?_,o,rfl⟩
    subst adu
    exact aw (List.eq_nil_of_length_eq_zero e2.symm)
  ·exact absurd ⟨k',j',c',cW,ct⟩ (u5 b)
end
end Go.Am
