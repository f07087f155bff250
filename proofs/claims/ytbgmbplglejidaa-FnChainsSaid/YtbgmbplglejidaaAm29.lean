/- Am29: functions that change lists of their arguments: from code to contract. No condition. -/
import Derived.Test.YtbgmbplglejidaaAm28
set_option linter.unusedVariables false
namespace Go.Am
section
variable {B:Nat} {E:Ex} {w0 w w':World} {G G':Gh} {N:Nat} {h h':Nat->Option ao} {used:Nat->Bool}
variable {P:Program} {T:aO} {a:Act} {σ σ':St} {Q:Exit->Act->World->Prop}
theorem MD {α:Type}:∀{s:List (Option Mode)} {xs:List α} {x:Mode×α},x∈eo s xs->x.2∈xs
 |some m::fs,y::xs,x,h=>by
  simp only[eo,List.mem_cons] at h
  rcases h with rfl|h
  ·simp
  ·exact List.mem_cons_of_mem _ (MD h)
 |none::fs,y::xs,x,h=>by
  simp only[eo] at h
  exact List.mem_cons_of_mem _ (MD h)
 |[],_,x,h=>by simp[eo] at h
 |some m::fs,[],x,h=>by simp[eo] at h
 |none::fs,[],x,h=>by simp[eo] at h
theorem MB {α:Type}:∀{sig:aN} {r8:List (List α)} {x:Mode×α},x∈eC sig r8->∃xs∈r8,x.2∈xs
 |s::sig,xs::r8,x,h=>by
  simp only[eC,List.mem_append] at h
  rcases h with h|h
  ·exact⟨xs,by simp,MD h⟩
  ·obtain⟨ys,h1,h2⟩:=MB h
   exact⟨ys,by simp[h1],h2⟩
 |[],_,x,h=>by simp[eC] at h
 |s::sig,[],x,h=>by simp[eC] at h
theorem Hq {fl:List (Mode×PC)} (fU:∀x∈fl,xA w x.1 x.2) (hg:∀x∈fl,Good w x.2):∀(c:Nat) (fs:List (Option Mode)) (ps:List PC),(∀(q:Nat) (x:Mode×PC),(eo fs ps)[q]? =some x->fl[c+q]? =some x)->(∀pc∈ps,Good w pc)->
  (∀pc∈nB fs ps,∀x∈fl,∀b,aS b pc->¬aS b x.2)->cN w (nT w fl) (ng fl) (gv c fs (ps.map PC.er)) (ps.map PC.val)
 |c,[],ps,hq,fV,hu=>by
  simp only[gv]
  refine⟨by simp,fun j x u hj kG=>?_⟩
  simp only[List.getElem?_map,List.map_map] at hj kG
  cases hp:ps[j]? with
  |none=>rw[hp] at hj;cases hj
  |some pc=>
   rw[hp] at hj kG
   simp at hj kG
   subst hj;subst kG
   have hm:=List.mem_of_getElem? hp
   exact⟨PC.kw pc,pc,rfl,rfl,fV pc hm,fun b hb=>⟨(fV pc hm).lt hb,fun⟨x,hx,eD⟩=>hu pc (by simpa[nB] using hm) x hx b hb eD⟩⟩
 |c,f::fs,[],hq,fV,hu=>by
  cases f<;>exact⟨rfl,by intro j c u hj;simp[gv] at hj⟩
 |c,none::fs,p::ps,hq,fV,hu=>by
  have ih:=Hq fU hg c fs ps (fun q x h=>hq q x (by simpa[eo] using h)) (fun pc h=>fV pc (by simp[h])) (fun pc h=>hu pc (by simp[nB,h]))
  simp only[List.map_cons,gv]
  refine⟨by simp[ih.1],fun j x u hj kG=>?_⟩
  cases j with
  |zero=>
   simp at hj kG
   subst hj;subst kG
   exact⟨PC.kw p,p,rfl,rfl,fV p (by simp),fun b hb=>⟨(fV p (by simp)).lt hb,fun⟨x,hx,eD⟩=>hu p (by simp[nB]) x hx b hb eD⟩⟩
  |succ j=>exact ih.2 j x u (by simpa using hj) (by simpa using kG)
 |c,some m::fs,p::ps,hq,fV,hu=>by
  have h0:=hq 0 (m,p) (by simp[eo])
  simp only[Nat.add_zero] at h0
  have ui:=List.mem_of_getElem? h0
  obtain⟨sz,a,cap,xs,e,dL,nX,vV⟩:=(fU _ ui).dR
  simp only at e
  subst e
  have ih:=Hq fU hg (c+1) fs ps (fun q x h=>by have:=hq (q+1) x (by simpa[eo] using h);rwa[show c+(q+1)=c+1+q by omega] at this) (fun pc h=>fV pc (by simp[h])) (fun pc h=>hu pc (by simpa[nB] using h))
  simp only[List.map_cons,PC.dJ,gv]
  refine⟨by simp[ih.1],fun j x u hj kG=>?_⟩
  cases j with
  |zero=>
   simp at hj kG
   subst hj;subst kG
   refine⟨PC.kw _,fun _=>?_⟩
   have Oe:(nT w fl).g (aK+c)=pz (.list sz a cap xs):=by simp only[nT,Nat.add_sub_cancel_left,h0]
   rw[Oe]
   rcases(hg _ ui).cases with rfl|⟨aB,ju,b,o,rfl⟩
   ·rw[EE]
    exact .inl ⟨rfl,rfl,rfl,rfl⟩
   ·rw[yZ aB]
    exact .inr ⟨rfl,some (ad b o),by simp[PC.val],by simpa using ju,fun _=>by simp⟩
  |succ j=>exact ih.2 j x u (by simpa using hj) (by simpa using kG)
theorem V7 {fl:List (Mode×PC)} (fU:∀x∈fl,xA w x.1 x.2) (hg:∀x∈fl,Good w x.2) {c:Nat} {s:List (Option Mode)} {d:Dv} {v:Value} {p:PA} (hA:zz w d v p)
  (hq:∀(q:Nat) (x:Mode×PC),(eo s p.ps)[q]? =some x->fl[c+q]? =some x) (hu:∀pc∈nB s p.ps,∀x∈fl,∀b,aS b pc->¬aS b x.2) (hp:p.k=.ptr->s=[]/\∀x∈fl,¬aS p.b x.2):
  RA w (nT w fl) (ng fl) (sf c s d) v:=by
 obtain⟨k,ps,b,o⟩:=p
 obtain⟨rfl,fV,hv⟩:=hA
 cases k with
 |one=>
  have hv:ps.map PC.val=[v]:=hv
  have hl:=Hq fU hg c s ps hq fV hu
  rw[hv] at hl
  simp only[sf]
  obtain⟨x,hx⟩:∃x,gv c s (ps.map PC.er)=[x]:=by
   have:=hl.1
   match hh:gv c s (ps.map PC.er),this with
   |[x],_=>exact⟨x,rfl⟩
  rw[hx] at hl⊢
  exact .inr hl
 |agg=>
  have hv:v=.agg (ps.map PC.val).toArray:=hv
  exact⟨_,hv,Hq fU hg c s ps hq fV hu⟩
 |ptr=>
  obtain⟨h1,h2,h3⟩:v=.pointer (some (ad b o))/\b<w.heap.size/\∀j c,ps[j]? =some c->w.cell? (ad b (o+j))=some c.val:=hv
  obtain⟨rfl,Ba⟩:=hp rfl
  subst h1
  refine RA.ga rfl ⟨b,o,ps,by simp,rfl,⟨h2,fun⟨x,hx,eD⟩=>Ba x hx eD⟩,fun j c hj=>?_⟩
  have hm:=List.mem_of_getElem? hj
  exact⟨h3 j c hj,fV c hm,fun b' aY=>⟨(fV c hm).lt aY,fun⟨x,hx,eD⟩=>hu c (by simpa[nB] using hm) x hx b' aY eD⟩⟩
theorem O5 {fl:List (Mode×PC)} (fU:∀x∈fl,xA w x.1 x.2) (hg:∀x∈fl,Good w x.2):∀(ds:List Dv) (k c:Nat) (sig:aN) (vals:List Value) (pas:List PA),vals.length=ds.length->pas.length=ds.length->
  (∀(i:Nat) (d:Dv) (v:Value) (p:PA),ds[i]? =some d->vals[i]? =some v->pas[i]? =some p->zz w d v p)->(∀(q:Nat) (x:Mode×PC),(eC sig (pas.map (·.ps)))[q]? =some x->fl[c+q]? =some x)->
  (∀pc∈pI sig (pas.map (·.ps)),∀x∈fl,∀b,aS b pc->¬aS b x.2)->(∀p∈pas,p.k=.ptr->∀x∈fl,¬aS p.b x.2)->(∀(i:Nat) (p:PA) (s:List (Option Mode)),pas[i]? =some p->sig[i]? =some s->p.k=.ptr->s=[])->
  ∀s,RA w (nT w fl) (ng fl) (lK k c sig ds s) (if k<=s then vals.getD (s - k) undef else undef)
 |[],k,c,sig,vals,pas,l1,l2,hA,hq,hu,hp,hs,s=>by simp only[lK];exact Or.inl rfl
 |d::ds,k,c,sig,v::vals,p::pas,l1,l2,hA,hq,hu,hp,hs,s=>by
  have ZQ:vals.length=ds.length:=by simpa using l1
  have ZT:pas.length=ds.length:=by simpa using l2
  have A0:=hA 0 d v p rfl rfl rfl
  have A1:=fun i d' v' p' (h1:ds[i]? =some d') (h2:vals[i]? =some v') (h3:pas[i]? =some p')=>hA (i+1) d' v' p' (by simpa using h1) (by simpa using h2) (by simpa using h3)
  have fV:=A0.2.1
  have hd2:d.2=p.ps.map PC.er:=by rw[A0.1]
  have shift:∀x:aj,(s≠k->RA w (nT w fl) (ng fl) x (if k+1<=s then vals.getD (s - (k+1)) undef else undef))->s≠k->RA w (nT w fl) (ng fl) x (if k<=s then(v::vals).getD (s - k) undef else undef):=by
   intro x hx uq
   have:=hx uq
   by_cases hk:k+1<=s
   ·rw[if_pos hk] at this
    rw[if_pos (by omega),show s - k=(s - (k+1))+1 by omega]
    simpa using this
   ·rw[if_neg hk] at this
    rw[if_neg (by omega)]
    exact this
  cases sig with
  |nil=>
   simp only[lK]
   by_cases uq:s=k
   ·subst uq
    rw[bF,if_pos (Nat.le_refl _)]
    simp only[Nat.sub_self,List.getD_cons_zero]
    refine V7 fU hg A0 (fun q x h=>by simp[eo] at h) (fun pc aZ=>hu pc ?_) (fun e=>⟨rfl,hp p (by simp) e⟩)
    simp only[nB] at aZ
    simp[pI,aZ]
   ·rw[cq _ _ _ _ uq]
    refine shift _ (fun _=>O5 fU hg ds (k+1) c [] vals pas ZQ ZT A1 (fun q x h=>by simp[eC] at h) (fun pc aZ=>hu pc ?_) (fun p bi=>hp p (by simp[bi])) (fun i p s _ h=>by simp at h) s) uq
    simp only[pI] at aZ
    simp only[List.map_cons,pI,List.flatten_cons,List.mem_append]
    exact .inr aZ
  |cons sg sig=>
   simp only[lK]
   have hlen:(eo sg d.2).length=(eo sg p.ps).length:=by rw[hd2,Ip,List.length_map]
   by_cases uq:s=k
   ·subst uq
    rw[bF,if_pos (Nat.le_refl _)]
    simp only[Nat.sub_self,List.getD_cons_zero]
    refine V7 fU hg A0 (fun q x h=>hq q x ?_) (fun pc aZ=>hu pc ?_) (fun e=>⟨hs 0 p sg rfl rfl e,hp p (by simp) e⟩)
    ·simp only[List.map_cons,eC]
     rw[List.getElem?_append_left (List.getElem?_eq_some_iff.1 h).1]
     exact h
    ·simp only[List.map_cons,pI,List.mem_append]
     exact .inl aZ
   ·rw[cq _ _ _ _ uq]
    refine shift _ (fun _=>O5 fU hg ds (k+1) (c+(eo sg d.2).length) sig vals pas ZQ ZT A1 (fun q x h=>?_) (fun pc aZ=>hu pc ?_) (fun p bi=>hp p (by simp[bi])) (fun i p s h1 h2=>hs (i+1) p s (by simpa using h1) (by simpa using h2)) s) uq
    ·have:=hq ((eo sg p.ps).length+q) x (by
      simp only[List.map_cons,eC]
      rw[List.getElem?_append_right (Nat.le_add_right _ _),Nat.add_sub_cancel_left]
      exact h)
     rw[hlen,Nat.add_assoc]
     exact this
    ·simp only[List.map_cons,pI,List.mem_append]
     exact .inr aZ
 |_::_,k,c,sig,[],pas,l1,l2,hA,hq,hu,hp,hs,s=>by simp at l1
 |_::_,k,c,sig,_::_,[],l1,l2,hA,hq,hu,hp,hs,s=>by simp at l2
theorem V8 {c:Nat} {s:List (Option Mode)} {d:Dv} {m:Nat} (h:(sf c s d).ref m):aK<=m:=by
 have cf:∀(cs:List C) (c:Nat) (s:List (Option Mode)),∀x∈gv c s cs,x.ref m->aK<=m:=by
  intro cs
  induction cs with
  |nil=>
   intro c s x hx
   cases s with
   |nil=>simp[gv] at hx
   |cons f fs=>cases f<;>simp[gv] at hx
  |cons y cs ih=>
   intro c s x hx hr
   cases s with
   |nil=>
    simp only[gv,List.mem_map] at hx
    obtain⟨z,_,rfl⟩:=hx
    exact absurd hr id
   |cons f fs=>
    cases f with
    |none=>
     simp only[gv,List.mem_cons] at hx
     rcases hx with rfl|hx
     ·exact absurd hr id
     ·exact ih _ _ _ hx hr
    |some md=>
     cases y with
     |list sz xs=>
      simp only[gv,List.mem_cons] at hx
      rcases hx with rfl|hx
      ·have hr:m=aK+c:=hr
       omega
      ·exact ih _ _ _ hx hr
     |int k n=>
      simp only[gv,List.mem_cons] at hx
      rcases hx with rfl|hx
      ·exact absurd hr id
      ·exact ih _ _ _ hx hr
     |bool b=>
      simp only[gv,List.mem_cons] at hx
      rcases hx with rfl|hx
      ·exact absurd hr id
      ·exact ih _ _ _ hx hr
 obtain⟨k,xs⟩:=d
 cases k with
 |one=>
  simp only[sf] at h
  match hh:gv c s xs,h with
  |[],h=>exact absurd h id
  |[x],h=>exact cf xs c s x (by rw[hh];simp) h
  |_::_::_,h=>exact absurd h id
 |agg=>
  obtain⟨x,hx,hr⟩:=h
  exact cf xs c s x hx hr
 |ptr=>exact absurd h id
theorem O6:∀{ds:List Dv} {k c:Nat} {sig:aN} {s m:Nat},(lK k c sig ds s).ref m->aK<=m
 |[],k,c,sig,s,m,h=>by simp only[lK] at h;exact absurd h id
 |d::ds,k,c,[],s,m,h=>by
  simp only[lK,iP] at h
  split at h
  ·exact V8 h
  ·exact O6 h
 |d::ds,k,c,sg::sig,s,m,h=>by
  simp only[lK,iP] at h
  split at h
  ·exact V8 h
  ·exact O6 h
theorem R.O9 {sig:aN} {ds:List Dv} {vals:List Value} {pas:List PA} (M:CI w sig ds vals pas) (hN:ds.length<=N):
  R w.heap.size (xZ (eC sig (pas.map (·.ps)))) w N (Bt sig ds) {tmps:=vals.toArray++Array.replicate (N - vals.toArray.size) undef,defers:=[]} w (nT w (eC sig (pas.map (·.ps)))):=by
 have nf:ds.map (·.2)=(pas.map (·.ps)).map fun l=>l.map PC.er:=by
  apply List.ext_getElem?
  intro i
  simp only[List.getElem?_map]
  cases hd:ds[i]? with
  |none=>
   have:ds.length<=i:=List.getElem?_eq_none_iff.1 hd
   rw[List.getElem?_eq_none (by rw[M.l2];exact this)]
   rfl
  |some d=>
   have hi:=(List.getElem?_eq_some_iff.1 hd).1
   have hv:vals[i]? =some (vals[i]'(by rw[M.l1];exact hi)):=List.getElem?_eq_getElem _
   have hp:pas[i]? =some (pas[i]'(by rw[M.l2];exact hi)):=List.getElem?_eq_getElem _
   have:=(M.at_ i d _ _ hd hv hp).1
   rw[hp]
   simp only[Option.map_some]
   rw[this]
 have fV:∀p∈pas,∀pc∈p.ps,Good w pc:=by
  intro p hp pc aZ
  obtain⟨i,hi,rfl⟩:=List.getElem_of_mem hp
  have hd:ds[i]? =some (ds[i]'(by rw[<-M.l2];exact hi)):=List.getElem?_eq_getElem _
  have hv:vals[i]? =some (vals[i]'(by rw[M.l1,<-M.l2];exact hi)):=List.getElem?_eq_getElem _
  exact(M.at_ i _ _ _ hd hv (List.getElem?_eq_getElem hi)).2.1 pc aZ
 have hg:∀x∈eC sig (pas.map (·.ps)),Good w x.2:=by
  intro x hx
  obtain⟨l,hl,qh⟩:=MB hx
  obtain⟨p,hp,rfl⟩:=List.mem_map.1 hl
  exact fV p hp _ qh
 have AY:(Bt sig ds).h=ng (eC sig (pas.map (·.ps))):=by
  funext n
  simp only[Bt,ng,nf,Io]
 refine⟨rfl,by simp[M.l1];omega,fun s=>?_,fun s n hn=>Nat.ble_eq_true_of_le (O6 hn),?_,Fr.refl _ _ _ (Nat.le_refl _),fun n p b hp hb=>?_,fun n hn=>Nat.ble_eq_true_of_le hn⟩
 ·rw[AY]
  have:=O5 M.ok hg ds 0 0 sig vals pas M.l1 M.l2 M.at_ (fun q x h=>by rw[Nat.zero_add];exact h) M.free M.ptr M.alP s
  simp only[Nat.zero_le,if_true,Nat.sub_zero] at this
  have e:(vals.toArray++Array.replicate (N - vals.toArray.size) undef).getD s undef=vals.getD s undef:=by
   simp only[Array.getD_eq_getD_getElem?,List.getD_eq_getElem?_getD]
   by_cases bG:s<vals.length
   ·simp[Array.getElem?_append,bG]
   ·rw[List.getElem?_eq_none (by omega)]
    simp only[Array.getElem?_append,List.size_toArray,bG,if_false,Array.getElem?_replicate]
    split<;>rfl
  rw[e]
  exact this
 ·rw[AY]
  exact HR.O9 hg M.ok M.m7
 ·rw[AY] at hb
  obtain⟨yt,m,sz,a,cap,xs,hf,e⟩:=qc hb
  have bi:(if aK<=n then((eC sig (pas.map (·.ps)))[n - aK]?).map (fun x=>pz x.2) else none)=some p:=hp
  rw[if_pos yt,hf] at bi
  simp at bi
  subst bi
  have Oe:(nT w (eC sig (pas.map (·.ps)))).g n=pz (.list sz a cap xs):=by simp only[nT,hf]
  rw[Oe]
  exact⟨rfl,rfl,rfl,rfl,rfl,fun gr aJ aq _ k j pc hk hL=>⟨pc,hk,rfl,hL⟩⟩
theorem Re:∀{fl:List (Mode×C)} {q:Nat} {eV:List C},wN σ q fl=some eV->eV.length=fl.length/\∀i x,fl[i]? =some x->∃o,eV[i]? =some o/\BT σ (q+i) x=some o
 |[],q,eV,h=>by simp only[wN] at h;injection h with h;subst h;exact⟨rfl,by simp⟩
 |y::l,q,eV,h=>by
  simp only[wN] at h
  split at h
  ·rename_i o os h1 h2
   injection h with h
   subst h
   obtain⟨i1,i2⟩:=Re h2
   refine⟨by simp[i1],fun i x hx=>?_⟩
   cases i with
   |zero=>simp at hx;subst hx;exact⟨o,rfl,h1⟩
   |succ i=>
    obtain⟨o',e1,e2⟩:=i2 i x (by simpa using hx)
    exact⟨o',by simpa using e1,by rw[show q+(i+1)=q+1+i by omega];exact e2⟩
  ·cases h
theorem al2 {q:Nat} {x:Mode×C} {o:C} (h:BT σ q x=some o):∃sz xs gr aq,x.2=.list sz xs/\σ.h (aK+q)=some (.row gr x.1 sz aq)/\aq.length=xs.length/\sB x.1 aq=true/\aq.map (fun e=>e.map C.qq)=xs.map (fun e=>e.map C.qq)/\o=.list sz aq:=by
 unfold BT at h
 split at h
 ·rename_i sz xs gr m' aJ aq h1 h2
  split at h
  ·rename_i hc
   obtain⟨rfl,rfl,h3,h4,h5⟩:=hc
   injection h with h
   exact⟨_,xs,gr,aq,h1,h2,h3,h4,h5,h.symm⟩
  ·cases h
 ·cases h
theorem aes {px:List (List PC)} (hd:(px.map fun e=>e.map PC.er).all (fun e=>e.all C.su)=true) {k j:Nat} {c:PC} (hk:At px k j c):∀sz a cap ys,c=.list sz a cap ys->∀b,¬aV b ys:=by
 rintro sz a cap ys rfl b
 obtain⟨e,he,hj⟩:=hk
 simp only[List.all_eq_true,List.mem_map] at hd
 have h1:=hd (e.map PC.er) ⟨e,List.mem_of_getElem? he,rfl⟩ (PC.er (.list sz a cap ys)) (List.mem_map.2 ⟨_,List.mem_of_getElem? hj,rfl⟩)
 rw[PC.dJ] at h1
 exact B6 h1 b
theorem PC.ah8 (c:PC):c.er.qq=c.gB:=by
 cases c with
 |int k n=>rfl
 |bool b=>rfl
 |list sz a cap xs=>rw[PC.dJ];rfl
theorem aon {px px':List (List PC)} (hs:(px'.map fun e=>e.map PC.er).map (fun e=>e.map C.qq)=(px.map fun e=>e.map PC.er).map (fun e=>e.map C.qq)) {k j:Nat} {c:PC} (hk:At px' k j c):
  ∃c0,At px k j c0/\c0.gB=c.gB:=by
 obtain⟨e,he,hj⟩:=hk
 have h1:=congrArg (fun l=>l[k]?) hs
 simp only[List.getElem?_map,he,Option.map_some] at h1
 cases h0:px[k]? with
 |none=>rw[h0] at h1;cases h1
 |some e0=>
  rw[h0] at h1
  simp only[Option.map_some,Option.some.injEq] at h1
  have h2:=congrArg (fun l=>l[j]?) h1
  simp only[List.getElem?_map,hj,Option.map_some] at h2
  cases h3:e0[j]? with
  |none=>rw[h3] at h2;cases h2
  |some c0=>
   rw[h3] at h2
   simp only[Option.map_some,Option.some.injEq,PC.ah8] at h2
   exact⟨c0,⟨e0,h0,h3⟩,h2.symm⟩
theorem At.inj {α:Type} {px:List (List α)} {k j:Nat} {c c':α} (h:At px k j c) (h':At px k j c'):c=c':=by
 obtain⟨e,h1,h2⟩:=h
 obtain⟨e',h3,h4⟩:=h'
 rw[h1] at h3
 injection h3 with h3
 subst h3
 rw[h2] at h4
 injection h4
theorem Z7 {px px':List (List PC)} (hd:(px.map fun e=>e.map PC.er).all (fun e=>e.all C.su)=true)
  (hl:∀k j pc,At px k j pc->pc.gB=true->∃dg,At px' k j dg/\dg.val=pc.val/\dg.gB=true) {b:Nat} (hb:aV b px):aV b px':=by
 obtain⟨k,j,c,hk,hc⟩:=hb
 cases c with
 |int k n=>exact absurd hc aS.alT
 |bool x=>exact absurd hc aS.alS
 |list sz a cap ys=>
  have vV:=aes hd hk sz a cap ys rfl
  rw[aS.kq] at hc
  rcases hc with⟨aB,o,rfl⟩|⟨k',j',c',cW,cv⟩
  ·obtain⟨c',h1,h2,h3⟩:=hl k j _ hk rfl
   cases c' with
   |int k n=>cases h3
   |bool x=>cases h3
   |list aJ a' sn ys'=>
    simp only[PC.val] at h2
    injection h2 with e1 e2 e3
    subst e1
    refine⟨k,j,_,h1,?_⟩
    rw[aS.kq]
    refine .inl ⟨fun ahn=>?_,o,rfl⟩
    subst ahn
    exact aB (List.eq_nil_of_length_eq_zero e2.symm)
  ·exact absurd ⟨k',j',c',cW,cv⟩ (vV b)
end
end Go.Am
