/- Am29: functions that change lists of their arguments: from code to contract. No condition. -/
import Derived.Test.YtbgmbplglejidaaAm28
set_option linter.unusedVariables false
namespace Go.Am
section
variable {B:Nat} {E:Ex} {w0 w w':World} {G G':Gh} {N:Nat} {h h':Nat->Option aq} {used:Nat->Bool}
variable {P:Program} {T:aS} {a:Act} {σ σ':St} {Q:Exit->Act->World->Prop}
theorem Na {α:Type}:∀{s:List (Option Mode)} {xs:List α} {x:Mode×α},x∈eu s xs->x.2∈xs
 |some m::fs,y::xs,x,h=>by
  simp only[eu,List.mem_cons] at h
  rcases h with rfl|h
  ·simp
  ·exact List.mem_cons_of_mem _ (Na h)
 |none::fs,y::xs,x,h=>by
  simp only[eu] at h
  exact List.mem_cons_of_mem _ (Na h)
 |[],_,x,h=>by simp[eu] at h
 |some m::fs,[],x,h=>by simp[eu] at h
 |none::fs,[],x,h=>by simp[eu] at h
theorem M8 {α:Type}:∀{sig:aN} {r8:List (List α)} {x:Mode×α},x∈eB sig r8->∃xs∈r8,x.2∈xs
 |s::sig,xs::r8,x,h=>by
  simp only[eB,List.mem_append] at h
  rcases h with h|h
  ·exact⟨xs,by simp,Na h⟩
  ·obtain⟨ys,h1,h2⟩:=M8 h
   exact⟨ys,by simp[h1],h2⟩
 |[],_,x,h=>by simp[eB] at h
 |s::sig,[],x,h=>by simp[eB] at h
theorem HE {fl:List (Mode×PC)} (fI:∀x∈fl,xP w x.1 x.2) (hg:∀x∈fl,Good w x.2):∀(c:Nat) (fs:List (Option Mode)) (ps:List PC),(∀(q:Nat) (x:Mode×PC),(eu fs ps)[q]? =some x->fl[c+q]? =some x)->(∀pc∈ps,Good w pc)->
  (∀pc∈nB fs ps,∀x∈fl,∀b,aT b pc->¬aT b x.2)->cJ w (nP w fl) (m9 fl) (gh c fs (ps.map PC.er)) (ps.map PC.val)
 |c,[],ps,hq,fJ,hu=>by
  simp only[gh]
  refine⟨by simp,fun j x u hj mE=>?_⟩
  simp only[List.getElem?_map,List.map_map] at hj mE
  cases hp:ps[j]? with
  |none=>rw[hp] at hj;cases hj
  |some pc=>
   rw[hp] at hj mE
   simp at hj mE
   subst hj;subst mE
   have hm:=List.mem_of_getElem? hp
   exact⟨PC.kv pc,pc,rfl,rfl,fJ pc hm,fun b hb=>⟨(fJ pc hm).lt hb,fun⟨x,hx,eC⟩=>hu pc (by simpa[nB] using hm) x hx b hb eC⟩⟩
 |c,f::fs,[],hq,fJ,hu=>by
  cases f<;>exact⟨rfl,by intro j c u hj;simp[gh] at hj⟩
 |c,none::fs,p::ps,hq,fJ,hu=>by
  have ih:=HE fI hg c fs ps (fun q x h=>hq q x (by simpa[eu] using h)) (fun pc h=>fJ pc (by simp[h])) (fun pc h=>hu pc (by simp[nB,h]))
  simp only[List.map_cons,gh]
  refine⟨by simp[ih.1],fun j x u hj mE=>?_⟩
  cases j with
  |zero=>
   simp at hj mE
   subst hj;subst mE
   exact⟨PC.kv p,p,rfl,rfl,fJ p (by simp),fun b hb=>⟨(fJ p (by simp)).lt hb,fun⟨x,hx,eC⟩=>hu p (by simp[nB]) x hx b hb eC⟩⟩
  |succ j=>exact ih.2 j x u (by simpa using hj) (by simpa using mE)
 |c,some m::fs,p::ps,hq,fJ,hu=>by
  have h0:=hq 0 (m,p) (by simp[eu])
  simp only[Nat.add_zero] at h0
  have uA:=List.mem_of_getElem? h0
  obtain⟨sz,a,cap,xs,e,ed,nT,v7⟩:=(fI _ uA).dT
  simp only at e
  subst e
  have ih:=HE fI hg (c+1) fs ps (fun q x h=>by have:=hq (q+1) x (by simpa[eu] using h);rwa[show c+(q+1)=c+1+q by omega] at this) (fun pc h=>fJ pc (by simp[h])) (fun pc h=>hu pc (by simpa[nB] using h))
  simp only[List.map_cons,PC.dG,gh]
  refine⟨by simp[ih.1],fun j x u hj mE=>?_⟩
  cases j with
  |zero=>
   simp at hj mE
   subst hj;subst mE
   refine⟨PC.kv _,fun _=>?_⟩
   have O0:(nP w fl).g (aM+c)=pt (.list sz a cap xs):=by simp only[nP,Nat.add_sub_cancel_left,h0]
   rw[O0]
   rcases(hg _ uA).cases with rfl|⟨aE,jk,b,o,rfl⟩
   ·rw[EL]
    exact .inl ⟨rfl,rfl,rfl,rfl⟩
   ·rw[zb aE]
    exact .inr ⟨rfl,some (ad b o),by simp[PC.val],by simpa using jk,fun _=>by simp⟩
  |succ j=>exact ih.2 j x u (by simpa using hj) (by simpa using mE)
theorem W8 {fl:List (Mode×PC)} (fI:∀x∈fl,xP w x.1 x.2) (hg:∀x∈fl,Good w x.2) {c:Nat} {s:List (Option Mode)} {d:Dv} {v:Value} {p:PA} (hA:zB w d v p)
  (hq:∀(q:Nat) (x:Mode×PC),(eu s p.ps)[q]? =some x->fl[c+q]? =some x) (hu:∀pc∈nB s p.ps,∀x∈fl,∀b,aT b pc->¬aT b x.2) (hp:p.k=.ptr->s=[]/\∀x∈fl,¬aT p.b x.2):
  RA w (nP w fl) (m9 fl) (su c s d) v:=by
 obtain⟨k,ps,b,o⟩:=p
 obtain⟨rfl,fJ,hv⟩:=hA
 cases k with
 |one=>
  have hv:ps.map PC.val=[v]:=hv
  have hl:=HE fI hg c s ps hq fJ hu
  rw[hv] at hl
  simp only[su]
  obtain⟨x,hx⟩:∃x,gh c s (ps.map PC.er)=[x]:=by
   have:=hl.1
   match hh:gh c s (ps.map PC.er),this with
   |[x],_=>exact⟨x,rfl⟩
  rw[hx] at hl⊢
  exact .inr hl
 |agg=>
  have hv:v=.agg (ps.map PC.val).toArray:=hv
  exact⟨_,hv,HE fI hg c s ps hq fJ hu⟩
 |ptr=>
  obtain⟨h1,h2,h3⟩:v=.pointer (some (ad b o))/\b<w.heap.size/\∀j c,ps[j]? =some c->w.cell? (ad b (o+j))=some c.val:=hv
  obtain⟨rfl,A9⟩:=hp rfl
  subst h1
  refine RA.fZ rfl ⟨b,o,ps,by simp,rfl,⟨h2,fun⟨x,hx,eC⟩=>A9 x hx eC⟩,fun j c hj=>?_⟩
  have hm:=List.mem_of_getElem? hj
  exact⟨h3 j c hj,fJ c hm,fun b' aW=>⟨(fJ c hm).lt aW,fun⟨x,hx,eC⟩=>hu c (by simpa[nB] using hm) x hx b' aW eC⟩⟩
theorem PU {fl:List (Mode×PC)} (fI:∀x∈fl,xP w x.1 x.2) (hg:∀x∈fl,Good w x.2):∀(ds:List Dv) (k c:Nat) (sig:aN) (vals:List Value) (pas:List PA),vals.length=ds.length->pas.length=ds.length->
  (∀(i:Nat) (d:Dv) (v:Value) (p:PA),ds[i]? =some d->vals[i]? =some v->pas[i]? =some p->zB w d v p)->(∀(q:Nat) (x:Mode×PC),(eB sig (pas.map (·.ps)))[q]? =some x->fl[c+q]? =some x)->
  (∀pc∈pE sig (pas.map (·.ps)),∀x∈fl,∀b,aT b pc->¬aT b x.2)->(∀p∈pas,p.k=.ptr->∀x∈fl,¬aT p.b x.2)->(∀(i:Nat) (p:PA) (s:List (Option Mode)),pas[i]? =some p->sig[i]? =some s->p.k=.ptr->s=[])->
  ∀s,RA w (nP w fl) (m9 fl) (lO k c sig ds s) (if k<=s then vals.getD (s - k) undef else undef)
 |[],k,c,sig,vals,pas,l1,l2,hA,hq,hu,hp,hs,s=>by simp only[lO];exact Or.inl rfl
 |d::ds,k,c,sig,v::vals,p::pas,l1,l2,hA,hq,hu,hp,hs,s=>by
  have l1':vals.length=ds.length:=by simpa using l1
  have l2':pas.length=ds.length:=by simpa using l2
  have A0:=hA 0 d v p rfl rfl rfl
  have A1:=fun i d' v' p' (h1:ds[i]? =some d') (h2:vals[i]? =some v') (h3:pas[i]? =some p')=>hA (i+1) d' v' p' (by simpa using h1) (by simpa using h2) (by simpa using h3)
  have fJ:=A0.2.1
  have hd2:d.2=p.ps.map PC.er:=by rw[A0.1]
  have shift:∀x:aj,(s≠k->RA w (nP w fl) (m9 fl) x (if k+1<=s then vals.getD (s - (k+1)) undef else undef))->s≠k->RA w (nP w fl) (m9 fl) x (if k<=s then(v::vals).getD (s - k) undef else undef):=by
   intro x hx uD
   have:=hx uD
   by_cases hk:k+1<=s
   ·rw[if_pos hk] at this
    rw[if_pos (by omega),show s - k=(s - (k+1))+1 by omega]
    simpa using this
   ·rw[if_neg hk] at this
    rw[if_neg (by omega)]
    exact this
  cases sig with
  |nil=>
   simp only[lO]
   by_cases uD:s=k
   ·subst uD
    rw[bE,if_pos (Nat.le_refl _)]
    simp only[Nat.sub_self,List.getD_cons_zero]
    refine W8 fI hg A0 (fun q x h=>by simp[eu] at h) (fun pc aY=>hu pc ?_) (fun e=>⟨rfl,hp p (by simp) e⟩)
    simp only[nB] at aY
    simp[pE,aY]
   ·rw[cb _ _ _ _ uD]
    refine shift _ (fun _=>PU fI hg ds (k+1) c [] vals pas l1' l2' A1 (fun q x h=>by simp[eB] at h) (fun pc aY=>hu pc ?_) (fun p be=>hp p (by simp[be])) (fun i p s _ h=>by simp at h) s) uD
    simp only[pE] at aY
    simp only[List.map_cons,pE,List.flatten_cons,List.mem_append]
    exact .inr aY
  |cons sg sig=>
   simp only[lO]
   have hlen:(eu sg d.2).length=(eu sg p.ps).length:=by rw[hd2,Ix,List.length_map]
   by_cases uD:s=k
   ·subst uD
    rw[bE,if_pos (Nat.le_refl _)]
    simp only[Nat.sub_self,List.getD_cons_zero]
    refine W8 fI hg A0 (fun q x h=>hq q x ?_) (fun pc aY=>hu pc ?_) (fun e=>⟨hs 0 p sg rfl rfl e,hp p (by simp) e⟩)
    ·simp only[List.map_cons,eB]
     rw[List.getElem?_append_left (List.getElem?_eq_some_iff.1 h).1]
     exact h
    ·simp only[List.map_cons,pE,List.mem_append]
     exact .inl aY
   ·rw[cb _ _ _ _ uD]
    refine shift _ (fun _=>PU fI hg ds (k+1) (c+(eu sg d.2).length) sig vals pas l1' l2' A1 (fun q x h=>?_) (fun pc aY=>hu pc ?_) (fun p be=>hp p (by simp[be])) (fun i p s h1 h2=>hs (i+1) p s (by simpa using h1) (by simpa using h2)) s) uD
    ·have:=hq ((eu sg p.ps).length+q) x (by
      simp only[List.map_cons,eB]
      rw[List.getElem?_append_right (Nat.le_add_right _ _),Nat.add_sub_cancel_left]
      exact h)
     rw[hlen,Nat.add_assoc]
     exact this
    ·simp only[List.map_cons,pE,List.mem_append]
     exact .inr aY
 |_::_,k,c,sig,[],pas,l1,l2,hA,hq,hu,hp,hs,s=>by simp at l1
 |_::_,k,c,sig,_::_,[],l1,l2,hA,hq,hu,hp,hs,s=>by simp at l2
theorem W9 {c:Nat} {s:List (Option Mode)} {d:Dv} {m:Nat} (h:(su c s d).ref m):aM<=m:=by
 have cV:∀(cs:List C) (c:Nat) (s:List (Option Mode)),∀x∈gh c s cs,x.ref m->aM<=m:=by
  intro cs
  induction cs with
  |nil=>
   intro c s x hx
   cases s with
   |nil=>simp[gh] at hx
   |cons f fs=>cases f<;>simp[gh] at hx
  |cons y cs ih=>
   intro c s x hx hr
   cases s with
   |nil=>
    simp only[gh,List.mem_map] at hx
    obtain⟨z,_,rfl⟩:=hx
    exact absurd hr id
   |cons f fs=>
    cases f with
    |none=>
     simp only[gh,List.mem_cons] at hx
     rcases hx with rfl|hx
     ·exact absurd hr id
     ·exact ih _ _ _ hx hr
    |some md=>
     cases y with
     |list sz xs=>
      simp only[gh,List.mem_cons] at hx
      rcases hx with rfl|hx
      ·have hr:m=aM+c:=hr
       omega
      ·exact ih _ _ _ hx hr
     |int k n=>
      simp only[gh,List.mem_cons] at hx
      rcases hx with rfl|hx
      ·exact absurd hr id
      ·exact ih _ _ _ hx hr
     |bool b=>
      simp only[gh,List.mem_cons] at hx
      rcases hx with rfl|hx
      ·exact absurd hr id
      ·exact ih _ _ _ hx hr
 obtain⟨k,xs⟩:=d
 cases k with
 |one=>
  simp only[su] at h
  match hh:gh c s xs,h with
  |[],h=>exact absurd h id
  |[x],h=>exact cV xs c s x (by rw[hh];simp) h
  |_::_::_,h=>exact absurd h id
 |agg=>
  obtain⟨x,hx,hr⟩:=h
  exact cV xs c s x hx hr
 |ptr=>exact absurd h id
theorem PV:∀{ds:List Dv} {k c:Nat} {sig:aN} {s m:Nat},(lO k c sig ds s).ref m->aM<=m
 |[],k,c,sig,s,m,h=>by simp only[lO] at h;exact absurd h id
 |d::ds,k,c,[],s,m,h=>by
  simp only[lO,iO] at h
  split at h
  ·exact W9 h
  ·exact PV h
 |d::ds,k,c,sg::sig,s,m,h=>by
  simp only[lO,iO] at h
  split at h
  ·exact W9 h
  ·exact PV h
theorem R.PY {sig:aN} {ds:List Dv} {vals:List Value} {pas:List PA} (M:CK w sig ds vals pas) (hN:ds.length<=N):
  R w.heap.size (ye (eB sig (pas.map (·.ps)))) w N (Bl sig ds) {tmps:=vals.toArray++Array.replicate (N - vals.toArray.size) undef,defers:=[]} w (nP w (eB sig (pas.map (·.ps)))):=by
 have m8:ds.map (·.2)=(pas.map (·.ps)).map fun l=>l.map PC.er:=by
  apply List.ext_getElem?
  intro i
  simp only[List.getElem?_map]
  cases hd:ds[i]? with
  |none=>
   have:ds.length<=i:=List.getElem?_eq_none_iff.1 hd
   rw[List.getElem?_eq_none (by rw[M.l2];exact this)]
   rfl
  |some d=>
   have hi:=(List.getElem?_eq_some_iff.1 hd).1
   have hv:vals[i]? =some (vals[i]'(by rw[M.l1];exact hi)):=List.getElem?_eq_getElem _
   have hp:pas[i]? =some (pas[i]'(by rw[M.l2];exact hi)):=List.getElem?_eq_getElem _
   have:=(M.at_ i d _ _ hd hv hp).1
   rw[hp]
   simp only[Option.map_some]
   rw[this]
 have fJ:∀p∈pas,∀pc∈p.ps,Good w pc:=by
  intro p hp pc aY
  obtain⟨i,hi,rfl⟩:=List.getElem_of_mem hp
  have hd:ds[i]? =some (ds[i]'(by rw[<-M.l2];exact hi)):=List.getElem?_eq_getElem _
  have hv:vals[i]? =some (vals[i]'(by rw[M.l1,<-M.l2];exact hi)):=List.getElem?_eq_getElem _
  exact(M.at_ i _ _ _ hd hv (List.getElem?_eq_getElem hi)).2.1 pc aY
 have hg:∀x∈eB sig (pas.map (·.ps)),Good w x.2:=by
  intro x hx
  obtain⟨l,hl,qg⟩:=M8 hx
  obtain⟨p,hp,rfl⟩:=List.mem_map.1 hl
  exact fJ p hp _ qg
 have AY:(Bl sig ds).h=m9 (eB sig (pas.map (·.ps))):=by
  funext n
  simp only[Bl,m9,m8,Iw]
 refine⟨rfl,by simp[M.l1];omega,fun s=>?_,fun s n hn=>Nat.ble_eq_true_of_le (PV hn),?_,Fr.refl _ _ _ (Nat.le_refl _),fun n p b hp hb=>?_,fun n hn=>Nat.ble_eq_true_of_le hn⟩
 ·rw[AY]
  have:=PU M.ok hg ds 0 0 sig vals pas M.l1 M.l2 M.at_ (fun q x h=>by rw[Nat.zero_add];exact h) M.free M.ptr M.anm s
  simp only[Nat.zero_le,if_true,Nat.sub_zero] at this
  have e:(vals.toArray++Array.replicate (N - vals.toArray.size) undef).getD s undef=vals.getD s undef:=by
   simp only[Array.getD_eq_getD_getElem?,List.getD_eq_getElem?_getD]
   by_cases bB:s<vals.length
   ·simp[Array.getElem?_append,bB]
   ·rw[List.getElem?_eq_none (by omega)]
    simp only[Array.getElem?_append,List.size_toArray,bB,if_false,Array.getElem?_replicate]
    split<;>rfl
  rw[e]
  exact this
 ·rw[AY]
  exact HR.PY hg M.ok M.m4
 ·rw[AY] at hb
  obtain⟨wl,m,sz,a,cap,xs,hf,e⟩:=qa hb
  have be:(if aM<=n then((eB sig (pas.map (·.ps)))[n - aM]?).map (fun x=>pt x.2) else none)=some p:=hp
  rw[if_pos wl,hf] at be
  simp at be
  subst be
  have O0:(nP w (eB sig (pas.map (·.ps)))).g n=pt (.list sz a cap xs):=by simp only[nP,hf]
  rw[O0]
  exact⟨rfl,rfl,rfl,rfl,rfl,fun gr aL ar _ k j pc hk hL=>⟨pc,hk,rfl,hL⟩⟩
theorem Se:∀{fl:List (Mode×C)} {q:Nat} {eI:List C},wY σ q fl=some eI->eI.length=fl.length/\∀i x,fl[i]? =some x->∃o,eI[i]? =some o/\BO σ (q+i) x=some o
 |[],q,eI,h=>by simp only[wY] at h;injection h with h;subst h;exact⟨rfl,by simp⟩
 |y::l,q,eI,h=>by
  simp only[wY] at h
  split at h
  ·rename_i o os h1 h2
   injection h with h
   subst h
   obtain⟨i1,i2⟩:=Se h2
   refine⟨by simp[i1],fun i x hx=>?_⟩
   cases i with
   |zero=>simp at hx;subst hx;exact⟨o,rfl,h1⟩
   |succ i=>
    obtain⟨o',e1,e2⟩:=i2 i x (by simpa using hx)
    exact⟨o',by simpa using e1,by rw[show q+(i+1)=q+1+i by omega];exact e2⟩
  ·cases h
theorem anu {q:Nat} {x:Mode×C} {o:C} (h:BO σ q x=some o):∃sz xs gr ar,x.2=.list sz xs/\σ.h (aM+q)=some (.row gr x.1 sz ar)/\ar.length=xs.length/\sJ x.1 ar=true/\ar.map (fun e=>e.map C.qt)=xs.map (fun e=>e.map C.qt)/\o=.list sz ar:=by
 unfold BO at h
 split at h
 ·rename_i sz xs gr m' aL ar h1 h2
  split at h
  ·rename_i hc
   obtain⟨rfl,rfl,h3,h4,h5⟩:=hc
   injection h with h
   exact⟨_,xs,gr,ar,h1,h2,h3,h4,h5,h.symm⟩
  ·cases h
 ·cases h
theorem afd {px:List (List PC)} (hd:(px.map fun e=>e.map PC.er).all (fun e=>e.all C.sE)=true) {k j:Nat} {c:PC} (hk:At px k j c):∀sz a cap ys,c=.list sz a cap ys->∀b,¬aX b ys:=by
 rintro sz a cap ys rfl b
 obtain⟨e,he,hj⟩:=hk
 simp only[List.all_eq_true,List.mem_map] at hd
 have h1:=hd (e.map PC.er) ⟨e,List.mem_of_getElem? he,rfl⟩ (PC.er (.list sz a cap ys)) (List.mem_map.2 ⟨_,List.mem_of_getElem? hj,rfl⟩)
 rw[PC.dG] at h1
 exact B8 h1 b
theorem PC.aiY (c:PC):c.er.qt=c.gx:=by
 cases c with
 |int k n=>rfl
 |bool b=>rfl
 |list sz a cap xs=>rw[PC.dG];rfl
theorem apE {px px':List (List PC)} (hs:(px'.map fun e=>e.map PC.er).map (fun e=>e.map C.qt)=(px.map fun e=>e.map PC.er).map (fun e=>e.map C.qt)) {k j:Nat} {c:PC} (hk:At px' k j c):
  ∃c0,At px k j c0/\c0.gx=c.gx:=by
 obtain⟨e,he,hj⟩:=hk
 have h1:=congrArg (fun l=>l[k]?) hs
 simp only[List.getElem?_map,he,Option.map_some] at h1
 cases h0:px[k]? with
 |none=>rw[h0] at h1;cases h1
 |some e0=>
  rw[h0] at h1
  simp only[Option.map_some,Option.some.injEq] at h1
  have h2:=congrArg (fun l=>l[j]?) h1
  simp only[List.getElem?_map,hj,Option.map_some] at h2
  cases h3:e0[j]? with
  |none=>rw[h3] at h2;cases h2
  |some c0=>
   rw[h3] at h2
   simp only[Option.map_some,Option.some.injEq,PC.aiY] at h2
   exact⟨c0,⟨e0,h0,h3⟩,h2.symm⟩
theorem At.inj {α:Type} {px:List (List α)} {k j:Nat} {c c':α} (h:At px k j c) (h':At px k j c'):c=c':=by
 obtain⟨e,h1,h2⟩:=h
 obtain⟨e',h3,h4⟩:=h'
 rw[h1] at h3
 injection h3 with h3
 subst h3
 rw[h2] at h4
 injection h4
theorem aaW {px px':List (List PC)} (hd:(px.map fun e=>e.map PC.er).all (fun e=>e.all C.sE)=true)
  (hl:∀k j pc,At px k j pc->pc.gx=true->∃di,At px' k j di/\di.val=pc.val/\di.gx=true) {b:Nat} (hb:aX b px):aX b px':=by
 obtain⟨k,j,c,hk,hc⟩:=hb
 cases c with
 |int k n=>exact absurd hc aT.ano
 |bool x=>exact absurd hc aT.ann
 |list sz a cap ys=>
  have v7:=afd hd hk sz a cap ys rfl
  rw[aT.ko] at hc
  rcases hc with⟨aE,o,rfl⟩|⟨k',j',c',cY,cO⟩
  ·obtain⟨c',h1,h2,h3⟩:=hl k j _ hk rfl
   cases c' with
   |int k n=>cases h3
   |bool x=>cases h3
   |list aL a' sA ys'=>
    simp only[PC.val] at h2
    injection h2 with e1 e2 e3
    subst e1
    refine⟨k,j,_,h1,?_⟩
    rw[aT.ko]
    refine .inl ⟨fun aib=>?_,o,rfl⟩
    subst aib
    exact aE (List.eq_nil_of_length_eq_zero e2.symm)
  ·exact absurd ⟨k',j',c',cY,cO⟩ (v7 b)
end
end Go.Am
