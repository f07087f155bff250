/- Am29: functions that change lists of their arguments: from code to contract. No condition. -/
import Derived.Test.YtifmggmhdcdgbaaAm28
set_option linter.unusedVariables false
namespace Go.Am
section
variable {B:Nat} {E:Ex} {w0 w w':World} {G G':Gh} {N:Nat} {h h':Nat->Option ar} {used:Nat->Bool}
variable {P:Program} {T:bj} {a:Act} {σ σ':St} {Q:Exit->Act->World->Prop}
theorem MZ {α:Type}:∀{s:List (Option Mode)} {xs:List α} {x:Mode×α},x∈dO s xs->x.2∈xs
 |some m::fs,y::xs,x,h=>by
  simp only[dO,List.mem_cons] at h
  rcases h with rfl|h
  ·simp
  ·exact List.mem_cons_of_mem _ (MZ h)
 |none::fs,y::xs,x,h=>by
  simp only[dO] at h
  exact List.mem_cons_of_mem _ (MZ h)
 |[],_,x,h=>by simp[dO] at h
 |some m::fs,[],x,h=>by simp[dO] at h
 |none::fs,[],x,h=>by simp[dO] at h
theorem MX {α:Type}:∀{sig:be} {rT:List (List α)} {x:Mode×α},x∈eg sig rT->∃xs∈rT,x.2∈xs
 |s::sig,xs::rT,x,h=>by
  simp only[eg,List.mem_append] at h
  rcases h with h|h
  ·exact⟨xs,by simp,MZ h⟩
  ·obtain⟨ys,h1,h2⟩:=MX h
   exact⟨ys,by simp[h1],h2⟩
 |[],_,x,h=>by simp[eg] at h
 |s::sig,[],x,h=>by simp[eg] at h
theorem Hv {fl:List (Mode×PC)} (fF:∀x∈fl,xS w x.1 x.2) (hg:∀x∈fl,Good w x.2):∀(c:Nat) (fs:List (Option Mode)) (ps:List PC),(∀(q:Nat) (x:Mode×PC),(dO fs ps)[q]? =some x->fl[c+q]? =some x)->(∀pc∈ps,Good w pc)->
  (∀pc∈nk fs ps,∀x∈fl,∀b,aP b pc->¬aP b x.2)->cA w (nK w fl) (mM fl) (gd c fs (ps.map PC.er)) (ps.map PC.val)
 |c,[],ps,hq,fG,hu=>by
  simp only[gd]
  refine⟨by simp,fun j x u hj jM=>?_⟩
  simp only[List.getElem?_map,List.map_map] at hj jM
  cases hp:ps[j]? with
  |none=>rw[hp] at hj;cases hj
  |some pc=>
   rw[hp] at hj jM
   simp at hj jM
   subst hj;subst jM
   have hm:=List.mem_of_getElem? hp
   exact⟨PC.ki pc,pc,rfl,rfl,fG pc hm,fun b hb=>⟨(fG pc hm).lt hb,fun⟨x,hx,dV⟩=>hu pc (by simpa[nk] using hm) x hx b hb dV⟩⟩
 |c,f::fs,[],hq,fG,hu=>by
  cases f<;>exact⟨rfl,by intro j c u hj;simp[gd] at hj⟩
 |c,none::fs,p::ps,hq,fG,hu=>by
  have ih:=Hv fF hg c fs ps (fun q x h=>hq q x (by simpa[dO] using h)) (fun pc h=>fG pc (by simp[h])) (fun pc h=>hu pc (by simp[nk,h]))
  simp only[List.map_cons,gd]
  refine⟨by simp[ih.1],fun j x u hj jM=>?_⟩
  cases j with
  |zero=>
   simp at hj jM
   subst hj;subst jM
   exact⟨PC.ki p,p,rfl,rfl,fG p (by simp),fun b hb=>⟨(fG p (by simp)).lt hb,fun⟨x,hx,dV⟩=>hu p (by simp[nk]) x hx b hb dV⟩⟩
  |succ j=>exact ih.2 j x u (by simpa using hj) (by simpa using jM)
 |c,some m::fs,p::ps,hq,fG,hu=>by
  have h0:=hq 0 (m,p) (by simp[dO])
  simp only[Nat.add_zero] at h0
  have uC:=List.mem_of_getElem? h0
  obtain⟨sz,a,cap,xs,e,eE,nM,wk⟩:=(fF _ uC).dD
  simp only at e
  subst e
  have ih:=Hv fF hg (c+1) fs ps (fun q x h=>by have:=hq (q+1) x (by simpa[dO] using h);rwa[show c+(q+1)=c+1+q by omega] at this) (fun pc h=>fG pc (by simp[h])) (fun pc h=>hu pc (by simpa[nk] using h))
  simp only[List.map_cons,PC.dz,gd]
  refine⟨by simp[ih.1],fun j x u hj jM=>?_⟩
  cases j with
  |zero=>
   simp at hj jM
   subst hj;subst jM
   refine⟨PC.ki _,fun _=>?_⟩
   have Oi:(nK w fl).g (aH+c)=o7 (.list sz a cap xs):=by simp only[nK,Nat.add_sub_cancel_left,h0]
   rw[Oi]
   rcases(hg _ uC).cases with rfl|⟨ax,jZ,b,o,rfl⟩
   ·rw[E1]
    exact .inl ⟨rfl,rfl,rfl,rfl⟩
   ·rw[ze ax]
    exact .inr ⟨rfl,some (ad b o),by simp[PC.val],by simpa using jZ,fun _=>by simp⟩
  |succ j=>exact ih.2 j x u (by simpa using hj) (by simpa using jM)
theorem VI {fl:List (Mode×PC)} (fF:∀x∈fl,xS w x.1 x.2) (hg:∀x∈fl,Good w x.2) {c:Nat} {s:List (Option Mode)} {d:Dv} {v:Value} {p:PA} (hA:zF w d v p)
  (hq:∀(q:Nat) (x:Mode×PC),(dO s p.ps)[q]? =some x->fl[c+q]? =some x) (hu:∀pc∈nk s p.ps,∀x∈fl,∀b,aP b pc->¬aP b x.2) (hp:p.k=.ptr->s=[]/\∀x∈fl,¬aP p.b x.2):
  RA w (nK w fl) (mM fl) (r9 c s d) v:=by
 obtain⟨k,ps,b,o⟩:=p
 obtain⟨rfl,fG,hv⟩:=hA
 cases k with
 |one=>
  have hv:ps.map PC.val=[v]:=hv
  have hl:=Hv fF hg c s ps hq fG hu
  rw[hv] at hl
  simp only[r9]
  obtain⟨x,hx⟩:∃x,gd c s (ps.map PC.er)=[x]:=by
   have:=hl.1
   match hh:gd c s (ps.map PC.er),this with
   |[x],_=>exact⟨x,rfl⟩
  rw[hx] at hl⊢
  exact .inr hl
 |agg=>
  have hv:v=.agg (ps.map PC.val).toArray:=hv
  exact⟨_,hv,Hv fF hg c s ps hq fG hu⟩
 |ptr=>
  obtain⟨h1,h2,h3⟩:v=.pointer (some (ad b o))/\b<w.heap.size/\∀j c,ps[j]? =some c->w.cell? (ad b (o+j))=some c.val:=hv
  obtain⟨rfl,AM⟩:=hp rfl
  subst h1
  refine RA.gb rfl ⟨b,o,ps,by simp,rfl,⟨h2,fun⟨x,hx,dV⟩=>AM x hx dV⟩,fun j c hj=>?_⟩
  have hm:=List.mem_of_getElem? hj
  exact⟨h3 j c hj,fG c hm,fun b' aT=>⟨(fG c hm).lt aT,fun⟨x,hx,dV⟩=>hu c (by simpa[nk] using hm) x hx b' aT dV⟩⟩
theorem Pm {fl:List (Mode×PC)} (fF:∀x∈fl,xS w x.1 x.2) (hg:∀x∈fl,Good w x.2):∀(ds:List Dv) (k c:Nat) (sig:be) (vals:List Value) (pas:List PA),vals.length=ds.length->pas.length=ds.length->
  (∀(i:Nat) (d:Dv) (v:Value) (p:PA),ds[i]? =some d->vals[i]? =some v->pas[i]? =some p->zF w d v p)->(∀(q:Nat) (x:Mode×PC),(eg sig (pas.map (·.ps)))[q]? =some x->fl[c+q]? =some x)->
  (∀pc∈pj sig (pas.map (·.ps)),∀x∈fl,∀b,aP b pc->¬aP b x.2)->(∀p∈pas,p.k=.ptr->∀x∈fl,¬aP p.b x.2)->(∀(i:Nat) (p:PA) (s:List (Option Mode)),pas[i]? =some p->sig[i]? =some s->p.k=.ptr->s=[])->
  ∀s,RA w (nK w fl) (mM fl) (lH k c sig ds s) (if k<=s then vals.getD (s - k) undef else undef)
 |[],k,c,sig,vals,pas,l1,l2,hA,hq,hu,hp,hs,s=>by simp only[lH];exact Or.inl rfl
 |d::ds,k,c,sig,v::vals,p::pas,l1,l2,hA,hq,hu,hp,hs,s=>by
  have Zs:vals.length=ds.length:=by simpa using l1
  have ZD:pas.length=ds.length:=by simpa using l2
  have A0:=hA 0 d v p rfl rfl rfl
  have A1:=fun i d' v' p' (h1:ds[i]? =some d') (h2:vals[i]? =some v') (h3:pas[i]? =some p')=>hA (i+1) d' v' p' (by simpa using h1) (by simpa using h2) (by simpa using h3)
  have fG:=A0.2.1
  have hd2:d.2=p.ps.map PC.er:=by rw[A0.1]
  have shift:∀x:aj,(s≠k->RA w (nK w fl) (mM fl) x (if k+1<=s then vals.getD (s - (k+1)) undef else undef))->s≠k->RA w (nK w fl) (mM fl) x (if k<=s then(v::vals).getD (s - k) undef else undef):=by
   intro x hx uF
   have:=hx uF
   by_cases hk:k+1<=s
   ·rw[if_pos hk] at this
    rw[if_pos (by omega),show s - k=(s - (k+1))+1 by omega]
    simpa using this
   ·rw[if_neg hk] at this
    rw[if_neg (by omega)]
    exact this
  cases sig with
  |nil=>
   simp only[lH]
   by_cases uF:s=k
   ·subst uF
    rw[bA,if_pos (Nat.le_refl _)]
    simp only[Nat.sub_self,List.getD_cons_zero]
    refine VI fF hg A0 (fun q x h=>by simp[dO] at h) (fun pc aZ=>hu pc ?_) (fun e=>⟨rfl,hp p (by simp) e⟩)
    simp only[nk] at aZ
    simp[pj,aZ]
   ·rw[bZ _ _ _ _ uF]
    refine shift _ (fun _=>Pm fF hg ds (k+1) c [] vals pas Zs ZD A1 (fun q x h=>by simp[eg] at h) (fun pc aZ=>hu pc ?_) (fun p bd=>hp p (by simp[bd])) (fun i p s _ h=>by simp at h) s) uF
    simp only[pj] at aZ
    simp only[List.map_cons,pj,List.flatten_cons,List.mem_append]
    exact .inr aZ
  |cons sg sig=>
   simp only[lH]
   have hlen:(dO sg d.2).length=(dO sg p.ps).length:=by rw[hd2,Ij,List.length_map]
   by_cases uF:s=k
   ·subst uF
    rw[bA,if_pos (Nat.le_refl _)]
    simp only[Nat.sub_self,List.getD_cons_zero]
    refine VI fF hg A0 (fun q x h=>hq q x ?_) (fun pc aZ=>hu pc ?_) (fun e=>⟨hs 0 p sg rfl rfl e,hp p (by simp) e⟩)
    ·simp only[List.map_cons,eg]
     rw[List.getElem?_append_left (List.getElem?_eq_some_iff.1 h).1]
     exact h
    ·simp only[List.map_cons,pj,List.mem_append]
     exact .inl aZ
   ·rw[bZ _ _ _ _ uF]
    refine shift _ (fun _=>Pm fF hg ds (k+1) (c+(dO sg d.2).length) sig vals pas Zs ZD A1 (fun q x h=>?_) (fun pc aZ=>hu pc ?_) (fun p bd=>hp p (by simp[bd])) (fun i p s h1 h2=>hs (i+1) p s (by simpa using h1) (by simpa using h2)) s) uF
    ·have:=hq ((dO sg p.ps).length+q) x (by
      simp only[List.map_cons,eg]
      rw[List.getElem?_append_right (Nat.le_add_right _ _),Nat.add_sub_cancel_left]
      exact h)
     rw[hlen,Nat.add_assoc]
     exact this
    ·simp only[List.map_cons,pj,List.mem_append]
     exact .inr aZ
 |_::_,k,c,sig,[],pas,l1,l2,hA,hq,hu,hp,hs,s=>by simp at l1
 |_::_,k,c,sig,_::_,[],l1,l2,hA,hq,hu,hp,hs,s=>by simp at l2
theorem VJ {c:Nat} {s:List (Option Mode)} {d:Dv} {m:Nat} (h:(r9 c s d).ref m):aH<=m:=by
 have cr:∀(cs:List C) (c:Nat) (s:List (Option Mode)),∀x∈gd c s cs,x.ref m->aH<=m:=by
  intro cs
  induction cs with
  |nil=>
   intro c s x hx
   cases s with
   |nil=>simp[gd] at hx
   |cons f fs=>cases f<;>simp[gd] at hx
  |cons y cs ih=>
   intro c s x hx hr
   cases s with
   |nil=>
    simp only[gd,List.mem_map] at hx
    obtain⟨z,_,rfl⟩:=hx
    exact absurd hr id
   |cons f fs=>
    cases f with
    |none=>
     simp only[gd,List.mem_cons] at hx
     rcases hx with rfl|hx
     ·exact absurd hr id
     ·exact ih _ _ _ hx hr
    |some md=>
     cases y with
     |list sz xs=>
      simp only[gd,List.mem_cons] at hx
      rcases hx with rfl|hx
      ·have hr:m=aH+c:=hr
       omega
      ·exact ih _ _ _ hx hr
     |int k n=>
      simp only[gd,List.mem_cons] at hx
      rcases hx with rfl|hx
      ·exact absurd hr id
      ·exact ih _ _ _ hx hr
     |bool b=>
      simp only[gd,List.mem_cons] at hx
      rcases hx with rfl|hx
      ·exact absurd hr id
      ·exact ih _ _ _ hx hr
 obtain⟨k,xs⟩:=d
 cases k with
 |one=>
  simp only[r9] at h
  match hh:gd c s xs,h with
  |[],h=>exact absurd h id
  |[x],h=>exact cr xs c s x (by rw[hh];simp) h
  |_::_::_,h=>exact absurd h id
 |agg=>
  obtain⟨x,hx,hr⟩:=h
  exact cr xs c s x hx hr
 |ptr=>exact absurd h id
theorem Pn:∀{ds:List Dv} {k c:Nat} {sig:be} {s m:Nat},(lH k c sig ds s).ref m->aH<=m
 |[],k,c,sig,s,m,h=>by simp only[lH] at h;exact absurd h id
 |d::ds,k,c,[],s,m,h=>by
  simp only[lH,jg] at h
  split at h
  ·exact VJ h
  ·exact Pn h
 |d::ds,k,c,sg::sig,s,m,h=>by
  simp only[lH,jg] at h
  split at h
  ·exact VJ h
  ·exact Pn h
theorem R.Pq {sig:be} {ds:List Dv} {vals:List Value} {pas:List PA} (M:LW w sig ds vals pas) (hN:ds.length<=N):
  R w.heap.size (ym (eg sig (pas.map (·.ps)))) w N (Bi sig ds) {tmps:=vals.toArray++Array.replicate (N - vals.toArray.size) undef,defers:=[]} w (nK w (eg sig (pas.map (·.ps)))):=by
 have mL:ds.map (·.2)=(pas.map (·.ps)).map fun l=>l.map PC.er:=by
  apply List.ext_getElem?
  intro i
  simp only[List.getElem?_map]
  cases hd:ds[i]? with
  |none=>
   have:ds.length<=i:=List.getElem?_eq_none_iff.1 hd
   rw[List.getElem?_eq_none (by rw[M.l2];exact this)]
   rfl
  |some d=>
   have hi:=(List.getElem?_eq_some_iff.1 hd).1
   have hv:vals[i]? =some (vals[i]'(by rw[M.l1];exact hi)):=List.getElem?_eq_getElem _
   have hp:pas[i]? =some (pas[i]'(by rw[M.l2];exact hi)):=List.getElem?_eq_getElem _
   have:=(M.at_ i d _ _ hd hv hp).1
   rw[hp]
   simp only[Option.map_some]
   rw[this]
 have fG:∀p∈pas,∀pc∈p.ps,Good w pc:=by
  intro p hp pc aZ
  obtain⟨i,hi,rfl⟩:=List.getElem_of_mem hp
  have hd:ds[i]? =some (ds[i]'(by rw[<-M.l2];exact hi)):=List.getElem?_eq_getElem _
  have hv:vals[i]? =some (vals[i]'(by rw[M.l1,<-M.l2];exact hi)):=List.getElem?_eq_getElem _
  exact(M.at_ i _ _ _ hd hv (List.getElem?_eq_getElem hi)).2.1 pc aZ
 have hg:∀x∈eg sig (pas.map (·.ps)),Good w x.2:=by
  intro x hx
  obtain⟨l,hl,pV⟩:=MX hx
  obtain⟨p,hp,rfl⟩:=List.mem_map.1 hl
  exact fG p hp _ pV
 have AE:(Bi sig ds).h=mM (eg sig (pas.map (·.ps))):=by
  funext n
  simp only[Bi,mM,mL,Ii]
 refine⟨rfl,by simp[M.l1];omega,fun s=>?_,fun s n hn=>Nat.ble_eq_true_of_le (Pn hn),?_,Fr.refl _ _ _ (Nat.le_refl _),fun n p b hp hb=>?_,fun n hn=>Nat.ble_eq_true_of_le hn⟩
 ·rw[AE]
  have:=Pm M.ok hg ds 0 0 sig vals pas M.l1 M.l2 M.at_ (fun q x h=>by rw[Nat.zero_add];exact h) M.free M.ptr M.alX s
  simp only[Nat.zero_le,if_true,Nat.sub_zero] at this
  have e:(vals.toArray++Array.replicate (N - vals.toArray.size) undef).getD s undef=vals.getD s undef:=by
   simp only[Array.getD_eq_getD_getElem?,List.getD_eq_getElem?_getD]
   by_cases bH:s<vals.length
   ·simp[Array.getElem?_append,bH]
   ·rw[List.getElem?_eq_none (by omega)]
    simp only[Array.getElem?_append,List.size_toArray,bH,if_false,Array.getElem?_replicate]
    split<;>rfl
  rw[e]
  exact this
 ·rw[AE]
  exact HR.Pq hg M.ok M.mI
 ·rw[AE] at hb
  obtain⟨AL,m,sz,a,cap,xs,hf,e⟩:=pL hb
  have bd:(if aH<=n then((eg sig (pas.map (·.ps)))[n - aH]?).map (fun x=>o7 x.2) else none)=some p:=hp
  rw[if_pos AL,hf] at bd
  simp at bd
  subst bd
  have Oi:(nK w (eg sig (pas.map (·.ps)))).g n=o7 (.list sz a cap xs):=by simp only[nK,hf]
  rw[Oi]
  exact⟨rfl,rfl,rfl,rfl,rfl,fun gr aK av _ k j pc hk hL=>⟨pc,hk,rfl,hL⟩⟩
theorem RE:∀{fl:List (Mode×C)} {q:Nat} {ew:List C},w9 σ q fl=some ew->ew.length=fl.length/\∀i x,fl[i]? =some x->∃o,ew[i]? =some o/\B4 σ (q+i) x=some o
 |[],q,ew,h=>by simp only[w9] at h;injection h with h;subst h;exact⟨rfl,by simp⟩
 |y::l,q,ew,h=>by
  simp only[w9] at h
  split at h
  ·rename_i o os h1 h2
   injection h with h
   subst h
   obtain⟨i1,i2⟩:=RE h2
   refine⟨by simp[i1],fun i x hx=>?_⟩
   cases i with
   |zero=>simp at hx;subst hx;exact⟨o,rfl,h1⟩
   |succ i=>
    obtain⟨o',e1,e2⟩:=i2 i x (by simpa using hx)
    exact⟨o',by simpa using e1,by rw[show q+(i+1)=q+1+i by omega];exact e2⟩
  ·cases h
theorem al5 {q:Nat} {x:Mode×C} {o:C} (h:B4 σ q x=some o):∃sz xs gr av,x.2=.list sz xs/\σ.h (aH+q)=some (.row gr x.1 sz av)/\av.length=xs.length/\sq x.1 av=true/\av.map (fun e=>e.map C.qc)=xs.map (fun e=>e.map C.qc)/\o=.list sz av:=by
 unfold B4 at h
 split at h
 ·rename_i sz xs gr m' aK av h1 h2
  split at h
  ·rename_i hc
   obtain⟨rfl,rfl,h3,h4,h5⟩:=hc
   injection h with h
   exact⟨_,xs,gr,av,h1,h2,h3,h4,h5,h.symm⟩
  ·cases h
 ·cases h
theorem adN {px:List (List PC)} (hd:(px.map fun e=>e.map PC.er).all (fun e=>e.all C.si)=true) {k j:Nat} {c:PC} (hk:At px k j c):∀sz a cap ys,c=.list sz a cap ys->∀b,¬aS b ys:=by
 rintro sz a cap ys rfl b
 obtain⟨e,he,hj⟩:=hk
 simp only[List.all_eq_true,List.mem_map] at hd
 have h1:=hd (e.map PC.er) ⟨e,List.mem_of_getElem? he,rfl⟩ (PC.er (.list sz a cap ys)) (List.mem_map.2 ⟨_,List.mem_of_getElem? hj,rfl⟩)
 rw[PC.dz] at h1
 exact Ci h1 b
theorem PC.ah3 (c:PC):c.er.qc=c.gk:=by
 cases c with
 |int k n=>rfl
 |bool b=>rfl
 |list sz a cap xs=>rw[PC.dz];rfl
theorem anR {px px':List (List PC)} (hs:(px'.map fun e=>e.map PC.er).map (fun e=>e.map C.qc)=(px.map fun e=>e.map PC.er).map (fun e=>e.map C.qc)) {k j:Nat} {c:PC} (hk:At px' k j c):
  ∃c0,At px k j c0/\c0.gk=c.gk:=by
 obtain⟨e,he,hj⟩:=hk
 have h1:=congrArg (fun l=>l[k]?) hs
 simp only[List.getElem?_map,he,Option.map_some] at h1
 cases h0:px[k]? with
 |none=>rw[h0] at h1;cases h1
 |some e0=>
  rw[h0] at h1
  simp only[Option.map_some,Option.some.injEq] at h1
  have h2:=congrArg (fun l=>l[j]?) h1
  simp only[List.getElem?_map,hj,Option.map_some] at h2
  cases h3:e0[j]? with
  |none=>rw[h3] at h2;cases h2
  |some c0=>
   rw[h3] at h2
   simp only[Option.map_some,Option.some.injEq,PC.ah3] at h2
   exact⟨c0,⟨e0,h0,h3⟩,h2.symm⟩
theorem At.inj {α:Type} {px:List (List α)} {k j:Nat} {c c':α} (h:At px k j c) (h':At px k j c'):c=c':=by
 obtain⟨e,h1,h2⟩:=h
 obtain⟨e',h3,h4⟩:=h'
 rw[h1] at h3
 injection h3 with h3
 subst h3
 rw[h2] at h4
 injection h4
theorem Z2 {px px':List (List PC)} (hd:(px.map fun e=>e.map PC.er).all (fun e=>e.all C.si)=true)
  (hl:∀k j pc,At px k j pc->pc.gk=true->∃c6,At px' k j c6/\c6.val=pc.val/\c6.gk=true) {b:Nat} (hb:aS b px):aS b px':=by
 obtain⟨k,j,c,hk,hc⟩:=hb
 cases c with
 |int k n=>exact absurd hc aP.alZ
 |bool x=>exact absurd hc aP.alY
 |list sz a cap ys=>
  have wk:=adN hd hk sz a cap ys rfl
  rw[aP.ka] at hc
  rcases hc with⟨ax,o,rfl⟩|⟨k',j',c',cX,cj⟩
  ·obtain⟨c',h1,h2,h3⟩:=hl k j _ hk rfl
   cases c' with
   |int k n=>cases h3
   |bool x=>cases h3
   |list aK a' sd ys'=>
    simp only[PC.val] at h2
    injection h2 with e1 e2 e3
    subst e1
    refine⟨k,j,_,h1,?_⟩
    rw[aP.ka]
    refine .inl ⟨fun agj=>?_,o,rfl⟩
    subst agj
    exact ax (List.eq_nil_of_length_eq_zero e2.symm)
  ·exact absurd ⟨k',j',c',cX,cj⟩ (wk b)
end
end Go.Am
