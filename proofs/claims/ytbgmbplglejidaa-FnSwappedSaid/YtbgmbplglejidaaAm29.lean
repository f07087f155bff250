/- Am29: functions that change lists of their arguments: from code to contract. No condition. -/
import Derived.Test.YtbgmbplglejidaaAm28
set_option linter.unusedVariables false
namespace Go.Am
section
variable {B:Nat} {E:Ex} {w0 w w':World} {G G':Gh} {N:Nat} {h h':Nat->Option ar} {used:Nat->Bool}
variable {P:Program} {T:aT} {a:Act} {σ σ':St} {Q:Exit->Act->World->Prop}
theorem N3 {α:Type}:∀{s:List (Option Mode)} {xs:List α} {x:Mode×α},x∈eC s xs->x.2∈xs
 |some m::fs,y::xs,x,h=>by
  simp only[eC,List.mem_cons] at h
  rcases h with rfl|h
  ·simp
  ·exact List.mem_cons_of_mem _ (N3 h)
 |none::fs,y::xs,x,h=>by
  simp only[eC] at h
  exact List.mem_cons_of_mem _ (N3 h)
 |[],_,x,h=>by simp[eC] at h
 |some m::fs,[],x,h=>by simp[eC] at h
 |none::fs,[],x,h=>by simp[eC] at h
theorem N1 {α:Type}:∀{sig:aQ} {sQ:List (List α)} {x:Mode×α},x∈eJ sig sQ->∃xs∈sQ,x.2∈xs
 |s::sig,xs::sQ,x,h=>by
  simp only[eJ,List.mem_append] at h
  rcases h with h|h
  ·exact⟨xs,by simp,N3 h⟩
  ·obtain⟨ys,h1,h2⟩:=N1 h
   exact⟨ys,by simp[h1],h2⟩
 |[],_,x,h=>by simp[eJ] at h
 |s::sig,[],x,h=>by simp[eJ] at h
theorem IY {fl:List (Mode×PC)} (fH:∀x∈fl,yn w x.1 x.2) (hg:∀x∈fl,Good w x.2):∀(c:Nat) (fs:List (Option Mode)) (ps:List PC),(∀(q:Nat) (x:Mode×PC),(eC fs ps)[q]? =some x->fl[c+q]? =some x)->(∀pc∈ps,Good w pc)->
  (∀pc∈oA fs ps,∀x∈fl,∀b,aX b pc->¬aX b x.2)->cZ w (oM w fl) (nT fl) (gO c fs (ps.map PC.er)) (ps.map PC.val)
 |c,[],ps,hq,gh,hu=>by
  simp only[gO]
  refine⟨by simp,fun j x u hj lL=>?_⟩
  simp only[List.getElem?_map,List.map_map] at hj lL
  cases hp:ps[j]? with
  |none=>rw[hp] at hj;cases hj
  |some pc=>
   rw[hp] at hj lL
   simp at hj lL
   subst hj;subst lL
   have hm:=List.mem_of_getElem? hp
   exact⟨PC.lx pc,pc,rfl,rfl,gh pc hm,fun b hb=>⟨(gh pc hm).lt hb,fun⟨x,hx,eK⟩=>hu pc (by simpa[oA] using hm) x hx b hb eK⟩⟩
 |c,f::fs,[],hq,gh,hu=>by
  cases f<;>exact⟨rfl,by intro j c u hj;simp[gO] at hj⟩
 |c,none::fs,p::ps,hq,gh,hu=>by
  have ih:=IY fH hg c fs ps (fun q x h=>hq q x (by simpa[eC] using h)) (fun pc h=>gh pc (by simp[h])) (fun pc h=>hu pc (by simp[oA,h]))
  simp only[List.map_cons,gO]
  refine⟨by simp[ih.1],fun j x u hj lL=>?_⟩
  cases j with
  |zero=>
   simp at hj lL
   subst hj;subst lL
   exact⟨PC.lx p,p,rfl,rfl,gh p (by simp),fun b hb=>⟨(gh p (by simp)).lt hb,fun⟨x,hx,eK⟩=>hu p (by simp[oA]) x hx b hb eK⟩⟩
  |succ j=>exact ih.2 j x u (by simpa using hj) (by simpa using lL)
 |c,some m::fs,p::ps,hq,gh,hu=>by
  have h0:=hq 0 (m,p) (by simp[eC])
  simp only[Nat.add_zero] at h0
  have u7:=List.mem_of_getElem? h0
  obtain⟨sz,a,cap,xs,e,dU,oP,wS⟩:=(fH _ u7).dW
  simp only at e
  subst e
  have ih:=IY fH hg (c+1) fs ps (fun q x h=>by have:=hq (q+1) x (by simpa[eC] using h);rwa[show c+(q+1)=c+1+q by omega] at this) (fun pc h=>gh pc (by simp[h])) (fun pc h=>hu pc (by simpa[oA] using h))
  simp only[List.map_cons,PC.dR,gO]
  refine⟨by simp[ih.1],fun j x u hj lL=>?_⟩
  cases j with
  |zero=>
   simp at hj lL
   subst hj;subst lL
   refine⟨PC.lx _,fun _=>?_⟩
   have PH:(oM w fl).g (aK+c)=qh (.list sz a cap xs):=by simp only[oM,Nat.add_sub_cancel_left,h0]
   rw[PH]
   rcases(hg _ u7).cases with rfl|⟨aD,jQ,b,o,rfl⟩
   ·rw[FZ]
    exact .inl ⟨rfl,rfl,rfl,rfl⟩
   ·rw[Aa aD]
    exact .inr ⟨rfl,some (ad b o),by simp[PC.val],by simpa using jQ,fun _=>by simp⟩
  |succ j=>exact ih.2 j x u (by simpa using hj) (by simpa using lL)
theorem X4 {fl:List (Mode×PC)} (fH:∀x∈fl,yn w x.1 x.2) (hg:∀x∈fl,Good w x.2) {c:Nat} {s:List (Option Mode)} {d:Dv} {v:Value} {p:PA} (hA:AL w d v p)
  (hq:∀(q:Nat) (x:Mode×PC),(eC s p.ps)[q]? =some x->fl[c+q]? =some x) (hu:∀pc∈oA s p.ps,∀x∈fl,∀b,aX b pc->¬aX b x.2) (hp:p.k=.ptr->s=[]/\∀x∈fl,¬aX p.b x.2):
  RA w (oM w fl) (nT fl) (sZ c s d) v:=by
 obtain⟨k,ps,b,o⟩:=p
 obtain⟨rfl,gh,hv⟩:=hA
 cases k with
 |one=>
  have hv:ps.map PC.val=[v]:=hv
  have hl:=IY fH hg c s ps hq gh hu
  rw[hv] at hl
  simp only[sZ]
  obtain⟨x,hx⟩:∃x,gO c s (ps.map PC.er)=[x]:=by
   have:=hl.1
   match hh:gO c s (ps.map PC.er),this with
   |[x],_=>exact⟨x,rfl⟩
  rw[hx] at hl⊢
  exact .inr hl
 |agg=>
  have hv:v=.agg (ps.map PC.val).toArray:=hv
  exact⟨_,hv,IY fH hg c s ps hq gh hu⟩
 |ptr=>
  obtain⟨h1,h2,h3⟩:v=.pointer (some (ad b o))/\b<w.heap.size/\∀j c,ps[j]? =some c->w.cell? (ad b (o+j))=some c.val:=hv
  obtain⟨rfl,Cf⟩:=hp rfl
  subst h1
  refine RA.gD rfl ⟨b,o,ps,by simp,rfl,⟨h2,fun⟨x,hx,eK⟩=>Cf x hx eK⟩,fun j c hj=>?_⟩
  have hm:=List.mem_of_getElem? hj
  exact⟨h3 j c hj,gh c hm,fun b' be=>⟨(gh c hm).lt be,fun⟨x,hx,eK⟩=>hu c (by simpa[oA] using hm) x hx b' be eK⟩⟩
theorem QC {fl:List (Mode×PC)} (fH:∀x∈fl,yn w x.1 x.2) (hg:∀x∈fl,Good w x.2):∀(ds:List Dv) (k c:Nat) (sig:aQ) (vals:List Value) (pas:List PA),vals.length=ds.length->pas.length=ds.length->
  (∀(i:Nat) (d:Dv) (v:Value) (p:PA),ds[i]? =some d->vals[i]? =some v->pas[i]? =some p->AL w d v p)->(∀(q:Nat) (x:Mode×PC),(eJ sig (pas.map (·.ps)))[q]? =some x->fl[c+q]? =some x)->
  (∀pc∈qt sig (pas.map (·.ps)),∀x∈fl,∀b,aX b pc->¬aX b x.2)->(∀p∈pas,p.k=.ptr->∀x∈fl,¬aX p.b x.2)->(∀(i:Nat) (p:PA) (s:List (Option Mode)),pas[i]? =some p->sig[i]? =some s->p.k=.ptr->s=[])->
  ∀s,RA w (oM w fl) (nT fl) (mM k c sig ds s) (if k<=s then vals.getD (s - k) undef else undef)
 |[],k,c,sig,vals,pas,l1,l2,hA,hq,hu,hp,hs,s=>by simp only[mM];exact Or.inl rfl
 |d::ds,k,c,sig,v::vals,p::pas,l1,l2,hA,hq,hu,hp,hs,s=>by
  have l1':vals.length=ds.length:=by simpa using l1
  have l2':pas.length=ds.length:=by simpa using l2
  have A0:=hA 0 d v p rfl rfl rfl
  have A1:=fun i d' v' p' (h1:ds[i]? =some d') (h2:vals[i]? =some v') (h3:pas[i]? =some p')=>hA (i+1) d' v' p' (by simpa using h1) (by simpa using h2) (by simpa using h3)
  have gh:=A0.2.1
  have hd2:d.2=p.ps.map PC.er:=by rw[A0.1]
  have shift:∀x:ak,(s≠k->RA w (oM w fl) (nT fl) x (if k+1<=s then vals.getD (s - (k+1)) undef else undef))->s≠k->RA w (oM w fl) (nT fl) x (if k<=s then(v::vals).getD (s - k) undef else undef):=by
   intro x hx ve
   have:=hx ve
   by_cases hk:k+1<=s
   ·rw[if_pos hk] at this
    rw[if_pos (by omega),show s - k=(s - (k+1))+1 by omega]
    simpa using this
   ·rw[if_neg hk] at this
    rw[if_neg (by omega)]
    exact this
  cases sig with
  |nil=>
   simp only[mM]
   by_cases ve:s=k
   ·subst ve
    rw[bN,if_pos (Nat.le_refl _)]
    simp only[Nat.sub_self,List.getD_cons_zero]
    refine X4 fH hg A0 (fun q x h=>by simp[eC] at h) (fun pc bc=>hu pc ?_) (fun e=>⟨rfl,hp p (by simp) e⟩)
    simp only[oA] at bc
    simp[qt,bc]
   ·rw[cE _ _ _ _ ve]
    refine shift _ (fun _=>QC fH hg ds (k+1) c [] vals pas l1' l2' A1 (fun q x h=>by simp[eJ] at h) (fun pc bc=>hu pc ?_) (fun p bg=>hp p (by simp[bg])) (fun i p s _ h=>by simp at h) s) ve
    simp only[qt] at bc
    simp only[List.map_cons,qt,List.flatten_cons,List.mem_append]
    exact .inr bc
  |cons sg sig=>
   simp only[mM]
   have hlen:(eC sg d.2).length=(eC sg p.ps).length:=by rw[hd2,JJ,List.length_map]
   by_cases ve:s=k
   ·subst ve
    rw[bN,if_pos (Nat.le_refl _)]
    simp only[Nat.sub_self,List.getD_cons_zero]
    refine X4 fH hg A0 (fun q x h=>hq q x ?_) (fun pc bc=>hu pc ?_) (fun e=>⟨hs 0 p sg rfl rfl e,hp p (by simp) e⟩)
    ·simp only[List.map_cons,eJ]
     rw[List.getElem?_append_left (List.getElem?_eq_some_iff.1 h).1]
     exact h
    ·simp only[List.map_cons,qt,List.mem_append]
     exact .inl bc
   ·rw[cE _ _ _ _ ve]
    refine shift _ (fun _=>QC fH hg ds (k+1) (c+(eC sg d.2).length) sig vals pas l1' l2' A1 (fun q x h=>?_) (fun pc bc=>hu pc ?_) (fun p bg=>hp p (by simp[bg])) (fun i p s h1 h2=>hs (i+1) p s (by simpa using h1) (by simpa using h2)) s) ve
    ·have:=hq ((eC sg p.ps).length+q) x (by
      simp only[List.map_cons,eJ]
      rw[List.getElem?_append_right (Nat.le_add_right _ _),Nat.add_sub_cancel_left]
      exact h)
     rw[hlen,Nat.add_assoc]
     exact this
    ·simp only[List.map_cons,qt,List.mem_append]
     exact .inr bc
 |_::_,k,c,sig,[],pas,l1,l2,hA,hq,hu,hp,hs,s=>by simp at l1
 |_::_,k,c,sig,_::_,[],l1,l2,hA,hq,hu,hp,hs,s=>by simp at l2
theorem X5 {c:Nat} {s:List (Option Mode)} {d:Dv} {m:Nat} (h:(sZ c s d).ref m):aK<=m:=by
 have bZ:∀(cs:List C) (c:Nat) (s:List (Option Mode)),∀x∈gO c s cs,x.ref m->aK<=m:=by
  intro cs
  induction cs with
  |nil=>
   intro c s x hx
   cases s with
   |nil=>simp[gO] at hx
   |cons f fs=>cases f<;>simp[gO] at hx
  |cons y cs ih=>
   intro c s x hx hr
   cases s with
   |nil=>
    simp only[gO,List.mem_map] at hx
    obtain⟨z,_,rfl⟩:=hx
    exact absurd hr id
   |cons f fs=>
    cases f with
    |none=>
     simp only[gO,List.mem_cons] at hx
     rcases hx with rfl|hx
     ·exact absurd hr id
     ·exact ih _ _ _ hx hr
    |some md=>
     cases y with
     |list sz xs=>
      simp only[gO,List.mem_cons] at hx
      rcases hx with rfl|hx
      ·have hr:m=aK+c:=hr
       omega
      ·exact ih _ _ _ hx hr
     |int k n=>
      simp only[gO,List.mem_cons] at hx
      rcases hx with rfl|hx
      ·exact absurd hr id
      ·exact ih _ _ _ hx hr
     |bool b=>
      simp only[gO,List.mem_cons] at hx
      rcases hx with rfl|hx
      ·exact absurd hr id
      ·exact ih _ _ _ hx hr
 obtain⟨k,xs⟩:=d
 cases k with
 |one=>
  simp only[sZ] at h
  match hh:gO c s xs,h with
  |[],h=>exact absurd h id
  |[x],h=>exact bZ xs c s x (by rw[hh];simp) h
  |_::_::_,h=>exact absurd h id
 |agg=>
  obtain⟨x,hx,hr⟩:=h
  exact bZ xs c s x hx hr
 |ptr=>exact absurd h id
theorem QD:∀{ds:List Dv} {k c:Nat} {sig:aQ} {s m:Nat},(mM k c sig ds s).ref m->aK<=m
 |[],k,c,sig,s,m,h=>by simp only[mM] at h;exact absurd h id
 |d::ds,k,c,[],s,m,h=>by
  simp only[mM,jr] at h
  split at h
  ·exact X5 h
  ·exact QD h
 |d::ds,k,c,sg::sig,s,m,h=>by
  simp only[mM,jr] at h
  split at h
  ·exact X5 h
  ·exact QD h
theorem R.QG {sig:aQ} {ds:List Dv} {vals:List Value} {pas:List PA} (M:D4 w sig ds vals pas) (hN:ds.length<=N):
  R w.heap.size (yQ (eJ sig (pas.map (·.ps)))) w N (CC sig ds) {tmps:=vals.toArray++Array.replicate (N - vals.toArray.size) undef,defers:=[]} w (oM w (eJ sig (pas.map (·.ps)))):=by
 have nR:ds.map (·.2)=(pas.map (·.ps)).map fun l=>l.map PC.er:=by
  apply List.ext_getElem?
  intro i
  simp only[List.getElem?_map]
  cases hd:ds[i]? with
  |none=>
   have:ds.length<=i:=List.getElem?_eq_none_iff.1 hd
   rw[List.getElem?_eq_none (by rw[M.l2];exact this)]
   rfl
  |some d=>
   have hi:=(List.getElem?_eq_some_iff.1 hd).1
   have hv:vals[i]? =some (vals[i]'(by rw[M.l1];exact hi)):=List.getElem?_eq_getElem _
   have hp:pas[i]? =some (pas[i]'(by rw[M.l2];exact hi)):=List.getElem?_eq_getElem _
   have:=(M.at_ i d _ _ hd hv hp).1
   rw[hp]
   simp only[Option.map_some]
   rw[this]
 have gh:∀p∈pas,∀pc∈p.ps,Good w pc:=by
  intro p hp pc bc
  obtain⟨i,hi,rfl⟩:=List.getElem_of_mem hp
  have hd:ds[i]? =some (ds[i]'(by rw[<-M.l2];exact hi)):=List.getElem?_eq_getElem _
  have hv:vals[i]? =some (vals[i]'(by rw[M.l1,<-M.l2];exact hi)):=List.getElem?_eq_getElem _
  exact(M.at_ i _ _ _ hd hv (List.getElem?_eq_getElem hi)).2.1 pc bc
 have hg:∀x∈eJ sig (pas.map (·.ps)),Good w x.2:=by
  intro x hx
  obtain⟨l,hl,oS⟩:=N1 hx
  obtain⟨p,hp,rfl⟩:=List.mem_map.1 hl
  exact gh p hp _ oS
 have B7:(CC sig ds).h=nT (eJ sig (pas.map (·.ps))):=by
  funext n
  simp only[CC,nT,nR,JI]
 refine⟨rfl,by simp[M.l1];omega,fun s=>?_,fun s n hn=>Nat.ble_eq_true_of_le (QD hn),?_,Fr.refl _ _ _ (Nat.le_refl _),fun n p b hp hb=>?_,fun n hn=>Nat.ble_eq_true_of_le hn⟩
 ·rw[B7]
  have:=QC M.ok hg ds 0 0 sig vals pas M.l1 M.l2 M.at_ (fun q x h=>by rw[Nat.zero_add];exact h) M.free M.ptr M.apb s
  simp only[Nat.zero_le,if_true,Nat.sub_zero] at this
  have e:(vals.toArray++Array.replicate (N - vals.toArray.size) undef).getD s undef=vals.getD s undef:=by
   simp only[Array.getD_eq_getD_getElem?,List.getD_eq_getElem?_getD]
   by_cases bK:s<vals.length
   ·simp[Array.getElem?_append,bK]
   ·rw[List.getElem?_eq_none (by omega)]
    simp only[Array.getElem?_append,List.size_toArray,bK,if_false,Array.getElem?_replicate]
    split<;>rfl
  rw[e]
  exact this
 ·rw[B7]
  exact HR.QG hg M.ok M.nM
 ·rw[B7] at hb
  obtain⟨Ce,m,sz,a,cap,xs,hf,e⟩:=qS hb
  have bg:(if aK<=n then((eJ sig (pas.map (·.ps)))[n - aK]?).map (fun x=>qh x.2) else none)=some p:=hp
  rw[if_pos Ce,hf] at bg
  simp at bg
  subst bg
  have PH:(oM w (eJ sig (pas.map (·.ps)))).g n=qh (.list sz a cap xs):=by simp only[oM,hf]
  rw[PH]
  exact⟨rfl,rfl,rfl,rfl,rfl,fun gr aJ au _ k j pc hk hL=>⟨pc,hk,rfl,hL⟩⟩
theorem Te:∀{fl:List (Mode×C)} {q:Nat} {fb:List C},xD σ q fl=some fb->fb.length=fl.length/\∀i x,fl[i]? =some x->∃o,fb[i]? =some o/\C4 σ (q+i) x=some o
 |[],q,fb,h=>by simp only[xD] at h;injection h with h;subst h;exact⟨rfl,by simp⟩
 |y::l,q,fb,h=>by
  simp only[xD] at h
  split at h
  ·rename_i o os h1 h2
   injection h with h
   subst h
   obtain⟨i1,i2⟩:=Te h2
   refine⟨by simp[i1],fun i x hx=>?_⟩
   cases i with
   |zero=>simp at hx;subst hx;exact⟨o,rfl,h1⟩
   |succ i=>
    obtain⟨o',e1,e2⟩:=i2 i x (by simpa using hx)
    exact⟨o',by simpa using e1,by rw[show q+(i+1)=q+1+i by omega];exact e2⟩
  ·cases h
theorem apn {q:Nat} {x:Mode×C} {o:C} (h:C4 σ q x=some o):∃sz xs gr au,x.2=.list sz xs/\σ.h (aK+q)=some (.row gr x.1 sz au)/\au.length=xs.length/\tj x.1 au=true/\au.map (fun e=>e.map C.rb)=xs.map (fun e=>e.map C.rb)/\o=.list sz au:=by
 unfold C4 at h
 split at h
 ·rename_i sz xs gr m' aJ au h1 h2
  split at h
  ·rename_i hc
   obtain⟨rfl,rfl,h3,h4,h5⟩:=hc
   injection h with h
   exact⟨_,xs,gr,au,h1,h2,h3,h4,h5,h.symm⟩
  ·cases h
 ·cases h
theorem aga {px:List (List PC)} (hd:(px.map fun e=>e.map PC.er).all (fun e=>e.all C.te)=true) {k j:Nat} {c:PC} (hk:At px k j c):∀sz a cap ys,c=.list sz a cap ys->∀b,¬aZ b ys:=by
 rintro sz a cap ys rfl b
 obtain⟨e,he,hj⟩:=hk
 simp only[List.all_eq_true,List.mem_map] at hd
 have h1:=hd (e.map PC.er) ⟨e,List.mem_of_getElem? he,rfl⟩ (PC.er (.list sz a cap ys)) (List.mem_map.2 ⟨_,List.mem_of_getElem? hj,rfl⟩)
 rw[PC.dR] at h1
 exact Di h1 b
theorem PC.ak2 (c:PC):c.er.rb=c.gW:=by
 cases c with
 |int k n=>rfl
 |bool b=>rfl
 |list sz a cap xs=>rw[PC.dR];rfl
theorem arR {px px':List (List PC)} (hs:(px'.map fun e=>e.map PC.er).map (fun e=>e.map C.rb)=(px.map fun e=>e.map PC.er).map (fun e=>e.map C.rb)) {k j:Nat} {c:PC} (hk:At px' k j c):
  ∃c0,At px k j c0/\c0.gW=c.gW:=by
 obtain⟨e,he,hj⟩:=hk
 have h1:=congrArg (fun l=>l[k]?) hs
 simp only[List.getElem?_map,he,Option.map_some] at h1
 cases h0:px[k]? with
 |none=>rw[h0] at h1;cases h1
 |some e0=>
  rw[h0] at h1
  simp only[Option.map_some,Option.some.injEq] at h1
  have h2:=congrArg (fun l=>l[j]?) h1
  simp only[List.getElem?_map,hj,Option.map_some] at h2
  cases h3:e0[j]? with
  |none=>rw[h3] at h2;cases h2
  |some c0=>
   rw[h3] at h2
   simp only[Option.map_some,Option.some.injEq,PC.ak2] at h2
   exact⟨c0,⟨e0,h0,h3⟩,h2.symm⟩
theorem At.inj {α:Type} {px:List (List α)} {k j:Nat} {c c':α} (h:At px k j c) (h':At px k j c'):c=c':=by
 obtain⟨e,h1,h2⟩:=h
 obtain⟨e',h3,h4⟩:=h'
 rw[h1] at h3
 injection h3 with h3
 subst h3
 rw[h2] at h4
 injection h4
theorem abJ {px px':List (List PC)} (hd:(px.map fun e=>e.map PC.er).all (fun e=>e.all C.te)=true)
  (hl:∀k j pc,At px k j pc->pc.gW=true->∃dq,At px' k j dq/\dq.val=pc.val/\dq.gW=true) {b:Nat} (hb:aZ b px):aZ b px':=by
 obtain⟨k,j,c,hk,hc⟩:=hb
 cases c with
 |int k n=>exact absurd hc aX.apf
 |bool x=>exact absurd hc aX.ape
 |list sz a cap ys=>
  have wS:=aga hd hk sz a cap ys rfl
  rw[aX.lm] at hc
  rcases hc with⟨aD,o,rfl⟩|⟨k',j',c',cI,cA⟩
  ·obtain⟨c',h1,h2,h3⟩:=hl k j _ hk rfl
   cases c' with
   |int k n=>cases h3
   |bool x=>cases h3
   |list aJ a' ta ys'=>
    simp only[PC.val] at h2
    injection h2 with e1 e2 e3
    subst e1
    refine⟨k,j,_,h1,?_⟩
    rw[aX.lm]
    refine .inl ⟨fun ajd=>?_,o,rfl⟩
    subst ajd
    exact aD (List.eq_nil_of_length_eq_zero e2.symm)
  ·exact absurd ⟨k',j',c',cI,cA⟩ (wS b)
end
end Go.Am
