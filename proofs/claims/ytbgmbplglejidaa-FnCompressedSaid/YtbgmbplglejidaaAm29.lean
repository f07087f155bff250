/- Am29: functions that change lists of their arguments: from code to contract. No condition. -/
import Derived.Test.YtbgmbplglejidaaAm28
set_option linter.unusedVariables false
namespace Go.Am
section
variable {B:Nat} {E:Ex} {w0 w w':World} {G G':Gh} {N:Nat} {h h':Nat->Option ao} {used:Nat->Bool}
variable {P:Program} {T:aO} {a:Act} {σ σ':St} {Q:Exit->Act->World->Prop}
theorem NA {α:Type}:∀{s:List (Option Mode)} {xs:List α} {x:Mode×α},x∈ez s xs->x.2∈xs
 |some m::fs,y::xs,x,h=>by
  simp only[ez,List.mem_cons] at h
  rcases h with rfl|h
  ·simp
  ·exact List.mem_cons_of_mem _ (NA h)
 |none::fs,y::xs,x,h=>by
  simp only[ez] at h
  exact List.mem_cons_of_mem _ (NA h)
 |[],_,x,h=>by simp[ez] at h
 |some m::fs,[],x,h=>by simp[ez] at h
 |none::fs,[],x,h=>by simp[ez] at h
theorem Ny {α:Type}:∀{sig:aP} {sJ:List (List α)} {x:Mode×α},x∈eI sig sJ->∃xs∈sJ,x.2∈xs
 |s::sig,xs::sJ,x,h=>by
  simp only[eI,List.mem_append] at h
  rcases h with h|h
  ·exact⟨xs,by simp,NA h⟩
  ·obtain⟨ys,h1,h2⟩:=Ny h
   exact⟨ys,by simp[h1],h2⟩
 |[],_,x,h=>by simp[eI] at h
 |s::sig,[],x,h=>by simp[eI] at h
theorem Ib {fl:List (Mode×PC)} (fU:∀x∈fl,xO w x.1 x.2) (hg:∀x∈fl,Good w x.2):∀(c:Nat) (fs:List (Option Mode)) (ps:List PC),(∀(q:Nat) (x:Mode×PC),(ez fs ps)[q]? =some x->fl[c+q]? =some x)->(∀pc∈ps,Good w pc)->
  (∀pc∈n9 fs ps,∀x∈fl,∀b,aT b pc->¬aT b x.2)->cT w (oA w fl) (nK fl) (gF c fs (ps.map PC.er)) (ps.map PC.val)
 |c,[],ps,hq,fV,hu=>by
  simp only[gF]
  refine⟨by simp,fun j x u hj kz=>?_⟩
  simp only[List.getElem?_map,List.map_map] at hj kz
  cases hp:ps[j]? with
  |none=>rw[hp] at hj;cases hj
  |some pc=>
   rw[hp] at hj kz
   simp at hj kz
   subst hj;subst kz
   have hm:=List.mem_of_getElem? hp
   exact⟨PC.kN pc,pc,rfl,rfl,fV pc hm,fun b hb=>⟨(fV pc hm).lt hb,fun⟨x,hx,eJ⟩=>hu pc (by simpa[n9] using hm) x hx b hb eJ⟩⟩
 |c,f::fs,[],hq,fV,hu=>by
  cases f<;>exact⟨rfl,by intro j c u hj;simp[gF] at hj⟩
 |c,none::fs,p::ps,hq,fV,hu=>by
  have ih:=Ib fU hg c fs ps (fun q x h=>hq q x (by simpa[ez] using h)) (fun pc h=>fV pc (by simp[h])) (fun pc h=>hu pc (by simp[n9,h]))
  simp only[List.map_cons,gF]
  refine⟨by simp[ih.1],fun j x u hj kz=>?_⟩
  cases j with
  |zero=>
   simp at hj kz
   subst hj;subst kz
   exact⟨PC.kN p,p,rfl,rfl,fV p (by simp),fun b hb=>⟨(fV p (by simp)).lt hb,fun⟨x,hx,eJ⟩=>hu p (by simp[n9]) x hx b hb eJ⟩⟩
  |succ j=>exact ih.2 j x u (by simpa using hj) (by simpa using kz)
 |c,some m::fs,p::ps,hq,fV,hu=>by
  have h0:=hq 0 (m,p) (by simp[ez])
  simp only[Nat.add_zero] at h0
  have uH:=List.mem_of_getElem? h0
  obtain⟨sz,a,cap,xs,e,dR,oD,wl⟩:=(fU _ uH).dV
  simp only at e
  subst e
  have ih:=Ib fU hg (c+1) fs ps (fun q x h=>by have:=hq (q+1) x (by simpa[ez] using h);rwa[show c+(q+1)=c+1+q by omega] at this) (fun pc h=>fV pc (by simp[h])) (fun pc h=>hu pc (by simpa[n9] using h))
  simp only[List.map_cons,PC.dO,gF]
  refine⟨by simp[ih.1],fun j x u hj kz=>?_⟩
  cases j with
  |zero=>
   simp at hj kz
   subst hj;subst kz
   refine⟨PC.kN _,fun _=>?_⟩
   have O8:(oA w fl).g (aK+c)=pY (.list sz a cap xs):=by simp only[oA,Nat.add_sub_cancel_left,h0]
   rw[O8]
   rcases(hg _ uH).cases with rfl|⟨aC,jE,b,o,rfl⟩
   ·rw[Fk]
    exact .inl ⟨rfl,rfl,rfl,rfl⟩
   ·rw[zu aC]
    exact .inr ⟨rfl,some (ad b o),by simp[PC.val],by simpa using jE,fun _=>by simp⟩
  |succ j=>exact ih.2 j x u (by simpa using hj) (by simpa using kz)
theorem WR {fl:List (Mode×PC)} (fU:∀x∈fl,xO w x.1 x.2) (hg:∀x∈fl,Good w x.2) {c:Nat} {s:List (Option Mode)} {d:Dv} {v:Value} {p:PA} (hA:zZ w d v p)
  (hq:∀(q:Nat) (x:Mode×PC),(ez s p.ps)[q]? =some x->fl[c+q]? =some x) (hu:∀pc∈n9 s p.ps,∀x∈fl,∀b,aT b pc->¬aT b x.2) (hp:p.k=.ptr->s=[]/\∀x∈fl,¬aT p.b x.2):
  RA w (oA w fl) (nK fl) (sQ c s d) v:=by
 obtain⟨k,ps,b,o⟩:=p
 obtain⟨rfl,fV,hv⟩:=hA
 cases k with
 |one=>
  have hv:ps.map PC.val=[v]:=hv
  have hl:=Ib fU hg c s ps hq fV hu
  rw[hv] at hl
  simp only[sQ]
  obtain⟨x,hx⟩:∃x,gF c s (ps.map PC.er)=[x]:=by
   have:=hl.1
   match hh:gF c s (ps.map PC.er),this with
   |[x],_=>exact⟨x,rfl⟩
  rw[hx] at hl⊢
  exact .inr hl
 |agg=>
  have hv:v=.agg (ps.map PC.val).toArray:=hv
  exact⟨_,hv,Ib fU hg c s ps hq fV hu⟩
 |ptr=>
  obtain⟨h1,h2,h3⟩:v=.pointer (some (ad b o))/\b<w.heap.size/\∀j c,ps[j]? =some c->w.cell? (ad b (o+j))=some c.val:=hv
  obtain⟨rfl,BC⟩:=hp rfl
  subst h1
  refine RA.gu rfl ⟨b,o,ps,by simp,rfl,⟨h2,fun⟨x,hx,eJ⟩=>BC x hx eJ⟩,fun j c hj=>?_⟩
  have hm:=List.mem_of_getElem? hj
  exact⟨h3 j c hj,fV c hm,fun b' aY=>⟨(fV c hm).lt aY,fun⟨x,hx,eJ⟩=>hu c (by simpa[n9] using hm) x hx b' aY eJ⟩⟩
theorem P4 {fl:List (Mode×PC)} (fU:∀x∈fl,xO w x.1 x.2) (hg:∀x∈fl,Good w x.2):∀(ds:List Dv) (k c:Nat) (sig:aP) (vals:List Value) (pas:List PA),vals.length=ds.length->pas.length=ds.length->
  (∀(i:Nat) (d:Dv) (v:Value) (p:PA),ds[i]? =some d->vals[i]? =some v->pas[i]? =some p->zZ w d v p)->(∀(q:Nat) (x:Mode×PC),(eI sig (pas.map (·.ps)))[q]? =some x->fl[c+q]? =some x)->
  (∀pc∈qi sig (pas.map (·.ps)),∀x∈fl,∀b,aT b pc->¬aT b x.2)->(∀p∈pas,p.k=.ptr->∀x∈fl,¬aT p.b x.2)->(∀(i:Nat) (p:PA) (s:List (Option Mode)),pas[i]? =some p->sig[i]? =some s->p.k=.ptr->s=[])->
  ∀s,RA w (oA w fl) (nK fl) (mD k c sig ds s) (if k<=s then vals.getD (s - k) undef else undef)
 |[],k,c,sig,vals,pas,l1,l2,hA,hq,hu,hp,hs,s=>by simp only[mD];exact Or.inl rfl
 |d::ds,k,c,sig,v::vals,p::pas,l1,l2,hA,hq,hu,hp,hs,s=>by
  have l1':vals.length=ds.length:=by simpa using l1
  have l2':pas.length=ds.length:=by simpa using l2
  have A0:=hA 0 d v p rfl rfl rfl
  have A1:=fun i d' v' p' (h1:ds[i]? =some d') (h2:vals[i]? =some v') (h3:pas[i]? =some p')=>hA (i+1) d' v' p' (by simpa using h1) (by simpa using h2) (by simpa using h3)
  have fV:=A0.2.1
  have hd2:d.2=p.ps.map PC.er:=by rw[A0.1]
  have shift:∀x:aj,(s≠k->RA w (oA w fl) (nK fl) x (if k+1<=s then vals.getD (s - (k+1)) undef else undef))->s≠k->RA w (oA w fl) (nK fl) x (if k<=s then(v::vals).getD (s - k) undef else undef):=by
   intro x hx uM
   have:=hx uM
   by_cases hk:k+1<=s
   ·rw[if_pos hk] at this
    rw[if_pos (by omega),show s - k=(s - (k+1))+1 by omega]
    simpa using this
   ·rw[if_neg hk] at this
    rw[if_neg (by omega)]
    exact this
  cases sig with
  |nil=>
   simp only[mD]
   by_cases uM:s=k
   ·subst uM
    rw[bG,if_pos (Nat.le_refl _)]
    simp only[Nat.sub_self,List.getD_cons_zero]
    refine WR fU hg A0 (fun q x h=>by simp[ez] at h) (fun pc aU=>hu pc ?_) (fun e=>⟨rfl,hp p (by simp) e⟩)
    simp only[n9] at aU
    simp[qi,aU]
   ·rw[cz _ _ _ _ uM]
    refine shift _ (fun _=>P4 fU hg ds (k+1) c [] vals pas l1' l2' A1 (fun q x h=>by simp[eI] at h) (fun pc aU=>hu pc ?_) (fun p bj=>hp p (by simp[bj])) (fun i p s _ h=>by simp at h) s) uM
    simp only[qi] at aU
    simp only[List.map_cons,qi,List.flatten_cons,List.mem_append]
    exact .inr aU
  |cons sg sig=>
   simp only[mD]
   have hlen:(ez sg d.2).length=(ez sg p.ps).length:=by rw[hd2,I6,List.length_map]
   by_cases uM:s=k
   ·subst uM
    rw[bG,if_pos (Nat.le_refl _)]
    simp only[Nat.sub_self,List.getD_cons_zero]
    refine WR fU hg A0 (fun q x h=>hq q x ?_) (fun pc aU=>hu pc ?_) (fun e=>⟨hs 0 p sg rfl rfl e,hp p (by simp) e⟩)
    ·simp only[List.map_cons,eI]
     rw[List.getElem?_append_left (List.getElem?_eq_some_iff.1 h).1]
     exact h
    ·simp only[List.map_cons,qi,List.mem_append]
     exact .inl aU
   ·rw[cz _ _ _ _ uM]
    refine shift _ (fun _=>P4 fU hg ds (k+1) (c+(ez sg d.2).length) sig vals pas l1' l2' A1 (fun q x h=>?_) (fun pc aU=>hu pc ?_) (fun p bj=>hp p (by simp[bj])) (fun i p s h1 h2=>hs (i+1) p s (by simpa using h1) (by simpa using h2)) s) uM
    ·have:=hq ((ez sg p.ps).length+q) x (by
      simp only[List.map_cons,eI]
      rw[List.getElem?_append_right (Nat.le_add_right _ _),Nat.add_sub_cancel_left]
      exact h)
     rw[hlen,Nat.add_assoc]
     exact this
    ·simp only[List.map_cons,qi,List.mem_append]
     exact .inr aU
 |_::_,k,c,sig,[],pas,l1,l2,hA,hq,hu,hp,hs,s=>by simp at l1
 |_::_,k,c,sig,_::_,[],l1,l2,hA,hq,hu,hp,hs,s=>by simp at l2
theorem WS {c:Nat} {s:List (Option Mode)} {d:Dv} {m:Nat} (h:(sQ c s d).ref m):aK<=m:=by
 have ca:∀(cs:List C) (c:Nat) (s:List (Option Mode)),∀x∈gF c s cs,x.ref m->aK<=m:=by
  intro cs
  induction cs with
  |nil=>
   intro c s x hx
   cases s with
   |nil=>simp[gF] at hx
   |cons f fs=>cases f<;>simp[gF] at hx
  |cons y cs ih=>
   intro c s x hx hr
   cases s with
   |nil=>
    simp only[gF,List.mem_map] at hx
    obtain⟨z,_,rfl⟩:=hx
    exact absurd hr id
   |cons f fs=>
    cases f with
    |none=>
     simp only[gF,List.mem_cons] at hx
     rcases hx with rfl|hx
     ·exact absurd hr id
     ·exact ih _ _ _ hx hr
    |some md=>
     cases y with
     |list sz xs=>
      simp only[gF,List.mem_cons] at hx
      rcases hx with rfl|hx
      ·have hr:m=aK+c:=hr
       omega
      ·exact ih _ _ _ hx hr
     |int k n=>
      simp only[gF,List.mem_cons] at hx
      rcases hx with rfl|hx
      ·exact absurd hr id
      ·exact ih _ _ _ hx hr
     |bool b=>
      simp only[gF,List.mem_cons] at hx
      rcases hx with rfl|hx
      ·exact absurd hr id
      ·exact ih _ _ _ hx hr
 obtain⟨k,xs⟩:=d
 cases k with
 |one=>
  simp only[sQ] at h
  match hh:gF c s xs,h with
  |[],h=>exact absurd h id
  |[x],h=>exact ca xs c s x (by rw[hh];simp) h
  |_::_::_,h=>exact absurd h id
 |agg=>
  obtain⟨x,hx,hr⟩:=h
  exact ca xs c s x hx hr
 |ptr=>exact absurd h id
theorem P5:∀{ds:List Dv} {k c:Nat} {sig:aP} {s m:Nat},(mD k c sig ds s).ref m->aK<=m
 |[],k,c,sig,s,m,h=>by simp only[mD] at h;exact absurd h id
 |d::ds,k,c,[],s,m,h=>by
  simp only[mD,iY] at h
  split at h
  ·exact WS h
  ·exact P5 h
 |d::ds,k,c,sg::sig,s,m,h=>by
  simp only[mD,iY] at h
  split at h
  ·exact WS h
  ·exact P5 h
theorem R.P8 {sig:aP} {ds:List Dv} {vals:List Value} {pas:List PA} (M:Df w sig ds vals pas) (hN:ds.length<=N):
  R w.heap.size (yj (eI sig (pas.map (·.ps)))) w N (BT sig ds) {tmps:=vals.toArray++Array.replicate (N - vals.toArray.size) undef,defers:=[]} w (oA w (eI sig (pas.map (·.ps)))):=by
 have nJ:ds.map (·.2)=(pas.map (·.ps)).map fun l=>l.map PC.er:=by
  apply List.ext_getElem?
  intro i
  simp only[List.getElem?_map]
  cases hd:ds[i]? with
  |none=>
   have:ds.length<=i:=List.getElem?_eq_none_iff.1 hd
   rw[List.getElem?_eq_none (by rw[M.l2];exact this)]
   rfl
  |some d=>
   have hi:=(List.getElem?_eq_some_iff.1 hd).1
   have hv:vals[i]? =some (vals[i]'(by rw[M.l1];exact hi)):=List.getElem?_eq_getElem _
   have hp:pas[i]? =some (pas[i]'(by rw[M.l2];exact hi)):=List.getElem?_eq_getElem _
   have:=(M.at_ i d _ _ hd hv hp).1
   rw[hp]
   simp only[Option.map_some]
   rw[this]
 have fV:∀p∈pas,∀pc∈p.ps,Good w pc:=by
  intro p hp pc aU
  obtain⟨i,hi,rfl⟩:=List.getElem_of_mem hp
  have hd:ds[i]? =some (ds[i]'(by rw[<-M.l2];exact hi)):=List.getElem?_eq_getElem _
  have hv:vals[i]? =some (vals[i]'(by rw[M.l1,<-M.l2];exact hi)):=List.getElem?_eq_getElem _
  exact(M.at_ i _ _ _ hd hv (List.getElem?_eq_getElem hi)).2.1 pc aU
 have hg:∀x∈eI sig (pas.map (·.ps)),Good w x.2:=by
  intro x hx
  obtain⟨l,hl,qR⟩:=Ny hx
  obtain⟨p,hp,rfl⟩:=List.mem_map.1 hl
  exact fV p hp _ qR
 have Bv:(BT sig ds).h=nK (eI sig (pas.map (·.ps))):=by
  funext n
  simp only[BT,nK,nJ,I5]
 refine⟨rfl,by simp[M.l1];omega,fun s=>?_,fun s n hn=>Nat.ble_eq_true_of_le (P5 hn),?_,Fr.refl _ _ _ (Nat.le_refl _),fun n p b hp hb=>?_,fun n hn=>Nat.ble_eq_true_of_le hn⟩
 ·rw[Bv]
  have:=P4 M.ok hg ds 0 0 sig vals pas M.l1 M.l2 M.at_ (fun q x h=>by rw[Nat.zero_add];exact h) M.free M.ptr M.amj s
  simp only[Nat.zero_le,if_true,Nat.sub_zero] at this
  have e:(vals.toArray++Array.replicate (N - vals.toArray.size) undef).getD s undef=vals.getD s undef:=by
   simp only[Array.getD_eq_getD_getElem?,List.getD_eq_getElem?_getD]
   by_cases bH:s<vals.length
   ·simp[Array.getElem?_append,bH]
   ·rw[List.getElem?_eq_none (by omega)]
    simp only[Array.getElem?_append,List.size_toArray,bH,if_false,Array.getElem?_replicate]
    split<;>rfl
  rw[e]
  exact this
 ·rw[Bv]
  exact HR.P8 hg M.ok M.nF
 ·rw[Bv] at hb
  obtain⟨yM,m,sz,a,cap,xs,hf,e⟩:=qM hb
  have bj:(if aK<=n then((eI sig (pas.map (·.ps)))[n - aK]?).map (fun x=>pY x.2) else none)=some p:=hp
  rw[if_pos yM,hf] at bj
  simp at bj
  subst bj
  have O8:(oA w (eI sig (pas.map (·.ps)))).g n=pY (.list sz a cap xs):=by simp only[oA,hf]
  rw[O8]
  exact⟨rfl,rfl,rfl,rfl,rfl,fun gr aJ aq _ k j pc hk hL=>⟨pc,hk,rfl,hL⟩⟩
theorem Se:∀{fl:List (Mode×C)} {q:Nat} {eZ:List C},w4 σ q fl=some eZ->eZ.length=fl.length/\∀i x,fl[i]? =some x->∃o,eZ[i]? =some o/\Cp σ (q+i) x=some o
 |[],q,eZ,h=>by simp only[w4] at h;injection h with h;subst h;exact⟨rfl,by simp⟩
 |y::l,q,eZ,h=>by
  simp only[w4] at h
  split at h
  ·rename_i o os h1 h2
   injection h with h
   subst h
   obtain⟨i1,i2⟩:=Se h2
   refine⟨by simp[i1],fun i x hx=>?_⟩
   cases i with
   |zero=>simp at hx;subst hx;exact⟨o,rfl,h1⟩
   |succ i=>
    obtain⟨o',e1,e2⟩:=i2 i x (by simpa using hx)
    exact⟨o',by simpa using e1,by rw[show q+(i+1)=q+1+i by omega];exact e2⟩
  ·cases h
theorem amv {q:Nat} {x:Mode×C} {o:C} (h:Cp σ q x=some o):∃sz xs gr aq,x.2=.list sz xs/\σ.h (aK+q)=some (.row gr x.1 sz aq)/\aq.length=xs.length/\s8 x.1 aq=true/\aq.map (fun e=>e.map C.qW)=xs.map (fun e=>e.map C.qW)/\o=.list sz aq:=by
 unfold Cp at h
 split at h
 ·rename_i sz xs gr m' aJ aq h1 h2
  split at h
  ·rename_i hc
   obtain⟨rfl,rfl,h3,h4,h5⟩:=hc
   injection h with h
   exact⟨_,xs,gr,aq,h1,h2,h3,h4,h5,h.symm⟩
  ·cases h
 ·cases h
theorem afg {px:List (List PC)} (hd:(px.map fun e=>e.map PC.er).all (fun e=>e.all C.sY)=true) {k j:Nat} {c:PC} (hk:At px k j c):∀sz a cap ys,c=.list sz a cap ys->∀b,¬aX b ys:=by
 rintro sz a cap ys rfl b
 obtain⟨e,he,hj⟩:=hk
 simp only[List.all_eq_true,List.mem_map] at hd
 have h1:=hd (e.map PC.er) ⟨e,List.mem_of_getElem? he,rfl⟩ (PC.er (.list sz a cap ys)) (List.mem_map.2 ⟨_,List.mem_of_getElem? hj,rfl⟩)
 rw[PC.dO] at h1
 exact CE h1 b
theorem PC.aiL (c:PC):c.er.qW=c.gL:=by
 cases c with
 |int k n=>rfl
 |bool b=>rfl
 |list sz a cap xs=>rw[PC.dO];rfl
theorem aoP {px px':List (List PC)} (hs:(px'.map fun e=>e.map PC.er).map (fun e=>e.map C.qW)=(px.map fun e=>e.map PC.er).map (fun e=>e.map C.qW)) {k j:Nat} {c:PC} (hk:At px' k j c):
  ∃c0,At px k j c0/\c0.gL=c.gL:=by
 obtain⟨e,he,hj⟩:=hk
 have h1:=congrArg (fun l=>l[k]?) hs
 simp only[List.getElem?_map,he,Option.map_some] at h1
 cases h0:px[k]? with
 |none=>rw[h0] at h1;cases h1
 |some e0=>
  rw[h0] at h1
  simp only[Option.map_some,Option.some.injEq] at h1
  have h2:=congrArg (fun l=>l[j]?) h1
  simp only[List.getElem?_map,hj,Option.map_some] at h2
  cases h3:e0[j]? with
  |none=>rw[h3] at h2;cases h2
  |some c0=>
   rw[h3] at h2
   simp only[Option.map_some,Option.some.injEq,PC.aiL] at h2
   exact⟨c0,⟨e0,h0,h3⟩,h2.symm⟩
theorem At.inj {α:Type} {px:List (List α)} {k j:Nat} {c c':α} (h:At px k j c) (h':At px k j c'):c=c':=by
 obtain⟨e,h1,h2⟩:=h
 obtain⟨e',h3,h4⟩:=h'
 rw[h1] at h3
 injection h3 with h3
 subst h3
 rw[h2] at h4
 injection h4
theorem aaO {px px':List (List PC)} (hd:(px.map fun e=>e.map PC.er).all (fun e=>e.all C.sY)=true)
  (hl:∀k j pc,At px k j pc->pc.gL=true->∃dn,At px' k j dn/\dn.val=pc.val/\dn.gL=true) {b:Nat} (hb:aX b px):aX b px':=by
 obtain⟨k,j,c,hk,hc⟩:=hb
 cases c with
 |int k n=>exact absurd hc aT.amn
 |bool x=>exact absurd hc aT.amm
 |list sz a cap ys=>
  have wl:=afg hd hk sz a cap ys rfl
  rw[aT.kI] at hc
  rcases hc with⟨aC,o,rfl⟩|⟨k',j',c',cO,cC⟩
  ·obtain⟨c',h1,h2,h3⟩:=hl k j _ hk rfl
   cases c' with
   |int k n=>cases h3
   |bool x=>cases h3
   |list aJ a' sU ys'=>
    simp only[PC.val] at h2
    injection h2 with e1 e2 e3
    subst e1
    refine⟨k,j,_,h1,?_⟩
    rw[aT.kI]
    refine .inl ⟨fun ah5=>?_,o,rfl⟩
    subst ah5
    exact aC (List.eq_nil_of_length_eq_zero e2.symm)
  ·exact absurd ⟨k',j',c',cO,cC⟩ (wl b)
end
end Go.Am
