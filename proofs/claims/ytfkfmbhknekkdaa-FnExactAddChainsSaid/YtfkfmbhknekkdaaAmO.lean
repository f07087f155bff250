/- AmO: calls that change lists of their arguments. No condition. -/
import Derived.Test.YtfkfmbhknekkdaaAmN
set_option linter.unusedVariables false
namespace Go.Am
section
variable {B:Nat} {E:Ex} {w0 w w':World} {G G':Gh} {N:Nat} {h h':Nat->Option ak} {used:Nat->Bool}
variable {P:Program} {o:Oper} {a:Act} {σ σ':St} {Q:Exit->Act->World->Prop}
def uF (p:PB):ct->PC->PB
 |.row _,.list _ _ _ px=>{p with px:=px}
 |.nest _ k off,q=>{p with px:=p.px.set k ((p.px.getD k []).set off q)}
 |_,_=>p
open Classical in
noncomputable def qL (G:Gh) (its:List (ct×Mode)) (qs:List PC):Gh:=
 ⟨G.Im,fun n=>if h:∃p:(ct×Mode)×PC,∃i:Nat,its[i]? =some p.1/\qs[i]? =some p.2/\p.1.1.de=some n then uF (G.g n) h.choose.1.1 h.choose.2 else G.g n⟩
theorem TB {its:List (ct×Mode)} {qs:List PC} (dN:(its.filterMap (·.1.de)).Nodup) {i n:Nat} {it:ct×Mode} {q:PC} (hi:its[i]? =some it) (hq:qs[i]? =some q) (hn:it.1.de=some n):
  (qL G its qs).g n=uF (G.g n) it.1 q:=by
 have n7:∃p:(ct×Mode)×PC,∃i:Nat,its[i]? =some p.1/\qs[i]? =some p.2/\p.1.1.de=some n:=⟨(it,q),i,hi,hq,hn⟩
 unfold qL
 simp only
 rw[dif_pos n7]
 obtain⟨j,h1,h2,h3⟩:=n7.choose_spec
 have hZ:=Gn dN h1 hi h3 hn
 subst hZ
 rw[hi] at h1
 rw[hq] at h2
 injection h1 with h1
 injection h2 with h2
 rw[<-h1,<-h2]
theorem TC {its:List (ct×Mode)} {qs:List PC} {n:Nat} (hn:n∉its.filterMap (·.1.de)):(qL G its qs).g n=G.g n:=by
 unfold qL
 simp only
 rw[dif_neg]
 rintro⟨p,i,h1,h2,h3⟩
 exact hn (List.mem_filterMap.2 ⟨p.1,List.mem_of_getElem? h1,h3⟩)
theorem PC.Mr {pc q:PC} (hv:q.val=pc.val) (hL:pc.fR=true):∃sz a cap xs,q=.list sz a cap xs:=by
 cases pc with
 |int k n=>cases hL
 |bool b=>cases hL
 |list sz a cap xs=>
  cases q with
  |int k n=>cases hv
  |bool b=>cases hv
  |list sz a cap xs=>exact⟨_,_,_,_,rfl⟩
theorem Tj {px:List (List PC)} (hs:fB (px.map fun e=>e.map PC.er)=true) {k j:Nat} {c:PC} (hk:At px k j c):c.fR=false:=by
 obtain⟨e,he,hj⟩:=hk
 have h6:=List.all_eq_true.1 hs (e.map PC.er) (by simp only[List.mem_map];exact⟨e,List.mem_of_getElem? he,rfl⟩)
 have h7:=List.all_eq_true.1 h6 c.er (by simp only[List.mem_map];exact⟨c,List.mem_of_getElem? hj,rfl⟩)
 cases hL:c.fR with
 |false=>rfl
 |true=>rw[PC.Wa hL] at h7;cases h7
theorem Ti {px:List (List PC)} (hs:fB (px.map fun e=>e.map PC.er)=true) (b:Nat):¬aN b px:=by
 rintro⟨k,j,c,⟨e,he,hj⟩,hc⟩
 have h6:=List.all_eq_true.1 hs (e.map PC.er) (by simp only[List.mem_map];exact⟨e,List.mem_of_getElem? he,rfl⟩)
 have h7:=List.all_eq_true.1 h6 c.er (by simp only[List.mem_map];exact⟨c,List.mem_of_getElem? hj,rfl⟩)
 exact(Sep.jI h7).2 b hc
theorem RH (H:HR B E w G h used []) {n:Nat} {gr:Bool} {m md:Mode} {sz:Nat} {xs:List (List C)} (hn:h n=some (.row gr m sz xs)) (hm:m≠ .aF) (qR:md=.live->m=.live) (iy:qG md xs=true)
  {q:PC} (A:qt w' md (lO sz (G.g n)) q) {k:Nat} {ao:List (List C)} (hq:q.er=.list k ao):Dl w' (G.g n) (uF (G.g n) (.row n) q) gr m sz ao:=by
 have hr:=H.row n gr m sz xs hn
 have bJ:h n≠none:=by rw[hn];simp
 obtain⟨aC,a',qy,px',rfl⟩:=PC.Mr A.val rfl
 obtain⟨rfl,ha,rfl,hlen,hl⟩:=A.live _ _ _ _ _ _ _ _ rfl rfl
 rw[PC.du] at hq
 injection hq with _ hq
 have je:=A.sep
 have dU:(∀k j c,At px' k j c->Sep c)/\(∀b o k j c,a'=some (ad b o)->At px' k j c->¬aM b c)/\gx px':=by
  cases je with
  |list _ _ _ _ h1 h2 h3=>exact⟨h1,h2,h1,h3⟩
 have pJ:∀b,aN b px'->(G.g n).nl=false->b≠(G.g n).b:=by
  rintro b ⟨k,j,c,hk,hc⟩ aE rfl
  refine dU.2.1 (G.g n).b (G.g n).o k j c ?_ hk hc
  rw[ha,if_neg (by simp[aE])]
 have ib:md=.aj->fB xs=true:=by rintro rfl;exact iy
 refine⟨hm,?_,rfl,rfl,rfl,rfl,rfl,hq.symm,fun aE=>?_,fun aE=>?_,dU.2.2,fun b hb=>?_,fun cU k j pc hk hL=>?_⟩
 ·cases md with
  |aF=>cases iy
  |live=>exact .inr (qR rfl)
  |aj=>exact .inl (Ti (by rw[<-hr.er];exact ib rfl))
 ·have:=(hr.nl aE).1
  rw[this] at hlen
  exact List.eq_nil_of_length_eq_zero hlen
 ·refine⟨?_,?_⟩
  ·have hg:=A.dA
   rw[ha,if_neg (by simp[aE])] at hg
   by_cases h0:px'=[]
   ·show mQ w' _ _ _ px'
    rw[h0]
    exact⟨by simp,by rintro k j c ⟨e,he,_⟩;simp at he,by rintro k j c ⟨e,he,_⟩;simp at he⟩
   ·generalize iM:PC.list aC (some (ad (G.g n).b (G.g n).o)) (G.g n).cap px'=q2 at hg
    cases hg with
    |int k n=>cases iM
    |bool b=>cases iM
    |nil _ _ _ _=>injection iM with _ _ _ e4;exact absurd e4 h0
    |cons _ _ _ _ _ h1 h2 h3 h4 h5 h6=>
     injection iM with e1 e2 e3 e4
     injection e2 with e2
     obtain⟨e5,e6⟩:=lg e2
     subst e1 e3 e4
     rw[e5,e6]
     exact⟨h4,h5,h6⟩
  ·show px'.length<=_
   rw[hlen]
   exact(hr.dv aE).2.2
 ·have fu:aM b (lO aC (G.g n)):=A.sub b (by
   obtain⟨k,j,c,hk,hc⟩:=hb
   exact .there _ _ _ _ k j c hk hc)
  rcases NW (fun hq=>(hr.nl hq).1) fu with⟨aE,he⟩|hF
  ·exact absurd he (pJ b hb aE)
  ·exact hF
 ·cases md with
  |aF=>cases iy
  |live=>exact hl rfl k j pc hk hL
  |aj=>
   have:=Tj (px:=(G.g n).px) (by rw[<-hr.er];exact ib rfl) hk
   rw[hL] at this;cases this
theorem vD {α:Type} {px:List (List α)} {k off k' j':Nat} {e:List α} {q c:α} (he:px[k]? =some e) (h:At (px.set k (e.set off q)) k' j' c):(k'=k/\j'=off/\c=q)\/(At px k' j' c/\(k',j')≠(k,off)):=by
 have hk:=(List.getElem?_eq_some_iff.1 he).1
 rcases Eg hk h with⟨rfl,h1⟩|⟨av,h1⟩
 ·by_cases hj:j'=off
  ·subst hj
   have hl:j'<e.length:=by have:=(List.getElem?_eq_some_iff.1 h1).1;simpa using this
   rw[List.getElem?_set_self hl] at h1
   injection h1 with h1
   exact .inl ⟨rfl,rfl,h1.symm⟩
  ·rw[List.getElem?_set_ne (Ne.symm hj)] at h1
   exact .inr ⟨⟨e,he,h1⟩,fun e=>hj (congrArg Prod.snd e)⟩
 ·exact .inr ⟨h1,fun e=>av (congrArg Prod.fst e)⟩
theorem aad {α:Type} {px:List (List α)} {k off k' j':Nat} {e:List α} {q c:α} (he:px[k]? =some e) (h:At px k' j' c) (av:(k',j')≠(k,off)):At (px.set k (e.set off q)) k' j' c:=by
 obtain⟨e',h1,h2⟩:=h
 by_cases hk:k'=k
 ·subst hk
  rw[he] at h1
  injection h1 with h1
  subst h1
  have hj:j'≠off:=fun e=>av (by rw[e])
  exact⟨_,List.getElem?_set_self (List.getElem?_eq_some_iff.1 he).1,by rw[List.getElem?_set_ne (Ne.symm hj)];exact h2⟩
 ·exact⟨e',by rw[List.getElem?_set_ne (Ne.symm hk)];exact h1,h2⟩
theorem RG (H:HR B E w G h used []) {n k off:Nat} {gr:Bool} {sz:Nat} {xs:List (List C)} (hn:h n=some (.row gr .live sz xs)) {pc:PC} (bK:At (G.g n).px k off pc) (hL:pc.fR=true)
  (pJ:(G.g n).nl=false->w'.heap[(G.g n).b]? =w.heap[(G.g n).b]?) (K8:∀k' j' c,At (G.g n).px k' j' c->(k',j')≠(k,off)->∀b,aM b c->w'.heap[b]? =w.heap[b]?)
  {q:PC} (A:qt w' .aj pc q) {ex:List C} (n7:xs[k]? =some ex):Dl w' (G.g n) (uF (G.g n) (.nest n k off) q) gr .live sz (xs.set k (ex.set off q.er)):=by
 have hr:=H.row n gr .live sz xs hn
 obtain⟨e0,jB,KM⟩:=bK
 have lz:(G.g n).px.getD k []=e0:=by simp[List.getD_eq_getElem?_getD,jB]
 have eN:(uF (G.g n) (.nest n k off) q).px=(G.g n).px.set k (e0.set off q):=by simp only[uF,lz]
 have acW:ex=e0.map PC.er:=by
  rw[hr.er,List.getElem?_map,jB] at n7
  simpa using n7.symm
 have bK:At (G.g n).px k off pc:=⟨e0,jB,KM⟩
 have hqL:q.fR=true:=by
  obtain⟨sz,a,cap,xs,rfl⟩:=PC.Mr A.val hL
  rfl
 have aE:(G.g n).nl=false:=by
  cases hq:(G.g n).nl with
  |false=>rfl
  |true=>rw[(hr.nl hq).1] at jB;simp at jB
 obtain⟨l1,l2,l3⟩:=hr.dv aE
 refine⟨by simp,.inr rfl,rfl,rfl,rfl,rfl,rfl,?_,fun h=>?_,fun _=>?_,?_,fun b hb=>?_,fun _ k' j' c cC hc=>?_⟩
 ·rw[eN,hr.er,acW,List.map_set,List.map_set]
 ·rw[aE] at h;cases h
 ·rw[eN]
  refine⟨⟨fun e he=>?_,fun k' j' c cC=>?_,fun k' j' c cC=>?_⟩,by rw[List.length_set];exact l3⟩
  ·rcases List.mem_or_eq_of_mem_set he with he|rfl
   ·exact l2.1 e he
   ·rw[List.length_set];exact l2.1 e0 (List.mem_of_getElem? jB)
  ·rw[gL (pJ aE)]
   rcases vD jB cC with⟨rfl,rfl,rfl⟩|⟨h1,_⟩
   ·rw[A.val];exact l2.2.1 _ _ _ bK
   ·exact l2.2.1 _ _ _ h1
  ·rcases vD jB cC with⟨rfl,rfl,rfl⟩|⟨h1,h2⟩
   ·exact A.dA
   ·exact(l2.2.2 _ _ _ h1).congr fun b hb o=>gL (K8 k' j' c h1 h2 b hb) o
 ·rw[eN]
  refine⟨fun k' j' c cC=>?_,fun k1 j1 c1 k2 j2 c2 b h1 h2 av hb aL=>?_⟩
  ·rcases vD jB cC with⟨rfl,rfl,rfl⟩|⟨h1,h2⟩
   ·exact A.sep
   ·exact hr.mode.2.1 _ _ _ h1
  ·rcases vD jB h1 with⟨rfl,rfl,rfl⟩|⟨g1,n1⟩
   ·rcases vD jB h2 with⟨rfl,rfl,rfl⟩|⟨g2,n2⟩
    ·exact av rfl
    ·exact hr.mode.2.2 _ _ _ _ _ _ b bK g2 av (A.sub b hb) aL
   ·rcases vD jB h2 with⟨rfl,rfl,rfl⟩|⟨g2,n2⟩
    ·exact hr.mode.2.2 _ _ _ _ _ _ b g1 bK av hb (A.sub b aL)
    ·exact hr.mode.2.2 _ _ _ _ _ _ b g1 g2 av hb aL
 ·rw[eN] at hb
  obtain⟨k',j',c,cC,hc⟩:=hb
  rcases vD jB cC with⟨rfl,rfl,rfl⟩|⟨h1,h2⟩
  ·exact⟨_,_,_,bK,A.sub b hc⟩
  ·exact⟨_,_,_,h1,hc⟩
 ·rw[eN]
  by_cases he:(k',j')=(k,off)
  ·have h1:k'=k:=congrArg Prod.fst he
   have h2:j'=off:=congrArg Prod.snd he
   subst h1 h2
   obtain⟨e1,g1,g2⟩:=cC
   rw[jB] at g1
   injection g1 with g1
   subst g1
   rw[KM] at g2
   injection g2 with g2
   subst g2
   have hl:j'<e0.length:=(List.getElem?_eq_some_iff.1 KM).1
   exact⟨q,⟨_,List.getElem?_set_self (List.getElem?_eq_some_iff.1 jB).1,List.getElem?_set_self hl⟩,A.val,hqL⟩
  ·exact⟨c,aad jB cC he,rfl,hc⟩
theorem MB:∀{as:List ai} {bT:List (Bool×List ae)} {vals:List Value},nz as=some bT->vals.length=as.length->(∀(j:Nat) (x:ai) (v:Value),as[j]? =some x->vals[j]? =some v->RA w G h x v)->
  vals.length=bT.length/\∀(j:Nat) (x:Bool×List ae) (v:Value),bT[j]? =some x->vals[j]? =some v->RV w G h x.1 x.2 v
 |[],bT,vals,hx,hl,hc=>by
  simp only[nz] at hx
  injection hx with hx
  subst hx
  exact⟨hl,by simp⟩
 |y::as,bT,vals,hx,hl,hc=>by
  simp only[nz] at hx
  split at hx
  ·rename_i x xs e1 e2
   injection hx with hx
   subst hx
   match vals,hl with
   |v::vals,hl=>
    obtain⟨i1,i2⟩:=MB e2 (vals:=vals) (by simpa using hl) (fun j x v h1 h2=>hc (j+1) x v h1 h2)
    refine⟨by simp[i1],fun j x' v' hj hv=>?_⟩
    cases j with
    |zero=>
     simp at hj hv
     subst hj hv
     have h0:=hc 0 y v rfl rfl
     cases y with
     |one c=>
      cases c<;>simp[ai.cells?] at e1<;>subst e1<;>exact h0.resolve_left (by simp)
     |agg cs=>
      simp[ai.cells?] at e1
      subst e1
      exact h0
     |aY l=>simp[ai.cells?] at e1
    |succ j=>exact i2 j x' v' (by simpa using hj) (by simpa using hv)
  ·cases hx
theorem qq.fR {it:ct} {md:Mode} {pc:PC} (i:qq B E w G h it md pc):pc.fR=true:=by
 obtain⟨sz,a,cap,xs,rfl,_⟩:=i.ok.dv
 rfl
def xU (P:Program) (T:aA):Prop:=∀f sig M,aA.kF T.rn f=some (sig,M)->rP P f sig M
def Iy (w:World) (sig:aJ) (aD:List PA) (rs:List Dv) (cP:List C) (e:Ending) (w':World):Prop:=
  ∃aT:List (K×List PC),aT.map (fun p=>(p.1,p.2.map PC.er))=rs/\e=.returned (sZ aT)/\(∀p∈aT,p.1≠ .ptr/\(p.1=.one->p.2.length=1))/\
   xT w' w.heap.size (aT.flatMap (·.2))/\Fr w.heap.size (yx (dr sig (aD.map (·.ps)))) w w'/\
   ∃qs:List PC,qs.map PC.er=cP/\qs.length=(dr sig (aD.map (·.ps))).length/\
    ∀(i:Nat) (x:Mode×PC) (q:PC),(dr sig (aD.map (·.ps)))[i]? =some x->qs[i]? =some q->qt w' x.1 x.2 q
theorem SH (r:R B E w0 N σ a w G) {m:Mode} {f:FuncId} {vals vals':List Value} {sig:aJ} {ns:List Nat} {ds:List Dv} {its:List (ct×Mode)} {aD:List PA} {rs:List Dv} {cP:List C} {σ2 fm:St} {ls:List (Bool×List ae)}
  (hS:∀aD,tu w sig ds vals aD->Calls P f vals'.toArray w (Iy w sig aD rs cP)) (hN:∀n,o.dst=some n->n<N) (bH:(execOp a.eval o).run P w=.ok (.enter f vals'.toArray) w)
  (q1:aD.length=ds.length) (q2:vals.length=ds.length) (q3:∀(i:Nat) (d:Dv) (v:Value) (p:PA),ds[i]? =some d->vals[i]? =some v->aD[i]? =some p->rH w d v p)
  (Fz:∀p∈aD,p.k=.ptr->∃n cs,σ.h n=some (.box cs)/\(G.g n).nl=false/\p.b=(G.g n).b)
  (adg:∀(i:Nat) (p:PA) (s:List (Option Mode)),aD[i]? =some p->sig[i]? =some s->p.k=.ptr->uN s p.ps.length)
  (q5:io B E w G σ.h its (dr sig (aD.map (·.ps)))) (q6:its.filterMap (·.1.de)=ns) (q7:∀pc∈jq sig (aD.map (·.ps)),Av G σ.h ns pc) (dN:ns.Nodup)
  (kM:σ.kT its cP=some σ2) (n8:σ2.gH m (oz o.dst) rs=some (ls,fm)):o.wp P a w (Nx B E w0 N (fm.put o.dst (iR ls))) Q:=by
 have H:=r.hr
 have qT:(its.filterMap (·.1.de)).Nodup:=by rw[q6];exact dN
 generalize qP:dr sig (aD.map (·.ps))=fl at q5
 have F0:∀(i:Nat) (x:Mode×PC),fl[i]? =some x->∃it,its[i]? =some it/\it.2=x.1/\qq B E w G σ.h it.1 x.1 x.2:=by
  intro i x hi
  have bB:i<its.length:=by rw[q5.len];exact(List.getElem?_eq_some_iff.1 hi).1
  have he:its[i]? =some its[i]:=List.getElem?_eq_getElem bB
  exact⟨_,he,q5.at_ i _ x he hi⟩
 have Tl:∀x∈fl,∃it∈its,qq B E w G σ.h it.1 x.1 x.2:=by
  intro x hx
  obtain⟨i,hi⟩:=List.getElem?_of_mem hx
  obtain⟨it,h1,_,h2⟩:=F0 i x hi
  exact⟨it,List.mem_of_getElem? h1,h2⟩
 have kK:∀x∈fl,∀b,aM b x.2->∃n gr m sz xs,n∈ns/\σ.h n=some (.row gr m sz xs)/\m≠ .aF/\qJ G n b/\((∀b,¬aN b (G.g n).px)\/m=.live):=by
  intro x hx b hb
  obtain⟨it,h1,h2⟩:=Tl x hx
  obtain⟨n,gr,m,sz,xs,e1,e2,e3,e4,e5⟩:=h2.lp H hb
  exact⟨n,gr,m,sz,xs,by rw[<-q6];exact List.mem_filterMap.2 ⟨it,h1,e1⟩,e2,e3,e4,e5⟩
 have n7:∀b,yx fl b->(B<=b\/E b):=by
  rintro b ⟨x,hx,hb⟩
  obtain⟨n,gr,m,sz,xs,_,e2,e3,e4,e5⟩:=kK x hx b hb
  rcases e4 with⟨aE,rfl⟩|hF
  ·exact(H.own n (by rw[e2];simp) aE).2.1
  ·have gj:=(H.row n gr m sz xs e2).mode
   cases m with
   |aF=>exact absurd rfl e3
   |aj=>exact(gj.1 b hF).2.2
   |live=>exact(gj.1 b hF).2.2
 have MD:tu w sig ds vals aD:=by
  refine⟨q2,q1,q3,fun x hx=>?_,?_,fun pc bc x hx b hb aL=>?_,fun p hp hk x hx hb=>?_,adg⟩
  ·rw[qP] at hx
   obtain⟨it,_,h2⟩:=Tl x hx
   exact h2.ok
  ·rw[qP,List.pairwise_iff_getElem]
   intro i j hi hj hZ b hb aL
   obtain⟨it,h1,_,h2⟩:=F0 i _ (List.getElem?_eq_getElem hi)
   obtain⟨wP,iH,_,yC⟩:=F0 j _ (List.getElem?_eq_getElem hj)
   obtain⟨n,gr,m,sz,xs,e1,e2,e3,e4,e5⟩:=h2.lp H hb
   obtain⟨n',aU,m',aC,ao,ym,kC,Jk,sa,vS⟩:=yC.lp H aL
   have av:n≠n':=by
    rintro rfl
    have:=Gn qT h1 iH e1 ym
    omega
   exact H.Bo av e2 kC vS e4 sa
  ·rw[qP] at hx
   obtain⟨n',aU,m',aC,ao,ym,kC,Jk,sa,vS⟩:=kK x hx b aL
   rcases q7 pc bc b hb with hi|⟨n,gr,m,sz,xs,hn,e2,e4⟩
   ·rcases sa with⟨aE,rfl⟩|hF
    ·exact(H.own n' (by rw[kC];simp) aE).1 hi
    ·rcases vS with vS|rfl
     ·exact vS b hF
     ·exact((H.row n' aU .live aC ao kC).mode.1 b hF).1 hi
   ·have av:n≠n':=fun e=>hn (e▸ym)
    exact H.Bo av e2 kC vS e4 sa
  ·rw[qP] at hx
   obtain⟨n',aU,m',aC,ao,ym,kC,Jk,sa,vS⟩:=kK x hx p.b hb
   obtain⟨n,cs,hn,hl,wA⟩:=Fz p hp hk
   rw[wA] at sa
   have bJ:σ.h n≠none:=by rw[hn];simp
   rcases sa with⟨aE,he⟩|hF
   ·refine H.inj n n' bJ (by rw[kC];simp) ?_ hl aE he
    rintro rfl
    rw[hn] at kC
    cases kC
   ·have gj:=(H.row n' aU m' aC ao kC).mode
    cases m' with
    |aF=>exact absurd rfl Jk
    |aj=>exact(H.own n bJ hl).1 (gj.1 _ hF).1
    |live=>exact H.live n' aU aC ao kC _ hF n bJ hl rfl
 unfold Oper.wp
 rw[bH]
 refine(hS aD MD).mono fun e w' ⟨aT,p1,p2,p3,p4,p5,qs,p6,p7,p8⟩=>?_
 subst p2
 rw[qP] at p5 p7 p8
 obtain⟨t1,t2,t3,t4⟩:=XF kM qT
 have TL:∀n,n∈ns->∃(i:Nat) (it:ct×Mode) (x:Mode×PC) (q:PC),its[i]? =some it/\fl[i]? =some x/\qs[i]? =some q/\cP[i]? =some q.er/\it.1.de=some n/\qq B E w G σ.h it.1 x.1 x.2/\qt w' x.1 x.2 q:=by
  intro n hn
  rw[<-q6,List.mem_filterMap] at hn
  obtain⟨it,tT,fC⟩:=hn
  obtain⟨i,hi⟩:=List.getElem?_of_mem tT
  have bB:i<fl.length:=by rw[<-q5.len];exact(List.getElem?_eq_some_iff.1 hi).1
  have hx:fl[i]? =some fl[i]:=List.getElem?_eq_getElem bB
  have hq:qs[i]? =some (qs[i]'(by rw[p7];exact bB)):=List.getElem?_eq_getElem _
  exact⟨i,it,_,_,hi,hx,hq,by rw[<-p6,List.getElem?_map,hq];rfl,fC,(q5.at_ i it _ hi hx).2,p8 i _ _ hx hq⟩
 have ady:∀b,b<w.heap.size->(∀n,n∈ns->¬qJ G n b)->w'.heap[b]? =w.heap[b]? :=by
  intro b hb cq
  refine p5.block b hb ?_
  rintro⟨x,hx,Bx⟩
  obtain⟨n,gr,m,sz,xs,e1,e2,e3,e4,e5⟩:=kK x hx b Bx
  exact cq n e1 e4
 have ada:∀b,b<w.heap.size->(∀x∈fl,¬aM b x.2)->w'.heap[b]? =w.heap[b]? :=fun b hb cq=>p5.block b hb (by rintro⟨x,hx,Bx⟩;exact cq x hx Bx)
 obtain⟨rM,K,eA⟩:=H.Gm (G':=qL G its qs) (h':=σ2.h) (w':=w') (S:=fun n=>n∈ns) p5.size ady (fun b hb=>p5.iU b hb) rfl (fun n hn=>by
  obtain⟨i,it,x,q,hi,UC,nb,iL,fC,eG,Br⟩:=TL n hn
  have bK:=eG.at_
  have Uf:=t4 i it q.er hi iL
  rw[TB qT hi nb fC]
  obtain⟨LU,md⟩:=it
  cases LU with
  |nil sz=>cases fC
  |row n'=>
   injection fC with fC
   have fC:n'=n:=fC
   subst fC
   obtain⟨gr,mo,sz,xs,e1,e2,e3,e4,e5⟩:=bK
   obtain⟨aU,kR,NZ,ju,ao,g1,g2,g3⟩:=Uf
   rw[e1] at g1
   injection g1 with g1
   injection g1 with a1 a2 a3 a4
   subst a1 a2 a3 a4
   rw[e4] at Br
   exact⟨gr,mo,sz,xs,ao,e1,g3,RH H e1 e2 e3 e5 Br g2⟩
  |nest n' k off=>
   injection fC with fC
   have fC:n'=n:=fC
   subst fC
   obtain⟨gr,sz,xs,e1,e2,e3⟩:=bK
   obtain⟨aU,kR,NZ,ju,ex,g1,g2,g3⟩:=Uf
   rw[e1] at g1
   injection g1 with g1
   injection g1 with a1 a2 a3 a4
   subst a1 a2 a3 a4
   rw[e2] at Br
   have hr:=H.row n' gr .live sz xs e1
   have bJ:σ.h n'≠none:=by rw[e1];simp
   have FA:∀b,qJ G n' b->¬aM b x.2->w'.heap[b]? =w.heap[b]? :=by
    intro b hb ww
    have bB:b<w.heap.size:=by
     rcases hb with⟨aE,rfl⟩|hF
     ·exact(H.own n' bJ aE).2.2
     ·exact H.oK e1 hF
    refine ada b bB fun y hy ma=>?_
    obtain⟨j,hj⟩:=List.getElem?_of_mem hy
    by_cases hZ:j=i
    ·subst hZ
     rw[UC] at hj
     injection hj with hj
     subst hj
     exact ww ma
    ·obtain⟨wP,iH,_,yC⟩:=F0 j y hj
     obtain⟨n2,yB,m2,iS,gw,f1,f2,f3,f4,f5⟩:=yC.lp H ma
     have av:n'≠n2:=by
      rintro rfl
      exact hZ (Gn qT iH hi f1 rfl)
     exact H.Bo av e1 f2 f5 hb f4
   refine⟨gr,.live,sz,xs,_,e1,g3,RG H e1 e3 eG.fR (fun aE=>FA _ (.inl ⟨aE,rfl⟩) fun hb=>?_) (fun k' j' c hk av b hb=>FA b (.inr ⟨k',j',c,hk,hb⟩) fun Bx=>?_) Br g2⟩
   ·exact H.live n' gr sz xs e1 _ ⟨k,off,x.2,e3,hb⟩ n' bJ aE rfl
   ·exact hr.mode.2.2 _ _ _ _ _ _ b hk e3 av hb Bx) (fun n hn=>⟨t3 n (by rw[q6];exact hn),TC (by rw[q6];exact hn)⟩)
 have ZM:HR B E w' (qL G its qs) σ2.h σ2.used []:=by rw[t2];exact rM
 have fu:rN B w' (qL G its qs) σ2.h (aT.flatMap (·.2)):=by
  refine⟨p4.dA,fun pc bc b hb=>?_,?_⟩
  ·obtain⟨n1,n2⟩:=p4.new pc bc b hb
   refine⟨⟨fun hi=>?_,fun q hq iM he=>?_,fun q gr mo sz xs hq cz=>?_⟩,n2,Nat.le_trans r.fr.size n1⟩
   ·have:=H.fv b hi;omega
   ·obtain⟨k0,k1,k2,_⟩:=K.name q (rM.gN q hq) hq
    have:=(H.own q k0 (k1.symm.trans iM)).2.2
    rw[<-k2] at this
    omega
   ·have aL:=eA q b cz
    have y3:=rM.gN q (by rw[hq];simp)
    obtain⟨k0,_⟩:=K.name q y3 (by rw[hq];simp)
    cases hh:σ.h q with
    |none=>exact absurd hh k0
    |some blk=>
     cases blk with
     |box cs=>
      have:q∉ns:=by
       intro hm
       obtain⟨i,it,x,q',hi,UC,nb,iL,fC,eG,Br⟩:=TL q hm
       have bK:=eG.at_
       obtain⟨LU,md⟩:=it
       cases LU with
       |nil sz=>cases fC
       |row n'=>
        injection fC with fC
        have fC:n'=q:=fC
        subst fC
        obtain⟨gr,mo,sz,xs,e1,_⟩:=bK
        rw[hh] at e1;cases e1
       |nest n' k off=>
        injection fC with fC
        have fC:n'=q:=fC
        subst fC
        obtain⟨gr,sz,xs,e1,_⟩:=bK
        rw[hh] at e1;cases e1
      have h3:=t3 q (by rw[q6];exact this)
      rw[h3,hh] at hq
      cases hq
     |row aU m' aC ao=>have:=H.oK hh aL;omega
  ·rw[List.pairwise_iff_getElem]
   intro i j hi hj hZ b hb
   exact p4.lm i j _ _ b (by omega) (List.getElem?_eq_getElem hi) (List.getElem?_eq_getElem hj) hb
 rw[<-p1] at n8
 obtain⟨G',b1,b2,b3,b4,b5,b6,b7⟩:=HR.gH ZM n8 p3 fu
 have yM:Fr B E w0 w':=by
  refine⟨p5.os.trans r.fr.os,p5.tape.trans r.fr.tape,p5.output.trans r.fr.output,Nat.le_trans r.fr.size p5.size,fun b hb he=>?_,fun b hb=>?_⟩
  ·refine(p5.block b (Nat.lt_of_lt_of_le hb r.fr.size) fun hx=>?_).trans (r.fr.block b hb he)
   rcases n7 b hx with h1|h1
   ·omega
   ·exact he h1
  ·exact(r.fr.iU b hb).trans (p5.iU b (Nat.lt_of_lt_of_le hb r.fr.size))
 have K2:aQ w G σ.h (fun n=>σ.used n=true) w' G' fm.h:=aQ.trans (fun n hn=>by rw[t2];exact hn) K b2
 have r2:R B E w0 N fm a w' G':=r.step (b6.trans t1) (fun q hq=>b7 q (by rw[t2];exact hq)) K2 b1 yM
 refine⟨G',r2.put (RA.iR b3 p3 b4) ?_ hN⟩
 intro q hq
 match ls,hq with
 |[],hq=>obtain⟨x,hx,_⟩:=hq;simp at hx
 |[(true,cs)],hq=>obtain⟨c,hc,hq⟩:=hq;exact b5 (true,cs) (by simp) c hc q hq
 |[(false,[c])],hq=>exact b5 (false,[c]) (by simp) c (by simp) q hq
 |[(false,[])],hq=>exact absurd hq id
 |[(false,_::_::_)],hq=>exact absurd hq id
 |x::y::ls,hq=>obtain⟨x',gk,c,hc,hq⟩:=hq;exact b5 x' gk c hc q hq
theorem SK (r:R B E w0 N σ a w G) {T:aA} {m:Mode} {f:FuncId} {as:List ai} {vals vals':List Value} {σ1:St}
  (hS:∀sig M,aA.kF T.rn f=some (sig,M)->∀ds rs cP,M ds=some (rs,cP)->∀aD,tu w sig ds vals aD->Calls P f vals'.toArray w (Iy w sig aD rs cP)) (hN:∀n,o.dst=some n->n<N)
  (bH:(execOp a.eval o).run P w=.ok (.enter f vals'.toArray) w) (hl:vals.length=as.length)
  (kI:∀(j:Nat) (x:ai) (v:Value),as[j]? =some x->vals[j]? =some v->RA w G σ.h x v)
  (hx:nU T m o.dst f as σ=some σ1):o.wp P a w (Nx B E w0 N σ1) Q:=by
 have H:=r.hr
 unfold nU at hx
 split at hx
 ·rename_i sig M bT hM BB
  split at hx
  ·rename_i dN
   split at hx
   ·rename_i ds its hv
    split at hx
    ·rename_i rs cP lr
     split at hx
     ·rename_i σ2 kM
      split at hx
      ·rename_i ls fm n8
       injection hx with hx
       subst hx
       obtain⟨sC,Bu⟩:=MB BB hl kI
       obtain⟨aD,q1,q2,q3,q4,q5,q6,q7⟩:=H.jH hv sC Bu
       exact SH r (fun ND hm=>hS sig M hM ds rs cP lr ND hm) hN bH q1 q2 q3 (fun p hp hk=>absurd hk (q4 p hp)) (fun i p s hp _ hk=>absurd hk (q4 p (List.mem_of_getElem? hp))) q5 q6 q7 dN kM n8
      ·cases hx
     ·cases hx
    ·cases hx
   ·cases hx
  ·cases hx
 ·cases hx
theorem abA (r:R B E w0 N σ a w G) {T:aA} (hT:xU P T) {m:Mode} {f:FuncId} {as:List ai} {vals:List Value} {σ1:St} (hN:∀n,o.dst=some n->n<N)
  (bH:(execOp a.eval o).run P w=.ok (.enter f vals.toArray) w) (hl:vals.length=as.length)
  (kI:∀(j:Nat) (x:ai) (v:Value),as[j]? =some x->vals[j]? =some v->RA w G σ.h x v)
  (hx:nU T m o.dst f as σ=some σ1):o.wp P a w (Nx B E w0 N σ1) Q:=
 SK r (fun sig M hM ds rs cP h aD hm=>hT f sig M hM ds rs cP h w vals aD hm) hN bH hl kI hx
theorem abp (r:R B E w0 N σ a w G) {T:aA} (hT:xU P T) {m:Mode} {f:FuncId} {xs:Array Operand} {ms:List MO} {ts:Array TypeId} {σ1:St} (hN:∀n,o.dst=some n->n<N)
  (ho:o.op=.call {callee:=.value (.func f),args:=xs,argTypes:=ts}) (hf:ca P f=true) (hm:ff xs.toList ms=true)
  (hx:nU T m o.dst f (ms.map σ.ev) σ=some σ1):o.wp P a w (Nx B E w0 N σ1) Q:=by
 obtain⟨e1,e2⟩:=r.sb hm
 refine abA r hT (vals:=xs.toList.map a.eval) hN ?_ (by simpa using e1) e2 hx
 have he:(xs.toList.map a.eval).toArray=xs.map a.eval:=by apply Array.ext';simp
 rw[he]
 simp[execOp,ho,resolve,Deferred.ofValue,invoke,Act.eval,s7 hf]
theorem aje {s:List (Option Mode)} {n:Nat} (h:NH s n=true):uN s n:=by
 rcases of_decide_eq_true h with h|⟨h1,h2⟩
 ·exact .inl h
 ·exact .inr ⟨n - 1,by omega,h2⟩
def Dq (w:World) (G:Gh) (h:Nat->Option ak) (k:K) (cs:List ae) (v:Value):Prop:=
 match k with
 |.one=>RV w G h false cs v
 |.agg=>RV w G h true cs v
 |.ptr=>∃n,h n=some (.box cs)/\(G.g n).nl=false/\v=.pointer (some (ad (G.g n).b (G.g n).o))
theorem ait {s:List (Option Mode)} {y:ai} {x:K×List ae} {v:Value} (hx:uI h s y=some x) (hc:RA w G h y v):Dq w G h x.1 x.2 v/\(x.1=.ptr->uN s x.2.length):=by
 have gen:∀{y:ai},RA w G h y v->(∀n k z off,y≠ .one (.ptr n k z off))->(match y.cells? with|some (ag,cs)=>some (if ag=true then K.agg else .one,cs)|none=>none)=some x->Dq w G h x.1 x.2 v/\(x.1=.ptr->uN s x.2.length):=by
  intro y hc av hx
  cases hy:y.cells? with
  |none=>rw[hy] at hx;cases hx
  |some z=>
   obtain⟨ag,cs⟩:=z
   rw[hy] at hx
   injection hx with hx
   subst hx
   cases y with
   |one c=>
    cases c<;>simp[ai.cells?] at hy<;>obtain⟨rfl,rfl⟩:=hy<;>exact⟨hc.resolve_left (by simp),by intro e;cases e⟩
   |agg cs'=>
    simp[ai.cells?] at hy
    obtain⟨rfl,rfl⟩:=hy
    exact⟨hc,by intro e;cases e⟩
   |aY l=>simp[ai.cells?] at hy
 by_cases hp:∃n k z off,y=.one (.ptr n k z off)
 ·obtain⟨n,k,z,off,rfl⟩:=hp
  simp only[uI] at hx
  split at hx
  ·rename_i cs hn
   split at hx
   ·rename_i cm
    obtain⟨rfl,rfl,hs⟩:=cm
    injection hx with hx
    subst hx
    have h1:RC w G h (.ptr n 0 z 0) v:=((hc.resolve_left (by simp)).2 0 _ v rfl rfl).2
    obtain⟨q1,q2⟩:=h1 (by rw[hn];simp)
    exact⟨⟨n,hn,q1,by simpa using q2⟩,fun _=>aje hs⟩
   ·cases hx
  ·cases hx
 ·have av:∀n k z off,y≠ .one (.ptr n k z off):=fun n k z off e=>hp ⟨n,k,z,off,e⟩
  refine gen hc av ?_
  unfold uI at hx
  split at hx
  ·rename_i n k z off
   exact absurd rfl (av n k z off)
  ·exact hx
theorem Xq:∀{as:List ai} {sig:aJ} {bT:List (K×List ae)} {vals:List Value},uJ h sig as=some bT->vals.length=as.length->(∀(j:Nat) (x:ai) (v:Value),as[j]? =some x->vals[j]? =some v->RA w G h x v)->
  vals.length=bT.length/\(∀(j:Nat) (x:K×List ae) (v:Value),bT[j]? =some x->vals[j]? =some v->Dq w G h x.1 x.2 v)/\∀(j:Nat) (x:K×List ae) (s:List (Option Mode)),bT[j]? =some x->sig[j]? =some s->x.1=.ptr->uN s x.2.length
 |[],sig,bT,vals,hx,hl,hc=>by
  simp only[uJ] at hx
  injection hx with hx
  subst hx
  exact⟨hl,by simp,by simp⟩
 |y::as,sig,bT,vals,hx,hl,hc=>by
  simp only[uJ] at hx
  split at hx
  ·rename_i x xs e1 e2
   injection hx with hx
   subst hx
   match vals,hl with
   |v::vals,hl=>
    obtain⟨i1,i2,i3⟩:=Xq e2 (vals:=vals) (by simpa using hl) (fun j x v h1 h2=>hc (j+1) x v h1 h2)
    obtain⟨p1,p2⟩:=ait e1 (hc 0 y v rfl rfl)
    refine⟨by simp[i1],fun j x' v' hj hv=>?_,fun j x' s hj hs=>?_⟩
    ·cases j with
     |zero=>simp at hj hv;subst hj hv;exact p1
     |succ j=>exact i2 j x' v' (by simpa using hj) (by simpa using hv)
    ·cases sig with
     |nil=>simp at hs
     |cons s0 sig=>
      cases j with
      |zero=>simp at hj hs;subst hj hs;exact p2
      |succ j=>exact i3 j x' s (by simpa using hj) (show sig[j]? =some s by simpa using hs)
  ·cases hx
theorem HR.oF (H:HR B E w G h used []) {ns:List Nat}:∀{as:List (K×List ae)} {sig:aJ} {ds:List Dv} {its:List (ct×Mode)} {vals:List Value},Am.oF h (dk h ns) sig as=some (ds,its)->vals.length=as.length->
  (∀(j:Nat) (x:K×List ae) (v:Value),as[j]? =some x->vals[j]? =some v->Dq w G h x.1 x.2 v)->
  ∃aD:List PA,aD.length=ds.length/\vals.length=ds.length/\(∀(i:Nat) (d:Dv) (v:Value) (p:PA),ds[i]? =some d->vals[i]? =some v->aD[i]? =some p->rH w d v p)/\
   (∀p∈aD,p.k=.ptr->∃n cs,h n=some (.box cs)/\(G.g n).nl=false/\p.b=(G.g n).b)/\
   (∀(i:Nat) (p:PA),aD[i]? =some p->∃x,as[i]? =some x/\p.k=x.1/\p.ps.length=x.2.length)/\
   io B E w G h its (dr sig (aD.map (·.ps)))/\its.filterMap (·.1.de)=uM sig as/\∀pc∈jq sig (aD.map (·.ps)),Av G h ns pc
 |[],sig,ds,its,vals,hx,hl,hc=>by
  simp only[Am.oF] at hx
  injection hx with hx
  injection hx with h1 h2
  subst h1 h2
  refine⟨[],rfl,by simpa using hl,by simp,by simp,by simp,?_,?_,?_⟩
  ·cases sig<;>exact io.nil
  ·cases sig<;>rfl
  ·cases sig<;>simp[jq]
 |(k,cs)::as,sig,ds,its,vals,hx,hl,hc=>by
  simp only[Am.oF] at hx
  split at hx
  ·rename_i xs Cg r9 Ci e1 e2
   injection hx with hx
   injection hx with h1 h2
   subst h1 h2
   match vals,hl with
   |v::vals,hl=>
    have h0:=hc 0 (k,cs) v rfl rfl
    obtain⟨q1,q2,q3,q4,q5,q5',q6,q7⟩:=H.oF e2 (as:=as) (vals:=vals) (by simpa using hl) (fun j x v h1 h2=>hc (j+1) x v h1 h2)
    have bU:∃(vs:List Value) (b o:Nat),cL w G h cs vs/\(∀ps:List PC,ps.map PC.val=vs->(∀pc∈ps,Good w pc)->rH w (k,ps.map PC.er) v ⟨k,ps,b,o⟩)/\
      (k=.ptr->∃n cs,h n=some (.box cs)/\(G.g n).nl=false/\b=(G.g n).b):=by
     cases k with
     |one=>exact⟨[v],0,0,h0,fun ps hp hg=>⟨rfl,hg,hp⟩,by intro e;cases e⟩
     |agg=>
      obtain⟨vs,e,hR⟩:∃vs:List Value,v=.agg vs.toArray/\cL w G h cs vs:=h0
      exact⟨vs,0,0,hR,fun ps hp hg=>⟨rfl,hg,show v=.agg (ps.map PC.val).toArray by rw[hp];exact e⟩,by intro e;cases e⟩
     |ptr=>
      obtain⟨n,hn,aE,hv⟩:∃n,h n=some (.box cs)/\(G.g n).nl=false/\v=.pointer (some (ad (G.g n).b (G.g n).o)):=h0
      obtain⟨b1,b2,b3⟩:=H.box n cs hn
      have kk:∀j,j<cs.length->∃u,w.cell? (ad (G.g n).b ((G.g n).o+j))=some u/\∀c,cs[j]? =some c->u.oneCell'=true/\RC w G h c u:=by
       intro j hj
       have dL:cs[j]? =some (cs[j]'hj):=List.getElem?_eq_getElem hj
       obtain⟨u,u1,u2,u3⟩:=b3 j _ dL
       refine⟨u,u1,fun c eE=>?_⟩
       rw[dL] at eE
       injection eE with eE
       subst eE
       exact⟨u2,u3⟩
      obtain⟨vs,l1,l2⟩:=Jt _ cs.length kk
      refine⟨vs,(G.g n).b,(G.g n).o,⟨l1,fun j c u eE hu=>(l2 j u hu).2 c eE⟩,fun ps hp hg=>⟨rfl,hg,hv,b2.lt,fun j c hj=>?_⟩,fun _=>⟨n,cs,hn,aE,rfl⟩⟩
      refine(l2 j c.val ?_).1
      rw[<-hp,List.getElem?_map,hj]
      rfl
    obtain⟨vs,b,o,hR,hA,hB⟩:=bU
    obtain⟨ps,p1,p2,p3,p4,p5,p6⟩:=H.gS e1 hR
    have eH:ps.length=cs.length:=by
     have:(ps.map PC.val).length=cs.length:=by rw[p2];exact hR.1
     simpa using this
    refine⟨⟨k,ps,b,o⟩::q1,by simp[q2],by simp[q3],fun i d v' p hd hv hp=>?_,fun p hp hk=>?_,fun i p hp=>?_,?_,?_,?_⟩
    ·cases i with
     |zero=>
      simp at hd hv hp
      subst hd hv hp
      have:=hA ps p2 p3
      rw[p1] at this
      exact this
     |succ i=>exact q4 i d v' p (by simpa using hd) (by simpa using hv) (by simpa using hp)
    ·cases hp with
     |head=>exact hB hk
     |tail _ hp=>exact q5 p hp hk
    ·cases i with
     |zero=>simp at hp;subst hp;exact⟨(k,cs),rfl,rfl,eH⟩
     |succ i=>exact q5' i p (by simpa using hp)
    ·cases sig with
     |nil=>
      have e3:dC (aJ.hd ([]:aJ)) ps=[]:=rfl
      rw[e3] at p4
      have e4:Cg=[]:=List.eq_nil_of_length_eq_zero p4.len
      subst e4
      have e5:dr (aJ.tl ([]:aJ)) (q1.map (·.ps))=[]:=rfl
      rw[e5] at q6
      have e6:Ci=[]:=List.eq_nil_of_length_eq_zero q6.len
      subst e6
      exact io.nil
     |cons s sig=>exact io.append p4 q6
    ·cases sig with
     |nil=>
      have e3:dC (aJ.hd ([]:aJ)) ps=[]:=rfl
      rw[e3] at p4
      have e4:Cg=[]:=List.eq_nil_of_length_eq_zero p4.len
      subst e4
      have e5:dr (aJ.tl ([]:aJ)) (q1.map (·.ps))=[]:=rfl
      rw[e5] at q6
      have e6:Ci=[]:=List.eq_nil_of_length_eq_zero q6.len
      subst e6
      rfl
     |cons s sig=>
      rw[List.filterMap_append,p5,q7.1]
      rfl
    ·intro pc bc
     cases sig with
     |nil=>
      simp only[List.map_cons,jq,List.flatten_cons,List.mem_append] at bc
      rcases bc with bc|bc
      ·exact p6 pc bc
      ·exact q7.2 pc (by simpa[jq,aJ.tl] using bc)
     |cons s sig=>
      simp only[List.map_cons,jq,List.mem_append] at bc
      rcases bc with bc|bc
      ·exact p6 pc bc
      ·exact q7.2 pc bc
  ·cases hx
theorem abB (r:R B E w0 N σ a w G) {T:aA} (hT:xU P T) {m:Mode} {f:FuncId} {as:List ai} {vals:List Value} {σ1:St} (hN:∀n,o.dst=some n->n<N)
  (bH:(execOp a.eval o).run P w=.ok (.enter f vals.toArray) w) (hl:vals.length=as.length)
  (kI:∀(j:Nat) (x:ai) (v:Value),as[j]? =some x->vals[j]? =some v->RA w G σ.h x v)
  (hx:r7 T m o.dst f as σ=some σ1):o.wp P a w (Nx B E w0 N σ1) Q:=by
 have H:=r.hr
 unfold r7 at hx
 split at hx
 ·rename_i sig M hM
  split at hx
  ·rename_i bT BB
   split at hx
   ·rename_i dN
    split at hx
    ·rename_i ds its hv
     split at hx
     ·rename_i rs cP lr
      split at hx
      ·rename_i σ2 kM
       split at hx
       ·rename_i ls fm n8
        injection hx with hx
        subst hx
        obtain⟨sC,Bu,eK⟩:=Xq BB hl kI
        obtain⟨aD,q1,q2,q3,q4,q4',q5,q6,q7⟩:=H.oF hv sC Bu
        refine SH r (fun ND hm=>hT f sig M hM ds rs cP lr w vals ND hm) hN bH q1 q2 q3 q4 (fun i p s hp hs hk=>?_) q5 q6 q7 dN kM n8
        obtain⟨x,hx,e1,e2⟩:=q4' i p hp
        rw[e2]
        exact eK i x s hx hs (e1.symm.trans hk)
       ·cases hx
      ·cases hx
     ·cases hx
    ·cases hx
   ·cases hx
  ·cases hx
 ·cases hx
theorem abr (r:R B E w0 N σ a w G) {T:aA} (hT:xU P T) {m:Mode} {f:FuncId} {x:Operand} {mx:MO} {bM:List ae} {xs:Array Operand} {ms:List MO} {ts:Array TypeId} {σ1:St} (hN:∀n,o.dst=some n->n<N)
  (ho:o.op=.call {callee:=.value x,args:=xs,argTypes:=ts}) (hf:ca P f=true) (BO:bi x mx=true) (hm:ff xs.toList ms=true) (he:σ.ev mx=.one (.fn f bM))
  (hx:r7 T m o.dst f (ms.map σ.ev++bM.map .one) σ=some σ1):o.wp P a w (Nx B E w0 N σ1) Q:=by
 obtain⟨e1,e2⟩:=r.sb hm
 obtain⟨x1,x2⟩:=r.ev BO
 rw[he] at x1
 obtain⟨vs,v1,v2,v3⟩:=(x1.eB (by simp)).1
 refine abB r hT (vals:=xs.toList.map a.eval++vs) hN ?_ (by simp[e1,v2]) (fun j y v hj hv=>?_) hx
 ·have pE:(xs.toList.map a.eval++vs).toArray=xs.map a.eval++vs.toArray:=by apply Array.ext';simp
  rw[pE]
  simp[execOp,ho,resolve,v1,Deferred.ofValue,invoke,s7 hf]
 ·have ym:xs.size=ms.length:=by simpa using e1
  by_cases bB:j<ms.length
  ·rw[List.getElem?_append_left (by simpa using bB)] at hj
   rw[List.getElem?_append_left (by simp;omega)] at hv
   exact e2 j y v hj hv
  ·rw[List.getElem?_append_right (by simp;omega)] at hj
   rw[List.getElem?_append_right (by simp;omega)] at hv
   simp only[List.length_map,<-e1] at hj hv
   rw[List.getElem?_map] at hj
   simp only[e1] at hj hv
   cases hc:bM[j - ms.length]? with
   |none=>rw[hc] at hj;cases hj
   |some c=>
    rw[hc] at hj
    simp at hj
    subst hj
    obtain⟨q1,q2⟩:=v3 _ c v hc hv
    refine RA.fi q1 ?_
    by_cases qN:c.iO=false
    ·rw[rR _ _ _ _ _ qN];exact q2
    ·cases c<;>first|exact q2.elim|(simp[ae.iO] at qN)
end
end Go.Am
