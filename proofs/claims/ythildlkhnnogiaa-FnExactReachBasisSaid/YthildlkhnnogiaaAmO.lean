/- AmO: calls that change lists of their arguments. No condition. -/
import Derived.Test.YthildlkhnnogiaaAmN
set_option linter.unusedVariables false
namespace Go.Am
section
variable {B:Nat} {E:Ex} {w0 w w':World} {G G':Gh} {N:Nat} {h h':Nat->Option aj} {used:Nat->Bool}
variable {P:Program} {o:Oper} {a:Act} {σ σ':St} {Q:Exit->Act->World->Prop}
def xO (p:PB):cq->PC->PB
 |.row _,.list _ _ _ px=>{p with px:=px}
 |.nest _ k off,q=>{p with px:=p.px.set k ((p.px.getD k []).set off q)}
 |_,_=>p
open Classical in
noncomputable def tm (G:Gh) (its:List (cq×Mode)) (qs:List PC):Gh:=
 ⟨G.Im,fun n=>if h:∃p:(cq×Mode)×PC,∃i:Nat,its[i]? =some p.1/\qs[i]? =some p.2/\p.1.1.dq=some n then xO (G.g n) h.choose.1.1 h.choose.2 else G.g n⟩
theorem Xi {its:List (cq×Mode)} {qs:List PC} (d7:(its.filterMap (·.1.dq)).Nodup) {i n:Nat} {it:cq×Mode} {q:PC} (hi:its[i]? =some it) (hq:qs[i]? =some q) (hn:it.1.dq=some n):
  (tm G its qs).g n=xO (G.g n) it.1 q:=by
 have qF:∃p:(cq×Mode)×PC,∃i:Nat,its[i]? =some p.1/\qs[i]? =some p.2/\p.1.1.dq=some n:=⟨(it,q),i,hi,hq,hn⟩
 unfold tm
 simp only
 rw[dif_pos qF]
 obtain⟨j,h1,h2,h3⟩:=qF.choose_spec
 have gL:=JT d7 h1 hi h3 hn
 subst gL
 rw[hi] at h1
 rw[hq] at h2
 injection h1 with h1
 injection h2 with h2
 rw[<-h1,<-h2]
theorem Xj {its:List (cq×Mode)} {qs:List PC} {n:Nat} (hn:n∉its.filterMap (·.1.dq)):(tm G its qs).g n=G.g n:=by
 unfold tm
 simp only
 rw[dif_neg]
 rintro⟨p,i,h1,h2,h3⟩
 exact hn (List.mem_filterMap.2 ⟨p.1,List.mem_of_getElem? h1,h3⟩)
theorem PC.PM {pc q:PC} (hv:q.val=pc.val) (hL:pc.f6=true):∃sz a cap xs,q=.list sz a cap xs:=by
 cases pc with
 |int k n=>cases hL
 |bool b=>cases hL
 |list sz a cap xs=>
  cases q with
  |int k n=>cases hv
  |bool b=>cases hv
  |list sz a cap xs=>exact⟨_,_,_,_,rfl⟩
theorem WZ {px:List (List PC)} (hs:dd (px.map fun e=>e.map PC.er)=true) {k j:Nat} {c:PC} (hk:At px k j c):c.f6=false:=by
 obtain⟨e,he,hj⟩:=hk
 have h6:=List.all_eq_true.1 hs (e.map PC.er) (by simp only[List.mem_map];exact⟨e,List.mem_of_getElem? he,rfl⟩)
 have h7:=List.all_eq_true.1 h6 c.er (by simp only[List.mem_map];exact⟨c,List.mem_of_getElem? hj,rfl⟩)
 cases hL:c.f6 with
 |false=>rfl
 |true=>rw[PC.YG hL] at h7;cases h7
theorem WY {px:List (List PC)} (hs:dd (px.map fun e=>e.map PC.er)=true) (b:Nat):¬aP b px:=by
 rintro⟨k,j,c,⟨e,he,hj⟩,hc⟩
 have h6:=List.all_eq_true.1 hs (e.map PC.er) (by simp only[List.mem_map];exact⟨e,List.mem_of_getElem? he,rfl⟩)
 have h7:=List.all_eq_true.1 h6 c.er (by simp only[List.mem_map];exact⟨c,List.mem_of_getElem? hj,rfl⟩)
 exact(Sep.fT h7).2 b hc
theorem VC (H:HR B E w G h used []) {n:Nat} {gr:Bool} {m md:Mode} {sz:Nat} {xs:List (List C)} (hn:h n=some (.row gr m sz xs)) (hm:m≠ .aG) (tt:md=.live->m=.live) (gV:th md xs=true) (vd:m=.live->gr=false)
  {q:PC} (A:sR w' md (nI sz (G.g n)) q) {k:Nat} {ak:List (List C)} (hq:q.er=.list k ak):Ds w' (G.g n) (xO (G.g n) (.row n) q) gr m sz ak:=by
 have hr:=H.row n gr m sz xs hn
 have bi:h n≠none:=by rw[hn];simp
 obtain⟨ax,a',nY,px',rfl⟩:=PC.PM A.val rfl
 obtain⟨rfl,ha,rfl,hlen,hl⟩:=A.live _ _ _ _ _ _ _ _ rfl rfl
 rw[PC.cN] at hq
 injection hq with _ hq
 have iG:=A.sep
 have dQ:(∀k j c,At px' k j c->Sep c)/\(∀b o k j c,a'=some (ad b o)->At px' k j c->¬aK b c)/\gF px':=by
  cases iG with
  |list _ _ _ _ h1 h2 h3=>exact⟨h1,h2,h1,h3⟩
 have pw:∀b,aP b px'->(G.g n).nl=false->b≠(G.g n).b:=by
  rintro b ⟨k,j,c,hk,hc⟩ aD rfl
  refine dQ.2.1 (G.g n).b (G.g n).o k j c ?_ hk hc
  rw[ha,if_neg (by simp[aD])]
 have gy:md=.af->dd xs=true:=by rintro rfl;exact gV
 refine⟨hm,?_,rfl,rfl,rfl,rfl,rfl,hq.symm,fun aD=>?_,fun aD=>?_,dQ.2.2,fun b hb=>?_,fun cv k j pc hk hL=>?_,fun hg hl=>by rw[vd hl] at hg;cases hg⟩
 ·cases md with
  |aG=>cases gV
  |live=>exact .inr (tt rfl)
  |af=>exact .inl (WY (by rw[<-hr.er];exact gy rfl))
 ·have:=(hr.nl aD).1
  rw[this] at hlen
  exact List.eq_nil_of_length_eq_zero hlen
 ·refine⟨?_,?_⟩
  ·have hg:=A.dk
   rw[ha,if_neg (by simp[aD])] at hg
   by_cases h0:px'=[]
   ·show lR w' _ _ _ px'
    rw[h0]
    exact⟨by simp,by rintro k j c ⟨e,he,_⟩;simp at he,by rintro k j c ⟨e,he,_⟩;simp at he⟩
   ·generalize iF:PC.list ax (some (ad (G.g n).b (G.g n).o)) (G.g n).cap px'=q2 at hg
    cases hg with
    |int k n=>cases iF
    |bool b=>cases iF
    |nil _ _ _ _=>injection iF with _ _ _ e4;exact absurd e4 h0
    |cons _ _ _ _ _ h1 h2 h3 h4 h5 h6=>
     injection iF with e1 e2 e3 e4
     injection e2 with e2
     obtain⟨e5,e6⟩:=jF e2
     subst e1 e3 e4
     rw[e5,e6]
     exact⟨h4,h5,h6⟩
  ·show px'.length<=_
   rw[hlen]
   exact(hr.cZ aD).2.2
 ·have dw:aK b (nI ax (G.g n)):=A.sub b (by
   obtain⟨k,j,c,hk,hc⟩:=hb
   exact .there _ _ _ _ k j c hk hc)
  rcases Rz (fun hq=>(hr.nl hq).1) dw with⟨aD,he⟩|hF
  ·exact absurd he (pw b hb aD)
  ·exact hF
 ·cases md with
  |aG=>cases gV
  |live=>exact hl rfl k j pc hk hL
  |af=>
   have:=WZ (px:=(G.g n).px) (by rw[<-hr.er];exact gy rfl) hk
   rw[hL] at this;cases this
theorem mZ {α:Type} {px:List (List α)} {k off k' j':Nat} {e:List α} {q c:α} (he:px[k]? =some e) (h:At (px.set k (e.set off q)) k' j' c):(k'=k/\j'=off/\c=q)\/(At px k' j' c/\(k',j')≠(k,off)):=by
 have hk:=(List.getElem?_eq_some_iff.1 he).1
 rcases HY hk h with⟨rfl,h1⟩|⟨av,h1⟩
 ·by_cases hj:j'=off
  ·subst hj
   have hl:j'<e.length:=by have:=(List.getElem?_eq_some_iff.1 h1).1;simpa using this
   rw[List.getElem?_set_self hl] at h1
   injection h1 with h1
   exact .inl ⟨rfl,rfl,h1.symm⟩
  ·rw[List.getElem?_set_ne (Ne.symm hj)] at h1
   exact .inr ⟨⟨e,he,h1⟩,fun e=>hj (congrArg Prod.snd e)⟩
 ·exact .inr ⟨h1,fun e=>av (congrArg Prod.fst e)⟩
theorem acd {α:Type} {px:List (List α)} {k off k' j':Nat} {e:List α} {q c:α} (he:px[k]? =some e) (h:At px k' j' c) (av:(k',j')≠(k,off)):At (px.set k (e.set off q)) k' j' c:=by
 obtain⟨e',h1,h2⟩:=h
 by_cases hk:k'=k
 ·subst hk
  rw[he] at h1
  injection h1 with h1
  subst h1
  have hj:j'≠off:=fun e=>av (by rw[e])
  exact⟨_,List.getElem?_set_self (List.getElem?_eq_some_iff.1 he).1,by rw[List.getElem?_set_ne (Ne.symm hj)];exact h2⟩
 ·exact⟨e',by rw[List.getElem?_set_ne (Ne.symm hk)];exact h1,h2⟩
theorem VB (H:HR B E w G h used []) {n k off:Nat} {gr:Bool} {sz:Nat} {xs:List (List C)} (hn:h n=some (.row gr .live sz xs)) (vd:gr=false) {pc:PC} (bO:At (G.g n).px k off pc) (hL:pc.f6=true)
  (pw:(G.g n).nl=false->w'.heap[(G.g n).b]? =w.heap[(G.g n).b]?) (xg:∀k' j' c,At (G.g n).px k' j' c->(k',j')≠(k,off)->∀b,aK b c->w'.heap[b]? =w.heap[b]?)
  {q:PC} (A:sR w' .af pc q) {ex:List C} (qF:xs[k]? =some ex):Ds w' (G.g n) (xO (G.g n) (.nest n k off) q) gr .live sz (xs.set k (ex.set off q.er)):=by
 have hr:=H.row n gr .live sz xs hn
 obtain⟨e0,jG,Oo⟩:=bO
 have gK:(G.g n).px.getD k []=e0:=by simp[List.getD_eq_getElem?_getD,jG]
 have dC:(xO (G.g n) (.nest n k off) q).px=(G.g n).px.set k (e0.set off q):=by simp only[xO,gK]
 have afE:ex=e0.map PC.er:=by
  rw[hr.er,List.getElem?_map,jG] at qF
  simpa using qF.symm
 have bO:At (G.g n).px k off pc:=⟨e0,jG,Oo⟩
 have hqL:q.f6=true:=by
  obtain⟨sz,a,cap,xs,rfl⟩:=PC.PM A.val hL
  rfl
 have aD:(G.g n).nl=false:=by
  cases hq:(G.g n).nl with
  |false=>rfl
  |true=>rw[(hr.nl hq).1] at jG;simp at jG
 obtain⟨l1,l2,l3⟩:=hr.cZ aD
 refine⟨by simp,.inr rfl,rfl,rfl,rfl,rfl,rfl,?_,fun h=>?_,fun _=>?_,?_,fun b hb=>?_,fun _ k' j' c bx hc=>?_,fun hg _=>by rw[vd] at hg;cases hg⟩
 ·rw[dC,hr.er,afE,List.map_set,List.map_set]
 ·rw[aD] at h;cases h
 ·rw[dC]
  refine⟨⟨fun e he=>?_,fun k' j' c bx=>?_,fun k' j' c bx=>?_⟩,by rw[List.length_set];exact l3⟩
  ·rcases List.mem_or_eq_of_mem_set he with he|rfl
   ·exact l2.1 e he
   ·rw[List.length_set];exact l2.1 e0 (List.mem_of_getElem? jG)
  ·rw[fO (pw aD)]
   rcases mZ jG bx with⟨rfl,rfl,rfl⟩|⟨h1,_⟩
   ·rw[A.val];exact l2.2.1 _ _ _ bO
   ·exact l2.2.1 _ _ _ h1
  ·rcases mZ jG bx with⟨rfl,rfl,rfl⟩|⟨h1,h2⟩
   ·exact A.dk
   ·exact(l2.2.2 _ _ _ h1).congr fun b hb o=>fO (xg k' j' c h1 h2 b hb) o
 ·rw[dC]
  refine⟨fun k' j' c bx=>?_,fun k1 j1 c1 k2 j2 c2 b h1 h2 av hb aE=>?_⟩
  ·rcases mZ jG bx with⟨rfl,rfl,rfl⟩|⟨h1,h2⟩
   ·exact A.sep
   ·exact hr.mode.2.1 _ _ _ h1
  ·rcases mZ jG h1 with⟨rfl,rfl,rfl⟩|⟨g1,n1⟩
   ·rcases mZ jG h2 with⟨rfl,rfl,rfl⟩|⟨g2,n2⟩
    ·exact av rfl
    ·exact hr.mode.2.2 _ _ _ _ _ _ b bO g2 av (A.sub b hb) aE
   ·rcases mZ jG h2 with⟨rfl,rfl,rfl⟩|⟨g2,n2⟩
    ·exact hr.mode.2.2 _ _ _ _ _ _ b g1 bO av hb (A.sub b aE)
    ·exact hr.mode.2.2 _ _ _ _ _ _ b g1 g2 av hb aE
 ·rw[dC] at hb
  obtain⟨k',j',c,bx,hc⟩:=hb
  rcases mZ jG bx with⟨rfl,rfl,rfl⟩|⟨h1,h2⟩
  ·exact⟨_,_,_,bO,A.sub b hc⟩
  ·exact⟨_,_,_,h1,hc⟩
 ·rw[dC]
  by_cases he:(k',j')=(k,off)
  ·have h1:k'=k:=congrArg Prod.fst he
   have h2:j'=off:=congrArg Prod.snd he
   subst h1 h2
   obtain⟨e1,g1,g2⟩:=bx
   rw[jG] at g1
   injection g1 with g1
   subst g1
   rw[Oo] at g2
   injection g2 with g2
   subst g2
   have hl:j'<e0.length:=(List.getElem?_eq_some_iff.1 Oo).1
   exact⟨q,⟨_,List.getElem?_set_self (List.getElem?_eq_some_iff.1 jG).1,List.getElem?_set_self hl⟩,A.val,hqL⟩
  ·exact⟨c,acd jG bx he,rfl,hc⟩
theorem PV:∀{as:List ah} {bY:List (Bool×List ab)} {vals:List Value},pM as=some bY->vals.length=as.length->(∀(j:Nat) (x:ah) (v:Value),as[j]? =some x->vals[j]? =some v->RA w G h x v)->
  vals.length=bY.length/\∀(j:Nat) (x:Bool×List ab) (v:Value),bY[j]? =some x->vals[j]? =some v->RV w G h x.1 x.2 v
 |[],bY,vals,hx,hl,hc=>by
  simp only[pM] at hx
  injection hx with hx
  subst hx
  exact⟨hl,by simp⟩
 |y::as,bY,vals,hx,hl,hc=>by
  simp only[pM] at hx
  split at hx
  ·rename_i x xs e1 e2
   injection hx with hx
   subst hx
   match vals,hl with
   |v::vals,hl=>
    obtain⟨i1,i2⟩:=PV e2 (vals:=vals) (by simpa using hl) (fun j x v h1 h2=>hc (j+1) x v h1 h2)
    refine⟨by simp[i1],fun j x' v' hj hv=>?_⟩
    cases j with
    |zero=>
     simp at hj hv
     subst hj hv
     have h0:=hc 0 y v rfl rfl
     cases y with
     |one c=>
      cases c<;>simp[ah.cells?] at e1<;>subst e1<;>exact h0.resolve_left (by simp)
     |agg cs=>
      simp[ah.cells?] at e1
      subst e1
      exact h0
     |bk l=>simp[ah.cells?] at e1
    |succ j=>exact i2 j x' v' (by simpa using hj) (by simpa using hv)
  ·cases hx
theorem sQ.f6 {it:cq} {md:Mode} {pc:PC} (i:sQ B E w G h it md pc):pc.f6=true:=by
 obtain⟨sz,a,cap,xs,rfl,_⟩:=i.ok.cZ
 rfl
def AZ (P:Program) (T:aF):Prop:=∀f sig M,aF.me T.tZ f=some (sig,M)->nQ P f sig M
def LQ (w:World) (sig:aN) (pas:List PA) (rs:List Dv) (cM:List C) (e:Ending) (w':World):Prop:=
  ∃aU:List (K×List PC),aU.map (fun p=>(p.1,p.2.map PC.er))=rs/\e=.returned (v5 aU)/\(∀p∈aU,p.1≠ .ptr/\(p.1=.one->p.2.length=1))/\
   yM w' w.heap.size (aU.flatMap (·.2))/\Fr w.heap.size (BA (dE sig (pas.map (·.ps)))) w w'/\
   ∃qs:List PC,qs.map PC.er=cM/\qs.length=(dE sig (pas.map (·.ps))).length/\
    ∀(i:Nat) (x:Mode×PC) (q:PC),(dE sig (pas.map (·.ps)))[i]? =some x->qs[i]? =some q->sR w' x.1 x.2 q
theorem Wr (r:R B E w0 N σ a w G) {m:Mode} {f:FuncId} {vals vals':List Value} {sig:aN} {ns:List Nat} {ds:List Dv} {its:List (cq×Mode)} {pas:List PA} {rs:List Dv} {cM:List C} {σ2 fE:St} {ls:List (Bool×List ab)}
  (hS:∀pas,wG w sig ds vals pas->Calls P f vals'.toArray w (LQ w sig pas rs cM)) (hN:∀n,o.dst=some n->n<N) (aS:(execOp a.eval o).run P w=.ok (.enter f vals'.toArray) w)
  (q1:pas.length=ds.length) (q2:vals.length=ds.length) (q3:∀(i:Nat) (d:Dv) (v:Value) (p:PA),ds[i]? =some d->vals[i]? =some v->pas[i]? =some p->uk w d v p)
  (vn:∀p∈pas,p.k=.ptr->∃n cs,σ.h n=some (.box cs)/\(G.g n).nl=false/\p.b=(G.g n).b)
  (af2:∀(i:Nat) (p:PA) (s:List (Option Mode)),pas[i]? =some p->sig[i]? =some s->p.k=.ptr->xW s p.ps.length)
  (q5:jl B E w G σ.h its (dE sig (pas.map (·.ps)))) (q6:its.filterMap (·.1.dq)=ns) (q7:∀pc∈kj sig (pas.map (·.ps)),Dm G σ.h ns pc) (d7:ns.Nodup)
  (mr:σ.mL its cM=some σ2) (qG:σ2.iq m (iw o.dst) rs=some (ls,fE)):o.wp P a w (Nx B E w0 N (fE.put o.dst (jS ls))) Q:=by
 have H:=r.hr
 have tu:(its.filterMap (·.1.dq)).Nodup:=by rw[q6];exact d7
 generalize tn:dE sig (pas.map (·.ps))=fl at q5
 have Jt:∀(i:Nat) (x:Mode×PC),fl[i]? =some x->∃it,its[i]? =some it/\it.2=x.1/\sQ B E w G σ.h it.1 x.1 x.2:=by
  intro i x hi
  have bS:i<its.length:=by rw[q5.len];exact(List.getElem?_eq_some_iff.1 hi).1
  have he:its[i]? =some its[i]:=List.getElem?_eq_getElem bS
  exact⟨_,he,q5.at_ i _ x he hi⟩
 have W3:∀x∈fl,∃it∈its,sQ B E w G σ.h it.1 x.1 x.2:=by
  intro x hx
  obtain⟨i,hi⟩:=List.getElem?_of_mem hx
  obtain⟨it,h1,_,h2⟩:=Jt i x hi
  exact⟨it,List.mem_of_getElem? h1,h2⟩
 have jJ:∀x∈fl,∀b,aK b x.2->∃n gr m sz xs,n∈ns/\σ.h n=some (.row gr m sz xs)/\m≠ .aG/\rP G n b/\((∀b,¬aP b (G.g n).px)\/m=.live):=by
  intro x hx b hb
  obtain⟨it,h1,h2⟩:=W3 x hx
  obtain⟨n,gr,m,sz,xs,e1,e2,e3,e4,e5⟩:=h2.nb H hb
  exact⟨n,gr,m,sz,xs,by rw[<-q6];exact List.mem_filterMap.2 ⟨it,h1,e1⟩,e2,e3,e4,e5⟩
 have qF:∀b,BA fl b->(B<=b\/E b):=by
  rintro b ⟨x,hx,hb⟩
  obtain⟨n,gr,m,sz,xs,_,e2,e3,e4,e5⟩:=jJ x hx b hb
  rcases e4 with⟨aD,rfl⟩|hF
  ·exact(H.own n (by rw[e2];simp) aD).2.1
  ·have eY:=(H.row n gr m sz xs e2).mode
   cases m with
   |aG=>exact absurd rfl e3
   |af=>exact(eY.1 b hF).2.2
   |live=>exact(eY.1 b hF).2.2
 have PX:wG w sig ds vals pas:=by
  refine⟨q2,q1,q3,fun x hx=>?_,?_,fun pc aT x hx b hb aE=>?_,fun p hp hk x hx hb=>?_,af2⟩
  ·rw[tn] at hx
   obtain⟨it,_,h2⟩:=W3 x hx
   exact h2.ok
  ·rw[tn,List.pairwise_iff_getElem]
   intro i j hi hj gL b hb aE
   obtain⟨it,h1,_,h2⟩:=Jt i _ (List.getElem?_eq_getElem hi)
   obtain⟨zR,ii,_,BF⟩:=Jt j _ (List.getElem?_eq_getElem hj)
   obtain⟨n,gr,m,sz,xs,e1,e2,e3,e4,e5⟩:=h2.nb H hb
   obtain⟨n',aW,m',ax,ak,Bt,lZ,MK,uN,yY⟩:=BF.nb H aE
   have av:n≠n':=by
    rintro rfl
    have:=JT tu h1 ii e1 Bt
    omega
   exact H.Ed av e2 lZ yY e4 uN
  ·rw[tn] at hx
   obtain⟨n',aW,m',ax,ak,Bt,lZ,MK,uN,yY⟩:=jJ x hx b aE
   rcases q7 pc aT b hb with hi|⟨n,gr,m,sz,xs,hn,e2,e4⟩
   ·rcases uN with⟨aD,rfl⟩|hF
    ·exact(H.own n' (by rw[lZ];simp) aD).1 hi
    ·rcases yY with yY|rfl
     ·exact yY b hF
     ·exact((H.row n' aW .live ax ak lZ).mode.1 b hF).1 hi
   ·have av:n≠n':=fun e=>hn (e▸Bt)
    exact H.Ed av e2 lZ yY e4 uN
  ·rw[tn] at hx
   obtain⟨n',aW,m',ax,ak,Bt,lZ,MK,uN,yY⟩:=jJ x hx p.b hb
   obtain⟨n,cs,hn,hl,nk⟩:=vn p hp hk
   rw[nk] at uN
   have bi:σ.h n≠none:=by rw[hn];simp
   rcases uN with⟨aD,he⟩|hF
   ·refine H.inj n n' bi (by rw[lZ];simp) ?_ hl aD he
    rintro rfl
    rw[hn] at lZ
    cases lZ
   ·have eY:=(H.row n' aW m' ax ak lZ).mode
    cases m' with
    |aG=>exact absurd rfl MK
    |af=>exact(H.own n bi hl).1 (eY.1 _ hF).1
    |live=>exact H.live n' aW ax ak lZ _ hF n bi hl rfl
 unfold Oper.wp
 rw[aS]
 refine(hS pas PX).mono fun e w' ⟨aU,p1,p2,p3,p4,p5,qs,p6,p7,p8⟩=>?_
 subst p2
 rw[tn] at p5 p7 p8
 obtain⟨t1,t2,t3,t4⟩:=ZT mr tu
 have Xo:∀n,n∈ns->∃(i:Nat) (it:cq×Mode) (x:Mode×PC) (q:PC),its[i]? =some it/\fl[i]? =some x/\qs[i]? =some q/\cM[i]? =some q.er/\it.1.dq=some n/\sQ B E w G σ.h it.1 x.1 x.2/\sR w' x.1 x.2 q:=by
  intro n hn
  rw[<-q6,List.mem_filterMap] at hn
  obtain⟨it,xa,fA⟩:=hn
  obtain⟨i,hi⟩:=List.getElem?_of_mem xa
  have bS:i<fl.length:=by rw[<-q5.len];exact(List.getElem?_eq_some_iff.1 hi).1
  have hx:fl[i]? =some fl[i]:=List.getElem?_eq_getElem bS
  have hq:qs[i]? =some (qs[i]'(by rw[p7];exact bS)):=List.getElem?_eq_getElem _
  exact⟨i,it,_,_,hi,hx,hq,by rw[<-p6,List.getElem?_map,hq];rfl,fA,(q5.at_ i it _ hi hx).2,p8 i _ _ hx hq⟩
 have agl:∀b,b<w.heap.size->(∀n,n∈ns->¬rP G n b)->w'.heap[b]? =w.heap[b]? :=by
  intro b hb bG
  refine p5.block b hb ?_
  rintro⟨x,hx,Ek⟩
  obtain⟨n,gr,m,sz,xs,e1,e2,e3,e4,e5⟩:=jJ x hx b Ek
  exact bG n e1 e4
 have afZ:∀b,b<w.heap.size->(∀x∈fl,¬aK b x.2)->w'.heap[b]? =w.heap[b]? :=fun b hb bG=>p5.block b hb (by rintro⟨x,hx,Ek⟩;exact bG x hx Ek)
 obtain⟨rB,K,dJ⟩:=H.Fq (G':=tm G its qs) (h':=σ2.h) (w':=w') (S:=fun n=>n∈ns) p5.size agl (fun b hb=>p5.iT b hb) rfl (fun n hn=>by
  obtain⟨i,it,x,q,hi,Ye,mz,gx,fA,eG,Eg⟩:=Xo n hn
  have bO:=eG.at_
  have XR:=t4 i it q.er hi gx
  rw[Xi tu hi mz fA]
  obtain⟨Pr,md⟩:=it
  cases Pr with
  |nil sz=>cases fA
  |row n'=>
   injection fA with fA
   have fA:n'=n:=fA
   subst fA
   obtain⟨gr,mo,sz,xs,e1,e2,e3,e4,e5⟩:=bO
   obtain⟨aW,iv,kJ,hZ,ak,g1,g2,g3⟩:=XR
   rw[e1] at g1
   injection g1 with g1
   injection g1 with a1 a2 a3 a4
   subst a1 a2 a3 a4
   rw[e4] at Eg
   exact⟨gr,mo,sz,xs,ak,e1,g3,VC H e1 e2 e3 e5.1 e5.2 Eg g2⟩
  |nest n' k off=>
   injection fA with fA
   have fA:n'=n:=fA
   subst fA
   obtain⟨gr,sz,xs,e1,e2,e3,vd⟩:=bO
   obtain⟨aW,iv,kJ,hZ,ex,g1,g2,g3⟩:=XR
   rw[e1] at g1
   injection g1 with g1
   injection g1 with a1 a2 a3 a4
   subst a1 a2 a3 a4
   rw[e2] at Eg
   have hr:=H.row n' gr .live sz xs e1
   have bi:σ.h n'≠none:=by rw[e1];simp
   have Je:∀b,rP G n' b->¬aK b x.2->w'.heap[b]? =w.heap[b]? :=by
    intro b hb zy
    have bS:b<w.heap.size:=by
     rcases hb with⟨aD,rfl⟩|hF
     ·exact(H.own n' bi aD).2.2
     ·exact H.mO e1 hF
    refine afZ b bS fun y hy mg=>?_
    obtain⟨j,hj⟩:=List.getElem?_of_mem hy
    by_cases gL:j=i
    ·subst gL
     rw[Ye] at hj
     injection hj with hj
     subst hj
     exact zy mg
    ·obtain⟨zR,ii,_,BF⟩:=Jt j y hj
     obtain⟨n2,BE,m2,gm,eT,f1,f2,f3,f4,f5⟩:=BF.nb H mg
     have av:n'≠n2:=by
      rintro rfl
      exact gL (JT tu ii hi f1 rfl)
     exact H.Ed av e1 f2 f5 hb f4
   refine⟨gr,.live,sz,xs,_,e1,g3,VB H e1 vd e3 eG.f6 (fun aD=>Je _ (.inl ⟨aD,rfl⟩) fun hb=>?_) (fun k' j' c hk av b hb=>Je b (.inr ⟨k',j',c,hk,hb⟩) fun Ek=>?_) Eg g2⟩
   ·exact H.live n' gr sz xs e1 _ ⟨k,off,x.2,e3,hb⟩ n' bi aD rfl
   ·exact hr.mode.2.2 _ _ _ _ _ _ b hk e3 av hb Ek) (fun n hn=>⟨t3 n (by rw[q6];exact hn),Xj (by rw[q6];exact hn)⟩)
 have HR2:HR B E w' (tm G its qs) σ2.h σ2.used []:=by rw[t2];exact rB
 have dw:uq B w' (tm G its qs) σ2.h (aU.flatMap (·.2)):=by
  refine⟨p4.dk,fun pc aT b hb=>?_,?_⟩
  ·obtain⟨n1,n2⟩:=p4.new pc aT b hb
   refine⟨⟨fun hi=>?_,fun q hq iF he=>?_,fun q gr mo sz xs hq bL=>?_⟩,n2,Nat.le_trans r.fr.size n1⟩
   ·have:=H.e7 b hi;omega
   ·obtain⟨k0,k1,k2,_⟩:=K.name q (rB.gT q hq) hq
    have:=(H.own q k0 (k1.symm.trans iF)).2.2
    rw[<-k2] at this
    omega
   ·have aE:=dJ q b bL
    have xl:=rB.gT q (by rw[hq];simp)
    obtain⟨k0,_⟩:=K.name q xl (by rw[hq];simp)
    cases hh:σ.h q with
    |none=>exact absurd hh k0
    |some blk=>
     cases blk with
     |box cs=>
      have:q∉ns:=by
       intro hm
       obtain⟨i,it,x,q',hi,Ye,mz,gx,fA,eG,Eg⟩:=Xo q hm
       have bO:=eG.at_
       obtain⟨Pr,md⟩:=it
       cases Pr with
       |nil sz=>cases fA
       |row n'=>
        injection fA with fA
        have fA:n'=q:=fA
        subst fA
        obtain⟨gr,mo,sz,xs,e1,_⟩:=bO
        rw[hh] at e1;cases e1
       |nest n' k off=>
        injection fA with fA
        have fA:n'=q:=fA
        subst fA
        obtain⟨gr,sz,xs,e1,_⟩:=bO
        rw[hh] at e1;cases e1
      have h3:=t3 q (by rw[q6];exact this)
      rw[h3,hh] at hq
      cases hq
     |row aW m' ax ak=>have:=H.mO hh aE;omega
  ·rw[List.pairwise_iff_getElem]
   intro i j hi hj gL b hb
   exact p4.m8 i j _ _ b (by omega) (List.getElem?_eq_getElem hi) (List.getElem?_eq_getElem hj) hb
 rw[<-p1] at qG
 obtain⟨G',b1,b2,b3,b4,b5,b6,b7⟩:=HR.iq HR2 qG p3 dw
 have vc:Fr B E w0 w':=by
  refine⟨p5.os.trans r.fr.os,p5.tape.trans r.fr.tape,p5.output.trans r.fr.output,Nat.le_trans r.fr.size p5.size,fun b hb he=>?_,fun b hb=>?_⟩
  ·refine(p5.block b (Nat.lt_of_lt_of_le hb r.fr.size) fun hx=>?_).trans (r.fr.block b hb he)
   rcases qF b hx with h1|h1
   ·omega
   ·exact he h1
  ·exact(r.fr.iT b hb).trans (p5.iT b (Nat.lt_of_lt_of_le hb r.fr.size))
 have K2:aR w G σ.h (fun n=>σ.used n=true) w' G' fE.h:=aR.trans (fun n hn=>by rw[t2];exact hn) K b2
 have r2:R B E w0 N fE a w' G':=r.step (b6.trans t1) (fun q hq=>b7 q (by rw[t2];exact hq)) K2 b1 vc
 refine⟨G',r2.put (RA.jS b3 p3 b4) ?_ hN⟩
 intro q hq
 match ls,hq with
 |[],hq=>obtain⟨x,hx,_⟩:=hq;simp at hx
 |[(true,cs)],hq=>obtain⟨c,hc,hq⟩:=hq;exact b5 (true,cs) (by simp) c hc q hq
 |[(false,[c])],hq=>exact b5 (false,[c]) (by simp) c (by simp) q hq
 |[(false,[])],hq=>exact absurd hq id
 |[(false,_::_::_)],hq=>exact absurd hq id
 |x::y::ls,hq=>obtain⟨x',eZ,c,hc,hq⟩:=hq;exact b5 x' eZ c hc q hq
theorem Wu (r:R B E w0 N σ a w G) {T:aF} {m:Mode} {f:FuncId} {as:List ah} {vals vals':List Value} {σ1:St}
  (hS:∀sig M,aF.me T.tZ f=some (sig,M)->∀ds rs cM,M ds=some (rs,cM)->∀pas,wG w sig ds vals pas->Calls P f vals'.toArray w (LQ w sig pas rs cM)) (hN:∀n,o.dst=some n->n<N)
  (aS:(execOp a.eval o).run P w=.ok (.enter f vals'.toArray) w) (hl:vals.length=as.length)
  (kx:∀(j:Nat) (x:ah) (v:Value),as[j]? =some x->vals[j]? =some v->RA w G σ.h x v)
  (hx:qu T m o.dst f as σ=some σ1):o.wp P a w (Nx B E w0 N σ1) Q:=by
 have H:=r.hr
 unfold qu at hx
 split at hx
 ·rename_i sig M bY hM El
  split at hx
  ·rename_i d7
   split at hx
   ·rename_i ds its hv
    split at hx
    ·rename_i rs cM kw
     split at hx
     ·rename_i σ2 mr
      split at hx
      ·rename_i ls fE qG
       injection hx with hx
       subst hx
       obtain⟨vh,Eh⟩:=PV El hl kx
       obtain⟨pas,q1,q2,q3,q4,q5,q6,q7⟩:=H.kH hv vh Eh
       exact Wr r (fun Rd hm=>hS sig M hM ds rs cM kw Rd hm) hN aS q1 q2 q3 (fun p hp hk=>absurd hk (q4 p hp)) (fun i p s hp _ hk=>absurd hk (q4 p (List.mem_of_getElem? hp))) q5 q6 q7 d7 mr qG
      ·cases hx
     ·cases hx
    ·cases hx
   ·cases hx
  ·cases hx
 ·cases hx
theorem adF (r:R B E w0 N σ a w G) {T:aF} (hT:AZ P T) {m:Mode} {f:FuncId} {as:List ah} {vals:List Value} {σ1:St} (hN:∀n,o.dst=some n->n<N)
  (aS:(execOp a.eval o).run P w=.ok (.enter f vals.toArray) w) (hl:vals.length=as.length)
  (kx:∀(j:Nat) (x:ah) (v:Value),as[j]? =some x->vals[j]? =some v->RA w G σ.h x v)
  (hx:qu T m o.dst f as σ=some σ1):o.wp P a w (Nx B E w0 N σ1) Q:=
 Wu r (fun sig M hM ds rs cM h pas hm=>hT f sig M hM ds rs cM h w vals pas hm) hN aS hl kx hx
theorem adu (r:R B E w0 N σ a w G) {T:aF} (hT:AZ P T) {m:Mode} {f:FuncId} {xs:Array Operand} {ms:List MO} {ts:Array TypeId} {σ1:St} (hN:∀n,o.dst=some n->n<N)
  (ho:o.op=.call {callee:=.value (.func f),args:=xs,argTypes:=ts}) (hf:bJ P f=true) (hm:fx xs.toList ms=true)
  (hx:qu T m o.dst f (ms.map σ.ev) σ=some σ1):o.wp P a w (Nx B E w0 N σ1) Q:=by
 obtain⟨e1,e2⟩:=r.uP hm
 refine adF r hT (vals:=xs.toList.map a.eval) hN ?_ (by simpa using e1) e2 hx
 have he:(xs.toList.map a.eval).toArray=xs.map a.eval:=by apply Array.ext';simp
 rw[he]
 simp[execOp,ho,resolve,Deferred.ofValue,invoke,Act.eval,ue hf]
theorem akQ {s:List (Option Mode)} {n:Nat} (h:Ri s n=true):xW s n:=by
 rcases of_decide_eq_true h with h|⟨h1,h2⟩
 ·exact .inl h
 ·exact .inr ⟨n - 1,by omega,h2⟩
def GS (w:World) (G:Gh) (h:Nat->Option aj) (k:K) (cs:List ab) (v:Value):Prop:=
 match k with
 |.one=>RV w G h false cs v
 |.agg=>RV w G h true cs v
 |.ptr=>∃n,h n=some (.box cs)/\(G.g n).nl=false/\v=.pointer (some (ad (G.g n).b (G.g n).o))
theorem aj6 {s:List (Option Mode)} {y:ah} {x:K×List ab} {v:Value} (hx:xR h s y=some x) (hc:RA w G h y v):GS w G h x.1 x.2 v/\(x.1=.ptr->xW s x.2.length):=by
 have gen:∀{y:ah},RA w G h y v->(∀n k z off,y≠ .one (.ptr n k z off))->(match y.cells? with|some (ag,cs)=>some (if ag=true then K.agg else .one,cs)|none=>none)=some x->GS w G h x.1 x.2 v/\(x.1=.ptr->xW s x.2.length):=by
  intro y hc av hx
  cases hy:y.cells? with
  |none=>rw[hy] at hx;cases hx
  |some z=>
   obtain⟨ag,cs⟩:=z
   rw[hy] at hx
   injection hx with hx
   subst hx
   cases y with
   |one c=>
    cases c<;>simp[ah.cells?] at hy<;>obtain⟨rfl,rfl⟩:=hy<;>exact⟨hc.resolve_left (by simp),by intro e;cases e⟩
   |agg cs'=>
    simp[ah.cells?] at hy
    obtain⟨rfl,rfl⟩:=hy
    exact⟨hc,by intro e;cases e⟩
   |bk l=>simp[ah.cells?] at hy
 by_cases hp:∃n k z off,y=.one (.ptr n k z off)
 ·obtain⟨n,k,z,off,rfl⟩:=hp
  simp only[xR] at hx
  split at hx
  ·rename_i cs hn
   split at hx
   ·rename_i bR
    obtain⟨rfl,rfl,hs⟩:=bR
    injection hx with hx
    subst hx
    have h1:RC w G h (.ptr n 0 z 0) v:=((hc.resolve_left (by simp)).2 0 _ v rfl rfl).2
    obtain⟨q1,q2⟩:=h1 (by rw[hn];simp)
    exact⟨⟨n,hn,q1,by simpa using q2⟩,fun _=>akQ hs⟩
   ·cases hx
  ·cases hx
 ·have av:∀n k z off,y≠ .one (.ptr n k z off):=fun n k z off e=>hp ⟨n,k,z,off,e⟩
  refine gen hc av ?_
  unfold xR at hx
  split at hx
  ·rename_i n k z off
   exact absurd rfl (av n k z off)
  ·exact hx
theorem ZD:∀{as:List ah} {sig:aN} {bY:List (K×List ab)} {vals:List Value},xS h sig as=some bY->vals.length=as.length->(∀(j:Nat) (x:ah) (v:Value),as[j]? =some x->vals[j]? =some v->RA w G h x v)->
  vals.length=bY.length/\(∀(j:Nat) (x:K×List ab) (v:Value),bY[j]? =some x->vals[j]? =some v->GS w G h x.1 x.2 v)/\∀(j:Nat) (x:K×List ab) (s:List (Option Mode)),bY[j]? =some x->sig[j]? =some s->x.1=.ptr->xW s x.2.length
 |[],sig,bY,vals,hx,hl,hc=>by
  simp only[xS] at hx
  injection hx with hx
  subst hx
  exact⟨hl,by simp,by simp⟩
 |y::as,sig,bY,vals,hx,hl,hc=>by
  simp only[xS] at hx
  split at hx
  ·rename_i x xs e1 e2
   injection hx with hx
   subst hx
   match vals,hl with
   |v::vals,hl=>
    obtain⟨i1,i2,i3⟩:=ZD e2 (vals:=vals) (by simpa using hl) (fun j x v h1 h2=>hc (j+1) x v h1 h2)
    obtain⟨p1,p2⟩:=aj6 e1 (hc 0 y v rfl rfl)
    refine⟨by simp[i1],fun j x' v' hj hv=>?_,fun j x' s hj hs=>?_⟩
    ·cases j with
     |zero=>simp at hj hv;subst hj hv;exact p1
     |succ j=>exact i2 j x' v' (by simpa using hj) (by simpa using hv)
    ·cases sig with
     |nil=>simp at hs
     |cons s0 sig=>
      cases j with
      |zero=>simp at hj hs;subst hj hs;exact p2
      |succ j=>exact i3 j x' s (by simpa using hj) (show sig[j]? =some s by simpa using hs)
  ·cases hx
theorem HR.rb (H:HR B E w G h used []) {ns:List Nat}:∀{as:List (K×List ab)} {sig:aN} {ds:List Dv} {its:List (cq×Mode)} {vals:List Value},Am.rb h (cB h ns) sig as=some (ds,its)->vals.length=as.length->
  (∀(j:Nat) (x:K×List ab) (v:Value),as[j]? =some x->vals[j]? =some v->GS w G h x.1 x.2 v)->
  ∃pas:List PA,pas.length=ds.length/\vals.length=ds.length/\(∀(i:Nat) (d:Dv) (v:Value) (p:PA),ds[i]? =some d->vals[i]? =some v->pas[i]? =some p->uk w d v p)/\
   (∀p∈pas,p.k=.ptr->∃n cs,h n=some (.box cs)/\(G.g n).nl=false/\p.b=(G.g n).b)/\
   (∀(i:Nat) (p:PA),pas[i]? =some p->∃x,as[i]? =some x/\p.k=x.1/\p.ps.length=x.2.length)/\
   jl B E w G h its (dE sig (pas.map (·.ps)))/\its.filterMap (·.1.dq)=xV sig as/\∀pc∈kj sig (pas.map (·.ps)),Dm G h ns pc
 |[],sig,ds,its,vals,hx,hl,hc=>by
  simp only[Am.rb] at hx
  injection hx with hx
  injection hx with h1 h2
  subst h1 h2
  refine⟨[],rfl,by simpa using hl,by simp,by simp,by simp,?_,?_,?_⟩
  ·cases sig<;>exact jl.nil
  ·cases sig<;>rfl
  ·cases sig<;>simp[kj]
 |(k,cs)::as,sig,ds,its,vals,hx,hl,hc=>by
  simp only[Am.rb] at hx
  split at hx
  ·rename_i xs Fa tf Fb e1 e2
   injection hx with hx
   injection hx with h1 h2
   subst h1 h2
   match vals,hl with
   |v::vals,hl=>
    have h0:=hc 0 (k,cs) v rfl rfl
    obtain⟨q1,q2,q3,q4,q5,q5',q6,q7⟩:=H.rb e2 (as:=as) (vals:=vals) (by simpa using hl) (fun j x v h1 h2=>hc (j+1) x v h1 h2)
    have bW:∃(vs:List Value) (b o:Nat),cb w G h cs vs/\(∀ps:List PC,ps.map PC.val=vs->(∀pc∈ps,Good w pc)->uk w (k,ps.map PC.er) v ⟨k,ps,b,o⟩)/\
      (k=.ptr->∃n cs,h n=some (.box cs)/\(G.g n).nl=false/\b=(G.g n).b):=by
     cases k with
     |one=>exact⟨[v],0,0,h0,fun ps hp hg=>⟨rfl,hg,hp⟩,by intro e;cases e⟩
     |agg=>
      obtain⟨vs,e,hR⟩:∃vs:List Value,v=.agg vs.toArray/\cb w G h cs vs:=h0
      exact⟨vs,0,0,hR,fun ps hp hg=>⟨rfl,hg,show v=.agg (ps.map PC.val).toArray by rw[hp];exact e⟩,by intro e;cases e⟩
     |ptr=>
      obtain⟨n,hn,aD,hv⟩:∃n,h n=some (.box cs)/\(G.g n).nl=false/\v=.pointer (some (ad (G.g n).b (G.g n).o)):=h0
      obtain⟨b1,b2,b3⟩:=H.box n cs hn
      have kk:∀j,j<cs.length->∃u,w.cell? (ad (G.g n).b ((G.g n).o+j))=some u/\∀c,cs[j]? =some c->u.oneCell'=true/\RC w G h c u:=by
       intro j hj
       have cA:cs[j]? =some (cs[j]'hj):=List.getElem?_eq_getElem hj
       obtain⟨u,u1,u2,u3⟩:=b3 j _ cA
       refine⟨u,u1,fun c eg=>?_⟩
       rw[cA] at eg
       injection eg with eg
       subst eg
       exact⟨u2,u3⟩
      obtain⟨vs,l1,l2⟩:=MZ _ cs.length kk
      refine⟨vs,(G.g n).b,(G.g n).o,⟨l1,fun j c u eg hu=>(l2 j u hu).2 c eg⟩,fun ps hp hg=>⟨rfl,hg,hv,b2.lt,fun j c hj=>?_⟩,fun _=>⟨n,cs,hn,aD,rfl⟩⟩
      refine(l2 j c.val ?_).1
      rw[<-hp,List.getElem?_map,hj]
      rfl
    obtain⟨vs,b,o,hR,hA,hB⟩:=bW
    obtain⟨ps,p1,p2,p3,p4,p5,p6⟩:=H.iM e1 hR
    have dz:ps.length=cs.length:=by
     have:(ps.map PC.val).length=cs.length:=by rw[p2];exact hR.1
     simpa using this
    refine⟨⟨k,ps,b,o⟩::q1,by simp[q2],by simp[q3],fun i d v' p hd hv hp=>?_,fun p hp hk=>?_,fun i p hp=>?_,?_,?_,?_⟩
    ·cases i with
     |zero=>
      simp at hd hv hp
      subst hd hv hp
      have:=hA ps p2 p3
      rw[p1] at this
      exact this
     |succ i=>exact q4 i d v' p (by simpa using hd) (by simpa using hv) (by simpa using hp)
    ·cases hp with
     |head=>exact hB hk
     |tail _ hp=>exact q5 p hp hk
    ·cases i with
     |zero=>simp at hp;subst hp;exact⟨(k,cs),rfl,rfl,dz⟩
     |succ i=>exact q5' i p (by simpa using hp)
    ·cases sig with
     |nil=>
      have e3:dT (aN.hd ([]:aN)) ps=[]:=rfl
      rw[e3] at p4
      have e4:Fa=[]:=List.eq_nil_of_length_eq_zero p4.len
      subst e4
      have e5:dE (aN.tl ([]:aN)) (q1.map (·.ps))=[]:=rfl
      rw[e5] at q6
      have e6:Fb=[]:=List.eq_nil_of_length_eq_zero q6.len
      subst e6
      exact jl.nil
     |cons s sig=>exact jl.append p4 q6
    ·cases sig with
     |nil=>
      have e3:dT (aN.hd ([]:aN)) ps=[]:=rfl
      rw[e3] at p4
      have e4:Fa=[]:=List.eq_nil_of_length_eq_zero p4.len
      subst e4
      have e5:dE (aN.tl ([]:aN)) (q1.map (·.ps))=[]:=rfl
      rw[e5] at q6
      have e6:Fb=[]:=List.eq_nil_of_length_eq_zero q6.len
      subst e6
      rfl
     |cons s sig=>
      rw[List.filterMap_append,p5,q7.1]
      rfl
    ·intro pc aT
     cases sig with
     |nil=>
      simp only[List.map_cons,kj,List.flatten_cons,List.mem_append] at aT
      rcases aT with aT|aT
      ·exact p6 pc aT
      ·exact q7.2 pc (by simpa[kj,aN.tl] using aT)
     |cons s sig=>
      simp only[List.map_cons,kj,List.mem_append] at aT
      rcases aT with aT|aT
      ·exact p6 pc aT
      ·exact q7.2 pc aT
  ·cases hx
theorem adH (r:R B E w0 N σ a w G) {T:aF} (hT:AZ P T) {m:Mode} {f:FuncId} {as:List ah} {vals:List Value} {σ1:St} (hN:∀n,o.dst=some n->n<N)
  (aS:(execOp a.eval o).run P w=.ok (.enter f vals.toArray) w) (hl:vals.length=as.length)
  (kx:∀(j:Nat) (x:ah) (v:Value),as[j]? =some x->vals[j]? =some v->RA w G σ.h x v)
  (hx:uL T m o.dst f as σ=some σ1):o.wp P a w (Nx B E w0 N σ1) Q:=by
 have H:=r.hr
 unfold uL at hx
 split at hx
 ·rename_i sig M hM
  split at hx
  ·rename_i bY El
   split at hx
   ·rename_i d7
    split at hx
    ·rename_i ds its hv
     split at hx
     ·rename_i rs cM kw
      split at hx
      ·rename_i σ2 mr
       split at hx
       ·rename_i ls fE qG
        injection hx with hx
        subst hx
        obtain⟨vh,Eh,fc⟩:=ZD El hl kx
        obtain⟨pas,q1,q2,q3,q4,q4',q5,q6,q7⟩:=H.rb hv vh Eh
        refine Wr r (fun Rd hm=>hT f sig M hM ds rs cM kw w vals Rd hm) hN aS q1 q2 q3 q4 (fun i p s hp hs hk=>?_) q5 q6 q7 d7 mr qG
        obtain⟨x,hx,e1,e2⟩:=q4' i p hp
        rw[e2]
        exact fc i x s hx hs (e1.symm.trans hk)
       ·cases hx
      ·cases hx
     ·cases hx
    ·cases hx
   ·cases hx
  ·cases hx
 ·cases hx
theorem adw (r:R B E w0 N σ a w G) {T:aF} (hT:AZ P T) {m:Mode} {f:FuncId} {x:Operand} {mx:MO} {bI:List ab} {xs:Array Operand} {ms:List MO} {ts:Array TypeId} {σ1:St} (hN:∀n,o.dst=some n->n<N)
  (ho:o.op=.call {callee:=.value x,args:=xs,argTypes:=ts}) (hf:bJ P f=true) (zw:bd x mx=true) (hm:fx xs.toList ms=true) (he:σ.ev mx=.one (.fn f bI))
  (hx:uL T m o.dst f (ms.map σ.ev++bI.map .one) σ=some σ1):o.wp P a w (Nx B E w0 N σ1) Q:=by
 obtain⟨e1,e2⟩:=r.uP hm
 obtain⟨x1,x2⟩:=r.ev zw
 rw[he] at x1
 obtain⟨vs,v1,v2,v3⟩:=(x1.dB (by simp)).1
 refine adH r hT (vals:=xs.toList.map a.eval++vs) hN ?_ (by simp[e1,v2]) (fun j y v hj hv=>?_) hx
 ·have rR:(xs.toList.map a.eval++vs).toArray=xs.map a.eval++vs.toArray:=by apply Array.ext';simp
  rw[rR]
  simp[execOp,ho,resolve,v1,Deferred.ofValue,invoke,ue hf]
 ·have Bt:xs.size=ms.length:=by simpa using e1
  by_cases bS:j<ms.length
  ·rw[List.getElem?_append_left (by simpa using bS)] at hj
   rw[List.getElem?_append_left (by simp;omega)] at hv
   exact e2 j y v hj hv
  ·rw[List.getElem?_append_right (by simp;omega)] at hj
   rw[List.getElem?_append_right (by simp;omega)] at hv
   simp only[List.length_map,<-e1] at hj hv
   rw[List.getElem?_map] at hj
   simp only[e1] at hj hv
   cases hc:bI[j - ms.length]? with
   |none=>rw[hc] at hj;cases hj
   |some c=>
    rw[hc] at hj
    simp at hj
    subst hj
    obtain⟨q1,q2⟩:=v3 _ c v hc hv
    refine RA.dS q1 ?_
    by_cases w5:c.fR=false
    ·rw[qh _ _ _ _ _ w5];exact q2
    ·cases c<;>first|exact q2.elim|(simp[ab.fR] at w5)
end
end Go.Am
