/- AmO: calls that change lists of their arguments. No condition. -/
import Derived.Test.YtbgmbplglejidaaAmN
set_option linter.unusedVariables false
namespace Go.Am
section
variable {B:Nat} {E:Ex} {w0 w w':World} {G G':Gh} {N:Nat} {h h':Nat->Option ar} {used:Nat->Bool}
variable {P:Program} {o:Oper} {a:Act} {σ σ':St} {Q:Exit->Act->World->Prop}
def xB (p:PB):cY->PC->PB
 |.row _,.list _ _ _ px=>{p with px:=px}
 |.nest _ k off,q=>{p with px:=p.px.set k ((p.px.getD k []).set off q)}
 |_,_=>p
open Classical in
noncomputable def tp (G:Gh) (its:List (cY×Mode)) (qs:List PC):Gh:=
 ⟨G.Im,fun n=>if h:∃p:(cY×Mode)×PC,∃i:Nat,its[i]? =some p.1/\qs[i]? =some p.2/\p.1.1.dJ=some n then xB (G.g n) h.choose.1.1 h.choose.2 else G.g n⟩
theorem aae {its:List (cY×Mode)} {qs:List PC} (gH:(its.filterMap (·.1.dJ)).Nodup) {i n:Nat} {it:cY×Mode} {q:PC} (hi:its[i]? =some it) (hq:qs[i]? =some q) (hn:it.1.dJ=some n):
  (tp G its qs).g n=xB (G.g n) it.1 q:=by
 have qT:∃p:(cY×Mode)×PC,∃i:Nat,its[i]? =some p.1/\qs[i]? =some p.2/\p.1.1.dJ=some n:=⟨(it,q),i,hi,hq,hn⟩
 unfold tp
 simp only
 rw[dif_pos qT]
 obtain⟨j,h1,h2,h3⟩:=qT.choose_spec
 have jS:=KR gH h1 hi h3 hn
 subst jS
 rw[hi] at h1
 rw[hq] at h2
 injection h1 with h1
 injection h2 with h2
 rw[<-h1,<-h2]
theorem aaf {its:List (cY×Mode)} {qs:List PC} {n:Nat} (hn:n∉its.filterMap (·.1.dJ)):(tp G its qs).g n=G.g n:=by
 unfold tp
 simp only
 rw[dif_neg]
 rintro⟨p,i,h1,h2,h3⟩
 exact hn (List.mem_filterMap.2 ⟨p.1,List.mem_of_getElem? h1,h3⟩)
theorem PC.Rq {pc q:PC} (hv:q.val=pc.val) (hL:pc.gW=true):∃sz a cap xs,q=.list sz a cap xs:=by
 cases pc with
 |int k n=>cases hL
 |bool b=>cases hL
 |list sz a cap xs=>
  cases q with
  |int k n=>cases hv
  |bool b=>cases hv
  |list sz a cap xs=>exact⟨_,_,_,_,rfl⟩
theorem ZT {px:List (List PC)} (hs:gv (px.map fun e=>e.map PC.er)=true) {k j:Nat} {c:PC} (hk:At px k j c):c.gW=false:=by
 obtain⟨e,he,hj⟩:=hk
 have h6:=List.all_eq_true.1 hs (e.map PC.er) (by simp only[List.mem_map];exact⟨e,List.mem_of_getElem? he,rfl⟩)
 have h7:=List.all_eq_true.1 h6 c.er (by simp only[List.mem_map];exact⟨c,List.mem_of_getElem? hj,rfl⟩)
 cases hL:c.gW with
 |false=>rfl
 |true=>rw[PC.abk hL] at h7;cases h7
theorem ZS {px:List (List PC)} (hs:gv (px.map fun e=>e.map PC.er)=true) (b:Nat):¬aZ b px:=by
 rintro⟨k,j,c,⟨e,he,hj⟩,hc⟩
 have h6:=List.all_eq_true.1 hs (e.map PC.er) (by simp only[List.mem_map];exact⟨e,List.mem_of_getElem? he,rfl⟩)
 have h7:=List.all_eq_true.1 h6 c.er (by simp only[List.mem_map];exact⟨c,List.mem_of_getElem? hj,rfl⟩)
 exact(Sep.lS h7).2 b hc
theorem Yw (H:HR B E w G h used []) {n:Nat} {gr:Bool} {m md:Mode} {sz:Nat} {xs:List (List C)} (hn:h n=some (.row gr m sz xs)) (hm:m≠ .aG) (tv:md=.live->m=.live) (jR:tj md xs=true)
  {q:PC} (A:ur w' md (ou sz (G.g n)) q) {k:Nat} {au:List (List C)} (hq:q.er=.list k au):GZ w' (G.g n) (xB (G.g n) (.row n) q) gr m sz au:=by
 have hr:=H.row n gr m sz xs hn
 have bS:h n≠none:=by rw[hn];simp
 obtain⟨aJ,a',ta,px',rfl⟩:=PC.Rq A.val rfl
 obtain⟨rfl,ha,rfl,hlen,hl⟩:=A.live _ _ _ _ _ _ _ _ rfl rfl
 rw[PC.dR] at hq
 injection hq with _ hq
 have kS:=A.sep
 have dU:(∀k j c,At px' k j c->Sep c)/\(∀b o k j c,a'=some (ad b o)->At px' k j c->¬aX b c)/\iI px':=by
  cases kS with
  |list _ _ _ _ h1 h2 h3=>exact⟨h1,h2,h1,h3⟩
 have si:∀b,aZ b px'->(G.g n).nl=false->b≠(G.g n).b:=by
  rintro b ⟨k,j,c,hk,hc⟩ aN rfl
  refine dU.2.1 (G.g n).b (G.g n).o k j c ?_ hk hc
  rw[ha,if_neg (by simp[aN])]
 have jA:md=.ae->gv xs=true:=by rintro rfl;exact jR
 refine⟨hm,?_,rfl,rfl,rfl,rfl,rfl,hq.symm,fun aN=>?_,fun aN=>?_,dU.2.2,fun b hb=>?_,fun dd k j pc hk hL=>?_⟩
 ·cases md with
  |aG=>cases jR
  |live=>exact .inr (tv rfl)
  |ae=>exact .inl (ZS (by rw[<-hr.er];exact jA rfl))
 ·have:=(hr.nl aN).1
  rw[this] at hlen
  exact List.eq_nil_of_length_eq_zero hlen
 ·refine⟨?_,?_⟩
  ·have hg:=A.eD
   rw[ha,if_neg (by simp[aN])] at hg
   by_cases h0:px'=[]
   ·show pB w' _ _ _ px'
    rw[h0]
    exact⟨by simp,by rintro k j c ⟨e,he,_⟩;simp at he,by rintro k j c ⟨e,he,_⟩;simp at he⟩
   ·generalize kw:PC.list aJ (some (ad (G.g n).b (G.g n).o)) (G.g n).cap px'=q2 at hg
    cases hg with
    |int k n=>cases kw
    |bool b=>cases kw
    |nil _ _ _ _=>injection kw with _ _ _ e4;exact absurd e4 h0
    |cons _ _ _ _ _ h1 h2 h3 h4 h5 h6=>
     injection kw with e1 e2 e3 e4
     injection e2 with e2
     obtain⟨e5,e6⟩:=nG e2
     subst e1 e3 e4
     rw[e5,e6]
     exact⟨h4,h5,h6⟩
  ·show px'.length<=_
   rw[hlen]
   exact(hr.dW aN).2.2
 ·have gf:aX b (ou aJ (G.g n)):=A.sub b (by
   obtain⟨k,j,c,hk,hc⟩:=hb
   exact .there _ _ _ _ k j c hk hc)
  rcases TG (fun hq=>(hr.nl hq).1) gf with⟨aN,he⟩|hF
  ·exact absurd he (si b hb aN)
  ·exact hF
 ·cases md with
  |aG=>cases jR
  |live=>exact hl rfl k j pc hk hL
  |ae=>
   have:=ZT (px:=(G.g n).px) (by rw[<-hr.er];exact jA rfl) hk
   rw[hL] at this;cases this
theorem yw {α:Type} {px:List (List α)} {k off k' j':Nat} {e:List α} {q c:α} (he:px[k]? =some e) (h:At (px.set k (e.set off q)) k' j' c):(k'=k/\j'=off/\c=q)\/(At px k' j' c/\(k',j')≠(k,off)):=by
 have hk:=(List.getElem?_eq_some_iff.1 he).1
 rcases I0 hk h with⟨rfl,h1⟩|⟨aD,h1⟩
 ·by_cases hj:j'=off
  ·subst hj
   have hl:j'<e.length:=by have:=(List.getElem?_eq_some_iff.1 h1).1;simpa using this
   rw[List.getElem?_set_self hl] at h1
   injection h1 with h1
   exact .inl ⟨rfl,rfl,h1.symm⟩
  ·rw[List.getElem?_set_ne (Ne.symm hj)] at h1
   exact .inr ⟨⟨e,he,h1⟩,fun e=>hj (congrArg Prod.snd e)⟩
 ·exact .inr ⟨h1,fun e=>aD (congrArg Prod.fst e)⟩
theorem afo {α:Type} {px:List (List α)} {k off k' j':Nat} {e:List α} {q c:α} (he:px[k]? =some e) (h:At px k' j' c) (aD:(k',j')≠(k,off)):At (px.set k (e.set off q)) k' j' c:=by
 obtain⟨e',h1,h2⟩:=h
 by_cases hk:k'=k
 ·subst hk
  rw[he] at h1
  injection h1 with h1
  subst h1
  have hj:j'≠off:=fun e=>aD (by rw[e])
  exact⟨_,List.getElem?_set_self (List.getElem?_eq_some_iff.1 he).1,by rw[List.getElem?_set_ne (Ne.symm hj)];exact h2⟩
 ·exact⟨e',by rw[List.getElem?_set_ne (Ne.symm hk)];exact h1,h2⟩
theorem Yv (H:HR B E w G h used []) {n k off:Nat} {gr:Bool} {sz:Nat} {xs:List (List C)} (hn:h n=some (.row gr .live sz xs)) {pc:PC} (bU:At (G.g n).px k off pc) (hL:pc.gW=true)
  (si:(G.g n).nl=false->w'.heap[(G.g n).b]? =w.heap[(G.g n).b]?) (P8:∀k' j' c,At (G.g n).px k' j' c->(k',j')≠(k,off)->∀b,aX b c->w'.heap[b]? =w.heap[b]?)
  {q:PC} (A:ur w' .ae pc q) {ex:List C} (qT:xs[k]? =some ex):GZ w' (G.g n) (xB (G.g n) (.nest n k off) q) gr .live sz (xs.set k (ex.set off q.er)):=by
 have hr:=H.row n gr .live sz xs hn
 obtain⟨e0,lI,PO⟩:=bU
 have nW:(G.g n).px.getD k []=e0:=by simp[List.getD_eq_getElem?_getD,lI]
 have fZ:(xB (G.g n) (.nest n k off) q).px=(G.g n).px.set k (e0.set off q):=by simp only[xB,nW]
 have aiV:ex=e0.map PC.er:=by
  rw[hr.er,List.getElem?_map,lI] at qT
  simpa using qT.symm
 have bU:At (G.g n).px k off pc:=⟨e0,lI,PO⟩
 have hqL:q.gW=true:=by
  obtain⟨sz,a,cap,xs,rfl⟩:=PC.Rq A.val hL
  rfl
 have aN:(G.g n).nl=false:=by
  cases hq:(G.g n).nl with
  |false=>rfl
  |true=>rw[(hr.nl hq).1] at lI;simp at lI
 obtain⟨l1,l2,l3⟩:=hr.dW aN
 refine⟨by simp,.inr rfl,rfl,rfl,rfl,rfl,rfl,?_,fun h=>?_,fun _=>?_,?_,fun b hb=>?_,fun _ k' j' c cI hc=>?_⟩
 ·rw[fZ,hr.er,aiV,List.map_set,List.map_set]
 ·rw[aN] at h;cases h
 ·rw[fZ]
  refine⟨⟨fun e he=>?_,fun k' j' c cI=>?_,fun k' j' c cI=>?_⟩,by rw[List.length_set];exact l3⟩
  ·rcases List.mem_or_eq_of_mem_set he with he|rfl
   ·exact l2.1 e he
   ·rw[List.length_set];exact l2.1 e0 (List.mem_of_getElem? lI)
  ·rw[ja (si aN)]
   rcases yw lI cI with⟨rfl,rfl,rfl⟩|⟨h1,_⟩
   ·rw[A.val];exact l2.2.1 _ _ _ bU
   ·exact l2.2.1 _ _ _ h1
  ·rcases yw lI cI with⟨rfl,rfl,rfl⟩|⟨h1,h2⟩
   ·exact A.eD
   ·exact(l2.2.2 _ _ _ h1).congr fun b hb o=>ja (P8 k' j' c h1 h2 b hb) o
 ·rw[fZ]
  refine⟨fun k' j' c cI=>?_,fun k1 j1 c1 k2 j2 c2 b h1 h2 aD hb be=>?_⟩
  ·rcases yw lI cI with⟨rfl,rfl,rfl⟩|⟨h1,h2⟩
   ·exact A.sep
   ·exact hr.mode.2.1 _ _ _ h1
  ·rcases yw lI h1 with⟨rfl,rfl,rfl⟩|⟨g1,n1⟩
   ·rcases yw lI h2 with⟨rfl,rfl,rfl⟩|⟨g2,n2⟩
    ·exact aD rfl
    ·exact hr.mode.2.2 _ _ _ _ _ _ b bU g2 aD (A.sub b hb) be
   ·rcases yw lI h2 with⟨rfl,rfl,rfl⟩|⟨g2,n2⟩
    ·exact hr.mode.2.2 _ _ _ _ _ _ b g1 bU aD hb (A.sub b be)
    ·exact hr.mode.2.2 _ _ _ _ _ _ b g1 g2 aD hb be
 ·rw[fZ] at hb
  obtain⟨k',j',c,cI,hc⟩:=hb
  rcases yw lI cI with⟨rfl,rfl,rfl⟩|⟨h1,h2⟩
  ·exact⟨_,_,_,bU,A.sub b hc⟩
  ·exact⟨_,_,_,h1,hc⟩
 ·rw[fZ]
  by_cases he:(k',j')=(k,off)
  ·have h1:k'=k:=congrArg Prod.fst he
   have h2:j'=off:=congrArg Prod.snd he
   subst h1 h2
   obtain⟨e1,g1,g2⟩:=cI
   rw[lI] at g1
   injection g1 with g1
   subst g1
   rw[PO] at g2
   injection g2 with g2
   subst g2
   have hl:j'<e0.length:=(List.getElem?_eq_some_iff.1 PO).1
   exact⟨q,⟨_,List.getElem?_set_self (List.getElem?_eq_some_iff.1 lI).1,List.getElem?_set_self hl⟩,A.val,hqL⟩
  ·exact⟨c,afo lI cI he,rfl,hc⟩
theorem Rz:∀{as:List ak} {dz:List (Bool×List aj)} {vals:List Value},qb as=some dz->vals.length=as.length->(∀(j:Nat) (x:ak) (v:Value),as[j]? =some x->vals[j]? =some v->RA w G h x v)->
  vals.length=dz.length/\∀(j:Nat) (x:Bool×List aj) (v:Value),dz[j]? =some x->vals[j]? =some v->RV w G h x.1 x.2 v
 |[],dz,vals,hx,hl,hc=>by
  simp only[qb] at hx
  injection hx with hx
  subst hx
  exact⟨hl,by simp⟩
 |y::as,dz,vals,hx,hl,hc=>by
  simp only[qb] at hx
  split at hx
  ·rename_i x xs e1 e2
   injection hx with hx
   subst hx
   match vals,hl with
   |v::vals,hl=>
    obtain⟨i1,i2⟩:=Rz e2 (vals:=vals) (by simpa using hl) (fun j x v h1 h2=>hc (j+1) x v h1 h2)
    refine⟨by simp[i1],fun j x' v' hj hv=>?_⟩
    cases j with
    |zero=>
     simp at hj hv
     subst hj hv
     have h0:=hc 0 y v rfl rfl
     cases y with
     |one c=>
      cases c<;>simp[ak.cells?] at e1<;>subst e1<;>exact h0.resolve_left (by simp)
     |agg cs=>
      simp[ak.cells?] at e1
      subst e1
      exact h0
     |br l=>simp[ak.cells?] at e1
    |succ j=>exact i2 j x' v' (by simpa using hj) (by simpa using hv)
  ·cases hx
theorem sV.gW {it:cY} {md:Mode} {pc:PC} (i:sV B E w G h it md pc):pc.gW=true:=by
 obtain⟨sz,a,cap,xs,rfl,_⟩:=i.ok.dW
 rfl
def HE (P:Program) (T:aT):Prop:=∀f sig M,aT.rY T.CY f=some (sig,M)->qw P f sig M
theorem agQ (r:R B E w0 N σ a w G) {T:aT} (hT:HE P T) {m:Mode} {f:FuncId} {as:List ak} {vals:List Value} {σ1:St} (hN:∀n,o.dst=some n->n<N)
  (bY:(execOp a.eval o).run P w=.ok (.enter f vals.toArray) w) (hl:vals.length=as.length)
  (uT:∀(j:Nat) (x:ak) (v:Value),as[j]? =some x->vals[j]? =some v->RA w G σ.h x v)
  (hx:uG T m o.dst f as σ=some σ1):o.wp P a w (Nx B E w0 N σ1) Q:=by
 have H:=r.hr
 unfold uG at hx
 split at hx
 ·rename_i sig M dz hM Pv
  split at hx
  ·rename_i gH
   split at hx
   ·rename_i ds its hv
    split at hx
    ·rename_i rs fb pM
     split at hx
     ·rename_i σ2 qW
      split at hx
      ·rename_i ls g9 wT
       injection hx with hx
       subst hx
       obtain⟨zk,Pl⟩:=Rz Pv hl uT
       obtain⟨pas,q1,q2,q3,q4,q5,q6,q7⟩:=H.lR hv zk Pl
       have tw:(its.filterMap (·.1.dJ)).Nodup:=by rw[q6];exact gH
       generalize u0:eJ sig (pas.map (·.ps))=fl at q5
       have Kw:∀(i:Nat) (x:Mode×PC),fl[i]? =some x->∃it,its[i]? =some it/\it.2=x.1/\sV B E w G σ.h it.1 x.1 x.2:=by
        intro i x hi
        have bK:i<its.length:=by rw[q5.len];exact(List.getElem?_eq_some_iff.1 hi).1
        have he:its[i]? =some its[i]:=List.getElem?_eq_getElem bK
        exact⟨_,he,q5.at_ i _ x he hi⟩
       have ZV:∀x∈fl,∃it∈its,sV B E w G σ.h it.1 x.1 x.2:=by
        intro x hx
        obtain⟨i,hi⟩:=List.getElem?_of_mem hx
        obtain⟨it,h1,_,h2⟩:=Kw i x hi
        exact⟨it,List.mem_of_getElem? h1,h2⟩
       have nV:∀x∈fl,∀b,aX b x.2->∃n gr m sz xs,n∈kG sig dz/\σ.h n=some (.row gr m sz xs)/\m≠ .aG/\r5 G n b/\((∀b,¬aZ b (G.g n).px)\/m=.live):=by
        intro x hx b hb
        obtain⟨it,h1,h2⟩:=ZV x hx
        obtain⟨n,gr,m,sz,xs,e1,e2,e3,e4,e5⟩:=h2.nO H hb
        exact⟨n,gr,m,sz,xs,by rw[<-q6];exact List.mem_filterMap.2 ⟨it,h1,e1⟩,e2,e3,e4,e5⟩
       have qT:∀b,EI fl b->(B<=b\/E b):=by
        rintro b ⟨x,hx,hb⟩
        obtain⟨n,gr,m,sz,xs,_,e2,e3,e4,e5⟩:=nV x hx b hb
        rcases e4 with⟨aN,rfl⟩|hF
        ·exact(H.own n (by rw[e2];simp) aN).2.1
        ·have gx:=(H.row n gr m sz xs e2).mode
         cases m with
         |aG=>exact absurd rfl e3
         |ae=>exact(gx.1 b hF).2.2
         |live=>exact(gx.1 b hF).2.2
       have RE:D4 w sig ds vals pas:=by
        refine⟨q2,q1,q3,fun x hx=>?_,?_,fun pc bc x hx b hb be=>?_,fun p hp hk=>absurd hk (q4 p hp),fun i p s hp _ hk=>absurd hk (q4 p (List.mem_of_getElem? hp))⟩
        ·rw[u0] at hx
         obtain⟨it,_,h2⟩:=ZV x hx
         exact h2.ok
        ·rw[u0,List.pairwise_iff_getElem]
         intro i j hi hj jS b hb be
         obtain⟨it,h1,_,h2⟩:=Kw i _ (List.getElem?_eq_getElem hi)
         obtain⟨zI,kq,_,BZ⟩:=Kw j _ (List.getElem?_eq_getElem hj)
         obtain⟨n,gr,m,sz,xs,e1,e2,e3,e4,e5⟩:=h2.nO H hb
         obtain⟨n',bo,m',aJ,au,Jr,tf,e3',BL,BM⟩:=BZ.nO H be
         have aD:n≠n':=by
          rintro rfl
          have:=KR tw h1 kq e1 Jr
          omega
         exact H.EW aD e2 tf BM e4 BL
        ·rw[u0] at hx
         obtain⟨n',bo,m',aJ,au,Jr,tf,e3',BL,BM⟩:=nV x hx b be
         rcases q7 pc bc b hb with hi|⟨n,gr,m,sz,xs,hn,e2,e4⟩
         ·rcases BL with⟨aN,rfl⟩|hF
          ·exact(H.own n' (by rw[tf];simp) aN).1 hi
          ·rcases BM with BM|rfl
           ·exact BM b hF
           ·exact((H.row n' bo .live aJ au tf).mode.1 b hF).1 hi
         ·have aD:n≠n':=fun e=>hn (e▸Jr)
          exact H.EW aD e2 tf BM e4 BL
       unfold Oper.wp
       rw[bY]
       refine(hT f sig M hM ds rs fb pM w vals pas RE).mono fun e w' ⟨aY,p1,p2,p3,p4,p5,qs,p6,p7,p8⟩=>?_
       subst p2
       rw[u0] at p5 p7 p8
       obtain⟨t1,t2,t3,t4⟩:=acH qW tw
       have hSn:∀n,n∈kG sig dz->∃(i:Nat) (it:cY×Mode) (x:Mode×PC) (q:PC),its[i]? =some it/\fl[i]? =some x/\qs[i]? =some q/\fb[i]? =some q.er/\it.1.dJ=some n/\sV B E w G σ.h it.1 x.1 x.2/\ur w' x.1 x.2 q:=by
        intro n hn
        rw[<-q6,List.mem_filterMap] at hn
        obtain⟨it,wV,gy⟩:=hn
        obtain⟨i,hi⟩:=List.getElem?_of_mem wV
        have bK:i<fl.length:=by rw[<-q5.len];exact(List.getElem?_eq_some_iff.1 hi).1
        have hx:fl[i]? =some fl[i]:=List.getElem?_eq_getElem bK
        have hq:qs[i]? =some (qs[i]'(by rw[p7];exact bK)):=List.getElem?_eq_getElem _
        exact⟨i,it,_,_,hi,hx,hq,by rw[<-p6,List.getElem?_map,hq];rfl,gy,(q5.at_ i it _ hi hx).2,p8 i _ _ hx hq⟩
       have ajA:∀b,b<w.heap.size->(∀n,n∈kG sig dz->¬r5 G n b)->w'.heap[b]? =w.heap[b]? :=by
        intro b hb cm
        refine p5.block b hb ?_
        rintro⟨x,hx,E3⟩
        obtain⟨n,gr,m,sz,xs,e1,e2,e3,e4,e5⟩:=nV x hx b E3
        exact cm n e1 e4
       have ajc:∀b,b<w.heap.size->(∀x∈fl,¬aX b x.2)->w'.heap[b]? =w.heap[b]? :=fun b hb cm=>p5.block b hb (by rintro⟨x,hx,E3⟩;exact cm x hx E3)
       obtain⟨uo,K,fq⟩:=H.KQ (G':=tp G its qs) (h':=σ2.h) (w':=w') (S:=fun n=>n∈kG sig dz) p5.size ajA (fun b hb=>p5.jq b hb) rfl (fun n hn=>by
        obtain⟨i,it,x,q,hi,hxi,nc,kv,gy,fH,EZ⟩:=hSn n hn
        have bU:=fH.at_
        have aaA:=t4 i it q.er hi kv
        rw[aae tw hi nc gy]
        obtain⟨QP,md⟩:=it
        cases QP with
        |nil sz=>cases gy
        |row n'=>
         injection gy with gy
         have gy:n'=n:=gy
         subst gy
         obtain⟨gr,mo,sz,xs,e1,e2,e3,e4,e5⟩:=bU
         obtain⟨bo,nv,vG,lB,au,g1,g2,g3⟩:=aaA
         rw[e1] at g1
         injection g1 with g1
         injection g1 with a1 a2 a3 a4
         subst a1 a2 a3 a4
         rw[e4] at EZ
         exact⟨gr,mo,sz,xs,au,e1,g3,Yw H e1 e2 e3 e5 EZ g2⟩
        |nest n' k off=>
         injection gy with gy
         have gy:n'=n:=gy
         subst gy
         obtain⟨gr,sz,xs,e1,e2,e3⟩:=bU
         obtain⟨bo,nv,vG,lB,ex,g1,g2,g3⟩:=aaA
         rw[e1] at g1
         injection g1 with g1
         injection g1 with a1 a2 a3 a4
         subst a1 a2 a3 a4
         rw[e2] at EZ
         have hr:=H.row n' gr .live sz xs e1
         have bS:σ.h n'≠none:=by rw[e1];simp
         have Ki:∀b,r5 G n' b->¬aX b x.2->w'.heap[b]? =w.heap[b]? :=by
          intro b hb zn
          have bK:b<w.heap.size:=by
           rcases hb with⟨aN,rfl⟩|hF
           ·exact(H.own n' bS aN).2.2
           ·exact H.rz e1 hF
          refine ajc b bK fun y hy oN=>?_
          obtain⟨j,hj⟩:=List.getElem?_of_mem hy
          by_cases jS:j=i
          ·subst jS
           rw[hxi] at hj
           injection hj with hj
           subst hj
           exact zn oN
          ·obtain⟨zI,kq,_,BZ⟩:=Kw j y hj
           obtain⟨n2,BX,m2,kL,iH,f1,f2,f3,f4,f5⟩:=BZ.nO H oN
           have aD:n'≠n2:=by
            rintro rfl
            exact jS (KR tw kq hi f1 rfl)
           exact H.EW aD e1 f2 f5 hb f4
         refine⟨gr,.live,sz,xs,_,e1,g3,Yv H e1 e3 fH.gW (fun aN=>Ki _ (.inl ⟨aN,rfl⟩) fun hb=>?_) (fun k' j' c hk aD b hb=>Ki b (.inr ⟨k',j',c,hk,hb⟩) fun E3=>?_) EZ g2⟩
         ·exact H.live n' gr sz xs e1 _ ⟨k,off,x.2,e3,hb⟩ n' bS aN rfl
         ·exact hr.mode.2.2 _ _ _ _ _ _ b hk e3 aD hb E3) (fun n hn=>⟨t3 n (by rw[q6];exact hn),aaf (by rw[q6];exact hn)⟩)
       have HR2:HR B E w' (tp G its qs) σ2.h σ2.used []:=by rw[t2];exact uo
       have gf:uq B w' (tp G its qs) σ2.h (aY.flatMap (·.2)):=by
        refine⟨p4.eD,fun pc bc b hb=>?_,?_⟩
        ·obtain⟨n1,n2⟩:=p4.new pc bc b hb
         refine⟨⟨fun hi=>?_,fun q hq kw he=>?_,fun q gr mo sz xs hq cR=>?_⟩,n2,Nat.le_trans r.fr.size n1⟩
         ·have:=H.gi b hi;omega
         ·obtain⟨k0,k1,k2,_⟩:=K.name q (uo.jc q hq) hq
          have:=(H.own q k0 (k1.symm.trans kw)).2.2
          rw[<-k2] at this
          omega
         ·have be:=fq q b cR
          have Cr:=uo.jc q (by rw[hq];simp)
          obtain⟨k0,_⟩:=K.name q Cr (by rw[hq];simp)
          cases hh:σ.h q with
          |none=>exact absurd hh k0
          |some blk=>
           cases blk with
           |box cs=>
            have:q∉kG sig dz:=by
             intro hm
             obtain⟨i,it,x,q',hi,hxi,nc,kv,gy,fH,EZ⟩:=hSn q hm
             have bU:=fH.at_
             obtain⟨QP,md⟩:=it
             cases QP with
             |nil sz=>cases gy
             |row n'=>
              injection gy with gy
              have gy:n'=q:=gy
              subst gy
              obtain⟨gr,mo,sz,xs,e1,_⟩:=bU
              rw[hh] at e1;cases e1
             |nest n' k off=>
              injection gy with gy
              have gy:n'=q:=gy
              subst gy
              obtain⟨gr,sz,xs,e1,_⟩:=bU
              rw[hh] at e1;cases e1
            have h3:=t3 q (by rw[q6];exact this)
            rw[h3,hh] at hq
            cases hq
           |row bo m' aJ au=>have:=H.rz hh be;omega
        ·rw[List.pairwise_iff_getElem]
         intro i j hi hj jS b hb
         exact p4.nM i j _ _ b (by omega) (List.getElem?_eq_getElem hi) (List.getElem?_eq_getElem hj) hb
       rw[<-p1] at wT
       obtain⟨G',b1,b2,b3,b4,b5,b6,b7⟩:=HR.jX HR2 wT p3 gf
       have u4:Fr B E w0 w':=by
        refine⟨p5.os.trans r.fr.os,p5.tape.trans r.fr.tape,p5.output.trans r.fr.output,Nat.le_trans r.fr.size p5.size,fun b hb he=>?_,fun b hb=>?_⟩
        ·refine(p5.block b (Nat.lt_of_lt_of_le hb r.fr.size) fun hx=>?_).trans (r.fr.block b hb he)
         rcases qT b hx with h1|h1
         ·omega
         ·exact he h1
        ·exact(r.fr.jq b hb).trans (p5.jq b (Nat.lt_of_lt_of_le hb r.fr.size))
       have K2:bf w G σ.h (fun n=>σ.used n=true) w' G' g9.h:=bf.trans (fun n hn=>by rw[t2];exact hn) K b2
       have r2:R B E w0 N g9 a w' G':=r.step (b6.trans t1) (fun q hq=>b7 q (by rw[t2];exact hq)) K2 b1 u4
       refine⟨G',r2.put (RA.lT b3 p3 b4) ?_ hN⟩
       intro q hq
       match ls,hq with
       |[],hq=>obtain⟨x,hx,_⟩:=hq;simp at hx
       |[(true,cs)],hq=>obtain⟨c,hc,hq⟩:=hq;exact b5 (true,cs) (by simp) c hc q hq
       |[(false,[c])],hq=>exact b5 (false,[c]) (by simp) c (by simp) q hq
       |[(false,[])],hq=>exact absurd hq id
       |[(false,_::_::_)],hq=>exact absurd hq id
       |x::y::ls,hq=>obtain⟨x',f7,c,hc,hq⟩:=hq;exact b5 x' f7 c hc q hq
      ·cases hx
     ·cases hx
    ·cases hx
   ·cases hx
  ·cases hx
 ·cases hx
theorem agI (r:R B E w0 N σ a w G) {T:aT} (hT:HE P T) {m:Mode} {f:FuncId} {xs:Array Operand} {ms:List MO} {ts:Array TypeId} {σ1:St} (hN:∀n,o.dst=some n->n<N)
  (ho:o.op=.call {callee:=.value (.func f),args:=xs,argTypes:=ts}) (hf:bH P f=true) (hm:gQ xs.toList ms=true)
  (hx:uG T m o.dst f (ms.map σ.ev) σ=some σ1):o.wp P a w (Nx B E w0 N σ1) Q:=by
 obtain⟨e1,e2⟩:=r.yN hm
 refine agQ r hT (vals:=xs.toList.map a.eval) hN ?_ (by simpa using e1) e2 hx
 have he:(xs.toList.map a.eval).toArray=xs.map a.eval:=by apply Array.ext';simp
 rw[he]
 simp[execOp,ho,resolve,Deferred.ofValue,invoke,Act.eval,Al hf]
end
end Go.Am
