/- AmO: calls that change lists of their arguments. No condition. -/
import Derived.Test.YtbgmbplglejidaaAmN
set_option linter.unusedVariables false
namespace Go.Am
section
variable {B:Nat} {E:Ex} {w0 w w':World} {G G':Gh} {N:Nat} {h h':Nat->Option ao} {used:Nat->Bool}
variable {P:Program} {o:Oper} {a:Act} {σ σ':St} {Q:Exit->Act->World->Prop}
def wL (p:PB):cM->PC->PB
 |.row _,.list _ _ _ px=>{p with px:=px}
 |.nest _ k off,q=>{p with px:=p.px.set k ((p.px.getD k []).set off q)}
 |_,_=>p
open Classical in
noncomputable def sF (G:Gh) (its:List (cM×Mode)) (qs:List PC):Gh:=
 ⟨G.Im,fun n=>if h:∃p:(cM×Mode)×PC,∃i:Nat,its[i]? =some p.1/\qs[i]? =some p.2/\p.1.1.dA=some n then wL (G.g n) h.choose.1.1 h.choose.2 else G.g n⟩
theorem Yl {its:List (cM×Mode)} {qs:List PC} (gi:(its.filterMap (·.1.dA)).Nodup) {i n:Nat} {it:cM×Mode} {q:PC} (hi:its[i]? =some it) (hq:qs[i]? =some q) (hn:it.1.dA=some n):
  (sF G its qs).g n=wL (G.g n) it.1 q:=by
 have qd:∃p:(cM×Mode)×PC,∃i:Nat,its[i]? =some p.1/\qs[i]? =some p.2/\p.1.1.dA=some n:=⟨(it,q),i,hi,hq,hn⟩
 unfold sF
 simp only
 rw[dif_pos qd]
 obtain⟨j,h1,h2,h3⟩:=qd.choose_spec
 have jw:=Jx gi h1 hi h3 hn
 subst jw
 rw[hi] at h1
 rw[hq] at h2
 injection h1 with h1
 injection h2 with h2
 rw[<-h1,<-h2]
theorem Ym {its:List (cM×Mode)} {qs:List PC} {n:Nat} (hn:n∉its.filterMap (·.1.dA)):(sF G its qs).g n=G.g n:=by
 unfold sF
 simp only
 rw[dif_neg]
 rintro⟨p,i,h1,h2,h3⟩
 exact hn (List.mem_filterMap.2 ⟨p.1,List.mem_of_getElem? h1,h3⟩)
theorem PC.PJ {pc q:PC} (hv:q.val=pc.val) (hL:pc.gB=true):∃sz a cap xs,q=.list sz a cap xs:=by
 cases pc with
 |int k n=>cases hL
 |bool b=>cases hL
 |list sz a cap xs=>
  cases q with
  |int k n=>cases hv
  |bool b=>cases hv
  |list sz a cap xs=>exact⟨_,_,_,_,rfl⟩
theorem X0 {px:List (List PC)} (hs:fZ (px.map fun e=>e.map PC.er)=true) {k j:Nat} {c:PC} (hk:At px k j c):c.gB=false:=by
 obtain⟨e,he,hj⟩:=hk
 have h6:=List.all_eq_true.1 hs (e.map PC.er) (by simp only[List.mem_map];exact⟨e,List.mem_of_getElem? he,rfl⟩)
 have h7:=List.all_eq_true.1 h6 c.er (by simp only[List.mem_map];exact⟨c,List.mem_of_getElem? hj,rfl⟩)
 cases hL:c.gB with
 |false=>rfl
 |true=>rw[PC.ZK hL] at h7;cases h7
theorem XZ {px:List (List PC)} (hs:fZ (px.map fun e=>e.map PC.er)=true) (b:Nat):¬aV b px:=by
 rintro⟨k,j,c,⟨e,he,hj⟩,hc⟩
 have h6:=List.all_eq_true.1 hs (e.map PC.er) (by simp only[List.mem_map];exact⟨e,List.mem_of_getElem? he,rfl⟩)
 have h7:=List.all_eq_true.1 h6 c.er (by simp only[List.mem_map];exact⟨c,List.mem_of_getElem? hj,rfl⟩)
 exact(Sep.kP h7).2 b hc
theorem WC (H:HR B E w G h used []) {n:Nat} {gr:Bool} {m md:Mode} {sz:Nat} {xs:List (List C)} (hn:h n=some (.row gr m sz xs)) (hm:m≠ .aD) (sI:md=.live->m=.live) (jv:sB md xs=true)
  {q:PC} (A:tA w' md (nv sz (G.g n)) q) {k:Nat} {aq:List (List C)} (hq:q.er=.list k aq):FC w' (G.g n) (wL (G.g n) (.row n) q) gr m sz aq:=by
 have hr:=H.row n gr m sz xs hn
 have bM:h n≠none:=by rw[hn];simp
 obtain⟨aJ,a',sn,px',rfl⟩:=PC.PJ A.val rfl
 obtain⟨rfl,ha,rfl,hlen,hl⟩:=A.live _ _ _ _ _ _ _ _ rfl rfl
 rw[PC.dJ] at hq
 injection hq with _ hq
 have kc:=A.sep
 have dL:(∀k j c,At px' k j c->Sep c)/\(∀b o k j c,a'=some (ad b o)->At px' k j c->¬aS b c)/\ij px':=by
  cases kc with
  |list _ _ _ _ h1 h2 h3=>exact⟨h1,h2,h1,h3⟩
 have rA:∀b,aV b px'->(G.g n).nl=false->b≠(G.g n).b:=by
  rintro b ⟨k,j,c,hk,hc⟩ aL rfl
  refine dL.2.1 (G.g n).b (G.g n).o k j c ?_ hk hc
  rw[ha,if_neg (by simp[aL])]
 have ja:md=.ae->fZ xs=true:=by rintro rfl;exact jv
 refine⟨hm,?_,rfl,rfl,rfl,rfl,rfl,hq.symm,fun aL=>?_,fun aL=>?_,dL.2.2,fun b hb=>?_,fun cX k j pc hk hL=>?_⟩
 ·cases md with
  |aD=>cases jv
  |live=>exact .inr (sI rfl)
  |ae=>exact .inl (XZ (by rw[<-hr.er];exact ja rfl))
 ·have:=(hr.nl aL).1
  rw[this] at hlen
  exact List.eq_nil_of_length_eq_zero hlen
 ·refine⟨?_,?_⟩
  ·have hg:=A.eu
   rw[ha,if_neg (by simp[aL])] at hg
   by_cases h0:px'=[]
   ·show oD w' _ _ _ px'
    rw[h0]
    exact⟨by simp,by rintro k j c ⟨e,he,_⟩;simp at he,by rintro k j c ⟨e,he,_⟩;simp at he⟩
   ·generalize jS:PC.list aJ (some (ad (G.g n).b (G.g n).o)) (G.g n).cap px'=q2 at hg
    cases hg with
    |int k n=>cases jS
    |bool b=>cases jS
    |nil _ _ _ _=>injection jS with _ _ _ e4;exact absurd e4 h0
    |cons _ _ _ _ _ h1 h2 h3 h4 h5 h6=>
     injection jS with e1 e2 e3 e4
     injection e2 with e2
     obtain⟨e5,e6⟩:=m4 e2
     subst e1 e3 e4
     rw[e5,e6]
     exact⟨h4,h5,h6⟩
  ·show px'.length<=_
   rw[hlen]
   exact(hr.dR aL).2.2
 ·have fx:aS b (nv aJ (G.g n)):=A.sub b (by
   obtain⟨k,j,c,hk,hc⟩:=hb
   exact .there _ _ _ _ k j c hk hc)
  rcases RJ (fun hq=>(hr.nl hq).1) fx with⟨aL,he⟩|hF
  ·exact absurd he (rA b hb aL)
  ·exact hF
 ·cases md with
  |aD=>cases jv
  |live=>exact hl rfl k j pc hk hL
  |ae=>
   have:=X0 (px:=(G.g n).px) (by rw[<-hr.er];exact ja rfl) hk
   rw[hL] at this;cases this
theorem xH {α:Type} {px:List (List α)} {k off k' j':Nat} {e:List α} {q c:α} (he:px[k]? =some e) (h:At (px.set k (e.set off q)) k' j' c):(k'=k/\j'=off/\c=q)\/(At px k' j' c/\(k',j')≠(k,off)):=by
 have hk:=(List.getElem?_eq_some_iff.1 he).1
 rcases Ht hk h with⟨rfl,h1⟩|⟨aB,h1⟩
 ·by_cases hj:j'=off
  ·subst hj
   have hl:j'<e.length:=by have:=(List.getElem?_eq_some_iff.1 h1).1;simpa using this
   rw[List.getElem?_set_self hl] at h1
   injection h1 with h1
   exact .inl ⟨rfl,rfl,h1.symm⟩
  ·rw[List.getElem?_set_ne (Ne.symm hj)] at h1
   exact .inr ⟨⟨e,he,h1⟩,fun e=>hj (congrArg Prod.snd e)⟩
 ·exact .inr ⟨h1,fun e=>aB (congrArg Prod.fst e)⟩
theorem adD {α:Type} {px:List (List α)} {k off k' j':Nat} {e:List α} {q c:α} (he:px[k]? =some e) (h:At px k' j' c) (aB:(k',j')≠(k,off)):At (px.set k (e.set off q)) k' j' c:=by
 obtain⟨e',h1,h2⟩:=h
 by_cases hk:k'=k
 ·subst hk
  rw[he] at h1
  injection h1 with h1
  subst h1
  have hj:j'≠off:=fun e=>aB (by rw[e])
  exact⟨_,List.getElem?_set_self (List.getElem?_eq_some_iff.1 he).1,by rw[List.getElem?_set_ne (Ne.symm hj)];exact h2⟩
 ·exact⟨e',by rw[List.getElem?_set_ne (Ne.symm hk)];exact h1,h2⟩
theorem WB (H:HR B E w G h used []) {n k off:Nat} {gr:Bool} {sz:Nat} {xs:List (List C)} (hn:h n=some (.row gr .live sz xs)) {pc:PC} (bQ:At (G.g n).px k off pc) (hL:pc.gB=true)
  (rA:(G.g n).nl=false->w'.heap[(G.g n).b]? =w.heap[(G.g n).b]?) (OM:∀k' j' c,At (G.g n).px k' j' c->(k',j')≠(k,off)->∀b,aS b c->w'.heap[b]? =w.heap[b]?)
  {q:PC} (A:tA w' .ae pc q) {ex:List C} (qd:xs[k]? =some ex):FC w' (G.g n) (wL (G.g n) (.nest n k off) q) gr .live sz (xs.set k (ex.set off q.er)):=by
 have hr:=H.row n gr .live sz xs hn
 obtain⟨e0,kD,Om⟩:=bQ
 have ni:(G.g n).px.getD k []=e0:=by simp[List.getD_eq_getElem?_getD,kD]
 have fL:(wL (G.g n) (.nest n k off) q).px=(G.g n).px.set k (e0.set off q):=by simp only[wL,ni]
 have ag6:ex=e0.map PC.er:=by
  rw[hr.er,List.getElem?_map,kD] at qd
  simpa using qd.symm
 have bQ:At (G.g n).px k off pc:=⟨e0,kD,Om⟩
 have hqL:q.gB=true:=by
  obtain⟨sz,a,cap,xs,rfl⟩:=PC.PJ A.val hL
  rfl
 have aL:(G.g n).nl=false:=by
  cases hq:(G.g n).nl with
  |false=>rfl
  |true=>rw[(hr.nl hq).1] at kD;simp at kD
 obtain⟨l1,l2,l3⟩:=hr.dR aL
 refine⟨by simp,.inr rfl,rfl,rfl,rfl,rfl,rfl,?_,fun h=>?_,fun _=>?_,?_,fun b hb=>?_,fun _ k' j' c cW hc=>?_⟩
 ·rw[fL,hr.er,ag6,List.map_set,List.map_set]
 ·rw[aL] at h;cases h
 ·rw[fL]
  refine⟨⟨fun e he=>?_,fun k' j' c cW=>?_,fun k' j' c cW=>?_⟩,by rw[List.length_set];exact l3⟩
  ·rcases List.mem_or_eq_of_mem_set he with he|rfl
   ·exact l2.1 e he
   ·rw[List.length_set];exact l2.1 e0 (List.mem_of_getElem? kD)
  ·rw[iF (rA aL)]
   rcases xH kD cW with⟨rfl,rfl,rfl⟩|⟨h1,_⟩
   ·rw[A.val];exact l2.2.1 _ _ _ bQ
   ·exact l2.2.1 _ _ _ h1
  ·rcases xH kD cW with⟨rfl,rfl,rfl⟩|⟨h1,h2⟩
   ·exact A.eu
   ·exact(l2.2.2 _ _ _ h1).congr fun b hb o=>iF (OM k' j' c h1 h2 b hb) o
 ·rw[fL]
  refine⟨fun k' j' c cW=>?_,fun k1 j1 c1 k2 j2 c2 b h1 h2 aB hb aY=>?_⟩
  ·rcases xH kD cW with⟨rfl,rfl,rfl⟩|⟨h1,h2⟩
   ·exact A.sep
   ·exact hr.mode.2.1 _ _ _ h1
  ·rcases xH kD h1 with⟨rfl,rfl,rfl⟩|⟨g1,n1⟩
   ·rcases xH kD h2 with⟨rfl,rfl,rfl⟩|⟨g2,n2⟩
    ·exact aB rfl
    ·exact hr.mode.2.2 _ _ _ _ _ _ b bQ g2 aB (A.sub b hb) aY
   ·rcases xH kD h2 with⟨rfl,rfl,rfl⟩|⟨g2,n2⟩
    ·exact hr.mode.2.2 _ _ _ _ _ _ b g1 bQ aB hb (A.sub b aY)
    ·exact hr.mode.2.2 _ _ _ _ _ _ b g1 g2 aB hb aY
 ·rw[fL] at hb
  obtain⟨k',j',c,cW,hc⟩:=hb
  rcases xH kD cW with⟨rfl,rfl,rfl⟩|⟨h1,h2⟩
  ·exact⟨_,_,_,bQ,A.sub b hc⟩
  ·exact⟨_,_,_,h1,hc⟩
 ·rw[fL]
  by_cases he:(k',j')=(k,off)
  ·have h1:k'=k:=congrArg Prod.fst he
   have h2:j'=off:=congrArg Prod.snd he
   subst h1 h2
   obtain⟨e1,g1,g2⟩:=cW
   rw[kD] at g1
   injection g1 with g1
   subst g1
   rw[Om] at g2
   injection g2 with g2
   subst g2
   have hl:j'<e0.length:=(List.getElem?_eq_some_iff.1 Om).1
   exact⟨q,⟨_,List.getElem?_set_self (List.getElem?_eq_some_iff.1 kD).1,List.getElem?_set_self hl⟩,A.val,hqL⟩
  ·exact⟨c,adD kD cW he,rfl,hc⟩
theorem PR:∀{as:List aj} {dm:List (Bool×List ah)} {vals:List Value},pj as=some dm->vals.length=as.length->(∀(j:Nat) (x:aj) (v:Value),as[j]? =some x->vals[j]? =some v->RA w G h x v)->
  vals.length=dm.length/\∀(j:Nat) (x:Bool×List ah) (v:Value),dm[j]? =some x->vals[j]? =some v->RV w G h x.1 x.2 v
 |[],dm,vals,hx,hl,hc=>by
  simp only[pj] at hx
  injection hx with hx
  subst hx
  exact⟨hl,by simp⟩
 |y::as,dm,vals,hx,hl,hc=>by
  simp only[pj] at hx
  split at hx
  ·rename_i x xs e1 e2
   injection hx with hx
   subst hx
   match vals,hl with
   |v::vals,hl=>
    obtain⟨i1,i2⟩:=PR e2 (vals:=vals) (by simpa using hl) (fun j x v h1 h2=>hc (j+1) x v h1 h2)
    refine⟨by simp[i1],fun j x' v' hj hv=>?_⟩
    cases j with
    |zero=>
     simp at hj hv
     subst hj hv
     have h0:=hc 0 y v rfl rfl
     cases y with
     |one c=>
      cases c<;>simp[aj.cells?] at e1<;>subst e1<;>exact h0.resolve_left (by simp)
     |agg cs=>
      simp[aj.cells?] at e1
      subst e1
      exact h0
     |bn l=>simp[aj.cells?] at e1
    |succ j=>exact i2 j x' v' (by simpa using hj) (by simpa using hv)
  ·cases hx
theorem sb.gB {it:cM} {md:Mode} {pc:PC} (i:sb B E w G h it md pc):pc.gB=true:=by
 obtain⟨sz,a,cap,xs,rfl,_⟩:=i.ok.dR
 rfl
def Gb (P:Program) (T:aO):Prop:=∀f sig M,aO.rl T.BN f=some (sig,M)->pM P f sig M
theorem ae9 (r:R B E w0 N σ a w G) {T:aO} (hT:Gb P T) {m:Mode} {f:FuncId} {as:List aj} {vals:List Value} {σ1:St} (hN:∀n,o.dst=some n->n<N)
  (bU:(execOp a.eval o).run P w=.ok (.enter f vals.toArray) w) (hl:vals.length=as.length)
  (tY:∀(j:Nat) (x:aj) (v:Value),as[j]? =some x->vals[j]? =some v->RA w G σ.h x v)
  (hx:tJ T m o.dst f as σ=some σ1):o.wp P a w (Nx B E w0 N σ1) Q:=by
 have H:=r.hr
 unfold tJ at hx
 split at hx
 ·rename_i sig M dm hM N4
  split at hx
  ·rename_i gi
   split at hx
   ·rename_i ds its hv
    split at hx
    ·rename_i rs eV oN
     split at hx
     ·rename_i σ2 qg
      split at hx
      ·rename_i ls gI vW
       injection hx with hx
       subst hx
       obtain⟨yo,NU⟩:=PR N4 hl tY
       obtain⟨pas,q1,q2,q3,q4,q5,q6,q7⟩:=H.kO hv yo NU
       have sJ:(its.filterMap (·.1.dA)).Nodup:=by rw[q6];exact gi
       generalize ue:eC sig (pas.map (·.ps))=fl at q5
       have Je:∀(i:Nat) (x:Mode×PC),fl[i]? =some x->∃it,its[i]? =some it/\it.2=x.1/\sb B E w G σ.h it.1 x.1 x.2:=by
        intro i x hi
        have bG:i<its.length:=by rw[q5.len];exact(List.getElem?_eq_some_iff.1 hi).1
        have he:its[i]? =some its[i]:=List.getElem?_eq_getElem bG
        exact⟨_,he,q5.at_ i _ x he hi⟩
       have X4:∀x∈fl,∃it∈its,sb B E w G σ.h it.1 x.1 x.2:=by
        intro x hx
        obtain⟨i,hi⟩:=List.getElem?_of_mem hx
        obtain⟨it,h1,_,h2⟩:=Je i x hi
        exact⟨it,List.mem_of_getElem? h1,h2⟩
       have nh:∀x∈fl,∀b,aS b x.2->∃n gr m sz xs,n∈jV sig dm/\σ.h n=some (.row gr m sz xs)/\m≠ .aD/\rq G n b/\((∀b,¬aV b (G.g n).px)\/m=.live):=by
        intro x hx b hb
        obtain⟨it,h1,h2⟩:=X4 x hx
        obtain⟨n,gr,m,sz,xs,e1,e2,e3,e4,e5⟩:=h2.m8 H hb
        exact⟨n,gr,m,sz,xs,by rw[<-q6];exact List.mem_filterMap.2 ⟨it,h1,e1⟩,e2,e3,e4,e5⟩
       have qd:∀b,Di fl b->(B<=b\/E b):=by
        rintro b ⟨x,hx,hb⟩
        obtain⟨n,gr,m,sz,xs,_,e2,e3,e4,e5⟩:=nh x hx b hb
        rcases e4 with⟨aL,rfl⟩|hF
        ·exact(H.own n (by rw[e2];simp) aL).2.1
        ·have f0:=(H.row n gr m sz xs e2).mode
         cases m with
         |aD=>exact absurd rfl e3
         |ae=>exact(f0.1 b hF).2.2
         |live=>exact(f0.1 b hF).2.2
       have PU:CI w sig ds vals pas:=by
        refine⟨q2,q1,q3,fun x hx=>?_,?_,fun pc aZ x hx b hb aY=>?_,fun p hp hk=>absurd hk (q4 p hp),fun i p s hp _ hk=>absurd hk (q4 p (List.mem_of_getElem? hp))⟩
        ·rw[ue] at hx
         obtain⟨it,_,h2⟩:=X4 x hx
         exact h2.ok
        ·rw[ue,List.pairwise_iff_getElem]
         intro i j hi hj jw b hb aY
         obtain⟨it,h1,_,h2⟩:=Je i _ (List.getElem?_eq_getElem hi)
         obtain⟨yK,jO,_,AP⟩:=Je j _ (List.getElem?_eq_getElem hj)
         obtain⟨n,gr,m,sz,xs,e1,e2,e3,e4,e5⟩:=h2.m8 H hb
         obtain⟨n',bk,m',aJ,aq,H4,sv,e3',Az,AA⟩:=AP.m8 H aY
         have aB:n≠n':=by
          rintro rfl
          have:=Jx sJ h1 jO e1 H4
          omega
         exact H.DB aB e2 sv AA e4 Az
        ·rw[ue] at hx
         obtain⟨n',bk,m',aJ,aq,H4,sv,e3',Az,AA⟩:=nh x hx b aY
         rcases q7 pc aZ b hb with hi|⟨n,gr,m,sz,xs,hn,e2,e4⟩
         ·rcases Az with⟨aL,rfl⟩|hF
          ·exact(H.own n' (by rw[sv];simp) aL).1 hi
          ·rcases AA with AA|rfl
           ·exact AA b hF
           ·exact((H.row n' bk .live aJ aq sv).mode.1 b hF).1 hi
         ·have aB:n≠n':=fun e=>hn (e▸H4)
          exact H.DB aB e2 sv AA e4 Az
       unfold Oper.wp
       rw[bU]
       refine(hT f sig M hM ds rs eV oN w vals pas PU).mono fun e w' ⟨aT,p1,p2,p3,p4,p5,qs,p6,p7,p8⟩=>?_
       subst p2
       rw[ue] at p5 p7 p8
       obtain⟨t1,t2,t3,t4⟩:=aa5 qg sJ
       have Yt:∀n,n∈jV sig dm->∃(i:Nat) (it:cM×Mode) (x:Mode×PC) (q:PC),its[i]? =some it/\fl[i]? =some x/\qs[i]? =some q/\eV[i]? =some q.er/\it.1.dA=some n/\sb B E w G σ.h it.1 x.1 x.2/\tA w' x.1 x.2 q:=by
        intro n hn
        rw[<-q6,List.mem_filterMap] at hn
        obtain⟨it,vZ,f7⟩:=hn
        obtain⟨i,hi⟩:=List.getElem?_of_mem vZ
        have bG:i<fl.length:=by rw[<-q5.len];exact(List.getElem?_eq_some_iff.1 hi).1
        have hx:fl[i]? =some fl[i]:=List.getElem?_eq_getElem bG
        have hq:qs[i]? =some (qs[i]'(by rw[p7];exact bG)):=List.getElem?_eq_getElem _
        exact⟨i,it,_,_,hi,hx,hq,by rw[<-p6,List.getElem?_map,hq];rfl,f7,(q5.at_ i it _ hi hx).2,p8 i _ _ hx hq⟩
       have ahG:∀b,b<w.heap.size->(∀n,n∈jV sig dm->¬rq G n b)->w'.heap[b]? =w.heap[b]? :=by
        intro b hb ca
        refine p5.block b hb ?_
        rintro⟨x,hx,DJ⟩
        obtain⟨n,gr,m,sz,xs,e1,e2,e3,e4,e5⟩:=nh x hx b DJ
        exact ca n e1 e4
       have ahm:∀b,b<w.heap.size->(∀x∈fl,¬aS b x.2)->w'.heap[b]? =w.heap[b]? :=fun b hb ca=>p5.block b hb (by rintro⟨x,hx,DJ⟩;exact ca x hx DJ)
       obtain⟨tx,K,eR⟩:=H.Jw (G':=sF G its qs) (h':=σ2.h) (w':=w') (S:=fun n=>n∈jV sig dm) p5.size ahG (fun b hb=>p5.ie b hb) rfl (fun n hn=>by
        obtain⟨i,it,x,q,hi,Zo,mG,jR,f7,fU,DE⟩:=Yt n hn
        have bQ:=fU.at_
        have Y2:=t4 i it q.er hi jR
        rw[Yl sJ hi mG f7]
        obtain⟨Pm,md⟩:=it
        cases Pm with
        |nil sz=>cases f7
        |row n'=>
         injection f7 with f7
         have f7:n'=n:=f7
         subst f7
         obtain⟨gr,mo,sz,xs,e1,e2,e3,e4,e5⟩:=bQ
         obtain⟨bk,mS,uZ,kA,aq,g1,g2,g3⟩:=Y2
         rw[e1] at g1
         injection g1 with g1
         injection g1 with a1 a2 a3 a4
         subst a1 a2 a3 a4
         rw[e4] at DE
         exact⟨gr,mo,sz,xs,aq,e1,g3,WC H e1 e2 e3 e5 DE g2⟩
        |nest n' k off=>
         injection f7 with f7
         have f7:n'=n:=f7
         subst f7
         obtain⟨gr,sz,xs,e1,e2,e3⟩:=bQ
         obtain⟨bk,mS,uZ,kA,ex,g1,g2,g3⟩:=Y2
         rw[e1] at g1
         injection g1 with g1
         injection g1 with a1 a2 a3 a4
         subst a1 a2 a3 a4
         rw[e2] at DE
         have hr:=H.row n' gr .live sz xs e1
         have bM:σ.h n'≠none:=by rw[e1];simp
         have IY:∀b,rq G n' b->¬aS b x.2->w'.heap[b]? =w.heap[b]? :=by
          intro b hb yr
          have bG:b<w.heap.size:=by
           rcases hb with⟨aL,rfl⟩|hF
           ·exact(H.own n' bM aL).2.2
           ·exact H.qI e1 hF
          refine ahm b bG fun y hy nU=>?_
          obtain⟨j,hj⟩:=List.getElem?_of_mem hy
          by_cases jw:j=i
          ·subst jw
           rw[Zo] at hj
           injection hj with hj
           subst hj
           exact yr nU
          ·obtain⟨yK,jO,_,AP⟩:=Je j y hj
           obtain⟨n2,AM,m2,jZ,ii,f1,f2,f3,f4,f5⟩:=AP.m8 H nU
           have aB:n'≠n2:=by
            rintro rfl
            exact jw (Jx sJ jO hi f1 rfl)
           exact H.DB aB e1 f2 f5 hb f4
         refine⟨gr,.live,sz,xs,_,e1,g3,WB H e1 e3 fU.gB (fun aL=>IY _ (.inl ⟨aL,rfl⟩) fun hb=>?_) (fun k' j' c hk aB b hb=>IY b (.inr ⟨k',j',c,hk,hb⟩) fun DJ=>?_) DE g2⟩
         ·exact H.live n' gr sz xs e1 _ ⟨k,off,x.2,e3,hb⟩ n' bM aL rfl
         ·exact hr.mode.2.2 _ _ _ _ _ _ b hk e3 aB hb DJ) (fun n hn=>⟨t3 n (by rw[q6];exact hn),Ym (by rw[q6];exact hn)⟩)
       have HR2:HR B E w' (sF G its qs) σ2.h σ2.used []:=by rw[t2];exact tx
       have fx:tz B w' (sF G its qs) σ2.h (aT.flatMap (·.2)):=by
        refine⟨p4.eu,fun pc aZ b hb=>?_,?_⟩
        ·obtain⟨n1,n2⟩:=p4.new pc aZ b hb
         refine⟨⟨fun hi=>?_,fun q hq jS he=>?_,fun q gr mo sz xs hq cF=>?_⟩,n2,Nat.le_trans r.fr.size n1⟩
         ·have:=H.fW b hi;omega
         ·obtain⟨k0,k1,k2,_⟩:=K.name q (tx.iG q hq) hq
          have:=(H.own q k0 (k1.symm.trans jS)).2.2
          rw[<-k2] at this
          omega
         ·have aY:=eR q b cF
          have Bk:=tx.iG q (by rw[hq];simp)
          obtain⟨k0,_⟩:=K.name q Bk (by rw[hq];simp)
          cases hh:σ.h q with
          |none=>exact absurd hh k0
          |some blk=>
           cases blk with
           |box cs=>
            have:q∉jV sig dm:=by
             intro hm
             obtain⟨i,it,x,q',hi,Zo,mG,jR,f7,fU,DE⟩:=Yt q hm
             have bQ:=fU.at_
             obtain⟨Pm,md⟩:=it
             cases Pm with
             |nil sz=>cases f7
             |row n'=>
              injection f7 with f7
              have f7:n'=q:=f7
              subst f7
              obtain⟨gr,mo,sz,xs,e1,_⟩:=bQ
              rw[hh] at e1;cases e1
             |nest n' k off=>
              injection f7 with f7
              have f7:n'=q:=f7
              subst f7
              obtain⟨gr,sz,xs,e1,_⟩:=bQ
              rw[hh] at e1;cases e1
            have h3:=t3 q (by rw[q6];exact this)
            rw[h3,hh] at hq
            cases hq
           |row bk m' aJ aq=>have:=H.qI hh aY;omega
        ·rw[List.pairwise_iff_getElem]
         intro i j hi hj jw b hb
         exact p4.m7 i j _ _ b (by omega) (List.getElem?_eq_getElem hi) (List.getElem?_eq_getElem hj) hb
       rw[<-p1] at vW
       obtain⟨G',b1,b2,b3,b4,b5,b6,b7⟩:=HR.jC HR2 vW p3 fx
       have uf:Fr B E w0 w':=by
        refine⟨p5.os.trans r.fr.os,p5.tape.trans r.fr.tape,p5.output.trans r.fr.output,Nat.le_trans r.fr.size p5.size,fun b hb he=>?_,fun b hb=>?_⟩
        ·refine(p5.block b (Nat.lt_of_lt_of_le hb r.fr.size) fun hx=>?_).trans (r.fr.block b hb he)
         rcases qd b hx with h1|h1
         ·omega
         ·exact he h1
        ·exact(r.fr.ie b hb).trans (p5.ie b (Nat.lt_of_lt_of_le hb r.fr.size))
       have K2:bc w G σ.h (fun n=>σ.used n=true) w' G' gI.h:=bc.trans (fun n hn=>by rw[t2];exact hn) K b2
       have r2:R B E w0 N gI a w' G':=r.step (b6.trans t1) (fun q hq=>b7 q (by rw[t2];exact hq)) K2 b1 uf
       refine⟨G',r2.put (RA.kQ b3 p3 b4) ?_ hN⟩
       intro q hq
       match ls,hq with
       |[],hq=>obtain⟨x,hx,_⟩:=hq;simp at hx
       |[(true,cs)],hq=>obtain⟨c,hc,hq⟩:=hq;exact b5 (true,cs) (by simp) c hc q hq
       |[(false,[c])],hq=>exact b5 (false,[c]) (by simp) c (by simp) q hq
       |[(false,[])],hq=>exact absurd hq id
       |[(false,_::_::_)],hq=>exact absurd hq id
       |x::y::ls,hq=>obtain⟨x',fM,c,hc,hq⟩:=hq;exact b5 x' fM c hc q hq
      ·cases hx
     ·cases hx
    ·cases hx
   ·cases hx
  ·cases hx
 ·cases hx
theorem ae1 (r:R B E w0 N σ a w G) {T:aO} (hT:Gb P T) {m:Mode} {f:FuncId} {xs:Array Operand} {ms:List MO} {ts:Array TypeId} {σ1:St} (hN:∀n,o.dst=some n->n<N)
  (ho:o.op=.call {callee:=.value (.func f),args:=xs,argTypes:=ts}) (hf:bC P f=true) (hm:gw xs.toList ms=true)
  (hx:tJ T m o.dst f (ms.map σ.ev) σ=some σ1):o.wp P a w (Nx B E w0 N σ1) Q:=by
 obtain⟨e1,e2⟩:=r.xW hm
 refine ae9 r hT (vals:=xs.toList.map a.eval) hN ?_ (by simpa using e1) e2 hx
 have he:(xs.toList.map a.eval).toArray=xs.map a.eval:=by apply Array.ext';simp
 rw[he]
 simp[execOp,ho,resolve,Deferred.ofValue,invoke,Act.eval,zd hf]
end
end Go.Am
