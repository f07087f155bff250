/- AmO: calls that change lists of their arguments. No condition. -/
import Derived.Test.YtbgmbplglejidaaAmN
set_option linter.unusedVariables false
namespace Go.Am
section
variable {B:Nat} {E:Ex} {w0 w w':World} {G G':Gh} {N:Nat} {h h':Nat->Option ao} {used:Nat->Bool}
variable {P:Program} {o:Oper} {a:Act} {σ σ':St} {Q:Exit->Act->World->Prop}
def wY (p:PB):cR->PC->PB
 |.row _,.list _ _ _ px=>{p with px:=px}
 |.nest _ k off,q=>{p with px:=p.px.set k ((p.px.getD k []).set off q)}
 |_,_=>p
open Classical in
noncomputable def td (G:Gh) (its:List (cR×Mode)) (qs:List PC):Gh:=
 ⟨G.Im,fun n=>if h:∃p:(cR×Mode)×PC,∃i:Nat,its[i]? =some p.1/\qs[i]? =some p.2/\p.1.1.dF=some n then wY (G.g n) h.choose.1.1 h.choose.2 else G.g n⟩
theorem Y6 {its:List (cR×Mode)} {qs:List PC} (gz:(its.filterMap (·.1.dF)).Nodup) {i n:Nat} {it:cR×Mode} {q:PC} (hi:its[i]? =some it) (hq:qs[i]? =some q) (hn:it.1.dF=some n):
  (td G its qs).g n=wY (G.g n) it.1 q:=by
 have qN:∃p:(cR×Mode)×PC,∃i:Nat,its[i]? =some p.1/\qs[i]? =some p.2/\p.1.1.dF=some n:=⟨(it,q),i,hi,hq,hn⟩
 unfold td
 simp only
 rw[dif_pos qN]
 obtain⟨j,h1,h2,h3⟩:=qN.choose_spec
 have jG:=Kn gz h1 hi h3 hn
 subst jG
 rw[hi] at h1
 rw[hq] at h2
 injection h1 with h1
 injection h2 with h2
 rw[<-h1,<-h2]
theorem Y7 {its:List (cR×Mode)} {qs:List PC} {n:Nat} (hn:n∉its.filterMap (·.1.dF)):(td G its qs).g n=G.g n:=by
 unfold td
 simp only
 rw[dif_neg]
 rintro⟨p,i,h1,h2,h3⟩
 exact hn (List.mem_filterMap.2 ⟨p.1,List.mem_of_getElem? h1,h3⟩)
theorem PC.QA {pc q:PC} (hv:q.val=pc.val) (hL:pc.gL=true):∃sz a cap xs,q=.list sz a cap xs:=by
 cases pc with
 |int k n=>cases hL
 |bool b=>cases hL
 |list sz a cap xs=>
  cases q with
  |int k n=>cases hv
  |bool b=>cases hv
  |list sz a cap xs=>exact⟨_,_,_,_,rfl⟩
theorem YN {px:List (List PC)} (hs:ga (px.map fun e=>e.map PC.er)=true) {k j:Nat} {c:PC} (hk:At px k j c):c.gL=false:=by
 obtain⟨e,he,hj⟩:=hk
 have h6:=List.all_eq_true.1 hs (e.map PC.er) (by simp only[List.mem_map];exact⟨e,List.mem_of_getElem? he,rfl⟩)
 have h7:=List.all_eq_true.1 h6 c.er (by simp only[List.mem_map];exact⟨c,List.mem_of_getElem? hj,rfl⟩)
 cases hL:c.gL with
 |false=>rfl
 |true=>rw[PC.aau hL] at h7;cases h7
theorem YM {px:List (List PC)} (hs:ga (px.map fun e=>e.map PC.er)=true) (b:Nat):¬aX b px:=by
 rintro⟨k,j,c,⟨e,he,hj⟩,hc⟩
 have h6:=List.all_eq_true.1 hs (e.map PC.er) (by simp only[List.mem_map];exact⟨e,List.mem_of_getElem? he,rfl⟩)
 have h7:=List.all_eq_true.1 h6 c.er (by simp only[List.mem_map];exact⟨c,List.mem_of_getElem? hj,rfl⟩)
 exact(Sep.lF h7).2 b hc
theorem Xo (H:HR B E w G h used []) {n:Nat} {gr:Bool} {m md:Mode} {sz:Nat} {xs:List (List C)} (hn:h n=some (.row gr m sz xs)) (hm:m≠ .aF) (tg:md=.live->m=.live) (jF:s8 md xs=true)
  {q:PC} (A:tS w' md (n3 sz (G.g n)) q) {k:Nat} {aq:List (List C)} (hq:q.er=.list k aq):Gm w' (G.g n) (wY (G.g n) (.row n) q) gr m sz aq:=by
 have hr:=H.row n gr m sz xs hn
 have bP:h n≠none:=by rw[hn];simp
 obtain⟨aJ,a',sU,px',rfl⟩:=PC.QA A.val rfl
 obtain⟨rfl,ha,rfl,hlen,hl⟩:=A.live _ _ _ _ _ _ _ _ rfl rfl
 rw[PC.dO] at hq
 injection hq with _ hq
 have ky:=A.sep
 have dR:(∀k j c,At px' k j c->Sep c)/\(∀b o k j c,a'=some (ad b o)->At px' k j c->¬aT b c)/\iy px':=by
  cases ky with
  |list _ _ _ _ h1 h2 h3=>exact⟨h1,h2,h1,h3⟩
 have sd:∀b,aX b px'->(G.g n).nl=false->b≠(G.g n).b:=by
  rintro b ⟨k,j,c,hk,hc⟩ aL rfl
  refine dR.2.1 (G.g n).b (G.g n).o k j c ?_ hk hc
  rw[ha,if_neg (by simp[aL])]
 have jh:md=.ab->ga xs=true:=by rintro rfl;exact jF
 refine⟨hm,?_,rfl,rfl,rfl,rfl,rfl,hq.symm,fun aL=>?_,fun aL=>?_,dR.2.2,fun b hb=>?_,fun c6 k j pc hk hL=>?_⟩
 ·cases md with
  |aF=>cases jF
  |live=>exact .inr (tg rfl)
  |ab=>exact .inl (YM (by rw[<-hr.er];exact jh rfl))
 ·have:=(hr.nl aL).1
  rw[this] at hlen
  exact List.eq_nil_of_length_eq_zero hlen
 ·refine⟨?_,?_⟩
  ·have hg:=A.eA
   rw[ha,if_neg (by simp[aL])] at hg
   by_cases h0:px'=[]
   ·show pg w' _ _ _ px'
    rw[h0]
    exact⟨by simp,by rintro k j c ⟨e,he,_⟩;simp at he,by rintro k j c ⟨e,he,_⟩;simp at he⟩
   ·generalize j0:PC.list aJ (some (ad (G.g n).b (G.g n).o)) (G.g n).cap px'=q2 at hg
    cases hg with
    |int k n=>cases j0
    |bool b=>cases j0
    |nil _ _ _ _=>injection j0 with _ _ _ e4;exact absurd e4 h0
    |cons _ _ _ _ _ h1 h2 h3 h4 h5 h6=>
     injection j0 with e1 e2 e3 e4
     injection e2 with e2
     obtain⟨e5,e6⟩:=nD e2
     subst e1 e3 e4
     rw[e5,e6]
     exact⟨h4,h5,h6⟩
  ·show px'.length<=_
   rw[hlen]
   exact(hr.dV aL).2.2
 ·have fT:aT b (n3 aJ (G.g n)):=A.sub b (by
   obtain⟨k,j,c,hk,hc⟩:=hb
   exact .there _ _ _ _ k j c hk hc)
  rcases SF (fun hq=>(hr.nl hq).1) fT with⟨aL,he⟩|hF
  ·exact absurd he (sd b hb aL)
  ·exact hF
 ·cases md with
  |aF=>cases jF
  |live=>exact hl rfl k j pc hk hL
  |ab=>
   have:=YN (px:=(G.g n).px) (by rw[<-hr.er];exact jh rfl) hk
   rw[hL] at this;cases this
theorem xW {α:Type} {px:List (List α)} {k off k' j':Nat} {e:List α} {q c:α} (he:px[k]? =some e) (h:At (px.set k (e.set off q)) k' j' c):(k'=k/\j'=off/\c=q)\/(At px k' j' c/\(k',j')≠(k,off)):=by
 have hk:=(List.getElem?_eq_some_iff.1 he).1
 rcases Ie hk h with⟨rfl,h1⟩|⟨aC,h1⟩
 ·by_cases hj:j'=off
  ·subst hj
   have hl:j'<e.length:=by have:=(List.getElem?_eq_some_iff.1 h1).1;simpa using this
   rw[List.getElem?_set_self hl] at h1
   injection h1 with h1
   exact .inl ⟨rfl,rfl,h1.symm⟩
  ·rw[List.getElem?_set_ne (Ne.symm hj)] at h1
   exact .inr ⟨⟨e,he,h1⟩,fun e=>hj (congrArg Prod.snd e)⟩
 ·exact .inr ⟨h1,fun e=>aC (congrArg Prod.fst e)⟩
theorem aes {α:Type} {px:List (List α)} {k off k' j':Nat} {e:List α} {q c:α} (he:px[k]? =some e) (h:At px k' j' c) (aC:(k',j')≠(k,off)):At (px.set k (e.set off q)) k' j' c:=by
 obtain⟨e',h1,h2⟩:=h
 by_cases hk:k'=k
 ·subst hk
  rw[he] at h1
  injection h1 with h1
  subst h1
  have hj:j'≠off:=fun e=>aC (by rw[e])
  exact⟨_,List.getElem?_set_self (List.getElem?_eq_some_iff.1 he).1,by rw[List.getElem?_set_ne (Ne.symm hj)];exact h2⟩
 ·exact⟨e',by rw[List.getElem?_set_ne (Ne.symm hk)];exact h1,h2⟩
theorem Xn (H:HR B E w G h used []) {n k off:Nat} {gr:Bool} {sz:Nat} {xs:List (List C)} (hn:h n=some (.row gr .live sz xs)) {pc:PC} (bU:At (G.g n).px k off pc) (hL:pc.gL=true)
  (sd:(G.g n).nl=false->w'.heap[(G.g n).b]? =w.heap[(G.g n).b]?) (PJ:∀k' j' c,At (G.g n).px k' j' c->(k',j')≠(k,off)->∀b,aT b c->w'.heap[b]? =w.heap[b]?)
  {q:PC} (A:tS w' .ab pc q) {ex:List C} (qN:xs[k]? =some ex):Gm w' (G.g n) (wY (G.g n) (.nest n k off) q) gr .live sz (xs.set k (ex.set off q.er)):=by
 have hr:=H.row n gr .live sz xs hn
 obtain⟨e0,lg,Pj⟩:=bU
 have nN:(G.g n).px.getD k []=e0:=by simp[List.getD_eq_getElem?_getD,lg]
 have fL:(wY (G.g n) (.nest n k off) q).px=(G.g n).px.set k (e0.set off q):=by simp only[wY,nN]
 have ahP:ex=e0.map PC.er:=by
  rw[hr.er,List.getElem?_map,lg] at qN
  simpa using qN.symm
 have bU:At (G.g n).px k off pc:=⟨e0,lg,Pj⟩
 have hqL:q.gL=true:=by
  obtain⟨sz,a,cap,xs,rfl⟩:=PC.QA A.val hL
  rfl
 have aL:(G.g n).nl=false:=by
  cases hq:(G.g n).nl with
  |false=>rfl
  |true=>rw[(hr.nl hq).1] at lg;simp at lg
 obtain⟨l1,l2,l3⟩:=hr.dV aL
 refine⟨by simp,.inr rfl,rfl,rfl,rfl,rfl,rfl,?_,fun h=>?_,fun _=>?_,?_,fun b hb=>?_,fun _ k' j' c cO hc=>?_⟩
 ·rw[fL,hr.er,ahP,List.map_set,List.map_set]
 ·rw[aL] at h;cases h
 ·rw[fL]
  refine⟨⟨fun e he=>?_,fun k' j' c cO=>?_,fun k' j' c cO=>?_⟩,by rw[List.length_set];exact l3⟩
  ·rcases List.mem_or_eq_of_mem_set he with he|rfl
   ·exact l2.1 e he
   ·rw[List.length_set];exact l2.1 e0 (List.mem_of_getElem? lg)
  ·rw[iJ (sd aL)]
   rcases xW lg cO with⟨rfl,rfl,rfl⟩|⟨h1,_⟩
   ·rw[A.val];exact l2.2.1 _ _ _ bU
   ·exact l2.2.1 _ _ _ h1
  ·rcases xW lg cO with⟨rfl,rfl,rfl⟩|⟨h1,h2⟩
   ·exact A.eA
   ·exact(l2.2.2 _ _ _ h1).congr fun b hb o=>iJ (PJ k' j' c h1 h2 b hb) o
 ·rw[fL]
  refine⟨fun k' j' c cO=>?_,fun k1 j1 c1 k2 j2 c2 b h1 h2 aC hb aY=>?_⟩
  ·rcases xW lg cO with⟨rfl,rfl,rfl⟩|⟨h1,h2⟩
   ·exact A.sep
   ·exact hr.mode.2.1 _ _ _ h1
  ·rcases xW lg h1 with⟨rfl,rfl,rfl⟩|⟨g1,n1⟩
   ·rcases xW lg h2 with⟨rfl,rfl,rfl⟩|⟨g2,n2⟩
    ·exact aC rfl
    ·exact hr.mode.2.2 _ _ _ _ _ _ b bU g2 aC (A.sub b hb) aY
   ·rcases xW lg h2 with⟨rfl,rfl,rfl⟩|⟨g2,n2⟩
    ·exact hr.mode.2.2 _ _ _ _ _ _ b g1 bU aC hb (A.sub b aY)
    ·exact hr.mode.2.2 _ _ _ _ _ _ b g1 g2 aC hb aY
 ·rw[fL] at hb
  obtain⟨k',j',c,cO,hc⟩:=hb
  rcases xW lg cO with⟨rfl,rfl,rfl⟩|⟨h1,h2⟩
  ·exact⟨_,_,_,bU,A.sub b hc⟩
  ·exact⟨_,_,_,h1,hc⟩
 ·rw[fL]
  by_cases he:(k',j')=(k,off)
  ·have h1:k'=k:=congrArg Prod.fst he
   have h2:j'=off:=congrArg Prod.snd he
   subst h1 h2
   obtain⟨e1,g1,g2⟩:=cO
   rw[lg] at g1
   injection g1 with g1
   subst g1
   rw[Pj] at g2
   injection g2 with g2
   subst g2
   have hl:j'<e0.length:=(List.getElem?_eq_some_iff.1 Pj).1
   exact⟨q,⟨_,List.getElem?_set_self (List.getElem?_eq_some_iff.1 lg).1,List.getElem?_set_self hl⟩,A.val,hqL⟩
  ·exact⟨c,aes lg cO he,rfl,hc⟩
theorem QJ:∀{as:List aj} {dz:List (Bool×List ah)} {vals:List Value},pR as=some dz->vals.length=as.length->(∀(j:Nat) (x:aj) (v:Value),as[j]? =some x->vals[j]? =some v->RA w G h x v)->
  vals.length=dz.length/\∀(j:Nat) (x:Bool×List ah) (v:Value),dz[j]? =some x->vals[j]? =some v->RV w G h x.1 x.2 v
 |[],dz,vals,hx,hl,hc=>by
  simp only[pR] at hx
  injection hx with hx
  subst hx
  exact⟨hl,by simp⟩
 |y::as,dz,vals,hx,hl,hc=>by
  simp only[pR] at hx
  split at hx
  ·rename_i x xs e1 e2
   injection hx with hx
   subst hx
   match vals,hl with
   |v::vals,hl=>
    obtain⟨i1,i2⟩:=QJ e2 (vals:=vals) (by simpa using hl) (fun j x v h1 h2=>hc (j+1) x v h1 h2)
    refine⟨by simp[i1],fun j x' v' hj hv=>?_⟩
    cases j with
    |zero=>
     simp at hj hv
     subst hj hv
     have h0:=hc 0 y v rfl rfl
     cases y with
     |one c=>
      cases c<;>simp[aj.cells?] at e1<;>subst e1<;>exact h0.resolve_left (by simp)
     |agg cs=>
      simp[aj.cells?] at e1
      subst e1
      exact h0
     |bq l=>simp[aj.cells?] at e1
    |succ j=>exact i2 j x' v' (by simpa using hj) (by simpa using hv)
  ·cases hx
theorem sM.gL {it:cR} {md:Mode} {pc:PC} (i:sM B E w G h it md pc):pc.gL=true:=by
 obtain⟨sz,a,cap,xs,rfl,_⟩:=i.ok.dV
 rfl
def GW (P:Program) (T:aO):Prop:=∀f sig M,aO.rT T.Ci f=some (sig,M)->qp P f sig M
theorem afV (r:R B E w0 N σ a w G) {T:aO} (hT:GW P T) {m:Mode} {f:FuncId} {as:List aj} {vals:List Value} {σ1:St} (hN:∀n,o.dst=some n->n<N)
  (bX:(execOp a.eval o).run P w=.ok (.enter f vals.toArray) w) (hl:vals.length=as.length)
  (uu:∀(j:Nat) (x:aj) (v:Value),as[j]? =some x->vals[j]? =some v->RA w G σ.h x v)
  (hx:ud T m o.dst f as σ=some σ1):o.wp P a w (Nx B E w0 N σ1) Q:=by
 have H:=r.hr
 unfold ud at hx
 split at hx
 ·rename_i sig M dz hM OX
  split at hx
  ·rename_i gz
   split at hx
   ·rename_i ds its hv
    split at hx
    ·rename_i rs eZ pB
     split at hx
     ·rename_i σ2 qQ
      split at hx
      ·rename_i ls gW wm
       injection hx with hx
       subst hx
       obtain⟨yI,ON⟩:=QJ OX hl uu
       obtain⟨pas,q1,q2,q3,q4,q5,q6,q7⟩:=H.lE hv yI ON
       have th:(its.filterMap (·.1.dF)).Nodup:=by rw[q6];exact gz
       generalize uD:eI sig (pas.map (·.ps))=fl at q5
       have JX:∀(i:Nat) (x:Mode×PC),fl[i]? =some x->∃it,its[i]? =some it/\it.2=x.1/\sM B E w G σ.h it.1 x.1 x.2:=by
        intro i x hi
        have bH:i<its.length:=by rw[q5.len];exact(List.getElem?_eq_some_iff.1 hi).1
        have he:its[i]? =some its[i]:=List.getElem?_eq_getElem bH
        exact⟨_,he,q5.at_ i _ x he hi⟩
       have YP:∀x∈fl,∃it∈its,sM B E w G σ.h it.1 x.1 x.2:=by
        intro x hx
        obtain⟨i,hi⟩:=List.getElem?_of_mem hx
        obtain⟨it,h1,_,h2⟩:=JX i x hi
        exact⟨it,List.mem_of_getElem? h1,h2⟩
       have nM:∀x∈fl,∀b,aT b x.2->∃n gr m sz xs,n∈kf sig dz/\σ.h n=some (.row gr m sz xs)/\m≠ .aF/\rZ G n b/\((∀b,¬aX b (G.g n).px)\/m=.live):=by
        intro x hx b hb
        obtain⟨it,h1,h2⟩:=YP x hx
        obtain⟨n,gr,m,sz,xs,e1,e2,e3,e4,e5⟩:=h2.nG H hb
        exact⟨n,gr,m,sz,xs,by rw[<-q6];exact List.mem_filterMap.2 ⟨it,h1,e1⟩,e2,e3,e4,e5⟩
       have qN:∀b,DX fl b->(B<=b\/E b):=by
        rintro b ⟨x,hx,hb⟩
        obtain⟨n,gr,m,sz,xs,_,e2,e3,e4,e5⟩:=nM x hx b hb
        rcases e4 with⟨aL,rfl⟩|hF
        ·exact(H.own n (by rw[e2];simp) aL).2.1
        ·have gf:=(H.row n gr m sz xs e2).mode
         cases m with
         |aF=>exact absurd rfl e3
         |ab=>exact(gf.1 b hF).2.2
         |live=>exact(gf.1 b hF).2.2
       have QN:Df w sig ds vals pas:=by
        refine⟨q2,q1,q3,fun x hx=>?_,?_,fun pc aU x hx b hb aY=>?_,fun p hp hk=>absurd hk (q4 p hp),fun i p s hp _ hk=>absurd hk (q4 p (List.mem_of_getElem? hp))⟩
        ·rw[uD] at hx
         obtain⟨it,_,h2⟩:=YP x hx
         exact h2.ok
        ·rw[uD,List.pairwise_iff_getElem]
         intro i j hi hj jG b hb aY
         obtain⟨it,h1,_,h2⟩:=JX i _ (List.getElem?_eq_getElem hi)
         obtain⟨y6,jW,_,Bl⟩:=JX j _ (List.getElem?_eq_getElem hj)
         obtain⟨n,gr,m,sz,xs,e1,e2,e3,e4,e5⟩:=h2.nG H hb
         obtain⟨n',bm,m',aJ,aq,IJ,sZ,e3',A7,A8⟩:=Bl.nG H aY
         have aC:n≠n':=by
          rintro rfl
          have:=Kn th h1 jW e1 IJ
          omega
         exact H.Ee aC e2 sZ A8 e4 A7
        ·rw[uD] at hx
         obtain⟨n',bm,m',aJ,aq,IJ,sZ,e3',A7,A8⟩:=nM x hx b aY
         rcases q7 pc aU b hb with hi|⟨n,gr,m,sz,xs,hn,e2,e4⟩
         ·rcases A7 with⟨aL,rfl⟩|hF
          ·exact(H.own n' (by rw[sZ];simp) aL).1 hi
          ·rcases A8 with A8|rfl
           ·exact A8 b hF
           ·exact((H.row n' bm .live aJ aq sZ).mode.1 b hF).1 hi
         ·have aC:n≠n':=fun e=>hn (e▸IJ)
          exact H.Ee aC e2 sZ A8 e4 A7
       unfold Oper.wp
       rw[bX]
       refine(hT f sig M hM ds rs eZ pB w vals pas QN).mono fun e w' ⟨aW,p1,p2,p3,p4,p5,qs,p6,p7,p8⟩=>?_
       subst p2
       rw[uD] at p5 p7 p8
       obtain⟨t1,t2,t3,t4⟩:=abN qQ th
       have Ze:∀n,n∈kf sig dz->∃(i:Nat) (it:cR×Mode) (x:Mode×PC) (q:PC),its[i]? =some it/\fl[i]? =some x/\qs[i]? =some q/\eZ[i]? =some q.er/\it.1.dF=some n/\sM B E w G σ.h it.1 x.1 x.2/\tS w' x.1 x.2 q:=by
        intro n hn
        rw[<-q6,List.mem_filterMap] at hn
        obtain⟨it,wu,gh⟩:=hn
        obtain⟨i,hi⟩:=List.getElem?_of_mem wu
        have bH:i<fl.length:=by rw[<-q5.len];exact(List.getElem?_eq_some_iff.1 hi).1
        have hx:fl[i]? =some fl[i]:=List.getElem?_eq_getElem bH
        have hq:qs[i]? =some (qs[i]'(by rw[p7];exact bH)):=List.getElem?_eq_getElem _
        exact⟨i,it,_,_,hi,hx,hq,by rw[<-p6,List.getElem?_map,hq];rfl,gh,(q5.at_ i it _ hi hx).2,p8 i _ _ hx hq⟩
       have aip:∀b,b<w.heap.size->(∀n,n∈kf sig dz->¬rZ G n b)->w'.heap[b]? =w.heap[b]? :=by
        intro b hb cf
        refine p5.block b hb ?_
        rintro⟨x,hx,Em⟩
        obtain⟨n,gr,m,sz,xs,e1,e2,e3,e4,e5⟩:=nM x hx b Em
        exact cf n e1 e4
       have ah4:∀b,b<w.heap.size->(∀x∈fl,¬aT b x.2)->w'.heap[b]? =w.heap[b]? :=fun b hb cf=>p5.block b hb (by rintro⟨x,hx,Em⟩;exact cf x hx Em)
       obtain⟨tQ,K,eX⟩:=H.Km (G':=td G its qs) (h':=σ2.h) (w':=w') (S:=fun n=>n∈kf sig dz) p5.size aip (fun b hb=>p5.iu b hb) rfl (fun n hn=>by
        obtain⟨i,it,x,q,hi,Z9,m6,jZ,gh,fU,Ei⟩:=Ze n hn
        have bU:=fU.at_
        have ZN:=t4 i it q.er hi jZ
        rw[Y6 th hi m6 gh]
        obtain⟨Qh,md⟩:=it
        cases Qh with
        |nil sz=>cases gh
        |row n'=>
         injection gh with gh
         have gh:n'=n:=gh
         subst gh
         obtain⟨gr,mo,sz,xs,e1,e2,e3,e4,e5⟩:=bU
         obtain⟨bm,np,vi,kR,aq,g1,g2,g3⟩:=ZN
         rw[e1] at g1
         injection g1 with g1
         injection g1 with a1 a2 a3 a4
         subst a1 a2 a3 a4
         rw[e4] at Ei
         exact⟨gr,mo,sz,xs,aq,e1,g3,Xo H e1 e2 e3 e5 Ei g2⟩
        |nest n' k off=>
         injection gh with gh
         have gh:n'=n:=gh
         subst gh
         obtain⟨gr,sz,xs,e1,e2,e3⟩:=bU
         obtain⟨bm,np,vi,kR,ex,g1,g2,g3⟩:=ZN
         rw[e1] at g1
         injection g1 with g1
         injection g1 with a1 a2 a3 a4
         subst a1 a2 a3 a4
         rw[e2] at Ei
         have hr:=H.row n' gr .live sz xs e1
         have bP:σ.h n'≠none:=by rw[e1];simp
         have JE:∀b,rZ G n' b->¬aT b x.2->w'.heap[b]? =w.heap[b]? :=by
          intro b hb yL
          have bH:b<w.heap.size:=by
           rcases hb with⟨aL,rfl⟩|hF
           ·exact(H.own n' bP aL).2.2
           ·exact H.rq e1 hF
          refine ah4 b bH fun y hy oB=>?_
          obtain⟨j,hj⟩:=List.getElem?_of_mem hy
          by_cases jG:j=i
          ·subst jG
           rw[Z9] at hj
           injection hj with hj
           subst hj
           exact yL oB
          ·obtain⟨y6,jW,_,Bl⟩:=JX j y hj
           obtain⟨n2,Bk,m2,ko,iw,f1,f2,f3,f4,f5⟩:=Bl.nG H oB
           have aC:n'≠n2:=by
            rintro rfl
            exact jG (Kn th jW hi f1 rfl)
           exact H.Ee aC e1 f2 f5 hb f4
         refine⟨gr,.live,sz,xs,_,e1,g3,Xn H e1 e3 fU.gL (fun aL=>JE _ (.inl ⟨aL,rfl⟩) fun hb=>?_) (fun k' j' c hk aC b hb=>JE b (.inr ⟨k',j',c,hk,hb⟩) fun Em=>?_) Ei g2⟩
         ·exact H.live n' gr sz xs e1 _ ⟨k,off,x.2,e3,hb⟩ n' bP aL rfl
         ·exact hr.mode.2.2 _ _ _ _ _ _ b hk e3 aC hb Em) (fun n hn=>⟨t3 n (by rw[q6];exact hn),Y7 (by rw[q6];exact hn)⟩)
       have HR2:HR B E w' (td G its qs) σ2.h σ2.used []:=by rw[t2];exact tQ
       have fT:tR B w' (td G its qs) σ2.h (aW.flatMap (·.2)):=by
        refine⟨p4.eA,fun pc aU b hb=>?_,?_⟩
        ·obtain⟨n1,n2⟩:=p4.new pc aU b hb
         refine⟨⟨fun hi=>?_,fun q hq j0 he=>?_,fun q gr mo sz xs hq cH=>?_⟩,n2,Nat.le_trans r.fr.size n1⟩
         ·have:=H.fW b hi;omega
         ·obtain⟨k0,k1,k2,_⟩:=K.name q (tQ.iK q hq) hq
          have:=(H.own q k0 (k1.symm.trans j0)).2.2
          rw[<-k2] at this
          omega
         ·have aY:=eX q b cH
          have BM:=tQ.iK q (by rw[hq];simp)
          obtain⟨k0,_⟩:=K.name q BM (by rw[hq];simp)
          cases hh:σ.h q with
          |none=>exact absurd hh k0
          |some blk=>
           cases blk with
           |box cs=>
            have:q∉kf sig dz:=by
             intro hm
             obtain⟨i,it,x,q',hi,Z9,m6,jZ,gh,fU,Ei⟩:=Ze q hm
             have bU:=fU.at_
             obtain⟨Qh,md⟩:=it
             cases Qh with
             |nil sz=>cases gh
             |row n'=>
              injection gh with gh
              have gh:n'=q:=gh
              subst gh
              obtain⟨gr,mo,sz,xs,e1,_⟩:=bU
              rw[hh] at e1;cases e1
             |nest n' k off=>
              injection gh with gh
              have gh:n'=q:=gh
              subst gh
              obtain⟨gr,sz,xs,e1,_⟩:=bU
              rw[hh] at e1;cases e1
            have h3:=t3 q (by rw[q6];exact this)
            rw[h3,hh] at hq
            cases hq
           |row bm m' aJ aq=>have:=H.rq hh aY;omega
        ·rw[List.pairwise_iff_getElem]
         intro i j hi hj jG b hb
         exact p4.nF i j _ _ b (by omega) (List.getElem?_eq_getElem hi) (List.getElem?_eq_getElem hj) hb
       rw[<-p1] at wm
       obtain⟨G',b1,b2,b3,b4,b5,b6,b7⟩:=HR.jK HR2 wm p3 fT
       have uE:Fr B E w0 w':=by
        refine⟨p5.os.trans r.fr.os,p5.tape.trans r.fr.tape,p5.output.trans r.fr.output,Nat.le_trans r.fr.size p5.size,fun b hb he=>?_,fun b hb=>?_⟩
        ·refine(p5.block b (Nat.lt_of_lt_of_le hb r.fr.size) fun hx=>?_).trans (r.fr.block b hb he)
         rcases qN b hx with h1|h1
         ·omega
         ·exact he h1
        ·exact(r.fr.iu b hb).trans (p5.iu b (Nat.lt_of_lt_of_le hb r.fr.size))
       have K2:bf w G σ.h (fun n=>σ.used n=true) w' G' gW.h:=bf.trans (fun n hn=>by rw[t2];exact hn) K b2
       have r2:R B E w0 N gW a w' G':=r.step (b6.trans t1) (fun q hq=>b7 q (by rw[t2];exact hq)) K2 b1 uE
       refine⟨G',r2.put (RA.lH b3 p3 b4) ?_ hN⟩
       intro q hq
       match ls,hq with
       |[],hq=>obtain⟨x,hx,_⟩:=hq;simp at hx
       |[(true,cs)],hq=>obtain⟨c,hc,hq⟩:=hq;exact b5 (true,cs) (by simp) c hc q hq
       |[(false,[c])],hq=>exact b5 (false,[c]) (by simp) c (by simp) q hq
       |[(false,[])],hq=>exact absurd hq id
       |[(false,_::_::_)],hq=>exact absurd hq id
       |x::y::ls,hq=>obtain⟨x',fM,c,hc,hq⟩:=hq;exact b5 x' fM c hc q hq
      ·cases hx
     ·cases hx
    ·cases hx
   ·cases hx
  ·cases hx
 ·cases hx
theorem afN (r:R B E w0 N σ a w G) {T:aO} (hT:GW P T) {m:Mode} {f:FuncId} {xs:Array Operand} {ms:List MO} {ts:Array TypeId} {σ1:St} (hN:∀n,o.dst=some n->n<N)
  (ho:o.op=.call {callee:=.value (.func f),args:=xs,argTypes:=ts}) (hf:bD P f=true) (hm:gG xs.toList ms=true)
  (hx:ud T m o.dst f (ms.map σ.ev) σ=some σ1):o.wp P a w (Nx B E w0 N σ1) Q:=by
 obtain⟨e1,e2⟩:=r.yg hm
 refine afV r hT (vals:=xs.toList.map a.eval) hN ?_ (by simpa using e1) e2 hx
 have he:(xs.toList.map a.eval).toArray=xs.map a.eval:=by apply Array.ext';simp
 rw[he]
 simp[execOp,ho,resolve,Deferred.ofValue,invoke,Act.eval,zD hf]
end
end Go.Am
