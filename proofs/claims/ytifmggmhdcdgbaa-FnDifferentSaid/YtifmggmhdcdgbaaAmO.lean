/- AmO: calls that change lists of their arguments. No condition. -/
import Derived.Test.YtifmggmhdcdgbaaAmN
set_option linter.unusedVariables false
namespace Go.Am
section
variable {B:Nat} {E:Ex} {w0 w w':World} {G G':Gh} {N:Nat} {h h':Nat->Option ar} {used:Nat->Bool}
variable {P:Program} {o:Oper} {a:Act} {σ σ':St} {Q:Exit->Act->World->Prop}
def za (p:PB):cZ->PC->PB
 |.row _,.list _ _ _ px=>{p with px:=px}
 |.nest _ k off,q=>{p with px:=p.px.set k ((p.px.getD k []).set off q)}
 |_,_=>p
open Classical in
noncomputable def yt (G:Gh) (its:List (cZ×Mode)) (qs:List PC):Gh:=
 ⟨G.Im,fun n=>if h:∃p:(cZ×Mode)×PC,∃i:Nat,its[i]? =some p.1/\qs[i]? =some p.2/\p.1.1.dE=some n then za (G.g n) h.choose.1.1 h.choose.2 else G.g n⟩
theorem afM {its:List (cZ×Mode)} {qs:List PC} (fW:(its.filterMap (·.1.dE)).Nodup) {i n:Nat} {it:cZ×Mode} {q:PC} (hi:its[i]? =some it) (hq:qs[i]? =some q) (hn:it.1.dE=some n):
  (yt G its qs).g n=za (G.g n) it.1 q:=by
 have sy:∃p:(cZ×Mode)×PC,∃i:Nat,its[i]? =some p.1/\qs[i]? =some p.2/\p.1.1.dE=some n:=⟨(it,q),i,hi,hq,hn⟩
 unfold yt
 simp only
 rw[dif_pos sy]
 obtain⟨j,h1,h2,h3⟩:=sy.choose_spec
 have j3:=Kj fW h1 hi h3 hn
 subst j3
 rw[hi] at h1
 rw[hq] at h2
 injection h1 with h1
 injection h2 with h2
 rw[<-h1,<-h2]
theorem afN {its:List (cZ×Mode)} {qs:List PC} {n:Nat} (hn:n∉its.filterMap (·.1.dE)):(yt G its qs).g n=G.g n:=by
 unfold yt
 simp only
 rw[dif_neg]
 rintro⟨p,i,h1,h2,h3⟩
 exact hn (List.mem_filterMap.2 ⟨p.1,List.mem_of_getElem? h1,h3⟩)
theorem PC.ZU {pc q:PC} (hv:q.val=pc.val) (hL:pc.gk=true):∃sz a cap xs,q=.list sz a cap xs:=by
 cases pc with
 |int k n=>cases hL
 |bool b=>cases hL
 |list sz a cap xs=>
  cases q with
  |int k n=>cases hv
  |bool b=>cases hv
  |list sz a cap xs=>exact⟨_,_,_,_,rfl⟩
theorem Xl {px:List (List PC)} (hs:fN (px.map fun e=>e.map PC.er)=true) {k j:Nat} {c:PC} (hk:At px k j c):c.gk=false:=by
 obtain⟨e,he,hj⟩:=hk
 have h6:=List.all_eq_true.1 hs (e.map PC.er) (by simp only[List.mem_map];exact⟨e,List.mem_of_getElem? he,rfl⟩)
 have h7:=List.all_eq_true.1 h6 c.er (by simp only[List.mem_map];exact⟨c,List.mem_of_getElem? hj,rfl⟩)
 cases hL:c.gk with
 |false=>rfl
 |true=>rw[PC.Zm hL] at h7;cases h7
theorem Xk {px:List (List PC)} (hs:fN (px.map fun e=>e.map PC.er)=true) (b:Nat):¬aS b px:=by
 rintro⟨k,j,c,⟨e,he,hj⟩,hc⟩
 have h6:=List.all_eq_true.1 hs (e.map PC.er) (by simp only[List.mem_map];exact⟨e,List.mem_of_getElem? he,rfl⟩)
 have h7:=List.all_eq_true.1 h6 c.er (by simp only[List.mem_map];exact⟨c,List.mem_of_getElem? hj,rfl⟩)
 exact(Sep.kK h7).2 b hc
theorem ady (H:HR B E w G h used []) {n:Nat} {gr:Bool} {m md:Mode} {sz:Nat} {xs:List (List C)} (hn:h n=some (.row gr m sz xs)) (hm:m≠ .aA) (sB:md=.live->m=.live) (jn:sq md xs=true)
  {q:PC} (A:vG w' md (pd sz (G.g n)) q) {k:Nat} {av:List (List C)} (hq:q.er=.list k av):FO w' (G.g n) (za (G.g n) (.row n) q) gr m sz av:=by
 have hr:=H.row n gr m sz xs hn
 have bJ:h n≠none:=by rw[hn];simp
 obtain⟨aK,a',sd,px',rfl⟩:=PC.ZU A.val rfl
 obtain⟨rfl,ha,rfl,hlen,hl⟩:=A.live _ _ _ _ _ _ _ _ rfl rfl
 rw[PC.dz] at hq
 injection hq with _ hq
 have j4:=A.sep
 have eE:(∀k j c,At px' k j c->Sep c)/\(∀b o k j c,a'=some (ad b o)->At px' k j c->¬aP b c)/\g7 px':=by
  cases j4 with
  |list _ _ _ _ h1 h2 h3=>exact⟨h1,h2,h1,h3⟩
 have rn:∀b,aS b px'->(G.g n).nl=false->b≠(G.g n).b:=by
  rintro b ⟨k,j,c,hk,hc⟩ aM rfl
  refine eE.2.1 (G.g n).b (G.g n).o k j c ?_ hk hc
  rw[ha,if_neg (by simp[aM])]
 have iY:md=.ab->fN xs=true:=by rintro rfl;exact jn
 refine⟨hm,?_,rfl,rfl,rfl,rfl,rfl,hq.symm,fun aM=>?_,fun aM=>?_,eE.2.2,fun b hb=>?_,fun cJ k j pc hk hL=>?_⟩
 ·cases md with
  |aA=>cases jn
  |live=>exact .inr (sB rfl)
  |ab=>exact .inl (Xk (by rw[<-hr.er];exact iY rfl))
 ·have:=(hr.nl aM).1
  rw[this] at hlen
  exact List.eq_nil_of_length_eq_zero hlen
 ·refine⟨?_,?_⟩
  ·have hg:=A.eD
   rw[ha,if_neg (by simp[aM])] at hg
   by_cases h0:px'=[]
   ·show oF w' _ _ _ px'
    rw[h0]
    exact⟨by simp,by rintro k j c ⟨e,he,_⟩;simp at he,by rintro k j c ⟨e,he,_⟩;simp at he⟩
   ·generalize jo:PC.list aK (some (ad (G.g n).b (G.g n).o)) (G.g n).cap px'=q2 at hg
    cases hg with
    |int k n=>cases jo
    |bool b=>cases jo
    |nil _ _ _ _=>injection jo with _ _ _ e4;exact absurd e4 h0
    |cons _ _ _ _ _ h1 h2 h3 h4 h5 h6=>
     injection jo with e1 e2 e3 e4
     injection e2 with e2
     obtain⟨e5,e6⟩:=nz e2
     subst e1 e3 e4
     rw[e5,e6]
     exact⟨h4,h5,h6⟩
  ·show px'.length<=_
   rw[hlen]
   exact(hr.dD aM).2.2
 ·have fh:aP b (pd aK (G.g n)):=A.sub b (by
   obtain⟨k,j,c,hk,hc⟩:=hb
   exact .there _ _ _ _ k j c hk hc)
  rcases R7 (fun hq=>(hr.nl hq).1) fh with⟨aM,he⟩|hF
  ·exact absurd he (rn b hb aM)
  ·exact hF
 ·cases md with
  |aA=>cases jn
  |live=>exact hl rfl k j pc hk hL
  |ab=>
   have:=Xl (px:=(G.g n).px) (by rw[<-hr.er];exact iY rfl) hk
   rw[hL] at this;cases this
theorem xX {α:Type} {px:List (List α)} {k off k' j':Nat} {e:List α} {q c:α} (he:px[k]? =some e) (h:At (px.set k (e.set off q)) k' j' c):(k'=k/\j'=off/\c=q)\/(At px k' j' c/\(k',j')≠(k,off)):=by
 have hk:=(List.getElem?_eq_some_iff.1 he).1
 rcases Hx hk h with⟨rfl,h1⟩|⟨ax,h1⟩
 ·by_cases hj:j'=off
  ·subst hj
   have hl:j'<e.length:=by have:=(List.getElem?_eq_some_iff.1 h1).1;simpa using this
   rw[List.getElem?_set_self hl] at h1
   injection h1 with h1
   exact .inl ⟨rfl,rfl,h1.symm⟩
  ·rw[List.getElem?_set_ne (Ne.symm hj)] at h1
   exact .inr ⟨⟨e,he,h1⟩,fun e=>hj (congrArg Prod.snd e)⟩
 ·exact .inr ⟨h1,fun e=>ax (congrArg Prod.fst e)⟩
theorem adg {α:Type} {px:List (List α)} {k off k' j':Nat} {e:List α} {q c:α} (he:px[k]? =some e) (h:At px k' j' c) (ax:(k',j')≠(k,off)):At (px.set k (e.set off q)) k' j' c:=by
 obtain⟨e',h1,h2⟩:=h
 by_cases hk:k'=k
 ·subst hk
  rw[he] at h1
  injection h1 with h1
  subst h1
  have hj:j'≠off:=fun e=>ax (by rw[e])
  exact⟨_,List.getElem?_set_self (List.getElem?_eq_some_iff.1 he).1,by rw[List.getElem?_set_ne (Ne.symm hj)];exact h2⟩
 ·exact⟨e',by rw[List.getElem?_set_ne (Ne.symm hk)];exact h1,h2⟩
theorem V1 (H:HR B E w G h used []) {n k off:Nat} {gr:Bool} {sz:Nat} {xs:List (List C)} (hn:h n=some (.row gr .live sz xs)) {pc:PC} (bI:At (G.g n).px k off pc) (hL:pc.gk=true)
  (rn:(G.g n).nl=false->w'.heap[(G.g n).b]? =w.heap[(G.g n).b]?) (OO:∀k' j' c,At (G.g n).px k' j' c->(k',j')≠(k,off)->∀b,aP b c->w'.heap[b]? =w.heap[b]?)
  {q:PC} (A:vG w' .ab pc q) {ex:List C} (sy:xs[k]? =some ex):FO w' (G.g n) (za (G.g n) (.nest n k off) q) gr .live sz (xs.set k (ex.set off q.er)):=by
 have hr:=H.row n gr .live sz xs hn
 obtain⟨e0,ku,Oq⟩:=bI
 have mO:(G.g n).px.getD k []=e0:=by simp[List.getD_eq_getElem?_getD,ku]
 have fx:(za (G.g n) (.nest n k off) q).px=(G.g n).px.set k (e0.set off q):=by simp only[za,mO]
 have af0:ex=e0.map PC.er:=by
  rw[hr.er,List.getElem?_map,ku] at sy
  simpa using sy.symm
 have bI:At (G.g n).px k off pc:=⟨e0,ku,Oq⟩
 have hqL:q.gk=true:=by
  obtain⟨sz,a,cap,xs,rfl⟩:=PC.ZU A.val hL
  rfl
 have aM:(G.g n).nl=false:=by
  cases hq:(G.g n).nl with
  |false=>rfl
  |true=>rw[(hr.nl hq).1] at ku;simp at ku
 obtain⟨l1,l2,l3⟩:=hr.dD aM
 refine⟨by simp,.inr rfl,rfl,rfl,rfl,rfl,rfl,?_,fun h=>?_,fun _=>?_,?_,fun b hb=>?_,fun _ k' j' c cX hc=>?_⟩
 ·rw[fx,hr.er,af0,List.map_set,List.map_set]
 ·rw[aM] at h;cases h
 ·rw[fx]
  refine⟨⟨fun e he=>?_,fun k' j' c cX=>?_,fun k' j' c cX=>?_⟩,by rw[List.length_set];exact l3⟩
  ·rcases List.mem_or_eq_of_mem_set he with he|rfl
   ·exact l2.1 e he
   ·rw[List.length_set];exact l2.1 e0 (List.mem_of_getElem? ku)
  ·rw[io (rn aM)]
   rcases xX ku cX with⟨rfl,rfl,rfl⟩|⟨h1,_⟩
   ·rw[A.val];exact l2.2.1 _ _ _ bI
   ·exact l2.2.1 _ _ _ h1
  ·rcases xX ku cX with⟨rfl,rfl,rfl⟩|⟨h1,h2⟩
   ·exact A.eD
   ·exact(l2.2.2 _ _ _ h1).congr fun b hb o=>io (OO k' j' c h1 h2 b hb) o
 ·rw[fx]
  refine⟨fun k' j' c cX=>?_,fun k1 j1 c1 k2 j2 c2 b h1 h2 ax hb aT=>?_⟩
  ·rcases xX ku cX with⟨rfl,rfl,rfl⟩|⟨h1,h2⟩
   ·exact A.sep
   ·exact hr.mode.2.1 _ _ _ h1
  ·rcases xX ku h1 with⟨rfl,rfl,rfl⟩|⟨g1,n1⟩
   ·rcases xX ku h2 with⟨rfl,rfl,rfl⟩|⟨g2,n2⟩
    ·exact ax rfl
    ·exact hr.mode.2.2 _ _ _ _ _ _ b bI g2 ax (A.sub b hb) aT
   ·rcases xX ku h2 with⟨rfl,rfl,rfl⟩|⟨g2,n2⟩
    ·exact hr.mode.2.2 _ _ _ _ _ _ b g1 bI ax hb (A.sub b aT)
    ·exact hr.mode.2.2 _ _ _ _ _ _ b g1 g2 ax hb aT
 ·rw[fx] at hb
  obtain⟨k',j',c,cX,hc⟩:=hb
  rcases xX ku cX with⟨rfl,rfl,rfl⟩|⟨h1,h2⟩
  ·exact⟨_,_,_,bI,A.sub b hc⟩
  ·exact⟨_,_,_,h1,hc⟩
 ·rw[fx]
  by_cases he:(k',j')=(k,off)
  ·have h1:k'=k:=congrArg Prod.fst he
   have h2:j'=off:=congrArg Prod.snd he
   subst h1 h2
   obtain⟨e1,g1,g2⟩:=cX
   rw[ku] at g1
   injection g1 with g1
   subst g1
   rw[Oq] at g2
   injection g2 with g2
   subst g2
   have hl:j'<e0.length:=(List.getElem?_eq_some_iff.1 Oq).1
   exact⟨q,⟨_,List.getElem?_set_self (List.getElem?_eq_some_iff.1 ku).1,List.getElem?_set_self hl⟩,A.val,hqL⟩
  ·exact⟨c,adg ku cX he,rfl,hc⟩
theorem aac:∀{as:List aj} {fu:List (Bool×List ai)} {vals:List Value},wX as=some fu->vals.length=as.length->(∀(j:Nat) (x:aj) (v:Value),as[j]? =some x->vals[j]? =some v->RA w G h x v)->
  vals.length=fu.length/\∀(j:Nat) (x:Bool×List ai) (v:Value),fu[j]? =some x->vals[j]? =some v->RV w G h x.1 x.2 v
 |[],fu,vals,hx,hl,hc=>by
  simp only[wX] at hx
  injection hx with hx
  subst hx
  exact⟨hl,by simp⟩
 |y::as,fu,vals,hx,hl,hc=>by
  simp only[wX] at hx
  split at hx
  ·rename_i x xs e1 e2
   injection hx with hx
   subst hx
   match vals,hl with
   |v::vals,hl=>
    obtain⟨i1,i2⟩:=aac e2 (vals:=vals) (by simpa using hl) (fun j x v h1 h2=>hc (j+1) x v h1 h2)
    refine⟨by simp[i1],fun j x' v' hj hv=>?_⟩
    cases j with
    |zero=>
     simp at hj hv
     subst hj hv
     have h0:=hc 0 y v rfl rfl
     cases y with
     |one c=>
      cases c<;>simp[aj.cells?] at e1<;>subst e1<;>exact h0.resolve_left (by simp)
     |agg cs=>
      simp[aj.cells?] at e1
      subst e1
      exact h0
     |bn l=>simp[aj.cells?] at e1
    |succ j=>exact i2 j x' v' (by simpa using hj) (by simpa using hv)
  ·cases hx
theorem rZ.gk {it:cZ} {md:Mode} {pc:PC} (i:rZ B E w G h it md pc):pc.gk=true:=by
 obtain⟨sz,a,cap,xs,rfl,_⟩:=i.ok.dD
 rfl
def Gt (P:Program) (T:bj):Prop:=∀f sig M,bj.qV T.BW f=some (sig,M)->r5 P f sig M
theorem aeh (r:R B E w0 N σ a w G) {T:bj} (hT:Gt P T) {m:Mode} {f:FuncId} {as:List aj} {vals:List Value} {σ1:St} (hN:∀n,o.dst=some n->n<N)
  (bq:(execOp a.eval o).run P w=.ok (.enter f vals.toArray) w) (hl:vals.length=as.length)
  (yx:∀(j:Nat) (x:aj) (v:Value),as[j]? =some x->vals[j]? =some v->RA w G σ.h x v)
  (hx:ue T m o.dst f as σ=some σ1):o.wp P a w (Nx B E w0 N σ1) Q:=by
 have H:=r.hr
 unfold ue at hx
 split at hx
 ·rename_i sig M fu hM afU
  split at hx
  ·rename_i fW
   split at hx
   ·rename_i ds its hv
    split at hx
    ·rename_i rs ew uj
     split at hx
     ·rename_i σ2 pR
      split at hx
      ·rename_i ls gz wl
       injection hx with hx
       subst hx
       obtain⟨DU,afQ⟩:=aac afU hl yx
       obtain⟨pas,q1,q2,q3,q4,q5,q6,q7⟩:=H.oW hv DU afQ
       have ww:(its.filterMap (·.1.dE)).Nodup:=by rw[q6];exact fW
       generalize ID:eg sig (pas.map (·.ps))=fl at q5
       have JL:∀(i:Nat) (x:Mode×PC),fl[i]? =some x->∃it,its[i]? =some it/\it.2=x.1/\rZ B E w G σ.h it.1 x.1 x.2:=by
        intro i x hi
        have bH:i<its.length:=by rw[q5.len];exact(List.getElem?_eq_some_iff.1 hi).1
        have he:its[i]? =some its[i]:=List.getElem?_eq_getElem bH
        exact⟨_,he,q5.at_ i _ x he hi⟩
       have Xn:∀x∈fl,∃it∈its,rZ B E w G σ.h it.1 x.1 x.2:=by
        intro x hx
        obtain⟨i,hi⟩:=List.getElem?_of_mem hx
        obtain⟨it,h1,_,h2⟩:=JL i x hi
        exact⟨it,List.mem_of_getElem? h1,h2⟩
       have rh:∀x∈fl,∀b,aP b x.2->∃n gr m sz xs,n∈n6 sig fu/\σ.h n=some (.row gr m sz xs)/\m≠ .aA/\su G n b/\((∀b,¬aS b (G.g n).px)\/m=.live):=by
        intro x hx b hb
        obtain⟨it,h1,h2⟩:=Xn x hx
        obtain⟨n,gr,m,sz,xs,e1,e2,e3,e4,e5⟩:=h2.nJ H hb
        exact⟨n,gr,m,sz,xs,by rw[<-q6];exact List.mem_filterMap.2 ⟨it,h1,e1⟩,e2,e3,e4,e5⟩
       have sy:∀b,MT fl b->(B<=b\/E b):=by
        rintro b ⟨x,hx,hb⟩
        obtain⟨n,gr,m,sz,xs,_,e2,e3,e4,e5⟩:=rh x hx b hb
        rcases e4 with⟨aM,rfl⟩|hF
        ·exact(H.own n (by rw[e2];simp) aM).2.1
        ·have gD:=(H.row n gr m sz xs e2).mode
         cases m with
         |aA=>exact absurd rfl e3
         |ab=>exact(gD.1 b hF).2.2
         |live=>exact(gD.1 b hF).2.2
       have ajZ:LW w sig ds vals pas:=by
        refine⟨q2,q1,q3,fun x hx=>?_,?_,fun pc aZ x hx b hb aT=>?_,fun p hp hk=>absurd hk (q4 p hp),fun i p s hp _ hk=>absurd hk (q4 p (List.mem_of_getElem? hp))⟩
        ·rw[ID] at hx
         obtain⟨it,_,h2⟩:=Xn x hx
         exact h2.ok
        ·rw[ID,List.pairwise_iff_getElem]
         intro i j hi hj j3 b hb aT
         obtain⟨it,h1,_,h2⟩:=JL i _ (List.getElem?_eq_getElem hi)
         obtain⟨yX,iT,_,wc⟩:=JL j _ (List.getElem?_eq_getElem hj)
         obtain⟨n,gr,m,sz,xs,e1,e2,e3,e4,e5⟩:=h2.nJ H hb
         obtain⟨n',bk,m',aK,av,HW,vY,e3',HX,Al⟩:=wc.nJ H aT
         have ax:n≠n':=by
          rintro rfl
          have:=Kj ww h1 iT e1 HW
          omega
         exact H.Io ax e2 vY Al e4 HX
        ·rw[ID] at hx
         obtain⟨n',bk,m',aK,av,HW,vY,e3',HX,Al⟩:=rh x hx b aT
         rcases q7 pc aZ b hb with hi|⟨n,gr,m,sz,xs,hn,e2,e4⟩
         ·rcases HX with⟨aM,rfl⟩|hF
          ·exact(H.own n' (by rw[vY];simp) aM).1 hi
          ·rcases Al with Al|rfl
           ·exact Al b hF
           ·exact((H.row n' bk .live aK av vY).mode.1 b hF).1 hi
         ·have ax:n≠n':=fun e=>hn (e▸HW)
          exact H.Io ax e2 vY Al e4 HX
       unfold Oper.wp
       rw[bq]
       refine(hT f sig M hM ds rs ew uj w vals pas ajZ).mono fun e w' ⟨aR,p1,p2,p3,p4,p5,qs,p6,p7,p8⟩=>?_
       subst p2
       rw[ID] at p5 p7 p8
       obtain⟨t1,t2,t3,t4⟩:=aaQ pR ww
       have XG:∀n,n∈n6 sig fu->∃(i:Nat) (it:cZ×Mode) (x:Mode×PC) (q:PC),its[i]? =some it/\fl[i]? =some x/\qs[i]? =some q/\ew[i]? =some q.er/\it.1.dE=some n/\rZ B E w G σ.h it.1 x.1 x.2/\vG w' x.1 x.2 q:=by
        intro n hn
        rw[<-q6,List.mem_filterMap] at hn
        obtain⟨it,wq,fP⟩:=hn
        obtain⟨i,hi⟩:=List.getElem?_of_mem wq
        have bH:i<fl.length:=by rw[<-q5.len];exact(List.getElem?_eq_some_iff.1 hi).1
        have hx:fl[i]? =some fl[i]:=List.getElem?_eq_getElem bH
        have hq:qs[i]? =some (qs[i]'(by rw[p7];exact bH)):=List.getElem?_eq_getElem _
        exact⟨i,it,_,_,hi,hx,hq,by rw[<-p6,List.getElem?_map,hq];rfl,fP,(q5.at_ i it _ hi hx).2,p8 i _ _ hx hq⟩
       have agD:∀b,b<w.heap.size->(∀n,n∈n6 sig fu->¬su G n b)->w'.heap[b]? =w.heap[b]? :=by
        intro b hb cb
        refine p5.block b hb ?_
        rintro⟨x,hx,DJ⟩
        obtain⟨n,gr,m,sz,xs,e1,e2,e3,e4,e5⟩:=rh x hx b DJ
        exact cb n e1 e4
       have agi:∀b,b<w.heap.size->(∀x∈fl,¬aP b x.2)->w'.heap[b]? =w.heap[b]? :=fun b hb cb=>p5.block b hb (by rintro⟨x,hx,DJ⟩;exact cb x hx DJ)
       obtain⟨xP,K,eT⟩:=H.Rr (G':=yt G its qs) (h':=σ2.h) (w':=w') (S:=fun n=>n∈n6 sig fu) p5.size agD (fun b hb=>p5.kg b hb) rfl (fun n hn=>by
        obtain⟨i,it,x,q,hi,Yx,oQ,jJ,fP,fF,DF⟩:=XG n hn
        have bI:=fF.at_
        have Yd:=t4 i it q.er hi jJ
        rw[afM ww hi oQ fP]
        obtain⟨Pw,md⟩:=it
        cases Pw with
        |nil sz=>cases fP
        |row n'=>
         injection fP with fP
         have fP:n'=n:=fP
         subst fP
         obtain⟨gr,mo,sz,xs,e1,e2,e3,e4,e5⟩:=bI
         obtain⟨bk,nc,vd,km,av,g1,g2,g3⟩:=Yd
         rw[e1] at g1
         injection g1 with g1
         injection g1 with a1 a2 a3 a4
         subst a1 a2 a3 a4
         rw[e4] at DF
         exact⟨gr,mo,sz,xs,av,e1,g3,ady H e1 e2 e3 e5 DF g2⟩
        |nest n' k off=>
         injection fP with fP
         have fP:n'=n:=fP
         subst fP
         obtain⟨gr,sz,xs,e1,e2,e3⟩:=bI
         obtain⟨bk,nc,vd,km,ex,g1,g2,g3⟩:=Yd
         rw[e1] at g1
         injection g1 with g1
         injection g1 with a1 a2 a3 a4
         subst a1 a2 a3 a4
         rw[e2] at DF
         have hr:=H.row n' gr .live sz xs e1
         have bJ:σ.h n'≠none:=by rw[e1];simp
         have IQ:∀b,su G n' b->¬aP b x.2->w'.heap[b]? =w.heap[b]? :=by
          intro b hb yJ
          have bH:b<w.heap.size:=by
           rcases hb with⟨aM,rfl⟩|hF
           ·exact(H.own n' bJ aM).2.2
           ·exact H.qC e1 hF
          refine agi b bH fun y hy pK=>?_
          obtain⟨j,hj⟩:=List.getElem?_of_mem hy
          by_cases j3:j=i
          ·subst j3
           rw[Yx] at hj
           injection hj with hj
           subst hj
           exact yJ pK
          ·obtain⟨yX,iT,_,wc⟩:=JL j y hj
           obtain⟨n2,Ax,m2,kc,g0,f1,f2,f3,f4,f5⟩:=wc.nJ H pK
           have ax:n'≠n2:=by
            rintro rfl
            exact j3 (Kj ww iT hi f1 rfl)
           exact H.Io ax e1 f2 f5 hb f4
         refine⟨gr,.live,sz,xs,_,e1,g3,V1 H e1 e3 fF.gk (fun aM=>IQ _ (.inl ⟨aM,rfl⟩) fun hb=>?_) (fun k' j' c hk ax b hb=>IQ b (.inr ⟨k',j',c,hk,hb⟩) fun DJ=>?_) DF g2⟩
         ·exact H.live n' gr sz xs e1 _ ⟨k,off,x.2,e3,hb⟩ n' bJ aM rfl
         ·exact hr.mode.2.2 _ _ _ _ _ _ b hk e3 ax hb DJ) (fun n hn=>⟨t3 n (by rw[q6];exact hn),afN (by rw[q6];exact hn)⟩)
       have HR2:HR B E w' (yt G its qs) σ2.h σ2.used []:=by rw[t2];exact xP
       have fh:tU B w' (yt G its qs) σ2.h (aR.flatMap (·.2)):=by
        refine⟨p4.eD,fun pc aZ b hb=>?_,?_⟩
        ·obtain⟨n1,n2⟩:=p4.new pc aZ b hb
         refine⟨⟨fun hi=>?_,fun q hq jo he=>?_,fun q gr mo sz xs hq cg=>?_⟩,n2,Nat.le_trans r.fr.size n1⟩
         ·have:=H.fI b hi;omega
         ·obtain⟨k0,k1,k2,_⟩:=K.name q (xP.iS q hq) hq
          have:=(H.own q k0 (k1.symm.trans jo)).2.2
          rw[<-k2] at this
          omega
         ·have aT:=eT q b cg
          have sG:=xP.iS q (by rw[hq];simp)
          obtain⟨k0,_⟩:=K.name q sG (by rw[hq];simp)
          cases hh:σ.h q with
          |none=>exact absurd hh k0
          |some blk=>
           cases blk with
           |box cs=>
            have:q∉n6 sig fu:=by
             intro hm
             obtain⟨i,it,x,q',hi,Yx,oQ,jJ,fP,fF,DF⟩:=XG q hm
             have bI:=fF.at_
             obtain⟨Pw,md⟩:=it
             cases Pw with
             |nil sz=>cases fP
             |row n'=>
              injection fP with fP
              have fP:n'=q:=fP
              subst fP
              obtain⟨gr,mo,sz,xs,e1,_⟩:=bI
              rw[hh] at e1;cases e1
             |nest n' k off=>
              injection fP with fP
              have fP:n'=q:=fP
              subst fP
              obtain⟨gr,sz,xs,e1,_⟩:=bI
              rw[hh] at e1;cases e1
            have h3:=t3 q (by rw[q6];exact this)
            rw[h3,hh] at hq
            cases hq
           |row bk m' aK av=>have:=H.qC hh aT;omega
        ·rw[List.pairwise_iff_getElem]
         intro i j hi hj j3 b hb
         exact p4.mI i j _ _ b (by omega) (List.getElem?_eq_getElem hi) (List.getElem?_eq_getElem hj) hb
       rw[<-p1] at wl
       obtain⟨G',b1,b2,b3,b4,b5,b6,b7⟩:=HR.jt HR2 wl p3 fh
       have yE:Fr B E w0 w':=by
        refine⟨p5.os.trans r.fr.os,p5.tape.trans r.fr.tape,p5.output.trans r.fr.output,Nat.le_trans r.fr.size p5.size,fun b hb he=>?_,fun b hb=>?_⟩
        ·refine(p5.block b (Nat.lt_of_lt_of_le hb r.fr.size) fun hx=>?_).trans (r.fr.block b hb he)
         rcases sy b hx with h1|h1
         ·omega
         ·exact he h1
        ·exact(r.fr.kg b hb).trans (p5.kg b (Nat.lt_of_lt_of_le hb r.fr.size))
       have K2:aW w G σ.h (fun n=>σ.used n=true) w' G' gz.h:=aW.trans (fun n hn=>by rw[t2];exact hn) K b2
       have r2:R B E w0 N gz a w' G':=r.step (b6.trans t1) (fun q hq=>b7 q (by rw[t2];exact hq)) K2 b1 yE
       refine⟨G',r2.put (RA.lN b3 p3 b4) ?_ hN⟩
       intro q hq
       match ls,hq with
       |[],hq=>obtain⟨x,hx,_⟩:=hq;simp at hx
       |[(true,cs)],hq=>obtain⟨c,hc,hq⟩:=hq;exact b5 (true,cs) (by simp) c hc q hq
       |[(false,[c])],hq=>exact b5 (false,[c]) (by simp) c (by simp) q hq
       |[(false,[])],hq=>exact absurd hq id
       |[(false,_::_::_)],hq=>exact absurd hq id
       |x::y::ls,hq=>obtain⟨x',dU,c,hc,hq⟩:=hq;exact b5 x' dU c hc q hq
      ·cases hx
     ·cases hx
    ·cases hx
   ·cases hx
  ·cases hx
 ·cases hx
theorem aea (r:R B E w0 N σ a w G) {T:bj} (hT:Gt P T) {m:Mode} {f:FuncId} {xs:Array Operand} {ms:List MO} {ts:Array TypeId} {σ1:St} (hN:∀n,o.dst=some n->n<N)
  (ho:o.op=.call {callee:=.value (.func f),args:=xs,argTypes:=ts}) (hf:bM P f=true) (hm:h9 xs.toList ms=true)
  (hx:ue T m o.dst f (ms.map σ.ev) σ=some σ1):o.wp P a w (Nx B E w0 N σ1) Q:=by
 obtain⟨e1,e2⟩:=r.Ap hm
 refine aeh r hT (vals:=xs.toList.map a.eval) hN ?_ (by simpa using e1) e2 hx
 have he:(xs.toList.map a.eval).toArray=xs.map a.eval:=by apply Array.ext';simp
 rw[he]
 simp[execOp,ho,resolve,Deferred.ofValue,invoke,Act.eval,Ch hf]
end
end Go.Am
