/- AmO: calls that change lists of their arguments. No condition. -/
import Derived.Test.YtifmggmhdcdgbaaAmN
set_option linter.unusedVariables false
namespace Go.Am
section
variable {B:Nat} {E:Ex} {w0 w w':World} {G G':Gh} {N:Nat} {h h':Nat->Option aq} {used:Nat->Bool}
variable {P:Program} {o:Oper} {a:Act} {σ σ':St} {Q:Exit->Act->World->Prop}
def yr (p:PB):de->PC->PB
 |.row _,.list _ _ _ px=>{p with px:=px}
 |.nest _ k off,q=>{p with px:=p.px.set k ((p.px.getD k []).set off q)}
 |_,_=>p
open Classical in
noncomputable def xB (G:Gh) (its:List (de×Mode)) (qs:List PC):Gh:=
 ⟨G.Im,fun n=>if h:∃p:(de×Mode)×PC,∃i:Nat,its[i]? =some p.1/\qs[i]? =some p.2/\p.1.1.dF=some n then yr (G.g n) h.choose.1.1 h.choose.2 else G.g n⟩
theorem adD {its:List (de×Mode)} {qs:List PC} (gj:(its.filterMap (·.1.dF)).Nodup) {i n:Nat} {it:de×Mode} {q:PC} (hi:its[i]? =some it) (hq:qs[i]? =some q) (hn:it.1.dF=some n):
  (xB G its qs).g n=yr (G.g n) it.1 q:=by
 have sk:∃p:(de×Mode)×PC,∃i:Nat,its[i]? =some p.1/\qs[i]? =some p.2/\p.1.1.dF=some n:=⟨(it,q),i,hi,hq,hn⟩
 unfold xB
 simp only
 rw[dif_pos sk]
 obtain⟨j,h1,h2,h3⟩:=sk.choose_spec
 have ko:=Io gj h1 hi h3 hn
 subst ko
 rw[hi] at h1
 rw[hq] at h2
 injection h1 with h1
 injection h2 with h2
 rw[<-h1,<-h2]
theorem adE {its:List (de×Mode)} {qs:List PC} {n:Nat} (hn:n∉its.filterMap (·.1.dF)):(xB G its qs).g n=G.g n:=by
 unfold xB
 simp only
 rw[dif_neg]
 rintro⟨p,i,h1,h2,h3⟩
 exact hn (List.mem_filterMap.2 ⟨p.1,List.mem_of_getElem? h1,h3⟩)
theorem PC.Xw {pc q:PC} (hv:q.val=pc.val) (hL:pc.gy=true):∃sz a cap xs,q=.list sz a cap xs:=by
 cases pc with
 |int k n=>cases hL
 |bool b=>cases hL
 |list sz a cap xs=>
  cases q with
  |int k n=>cases hv
  |bool b=>cases hv
  |list sz a cap xs=>exact⟨_,_,_,_,rfl⟩
theorem Vr {px:List (List PC)} (hs:fQ (px.map fun e=>e.map PC.er)=true) {k j:Nat} {c:PC} (hk:At px k j c):c.gy=false:=by
 obtain⟨e,he,hj⟩:=hk
 have h6:=List.all_eq_true.1 hs (e.map PC.er) (by simp only[List.mem_map];exact⟨e,List.mem_of_getElem? he,rfl⟩)
 have h7:=List.all_eq_true.1 h6 c.er (by simp only[List.mem_map];exact⟨c,List.mem_of_getElem? hj,rfl⟩)
 cases hL:c.gy with
 |false=>rfl
 |true=>rw[PC.Xe hL] at h7;cases h7
theorem Vq {px:List (List PC)} (hs:fQ (px.map fun e=>e.map PC.er)=true) (b:Nat):¬aV b px:=by
 rintro⟨k,j,c,⟨e,he,hj⟩,hc⟩
 have h6:=List.all_eq_true.1 hs (e.map PC.er) (by simp only[List.mem_map];exact⟨e,List.mem_of_getElem? he,rfl⟩)
 have h7:=List.all_eq_true.1 h6 c.er (by simp only[List.mem_map];exact⟨c,List.mem_of_getElem? hj,rfl⟩)
 exact(Sep.lc h7).2 b hc
theorem aa2 (H:HR B E w G h used []) {n:Nat} {gr:Bool} {m md:Mode} {sz:Nat} {xs:List (List C)} (hn:h n=some (.row gr m sz xs)) (hm:m≠ .aF) (sr:md=.live->m=.live) (jA:sd md xs=true)
  {q:PC} (A:u7 w' md (pD sz (G.g n)) q) {k:Nat} {ar:List (List C)} (hq:q.er=.list k ar):Ez w' (G.g n) (yr (G.g n) (.row n) q) gr m sz ar:=by
 have hr:=H.row n gr m sz xs hn
 have bN:h n≠none:=by rw[hn];simp
 obtain⟨aK,a',rZ,px',rfl⟩:=PC.Xw A.val rfl
 obtain⟨rfl,ha,rfl,hlen,hl⟩:=A.live _ _ _ _ _ _ _ _ rfl rfl
 rw[PC.dw] at hq
 injection hq with _ hq
 have kt:=A.sep
 have eO:(∀k j c,At px' k j c->Sep c)/\(∀b o k j c,a'=some (ad b o)->At px' k j c->¬aR b c)/\io px':=by
  cases kt with
  |list _ _ _ _ h1 h2 h3=>exact⟨h1,h2,h1,h3⟩
 have rb:∀b,aV b px'->(G.g n).nl=false->b≠(G.g n).b:=by
  rintro b ⟨k,j,c,hk,hc⟩ aO rfl
  refine eO.2.1 (G.g n).b (G.g n).o k j c ?_ hk hc
  rw[ha,if_neg (by simp[aO])]
 have je:md=.aa->fQ xs=true:=by rintro rfl;exact jA
 refine⟨hm,?_,rfl,rfl,rfl,rfl,rfl,hq.symm,fun aO=>?_,fun aO=>?_,eO.2.2,fun b hb=>?_,fun cU k j pc hk hL=>?_⟩
 ·cases md with
  |aF=>cases jA
  |live=>exact .inr (sr rfl)
  |aa=>exact .inl (Vq (by rw[<-hr.er];exact je rfl))
 ·have:=(hr.nl aO).1
  rw[this] at hlen
  exact List.eq_nil_of_length_eq_zero hlen
 ·refine⟨?_,?_⟩
  ·have hg:=A.dV
   rw[ha,if_neg (by simp[aO])] at hg
   by_cases h0:px'=[]
   ·show oL w' _ _ _ px'
    rw[h0]
    exact⟨by simp,by rintro k j c ⟨e,he,_⟩;simp at he,by rintro k j c ⟨e,he,_⟩;simp at he⟩
   ·generalize jB:PC.list aK (some (ad (G.g n).b (G.g n).o)) (G.g n).cap px'=q2 at hg
    cases hg with
    |int k n=>cases jB
    |bool b=>cases jB
    |nil _ _ _ _=>injection jB with _ _ _ e4;exact absurd e4 h0
    |cons _ _ _ _ _ h1 h2 h3 h4 h5 h6=>
     injection jB with e1 e2 e3 e4
     injection e2 with e2
     obtain⟨e5,e6⟩:=nQ e2
     subst e1 e3 e4
     rw[e5,e6]
     exact⟨h4,h5,h6⟩
  ·show px'.length<=_
   rw[hlen]
   exact(hr.dE aO).2.2
 ·have fG:aR b (pD aK (G.g n)):=A.sub b (by
   obtain⟨k,j,c,hk,hc⟩:=hb
   exact .there _ _ _ _ k j c hk hc)
  rcases P2 (fun hq=>(hr.nl hq).1) fG with⟨aO,he⟩|hF
  ·exact absurd he (rb b hb aO)
  ·exact hF
 ·cases md with
  |aF=>cases jA
  |live=>exact hl rfl k j pc hk hL
  |aa=>
   have:=Vr (px:=(G.g n).px) (by rw[<-hr.er];exact je rfl) hk
   rw[hL] at this;cases this
theorem xg {α:Type} {px:List (List α)} {k off k' j':Nat} {e:List α} {q c:α} (he:px[k]? =some e) (h:At (px.set k (e.set off q)) k' j' c):(k'=k/\j'=off/\c=q)\/(At px k' j' c/\(k',j')≠(k,off)):=by
 have hk:=(List.getElem?_eq_some_iff.1 he).1
 rcases Gd hk h with⟨rfl,h1⟩|⟨aC,h1⟩
 ·by_cases hj:j'=off
  ·subst hj
   have hl:j'<e.length:=by have:=(List.getElem?_eq_some_iff.1 h1).1;simpa using this
   rw[List.getElem?_set_self hl] at h1
   injection h1 with h1
   exact .inl ⟨rfl,rfl,h1.symm⟩
  ·rw[List.getElem?_set_ne (Ne.symm hj)] at h1
   exact .inr ⟨⟨e,he,h1⟩,fun e=>hj (congrArg Prod.snd e)⟩
 ·exact .inr ⟨h1,fun e=>aC (congrArg Prod.fst e)⟩
theorem aaH {α:Type} {px:List (List α)} {k off k' j':Nat} {e:List α} {q c:α} (he:px[k]? =some e) (h:At px k' j' c) (aC:(k',j')≠(k,off)):At (px.set k (e.set off q)) k' j' c:=by
 obtain⟨e',h1,h2⟩:=h
 by_cases hk:k'=k
 ·subst hk
  rw[he] at h1
  injection h1 with h1
  subst h1
  have hj:j'≠off:=fun e=>aC (by rw[e])
  exact⟨_,List.getElem?_set_self (List.getElem?_eq_some_iff.1 he).1,by rw[List.getElem?_set_ne (Ne.symm hj)];exact h2⟩
 ·exact⟨e',by rw[List.getElem?_set_ne (Ne.symm hk)];exact h1,h2⟩
theorem Uc (H:HR B E w G h used []) {n k off:Nat} {gr:Bool} {sz:Nat} {xs:List (List C)} (hn:h n=some (.row gr .live sz xs)) {pc:PC} (cr:At (G.g n).px k off pc) (hL:pc.gy=true)
  (rb:(G.g n).nl=false->w'.heap[(G.g n).b]? =w.heap[(G.g n).b]?) (M5:∀k' j' c,At (G.g n).px k' j' c->(k',j')≠(k,off)->∀b,aR b c->w'.heap[b]? =w.heap[b]?)
  {q:PC} (A:u7 w' .aa pc q) {ex:List C} (sk:xs[k]? =some ex):Ez w' (G.g n) (yr (G.g n) (.nest n k off) q) gr .live sz (xs.set k (ex.set off q.er)):=by
 have hr:=H.row n gr .live sz xs hn
 obtain⟨e0,kP,MI⟩:=cr
 have np:(G.g n).px.getD k []=e0:=by simp[List.getD_eq_getElem?_getD,kP]
 have fz:(yr (G.g n) (.nest n k off) q).px=(G.g n).px.set k (e0.set off q):=by simp only[yr,np]
 have adS:ex=e0.map PC.er:=by
  rw[hr.er,List.getElem?_map,kP] at sk
  simpa using sk.symm
 have cr:At (G.g n).px k off pc:=⟨e0,kP,MI⟩
 have hqL:q.gy=true:=by
  obtain⟨sz,a,cap,xs,rfl⟩:=PC.Xw A.val hL
  rfl
 have aO:(G.g n).nl=false:=by
  cases hq:(G.g n).nl with
  |false=>rfl
  |true=>rw[(hr.nl hq).1] at kP;simp at kP
 obtain⟨l1,l2,l3⟩:=hr.dE aO
 refine⟨by simp,.inr rfl,rfl,rfl,rfl,rfl,rfl,?_,fun h=>?_,fun _=>?_,?_,fun b hb=>?_,fun _ k' j' c da hc=>?_⟩
 ·rw[fz,hr.er,adS,List.map_set,List.map_set]
 ·rw[aO] at h;cases h
 ·rw[fz]
  refine⟨⟨fun e he=>?_,fun k' j' c da=>?_,fun k' j' c da=>?_⟩,by rw[List.length_set];exact l3⟩
  ·rcases List.mem_or_eq_of_mem_set he with he|rfl
   ·exact l2.1 e he
   ·rw[List.length_set];exact l2.1 e0 (List.mem_of_getElem? kP)
  ·rw[iE (rb aO)]
   rcases xg kP da with⟨rfl,rfl,rfl⟩|⟨h1,_⟩
   ·rw[A.val];exact l2.2.1 _ _ _ cr
   ·exact l2.2.1 _ _ _ h1
  ·rcases xg kP da with⟨rfl,rfl,rfl⟩|⟨h1,h2⟩
   ·exact A.dV
   ·exact(l2.2.2 _ _ _ h1).congr fun b hb o=>iE (M5 k' j' c h1 h2 b hb) o
 ·rw[fz]
  refine⟨fun k' j' c da=>?_,fun k1 j1 c1 k2 j2 c2 b h1 h2 aC hb aX=>?_⟩
  ·rcases xg kP da with⟨rfl,rfl,rfl⟩|⟨h1,h2⟩
   ·exact A.sep
   ·exact hr.mode.2.1 _ _ _ h1
  ·rcases xg kP h1 with⟨rfl,rfl,rfl⟩|⟨g1,n1⟩
   ·rcases xg kP h2 with⟨rfl,rfl,rfl⟩|⟨g2,n2⟩
    ·exact aC rfl
    ·exact hr.mode.2.2 _ _ _ _ _ _ b cr g2 aC (A.sub b hb) aX
   ·rcases xg kP h2 with⟨rfl,rfl,rfl⟩|⟨g2,n2⟩
    ·exact hr.mode.2.2 _ _ _ _ _ _ b g1 cr aC hb (A.sub b aX)
    ·exact hr.mode.2.2 _ _ _ _ _ _ b g1 g2 aC hb aX
 ·rw[fz] at hb
  obtain⟨k',j',c,da,hc⟩:=hb
  rcases xg kP da with⟨rfl,rfl,rfl⟩|⟨h1,h2⟩
  ·exact⟨_,_,_,cr,A.sub b hc⟩
  ·exact⟨_,_,_,h1,hc⟩
 ·rw[fz]
  by_cases he:(k',j')=(k,off)
  ·have h1:k'=k:=congrArg Prod.fst he
   have h2:j'=off:=congrArg Prod.snd he
   subst h1 h2
   obtain⟨e1,g1,g2⟩:=da
   rw[kP] at g1
   injection g1 with g1
   subst g1
   rw[MI] at g2
   injection g2 with g2
   subst g2
   have hl:j'<e0.length:=(List.getElem?_eq_some_iff.1 MI).1
   exact⟨q,⟨_,List.getElem?_set_self (List.getElem?_eq_some_iff.1 kP).1,List.getElem?_set_self hl⟩,A.val,hqL⟩
  ·exact⟨c,aaH kP da he,rfl,hc⟩
theorem XJ:∀{as:List aj} {fx:List (Bool×List ah)} {vals:List Value},wc as=some fx->vals.length=as.length->(∀(j:Nat) (x:aj) (v:Value),as[j]? =some x->vals[j]? =some v->RA w G h x v)->
  vals.length=fx.length/\∀(j:Nat) (x:Bool×List ah) (v:Value),fx[j]? =some x->vals[j]? =some v->RV w G h x.1 x.2 v
 |[],fx,vals,hx,hl,hc=>by
  simp only[wc] at hx
  injection hx with hx
  subst hx
  exact⟨hl,by simp⟩
 |y::as,fx,vals,hx,hl,hc=>by
  simp only[wc] at hx
  split at hx
  ·rename_i x xs e1 e2
   injection hx with hx
   subst hx
   match vals,hl with
   |v::vals,hl=>
    obtain⟨i1,i2⟩:=XJ e2 (vals:=vals) (by simpa using hl) (fun j x v h1 h2=>hc (j+1) x v h1 h2)
    refine⟨by simp[i1],fun j x' v' hj hv=>?_⟩
    cases j with
    |zero=>
     simp at hj hv
     subst hj hv
     have h0:=hc 0 y v rfl rfl
     cases y with
     |one c=>
      cases c<;>simp[aj.cells?] at e1<;>subst e1<;>exact h0.resolve_left (by simp)
     |agg cs=>
      simp[aj.cells?] at e1
      subst e1
      exact h0
     |bk l=>simp[aj.cells?] at e1
    |succ j=>exact i2 j x' v' (by simpa using hj) (by simpa using hv)
  ·cases hx
theorem rS.gy {it:de} {md:Mode} {pc:PC} (i:rS B E w G h it md pc):pc.gy=true:=by
 obtain⟨sz,a,cap,xs,rfl,_⟩:=i.ok.dE
 rfl
def EY (P:Program) (T:bh):Prop:=∀f sig M,bh.qT T.AP f=some (sig,M)->oK P f sig M
theorem abV (r:R B E w0 N σ a w G) {T:bh} (hT:EY P T) {m:Mode} {f:FuncId} {as:List aj} {vals:List Value} {σ1:St} (hN:∀n,o.dst=some n->n<N)
  (bo:(execOp a.eval o).run P w=.ok (.enter f vals.toArray) w) (hl:vals.length=as.length)
  (xE:∀(j:Nat) (x:aj) (v:Value),as[j]? =some x->vals[j]? =some v->RA w G σ.h x v)
  (hx:tz T m o.dst f as σ=some σ1):o.wp P a w (Nx B E w0 N σ1) Q:=by
 have H:=r.hr
 unfold tz at hx
 split at hx
 ·rename_i sig M fx hM adL
  split at hx
  ·rename_i gj
   split at hx
   ·rename_i ds its hv
    split at hx
    ·rename_i rs eJ tI
     split at hx
     ·rename_i σ2 qa
      split at hx
      ·rename_i ls gF vA
       injection hx with hx
       subst hx
       obtain⟨CQ,adH⟩:=XJ adL hl xE
       obtain⟨pas,q1,q2,q3,q4,q5,q6,q7⟩:=H.pu hv CQ adH
       have vE:(its.filterMap (·.1.dF)).Nodup:=by rw[q6];exact gj
       generalize Ho:eF sig (pas.map (·.ps))=fl at q5
       have HS:∀(i:Nat) (x:Mode×PC),fl[i]? =some x->∃it,its[i]? =some it/\it.2=x.1/\rS B E w G σ.h it.1 x.1 x.2:=by
        intro i x hi
        have bX:i<its.length:=by rw[q5.len];exact(List.getElem?_eq_some_iff.1 hi).1
        have he:its[i]? =some its[i]:=List.getElem?_eq_getElem bX
        exact⟨_,he,q5.at_ i _ x he hi⟩
       have Vt:∀x∈fl,∃it∈its,rS B E w G σ.h it.1 x.1 x.2:=by
        intro x hx
        obtain⟨i,hi⟩:=List.getElem?_of_mem hx
        obtain⟨it,h1,_,h2⟩:=HS i x hi
        exact⟨it,List.mem_of_getElem? h1,h2⟩
       have qY:∀x∈fl,∀b,aR b x.2->∃n gr m sz xs,n∈ox sig fx/\σ.h n=some (.row gr m sz xs)/\m≠ .aF/\sf G n b/\((∀b,¬aV b (G.g n).px)\/m=.live):=by
        intro x hx b hb
        obtain⟨it,h1,h2⟩:=Vt x hx
        obtain⟨n,gr,m,sz,xs,e1,e2,e3,e4,e5⟩:=h2.nX H hb
        exact⟨n,gr,m,sz,xs,by rw[<-q6];exact List.mem_filterMap.2 ⟨it,h1,e1⟩,e2,e3,e4,e5⟩
       have sk:∀b,La fl b->(B<=b\/E b):=by
        rintro b ⟨x,hx,hb⟩
        obtain⟨n,gr,m,sz,xs,_,e2,e3,e4,e5⟩:=qY x hx b hb
        rcases e4 with⟨aO,rfl⟩|hF
        ·exact(H.own n (by rw[e2];simp) aO).2.1
        ·have gK:=(H.row n gr m sz xs e2).mode
         cases m with
         |aF=>exact absurd rfl e3
         |aa=>exact(gK.1 b hF).2.2
         |live=>exact(gK.1 b hF).2.2
       have agn:Kj w sig ds vals pas:=by
        refine⟨q2,q1,q3,fun x hx=>?_,?_,fun pc bd x hx b hb aX=>?_,fun p hp hk=>absurd hk (q4 p hp),fun i p s hp _ hk=>absurd hk (q4 p (List.mem_of_getElem? hp))⟩
        ·rw[Ho] at hx
         obtain⟨it,_,h2⟩:=Vt x hx
         exact h2.ok
        ·rw[Ho,List.pairwise_iff_getElem]
         intro i j hi hj ko b hb aX
         obtain⟨it,h1,_,h2⟩:=HS i _ (List.getElem?_eq_getElem hi)
         obtain⟨yc,kO,_,zJ⟩:=HS j _ (List.getElem?_eq_getElem hj)
         obtain⟨n,gr,m,sz,xs,e1,e2,e3,e4,e5⟩:=h2.nX H hb
         obtain⟨n',bi,m',aK,ar,GF,vl,e3',GG,zA⟩:=zJ.nX H aX
         have aC:n≠n':=by
          rintro rfl
          have:=Io vE h1 kO e1 GF
          omega
         exact H.G0 aC e2 vl zA e4 GG
        ·rw[Ho] at hx
         obtain⟨n',bi,m',aK,ar,GF,vl,e3',GG,zA⟩:=qY x hx b aX
         rcases q7 pc bd b hb with hi|⟨n,gr,m,sz,xs,hn,e2,e4⟩
         ·rcases GG with⟨aO,rfl⟩|hF
          ·exact(H.own n' (by rw[vl];simp) aO).1 hi
          ·rcases zA with zA|rfl
           ·exact zA b hF
           ·exact((H.row n' bi .live aK ar vl).mode.1 b hF).1 hi
         ·have aC:n≠n':=fun e=>hn (e▸GF)
          exact H.G0 aC e2 vl zA e4 GG
       unfold Oper.wp
       rw[bo]
       refine(hT f sig M hM ds rs eJ tI w vals pas agn).mono fun e w' ⟨aU,p1,p2,p3,p4,p5,qs,p6,p7,p8⟩=>?_
       subst p2
       rw[Ho] at p5 p7 p8
       obtain⟨t1,t2,t3,t4⟩:=Yx qa vE
       have VO:∀n,n∈ox sig fx->∃(i:Nat) (it:de×Mode) (x:Mode×PC) (q:PC),its[i]? =some it/\fl[i]? =some x/\qs[i]? =some q/\eJ[i]? =some q.er/\it.1.dF=some n/\rS B E w G σ.h it.1 x.1 x.2/\u7 w' x.1 x.2 q:=by
        intro n hn
        rw[<-q6,List.mem_filterMap] at hn
        obtain⟨it,Hr,fT⟩:=hn
        obtain⟨i,hi⟩:=List.getElem?_of_mem Hr
        have bX:i<fl.length:=by rw[<-q5.len];exact(List.getElem?_eq_some_iff.1 hi).1
        have hx:fl[i]? =some fl[i]:=List.getElem?_eq_getElem bX
        have hq:qs[i]? =some (qs[i]'(by rw[p7];exact bX)):=List.getElem?_eq_getElem _
        exact⟨i,it,_,_,hi,hx,hq,by rw[<-p6,List.getElem?_map,hq];rfl,fT,(q5.at_ i it _ hi hx).2,p8 i _ _ hx hq⟩
       have aer:∀b,b<w.heap.size->(∀n,n∈ox sig fx->¬sf G n b)->w'.heap[b]? =w.heap[b]? :=by
        intro b hb ct
        refine p5.block b hb ?_
        rintro⟨x,hx,CG⟩
        obtain⟨n,gr,m,sz,xs,e1,e2,e3,e4,e5⟩:=qY x hx b CG
        exact ct n e1 e4
       have ad7:∀b,b<w.heap.size->(∀x∈fl,¬aR b x.2)->w'.heap[b]? =w.heap[b]? :=fun b hb ct=>p5.block b hb (by rintro⟨x,hx,CG⟩;exact ct x hx CG)
       obtain⟨w5,K,fo⟩:=H.Py (G':=xB G its qs) (h':=σ2.h) (w':=w') (S:=fun n=>n∈ox sig fx) p5.size aer (fun b hb=>p5.kH b hb) rfl (fun n hn=>by
        obtain⟨i,it,x,q,hi,Wz,o7,jY,fT,fH,CB⟩:=VO n hn
        have cr:=fH.at_
        have We:=t4 i it q.er hi jY
        rw[adD vE hi o7 fT]
        obtain⟨NI,md⟩:=it
        cases NI with
        |nil sz=>cases fT
        |row n'=>
         injection fT with fT
         have fT:n'=n:=fT
         subst fT
         obtain⟨gr,mo,sz,xs,e1,e2,e3,e4,e5⟩:=cr
         obtain⟨bi,nC,uH,kL,ar,g1,g2,g3⟩:=We
         rw[e1] at g1
         injection g1 with g1
         injection g1 with a1 a2 a3 a4
         subst a1 a2 a3 a4
         rw[e4] at CB
         exact⟨gr,mo,sz,xs,ar,e1,g3,aa2 H e1 e2 e3 e5 CB g2⟩
        |nest n' k off=>
         injection fT with fT
         have fT:n'=n:=fT
         subst fT
         obtain⟨gr,sz,xs,e1,e2,e3⟩:=cr
         obtain⟨bi,nC,uH,kL,ex,g1,g2,g3⟩:=We
         rw[e1] at g1
         injection g1 with g1
         injection g1 with a1 a2 a3 a4
         subst a1 a2 a3 a4
         rw[e2] at CB
         have hr:=H.row n' gr .live sz xs e1
         have bN:σ.h n'≠none:=by rw[e1];simp
         have Hy:∀b,sf G n' b->¬aR b x.2->w'.heap[b]? =w.heap[b]? :=by
          intro b hb xR
          have bX:b<w.heap.size:=by
           rcases hb with⟨aO,rfl⟩|hF
           ·exact(H.own n' bN aO).2.2
           ·exact H.qA e1 hF
          refine ad7 b bX fun y hy pV=>?_
          obtain⟨j,hj⟩:=List.getElem?_of_mem hy
          by_cases ko:j=i
          ·subst ko
           rw[Wz] at hj
           injection hj with hj
           subst hj
           exact xR pV
          ·obtain⟨yc,kO,_,zJ⟩:=HS j y hj
           obtain⟨n2,zI,m2,kG,il,f1,f2,f3,f4,f5⟩:=zJ.nX H pV
           have aC:n'≠n2:=by
            rintro rfl
            exact ko (Io vE kO hi f1 rfl)
           exact H.G0 aC e1 f2 f5 hb f4
         refine⟨gr,.live,sz,xs,_,e1,g3,Uc H e1 e3 fH.gy (fun aO=>Hy _ (.inl ⟨aO,rfl⟩) fun hb=>?_) (fun k' j' c hk aC b hb=>Hy b (.inr ⟨k',j',c,hk,hb⟩) fun CG=>?_) CB g2⟩
         ·exact H.live n' gr sz xs e1 _ ⟨k,off,x.2,e3,hb⟩ n' bN aO rfl
         ·exact hr.mode.2.2 _ _ _ _ _ _ b hk e3 aC hb CG) (fun n hn=>⟨t3 n (by rw[q6];exact hn),adE (by rw[q6];exact hn)⟩)
       have HR2:HR B E w' (xB G its qs) σ2.h σ2.used []:=by rw[t2];exact w5
       have fG:tj B w' (xB G its qs) σ2.h (aU.flatMap (·.2)):=by
        refine⟨p4.dV,fun pc bd b hb=>?_,?_⟩
        ·obtain⟨n1,n2⟩:=p4.new pc bd b hb
         refine⟨⟨fun hi=>?_,fun q hq jB he=>?_,fun q gr mo sz xs hq cl=>?_⟩,n2,Nat.le_trans r.fr.size n1⟩
         ·have:=H.fL b hi;omega
         ·obtain⟨k0,k1,k2,_⟩:=K.name q (w5.jb q hq) hq
          have:=(H.own q k0 (k1.symm.trans jB)).2.2
          rw[<-k2] at this
          omega
         ·have aX:=fo q b cl
          have z9:=w5.jb q (by rw[hq];simp)
          obtain⟨k0,_⟩:=K.name q z9 (by rw[hq];simp)
          cases hh:σ.h q with
          |none=>exact absurd hh k0
          |some blk=>
           cases blk with
           |box cs=>
            have:q∉ox sig fx:=by
             intro hm
             obtain⟨i,it,x,q',hi,Wz,o7,jY,fT,fH,CB⟩:=VO q hm
             have cr:=fH.at_
             obtain⟨NI,md⟩:=it
             cases NI with
             |nil sz=>cases fT
             |row n'=>
              injection fT with fT
              have fT:n'=q:=fT
              subst fT
              obtain⟨gr,mo,sz,xs,e1,_⟩:=cr
              rw[hh] at e1;cases e1
             |nest n' k off=>
              injection fT with fT
              have fT:n'=q:=fT
              subst fT
              obtain⟨gr,sz,xs,e1,_⟩:=cr
              rw[hh] at e1;cases e1
            have h3:=t3 q (by rw[q6];exact this)
            rw[h3,hh] at hq
            cases hq
           |row bi m' aK ar=>have:=H.qA hh aX;omega
        ·rw[List.pairwise_iff_getElem]
         intro i j hi hj ko b hb
         exact p4.nb i j _ _ b (by omega) (List.getElem?_eq_getElem hi) (List.getElem?_eq_getElem hj) hb
       rw[<-p1] at vA
       obtain⟨G',b1,b2,b3,b4,b5,b6,b7⟩:=HR.jK HR2 vA p3 fG
       have xL:Fr B E w0 w':=by
        refine⟨p5.os.trans r.fr.os,p5.tape.trans r.fr.tape,p5.output.trans r.fr.output,Nat.le_trans r.fr.size p5.size,fun b hb he=>?_,fun b hb=>?_⟩
        ·refine(p5.block b (Nat.lt_of_lt_of_le hb r.fr.size) fun hx=>?_).trans (r.fr.block b hb he)
         rcases sk b hx with h1|h1
         ·omega
         ·exact he h1
        ·exact(r.fr.kH b hb).trans (p5.kH b (Nat.lt_of_lt_of_le hb r.fr.size))
       have K2:aY w G σ.h (fun n=>σ.used n=true) w' G' gF.h:=aY.trans (fun n hn=>by rw[t2];exact hn) K b2
       have r2:R B E w0 N gF a w' G':=r.step (b6.trans t1) (fun q hq=>b7 q (by rw[t2];exact hq)) K2 b1 xL
       refine⟨G',r2.put (RA.me b3 p3 b4) ?_ hN⟩
       intro q hq
       match ls,hq with
       |[],hq=>obtain⟨x,hx,_⟩:=hq;simp at hx
       |[(true,cs)],hq=>obtain⟨c,hc,hq⟩:=hq;exact b5 (true,cs) (by simp) c hc q hq
       |[(false,[c])],hq=>exact b5 (false,[c]) (by simp) c (by simp) q hq
       |[(false,[])],hq=>exact absurd hq id
       |[(false,_::_::_)],hq=>exact absurd hq id
       |x::y::ls,hq=>obtain⟨x',eT,c,hc,hq⟩:=hq;exact b5 x' eT c hc q hq
      ·cases hx
     ·cases hx
    ·cases hx
   ·cases hx
  ·cases hx
 ·cases hx
theorem abO (r:R B E w0 N σ a w G) {T:bh} (hT:EY P T) {m:Mode} {f:FuncId} {xs:Array Operand} {ms:List MO} {ts:Array TypeId} {σ1:St} (hN:∀n,o.dst=some n->n<N)
  (ho:o.op=.call {callee:=.value (.func f),args:=xs,argTypes:=ts}) (hf:bF P f=true) (hm:iw xs.toList ms=true)
  (hx:tz T m o.dst f (ms.map σ.ev) σ=some σ1):o.wp P a w (Nx B E w0 N σ1) Q:=by
 obtain⟨e1,e2⟩:=r.zE hm
 refine abV r hT (vals:=xs.toList.map a.eval) hN ?_ (by simpa using e1) e2 hx
 have he:(xs.toList.map a.eval).toArray=xs.map a.eval:=by apply Array.ext';simp
 rw[he]
 simp[execOp,ho,resolve,Deferred.ofValue,invoke,Act.eval,Be hf]
end
end Go.Am
