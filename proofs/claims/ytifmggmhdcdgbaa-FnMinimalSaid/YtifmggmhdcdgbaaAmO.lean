/- AmO: calls that change lists of their arguments. No condition. -/
import Derived.Test.YtifmggmhdcdgbaaAmN
set_option linter.unusedVariables false
namespace Go.Am
section
variable {B:Nat} {E:Ex} {w0 w w':World} {G G':Gh} {N:Nat} {h h':Nat->Option aq} {used:Nat->Bool}
variable {P:Program} {o:Oper} {a:Act} {σ σ':St} {Q:Exit->Act->World->Prop}
def yl (p:PB):c6->PC->PB
 |.row _,.list _ _ _ px=>{p with px:=px}
 |.nest _ k off,q=>{p with px:=p.px.set k ((p.px.getD k []).set off q)}
 |_,_=>p
open Classical in
noncomputable def xn (G:Gh) (its:List (c6×Mode)) (qs:List PC):Gh:=
 ⟨G.Im,fun n=>if h:∃p:(c6×Mode)×PC,∃i:Nat,its[i]? =some p.1/\qs[i]? =some p.2/\p.1.1.dC=some n then yl (G.g n) h.choose.1.1 h.choose.2 else G.g n⟩
theorem acU {its:List (c6×Mode)} {qs:List PC} (fL:(its.filterMap (·.1.dC)).Nodup) {i n:Nat} {it:c6×Mode} {q:PC} (hi:its[i]? =some it) (hq:qs[i]? =some q) (hn:it.1.dC=some n):
  (xn G its qs).g n=yl (G.g n) it.1 q:=by
 have rP:∃p:(c6×Mode)×PC,∃i:Nat,its[i]? =some p.1/\qs[i]? =some p.2/\p.1.1.dC=some n:=⟨(it,q),i,hi,hq,hn⟩
 unfold xn
 simp only
 rw[dif_pos rP]
 obtain⟨j,h1,h2,h3⟩:=rP.choose_spec
 have jN:=H5 fL h1 hi h3 hn
 subst jN
 rw[hi] at h1
 rw[hq] at h2
 injection h1 with h1
 injection h2 with h2
 rw[<-h1,<-h2]
theorem acV {its:List (c6×Mode)} {qs:List PC} {n:Nat} (hn:n∉its.filterMap (·.1.dC)):(xn G its qs).g n=G.g n:=by
 unfold xn
 simp only
 rw[dif_neg]
 rintro⟨p,i,h1,h2,h3⟩
 exact hn (List.mem_filterMap.2 ⟨p.1,List.mem_of_getElem? h1,h3⟩)
theorem PC.Xn {pc q:PC} (hv:q.val=pc.val) (hL:pc.f7=true):∃sz a cap xs,q=.list sz a cap xs:=by
 cases pc with
 |int k n=>cases hL
 |bool b=>cases hL
 |list sz a cap xs=>
  cases q with
  |int k n=>cases hv
  |bool b=>cases hv
  |list sz a cap xs=>exact⟨_,_,_,_,rfl⟩
theorem UM {px:List (List PC)} (hs:fB (px.map fun e=>e.map PC.er)=true) {k j:Nat} {c:PC} (hk:At px k j c):c.f7=false:=by
 obtain⟨e,he,hj⟩:=hk
 have h6:=List.all_eq_true.1 hs (e.map PC.er) (by simp only[List.mem_map];exact⟨e,List.mem_of_getElem? he,rfl⟩)
 have h7:=List.all_eq_true.1 h6 c.er (by simp only[List.mem_map];exact⟨c,List.mem_of_getElem? hj,rfl⟩)
 cases hL:c.f7 with
 |false=>rfl
 |true=>rw[PC.WT hL] at h7;cases h7
theorem UL {px:List (List PC)} (hs:fB (px.map fun e=>e.map PC.er)=true) (b:Nat):¬aP b px:=by
 rintro⟨k,j,c,⟨e,he,hj⟩,hc⟩
 have h6:=List.all_eq_true.1 hs (e.map PC.er) (by simp only[List.mem_map];exact⟨e,List.mem_of_getElem? he,rfl⟩)
 have h7:=List.all_eq_true.1 h6 c.er (by simp only[List.mem_map];exact⟨c,List.mem_of_getElem? hj,rfl⟩)
 exact(Sep.kA h7).2 b hc
theorem aaM (H:HR B E w G h used []) {n:Nat} {gr:Bool} {m md:Mode} {sz:Nat} {xs:List (List C)} (hn:h n=some (.row gr m sz xs)) (hm:m≠ .aA) (rT:md=.live->m=.live) (iP:rJ md xs=true)
  {q:PC} (A:uz w' md (oJ sz (G.g n)) q) {k:Nat} {ar:List (List C)} (hq:q.er=.list k ar):Ev w' (G.g n) (yl (G.g n) (.row n) q) gr m sz ar:=by
 have hr:=H.row n gr m sz xs hn
 have bM:h n≠none:=by rw[hn];simp
 obtain⟨aG,a',rB,px',rfl⟩:=PC.Xn A.val rfl
 obtain⟨rfl,ha,rfl,hlen,hl⟩:=A.live _ _ _ _ _ _ _ _ rfl rfl
 rw[PC.dr] at hq
 injection hq with _ hq
 have jO:=A.sep
 have eu:(∀k j c,At px' k j c->Sep c)/\(∀b o k j c,a'=some (ad b o)->At px' k j c->¬aM b c)/\gS px':=by
  cases jO with
  |list _ _ _ _ h1 h2 h3=>exact⟨h1,h2,h1,h3⟩
 have qG:∀b,aP b px'->(G.g n).nl=false->b≠(G.g n).b:=by
  rintro b ⟨k,j,c,hk,hc⟩ aK rfl
  refine eu.2.1 (G.g n).b (G.g n).o k j c ?_ hk hc
  rw[ha,if_neg (by simp[aK])]
 have iD:md=.ae->fB xs=true:=by rintro rfl;exact iP
 refine⟨hm,?_,rfl,rfl,rfl,rfl,rfl,hq.symm,fun aK=>?_,fun aK=>?_,eu.2.2,fun b hb=>?_,fun cR k j pc hk hL=>?_⟩
 ·cases md with
  |aA=>cases iP
  |live=>exact .inr (rT rfl)
  |ae=>exact .inl (UL (by rw[<-hr.er];exact iD rfl))
 ·have:=(hr.nl aK).1
  rw[this] at hlen
  exact List.eq_nil_of_length_eq_zero hlen
 ·refine⟨?_,?_⟩
  ·have hg:=A.ek
   rw[ha,if_neg (by simp[aK])] at hg
   by_cases h0:px'=[]
   ·show nT w' _ _ _ px'
    rw[h0]
    exact⟨by simp,by rintro k j c ⟨e,he,_⟩;simp at he,by rintro k j c ⟨e,he,_⟩;simp at he⟩
   ·generalize jo:PC.list aG (some (ad (G.g n).b (G.g n).o)) (G.g n).cap px'=q2 at hg
    cases hg with
    |int k n=>cases jo
    |bool b=>cases jo
    |nil _ _ _ _=>injection jo with _ _ _ e4;exact absurd e4 h0
    |cons _ _ _ _ _ h1 h2 h3 h4 h5 h6=>
     injection jo with e1 e2 e3 e4
     injection e2 with e2
     obtain⟨e5,e6⟩:=nb e2
     subst e1 e3 e4
     rw[e5,e6]
     exact⟨h4,h5,h6⟩
  ·show px'.length<=_
   rw[hlen]
   exact(hr.dB aK).2.2
 ·have eo:aM b (oJ aG (G.g n)):=A.sub b (by
   obtain⟨k,j,c,hk,hc⟩:=hb
   exact .there _ _ _ _ k j c hk hc)
  rcases PP (fun hq=>(hr.nl hq).1) eo with⟨aK,he⟩|hF
  ·exact absurd he (qG b hb aK)
  ·exact hF
 ·cases md with
  |aA=>cases iP
  |live=>exact hl rfl k j pc hk hL
  |ae=>
   have:=UM (px:=(G.g n).px) (by rw[<-hr.er];exact iD rfl) hk
   rw[hL] at this;cases this
theorem wS {α:Type} {px:List (List α)} {k off k' j':Nat} {e:List α} {q c:α} (he:px[k]? =some e) (h:At (px.set k (e.set off q)) k' j' c):(k'=k/\j'=off/\c=q)\/(At px k' j' c/\(k',j')≠(k,off)):=by
 have hk:=(List.getElem?_eq_some_iff.1 he).1
 rcases FQ hk h with⟨rfl,h1⟩|⟨aw,h1⟩
 ·by_cases hj:j'=off
  ·subst hj
   have hl:j'<e.length:=by have:=(List.getElem?_eq_some_iff.1 h1).1;simpa using this
   rw[List.getElem?_set_self hl] at h1
   injection h1 with h1
   exact .inl ⟨rfl,rfl,h1.symm⟩
  ·rw[List.getElem?_set_ne (Ne.symm hj)] at h1
   exact .inr ⟨⟨e,he,h1⟩,fun e=>hj (congrArg Prod.snd e)⟩
 ·exact .inr ⟨h1,fun e=>aw (congrArg Prod.fst e)⟩
theorem aaw {α:Type} {px:List (List α)} {k off k' j':Nat} {e:List α} {q c:α} (he:px[k]? =some e) (h:At px k' j' c) (aw:(k',j')≠(k,off)):At (px.set k (e.set off q)) k' j' c:=by
 obtain⟨e',h1,h2⟩:=h
 by_cases hk:k'=k
 ·subst hk
  rw[he] at h1
  injection h1 with h1
  subst h1
  have hj:j'≠off:=fun e=>aw (by rw[e])
  exact⟨_,List.getElem?_set_self (List.getElem?_eq_some_iff.1 he).1,by rw[List.getElem?_set_ne (Ne.symm hj)];exact h2⟩
 ·exact⟨e',by rw[List.getElem?_set_ne (Ne.symm hk)];exact h1,h2⟩
theorem Tz (H:HR B E w G h used []) {n k off:Nat} {gr:Bool} {sz:Nat} {xs:List (List C)} (hn:h n=some (.row gr .live sz xs)) {pc:PC} (bO:At (G.g n).px k off pc) (hL:pc.f7=true)
  (qG:(G.g n).nl=false->w'.heap[(G.g n).b]? =w.heap[(G.g n).b]?) (Mj:∀k' j' c,At (G.g n).px k' j' c->(k',j')≠(k,off)->∀b,aM b c->w'.heap[b]? =w.heap[b]?)
  {q:PC} (A:uz w' .ae pc q) {ex:List C} (rP:xs[k]? =some ex):Ev w' (G.g n) (yl (G.g n) (.nest n k off) q) gr .live sz (xs.set k (ex.set off q.er)):=by
 have hr:=H.row n gr .live sz xs hn
 obtain⟨e0,km,LW⟩:=bO
 have mH:(G.g n).px.getD k []=e0:=by simp[List.getD_eq_getElem?_getD,km]
 have fj:(yl (G.g n) (.nest n k off) q).px=(G.g n).px.set k (e0.set off q):=by simp only[yl,mH]
 have ac9:ex=e0.map PC.er:=by
  rw[hr.er,List.getElem?_map,km] at rP
  simpa using rP.symm
 have bO:At (G.g n).px k off pc:=⟨e0,km,LW⟩
 have hqL:q.f7=true:=by
  obtain⟨sz,a,cap,xs,rfl⟩:=PC.Xn A.val hL
  rfl
 have aK:(G.g n).nl=false:=by
  cases hq:(G.g n).nl with
  |false=>rfl
  |true=>rw[(hr.nl hq).1] at km;simp at km
 obtain⟨l1,l2,l3⟩:=hr.dB aK
 refine⟨by simp,.inr rfl,rfl,rfl,rfl,rfl,rfl,?_,fun h=>?_,fun _=>?_,?_,fun b hb=>?_,fun _ k' j' c cW hc=>?_⟩
 ·rw[fj,hr.er,ac9,List.map_set,List.map_set]
 ·rw[aK] at h;cases h
 ·rw[fj]
  refine⟨⟨fun e he=>?_,fun k' j' c cW=>?_,fun k' j' c cW=>?_⟩,by rw[List.length_set];exact l3⟩
  ·rcases List.mem_or_eq_of_mem_set he with he|rfl
   ·exact l2.1 e he
   ·rw[List.length_set];exact l2.1 e0 (List.mem_of_getElem? km)
  ·rw[hZ (qG aK)]
   rcases wS km cW with⟨rfl,rfl,rfl⟩|⟨h1,_⟩
   ·rw[A.val];exact l2.2.1 _ _ _ bO
   ·exact l2.2.1 _ _ _ h1
  ·rcases wS km cW with⟨rfl,rfl,rfl⟩|⟨h1,h2⟩
   ·exact A.ek
   ·exact(l2.2.2 _ _ _ h1).congr fun b hb o=>hZ (Mj k' j' c h1 h2 b hb) o
 ·rw[fj]
  refine⟨fun k' j' c cW=>?_,fun k1 j1 c1 k2 j2 c2 b h1 h2 aw hb aR=>?_⟩
  ·rcases wS km cW with⟨rfl,rfl,rfl⟩|⟨h1,h2⟩
   ·exact A.sep
   ·exact hr.mode.2.1 _ _ _ h1
  ·rcases wS km h1 with⟨rfl,rfl,rfl⟩|⟨g1,n1⟩
   ·rcases wS km h2 with⟨rfl,rfl,rfl⟩|⟨g2,n2⟩
    ·exact aw rfl
    ·exact hr.mode.2.2 _ _ _ _ _ _ b bO g2 aw (A.sub b hb) aR
   ·rcases wS km h2 with⟨rfl,rfl,rfl⟩|⟨g2,n2⟩
    ·exact hr.mode.2.2 _ _ _ _ _ _ b g1 bO aw hb (A.sub b aR)
    ·exact hr.mode.2.2 _ _ _ _ _ _ b g1 g2 aw hb aR
 ·rw[fj] at hb
  obtain⟨k',j',c,cW,hc⟩:=hb
  rcases wS km cW with⟨rfl,rfl,rfl⟩|⟨h1,h2⟩
  ·exact⟨_,_,_,bO,A.sub b hc⟩
  ·exact⟨_,_,_,h1,hc⟩
 ·rw[fj]
  by_cases he:(k',j')=(k,off)
  ·have h1:k'=k:=congrArg Prod.fst he
   have h2:j'=off:=congrArg Prod.snd he
   subst h1 h2
   obtain⟨e1,g1,g2⟩:=cW
   rw[km] at g1
   injection g1 with g1
   subst g1
   rw[LW] at g2
   injection g2 with g2
   subst g2
   have hl:j'<e0.length:=(List.getElem?_eq_some_iff.1 LW).1
   exact⟨q,⟨_,List.getElem?_set_self (List.getElem?_eq_some_iff.1 km).1,List.getElem?_set_self hl⟩,A.val,hqL⟩
  ·exact⟨c,aaw km cW he,rfl,hc⟩
theorem XD:∀{as:List ak} {fh:List (Bool×List ai)} {vals:List Value},vI as=some fh->vals.length=as.length->(∀(j:Nat) (x:ak) (v:Value),as[j]? =some x->vals[j]? =some v->RA w G h x v)->
  vals.length=fh.length/\∀(j:Nat) (x:Bool×List ai) (v:Value),fh[j]? =some x->vals[j]? =some v->RV w G h x.1 x.2 v
 |[],fh,vals,hx,hl,hc=>by
  simp only[vI] at hx
  injection hx with hx
  subst hx
  exact⟨hl,by simp⟩
 |y::as,fh,vals,hx,hl,hc=>by
  simp only[vI] at hx
  split at hx
  ·rename_i x xs e1 e2
   injection hx with hx
   subst hx
   match vals,hl with
   |v::vals,hl=>
    obtain⟨i1,i2⟩:=XD e2 (vals:=vals) (by simpa using hl) (fun j x v h1 h2=>hc (j+1) x v h1 h2)
    refine⟨by simp[i1],fun j x' v' hj hv=>?_⟩
    cases j with
    |zero=>
     simp at hj hv
     subst hj hv
     have h0:=hc 0 y v rfl rfl
     cases y with
     |one c=>
      cases c<;>simp[ak.cells?] at e1<;>subst e1<;>exact h0.resolve_left (by simp)
     |agg cs=>
      simp[ak.cells?] at e1
      subst e1
      exact h0
     |bn l=>simp[ak.cells?] at e1
    |succ j=>exact i2 j x' v' (by simpa using hj) (by simpa using hv)
  ·cases hx
theorem rp.f7 {it:c6} {md:Mode} {pc:PC} (i:rp B E w G h it md pc):pc.f7=true:=by
 obtain⟨sz,a,cap,xs,rfl,_⟩:=i.ok.dB
 rfl
def E4 (P:Program) (T:bg):Prop:=∀f sig M,bg.qt T.AP f=some (sig,M)->uA P f sig M
theorem abD (r:R B E w0 N σ a w G) {T:bg} (hT:E4 P T) {m:Mode} {f:FuncId} {as:List ak} {vals:List Value} {σ1:St} (hN:∀n,o.dst=some n->n<N)
  (bK:(execOp a.eval o).run P w=.ok (.enter f vals.toArray) w) (hl:vals.length=as.length)
  (xq:∀(j:Nat) (x:ak) (v:Value),as[j]? =some x->vals[j]? =some v->RA w G σ.h x v)
  (hx:tc T m o.dst f as σ=some σ1):o.wp P a w (Nx B E w0 N σ1) Q:=by
 have H:=r.hr
 unfold tc at hx
 split at hx
 ·rename_i sig M fh hM ac2
  split at hx
  ·rename_i fL
   split at hx
   ·rename_i ds its hv
    split at hx
    ·rename_i rs d7 tg
     split at hx
     ·rename_i σ2 pq
      split at hx
      ·rename_i ls gj u6
       injection hx with hx
       subst hx
       obtain⟨zN,acY⟩:=XD ac2 hl xq
       obtain⟨pas,q1,q2,q3,q4,q5,q6,q7⟩:=H.oB hv zN acY
       have vc:(its.filterMap (·.1.dC)).Nodup:=by rw[q6];exact fL
       generalize GV:dW sig (pas.map (·.ps))=fl at q5
       have HA:∀(i:Nat) (x:Mode×PC),fl[i]? =some x->∃it,its[i]? =some it/\it.2=x.1/\rp B E w G σ.h it.1 x.1 x.2:=by
        intro i x hi
        have bL:i<its.length:=by rw[q5.len];exact(List.getElem?_eq_some_iff.1 hi).1
        have he:its[i]? =some its[i]:=List.getElem?_eq_getElem bL
        exact⟨_,he,q5.at_ i _ x he hi⟩
       have UO:∀x∈fl,∃it∈its,rp B E w G σ.h it.1 x.1 x.2:=by
        intro x hx
        obtain⟨i,hi⟩:=List.getElem?_of_mem hx
        obtain⟨it,h1,_,h2⟩:=HA i x hi
        exact⟨it,List.mem_of_getElem? h1,h2⟩
       have qB:∀x∈fl,∀b,aM b x.2->∃n gr m sz xs,n∈nD sig fh/\σ.h n=some (.row gr m sz xs)/\m≠ .aA/\rL G n b/\((∀b,¬aP b (G.g n).px)\/m=.live):=by
        intro x hx b hb
        obtain⟨it,h1,h2⟩:=UO x hx
        obtain⟨n,gr,m,sz,xs,e1,e2,e3,e4,e5⟩:=h2.nj H hb
        exact⟨n,gr,m,sz,xs,by rw[<-q6];exact List.mem_filterMap.2 ⟨it,h1,e1⟩,e2,e3,e4,e5⟩
       have rP:∀b,KB fl b->(B<=b\/E b):=by
        rintro b ⟨x,hx,hb⟩
        obtain⟨n,gr,m,sz,xs,_,e2,e3,e4,e5⟩:=qB x hx b hb
        rcases e4 with⟨aK,rfl⟩|hF
        ·exact(H.own n (by rw[e2];simp) aK).2.1
        ·have gu:=(H.row n gr m sz xs e2).mode
         cases m with
         |aA=>exact absurd rfl e3
         |ae=>exact(gu.1 b hF).2.2
         |live=>exact(gu.1 b hF).2.2
       have agz:JJ w sig ds vals pas:=by
        refine⟨q2,q1,q3,fun x hx=>?_,?_,fun pc aV x hx b hb aR=>?_,fun p hp hk=>absurd hk (q4 p hp),fun i p s hp _ hk=>absurd hk (q4 p (List.mem_of_getElem? hp))⟩
        ·rw[GV] at hx
         obtain⟨it,_,h2⟩:=UO x hx
         exact h2.ok
        ·rw[GV,List.pairwise_iff_getElem]
         intro i j hi hj jN b hb aR
         obtain⟨it,h1,_,h2⟩:=HA i _ (List.getElem?_eq_getElem hi)
         obtain⟨xW,iB,_,uW⟩:=HA j _ (List.getElem?_eq_getElem hj)
         obtain⟨n,gr,m,sz,xs,e1,e2,e3,e4,e5⟩:=h2.nj H hb
         obtain⟨n',bh,m',aG,ar,Gg,uO,e3',Gi,zv⟩:=uW.nj H aR
         have aw:n≠n':=by
          rintro rfl
          have:=H5 vc h1 iB e1 Gg
          omega
         exact H.GD aw e2 uO zv e4 Gi
        ·rw[GV] at hx
         obtain⟨n',bh,m',aG,ar,Gg,uO,e3',Gi,zv⟩:=qB x hx b aR
         rcases q7 pc aV b hb with hi|⟨n,gr,m,sz,xs,hn,e2,e4⟩
         ·rcases Gi with⟨aK,rfl⟩|hF
          ·exact(H.own n' (by rw[uO];simp) aK).1 hi
          ·rcases zv with zv|rfl
           ·exact zv b hF
           ·exact((H.row n' bh .live aG ar uO).mode.1 b hF).1 hi
         ·have aw:n≠n':=fun e=>hn (e▸Gg)
          exact H.GD aw e2 uO zv e4 Gi
       unfold Oper.wp
       rw[bK]
       refine(hT f sig M hM ds rs d7 tg w vals pas agz).mono fun e w' ⟨aO,p1,p2,p3,p4,p5,qs,p6,p7,p8⟩=>?_
       subst p2
       rw[GV] at p5 p7 p8
       obtain⟨t1,t2,t3,t4⟩:=Yn pq vc
       have Vc:∀n,n∈nD sig fh->∃(i:Nat) (it:c6×Mode) (x:Mode×PC) (q:PC),its[i]? =some it/\fl[i]? =some x/\qs[i]? =some q/\d7[i]? =some q.er/\it.1.dC=some n/\rp B E w G σ.h it.1 x.1 x.2/\uz w' x.1 x.2 q:=by
        intro n hn
        rw[<-q6,List.mem_filterMap] at hn
        obtain⟨it,u9,fE⟩:=hn
        obtain⟨i,hi⟩:=List.getElem?_of_mem u9
        have bL:i<fl.length:=by rw[<-q5.len];exact(List.getElem?_eq_some_iff.1 hi).1
        have hx:fl[i]? =some fl[i]:=List.getElem?_eq_getElem bL
        have hq:qs[i]? =some (qs[i]'(by rw[p7];exact bL)):=List.getElem?_eq_getElem _
        exact⟨i,it,_,_,hi,hx,hq,by rw[<-p6,List.getElem?_map,hq];rfl,fE,(q5.at_ i it _ hi hx).2,p8 i _ _ hx hq⟩
       have adN:∀b,b<w.heap.size->(∀n,n∈nD sig fh->¬rL G n b)->w'.heap[b]? =w.heap[b]? :=by
        intro b hb cf
        refine p5.block b hb ?_
        rintro⟨x,hx,CI⟩
        obtain⟨n,gr,m,sz,xs,e1,e2,e3,e4,e5⟩:=qB x hx b CI
        exact cf n e1 e4
       have adt:∀b,b<w.heap.size->(∀x∈fl,¬aM b x.2)->w'.heap[b]? =w.heap[b]? :=fun b hb cf=>p5.block b hb (by rintro⟨x,hx,CI⟩;exact cf x hx CI)
       obtain⟨wJ,K,eO⟩:=H.Pj (G':=xn G its qs) (h':=σ2.h) (w':=w') (S:=fun n=>n∈nD sig fh) p5.size adN (fun b hb=>p5.j7 b hb) rfl (fun n hn=>by
        obtain⟨i,it,x,q,hi,V1,n8,jn,fE,eF,CE⟩:=Vc n hn
        have bO:=eF.at_
        have VG:=t4 i it q.er hi jn
        rw[acU vc hi n8 fE]
        obtain⟨Nm,md⟩:=it
        cases Nm with
        |nil sz=>cases fE
        |row n'=>
         injection fE with fE
         have fE:n'=n:=fE
         subst fE
         obtain⟨gr,mo,sz,xs,e1,e2,e3,e4,e5⟩:=bO
         obtain⟨bh,mR,t9,kb,ar,g1,g2,g3⟩:=VG
         rw[e1] at g1
         injection g1 with g1
         injection g1 with a1 a2 a3 a4
         subst a1 a2 a3 a4
         rw[e4] at CE
         exact⟨gr,mo,sz,xs,ar,e1,g3,aaM H e1 e2 e3 e5 CE g2⟩
        |nest n' k off=>
         injection fE with fE
         have fE:n'=n:=fE
         subst fE
         obtain⟨gr,sz,xs,e1,e2,e3⟩:=bO
         obtain⟨bh,mR,t9,kb,ex,g1,g2,g3⟩:=VG
         rw[e1] at g1
         injection g1 with g1
         injection g1 with a1 a2 a3 a4
         subst a1 a2 a3 a4
         rw[e2] at CE
         have hr:=H.row n' gr .live sz xs e1
         have bM:σ.h n'≠none:=by rw[e1];simp
         have G8:∀b,rL G n' b->¬aM b x.2->w'.heap[b]? =w.heap[b]? :=by
          intro b hb xH
          have bL:b<w.heap.size:=by
           rcases hb with⟨aK,rfl⟩|hF
           ·exact(H.own n' bM aK).2.2
           ·exact H.pT e1 hF
          refine adt b bL fun y hy pj=>?_
          obtain⟨j,hj⟩:=List.getElem?_of_mem hy
          by_cases jN:j=i
          ·subst jN
           rw[V1] at hj
           injection hj with hj
           subst hj
           exact xH pj
          ·obtain⟨xW,iB,_,uW⟩:=HA j y hj
           obtain⟨n2,zD,m2,j5,gR,f1,f2,f3,f4,f5⟩:=uW.nj H pj
           have aw:n'≠n2:=by
            rintro rfl
            exact jN (H5 vc iB hi f1 rfl)
           exact H.GD aw e1 f2 f5 hb f4
         refine⟨gr,.live,sz,xs,_,e1,g3,Tz H e1 e3 eF.f7 (fun aK=>G8 _ (.inl ⟨aK,rfl⟩) fun hb=>?_) (fun k' j' c hk aw b hb=>G8 b (.inr ⟨k',j',c,hk,hb⟩) fun CI=>?_) CE g2⟩
         ·exact H.live n' gr sz xs e1 _ ⟨k,off,x.2,e3,hb⟩ n' bM aK rfl
         ·exact hr.mode.2.2 _ _ _ _ _ _ b hk e3 aw hb CI) (fun n hn=>⟨t3 n (by rw[q6];exact hn),acV (by rw[q6];exact hn)⟩)
       have HR2:HR B E w' (xn G its qs) σ2.h σ2.used []:=by rw[t2];exact wJ
       have eo:sS B w' (xn G its qs) σ2.h (aO.flatMap (·.2)):=by
        refine⟨p4.ek,fun pc aV b hb=>?_,?_⟩
        ·obtain⟨n1,n2⟩:=p4.new pc aV b hb
         refine⟨⟨fun hi=>?_,fun q hq jo he=>?_,fun q gr mo sz xs hq cq=>?_⟩,n2,Nat.le_trans r.fr.size n1⟩
         ·have:=H.fx b hi;omega
         ·obtain⟨k0,k1,k2,_⟩:=K.name q (wJ.iA q hq) hq
          have:=(H.own q k0 (k1.symm.trans jo)).2.2
          rw[<-k2] at this
          omega
         ·have aR:=eO q b cq
          have vi:=wJ.iA q (by rw[hq];simp)
          obtain⟨k0,_⟩:=K.name q vi (by rw[hq];simp)
          cases hh:σ.h q with
          |none=>exact absurd hh k0
          |some blk=>
           cases blk with
           |box cs=>
            have:q∉nD sig fh:=by
             intro hm
             obtain⟨i,it,x,q',hi,V1,n8,jn,fE,eF,CE⟩:=Vc q hm
             have bO:=eF.at_
             obtain⟨Nm,md⟩:=it
             cases Nm with
             |nil sz=>cases fE
             |row n'=>
              injection fE with fE
              have fE:n'=q:=fE
              subst fE
              obtain⟨gr,mo,sz,xs,e1,_⟩:=bO
              rw[hh] at e1;cases e1
             |nest n' k off=>
              injection fE with fE
              have fE:n'=q:=fE
              subst fE
              obtain⟨gr,sz,xs,e1,_⟩:=bO
              rw[hh] at e1;cases e1
            have h3:=t3 q (by rw[q6];exact this)
            rw[h3,hh] at hq
            cases hq
           |row bh m' aG ar=>have:=H.pT hh aR;omega
        ·rw[List.pairwise_iff_getElem]
         intro i j hi hj jN b hb
         exact p4.mz i j _ _ b (by omega) (List.getElem?_eq_getElem hi) (List.getElem?_eq_getElem hj) hb
       rw[<-p1] at u6
       obtain⟨G',b1,b2,b3,b4,b5,b6,b7⟩:=HR.iT HR2 u6 p3 eo
       have xz:Fr B E w0 w':=by
        refine⟨p5.os.trans r.fr.os,p5.tape.trans r.fr.tape,p5.output.trans r.fr.output,Nat.le_trans r.fr.size p5.size,fun b hb he=>?_,fun b hb=>?_⟩
        ·refine(p5.block b (Nat.lt_of_lt_of_le hb r.fr.size) fun hx=>?_).trans (r.fr.block b hb he)
         rcases rP b hx with h1|h1
         ·omega
         ·exact he h1
        ·exact(r.fr.j7 b hb).trans (p5.j7 b (Nat.lt_of_lt_of_le hb r.fr.size))
       have K2:aT w G σ.h (fun n=>σ.used n=true) w' G' gj.h:=aT.trans (fun n hn=>by rw[t2];exact hn) K b2
       have r2:R B E w0 N gj a w' G':=r.step (b6.trans t1) (fun q hq=>b7 q (by rw[t2];exact hq)) K2 b1 xz
       refine⟨G',r2.put (RA.lC b3 p3 b4) ?_ hN⟩
       intro q hq
       match ls,hq with
       |[],hq=>obtain⟨x,hx,_⟩:=hq;simp at hx
       |[(true,cs)],hq=>obtain⟨c,hc,hq⟩:=hq;exact b5 (true,cs) (by simp) c hc q hq
       |[(false,[c])],hq=>exact b5 (false,[c]) (by simp) c (by simp) q hq
       |[(false,[])],hq=>exact absurd hq id
       |[(false,_::_::_)],hq=>exact absurd hq id
       |x::y::ls,hq=>obtain⟨x',eT,c,hc,hq⟩:=hq;exact b5 x' eT c hc q hq
      ·cases hx
     ·cases hx
    ·cases hx
   ·cases hx
  ·cases hx
 ·cases hx
theorem abw (r:R B E w0 N σ a w G) {T:bg} (hT:E4 P T) {m:Mode} {f:FuncId} {xs:Array Operand} {ms:List MO} {ts:Array TypeId} {σ1:St} (hN:∀n,o.dst=some n->n<N)
  (ho:o.op=.call {callee:=.value (.func f),args:=xs,argTypes:=ts}) (hf:cg P f=true) (hm:gW xs.toList ms=true)
  (hx:tc T m o.dst f (ms.map σ.ev) σ=some σ1):o.wp P a w (Nx B E w0 N σ1) Q:=by
 obtain⟨e1,e2⟩:=r.zy hm
 refine abD r hT (vals:=xs.toList.map a.eval) hN ?_ (by simpa using e1) e2 hx
 have he:(xs.toList.map a.eval).toArray=xs.map a.eval:=by apply Array.ext';simp
 rw[he]
 simp[execOp,ho,resolve,Deferred.ofValue,invoke,Act.eval,Be hf]
end
end Go.Am
