/- AmO: calls that change lists of their arguments. No condition. -/
import Derived.Test.YtbgmbplglejidaaAmN
set_option linter.unusedVariables false
namespace Go.Am
section
variable {B:Nat} {E:Ex} {w0 w w':World} {G G':Gh} {N:Nat} {h h':Nat->Option aq} {used:Nat->Bool}
variable {P:Program} {o:Oper} {a:Act} {σ σ':St} {Q:Exit->Act->World->Prop}
def wV (p:PB):cI->PC->PB
 |.row _,.list _ _ _ px=>{p with px:=px}
 |.nest _ k off,q=>{p with px:=p.px.set k ((p.px.getD k []).set off q)}
 |_,_=>p
open Classical in
noncomputable def sO (G:Gh) (its:List (cI×Mode)) (qs:List PC):Gh:=
 ⟨G.Im,fun n=>if h:∃p:(cI×Mode)×PC,∃i:Nat,its[i]? =some p.1/\qs[i]? =some p.2/\p.1.1.dB=some n then wV (G.g n) h.choose.1.1 h.choose.2 else G.g n⟩
theorem Zh {its:List (cI×Mode)} {qs:List PC} (gb:(its.filterMap (·.1.dB)).Nodup) {i n:Nat} {it:cI×Mode} {q:PC} (hi:its[i]? =some it) (hq:qs[i]? =some q) (hn:it.1.dB=some n):
  (sO G its qs).g n=wV (G.g n) it.1 q:=by
 have qb:∃p:(cI×Mode)×PC,∃i:Nat,its[i]? =some p.1/\qs[i]? =some p.2/\p.1.1.dB=some n:=⟨(it,q),i,hi,hq,hn⟩
 unfold sO
 simp only
 rw[dif_pos qb]
 obtain⟨j,h1,h2,h3⟩:=qb.choose_spec
 have jm:=JL gb h1 hi h3 hn
 subst jm
 rw[hi] at h1
 rw[hq] at h2
 injection h1 with h1
 injection h2 with h2
 rw[<-h1,<-h2]
theorem Zi {its:List (cI×Mode)} {qs:List PC} {n:Nat} (hn:n∉its.filterMap (·.1.dB)):(sO G its qs).g n=G.g n:=by
 unfold sO
 simp only
 rw[dif_neg]
 rintro⟨p,i,h1,h2,h3⟩
 exact hn (List.mem_filterMap.2 ⟨p.1,List.mem_of_getElem? h1,h3⟩)
theorem PC.Qn {pc q:PC} (hv:q.val=pc.val) (hL:pc.gx=true):∃sz a cap xs,q=.list sz a cap xs:=by
 cases pc with
 |int k n=>cases hL
 |bool b=>cases hL
 |list sz a cap xs=>
  cases q with
  |int k n=>cases hv
  |bool b=>cases hv
  |list sz a cap xs=>exact⟨_,_,_,_,rfl⟩
theorem Y3 {px:List (List PC)} (hs:fQ (px.map fun e=>e.map PC.er)=true) {k j:Nat} {c:PC} (hk:At px k j c):c.gx=false:=by
 obtain⟨e,he,hj⟩:=hk
 have h6:=List.all_eq_true.1 hs (e.map PC.er) (by simp only[List.mem_map];exact⟨e,List.mem_of_getElem? he,rfl⟩)
 have h7:=List.all_eq_true.1 h6 c.er (by simp only[List.mem_map];exact⟨c,List.mem_of_getElem? hj,rfl⟩)
 cases hL:c.gx with
 |false=>rfl
 |true=>rw[PC.aaz hL] at h7;cases h7
theorem Y2 {px:List (List PC)} (hs:fQ (px.map fun e=>e.map PC.er)=true) (b:Nat):¬aX b px:=by
 rintro⟨k,j,c,⟨e,he,hj⟩,hc⟩
 have h6:=List.all_eq_true.1 hs (e.map PC.er) (by simp only[List.mem_map];exact⟨e,List.mem_of_getElem? he,rfl⟩)
 have h7:=List.all_eq_true.1 h6 c.er (by simp only[List.mem_map];exact⟨c,List.mem_of_getElem? hj,rfl⟩)
 exact(Sep.kP h7).2 b hc
theorem XA (H:HR B E w G h used []) {n:Nat} {gr:Bool} {m md:Mode} {sz:Nat} {xs:List (List C)} (hn:h n=some (.row gr m sz xs)) (hm:m≠ .aO) (sR:md=.live->m=.live) (jl:sJ md xs=true)
  {q:PC} (A:tH w' md (nw sz (G.g n)) q) {k:Nat} {ar:List (List C)} (hq:q.er=.list k ar):FO w' (G.g n) (wV (G.g n) (.row n) q) gr m sz ar:=by
 have hr:=H.row n gr m sz xs hn
 have bJ:h n≠none:=by rw[hn];simp
 obtain⟨aL,a',sA,px',rfl⟩:=PC.Qn A.val rfl
 obtain⟨rfl,ha,rfl,hlen,hl⟩:=A.live _ _ _ _ _ _ _ _ rfl rfl
 rw[PC.dG] at hq
 injection hq with _ hq
 have kf:=A.sep
 have ed:(∀k j c,At px' k j c->Sep c)/\(∀b o k j c,a'=some (ad b o)->At px' k j c->¬aT b c)/\ig px':=by
  cases kf with
  |list _ _ _ _ h1 h2 h3=>exact⟨h1,h2,h1,h3⟩
 have rB:∀b,aX b px'->(G.g n).nl=false->b≠(G.g n).b:=by
  rintro b ⟨k,j,c,hk,hc⟩ aR rfl
  refine ed.2.1 (G.g n).b (G.g n).o k j c ?_ hk hc
  rw[ha,if_neg (by simp[aR])]
 have iW:md=.ab->fQ xs=true:=by rintro rfl;exact jl
 refine⟨hm,?_,rfl,rfl,rfl,rfl,rfl,hq.symm,fun aR=>?_,fun aR=>?_,ed.2.2,fun b hb=>?_,fun dg k j pc hk hL=>?_⟩
 ·cases md with
  |aO=>cases jl
  |live=>exact .inr (sR rfl)
  |ab=>exact .inl (Y2 (by rw[<-hr.er];exact iW rfl))
 ·have:=(hr.nl aR).1
  rw[this] at hlen
  exact List.eq_nil_of_length_eq_zero hlen
 ·refine⟨?_,?_⟩
  ·have hg:=A.dH
   rw[ha,if_neg (by simp[aR])] at hg
   by_cases h0:px'=[]
   ·show oD w' _ _ _ px'
    rw[h0]
    exact⟨by simp,by rintro k j c ⟨e,he,_⟩;simp at he,by rintro k j c ⟨e,he,_⟩;simp at he⟩
   ·generalize jp:PC.list aL (some (ad (G.g n).b (G.g n).o)) (G.g n).cap px'=q2 at hg
    cases hg with
    |int k n=>cases jp
    |bool b=>cases jp
    |nil _ _ _ _=>injection jp with _ _ _ e4;exact absurd e4 h0
    |cons _ _ _ _ _ h1 h2 h3 h4 h5 h6=>
     injection jp with e1 e2 e3 e4
     injection e2 with e2
     obtain⟨e5,e6⟩:=mX e2
     subst e1 e3 e4
     rw[e5,e6]
     exact⟨h4,h5,h6⟩
  ·show px'.length<=_
   rw[hlen]
   exact(hr.dT aR).2.2
 ·have ga:aT b (nw aL (G.g n)):=A.sub b (by
   obtain⟨k,j,c,hk,hc⟩:=hb
   exact .there _ _ _ _ k j c hk hc)
  rcases SA (fun hq=>(hr.nl hq).1) ga with⟨aR,he⟩|hF
  ·exact absurd he (rB b hb aR)
  ·exact hF
 ·cases md with
  |aO=>cases jl
  |live=>exact hl rfl k j pc hk hL
  |ab=>
   have:=Y3 (px:=(G.g n).px) (by rw[<-hr.er];exact iW rfl) hk
   rw[hL] at this;cases this
theorem xV {α:Type} {px:List (List α)} {k off k' j':Nat} {e:List α} {q c:α} (he:px[k]? =some e) (h:At (px.set k (e.set off q)) k' j' c):(k'=k/\j'=off/\c=q)\/(At px k' j' c/\(k',j')≠(k,off)):=by
 have hk:=(List.getElem?_eq_some_iff.1 he).1
 rcases HH hk h with⟨rfl,h1⟩|⟨aE,h1⟩
 ·by_cases hj:j'=off
  ·subst hj
   have hl:j'<e.length:=by have:=(List.getElem?_eq_some_iff.1 h1).1;simpa using this
   rw[List.getElem?_set_self hl] at h1
   injection h1 with h1
   exact .inl ⟨rfl,rfl,h1.symm⟩
  ·rw[List.getElem?_set_ne (Ne.symm hj)] at h1
   exact .inr ⟨⟨e,he,h1⟩,fun e=>hj (congrArg Prod.snd e)⟩
 ·exact .inr ⟨h1,fun e=>aE (congrArg Prod.fst e)⟩
theorem aev {α:Type} {px:List (List α)} {k off k' j':Nat} {e:List α} {q c:α} (he:px[k]? =some e) (h:At px k' j' c) (aE:(k',j')≠(k,off)):At (px.set k (e.set off q)) k' j' c:=by
 obtain⟨e',h1,h2⟩:=h
 by_cases hk:k'=k
 ·subst hk
  rw[he] at h1
  injection h1 with h1
  subst h1
  have hj:j'≠off:=fun e=>aE (by rw[e])
  exact⟨_,List.getElem?_set_self (List.getElem?_eq_some_iff.1 he).1,by rw[List.getElem?_set_ne (Ne.symm hj)];exact h2⟩
 ·exact⟨e',by rw[List.getElem?_set_ne (Ne.symm hk)];exact h1,h2⟩
theorem Xz (H:HR B E w G h used []) {n k off:Nat} {gr:Bool} {sz:Nat} {xs:List (List C)} (hn:h n=some (.row gr .live sz xs)) {pc:PC} (cg:At (G.g n).px k off pc) (hL:pc.gx=true)
  (rB:(G.g n).nl=false->w'.heap[(G.g n).b]? =w.heap[(G.g n).b]?) (Pt:∀k' j' c,At (G.g n).px k' j' c->(k',j')≠(k,off)->∀b,aT b c->w'.heap[b]? =w.heap[b]?)
  {q:PC} (A:tH w' .ab pc q) {ex:List C} (qb:xs[k]? =some ex):FO w' (G.g n) (wV (G.g n) (.nest n k off) q) gr .live sz (xs.set k (ex.set off q.er)):=by
 have hr:=H.row n gr .live sz xs hn
 obtain⟨e0,kD,O6⟩:=cg
 have nc:(G.g n).px.getD k []=e0:=by simp[List.getD_eq_getElem?_getD,kD]
 have fB:(wV (G.g n) (.nest n k off) q).px=(G.g n).px.set k (e0.set off q):=by simp only[wV,nc]
 have ahU:ex=e0.map PC.er:=by
  rw[hr.er,List.getElem?_map,kD] at qb
  simpa using qb.symm
 have cg:At (G.g n).px k off pc:=⟨e0,kD,O6⟩
 have hqL:q.gx=true:=by
  obtain⟨sz,a,cap,xs,rfl⟩:=PC.Qn A.val hL
  rfl
 have aR:(G.g n).nl=false:=by
  cases hq:(G.g n).nl with
  |false=>rfl
  |true=>rw[(hr.nl hq).1] at kD;simp at kD
 obtain⟨l1,l2,l3⟩:=hr.dT aR
 refine⟨by simp,.inr rfl,rfl,rfl,rfl,rfl,rfl,?_,fun h=>?_,fun _=>?_,?_,fun b hb=>?_,fun _ k' j' c cY hc=>?_⟩
 ·rw[fB,hr.er,ahU,List.map_set,List.map_set]
 ·rw[aR] at h;cases h
 ·rw[fB]
  refine⟨⟨fun e he=>?_,fun k' j' c cY=>?_,fun k' j' c cY=>?_⟩,by rw[List.length_set];exact l3⟩
  ·rcases List.mem_or_eq_of_mem_set he with he|rfl
   ·exact l2.1 e he
   ·rw[List.length_set];exact l2.1 e0 (List.mem_of_getElem? kD)
  ·rw[iz (rB aR)]
   rcases xV kD cY with⟨rfl,rfl,rfl⟩|⟨h1,_⟩
   ·rw[A.val];exact l2.2.1 _ _ _ cg
   ·exact l2.2.1 _ _ _ h1
  ·rcases xV kD cY with⟨rfl,rfl,rfl⟩|⟨h1,h2⟩
   ·exact A.dH
   ·exact(l2.2.2 _ _ _ h1).congr fun b hb o=>iz (Pt k' j' c h1 h2 b hb) o
 ·rw[fB]
  refine⟨fun k' j' c cY=>?_,fun k1 j1 c1 k2 j2 c2 b h1 h2 aE hb aW=>?_⟩
  ·rcases xV kD cY with⟨rfl,rfl,rfl⟩|⟨h1,h2⟩
   ·exact A.sep
   ·exact hr.mode.2.1 _ _ _ h1
  ·rcases xV kD h1 with⟨rfl,rfl,rfl⟩|⟨g1,n1⟩
   ·rcases xV kD h2 with⟨rfl,rfl,rfl⟩|⟨g2,n2⟩
    ·exact aE rfl
    ·exact hr.mode.2.2 _ _ _ _ _ _ b cg g2 aE (A.sub b hb) aW
   ·rcases xV kD h2 with⟨rfl,rfl,rfl⟩|⟨g2,n2⟩
    ·exact hr.mode.2.2 _ _ _ _ _ _ b g1 cg aE hb (A.sub b aW)
    ·exact hr.mode.2.2 _ _ _ _ _ _ b g1 g2 aE hb aW
 ·rw[fB] at hb
  obtain⟨k',j',c,cY,hc⟩:=hb
  rcases xV kD cY with⟨rfl,rfl,rfl⟩|⟨h1,h2⟩
  ·exact⟨_,_,_,cg,A.sub b hc⟩
  ·exact⟨_,_,_,h1,hc⟩
 ·rw[fB]
  by_cases he:(k',j')=(k,off)
  ·have h1:k'=k:=congrArg Prod.fst he
   have h2:j'=off:=congrArg Prod.snd he
   subst h1 h2
   obtain⟨e1,g1,g2⟩:=cY
   rw[kD] at g1
   injection g1 with g1
   subst g1
   rw[O6] at g2
   injection g2 with g2
   subst g2
   have hl:j'<e0.length:=(List.getElem?_eq_some_iff.1 O6).1
   exact⟨q,⟨_,List.getElem?_set_self (List.getElem?_eq_some_iff.1 kD).1,List.getElem?_set_self hl⟩,A.val,hqL⟩
  ·exact⟨c,aev kD cY he,rfl,hc⟩
theorem Qw:∀{as:List aj} {dq:List (Bool×List ah)} {vals:List Value},o8 as=some dq->vals.length=as.length->(∀(j:Nat) (x:aj) (v:Value),as[j]? =some x->vals[j]? =some v->RA w G h x v)->
  vals.length=dq.length/\∀(j:Nat) (x:Bool×List ah) (v:Value),dq[j]? =some x->vals[j]? =some v->RV w G h x.1 x.2 v
 |[],dq,vals,hx,hl,hc=>by
  simp only[o8] at hx
  injection hx with hx
  subst hx
  exact⟨hl,by simp⟩
 |y::as,dq,vals,hx,hl,hc=>by
  simp only[o8] at hx
  split at hx
  ·rename_i x xs e1 e2
   injection hx with hx
   subst hx
   match vals,hl with
   |v::vals,hl=>
    obtain⟨i1,i2⟩:=Qw e2 (vals:=vals) (by simpa using hl) (fun j x v h1 h2=>hc (j+1) x v h1 h2)
    refine⟨by simp[i1],fun j x' v' hj hv=>?_⟩
    cases j with
    |zero=>
     simp at hj hv
     subst hj hv
     have h0:=hc 0 y v rfl rfl
     cases y with
     |one c=>
      cases c<;>simp[aj.cells?] at e1<;>subst e1<;>exact h0.resolve_left (by simp)
     |agg cs=>
      simp[aj.cells?] at e1
      subst e1
      exact h0
     |bo l=>simp[aj.cells?] at e1
    |succ j=>exact i2 j x' v' (by simpa using hj) (by simpa using hv)
  ·cases hx
theorem sn.gx {it:cI} {md:Mode} {pc:PC} (i:sn B E w G h it md pc):pc.gx=true:=by
 obtain⟨sz,a,cap,xs,rfl,_⟩:=i.ok.dT
 rfl
def F9 (P:Program) (T:aS):Prop:=∀f sig M,aS.rk T.BH f=some (sig,M)->kA P f sig M
theorem afO (r:R B E w0 N σ a w G) {T:aS} (hT:F9 P T) {m:Mode} {f:FuncId} {as:List aj} {vals:List Value} {σ1:St} (hN:∀n,o.dst=some n->n<N)
  (bO:(execOp a.eval o).run P w=.ok (.enter f vals.toArray) w) (hl:vals.length=as.length)
  (uj:∀(j:Nat) (x:aj) (v:Value),as[j]? =some x->vals[j]? =some v->RA w G σ.h x v)
  (hx:tV T m o.dst f as σ=some σ1):o.wp P a w (Nx B E w0 N σ1) Q:=by
 have H:=r.hr
 unfold tV at hx
 split at hx
 ·rename_i sig M dq hM OP
  split at hx
  ·rename_i gb
   split at hx
   ·rename_i ds its hv
    split at hx
    ·rename_i rs eI oP
     split at hx
     ·rename_i σ2 qf
      split at hx
      ·rename_i ls gD v8
       injection hx with hx
       subst hx
       obtain⟨yx,OD⟩:=Qw OP hl uj
       obtain⟨pas,q1,q2,q3,q4,q5,q6,q7⟩:=H.kO hv yx OD
       have sS:(its.filterMap (·.1.dB)).Nodup:=by rw[q6];exact gb
       generalize uu:eB sig (pas.map (·.ps))=fl at q5
       have Jk:∀(i:Nat) (x:Mode×PC),fl[i]? =some x->∃it,its[i]? =some it/\it.2=x.1/\sn B E w G σ.h it.1 x.1 x.2:=by
        intro i x hi
        have bB:i<its.length:=by rw[q5.len];exact(List.getElem?_eq_some_iff.1 hi).1
        have he:its[i]? =some its[i]:=List.getElem?_eq_getElem bB
        exact⟨_,he,q5.at_ i _ x he hi⟩
       have Y5:∀x∈fl,∃it∈its,sn B E w G σ.h it.1 x.1 x.2:=by
        intro x hx
        obtain⟨i,hi⟩:=List.getElem?_of_mem hx
        obtain⟨it,h1,_,h2⟩:=Jk i x hi
        exact⟨it,List.mem_of_getElem? h1,h2⟩
       have nb:∀x∈fl,∀b,aT b x.2->∃n gr m sz xs,n∈jW sig dq/\σ.h n=some (.row gr m sz xs)/\m≠ .aO/\rp G n b/\((∀b,¬aX b (G.g n).px)\/m=.live):=by
        intro x hx b hb
        obtain⟨it,h1,h2⟩:=Y5 x hx
        obtain⟨n,gr,m,sz,xs,e1,e2,e3,e4,e5⟩:=h2.m5 H hb
        exact⟨n,gr,m,sz,xs,by rw[<-q6];exact List.mem_filterMap.2 ⟨it,h1,e1⟩,e2,e3,e4,e5⟩
       have qb:∀b,Dj fl b->(B<=b\/E b):=by
        rintro b ⟨x,hx,hb⟩
        obtain⟨n,gr,m,sz,xs,_,e2,e3,e4,e5⟩:=nb x hx b hb
        rcases e4 with⟨aR,rfl⟩|hF
        ·exact(H.own n (by rw[e2];simp) aR).2.1
        ·have fS:=(H.row n gr m sz xs e2).mode
         cases m with
         |aO=>exact absurd rfl e3
         |ab=>exact(fS.1 b hF).2.2
         |live=>exact(fS.1 b hF).2.2
       have Qz:CK w sig ds vals pas:=by
        refine⟨q2,q1,q3,fun x hx=>?_,?_,fun pc aY x hx b hb aW=>?_,fun p hp hk=>absurd hk (q4 p hp),fun i p s hp _ hk=>absurd hk (q4 p (List.mem_of_getElem? hp))⟩
        ·rw[uu] at hx
         obtain⟨it,_,h2⟩:=Y5 x hx
         exact h2.ok
        ·rw[uu,List.pairwise_iff_getElem]
         intro i j hi hj jm b hb aW
         obtain⟨it,h1,_,h2⟩:=Jk i _ (List.getElem?_eq_getElem hi)
         obtain⟨yS,jM,_,AP⟩:=Jk j _ (List.getElem?_eq_getElem hj)
         obtain⟨n,gr,m,sz,xs,e1,e2,e3,e4,e5⟩:=h2.m5 H hb
         obtain⟨n',bj,m',aL,ar,Ie,sG,e3',AB,AD⟩:=AP.m5 H aW
         have aE:n≠n':=by
          rintro rfl
          have:=JL sS h1 jM e1 Ie
          omega
         exact H.DA aE e2 sG AD e4 AB
        ·rw[uu] at hx
         obtain⟨n',bj,m',aL,ar,Ie,sG,e3',AB,AD⟩:=nb x hx b aW
         rcases q7 pc aY b hb with hi|⟨n,gr,m,sz,xs,hn,e2,e4⟩
         ·rcases AB with⟨aR,rfl⟩|hF
          ·exact(H.own n' (by rw[sG];simp) aR).1 hi
          ·rcases AD with AD|rfl
           ·exact AD b hF
           ·exact((H.row n' bj .live aL ar sG).mode.1 b hF).1 hi
         ·have aE:n≠n':=fun e=>hn (e▸Ie)
          exact H.DA aE e2 sG AD e4 AB
       unfold Oper.wp
       rw[bO]
       refine(hT f sig M hM ds rs eI oP w vals pas Qz).mono fun e w' ⟨aV,p1,p2,p3,p4,p5,qs,p6,p7,p8⟩=>?_
       subst p2
       rw[uu] at p5 p7 p8
       obtain⟨t1,t2,t3,t4⟩:=abS qf sS
       have Zo:∀n,n∈jW sig dq->∃(i:Nat) (it:cI×Mode) (x:Mode×PC) (q:PC),its[i]? =some it/\fl[i]? =some x/\qs[i]? =some q/\eI[i]? =some q.er/\it.1.dB=some n/\sn B E w G σ.h it.1 x.1 x.2/\tH w' x.1 x.2 q:=by
        intro n hn
        rw[<-q6,List.mem_filterMap] at hn
        obtain⟨it,wb,fT⟩:=hn
        obtain⟨i,hi⟩:=List.getElem?_of_mem wb
        have bB:i<fl.length:=by rw[<-q5.len];exact(List.getElem?_eq_some_iff.1 hi).1
        have hx:fl[i]? =some fl[i]:=List.getElem?_eq_getElem bB
        have hq:qs[i]? =some (qs[i]'(by rw[p7];exact bB)):=List.getElem?_eq_getElem _
        exact⟨i,it,_,_,hi,hx,hq,by rw[<-p6,List.getElem?_map,hq];rfl,fT,(q5.at_ i it _ hi hx).2,p8 i _ _ hx hq⟩
       have aiu:∀b,b<w.heap.size->(∀n,n∈jW sig dq->¬rp G n b)->w'.heap[b]? =w.heap[b]? :=by
        intro b hb bS
        refine p5.block b hb ?_
        rintro⟨x,hx,DI⟩
        obtain⟨n,gr,m,sz,xs,e1,e2,e3,e4,e5⟩:=nb x hx b DI
        exact bS n e1 e4
       have aia:∀b,b<w.heap.size->(∀x∈fl,¬aT b x.2)->w'.heap[b]? =w.heap[b]? :=fun b hb bS=>p5.block b hb (by rintro⟨x,hx,DI⟩;exact bS x hx DI)
       obtain⟨tE,K,e8⟩:=H.JK (G':=sO G its qs) (h':=σ2.h) (w':=w') (S:=fun n=>n∈jW sig dq) p5.size aiu (fun b hb=>p5.jc b hb) rfl (fun n hn=>by
        obtain⟨i,it,x,q,hi,hxi,mD,jP,fT,fI,DE⟩:=Zo n hn
        have cg:=fI.at_
        have ZT:=t4 i it q.er hi jP
        rw[Zh sS hi mD fT]
        obtain⟨P4,md⟩:=it
        cases P4 with
        |nil sz=>cases fT
        |row n'=>
         injection fT with fT
         have fT:n'=n:=fT
         subst fT
         obtain⟨gr,mo,sz,xs,e1,e2,e3,e4,e5⟩:=cg
         obtain⟨bj,mR,u7,kz,ar,g1,g2,g3⟩:=ZT
         rw[e1] at g1
         injection g1 with g1
         injection g1 with a1 a2 a3 a4
         subst a1 a2 a3 a4
         rw[e4] at DE
         exact⟨gr,mo,sz,xs,ar,e1,g3,XA H e1 e2 e3 e5 DE g2⟩
        |nest n' k off=>
         injection fT with fT
         have fT:n'=n:=fT
         subst fT
         obtain⟨gr,sz,xs,e1,e2,e3⟩:=cg
         obtain⟨bj,mR,u7,kz,ex,g1,g2,g3⟩:=ZT
         rw[e1] at g1
         injection g1 with g1
         injection g1 with a1 a2 a3 a4
         subst a1 a2 a3 a4
         rw[e2] at DE
         have hr:=H.row n' gr .live sz xs e1
         have bJ:σ.h n'≠none:=by rw[e1];simp
         have I8:∀b,rp G n' b->¬aT b x.2->w'.heap[b]? =w.heap[b]? :=by
          intro b hb yA
          have bB:b<w.heap.size:=by
           rcases hb with⟨aR,rfl⟩|hF
           ·exact(H.own n' bJ aR).2.2
           ·exact H.qL e1 hF
          refine aia b bB fun y hy nQ=>?_
          obtain⟨j,hj⟩:=List.getElem?_of_mem hy
          by_cases jm:j=i
          ·subst jm
           rw[hxi] at hj
           injection hj with hj
           subst hj
           exact yA nQ
          ·obtain⟨yS,jM,_,AP⟩:=Jk j y hj
           obtain⟨n2,AO,m2,jZ,ic,f1,f2,f3,f4,f5⟩:=AP.m5 H nQ
           have aE:n'≠n2:=by
            rintro rfl
            exact jm (JL sS jM hi f1 rfl)
           exact H.DA aE e1 f2 f5 hb f4
         refine⟨gr,.live,sz,xs,_,e1,g3,Xz H e1 e3 fI.gx (fun aR=>I8 _ (.inl ⟨aR,rfl⟩) fun hb=>?_) (fun k' j' c hk aE b hb=>I8 b (.inr ⟨k',j',c,hk,hb⟩) fun DI=>?_) DE g2⟩
         ·exact H.live n' gr sz xs e1 _ ⟨k,off,x.2,e3,hb⟩ n' bJ aR rfl
         ·exact hr.mode.2.2 _ _ _ _ _ _ b hk e3 aE hb DI) (fun n hn=>⟨t3 n (by rw[q6];exact hn),Zi (by rw[q6];exact hn)⟩)
       have HR2:HR B E w' (sO G its qs) σ2.h σ2.used []:=by rw[t2];exact tE
       have ga:tF B w' (sO G its qs) σ2.h (aV.flatMap (·.2)):=by
        refine⟨p4.dH,fun pc aY b hb=>?_,?_⟩
        ·obtain⟨n1,n2⟩:=p4.new pc aY b hb
         refine⟨⟨fun hi=>?_,fun q hq jp he=>?_,fun q gr mo sz xs hq cB=>?_⟩,n2,Nat.le_trans r.fr.size n1⟩
         ·have:=H.fL b hi;omega
         ·obtain⟨k0,k1,k2,_⟩:=K.name q (tE.iA q hq) hq
          have:=(H.own q k0 (k1.symm.trans jp)).2.2
          rw[<-k2] at this
          omega
         ·have aW:=e8 q b cB
          have Bd:=tE.iA q (by rw[hq];simp)
          obtain⟨k0,_⟩:=K.name q Bd (by rw[hq];simp)
          cases hh:σ.h q with
          |none=>exact absurd hh k0
          |some blk=>
           cases blk with
           |box cs=>
            have:q∉jW sig dq:=by
             intro hm
             obtain⟨i,it,x,q',hi,hxi,mD,jP,fT,fI,DE⟩:=Zo q hm
             have cg:=fI.at_
             obtain⟨P4,md⟩:=it
             cases P4 with
             |nil sz=>cases fT
             |row n'=>
              injection fT with fT
              have fT:n'=q:=fT
              subst fT
              obtain⟨gr,mo,sz,xs,e1,_⟩:=cg
              rw[hh] at e1;cases e1
             |nest n' k off=>
              injection fT with fT
              have fT:n'=q:=fT
              subst fT
              obtain⟨gr,sz,xs,e1,_⟩:=cg
              rw[hh] at e1;cases e1
            have h3:=t3 q (by rw[q6];exact this)
            rw[h3,hh] at hq
            cases hq
           |row bj m' aL ar=>have:=H.qL hh aW;omega
        ·rw[List.pairwise_iff_getElem]
         intro i j hi hj jm b hb
         exact p4.m4 i j _ _ b (by omega) (List.getElem?_eq_getElem hi) (List.getElem?_eq_getElem hj) hb
       rw[<-p1] at v8
       obtain⟨G',b1,b2,b3,b4,b5,b6,b7⟩:=HR.jt HR2 v8 p3 ga
       have uv:Fr B E w0 w':=by
        refine⟨p5.os.trans r.fr.os,p5.tape.trans r.fr.tape,p5.output.trans r.fr.output,Nat.le_trans r.fr.size p5.size,fun b hb he=>?_,fun b hb=>?_⟩
        ·refine(p5.block b (Nat.lt_of_lt_of_le hb r.fr.size) fun hx=>?_).trans (r.fr.block b hb he)
         rcases qb b hx with h1|h1
         ·omega
         ·exact he h1
        ·exact(r.fr.jc b hb).trans (p5.jc b (Nat.lt_of_lt_of_le hb r.fr.size))
       have K2:aZ w G σ.h (fun n=>σ.used n=true) w' G' gD.h:=aZ.trans (fun n hn=>by rw[t2];exact hn) K b2
       have r2:R B E w0 N gD a w' G':=r.step (b6.trans t1) (fun q hq=>b7 q (by rw[t2];exact hq)) K2 b1 uv
       refine⟨G',r2.put (RA.kQ b3 p3 b4) ?_ hN⟩
       intro q hq
       match ls,hq with
       |[],hq=>obtain⟨x,hx,_⟩:=hq;simp at hx
       |[(true,cs)],hq=>obtain⟨c,hc,hq⟩:=hq;exact b5 (true,cs) (by simp) c hc q hq
       |[(false,[c])],hq=>exact b5 (false,[c]) (by simp) c (by simp) q hq
       |[(false,[])],hq=>exact absurd hq id
       |[(false,_::_::_)],hq=>exact absurd hq id
       |x::y::ls,hq=>obtain⟨x',fm,c,hc,hq⟩:=hq;exact b5 x' fm c hc q hq
      ·cases hx
     ·cases hx
    ·cases hx
   ·cases hx
  ·cases hx
 ·cases hx
theorem afG (r:R B E w0 N σ a w G) {T:aS} (hT:F9 P T) {m:Mode} {f:FuncId} {xs:Array Operand} {ms:List MO} {ts:Array TypeId} {σ1:St} (hN:∀n,o.dst=some n->n<N)
  (ho:o.op=.call {callee:=.value (.func f),args:=xs,argTypes:=ts}) (hf:bi P f=true) (hm:gi xs.toList ms=true)
  (hx:tV T m o.dst f (ms.map σ.ev) σ=some σ1):o.wp P a w (Nx B E w0 N σ1) Q:=by
 obtain⟨e1,e2⟩:=r.yb hm
 refine afO r hT (vals:=xs.toList.map a.eval) hN ?_ (by simpa using e1) e2 hx
 have he:(xs.toList.map a.eval).toArray=xs.map a.eval:=by apply Array.ext';simp
 rw[he]
 simp[execOp,ho,resolve,Deferred.ofValue,invoke,Act.eval,zl hf]
end
end Go.Am
