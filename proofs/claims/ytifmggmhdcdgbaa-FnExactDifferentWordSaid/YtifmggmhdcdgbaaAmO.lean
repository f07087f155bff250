/- AmO: calls that change lists of their arguments. No condition. -/
import Derived.Test.YtifmggmhdcdgbaaAmN
set_option linter.unusedVariables false
namespace Go.Am
section
variable {B:Nat} {E:Ex} {w0 w w':World} {G G':Gh} {N:Nat} {h h':Nat->Option ar} {used:Nat->Bool}
variable {P:Program} {o:Oper} {a:Act} {σ σ':St} {Q:Exit->Act->World->Prop}
def yJ (p:PB):cQ->PC->PB
 |.row _,.list _ _ _ px=>{p with px:=px}
 |.nest _ k off,q=>{p with px:=p.px.set k ((p.px.getD k []).set off q)}
 |_,_=>p
open Classical in
noncomputable def xR (G:Gh) (its:List (cQ×Mode)) (qs:List PC):Gh:=
 ⟨G.Im,fun n=>if h:∃p:(cQ×Mode)×PC,∃i:Nat,its[i]? =some p.1/\qs[i]? =some p.2/\p.1.1.dr=some n then yJ (G.g n) h.choose.1.1 h.choose.2 else G.g n⟩
theorem afj {its:List (cQ×Mode)} {qs:List PC} (fJ:(its.filterMap (·.1.dr)).Nodup) {i n:Nat} {it:cQ×Mode} {q:PC} (hi:its[i]? =some it) (hq:qs[i]? =some q) (hn:it.1.dr=some n):
  (xR G its qs).g n=yJ (G.g n) it.1 q:=by
 have rV:∃p:(cQ×Mode)×PC,∃i:Nat,its[i]? =some p.1/\qs[i]? =some p.2/\p.1.1.dr=some n:=⟨(it,q),i,hi,hq,hn⟩
 unfold xR
 simp only
 rw[dif_pos rV]
 obtain⟨j,h1,h2,h3⟩:=rV.choose_spec
 have jC:=JM fJ h1 hi h3 hn
 subst jC
 rw[hi] at h1
 rw[hq] at h2
 injection h1 with h1
 injection h2 with h2
 rw[<-h1,<-h2]
theorem afk {its:List (cQ×Mode)} {qs:List PC} {n:Nat} (hn:n∉its.filterMap (·.1.dr)):(xR G its qs).g n=G.g n:=by
 unfold xR
 simp only
 rw[dif_neg]
 rintro⟨p,i,h1,h2,h3⟩
 exact hn (List.mem_filterMap.2 ⟨p.1,List.mem_of_getElem? h1,h3⟩)
theorem PC.Ze {pc q:PC} (hv:q.val=pc.val) (hL:pc.fV=true):∃sz a cap xs,q=.list sz a cap xs:=by
 cases pc with
 |int k n=>cases hL
 |bool b=>cases hL
 |list sz a cap xs=>
  cases q with
  |int k n=>cases hv
  |bool b=>cases hv
  |list sz a cap xs=>exact⟨_,_,_,_,rfl⟩
theorem WI {px:List (List PC)} (hs:ft (px.map fun e=>e.map PC.er)=true) {k j:Nat} {c:PC} (hk:At px k j c):c.fV=false:=by
 obtain⟨e,he,hj⟩:=hk
 have h6:=List.all_eq_true.1 hs (e.map PC.er) (by simp only[List.mem_map];exact⟨e,List.mem_of_getElem? he,rfl⟩)
 have h7:=List.all_eq_true.1 h6 c.er (by simp only[List.mem_map];exact⟨c,List.mem_of_getElem? hj,rfl⟩)
 cases hL:c.fV with
 |false=>rfl
 |true=>rw[PC.YH hL] at h7;cases h7
theorem WH {px:List (List PC)} (hs:ft (px.map fun e=>e.map PC.er)=true) (b:Nat):¬aR b px:=by
 rintro⟨k,j,c,⟨e,he,hj⟩,hc⟩
 have h6:=List.all_eq_true.1 hs (e.map PC.er) (by simp only[List.mem_map];exact⟨e,List.mem_of_getElem? he,rfl⟩)
 have h7:=List.all_eq_true.1 h6 c.er (by simp only[List.mem_map];exact⟨c,List.mem_of_getElem? hj,rfl⟩)
 exact(Sep.kx h7).2 b hc
theorem acL (H:HR B E w G h used []) {n:Nat} {gr:Bool} {m md:Mode} {sz:Nat} {xs:List (List C)} (hn:h n=some (.row gr m sz xs)) (hm:m≠ .aE) (rY:md=.live->m=.live) (iM:rQ md xs=true)
  {q:PC} (A:u5 w' md (oU sz (G.g n)) q) {k:Nat} {au:List (List C)} (hq:q.er=.list k au):Fj w' (G.g n) (yJ (G.g n) (.row n) q) gr m sz au:=by
 have hr:=H.row n gr m sz xs hn
 have bF:h n≠none:=by rw[hn];simp
 obtain⟨aK,a',rJ,px',rfl⟩:=PC.Ze A.val rfl
 obtain⟨rfl,ha,rfl,hlen,hl⟩:=A.live _ _ _ _ _ _ _ _ rfl rfl
 rw[PC.df] at hq
 injection hq with _ hq
 have jE:=A.sep
 have d9:(∀k j c,At px' k j c->Sep c)/\(∀b o k j c,a'=some (ad b o)->At px' k j c->¬aN b c)/\gI px':=by
  cases jE with
  |list _ _ _ _ h1 h2 h3=>exact⟨h1,h2,h1,h3⟩
 have qP:∀b,aR b px'->(G.g n).nl=false->b≠(G.g n).b:=by
  rintro b ⟨k,j,c,hk,hc⟩ aL rfl
  refine d9.2.1 (G.g n).b (G.g n).o k j c ?_ hk hc
  rw[ha,if_neg (by simp[aL])]
 have iv:md=.aa->ft xs=true:=by rintro rfl;exact iM
 refine⟨hm,?_,rfl,rfl,rfl,rfl,rfl,hq.symm,fun aL=>?_,fun aL=>?_,d9.2.2,fun b hb=>?_,fun cA k j pc hk hL=>?_⟩
 ·cases md with
  |aE=>cases iM
  |live=>exact .inr (rY rfl)
  |aa=>exact .inl (WH (by rw[<-hr.er];exact iv rfl))
 ·have:=(hr.nl aL).1
  rw[this] at hlen
  exact List.eq_nil_of_length_eq_zero hlen
 ·refine⟨?_,?_⟩
  ·have hg:=A.dF
   rw[ha,if_neg (by simp[aL])] at hg
   by_cases h0:px'=[]
   ·show n5 w' _ _ _ px'
    rw[h0]
    exact⟨by simp,by rintro k j c ⟨e,he,_⟩;simp at he,by rintro k j c ⟨e,he,_⟩;simp at he⟩
   ·generalize iN:PC.list aK (some (ad (G.g n).b (G.g n).o)) (G.g n).cap px'=q2 at hg
    cases hg with
    |int k n=>cases iN
    |bool b=>cases iN
    |nil _ _ _ _=>injection iN with _ _ _ e4;exact absurd e4 h0
    |cons _ _ _ _ _ h1 h2 h3 h4 h5 h6=>
     injection iN with e1 e2 e3 e4
     injection e2 with e2
     obtain⟨e5,e6⟩:=nc e2
     subst e1 e3 e4
     rw[e5,e6]
     exact⟨h4,h5,h6⟩
  ·show px'.length<=_
   rw[hlen]
   exact(hr.dq aL).2.2
 ·have fH:aN b (oU aK (G.g n)):=A.sub b (by
   obtain⟨k,j,c,hk,hc⟩:=hb
   exact .there _ _ _ _ k j c hk hc)
  rcases Rm (fun hq=>(hr.nl hq).1) fH with⟨aL,he⟩|hF
  ·exact absurd he (qP b hb aL)
  ·exact hF
 ·cases md with
  |aE=>cases iM
  |live=>exact hl rfl k j pc hk hL
  |aa=>
   have:=WI (px:=(G.g n).px) (by rw[<-hr.er];exact iv rfl) hk
   rw[hL] at this;cases this
theorem xv {α:Type} {px:List (List α)} {k off k' j':Nat} {e:List α} {q c:α} (he:px[k]? =some e) (h:At (px.set k (e.set off q)) k' j' c):(k'=k/\j'=off/\c=q)\/(At px k' j' c/\(k',j')≠(k,off)):=by
 have hk:=(List.getElem?_eq_some_iff.1 he).1
 rcases GQ hk h with⟨rfl,h1⟩|⟨aA,h1⟩
 ·by_cases hj:j'=off
  ·subst hj
   have hl:j'<e.length:=by have:=(List.getElem?_eq_some_iff.1 h1).1;simpa using this
   rw[List.getElem?_set_self hl] at h1
   injection h1 with h1
   exact .inl ⟨rfl,rfl,h1.symm⟩
  ·rw[List.getElem?_set_ne (Ne.symm hj)] at h1
   exact .inr ⟨⟨e,he,h1⟩,fun e=>hj (congrArg Prod.snd e)⟩
 ·exact .inr ⟨h1,fun e=>aA (congrArg Prod.fst e)⟩
theorem acq {α:Type} {px:List (List α)} {k off k' j':Nat} {e:List α} {q c:α} (he:px[k]? =some e) (h:At px k' j' c) (aA:(k',j')≠(k,off)):At (px.set k (e.set off q)) k' j' c:=by
 obtain⟨e',h1,h2⟩:=h
 by_cases hk:k'=k
 ·subst hk
  rw[he] at h1
  injection h1 with h1
  subst h1
  have hj:j'≠off:=fun e=>aA (by rw[e])
  exact⟨_,List.getElem?_set_self (List.getElem?_eq_some_iff.1 he).1,by rw[List.getElem?_set_ne (Ne.symm hj)];exact h2⟩
 ·exact⟨e',by rw[List.getElem?_set_ne (Ne.symm hk)];exact h1,h2⟩
theorem Vs (H:HR B E w G h used []) {n k off:Nat} {gr:Bool} {sz:Nat} {xs:List (List C)} (hn:h n=some (.row gr .live sz xs)) {pc:PC} (bZ:At (G.g n).px k off pc) (hL:pc.fV=true)
  (qP:(G.g n).nl=false->w'.heap[(G.g n).b]? =w.heap[(G.g n).b]?) (N9:∀k' j' c,At (G.g n).px k' j' c->(k',j')≠(k,off)->∀b,aN b c->w'.heap[b]? =w.heap[b]?)
  {q:PC} (A:u5 w' .aa pc q) {ex:List C} (rV:xs[k]? =some ex):Fj w' (G.g n) (yJ (G.g n) (.nest n k off) q) gr .live sz (xs.set k (ex.set off q.er)):=by
 have hr:=H.row n gr .live sz xs hn
 obtain⟨e0,j9,NQ⟩:=bZ
 have mG:(G.g n).px.getD k []=e0:=by simp[List.getD_eq_getElem?_getD,j9]
 have e8:(yJ (G.g n) (.nest n k off) q).px=(G.g n).px.set k (e0.set off q):=by simp only[yJ,mG]
 have afz:ex=e0.map PC.er:=by
  rw[hr.er,List.getElem?_map,j9] at rV
  simpa using rV.symm
 have bZ:At (G.g n).px k off pc:=⟨e0,j9,NQ⟩
 have hqL:q.fV=true:=by
  obtain⟨sz,a,cap,xs,rfl⟩:=PC.Ze A.val hL
  rfl
 have aL:(G.g n).nl=false:=by
  cases hq:(G.g n).nl with
  |false=>rfl
  |true=>rw[(hr.nl hq).1] at j9;simp at j9
 obtain⟨l1,l2,l3⟩:=hr.dq aL
 refine⟨by simp,.inr rfl,rfl,rfl,rfl,rfl,rfl,?_,fun h=>?_,fun _=>?_,?_,fun b hb=>?_,fun _ k' j' c cM hc=>?_⟩
 ·rw[e8,hr.er,afz,List.map_set,List.map_set]
 ·rw[aL] at h;cases h
 ·rw[e8]
  refine⟨⟨fun e he=>?_,fun k' j' c cM=>?_,fun k' j' c cM=>?_⟩,by rw[List.length_set];exact l3⟩
  ·rcases List.mem_or_eq_of_mem_set he with he|rfl
   ·exact l2.1 e he
   ·rw[List.length_set];exact l2.1 e0 (List.mem_of_getElem? j9)
  ·rw[gW (qP aL)]
   rcases xv j9 cM with⟨rfl,rfl,rfl⟩|⟨h1,_⟩
   ·rw[A.val];exact l2.2.1 _ _ _ bZ
   ·exact l2.2.1 _ _ _ h1
  ·rcases xv j9 cM with⟨rfl,rfl,rfl⟩|⟨h1,h2⟩
   ·exact A.dF
   ·exact(l2.2.2 _ _ _ h1).congr fun b hb o=>gW (N9 k' j' c h1 h2 b hb) o
 ·rw[e8]
  refine⟨fun k' j' c cM=>?_,fun k1 j1 c1 k2 j2 c2 b h1 h2 aA hb aU=>?_⟩
  ·rcases xv j9 cM with⟨rfl,rfl,rfl⟩|⟨h1,h2⟩
   ·exact A.sep
   ·exact hr.mode.2.1 _ _ _ h1
  ·rcases xv j9 h1 with⟨rfl,rfl,rfl⟩|⟨g1,n1⟩
   ·rcases xv j9 h2 with⟨rfl,rfl,rfl⟩|⟨g2,n2⟩
    ·exact aA rfl
    ·exact hr.mode.2.2 _ _ _ _ _ _ b bZ g2 aA (A.sub b hb) aU
   ·rcases xv j9 h2 with⟨rfl,rfl,rfl⟩|⟨g2,n2⟩
    ·exact hr.mode.2.2 _ _ _ _ _ _ b g1 bZ aA hb (A.sub b aU)
    ·exact hr.mode.2.2 _ _ _ _ _ _ b g1 g2 aA hb aU
 ·rw[e8] at hb
  obtain⟨k',j',c,cM,hc⟩:=hb
  rcases xv j9 cM with⟨rfl,rfl,rfl⟩|⟨h1,h2⟩
  ·exact⟨_,_,_,bZ,A.sub b hc⟩
  ·exact⟨_,_,_,h1,hc⟩
 ·rw[e8]
  by_cases he:(k',j')=(k,off)
  ·have h1:k'=k:=congrArg Prod.fst he
   have h2:j'=off:=congrArg Prod.snd he
   subst h1 h2
   obtain⟨e1,g1,g2⟩:=cM
   rw[j9] at g1
   injection g1 with g1
   subst g1
   rw[NQ] at g2
   injection g2 with g2
   subst g2
   have hl:j'<e0.length:=(List.getElem?_eq_some_iff.1 NQ).1
   exact⟨q,⟨_,List.getElem?_set_self (List.getElem?_eq_some_iff.1 j9).1,List.getElem?_set_self hl⟩,A.val,hqL⟩
  ·exact⟨c,acq j9 cM he,rfl,hc⟩
theorem Zs:∀{as:List ai} {eZ:List (Bool×List ah)} {vals:List Value},wq as=some eZ->vals.length=as.length->(∀(j:Nat) (x:ai) (v:Value),as[j]? =some x->vals[j]? =some v->RA w G h x v)->
  vals.length=eZ.length/\∀(j:Nat) (x:Bool×List ah) (v:Value),eZ[j]? =some x->vals[j]? =some v->RV w G h x.1 x.2 v
 |[],eZ,vals,hx,hl,hc=>by
  simp only[wq] at hx
  injection hx with hx
  subst hx
  exact⟨hl,by simp⟩
 |y::as,eZ,vals,hx,hl,hc=>by
  simp only[wq] at hx
  split at hx
  ·rename_i x xs e1 e2
   injection hx with hx
   subst hx
   match vals,hl with
   |v::vals,hl=>
    obtain⟨i1,i2⟩:=Zs e2 (vals:=vals) (by simpa using hl) (fun j x v h1 h2=>hc (j+1) x v h1 h2)
    refine⟨by simp[i1],fun j x' v' hj hv=>?_⟩
    cases j with
    |zero=>
     simp at hj hv
     subst hj hv
     have h0:=hc 0 y v rfl rfl
     cases y with
     |one c=>
      cases c<;>simp[ai.cells?] at e1<;>subst e1<;>exact h0.resolve_left (by simp)
     |agg cs=>
      simp[ai.cells?] at e1
      subst e1
      exact h0
     |bj l=>simp[ai.cells?] at e1
    |succ j=>exact i2 j x' v' (by simpa using hj) (by simpa using hv)
  ·cases hx
theorem rE.fV {it:cQ} {md:Mode} {pc:PC} (i:rE B E w G h it md pc):pc.fV=true:=by
 obtain⟨sz,a,cap,xs,rfl,_⟩:=i.ok.dq
 rfl
def FI (P:Program) (T:be):Prop:=∀f sig M,be.qA T.Bi f=some (sig,M)->n4 P f sig M
theorem adH (r:R B E w0 N σ a w G) {T:be} (hT:FI P T) {m:Mode} {f:FuncId} {as:List ai} {vals:List Value} {σ1:St} (hN:∀n,o.dst=some n->n<N)
  (bm:(execOp a.eval o).run P w=.ok (.enter f vals.toArray) w) (hl:vals.length=as.length)
  (xU:∀(j:Nat) (x:ai) (v:Value),as[j]? =some x->vals[j]? =some v->RA w G σ.h x v)
  (hx:tw T m o.dst f as σ=some σ1):o.wp P a w (Nx B E w0 N σ1) Q:=by
 have H:=r.hr
 unfold tw at hx
 split at hx
 ·rename_i sig M eZ hM afr
  split at hx
  ·rename_i fJ
   split at hx
   ·rename_i ds its hv
    split at hx
    ·rename_i rs dZ tD
     split at hx
     ·rename_i σ2 pD
      split at hx
      ·rename_i ls f9 vB
       injection hx with hx
       subst hx
       obtain⟨Di,afn⟩:=Zs afr hl xU
       obtain⟨pas,q1,q2,q3,q4,q5,q6,q7⟩:=H.oO hv Di afn
       have vG:(its.filterMap (·.1.dr)).Nodup:=by rw[q6];exact fJ
       generalize H4:dW sig (pas.map (·.ps))=fl at q5
       have Je:∀(i:Nat) (x:Mode×PC),fl[i]? =some x->∃it,its[i]? =some it/\it.2=x.1/\rE B E w G σ.h it.1 x.1 x.2:=by
        intro i x hi
        have bN:i<its.length:=by rw[q5.len];exact(List.getElem?_eq_some_iff.1 hi).1
        have he:its[i]? =some its[i]:=List.getElem?_eq_getElem bN
        exact⟨_,he,q5.at_ i _ x he hi⟩
       have WK:∀x∈fl,∃it∈its,rE B E w G σ.h it.1 x.1 x.2:=by
        intro x hx
        obtain⟨i,hi⟩:=List.getElem?_of_mem hx
        obtain⟨it,h1,_,h2⟩:=Je i x hi
        exact⟨it,List.mem_of_getElem? h1,h2⟩
       have qK:∀x∈fl,∀b,aN b x.2->∃n gr m sz xs,n∈nK sig eZ/\σ.h n=some (.row gr m sz xs)/\m≠ .aE/\rS G n b/\((∀b,¬aR b (G.g n).px)\/m=.live):=by
        intro x hx b hb
        obtain⟨it,h1,h2⟩:=WK x hx
        obtain⟨n,gr,m,sz,xs,e1,e2,e3,e4,e5⟩:=h2.np H hb
        exact⟨n,gr,m,sz,xs,by rw[<-q6];exact List.mem_filterMap.2 ⟨it,h1,e1⟩,e2,e3,e4,e5⟩
       have rV:∀b,Mi fl b->(B<=b\/E b):=by
        rintro b ⟨x,hx,hb⟩
        obtain⟨n,gr,m,sz,xs,_,e2,e3,e4,e5⟩:=qK x hx b hb
        rcases e4 with⟨aL,rfl⟩|hF
        ·exact(H.own n (by rw[e2];simp) aL).2.1
        ·have gf:=(H.row n gr m sz xs e2).mode
         cases m with
         |aE=>exact absurd rfl e3
         |aa=>exact(gf.1 b hF).2.2
         |live=>exact(gf.1 b hF).2.2
       have ajC:Lr w sig ds vals pas:=by
        refine⟨q2,q1,q3,fun x hx=>?_,?_,fun pc aZ x hx b hb aU=>?_,fun p hp hk=>absurd hk (q4 p hp),fun i p s hp _ hk=>absurd hk (q4 p (List.mem_of_getElem? hp))⟩
        ·rw[H4] at hx
         obtain⟨it,_,h2⟩:=WK x hx
         exact h2.ok
        ·rw[H4,List.pairwise_iff_getElem]
         intro i j hi hj jC b hb aU
         obtain⟨it,h1,_,h2⟩:=Je i _ (List.getElem?_eq_getElem hi)
         obtain⟨yw,je,_,z6⟩:=Je j _ (List.getElem?_eq_getElem hj)
         obtain⟨n,gr,m,sz,xs,e1,e2,e3,e4,e5⟩:=h2.np H hb
         obtain⟨n',bf,m',aK,au,Ho,vm,e3',Hp,zQ⟩:=z6.np H aU
         have aA:n≠n':=by
          rintro rfl
          have:=JM vG h1 je e1 Ho
          omega
         exact H.HJ aA e2 vm zQ e4 Hp
        ·rw[H4] at hx
         obtain⟨n',bf,m',aK,au,Ho,vm,e3',Hp,zQ⟩:=qK x hx b aU
         rcases q7 pc aZ b hb with hi|⟨n,gr,m,sz,xs,hn,e2,e4⟩
         ·rcases Hp with⟨aL,rfl⟩|hF
          ·exact(H.own n' (by rw[vm];simp) aL).1 hi
          ·rcases zQ with zQ|rfl
           ·exact zQ b hF
           ·exact((H.row n' bf .live aK au vm).mode.1 b hF).1 hi
         ·have aA:n≠n':=fun e=>hn (e▸Ho)
          exact H.HJ aA e2 vm zQ e4 Hp
       unfold Oper.wp
       rw[bm]
       refine(hT f sig M hM ds rs dZ tD w vals pas ajC).mono fun e w' ⟨aO,p1,p2,p3,p4,p5,qs,p6,p7,p8⟩=>?_
       subst p2
       rw[H4] at p5 p7 p8
       obtain⟨t1,t2,t3,t4⟩:=aac pD vG
       have W3:∀n,n∈nK sig eZ->∃(i:Nat) (it:cQ×Mode) (x:Mode×PC) (q:PC),its[i]? =some it/\fl[i]? =some x/\qs[i]? =some q/\dZ[i]? =some q.er/\it.1.dr=some n/\rE B E w G σ.h it.1 x.1 x.2/\u5 w' x.1 x.2 q:=by
        intro n hn
        rw[<-q6,List.mem_filterMap] at hn
        obtain⟨it,vD,fv⟩:=hn
        obtain⟨i,hi⟩:=List.getElem?_of_mem vD
        have bN:i<fl.length:=by rw[<-q5.len];exact(List.getElem?_eq_some_iff.1 hi).1
        have hx:fl[i]? =some fl[i]:=List.getElem?_eq_getElem bN
        have hq:qs[i]? =some (qs[i]'(by rw[p7];exact bN)):=List.getElem?_eq_getElem _
        exact⟨i,it,_,_,hi,hx,hq,by rw[<-p6,List.getElem?_map,hq];rfl,fv,(q5.at_ i it _ hi hx).2,p8 i _ _ hx hq⟩
       have af9:∀b,b<w.heap.size->(∀n,n∈nK sig eZ->¬rS G n b)->w'.heap[b]? =w.heap[b]? :=by
        intro b hb ca
        refine p5.block b hb ?_
        rintro⟨x,hx,C8⟩
        obtain⟨n,gr,m,sz,xs,e1,e2,e3,e4,e5⟩:=qK x hx b C8
        exact ca n e1 e4
       have afP:∀b,b<w.heap.size->(∀x∈fl,¬aN b x.2)->w'.heap[b]? =w.heap[b]? :=fun b hb ca=>p5.block b hb (by rintro⟨x,hx,C8⟩;exact ca x hx C8)
       obtain⟨xk,K,eT⟩:=H.QS (G':=xR G its qs) (h':=σ2.h) (w':=w') (S:=fun n=>n∈nK sig eZ) p5.size af9 (fun b hb=>p5.jT b hb) rfl (fun n hn=>by
        obtain⟨i,it,x,q,hi,XP,ox,jg,fv,fg,C3⟩:=W3 n hn
        have bZ:=fg.at_
        have Xv:=t4 i it q.er hi jg
        rw[afj vG hi ox fv]
        obtain⟨OR,md⟩:=it
        cases OR with
        |nil sz=>cases fv
        |row n'=>
         injection fv with fv
         have fv:n'=n:=fv
         subst fv
         obtain⟨gr,mo,sz,xs,e1,e2,e3,e4,e5⟩:=bZ
         obtain⟨bf,mT,uA,jX,au,g1,g2,g3⟩:=Xv
         rw[e1] at g1
         injection g1 with g1
         injection g1 with a1 a2 a3 a4
         subst a1 a2 a3 a4
         rw[e4] at C3
         exact⟨gr,mo,sz,xs,au,e1,g3,acL H e1 e2 e3 e5 C3 g2⟩
        |nest n' k off=>
         injection fv with fv
         have fv:n'=n:=fv
         subst fv
         obtain⟨gr,sz,xs,e1,e2,e3⟩:=bZ
         obtain⟨bf,mT,uA,jX,ex,g1,g2,g3⟩:=Xv
         rw[e1] at g1
         injection g1 with g1
         injection g1 with a1 a2 a3 a4
         subst a1 a2 a3 a4
         rw[e2] at C3
         have hr:=H.row n' gr .live sz xs e1
         have bF:σ.h n'≠none:=by rw[e1];simp
         have Ig:∀b,rS G n' b->¬aN b x.2->w'.heap[b]? =w.heap[b]? :=by
          intro b hb yd
          have bN:b<w.heap.size:=by
           rcases hb with⟨aL,rfl⟩|hF
           ·exact(H.own n' bF aL).2.2
           ·exact H.qd e1 hF
          refine afP b bN fun y hy pw=>?_
          obtain⟨j,hj⟩:=List.getElem?_of_mem hy
          by_cases jC:j=i
          ·subst jC
           rw[XP] at hj
           injection hj with hj
           subst hj
           exact yd pw
          ·obtain⟨yw,je,_,z6⟩:=Je j y hj
           obtain⟨n2,z5,m2,jS,gH,f1,f2,f3,f4,f5⟩:=z6.np H pw
           have aA:n'≠n2:=by
            rintro rfl
            exact jC (JM vG je hi f1 rfl)
           exact H.HJ aA e1 f2 f5 hb f4
         refine⟨gr,.live,sz,xs,_,e1,g3,Vs H e1 e3 fg.fV (fun aL=>Ig _ (.inl ⟨aL,rfl⟩) fun hb=>?_) (fun k' j' c hk aA b hb=>Ig b (.inr ⟨k',j',c,hk,hb⟩) fun C8=>?_) C3 g2⟩
         ·exact H.live n' gr sz xs e1 _ ⟨k,off,x.2,e3,hb⟩ n' bF aL rfl
         ·exact hr.mode.2.2 _ _ _ _ _ _ b hk e3 aA hb C8) (fun n hn=>⟨t3 n (by rw[q6];exact hn),afk (by rw[q6];exact hn)⟩)
       have HR2:HR B E w' (xR G its qs) σ2.h σ2.used []:=by rw[t2];exact xk
       have fH:th B w' (xR G its qs) σ2.h (aO.flatMap (·.2)):=by
        refine⟨p4.dF,fun pc aZ b hb=>?_,?_⟩
        ·obtain⟨n1,n2⟩:=p4.new pc aZ b hb
         refine⟨⟨fun hi=>?_,fun q hq iN he=>?_,fun q gr mo sz xs hq bW=>?_⟩,n2,Nat.le_trans r.fr.size n1⟩
         ·have:=H.fk b hi;omega
         ·obtain⟨k0,k1,k2,_⟩:=K.name q (xk.iq q hq) hq
          have:=(H.own q k0 (k1.symm.trans iN)).2.2
          rw[<-k2] at this
          omega
         ·have aU:=eT q b bW
          have Aq:=xk.iq q (by rw[hq];simp)
          obtain⟨k0,_⟩:=K.name q Aq (by rw[hq];simp)
          cases hh:σ.h q with
          |none=>exact absurd hh k0
          |some blk=>
           cases blk with
           |box cs=>
            have:q∉nK sig eZ:=by
             intro hm
             obtain⟨i,it,x,q',hi,XP,ox,jg,fv,fg,C3⟩:=W3 q hm
             have bZ:=fg.at_
             obtain⟨OR,md⟩:=it
             cases OR with
             |nil sz=>cases fv
             |row n'=>
              injection fv with fv
              have fv:n'=q:=fv
              subst fv
              obtain⟨gr,mo,sz,xs,e1,_⟩:=bZ
              rw[hh] at e1;cases e1
             |nest n' k off=>
              injection fv with fv
              have fv:n'=q:=fv
              subst fv
              obtain⟨gr,sz,xs,e1,_⟩:=bZ
              rw[hh] at e1;cases e1
            have h3:=t3 q (by rw[q6];exact this)
            rw[h3,hh] at hq
            cases hq
           |row bf m' aK au=>have:=H.qd hh aU;omega
        ·rw[List.pairwise_iff_getElem]
         intro i j hi hj jC b hb
         exact p4.mz i j _ _ b (by omega) (List.getElem?_eq_getElem hi) (List.getElem?_eq_getElem hj) hb
       rw[<-p1] at vB
       obtain⟨G',b1,b2,b3,b4,b5,b6,b7⟩:=HR.iT HR2 vB p3 fH
       have x6:Fr B E w0 w':=by
        refine⟨p5.os.trans r.fr.os,p5.tape.trans r.fr.tape,p5.output.trans r.fr.output,Nat.le_trans r.fr.size p5.size,fun b hb he=>?_,fun b hb=>?_⟩
        ·refine(p5.block b (Nat.lt_of_lt_of_le hb r.fr.size) fun hx=>?_).trans (r.fr.block b hb he)
         rcases rV b hx with h1|h1
         ·omega
         ·exact he h1
        ·exact(r.fr.jT b hb).trans (p5.jT b (Nat.lt_of_lt_of_le hb r.fr.size))
       have K2:aV w G σ.h (fun n=>σ.used n=true) w' G' f9.h:=aV.trans (fun n hn=>by rw[t2];exact hn) K b2
       have r2:R B E w0 N f9 a w' G':=r.step (b6.trans t1) (fun q hq=>b7 q (by rw[t2];exact hq)) K2 b1 x6
       refine⟨G',r2.put (RA.lp b3 p3 b4) ?_ hN⟩
       intro q hq
       match ls,hq with
       |[],hq=>obtain⟨x,hx,_⟩:=hq;simp at hx
       |[(true,cs)],hq=>obtain⟨c,hc,hq⟩:=hq;exact b5 (true,cs) (by simp) c hc q hq
       |[(false,[c])],hq=>exact b5 (false,[c]) (by simp) c (by simp) q hq
       |[(false,[])],hq=>exact absurd hq id
       |[(false,_::_::_)],hq=>exact absurd hq id
       |x::y::ls,hq=>obtain⟨x',eg,c,hc,hq⟩:=hq;exact b5 x' eg c hc q hq
      ·cases hx
     ·cases hx
    ·cases hx
   ·cases hx
  ·cases hx
 ·cases hx
theorem adA (r:R B E w0 N σ a w G) {T:be} (hT:FI P T) {m:Mode} {f:FuncId} {xs:Array Operand} {ms:List MO} {ts:Array TypeId} {σ1:St} (hN:∀n,o.dst=some n->n<N)
  (ho:o.op=.call {callee:=.value (.func f),args:=xs,argTypes:=ts}) (hf:bD P f=true) (hm:gN xs.toList ms=true)
  (hx:tw T m o.dst f (ms.map σ.ev) σ=some σ1):o.wp P a w (Nx B E w0 N σ1) Q:=by
 obtain⟨e1,e2⟩:=r.zU hm
 refine adH r hT (vals:=xs.toList.map a.eval) hN ?_ (by simpa using e1) e2 hx
 have he:(xs.toList.map a.eval).toArray=xs.map a.eval:=by apply Array.ext';simp
 rw[he]
 simp[execOp,ho,resolve,Deferred.ofValue,invoke,Act.eval,BG hf]
end
end Go.Am
