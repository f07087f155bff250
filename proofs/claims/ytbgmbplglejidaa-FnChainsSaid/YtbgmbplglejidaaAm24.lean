/- Am24: code as a whole. No condition. -/
import Derived.Test.YtbgmbplglejidaaAm23
import Derived.Test.YtbgmbplglejidaaAmQ
set_option linter.unusedVariables false
namespace Go.Am
section
variable {B:Nat} {E:Ex} {w0 w w':World} {G G':Gh} {N:Nat} {h h':Nat->Option ao}
variable {P:Program} {T:aO} {a:Act} {σ σ':St} {Q:Exit->Act->World->Prop}
theorem R.ann (r:R B E w0 N σ a w G) {n j:Nat} {cs:List ah} {y:ah} (hn:σ.h n=some (.box cs)) (hy:∀v,w.cell? (ad (G.g n).b ((G.g n).o+j))=some v->RC w G σ.h y v) (Zr:∀m,y.ref m->σ.used m=true):
  R B E w0 N (σ.dn n (.box (cs.set j y))) a w G:=by
 have H:=r.hr
 have bM:σ.h n≠none:=by rw[hn];simp
 obtain⟨b1,b2,b3⟩:=H.box n cs hn
 have hg:au G.g n (G.g n)=G.g:=Ft _ _
 have K:bc w G σ.h (fun n=>σ.used n=true) w ⟨G.Im,au G.g n (G.g n)⟩ (au σ.h n (some (.box (cs.set j y)))):=by
  rw[hg]
  refine⟨fun _ h=>h,fun _ _ _=>rfl,fun m _ hm=>⟨?_,rfl,rfl,rfl,rfl,rfl⟩,fun m gr sz xs _ hm=>?_⟩
  ·by_cases bE:m=n
   ·subst bE;exact bM
   ·rwa[cq _ _ _ _ bE] at hm
  ·by_cases bE:m=n
   ·subst bE;rw[bF] at hm;cases hm
   ·rw[cq _ _ _ _ bE] at hm
    exact⟨⟨gr,xs,hm⟩,fun k j pc h1 h2=>⟨pc,h1,rfl,h2⟩⟩
 have Hn:=H.put (w':=w) (used':=σ.used) (n:=n) (blk:=.box (cs.set j y)) (p:=G.g n) (fun _ _ _=>rfl) (Nat.le_refl _) (fun _ _ h=>h) (fun _ h=>h) (H.iG n bM) (fun hl=>H.own n bM hl)
  (fun hl m bE hm Oz=>H.inj m n hm bM bE Oz hl) (fun hl m gr sz xs bE hm b hb=>H.live m gr sz xs hm b hb n bM hl)
  (fun cs' c m hb hc hr=>by
   injection hb with hb
   subst hb
   rcases List.mem_or_eq_of_mem_set hc with hc|rfl
   ·exact H.gH n cs c m hn hc hr
   ·exact Zr m hr) K
  (by
   refine⟨b1,b2,fun i c hi=>?_⟩
   rw[List.getElem?_set] at hi
   split at hi
   ·rename_i jw
    subst jw
    split at hi
    ·rename_i bG
     injection hi with hi
     subst hi
     obtain⟨v,v1,v2,v3⟩:=b3 j cs[j] (List.getElem?_eq_getElem bG)
     exact⟨v,v1,v2,(hy v v1).fe K Zr⟩
    ·cases hi
   ·obtain⟨v,v1,v2,v3⟩:=b3 i c hi
    exact⟨v,v1,v2,v3.fe K fun m hm=>H.gH n cs c m hn (List.mem_of_getElem? hi) hm⟩)
  (fun gr m sz xs hb=>by cases hb) (fun gr sz xs hb=>by cases hb) (fun gr m sz xs hb=>by cases hb)
  (fun hl _ b ⟨m,gr,mo,sz,xs,_,hm,hb⟩=>H.sC bM hl hm hb)
 rw[hg] at K Hn
 exact r.step rfl (fun _ h=>h) K Hn r.fr
theorem R.jJ (r:R B E w0 N σ a w G) (c:Nat) (m:Mode):R B E w0 N (σ.jJ c m) a w G:=by
 unfold St.jJ
 cases m with
 |live=>exact r
 |ae=>exact r
 |aD=>
  simp only
  split
  ·rename_i gr rs xs hn
   have hg:(⟨G.Im,au G.g c (G.g c)⟩:Gh)=G:=by
    have:au G.g c (G.g c)=G.g:=by funext q;rw[iP];split<;>simp[*]
    rw[this]
   have hr:=r.hr.row c gr .ae rs xs hn
   have e0:∀q b,au σ.h c (some (.row gr .aD rs xs)) q=some b->q≠c->σ.h q=some b:=fun q b hq aB=>by rwa[cq _ _ _ _ aB] at hq
   have ne:∀q,au σ.h c (some (.row gr .aD rs xs)) q≠none->σ.h q≠none:=fun q hq=>by
    by_cases nY:q=c
    ·subst nY;rw[hn];simp
    ·rwa[cq _ _ _ _ nY] at hq
   have mU:∀q bk m' aJ aq,au σ.h c (some (.row gr .aD rs xs)) q=some (.row bk m' aJ aq)->m'≠ .aD->q≠c/\σ.h q=some (.row bk m' aJ aq):=fun q bk m' aJ aq hq hm=>by
    by_cases nY:q=c
    ·subst nY;rw[bF] at hq;injection hq with hq;injection hq with _ hq _ _;exact absurd hq.symm hm
    ·exact⟨nY,e0 q _ hq nY⟩
   have K:bc w G σ.h (fun q=>σ.used q=true) w G (au σ.h c (some (.row gr .aD rs xs))):=
    ⟨fun _ h=>h,fun _ _ _=>rfl,fun q _ hq=>⟨ne q hq,rfl,rfl,rfl,rfl,rfl⟩,fun q bk aJ aq _ hq=>by
     obtain⟨h1,h2⟩:=mU q bk .live aJ aq hq (by simp)
     exact⟨⟨bk,aq,h2⟩,fun k j pc a b=>⟨pc,a,rfl,b⟩⟩⟩
   have H:=r.hr
   have Hn:HR B E w G (au σ.h c (some (.row gr .aD rs xs))) σ.used []:=by
    refine⟨fun q hq=>H.iG q (ne q hq),fun q cs y p hq=>?_,fun q cs hq=>?_,fun q bk m' aJ aq hq=>?_,fun q hq=>H.own q (ne q hq),fun q q' hq eA=>H.inj q q' (ne q hq) (ne q' eA),H.fW,H.pf,
     fun q q' bk m' aJ aq AM m2 jZ ii hq eA hm jQ=>H.fJ q q' bk m' aJ aq AM m2 jZ ii (mU _ _ _ _ _ hq hm).2 (mU _ _ _ _ _ eA jQ).2 hm jQ,
     fun q bk aJ aq hq b hb q' eA=>H.live q bk aJ aq (mU _ _ _ _ _ hq (by simp)).2 b hb q' (ne q' eA),(by intro i pc hi;simp at hi),(by intro i j pc dg b _ hi;simp at hi),(by intro i pc q bk m' aJ aq b hi;simp at hi)⟩
    ·have nY:q≠c:=fun e=>by subst e;rw[bF] at hq;cases hq
     exact H.gH q cs y p (e0 q _ hq nY)
    ·have nY:q≠c:=fun e=>by subst e;rw[bF] at hq;cases hq
     obtain⟨a1,a2,a3⟩:=H.box q cs (e0 q _ hq nY)
     refine⟨a1,a2,fun j y hj=>?_⟩
     obtain⟨v,v1,v2,v3⟩:=a3 j y hj
     exact⟨v,v1,v2,v3.fe K fun p hp=>H.gH q cs y p (e0 q _ hq nY) (List.mem_of_getElem? hj) hp⟩
    ·by_cases nY:q=c
     ·subst nY
      rw[bF] at hq
      injection hq with hq
      injection hq with h1 h2 h3 h4
      subst h1 h2 h3 h4
      exact⟨hr.pos,hr.er,hr.nl,hr.dR,hr.room,fun b hb=>(hr.mode.1 b hb).1⟩
     ·exact H.row q bk m' aJ aq (e0 q _ hq nY)
   exact r.step rfl (fun _ h=>h) K Hn r.fr
  ·exact r
theorem R.EN (r:R B E w0 N σ a w G) {x c:Nat} {m:Mode} (hx:(σ.be x c).map (fun σ1=>σ1.jJ c m)=some σ'):∃G',R B E w0 N σ' a w G':=by
 rw[Option.map_eq_some_iff] at hx
 obtain⟨σ1,e,rfl⟩:=hx
 obtain⟨G',r'⟩:=r.be e
 exact⟨G',r'.jJ c m⟩
theorem R.canon (r:R B E w0 N σ a w G) {x:Bool×Nat×Nat×Nat×Mode} (hx:σ.canon x=some σ'):∃G',R B E w0 N σ' a w G':=by
 obtain⟨b,n,j,c,m⟩:=x
 have fY:some σ=some σ'->∃G',R B E w0 N σ' a w G':=fun h=>by injection h with h;subst h;exact⟨G,r⟩
 cases b with
 |true=>
  simp only[St.canon] at hx
  split at hx
  ·rename_i cs hn
   split at hx
   ·exact r.EN hx
   ·rename_i sz hj
    split at hx
    ·rename_i bD
     split at hx
     ·rename_i σ1 e
      injection hx with hx
      subst hx
      obtain⟨G1,r1,dM⟩:=r.ZC bD e
      obtain⟨hu,rfl⟩:=lL e
      have DX:σ.used n=true:=r.hr.iG n (by rw[hn];simp)
      have uj:n≠c:=fun he=>by subst he;rw[hu] at DX;cases DX
      have mD:(au σ.h c (some (.row true m sz []))) n=some (.box cs):=by rw[cq _ _ _ _ uj];exact hn
      refine⟨G1,r1.ann mD (fun v hv=>?_) (fun q hq=>?_)⟩
      ·obtain⟨v',v1,v2,v3⟩:=(r1.hr.box n cs mD).2.2 j _ hj
       rw[v1] at hv
       injection hv with hv
       subst hv
       have v3':v'=.slice none 0 0:=v3
       subst v3'
       exact dM
      ·have eA:q=c:=hq
       subst eA
       exact bF _ _ _
     ·cases hx
    ·exact fY hx
   ·exact fY hx
  ·exact fY hx
 |false=>
  simp only[St.canon] at hx
  split at hx
  ·exact r.EN hx
  ·rename_i sz hj
   split at hx
   ·rename_i bD
    split at hx
    ·rename_i σ1 e
     injection hx with hx
     subst hx
     obtain⟨G1,r1,dM⟩:=r.ZC bD e
     obtain⟨hu,rfl⟩:=lL e
     have hv:=r1.env n
     rw[show({σ with h:=au σ.h c (some (.row true m sz [])),used:=au σ.used c true}:St).env n=σ.env n from rfl,hj] at hv
     have fE:a.tmps.getD n undef=.slice none 0 0:=(hv.fH (by simp)).1
     refine⟨G1,r1.defers,r1.size,fun s=>?_,fun s q hq=>?_,r1.hr,r1.fr,r1.qA,r1.y4⟩
     ·show RA w G1 _ (au σ.env n _ s) _
      by_cases hs:s=n
      ·subst hs
       rw[bF,fE]
       exact RA.ga rfl dM
      ·rw[cq _ _ _ _ hs];exact r1.env s
     ·have jS:(au σ.env n (.one (.sl c sz 0 0)) s).ref q:=hq
      by_cases hs:s=n
      ·subst hs
       rw[bF] at jS
       have eA:q=c:=jS
       subst eA
       exact bF _ _ _
      ·rw[cq _ _ _ _ hs] at jS;exact r1.r7 s q jS
    ·cases hx
   ·exact fY hx
  ·exact fY hx
theorem R.sk:∀{l:List (Bool×Nat×Nat×Nat×Mode)} {σ:St} {G:Gh},R B E w0 N σ a w G->σ.sk l=some σ'->∃G',R B E w0 N σ' a w G'
 |[],σ,G,r,hx=>by
  simp only[St.sk] at hx
  injection hx with hx
  subst hx
  exact⟨G,r⟩
 |x::l,σ,G,r,hx=>by
  simp only[St.sk] at hx
  split at hx
  ·rename_i σ1 e
   obtain⟨G1,r1⟩:=r.canon e
   exact R.sk r1 hx
  ·cases hx
theorem R.head (r:R B E w0 N σ a w G) {ke kh:List Nat} {cn:List (Bool×Nat×Nat×Nat×Mode)} (hx:σ.head ke kh cn=some σ'):∃G',R B E w0 N σ' a w G':=by
 unfold St.head at hx
 split at hx
 ·rename_i σ1 e
  injection hx with hx
  subst hx
  obtain⟨G1,r1⟩:=((r.ia ke kh).ia ke kh).sk e
  exact⟨G1,r1.ia ke kh⟩
 ·cases hx
def iV (P:Program) (N:Nat):Code->lg->Bool
 |c,.join _ _ _ mc=>iV P N c mc
 |.skip,.skip=>true
 |.region _ ops rh,.ab aeF ms=>(rh==aeF)&&oG P N ops ops.toList ms&&(!rh||HG ops.toList ms)
 |.region _ ops rh,.qD ps ms=>rh&&oG P N ops ops.toList ms&&HH ps ops.toList ms
 |.seq x y,.seq mx my=>iV P N x mx&&iV P N y my
 |.cond c x y,.cond mc mx my=>bB c mc&&iV P N x mx&&iV P N y my
 |.block id c,.block O2 mc=>(id==O2)&&iV P N c mc
 |.loop c,.loop _ _ _ _ mc=>iV P N c mc
 |.exit id,.exit O2=>id==O2
 |.ret,.ret=>true
 |_,_=>false
def adl (B:Nat) (E:Ex) (w0:World) (N:Nat) (Q:Exit->Act->World->Prop):sd->Prop
 |.fG σ=>∀a w G,R B E w0 N σ a w G->Q .normal a w
 |.ext id σ=>∀a w G,R B E w0 N σ a w G->Q (.exit id) a w
 |.ret σ=>∀a w G,R B E w0 N σ a w G->Q .ret a w
theorem lA (hT:nH P T) (hm:P.follows .mixedOrders=true):∀(mc:lg) {c:Code} {σ:St} {o:sd} {a:Act} {w:World} {G:Gh} {Q:Exit->Act->World->Prop},
  iV P N c mc=true->dX T mc σ=some o->R B E w0 N σ a w G->adl B E w0 N Q o->c.wp P Q a w
 |.skip,c,σ,o,a,w,G,Q,hc,hx,r,hQ=>by
  cases c<;>simp only[iV] at hc<;>first|cases hc|skip
  simp only[dX] at hx
  injection hx with hx
  subst hx
  exact wp_skip (hQ _ _ _ r)
 |.ab rh ms,c,σ,o,a,w,G,Q,hc,hx,r,hQ=>by
  cases c<;>simp only[iV] at hc<;>first|cases hc|skip
  simp only[Bool.and_eq_true,Bool.or_eq_true,beq_iff_eq] at hc
  simp only[dX] at hx
  split at hx
  ·rename_i σ1 e
   injection hx with hx
   subst hx
   exact anr hT hm hc.1.2 (fun hd=>hc.2.resolve_left (by simp[hd])) e r hQ
  ·cases hx
 |.qD ps ms,c,σ,o,a,w,G,Q,hc,hx,r,hQ=>by
  cases c<;>simp only[iV] at hc<;>first|cases hc|skip
  simp only[Bool.and_eq_true] at hc
  obtain⟨⟨hd,DK⟩,vT⟩:=hc
  subst hd
  simp only[dX] at hx
  split at hx
  ·rename_i fs σ1 e
   cases hp:wO ps fs with
   |true=>
    rw[hp] at hx
    injection hx with hx
    subst hx
    exact anq hT hm DK vT e hp r hQ
   |false=>rw[hp] at hx;cases hx
  ·cases hx
 |.seq mx my,c,σ,o,a,w,G,Q,hc,hx,r,hQ=>by
  cases c<;>simp only[iV] at hc<;>first|cases hc|skip
  simp only[Bool.and_eq_true] at hc
  simp only[dX] at hx
  refine wp_seq ?_
  cases e:dX T mx σ with
  |none=>rw[e] at hx;cases hx
  |some o1=>
   rw[e] at hx
   cases o1 with
   |fG σ1=>exact lA hT hm mx hc.1 e r fun a w G r1=>lA hT hm my hc.2 hx r1 hQ
   |ext i σ1=>
    injection hx with hx
    subst hx
    exact lA hT hm mx hc.1 e r hQ
   |ret σ1=>
    injection hx with hx
    subst hx
    exact lA hT hm mx hc.1 e r hQ
 |.cond mc mx my,c,σ,o,a,w,G,Q,hc,hx,r,hQ=>by
  cases c<;>simp only[iV] at hc<;>first|cases hc|skip
  simp only[Bool.and_eq_true] at hc
  simp only[dX] at hx
  split at hx
  ·rename_i t ht
   have h1:=(r.ev hc.1.1).1
   rw[ht] at h1
   refine wp_cond h1.Ai ?_
   cases t with
   |true=>simp only[if_true] at hx⊢;exact lA hT hm mx hc.1.2 hx r hQ
   |false=>simp only[Bool.false_eq_true,if_false] at hx⊢;exact lA hT hm my hc.2 hx r hQ
  ·cases hx
 |.block id mc,c,σ,o,a,w,G,Q,hc,hx,r,hQ=>by
  cases c<;>simp only[iV] at hc<;>first|cases hc|skip
  simp only[Bool.and_eq_true,beq_iff_eq] at hc
  obtain⟨rfl,hc⟩:=hc
  simp only[dX] at hx
  refine wp_block ?_
  cases e:dX T mc σ with
  |none=>rw[e] at hx;cases hx
  |some o1=>
   rw[e] at hx
   refine lA hT hm mc hc e r ?_
   cases o1 with
   |fG σ1=>injection hx with hx;subst hx;exact hQ
   |ret σ1=>injection hx with hx;subst hx;exact hQ
   |ext i σ1=>
    simp only at hx
    intro a w G r1
    simp only[Exit.inBlock]
    split at hx
    ·rename_i hi;injection hx with hx;subst hx;rw[if_pos hi];exact hQ a w G r1
    ·rename_i hi;injection hx with hx;subst hx;rw[if_neg hi];exact hQ a w G r1
 |.join ke kh cn mc,c,σ,o,a,w,G,Q,hc,hx,r,hQ=>by
  have hc:iV P N c mc=true:=by cases c<;>exact hc
  simp only[dX] at hx
  cases e:dX T mc σ with
  |none=>rw[e] at hx;cases hx
  |some o1=>
   rw[e] at hx
   cases o1 with
   |fG σ1=>
    simp only at hx
    split at hx
    ·rename_i σh e0
     injection hx with hx
     subst hx
     exact lA hT hm mc hc e r fun a w G r1=>by
      obtain⟨G',r'⟩:=r1.head e0
      exact hQ a w G' r'
    ·cases hx
   |ext i σ1=>
    injection hx with hx
    subst hx
    exact lA hT hm mc hc e r hQ
   |ret σ1=>
    injection hx with hx
    subst hx
    exact lA hT hm mc hc e r hQ
 |.loop id ke kh cn mc,c,σ,o,a,w,G,Q,hc,hx,r,hQ=>by
  cases c<;>simp only[iV] at hc<;>first|cases hc|skip
  rename_i c
  simp only[dX] at hx
  refine wp_loop_rounds ax ?_
  revert hx r
  generalize ax=n
  revert σ a w G
  induction n with
  |zero=>intro σ a w G hx r;simp[BE] at hx
  |succ n ih=>
   intro σ a w G hx r
   simp only[BE] at hx
   rw[rounds_succ]
   cases e0:σ.head ke kh cn with
   |none=>rw[e0] at hx;cases hx
   |some σh=>
    rw[e0] at hx
    obtain⟨G',r'⟩:=r.head e0
    cases e:dX T mc σh with
    |none=>simp only[e] at hx;cases hx
    |some o1=>
     simp only[e] at hx
     refine lA hT hm mc hc e r' ?_
     cases o1 with
     |fG σ1=>intro a w G r1;exact ih _ _ _ _ hx r1
     |ext i σ1=>injection hx with hx;subst hx;exact hQ
     |ret σ1=>injection hx with hx;subst hx;exact hQ
 |.exit id,c,σ,o,a,w,G,Q,hc,hx,r,hQ=>by
  cases c<;>simp only[iV] at hc<;>first|cases hc|skip
  have hid:=eq_of_beq hc
  subst hid
  simp only[dX] at hx
  injection hx with hx
  subst hx
  exact wp_exit (hQ _ _ _ r)
 |.ret,c,σ,o,a,w,G,Q,hc,hx,r,hQ=>by
  cases c<;>simp only[iV] at hc<;>first|cases hc|skip
  simp only[dX] at hx
  injection hx with hx
  subst hx
  exact wp_ret (hQ _ _ _ r)
end
end Go.Am
