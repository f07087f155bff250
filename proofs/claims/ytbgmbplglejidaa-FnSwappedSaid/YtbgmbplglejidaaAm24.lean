/- Am24: code as a whole. No condition. -/
import Derived.Test.YtbgmbplglejidaaAm23
import Derived.Test.YtbgmbplglejidaaAmQ
set_option linter.unusedVariables false
namespace Go.Am
section
variable {B:Nat} {E:Ex} {w0 w w':World} {G G':Gh} {N:Nat} {h h':Nat->Option ar}
variable {P:Program} {T:aT} {a:Act} {σ σ':St} {Q:Exit->Act->World->Prop}
theorem R.aqL (r:R B E w0 N σ a w G) {n j:Nat} {cs:List aj} {y:aj} (hn:σ.h n=some (.box cs)) (hy:∀v,w.cell? (ad (G.g n).b ((G.g n).o+j))=some v->RC w G σ.h y v) (hyr:∀m,y.ref m->σ.used m=true):
  R B E w0 N (σ.dB n (.box (cs.set j y))) a w G:=by
 have H:=r.hr
 have bS:σ.h n≠none:=by rw[hn];simp
 obtain⟨b1,b2,b3⟩:=H.box n cs hn
 have hg:aA G.g n (G.g n)=G.g:=GR _ _
 have K:bf w G σ.h (fun n=>σ.used n=true) w ⟨G.Im,aA G.g n (G.g n)⟩ (aA σ.h n (some (.box (cs.set j y)))):=by
  rw[hg]
  refine⟨fun _ h=>h,fun _ _ _=>rfl,fun m _ hm=>⟨?_,rfl,rfl,rfl,rfl,rfl⟩,fun m gr sz xs _ hm=>?_⟩
  ·by_cases bL:m=n
   ·subst bL;exact bS
   ·rwa[cE _ _ _ _ bL] at hm
  ·by_cases bL:m=n
   ·subst bL;rw[bN] at hm;cases hm
   ·rw[cE _ _ _ _ bL] at hm
    exact⟨⟨gr,xs,hm⟩,fun k j pc h1 h2=>⟨pc,h1,rfl,h2⟩⟩
 have Hn:=H.put (w':=w) (used':=σ.used) (n:=n) (blk:=.box (cs.set j y)) (p:=G.g n) (fun _ _ _=>rfl) (Nat.le_refl _) (fun _ _ h=>h) (fun _ h=>h) (H.jc n bS) (fun hl=>H.own n bS hl)
  (fun hl m bL hm hml=>H.inj m n hm bS bL hml hl) (fun hl m gr sz xs bL hm b hb=>H.live m gr sz xs hm b hb n bS hl)
  (fun cs' c m hb hc hr=>by
   injection hb with hb
   subst hb
   rcases List.mem_or_eq_of_mem_set hc with hc|rfl
   ·exact H.g8 n cs c m hn hc hr
   ·exact hyr m hr) K
  (by
   refine⟨b1,b2,fun i c hi=>?_⟩
   rw[List.getElem?_set] at hi
   split at hi
   ·rename_i jS
    subst jS
    split at hi
    ·rename_i bK
     injection hi with hi
     subst hi
     obtain⟨v,v1,v2,v3⟩:=b3 j cs[j] (List.getElem?_eq_getElem bK)
     exact⟨v,v1,v2,(hy v v1).ft K hyr⟩
    ·cases hi
   ·obtain⟨v,v1,v2,v3⟩:=b3 i c hi
    exact⟨v,v1,v2,v3.ft K fun m hm=>H.g8 n cs c m hn (List.mem_of_getElem? hi) hm⟩)
  (fun gr m sz xs hb=>by cases hb) (fun gr sz xs hb=>by cases hb) (fun gr m sz xs hb=>by cases hb)
  (fun hl _ b ⟨m,gr,mo,sz,xs,_,hm,hb⟩=>H.tm bS hl hm hb)
 rw[hg] at K Hn
 exact r.step rfl (fun _ h=>h) K Hn r.fr
theorem R.kf (r:R B E w0 N σ a w G) (c:Nat) (m:Mode):R B E w0 N (σ.kf c m) a w G:=by
 unfold St.kf
 cases m with
 |live=>exact r
 |ae=>exact r
 |aG=>
  simp only
  split
  ·rename_i gr rs xs hn
   have hg:(⟨G.Im,aA G.g c (G.g c)⟩:Gh)=G:=by
    have:aA G.g c (G.g c)=G.g:=by funext q;rw[jr];split<;>simp[*]
    rw[this]
   have hr:=r.hr.row c gr .ae rs xs hn
   have e0:∀q b,aA σ.h c (some (.row gr .aG rs xs)) q=some b->q≠c->σ.h q=some b:=fun q b hq aD=>by rwa[cE _ _ _ _ aD] at hq
   have ne:∀q,aA σ.h c (some (.row gr .aG rs xs)) q≠none->σ.h q≠none:=fun q hq=>by
    by_cases oR:q=c
    ·subst oR;rw[hn];simp
    ·rwa[cE _ _ _ _ oR] at hq
   have nA:∀q bo m' aJ au,aA σ.h c (some (.row gr .aG rs xs)) q=some (.row bo m' aJ au)->m'≠ .aG->q≠c/\σ.h q=some (.row bo m' aJ au):=fun q bo m' aJ au hq hm=>by
    by_cases oR:q=c
    ·subst oR;rw[bN] at hq;injection hq with hq;injection hq with _ hq _ _;exact absurd hq.symm hm
    ·exact⟨oR,e0 q _ hq oR⟩
   have K:bf w G σ.h (fun q=>σ.used q=true) w G (aA σ.h c (some (.row gr .aG rs xs))):=
    ⟨fun _ h=>h,fun _ _ _=>rfl,fun q _ hq=>⟨ne q hq,rfl,rfl,rfl,rfl,rfl⟩,fun q bo aJ au _ hq=>by
     obtain⟨h1,h2⟩:=nA q bo .live aJ au hq (by simp)
     exact⟨⟨bo,au,h2⟩,fun k j pc a b=>⟨pc,a,rfl,b⟩⟩⟩
   have H:=r.hr
   have Hn:HR B E w G (aA σ.h c (some (.row gr .aG rs xs))) σ.used []:=by
    refine⟨fun q hq=>H.jc q (ne q hq),fun q cs y p hq=>?_,fun q cs hq=>?_,fun q bo m' aJ au hq=>?_,fun q hq=>H.own q (ne q hq),fun q q' hq d9=>H.inj q q' (ne q hq) (ne q' d9),H.gi,H.pZ,
     fun q q' bo m' aJ au BX m2 kL iH hq d9 hm ku=>H.fV q q' bo m' aJ au BX m2 kL iH (nA _ _ _ _ _ hq hm).2 (nA _ _ _ _ _ d9 ku).2 hm ku,
     fun q bo aJ au hq b hb q' d9=>H.live q bo aJ au (nA _ _ _ _ _ hq (by simp)).2 b hb q' (ne q' d9),(by intro i pc hi;simp at hi),(by intro i j pc dq b _ hi;simp at hi),(by intro i pc q bo m' aJ au b hi;simp at hi)⟩
    ·have oR:q≠c:=fun e=>by subst e;rw[bN] at hq;cases hq
     exact H.g8 q cs y p (e0 q _ hq oR)
    ·have oR:q≠c:=fun e=>by subst e;rw[bN] at hq;cases hq
     obtain⟨a1,a2,a3⟩:=H.box q cs (e0 q _ hq oR)
     refine⟨a1,a2,fun j y hj=>?_⟩
     obtain⟨v,v1,v2,v3⟩:=a3 j y hj
     exact⟨v,v1,v2,v3.ft K fun p hp=>H.g8 q cs y p (e0 q _ hq oR) (List.mem_of_getElem? hj) hp⟩
    ·by_cases oR:q=c
     ·subst oR
      rw[bN] at hq
      injection hq with hq
      injection hq with h1 h2 h3 h4
      subst h1 h2 h3 h4
      exact⟨hr.pos,hr.er,hr.nl,hr.dW,hr.room,fun b hb=>(hr.mode.1 b hb).1⟩
     ·exact H.row q bo m' aJ au (e0 q _ hq oR)
   exact r.step rfl (fun _ h=>h) K Hn r.fr
  ·exact r
theorem R.Ga (r:R B E w0 N σ a w G) {x c:Nat} {m:Mode} (hx:(σ.bh x c).map (fun σ1=>σ1.kf c m)=some σ'):∃G',R B E w0 N σ' a w G':=by
 rw[Option.map_eq_some_iff] at hx
 obtain⟨σ1,e,rfl⟩:=hx
 obtain⟨G',r'⟩:=r.bh e
 exact⟨G',r'.kf c m⟩
theorem R.canon (r:R B E w0 N σ a w G) {x:Bool×Nat×Nat×Nat×Mode} (hx:σ.canon x=some σ'):∃G',R B E w0 N σ' a w G':=by
 obtain⟨b,n,j,c,m⟩:=x
 have gu:some σ=some σ'->∃G',R B E w0 N σ' a w G':=fun h=>by injection h with h;subst h;exact⟨G,r⟩
 cases b with
 |true=>
  simp only[St.canon] at hx
  split at hx
  ·rename_i cs hn
   split at hx
   ·exact r.Ga hx
   ·rename_i sz hj
    split at hx
    ·rename_i bP
     split at hx
     ·rename_i σ1 e
      injection hx with hx
      subst hx
      obtain⟨G1,r1,dV⟩:=r.abc bP e
      obtain⟨hu,rfl⟩:=mN e
      have Fk:σ.used n=true:=r.hr.jc n (by rw[hn];simp)
      have u9:n≠c:=fun he=>by subst he;rw[hu] at Fk;cases Fk
      have m9:(aA σ.h c (some (.row true m sz []))) n=some (.box cs):=by rw[cE _ _ _ _ u9];exact hn
      refine⟨G1,r1.aqL m9 (fun v hv=>?_) (fun q hq=>?_)⟩
      ·obtain⟨v',v1,v2,v3⟩:=(r1.hr.box n cs m9).2.2 j _ hj
       rw[v1] at hv
       injection hv with hv
       subst hv
       have v3':v'=.slice none 0 0:=v3
       subst v3'
       exact dV
      ·have d9:q=c:=hq
       subst d9
       exact bN _ _ _
     ·cases hx
    ·exact gu hx
   ·exact gu hx
  ·exact gu hx
 |false=>
  simp only[St.canon] at hx
  split at hx
  ·exact r.Ga hx
  ·rename_i sz hj
   split at hx
   ·rename_i bP
    split at hx
    ·rename_i σ1 e
     injection hx with hx
     subst hx
     obtain⟨G1,r1,dV⟩:=r.abc bP e
     obtain⟨hu,rfl⟩:=mN e
     have hv:=r1.env n
     rw[show({σ with h:=aA σ.h c (some (.row true m sz [])),used:=aA σ.used c true}:St).env n=σ.env n from rfl,hj] at hv
     have eS:a.tmps.getD n undef=.slice none 0 0:=(hv.fS (by simp)).1
     refine⟨G1,r1.defers,r1.size,fun s=>?_,fun s q hq=>?_,r1.hr,r1.fr,r1.rm,r1.Ac⟩
     ·show RA w G1 _ (aA σ.env n _ s) _
      by_cases hs:s=n
      ·subst hs
       rw[bN,eS]
       exact RA.gD rfl dV
      ·rw[cE _ _ _ _ hs];exact r1.env s
     ·have kw:(aA σ.env n (.one (.sl c sz 0 0)) s).ref q:=hq
      by_cases hs:s=n
      ·subst hs
       rw[bN] at kw
       have d9:q=c:=kw
       subst d9
       exact bN _ _ _
      ·rw[cE _ _ _ _ hs] at kw;exact r1.sP s q kw
    ·cases hx
   ·exact gu hx
  ·exact gu hx
theorem R.s9:∀{l:List (Bool×Nat×Nat×Nat×Mode)} {σ:St} {G:Gh},R B E w0 N σ a w G->σ.s9 l=some σ'->∃G',R B E w0 N σ' a w G'
 |[],σ,G,r,hx=>by
  simp only[St.s9] at hx
  injection hx with hx
  subst hx
  exact⟨G,r⟩
 |x::l,σ,G,r,hx=>by
  simp only[St.s9] at hx
  split at hx
  ·rename_i σ1 e
   obtain⟨G1,r1⟩:=r.canon e
   exact R.s9 r1 hx
  ·cases hx
theorem R.head (r:R B E w0 N σ a w G) {ke kh:List Nat} {cn:List (Bool×Nat×Nat×Nat×Mode)} (hx:σ.head ke kh cn=some σ'):∃G',R B E w0 N σ' a w G':=by
 unfold St.head at hx
 split at hx
 ·rename_i σ1 e
  injection hx with hx
  subst hx
  obtain⟨G1,r1⟩:=((r.iE ke kh).iE ke kh).s9 e
  exact⟨G1,r1.iE ke kh⟩
 ·cases hx
def jw (P:Program) (N:Nat):Code->mh->Bool
 |c,.join _ _ _ mc=>jw P N c mc
 |.skip,.skip=>true
 |.region _ ops rU,.af ago ms=>(rU==ago)&&pD P N ops ops.toList ms&&(!rU||Jb ops.toList ms)
 |.region _ ops rU,.pi ps ms=>rU&&pD P N ops ops.toList ms&&Jc ps ops.toList ms
 |.seq x y,.seq mx my=>jw P N x mx&&jw P N y my
 |.cond c x y,.cond mc mx my=>bF c mc&&jw P N x mx&&jw P N y my
 |.block id c,.block QA mc=>(id==QA)&&jw P N c mc
 |.loop c,.loop _ _ _ _ mc=>jw P N c mc
 |.exit id,.exit QA=>id==QA
 |.ret,.ret=>true
 |_,_=>false
def ae7 (B:Nat) (E:Ex) (w0:World) (N:Nat) (Q:Exit->Act->World->Prop):sW->Prop
 |.fR σ=>∀a w G,R B E w0 N σ a w G->Q .normal a w
 |.ext id σ=>∀a w G,R B E w0 N σ a w G->Q (.exit id) a w
 |.ret σ=>∀a w G,R B E w0 N σ a w G->Q .ret a w
theorem mD (hT:oG P T) (hm:P.follows .mixedOrders=true):∀(mc:mh) {c:Code} {σ:St} {o:sW} {a:Act} {w:World} {G:Gh} {Q:Exit->Act->World->Prop},
  jw P N c mc=true->d8 T mc σ=some o->R B E w0 N σ a w G->ae7 B E w0 N Q o->c.wp P Q a w
 |.skip,c,σ,o,a,w,G,Q,hc,hx,r,hQ=>by
  cases c<;>simp only[jw] at hc<;>first|cases hc|skip
  simp only[d8] at hx
  injection hx with hx
  subst hx
  exact wp_skip (hQ _ _ _ r)
 |.af rU ms,c,σ,o,a,w,G,Q,hc,hx,r,hQ=>by
  cases c<;>simp only[jw] at hc<;>first|cases hc|skip
  simp only[Bool.and_eq_true,Bool.or_eq_true,beq_iff_eq] at hc
  simp only[d8] at hx
  split at hx
  ·rename_i σ1 e
   injection hx with hx
   subst hx
   exact aqP hT hm hc.1.2 (fun hd=>hc.2.resolve_left (by simp[hd])) e r hQ
  ·cases hx
 |.pi ps ms,c,σ,o,a,w,G,Q,hc,hx,r,hQ=>by
  cases c<;>simp only[jw] at hc<;>first|cases hc|skip
  simp only[Bool.and_eq_true] at hc
  obtain⟨⟨hd,E4⟩,wR⟩:=hc
  subst hd
  simp only[d8] at hx
  split at hx
  ·rename_i fs σ1 e
   cases hp:xE ps fs with
   |true=>
    rw[hp] at hx
    injection hx with hx
    subst hx
    exact aqO hT hm E4 wR e hp r hQ
   |false=>rw[hp] at hx;cases hx
  ·cases hx
 |.seq mx my,c,σ,o,a,w,G,Q,hc,hx,r,hQ=>by
  cases c<;>simp only[jw] at hc<;>first|cases hc|skip
  simp only[Bool.and_eq_true] at hc
  simp only[d8] at hx
  refine wp_seq ?_
  cases e:d8 T mx σ with
  |none=>rw[e] at hx;cases hx
  |some o1=>
   rw[e] at hx
   cases o1 with
   |fR σ1=>exact mD hT hm mx hc.1 e r fun a w G r1=>mD hT hm my hc.2 hx r1 hQ
   |ext i σ1=>
    injection hx with hx
    subst hx
    exact mD hT hm mx hc.1 e r hQ
   |ret σ1=>
    injection hx with hx
    subst hx
    exact mD hT hm mx hc.1 e r hQ
 |.cond mc mx my,c,σ,o,a,w,G,Q,hc,hx,r,hQ=>by
  cases c<;>simp only[jw] at hc<;>first|cases hc|skip
  simp only[Bool.and_eq_true] at hc
  simp only[d8] at hx
  split at hx
  ·rename_i t ht
   have h1:=(r.ev hc.1.1).1
   rw[ht] at h1
   refine wp_cond h1.Bx ?_
   cases t with
   |true=>simp only[if_true] at hx⊢;exact mD hT hm mx hc.1.2 hx r hQ
   |false=>simp only[Bool.false_eq_true,if_false] at hx⊢;exact mD hT hm my hc.2 hx r hQ
  ·cases hx
 |.block id mc,c,σ,o,a,w,G,Q,hc,hx,r,hQ=>by
  cases c<;>simp only[jw] at hc<;>first|cases hc|skip
  simp only[Bool.and_eq_true,beq_iff_eq] at hc
  obtain⟨rfl,hc⟩:=hc
  simp only[d8] at hx
  refine wp_block ?_
  cases e:d8 T mc σ with
  |none=>rw[e] at hx;cases hx
  |some o1=>
   rw[e] at hx
   refine mD hT hm mc hc e r ?_
   cases o1 with
   |fR σ1=>injection hx with hx;subst hx;exact hQ
   |ret σ1=>injection hx with hx;subst hx;exact hQ
   |ext i σ1=>
    simp only at hx
    intro a w G r1
    simp only[Exit.inBlock]
    split at hx
    ·rename_i hi;injection hx with hx;subst hx;rw[if_pos hi];exact hQ a w G r1
    ·rename_i hi;injection hx with hx;subst hx;rw[if_neg hi];exact hQ a w G r1
 |.join ke kh cn mc,c,σ,o,a,w,G,Q,hc,hx,r,hQ=>by
  have hc:jw P N c mc=true:=by cases c<;>exact hc
  simp only[d8] at hx
  cases e:d8 T mc σ with
  |none=>rw[e] at hx;cases hx
  |some o1=>
   rw[e] at hx
   cases o1 with
   |fR σ1=>
    simp only at hx
    split at hx
    ·rename_i σh e0
     injection hx with hx
     subst hx
     exact mD hT hm mc hc e r fun a w G r1=>by
      obtain⟨G',r'⟩:=r1.head e0
      exact hQ a w G' r'
    ·cases hx
   |ext i σ1=>
    injection hx with hx
    subst hx
    exact mD hT hm mc hc e r hQ
   |ret σ1=>
    injection hx with hx
    subst hx
    exact mD hT hm mc hc e r hQ
 |.loop id ke kh cn mc,c,σ,o,a,w,G,Q,hc,hx,r,hQ=>by
  cases c<;>simp only[jw] at hc<;>first|cases hc|skip
  rename_i c
  simp only[d8] at hx
  refine wp_loop_rounds aC ?_
  revert hx r
  generalize aC=n
  revert σ a w G
  induction n with
  |zero=>intro σ a w G hx r;simp[CQ] at hx
  |succ n ih=>
   intro σ a w G hx r
   simp only[CQ] at hx
   rw[rounds_succ]
   cases e0:σ.head ke kh cn with
   |none=>rw[e0] at hx;cases hx
   |some σh=>
    rw[e0] at hx
    obtain⟨G',r'⟩:=r.head e0
    cases e:d8 T mc σh with
    |none=>simp only[e] at hx;cases hx
    |some o1=>
     simp only[e] at hx
     refine mD hT hm mc hc e r' ?_
     cases o1 with
     |fR σ1=>intro a w G r1;exact ih _ _ _ _ hx r1
     |ext i σ1=>injection hx with hx;subst hx;exact hQ
     |ret σ1=>injection hx with hx;subst hx;exact hQ
 |.exit id,c,σ,o,a,w,G,Q,hc,hx,r,hQ=>by
  cases c<;>simp only[jw] at hc<;>first|cases hc|skip
  have Fb:=eq_of_beq hc
  subst Fb
  simp only[d8] at hx
  injection hx with hx
  subst hx
  exact wp_exit (hQ _ _ _ r)
 |.ret,c,σ,o,a,w,G,Q,hc,hx,r,hQ=>by
  cases c<;>simp only[jw] at hc<;>first|cases hc|skip
  simp only[d8] at hx
  injection hx with hx
  subst hx
  exact wp_ret (hQ _ _ _ r)
end
end Go.Am
