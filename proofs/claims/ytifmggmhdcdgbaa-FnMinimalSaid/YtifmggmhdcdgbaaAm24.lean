/- Am24: code as a whole. No condition. -/
import Derived.Test.YtifmggmhdcdgbaaAm23
import Derived.Test.YtifmggmhdcdgbaaAmQ
set_option linter.unusedVariables false
namespace Go.Am
section
variable {B:Nat} {E:Ex} {w0 w w':World} {G G':Gh} {N:Nat} {h h':Nat->Option aq}
variable {P:Program} {T:bg} {a:Act} {σ σ':St} {Q:Exit->Act->World->Prop}
theorem R.ai8 (r:R B E w0 N σ a w G) {n j:Nat} {cs:List ai} {y:ai} (hn:σ.h n=some (.box cs)) (hy:∀v,w.cell? (ad (G.g n).b ((G.g n).o+j))=some v->RC w G σ.h y v) (V4:∀m,y.ref m->σ.used m=true):
  R B E w0 N (σ.dd n (.box (cs.set j y))) a w G:=by
 have H:=r.hr
 have bM:σ.h n≠none:=by rw[hn];simp
 obtain⟨b1,b2,b3⟩:=H.box n cs hn
 have hg:au G.g n (G.g n)=G.g:=Eo _ _
 have K:aT w G σ.h (fun n=>σ.used n=true) w ⟨G.Im,au G.g n (G.g n)⟩ (au σ.h n (some (.box (cs.set j y)))):=by
  rw[hg]
  refine⟨fun _ h=>h,fun _ _ _=>rfl,fun m _ hm=>⟨?_,rfl,rfl,rfl,rfl,rfl⟩,fun m gr sz xs _ hm=>?_⟩
  ·by_cases bB:m=n
   ·subst bB;exact bM
   ·rwa[cb _ _ _ _ bB] at hm
  ·by_cases bB:m=n
   ·subst bB;rw[bC] at hm;cases hm
   ·rw[cb _ _ _ _ bB] at hm
    exact⟨⟨gr,xs,hm⟩,fun k j pc h1 h2=>⟨pc,h1,rfl,h2⟩⟩
 have Hn:=H.put (w':=w) (used':=σ.used) (n:=n) (blk:=.box (cs.set j y)) (p:=G.g n) (fun _ _ _=>rfl) (Nat.le_refl _) (fun _ _ h=>h) (fun _ h=>h) (H.iA n bM) (fun hl=>H.own n bM hl)
  (fun hl m bB hm hml=>H.inj m n hm bM bB hml hl) (fun hl m gr sz xs bB hm b hb=>H.live m gr sz xs hm b hb n bM hl)
  (fun cs' c m hb hc hr=>by
   injection hb with hb
   subst hb
   rcases List.mem_or_eq_of_mem_set hc with hc|rfl
   ·exact H.gi n cs c m hn hc hr
   ·exact V4 m hr) K
  (by
   refine⟨b1,b2,fun i c hi=>?_⟩
   rw[List.getElem?_set] at hi
   split at hi
   ·rename_i jN
    subst jN
    split at hi
    ·rename_i bL
     injection hi with hi
     subst hi
     obtain⟨v,v1,v2,v3⟩:=b3 j cs[j] (List.getElem?_eq_getElem bL)
     exact⟨v,v1,v2,(hy v v1).eI K V4⟩
    ·cases hi
   ·obtain⟨v,v1,v2,v3⟩:=b3 i c hi
    exact⟨v,v1,v2,v3.eI K fun m hm=>H.gi n cs c m hn (List.mem_of_getElem? hi) hm⟩)
  (fun gr m sz xs hb=>by cases hb) (fun gr sz xs hb=>by cases hb) (fun gr m sz xs hb=>by cases hb)
  (fun hl _ b ⟨m,gr,mo,sz,xs,_,hm,hb⟩=>H.rK bM hl hm hb)
 rw[hg] at K Hn
 exact r.step rfl (fun _ h=>h) K Hn r.fr
theorem R.jd (r:R B E w0 N σ a w G) (c:Nat) (m:Mode):R B E w0 N (σ.jd c m) a w G:=by
 unfold St.jd
 cases m with
 |live=>exact r
 |ae=>exact r
 |aA=>
  simp only
  split
  ·rename_i gr rs xs hn
   have hg:(⟨G.Im,au G.g c (G.g c)⟩:Gh)=G:=by
    have:au G.g c (G.g c)=G.g:=by funext q;rw[iK];split<;>simp[*]
    rw[this]
   have hr:=r.hr.row c gr .ae rs xs hn
   have e0:∀q b,au σ.h c (some (.row gr .aA rs xs)) q=some b->q≠c->σ.h q=some b:=fun q b hq aw=>by rwa[cb _ _ _ _ aw] at hq
   have ne:∀q,au σ.h c (some (.row gr .aA rs xs)) q≠none->σ.h q≠none:=fun q hq=>by
    by_cases nr:q=c
    ·subst nr;rw[hn];simp
    ·rwa[cb _ _ _ _ nr] at hq
   have mg:∀q bh m' aG ar,au σ.h c (some (.row gr .aA rs xs)) q=some (.row bh m' aG ar)->m'≠ .aA->q≠c/\σ.h q=some (.row bh m' aG ar):=fun q bh m' aG ar hq hm=>by
    by_cases nr:q=c
    ·subst nr;rw[bC] at hq;injection hq with hq;injection hq with _ hq _ _;exact absurd hq.symm hm
    ·exact⟨nr,e0 q _ hq nr⟩
   have K:aT w G σ.h (fun q=>σ.used q=true) w G (au σ.h c (some (.row gr .aA rs xs))):=
    ⟨fun _ h=>h,fun _ _ _=>rfl,fun q _ hq=>⟨ne q hq,rfl,rfl,rfl,rfl,rfl⟩,fun q bh aG ar _ hq=>by
     obtain⟨h1,h2⟩:=mg q bh .live aG ar hq (by simp)
     exact⟨⟨bh,ar,h2⟩,fun k j pc a b=>⟨pc,a,rfl,b⟩⟩⟩
   have H:=r.hr
   have Hn:HR B E w G (au σ.h c (some (.row gr .aA rs xs))) σ.used []:=by
    refine⟨fun q hq=>H.iA q (ne q hq),fun q cs y p hq=>?_,fun q cs hq=>?_,fun q bh m' aG ar hq=>?_,fun q hq=>H.own q (ne q hq),fun q q' hq dM=>H.inj q q' (ne q hq) (ne q' dM),H.fx,H.ox,
     fun q q' bh m' aG ar zD m2 j5 gR hq dM hm jm=>H.fi q q' bh m' aG ar zD m2 j5 gR (mg _ _ _ _ _ hq hm).2 (mg _ _ _ _ _ dM jm).2 hm jm,
     fun q bh aG ar hq b hb q' dM=>H.live q bh aG ar (mg _ _ _ _ _ hq (by simp)).2 b hb q' (ne q' dM),(by intro i pc hi;simp at hi),(by intro i j pc c8 b _ hi;simp at hi),(by intro i pc q bh m' aG ar b hi;simp at hi)⟩
    ·have nr:q≠c:=fun e=>by subst e;rw[bC] at hq;cases hq
     exact H.gi q cs y p (e0 q _ hq nr)
    ·have nr:q≠c:=fun e=>by subst e;rw[bC] at hq;cases hq
     obtain⟨a1,a2,a3⟩:=H.box q cs (e0 q _ hq nr)
     refine⟨a1,a2,fun j y hj=>?_⟩
     obtain⟨v,v1,v2,v3⟩:=a3 j y hj
     exact⟨v,v1,v2,v3.eI K fun p hp=>H.gi q cs y p (e0 q _ hq nr) (List.mem_of_getElem? hj) hp⟩
    ·by_cases nr:q=c
     ·subst nr
      rw[bC] at hq
      injection hq with hq
      injection hq with h1 h2 h3 h4
      subst h1 h2 h3 h4
      exact⟨hr.pos,hr.er,hr.nl,hr.dB,hr.room,fun b hb=>(hr.mode.1 b hb).1⟩
     ·exact H.row q bh m' aG ar (e0 q _ hq nr)
   exact r.step rfl (fun _ h=>h) K Hn r.fr
  ·exact r
theorem R.DO (r:R B E w0 N σ a w G) {x c:Nat} {m:Mode} (hx:(σ.aU x c).map (fun σ1=>σ1.jd c m)=some σ'):∃G',R B E w0 N σ' a w G':=by
 rw[Option.map_eq_some_iff] at hx
 obtain⟨σ1,e,rfl⟩:=hx
 obtain⟨G',r'⟩:=r.aU e
 exact⟨G',r'.jd c m⟩
theorem R.canon (r:R B E w0 N σ a w G) {x:Bool×Nat×Nat×Nat×Mode} (hx:σ.canon x=some σ'):∃G',R B E w0 N σ' a w G':=by
 obtain⟨b,n,j,c,m⟩:=x
 have fA:some σ=some σ'->∃G',R B E w0 N σ' a w G':=fun h=>by injection h with h;subst h;exact⟨G,r⟩
 cases b with
 |true=>
  simp only[St.canon] at hx
  split at hx
  ·rename_i cs hn
   split at hx
   ·exact r.DO hx
   ·rename_i sz hj
    split at hx
    ·rename_i bE
     split at hx
     ·rename_i σ1 e
      injection hx with hx
      subst hx
      obtain⟨G1,r1,ew⟩:=r.WL bE e
      obtain⟨hu,rfl⟩:=lW e
      have CT:σ.used n=true:=r.hr.iA n (by rw[hn];simp)
      have tx:n≠c:=fun he=>by subst he;rw[hu] at CT;cases CT
      have mI:(au σ.h c (some (.row true m sz []))) n=some (.box cs):=by rw[cb _ _ _ _ tx];exact hn
      refine⟨G1,r1.ai8 mI (fun v hv=>?_) (fun q hq=>?_)⟩
      ·obtain⟨v',v1,v2,v3⟩:=(r1.hr.box n cs mI).2.2 j _ hj
       rw[v1] at hv
       injection hv with hv
       subst hv
       have v3':v'=.slice none 0 0:=v3
       subst v3'
       exact ew
      ·have dM:q=c:=hq
       subst dM
       exact bC _ _ _
     ·cases hx
    ·exact fA hx
   ·exact fA hx
  ·exact fA hx
 |false=>
  simp only[St.canon] at hx
  split at hx
  ·exact r.DO hx
  ·rename_i sz hj
   split at hx
   ·rename_i bE
    split at hx
    ·rename_i σ1 e
     injection hx with hx
     subst hx
     obtain⟨G1,r1,ew⟩:=r.WL bE e
     obtain⟨hu,rfl⟩:=lW e
     have hv:=r1.env n
     rw[show({σ with h:=au σ.h c (some (.row true m sz [])),used:=au σ.used c true}:St).env n=σ.env n from rfl,hj] at hv
     have fw:a.tmps.getD n undef=.slice none 0 0:=(hv.fb (by simp)).1
     refine⟨G1,r1.defers,r1.size,fun s=>?_,fun s q hq=>?_,r1.hr,r1.fr,r1.pK,r1.yr⟩
     ·show RA w G1 _ (au σ.env n _ s) _
      by_cases hs:s=n
      ·subst hs
       rw[bC,fw]
       exact RA.fR rfl ew
      ·rw[cb _ _ _ _ hs];exact r1.env s
     ·have jo:(au σ.env n (.one (.sl c sz 0 0)) s).ref q:=hq
      by_cases hs:s=n
      ·subst hs
       rw[bC] at jo
       have dM:q=c:=jo
       subst dM
       exact bC _ _ _
      ·rw[cb _ _ _ _ hs] at jo;exact r1.rf s q jo
    ·cases hx
   ·exact fA hx
  ·exact fA hx
theorem R.rA:∀{l:List (Bool×Nat×Nat×Nat×Mode)} {σ:St} {G:Gh},R B E w0 N σ a w G->σ.rA l=some σ'->∃G',R B E w0 N σ' a w G'
 |[],σ,G,r,hx=>by
  simp only[St.rA] at hx
  injection hx with hx
  subst hx
  exact⟨G,r⟩
 |x::l,σ,G,r,hx=>by
  simp only[St.rA] at hx
  split at hx
  ·rename_i σ1 e
   obtain⟨G1,r1⟩:=r.canon e
   exact R.rA r1 hx
  ·cases hx
theorem R.head (r:R B E w0 N σ a w G) {ke kh:List Nat} {cn:List (Bool×Nat×Nat×Nat×Mode)} (hx:σ.head ke kh cn=some σ'):∃G',R B E w0 N σ' a w G':=by
 unfold St.head at hx
 split at hx
 ·rename_i σ1 e
  injection hx with hx
  subst hx
  obtain⟨G1,r1⟩:=((r.gP ke kh).gP ke kh).rA e
  exact⟨G1,r1.gP ke kh⟩
 ·cases hx
def iz (P:Program) (N:Nat):Code->kN->Bool
 |c,.join _ _ _ mc=>iz P N c mc
 |.skip,.skip=>true
 |.region _ ops qn,.aj abf ms=>(qn==abf)&&nW P N ops ops.toList ms&&(!qn||FZ ops.toList ms)
 |.region _ ops qn,.nH ps ms=>qn&&nW P N ops ops.toList ms&&F0 ps ops.toList ms
 |.seq x y,.seq mx my=>iz P N x mx&&iz P N y my
 |.cond c x y,.cond mc mx my=>bw c mc&&iz P N x mx&&iz P N y my
 |.block id c,.block M4 mc=>(id==M4)&&iz P N c mc
 |.loop c,.loop _ _ _ _ mc=>iz P N c mc
 |.exit id,.exit M4=>id==M4
 |.ret,.ret=>true
 |_,_=>false
def aai (B:Nat) (E:Ex) (w0:World) (N:Nat) (Q:Exit->Act->World->Prop):uB->Prop
 |.ft σ=>∀a w G,R B E w0 N σ a w G->Q .normal a w
 |.ext id σ=>∀a w G,R B E w0 N σ a w G->Q (.exit id) a w
 |.ret σ=>∀a w G,R B E w0 N σ a w G->Q .ret a w
theorem kU (hT:m7 P T) (hm:P.follows .mixedOrders=true):∀(mc:kN) {c:Code} {σ:St} {o:uB} {a:Act} {w:World} {G:Gh} {Q:Exit->Act->World->Prop},
  iz P N c mc=true->dF T mc σ=some o->R B E w0 N σ a w G->aai B E w0 N Q o->c.wp P Q a w
 |.skip,c,σ,o,a,w,G,Q,hc,hx,r,hQ=>by
  cases c<;>simp only[iz] at hc<;>first|cases hc|skip
  simp only[dF] at hx
  injection hx with hx
  subst hx
  exact wp_skip (hQ _ _ _ r)
 |.aj qn ms,c,σ,o,a,w,G,Q,hc,hx,r,hQ=>by
  cases c<;>simp only[iz] at hc<;>first|cases hc|skip
  simp only[Bool.and_eq_true,Bool.or_eq_true,beq_iff_eq] at hc
  simp only[dF] at hx
  split at hx
  ·rename_i σ1 e
   injection hx with hx
   subst hx
   exact ajd hT hm hc.1.2 (fun hd=>hc.2.resolve_left (by simp[hd])) e r hQ
  ·cases hx
 |.nH ps ms,c,σ,o,a,w,G,Q,hc,hx,r,hQ=>by
  cases c<;>simp only[iz] at hc<;>first|cases hc|skip
  simp only[Bool.and_eq_true] at hc
  obtain⟨⟨hd,CJ⟩,uZ⟩:=hc
  subst hd
  simp only[dF] at hx
  split at hx
  ·rename_i fs σ1 e
   cases hp:vR ps fs with
   |true=>
    rw[hp] at hx
    injection hx with hx
    subst hx
    exact ajc hT hm CJ uZ e hp r hQ
   |false=>rw[hp] at hx;cases hx
  ·cases hx
 |.seq mx my,c,σ,o,a,w,G,Q,hc,hx,r,hQ=>by
  cases c<;>simp only[iz] at hc<;>first|cases hc|skip
  simp only[Bool.and_eq_true] at hc
  simp only[dF] at hx
  refine wp_seq ?_
  cases e:dF T mx σ with
  |none=>rw[e] at hx;cases hx
  |some o1=>
   rw[e] at hx
   cases o1 with
   |ft σ1=>exact kU hT hm mx hc.1 e r fun a w G r1=>kU hT hm my hc.2 hx r1 hQ
   |ext i σ1=>
    injection hx with hx
    subst hx
    exact kU hT hm mx hc.1 e r hQ
   |ret σ1=>
    injection hx with hx
    subst hx
    exact kU hT hm mx hc.1 e r hQ
 |.cond mc mx my,c,σ,o,a,w,G,Q,hc,hx,r,hQ=>by
  cases c<;>simp only[iz] at hc<;>first|cases hc|skip
  simp only[Bool.and_eq_true] at hc
  simp only[dF] at hx
  split at hx
  ·rename_i t ht
   have h1:=(r.ev hc.1.1).1
   rw[ht] at h1
   refine wp_cond h1.zg ?_
   cases t with
   |true=>simp only[if_true] at hx⊢;exact kU hT hm mx hc.1.2 hx r hQ
   |false=>simp only[Bool.false_eq_true,if_false] at hx⊢;exact kU hT hm my hc.2 hx r hQ
  ·cases hx
 |.block id mc,c,σ,o,a,w,G,Q,hc,hx,r,hQ=>by
  cases c<;>simp only[iz] at hc<;>first|cases hc|skip
  simp only[Bool.and_eq_true,beq_iff_eq] at hc
  obtain⟨rfl,hc⟩:=hc
  simp only[dF] at hx
  refine wp_block ?_
  cases e:dF T mc σ with
  |none=>rw[e] at hx;cases hx
  |some o1=>
   rw[e] at hx
   refine kU hT hm mc hc e r ?_
   cases o1 with
   |ft σ1=>injection hx with hx;subst hx;exact hQ
   |ret σ1=>injection hx with hx;subst hx;exact hQ
   |ext i σ1=>
    simp only at hx
    intro a w G r1
    simp only[Exit.inBlock]
    split at hx
    ·rename_i hi;injection hx with hx;subst hx;rw[if_pos hi];exact hQ a w G r1
    ·rename_i hi;injection hx with hx;subst hx;rw[if_neg hi];exact hQ a w G r1
 |.join ke kh cn mc,c,σ,o,a,w,G,Q,hc,hx,r,hQ=>by
  have hc:iz P N c mc=true:=by cases c<;>exact hc
  simp only[dF] at hx
  cases e:dF T mc σ with
  |none=>rw[e] at hx;cases hx
  |some o1=>
   rw[e] at hx
   cases o1 with
   |ft σ1=>
    simp only at hx
    split at hx
    ·rename_i σh e0
     injection hx with hx
     subst hx
     exact kU hT hm mc hc e r fun a w G r1=>by
      obtain⟨G',r'⟩:=r1.head e0
      exact hQ a w G' r'
    ·cases hx
   |ext i σ1=>
    injection hx with hx
    subst hx
    exact kU hT hm mc hc e r hQ
   |ret σ1=>
    injection hx with hx
    subst hx
    exact kU hT hm mc hc e r hQ
 |.loop id ke kh cn mc,c,σ,o,a,w,G,Q,hc,hx,r,hQ=>by
  cases c<;>simp only[iz] at hc<;>first|cases hc|skip
  rename_i c
  simp only[dF] at hx
  refine wp_loop_rounds aN ?_
  revert hx r
  generalize aN=n
  revert σ a w G
  induction n with
  |zero=>intro σ a w G hx r;simp[AK] at hx
  |succ n ih=>
   intro σ a w G hx r
   simp only[AK] at hx
   rw[rounds_succ]
   cases e0:σ.head ke kh cn with
   |none=>rw[e0] at hx;cases hx
   |some σh=>
    rw[e0] at hx
    obtain⟨G',r'⟩:=r.head e0
    cases e:dF T mc σh with
    |none=>simp only[e] at hx;cases hx
    |some o1=>
     simp only[e] at hx
     refine kU hT hm mc hc e r' ?_
     cases o1 with
     |ft σ1=>intro a w G r1;exact ih _ _ _ _ hx r1
     |ext i σ1=>injection hx with hx;subst hx;exact hQ
     |ret σ1=>injection hx with hx;subst hx;exact hQ
 |.exit id,c,σ,o,a,w,G,Q,hc,hx,r,hQ=>by
  cases c<;>simp only[iz] at hc<;>first|cases hc|skip
  have Vv:=eq_of_beq hc
  subst Vv
  simp only[dF] at hx
  injection hx with hx
  subst hx
  exact wp_exit (hQ _ _ _ r)
 |.ret,c,σ,o,a,w,G,Q,hc,hx,r,hQ=>by
  cases c<;>simp only[iz] at hc<;>first|cases hc|skip
  simp only[dF] at hx
  injection hx with hx
  subst hx
  exact wp_ret (hQ _ _ _ r)
end
end Go.Am
