/- Am24: code as a whole. No condition. -/
import Derived.Test.YtbgmbplglejidaaAm23
import Derived.Test.YtbgmbplglejidaaAmQ
set_option linter.unusedVariables false
namespace Go.Am
section
variable {B:Nat} {E:Ex} {w0 w w':World} {G G':Gh} {N:Nat} {h h':Nat->Option aq}
variable {P:Program} {T:aS} {a:Act} {σ σ':St} {Q:Exit->Act->World->Prop}
theorem R.aoR (r:R B E w0 N σ a w G) {n j:Nat} {cs:List ah} {y:ah} (hn:σ.h n=some (.box cs)) (hy:∀v,w.cell? (ad (G.g n).b ((G.g n).o+j))=some v->RC w G σ.h y v) (hyr:∀m,y.ref m->σ.used m=true):
  R B E w0 N (σ.du n (.box (cs.set j y))) a w G:=by
 have H:=r.hr
 have bJ:σ.h n≠none:=by rw[hn];simp
 obtain⟨b1,b2,b3⟩:=H.box n cs hn
 have hg:ax G.g n (G.g n)=G.g:=FG _ _
 have K:aZ w G σ.h (fun n=>σ.used n=true) w ⟨G.Im,ax G.g n (G.g n)⟩ (ax σ.h n (some (.box (cs.set j y)))):=by
  rw[hg]
  refine⟨fun _ h=>h,fun _ _ _=>rfl,fun m _ hm=>⟨?_,rfl,rfl,rfl,rfl,rfl⟩,fun m gr sz xs _ hm=>?_⟩
  ·by_cases bC:m=n
   ·subst bC;exact bJ
   ·rwa[cb _ _ _ _ bC] at hm
  ·by_cases bC:m=n
   ·subst bC;rw[bE] at hm;cases hm
   ·rw[cb _ _ _ _ bC] at hm
    exact⟨⟨gr,xs,hm⟩,fun k j pc h1 h2=>⟨pc,h1,rfl,h2⟩⟩
 have Hn:=H.put (w':=w) (used':=σ.used) (n:=n) (blk:=.box (cs.set j y)) (p:=G.g n) (fun _ _ _=>rfl) (Nat.le_refl _) (fun _ _ h=>h) (fun _ h=>h) (H.iA n bJ) (fun hl=>H.own n bJ hl)
  (fun hl m bC hm DV=>H.inj m n hm bJ bC DV hl) (fun hl m gr sz xs bC hm b hb=>H.live m gr sz xs hm b hb n bJ hl)
  (fun cs' c m hb hc hr=>by
   injection hb with hb
   subst hb
   rcases List.mem_or_eq_of_mem_set hc with hc|rfl
   ·exact H.gC n cs c m hn hc hr
   ·exact hyr m hr) K
  (by
   refine⟨b1,b2,fun i c hi=>?_⟩
   rw[List.getElem?_set] at hi
   split at hi
   ·rename_i jm
    subst jm
    split at hi
    ·rename_i bB
     injection hi with hi
     subst hi
     obtain⟨v,v1,v2,v3⟩:=b3 j cs[j] (List.getElem?_eq_getElem bB)
     exact⟨v,v1,v2,(hy v v1).eV K hyr⟩
    ·cases hi
   ·obtain⟨v,v1,v2,v3⟩:=b3 i c hi
    exact⟨v,v1,v2,v3.eV K fun m hm=>H.gC n cs c m hn (List.mem_of_getElem? hi) hm⟩)
  (fun gr m sz xs hb=>by cases hb) (fun gr sz xs hb=>by cases hb) (fun gr m sz xs hb=>by cases hb)
  (fun hl _ b ⟨m,gr,mo,sz,xs,_,hm,hb⟩=>H.sL bJ hl hm hb)
 rw[hg] at K Hn
 exact r.step rfl (fun _ h=>h) K Hn r.fr
theorem R.jH (r:R B E w0 N σ a w G) (c:Nat) (m:Mode):R B E w0 N (σ.jH c m) a w G:=by
 unfold St.jH
 cases m with
 |live=>exact r
 |ab=>exact r
 |aO=>
  simp only
  split
  ·rename_i gr rs xs hn
   have hg:(⟨G.Im,ax G.g c (G.g c)⟩:Gh)=G:=by
    have:ax G.g c (G.g c)=G.g:=by funext q;rw[iO];split<;>simp[*]
    rw[this]
   have hr:=r.hr.row c gr .ab rs xs hn
   have e0:∀q b,ax σ.h c (some (.row gr .aO rs xs)) q=some b->q≠c->σ.h q=some b:=fun q b hq aE=>by rwa[cb _ _ _ _ aE] at hq
   have ne:∀q,ax σ.h c (some (.row gr .aO rs xs)) q≠none->σ.h q≠none:=fun q hq=>by
    by_cases nU:q=c
    ·subst nU;rw[hn];simp
    ·rwa[cb _ _ _ _ nU] at hq
   have mT:∀q bj m' aL ar,ax σ.h c (some (.row gr .aO rs xs)) q=some (.row bj m' aL ar)->m'≠ .aO->q≠c/\σ.h q=some (.row bj m' aL ar):=fun q bj m' aL ar hq hm=>by
    by_cases nU:q=c
    ·subst nU;rw[bE] at hq;injection hq with hq;injection hq with _ hq _ _;exact absurd hq.symm hm
    ·exact⟨nU,e0 q _ hq nU⟩
   have K:aZ w G σ.h (fun q=>σ.used q=true) w G (ax σ.h c (some (.row gr .aO rs xs))):=
    ⟨fun _ h=>h,fun _ _ _=>rfl,fun q _ hq=>⟨ne q hq,rfl,rfl,rfl,rfl,rfl⟩,fun q bj aL ar _ hq=>by
     obtain⟨h1,h2⟩:=mT q bj .live aL ar hq (by simp)
     exact⟨⟨bj,ar,h2⟩,fun k j pc a b=>⟨pc,a,rfl,b⟩⟩⟩
   have H:=r.hr
   have Hn:HR B E w G (ax σ.h c (some (.row gr .aO rs xs))) σ.used []:=by
    refine⟨fun q hq=>H.iA q (ne q hq),fun q cs y p hq=>?_,fun q cs hq=>?_,fun q bj m' aL ar hq=>?_,fun q hq=>H.own q (ne q hq),fun q q' hq ez=>H.inj q q' (ne q hq) (ne q' ez),H.fL,H.oY,
     fun q q' bj m' aL ar AO m2 jZ ic hq ez hm jO=>H.fA q q' bj m' aL ar AO m2 jZ ic (mT _ _ _ _ _ hq hm).2 (mT _ _ _ _ _ ez jO).2 hm jO,
     fun q bj aL ar hq b hb q' ez=>H.live q bj aL ar (mT _ _ _ _ _ hq (by simp)).2 b hb q' (ne q' ez),(by intro i pc hi;simp at hi),(by intro i j pc di b _ hi;simp at hi),(by intro i pc q bj m' aL ar b hi;simp at hi)⟩
    ·have nU:q≠c:=fun e=>by subst e;rw[bE] at hq;cases hq
     exact H.gC q cs y p (e0 q _ hq nU)
    ·have nU:q≠c:=fun e=>by subst e;rw[bE] at hq;cases hq
     obtain⟨a1,a2,a3⟩:=H.box q cs (e0 q _ hq nU)
     refine⟨a1,a2,fun j y hj=>?_⟩
     obtain⟨v,v1,v2,v3⟩:=a3 j y hj
     exact⟨v,v1,v2,v3.eV K fun p hp=>H.gC q cs y p (e0 q _ hq nU) (List.mem_of_getElem? hj) hp⟩
    ·by_cases nU:q=c
     ·subst nU
      rw[bE] at hq
      injection hq with hq
      injection hq with h1 h2 h3 h4
      subst h1 h2 h3 h4
      exact⟨hr.pos,hr.er,hr.nl,hr.dT,hr.room,fun b hb=>(hr.mode.1 b hb).1⟩
     ·exact H.row q bj m' aL ar (e0 q _ hq nU)
   exact r.step rfl (fun _ h=>h) K Hn r.fr
  ·exact r
theorem R.ET (r:R B E w0 N σ a w G) {x c:Nat} {m:Mode} (hx:(σ.ba x c).map (fun σ1=>σ1.jH c m)=some σ'):∃G',R B E w0 N σ' a w G':=by
 rw[Option.map_eq_some_iff] at hx
 obtain⟨σ1,e,rfl⟩:=hx
 obtain⟨G',r'⟩:=r.ba e
 exact⟨G',r'.jH c m⟩
theorem R.canon (r:R B E w0 N σ a w G) {x:Bool×Nat×Nat×Nat×Mode} (hx:σ.canon x=some σ'):∃G',R B E w0 N σ' a w G':=by
 obtain⟨b,n,j,c,m⟩:=x
 have fP:some σ=some σ'->∃G',R B E w0 N σ' a w G':=fun h=>by injection h with h;subst h;exact⟨G,r⟩
 cases b with
 |true=>
  simp only[St.canon] at hx
  split at hx
  ·rename_i cs hn
   split at hx
   ·exact r.ET hx
   ·rename_i sz hj
    split at hx
    ·rename_i bF
     split at hx
     ·rename_i σ1 e
      injection hx with hx
      subst hx
      obtain⟨G1,r1,db⟩:=r.aaq bF e
      obtain⟨hu,rfl⟩:=lP e
      have DZ:σ.used n=true:=r.hr.iA n (by rw[hn];simp)
      have qd:n≠c:=fun he=>by subst he;rw[hu] at DZ;cases DZ
      have kG:(ax σ.h c (some (.row true m sz []))) n=some (.box cs):=by rw[cb _ _ _ _ qd];exact hn
      refine⟨G1,r1.aoR kG (fun v hv=>?_) (fun q hq=>?_)⟩
      ·obtain⟨v',v1,v2,v3⟩:=(r1.hr.box n cs kG).2.2 j _ hj
       rw[v1] at hv
       injection hv with hv
       subst hv
       have v3':v'=.slice none 0 0:=v3
       subst v3'
       exact db
      ·have ez:q=c:=hq
       subst ez
       exact bE _ _ _
     ·cases hx
    ·exact fP hx
   ·exact fP hx
  ·exact fP hx
 |false=>
  simp only[St.canon] at hx
  split at hx
  ·exact r.ET hx
  ·rename_i sz hj
   split at hx
   ·rename_i bF
    split at hx
    ·rename_i σ1 e
     injection hx with hx
     subst hx
     obtain⟨G1,r1,db⟩:=r.aaq bF e
     obtain⟨hu,rfl⟩:=lP e
     have hv:=r1.env n
     rw[show({σ with h:=ax σ.h c (some (.row true m sz [])),used:=ax σ.used c true}:St).env n=σ.env n from rfl,hj] at hv
     have fK:a.tmps.getD n undef=.slice none 0 0:=(hv.fz (by simp)).1
     refine⟨G1,r1.defers,r1.size,fun s=>?_,fun s q hq=>?_,r1.hr,r1.fr,r1.qD,r1.ze⟩
     ·show RA w G1 _ (ax σ.env n _ s) _
      by_cases hs:s=n
      ·subst hs
       rw[bE,fK]
       exact RA.fZ rfl db
      ·rw[cb _ _ _ _ hs];exact r1.env s
     ·have jp:(ax σ.env n (.one (.sl c sz 0 0)) s).ref q:=hq
      by_cases hs:s=n
      ·subst hs
       rw[bE] at jp
       have ez:q=c:=jp
       subst ez
       exact bE _ _ _
      ·rw[cb _ _ _ _ hs] at jp;exact r1.r7 s q jp
    ·cases hx
   ·exact fP hx
  ·exact fP hx
theorem R.sy:∀{l:List (Bool×Nat×Nat×Nat×Mode)} {σ:St} {G:Gh},R B E w0 N σ a w G->σ.sy l=some σ'->∃G',R B E w0 N σ' a w G'
 |[],σ,G,r,hx=>by
  simp only[St.sy] at hx
  injection hx with hx
  subst hx
  exact⟨G,r⟩
 |x::l,σ,G,r,hx=>by
  simp only[St.sy] at hx
  split at hx
  ·rename_i σ1 e
   obtain⟨G1,r1⟩:=r.canon e
   exact R.sy r1 hx
  ·cases hx
theorem R.head (r:R B E w0 N σ a w G) {ke kh:List Nat} {cn:List (Bool×Nat×Nat×Nat×Mode)} (hx:σ.head ke kh cn=some σ'):∃G',R B E w0 N σ' a w G':=by
 unfold St.head at hx
 split at hx
 ·rename_i σ1 e
  injection hx with hx
  subst hx
  obtain⟨G1,r1⟩:=((r.h9 ke kh).h9 ke kh).sy e
  exact⟨G1,r1.h9 ke kh⟩
 ·cases hx
def iT (P:Program) (N:Nat):Code->lg->Bool
 |c,.join _ _ _ mc=>iT P N c mc
 |.skip,.skip=>true
 |.region _ ops re,.aa afm ms=>(re==afm)&&oG P N ops ops.toList ms&&(!re||HS ops.toList ms)
 |.region _ ops re,.rS ps ms=>re&&oG P N ops ops.toList ms&&HT ps ops.toList ms
 |.seq x y,.seq mx my=>iT P N x mx&&iT P N y my
 |.cond c x y,.cond mc mx my=>bz c mc&&iT P N x mx&&iT P N y my
 |.block id c,.block PS mc=>(id==PS)&&iT P N c mc
 |.loop c,.loop _ _ _ _ mc=>iT P N c mc
 |.exit id,.exit PS=>id==PS
 |.ret,.ret=>true
 |_,_=>false
def aeg (B:Nat) (E:Ex) (w0:World) (N:Nat) (Q:Exit->Act->World->Prop):sq->Prop
 |.fy σ=>∀a w G,R B E w0 N σ a w G->Q .normal a w
 |.ext id σ=>∀a w G,R B E w0 N σ a w G->Q (.exit id) a w
 |.ret σ=>∀a w G,R B E w0 N σ a w G->Q .ret a w
theorem lD (hT:nI P T) (hm:P.follows .mixedOrders=true):∀(mc:lg) {c:Code} {σ:St} {o:sq} {a:Act} {w:World} {G:Gh} {Q:Exit->Act->World->Prop},
  iT P N c mc=true->dY T mc σ=some o->R B E w0 N σ a w G->aeg B E w0 N Q o->c.wp P Q a w
 |.skip,c,σ,o,a,w,G,Q,hc,hx,r,hQ=>by
  cases c<;>simp only[iT] at hc<;>first|cases hc|skip
  simp only[dY] at hx
  injection hx with hx
  subst hx
  exact wp_skip (hQ _ _ _ r)
 |.aa re ms,c,σ,o,a,w,G,Q,hc,hx,r,hQ=>by
  cases c<;>simp only[iT] at hc<;>first|cases hc|skip
  simp only[Bool.and_eq_true,Bool.or_eq_true,beq_iff_eq] at hc
  simp only[dY] at hx
  split at hx
  ·rename_i σ1 e
   injection hx with hx
   subst hx
   exact aoU hT hm hc.1.2 (fun hd=>hc.2.resolve_left (by simp[hd])) e r hQ
  ·cases hx
 |.rS ps ms,c,σ,o,a,w,G,Q,hc,hx,r,hQ=>by
  cases c<;>simp only[iT] at hc<;>first|cases hc|skip
  simp only[Bool.and_eq_true] at hc
  obtain⟨⟨hd,DJ⟩,DK⟩:=hc
  subst hd
  simp only[dY] at hx
  split at hx
  ·rename_i fs σ1 e
   cases hp:wZ ps fs with
   |true=>
    rw[hp] at hx
    injection hx with hx
    subst hx
    exact aoT hT hm DJ DK e hp r hQ
   |false=>rw[hp] at hx;cases hx
  ·cases hx
 |.seq mx my,c,σ,o,a,w,G,Q,hc,hx,r,hQ=>by
  cases c<;>simp only[iT] at hc<;>first|cases hc|skip
  simp only[Bool.and_eq_true] at hc
  simp only[dY] at hx
  refine wp_seq ?_
  cases e:dY T mx σ with
  |none=>rw[e] at hx;cases hx
  |some o1=>
   rw[e] at hx
   cases o1 with
   |fy σ1=>exact lD hT hm mx hc.1 e r fun a w G r1=>lD hT hm my hc.2 hx r1 hQ
   |ext i σ1=>
    injection hx with hx
    subst hx
    exact lD hT hm mx hc.1 e r hQ
   |ret σ1=>
    injection hx with hx
    subst hx
    exact lD hT hm mx hc.1 e r hQ
 |.cond mc mx my,c,σ,o,a,w,G,Q,hc,hx,r,hQ=>by
  cases c<;>simp only[iT] at hc<;>first|cases hc|skip
  simp only[Bool.and_eq_true] at hc
  simp only[dY] at hx
  split at hx
  ·rename_i t ht
   have h1:=(r.ev hc.1.1).1
   rw[ht] at h1
   refine wp_cond h1.Ao ?_
   cases t with
   |true=>simp only[if_true] at hx⊢;exact lD hT hm mx hc.1.2 hx r hQ
   |false=>simp only[Bool.false_eq_true,if_false] at hx⊢;exact lD hT hm my hc.2 hx r hQ
  ·cases hx
 |.block id mc,c,σ,o,a,w,G,Q,hc,hx,r,hQ=>by
  cases c<;>simp only[iT] at hc<;>first|cases hc|skip
  simp only[Bool.and_eq_true,beq_iff_eq] at hc
  obtain⟨rfl,hc⟩:=hc
  simp only[dY] at hx
  refine wp_block ?_
  cases e:dY T mc σ with
  |none=>rw[e] at hx;cases hx
  |some o1=>
   rw[e] at hx
   refine lD hT hm mc hc e r ?_
   cases o1 with
   |fy σ1=>injection hx with hx;subst hx;exact hQ
   |ret σ1=>injection hx with hx;subst hx;exact hQ
   |ext i σ1=>
    simp only at hx
    intro a w G r1
    simp only[Exit.inBlock]
    split at hx
    ·rename_i hi;injection hx with hx;subst hx;rw[if_pos hi];exact hQ a w G r1
    ·rename_i hi;injection hx with hx;subst hx;rw[if_neg hi];exact hQ a w G r1
 |.join ke kh cn mc,c,σ,o,a,w,G,Q,hc,hx,r,hQ=>by
  have hc:iT P N c mc=true:=by cases c<;>exact hc
  simp only[dY] at hx
  cases e:dY T mc σ with
  |none=>rw[e] at hx;cases hx
  |some o1=>
   rw[e] at hx
   cases o1 with
   |fy σ1=>
    simp only at hx
    split at hx
    ·rename_i σh e0
     injection hx with hx
     subst hx
     exact lD hT hm mc hc e r fun a w G r1=>by
      obtain⟨G',r'⟩:=r1.head e0
      exact hQ a w G' r'
    ·cases hx
   |ext i σ1=>
    injection hx with hx
    subst hx
    exact lD hT hm mc hc e r hQ
   |ret σ1=>
    injection hx with hx
    subst hx
    exact lD hT hm mc hc e r hQ
 |.loop id ke kh cn mc,c,σ,o,a,w,G,Q,hc,hx,r,hQ=>by
  cases c<;>simp only[iT] at hc<;>first|cases hc|skip
  rename_i c
  simp only[dY] at hx
  refine wp_loop_rounds az ?_
  revert hx r
  generalize az=n
  revert σ a w G
  induction n with
  |zero=>intro σ a w G hx r;simp[BA] at hx
  |succ n ih=>
   intro σ a w G hx r
   simp only[BA] at hx
   rw[rounds_succ]
   cases e0:σ.head ke kh cn with
   |none=>rw[e0] at hx;cases hx
   |some σh=>
    rw[e0] at hx
    obtain⟨G',r'⟩:=r.head e0
    cases e:dY T mc σh with
    |none=>simp only[e] at hx;cases hx
    |some o1=>
     simp only[e] at hx
     refine lD hT hm mc hc e r' ?_
     cases o1 with
     |fy σ1=>intro a w G r1;exact ih _ _ _ _ hx r1
     |ext i σ1=>injection hx with hx;subst hx;exact hQ
     |ret σ1=>injection hx with hx;subst hx;exact hQ
 |.exit id,c,σ,o,a,w,G,Q,hc,hx,r,hQ=>by
  cases c<;>simp only[iT] at hc<;>first|cases hc|skip
  have hid:=eq_of_beq hc
  subst hid
  simp only[dY] at hx
  injection hx with hx
  subst hx
  exact wp_exit (hQ _ _ _ r)
 |.ret,c,σ,o,a,w,G,Q,hc,hx,r,hQ=>by
  cases c<;>simp only[iT] at hc<;>first|cases hc|skip
  simp only[dY] at hx
  injection hx with hx
  subst hx
  exact wp_ret (hQ _ _ _ r)
end
end Go.Am
