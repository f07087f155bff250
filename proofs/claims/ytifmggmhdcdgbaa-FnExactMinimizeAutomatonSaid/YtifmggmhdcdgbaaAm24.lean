/- Am24: code as a whole. No condition. -/
import Derived.Test.YtifmggmhdcdgbaaAm23
import Derived.Test.YtifmggmhdcdgbaaAmQ
set_option linter.unusedVariables false
namespace Go.Am
section
variable {B:Nat} {E:Ex} {w0 w w':World} {G G':Gh} {N:Nat} {h h':Nat->Option aq}
variable {P:Program} {T:bh} {a:Act} {σ σ':St} {Q:Exit->Act->World->Prop}
theorem R.ajE (r:R B E w0 N σ a w G) {n j:Nat} {cs:List ah} {y:ah} (hn:σ.h n=some (.box cs)) (hy:∀v,w.cell? (ad (G.g n).b ((G.g n).o+j))=some v->RC w G σ.h y v) (WC:∀m,y.ref m->σ.used m=true):
  R B E w0 N (σ.dv n (.box (cs.set j y))) a w G:=by
 have H:=r.hr
 have bN:σ.h n≠none:=by rw[hn];simp
 obtain⟨b1,b2,b3⟩:=H.box n cs hn
 have hg:av G.g n (G.g n)=G.g:=Es _ _
 have K:aY w G σ.h (fun n=>σ.used n=true) w ⟨G.Im,av G.g n (G.g n)⟩ (av σ.h n (some (.box (cs.set j y)))):=by
  rw[hg]
  refine⟨fun _ h=>h,fun _ _ _=>rfl,fun m _ hm=>⟨?_,rfl,rfl,rfl,rfl,rfl⟩,fun m gr sz xs _ hm=>?_⟩
  ·by_cases bC:m=n
   ·subst bC;exact bN
   ·rwa[cd _ _ _ _ bC] at hm
  ·by_cases bC:m=n
   ·subst bC;rw[bD] at hm;cases hm
   ·rw[cd _ _ _ _ bC] at hm
    exact⟨⟨gr,xs,hm⟩,fun k j pc h1 h2=>⟨pc,h1,rfl,h2⟩⟩
 have Hn:=H.put (w':=w) (used':=σ.used) (n:=n) (blk:=.box (cs.set j y)) (p:=G.g n) (fun _ _ _=>rfl) (Nat.le_refl _) (fun _ _ h=>h) (fun _ h=>h) (H.jb n bN) (fun hl=>H.own n bN hl)
  (fun hl m bC hm hml=>H.inj m n hm bN bC hml hl) (fun hl m gr sz xs bC hm b hb=>H.live m gr sz xs hm b hb n bN hl)
  (fun cs' c m hb hc hr=>by
   injection hb with hb
   subst hb
   rcases List.mem_or_eq_of_mem_set hc with hc|rfl
   ·exact H.gT n cs c m hn hc hr
   ·exact WC m hr) K
  (by
   refine⟨b1,b2,fun i c hi=>?_⟩
   rw[List.getElem?_set] at hi
   split at hi
   ·rename_i ko
    subst ko
    split at hi
    ·rename_i bX
     injection hi with hi
     subst hi
     obtain⟨v,v1,v2,v3⟩:=b3 j cs[j] (List.getElem?_eq_getElem bX)
     exact⟨v,v1,v2,(hy v v1).eV K WC⟩
    ·cases hi
   ·obtain⟨v,v1,v2,v3⟩:=b3 i c hi
    exact⟨v,v1,v2,v3.eV K fun m hm=>H.gT n cs c m hn (List.mem_of_getElem? hi) hm⟩)
  (fun gr m sz xs hb=>by cases hb) (fun gr sz xs hb=>by cases hb) (fun gr m sz xs hb=>by cases hb)
  (fun hl _ b ⟨m,gr,mo,sz,xs,_,hm,hb⟩=>H.se bN hl hm hb)
 rw[hg] at K Hn
 exact r.step rfl (fun _ h=>h) K Hn r.fr
theorem R.jO (r:R B E w0 N σ a w G) (c:Nat) (m:Mode):R B E w0 N (σ.jO c m) a w G:=by
 unfold St.jO
 cases m with
 |live=>exact r
 |aa=>exact r
 |aF=>
  simp only
  split
  ·rename_i gr rs xs hn
   have hg:(⟨G.Im,av G.g c (G.g c)⟩:Gh)=G:=by
    have:av G.g c (G.g c)=G.g:=by funext q;rw[jp];split<;>simp[*]
    rw[this]
   have hr:=r.hr.row c gr .aa rs xs hn
   have e0:∀q b,av σ.h c (some (.row gr .aF rs xs)) q=some b->q≠c->σ.h q=some b:=fun q b hq aC=>by rwa[cd _ _ _ _ aC] at hq
   have ne:∀q,av σ.h c (some (.row gr .aF rs xs)) q≠none->σ.h q≠none:=fun q hq=>by
    by_cases n6:q=c
    ·subst n6;rw[hn];simp
    ·rwa[cd _ _ _ _ n6] at hq
   have mT:∀q bi m' aK ar,av σ.h c (some (.row gr .aF rs xs)) q=some (.row bi m' aK ar)->m'≠ .aF->q≠c/\σ.h q=some (.row bi m' aK ar):=fun q bi m' aK ar hq hm=>by
    by_cases n6:q=c
    ·subst n6;rw[bD] at hq;injection hq with hq;injection hq with _ hq _ _;exact absurd hq.symm hm
    ·exact⟨n6,e0 q _ hq n6⟩
   have K:aY w G σ.h (fun q=>σ.used q=true) w G (av σ.h c (some (.row gr .aF rs xs))):=
    ⟨fun _ h=>h,fun _ _ _=>rfl,fun q _ hq=>⟨ne q hq,rfl,rfl,rfl,rfl,rfl⟩,fun q bi aK ar _ hq=>by
     obtain⟨h1,h2⟩:=mT q bi .live aK ar hq (by simp)
     exact⟨⟨bi,ar,h2⟩,fun k j pc a b=>⟨pc,a,rfl,b⟩⟩⟩
   have H:=r.hr
   have Hn:HR B E w G (av σ.h c (some (.row gr .aF rs xs))) σ.used []:=by
    refine⟨fun q hq=>H.jb q (ne q hq),fun q cs y p hq=>?_,fun q cs hq=>?_,fun q bi m' aK ar hq=>?_,fun q hq=>H.own q (ne q hq),fun q q' hq dW=>H.inj q q' (ne q hq) (ne q' dW),H.fL,H.pg,
     fun q q' bi m' aK ar zI m2 kG il hq dW hm iF=>H.fy q q' bi m' aK ar zI m2 kG il (mT _ _ _ _ _ hq hm).2 (mT _ _ _ _ _ dW iF).2 hm iF,
     fun q bi aK ar hq b hb q' dW=>H.live q bi aK ar (mT _ _ _ _ _ hq (by simp)).2 b hb q' (ne q' dW),(by intro i pc hi;simp at hi),(by intro i j pc df b _ hi;simp at hi),(by intro i pc q bi m' aK ar b hi;simp at hi)⟩
    ·have n6:q≠c:=fun e=>by subst e;rw[bD] at hq;cases hq
     exact H.gT q cs y p (e0 q _ hq n6)
    ·have n6:q≠c:=fun e=>by subst e;rw[bD] at hq;cases hq
     obtain⟨a1,a2,a3⟩:=H.box q cs (e0 q _ hq n6)
     refine⟨a1,a2,fun j y hj=>?_⟩
     obtain⟨v,v1,v2,v3⟩:=a3 j y hj
     exact⟨v,v1,v2,v3.eV K fun p hp=>H.gT q cs y p (e0 q _ hq n6) (List.mem_of_getElem? hj) hp⟩
    ·by_cases n6:q=c
     ·subst n6
      rw[bD] at hq
      injection hq with hq
      injection hq with h1 h2 h3 h4
      subst h1 h2 h3 h4
      exact⟨hr.pos,hr.er,hr.nl,hr.dE,hr.room,fun b hb=>(hr.mode.1 b hb).1⟩
     ·exact H.row q bi m' aK ar (e0 q _ hq n6)
   exact r.step rfl (fun _ h=>h) K Hn r.fr
  ·exact r
theorem R.DQ (r:R B E w0 N σ a w G) {x c:Nat} {m:Mode} (hx:(σ.aZ x c).map (fun σ1=>σ1.jO c m)=some σ'):∃G',R B E w0 N σ' a w G':=by
 rw[Option.map_eq_some_iff] at hx
 obtain⟨σ1,e,rfl⟩:=hx
 obtain⟨G',r'⟩:=r.aZ e
 exact⟨G',r'.jO c m⟩
theorem R.canon (r:R B E w0 N σ a w G) {x:Bool×Nat×Nat×Nat×Mode} (hx:σ.canon x=some σ'):∃G',R B E w0 N σ' a w G':=by
 obtain⟨b,n,j,c,m⟩:=x
 have fP:some σ=some σ'->∃G',R B E w0 N σ' a w G':=fun h=>by injection h with h;subst h;exact⟨G,r⟩
 cases b with
 |true=>
  simp only[St.canon] at hx
  split at hx
  ·rename_i cs hn
   split at hx
   ·exact r.DQ hx
   ·rename_i sz hj
    split at hx
    ·rename_i bG
     split at hx
     ·rename_i σ1 e
      injection hx with hx
      subst hx
      obtain⟨G1,r1,dh⟩:=r.W5 bG e
      obtain⟨hu,rfl⟩:=mJ e
      have CU:σ.used n=true:=r.hr.jb n (by rw[hn];simp)
      have pZ:n≠c:=fun he=>by subst he;rw[hu] at CU;cases CU
      have oZ:(av σ.h c (some (.row true m sz []))) n=some (.box cs):=by rw[cd _ _ _ _ pZ];exact hn
      refine⟨G1,r1.ajE oZ (fun v hv=>?_) (fun q hq=>?_)⟩
      ·obtain⟨v',v1,v2,v3⟩:=(r1.hr.box n cs oZ).2.2 j _ hj
       rw[v1] at hv
       injection hv with hv
       subst hv
       have v3':v'=.slice none 0 0:=v3
       subst v3'
       exact dh
      ·have dW:q=c:=hq
       subst dW
       exact bD _ _ _
     ·cases hx
    ·exact fP hx
   ·exact fP hx
  ·exact fP hx
 |false=>
  simp only[St.canon] at hx
  split at hx
  ·exact r.DQ hx
  ·rename_i sz hj
   split at hx
   ·rename_i bG
    split at hx
    ·rename_i σ1 e
     injection hx with hx
     subst hx
     obtain⟨G1,r1,dh⟩:=r.W5 bG e
     obtain⟨hu,rfl⟩:=mJ e
     have hv:=r1.env n
     rw[show({σ with h:=av σ.h c (some (.row true m sz [])),used:=av σ.used c true}:St).env n=σ.env n from rfl,hj] at hv
     have fJ:a.tmps.getD n undef=.slice none 0 0:=(hv.fv (by simp)).1
     refine⟨G1,r1.defers,r1.size,fun s=>?_,fun s q hq=>?_,r1.hr,r1.fr,r1.qt,r1.yx⟩
     ·show RA w G1 _ (av σ.env n _ s) _
      by_cases hs:s=n
      ·subst hs
       rw[bD,fJ]
       exact RA.gp rfl dh
      ·rw[cd _ _ _ _ hs];exact r1.env s
     ·have jB:(av σ.env n (.one (.sl c sz 0 0)) s).ref q:=hq
      by_cases hs:s=n
      ·subst hs
       rw[bD] at jB
       have dW:q=c:=jB
       subst dW
       exact bD _ _ _
      ·rw[cd _ _ _ _ hs] at jB;exact r1.rF s q jB
    ·cases hx
   ·exact fP hx
  ·exact fP hx
theorem R.rY:∀{l:List (Bool×Nat×Nat×Nat×Mode)} {σ:St} {G:Gh},R B E w0 N σ a w G->σ.rY l=some σ'->∃G',R B E w0 N σ' a w G'
 |[],σ,G,r,hx=>by
  simp only[St.rY] at hx
  injection hx with hx
  subst hx
  exact⟨G,r⟩
 |x::l,σ,G,r,hx=>by
  simp only[St.rY] at hx
  split at hx
  ·rename_i σ1 e
   obtain⟨G1,r1⟩:=r.canon e
   exact R.rY r1 hx
  ·cases hx
theorem R.head (r:R B E w0 N σ a w G) {ke kh:List Nat} {cn:List (Bool×Nat×Nat×Nat×Mode)} (hx:σ.head ke kh cn=some σ'):∃G',R B E w0 N σ' a w G':=by
 unfold St.head at hx
 split at hx
 ·rename_i σ1 e
  injection hx with hx
  subst hx
  obtain⟨G1,r1⟩:=((r.ig ke kh).ig ke kh).rY e
  exact⟨G1,r1.ig ke kh⟩
 ·cases hx
def ja (P:Program) (N:Nat):Code->lz->Bool
 |c,.join _ _ _ mc=>ja P N c mc
 |.skip,.skip=>true
 |.region _ ops qR,.ab abw ms=>(qR==abw)&&oP P N ops ops.toList ms&&(!qR||Gm ops.toList ms)
 |.region _ ops qR,.nF ps ms=>qR&&oP P N ops ops.toList ms&&Gn ps ops.toList ms
 |.seq x y,.seq mx my=>ja P N x mx&&ja P N y my
 |.cond c x y,.cond mc mx my=>bx c mc&&ja P N x mx&&ja P N y my
 |.block id c,.block Nv mc=>(id==Nv)&&ja P N c mc
 |.loop c,.loop _ _ _ _ mc=>ja P N c mc
 |.exit id,.exit Nv=>id==Nv
 |.ret,.ret=>true
 |_,_=>false
def aav (B:Nat) (E:Ex) (w0:World) (N:Nat) (Q:Exit->Act->World->Prop):u9->Prop
 |.fC σ=>∀a w G,R B E w0 N σ a w G->Q .normal a w
 |.ext id σ=>∀a w G,R B E w0 N σ a w G->Q (.exit id) a w
 |.ret σ=>∀a w G,R B E w0 N σ a w G->Q .ret a w
theorem lG (hT:nN P T) (hm:P.follows .mixedOrders=true):∀(mc:lz) {c:Code} {σ:St} {o:u9} {a:Act} {w:World} {G:Gh} {Q:Exit->Act->World->Prop},
  ja P N c mc=true->dK T mc σ=some o->R B E w0 N σ a w G->aav B E w0 N Q o->c.wp P Q a w
 |.skip,c,σ,o,a,w,G,Q,hc,hx,r,hQ=>by
  cases c<;>simp only[ja] at hc<;>first|cases hc|skip
  simp only[dK] at hx
  injection hx with hx
  subst hx
  exact wp_skip (hQ _ _ _ r)
 |.ab qR ms,c,σ,o,a,w,G,Q,hc,hx,r,hQ=>by
  cases c<;>simp only[ja] at hc<;>first|cases hc|skip
  simp only[Bool.and_eq_true,Bool.or_eq_true,beq_iff_eq] at hc
  simp only[dK] at hx
  split at hx
  ·rename_i σ1 e
   injection hx with hx
   subst hx
   exact ajH hT hm hc.1.2 (fun hd=>hc.2.resolve_left (by simp[hd])) e r hQ
  ·cases hx
 |.nF ps ms,c,σ,o,a,w,G,Q,hc,hx,r,hQ=>by
  cases c<;>simp only[ja] at hc<;>first|cases hc|skip
  simp only[Bool.and_eq_true] at hc
  obtain⟨⟨hd,CH⟩,CI⟩:=hc
  subst hd
  simp only[dK] at hx
  split at hx
  ·rename_i fs σ1 e
   cases hp:wm ps fs with
   |true=>
    rw[hp] at hx
    injection hx with hx
    subst hx
    exact ajG hT hm CH CI e hp r hQ
   |false=>rw[hp] at hx;cases hx
  ·cases hx
 |.seq mx my,c,σ,o,a,w,G,Q,hc,hx,r,hQ=>by
  cases c<;>simp only[ja] at hc<;>first|cases hc|skip
  simp only[Bool.and_eq_true] at hc
  simp only[dK] at hx
  refine wp_seq ?_
  cases e:dK T mx σ with
  |none=>rw[e] at hx;cases hx
  |some o1=>
   rw[e] at hx
   cases o1 with
   |fC σ1=>exact lG hT hm mx hc.1 e r fun a w G r1=>lG hT hm my hc.2 hx r1 hQ
   |ext i σ1=>
    injection hx with hx
    subst hx
    exact lG hT hm mx hc.1 e r hQ
   |ret σ1=>
    injection hx with hx
    subst hx
    exact lG hT hm mx hc.1 e r hQ
 |.cond mc mx my,c,σ,o,a,w,G,Q,hc,hx,r,hQ=>by
  cases c<;>simp only[ja] at hc<;>first|cases hc|skip
  simp only[Bool.and_eq_true] at hc
  simp only[dK] at hx
  split at hx
  ·rename_i t ht
   have h1:=(r.ev hc.1.1).1
   rw[ht] at h1
   refine wp_cond h1.zm ?_
   cases t with
   |true=>simp only[if_true] at hx⊢;exact lG hT hm mx hc.1.2 hx r hQ
   |false=>simp only[Bool.false_eq_true,if_false] at hx⊢;exact lG hT hm my hc.2 hx r hQ
  ·cases hx
 |.block id mc,c,σ,o,a,w,G,Q,hc,hx,r,hQ=>by
  cases c<;>simp only[ja] at hc<;>first|cases hc|skip
  simp only[Bool.and_eq_true,beq_iff_eq] at hc
  obtain⟨rfl,hc⟩:=hc
  simp only[dK] at hx
  refine wp_block ?_
  cases e:dK T mc σ with
  |none=>rw[e] at hx;cases hx
  |some o1=>
   rw[e] at hx
   refine lG hT hm mc hc e r ?_
   cases o1 with
   |fC σ1=>injection hx with hx;subst hx;exact hQ
   |ret σ1=>injection hx with hx;subst hx;exact hQ
   |ext i σ1=>
    simp only at hx
    intro a w G r1
    simp only[Exit.inBlock]
    split at hx
    ·rename_i hi;injection hx with hx;subst hx;rw[if_pos hi];exact hQ a w G r1
    ·rename_i hi;injection hx with hx;subst hx;rw[if_neg hi];exact hQ a w G r1
 |.join ke kh cn mc,c,σ,o,a,w,G,Q,hc,hx,r,hQ=>by
  have hc:ja P N c mc=true:=by cases c<;>exact hc
  simp only[dK] at hx
  cases e:dK T mc σ with
  |none=>rw[e] at hx;cases hx
  |some o1=>
   rw[e] at hx
   cases o1 with
   |fC σ1=>
    simp only at hx
    split at hx
    ·rename_i σh e0
     injection hx with hx
     subst hx
     exact lG hT hm mc hc e r fun a w G r1=>by
      obtain⟨G',r'⟩:=r1.head e0
      exact hQ a w G' r'
    ·cases hx
   |ext i σ1=>
    injection hx with hx
    subst hx
    exact lG hT hm mc hc e r hQ
   |ret σ1=>
    injection hx with hx
    subst hx
    exact lG hT hm mc hc e r hQ
 |.loop id ke kh cn mc,c,σ,o,a,w,G,Q,hc,hx,r,hQ=>by
  cases c<;>simp only[ja] at hc<;>first|cases hc|skip
  rename_i c
  simp only[dK] at hx
  refine wp_loop_rounds aA ?_
  revert hx r
  generalize aA=n
  revert σ a w G
  induction n with
  |zero=>intro σ a w G hx r;simp[AD] at hx
  |succ n ih=>
   intro σ a w G hx r
   simp only[AD] at hx
   rw[rounds_succ]
   cases e0:σ.head ke kh cn with
   |none=>rw[e0] at hx;cases hx
   |some σh=>
    rw[e0] at hx
    obtain⟨G',r'⟩:=r.head e0
    cases e:dK T mc σh with
    |none=>simp only[e] at hx;cases hx
    |some o1=>
     simp only[e] at hx
     refine lG hT hm mc hc e r' ?_
     cases o1 with
     |fC σ1=>intro a w G r1;exact ih _ _ _ _ hx r1
     |ext i σ1=>injection hx with hx;subst hx;exact hQ
     |ret σ1=>injection hx with hx;subst hx;exact hQ
 |.exit id,c,σ,o,a,w,G,Q,hc,hx,r,hQ=>by
  cases c<;>simp only[ja] at hc<;>first|cases hc|skip
  have hid:=eq_of_beq hc
  subst hid
  simp only[dK] at hx
  injection hx with hx
  subst hx
  exact wp_exit (hQ _ _ _ r)
 |.ret,c,σ,o,a,w,G,Q,hc,hx,r,hQ=>by
  cases c<;>simp only[ja] at hc<;>first|cases hc|skip
  simp only[dK] at hx
  injection hx with hx
  subst hx
  exact wp_ret (hQ _ _ _ r)
end
end Go.Am
