/- Am24: code as a whole. No condition. -/
import Derived.Test.YtbgmbplglejidaaAm23
import Derived.Test.YtbgmbplglejidaaAmQ
set_option linter.unusedVariables false
namespace Go.Am
section
variable {B:Nat} {E:Ex} {w0 w w':World} {G G':Gh} {N:Nat} {h h':Nat->Option ao}
variable {P:Program} {T:aO} {a:Act} {σ σ':St} {Q:Exit->Act->World->Prop}
theorem R.anQ (r:R B E w0 N σ a w G) {n j:Nat} {cs:List ah} {y:ah} (hn:σ.h n=some (.box cs)) (hy:∀v,w.cell? (ad (G.g n).b ((G.g n).o+j))=some v->RC w G σ.h y v) (hyr:∀m,y.ref m->σ.used m=true):
  R B E w0 N (σ.dB n (.box (cs.set j y))) a w G:=by
 have H:=r.hr
 have bP:σ.h n≠none:=by rw[hn];simp
 obtain⟨b1,b2,b3⟩:=H.box n cs hn
 have hg:av G.g n (G.g n)=G.g:=Gc _ _
 have K:bf w G σ.h (fun n=>σ.used n=true) w ⟨G.Im,av G.g n (G.g n)⟩ (av σ.h n (some (.box (cs.set j y)))):=by
  rw[hg]
  refine⟨fun _ h=>h,fun _ _ _=>rfl,fun m _ hm=>⟨?_,rfl,rfl,rfl,rfl,rfl⟩,fun m gr sz xs _ hm=>?_⟩
  ·by_cases bE:m=n
   ·subst bE;exact bP
   ·rwa[cz _ _ _ _ bE] at hm
  ·by_cases bE:m=n
   ·subst bE;rw[bG] at hm;cases hm
   ·rw[cz _ _ _ _ bE] at hm
    exact⟨⟨gr,xs,hm⟩,fun k j pc h1 h2=>⟨pc,h1,rfl,h2⟩⟩
 have Hn:=H.put (w':=w) (used':=σ.used) (n:=n) (blk:=.box (cs.set j y)) (p:=G.g n) (fun _ _ _=>rfl) (Nat.le_refl _) (fun _ _ h=>h) (fun _ h=>h) (H.iK n bP) (fun hl=>H.own n bP hl)
  (fun hl m bE hm Pu=>H.inj m n hm bP bE Pu hl) (fun hl m gr sz xs bE hm b hb=>H.live m gr sz xs hm b hb n bP hl)
  (fun cs' c m hb hc hr=>by
   injection hb with hb
   subst hb
   rcases List.mem_or_eq_of_mem_set hc with hc|rfl
   ·exact H.gV n cs c m hn hc hr
   ·exact hyr m hr) K
  (by
   refine⟨b1,b2,fun i c hi=>?_⟩
   rw[List.getElem?_set] at hi
   split at hi
   ·rename_i jG
    subst jG
    split at hi
    ·rename_i bH
     injection hi with hi
     subst hi
     obtain⟨v,v1,v2,v3⟩:=b3 j cs[j] (List.getElem?_eq_getElem bH)
     exact⟨v,v1,v2,(hy v v1).ff K hyr⟩
    ·cases hi
   ·obtain⟨v,v1,v2,v3⟩:=b3 i c hi
    exact⟨v,v1,v2,v3.ff K fun m hm=>H.gV n cs c m hn (List.mem_of_getElem? hi) hm⟩)
  (fun gr m sz xs hb=>by cases hb) (fun gr sz xs hb=>by cases hb) (fun gr m sz xs hb=>by cases hb)
  (fun hl _ b ⟨m,gr,mo,sz,xs,_,hm,hb⟩=>H.s9 bP hl hm hb)
 rw[hg] at K Hn
 exact r.step rfl (fun _ h=>h) K Hn r.fr
theorem R.jS (r:R B E w0 N σ a w G) (c:Nat) (m:Mode):R B E w0 N (σ.jS c m) a w G:=by
 unfold St.jS
 cases m with
 |live=>exact r
 |ab=>exact r
 |aF=>
  simp only
  split
  ·rename_i gr rs xs hn
   have hg:(⟨G.Im,av G.g c (G.g c)⟩:Gh)=G:=by
    have:av G.g c (G.g c)=G.g:=by funext q;rw[iY];split<;>simp[*]
    rw[this]
   have hr:=r.hr.row c gr .ab rs xs hn
   have e0:∀q b,av σ.h c (some (.row gr .aF rs xs)) q=some b->q≠c->σ.h q=some b:=fun q b hq aC=>by rwa[cz _ _ _ _ aC] at hq
   have ne:∀q,av σ.h c (some (.row gr .aF rs xs)) q≠none->σ.h q≠none:=fun q hq=>by
    by_cases oE:q=c
    ·subst oE;rw[hn];simp
    ·rwa[cz _ _ _ _ oE] at hq
   have nv:∀q bm m' aJ aq,av σ.h c (some (.row gr .aF rs xs)) q=some (.row bm m' aJ aq)->m'≠ .aF->q≠c/\σ.h q=some (.row bm m' aJ aq):=fun q bm m' aJ aq hq hm=>by
    by_cases oE:q=c
    ·subst oE;rw[bG] at hq;injection hq with hq;injection hq with _ hq _ _;exact absurd hq.symm hm
    ·exact⟨oE,e0 q _ hq oE⟩
   have K:bf w G σ.h (fun q=>σ.used q=true) w G (av σ.h c (some (.row gr .aF rs xs))):=
    ⟨fun _ h=>h,fun _ _ _=>rfl,fun q _ hq=>⟨ne q hq,rfl,rfl,rfl,rfl,rfl⟩,fun q bm aJ aq _ hq=>by
     obtain⟨h1,h2⟩:=nv q bm .live aJ aq hq (by simp)
     exact⟨⟨bm,aq,h2⟩,fun k j pc a b=>⟨pc,a,rfl,b⟩⟩⟩
   have H:=r.hr
   have Hn:HR B E w G (av σ.h c (some (.row gr .aF rs xs))) σ.used []:=by
    refine⟨fun q hq=>H.iK q (ne q hq),fun q cs y p hq=>?_,fun q cs hq=>?_,fun q bm m' aJ aq hq=>?_,fun q hq=>H.own q (ne q hq),fun q q' hq eD=>H.inj q q' (ne q hq) (ne q' eD),H.fW,H.pP,
     fun q q' bm m' aJ aq Bk m2 ko iw hq eD hm jY=>H.fI q q' bm m' aJ aq Bk m2 ko iw (nv _ _ _ _ _ hq hm).2 (nv _ _ _ _ _ eD jY).2 hm jY,
     fun q bm aJ aq hq b hb q' eD=>H.live q bm aJ aq (nv _ _ _ _ _ hq (by simp)).2 b hb q' (ne q' eD),(by intro i pc hi;simp at hi),(by intro i j pc dn b _ hi;simp at hi),(by intro i pc q bm m' aJ aq b hi;simp at hi)⟩
    ·have oE:q≠c:=fun e=>by subst e;rw[bG] at hq;cases hq
     exact H.gV q cs y p (e0 q _ hq oE)
    ·have oE:q≠c:=fun e=>by subst e;rw[bG] at hq;cases hq
     obtain⟨a1,a2,a3⟩:=H.box q cs (e0 q _ hq oE)
     refine⟨a1,a2,fun j y hj=>?_⟩
     obtain⟨v,v1,v2,v3⟩:=a3 j y hj
     exact⟨v,v1,v2,v3.ff K fun p hp=>H.gV q cs y p (e0 q _ hq oE) (List.mem_of_getElem? hj) hp⟩
    ·by_cases oE:q=c
     ·subst oE
      rw[bG] at hq
      injection hq with hq
      injection hq with h1 h2 h3 h4
      subst h1 h2 h3 h4
      exact⟨hr.pos,hr.er,hr.nl,hr.dV,hr.room,fun b hb=>(hr.mode.1 b hb).1⟩
     ·exact H.row q bm m' aJ aq (e0 q _ hq oE)
   exact r.step rfl (fun _ h=>h) K Hn r.fr
  ·exact r
theorem R.Fv (r:R B E w0 N σ a w G) {x c:Nat} {m:Mode} (hx:(σ.bh x c).map (fun σ1=>σ1.jS c m)=some σ'):∃G',R B E w0 N σ' a w G':=by
 rw[Option.map_eq_some_iff] at hx
 obtain⟨σ1,e,rfl⟩:=hx
 obtain⟨G',r'⟩:=r.bh e
 exact⟨G',r'.jS c m⟩
theorem R.canon (r:R B E w0 N σ a w G) {x:Bool×Nat×Nat×Nat×Mode} (hx:σ.canon x=some σ'):∃G',R B E w0 N σ' a w G':=by
 obtain⟨b,n,j,c,m⟩:=x
 have f9:some σ=some σ'->∃G',R B E w0 N σ' a w G':=fun h=>by injection h with h;subst h;exact⟨G,r⟩
 cases b with
 |true=>
  simp only[St.canon] at hx
  split at hx
  ·rename_i cs hn
   split at hx
   ·exact r.Fv hx
   ·rename_i sz hj
    split at hx
    ·rename_i bI
     split at hx
     ·rename_i σ1 e
      injection hx with hx
      subst hx
      obtain⟨G1,r1,dJ⟩:=r.aam bI e
      obtain⟨hu,rfl⟩:=mE e
      have EC:σ.used n=true:=r.hr.iK n (by rw[hn];simp)
      have uI:n≠c:=fun he=>by subst he;rw[hu] at EC;cases EC
      have mZ:(av σ.h c (some (.row true m sz []))) n=some (.box cs):=by rw[cz _ _ _ _ uI];exact hn
      refine⟨G1,r1.anQ mZ (fun v hv=>?_) (fun q hq=>?_)⟩
      ·obtain⟨v',v1,v2,v3⟩:=(r1.hr.box n cs mZ).2.2 j _ hj
       rw[v1] at hv
       injection hv with hv
       subst hv
       have v3':v'=.slice none 0 0:=v3
       subst v3'
       exact dJ
      ·have eD:q=c:=hq
       subst eD
       exact bG _ _ _
     ·cases hx
    ·exact f9 hx
   ·exact f9 hx
  ·exact f9 hx
 |false=>
  simp only[St.canon] at hx
  split at hx
  ·exact r.Fv hx
  ·rename_i sz hj
   split at hx
   ·rename_i bI
    split at hx
    ·rename_i σ1 e
     injection hx with hx
     subst hx
     obtain⟨G1,r1,dJ⟩:=r.aam bI e
     obtain⟨hu,rfl⟩:=mE e
     have hv:=r1.env n
     rw[show({σ with h:=av σ.h c (some (.row true m sz [])),used:=av σ.used c true}:St).env n=σ.env n from rfl,hj] at hv
     have dS:a.tmps.getD n undef=.slice none 0 0:=(hv.fH (by simp)).1
     refine⟨G1,r1.defers,r1.size,fun s=>?_,fun s q hq=>?_,r1.hr,r1.fr,r1.re,r1.zw⟩
     ·show RA w G1 _ (av σ.env n _ s) _
      by_cases hs:s=n
      ·subst hs
       rw[bG,dS]
       exact RA.gu rfl dJ
      ·rw[cz _ _ _ _ hs];exact r1.env s
     ·have j0:(av σ.env n (.one (.sl c sz 0 0)) s).ref q:=hq
      by_cases hs:s=n
      ·subst hs
       rw[bG] at j0
       have eD:q=c:=j0
       subst eD
       exact bG _ _ _
      ·rw[cz _ _ _ _ hs] at j0;exact r1.sI s q j0
    ·cases hx
   ·exact f9 hx
  ·exact f9 hx
theorem R.sT:∀{l:List (Bool×Nat×Nat×Nat×Mode)} {σ:St} {G:Gh},R B E w0 N σ a w G->σ.sT l=some σ'->∃G',R B E w0 N σ' a w G'
 |[],σ,G,r,hx=>by
  simp only[St.sT] at hx
  injection hx with hx
  subst hx
  exact⟨G,r⟩
 |x::l,σ,G,r,hx=>by
  simp only[St.sT] at hx
  split at hx
  ·rename_i σ1 e
   obtain⟨G1,r1⟩:=r.canon e
   exact R.sT r1 hx
  ·cases hx
theorem R.head (r:R B E w0 N σ a w G) {ke kh:List Nat} {cn:List (Bool×Nat×Nat×Nat×Mode)} (hx:σ.head ke kh cn=some σ'):∃G',R B E w0 N σ' a w G':=by
 unfold St.head at hx
 split at hx
 ·rename_i σ1 e
  injection hx with hx
  subst hx
  obtain⟨G1,r1⟩:=((r.iq ke kh).iq ke kh).sT e
  exact⟨G1,r1.iq ke kh⟩
 ·cases hx
def jd (P:Program) (N:Nat):Code->lT->Bool
 |c,.join _ _ _ mc=>jd P N c mc
 |.skip,.skip=>true
 |.region _ ops rR,.ae aft ms=>(rR==aft)&&po P N ops ops.toList ms&&(!rR||Is ops.toList ms)
 |.region _ ops rR,.qb ps ms=>rR&&po P N ops ops.toList ms&&It ps ops.toList ms
 |.seq x y,.seq mx my=>jd P N x mx&&jd P N y my
 |.cond c x y,.cond mc mx my=>bz c mc&&jd P N x mx&&jd P N y my
 |.block id c,.block P1 mc=>(id==P1)&&jd P N c mc
 |.loop c,.loop _ _ _ _ mc=>jd P N c mc
 |.exit id,.exit P1=>id==P1
 |.ret,.ret=>true
 |_,_=>false
def aeb (B:Nat) (E:Ex) (w0:World) (N:Nat) (Q:Exit->Act->World->Prop):sO->Prop
 |.fG σ=>∀a w G,R B E w0 N σ a w G->Q .normal a w
 |.ext id σ=>∀a w G,R B E w0 N σ a w G->Q (.exit id) a w
 |.ret σ=>∀a w G,R B E w0 N σ a w G->Q .ret a w
theorem mf (hT:oq P T) (hm:P.follows .mixedOrders=true):∀(mc:lT) {c:Code} {σ:St} {o:sO} {a:Act} {w:World} {G:Gh} {Q:Exit->Act->World->Prop},
  jd P N c mc=true->d8 T mc σ=some o->R B E w0 N σ a w G->aeb B E w0 N Q o->c.wp P Q a w
 |.skip,c,σ,o,a,w,G,Q,hc,hx,r,hQ=>by
  cases c<;>simp only[jd] at hc<;>first|cases hc|skip
  simp only[d8] at hx
  injection hx with hx
  subst hx
  exact wp_skip (hQ _ _ _ r)
 |.ae rR ms,c,σ,o,a,w,G,Q,hc,hx,r,hQ=>by
  cases c<;>simp only[jd] at hc<;>first|cases hc|skip
  simp only[Bool.and_eq_true,Bool.or_eq_true,beq_iff_eq] at hc
  simp only[d8] at hx
  split at hx
  ·rename_i σ1 e
   injection hx with hx
   subst hx
   exact anU hT hm hc.1.2 (fun hd=>hc.2.resolve_left (by simp[hd])) e r hQ
  ·cases hx
 |.qb ps ms,c,σ,o,a,w,G,Q,hc,hx,r,hQ=>by
  cases c<;>simp only[jd] at hc<;>first|cases hc|skip
  simp only[Bool.and_eq_true] at hc
  obtain⟨⟨hd,En⟩,wj⟩:=hc
  subst hd
  simp only[d8] at hx
  split at hx
  ·rename_i fs σ1 e
   cases hp:w5 ps fs with
   |true=>
    rw[hp] at hx
    injection hx with hx
    subst hx
    exact anT hT hm En wj e hp r hQ
   |false=>rw[hp] at hx;cases hx
  ·cases hx
 |.seq mx my,c,σ,o,a,w,G,Q,hc,hx,r,hQ=>by
  cases c<;>simp only[jd] at hc<;>first|cases hc|skip
  simp only[Bool.and_eq_true] at hc
  simp only[d8] at hx
  refine wp_seq ?_
  cases e:d8 T mx σ with
  |none=>rw[e] at hx;cases hx
  |some o1=>
   rw[e] at hx
   cases o1 with
   |fG σ1=>exact mf hT hm mx hc.1 e r fun a w G r1=>mf hT hm my hc.2 hx r1 hQ
   |ext i σ1=>
    injection hx with hx
    subst hx
    exact mf hT hm mx hc.1 e r hQ
   |ret σ1=>
    injection hx with hx
    subst hx
    exact mf hT hm mx hc.1 e r hQ
 |.cond mc mx my,c,σ,o,a,w,G,Q,hc,hx,r,hQ=>by
  cases c<;>simp only[jd] at hc<;>first|cases hc|skip
  simp only[Bool.and_eq_true] at hc
  simp only[d8] at hx
  split at hx
  ·rename_i t ht
   have h1:=(r.ev hc.1.1).1
   rw[ht] at h1
   refine wp_cond h1.AJ ?_
   cases t with
   |true=>simp only[if_true] at hx⊢;exact mf hT hm mx hc.1.2 hx r hQ
   |false=>simp only[Bool.false_eq_true,if_false] at hx⊢;exact mf hT hm my hc.2 hx r hQ
  ·cases hx
 |.block id mc,c,σ,o,a,w,G,Q,hc,hx,r,hQ=>by
  cases c<;>simp only[jd] at hc<;>first|cases hc|skip
  simp only[Bool.and_eq_true,beq_iff_eq] at hc
  obtain⟨rfl,hc⟩:=hc
  simp only[d8] at hx
  refine wp_block ?_
  cases e:d8 T mc σ with
  |none=>rw[e] at hx;cases hx
  |some o1=>
   rw[e] at hx
   refine mf hT hm mc hc e r ?_
   cases o1 with
   |fG σ1=>injection hx with hx;subst hx;exact hQ
   |ret σ1=>injection hx with hx;subst hx;exact hQ
   |ext i σ1=>
    simp only at hx
    intro a w G r1
    simp only[Exit.inBlock]
    split at hx
    ·rename_i hi;injection hx with hx;subst hx;rw[if_pos hi];exact hQ a w G r1
    ·rename_i hi;injection hx with hx;subst hx;rw[if_neg hi];exact hQ a w G r1
 |.join ke kh cn mc,c,σ,o,a,w,G,Q,hc,hx,r,hQ=>by
  have hc:jd P N c mc=true:=by cases c<;>exact hc
  simp only[d8] at hx
  cases e:d8 T mc σ with
  |none=>rw[e] at hx;cases hx
  |some o1=>
   rw[e] at hx
   cases o1 with
   |fG σ1=>
    simp only at hx
    split at hx
    ·rename_i σh e0
     injection hx with hx
     subst hx
     exact mf hT hm mc hc e r fun a w G r1=>by
      obtain⟨G',r'⟩:=r1.head e0
      exact hQ a w G' r'
    ·cases hx
   |ext i σ1=>
    injection hx with hx
    subst hx
    exact mf hT hm mc hc e r hQ
   |ret σ1=>
    injection hx with hx
    subst hx
    exact mf hT hm mc hc e r hQ
 |.loop id ke kh cn mc,c,σ,o,a,w,G,Q,hc,hx,r,hQ=>by
  cases c<;>simp only[jd] at hc<;>first|cases hc|skip
  rename_i c
  simp only[d8] at hx
  refine wp_loop_rounds aE ?_
  revert hx r
  generalize aE=n
  revert σ a w G
  induction n with
  |zero=>intro σ a w G hx r;simp[B8] at hx
  |succ n ih=>
   intro σ a w G hx r
   simp only[B8] at hx
   rw[rounds_succ]
   cases e0:σ.head ke kh cn with
   |none=>rw[e0] at hx;cases hx
   |some σh=>
    rw[e0] at hx
    obtain⟨G',r'⟩:=r.head e0
    cases e:d8 T mc σh with
    |none=>simp only[e] at hx;cases hx
    |some o1=>
     simp only[e] at hx
     refine mf hT hm mc hc e r' ?_
     cases o1 with
     |fG σ1=>intro a w G r1;exact ih _ _ _ _ hx r1
     |ext i σ1=>injection hx with hx;subst hx;exact hQ
     |ret σ1=>injection hx with hx;subst hx;exact hQ
 |.exit id,c,σ,o,a,w,G,Q,hc,hx,r,hQ=>by
  cases c<;>simp only[jd] at hc<;>first|cases hc|skip
  have hid:=eq_of_beq hc
  subst hid
  simp only[d8] at hx
  injection hx with hx
  subst hx
  exact wp_exit (hQ _ _ _ r)
 |.ret,c,σ,o,a,w,G,Q,hc,hx,r,hQ=>by
  cases c<;>simp only[jd] at hc<;>first|cases hc|skip
  simp only[d8] at hx
  injection hx with hx
  subst hx
  exact wp_ret (hQ _ _ _ r)
end
end Go.Am
