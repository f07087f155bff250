/- Am24: code as a whole. No condition. -/
import Derived.Test.YthildlkhnnogiaaAm23
import Derived.Test.YthildlkhnnogiaaAmJ
set_option linter.unusedVariables false
namespace Go.Am
section
variable {B:Nat} {E:Ex} {w0 w w':World} {G G':Gh} {N:Nat} {h h':Nat->Option aj}
variable {P:Program} {T:aF} {a:Act} {σ σ':St} {Q:Exit->Act->World->Prop}
theorem R.ak0 (r:R B E w0 N σ a w G) {n j:Nat} {cs:List ab} {y:ab} (hn:σ.h n=some (.box cs)) (hy:∀v,w.cell? (ad (G.g n).b ((G.g n).o+j))=some v->RC w G σ.h y v) (Yi:∀m,y.ref m->σ.used m=true):
  R B E w0 N (σ.cW n (.box (cs.set j y))) a w G:=by
 have H:=r.hr
 have bi:σ.h n≠none:=by rw[hn];simp
 obtain⟨b1,b2,b3⟩:=H.box n cs hn
 have hg:ao G.g n (G.g n)=G.g:=Gp _ _
 have K:aR w G σ.h (fun n=>σ.used n=true) w ⟨G.Im,ao G.g n (G.g n)⟩ (ao σ.h n (some (.box (cs.set j y)))):=by
  rw[hg]
  refine⟨fun _ h=>h,fun _ _ _=>rfl,fun m _ hm=>⟨?_,rfl,rfl,rfl,rfl,rfl⟩,fun m gr sz xs _ hm=>?_⟩
  ·by_cases bj:m=n
   ·subst bj;exact bi
   ·rwa[bP _ _ _ _ bj] at hm
  ·by_cases bj:m=n
   ·subst bj;rw[bo] at hm;cases hm
   ·rw[bP _ _ _ _ bj] at hm
    exact⟨⟨gr,xs,hm⟩,fun k j pc h1 h2=>⟨pc,h1,rfl,h2⟩⟩
 have Hn:=H.put (w':=w) (used':=σ.used) (n:=n) (blk:=.box (cs.set j y)) (p:=G.g n) (fun _ _ _=>rfl) (Nat.le_refl _) (fun _ _ h=>h) (fun _ h=>h) (H.gT n bi) (fun hl=>H.own n bi hl)
  (fun hl m bj hm hml=>H.inj m n hm bi bj hml hl) (fun hl m gr sz xs bj hm b hb=>H.live m gr sz xs hm b hb n bi hl)
  (fun cs' c m hb hc hr=>by
   injection hb with hb
   subst hb
   rcases List.mem_or_eq_of_mem_set hc with hc|rfl
   ·exact H.gd n cs c m hn hc hr
   ·exact Yi m hr) K
  (by
   refine⟨b1,b2,fun i c hi=>?_⟩
   rw[List.getElem?_set] at hi
   split at hi
   ·rename_i gL
    subst gL
    split at hi
    ·rename_i bS
     injection hi with hi
     subst hi
     obtain⟨v,v1,v2,v3⟩:=b3 j cs[j] (List.getElem?_eq_getElem bS)
     exact⟨v,v1,v2,(hy v v1).eJ K Yi⟩
    ·cases hi
   ·obtain⟨v,v1,v2,v3⟩:=b3 i c hi
    exact⟨v,v1,v2,v3.eJ K fun m hm=>H.gd n cs c m hn (List.mem_of_getElem? hi) hm⟩)
  (fun gr m sz xs hb=>by cases hb) (fun gr sz xs hb=>by cases hb) (fun gr m sz xs hb=>by cases hb)
  (fun hl _ b ⟨m,gr,mo,sz,xs,_,hm,hb⟩=>H.nc bi hl hm hb)
 rw[hg] at K Hn
 exact r.step rfl (fun _ h=>h) K Hn r.fr
theorem R.jD (r:R B E w0 N σ a w G) (c:Nat) (m:Mode):R B E w0 N (σ.jD c m) a w G:=by
 unfold St.jD
 cases m with
 |live=>exact r
 |af=>exact r
 |aG=>
  simp only
  split
  ·rename_i gr rs xs hn
   have hg:(⟨G.Im,ao G.g c (G.g c)⟩:Gh)=G:=by
    have:ao G.g c (G.g c)=G.g:=by funext q;rw[iU];split<;>simp[*]
    rw[this]
   have hr:=r.hr.row c gr .af rs xs hn
   have e0:∀q b,ao σ.h c (some (.row gr .aG rs xs)) q=some b->q≠c->σ.h q=some b:=fun q b hq av=>by rwa[bP _ _ _ _ av] at hq
   have ne:∀q,ao σ.h c (some (.row gr .aG rs xs)) q≠none->σ.h q≠none:=fun q hq=>by
    by_cases mw:q=c
    ·subst mw;rw[hn];simp
    ·rwa[bP _ _ _ _ mw] at hq
   have mP:∀q aW m' ax ak,ao σ.h c (some (.row gr .aG rs xs)) q=some (.row aW m' ax ak)->m'≠ .aG->q≠c/\σ.h q=some (.row aW m' ax ak):=fun q aW m' ax ak hq hm=>by
    by_cases mw:q=c
    ·subst mw;rw[bo] at hq;injection hq with hq;injection hq with _ hq _ _;exact absurd hq.symm hm
    ·exact⟨mw,e0 q _ hq mw⟩
   have K:aR w G σ.h (fun q=>σ.used q=true) w G (ao σ.h c (some (.row gr .aG rs xs))):=
    ⟨fun _ h=>h,fun _ _ _=>rfl,fun q _ hq=>⟨ne q hq,rfl,rfl,rfl,rfl,rfl⟩,fun q aW ax ak _ hq=>by
     obtain⟨h1,h2⟩:=mP q aW .live ax ak hq (by simp)
     exact⟨⟨aW,ak,h2⟩,fun k j pc a b=>⟨pc,a,rfl,b⟩⟩⟩
   have H:=r.hr
   have Hn:HR B E w G (ao σ.h c (some (.row gr .aG rs xs))) σ.used []:=by
    refine⟨fun q hq=>H.gT q (ne q hq),fun q cs y p hq=>?_,fun q cs hq=>?_,fun q aW m' ax ak hq=>?_,fun q hq=>H.own q (ne q hq),fun q q' hq db=>H.inj q q' (ne q hq) (ne q' db),H.e7,H.ov,
     fun q q' aW m' ax ak BE m2 gm eT hq db hm fo=>H.eV q q' aW m' ax ak BE m2 gm eT (mP _ _ _ _ _ hq hm).2 (mP _ _ _ _ _ db fo).2 hm fo,
     fun q aW ax ak hq b hb q' db=>H.live q aW ax ak (mP _ _ _ _ _ hq (by simp)).2 b hb q' (ne q' db),(by intro i pc hi;simp at hi),(by intro i j pc cm b _ hi;simp at hi),(by intro i pc q aW m' ax ak b hi;simp at hi)⟩
    ·have mw:q≠c:=fun e=>by subst e;rw[bo] at hq;cases hq
     exact H.gd q cs y p (e0 q _ hq mw)
    ·have mw:q≠c:=fun e=>by subst e;rw[bo] at hq;cases hq
     obtain⟨a1,a2,a3⟩:=H.box q cs (e0 q _ hq mw)
     refine⟨a1,a2,fun j y hj=>?_⟩
     obtain⟨v,v1,v2,v3⟩:=a3 j y hj
     exact⟨v,v1,v2,v3.eJ K fun p hp=>H.gd q cs y p (e0 q _ hq mw) (List.mem_of_getElem? hj) hp⟩
    ·by_cases mw:q=c
     ·subst mw
      rw[bo] at hq
      injection hq with hq
      injection hq with h1 h2 h3 h4
      subst h1 h2 h3 h4
      exact⟨hr.pos,hr.er,hr.nl,hr.cZ,hr.room,fun b hb=>(hr.mode.1 b hb).1,fun _ h=>by cases h⟩
     ·exact H.row q aW m' ax ak (e0 q _ hq mw)
   exact r.step rfl (fun _ h=>h) K Hn r.fr
  ·exact r
theorem R.FD (r:R B E w0 N σ a w G) {x c:Nat} {m:Mode} (hx:(σ.bc x c).map (fun σ1=>σ1.jD c m)=some σ'):∃G',R B E w0 N σ' a w G':=by
 rw[Option.map_eq_some_iff] at hx
 obtain⟨σ1,e,rfl⟩:=hx
 obtain⟨G',r'⟩:=r.bc e
 exact⟨G',r'.jD c m⟩
theorem R.canon (r:R B E w0 N σ a w G) {x:Bool×Nat×Nat×Nat×Mode} (hx:σ.canon x=some σ'):∃G',R B E w0 N σ' a w G':=by
 obtain⟨b,n,j,c,m⟩:=x
 have fU:some σ=some σ'->∃G',R B E w0 N σ' a w G':=fun h=>by injection h with h;subst h;exact⟨G,r⟩
 cases b with
 |true=>
  simp only[St.canon] at hx
  split at hx
  ·rename_i cs hn
   split at hx
   ·exact r.FD hx
   ·rename_i sz hj
    split at hx
    ·rename_i bn
     split at hx
     ·rename_i σ1 e
      injection hx with hx
      subst hx
      obtain⟨G1,r1,dc⟩:=r.Yx bn e
      obtain⟨hu,rfl⟩:=iI e
      have rY:σ.used n=true:=r.hr.gT n (by rw[hn];simp)
      have od:n≠c:=fun he=>by subst he;rw[hu] at rY;cases rY
      have ni:(ao σ.h c (some (.row true m sz []))) n=some (.box cs):=by rw[bP _ _ _ _ od];exact hn
      refine⟨G1,r1.ak0 ni (fun v hv=>?_) (fun q hq=>?_)⟩
      ·obtain⟨v',v1,v2,v3⟩:=(r1.hr.box n cs ni).2.2 j _ hj
       rw[v1] at hv
       injection hv with hv
       subst hv
       have v3':v'=.slice none 0 0:=v3
       subst v3'
       exact dc
      ·have db:q=c:=hq
       subst db
       exact bo _ _ _
     ·cases hx
    ·exact fU hx
   ·exact fU hx
  ·exact fU hx
 |false=>
  simp only[St.canon] at hx
  split at hx
  ·exact r.FD hx
  ·rename_i sz hj
   split at hx
   ·rename_i bn
    split at hx
    ·rename_i σ1 e
     injection hx with hx
     subst hx
     obtain⟨G1,r1,dc⟩:=r.Yx bn e
     obtain⟨hu,rfl⟩:=iI e
     have hv:=r1.env n
     rw[show({σ with h:=ao σ.h c (some (.row true m sz [])),used:=ao σ.used c true}:St).env n=σ.env n from rfl,hj] at hv
     have eH:a.tmps.getD n undef=.slice none 0 0:=(hv.dB (by simp)).1
     refine⟨G1,r1.defers,r1.size,fun s=>?_,fun s q hq=>?_,r1.hr,r1.fr,r1.nF,r1.t8⟩
     ·show RA w G1 _ (ao σ.env n _ s) _
      by_cases hs:s=n
      ·subst hs
       rw[bo,eH]
       exact RA.dS rfl dc
      ·rw[bP _ _ _ _ hs];exact r1.env s
     ·have iF:(ao σ.env n (.one (.sl c sz 0 0)) s).ref q:=hq
      by_cases hs:s=n
      ·subst hs
       rw[bo] at iF
       have db:q=c:=iF
       subst db
       exact bo _ _ _
      ·rw[bP _ _ _ _ hs] at iF;exact r1.nO s q iF
    ·cases hx
   ·exact fU hx
  ·exact fU hx
theorem R.s7:∀{l:List (Bool×Nat×Nat×Nat×Mode)} {σ:St} {G:Gh},R B E w0 N σ a w G->σ.s7 l=some σ'->∃G',R B E w0 N σ' a w G'
 |[],σ,G,r,hx=>by
  simp only[St.s7] at hx
  injection hx with hx
  subst hx
  exact⟨G,r⟩
 |x::l,σ,G,r,hx=>by
  simp only[St.s7] at hx
  split at hx
  ·rename_i σ1 e
   obtain⟨G1,r1⟩:=r.canon e
   exact R.s7 r1 hx
  ·cases hx
theorem R.head (r:R B E w0 N σ a w G) {ke kh:List Nat} {cn:List (Bool×Nat×Nat×Nat×Mode)} (hx:σ.head ke kh cn=some σ'):∃G',R B E w0 N σ' a w G':=by
 unfold St.head at hx
 split at hx
 ·rename_i σ1 e
  injection hx with hx
  subst hx
  obtain⟨G1,r1⟩:=((r.hJ ke kh).hJ ke kh).s7 e
  exact⟨G1,r1.hJ ke kh⟩
 ·cases hx
def ic (P:Program) (N:Nat):Code->kR->Bool
 |c,.join _ _ _ mc=>ic P N c mc
 |.skip,.skip=>true
 |.region _ ops jW,.ae DU ms=>(jW==DU)&&iB P N ops ops.toList ms&&(!jW||Ib ops.toList ms)
 |.region _ ops jW,.t9 ps ms=>jW&&iB P N ops ops.toList ms&&DH ps ops.toList ms
 |.region _ ops jW,.re its=> !jW&&wQ P N ops ops.toList its
 |.region _ ops jW,.sr DU ps ms sp=>(jW==DU)&&(if DU=true then Mj P N ops ps ms sp else Mk P N ops ms sp)
 |.seq x y,.seq mx my=>ic P N x mx&&ic P N y my
 |.cond c x y,.cond mc mx my=>bd c mc&&ic P N x mx&&ic P N y my
 |.block id c,.block Pf mc=>(id==Pf)&&ic P N c mc
 |.loop c,.loop _ _ _ _ mc=>ic P N c mc
 |.exit id,.exit Pf=>id==Pf
 |.ret,.ret=>true
 |_,_=>false
def ab1 (B:Nat) (E:Ex) (w0:World) (N:Nat) (Q:Exit->Act->World->Prop):sT->Prop
 |.eF σ=>∀a w G,R B E w0 N σ a w G->Q .normal a w
 |.ext id σ=>∀a w G,R B E w0 N σ a w G->Q (.exit id) a w
 |.ret σ=>∀a w G,R B E w0 N σ a w G->Q .ret a w
theorem kZ (hT:jn P T) (hm:P.follows .mixedOrders=true):∀(mc:kR) {c:Code} {σ:St} {o:sT} {a:Act} {w:World} {G:Gh} {Q:Exit->Act->World->Prop},
  ic P N c mc=true->dv T mc σ=some o->R B E w0 N σ a w G->ab1 B E w0 N Q o->c.wp P Q a w
 |.skip,c,σ,o,a,w,G,Q,hc,hx,r,hQ=>by
  cases c<;>simp only[ic] at hc<;>first|cases hc|skip
  simp only[dv] at hx
  injection hx with hx
  subst hx
  exact wp_skip (hQ _ _ _ r)
 |.ae jW ms,c,σ,o,a,w,G,Q,hc,hx,r,hQ=>by
  cases c<;>simp only[ic] at hc<;>first|cases hc|skip
  simp only[Bool.and_eq_true,Bool.or_eq_true,beq_iff_eq] at hc
  simp only[dv] at hx
  split at hx
  ·rename_i σ1 e
   injection hx with hx
   subst hx
   exact ak5 hT hm hc.1.2 (fun hd=>hc.2.resolve_left (by simp[hd])) e r hQ
  ·cases hx
 |.t9 ps ms,c,σ,o,a,w,G,Q,hc,hx,r,hQ=>by
  cases c<;>simp only[ic] at hc<;>first|cases hc|skip
  simp only[Bool.and_eq_true] at hc
  obtain⟨⟨hd,lp⟩,lr⟩:=hc
  subst hd
  simp only[dv] at hx
  split at hx
  ·rename_i fs σ1 e
   cases hp:sk ps fs with
   |true=>
    rw[hp] at hx
    injection hx with hx
    subst hx
    exact ak2 hT hm lp lr e hp r hQ
   |false=>rw[hp] at hx;cases hx
  ·cases hx
 |.re its,c,σ,o,a,w,G,Q,hc,hx,r,hQ=>by
  cases c<;>simp only[ic] at hc<;>first|cases hc|skip
  simp only[Bool.and_eq_true,Bool.not_eq_true'] at hc
  obtain⟨hd,lp⟩:=hc
  subst hd
  simp only[dv] at hx
  split at hx
  ·rename_i σ1 e
   injection hx with hx
   subst hx
   exact wp_region_list (Lb hT hT.al4 lp e r hQ)
  ·cases hx
 |.sr DU ps ms sp,c,σ,o,a,w,G,Q,hc,hx,r,hQ=>by
  cases c<;>simp only[ic] at hc<;>first|cases hc|skip
  simp only[Bool.and_eq_true,beq_iff_eq] at hc
  obtain⟨hd,lp⟩:=hc
  subst hd
  rename_i jW
  cases jW with
  |false=>
   simp only[Bool.false_eq_true,if_false] at lp
   simp only[dv] at hx
   split at hx
   ·rename_i σ1 e
    split at hx
    ·rename_i σ2 e2
     injection hx with hx
     subst hx
     exact ak4 hT lp e e2 r hQ
    ·cases hx
   ·cases hx
  |true=>
   simp only[if_true] at lp
   simp only[dv] at hx
   split at hx
   ·rename_i fs σ1 e
    split at hx
    ·rename_i σ2 e2
     cases hp:sk ps fs with
     |true=>
      rw[hp] at hx
      injection hx with hx
      subst hx
      exact ak3 hT hm lp e hp e2 r hQ
     |false=>rw[hp] at hx;cases hx
    ·cases hx
   ·cases hx
 |.seq mx my,c,σ,o,a,w,G,Q,hc,hx,r,hQ=>by
  cases c<;>simp only[ic] at hc<;>first|cases hc|skip
  simp only[Bool.and_eq_true] at hc
  simp only[dv] at hx
  refine wp_seq ?_
  cases e:dv T mx σ with
  |none=>rw[e] at hx;cases hx
  |some o1=>
   rw[e] at hx
   cases o1 with
   |eF σ1=>exact kZ hT hm mx hc.1 e r fun a w G r1=>kZ hT hm my hc.2 hx r1 hQ
   |ext i σ1=>
    injection hx with hx
    subst hx
    exact kZ hT hm mx hc.1 e r hQ
   |ret σ1=>
    injection hx with hx
    subst hx
    exact kZ hT hm mx hc.1 e r hQ
 |.cond mc mx my,c,σ,o,a,w,G,Q,hc,hx,r,hQ=>by
  cases c<;>simp only[ic] at hc<;>first|cases hc|skip
  simp only[Bool.and_eq_true] at hc
  simp only[dv] at hx
  split at hx
  ·rename_i t ht
   have h1:=(r.ev hc.1.1).1
   rw[ht] at h1
   refine wp_cond h1.Bc ?_
   cases t with
   |true=>simp only[if_true] at hx⊢;exact kZ hT hm mx hc.1.2 hx r hQ
   |false=>simp only[Bool.false_eq_true,if_false] at hx⊢;exact kZ hT hm my hc.2 hx r hQ
  ·cases hx
 |.block id mc,c,σ,o,a,w,G,Q,hc,hx,r,hQ=>by
  cases c<;>simp only[ic] at hc<;>first|cases hc|skip
  simp only[Bool.and_eq_true,beq_iff_eq] at hc
  obtain⟨rfl,hc⟩:=hc
  simp only[dv] at hx
  refine wp_block ?_
  cases e:dv T mc σ with
  |none=>rw[e] at hx;cases hx
  |some o1=>
   rw[e] at hx
   refine kZ hT hm mc hc e r ?_
   cases o1 with
   |eF σ1=>injection hx with hx;subst hx;exact hQ
   |ret σ1=>injection hx with hx;subst hx;exact hQ
   |ext i σ1=>
    simp only at hx
    intro a w G r1
    simp only[Exit.inBlock]
    split at hx
    ·rename_i hi;injection hx with hx;subst hx;rw[if_pos hi];exact hQ a w G r1
    ·rename_i hi;injection hx with hx;subst hx;rw[if_neg hi];exact hQ a w G r1
 |.join ke kh cn mc,c,σ,o,a,w,G,Q,hc,hx,r,hQ=>by
  have hc:ic P N c mc=true:=by cases c<;>exact hc
  simp only[dv] at hx
  cases e:dv T mc σ with
  |none=>rw[e] at hx;cases hx
  |some o1=>
   rw[e] at hx
   cases o1 with
   |eF σ1=>
    simp only at hx
    split at hx
    ·rename_i σh e0
     injection hx with hx
     subst hx
     exact kZ hT hm mc hc e r fun a w G r1=>by
      obtain⟨G',r'⟩:=r1.head e0
      exact hQ a w G' r'
    ·cases hx
   |ext i σ1=>
    injection hx with hx
    subst hx
    exact kZ hT hm mc hc e r hQ
   |ret σ1=>
    injection hx with hx
    subst hx
    exact kZ hT hm mc hc e r hQ
 |.loop id ke kh cn mc,c,σ,o,a,w,G,Q,hc,hx,r,hQ=>by
  cases c<;>simp only[ic] at hc<;>first|cases hc|skip
  rename_i c
  simp only[dv] at hx
  refine wp_loop_rounds aM ?_
  revert hx r
  generalize aM=n
  revert σ a w G
  induction n with
  |zero=>intro σ a w G hx r;simp[Cq] at hx
  |succ n ih=>
   intro σ a w G hx r
   simp only[Cq] at hx
   rw[rounds_succ]
   cases e0:σ.head ke kh cn with
   |none=>rw[e0] at hx;cases hx
   |some σh=>
    rw[e0] at hx
    obtain⟨G',r'⟩:=r.head e0
    cases e:dv T mc σh with
    |none=>simp only[e] at hx;cases hx
    |some o1=>
     simp only[e] at hx
     refine kZ hT hm mc hc e r' ?_
     cases o1 with
     |eF σ1=>intro a w G r1;exact ih _ _ _ _ hx r1
     |ext i σ1=>injection hx with hx;subst hx;exact hQ
     |ret σ1=>injection hx with hx;subst hx;exact hQ
 |.exit id,c,σ,o,a,w,G,Q,hc,hx,r,hQ=>by
  cases c<;>simp only[ic] at hc<;>first|cases hc|skip
  have hid:=eq_of_beq hc
  subst hid
  simp only[dv] at hx
  injection hx with hx
  subst hx
  exact wp_exit (hQ _ _ _ r)
 |.ret,c,σ,o,a,w,G,Q,hc,hx,r,hQ=>by
  cases c<;>simp only[ic] at hc<;>first|cases hc|skip
  simp only[dv] at hx
  injection hx with hx
  subst hx
  exact wp_ret (hQ _ _ _ r)
end
end Go.Am
