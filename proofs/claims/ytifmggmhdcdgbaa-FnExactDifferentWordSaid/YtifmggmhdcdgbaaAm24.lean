/- Am24: code as a whole. No condition. -/
import Derived.Test.YtifmggmhdcdgbaaAm23
import Derived.Test.YtifmggmhdcdgbaaAmQ
set_option linter.unusedVariables false
namespace Go.Am
section
variable {B:Nat} {E:Ex} {w0 w w':World} {G G':Gh} {N:Nat} {h h':Nat->Option ar}
variable {P:Program} {T:be} {a:Act} {σ σ':St} {Q:Exit->Act->World->Prop}
theorem R.amL (r:R B E w0 N σ a w G) {n j:Nat} {cs:List ah} {y:ah} (hn:σ.h n=some (.box cs)) (hy:∀v,w.cell? (ad (G.g n).b ((G.g n).o+j))=some v->RC w G σ.h y v) (XS:∀m,y.ref m->σ.used m=true):
  R B E w0 N (σ.cX n (.box (cs.set j y))) a w G:=by
 have H:=r.hr
 have bF:σ.h n≠none:=by rw[hn];simp
 obtain⟨b1,b2,b3⟩:=H.box n cs hn
 have hg:av G.g n (G.g n)=G.g:=Fc _ _
 have K:aV w G σ.h (fun n=>σ.used n=true) w ⟨G.Im,av G.g n (G.g n)⟩ (av σ.h n (some (.box (cs.set j y)))):=by
  rw[hg]
  refine⟨fun _ h=>h,fun _ _ _=>rfl,fun m _ hm=>⟨?_,rfl,rfl,rfl,rfl,rfl⟩,fun m gr sz xs _ hm=>?_⟩
  ·by_cases bu:m=n
   ·subst bu;exact bF
   ·rwa[bS _ _ _ _ bu] at hm
  ·by_cases bu:m=n
   ·subst bu;rw[bw] at hm;cases hm
   ·rw[bS _ _ _ _ bu] at hm
    exact⟨⟨gr,xs,hm⟩,fun k j pc h1 h2=>⟨pc,h1,rfl,h2⟩⟩
 have Hn:=H.put (w':=w) (used':=σ.used) (n:=n) (blk:=.box (cs.set j y)) (p:=G.g n) (fun _ _ _=>rfl) (Nat.le_refl _) (fun _ _ h=>h) (fun _ h=>h) (H.iq n bF) (fun hl=>H.own n bF hl)
  (fun hl m bu hm hml=>H.inj m n hm bF bu hml hl) (fun hl m gr sz xs bu hm b hb=>H.live m gr sz xs hm b hb n bF hl)
  (fun cs' c m hb hc hr=>by
   injection hb with hb
   subst hb
   rcases List.mem_or_eq_of_mem_set hc with hc|rfl
   ·exact H.f8 n cs c m hn hc hr
   ·exact XS m hr) K
  (by
   refine⟨b1,b2,fun i c hi=>?_⟩
   rw[List.getElem?_set] at hi
   split at hi
   ·rename_i jC
    subst jC
    split at hi
    ·rename_i bN
     injection hi with hi
     subst hi
     obtain⟨v,v1,v2,v3⟩:=b3 j cs[j] (List.getElem?_eq_getElem bN)
     exact⟨v,v1,v2,(hy v v1).ek K XS⟩
    ·cases hi
   ·obtain⟨v,v1,v2,v3⟩:=b3 i c hi
    exact⟨v,v1,v2,v3.ek K fun m hm=>H.f8 n cs c m hn (List.mem_of_getElem? hi) hm⟩)
  (fun gr m sz xs hb=>by cases hb) (fun gr sz xs hb=>by cases hb) (fun gr m sz xs hb=>by cases hb)
  (fun hl _ b ⟨m,gr,mo,sz,xs,_,hm,hb⟩=>H.rR bF hl hm hb)
 rw[hg] at K Hn
 exact r.step rfl (fun _ h=>h) K Hn r.fr
theorem R.ja (r:R B E w0 N σ a w G) (c:Nat) (m:Mode):R B E w0 N (σ.ja c m) a w G:=by
 unfold St.ja
 cases m with
 |live=>exact r
 |aa=>exact r
 |aE=>
  simp only
  split
  ·rename_i gr rs xs hn
   have hg:(⟨G.Im,av G.g c (G.g c)⟩:Gh)=G:=by
    have:av G.g c (G.g c)=G.g:=by funext q;rw[iE];split<;>simp[*]
    rw[this]
   have hr:=r.hr.row c gr .aa rs xs hn
   have e0:∀q b,av σ.h c (some (.row gr .aE rs xs)) q=some b->q≠c->σ.h q=some b:=fun q b hq aA=>by rwa[bS _ _ _ _ aA] at hq
   have ne:∀q,av σ.h c (some (.row gr .aE rs xs)) q≠none->σ.h q≠none:=fun q hq=>by
    by_cases nu:q=c
    ·subst nu;rw[hn];simp
    ·rwa[bS _ _ _ _ nu] at hq
   have lZ:∀q bf m' aK au,av σ.h c (some (.row gr .aE rs xs)) q=some (.row bf m' aK au)->m'≠ .aE->q≠c/\σ.h q=some (.row bf m' aK au):=fun q bf m' aK au hq hm=>by
    by_cases nu:q=c
    ·subst nu;rw[bw] at hq;injection hq with hq;injection hq with _ hq _ _;exact absurd hq.symm hm
    ·exact⟨nu,e0 q _ hq nu⟩
   have K:aV w G σ.h (fun q=>σ.used q=true) w G (av σ.h c (some (.row gr .aE rs xs))):=
    ⟨fun _ h=>h,fun _ _ _=>rfl,fun q _ hq=>⟨ne q hq,rfl,rfl,rfl,rfl,rfl⟩,fun q bf aK au _ hq=>by
     obtain⟨h1,h2⟩:=lZ q bf .live aK au hq (by simp)
     exact⟨⟨bf,au,h2⟩,fun k j pc a b=>⟨pc,a,rfl,b⟩⟩⟩
   have H:=r.hr
   have Hn:HR B E w G (av σ.h c (some (.row gr .aE rs xs))) σ.used []:=by
    refine⟨fun q hq=>H.iq q (ne q hq),fun q cs y p hq=>?_,fun q cs hq=>?_,fun q bf m' aK au hq=>?_,fun q hq=>H.own q (ne q hq),fun q q' hq dH=>H.inj q q' (ne q hq) (ne q' dH),H.fk,H.oH,
     fun q q' bf m' aK au z5 m2 jS gH hq dH hm gY=>H.e7 q q' bf m' aK au z5 m2 jS gH (lZ _ _ _ _ _ hq hm).2 (lZ _ _ _ _ _ dH gY).2 hm gY,
     fun q bf aK au hq b hb q' dH=>H.live q bf aK au (lZ _ _ _ _ _ hq (by simp)).2 b hb q' (ne q' dH),(by intro i pc hi;simp at hi),(by intro i j pc cR b _ hi;simp at hi),(by intro i pc q bf m' aK au b hi;simp at hi)⟩
    ·have nu:q≠c:=fun e=>by subst e;rw[bw] at hq;cases hq
     exact H.f8 q cs y p (e0 q _ hq nu)
    ·have nu:q≠c:=fun e=>by subst e;rw[bw] at hq;cases hq
     obtain⟨a1,a2,a3⟩:=H.box q cs (e0 q _ hq nu)
     refine⟨a1,a2,fun j y hj=>?_⟩
     obtain⟨v,v1,v2,v3⟩:=a3 j y hj
     exact⟨v,v1,v2,v3.ek K fun p hp=>H.f8 q cs y p (e0 q _ hq nu) (List.mem_of_getElem? hj) hp⟩
    ·by_cases nu:q=c
     ·subst nu
      rw[bw] at hq
      injection hq with hq
      injection hq with h1 h2 h3 h4
      subst h1 h2 h3 h4
      exact⟨hr.pos,hr.er,hr.nl,hr.dq,hr.room,fun b hb=>(hr.mode.1 b hb).1⟩
     ·exact H.row q bf m' aK au (e0 q _ hq nu)
   exact r.step rfl (fun _ h=>h) K Hn r.fr
  ·exact r
theorem R.EA (r:R B E w0 N σ a w G) {x c:Nat} {m:Mode} (hx:(σ.aX x c).map (fun σ1=>σ1.ja c m)=some σ'):∃G',R B E w0 N σ' a w G':=by
 rw[Option.map_eq_some_iff] at hx
 obtain⟨σ1,e,rfl⟩:=hx
 obtain⟨G',r'⟩:=r.aX e
 exact⟨G',r'.ja c m⟩
theorem R.canon (r:R B E w0 N σ a w G) {x:Bool×Nat×Nat×Nat×Mode} (hx:σ.canon x=some σ'):∃G',R B E w0 N σ' a w G':=by
 obtain⟨b,n,j,c,m⟩:=x
 have fq:some σ=some σ'->∃G',R B E w0 N σ' a w G':=fun h=>by injection h with h;subst h;exact⟨G,r⟩
 cases b with
 |true=>
  simp only[St.canon] at hx
  split at hx
  ·rename_i cs hn
   split at hx
   ·exact r.EA hx
   ·rename_i sz hj
    split at hx
    ·rename_i bA
     split at hx
     ·rename_i σ1 e
      injection hx with hx
      subst hx
      obtain⟨G1,r1,di⟩:=r.Yy bA e
      obtain⟨hu,rfl⟩:=lO e
      have Dn:σ.used n=true:=r.hr.iq n (by rw[hn];simp)
      have pB:n≠c:=fun he=>by subst he;rw[hu] at Dn;cases Dn
      have mH:(av σ.h c (some (.row true m sz []))) n=some (.box cs):=by rw[bS _ _ _ _ pB];exact hn
      refine⟨G1,r1.amL mH (fun v hv=>?_) (fun q hq=>?_)⟩
      ·obtain⟨v',v1,v2,v3⟩:=(r1.hr.box n cs mH).2.2 j _ hj
       rw[v1] at hv
       injection hv with hv
       subst hv
       have v3':v'=.slice none 0 0:=v3
       subst v3'
       exact di
      ·have dH:q=c:=hq
       subst dH
       exact bw _ _ _
     ·cases hx
    ·exact fq hx
   ·exact fq hx
  ·exact fq hx
 |false=>
  simp only[St.canon] at hx
  split at hx
  ·exact r.EA hx
  ·rename_i sz hj
   split at hx
   ·rename_i bA
    split at hx
    ·rename_i σ1 e
     injection hx with hx
     subst hx
     obtain⟨G1,r1,di⟩:=r.Yy bA e
     obtain⟨hu,rfl⟩:=lO e
     have hv:=r1.env n
     rw[show({σ with h:=av σ.h c (some (.row true m sz [])),used:=av σ.used c true}:St).env n=σ.env n from rfl,hj] at hv
     have fi:a.tmps.getD n undef=.slice none 0 0:=(hv.eX (by simp)).1
     refine⟨G1,r1.defers,r1.size,fun s=>?_,fun s q hq=>?_,r1.hr,r1.fr,r1.pV,r1.yO⟩
     ·show RA w G1 _ (av σ.env n _ s) _
      by_cases hs:s=n
      ·subst hs
       rw[bw,fi]
       exact RA.fQ rfl di
      ·rw[bS _ _ _ _ hs];exact r1.env s
     ·have iN:(av σ.env n (.one (.sl c sz 0 0)) s).ref q:=hq
      by_cases hs:s=n
      ·subst hs
       rw[bw] at iN
       have dH:q=c:=iN
       subst dH
       exact bw _ _ _
      ·rw[bS _ _ _ _ hs] at iN;exact r1.ru s q iN
    ·cases hx
   ·exact fq hx
  ·exact fq hx
theorem R.rI:∀{l:List (Bool×Nat×Nat×Nat×Mode)} {σ:St} {G:Gh},R B E w0 N σ a w G->σ.rI l=some σ'->∃G',R B E w0 N σ' a w G'
 |[],σ,G,r,hx=>by
  simp only[St.rI] at hx
  injection hx with hx
  subst hx
  exact⟨G,r⟩
 |x::l,σ,G,r,hx=>by
  simp only[St.rI] at hx
  split at hx
  ·rename_i σ1 e
   obtain⟨G1,r1⟩:=r.canon e
   exact R.rI r1 hx
  ·cases hx
theorem R.head (r:R B E w0 N σ a w G) {ke kh:List Nat} {cn:List (Bool×Nat×Nat×Nat×Mode)} (hx:σ.head ke kh cn=some σ'):∃G',R B E w0 N σ' a w G':=by
 unfold St.head at hx
 split at hx
 ·rename_i σ1 e
  injection hx with hx
  subst hx
  obtain⟨G1,r1⟩:=((r.gF ke kh).gF ke kh).rI e
  exact⟨G1,r1.gF ke kh⟩
 ·cases hx
def il (P:Program) (N:Nat):Code->kI->Bool
 |c,.join _ _ _ mc=>il P N c mc
 |.skip,.skip=>true
 |.region _ ops qy,.ae adg ms=>(qy==adg)&&n8 P N ops ops.toList ms&&(!qy||G0 ops.toList ms)
 |.region _ ops qy,.pZ ps ms=>qy&&n8 P N ops ops.toList ms&&G4 ps ops.toList ms
 |.seq x y,.seq mx my=>il P N x mx&&il P N y my
 |.cond c x y,.cond mc mx my=>bq c mc&&il P N x mx&&il P N y my
 |.block id c,.block OE mc=>(id==OE)&&il P N c mc
 |.loop c,.loop _ _ _ _ mc=>il P N c mc
 |.exit id,.exit OE=>id==OE
 |.ret,.ret=>true
 |_,_=>false
def acd (B:Nat) (E:Ex) (w0:World) (N:Nat) (Q:Exit->Act->World->Prop):u6->Prop
 |.fe σ=>∀a w G,R B E w0 N σ a w G->Q .normal a w
 |.ext id σ=>∀a w G,R B E w0 N σ a w G->Q (.exit id) a w
 |.ret σ=>∀a w G,R B E w0 N σ a w G->Q .ret a w
theorem kO (hT:m8 P T) (hm:P.follows .mixedOrders=true):∀(mc:kI) {c:Code} {σ:St} {o:u6} {a:Act} {w:World} {G:Gh} {Q:Exit->Act->World->Prop},
  il P N c mc=true->dw T mc σ=some o->R B E w0 N σ a w G->acd B E w0 N Q o->c.wp P Q a w
 |.skip,c,σ,o,a,w,G,Q,hc,hx,r,hQ=>by
  cases c<;>simp only[il] at hc<;>first|cases hc|skip
  simp only[dw] at hx
  injection hx with hx
  subst hx
  exact wp_skip (hQ _ _ _ r)
 |.ae qy ms,c,σ,o,a,w,G,Q,hc,hx,r,hQ=>by
  cases c<;>simp only[il] at hc<;>first|cases hc|skip
  simp only[Bool.and_eq_true,Bool.or_eq_true,beq_iff_eq] at hc
  simp only[dw] at hx
  split at hx
  ·rename_i σ1 e
   injection hx with hx
   subst hx
   exact amO hT hm hc.1.2 (fun hd=>hc.2.resolve_left (by simp[hd])) e r hQ
  ·cases hx
 |.pZ ps ms,c,σ,o,a,w,G,Q,hc,hx,r,hQ=>by
  cases c<;>simp only[il] at hc<;>first|cases hc|skip
  simp only[Bool.and_eq_true] at hc
  obtain⟨⟨hd,C9⟩,Da⟩:=hc
  subst hd
  simp only[dw] at hx
  split at hx
  ·rename_i fs σ1 e
   cases hp:wE ps fs with
   |true=>
    rw[hp] at hx
    injection hx with hx
    subst hx
    exact amN hT hm C9 Da e hp r hQ
   |false=>rw[hp] at hx;cases hx
  ·cases hx
 |.seq mx my,c,σ,o,a,w,G,Q,hc,hx,r,hQ=>by
  cases c<;>simp only[il] at hc<;>first|cases hc|skip
  simp only[Bool.and_eq_true] at hc
  simp only[dw] at hx
  refine wp_seq ?_
  cases e:dw T mx σ with
  |none=>rw[e] at hx;cases hx
  |some o1=>
   rw[e] at hx
   cases o1 with
   |fe σ1=>exact kO hT hm mx hc.1 e r fun a w G r1=>kO hT hm my hc.2 hx r1 hQ
   |ext i σ1=>
    injection hx with hx
    subst hx
    exact kO hT hm mx hc.1 e r hQ
   |ret σ1=>
    injection hx with hx
    subst hx
    exact kO hT hm mx hc.1 e r hQ
 |.cond mc mx my,c,σ,o,a,w,G,Q,hc,hx,r,hQ=>by
  cases c<;>simp only[il] at hc<;>first|cases hc|skip
  simp only[Bool.and_eq_true] at hc
  simp only[dw] at hx
  split at hx
  ·rename_i t ht
   have h1:=(r.ev hc.1.1).1
   rw[ht] at h1
   refine wp_cond h1.zE ?_
   cases t with
   |true=>simp only[if_true] at hx⊢;exact kO hT hm mx hc.1.2 hx r hQ
   |false=>simp only[Bool.false_eq_true,if_false] at hx⊢;exact kO hT hm my hc.2 hx r hQ
  ·cases hx
 |.block id mc,c,σ,o,a,w,G,Q,hc,hx,r,hQ=>by
  cases c<;>simp only[il] at hc<;>first|cases hc|skip
  simp only[Bool.and_eq_true,beq_iff_eq] at hc
  obtain⟨rfl,hc⟩:=hc
  simp only[dw] at hx
  refine wp_block ?_
  cases e:dw T mc σ with
  |none=>rw[e] at hx;cases hx
  |some o1=>
   rw[e] at hx
   refine kO hT hm mc hc e r ?_
   cases o1 with
   |fe σ1=>injection hx with hx;subst hx;exact hQ
   |ret σ1=>injection hx with hx;subst hx;exact hQ
   |ext i σ1=>
    simp only at hx
    intro a w G r1
    simp only[Exit.inBlock]
    split at hx
    ·rename_i hi;injection hx with hx;subst hx;rw[if_pos hi];exact hQ a w G r1
    ·rename_i hi;injection hx with hx;subst hx;rw[if_neg hi];exact hQ a w G r1
 |.join ke kh cn mc,c,σ,o,a,w,G,Q,hc,hx,r,hQ=>by
  have hc:il P N c mc=true:=by cases c<;>exact hc
  simp only[dw] at hx
  cases e:dw T mc σ with
  |none=>rw[e] at hx;cases hx
  |some o1=>
   rw[e] at hx
   cases o1 with
   |fe σ1=>
    simp only at hx
    split at hx
    ·rename_i σh e0
     injection hx with hx
     subst hx
     exact kO hT hm mc hc e r fun a w G r1=>by
      obtain⟨G',r'⟩:=r1.head e0
      exact hQ a w G' r'
    ·cases hx
   |ext i σ1=>
    injection hx with hx
    subst hx
    exact kO hT hm mc hc e r hQ
   |ret σ1=>
    injection hx with hx
    subst hx
    exact kO hT hm mc hc e r hQ
 |.loop id ke kh cn mc,c,σ,o,a,w,G,Q,hc,hx,r,hQ=>by
  cases c<;>simp only[il] at hc<;>first|cases hc|skip
  rename_i c
  simp only[dw] at hx
  refine wp_loop_rounds aD ?_
  revert hx r
  generalize aD=n
  revert σ a w G
  induction n with
  |zero=>intro σ a w G hx r;simp[Be] at hx
  |succ n ih=>
   intro σ a w G hx r
   simp only[Be] at hx
   rw[rounds_succ]
   cases e0:σ.head ke kh cn with
   |none=>rw[e0] at hx;cases hx
   |some σh=>
    rw[e0] at hx
    obtain⟨G',r'⟩:=r.head e0
    cases e:dw T mc σh with
    |none=>simp only[e] at hx;cases hx
    |some o1=>
     simp only[e] at hx
     refine kO hT hm mc hc e r' ?_
     cases o1 with
     |fe σ1=>intro a w G r1;exact ih _ _ _ _ hx r1
     |ext i σ1=>injection hx with hx;subst hx;exact hQ
     |ret σ1=>injection hx with hx;subst hx;exact hQ
 |.exit id,c,σ,o,a,w,G,Q,hc,hx,r,hQ=>by
  cases c<;>simp only[il] at hc<;>first|cases hc|skip
  have hid:=eq_of_beq hc
  subst hid
  simp only[dw] at hx
  injection hx with hx
  subst hx
  exact wp_exit (hQ _ _ _ r)
 |.ret,c,σ,o,a,w,G,Q,hc,hx,r,hQ=>by
  cases c<;>simp only[il] at hc<;>first|cases hc|skip
  simp only[dw] at hx
  injection hx with hx
  subst hx
  exact wp_ret (hQ _ _ _ r)
end
end Go.Am
