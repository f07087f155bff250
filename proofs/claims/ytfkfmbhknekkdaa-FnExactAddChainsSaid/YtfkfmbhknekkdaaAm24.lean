/- Am24: code as a whole. No condition. -/
import Derived.Test.YtfkfmbhknekkdaaAm23
import Derived.Test.YtfkfmbhknekkdaaAmQ
set_option linter.unusedVariables false
namespace Go.Am
section
variable {B:Nat} {E:Ex} {w0 w w':World} {G G':Gh} {N:Nat} {h h':Nat->Option ak}
variable {P:Program} {T:aA} {a:Act} {σ σ':St} {Q:Exit->Act->World->Prop}
theorem R.ajz (r:R B E w0 N σ a w G) {n j:Nat} {cs:List ae} {y:ae} (hn:σ.h n=some (.box cs)) (hy:∀v,w.cell? (ad (G.g n).b ((G.g n).o+j))=some v->RC w G σ.h y v) (UF:∀m,y.ref m->σ.used m=true):
  R B E w0 N (σ.df n (.box (cs.set j y))) a w G:=by
 have H:=r.hr
 have bJ:σ.h n≠none:=by rw[hn];simp
 obtain⟨b1,b2,b3⟩:=H.box n cs hn
 have hg:aq G.g n (G.g n)=G.g:=Dd _ _
 have K:aQ w G σ.h (fun n=>σ.used n=true) w ⟨G.Im,aq G.g n (G.g n)⟩ (aq σ.h n (some (.box (cs.set j y)))):=by
  rw[hg]
  refine⟨fun _ h=>h,fun _ _ _=>rfl,fun m _ hm=>⟨?_,rfl,rfl,rfl,rfl,rfl⟩,fun m gr sz xs _ hm=>?_⟩
  ·by_cases br:m=n
   ·subst br;exact bJ
   ·rwa[cd _ _ _ _ br] at hm
  ·by_cases br:m=n
   ·subst br;rw[bu] at hm;cases hm
   ·rw[cd _ _ _ _ br] at hm
    exact⟨⟨gr,xs,hm⟩,fun k j pc h1 h2=>⟨pc,h1,rfl,h2⟩⟩
 have Hn:=H.put (w':=w) (used':=σ.used) (n:=n) (blk:=.box (cs.set j y)) (p:=G.g n) (fun _ _ _=>rfl) (Nat.le_refl _) (fun _ _ h=>h) (fun _ h=>h) (H.gN n bJ) (fun hl=>H.own n bJ hl)
  (fun hl m br hm hml=>H.inj m n hm bJ br hml hl) (fun hl m gr sz xs br hm b hb=>H.live m gr sz xs hm b hb n bJ hl)
  (fun cs' c m hb hc hr=>by
   injection hb with hb
   subst hb
   rcases List.mem_or_eq_of_mem_set hc with hc|rfl
   ·exact H.fW n cs c m hn hc hr
   ·exact UF m hr) K
  (by
   refine⟨b1,b2,fun i c hi=>?_⟩
   rw[List.getElem?_set] at hi
   split at hi
   ·rename_i hZ
    subst hZ
    split at hi
    ·rename_i bB
     injection hi with hi
     subst hi
     obtain⟨v,v1,v2,v3⟩:=b3 j cs[j] (List.getElem?_eq_getElem bB)
     exact⟨v,v1,v2,(hy v v1).eI K UF⟩
    ·cases hi
   ·obtain⟨v,v1,v2,v3⟩:=b3 i c hi
    exact⟨v,v1,v2,v3.eI K fun m hm=>H.fW n cs c m hn (List.mem_of_getElem? hi) hm⟩)
  (fun gr m sz xs hb=>by cases hb) (fun gr sz xs hb=>by cases hb) (fun gr m sz xs hb=>by cases hb)
  (fun hl _ b ⟨m,gr,mo,sz,xs,_,hm,hb⟩=>H.qI bJ hl hm hb)
 rw[hg] at K Hn
 exact r.step rfl (fun _ h=>h) K Hn r.fr
theorem R.iE (r:R B E w0 N σ a w G) (c:Nat) (m:Mode):R B E w0 N (σ.iE c m) a w G:=by
 unfold St.iE
 cases m with
 |live=>exact r
 |aj=>exact r
 |aF=>
  simp only
  split
  ·rename_i gr rs xs hn
   have hg:(⟨G.Im,aq G.g c (G.g c)⟩:Gh)=G:=by
    have:aq G.g c (G.g c)=G.g:=by funext q;rw[ik];split<;>simp[*]
    rw[this]
   have hr:=r.hr.row c gr .aj rs xs hn
   have e0:∀q b,aq σ.h c (some (.row gr .aF rs xs)) q=some b->q≠c->σ.h q=some b:=fun q b hq av=>by rwa[cd _ _ _ _ av] at hq
   have ne:∀q,aq σ.h c (some (.row gr .aF rs xs)) q≠none->σ.h q≠none:=fun q hq=>by
    by_cases mg:q=c
    ·subst mg;rw[hn];simp
    ·rwa[cd _ _ _ _ mg] at hq
   have kY:∀q aU m' aC ao,aq σ.h c (some (.row gr .aF rs xs)) q=some (.row aU m' aC ao)->m'≠ .aF->q≠c/\σ.h q=some (.row aU m' aC ao):=fun q aU m' aC ao hq hm=>by
    by_cases mg:q=c
    ·subst mg;rw[bu] at hq;injection hq with hq;injection hq with _ hq _ _;exact absurd hq.symm hm
    ·exact⟨mg,e0 q _ hq mg⟩
   have K:aQ w G σ.h (fun q=>σ.used q=true) w G (aq σ.h c (some (.row gr .aF rs xs))):=
    ⟨fun _ h=>h,fun _ _ _=>rfl,fun q _ hq=>⟨ne q hq,rfl,rfl,rfl,rfl,rfl⟩,fun q aU aC ao _ hq=>by
     obtain⟨h1,h2⟩:=kY q aU .live aC ao hq (by simp)
     exact⟨⟨aU,ao,h2⟩,fun k j pc a b=>⟨pc,a,rfl,b⟩⟩⟩
   have H:=r.hr
   have Hn:HR B E w G (aq σ.h c (some (.row gr .aF rs xs))) σ.used []:=by
    refine⟨fun q hq=>H.gN q (ne q hq),fun q cs y p hq=>?_,fun q cs hq=>?_,fun q aU m' aC ao hq=>?_,fun q hq=>H.own q (ne q hq),fun q q' hq dB=>H.inj q q' (ne q hq) (ne q' dB),H.fv,H.oq,
     fun q q' aU m' aC ao yB m2 iS gw hq dB hm iK=>H.fg q q' aU m' aC ao yB m2 iS gw (kY _ _ _ _ _ hq hm).2 (kY _ _ _ _ _ dB iK).2 hm iK,
     fun q aU aC ao hq b hb q' dB=>H.live q aU aC ao (kY _ _ _ _ _ hq (by simp)).2 b hb q' (ne q' dB),(by intro i pc hi;simp at hi),(by intro i j pc dd b _ hi;simp at hi),(by intro i pc q aU m' aC ao b hi;simp at hi)⟩
    ·have mg:q≠c:=fun e=>by subst e;rw[bu] at hq;cases hq
     exact H.fW q cs y p (e0 q _ hq mg)
    ·have mg:q≠c:=fun e=>by subst e;rw[bu] at hq;cases hq
     obtain⟨a1,a2,a3⟩:=H.box q cs (e0 q _ hq mg)
     refine⟨a1,a2,fun j y hj=>?_⟩
     obtain⟨v,v1,v2,v3⟩:=a3 j y hj
     exact⟨v,v1,v2,v3.eI K fun p hp=>H.fW q cs y p (e0 q _ hq mg) (List.mem_of_getElem? hj) hp⟩
    ·by_cases mg:q=c
     ·subst mg
      rw[bu] at hq
      injection hq with hq
      injection hq with h1 h2 h3 h4
      subst h1 h2 h3 h4
      exact⟨hr.pos,hr.er,hr.nl,hr.dv,hr.room,fun b hb=>(hr.mode.1 b hb).1⟩
     ·exact H.row q aU m' aC ao (e0 q _ hq mg)
   exact r.step rfl (fun _ h=>h) K Hn r.fr
  ·exact r
theorem R.CJ (r:R B E w0 N σ a w G) {x c:Nat} {m:Mode} (hx:(σ.aO x c).map (fun σ1=>σ1.iE c m)=some σ'):∃G',R B E w0 N σ' a w G':=by
 rw[Option.map_eq_some_iff] at hx
 obtain⟨σ1,e,rfl⟩:=hx
 obtain⟨G',r'⟩:=r.aO e
 exact⟨G',r'.iE c m⟩
theorem R.canon (r:R B E w0 N σ a w G) {x:Bool×Nat×Nat×Nat×Mode} (hx:σ.canon x=some σ'):∃G',R B E w0 N σ' a w G':=by
 obtain⟨b,n,j,c,m⟩:=x
 have fA:some σ=some σ'->∃G',R B E w0 N σ' a w G':=fun h=>by injection h with h;subst h;exact⟨G,r⟩
 cases b with
 |true=>
  simp only[St.canon] at hx
  split at hx
  ·rename_i cs hn
   split at hx
   ·exact r.CJ hx
   ·rename_i sz hj
    split at hx
    ·rename_i bo
     split at hx
     ·rename_i σ1 e
      injection hx with hx
      subst hx
      obtain⟨G1,r1,pL⟩:=r.V2 bo e
      obtain⟨hu,rfl⟩:=j8 e
      have BQ:σ.used n=true:=r.hr.gN n (by rw[hn];simp)
      have tY:n≠c:=fun he=>by subst he;rw[hu] at BQ;cases BQ
      have lB:(aq σ.h c (some (.row true m sz []))) n=some (.box cs):=by rw[cd _ _ _ _ tY];exact hn
      refine⟨G1,r1.ajz lB (fun v hv=>?_) (fun q hq=>?_)⟩
      ·obtain⟨v',v1,v2,v3⟩:=(r1.hr.box n cs lB).2.2 j _ hj
       rw[v1] at hv
       injection hv with hv
       subst hv
       have v3':v'=.slice none 0 0:=v3
       subst v3'
       exact pL
      ·have dB:q=c:=hq
       subst dB
       exact bu _ _ _
     ·cases hx
    ·exact fA hx
   ·exact fA hx
  ·exact fA hx
 |false=>
  simp only[St.canon] at hx
  split at hx
  ·exact r.CJ hx
  ·rename_i sz hj
   split at hx
   ·rename_i bo
    split at hx
    ·rename_i σ1 e
     injection hx with hx
     subst hx
     obtain⟨G1,r1,pL⟩:=r.V2 bo e
     obtain⟨hu,rfl⟩:=j8 e
     have hv:=r1.env n
     rw[show({σ with h:=aq σ.h c (some (.row true m sz [])),used:=aq σ.used c true}:St).env n=σ.env n from rfl,hj] at hv
     have eO:a.tmps.getD n undef=.slice none 0 0:=(hv.eB (by simp)).1
     refine⟨G1,r1.defers,r1.size,fun s=>?_,fun s q hq=>?_,r1.hr,r1.fr,r1.rq,r1.wW⟩
     ·show RA w G1 _ (aq σ.env n _ s) _
      by_cases hs:s=n
      ·subst hs
       rw[bu,eO]
       exact RA.fi rfl pL
      ·rw[cd _ _ _ _ hs];exact r1.env s
     ·have iM:(aq σ.env n (.one (.sl c sz 0 0)) s).ref q:=hq
      by_cases hs:s=n
      ·subst hs
       rw[bu] at iM
       have dB:q=c:=iM
       subst dB
       exact bu _ _ _
      ·rw[cd _ _ _ _ hs] at iM;exact r1.qj s q iM
    ·cases hx
   ·exact fA hx
  ·exact fA hx
theorem R.qx:∀{l:List (Bool×Nat×Nat×Nat×Mode)} {σ:St} {G:Gh},R B E w0 N σ a w G->σ.qx l=some σ'->∃G',R B E w0 N σ' a w G'
 |[],σ,G,r,hx=>by
  simp only[St.qx] at hx
  injection hx with hx
  subst hx
  exact⟨G,r⟩
 |x::l,σ,G,r,hx=>by
  simp only[St.qx] at hx
  split at hx
  ·rename_i σ1 e
   obtain⟨G1,r1⟩:=r.canon e
   exact R.qx r1 hx
  ·cases hx
theorem R.head (r:R B E w0 N σ a w G) {ke kh:List Nat} {cn:List (Bool×Nat×Nat×Nat×Mode)} (hx:σ.head ke kh cn=some σ'):∃G',R B E w0 N σ' a w G':=by
 unfold St.head at hx
 split at hx
 ·rename_i σ1 e
  injection hx with hx
  subst hx
  obtain⟨G1,r1⟩:=((r.gv ke kh).gv ke kh).qx e
  exact⟨G1,r1.gv ke kh⟩
 ·cases hx
def iv (P:Program) (N:Nat):Code->ld->Bool
 |c,.join _ _ _ mc=>iv P N c mc
 |.skip,.skip=>true
 |.region _ ops pi,.af aa7 ms=>(pi==aa7)&&mW P N ops ops.toList ms&&(!pi||Er ops.toList ms)
 |.region _ ops pi,.sV ps ms=>pi&&mW P N ops ops.toList ms&&Es ps ops.toList ms
 |.seq x y,.seq mx my=>iv P N x mx&&iv P N y my
 |.cond c x y,.cond mc mx my=>bi c mc&&iv P N x mx&&iv P N y my
 |.block id c,.block LD mc=>(id==LD)&&iv P N c mc
 |.loop c,.loop _ _ _ _ mc=>iv P N c mc
 |.exit id,.exit LD=>id==LD
 |.ret,.ret=>true
 |_,_=>false
def ZT (B:Nat) (E:Ex) (w0:World) (N:Nat) (Q:Exit->Act->World->Prop):qu->Prop
 |.fx σ=>∀a w G,R B E w0 N σ a w G->Q .normal a w
 |.ext id σ=>∀a w G,R B E w0 N σ a w G->Q (.exit id) a w
 |.ret σ=>∀a w G,R B E w0 N σ a w G->Q .ret a w
theorem lk (hT:mR P T) (hm:P.follows .mixedOrders=true):∀(mc:ld) {c:Code} {σ:St} {o:qu} {a:Act} {w:World} {G:Gh} {Q:Exit->Act->World->Prop},
  iv P N c mc=true->dH T mc σ=some o->R B E w0 N σ a w G->ZT B E w0 N Q o->c.wp P Q a w
 |.skip,c,σ,o,a,w,G,Q,hc,hx,r,hQ=>by
  cases c<;>simp only[iv] at hc<;>first|cases hc|skip
  simp only[dH] at hx
  injection hx with hx
  subst hx
  exact wp_skip (hQ _ _ _ r)
 |.af pi ms,c,σ,o,a,w,G,Q,hc,hx,r,hQ=>by
  cases c<;>simp only[iv] at hc<;>first|cases hc|skip
  simp only[Bool.and_eq_true,Bool.or_eq_true,beq_iff_eq] at hc
  simp only[dH] at hx
  split at hx
  ·rename_i σ1 e
   injection hx with hx
   subst hx
   exact ajC hT hm hc.1.2 (fun hd=>hc.2.resolve_left (by simp[hd])) e r hQ
  ·cases hx
 |.sV ps ms,c,σ,o,a,w,G,Q,hc,hx,r,hQ=>by
  cases c<;>simp only[iv] at hc<;>first|cases hc|skip
  simp only[Bool.and_eq_true] at hc
  obtain⟨⟨hd,Bz⟩,BA⟩:=hc
  subst hd
  simp only[dH] at hx
  split at hx
  ·rename_i fs σ1 e
   cases hp:uK ps fs with
   |true=>
    rw[hp] at hx
    injection hx with hx
    subst hx
    exact ajB hT hm Bz BA e hp r hQ
   |false=>rw[hp] at hx;cases hx
  ·cases hx
 |.seq mx my,c,σ,o,a,w,G,Q,hc,hx,r,hQ=>by
  cases c<;>simp only[iv] at hc<;>first|cases hc|skip
  simp only[Bool.and_eq_true] at hc
  simp only[dH] at hx
  refine wp_seq ?_
  cases e:dH T mx σ with
  |none=>rw[e] at hx;cases hx
  |some o1=>
   rw[e] at hx
   cases o1 with
   |fx σ1=>exact lk hT hm mx hc.1 e r fun a w G r1=>lk hT hm my hc.2 hx r1 hQ
   |ext i σ1=>
    injection hx with hx
    subst hx
    exact lk hT hm mx hc.1 e r hQ
   |ret σ1=>
    injection hx with hx
    subst hx
    exact lk hT hm mx hc.1 e r hQ
 |.cond mc mx my,c,σ,o,a,w,G,Q,hc,hx,r,hQ=>by
  cases c<;>simp only[iv] at hc<;>first|cases hc|skip
  simp only[Bool.and_eq_true] at hc
  simp only[dH] at hx
  split at hx
  ·rename_i t ht
   have h1:=(r.ev hc.1.1).1
   rw[ht] at h1
   refine wp_cond h1.x6 ?_
   cases t with
   |true=>simp only[if_true] at hx⊢;exact lk hT hm mx hc.1.2 hx r hQ
   |false=>simp only[Bool.false_eq_true,if_false] at hx⊢;exact lk hT hm my hc.2 hx r hQ
  ·cases hx
 |.block id mc,c,σ,o,a,w,G,Q,hc,hx,r,hQ=>by
  cases c<;>simp only[iv] at hc<;>first|cases hc|skip
  simp only[Bool.and_eq_true,beq_iff_eq] at hc
  obtain⟨rfl,hc⟩:=hc
  simp only[dH] at hx
  refine wp_block ?_
  cases e:dH T mc σ with
  |none=>rw[e] at hx;cases hx
  |some o1=>
   rw[e] at hx
   refine lk hT hm mc hc e r ?_
   cases o1 with
   |fx σ1=>injection hx with hx;subst hx;exact hQ
   |ret σ1=>injection hx with hx;subst hx;exact hQ
   |ext i σ1=>
    simp only at hx
    intro a w G r1
    simp only[Exit.inBlock]
    split at hx
    ·rename_i hi;injection hx with hx;subst hx;rw[if_pos hi];exact hQ a w G r1
    ·rename_i hi;injection hx with hx;subst hx;rw[if_neg hi];exact hQ a w G r1
 |.join ke kh cn mc,c,σ,o,a,w,G,Q,hc,hx,r,hQ=>by
  have hc:iv P N c mc=true:=by cases c<;>exact hc
  simp only[dH] at hx
  cases e:dH T mc σ with
  |none=>rw[e] at hx;cases hx
  |some o1=>
   rw[e] at hx
   cases o1 with
   |fx σ1=>
    simp only at hx
    split at hx
    ·rename_i ZH e0
     injection hx with hx
     subst hx
     exact lk hT hm mc hc e r fun a w G r1=>by
      obtain⟨G',r'⟩:=r1.head e0
      exact hQ a w G' r'
    ·cases hx
   |ext i σ1=>
    injection hx with hx
    subst hx
    exact lk hT hm mc hc e r hQ
   |ret σ1=>
    injection hx with hx
    subst hx
    exact lk hT hm mc hc e r hQ
 |.loop id ke kh cn mc,c,σ,o,a,w,G,Q,hc,hx,r,hQ=>by
  cases c<;>simp only[iv] at hc<;>first|cases hc|skip
  rename_i c
  simp only[dH] at hx
  refine wp_loop_rounds bh ?_
  revert hx r
  generalize bh=n
  revert σ a w G
  induction n with
  |zero=>intro σ a w G hx r;simp[zw] at hx
  |succ n ih=>
   intro σ a w G hx r
   simp only[zw] at hx
   rw[rounds_succ]
   cases e0:σ.head ke kh cn with
   |none=>rw[e0] at hx;cases hx
   |some ZH=>
    rw[e0] at hx
    obtain⟨G',r'⟩:=r.head e0
    cases e:dH T mc ZH with
    |none=>simp only[e] at hx;cases hx
    |some o1=>
     simp only[e] at hx
     refine lk hT hm mc hc e r' ?_
     cases o1 with
     |fx σ1=>intro a w G r1;exact ih _ _ _ _ hx r1
     |ext i σ1=>injection hx with hx;subst hx;exact hQ
     |ret σ1=>injection hx with hx;subst hx;exact hQ
 |.exit id,c,σ,o,a,w,G,Q,hc,hx,r,hQ=>by
  cases c<;>simp only[iv] at hc<;>first|cases hc|skip
  have hid:=eq_of_beq hc
  subst hid
  simp only[dH] at hx
  injection hx with hx
  subst hx
  exact wp_exit (hQ _ _ _ r)
 |.ret,c,σ,o,a,w,G,Q,hc,hx,r,hQ=>by
  cases c<;>simp only[iv] at hc<;>first|cases hc|skip
  simp only[dH] at hx
  injection hx with hx
  subst hx
  exact wp_ret (hQ _ _ _ r)
end
end Go.Am
