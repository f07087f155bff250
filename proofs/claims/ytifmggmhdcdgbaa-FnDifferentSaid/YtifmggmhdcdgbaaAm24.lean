/- Am24: code as a whole. No condition. -/
import Derived.Test.YtifmggmhdcdgbaaAm23
import Derived.Test.YtifmggmhdcdgbaaAmQ
set_option linter.unusedVariables false
namespace Go.Am
section
variable {B:Nat} {E:Ex} {w0 w w':World} {G G':Gh} {N:Nat} {h h':Nat->Option ar}
variable {P:Program} {T:bj} {a:Act} {σ σ':St} {Q:Exit->Act->World->Prop}
theorem R.am4 (r:R B E w0 N σ a w G) {n j:Nat} {cs:List ai} {y:ai} (hn:σ.h n=some (.box cs)) (hy:∀v,w.cell? (ad (G.g n).b ((G.g n).o+j))=some v->RC w G σ.h y v) (YA:∀m,y.ref m->σ.used m=true):
  R B E w0 N (σ.dc n (.box (cs.set j y))) a w G:=by
 have H:=r.hr
 have bJ:σ.h n≠none:=by rw[hn];simp
 obtain⟨b1,b2,b3⟩:=H.box n cs hn
 have hg:aw G.g n (G.g n)=G.g:=FI _ _
 have K:aW w G σ.h (fun n=>σ.used n=true) w ⟨G.Im,aw G.g n (G.g n)⟩ (aw σ.h n (some (.box (cs.set j y)))):=by
  rw[hg]
  refine⟨fun _ h=>h,fun _ _ _=>rfl,fun m _ hm=>⟨?_,rfl,rfl,rfl,rfl,rfl⟩,fun m gr sz xs _ hm=>?_⟩
  ·by_cases bz:m=n
   ·subst bz;exact bJ
   ·rwa[bZ _ _ _ _ bz] at hm
  ·by_cases bz:m=n
   ·subst bz;rw[bA] at hm;cases hm
   ·rw[bZ _ _ _ _ bz] at hm
    exact⟨⟨gr,xs,hm⟩,fun k j pc h1 h2=>⟨pc,h1,rfl,h2⟩⟩
 have Hn:=H.put (w':=w) (used':=σ.used) (n:=n) (blk:=.box (cs.set j y)) (p:=G.g n) (fun _ _ _=>rfl) (Nat.le_refl _) (fun _ _ h=>h) (fun _ h=>h) (H.iS n bJ) (fun hl=>H.own n bJ hl)
  (fun hl m bz hm hml=>H.inj m n hm bJ bz hml hl) (fun hl m gr sz xs bz hm b hb=>H.live m gr sz xs hm b hb n bJ hl)
  (fun cs' c m hb hc hr=>by
   injection hb with hb
   subst hb
   rcases List.mem_or_eq_of_mem_set hc with hc|rfl
   ·exact H.gy n cs c m hn hc hr
   ·exact YA m hr) K
  (by
   refine⟨b1,b2,fun i c hi=>?_⟩
   rw[List.getElem?_set] at hi
   split at hi
   ·rename_i j3
    subst j3
    split at hi
    ·rename_i bH
     injection hi with hi
     subst hi
     obtain⟨v,v1,v2,v3⟩:=b3 j cs[j] (List.getElem?_eq_getElem bH)
     exact⟨v,v1,v2,(hy v v1).eM K YA⟩
    ·cases hi
   ·obtain⟨v,v1,v2,v3⟩:=b3 i c hi
    exact⟨v,v1,v2,v3.eM K fun m hm=>H.gy n cs c m hn (List.mem_of_getElem? hi) hm⟩)
  (fun gr m sz xs hb=>by cases hb) (fun gr sz xs hb=>by cases hb) (fun gr m sz xs hb=>by cases hb)
  (fun hl _ b ⟨m,gr,mo,sz,xs,_,hm,hb⟩=>H.sr bJ hl hm hb)
 rw[hg] at K Hn
 exact r.step rfl (fun _ h=>h) K Hn r.fr
theorem R.jC (r:R B E w0 N σ a w G) (c:Nat) (m:Mode):R B E w0 N (σ.jC c m) a w G:=by
 unfold St.jC
 cases m with
 |live=>exact r
 |ab=>exact r
 |aA=>
  simp only
  split
  ·rename_i gr rs xs hn
   have hg:(⟨G.Im,aw G.g c (G.g c)⟩:Gh)=G:=by
    have:aw G.g c (G.g c)=G.g:=by funext q;rw[jg];split<;>simp[*]
    rw[this]
   have hr:=r.hr.row c gr .ab rs xs hn
   have e0:∀q b,aw σ.h c (some (.row gr .aA rs xs)) q=some b->q≠c->σ.h q=some b:=fun q b hq ax=>by rwa[bZ _ _ _ _ ax] at hq
   have ne:∀q,aw σ.h c (some (.row gr .aA rs xs)) q≠none->σ.h q≠none:=fun q hq=>by
    by_cases nN:q=c
    ·subst nN;rw[hn];simp
    ·rwa[bZ _ _ _ _ nN] at hq
   have mB:∀q bk m' aK av,aw σ.h c (some (.row gr .aA rs xs)) q=some (.row bk m' aK av)->m'≠ .aA->q≠c/\σ.h q=some (.row bk m' aK av):=fun q bk m' aK av hq hm=>by
    by_cases nN:q=c
    ·subst nN;rw[bA] at hq;injection hq with hq;injection hq with _ hq _ _;exact absurd hq.symm hm
    ·exact⟨nN,e0 q _ hq nN⟩
   have K:aW w G σ.h (fun q=>σ.used q=true) w G (aw σ.h c (some (.row gr .aA rs xs))):=
    ⟨fun _ h=>h,fun _ _ _=>rfl,fun q _ hq=>⟨ne q hq,rfl,rfl,rfl,rfl,rfl⟩,fun q bk aK av _ hq=>by
     obtain⟨h1,h2⟩:=mB q bk .live aK av hq (by simp)
     exact⟨⟨bk,av,h2⟩,fun k j pc a b=>⟨pc,a,rfl,b⟩⟩⟩
   have H:=r.hr
   have Hn:HR B E w G (aw σ.h c (some (.row gr .aA rs xs))) σ.used []:=by
    refine⟨fun q hq=>H.iS q (ne q hq),fun q cs y p hq=>?_,fun q cs hq=>?_,fun q bk m' aK av hq=>?_,fun q hq=>H.own q (ne q hq),fun q q' hq dQ=>H.inj q q' (ne q hq) (ne q' dQ),H.fI,H.oT,
     fun q q' bk m' aK av Ax m2 kc g0 hq dQ hm iv=>H.fv q q' bk m' aK av Ax m2 kc g0 (mB _ _ _ _ _ hq hm).2 (mB _ _ _ _ _ dQ iv).2 hm iv,
     fun q bk aK av hq b hb q' dQ=>H.live q bk aK av (mB _ _ _ _ _ hq (by simp)).2 b hb q' (ne q' dQ),(by intro i pc hi;simp at hi),(by intro i j pc c6 b _ hi;simp at hi),(by intro i pc q bk m' aK av b hi;simp at hi)⟩
    ·have nN:q≠c:=fun e=>by subst e;rw[bA] at hq;cases hq
     exact H.gy q cs y p (e0 q _ hq nN)
    ·have nN:q≠c:=fun e=>by subst e;rw[bA] at hq;cases hq
     obtain⟨a1,a2,a3⟩:=H.box q cs (e0 q _ hq nN)
     refine⟨a1,a2,fun j y hj=>?_⟩
     obtain⟨v,v1,v2,v3⟩:=a3 j y hj
     exact⟨v,v1,v2,v3.eM K fun p hp=>H.gy q cs y p (e0 q _ hq nN) (List.mem_of_getElem? hj) hp⟩
    ·by_cases nN:q=c
     ·subst nN
      rw[bA] at hq
      injection hq with hq
      injection hq with h1 h2 h3 h4
      subst h1 h2 h3 h4
      exact⟨hr.pos,hr.er,hr.nl,hr.dD,hr.room,fun b hb=>(hr.mode.1 b hb).1⟩
     ·exact H.row q bk m' aK av (e0 q _ hq nN)
   exact r.step rfl (fun _ h=>h) K Hn r.fr
  ·exact r
theorem R.E6 (r:R B E w0 N σ a w G) {x c:Nat} {m:Mode} (hx:(σ.aX x c).map (fun σ1=>σ1.jC c m)=some σ'):∃G',R B E w0 N σ' a w G':=by
 rw[Option.map_eq_some_iff] at hx
 obtain⟨σ1,e,rfl⟩:=hx
 obtain⟨G',r'⟩:=r.aX e
 exact⟨G',r'.jC c m⟩
theorem R.canon (r:R B E w0 N σ a w G) {x:Bool×Nat×Nat×Nat×Mode} (hx:σ.canon x=some σ'):∃G',R B E w0 N σ' a w G':=by
 obtain⟨b,n,j,c,m⟩:=x
 have fM:some σ=some σ'->∃G',R B E w0 N σ' a w G':=fun h=>by injection h with h;subst h;exact⟨G,r⟩
 cases b with
 |true=>
  simp only[St.canon] at hx
  split at hx
  ·rename_i cs hn
   split at hx
   ·exact r.E6 hx
   ·rename_i sz hj
    split at hx
    ·rename_i bD
     split at hx
     ·rename_i σ1 e
      injection hx with hx
      subst hx
      obtain⟨G1,r1,dB⟩:=r.Zc bD e
      obtain⟨hu,rfl⟩:=mg e
      have DZ:σ.used n=true:=r.hr.iS n (by rw[hn];simp)
      have pO:n≠c:=fun he=>by subst he;rw[hu] at DZ;cases DZ
      have mP:(aw σ.h c (some (.row true m sz []))) n=some (.box cs):=by rw[bZ _ _ _ _ pO];exact hn
      refine⟨G1,r1.am4 mP (fun v hv=>?_) (fun q hq=>?_)⟩
      ·obtain⟨v',v1,v2,v3⟩:=(r1.hr.box n cs mP).2.2 j _ hj
       rw[v1] at hv
       injection hv with hv
       subst hv
       have v3':v'=.slice none 0 0:=v3
       subst v3'
       exact dB
      ·have dQ:q=c:=hq
       subst dQ
       exact bA _ _ _
     ·cases hx
    ·exact fM hx
   ·exact fM hx
  ·exact fM hx
 |false=>
  simp only[St.canon] at hx
  split at hx
  ·exact r.E6 hx
  ·rename_i sz hj
   split at hx
   ·rename_i bD
    split at hx
    ·rename_i σ1 e
     injection hx with hx
     subst hx
     obtain⟨G1,r1,dB⟩:=r.Zc bD e
     obtain⟨hu,rfl⟩:=mg e
     have hv:=r1.env n
     rw[show({σ with h:=aw σ.h c (some (.row true m sz [])),used:=aw σ.used c true}:St).env n=σ.env n from rfl,hj] at hv
     have fH:a.tmps.getD n undef=.slice none 0 0:=(hv.fq (by simp)).1
     refine⟨G1,r1.defers,r1.size,fun s=>?_,fun s q hq=>?_,r1.hr,r1.fr,r1.qv,r1.zf⟩
     ·show RA w G1 _ (aw σ.env n _ s) _
      by_cases hs:s=n
      ·subst hs
       rw[bA,fH]
       exact RA.gb rfl dB
      ·rw[bZ _ _ _ _ hs];exact r1.env s
     ·have jo:(aw σ.env n (.one (.sl c sz 0 0)) s).ref q:=hq
      by_cases hs:s=n
      ·subst hs
       rw[bA] at jo
       have dQ:q=c:=jo
       subst dQ
       exact bA _ _ _
      ·rw[bZ _ _ _ _ hs] at jo;exact r1.rR s q jo
    ·cases hx
   ·exact fM hx
  ·exact fM hx
theorem R.sb:∀{l:List (Bool×Nat×Nat×Nat×Mode)} {σ:St} {G:Gh},R B E w0 N σ a w G->σ.sb l=some σ'->∃G',R B E w0 N σ' a w G'
 |[],σ,G,r,hx=>by
  simp only[St.sb] at hx
  injection hx with hx
  subst hx
  exact⟨G,r⟩
 |x::l,σ,G,r,hx=>by
  simp only[St.sb] at hx
  split at hx
  ·rename_i σ1 e
   obtain⟨G1,r1⟩:=r.canon e
   exact R.sb r1 hx
  ·cases hx
theorem R.head (r:R B E w0 N σ a w G) {ke kh:List Nat} {cn:List (Bool×Nat×Nat×Nat×Mode)} (hx:σ.head ke kh cn=some σ'):∃G',R B E w0 N σ' a w G':=by
 unfold St.head at hx
 split at hx
 ·rename_i σ1 e
  injection hx with hx
  subst hx
  obtain⟨G1,r1⟩:=((r.gY ke kh).gY ke kh).sb e
  exact⟨G1,r1.gY ke kh⟩
 ·cases hx
def iR (P:Program) (N:Nat):Code->kY->Bool
 |c,.join _ _ _ mc=>iR P N c mc
 |.skip,.skip=>true
 |.region _ ops qS,.af adV ms=>(qS==adV)&&oH P N ops ops.toList ms&&(!qS||HI ops.toList ms)
 |.region _ ops qS,.od ps ms=>qS&&oH P N ops ops.toList ms&&HJ ps ops.toList ms
 |.seq x y,.seq mx my=>iR P N x mx&&iR P N y my
 |.cond c x y,.cond mc mx my=>bw c mc&&iR P N x mx&&iR P N y my
 |.block id c,.block Pj mc=>(id==Pj)&&iR P N c mc
 |.loop c,.loop _ _ _ _ mc=>iR P N c mc
 |.exit id,.exit Pj=>id==Pj
 |.ret,.ret=>true
 |_,_=>false
def acZ (B:Nat) (E:Ex) (w0:World) (N:Nat) (Q:Exit->Act->World->Prop):vH->Prop
 |.fD σ=>∀a w G,R B E w0 N σ a w G->Q .normal a w
 |.ext id σ=>∀a w G,R B E w0 N σ a w G->Q (.exit id) a w
 |.ret σ=>∀a w G,R B E w0 N σ a w G->Q .ret a w
theorem lk (hT:nu P T) (hm:P.follows .mixedOrders=true):∀(mc:kY) {c:Code} {σ:St} {o:vH} {a:Act} {w:World} {G:Gh} {Q:Exit->Act->World->Prop},
  iR P N c mc=true->dI T mc σ=some o->R B E w0 N σ a w G->acZ B E w0 N Q o->c.wp P Q a w
 |.skip,c,σ,o,a,w,G,Q,hc,hx,r,hQ=>by
  cases c<;>simp only[iR] at hc<;>first|cases hc|skip
  simp only[dI] at hx
  injection hx with hx
  subst hx
  exact wp_skip (hQ _ _ _ r)
 |.af qS ms,c,σ,o,a,w,G,Q,hc,hx,r,hQ=>by
  cases c<;>simp only[iR] at hc<;>first|cases hc|skip
  simp only[Bool.and_eq_true,Bool.or_eq_true,beq_iff_eq] at hc
  simp only[dI] at hx
  split at hx
  ·rename_i σ1 e
   injection hx with hx
   subst hx
   exact am7 hT hm hc.1.2 (fun hd=>hc.2.resolve_left (by simp[hd])) e r hQ
  ·cases hx
 |.od ps ms,c,σ,o,a,w,G,Q,hc,hx,r,hQ=>by
  cases c<;>simp only[iR] at hc<;>first|cases hc|skip
  simp only[Bool.and_eq_true] at hc
  obtain⟨⟨hd,DK⟩,wh⟩:=hc
  subst hd
  simp only[dI] at hx
  split at hx
  ·rename_i fs σ1 e
   cases hp:xa ps fs with
   |true=>
    rw[hp] at hx
    injection hx with hx
    subst hx
    exact am6 hT hm DK wh e hp r hQ
   |false=>rw[hp] at hx;cases hx
  ·cases hx
 |.seq mx my,c,σ,o,a,w,G,Q,hc,hx,r,hQ=>by
  cases c<;>simp only[iR] at hc<;>first|cases hc|skip
  simp only[Bool.and_eq_true] at hc
  simp only[dI] at hx
  refine wp_seq ?_
  cases e:dI T mx σ with
  |none=>rw[e] at hx;cases hx
  |some o1=>
   rw[e] at hx
   cases o1 with
   |fD σ1=>exact lk hT hm mx hc.1 e r fun a w G r1=>lk hT hm my hc.2 hx r1 hQ
   |ext i σ1=>
    injection hx with hx
    subst hx
    exact lk hT hm mx hc.1 e r hQ
   |ret σ1=>
    injection hx with hx
    subst hx
    exact lk hT hm mx hc.1 e r hQ
 |.cond mc mx my,c,σ,o,a,w,G,Q,hc,hx,r,hQ=>by
  cases c<;>simp only[iR] at hc<;>first|cases hc|skip
  simp only[Bool.and_eq_true] at hc
  simp only[dI] at hx
  split at hx
  ·rename_i t ht
   have h1:=(r.ev hc.1.1).1
   rw[ht] at h1
   refine wp_cond h1.z7 ?_
   cases t with
   |true=>simp only[if_true] at hx⊢;exact lk hT hm mx hc.1.2 hx r hQ
   |false=>simp only[Bool.false_eq_true,if_false] at hx⊢;exact lk hT hm my hc.2 hx r hQ
  ·cases hx
 |.block id mc,c,σ,o,a,w,G,Q,hc,hx,r,hQ=>by
  cases c<;>simp only[iR] at hc<;>first|cases hc|skip
  simp only[Bool.and_eq_true,beq_iff_eq] at hc
  obtain⟨rfl,hc⟩:=hc
  simp only[dI] at hx
  refine wp_block ?_
  cases e:dI T mc σ with
  |none=>rw[e] at hx;cases hx
  |some o1=>
   rw[e] at hx
   refine lk hT hm mc hc e r ?_
   cases o1 with
   |fD σ1=>injection hx with hx;subst hx;exact hQ
   |ret σ1=>injection hx with hx;subst hx;exact hQ
   |ext i σ1=>
    simp only at hx
    intro a w G r1
    simp only[Exit.inBlock]
    split at hx
    ·rename_i hi;injection hx with hx;subst hx;rw[if_pos hi];exact hQ a w G r1
    ·rename_i hi;injection hx with hx;subst hx;rw[if_neg hi];exact hQ a w G r1
 |.join ke kh cn mc,c,σ,o,a,w,G,Q,hc,hx,r,hQ=>by
  have hc:iR P N c mc=true:=by cases c<;>exact hc
  simp only[dI] at hx
  cases e:dI T mc σ with
  |none=>rw[e] at hx;cases hx
  |some o1=>
   rw[e] at hx
   cases o1 with
   |fD σ1=>
    simp only at hx
    split at hx
    ·rename_i σh e0
     injection hx with hx
     subst hx
     exact lk hT hm mc hc e r fun a w G r1=>by
      obtain⟨G',r'⟩:=r1.head e0
      exact hQ a w G' r'
    ·cases hx
   |ext i σ1=>
    injection hx with hx
    subst hx
    exact lk hT hm mc hc e r hQ
   |ret σ1=>
    injection hx with hx
    subst hx
    exact lk hT hm mc hc e r hQ
 |.loop id ke kh cn mc,c,σ,o,a,w,G,Q,hc,hx,r,hQ=>by
  cases c<;>simp only[iR] at hc<;>first|cases hc|skip
  rename_i c
  simp only[dI] at hx
  refine wp_loop_rounds aB ?_
  revert hx r
  generalize aB=n
  revert σ a w G
  induction n with
  |zero=>intro σ a w G hx r;simp[BQ] at hx
  |succ n ih=>
   intro σ a w G hx r
   simp only[BQ] at hx
   rw[rounds_succ]
   cases e0:σ.head ke kh cn with
   |none=>rw[e0] at hx;cases hx
   |some σh=>
    rw[e0] at hx
    obtain⟨G',r'⟩:=r.head e0
    cases e:dI T mc σh with
    |none=>simp only[e] at hx;cases hx
    |some o1=>
     simp only[e] at hx
     refine lk hT hm mc hc e r' ?_
     cases o1 with
     |fD σ1=>intro a w G r1;exact ih _ _ _ _ hx r1
     |ext i σ1=>injection hx with hx;subst hx;exact hQ
     |ret σ1=>injection hx with hx;subst hx;exact hQ
 |.exit id,c,σ,o,a,w,G,Q,hc,hx,r,hQ=>by
  cases c<;>simp only[iR] at hc<;>first|cases hc|skip
  have hid:=eq_of_beq hc
  subst hid
  simp only[dI] at hx
  injection hx with hx
  subst hx
  exact wp_exit (hQ _ _ _ r)
 |.ret,c,σ,o,a,w,G,Q,hc,hx,r,hQ=>by
  cases c<;>simp only[iR] at hc<;>first|cases hc|skip
  simp only[dI] at hx
  injection hx with hx
  subst hx
  exact wp_ret (hQ _ _ _ r)
end
end Go.Am
