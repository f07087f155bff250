/- Am24, Am25, Am26, Am27, Am28, Am29, Am30, AmW, S0, S1, S2, S3, S4, S5, S6: parts of the proof. No condition. -/
import Derived.Test.YtfkfmbhknekkdaaAmQ
set_option linter.unusedVariables false
set_option linter.unusedSimpArgs false
open Nat renaming eq_of_beq_eq_true->zaa,ble_eq_true_of_le->zap,beq_refl->zaq,add_sub_cancel_left->zav,le_refl->zax,sub_zero->zaI,le_of_ble_eq_true->zaJ,zero_le->zaT,le_add_right->zaX,lt_or_gt_of_ne->za3,add_zero->za9,zero_lt_succ->zbd,sub_self->zbg,zero_add->zbh
open Option renaming map_some->zab,map_none->zal,map_eq_some_iff->zaw,bind_some->zaK,isSome_map->zaS,bind_eq_some_iff->zaV
open List renaming map_cons->zac,getElem?_eq_getElem->zad,mem_of_getElem?->zae,length_map->zaf,getElem?_map->zag,getElem?_eq_some_iff->zah,filterMap_cons->zaj,eq_nil_of_length_eq_zero->zak,mem_cons->zao,map_map->zar,mem_map->zas,map_congr_left->zat,getElem?_eq_none->zau,mem_append->zay,getElem?_of_mem->zaB,all_eq_true->zaC,length_cons->zaD,getElem_of_mem->zaE,map_set->zaF,all_cons->zaG,map_take->zaH,map_drop->zaL,getD_eq_getElem?_getD->zaN,pairwise_iff_getElem->zaO,getElem?_append_left->zaP,getElem?_eq_none_iff->zaQ,ext_getElem?->zaR,getElem?_cons_zero->zaU,take_of_length_le->zaY,map_append->za0,mem_cons_of_mem->za1,getD_cons_zero->za2,length_append->za4,getElem?_ofFn->za5,map_replicate->za7,all_nil->zba,map_nil->zbb,any_map->zbc
open Bool renaming and_eq_true->zai,false_eq_true->zam,or_false->zaW,and_true->za6,true_and->zbf
open Option.some renaming injEq->zan
open Array renaming getD_eq_getD_getElem?->zaz,getElem?_append->zaA
open List.cons renaming injEq->zaM
open Classical renaming choose_spec->zaZ
open List.Pairwise renaming nil->za8
open Prod renaming ext->zbe
open Decidable renaming em->zbi
namespace Go.Am
section
variable {B:Nat} {E:Ex} {w0 w w':World} {G G':Gh} {N:Nat} {h h':Nat->Option av}
variable {P:Program} {T:aZ} {a:Act} {σ σ':St} {Q:Exit->Act->World->Prop}
theorem R.asD (r:R B E w0 N σ a w G) {n j:Nat} {cs:List aj} {y:aj} (hn:σ.h n=some (.box cs)) (hy:∀v,w.cell? (ad (G.g n).b ((G.g n).o+j))=some v->RC w G σ.h y v) (hyr:∀m,y.ref m->σ.used m=true):
  R B E w0 N (σ.fx n (.box (cs.set j y))) a w G:=by
 have H:=r.hr;have cO:σ.h n≠none:=by rw[hn];simp
 obtain⟨b1,b2,b3⟩:=H.box n cs hn;have hg:aQ G.g n (G.g n)=G.g:=I9 _ _;have K:bW w G σ.h (fun n=>σ.used n=true) w ⟨G.Im,aQ G.g n (G.g n)⟩ (aQ σ.h n (some (.box (cs.set j y)))):=by
  rw[hg];refine⟨fun _ h=>h,fun _ _ _=>rfl,fun m _ hm=>⟨?_,rfl,rfl,rfl,rfl,rfl⟩,fun m gr sz xs _ hm=>?_⟩
  ·by_cases cG:m=n
   ·subst cG;exact cO
   ·rwa[dA _ _ _ _ cG] at hm
  ·by_cases cG:m=n
   ·subst cG;rw[cJ] at hm;cases hm
   ·rw[dA _ _ _ _ cG] at hm;exact⟨⟨gr,xs,hm⟩,fun k j pc h1 h2=>⟨pc,h1,rfl,h2⟩⟩
 have Hn:=H.put (w':=w) (used':=σ.used) (n:=n) (blk:=.box (cs.set j y)) (p:=G.g n) (fun _ _ _=>rfl) (zax _) (fun _ _ h=>h) (fun _ h=>h) (H.kN n cO) (fun hl=>H.own n cO hl)
  (fun hl m cG hm hml=>H.inj m n hm cO cG hml hl) (fun hl m gr sz xs cG hm b hb=>H.live m gr sz xs hm b hb n cO hl)
  (fun cs' c m hb hc hr=>by
   injection hb with hb;subst hb;rcases List.mem_or_eq_of_mem_set hc with hc|rfl
   ·exact H.jQ n cs c m hn hc hr
   ·exact hyr m hr) K
  (by
   refine⟨b1,b2,fun i c hi=>?_⟩;rw[List.getElem?_set] at hi;split at hi
   ·rename_i kO;subst kO;split at hi
    ·rename_i cD;injection hi with hi;subst hi;obtain⟨v,v1,v2,v3⟩:=b3 j cs[j] (zad cD);exact⟨v,v1,v2,(hy v v1).keep K hyr⟩
    ·cases hi
   ·obtain⟨v,v1,v2,v3⟩:=b3 i c hi;exact⟨v,v1,v2,v3.keep K fun m hm=>H.jQ n cs c m hn (zae hi) hm⟩)
  (fun gr m sz xs hb=>by cases hb) (fun gr sz xs hb=>by cases hb) (fun gr m sz xs hb=>by cases hb)
  (fun hl _ b ⟨m,gr,mo,sz,xs,_,hm,hb⟩=>H.y4 cO hl hm hb)
 rw[hg] at K Hn;exact r.step rfl (fun _ h=>h) K Hn r.fr
theorem R.mz (r:R B E w0 N σ a w G) (c:Nat) (m:Mode):R B E w0 N (σ.mz c m) a w G:=by
 unfold St.mz;cases m with
 |live=>exact r
 |bc=>exact r
 |aL=>
  simp only
  split
  ·rename_i gr rs xs hn;have hg:(⟨G.Im,aQ G.g c (G.g c)⟩:Gh)=G:=by
    have:aQ G.g c (G.g c)=G.g:=by funext q;rw[lc];split<;>simp[*]
    rw[this]
   have hr:=r.hr.row c gr .bc rs xs hn;have e0:∀q b,aQ σ.h c (some (.row gr .aL rs xs)) q=some b->q≠c->σ.h q=some b:=fun q b hq aE=>by rwa[dA _ _ _ _ aE] at hq
   have ne:∀q,aQ σ.h c (some (.row gr .aL rs xs)) q≠none->σ.h q≠none:=fun q hq=>by
    by_cases qU:q=c
    ·subst qU;rw[hn];simp
    ·rwa[dA _ _ _ _ qU] at hq
   have mT:∀q cc m' be az,aQ σ.h c (some (.row gr .aL rs xs)) q=some (.row cc m' be az)->m'≠ .aL->q≠c/\σ.h q=some (.row cc m' be az):=fun q cc m' be az hq hm=>by
    by_cases qU:q=c
    ·subst qU;rw[cJ] at hq;injection hq with hq;injection hq with _ hq _ _;exact absurd hq.symm hm
    ·exact⟨qU,e0 q _ hq qU⟩
   have K:bW w G σ.h (fun q=>σ.used q=true) w G (aQ σ.h c (some (.row gr .aL rs xs))):=
    ⟨fun _ h=>h,fun _ _ _=>rfl,fun q _ hq=>⟨ne q hq,rfl,rfl,rfl,rfl,rfl⟩,fun q cc be az _ hq=>by
     obtain⟨h1,h2⟩:=mT q cc .live be az hq (by simp);exact⟨⟨cc,az,h2⟩,fun k j pc a b=>⟨pc,a,rfl,b⟩⟩⟩
   have H:=r.hr;have Hn:HR B E w G (aQ σ.h c (some (.row gr .aL rs xs))) σ.used []:=by
    refine⟨fun q hq=>H.kN q (ne q hq),fun q cs y p hq=>?_,fun q cs hq=>?_,fun q cc m' be az hq=>?_,fun q hq=>H.own q (ne q hq),fun q q' hq gj=>H.inj q q' (ne q hq) (ne q' gj),H.jq,H.rW,
     fun q q' cc m' be az DZ m2 od ld hq gj hm oJ=>H.iF q q' cc m' be az DZ m2 od ld (mT _ _ _ _ _ hq hm).2 (mT _ _ _ _ _ gj oJ).2 hm oJ,
     fun q cc be az hq b hb q' gj=>H.live q cc be az (mT _ _ _ _ _ hq (by simp)).2 b hb q' (ne q' gj),(by intro i pc hi;simp at hi),(by intro i j pc eX b _ hi;simp at hi),(by intro i pc q cc m' be az b hi;simp at hi)⟩
    ·have qU:q≠c:=fun e=>by subst e;rw[cJ] at hq;cases hq
     exact H.jQ q cs y p (e0 q _ hq qU)
    ·have qU:q≠c:=fun e=>by subst e;rw[cJ] at hq;cases hq
     obtain⟨a1,a2,a3⟩:=H.box q cs (e0 q _ hq qU);refine⟨a1,a2,fun j y hj=>?_⟩;obtain⟨v,v1,v2,v3⟩:=a3 j y hj;exact⟨v,v1,v2,v3.keep K fun p hp=>H.jQ q cs y p (e0 q _ hq qU) (zae hj) hp⟩
    ·by_cases qU:q=c
     ·subst qU;rw[cJ] at hq;injection hq with hq;injection hq with h1 h2 h3 h4;subst h1 h2 h3 h4;exact⟨hr.pos,hr.er,hr.nl,hr.fN,hr.room,fun b hb=>(hr.mode.1 b hb).1⟩
     ·exact H.row q cc m' be az (e0 q _ hq qU)
   exact r.step rfl (fun _ h=>h) K Hn r.fr
  ·exact r
theorem R.Ir (r:R B E w0 N σ a w G) {x c:Nat} {m:Mode} (hx:(σ.bI x c).map (fun σ1=>σ1.mz c m)=some σ'):∃G',R B E w0 N σ' a w G':=by
 rw[zaw] at hx;obtain⟨σ1,e,rfl⟩:=hx;obtain⟨G',r'⟩:=r.bI e;exact⟨G',r'.mz c m⟩
theorem R.canon (r:R B E w0 N σ a w G) {x:Bool×Nat×Nat×Nat×Mode} (hx:σ.canon x=some σ'):∃G',R B E w0 N σ' a w G':=by
 obtain⟨b,n,j,c,m⟩:=x;have iN:some σ=some σ'->∃G',R B E w0 N σ' a w G':=fun h=>by injection h with h;subst h;exact⟨G,r⟩
 cases b with
 |true=>
  simp only[St.canon] at hx;split at hx
  ·rename_i cs hn;split at hx
   ·exact r.Ir hx
   ·rename_i sz hj;split at hx
    ·rename_i cX;split at hx
     ·rename_i σ1 e;injection hx with hx;subst hx;obtain⟨G1,r1,np⟩:=r.abm cX e;obtain⟨hu,rfl⟩:=pE e;have hnu:σ.used n=true:=r.hr.kN n (by rw[hn];simp);have xz:n≠c:=fun he=>by subst he;rw[hu] at hnu;cases hnu
      have nV:(aQ σ.h c (some (.row true m sz []))) n=some (.box cs):=by rw[dA _ _ _ _ xz];exact hn
      refine⟨G1,r1.asD nV (fun v hv=>?_) (fun q hq=>?_)⟩
      ·obtain⟨v',v1,v2,v3⟩:=(r1.hr.box n cs nV).2.2 j _ hj;rw[v1] at hv;injection hv with hv;subst hv;have v3':v'=.slice none 0 0:=v3;subst v3';exact np
      ·have gj:q=c:=hq;subst gj;exact cJ _ _ _
     ·cases hx
    ·exact iN hx
   ·exact iN hx
  ·exact iN hx
 |false=>
  simp only[St.canon] at hx;split at hx
  ·exact r.Ir hx
  ·rename_i sz hj;split at hx
   ·rename_i cX;split at hx
    ·rename_i σ1 e;injection hx with hx;subst hx;obtain⟨G1,r1,np⟩:=r.abm cX e;obtain⟨hu,rfl⟩:=pE e;have hv:=r1.env n;rw[show({σ with h:=aQ σ.h c (some (.row true m sz [])),used:=aQ σ.used c true}:St).env n=σ.env n from rfl,hj] at hv
     have gR:a.tmps.getD n undef=.slice none 0 0:=(hv.iV (by simp)).1;refine⟨G1,r1.defers,r1.size,fun s=>?_,fun s q hq=>?_,r1.hr,r1.fr,r1.qw,r1.Ca⟩
     ·show RA w G1 _ (aQ σ.env n _ s) _;by_cases hs:s=n
      ·subst hs;rw[cJ,gR];exact RA.il rfl np
      ·rw[dA _ _ _ _ hs];exact r1.env s
     ·have mM:(aQ σ.env n (.one (.sl c sz 0 0)) s).ref q:=hq;by_cases hs:s=n
      ·subst hs;rw[cJ] at mM;have gj:q=c:=mM;subst gj;exact cJ _ _ _
      ·rw[dA _ _ _ _ hs] at mM;exact r1.vh s q mM
    ·cases hx
   ·exact iN hx
  ·exact iN hx
theorem R.vu:∀{l:List (Bool×Nat×Nat×Nat×Mode)} {σ:St} {G:Gh},R B E w0 N σ a w G->σ.vu l=some σ'->∃G',R B E w0 N σ' a w G'
 |[],σ,G,r,hx=>by
  simp only[St.vu] at hx;injection hx with hx;subst hx;exact⟨G,r⟩
 |x::l,σ,G,r,hx=>by
  simp only[St.vu] at hx;split at hx
  ·rename_i σ1 e;obtain⟨G1,r1⟩:=r.canon e;exact R.vu r1 hx
  ·cases hx
theorem R.head (r:R B E w0 N σ a w G) {ke kh:List Nat} {cn:List (Bool×Nat×Nat×Nat×Mode)} (hx:σ.head ke kh cn=some σ'):∃G',R B E w0 N σ' a w G':=by
 unfold St.head at hx;split at hx
 ·rename_i σ1 e;injection hx with hx;subst hx;obtain⟨G1,r1⟩:=((r.kt ke kh).kt ke kh).vu e;exact⟨G1,r1.kt ke kh⟩
 ·cases hx
def kz (P:Program) (N:Nat):Code->kJ->Bool
 |c,.join _ _ _ mc=>kz P N c mc
 |.skip,.skip=>true
 |.region _ ops uv,.eF ai3 ms=>(uv==ai3)&&rE P N ops ops.toList ms&&(!uv||Lo ops.toList ms)
 |.region _ ops uv,.rl ps ms=>uv&&rE P N ops ops.toList ms&&Lp ps ops.toList ms
 |.seq x y,.seq mx my=>kz P N x mx&&kz P N y my
 |.cond c x y,.cond mc mx my=>cQ c mc&&kz P N x mx&&kz P N y my
 |.block id c,.block SJ mc=>(id==SJ)&&kz P N c mc
 |.loop c,.loop _ _ _ _ mc=>kz P N c mc
 |.exit id,.exit SJ=>id==SJ
 |.ret,.ret=>true
 |_,_=>false
def ahn (B:Nat) (E:Ex) (w0:World) (N:Nat) (Q:Exit->Act->World->Prop):ua->Prop
 |.gC σ=>∀a w G,R B E w0 N σ a w G->Q .normal a w
 |.ext id σ=>∀a w G,R B E w0 N σ a w G->Q (.exit id) a w
 |.ret σ=>∀a w G,R B E w0 N σ a w G->Q .ret a w
theorem lU (hT:o6 P T) (hm:P.follows .mixedOrders=true):∀(mc:kJ) {c:Code} {σ:St} {o:ua} {a:Act} {w:World} {G:Gh} {Q:Exit->Act->World->Prop},
  kz P N c mc=true->eC T mc σ=some o->R B E w0 N σ a w G->ahn B E w0 N Q o->c.wp P Q a w
 |.skip,c,σ,o,a,w,G,Q,hc,hx,r,hQ=>by
  cases c<;>simp only[kz] at hc<;>first|cases hc|skip
  simp only[eC] at hx;injection hx with hx;subst hx;exact wp_skip (hQ _ _ _ r)
 |.eF uv ms,c,σ,o,a,w,G,Q,hc,hx,r,hQ=>by
  cases c<;>simp only[kz] at hc<;>first|cases hc|skip
  simp only[zai,Bool.or_eq_true,beq_iff_eq] at hc;simp only[eC] at hx;split at hx
  ·rename_i σ1 e;injection hx with hx;subst hx;exact asG hT hm hc.1.2 (fun hd=>hc.2.resolve_left (by simp[hd])) e r hQ
  ·cases hx
 |.rl ps ms,c,σ,o,a,w,G,Q,hc,hx,r,hQ=>by
  cases c<;>simp only[kz] at hc<;>first|cases hc|skip
  simp only[zai] at hc;obtain⟨⟨hd,GW⟩,y9⟩:=hc;subst hd;simp only[eC] at hx;split at hx
  ·rename_i fs σ1 e;cases hp:xZ ps fs with
   |true=>
    rw[hp] at hx;injection hx with hx;subst hx;exact asF hT hm GW y9 e hp r hQ
   |false=>rw[hp] at hx;cases hx
  ·cases hx
 |.seq mx my,c,σ,o,a,w,G,Q,hc,hx,r,hQ=>by
  cases c<;>simp only[kz] at hc<;>first|cases hc|skip
  simp only[zai] at hc;simp only[eC] at hx;refine wp_seq ?_;cases e:eC T mx σ with
  |none=>rw[e] at hx;cases hx
  |some o1=>
   rw[e] at hx;cases o1 with
   |gC σ1=>exact lU hT hm mx hc.1 e r fun a w G r1=>lU hT hm my hc.2 hx r1 hQ
   |ext i σ1=>
    injection hx with hx;subst hx;exact lU hT hm mx hc.1 e r hQ
   |ret σ1=>
    injection hx with hx;subst hx;exact lU hT hm mx hc.1 e r hQ
 |.cond mc mx my,c,σ,o,a,w,G,Q,hc,hx,r,hQ=>by
  cases c<;>simp only[kz] at hc<;>first|cases hc|skip
  simp only[zai] at hc;simp only[eC] at hx;split at hx
  ·rename_i t ht;have h1:=(r.ev hc.1.1).1;rw[ht] at h1;refine wp_cond h1.Ds ?_;cases t with
   |true=>simp only[if_true] at hx⊢;exact lU hT hm mx hc.1.2 hx r hQ
   |false=>simp only[zam,if_false] at hx⊢;exact lU hT hm my hc.2 hx r hQ
  ·cases hx
 |.block id mc,c,σ,o,a,w,G,Q,hc,hx,r,hQ=>by
  cases c<;>simp only[kz] at hc<;>first|cases hc|skip
  simp only[zai,beq_iff_eq] at hc;obtain⟨rfl,hc⟩:=hc;simp only[eC] at hx;refine wp_block ?_;cases e:eC T mc σ with
  |none=>rw[e] at hx;cases hx
  |some o1=>
   rw[e] at hx;refine lU hT hm mc hc e r ?_;cases o1 with
   |gC σ1=>injection hx with hx;subst hx;exact hQ
   |ret σ1=>injection hx with hx;subst hx;exact hQ
   |ext i σ1=>
    simp only at hx;intro a w G r1;simp only[Exit.inBlock];split at hx
    ·rename_i hi;injection hx with hx;subst hx;rw[if_pos hi];exact hQ a w G r1
    ·rename_i hi;injection hx with hx;subst hx;rw[if_neg hi];exact hQ a w G r1
 |.join ke kh cn mc,c,σ,o,a,w,G,Q,hc,hx,r,hQ=>by
  have hc:kz P N c mc=true:=by cases c<;>exact hc
  simp only[eC] at hx;cases e:eC T mc σ with
  |none=>rw[e] at hx;cases hx
  |some o1=>
   rw[e] at hx;cases o1 with
   |gC σ1=>
    simp only at hx;split at hx
    ·rename_i σh e0;injection hx with hx;subst hx;exact lU hT hm mc hc e r fun a w G r1=>by
      obtain⟨G',r'⟩:=r1.head e0;exact hQ a w G' r'
    ·cases hx
   |ext i σ1=>
    injection hx with hx;subst hx;exact lU hT hm mc hc e r hQ
   |ret σ1=>
    injection hx with hx;subst hx;exact lU hT hm mc hc e r hQ
 |.loop id ke kh cn mc,c,σ,o,a,w,G,Q,hc,hx,r,hQ=>by
  cases c<;>simp only[kz] at hc<;>first|cases hc|skip
  rename_i c;simp only[eC] at hx;refine wp_loop_rounds aM ?_
  revert hx r
  generalize aM=n
  revert σ a w G
  induction n with
  |zero=>intro σ a w G hx r;simp[EM] at hx
  |succ n ih=>
   intro σ a w G hx r;simp only[EM] at hx;rw[rounds_succ];cases e0:σ.head ke kh cn with
   |none=>rw[e0] at hx;cases hx
   |some σh=>
    rw[e0] at hx;obtain⟨G',r'⟩:=r.head e0;cases e:eC T mc σh with
    |none=>simp only[e] at hx;cases hx
    |some o1=>
     simp only[e] at hx;refine lU hT hm mc hc e r' ?_;cases o1 with
     |gC σ1=>intro a w G r1;exact ih _ _ _ _ hx r1
     |ext i σ1=>injection hx with hx;subst hx;exact hQ
     |ret σ1=>injection hx with hx;subst hx;exact hQ
 |.exit id,c,σ,o,a,w,G,Q,hc,hx,r,hQ=>by
  cases c<;>simp only[kz] at hc<;>first|cases hc|skip
  have hid:=eq_of_beq hc;subst hid;simp only[eC] at hx;injection hx with hx;subst hx;exact wp_exit (hQ _ _ _ r)
 |.ret,c,σ,o,a,w,G,Q,hc,hx,r,hQ=>by
  cases c<;>simp only[kz] at hc<;>first|cases hc|skip
  simp only[eC] at hx;injection hx with hx;subst hx;exact wp_ret (hQ _ _ _ r)
end
inductive bZ where
 |tmp (t:Nat)
 |cell (t sz:Nat) (ag:Bool)
def oC (P:Program):List ResultVar->List bZ->Bool
 |[],[]=>true
 |.tmp t::rs,.tmp t'::ms=>(t==t')&&oC P rs ms
 |.cell a ty::rs,.cell a' sz ag::ms=>(a==a')&&Dz P ty ag sz&&oC P rs ms
 |_,_=>false
def St.tD (σ:St):List bZ->Option (List ao)
 |[]=>some []
 |.tmp t::ms=>match σ.tD ms with
  |some vs=>some (σ.env t::vs)
  |none=>none
 |.cell t sz ag::ms=>match σ.env t with
  |.one p=>match loadAt σ.h p sz,σ.tD ms with
   |some cs,some vs=>some (pT ag cs::vs)
   |_,_=>none
  |_=>none
def nD (h:Nat->Option av):aj->Option (C×List Nat)
 |.c x=>if x.gK=true then some (x,[]) else none
 |.nil sz=>if 0<sz then some (.list sz [],[]) else none
 |.sl n sz 0 len=>match h n with
  |some (.row true m rs xs)=>if rs=sz/\m≠ .aL/\len<=xs.length then some (.list sz (xs.take len),[n]) else none
  |_=>none
 |_=>none
def wz (h:Nat->Option av):List aj->Option (List C×List Nat)
 |[]=>some ([],[])
 |c::cs=>match nD h c,wz h cs with
  |some (x,ns),some (xs,mS)=>some (x::xs,ns++mS)
  |_,_=>none
def tG (h:Nat->Option av):List ao->Option (List Dv×List Nat)
 |[]=>some ([],[])
 |v::vs=>match v.cells? with
  |some (ag,cs)=>match wz h cs,tG h vs with
   |some (xs,ns),some (ds,mS)=>some ((if ag=true then(K.agg,xs) else(K.one,xs))::ds,ns++mS)
   |_,_=>none
  |none=>none
def St.ww (σ:St) (ms:List bZ):Option (List Dv):=
 match σ.tD ms with
 |some vs=>match tG σ.h vs with
  |some (ds,ns)=>if ns.Nodup then some ds else none
  |none=>none
 |none=>none
section
variable {B:Nat} {E:Ex} {w0 w w':World} {G G':Gh} {N:Nat} {h h':Nat->Option av} {used:Nat->Bool}
variable {P:Program} {T:aZ} {a:Act} {σ σ':St}
def pi (G:Gh) (n b:Nat):Prop:=((G.g n).nl=false/\b=(G.g n).b)\/bH b (G.g n).px
theorem HR.aap (H:HR B E w G h used []) {n n':Nat} (aE:n≠n') {gr cc:Bool} {m m':Mode} {sz be:Nat} {xs az:List (List C)} (h1:h n=some (.row gr m sz xs)) (h2:h n'=some (.row cc m' be az))
  (hm:m≠ .aL) (cF:m'≠ .aL) {b:Nat} (hb:pi G n b):¬pi G n' b:=by
 have e1:h n≠none:=by rw[h1];simp
 have e2:h n'≠none:=by rw[h2];simp
 have own:∀{p q:Nat} {gr:Bool} {m:Mode} {sz:Nat} {xs:List (List C)},h p≠none->h q=some (.row gr m sz xs)->m≠ .aL->(G.g p).nl=false->¬bH (G.g p).b (G.g q).px:=by
  intro p q gr m sz xs hp hq hm hl hF;have iv:=(H.row q gr m sz xs hq).mode;cases m with
  |aL=>exact hm rfl
  |bc=>exact(H.own p hp hl).1 (iv.1 _ hF).1
  |live=>exact H.live q gr sz xs hq _ hF p hp hl rfl
 rintro(⟨l2,rfl⟩|b2)
 ·rcases hb with⟨l1,b1⟩|b1
  ·exact H.inj n n' e1 e2 aE l1 l2 b1.symm
  ·exact own e2 h1 hm l2 b1
 ·rcases hb with⟨l1,rfl⟩|b1
  ·exact own e1 h2 cF l1 b2
  ·exact H.iF n n' gr m sz xs cc m' be az h1 h2 hm cF aE b b1 b2
structure Xu (B:Nat) (w:World) (G:Gh) (h:Nat->Option av) (ns:List Nat) (pc:PC):Prop where
 gx:Good w pc/\Sep pc/\F0 w pc
 new:∀b,lO b pc->(B<=b/\fy w b)/\∃n∈ns,pi G n b
def wU (h:Nat->Option av) (ns:List Nat):Prop:=∀n∈ns,∃gr m sz xs,h n=some (.row gr m sz xs)/\m≠ .aL
theorem HR.nD (H:HR B Ex.no w G h used []) {c:aj} {x:C} {ns:List Nat} {v:Value} (hx:nD h c=some (x,ns)) (hc:RC w G h c v):
  ∃pc:PC,pc.er=x/\pc.val=v/\Xu B w G h ns pc/\wU h ns:=by
 have noT:∀pc:PC,(∀sz a cap xs,pc≠ .list sz a cap xs)->∀b,¬lO b pc:=by
  intro pc hp b hb;rcases hb with hb|⟨sz,o,cap,xs,rfl,_⟩
  ·cases hb with
   |here sz o cap xs h=>exact hp _ _ _ _ rfl
   |there sz a cap xs k j c h1 h2=>exact hp _ _ _ _ rfl
  ·exact hp _ _ _ _ rfl
 cases c with
 |c y=>
  simp only[Am.nD] at hx;split at hx
  ·rename_i hs;injection hx with hx;injection hx with h1 h2;subst h1 h2;obtain⟨pc,p1,p2,p3,p4⟩:=hc;have dF:∀b,¬lO b pc:=noT pc (by rintro sz a cap xs rfl;rw[<-p1] at hs;simp[PC.fo,C.gK] at hs);have zl:F0 w pc:=by
    cases pc with
    |list sz a cap xs=>rw[<-p1] at hs;simp[PC.fo,C.gK] at hs
    |_=>trivial
   exact⟨pc,p1,p2,⟨⟨p3,(Sep.n9 (by rw[p1];exact hs)).1,zl⟩,fun b hb=>absurd hb (dF b)⟩,fun n hn=>by simp at hn⟩
  ·cases hx
 |nil sz=>
  simp only[Am.nD] at hx;split at hx
  ·rename_i ft;injection hx with hx;injection hx with h1 h2;subst h1 h2;have dO:v=.slice none 0 0:=hc;subst dO;have nq:Sep (.list sz none 0 []):=by
    refine .list _ _ _ _ ?_ ?_ ?_
    ·rintro k j c ⟨e,he,_⟩;simp at he
    ·rintro b o k j c _ ⟨e,he,_⟩;simp at he
    ·rintro k j c k' j' c' b ⟨e,he,_⟩;simp at he
   refine⟨.list sz none 0 [],by simp[PC.fo],rfl,⟨⟨.nil _ _ _ ft,nq,ft,by simp,.inl rfl⟩,fun b hb=>?_⟩,fun n hn=>by simp at hn⟩;rcases hb with hb|⟨_,_,_,_,hb,xm⟩
   ·rw[bD.nA] at hb;rcases hb with⟨hb,_⟩|⟨k,j,c,⟨e,he,_⟩,_⟩
    ·exact absurd rfl hb
    ·simp at he
   ·cases hb
  ·cases hx
 |sl n sz lo len=>
  cases lo with
  |succ lo=>simp[Am.nD] at hx
  |zero=>
   simp only[Am.nD] at hx;split at hx
   ·rename_i m rs xs hn;split at hx
    ·rename_i dP;obtain⟨rfl,hm,hl⟩:=dP;injection hx with hx;injection hx with h1 h2;subst h1 h2;have cO:h n≠none:=by rw[hn];simp
     have hr:=H.row n true m rs xs hn;have hs:lm (G.g n) rs 0 len v:=hc cO;obtain⟨a1,a2,a3,a4⟩:=II hr hs (by omega);have uJ:(∀b,bH b (G.g n).px->fy w b/\B<=b)/\kx (G.g n).px/\(∀b,bH b (G.g n).px->(G.g n).nl=false->b≠(G.g n).b):=by
      have eA:=hr.mode;cases m with
      |aL=>exact absurd rfl hm
      |bc=>exact⟨fun b hb=>⟨(eA.1 b hb).2.1,(eA.1 b hb).2.2.resolve_right id⟩,eA.2,fun b hb hl gh=>(H.own n cO hl).1 (gh▸(eA.1 b hb).1)⟩
      |live=>exact⟨fun b hb=>⟨(eA.1 b hb).2.1,(eA.1 b hb).2.2.resolve_right id⟩,eA.2,fun b hb hl=>H.live n true rs xs hn b hb n cO hl⟩
     obtain⟨o1,o2,o3⟩:=uJ;refine⟨nE (G.g n) rs 0 len v,by simpa using a1,a2,?_,fun q hq=>?_⟩
     ·rcases hs with⟨bq,rfl,_,rfl⟩|⟨bq,ad',rfl,kC,had⟩
      ·simp only[nE] at a3⊢;have hz:(List.take 0 (List.drop 0 (G.g n).px))=[]:=by simp
       have Lg:=(hr.nl bq).2 rfl;rw[hz,Lg] at a3⊢;have nq:Sep (.list rs (G.g n).na 0 []):=by
        refine .list _ _ _ _ ?_ ?_ ?_
        ·rintro k j c ⟨e,he,_⟩;simp at he
        ·rintro b o k j c _ ⟨e,he,_⟩;simp at he
        ·rintro k j c k' j' c' b ⟨e,he,_⟩;simp at he
       refine⟨⟨a3,nq,hr.pos,by simp,.inl rfl⟩,fun b hb=>?_⟩;rcases hb with hb|⟨_,_,_,_,hb,xm⟩
       ·rw[bD.nA] at hb;rcases hb with⟨hb,_⟩|⟨k,j,c,⟨e,he,_⟩,_⟩
        ·exact absurd rfl hb
        ·simp at he
       ·injection hb with _ _ hb _;exact absurd hb.symm xm
      ·obtain⟨r2,cur,e,r3,r4⟩:=hr.room bq rfl;have e0:=had (.inr rfl);have e0':ad'=some (ad (G.g n).b (G.g n).o):=by rw[e0];simp
       subst e0';simp only[nE,zaI] at a3 a4⊢;have Hk:=o2.sub 0 len;have ic:∀k j c,At ((List.drop 0 (G.g n).px).take len) k j c->At (G.g n).px k j c:=fun k j c hk=>by have:=(rA hk).1;simpa using this
       refine⟨⟨a3,.list _ _ _ _ Hk.1 (fun b o k j c gD hk hb=>?_) Hk.2,hr.pos,by simp;omega,.inr ⟨_,_,cur,e,rfl,r3,r4,r2,fun k j c hk hb=>?_⟩⟩,fun b hb=>?_⟩
       ·injection gD with gD;exact o3 b ⟨_,_,_,ic _ _ _ hk,hb⟩ bq (pZ gD).1.symm
       ·exact o3 _ ⟨_,_,_,ic _ _ _ hk,hb⟩ bq rfl
       ·have hf:pi G n b:=by
         rcases hb with hb|⟨_,_,_,_,hb,xm⟩
         ·exact a4 b hb
         ·injection hb with _ hb _ _;injection hb with hb;exact .inl ⟨bq,(pZ hb).1.symm⟩
        refine⟨?_,n,by simp,hf⟩;rcases hf with⟨_,rfl⟩|hF
        ·exact⟨((H.own n cO bq).2.1).resolve_right id,(hr.fN bq).1⟩
        ·exact⟨(o1 b hF).2,(o1 b hF).1⟩
     ·simp at hq;subst hq;exact⟨_,_,_,_,hn,hm⟩
    ·cases hx
   ·cases hx
 |ptr _ _ _ _=>simp[Am.nD] at hx
 |dr _ _=>simp[Am.nD] at hx
 |cN _ _ _ _ _ _=>simp[Am.nD] at hx
 |ct _ _ _ _ _ _=>simp[Am.nD] at hx
 |fn _ _=>simp[Am.nD] at hx
 |dY _ _ _ _ _ _=>simp[Am.nD] at hx
 |cd=>simp[Am.nD] at hx
structure vp (B:Nat) (w:World) (G:Gh) (h:Nat->Option av) (ns:List Nat) (ps:List PC):Prop where
 each:∀pc∈ps,Xu B w G h ns pc
 qc:ns.Nodup->ps.Pairwise fun p q=>∀b,lO b p->¬lO b q
theorem vp.append (H:HR B Ex.no w G h used []) {ns mS:List Nat} {ps ps':List PC} (h1:vp B w G h ns ps) (h2:vp B w G h mS ps') (n1:wU h ns) (n2:wU h mS):vp B w G h (ns++mS) (ps++ps'):=by
 refine⟨fun pc bA=>?_,fun hd=>?_⟩
 ·rcases zay.1 bA with hp|hp
  ·obtain⟨g,n⟩:=h1.each pc hp;exact⟨g,fun b hb=>⟨(n b hb).1,by obtain⟨k,hk,hf⟩:=(n b hb).2;exact⟨k,by simp[hk],hf⟩⟩⟩
  ·obtain⟨g,n⟩:=h2.each pc hp;exact⟨g,fun b hb=>⟨(n b hb).1,by obtain⟨k,hk,hf⟩:=(n b hb).2;exact⟨k,by simp[hk],hf⟩⟩⟩
 ·rw[List.nodup_append] at hd;rw[List.pairwise_append];refine⟨h1.qc hd.1,h2.qc hd.2.1,fun p hp q hq b hb bB=>?_⟩;obtain⟨k,hk,hf⟩:=((h1.each p hp).new b hb).2;obtain⟨k',dj,nh⟩:=((h2.each q hq).new b bB).2;obtain⟨_,_,_,_,e1,m1⟩:=n1 k hk;obtain⟨_,_,_,_,e2,m2⟩:=n2 k' dj;exact H.aap (hd.2.2 k hk k' dj) e1 e2 m1 m2 hf nh
theorem wU.append {ns mS:List Nat} (h1:wU h ns) (h2:wU h mS):wU h (ns++mS):=fun n hn=>(zay.1 hn).elim (h1 n) (h2 n)
theorem HR.wz (H:HR B Ex.no w G h used []):∀{cs:List aj} {xs:List C} {ns:List Nat} {vs:List Value},wz h cs=some (xs,ns)->dT w G h cs vs->
  ∃cu:List PC,cu.map PC.er=xs/\cu.map PC.val=vs/\vp B w G h ns cu/\wU h ns
 |[],xs,ns,vs,hx,hc=>by
  simp only[Am.wz] at hx;injection hx with hx;injection hx with h1 h2;subst h1 h2;have:vs=[]:=zak (by simpa using hc.1);subst this;exact⟨[],rfl,rfl,⟨by simp,fun _=>za8⟩,fun n hn=>by simp at hn⟩
 |c::cs,xs,ns,vs,hx,hc=>by
  simp only[Am.wz] at hx;split at hx
  ·rename_i x ns1 az ns2 e1 e2;injection hx with hx;injection hx with h1 h2;subst h1 h2;obtain⟨hlen,cV⟩:=hc;match vs,hlen with
   |v::vs,hlen=>
    obtain⟨pc,a1,a2,a3,a4⟩:=H.nD e1 (cV 0 c v rfl rfl).2;obtain⟨cu,b1,b2,b3,b4⟩:=H.wz e2 (cs:=cs) (vs:=vs) ⟨by simpa using hlen,fun j c u h1 h2=>cV (j+1) c u h1 h2⟩;have alP:vp B w G h ns1 [pc]:=⟨fun q hq=>by simp at hq;subst hq;exact a3,fun _=>by simp⟩;exact⟨pc::cu,by simp[a1,b1],by simp[a2,b2],vp.append H alP b3 a4 b4,a4.append b4⟩
  ·cases hx
theorem HR.tG (H:HR B Ex.no w G h used []):∀{xs:List ao} {ds:List Dv} {ns:List Nat} {vs:List Value},tG h xs=some (ds,ns)->vs.length=xs.length->
  (∀(j:Nat) (x:ao) (v:Value),xs[j]? =some x->vs[j]? =some v->RA w G h x v)->
  ∃bC:List (K×List PC),bC.map (fun p=>(p.1,p.2.map PC.er))=ds/\bC.map tH=vs/\(∀p∈bC,p.1≠ .ptr/\(p.1=.one->p.2.length=1))/\vp B w G h ns (bC.flatMap (·.2))/\wU h ns
 |[],ds,ns,vs,hx,hl,hc=>by
  simp only[Am.tG] at hx;injection hx with hx;injection hx with h1 h2;subst h1 h2;have:vs=[]:=zak (by simpa using hl);subst this;exact⟨[],rfl,rfl,by simp,⟨by simp,fun _=>za8⟩,fun n hn=>by simp at hn⟩
 |x::xs,ds,ns,vs,hx,hl,hc=>by
  simp only[Am.tG] at hx;split at hx
  ·rename_i ag cs m8;split at hx
   ·rename_i ys ns1 vC ns2 e1 e2;injection hx with hx;injection hx with h1 h2;subst h1 h2;match vs,hl with
    |v::vs,hl=>
     obtain⟨cu,a1,a2,a3,a4⟩:=H.wz e1 ((hc 0 x v rfl rfl).cells m8);obtain⟨bC,b1,b2,b3,b4,b5⟩:=H.tG e2 (xs:=xs) (vs:=vs) (by simpa using hl) (fun j x v h1 h2=>hc (j+1) x v h1 h2);have GN:=hc 0 x v rfl rfl;cases ag with
     |true=>
      have hv:tH (K.agg,cu)=v:=by
       cases x with
       |one c=>cases c<;>simp[ao.cells?] at m8
       |agg cs'=>
        obtain⟨us,e,_⟩:∃us:List Value,v=.agg us.toArray/\dT w G h cs' us:=GN;subst e;simp only[tH,a2];simp[Value.cells]
       |cf l=>simp[ao.cells?] at m8
      refine⟨(K.agg,cu)::bC,by simp[a1,b1],by simp[hv,b2],fun p hp=>?_,?_,a4.append b5⟩
      ·cases hp with
       |head=>exact⟨by simp,fun e=>by cases e⟩
       |tail _ hp=>exact b3 p hp
      ·simpa using vp.append H a3 b4 a4 b5
     |false=>
      have GW:∃c,x=.one c/\cs=[c]:=by
       cases x with
       |one c=>cases c<;>simp[ao.cells?] at m8<;>exact⟨_,rfl,m8.symm⟩
       |agg cs'=>simp[ao.cells?] at m8
       |cf l=>simp[ao.cells?] at m8
      obtain⟨c,rfl,rfl⟩:=GW;have iu:c≠ .cd:=by rintro rfl;simp[ao.cells?] at m8
      have h1c:=(GN.iV iu).2;have Bk:v.cells.toList=[v]:=by cases v<;>first|rfl|(simp[Value.oneCell'] at h1c)
      rw[Bk] at a2;match cu,a2 with
      |[pc],a2=>
       have hv:tH (K.one,[pc])=v:=by simpa[tH] using a2
       refine⟨(K.one,[pc])::bC,by simp[<-a1,b1],by simp[hv,b2],fun p hp=>?_,?_,a4.append b5⟩
       ·cases hp with
        |head=>exact⟨by simp,fun _=>rfl⟩
        |tail _ hp=>exact b3 p hp
       ·simpa using vp.append H a3 b4 a4 b5
   ·cases hx
  ·cases hx
end
def AK:Dv->ao
 |(.one,[x])=>.one (.c x)
 |(.one,_)=>.one .cd
 |(.agg,xs)=>.agg (xs.map .c)
 |(.ptr,xs)=>.one (.dr xs 0)
def v9:Nat->List Dv->(Nat->ao)
 |_,[]=>yU
 |k,d::ds=>aQ (v9 (k+1) ds) k (AK d)
def Hw (ds:List Dv):St:={env:=v9 0 ds,h:=DM,used:=fun n=>Nat.ble aD n}
def N1 (T:aZ) (mc:kJ) (ax:List bZ) (ds:List Dv):Option (List Dv):=
 match eC T mc (Hw ds) with
 |some (.gC σ)=>σ.ww ax
 |some (.ret σ)=>σ.ww ax
 |_=>none
section
variable {B:Nat} {E:Ex} {w0 w w':World} {G G':Gh} {N:Nat} {h h':Nat->Option av} {used:Nat->Bool}
variable {P:Program} {T:aZ} {a:Act} {σ σ':St} {Q:Exit->Act->World->Prop}
theorem SP:∀(ds:List Dv) (k n:Nat),v9 k ds n=if k<=n then(match ds[n - k]? with|some d=>AK d|none=>.one .cd) else .one .cd
 |[],k,n=>by simp[v9,yU]
 |d::ds,k,n=>by
  simp only[v9,lc,SP ds];by_cases h:n=k
  ·subst h;simp
  ·by_cases h2:k<=n
   ·have h3:k+1<=n:=by omega
    have h4:n - k=(n - (k+1))+1:=by omega
    simp[h,h2,h3,h4]
   ·have h3:¬k+1<=n:=by omega
    simp[h,h2,h3]
def Rk (w:World):Gh:=⟨fun b=>b<w.heap.size,fun _=>default⟩
theorem ahN {d:Dv} {v:Value} (hd:CO w d v):RA w (Rk w) DM (AK d) v:=by
 have cells:∀{cu:List PC},(∀pc∈cu,Good w pc)->dT w (Rk w) DM ((cu.map PC.er).map .c) (cu.map PC.val):=by
  intro cu hg;refine⟨by simp,fun j c u hj hu=>?_⟩;simp only[zag,zar] at hj hu;cases hp:cu[j]? with
  |none=>rw[hp] at hj;cases hj
  |some pc=>
   rw[hp] at hj hu;simp at hj hu;subst hj;subst hu;have hgp:=hg pc (zae hp);exact⟨PC.nG pc,pc,rfl,rfl,hgp,fun b hb=>hgp.lt hb⟩
 obtain⟨k,xs⟩:=d;cases k with
 |one=>
  obtain⟨cu,p1,p2,p3⟩:=hd;have p1:cu.map PC.er=xs:=p1;subst p1;match cu,p3 with
  |[pc],p3=>
   simp at p3;subst p3;exact RA.il (PC.nG pc) ⟨pc,rfl,rfl,p2 pc (by simp),fun b hb=>(p2 pc (by simp)).lt hb⟩
 |agg=>
  obtain⟨cu,p1,p2,p3⟩:=hd;have p1:cu.map PC.er=xs:=p1;subst p1;exact⟨_,p3,cells p2⟩
 |ptr=>
  obtain⟨cu,b,o,p1,p2,p3,p4⟩:=hd;have p1:cu.map PC.er=xs:=p1;subst p1 p2;exact RA.il rfl ⟨b,o,cu,by simp,rfl,p3,fun j c hj=>⟨(p4 j c hj).1,(p4 j c hj).2,fun b' bB=>(p4 j c hj).2.lt bB⟩⟩
theorem ahO {d:Dv} {m:Nat}:¬(AK d).ref m:=by
 obtain⟨k,xs⟩:=d;cases k with
 |one=>match xs with
  |[]=>exact id
  |[x]=>exact id
  |_::_::_=>exact id
 |agg=>
  rintro⟨c,hc,h⟩;obtain⟨y,_,rfl⟩:=zas.1 hc;exact h
 |ptr=>exact id
theorem R.init {ds:List Dv} {vals:List Value} (ha:Jh w ds vals) (hN:ds.length<=N):
  R w.heap.size Ex.no w N (Hw ds) {tmps:=vals.toArray++Array.replicate (N - vals.toArray.size) undef,defers:=[]} w (Rk w):=by
 obtain⟨hl,cV⟩:=ha;refine⟨rfl,by simp;omega,fun s=>?_,fun s n hn=>?_,?_,Fr.refl _ _ _ (zax _),fun n p b hp=>(by cases hp),fun n hn=>zap hn⟩
 ·show RA w _ DM (v9 0 ds s) _;rw[SP];simp only[zaT,if_true,zaI];cases hs:ds[s]? with
  |none=>exact Or.inl rfl
  |some d=>
   have kF:s<vals.length:=by rw[hl];exact(zah.1 hs).1
   have hv:vals[s]? =some vals[s]:=zad kF;have:(vals.toArray++Array.replicate (N - vals.toArray.size) undef).getD s undef=vals[s]:=by
    simp[zaz,zaA,kF]
   rw[this];exact ahN (cV s d _ hs hv)
 ·have bU:(v9 0 ds s).ref n:=hn;rw[SP] at bU;simp only[zaT,if_true,zaI] at bU;cases hs:ds[s]? with
  |none=>rw[hs] at bU;exact absurd bU id
  |some d=>rw[hs] at bU;exact absurd bU ahO
 ·have h0:∀n,(Hw ds).h n=none:=fun n=>rfl;refine⟨fun n hn=>absurd (h0 n) hn,fun m cs c n hm=>?_,fun n cs hn=>?_,fun n gr m sz xs hn=>?_,fun n hn=>absurd (h0 n) hn,fun n n' hn=>absurd (h0 n) hn,fun b hb=>hb,fun b _=>.inr (.inr trivial),
   fun n n' gr m sz xs cc m' be az hn=>?_,fun n gr sz xs hn=>?_,?_,?_,?_⟩
  ·rw[h0] at hm;cases hm
  ·rw[h0] at hn;cases hn
  ·rw[h0] at hn;cases hn
  ·rw[h0] at hn;cases hn
  ·rw[h0] at hn;cases hn
  ·intro i pc hi;simp at hi
  ·intro i j pc eX b _ hi;simp at hi
  ·intro i pc n gr m sz xs b hi;simp at hi
theorem as8 (r:R B E w0 N σ a w G) {t sz:Nat} {ag:Bool} {ty:TypeId} {p:aj} {cs:List aj} (jh:Dz P ty ag sz=true) (hp:σ.env t=.one p) (hx:loadAt σ.h p sz=some cs):
  ∃v,(x4 a.tmps (.cell t ty)).run P w=.ok v w/\RA w G σ.h (pT ag cs) v:=by
 have hv:=r.env t;have ma:=r.vh t;rw[hp] at hv ma;have ta:p≠ .cd:=by rintro rfl;simp[Am.loadAt] at hx
 obtain⟨b,of,vs,h1,h2,h3,h4,h5⟩:=r.hr.loadAt hx (hv.iV ta).1 (fun m hm=>ma m hm);have R5:∀n:Nat,n=vs.length->(loadCells (ad b of) n).run P w=.ok vs.toArray w:=fun n hn=>by
  subst hn;exact run_loadCells_list w (ad b of) vs (fun j u hj=>by rw[ud];exact h3 j u hj)
 unfold Dz at jh;cases hu:P.underlying ty with
 |none=>rw[hu] at jh;simp at jh
 |some d=>
  cases hi:P.info? ty with
  |none=>rw[hu,hi] at jh;cases d<;>simp at jh
  |some i=>
   rw[hu,hi] at jh;have cj:(ag=true/\i.size=sz/\(isAgg ty).run P w=.ok true w)\/(ag=false/\sz=1/\(isAgg ty).run P w=.ok false w):=by
    cases d<;>simp at jh<;>simp[isAgg,run_underlying hu,jh]
   rcases cj with⟨rfl,e1,e2⟩|⟨rfl,e1,e2⟩
   ·refine⟨.agg vs.toArray,?_,vs,rfl,h4⟩;simp[x4,h1,loadVar,asAddr,e2,sizeOf,typeInfo,hi,R5 i.size (by omega)]
   ·subst e1;match vs,h2 with
    |[u],_=>
     have gz:∃c,cs=[c]:=by
      have:=h4.1;match cs,this with
      |[c],_=>exact⟨c,rfl⟩
     obtain⟨c,rfl⟩:=gz;have jg:=h3 0 u rfl;simp only[za9] at jg;exact⟨u,by simp[x4,h1,loadVar,asAddr,e2,jg],.inr h4⟩
theorem It (r:R B E w0 N σ a w G):∀{rs:List ResultVar} {ms:List bZ} {vs:List ao},oC P rs ms=true->σ.tD ms=some vs->
  ∃us:List Value,(rs.mapM (x4 a.tmps)).run P w=.ok us w/\us.length=vs.length/\us.length=rs.length/\∀(j:Nat) (x:ao) (v:Value),vs[j]? =some x->us[j]? =some v->RA w G σ.h x v
 |[],[],vs,hc,hx=>by
  simp only[St.tD] at hx;injection hx with hx;subst hx;exact⟨[],by simp,rfl,rfl,by simp⟩
 |.tmp t::rs,.tmp t'::ms,vs,hc,hx=>by
  simp only[oC,zai,beq_iff_eq] at hc;obtain⟨rfl,hc⟩:=hc;simp only[St.tD] at hx;split at hx
  ·rename_i vs' e;injection hx with hx;subst hx;obtain⟨us,u1,u2,WV,u3⟩:=It r hc e;refine⟨a.tmps.getD t undef::us,by simp[x4,u1],by simp[u2],by simp[WV],fun j x v hj hv=>?_⟩;cases j with
   |zero=>simp only[zaU,zan] at hj hv;subst hj;subst hv;exact r.env t
   |succ j=>exact u3 j x v (by simpa using hj) (by simpa using hv)
  ·cases hx
 |.cell t ty::rs,.cell t' sz ag::ms,vs,hc,hx=>by
  simp only[oC,zai,beq_iff_eq] at hc;obtain⟨⟨rfl,jh⟩,hc⟩:=hc;simp only[St.tD] at hx;split at hx
  ·rename_i p hp;split at hx
   ·rename_i cs vs' e1 e2;injection hx with hx;subst hx;obtain⟨us,u1,u2,WV,u3⟩:=It r hc e2;obtain⟨v0,v1,v2⟩:=as8 r jh hp e1;refine⟨v0::us,by simp[v1,u1],by simp[u2],by simp[WV],fun j x v hj hv=>?_⟩;cases j with
    |zero=>simp only[zaU,zan] at hj hv;subst hj;subst hv;exact v2
    |succ j=>exact u3 j x v (by simpa using hj) (by simpa using hv)
   ·cases hx
  ·cases hx
 |[],_::_,_,hc,_=>by simp[oC] at hc
 |.tmp _::_,[],_,hc,_=>by simp[oC] at hc
 |.cell _ _::_,[],_,hc,_=>by simp[oC] at hc
 |.tmp _::_,.cell _ _ _::_,_,hc,_=>by simp[oC] at hc
 |.cell _ _::_,.tmp _::_,_,hc,_=>by simp[oC] at hc
theorem arX {bC:List (K×List PC)}:E0 (bC.map tH)=wB bC:=by
 match bC with
 |[]=>rfl
 |[p]=>rfl
 |p::q::bC=>rfl
theorem Uw (r:R B Ex.no w0 N σ a w G) {fn:Func} {ms:List bZ} {ds:List Dv} (hc:oC P fn.results.toList ms=true) (hx:σ.ww ms=some ds):
  ∃bC:List (K×List PC),bC.map (fun p=>(p.1,p.2.map PC.er))=ds/\(results fn a.tmps).run P w=.ok (wB bC) w/\(∀p∈bC,p.1≠ .ptr/\(p.1=.one->p.2.length=1))/\
   AH w B (bC.flatMap (·.2)):=by
 unfold St.ww at hx;split at hx
 ·rename_i vs e1;split at hx
  ·rename_i vC ns e2;split at hx
   ·rename_i fP;injection hx with hx;subst hx;obtain⟨us,u1,u2,_,u3⟩:=It r hc e1;obtain⟨bC,p1,p2,p3,p4,p5⟩:=r.hr.tG e2 u2 u3;refine⟨bC,p1,?_,p3,⟨fun pc bA=>(p4.each pc bA).gx,fun pc bA b hb=>((p4.each pc bA).new b hb).1,fun i j pc eX b kO hi hj hb=>?_⟩⟩
    ·rw[N7 fn a.tmps u1,<-p2,arX]
    ·have hp:=p4.qc fP;rw[zaO] at hp;obtain⟨li,ei⟩:=zah.1 hi;obtain⟨lj,ej⟩:=zah.1 hj;subst ei;subst ej;rcases za3 kO with cD|cD
     ·exact hp i j li lj cD b hb
     ·exact fun bB=>hp j i lj li cD b bB hb
   ·cases hx
  ·cases hx
 ·cases hx
theorem ash (hT:o6 P T) (hm:P.follows .mixedOrders=true) {f:FuncId} {fn:Func} {c:Code} {mc:kJ} {ms:List bZ} {M:List Dv->Option (List Dv)} (hf:P.funcs[f]? =some fn) (hb:fn.body=some c)
  (hc:kz P fn.ntmps c mc=true) (hr:oC P fn.results.toList ms=true) (hM:∀ds rs,M ds=some rs->ds.length<=fn.ntmps/\N1 T mc ms ds=some rs):eY P f M:=by
 intro ds rs lW w vals ha;obtain⟨hN,cP⟩:=hM ds rs lW;refine calls_of_wp hf hb ?_;have r0:=R.init (N:=fn.ntmps) ha hN;unfold N1 at cP;have fin:∀{σ:St} {a:Act} {w':World} {G:Gh},σ.ww ms=some rs->R w.heap.size Ex.no w fn.ntmps σ a w' G->a.defers=[]/\∃v,(results fn a.tmps).run P w'=.ok v w'/\
   ∃bC:List (K×List PC),bC.map (fun p=>(p.1,p.2.map PC.er))=rs/\(Ending.returned v)=.returned (wB bC)/\(∀p∈bC,p.1≠ .ptr/\(p.1=.one->p.2.length=1))/\
   AH w' w.heap.size (bC.flatMap (·.2))/\Fr w.heap.size Ex.no w w':=by
  intro σ a w' G hx r;obtain⟨bC,p1,p2,p3,p4⟩:=Uw r hr hx;exact⟨r.defers,_,p2,bC,p1,rfl,p3,p4,r.fr⟩
 split at cP
 ·rename_i σ e;exact lU hT hm mc hc e r0 fun a w' G r=>fin cP r
 ·rename_i σ e;exact lU hT hm mc hc e r0 fun a w' G r=>fin cP r
 ·cases cP
end

def jA:Nat->List (Option Mode)->List C->List aj
 |c,some _::fs,.list sz xs::cs=>.sl (aD+c) sz 0 xs.length::jA (c+1) fs cs
 |c,some _::fs,x::cs=>.cd::jA (c+1) fs cs
 |c,none::fs,x::cs=>.c x::jA c fs cs
 |c,[],cs=>cs.map .c
 |c,_::_,[]=>[]
def F5 (c:Nat) (s:List (Option Mode)) (xs:List C):aj:=
 match s with
 |[]=>.dr xs 0
 |_::_=>match xs.getLast? with
  |some (.list sz l)=>.cN xs 0 (xs.length - 1) (aD+c) sz l.length
  |_=>.cd
def rz (c:Nat) (s:List (Option Mode)):Dv->ao
 |(.one,xs)=>match jA c s xs with
  |[x]=>.one x
  |_=>.one .cd
 |(.agg,xs)=>.agg (jA c s xs)
 |(.ptr,xs)=>.one (F5 c s xs)
def oL:Nat->Nat->aU->List Dv->(Nat->ao)
 |_,_,_,[]=>yU
 |k,c,[],d::ds=>aQ (oL (k+1) c [] ds) k (rz c [] d)
 |k,c,s::sig,d::ds=>aQ (oL (k+1) (c+(fF s d.2).length) sig ds) k (rz c s d)
def mT:Mode×C->Option av
 |(m,.list sz xs)=>some (.row false m sz xs)
 |_=>none
def pD (sig:aU) (ds:List Dv):St:=
 {env:=oL 0 0 sig ds
  h:=fun n=>if aD<=n then((dX sig (ds.map (·.2)))[n - aD]?).bind mT else none
  used:=fun n=>Nat.ble aD n}
def St.lH (σ:St):St:={σ with h:=fun n=>if aD<=n then none else σ.h n}
def B8 (σ:St) (q:Nat) (x:Mode×C):Option C:=
 match x.2,σ.h (aD+q) with
 |.list sz xs,some (.row _ m' be az)=>if m'=x.1/\be=sz/\az.length=xs.length/\vF x.1 az=true/\az.map (fun e=>e.map C.ti)=xs.map (fun e=>e.map C.ti) then some (.list sz az) else none
 |_,_=>none
def wq (σ:St):Nat->List (Mode×C)->Option (List C)
 |_,[]=>some []
 |q,x::l=>match B8 σ q x,wq σ (q+1) l with
  |some y,some ys=>some (y::ys)
  |_,_=>none
def St.wA (σ:St) (ms:List bZ) (fl:List (Mode×C)):Option (List Dv×List C):=
 match σ.lH.ww ms,wq σ 0 fl with
 |some rs,some dK=>some (rs,dK)
 |_,_=>none
def N2 (T:aZ) (mc:kJ) (ax:List bZ) (sig:aU) (ds:List Dv):Option (List Dv×List C):=
 match eC T mc (pD sig ds) with
 |some (.gC σ)=>σ.wA ax (dX sig (ds.map (·.2)))
 |some (.ret σ)=>σ.wA ax (dX sig (ds.map (·.2)))
 |_=>none
section
variable {B:Nat} {E:Ex} {w0 w w':World} {G G':Gh} {N:Nat} {h h':Nat->Option av} {used:Nat->Bool}
variable {P:Program} {T:aZ} {a:Act} {σ σ':St} {Q:Exit->Act->World->Prop}
def pL:PC->PB
 |.list _ a cap []=>⟨true,0,0,cap,[],a⟩
 |.list _ (some a) cap (e::xs)=>⟨false,a.block,a.off,cap,e::xs,none⟩
 |_=>default
theorem E2 (sz:Nat) (a:Option Addr) (cap:Nat):pL (.list sz a cap [])=⟨true,0,0,cap,[],a⟩:=by
 cases a<;>rfl
theorem wu {sz b o cap:Nat} {xs:List (List PC)} (h:xs≠[]):pL (.list sz (some (ad b o)) cap xs)=⟨false,b,o,cap,xs,none⟩:=by
 cases xs with
 |nil=>exact absurd rfl h
 |cons e xs=>rfl
theorem Good.cases {w:World} {sz cap:Nat} {a:Option Addr} {xs:List (List PC)} (h:Good w (.list sz a cap xs)):xs=[]\/(xs≠[]/\xs.length<=cap/\∃b o,a=some (ad b o)):=by
 cases h with
 |nil _ _ _ h=>exact .inl rfl
 |cons _ b o _ _ h1 h2=>exact .inr ⟨h1,h2,b,o,rfl⟩
def sR (fl:List (Mode×PC)):Ex:=
 ⟨fun b=>∃x∈fl,bD b x.2,fun n=>if aD<=n then(fl[n - aD]?).map fun x=>pL x.2 else none,fun n p h=>(by
  by_cases hn:aD<=n
  ·exact hn
  ·rw[if_neg hn] at h;cases h),fun _=>True⟩
def nR (w:World) (fl:List (Mode×PC)):Gh:=
 ⟨fun b=>b<w.heap.size/\¬∃x∈fl,bD b x.2,fun n=>match fl[n - aD]? with|some x=>pL x.2|none=>default⟩
def qf (fl:List (Mode×PC)):Nat->Option av:=fun n=>if aD<=n then((fl.map fun x=>(x.1,x.2.er))[n - aD]?).bind mT else none
theorem sZ {fl:List (Mode×PC)} {n:Nat} {blk:av} (hn:qf fl n=some blk):aD<=n/\∃m sz a cap xs,fl[n - aD]? =some (m,.list sz a cap xs)/\blk=.row false m sz (xs.map fun e=>e.map PC.er):=by
 unfold qf at hn;split at hn
 ·rename_i hp;refine⟨hp,?_⟩;rw[zag] at hn;cases hf:fl[n - aD]? with
  |none=>rw[hf] at hn;cases hn
  |some x=>
   rw[hf] at hn;obtain⟨m,pc⟩:=x;cases pc with
   |int k i=>simp[PC.er,mT] at hn
   |bool b=>simp[PC.er,mT] at hn
   |list sz a cap xs=>
    simp[PC.fo,mT] at hn;exact⟨m,sz,a,cap,xs,rfl,hn.symm⟩
 ·cases hn
theorem lO.I7 (b o sz cap:Nat) (xs:List (List PC)) (hc:cap≠0):lO b (.list sz (some (ad b o)) cap xs):=.inr ⟨_,_,_,_,rfl,hc⟩
theorem lO.row {b sz:Nat} {a:Option Addr} {cap:Nat} {xs:List (List PC)} (h:bH b xs):lO b (.list sz a cap xs):=by
 obtain⟨k,j,c,hk,hc⟩:=h;exact .inl (.there _ _ _ _ k j c hk hc)
theorem Sep.row {sz:Nat} {a:Option Addr} {cap:Nat} {xs:List (List PC)} (h:Sep (.list sz a cap xs)):kx xs:=by
 cases h with
 |list _ _ _ _ h1 h2 h3=>exact⟨h1,h3⟩
theorem Good.rowAt {sz b o cap:Nat} {xs:List (List PC)} (h:Good w (.list sz (some (ad b o)) cap xs)):ry w b o sz xs:=by
 generalize hq:PC.list sz (some (ad b o)) cap xs=q at h;cases h with
 |int k n=>cases hq
 |bool b=>cases hq
 |nil be a nO h0=>
  injection hq with h1 h2 h3 h4;subst h4;exact⟨by simp,by rintro k j c ⟨e,he,_⟩;simp at he,by rintro k j c ⟨e,he,_⟩;simp at he⟩
 |cons be b' o' nO az h1 h2 h3 h4 h5 h6=>
  injection hq with e1 e2 e3 e4;injection e2 with e2;obtain⟨rfl,rfl⟩:=pZ e2;subst e1 e3 e4;exact⟨h4,h5,h6⟩
theorem HR.Hv {fl:List (Mode×PC)} (hg:∀x∈fl,Good w x.2) (gi:∀x∈fl,AF w x.1 x.2) (rS:fl.Pairwise fun x y=>∀b,bD b x.2->¬bD b y.2):
  HR w.heap.size (sR fl) w (nR w fl) (qf fl) (fun n=>Nat.ble aD n) []:=by
 have qc:∀{i j:Nat} {x y:Mode×PC},fl[i]? =some x->fl[j]? =some y->i≠j->∀b,bD b x.2->¬bD b y.2:=by
  intro i j x y hi hj kO b hb bB;obtain⟨li,ei⟩:=zah.1 hi;obtain⟨lj,ej⟩:=zah.1 hj;rw[zaO] at rS;subst ei;subst ej;rcases za3 kO with h|h
  ·exact rS i j li lj h b hb bB
  ·exact rS j i lj li h b bB hb
 have gg:∀{n:Nat} {x:Mode×PC},fl[n - aD]? =some x->(nR w fl).g n=pL x.2:=by intro n x h;simp only[nR,h]
 have I7:∀{x:Mode×PC},x∈fl->(pL x.2).nl=false->bD (pL x.2).b x.2:=by
  intro x hx hl;obtain⟨sz,a,cap,xs,e,_,_,_⟩:=(gi x hx).fN;have Bp:=hg x hx;rw[e] at hl Bp⊢;rcases Bp.cases with rfl|⟨aE,_,b,o,rfl⟩
  ·rw[E2] at hl;cases hl
  ·rw[wu aE];exact .here _ _ _ _ aE
 have Uz:∀{x:Mode×PC},x∈fl->∀b,bH b (pL x.2).px->bD b x.2:=by
  intro x hx b hb;obtain⟨sz,a,cap,xs,e,_,_,_⟩:=(gi x hx).fN;have Bp:=hg x hx;rw[e] at hb Bp⊢;rcases Bp.cases with rfl|⟨aE,_,b,o,rfl⟩
  ·rw[E2] at hb;obtain⟨k,j,c,⟨e,he,_⟩,_⟩:=hb;simp at he
  ·rw[wu aE] at hb;obtain⟨k,j,c,hk,hc⟩:=hb;exact .there _ _ _ _ k j c hk hc
 have sub:∀{n n':Nat},aD<=n->aD<=n'->n≠n'->n - aD≠n' - aD:=by intro n n' h1 h2 h3;omega
 refine⟨fun n hn=>?_,fun m cs c n hm=>?_,fun n cs hn=>?_,fun n gr m sz xs hn=>?_,fun n hn hl=>?_,fun n n' hn bU aE hl eN=>?_,fun b hb=>hb.1,fun b _=>.inr (.inr trivial),fun n n' gr m sz xs cc m' be az hn bU _ _ aE b hb=>?_,
  fun n gr sz xs hn b hb n' bU eN=>?_,(by intro i pc hi;simp at hi),(by intro i j pc eX b _ hi;simp at hi),(by intro i pc n gr m sz xs b hi;simp at hi)⟩
 ·cases hh:qf fl n with
  |none=>exact absurd hh hn
  |some b=>exact zap (sZ hh).1
 ·obtain⟨_,m',sz,a,cap,xs,_,e⟩:=sZ hm;cases e
 ·obtain⟨_,m',sz,a,cap,xs,_,e⟩:=sZ hn;cases e
 ·obtain⟨hp,m',be,a,cap,az,hf,e⟩:=sZ hn;injection e with e1 e2 e3 e4;subst e1 e2 e3 e4;have hx:(m,PC.list sz a cap az)∈fl:=zae hf;have ok:=gi _ hx;have gx:=hg _ hx;obtain⟨od,a2,Lh,ld,e,ft,pw,s7⟩:=ok.fN;injection e with e1 e2 e3 e4;subst e1 e2 e3 e4;rw[gg hf];have UC:∀b,bH b az->bD b (PC.list sz a cap az):=fun b ⟨k,j,c,hk,hc⟩=>.there _ _ _ _ k j c hk hc;have iv:JS w.heap.size (sR fl) w (nR w fl) az m:=by
   have nq:=Sep.row ok.sep;cases m with
   |aL=>cases s7
   |bc=>exact⟨fun b hb=>absurd hb (Fg s7 b),nq⟩
   |live=>exact⟨fun b hb=>⟨fun hi=>hi.2 ⟨_,hx,UC b hb⟩,ok.un b (UC b hb),.inr ⟨_,hx,UC b hb⟩⟩,nq⟩
  rcases gx.cases with rfl|⟨aE,kC,b,o,rfl⟩
  ·rw[E2];exact⟨ft,rfl,fun _=>⟨rfl,fun h=>by cases h⟩,(fun h=>by cases h),(fun h=>by cases h),iv⟩
  ·rw[wu aE];exact⟨ft,rfl,(fun h=>by cases h),fun _=>⟨ok.un b (.here _ _ _ _ aE),Good.rowAt gx,kC⟩,(fun _ h=>by cases h),iv⟩
 ·cases hh:qf fl n with
  |none=>exact absurd hh hn
  |some blk=>
   obtain⟨hp,m',be,a,cap,az,hf,e⟩:=sZ hh;have hx:(m',PC.list be a cap az)∈fl:=zae hf;rw[gg hf] at hl⊢;have ht:=I7 hx hl;exact⟨fun hi=>hi.2 ⟨_,hx,ht⟩,.inr ⟨_,hx,ht⟩,((gi _ hx).un _ ht).lt⟩
 ·cases hh:qf fl n with
  |none=>exact absurd hh hn
  |some blk=>
   cases G8:qf fl n' with
   |none=>exact absurd G8 bU
   |some ah6=>
    obtain⟨hp,m1,rm,a1,rC,tZ,hf,_⟩:=sZ hh;obtain⟨bJ,m2,od,a2,Lh,ld,nh,_⟩:=sZ G8;rw[gg hf] at hl⊢;rw[gg nh] at eN⊢;intro he;exact qc hf nh (sub hp bJ aE) _ (I7 (zae hf) hl) (he▸I7 (zae nh) eN)
 ·obtain⟨hp,m1,rm,a1,rC,tZ,hf,_⟩:=sZ hn;obtain⟨bJ,m2,od,a2,Lh,ld,nh,_⟩:=sZ bU;rw[gg hf] at hb;rw[gg nh];exact fun bB=>qc hf nh (sub hp bJ aE) b (Uz (zae hf) b hb) (Uz (zae nh) b bB)
 ·obtain⟨hp,m1,rm,a1,rC,tZ,hf,_⟩:=sZ hn;rw[gg hf] at hb;cases G8:qf fl n' with
  |none=>exact absurd G8 bU
  |some ah6=>
   obtain⟨bJ,m2,od,a2,Lh,ld,nh,_⟩:=sZ G8;rw[gg nh] at eN⊢;rintro rfl;by_cases aE:n=n'
   ·subst aE;rw[hf] at nh;injection nh with nh;injection nh with _ nh;injection nh with q1 q2 q3 q4;subst q1 q2 q3 q4;have hm:=zae hf;obtain⟨sz,a,cap,xs,e,_,pw,_⟩:=(gi _ hm).fN;have Bp:=hg _ hm;injection e with e1 e2 e3 e4;subst e1 e2 e3 e4;rcases Bp.cases with rfl|⟨aE,_,b,o,rfl⟩
    ·rw[E2] at eN;cases eN
    ·rw[wu aE] at hb;exact pw b o rfl hb
   ·exact qc hf nh (sub hp bJ aE) _ (Uz (zae hf) _ hb) (I7 (zae nh) eN)
end
section
variable {B:Nat} {E:Ex} {w0 w w':World} {G G':Gh} {N:Nat} {h h':Nat->Option av} {used:Nat->Bool}
variable {P:Program} {T:aZ} {a:Act} {σ σ':St} {Q:Exit->Act->World->Prop}
theorem QN {α:Type}:∀{s:List (Option Mode)} {xs:List α} {x:Mode×α},x∈fF s xs->x.2∈xs
 |some m::fs,y::xs,x,h=>by
  simp only[fF,zao] at h;rcases h with rfl|h
  ·simp
  ·exact za1 _ (QN h)
 |none::fs,y::xs,x,h=>by
  simp only[fF] at h;exact za1 _ (QN h)
 |[],_,x,h=>by simp[fF] at h
 |some m::fs,[],x,h=>by simp[fF] at h
 |none::fs,[],x,h=>by simp[fF] at h
theorem Gz {α:Type}:∀{sig:aU} {xss:List (List α)} {x:Mode×α},x∈dX sig xss->∃xs∈xss,x.2∈xs
 |s::sig,xs::xss,x,h=>by
  simp only[dX,zay] at h;rcases h with h|h
  ·exact⟨xs,by simp,QN h⟩
  ·obtain⟨ys,h1,h2⟩:=Gz h;exact⟨ys,by simp[h1],h2⟩
 |[],_,x,h=>by simp[dX] at h
 |s::sig,[],x,h=>by simp[dX] at h
theorem K7 {fl:List (Mode×PC)} (gi:∀x∈fl,AF w x.1 x.2) (hg:∀x∈fl,Good w x.2):∀(c:Nat) (fs:List (Option Mode)) (ps:List PC),(∀(q:Nat) (x:Mode×PC),(fF fs ps)[q]? =some x->fl[c+q]? =some x)->(∀pc∈ps,Good w pc)->
  (∀pc∈pU fs ps,∀x∈fl,∀b,bD b pc->¬bD b x.2)->dT w (nR w fl) (qf fl) (jA c fs (ps.map PC.er)) (ps.map PC.val)
 |c,[],ps,hq,gA,hu=>by
  simp only[jA];refine⟨by simp,fun j x u hj nX=>?_⟩;simp only[zag,zar] at hj nX;cases hp:ps[j]? with
  |none=>rw[hp] at hj;cases hj
  |some pc=>
   rw[hp] at hj nX;simp at hj nX;subst hj;subst nX;have hm:=zae hp;exact⟨PC.nG pc,pc,rfl,rfl,gA pc hm,fun b hb=>⟨(gA pc hm).lt hb,fun⟨x,hx,e8⟩=>hu pc (by simpa[pU] using hm) x hx b hb e8⟩⟩
 |c,f::fs,[],hq,gA,hu=>by
  cases f<;>exact⟨rfl,by intro j c u hj;simp[jA] at hj⟩
 |c,none::fs,p::ps,hq,gA,hu=>by
  have ih:=K7 gi hg c fs ps (fun q x h=>hq q x (by simpa[fF] using h)) (fun pc h=>gA pc (by simp[h])) (fun pc h=>hu pc (by simp[pU,h]));simp only[zac,jA];refine⟨by simp[ih.1],fun j x u hj nX=>?_⟩;cases j with
  |zero=>
   simp at hj nX;subst hj;subst nX;exact⟨PC.nG p,p,rfl,rfl,gA p (by simp),fun b hb=>⟨(gA p (by simp)).lt hb,fun⟨x,hx,e8⟩=>hu p (by simp[pU]) x hx b hb e8⟩⟩
  |succ j=>exact ih.2 j x u (by simpa using hj) (by simpa using nX)
 |c,some m::fs,p::ps,hq,gA,hu=>by
  have h0:=hq 0 (m,p) (by simp[fF]);simp only[za9] at h0;have qi:=zae h0;obtain⟨sz,a,cap,xs,e,ft,pw,s7⟩:=(gi _ qi).fN;simp only at e;subst e;have ih:=K7 gi hg (c+1) fs ps (fun q x h=>by have:=hq (q+1) x (by simpa[fF] using h);rwa[show c+(q+1)=c+1+q by omega] at this) (fun pc h=>gA pc (by simp[h])) (fun pc h=>hu pc (by simpa[pU] using h));simp only[zac,PC.fo,jA];refine⟨by simp[ih.1],fun j x u hj nX=>?_⟩;cases j with
  |zero=>
   simp at hj nX;subst hj;subst nX;refine⟨PC.nG _,fun _=>?_⟩;have G7:(nR w fl).g (aD+c)=pL (.list sz a cap xs):=by simp only[nR,zav,h0]
   rw[G7];rcases(hg _ qi).cases with rfl|⟨aE,kC,b,o,rfl⟩
   ·rw[E2];exact .inl ⟨rfl,rfl,rfl,rfl⟩
   ·rw[wu aE];exact .inr ⟨rfl,some (ad b o),by simp[PC.val],by simpa using kC,fun _=>by simp⟩
  |succ j=>exact ih.2 j x u (by simpa using hj) (by simpa using nX)
theorem XU {fl:List (Mode×PC)} (gi:∀x∈fl,AF w x.1 x.2) (hg:∀x∈fl,Good w x.2) {c:Nat} {s:List (Option Mode)} {d:Dv} {v:Value} {p:PA} (hA:wJ w d v p)
  (hq:∀(q:Nat) (x:Mode×PC),(fF s p.ps)[q]? =some x->fl[c+q]? =some x) (hu:∀pc∈pU s p.ps,∀x∈fl,∀b,bD b pc->¬bD b x.2) (hp:p.k=.ptr->zS s p.ps.length/\∀x∈fl,¬bD p.b x.2):
  RA w (nR w fl) (qf fl) (rz c s d) v:=by
 obtain⟨k,ps,b,o⟩:=p;obtain⟨rfl,gA,hv⟩:=hA;cases k with
 |one=>
  have hv:ps.map PC.val=[v]:=hv;have hl:=K7 gi hg c s ps hq gA hu;rw[hv] at hl;simp only[rz];obtain⟨x,hx⟩:∃x,jA c s (ps.map PC.er)=[x]:=by
   have:=hl.1;match hh:jA c s (ps.map PC.er),this with
   |[x],_=>exact⟨x,rfl⟩
  rw[hx] at hl⊢;exact .inr hl
 |agg=>
  have hv:v=.agg (ps.map PC.val).toArray:=hv;exact⟨_,hv,K7 gi hg c s ps hq gA hu⟩
 |ptr=>
  obtain⟨h1,h2,h3⟩:v=.pointer (some (ad b o))/\b<w.heap.size/\∀j c,ps[j]? =some c->w.cell? (ad b (o+j))=some c.val:=hv;obtain⟨hs,xC⟩:=hp rfl;subst h1;rcases hs with rfl|⟨j,hj,rfl⟩
  rotate_left
  ·obtain⟨qs,q,rfl⟩:∃qs q,ps=qs++[q]:=⟨ps.dropLast,ps.getLast (by intro e;rw[e] at hj;simp at hj),(List.dropLast_concat_getLast _).symm⟩;have nU:qs.length=j:=by
    have:(qs++[q]).length=j+1:=hj;rw[za4] at this;simpa using this
   subst nU;rw[Zo] at hq;rw[agW] at hu;have h0:=hq 0 (.bc,q) rfl;rw[za9] at h0;have qi:=zae h0;obtain⟨sz,a,cap,xs,e,ft,pw,s7⟩:=(gi _ qi).fN;simp only at e;subst e;have e1:rz c (List.replicate qs.length none++[some .bc]) (K.ptr,(qs++[PC.list sz a cap xs]).map PC.er)=.one (.cN ((qs++[PC.list sz a cap xs]).map PC.er) 0 qs.length (aD+c) sz xs.length):=by
    have aE:List.replicate qs.length (none:Option Mode)++[some .bc]≠[]:=by simp
    simp only[rz,F5];split
    ·rename_i hh;exact absurd hh aE
    ·simp[PC.fo]
   rw[e1];have alB:=h3 qs.length (PC.list sz a cap xs) (by simp);refine RA.il rfl ⟨b,o,qs++[PC.list sz a cap xs],by simp,rfl,⟨h2,fun⟨x,hx,e8⟩=>xC x hx e8⟩,fun i c' kO hi=>?_,_,alB,PC.nG _,fun _=>?_⟩
   ·have e7:qs[i]? =some c':=by
     by_cases cD:i<qs.length
     ·rwa[zaP cD] at hi
     ·have:=(zah.1 hi).1;rw[za4] at this;simp at this;omega
    have hm:=zae e7;have cF:c'∈qs++[PC.list sz a cap xs]:=List.mem_append_left _ hm;exact⟨h3 i c' hi,gA c' cF,fun b' bB=>⟨(gA c' cF).lt bB,fun⟨x,hx,e8⟩=>hu c' hm x hx b' bB e8⟩⟩
   ·have G7:(nR w fl).g (aD+c)=pL (.list sz a cap xs):=by simp only[nR,zav,h0]
    rw[G7];rcases(hg _ qi).cases with rfl|⟨aE,kC,b,o,rfl⟩
    ·rw[E2];exact .inl ⟨rfl,rfl,rfl,rfl⟩
    ·rw[wu aE];exact .inr ⟨rfl,some (ad b o),by simp[PC.val],by simpa using kC,fun _=>by simp⟩
  refine RA.il rfl ⟨b,o,ps,by simp,rfl,⟨h2,fun⟨x,hx,e8⟩=>xC x hx e8⟩,fun j c hj=>?_⟩;have hm:=zae hj;exact⟨h3 j c hj,gA c hm,fun b' bB=>⟨(gA c hm).lt bB,fun⟨x,hx,e8⟩=>hu c (by simpa[pU] using hm) x hx b' bB e8⟩⟩
theorem SM {fl:List (Mode×PC)} (gi:∀x∈fl,AF w x.1 x.2) (hg:∀x∈fl,Good w x.2):∀(ds:List Dv) (k c:Nat) (sig:aU) (vals:List Value) (pas:List PA),vals.length=ds.length->pas.length=ds.length->
  (∀(i:Nat) (d:Dv) (v:Value) (p:PA),ds[i]? =some d->vals[i]? =some v->pas[i]? =some p->wJ w d v p)->(∀(q:Nat) (x:Mode×PC),(dX sig (pas.map (·.ps)))[q]? =some x->fl[c+q]? =some x)->
  (∀pc∈nF sig (pas.map (·.ps)),∀x∈fl,∀b,bD b pc->¬bD b x.2)->(∀p∈pas,p.k=.ptr->∀x∈fl,¬bD p.b x.2)->(∀(i:Nat) (p:PA) (s:List (Option Mode)),pas[i]? =some p->sig[i]? =some s->p.k=.ptr->zS s p.ps.length)->
  ∀s,RA w (nR w fl) (qf fl) (oL k c sig ds s) (if k<=s then vals.getD (s - k) undef else undef)
 |[],k,c,sig,vals,pas,l1,l2,hA,hq,hu,hp,hs,s=>by simp only[oL];exact Or.inl rfl
 |d::ds,k,c,sig,v::vals,p::pas,l1,l2,hA,hq,hu,hp,hs,s=>by
  have l1':vals.length=ds.length:=by simpa using l1
  have l2':pas.length=ds.length:=by simpa using l2
  have A0:=hA 0 d v p rfl rfl rfl;have A1:=fun i d' v' p' (h1:ds[i]? =some d') (h2:vals[i]? =some v') (h3:pas[i]? =some p')=>hA (i+1) d' v' p' (by simpa using h1) (by simpa using h2) (by simpa using h3);have gA:=A0.2.1;have hd2:d.2=p.ps.map PC.er:=by rw[A0.1]
  have shift:∀x:ao,(s≠k->RA w (nR w fl) (qf fl) x (if k+1<=s then vals.getD (s - (k+1)) undef else undef))->s≠k->RA w (nR w fl) (qf fl) x (if k<=s then(v::vals).getD (s - k) undef else undef):=by
   intro x hx xG;have:=hx xG;by_cases hk:k+1<=s
   ·rw[if_pos hk] at this;rw[if_pos (by omega),show s - k=(s - (k+1))+1 by omega];simpa using this
   ·rw[if_neg hk] at this;rw[if_neg (by omega)];exact this
  cases sig with
  |nil=>
   simp only[oL];by_cases xG:s=k
   ·subst xG;rw[cJ,if_pos (zax _)];simp only[zbg,za2];refine XU gi hg A0 (fun q x h=>by simp[fF] at h) (fun pc bA=>hu pc ?_) (fun e=>⟨.inl rfl,hp p (by simp) e⟩);simp only[pU] at bA;simp[nF,bA]
   ·rw[dA _ _ _ _ xG];refine shift _ (fun _=>SM gi hg ds (k+1) c [] vals pas l1' l2' A1 (fun q x h=>by simp[dX] at h) (fun pc bA=>hu pc ?_) (fun p bJ=>hp p (by simp[bJ])) (fun i p s _ h=>by simp at h) s) xG;simp only[nF] at bA;simp only[zac,nF,List.flatten_cons,zay];exact .inr bA
  |cons sg sig=>
   simp only[oL];have hlen:(fF sg d.2).length=(fF sg p.ps).length:=by rw[hd2,LX,zaf]
   by_cases xG:s=k
   ·subst xG;rw[cJ,if_pos (zax _)];simp only[zbg,za2];refine XU gi hg A0 (fun q x h=>hq q x ?_) (fun pc bA=>hu pc ?_) (fun e=>⟨hs 0 p sg rfl rfl e,hp p (by simp) e⟩)
    ·simp only[zac,dX];rw[zaP (zah.1 h).1];exact h
    ·simp only[zac,nF,zay];exact .inl bA
   ·rw[dA _ _ _ _ xG];refine shift _ (fun _=>SM gi hg ds (k+1) (c+(fF sg d.2).length) sig vals pas l1' l2' A1 (fun q x h=>?_) (fun pc bA=>hu pc ?_) (fun p bJ=>hp p (by simp[bJ])) (fun i p s h1 h2=>hs (i+1) p s (by simpa using h1) (by simpa using h2)) s) xG
    ·have:=hq ((fF sg p.ps).length+q) x (by
      simp only[zac,dX];rw[List.getElem?_append_right (zaX _ _),zav];exact h)
     rw[hlen,Nat.add_assoc];exact this
    ·simp only[zac,nF,zay];exact .inr bA
 |_::_,k,c,sig,[],pas,l1,l2,hA,hq,hu,hp,hs,s=>by simp at l1
 |_::_,k,c,sig,_::_,[],l1,l2,hA,hq,hu,hp,hs,s=>by simp at l2
theorem XV {c:Nat} {s:List (Option Mode)} {d:Dv} {m:Nat} (h:(rz c s d).ref m):aD<=m:=by
 have cI:∀(cs:List C) (c:Nat) (s:List (Option Mode)),∀x∈jA c s cs,x.ref m->aD<=m:=by
  intro cs;induction cs with
  |nil=>
   intro c s x hx;cases s with
   |nil=>simp[jA] at hx
   |cons f fs=>cases f<;>simp[jA] at hx
  |cons y cs ih=>
   intro c s x hx hr;cases s with
   |nil=>
    simp only[jA,zas] at hx;obtain⟨z,_,rfl⟩:=hx;exact absurd hr id
   |cons f fs=>
    cases f with
    |none=>
     simp only[jA,zao] at hx;rcases hx with rfl|hx
     ·exact absurd hr id
     ·exact ih _ _ _ hx hr
    |some md=>
     cases y with
     |list sz xs=>
      simp only[jA,zao] at hx;rcases hx with rfl|hx
      ·have hr:m=aD+c:=hr;omega
      ·exact ih _ _ _ hx hr
     |int k n=>
      simp only[jA,zao] at hx;rcases hx with rfl|hx
      ·exact absurd hr id
      ·exact ih _ _ _ hx hr
     |bool b=>
      simp only[jA,zao] at hx;rcases hx with rfl|hx
      ·exact absurd hr id
      ·exact ih _ _ _ hx hr
 obtain⟨k,xs⟩:=d;cases k with
 |one=>
  simp only[rz] at h;match hh:jA c s xs,h with
  |[],h=>exact absurd h id
  |[x],h=>exact cI xs c s x (by rw[hh];simp) h
  |_::_::_,h=>exact absurd h id
 |agg=>
  obtain⟨x,hx,hr⟩:=h;exact cI xs c s x hx hr
 |ptr=>
  simp only[rz,F5] at h;split at h
  ·exact absurd h id
  ·split at h
   ·have h':m=aD+c:=h;omega
   ·exact absurd h id
theorem SN:∀{ds:List Dv} {k c:Nat} {sig:aU} {s m:Nat},(oL k c sig ds s).ref m->aD<=m
 |[],k,c,sig,s,m,h=>by simp only[oL] at h;exact absurd h id
 |d::ds,k,c,[],s,m,h=>by
  simp only[oL,lc] at h;split at h
  ·exact XV h
  ·exact SN h
 |d::ds,k,c,sg::sig,s,m,h=>by
  simp only[oL,lc] at h;split at h
  ·exact XV h
  ·exact SN h
theorem R.Hv {sig:aU} {ds:List Dv} {vals:List Value} {pas:List PA} (M:yE w sig ds vals pas) (hN:ds.length<=N):
  R w.heap.size (sR (dX sig (pas.map (·.ps)))) w N (pD sig ds) {tmps:=vals.toArray++Array.replicate (N - vals.toArray.size) undef,defers:=[]} w (nR w (dX sig (pas.map (·.ps)))):=by
 have lW:ds.map (·.2)=(pas.map (·.ps)).map fun l=>l.map PC.er:=by
  apply zaR;intro i;simp only[zag];cases hd:ds[i]? with
  |none=>
   have:ds.length<=i:=zaQ.1 hd;rw[zau (by rw[M.l2];exact this)];rfl
  |some d=>
   have hi:=(zah.1 hd).1;have hv:vals[i]? =some (vals[i]'(by rw[M.l1];exact hi)):=zad _;have hp:pas[i]? =some (pas[i]'(by rw[M.l2];exact hi)):=zad _;have:=(M.at_ i d _ _ hd hv hp).1;rw[hp];simp only[zab];rw[this]
 have gA:∀p∈pas,∀pc∈p.ps,Good w pc:=by
  intro p hp pc bA;obtain⟨i,hi,rfl⟩:=zaE hp;have hd:ds[i]? =some (ds[i]'(by rw[<-M.l2];exact hi)):=zad _;have hv:vals[i]? =some (vals[i]'(by rw[M.l1,<-M.l2];exact hi)):=zad _;exact(M.at_ i _ _ _ hd hv (zad hi)).2.1 pc bA
 have hg:∀x∈dX sig (pas.map (·.ps)),Good w x.2:=by
  intro x hx;obtain⟨l,hl,qW⟩:=Gz hx;obtain⟨p,hp,rfl⟩:=zas.1 hl;exact gA p hp _ qW
 have Ee:(pD sig ds).h=qf (dX sig (pas.map (·.ps))):=by
  funext n;simp only[pD,qf,lW,DT]
 refine⟨rfl,by simp[M.l1];omega,fun s=>?_,fun s n hn=>zap (SN hn),?_,Fr.refl _ _ _ (zax _),fun n p b hp hb=>?_,fun n hn=>zap hn⟩
 ·rw[Ee];have:=SM M.ok hg ds 0 0 sig vals pas M.l1 M.l2 M.at_ (fun q x h=>by rw[zbh];exact h) M.free M.ptr M.aqZ s;simp only[zaT,if_true,zaI] at this;have e:(vals.toArray++Array.replicate (N - vals.toArray.size) undef).getD s undef=vals.getD s undef:=by
   simp only[zaz,zaN];by_cases cD:s<vals.length
   ·simp[zaA,cD]
   ·rw[zau (by omega)];simp only[zaA,List.size_toArray,cD,if_false,Array.getElem?_replicate];split<;>rfl
  rw[e];exact this
 ·rw[Ee];exact HR.Hv hg M.ok M.qc
 ·rw[Ee] at hb;obtain⟨Se,m,sz,a,cap,xs,hf,e⟩:=sZ hb;have bJ:(if aD<=n then((dX sig (pas.map (·.ps)))[n - aD]?).map (fun x=>pL x.2) else none)=some p:=hp
  rw[if_pos Se,hf] at bJ;simp at bJ;subst bJ;have G7:(nR w (dX sig (pas.map (·.ps)))).g n=pL (.list sz a cap xs):=by simp only[nR,hf]
  rw[G7];exact⟨rfl,rfl,rfl,rfl,rfl,fun gr be az _ k j pc hk hL=>⟨pc,hk,rfl,hL⟩⟩
theorem NP:∀{fl:List (Mode×C)} {q:Nat} {dK:List C},wq σ q fl=some dK->dK.length=fl.length/\∀i x,fl[i]? =some x->∃o,dK[i]? =some o/\B8 σ (q+i) x=some o
 |[],q,dK,h=>by simp only[wq] at h;injection h with h;subst h;exact⟨rfl,by simp⟩
 |y::l,q,dK,h=>by
  simp only[wq] at h;split at h
  ·rename_i o os h1 h2;injection h with h;subst h;obtain⟨i1,i2⟩:=NP h2;refine⟨by simp[i1],fun i x hx=>?_⟩;cases i with
   |zero=>simp at hx;subst hx;exact⟨o,rfl,h1⟩
   |succ i=>
    obtain⟨o',e1,e2⟩:=i2 i x (by simpa using hx);exact⟨o',by simpa using e1,by rw[show q+(i+1)=q+1+i by omega];exact e2⟩
  ·cases h
theorem ard {q:Nat} {x:Mode×C} {o:C} (h:B8 σ q x=some o):∃sz xs gr az,x.2=.list sz xs/\σ.h (aD+q)=some (.row gr x.1 sz az)/\az.length=xs.length/\vF x.1 az=true/\az.map (fun e=>e.map C.ti)=xs.map (fun e=>e.map C.ti)/\o=.list sz az:=by
 unfold B8 at h;split at h
 ·rename_i sz xs gr m' be az h1 h2;split at h
  ·rename_i hc;obtain⟨rfl,rfl,h3,h4,h5⟩:=hc;injection h with h;exact⟨_,xs,gr,az,h1,h2,h3,h4,h5,h.symm⟩
  ·cases h
 ·cases h
theorem aiN {px:List (List PC)} (hd:(px.map fun e=>e.map PC.er).all (fun e=>e.all C.vB)=true) {k j:Nat} {c:PC} (hk:At px k j c):∀sz a cap ys,c=.list sz a cap ys->∀b,¬bH b ys:=by
 rintro sz a cap ys rfl b;obtain⟨e,he,hj⟩:=hk;simp only[zaC,zas] at hd;have h1:=hd (e.map PC.er) ⟨e,zae he,rfl⟩ (PC.er (.list sz a cap ys)) (zas.2 ⟨_,zae hj,rfl⟩);rw[PC.fo] at h1;exact Fg h1 b
theorem PC.amR (c:PC):c.er.ti=c.jG:=by
 cases c with
 |int k n=>rfl
 |bool b=>rfl
 |list sz a cap xs=>rw[PC.fo];rfl
theorem atD {px px':List (List PC)} (hs:(px'.map fun e=>e.map PC.er).map (fun e=>e.map C.ti)=(px.map fun e=>e.map PC.er).map (fun e=>e.map C.ti)) {k j:Nat} {c:PC} (hk:At px' k j c):
  ∃c0,At px k j c0/\c0.jG=c.jG:=by
 obtain⟨e,he,hj⟩:=hk;have h1:=congrArg (fun l=>l[k]?) hs;simp only[zag,he,zab] at h1;cases h0:px[k]? with
 |none=>rw[h0] at h1;cases h1
 |some e0=>
  rw[h0] at h1;simp only[zab,zan] at h1;have h2:=congrArg (fun l=>l[j]?) h1;simp only[zag,hj,zab] at h2;cases h3:e0[j]? with
  |none=>rw[h3] at h2;cases h2
  |some c0=>
   rw[h3] at h2;simp only[zab,zan,PC.amR] at h2;exact⟨c0,⟨e0,h0,h3⟩,h2.symm⟩
theorem At.inj {α:Type} {px:List (List α)} {k j:Nat} {c c':α} (h:At px k j c) (h':At px k j c'):c=c':=by
 obtain⟨e,h1,h2⟩:=h;obtain⟨e',h3,h4⟩:=h';rw[h1] at h3;injection h3 with h3;subst h3;rw[h2] at h4;injection h4
theorem abW {px px':List (List PC)} (hd:(px.map fun e=>e.map PC.er).all (fun e=>e.all C.vB)=true)
  (hl:∀k j pc,At px k j pc->pc.jG=true->∃eX,At px' k j eX/\eX.val=pc.val/\eX.jG=true) {b:Nat} (hb:bH b px):bH b px':=by
 obtain⟨k,j,c,hk,hc⟩:=hb;cases c with
 |int k n=>exact absurd hc bD.aq3
 |bool x=>exact absurd hc bD.aq2
 |list sz a cap ys=>
  have s7:=aiN hd hk sz a cap ys rfl;rw[bD.nA] at hc;rcases hc with⟨aE,o,rfl⟩|⟨k',j',c',dj,dO⟩
  ·obtain⟨c',h1,h2,h3⟩:=hl k j _ hk rfl;cases c' with
   |int k n=>cases h3
   |bool x=>cases h3
   |list be a' nO ys'=>
    simp only[PC.val] at h2;injection h2 with e1 e2 e3;subst e1;refine⟨k,j,_,h1,?_⟩;rw[bD.nA];refine .inl ⟨fun alM=>?_,o,rfl⟩;subst alM;exact aE (zak e2.symm)
  ·exact absurd ⟨k',j',c',dj,dO⟩ (s7 b)
end
section
variable {B:Nat} {E:Ex} {w0 w w':World} {G G':Gh} {N:Nat} {h h':Nat->Option av} {used:Nat->Bool}
variable {P:Program} {T:aZ} {a:Act} {σ σ':St} {Q:Exit->Act->World->Prop}
theorem xX {n:Nat} {b:av} (hn:σ.lH.h n=some b):¬aD<=n/\σ.h n=some b:=by
 unfold St.lH at hn;simp only at hn;split at hn
 ·cases hn
 ·rename_i h;exact⟨h,hn⟩
theorem EW {n:Nat} (hn:σ.lH.h n≠none):¬aD<=n/\σ.h n≠none:=by
 cases h:σ.lH.h n with
 |none=>exact absurd h hn
 |some b=>obtain⟨a,e⟩:=xX h;exact⟨a,by rw[e];simp⟩
theorem bW.lH (u:Nat->Prop):bW w G σ.h u w G σ.lH.h:=
 ⟨fun _ h=>h,fun _ _ _=>rfl,fun n _ hn=>⟨(EW hn).2,rfl,rfl,rfl,rfl,rfl⟩,fun n gr sz xs _ hn=>⟨⟨gr,xs,(xX hn).2⟩,fun k j pc h1 h2=>⟨pc,h1,rfl,h2⟩⟩⟩
theorem R.lH (r:R B E w0 N σ a w G) (hE:∀b,E b->∃n gr m sz xs,aD<=n/\σ.h n=some (.row gr m sz xs)/\m≠ .aL/\pi G n b/\(m=.bc->¬bH b (G.g n).px)):
  R B Ex.no w N σ.lH a w G:=by
 have H:=r.hr;have K:bW w G σ.h (fun n=>σ.used n=true) w G σ.lH.h:=bW.lH _;have big:∀n,¬aD<=n->σ.h n≠none->(G.g n).nl=false->¬E (G.g n).b:=by
  intro n hn h0 hl hb;obtain⟨q,gr,m,sz,xs,hq,h1,h2,h3,h4⟩:=hE _ hb;have aE:n≠q:=fun e=>hn (e▸hq);have qj:σ.h q≠none:=by rw[h1];simp
  rcases h3 with⟨l,e⟩|h3
  ·exact H.inj n q h0 qj aE hl l e
  ·cases m with
   |aL=>exact h2 rfl
   |bc=>exact h4 rfl h3
   |live=>exact H.live q gr sz xs h1 _ h3 n h0 hl rfl
 have X7:∀n gr m sz xs,¬aD<=n->σ.h n=some (.row gr m sz xs)->m≠ .aL->∀b,bH b (G.g n).px->¬E b:=by
  intro n gr m sz xs hn h0 hm b hb he;obtain⟨q,cc,m',be,az,hq,h1,h2,h3,h4⟩:=hE _ he;have aE:n≠q:=fun e=>hn (e▸hq);exact H.aap aE h0 h1 hm h2 (.inr hb) h3
 refine⟨r.defers,r.size,fun s=>(r.env s).keep K fun m hm=>r.vh s m hm,r.vh,?_,Fr.refl _ _ _ r.fr.size,fun n p b hp=>(by cases hp),r.Ca⟩;refine⟨fun n hn=>H.kN n (EW hn).2,fun m cs c n hm hc hr=>H.jQ m cs c n (xX hm).2 hc hr,fun n cs hn=>?_,fun n gr m sz xs hn=>?_,fun n hn hl=>?_,fun n n' hn bU=>H.inj n n' (EW hn).2 (EW bU).2,
  H.jq,fun b _=>.inr (.inr trivial),fun n n' gr m sz xs cc m' be az hn bU=>H.iF n n' gr m sz xs cc m' be az (xX hn).2 (xX bU).2,fun n gr sz xs hn b hb n' bU=>H.live n gr sz xs (xX hn).2 b hb n' (EW bU).2,?_,?_,?_⟩
 ·obtain⟨a1,a2,a3⟩:=H.box n cs (xX hn).2;refine⟨a1,a2,fun j c hj=>?_⟩;obtain⟨v,b1,b2,b3⟩:=a3 j c hj;exact⟨v,b1,b2,b3.keep K fun q hq=>H.jQ n cs c q (xX hn).2 (zae hj) hq⟩
 ·obtain⟨hp,h0⟩:=xX hn;have hr:=H.row n gr m sz xs h0;refine⟨hr.pos,hr.er,hr.nl,hr.fN,hr.room,?_⟩;have hm:=hr.mode;cases m with
  |aL=>exact hm
  |bc=>exact⟨fun b hb=>⟨(hm.1 b hb).1,(hm.1 b hb).2.1,(hm.1 b hb).2.2.imp id fun he=>absurd he (X7 n gr .bc sz xs hp h0 (by simp) b hb)⟩,hm.2⟩
  |live=>exact⟨fun b hb=>⟨(hm.1 b hb).1,(hm.1 b hb).2.1,(hm.1 b hb).2.2.imp id fun he=>absurd he (X7 n gr .live sz xs hp h0 (by simp) b hb)⟩,hm.2⟩
 ·obtain⟨hp,h0⟩:=EW hn;obtain⟨o1,o2,o3⟩:=H.own n h0 hl;exact⟨o1,o2.imp id fun he=>absurd he (big n hp h0 hl),o3⟩
 ·intro i pc hi;simp at hi
 ·intro i j pc eX b _ hi;simp at hi
 ·intro i pc n gr m sz xs b hi;simp at hi
theorem akX {m:Mode} {px:List (List PC)} (hf:vF m (px.map fun e=>e.map PC.er)=true):(m=.bc->∀b,¬bH b px)/\m≠ .aL/\(m=.live->(px.map fun e=>e.map PC.er).all (fun e=>e.all C.vB)=true):=by
 cases m with
 |aL=>cases hf
 |bc=>exact⟨fun _ b=>Fg hf b,(by simp),fun h=>(by cases h)⟩
 |live=>exact⟨fun h=>(by cases h),(by simp),fun _=>hf⟩
theorem F3 {fl:List (Mode×PC)} (gi:∀x∈fl,AF w0 x.1 x.2) (hg:∀x∈fl,Good w0 x.2) (r:R B (sR fl) w0 N σ a w G) {dK:List C} (ho:wq σ 0 (fl.map fun x=>(x.1,x.2.er))=some dK)
  {i:Nat} {x:Mode×PC} (hx:fl[i]? =some x):∃q o,dK[i]? =some o/\q.er=o/\rv w x.1 x.2 q/\
   ∃gr sz xs,σ.h (aD+i)=some (.row gr x.1 sz xs)/\(∀b,bD b x.2->pi G (aD+i) b)/\(x.1=.bc->∀b,¬bH b (G.g (aD+i)).px)/\x.1≠ .aL:=by
 obtain⟨m,pc⟩:=x;have qi:=zae hx;obtain⟨o1,o2⟩:=NP ho;obtain⟨o,e1,e2⟩:=o2 i (m,pc.er) (by rw[zag,hx];rfl);rw[zbh] at e2;obtain⟨sz,xs,gr,az,f1,f2,f3,f4,f5,rfl⟩:=ard e2;have ok:=gi _ qi;have alx:=hg _ qi;obtain⟨vb,a0,cap,Iq,rfl,ft,pw,s7⟩:=ok.fN;simp only[PC.fo] at f1;injection f1 with f1a f1b;subst f1a;subst f1b;have hr:=r.hr.row _ gr m vb az f2;have vR:(sR fl).qw (aD+i)=some (pL (.list vb a0 cap Iq)):=by
  show(if aD<=aD+i then(fl[aD+i - aD]?).map (fun x=>pL x.2) else none)=_
  rw[if_pos (zaX _ _),zav,hx];rfl
 obtain⟨p1,p2,p3,p4,p6,p5⟩:=r.qw _ _ _ vR f2;have Eb:az=(G.g (aD+i)).px.map fun e=>e.map PC.er:=hr.er;have LW:=f4;simp only at LW;rw[Eb] at LW;obtain⟨q1,q2,q3⟩:=akX LW;have hlen:(G.g (aD+i)).px.length=Iq.length:=by
  have:=f3;rw[Eb] at this;simpa using this
 have aaY:kx (G.g (aD+i)).px:=by
  have hm:=hr.mode;cases m with
  |aL=>exact absurd rfl q2
  |bc=>exact hm.2
  |live=>exact hm.2
 have aE:σ.h (aD+i)≠none:=by rw[f2];simp
 rcases alx.cases with rfl|⟨iH,kC,b,o,rfl⟩
 ·have aaW:(G.g (aD+i)).px=[]:=zak (by rw[hlen];rfl);refine⟨.list vb a0 cap [],_,e1,(by rw[PC.fo,Eb,aaW]),⟨rfl,.nil _ _ _ ft,ok.sep,fun _ h=>h,?_,?_⟩,gr,vb,az,f2,fun b' bB=>?_,fun hm b' bB=>q1 hm b' bB,q2⟩
  ·simp only[PC.fo];rw[Eb,aaW] at f4;exact f4
  ·intro sz a cap xs be a' nO ld zb uH;have uH:=zb.symm.trans uH;injection uH with h1 h2 h3 h4;refine⟨h1.symm,h2.symm,h3.symm,by rw[h4],fun _ k j c hk hL=>?_⟩;injection zb with _ _ _ h5;subst h5;obtain⟨e,he,_⟩:=hk;simp at he
  ·rw[bD.nA] at bB;rcases bB with⟨bB,_⟩|⟨k,j,c,⟨e,he,_⟩,_⟩
   ·exact absurd rfl bB
   ·simp at he
 ·have xy:m=.live->∀k j c,At Iq k j c->c.jG=true->∃c',At (G.g (aD+i)).px k j c'/\c'.val=c.val/\c'.jG=true:=by
   rintro rfl k j c hk hL;rw[wu iH] at p5;exact p5 gr vb az rfl k j c hk hL
  rw[wu iH] at p1 p2 p3 p4;simp only at p1 p2 p3 p4;obtain⟨l1,l2,l3⟩:=hr.fN p1;rw[p2] at l1 l2;rw[p3] at l2;rw[p4] at l3;have alY:(G.g (aD+i)).px≠[]:=by
   intro h0;rw[h0] at hlen;exact iH (zak hlen.symm)
  have iG:Good w (.list vb (some (ad b o)) cap (G.g (aD+i)).px):=.cons _ _ _ _ _ alY l3 ft l2.1 l2.2.1 l2.2.2;have al5:¬bH b (G.g (aD+i)).px:=by
   intro hb;cases m with
   |aL=>exact q2 rfl
   |bc=>exact q1 rfl b hb
   |live=>exact r.hr.live _ gr vb az f2 b hb _ aE p1 p2.symm
  have alo:m=.live->∀b',bH b' (G.g (aD+i)).px->bH b' Iq:=by
   rintro rfl b' bB;refine abW (px':=Iq) (q3 rfl) (fun k j c hk hL=>?_) bB;rw[Eb] at f5;obtain⟨c0,Mw,uF⟩:=atD f5 hk;rw[hL] at uF;obtain⟨c1,RX,mN,hL1⟩:=xy rfl k j c0 Mw uF;rw[At.inj RX hk] at mN;exact⟨c0,Mw,mN.symm,uF⟩
  refine⟨.list vb (some (ad b o)) cap (G.g (aD+i)).px,_,e1,by rw[PC.fo,Eb],⟨by simp only[PC.val,hlen],iG,.list _ _ _ _ aaY.1 (fun b1 o1 k j c he hk hb1=>?_) aaY.2,fun b' bB=>?_,?_,?_⟩,gr,vb,az,f2,fun b' bB=>?_,q1,q2⟩
  ·injection he with he;obtain⟨rfl,_⟩:=pZ he;exact al5 ⟨k,j,c,hk,hb1⟩
  ·rw[bD.nA] at bB;rcases bB with⟨_,o',jE⟩|hF
   ·injection jE with jE;rw[<-(pZ jE).1];exact .here _ _ _ _ iH
   ·cases m with
    |aL=>exact absurd rfl q2
    |bc=>exact absurd hF (q1 rfl b')
    |live=>
     obtain⟨k,j,c,hk,hc⟩:=alo rfl b' hF;exact .there _ _ _ _ k j c hk hc
  ·simp only[PC.fo];exact LW
  ·intro sz a nO xs be a' au2 ld zb uH;injection zb with h1 h2 h3 h4;injection uH with g1 g2 g3 g4;subst h1 h2 h3 h4 g1 g2 g3 g4;exact⟨rfl,rfl,rfl,hlen,xy⟩
  ·rw[bD.nA] at bB;rcases bB with⟨_,o',jE⟩|hF
   ·injection jE with jE;exact .inl ⟨p1,by rw[p2];exact(pZ jE).1.symm⟩
   ·cases m with
    |aL=>exact absurd rfl q2
    |bc=>exact absurd hF (Fg s7 b')
    |live=>exact .inr (abW s7 (xy rfl) hF)
theorem apK (hT:o6 P T) (hm:P.follows .mixedOrders=true) {f:FuncId} {fn:Func} {c:Code} {mc:kJ} {ms:List bZ} {sig:aU} {M:List Dv->Option (List Dv×List C)} (hf:P.funcs[f]? =some fn) (hb:fn.body=some c)
  (hc:kz P fn.ntmps c mc=true) (hr:oC P fn.results.toList ms=true) (hM:∀ds rs dK,M ds=some (rs,dK)->ds.length<=fn.ntmps/\N2 T mc ms sig ds=some (rs,dK)):vo P f sig M:=by
 intro ds rs dK lW w vals pas ha;obtain⟨hN,cP⟩:=hM ds rs dK lW;refine calls_of_wp hf hb ?_;have r0:=R.Hv (N:=fn.ntmps) ha hN;have gA:∀p∈pas,∀pc∈p.ps,Good w pc:=by
  intro p hp pc bA;obtain⟨i,hi,rfl⟩:=zaE hp;have hd:ds[i]? =some (ds[i]'(by rw[<-ha.l2];exact hi)):=zad _;have hv:vals[i]? =some (vals[i]'(by rw[ha.l1,<-ha.l2];exact hi)):=zad _;exact(ha.at_ i _ _ _ hd hv (zad hi)).2.1 pc bA
 have hg:∀x∈dX sig (pas.map (·.ps)),Good w x.2:=by
  intro x hx;obtain⟨l,hl,qW⟩:=Gz hx;obtain⟨p,hp,rfl⟩:=zas.1 hl;exact gA p hp _ qW
 have G4:ds.map (·.2)=(pas.map (·.ps)).map fun l=>l.map PC.er:=by
  apply zaR;intro i;simp only[zag];cases hd:ds[i]? with
  |none=>
   have:ds.length<=i:=zaQ.1 hd;rw[zau (by rw[ha.l2];exact this)];rfl
  |some d=>
   have hi:=(zah.1 hd).1;have hv:vals[i]? =some (vals[i]'(by rw[ha.l1];exact hi)):=zad _;have hp:pas[i]? =some (pas[i]'(by rw[ha.l2];exact hi)):=zad _;have:=(ha.at_ i d _ _ hd hv hp).1;rw[hp];simp only[zab];rw[this]
 unfold N2 at cP;rw[G4,DT] at cP;generalize ni:dX sig (pas.map (·.ps))=fl at cP r0 hg;have gi:=ha.ok;rw[ni] at gi;have fin:∀{σ:St} {a:Act} {w':World} {G:Gh},σ.wA ms (fl.map fun x=>(x.1,x.2.er))=some (rs,dK)->R w.heap.size (sR fl) w fn.ntmps σ a w' G->a.defers=[]/\∃v,(results fn a.tmps).run P w'=.ok v w'/\
   ∃bC:List (K×List PC),bC.map (fun p=>(p.1,p.2.map PC.er))=rs/\(Ending.returned v)=.returned (wB bC)/\(∀p∈bC,p.1≠ .ptr/\(p.1=.one->p.2.length=1))/\
   AH w' w.heap.size (bC.flatMap (·.2))/\Fr w.heap.size (yW fl) w w'/\
   ∃qs:List PC,qs.map PC.er=dK/\qs.length=fl.length/\∀(i:Nat) (x:Mode×PC) (q:PC),fl[i]? =some x->qs[i]? =some q->rv w' x.1 x.2 q:=by
  intro σ a w' G hx r;unfold St.wA at hx;split at hx
  ·rename_i tJ T1 e1 e2;injection hx with hx;injection hx with mf e8;subst mf e8;have hE:∀b,(sR fl) b->∃n gr m sz xs,aD<=n/\σ.h n=some (.row gr m sz xs)/\m≠ .aL/\pi G n b/\(m=.bc->¬bH b (G.g n).px):=by
    rintro b ⟨x,uM,Hp⟩;obtain⟨i,hi⟩:=zaB uM;obtain⟨q,o,_,_,_,gr,sz,xs,k1,k2,k3,k4⟩:=F3 gi hg r e2 hi;exact⟨aD+i,gr,x.1,sz,xs,zaX _ _,k1,k4,k2 b Hp,fun hm=>k3 hm b⟩
   obtain⟨bC,p1,p2,p3,p4⟩:=Uw (r.lH hE) hr e1;obtain⟨ol,_⟩:=NP e2;have hq:∀i:Fin fl.length,∃q,T1[i.1]? =some (PC.er q)/\rv w' (fl[i.1]).1 (fl[i.1]).2 q:=by
    intro i;obtain⟨q,o,k1,k2,k3,_⟩:=F3 gi hg r e2 (zad i.2);exact⟨q,by rw[k1,k2],k3⟩
   refine⟨r.defers,_,p2,bC,p1,rfl,p3,p4,⟨r.fr.os,r.fr.tape,r.fr.output,r.fr.size,r.fr.block,r.fr.kv⟩,List.ofFn fun i=>Classical.choose (hq i),?_,by simp,fun i x q hi lZ=>?_⟩
   ·apply zaR;intro i;simp only[zag];by_cases hi:i<fl.length
    ·rw[za5,dif_pos hi];exact(zaZ (hq ⟨i,hi⟩)).1.symm
    ·rw[zau (by simp;omega),zau (by rw[ol];simp;omega)];rfl
   ·obtain⟨hl,e⟩:=zah.1 hi;rw[za5,dif_pos hl] at lZ;injection lZ with lZ;subst lZ;subst e;exact(zaZ (hq ⟨i,hl⟩)).2
  ·cases hx
 split at cP
 ·rename_i σ e;exact lU hT hm mc hc e r0 fun a w' G r=>fin cP r
 ·rename_i σ e;exact lU hT hm mc hc e r0 fun a w' G r=>fin cP r
 ·cases cP
end
def F4:Dv->ao
 |(.one,[x])=>.one (.c x)
 |(.one,_)=>.one .cd
 |(.agg,xs)=>.agg (xs.map .c)
 |(.ptr,_)=>.one (.ptr aD 0 0 0)
def wa:Nat->List Dv->(Nat->ao)
 |_,[]=>yU
 |k,d::ds=>aQ (wa (k+1) ds) k (F4 d)
def rf:List Dv->Option (List C)
 |[]=>none
 |(.ptr,xs)::_=>some xs
 |_::ds=>rf ds
def q8 (ds:List Dv):Nat->Option av:=fun n=>match Nat.beq n aD with
 |true=>(rf ds).map fun xs=>.box (xs.map .c)
 |false=>none
def Hx (ds:List Dv):St:={env:=wa 0 ds,h:=q8 ds,used:=fun n=>Nat.ble aD n}
theorem ag1 (ds:List Dv) (n:Nat) (hn:aD<=n):(Hx ds).used n=true:=zap hn
def tF (h:Nat->Option av):List ao->Option (List Dv)
 |[]=>some []
 |v::vs=>match v.cells? with
  |some (ag,cs)=>match jP h cs,tF h vs with
   |some xs,some ds=>some ((if ag=true then .agg else .one,xs)::ds)
   |_,_=>none
  |none=>none
def Fc (h:Nat->Option av):List ao->Option (List Dv)
 |[v]=>match oB h v with
  |some (n,xs)=>if aD<=n then none else some [(.ptr,xs)]
  |none=>tF h [v]
 |vs=>tF h vs
def EZ (h:Nat->Option av):Option (List C)->Option (List C)
 |none=>some []
 |some xs=>match h aD with
  |some (.box cs)=>if cs.length=xs.length then mh cs else none
  |_=>none
def St.Fb (σ:St) (ms:List bZ) (ds:List Dv):Option (List Dv×List C):=
 match σ.tD ms with
 |some vs=>match Fc σ.h vs,EZ σ.h (rf ds) with
  |some rs,some out=>some (rs,out)
  |_,_=>none
 |none=>none
def N3 (T:aZ) (mc:kJ) (ax:List bZ) (ds:List Dv):Option (List Dv×List C):=
 match eC T mc (Hx ds) with
 |some (.gC σ)=>σ.Fb ax ds
 |some (.ret σ)=>σ.Fb ax ds
 |_=>none
section
variable {B:Nat} {E:Ex} {w0 w w':World} {G G':Gh} {N:Nat} {h h':Nat->Option av} {used:Nat->Bool}
variable {P:Program} {T:aZ} {a:Act} {σ σ':St} {Q:Exit->Act->World->Prop}
theorem SO:∀(ds:List Dv) (k n:Nat),wa k ds n=if k<=n then(match ds[n - k]? with|some d=>F4 d|none=>.one .cd) else .one .cd
 |[],k,n=>by simp[wa,yU]
 |d::ds,k,n=>by
  simp only[wa,lc,SO ds];by_cases h:n=k
  ·subst h;simp
  ·by_cases h2:k<=n
   ·have h3:k+1<=n:=by omega
    have h4:n - k=(n - (k+1))+1:=by omega
    simp[h,h2,h3,h4]
   ·have h3:¬k+1<=n:=by omega
    simp[h,h2,h3]
theorem MS {ds:List Dv} {n:Nat} {b:av} (hn:q8 ds n=some b):n=aD/\∃xs,rf ds=some xs/\b=.box (xs.map .c):=by
 unfold q8 at hn;split at hn
 ·rename_i e;have:=zaa e;subst this;refine⟨rfl,?_⟩;cases hp:rf ds with
  |none=>rw[hp] at hn;cases hn
  |some xs=>rw[hp] at hn;injection hn with hn;exact⟨xs,rfl,hn.symm⟩
 ·cases hn
def jU:List PA->Option PA
 |[]=>none
 |p::ps=>if p.k=.ptr then some p else jU ps
theorem Gi:∀{pas:List PA} {p:PA},jU pas=some p->p∈pas/\p.k=.ptr
 |[],p,h=>by cases h
 |q::pas,p,h=>by
  unfold jU at h;split at h
  ·injection h with h;subst h;rename_i hk;exact⟨by simp,hk⟩
  ·obtain⟨h1,h2⟩:=Gi h;exact⟨by simp[h1],h2⟩
theorem Lx:∀{pas:List PA},jU pas=none->∀p∈pas,p.k≠ .ptr
 |[],_,p,hp=>by cases hp
 |q::pas,h,p,hp=>by
  unfold jU at h;split at h
  ·cases h
  ·rename_i hk;cases hp with
   |head=>exact hk
   |tail _ hp=>exact Lx h p hp
theorem Uf:∀{ds:List Dv} {pas:List PA},pas.length=ds.length->(∀(i:Nat) (d:Dv) (p:PA),ds[i]? =some d->pas[i]? =some p->d=(p.k,p.ps.map PC.er))->rf ds=(jU pas).map fun p=>p.ps.map PC.er
 |[],[],_,_=>rfl
 |[],_::_,hl,_=>by simp at hl
 |_::_,[],hl,_=>by simp at hl
 |d::ds,p::pas,hl,hd=>by
  have h0:=hd 0 d p rfl rfl;have ih:=Uf (ds:=ds) (pas:=pas) (by simpa using hl) (fun i d p h1 h2=>hd (i+1) d p h1 h2);subst h0;obtain⟨k,ps,b,o⟩:=p;cases k with
  |ptr=>rfl
  |one=>simpa[rf,jU] using ih
  |agg=>simpa[rf,jU] using ih
def zQ (p:PA):PB:=⟨false,p.b,p.o,0,[],none⟩
def Gx (pas:List PA):Ex:=
 ⟨fun b=>∃p∈pas,p.k=.ptr/\b=p.b,fun n=>if n=aD then(jU pas).map zQ else none,fun n p h=>(by
  by_cases hn:n=aD
  ·exact Nat.le_of_eq hn.symm
  ·rw[if_neg hn] at h;cases h),fun b=>∃q∈pas,∃pc∈q.ps,bD b pc⟩
def y5 (pas:List PA):Gh:=⟨fun b=>∃q∈pas,∃pc∈q.ps,bD b pc,fun n=>match jU pas with|some p=>zQ p|none=>default⟩
theorem R.amG {ds:List Dv} {vals:List Value} {pas:List PA} (va:PP w ds vals pas) (hN:ds.length<=N):
  R w.heap.size (Gx pas) w N (Hx ds) {tmps:=vals.toArray++Array.replicate (N - vals.toArray.size) undef,defers:=[]} w (y5 pas):=by
 have hl:=va.l1;have xC:rf ds=(jU pas).map fun p=>p.ps.map PC.er:=by
  refine Uf va.l2 fun i d p hd hp=>?_;have hv:vals[i]? =some (vals[i]'(by rw[va.l1];exact(zah.1 hd).1)):=zad _;exact(va.at_ i d _ p hd hv hp).1
 have iG:∀q∈pas,∀pc∈q.ps,Good w pc:=by
  intro q hq pc bA;obtain⟨i,hi,rfl⟩:=zaE hq;have hd:ds[i]? =some (ds[i]'(by rw[<-va.l2];exact hi)):=zad _;have hv:vals[i]? =some (vals[i]'(by rw[va.l1,<-va.l2];exact hi)):=zad _;exact(va.at_ i _ _ _ hd hv (zad hi)).2.1 pc bA
 have alF:∀q∈pas,q.k=.ptr->JR w q.b q.o q.ps/\∃v:Value,v∈vals/\v=.pointer (some (ad q.b q.o)):=by
  intro q hq hk;obtain⟨i,hi,rfl⟩:=zaE hq;have hd:ds[i]? =some (ds[i]'(by rw[<-va.l2];exact hi)):=zad _;have hv:vals[i]? =some (vals[i]'(by rw[va.l1,<-va.l2];exact hi)):=zad _;have h3:=(va.at_ i _ _ _ hd hv (zad hi)).2.2;rw[hk] at h3;exact⟨h3.2.2,_,zae hv,h3.1⟩
 have cell:∀q∈pas,∀pc∈q.ps,RC w (y5 pas) (q8 ds) (.c pc.er) pc.val:=fun q hq pc bA=>⟨pc,rfl,rfl,iG q hq pc bA,fun b hb=>⟨q,hq,pc,bA,hb⟩⟩;have cells:∀q∈pas,dT w (y5 pas) (q8 ds) ((q.ps.map PC.er).map .c) (q.ps.map PC.val):=by
  intro q hq;refine⟨by simp,fun j c u hj hu=>?_⟩;simp only[zag,zar] at hj hu;cases hp:q.ps[j]? with
  |none=>rw[hp] at hj;cases hj
  |some pc=>
   rw[hp] at hj hu;simp at hj hu;subst hj hu;exact⟨PC.nG pc,cell q hq pc (zae hp)⟩
 refine⟨rfl,by simp;omega,fun s=>?_,fun s n hn=>?_,?_,Fr.refl _ _ _ (zax _),fun n p b hp hb=>?_,fun n hn=>zap hn⟩
 ·show RA w _ (q8 ds) (wa 0 ds s) _;rw[SO];simp only[zaT,if_true,zaI];cases hs:ds[s]? with
  |none=>exact Or.inl rfl
  |some d=>
   have hsd:=(zah.1 hs).1;have kF:s<vals.length:=by rw[hl];exact hsd
   have hv:vals[s]? =some vals[s]:=zad kF;obtain⟨q,hp⟩:∃q,pas[s]? =some q:=⟨_,zad (by rw[va.l2];exact hsd)⟩;have:(vals.toArray++Array.replicate (N - vals.toArray.size) undef).getD s undef=vals[s]:=by
    simp[zaz,zaA,kF]
   rw[this];have qi:=zae hp;obtain⟨e1,e2,e3⟩:=va.at_ s d _ q hs hv hp;generalize vals[s]=u at*
   subst e1;obtain⟨k,ps,b,o⟩:=q;cases k with
   |one=>
    have e3:ps.map PC.val=[u]:=e3;obtain⟨pc,rfl⟩:∃pc,ps=[pc]:=by
     have:=congrArg List.length e3;exact List.length_eq_one_iff.1 (by simpa using this)
    simp at e3;rw[<-e3];exact RA.il (PC.nG pc) (cell _ qi pc (by simp))
   |agg=>exact⟨_,e3,cells _ qi⟩
   |ptr=>
    have e3:u=.pointer (some (ad b o))/\_:=e3;rw[e3.1];have hc:jU pas=some ⟨.ptr,ps,b,o⟩:=by
     cases hc:jU pas with
     |none=>exact absurd rfl (Lx hc _ qi)
     |some p=>
      obtain⟨c1,c2⟩:=Gi hc;obtain⟨i,hi⟩:=zaB c1;have:=va.one i s p _ hi hp c2 rfl;subst this;rw[hi] at hp;injection hp with hp;rw[hp]
    refine RA.il (c:=.ptr aD 0 0 0) rfl (fun _=>?_);simp[y5,hc,zQ]
 ·have bU:(wa 0 ds s).ref n:=hn;rw[SO] at bU;simp only[zaT,if_true,zaI] at bU;cases hs:ds[s]? with
  |none=>rw[hs] at bU;exact absurd bU id
  |some d=>
   rw[hs] at bU;obtain⟨k,xs⟩:=d;cases k with
   |one=>match xs,bU with
    |[],bU=>exact absurd bU id
    |[x],bU=>exact absurd bU id
    |_::_::_,bU=>exact absurd bU id
   |agg=>
    obtain⟨c,hc,hh⟩:=bU;obtain⟨y,_,rfl⟩:=zas.1 hc;exact absurd hh id
   |ptr=>
    have bU:n=aD:=bU;subst bU;exact ag1 ds aD (zax aD)
 ·
  have TR:∀n gr m sz xs,q8 ds n≠some (.row gr m sz xs):=fun n gr m sz xs hn=>by obtain⟨_,_,_,e⟩:=MS hn;cases e
  have qO:∀n,q8 ds n≠none->n=aD/\∃p,jU pas=some p/\(y5 pas).g n=zQ p/\q8 ds n=some (.box ((p.ps.map PC.er).map .c)):=by
   intro n hn;cases hh:q8 ds n with
   |none=>exact absurd hh hn
   |some b=>
    obtain⟨rfl,xs,e1,e2⟩:=MS hh;rw[xC] at e1;cases hc:jU pas with
    |none=>rw[hc] at e1;cases e1
    |some p=>
     rw[hc] at e1;injection e1 with e1;exact⟨rfl,p,rfl,by simp[y5,hc],by rw[e2,<-e1]⟩
  refine⟨fun n hn=>?_,fun m cs c n hm hc hr=>?_,fun n cs hn=>?_,fun n gr m sz xs hn=>absurd hn (TR _ _ _ _ _),fun n hn hlf=>?_,fun n n' hn bU aE=>?_,fun b hb=>?_,fun b hb=>.inr (.inr hb),
   fun n n' gr m sz xs cc m' be az hn=>absurd hn (TR _ _ _ _ _),fun n gr sz xs hn=>absurd hn (TR _ _ _ _ _),?_,?_,?_⟩
  ·obtain⟨rfl,_⟩:=qO n hn;exact ag1 ds aD (zax aD)
  ·have cF:q8 ds m=some (.box cs):=hm;obtain⟨_,xs,_,e⟩:=MS cF;injection e with e;subst e;obtain⟨x,_,rfl⟩:=zas.1 hc;exact absurd hr id
  ·have bU:q8 ds n=some (.box cs):=hn;obtain⟨rfl,p,c1,c2,c3⟩:=qO n (by rw[bU];simp);rw[bU] at c3;injection c3 with c3;injection c3 with c3;subst c3;obtain⟨m1,m2⟩:=Gi c1;rw[c2];refine⟨rfl,(va.kv p m1 m2).1,fun j c hj=>?_⟩;rw[zag,zag] at hj;cases ta:p.ps[j]? with
   |none=>rw[ta] at hj;cases hj
   |some pc=>
    rw[ta] at hj;simp at hj;subst hj;exact⟨pc.val,(alF p m1 m2).1 j pc ta,PC.nG pc,cell p m1 pc (zae ta)⟩
  ·obtain⟨rfl,p,c1,c2,c3⟩:=qO n hn;obtain⟨m1,m2⟩:=Gi c1;rw[c2];obtain⟨u1,u2⟩:=va.kv p m1 m2;exact⟨fun⟨q,hq,pc,bA,hb⟩=>u2 q hq pc bA hb,.inr ⟨p,m1,m2,rfl⟩,u1.lt⟩
  ·obtain⟨rfl,_⟩:=qO n hn;obtain⟨rfl,_⟩:=qO n' bU;exact absurd rfl aE
  ·obtain⟨q,hq,pc,bA,hb⟩:=hb;exact(iG q hq pc bA).lt hb
  ·intro i pc hi;simp at hi
  ·intro i j pc eX b _ hi;simp at hi
  ·intro i pc n gr m sz xs b hi;simp at hi
 ·have bJ:(if n=aD then(jU pas).map zQ else none)=some p:=hp
  split at bJ
  ·rename_i hn;subst hn;cases hc:jU pas with
   |none=>rw[hc] at bJ;cases bJ
   |some q=>
    rw[hc] at bJ;injection bJ with bJ;subst bJ;have hg:(y5 pas).g aD=zQ q:=by simp[y5,hc]
    rw[hg];refine⟨rfl,rfl,rfl,rfl,rfl,fun gr sz xs bB=>?_⟩;have Ro:q8 ds aD=some b:=hb;obtain⟨_,_,_,e⟩:=MS Ro;rw[e] at bB;cases bB
  ·cases bJ
def PM (G:Gh) (h:Nat->Option av) (b:Nat):Prop:=G.Im b\/∃n gr m sz xs,h n=some (.row gr m sz xs)/\uC G n b
theorem HR.ag5 (H:HR B E w G h used []):∀{cs:List aj} {xs:List C} {vs:List Value},Am.jP h cs=some xs->dT w G h cs vs->∃ps:List PC,ps.map PC.er=xs/\ps.map PC.val=vs/\∀pc∈ps,Good w pc/\∀b,bD b pc->PM G h b
 |[],xs,vs,hx,hc=>by
  simp only[Am.jP] at hx;injection hx with hx;subst hx;have:vs=[]:=zak (by simpa using hc.1);subst this;exact⟨[],rfl,rfl,by simp⟩
 |c::cs,xs,vs,hx,hc=>by
  simp only[Am.jP] at hx;split at hx
  ·rename_i x az e1 e2;injection hx with hx;subst hx;match vs,hc.1 with
   |v::vs,hl=>
    obtain⟨pc,a1,a2,a3,a4⟩:=H.W4 e1 (hc.2 0 c v rfl rfl).2;obtain⟨ps,b1,b2,b3⟩:=H.ag5 (vs:=vs) e2 ⟨by simpa using hl,fun j c u h1 h2=>hc.2 (j+1) c u h1 h2⟩;refine⟨pc::ps,by simp[a1,b1],by simp[a2,b2],fun q hq=>?_⟩;cases hq with
    |head=>exact⟨a3,fun b hb=>(a4 b hb).imp id fun⟨n,gr,m,sz,xs,_,h1,h2⟩=>⟨n,gr,m,sz,xs,h1,h2⟩⟩
    |tail _ hq=>exact b3 q hq
  ·cases hx
theorem HR.tF (H:HR B E w G h used []):∀{vs:List ao} {ds:List Dv} {us:List Value},Am.tF h vs=some ds->us.length=vs.length->(∀(j:Nat) (x:ao) (v:Value),vs[j]? =some x->us[j]? =some v->RA w G h x v)->
  ∃bC:List PA,bC.map (fun p=>(p.k,p.ps.map PC.er))=ds/\bC.map Ci=us/\(∀p∈bC,p.k≠ .ptr/\(p.k=.one->p.ps.length=1))/\∀p∈bC,∀pc∈p.ps,Good w pc/\∀b,bD b pc->PM G h b
 |[],ds,us,hx,hl,hc=>by
  simp only[Am.tF] at hx;injection hx with hx;subst hx;have:us=[]:=zak (by simpa using hl);subst this;exact⟨[],rfl,rfl,by simp,by simp⟩
 |x::vs,ds,us,hx,hl,hc=>by
  simp only[Am.tF] at hx;split at hx
  ·rename_i ag cs m8;split at hx
   ·rename_i xs vC e1 e2;injection hx with hx;subst hx;match us,hl with
    |v::us,hl=>
     obtain⟨bC,b1,b2,b3,b4⟩:=H.tF (us:=us) e2 (by simpa using hl) (fun j x v h1 h2=>hc (j+1) x v h1 h2);have h0:=hc 0 x v rfl rfl;have np:∃vs:List Value,(if ag=true then v=.agg vs.toArray else vs=[v])/\dT w G h cs vs:=by
      cases x with
      |one c=>
       have Mo:ag=false/\cs=[c]:=by cases c<;>simp[ao.cells?] at m8<;>exact⟨m8.1,m8.2.symm⟩
       obtain⟨rfl,rfl⟩:=Mo;rcases h0 with h0|h0
       ·subst h0;simp[ao.cells?] at m8
       ·exact⟨[v],rfl,h0⟩
      |agg cs'=>
       simp[ao.cells?] at m8;obtain⟨rfl,rfl⟩:=m8;obtain⟨vs,e,h1⟩:∃vs:List Value,v=.agg vs.toArray/\dT w G h cs' vs:=h0;exact⟨vs,e,h1⟩
      |cf xs=>simp[ao.cells?] at m8
     obtain⟨YI,kR,cY⟩:=np;obtain⟨ps,p1,p2,p3⟩:=H.ag5 e1 cY;refine⟨⟨if ag=true then .agg else .one,ps,0,0⟩::bC,by simp[p1,b1],?_,fun p hp=>?_,fun p hp pc bA=>?_⟩
     ·rw[zac,b2];congr 1;cases ag with
      |true=>
       simp only[if_true] at kR⊢;rw[kR,<-p2];rfl
      |false=>
       simp only[zam,if_false] at kR⊢;rw[<-p2] at kR;match ps,kR with
       |[pc],kR=>simp at kR;exact kR
     ·cases hp with
      |head=>
       cases ag with
       |true=>exact⟨by simp,fun h=>by cases h⟩
       |false=>
        simp only[zam,if_false] at kR;refine⟨by simp,fun _=>?_⟩;have:(ps.map PC.val).length=1:=by rw[p2,kR];rfl
        simpa using this
      |tail _ hp=>exact b3 p hp
     ·cases hp with
      |head=>exact p3 pc bA
      |tail _ hp=>exact b4 p hp pc bA
   ·cases hx
  ·cases hx
theorem arY {bC:List PA}:E0 (bC.map Ci)=Cj bC:=by
 match bC with
 |[]=>rfl
 |[p]=>rfl
 |p::q::bC=>rfl
theorem auK (hT:o6 P T) (hm:P.follows .mixedOrders=true) {f:FuncId} {fn:Func} {c:Code} {mc:kJ} {ms:List bZ} {M:List Dv->Option (List Dv×List C)} (hf:P.funcs[f]? =some fn) (hb:fn.body=some c)
  (hc:kz P fn.ntmps c mc=true) (hr:oC P fn.results.toList ms=true) (hM:∀ds rs out,M ds=some (rs,out)->ds.length<=fn.ntmps/\N3 T mc ms ds=some (rs,out)):nK P f M:=by
 intro ds rs out lW w vals pas va;obtain⟨hN,cP⟩:=hM ds rs out lW;refine calls_of_wp hf hb ?_;have r0:=R.amG (N:=fn.ntmps) va hN;have xC:rf ds=(jU pas).map fun p=>p.ps.map PC.er:=by
  refine Uf va.l2 fun i d p hd hp=>?_;have hv:vals[i]? =some (vals[i]'(by rw[va.l1];exact(zah.1 hd).1)):=zad _;exact(va.at_ i d _ p hd hv hp).1
 unfold N3 at cP;have fin:∀{σ:St} {a:Act} {w':World} {G:Gh},σ.Fb ms ds=some (rs,out)->R w.heap.size (Gx pas) w fn.ntmps σ a w' G->a.defers=[]/\∃v,(results fn a.tmps).run P w'=.ok v w'/\
   ∃(bC:List PA) (qs:List PC),bC.map (fun p=>(p.k,p.ps.map PC.er))=rs/\(Ending.returned v)=.returned (Cj bC)/\qs.map PC.er=out/\PO w w' pas bC qs:=by
  intro σ a w' G hx r;have H:=r.hr;unfold St.Fb at hx;split at hx
  ·rename_i vs e1;split at hx
   ·rename_i tJ T0 e2 e3;injection hx with hx;injection hx with mf e8;subst mf e8;have D9:∀p,jU pas=some p->∃cs,σ.h aD=some (.box cs)/\cs.length=p.ps.length/\mh cs=some T0/\(G.g aD).nl=false/\(G.g aD).b=p.b/\(G.g aD).o=p.o:=by
     intro p hp;rw[xC,hp] at e3;simp only[zab,EZ] at e3;split at e3
     ·rename_i cs gz;split at e3
      ·rename_i hl;have vR:(Gx pas).qw aD=some (zQ p):=by
        show(if aD=aD then(jU pas).map zQ else none)=_
        rw[if_pos rfl,hp];rfl
       obtain⟨q1,q2,q3,_⟩:=r.qw _ _ _ vR gz;exact⟨cs,gz,by simpa using hl,e3,q1,q2,q3⟩
      ·cases e3
     ·cases e3
    have MG:∀q∈pas,q.k=.ptr->∃p,jU pas=some p/\q=p:=by
     intro q hq hk;cases hc:jU pas with
     |none=>exact absurd hk (Lx hc q hq)
     |some p=>
      obtain⟨c1,c2⟩:=Gi hc;obtain⟨i,hi⟩:=zaB hq;obtain⟨j,hj⟩:=zaB c1;have:=va.one i j q p hi hj hk c2;subst this;rw[hi] at hj;injection hj with hj;exact⟨p,rfl,hj⟩
    have hE:∀b,(Gx pas) b->∃p cs,jU pas=some p/\σ.h aD=some (.box cs)/\(G.g aD).nl=false/\b=(G.g aD).b:=by
     rintro b ⟨q,hq,hk,rfl⟩;obtain⟨p,hp,rfl⟩:=MG q hq hk;obtain⟨cs,h1,_,_,h2,h3,_⟩:=D9 q hp;exact⟨q,cs,hp,h1,h2,h3.symm⟩
    have s8:∀b,G.Im b->Df w pas b:=fun b hb=>by
     rcases H.rW b hb with h1|h1|h1
     ·exact .inl h1
     ·obtain⟨p,cs,_,h2,h3,rfl⟩:=hE b h1;exact absurd hb (H.own aD (by rw[h2];simp) h3).1
     ·exact .inr h1
    have al1:∀b,PM G σ.h b->Df w pas b/\(∀p,jU pas=some p->b≠p.b):=by
     have aE:∀b,(∀cs,σ.h aD=some (.box cs)->(G.g aD).nl=false->b≠(G.g aD).b)->∀p,jU pas=some p->b≠p.b:=fun b hb p hp=>by
      obtain⟨cs,h1,_,_,h2,h3,_⟩:=D9 p hp;rw[<-h3];exact hb cs h1 h2
     have aau:∀b,(w.heap.size<=b\/(Gx pas) b)->(∀cs,σ.h aD=some (.box cs)->(G.g aD).nl=false->b≠(G.g aD).b)->Df w pas b:=fun b hb aE=>by
      rcases hb with hb|hb
      ·exact .inl hb
      ·obtain⟨p,cs,_,h2,h3,h4⟩:=hE b hb;exact absurd h4 (aE cs h2 h3)
     intro b hb;rcases hb with hb|⟨n,gr,m,sz,xs,hn,hft⟩
     ·exact⟨s8 b hb,aE b fun cs h1 h2 he=>(H.own aD (by rw[h1];simp) h2).1 (he▸hb)⟩
     ·have cO:σ.h n≠none:=by rw[hn];simp
      rcases hft with⟨bq,rfl⟩|hF
      ·have hd:∀cs,σ.h aD=some (.box cs)->(G.g aD).nl=false->(G.g n).b≠(G.g aD).b:=fun cs h1 h2=>
        H.inj n aD cO (by rw[h1];simp) (by rintro rfl;rw[hn] at h1;cases h1) bq h2
       exact⟨aau _ (H.own n cO bq).2.1 hd,aE _ hd⟩
      ·have iv:=(H.row n gr m sz xs hn).mode;cases m with
       |aL=>exact⟨s8 b (iv b hF),aE b fun cs h1 h2 he=>(H.own aD (by rw[h1];simp) h2).1 (he▸iv b hF)⟩
       |bc=>exact⟨s8 b (iv.1 b hF).1,aE b fun cs h1 h2 he=>(H.own aD (by rw[h1];simp) h2).1 (he▸(iv.1 b hF).1)⟩
       |live=>
        have hd:∀cs,σ.h aD=some (.box cs)->(G.g aD).nl=false->b≠(G.g aD).b:=fun cs h1 h2=>H.live n gr sz xs hn b hF aD (by rw[h1];simp) h2;exact⟨aau b (iv.1 b hF).2.2 hd,aE b hd⟩
    obtain⟨us,u1,u2,_,u3⟩:=It r hr e1;obtain⟨qs,q1,q2,q3⟩:∃qs:List PC,qs.map PC.er=T0/\(∀pc∈qs,Good w' pc/\∀b,bD b pc->G.Im b)/\∀p∈pas,p.k=.ptr->JR w' p.b p.o qs:=by
     cases hc:jU pas with
     |none=>
      rw[xC,hc] at e3;simp only[zal,EZ] at e3;injection e3 with e3;subst e3;exact⟨[],rfl,by simp,fun p hp hk=>absurd hk (Lx hc p hp)⟩
     |some p=>
      obtain⟨cs,h1,h2,h3,h4,h5,h6⟩:=D9 p hc;obtain⟨YI,v1,v2⟩:=H.Lf h1;obtain⟨ps,p1,p2,p3⟩:=HR.mh h3 v1;refine⟨ps,p1,p3,fun q hq hk j c hj=>?_⟩;obtain⟨p',bJ,rfl⟩:=MG q hq hk;rw[hc] at bJ;injection bJ with bJ;subst bJ;rw[<-h5,<-h6];refine v2 j _ ?_;rw[<-p2,zag,hj];rfl
    have xq:Fr w.heap.size (Zb pas) w w':=⟨r.fr.os,r.fr.tape,r.fr.output,r.fr.size,r.fr.block,r.fr.kv⟩;have Lz:∀{tJ:List Dv},tF σ.h vs=some tJ->∃v,(results fn a.tmps).run P w'=.ok v w'/\
      ∃(bC:List PA) (qs:List PC),bC.map (fun p=>(p.k,p.ps.map PC.er))=tJ/\(Ending.returned v)=.returned (Cj bC)/\qs.map PC.er=T0/\PO w w' pas bC qs:=by
     intro tJ hrb;obtain⟨bC,b1,b2,b3,b4⟩:=H.tF hrb u2 u3;refine⟨_,N7 fn a.tmps u1,bC,qs,b1,by rw[<-b2,arY],q1,?_⟩;exact⟨fun p hp=>(b3 p hp).2,fun p hp hk=>absurd hk (b3 p hp).1,fun p hp pc bA=>⟨(b4 p hp pc bA).1,fun b hb=>(al1 b ((b4 p hp pc bA).2 b hb)).1⟩,xq,fun pc bA=>⟨(q2 pc bA).1,fun b hb=>s8 b ((q2 pc bA).2 b hb)⟩,q3⟩
    refine⟨r.defers,?_⟩;unfold Fc at e2;split at e2
    ·rename_i v0;split at e2
     ·rename_i n xs hbp;split at e2
      ·cases e2
      ·rename_i Se;injection e2 with e2;subst e2;obtain⟨sz,cs,rfl,hn,gz⟩:=P7 hbp;obtain⟨nl,un,_⟩:=H.box n cs hn;have cO:σ.h n≠none:=by rw[hn];simp
       obtain⟨o1,o2,o3⟩:=H.own n cO nl;obtain⟨YI,v1,v2⟩:=H.Lf hn;obtain⟨ps,p1,p2,p3⟩:=HR.mh gz v1;match us,u2 with
       |[u],_=>
        have hu:u=.pointer (some (ad (G.g n).b (G.g n).o)):=by
         have h0:=u3 0 _ u rfl rfl;rcases h0 with h0|h0
         ·cases h0
         ·have h1:RC w' G σ.h (.ptr n 0 sz 0) u:=(h0.2 0 _ u rfl rfl).2;simpa using(h1 cO).2
        have hB:w.heap.size<=(G.g n).b:=by
         rcases o2 with o2|o2
         ·exact o2
         ·obtain⟨p,cs',_,h2,h3,h4⟩:=hE _ o2;exact absurd h4 (H.inj n aD cO (by rw[h2];simp) (by rintro rfl;exact Se (zax _)) nl h3)
        refine⟨_,N7 fn a.tmps u1,[⟨.ptr,ps,(G.g n).b,(G.g n).o⟩],qs,by simp[p1],?_,q1,?_⟩
        ·rw[hu];rfl
        ·refine⟨fun p hp hk=>?_,fun p hp hk=>?_,fun p hp pc bA=>?_,xq,fun pc bA=>⟨(q2 pc bA).1,fun b hb=>s8 b ((q2 pc bA).2 b hb)⟩,q3⟩
         ·simp at hp;subst hp;cases hk
         ·simp at hp;subst hp;refine⟨rfl,hB,un,fun j c hj=>v2 j _ ?_,fun pc bA hb=>o1 ((p3 pc bA).2 _ hb),fun pc bA hb=>o1 ((q2 pc bA).2 _ hb)⟩;rw[<-p2,zag,hj];rfl
         ·simp at hp;subst hp;exact⟨(p3 pc bA).1,fun b hb=>s8 b ((p3 pc bA).2 b hb)⟩
     ·exact Lz e2
    ·exact Lz e2
   ·cases hx
  ·cases hx
 split at cP
 ·rename_i σ e;exact lU hT hm mc hc e r0 fun a w' G r=>fin cP r
 ·rename_i σ e;exact lU hT hm mc hc e r0 fun a w' G r=>fin cP r
 ·cases cP
end
def _root_.Option.af {α β:Type} (o:Option α) (f:α->Option β):Option β:=o.bind f
def aI {α:Type} (b:Bool) (x y:α):α:=cond b x y
def br (k:IntKind) (a b:Int):Int:=k.wrap (a+b)
def lL (k:IntKind) (a b:Int):Int:=k.wrap (a - b)
def du (k:IntKind) (a b:Int):Int:=k.wrap (a*b)
def aqQ (k:IntKind) (a:Int):Int:=k.wrap (0 - a)
def Qx (k:IntKind) (a:Int):Int:=k.wrap a
def qI (k:IntKind) (a b:Int):Int:=bits .and k a b
def TZ (k:IntKind) (a b:Int):Int:=bits .or k a b
def Xa (k:IntKind) (a b:Int):Int:=bits .xor k a b
def c7 (a b:Int):Bool:=a==b
def mn (a b:Int):Bool:=a !=b
def cL (a b:Int):Bool:=decide (a<b)
def iz (a b:Int):Bool:=decide (a<=b)
def eqB (a b:Bool):Bool:=a==b
def neB (a b:Bool):Bool:=a !=b
def fw (a:Bool):Bool:= !a
def xW (a b:Int):Int:=if a<b then b else a
def iB (a b:Int):Int:=if b<a then b else a
def ae {α:Type} (xs:List α):Nat:=xs.length
def aS (n:Nat):Int:=(n:Int)
def aH (a b:Nat):Nat:=a+b
def cW {α:Type} (xs:List α) (k:Nat):Option α:=xs[k]?
def bK {α:Type} (xs:List α) (k:Nat) (x:α):List α:=xs.set k x
def fj {α:Type} (xs ys:List α):List α:=xs++ys
def dk {α:Type} (n:Nat) (x:α):List α:=List.replicate n x
def jw {α:Type} (xs:List α) (lo len:Nat):List α:=(xs.drop lo).take len
def di {α:Type} (xs:List α) (i:Int):Option α:=if 0<=i then xs[i.toNat]? else none
def dB (i:Int) (len:Nat):Option Nat:=if 0<=i/\i<len then some i.toNat else none
def j0 (lo hi:Int) (len:Nat):Option (Nat×Nat):=if 0<=lo/\lo<=hi/\hi<=len then some (lo.toNat,(hi - lo).toNat) else none
def cM {α:Type} (xs:List α) (lo len:Nat):Option (List α):=if lo+len<=xs.length then some ((xs.drop lo).take len) else none
def fg {α:Type} (xs:List α) (len:Nat):Option (List α):=if len<=xs.length then some (xs.take len) else none
def AY {α:Type} (xs:List α) (lo len:Nat) (ys:List α):Option (List α):=if lo+len<=xs.length then some (xs.take lo++ys++xs.drop (lo+ys.length)) else none
def km (a b:Int) (by_:Nat):Option Nat:=if a<=b/\0<=a/\b.toNat*by_<=fe then some a.toNat else none
def mG (n by_:Nat):Option Unit:=if n*by_<=fe then some () else none
def mU (a b:Nat):Option Unit:=if a=b then some () else none
def bk (lo len l:Nat):Option Unit:=if lo=0/\len=l then some () else none
abbrev aa:=List Int
abbrev ak {α β:Type} (l:List α) (k:Option β):Option β:=(bk 0 (ae l) (ae l)).af fun _=>k
def ad5 (k:IntKind) (a b:Int):Option Int:=if b=0 then none else some (k.wrap (a.tdiv b))
def iM (a b:Int):Option Int:=if b=0 then none else some (a.tmod b)
def Ct (k:IntKind) (a b:Int):Option Int:=if b<0 then none else some (k.wrap (a*2^(min b.toNat k.bits)))
def Fk (k:IntKind) (a b:Int):Option Int:=if b<0 then none else some (a/(2^(min b.toNat k.bits)))
def cH {X Y:Type}:Nat->(X->Option (X⊕Y))->X->Option Y
 |0,_,_=>none
 |n+1,f,x=>match f x with
  |some (.inl x')=>cH n f x'
  |some (.inr y)=>some y
  |none=>none
def cm {X ρ:Type} (o:Option (X⊕ρ)) (k:X->Option ρ):Option ρ:=o.bind fun s=>Sum.casesOn s k some
theorem fL {α β:Type} {o:Option α} {f:α->Option β} {b:β}:o.af f=some b↔∃a,o=some a/\f a=some b:=zaV
theorem DH {α:Type} (x y:α):aI true x y=x:=rfl
theorem AR {α:Type} (x y:α):aI false x y=y:=rfl
inductive Ty where
 |int (k:IntKind)
 |bool
 |list (ts:List Ty)
instance:Inhabited Ty:=⟨.bool⟩
mutual
def Ty.beq:Ty->Ty->Bool
 |.int k,.int k'=>decide (k=k')
 |.bool,.bool=>true
 |.list ts,.list us=>Ty.ui ts us
 |_,_=>false
def Ty.ui:List Ty->List Ty->Bool
 |[],[]=>true
 |t::ts,u::us=>Ty.beq t u&&Ty.ui ts us
 |_,_=>false
end
mutual
theorem Ty.beq_eq:∀{t u:Ty},Ty.beq t u=true->t=u
 |.int k,.int k',h=>by simp[Ty.beq] at h;rw[h]
 |.bool,.bool,_=>rfl
 |.list ts,.list us,h=>by simp only[Ty.beq] at h;rw[Ty.uj h]
 |.int _,.bool,h=>by simp[Ty.beq] at h
 |.int _,.list _,h=>by simp[Ty.beq] at h
 |.bool,.int _,h=>by simp[Ty.beq] at h
 |.bool,.list _,h=>by simp[Ty.beq] at h
 |.list _,.int _,h=>by simp[Ty.beq] at h
 |.list _,.bool,h=>by simp[Ty.beq] at h
theorem Ty.uj:∀{ts us:List Ty},Ty.ui ts us=true->ts=us
 |[],[],_=>rfl
 |t::ts,u::us,h=>by simp only[Ty.ui,zai] at h;rw[Ty.beq_eq h.1,Ty.uj h.2]
 |[],_::_,h=>by simp[Ty.ui] at h
 |_::_,[],h=>by simp[Ty.ui] at h
end
mutual
def Ty.D:Ty->Type
 |.int _=>Int
 |.bool=>Bool
 |.list ts=>List (Ty.DL ts)
def Ty.DL:List Ty->Type
 |[]=>Unit
 |t::ts=>match ts with
  |[]=>Ty.D t
  |u::us=>Ty.D t×Ty.DL (u::us)
end
mutual
def Ty.er:(t:Ty)->t.D->C
 |.int k,n=>.int k n
 |.bool,b=>.bool b
 |.list ts,xs=>.list ts.length (List.map (Ty.aW ts) xs)
def Ty.aW:(ts:List Ty)->Ty.DL ts->List C
 |[],_=>[]
 |[t],x=>[Ty.er t x]
 |t::u::ts,x=>Ty.er t x.1::Ty.aW (u::ts) x.2
end
def Ty.cast (t u:Ty) (x:t.D):Option u.D:=if h:Ty.beq t u=true then some (Ty.beq_eq h▸x) else none
theorem Ty.Yf {t u:Ty} {x:t.D} {y:u.D} (h:Ty.cast t u x=some y):t.er x=u.er y:=by
 unfold Ty.cast at h;split at h
 ·rename_i he;have:=Ty.beq_eq he;subst this;injection h with h;rw[<-h]
 ·cases h
def Ty.Dx (ts us:List Ty) (x:Ty.DL ts):Option (Ty.DL us):=if h:Ty.ui ts us=true then some (Ty.uj h▸x) else none
theorem Ty.DO:∀(ts:List Ty) (x:Ty.DL ts),(Ty.aW ts x).length=ts.length
 |[],_=>rfl
 |[t],_=>rfl
 |t::u::ts,x=>by simp only[Ty.aW,zaD,Ty.DO (u::ts) x.2]
def Ty.gK:Ty->Bool
 |.list _=>false
 |_=>true
theorem Ty.z7 (t:Ty) (x:t.D):(t.er x).gK=t.gK:=by cases t<;>rfl
def Ty.g8 (ts:List Ty):Bool:=ts.all Ty.gK
theorem Ty.Ob:∀(ts:List Ty) (x:Ty.DL ts),Am.g8 (Ty.aW ts x)=Ty.g8 ts
 |[],_=>rfl
 |[t],x=>by simp[Am.g8,Ty.aW,Ty.g8];exact Ty.z7 t x
 |t::u::ts,x=>by
  have:=Ty.Ob (u::ts) x.2;simp only[Am.g8,Ty.g8] at this;simp only[Am.g8,Ty.g8,Ty.aW,zaG,Ty.z7] at this⊢;rw[this]
inductive SC where
 |v (t:Ty) (x:t.D)
 |nil (ts:List Ty)
 |ptr (n k sz off:Nat)
 |dr (ts:List Ty) (x:Ty.DL ts) (off:Nat)
 |sl (n sz lo len:Nat)
 |ct (n k aR off sz len:Nat)
 |dY (n k aR off sz i:Nat)
 |cN (ts:List Ty) (x:Ty.DL ts) (off j n sz len:Nat)
 |fn (f:FuncId) (c9:List SC)
 |cd
instance:Inhabited SC:=⟨.cd⟩
mutual
def SC.er:SC->aj
 |.v t x=>.c (t.er x)
 |.nil ts=>.nil ts.length
 |.ptr n k sz off=>.ptr n k sz off
 |.dr ts x off=>.dr (Ty.aW ts x) off
 |.sl n sz lo len=>.sl n sz lo len
 |.ct n k aR off sz len=>.ct n k aR off sz len
 |.dY n k aR off sz i=>.dY n k aR off sz i
 |.cN ts x off j n sz len=>.cN (Ty.aW ts x) off j n sz len
 |.fn f c9=>.fn f (SC.LP c9)
 |.cd=>.cd
def SC.LP:List SC->List aj
 |[]=>[]
 |c::cs=>SC.er c::SC.LP cs
end
theorem SC.DQ (cs:List SC):SC.LP cs=cs.map SC.er:=by
 induction cs with
 |nil=>rfl
 |cons c cs ih=>simp[SC.LP,ih]
inductive SB where
 |box (cs:List SC)
 |row (gr:Bool) (m:Mode) (ts:List Ty) (xs:List (Ty.DL ts))
def SB.er:SB->av
 |.box cs=>.box (cs.map SC.er)
 |.row gr m ts xs=>.row gr m ts.length (List.map (Ty.aW ts) xs)
inductive SV where
 |one (c:SC)
 |agg (cs:List SC)
 |cf (xs:List (Bool×List SC))
instance:Inhabited SV:=⟨.one .cd⟩
def SV.er:SV->ao
 |.one c=>.one c.er
 |.agg cs=>.agg (cs.map SC.er)
 |.cf xs=>.cf (xs.map fun x=>(x.1,x.2.map SC.er))
structure ai where
 env:Nat->SV
 h:Nat->Option SB
 used:Nat->Bool
def sQ (env:Nat->SV):Nat->ao:=fun s=>(env s).er
def dw (h:Nat->Option SB):Nat->Option av:=fun n=>(h n).map SB.er
def ai.er (σ:ai):St:={env:=sQ σ.env,h:=dw σ.h,used:=σ.used}
theorem yV (env:Nat->SV) (n:Nat) (v:SV):sQ (aQ env n v)=aQ (sQ env) n v.er:=by
 funext s;simp only[sQ,lc];split<;>rfl
theorem LK (h:Nat->Option SB) (n:Nat) (v:Option SB):dw (aQ h n v)=aQ (dw h) n (v.map SB.er):=by
 funext s;simp only[dw,lc];split<;>rfl
def ai.put (σ:ai) (d:Option Nat) (v:SV):ai:=
 match d with
 |some n=>{σ with env:=aQ σ.env n v}
 |none=>σ
def ai.ins (σ:ai) (n:Nat) (b:SB):Option ai:=
 match σ.used n with
 |true=>none
 |false=>some {σ with h:=aQ σ.h n (some b),used:=aQ σ.used n true}
def ai.fx (σ:ai) (n:Nat) (b:SB):ai:={σ with h:=aQ σ.h n (some b)}
def ai.del (σ:ai) (n:Nat):ai:={σ with h:=aQ σ.h n none}
theorem ai.eD (σ:ai) (d:Option Nat) (v:SV):(σ.put d v).er=σ.er.put d v.er:=by
 cases d with
 |none=>rfl
 |some n=>simp only[ai.put,ai.er,St.put,yV]
theorem ai.vE {σ σ1:ai} {n:Nat} {b:SB} (h:σ.ins n b=some σ1):σ.er.ins n b.er=some σ1.er:=by
 unfold ai.ins at h;split at h
 ·cases h
 ·rename_i hu;injection h with h;subst h;simp[St.ins,ai.er,hu,LK]
theorem ai.rJ (σ:ai) (n:Nat) (b:SB):(σ.fx n b).er=σ.er.fx n b.er:=by
 simp[ai.fx,ai.er,St.fx,LK]
theorem ai.LN (σ:ai) (n:Nat):(σ.del n).er=σ.er.del n:=by
 simp[ai.del,ai.er,St.del,LK]
def Ty.cells:(ts:List Ty)->Ty.DL ts->List SC
 |[],_=>[]
 |[t],x=>[.v t x]
 |t::u::ts,x=>.v t x.1::Ty.cells (u::ts) x.2
theorem Ty.m5:∀(ts:List Ty) (x:Ty.DL ts),(Ty.cells ts x).map SC.er=(Ty.aW ts x).map .c
 |[],_=>rfl
 |[t],x=>rfl
 |t::u::ts,x=>by simp only[Ty.cells,Ty.aW,zac,Ty.m5 (u::ts) x.2];rfl
def Tz (n k rs off:Nat) (t:Ty) (x:t.D):SC:=
 match t,x with
 |.list ts,xs=>.ct n k rs off ts.length (ae (α:=Ty.DL ts) xs)
 |.int k',x=>.v (.int k') x
 |.bool,x=>.v .bool x
def Ty.live (n k rs:Nat):Nat->(ts:List Ty)->Ty.DL ts->List SC
 |_,[],_=>[]
 |off,[t],x=>[Tz n k rs off t x]
 |off,t::u::ts,x=>Tz n k rs off t x.1::Ty.live n k rs (off+1) (u::ts) x.2
theorem abQ (n k rs off:Nat) (t:Ty) (x:t.D) (l:List C):jJ n k rs off (t.er x::l)=(Tz n k rs off t x).er::jJ n k rs (off+1) l:=by
 cases t with
 |int k'=>rfl
 |bool=>rfl
 |list ts=>
  exact congrArg (fun m=>aj.ct n k rs off ts.length m::jJ n k rs (off+1) l) (zaf (Ty.aW ts))
theorem Ty.abV (n k rs:Nat):∀(off:Nat) (ts:List Ty) (x:Ty.DL ts),(Ty.live n k rs off ts x).map SC.er=jJ n k rs off (Ty.aW ts x)
 |_,[],_=>rfl
 |off,[t],x=>(abQ n k rs off t x []).symm
 |off,t::u::ts,x=>by simp only[Ty.live,Ty.aW,abQ,zac,Ty.abV n k rs (off+1) (u::ts) x.2]
theorem abR (n k rs:Nat):∀(j off:Nat) (l:List C),(jJ n k rs off l).drop j=jJ n k rs (off+j) (l.drop j)
 |0,off,l=>by simp
 |j+1,off,[]=>by simp[jJ]
 |j+1,off,c::l=>by
  have ih:=abR n k rs j (off+1) l;rw[show off+1+j=off+(j+1) by omega] at ih;cases c<;>simpa[jJ] using ih
theorem abU (n k rs:Nat):∀(j off:Nat) (l:List C),(jJ n k rs off l).take j=jJ n k rs off (l.take j)
 |0,off,l=>by simp[jJ]
 |j+1,off,[]=>by simp[jJ]
 |j+1,off,c::l=>by cases c<;>simp[jJ,abU n k rs j (off+1) l]
theorem abS (n k rs:Nat):∀(off:Nat) (l:List C),(jJ n k rs off l).length=l.length
 |off,[]=>rfl
 |off,c::l=>by cases c<;>simp[jJ,abS n k rs (off+1) l]
theorem aud (n k rs off sz:Nat) (l:List C):sub (jJ n k rs 0 l) off sz=(sub l off sz).map (jJ n k rs off):=by
 unfold sub;rw[abS];split
 ·simp[abR,abU]
 ·rfl
theorem tQ {α β:Type} (f:α->β) (l:List α) (off sz:Nat):sub (l.map f) off sz=(sub l off sz).map (List.map f):=by
 unfold sub;rw[zaf];split
 ·simp[zaL,zaH]
 ·rfl
def AX (t:Ty):(ts:List Ty)->t.D->Ty.DL ts->Ty.DL (t::ts)
 |[],x,_=>x
 |_::_,x,y=>(x,y)
theorem Qu (t:Ty) (ts:List Ty) (x:t.D) (y:Ty.DL ts):Ty.aW (t::ts) (AX t ts x y)=t.er x::Ty.aW ts y:=by cases ts<;>rfl
def tu:(ts:List Ty)->List ((t:Ty)×t.D)->Option (Ty.DL ts)
 |[],[]=>some ()
 |t::ts,c::cs=>match Ty.cast c.1 t c.2,tu ts cs with
  |some y,some z=>some (AX t ts y z)
  |_,_=>none
 |_,_=>none
def dC (l:List ((t:Ty)×t.D)):List C:=l.map fun x=>x.1.er x.2
theorem zI:∀{ts:List Ty} {cs:List ((t:Ty)×t.D)} {y:Ty.DL ts},tu ts cs=some y->Ty.aW ts y=dC cs
 |[],[],y,h=>rfl
 |t::ts,c::cs,y,h=>by
  simp only[tu] at h;split at h
  ·rename_i y1 z h1 h2;injection h with h;subst h;have:=zI h2;simp only[dC] at this;simp only[Qu,dC,zac,Ty.Yf h1,this]
  ·cases h
 |[],_::_,y,h=>by simp[tu] at h
 |t::ts,[],y,h=>by simp[tu] at h
def Ty.jc:(ts:List Ty)->Ty.DL ts->List ((t:Ty)×t.D)
 |[],_=>[]
 |[t],x=>[⟨t,x⟩]
 |t::u::ts,x=>⟨t,x.1⟩::Ty.jc (u::ts) x.2
theorem Ty.rF:∀(ts:List Ty) (x:Ty.DL ts),dC (Ty.jc ts x)=Ty.aW ts x
 |[],_=>rfl
 |[t],x=>rfl
 |t::u::ts,x=>by
  have:=Ty.rF (u::ts) x.2;simp only[dC] at this;simp only[Ty.jc,Ty.aW,dC,zac,this]
def gn {ρ:Type} (b:Bool) (x:Option ρ):Option ρ:=match b with|true=>x|false=>none
def dv {ρ:Type} (a b:Nat) (x:Option ρ):Option ρ:=match Nat.beq a b with|true=>x|false=>none
theorem cZ {ρ:Type} {b:Bool} {x:Option ρ} {r:ρ} (h:gn b x=some r):b=true/\x=some r:=by
 cases b with
 |true=>exact⟨rfl,h⟩
 |false=>cases h
theorem bw {ρ:Type} {a b:Nat} {x:Option ρ} {r:ρ} (h:dv a b x=some r):a=b/\x=some r:=by
 unfold dv at h;split at h
 ·rename_i e;exact⟨zaa e,h⟩
 ·cases h
abbrev TD:=(t:Ty)×t.D
inductive dg where
 |t (n:Nat)
 |k (v:SV)
def dg.er:dg->MO
 |.t n=>.t n
 |.k v=>.k v.er
def ai.ev (σ:ai):dg->SV
 |.t n=>σ.env n
 |.k v=>v
theorem ai.eK (σ:ai) (x:dg):σ.er.ev x.er=(σ.ev x).er:=by cases x<;>rfl
def SV.cells?:SV->Option (Bool×List SC)
 |.one .cd=>none
 |.one c=>some (false,[c])
 |.agg cs=>some (true,cs)
 |.cf _=>none
theorem SV.m5 {v:SV} {b:Bool} {cs:List SC} (h:v.cells?=some (b,cs)):v.er.cells?=some (b,cs.map SC.er):=by
 cases v with
 |one c=>cases c<;>simp[SV.cells?] at h<;>(obtain⟨rfl,rfl⟩:=h;rfl)
 |agg cs'=>simp[SV.cells?] at h;obtain⟨rfl,rfl⟩:=h;rfl
 |cf xs=>simp[SV.cells?] at h
def CK:Bool->List SC->SV
 |true,cs=>.agg cs
 |false,[c]=>.one c
 |false,_=>.one .cd
theorem FF (b:Bool) (cs:List SC):(CK b cs).er=pT b (cs.map SC.er):=by
 cases b with
 |true=>rfl
 |false=>match cs with
  |[]=>rfl
  |[c]=>rfl
  |_::_::_=>rfl
section
variable {ρ:Type}
def Le (op:BinOp) (k:IntKind) (a b:Int) (c:(t:Ty)->t.D->Option ρ):Option ρ:=
 match op with
 |.add=>c (.int k) (br k a b)
 |.sub=>c (.int k) (lL k a b)
 |.mul=>c (.int k) (du k a b)
 |.quo=>(ad5 k a b).af fun x=>c (.int k) x
 |.rem=>(iM a b).af fun x=>c (.int k) x
 |.and=>c (.int k) (qI k a b)
 |.or=>c (.int k) (TZ k a b)
 |.xor=>c (.int k) (Xa k a b)
 |.eql=>c .bool (c7 a b)
 |.neq=>c .bool (mn a b)
 |.lss=>c .bool (cL a b)
 |.leq=>c .bool (iz a b)
 |.gtr=>c .bool (cL b a)
 |.geq=>c .bool (iz b a)
 |_=>none
theorem ah4 {op:BinOp} {k:IntKind} {a b:Int} {c:(t:Ty)->t.D->Option ρ} {r:ρ} (h:Le op k a b c=some r):
    ∃(t:Ty) (x:t.D),Dr op k a b=some (t.er x)/\c t x=some r:=by
  cases op<;>first
    |exact⟨.int k,_,rfl,h⟩
    |exact⟨.bool,_,rfl,h⟩
    |(simp only[Le,ad5,iM,fL] at h
      obtain⟨x,h1,h2⟩:=h;split at h1
      · cases h1
      · rename_i hb;injection h1 with h1;subst h1;exact⟨.int k,_,by simp[Dr,hb,Ty.er],h2⟩)
    |(simp[Le] at h)
def Oh (op:BinOp) (k:IntKind) (a b:Int) (c:(t:Ty)->t.D->Option ρ):Option ρ:=
 match op with
 |.shl=>(Ct k a b).af fun x=>c (.int k) x
 |.shr=>(Fk k a b).af fun x=>c (.int k) x
 |_=>none
theorem atC {op:BinOp} {k:IntKind} {a b:Int} {c:(t:Ty)->t.D->Option ρ} {r:ρ} (h:Oh op k a b c=some r):
    ∃(t:Ty) (x:t.D),IA op k a b=some (t.er x)/\c t x=some r:=by
  cases op<;>first
    |(simp only[Oh,Ct,Fk,fL] at h
      obtain⟨x,h1,h2⟩:=h;split at h1
      · cases h1
      · rename_i hb;injection h1 with h1;subst h1;exact⟨.int k,_,by simp[IA,hb,Ty.er],h2⟩)
    |(simp[Oh] at h)
def Qb (op:BinOp) (x y:SV) (c:(t:Ty)->t.D->Option ρ):Option ρ:=
 match x,y with
 |.one (.v (.int k) a),.one (.v (.int k') b)=>match BinOp.BN op with
  |true=>Oh op k a b c
  |false=>match decide (k=k') with
   |true=>Le op k a b c
   |false=>none
 |_,_=>none
theorem ah5 {op:BinOp} {x y:SV} {c:(t:Ty)->t.D->Option ρ} {r:ρ} (h:Qb op x y c=some r):
  ∃(t:Ty) (z:t.D),yP op x.er y.er=some (t.er z)/\c t z=some r:=by
 unfold Qb at h;split at h
 ·rename_i k a k' b;split at h
  ·rename_i e;obtain⟨t,z,h1,h2⟩:=atC h;exact⟨t,z,by simp[SV.er,SC.er,Ty.er,yP,e];exact h1,h2⟩
  ·rename_i e;split at h
   ·rename_i hk;have hk:=of_decide_eq_true hk;obtain⟨t,z,h1,h2⟩:=ah4 h;exact⟨t,z,by simp[SV.er,SC.er,Ty.er,yP,e,hk];subst hk;exact h1,h2⟩
   ·cases h
 ·cases h
def Qa (op:BinOp) (x y:SV) (c:(t:Ty)->t.D->Option ρ):Option ρ:=
 match x,y with
 |.one (.v .bool a),.one (.v .bool b)=>match op with
  |.eql=>c .bool (eqB a b)
  |.neq=>c .bool (neB a b)
  |_=>none
 |_,_=>none
theorem ah3 {op:BinOp} {x y:SV} {c:(t:Ty)->t.D->Option ρ} {r:ρ} (h:Qa op x y c=some r):
  ∃(t:Ty) (z:t.D),Dq op x.er y.er=some (t.er z)/\c t z=some r:=by
 unfold Qa at h;split at h
 ·rename_i a b;split at h
  ·exact⟨.bool,_,rfl,h⟩
  ·exact⟨.bool,_,rfl,h⟩
  ·cases h
 ·cases h
def WW (op:UnOp) (x:SV) (c:(t:Ty)->t.D->Option ρ):Option ρ:=
 match x with
 |.one (.v .bool a)=>match op with
  |.not=>c .bool (fw a)
  |_=>none
 |.one (.v (.int k) a)=>match op with
  |.neg=>c (.int k) (aqQ k a)
  |_=>none
 |_=>none
theorem auE {op:UnOp} {x:SV} {c:(t:Ty)->t.D->Option ρ} {r:ρ} (h:WW op x c=some r):
  ∃(t:Ty) (z:t.D),FH op x.er=some (t.er z)/\c t z=some r:=by
 unfold WW at h;split at h
 ·rename_i a;split at h
  ·exact⟨.bool,_,rfl,h⟩
  ·cases h
 ·rename_i k a;split at h
  ·exact⟨.int k,_,rfl,h⟩
  ·cases h
 ·cases h
def SV.eV:SV->Option Int
 |.one (.v (.int k) n)=>some n
 |_=>none
theorem SV.BL {v:SV} {n:Int} (h:v.eV=some n):v.er.eV=some n:=by
 unfold SV.eV at h;split at h
 ·injection h with h;subst h;rfl
 ·cases h
def IL (h:Nat->Option SB) (p:SC) (sz:Nat) (c:List SC->Option ρ):Option ρ:=
 match p with
 |.ptr n k aR off=>match h n with
  |some (.box cs)=>dv k 0 (match sub cs off sz with|some l=>c l|none=>none)
  |some (.row _ m ts xs)=>dv aR ts.length ((cW xs k).af fun e=>
   match sub (match m with|.live=>Ty.live n k ts.length 0 ts e|_=>Ty.cells ts e) off sz with
   |some l=>c l
   |none=>none)
  |none=>none
 |.dr ts x off=>match sub (Ty.cells ts x) off sz with|some l=>c l|none=>none
 |.cN ts x off j n s len=>match Nat.beq off j&&Nat.beq sz 1 with
  |true=>c [.sl n s 0 len]
  |false=>gn (Nat.ble (off+sz) j) (match sub (Ty.cells ts x) off sz with|some l=>c l|none=>none)
 |_=>none
theorem V5 {h:Nat->Option SB} {p:SC} {sz:Nat} {c:List SC->Option ρ} {r:ρ} (hx:IL h p sz c=some r):
  ∃l,loadAt (dw h) p.er sz=some (l.map SC.er)/\c l=some r:=by
 unfold IL at hx;split at hx
 ·rename_i n k aR off;split at hx
  ·rename_i cs hn;have bX:=(bw hx).1;replace hx:=(bw hx).2;subst bX;split at hx
   ·rename_i l e;refine⟨l,?_,hx⟩;simp[SC.er,loadAt,dw,hn,SB.er,tQ,e]
   ·cases hx
  ·rename_i gr m ts xs hn;have bX:=(bw hx).1;replace hx:=(bw hx).2;subst bX;rw[fL] at hx;obtain⟨e,he,hx⟩:=hx
   replace he:xs[k]? =some e:=he
   split at hx
   ·rename_i l hl;refine⟨l,?_,hx⟩;have nj:(List.map (Ty.aW ts) xs)[k]? =some (Ty.aW ts e):=by rw[zag,he];rfl
    simp only[SC.er,loadAt,dw,hn,zab,SB.er,if_true,nj];cases m with
    |live=>
     simp only at hl;have:=congrArg (Option.map (List.map SC.er)) hl;rw[<-tQ,Ty.abV,aud] at this;cases hs:sub (Ty.aW ts e) off sz with
     |none=>rw[hs] at this;cases this
     |some l'=>rw[hs] at this;simpa using this
    |bc=>
     simp only at hl;have:=congrArg (Option.map (List.map SC.er)) hl;rw[<-tQ,Ty.m5,tQ] at this;cases hs:sub (Ty.aW ts e) off sz with
     |none=>rw[hs] at this;cases this
     |some l'=>rw[hs] at this;simpa using this
    |aL=>
     simp only at hl;have:=congrArg (Option.map (List.map SC.er)) hl;rw[<-tQ,Ty.m5,tQ] at this;cases hs:sub (Ty.aW ts e) off sz with
     |none=>rw[hs] at this;cases this
     |some l'=>rw[hs] at this;simpa using this
   ·cases hx
  ·cases hx
 ·rename_i ts x off;split at hx
  ·rename_i l hl;refine⟨l,?_,hx⟩;have:=congrArg (Option.map (List.map SC.er)) hl;rw[<-tQ,Ty.m5,tQ] at this;simpa[SC.er,loadAt] using this
  ·cases hx
 ·rename_i ts x off j n s len;split at hx
  ·rename_i hc;simp only[zai] at hc;have h1:=zaa hc.1;have h2:=zaa hc.2;subst h1 h2;exact⟨_,by simp[SC.er,loadAt],hx⟩
  ·rename_i hc;have aE:¬(off=j/\sz=1):=by
    rintro⟨rfl,rfl⟩;simp at hc
   have hb:=(cZ hx).1;replace hx:=(cZ hx).2;have kf:=zaJ hb;split at hx
   ·rename_i l hl;refine⟨l,?_,hx⟩;have:=congrArg (Option.map (List.map SC.er)) hl;rw[<-tQ,Ty.m5,tQ] at this;simp only[SC.er,loadAt];rw[if_neg aE,if_pos kf];cases hs:sub (Ty.aW ts x) off sz with
    |none=>rw[hs] at this;cases this
    |some l'=>rw[hs] at this;simpa using this
   ·cases hx
 ·cases hx
theorem QA:∀{ts:List Ty} {e:Ty.DL ts} {off:Nat} {x:TD},(Ty.jc ts e)[off]? =some x->(Ty.aW ts e)[off]? =some (x.1.er x.2):=by
 intro ts e off x h;rw[<-Ty.rF,dC,zag,h];rfl
def Aj (h:Nat->Option SB) (c:SC) (k:(t:Ty)->t.D->Option ρ):Option ρ:=
 match c with
 |.v t x=>k t x
 |.nil ts=>match ts with
  |[]=>none
  |t::us=>k (.list (t::us)) ([]:List (Ty.DL (t::us)))
 |.sl n sz lo len=>match h n with
  |some (.row _ _ ts xs)=>dv ts.length sz ((cM xs lo len).af fun ys=>k (.list ts) ys)
  |_=>none
 |.ct n kk aR off sz len=>match h n with
  |some (.row _ .live ts xs)=>dv ts.length aR ((cW xs kk).af fun e=>match(Ty.jc ts e)[off]? with
   |some ⟨t,x⟩=>k t x
   |none=>none)
  |_=>none
 |_=>none
theorem ag8 {ts:List Ty} {xs ys:List (Ty.DL ts)} {lo len:Nat} (h:cM xs lo len=some ys):lo+len<=xs.length/\((List.map (Ty.aW ts) xs).drop lo).take len=List.map (Ty.aW ts) ys:=by
 unfold cM at h;split at h
 ·rename_i hl;injection h with h;subst h;exact⟨hl,by simp[zaL,zaH]⟩
 ·cases h
theorem FC {h:Nat->Option SB} {c:SC} {k:(t:Ty)->t.D->Option ρ} {r:ρ} (hx:Aj h c k=some r):
  ∃(t:Ty) (x:t.D),dq (dw h) c.er=some (t.er x)/\k t x=some r:=by
 unfold Aj at hx;split at hx
 ·exact⟨_,_,rfl,hx⟩
 ·split at hx
  ·cases hx
  ·rename_i t us;exact⟨.list (t::us),[],by simp[SC.er,dq,Ty.er],hx⟩
 ·rename_i n sz lo len;split at hx
  ·rename_i gr m ts xs hn;have bX:=(bw hx).1;replace hx:=(bw hx).2;subst bX;rw[fL] at hx;obtain⟨ys,hw,hx⟩:=hx;obtain⟨w1,w2⟩:=ag8 hw;refine⟨.list ts,ys,?_,hx⟩;simp only[SC.er,dq,dw,hn,zab,SB.er,zaf,Ty.er,w2,w1,and_self,if_true]
  ·cases hx
 ·rename_i n kk aR off sz len;split at hx
  ·rename_i gr ts xs hn;have bX:=(bw hx).1;replace hx:=(bw hx).2;subst bX;rw[fL] at hx;obtain⟨e,he,hx⟩:=hx
   replace he:xs[kk]? =some e:=he
   split at hx
   ·rename_i t x hd;refine⟨t,x,?_,hx⟩;have:=QA hd;simp only[SC.er,dq,dw,hn,zab,SB.er,if_true,zag,he,zaK,this]
   ·cases hx
  ·cases hx
 ·cases hx
def CH (h:Nat->Option SB):List SC->(List TD->Option ρ)->Option ρ
 |[],k=>k []
 |c::cs,k=>Aj h c fun t x=>CH h cs fun l=>k (⟨t,x⟩::l)
theorem I2 {h:Nat->Option SB}:∀{cs:List SC} {k:List TD->Option ρ} {r:ρ},CH h cs k=some r->
  ∃l,jP (dw h) (cs.map SC.er)=some (dC l)/\k l=some r
 |[],k,r,hx=>⟨[],rfl,hx⟩
 |c::cs,k,r,hx=>by
  simp only[CH] at hx;obtain⟨t,x,h1,h2⟩:=FC hx;obtain⟨l,h3,h4⟩:=I2 h2;exact⟨⟨t,x⟩::l,by simp[jP,h1,h3,dC],h4⟩
abbrev cE:=K×List TD
def cE.er (d:cE):Dv:=(d.1,dC d.2)
def WD (h:Nat->Option SB) (v:SV) (k:cE->Option ρ):Option ρ:=
 match v with
 |.one (.ptr n kk sz off)=>match h n with
  |some (.box cs)=>dv kk 0 (dv off 0 (CH h cs fun l=>k (.ptr,l)))
  |_=>none
 |.one (.dr ts x off)=>dv off 0 (k (.ptr,Ty.jc ts x))
 |.one c=>Aj h c fun t x=>k (.one,[⟨t,x⟩])
 |.agg cs=>CH h cs fun l=>k (.agg,l)
 |.cf _=>none
theorem auh {h:Nat->Option SB} {v:SV} {k:cE->Option ρ} {r:ρ} (hx:WD h v k=some r):
  ∃d:cE,j5 (dw h) v.er=some d.er/\k d=some r:=by
 unfold WD at hx;split at hx
 ·rename_i n kk sz off;split at hx
  ·rename_i cs hn;have bX:=(bw hx).1;replace hx:=(bw hx).2;subst bX;have bX:=(bw hx).1;replace hx:=(bw hx).2;subst bX;obtain⟨l,h1,h2⟩:=I2 hx;exact⟨(.ptr,l),by simp[SV.er,SC.er,j5,dw,hn,SB.er];exact⟨_,h1,rfl⟩,h2⟩
  ·cases hx
 ·rename_i ts x off;have bX:=(bw hx).1;replace hx:=(bw hx).2;subst bX;exact⟨(.ptr,Ty.jc ts x),by simp[SV.er,SC.er,j5,cE.er,Ty.rF],hx⟩
 ·rename_i c hp hd;obtain⟨t,x,h1,h2⟩:=FC hx;refine⟨(.one,[⟨t,x⟩]),?_,h2⟩;cases c with
  |ptr n kk sz off=>exact absurd rfl (hp n kk sz off)
  |dr ts x off=>exact absurd rfl (hd ts x off)
  |v t' x'=>simp only[SV.er,SC.er,j5] at h1⊢;rw[h1];rfl
  |nil ts=>simp only[SV.er,SC.er,j5] at h1⊢;rw[h1];rfl
  |sl n sz lo len=>simp only[SV.er,SC.er,j5] at h1⊢;rw[h1];rfl
  |ct n a b c' d e=>simp only[SV.er,SC.er,j5] at h1⊢;rw[h1];rfl
  |dY n a b c' d e=>simp only[SV.er,SC.er,j5] at h1⊢;rw[h1];rfl
  |cN ts x a b n c' d=>simp only[SV.er,SC.er,j5] at h1⊢;rw[h1];rfl
  |fn f c9=>simp only[SV.er,SC.er,j5] at h1⊢;rw[h1];rfl
  |cd=>simp only[SV.er,SC.er,j5] at h1⊢;rw[h1];rfl
 ·obtain⟨l,h1,h2⟩:=I2 hx;exact⟨(.agg,l),by simp[SV.er,j5,h1,cE.er],h2⟩
 ·cases hx
def I1 (h:Nat->Option SB):List SV->(List cE->Option ρ)->Option ρ
 |[],k=>k []
 |v::vs,k=>WD h v fun d=>I1 h vs fun l=>k (d::l)
theorem WE {h:Nat->Option SB}:∀{vs:List SV} {k:List cE->Option ρ} {r:ρ},I1 h vs k=some r->
  ∃l,ot (dw h) (vs.map SV.er)=some (l.map cE.er)/\k l=some r
 |[],k,r,hx=>⟨[],rfl,hx⟩
 |v::vs,k,r,hx=>by
  simp only[I1] at hx;obtain⟨d,h1,h2⟩:=auh hx;obtain⟨l,h3,h4⟩:=WE h2;exact⟨d::l,by simp[ot,h1,h3],h4⟩
def Mode.own:Mode->Bool
 |.aL=>false
 |_=>true
theorem Mode.ari (m:Mode):decide (m≠ .aL)=m.own:=by cases m<;>rfl
def Wu (σ:ai) (c:SC) (k:(t:Ty)->t.D->Bool->ai->Option ρ):Option ρ:=
 match c with
 |.v t x=>k t x t.gK σ
 |.nil ts=>match ts with
  |[]=>none
  |t::us=>k (.list (t::us)) ([]:List (Ty.DL (t::us))) true σ
 |.sl n sz lo len=>match σ.h n with
  |some (.row _ m ts xs)=>dv ts.length sz (dv lo 0 ((fg xs len).af fun ys=>k (.list ts) ys m.own (σ.del n)))
  |_=>none
 |_=>none
theorem agK {ts:List Ty} {xs ys:List (Ty.DL ts)} {len:Nat} (h:fg xs len=some ys):len<=xs.length/\(List.map (Ty.aW ts) xs).take len=List.map (Ty.aW ts) ys:=by
 unfold fg at h;split at h
 ·rename_i hl;injection h with h;subst h;exact⟨hl,by simp[zaH]⟩
 ·cases h
theorem at6 {σ:ai} {c:SC} {k:(t:Ty)->t.D->Bool->ai->Option ρ} {r:ρ} (hx:Wu σ c k=some r):
  ∃(t:Ty) (x:t.D) (o:Bool) (σ1:ai),σ.er.io c.er=some (t.er x,o,σ1.er)/\k t x o σ1=some r:=by
 unfold Wu at hx;split at hx
 ·rename_i t x;exact⟨_,_,_,_,by simp only[SC.er,St.io,Ty.z7],hx⟩
 ·split at hx
  ·cases hx
  ·rename_i t us;exact⟨.list (t::us),[],true,σ,by simp[SC.er,St.io,Ty.er],hx⟩
 ·rename_i n sz lo len;split at hx
  ·rename_i gr m ts xs hn;have bX:=(bw hx).1;replace hx:=(bw hx).2;subst bX;have bX:=(bw hx).1;replace hx:=(bw hx).2;subst bX;rw[fL] at hx;obtain⟨ys,hw,hx⟩:=hx;obtain⟨w1,w2⟩:=agK hw;refine⟨.list ts,ys,m.own,σ.del n,?_,hx⟩;have bU:σ.er.h n=some (.row gr m ts.length (List.map (Ty.aW ts) xs)):=by simp[ai.er,dw,hn,SB.er]
   simp only[SC.er,St.io,bU,zaf,w1,w2,and_self,if_true,Ty.er,ai.LN,Mode.ari]
  ·cases hx
 ·cases hx
def CF (σ:ai):List SC->(List TD->Bool->ai->Option ρ)->Option ρ
 |[],k=>k [] true σ
 |c::cs,k=>Wu σ c fun t x o σ1=>CF σ1 cs fun l o' σ2=>k (⟨t,x⟩::l) (o&&o') σ2
theorem I0:∀{cs:List SC} {σ:ai} {k:List TD->Bool->ai->Option ρ} {r:ρ},CF σ cs k=some r->
  ∃(l:List TD) (o:Bool) (σ1:ai),σ.er.gY (cs.map SC.er)=some (dC l,o,σ1.er)/\k l o σ1=some r
 |[],σ,k,r,hx=>⟨[],true,σ,rfl,hx⟩
 |c::cs,σ,k,r,hx=>by
  simp only[CF] at hx;obtain⟨t,x,o,σ1,h1,h2⟩:=at6 hx;obtain⟨l,o',σ2,h3,h4⟩:=I0 h2;exact⟨⟨t,x⟩::l,o&&o',σ2,by simp[St.gY,h1,h3,dC],h4⟩
def OJ (ts:List Ty) (σ:ai):List SV->(List (Ty.DL ts)->Bool->ai->Option ρ)->Option ρ
 |[],k=>k [] true σ
 |v::vs,k=>match v.cells? with
  |some (_,cs)=>CF σ cs fun l o σ1=>match tu ts l with
   |some e=>OJ ts σ1 vs fun es o' σ2=>k (e::es) (o&&o') σ2
   |none=>none
  |none=>none
theorem agP:∀{cs:List aj} {σ σ1:St} {l:List C} {o:Bool},σ.gY cs=some (l,o,σ1)->l.length=cs.length
 |[],σ,σ1,l,o,h=>by simp[St.gY] at h;rw[h.1];rfl
 |c::cs,σ,σ1,l,o,h=>by
  simp only[St.gY] at h;split at h
  ·split at h
   ·rename_i e2;injection h with h;injection h with h h2;subst h;simp[agP e2]
   ·cases h
  ·cases h
theorem agz {ts:List Ty}:∀{vs:List SV} {σ:ai} {k:List (Ty.DL ts)->Bool->ai->Option ρ} {r:ρ},OJ ts σ vs k=some r->
  ∃(es:List (Ty.DL ts)) (o:Bool) (σ1:ai),σ.er.oe ts.length (vs.map SV.er)=some (List.map (Ty.aW ts) es,o,σ1.er)/\k es o σ1=some r
 |[],σ,k,r,hx=>⟨[],true,σ,rfl,hx⟩
 |v::vs,σ,k,r,hx=>by
  simp only[OJ] at hx;split at hx
  ·rename_i b cs hc;obtain⟨l,o,σ1,h1,h2⟩:=I0 hx;split at h2
   ·rename_i e he;obtain⟨es,o',σ2,h3,h4⟩:=agz h2;have hl:(cs.map SC.er).length=ts.length:=by
     have a:=agP h1;rw[<-zI he,Ty.DO] at a;exact a.symm
    refine⟨e::es,o&&o',σ2,?_,h4⟩;simp only[zac,St.oe,SV.m5 hc,hl,if_true,h1,h3,zI he]
   ·cases h2
  ·cases hx
end
section
def bj:List (List Ty)->Type
 |[]=>Unit
 |ts::l=>match l with
  |[]=>Ty.DL ts
  |us::l'=>Ty.DL ts×bj (us::l')
abbrev ar:=List (K×List Ty)
abbrev ar.bi (s:ar):List (List Ty):=s.map (·.2)
def dL:(as:ar)->bj as.bi->List Dv
 |[],_=>[]
 |[a],x=>[(a.1,Ty.aW a.2 x)]
 |a::b::as,x=>(a.1,Ty.aW a.2 x.1)::dL (b::as) x.2
def je:(as:ar)->bj as.bi->List cE
 |[],_=>[]
 |[a],x=>[(a.1,Ty.jc a.2 x)]
 |a::b::as,x=>(a.1,Ty.jc a.2 x.1)::je (b::as) x.2
theorem vA:∀(as:ar) (x:bj as.bi),(je as x).map cE.er=dL as x
 |[],_=>rfl
 |[a],x=>congrArg (fun l=>[((a.1,l):Dv)]) (Ty.rF a.2 x)
 |a::b::as,x=>by
  have:=vA (b::as) x.2;simp only[je,dL,zac,cE.er,Ty.rF,this]
def K.beq:K->K->Bool
 |.one,.one=>true
 |.agg,.agg=>true
 |.ptr,.ptr=>true
 |_,_=>false
theorem K.beq_eq {a b:K} (h:K.beq a b=true):a=b:=by cases a<;>cases b<;>first|rfl|cases h
def Lt (ts:List Ty):(l:List (List Ty))->Ty.DL ts->bj l->bj (ts::l)
 |[],x,_=>x
 |_::_,x,y=>(x,y)
theorem Y5 (a:K×List Ty):∀(as:ar) (x:Ty.DL a.2) (y:bj (ar.bi as)),dL (a::as) (Lt a.2 (ar.bi as) x y)=(a.1,Ty.aW a.2 x)::dL as y
 |[],_,_=>rfl
 |_::_,_,_=>rfl
def pI:(as:ar)->List cE->Option (bj as.bi)
 |[],[]=>some ()
 |a::as,d::ds=>gn (K.beq a.1 d.1) (match tu a.2 d.2,pI as ds with
  |some x,some y=>some (Lt a.2 (ar.bi as) x y)
  |_,_=>none)
 |_,_=>none
theorem tv:∀{as:ar} {ds:List cE} {x:bj as.bi},pI as ds=some x->ds.map cE.er=dL as x
 |[],[],x,h=>rfl
 |a::as,d::ds,x,h=>by
  simp only[pI] at h;have h1:=(cZ h).1;replace h2:=(cZ h).2;split at h2
  ·rename_i y z e1 e2;injection h2 with h2;subst h2;rw[Y5,zac,tv e2,cE.er,<-K.beq_eq h1,<-zI e1]
  ·cases h2
 |[],_::_,x,h=>by simp[pI] at h
 |a::as,[],x,h=>by simp[pI] at h
mutual
theorem Ty.Y9:∀(t:Ty) (x y:t.D),t.er x=t.er y->x=y
 |.int k,x,y,h=>by simp only[Ty.er] at h;injection h
 |.bool,x,y,h=>by simp only[Ty.er] at h;injection h
 |.list ts,x,y,h=>by simp only[Ty.er] at h;injection h with _ h;exact Ty.Y8 ts x y h
theorem Ty.Y8:∀(ts:List Ty) (xs ys:List (Ty.DL ts)),List.map (Ty.aW ts) xs=List.map (Ty.aW ts) ys->xs=ys
 |ts,[],[],h=>rfl
 |ts,x::xs,y::ys,h=>by
  simp only[zac,zaM] at h;rw[Ty.LM ts x y h.1,Ty.Y8 ts xs ys h.2]
 |ts,[],_::_,h=>by simp at h
 |ts,_::_,[],h=>by simp at h
theorem Ty.LM:∀(ts:List Ty) (x y:Ty.DL ts),Ty.aW ts x=Ty.aW ts y->x=y
 |[],x,y,h=>rfl
 |[t],x,y,h=>by simp only[Ty.aW,zaM,and_true] at h;exact Ty.Y9 t x y h
 |t::u::ts,x,y,h=>by
  simp only[Ty.aW,zaM] at h;exact zbe (Ty.Y9 t x.1 y.1 h.1) (Ty.LM (u::ts) x.2 y.2 h.2)
end
theorem Y6:∀(as:ar) (x y:bj as.bi),dL as x=dL as y->x=y
 |[],x,y,h=>rfl
 |[a],x,y,h=>by simp[dL] at h;exact Ty.LM a.2 x y h
 |a::b::as,x,y,h=>by
  simp only[dL,zaM,Prod.mk.injEq,true_and] at h;exact zbe (Ty.LM a.2 x.1 y.1 h.1) (Y6 (b::as) x.2 y.2 h.2)
structure aw where
 id:FuncId
 args:ar
 mu:aU
 ax:ar
 F:bj args.bi->Option (bj ax.bi)
open Classical in
noncomputable def aw.M (fn:aw) (ds:List Dv):Option (List Dv):=
 if h:∃x,dL fn.args x=ds then(fn.F h.choose).map (dL fn.ax) else none
theorem aw.wT (fn:aw) (x:bj fn.args.bi):fn.M (dL fn.args x)=(fn.F x).map (dL fn.ax):=by
 have h:∃y,dL fn.args y=dL fn.args x:=⟨x,rfl⟩;unfold aw.M;rw[dif_pos h,Y6 _ _ _ h.choose_spec]
theorem aw.FU {fn:aw} {ds rs:List Dv} (h:fn.M ds=some rs):∃x y,ds=dL fn.args x/\fn.F x=some y/\rs=dL fn.ax y:=by
 unfold aw.M at h;split at h
 ·rename_i e;rw[zaw] at h;obtain⟨y,h1,h2⟩:=h;exact⟨_,y,e.choose_spec.symm,h1,h2.symm⟩
 ·cases h
def aU.jC:aU->Nat
 |[]=>0
 |s::l=>(s.filter Option.isSome).length+aU.jC l
def wH (k:Nat) (rs:List Dv):List Dv×List C:=(rs.take k,(rs.drop k).flatMap (·.2))
noncomputable def aw.MM (fn:aw) (ds:List Dv):Option (List Dv×List C):=(fn.M ds).map (wH (fn.ax.length - fn.mu.jC))
def aU.gH:aU->Nat
 |[]=>0
 |[[some .aL]]=>2
 |[some .aL,some .aL]::_=>3
 |[some .aL,some .aL,some .aL]::_=>4
 |_=>1
def D7:ar->Bool
 |[]=>false
 |(.ptr,_)::_=>true
 |_::as=>D7 as
def r9 (as:ar):Nat:=match D7 as with
 |true=>1
 |false=>0
noncomputable def aw.MV (fn:aw) (ds:List Dv):Option (List Dv×List C):=(fn.M ds).map (wH (fn.ax.length - r9 fn.args))
def W5:List Dv->Option (Nat×Nat)
 |[(.one,[.int _ a]),(.one,[.int _ b])]=>some (a.toNat,(b - a).toNat)
 |_=>none
noncomputable def aw.MW (fn:aw) (ds:List Dv):Option (Nat×Nat):=(fn.M ds).bind W5
def aU.lM (s:aU):Nat:=s.length - 2
noncomputable def aw.MX (fn:aw) (ds:List Dv):Option (List Dv×List C):=(fn.M ds).map (wH (fn.ax.length - 1))
noncomputable def df (T:List aw):aZ:=
 ⟨T.filterMap fun fn=>match fn.mu.gH with|0=>some (fn.id,fn.M)|_=>none,T.filterMap fun fn=>match fn.mu.gH with|1=>some (fn.id,fn.mu,fn.MM)|_=>none,
  T.filterMap fun fn=>match fn.mu.gH with|2=>some (fn.id,fn.MV)|_=>none,T.filterMap fun fn=>match fn.mu.gH with|3=>some (fn.id,fn.mu.tl,fn.MW)|_=>none,
  T.filterMap fun fn=>match fn.mu.gH with|4=>some (fn.id,fn.mu.lM,fn.MX)|_=>none⟩
def aw.find:List aw->FuncId->Option aw
 |[],_=>none
 |fn::l,f=>match Nat.beq f fn.id with
  |true=>some fn
  |false=>aw.find l f
theorem aw.QP:∀{T:List aw} {f:FuncId} {fn:aw},aw.find T f=some fn->fn.mu.gH=0->aZ.find (df T).pure f=some fn.M
 |[],f,fn,h,_=>by simp[aw.find] at h
 |g::l,f,fn,h,hm=>by
  simp only[aw.find] at h;split at h
  ·rename_i e;injection h with h;subst h;simp only[df,zaj,hm,aZ.find];rw[if_pos (zaa e)]
  ·rename_i e;have ih:aZ.find (df l).pure f=some fn.M:=aw.QP h hm;simp only[df,zaj] at ih⊢;by_cases hg:g.mu.gH=0
   ·simp only[hg,aZ.find];rw[if_neg (fun he=>by rw[he,zaq] at e;cases e)];exact ih
   ·split
    ·exact ih
    ·rename_i z hz;split at hz
     ·rename_i h0;exact absurd h0 hg
     ·cases hz
theorem aw.QO:∀{T:List aw} {f:FuncId} {fn:aw},aw.find T f=some fn->fn.mu.gH=1->aZ.ph (df T).wi f=some (fn.mu,fn.MM)
 |[],f,fn,h,_=>by simp[aw.find] at h
 |g::l,f,fn,h,hm=>by
  simp only[aw.find] at h;split at h
  ·rename_i e;injection h with h;subst h;simp only[df,zaj,hm,aZ.ph];rw[if_pos (zaa e)]
  ·rename_i e;have ih:aZ.ph (df l).wi f=some (fn.mu,fn.MM):=aw.QO h hm;simp only[df,zaj] at ih⊢;by_cases hg:g.mu.gH=1
   ·simp only[hg,aZ.ph];rw[if_neg (fun he=>by rw[he,zaq] at e;cases e)];exact ih
   ·split
    ·exact ih
    ·rename_i z hz;split at hz
     ·rename_i h0;exact absurd h0 hg
     ·cases hz
theorem aw.Zy:∀{T:List aw} {f:FuncId} {fn:aw},aw.find T f=some fn->fn.mu.gH=2->aZ.nc (df T).vs f=some fn.MV
 |[],f,fn,h,_=>by simp[aw.find] at h
 |g::l,f,fn,h,hm=>by
  simp only[aw.find] at h;split at h
  ·rename_i e;injection h with h;subst h;simp only[df,zaj,hm,aZ.nc];rw[if_pos (zaa e)]
  ·rename_i e;have ih:aZ.nc (df l).vs f=some fn.MV:=aw.Zy h hm;simp only[df,zaj] at ih⊢;by_cases hg:g.mu.gH=2
   ·simp only[hg,aZ.nc];rw[if_neg (fun he=>by rw[he,zaq] at e;cases e)];exact ih
   ·split
    ·exact ih
    ·rename_i z hz;split at hz
     ·rename_i h0;exact absurd h0 hg
     ·cases hz
def yc (m:Mode) (σ:ai):Nat->List TD->Option (List SC×Nat×ai)
 |nm,[]=>some ([],nm,σ)
 |nm,⟨t,x⟩::cs=>match t,x with
  |.list ts,xs=>match σ.ins nm (.row true m ts xs) with
   |some σ1=>match yc m σ1 (nm+1) cs with
    |some (l,gV,σ2)=>some (.sl nm ts.length 0 (ae (α:=Ty.DL ts) xs)::l,gV,σ2)
    |none=>none
   |none=>none
  |.int k,x=>match yc m σ nm cs with
   |some (l,gV,σ2)=>some (.v (.int k) x::l,gV,σ2)
   |none=>none
  |.bool,x=>match yc m σ nm cs with
   |some (l,gV,σ2)=>some (.v .bool x::l,gV,σ2)
   |none=>none
theorem Ok (m:Mode):∀{cs:List TD} {σ σ1:ai} {nm gV:Nat} {l:List SC},yc m σ nm cs=some (l,gV,σ1)->
  σ.er.imp m nm (dC cs)=some (l.map SC.er,gV,σ1.er)
 |[],σ,σ1,nm,gV,l,h=>by
  simp only[yc] at h;injection h with h;injection h with h1 h2;injection h2 with h2 h3;subst h1 h2 h3;rfl
 |⟨.list ts,xs⟩::cs,σ,σ2,nm,gV,l,h=>by
  simp only[yc] at h;split at h
  ·rename_i σ1 e1;split at h
   ·rename_i l' H8 iD e2;injection h with h;injection h with h1 h2;injection h2 with h2 h3;subst h1 h2 h3;have i1:σ.er.ins nm (.row true m ts.length (List.map (Ty.aW ts) xs))=some σ1.er:=ai.vE e1;have i2:=Ok m e2;simp only[dC] at i2;simp only[dC,zac,Ty.er,St.imp,i1,i2,SC.er];exact congrArg (fun q=>some (aj.sl nm ts.length 0 q::List.map SC.er l',H8,iD.er)) (zaf (Ty.aW ts))
   ·cases h
  ·cases h
 |⟨.int k,x⟩::cs,σ,σ2,nm,gV,l,h=>by
  simp only[yc] at h;split at h
  ·rename_i l' H8 iD e2;injection h with h;injection h with h1 h2;injection h2 with h2 h3;subst h1 h2 h3;have i2:=Ok m e2;simp only[dC] at i2;simp only[dC,zac,Ty.er,St.imp,i2,SC.er]
  ·cases h
 |⟨.bool,x⟩::cs,σ,σ2,nm,gV,l,h=>by
  simp only[yc] at h;split at h
  ·rename_i l' H8 iD e2;injection h with h;injection h with h1 h2;injection h2 with h2 h3;subst h1 h2 h3;have i2:=Ok m e2;simp only[dC] at i2;simp only[dC,zac,Ty.er,St.imp,i2,SC.er]
  ·cases h
def K.isAgg:K->Bool
 |.agg=>true
 |_=>false
def K.wb:K->Bool
 |.ptr=>true
 |_=>false
def Aa (m:Mode) (σ:ai):Nat->List cE->Option (List (Bool×List SC)×ai)
 |_,[]=>some ([],σ)
 |nm,(k,cs)::ds=>match k.wb with
  |true=>none
  |false=>match yc m σ nm cs with
   |some (l,gV,σ1)=>match Aa m σ1 gV ds with
    |some (ls,σ2)=>some ((k.isAgg,l)::ls,σ2)
    |none=>none
   |none=>none
theorem IC (m:Mode):∀{ds:List cE} {σ σ1:ai} {nm:Nat} {ls:List (Bool×List SC)},Aa m σ nm ds=some (ls,σ1)->
  σ.er.kG m nm (ds.map cE.er)=some (ls.map (fun x=>(x.1,x.2.map SC.er)),σ1.er)
 |[],σ,σ1,nm,ls,h=>by
  simp only[Aa] at h;injection h with h;injection h with h1 h2;subst h1 h2;rfl
 |(k,cs)::ds,σ,σ2,nm,ls,h=>by
  simp only[Aa] at h;split at h
  ·cases h
  ·rename_i hk;split at h
   ·rename_i l gV σ1 e1;split at h
    ·rename_i HU iD e2;injection h with h;injection h with h1 h2;subst h1 h2;have i1:=Ok m e1;have i2:=IC m e2;have i2':σ1.er.kG m gV (List.map cE.er ds)=some (HU.map (fun x=>(x.1,x.2.map SC.er)),iD.er):=i2;cases k with
     |ptr=>cases hk
     |one=>simp only[zac,cE.er,St.kG,i1,i2'];rfl
     |agg=>simp only[zac,cE.er,St.kG,i1,i2'];rfl
    ·cases h
   ·cases h
def Af:List (Bool×List SC)->SV
 |[(ag,cs)]=>CK ag cs
 |l=>.cf l
theorem CD (l:List (Bool×List SC)):(Af l).er=nC (l.map fun x=>(x.1,x.2.map SC.er)):=by
 match l with
 |[]=>rfl
 |[(ag,cs)]=>exact FF ag cs
 |_::_::_=>rfl
section
variable {ρ:Type}
def Oe (T:List aw) (m:Mode) (d:Option Nat) (f:FuncId) (as:List SV) (σ:ai) (k:ai->Option ρ):Option ρ:=
 match aw.find T f with
 |some fn=>match fn.mu.gH with
  |0=>I1 σ.h as fun ds=>match pI fn.args ds with
   |some x=>(fn.F x).af fun rs=>match Aa m σ (tw d) (je fn.ax rs) with
    |some (ls,σ1)=>k (σ1.put d (Af ls))
    |none=>none
   |none=>none
  |_=>none
 |none=>none
theorem afF {T:List aw} {m:Mode} {d:Option Nat} {f:FuncId} {as:List SV} {σ:ai} {k:ai->Option ρ} {r:ρ} (h:Oe T m d f as σ k=some r):
  ∃σ1:ai,w7 (df T) m d f (as.map SV.er) σ.er=some σ1.er/\k σ1=some r:=by
 unfold Oe at h;split at h
 ·rename_i fn hf;split at h
  ·rename_i vN;obtain⟨ds,h1,h2⟩:=WE h;split at h2
   ·rename_i x hx;rw[fL] at h2;obtain⟨rs,hF,h2⟩:=h2;split at h2
    ·rename_i ls σ1 hs;refine⟨_,?_,h2⟩;have e:=IC m hs;rw[vA] at e;have hv:ot σ.er.h (as.map SV.er)=some (ds.map cE.er):=h1;simp only[w7,hv,aw.QP hf vN,tv hx,aw.wT,hF,zab,e,ai.eD,CD]
    ·cases h2
   ·cases h2
  ·cases h
 ·cases h
def Cr:List cE->Option (List (Bool×List SC))
 |[]=>some []
 |(k,cs)::ds=>match k.wb with
  |true=>none
  |false=>match Cr ds with
   |some ls=>some ((k.isAgg,cs.map fun x=>SC.v x.1 x.2)::ls)
   |none=>none
theorem Od:∀{ds:List cE} {ls:List (Bool×List SC)},Cr ds=some ls->ly (ds.map cE.er)=some (ls.map fun x=>(x.1,x.2.map SC.er))
 |[],ls,h=>by simp only[Cr] at h;injection h with h;subst h;rfl
 |(k,cs)::ds,ls,h=>by
  simp only[Cr] at h;split at h
  ·cases h
  ·rename_i hk;split at h
   ·rename_i HU e;injection h with h;subst h;have i2:=Od e;have ec:(dC cs).map aj.c=(cs.map fun x=>SC.v x.1 x.2).map SC.er:=by simp[dC,SC.er]
    cases k with
    |ptr=>cases hk
    |one=>simp only[zac,cE.er,ly];rw[show ly (List.map cE.er ds)=_ from i2];simp only;rw[ec];rfl
    |agg=>simp only[zac,cE.er,ly];rw[show ly (List.map cE.er ds)=_ from i2];simp only;rw[ec];rfl
   ·cases h
def VQ (T:List aw) (d:Option Nat) (f:FuncId) (as:List SV) (σ:ai) (k:ai->Option ρ):Option ρ:=
 match aw.find T f with
 |some fn=>match fn.mu.gH with
  |0=>I1 σ.h as fun ds=>match pI fn.args ds with
   |some x=>(fn.F x).af fun rs=>match Cr (je fn.ax rs) with
    |some ls=>k (σ.put d (Af ls))
    |none=>none
   |none=>none
  |_=>none
 |none=>none
theorem atm {T:List aw} {d:Option Nat} {f:FuncId} {as:List SV} {σ:ai} {k:ai->Option ρ} {r:ρ} (h:VQ T d f as σ k=some r):
  ∃v:SV,Dw (df T) f (as.map SV.er) σ.er.h=some v.er/\k (σ.put d v)=some r:=by
 unfold VQ at h;split at h
 ·rename_i fn hf;split at h
  ·rename_i vN;obtain⟨ds,h1,h2⟩:=WE h;split at h2
   ·rename_i x hx;rw[fL] at h2;obtain⟨rs,hF,h2⟩:=h2;split at h2
    ·rename_i ls hs;refine⟨_,?_,h2⟩;have e:=Od hs;rw[vA] at e;have hv:ot σ.er.h (as.map SV.er)=some (ds.map cE.er):=h1;simp only[Dw,hv,aw.QP hf vN,tv hx,aw.wT,hF,zab,e,CD]
    ·cases h2
   ·cases h2
  ·cases h
 ·cases h
def Ty.vB:Ty->Bool
 |.list ts=>Ty.g8 ts
 |_=>true
def WU:Mode->List Ty->Bool
 |.bc,ts=>Ty.g8 ts
 |.live,ts=>ts.all Ty.vB
 |.aL,_=>false
theorem Cp (ts:List Ty) (xs:List (Ty.DL ts)) (h:Ty.g8 ts=true):jv (List.map (Ty.aW ts) xs)=true:=by
 simp only[jv,zaC,zas];rintro e ⟨x,_,rfl⟩;rw[Ty.Ob];exact h
theorem YN (t:Ty) (x:t.D) (h:Ty.vB t=true):C.vB (t.er x)=true:=by
 cases t with
 |int k=>rfl
 |bool=>rfl
 |list ts=>exact Cp ts x h
theorem YM:∀(ts:List Ty) (x:Ty.DL ts),ts.all Ty.vB=true->(Ty.aW ts x).all C.vB=true
 |[],_,_=>rfl
 |[t],x,h=>by
  simp only[zaG,zba,za6] at h;simp only[Ty.aW,zaG,zba,za6];exact YN t x h
 |t::u::ts,x,h=>by
  simp only[zaG (a:=t),zai] at h;simp only[Ty.aW,zaG (a:=Ty.er t x.1),zai];exact⟨YN t x.1 h.1,YM (u::ts) x.2 h.2⟩
theorem ZC (m:Mode) (ts:List Ty) (xs:List (Ty.DL ts)) (h:WU m ts=true):vF m (List.map (Ty.aW ts) xs)=true:=by
 cases m with
 |aL=>cases h
 |bc=>exact Cp ts xs h
 |live=>
  simp only[vF,zaC,zas];rintro e ⟨x,_,rfl⟩;have:=YM ts x h;simpa[zaC] using this
def Mode.SX:Mode->Bool
 |.live=>true
 |_=>false
def Mode.abq:Mode->Bool
 |.bc=>true
 |_=>false
def V7 (h:Nat->Option SB) (md:Mode) (c:SC) (k:dG->(t:Ty)->t.D->Option ρ):Option ρ:=
 match c with
 |.nil ts=>match ts with
  |[]=>none
  |t::us=>gn md.own (k (.nil (us.length+1)) (.list (t::us)) ([]:List (Ty.DL (t::us))))
 |.sl n sz lo len=>match h n with
  |some (.row _ m ts xs)=>gn (m.own&&((!md.SX||m.SX)&&WU md ts)) (dv ts.length sz ((bk lo len (ae xs)).af fun _=>k (.row n) (.list ts) xs))
  |_=>none
 |.ct n kk aR off sz len=>match h n with
  |some (.row _ .live ts xs)=>gn md.abq (dv ts.length aR ((cW xs kk).af fun e=>match(Ty.jc ts e)[off]? with
   |some ⟨.list us,ys⟩=>gn (Ty.g8 us) (k (.nest n kk off) (.list us) ys)
   |_=>none))
  |_=>none
 |_=>none
theorem atO {h:Nat->Option SB} {md:Mode} {c:SC} {k:dG->(t:Ty)->t.D->Option ρ} {r:ρ} (hx:V7 h md c k=some r):
  ∃(it:dG) (t:Ty) (x:t.D),uT (dw h) md c.er=some (it,t.er x)/\k it t x=some r:=by
 unfold V7 at hx;split at hx
 ·split at hx
  ·cases hx
  ·rename_i t us;have hm:=(cZ hx).1;replace hx:=(cZ hx).2;refine⟨_,.list (t::us),[],?_,hx⟩;have cF:md≠ .aL:=by rintro rfl;cases hm
   simp[SC.er,uT,Ty.er,cF]
 ·rename_i n sz lo len;split at hx
  ·rename_i gr m ts xs hn;have hm:=(cZ hx).1;replace hx:=(cZ hx).2;have bX:=(bw hx).1;replace hx:=(bw hx).2;subst bX;rw[fL] at hx;obtain⟨_,hf,hx⟩:=hx;have RJ:lo=0/\len=ae xs:=by
    unfold bk at hf;split at hf
    ·assumption
    ·cases hf
   obtain⟨rfl,rfl⟩:=RJ;simp only[zai] at hm;have cF:m≠ .aL:=by rintro rfl;cases hm.1
   have xy:md=.live->m=.live:=by
    rintro rfl;have:=hm.2.1;cases m<;>first|rfl|(simp[Mode.SX] at this)
   refine⟨_,.list ts,xs,?_,hx⟩;simp only[SC.er,uT,dw,hn,zab,SB.er,Ty.er];rw[if_pos ⟨cF,xy,trivial,trivial,(zaf (Ty.aW ts)).symm,ZC md ts xs hm.2.2⟩]
  ·cases hx
 ·rename_i n kk aR off sz len;split at hx
  ·rename_i gr ts xs hn;have hm:=(cZ hx).1;replace hx:=(cZ hx).2;have bX:=(bw hx).1;replace hx:=(bw hx).2;subst bX;rw[fL] at hx;obtain⟨e,he,hx⟩:=hx
   replace he:xs[kk]? =some e:=he
   split at hx
   ·rename_i us ys hd;have hs:=(cZ hx).1;replace hx:=(cZ hx).2;refine⟨_,.list us,ys,?_,hx⟩;have My:md=.bc:=by cases md<;>first|rfl|(simp[Mode.abq] at hm)
    have nj:=QA hd;simp only[SC.er,uT,dw,hn,zab,SB.er,zag,he,zaK,nj,Ty.er,My,and_self,if_true];rw[if_pos (Cp us ys hs)]
   ·cases hx
  ·cases hx
 ·cases hx
def SC.nm:SC->List Nat
 |.sl n _ _ _=>[n]
 |.ct n _ _ _ _ _=>[n]
 |_=>[]
theorem SC.aqW (c:SC):c.er.ff.toList=c.nm:=by cases c<;>rfl
def CB:List (Option Mode)->List SC->List Nat
 |some _::fs,c::cs=>c.nm++CB fs cs
 |none::fs,_::cs=>CB fs cs
 |_,_=>[]
theorem Ou:∀(fs:List (Option Mode)) (cs:List SC),oR fs (cs.map SC.er)=CB fs cs
 |some m::fs,c::cs=>by simp only[zac,oR,CB,SC.aqW,Ou fs cs]
 |none::fs,c::cs=>by simp only[zac,oR,CB,Ou fs cs]
 |[],cs=>by cases cs<;>rfl
 |some m::fs,[]=>rfl
 |none::fs,[]=>rfl
def Ac:aU->List (Bool×List SC)->List Nat
 |s::sig,a::as=>CB s a.2++Ac sig as
 |_,_=>[]
theorem Ot:∀(sig:aU) (as:List (Bool×List SC)),qt sig (as.map fun x=>(x.1,x.2.map SC.er))=Ac sig as
 |s::sig,a::as=>by simp only[zac,qt,Ac,Ou,Ot sig as]
 |[],as=>by cases as<;>rfl
 |s::sig,[]=>rfl
def Fl (h:Nat->Option SB) (ns:List Nat):Nat->Option SB:=fun n=>match ns.contains n with|true=>none|false=>h n
theorem Oj (h:Nat->Option SB) (ns:List Nat):dw (Fl h ns)=fu (dw h) ns:=by
 funext n;simp only[dw,Fl,fu];cases hc:ns.contains n<;>simp[hc]
def wF (h h0:Nat->Option SB):List (Option Mode)->List SC->(List TD->List (dG×Mode)->Option ρ)->Option ρ
 |[],cs,k=>CH h0 cs fun l=>k l []
 |none::fs,c::cs,k=>Aj h0 c fun t x=>wF h h0 fs cs fun l its=>k (⟨t,x⟩::l) its
 |some md::fs,c::cs,k=>V7 h md c fun it t x=>wF h h0 fs cs fun l its=>k (⟨t,x⟩::l) ((it,md)::its)
 |_::_,[],_=>none
theorem Oq {h h0:Nat->Option SB}:∀{fs:List (Option Mode)} {cs:List SC} {k:List TD->List (dG×Mode)->Option ρ} {r:ρ},wF h h0 fs cs k=some r->
  ∃l its,kT (dw h) (dw h0) fs (cs.map SC.er)=some (dC l,its)/\k l its=some r
 |[],cs,k,r,hx=>by
  simp only[wF] at hx;obtain⟨l,h1,h2⟩:=I2 hx;exact⟨l,[],by simp only[kT,h1],h2⟩
 |none::fs,c::cs,k,r,hx=>by
  simp only[wF] at hx;obtain⟨t,x,h1,h2⟩:=FC hx;obtain⟨l,its,h3,h4⟩:=Oq h2;exact⟨⟨t,x⟩::l,its,by simp only[zac,kT,h1,h3,dC],h4⟩
 |some md::fs,c::cs,k,r,hx=>by
  simp only[wF] at hx;obtain⟨it,t,x,h1,h2⟩:=atO hx;obtain⟨l,its,h3,h4⟩:=Oq h2;exact⟨⟨t,x⟩::l,(it,md)::its,by simp only[zac,kT,h1,h3,dC],h4⟩
 |none::fs,[],k,r,hx=>by simp[wF] at hx
 |some md::fs,[],k,r,hx=>by simp[wF] at hx
def EA:Bool->K
 |true=>.agg
 |false=>.one
def Fq (h h0:Nat->Option SB):aU->List (Bool×List SC)->(List cE->List (dG×Mode)->Option ρ)->Option ρ
 |_,[],k=>k [] []
 |sig,(ag,cs)::as,k=>wF h h0 sig.hd cs fun l its=>Fq h h0 sig.tl as fun ds q9=>k ((EA ag,l)::ds) (its++q9)
theorem Ov {h h0:Nat->Option SB}:∀{as:List (Bool×List SC)} {sig:aU} {k:List cE->List (dG×Mode)->Option ρ} {r:ρ},Fq h h0 sig as k=some r->
  ∃ds its,n8 (dw h) (dw h0) sig (as.map fun x=>(x.1,x.2.map SC.er))=some (ds.map cE.er,its)/\k ds its=some r
 |[],sig,k,r,hx=>⟨[],[],by simp only[zbb,n8],hx⟩
 |(ag,cs)::as,sig,k,r,hx=>by
  simp only[Fq] at hx;obtain⟨l,its,h1,h2⟩:=Oq hx;obtain⟨ds,q9,h3,h4⟩:=Ov h2;refine⟨_,_,?_,h4⟩;simp only[zac,n8,h1,h3,cE.er];cases ag<;>rfl
def Cx:List SV->Option (List (Bool×List SC))
 |[]=>some []
 |v::vs=>match v.cells?,Cx vs with
  |some x,some xs=>some (x::xs)
  |_,_=>none
theorem Om:∀{as:List SV} {de:List (Bool×List SC)},Cx as=some de->r7 (as.map SV.er)=some (de.map fun x=>(x.1,x.2.map SC.er))
 |[],de,h=>by simp only[Cx] at h;injection h with h;subst h;rfl
 |v::vs,de,h=>by
  simp only[Cx] at h;split at h
  ·rename_i x xs e1 e2;injection h with h;subst h;obtain⟨b,cs⟩:=x;simp only[zac,r7,SV.m5 e1,Om e2]
  ·cases h
def Of (ts:List Ty) (e:Ty.DL ts) (off:Nat) (x:TD):Option (Ty.DL ts):=tu ts ((Ty.jc ts e).set off x)
theorem afG {ts:List Ty} {e e':Ty.DL ts} {off:Nat} {x:TD} (h:Of ts e off x=some e'):Ty.aW ts e'=(Ty.aW ts e).set off (x.1.er x.2):=by
 have:=zI h;rw[this,dC,zaF,<-Ty.rF ts e];rfl
def Wg (σ:ai) (it:dG) (x:TD) (k:ai->Option ρ):Option ρ:=
 match it with
 |.nil _=>k σ
 |.row n=>match x with
  |⟨.list ts,xs⟩=>match σ.h n with
   |some (.row gr m us _)=>dv us.length ts.length (k (σ.fx n (.row gr m ts xs)))
   |_=>none
  |_=>none
 |.nest n kk off=>match σ.h n with
  |some (.row gr m us xs)=>(cW xs kk).af fun e=>match Of us e off x with
   |some e'=>k (σ.fx n (.row gr m us (bK xs kk e')))
   |none=>none
  |_=>none
theorem atY {σ:ai} {it:dG} {x:TD} {k:ai->Option ρ} {r:ρ} (hx:Wg σ it x k=some r):∃σ1,σ.er.qx it (x.1.er x.2)=some σ1.er/\k σ1=some r:=by
 unfold Wg at hx;split at hx
 ·exact⟨σ,rfl,hx⟩
 ·rename_i n;split at hx
  ·rename_i ts xs;split at hx
   ·rename_i gr m us ys hn;have bX:=(bw hx).1;replace hx:=(bw hx).2;refine⟨_,?_,hx⟩;have bU:σ.er.h n=some (.row gr m us.length (List.map (Ty.aW us) ys)):=by simp[ai.er,dw,hn,SB.er]
    simp only[St.qx,Ty.er,bU,bX,if_true,ai.rJ,SB.er]
   ·cases hx
  ·cases hx
 ·rename_i n kk off;split at hx
  ·rename_i gr m us xs hn;rw[fL] at hx;obtain⟨e,he,hx⟩:=hx
   replace he:xs[kk]? =some e:=he
   split at hx
   ·rename_i e' hs;refine⟨_,?_,hx⟩;have bU:σ.er.h n=some (.row gr m us.length (List.map (Ty.aW us) xs)):=by simp[ai.er,dw,hn,SB.er]
    simp only[St.qx,bU,zag,he,zab,ai.rJ,SB.er,bK,zaF,afG hs]
   ·cases hx
  ·cases hx
def Ae (σ:ai):List (dG×Mode)->List TD->(ai->Option ρ)->Option ρ
 |[],[],k=>k σ
 |it::its,x::xs,k=>Wg σ it.1 x fun σ1=>Ae σ1 its xs k
 |_,_,_=>none
theorem Oy:∀{its:List (dG×Mode)} {xs:List TD} {σ:ai} {k:ai->Option ρ} {r:ρ},Ae σ its xs k=some r->∃σ1,σ.er.pN its (dC xs)=some σ1.er/\k σ1=some r
 |[],[],σ,k,r,hx=>⟨σ,rfl,hx⟩
 |it::its,x::xs,σ,k,r,hx=>by
  simp only[Ae] at hx;obtain⟨σ1,h1,h2⟩:=atY hx;obtain⟨σ2,h3,h4⟩:=Oy h2;refine⟨σ2,?_,h4⟩;simp only[dC] at h3;simp only[dC,zac,St.pN,h1,h3]
 |[],_::_,σ,k,r,hx=>by simp[Ae] at hx
 |_::_,[],σ,k,r,hx=>by simp[Ae] at hx
def EX:List Nat->Bool
 |[]=>true
 |n::l=> !(l.contains n)&&EX l
theorem NK:∀{l:List Nat},EX l=true->l.Nodup
 |[],_=>List.nodup_nil
 |n::l,h=>by
  simp only[EX,zai,Bool.not_eq_true'] at h;rw[List.nodup_cons];refine⟨fun hm=>?_,NK h.2⟩;have:l.contains n=true:=by simpa using hm
  rw[this] at h;cases h.1
def VR (T:List aw) (m:Mode) (d:Option Nat) (f:FuncId) (as:List SV) (σ:ai) (k:ai->Option ρ):Option ρ:=
 match aw.find T f with
 |some fn=>match fn.mu.gH with
  |1=>match Cx as with
   |some de=>gn (EX (Ac fn.mu de)) (Fq σ.h (Fl σ.h (Ac fn.mu de)) fn.mu de fun ds its=>match pI fn.args ds with
    |some x=>(fn.F x).af fun y=>Ae σ its (((je fn.ax y).drop (fn.ax.length - fn.mu.jC)).flatMap (·.2)) fun σ1=>match Aa m σ1 (tw d) ((je fn.ax y).take (fn.ax.length - fn.mu.jC)) with
     |some (ls,σ2)=>k (σ2.put d (Af ls))
     |none=>none
    |none=>none)
   |none=>none
  |_=>none
 |none=>none
def Wb (h:Nat->Option SB) (s:List (Option Mode)) (v:SV):Option (K×List SC):=
 match v with
 |.one (.ptr n k _ off)=>match h n with
  |some (.box cs)=>match Nat.beq k 0&&(Nat.beq off 0&&Ug s cs.length) with
   |true=>some (.ptr,cs)
   |false=>none
  |_=>none
 |v=>match v.cells? with
  |some (ag,cs)=>some (EA ag,cs)
  |none=>none
theorem aqY {v:SV} (h:∀n k z off,v≠ .one (.ptr n k z off)):∀n k z off,v.er≠ .one (.ptr n k z off):=by
 intro n k z off e;cases v with
 |one c=>
  cases c with
  |ptr n' k' z' uY=>exact h n' k' z' uY rfl
  |_=>simp[SV.er,SC.er] at e
 |agg cs=>simp[SV.er] at e
 |cf xs=>simp[SV.er] at e
theorem atU {h:Nat->Option SB} {s:List (Option Mode)} {v:SV} {x:K×List SC} (hx:Wb h s v=some x):zN (dw h) s v.er=some (x.1,x.2.map SC.er):=by
 unfold Wb at hx;split at hx
 ·rename_i n k z off;split at hx
  ·rename_i cs hn;split at hx
   ·rename_i hc;injection hx with hx;subst hx;simp only[zai] at hc;have h1:=zaa hc.1;have h2:=zaa hc.2.1;subst h1 h2;simp only[SV.er,SC.er,zN,dw,hn,zab,SB.er,zaf];rw[if_pos ⟨trivial,trivial,hc.2.2⟩]
   ·cases hx
  ·cases hx
 ·rename_i v aE;split at hx
  ·rename_i ag cs hv;injection hx with hx;subst hx;have gR:=SV.m5 hv;have cI:∀u:ao,(∀n k z off,u≠ .one (.ptr n k z off))->u.cells?=some (ag,cs.map SC.er)->zN (dw h) s u=some (EA ag,cs.map SC.er):=by
    intro u hu hc;unfold zN;split
    ·rename_i n k z off;exact absurd rfl (hu n k z off)
    ·rw[hc];cases ag<;>rfl
   exact cI _ (aqY fun n k z off e=>aE n k z off e) gR
  ·cases hx
def IQ (h:Nat->Option SB):aU->List SV->Option (List (K×List SC))
 |_,[]=>some []
 |sig,v::vs=>match Wb h sig.hd v,IQ h sig.tl vs with
  |some x,some xs=>some (x::xs)
  |_,_=>none
theorem age {h:Nat->Option SB}:∀{as:List SV} {sig:aU} {de:List (K×List SC)},IQ h sig as=some de->zO (dw h) sig (as.map SV.er)=some (de.map fun x=>(x.1,x.2.map SC.er))
 |[],sig,de,hx=>by simp only[IQ] at hx;injection hx with hx;subst hx;rfl
 |v::vs,sig,de,hx=>by
  simp only[IQ] at hx;split at hx
  ·rename_i x xs e1 e2;injection hx with hx;subst hx;simp only[zac,zO,atU e1,age e2]
  ·cases hx
def IW:aU->List (K×List SC)->List Nat
 |s::sig,a::as=>CB s a.2++IW sig as
 |_,_=>[]
theorem agk:∀(sig:aU) (as:List (K×List SC)),zR sig (as.map fun x=>(x.1,x.2.map SC.er))=IW sig as
 |s::sig,a::as=>by simp only[zac,zR,IW,Ou,agk sig as]
 |[],as=>by cases as<;>rfl
 |s::sig,[]=>rfl
def Oz (h h0:Nat->Option SB):aU->List (K×List SC)->(List cE->List (dG×Mode)->Option ρ)->Option ρ
 |_,[],k=>k [] []
 |sig,(kk,cs)::as,k=>wF h h0 sig.hd cs fun l its=>Oz h h0 sig.tl as fun ds q9=>k ((kk,l)::ds) (its++q9)
theorem agn {h h0:Nat->Option SB}:∀{as:List (K×List SC)} {sig:aU} {k:List cE->List (dG×Mode)->Option ρ} {r:ρ},Oz h h0 sig as k=some r->
  ∃ds its,tB (dw h) (dw h0) sig (as.map fun x=>(x.1,x.2.map SC.er))=some (ds.map cE.er,its)/\k ds its=some r
 |[],sig,k,r,hx=>⟨[],[],by simp only[zbb,tB],hx⟩
 |(kk,cs)::as,sig,k,r,hx=>by
  simp only[Oz] at hx;obtain⟨l,its,h1,h2⟩:=Oq hx;obtain⟨ds,q9,h3,h4⟩:=agn h2;exact⟨_,_,by simp only[zac,tB,h1,h3,cE.er],h4⟩
def VS (T:List aw) (m:Mode) (d:Option Nat) (f:FuncId) (as:List SV) (σ:ai) (k:ai->Option ρ):Option ρ:=
 match aw.find T f with
 |some fn=>match fn.mu.gH with
  |1=>match IQ σ.h fn.mu as with
   |some de=>gn (EX (IW fn.mu de)) (Oz σ.h (Fl σ.h (IW fn.mu de)) fn.mu de fun ds its=>match pI fn.args ds with
    |some x=>(fn.F x).af fun y=>Ae σ its (((je fn.ax y).drop (fn.ax.length - fn.mu.jC)).flatMap (·.2)) fun σ1=>match Aa m σ1 (tw d) ((je fn.ax y).take (fn.ax.length - fn.mu.jC)) with
     |some (ls,σ2)=>k (σ2.put d (Af ls))
     |none=>none
    |none=>none)
   |none=>none
  |_=>none
 |none=>none
theorem CC (k:Nat) (l:List cE):wH k (l.map cE.er)=((l.take k).map cE.er,dC ((l.drop k).flatMap (·.2))):=by
 simp only[wH,<-zaH,<-zaL];congr 1;induction l.drop k with
 |nil=>rfl
 |cons d l ih=>
  simp only[zac,List.flatMap_cons,ih,dC,za0,cE.er]
theorem atn {T:List aw} {m:Mode} {d:Option Nat} {f:FuncId} {as:List SV} {σ:ai} {k:ai->Option ρ} {r:ρ} (h:VR T m d f as σ k=some r):
  ∃σ1:ai,sO (df T) m d f (as.map SV.er) σ.er=some σ1.er/\k σ1=some r:=by
 unfold VR at h;split at h
 ·rename_i fn hf;split at h
  ·rename_i vN;split at h
   ·rename_i de hc;have fP:=NK (cZ h).1;replace h:=(cZ h).2;obtain⟨ds,its,h1,h2⟩:=Ov h;split at h2
    ·rename_i x hx;rw[fL] at h2;obtain⟨y,hF,h2⟩:=h2;obtain⟨σ1,h3,h4⟩:=Oy h2;split at h4
     ·rename_i ls σ2 hs;refine⟨_,?_,h4⟩;have e:=IC m hs;have hM:fn.MM (dL fn.args x)=some (((je fn.ax y).take (fn.ax.length - fn.mu.jC)).map cE.er,dC (((je fn.ax y).drop (fn.ax.length - fn.mu.jC)).flatMap (·.2))):=by
       unfold aw.MM;rw[aw.wT,hF];simp only[zab];rw[<-vA,CC]
      have hh:σ.er.h=dw σ.h:=rfl;rw[Oj] at h1;simp only[sO,aw.QO hf vN,Om hc,Ot,if_pos fP,hh,h1,tv hx,hM,h3,e,ai.eD,CD]
     ·cases h4
    ·cases h2
   ·cases h
  ·cases h
 ·cases h
theorem ato {T:List aw} {m:Mode} {d:Option Nat} {f:FuncId} {as:List SV} {σ:ai} {k:ai->Option ρ} {r:ρ} (h:VS T m d f as σ k=some r):
  ∃σ1:ai,w9 (df T) m d f (as.map SV.er) σ.er=some σ1.er/\k σ1=some r:=by
 unfold VS at h;split at h
 ·rename_i fn hf;split at h
  ·rename_i vN;split at h
   ·rename_i de hc;have fP:=NK (cZ h).1;replace h:=(cZ h).2;obtain⟨ds,its,h1,h2⟩:=agn h;split at h2
    ·rename_i x hx;rw[fL] at h2;obtain⟨y,hF,h2⟩:=h2;obtain⟨σ1,h3,h4⟩:=Oy h2;split at h4
     ·rename_i ls σ2 hs;refine⟨_,?_,h4⟩;have e:=IC m hs;have hM:fn.MM (dL fn.args x)=some (((je fn.ax y).take (fn.ax.length - fn.mu.jC)).map cE.er,dC (((je fn.ax y).drop (fn.ax.length - fn.mu.jC)).flatMap (·.2))):=by
       unfold aw.MM;rw[aw.wT,hF];simp only[zab];rw[<-vA,CC]
      have hh:σ.er.h=dw σ.h:=rfl;rw[Oj] at h1;simp only[w9,aw.QO hf vN,hh,age hc,agk,if_pos fP,h1,tv hx,hM,h3,e,ai.eD,CD]
     ·cases h4
    ·cases h2
   ·cases h
  ·cases h
 ·cases h
def z9:List SC->Option (List TD)
 |[]=>some []
 |.v t x::cs=>match z9 cs with
  |some l=>some (⟨t,x⟩::l)
  |none=>none
 |.nil (t::us)::cs=>match z9 cs with
  |some l=>some (⟨.list (t::us),([]:List (Ty.DL (t::us)))⟩::l)
  |none=>none
 |_::_=>none
theorem IB:∀{cs:List SC} {l:List TD},z9 cs=some l->mh (cs.map SC.er)=some (dC l)
 |[],l,h=>by simp only[z9] at h;injection h with h;subst h;rfl
 |c::cs,l,h=>by
  unfold z9 at h;split at h
  ·rename_i e;cases e
  ·rename_i t x cs' e;injection e with e1 e2;subst e1 e2;split at h
   ·rename_i l' e;injection h with h;subst h;simp only[zac,mh,SC.er,qZ,IB e,dC]
   ·cases h
  ·rename_i t us cs' e;injection e with e1 e2;subst e1 e2;split at h
   ·rename_i l' e;injection h with h;subst h;simp[mh,SC.er,qZ,IB e,dC,Ty.er]
   ·cases h
  ·cases h
def N9 (h:Nat->Option SB) (n kk off:Nat):Option (List TD):=
 match kk,off with
 |0,0=>match h n with
  |some (.box cs)=>z9 cs
  |_=>none
 |_,_=>none
theorem aex {h:Nat->Option SB} {n kk sz off:Nat} {l:List TD} (e:N9 h n kk off=some l):oB (dw h) (SV.er (.one (.ptr n kk sz off)))=some (n,dC l):=by
 unfold N9 at e;split at e
 ·split at e
  ·rename_i cs hn;simp[SV.er,SC.er,oB,dw,hn,SB.er,IB e]
  ·cases e
 ·cases e
def SV.sf:SV->Option (Nat×Nat×Nat)
 |.one (.ptr n kk _ off)=>some (n,kk,off)
 |_=>none
theorem adW {v:SV} (h:v.sf=none) (hh:Nat->Option av):oB hh v.er=none:=by
 cases v with
 |one c=>cases c<;>first|rfl|(simp[SV.sf] at h)
 |agg cs=>rfl
 |cf xs=>rfl
theorem adX {v:SV} {n kk off:Nat} (h:v.sf=some (n,kk,off)):∃sz,v=.one (.ptr n kk sz off):=by
 cases v with
 |one c=>cases c<;>simp[SV.sf] at h;obtain⟨rfl,rfl,rfl⟩:=h;exact⟨_,rfl⟩
 |agg cs=>simp[SV.sf] at h
 |cf xs=>simp[SV.sf] at h
def Iz (σ:ai):List SV->(List cE->List Nat->ai->Option ρ)->Option ρ
 |[],k=>k [] [] σ
 |v::vs,k=>match v.sf with
  |some (n,kk,off)=>match N9 σ.h n kk off with
   |some l=>Iz σ vs fun ds ns σ1=>k ((.ptr,l)::ds) (n::ns) σ1
   |none=>none
  |none=>match v.cells? with
   |some (ag,cs)=>CF σ cs fun l _ σ1=>Iz σ1 vs fun ds ns σ2=>k ((EA ag,l)::ds) ns σ2
   |none=>none
theorem VN:∀{vs:List SV} {σ:ai} {k:List cE->List Nat->ai->Option ρ} {r:ρ},Iz σ vs k=some r->
  ∃ds ns σ1,σ.er.jS (vs.map SV.er)=some (ds.map cE.er,ns,σ1.er)/\k ds ns σ1=some r
 |[],σ,k,r,h=>⟨[],[],σ,rfl,h⟩
 |v::vs,σ,k,r,h=>by
  simp only[Iz] at h;split at h
  ·rename_i n kk off hv;obtain⟨sz,rfl⟩:=adX hv;split at h
   ·rename_i l hl;obtain⟨ds,ns,σ1,h1,h2⟩:=VN h;refine⟨_,_,σ1,?_,h2⟩;have:=aex (sz:=sz) hl;have hh:σ.er.h=dw σ.h:=rfl;simp only[zac,St.jS,hh,this,h1,cE.er]
   ·cases h
  ·rename_i hv;split at h
   ·rename_i ag cs hc;obtain⟨l,o,σ1,h1,h2⟩:=I0 h;obtain⟨ds,ns,σ2,h3,h4⟩:=VN h2;refine⟨_,_,σ2,?_,h4⟩;simp only[zac,St.jS,adW hv,SV.m5 hc,h1,h3,cE.er];cases ag<;>rfl
   ·cases h
def We (σ:ai) (ns:List Nat) (out:List TD) (k:ai->Option ρ):Option ρ:=
 match ns,out with
 |[],[]=>k σ
 |[n],out=>match σ.h n with
  |some (.box cs)=>dv cs.length out.length (k (σ.fx n (.box (out.map fun x=>.v x.1 x.2))))
  |_=>none
 |_,_=>none
theorem OW (out:List TD):(out.map fun x=>SC.v x.1 x.2).map SC.er=(dC out).map .c:=by simp[dC,SC.er]
theorem atX {σ:ai} {ns:List Nat} {out:List TD} {k:ai->Option ρ} {r:ρ} (h:We σ ns out k=some r):∃σ1,σ.er.tz ns (dC out)=some σ1.er/\k σ1=some r:=by
 unfold We at h;split at h
 ·exact⟨σ,rfl,h⟩
 ·rename_i n;split at h
  ·rename_i cs hn;have he:=(bw h).1;replace h:=(bw h).2;refine⟨_,?_,h⟩;have bU:σ.er.h n=some (.box (cs.map SC.er)):=by simp[ai.er,dw,hn,SB.er]
   simp only[St.tz,bU,zaf];rw[if_pos (by rw[he,dC,zaf]),ai.rJ,SB.er,OW]
  ·cases h
 ·cases h
def cE.sf:List cE->Option (List TD)
 |[(.ptr,cs)]=>some cs
 |_=>none
theorem ats {rs:List cE} {cs:List TD} (h:cE.sf rs=some cs):rs=[(.ptr,cs)]:=by
 unfold cE.sf at h;split at h
 ·injection h with h;rw[h]
 ·cases h
def VO (σ:ai) (d:Option Nat) (rs:List cE) (k:ai->Option ρ):Option ρ:=
 match cE.sf rs with
 |some cs=>match d with
  |some q=>match σ.ins q (.box (cs.map fun x=>.v x.1 x.2)) with
   |some σ1=>k (σ1.put d (.one (.ptr q 0 0 0)))
   |none=>none
  |none=>none
 |none=>match Cr rs with
  |some ls=>k (σ.put d (Af ls))
  |none=>none
theorem ath {σ:ai} {d:Option Nat} {rs:List cE} {k:ai->Option ρ} {r:ρ} (h:VO σ d rs k=some r):∃σ1,sJ σ.er d (rs.map cE.er)=some σ1.er/\k σ1=some r:=by
 unfold VO at h;split at h
 ·rename_i cs hp;have:=ats hp;subst this;split at h
  ·rename_i q;split at h
   ·rename_i σ1 hi;refine⟨_,?_,h⟩;have e:=ai.vE hi;rw[SB.er,OW] at e;simp only[zac,zbb,cE.er,sJ,e,ai.eD];rfl
   ·cases h
  ·cases h
 ·split at h
  ·rename_i ls hs;refine⟨_,?_,h⟩;have e:=Od hs;have hb:sJ σ.er d (rs.map cE.er)=match ly (rs.map cE.er) with
     |some ls=>some (σ.er.put d (nC ls))
     |none=>none:=by
    unfold sJ;split
    ·rename_i cs he;rw[he] at e;simp[ly] at e
    ·rfl
   rw[hb,e,ai.eD,CD]
  ·cases h
def VP (T:List aw) (d:Option Nat) (f:FuncId) (as:List SV) (σ:ai) (k:ai->Option ρ):Option ρ:=
 match aw.find T f with
 |some fn=>match fn.mu.gH with
  |2=>Iz σ as fun ds ns σ1=>match pI fn.args ds with
   |some x=>(fn.F x).af fun y=>We σ1 ns (((je fn.ax y).drop (fn.ax.length - r9 fn.args)).flatMap (·.2)) fun σ2=>VO σ2 d ((je fn.ax y).take (fn.ax.length - r9 fn.args)) k
   |none=>none
  |_=>none
 |none=>none
theorem atl {T:List aw} {d:Option Nat} {f:FuncId} {as:List SV} {σ:ai} {k:ai->Option ρ} {r:ρ} (h:VP T d f as σ k=some r):
  ∃σ1:ai,sM (df T) d f (as.map SV.er) σ.er=some σ1.er/\k σ1=some r:=by
 unfold VP at h;split at h
 ·rename_i fn hf;split at h
  ·rename_i vN;obtain⟨ds,ns,σ1,h1,h2⟩:=VN h;split at h2
   ·rename_i x hx;rw[fL] at h2;obtain⟨y,hF,h2⟩:=h2;obtain⟨σ2,h3,h4⟩:=atX h2;obtain⟨iD,h5,h6⟩:=ath h4;refine⟨iD,?_,h6⟩;have hM:fn.MV (dL fn.args x)=some (((je fn.ax y).take (fn.ax.length - r9 fn.args)).map cE.er,dC (((je fn.ax y).drop (fn.ax.length - r9 fn.args)).flatMap (·.2))):=by
     unfold aw.MV;rw[aw.wT,hF];simp only[zab];rw[<-vA,CC]
    simp only[sM,h1,aw.Zy hf vN,tv hx,hM,h3,h5]
   ·cases h2
  ·cases h
 ·cases h
def aw.rN (k:Nat):List aw->FuncId->Option aw
 |[],_=>none
 |fn::l,f=>match Nat.beq f fn.id&&Nat.beq fn.mu.gH k with
  |true=>some fn
  |false=>aw.rN k l f
theorem aw.Zv:∀{T:List aw} {f:FuncId} {fn:aw},aw.rN 2 T f=some fn->aZ.nc (df T).vs f=some fn.MV
 |[],f,fn,h=>by simp[aw.rN] at h
 |g::l,f,fn,h=>by
  simp only[aw.rN] at h;split at h
  ·rename_i e;injection h with h;subst h;rw[zai] at e;have hm:=zaa e.2;simp only[df,zaj,hm,aZ.nc];rw[if_pos (zaa e.1)]
  ·rename_i e;have ih:aZ.nc (df l).vs f=some fn.MV:=aw.Zv h;simp only[df,zaj] at ih⊢;by_cases hg:g.mu.gH=2
   ·simp only[hg,aZ.nc];rw[if_neg (fun he=>by rw[he,hg,zaq] at e;cases e)];exact ih
   ·split
    ·exact ih
    ·rename_i z hz;split at hz
     ·rename_i h0;exact absurd h0 hg
     ·cases hz
theorem aw.Zw:∀{T:List aw} {f:FuncId} {fn:aw},aw.rN 3 T f=some fn->aZ.uz (df T).ws f=some (fn.mu.tl,fn.MW)
 |[],f,fn,h=>by simp[aw.rN] at h
 |g::l,f,fn,h=>by
  simp only[aw.rN] at h;split at h
  ·rename_i e;injection h with h;subst h;rw[zai] at e;have hm:=zaa e.2;simp only[df,zaj,hm,aZ.uz];rw[if_pos (zaa e.1)]
  ·rename_i e;have ih:aZ.uz (df l).ws f=some (fn.mu.tl,fn.MW):=aw.Zw h;simp only[df,zaj] at ih⊢;by_cases hg:g.mu.gH=3
   ·simp only[hg,aZ.uz];rw[if_neg (fun he=>by rw[he,hg,zaq] at e;cases e)];exact ih
   ·split
    ·exact ih
    ·rename_i z hz;split at hz
     ·rename_i h0;exact absurd h0 hg
     ·cases hz
theorem aw.Zx:∀{T:List aw} {f:FuncId} {fn:aw},aw.rN 4 T f=some fn->aZ.uA (df T).xs f=some (fn.mu.lM,fn.MX)
 |[],f,fn,h=>by simp[aw.rN] at h
 |g::l,f,fn,h=>by
  simp only[aw.rN] at h;split at h
  ·rename_i e;injection h with h;subst h;rw[zai] at e;have hm:=zaa e.2;simp only[df,zaj,hm,aZ.uA];rw[if_pos (zaa e.1)]
  ·rename_i e;have ih:aZ.uA (df l).xs f=some (fn.mu.lM,fn.MX):=aw.Zx h;simp only[df,zaj] at ih⊢;by_cases hg:g.mu.gH=4
   ·simp only[hg,aZ.uA];rw[if_neg (fun he=>by rw[he,hg,zaq] at e;cases e)];exact ih
   ·split
    ·exact ih
    ·rename_i z hz;split at hz
     ·rename_i h0;exact absurd h0 hg
     ·cases hz
def WH (T:List cE) (i:Nat):Bool:=match T[i]? with
 |some (.one,[⟨.list [.int .i64],_⟩])=>true
 |_=>false
theorem aui {ds:List cE} {i:Nat} (h:WH ds i=true):∃ys,(ds.map cE.er)[i]? =some (.one,[.list 1 ys]):=by
 unfold WH at h;split at h
 ·rename_i x e;exact⟨_,by rw[zag,e];rfl⟩
 ·cases h
def sdI (a:Int):cE:=(.one,[⟨.int .i64,a⟩])
def VV (T:List aw) (m:Mode) (d:Option Nat) (f:FuncId) (as:List SV) (σ:ai) (k:ai->Option ρ):Option ρ:=
 match aw.rN 4 T f with
 |some fn=>match as[fn.mu.lM]? with
  |some (.one (.sl n s lo len))=>match σ.h n with
   |some (.row _ _ ts xs)=>dv s 1 (dv ts.length 1 ((cW xs lo).af fun _=>(cM xs lo len).af fun _=>match Cx (as.set fn.mu.lM (.one (.sl n 1 0 (ae xs)))) with
    |some de=>gn (EX (Ac (mB fn.mu.lM) de)) (Fq σ.h (Fl σ.h (Ac (mB fn.mu.lM) de)) (mB fn.mu.lM) de fun ds its=>gn (WH ds fn.mu.lM) (match pI fn.args (sdI (aS lo)::sdI (aS (aH lo len))::ds) with
     |some x=>(fn.F x).af fun y=>Ae σ its (((je fn.ax y).drop (fn.ax.length - 1)).flatMap (·.2)) fun σ1=>match Aa m σ1 (tw d) ((je fn.ax y).take (fn.ax.length - 1)) with
      |some (ls,σ2)=>k (σ2.put d (Af ls))
      |none=>none
     |none=>none))
    |none=>none))
   |_=>none
  |_=>none
 |none=>none
theorem atr {T:List aw} {m:Mode} {d:Option Nat} {f:FuncId} {as:List SV} {σ:ai} {k:ai->Option ρ} {r:ρ} (h:VV T m d f as σ k=some r):
  ∃σ1:ai,xc (df T) m d f (as.map SV.er) σ.er=some σ1.er/\k σ1=some r:=by
 unfold VV at h;split at h
 ·rename_i fn hf;split at h
  ·rename_i n s lo len ha;split at h
   ·rename_i gr mo ts xs gk;have hs1:=(bw h).1
    replace h:=(bw h).2
    have ht1:=(bw h).1
    replace h:=(bw h).2
    rw[fL] at h;obtain⟨el,he,h⟩:=h;rw[fL] at h;obtain⟨wl,hw,h⟩:=h;subst hs1;have uI:lo<xs.length:=(zah.1 (show xs[lo]? =some el from he)).1
    have kf:lo+len<=xs.length:=by
     unfold cM at hw;split at hw
     ·rename_i hc;exact hc
     ·cases hw
    split at h
    ·rename_i de hc;have fP:=NK (cZ h).1;replace h:=(cZ h).2;obtain⟨ds,its,h1,h2⟩:=Ov h;have lW:=aui (cZ h2).1;replace h2:=(cZ h2).2;obtain⟨ys,vV⟩:=lW;split at h2
     ·rename_i x hx;rw[fL] at h2;obtain⟨y,hF,h2⟩:=h2;obtain⟨σ1,h3,h4⟩:=Oy h2;split at h4
      ·rename_i ls σ2 hs;refine⟨_,?_,h4⟩;have e:=IC m hs;have hM:fn.MX (dL fn.args x)=some (((je fn.ax y).take (fn.ax.length - 1)).map cE.er,dC (((je fn.ax y).drop (fn.ax.length - 1)).flatMap (·.2))):=by
        unfold aw.MX;rw[aw.wT,hF];simp only[zab];rw[<-vA,CC]
       have hh:σ.er.h=dw σ.h:=rfl;have bU:σ.er.h n=some (.row gr mo ts.length (List.map (Ty.aW ts) xs)):=by simp[ai.er,dw,gk,SB.er]
       have e8:dI lo::dI (lo+len)::ds.map cE.er=dL fn.args x:=tv hx;have uM:xM fn.mu.lM lo (lo+len) fn.MX (ds.map cE.er)=some (((je fn.ax y).take (fn.ax.length - 1)).map cE.er,dC (((je fn.ax y).drop (fn.ax.length - 1)).flatMap (·.2))):=by
        unfold xM;rw[vV];simp only
        rw[e8,hM]
       have hxr:FN σ.er.h (.one (.sl n 1 lo len))=some (n,lo,len,xs.length):=by
        unfold FN;simp only[bU];rw[if_pos ⟨trivial,ht1,by rw[zaf];exact uI,by rw[zaf];exact kf⟩,zaf]
       have xk:(as.map SV.er)[fn.mu.lM]? =some (.one (.sl n 1 lo len)):=by
        rw[zag,ha];rfl
       have vT:(as.map SV.er).set fn.mu.lM (.one (.sl n 1 0 xs.length))=(as.set fn.mu.lM (.one (.sl n 1 0 (ae xs)))).map SV.er:=by
        rw[zaF];rfl
       rw[Oj] at h1;unfold xc;rw[aw.Zx hf];simp only[xk,hxr,vT];unfold sO;simp only[aZ.ph,if_true,Om hc,Ot,if_pos fP,hh,h1,uM,h3,e,ai.eD,CD]
      ·cases h4
     ·cases h2
    ·cases h
   ·cases h
  ·cases h
 ·cases h
def IX:List SV->Option (List cE)
 |[]=>some []
 |v::vs=>match v.cells? with
  |some (ag,cs)=>match z9 cs with
   |some l=>match IX vs with
    |some ds=>some ((EA ag,l)::ds)
    |none=>none
   |none=>none
  |none=>none
theorem ago:∀{vs:List SV} {ds:List cE},IX vs=some ds->Ce (vs.map SV.er)=some (ds.map cE.er)
 |[],ds,h=>by simp only[IX] at h;injection h with h;subst h;rfl
 |v::vs,ds,h=>by
  simp only[IX] at h;split at h
  ·rename_i ag cs hc;split at h
   ·rename_i l hl;split at h
    ·rename_i vC hd;injection h with h;subst h;simp only[zac,Ce,SV.m5 hc,IB hl,ago hd,cE.er];cases ag<;>rfl
    ·cases h
   ·cases h
  ·cases h
def VT (T:List aw) (d:Option Nat) (f:FuncId) (as:List SV) (σ:ai) (k:ai->Option ρ):Option ρ:=
 match aw.rN 2 T f with
 |some fn=>match IX as with
  |some ds=>match pI fn.args ds with
   |some x=>(fn.F x).af fun y=>match((je fn.ax y).drop (fn.ax.length - r9 fn.args)).flatMap (·.2) with
    |[]=>match Cr ((je fn.ax y).take (fn.ax.length - r9 fn.args)) with
     |some ls=>k (σ.put d (Af ls))
     |none=>none
    |_=>none
   |none=>none
  |none=>none
 |none=>none
theorem atp {T:List aw} {d:Option Nat} {f:FuncId} {as:List SV} {σ:ai} {k:ai->Option ρ} {r:ρ} (h:VT T d f as σ k=some r):
  ∃v:SV,A6 (df T) f (as.map SV.er)=some v.er/\k (σ.put d v)=some r:=by
 unfold VT at h;split at h
 ·rename_i fn hf;split at h
  ·rename_i ds hd;split at h
   ·rename_i x hx;rw[fL] at h;obtain⟨y,hF,h⟩:=h;split at h
    ·rename_i ho;split at h
     ·rename_i ls hs;refine⟨_,?_,h⟩;have hM:fn.MV (dL fn.args x)=some (((je fn.ax y).take (fn.ax.length - r9 fn.args)).map cE.er,[]):=by
       unfold aw.MV;rw[aw.wT,hF];simp only[zab];rw[<-vA,CC,ho];rfl
      simp only[A6,ago hd,aw.Zv hf,tv hx,hM,Od hs,CD]
     ·cases h
    ·cases h
   ·cases h
  ·cases h
 ·cases h
def VU (T:List aw) (d:Option Nat) (f:FuncId) (as:List SV) (σ:ai) (k:ai->Option ρ):Option ρ:=
 match aw.rN 3 T f with
 |some fn=>match fn.mu.gH with
  |3=>match Cx as with
   |some de=>match Ac fn.mu.tl de with
    |[n]=>Fq σ.h (Fl σ.h [n]) fn.mu.tl de fun ds its=>match its with
     |[(.row n',_)]=>dv n' n (match σ.h n with
      |some (.row _ _ ts xs)=>match pI fn.args ds with
       |some x=>(fn.F x).af fun y=>match je fn.ax y with
        |[(.one,[⟨.int _,a⟩]),(.one,[⟨.int _,b⟩])]=>(j0 a b (ae xs)).af fun p=>k (σ.put d (.one (.sl n ts.length p.1 p.2)))
        |_=>none
       |none=>none
      |_=>none)
     |_=>none
    |_=>none
   |none=>none
  |_=>none
 |none=>none
theorem atq {T:List aw} {d:Option Nat} {f:FuncId} {as:List SV} {σ:ai} {k:ai->Option ρ} {r:ρ} (h:VU T d f as σ k=some r):
  ∃v:SV,rH (df T) f (as.map SV.er) σ.er.h=some v.er/\k (σ.put d v)=some r:=by
 unfold VU at h;split at h
 ·rename_i fn hf;split at h
  ·rename_i vN;split at h
   ·rename_i de hc;split at h
    ·rename_i n hn;obtain⟨ds,its,h1,h2⟩:=Ov h;split at h2
     ·rename_i n' md;have he:=(bw h2).1;replace h2:=(bw h2).2;subst he;split at h2
      ·rename_i gr mo ts xs gk;split at h2
       ·rename_i x hx;rw[fL] at h2;obtain⟨y,hF,h2⟩:=h2;split at h2
        ·rename_i ka a kb b hy;rw[fL] at h2;obtain⟨p,hs,h2⟩:=h2;refine⟨_,?_,h2⟩;unfold j0 at hs;split at hs
         ·rename_i dP;injection hs with hs;subst hs;have hM:fn.MW (dL fn.args x)=some (Int.toNat a,Int.toNat (@HSub.hSub Int Int Int instHSub b a)):=by
           unfold aw.MW;rw[aw.wT,hF];simp only[zab,zaK];rw[<-vA,hy];rfl
          have hh:σ.er.h=dw σ.h:=rfl;have bU:σ.er.h n'=some (.row gr mo ts.length (List.map (Ty.aW ts) xs)):=by simp[ai.er,dw,gk,SB.er]
          rw[Oj] at h1;simp only[rH,aw.Zw hf,Om hc,Ot,hn,hh,h1,tv hx,hM];rw[hh] at bU;simp only[bU,if_true];rfl
         ·cases hs
        ·cases h2
       ·cases h2
      ·cases h2
     ·cases h2
    ·cases h
   ·cases h
  ·cases h
 ·cases h
def VZ (σ:ai) (p:SC) (k:ai->Option ρ):Option ρ:=
 match p with
 |.ptr n _ _ _=>match σ.h n with
  |some (.box cs)=>CF σ cs fun l _ σ1=>k (σ1.fx n (.box (l.map fun x=>.v x.1 x.2)))
  |_=>none
 |_=>none
theorem atB {σ:ai} {p:SC} {k:ai->Option ρ} {r:ρ} (h:VZ σ p k=some r):∃σ1,σ.er.vG p.er=some σ1.er/\k σ1=some r:=by
 unfold VZ at h;split at h
 ·rename_i n kk sz off;split at h
  ·rename_i cs hn;obtain⟨l,o,σ1,h1,h2⟩:=I0 h;refine⟨_,?_,h2⟩;have bU:σ.er.h n=some (.box (cs.map SC.er)):=by simp[ai.er,dw,hn,SB.er]
   simp only[SC.er,St.vG,bU,h1];rw[ai.rJ,SB.er,OW]
  ·cases h
 ·cases h
inductive dE where
 |mv (x:dg)
 |pick (c x y:dg)
 |alloc (zs:List SC)
 |box (sz:Nat) (x:dg)
 |build (zs:List SC) (parts:List (Nat×Nat×dg))
 |hZ (ts:List Ty) (parts:List dg)
 |load (ag:Bool) (sz:Nat) (x:dg)
 |store (sz:Nat) (x v:dg)
 |jM (x:dg)
 |bin (op:BinOp) (x y:dg)
 |rB (op:BinOp) (x y:dg)
 |un (op:UnOp) (x:dg)
 |conv (k:IntKind) (x:dg)
 |jK (m:Mode) (ts:List Ty) (by_:Nat) (z:Ty.DL ts) (l c:dg)
 |slice (sz:Nat) (x:dg) (lo hi:Option dg)
 |tail (sz:Nat) (x lo:dg)
 |rZ (ag:Bool) (sz:Nat) (x:dg)
 |qd (off:Nat) (x:dg)
 |pC (sz:Nat) (x i:dg)
 |ext (i:Nat) (x:dg)
 |sW (ag:Bool) (off sz:Nat) (x:dg)
 |sk (f:FuncId) (fZ:Bool) (x:dg)
 |len (x:dg)
 |append (fl:Bool) (ts:List Ty) (by_:Nat) (x y:dg)
 |mm (mx:Bool) (x y:dg)
 |call (m:Mode) (f:FuncId) (xs:List dg)
 |qa (f:FuncId) (xs:List dg)
 |copy (x y:dg)
 |m6 (t:Ty) (z:t.D) (x:dg)
 |re (f:FuncId) (xs:List dg)
 |qb (m:Mode) (x:dg) (xs:List dg)
 |lv (m:Mode) (f:FuncId) (xs:List dg)
 |lr (f:FuncId) (xs:List dg)
 |nM (f:FuncId) (xs:List dg)
 |mD (f:FuncId) (xs:List dg)
 |nN (m:Mode) (f:FuncId) (xs:List dg)
 |o8 (m:Mode) (f:FuncId) (x:dg) (xs:List dg)
def dE.er:dE->aY
 |.mv x=>.mv x.er
 |.pick c x y=>.pick c.er x.er y.er
 |.alloc zs=>.alloc (zs.map SC.er)
 |.box sz x=>.box sz x.er
 |.build zs ps=>.build (zs.map SC.er) (ps.map fun p=>(p.1,p.2.1,p.2.2.er))
 |.hZ ts ps=>.hZ ts.length (ps.map dg.er)
 |.load ag sz x=>.load ag sz x.er
 |.rZ ag sz x=>.rZ ag sz x.er
 |.store sz x v=>.store sz x.er v.er
 |.jM x=>.jM x.er
 |.bin op x y=>.bin op x.er y.er
 |.rB op x y=>.rB op x.er y.er
 |.un op x=>.un op x.er
 |.conv k x=>.conv k x.er
 |.jK m ts by_ z l c=>.jK m ts.length by_ (Ty.aW ts z) l.er c.er
 |.slice sz x lo hi=>.slice sz x.er (lo.map dg.er) (hi.map dg.er)
 |.tail sz x lo=>.tail sz x.er lo.er
 |.qd off x=>.qd off x.er
 |.pC sz x i=>.pC sz x.er i.er
 |.ext i x=>.ext i x.er
 |.sW ag off sz x=>.sW ag off sz x.er
 |.sk f fZ x=>.sk f fZ x.er
 |.len x=>.len x.er
 |.append fl ts by_ x y=>.append fl ts.length by_ x.er y.er
 |.mm b x y=>.mm b x.er y.er
 |.call m f xs=>.call m f (xs.map dg.er)
 |.qa f xs=>.qa f (xs.map dg.er)
 |.copy x y=>.copy 1 x.er y.er
 |.m6 t z x=>.m6 (t.er z) x.er
 |.re f xs=>.re f (xs.map dg.er)
 |.qb m x xs=>.qb m x.er (xs.map dg.er)
 |.lv m f xs=>.lv m f (xs.map dg.er)
 |.lr f xs=>.lr f (xs.map dg.er)
 |.nM f xs=>.nM f (xs.map dg.er)
 |.mD f xs=>.mD f (xs.map dg.er)
 |.nN m f xs=>.nN m f (xs.map dg.er)
 |.o8 m f x xs=>.o8 m f x.er (xs.map dg.er)
theorem uw (σ:ai) (xs:List dg):(xs.map dg.er).map σ.er.ev=(xs.map σ.ev).map SV.er:=by
 simp[ai.eK]
def IZ (ev:dg->SV):List SC->List (Nat×Nat×dg)->Option (List SC)
 |zs,[]=>some zs
 |zs,(off,sz,x)::ps=>match(ev x).cells? with
  |some (_,cs)=>dv cs.length sz (gn (Nat.ble (off+sz) zs.length) (IZ ev (dz zs off cs) ps))
  |none=>none
theorem agy {σ:ai}:∀{ps:List (Nat×Nat×dg)} {zs cs:List SC},IZ σ.ev zs ps=some cs->
  sr σ.er.ev (zs.map SC.er) (ps.map fun p=>(p.1,p.2.1,p.2.2.er))=some (cs.map SC.er)
 |[],zs,cs,h=>by simp only[IZ] at h;injection h with h;subst h;rfl
 |(off,sz,x)::ps,zs,cs,h=>by
  simp only[IZ] at h;split at h
  ·rename_i b YD hc;have bX:=(bw h).1;replace h:=(bw h).2;subst bX;have hb:=(cZ h).1;replace h:=(cZ h).2;have ih:=agy h;rw[Fu] at ih;have kf:=zaJ hb;simp only[zac,sr,ai.eK,SV.m5 hc,zaf,kf,and_self,if_true,ih]
  ·cases h
def Oa (l:List TD):Bool:=l.all fun x=>x.1.gK
theorem ati (l:List TD):g8 (dC l)=Oa l:=by
 simp[g8,dC,Oa,List.all_map,Function.comp_def,Ty.z7]
def Ws (σ:ai) (n:Nat) (gr:Bool) (m:Mode) (ts:List Ty) (xs:List (Ty.DL ts)) (kk off:Nat) (e:Ty.DL ts) (vs:List SC) (k:ai->Option ρ):Option ρ:=
 match sub (Ty.jc ts e) off vs.length with
 |none=>none
 |some gW=>CF σ vs fun cs o σ1=>match tu ts (dz (Ty.jc ts e) off cs) with
  |none=>none
  |some e'=>match m with
   |.live=>gn (Oa cs&&Oa gW&&(σ1.h n).isSome) (k (σ1.fx n (.row gr .live ts (bK xs kk e'))))
   |.bc=>gn (σ1.h n).isSome (k (σ1.fx n (.row gr (match o with|true=>.bc|false=>.aL) ts (bK xs kk e'))))
   |.aL=>gn (σ1.h n).isSome (k (σ1.fx n (.row gr .aL ts (bK xs kk e'))))
theorem Y7 (h:Nat->Option SB) (n:Nat):(dw h n).isSome=(h n).isSome:=by
 unfold dw;cases h n<;>rfl
theorem at5 {σ:ai} {n:Nat} {gr:Bool} {m:Mode} {ts:List Ty} {xs:List (Ty.DL ts)} {kk off:Nat} {e:Ty.DL ts} {vs:List SC} {k:ai->Option ρ} {r:ρ}
  (h:Ws σ n gr m ts xs kk off e vs k=some r):
  ∃σ1:ai,pS σ.er n gr m ts.length (List.map (Ty.aW ts) xs) kk off (Ty.aW ts e) (vs.map SC.er)=some σ1.er/\k σ1=some r:=by
 unfold Ws at h;split at h
 ·cases h
 ·rename_i gW ho;obtain⟨cs,o,σ1,h1,h2⟩:=I0 h;have hold:sub (Ty.aW ts e) off (vs.map SC.er).length=some (dC gW):=by
   rw[<-Ty.rF];simp only[dC];rw[tQ,zaf,ho];rfl
  split at h2
  ·cases h2
  ·rename_i e' he;have Bw:dz (Ty.aW ts e) off (dC cs)=Ty.aW ts e':=by
    rw[zI he,<-Ty.rF];simp only[dC];rw[<-Fu]
   have vT:(List.map (Ty.aW ts) xs).set kk (Ty.aW ts e')=List.map (Ty.aW ts) (bK xs kk e'):=by
    show _=List.map (Ty.aW ts) (xs.set kk e');rw[zaF]
   have Ek:σ1.er.h n=(σ1.h n).map SB.er:=rfl;split at h2
   ·have hb:=(cZ h2).1;replace h2:=(cZ h2).2;simp only[zai] at hb;refine⟨_,?_,h2⟩;simp only[pS,hold,h1,if_true,ati,hb.1.1,hb.1.2,Ek,zaS,hb.2,and_self,Bw,vT,ai.rJ,SB.er]
   ·have hb:=(cZ h2).1;replace h2:=(cZ h2).2;refine⟨_,?_,h2⟩;cases o<;>simp only[pS,hold,h1,Ek,zaS,hb,Bw,vT,ai.rJ,SB.er,reduceCtorEq,if_false,if_true,zam,cond_true,cond_false,ite_self]
   ·have hb:=(cZ h2).1;replace h2:=(cZ h2).2;refine⟨_,?_,h2⟩;cases o<;>simp only[pS,hold,h1,Ek,zaS,hb,Bw,vT,ai.rJ,SB.er,reduceCtorEq,if_false,if_true,zam,cond_true,cond_false,ite_self]
def yQ (us ts:List Ty) (xs:List (Ty.DL us)):Option (List (Ty.DL ts)):=if h:Ty.ui us ts=true then some (Ty.uj h▸xs) else none
theorem Qe {us ts:List Ty} {xs:List (Ty.DL us)} {ys:List (Ty.DL ts)} (h:yQ us ts xs=some ys):us.length=ts.length/\List.map (Ty.aW us) xs=List.map (Ty.aW ts) ys/\xs.length=ys.length:=by
 unfold yQ at h;split at h
 ·rename_i he;have:=Ty.uj he;subst this;injection h with h;rw[<-h];exact⟨rfl,rfl,rfl⟩
 ·cases h
def VK (σ:ai) (ts:List Ty) (v:SV) (k:List (Ty.DL ts)->Mode->ai->Option ρ):Option ρ:=
 match v with
 |.one (.nil _)=>k [] .bc σ
 |.one (.sl a s lo len)=>match σ.h a with
  |some (.row true m us xs)=>dv s ts.length (dv lo 0 (match yQ us ts xs with
   |some ys=>(bk lo len (ae ys)).af fun _=>k ys m (σ.del a)
   |none=>none))
  |_=>none
 |_=>none
theorem Ri {lo len l:Nat} {u:Unit} (h:bk lo len l=some u):lo=0/\len=l:=by
 unfold bk at h;split at h
 ·rename_i hc;exact hc
 ·cases h
theorem ate {σ:ai} {ts:List Ty} {v:SV} {k:List (Ty.DL ts)->Mode->ai->Option ρ} {r:ρ} (h:VK σ ts v k=some r):
  ∃(xs:List (Ty.DL ts)) (m:Mode) (σ1:ai),sI σ.er ts.length v.er=some (List.map (Ty.aW ts) xs,m,σ1.er)/\k xs m σ1=some r:=by
 unfold VK at h;split at h
 ·exact⟨[],.bc,σ,rfl,h⟩
 ·rename_i a s lo len;split at h
  ·rename_i m us xs hn;have bX:=(bw h).1;replace h:=(bw h).2;subst bX;have bX:=(bw h).1;replace h:=(bw h).2;subst bX;split at h
   ·rename_i ys hc;obtain⟨c1,c2,c3⟩:=Qe hc;rw[fL] at h;obtain⟨_,hf,h⟩:=h;obtain⟨_,hlen⟩:=Ri hf
    replace hlen:len=ys.length:=hlen
    refine⟨ys,m,σ.del a,?_,h⟩;have bU:σ.er.h a=some (.row true m ts.length (List.map (Ty.aW ts) ys)):=by simp[ai.er,dw,hn,SB.er,c1,c2]
    subst hlen;simp only[SV.er,SC.er,sI,bU,zaf,and_self,if_true,ai.LN]
   ·cases h
  ·cases h
 ·cases h
theorem afA (ts:List Ty) (xs:List (Ty.DL ts)) (h:Ty.g8 ts=true):jv (List.map (Ty.aW ts) xs)=true:=by
 simp only[jv,zaC,zas];rintro _ ⟨e,_,rfl⟩;rw[Ty.Ob];exact h
def VL (fl:Bool) (σ:ai) (ts:List Ty) (m:Mode) (v:SV) (k:List (Ty.DL ts)->Mode->ai->Option ρ):Option ρ:=
 match v with
 |.one (.nil _)=>k [] m σ
 |.one (.v (.list us) ys)=>match yQ us ts ys with
  |some zs=>match fl with
   |true=>gn (Ty.g8 ts) (k zs m σ)
   |false=>match m with
    |.live=>none
    |_=>k zs .aL σ
  |none=>none
 |.one (.sl b s lo len)=>match σ.h b with
  |some (.row _ m' us ys)=>dv s ts.length (match yQ us ts ys with
   |some zs=>match fl with
    |true=>gn (Ty.g8 ts) ((cM zs lo len).af fun ws=>k ws m σ)
    |false=>(bk lo len (ae zs)).af fun _=>match m,m' with
     |.bc,.bc=>k zs .bc (σ.del b)
     |.live,.live=>k zs .live (σ.del b)
     |.aL,.aL=>k zs .aL (σ.del b)
     |.bc,.aL=>k zs .aL (σ.del b)
     |.aL,.bc=>k zs .aL (σ.del b)
     |_,_=>none
   |none=>none)
  |_=>none
 |_=>none
theorem atf {fl:Bool} {σ:ai} {ts:List Ty} {m:Mode} {v:SV} {k:List (Ty.DL ts)->Mode->ai->Option ρ} {r:ρ} (h:VL fl σ ts m v k=some r):
  ∃(ys:List (Ty.DL ts)) (m2:Mode) (σ1:ai),oz fl σ.er ts.length m v.er=some (List.map (Ty.aW ts) ys,m2,σ1.er)/\k ys m2 σ1=some r:=by
 unfold VL at h;split at h
 ·exact⟨[],m,σ,rfl,h⟩
 ·rename_i us ys;split at h
  ·rename_i zs hc;obtain⟨e1,e2,e3⟩:=Qe hc;have pf:Ty.er (.list us) ys=.list ts.length (List.map (Ty.aW ts) zs):=by rw[<-e1,<-e2];rfl
   split at h
   ·have hs:=(cZ h).1;replace h:=(cZ h).2;refine⟨zs,m,σ,?_,h⟩;simp only[SV.er,SC.er,pf,oz,if_true,zbf,afA ts zs hs]
   ·split at h
    ·cases h
    ·rename_i hm;refine⟨zs,.aL,σ,?_,h⟩;have cF:m≠ .live:=fun e=>hm e;simp only[SV.er,SC.er,pf,oz,if_true,Bool.false_and,zam,if_false,if_neg cF]
  ·cases h
 ·rename_i b s lo len;split at h
  ·rename_i gr m' us ys hn;have bX:=(bw h).1;replace h:=(bw h).2;subst bX;split at h
   ·rename_i zs hc;obtain⟨e1,e2,e3⟩:=Qe hc;have bU:σ.er.h b=some (.row gr m' ts.length (List.map (Ty.aW ts) zs)):=by simp[ai.er,dw,hn,SB.er,e1,e2]
    split at h
    ·have hs:=(cZ h).1;replace h:=(cZ h).2;rw[fL] at h;obtain⟨ws,hw,h⟩:=h;obtain⟨w1,w2⟩:=ag8 hw;refine⟨ws,m,σ,?_,h⟩;simp only[SV.er,SC.er,oz,bU,zaf,w1,w2,and_self,if_true,zbf,afA ts ws hs]
    ·rw[fL] at h;obtain⟨_,hf,h⟩:=h;obtain⟨rfl,hlen⟩:=Ri hf
     replace hlen:len=zs.length:=hlen
     subst hlen;have Em:List.take zs.length (List.map (Ty.aW ts) zs)=List.map (Ty.aW ts) zs:=by
      rw[zaY];simp
     cases m<;>cases m'<;>first
      |(cases h;done)
      |exact⟨zs,_,σ.del b,by simp[SV.er,SC.er,oz,bU,ai.LN],h⟩
   ·cases h
  ·cases h
 ·cases h
def SC.ZK:SC->Bool
 |.fn _ _=>false
 |.cd=>false
 |_=>true
def CA:List SV->Option (List SC)
 |[]=>some []
 |.one c::vs=>match c.ZK,CA vs with
  |true,some cs=>some (c::cs)
  |_,_=>none
 |_::_=>none
theorem af6:∀{vs:List SV} {cs:List SC},CA vs=some cs->
  (vs.map SV.er).mapM (fun v=>match v with|.one c=>if c.nZ=true then none else some c|_=>none)=some (cs.map SC.er)/\(cs.map SC.er).all aj.Ie=true
 |[],cs,h=>by simp only[CA] at h;injection h with h;subst h;exact⟨rfl,rfl⟩
 |.one c::vs,cs,h=>by
  simp only[CA] at h;split at h
  ·rename_i cs' e1 e2;injection h with h;subst h;obtain⟨i1,i2⟩:=af6 e2;have hc:c.er.nZ=false/\c.er.Ie=true:=by cases c<;>first|exact⟨rfl,rfl⟩|(simp[SC.ZK] at e1)
   refine⟨?_,by simp[hc.2];simpa using i2⟩;simp only[zac,List.mapM_cons,SV.er,hc.1];rw[i1];rfl
  ·cases h
 |.agg _::_,cs,h=>by simp[CA] at h
 |.cf _::_,cs,h=>by simp[CA] at h
end
end
theorem aoC {α β:Type} (f:α->β) {l:List α} {i:Nat} {e:α} (h:l[i]? =some e):(l.map f)[i]? =some (f e):=by rw[zag,h];rfl
section
variable {ρ:Type}
def NQ:Bool->Mode
 |true=>.bc
 |false=>.aL
theorem arf (o:Bool):(if o=true then Mode.bc else .aL)=NQ o:=by cases o<;>rfl
def NM (σ:ai) (d:Int) (o:Option dg):Option Int:=
 match o with
 |none=>some d
 |some q=>(σ.ev q).eV
theorem NO {σ:ai} {d l:Int} {o:Option dg} (h:NM σ d o=some l):(match o.map dg.er with|none=>some d|some q=>(σ.er.ev q).eV)=some l:=by
 cases o with
 |none=>exact h
 |some q=>simp only[zab,ai.eK];exact SV.BL h
def wI (fZ:Bool) (n:Int) (c:SC):List SC:=match fZ with
 |true=>[.v (.int .i64) n,.v (.int .i64) (1:Int),c]
 |false=>[.v (.int .i64) (1:Int),.v (.int .i64) n,c]
theorem Wp (fZ:Bool) (n:Int) (c:SC):(wI fZ n c).map SC.er=Cm fZ n c.er:=by cases fZ<;>rfl
def Cq:List SC->Option (List TD)
 |[]=>some []
 |.v t x::l=>match t.gK with
  |true=>match Cq l with
   |some ds=>some (⟨t,x⟩::ds)
   |none=>none
  |false=>none
 |_::_=>none
theorem afE:∀{vs:List SC} {ds:List TD},Cq vs=some ds->nQ (vs.map SC.er)=some (dC ds)
 |[],ds,h=>by simp only[Cq] at h;injection h with h;subst h;rfl
 |c::vs,ds,h=>by
  cases c with
  |v t x=>
   simp only[Cq] at h;split at h
   ·rename_i hs;split at h
    ·rename_i l hl;injection h with h;subst h;simp only[zac,SC.er,nQ,Ty.z7,hs,if_true,afE hl,dC,zab]
    ·cases h
   ·cases h
  |_=>simp[Cq] at h
def Wr (us:List Ty) (e:Ty.DL us) (off s i:Nat) (vs:List SC) (k:Ty.DL us->Option ρ):Option ρ:=
 match(Ty.jc us e)[off]? with
 |some ⟨.list ts,ys⟩=>dv ts.length s (dv vs.length s (gn (Ty.g8 ts) ((cW (α:=Ty.DL ts) ys i).af fun _=>match Cq vs with
  |some ds=>match tu ts ds with
   |some el=>match Of us e off ⟨.list ts,bK (α:=Ty.DL ts) ys i el⟩ with
    |some e'=>k e'
    |none=>none
   |none=>none
  |none=>none)))
 |_=>none
theorem atA {us ts:List Ty} {xs:List (Ty.DL us)} {kk off i:Nat} {e e':Ty.DL us} {vs:List SC} {ds:List TD} {el y0:Ty.DL ts} (ys:List (Ty.DL ts)) (he:xs[kk]? =some e) (hd:(Ty.jc us e)[off]? =some ⟨.list ts,ys⟩)
  (kR:vs.length=ts.length) (hs:Ty.g8 ts=true) (hy:ys[i]? =some y0) (lW:Cq vs=some ds) (qg:tu ts ds=some el) (Bw:Of us e off ⟨.list ts,bK ys i el⟩=some e'):
  yb (List.map (Ty.aW us) xs) kk off ts.length i (vs.map SC.er)=some (List.map (Ty.aW us) (bK xs kk e')):=by
 have nj:(Ty.aW us e)[off]? =some (.list ts.length (List.map (Ty.aW ts) ys)):=QA hd;have hx:(List.map (Ty.aW us) xs)[kk]? =some (Ty.aW us e):=by rw[zag,he];rfl
 have hi:i<(List.map (Ty.aW ts) ys).length:=by rw[zaf];exact(zah.1 hy).1
 have aa0:Ty.aW us e'=(Ty.aW us e).set off (.list ts.length (List.map (Ty.aW ts) (bK ys i el))):=afG Bw;unfold yb;rw[hx,zaK,nj];simp only
 rw[if_pos ⟨trivial,by simpa using kR,hi,Cp ts ys hs⟩,afE lW,zaN,hx];simp only[zab,Option.getD_some];unfold bK at aa0⊢;rw[zaF,aa0,zaF,zI qg]
theorem at4 {us:List Ty} {xs:List (Ty.DL us)} {kk:Nat} {e:Ty.DL us} {off s i:Nat} {vs:List SC} {k:Ty.DL us->Option ρ} {r:ρ} (he:xs[kk]? =some e) (h:Wr us e off s i vs k=some r):
  ∃e',yb (List.map (Ty.aW us) xs) kk off s i (vs.map SC.er)=some (List.map (Ty.aW us) (bK xs kk e'))/\k e'=some r:=by
 unfold Wr at h;split at h
 ·rename_i ts ys hd;have zb:=(bw h).1;replace h:=(bw h).2;have uH:=(bw h).1;replace h:=(bw h).2;have hs:=(cZ h).1;replace h:=(cZ h).2;rw[fL] at h;obtain⟨y0,hy,h⟩:=h;split at h
  ·rename_i ds lW;split at h
   ·rename_i el qg;split at h
    ·rename_i e' Bw;subst zb;exact⟨e',atA ys he hd uH hs hy lW qg Bw,h⟩
    ·cases h
   ·cases h
  ·cases h
 ·cases h
def fK (T:List aw) (d:Option Nat) (op:dE) (σ:ai) (k:ai->Option ρ):Option ρ:=
 match op with
 |.mv x=>k (σ.put d (σ.ev x))
 |.pick c x y=>match σ.ev c with
  |.one (.v .bool b)=>match σ.ev x,σ.ev y with
   |.one (.v t x'),.one (.v u y')=>match Ty.cast u t y' with
    |some z=>k (σ.put d (.one (.v t (aI b x' z))))
    |none=>aI b (k (σ.put d (σ.ev x))) (k (σ.put d (σ.ev y)))
   |_,_=>aI b (k (σ.put d (σ.ev x))) (k (σ.put d (σ.ev y)))
  |_=>none
 |.alloc zs=>match d with
  |some n=>match σ.ins n (.box zs) with
   |some σ1=>k (σ1.put d (.one (.ptr n 0 0 0)))
   |none=>none
  |none=>none
 |.box sz x=>match d,(σ.ev x).cells? with
  |some n,some (_,cs)=>dv cs.length sz (match σ.ins n (.box cs) with
   |some σ1=>k (σ1.put d (.one (.ptr n 0 0 0)))
   |none=>none)
  |_,_=>none
 |.build zs parts=>match IZ σ.ev zs parts with
  |some cs=>k (σ.put d (.agg cs))
  |none=>none
 |.hZ ts parts=>match d with
  |some n=>OJ ts σ (parts.map σ.ev) fun es o σ1=>match σ1.ins n (.row true (NQ o) ts es) with
   |some σ2=>k (σ2.put d (.one (.sl n ts.length 0 es.length)))
   |none=>none
  |none=>none
 |.load ag sz x=>match σ.ev x with
  |.one p=>IL σ.h p sz fun cs=>k (σ.put d (CK ag cs))
  |_=>none
 |.rZ ag sz x=>match σ.ev x with
  |.one p=>VZ σ p fun σ1=>IL σ1.h p sz fun cs=>k (σ1.put d (CK ag cs))
  |_=>none
 |.store sz x v=>match σ.ev x,(σ.ev v).cells? with
  |.one (.ptr n kk aR off),some (_,vs)=>dv vs.length sz (match σ.h n with
   |some (.box cs)=>dv kk 0 (gn (Nat.ble (off+sz) cs.length) (k (σ.fx n (.box (dz cs off vs)))))
   |some (.row gr m ts xs)=>dv aR ts.length ((cW xs kk).af fun e=>Ws σ n gr m ts xs kk off e vs k)
   |none=>none)
  |.one (.dY n kk aR off s i),some (_,vs)=>dv vs.length sz (match σ.h n with
   |some (.row gr .live us xs)=>dv aR us.length ((cW xs kk).af fun e=>Wr us e off s i vs fun e'=>k (σ.fx n (.row gr .live us (bK xs kk e'))))
   |_=>none)
  |_,_=>none
 |.jM x=>match σ.ev x with
  |.one (.ptr n kk sz off)=>gn (σ.h n).isSome (k (σ.put d (.one (.ptr n kk sz off))))
  |.one (.dr ts x off)=>k (σ.put d (.one (.dr ts x off)))
  |.one (.cN ts x off j n s len)=>k (σ.put d (.one (.cN ts x off j n s len)))
  |_=>none
 |.bin op x y=>Qb op (σ.ev x) (σ.ev y) fun t z=>k (σ.put d (.one (.v t z)))
 |.rB op x y=>Qa op (σ.ev x) (σ.ev y) fun t z=>k (σ.put d (.one (.v t z)))
 |.un op x=>WW op (σ.ev x) fun t z=>k (σ.put d (.one (.v t z)))
 |.conv kd x=>match σ.ev x with
  |.one (.v (.int _) n)=>k (σ.put d (.one (.v (.int kd) (Qx kd n))))
  |_=>none
 |.jK m ts by_ z l c=>match d,(σ.ev l).eV,(σ.ev c).eV with
  |some n,some a,some b=>(km a b by_).af fun len=>match σ.ins n (.row true m ts (dk len z)) with
   |some σ1=>k (σ1.put d (.one (.sl n ts.length 0 len)))
   |none=>none
  |_,_,_=>none
 |.slice sz x lo hi=>
  match σ.ev x,NM σ 0 lo with
  |.one (.sl n s l0 len),some l=>
   match NM σ (aS len) hi with
   |some h=>dv s sz (gn (σ.h n).isSome ((j0 l h len).af fun p=>k (σ.put d (.one (.sl n s (aH l0 p.1) p.2)))))
   |none=>none
  |.one (.v (.list ts) xs),some l=>
   match NM σ (aS (ae (α:=Ty.DL ts) xs)) hi with
   |some h=>dv ts.length sz ((j0 l h (ae (α:=Ty.DL ts) xs)).af fun p=>k (σ.put d (.one (.v (.list ts) (jw (α:=Ty.DL ts) xs p.1 p.2)))))
   |none=>none
  |_,_=>none
 |.tail sz x lo=>match d,σ.ev x,(σ.ev lo).eV with
  |some n,.one (.sl a s l0 len),some l=>match σ.h a with
   |some (.row true m ts xs)=>dv s ts.length (dv ts.length sz (dv l0 0 ((bk l0 len (ae xs)).af fun _=>(j0 l (aS (ae xs)) (ae xs)).af fun p=>
    match(σ.del a).ins n (.row true m ts (jw xs p.1 p.2)) with
    |some σ1=>k (σ1.put d (.one (.sl n sz 0 p.2)))
    |none=>none)))
   |_=>none
  |_,_,_=>none
 |.qd off x=>match σ.ev x with
  |.one (.ptr n kk sz o)=>gn (σ.h n).isSome (k (σ.put d (.one (.ptr n kk sz (o+off)))))
  |.one (.dr ts x o)=>k (σ.put d (.one (.dr ts x (o+off))))
  |.one (.cN ts x o j n s len)=>k (σ.put d (.one (.cN ts x (o+off) j n s len)))
  |_=>none
 |.pC sz x i=>match σ.ev x,(σ.ev i).eV with
  |.one (.sl n s lo len),some j=>dv s sz (gn (σ.h n).isSome ((dB j len).af fun q=>k (σ.put d (.one (.ptr n (aH lo q) s 0)))))
  |.one (.v (.list ts) xs),some j=>dv ts.length sz ((di (α:=Ty.DL ts) xs j).af fun e=>k (σ.put d (.one (.dr ts e 0))))
  |.one (.ct n kk aR off s len),some j=>Aj σ.h (.ct n kk aR off s len) fun t x=>match t,x with
   |.list ts,ys=>dv ts.length sz ((dB j (ae (α:=Ty.DL ts) ys)).af fun q=>k (σ.put d (.one (.dY n kk aR off sz q))))
   |_,_=>none
  |_,_=>none
 |.ext i x=>match σ.ev x with
  |.cf xs=>match xs[i]? with
   |some (ag,cs)=>k (σ.put d (CK ag cs))
   |none=>none
  |_=>none
 |.sW ag off sz x=>match σ.ev x with
  |.agg cs=>match sub cs off sz with
   |some l=>k (σ.put d (CK ag l))
   |none=>none
  |_=>none
 |.sk f fZ x=>match σ.ev x with
  |.one (.sl n sz lo len)=>gn (σ.h n).isSome (k (σ.put d (.agg (wI fZ (aS len) (.sl n sz lo len)))))
  |.one (.v (.list ts) xs)=>k (σ.put d (.agg (wI fZ (aS (ae (α:=Ty.DL ts) xs)) (.v (.list ts) xs))))
  |.one (.nil ts)=>k (σ.put d (.agg (wI fZ (0:Int) (.nil ts))))
  |_=>none
 |.len x=>match σ.ev x with
  |.one (.sl n sz lo len)=>gn (σ.h n).isSome (k (σ.put d (.one (.v (.int .i64) (aS len)))))
  |.one (.v (.list ts) xs)=>k (σ.put d (.one (.v (.int .i64) (aS (ae (α:=Ty.DL ts) xs)))))
  |.one (.nil ts)=>k (σ.put d (.one (.v (.int .i64) (0:Int))))
  |.one (.ct n kk aR off sz len)=>Aj σ.h (.ct n kk aR off sz len) fun t x=>match t,x with
   |.list ts,ys=>k (σ.put d (.one (.v (.int .i64) (aS (ae (α:=Ty.DL ts) ys)))))
   |_,_=>none
  |_=>none
 |.append fl ts by_ x y=>match d with
  |none=>none
  |some n=>VK σ ts (σ.ev x) fun xs m σ1=>VL fl σ1 ts m (σ.ev y) fun ys m2 σ2=>
   (mG (aH (ae xs) (ae ys)) by_).af fun _=>match σ2.ins n (.row true m2 ts (fj xs ys)) with
    |some iD=>k (iD.put d (.one (.sl n ts.length 0 (aH (ae xs) (ae ys)))))
    |none=>none
 |.mm mx x y=>match σ.ev x,σ.ev y with
  |.one (.v (.int kd) a),.one (.v (.int kd') b)=>match mx with
   |true=>k (σ.put d (.one (.v (.int kd) (xW a b))))
   |false=>k (σ.put d (.one (.v (.int kd) (iB a b))))
  |_,_=>none
 |.call m f xs=>Oe T m d f (xs.map σ.ev) σ k
 |.qa f xs=>VQ T d f (xs.map σ.ev) σ k
 |.copy x y=>match σ.ev x,σ.ev y with
  |.one (.sl n s lo len),.one c=>match σ.h n with
   |some (.row gr m ts xs)=>dv s 1 (dv ts.length 1 (gn (m.own&&Ty.g8 ts) (Aj σ.h c fun u ys=>match u,ys with
    |.list us,ys=>match Ty.cast (.list us) (.list ts) ys with
     |some zs=>(AY (α:=Ty.DL ts) xs lo len (List.take (α:=Ty.DL ts) len zs)).af fun az=>k ((σ.fx n (.row gr m ts az)).put d (.one (.v (.int .i64) (aS (Nat.min (ae (α:=Ty.DL ts) zs) len)))))
     |none=>none
    |_,_=>none)))
   |_=>none
  |_,_=>none
 |.m6 t z x=>match σ.ev x with
  |.one (.sl n s lo len)=>match σ.h n with
   |some (.row gr m ts xs)=>dv s 1 (gn (m.own&&t.gK) (match tu ts [⟨t,z⟩] with
    |some e=>(AY (α:=Ty.DL ts) xs lo len (dk len e)).af fun az=>k ((σ.fx n (.row gr m ts az)).put d (.cf []))
    |none=>none))
   |_=>none
  |_=>none
 |.re f xs=>match CA (xs.map σ.ev) with
  |some cs=>k (σ.put d (.one (.fn f cs)))
  |none=>none
 |.qb m x xs=>match σ.ev x with
  |.one (.fn f c9)=>Oe T m d f (xs.map σ.ev++c9.map .one) σ k
  |_=>none
 |.lv m f xs=>VR T m d f (xs.map σ.ev) σ k
 |.lr f xs=>VP T d f (xs.map σ.ev) σ k
 |.nM f xs=>VU T d f (xs.map σ.ev) σ k
 |.mD f xs=>VT T d f (xs.map σ.ev) σ k
 |.nN m f xs=>VV T m d f (xs.map σ.ev) σ k
 |.o8 m f x xs=>match σ.ev x with
  |.one (.fn g c9)=>dv g f (VS T m d f (xs.map σ.ev++c9.map .one) σ k)
  |_=>none
theorem Gw {σ:ai} {n:Nat} {b:SB} (h:σ.h n=some b):σ.er.h n=some b.er:=by simp[ai.er,dw,h]
theorem DP {σ:ai} {n:Nat} (h:(σ.h n).isSome=true):(σ.er.h n).isSome=true:=by
 simp only[ai.er,Y7,h]
theorem W3 (t:Ty) (x:t.D):(SV.one (.v t x)).er=.one (.c (t.er x)):=rfl
theorem YC {ts:List Ty} {xs az ys:List (Ty.DL ts)} {lo len:Nat} (h:AY xs lo len ys=some az):lo+len<=xs.length/\List.map (Ty.aW ts) az=dz (List.map (Ty.aW ts) xs) lo (List.map (Ty.aW ts) ys):=by
 unfold AY at h;split at h
 ·rename_i hc;injection h with h;subst h;exact⟨hc,Fu (Ty.aW ts) xs ys lo⟩
 ·cases h
theorem Ty.aid {t u:Ty} {x:t.D} {y:u.D} (h:Ty.cast t u x=some y):t.er x=u.er y:=by
 unfold Ty.cast at h;split at h
 ·rename_i he;have:=Ty.beq_eq he;subst this;injection h with h;rw[<-h]
 ·cases h
theorem afI {T:List aw} {d:Option Nat} {op:dE} {σ:ai} {k:ai->Option ρ} {r:ρ} (h:fK T d op σ k=some r):
  ∃σ1:ai,exec (df T) d op.er σ.er=some σ1.er/\k σ1=some r:=by
 cases op with
 |mv x=>exact⟨_,by simp only[dE.er,exec,ai.eD,ai.eK],h⟩
 |pick c x y=>
  simp only[fK] at h;split at h
  ·rename_i b hc;have dO:σ.er.ev c.er=.one (.c (.bool b)):=by rw[ai.eK,hc];rfl
   have cI:∀σ1:ai,σ1.er=σ.er.put d (cond b (σ.ev x).er (σ.ev y).er)->exec (df T) d (dE.er (.pick c x y)) σ.er=some σ1.er:=by
    intro σ1 e;simp only[dE.er,exec,dO,ai.eK,e];cases b<;>rfl
   have gen:aI b (k (σ.put d (σ.ev x))) (k (σ.put d (σ.ev y)))=some r->∃σ1:ai,exec (df T) d (dE.er (.pick c x y)) σ.er=some σ1.er/\k σ1=some r:=by
    intro h;cases hb:(b:Bool) with
    |true=>rw[hb] at h;exact⟨_,cI _ (by rw[ai.eD,hb];rfl),h⟩
    |false=>rw[hb] at h;exact⟨_,cI _ (by rw[ai.eD,hb];rfl),h⟩
   split at h
   ·rename_i t x' u y' ex ey;split at h
    ·rename_i z hz;refine⟨_,cI _ ?_,h⟩;rw[ai.eD,ex,ey,W3,W3,W3,Ty.Yf hz];cases (b:Bool)<;>rfl
    ·exact gen h
   ·exact gen h
  ·cases h
 |alloc zs=>
  simp only[fK] at h;split at h
  ·rename_i n;split at h
   ·rename_i σ1 e;have:=ai.vE e;exact⟨_,by simp only[dE.er,exec];rw[show av.box (zs.map SC.er)=(SB.box zs).er from rfl,this,ai.eD];rfl,h⟩
   ·cases h
  ·cases h
 |box sz x=>
  simp only[fK] at h;split at h
  ·rename_i n b cs hc;have bX:=(bw h).1;replace h:=(bw h).2;subst bX;split at h
   ·rename_i σ1 e;have:=ai.vE e;refine⟨_,?_,h⟩;simp only[dE.er,exec,ai.eK,SV.m5 hc,zaf,if_true];rw[show av.box (cs.map SC.er)=(SB.box cs).er from rfl,this,ai.eD];rfl
   ·cases h
  ·cases h
 |build zs parts=>
  simp only[fK] at h;split at h
  ·rename_i cs hc;exact⟨_,by simp only[dE.er,exec,agy hc,ai.eD];rfl,h⟩
  ·cases h
 |hZ ts parts=>
  simp only[fK] at h;split at h
  ·rename_i n;obtain⟨es,o,σ1,h1,h2⟩:=agz h;split at h2
   ·rename_i σ2 e;have i:=ai.vE e;refine⟨_,?_,h2⟩;simp only[dE.er,exec,uw,h1,ai.eD];have:(SB.row true (NQ o) ts es).er=av.row true (NQ o) ts.length (List.map (Ty.aW ts) es):=rfl;rw[arf,<-this,i,zaf];rfl
   ·cases h2
  ·cases h
 |load ag sz x=>
  simp only[fK] at h;split at h
  ·rename_i p hp;obtain⟨l,h1,h2⟩:=V5 h;have bJ:σ.er.ev x.er=.one p.er:=by rw[ai.eK,hp];rfl
   have mH:loadAt σ.er.h p.er sz=some (l.map SC.er):=h1;exact⟨_,by simp only[dE.er,exec,bJ,mH,ai.eD,FF],h2⟩
  ·cases h
 |rZ ag sz x=>
  simp only[fK] at h;split at h
  ·rename_i p hp;obtain⟨σ1,h0,h⟩:=atB h;obtain⟨l,h1,h2⟩:=V5 h;have bJ:σ.er.ev x.er=.one p.er:=by rw[ai.eK,hp];rfl
   have mH:loadAt σ1.er.h p.er sz=some (l.map SC.er):=h1;exact⟨_,by simp only[dE.er,exec,bJ,h0,mH,ai.eD,FF],h2⟩
  ·cases h
 |store sz x v=>
  simp only[fK] at h;split at h
  ·rename_i n kk aR off b vs hp hc;have bX:=(bw h).1;replace h:=(bw h).2;subst bX;have bJ:σ.er.ev x.er=.one (.ptr n kk aR off):=by rw[ai.eK,hp];rfl
   have dO:(σ.er.ev v.er).cells?=some (b,vs.map SC.er):=by rw[ai.eK];exact SV.m5 hc
   split at h
   ·rename_i cs hn;have bX:=(bw h).1;replace h:=(bw h).2;subst bX;have hb:=(cZ h).1;replace h:=(cZ h).2;have kf:=zaJ hb;refine⟨_,?_,h⟩;simp only[dE.er,exec,bJ,dO,zaf,if_true,Gw hn,SB.er,kf,and_self,ai.rJ,<-Fu]
   ·rename_i gr m ts xs hn;have bX:=(bw h).1;replace h:=(bw h).2;subst bX;rw[fL] at h;obtain⟨e,he,h⟩:=h
    replace he:xs[kk]? =some e:=he
    obtain⟨σ1,s1,s2⟩:=at5 h;refine⟨σ1,?_,s2⟩;have nj:(List.map (Ty.aW ts) xs)[kk]? =some (Ty.aW ts e):=by rw[zag,he];rfl
    simp only[dE.er,exec,bJ,dO,zaf,if_true,Gw hn,SB.er,nj,s1]
   ·cases h
  ·rename_i n kk aR off s i b vs hp hc;have bX:=(bw h).1;replace h:=(bw h).2;subst bX;have bJ:σ.er.ev x.er=.one (.dY n kk aR off s i):=by rw[ai.eK,hp];rfl
   have dO:(σ.er.ev v.er).cells?=some (b,vs.map SC.er):=by rw[ai.eK];exact SV.m5 hc
   split at h
   ·rename_i gr us xs hn;have bX:=(bw h).1;replace h:=(bw h).2;subst bX;rw[fL] at h;obtain⟨e,he,h⟩:=h
    replace he:xs[kk]? =some e:=he
    obtain⟨e',s1,s2⟩:=at4 he h;refine⟨_,?_,s2⟩;simp only[dE.er,exec,bJ,dO,zaf,if_true,Gw hn,SB.er,s1,ai.rJ]
   ·cases h
  ·cases h
 |jM x=>
  simp only[fK] at h;split at h
  ·rename_i n kk sz off hp;have hb:=(cZ h).1;replace h:=(cZ h).2;have bJ:σ.er.ev x.er=.one (.ptr n kk sz off):=by rw[ai.eK,hp];rfl
   exact⟨_,by simp only[dE.er,exec,bJ,DP hb,if_true,ai.eD];rfl,h⟩
  ·rename_i ts y off hp;have bJ:σ.er.ev x.er=.one (.dr (Ty.aW ts y) off):=by rw[ai.eK,hp];rfl
   exact⟨_,by simp only[dE.er,exec,bJ,ai.eD];rfl,h⟩
  ·rename_i ts y off j n s len hp;have bJ:σ.er.ev x.er=.one (.cN (Ty.aW ts y) off j n s len):=by rw[ai.eK,hp];rfl
   exact⟨_,by simp only[dE.er,exec,bJ,ai.eD];rfl,h⟩
  ·cases h
 |bin op x y=>
  simp only[fK] at h;obtain⟨t,z,h1,h2⟩:=ah5 h;exact⟨_,by simp only[dE.er,exec,ai.eK,h1,ai.eD];rfl,h2⟩
 |rB op x y=>
  simp only[fK] at h;obtain⟨t,z,h1,h2⟩:=ah3 h;exact⟨_,by simp only[dE.er,exec,ai.eK,h1,ai.eD];rfl,h2⟩
 |un op x=>
  simp only[fK] at h;obtain⟨t,z,h1,h2⟩:=auE h;exact⟨_,by simp only[dE.er,exec,ai.eK,h1,ai.eD];rfl,h2⟩
 |conv kd x=>
  simp only[fK] at h;split at h
  ·rename_i k' n hp;have bJ:σ.er.ev x.er=.one (.c (.int k' n)):=by rw[ai.eK,hp];rfl
   exact⟨_,by simp only[dE.er,exec,bJ,ai.eD];rfl,h⟩
  ·cases h
 |jK m ts by_ z l c=>
  simp only[fK] at h;split at h
  ·rename_i n a b ha hb;rw[fL] at h;obtain⟨len,hm,h⟩:=h;unfold km at hm;split at hm
   ·rename_i dP;injection hm with hm;subst hm;split at h
    ·rename_i σ1 e;have i:=ai.vE e;have xk:(σ.er.ev l.er).eV=some a:=by rw[ai.eK];exact SV.BL ha
     have bB:(σ.er.ev c.er).eV=some b:=by rw[ai.eK];exact SV.BL hb
     refine⟨_,?_,h⟩;have hz:(Ty.aW ts z).length=ts.length:=Ty.DO ts z;have gk:(SB.row true m ts (dk a.toNat z)).er=av.row true m ts.length (List.replicate a.toNat (Ty.aW ts z)):=by simp[SB.er,dk,za7]
     have Ru:a<=b/\0<=a/\b.toNat*by_<=fe/\(Ty.aW ts z).length=ts.length:=⟨dP.1,dP.2.1,dP.2.2,hz⟩;simp only[dE.er,exec,xk,bB,if_pos Ru,<-gk,i,ai.eD];rfl
    ·cases h
   ·cases hm
  ·cases h
 |slice sz x lo hi=>
  simp only[fK] at h;split at h
  ·rename_i n s l0 len l hp el;have bJ:σ.er.ev x.er=.one (.sl n s l0 len):=by rw[ai.eK,hp];rfl
   split at h
   ·rename_i hh eh;have bX:=(bw h).1;replace h:=(bw h).2;subst bX;have hb:=(cZ h).1;replace h:=(cZ h).2;rw[fL] at h;obtain⟨p,hs,h⟩:=h;unfold j0 at hs;split at hs
    ·rename_i dP;injection hs with hs;subst hs;refine⟨_,?_,h⟩;have xn:s=s/\0<=l/\l<=hh/\hh<=len/\(σ.er.h n).isSome=true:=⟨rfl,dP.1,dP.2.1,dP.2.2,DP hb⟩;have e1:=NO el;have e2:=NO eh;rw[ai.eD];cases lo with
     |none=>
      simp only[zal,zan] at e1;subst e1;cases hi with
      |none=>
       simp only[zal,zan] at e2;subst e2;simp only[dE.er,exec,bJ,zal];exact if_pos ⟨trivial,xn.2⟩
      |some q=>
       simp only[zab] at e2;simp only[dE.er,exec,bJ,zal,zab,e2];exact if_pos ⟨trivial,xn.2⟩
     |some q0=>
      simp only[zab] at e1;cases hi with
      |none=>
       simp only[zal,zan] at e2;subst e2;simp only[dE.er,exec,bJ,zal,zab,e1];exact if_pos ⟨trivial,xn.2⟩
      |some q=>
       simp only[zab] at e2;simp only[dE.er,exec,bJ,zab,e1,e2];exact if_pos ⟨trivial,xn.2⟩
    ·cases hs
   ·cases h
  ·rename_i ts xs l hp el;have bJ:σ.er.ev x.er=.one (.c (.list ts.length (List.map (Ty.aW ts) xs))):=by rw[ai.eK,hp];rfl
   split at h
   ·rename_i hh eh;have bX:=(bw h).1;replace h:=(bw h).2;subst bX;rw[fL] at h;obtain⟨p,hs,h⟩:=h;unfold j0 at hs;split at hs
    ·rename_i dP;injection hs with hs;subst hs;refine⟨_,?_,h⟩;have xn:ts.length=ts.length/\0<=l/\l<=hh/\hh<=(List.map (Ty.aW ts) xs).length:=⟨rfl,dP.1,dP.2.1,Int.le_trans dP.2.2 (Int.le_of_eq (congrArg _ (zaf (Ty.aW ts)).symm))⟩;have e1:=NO el;have e2:(match hi.map dg.er with|none=>some (((List.map (Ty.aW ts) xs).length:Nat):Int)|some q=>(σ.er.ev q).eV)=some hh:=by rw[show(List.map (Ty.aW ts) xs).length=List.length (α:=Ty.DL ts) xs from zaf (Ty.aW ts)];exact NO eh
     rw[ai.eD];have My:List.map (Ty.aW ts) (List.take (hh - l).toNat (List.drop (α:=Ty.DL ts) l.toNat xs))=((List.map (Ty.aW ts) xs).drop l.toNat).take (hh - l).toNat:=by
      rw[zaH];exact congrArg (List.take (hh - l).toNat) zaL
     refine Eq.trans ?_ (congrArg (fun q=>some (σ.er.put d (ao.one (.c (.list ts.length q))))) My.symm);cases lo with
     |none=>
      simp only[zal,zan] at e1;subst e1;cases hi with
      |none=>
       simp only[zal,zan] at e2;subst e2;simp only[dE.er,exec,bJ,zal];exact if_pos ⟨trivial,xn.2⟩
      |some q=>
       simp only[zab] at e2;simp only[dE.er,exec,bJ,zal,zab,e2];exact if_pos ⟨trivial,xn.2⟩
     |some q0=>
      simp only[zab] at e1;cases hi with
      |none=>
       simp only[zal,zan] at e2;subst e2;simp only[dE.er,exec,bJ,zal,zab,e1];exact if_pos ⟨trivial,xn.2⟩
      |some q=>
       simp only[zab] at e2;simp only[dE.er,exec,bJ,zab,e1,e2];exact if_pos ⟨trivial,xn.2⟩
    ·cases hs
   ·cases h
  ·cases h
 |tail sz x lo=>
  simp only[fK] at h;split at h
  ·rename_i n a0 s l0 len l hp hl;have bJ:σ.er.ev x.er=.one (.sl a0 s l0 len):=by rw[ai.eK,hp];rfl
   have eN:(σ.er.ev lo.er).eV=some l:=by rw[ai.eK];exact SV.BL hl
   split at h
   ·rename_i m ts xs hn;have bX:=(bw h).1;replace h:=(bw h).2;subst bX;have bX:=(bw h).1;replace h:=(bw h).2;subst bX;have bX:=(bw h).1;replace h:=(bw h).2;subst bX;rw[fL] at h;obtain⟨_,hf,h⟩:=h;obtain⟨_,hlen⟩:=Ri hf;rw[fL] at h;obtain⟨p,hs,h⟩:=h;unfold j0 at hs;split at hs
    ·rename_i dP;injection hs with hs;subst hs;simp only at h;split at h
     ·rename_i σ1 e1;refine⟨_,?_,h⟩;have alC:len=xs.length:=hlen;have aaL:0<=l/\l<=(xs.length:Int):=⟨dP.1,dP.2.1⟩;have bU:σ.er.h a0=some (.row true m ts.length (List.map (Ty.aW ts) xs)):=by simp[ai.er,dw,hn,SB.er]
      have i1:=ai.vE e1;have e2:(aS (ae xs) - l).toNat=xs.length - l.toNat:=by simp only[aS,ae];omega
      have e3:jw xs l.toNat (aS (ae xs) - l).toNat=xs.drop l.toNat:=by rw[e2];unfold jw;rw[zaY (by simp)]
      rw[e3] at i1;simp only[SB.er,ai.LN,zaL] at i1;simp only[dE.er,exec,bJ,eN,bU,zaf,alC,aaL.1,aaL.2,and_self,if_true,i1,ai.eD,SV.er,SC.er,e2]
     ·cases h
    ·cases hs
   ·cases h
  ·cases h
 |qd off x=>
  simp only[fK] at h;split at h
  ·rename_i n kk sz o hp;have hb:=(cZ h).1;replace h:=(cZ h).2;have bJ:σ.er.ev x.er=.one (.ptr n kk sz o):=by rw[ai.eK,hp];rfl
   exact⟨_,by simp only[dE.er,exec,bJ,DP hb,if_true,ai.eD];rfl,h⟩
  ·rename_i ts y o hp;have bJ:σ.er.ev x.er=.one (.dr (Ty.aW ts y) o):=by rw[ai.eK,hp];rfl
   exact⟨_,by simp only[dE.er,exec,bJ,ai.eD];rfl,h⟩
  ·rename_i ts y o j n s len hp;have bJ:σ.er.ev x.er=.one (.cN (Ty.aW ts y) o j n s len):=by rw[ai.eK,hp];rfl
   exact⟨_,by simp only[dE.er,exec,bJ,ai.eD];rfl,h⟩
  ·cases h
 |pC sz x i=>
  simp only[fK] at h;split at h
  ·rename_i n s lo len j hp hi;have bX:=(bw h).1;replace h:=(bw h).2;subst bX;have hb:=(cZ h).1;replace h:=(cZ h).2;rw[fL] at h;obtain⟨q,hq,h⟩:=h;unfold dB at hq;split at hq
   ·rename_i dP;injection hq with hq;subst hq;have bJ:σ.er.ev x.er=.one (.sl n s lo len):=by rw[ai.eK,hp];rfl
    have e7:(σ.er.ev i.er).eV=some j:=by rw[ai.eK];exact SV.BL hi
    refine⟨_,?_,h⟩;have Ru:s=s/\0<=j/\j<len/\(σ.er.h n).isSome=true:=⟨rfl,dP.1,dP.2,DP hb⟩;simp only[dE.er,exec,bJ,e7,ai.eD];exact if_pos ⟨trivial,Ru.2⟩
   ·cases hq
  ·rename_i ts xs j hp hi;have bX:=(bw h).1;replace h:=(bw h).2;subst bX;rw[fL] at h;obtain⟨e,he,h⟩:=h;unfold di at he;split at he
   ·rename_i dP;have bJ:σ.er.ev x.er=.one (.c (.list ts.length (List.map (Ty.aW ts) xs))):=by rw[ai.eK,hp];rfl
    have e7:(σ.er.ev i.er).eV=some j:=by rw[ai.eK];exact SV.BL hi
    have nj:(List.map (Ty.aW ts) xs)[j.toNat]? =some (Ty.aW ts e):=aoC (Ty.aW ts) he;refine⟨_,?_,h⟩;simp only[dE.er,exec,bJ,e7,dP,and_self,if_true,nj,ai.eD];rfl
   ·cases he
  ·rename_i n kk aR off s len j hp hi;obtain⟨t,y,h1,h2⟩:=FC h;have bJ:σ.er.ev x.er=.one (.ct n kk aR off s len):=by rw[ai.eK,hp];rfl
   have e7:(σ.er.ev i.er).eV=some j:=by rw[ai.eK];exact SV.BL hi
   have mH:dq σ.er.h (.ct n kk aR off s len)=some (t.er y):=h1;split at h2
   ·rename_i ts ys;have bX:=(bw h2).1;replace h2:=(bw h2).2;subst bX;rw[fL] at h2;obtain⟨q,hq,h2⟩:=h2;unfold dB at hq;split at hq
    ·rename_i dP;injection hq with hq;subst hq;refine⟨_,?_,h2⟩;simp only[dE.er,exec,bJ,e7,mH,Ty.er,ai.eD];exact if_pos ⟨trivial,dP.1,by rw[show(List.map (Ty.aW ts) ys).length=ae (α:=Ty.DL ts) ys from zaf (Ty.aW ts)];exact dP.2⟩
    ·cases hq
   ·cases h2
  ·cases h
 |ext i x=>
  simp only[fK] at h;split at h
  ·rename_i xs hp;split at h
   ·rename_i ag cs hg;have bJ:σ.er.ev x.er=.cf (xs.map fun x=>(x.1,x.2.map SC.er)):=by rw[ai.eK,hp];rfl
    refine⟨_,?_,h⟩;simp only[dE.er,exec,bJ,zag,hg,zab,ai.eD,FF]
   ·cases h
  ·cases h
 |sW ag off sz x=>
  simp only[fK] at h;split at h
  ·rename_i cs hp;have bJ:σ.er.ev x.er=.agg (cs.map SC.er):=by rw[ai.eK,hp];rfl
   split at h
   ·rename_i l hl;exact⟨_,by simp only[dE.er,exec,bJ,tQ,hl,zab,ai.eD,FF],h⟩
   ·cases h
  ·cases h
 |sk f fZ x=>
  simp only[fK] at h;split at h
  ·rename_i n sz lo len hp;have hb:=(cZ h).1;replace h:=(cZ h).2;have bJ:σ.er.ev x.er=.one (.sl n sz lo len):=by rw[ai.eK,hp];rfl
   refine⟨_,?_,h⟩;simp only[dE.er,exec,bJ,DP hb,if_true,ai.eD];rw[show(SV.agg (wI fZ (aS len) (.sl n sz lo len))).er=.agg ((wI fZ (aS len) (.sl n sz lo len)).map SC.er) from rfl,Wp]
   rfl
  ·rename_i ts xs hp;have bJ:σ.er.ev x.er=.one (.c (.list ts.length (List.map (α:=Ty.DL ts) (Ty.aW ts) xs))):=by rw[ai.eK,hp];rfl
   refine⟨_,?_,h⟩;simp only[dE.er,exec,bJ,ai.eD];rw[show(SV.agg (wI fZ (aS (ae (α:=Ty.DL ts) xs)) (.v (.list ts) xs))).er=.agg ((wI fZ (aS (ae (α:=Ty.DL ts) xs)) (.v (.list ts) xs)).map SC.er) from rfl,Wp]
   congr 3;congr 1;exact congrArg Int.ofNat (zaf (as:=(xs:List (Ty.DL ts))) (Ty.aW ts))
  ·rename_i ts hp;have bJ:σ.er.ev x.er=.one (.nil ts.length):=by rw[ai.eK,hp];rfl
   refine⟨_,?_,h⟩;simp only[dE.er,exec,bJ,ai.eD];rw[show(SV.agg (wI fZ (0:Int) (.nil ts))).er=.agg ((wI fZ (0:Int) (.nil ts)).map SC.er) from rfl,Wp]
   rfl
  ·cases h
 |len x=>
  simp only[fK] at h;split at h
  ·rename_i n sz lo len hp;have hb:=(cZ h).1;replace h:=(cZ h).2;have bJ:σ.er.ev x.er=.one (.sl n sz lo len):=by rw[ai.eK,hp];rfl
   exact⟨_,by simp only[dE.er,exec,bJ,DP hb,if_true,ai.eD];rfl,h⟩
  ·rename_i ts xs hp;have bJ:σ.er.ev x.er=.one (.c (.list ts.length (List.map (Ty.aW ts) xs))):=by rw[ai.eK,hp];rfl
   exact⟨_,by simp only[dE.er,exec,bJ,ai.eD];exact congrArg (fun q:Nat=>some (σ.er.put d (ao.one (.c (.int .i64 (q:Int)))))) (zaf (Ty.aW ts)),h⟩
  ·rename_i ts hp;have bJ:σ.er.ev x.er=.one (.nil ts.length):=by rw[ai.eK,hp];rfl
   exact⟨_,by simp only[dE.er,exec,bJ,ai.eD];rfl,h⟩
  ·rename_i n kk aR off sz len hp;obtain⟨t,y,h1,h2⟩:=FC h;have bJ:σ.er.ev x.er=.one (.ct n kk aR off sz len):=by rw[ai.eK,hp];rfl
   have mH:dq σ.er.h (.ct n kk aR off sz len)=some (t.er y):=h1;split at h2
   ·rename_i ts ys;exact⟨_,by simp only[dE.er,exec,bJ,mH,Ty.er,ai.eD];exact congrArg (fun q:Nat=>some (σ.er.put d (ao.one (.c (.int .i64 (q:Int)))))) (zaf (Ty.aW ts)),h2⟩
   ·cases h2
  ·cases h
 |append fl ts by_ x y=>
  simp only[fK] at h;split at h
  ·cases h
  ·rename_i n;obtain⟨xs,m,σ1,h1,h2⟩:=ate h;obtain⟨ys,m2,σ2,h3,h4⟩:=atf h2;rw[fL] at h4;obtain⟨_,hf,h4⟩:=h4;unfold mG at hf;split at hf
   ·rename_i hb;split at h4
    ·rename_i iD e;have i:=ai.vE e;refine⟨_,?_,h4⟩
     replace hb:(xs.length+ys.length)*by_<=fe:=hb
     have gk:(SB.row true m2 ts (fj xs ys)).er=av.row true m2 ts.length (List.map (Ty.aW ts) xs++List.map (Ty.aW ts) ys):=by simp[SB.er,fj]
     simp only[dE.er,exec,ai.eK,h1,h3,zaf,hb,if_true,<-gk,i,ai.eD];rfl
    ·cases h4
   ·cases hf
 |mm mx x y=>
  simp only[fK] at h;split at h
  ·rename_i kd a kd' b ex ey;have Za:σ.er.ev x.er=.one (.c (.int kd a)):=by rw[ai.eK,ex];rfl
   have Zm:σ.er.ev y.er=.one (.c (.int kd' b)):=by rw[ai.eK,ey];rfl
   split at h
   ·refine⟨_,?_,h⟩;rw[ai.eD];simp only[dE.er,exec,Za,Zm,if_true];by_cases gD:LT.lt (α:=Int) a b
    ·exact(if_pos gD).trans (congrArg (fun q:Int=>some (σ.er.put d (ao.one (.c (.int kd q))))) (if_pos gD:xW a b=b).symm)
    ·exact(if_neg gD).trans (congrArg (fun q:Int=>some (σ.er.put d (ao.one (.c (.int kd q))))) (if_neg gD:xW a b=a).symm)
   ·refine⟨_,?_,h⟩;rw[ai.eD];simp only[dE.er,exec,Za,Zm,zam,if_false];by_cases gD:LT.lt (α:=Int) b a
    ·exact(if_pos gD).trans (congrArg (fun q:Int=>some (σ.er.put d (ao.one (.c (.int kd q))))) (if_pos gD:iB a b=b).symm)
    ·exact(if_neg gD).trans (congrArg (fun q:Int=>some (σ.er.put d (ao.one (.c (.int kd q))))) (if_neg gD:iB a b=a).symm)
  ·cases h
 |call m f xs=>
  simp only[fK] at h;obtain⟨σ1,h1,h2⟩:=afF h;exact⟨σ1,by simp only[dE.er,exec,uw];exact h1,h2⟩
 |copy x y=>
  simp only[fK] at h;split at h
  ·rename_i n s lo len c hp hq;split at h
   ·rename_i gr m ts xs hn;have bX:=(bw h).1;replace h:=(bw h).2;subst bX;have ht:=(bw h).1;replace h:=(bw h).2;have hb:=(cZ h).1;replace h:=(cZ h).2;simp only[zai] at hb;obtain⟨u,ys,h1,h2⟩:=FC h;split at h2
    ·rename_i us ys;split at h2
     ·rename_i zs hz;rw[fL] at h2;obtain⟨az,hc,h2⟩:=h2;refine⟨_,?_,h2⟩;have bJ:σ.er.ev x.er=.one (.sl n 1 lo len):=by rw[ai.eK,hp];rfl
      have gj:σ.er.ev y.er=.one c.er:=by rw[ai.eK,hq];rfl
      have Bz:Ty.er (.list us) ys=Ty.er (.list ts) zs:=by
       have:=Ty.aid hz;exact this
      have mH:dq σ.er.h c.er=some (.list ts.length (List.map (Ty.aW ts) zs)):=by
       have:dq σ.er.h c.er=some (Ty.er (.list us) ys):=h1;rw[this,Bz];rfl
      obtain⟨c1,c2⟩:=YC hc;have kP:m≠ .aL:=by rintro rfl;exact absurd hb.1 (by simp[Mode.own])
      simp only[dE.er,exec,bJ,gj,Gw hn,SB.er,mH];rw[if_pos ⟨trivial,trivial,ht,ht,kP,Cp ts xs hb.2,Cp ts zs hb.2,by rw[zaf];exact c1⟩];rw[ai.eD,ai.rJ];simp only[SB.er,c2,ht];rw[show List.map (Ty.aW ts) (List.take (α:=Ty.DL ts) len zs)=List.take len (List.map (Ty.aW ts) zs) from zaH,show(List.map (Ty.aW ts) zs).length=ae (α:=Ty.DL ts) zs from zaf _]
      rfl
     ·cases h2
    ·cases h2
   ·cases h
  ·cases h
 |m6 t z x=>
  simp only[fK] at h;split at h
  ·rename_i n s lo len hp;split at h
   ·rename_i gr m ts xs hn;have bX:=(bw h).1;replace h:=(bw h).2;subst bX;have hb:=(cZ h).1;replace h:=(cZ h).2;simp only[zai] at hb;split at h
    ·rename_i e he;rw[fL] at h;obtain⟨az,hc,h⟩:=h;refine⟨_,?_,h⟩;have bJ:σ.er.ev x.er=.one (.sl n 1 lo len):=by rw[ai.eK,hp];rfl
     have qg:Ty.aW ts e=[t.er z]:=zI he;have hlen:ts.length=1:=by
      have:=congrArg List.length qg;rw[Ty.DO] at this;exact this
     have vS:Ty.g8 ts=true:=by
      have:=Ty.Ob ts e;rw[qg] at this;simp only[Am.g8,zaG,zba,za6,Ty.z7,hb.2] at this;exact this.symm
     obtain⟨c1,c2⟩:=YC hc;have kP:m≠ .aL:=by rintro rfl;exact absurd hb.1 (by simp[Mode.own])
     simp only[dE.er,exec,bJ,Gw hn,SB.er];rw[if_pos ⟨trivial,hlen,by rw[Ty.z7];exact hb.2,kP,Cp ts xs vS,by rw[zaf];exact c1⟩];rw[ai.eD,ai.rJ];simp only[SB.er,c2,hlen,dk,za7,qg];rfl
    ·cases h
   ·cases h
  ·cases h
 |qa f xs=>
  simp only[fK] at h;obtain⟨v,h1,h2⟩:=atm h;refine⟨_,?_,h2⟩;simp only[dE.er,exec,uw];rw[h1];simp only[ai.eD]
 |re f xs=>
  simp only[fK] at h;split at h
  ·rename_i cs hc;obtain⟨h1,h2⟩:=af6 hc;refine⟨_,?_,h⟩;simp only[dE.er,exec,uw];split
   ·rename_i cs' e;have e2:some cs'=some (cs.map SC.er):=e.symm.trans h1;injection e2 with e2;subst e2;rw[if_pos h2,ai.eD];simp only[SV.er,SC.er,SC.DQ]
   ·rename_i e;have e2:none=some (cs.map SC.er):=e.symm.trans h1;cases e2
  ·cases h
 |lv m f xs=>
  simp only[fK] at h;obtain⟨σ1,h1,h2⟩:=atn h;exact⟨σ1,by simp only[dE.er,exec,uw];exact h1,h2⟩
 |lr f xs=>
  simp only[fK] at h;obtain⟨σ1,h1,h2⟩:=atl h;exact⟨σ1,by simp only[dE.er,exec,uw];exact h1,h2⟩
 |mD f xs=>
  simp only[fK] at h;obtain⟨v,h1,h2⟩:=atp h;exact⟨σ.put d v,by simp only[dE.er,exec,uw,h1,ai.eD],h2⟩
 |nN m f xs=>
  simp only[fK] at h;obtain⟨σ1,h1,h2⟩:=atr h;exact⟨σ1,by simp only[dE.er,exec,uw];exact h1,h2⟩
 |o8 m f x xs=>
  simp only[fK] at h;split at h
  ·rename_i g c9 hp;have bX:=(bw h).1;replace h:=(bw h).2;subst bX;have bJ:σ.er.ev x.er=.one (.fn g (c9.map SC.er)):=by rw[ai.eK,hp];simp only[SV.er,SC.er,SC.DQ]
   obtain⟨σ1,h1,h2⟩:=ato h;refine⟨σ1,?_,h2⟩;simp only[dE.er,exec,bJ,uw,if_true];rw[za0] at h1;simp only[zar] at h1⊢;exact h1
  ·cases h
 |nM f xs=>
  simp only[fK] at h;obtain⟨v,h1,h2⟩:=atq h;exact⟨σ.put d v,by simp only[dE.er,exec,uw,h1,ai.eD],h2⟩
 |qb m x xs=>
  simp only[fK] at h;split at h
  ·rename_i f c9 hp;have bJ:σ.er.ev x.er=.one (.fn f (c9.map SC.er)):=by rw[ai.eK,hp];simp only[SV.er,SC.er,SC.DQ]
   obtain⟨σ1,h1,h2⟩:=afF h;refine⟨σ1,?_,h2⟩;simp only[dE.er,exec,bJ,uw];rw[za0] at h1;simp only[zar] at h1⊢;exact h1
  ·cases h
structure dU where
 dst:Option Nat
 op:dE
 guard:Option (Nat×Bool)
def dU.er (o:dU):cT:=⟨o.dst,o.op.er,o.guard⟩
def ai.lit (σ:ai) (n:Nat) (b:Bool):ai:={σ with env:=aQ σ.env n (.one (.v .bool b))}
theorem ai.Gv {σ:ai} {n:Nat} {b:Bool} (h:σ.env n=.one (.v .bool b)):(σ.lit n b).er=σ.er:=by
 have:aQ σ.env n (.one (.v .bool b))=σ.env:=by
  funext s;simp only[lc];split
  ·rename_i hs;subst hs;exact h.symm
  ·rfl
 simp only[ai.lit,this]
def tK (T:List aw):List dU->ai->(ai->Option ρ)->Option ρ
 |[],σ,k=>k σ
 |o::os,σ,k=>match o.guard with
  |none=>fK T o.dst o.op σ fun σ1=>tK T os σ1 k
  |some (s,nH)=>match σ.env s with
   |.one (.v .bool b)=>aI b
    (match nH with
     |true=>fK T o.dst o.op (σ.lit s true) fun σ1=>tK T os σ1 k
     |false=>tK T os ((σ.lit s true).put o.dst (.cf [])) k)
    (match nH with
     |true=>tK T os ((σ.lit s false).put o.dst (.cf [])) k
     |false=>fK T o.dst o.op (σ.lit s false) fun σ1=>tK T os σ1 k)
   |.cf []=>tK T os (σ.put o.dst (.cf [])) k
   |_=>none
theorem VY {T:List aw}:∀{os:List dU} {σ:ai} {k:ai->Option ρ} {r:ρ},tK T os σ k=some r->
  ∃σ1:ai,mF (df T) (os.map dU.er) σ.er=some σ1.er/\k σ1=some r
 |[],σ,k,r,h=>⟨σ,rfl,h⟩
 |o::os,σ,k,r,h=>by
  obtain⟨d,op,g⟩:=o;have run:∀mC:ai,mC.er=σ.er->f0 (df T) (dU.er ⟨d,op,g⟩) σ.er=exec (df T) d op.er σ.er->fK T d op mC (fun σ1=>tK T os σ1 k)=some r->
    ∃σ1:ai,mF (df T) ((⟨d,op,g⟩::os).map dU.er) σ.er=some σ1.er/\k σ1=some r:=by
   intro mC h0 he hs;obtain⟨σ1,h1,h2⟩:=afI hs;obtain⟨σ2,h3,h4⟩:=VY h2;rw[h0] at h1;exact⟨σ2,by simp only[zac,mF,he,h1,h3],h4⟩
  have Cw:∀mC:ai,mC.er=σ.er->f0 (df T) (dU.er ⟨d,op,g⟩) σ.er=some (σ.er.put d (.cf []))->tK T os (mC.put d (.cf [])) k=some r->
    ∃σ1:ai,mF (df T) ((⟨d,op,g⟩::os).map dU.er) σ.er=some σ1.er/\k σ1=some r:=by
   intro mC h0 he hs;obtain⟨σ2,h3,h4⟩:=VY hs;rw[ai.eD,h0] at h3;exact⟨σ2,by simp only[zac,mF,he];exact h3,h4⟩
  cases g with
  |none=>exact run σ rfl rfl h
  |some g=>
   obtain⟨s,nH⟩:=g;simp only[tK] at h;split at h
   ·rename_i b hs;have nW:σ.er.env s=.one (.c (.bool b)):=by show(σ.env s).er=_;rw[hs];rfl
    cases hb:(b:Bool) with
    |true=>
     have h0:(σ.lit s true).er=σ.er:=ai.Gv (by rw[hs,hb]);rw[hb] at h;simp only[DH] at h;cases nH with
     |true=>exact run _ h0 (by simp[f0,dU.er,nW,hb]) h
     |false=>exact Cw _ h0 (by simp[f0,dU.er,nW,hb]) h
    |false=>
     have h0:(σ.lit s false).er=σ.er:=ai.Gv (by rw[hs,hb]);rw[hb] at h;simp only[AR] at h;cases nH with
     |true=>exact Cw _ h0 (by simp[f0,dU.er,nW,hb]) h
     |false=>exact run _ h0 (by simp[f0,dU.er,nW,hb]) h
   ·rename_i hs;have nW:σ.er.env s=.cf []:=by show(σ.env s).er=_;rw[hs];rfl
    exact Cw σ rfl (by simp[f0,dU.er,nW]) h
   ·cases h
def tM (T:List aw) (ps:List (Nat×Nat)):List dU->List (Option FP)->ai->(ai->Option ρ)->Option ρ
 |[],dV,σ,k=>gn (xZ ps dV) (k σ)
 |o::os,dV,σ,k=>match o.guard with
  |none=>fK T o.dst o.op σ fun σ1=>tM T ps os (dV++[o.er.fp σ.er]) σ1 k
  |some (s,nH)=>match σ.env s with
   |.one (.v .bool b)=>aI b
    (match nH with
     |true=>fK T o.dst o.op (σ.lit s true) fun σ1=>tM T ps os (dV++[o.er.fp (σ.lit s true).er]) σ1 k
     |false=>tM T ps os (dV++[o.er.fp (σ.lit s true).er]) ((σ.lit s true).put o.dst (.cf [])) k)
    (match nH with
     |true=>tM T ps os (dV++[o.er.fp (σ.lit s false).er]) ((σ.lit s false).put o.dst (.cf [])) k
     |false=>fK T o.dst o.op (σ.lit s false) fun σ1=>tM T ps os (dV++[o.er.fp (σ.lit s false).er]) σ1 k)
   |.cf []=>tM T ps os (dV++[o.er.fp σ.er]) (σ.put o.dst (.cf [])) k
   |_=>none
theorem VX {T:List aw} {ps:List (Nat×Nat)}:∀{os:List dU} {dV:List (Option FP)} {σ:ai} {k:ai->Option ρ} {r:ρ},tM T ps os dV σ k=some r->
  ∃(σ1:ai) (fs:List (Option FP)),oG (df T) (os.map dU.er) dV σ.er=some (fs,σ1.er)/\xZ ps fs=true/\k σ1=some r
 |[],dV,σ,k,r,h=>⟨σ,dV,rfl,(cZ h).1,(cZ h).2⟩
 |o::os,dV,σ,k,r,h=>by
  obtain⟨d,op,g⟩:=o;have run:∀mC:ai,mC.er=σ.er->f0 (df T) (dU.er ⟨d,op,g⟩) σ.er=exec (df T) d op.er σ.er->fK T d op mC (fun σ1=>tM T ps os (dV++[(dU.er ⟨d,op,g⟩).fp mC.er]) σ1 k)=some r->
    ∃(σ1:ai) (fs:List (Option FP)),oG (df T) ((⟨d,op,g⟩::os).map dU.er) dV σ.er=some (fs,σ1.er)/\xZ ps fs=true/\k σ1=some r:=by
   intro mC h0 he hs;obtain⟨σ1,h1,h2⟩:=afI hs;obtain⟨σ2,fs,h3,h4⟩:=VX h2;rw[h0] at h1 h3;exact⟨σ2,fs,by simp only[zac,oG,he,h1,h3],h4⟩
  have Cw:∀mC:ai,mC.er=σ.er->f0 (df T) (dU.er ⟨d,op,g⟩) σ.er=some (σ.er.put d (.cf []))->tM T ps os (dV++[(dU.er ⟨d,op,g⟩).fp mC.er]) (mC.put d (.cf [])) k=some r->
    ∃(σ1:ai) (fs:List (Option FP)),oG (df T) ((⟨d,op,g⟩::os).map dU.er) dV σ.er=some (fs,σ1.er)/\xZ ps fs=true/\k σ1=some r:=by
   intro mC h0 he hs;obtain⟨σ2,fs,h3,h4⟩:=VX hs;rw[ai.eD,h0] at h3;exact⟨σ2,fs,by simp only[zac,oG,he];exact h3,h4⟩
  cases g with
  |none=>exact run σ rfl rfl h
  |some g=>
   obtain⟨s,nH⟩:=g;simp only[tM] at h;split at h
   ·rename_i b hs;have nW:σ.er.env s=.one (.c (.bool b)):=by show(σ.env s).er=_;rw[hs];rfl
    cases hb:(b:Bool) with
    |true=>
     have h0:(σ.lit s true).er=σ.er:=ai.Gv (by rw[hs,hb]);rw[hb] at h;simp only[DH] at h;cases nH with
     |true=>exact run _ h0 (by simp[f0,dU.er,nW,hb]) h
     |false=>exact Cw _ h0 (by simp[f0,dU.er,nW,hb]) h
    |false=>
     have h0:(σ.lit s false).er=σ.er:=ai.Gv (by rw[hs,hb]);rw[hb] at h;simp only[AR] at h;cases nH with
     |true=>exact Cw _ h0 (by simp[f0,dU.er,nW,hb]) h
     |false=>exact run _ h0 (by simp[f0,dU.er,nW,hb]) h
   ·rename_i hs;have nW:σ.er.env s=.cf []:=by show(σ.env s).er=_;rw[hs];rfl
    exact Cw σ rfl (by simp[f0,dU.er,nW]) h
   ·cases h
end
inductive LT where
 |unit
 |ty (t:Ty)
 |dl (ts:List Ty)
 |nat
 |pair (a b:LT)
def LT.D:LT->Type
 |.unit=>Unit
 |.ty t=>t.D
 |.dl ts=>Ty.DL ts
 |.nat=>Nat
 |.pair a b=>a.D×b.D
def LT.Fs (a:LT):LT->LT
 |.unit=>a
 |.ty t=>.pair a (.ty t)
 |.dl ts=>.pair a (.dl ts)
 |.nat=>.pair a .nat
 |.pair x y=>.pair a (.pair x y)
def LT.sp:LT->LT->LT
 |.unit,b=>b
 |.ty t,b=>LT.Fs (.ty t) b
 |.dl ts,b=>LT.Fs (.dl ts) b
 |.nat,b=>LT.Fs .nat b
 |.pair x y,b=>LT.Fs (.pair x y) b
def LT.IV (a:LT):(b:LT)->(LT.Fs a b).D->a.D×b.D
 |.unit,x=>(x,())
 |.ty _,x=>x
 |.dl _,x=>x
 |.nat,x=>x
 |.pair _ _,x=>x
def LT.wG:(a b:LT)->(LT.sp a b).D->a.D×b.D
 |.unit,b,x=>((),x)
 |.ty t,b,x=>LT.IV (.ty t) b x
 |.dl ts,b,x=>LT.IV (.dl ts) b x
 |.nat,b,x=>LT.IV .nat b x
 |.pair x y,b,z=>LT.IV (.pair x y) b z
def LT.IU (a:LT):(b:LT)->a.D->b.D->(LT.Fs a b).D
 |.unit,x,_=>x
 |.ty _,x,y=>(x,y)
 |.dl _,x,y=>(x,y)
 |.nat,x,y=>(x,y)
 |.pair _ _,x,y=>(x,y)
def LT.Ft:(a b:LT)->a.D->b.D->(LT.sp a b).D
 |.unit,b,_,y=>y
 |.ty t,b,x,y=>LT.IU (.ty t) b x y
 |.dl ts,b,x,y=>LT.IU (.dl ts) b x y
 |.nat,b,x,y=>LT.IU .nat b x y
 |.pair u v,b,x,y=>LT.IU (.pair u v) b x y
theorem LT.atV (a b:LT) (x:a.D) (y:b.D):LT.IV a b (LT.IU a b x y)=(x,y):=by cases b<;>rfl
theorem LT.agj (a b:LT) (x:a.D) (y:b.D):LT.wG a b (LT.Ft a b x y)=(x,y):=by
 cases a with
 |unit=>rfl
 |_=>exact LT.atV _ b x y
section
variable {α β:Type} {ρ:Type} {L:α->LT}
def LL (L:α->LT):List α->LT
 |[]=>.unit
 |a::l=>LT.sp (L a) (LL L l)
def sx (un:(a:α)->(L a).D->β):(l:List α)->(LL L l).D->List β
 |[],_=>[]
 |a::l,x=>un a (LT.wG (L a) (LL L l) x).1::sx un l (LT.wG (L a) (LL L l) x).2
def sV (flat:(a:α)->β->((L a).D->Option ρ)->Option ρ):(l:List α)->List β->((LL L l).D->Option ρ)->Option ρ
 |[],[],k=>k ()
 |a::l,b::bs,k=>flat a b fun x=>sV flat l bs fun y=>k (LT.Ft (L a) (LL L l) x y)
 |_,_,_=>none
theorem y3 {flat:(a:α)->β->((L a).D->Option ρ)->Option ρ} {un:(a:α)->(L a).D->β}
  (hf:∀a b k r,flat a b k=some r->∃x,b=un a x/\k x=some r):∀{l:List α} {bs:List β} {k:(LL L l).D->Option ρ} {r:ρ},sV flat l bs k=some r->
  ∃x,bs=sx un l x/\k x=some r
 |[],[],k,r,h=>⟨(),rfl,h⟩
 |a::l,b::bs,k,r,h=>by
  simp only[sV] at h;obtain⟨x,rfl,h2⟩:=hf _ _ _ _ h;obtain⟨y,rfl,h4⟩:=y3 hf h2;exact⟨LT.Ft (L a) (LL L l) x y,by simp only[sx,LT.agj],h4⟩
 |[],_::_,k,r,h=>by simp[sV] at h
 |_::_,[],k,r,h=>by simp[sV] at h
end
inductive j6 where
 |v (t:Ty)
 |nil (ts:List Ty)
 |Ip (n off:Nat)
 |ptr (n sz off:Nat)
 |dr (ts:List Ty) (off:Nat)
 |cN (ts:List Ty) (off j n sz:Nat)
 |full (n sz:Nat)
 |sl (n sz:Nat)
 |ct (n aR off sz:Nat)
 |cd
inductive fD where
 |c (s:j6)
 |fn (f:FuncId) (c9:List j6)
inductive jR where
 |one (c:fD)
 |agg (cs:List fD)
 |cf (xs:List (Bool×List fD))
inductive gO where
 |box (cs:List fD)
 |row (gr:Bool) (m:Mode) (ts:List Ty)
structure lR where
 env:List (Nat×jR)
 heap:List (Nat×gO)
abbrev lR.ke (sh:lR):List Nat:=sh.env.map (·.1)
def j6.L:j6->LT
 |.v t=>.ty t
 |.nil _=>.unit
 |.Ip _ _=>.unit
 |.ptr _ _ _=>.nat
 |.dr ts _=>.dl ts
 |.cN ts _ _ _ _=>.dl ts
 |.full _ _=>.unit
 |.sl _ _=>.pair .nat .nat
 |.ct _ _ _ _=>.pair .nat .nat
 |.cd=>.unit
def j6.un (ln:Nat->Nat):(s:j6)->s.L.D->SC
 |.v t,x=>.v t x
 |.nil ts,_=>.nil ts
 |.Ip n off,_=>.ptr n 0 0 off
 |.ptr n sz off,k=>.ptr n k sz off
 |.dr ts off,x=>.dr ts x off
 |.cN ts off j n sz,x=>.cN ts x off j n sz (ln n)
 |.full n sz,_=>.sl n sz 0 (ln n)
 |.sl n sz,x=>.sl n sz x.1 x.2
 |.ct n aR off sz,x=>.ct n x.1 aR off sz x.2
 |.cd,_=>.cd
section
variable {ρ:Type}
def j6.flat (ln:Nat->Nat) (s:j6) (c:SC) (k:s.L.D->Option ρ):Option ρ:=
 match s,c with
 |.v t,.v u x=>match Ty.cast u t x with
  |some y=>k y
  |none=>none
 |.nil ts,.nil us=>gn (Ty.ui us ts) (k ())
 |.Ip n off,.ptr n' kk sz uY=>dv n' n (dv kk 0 (dv sz 0 (dv uY off (k ()))))
 |.ptr n sz off,.ptr n' kk be uY=>dv n' n (dv be sz (dv uY off (k kk)))
 |.dr ts off,.dr us x uY=>dv uY off (match Ty.Dx us ts x with
  |some y=>k y
  |none=>none)
 |.cN ts off j n sz,.cN us x uY j' n' be len=>dv uY off (dv j' j (dv n' n (dv be sz ((bk 0 len (ln n)).af fun _=>match Ty.Dx us ts x with
  |some y=>k y
  |none=>none))))
 |.full n sz,.sl n' be lo len=>dv n' n (dv be sz ((bk lo len (ln n)).af fun _=>k ()))
 |.sl n sz,.sl n' be lo len=>dv n' n (dv be sz (k (lo,len)))
 |.ct n aR off sz,.ct n' kk asX uY be len=>dv n' n (dv asX aR (dv uY off (dv be sz (k (kk,len)))))
 |.cd,.cd=>k ()
 |_,_=>none
theorem Ty.cast_eq {t u:Ty} {x:t.D} {y:u.D} (h:Ty.cast t u x=some y):SC.v t x=SC.v u y:=by
 unfold Ty.cast at h;split at h
 ·rename_i he;have:=Ty.beq_eq he;subst this;injection h with h;rw[<-h]
 ·cases h
theorem Ty.aib {ts us:List Ty} {x:Ty.DL ts} {y:Ty.DL us} (h:Ty.Dx ts us x=some y) (off:Nat):SC.dr ts x off=SC.dr us y off:=by
 unfold Ty.Dx at h;split at h
 ·rename_i he;have:=Ty.uj he;subst this;injection h with h;rw[<-h]
 ·cases h
theorem Ty.aic {ts us:List Ty} {x:Ty.DL ts} {y:Ty.DL us} (h:Ty.Dx ts us x=some y) (off j n sz len:Nat):SC.cN ts x off j n sz len=SC.cN us y off j n sz len:=by
 unfold Ty.Dx at h;split at h
 ·rename_i he;have:=Ty.uj he;subst this;injection h with h;rw[<-h]
 ·cases h
theorem j6.rP {ln:Nat->Nat} (s:j6) (c:SC) (k:s.L.D->Option ρ) (r:ρ) (h:s.flat ln c k=some r):∃x,c=s.un ln x/\k x=some r:=by
 cases s with
 |v t=>
  cases c<;>simp only[j6.flat] at h<;>first|(cases h;done)|skip
  split at h
  ·rename_i y hy;exact⟨y,Ty.cast_eq hy,h⟩
  ·cases h
 |nil ts=>
  cases c<;>simp only[j6.flat] at h<;>first|(cases h;done)|skip
  have h1:=(cZ h).1;replace h:=(cZ h).2;exact⟨(),by rw[Ty.uj h1];rfl,h⟩
 |Ip n off=>
  cases c<;>simp only[j6.flat] at h<;>first|(cases h;done)|skip
  have bX:=(bw h).1;replace h:=(bw h).2;subst bX;have bX:=(bw h).1;replace h:=(bw h).2;subst bX;have bX:=(bw h).1;replace h:=(bw h).2;subst bX;have bX:=(bw h).1;replace h:=(bw h).2;subst bX;exact⟨(),rfl,h⟩
 |ptr n sz off=>
  cases c<;>simp only[j6.flat] at h<;>first|(cases h;done)|skip
  have bX:=(bw h).1;replace h:=(bw h).2;subst bX;have bX:=(bw h).1;replace h:=(bw h).2;subst bX;have bX:=(bw h).1;replace h:=(bw h).2;subst bX;exact⟨_,rfl,h⟩
 |dr ts off=>
  cases c<;>simp only[j6.flat] at h<;>first|(cases h;done)|skip
  have bX:=(bw h).1;replace h:=(bw h).2;subst bX;split at h
  ·rename_i y hy;exact⟨y,Ty.aib hy _,h⟩
  ·cases h
 |cN ts off j n sz=>
  cases c<;>simp only[j6.flat] at h<;>first|(cases h;done)|skip
  have bX:=(bw h).1;replace h:=(bw h).2;subst bX;have bX:=(bw h).1;replace h:=(bw h).2;subst bX;have bX:=(bw h).1;replace h:=(bw h).2;subst bX;have bX:=(bw h).1;replace h:=(bw h).2;subst bX;rw[fL] at h;obtain⟨_,hf,h⟩:=h;unfold bk at hf;split at hf
  ·rename_i hc;obtain⟨_,rfl⟩:=hc;split at h
   ·rename_i y hy;exact⟨y,Ty.aic hy _ _ _ _ _,h⟩
   ·cases h
  ·cases hf
 |full n sz=>
  cases c<;>simp only[j6.flat] at h<;>first|(cases h;done)|skip
  have bX:=(bw h).1;replace h:=(bw h).2;subst bX;have bX:=(bw h).1;replace h:=(bw h).2;subst bX;rw[fL] at h;obtain⟨_,hf,h⟩:=h;unfold bk at hf;split at hf
  ·rename_i hc;obtain⟨rfl,rfl⟩:=hc;exact⟨(),rfl,h⟩
  ·cases hf
 |sl n sz=>
  cases c<;>simp only[j6.flat] at h<;>first|(cases h;done)|skip
  have bX:=(bw h).1;replace h:=(bw h).2;subst bX;have bX:=(bw h).1;replace h:=(bw h).2;subst bX;exact⟨_,rfl,h⟩
 |ct n aR off sz=>
  cases c<;>simp only[j6.flat] at h<;>first|(cases h;done)|skip
  have bX:=(bw h).1;replace h:=(bw h).2;subst bX;have bX:=(bw h).1;replace h:=(bw h).2;subst bX;have bX:=(bw h).1;replace h:=(bw h).2;subst bX;have bX:=(bw h).1;replace h:=(bw h).2;subst bX;exact⟨_,rfl,h⟩
 |cd=>
  cases c<;>simp only[j6.flat] at h<;>first|(cases h;done)|skip
  exact⟨(),rfl,h⟩
def fD.L:fD->LT
 |.c s=>s.L
 |.fn _ c9=>LL j6.L c9
def fD.un (ln:Nat->Nat):(s:fD)->s.L.D->SC
 |.c s,x=>s.un ln x
 |.fn f c9,x=>.fn f (sx (j6.un ln) c9 x)
def fD.flat (ln:Nat->Nat) (s:fD) (c:SC) (k:s.L.D->Option ρ):Option ρ:=
 match s,c with
 |.c s,c=>s.flat ln c k
 |.fn f c9,.fn f' cs=>dv f' f (sV (j6.flat ln) c9 cs k)
 |_,_=>none
theorem fD.rP {ln:Nat->Nat} (s:fD) (c:SC) (k:s.L.D->Option ρ) (r:ρ) (h:s.flat ln c k=some r):∃x,c=s.un ln x/\k x=some r:=by
 cases s with
 |c s=>exact s.rP c k r (by cases c<;>exact h)
 |fn f c9=>
  cases c<;>simp only[fD.flat] at h<;>first|(cases h;done)|skip
  have bX:=(bw h).1;replace h:=(bw h).2;subst bX;obtain⟨x,e_,h_⟩:=y3 (un:=j6.un ln) (fun a b k r=>j6.rP a b k r) h;subst e_;replace h:=h_;exact⟨x,rfl,h⟩
def jR.L:jR->LT
 |.one c=>c.L
 |.agg cs=>LL fD.L cs
 |.cf xs=>LL (fun x:Bool×List fD=>LL fD.L x.2) xs
def jR.un (ln:Nat->Nat):(s:jR)->s.L.D->SV
 |.one c,x=>.one (c.un ln x)
 |.agg cs,x=>.agg (sx (fD.un ln) cs x)
 |.cf xs,x=>.cf (sx (L:=fun x:Bool×List fD=>LL fD.L x.2) (fun a y=>(a.1,sx (fD.un ln) a.2 y)) xs x)
def ZD (ln:Nat->Nat) (a:Bool×List fD) (b:Bool×List SC) (k:(LL fD.L a.2).D->Option ρ):Option ρ:=
 gn (a.1==b.1) (sV (fD.flat ln) a.2 b.2 k)
def jR.flat (ln:Nat->Nat) (s:jR) (v:SV) (k:s.L.D->Option ρ):Option ρ:=
 match s,v with
 |.one c,.one v=>c.flat ln v k
 |.agg cs,.agg vs=>sV (fD.flat ln) cs vs k
 |.cf xs,.cf vs=>sV (L:=fun x:Bool×List fD=>LL fD.L x.2) (ZD ln) xs vs k
 |_,_=>none
theorem jR.rP {ln:Nat->Nat} (s:jR) (v:SV) (k:s.L.D->Option ρ) (r:ρ) (h:s.flat ln v k=some r):∃x,v=s.un ln x/\k x=some r:=by
 cases s with
 |one c=>
  cases v<;>simp only[jR.flat] at h<;>first|(cases h;done)|skip
  obtain⟨x,e_,h_⟩:=fD.rP _ _ _ _ h;subst e_;replace h:=h_;exact⟨x,rfl,h⟩
 |agg cs=>
  cases v<;>simp only[jR.flat] at h<;>first|(cases h;done)|skip
  obtain⟨x,e_,h_⟩:=y3 (un:=fD.un ln) (fun a b k r=>fD.rP a b k r) h;subst e_;replace h:=h_;exact⟨x,rfl,h⟩
 |cf xs=>
  cases v<;>simp only[jR.flat] at h<;>first|(cases h;done)|skip
  obtain⟨x,e_,h_⟩:=y3 (L:=fun x:Bool×List fD=>LL fD.L x.2) (un:=fun a y=>(a.1,sx (fD.un ln) a.2 y)) (fun a b k r h=>by
   unfold ZD at h;have h1:=(cZ h).1;replace h:=(cZ h).2;obtain⟨x,h2,h⟩:=y3 (un:=fD.un ln) (fun a b k r=>fD.rP a b k r) h;exact⟨x,zbe (eq_of_beq h1).symm h2,h⟩) h
  subst e_;exact⟨x,rfl,h_⟩
def gO.L:gO->LT
 |.box cs=>LL fD.L cs
 |.row _ _ ts=>.ty (.list ts)
def gO.un (ln:Nat->Nat):(s:gO)->s.L.D->SB
 |.box cs,x=>.box (sx (fD.un ln) cs x)
 |.row gr m ts,x=>.row gr m ts x
def Mode.beq:Mode->Mode->Bool
 |.live,.live=>true
 |.bc,.bc=>true
 |.aL,.aL=>true
 |_,_=>false
theorem Mode.beq_eq {a b:Mode} (h:Mode.beq a b=true):a=b:=by cases a<;>cases b<;>first|rfl|cases h
def gO.flat (ln:Nat->Nat) (s:gO) (b:Option SB) (k:s.L.D->Option ρ):Option ρ:=
 match s,b with
 |.box cs,some (.box vs)=>sV (fD.flat ln) cs vs k
 |.row gr m ts,some (.row cc m' us xs)=>gn (cc==gr) (gn (Mode.beq m' m) (match yQ us ts xs with
  |some y=>k y
  |none=>none))
 |_,_=>none
theorem asT {us ts:List Ty} {xs:List (Ty.DL us)} {ys:List (Ty.DL ts)} (h:yQ us ts xs=some ys) (gr:Bool) (m:Mode):SB.row gr m us xs=SB.row gr m ts ys:=by
 unfold yQ at h;split at h
 ·rename_i he;have h2:=Ty.uj he;subst h2;injection h with h;rw[<-h]
 ·cases h
theorem gO.rP {ln:Nat->Nat} (s:gO) (b:Option SB) (k:s.L.D->Option ρ) (r:ρ) (h:s.flat ln b k=some r):∃x,b=some (s.un ln x)/\k x=some r:=by
 cases s with
 |box cs=>
  cases b with
  |none=>cases h
  |some b=>
   cases b<;>simp only[gO.flat] at h<;>first|(cases h;done)|skip
   obtain⟨x,e_,h_⟩:=y3 (un:=fD.un ln) (fun a b k r=>fD.rP a b k r) h;subst e_;replace h:=h_;exact⟨x,rfl,h⟩
 |row gr m ts=>
  cases b with
  |none=>cases h
  |some b=>
   cases b<;>simp only[gO.flat] at h<;>first|(cases h;done)|skip
   have h1:=(cZ h).1;replace h:=(cZ h).2;have h2:=(cZ h).1;replace h:=(cZ h).2;split at h
   ·rename_i y hy;refine⟨y,?_,h⟩;rw[eq_of_beq h1,Mode.beq_eq h2,asT hy];rfl
   ·cases h
end
def oF:List (Nat×SV)->Nat->SV
 |[]=>fun _=>.one .cd
 |p::l=>aQ (oF l) p.1 p.2
def mJ:List (Nat×Option SB)->Nat->Option SB
 |[]=>fun _=>none
 |p::l=>aQ (mJ l) p.1 p.2
def FJ:List (Nat×gO)->Nat->Bool
 |[]=>fun _=>false
 |p::l=>aQ (FJ l) p.1 true
def u7 (h:Nat->Option SB) (n:Nat):Nat:=
 match h n with
 |some (.row _ _ ts xs)=>ae (α:=Ty.DL ts) xs
 |_=>0
abbrev lR.eL (sh:lR):LT:=LL (fun p:Nat×jR=>p.2.L) sh.env
abbrev lR.hL (sh:lR):LT:=LL (fun p:Nat×gO=>p.2.L) sh.heap
def lR.L (sh:lR):LT:=LT.sp sh.eL sh.hL
def OS (ln:Nat->Nat) (l:List (Nat×jR)) (x:(LL (fun p:Nat×jR=>p.2.L) l).D):List (Nat×SV):=
 sx (L:=fun p:Nat×jR=>p.2.L) (fun p y=>(p.1,p.2.un ln y)) l x
def CL (ln:Nat->Nat) (l:List (Nat×gO)) (x:(LL (fun p:Nat×gO=>p.2.L) l).D):List (Nat×Option SB):=
 sx (L:=fun p:Nat×gO=>p.2.L) (fun p y=>(p.1,some (p.2.un ln y))) l x
def wh:(l:List (Nat×gO))->(LL (fun p:Nat×gO=>p.2.L) l).D->Nat->Nat
 |[],_=>fun _=>0
 |(n,.box cs)::l,x=>aQ (wh l (LT.wG _ _ x).2) n 0
 |(n,.row gr m ts)::l,x=>aQ (wh l (LT.wG (LT.ty (.list ts)) _ x).2) n (ae (α:=Ty.DL ts) (LT.wG (LT.ty (.list ts)) _ x).1)
theorem Tv (ln:Nat->Nat):∀(l:List (Nat×gO)) (x:(LL (fun p:Nat×gO=>p.2.L) l).D),wh l x=u7 (mJ (CL ln l x))
 |[],_=>rfl
 |(n,.box cs)::l,x=>by
  funext m;simp only[wh,CL,sx,mJ,u7];by_cases hm:m=n
  ·subst hm;simp only[cJ];rfl
  ·simp only[dA _ _ _ _ hm];exact congrFun (Tv ln l _) m
 |(n,.row gr mo ts)::l,x=>by
  funext m;simp only[wh,CL,sx,mJ,u7];by_cases hm:m=n
  ·subst hm;simp only[cJ];rfl
  ·simp only[dA _ _ _ _ hm];exact congrFun (Tv ln l _) m
def lR.un (sh:lR) (x:sh.L.D):ai:=
 {env:=oF (OS (wh sh.heap (LT.wG sh.eL sh.hL x).2) sh.env (LT.wG sh.eL sh.hL x).1)
  h:=mJ (CL (wh sh.heap (LT.wG sh.eL sh.hL x).2) sh.heap (LT.wG sh.eL sh.hL x).2)
  used:=fun n=>Nat.ble aD n||FJ sh.heap n}
def sY (n:Nat):List (Nat×gO)->Bool
 |[]=>false
 |p::l=>match Nat.beq n p.1 with
  |true=>true
  |false=>sY n l
section
variable {ρ:Type}
def ZA (ln:Nat->Nat) (p:Nat×jR) (v:Nat×SV) (k:p.2.L.D->Option ρ):Option ρ:=dv v.1 p.1 (p.2.flat ln v.2 k)
def ZB (ln:Nat->Nat) (p:Nat×gO) (b:Nat×Option SB) (k:p.2.L.D->Option ρ):Option ρ:=dv b.1 p.1 (p.2.flat ln b.2 k)
def Lr (σ:ai) (hp:List (Nat×gO)):List Nat->Bool
 |[]=>true
 |n::kh=>(match sY n hp with|true=>σ.used n|false=>(match σ.used n with|true=>Nat.ble aD n|false=> !(Nat.ble aD n))&&(σ.h n).isNone)&&Lr σ hp kh
def K6 (kh:List Nat):List (Nat×gO)->Bool
 |[]=>true
 |p::l=>kh.contains p.1&&K6 kh l
def lR.flat (sh:lR) (kh:List Nat) (σ:ai) (k:sh.L.D->Option ρ):Option ρ:=
 gn (Lr σ sh.heap kh&&K6 kh sh.heap)
  (sV (ZA (u7 σ.h)) sh.env (sh.env.map fun p=>(p.1,σ.env p.1)) fun xe=>
   sV (ZB (u7 σ.h)) sh.heap (sh.heap.map fun p=>(p.1,σ.h p.1)) fun xh=>k (LT.Ft sh.eL sh.hL xe xh))
end
theorem ai8 (l:List (Nat×jR)) (f:Nat->SV) (hf:∀s,s∉l.map (·.1)->f s=.one .cd):oF (l.map fun p=>(p.1,f p.1))=f:=by
 have:∀(l:List (Nat×jR)) s,oF (l.map fun p=>(p.1,f p.1)) s=if s∈l.map (·.1) then f s else .one .cd:=by
  intro l s;induction l with
  |nil=>rfl
  |cons p l ih=>
   simp only[zac,oF,lc,ih,zao];by_cases h:s=p.1
   ·subst h;simp
   ·by_cases h2:s∈l.map (·.1)
    ·rw[if_neg h,if_pos h2,if_pos (Or.inr h2)]
    ·rw[if_neg h,if_neg h2,if_neg (fun e=>e.elim h h2)]
 funext s;rw[this];split
 ·rfl
 ·rename_i h;exact(hf s h).symm
theorem als (l:List (Nat×gO)) (f:Nat->Option SB) (hf:∀s,s∉l.map (·.1)->f s=none):mJ (l.map fun p=>(p.1,f p.1))=f:=by
 have:∀(l:List (Nat×gO)) s,mJ (l.map fun p=>(p.1,f p.1)) s=if s∈l.map (·.1) then f s else none:=by
  intro l s;induction l with
  |nil=>rfl
  |cons p l ih=>
   simp only[zac,mJ,lc,ih,zao];by_cases h:s=p.1
   ·subst h;simp
   ·by_cases h2:s∈l.map (·.1)
    ·rw[if_neg h,if_pos h2,if_pos (Or.inr h2)]
    ·rw[if_neg h,if_neg h2,if_neg (fun e=>e.elim h h2)]
 funext s;rw[this];split
 ·rfl
 ·rename_i h;exact(hf s h).symm
theorem aaI (n:Nat) (l:List (Nat×gO)):sY n l=true↔n∈l.map (·.1):=by
  induction l with
  |nil=>simp[sY]
  |cons p l ih=>
   simp only[sY,zac,zao];cases h:Nat.beq n p.1 with
   |true=>simp[zaa h]
   |false=>simp only[ih];constructor
           · exact .inr
           · rintro(rfl|h2)
             · rw[zaq] at h;cases h
             · exact h2
theorem auJ (n:Nat) (l:List (Nat×gO)):FJ l n=sY n l:=by
 induction l with
 |nil=>rfl
 |cons p l ih=>
  simp only[FJ,sY,lc,ih];by_cases h:n=p.1
  ·subst h;simp[zaq]
  ·have:Nat.beq n p.1=false:=by
    cases hb:Nat.beq n p.1 with
    |true=>exact absurd (zaa hb) h
    |false=>rfl
   simp[h,this]
theorem Qm {σ:ai} {hp:List (Nat×gO)}:∀{kh:List Nat},Lr σ hp kh=true->∀n∈kh,σ.used n=(Nat.ble aD n||sY n hp)/\(sY n hp=false->σ.h n=none)
 |[],_,n,hn=>by cases hn
 |m::kh,h,n,hn=>by
  simp only[Lr,zai] at h;rcases zao.1 hn with e_|hn
  ·subst e_;cases hh:sY n hp with
   |true=>
    rw[hh] at h;have h1:σ.used n=true:=h.1;exact⟨by rw[h1,Bool.or_true],fun e=>by cases e⟩
   |false=>
    rw[hh] at h;simp only[zai,Option.isNone_iff_eq_none] at h;refine⟨?_,fun _=>h.1.2⟩;have h1:=h.1.1;rw[zaW];cases hu:σ.used n with
    |true=>rw[hu] at h1;exact h1.symm
    |false=>rw[hu] at h1;simpa using h1.symm
  ·exact Qm h.2 n hn
theorem XM {kh:List Nat}:∀{l:List (Nat×gO)},K6 kh l=true->∀n∈l.map (·.1),n∈kh
 |[],_,n,hn=>by cases hn
 |p::l,h,n,hn=>by
  simp only[K6,zai] at h;simp only[zac,zao] at hn;rcases hn with rfl|hn
  ·simpa using h.1
  ·exact XM h.2 n hn
theorem lR.rP {ρ:Type} {sh:lR} {kh:List Nat} {σ:ai} {k:sh.L.D->Option ρ} {r:ρ} (h:sh.flat kh σ k=some r)
  (he:∀s,s∉sh.ke->σ.env s=.one .cd) (hh:∀n,n∉kh->σ.h n=none/\σ.used n=Nat.ble aD n):∃x,σ=sh.un x/\k x=some r:=by
 unfold lR.flat at h;have hc:=(cZ h).1;replace h:=(cZ h).2;simp only[zai] at hc;obtain⟨xe,e1,h⟩:=y3 (L:=fun p:Nat×jR=>p.2.L) (un:=fun p y=>(p.1,p.2.un (u7 σ.h) y)) (fun a b k r h=>by
  unfold ZA at h;obtain⟨h1,h⟩:=bw h;obtain⟨x,h2,h⟩:=jR.rP _ _ _ _ h;exact⟨x,zbe h1 h2,h⟩) h
 obtain⟨xh,e2,h⟩:=y3 (L:=fun p:Nat×gO=>p.2.L) (un:=fun p y=>(p.1,some (p.2.un (u7 σ.h) y))) (fun a b k r h=>by
  unfold ZB at h;obtain⟨h1,h⟩:=bw h;obtain⟨x,h2,h⟩:=gO.rP _ _ _ _ h;exact⟨x,zbe h1 h2,h⟩) h
 have Bm:σ.env=oF (OS (u7 σ.h) sh.env xe):=by
  unfold OS;rw[<-e1];exact(ai8 sh.env σ.env he).symm
 have Ee:σ.h=mJ (CL (u7 σ.h) sh.heap xh):=by
  unfold CL;rw[<-e2];refine(als sh.heap σ.h fun n hn=>?_).symm;by_cases hk:n∈kh
  ·refine(Qm hc.1 n hk).2 ?_;cases hb:sY n sh.heap with
   |true=>exact absurd ((aaI n sh.heap).1 hb) hn
   |false=>rfl
  ·exact(hh n hk).1
 have alE:wh sh.heap xh=u7 σ.h:=by
  rw[Tv (u7 σ.h),<-Ee]
 have al7:σ.used=fun n=>Nat.ble aD n||FJ sh.heap n:=by
  funext n;rw[auJ];by_cases hk:n∈kh
  ·exact(Qm hc.1 n hk).1
  ·rw[(hh n hk).2];cases hb:sY n sh.heap with
   |true=>exact absurd (XM hc.2 n ((aaI n sh.heap).1 hb)) hk
   |false=>rw[zaW]
 refine⟨LT.Ft sh.eL sh.hL xe xh,?_,h⟩;have:sh.un (LT.Ft sh.eL sh.hL xe xh)={env:=oF (OS (wh sh.heap xh) sh.env xe),h:=mJ (CL (wh sh.heap xh) sh.heap xh),used:=fun n=>Nat.ble aD n||FJ sh.heap n}:=by
  simp only[lR.un,LT.agj]
 rw[this,alE,<-Bm,<-Ee,<-al7]
def SC.gv (ok:Nat->Bool):SC->SC
 |.ptr n k sz off=>match ok n with|true=>.ptr n k sz off|false=>.cd
 |.sl n sz lo len=>match ok n with|true=>.sl n sz lo len|false=>.cd
 |.ct n k aR off sz len=>match ok n with|true=>.ct n k aR off sz len|false=>.cd
 |.dY n k aR off sz i=>match ok n with|true=>.dY n k aR off sz i|false=>.cd
 |.cN ts x off j n sz len=>match ok n with|true=>.cN ts x off j n sz len|false=>.cd
 |x=>x
def SC.dW (ok:Nat->Bool):SC->SC
 |.fn f c9=>.fn f (c9.map (SC.gv ok))
 |.v t x=>.v t x
 |.nil ts=>.nil ts
 |.ptr n k sz off=>SC.gv ok (.ptr n k sz off)
 |.dr ts x off=>.dr ts x off
 |.sl n sz lo len=>SC.gv ok (.sl n sz lo len)
 |.ct n k aR off sz len=>SC.gv ok (.ct n k aR off sz len)
 |.dY n k aR off sz i=>SC.gv ok (.dY n k aR off sz i)
 |.cN ts x off j n sz len=>SC.gv ok (.cN ts x off j n sz len)
 |.cd=>.cd
theorem SC.DE (ok:Nat->Bool) (c:SC):(c.gv ok).er=c.er.gv ok:=by
 cases c with
 |ptr n k sz off=>simp only[SC.gv,SC.er,aj.gv];cases ok n<;>rfl
 |sl n sz lo len=>simp only[SC.gv,SC.er,aj.gv];cases ok n<;>rfl
 |ct n k aR off sz len=>simp only[SC.gv,SC.er,aj.gv];cases ok n<;>rfl
 |dY n k aR off sz i=>simp only[SC.gv,SC.er,aj.gv];cases ok n<;>rfl
 |cN ts x off j n sz len=>simp only[SC.gv,SC.er,aj.gv];cases ok n<;>rfl
 |_=>rfl
theorem SC.DF (ok:Nat->Bool) (c:SC):(c.dW ok).er=c.er.dW ok:=by
 cases c with
 |fn f c9=>
  simp only[SC.dW,SC.er,aj.dW,SC.DQ,zar];congr 1;exact zat fun c _=>SC.DE ok c
 |ptr n k sz off=>exact SC.DE ok (.ptr n k sz off)
 |sl n sz lo len=>exact SC.DE ok (.sl n sz lo len)
 |ct n k aR off sz len=>exact SC.DE ok (.ct n k aR off sz len)
 |dY n k aR off sz i=>exact SC.DE ok (.dY n k aR off sz i)
 |cN ts x off j n sz len=>exact SC.DE ok (.cN ts x off j n sz len)
 |_=>rfl
def SV.dW (ok:Nat->Bool):SV->SV
 |.one c=>.one (c.dW ok)
 |.agg cs=>.agg (cs.map (SC.dW ok))
 |.cf xs=>.cf (xs.map fun x=>(x.1,x.2.map (SC.dW ok)))
theorem Qr (ok:Nat->Bool) (cs:List SC):(cs.map (SC.dW ok)).map SC.er=(cs.map SC.er).map (aj.dW ok):=by
 simp only[zar];exact zat fun c _=>SC.DF ok c
theorem SV.DF (ok:Nat->Bool) (v:SV):(v.dW ok).er=v.er.dW ok:=by
 cases v with
 |one c=>simp only[SV.dW,SV.er,ao.dW,SC.DF]
 |agg cs=>simp only[SV.dW,SV.er,ao.dW,Qr]
 |cf xs=>
  simp only[SV.dW,SV.er,ao.dW,zar];congr 1;exact zat fun x _=>by simp only[Function.comp];rw[Qr]
def SB.dW (ok:Nat->Bool):SB->SB
 |.box cs=>.box (cs.map (SC.dW ok))
 |.row gr m ts xs=>.row gr m ts xs
theorem SB.DF (ok:Nat->Bool) (b:SB):(b.dW ok).er=b.er.dW ok:=by
 cases b with
 |box cs=>simp only[SB.dW,SB.er,av.dW,Qr]
 |row gr m ts xs=>rfl
def CE (ok:Nat->Bool) (env:Nat->SV):List Nat->(Nat->SV)
 |[]=>fun _=>.one .cd
 |s::ss=>aQ (CE ok env ss) s ((env s).dW ok)
def yh (ok:Nat->Bool) (h:Nat->Option SB):List Nat->(Nat->Option SB)
 |[]=>fun _=>none
 |s::ss=>match ok s with
  |true=>match h s with
   |some b=>aQ (yh ok h ss) s (some (b.dW ok))
   |none=>yh ok h ss
  |false=>yh ok h ss
def u9 (ok:Nat->Bool):List Nat->(Nat->Bool)
 |[]=>fun _=>false
 |s::ss=>match ok s with
  |true=>aQ (u9 ok ss) s true
  |false=>u9 ok ss
theorem agq (ok:Nat->Bool) (env:Nat->SV):∀l,sQ (CE ok env l)=x5 ok (sQ env) l
 |[]=>rfl
 |s::ss=>by simp only[CE,x5,yV,agq ok env ss,SV.DF];rfl
theorem OA (ok:Nat->Bool) (h:Nat->Option SB):∀l,dw (yh ok h l)=tE ok (dw h) l
 |[]=>rfl
 |s::ss=>by
  simp only[yh,tE];cases ok s with
  |false=>simp only[OA ok h ss,zam,if_false]
  |true=>
   have:dw h s=(h s).map SB.er:=rfl;simp only[if_true,this];cases h s with
   |none=>simp only[zal,OA ok h ss]
   |some b=>simp only[LK,OA ok h ss,zab,SB.DF]
theorem agr (ok:Nat->Bool):∀l,u9 ok l=x6 ok l
 |[]=>rfl
 |s::ss=>by
  simp only[u9,x6];cases ok s<;>simp[agr ok ss]
theorem Wj (ok:Nat->Bool) (env:Nat->SV):∀(l:List Nat) (s:Nat),s∉l->CE ok env l s=.one .cd
 |[],s,_=>rfl
 |a::l,s,h=>by
  simp only[zao,not_or] at h;simp only[CE,dA _ _ _ _ h.1,Wj ok env l s h.2]
theorem Wk (ok:Nat->Bool) (hp:Nat->Option SB):∀(l:List Nat) (s:Nat),s∉l->yh ok hp l s=none
 |[],s,_=>rfl
 |a::l,s,h=>by
  simp only[zao,not_or] at h;have ih:=Wk ok hp l s h.2;simp only[yh];cases ok a with
  |false=>exact ih
  |true=>
   cases hp a with
   |none=>exact ih
   |some b=>simp only[dA _ _ _ _ h.1];exact ih
theorem Wl (ok:Nat->Bool):∀(l:List Nat) (s:Nat),s∉l->u9 ok l s=false
 |[],s,_=>rfl
 |a::l,s,h=>by
  simp only[zao,not_or] at h;have ih:=Wl ok l s h.2;simp only[u9];cases ok a with
  |false=>exact ih
  |true=>simp only[dA _ _ _ _ h.1];exact ih
def SC.zU (n:Nat):SC->Bool
 |.ptr m _ _ _=>Nat.beq m n
 |.sl m _ _ _=>Nat.beq m n
 |.ct m _ _ _ _ _=>Nat.beq m n
 |.dY m _ _ _ _ _=>Nat.beq m n
 |.cN _ _ _ _ m _ _=>Nat.beq m n
 |_=>false
def SC.jN (n:Nat):SC->Bool
 |.fn _ c9=>c9.any (SC.zU n)
 |.ptr m _ _ _=>Nat.beq m n
 |.sl m _ _ _=>Nat.beq m n
 |.ct m _ _ _ _ _=>Nat.beq m n
 |.dY m _ _ _ _ _=>Nat.beq m n
 |.cN _ _ _ _ m _ _=>Nat.beq m n
 |.v _ _=>false
 |.nil _=>false
 |.dr _ _ _=>false
 |.cd=>false
theorem Dp (m n:Nat):(m==n)=Nat.beq m n:=by
 rw[Bool.eq_iff_iff,beq_iff_eq];exact⟨fun h=>by rw[h];exact zaq n,zaa⟩
theorem SC.asE (n:Nat) (c:SC):c.er.zU n=c.zU n:=by
 cases c<;>simp[SC.er,aj.zU,SC.zU,Dp]
theorem SC.NX (n:Nat) (c:SC):c.er.jN n=c.jN n:=by
 cases c with
 |fn f c9=>
  simp only[SC.er,SC.DQ,aj.jN,SC.jN,zbc];congr 1;funext c;exact SC.asE n c
 |ptr m _ _ _=>exact Dp m n
 |sl m _ _ _=>exact Dp m n
 |ct m _ _ _ _ _=>exact Dp m n
 |dY m _ _ _ _ _=>exact Dp m n
 |cN _ _ _ _ m _ _=>exact Dp m n
 |_=>rfl
def SV.jN (n:Nat):SV->Bool
 |.one c=>c.jN n
 |.agg cs=>cs.any (SC.jN n)
 |.cf xs=>xs.any fun x=>x.2.any (SC.jN n)
theorem Un (n:Nat) (cs:List SC):(cs.map SC.er).any (aj.jN n)=cs.any (SC.jN n):=by
 rw[zbc];congr 1;funext c;exact SC.NX n c
theorem SV.NX (n:Nat) (v:SV):v.er.jN n=v.jN n:=by
 cases v with
 |one c=>exact SC.NX n c
 |agg cs=>exact Un n cs
 |cf xs=>
  simp only[SV.er,ao.jN,SV.jN,zbc];congr 1;funext x;exact Un n x.2
def aeh (n:Nat):Option SB->Bool
 |some (.box cs)=>cs.any (SC.jN n)
 |_=>false
def LG (n:Nat):List Nat->Bool
 |[]=>false
 |m::l=>match Nat.beq n m with
  |true=>true
  |false=>LG n l
theorem YY (n:Nat):∀l:List Nat,LG n l=l.contains n
 |[]=>rfl
 |m::l=>by
  simp only[LG,List.contains_cons];have e:(n==m)=Nat.beq n m:=by cases h:Nat.beq n m with
   |true=>simpa using zaa h
   |false=>simp;intro h';rw[h',zaq] at h;cases h
  rw[e,YY n l];cases Nat.beq n m<;>rfl
def ai.kY (σ:ai) (ke kh:List Nat):Nat->Bool:=fun n=>(σ.h n).isSome&&LG n kh&&(Nat.ble aD n||ke.any (fun s=>(σ.env s).jN n)||kh.any fun k=>aeh n (σ.h k))
theorem ai.aq7 (σ:ai) (ke kh:List Nat):σ.er.kY ke kh=σ.kY ke kh:=by
 funext n;simp only[St.kY,ai.kY];have h1:(σ.er.h n).isSome=(σ.h n).isSome:=Y7 σ.h n;have h2:(fun s=>(σ.er.env s).jN n)=fun s=>(σ.env s).jN n:=by funext s;exact SV.NX n _
 have h3:(fun k=>match σ.er.h k with|some (.box cs)=>cs.any (·.jN n)|_=>false)=fun k=>aeh n (σ.h k):=by
  funext k;have:σ.er.h k=(σ.h k).map SB.er:=rfl;rw[this];cases σ.h k with
  |none=>rfl
  |some b=>cases b with
   |box cs=>exact Un n cs
   |row gr m ts xs=>rfl
 rw[h1,h2,YY,Bool.and_comm (x:=(σ.h n).isSome)];exact congrArg (fun g:Nat->Bool=>(kh.contains n&&(σ.h n).isSome&&((Nat.ble aD n||ke.any fun s=>SV.jN n (σ.env s))||kh.any g))) h3
def ai.kt (σ:ai) (ke kh:List Nat):ai:=
 {env:=CE (σ.kY ke kh) σ.env ke,h:=yh (σ.kY ke kh) σ.h kh,used:=fun n=>Nat.ble aD n||u9 (σ.kY ke kh) kh n}
theorem ai.Uv (σ:ai) (ke kh:List Nat):(σ.kt ke kh).er=σ.er.kt ke kh:=by
 simp only[ai.kt,St.kt,ai.aq7];have e1:=agq (σ.kY ke kh) σ.env ke;have e2:=OA (σ.kY ke kh) σ.h kh;have e3:=agr (σ.kY ke kh) kh;show St.mk (sQ (CE (σ.kY ke kh) σ.env ke)) (dw (yh (σ.kY ke kh) σ.h kh)) (fun n=>Nat.ble aD n||u9 (σ.kY ke kh) kh n)=_;rw[e1,e2,e3];rfl
def tO (x c n:Nat):Nat:=match Nat.beq n x with|true=>c|false=>n
theorem Fy (x c n:Nat):tO x c n=pP x c n:=by
 unfold tO pP;cases h:Nat.beq n x with
 |true=>rw[if_pos (zaa h)]
 |false=>rw[if_neg (fun e=>by rw[e,zaq] at h;cases h)]
def SC.qy (x c:Nat):SC->SC
 |.ptr n k sz off=>.ptr (tO x c n) k sz off
 |.sl n sz lo len=>.sl (tO x c n) sz lo len
 |.ct n k aR off sz len=>.ct (tO x c n) k aR off sz len
 |.dY n k aR off sz i=>.dY (tO x c n) k aR off sz i
 |.cN ts y off j n sz len=>.cN ts y off j (tO x c n) sz len
 |y=>y
def SC.bI (x c:Nat):SC->SC
 |.fn f c9=>.fn f (c9.map (SC.qy x c))
 |.ptr n k sz off=>.ptr (tO x c n) k sz off
 |.sl n sz lo len=>.sl (tO x c n) sz lo len
 |.ct n k aR off sz len=>.ct (tO x c n) k aR off sz len
 |.dY n k aR off sz i=>.dY (tO x c n) k aR off sz i
 |.cN ts y off j n sz len=>.cN ts y off j (tO x c n) sz len
 |.v t y=>.v t y
 |.nil ts=>.nil ts
 |.dr ts y off=>.dr ts y off
 |.cd=>.cd
theorem SC.asI (x c:Nat) (y:SC):(y.qy x c).er=y.er.qy x c:=by
 cases y<;>simp[SC.qy,SC.er,aj.qy,Fy]
theorem SC.zY (x c:Nat) (y:SC):(y.bI x c).er=y.er.bI x c:=by
 cases y with
 |fn f c9=>
  simp only[SC.bI,SC.er,aj.bI,SC.DQ,zar];congr 1;exact zat fun y _=>SC.asI x c y
 |ptr n k sz off=>simp only[SC.bI,SC.er,aj.bI,aj.qy,Fy]
 |sl n sz lo len=>simp only[SC.bI,SC.er,aj.bI,aj.qy,Fy]
 |ct n k aR off sz len=>simp only[SC.bI,SC.er,aj.bI,aj.qy,Fy]
 |dY n k aR off sz i=>simp only[SC.bI,SC.er,aj.bI,aj.qy,Fy]
 |cN ts y off j n sz len=>simp only[SC.bI,SC.er,aj.bI,aj.qy,Fy]
 |_=>rfl
theorem Ut (x c:Nat) (cs:List SC):(cs.map (SC.bI x c)).map SC.er=(cs.map SC.er).map (aj.bI x c):=by
 simp only[zar];exact zat fun y _=>SC.zY x c y
def SV.bI (x c:Nat):SV->SV
 |.one y=>.one (y.bI x c)
 |.agg ys=>.agg (ys.map (SC.bI x c))
 |.cf ys=>.cf (ys.map fun y=>(y.1,y.2.map (SC.bI x c)))
theorem SV.zY (x c:Nat) (v:SV):(v.bI x c).er=v.er.bI x c:=by
 cases v with
 |one y=>simp only[SV.bI,SV.er,ao.bI,SC.zY]
 |agg cs=>simp only[SV.bI,SV.er,ao.bI,Ut]
 |cf xs=>
  simp only[SV.bI,SV.er,ao.bI,zar];congr 1;exact zat fun y _=>by simp only[Function.comp];rw[Ut]
def SB.bI (x c:Nat):SB->SB
 |.box cs=>.box (cs.map (SC.bI x c))
 |.row gr m ts xs=>.row gr m ts xs
theorem SB.zY (x c:Nat) (b:SB):(b.bI x c).er=b.er.bI x c:=by
 cases b with
 |box cs=>simp only[SB.bI,SB.er,av.bI,Ut]
 |row gr m ts xs=>rfl
def ai.bI (σ:ai) (x c:Nat):Option ai:=
  match Nat.beq x c with
  |true=>some σ
  |false=>match Nat.ble aD x with
   |true=>some σ
   |false=>match σ.used c with
    |true=>none
    |false=>some
     {env:=fun s=>(σ.env s).bI x c
      h:=fun n=>match Nat.beq n c with
        |true=>(σ.h x).map (SB.bI x c)
        |false=>match Nat.beq n x with
         |true=>none
         |false=>(σ.h n).map (SB.bI x c)
      used:=fun n=>match Nat.beq n c with
        |true=>σ.used x
        |false=>match Nat.beq n x with
         |true=>false
         |false=>σ.used n}
theorem zK {m n:Nat} (h:Nat.beq m n=false):m≠n:=fun e=>by rw[e,zaq] at h;cases h
theorem ai.zY {σ σ1:ai} {x c:Nat} (h:σ.bI x c=some σ1):σ.er.bI x c=some σ1.er:=by
 unfold ai.bI at h;split at h
 ·rename_i e;injection h with h;subst h;simp[St.bI,zaa e]
 ·rename_i e;split at h
  ·rename_i hx;injection h with h;subst h;simp only[St.bI,if_neg (zK e),hx,if_true]
  rename_i hx;split at h
  ·cases h
  ·rename_i hu;injection h with h;subst h;have nX:σ.er.used c=false:=hu;simp only[St.bI,if_neg (zK e),hx,nX,zam,if_false];congr 1;have mm:∀o:Option SB,(o.map (SB.bI x c)).map SB.er=(o.map SB.er).map (·.bI x c):=by
    intro o;cases o with
    |none=>rfl
    |some b=>simp only[zab,SB.zY]
   have e1:(fun s=>(σ.er.env s).bI x c)=sQ (fun s=>(σ.env s).bI x c):=by
    funext s;exact(SV.zY x c (σ.env s)).symm
   have e2:(fun n=>if n=c then(σ.er.h x).map (·.bI x c) else if n=x then none else(σ.er.h n).map (·.bI x c))=dw (fun n=>match Nat.beq n c with
     |true=>(σ.h x).map (SB.bI x c)
     |false=>match Nat.beq n x with
      |true=>none
      |false=>(σ.h n).map (SB.bI x c)):=by
    funext n;simp only[dw];cases hc:Nat.beq n c with
    |true=>rw[if_pos (zaa hc)];exact(mm (σ.h x)).symm
    |false=>
     rw[if_neg (zK hc)];cases hx:Nat.beq n x with
     |true=>rw[if_pos (zaa hx)];rfl
     |false=>rw[if_neg (zK hx)];exact(mm (σ.h n)).symm
   have e3:(fun n=>if n=c then σ.er.used x else if n=x then false else σ.er.used n)=(fun n=>match Nat.beq n c with
     |true=>σ.used x
     |false=>match Nat.beq n x with
      |true=>false
      |false=>σ.used n):=by
    funext n;cases hc:Nat.beq n c with
    |true=>rw[if_pos (zaa hc)];rfl
    |false=>
     rw[if_neg (zK hc)];cases hx:Nat.beq n x with
     |true=>rw[if_pos (zaa hx)]
     |false=>rw[if_neg (zK hx)];rfl
   rw[e1,e2,e3];rfl
abbrev Cn:=List (Bool×Nat×Nat×Nat×Mode×List Ty)
def Cn.er (cn:Cn):List (Bool×Nat×Nat×Nat×Mode):=cn.map fun x=>(x.1,x.2.1,x.2.2.1,x.2.2.2.1,x.2.2.2.2.1)
def ai.mz (σ:ai) (c:Nat):Mode->ai
 |.aL=>match σ.h c with
  |some (.row gr .bc ts xs)=>σ.fx c (.row gr .aL ts xs)
  |_=>σ
 |_=>σ
theorem ai.ajc (σ:ai) (c:Nat) (m:Mode):(σ.mz c m).er=σ.er.mz c m:=by
 cases m with
 |live=>rfl
 |bc=>rfl
 |aL=>
  simp only[ai.mz,St.mz];have hh:σ.er.h c=(σ.h c).map SB.er:=rfl;rw[hh];cases σ.h c with
  |none=>rfl
  |some b=>cases b with
   |box cs=>rfl
   |row gr m ts xs=>cases m with
    |bc=>simp only[zab,SB.er,ai.rJ]
    |live=>rfl
    |aL=>rfl
def z8 (σ:ai):Bool×Nat×Nat×Nat×Mode×List Ty->Option ai
 |(true,n,j,c,m,us)=>match σ.h n with
  |some (.box cs)=>match cs[j]? with
   |some (.sl a _ _ _)=>(σ.bI a c).map fun σ1=>σ1.mz c m
   |some (.nil ts)=>match ts with
    |[]=>some σ
    |t::ts=>match σ.ins c (.row true m (t::ts) []) with
     |some σ1=>some (σ1.fx n (.box (cs.set j (.sl c (t::ts).length 0 0))))
     |none=>none
   |_=>some σ
  |_=>some σ
 |(false,n,j,c,m,us)=>match σ.env n with
  |.one (.sl a _ _ _)=>(σ.bI a c).map fun σ1=>σ1.mz c m
  |.one (.nil ts)=>match ts with
   |[]=>some σ
   |t::ts=>match σ.ins c (.row true m (t::ts) []) with
    |some σ1=>some (σ1.put (some n) (.one (.sl c (t::ts).length 0 0)))
    |none=>none
  |_=>some σ
theorem agp {σ σ1:ai} {a c:Nat} {m:Mode} (h:(σ.bI a c).map (fun σ1=>σ1.mz c m)=some σ1):(σ.er.bI a c).map (fun σ1=>σ1.mz c m)=some σ1.er:=by
 rw[zaw] at h;obtain⟨σ2,e,rfl⟩:=h;rw[ai.zY e,zab,ai.ajc]
theorem atk {σ σ1:ai} {x:Bool×Nat×Nat×Nat×Mode×List Ty} (h:z8 σ x=some σ1):σ.er.canon (x.1,x.2.1,x.2.2.1,x.2.2.2.1,x.2.2.2.2.1)=some σ1.er:=by
 obtain⟨b,n,j,c,m,us⟩:=x;cases b with
 |true=>
  simp only[z8] at h;simp only[St.canon];have hh:σ.er.h n=(σ.h n).map SB.er:=rfl;rw[hh];split at h
  ·rename_i cs hn;simp only[hn,zab,SB.er,zag];split at h
   ·rename_i a _ _ _ hj;simp only[hj,zab,SC.er];exact agp h
   ·rename_i ts hj;simp only[hj,zab,SC.er];split at h
    ·injection h with h;subst h;rfl
    ·rename_i t ts;split at h
     ·rename_i σ2 e;injection h with h;subst h;have i:=ai.vE e;rw[show(SB.row true m (t::ts) []).er=av.row true m (t::ts).length [] from rfl] at i
      simp only[zaD,zbd,if_true] at i⊢;rw[i];simp only[ai.rJ,SB.er,zaF,SC.er,zaD]
     ·cases h
   ·rename_i hs hz;injection h with h;subst h;cases hj:cs[j]? with
    |none=>rfl
    |some y=>cases y<;>first|rfl|(exfalso;exact hs _ _ _ _ hj)|(exfalso;exact hz _ hj)
  ·rename_i hb;injection h with h;subst h;cases hn:σ.h n with
   |none=>rfl
   |some b=>cases b with
    |box cs=>exact absurd hn (hb cs)
    |row gr m ts xs=>rfl
 |false=>
  simp only[z8] at h;simp only[St.canon];have hh:σ.er.env n=(σ.env n).er:=rfl;rw[hh];split at h
  ·rename_i a _ _ _ hn;simp only[hn,SV.er,SC.er];exact agp h
  ·rename_i ts hn;simp only[hn,SV.er,SC.er];split at h
   ·injection h with h;subst h;rfl
   ·rename_i t ts;split at h
    ·rename_i σ2 e;injection h with h;subst h;have i:=ai.vE e;rw[show(SB.row true m (t::ts) []).er=av.row true m (t::ts).length [] from rfl] at i
     simp only[zaD,zbd,if_true] at i⊢;rw[i];simp only[ai.eD,SV.er,SC.er,zaD]
    ·cases h
  ·rename_i hs hz;injection h with h;subst h;cases hn:σ.env n with
   |one y=>cases y<;>first|rfl|(exfalso;exact hs _ _ _ _ hn)|(exfalso;exact hz _ hn)
   |_=>rfl
def Fh (σ:ai):Cn->Option ai
 |[]=>some σ
 |x::l=>match z8 σ x with
  |some σ1=>Fh σ1 l
  |none=>none
theorem afC:∀{cn:Cn} {σ σ1:ai},Fh σ cn=some σ1->σ.er.vu cn.er=some σ1.er
 |[],σ,σ1,h=>by simp only[Fh] at h;injection h with h;subst h;rfl
 |x::l,σ,σ1,h=>by
  simp only[Fh] at h;split at h
  ·rename_i σ2 e;have i:=atk e;have j:=afC h;simp only[Cn.er] at j;simp only[Cn.er,zac,St.vu,i,j]
  ·cases h
section
variable {ρ:Type}
def zJ (n:Nat) (k:Nat->Option ρ):List Nat->Option ρ
 |[]=>k n
 |c::l=>match Nat.beq n c with
  |true=>k c
  |false=>zJ n k l
theorem adq (n:Nat) (k:Nat->Option ρ):∀l,zJ n k l=k n
 |[]=>rfl
 |c::l=>by
  simp only[zJ];split
  ·rename_i e;rw[zaa e]
  ·exact adq n k l
def Rb (kh:List Nat) (c:SC) (k:SC->Option ρ):Option ρ:=
 match c with
 |.v t x=>k (.v t x)
 |.nil ts=>k (.nil ts)
 |.ptr n kk sz off=>zJ n (fun n=>k (.ptr n kk sz off)) kh
 |.dr ts x off=>k (.dr ts x off)
 |.sl n sz lo len=>zJ n (fun n=>k (.sl n sz lo len)) kh
 |.ct n a b c d e=>zJ n (fun n=>k (.ct n a b c d e)) kh
 |.dY n a b c d e=>zJ n (fun n=>k (.dY n a b c d e)) kh
 |.cN ts x off j n sz len=>zJ n (fun n=>k (.cN ts x off j n sz len)) kh
 |.fn f c9=>k (.fn f c9)
 |.cd=>k .cd
theorem aaq (kh:List Nat) (c:SC) (k:SC->Option ρ):Rb kh c k=k c:=by
 cases c<;>first|rfl|exact adq _ _ _
def GG (kh:List Nat):List SC->(List SC->Option ρ)->Option ρ
 |[],k=>k []
 |c::cs,k=>Rb kh c fun c=>GG kh cs fun cs=>k (c::cs)
theorem Rc (kh:List Nat):∀(cs:List SC) (k:List SC->Option ρ),GG kh cs k=k cs
 |[],k=>rfl
 |c::cs,k=>by simp only[GG,aaq,Rc kh cs]
def xi (kh:List Nat) (env:Nat->SV):List Nat->(List (Nat×SV)->Option ρ)->Option ρ
 |[],k=>k []
 |s::ss,k=>match env s with
  |.one .cd=>xi kh env ss k
  |.one c=>Rb kh c fun c=>xi kh env ss fun l=>k ((s,.one c)::l)
  |.agg cs=>GG kh cs fun cs=>xi kh env ss fun l=>k ((s,.agg cs)::l)
  |.cf xs=>xi kh env ss fun l=>k ((s,.cf xs)::l)
def xj (kh:List Nat) (h:Nat->Option SB):List Nat->(List (Nat×Option SB)->Option ρ)->Option ρ
 |[],k=>k []
 |n::ns,k=>match h n with
  |none=>xj kh h ns k
  |some (.box cs)=>GG kh cs fun cs=>xj kh h ns fun l=>k ((n,some (.box cs))::l)
  |some (.row gr m ts xs)=>xj kh h ns fun l=>k ((n,some (.row gr m ts xs))::l)
def Be (u:Nat->Bool):List Nat->(List Nat->Option ρ)->Option ρ
 |[],k=>k []
 |n::ns,k=>match u n with
  |true=>Be u ns fun l=>k (n::l)
  |false=>Be u ns k
def yl:List Nat->Nat->Bool
 |[],n=>Nat.ble aD n
 |m::l,n=>match Nat.beq n m with
  |true=>true
  |false=>yl l n
def ai.DY (ke kh:List Nat) (σ:ai) (k:ai->Option ρ):Option ρ:=
 xi kh σ.env ke fun le=>xj kh σ.h kh fun lh=>Be σ.used kh fun lu=>k ⟨oF le,mJ lh,yl lu⟩
structure ky (ke kh:List Nat) (σ:ai):Prop where
 e:∀s,s∉ke->σ.env s=.one .cd
 h:∀n,n∉kh->σ.h n=none
 u:∀n,n∉kh->σ.used n=Nat.ble aD n
 p:∀n,σ.used n=false->Nat.ble aD n=false
theorem aar (kh:List Nat) (env:Nat->SV):∀(ss:List Nat) (k:List (Nat×SV)->Option ρ),∃l:List (Nat×SV),xi kh env ss k=k l/\∀s,oF l s=if s∈ss then env s else .one .cd
 |[],k=>⟨[],rfl,fun s=>by simp[oF]⟩
 |a::ss,k=>by
  have cI:∀v:SV,env a=v->(∀k':List (Nat×SV)->Option ρ,∃l,xi kh env ss k'=k' l/\∀s,oF l s=if s∈ss then env s else .one .cd)->
    ∃l:List (Nat×SV),xi kh env ss (fun l=>k ((a,v)::l))=k l/\∀s,oF l s=if s∈a::ss then env s else .one .cd:=by
   intro v hv ih;obtain⟨l,h1,h2⟩:=ih fun l=>k ((a,v)::l);refine⟨(a,v)::l,h1,fun s=>?_⟩;simp only[oF,lc];split
   ·rename_i e;subst e;rw[if_pos (by simp)];exact hv.symm
   ·rename_i aE;rw[h2 s];by_cases hs:s∈ss
    ·rw[if_pos hs,if_pos (by simp[hs])]
    ·rw[if_neg hs,if_neg (by simp[hs,aE])]
  have ih:=fun k':List (Nat×SV)->Option ρ=>aar kh env ss k';simp only[xi];split
  ·rename_i hv;obtain⟨l,h1,h2⟩:=ih k;refine⟨l,h1,fun s=>?_⟩;rw[h2 s];by_cases hs:s∈ss
   ·rw[if_pos hs,if_pos (by simp[hs])]
   ·rw[if_neg hs];by_cases zk:s=a
    ·subst zk;rw[if_pos (by simp),hv]
    ·rw[if_neg (by simp[hs,zk])]
  ·rename_i c hc hv;rw[aaq];exact cI _ hv ih
  ·rename_i cs hv;rw[Rc];exact cI _ hv ih
  ·rename_i xs hv;exact cI _ hv ih
theorem aas (kh:List Nat) (h:Nat->Option SB):∀(ns:List Nat) (k:List (Nat×Option SB)->Option ρ),∃l:List (Nat×Option SB),xj kh h ns k=k l/\∀n,mJ l n=if n∈ns then h n else none
 |[],k=>⟨[],rfl,fun s=>by simp[mJ]⟩
 |a::ns,k=>by
  have cI:∀v:Option SB,h a=v->(∀k':List (Nat×Option SB)->Option ρ,∃l,xj kh h ns k'=k' l/\∀s,mJ l s=if s∈ns then h s else none)->
    ∃l:List (Nat×Option SB),xj kh h ns (fun l=>k ((a,v)::l))=k l/\∀s,mJ l s=if s∈a::ns then h s else none:=by
   intro v hv ih;obtain⟨l,h1,h2⟩:=ih fun l=>k ((a,v)::l);refine⟨(a,v)::l,h1,fun s=>?_⟩;simp only[mJ,lc];split
   ·rename_i e;subst e;rw[if_pos (by simp)];exact hv.symm
   ·rename_i aE;rw[h2 s];by_cases hs:s∈ns
    ·rw[if_pos hs,if_pos (by simp[hs])]
    ·rw[if_neg hs,if_neg (by simp[hs,aE])]
  have ih:=fun k':List (Nat×Option SB)->Option ρ=>aas kh h ns k';simp only[xj];split
  ·rename_i hv;obtain⟨l,h1,h2⟩:=ih k;refine⟨l,h1,fun s=>?_⟩;rw[h2 s];by_cases hs:s∈ns
   ·rw[if_pos hs,if_pos (by simp[hs])]
   ·rw[if_neg hs];by_cases zk:s=a
    ·subst zk;rw[if_pos (by simp),hv]
    ·rw[if_neg (by simp[hs,zk])]
  ·rename_i cs hv;rw[Rc];exact cI _ hv ih
  ·rename_i gr m ts xs hv;exact cI _ hv ih
theorem Rd (u:Nat->Bool) (hp:∀n,u n=false->Nat.ble aD n=false):∀(ns:List Nat) (k:List Nat->Option ρ),∃l:List Nat,Be u ns k=k l/\∀n,yl l n=if n∈ns then u n else Nat.ble aD n
 |[],k=>⟨[],rfl,fun s=>by simp[yl]⟩
 |a::ns,k=>by
  simp only[Be];split
  ·rename_i hv;obtain⟨l,h1,h2⟩:=Rd u hp ns fun l=>k (a::l);refine⟨a::l,h1,fun s=>?_⟩;simp only[yl];split
   ·rename_i e;have:=zaa e;subst this;rw[if_pos (by simp)];exact hv.symm
   ·rename_i e;have aE:=zK e;rw[h2 s];by_cases hs:s∈ns
    ·rw[if_pos hs,if_pos (by simp[hs])]
    ·rw[if_neg hs,if_neg (by simp[hs,aE])]
  ·rename_i hv;obtain⟨l,h1,h2⟩:=Rd u hp ns k;refine⟨l,h1,fun s=>?_⟩;rw[h2 s];by_cases hs:s∈ns
   ·rw[if_pos hs,if_pos (by simp[hs])]
   ·rw[if_neg hs];by_cases zk:s=a
    ·subst zk;rw[if_pos (by simp),hv,hp _ hv]
    ·rw[if_neg (by simp[hs,zk])]
theorem Mb {ke kh:List Nat} {σ:ai} (W:ky ke kh σ) (k:ai->Option ρ):σ.DY ke kh k=k σ:=by
 unfold ai.DY;obtain⟨le,e1,e2⟩:=aar kh σ.env ke fun le=>xj kh σ.h kh fun lh=>Be σ.used kh fun lu=>k ⟨oF le,mJ lh,yl lu⟩;rw[e1];obtain⟨lh,h1,h2⟩:=aas kh σ.h kh fun lh=>Be σ.used kh fun lu=>k ⟨oF le,mJ lh,yl lu⟩;rw[h1];obtain⟨lu,u1,u2⟩:=Rd σ.used W.p kh fun lu=>k ⟨oF le,mJ lh,yl lu⟩;rw[u1];have a1:oF le=σ.env:=by
  funext s;rw[e2 s];split
  ·rfl
  ·rename_i hs;exact(W.e s hs).symm
 have a2:mJ lh=σ.h:=by
  funext s;rw[h2 s];split
  ·rfl
  ·rename_i hs;exact(W.h s hs).symm
 have a3:yl lu=σ.used:=by
  funext s;rw[u2 s];split
  ·rfl
  ·rename_i hs;exact(W.u s hs).symm
 rw[a1,a2,a3]
theorem ky.kt (ke kh:List Nat) (σ:ai):ky ke kh (σ.kt ke kh):=
 ⟨fun s hs=>Wj _ _ _ s hs,fun n hn=>Wk _ _ _ n hn,fun n hn=>by show(Nat.ble aD n||u9 _ _ n)=_;rw[Wl _ _ n hn,zaW],
  fun n hn=>by have bU:(Nat.ble aD n||u9 _ _ n)=false:=hn;simp only[Bool.or_eq_false_iff] at bU;exact bU.1⟩
theorem ky.bI {ke kh:List Nat} {σ σ1:ai} {a c:Nat} (W:ky ke kh σ) (hc:c∈kh) (h:σ.bI a c=some σ1):ky ke kh σ1:=by
 unfold ai.bI at h;split at h
 ·injection h with h;subst h;exact W
 ·split at h
  ·injection h with h;subst h;exact W
  ·rename_i vR;split at h
   ·cases h
   ·rename_i MF;injection h with h;subst h;refine⟨fun s hs=>?_,fun n hn=>?_,fun n hn=>?_,fun n hn=>?_⟩
    ·show(σ.env s).bI a c=_;rw[W.e s hs];rfl
    ·simp only
     split
     ·rename_i e;exact absurd (by rw[zaa e];exact hc) hn
     ·split
      ·rfl
      ·rw[W.h n hn];rfl
    ·simp only
     split
     ·rename_i e;exact absurd (by rw[zaa e];exact hc) hn
     ·split
      ·rename_i e;rw[zaa e,vR]
      ·exact W.u n hn
    ·simp only at hn;split at hn
     ·rename_i e;rw[zaa e];exact W.p c MF
     ·split at hn
      ·rename_i e;rw[zaa e,vR]
      ·exact W.p n hn
theorem ky.ins {ke kh:List Nat} {σ σ1:ai} {c:Nat} {b:SB} (W:ky ke kh σ) (hc:c∈kh) (h:σ.ins c b=some σ1):ky ke kh σ1:=by
 unfold ai.ins at h;split at h
 ·cases h
 ·rename_i MF;injection h with h;subst h;refine⟨W.e,fun n hn=>?_,fun n hn=>?_,fun n hn=>?_⟩
  ·show aQ σ.h c _ n=_;rw[dA _ _ _ _ (fun e=>hn (by rw[e];exact hc))];exact W.h n hn
  ·show aQ σ.used c _ n=_;rw[dA _ _ _ _ (fun e=>hn (by rw[e];exact hc))];exact W.u n hn
  ·have bU:aQ σ.used c true n=false:=hn;by_cases e:n=c
   ·subst e;rw[cJ] at bU;cases bU
   ·rw[dA _ _ _ _ e] at bU;exact W.p n bU
theorem ky.mz {ke kh:List Nat} {σ:ai} (W:ky ke kh σ) (c:Nat) (m:Mode):ky ke kh (σ.mz c m):=by
 cases m with
 |live=>exact W
 |bc=>exact W
 |aL=>
  simp only[ai.mz];split
  ·rename_i gr ts xs hn;exact⟨W.e,fun n hk=>by
    show aQ σ.h c _ n=none;have xz:n≠c:=fun e=>by subst e;rw[W.h n hk] at hn;cases hn
    rw[dA _ _ _ _ xz];exact W.h n hk,W.u,W.p⟩
  ·exact W
theorem ky.Ir {ke kh:List Nat} {σ σ1:ai} {a c:Nat} {m:Mode} (W:ky ke kh σ) (hc:c∈kh) (h:(σ.bI a c).map (fun σ1=>σ1.mz c m)=some σ1):ky ke kh σ1:=by
 rw[zaw] at h;obtain⟨σ2,e,rfl⟩:=h;exact(W.bI hc e).mz c m
theorem ky.canon {ke kh:List Nat} {σ σ1:ai} {x:Bool×Nat×Nat×Nat×Mode×List Ty} (W:ky ke kh σ) (hc:x.2.2.2.1∈kh) (h:z8 σ x=some σ1):ky ke kh σ1:=by
 obtain⟨b,n,j,c,m,us⟩:=x;simp only at hc;have iN:some σ=some σ1->ky ke kh σ1:=fun h=>by injection h with h;subst h;exact W
 cases b with
 |true=>
  simp only[z8] at h;split at h
  ·rename_i cs hn;split at h
   ·exact W.Ir hc h
   ·split at h
    ·exact iN h
    ·split at h
     ·rename_i σ2 e;injection h with h;subst h;have W2:=W.ins hc e;have R9:n∈kh:=by
       rcases zbi (n∈kh) with h|h
       ·exact h
       ·rw[W.h n h] at hn;cases hn
      exact⟨W2.e,fun q hq=>by show aQ σ2.h n _ q=_;rw[dA _ _ _ _ (fun e=>hq (by rw[e];exact R9))];exact W2.h q hq,W2.u,W2.p⟩
     ·cases h
   ·exact iN h
  ·exact iN h
 |false=>
  simp only[z8] at h;split at h
  ·exact W.Ir hc h
  ·rename_i ts hn;split at h
   ·exact iN h
   ·split at h
    ·rename_i σ2 e;injection h with h;subst h;have W2:=W.ins hc e;have R9:n∈ke:=by
      rcases zbi (n∈ke) with h|h
      ·exact h
      ·rw[W.e n h] at hn;cases hn
     exact⟨fun q hq=>by show aQ σ2.env n _ q=_;rw[dA _ _ _ _ (fun e=>hq (by rw[e];exact R9))];exact W2.e q hq,W2.h,W2.u,W2.p⟩
    ·cases h
  ·exact iN h
def Oc (ke kh:List Nat):Cn->ai->(ai->Option ρ)->Option ρ
 |[],σ,k=>k σ
 |x::l,σ,k=>match z8 σ x with
  |some σ1=>match List.elem x.2.2.2.1 kh with
   |true=>σ1.DY ke kh fun σ2=>Oc ke kh l σ2 k
   |false=>none
  |none=>none
theorem afB {ke kh:List Nat}:∀{cn:Cn} {σ:ai} {k:ai->Option ρ} {r:ρ},ky ke kh σ->Oc ke kh cn σ k=some r->∃σ1,Fh σ cn=some σ1/\k σ1=some r
 |[],σ,k,r,W,h=>⟨σ,rfl,h⟩
 |x::l,σ,k,r,W,h=>by
  simp only[Oc] at h;split at h
  ·rename_i σ1 e;split at h
   ·rename_i hm;have W1:=W.canon (by simpa using hm) e;rw[Mb W1] at h;obtain⟨σ2,h1,h2⟩:=afB W1 h;exact⟨σ2,by simp only[Fh,e,h1],h2⟩
   ·cases h
  ·cases h
def Fj (sh:lR) (kh:List Nat) (cn:Cn) (σ:ai) (k:sh.L.D->Option ρ):Option ρ:=
 (σ.kt sh.ke kh).DY sh.ke kh fun σ1=>(σ1.kt sh.ke kh).DY sh.ke kh fun σ2=>Oc sh.ke kh cn σ2 fun iD=>(iD.kt sh.ke kh).DY sh.ke kh fun σ4=>sh.flat kh σ4 k
theorem Oi {sh:lR} {kh:List Nat} {cn:Cn} {σ:ai} {k:sh.L.D->Option ρ} {r:ρ} (h:Fj sh kh cn σ k=some r):
  ∃x,σ.er.head sh.ke kh cn.er=some (sh.un x).er/\k x=some r:=by
 unfold Fj at h;rw[Mb (ky.kt _ _ _),Mb (ky.kt _ _ _)] at h;obtain⟨σ1,e,h⟩:=afB (ky.kt _ _ _) h;rw[Mb (ky.kt _ _ _)] at h;obtain⟨x,h1,h2⟩:=lR.rP h (fun s hs=>Wj _ _ _ s hs) (fun n hn=>⟨Wk _ _ _ n hn,by show(Nat.ble aD n||u9 _ _ n)=_;rw[Wl _ _ n hn,zaW]⟩);have i:=afC e;rw[ai.Uv,ai.Uv] at i;exact⟨x,by simp only[St.head,i,<-h1,ai.Uv],h2⟩
end
inductive ca where
 |skip
 |eF (uv:Bool) (ops:List dU)
 |rl (ps:List (Nat×Nat)) (ops:List dU)
 |seq (a b:ca)
 |cond (c:dg) (a b:ca)
 |block (id:Nat) (c:ca)
 |join (sh:lR) (kh:List Nat) (cn:Cn) (c:ca)
 |loop (id:Nat) (sh:lR) (kh:List Nat) (cn:Cn) (c:ca)
 |exit (id:Nat)
 |ret
def ca.er:ca->kJ
 |.skip=>.skip
 |.eF d ops=>.eF d (ops.map dU.er)
 |.rl ps ops=>.rl ps (ops.map dU.er)
 |.seq a b=>.seq a.er b.er
 |.cond c a b=>.cond c.er a.er b.er
 |.block id c=>.block id c.er
 |.join sh kh cn c=>.join sh.ke kh cn.er c.er
 |.loop id sh kh cn c=>.loop id sh.ke kh cn.er c.er
 |.exit id=>.exit id
 |.ret=>.ret
def ai.Tx (σ:ai) (c:dg) (b:Bool):ai:=
 match c with
 |.t n=>σ.lit n b
 |.k _=>σ
def zA {X ρ:Type} (o:Option ρ):Option (X⊕ρ):=o.af fun r=>some (.inr r)
theorem Ey {X ρ:Type} {o:Option ρ} {s:X⊕ρ} (h:zA o=some s):∃r,o=some r/\s=.inr r:=by
 unfold zA at h;rw[fL] at h;obtain⟨r,h1,h2⟩:=h;injection h2 with h2;exact⟨r,h1,h2.symm⟩
def mV (N:Nat) (T:List aw):ca->{ρ:Type}->ai->(ai->Option ρ)->(Nat->ai->Option ρ)->(ai->Option ρ)->Option ρ
 |.skip,_,σ,k,_,_=>k σ
 |.eF _ ops,_,σ,k,_,_=>tK T ops σ k
 |.rl ps ops,_,σ,k,_,_=>tM T ps ops [] σ k
 |.seq a b,_,σ,k,ex,kr=>mV N T a σ (fun σ1=>mV N T b σ1 k ex kr) ex kr
 |.cond c a b,_,σ,k,ex,kr=>match σ.ev c with
  |.one (.v .bool t)=>aI t (mV N T a (σ.Tx c true) k ex kr) (mV N T b (σ.Tx c false) k ex kr)
  |_=>none
 |.block id c,_,σ,k,ex,kr=>mV N T c σ k (fun i σ1=>match Nat.beq i id with|true=>k σ1|false=>ex i σ1) kr
 |.join sh kh cn c,ρ,σ,k,ex,kr=>
  cm (mV N T c (ρ:=sh.L.D⊕ρ) σ (fun σ1=>Fj sh kh cn σ1 fun x=>some (.inl x)) (fun i σ1=>zA (ex i σ1)) (fun σ1=>zA (kr σ1))) fun x=>k (sh.un x)
 |.loop id sh kh cn c,ρ,σ,k,ex,kr=>
  Fj sh kh cn σ fun x0=>cH N (fun x=>mV N T c (ρ:=sh.L.D⊕ρ) (sh.un x) (fun σ1=>Fj sh kh cn σ1 fun x'=>some (.inl x')) (fun i σ1=>zA (ex i σ1)) (fun σ1=>zA (kr σ1))) x0
 |.exit id,_,σ,_,ex,_=>ex id σ
 |.ret,_,σ,_,_,kr=>kr σ
def Xv {ρ:Type} (k:ai->Option ρ) (ex:Nat->ai->Option ρ) (kr:ai->Option ρ) (r:ρ):ua->Prop
 |.gC τ=>∃fC:ai,τ=fC.er/\k fC=some r
 |.ext i τ=>∃fC:ai,τ=fC.er/\ex i fC=some r
 |.ret τ=>∃fC:ai,τ=fC.er/\kr fC=some r
theorem abP {σ:ai} {c:dg} {b:Bool} (h:σ.ev c=.one (.v .bool b)):(σ.Tx c b).er=σ.er:=by
 cases c with
 |t n=>exact ai.Gv h
 |k v=>rfl
theorem sq {T:List aw}:∀(m:ca) {ρ:Type} {σ:ai} {k:ai->Option ρ} {ex:Nat->ai->Option ρ} {kr:ai->Option ρ} {r:ρ},mV aM T m σ k ex kr=some r->
    ∃o:ua,eC (df T) m.er σ.er=some o/\Xv k ex kr r o
  |.skip,ρ,σ,k,ex,kr,r,h=>⟨.gC σ.er,rfl,σ,rfl,h⟩
  |.eF d ops,ρ,σ,k,ex,kr,r,h=>by
   obtain⟨σ1,h1,h2⟩:=VY (h:tK T ops σ k=some r);exact⟨.gC σ1.er,by simp only[ca.er,eC,h1],σ1,rfl,h2⟩
  |.rl ps ops,ρ,σ,k,ex,kr,r,h=>by
   obtain⟨σ1,fs,h1,h2,h3⟩:=VX (h:tM T ps ops [] σ k=some r);exact⟨.gC σ1.er,by simp only[ca.er,eC,h1,h2,cond_true],σ1,rfl,h3⟩
  |.seq a b,ρ,σ,k,ex,kr,r,h=>by
   obtain⟨o,h1,h2⟩:=sq a (h:mV aM T a σ (fun σ1=>mV aM T b σ1 k ex kr) ex kr=some r);cases o with
   |gC τ=>
    obtain⟨fC,rfl,h2⟩:=h2;obtain⟨o2,h3,h4⟩:=sq b h2;exact⟨o2,by simp only[ca.er,eC,h1,h3],h4⟩
   |ext i τ=>exact⟨.ext i τ,by simp only[ca.er,eC,h1],h2⟩
   |ret τ=>exact⟨.ret τ,by simp only[ca.er,eC,h1],h2⟩
  |.cond c a b,ρ,σ,k,ex,kr,r,h=>by
   simp only[mV] at h;split at h
   · rename_i t hc;have dO:σ.er.ev c.er=.one (.c (.bool t)):=by rw[ai.eK,hc];rfl
     cases ht:(t:Bool) with
     |true=>
      rw[ht] at h;simp only[DH] at h;obtain⟨o,h1,h2⟩:=sq a h;rw[abP (by rw[hc,ht])] at h1;exact⟨o,by simp only[ca.er,eC,dO,ht,if_true,h1],h2⟩
     |false=>
      rw[ht] at h;simp only[AR] at h;obtain⟨o,h1,h2⟩:=sq b h;rw[abP (by rw[hc,ht])] at h1;exact⟨o,by simp only[ca.er,eC,dO,ht,zam,if_false,h1],h2⟩
   · cases h
  |.block id c,ρ,σ,k,ex,kr,r,h=>by
   obtain⟨o,h1,h2⟩:=sq c (h:mV aM T c σ k (fun i σ1=>match Nat.beq i id with|true=>k σ1|false=>ex i σ1) kr=some r)
   cases o with
   |gC τ=>exact⟨.gC τ,by simp only[ca.er,eC,h1],h2⟩
   |ret τ=>exact⟨.ret τ,by simp only[ca.er,eC,h1],h2⟩
   |ext i τ=>
    obtain⟨fC,rfl,h2⟩:=h2;simp only at h2;split at h2
    · rename_i e;exact⟨.gC fC.er,by simp only[ca.er,eC,h1,if_pos (zaa e)],fC,rfl,h2⟩
    · rename_i e;exact⟨.ext i fC.er,by simp only[ca.er,eC,h1,if_neg (zK e)],fC,rfl,h2⟩
  |.join sh kh cn c,ρ,σ,k,ex,kr,r,h=>by
   simp only[mV,cm,zaV] at h;obtain⟨s,hs,h⟩:=h;obtain⟨o,h1,h2⟩:=sq c hs;cases o with
   |gC τ=>
    obtain⟨fC,rfl,h2⟩:=h2;obtain⟨x,h3,h4⟩:=Oi h2;injection h4 with h4;subst h4;exact⟨.gC (sh.un x).er,by simp only[ca.er,eC,h1,h3],sh.un x,rfl,h⟩
   |ext i τ=>
    obtain⟨fC,rfl,h2⟩:=h2;obtain⟨y,h3,rfl⟩:=Ey h2;injection h with h;subst h;exact⟨.ext i fC.er,by simp only[ca.er,eC,h1],fC,rfl,h3⟩
   |ret τ=>
    obtain⟨fC,rfl,h2⟩:=h2;obtain⟨y,h3,rfl⟩:=Ey h2;injection h with h;subst h;exact⟨.ret fC.er,by simp only[ca.er,eC,h1],fC,rfl,h3⟩
  |.loop id sh kh cn c,ρ,σ,k,ex,kr,r,h=>by
   simp only[mV] at h;obtain⟨x0,h0,h⟩:=Oi h;simp only[ca.er,eC];have cI:∀(n:Nat) (x0:sh.L.D) (O5:St),O5.head sh.ke kh cn.er=some (sh.un x0).er->
       cH n (fun x=>mV aM T c (ρ:=sh.L.D⊕ρ) (sh.un x) (fun σ1=>Fj sh kh cn σ1 fun x'=>some (.inl x')) (fun i σ1=>zA (ex i σ1)) (fun σ1=>zA (kr σ1))) x0=some r->
       ∃o:ua,EM n (fun σ=>match σ.head sh.ke kh cn.er with|some σ1=>eC (df T) c.er σ1|none=>none) O5=some o/\Xv k ex kr r o:=by
    intro n;induction n with
    |zero=>intro x0 O5 h0 h;simp[cH] at h
    |succ n ih=>
     intro x0 O5 h0 h;simp only[cH] at h;simp only[EM,h0];split at h
     · rename_i x' hb;obtain⟨o,h1,h2⟩:=sq c hb;cases o with
       |gC τ=>
        obtain⟨fC,rfl,h2⟩:=h2;obtain⟨x2,h3,h4⟩:=Oi h2;injection h4 with h4;injection h4 with h4;subst h4;simp only[h1];exact ih x2 _ h3 h
       |ext i τ=>
        obtain⟨fC,rfl,h2⟩:=h2;obtain⟨y,_,e⟩:=Ey h2;cases e
       |ret τ=>
        obtain⟨fC,rfl,h2⟩:=h2;obtain⟨y,_,e⟩:=Ey h2;cases e
     · rename_i y hb;injection h with h;subst h;obtain⟨o,h1,h2⟩:=sq c hb;cases o with
       |gC τ=>
        obtain⟨fC,rfl,h2⟩:=h2;obtain⟨x2,h3,h4⟩:=Oi h2;injection h4 with h4;cases h4
       |ext i τ=>
        obtain⟨fC,rfl,h2⟩:=h2;obtain⟨y',h3,e⟩:=Ey h2;injection e with e;subst e;exact⟨.ext i fC.er,by simp only[h1],fC,rfl,h3⟩
       |ret τ=>
        obtain⟨fC,rfl,h2⟩:=h2;obtain⟨y',h3,e⟩:=Ey h2;injection e with e;subst e;exact⟨.ret fC.er,by simp only[h1],fC,rfl,h3⟩
     · cases h
   exact cI aM x0 σ.er h0 h
  |.exit id,ρ,σ,k,ex,kr,r,h=>⟨.ext id σ.er,rfl,σ,rfl,h⟩
  |.ret,ρ,σ,k,ex,kr,r,h=>⟨.ret σ.er,rfl,σ,rfl,h⟩
end Go.Am
