/- Am24, Am25, Am26, Am27, Am28, Am29, Am30, AmW, S0, S1, S2, S3, S4, S4c, S5: parts of the proof. No condition. -/
import Derived.Test.YtfhgbfllljehhaaAmJ
set_option linter.unusedVariables false
set_option linter.unusedSimpArgs false
open List renaming map_cons->co,length_map->wt,getElem?_eq_getElem->AI,getElem?_map->AN,mem_of_getElem?->AT,map->By,getElem?_eq_some_iff->GB,filterMap_cons->IN,eq_nil_of_length_eq_zero->IS,replicate->IT,length_append->zaa,mem_cons->zab,mem_map->zac,getElem?_eq_none->zaf,map_nil->zag,mem_append->zak,map_set->zao,append_nil->zap,all_cons->zar,getElem?_of_mem->zas,all_eq_true->zat,getElem_of_mem->zav,getElem?_cons_zero->zaw,map_take->zax,take_of_length_le->zay,getD_eq_getElem?_getD->zaD,map_map->zaE,map_replicate->zaF,pairwise_iff_getElem->zaG,getElem?_append_left->zaH,getElem?_eq_none_iff->zaI,take->zaJ,ext_getElem?->zaK,map_drop->zaP,drop_of_length_le->zaS,map_append->zaU,mem_cons_of_mem->zaV,drop_zero->zaW,getD_cons_zero->zaX,getElem?_ofFn->zaZ,all_nil->za3,length_cons->za4,drop_append->za5,cons_append->za6,length->za8,drop->zbb
open Option renaming map_some->so,map_none->OF,bind_some->zau,map->zaL,isSome_map->zaN,map_eq_some_iff->zaR
open Bool renaming and_eq_true->BY,false_eq_true->zae,not_eq_true'->zaM,and_true->zaQ,true_and->za9,or_false->zba
open Nat renaming eq_of_beq_eq_true->If,le_of_ble_eq_true->Pe,ble_eq_true_of_le->zad,le_refl->zah,add_sub_cancel_left->zai,ble->zaj,beq_refl->zaq,beq->zaz,sub_zero->zaA,le_add_right->zaB,zero_le->zaO,lt_or_gt_of_ne->zaY,add_zero->za1,zero_add->za2,sub_self->zbc
open Option.some renaming injEq->Pd
open Array renaming replicate->zal,getD_eq_getD_getElem?->zam,getElem?_append->zan
open List.cons renaming injEq->zaC
open Classical renaming choose_spec->zaT
open List.Pairwise renaming nil->za0
open Prod renaming ext->za7
namespace Go.Am
section
variable {B N:Nat} {E:Ex} {w0 w w':World} {G G':Gh} {h h':Nat->Option aA} {P:Program} {T:bj} {a:Act} {σ σ':St} {Q:Exit->Act->World->Prop}
theorem R.azi (r:R B E w0 N σ a w G) {n j:Nat} {cs:List aj} {y:aj} (hn:σ.h n=some (.box cs)) (hy:∀v,w.cell? (ad (G.g n).b ((G.g n).o+j))=some v->RC w G σ.h y v) (l:∀m,y.ref m->σ.used m=true): R B E w0 N (σ.fh n (.box (cs.set j y))) a w G:=by have H:=r.hr;have f:σ.h n≠none:=(by rw[hn];simp);obtain⟨C,M,u⟩:=H.box n cs hn;have x:aV G.g n (G.g n)=G.g:=NR _ _;have K:cm w G σ.h (fun n=>σ.used n=true) w ⟨G.Im,aV G.g n (G.g n)⟩ (aV σ.h n (some (.box (cs.set j y)))):=(by rw[x];refine⟨fun _ h=>h,fun _ _ _=>rfl,fun m _ hm=>⟨?_,rfl,rfl,rfl,rfl,rfl⟩,fun m e sz xs _ hm=>?_⟩;by_cases d:m=n;subst d;exact f;rwa[dJ _ _ _ _ d] at hm;by_cases d:m=n;subst d;rw[cX] at hm;cases hm;rw[dJ _ _ _ _ d] at hm;exact⟨⟨e,xs,hm⟩,fun k j pc J I=>⟨pc,J,rfl,I⟩⟩);have A:=H.put (w':=w) (used':=σ.used) (n:=n) (blk:=.box (cs.set j y)) (p:=G.g n) (fun _ _ _=>rfl) (zah _) (fun _ _ h=>h) (fun _ h=>h) (H.lc n f) (fun hl=>H.own n f hl) (fun hl m d hm L=>H.inj m n hm f d L hl) (fun hl m e sz xs d hm b hb=>H.live m e sz xs hm b hb n f hl) (fun cs' c m hb s hr=>by injection hb with hb;subst hb;rcases List.mem_or_eq_of_mem_set s with s|rfl;exact H.kq n cs c m hn s hr;exact l m hr) K (by refine⟨C,M,fun i c hi=>?_⟩;rw[List.getElem?_set] at hi;split at hi;rename_i D;subst D;split at hi;rename_i F;injection hi with hi;subst hi;obtain⟨v,q,t,z⟩:=u j cs[j] (AI F);exact⟨v,q,t,(hy v q).keep K l⟩;cases hi;obtain⟨v,q,t,z⟩:=u i c hi;exact⟨v,q,t,z.keep K fun m hm=>H.kq n cs c m hn (AT hi) hm⟩) (fun e m sz xs hb=>by cases hb) (fun e sz xs hb=>by cases hb) (fun e m sz xs hb=>by cases hb) (fun hl _ b ⟨m,e,mo,sz,xs,_,hm,hb⟩=>H.yt f hl hm hb);rw[x] at K A;exact r.step rfl (fun _ h=>h) K A r.fr
theorem R.np (r:R B E w0 N σ a w G) (c:Nat) (m:Mode):R B E w0 N (σ.np c m) a w G:=by unfold St.np;cases m with|live=>exact r|aS=>exact r|aQ=>simp only;split;rename_i u x xs hn;have hg:(⟨G.Im,aV G.g c (G.g c)⟩:Gh)=G:=(by have:aV G.g c (G.g c)=G.g:=(by funext q;rw[mR];split<;>simp[*]);rw[this]);have hr:=r.hr.row c u .aS x xs hn;have A:∀q b,aV σ.h c (some (.row u .aQ x xs)) q=some b->q≠c->σ.h q=some b:=fun q b d S=>(by rwa[dJ _ _ _ _ S] at d);have ne:∀q,aV σ.h c (some (.row u .aQ x xs)) q≠none->σ.h q≠none:=fun q d=>(by by_cases f:q=c;subst f;rw[hn];simp;rwa[dJ _ _ _ _ f] at d);have oO:∀q n s o l,aV σ.h c (some (.row u .aQ x xs)) q=some (.row n s o l)->s≠ .aQ->q≠c/\σ.h q=some (.row n s o l):=fun q n s o l d hm=>(by by_cases f:q=c;subst f;rw[cX] at d;injection d with d;injection d with _ d _ _;exact absurd d.symm hm;exact⟨f,A q _ d f⟩);have K:cm w G σ.h (fun q=>σ.used q=true) w G (aV σ.h c (some (.row u .aQ x xs))):= ⟨fun _ h=>h,fun _ _ _=>rfl,fun q _ d=>⟨ne q d,rfl,rfl,rfl,rfl,rfl⟩,fun q n o l _ d=>by obtain⟨F,C⟩:=oO q n .live o l d (by simp);exact⟨⟨n,l,C⟩,fun k j pc a b=>⟨pc,a,rfl,b⟩⟩⟩;have H:=r.hr;have T:HR B E w G (aV σ.h c (some (.row u .aQ x xs))) σ.used []:=(by refine⟨fun q d=>H.lc q (ne q d),fun q cs y p d=>?_,fun q cs d=>?_,fun q n s o l d=>?_,fun q d=>H.own q (ne q d),fun q t d z=>H.inj q t (ne q d) (ne t z),H.jX,H.tx, fun q t n s o l J m2 Q I d z hm D=>H.ji q t n s o l J m2 Q I (oO _ _ _ _ _ d hm).2 (oO _ _ _ _ _ z D).2 hm D, fun q n o l d b hb t z=>H.live q n o l (oO _ _ _ _ _ d (by simp)).2 b hb t (ne t z),(by intro i pc hi;simp at hi),(by intro i j pc eW b _ hi;simp at hi),(by intro i pc q n s o l b hi;simp at hi)⟩;have f:q≠c:=fun e=>(by subst e;rw[cX] at d;cases d);exact H.kq q cs y p (A q _ d f);have f:q≠c:=fun e=>(by subst e;rw[cX] at d;cases d);obtain⟨M,O,L⟩:=H.box q cs (A q _ d f);refine⟨M,O,fun j y hj=>?_⟩;obtain⟨v,U,V,P⟩:=L j y hj;exact⟨v,U,V,P.keep K fun p hp=>H.kq q cs y p (A q _ d f) (AT hj) hp⟩;by_cases f:q=c;subst f;rw[cX] at d;injection d with d;injection d with F C h3 h4;subst F C h3 h4;exact⟨hr.pos,hr.er,hr.nl,hr.f6,hr.room,fun b hb=>(hr.mode.1 b hb).1,fun _ h=>by cases h⟩;exact H.row q n s o l (A q _ d f));exact r.step rfl (fun _ h=>h) K T r.fr;exact r
theorem R.IW (r:R B E w0 N σ a w G) {x c:Nat} {m:Mode} (hx:(σ.bN x c).map (fun σ1=>σ1.np c m)=some σ'):∃G',R B E w0 N σ' a w G':=by rw[zaR] at hx;obtain⟨σ1,e,rfl⟩:=hx;obtain⟨G',b⟩:=r.bN e;exact⟨G',b.np c m⟩
theorem R.canon (r:R B E w0 N σ a w G) {x:Bool×Nat×Nat×Nat×Mode} (hx:σ.canon x=some σ'):∃G',R B E w0 N σ' a w G':=by obtain⟨b,n,j,c,m⟩:=x;have same:some σ=some σ'->∃G',R B E w0 N σ' a w G':=fun h=>(by injection h with h;subst h;exact⟨G,r⟩);cases b with|true=>simp only[St.canon] at hx;split at hx;rename_i cs hn;split at hx;exact r.IW hx;rename_i sz hj;split at hx;rename_i p;split at hx;rename_i σ1 e;injection hx with hx;subst hx;obtain⟨g,r1,t⟩:=r.agc p e;obtain⟨y,rfl⟩:=rD e;have f:σ.used n=true:=r.hr.lc n (by rw[hn];simp);have D:n≠c:=fun C=>(by subst C;rw[y] at f;cases f);have u:(aV σ.h c (some (.row true m sz []))) n=some (.box cs):=(by rw[dJ _ _ _ _ D];exact hn);refine⟨g,r1.azi u (fun v d=>?_) (fun q k=>?_)⟩;obtain⟨A,H,v2,F⟩:=(r1.hr.box n cs u).2.2 j _ hj;rw[H] at d;injection d with d;subst d;have l:A=.slice none 0 0:=F;subst l;exact t;have o:q=c:=k;subst o;exact cX _ _ _;cases hx;exact same hx;exact same hx;exact same hx|false=>simp only[St.canon] at hx;split at hx;exact r.IW hx;rename_i sz hj;split at hx;rename_i p;split at hx;rename_i σ1 e;injection hx with hx;subst hx;obtain⟨g,r1,t⟩:=r.agc p e;obtain⟨y,rfl⟩:=rD e;have d:=r1.env n;rw[show({σ with h:=aV σ.h c (some (.row true m sz [])),used:=aV σ.used c true}:St).env n=σ.env n from rfl,hj] at d;have z:a.tmps.getD n undef=.slice none 0 0:=(d.jp (by simp)).1;refine⟨g,r1.defers,r1.size,fun s=>?_,fun s q k=>?_,r1.hr,r1.fr,r1.nZ,r1.AS⟩;show RA w g _ (aV σ.env n _ s) _;by_cases hs:s=n;subst hs;rw[cX,z];exact RA.je rfl t;rw[dJ _ _ _ _ hs];exact r1.env s;have i:(aV σ.env n (.one (.sl c sz 0 0)) s).ref q:=k;by_cases hs:s=n;subst hs;rw[cX] at i;have o:q=c:=i;subst o;exact cX _ _ _;rw[dJ _ _ _ _ hs] at i;exact r1.t6 s q i;cases hx;exact same hx;exact same hx
theorem R.ye:∀{l:List (Bool×Nat×Nat×Nat×Mode)} {σ:St} {G:Gh},R B E w0 N σ a w G->σ.ye l=some σ'->∃G',R B E w0 N σ' a w G'
 |[],σ,G,r,hx=>by simp only[St.ye] at hx;injection hx with hx;subst hx;exact⟨G,r⟩
 |x::l,σ,G,r,hx=>by simp only[St.ye] at hx;split at hx;rename_i σ1 e;obtain⟨G1,r1⟩:=r.canon e;exact R.ye r1 hx;cases hx
theorem R.head (r:R B E w0 N σ a w G) {ke b:List Nat} {d:List (Bool×Nat×Nat×Nat×Mode)} (hx:σ.head ke b d=some σ'):∃G',R B E w0 N σ' a w G':=by unfold St.head at hx;split at hx;rename_i σ1 e;injection hx with hx;subst hx;obtain⟨c,r1⟩:=((r.lG ke b).lG ke b).ye e;exact⟨c,r1.lG ke b⟩;cases hx
def lO (P:Program) (N:Nat):Code->mn->Bool
 |c,.join _ _ _ mc=>lO P N c mc
 |.skip,.skip=>true
 |.region _ ops w4,.eH apS ms=>(w4==apS)&&ul P N ops ops.toList ms&&(!w4||OI ops.toList ms)
 |.region _ ops w4,.qR ps ms=>w4&&ul P N ops ops.toList ms&&OJ ps ops.toList ms
 |.seq x y,.seq mx my=>lO P N x mx&&lO P N y my
 |.cond c x y,.cond mc mx my=>c8 c mc&&lO P N x mx&&lO P N y my
 |.block id c,.block Yc mc=>(id==Yc)&&lO P N c mc
 |.loop c,.loop _ _ _ _ mc=>lO P N c mc
 |.exit id,.exit Yc=>id==Yc
 |.ret,.ret=>true
 |_,_=>false
def anR (B:Nat) (E:Ex) (w0:World) (N:Nat) (Q:Exit->Act->World->Prop):wN->Prop
 |.ij σ=>∀a w G,R B E w0 N σ a w G->Q .normal a w
 |.ext id σ=>∀a w G,R B E w0 N σ a w G->Q (.exit id) a w
 |.ret σ=>∀a w G,R B E w0 N σ a w G->Q .ret a w
theorem nB (f:q8 P T) (hm:P.follows .mixedOrders=true):∀(d:mn) {c:Code} {σ:St} {o:wN} {a:Act} {w:World} {G:Gh} {Q:Exit->Act->World->Prop}, lO P N c d=true->fm T d σ=some o->R B E w0 N σ a w G->anR B E w0 N Q o->c.wp P Q a w
 |.skip,c,σ,o,a,w,G,Q,b,hx,r,hQ=>by(cases c<;>simp only[lO] at b<;>first|cases b|skip);simp only[fm] at hx;injection hx with hx;subst hx;exact wp_skip (hQ _ _ _ r)
 |.eH w4 ms,c,σ,o,a,w,G,Q,b,hx,r,hQ=>by(cases c<;>simp only[lO] at b<;>first|cases b|skip);simp only[BY,Bool.or_eq_true,beq_iff_eq] at b;simp only[fm] at hx;split at hx;rename_i σ1 e;injection hx with hx;subst hx;exact azn f hm b.1.2 (fun hd=>b.2.resolve_left (by simp[hd])) e r hQ;cases hx
 |.qR ps ms,c,σ,o,a,w,G,Q,b,hx,r,hQ=>by(cases c<;>simp only[lO] at b<;>first|cases b|skip);simp only[BY] at b;obtain⟨⟨hd,m⟩,u⟩:=b;subst hd;simp only[fm] at hx;split at hx;rename_i p σ1 e;(cases hp:AR ps p with|true=>rw[hp] at hx;injection hx with hx;subst hx;exact azm f hm m u e hp r hQ|false=>rw[hp] at hx;cases hx);cases hx
 |.seq mx my,c,σ,o,a,w,G,Q,b,hx,r,hQ=>by(cases c<;>simp only[lO] at b<;>first|cases b|skip);simp only[BY] at b;simp only[fm] at hx;refine wp_seq ?_;cases e:fm T mx σ with|none=>rw[e] at hx;cases hx|some g=>rw[e] at hx;cases g with|ij σ1=>exact nB f hm mx b.1 e r fun a w G r1=>nB f hm my b.2 hx r1 hQ|ext i σ1=>injection hx with hx;subst hx;exact nB f hm mx b.1 e r hQ|ret σ1=>injection hx with hx;subst hx;exact nB f hm mx b.1 e r hQ
 |.cond d mx my,c,σ,o,a,w,G,Q,b,hx,r,hQ=>by(cases c<;>simp only[lO] at b<;>first|cases b|skip);simp only[BY] at b;simp only[fm] at hx;split at hx;rename_i t s;have l:=(r.ev b.1.1).1;rw[s] at l;refine wp_cond l.Ou ?_;(cases t with|true=>simp only[if_true] at hx⊢;exact nB f hm mx b.1.2 hx r hQ|false=>simp only[zae,if_false] at hx⊢;exact nB f hm my b.2 hx r hQ);cases hx
 |.block id d,c,σ,o,a,w,G,Q,b,hx,r,hQ=>by(cases c<;>simp only[lO] at b<;>first|cases b|skip);simp only[BY,beq_iff_eq] at b;obtain⟨rfl,b⟩:=b;simp only[fm] at hx;refine wp_block ?_;cases e:fm T d σ with|none=>rw[e] at hx;cases hx|some g=>rw[e] at hx;refine nB f hm d b e r ?_;cases g with|ij σ1=>injection hx with hx;subst hx;exact hQ|ret σ1=>injection hx with hx;subst hx;exact hQ|ext i σ1=>simp only at hx;intro a w G r1;simp only[Exit.inBlock];split at hx;rename_i hi;injection hx with hx;subst hx;rw[ah hi];exact hQ a w G r1;rename_i hi;injection hx with hx;subst hx;rw[ak hi];exact hQ a w G r1
 |.join ke kh cn d,c,σ,o,a,w,G,Q,b,hx,r,hQ=>by have b:lO P N c d=true:=(by cases c<;>exact b);simp only[fm] at hx;cases e:fm T d σ with|none=>rw[e] at hx;cases hx|some g=>rw[e] at hx;cases g with|ij σ1=>simp only at hx;split at hx;rename_i σh h;injection hx with hx;subst hx;exact nB f hm d b e r fun a w G r1=>(by obtain⟨G',k⟩:=r1.head h;exact hQ a w G' k);cases hx|ext i σ1=>injection hx with hx;subst hx;exact nB f hm d b e r hQ|ret σ1=>injection hx with hx;subst hx;exact nB f hm d b e r hQ
 |.loop id ke kh cn d,c,σ,o,a,w,G,Q,b,hx,r,hQ=>by(cases c<;>simp only[lO] at b<;>first|cases b|skip);rename_i c;simp only[fm] at hx;refine wp_loop_rounds aP ?_;revert hx r;generalize aP=n;revert σ a w G;induction n with|zero=>intro σ a w G hx r;simp[Iq] at hx|succ n q=>intro σ a w G hx r;simp only[Iq] at hx;rw[rounds_succ];cases h:σ.head ke kh cn with|none=>rw[h] at hx;cases hx|some σh=>rw[h] at hx;obtain⟨G',k⟩:=r.head h;cases e:fm T d σh with|none=>simp only[e] at hx;cases hx|some g=>simp only[e] at hx;refine nB f hm d b e k ?_;cases g with|ij σ1=>intro a w G r1;exact q _ _ _ _ hx r1|ext i σ1=>injection hx with hx;subst hx;exact hQ|ret σ1=>injection hx with hx;subst hx;exact hQ
 |.exit id,c,σ,o,a,w,G,Q,b,hx,r,hQ=>by(cases c<;>simp only[lO] at b<;>first|cases b|skip);have j:=eq_of_beq b;subst j;simp only[fm] at hx;injection hx with hx;subst hx;exact wp_exit (hQ _ _ _ r)
 |.ret,c,σ,o,a,w,G,Q,b,hx,r,hQ=>by(cases c<;>simp only[lO] at b<;>first|cases b|skip);simp only[fm] at hx;injection hx with hx;subst hx;exact wp_ret (hQ _ _ _ r)
end
inductive bI where
 |tmp (t:Nat)
 |cell (t sz:Nat) (ag:Bool)
def qv (P:Program):List ResultVar->List bI->Bool
 |[],[]=>true
 |.tmp t::rs,.tmp t'::ms=>(t==t')&&qv P rs ms
 |.cell a ty::rs,.cell a' sz ag::ms=>(a==a')&&GY P ty ag sz&&qv P rs ms
 |_,_=>false
def St.tQ (σ:St):List bI->Option (List au)
 |[]=>some []
 |.tmp t::ms=>match σ.tQ ms with
  |some vs=>some (σ.env t::vs)
  |none=>none
 |.cell t sz ag::ms=>match σ.env t with
  |.one p=>match loadAt σ.h p sz,σ.tQ ms with
   |some cs,some vs=>some (rT ag cs::vs)
   |_,_=>none
  |_=>none
def oN (h:Nat->Option aA):aj->Option (C×List Nat)
 |.c x=>if x.gx=true then some (x,[]) else none
 |.nil sz=>if 0<sz then some (.list sz [],[]) else none
 |.sl n sz 0 len=>match h n with
  |some (.row true m rs xs)=>if rs=sz/\m≠ .aQ/\len<=xs.length then some (.list sz (xs.take len),[n]) else none
  |_=>none
 |_=>none
def v9 (h:Nat->Option aA):List aj->Option (List C×List Nat)
 |[]=>some ([],[])
 |c::cs=>match oN h c,v9 h cs with
  |some (x,ns),some (xs,oK)=>some (x::xs,ns++oK)
  |_,_=>none
def sO (h:Nat->Option aA):List au->Option (List Dv×List Nat)
 |[]=>some ([],[])
 |v::vs=>match v.cells? with
  |some (ag,cs)=>match v9 h cs,sO h vs with
   |some (xs,ns),some (ds,oK)=>some ((if ag=true then(K.agg,xs) else(K.one,xs))::ds,ns++oK)
   |_,_=>none
  |none=>none
def St.v8 (σ:St) (ms:List bI):Option (List Dv):=
 match σ.tQ ms with
 |some vs=>match sO σ.h vs with
  |some (ds,ns)=>if ns.Nodup then some ds else none
  |none=>none
 |none=>none
section
variable {B N:Nat} {E:Ex} {w0 w w':World} {G G':Gh} {h h':Nat->Option aA} {used:Nat->Bool} {P:Program} {T:bj} {a:Act} {σ σ':St}
def rj (G:Gh) (n b:Nat):Prop:=((G.g n).nl=false/\b=(G.g n).b)\/bF b (G.g n).px
theorem HR.afc (H:HR B E w G h used []) {n c:Nat} (r:n≠c) {a s:Bool} {m e:Mode} {sz j:Nat} {xs o:List (List C)} (i:h n=some (.row a m sz xs)) (f:h c=some (.row s e j o)) (hm:m≠ .aQ) (l:e≠ .aQ) {b:Nat} (hb:rj G n b):¬rj G c b:=by have v:h n≠none:=(by rw[i];simp);have x:h c≠none:=(by rw[f];simp);have own:∀{p q:Nat} {a:Bool} {m:Mode} {sz:Nat} {xs:List (List C)},h p≠none->h q=some (.row a m sz xs)->m≠ .aQ->(G.g p).nl=false->¬bF (G.g p).b (G.g q).px:=(by intro p q a m sz xs hp k hm hl t;have y:=(H.row q a m sz xs k).mode;cases m with|aQ=>exact hm rfl|aS=>exact(H.own p hp hl).1 (y.1 _ t).1|live=>exact H.live q a sz xs k _ t p hp hl rfl);rintro(⟨l2,rfl⟩|u);rcases hb with⟨l1,d⟩|d;exact H.inj n c v x r l1 l2 d.symm;exact own x i hm l2 d;rcases hb with⟨l1,rfl⟩|d;exact own v f l l1 u;exact H.ji n c a m sz xs s e j o i f hm l r b d u
structure abS (B:Nat) (w:World) (G:Gh) (h:Nat->Option aA) (ns:List Nat) (pc:PC):Prop where
 hZ:Good w pc/\Sep pc/\Kc w pc
 new:∀b,nu b pc->(B<=b/\fA w b)/\∃n∈ns,rj G n b
def zH (h:Nat->Option aA) (ns:List Nat):Prop:=∀n∈ns,∃gr m sz xs,h n=some (.row gr m sz xs)/\m≠ .aQ
theorem HR.oN (H:HR B Ex.no w G h used []) {c:aj} {x:C} {ns:List Nat} {v:Value} (hx:oN h c=some (x,ns)) (E:RC w G h c v): ∃pc:PC,pc.er=x/\pc.val=v/\abS B w G h ns pc/\zH h ns/\∀n sz len D m f xs,c=.sl n sz 0 len->h n=some (.row D m f xs)->∃x0 cap,pc=.list f x0 cap ((G.g n).px.take len):=by have K:∀pc:PC,(∀sz a cap xs,pc≠ .list sz a cap xs)->∀b,¬nu b pc:=(by intro pc hp b hb;rcases hb with hb|⟨sz,o,cap,xs,rfl,_⟩;(cases hb with|here sz o cap xs h=>exact hp _ _ _ _ rfl|there sz a cap xs k j c s r=>exact hp _ _ _ _ rfl);exact hp _ _ _ _ rfl);cases c with|c y=>simp only[Am.oN] at hx;split at hx;rename_i hs;injection hx with hx;injection hx with s r;subst s r;obtain⟨pc,p1,p2,p3,p4⟩:=E;have Y:∀b,¬nu b pc:=K pc (by rintro sz a cap xs rfl;rw[<-p1] at hs;simp[PC.fK,C.gx] at hs);have xr:Kc w pc:=(by cases pc with|list sz a cap xs=>rw[<-p1] at hs;simp[PC.fK,C.gx] at hs|_=>trivial);exact⟨pc,p1,p2,⟨⟨p3,(Sep.lE (by rw[p1];exact hs)).1,xr⟩,fun b hb=>absurd hb (Y b)⟩,(fun n hn=>by simp at hn),fun n sz len D m f xs e=>by cases e⟩;cases hx|nil sz=>simp only[Am.oN] at hx;split at hx;rename_i R;injection hx with hx;injection hx with s r;subst s r;have dH:v=.slice none 0 0:=E;subst dH;have F:Sep (.list sz none 0 []):=(by refine .list _ _ _ _ ?_ ?_ ?_;rintro k j c ⟨e,d,_⟩;simp at d;rintro b o k j c _ ⟨e,d,_⟩;simp at d;rintro k j c k' j' c' b ⟨e,d,_⟩;simp at d);refine⟨.list sz none 0 [],by simp[PC.fK],rfl,⟨⟨.nil _ _ _ R,F,R,by simp,.inl rfl⟩,fun b hb=>?_⟩,(fun n hn=>by simp at hn),fun n sz len D m f xs e=>by cases e⟩;rcases hb with hb|⟨_,_,_,_,hb,I⟩;rw[bD.pq] at hb;rcases hb with⟨hb,_⟩|⟨k,j,c,⟨e,d,_⟩,_⟩;exact absurd rfl hb;simp at d;cases hb;cases hx|sl n sz lo len=>(cases lo with|succ lo=>simp[Am.oN] at hx|zero=>simp only[Am.oN] at hx;split at hx;rename_i m f xs hn;split at hx;rename_i eu;obtain⟨rfl,hm,hl⟩:=eu;injection hx with hx;injection hx with s r;subst s r;have z:h n≠none:=(by rw[hn];simp);have hr:=H.row n true m f xs hn;have hs:kY (G.g n) f 0 len v:=E z;obtain⟨a1,a2,t,O⟩:=Nw hr hs (by omega);have uK:(∀b,bF b (G.g n).px->fA w b/\B<=b)/\lK (G.g n).px/\(∀b,bF b (G.g n).px->(G.g n).nl=false->b≠(G.g n).b):=(by have l:=hr.mode;cases m with|aQ=>exact absurd rfl hm|aS=>exact⟨fun b hb=>⟨(l.1 b hb).2.1,(l.1 b hb).2.2.resolve_right id⟩,l.2,fun b hb hl gE=>(H.own n z hl).1 (gE▸(l.1 b hb).1)⟩|live=>exact⟨fun b hb=>⟨(l.1 b hb).2.1,(l.1 b hb).2.2.resolve_right id⟩,l.2,fun b hb hl=>H.live n true f xs hn b hb n z hl⟩);obtain⟨P,o2,W⟩:=uK;refine⟨n7 (G.g n) f 0 len v,by simpa using a1,a2,?_,fun q S=>?_,fun n' ba Mt cd m' u7 aH L p=>?_⟩;rcases hs with⟨i,rfl,_,rfl⟩|⟨i,J,rfl,lV,M⟩;simp only[n7] at t⊢;have hz:(zaJ 0 (zbb 0 (G.g n).px))=[]:=(by simp);have Oy:=(hr.nl i).2 rfl;rw[hz,Oy] at t⊢;have F:Sep (.list f (G.g n).na 0 []):=(by refine .list _ _ _ _ ?_ ?_ ?_;rintro k j c ⟨e,d,_⟩;simp at d;rintro b o k j c _ ⟨e,d,_⟩;simp at d;rintro k j c k' j' c' b ⟨e,d,_⟩;simp at d);refine⟨⟨t,F,hr.pos,by simp,.inl rfl⟩,fun b hb=>?_⟩;rcases hb with hb|⟨_,_,_,_,hb,I⟩;rw[bD.pq] at hb;rcases hb with⟨hb,_⟩|⟨k,j,c,⟨e,d,_⟩,_⟩;exact absurd rfl hb;simp at d;injection hb with _ _ hb _;exact absurd hb.symm I;obtain⟨r2,cur,e,r3,X⟩:=hr.room i rfl;have Z:=M (.inr rfl);have A:J=some (ad (G.g n).b (G.g n).o):=(by rw[Z];simp);subst A;simp only[n7,zaA] at t O⊢;have T:=o2.sub 0 len;have Q:∀k j c,At ((zbb 0 (G.g n).px).take len) k j c->At (G.g n).px k j c:=fun k j c u=>(by have:=(ug u).1;simpa using this);refine⟨⟨t,.list _ _ _ _ T.1 (fun b o k j c N u hb=>?_) T.2,hr.pos,by simp;omega,.inr ⟨_,_,cur,e,rfl,r3,X,r2,fun k j c u hb=>?_⟩⟩,fun b hb=>?_⟩;injection N with N;exact W b ⟨_,_,_,Q _ _ _ u,hb⟩ i (q9 N).1.symm;exact W _ ⟨_,_,_,Q _ _ _ u,hb⟩ i rfl;have U:rj G n b:=(by rcases hb with hb|⟨_,_,_,_,hb,I⟩;exact O b hb;injection hb with _ hb _ _;injection hb with hb;exact .inl ⟨i,(q9 hb).1.symm⟩);refine⟨?_,n,by simp,U⟩;rcases U with⟨_,rfl⟩|V;exact⟨((H.own n z i).2.1).resolve_right id,(hr.f6 i).1⟩;exact⟨(P b V).2,(P b V).1⟩;simp at S;subst S;exact⟨_,_,_,_,hn,hm⟩;injection L with L _ _ e3;subst L e3;rw[hn] at p;injection p with p;injection p with _ _ p _;subst p;rcases hs with⟨_,rfl,_,_⟩|⟨_,a',rfl,_,_⟩;exact⟨_,_,by simp only[n7,zaW];rfl⟩;exact⟨_,_,by simp only[n7,zaW];rfl⟩;cases hx;cases hx)|ptr _ _ _ _=>simp[Am.oN] at hx|dN _ _=>simp[Am.oN] at hx|dh _ _ _ _ _ _=>simp[Am.oN] at hx|cF _ _ _ _ _ _=>simp[Am.oN] at hx|fn _ _=>simp[Am.oN] at hx|dU _ _ _ _ _ _=>simp[Am.oN] at hx|bZ=>simp[Am.oN] at hx
structure x7 (B:Nat) (w:World) (G:Gh) (h:Nat->Option aA) (ns:List Nat) (ps:List PC):Prop where
 each:∀pc∈ps,abS B w G h ns pc
 sb:ns.Nodup->ps.Pairwise fun p q=>∀b,nu b p->¬nu b q
theorem x7.append (H:HR B Ex.no w G h used []) {ns e:List Nat} {ps d:List PC} (i:x7 B w G h ns ps) (f:x7 B w G h e d) (s:zH h ns) (r:zH h e):x7 B w G h (ns++e) (ps++d):=by refine⟨fun pc o=>?_,fun hd=>?_⟩;rcases zak.1 o with hp|hp;obtain⟨g,n⟩:=i.each pc hp;exact⟨g,fun b hb=>⟨(n b hb).1,by obtain⟨k,a,c⟩:=(n b hb).2;exact⟨k,by simp[a],c⟩⟩⟩;obtain⟨g,n⟩:=f.each pc hp;exact⟨g,fun b hb=>⟨(n b hb).1,by obtain⟨k,a,c⟩:=(n b hb).2;exact⟨k,by simp[a],c⟩⟩⟩;rw[List.nodup_append] at hd;rw[List.pairwise_append];refine⟨i.sb hd.1,f.sb hd.2.1,fun p hp q l b hb t=>?_⟩;obtain⟨k,a,c⟩:=((i.each p hp).new b hb).2;obtain⟨k',j,m⟩:=((f.each q l).new b t).2;obtain⟨_,_,_,_,u,m1⟩:=s k a;obtain⟨_,_,_,_,v,m2⟩:=r k' j;exact H.afc (hd.2.2 k a k' j) u v m1 m2 c m
theorem zH.append {ns a:List Nat} (b:zH h ns) (c:zH h a):zH h (ns++a):=fun n hn=>(zak.1 hn).elim (b n) (c n)
theorem HR.v9 (H:HR B Ex.no w G h used []):∀{cs:List aj} {xs:List C} {ns:List Nat} {vs:List Value},v9 h cs=some (xs,ns)->ed w G h cs vs->
  ∃b:List PC,b.map PC.er=xs/\b.map PC.val=vs/\x7 B w G h ns b/\zH h ns
 |[],xs,ns,vs,hx,hc=>by
  simp only[Am.v9] at hx;injection hx with hx;injection hx with e d;subst e d;have:vs=[]:=IS (by simpa using hc.1);subst this;exact⟨[],rfl,rfl,⟨by simp,fun _=>za0⟩,fun n hn=>by simp at hn⟩
 |c::cs,xs,ns,vs,hx,hc=>by
  simp only[Am.v9] at hx;split at hx
  ·rename_i x f aH ns2 z A;injection hx with hx;injection hx with e d;subst e d;obtain⟨a,k⟩:=hc;match vs,a with
   |v::vs,a=>
    obtain⟨pc,r,t,p,i,_⟩:=H.oN z (k 0 c v rfl rfl).2;obtain⟨b,o,y,s,m⟩:=H.v9 A (cs:=cs) (vs:=vs) ⟨by simpa using a,fun j c u e d=>k (j+1) c u e d⟩;have g:x7 B w G h f [pc]:=⟨fun q l=>by simp at l;subst l;exact p,fun _=>by simp⟩;exact⟨pc::b,by simp[r,o],by simp[t,y],x7.append H g s i m,i.append m⟩
  ·cases hx
theorem HR.sO (H:HR B Ex.no w G h used []):∀{xs:List au} {ds:List Dv} {ns:List Nat} {vs:List Value},sO h xs=some (ds,ns)->vs.length=xs.length->
  (∀(j:Nat) (x:au) (v:Value),xs[j]? =some x->vs[j]? =some v->RA w G h x v)->
  ∃b:List (K×List PC),b.map (fun p=>(p.1,p.2.map PC.er))=ds/\b.map wa=vs/\(∀p∈b,p.1≠ .ptr/\(p.1=.one->p.2.length=1))/\x7 B w G h ns (b.flatMap (·.2))/\zH h ns
 |[],ds,ns,vs,hx,hl,hc=>by
  simp only[Am.sO] at hx;injection hx with hx;injection hx with f d;subst f d;have:vs=[]:=IS (by simpa using hl);subst this;exact⟨[],rfl,rfl,by simp,⟨by simp,fun _=>za0⟩,fun n hn=>by simp at hn⟩
 |x::xs,ds,ns,vs,hx,hl,hc=>by
  simp only[Am.sO] at hx;split at hx
  ·rename_i ag cs a;split at hx
   ·rename_i ys ns1 zU ns2 F I;injection hx with hx;injection hx with f d;subst f d;match vs,hl with
    |v::vs,hl=>
     obtain⟨m,t,g,s,i⟩:=H.v9 F ((hc 0 x v rfl rfl).cells a);obtain⟨b,r,A,u,y,k⟩:=H.sO I (xs:=xs) (vs:=vs) (by simpa using hl) (fun j x v f d=>hc (j+1) x v f d);have z:=hc 0 x v rfl rfl;cases ag with
     |true=>
      have q:wa (K.agg,m)=v:=by
       cases x with
       |one c=>cases c<;>simp[au.cells?] at a
       |agg cs'=>
        obtain⟨us,e,_⟩:∃us:List Value,v=.agg us.toArray/\ed w G h cs' us:=z;subst e;simp only[wa,g];simp[Value.cells]
       |ct l=>simp[au.cells?] at a
      refine⟨(K.agg,m)::b,by simp[t,r],by simp[q,A],fun p hp=>?_,?_,i.append k⟩
      ·cases hp with
       |head=>exact⟨by simp,fun e=>by cases e⟩
       |tail _ hp=>exact u p hp
      ·simpa using x7.append H s y i k
     |false=>
      have E:∃c,x=.one c/\cs=[c]:=by
       cases x with
       |one c=>cases c<;>simp[au.cells?] at a<;>exact⟨_,rfl,a.symm⟩
       |agg cs'=>simp[au.cells?] at a
       |ct l=>simp[au.cells?] at a
      obtain⟨c,rfl,rfl⟩:=E;have D:c≠ .bZ:=by rintro rfl;simp[au.cells?] at a
      have o:=(z.jp D).2;have C:v.cells.toList=[v]:=by cases v<;>first|rfl|(simp[Value.oneCell'] at o)
      rw[C] at g;match m,g with
      |[pc],g=>
       have q:wa (K.one,[pc])=v:=by simpa[wa] using g
       refine⟨(K.one,[pc])::b,by simp[<-t,r],by simp[q,A],fun p hp=>?_,?_,i.append k⟩
       ·cases hp with
        |head=>exact⟨by simp,fun _=>rfl⟩
        |tail _ hp=>exact u p hp
       ·simpa using x7.append H s y i k
   ·cases hx
  ·cases hx
end
def BT:Dv->au
 |(.one,[x])=>.one (.c x)
 |(.one,_)=>.one .bZ
 |(.agg,xs)=>.agg (xs.map .c)
 |(.ptr,xs)=>.one (.dN xs 0)
def yS:Nat->List Dv->(Nat->au)
 |_,[]=>B3
 |k,d::ds=>aV (yS (k+1) ds) k (BT d)
def L7 (ds:List Dv):St:={env:=yS 0 ds,h:=Hm,used:=fun n=>zaj aL n}
def Rk (T:bj) (mc:mn) (aC:List bI) (ds:List Dv):Option (List Dv):=
 match fm T mc (L7 ds) with
 |some (.ij σ)=>σ.v8 aC
 |some (.ret σ)=>σ.v8 aC
 |_=>none
section
variable {B N:Nat} {E:Ex} {w0 w w':World} {G G':Gh} {h h':Nat->Option aA} {used:Nat->Bool} {P:Program} {T:bj} {a:Act} {σ σ':St} {Q:Exit->Act->World->Prop}
theorem Yh:∀(ds:List Dv) (k n:Nat),yS k ds n=if k<=n then(match ds[n - k]? with|some d=>BT d|none=>.one .bZ) else .one .bZ
 |[],k,n=>by simp[yS,B3]
 |d::ds,k,n=>by simp only[yS,mR,Yh ds];by_cases h:n=k;subst h;simp;by_cases b:k<=n;have a:k+1<=n:=(by omega);have c:n - k=(n - (k+1))+1:=(by omega);simp[h,b,a,c];have a:¬k+1<=n:=(by omega);simp[h,b,a]
def Wx (w:World):Gh:=⟨fun b=>b<w.heap.size,fun _=>default⟩
theorem aod {d:Dv} {v:Value} (hd:Gb w d v):RA w (Wx w) Hm (BT d) v:=by
 have cells:∀{a:List PC},(∀pc∈a,Good w pc)->ed w (Wx w) Hm ((a.map PC.er).map .c) (a.map PC.val):=by
  intro a i;refine⟨by simp,fun j c u hj h=>?_⟩;simp only[AN,zaE] at hj h;cases hp:a[j]? with
  |none=>rw[hp] at hj;cases hj
  |some pc=>
   rw[hp] at hj h;simp at hj h;subst hj;subst h;have g:=i pc (AT hp);exact⟨PC.od pc,pc,rfl,rfl,g,fun b hb=>g.lt hb⟩
 obtain⟨k,xs⟩:=d;cases k with
 |one=>
  obtain⟨a,p1,f,e⟩:=hd;have p1:a.map PC.er=xs:=p1;subst p1;match a,e with
  |[pc],e=>
   simp at e;subst e;exact RA.je (PC.od pc) ⟨pc,rfl,rfl,f pc (by simp),fun b hb=>(f pc (by simp)).lt hb⟩
 |agg=>
  obtain⟨a,p1,f,e⟩:=hd;have p1:a.map PC.er=xs:=p1;subst p1;exact⟨_,e,cells f⟩
 |ptr=>
  obtain⟨a,b,o,p1,f,e,p4⟩:=hd;have p1:a.map PC.er=xs:=p1;subst p1 f;exact RA.je rfl ⟨b,o,a,by simp,rfl,e,fun j c hj=>⟨(p4 j c hj).1,(p4 j c hj).2,fun b' l=>(p4 j c hj).2.lt l⟩⟩
theorem aoe {d:Dv} {m:Nat}:¬(BT d).ref m:=by
 obtain⟨k,xs⟩:=d;cases k with
 |one=>match xs with
  |[]=>exact id
  |[x]=>exact id
  |_::_::_=>exact id
 |agg=>
  rintro⟨c,a,h⟩;obtain⟨y,_,rfl⟩:=zac.1 a;exact h
 |ptr=>exact id
theorem R.init {ds:List Dv} {vals:List Value} (ha:Jz w ds vals) (hN:ds.length<=N): R w.heap.size Ex.no w N (L7 ds) {tmps:=vals.toArray++zal (N - vals.toArray.size) undef,defers:=[]} w (Wx w):=by obtain⟨hl,k⟩:=ha;refine⟨rfl,by simp;omega,fun s=>?_,fun s n hn=>?_,?_,Fr.refl _ _ _ (zah _),fun n p b hp=>(by cases hp),fun n hn=>zad hn⟩;show RA w _ Hm (yS 0 ds s) _;rw[Yh];simp only[zaO,if_true,zaA];(cases hs:ds[s]? with|none=>exact Or.inl rfl|some d=>have g:s<vals.length:=(by rw[hl];exact(GB.1 hs).1);have o:vals[s]? =some vals[s]:=AI g;have:(vals.toArray++zal (N - vals.toArray.size) undef).getD s undef=vals[s]:=(by simp[zam,zan,g]);rw[this];exact aod (k s d _ hs o));have e:(yS 0 ds s).ref n:=hn;rw[Yh] at e;simp only[zaO,if_true,zaA] at e;(cases hs:ds[s]? with|none=>rw[hs] at e;exact absurd e id|some d=>rw[hs] at e;exact absurd e aoe);have a:∀n,(L7 ds).h n=none:=fun n=>rfl;refine⟨fun n hn=>absurd (a n) hn,fun m cs c n hm=>?_,fun n cs hn=>?_,fun n f m sz xs hn=>?_,fun n hn=>absurd (a n) hn,fun n l hn=>absurd (a n) hn,fun b hb=>hb,fun b _=>.inr (.inr trivial), fun n l f m sz xs cd m' ba aH hn=>?_,fun n f sz xs hn=>?_,?_,?_,?_⟩;rw[a] at hm;cases hm;rw[a] at hn;cases hn;rw[a] at hn;cases hn;rw[a] at hn;cases hn;rw[a] at hn;cases hn;intro i pc hi;simp at hi;intro i j pc eW b _ hi;simp at hi;intro i pc n f m sz xs b hi;simp at hi
theorem azS (r:R B E w0 N σ a w G) {t sz:Nat} {ag:Bool} {ty:TypeId} {p:aj} {cs:List aj} (e:GY P ty ag sz=true) (hp:σ.env t=.one p) (hx:loadAt σ.h p sz=some cs):
  ∃v,(AZ a.tmps (.cell t ty)).run P w=.ok v w/\RA w G σ.h (rT ag cs) v:=by
 have s:=r.env t;have q:=r.t6 t;rw[hp] at s q;have C:p≠ .bZ:=by rintro rfl;simp[Am.loadAt] at hx
 obtain⟨b,of,vs,l,y,o,f,h5⟩:=r.hr.loadAt hx (s.jp C).1 (fun m hm=>q m hm);have D:∀n:Nat,n=vs.length->(loadCells (ad b of) n).run P w=.ok vs.toArray w:=fun n hn=>by
  subst hn;exact run_loadCells_list w (ad b of) vs (fun j u hj=>by rw[ud];exact o j u hj)
 unfold GY at e;cases hu:P.underlying ty with
 |none=>rw[hu] at e;simp at e
 |some d=>
  cases hi:P.info? ty with
  |none=>rw[hu,hi] at e;cases d<;>simp at e
  |some i=>
   rw[hu,hi] at e;have A:(ag=true/\i.size=sz/\(isAgg ty).run P w=.ok true w)\/(ag=false/\sz=1/\(isAgg ty).run P w=.ok false w):=by
    cases d<;>simp at e<;>simp[isAgg,run_underlying hu,e]
   rcases A with⟨rfl,x,g⟩|⟨rfl,x,g⟩
   ·refine⟨.agg vs.toArray,?_,vs,rfl,f⟩;simp[AZ,l,loadVar,asAddr,g,sizeOf,typeInfo,hi,D i.size (by omega)]
   ·subst x;match vs,y with
    |[u],_=>
     have z:∃c,cs=[c]:=by
      have:=f.1;match cs,this with
      |[c],_=>exact⟨c,rfl⟩
     obtain⟨c,rfl⟩:=z;have k:=o 0 u rfl;simp only[za1] at k;exact⟨u,by simp[AZ,l,loadVar,asAddr,g,k],.inr f⟩
theorem Nf (r:R B E w0 N σ a w G):∀{f:List ResultVar} {ms:List bI} {vs:List au},qv P f ms=true->σ.tQ ms=some vs-> ∃us:List Value,(f.mapM (AZ a.tmps)).run P w=.ok us w/\us.length=vs.length/\us.length=f.length/\∀(j:Nat) (x:au) (v:Value),vs[j]? =some x->us[j]? =some v->RA w G σ.h x v
 |[],[],vs,b,hx=>by simp only[St.tQ] at hx;injection hx with hx;subst hx;exact⟨[],by simp,rfl,rfl,by simp⟩
 |.tmp t::f,.tmp t'::ms,vs,b,hx=>by simp only[qv,BY,beq_iff_eq] at b;obtain⟨rfl,b⟩:=b;simp only[St.tQ] at hx;split at hx;rename_i g e;injection hx with hx;subst hx;obtain⟨us,k,u2,c,i⟩:=Nf r b e;refine⟨a.tmps.getD t undef::us,by simp[AZ,k],by simp[u2],by simp[c],fun j x v hj d=>?_⟩;(cases j with|zero=>simp only[zaw,Pd] at hj d;subst hj;subst d;exact r.env t|succ j=>exact i j x v (by simpa using hj) (by simpa using d));cases hx
 |.cell t ty::f,.cell t' sz ag::ms,vs,b,hx=>by simp only[qv,BY,beq_iff_eq] at b;obtain⟨⟨rfl,l⟩,b⟩:=b;simp only[St.tQ] at hx;split at hx;rename_i p hp;split at hx;rename_i cs g q s;injection hx with hx;subst hx;obtain⟨us,k,u2,c,i⟩:=Nf r b s;obtain⟨m,n,o⟩:=azS r l hp q;refine⟨m::us,by simp[n,k],by simp[u2],by simp[c],fun j x v hj d=>?_⟩;(cases j with|zero=>simp only[zaw,Pd] at hj d;subst hj;subst d;exact o|succ j=>exact i j x v (by simpa using hj) (by simpa using d));cases hx;cases hx
 |[],_::_,_,b,_=>by simp[qv] at b
 |.tmp _::_,[],_,b,_=>by simp[qv] at b
 |.cell _ _::_,[],_,b,_=>by simp[qv] at b
 |.tmp _::_,.cell _ _ _::_,_,b,_=>by simp[qv] at b
 |.cell _ _::_,.tmp _::_,_,b,_=>by simp[qv] at b
theorem ayC {a:List (K×List PC)}:IG (a.map wa)=zr a:=by
 match a with
 |[]=>rfl
 |[p]=>rfl
 |p::q::a=>rfl
theorem ZL (r:R B Ex.no w0 N σ a w G) {fn:Func} {ms:List bI} {ds:List Dv} (m:qv P fn.results.toList ms=true) (hx:σ.v8 ms=some ds): ∃c:List (K×List PC),c.map (fun p=>(p.1,p.2.map PC.er))=ds/\(results fn a.tmps).run P w=.ok (zr c) w/\(∀p∈c,p.1≠ .ptr/\(p.1=.one->p.2.length=1))/\ BO w B (c.flatMap (·.2)):=by unfold St.v8 at hx;split at hx;rename_i vs u;split at hx;rename_i zU ns v;split at hx;rename_i o;injection hx with hx;subst hx;obtain⟨us,q,u2,_,l⟩:=Nf r m u;obtain⟨c,p1,k,s,p4,p5⟩:=r.hr.sO v u2 l;refine⟨c,p1,?_,s,⟨fun pc e=>(p4.each pc e).hZ,fun pc e b hb=>((p4.each pc e).new b hb).1,fun i j pc eW b h hi hj hb=>?_⟩⟩;rw[Rq fn a.tmps q,<-k,ayC];have hp:=p4.sb o;rw[zaG] at hp;obtain⟨f,n⟩:=GB.1 hi;obtain⟨lj,g⟩:=GB.1 hj;subst n;subst g;rcases zaY h with d|d;exact hp i j f lj d b hb;exact fun t=>hp j i lj f d b t hb;cases hx;cases hx;cases hx
theorem ay5 (i:q8 P T) (hm:P.follows .mixedOrders=true) {f:FuncId} {fn:Func} {c:Code} {h:mn} {ms:List bI} {M:List Dv->Option (List Dv)} (m:P.funcs[f]? =some fn) (hb:fn.body=some c) (j:lO P fn.ntmps c h=true) (hr:qv P fn.results.toList ms=true) (o:∀ds d,M ds=some d->ds.length<=fn.ntmps/\Rk T h ms ds=some d):dV P f M:=by intro ds d l w vals ha;obtain⟨n,g⟩:=o ds d l;refine calls_of_wp m hb ?_;have k:=R.init (N:=fn.ntmps) ha n;unfold Rk at g;have iP:∀{σ:St} {a:Act} {w':World} {G:Gh},σ.v8 ms=some d->R w.heap.size Ex.no w fn.ntmps σ a w' G->a.defers=[]/\∃v,(results fn a.tmps).run P w'=.ok v w'/\ ∃b:List (K×List PC),b.map (fun p=>(p.1,p.2.map PC.er))=d/\(Ending.returned v)=.returned (zr b)/\(∀p∈b,p.1≠ .ptr/\(p.1=.one->p.2.length=1))/\ BO w' w.heap.size (b.flatMap (·.2))/\Fr w.heap.size Ex.no w w':=(by intro σ a w' G hx r;obtain⟨b,p1,q,s,p4⟩:=ZL r hr hx;exact⟨r.defers,_,q,b,p1,rfl,s,p4,r.fr⟩);split at g;rename_i σ e;exact nB i hm h j e k fun a w' G r=>iP g r;rename_i σ e;exact nB i hm h j e k fun a w' G r=>iP g r;cases g
end

def kv:Nat->List (Option Mode)->List C->List aj
 |c,some _::fs,.list sz xs::cs=>.sl (aL+c) sz 0 xs.length::kv (c+1) fs cs
 |c,some _::fs,x::cs=>.bZ::kv (c+1) fs cs
 |c,none::fs,x::cs=>.c x::kv c fs cs
 |c,[],cs=>cs.map .c
 |c,_::_,[]=>[]
def Ki (c:Nat) (s:List (Option Mode)) (xs:List C):aj:=
 match s with
 |[]=>.dN xs 0
 |_::_=>match xs.getLast? with
  |some (.list sz l)=>.dh xs 0 (xs.length - 1) (aL+c) sz l.length
  |_=>.bZ
def uf (c:Nat) (s:List (Option Mode)):Dv->au
 |(.one,xs)=>match kv c s xs with
  |[x]=>.one x
  |_=>.one .bZ
 |(.agg,xs)=>.agg (kv c s xs)
 |(.ptr,xs)=>.one (Ki c s xs)
def qM:Nat->Nat->cR->List Dv->(Nat->au)
 |_,_,_,[]=>B3
 |k,c,[],d::ds=>aV (qM (k+1) c [] ds) k (uf c [] d)
 |k,c,s::sig,d::ds=>aV (qM (k+1) (c+(gB s d.2).length) sig ds) k (uf c s d)
def oO:Mode×C->Option aA
 |(m,.list sz xs)=>some (.row false m sz xs)
 |_=>none
def rC (sig:cR) (ds:List Dv):St:=
 {env:=qM 0 0 sig ds
  h:=fun n=>if aL<=n then((e7 sig (ds.map (·.2)))[n - aL]?).bind oO else none
  used:=fun n=>zaj aL n}
def St.nh (σ:St):St:={σ with h:=fun n=>if aL<=n then none else σ.h n}
def Fu (σ:St) (q:Nat) (x:Mode×C):Option C:=
 match x.2,σ.h (aL+q) with
 |.list sz xs,some (.row _ m' ba aH)=>if m'=x.1/\ba=sz/\aH.length=xs.length/\yq x.1 aH=true/\aH.map (fun e=>e.map C.vN)=xs.map (fun e=>e.map C.vN) then some (.list sz aH) else none
 |_,_=>none
def zm (σ:St):Nat->List (Mode×C)->Option (List C)
 |_,[]=>some []
 |q,x::l=>match Fu σ q x,zm σ (q+1) l with
  |some y,some ys=>some (y::ys)
  |_,_=>none
def St.zq (σ:St) (ms:List bI) (fl:List (Mode×C)):Option (List Dv×List C):=
 match σ.nh.v8 ms,zm σ 0 fl with
 |some rs,some eV=>some (rs,eV)
 |_,_=>none
def Rl (T:bj) (mc:mn) (aC:List bI) (sig:cR) (ds:List Dv):Option (List Dv×List C):=
 match fm T mc (rC sig ds) with
 |some (.ij σ)=>σ.zq aC (e7 sig (ds.map (·.2)))
 |some (.ret σ)=>σ.zq aC (e7 sig (ds.map (·.2)))
 |_=>none
section
variable {B N:Nat} {E:Ex} {w0 w w':World} {G G':Gh} {h h':Nat->Option aA} {used:Nat->Bool} {P:Program} {T:bj} {a:Act} {σ σ':St} {Q:Exit->Act->World->Prop}
def rL:PC->PB
 |.list _ a cap []=>⟨true,0,0,cap,[],a⟩
 |.list _ (some a) cap (e::xs)=>⟨false,a.block,a.off,cap,e::xs,none⟩
 |_=>default
theorem IH (sz:Nat) (a:Option Addr) (cap:Nat):rL (.list sz a cap [])=⟨true,0,0,cap,[],a⟩:=by cases a<;>rfl
theorem zo {sz b o cap:Nat} {xs:List (List PC)} (h:xs≠[]):rL (.list sz (some (ad b o)) cap xs)=⟨false,b,o,cap,xs,none⟩:=by cases xs with|nil=>exact absurd rfl h|cons e xs=>rfl
theorem Good.cases {w:World} {sz cap:Nat} {a:Option Addr} {xs:List (List PC)} (h:Good w (.list sz a cap xs)):xs=[]\/(xs≠[]/\xs.length<=cap/\∃b o,a=some (ad b o)):=by cases h with|nil _ _ _ h=>exact .inl rfl|cons _ b o _ _ c d=>exact .inr ⟨c,d,b,o,rfl⟩
def vq (fl:List (Mode×PC)):Ex:=
 ⟨fun b=>∃x∈fl,bD b x.2,fun n=>if aL<=n then(fl[n - aL]?).map fun x=>rL x.2 else none,fun n p h=>(by
  by_cases hn:aL<=n
  ·exact hn
  ·rw[ak hn] at h;cases h),fun _=>True⟩
def pR (w:World) (fl:List (Mode×PC)):Gh:=
 ⟨fun b=>b<w.heap.size/\¬∃x∈fl,bD b x.2,fun n=>match fl[n - aL]? with|some x=>rL x.2|none=>default⟩
def sj (fl:List (Mode×PC)):Nat->Option aA:=fun n=>if aL<=n then((fl.map fun x=>(x.1,x.2.er))[n - aL]?).bind oO else none
theorem vC {fl:List (Mode×PC)} {n:Nat} {blk:aA} (hn:sj fl n=some blk):aL<=n/\∃m sz a cap xs,fl[n - aL]? =some (m,.list sz a cap xs)/\blk=.row false m sz (xs.map fun e=>e.map PC.er):=by unfold sj at hn;split at hn;rename_i hp;refine⟨hp,?_⟩;rw[AN] at hn;(cases hf:fl[n - aL]? with|none=>rw[hf] at hn;cases hn|some x=>rw[hf] at hn;obtain⟨m,pc⟩:=x;cases pc with|int k i=>simp[PC.er,oO] at hn|bool b=>simp[PC.er,oO] at hn|list sz a cap xs=>simp[PC.fK,oO] at hn;exact⟨m,sz,a,cap,xs,rfl,hn.symm⟩);cases hn
theorem nu.NO (b o sz cap:Nat) (xs:List (List PC)) (a:cap≠0):nu b (.list sz (some (ad b o)) cap xs):=.inr ⟨_,_,_,_,rfl,a⟩
theorem nu.row {b sz:Nat} {a:Option Addr} {cap:Nat} {xs:List (List PC)} (h:bF b xs):nu b (.list sz a cap xs):=by obtain⟨k,j,c,e,d⟩:=h;exact .inl (.there _ _ _ _ k j c e d)
theorem Sep.row {sz:Nat} {a:Option Addr} {cap:Nat} {xs:List (List PC)} (h:Sep (.list sz a cap xs)):lK xs:=by cases h with|list _ _ _ _ b h2 c=>exact⟨b,c⟩
theorem Good.rowAt {sz b o cap:Nat} {xs:List (List PC)} (h:Good w (.list sz (some (ad b o)) cap xs)):sY w b o sz xs:=by generalize hq:PC.list sz (some (ad b o)) cap xs=q at h;cases h with|int k n=>cases hq|bool b=>cases hq|nil i a l h0=>injection hq with r p t d;subst d;exact⟨by simp,by rintro k j c ⟨e,f,_⟩;simp at f,by rintro k j c ⟨e,f,_⟩;simp at f⟩|cons i b' o' l aH r p t d s m=>injection hq with u g e3 e4;injection g with g;obtain⟨rfl,rfl⟩:=q9 g;subst u e3 e4;exact⟨d,s,m⟩
theorem HR.L6 {fl:List (Mode×PC)} (C:∀x∈fl,Good w x.2) (u:∀x∈fl,DP w x.1 x.2) (R:fl.Pairwise fun x y=>∀b,bD b x.2->¬bD b y.2): HR w.heap.size (vq fl) w (pR w fl) (sj fl) (fun n=>zaj aL n) []:=by have sb:∀{i j:Nat} {x y:Mode×PC},fl[i]? =some x->fl[j]? =some y->i≠j->∀b,bD b x.2->¬bD b y.2:=(by intro i j x y hi hj kC b hb D;obtain⟨S,ei⟩:=GB.1 hi;obtain⟨lj,ej⟩:=GB.1 hj;rw[zaG] at R;subst ei;subst ej;rcases zaY kC with h|h;exact R i j S lj h b hb D;exact R j i lj S h b D hb);have q:∀{n:Nat} {x:Mode×PC},fl[n - aL]? =some x->(pR w fl).g n=rL x.2:=(by intro n x h;simp only[pR,h]);have NO:∀{x:Mode×PC},x∈fl->(rL x.2).nl=false->bD (rL x.2).b x.2:=(by intro x hx hl;obtain⟨sz,a,cap,xs,e,_,_,_⟩:=(u x hx).f6;have t:=C x hx;rw[e] at hl t⊢;rcases t.cases with rfl|⟨l,_,b,o,rfl⟩;rw[IH] at hl;cases hl;rw[zo l];exact .here _ _ _ _ l);have P:∀{x:Mode×PC},x∈fl->∀b,bF b (rL x.2).px->bD b x.2:=(by intro x hx b hb;obtain⟨sz,a,cap,xs,e,_,_,_⟩:=(u x hx).f6;have t:=C x hx;rw[e] at hb t⊢;rcases t.cases with rfl|⟨l,_,b,o,rfl⟩;rw[IH] at hb;obtain⟨k,j,c,⟨e,N,_⟩,_⟩:=hb;simp at N;rw[zo l] at hb;obtain⟨k,j,c,M,G⟩:=hb;exact .there _ _ _ _ k j c M G);have sub:∀{n p:Nat},aL<=n->aL<=p->n≠p->n - aL≠p - aL:=(by intro n p h1 h2 h3;omega);refine⟨fun n hn=>?_,fun m cs c n hm=>?_,fun n cs hn=>?_,fun n F m sz xs hn=>?_,fun n hn hl=>?_,fun n p hn v l hl r=>?_,fun b hb=>hb.1,fun b _=>.inr (.inr trivial),fun n p F m sz xs cd B E s hn v _ _ l b hb=>?_, fun n F sz xs hn b hb p v r=>?_,(by intro i pc hi;simp at hi),(by intro i j pc eW b _ hi;simp at hi),(by intro i pc n F m sz xs b hi;simp at hi)⟩;(cases hh:sj fl n with|none=>exact absurd hh hn|some b=>exact zad (vC hh).1);obtain⟨_,B,sz,a,cap,xs,_,e⟩:=vC hm;cases e;obtain⟨_,B,sz,a,cap,xs,_,e⟩:=vC hn;cases e;obtain⟨hp,B,E,a,cap,s,d,e⟩:=vC hn;injection e with A e2 e3 e4;subst A e2 e3 e4;have hx:(m,PC.list sz a cap s)∈fl:=AT d;have ok:=u _ hx;have hZ:=C _ hx;obtain⟨O,K,J,H,e,U,T,Y⟩:=ok.f6;injection e with A e2 e3 e4;subst A e2 e3 e4;rw[q d];have L:∀b,bF b s->bD b (PC.list sz a cap s):=fun b ⟨k,j,c,M,G⟩=>.there _ _ _ _ k j c M G;have V:N6 w.heap.size (vq fl) w (pR w fl) s m:=(by have X:=Sep.row ok.sep;cases m with|aQ=>cases Y|aS=>exact⟨fun b hb=>absurd hb (I0 Y b),X⟩|live=>exact⟨fun b hb=>⟨fun hi=>hi.2 ⟨_,hx,L b hb⟩,ok.un b (L b hb),.inr ⟨_,hx,L b hb⟩⟩,X⟩);rcases hZ.cases with rfl|⟨l,lV,b,o,rfl⟩;rw[IH];exact⟨U,rfl,fun _=>⟨rfl,fun h=>by cases h⟩,(fun h=>by cases h),(fun h=>by cases h),V,fun h=>by cases h⟩;rw[zo l];exact⟨U,rfl,(fun h=>by cases h),fun _=>⟨ok.un b (.here _ _ _ _ l),Good.rowAt hZ,lV⟩,(fun _ h=>by cases h),V,fun h=>by cases h⟩;(cases hh:sj fl n with|none=>exact absurd hh hn|some blk=>obtain⟨hp,B,E,a,cap,s,d,e⟩:=vC hh;have hx:(B,PC.list E a cap s)∈fl:=AT d;rw[q d] at hl⊢;have Q:=NO hx hl;exact⟨fun hi=>hi.2 ⟨_,hx,Q⟩,.inr ⟨_,hx,Q⟩,((u _ hx).un _ Q).lt⟩);(cases hh:sj fl n with|none=>exact absurd hh hn|some blk=>cases ED:sj fl p with|none=>exact absurd ED v|some I=>obtain⟨hp,m1,W,a1,Z,wF,d,_⟩:=vC hh;obtain⟨z,m2,O,K,J,H,f,_⟩:=vC ED;rw[q d] at hl⊢;rw[q f] at r⊢;intro N;exact sb d f (sub hp z l) _ (NO (AT d) hl) (N▸NO (AT f) r));obtain⟨hp,m1,W,a1,Z,wF,d,_⟩:=vC hn;obtain⟨z,m2,O,K,J,H,f,_⟩:=vC v;rw[q d] at hb;rw[q f];exact fun D=>sb d f (sub hp z l) b (P (AT d) b hb) (P (AT f) b D);obtain⟨hp,m1,W,a1,Z,wF,d,_⟩:=vC hn;rw[q d] at hb;cases ED:sj fl p with|none=>exact absurd ED v|some I=>obtain⟨z,m2,O,K,J,H,f,_⟩:=vC ED;rw[q f] at r⊢;rintro rfl;by_cases l:n=p;subst l;rw[d] at f;injection f with f;injection f with _ f;injection f with q1 q2 q3 q4;subst q1 q2 q3 q4;have hm:=AT d;obtain⟨sz,a,cap,xs,e,_,T,_⟩:=(u _ hm).f6;have t:=C _ hm;injection e with A e2 e3 e4;subst A e2 e3 e4;rcases t.cases with rfl|⟨l,_,b,o,rfl⟩;rw[IH] at r;cases r;rw[zo l] at hb;exact T b o rfl hb;exact sb d f (sub hp z l) _ (P (AT d) _ hb) (NO (AT f) r)
theorem VQ {α:Type}:∀{s:List (Option Mode)} {xs:List α} {x:Mode×α},x∈gB s xs->x.2∈xs
 |some m::fs,y::xs,x,h=>by simp only[gB,zab] at h;rcases h with rfl|h;simp;exact zaV _ (VQ h)
 |none::fs,y::xs,x,h=>by simp only[gB] at h;exact zaV _ (VQ h)
 |[],_,x,h=>by simp[gB] at h
 |some m::fs,[],x,h=>by simp[gB] at h
 |none::fs,[],x,h=>by simp[gB] at h
theorem KT {α:Type}:∀{sig:cR} {xss:List (List α)} {x:Mode×α},x∈e7 sig xss->∃xs∈xss,x.2∈xs
 |s::sig,xs::xss,x,h=>by simp only[e7,zak] at h;rcases h with h|h;exact⟨xs,by simp,VQ h⟩;obtain⟨ys,a,b⟩:=KT h;exact⟨ys,by simp[a],b⟩
 |[],_,x,h=>by simp[e7] at h
 |s::sig,[],x,h=>by simp[e7] at h
theorem Oi {fl:List (Mode×PC)} (s:∀x∈fl,DP w x.1 x.2) (r:∀x∈fl,Good w x.2):∀(c:Nat) (i:List (Option Mode)) (ps:List PC),(∀(q:Nat) (x:Mode×PC),(gB i ps)[q]? =some x->fl[c+q]? =some x)->(∀pc∈ps,Good w pc)-> (∀pc∈rU i ps,∀x∈fl,∀b,bD b pc->¬bD b x.2)->ed w (pR w fl) (sj fl) (kv c i (ps.map PC.er)) (ps.map PC.val)
 |c,[],ps,hq,ir,hu=>by simp only[kv];refine⟨by simp,fun j x u hj d=>?_⟩;simp only[AN,zaE] at hj d;cases hp:ps[j]? with|none=>rw[hp] at hj;cases hj|some pc=>rw[hp] at hj d;simp at hj d;subst hj;subst d;have hm:=AT hp;exact⟨PC.od pc,pc,rfl,rfl,ir pc hm,fun b hb=>⟨(ir pc hm).lt hb,fun⟨x,hx,n⟩=>hu pc (by simpa[rU] using hm) x hx b hb n⟩⟩
 |c,f::i,[],hq,ir,hu=>by cases f<;>exact⟨rfl,by intro j c u hj;simp[kv] at hj⟩
 |c,none::i,p::ps,hq,ir,hu=>by have k:=Oi s r c i ps (fun q x h=>hq q x (by simpa[gB] using h)) (fun pc h=>ir pc (by simp[h])) (fun pc h=>hu pc (by simp[rU,h]));simp only[co,kv];refine⟨by simp[k.1],fun j x u hj d=>?_⟩;cases j with|zero=>simp at hj d;subst hj;subst d;exact⟨PC.od p,p,rfl,rfl,ir p (by simp),fun b hb=>⟨(ir p (by simp)).lt hb,fun⟨x,hx,n⟩=>hu p (by simp[rU]) x hx b hb n⟩⟩|succ j=>exact k.2 j x u (by simpa using hj) (by simpa using d)
 |c,some m::i,p::ps,hq,ir,hu=>by have l:=hq 0 (m,p) (by simp[gB]);simp only[za1] at l;have t:=AT l;obtain⟨sz,a,cap,xs,e,gk,rr,vE⟩:=(s _ t).f6;simp only at e;subst e;have k:=Oi s r (c+1) i ps (fun q x h=>by have:=hq (q+1) x (by simpa[gB] using h);rwa[show c+(q+1)=c+1+q by omega] at this) (fun pc h=>ir pc (by simp[h])) (fun pc h=>hu pc (by simpa[rU] using h));simp only[co,PC.fK,kv];refine⟨by simp[k.1],fun j x u hj d=>?_⟩;cases j with|zero=>simp at hj d;subst hj;subst d;refine⟨PC.od _,fun _=>?_⟩;have v:(pR w fl).g (aL+c)=rL (.list sz a cap xs):=(by simp only[pR,zai,l]);rw[v];rcases(r _ t).cases with rfl|⟨y,z,b,o,rfl⟩;rw[IH];exact .inl ⟨rfl,rfl,rfl,rfl⟩;rw[zo y];exact .inr ⟨rfl,some (ad b o),by simp[PC.val],by simpa using z,fun _=>by simp⟩|succ j=>exact k.2 j x u (by simpa using hj) (by simpa using d)
theorem aci {fl:List (Mode×PC)} (E:∀x∈fl,DP w x.1 x.2) (A:∀x∈fl,Good w x.2) {c:Nat} {s:List (Option Mode)} {d:Dv} {v:Value} {p:PA} (R:DI w d v p)
  (u:∀(q:Nat) (x:Mode×PC),(gB s p.ps)[q]? =some x->fl[c+q]? =some x) (r:∀pc∈rU s p.ps,∀x∈fl,∀b,bD b pc->¬bD b x.2) (hp:p.k=.ptr->Rc s p.ps.length/\∀x∈fl,¬bD p.b x.2):
  RA w (pR w fl) (sj fl) (uf c s d) v:=by
 obtain⟨k,ps,b,o⟩:=p;obtain⟨rfl,n,l⟩:=R;cases k with
 |one=>
  have l:ps.map PC.val=[v]:=l;have hl:=Oi E A c s ps u n r;rw[l] at hl;simp only[uf];obtain⟨x,hx⟩:∃x,kv c s (ps.map PC.er)=[x]:=by
   have:=hl.1;match H:kv c s (ps.map PC.er),this with
   |[x],_=>exact⟨x,rfl⟩
  rw[hx] at hl⊢;exact .inr hl
 |agg=>
  have l:v=.agg (ps.map PC.val).toArray:=l;exact⟨_,l,Oi E A c s ps u n r⟩
 |ptr=>
  obtain⟨O,G,C⟩:v=.pointer (some (ad b o))/\b<w.heap.size/\∀j c,ps[j]? =some c->w.cell? (ad b (o+j))=some c.val:=l;obtain⟨hs,F⟩:=hp rfl;subst O;rcases hs with rfl|⟨j,hj,rfl⟩
  rotate_left
  ·obtain⟨f,q,rfl⟩:∃f q,ps=f++[q]:=⟨ps.dropLast,ps.getLast (by intro e;rw[e] at hj;simp at hj),(List.dropLast_concat_getLast _).symm⟩;have L:f.length=j:=by
    have:(f++[q]).length=j+1:=hj;rw[zaa] at this;simpa using this
   subst L;rw[ad7] at u;rw[anh] at r;have z:=u 0 (.aS,q) rfl;rw[za1] at z;have I:=AT z;obtain⟨sz,a,cap,xs,e,gk,rr,vE⟩:=(E _ I).f6;simp only at e;subst e;have S:uf c (IT f.length none++[some .aS]) (K.ptr,(f++[PC.list sz a cap xs]).map PC.er)=.one (.dh ((f++[PC.list sz a cap xs]).map PC.er) 0 f.length (aL+c) sz xs.length):=by
    have B:IT f.length (none:Option Mode)++[some .aS]≠[]:=by simp
    simp only[uf,Ki];split
    ·rename_i H;exact absurd H B
    ·simp[PC.fK]
   rw[S];have y:=C f.length (PC.list sz a cap xs) (by simp);refine RA.je rfl ⟨b,o,f++[PC.list sz a cap xs],by simp,rfl,⟨G,fun⟨x,hx,h⟩=>F x hx h⟩,fun i m kC hi=>?_,_,y,PC.od _,fun _=>?_⟩
   ·have Q:f[i]? =some m:=by
     by_cases N:i<f.length
     ·rwa[zaH N] at hi
     ·have:=(GB.1 hi).1;rw[zaa] at this;simp at this;omega
    have hm:=AT Q;have J:m∈f++[PC.list sz a cap xs]:=List.mem_append_left _ hm;exact⟨C i m hi,n m J,fun D t=>⟨(n m J).lt t,fun⟨x,hx,h⟩=>r m hm x hx D t h⟩⟩
   ·have P:(pR w fl).g (aL+c)=rL (.list sz a cap xs):=by simp only[pR,zai,z]
    rw[P];rcases(A _ I).cases with rfl|⟨B,M,b,o,rfl⟩
    ·rw[IH];exact .inl ⟨rfl,rfl,rfl,rfl⟩
    ·rw[zo B];exact .inr ⟨rfl,some (ad b o),by simp[PC.val],by simpa using M,fun _=>by simp⟩
  refine RA.je rfl ⟨b,o,ps,by simp,rfl,⟨G,fun⟨x,hx,h⟩=>F x hx h⟩,fun j c hj=>?_⟩;have hm:=AT hj;exact⟨C j c hj,n c hm,fun D t=>⟨(n c hm).lt t,fun⟨x,hx,h⟩=>r c (by simpa[rU] using hm) x hx D t h⟩⟩
theorem Ye {fl:List (Mode×PC)} (r:∀x∈fl,DP w x.1 x.2) (o:∀x∈fl,Good w x.2):∀(ds:List Dv) (k c:Nat) (sig:cR) (vals:List Value) (pas:List PA),vals.length=ds.length->pas.length=ds.length->
  (∀(i:Nat) (d:Dv) (v:Value) (p:PA),ds[i]? =some d->vals[i]? =some v->pas[i]? =some p->DI w d v p)->(∀(q:Nat) (x:Mode×PC),(e7 sig (pas.map (·.ps)))[q]? =some x->fl[c+q]? =some x)->
  (∀pc∈tZ sig (pas.map (·.ps)),∀x∈fl,∀b,bD b pc->¬bD b x.2)->(∀p∈pas,p.k=.ptr->∀x∈fl,¬bD p.b x.2)->(∀(i:Nat) (p:PA) (s:List (Option Mode)),pas[i]? =some p->sig[i]? =some s->p.k=.ptr->Rc s p.ps.length)->
  ∀s,RA w (pR w fl) (sj fl) (qM k c sig ds s) (if k<=s then vals.getD (s - k) undef else undef)
 |[],k,c,sig,vals,pas,l1,l2,hA,hq,hu,hp,hs,s=>by simp only[qM];exact Or.inl rfl
 |d::ds,k,c,sig,v::vals,p::pas,l1,l2,hA,hq,hu,hp,hs,s=>by
  have l:vals.length=ds.length:=by simpa using l1
  have m:pas.length=ds.length:=by simpa using l2
  have n:=hA 0 d v p rfl rfl rfl;have z:=fun i A C B (u:ds[i]? =some A) (t:vals[i]? =some C) (F:pas[i]? =some B)=>hA (i+1) A C B (by simpa using u) (by simpa using t) (by simpa using F);have ir:=n.2.1;have E:d.2=p.ps.map PC.er:=by rw[n.1]
  have a:∀x:au,(s≠k->RA w (pR w fl) (sj fl) x (if k+1<=s then vals.getD (s - (k+1)) undef else undef))->s≠k->RA w (pR w fl) (sj fl) x (if k<=s then(v::vals).getD (s - k) undef else undef):=by
   intro x hx g;have:=hx g;by_cases D:k+1<=s
   ·rw[ah D] at this;rw[ah (by omega),show s - k=(s - (k+1))+1 by omega];simpa using this
   ·rw[ak D] at this;rw[ak (by omega)];exact this
  cases sig with
  |nil=>
   simp only[qM];by_cases g:s=k
   ·subst g;rw[cX,ah (zah _)];simp only[zbc,zaX];refine aci r o n (fun q x h=>by simp[gB] at h) (fun pc f=>hu pc ?_) (fun e=>⟨.inl rfl,hp p (by simp) e⟩);simp only[rU] at f;simp[tZ,f]
   ·rw[dJ _ _ _ _ g];refine a _ (fun _=>Ye r o ds (k+1) c [] vals pas l m z (fun q x h=>by simp[e7] at h) (fun pc f=>hu pc ?_) (fun p y=>hp p (by simp[y])) (fun i p s _ h=>by simp at h) s) g;simp only[tZ] at f;simp only[co,tZ,List.flatten_cons,zak];exact .inr f
  |cons sg sig=>
   simp only[qM];have j:(gB sg d.2).length=(gB sg p.ps).length:=by rw[E,Pm,wt]
   by_cases g:s=k
   ·subst g;rw[cX,ah (zah _)];simp only[zbc,zaX];refine aci r o n (fun q x h=>hq q x ?_) (fun pc f=>hu pc ?_) (fun e=>⟨hs 0 p sg rfl rfl e,hp p (by simp) e⟩)
    ·simp only[co,e7];rw[zaH (GB.1 h).1];exact h
    ·simp only[co,tZ,zak];exact .inl f
   ·rw[dJ _ _ _ _ g];refine a _ (fun _=>Ye r o ds (k+1) (c+(gB sg d.2).length) sig vals pas l m z (fun q x h=>?_) (fun pc f=>hu pc ?_) (fun p y=>hp p (by simp[y])) (fun i p s u t=>hs (i+1) p s (by simpa using u) (by simpa using t)) s) g
    ·have:=hq ((gB sg p.ps).length+q) x (by
      simp only[co,e7];rw[List.getElem?_append_right (zaB _ _),zai];exact h)
     rw[j,Nat.add_assoc];exact this
    ·simp only[co,tZ,zak];exact .inr f
 |_::_,k,c,sig,[],pas,l1,l2,hA,hq,hu,hp,hs,s=>by simp at l1
 |_::_,k,c,sig,_::_,[],l1,l2,hA,hq,hu,hp,hs,s=>by simp at l2
theorem acj {c:Nat} {s:List (Option Mode)} {d:Dv} {m:Nat} (h:(uf c s d).ref m):aL<=m:=by
 have e:∀(cs:List C) (c:Nat) (s:List (Option Mode)),∀x∈kv c s cs,x.ref m->aL<=m:=by
  intro cs;induction cs with
  |nil=>
   intro c s x hx;cases s with
   |nil=>simp[kv] at hx
   |cons f g=>cases f<;>simp[kv] at hx
  |cons y cs a=>
   intro c s x hx hr;cases s with
   |nil=>
    simp only[kv,zac] at hx;obtain⟨z,_,rfl⟩:=hx;exact absurd hr id
   |cons f g=>
    cases f with
    |none=>
     simp only[kv,zab] at hx;rcases hx with rfl|hx
     ·exact absurd hr id
     ·exact a _ _ _ hx hr
    |some md=>
     cases y with
     |list sz xs=>
      simp only[kv,zab] at hx;rcases hx with rfl|hx
      ·have hr:m=aL+c:=hr;omega
      ·exact a _ _ _ hx hr
     |int k n=>
      simp only[kv,zab] at hx;rcases hx with rfl|hx
      ·exact absurd hr id
      ·exact a _ _ _ hx hr
     |bool b=>
      simp only[kv,zab] at hx;rcases hx with rfl|hx
      ·exact absurd hr id
      ·exact a _ _ _ hx hr
 obtain⟨k,xs⟩:=d;cases k with
 |one=>
  simp only[uf] at h;match hh:kv c s xs,h with
  |[],h=>exact absurd h id
  |[x],h=>exact e xs c s x (by rw[hh];simp) h
  |_::_::_,h=>exact absurd h id
 |agg=>
  obtain⟨x,hx,hr⟩:=h;exact e xs c s x hx hr
 |ptr=>
  simp only[uf,Ki] at h;split at h
  ·exact absurd h id
  ·split at h
   ·have h':m=aL+c:=h;omega
   ·exact absurd h id
theorem Yf:∀{ds:List Dv} {k c:Nat} {sig:cR} {s m:Nat},(qM k c sig ds s).ref m->aL<=m
 |[],k,c,sig,s,m,h=>by simp only[qM] at h;exact absurd h id
 |d::ds,k,c,[],s,m,h=>by simp only[qM,mR] at h;split at h;exact acj h;exact Yf h
 |d::ds,k,c,sg::sig,s,m,h=>by simp only[qM,mR] at h;split at h;exact acj h;exact Yf h
theorem R.L6 {sig:cR} {ds:List Dv} {vals:List Value} {pas:List PA} (M:BM w sig ds vals pas) (hN:ds.length<=N):
  R w.heap.size (vq (e7 sig (pas.map (·.ps)))) w N (rC sig ds) {tmps:=vals.toArray++zal (N - vals.toArray.size) undef,defers:=[]} w (pR w (e7 sig (pas.map (·.ps)))):=by
 have v:ds.map (·.2)=(pas.map (·.ps)).map fun l=>l.map PC.er:=by
  apply zaK;intro i;simp only[AN];cases hd:ds[i]? with
  |none=>
   have:ds.length<=i:=zaI.1 hd;rw[zaf (by rw[M.l2];exact this)];rfl
  |some d=>
   have hi:=(GB.1 hd).1;have o:vals[i]? =some (vals[i]'(by rw[M.l1];exact hi)):=AI _;have hp:pas[i]? =some (pas[i]'(by rw[M.l2];exact hi)):=AI _;have:=(M.at_ i d _ _ hd o hp).1;rw[hp];simp only[so];rw[this]
 have D:∀p∈pas,∀pc∈p.ps,Good w pc:=by
  intro p hp pc z;obtain⟨i,hi,rfl⟩:=zav hp;have hd:ds[i]? =some (ds[i]'(by rw[<-M.l2];exact hi)):=AI _;have o:vals[i]? =some (vals[i]'(by rw[M.l1,<-M.l2];exact hi)):=AI _;exact(M.at_ i _ _ _ hd o (AI hi)).2.1 pc z
 have u:∀x∈e7 sig (pas.map (·.ps)),Good w x.2:=by
  intro x hx;obtain⟨l,hl,y⟩:=KT hx;obtain⟨p,hp,rfl⟩:=zac.1 hl;exact D p hp _ y
 have c:(rC sig ds).h=sj (e7 sig (pas.map (·.ps))):=by
  funext n;simp only[rC,sj,v,Hq]
 refine⟨rfl,by simp[M.l1];omega,fun s=>?_,fun s n hn=>zad (Yf hn),?_,Fr.refl _ _ _ (zah _),fun n p b hp hb=>?_,fun n hn=>zad hn⟩
 ·rw[c];have:=Ye M.ok u ds 0 0 sig vals pas M.l1 M.l2 M.at_ (fun q x h=>by rw[za2];exact h) M.free M.ptr M.axm s;simp only[zaO,if_true,zaA] at this;have e:(vals.toArray++zal (N - vals.toArray.size) undef).getD s undef=vals.getD s undef:=by
   simp only[zam,zaD];by_cases t:s<vals.length
   ·simp[zan,t]
   ·rw[zaf (by omega)];simp only[zan,List.size_toArray,t,if_false,Array.getElem?_replicate];split<;>rfl
  rw[e];exact this
 ·rw[c];exact HR.L6 u M.ok M.sb
 ·rw[c] at hb;obtain⟨C,m,sz,a,cap,xs,r,e⟩:=vC hb;have f:(if aL<=n then((e7 sig (pas.map (·.ps)))[n - aL]?).map (fun x=>rL x.2) else none)=some p:=hp
  rw[ah C,r] at f;simp at f;subst f;have A:(pR w (e7 sig (pas.map (·.ps)))).g n=rL (.list sz a cap xs):=by simp only[pR,r]
  rw[A];exact⟨rfl,rfl,rfl,rfl,rfl,fun gr ba aH _ k j pc B hL=>⟨pc,B,rfl,hL⟩⟩
theorem Q1:∀{fl:List (Mode×C)} {q:Nat} {a:List C},zm σ q fl=some a->a.length=fl.length/\∀i x,fl[i]? =some x->∃o,a[i]? =some o/\Fu σ (q+i) x=some o
 |[],q,a,h=>by simp only[zm] at h;injection h with h;subst h;exact⟨rfl,by simp⟩
 |y::l,q,a,h=>by simp only[zm] at h;split at h;rename_i o os b e;injection h with h;subst h;obtain⟨i1,i2⟩:=Q1 e;refine⟨by simp[i1],fun i x hx=>?_⟩;(cases i with|zero=>simp at hx;subst hx;exact⟨o,rfl,b⟩|succ i=>obtain⟨d,c,f⟩:=i2 i x (by simpa using hx);exact⟨d,by simpa using c,by rw[show q+(i+1)=q+1+i by omega];exact f⟩);cases h
theorem axN {q:Nat} {x:Mode×C} {o:C} (h:Fu σ q x=some o):∃sz xs b a,x.2=.list sz xs/\σ.h (aL+q)=some (.row b x.1 sz a)/\a.length=xs.length/\yq x.1 a=true/\a.map (fun e=>e.map C.vN)=xs.map (fun e=>e.map C.vN)/\o=.list sz a:=by unfold Fu at h;split at h;rename_i sz xs b m' ba a c j;split at h;rename_i g;obtain⟨rfl,rfl,f,i,d⟩:=g;injection h with h;exact⟨_,xs,b,a,c,j,f,i,d,h.symm⟩;cases h;cases h
theorem apy {px:List (List PC)} (hd:(px.map fun e=>e.map PC.er).all (fun e=>e.all C.yn)=true) {k j:Nat} {c:PC} (g:At px k j c):∀sz a cap ys,c=.list sz a cap ys->∀b,¬bF b ys:=by rintro sz a cap ys rfl b;obtain⟨e,f,hj⟩:=g;simp only[zat,zac] at hd;have d:=hd (e.map PC.er) ⟨e,AT f,rfl⟩ (PC.er (.list sz a cap ys)) (zac.2 ⟨_,AT hj,rfl⟩);rw[PC.fK] at d;exact I0 d b
theorem PC.atn (c:PC):c.er.vN=c.jY:=by cases c with|int k n=>rfl|bool b=>rfl|list sz a cap xs=>rw[PC.fK];rfl
theorem aAm {px px':List (List PC)} (hs:(px'.map fun e=>e.map PC.er).map (fun e=>e.map C.vN)=(px.map fun e=>e.map PC.er).map (fun e=>e.map C.vN)) {k j:Nat} {c:PC} (h:At px' k j c): ∃d,At px k j d/\d.jY=c.jY:=by obtain⟨e,g,hj⟩:=h;have a:=congrArg (fun l=>l[k]?) hs;simp only[AN,g,so] at a;cases h0:px[k]? with|none=>rw[h0] at a;cases a|some f=>rw[h0] at a;simp only[so,Pd] at a;have b:=congrArg (fun l=>l[j]?) a;simp only[AN,hj,so] at b;cases h3:f[j]? with|none=>rw[h3] at b;cases b|some d=>rw[h3] at b;simp only[so,Pd,PC.atn] at b;exact⟨d,⟨f,h0,h3⟩,b.symm⟩
theorem At.inj {α:Type} {px:List (List α)} {k j:Nat} {c d:α} (h:At px k j c) (h':At px k j d):c=d:=by obtain⟨e,f,g⟩:=h;obtain⟨e',a,b⟩:=h';rw[f] at a;injection a with a;subst a;rw[g] at b;injection b
theorem agV {px px':List (List PC)} (hd:(px.map fun e=>e.map PC.er).all (fun e=>e.all C.yn)=true) (hl:∀k j pc,At px k j pc->pc.jY=true->∃f,At px' k j f/\f.val=pc.val/\f.jY=true) {b:Nat} (hb:bF b px):bF b px':=by obtain⟨k,j,c,i,d⟩:=hb;cases c with|int k n=>exact absurd d bD.axp|bool x=>exact absurd d bD.axo|list sz a cap ys=>have m:=apy hd i sz a cap ys rfl;rw[bD.pq] at d;rcases d with⟨s,o,rfl⟩|⟨k',u,g,r,t⟩;obtain⟨g,q,h,l⟩:=hl k j _ i rfl;(cases g with|int k n=>cases l|bool x=>cases l|list ba a' oy ys'=>simp only[PC.val] at h;injection h with v e2 e3;subst v;refine⟨k,j,_,q,?_⟩;rw[bD.pq];refine .inl ⟨fun p=>?_,o,rfl⟩;subst p;exact s (IS e2.symm));exact absurd ⟨k',u,g,r,t⟩ (m b)
theorem AM {n:Nat} {b:aA} (hn:σ.nh.h n=some b):¬aL<=n/\σ.h n=some b:=by unfold St.nh at hn;simp only at hn;split at hn;cases hn;rename_i h;exact⟨h,hn⟩
theorem IA {n:Nat} (hn:σ.nh.h n≠none):¬aL<=n/\σ.h n≠none:=by cases h:σ.nh.h n with|none=>exact absurd h hn|some b=>obtain⟨a,e⟩:=AM h;exact⟨a,by rw[e];simp⟩
theorem cm.nh (u:Nat->Prop):cm w G σ.h u w G σ.nh.h:= ⟨fun _ h=>h,fun _ _ _=>rfl,fun n _ hn=>⟨(IA hn).2,rfl,rfl,rfl,rfl,rfl⟩,fun n b sz xs _ hn=>⟨⟨b,xs,(AM hn).2⟩,fun k j pc a c=>⟨pc,a,rfl,c⟩⟩⟩
theorem R.nh (r:R B E w0 N σ a w G) (M:∀b,E b->∃n d m sz xs,aL<=n/\σ.h n=some (.row d m sz xs)/\m≠ .aQ/\rj G n b/\(m=.aS->¬bF b (G.g n).px)): R B Ex.no w N σ.nh a w G:=by have H:=r.hr;have K:cm w G σ.h (fun n=>σ.used n=true) w G σ.nh.h:=cm.nh _;have D:∀n,¬aL<=n->σ.h n≠none->(G.g n).nl=false->¬E (G.g n).b:=(by intro n hn f hl hb;obtain⟨q,d,m,sz,xs,t,z,A,o,J⟩:=M _ hb;have C:n≠q:=fun e=>hn (e▸t);have X:σ.h q≠none:=(by rw[z];simp);rcases o with⟨l,e⟩|o;exact H.inj n q f X C hl l e;cases m with|aQ=>exact A rfl|aS=>exact J rfl o|live=>exact H.live q d sz xs z _ o n f hl rfl);have x:∀n d m sz xs,¬aL<=n->σ.h n=some (.row d m sz xs)->m≠ .aQ->∀b,bF b (G.g n).px->¬E b:=(by intro n d m sz xs hn f hm b hb k;obtain⟨q,O,I,F,L,t,z,A,o,J⟩:=M _ k;have C:n≠q:=fun e=>hn (e▸t);exact H.afc C f z hm A (.inr hb) o);refine⟨r.defers,r.size,fun s=>(r.env s).keep K fun m hm=>r.t6 s m hm,r.t6,?_,Fr.refl _ _ _ r.fr.size,fun n p b hp=>(by cases hp),r.AS⟩;refine⟨fun n hn=>H.lc n (IA hn).2,fun m cs c n hm W hr=>H.kq m cs c n (AM hm).2 W hr,fun n cs hn=>?_,fun n d m sz xs hn=>?_,fun n hn hl=>?_,fun n y hn u=>H.inj n y (IA hn).2 (IA u).2, H.jX,fun b _=>.inr (.inr trivial),fun n y d m sz xs O I F L hn u=>H.ji n y d m sz xs O I F L (AM hn).2 (AM u).2,fun n d sz xs hn b hb y u=>H.live n d sz xs (AM hn).2 b hb y (IA u).2,?_,?_,?_⟩;obtain⟨T,V,S⟩:=H.box n cs (AM hn).2;refine⟨T,V,fun j c hj=>?_⟩;obtain⟨v,P,Z,U⟩:=S j c hj;exact⟨v,P,Z,U.keep K fun q t=>H.kq n cs c q (AM hn).2 (AT hj) t⟩;obtain⟨hp,f⟩:=AM hn;have hr:=H.row n d m sz xs f;refine⟨hr.pos,hr.er,hr.nl,hr.f6,hr.room,?_,hr.nr⟩;have hm:=hr.mode;(cases m with|aQ=>exact hm|aS=>exact⟨fun b hb=>⟨(hm.1 b hb).1,(hm.1 b hb).2.1,(hm.1 b hb).2.2.imp id fun k=>absurd k (x n d .aS sz xs hp f (by simp) b hb)⟩,hm.2⟩|live=>exact⟨fun b hb=>⟨(hm.1 b hb).1,(hm.1 b hb).2.1,(hm.1 b hb).2.2.imp id fun k=>absurd k (x n d .live sz xs hp f (by simp) b hb)⟩,hm.2⟩);obtain⟨hp,f⟩:=IA hn;obtain⟨Q,o2,Y⟩:=H.own n f hl;exact⟨Q,o2.imp id fun k=>absurd k (D n hp f hl),Y⟩;intro i pc hi;simp at hi;intro i j pc eW b _ hi;simp at hi;intro i pc n d m sz xs b hi;simp at hi
theorem arl {m:Mode} {px:List (List PC)} (a:yq m (px.map fun e=>e.map PC.er)=true):(m=.aS->∀b,¬bF b px)/\m≠ .aQ/\(m=.live->(px.map fun e=>e.map PC.er).all (fun e=>e.all C.yn)=true):=by cases m with|aQ=>cases a|aS=>exact⟨fun _ b=>I0 a b,(by simp),fun h=>(by cases h)⟩|live=>exact⟨fun h=>(by cases h),(by simp),fun _=>a⟩
theorem Kg {fl:List (Mode×PC)} (eY:∀x∈fl,DP w0 x.1 x.2) (hg:∀x∈fl,Good w0 x.2) (r:R B (vq fl) w0 N σ a w G) {eV:List C} (ho:zm σ 0 (fl.map fun x=>(x.1,x.2.er))=some eV)
  {i:Nat} {x:Mode×PC} (hx:fl[i]? =some x):∃q o,eV[i]? =some o/\q.er=o/\ua w x.1 x.2 q/\
   ∃s sz xs,σ.h (aL+i)=some (.row s x.1 sz xs)/\(∀b,bD b x.2->rj G (aL+i) b)/\(x.1=.aS->∀b,¬bF b (G.g (aL+i)).px)/\x.1≠ .aQ:=by
 obtain⟨m,pc⟩:=x;have sk:=AT hx;obtain⟨o1,o2⟩:=Q1 ho;obtain⟨o,e1,e2⟩:=o2 i (m,pc.er) (by rw[AN,hx];rfl);rw[za2] at e2;obtain⟨sz,xs,s,z,f1,y,f3,U,f5,rfl⟩:=axN e2;have ok:=eY _ sk;have arY:=hg _ sk;obtain⟨p,a0,cap,J,rfl,gk,rr,vE⟩:=ok.f6;simp only[PC.fK] at f1;injection f1 with Q f1b;subst Q;subst f1b;have hr:=r.hr.row _ s m p z y;have vH:(vq fl).nZ (aL+i)=some (rL (.list p a0 cap J)):=by
  show(if aL<=aL+i then(fl[aL+i - aL]?).map (fun x=>rL x.2) else none)=_
  rw[ah (zaB _ _),zai,hx];rfl
 obtain⟨p1,F,T,p4,p6,p5⟩:=r.nZ _ _ _ vH y;have A:z=(G.g (aL+i)).px.map fun e=>e.map PC.er:=hr.er;have O:=U;simp only at O;rw[A] at O;obtain⟨M,v,q3⟩:=arl O;have d:(G.g (aL+i)).px.length=J.length:=by
  have:=f3;rw[A] at this;simpa using this
 have D:lK (G.g (aL+i)).px:=by
  have hm:=hr.mode;cases m with
  |aQ=>exact absurd rfl v
  |aS=>exact hm.2
  |live=>exact hm.2
 have aJ:σ.h (aL+i)≠none:=by rw[y];simp
 rcases arY.cases with rfl|⟨P,lV,b,o,rfl⟩
 ·have H:(G.g (aL+i)).px=[]:=IS (by rw[d];rfl);refine⟨.list p a0 cap [],_,e1,(by rw[PC.fK,A,H]),⟨rfl,.nil _ _ _ gk,ok.sep,fun _ h=>h,?_,?_⟩,s,p,z,y,fun l f=>?_,fun hm l f=>M hm l f,v⟩
  ·simp only[PC.fK];rw[A,H] at U;exact U
  ·intro sz a cap xs ba a' oy kU L E;have E:=L.symm.trans E;injection E with h1 h2 h3 h4;refine⟨h1.symm,h2.symm,h3.symm,by rw[h4],fun _ k j c n hL=>?_⟩;injection L with _ _ _ h5;subst h5;obtain⟨e,u,_⟩:=n;simp at u
  ·rw[bD.pq] at f;rcases f with⟨f,_⟩|⟨k,j,c,⟨e,u,_⟩,_⟩
   ·exact absurd rfl f
   ·simp at u
 ·have X:m=.live->∀k j c,At J k j c->c.jY=true->∃W,At (G.g (aL+i)).px k j W/\W.val=c.val/\W.jY=true:=by
   rintro rfl k j c n hL;rw[zo P] at p5;exact p5 s p z rfl k j c n hL
  rw[zo P] at p1 F T p4;simp only at p1 F T p4;obtain⟨l1,l2,l3⟩:=hr.f6 p1;rw[F] at l1 l2;rw[T] at l2;rw[p4] at l3;have V:(G.g (aL+i)).px≠[]:=by
   intro h0;rw[h0] at d;exact P (IS d.symm)
  have jK:Good w (.list p (some (ad b o)) cap (G.g (aL+i)).px):=.cons _ _ _ _ _ V l3 gk l2.1 l2.2.1 l2.2.2;have Z:¬bF b (G.g (aL+i)).px:=by
   intro hb;cases m with
   |aQ=>exact v rfl
   |aS=>exact M rfl b hb
   |live=>exact r.hr.live _ s p z y b hb _ aJ p1 F.symm
  have arJ:m=.live->∀l,bF l (G.g (aL+i)).px->bF l J:=by
   rintro rfl l f;refine agV (px':=J) (q3 rfl) (fun k j c n hL=>?_) f;rw[A] at f5;obtain⟨c0,I,S⟩:=aAm f5 n;rw[hL] at S;obtain⟨c1,Xb,oD,hL1⟩:=X rfl k j c0 I S;rw[At.inj Xb n] at oD;exact⟨c0,I,oD.symm,S⟩
  refine⟨.list p (some (ad b o)) cap (G.g (aL+i)).px,_,e1,by rw[PC.fK,A],⟨by simp only[PC.val,d],jK,.list _ _ _ _ D.1 (fun b1 o1 k j c u n Y=>?_) D.2,fun l f=>?_,?_,?_⟩,s,p,z,y,fun l f=>?_,M,v⟩
  ·injection u with u;obtain⟨rfl,_⟩:=q9 u;exact Z ⟨k,j,c,n,Y⟩
  ·rw[bD.pq] at f;rcases f with⟨_,o',t⟩|K
   ·injection t with t;rw[<-(q9 t).1];exact .here _ _ _ _ P
   ·cases m with
    |aQ=>exact absurd rfl v
    |aS=>exact absurd K (M rfl l)
    |live=>
     obtain⟨k,j,c,n,hc⟩:=arJ rfl l K;exact .there _ _ _ _ k j c n hc
  ·simp only[PC.fK];exact O
  ·intro sz a oy xs ba a' aBY kU L E;injection L with h1 h2 h3 h4;injection E with g1 g2 g3 g4;subst h1 h2 h3 h4 g1 g2 g3 g4;exact⟨rfl,rfl,rfl,d,X⟩
  ·rw[bD.pq] at f;rcases f with⟨_,o',t⟩|K
   ·injection t with t;exact .inl ⟨p1,by rw[F];exact(q9 t).1.symm⟩
   ·cases m with
    |aQ=>exact absurd rfl v
    |aS=>exact absurd K (I0 vE l)
    |live=>exact .inr (agV vE (X rfl) K)
theorem avO (S:q8 P T) (hm:P.follows .mixedOrders=true) {f:FuncId} {fn:Func} {c:Code} {y:mn} {ms:List bI} {sig:cR} {M:List Dv->Option (List Dv×List C)} (hf:P.funcs[f]? =some fn) (hb:fn.body=some c)
  (Q:lO P fn.ntmps c y=true) (hr:qv P fn.results.toList ms=true) (hM:∀ds t k,M ds=some (t,k)->ds.length<=fn.ntmps/\Rl T y ms sig ds=some (t,k)):BN P f sig M:=by
 intro ds t k U w vals pas ha;obtain⟨hN,j⟩:=hM ds t k U;refine calls_of_wp hf hb ?_;have B:=R.L6 (N:=fn.ntmps) ha hN;have ir:∀p∈pas,∀pc∈p.ps,Good w pc:=by
  intro p hp pc ci;obtain⟨i,hi,rfl⟩:=zav hp;have hd:ds[i]? =some (ds[i]'(by rw[<-ha.l2];exact hi)):=AI _;have O:vals[i]? =some (vals[i]'(by rw[ha.l1,<-ha.l2];exact hi)):=AI _;exact(ha.at_ i _ _ _ hd O (AI hi)).2.1 pc ci
 have z:∀x∈e7 sig (pas.map (·.ps)),Good w x.2:=by
  intro x hx;obtain⟨l,hl,rz⟩:=KT hx;obtain⟨p,hp,rfl⟩:=zac.1 hl;exact ir p hp _ rz
 have Lm:ds.map (·.2)=(pas.map (·.ps)).map fun l=>l.map PC.er:=by
  apply zaK;intro i;simp only[AN];cases hd:ds[i]? with
  |none=>
   have:ds.length<=i:=zaI.1 hd;rw[zaf (by rw[ha.l2];exact this)];rfl
  |some d=>
   have hi:=(GB.1 hd).1;have O:vals[i]? =some (vals[i]'(by rw[ha.l1];exact hi)):=AI _;have hp:pas[i]? =some (pas[i]'(by rw[ha.l2];exact hi)):=AI _;have:=(ha.at_ i d _ _ hd O hp).1;rw[hp];simp only[so];rw[this]
 unfold Rl at j;rw[Lm,Hq] at j;generalize pg:e7 sig (pas.map (·.ps))=fl at j B z;have D:=ha.ok;rw[pg] at D;have iP:∀{σ:St} {a:Act} {w':World} {G:Gh},σ.zq ms (fl.map fun x=>(x.1,x.2.er))=some (t,k)->R w.heap.size (vq fl) w fn.ntmps σ a w' G->a.defers=[]/\∃v,(results fn a.tmps).run P w'=.ok v w'/\
   ∃s:List (K×List PC),s.map (fun p=>(p.1,p.2.map PC.er))=t/\(Ending.returned v)=.returned (zr s)/\(∀p∈s,p.1≠ .ptr/\(p.1=.one->p.2.length=1))/\
   BO w' w.heap.size (s.flatMap (·.2))/\Fr w.heap.size (B6 fl) w w'/\
   ∃I:List PC,I.map PC.er=k/\I.length=fl.length/\∀(i:Nat) (x:Mode×PC) (q:PC),fl[i]? =some x->I[i]? =some q->ua w' x.1 x.2 q:=by
  intro σ a w' G hx r;unfold St.zq at hx;split at hx
  ·rename_i u7 Z e1 E;injection hx with hx;injection hx with nU fD;subst nU fD;have X:∀b,(vq fl) b->∃n A m sz xs,aL<=n/\σ.h n=some (.row A m sz xs)/\m≠ .aQ/\rj G n b/\(m=.aS->¬bF b (G.g n).px):=by
    rintro b ⟨x,Aq,V⟩;obtain⟨i,hi⟩:=zas Aq;obtain⟨q,o,_,_,_,A,sz,xs,J,F,L,k4⟩:=Kg D z r E hi;exact⟨aL+i,A,x.1,sz,xs,zaB _ _,J,k4,F b V,fun hm=>L hm b⟩
   obtain⟨s,p1,p2,Y,p4⟩:=ZL (r.nh X) hr e1;obtain⟨W,_⟩:=Q1 E;have H:∀i:Fin fl.length,∃q,Z[i.1]? =some (PC.er q)/\ua w' (fl[i.1]).1 (fl[i.1]).2 q:=by
    intro i;obtain⟨q,o,J,F,L,_⟩:=Kg D z r E (AI i.2);exact⟨q,by rw[J,F],L⟩
   refine⟨r.defers,_,p2,s,p1,rfl,Y,p4,⟨r.fr.os,r.fr.tape,r.fr.output,r.fr.size,r.fr.block,r.fr.mh⟩,List.ofFn fun i=>Classical.choose (H i),?_,by simp,fun i x q hi u=>?_⟩
   ·apply zaK;intro i;simp only[AN];by_cases hi:i<fl.length
    ·rw[zaZ,dif_pos hi];exact(zaT (H ⟨i,hi⟩)).1.symm
    ·rw[zaf (by simp;omega),zaf (by rw[W];simp;omega)];rfl
   ·obtain⟨hl,e⟩:=GB.1 hi;rw[zaZ,dif_pos hl] at u;injection u with u;subst u;subst e;exact(zaT (H ⟨i,hl⟩)).2
  ·cases hx
 split at j
 ·rename_i σ e;exact nB S hm y Q e B fun a w' G r=>iP j r
 ·rename_i σ e;exact nB S hm y Q e B fun a w' G r=>iP j r
 ·cases j
end
def Kh:Dv->au
 |(.one,[x])=>.one (.c x)
 |(.one,_)=>.one .bZ
 |(.agg,xs)=>.agg (xs.map .c)
 |(.ptr,_)=>.one (.ptr aL 0 0 0)
def yT:Nat->List Dv->(Nat->au)
 |_,[]=>B3
 |k,d::ds=>aV (yT (k+1) ds) k (Kh d)
def rM:List Dv->Option (List C)
 |[]=>none
 |(.ptr,xs)::_=>some xs
 |_::ds=>rM ds
def tz (ds:List Dv):Nat->Option aA:=fun n=>match zaz n aL with
 |true=>(rM ds).map fun xs=>.box (xs.map .c)
 |false=>none
def L8 (ds:List Dv):St:={env:=yT 0 ds,h:=tz ds,used:=fun n=>zaj aL n}
theorem ank (ds:List Dv) (n:Nat) (hn:aL<=n):(L8 ds).used n=true:=zad hn
def v7 (h:Nat->Option aA):List au->Option (List Dv)
 |[]=>some []
 |v::vs=>match v.cells? with
  |some (ag,cs)=>match ie h cs,v7 h vs with
   |some xs,some ds=>some ((if ag=true then .agg else .one,xs)::ds)
   |_,_=>none
  |none=>none
def Bp (h:Nat->Option aA):au->Option (Nat×List C)
 |.one (.ptr n k _ off)=>if k=0/\off=0 then match h n with
  |some (.box cs)=>match ie h cs with
   |some xs=>some (n,xs)
   |none=>none
  |_=>none
  else none
 |_=>none
theorem aBv {h:Nat->Option aA} {v:au} {n:Nat} {xs:List C} (hx:Bp h v=some (n,xs)):∃sz cs,v=.one (.ptr n 0 sz 0)/\h n=some (.box cs)/\ie h cs=some xs:=by unfold Bp at hx;split at hx;rename_i m k sz off;split at hx;rename_i b;obtain⟨rfl,rfl⟩:=b;split at hx;rename_i cs hn;split at hx;rename_i aH c;injection hx with hx;injection hx with a h2;subst a h2;exact⟨sz,cs,rfl,hn,c⟩;cases hx;cases hx;cases hx;cases hx
def Dc (h:Nat->Option aA):List au->Option (List Dv)
 |[v]=>match Bp h v with
  |some (n,xs)=>if aL<=n then none else some [(.ptr,xs)]
  |none=>v7 h [v]
 |vs=>v7 h vs
def AP (h:Nat->Option aA):Option (List C)->Option (List C)
 |none=>some []
 |some xs=>match h aL with
  |some (.box cs)=>if cs.length=xs.length then ie h cs else none
  |_=>none
def St.C9 (σ:St) (ms:List bI) (ds:List Dv):Option (List Dv×List C):=
 match σ.tQ ms with
 |some vs=>match Dc σ.h vs,AP σ.h (rM ds) with
  |some rs,some out=>some (rs,out)
  |_,_=>none
 |none=>none
def Rm (T:bj) (mc:mn) (aC:List bI) (ds:List Dv):Option (List Dv×List C):=
 match fm T mc (L8 ds) with
 |some (.ij σ)=>σ.C9 aC ds
 |some (.ret σ)=>σ.C9 aC ds
 |_=>none
section
variable {B N:Nat} {E:Ex} {w0 w w':World} {G G':Gh} {h h':Nat->Option aA} {used:Nat->Bool} {P:Program} {T:bj} {a:Act} {σ σ':St} {Q:Exit->Act->World->Prop}
theorem Yg:∀(ds:List Dv) (k n:Nat),yT k ds n=if k<=n then(match ds[n - k]? with|some d=>Kh d|none=>.one .bZ) else .one .bZ
 |[],k,n=>by simp[yT,B3]
 |d::ds,k,n=>by simp only[yT,mR,Yg ds];by_cases h:n=k;subst h;simp;by_cases b:k<=n;have a:k+1<=n:=(by omega);have c:n - k=(n - (k+1))+1:=(by omega);simp[h,b,a,c];have a:¬k+1<=n:=(by omega);simp[h,b,a]
theorem P7 {ds:List Dv} {n:Nat} {b:aA} (hn:tz ds n=some b):n=aL/\∃xs,rM ds=some xs/\b=.box (xs.map .c):=by unfold tz at hn;split at hn;rename_i e;have:=If e;subst this;refine⟨rfl,?_⟩;(cases hp:rM ds with|none=>rw[hp] at hn;cases hn|some xs=>rw[hp] at hn;injection hn with hn;exact⟨xs,rfl,hn.symm⟩);cases hn
def kL:List PA->Option PA
 |[]=>none
 |p::ps=>if p.k=.ptr then some p else kL ps
theorem KE:∀{pas:List PA} {p:PA},kL pas=some p->p∈pas/\p.k=.ptr
 |[],p,h=>by cases h
 |q::pas,p,h=>by unfold kL at h;split at h;injection h with h;subst h;rename_i b;exact⟨by simp,b⟩;obtain⟨a,c⟩:=KE h;exact⟨by simp[a],c⟩
theorem OW:∀{pas:List PA},kL pas=none->∀p∈pas,p.k≠ .ptr
 |[],_,p,hp=>by cases hp
 |q::pas,h,p,hp=>by unfold kL at h;split at h;cases h;rename_i a;cases hp with|head=>exact a|tail _ hp=>exact OW h p hp
theorem Zz:∀{ds:List Dv} {pas:List PA},pas.length=ds.length->(∀(i:Nat) (d:Dv) (p:PA),ds[i]? =some d->pas[i]? =some p->d=(p.k,p.ps.map PC.er))->rM ds=(kL pas).map fun p=>p.ps.map PC.er
 |[],[],_,_=>rfl
 |[],_::_,hl,_=>by simp at hl
 |_::_,[],hl,_=>by simp at hl
 |d::ds,p::pas,hl,hd=>by have e:=hd 0 d p rfl rfl;have a:=Zz (ds:=ds) (pas:=pas) (by simpa using hl) (fun i d p c f=>hd (i+1) d p c f);subst e;obtain⟨k,ps,b,o⟩:=p;cases k with|ptr=>rfl|one=>simpa[rM,kL] using a|agg=>simpa[rM,kL] using a
def C3 (p:PA):PB:=⟨false,p.b,p.o,0,[],none⟩
def KS (pas:List PA):Ex:=
 ⟨fun b=>∃p∈pas,p.k=.ptr/\b=p.b,fun n=>if n=aL then(kL pas).map C3 else none,fun n p h=>(by
  by_cases hn:n=aL
  ·exact Nat.le_of_eq hn.symm
  ·rw[ak hn] at h;cases h),fun b=>∃q∈pas,∃pc∈q.ps,bD b pc⟩
def Cc (pas:List PA):Gh:=⟨fun b=>∃q∈pas,∃pc∈q.ps,bD b pc,fun n=>match kL pas with|some p=>C3 p|none=>default⟩
theorem R.atc {ds:List Dv} {vals:List Value} {pas:List PA} (f:UD w ds vals pas) (hN:ds.length<=N):
  R w.heap.size (KS pas) w N (L8 ds) {tmps:=vals.toArray++zal (N - vals.toArray.size) undef,defers:=[]} w (Cc pas):=by
 have hl:=f.l1;have Aj:rM ds=(kL pas).map fun p=>p.ps.map PC.er:=by
  refine Zz f.l2 fun i d p hd hp=>?_;have B:vals[i]? =some (vals[i]'(by rw[f.l1];exact(GB.1 hd).1)):=AI _;exact(f.at_ i d _ p hd B hp).1
 have Q:∀q∈pas,∀pc∈q.ps,Good w pc:=by
  intro q l pc A;obtain⟨i,hi,rfl⟩:=zav l;have hd:ds[i]? =some (ds[i]'(by rw[<-f.l2];exact hi)):=AI _;have B:vals[i]? =some (vals[i]'(by rw[f.l1,<-f.l2];exact hi)):=AI _;exact(f.at_ i _ _ _ hd B (AI hi)).2.1 pc A
 have M:∀q∈pas,q.k=.ptr->N5 w q.b q.o q.ps/\∃v:Value,v∈vals/\v=.pointer (some (ad q.b q.o)):=by
  intro q l Y;obtain⟨i,hi,rfl⟩:=zav l;have hd:ds[i]? =some (ds[i]'(by rw[<-f.l2];exact hi)):=AI _;have B:vals[i]? =some (vals[i]'(by rw[f.l1,<-f.l2];exact hi)):=AI _;have L:=(f.at_ i _ _ _ hd B (AI hi)).2.2;rw[Y] at L;exact⟨L.2.2,_,AT B,L.1⟩
 have cell:∀q∈pas,∀pc∈q.ps,RC w (Cc pas) (tz ds) (.c pc.er) pc.val:=fun q l pc A=>⟨pc,rfl,rfl,Q q l pc A,fun b hb=>⟨q,l,pc,A,hb⟩⟩;have cells:∀q∈pas,ed w (Cc pas) (tz ds) ((q.ps.map PC.er).map .c) (q.ps.map PC.val):=by
  intro q l;refine⟨by simp,fun j c u hj H=>?_⟩;simp only[AN,zaE] at hj H;cases hp:q.ps[j]? with
  |none=>rw[hp] at hj;cases hj
  |some pc=>
   rw[hp] at hj H;simp at hj H;subst hj H;exact⟨PC.od pc,cell q l pc (AT hp)⟩
 refine⟨rfl,by simp;omega,fun s=>?_,fun s n hn=>?_,?_,Fr.refl _ _ _ (zah _),fun n p b hp hb=>?_,fun n hn=>zad hn⟩
 ·show RA w _ (tz ds) (yT 0 ds s) _;rw[Yg];simp only[zaO,if_true,zaA];cases hs:ds[s]? with
  |none=>exact Or.inl rfl
  |some d=>
   have O:=(GB.1 hs).1;have T:s<vals.length:=by rw[hl];exact O
   have B:vals[s]? =some vals[s]:=AI T;obtain⟨q,hp⟩:∃q,pas[s]? =some q:=⟨_,AI (by rw[f.l2];exact O)⟩;have:(vals.toArray++zal (N - vals.toArray.size) undef).getD s undef=vals[s]:=by
    simp[zam,zan,T]
   rw[this];have J:=AT hp;obtain⟨t,P,r⟩:=f.at_ s d _ q hs B hp;generalize vals[s]=u at*
   subst t;obtain⟨k,ps,b,o⟩:=q;cases k with
   |one=>
    have r:ps.map PC.val=[u]:=r;obtain⟨pc,rfl⟩:∃pc,ps=[pc]:=by
     have:=congrArg za8 r;exact List.length_eq_one_iff.1 (by simpa using this)
    simp at r;rw[<-r];exact RA.je (PC.od pc) (cell _ J pc (by simp))
   |agg=>exact⟨_,r,cells _ J⟩
   |ptr=>
    have r:u=.pointer (some (ad b o))/\_:=r;rw[r.1];have h:kL pas=some ⟨.ptr,ps,b,o⟩:=by
     cases h:kL pas with
     |none=>exact absurd rfl (OW h _ J)
     |some p=>
      obtain⟨G,E⟩:=KE h;obtain⟨i,hi⟩:=zas G;have:=f.one i s p _ hi hp E rfl;subst this;rw[hi] at hp;injection hp with hp;rw[hp]
    refine RA.je (c:=.ptr aL 0 0 0) rfl (fun _=>?_);simp[Cc,h,C3]
 ·have a:(yT 0 ds s).ref n:=hn;rw[Yg] at a;simp only[zaO,if_true,zaA] at a;cases hs:ds[s]? with
  |none=>rw[hs] at a;exact absurd a id
  |some d=>
   rw[hs] at a;obtain⟨k,xs⟩:=d;cases k with
   |one=>match xs,a with
    |[],a=>exact absurd a id
    |[x],a=>exact absurd a id
    |_::_::_,a=>exact absurd a id
   |agg=>
    obtain⟨c,h,I⟩:=a;obtain⟨y,_,rfl⟩:=zac.1 h;exact absurd I id
   |ptr=>
    have a:n=aL:=a;subst a;exact ank ds aL (zah aL)
 ·
  have K:∀n D m sz xs,tz ds n≠some (.row D m sz xs):=fun n D m sz xs hn=>by obtain⟨_,_,_,e⟩:=P7 hn;cases e
  have F:∀n,tz ds n≠none->n=aL/\∃p,kL pas=some p/\(Cc pas).g n=C3 p/\tz ds n=some (.box ((p.ps.map PC.er).map .c)):=by
   intro n hn;cases I:tz ds n with
   |none=>exact absurd I hn
   |some b=>
    obtain⟨rfl,xs,t,P⟩:=P7 I;rw[Aj] at t;cases h:kL pas with
    |none=>rw[h] at t;cases t
    |some p=>
     rw[h] at t;injection t with t;exact⟨rfl,p,rfl,by simp[Cc,h],by rw[P,<-t]⟩
  refine⟨fun n hn=>?_,fun m cs c n hm h hr=>?_,fun n cs hn=>?_,fun n D m sz xs hn=>absurd hn (K _ _ _ _ _),fun n hn hlf=>?_,fun n S hn a aJ=>?_,fun b hb=>?_,fun b hb=>.inr (.inr hb),
   fun n S D m sz xs cd m' ba aH hn=>absurd hn (K _ _ _ _ _),fun n D sz xs hn=>absurd hn (K _ _ _ _ _),?_,?_,?_⟩
  ·obtain⟨rfl,_⟩:=F n hn;exact ank ds aL (zah aL)
  ·have V:tz ds m=some (.box cs):=hm;obtain⟨_,xs,_,e⟩:=P7 V;injection e with e;subst e;obtain⟨x,_,rfl⟩:=zac.1 h;exact absurd hr id
  ·have a:tz ds n=some (.box cs):=hn;obtain⟨rfl,p,G,E,C⟩:=F n (by rw[a];simp);rw[a] at C;injection C with C;injection C with C;subst C;obtain⟨m1,m2⟩:=KE G;rw[E];refine⟨rfl,(f.mh p m1 m2).1,fun j c hj=>?_⟩;rw[AN,AN] at hj;cases nO:p.ps[j]? with
   |none=>rw[nO] at hj;cases hj
   |some pc=>
    rw[nO] at hj;simp at hj;subst hj;exact⟨pc.val,(M p m1 m2).1 j pc nO,PC.od pc,cell p m1 pc (AT nO)⟩
  ·obtain⟨rfl,p,G,E,C⟩:=F n hn;obtain⟨m1,m2⟩:=KE G;rw[E];obtain⟨Z,u2⟩:=f.mh p m1 m2;exact⟨fun⟨q,l,pc,A,hb⟩=>u2 q l pc A hb,.inr ⟨p,m1,m2,rfl⟩,Z.lt⟩
  ·obtain⟨rfl,_⟩:=F n hn;obtain⟨rfl,_⟩:=F S a;exact absurd rfl aJ
  ·obtain⟨q,l,pc,A,hb⟩:=hb;exact(Q q l pc A).lt hb
  ·intro i pc hi;simp at hi
  ·intro i j pc eW b _ hi;simp at hi
  ·intro i pc n D m sz xs b hi;simp at hi
 ·have z:(if n=aL then(kL pas).map C3 else none)=some p:=hp
  split at z
  ·rename_i hn;subst hn;cases h:kL pas with
   |none=>rw[h] at z;cases z
   |some q=>
    rw[h] at z;injection z with z;subst z;have W:(Cc pas).g aL=C3 q:=by simp[Cc,h]
    rw[W];refine⟨rfl,rfl,rfl,rfl,rfl,fun D sz xs U=>?_⟩;have X:tz ds aL=some b:=hb;obtain⟨_,_,_,e⟩:=P7 X;rw[e] at U;cases U
  ·cases z
def J9 (G:Gh) (h:Nat->Option aA) (b:Nat):Prop:=G.Im b\/∃n gr m sz xs,h n=some (.row gr m sz xs)/\xd G n b
theorem HR.SR (H:HR B E w G h used []):∀{cs:List aj} {xs:List C} {vs:List Value},Am.ie h cs=some xs->ed w G h cs vs->∃ps:List PC,ps.map PC.er=xs/\ps.map PC.val=vs/\∀pc∈ps,Good w pc/\∀b,bD b pc->J9 G h b
 |[],xs,vs,hx,hc=>by
  simp only[Am.ie] at hx;injection hx with hx;subst hx;have:vs=[]:=IS (by simpa using hc.1);subst this;exact⟨[],rfl,rfl,by simp⟩
 |c::cs,xs,vs,hx,hc=>by
  simp only[Am.ie] at hx;split at hx
  ·rename_i x aH s t;injection hx with hx;subst hx;match vs,hc.1 with
   |v::vs,hl=>
    obtain⟨pc,k,o,i,f⟩:=H.abw s (hc.2 0 c v rfl rfl).2;obtain⟨ps,g,r,l⟩:=H.SR (vs:=vs) t ⟨by simpa using hl,fun j c u e d=>hc.2 (j+1) c u e d⟩;refine⟨pc::ps,by simp[k,g],by simp[o,r],fun q a=>?_⟩;cases a with
    |head=>exact⟨i,fun b hb=>(f b hb).imp id fun⟨n,p,m,sz,xs,_,e,d⟩=>⟨n,p,m,sz,xs,e,d⟩⟩
    |tail _ a=>exact l q a
  ·cases hx
theorem HR.v7 (H:HR B E w G h used []):∀{vs:List au} {ds:List Dv} {us:List Value},Am.v7 h vs=some ds->us.length=vs.length->(∀(j:Nat) (x:au) (v:Value),vs[j]? =some x->us[j]? =some v->RA w G h x v)->
  ∃f:List PA,f.map (fun p=>(p.k,p.ps.map PC.er))=ds/\f.map FC=us/\(∀p∈f,p.k≠ .ptr/\(p.k=.one->p.ps.length=1))/\∀p∈f,∀pc∈p.ps,Good w pc/\∀b,bD b pc->J9 G h b
 |[],ds,us,hx,hl,hc=>by
  simp only[Am.v7] at hx;injection hx with hx;subst hx;have:us=[]:=IS (by simpa using hl);subst this;exact⟨[],rfl,rfl,by simp,by simp⟩
 |x::vs,ds,us,hx,hl,hc=>by
  simp only[Am.v7] at hx;split at hx
  ·rename_i ag cs d;split at hx
   ·rename_i xs zU A C;injection hx with hx;subst hx;match us,hl with
    |v::us,hl=>
     obtain⟨f,n,z,o,t⟩:=H.v7 (us:=us) C (by simpa using hl) (fun j x v l q=>hc (j+1) x v l q);have g:=hc 0 x v rfl rfl;have s:∃vs:List Value,(if ag=true then v=.agg vs.toArray else vs=[v])/\ed w G h cs vs:=by
      cases x with
      |one c=>
       have r:ag=false/\cs=[c]:=by cases c<;>simp[au.cells?] at d<;>exact⟨d.1,d.2.symm⟩
       obtain⟨rfl,rfl⟩:=r;rcases g with g|g
       ·subst g;simp[au.cells?] at d
       ·exact⟨[v],rfl,g⟩
      |agg cs'=>
       simp[au.cells?] at d;obtain⟨rfl,rfl⟩:=d;obtain⟨vs,e,l⟩:∃vs:List Value,v=.agg vs.toArray/\ed w G h cs' vs:=g;exact⟨vs,e,l⟩
      |ct xs=>simp[au.cells?] at d
     obtain⟨cvs,a,u⟩:=s;obtain⟨ps,p1,i,y⟩:=H.SR A u;refine⟨⟨if ag=true then .agg else .one,ps,0,0⟩::f,by simp[p1,n],?_,fun p hp=>?_,fun p hp pc m=>?_⟩
     ·rw[co,z];congr 1;cases ag with
      |true=>
       simp only[if_true] at a⊢;rw[a,<-i];rfl
      |false=>
       simp only[zae,if_false] at a⊢;rw[<-i] at a;match ps,a with
       |[pc],a=>simp at a;exact a
     ·cases hp with
      |head=>
       cases ag with
       |true=>exact⟨by simp,fun h=>by cases h⟩
       |false=>
        simp only[zae,if_false] at a;refine⟨by simp,fun _=>?_⟩;have:(ps.map PC.val).length=1:=by rw[i,a];rfl
        simpa using this
      |tail _ hp=>exact o p hp
     ·cases hp with
      |head=>exact y pc m
      |tail _ hp=>exact t p hp pc m
   ·cases hx
  ·cases hx
theorem ayD {a:List PA}:IG (a.map FC)=FD a:=by
 match a with
 |[]=>rfl
 |[p]=>rfl
 |p::q::a=>rfl
theorem aBz (hT:q8 P T) (hm:P.follows .mixedOrders=true) {f:FuncId} {fn:Func} {c:Code} {mc:mn} {ms:List bI} {M:List Dv->Option (List Dv×List C)} (hf:P.funcs[f]? =some fn) (hb:fn.body=some c)
  (D:lO P fn.ntmps c mc=true) (hr:qv P fn.results.toList ms=true) (hM:∀ds U out,M ds=some (U,out)->ds.length<=fn.ntmps/\Rm T mc ms ds=some (U,out)):lL P f M:=by
 intro ds U out nG w vals pas va;obtain⟨hN,V⟩:=hM ds U out nG;refine calls_of_wp hf hb ?_;have r0:=R.atc (N:=fn.ntmps) va hN;have Aj:rM ds=(kL pas).map fun p=>p.ps.map PC.er:=by
  refine Zz va.l2 fun i d p hd hp=>?_;have hv:vals[i]? =some (vals[i]'(by rw[va.l1];exact(GB.1 hd).1)):=AI _;exact(va.at_ i d _ p hd hv hp).1
 unfold Rm at V;have iP:∀{σ:St} {a:Act} {w':World} {G:Gh},σ.C9 ms ds=some (U,out)->R w.heap.size (KS pas) w fn.ntmps σ a w' G->a.defers=[]/\∃v,(results fn a.tmps).run P w'=.ok v w'/\
   ∃(J:List PA) (z:List PC),J.map (fun p=>(p.k,p.ps.map PC.er))=U/\(Ending.returned v)=.returned (FD J)/\z.map PC.er=out/\UC w w' pas J z:=by
  intro σ a w' G hx r;have H:=r.hr;unfold St.C9 at hx;split at hx
  ·rename_i vs e1;split at hx
   ·rename_i u7 Zh E y;injection hx with hx;injection hx with nU fD;subst nU fD;have Cf:∀p,kL pas=some p->∃cs,σ.h aL=some (.box cs)/\cs.length=p.ps.length/\ie σ.h cs=some Zh/\(G.g aL).nl=false/\(G.g aL).b=p.b/\(G.g aL).o=p.o:=by
     intro p hp;rw[Aj,hp] at y;simp only[so,AP] at y;split at y
     ·rename_i cs f9;split at y
      ·rename_i hl;have vH:(KS pas).nZ aL=some (C3 p):=by
        show(if aL=aL then(kL pas).map C3 else none)=_
        rw[ah rfl,hp];rfl
       obtain⟨q1,O,q3,_⟩:=r.nZ _ _ _ vH f9;exact⟨cs,f9,by simpa using hl,y,q1,O,q3⟩
      ·cases y
     ·cases y
    have PW:∀q∈pas,q.k=.ptr->∃p,kL pas=some p/\q=p:=by
     intro q S x;cases D:kL pas with
     |none=>exact absurd x (OW D q S)
     |some p=>
      obtain⟨c1,c2⟩:=KE D;obtain⟨i,hi⟩:=zas S;obtain⟨j,hj⟩:=zas c1;have:=va.one i j q p hi hj x c2;subst this;rw[hi] at hj;injection hj with hj;exact⟨p,rfl,hj⟩
    have hE:∀b,(KS pas) b->∃p cs,kL pas=some p/\σ.h aL=some (.box cs)/\(G.g aL).nl=false/\b=(G.g aL).b:=by
     rintro b ⟨q,S,x,rfl⟩;obtain⟨p,hp,rfl⟩:=PW q S x;obtain⟨cs,l,_,_,s,B,_⟩:=Cf q hp;exact⟨q,cs,hp,l,s,B.symm⟩
    have Ag:∀b,G.Im b->GD w pas b:=fun b hb=>by
     rcases H.tx b hb with l|l|l
     ·exact .inl l
     ·obtain⟨p,cs,_,s,B,rfl⟩:=hE b l;exact absurd hb (H.own aL (by rw[s];simp) B).1
     ·exact .inr l
    have Y:∀F cs,σ.h F=some (.box cs)->(G.g F).nl=false->∀b,J9 G σ.h b->b≠(G.g F).b:=by
     intro F cs l s b hb K;have A:σ.h F≠none:=by rw[l];simp
     subst K;rcases hb with hb|⟨n,W,m,sz,xs,hn,W3⟩
     ·exact(H.own F A s).1 hb
     ·rcases W3 with⟨bk,K⟩|I
      ·exact H.inj n F (by rw[hn];simp) A (by rintro rfl;rw[hn] at l;cases l) bk s K.symm
      ·have L:=(H.row n W m sz xs hn).mode;cases m with
       |aQ=>exact(H.own F A s).1 (L _ I)
       |aS=>exact(H.own F A s).1 (L.1 _ I).1
       |live=>exact H.live n W sz xs hn _ I F A s rfl
    have PR:∀b,J9 G σ.h b->GD w pas b/\(∀p,kL pas=some p->b≠p.b):=by
     have Q:∀b,(∀cs,σ.h aL=some (.box cs)->(G.g aL).nl=false->b≠(G.g aL).b)->∀p,kL pas=some p->b≠p.b:=fun b hb p hp=>by
      obtain⟨cs,l,_,_,s,B,_⟩:=Cf p hp;rw[<-B];exact hb cs l s
     have afh:∀b,(w.heap.size<=b\/(KS pas) b)->(∀cs,σ.h aL=some (.box cs)->(G.g aL).nl=false->b≠(G.g aL).b)->GD w pas b:=fun b hb Q=>by
      rcases hb with hb|hb
      ·exact .inl hb
      ·obtain⟨p,cs,_,s,B,h4⟩:=hE b hb;exact absurd h4 (Q cs s B)
     intro b hb;rcases hb with hb|⟨n,W,m,sz,xs,hn,W3⟩
     ·exact⟨Ag b hb,Q b fun cs l s K=>(H.own aL (by rw[l];simp) s).1 (K▸hb)⟩
     ·have A:σ.h n≠none:=by rw[hn];simp
      rcases W3 with⟨bk,rfl⟩|I
      ·have hd:∀cs,σ.h aL=some (.box cs)->(G.g aL).nl=false->(G.g n).b≠(G.g aL).b:=fun cs l s=>
        H.inj n aL A (by rw[l];simp) (by rintro rfl;rw[hn] at l;cases l) bk s
       exact⟨afh _ (H.own n A bk).2.1 hd,Q _ hd⟩
      ·have L:=(H.row n W m sz xs hn).mode;cases m with
       |aQ=>exact⟨Ag b (L b I),Q b fun cs l s K=>(H.own aL (by rw[l];simp) s).1 (K▸L b I)⟩
       |aS=>exact⟨Ag b (L.1 b I).1,Q b fun cs l s K=>(H.own aL (by rw[l];simp) s).1 (K▸(L.1 b I).1)⟩
       |live=>
        have hd:∀cs,σ.h aL=some (.box cs)->(G.g aL).nl=false->b≠(G.g aL).b:=fun cs l s=>H.live n W sz xs hn b I aL (by rw[l];simp) s;exact⟨afh b (L.1 b I).2.2 hd,Q b hd⟩
    obtain⟨us,u1,u2,_,u3⟩:=Nf r hr e1;obtain⟨z,q1,O,q3⟩:∃z:List PC,z.map PC.er=Zh/\(∀pc∈z,Good w' pc/\∀b,bD b pc->J9 G σ.h b)/\∀p∈pas,p.k=.ptr->N5 w' p.b p.o z:=by
     cases D:kL pas with
     |none=>
      rw[Aj,D] at y;simp only[OF,AP] at y;injection y with y;subst y;exact⟨[],rfl,by simp,fun p hp x=>absurd x (OW D p hp)⟩
     |some p=>
      obtain⟨cs,l,s,B,h4,h5,h6⟩:=Cf p D;obtain⟨cvs,v1,v2⟩:=H.U6 l;obtain⟨ps,p1,p2,X⟩:=H.SR B v1;refine⟨ps,p1,X,fun q S x j c hj=>?_⟩;obtain⟨p',bM,rfl⟩:=PW q S x;rw[D] at bM;injection bM with bM;subst bM;rw[<-h5,<-h6];refine v2 j _ ?_;rw[<-p2,AN,hj];rfl
    have Ac:Fr w.heap.size (exV pas) w w':=⟨r.fr.os,r.fr.tape,r.fr.output,r.fr.size,r.fr.block,r.fr.mh⟩;have OY:∀{u7:List Dv},v7 σ.h vs=some u7->∃v,(results fn a.tmps).run P w'=.ok v w'/\
      ∃(J:List PA) (z:List PC),J.map (fun p=>(p.k,p.ps.map PC.er))=u7/\(Ending.returned v)=.returned (FD J)/\z.map PC.er=Zh/\UC w w' pas J z:=by
     intro u7 hrb;obtain⟨J,b1,b2,b3,b4⟩:=H.v7 hrb u2 u3;refine⟨_,Rq fn a.tmps u1,J,z,b1,by rw[<-b2,ayD],q1,?_⟩;exact⟨fun p hp=>(b3 p hp).2,fun p hp x=>absurd x (b3 p hp).1,fun p hp pc t=>⟨(b4 p hp pc t).1,fun b hb=>(PR b ((b4 p hp pc t).2 b hb)).1⟩,Ac,fun pc t=>⟨(O pc t).1,fun b hb=>(PR b ((O pc t).2 b hb)).1⟩,q3⟩
    refine⟨r.defers,?_⟩;unfold Dc at E;split at E
    ·rename_i v0;split at E
     ·rename_i n xs hbp;split at E
      ·cases E
      ·rename_i Xw;injection E with E;subst E;obtain⟨sz,cs,rfl,hn,f9⟩:=aBv hbp;obtain⟨nl,un,_⟩:=H.box n cs hn;have A:σ.h n≠none:=by rw[hn];simp
       obtain⟨o1,Z,o3⟩:=H.own n A nl;obtain⟨cvs,v1,v2⟩:=H.U6 hn;obtain⟨ps,p1,p2,X⟩:=H.SR f9 v1;match us,u2 with
       |[u],_=>
        have hu:u=.pointer (some (ad (G.g n).b (G.g n).o)):=by
         have h0:=u3 0 _ u rfl rfl;rcases h0 with h0|h0
         ·cases h0
         ·have l:RC w' G σ.h (.ptr n 0 sz 0) u:=(h0.2 0 _ u rfl rfl).2;simpa using(l A).2
        have hB:w.heap.size<=(G.g n).b:=by
         rcases Z with Z|Z
         ·exact Z
         ·obtain⟨p,cs',_,s,B,h4⟩:=hE _ Z;exact absurd h4 (H.inj n aL A (by rw[s];simp) (by rintro rfl;exact Xw (zah _)) nl B)
        refine⟨_,Rq fn a.tmps u1,[⟨.ptr,ps,(G.g n).b,(G.g n).o⟩],z,by simp[p1],?_,q1,?_⟩
        ·rw[hu];rfl
        ·refine⟨fun p hp x=>?_,fun p hp x=>?_,fun p hp pc t=>?_,Ac,fun pc t=>⟨(O pc t).1,fun b hb=>(PR b ((O pc t).2 b hb)).1⟩,q3⟩
         ·simp at hp;subst hp;cases x
         ·simp at hp;subst hp;refine⟨rfl,hB,un,fun j c hj=>v2 j _ ?_,fun pc t hb=>Y n cs hn nl _ ((X pc t).2 _ hb) rfl,fun pc t hb=>Y n cs hn nl _ ((O pc t).2 _ hb) rfl⟩;rw[<-p2,AN,hj];rfl
         ·simp at hp;subst hp;exact⟨(X pc t).1,fun b hb=>(PR b ((X pc t).2 b hb)).1⟩
     ·exact OY E
    ·exact OY E
   ·cases hx
  ·cases hx
 split at V
 ·rename_i σ e;exact nB hT hm mc D e r0 fun a w' G r=>iP V r
 ·rename_i σ e;exact nB hT hm mc D e r0 fun a w' G r=>iP V r
 ·cases V
end
def _root_.Option.ab {α β:Type} (o:Option α) (f:α->Option β):Option β:=o.bind f
def aD {α:Type} (b:Bool) (x y:α):α:=cond b x y
def bC (k:IntKind) (a b:Int):Int:=k.wrap (a+b)
def jE (k:IntKind) (a b:Int):Int:=k.wrap (a - b)
def gY (k:IntKind) (a b:Int):Int:=k.wrap (a*b)
def axf (k:IntKind) (a:Int):Int:=k.wrap (0 - a)
def Vs (k:IntKind) (a:Int):Int:=k.wrap a
def pG (k:IntKind) (a b:Int):Int:=bits .and k a b
def ID (k:IntKind) (a b:Int):Int:=bits .or k a b
def abD (k:IntKind) (a b:Int):Int:=bits .xor k a b
def bq (a b:Int):Bool:=a==b
def jA (a b:Int):Bool:=a !=b
def cI (a b:Int):Bool:=decide (a<b)
def ic (a b:Int):Bool:=decide (a<=b)
def dz (a:Bool):Bool:= !a
def nX (a b:Int):Int:=if a<b then b else a
def iw (a b:Int):Int:=if b<a then b else a
def ae {α:Type} (xs:List α):Nat:=xs.length
def aM (n:Nat):Int:=(n:Int)
def aw (a b:Nat):Nat:=a+b
def bW {α:Type} (xs:List α) (k:Nat):Option α:=xs[k]?
def be {α:Type} (xs:List α) (k:Nat) (x:α):List α:=xs.set k x
def d6 {α:Type} (xs ys:List α):List α:=xs++ys
def cj {α:Type} (n:Nat) (x:α):List α:=IT n x
def fG {α:Type} (xs:List α) (lo len:Nat):List α:=(xs.drop lo).take len
def cV {α:Type} (xs:List α) (i:Int):Option α:=if 0<=i then xs[i.toNat]? else none
def cM (i:Int) (len:Nat):Option Nat:=if 0<=i/\i<len then some i.toNat else none
def jg (lo hi:Int) (len:Nat):Option (Nat×Nat):=if 0<=lo/\lo<=hi/\hi<=len then some (lo.toNat,(hi - lo).toNat) else none
def cg {α:Type} (xs:List α) (lo len:Nat):Option (List α):=if lo+len<=xs.length then some ((xs.drop lo).take len) else none
def cB {α:Type} (xs:List α) (len:Nat):Option (List α):=if len<=xs.length then some (xs.take len) else none
def ym {α:Type} (xs:List α) (lo len:Nat) (ys:List α):Option (List α):=if lo+len<=xs.length then some (xs.take lo++ys++xs.drop (lo+ys.length)) else none
def ki (a b:Int) (dW:Nat):Option Nat:=if a<=b/\0<=a/\b.toNat*dW<=gH then some a.toNat else none
def lR (n dW:Nat):Option Unit:=if n*dW<=gH then some () else none
def qT (a b:Nat):Option Unit:=if a=b then some () else none
def bh (lo len l:Nat):Option Unit:=if lo=0/\len=l then some () else none
abbrev U:=List Int
abbrev aq {α β:Type} (l:List α) (k:Option β):Option β:=(bh 0 (ae l) (ae l)).ab fun _=>k
def aj6 (k:IntKind) (a b:Int):Option Int:=if b=0 then none else some (k.wrap (a.tdiv b))
def nj (a b:Int):Option Int:=if b=0 then none else some (a.tmod b)
def Bc (k:IntKind) (a b:Int):Option Int:=if b<0 then none else some (k.wrap (a*2^(min b.toNat k.bits)))
def Be (k:IntKind) (a b:Int):Option Int:=if b<0 then none else some (a/(2^(min b.toNat k.bits)))
def cL {X Y:Type}:Nat->(X->Option (X⊕Y))->X->Option Y
 |0,_,_=>none
 |n+1,f,x=>match f x with
  |some (.inl x')=>cL n f x'
  |some (.inr y)=>some y
  |none=>none
def cN {X ρ:Type} (o:Option (X⊕ρ)) (k:X->Option ρ):Option ρ:=o.bind fun s=>Sum.casesOn s k some
theorem fI {α β:Type} {o:Option α} {f:α->Option β} {b:β}:o.ab f=some b↔∃a,o=some a/\f a=some b:=Option.bind_eq_some_iff
theorem Hc {α:Type} (x y:α):aD true x y=x:=rfl
theorem Ha {α:Type} (x y:α):aD false x y=y:=rfl
inductive Ty where
 |int (k:IntKind)
 |bool
 |list (ts:List Ty)
instance:Inhabited Ty:=⟨.bool⟩
mutual
def Ty.beq:Ty->Ty->Bool
 |.int k,.int k'=>decide (k=k')
 |.bool,.bool=>true
 |.list ts,.list us=>Ty.r5 ts us
 |_,_=>false
def Ty.r5:List Ty->List Ty->Bool
 |[],[]=>true
 |t::ts,u::us=>Ty.beq t u&&Ty.r5 ts us
 |_,_=>false
end
mutual
theorem Ty.beq_eq:∀{t u:Ty},Ty.beq t u=true->t=u
 |.int k,.int k',h=>by simp[Ty.beq] at h;rw[h]
 |.bool,.bool,_=>rfl
 |.list ts,.list us,h=>by simp only[Ty.beq] at h;rw[Ty.qt h]
 |.int _,.bool,h=>by simp[Ty.beq] at h
 |.int _,.list _,h=>by simp[Ty.beq] at h
 |.bool,.int _,h=>by simp[Ty.beq] at h
 |.bool,.list _,h=>by simp[Ty.beq] at h
 |.list _,.int _,h=>by simp[Ty.beq] at h
 |.list _,.bool,h=>by simp[Ty.beq] at h
theorem Ty.qt:∀{ts us:List Ty},Ty.r5 ts us=true->ts=us
 |[],[],_=>rfl
 |t::ts,u::us,h=>by simp only[Ty.r5,BY] at h;rw[Ty.beq_eq h.1,Ty.qt h.2]
 |[],_::_,h=>by simp[Ty.r5] at h
 |_::_,[],h=>by simp[Ty.r5] at h
end
mutual
def Ty.D:Ty->Type
 |.int _=>Int
 |.bool=>Bool
 |.list ts=>List (Ty.DL ts)
def Ty.DL:List Ty->Type
 |[]=>Unit
 |t::ts=>match ts with
  |[]=>Ty.D t
  |u::us=>Ty.D t×Ty.DL (u::us)
end
mutual
def Ty.er:(t:Ty)->t.D->C
 |.int k,n=>.int k n
 |.bool,b=>.bool b
 |.list ts,xs=>.list ts.length (By (Ty.aE ts) xs)
def Ty.aE:(ts:List Ty)->Ty.DL ts->List C
 |[],_=>[]
 |[t],x=>[Ty.er t x]
 |t::u::ts,x=>Ty.er t x.1::Ty.aE (u::ts) x.2
end
def Ty.cast (t u:Ty) (x:t.D):Option u.D:=if h:Ty.beq t u=true then some (Ty.beq_eq h▸x) else none
theorem Ty.acF {t u:Ty} {x:t.D} {y:u.D} (h:Ty.cast t u x=some y):t.er x=u.er y:=by unfold Ty.cast at h;split at h;rename_i a;have:=Ty.beq_eq a;subst this;injection h with h;rw[<-h];cases h
def Ty.uk (ts us:List Ty) (x:Ty.DL ts):Option (Ty.DL us):=if h:Ty.r5 ts us=true then some (Ty.qt h▸x) else none
theorem Ty.acE {ts us:List Ty} {x:Ty.DL ts} {y:Ty.DL us} (h:Ty.uk ts us x=some y):Ty.aE ts x=Ty.aE us y/\ts=us:=by unfold Ty.uk at h;split at h;rename_i a;have:=Ty.qt a;subst this;injection h with h;rw[<-h];exact⟨rfl,rfl⟩;cases h
theorem Ty.mC:∀(ts:List Ty) (x:Ty.DL ts),(Ty.aE ts x).length=ts.length
 |[],_=>rfl
 |[t],_=>rfl
 |t::u::ts,x=>by simp only[Ty.aE,za4,Ty.mC (u::ts) x.2]
def Ty.gx:Ty->Bool
 |.list _=>false
 |_=>true
theorem Ty.De (t:Ty) (x:t.D):(t.er x).gx=t.gx:=by cases t<;>rfl
def Ty.gz (ts:List Ty):Bool:=ts.all Ty.gx
theorem Ty.FI:∀(ts:List Ty) (x:Ty.DL ts),Am.gz (Ty.aE ts x)=Ty.gz ts
 |[],_=>rfl
 |[t],x=>by simp[Am.gz,Ty.aE,Ty.gz];exact Ty.De t x
 |t::u::ts,x=>by have:=Ty.FI (u::ts) x.2;simp only[Am.gz,Ty.gz] at this;simp only[Am.gz,Ty.gz,Ty.aE,zar,Ty.De] at this⊢;rw[this]
inductive SC where
 |v (t:Ty) (x:t.D)
 |nil (ts:List Ty)
 |ptr (n k sz off:Nat)
 |dN (ts:List Ty) (x:Ty.DL ts) (off:Nat)
 |sl (n sz lo len:Nat)
 |cF (n k aO off sz len:Nat)
 |dU (n k aO off sz i:Nat)
 |dh (ts:List Ty) (x:Ty.DL ts) (off j n sz len:Nat)
 |fn (f:FuncId) (dM:List SC)
 |bZ
instance:Inhabited SC:=⟨.bZ⟩
mutual
def SC.er:SC->aj
 |.v t x=>.c (t.er x)
 |.nil ts=>.nil ts.length
 |.ptr n k sz off=>.ptr n k sz off
 |.dN ts x off=>.dN (Ty.aE ts x) off
 |.sl n sz lo len=>.sl n sz lo len
 |.cF n k aO off sz len=>.cF n k aO off sz len
 |.dU n k aO off sz i=>.dU n k aO off sz i
 |.dh ts x off j n sz len=>.dh (Ty.aE ts x) off j n sz len
 |.fn f dM=>.fn f (SC.Pc dM)
 |.bZ=>.bZ
def SC.Pc:List SC->List aj
 |[]=>[]
 |c::cs=>SC.er c::SC.Pc cs
end
theorem SC.KR (cs:List SC):SC.Pc cs=cs.map SC.er:=by induction cs with|nil=>rfl|cons c cs a=>simp[SC.Pc,a]
inductive SB where
 |box (cs:List SC)
 |row (gr:Bool) (m:Mode) (ts:List Ty) (xs:List (Ty.DL ts))
 |ef (ts:List Ty) (x:Ty.DL ts) (cs:List SC)
def SB.er:SB->aA
 |.box cs=>.box (cs.map SC.er)
 |.row gr m ts xs=>.row gr m ts.length (By (Ty.aE ts) xs)
 |.ef ts x cs=>.box ((Ty.aE ts x).map .c++cs.map SC.er)
inductive SV where
 |one (c:SC)
 |agg (cs:List SC)
 |ct (xs:List (Bool×List SC))
 |arr (ts:List Ty) (x:Ty.DL ts) (cs:List SC)
 |oR (ts:List Ty) (x:Ty.DL ts) (xs:List (Bool×List SC))
instance:Inhabited SV:=⟨.one .bZ⟩
def SV.er:SV->au
 |.one c=>.one c.er
 |.agg cs=>.agg (cs.map SC.er)
 |.ct xs=>.ct (xs.map fun x=>(x.1,x.2.map SC.er))
 |.arr ts x cs=>.agg ((Ty.aE ts x).map .c++cs.map SC.er)
 |.oR ts x xs=>.ct ((true,(Ty.aE ts x).map .c)::xs.map fun x=>(x.1,x.2.map SC.er))
structure ai where
 env:Nat->SV
 h:Nat->Option SB
 used:Nat->Bool
def vp (env:Nat->SV):Nat->au:=fun s=>(env s).er
def dT (h:Nat->Option SB):Nat->Option aA:=fun n=>(h n).map SB.er
def ai.er (σ:ai):St:={env:=vp σ.env,h:=dT σ.h,used:=σ.used}
theorem B5 (env:Nat->SV) (n:Nat) (v:SV):vp (aV env n v)=aV (vp env) n v.er:=by funext s;simp only[vp,mR];split<;>rfl
theorem O8 (h:Nat->Option SB) (n:Nat) (v:Option SB):dT (aV h n v)=aV (dT h) n (v.map SB.er):=by funext s;simp only[dT,mR];split<;>rfl
def ai.put (σ:ai) (d:Option Nat) (v:SV):ai:=
 match d with
 |some n=>{σ with env:=aV σ.env n v}
 |none=>σ
def ai.ins (σ:ai) (n:Nat) (b:SB):Option ai:=
 match σ.used n with
 |true=>none
 |false=>some {σ with h:=aV σ.h n (some b),used:=aV σ.used n true}
def ai.fh (σ:ai) (n:Nat) (b:SB):ai:={σ with h:=aV σ.h n (some b)}
def ai.del (σ:ai) (n:Nat):ai:={σ with h:=aV σ.h n none}
theorem ai.eX (σ:ai) (d:Option Nat) (v:SV):(σ.put d v).er=σ.er.put d v.er:=by cases d with|none=>rfl|some n=>simp only[ai.put,ai.er,St.put,B5]
theorem ai.uw {σ σ1:ai} {n:Nat} {b:SB} (h:σ.ins n b=some σ1):σ.er.ins n b.er=some σ1.er:=by unfold ai.ins at h;split at h;cases h;rename_i a;injection h with h;subst h;simp[St.ins,ai.er,a,O8]
theorem ai.qC (σ:ai) (n:Nat) (b:SB):(σ.fh n b).er=σ.er.fh n b.er:=by simp[ai.fh,ai.er,St.fh,O8]
theorem ai.Pa (σ:ai) (n:Nat):(σ.del n).er=σ.er.del n:=by simp[ai.del,ai.er,St.del,O8]
def Ty.cells:(ts:List Ty)->Ty.DL ts->List SC
 |[],_=>[]
 |[t],x=>[.v t x]
 |t::u::ts,x=>.v t x.1::Ty.cells (u::ts) x.2
theorem Ty.nz:∀(ts:List Ty) (x:Ty.DL ts),(Ty.cells ts x).map SC.er=(Ty.aE ts x).map .c
 |[],_=>rfl
 |[t],x=>rfl
 |t::u::ts,x=>by simp only[Ty.cells,Ty.aE,co,Ty.nz (u::ts) x.2];rfl
def YM (n k rs off:Nat) (t:Ty) (x:t.D):SC:=
 match t,x with
 |.list ts,xs=>.cF n k rs off ts.length (ae (α:=Ty.DL ts) xs)
 |.int k',x=>.v (.int k') x
 |.bool,x=>.v .bool x
def Ty.live (n k rs:Nat):Nat->(ts:List Ty)->Ty.DL ts->List SC
 |_,[],_=>[]
 |off,[t],x=>[YM n k rs off t x]
 |off,t::u::ts,x=>YM n k rs off t x.1::Ty.live n k rs (off+1) (u::ts) x.2
theorem agO (n k a off:Nat) (t:Ty) (x:t.D) (l:List C):kF n k a off (t.er x::l)=(YM n k a off t x).er::kF n k a (off+1) l:=by cases t with|int k'=>rfl|bool=>rfl|list ts=>exact congrArg (fun m=>aj.cF n k a off ts.length m::kF n k a (off+1) l) (wt (Ty.aE ts))
theorem Ty.agU (n k a:Nat):∀(off:Nat) (ts:List Ty) (x:Ty.DL ts),(Ty.live n k a off ts x).map SC.er=kF n k a off (Ty.aE ts x)
 |_,[],_=>rfl
 |off,[t],x=>(agO n k a off t x []).symm
 |off,t::u::ts,x=>by simp only[Ty.live,Ty.aE,agO,co,Ty.agU n k a (off+1) (u::ts) x.2]
theorem agP (n k a:Nat):∀(j off:Nat) (l:List C),(kF n k a off l).drop j=kF n k a (off+j) (l.drop j)
 |0,off,l=>by simp
 |j+1,off,[]=>by simp[kF]
 |j+1,off,c::l=>by have b:=agP n k a j (off+1) l;rw[show off+1+j=off+(j+1) by omega] at b;cases c<;>simpa[kF] using b
theorem agS (n k a:Nat):∀(j off:Nat) (l:List C),(kF n k a off l).take j=kF n k a off (l.take j)
 |0,off,l=>by simp[kF]
 |j+1,off,[]=>by simp[kF]
 |j+1,off,c::l=>by cases c<;>simp[kF,agS n k a j (off+1) l]
theorem agQ (n k a:Nat):∀(off:Nat) (l:List C),(kF n k a off l).length=l.length
 |off,[]=>rfl
 |off,c::l=>by cases c<;>simp[kF,agQ n k a (off+1) l]
theorem aAY (n k a off sz:Nat) (l:List C):sub (kF n k a 0 l) off sz=(sub l off sz).map (kF n k a off):=by unfold sub;rw[agQ];split;simp[agP,agS];rfl
theorem tT {α β:Type} (f:α->β) (l:List α) (off sz:Nat):sub (l.map f) off sz=(sub l off sz).map (By f):=by unfold sub;rw[wt];split;simp[zaP,zax];rfl
def pN (t:Ty):(ts:List Ty)->t.D->Ty.DL ts->Ty.DL (t::ts)
 |[],x,_=>x
 |_::_,x,y=>(x,y)
theorem Hf (t:Ty) (ts:List Ty) (x:t.D) (y:Ty.DL ts):Ty.aE (t::ts) (pN t ts x y)=t.er x::Ty.aE ts y:=by cases ts<;>rfl
def pt:(ts:List Ty)->List ((t:Ty)×t.D)->Option (Ty.DL ts)
 |[],[]=>some ()
 |t::ts,c::cs=>match Ty.cast c.1 t c.2,pt ts cs with
  |some y,some z=>some (pN t ts y z)
  |_,_=>none
 |_,_=>none
def du (l:List ((t:Ty)×t.D)):List C:=l.map fun x=>x.1.er x.2
theorem xE:∀{ts:List Ty} {cs:List ((t:Ty)×t.D)} {y:Ty.DL ts},pt ts cs=some y->Ty.aE ts y=du cs
 |[],[],y,h=>rfl
 |t::ts,c::cs,y,h=>by simp only[pt] at h;split at h;rename_i y1 z a b;injection h with h;subst h;have:=xE b;simp only[du] at this;simp only[Hf,du,co,Ty.acF a,this];cases h
 |[],_::_,y,h=>by simp[pt] at h
 |t::ts,[],y,h=>by simp[pt] at h
def Ty.gU:(ts:List Ty)->Ty.DL ts->List ((t:Ty)×t.D)
 |[],_=>[]
 |[t],x=>[⟨t,x⟩]
 |t::u::ts,x=>⟨t,x.1⟩::Ty.gU (u::ts) x.2
theorem Ty.pQ:∀(ts:List Ty) (x:Ty.DL ts),du (Ty.gU ts x)=Ty.aE ts x
 |[],_=>rfl
 |[t],x=>rfl
 |t::u::ts,x=>by have:=Ty.pQ (u::ts) x.2;simp only[du] at this;simp only[Ty.gU,Ty.aE,du,co,this]
def fj {ρ:Type} (b:Bool) (x:Option ρ):Option ρ:=match b with|true=>x|false=>none
def dr {ρ:Type} (a b:Nat) (x:Option ρ):Option ρ:=match zaz a b with|true=>x|false=>none
theorem cv {ρ:Type} {b:Bool} {x:Option ρ} {r:ρ} (h:fj b x=some r):b=true/\x=some r:=by cases b with|true=>exact⟨rfl,h⟩|false=>cases h
theorem br {ρ:Type} {a b:Nat} {x:Option ρ} {r:ρ} (h:dr a b x=some r):a=b/\x=some r:=by unfold dr at h;split at h;rename_i e;exact⟨If e,h⟩;cases h
abbrev TD:=(t:Ty)×t.D
inductive cT where
 |t (n:Nat)
 |k (v:SV)
def cT.er:cT->MO
 |.t n=>.t n
 |.k v=>.k v.er
def ai.ev (σ:ai):cT->SV
 |.t n=>σ.env n
 |.k v=>v
theorem ai.fo (σ:ai) (x:cT):σ.er.ev x.er=(σ.ev x).er:=by cases x<;>rfl
def SV.cells?:SV->Option (Bool×List SC)
 |.one .bZ=>none
 |.one c=>some (false,[c])
 |.agg cs=>some (true,cs)
 |.ct _=>none
 |.arr _ _ _=>none
 |.oR _ _ _=>none
theorem SV.nz {v:SV} {b:Bool} {cs:List SC} (h:v.cells?=some (b,cs)):v.er.cells?=some (b,cs.map SC.er):=by cases v with|one c=>cases c<;>simp[SV.cells?] at h<;>(obtain⟨rfl,rfl⟩:=h;rfl)|agg cs'=>simp[SV.cells?] at h;obtain⟨rfl,rfl⟩:=h;rfl|ct xs=>simp[SV.cells?] at h|arr ts x cs=>simp[SV.cells?] at h|oR ts x xs=>simp[SV.cells?] at h
def Jr:Bool->List SC->SV
 |true,cs=>.agg cs
 |false,[c]=>.one c
 |false,_=>.one .bZ
theorem NM (b:Bool) (cs:List SC):(Jr b cs).er=rT b (cs.map SC.er):=by
 cases b with
 |true=>rfl
 |false=>match cs with
  |[]=>rfl
  |[c]=>rfl
  |_::_::_=>rfl
section
variable {ρ:Type}
def Oq (op:BinOp) (k:IntKind) (a b:Int) (c:(t:Ty)->t.D->Option ρ):Option ρ:=
 match op with
 |.add=>c (.int k) (bC k a b)
 |.sub=>c (.int k) (jE k a b)
 |.mul=>c (.int k) (gY k a b)
 |.quo=>(aj6 k a b).ab fun x=>c (.int k) x
 |.rem=>(nj a b).ab fun x=>c (.int k) x
 |.and=>c (.int k) (pG k a b)
 |.or=>c (.int k) (ID k a b)
 |.xor=>c (.int k) (abD k a b)
 |.eql=>c .bool (bq a b)
 |.neq=>c .bool (jA a b)
 |.lss=>c .bool (cI a b)
 |.leq=>c .bool (ic a b)
 |.gtr=>c .bool (cI b a)
 |.geq=>c .bool (ic b a)
 |_=>none
theorem aoy {op:BinOp} {k:IntKind} {a b:Int} {c:(t:Ty)->t.D->Option ρ} {r:ρ} (h:Oq op k a b c=some r):
    ∃(t:Ty) (x:t.D),GO op k a b=some (t.er x)/\c t x=some r:=by
  cases op<;>first
    |exact⟨.int k,_,rfl,h⟩
    |exact⟨.bool,_,rfl,h⟩
    |(simp only[Oq,aj6,nj,fI] at h
      obtain⟨x,d,e⟩:=h;split at d
      · cases d
      · rename_i hb;injection d with d;subst d;exact⟨.int k,_,by simp[GO,hb,Ty.er],e⟩)
    |(simp[Oq] at h)
def R9 (op:BinOp) (k:IntKind) (a b:Int) (c:(t:Ty)->t.D->Option ρ):Option ρ:=
 match op with
 |.shl=>(Bc k a b).ab fun x=>c (.int k) x
 |.shr=>(Be k a b).ab fun x=>c (.int k) x
 |_=>none
theorem aAl {op:BinOp} {k:IntKind} {a b:Int} {c:(t:Ty)->t.D->Option ρ} {r:ρ} (h:R9 op k a b c=some r):
    ∃(t:Ty) (x:t.D),Np op k a b=some (t.er x)/\c t x=some r:=by
  cases op<;>first
    |(simp only[R9,Bc,Be,fI] at h
      obtain⟨x,d,e⟩:=h;split at d
      · cases d
      · rename_i hb;injection d with d;subst d;exact⟨.int k,_,by simp[Np,hb,Ty.er],e⟩)
    |(simp[R9] at h)
def U4 (op:BinOp) (x y:SV) (c:(t:Ty)->t.D->Option ρ):Option ρ:=
 match x,y with
 |.one (.v (.int k) a),.one (.v (.int k') b)=>match BinOp.EX op with
  |true=>R9 op k a b c
  |false=>match decide (k=k') with
   |true=>Oq op k a b c
   |false=>none
 |_,_=>none
theorem aoz {op:BinOp} {x y:SV} {c:(t:Ty)->t.D->Option ρ} {r:ρ} (h:U4 op x y c=some r): ∃(t:Ty) (z:t.D),BU op x.er y.er=some (t.er z)/\c t z=some r:=by unfold U4 at h;split at h;rename_i k a k' b;split at h;rename_i e;obtain⟨t,z,f,g⟩:=aAl h;exact⟨t,z,by simp[SV.er,SC.er,Ty.er,BU,e];exact f,g⟩;rename_i e;split at h;rename_i d;have d:=of_decide_eq_true d;obtain⟨t,z,f,g⟩:=aoy h;exact⟨t,z,by simp[SV.er,SC.er,Ty.er,BU,e,d];subst d;exact f,g⟩;cases h;cases h
def unS (op:UnOp) (x:SV) (c:(t:Ty)->t.D->Option ρ):Option ρ:=
 match x with
 |.one (.v .bool a)=>match op with
  |.not=>c .bool (dz a)
  |_=>none
 |.one (.v (.int k) a)=>match op with
  |.neg=>c (.int k) (axf k a)
  |_=>none
 |_=>none
theorem aBj {op:UnOp} {x:SV} {c:(t:Ty)->t.D->Option ρ} {r:ρ} (h:unS op x c=some r): ∃(t:Ty) (z:t.D),Jt op x.er=some (t.er z)/\c t z=some r:=by unfold unS at h;split at h;rename_i a;split at h;exact⟨.bool,_,rfl,h⟩;cases h;rename_i k a;split at h;exact⟨.int k,_,rfl,h⟩;cases h;cases h
def SV.fw:SV->Option Int
 |.one (.v (.int k) n)=>some n
 |_=>none
theorem SV.EW {v:SV} {n:Int} (h:v.fw=some n):v.er.fw=some n:=by unfold SV.fw at h;split at h;injection h with h;subst h;rfl;cases h
theorem Ty.VC:∀(ts:List Ty) (x:Ty.DL ts),(Ty.gU ts x).length=ts.length
 |[],_=>rfl
 |[t],_=>rfl
 |t::u::ts,x=>by simp only[Ty.gU,za4,Ty.VC (u::ts) x.2]
def HL (t:Ty):(ts:List Ty)->Ty.DL (t::ts)->t.D
 |[],x=>x
 |_::_,x=>x.1
def DB (t:Ty):(ts:List Ty)->Ty.DL (t::ts)->Ty.DL ts
 |[],_=>()
 |_::_,x=>x.2
theorem VK (t:Ty) (ts:List Ty) (x:Ty.DL (t::ts)):Ty.aE (t::ts) x=t.er (HL t ts x)::Ty.aE ts (DB t ts x):=by cases ts<;>rfl
def IL:(n:Nat)->(ts:List Ty)->Ty.DL ts->Ty.DL (ts.take n)
 |0,_,_=>()
 |_+1,[],x=>x
 |n+1,t::ts,x=>pN t (ts.take n) (HL t ts x) (IL n ts (DB t ts x))
def NG:(n:Nat)->(ts:List Ty)->Ty.DL ts->Ty.DL (ts.drop n)
 |0,_,x=>x
 |_+1,[],x=>x
 |n+1,t::ts,x=>NG n ts (DB t ts x)
def Kq:(n:Nat)->(ts:List Ty)->Ty.DL (ts.take n)->Ty.DL (ts.drop n)->Ty.DL ts
 |0,_,_,y=>y
 |_+1,[],x,_=>x
 |n+1,t::ts,x,y=>pN t ts (HL t (ts.take n) x) (Kq n ts (DB t (ts.take n) x) y)
def Bt (n:Nat):Ty.DL (IT n (.int .i64)):=match n with
 |0=>()
 |n+1=>pN (.int .i64) (IT n (.int .i64)) (0:Int) (Bt n)
def yx (ts:List Ty) (x:Ty.DL ts) (i:Nat):Option Int:=match(Ty.gU ts x)[i]? with
 |some ⟨.int .i64,v⟩=>some v
 |_=>none
def Dg (ts:List Ty) (x:Ty.DL ts) (i:Nat) (v:Int):Option (Ty.DL ts):=match decide (i<ts.length) with
 |true=>pt ts ((Ty.gU ts x).set i ⟨.int .i64,v⟩)
 |false=>none
def Zv (n:Nat) (ts:List Ty) (x:Ty.DL ts):Ty.DL (ts.take n):=IL n ts x
def NF (n:Nat) (ts:List Ty) (x:Ty.DL ts):Ty.DL (ts.drop n):=NG n ts x
def OA (n:Nat) (ts:List Ty) (x:Ty.DL (ts.take n)) (y:Ty.DL (ts.drop n)):Ty.DL ts:=Kq n ts x y
theorem ajR:∀(n:Nat) (ts:List Ty) (x:Ty.DL ts),Ty.aE (ts.take n) (IL n ts x)=(Ty.aE ts x).take n
 |0,_,_=>rfl
 |n+1,[],x=>rfl
 |n+1,t::ts,x=>(Hf t (ts.take n) _ _).trans (by rw[ajR n ts,VK t ts x];rfl)
theorem aa5:∀(n:Nat) (ts:List Ty) (x:Ty.DL ts),Ty.aE (ts.drop n) (NG n ts x)=(Ty.aE ts x).drop n
 |0,_,_=>rfl
 |n+1,[],x=>rfl
 |n+1,t::ts,x=>(aa5 n ts (DB t ts x)).trans (by rw[VK t ts x];rfl)
theorem acG:∀(n:Nat) (ts:List Ty) (x:Ty.DL (ts.take n)) (y:Ty.DL (ts.drop n)),Ty.aE ts (Kq n ts x y)=Ty.aE (ts.take n) x++Ty.aE (ts.drop n) y
 |0,_,_,y=>rfl
 |n+1,[],_,_=>rfl
 |n+1,t::ts,x,y=>(Hf t ts _ _).trans ((congrArg (List.cons _) (acG n ts _ y)).trans (congrArg (·++Ty.aE (ts.drop n) y) (VK t (ts.take n) x)).symm)
theorem anB:∀n,Ty.aE (IT n (.int .i64)) (Bt n)=IT n (.int .i64 0)
 |0=>rfl
 |n+1=>(Hf (.int .i64) (IT n (.int .i64)) (0:Int) (Bt n)).trans (congrArg (List.cons (C.int .i64 0)) (anB n))
theorem arv {ts:List Ty} {x:Ty.DL ts} {i:Nat} {v:Int} (h:yx ts x i=some v):(Ty.aE ts x)[i]? =some (.int .i64 v):=by unfold yx at h;split at h;rename_i w a;injection h with h;subst h;rw[<-Ty.pQ,du,AN,a];rfl;cases h
theorem aAg {ts:List Ty} {x y:Ty.DL ts} {i:Nat} {v:Int} (h:Dg ts x i v=some y):i<ts.length/\Ty.aE ts y=(Ty.aE ts x).set i (.int .i64 v):=by unfold Dg at h;split at h;rename_i a;refine⟨of_decide_eq_true a,?_⟩;have:=xE h;rw[this,du,zao,<-Ty.pQ ts x];rfl;cases h
theorem aAW {α:Type} {l m:List α} {off sz:Nat} (h:l.length<=off):sub (l++m) off sz=sub m (off - l.length) sz:=by unfold sub;rw[zaa,za5,zaS h,List.nil_append];by_cases a:off+sz<=l.length+m.length;rw[ah a,ah (by omega)];rw[ak a,ak (by omega)]
theorem aAX {α:Type} {l:List α} {n off sz:Nat} (h:n<=off) (hl:n<=l.length):sub (l.drop n) (off - n) sz=sub l off sz:=by unfold sub;rw[List.length_drop,List.drop_drop,show n+(off - n)=off by omega];by_cases a:off+sz<=l.length;rw[ah a,ah (by omega)];rw[ak a,ak (by omega)]
theorem sub_one {α:Type} {l:List α} {i:Nat} {c:α} (h:l[i]? =some c):sub l i 1=some [c]:=by obtain⟨a,b⟩:=GB.1 h;unfold sub;rw[ah (show i+1<=l.length from a),List.drop_eq_getElem_cons a,b];rfl
def Se (h:Nat->Option SB) (p:SC) (sz:Nat) (c:List SC->Option ρ):Option ρ:=
 match p with
 |.ptr n k aO off=>match h n with
  |some (.box cs)=>dr k 0 (match sub cs off sz with|some l=>c l|none=>none)
  |some (.row _ m ts xs)=>dr aO ts.length ((bW xs k).ab fun e=>
   match sub (match m with|.live=>Ty.live n k ts.length 0 ts e|_=>Ty.cells ts e) off sz with
   |some l=>c l
   |none=>none)
  |some (.ef ts x cs)=>dr k 0 (match cs with
   |[]=>dr sz 1 ((yx ts x off).ab fun v=>c [.v (.int .i64) v])
   |_::_=>fj (zaj ts.length off) (match sub cs (off - ts.length) sz with|some l=>c l|none=>none))
  |none=>none
 |.dN ts x off=>match zaj 100 off with
  |true=>fj (zaj 100 ts.length) (match sub (Ty.cells (ts.drop 100) (NF 100 ts x)) (off - 100) sz with|some l=>c l|none=>none)
  |false=>match sub (Ty.cells ts x) off sz with|some l=>c l|none=>none
 |.dh ts x off j n s len=>match zaz off j&&zaz sz 1 with
  |true=>c [.sl n s 0 len]
  |false=>fj (zaj (off+sz) j) (match sub (Ty.cells ts x) off sz with|some l=>c l|none=>none)
 |.dU n kk aO off s i=>match h n with
  |some (.row _ .live ts xs)=>dr ts.length aO ((bW xs kk).ab fun e=>match(Ty.gU ts e)[off]? with
   |some ⟨.list us,ys⟩=>dr us.length s (dr sz s (fj (Ty.gz us) ((bW (α:=Ty.DL us) ys i).ab fun y=>c (Ty.cells us y))))
   |_=>none)
  |_=>none
 |_=>none
theorem arx {ts:List Ty} {ys:List (Ty.DL ts)} {i:Nat} {y:Ty.DL ts} (h:bW ys i=some y):(By (Ty.aE ts) ys)[i]? =some (Ty.aE ts y):=by have a:ys[i]? =some y:=h;rw[AN,a];rfl
theorem axq {us:List Ty} {L:List (List C)} {i:Nat} {y:Ty.DL us} (h:L[i]? =some (Ty.aE us y)) (hs:Ty.gz us=true): (match L[i]? with|some e=>if Am.gz e=true then some (e.map .c) else none|none=>none)=some ((Ty.cells us y).map SC.er):=by rw[h];simp only[Ty.FI,hs,if_true,Ty.nz]
theorem apu:∀{ts:List Ty} {e:Ty.DL ts} {off:Nat} {x:TD},(Ty.gU ts e)[off]? =some x->(Ty.aE ts e)[off]? =some (x.1.er x.2):=by intro ts e off x h;rw[<-Ty.pQ,du,AN,h];rfl
theorem amo {h:Nat->Option SB} {p:SC} {sz:Nat} {c:List SC->Option ρ} {r:ρ} (hx:Se h p sz c=some r): ∃l,loadAt (dT h) p.er sz=some (l.map SC.er)/\c l=some r:=by unfold Se at hx;split at hx;rename_i n k E off;split at hx;rename_i cs hn;have a:=(br hx).1;replace hx:=(br hx).2;subst a;split at hx;rename_i l e;refine⟨l,?_,hx⟩;simp[SC.er,loadAt,dT,hn,SB.er,tT,e];cases hx;rename_i B m ts xs hn;have a:=(br hx).1;replace hx:=(br hx).2;subst a;rw[fI] at hx;obtain⟨e,b,hx⟩:=hx;replace b:xs[k]? =some e:=b;split at hx;rename_i l hl;refine⟨l,?_,hx⟩;have g:(By (Ty.aE ts) xs)[k]? =some (Ty.aE ts e):=(by rw[AN,b];rfl);simp only[SC.er,loadAt,dT,hn,so,SB.er,if_true,g];(cases m with|live=>simp only at hl;have:=congrArg (zaL (By SC.er)) hl;rw[<-tT,Ty.agU,aAY] at this;(cases hs:sub (Ty.aE ts e) off sz with|none=>rw[hs] at this;cases this|some u=>rw[hs] at this;simpa using this)|aS=>simp only at hl;have:=congrArg (zaL (By SC.er)) hl;rw[<-tT,Ty.nz,tT] at this;(cases hs:sub (Ty.aE ts e) off sz with|none=>rw[hs] at this;cases this|some u=>rw[hs] at this;simpa using this)|aQ=>simp only at hl;have:=congrArg (zaL (By SC.er)) hl;rw[<-tT,Ty.nz,tT] at this;cases hs:sub (Ty.aE ts e) off sz with|none=>rw[hs] at this;cases this|some u=>rw[hs] at this;simpa using this);cases hx;rename_i ts x cs hn;have a:=(br hx).1;replace hx:=(br hx).2;subst a;split at hx;have a:=(br hx).1;replace hx:=(br hx).2;subst a;rw[fI] at hx;obtain⟨v,w,hx⟩:=hx;have A:=arv w;refine⟨_,?_,hx⟩;have q:((Ty.aE ts x).map aj.c)[off]? =some (.c (.int .i64 v)):=(by rw[AN,A];rfl);have o:=sub_one q;simp only[SC.er,loadAt,dT,hn,so,SB.er,if_true,zag,zap];exact o;have hb:=Pe (cv hx).1;replace hx:=(cv hx).2;split at hx;rename_i l e;refine⟨l,?_,hx⟩;have hl:((Ty.aE ts x).map aj.c).length=ts.length:=(by rw[wt,Ty.mC]);simp only[SC.er,loadAt,dT,hn,so,SB.er,if_true];rw[aAW (by rw[hl];exact hb),hl,tT,e];rfl;cases hx;cases hx;rename_i ts x off;split at hx;rename_i hb;replace hb:=Pe hb;have f:=Pe (cv hx).1;replace hx:=(cv hx).2;split at hx;rename_i l hl;refine⟨l,?_,hx⟩;have:=congrArg (zaL (By SC.er)) hl;rw[<-tT,Ty.nz,tT,show Ty.aE (ts.drop 100) (NF 100 ts x)=_ from aa5 100 ts x,aAX hb (by rw[Ty.mC];exact f)] at this;simpa[SC.er,loadAt] using this;cases hx;split at hx;rename_i l hl;refine⟨l,?_,hx⟩;have:=congrArg (zaL (By SC.er)) hl;rw[<-tT,Ty.nz,tT] at this;simpa[SC.er,loadAt] using this;cases hx;rename_i ts x off j n s len;split at hx;rename_i d;simp only[BY] at d;have q:=If d.1;have o:=If d.2;subst q o;exact⟨_,by simp[SC.er,loadAt],hx⟩;rename_i d;have C:¬(off=j/\sz=1):=(by rintro⟨rfl,rfl⟩;simp at d);have hb:=(cv hx).1;replace hx:=(cv hx).2;have D:=Pe hb;split at hx;rename_i l hl;refine⟨l,?_,hx⟩;have:=congrArg (zaL (By SC.er)) hl;rw[<-tT,Ty.nz,tT] at this;simp only[SC.er,loadAt];rw[ak C,ah D];(cases hs:sub (Ty.aE ts x) off sz with|none=>rw[hs] at this;cases this|some u=>rw[hs] at this;simpa using this);cases hx;rename_i n z E off s i;split at hx;rename_i B ts xs hn;have a:=(br hx).1;replace hx:=(br hx).2;subst a;rw[fI] at hx;obtain⟨e,b,hx⟩:=hx;replace b:xs[z]? =some e:=b;split at hx;rename_i us ys hd;have a:=(br hx).1;replace hx:=(br hx).2;subst a;have a:=(br hx).1;replace hx:=(br hx).2;subst a;have hs:=(cv hx).1;replace hx:=(cv hx).2;rw[fI] at hx;obtain⟨y,hy,hx⟩:=hx;have t:(By (Ty.aE us) ys)[i]? =some (Ty.aE us y):=arx (ts:=us) (ys:=ys) hy;refine⟨Ty.cells us y,?_,hx⟩;have g:=apu hd;simp only[SC.er,loadAt,dT,hn,so,SB.er,if_true,AN,b,zau,g,Ty.er,and_self];exact axq t hs;cases hx;cases hx;cases hx
theorem VA:∀{ts:List Ty} {e:Ty.DL ts} {off:Nat} {x:TD},(Ty.gU ts e)[off]? =some x->(Ty.aE ts e)[off]? =some (x.1.er x.2):=by intro ts e off x h;rw[<-Ty.pQ,du,AN,h];rfl
def Dy (h:Nat->Option SB) (c:SC) (k:(t:Ty)->t.D->Option ρ):Option ρ:=
 match c with
 |.v t x=>k t x
 |.nil ts=>match ts with
  |[]=>none
  |t::us=>k (.list (t::us)) ([]:List (Ty.DL (t::us)))
 |.sl n sz lo len=>match h n with
  |some (.row _ _ ts xs)=>dr ts.length sz ((cg xs lo len).ab fun ys=>k (.list ts) ys)
  |_=>none
 |.cF n kk aO off sz len=>match h n with
  |some (.row _ .live ts xs)=>dr ts.length aO ((bW xs kk).ab fun e=>match(Ty.gU ts e)[off]? with
   |some ⟨t,x⟩=>k t x
   |none=>none)
  |_=>none
 |_=>none
theorem anw {ts:List Ty} {xs ys:List (Ty.DL ts)} {lo len:Nat} (h:cg xs lo len=some ys):lo+len<=xs.length/\((By (Ty.aE ts) xs).drop lo).take len=By (Ty.aE ts) ys:=by unfold cg at h;split at h;rename_i hl;injection h with h;subst h;exact⟨hl,by simp[zaP,zax]⟩;cases h
theorem Jo {h:Nat->Option SB} {c:SC} {k:(t:Ty)->t.D->Option ρ} {r:ρ} (hx:Dy h c k=some r): ∃(t:Ty) (x:t.D),dE (dT h) c.er=some (t.er x)/\k t x=some r:=by unfold Dy at hx;split at hx;exact⟨_,_,rfl,hx⟩;split at hx;cases hx;rename_i t us;exact⟨.list (t::us),[],by simp[SC.er,dE,Ty.er],hx⟩;rename_i n sz lo len;split at hx;rename_i i m ts xs hn;have a:=(br hx).1;replace hx:=(br hx).2;subst a;rw[fI] at hx;obtain⟨ys,d,hx⟩:=hx;obtain⟨g,j⟩:=anw d;refine⟨.list ts,ys,?_,hx⟩;simp only[SC.er,dE,dT,hn,so,SB.er,wt,Ty.er,j,g,and_self,if_true];cases hx;rename_i n f aO off sz len;split at hx;rename_i i ts xs hn;have a:=(br hx).1;replace hx:=(br hx).2;subst a;rw[fI] at hx;obtain⟨e,b,hx⟩:=hx;replace b:xs[f]? =some e:=b;split at hx;rename_i t x hd;refine⟨t,x,?_,hx⟩;have:=VA hd;simp only[SC.er,dE,dT,hn,so,SB.er,if_true,AN,b,zau,this];cases hx;cases hx;cases hx
def ww (h:Nat->Option SB):List SC->(List TD->Option ρ)->Option ρ
 |[],k=>k []
 |c::cs,k=>Dy h c fun t x=>ww h cs fun l=>k (⟨t,x⟩::l)
theorem zy {h:Nat->Option SB}:∀{cs:List SC} {k:List TD->Option ρ} {r:ρ},ww h cs k=some r-> ∃l,ie (dT h) (cs.map SC.er)=some (du l)/\k l=some r
 |[],k,r,hx=>⟨[],rfl,hx⟩
 |c::cs,k,r,hx=>by simp only[ww] at hx;obtain⟨t,x,a,e⟩:=Jo hx;obtain⟨l,b,d⟩:=zy e;exact⟨⟨t,x⟩::l,by simp[ie,a,b,du],d⟩
abbrev cD:=K×List TD
def cD.er (d:cD):Dv:=(d.1,du d.2)
def aa9 (h:Nat->Option SB) (v:SV) (k:cD->Option ρ):Option ρ:=
 match v with
 |.one (.ptr n kk sz off)=>match h n with
  |some (.box cs)=>dr kk 0 (dr off 0 (ww h cs fun l=>k (.ptr,l)))
  |_=>none
 |.one (.dN ts x off)=>dr off 0 (k (.ptr,Ty.gU ts x))
 |.one c=>Dy h c fun t x=>k (.one,[⟨t,x⟩])
 |.agg cs=>ww h cs fun l=>k (.agg,l)
 |.ct _=>none
 |.arr _ _ _=>none
 |.oR _ _ _=>none
theorem aA2 {h:Nat->Option SB} {v:SV} {k:cD->Option ρ} {r:ρ} (hx:aa9 h v k=some r): ∃d:cD,ko (dT h) v.er=some d.er/\k d=some r:=by unfold aa9 at hx;split at hx;rename_i n m sz off;split at hx;rename_i cs hn;have j:=(br hx).1;replace hx:=(br hx).2;subst j;have j:=(br hx).1;replace hx:=(br hx).2;subst j;obtain⟨l,g,i⟩:=zy hx;exact⟨(.ptr,l),by simp[SV.er,SC.er,ko,dT,hn,SB.er];exact⟨_,g,rfl⟩,i⟩;cases hx;rename_i ts x off;have j:=(br hx).1;replace hx:=(br hx).2;subst j;exact⟨(.ptr,Ty.gU ts x),by simp[SV.er,SC.er,ko,cD.er,Ty.pQ],hx⟩;rename_i c hp hd;obtain⟨t,x,g,i⟩:=Jo hx;refine⟨(.one,[⟨t,x⟩]),?_,i⟩;(cases c with|ptr n m sz off=>exact absurd rfl (hp n m sz off)|dN ts x off=>exact absurd rfl (hd ts x off)|v t' x'=>simp only[SV.er,SC.er,ko] at g⊢;rw[g];rfl|nil ts=>simp only[SV.er,SC.er,ko] at g⊢;rw[g];rfl|sl n sz lo len=>simp only[SV.er,SC.er,ko] at g⊢;rw[g];rfl|cF n a b o d e=>simp only[SV.er,SC.er,ko] at g⊢;rw[g];rfl|dU n a b o d e=>simp only[SV.er,SC.er,ko] at g⊢;rw[g];rfl|dh ts x a b n o d=>simp only[SV.er,SC.er,ko] at g⊢;rw[g];rfl|fn f dM=>simp only[SV.er,SC.er,ko] at g⊢;rw[g];rfl|bZ=>simp only[SV.er,SC.er,ko] at g⊢;rw[g];rfl);obtain⟨l,g,i⟩:=zy hx;exact⟨(.agg,l),by simp[SV.er,ko,g,cD.er],i⟩;cases hx;cases hx;cases hx
def F4 (h:Nat->Option SB):List SV->(List cD->Option ρ)->Option ρ
 |[],k=>k []
 |v::vs,k=>aa9 h v fun d=>F4 h vs fun l=>k (d::l)
theorem NH {h:Nat->Option SB}:∀{vs:List SV} {k:List cD->Option ρ} {r:ρ},F4 h vs k=some r-> ∃l,mS (dT h) (vs.map SV.er)=some (l.map cD.er)/\k l=some r
 |[],k,r,hx=>⟨[],rfl,hx⟩
 |v::vs,k,r,hx=>by simp only[F4] at hx;obtain⟨d,a,e⟩:=aA2 hx;obtain⟨l,b,c⟩:=NH e;exact⟨d::l,by simp[mS,a,b],c⟩
def Mode.own:Mode->Bool
 |.aQ=>false
 |_=>true
theorem Mode.axS (m:Mode):decide (m≠ .aQ)=m.own:=by cases m<;>rfl
def aa0 (σ:ai) (c:SC) (k:(t:Ty)->t.D->Bool->ai->Option ρ):Option ρ:=
 match c with
 |.v t x=>k t x t.gx σ
 |.nil ts=>match ts with
  |[]=>none
  |t::us=>k (.list (t::us)) ([]:List (Ty.DL (t::us))) true σ
 |.sl n sz lo len=>match σ.h n with
  |some (.row _ m ts xs)=>dr ts.length sz (dr lo 0 ((cB xs len).ab fun ys=>k (.list ts) ys m.own (σ.del n)))
  |_=>none
 |_=>none
theorem am2 {ts:List Ty} {xs ys:List (Ty.DL ts)} {len:Nat} (h:cB xs len=some ys):len<=xs.length/\(By (Ty.aE ts) xs).take len=By (Ty.aE ts) ys:=by unfold cB at h;split at h;rename_i hl;injection h with h;subst h;exact⟨hl,by simp[zax]⟩;cases h
theorem aAP {σ:ai} {c:SC} {k:(t:Ty)->t.D->Bool->ai->Option ρ} {r:ρ} (hx:aa0 σ c k=some r): ∃(t:Ty) (x:t.D) (o:Bool) (σ1:ai),σ.er.iD c.er=some (t.er x,o,σ1.er)/\k t x o σ1=some r:=by unfold aa0 at hx;split at hx;rename_i t x;exact⟨_,_,_,_,by simp only[SC.er,St.iD,Ty.De],hx⟩;split at hx;cases hx;rename_i t us;exact⟨.list (t::us),[],true,σ,by simp[SC.er,St.iD,Ty.er],hx⟩;rename_i n sz lo len;split at hx;rename_i f m ts xs hn;have a:=(br hx).1;replace hx:=(br hx).2;subst a;have a:=(br hx).1;replace hx:=(br hx).2;subst a;rw[fI] at hx;obtain⟨ys,b,hx⟩:=hx;obtain⟨d,g⟩:=am2 b;refine⟨.list ts,ys,m.own,σ.del n,?_,hx⟩;have e:σ.er.h n=some (.row f m ts.length (By (Ty.aE ts) xs)):=(by simp[ai.er,dT,hn,SB.er]);simp only[SC.er,St.iD,e,wt,d,g,and_self,if_true,Ty.er,ai.Pa,Mode.axS];cases hx;cases hx
def Jk (σ:ai):List SC->(List TD->Bool->ai->Option ρ)->Option ρ
 |[],k=>k [] true σ
 |c::cs,k=>aa0 σ c fun t x o σ1=>Jk σ1 cs fun l o' σ2=>k (⟨t,x⟩::l) (o&&o') σ2
theorem Sy:∀{cs:List SC} {σ:ai} {k:List TD->Bool->ai->Option ρ} {r:ρ},Jk σ cs k=some r-> ∃(l:List TD) (o:Bool) (σ1:ai),σ.er.iE (cs.map SC.er)=some (du l,o,σ1.er)/\k l o σ1=some r
 |[],σ,k,r,hx=>⟨[],true,σ,rfl,hx⟩
 |c::cs,σ,k,r,hx=>by simp only[Jk] at hx;obtain⟨t,x,o,σ1,a,f⟩:=aAP hx;obtain⟨l,d,σ2,b,e⟩:=Sy f;exact⟨⟨t,x⟩::l,o&&d,σ2,by simp[St.iE,a,b,du],e⟩
def Sx (ts:List Ty) (σ:ai):List SV->(List (Ty.DL ts)->Bool->ai->Option ρ)->Option ρ
 |[],k=>k [] true σ
 |v::vs,k=>match v.cells? with
  |some (_,cs)=>Jk σ cs fun l o σ1=>match pt ts l with
   |some e=>Sx ts σ1 vs fun es o' σ2=>k (e::es) (o&&o') σ2
   |none=>none
  |none=>none
theorem am8:∀{cs:List aj} {σ σ1:St} {l:List C} {o:Bool},σ.iE cs=some (l,o,σ1)->l.length=cs.length
 |[],σ,σ1,l,o,h=>by simp[St.iE] at h;rw[h.1];rfl
 |c::cs,σ,σ1,l,o,h=>by simp only[St.iE] at h;split at h;split at h;rename_i a;injection h with h;injection h with h h2;subst h;simp[am8 a];cases h;cases h
theorem amR {ts:List Ty}:∀{vs:List SV} {σ:ai} {k:List (Ty.DL ts)->Bool->ai->Option ρ} {r:ρ},Sx ts σ vs k=some r-> ∃(es:List (Ty.DL ts)) (o:Bool) (σ1:ai),σ.er.mQ ts.length (vs.map SV.er)=some (By (Ty.aE ts) es,o,σ1.er)/\k es o σ1=some r
 |[],σ,k,r,hx=>⟨[],true,σ,rfl,hx⟩
 |v::vs,σ,k,r,hx=>by simp only[Sx] at hx;split at hx;rename_i b cs h;obtain⟨l,o,σ1,d,c⟩:=Sy hx;split at c;rename_i e f;obtain⟨es,j,σ2,i,g⟩:=amR c;have hl:(cs.map SC.er).length=ts.length:=(by have a:=am8 d;rw[<-xE f,Ty.mC] at a;exact a.symm);refine⟨e::es,o&&j,σ2,?_,g⟩;simp only[co,St.mQ,SV.nz h,hl,if_true,d,i,xE f];cases c;cases hx
end
section
def aX:List (List Ty)->Type
 |[]=>Unit
 |ts::l=>match l with
  |[]=>Ty.DL ts
  |us::l'=>Ty.DL ts×aX (us::l')
abbrev aF:=List (K×List Ty)
abbrev aF.aW (s:aF):List (List Ty):=s.map (·.2)
def dG:(as:aF)->aX as.aW->List Dv
 |[],_=>[]
 |[a],x=>[(a.1,Ty.aE a.2 x)]
 |a::b::as,x=>(a.1,Ty.aE a.2 x.1)::dG (b::as) x.2
def kM:(as:aF)->aX as.aW->List cD
 |[],_=>[]
 |[a],x=>[(a.1,Ty.gU a.2 x)]
 |a::b::as,x=>(a.1,Ty.gU a.2 x.1)::kM (b::as) x.2
theorem wX:∀(as:aF) (x:aX as.aW),(kM as x).map cD.er=dG as x
 |[],_=>rfl
 |[a],x=>congrArg (fun l=>[((a.1,l):Dv)]) (Ty.pQ a.2 x)
 |a::b::as,x=>by have:=wX (b::as) x.2;simp only[kM,dG,co,cD.er,Ty.pQ,this]
def K.beq:K->K->Bool
 |.one,.one=>true
 |.agg,.agg=>true
 |.ptr,.ptr=>true
 |_,_=>false
theorem K.beq_eq {a b:K} (h:K.beq a b=true):a=b:=by cases a<;>cases b<;>first|rfl|cases h
def Ec (ts:List Ty):(l:List (List Ty))->Ty.DL ts->aX l->aX (ts::l)
 |[],x,_=>x
 |_::_,x,y=>(x,y)
theorem KO (a:K×List Ty):∀(as:aF) (x:Ty.DL a.2) (y:aX (aF.aW as)),dG (a::as) (Ec a.2 (aF.aW as) x y)=(a.1,Ty.aE a.2 x)::dG as y
 |[],_,_=>rfl
 |_::_,_,_=>rfl
def qb:(as:aF)->List cD->Option (aX as.aW)
 |[],[]=>some ()
 |a::as,d::ds=>fj (K.beq a.1 d.1) (match pt a.2 d.2,qb as ds with
  |some x,some y=>some (Ec a.2 (aF.aW as) x y)
  |_,_=>none)
 |_,_=>none
theorem tI:∀{as:aF} {ds:List cD} {x:aX as.aW},qb as ds=some x->ds.map cD.er=dG as x
 |[],[],x,h=>rfl
 |a::as,d::ds,x,h=>by simp only[qb] at h;have c:=(cv h).1;replace b:=(cv h).2;split at b;rename_i y z e f;injection b with b;subst b;rw[KO,co,tI f,cD.er,<-K.beq_eq c,<-xE e];cases b
 |[],_::_,x,h=>by simp[qb] at h
 |a::as,[],x,h=>by simp[qb] at h
mutual
theorem Ty.adQ:∀(t:Ty) (x y:t.D),t.er x=t.er y->x=y
 |.int k,x,y,h=>by simp only[Ty.er] at h;injection h
 |.bool,x,y,h=>by simp only[Ty.er] at h;injection h
 |.list ts,x,y,h=>by simp only[Ty.er] at h;injection h with _ h;exact Ty.adP ts x y h
theorem Ty.adP:∀(ts:List Ty) (xs ys:List (Ty.DL ts)),By (Ty.aE ts) xs=By (Ty.aE ts) ys->xs=ys
 |ts,[],[],h=>rfl
 |ts,x::xs,y::ys,h=>by simp only[co,zaC] at h;rw[Ty.O9 ts x y h.1,Ty.adP ts xs ys h.2]
 |ts,[],_::_,h=>by simp at h
 |ts,_::_,[],h=>by simp at h
theorem Ty.O9:∀(ts:List Ty) (x y:Ty.DL ts),Ty.aE ts x=Ty.aE ts y->x=y
 |[],x,y,h=>rfl
 |[t],x,y,h=>by simp only[Ty.aE,zaC,and_true] at h;exact Ty.adQ t x y h
 |t::u::ts,x,y,h=>by simp only[Ty.aE,zaC] at h;exact za7 (Ty.adQ t x.1 y.1 h.1) (Ty.O9 (u::ts) x.2 y.2 h.2)
end
theorem adN:∀(as:aF) (x y:aX as.aW),dG as x=dG as y->x=y
 |[],x,y,h=>rfl
 |[a],x,y,h=>by simp[dG] at h;exact Ty.O9 a.2 x y h
 |a::b::as,x,y,h=>by simp only[dG,zaC,Prod.mk.injEq,true_and] at h;exact za7 (Ty.O9 a.2 x.1 y.1 h.1) (adN (b::as) x.2 y.2 h.2)
structure ax where
 id:FuncId
 args:aF
 mu:cR
 aC:aF
 F:aX args.aW->Option (aX aC.aW)
open Classical in
noncomputable def ax.M (fn:ax) (ds:List Dv):Option (List Dv):=
 if h:∃x,dG fn.args x=ds then(fn.F h.choose).map (dG fn.aC) else none
theorem ax.vg (fn:ax) (x:aX fn.args.aW):fn.M (dG fn.args x)=(fn.F x).map (dG fn.aC):=by have h:∃y,dG fn.args y=dG fn.args x:=⟨x,rfl⟩;unfold ax.M;rw[dif_pos h,adN _ _ _ h.choose_spec]
theorem ax.Gz {fn:ax} {ds a:List Dv} (h:fn.M ds=some a):∃x y,ds=dG fn.args x/\fn.F x=some y/\a=dG fn.aC y:=by unfold ax.M at h;split at h;rename_i e;rw[zaR] at h;obtain⟨y,b,c⟩:=h;exact⟨_,y,e.choose_spec.symm,b,c.symm⟩;cases h
def cR.r8:cR->Nat
 |[]=>0
 |s::l=>(s.filter Option.isSome).length+cR.r8 l
def tS (k:Nat) (rs:List Dv):List Dv×List C:=(rs.take k,(rs.drop k).flatMap (·.2))
noncomputable def ax.MM (fn:ax) (ds:List Dv):Option (List Dv×List C):=(fn.M ds).map (tS (fn.aC.length - fn.mu.r8))
def cR.gy:cR->Nat
 |[]=>0
 |[[some .aQ]]=>2
 |[some .aQ,some .aQ]::_=>3
 |[some .aQ,some .aQ,some .aQ]::_=>4
 |[some .aQ,some .aQ,some .aQ,some .aQ]::_=>5
 |_=>1
def Ce:aF->Bool
 |[]=>false
 |(.ptr,_)::_=>true
 |_::as=>Ce as
def pu (as:aF):Nat:=match Ce as with
 |true=>1
 |false=>0
noncomputable def ax.MV (fn:ax) (ds:List Dv):Option (List Dv×List C):=(fn.M ds).map (tS (fn.aC.length - pu fn.args))
def abx:List Dv->Option (Nat×Nat)
 |[(.one,[.int _ a]),(.one,[.int _ b])]=>some (a.toNat,(b - a).toNat)
 |_=>none
noncomputable def ax.MW (fn:ax) (ds:List Dv):Option (Nat×Nat):=(fn.M ds).bind abx
def cR.nq (s:cR):Nat:=s.length - 2
noncomputable def ax.MX (fn:ax) (ds:List Dv):Option (List Dv×List C):=(fn.M ds).map (tS (fn.aC.length - 1))
noncomputable def dB (T:List ax):bj:=
 ⟨T.filterMap fun fn=>match fn.mu.gy with|0=>some (fn.id,fn.M)|_=>none,T.filterMap fun fn=>match fn.mu.gy with|1=>some (fn.id,fn.mu,fn.MM)|_=>none,
  T.filterMap fun fn=>match fn.mu.gy with|2=>some (fn.id,fn.MV)|_=>none,T.filterMap fun fn=>match fn.mu.gy with|3=>some (fn.id,fn.mu.tl,fn.MW)|_=>none,
  T.filterMap fun fn=>match fn.mu.gy with|4=>some (fn.id,fn.mu.nq,fn.MX)|_=>none,T.filterMap fun fn=>match fn.mu.gy with|5=>some (fn.id,fn.M)|_=>none⟩
def ax.find:List ax->FuncId->Option ax
 |[],_=>none
 |fn::l,f=>match zaz f fn.id with
  |true=>some fn
  |false=>ax.find l f
theorem ax.KU:∀{T:List ax} {f:FuncId} {fn:ax},ax.find T f=some fn->fn.mu.gy=0->bj.find (dB T).pure f=some fn.M
 |[],f,fn,h,_=>by simp[ax.find] at h
 |g::l,f,fn,h,hm=>by simp only[ax.find] at h;split at h;rename_i e;injection h with h;subst h;simp only[dB,IN,hm,bj.find];rw[ah (If e)];rename_i e;have a:bj.find (dB l).pure f=some fn.M:=ax.KU h hm;simp only[dB,IN] at a⊢;by_cases b:g.mu.gy=0;simp only[b,bj.find];rw[ak (fun d=>by rw[d,zaq] at e;cases e)];exact a;split;exact a;rename_i z c;split at c;rename_i i;exact absurd i b;cases c
theorem ax.aei:∀{T:List ax} {f:FuncId} {fn:ax},ax.find T f=some fn->fn.mu.gy=1->bj.th (dB T).CX f=some (fn.mu,fn.MM)
 |[],f,fn,h,_=>by simp[ax.find] at h
 |g::l,f,fn,h,hm=>by simp only[ax.find] at h;split at h;rename_i e;injection h with h;subst h;simp only[dB,IN,hm,bj.th];rw[ah (If e)];rename_i e;have a:bj.th (dB l).CX f=some (fn.mu,fn.MM):=ax.aei h hm;simp only[dB,IN] at a⊢;by_cases b:g.mu.gy=1;simp only[b,bj.th];rw[ak (fun d=>by rw[d,zaq] at e;cases e)];exact a;split;exact a;rename_i z c;split at c;rename_i i;exact absurd i b;cases c
theorem ax.Pn:∀{T:List ax} {f:FuncId} {fn:ax},ax.find T f=some fn->fn.mu.gy=2->bj.o8 (dB T).vs f=some fn.MV
 |[],f,fn,h,_=>by simp[ax.find] at h
 |g::l,f,fn,h,hm=>by simp only[ax.find] at h;split at h;rename_i e;injection h with h;subst h;simp only[dB,IN,hm,bj.o8];rw[ah (If e)];rename_i e;have a:bj.o8 (dB l).vs f=some fn.MV:=ax.Pn h hm;simp only[dB,IN] at a⊢;by_cases b:g.mu.gy=2;simp only[b,bj.o8];rw[ak (fun d=>by rw[d,zaq] at e;cases e)];exact a;split;exact a;rename_i z c;split at c;rename_i i;exact absurd i b;cases c
def Bf (m:Mode) (σ:ai):Nat->List TD->Option (List SC×Nat×ai)
 |nm,[]=>some ([],nm,σ)
 |nm,⟨t,x⟩::cs=>match t,x with
  |.list ts,xs=>match σ.ins nm (.row m.xF m ts xs) with
   |some σ1=>match Bf m σ1 (nm+1) cs with
    |some (l,iU,σ2)=>some (.sl nm ts.length 0 (ae (α:=Ty.DL ts) xs)::l,iU,σ2)
    |none=>none
   |none=>none
  |.int k,x=>match Bf m σ nm cs with
   |some (l,iU,σ2)=>some (.v (.int k) x::l,iU,σ2)
   |none=>none
  |.bool,x=>match Bf m σ nm cs with
   |some (l,iU,σ2)=>some (.v .bool x::l,iU,σ2)
   |none=>none
theorem Sb (m:Mode):∀{cs:List TD} {σ σ1:ai} {nm c:Nat} {l:List SC},Bf m σ nm cs=some (l,c,σ1)-> σ.er.imp m nm (du cs)=some (l.map SC.er,c,σ1.er)
 |[],σ,σ1,nm,c,l,h=>by simp only[Bf] at h;injection h with h;injection h with b a;injection a with a h3;subst b a h3;rfl
 |⟨.list ts,xs⟩::cs,σ,σ2,nm,c,l,h=>by simp only[Bf] at h;split at h;rename_i σ1 i;split at h;rename_i g f e d;injection h with h;injection h with b a;injection a with a h3;subst b a h3;have i1:σ.er.ins nm (.row m.xF m ts.length (By (Ty.aE ts) xs))=some σ1.er:=ai.uw i;have i2:=Sb m d;simp only[du] at i2;simp only[du,co,Ty.er,St.imp,i1,i2,SC.er];exact congrArg (fun q=>some (aj.sl nm ts.length 0 q::By SC.er g,f,e.er)) (wt (Ty.aE ts));cases h;cases h
 |⟨.int k,x⟩::cs,σ,σ2,nm,c,l,h=>by simp only[Bf] at h;split at h;rename_i g f e d;injection h with h;injection h with b a;injection a with a h3;subst b a h3;have i2:=Sb m d;simp only[du] at i2;simp only[du,co,Ty.er,St.imp,i2,SC.er];cases h
 |⟨.bool,x⟩::cs,σ,σ2,nm,c,l,h=>by simp only[Bf] at h;split at h;rename_i g f e d;injection h with h;injection h with b a;injection a with a h3;subst b a h3;have i2:=Sb m d;simp only[du] at i2;simp only[du,co,Ty.er,St.imp,i2,SC.er];cases h
def K.isAgg:K->Bool
 |.agg=>true
 |_=>false
def K.tA:K->Bool
 |.ptr=>true
 |_=>false
def zu (m:Mode) (σ:ai):Nat->List cD->Option (List (Bool×List SC)×ai)
 |_,[]=>some ([],σ)
 |nm,(k,cs)::ds=>match k.tA with
  |true=>none
  |false=>match Bf m σ nm cs with
   |some (l,iU,σ1)=>match zu m σ1 iU ds with
    |some (ls,σ2)=>some ((k.isAgg,l)::ls,σ2)
    |none=>none
   |none=>none
theorem FN (m:Mode):∀{ds:List cD} {σ σ1:ai} {nm:Nat} {b:List (Bool×List SC)},zu m σ nm ds=some (b,σ1)-> σ.er.mb m nm (ds.map cD.er)=some (b.map (fun x=>(x.1,x.2.map SC.er)),σ1.er)
 |[],σ,σ1,nm,b,h=>by simp only[zu] at h;injection h with h;injection h with c h2;subst c h2;rfl
 |(k,cs)::ds,σ,σ2,nm,b,h=>by simp only[zu] at h;split at h;cases h;rename_i f;split at h;rename_i l d σ1 i;split at h;rename_i e g j;injection h with h;injection h with c h2;subst c h2;have i1:=Sb m i;have i2:=FN m j;have a:σ1.er.mb m d (By cD.er ds)=some (e.map (fun x=>(x.1,x.2.map SC.er)),g.er):=i2;(cases k with|ptr=>cases f|one=>simp only[co,cD.er,St.mb,i1,a];rfl|agg=>simp only[co,cD.er,St.mb,i1,a];rfl);cases h;cases h
def Bi:List (Bool×List SC)->SV
 |[(ag,cs)]=>Jr ag cs
 |l=>.ct l
theorem Ds (l:List (Bool×List SC)):(Bi l).er=oM (l.map fun x=>(x.1,x.2.map SC.er)):=by
 match l with
 |[]=>rfl
 |[(ag,cs)]=>exact NM ag cs
 |_::_::_=>rfl
section
variable {ρ:Type}
def Rv (T:List ax) (m:Mode) (d:Option Nat) (f:FuncId) (as:List SV) (σ:ai) (k:ai->Option ρ):Option ρ:=
 match ax.find T f with
 |some fn=>match fn.mu.gy with
  |0=>F4 σ.h as fun ds=>match qb fn.args ds with
   |some x=>(fn.F x).ab fun rs=>match zu m σ (sI d) (kM fn.aC rs) with
    |some (ls,σ1)=>k (σ1.put d (Bi ls))
    |none=>none
   |none=>none
  |_=>none
 |none=>none
theorem al2 {T:List ax} {m:Mode} {d:Option Nat} {f:FuncId} {as:List SV} {σ:ai} {k:ai->Option ρ} {r:ρ} (h:Rv T m d f as σ k=some r): ∃σ1:ai,qy (dB T) m d f (as.map SV.er) σ.er=some σ1.er/\k σ1=some r:=by unfold Rv at h;split at h;rename_i fn b;split at h;rename_i j;obtain⟨ds,c,a⟩:=NH h;split at a;rename_i x hx;rw[fI] at a;obtain⟨rs,g,a⟩:=a;split at a;rename_i ls σ1 hs;refine⟨_,?_,a⟩;have e:=FN m hs;rw[wX] at e;have i:mS σ.er.h (as.map SV.er)=some (ds.map cD.er):=c;simp only[qy,i,ax.KU b j,tI hx,ax.vg,g,so,e,ai.eX,Ds];cases a;cases a;cases h;cases h
structure SHd where
 ts:List Ty
 x:Ty.DL ts
 as:aF
 y:aX as.aW
def amD:(as:aF)->aX as.aW->Option SHd
 |[(.agg,ts)],x=>some ⟨ts,x,[],()⟩
 |(.agg,ts)::b::as,x=>some ⟨ts,x.1,b::as,x.2⟩
 |_,_=>none
theorem aAF:∀{as:aF} {x:aX as.aW} {q:SHd},amD as x=some q->dG as x=(.agg,Ty.aE q.ts q.x)::dG q.as q.y
 |[(.agg,ts)],x,q,h=>by injection h with h;subst h;rfl
 |(.agg,ts)::b::as,x,q,h=>by injection h with h;subst h;rfl
 |[],x,q,h=>by cases h
 |[(.one,ts)],x,q,h=>by cases h
 |[(.ptr,ts)],x,q,h=>by cases h
 |(.one,ts)::b::as,x,q,h=>by cases h
 |(.ptr,ts)::b::as,x,q,h=>by cases h
theorem af7 (m:Mode) (σ:St) (nm:Nat):∀{l:List C},Am.gz l=true->σ.imp m nm l=some (l.map .c,nm,σ)
 |[],_=>rfl
 |c::l,h=>by simp only[Am.gz,zar,BY] at h;have a:=af7 m σ nm (l:=l) h.2;cases c with|list sz xs=>cases h.1|int k n=>simp only[St.imp,a,co]|bool b=>simp only[St.imp,a,co]
def UQ (ts:List Ty) (x:Ty.DL ts):List (Bool×List SC)->SV
 |[]=>.arr ts x []
 |l=>.oR ts x l
theorem aog (ts:List Ty) (x:Ty.DL ts) (l:List (Bool×List SC)):(UQ ts x l).er=oM ((true,(Ty.aE ts x).map .c)::l.map fun x=>(x.1,x.2.map SC.er)):=by cases l with|nil=>simp[UQ,SV.er,oM,rT]|cons a l=>rfl
def Z8 (T:List ax) (m:Mode) (d:Option Nat) (f:FuncId) (as:List SV) (σ:ai) (k:ai->Option ρ):Option ρ:=
 match ax.find T f with
 |some fn=>match fn.mu.gy with
  |0=>F4 σ.h as fun ds=>match qb fn.args ds with
   |some x=>(fn.F x).ab fun rs=>match amD fn.aC rs with
    |some q=>fj (Ty.gz q.ts) (match zu m σ (sI d) (kM q.as q.y) with
     |some (ls,σ1)=>k (σ1.put d (UQ q.ts q.x ls))
     |none=>none)
    |none=>none
   |none=>none
  |_=>none
 |none=>none
theorem aAc {T:List ax} {m:Mode} {d:Option Nat} {f:FuncId} {as:List SV} {σ:ai} {k:ai->Option ρ} {r:ρ} (h:Z8 T m d f as σ k=some r): ∃σ1:ai,qy (dB T) m d f (as.map SV.er) σ.er=some σ1.er/\k σ1=some r:=by unfold Z8 at h;split at h;rename_i fn b;split at h;rename_i s;obtain⟨ds,l,a⟩:=NH h;split at a;rename_i x hx;rw[fI] at a;obtain⟨o,n,a⟩:=a;split at a;rename_i q i;have hb:=(cv a).1;replace a:=(cv a).2;split at a;rename_i j σ1 hs;refine⟨_,?_,a⟩;have e:=FN m hs;rw[wX] at e;have p:mS σ.er.h (as.map SV.er)=some (ds.map cD.er):=l;have hi:St.imp m σ.er (sI d) (Ty.aE q.ts q.x)=some ((Ty.aE q.ts q.x).map .c,sI d,σ.er):=af7 m _ _ (by rw[Ty.FI];exact hb);have g:σ.er.mb m (sI d) (dG fn.aC o)=some ((true,(Ty.aE q.ts q.x).map .c)::j.map (fun x=>(x.1,x.2.map SC.er)),σ1.er):=(by rw[aAF i];simp only[St.mb,hi,e];rfl);simp only[qy,p,ax.KU b s,tI hx,ax.vg,n,so,g,ai.eX,aog];cases a;cases a;cases a;cases h;cases h
def QL:(as:aF)->(ts:List Ty)->Ty.DL ts->List cD->Option (aX as.aW)
 |[],_,_,_=>none
 |(kk,us)::as,ts,y,ds=>fj (K.beq kk .agg) (match Ty.uk ts us y,qb as ds with
  |some x,some z=>some (Ec us (aF.aW as) x z)
  |_,_=>none)
theorem ahf:∀{as:aF} {ts:List Ty} {y:Ty.DL ts} {ds:List cD} {x:aX as.aW},QL as ts y ds=some x->(K.agg,Ty.aE ts y)::ds.map cD.er=dG as x
 |[],ts,y,ds,x,h=>by cases h
 |(kk,us)::as,ts,y,ds,x,h=>by simp only[QL] at h;have c:=K.beq_eq (cv h).1;replace h:=(cv h).2;subst c;split at h;rename_i a b d e;injection h with h;subst h;have:=KO (.agg,us) as a b;rw[this,(Ty.acE d).1,tI e];cases h
theorem ans (h:Nat->Option aA):∀(l:List C),ie h (l.map .c)=some l
 |[]=>rfl
 |c::l=>by simp only[co,ie,dE,ans h l]
def Z1 (T:List ax) (m:Mode) (d:Option Nat) (f:FuncId) (ts:List Ty) (y:Ty.DL ts) (as:List SV) (σ:ai) (k:ai->Option ρ):Option ρ:=
 match ax.find T f with
 |some fn=>match fn.mu.gy with
  |0=>F4 σ.h as fun ds=>match QL fn.args ts y ds with
   |some x=>(fn.F x).ab fun rs=>match zu m σ (sI d) (kM fn.aC rs) with
    |some (ls,σ1)=>k (σ1.put d (Bi ls))
    |none=>none
   |none=>none
  |_=>none
 |none=>none
theorem az5 {T:List ax} {m:Mode} {d:Option Nat} {f:FuncId} {ts:List Ty} {y:Ty.DL ts} {as:List SV} {σ:ai} {k:ai->Option ρ} {r:ρ} (h:Z1 T m d f ts y as σ k=some r): ∃σ1:ai,qy (dB T) m d f ((SV.arr ts y []).er::as.map SV.er) σ.er=some σ1.er/\k σ1=some r:=by unfold Z1 at h;split at h;rename_i fn b;split at h;rename_i l;obtain⟨ds,c,a⟩:=NH h;split at a;rename_i x hx;rw[fI] at a;obtain⟨rs,i,a⟩:=a;split at a;rename_i ls σ1 hs;refine⟨_,?_,a⟩;have e:=FN m hs;rw[wX] at e;have j:mS σ.er.h ((SV.arr ts y []).er::as.map SV.er)=some ((K.agg,Ty.aE ts y)::ds.map cD.er):=(by have g:mS σ.er.h (as.map SV.er)=some (ds.map cD.er):=c;simp only[mS,SV.er,zag,zap,ko,ans,so,g]);simp only[qy,j,ax.KU b l,ahf hx,ax.vg,i,so,e,ai.eX,Ds];cases a;cases a;cases h;cases h
def Fm:(as:aF)->(ts:List Ty)->Ty.DL ts->List TD->List cD->Option (aX as.aW)
 |[],_,_,_,_=>none
 |(kk,us)::as,ts,y,l,ds=>fj (K.beq kk .ptr) (match Ty.uk ts (us.take ts.length) y,pt (us.drop ts.length) l,qb as ds with
  |some x,some z,some w=>some (Ec us (aF.aW as) (OA ts.length us x z) w)
  |_,_,_=>none)
theorem QM:∀{as:aF} {ts:List Ty} {y:Ty.DL ts} {l:List TD} {ds:List cD} {x:aX as.aW},Fm as ts y l ds=some x->(K.ptr,Ty.aE ts y++du l)::ds.map cD.er=dG as x
 |[],ts,y,l,ds,x,h=>by cases h
 |(kk,us)::as,ts,y,l,ds,x,h=>by simp only[Fm] at h;have e:=K.beq_eq (cv h).1;replace h:=(cv h).2;subst e;split at h;rename_i a b c f g d;injection h with h;subst h;have:=KO (.ptr,us) as (OA ts.length us a b) c;rw[this,show Ty.aE us (OA ts.length us a b)=_ from acG ts.length us a b,(Ty.acE f).1,xE g,tI d];cases h
theorem SS {h:Nat->Option aA} {cs:List aj} {m:List C} (a:ie h cs=some m):∀(l:List C),ie h (l.map .c++cs)=some (l++m)
 |[]=>a
 |c::l=>by simp only[co,za6,ie,dE,SS a l]
structure J8 where
 n:Nat
 ts:List Ty
 y:Ty.DL ts
 cs:List SC
def GK (h:Nat->Option SB) (v:SV):Option J8:=
 match v with
 |.one (.ptr n kk sz off)=>match kk,off with
  |0,0=>match h n with
   |some (.ef ts y cs)=>some ⟨n,ts,y,cs⟩
   |_=>none
  |_,_=>none
 |_=>none
theorem Og {h:Nat->Option SB} {v:SV} {q:J8} (e:GK h v=some q):h q.n=some (.ef q.ts q.y q.cs)/\∃sz,v=.one (.ptr q.n 0 sz 0):=by unfold GK at e;split at e;rename_i n kk sz off;split at e;split at e;rename_i ts y cs hn;injection e with e;subst e;exact⟨hn,sz,rfl⟩;cases e;cases e;cases e
def Z6 (T:List ax) (m:Mode) (d:Option Nat) (f:FuncId) (p:SV) (as:List SV) (σ:ai) (k:ai->Option ρ):Option ρ:=
 match ax.find T f,GK σ.h p with
 |some fn,some q=>match fn.mu.gy with
  |0=>ww σ.h q.cs fun l=>F4 σ.h as fun ds=>match Fm fn.args q.ts q.y l ds with
   |some x=>(fn.F x).ab fun rs=>match zu m σ (sI d) (kM fn.aC rs) with
    |some (ls,σ1)=>k (σ1.put d (Bi ls))
    |none=>none
   |none=>none
  |_=>none
 |_,_=>none
theorem aAa {T:List ax} {m:Mode} {d:Option Nat} {f:FuncId} {p:SV} {as:List SV} {σ:ai} {k:ai->Option ρ} {r:ρ} (h:Z6 T m d f p as σ k=some r): ∃σ1:ai,qy (dB T) m d f (p.er::as.map SV.er) σ.er=some σ1.er/\k σ1=some r:=by unfold Z6 at h;split at h;rename_i fn q b i;obtain⟨hn,sz,rfl⟩:=Og i;split at h;rename_i w;obtain⟨l,j,h⟩:=zy h;obtain⟨ds,s,a⟩:=NH h;split at a;rename_i x hx;rw[fI] at a;obtain⟨rs,u,a⟩:=a;split at a;rename_i ls σ1 hs;refine⟨_,?_,a⟩;have e:=FN m hs;rw[wX] at e;have v:mS σ.er.h ((SV.one (.ptr q.n 0 sz 0)).er::as.map SV.er)=some ((K.ptr,Ty.aE q.ts q.y++du l)::ds.map cD.er):=(by have t:mS σ.er.h (as.map SV.er)=some (ds.map cD.er):=s;have o:σ.er.h q.n=some (.box ((Ty.aE q.ts q.y).map .c++q.cs.map SC.er)):=(by simp[ai.er,dT,hn,SB.er]);have g:ie σ.er.h ((Ty.aE q.ts q.y).map .c++q.cs.map SC.er)=some (Ty.aE q.ts q.y++du l):=SS j _;simp only[mS,SV.er,SC.er,ko,o,and_self,if_true,g,so,t]);simp only[qy,v,ax.KU b w,QM hx,ax.vg,u,so,e,ai.eX,Ds];cases a;cases a;cases h;cases h
def FL:List cD->Option (List (Bool×List SC))
 |[]=>some []
 |(k,cs)::ds=>match k.tA with
  |true=>none
  |false=>match FL ds with
   |some ls=>some ((k.isAgg,cs.map fun x=>SC.v x.1 x.2)::ls)
   |none=>none
theorem Ru:∀{ds:List cD} {a:List (Bool×List SC)},FL ds=some a->mB (ds.map cD.er)=some (a.map fun x=>(x.1,x.2.map SC.er))
 |[],a,h=>by simp only[FL] at h;injection h with h;subst h;rfl
 |(k,cs)::ds,a,h=>by simp only[FL] at h;split at h;cases h;rename_i d;split at h;rename_i Mw e;injection h with h;subst h;have i2:=Ru e;have b:(du cs).map aj.c=(cs.map fun x=>SC.v x.1 x.2).map SC.er:=(by simp[du,SC.er]);(cases k with|ptr=>cases d|one=>simp only[co,cD.er,mB];rw[show mB (By cD.er ds)=_ from i2];simp only;rw[b];rfl|agg=>simp only[co,cD.er,mB];rw[show mB (By cD.er ds)=_ from i2];simp only;rw[b];rfl);cases h
def Ty.yn:Ty->Bool
 |.list ts=>Ty.gz ts
 |_=>true
def abo:Mode->List Ty->Bool
 |.aS,ts=>Ty.gz ts
 |.live,ts=>ts.all Ty.yn
 |.aQ,_=>false
theorem FH (ts:List Ty) (xs:List (Ty.DL ts)) (h:Ty.gz ts=true):iV (By (Ty.aE ts) xs)=true:=by simp only[iV,zat,zac];rintro e ⟨x,_,rfl⟩;rw[Ty.FI];exact h
theorem adw (t:Ty) (x:t.D) (h:Ty.yn t=true):C.yn (t.er x)=true:=by cases t with|int k=>rfl|bool=>rfl|list ts=>exact FH ts x h
theorem adv:∀(ts:List Ty) (x:Ty.DL ts),ts.all Ty.yn=true->(Ty.aE ts x).all C.yn=true
 |[],_,_=>rfl
 |[t],x,h=>by simp only[zar,za3,zaQ] at h;simp only[Ty.aE,zar,za3,zaQ];exact adw t x h
 |t::u::ts,x,h=>by simp only[zar (a:=t),BY] at h;simp only[Ty.aE,zar (a:=Ty.er t x.1),BY];exact⟨adw t x.1 h.1,adv (u::ts) x.2 h.2⟩
theorem ael (m:Mode) (ts:List Ty) (xs:List (Ty.DL ts)) (h:abo m ts=true):yq m (By (Ty.aE ts) xs)=true:=by cases m with|aQ=>cases h|aS=>exact FH ts xs h|live=>simp only[yq,zat,zac];rintro e ⟨x,_,rfl⟩;have:=adv ts x h;simpa[zat] using this
def Mode.Mc:Mode->Bool
 |.live=>true
 |_=>false
def Mode.agf:Mode->Bool
 |.aS=>true
 |_=>false
def aaC (h:Nat->Option SB) (md:Mode) (c:SC) (k:eK->(t:Ty)->t.D->Option ρ):Option ρ:=
 match c with
 |.nil ts=>match ts with
  |[]=>none
  |t::us=>fj md.own (k (.nil (us.length+1)) (.list (t::us)) ([]:List (Ty.DL (t::us))))
 |.sl n sz lo len=>match h n with
  |some (.row gr m ts xs)=>fj (m.own&&((!md.Mc||m.Mc)&&(abo md ts&&(!m.Mc|| !gr)))) (dr ts.length sz ((bh lo len (ae xs)).ab fun _=>k (.row n) (.list ts) xs))
  |_=>none
 |.cF n kk aO off sz len=>match h n with
  |some (.row false .live ts xs)=>fj md.agf (dr ts.length aO ((bW xs kk).ab fun e=>match(Ty.gU ts e)[off]? with
   |some ⟨.list us,ys⟩=>fj (Ty.gz us) (k (.nest n kk off) (.list us) ys)
   |_=>none))
  |_=>none
 |_=>none
theorem aAu {h:Nat->Option SB} {a:Mode} {c:SC} {k:eK->(t:Ty)->t.D->Option ρ} {r:ρ} (hx:aaC h a c k=some r): ∃(it:eK) (t:Ty) (x:t.D),xD (dT h) a c.er=some (it,t.er x)/\k it t x=some r:=by unfold aaC at hx;split at hx;split at hx;cases hx;rename_i t us;have hm:=(cv hx).1;replace hx:=(cv hx).2;refine⟨_,.list (t::us),[],?_,hx⟩;have d:a≠ .aQ:=(by rintro rfl;cases hm);simp[SC.er,xD,Ty.er,d];rename_i n sz lo len;split at hx;rename_i gr m ts xs hn;have hm:=(cv hx).1;replace hx:=(cv hx).2;have f:=(br hx).1;replace hx:=(br hx).2;subst f;rw[fI] at hx;obtain⟨_,b,hx⟩:=hx;have o:lo=0/\len=ae xs:=(by unfold bh at b;split at b;assumption;cases b);obtain⟨rfl,rfl⟩:=o;simp only[BY] at hm;have d:m≠ .aQ:=(by rintro rfl;cases hm.1);have p:a=.live->m=.live:=(by rintro rfl;have:=hm.2.1;cases m<;>first|rfl|(simp[Mode.Mc] at this));refine⟨_,.list ts,xs,?_,hx⟩;simp only[SC.er,xD,dT,hn,so,SB.er,Ty.er];rw[ah ⟨d,p,trivial,trivial,(wt (Ty.aE ts)).symm,ael a ts xs hm.2.2.1,fun hl=>by have:=hm.2.2.2;subst hl;simpa[Mode.Mc] using this⟩];cases hx;rename_i n i aO off sz len;split at hx;rename_i ts xs hn;have hm:=(cv hx).1;replace hx:=(cv hx).2;have f:=(br hx).1;replace hx:=(br hx).2;subst f;rw[fI] at hx;obtain⟨e,g,hx⟩:=hx;replace g:xs[i]? =some e:=g;split at hx;rename_i us ys hd;have hs:=(cv hx).1;replace hx:=(cv hx).2;refine⟨_,.list us,ys,?_,hx⟩;have j:a=.aS:=(by cases a<;>first|rfl|(simp[Mode.agf] at hm));have l:=VA hd;simp only[SC.er,xD,dT,hn,so,SB.er,AN,g,zau,l,Ty.er,j,and_self,if_true];rw[ah (FH us ys hs)];cases hx;cases hx;cases hx
def SC.nm:SC->List Nat
 |.sl n _ _ _=>[n]
 |.cF n _ _ _ _ _=>[n]
 |_=>[]
theorem SC.axk (c:SC):c.er.fV.toList=c.nm:=by cases c<;>rfl
def I9:List (Option Mode)->List SC->List Nat
 |some _::fs,c::cs=>c.nm++I9 fs cs
 |none::fs,_::cs=>I9 fs cs
 |_,_=>[]
theorem aaD:∀(a:List (Option Mode)) (cs:List SC),rH a (cs.map SC.er)=I9 a cs
 |some m::a,c::cs=>by simp only[co,rH,I9,SC.axk,aaD a cs]
 |none::a,c::cs=>by simp only[co,rH,I9,aaD a cs]
 |[],cs=>by cases cs<;>rfl
 |some m::a,[]=>rfl
 |none::a,[]=>rfl
def Dq:cR->List (Bool×List SC)->List Nat
 |s::sig,a::as=>I9 s a.2++Dq sig as
 |_,_=>[]
theorem Si:∀(sig:cR) (as:List (Bool×List SC)),sH sig (as.map fun x=>(x.1,x.2.map SC.er))=Dq sig as
 |s::sig,a::as=>by simp only[co,sH,Dq,aaD,Si sig as]
 |[],as=>by cases as<;>rfl
 |s::sig,[]=>rfl
def Nq (h:Nat->Option SB) (ns:List Nat):Nat->Option SB:=fun n=>match ns.contains n with|true=>none|false=>h n
theorem aaq (h:Nat->Option SB) (ns:List Nat):dT (Nq h ns)=fv (dT h) ns:=by funext n;simp only[dT,Nq,fv];cases hc:ns.contains n<;>simp[hc]
def Bh (h h0:Nat->Option SB):List (Option Mode)->List SC->(List TD->List (eK×Mode)->Option ρ)->Option ρ
 |[],cs,k=>ww h0 cs fun l=>k l []
 |none::fs,c::cs,k=>Dy h0 c fun t x=>Bh h h0 fs cs fun l its=>k (⟨t,x⟩::l) its
 |some md::fs,c::cs,k=>aaC h md c fun it t x=>Bh h h0 fs cs fun l its=>k (⟨t,x⟩::l) ((it,md)::its)
 |_::_,[],_=>none
theorem aaB {h i:Nat->Option SB}:∀{b:List (Option Mode)} {cs:List SC} {k:List TD->List (eK×Mode)->Option ρ} {r:ρ},Bh h i b cs k=some r-> ∃l a,nY (dT h) (dT i) b (cs.map SC.er)=some (du l,a)/\k l a=some r
 |[],cs,k,r,hx=>by simp only[Bh] at hx;obtain⟨l,d,e⟩:=zy hx;exact⟨l,[],by simp only[nY,d],e⟩
 |none::b,c::cs,k,r,hx=>by simp only[Bh] at hx;obtain⟨t,x,d,e⟩:=Jo hx;obtain⟨l,a,f,g⟩:=aaB e;exact⟨⟨t,x⟩::l,a,by simp only[co,nY,d,f,du],g⟩
 |some md::b,c::cs,k,r,hx=>by simp only[Bh] at hx;obtain⟨it,t,x,d,e⟩:=aAu hx;obtain⟨l,a,f,g⟩:=aaB e;exact⟨⟨t,x⟩::l,(it,md)::a,by simp only[co,nY,d,f,du],g⟩
 |none::b,[],k,r,hx=>by simp[Bh] at hx
 |some md::b,[],k,r,hx=>by simp[Bh] at hx
def Qj:Bool->K
 |true=>.agg
 |false=>.one
def Ja (h h0:Nat->Option SB):cR->List (Bool×List SC)->(List cD->List (eK×Mode)->Option ρ)->Option ρ
 |_,[],k=>k [] []
 |sig,(ag,cs)::as,k=>Bh h h0 sig.hd cs fun l its=>Ja h h0 sig.tl as fun ds Az=>k ((Qj ag,l)::ds) (its++Az)
theorem Sj {h b:Nat->Option SB}:∀{as:List (Bool×List SC)} {sig:cR} {k:List cD->List (eK×Mode)->Option ρ} {r:ρ},Ja h b sig as k=some r-> ∃ds a,qc (dT h) (dT b) sig (as.map fun x=>(x.1,x.2.map SC.er))=some (ds.map cD.er,a)/\k ds a=some r
 |[],sig,k,r,hx=>⟨[],[],by simp only[zag,qc],hx⟩
 |(ag,cs)::as,sig,k,r,hx=>by simp only[Ja] at hx;obtain⟨l,a,c,f⟩:=aaB hx;obtain⟨ds,Az,d,e⟩:=Sj f;refine⟨_,_,?_,e⟩;simp only[co,qc,c,d,cD.er];cases ag<;>rfl
def FQ:List SV->Option (List (Bool×List SC))
 |[]=>some []
 |v::vs=>match v.cells?,FQ vs with
  |some x,some xs=>some (x::xs)
  |_,_=>none
theorem Sf:∀{as:List SV} {a:List (Bool×List SC)},FQ as=some a->u0 (as.map SV.er)=some (a.map fun x=>(x.1,x.2.map SC.er))
 |[],a,h=>by simp only[FQ] at h;injection h with h;subst h;rfl
 |v::vs,a,h=>by simp only[FQ] at h;split at h;rename_i x xs c d;injection h with h;subst h;obtain⟨b,cs⟩:=x;simp only[co,u0,SV.nz c,Sf d];cases h
def Rw (ts:List Ty) (e:Ty.DL ts) (off:Nat) (x:TD):Option (Ty.DL ts):=pt ts ((Ty.gU ts e).set off x)
theorem al4 {ts:List Ty} {e a:Ty.DL ts} {off:Nat} {x:TD} (h:Rw ts e off x=some a):Ty.aE ts a=(Ty.aE ts e).set off (x.1.er x.2):=by have:=xE h;rw[this,du,zao,<-Ty.pQ ts e];rfl
def aaL (σ:ai) (it:eK) (x:TD) (k:ai->Option ρ):Option ρ:=
 match it with
 |.nil _=>k σ
 |.row n=>match x with
  |⟨.list ts,xs⟩=>match σ.h n with
   |some (.row gr m us _)=>dr us.length ts.length (k (σ.fh n (.row gr m ts xs)))
   |_=>none
  |_=>none
 |.nest n kk off=>match σ.h n with
  |some (.row gr m us xs)=>(bW xs kk).ab fun e=>match Rw us e off x with
   |some e'=>k (σ.fh n (.row gr m us (be xs kk e')))
   |none=>none
  |_=>none
theorem aAJ {σ:ai} {it:eK} {x:TD} {k:ai->Option ρ} {r:ρ} (hx:aaL σ it x k=some r):∃σ1,σ.er.sL it (x.1.er x.2)=some σ1.er/\k σ1=some r:=by unfold aaL at hx;split at hx;exact⟨σ,rfl,hx⟩;rename_i n;split at hx;rename_i ts xs;split at hx;rename_i c m us ys hn;have f:=(br hx).1;replace hx:=(br hx).2;refine⟨_,?_,hx⟩;have b:σ.er.h n=some (.row c m us.length (By (Ty.aE us) ys)):=(by simp[ai.er,dT,hn,SB.er]);simp only[St.sL,Ty.er,b,f,if_true,ai.qC,SB.er];cases hx;cases hx;rename_i n d off;split at hx;rename_i c m us xs hn;rw[fI] at hx;obtain⟨e,a,hx⟩:=hx;replace a:xs[d]? =some e:=a;split at hx;rename_i e' hs;refine⟨_,?_,hx⟩;have b:σ.er.h n=some (.row c m us.length (By (Ty.aE us) xs)):=(by simp[ai.er,dT,hn,SB.er]);simp only[St.sL,b,AN,a,so,ai.qC,SB.er,be,zao,al4 hs];cases hx;cases hx
def FW (σ:ai):List (eK×Mode)->List TD->(ai->Option ρ)->Option ρ
 |[],[],k=>k σ
 |it::its,x::xs,k=>aaL σ it.1 x fun σ1=>FW σ1 its xs k
 |_,_,_=>none
theorem aaM:∀{a:List (eK×Mode)} {xs:List TD} {σ:ai} {k:ai->Option ρ} {r:ρ},FW σ a xs k=some r->∃σ1,σ.er.tO a (du xs)=some σ1.er/\k σ1=some r
 |[],[],σ,k,r,hx=>⟨σ,rfl,hx⟩
 |it::a,x::xs,σ,k,r,hx=>by simp only[FW] at hx;obtain⟨σ1,c,e⟩:=aAJ hx;obtain⟨σ2,b,d⟩:=aaM e;refine⟨σ2,?_,d⟩;simp only[du] at b;simp only[du,co,St.tO,c,b]
 |[],_::_,σ,k,r,hx=>by simp[FW] at hx
 |_::_,[],σ,k,r,hx=>by simp[FW] at hx
def MI:List Nat->Bool
 |[]=>true
 |n::l=> !(l.contains n)&&MI l
theorem Y9:∀{l:List Nat},MI l=true->l.Nodup
 |[],_=>List.nodup_nil
 |n::l,h=>by simp only[MI,BY,zaM] at h;rw[List.nodup_cons];refine⟨fun hm=>?_,Y9 h.2⟩;have:l.contains n=true:=(by simpa using hm);rw[this] at h;cases h.1
def Z5 (T:List ax) (m:Mode) (d:Option Nat) (f:FuncId) (as:List SV) (σ:ai) (k:ai->Option ρ):Option ρ:=
 match ax.find T f with
 |some fn=>match fn.mu.gy with
  |1=>match FQ as with
   |some fQ=>fj (MI (Dq fn.mu fQ)) (Ja σ.h (Nq σ.h (Dq fn.mu fQ)) fn.mu fQ fun ds its=>match qb fn.args ds with
    |some x=>(fn.F x).ab fun y=>FW σ its (((kM fn.aC y).drop (fn.aC.length - fn.mu.r8)).flatMap (·.2)) fun σ1=>match zu m σ1 (sI d) ((kM fn.aC y).take (fn.aC.length - fn.mu.r8)) with
     |some (ls,σ2)=>k (σ2.put d (Bi ls))
     |none=>none
    |none=>none)
   |none=>none
  |_=>none
 |none=>none
theorem Jd (k:Nat) (l:List cD):tS k (l.map cD.er)=((l.take k).map cD.er,du ((l.drop k).flatMap (·.2))):=by simp only[tS,<-zax,<-zaP];congr 1;induction l.drop k with|nil=>rfl|cons d l a=>simp only[co,List.flatMap_cons,a,du,zaU,cD.er]
theorem az9 {T:List ax} {m:Mode} {d:Option Nat} {f:FuncId} {as:List SV} {σ:ai} {k:ai->Option ρ} {r:ρ} (h:Z5 T m d f as σ k=some r): ∃σ1:ai,vm (dB T) m d f (as.map SV.er) σ.er=some σ1.er/\k σ1=some r:=by unfold Z5 at h;split at h;rename_i fn g;split at h;rename_i q;split at h;rename_i fQ l;have o:=Y9 (cv h).1;replace h:=(cv h).2;obtain⟨ds,its,c,a⟩:=Sj h;split at a;rename_i x hx;rw[fI] at a;obtain⟨y,n,a⟩:=a;obtain⟨σ1,p,b⟩:=aaM a;split at b;rename_i ls σ2 hs;refine⟨_,?_,b⟩;have e:=FN m hs;have i:fn.MM (dG fn.args x)=some (((kM fn.aC y).take (fn.aC.length - fn.mu.r8)).map cD.er,du (((kM fn.aC y).drop (fn.aC.length - fn.mu.r8)).flatMap (·.2))):=(by unfold ax.MM;rw[ax.vg,n];simp only[so];rw[<-wX,Jd]);have j:σ.er.h=dT σ.h:=rfl;rw[aaq] at c;simp only[vm,ax.aei g q,Sf l,Si,ah o,j,c,tI hx,i,p,e,ai.eX,Ds];cases b;cases a;cases h;cases h;cases h
def Dn:List SC->Option (List TD)
 |[]=>some []
 |.v t x::cs=>match Dn cs with
  |some l=>some (⟨t,x⟩::l)
  |none=>none
 |.nil (t::us)::cs=>match Dn cs with
  |some l=>some (⟨.list (t::us),([]:List (Ty.DL (t::us)))⟩::l)
  |none=>none
 |_::_=>none
theorem Nr:∀{cs:List SC} {l:List TD},Dn cs=some l->oG (cs.map SC.er)=some (du l)
 |[],l,h=>by simp only[Dn] at h;injection h with h;subst h;rfl
 |c::cs,l,h=>by unfold Dn at h;split at h;rename_i e;cases e;rename_i t x cs' e;injection e with a e2;subst a e2;split at h;rename_i b e;injection h with h;subst h;simp only[co,oG,SC.er,su,Nr e,du];cases h;rename_i t us cs' e;injection e with a e2;subst a e2;split at h;rename_i b e;injection h with h;subst h;simp[oG,SC.er,su,Nr e,du,Ty.er];cases h;cases h
def ZY (h:Nat->Option SB) (n kk off:Nat):Option (List TD):=
 match kk,off with
 |0,0=>match h n with
  |some (.box cs)=>Dn cs
  |_=>none
 |_,_=>none
theorem azZ {h:Nat->Option SB} {n a sz off:Nat} {l:List TD} (e:ZY h n a off=some l):pI (dT h) (SV.er (.one (.ptr n a sz off)))=some (n,du l):=by unfold ZY at e;split at e;split at e;rename_i cs hn;simp[SV.er,SC.er,pI,dT,hn,SB.er,Nr e];cases e;cases e
def SV.qP:SV->Option (Nat×Nat×Nat)
 |.one (.ptr n kk _ off)=>some (n,kk,off)
 |_=>none
theorem ay4 {v:SV} (h:v.qP=none) (a:Nat->Option aA):pI a v.er=none:=by cases v with|one c=>(cases c<;>first|rfl|(simp[SV.qP] at h))|agg cs=>rfl|ct xs=>rfl|arr ts x cs=>rfl|oR ts x xs=>rfl
theorem ajZ {v:SV} {n a off:Nat} (h:v.qP=some (n,a,off)):∃sz,v=.one (.ptr n a sz off):=by cases v with|one c=>cases c<;>simp[SV.qP] at h;obtain⟨rfl,rfl,rfl⟩:=h;exact⟨_,rfl⟩|agg cs=>simp[SV.qP] at h|ct xs=>simp[SV.qP] at h|arr ts x cs=>simp[SV.qP] at h|oR ts x xs=>simp[SV.qP] at h
def FG (σ:ai):List SV->(List cD->List Nat->ai->Option ρ)->Option ρ
 |[],k=>k [] [] σ
 |v::vs,k=>match v.qP with
  |some (n,kk,off)=>match ZY σ.h n kk off with
   |some l=>FG σ vs fun ds ns σ1=>k ((.ptr,l)::ds) (n::ns) σ1
   |none=>none
  |none=>match v.cells? with
   |some (ag,cs)=>Jk σ cs fun l _ σ1=>FG σ1 vs fun ds ns σ2=>k ((Qj ag,l)::ds) ns σ2
   |none=>none
theorem Nl:∀{vs:List SV} {σ:ai} {k:List cD->List Nat->ai->Option ρ} {r:ρ},FG σ vs k=some r-> ∃ds ns σ1,σ.er.kw (vs.map SV.er)=some (ds.map cD.er,ns,σ1.er)/\k ds ns σ1=some r
 |[],σ,k,r,h=>⟨[],[],σ,rfl,h⟩
 |v::vs,σ,k,r,h=>by simp only[FG] at h;split at h;rename_i n kk off c;obtain⟨sz,rfl⟩:=ajZ c;split at h;rename_i l hl;obtain⟨ds,ns,σ1,b,a⟩:=Nl h;refine⟨_,_,σ1,?_,a⟩;have:=azZ (sz:=sz) hl;have e:σ.er.h=dT σ.h:=rfl;simp only[co,St.kw,e,this,b,cD.er];cases h;rename_i c;split at h;rename_i ag cs f;obtain⟨l,o,σ1,b,a⟩:=Sy h;obtain⟨ds,ns,σ2,g,d⟩:=Nl a;refine⟨_,_,σ2,?_,d⟩;simp only[co,St.kw,ay4 c,SV.nz f,b,g,cD.er];cases ag<;>rfl;cases h
def aaK (σ:ai) (ns:List Nat) (out:List TD) (k:ai->Option ρ):Option ρ:=
 match ns,out with
 |[],[]=>k σ
 |[n],out=>match σ.h n with
  |some (.box cs)=>dr cs.length out.length (k (σ.fh n (.box (out.map fun x=>.v x.1 x.2))))
  |_=>none
 |_,_=>none
theorem abu (out:List TD):(out.map fun x=>SC.v x.1 x.2).map SC.er=(du out).map .c:=by simp[du,SC.er]
theorem aAI {σ:ai} {ns:List Nat} {out:List TD} {k:ai->Option ρ} {r:ρ} (h:aaK σ ns out k=some r):∃σ1,σ.er.tN ns (du out)=some σ1.er/\k σ1=some r:=by unfold aaK at h;split at h;exact⟨σ,rfl,h⟩;rename_i n;split at h;rename_i cs hn;have a:=(br h).1;replace h:=(br h).2;refine⟨_,?_,h⟩;have b:σ.er.h n=some (.box (cs.map SC.er)):=(by simp[ai.er,dT,hn,SB.er]);simp only[St.tN,b,wt];rw[ah (by rw[a,du,wt]),ai.qC,SB.er,abu];cases h;cases h
def cD.qP:List cD->Option (List TD)
 |[(.ptr,cs)]=>some cs
 |_=>none
theorem aAf {a:List cD} {cs:List TD} (h:cD.qP a=some cs):a=[(.ptr,cs)]:=by unfold cD.qP at h;split at h;injection h with h;rw[h];cases h
def ZZ (σ:ai) (d:Option Nat) (rs:List cD) (k:ai->Option ρ):Option ρ:=
 match cD.qP rs with
 |some cs=>match d with
  |some q=>match σ.ins q (.box (cs.map fun x=>.v x.1 x.2)) with
   |some σ1=>k (σ1.put d (.one (.ptr q 0 0 0)))
   |none=>none
  |none=>none
 |none=>match FL rs with
  |some ls=>k (σ.put d (Bi ls))
  |none=>none
theorem az0 {σ:ai} {d:Option Nat} {a:List cD} {k:ai->Option ρ} {r:ρ} (h:ZZ σ d a k=some r):∃σ1,rZ σ.er d (a.map cD.er)=some σ1.er/\k σ1=some r:=by
 unfold ZZ at h;split at h
 ·rename_i cs hp;have:=aAf hp;subst this;split at h
  ·rename_i q;split at h
   ·rename_i σ1 hi;refine⟨_,?_,h⟩;have e:=ai.uw hi;rw[SB.er,abu] at e;simp only[co,zag,cD.er,rZ,e,ai.eX];rfl
   ·cases h
  ·cases h
 ·split at h
  ·rename_i b hs;refine⟨_,?_,h⟩;have e:=Ru hs;have hb:rZ σ.er d (a.map cD.er)=match mB (a.map cD.er) with
     |some b=>some (σ.er.put d (oM b))
     |none=>none:=by
    unfold rZ;split
    ·rename_i cs c;rw[c] at e;simp[mB] at e
    ·rfl
   rw[hb,e,ai.eX,Ds]
  ·cases h
def Z2 (T:List ax) (d:Option Nat) (f:FuncId) (as:List SV) (σ:ai) (k:ai->Option ρ):Option ρ:=
 match ax.find T f with
 |some fn=>match fn.mu.gy with
  |2=>FG σ as fun ds ns σ1=>match qb fn.args ds with
   |some x=>(fn.F x).ab fun y=>aaK σ1 ns (((kM fn.aC y).drop (fn.aC.length - pu fn.args)).flatMap (·.2)) fun σ2=>ZZ σ2 d ((kM fn.aC y).take (fn.aC.length - pu fn.args)) k
   |none=>none
  |_=>none
 |none=>none
theorem az8 {T:List ax} {d:Option Nat} {f:FuncId} {as:List SV} {σ:ai} {k:ai->Option ρ} {r:ρ} (h:Z2 T d f as σ k=some r): ∃σ1:ai,rc (dB T) d f (as.map SV.er) σ.er=some σ1.er/\k σ1=some r:=by unfold Z2 at h;split at h;rename_i fn b;split at h;rename_i o;obtain⟨ds,ns,σ1,i,a⟩:=Nl h;split at a;rename_i x hx;rw[fI] at a;obtain⟨y,m,a⟩:=a;obtain⟨σ2,n,g⟩:=aAI a;obtain⟨l,j,c⟩:=az0 g;refine⟨l,?_,c⟩;have e:fn.MV (dG fn.args x)=some (((kM fn.aC y).take (fn.aC.length - pu fn.args)).map cD.er,du (((kM fn.aC y).drop (fn.aC.length - pu fn.args)).flatMap (·.2))):=(by unfold ax.MV;rw[ax.vg,m];simp only[so];rw[<-wX,Jd]);simp only[rc,i,ax.Pn b o,tI hx,e,n,j];cases a;cases h;cases h
theorem af5 {cs:List aj} {m:List C} (a:oG cs=some m):∀(l:List C),oG (l.map .c++cs)=some (l++m)
 |[]=>a
 |c::l=>by simp only[co,za6,oG,su,af5 a l]
structure SR2 where
 k:K
 ts:List Ty
 x:Ty.DL ts
 us:List Ty
 z:Ty.DL us
def aaI:(as:aF)->aX as.aW->Option SR2
 |[(k,ts),(.ptr,us)],x=>some ⟨k,ts,x.1,us,x.2⟩
 |_,_=>none
theorem aAH:∀{as:aF} {x:aX as.aW} {q:SR2},aaI as x=some q->dG as x=[(q.k,Ty.aE q.ts q.x),(.ptr,Ty.aE q.us q.z)]/\as.length=2
 |[(k,ts),(.ptr,us)],x,q,h=>by injection h with h;subst h;exact⟨rfl,rfl⟩
 |[],x,q,h=>by cases h
 |[_],x,q,h=>by cases h
 |[(_,_),(.one,_)],x,q,h=>by cases h
 |[(_,_),(.agg,_)],x,q,h=>by cases h
 |(_,_)::(_,_)::_::_,x,q,h=>by simp[aaI] at h
def Kd (n:Nat) (us:List Ty) (z:Ty.DL us):SB:=.ef (us.take n) (Zv n us z) (Ty.cells (us.drop n) (NF n us z))
theorem UI (n:Nat) (us:List Ty) (z:Ty.DL us):(Kd n us z).er=.box ((Ty.aE us z).map .c):=by simp only[Kd,SB.er,Ty.nz];rw[show Ty.aE (us.take n) (Zv n us z)=_ from ajR n us z,show Ty.aE (us.drop n) (NF n us z)=_ from aa5 n us z,<-zaU,List.take_append_drop]
def Z3 (T:List ax) (d:Option Nat) (f:FuncId) (p:SV) (as:List SV) (σ:ai) (k:ai->Option ρ):Option ρ:=
 match ax.find T f,GK σ.h p with
 |some fn,some q=>match fn.mu.gy with
  |2=>match Dn q.cs with
   |some l=>FG σ as fun ds ns σ1=>match ns with
    |[]=>match GK σ1.h p with
     |some q'=>match Fm fn.args q.ts q.y l ds with
      |some x=>(fn.F x).ab fun y=>match aaI fn.aC y with
       |some w=>fj (Ce fn.args) (dr (q'.ts.length+q'.cs.length) w.us.length (match FL [(w.k,Ty.gU w.ts w.x)] with
        |some ls=>k ((σ1.fh q.n (Kd q.ts.length w.us w.z)).put d (Bi ls))
        |none=>none))
       |none=>none
      |none=>none
     |none=>none
    |_::_=>none
   |none=>none
  |_=>none
 |_,_=>none
theorem az6 {T:List ax} {d:Option Nat} {f:FuncId} {p:SV} {as:List SV} {σ:ai} {k:ai->Option ρ} {r:ρ} (h:Z3 T d f p as σ k=some r): ∃σ1:ai,rc (dB T) d f (p.er::as.map SV.er) σ.er=some σ1.er/\k σ1=some r:=by unfold Z3 at h;split at h;rename_i fn q o u;obtain⟨hn,sz,rfl⟩:=Og u;split at h;rename_i K;split at h;rename_i l hl;obtain⟨ds,ns,σ1,E,a⟩:=Nl h;split at a;split at a;rename_i b A;obtain⟨G,ba,i⟩:=Og A;injection i with i;injection i with i _ _ _;split at a;rename_i x hx;rw[fI] at a;obtain⟨y,I,a⟩:=a;split at a;rename_i w s;have B:=(cv a).1;replace a:=(cv a).2;have g:=(br a).1;replace a:=(br a).2;split at a;rename_i m hs;refine⟨_,?_,a⟩;obtain⟨C,H⟩:=aAH s;have D:σ.er.h q.n=some (.box ((Ty.aE q.ts q.y).map .c++q.cs.map SC.er)):=(by simp[ai.er,dT,hn,SB.er]);have t:σ1.er.h q.n=some (.box ((Ty.aE b.ts b.y).map .c++b.cs.map SC.er)):=(by rw[i];simp[ai.er,dT,G,SB.er]);have hb:pI σ.er.h (SV.one (.ptr q.n 0 sz 0)).er=some (q.n,Ty.aE q.ts q.y++du l):=(by simp only[SV.er,SC.er,pI,D,and_self,if_true,af5 (Nr hl)]);have v:fn.MV (dG fn.args x)=some ([(w.k,Ty.aE w.ts w.x)],Ty.aE w.us w.z):=(by unfold ax.MV pu;rw[ax.vg,I,B,H];simp only[so,C,tS];simp);have e:=Ru hs;have j:mB [(w.k,Ty.aE w.ts w.x)]=some (m.map fun x=>(x.1,x.2.map SC.er)):=(by rw[<-e];simp only[co,zag,cD.er,Ty.pQ]);have hr:rZ (σ1.er.fh q.n (.box ((Ty.aE w.us w.z).map .c))) d [(w.k,Ty.aE w.ts w.x)]=some ((σ1.er.fh q.n (.box ((Ty.aE w.us w.z).map .c))).put d (oM (m.map fun x=>(x.1,x.2.map SC.er)))):=(by unfold rZ;split;rename_i cs F;rw[F] at j;simp[mB] at j;rw[j]);have J:((Ty.aE b.ts b.y).map aj.c++b.cs.map SC.er).length=(Ty.aE w.us w.z).length:=(by rw[zaa,wt,wt,Ty.mC,Ty.mC];exact g);simp only[rc,St.kw,hb,E,ax.Pn o K,QM hx,v,St.tN,t,J,if_true,hr,ai.eX,ai.qC,UI,Ds];cases a;cases a;cases a;cases a;cases a;cases h;cases h;cases h
def aaH:(as:aF)->aX as.aW->Option ((us:List Ty)×Ty.DL us)
 |[(.ptr,us)],x=>some ⟨us,x⟩
 |_,_=>none
theorem aAG:∀{as:aF} {x:aX as.aW} {q:(us:List Ty)×Ty.DL us},aaH as x=some q->dG as x=[(.ptr,Ty.aE q.1 q.2)]/\as.length=1
 |[(.ptr,us)],x,q,h=>by injection h with h;subst h;exact⟨rfl,rfl⟩
 |[],x,q,h=>by cases h
 |[(.one,_)],x,q,h=>by cases h
 |[(.agg,_)],x,q,h=>by cases h
 |_::_::_,x,q,h=>by simp[aaH] at h
def Z4 (T:List ax) (d:Option Nat) (f:FuncId) (as:List SV) (σ:ai) (k:ai->Option ρ):Option ρ:=
 match ax.find T f,d with
 |some fn,some q=>match fn.mu.gy with
  |2=>FG σ as fun ds ns σ1=>match ns with
   |[]=>match qb fn.args ds with
    |some x=>(fn.F x).ab fun y=>match aaH fn.aC y with
     |some w=>fj (!Ce fn.args) (match σ1.ins q (Kd 100 w.1 w.2) with
      |some σ2=>k (σ2.put (some q) (.one (.ptr q 0 0 0)))
      |none=>none)
     |none=>none
    |none=>none
   |_::_=>none
  |_=>none
 |_,_=>none
theorem az7 {T:List ax} {d:Option Nat} {f:FuncId} {as:List SV} {σ:ai} {k:ai->Option ρ} {r:ρ} (h:Z4 T d f as σ k=some r): ∃σ1:ai,rc (dB T) d f (as.map SV.er) σ.er=some σ1.er/\k σ1=some r:=by unfold Z4 at h;split at h;rename_i fn q c;split at h;rename_i o;obtain⟨ds,ns,σ1,l,a⟩:=Nl h;split at a;split at a;rename_i x hx;rw[fI] at a;obtain⟨y,n,a⟩:=a;split at a;rename_i w g;have b:=(cv a).1;replace a:=(cv a).2;split at a;rename_i σ2 hi;refine⟨_,?_,a⟩;obtain⟨j,m⟩:=aAG g;rw[zaM] at b;have i:fn.MV (dG fn.args x)=some ([(.ptr,Ty.aE w.1 w.2)],[]):=(by unfold ax.MV pu;rw[ax.vg,n,b,m];simp only[so,j,tS];simp);have e:=ai.uw hi;rw[UI] at e;simp only[rc,l,ax.Pn c o,tI hx,i,St.tN,rZ,e,ai.eX];rfl;cases a;cases a;cases a;cases a;cases h;cases h
def ax.uB (k:Nat):List ax->FuncId->Option ax
 |[],_=>none
 |fn::l,f=>match zaz f fn.id&&zaz fn.mu.gy k with
  |true=>some fn
  |false=>ax.uB k l f
theorem ax.aef:∀{T:List ax} {f:FuncId} {fn:ax},ax.uB 2 T f=some fn->bj.o8 (dB T).vs f=some fn.MV
 |[],f,fn,h=>by simp[ax.uB] at h
 |g::l,f,fn,h=>by simp only[ax.uB] at h;split at h;rename_i e;injection h with h;subst h;rw[BY] at e;have hm:=If e.2;simp only[dB,IN,hm,bj.o8];rw[ah (If e.1)];rename_i e;have b:bj.o8 (dB l).vs f=some fn.MV:=ax.aef h;simp only[dB,IN] at b⊢;by_cases a:g.mu.gy=2;simp only[a,bj.o8];rw[ak (fun d=>by rw[d,a,zaq] at e;cases e)];exact b;split;exact b;rename_i z c;split at c;rename_i i;exact absurd i a;cases c
theorem ax.aeg:∀{T:List ax} {f:FuncId} {fn:ax},ax.uB 3 T f=some fn->bj.w6 (dB T).ws f=some (fn.mu.tl,fn.MW)
 |[],f,fn,h=>by simp[ax.uB] at h
 |g::l,f,fn,h=>by simp only[ax.uB] at h;split at h;rename_i e;injection h with h;subst h;rw[BY] at e;have hm:=If e.2;simp only[dB,IN,hm,bj.w6];rw[ah (If e.1)];rename_i e;have b:bj.w6 (dB l).ws f=some (fn.mu.tl,fn.MW):=ax.aeg h;simp only[dB,IN] at b⊢;by_cases a:g.mu.gy=3;simp only[a,bj.w6];rw[ak (fun d=>by rw[d,a,zaq] at e;cases e)];exact b;split;exact b;rename_i z c;split at c;rename_i i;exact absurd i a;cases c
theorem ax.aeh:∀{T:List ax} {f:FuncId} {fn:ax},ax.uB 4 T f=some fn->bj.w7 (dB T).xs f=some (fn.mu.nq,fn.MX)
 |[],f,fn,h=>by simp[ax.uB] at h
 |g::l,f,fn,h=>by simp only[ax.uB] at h;split at h;rename_i e;injection h with h;subst h;rw[BY] at e;have hm:=If e.2;simp only[dB,IN,hm,bj.w7];rw[ah (If e.1)];rename_i e;have b:bj.w7 (dB l).xs f=some (fn.mu.nq,fn.MX):=ax.aeh h;simp only[dB,IN] at b⊢;by_cases a:g.mu.gy=4;simp only[a,bj.w7];rw[ak (fun d=>by rw[d,a,zaq] at e;cases e)];exact b;split;exact b;rename_i z c;split at c;rename_i i;exact absurd i a;cases c
def aba (T:List cD) (i:Nat):Bool:=match T[i]? with
 |some (.one,[⟨.list [.int .i64],_⟩])=>true
 |_=>false
theorem aA3 {ds:List cD} {i:Nat} (h:aba ds i=true):∃ys,(ds.map cD.er)[i]? =some (.one,[.list 1 ys]):=by unfold aba at h;split at h;rename_i x e;exact⟨_,by rw[AN,e];rfl⟩;cases h
def sdI (a:Int):cD:=(.one,[⟨.int .i64,a⟩])
def aaa (T:List ax) (m:Mode) (d:Option Nat) (f:FuncId) (as:List SV) (σ:ai) (k:ai->Option ρ):Option ρ:=
 match ax.uB 4 T f with
 |some fn=>match as[fn.mu.nq]? with
  |some (.one (.sl n s lo len))=>match σ.h n with
   |some (.row _ _ ts xs)=>dr s 1 (dr ts.length 1 ((bW xs lo).ab fun _=>(cg xs lo len).ab fun _=>match FQ (as.set fn.mu.nq (.one (.sl n 1 0 (ae xs)))) with
    |some fQ=>fj (MI (Dq (oe fn.mu.nq) fQ)) (Ja σ.h (Nq σ.h (Dq (oe fn.mu.nq) fQ)) (oe fn.mu.nq) fQ fun ds its=>fj (aba ds fn.mu.nq) (match qb fn.args (sdI (aM lo)::sdI (aM (aw lo len))::ds) with
     |some x=>(fn.F x).ab fun y=>FW σ its (((kM fn.aC y).drop (fn.aC.length - 1)).flatMap (·.2)) fun σ1=>match zu m σ1 (sI d) ((kM fn.aC y).take (fn.aC.length - 1)) with
      |some (ls,σ2)=>k (σ2.put d (Bi ls))
      |none=>none
     |none=>none))
    |none=>none))
   |_=>none
  |_=>none
 |none=>none
theorem aAe {T:List ax} {m:Mode} {d:Option Nat} {f:FuncId} {as:List SV} {σ:ai} {k:ai->Option ρ} {r:ρ} (h:aaa T m d f as σ k=some r): ∃σ1:ai,zT (dB T) m d f (as.map SV.er) σ.er=some σ1.er/\k σ1=some r:=by unfold aaa at h;split at h;rename_i fn p;split at h;rename_i n s lo len ha;split at h;rename_i D w ts xs K;have z:=(br h).1;replace h:=(br h).2;have c:=(br h).1;replace h:=(br h).2;rw[fI] at h;obtain⟨L,B,h⟩:=h;rw[fI] at h;obtain⟨wl,b,h⟩:=h;subst z;have F:lo<xs.length:=(GB.1 (show xs[lo]? =some L from B)).1;have H:lo+len<=xs.length:=(by unfold cg at b;split at b;rename_i j;exact j;cases b);split at h;rename_i fQ j;have I:=Y9 (cv h).1;replace h:=(cv h).2;obtain⟨ds,its,l,a⟩:=Sj h;have o:=aA3 (cv a).1;replace a:=(cv a).2;obtain⟨ys,E⟩:=o;split at a;rename_i x hx;rw[fI] at a;obtain⟨y,G,a⟩:=a;obtain⟨σ1,J,i⟩:=aaM a;split at i;rename_i ls σ2 hs;refine⟨_,?_,i⟩;have e:=FN m hs;have u:fn.MX (dG fn.args x)=some (((kM fn.aC y).take (fn.aC.length - 1)).map cD.er,du (((kM fn.aC y).drop (fn.aC.length - 1)).flatMap (·.2))):=(by unfold ax.MX;rw[ax.vg,G];simp only[so];rw[<-wX,Jd]);have v:σ.er.h=dT σ.h:=rfl;have C:σ.er.h n=some (.row D w ts.length (By (Ty.aE ts) xs)):=(by simp[ai.er,dT,K,SB.er]);have A:dI lo::dI (lo+len)::ds.map cD.er=dG fn.args x:=tI hx;have M:xM fn.mu.nq lo (lo+len) fn.MX (ds.map cD.er)=some (((kM fn.aC y).take (fn.aC.length - 1)).map cD.er,du (((kM fn.aC y).drop (fn.aC.length - 1)).flatMap (·.2))):=(by unfold xM;rw[E];simp only;rw[A,u]);have g:Jy σ.er.h (.one (.sl n 1 lo len))=some (n,lo,len,xs.length):=(by unfold Jy;simp only[C];rw[ah ⟨trivial,c,by rw[wt];exact F,by rw[wt];exact H⟩,wt]);have q:(as.map SV.er)[fn.mu.nq]? =some (.one (.sl n 1 lo len)):=(by rw[AN,ha];rfl);have t:(as.map SV.er).set fn.mu.nq (.one (.sl n 1 0 xs.length))=(as.set fn.mu.nq (.one (.sl n 1 0 (ae xs)))).map SV.er:=(by rw[zao];rfl);rw[aaq] at l;unfold zT;rw[ax.aeh p];simp only[q,g,t];unfold vm;simp only[bj.th,if_true,Sf j,Si,ah I,v,l,M,J,e,ai.eX,Ds];cases i;cases a;cases h;cases h;cases h;cases h
def NC:List SV->Option (List cD)
 |[]=>some []
 |v::vs=>match v.cells? with
  |some (ag,cs)=>match Dn cs with
   |some l=>match NC vs with
    |some ds=>some ((Qj ag,l)::ds)
    |none=>none
   |none=>none
  |none=>none
theorem amI:∀{vs:List SV} {ds:List cD},NC vs=some ds->FA (vs.map SV.er)=some (ds.map cD.er)
 |[],ds,h=>by simp only[NC] at h;injection h with h;subst h;rfl
 |v::vs,ds,h=>by simp only[NC] at h;split at h;rename_i ag cs a;split at h;rename_i l hl;split at h;rename_i zU hd;injection h with h;subst h;simp only[co,FA,SV.nz a,Nr hl,amI hd,cD.er];cases ag<;>rfl;cases h;cases h;cases h
def Z7 (T:List ax) (d:Option Nat) (f:FuncId) (as:List SV) (σ:ai) (k:ai->Option ρ):Option ρ:=
 match ax.uB 2 T f with
 |some fn=>match NC as with
  |some ds=>match qb fn.args ds with
   |some x=>(fn.F x).ab fun y=>match((kM fn.aC y).drop (fn.aC.length - pu fn.args)).flatMap (·.2) with
    |[]=>match FL ((kM fn.aC y).take (fn.aC.length - pu fn.args)) with
     |some ls=>k (σ.put d (Bi ls))
     |none=>none
    |_=>none
   |none=>none
  |none=>none
 |none=>none
theorem aAb {T:List ax} {d:Option Nat} {f:FuncId} {as:List SV} {σ:ai} {k:ai->Option ρ} {r:ρ} (h:Z7 T d f as σ k=some r): ∃v:SV,Ef (dB T) f (as.map SV.er)=some v.er/\k (σ.put d v)=some r:=by unfold Z7 at h;split at h;rename_i fn a;split at h;rename_i ds hd;split at h;rename_i x hx;rw[fI] at h;obtain⟨y,e,h⟩:=h;split at h;rename_i c;split at h;rename_i ls hs;refine⟨_,?_,h⟩;have b:fn.MV (dG fn.args x)=some (((kM fn.aC y).take (fn.aC.length - pu fn.args)).map cD.er,[]):=(by unfold ax.MV;rw[ax.vg,e];simp only[so];rw[<-wX,Jd,c];rfl);simp only[Ef,amI hd,ax.aef a,tI hx,b,Ru hs,Ds];cases h;cases h;cases h;cases h;cases h
def Z9 (T:List ax) (d:Option Nat) (f:FuncId) (as:List SV) (σ:ai) (k:ai->Option ρ):Option ρ:=
 match ax.uB 3 T f with
 |some fn=>match fn.mu.gy with
  |3=>match FQ as with
   |some fQ=>match Dq fn.mu.tl fQ with
    |[n]=>Ja σ.h (Nq σ.h [n]) fn.mu.tl fQ fun ds its=>match its with
     |[(.row n',_)]=>dr n' n (match σ.h n with
      |some (.row _ _ ts xs)=>match qb fn.args ds with
       |some x=>(fn.F x).ab fun y=>match kM fn.aC y with
        |[(.one,[⟨.int _,a⟩]),(.one,[⟨.int _,b⟩])]=>(jg a b (ae xs)).ab fun p=>k (σ.put d (.one (.sl n ts.length p.1 p.2)))
        |_=>none
       |none=>none
      |_=>none)
     |_=>none
    |_=>none
   |none=>none
  |_=>none
 |none=>none
theorem aAd {T:List ax} {d:Option Nat} {f:FuncId} {as:List SV} {σ:ai} {k:ai->Option ρ} {r:ρ} (h:Z9 T d f as σ k=some r): ∃v:SV,ur (dB T) f (as.map SV.er) σ.er.h=some v.er/\k (σ.put d v)=some r:=by unfold Z9 at h;split at h;rename_i fn j;split at h;rename_i rq;split at h;rename_i fQ s;split at h;rename_i n hn;obtain⟨ds,its,g,c⟩:=Sj h;split at c;rename_i t md;have o:=(br c).1;replace c:=(br c).2;subst o;split at c;rename_i q m ts xs w;split at c;rename_i x hx;rw[fI] at c;obtain⟨y,u,c⟩:=c;split at c;rename_i ka a kb b hy;rw[fI] at c;obtain⟨p,hs,c⟩:=c;refine⟨_,?_,c⟩;unfold jg at hs;split at hs;rename_i eu;injection hs with hs;subst hs;have l:fn.MW (dG fn.args x)=some (Int.toNat a,Int.toNat (@HSub.hSub Int Int Int instHSub b a)):=(by unfold ax.MW;rw[ax.vg,u];simp only[so,zau];rw[<-wX,hy];rfl);have e:σ.er.h=dT σ.h:=rfl;have i:σ.er.h t=some (.row q m ts.length (By (Ty.aE ts) xs)):=(by simp[ai.er,dT,w,SB.er]);rw[aaq] at g;simp only[ur,ax.aeg j,Sf s,Si,hn,e,g,tI hx,l];rw[e] at i;simp only[i,if_true];rfl;cases hs;cases c;cases c;cases c;cases c;cases h;cases h;cases h;cases h
inductive dP where
 |mv (x:cT)
 |pick (c x y:cT)
 |alloc (zs:List SC)
 |box (sz:Nat) (x:cT)
 |build (zs:List SC) (parts:List (Nat×Nat×cT))
 |f8 (ts:List Ty) (parts:List cT)
 |load (ag:Bool) (sz:Nat) (x:cT)
 |store (sz:Nat) (x v:cT)
 |gS (x:cT)
 |bin (op:BinOp) (x y:cT)
 |un (op:UnOp) (x:cT)
 |conv (k:IntKind) (x:cT)
 |jP (m:Mode) (ts:List Ty) (dW:Nat) (z:Ty.DL ts) (l c:cT)
 |slice (sz:Nat) (x:cT) (lo hi:Option cT)
 |ri (off:Nat) (x:cT)
 |qL (sz:Nat) (x i:cT)
 |oF (len:Nat) (x i:cT)
 |DV (n:Nat)
 |Kl (ts:List Ty) (q:Nat) (x:cT)
 |Ov (zs:List SC) (q:Nat) (x:cT) (parts:List (Nat×Nat×cT))
 |zN (m:Mode) (f:FuncId) (x:cT) (xs:List cT)
 |GR (f:FuncId) (x:cT) (xs:List cT)
 |Ko (f:FuncId) (xs:List cT)
 |Fj (ts:List Ty) (x:cT)
 |FZ (ts:List Ty) (x v:cT)
 |Kn (m:Mode) (f:FuncId) (xs:List cT)
 |Ox (m:Mode) (f:FuncId) (x:cT) (xs:List cT)
 |ext (i:Nat) (x:cT)
 |len (x:cT)
 |append (fl:Bool) (ts:List Ty) (dW:Nat) (x y:cT)
 |mm (mx:Bool) (x y:cT)
 |call (m:Mode) (f:FuncId) (xs:List cT)
 |copy (x y:cT)
 |oW (t:Ty) (z:t.D) (x:cT)
 |tJ (f:FuncId) (xs:List cT)
 |pK (m:Mode) (x:cT) (xs:List cT)
 |oU (m:Mode) (f:FuncId) (xs:List cT)
 |lN (f:FuncId) (xs:List cT)
 |pL (f:FuncId) (xs:List cT)
 |oV (f:FuncId) (xs:List cT)
 |ox (m:Mode) (f:FuncId) (xs:List cT)
def ayM:Ty->Bool
 |.list _=>false
 |_=>true
def IJ:List Ty->Bool
 |[]=>true
 |t::ts=>ayM t&&IJ ts
theorem ajG:∀{ts:List Ty} (e:Ty.DL ts),IJ ts=true->∀x∈Ty.aE ts e,x.gx=true
 |[],e,_,x,hx=>by cases hx
 |[t],e,h,x,hx=>by simp only[IJ,zaQ] at h;simp only[Ty.aE,List.mem_singleton] at hx;subst hx;cases t with|list ts=>cases h|_=>rfl
 |t::u::ts,e,h,x,hx=>by rw[IJ,BY] at h;simp only[Ty.aE,zab] at hx;rcases hx with rfl|hx;(cases t with|list ts=>cases h.1|_=>rfl);exact ajG (ts:=u::ts) e.2 h.2 x hx
def dP.er:dP->bo
 |.mv x=>.mv x.er
 |.pick c x y=>.pick c.er x.er y.er
 |.alloc zs=>.alloc (zs.map SC.er)
 |.box sz x=>.box sz x.er
 |.build zs ps=>.build (zs.map SC.er) (ps.map fun p=>(p.1,p.2.1,p.2.2.er))
 |.f8 ts ps=>cond (IJ ts) (.zM ts.length (ps.map cT.er)) (.f8 ts.length (ps.map cT.er))
 |.load ag sz x=>.load ag sz x.er
 |.store sz x v=>.store sz x.er v.er
 |.gS x=>.gS x.er
 |.bin op x y=>.bin op x.er y.er
 |.un op x=>.un op x.er
 |.conv k x=>.conv k x.er
 |.jP m ts dW z l c=>.jP m ts.length dW (Ty.aE ts z) l.er c.er
 |.slice sz x lo hi=>.slice sz x.er (lo.map cT.er) (hi.map cT.er)
 |.ri off x=>.ri off x.er
 |.qL sz x i=>.qL sz x.er i.er
 |.oF q x i=>.oF q x.er i.er
 |.DV n=>.alloc (IT n (.c (.int .i64 0)))
 |.Kl ts q x=>.box (ts.length+q) x.er
 |.Ov zs q x parts=>.build (IT q (.c (.int .i64 0))++zs.map SC.er) ((0,q,x.er)::parts.map fun p=>(q+p.1,p.2.1,p.2.2.er))
 |.zN m f x xs=>.call m f (x.er::xs.map cT.er)
 |.GR f x xs=>.lN f (x.er::xs.map cT.er)
 |.Ko f xs=>.lN f (xs.map cT.er)
 |.Fj ts x=>.load true ts.length x.er
 |.FZ ts x v=>.store ts.length x.er v.er
 |.Kn m f xs=>.call m f (xs.map cT.er)
 |.Ox m f x xs=>.call m f (x.er::xs.map cT.er)
 |.ext i x=>.ext i x.er
 |.len x=>.len x.er
 |.append fl ts dW x y=>.append fl ts.length dW x.er y.er
 |.mm b x y=>.mm b x.er y.er
 |.call m f xs=>.call m f (xs.map cT.er)
 |.copy x y=>.copy 1 x.er y.er
 |.oW t z x=>.oW (t.er z) x.er
 |.tJ f xs=>.tJ f (xs.map cT.er)
 |.pK m x xs=>.pK m x.er (xs.map cT.er)
 |.oU m f xs=>.oU m f (xs.map cT.er)
 |.lN f xs=>.lN f (xs.map cT.er)
 |.pL f xs=>.pL f (xs.map cT.er)
 |.oV f xs=>.oV f (xs.map cT.er)
 |.ox m f xs=>.ox m f (xs.map cT.er)
theorem se (σ:ai) (xs:List cT):(xs.map cT.er).map σ.er.ev=(xs.map σ.ev).map SV.er:=by simp[ai.fo]
def Jj (ev:cT->SV):List SC->List (Nat×Nat×cT)->Option (List SC)
 |zs,[]=>some zs
 |zs,(off,sz,x)::ps=>match(ev x).cells? with
  |some (_,cs)=>dr cs.length sz (fj (zaj (off+sz) zs.length) (Jj ev (dA zs off cs) ps))
  |none=>none
theorem aaY {σ:ai}:∀{ps:List (Nat×Nat×cT)} {a cs:List SC},Jj σ.ev a ps=some cs-> pz σ.er.ev (a.map SC.er) (ps.map fun p=>(p.1,p.2.1,p.2.2.er))=some (cs.map SC.er)
 |[],a,cs,h=>by simp only[Jj] at h;injection h with h;subst h;rfl
 |(off,sz,x)::ps,a,cs,h=>by simp only[Jj] at h;split at h;rename_i b cs1 e;have f:=(br h).1;replace h:=(br h).2;subst f;have hb:=(cv h).1;replace h:=(cv h).2;have c:=aaY h;rw[FV] at c;have d:=Pe hb;simp only[co,pz,ai.fo,SV.nz e,wt,d,and_self,if_true,c];cases h
theorem amE {α:Type} (l m v:List α) (off:Nat):dA (l++m) (l.length+off) v=l++dA m off v:=by unfold dA;rw[List.take_append,za5,zay (zaB _ _),zaS (by omega)];rw[show l.length+off - l.length=off by omega,show l.length+off+v.length - l.length=off+v.length by omega];simp
theorem al8 {ev:MO->au} {l:List aj}:∀{ps:List (Nat×Nat×MO)} {a cs:List aj},pz ev a ps=some cs->pz ev (l++a) (ps.map fun p=>(l.length+p.1,p.2))=some (l++cs)
 |[],a,cs,h=>by simp only[pz,Pd] at h;subst h;rfl
 |(off,sz,x)::ps,a,cs,h=>by simp only[pz] at h;split at h;rename_i b vs c;split at h;rename_i hl;simp only[co,pz,c,zaa];rw[ah (by omega),amE];exact al8 h;cases h;cases h
def Rs (l:List TD):Bool:=l.all fun x=>x.1.gx
theorem az1 (l:List TD):gz (du l)=Rs l:=by simp[gz,du,Rs,List.all_map,Function.comp_def,Ty.De]
def aaZ (σ:ai) (n:Nat) (gr:Bool) (m:Mode) (ts:List Ty) (xs:List (Ty.DL ts)) (kk off:Nat) (e:Ty.DL ts) (vs:List SC) (k:ai->Option ρ):Option ρ:=
 match sub (Ty.gU ts e) off vs.length with
 |none=>none
 |some j0=>Jk σ vs fun cs o σ1=>match pt ts (dA (Ty.gU ts e) off cs) with
  |none=>none
  |some e'=>match m with
   |.live=>fj (Rs cs&&Rs j0&&(σ1.h n).isSome&& !gr) (k (σ1.fh n (.row gr .live ts (be xs kk e'))))
   |.aS=>fj (σ1.h n).isSome (k (σ1.fh n (.row gr (match o with|true=>.aS|false=>.aQ) ts (be xs kk e'))))
   |.aQ=>fj (σ1.h n).isSome (k (σ1.fh n (.row gr .aQ ts (be xs kk e'))))
theorem adO (h:Nat->Option SB) (n:Nat):(dT h n).isSome=(h n).isSome:=by unfold dT;cases h n<;>rfl
theorem aAO {σ:ai} {n:Nat} {l:Bool} {m:Mode} {ts:List Ty} {xs:List (Ty.DL ts)} {c off:Nat} {e:Ty.DL ts} {vs:List SC} {k:ai->Option ρ} {r:ρ} (h:aaZ σ n l m ts xs c off e vs k=some r): ∃σ1:ai,rS σ.er n l m ts.length (By (Ty.aE ts) xs) c off (Ty.aE ts e) (vs.map SC.er)=some σ1.er/\k σ1=some r:=by unfold aaZ at h;split at h;cases h;rename_i p s;obtain⟨cs,o,σ1,j,a⟩:=Sy h;have b:sub (Ty.aE ts e) off (vs.map SC.er).length=some (du p):=(by rw[<-Ty.pQ];simp only[du];rw[tT,wt,s];rfl);split at a;cases a;rename_i d q;have i:dA (Ty.aE ts e) off (du cs)=Ty.aE ts d:=(by rw[xE q,<-Ty.pQ];simp only[du];rw[<-FV]);have g:(By (Ty.aE ts) xs).set c (Ty.aE ts d)=By (Ty.aE ts) (be xs c d):=(by show _=By (Ty.aE ts) (xs.set c d);rw[zao]);have f:σ1.er.h n=(σ1.h n).map SB.er:=rfl;split at a;have hb:=(cv a).1;replace a:=(cv a).2;simp only[BY,zaM] at hb;refine⟨_,?_,a⟩;simp only[rS,b,j,if_true,az1,hb.1.1.1,hb.1.1.2,f,zaN,hb.1.2,hb.2,and_self,i,g,ai.qC,SB.er];have hb:=(cv a).1;replace a:=(cv a).2;refine⟨_,?_,a⟩;cases o<;>simp only[rS,b,j,f,zaN,hb,i,g,ai.qC,SB.er,reduceCtorEq,if_false,if_true,zae,cond_true,cond_false,ite_self];have hb:=(cv a).1;replace a:=(cv a).2;refine⟨_,?_,a⟩;cases o<;>simp only[rS,b,j,f,zaN,hb,i,g,ai.qC,SB.er,reduceCtorEq,if_false,if_true,zae,cond_true,cond_false,ite_self]
def BV (us ts:List Ty) (xs:List (Ty.DL us)):Option (List (Ty.DL ts)):=if h:Ty.r5 us ts=true then some (Ty.qt h▸xs) else none
theorem Vd {us ts:List Ty} {xs:List (Ty.DL us)} {ys:List (Ty.DL ts)} (h:BV us ts xs=some ys):us.length=ts.length/\By (Ty.aE us) xs=By (Ty.aE ts) ys/\xs.length=ys.length:=by unfold BV at h;split at h;rename_i a;have:=Ty.qt a;subst this;injection h with h;rw[<-h];exact⟨rfl,rfl,rfl⟩;cases h
def ZV (σ:ai) (ts:List Ty) (v:SV) (k:List (Ty.DL ts)->Mode->ai->Option ρ):Option ρ:=
 match v with
 |.one (.nil _)=>k [] .aS σ
 |.one (.sl a s lo len)=>match σ.h a with
  |some (.row true m us xs)=>dr s ts.length (dr lo 0 (match BV us ts xs with
   |some ys=>(bh lo len (ae ys)).ab fun _=>k ys m (σ.del a)
   |none=>none))
  |_=>none
 |_=>none
theorem afj {lo len l:Nat} {u:Unit} (h:bh lo len l=some u):lo=0/\len=l:=by unfold bh at h;split at h;rename_i a;exact a;cases h
theorem azW {σ:ai} {ts:List Ty} {v:SV} {k:List (Ty.DL ts)->Mode->ai->Option ρ} {r:ρ} (h:ZV σ ts v k=some r): ∃(xs:List (Ty.DL ts)) (m:Mode) (σ1:ai),vj σ.er ts.length v.er=some (By (Ty.aE ts) xs,m,σ1.er)/\k xs m σ1=some r:=by unfold ZV at h;split at h;exact⟨[],.aS,σ,rfl,h⟩;rename_i a s lo len;split at h;rename_i m us xs hn;have c:=(br h).1;replace h:=(br h).2;subst c;have c:=(br h).1;replace h:=(br h).2;subst c;split at h;rename_i ys i;obtain⟨f,e,c3⟩:=Vd i;rw[fI] at h;obtain⟨_,d,h⟩:=h;obtain⟨_,b⟩:=afj d;replace b:len=ys.length:=b;refine⟨ys,m,σ.del a,?_,h⟩;have g:σ.er.h a=some (.row true m ts.length (By (Ty.aE ts) ys)):=(by simp[ai.er,dT,hn,SB.er,f,e]);subst b;simp only[SV.er,SC.er,vj,g,wt,and_self,if_true,ai.Pa];cases h;cases h;cases h
theorem alW (ts:List Ty) (xs:List (Ty.DL ts)) (h:Ty.gz ts=true):iV (By (Ty.aE ts) xs)=true:=by simp only[iV,zat,zac];rintro _ ⟨e,_,rfl⟩;rw[Ty.FI];exact h
def ZW (fl:Bool) (σ:ai) (ts:List Ty) (m:Mode) (v:SV) (k:List (Ty.DL ts)->Mode->ai->Option ρ):Option ρ:=
 match v with
 |.one (.nil _)=>k [] m σ
 |.one (.v (.list us) ys)=>match BV us ts ys with
  |some zs=>match fl with
   |true=>fj (Ty.gz ts) (k zs m σ)
   |false=>match m with
    |.live=>none
    |_=>k zs .aQ σ
  |none=>none
 |.one (.sl b s lo len)=>match σ.h b with
  |some (.row gr m' us ys)=>dr s ts.length (match BV us ts ys with
   |some zs=>match fl with
    |true=>fj (Ty.gz ts) ((cg zs lo len).ab fun ws=>k ws m σ)
    |false=>(bh lo len (ae zs)).ab fun _=>match m,m' with
     |.aS,.aS=>k zs .aS (σ.del b)
     |.live,.live=>fj gr (k zs .live (σ.del b))
     |.aQ,.aQ=>k zs .aQ (σ.del b)
     |.aS,.aQ=>k zs .aQ (σ.del b)
     |.aQ,.aS=>k zs .aQ (σ.del b)
     |_,_=>none
   |none=>none)
  |_=>none
 |_=>none
theorem azX {fl:Bool} {σ:ai} {ts:List Ty} {m:Mode} {v:SV} {k:List (Ty.DL ts)->Mode->ai->Option ρ} {r:ρ} (h:ZW fl σ ts m v k=some r):
  ∃(ys:List (Ty.DL ts)) (m2:Mode) (σ1:ai),pH fl σ.er ts.length m v.er=some (By (Ty.aE ts) ys,m2,σ1.er)/\k ys m2 σ1=some r:=by
 unfold ZW at h;split at h
 ·exact⟨[],m,σ,rfl,h⟩
 ·rename_i us ys;split at h
  ·rename_i a f;obtain⟨g,i,n⟩:=Vd f;have l:Ty.er (.list us) ys=.list ts.length (By (Ty.aE ts) a):=by rw[<-g,<-i];rfl
   split at h
   ·have hs:=(cv h).1;replace h:=(cv h).2;refine⟨a,m,σ,?_,h⟩;simp only[SV.er,SC.er,l,pH,if_true,za9,alW ts a hs]
   ·split at h
    ·cases h
    ·rename_i hm;refine⟨a,.aQ,σ,?_,h⟩;have t:m≠ .live:=fun e=>hm e;simp only[SV.er,SC.er,l,pH,if_true,Bool.false_and,zae,if_false,ak t]
  ·cases h
 ·rename_i b s lo len;split at h
  ·rename_i x j us ys hn;have u:=(br h).1;replace h:=(br h).2;subst u;split at h
   ·rename_i a f;obtain⟨g,i,n⟩:=Vd f;have d:σ.er.h b=some (.row x j ts.length (By (Ty.aE ts) a)):=by simp[ai.er,dT,hn,SB.er,g,i]
    split at h
    ·have hs:=(cv h).1;replace h:=(cv h).2;rw[fI] at h;obtain⟨ws,p,h⟩:=h;obtain⟨q,y⟩:=anw p;refine⟨ws,m,σ,?_,h⟩;simp only[SV.er,SC.er,pH,d,wt,q,y,and_self,if_true,za9,alW ts ws hs]
    ·rw[fI] at h;obtain⟨_,o,h⟩:=h;obtain⟨rfl,c⟩:=afj o
     replace c:len=a.length:=c
     subst c;have qG:zaJ a.length (By (Ty.aE ts) a)=By (Ty.aE ts) a:=by
      rw[zay];simp
     cases m<;>cases j<;>first
      |(cases h;done)
      |exact⟨a,_,σ.del b,by simp[SV.er,SC.er,pH,d,ai.Pa],h⟩
      |exact⟨a,_,σ.del b,by have w:=(cv h).1;subst w;simp[SV.er,SC.er,pH,d,ai.Pa],(cv h).2⟩
   ·cases h
  ·cases h
 ·cases h
def SC.aer:SC->Bool
 |.fn _ _=>false
 |.bZ=>false
 |_=>true
def FR:List SV->Option (List SC)
 |[]=>some []
 |.one c::vs=>match c.aer,FR vs with
  |true,some cs=>some (c::cs)
  |_,_=>none
 |_::_=>none
theorem amt:∀{vs:List SV} {cs:List SC},FR vs=some cs-> (vs.map SV.er).mapM (fun v=>match v with|.one c=>if c.kP=true then none else some c|_=>none)=some (cs.map SC.er)/\(cs.map SC.er).all aj.MJ=true
 |[],cs,h=>by simp only[FR] at h;injection h with h;subst h;exact⟨rfl,rfl⟩
 |.one c::vs,cs,h=>by simp only[FR] at h;split at h;rename_i cs' b d;injection h with h;subst h;obtain⟨i1,i2⟩:=amt d;have a:c.er.kP=false/\c.er.MJ=true:=(by cases c<;>first|exact⟨rfl,rfl⟩|(simp[SC.aer] at b));refine⟨?_,by simp[a.2];simpa using i2⟩;simp only[co,List.mapM_cons,SV.er,a.1];rw[i1];rfl;cases h
 |.agg _::_,cs,h=>by simp[FR] at h
 |.ct _::_,cs,h=>by simp[FR] at h
end
end
theorem avz {α β:Type} (f:α->β) {l:List α} {i:Nat} {e:α} (h:l[i]? =some e):(l.map f)[i]? =some (f e):=by rw[AN,h];rfl
section
variable {ρ:Type}
def MP:Bool->Mode
 |true=>.aS
 |false=>.aQ
theorem axO (o:Bool):(if o=true then Mode.aS else .aQ)=MP o:=by cases o<;>rfl
def QZ (σ:ai) (d:Int) (o:Option cT):Option Int:=
 match o with
 |none=>some d
 |some q=>(σ.ev q).fw
theorem Q0 {σ:ai} {d l:Int} {o:Option cT} (h:QZ σ d o=some l):(match o.map cT.er with|none=>some d|some q=>(σ.er.ev q).fw)=some l:=by cases o with|none=>exact h|some q=>simp only[so,ai.fo];exact SV.EW h
def FK:List SC->Option (List TD)
 |[]=>some []
 |.v t x::l=>match t.gx with
  |true=>match FK l with
   |some ds=>some (⟨t,x⟩::ds)
   |none=>none
  |false=>none
 |_::_=>none
theorem al1:∀{vs:List SC} {ds:List TD},FK vs=some ds->pP (vs.map SC.er)=some (du ds)
 |[],ds,h=>by simp only[FK] at h;injection h with h;subst h;rfl
 |c::vs,ds,h=>by cases c with|v t x=>simp only[FK] at h;split at h;rename_i hs;split at h;rename_i l hl;injection h with h;subst h;simp only[co,SC.er,pP,Ty.De,hs,if_true,al1 hl,du,so];cases h;cases h|_=>simp[FK] at h
def aaX (us:List Ty) (e:Ty.DL us) (off s i:Nat) (vs:List SC) (k:Ty.DL us->Option ρ):Option ρ:=
 match(Ty.gU us e)[off]? with
 |some ⟨.list ts,ys⟩=>dr ts.length s (dr vs.length s (fj (Ty.gz ts) ((bW (α:=Ty.DL ts) ys i).ab fun _=>match FK vs with
  |some ds=>match pt ts ds with
   |some el=>match Rw us e off ⟨.list ts,be (α:=Ty.DL ts) ys i el⟩ with
    |some e'=>k e'
    |none=>none
   |none=>none
  |none=>none)))
 |_=>none
theorem aAj {us ts:List Ty} {xs:List (Ty.DL us)} {b off i:Nat} {e c:Ty.DL us} {vs:List SC} {ds:List TD} {d m:Ty.DL ts} (ys:List (Ty.DL ts)) (k:xs[b]? =some e) (hd:(Ty.gU us e)[off]? =some ⟨.list ts,ys⟩) (g:vs.length=ts.length) (hs:Ty.gz ts=true) (hy:ys[i]? =some m) (f:FK vs=some ds) (l:pt ts ds=some d) (h:Rw us e off ⟨.list ts,be ys i d⟩=some c): A9 (By (Ty.aE us) xs) b off ts.length i (vs.map SC.er)=some (By (Ty.aE us) (be xs b c)):=by have j:(Ty.aE us e)[off]? =some (.list ts.length (By (Ty.aE ts) ys)):=VA hd;have hx:(By (Ty.aE us) xs)[b]? =some (Ty.aE us e):=(by rw[AN,k];rfl);have hi:i<(By (Ty.aE ts) ys).length:=(by rw[wt];exact(GB.1 hy).1);have a:Ty.aE us c=(Ty.aE us e).set off (.list ts.length (By (Ty.aE ts) (be ys i d))):=al4 h;unfold A9;rw[hx,zau,j];simp only;rw[ah ⟨trivial,by simpa using g,hi,FH ts ys hs⟩,al1 f,zaD,hx];simp only[so,Option.getD_some];unfold be at a⊢;rw[zao,a,zao,xE l]
theorem aAN {us:List Ty} {xs:List (Ty.DL us)} {b:Nat} {e:Ty.DL us} {off s i:Nat} {vs:List SC} {k:Ty.DL us->Option ρ} {r:ρ} (g:xs[b]? =some e) (h:aaX us e off s i vs k=some r): ∃a,A9 (By (Ty.aE us) xs) b off s i (vs.map SC.er)=some (By (Ty.aE us) (be xs b a))/\k a=some r:=by unfold aaX at h;split at h;rename_i ts ys hd;have d:=(br h).1;replace h:=(br h).2;have l:=(br h).1;replace h:=(br h).2;have hs:=(cv h).1;replace h:=(cv h).2;rw[fI] at h;obtain⟨y0,hy,h⟩:=h;split at h;rename_i ds c;split at h;rename_i el j;split at h;rename_i a f;subst d;exact⟨a,aAj ys g hd l hs hy c j f,h⟩;cases h;cases h;cases h;cases h
def fS (T:List ax) (d:Option Nat) (op:dP) (σ:ai) (k:ai->Option ρ):Option ρ:=
 match op with
 |.mv x=>k (σ.put d (σ.ev x))
 |.pick c x y=>match σ.ev c with
  |.one (.v .bool b)=>match σ.ev x,σ.ev y with
   |.one (.v t x'),.one (.v u y')=>match Ty.cast u t y' with
    |some z=>k (σ.put d (.one (.v t (aD b x' z))))
    |none=>aD b (k (σ.put d (σ.ev x))) (k (σ.put d (σ.ev y)))
   |_,_=>aD b (k (σ.put d (σ.ev x))) (k (σ.put d (σ.ev y)))
  |_=>none
 |.alloc zs=>match d with
  |some n=>match σ.ins n (.box zs) with
   |some σ1=>k (σ1.put d (.one (.ptr n 0 0 0)))
   |none=>none
  |none=>none
 |.box sz x=>match d,(σ.ev x).cells? with
  |some n,some (_,cs)=>dr cs.length sz (match σ.ins n (.box cs) with
   |some σ1=>k (σ1.put d (.one (.ptr n 0 0 0)))
   |none=>none)
  |_,_=>none
 |.build zs parts=>match Jj σ.ev zs parts with
  |some cs=>k (σ.put d (.agg cs))
  |none=>none
 |.f8 ts parts=>match d with
  |some n=>Sx ts σ (parts.map σ.ev) fun es o σ1=>match σ1.ins n (.row true (MP o) ts es) with
   |some σ2=>k (σ2.put d (.one (.sl n ts.length 0 es.length)))
   |none=>none
  |none=>none
 |.load ag sz x=>match σ.ev x with
  |.one p=>Se σ.h p sz fun cs=>k (σ.put d (Jr ag cs))
  |_=>none
 |.store sz x v=>match σ.ev x,(σ.ev v).cells? with
  |.one (.ptr n kk aO off),some (_,vs)=>dr vs.length sz (match σ.h n with
   |some (.box cs)=>dr kk 0 (fj (zaj (off+sz) cs.length) (k (σ.fh n (.box (dA cs off vs)))))
   |some (.row gr m ts xs)=>dr aO ts.length ((bW xs kk).ab fun e=>aaZ σ n gr m ts xs kk off e vs k)
   |some (.ef ts x cs)=>dr kk 0 (match cs with
    |[]=>match vs with
     |[.v (.int .i64) w]=>(Dg ts x off w).ab fun y=>k (σ.fh n (.ef ts y []))
     |_=>none
    |c::cs=>fj (zaj ts.length off&&zaj (off - ts.length+sz) (c::cs).length) (k (σ.fh n (.ef ts x (dA (c::cs) (off - ts.length) vs)))))
   |none=>none)
  |.one (.dU n kk aO off s i),some (_,vs)=>dr vs.length sz (match σ.h n with
   |some (.row false .live us xs)=>dr aO us.length ((bW xs kk).ab fun e=>aaX us e off s i vs fun e'=>k (σ.fh n (.row false .live us (be xs kk e'))))
   |_=>none)
  |_,_=>none
 |.gS x=>match σ.ev x with
  |.one (.ptr n kk sz off)=>fj (σ.h n).isSome (k (σ.put d (.one (.ptr n kk sz off))))
  |.one (.dN ts x off)=>k (σ.put d (.one (.dN ts x off)))
  |.one (.dh ts x off j n s len)=>k (σ.put d (.one (.dh ts x off j n s len)))
  |_=>none
 |.bin op x y=>U4 op (σ.ev x) (σ.ev y) fun t z=>k (σ.put d (.one (.v t z)))
 |.un op x=>unS op (σ.ev x) fun t z=>k (σ.put d (.one (.v t z)))
 |.conv kd x=>match σ.ev x with
  |.one (.v (.int _) n)=>k (σ.put d (.one (.v (.int kd) (Vs kd n))))
  |_=>none
 |.jP m ts dW z l c=>match d,(σ.ev l).fw,(σ.ev c).fw with
  |some n,some a,some b=>(ki a b dW).ab fun len=>match σ.ins n (.row true m ts (cj len z)) with
   |some σ1=>k (σ1.put d (.one (.sl n ts.length 0 len)))
   |none=>none
  |_,_,_=>none
 |.slice sz x lo hi=>
  match σ.ev x,QZ σ 0 lo with
  |.one (.sl n s l0 len),some l=>
   match QZ σ (aM len) hi with
   |some h=>dr s sz (fj (σ.h n).isSome ((jg l h len).ab fun p=>k (σ.put d (.one (.sl n s (aw l0 p.1) p.2)))))
   |none=>none
  |.one (.v (.list ts) xs),some l=>
   match QZ σ (aM (ae (α:=Ty.DL ts) xs)) hi with
   |some h=>dr ts.length sz ((jg l h (ae (α:=Ty.DL ts) xs)).ab fun p=>k (σ.put d (.one (.v (.list ts) (fG (α:=Ty.DL ts) xs p.1 p.2)))))
   |none=>none
  |_,_=>none
 |.ri off x=>match σ.ev x with
  |.one (.ptr n kk sz o)=>fj (σ.h n).isSome (k (σ.put d (.one (.ptr n kk sz (o+off)))))
  |.one (.dN ts x o)=>k (σ.put d (.one (.dN ts x (o+off))))
  |.one (.dh ts x o j n s len)=>k (σ.put d (.one (.dh ts x (o+off) j n s len)))
  |_=>none
 |.qL sz x i=>match σ.ev x,(σ.ev i).fw with
  |.one (.sl n s lo len),some j=>dr s sz (fj (σ.h n).isSome ((cM j len).ab fun q=>k (σ.put d (.one (.ptr n (aw lo q) s 0)))))
  |.one (.v (.list ts) xs),some j=>dr ts.length sz ((cV (α:=Ty.DL ts) xs j).ab fun e=>k (σ.put d (.one (.dN ts e 0))))
  |.one (.cF n kk aO off s len),some j=>Dy σ.h (.cF n kk aO off s len) fun t x=>match t,x with
   |.list ts,ys=>dr ts.length sz ((cM j (ae (α:=Ty.DL ts) ys)).ab fun q=>k (σ.put d (.one (.dU n kk aO off sz q))))
   |_,_=>none
  |_,_=>none
 |.oF q x i=>match σ.ev x,(σ.ev i).fw with
  |.one (.ptr n kk sz o),some j=>fj (σ.h n).isSome ((cM j q).ab fun p=>k (σ.put d (.one (.ptr n kk sz (aw o p)))))
  |_,_=>none
 |.DV q=>match d with
  |some n=>match σ.ins n (.ef (IT q (.int .i64)) (Bt q) []) with
   |some σ1=>k (σ1.put d (.one (.ptr n 0 0 0)))
   |none=>none
  |none=>none
 |.Kl ts q x=>match d,σ.ev x with
  |some n,.arr us y cs=>fj (Ty.r5 us ts&&zaz cs.length q) (match σ.ins n (.ef us y cs) with
   |some σ1=>k (σ1.put d (.one (.ptr n 0 0 0)))
   |none=>none)
  |_,_=>none
 |.Ov zs q x parts=>match σ.ev x with
  |.arr us y []=>dr us.length q (match Jj σ.ev zs parts with
   |some cs=>k (σ.put d (.arr us y cs))
   |none=>none)
  |_=>none
 |.zN m f x xs=>Z6 T m d f (σ.ev x) (xs.map σ.ev) σ k
 |.GR f x xs=>Z3 T d f (σ.ev x) (xs.map σ.ev) σ k
 |.Ko f xs=>Z4 T d f (xs.map σ.ev) σ k
 |.Fj ts x=>match σ.ev x with
  |.one (.ptr n kk sz off)=>match σ.h n with
   |some (.ef us y [])=>dr kk 0 (dr off 0 (fj (Ty.r5 us ts) (k (σ.put d (.arr us y [])))))
   |_=>none
  |_=>none
 |.FZ ts x v=>match σ.ev x,σ.ev v with
  |.one (.ptr n kk sz off),.arr us z []=>match σ.h n with
   |some (.ef vs y [])=>dr kk 0 (dr off 0 (fj (Ty.r5 us ts&&Ty.r5 vs ts) (k (σ.fh n (.ef us z [])))))
   |_=>none
  |_,_=>none
 |.Kn m f xs=>Z8 T m d f (xs.map σ.ev) σ k
 |.Ox m f x xs=>match σ.ev x with
  |.arr ts y []=>Z1 T m d f ts y (xs.map σ.ev) σ k
  |_=>none
 |.ext i x=>match σ.ev x with
  |.ct xs=>match xs[i]? with
   |some (ag,cs)=>k (σ.put d (Jr ag cs))
   |none=>none
  |.oR ts y xs=>match i with
   |0=>k (σ.put d (.arr ts y []))
   |j+1=>match xs[j]? with
    |some (ag,cs)=>k (σ.put d (Jr ag cs))
    |none=>none
  |_=>none
 |.len x=>match σ.ev x with
  |.one (.sl n sz lo len)=>fj (σ.h n).isSome (k (σ.put d (.one (.v (.int .i64) (aM len)))))
  |.one (.v (.list ts) xs)=>k (σ.put d (.one (.v (.int .i64) (aM (ae (α:=Ty.DL ts) xs)))))
  |.one (.nil ts)=>k (σ.put d (.one (.v (.int .i64) (0:Int))))
  |.one (.cF n kk aO off sz len)=>Dy σ.h (.cF n kk aO off sz len) fun t x=>match t,x with
   |.list ts,ys=>k (σ.put d (.one (.v (.int .i64) (aM (ae (α:=Ty.DL ts) ys)))))
   |_,_=>none
  |_=>none
 |.append fl ts dW x y=>match d with
  |none=>none
  |some n=>ZV σ ts (σ.ev x) fun xs m σ1=>ZW fl σ1 ts m (σ.ev y) fun ys m2 σ2=>
   (lR (aw (ae xs) (ae ys)) dW).ab fun _=>match σ2.ins n (.row true m2 ts (d6 xs ys)) with
    |some jG=>k (jG.put d (.one (.sl n ts.length 0 (aw (ae xs) (ae ys)))))
    |none=>none
 |.mm mx x y=>match σ.ev x,σ.ev y with
  |.one (.v (.int kd) a),.one (.v (.int kd') b)=>match mx with
   |true=>k (σ.put d (.one (.v (.int kd) (nX a b))))
   |false=>k (σ.put d (.one (.v (.int kd) (iw a b))))
  |_,_=>none
 |.call m f xs=>Rv T m d f (xs.map σ.ev) σ k
 |.copy x y=>match σ.ev x,σ.ev y with
  |.one (.sl n s lo len),.one c=>match σ.h n with
   |some (.row gr m ts xs)=>dr s 1 (dr ts.length 1 (fj (m.own&&Ty.gz ts) (Dy σ.h c fun u ys=>match u,ys with
    |.list us,ys=>match Ty.cast (.list us) (.list ts) ys with
     |some zs=>(ym (α:=Ty.DL ts) xs lo len (zaJ (α:=Ty.DL ts) len zs)).ab fun aH=>k ((σ.fh n (.row gr m ts aH)).put d (.one (.v (.int .i64) (aM (Nat.min (ae (α:=Ty.DL ts) zs) len)))))
     |none=>none
    |_,_=>none)))
   |_=>none
  |_,_=>none
 |.oW t z x=>match σ.ev x with
  |.one (.sl n s lo len)=>match σ.h n with
   |some (.row gr m ts xs)=>dr s 1 (fj (m.own&&t.gx) (match pt ts [⟨t,z⟩] with
    |some e=>(ym (α:=Ty.DL ts) xs lo len (cj len e)).ab fun aH=>k ((σ.fh n (.row gr m ts aH)).put d (.ct []))
    |none=>none))
   |_=>none
  |_=>none
 |.tJ f xs=>match FR (xs.map σ.ev) with
  |some cs=>k (σ.put d (.one (.fn f cs)))
  |none=>none
 |.pK m x xs=>match σ.ev x with
  |.one (.fn f dM)=>Rv T m d f (xs.map σ.ev++dM.map .one) σ k
  |_=>none
 |.oU m f xs=>Z5 T m d f (xs.map σ.ev) σ k
 |.lN f xs=>Z2 T d f (xs.map σ.ev) σ k
 |.pL f xs=>Z9 T d f (xs.map σ.ev) σ k
 |.oV f xs=>Z7 T d f (xs.map σ.ev) σ k
 |.ox m f xs=>aaa T m d f (xs.map σ.ev) σ k
theorem yp {σ:ai} {n:Nat} {b:SB} (h:σ.h n=some b):σ.er.h n=some b.er:=by simp[ai.er,dT,h]
theorem Ho {σ:ai} {n:Nat} (h:(σ.h n).isSome=true):(σ.er.h n).isSome=true:=by simp only[ai.er,adO,h]
theorem abq (t:Ty) (x:t.D):(SV.one (.v t x)).er=.one (.c (t.er x)):=rfl
theorem ade {ts:List Ty} {xs a ys:List (Ty.DL ts)} {lo len:Nat} (h:ym xs lo len ys=some a):lo+len<=xs.length/\By (Ty.aE ts) a=dA (By (Ty.aE ts) xs) lo (By (Ty.aE ts) ys):=by unfold ym at h;split at h;rename_i b;injection h with h;subst h;exact⟨b,FV (Ty.aE ts) xs ys lo⟩;cases h
theorem Ty.aoI {t u:Ty} {x:t.D} {y:u.D} (h:Ty.cast t u x=some y):t.er x=u.er y:=by unfold Ty.cast at h;split at h;rename_i a;have:=Ty.beq_eq a;subst this;injection h with h;rw[<-h];cases h
theorem al9 {T:List ax} {d:Option Nat} {op:dP} {σ:ai} {k:ai->Option ρ} {r:ρ} (h:fS T d op σ k=some r):
  ∃σ1:ai,exec (dB T) d op.er σ.er=some σ1.er/\k σ1=some r:=by
 cases op with
 |mv x=>exact⟨_,by simp only[dP.er,exec,ai.eX,ai.fo],h⟩
 |pick c x y=>
  simp only[fS] at h;split at h
  ·rename_i b H;have Q:σ.er.ev c.er=.one (.c (.bool b)):=by rw[ai.fo,H];rfl
   have dd:∀σ1:ai,σ1.er=σ.er.put d (cond b (σ.ev x).er (σ.ev y).er)->exec (dB T) d (dP.er (.pick c x y)) σ.er=some σ1.er:=by
    intro σ1 e;simp only[dP.er,exec,Q,ai.fo,e];cases b<;>rfl
   have gen:aD b (k (σ.put d (σ.ev x))) (k (σ.put d (σ.ev y)))=some r->∃σ1:ai,exec (dB T) d (dP.er (.pick c x y)) σ.er=some σ1.er/\k σ1=some r:=by
    intro h;cases hb:(b:Bool) with
    |true=>rw[hb] at h;exact⟨_,dd _ (by rw[ai.eX,hb];rfl),h⟩
    |false=>rw[hb] at h;exact⟨_,dd _ (by rw[ai.eX,hb];rfl),h⟩
   split at h
   ·rename_i t x' u y' ex ey;split at h
    ·rename_i z N;refine⟨_,dd _ ?_,h⟩;rw[ai.eX,ex,ey,abq,abq,abq,Ty.acF N];cases (b:Bool)<;>rfl
    ·exact gen h
   ·exact gen h
  ·cases h
 |alloc J=>
  simp only[fS] at h;split at h
  ·rename_i n;split at h
   ·rename_i σ1 e;have:=ai.uw e;exact⟨_,by simp only[dP.er,exec];rw[show aA.box (J.map SC.er)=(SB.box J).er from rfl,this,ai.eX];rfl,h⟩
   ·cases h
  ·cases h
 |box sz x=>
  simp only[fS] at h;split at h
  ·rename_i n b cs H;have C:=(br h).1;replace h:=(br h).2;subst C;split at h
   ·rename_i σ1 e;have:=ai.uw e;refine⟨_,?_,h⟩;simp only[dP.er,exec,ai.fo,SV.nz H,wt,if_true];rw[show aA.box (cs.map SC.er)=(SB.box cs).er from rfl,this,ai.eX];rfl
   ·cases h
  ·cases h
 |build J parts=>
  simp only[fS] at h;split at h
  ·rename_i cs H;exact⟨_,by simp only[dP.er,exec,aaY H,ai.eX];rfl,h⟩
  ·cases h
 |f8 ts parts=>
  simp only[fS] at h;split at h
  ·rename_i n;obtain⟨es,o,σ1,B,A⟩:=amR h;split at A
   ·rename_i σ2 e;have i:=ai.uw e;refine⟨_,?_,A⟩;have:(SB.row true (MP o) ts es).er=aA.row true (MP o) ts.length (By (Ty.aE ts) es):=rfl;cases hp:IJ ts with
    |true=>
     obtain⟨p1,p2,p3⟩:=am9 B fun e I=>by
      obtain⟨y,_,rfl⟩:=zac.1 I;exact ajG y hp
     simp only[dP.er,hp,cond_true,exec,se,p1,ai.eX];rw[p2] at this i;rw[<-p3,show Mode.aS=MP true from rfl,<-this,i,wt]
     rfl
    |false=>
     simp only[dP.er,hp,cond_false,exec,se,B,ai.eX];rw[axO,<-this,i,wt];rfl
   ·cases A
  ·cases h
 |load ag sz x=>
  simp only[fS] at h;split at h
  ·rename_i p hp;obtain⟨l,B,A⟩:=amo h;have g:σ.er.ev x.er=.one p.er:=by rw[ai.fo,hp];rfl
   have U:loadAt σ.er.h p.er sz=some (l.map SC.er):=B;exact⟨_,by simp only[dP.er,exec,g,U,ai.eX,NM],A⟩
  ·cases h
 |store sz x v=>
  simp only[fS] at h;split at h
  ·rename_i n G L off b vs hp H;have C:=(br h).1;replace h:=(br h).2;subst C;have g:σ.er.ev x.er=.one (.ptr n G L off):=by rw[ai.fo,hp];rfl
   have Q:(σ.er.ev v.er).cells?=some (b,vs.map SC.er):=by rw[ai.fo];exact SV.nz H
   split at h
   ·rename_i cs hn;have C:=(br h).1;replace h:=(br h).2;subst C;have hb:=(cv h).1;replace h:=(cv h).2;have Z:=Pe hb;refine⟨_,?_,h⟩;simp only[dP.er,exec,g,Q,wt,if_true,yp hn,SB.er,Z,and_self,ai.qC,<-FV]
   ·rename_i gr m ts xs hn;have C:=(br h).1;replace h:=(br h).2;subst C;rw[fI] at h;obtain⟨e,I,h⟩:=h
    replace I:xs[G]? =some e:=I
    obtain⟨σ1,s1,s2⟩:=aAO h;refine⟨σ1,?_,s2⟩;have nM:(By (Ty.aE ts) xs)[G]? =some (Ty.aE ts e):=by rw[AN,I];rfl
    simp only[dP.er,exec,g,Q,wt,if_true,yp hn,SB.er,nM,s1]
   ·rename_i ts y cs hn;have C:=(br h).1;replace h:=(br h).2;subst C;split at h
    ·split at h
     ·rename_i w;rw[fI] at h;obtain⟨z,N,h⟩:=h;obtain⟨q1,q2⟩:=aAg N;have cu:off<((Ty.aE ts y).map aj.c).length:=by rw[wt,Ty.mC];exact q1
      have hs:dA ((Ty.aE ts y).map aj.c) off [aj.c (.int .i64 w)]=(Ty.aE ts z).map .c:=by
       rw[q2,zao,List.set_eq_take_append_cons_drop,ah cu];simp[dA]
      have Z:off+[SC.v (.int .i64) w].length<=((Ty.aE ts y).map aj.c).length:=cu;refine⟨_,?_,h⟩;simp only[dP.er,exec,g,Q,wt,if_true,yp hn,SB.er,zag,zap];rw[ai.qC];refine(ah ⟨trivial,?_⟩).trans (congrArg (fun l=>some (σ.er.fh n (aA.box l))) (hs.trans (by simp)));rw[wt] at Z;exact Z
     ·cases h
    ·rename_i c cs;have hb:=(cv h).1;replace h:=(cv h).2;simp only[BY] at hb;have b1:=Pe hb.1;have b2:=Pe hb.2;have hl:((Ty.aE ts y).map aj.c).length=ts.length:=by rw[wt,Ty.mC]
     have hs:=amE ((Ty.aE ts y).map aj.c) ((c::cs).map SC.er) (vs.map SC.er) (off - ts.length);rw[hl,show ts.length+(off - ts.length)=off by omega,<-FV] at hs;refine⟨_,?_,h⟩;simp only[dP.er,exec,g,Q,wt,if_true,yp hn,SB.er];rw[ai.qC];refine(ah ⟨trivial,?_⟩).trans (congrArg (fun l=>some (σ.er.fh n (aA.box l))) hs);rw[zaa,hl,wt];omega
   ·cases h
  ·rename_i n G L off s i b vs hp H;have C:=(br h).1;replace h:=(br h).2;subst C;have g:σ.er.ev x.er=.one (.dU n G L off s i):=by rw[ai.fo,hp];rfl
   have Q:(σ.er.ev v.er).cells?=some (b,vs.map SC.er):=by rw[ai.fo];exact SV.nz H
   split at h
   ·rename_i gr us xs hn;have C:=(br h).1;replace h:=(br h).2;subst C;rw[fI] at h;obtain⟨e,I,h⟩:=h
    replace I:xs[G]? =some e:=I
    obtain⟨e',s1,s2⟩:=aAN I h;refine⟨_,?_,s2⟩;simp only[dP.er,exec,g,Q,wt,if_true,yp hn,SB.er,s1,ai.qC]
   ·cases h
  ·cases h
 |gS x=>
  simp only[fS] at h;split at h
  ·rename_i n G sz off hp;have hb:=(cv h).1;replace h:=(cv h).2;have g:σ.er.ev x.er=.one (.ptr n G sz off):=by rw[ai.fo,hp];rfl
   exact⟨_,by simp only[dP.er,exec,g,Ho hb,if_true,ai.eX];rfl,h⟩
  ·rename_i ts y off hp;have g:σ.er.ev x.er=.one (.dN (Ty.aE ts y) off):=by rw[ai.fo,hp];rfl
   exact⟨_,by simp only[dP.er,exec,g,ai.eX];rfl,h⟩
  ·rename_i ts y off j n s len hp;have g:σ.er.ev x.er=.one (.dh (Ty.aE ts y) off j n s len):=by rw[ai.fo,hp];rfl
   exact⟨_,by simp only[dP.er,exec,g,ai.eX];rfl,h⟩
  ·cases h
 |bin op x y=>
  simp only[fS] at h;obtain⟨t,z,B,A⟩:=aoz h;exact⟨_,by simp only[dP.er,exec,ai.fo,B,ai.eX];rfl,A⟩
 |un op x=>
  simp only[fS] at h;obtain⟨t,z,B,A⟩:=aBj h;exact⟨_,by simp only[dP.er,exec,ai.fo,B,ai.eX];rfl,A⟩
 |conv V x=>
  simp only[fS] at h;split at h
  ·rename_i k' n hp;have g:σ.er.ev x.er=.one (.c (.int k' n)):=by rw[ai.fo,hp];rfl
   exact⟨_,by simp only[dP.er,exec,g,ai.eX];rfl,h⟩
  ·cases h
 |jP m ts dW z l c=>
  simp only[fS] at h;split at h
  ·rename_i n a b ha hb;rw[fI] at h;obtain⟨len,hm,h⟩:=h;unfold ki at hm;split at hm
   ·rename_i F;injection hm with hm;subst hm;split at h
    ·rename_i σ1 e;have i:=ai.uw e;have xg:(σ.er.ev l.er).fw=some a:=by rw[ai.fo];exact SV.EW ha
     have bn:(σ.er.ev c.er).fw=some b:=by rw[ai.fo];exact SV.EW hb
     refine⟨_,?_,h⟩;have N:(Ty.aE ts z).length=ts.length:=Ty.mC ts z;have gG:(SB.row true m ts (cj a.toNat z)).er=aA.row true m ts.length (IT a.toNat (Ty.aE ts z)):=by simp[SB.er,cj,zaF]
     have HJ:a<=b/\0<=a/\b.toNat*dW<=gH/\(Ty.aE ts z).length=ts.length:=⟨F.1,F.2.1,F.2.2,N⟩;simp only[dP.er,exec,xg,bn,ah HJ,<-gG,i,ai.eX];rfl
    ·cases h
   ·cases hm
  ·cases h
 |slice sz x lo hi=>
  simp only[fS] at h;split at h
  ·rename_i n s l0 len l hp el;have g:σ.er.ev x.er=.one (.sl n s l0 len):=by rw[ai.fo,hp];rfl
   split at h
   ·rename_i M eh;have C:=(br h).1;replace h:=(br h).2;subst C;have hb:=(cv h).1;replace h:=(cv h).2;rw[fI] at h;obtain⟨p,hs,h⟩:=h;unfold jg at hs;split at hs
    ·rename_i F;injection hs with hs;subst hs;refine⟨_,?_,h⟩;have P:s=s/\0<=l/\l<=M/\M<=len/\(σ.er.h n).isSome=true:=⟨rfl,F.1,F.2.1,F.2.2,Ho hb⟩;have K:=Q0 el;have D:=Q0 eh;rw[ai.eX];cases lo with
     |none=>
      simp only[OF,Pd] at K;subst K;cases hi with
      |none=>
       simp only[OF,Pd] at D;subst D;simp only[dP.er,exec,g,OF];exact ah ⟨trivial,P.2⟩
      |some q=>
       simp only[so] at D;simp only[dP.er,exec,g,OF,so,D];exact ah ⟨trivial,P.2⟩
     |some q0=>
      simp only[so] at K;cases hi with
      |none=>
       simp only[OF,Pd] at D;subst D;simp only[dP.er,exec,g,OF,so,K];exact ah ⟨trivial,P.2⟩
      |some q=>
       simp only[so] at D;simp only[dP.er,exec,g,so,K,D];exact ah ⟨trivial,P.2⟩
    ·cases hs
   ·cases h
  ·rename_i ts xs l hp el;have g:σ.er.ev x.er=.one (.c (.list ts.length (By (Ty.aE ts) xs))):=by rw[ai.fo,hp];rfl
   split at h
   ·rename_i M eh;have C:=(br h).1;replace h:=(br h).2;subst C;rw[fI] at h;obtain⟨p,hs,h⟩:=h;unfold jg at hs;split at hs
    ·rename_i F;injection hs with hs;subst hs;refine⟨_,?_,h⟩;have P:ts.length=ts.length/\0<=l/\l<=M/\M<=(By (Ty.aE ts) xs).length:=⟨rfl,F.1,F.2.1,Int.le_trans F.2.2 (Int.le_of_eq (congrArg _ (wt (Ty.aE ts)).symm))⟩;have K:=Q0 el;have D:(match hi.map cT.er with|none=>some (((By (Ty.aE ts) xs).length:Nat):Int)|some q=>(σ.er.ev q).fw)=some M:=by rw[show(By (Ty.aE ts) xs).length=za8 (α:=Ty.DL ts) xs from wt (Ty.aE ts)];exact Q0 eh
     rw[ai.eX];have PK:By (Ty.aE ts) (zaJ (M - l).toNat (zbb (α:=Ty.DL ts) l.toNat xs))=((By (Ty.aE ts) xs).drop l.toNat).take (M - l).toNat:=by
      rw[zax];exact congrArg (zaJ (M - l).toNat) zaP
     refine Eq.trans ?_ (congrArg (fun q=>some (σ.er.put d (au.one (.c (.list ts.length q))))) PK.symm);cases lo with
     |none=>
      simp only[OF,Pd] at K;subst K;cases hi with
      |none=>
       simp only[OF,Pd] at D;subst D;simp only[dP.er,exec,g,OF];exact ah ⟨trivial,P.2⟩
      |some q=>
       simp only[so] at D;simp only[dP.er,exec,g,OF,so,D];exact ah ⟨trivial,P.2⟩
     |some q0=>
      simp only[so] at K;cases hi with
      |none=>
       simp only[OF,Pd] at D;subst D;simp only[dP.er,exec,g,OF,so,K];exact ah ⟨trivial,P.2⟩
      |some q=>
       simp only[so] at D;simp only[dP.er,exec,g,so,K,D];exact ah ⟨trivial,P.2⟩
    ·cases hs
   ·cases h
  ·cases h
 |ri off x=>
  simp only[fS] at h;split at h
  ·rename_i n G sz o hp;have hb:=(cv h).1;replace h:=(cv h).2;have g:σ.er.ev x.er=.one (.ptr n G sz o):=by rw[ai.fo,hp];rfl
   exact⟨_,by simp only[dP.er,exec,g,Ho hb,if_true,ai.eX];rfl,h⟩
  ·rename_i ts y o hp;have g:σ.er.ev x.er=.one (.dN (Ty.aE ts y) o):=by rw[ai.fo,hp];rfl
   exact⟨_,by simp only[dP.er,exec,g,ai.eX];rfl,h⟩
  ·rename_i ts y o j n s len hp;have g:σ.er.ev x.er=.one (.dh (Ty.aE ts y) o j n s len):=by rw[ai.fo,hp];rfl
   exact⟨_,by simp only[dP.er,exec,g,ai.eX];rfl,h⟩
  ·cases h
 |oF q x i=>
  simp only[fS] at h;split at h
  ·rename_i n G sz o j hp hi;have hb:=(cv h).1;replace h:=(cv h).2;rw[fI] at h;obtain⟨p,E,h⟩:=h;unfold cM at E;split at E
   ·rename_i F;injection E with E;subst E;have g:σ.er.ev x.er=.one (.ptr n G sz o):=by rw[ai.fo,hp];rfl
    have S:(σ.er.ev i.er).fw=some j:=by rw[ai.fo];exact SV.EW hi
    refine⟨_,?_,h⟩;simp only[dP.er,exec,g,S,ai.eX];exact ah ⟨F.1,F.2,Ho hb⟩
   ·cases E
  ·cases h
 |DV q=>
  simp only[fS] at h;split at h
  ·rename_i n;split at h
   ·rename_i σ1 e;have:=ai.uw e;have N:(SB.ef (IT q (.int .i64)) (Bt q) []).er=.box (IT q (.c (.int .i64 0))):=by
     simp only[SB.er,anB,zaF,zag,zap]
    rw[N] at this;exact⟨_,by simp only[dP.er,exec];rw[this,ai.eX];rfl,h⟩
   ·cases h
  ·cases h
 |Kl ts q x=>
  simp only[fS] at h;split at h
  ·rename_i n us y cs hp;have hb:=(cv h).1;replace h:=(cv h).2;rw[BY] at hb;have Lh:=If hb.2
   replace hb:=Ty.qt hb.1
   subst hb Lh;split at h
   ·rename_i σ1 e;have:=ai.uw e;have g:σ.er.ev x.er=.agg ((Ty.aE us y).map .c++cs.map SC.er):=by rw[ai.fo,hp];rfl
    refine⟨_,?_,h⟩;simp only[dP.er,exec,g,au.cells?,zaa,wt,Ty.mC,if_true];rw[show aA.box ((Ty.aE us y).map .c++cs.map SC.er)=(SB.ef us y cs).er from rfl,this,ai.eX]
    rfl
   ·cases h
  ·cases h
 |Ov J q x parts=>
  simp only[fS] at h;split at h
  ·rename_i us y hp;have C:=(br h).1;replace h:=(br h).2;subst C;split at h
   ·rename_i cs H;refine⟨_,?_,h⟩;have g:σ.er.ev x.er=.agg ((Ty.aE us y).map .c):=by rw[ai.fo,hp];simp[SV.er]
    have hl:((Ty.aE us y).map aj.c).length=us.length:=by rw[wt,Ty.mC]
    have B:=al8 (l:=(Ty.aE us y).map aj.c) (aaY H);rw[hl,zaE] at B;have A:dA (IT us.length (aj.c (.int .i64 0))++J.map SC.er) 0 ((Ty.aE us y).map aj.c)=(Ty.aE us y).map aj.c++J.map SC.er:=by
     simp[dA,Ty.mC]
    simp only[dP.er,exec,pz,g,au.cells?,hl,zaa,List.length_replicate,A];rw[ah ⟨trivial,by omega⟩,show(parts.map fun p=>(us.length+p.1,p.2.1,p.2.2.er))=parts.map ((fun p:Nat×Nat×MO=>(us.length+p.1,p.2))∘fun p=>(p.1,p.2.1,p.2.2.er)) from rfl,B,ai.eX]
    rfl
   ·cases h
  ·cases h
 |zN m f x xs=>
  simp only[fS] at h;obtain⟨σ1,B,A⟩:=aAa h;exact⟨σ1,by simp only[dP.er,exec,co,ai.fo,se];exact B,A⟩
 |GR f x xs=>
  simp only[fS] at h;obtain⟨σ1,B,A⟩:=az6 h;exact⟨σ1,by simp only[dP.er,exec,co,ai.fo,se];exact B,A⟩
 |Ko f xs=>
  simp only[fS] at h;obtain⟨σ1,B,A⟩:=az7 h;exact⟨σ1,by simp only[dP.er,exec,se];exact B,A⟩
 |Fj ts x=>
  simp only[fS] at h;split at h
  ·rename_i n G sz off hp;split at h
   ·rename_i us y hn;have C:=(br h).1;replace h:=(br h).2;subst C;have C:=(br h).1;replace h:=(br h).2;subst C;have hb:=Ty.qt (cv h).1;replace h:=(cv h).2;subst hb;have g:σ.er.ev x.er=.one (.ptr n 0 sz 0):=by rw[ai.fo,hp];rfl
    have hs:sub ((Ty.aE us y).map aj.c) 0 us.length=some ((Ty.aE us y).map aj.c):=by
     unfold sub;rw[ah (by simp[Ty.mC]),zaW,zay (by simp[Ty.mC])]
    refine⟨_,?_,h⟩;simp only[dP.er,exec,g,loadAt,yp hn,SB.er,if_true,zag,zap,hs,ai.eX];simp[SV.er,rT]
   ·cases h
  ·cases h
 |FZ ts x v=>
  simp only[fS] at h;split at h
  ·rename_i n G sz off us z hp hv;split at h
   ·rename_i vs y hn;have C:=(br h).1;replace h:=(br h).2;subst C;have C:=(br h).1;replace h:=(br h).2;subst C;have hb:=(cv h).1;replace h:=(cv h).2;simp only[BY] at hb;have b1:=Ty.qt hb.1;have b2:=Ty.qt hb.2;subst b1 b2;have g:σ.er.ev x.er=.one (.ptr n 0 sz 0):=by rw[ai.fo,hp];rfl
    have gW:σ.er.ev v.er=.agg ((Ty.aE vs z).map .c):=by rw[ai.fo,hv];simp[SV.er]
    have hs:dA ((Ty.aE vs y).map aj.c) 0 ((Ty.aE vs z).map aj.c)=(Ty.aE vs z).map .c:=by simp[dA,Ty.mC]
    refine⟨_,?_,h⟩;simp only[dP.er,exec,g,gW,au.cells?,yp hn,SB.er,zag,zap,wt,Ty.mC,za2,zah,and_self,if_true,ai.qC,hs]
   ·cases h
  ·cases h
 |Kn m f xs=>
  simp only[fS] at h;obtain⟨σ1,B,A⟩:=aAc h;exact⟨σ1,by simp only[dP.er,exec,se];exact B,A⟩
 |Ox m f x xs=>
  simp only[fS] at h;split at h
  ·rename_i ts y hp;obtain⟨σ1,B,A⟩:=az5 h;refine⟨σ1,?_,A⟩;have g:σ.er.ev x.er=(SV.arr ts y []).er:=by rw[ai.fo,hp]
   simp only[dP.er,exec,co,g,se];exact B
  ·cases h
 |qL sz x i=>
  simp only[fS] at h;split at h
  ·rename_i n s lo len j hp hi;have C:=(br h).1;replace h:=(br h).2;subst C;have hb:=(cv h).1;replace h:=(cv h).2;rw[fI] at h;obtain⟨q,E,h⟩:=h;unfold cM at E;split at E
   ·rename_i F;injection E with E;subst E;have g:σ.er.ev x.er=.one (.sl n s lo len):=by rw[ai.fo,hp];rfl
    have S:(σ.er.ev i.er).fw=some j:=by rw[ai.fo];exact SV.EW hi
    refine⟨_,?_,h⟩;have HJ:s=s/\0<=j/\j<len/\(σ.er.h n).isSome=true:=⟨rfl,F.1,F.2,Ho hb⟩;simp only[dP.er,exec,g,S,ai.eX];exact ah ⟨trivial,HJ.2⟩
   ·cases E
  ·rename_i ts xs j hp hi;have C:=(br h).1;replace h:=(br h).2;subst C;rw[fI] at h;obtain⟨e,I,h⟩:=h;unfold cV at I;split at I
   ·rename_i F;have g:σ.er.ev x.er=.one (.c (.list ts.length (By (Ty.aE ts) xs))):=by rw[ai.fo,hp];rfl
    have S:(σ.er.ev i.er).fw=some j:=by rw[ai.fo];exact SV.EW hi
    have nM:(By (Ty.aE ts) xs)[j.toNat]? =some (Ty.aE ts e):=avz (Ty.aE ts) I;refine⟨_,?_,h⟩;simp only[dP.er,exec,g,S,F,and_self,if_true,nM,ai.eX];rfl
   ·cases I
  ·rename_i n G L off s len j hp hi;obtain⟨t,y,B,A⟩:=Jo h;have g:σ.er.ev x.er=.one (.cF n G L off s len):=by rw[ai.fo,hp];rfl
   have S:(σ.er.ev i.er).fw=some j:=by rw[ai.fo];exact SV.EW hi
   have U:dE σ.er.h (.cF n G L off s len)=some (t.er y):=B;split at A
   ·rename_i ts ys;have C:=(br A).1;replace A:=(br A).2;subst C;rw[fI] at A;obtain⟨q,E,A⟩:=A;unfold cM at E;split at E
    ·rename_i F;injection E with E;subst E;refine⟨_,?_,A⟩;simp only[dP.er,exec,g,S,U,Ty.er,ai.eX];exact ah ⟨trivial,F.1,by rw[show(By (Ty.aE ts) ys).length=ae (α:=Ty.DL ts) ys from wt (Ty.aE ts)];exact F.2⟩
    ·cases E
   ·cases A
  ·cases h
 |ext i x=>
  simp only[fS] at h;split at h
  ·rename_i xs hp;split at h
   ·rename_i ag cs hg;have g:σ.er.ev x.er=.ct (xs.map fun x=>(x.1,x.2.map SC.er)):=by rw[ai.fo,hp];rfl
    refine⟨_,?_,h⟩;simp only[dP.er,exec,g,AN,hg,so,ai.eX,NM]
   ·cases h
  ·rename_i ts y xs hp;have g:σ.er.ev x.er=.ct ((true,(Ty.aE ts y).map .c)::xs.map fun x=>(x.1,x.2.map SC.er)):=by rw[ai.fo,hp];rfl
   split at h
   ·exact⟨_,by simp only[dP.er,exec,g,zaw,ai.eX];simp[SV.er,rT],h⟩
   ·rename_i j;split at h
    ·rename_i ag cs hg;refine⟨_,?_,h⟩;simp only[dP.er,exec,g,List.getElem?_cons_succ,AN,hg,so,ai.eX,NM]
    ·cases h
  ·cases h
 |len x=>
  simp only[fS] at h;split at h
  ·rename_i n sz lo len hp;have hb:=(cv h).1;replace h:=(cv h).2;have g:σ.er.ev x.er=.one (.sl n sz lo len):=by rw[ai.fo,hp];rfl
   exact⟨_,by simp only[dP.er,exec,g,Ho hb,if_true,ai.eX];rfl,h⟩
  ·rename_i ts xs hp;have g:σ.er.ev x.er=.one (.c (.list ts.length (By (Ty.aE ts) xs))):=by rw[ai.fo,hp];rfl
   exact⟨_,by simp only[dP.er,exec,g,ai.eX];exact congrArg (fun q:Nat=>some (σ.er.put d (au.one (.c (.int .i64 (q:Int)))))) (wt (Ty.aE ts)),h⟩
  ·rename_i ts hp;have g:σ.er.ev x.er=.one (.nil ts.length):=by rw[ai.fo,hp];rfl
   exact⟨_,by simp only[dP.er,exec,g,ai.eX];rfl,h⟩
  ·rename_i n G L off sz len hp;obtain⟨t,y,B,A⟩:=Jo h;have g:σ.er.ev x.er=.one (.cF n G L off sz len):=by rw[ai.fo,hp];rfl
   have U:dE σ.er.h (.cF n G L off sz len)=some (t.er y):=B;split at A
   ·rename_i ts ys;exact⟨_,by simp only[dP.er,exec,g,U,Ty.er,ai.eX];exact congrArg (fun q:Nat=>some (σ.er.put d (au.one (.c (.int .i64 (q:Int)))))) (wt (Ty.aE ts)),A⟩
   ·cases A
  ·cases h
 |append fl ts dW x y=>
  simp only[fS] at h;split at h
  ·cases h
  ·rename_i n;obtain⟨xs,m,σ1,B,A⟩:=azW h;obtain⟨ys,m2,σ2,h3,W⟩:=azX A;rw[fI] at W;obtain⟨_,hf,W⟩:=W;unfold lR at hf;split at hf
   ·rename_i hb;split at W
    ·rename_i jG e;have i:=ai.uw e;refine⟨_,?_,W⟩
     replace hb:(xs.length+ys.length)*dW<=gH:=hb
     have gG:(SB.row true m2 ts (d6 xs ys)).er=aA.row true m2 ts.length (By (Ty.aE ts) xs++By (Ty.aE ts) ys):=by simp[SB.er,d6]
     simp only[dP.er,exec,ai.fo,B,h3,wt,hb,if_true,<-gG,i,ai.eX];rfl
    ·cases W
   ·cases hf
 |mm mx x y=>
  simp only[fS] at h;split at h
  ·rename_i V a kd' b ex ey;have X:σ.er.ev x.er=.one (.c (.int V a)):=by rw[ai.fo,ex];rfl
   have Y:σ.er.ev y.er=.one (.c (.int kd' b)):=by rw[ai.fo,ey];rfl
   split at h
   ·refine⟨_,?_,h⟩;rw[ai.eX];simp only[dP.er,exec,X,Y,if_true];by_cases O:LT.lt (α:=Int) a b
    ·exact(ah O).trans (congrArg (fun q:Int=>some (σ.er.put d (au.one (.c (.int V q))))) (ah O:nX a b=b).symm)
    ·exact(ak O).trans (congrArg (fun q:Int=>some (σ.er.put d (au.one (.c (.int V q))))) (ak O:nX a b=a).symm)
   ·refine⟨_,?_,h⟩;rw[ai.eX];simp only[dP.er,exec,X,Y,zae,if_false];by_cases O:LT.lt (α:=Int) b a
    ·exact(ah O).trans (congrArg (fun q:Int=>some (σ.er.put d (au.one (.c (.int V q))))) (ah O:iw a b=b).symm)
    ·exact(ak O).trans (congrArg (fun q:Int=>some (σ.er.put d (au.one (.c (.int V q))))) (ak O:iw a b=a).symm)
  ·cases h
 |call m f xs=>
  simp only[fS] at h;obtain⟨σ1,B,A⟩:=al2 h;exact⟨σ1,by simp only[dP.er,exec,se];exact B,A⟩
 |copy x y=>
  simp only[fS] at h;split at h
  ·rename_i n s lo len c hp E;split at h
   ·rename_i gr m ts xs hn;have C:=(br h).1;replace h:=(br h).2;subst C;have ht:=(br h).1;replace h:=(br h).2;have hb:=(cv h).1;replace h:=(cv h).2;simp only[BY] at hb;obtain⟨u,ys,B,A⟩:=Jo h;split at A
    ·rename_i us ys;split at A
     ·rename_i J N;rw[fI] at A;obtain⟨aH,H,A⟩:=A;refine⟨_,?_,A⟩;have g:σ.er.ev x.er=.one (.sl n 1 lo len):=by rw[ai.fo,hp];rfl
      have ig:σ.er.ev y.er=.one c.er:=by rw[ai.fo,E];rfl
      have EO:Ty.er (.list us) ys=Ty.er (.list ts) J:=by
       have:=Ty.aoI N;exact this
      have U:dE σ.er.h c.er=some (.list ts.length (By (Ty.aE ts) J)):=by
       have:dE σ.er.h c.er=some (Ty.er (.list us) ys):=B;rw[this,EO];rfl
      obtain⟨c1,c2⟩:=ade H;have mE:m≠ .aQ:=by rintro rfl;exact absurd hb.1 (by simp[Mode.own])
      simp only[dP.er,exec,g,ig,yp hn,SB.er,U];rw[ah ⟨trivial,trivial,ht,ht,mE,FH ts xs hb.2,FH ts J hb.2,by rw[wt];exact c1⟩];rw[ai.eX,ai.qC];simp only[SB.er,c2,ht];rw[show By (Ty.aE ts) (zaJ (α:=Ty.DL ts) len J)=zaJ len (By (Ty.aE ts) J) from zax,show(By (Ty.aE ts) J).length=ae (α:=Ty.DL ts) J from wt _]
      rfl
     ·cases A
    ·cases A
   ·cases h
  ·cases h
 |oW t z x=>
  simp only[fS] at h;split at h
  ·rename_i n s lo len hp;split at h
   ·rename_i gr m ts xs hn;have C:=(br h).1;replace h:=(br h).2;subst C;have hb:=(cv h).1;replace h:=(cv h).2;simp only[BY] at hb;split at h
    ·rename_i e I;rw[fI] at h;obtain⟨aH,H,h⟩:=h;refine⟨_,?_,h⟩;have g:σ.er.ev x.er=.one (.sl n 1 lo len):=by rw[ai.fo,hp];rfl
     have lg:Ty.aE ts e=[t.er z]:=xE I;have R:ts.length=1:=by
      have:=congrArg za8 lg;rw[Ty.mC] at this;exact this
     have uL:Ty.gz ts=true:=by
      have:=Ty.FI ts e;rw[lg] at this;simp only[Am.gz,zar,za3,zaQ,Ty.De,hb.2] at this;exact this.symm
     obtain⟨c1,c2⟩:=ade H;have mE:m≠ .aQ:=by rintro rfl;exact absurd hb.1 (by simp[Mode.own])
     simp only[dP.er,exec,g,yp hn,SB.er];rw[ah ⟨trivial,R,by rw[Ty.De];exact hb.2,mE,FH ts xs uL,by rw[wt];exact c1⟩];rw[ai.eX,ai.qC];simp only[SB.er,c2,R,cj,zaF,lg];rfl
    ·cases h
   ·cases h
  ·cases h
 |tJ f xs=>
  simp only[fS] at h;split at h
  ·rename_i cs H;obtain⟨B,A⟩:=amt H;refine⟨_,?_,h⟩;simp only[dP.er,exec,se];split
   ·rename_i cs' e;have D:some cs'=some (cs.map SC.er):=e.symm.trans B;injection D with D;subst D;rw[ah A,ai.eX];simp only[SV.er,SC.er,SC.KR]
   ·rename_i e;have D:none=some (cs.map SC.er):=e.symm.trans B;cases D
  ·cases h
 |oU m f xs=>
  simp only[fS] at h;obtain⟨σ1,B,A⟩:=az9 h;exact⟨σ1,by simp only[dP.er,exec,se];exact B,A⟩
 |lN f xs=>
  simp only[fS] at h;obtain⟨σ1,B,A⟩:=az8 h;exact⟨σ1,by simp only[dP.er,exec,se];exact B,A⟩
 |oV f xs=>
  simp only[fS] at h;obtain⟨v,B,A⟩:=aAb h;exact⟨σ.put d v,by simp only[dP.er,exec,se,B,ai.eX],A⟩
 |ox m f xs=>
  simp only[fS] at h;obtain⟨σ1,B,A⟩:=aAe h;exact⟨σ1,by simp only[dP.er,exec,se];exact B,A⟩
 |pL f xs=>
  simp only[fS] at h;obtain⟨v,B,A⟩:=aAd h;exact⟨σ.put d v,by simp only[dP.er,exec,se,B,ai.eX],A⟩
 |pK m x xs=>
  simp only[fS] at h;split at h
  ·rename_i f dM hp;have g:σ.er.ev x.er=.one (.fn f (dM.map SC.er)):=by rw[ai.fo,hp];simp only[SV.er,SC.er,SC.KR]
   obtain⟨σ1,B,A⟩:=al2 h;refine⟨σ1,?_,A⟩;simp only[dP.er,exec,g,se];rw[zaU] at B;simp only[zaE] at B⊢;exact B
  ·cases h
structure eM where
 dst:Option Nat
 op:dP
 guard:Option (Nat×Bool)
def eM.er (o:eM):cZ:=⟨o.dst,o.op.er,o.guard⟩
def ai.lit (σ:ai) (n:Nat) (b:Bool):ai:={σ with env:=aV σ.env n (.one (.v .bool b))}
theorem ai.KQ {σ:ai} {n:Nat} {b:Bool} (h:σ.env n=.one (.v .bool b)):(σ.lit n b).er=σ.er:=by have:aV σ.env n (.one (.v .bool b))=σ.env:=(by funext s;simp only[mR];split;rename_i hs;subst hs;exact h.symm;rfl);simp only[ai.lit,this]
def wg (T:List ax):List eM->ai->(ai->Option ρ)->Option ρ
 |[],σ,k=>k σ
 |o::os,σ,k=>match o.guard with
  |none=>fS T o.dst o.op σ fun σ1=>wg T os σ1 k
  |some (s,pC)=>match σ.env s with
   |.one (.v .bool b)=>aD b
    (match pC with
     |true=>fS T o.dst o.op (σ.lit s true) fun σ1=>wg T os σ1 k
     |false=>wg T os ((σ.lit s true).put o.dst (.ct [])) k)
    (match pC with
     |true=>wg T os ((σ.lit s false).put o.dst (.ct [])) k
     |false=>fS T o.dst o.op (σ.lit s false) fun σ1=>wg T os σ1 k)
   |.ct []=>wg T os (σ.put o.dst (.ct [])) k
   |_=>none
theorem aac {T:List ax}:∀{os:List eM} {σ:ai} {k:ai->Option ρ} {r:ρ},wg T os σ k=some r-> ∃σ1:ai,oz (dB T) (os.map eM.er) σ.er=some σ1.er/\k σ1=some r
 |[],σ,k,r,h=>⟨σ,rfl,h⟩
 |o::os,σ,k,r,h=>by obtain⟨d,op,g⟩:=o;have e:∀f:ai,f.er=σ.er->gQ (dB T) (eM.er ⟨d,op,g⟩) σ.er=exec (dB T) d op.er σ.er->fS T d op f (fun σ1=>wg T os σ1 k)=some r-> ∃σ1:ai,oz (dB T) ((⟨d,op,g⟩::os).map eM.er) σ.er=some σ1.er/\k σ1=some r:=(by intro f a m hs;obtain⟨σ1,p,t⟩:=al9 hs;obtain⟨σ2,j,l⟩:=aac t;rw[a] at p;exact⟨σ2,by simp only[co,oz,m,p,j],l⟩);have n:∀f:ai,f.er=σ.er->gQ (dB T) (eM.er ⟨d,op,g⟩) σ.er=some (σ.er.put d (.ct []))->wg T os (f.put d (.ct [])) k=some r-> ∃σ1:ai,oz (dB T) ((⟨d,op,g⟩::os).map eM.er) σ.er=some σ1.er/\k σ1=some r:=(by intro f a m hs;obtain⟨σ2,j,l⟩:=aac hs;rw[ai.eX,a] at j;exact⟨σ2,by simp only[co,oz,m];exact j,l⟩);cases g with|none=>exact e σ rfl rfl h|some g=>obtain⟨s,q⟩:=g;simp only[wg] at h;split at h;rename_i b hs;have i:σ.er.env s=.one (.c (.bool b)):=(by show(σ.env s).er=_;rw[hs];rfl);(cases hb:(b:Bool) with|true=>have a:(σ.lit s true).er=σ.er:=ai.KQ (by rw[hs,hb]);rw[hb] at h;simp only[Hc] at h;(cases q with|true=>exact e _ a (by simp[gQ,eM.er,i,hb]) h|false=>exact n _ a (by simp[gQ,eM.er,i,hb]) h)|false=>have a:(σ.lit s false).er=σ.er:=ai.KQ (by rw[hs,hb]);rw[hb] at h;simp only[Ha] at h;cases q with|true=>exact n _ a (by simp[gQ,eM.er,i,hb]) h|false=>exact e _ a (by simp[gQ,eM.er,i,hb]) h);rename_i hs;have i:σ.er.env s=.ct []:=(by show(σ.env s).er=_;rw[hs];rfl);exact n σ rfl (by simp[gQ,eM.er,i]) h;cases h
def wh (T:List ax) (ps:List (Nat×Nat)):List eM->List (Option FP)->ai->(ai->Option ρ)->Option ρ
 |[],cW,σ,k=>fj (AR ps cW) (k σ)
 |o::os,cW,σ,k=>match o.guard with
  |none=>fS T o.dst o.op σ fun σ1=>wh T ps os (cW++[o.er.fp σ.er]) σ1 k
  |some (s,pC)=>match σ.env s with
   |.one (.v .bool b)=>aD b
    (match pC with
     |true=>fS T o.dst o.op (σ.lit s true) fun σ1=>wh T ps os (cW++[o.er.fp (σ.lit s true).er]) σ1 k
     |false=>wh T ps os (cW++[o.er.fp (σ.lit s true).er]) ((σ.lit s true).put o.dst (.ct [])) k)
    (match pC with
     |true=>wh T ps os (cW++[o.er.fp (σ.lit s false).er]) ((σ.lit s false).put o.dst (.ct [])) k
     |false=>fS T o.dst o.op (σ.lit s false) fun σ1=>wh T ps os (cW++[o.er.fp (σ.lit s false).er]) σ1 k)
   |.ct []=>wh T ps os (cW++[o.er.fp σ.er]) (σ.put o.dst (.ct [])) k
   |_=>none
theorem aab {T:List ax} {ps:List (Nat×Nat)}:∀{os:List eM} {f:List (Option FP)} {σ:ai} {k:ai->Option ρ} {r:ρ},wh T ps os f σ k=some r-> ∃(σ1:ai) (a:List (Option FP)),qD (dB T) (os.map eM.er) f σ.er=some (a,σ1.er)/\AR ps a=true/\k σ1=some r
 |[],f,σ,k,r,h=>⟨σ,f,rfl,(cv h).1,(cv h).2⟩
 |o::os,f,σ,k,r,h=>by obtain⟨d,op,g⟩:=o;have j:∀i:ai,i.er=σ.er->gQ (dB T) (eM.er ⟨d,op,g⟩) σ.er=exec (dB T) d op.er σ.er->fS T d op i (fun σ1=>wh T ps os (f++[(eM.er ⟨d,op,g⟩).fp i.er]) σ1 k)=some r-> ∃(σ1:ai) (a:List (Option FP)),qD (dB T) ((⟨d,op,g⟩::os).map eM.er) f σ.er=some (a,σ1.er)/\AR ps a=true/\k σ1=some r:=(by intro i e p hs;obtain⟨σ1,t,v⟩:=al9 hs;obtain⟨σ2,a,m,n⟩:=aab v;rw[e] at t m;exact⟨σ2,a,by simp only[co,qD,p,t,m],n⟩);have q:∀i:ai,i.er=σ.er->gQ (dB T) (eM.er ⟨d,op,g⟩) σ.er=some (σ.er.put d (.ct []))->wh T ps os (f++[(eM.er ⟨d,op,g⟩).fp i.er]) (i.put d (.ct [])) k=some r-> ∃(σ1:ai) (a:List (Option FP)),qD (dB T) ((⟨d,op,g⟩::os).map eM.er) f σ.er=some (a,σ1.er)/\AR ps a=true/\k σ1=some r:=(by intro i e p hs;obtain⟨σ2,a,m,n⟩:=aab hs;rw[ai.eX,e] at m;exact⟨σ2,a,by simp only[co,qD,p];exact m,n⟩);cases g with|none=>exact j σ rfl rfl h|some g=>obtain⟨s,u⟩:=g;simp only[wh] at h;split at h;rename_i b hs;have l:σ.er.env s=.one (.c (.bool b)):=(by show(σ.env s).er=_;rw[hs];rfl);(cases hb:(b:Bool) with|true=>have e:(σ.lit s true).er=σ.er:=ai.KQ (by rw[hs,hb]);rw[hb] at h;simp only[Hc] at h;(cases u with|true=>exact j _ e (by simp[gQ,eM.er,l,hb]) h|false=>exact q _ e (by simp[gQ,eM.er,l,hb]) h)|false=>have e:(σ.lit s false).er=σ.er:=ai.KQ (by rw[hs,hb]);rw[hb] at h;simp only[Ha] at h;cases u with|true=>exact q _ e (by simp[gQ,eM.er,l,hb]) h|false=>exact j _ e (by simp[gQ,eM.er,l,hb]) h);rename_i hs;have l:σ.er.env s=.ct []:=(by show(σ.env s).er=_;rw[hs];rfl);exact q σ rfl (by simp[gQ,eM.er,l]) h;cases h
end
def SC.pO (n:Nat):SC->SC
 |.cF m k aO off sz len=>match zaz m n with
  |true=>.bZ
  |false=>.cF m k aO off sz len
 |.dU m k aO off sz i=>match zaz m n with
  |true=>.bZ
  |false=>.dU m k aO off sz i
 |x=>x
def SC.cut (n:Nat):SC->SC
 |.fn f dM=>.fn f (dM.map (SC.pO n))
 |.cF m k aO off sz len=>SC.pO n (.cF m k aO off sz len)
 |.dU m k aO off sz i=>SC.pO n (.dU m k aO off sz i)
 |.v t x=>.v t x
 |.nil ts=>.nil ts
 |.ptr m k sz off=>.ptr m k sz off
 |.dN ts x off=>.dN ts x off
 |.sl m sz lo len=>.sl m sz lo len
 |.dh ts x off j m sz len=>.dh ts x off j m sz len
 |.bZ=>.bZ
def SV.cut (n:Nat):SV->SV
 |.one c=>.one (c.cut n)
 |.agg cs=>.agg (cs.map (SC.cut n))
 |.ct xs=>.ct (xs.map fun x=>(x.1,x.2.map (SC.cut n)))
 |.arr ts x cs=>.arr ts x (cs.map (SC.cut n))
 |.oR ts x xs=>.oR ts x (xs.map fun x=>(x.1,x.2.map (SC.cut n)))
def SB.cut (n:Nat):SB->SB
 |.box cs=>.box (cs.map (SC.cut n))
 |.row gr m ts xs=>.row gr m ts xs
 |.ef ts x cs=>.ef ts x (cs.map (SC.cut n))
def ai.cut (σ:ai) (n:Nat):ai:={σ with env:=fun s=>(σ.env s).cut n,h:=fun m=>match σ.h m with|some b=>some (b.cut n)|none=>none}
section
variable {ρ:Type}
structure ab0 where
 ia:Nat
 sz:Nat
 dW:Nat
 mx:cT
 ml:cT
 my:cT
 d:Nat
def ab0.er (s:ab0):J3:=⟨s.ia,s.sz,s.dW,s.mx.er,s.ml.er,s.my.er,s.d⟩
inductive Uz where
 |U8 (ts:List Ty) (p:cT)
 |U9 (p:cT) (s:Nat)
 |pop (x lo:cT) (s:Nat)
 |Vc (f:FuncId) (xs:List cT)
def Uz.er:Uz->COp
 |.U8 ts p=>.U8 ts.length p.er
 |.U9 p s=>.U9 p.er s
 |.pop x lo s=>.pop x.er lo.er s
 |.Vc f xs=>.Vc f (xs.map cT.er)
inductive abV where
 |op (m:eM)
 |Hh (d:Nat) (c:Uz)
def abV.er:abV->anG
 |.op m=>.op m.er
 |.Hh d c=>.Hh d c.er
end
inductive LT where
 |unit
 |ty (t:Ty)
 |dl (ts:List Ty)
 |nat
 |pair (a b:LT)
def LT.D:LT->Type
 |.unit=>Unit
 |.ty t=>t.D
 |.dl ts=>Ty.DL ts
 |.nat=>Nat
 |.pair a b=>a.D×b.D
def LT.Jb (a:LT):LT->LT
 |.unit=>a
 |.ty t=>.pair a (.ty t)
 |.dl ts=>.pair a (.dl ts)
 |.nat=>.pair a .nat
 |.pair x y=>.pair a (.pair x y)
def LT.sp:LT->LT->LT
 |.unit,b=>b
 |.ty t,b=>LT.Jb (.ty t) b
 |.dl ts,b=>LT.Jb (.dl ts) b
 |.nat,b=>LT.Jb .nat b
 |.pair x y,b=>LT.Jb (.pair x y) b
def LT.NA (a:LT):(b:LT)->(LT.Jb a b).D->a.D×b.D
 |.unit,x=>(x,())
 |.ty _,x=>x
 |.dl _,x=>x
 |.nat,x=>x
 |.pair _ _,x=>x
def LT.vc:(a b:LT)->(LT.sp a b).D->a.D×b.D
 |.unit,b,x=>((),x)
 |.ty t,b,x=>LT.NA (.ty t) b x
 |.dl ts,b,x=>LT.NA (.dl ts) b x
 |.nat,b,x=>LT.NA .nat b x
 |.pair x y,b,z=>LT.NA (.pair x y) b z
def LT.Nz (a:LT):(b:LT)->a.D->b.D->(LT.Jb a b).D
 |.unit,x,_=>x
 |.ty _,x,y=>(x,y)
 |.dl _,x,y=>(x,y)
 |.nat,x,y=>(x,y)
 |.pair _ _,x,y=>(x,y)
def LT.FU:(a b:LT)->a.D->b.D->(LT.sp a b).D
 |.unit,b,_,y=>y
 |.ty t,b,x,y=>LT.Nz (.ty t) b x y
 |.dl ts,b,x,y=>LT.Nz (.dl ts) b x y
 |.nat,b,x,y=>LT.Nz .nat b x y
 |.pair u v,b,x,y=>LT.Nz (.pair u v) b x y
theorem LT.aAE (a b:LT) (x:a.D) (y:b.D):LT.NA a b (LT.Nz a b x y)=(x,y):=by cases b<;>rfl
theorem LT.aaJ (a b:LT) (x:a.D) (y:b.D):LT.vc a b (LT.FU a b x y)=(x,y):=by cases a with|unit=>rfl|_=>exact LT.aAE _ b x y
section
variable {α β ρ:Type} {L:α->LT}
def LL (L:α->LT):List α->LT
 |[]=>.unit
 |a::l=>LT.sp (L a) (LL L l)
def rV (un:(a:α)->(L a).D->β):(l:List α)->(LL L l).D->List β
 |[],_=>[]
 |a::l,x=>un a (LT.vc (L a) (LL L l) x).1::rV un l (LT.vc (L a) (LL L l) x).2
def uC (flat:(a:α)->β->((L a).D->Option ρ)->Option ρ):(l:List α)->List β->((LL L l).D->Option ρ)->Option ρ
 |[],[],k=>k ()
 |a::l,b::bs,k=>flat a b fun x=>uC flat l bs fun y=>k (LT.FU (L a) (LL L l) x y)
 |_,_,_=>none
theorem z6 {flat:(a:α)->β->((L a).D->Option ρ)->Option ρ} {un:(a:α)->(L a).D->β} (d:∀a b k r,flat a b k=some r->∃x,b=un a x/\k x=some r):∀{l:List α} {c:List β} {k:(LL L l).D->Option ρ} {r:ρ},uC flat l c k=some r-> ∃x,c=rV un l x/\k x=some r
 |[],[],k,r,h=>⟨(),rfl,h⟩
 |a::l,b::c,k,r,h=>by simp only[uC] at h;obtain⟨x,rfl,f⟩:=d _ _ _ _ h;obtain⟨y,rfl,e⟩:=z6 d f;exact⟨LT.FU (L a) (LL L l) x y,by simp only[rV,LT.aaJ],e⟩
 |[],_::_,k,r,h=>by simp[uC] at h
 |_::_,[],k,r,h=>by simp[uC] at h
end
inductive kV where
 |v (t:Ty)
 |nil (ts:List Ty)
 |Fz (n off:Nat)
 |ptr (n sz off:Nat)
 |dN (ts:List Ty) (off:Nat)
 |dh (ts:List Ty) (off j n sz:Nat)
 |full (n sz:Nat)
 |sl (n sz:Nat)
 |cF (n aO off sz:Nat)
 |bZ
inductive ff where
 |c (s:kV)
 |fn (f:FuncId) (dM:List kV)
inductive kH where
 |one (c:ff)
 |agg (cs:List ff)
 |ct (xs:List (Bool×List ff))
inductive iG where
 |box (cs:List ff)
 |row (gr:Bool) (m:Mode) (ts:List Ty)
 |ef (ts:List Ty) (cs:List ff)
structure nw where
 env:List (Nat×kH)
 heap:List (Nat×iG)
abbrev nw.ke (sh:nw):List Nat:=sh.env.map (·.1)
def kV.L:kV->LT
 |.v t=>.ty t
 |.nil _=>.unit
 |.Fz _ _=>.unit
 |.ptr _ _ _=>.nat
 |.dN ts _=>.dl ts
 |.dh ts _ _ _ _=>.dl ts
 |.full _ _=>.unit
 |.sl _ _=>.pair .nat .nat
 |.cF _ _ _ _=>.pair .nat .nat
 |.bZ=>.unit
def kV.un (ln:Nat->Nat):(s:kV)->s.L.D->SC
 |.v t,x=>.v t x
 |.nil ts,_=>.nil ts
 |.Fz n off,_=>.ptr n 0 0 off
 |.ptr n sz off,k=>.ptr n k sz off
 |.dN ts off,x=>.dN ts x off
 |.dh ts off j n sz,x=>.dh ts x off j n sz (ln n)
 |.full n sz,_=>.sl n sz 0 (ln n)
 |.sl n sz,x=>.sl n sz x.1 x.2
 |.cF n aO off sz,x=>.cF n x.1 aO off sz x.2
 |.bZ,_=>.bZ
section
variable {ρ:Type}
def kV.flat (ln:Nat->Nat) (s:kV) (c:SC) (k:s.L.D->Option ρ):Option ρ:=
 match s,c with
 |.v t,.v u x=>match Ty.cast u t x with
  |some y=>k y
  |none=>none
 |.nil ts,.nil us=>fj (Ty.r5 us ts) (k ())
 |.Fz n off,.ptr n' kk sz AO=>dr n' n (dr kk 0 (dr sz 0 (dr AO off (k ()))))
 |.ptr n sz off,.ptr n' kk ba AO=>dr n' n (dr ba sz (dr AO off (k kk)))
 |.dN ts off,.dN us x AO=>dr AO off (match Ty.uk us ts x with
  |some y=>k y
  |none=>none)
 |.dh ts off j n sz,.dh us x AO j' n' ba len=>dr AO off (dr j' j (dr n' n (dr ba sz ((bh 0 len (ln n)).ab fun _=>match Ty.uk us ts x with
  |some y=>k y
  |none=>none))))
 |.full n sz,.sl n' ba lo len=>dr n' n (dr ba sz ((bh lo len (ln n)).ab fun _=>k ()))
 |.sl n sz,.sl n' ba lo len=>dr n' n (dr ba sz (k (lo,len)))
 |.cF n aO off sz,.cF n' kk azE AO ba len=>dr n' n (dr azE aO (dr AO off (dr ba sz (k (kk,len)))))
 |.bZ,.bZ=>k ()
 |_,_=>none
theorem Ty.cast_eq {t u:Ty} {x:t.D} {y:u.D} (h:Ty.cast t u x=some y):SC.v t x=SC.v u y:=by unfold Ty.cast at h;split at h;rename_i a;have:=Ty.beq_eq a;subst this;injection h with h;rw[<-h];cases h
theorem Ty.aoG {ts us:List Ty} {x:Ty.DL ts} {y:Ty.DL us} (h:Ty.uk ts us x=some y) (off:Nat):SC.dN ts x off=SC.dN us y off:=by unfold Ty.uk at h;split at h;rename_i a;have:=Ty.qt a;subst this;injection h with h;rw[<-h];cases h
theorem Ty.aoH {ts us:List Ty} {x:Ty.DL ts} {y:Ty.DL us} (h:Ty.uk ts us x=some y) (off j n sz len:Nat):SC.dh ts x off j n sz len=SC.dh us y off j n sz len:=by unfold Ty.uk at h;split at h;rename_i a;have:=Ty.qt a;subst this;injection h with h;rw[<-h];cases h
theorem kV.ti {e:Nat->Nat} (s:kV) (c:SC) (k:s.L.D->Option ρ) (r:ρ) (h:s.flat e c k=some r):∃x,c=s.un e x/\k x=some r:=by cases s with|v t=>(cases c<;>simp only[kV.flat] at h<;>first|(cases h;done)|skip);split at h;rename_i y hy;exact⟨y,Ty.cast_eq hy,h⟩;cases h|nil ts=>(cases c<;>simp only[kV.flat] at h<;>first|(cases h;done)|skip);have f:=(cv h).1;replace h:=(cv h).2;exact⟨(),by rw[Ty.qt f];rfl,h⟩|Fz n off=>(cases c<;>simp only[kV.flat] at h<;>first|(cases h;done)|skip);have a:=(br h).1;replace h:=(br h).2;subst a;have a:=(br h).1;replace h:=(br h).2;subst a;have a:=(br h).1;replace h:=(br h).2;subst a;have a:=(br h).1;replace h:=(br h).2;subst a;exact⟨(),rfl,h⟩|ptr n sz off=>(cases c<;>simp only[kV.flat] at h<;>first|(cases h;done)|skip);have a:=(br h).1;replace h:=(br h).2;subst a;have a:=(br h).1;replace h:=(br h).2;subst a;have a:=(br h).1;replace h:=(br h).2;subst a;exact⟨_,rfl,h⟩|dN ts off=>(cases c<;>simp only[kV.flat] at h<;>first|(cases h;done)|skip);have a:=(br h).1;replace h:=(br h).2;subst a;split at h;rename_i y hy;exact⟨y,Ty.aoG hy _,h⟩;cases h|dh ts off j n sz=>(cases c<;>simp only[kV.flat] at h<;>first|(cases h;done)|skip);have a:=(br h).1;replace h:=(br h).2;subst a;have a:=(br h).1;replace h:=(br h).2;subst a;have a:=(br h).1;replace h:=(br h).2;subst a;have a:=(br h).1;replace h:=(br h).2;subst a;rw[fI] at h;obtain⟨_,b,h⟩:=h;unfold bh at b;split at b;rename_i d;obtain⟨_,rfl⟩:=d;split at h;rename_i y hy;exact⟨y,Ty.aoH hy _ _ _ _ _,h⟩;cases h;cases b|full n sz=>(cases c<;>simp only[kV.flat] at h<;>first|(cases h;done)|skip);have a:=(br h).1;replace h:=(br h).2;subst a;have a:=(br h).1;replace h:=(br h).2;subst a;rw[fI] at h;obtain⟨_,b,h⟩:=h;unfold bh at b;split at b;rename_i d;obtain⟨rfl,rfl⟩:=d;exact⟨(),rfl,h⟩;cases b|sl n sz=>(cases c<;>simp only[kV.flat] at h<;>first|(cases h;done)|skip);have a:=(br h).1;replace h:=(br h).2;subst a;have a:=(br h).1;replace h:=(br h).2;subst a;exact⟨_,rfl,h⟩|cF n aO off sz=>(cases c<;>simp only[kV.flat] at h<;>first|(cases h;done)|skip);have a:=(br h).1;replace h:=(br h).2;subst a;have a:=(br h).1;replace h:=(br h).2;subst a;have a:=(br h).1;replace h:=(br h).2;subst a;have a:=(br h).1;replace h:=(br h).2;subst a;exact⟨_,rfl,h⟩|bZ=>(cases c<;>simp only[kV.flat] at h<;>first|(cases h;done)|skip);exact⟨(),rfl,h⟩
def ff.L:ff->LT
 |.c s=>s.L
 |.fn _ dM=>LL kV.L dM
def ff.un (ln:Nat->Nat):(s:ff)->s.L.D->SC
 |.c s,x=>s.un ln x
 |.fn f dM,x=>.fn f (rV (kV.un ln) dM x)
def ff.flat (ln:Nat->Nat) (s:ff) (c:SC) (k:s.L.D->Option ρ):Option ρ:=
 match s,c with
 |.c s,c=>s.flat ln c k
 |.fn f dM,.fn f' cs=>dr f' f (uC (kV.flat ln) dM cs k)
 |_,_=>none
theorem ff.ti {d:Nat->Nat} (s:ff) (c:SC) (k:s.L.D->Option ρ) (r:ρ) (h:s.flat d c k=some r):∃x,c=s.un d x/\k x=some r:=by cases s with|c s=>exact s.ti c k r (by cases c<;>exact h)|fn f dM=>(cases c<;>simp only[ff.flat] at h<;>first|(cases h;done)|skip);have g:=(br h).1;replace h:=(br h).2;subst g;obtain⟨x,i,e⟩:=z6 (un:=kV.un d) (fun a b k r=>kV.ti a b k r) h;subst i;replace h:=e;exact⟨x,rfl,h⟩
def kH.L:kH->LT
 |.one c=>c.L
 |.agg cs=>LL ff.L cs
 |.ct xs=>LL (fun x:Bool×List ff=>LL ff.L x.2) xs
def kH.un (ln:Nat->Nat):(s:kH)->s.L.D->SV
 |.one c,x=>.one (c.un ln x)
 |.agg cs,x=>.agg (rV (ff.un ln) cs x)
 |.ct xs,x=>.ct (rV (L:=fun x:Bool×List ff=>LL ff.L x.2) (fun a y=>(a.1,rV (ff.un ln) a.2 y)) xs x)
def aem (ln:Nat->Nat) (a:Bool×List ff) (b:Bool×List SC) (k:(LL ff.L a.2).D->Option ρ):Option ρ:=
 fj (a.1==b.1) (uC (ff.flat ln) a.2 b.2 k)
def kH.flat (ln:Nat->Nat) (s:kH) (v:SV) (k:s.L.D->Option ρ):Option ρ:=
 match s,v with
 |.one c,.one v=>c.flat ln v k
 |.agg cs,.agg vs=>uC (ff.flat ln) cs vs k
 |.ct xs,.ct vs=>uC (L:=fun x:Bool×List ff=>LL ff.L x.2) (aem ln) xs vs k
 |_,_=>none
theorem kH.ti {e:Nat->Nat} (s:kH) (v:SV) (k:s.L.D->Option ρ) (r:ρ) (h:s.flat e v k=some r):∃x,v=s.un e x/\k x=some r:=by cases s with|one c=>(cases v<;>simp only[kH.flat] at h<;>first|(cases h;done)|skip);obtain⟨x,f,d⟩:=ff.ti _ _ _ _ h;subst f;replace h:=d;exact⟨x,rfl,h⟩|agg cs=>(cases v<;>simp only[kH.flat] at h<;>first|(cases h;done)|skip);obtain⟨x,f,d⟩:=z6 (un:=ff.un e) (fun a b k r=>ff.ti a b k r) h;subst f;replace h:=d;exact⟨x,rfl,h⟩|ct xs=>(cases v<;>simp only[kH.flat] at h<;>first|(cases h;done)|skip);obtain⟨x,f,d⟩:=z6 (L:=fun x:Bool×List ff=>LL ff.L x.2) (un:=fun a y=>(a.1,rV (ff.un e) a.2 y)) (fun a b k r h=>by unfold aem at h;have g:=(cv h).1;replace h:=(cv h).2;obtain⟨x,i,h⟩:=z6 (un:=ff.un e) (fun a b k r=>ff.ti a b k r) h;exact⟨x,za7 (eq_of_beq g).symm i,h⟩) h;subst f;exact⟨x,rfl,d⟩
def iG.L:iG->LT
 |.box cs=>LL ff.L cs
 |.row _ _ ts=>.ty (.list ts)
 |.ef ts cs=>LT.sp (.dl ts) (LL ff.L cs)
def iG.un (ln:Nat->Nat):(s:iG)->s.L.D->SB
 |.box cs,x=>.box (rV (ff.un ln) cs x)
 |.row gr m ts,x=>.row gr m ts x
 |.ef ts cs,x=>.ef ts (LT.vc (.dl ts) (LL ff.L cs) x).1 (rV (ff.un ln) cs (LT.vc (.dl ts) (LL ff.L cs) x).2)
def Mode.beq:Mode->Mode->Bool
 |.live,.live=>true
 |.aS,.aS=>true
 |.aQ,.aQ=>true
 |_,_=>false
theorem Mode.beq_eq {a b:Mode} (h:Mode.beq a b=true):a=b:=by cases a<;>cases b<;>first|rfl|cases h
def iG.flat (ln:Nat->Nat) (s:iG) (b:Option SB) (k:s.L.D->Option ρ):Option ρ:=
 match s,b with
 |.box cs,some (.box vs)=>uC (ff.flat ln) cs vs k
 |.row gr m ts,some (.row cd m' us xs)=>fj (cd==gr) (fj (Mode.beq m' m) (match BV us ts xs with
  |some y=>k y
  |none=>none))
 |.ef ts cs,some (.ef us x vs)=>match Ty.uk us ts x with
  |some y=>uC (ff.flat ln) cs vs fun z=>k (LT.FU (.dl ts) (LL ff.L cs) y z)
  |none=>none
 |_,_=>none
theorem anZ {us ts:List Ty} {x:Ty.DL us} {y:Ty.DL ts} (h:Ty.uk us ts x=some y) (cs:List SC):SB.ef us x cs=SB.ef ts y cs:=by unfold Ty.uk at h;split at h;rename_i a;have b:=Ty.qt a;subst b;injection h with h;rw[<-h];cases h
theorem azB {us ts:List Ty} {xs:List (Ty.DL us)} {ys:List (Ty.DL ts)} (h:BV us ts xs=some ys) (a:Bool) (m:Mode):SB.row a m us xs=SB.row a m ts ys:=by unfold BV at h;split at h;rename_i b;have c:=Ty.qt b;subst c;injection h with h;rw[<-h];cases h
theorem iG.ti {c:Nat->Nat} (s:iG) (b:Option SB) (k:s.L.D->Option ρ) (r:ρ) (h:s.flat c b k=some r):∃x,b=some (s.un c x)/\k x=some r:=by cases s with|box cs=>(cases b with|none=>cases h|some b=>(cases b<;>simp only[iG.flat] at h<;>first|(cases h;done)|skip);obtain⟨x,e,d⟩:=z6 (un:=ff.un c) (fun a b k r=>ff.ti a b k r) h;subst e;replace h:=d;exact⟨x,rfl,h⟩)|row gr m ts=>(cases b with|none=>cases h|some b=>(cases b<;>simp only[iG.flat] at h<;>first|(cases h;done)|skip);have g:=(cv h).1;replace h:=(cv h).2;have f:=(cv h).1;replace h:=(cv h).2;split at h;rename_i y hy;refine⟨y,?_,h⟩;rw[eq_of_beq g,Mode.beq_eq f,azB hy];rfl;cases h)|ef ts cs=>cases b with|none=>cases h|some b=>(cases b<;>simp only[iG.flat] at h<;>first|(cases h;done)|skip);split at h;rename_i y hy;obtain⟨z,e,d⟩:=z6 (un:=ff.un c) (fun a b k r=>ff.ti a b k r) h;subst e;refine⟨_,?_,d⟩;rw[anZ hy];exact congrArg some (congrArg (fun p:Ty.DL ts×(LL ff.L cs).D=>SB.ef ts p.1 (rV (ff.un c) cs p.2)) (LT.aaJ (.dl ts) (LL ff.L cs) y z)).symm;cases h
end
def qA:List (Nat×SV)->Nat->SV
 |[]=>fun _=>.one .bZ
 |p::l=>aV (qA l) p.1 p.2
def nI:List (Nat×Option SB)->Nat->Option SB
 |[]=>fun _=>none
 |p::l=>aV (nI l) p.1 p.2
def Jv:List (Nat×iG)->Nat->Bool
 |[]=>fun _=>false
 |p::l=>aV (Jv l) p.1 true
def wc (h:Nat->Option SB) (n:Nat):Nat:=
 match h n with
 |some (.row _ _ ts xs)=>ae (α:=Ty.DL ts) xs
 |_=>0
abbrev nw.eL (sh:nw):LT:=LL (fun p:Nat×kH=>p.2.L) sh.env
abbrev nw.hL (sh:nw):LT:=LL (fun p:Nat×iG=>p.2.L) sh.heap
def nw.L (sh:nw):LT:=LT.sp sh.eL sh.hL
def SN (ln:Nat->Nat) (l:List (Nat×kH)) (x:(LL (fun p:Nat×kH=>p.2.L) l).D):List (Nat×SV):=
 rV (L:=fun p:Nat×kH=>p.2.L) (fun p y=>(p.1,p.2.un ln y)) l x
def DC (ln:Nat->Nat) (l:List (Nat×iG)) (x:(LL (fun p:Nat×iG=>p.2.L) l).D):List (Nat×Option SB):=
 rV (L:=fun p:Nat×iG=>p.2.L) (fun p y=>(p.1,some (p.2.un ln y))) l x
def vU:(l:List (Nat×iG))->(LL (fun p:Nat×iG=>p.2.L) l).D->Nat->Nat
 |[],_=>fun _=>0
 |(n,.box cs)::l,x=>aV (vU l (LT.vc _ _ x).2) n 0
 |(n,.ef ts cs)::l,x=>aV (vU l (LT.vc (LT.sp (.dl ts) (LL ff.L cs)) _ x).2) n 0
 |(n,.row gr m ts)::l,x=>aV (vU l (LT.vc (LT.ty (.list ts)) _ x).2) n (ae (α:=Ty.DL ts) (LT.vc (LT.ty (.list ts)) _ x).1)
theorem QA (a:Nat->Nat):∀(l:List (Nat×iG)) (x:(LL (fun p:Nat×iG=>p.2.L) l).D),vU l x=wc (nI (DC a l x))
 |[],_=>rfl
 |(n,.box cs)::l,x=>by funext m;simp only[vU,DC,rV,nI,wc];by_cases hm:m=n;subst hm;simp only[cX];rfl;simp only[dJ _ _ _ _ hm];exact congrFun (QA a l _) m
 |(n,.ef ts cs)::l,x=>by funext m;simp only[vU,DC,rV,nI,wc];by_cases hm:m=n;subst hm;simp only[cX];rfl;simp only[dJ _ _ _ _ hm];exact congrFun (QA a l _) m
 |(n,.row gr mo ts)::l,x=>by funext m;simp only[vU,DC,rV,nI,wc];by_cases hm:m=n;subst hm;simp only[cX];rfl;simp only[dJ _ _ _ _ hm];exact congrFun (QA a l _) m
def nw.un (sh:nw) (x:sh.L.D):ai:=
 {env:=qA (SN (vU sh.heap (LT.vc sh.eL sh.hL x).2) sh.env (LT.vc sh.eL sh.hL x).1)
  h:=nI (DC (vU sh.heap (LT.vc sh.eL sh.hL x).2) sh.heap (LT.vc sh.eL sh.hL x).2)
  used:=fun n=>zaj aL n||Jv sh.heap n}
def vA (n:Nat):List (Nat×iG)->Bool
 |[]=>false
 |p::l=>match zaz n p.1 with
  |true=>true
  |false=>vA n l
section
variable {ρ:Type}
def aej (ln:Nat->Nat) (p:Nat×kH) (v:Nat×SV) (k:p.2.L.D->Option ρ):Option ρ:=dr v.1 p.1 (p.2.flat ln v.2 k)
def aek (ln:Nat->Nat) (p:Nat×iG) (b:Nat×Option SB) (k:p.2.L.D->Option ρ):Option ρ:=dr b.1 p.1 (p.2.flat ln b.2 k)
def OM (σ:ai) (hp:List (Nat×iG)):List Nat->Bool
 |[]=>true
 |n::kh=>(match vA n hp with|true=>σ.used n|false=>(match σ.used n with|true=>zaj aL n|false=> !(zaj aL n))&&(σ.h n).isNone)&&OM σ hp kh
def Oh (kh:List Nat):List (Nat×iG)->Bool
 |[]=>true
 |p::l=>kh.contains p.1&&Oh kh l
def nw.flat (sh:nw) (kh:List Nat) (σ:ai) (k:sh.L.D->Option ρ):Option ρ:=
 fj (OM σ sh.heap kh&&Oh kh sh.heap)
  (uC (aej (wc σ.h)) sh.env (sh.env.map fun p=>(p.1,σ.env p.1)) fun xe=>
   uC (aek (wc σ.h)) sh.heap (sh.heap.map fun p=>(p.1,σ.h p.1)) fun xh=>k (LT.FU sh.eL sh.hL xe xh))
end
theorem apY (l:List (Nat×kH)) (f:Nat->SV) (b:∀s,s∉l.map (·.1)->f s=.one .bZ):qA (l.map fun p=>(p.1,f p.1))=f:=by
 have:∀(l:List (Nat×kH)) s,qA (l.map fun p=>(p.1,f p.1)) s=if s∈l.map (·.1) then f s else .one .bZ:=by
  intro l s;induction l with
  |nil=>rfl
  |cons p l c=>
   simp only[co,qA,mR,c,zab];by_cases h:s=p.1
   ·subst h;simp
   ·by_cases a:s∈l.map (·.1)
    ·rw[ak h,ah a,ah (Or.inr a)]
    ·rw[ak h,ak a,ak (fun e=>e.elim h a)]
 funext s;rw[this];split
 ·rfl
 ·rename_i h;exact(b s h).symm
theorem arT (l:List (Nat×iG)) (f:Nat->Option SB) (b:∀s,s∉l.map (·.1)->f s=none):nI (l.map fun p=>(p.1,f p.1))=f:=by
 have:∀(l:List (Nat×iG)) s,nI (l.map fun p=>(p.1,f p.1)) s=if s∈l.map (·.1) then f s else none:=by
  intro l s;induction l with
  |nil=>rfl
  |cons p l c=>
   simp only[co,nI,mR,c,zab];by_cases h:s=p.1
   ·subst h;simp
   ·by_cases a:s∈l.map (·.1)
    ·rw[ak h,ah a,ah (Or.inr a)]
    ·rw[ak h,ak a,ak (fun e=>e.elim h a)]
 funext s;rw[this];split
 ·rfl
 ·rename_i h;exact(b s h).symm
theorem afz (n:Nat) (l:List (Nat×iG)):vA n l=true↔n∈l.map (·.1):=by induction l with|nil=>simp[vA]|cons p l a=>simp only[vA,co,zab];cases h:zaz n p.1 with|true=>simp[If h]|false=>simp only[a];constructor;exact .inr;rintro(rfl|b);rw[zaq] at h;cases h;exact b
theorem aBu (n:Nat) (l:List (Nat×iG)):Jv l n=vA n l:=by induction l with|nil=>rfl|cons p l a=>simp only[Jv,vA,mR,a];by_cases h:n=p.1;subst h;simp[zaq];have:zaz n p.1=false:=(by cases hb:zaz n p.1 with|true=>exact absurd (If hb) h|false=>rfl);simp[h,this]
theorem Vi {σ:ai} {hp:List (Nat×iG)}:∀{b:List Nat},OM σ hp b=true->∀n∈b,σ.used n=(zaj aL n||vA n hp)/\(vA n hp=false->σ.h n=none)
 |[],_,n,hn=>by cases hn
 |m::b,h,n,hn=>by simp only[OM,BY] at h;rcases zab.1 hn with c|hn;subst c;(cases hh:vA n hp with|true=>rw[hh] at h;have a:σ.used n=true:=h.1;exact⟨by rw[a,Bool.or_true],fun e=>by cases e⟩|false=>rw[hh] at h;simp only[BY,Option.isNone_iff_eq_none] at h;refine⟨?_,fun _=>h.1.2⟩;have a:=h.1.1;rw[zba];cases hu:σ.used n with|true=>rw[hu] at a;exact a.symm|false=>rw[hu] at a;simpa using a.symm);exact Vi h.2 n hn
theorem ab9 {a:List Nat}:∀{l:List (Nat×iG)},Oh a l=true->∀n∈l.map (·.1),n∈a
 |[],_,n,hn=>by cases hn
 |p::l,h,n,hn=>by simp only[Oh,BY] at h;simp only[co,zab] at hn;rcases hn with rfl|hn;simpa using h.1;exact ab9 h.2 n hn
theorem nw.ti {ρ:Type} {c:nw} {i:List Nat} {σ:ai} {k:c.L.D->Option ρ} {r:ρ} (h:c.flat i σ k=some r) (v:∀s,s∉c.ke->σ.env s=.one .bZ) (t:∀n,n∉i->σ.h n=none/\σ.used n=zaj aL n):∃x,σ=c.un x/\k x=some r:=by unfold nw.flat at h;have g:=(cv h).1;replace h:=(cv h).2;simp only[BY] at g;obtain⟨f,w,h⟩:=z6 (L:=fun p:Nat×kH=>p.2.L) (un:=fun p y=>(p.1,p.2.un (wc σ.h) y)) (fun a b k r h=>by unfold aej at h;obtain⟨m,h⟩:=br h;obtain⟨x,l,h⟩:=kH.ti _ _ _ _ h;exact⟨x,za7 m l,h⟩) h;obtain⟨d,z,h⟩:=z6 (L:=fun p:Nat×iG=>p.2.L) (un:=fun p y=>(p.1,some (p.2.un (wc σ.h) y))) (fun a b k r h=>by unfold aek at h;obtain⟨m,h⟩:=br h;obtain⟨x,l,h⟩:=iG.ti _ _ _ _ h;exact⟨x,za7 m l,h⟩) h;have u:σ.env=qA (SN (wc σ.h) c.env f):=(by unfold SN;rw[<-w];exact(apY c.env σ.env v).symm);have q:σ.h=nI (DC (wc σ.h) c.heap d):=(by unfold DC;rw[<-z];refine(arT c.heap σ.h fun n hn=>?_).symm;by_cases e:n∈i;refine(Vi g.1 n e).2 ?_;(cases hb:vA n c.heap with|true=>exact absurd ((afz n c.heap).1 hb) hn|false=>rfl);exact(t n e).1);have o:vU c.heap d=wc σ.h:=(by rw[QA (wc σ.h),<-q]);have j:σ.used=fun n=>zaj aL n||Jv c.heap n:=(by funext n;rw[aBu];by_cases e:n∈i;exact(Vi g.1 n e).1;rw[(t n e).2];cases hb:vA n c.heap with|true=>exact absurd (ab9 g.2 n ((afz n c.heap).1 hb)) e|false=>rw[zba]);refine⟨LT.FU c.eL c.hL f d,?_,h⟩;have:c.un (LT.FU c.eL c.hL f d)={env:=qA (SN (vU c.heap d) c.env f),h:=nI (DC (vU c.heap d) c.heap d),used:=fun n=>zaj aL n||Jv c.heap n}:=(by simp only[nw.un,LT.aaJ]);rw[this,o,<-u,<-q,<-j]
end Go.Am
