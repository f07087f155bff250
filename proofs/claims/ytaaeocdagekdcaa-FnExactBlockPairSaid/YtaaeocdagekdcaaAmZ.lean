/- Am28, Am29, Am30, AmW, S0, S1, S2, S3, S4, S4c, S5, S6, AmY, AmZ: parts of the proof. No condition. -/
import Derived.Test.YtaaeocdagekdcaaAm27
set_option linter.unusedVariables false
set_option linter.unusedSimpArgs false
open List renaming getElem?_eq_getElem->co,map_cons->AN,getElem?_map->AT,map->By,length_map->BY,mem_of_getElem?->GB,getElem?_eq_some_iff->If,filterMap_cons->IT,getElem?_eq_none->Pd,map_congr_left->zaa,mem_cons->zab,eq_nil_of_length_eq_zero->zad,mem_map->zag,map_map->zai,getElem_of_mem->zaj,getElem?_eq_none_iff->zal,getElem?_of_mem->zam,ext_getElem?->zan,map_set->zau,all_cons->zav,getD_eq_getElem?_getD->zaw,all_eq_true->zax,length_cons->zay,length->zaz,getElem?_ofFn->zaA,map_take->zaD,mem_append->zaE,replicate->zaI,getElem?_append_left->zaJ,map_drop->zaM,mem_cons_of_mem->zaQ,getD_cons_zero->zaR,length_append->zaS,mem_singleton->zaT,map_replicate->zaU,all_nil->zaZ,map_nil->za0,any_map->za1,map_append->za6,take->zba
open Option renaming map_some->wt,map_none->OF,bind_some->zak,map_eq_some_iff->zaq,isSome_map->zaK,bind_eq_some_iff->zaL,map->zaP
open Nat renaming eq_of_beq_eq_true->AI,beq->IS,ble_eq_true_of_le->Pe,ble->zaf,beq_refl->zah,add_sub_cancel_left->zao,le_refl->zap,le_of_ble_eq_true->zat,le_add_right->zaC,sub_self->zaH,add_zero->zaX,sub_zero->zaY,zero_lt_succ->za3,zero_le->za5,zero_add->za8,le_of_eq->za9
open Bool renaming and_eq_true->IN,false_eq_true->zac,and_true->zaN,or_false->zaO,not_eq_true'->zaW,true_and->za7
open Option.some renaming injEq->zae
open Array renaming replicate->zar,getElem?_append->zaB,getD_eq_getD_getElem?->zaF
open Classical renaming choose_spec->zas,choose->za2
open List.cons renaming injEq->zaG
open Function renaming comp->zaV
open Prod renaming ext->za4
open Decidable renaming em->zbb
namespace Go.Am
def kQ:Nat->List (Option Mode)->List C->List ar
 |c,some _::fs,.list sz xs::cs=>.sl (aY+c) sz 0 xs.length::kQ (c+1) fs cs
 |c,some _::fs,x::cs=>.cC::kQ (c+1) fs cs
 |c,none::fs,x::cs=>.c x::kQ c fs cs
 |c,[],cs=>cs.map .c
 |c,_::_,[]=>[]
def KJ (c:Nat) (s:List (Option Mode)) (xs:List C):ar:=
 match s with
 |[]=>.eU xs 0
 |_::_=>match xs.getLast? with
  |some (.list sz l)=>.dW xs 0 (xs.length - 1) (aY+c) sz l.length
  |_=>.cC
def uQ (c:Nat) (s:List (Option Mode)):Dv->aE
 |(.one,xs)=>match kQ c s xs with
  |[x]=>.one x
  |_=>.one .cC
 |(.agg,xs)=>.agg (kQ c s xs)
 |(.ptr,xs)=>.one (KJ c s xs)
def rv:Nat->Nat->cX->List Dv->(Nat->aE)
 |_,_,_,[]=>CJ
 |k,c,[],d::ds=>bj (rv (k+1) c [] ds) k (uQ c [] d)
 |k,c,s::sig,d::ds=>bj (rv (k+1) (c+(gO s d.2).length) sig ds) k (uQ c s d)
def pt:Mode×C->Option bf
 |(m,.list sz xs)=>some (.row false m sz xs)
 |_=>none
def se (sig:cX) (ds:List Dv):St:=
 {env:=rv 0 0 sig ds
  h:=fun n=>if aY<=n then((fq sig (ds.map (·.2)))[n - aY]?).bind pt else none
  used:=fun n=>zaf aY n}
def St.nT (σ:St):St:={σ with h:=fun n=>if aY<=n then none else σ.h n}
def FX (σ:St) (q:Nat) (x:Mode×C):Option C:=
 match x.2,σ.h (aY+q) with
 |.list sz xs,some (.row _ m' bw aP)=>if m'=x.1/\bw=sz/\aP.length=xs.length/\y3 x.1 aP=true/\aP.map (fun e=>e.map C.wy)=xs.map (fun e=>e.map C.wy) then some (.list sz aP) else none
 |_,_=>none
def zP (σ:St):Nat->List (Mode×C)->Option (List C)
 |_,[]=>some []
 |q,x::l=>match FX σ q x,zP σ (q+1) l with
  |some y,some ys=>some (y::ys)
  |_,_=>none
def St.zU (σ:St) (ms:List bU) (fl:List (Mode×C)):Option (List Dv×List C):=
 match σ.nT.zS ms,zP σ 0 fl with
 |some rs,some fm=>some (rs,fm)
 |_,_=>none
def QV (T:bL) (mc:mX) (aJ:List bU) (sig:cX) (ds:List Dv):Option (List Dv×List C):=
 match fB T mc (se sig ds) with
 |some (.iH σ)=>σ.zU aJ (fq sig (ds.map (·.2)))
 |some (.ret σ)=>σ.zU aJ (fq sig (ds.map (·.2)))
 |_=>none
section
variable {B:Nat} {E:Ex} {w0 w w':World} {G G':Gh} {N:Nat} {h h':Nat->Option bf} {used:Nat->Bool}
variable {P:Program} {T:bL} {a:Act} {σ σ':St} {Q:Exit->Act->World->Prop}
def sD:PC->PB
 |.list _ a cap []=>⟨true,0,0,cap,[],a⟩
 |.list _ (some a) cap (e::xs)=>⟨false,a.block,a.off,cap,e::xs,none⟩
 |_=>default
theorem Jq (sz:Nat) (a:Option Addr) (cap:Nat):sD (.list sz a cap [])=⟨true,0,0,cap,[],a⟩:=by cases a<;>rfl
theorem zQ {sz b o cap:Nat} {xs:List (List PC)} (h:xs≠[]):sD (.list sz (some (ad b o)) cap xs)=⟨false,b,o,cap,xs,none⟩:=by cases xs with|nil=>exact absurd rfl h|cons e xs=>rfl
theorem Good.cases {w:World} {sz cap:Nat} {a:Option Addr} {xs:List (List PC)} (h:Good w (.list sz a cap xs)):xs=[]\/(xs≠[]/\xs.length<=cap/\∃b o,a=some (ad b o)):=by cases h with|nil _ _ _ h=>exact .inl rfl|cons _ b o _ _ d c=>exact .inr ⟨d,c,b,o,rfl⟩
def vZ (fl:List (Mode×PC)):Ex:=
 ⟨fun b=>∃x∈fl,bP b x.2,fun n=>if aY<=n then(fl[n - aY]?).map fun x=>sD x.2 else none,fun n p h=>(by
  by_cases hn:aY<=n
  ·exact hn
  ·rw[ak hn] at h;cases h),fun _=>True⟩
def qk (w:World) (fl:List (Mode×PC)):Gh:=
 ⟨fun b=>b<w.heap.size/\¬∃x∈fl,bP b x.2,fun n=>match fl[n - aY]? with|some x=>sD x.2|none=>default⟩
def sV (fl:List (Mode×PC)):Nat->Option bf:=fun n=>if aY<=n then((fl.map fun x=>(x.1,x.2.er))[n - aY]?).bind pt else none
theorem wc {fl:List (Mode×PC)} {n:Nat} {blk:bf} (hn:sV fl n=some blk):aY<=n/\∃m sz a cap xs,fl[n - aY]? =some (m,.list sz a cap xs)/\blk=.row false m sz (xs.map fun e=>e.map PC.er):=by unfold sV at hn;split at hn;rename_i c;refine⟨c,?_⟩;rw[AT] at hn;(cases hf:fl[n - aY]? with|none=>rw[hf] at hn;cases hn|some x=>rw[hf] at hn;obtain⟨m,pc⟩:=x;cases pc with|int k i=>simp[PC.er,pt] at hn|bool b=>simp[PC.er,pt] at hn|list sz a cap xs=>simp[PC.fx,pt] at hn;exact⟨m,sz,a,cap,xs,rfl,hn.symm⟩);cases hn
theorem nZ.ND (b o sz cap:Nat) (xs:List (List PC)) (a:cap≠0):nZ b (.list sz (some (ad b o)) cap xs):=.inr ⟨_,_,_,_,rfl,a⟩
theorem nZ.row {b sz:Nat} {a:Option Addr} {cap:Nat} {xs:List (List PC)} (h:bY b xs):nZ b (.list sz a cap xs):=by obtain⟨k,j,c,e,d⟩:=h;exact .inl (.there _ _ _ _ k j c e d)
theorem Sep.row {sz:Nat} {a:Option Addr} {cap:Nat} {xs:List (List PC)} (h:Sep (.list sz a cap xs)):mz xs:=by cases h with|list _ _ _ _ c h2 b=>exact⟨c,b⟩
theorem Good.rowAt {sz b o cap:Nat} {xs:List (List PC)} (h:Good w (.list sz (some (ad b o)) cap xs)):tP w b o sz xs:=by generalize hq:PC.list sz (some (ad b o)) cap xs=q at h;cases h with|int k n=>cases hq|bool b=>cases hq|nil u a m h0=>injection hq with l r s d;subst d;exact⟨by simp,by rintro k j c ⟨e,f,_⟩;simp at f,by rintro k j c ⟨e,f,_⟩;simp at f⟩|cons u b' o' m aP l r s d t p=>injection hq with i g e3 e4;injection g with g;obtain⟨rfl,rfl⟩:=pF g;subst i e3 e4;exact⟨d,t,p⟩
theorem HR.Me {fl:List (Mode×PC)} (F:∀x∈fl,Good w x.2) (A:∀x∈fl,Ez w x.1 x.2) (H:fl.Pairwise fun x y=>∀b,bP b x.2->¬bP b y.2): HR w.heap.size (vZ fl) w (qk w fl) (sV fl) (fun n=>zaf aY n) []:=by have sR:∀{i j:Nat} {x y:Mode×PC},fl[i]? =some x->fl[j]? =some y->i≠j->∀b,bP b x.2->¬bP b y.2:=(by intro i j x y q hj lR b d E;obtain⟨li,ei⟩:=If.1 q;obtain⟨lj,ej⟩:=If.1 hj;rw[List.pairwise_iff_getElem] at H;subst ei;subst ej;rcases Nat.lt_or_gt_of_ne lR with h|h;exact H i j li lj h b d E;exact H j i lj li h b E d);have r:∀{n:Nat} {x:Mode×PC},fl[n - aY]? =some x->(qk w fl).g n=sD x.2:=(by intro n x h;simp only[qk,h]);have ND:∀{x:Mode×PC},x∈fl->(sD x.2).nl=false->bP (sD x.2).b x.2:=(by intro x hx hl;obtain⟨sz,a,cap,xs,e,_,_,_⟩:=(A x hx).f0;have u:=F x hx;rw[e] at hl u⊢;rcases u.cases with rfl|⟨p,_,b,o,rfl⟩;rw[Jq] at hl;cases hl;rw[zQ p];exact .here _ _ _ _ p);have N:∀{x:Mode×PC},x∈fl->∀b,bY b (sD x.2).px->bP b x.2:=(by intro x hx b d;obtain⟨sz,a,cap,xs,e,_,_,_⟩:=(A x hx).f0;have u:=F x hx;rw[e] at d u⊢;rcases u.cases with rfl|⟨p,_,b,o,rfl⟩;rw[Jq] at d;obtain⟨k,j,c,⟨e,G,_⟩,_⟩:=d;simp at G;rw[zQ p] at d;obtain⟨k,j,c,I,L⟩:=d;exact .there _ _ _ _ k j c I L);have sub:∀{n n':Nat},aY<=n->aY<=n'->n≠n'->n - aY≠n' - aY:=(by intro n n' h1 h2 h3;omega);refine⟨fun n hn=>?_,fun m cs c n hm=>?_,fun n cs hn=>?_,fun n Q m sz xs hn=>?_,fun n hn hl=>?_,fun n n' hn C p hl v=>?_,fun b d=>d.1,fun b _=>.inr (.inr trivial),fun n n' Q m sz xs cv B T s hn C _ _ p b d=>?_, fun n Q sz xs hn b d n' C v=>?_,(by intro i pc q;simp at q),(by intro i j pc fo b _ q;simp at q),(by intro i pc n Q m sz xs b q;simp at q)⟩;(cases hh:sV fl n with|none=>exact absurd hh hn|some b=>exact Pe (wc hh).1);obtain⟨_,B,sz,a,cap,xs,_,e⟩:=wc hm;cases e;obtain⟨_,B,sz,a,cap,xs,_,e⟩:=wc hn;cases e;obtain⟨t,B,T,a,cap,s,f,e⟩:=wc hn;injection e with D e2 e3 e4;subst D e2 e3 e4;have hx:(m,PC.list sz a cap s)∈fl:=GB f;have ok:=A _ hx;have fF:=F _ hx;obtain⟨J,S,M,P,e,Y,t7,wh⟩:=ok.f0;injection e with D e2 e3 e4;subst D e2 e3 e4;rw[r f];have O:∀b,bY b s->bP b (PC.list sz a cap s):=fun b ⟨k,j,c,I,L⟩=>.there _ _ _ _ k j c I L;have V:N6 w.heap.size (vZ fl) w (qk w fl) s m:=(by have Z:=Sep.row ok.sep;cases m with|bn=>cases wh|bq=>exact⟨fun b d=>absurd d (D0 wh b),Z⟩|live=>exact⟨fun b d=>⟨fun q=>q.2 ⟨_,hx,O b d⟩,ok.un b (O b d),.inr ⟨_,hx,O b d⟩⟩,Z⟩);rcases fF.cases with rfl|⟨p,kJ,b,o,rfl⟩;rw[Jq];exact⟨Y,rfl,fun _=>⟨rfl,fun h=>by cases h⟩,(fun h=>by cases h),(fun h=>by cases h),V,fun h=>by cases h⟩;rw[zQ p];exact⟨Y,rfl,(fun h=>by cases h),fun _=>⟨ok.un b (.here _ _ _ _ p),Good.rowAt fF,kJ⟩,(fun _ h=>by cases h),V,fun h=>by cases h⟩;(cases hh:sV fl n with|none=>exact absurd hh hn|some blk=>obtain⟨t,B,T,a,cap,s,f,e⟩:=wc hh;have hx:(B,PC.list T a cap s)∈fl:=GB f;rw[r f] at hl⊢;have K:=ND hx hl;exact⟨fun q=>q.2 ⟨_,hx,K⟩,.inr ⟨_,hx,K⟩,((A _ hx).un _ K).lt⟩);(cases hh:sV fl n with|none=>exact absurd hh hn|some blk=>cases LD:sV fl n' with|none=>exact absurd LD C|some R=>obtain⟨t,m1,U,a1,X,W,f,_⟩:=wc hh;obtain⟨z,m2,J,S,M,P,l,_⟩:=wc LD;rw[r f] at hl⊢;rw[r l] at v⊢;intro G;exact sR f l (sub t z p) _ (ND (GB f) hl) (G▸ND (GB l) v));obtain⟨t,m1,U,a1,X,W,f,_⟩:=wc hn;obtain⟨z,m2,J,S,M,P,l,_⟩:=wc C;rw[r f] at d;rw[r l];exact fun E=>sR f l (sub t z p) b (N (GB f) b d) (N (GB l) b E);obtain⟨t,m1,U,a1,X,W,f,_⟩:=wc hn;rw[r f] at d;cases LD:sV fl n' with|none=>exact absurd LD C|some R=>obtain⟨z,m2,J,S,M,P,l,_⟩:=wc LD;rw[r l] at v⊢;rintro rfl;by_cases p:n=n';subst p;rw[f] at l;injection l with l;injection l with _ l;injection l with q1 q2 q3 q4;subst q1 q2 q3 q4;have hm:=GB f;obtain⟨sz,a,cap,xs,e,_,t7,_⟩:=(A _ hm).f0;have u:=F _ hm;injection e with D e2 e3 e4;subst D e2 e3 e4;rcases u.cases with rfl|⟨p,_,b,o,rfl⟩;rw[Jq] at v;cases v;rw[zQ p] at d;exact t7 b o rfl d;exact sR f l (sub t z p) _ (N (GB f) _ d) (ND (GB l) v)
end
section
variable {B:Nat} {E:Ex} {w0 w w':World} {G G':Gh} {N:Nat} {h h':Nat->Option bf} {used:Nat->Bool}
variable {P:Program} {T:bL} {a:Act} {σ σ':St} {Q:Exit->Act->World->Prop}
theorem UP {α:Type}:∀{s:List (Option Mode)} {xs:List α} {x:Mode×α},x∈gO s xs->x.2∈xs
 |some m::fs,y::xs,x,h=>by simp only[gO,zab] at h;rcases h with rfl|h;simp;exact zaQ _ (UP h)
 |none::fs,y::xs,x,h=>by simp only[gO] at h;exact zaQ _ (UP h)
 |[],_,x,h=>by simp[gO] at h
 |some m::fs,[],x,h=>by simp[gO] at h
 |none::fs,[],x,h=>by simp[gO] at h
theorem Le {α:Type}:∀{sig:cX} {xss:List (List α)} {x:Mode×α},x∈fq sig xss->∃xs∈xss,x.2∈xs
 |s::sig,xs::xss,x,h=>by simp only[fq,zaE] at h;rcases h with h|h;exact⟨xs,by simp,UP h⟩;obtain⟨ys,b,a⟩:=Le h;exact⟨ys,by simp[b],a⟩
 |[],_,x,h=>by simp[fq] at h
 |s::sig,[],x,h=>by simp[fq] at h
theorem Oe {fl:List (Mode×PC)} (s:∀x∈fl,Ez w x.1 x.2) (v:∀x∈fl,Good w x.2):∀(c:Nat) (k:List (Option Mode)) (ps:List PC),(∀(q:Nat) (x:Mode×PC),(gO k ps)[q]? =some x->fl[c+q]? =some x)->(∀pc∈ps,Good w pc)-> (∀pc∈sJ k ps,∀x∈fl,∀b,bP b pc->¬bP b x.2)->eJ w (qk w fl) (sV fl) (kQ c k (ps.map PC.er)) (ps.map PC.val)
 |c,[],ps,hq,iO,hu=>by simp only[kQ];refine⟨by simp,fun j x u d i=>?_⟩;simp only[AT,zai] at d i;cases hp:ps[j]? with|none=>rw[hp] at d;cases d|some pc=>rw[hp] at d i;simp at d i;subst d;subst i;have hm:=GB hp;exact⟨PC.mU pc,pc,rfl,rfl,iO pc hm,fun b n=>⟨(iO pc hm).lt n,fun⟨x,hx,r⟩=>hu pc (by simpa[sJ] using hm) x hx b n r⟩⟩
 |c,f::k,[],hq,iO,hu=>by cases f<;>exact⟨rfl,by intro j c u d;simp[kQ] at d⟩
 |c,none::k,p::ps,hq,iO,hu=>by have l:=Oe s v c k ps (fun q x h=>hq q x (by simpa[gO] using h)) (fun pc h=>iO pc (by simp[h])) (fun pc h=>hu pc (by simp[sJ,h]));simp only[AN,kQ];refine⟨by simp[l.1],fun j x u d i=>?_⟩;cases j with|zero=>simp at d i;subst d;subst i;exact⟨PC.mU p,p,rfl,rfl,iO p (by simp),fun b n=>⟨(iO p (by simp)).lt n,fun⟨x,hx,r⟩=>hu p (by simp[sJ]) x hx b n r⟩⟩|succ j=>exact l.2 j x u (by simpa using d) (by simpa using i)
 |c,some m::k,p::ps,hq,iO,hu=>by have t:=hq 0 (m,p) (by simp[gO]);simp only[zaX] at t;have y:=GB t;obtain⟨sz,a,cap,xs,e,fN,t7,wh⟩:=(s _ y).f0;simp only at e;subst e;have l:=Oe s v (c+1) k ps (fun q x h=>by have:=hq (q+1) x (by simpa[gO] using h);rwa[show c+(q+1)=c+1+q by omega] at this) (fun pc h=>iO pc (by simp[h])) (fun pc h=>hu pc (by simpa[sJ] using h));simp only[AN,PC.fx,kQ];refine⟨by simp[l.1],fun j x u d i=>?_⟩;cases j with|zero=>simp at d i;subst d;subst i;refine⟨PC.mU _,fun _=>?_⟩;have A:(qk w fl).g (aY+c)=sD (.list sz a cap xs):=(by simp only[qk,zao,t]);rw[A];rcases(v _ y).cases with rfl|⟨B,z,b,o,rfl⟩;rw[Jq];exact .inl ⟨rfl,rfl,rfl,rfl⟩;rw[zQ B];exact .inr ⟨rfl,some (ad b o),by simp[PC.val],by simpa using z,fun _=>by simp⟩|succ j=>exact l.2 j x u (by simpa using d) (by simpa using i)
theorem aaL {fl:List (Mode×PC)} (A:∀x∈fl,Ez w x.1 x.2) (D:∀x∈fl,Good w x.2) {c:Nat} {s:List (Option Mode)} {d:Dv} {v:Value} {p:PA} (R:En w d v p)
  (y:∀(q:Nat) (x:Mode×PC),(gO s p.ps)[q]? =some x->fl[c+q]? =some x) (u:∀pc∈sJ s p.ps,∀x∈fl,∀b,bP b pc->¬bP b x.2) (T:p.k=.ptr->QN s p.ps.length/\∀x∈fl,¬bP p.b x.2):
  RA w (qk w fl) (sV fl) (uQ c s d) v:=by
 obtain⟨k,ps,b,o⟩:=p;obtain⟨rfl,r,l⟩:=R;cases k with
 |one=>
  have l:ps.map PC.val=[v]:=l;have hl:=Oe A D c s ps y r u;rw[l] at hl;simp only[uQ];obtain⟨x,hx⟩:∃x,kQ c s (ps.map PC.er)=[x]:=by
   have:=hl.1;match H:kQ c s (ps.map PC.er),this with
   |[x],_=>exact⟨x,rfl⟩
  rw[hx] at hl⊢;exact .inr hl
 |agg=>
  have l:v=.agg (ps.map PC.val).toArray:=l;exact⟨_,l,Oe A D c s ps y r u⟩
 |ptr=>
  obtain⟨P,J,F⟩:v=.pointer (some (ad b o))/\b<w.heap.size/\∀j c,ps[j]? =some c->w.cell? (ad b (o+j))=some c.val:=l;obtain⟨Q,M⟩:=T rfl;subst P;rcases Q with rfl|⟨j,m,rfl⟩
  rotate_left
  ·obtain⟨f,q,rfl⟩:∃f q,ps=f++[q]:=⟨ps.dropLast,ps.getLast (by intro e;rw[e] at m;simp at m),(List.dropLast_concat_getLast _).symm⟩;have N:f.length=j:=by
    have:(f++[q]).length=j+1:=m;rw[zaS] at this;simpa using this
   subst N;rw[aca] at y;rw[al5] at u;have B:=y 0 (.bq,q) rfl;rw[zaX] at B;have I:=GB B;obtain⟨sz,a,cap,xs,e,fN,t7,wh⟩:=(A _ I).f0;simp only at e;subst e;have O:uQ c (zaI f.length none++[some .bq]) (K.ptr,(f++[PC.list sz a cap xs]).map PC.er)=.one (.dW ((f++[PC.list sz a cap xs]).map PC.er) 0 f.length (aY+c) sz xs.length):=by
    have C:zaI f.length (none:Option Mode)++[some .bq]≠[]:=by simp
    simp only[uQ,KJ];split
    ·rename_i H;exact absurd H C
    ·simp[PC.fx]
   rw[O];have G:=F f.length (PC.list sz a cap xs) (by simp);refine RA.iR rfl ⟨b,o,f++[PC.list sz a cap xs],by simp,rfl,⟨J,fun⟨x,hx,h⟩=>M x hx h⟩,fun i n lR E=>?_,_,G,PC.mU _,fun _=>?_⟩
   ·have S:f[i]? =some n:=by
     by_cases W:i<f.length
     ·rwa[zaJ W] at E
     ·have:=(If.1 E).1;rw[zaS] at this;simp at this;omega
    have hm:=GB S;have L:n∈f++[PC.list sz a cap xs]:=List.mem_append_left _ hm;exact⟨F i n E,r n L,fun z t=>⟨(r n L).lt t,fun⟨x,hx,h⟩=>u n hm x hx z t h⟩⟩
   ·have U:(qk w fl).g (aY+c)=sD (.list sz a cap xs):=by simp only[qk,zao,B]
    rw[U];rcases(D _ I).cases with rfl|⟨C,V,b,o,rfl⟩
    ·rw[Jq];exact .inl ⟨rfl,rfl,rfl,rfl⟩
    ·rw[zQ C];exact .inr ⟨rfl,some (ad b o),by simp[PC.val],by simpa using V,fun _=>by simp⟩
  refine RA.iR rfl ⟨b,o,ps,by simp,rfl,⟨J,fun⟨x,hx,h⟩=>M x hx h⟩,fun j c m=>?_⟩;have hm:=GB m;exact⟨F j c m,r c hm,fun z t=>⟨(r c hm).lt t,fun⟨x,hx,h⟩=>u c (by simpa[sJ] using hm) x hx z t h⟩⟩
theorem WV {fl:List (Mode×PC)} (o:∀x∈fl,Ez w x.1 x.2) (r:∀x∈fl,Good w x.2):∀(ds:List Dv) (k c:Nat) (sig:cX) (vals:List Value) (pas:List PA),vals.length=ds.length->pas.length=ds.length->
  (∀(i:Nat) (d:Dv) (v:Value) (p:PA),ds[i]? =some d->vals[i]? =some v->pas[i]? =some p->En w d v p)->(∀(q:Nat) (x:Mode×PC),(fq sig (pas.map (·.ps)))[q]? =some x->fl[c+q]? =some x)->
  (∀pc∈uG sig (pas.map (·.ps)),∀x∈fl,∀b,bP b pc->¬bP b x.2)->(∀p∈pas,p.k=.ptr->∀x∈fl,¬bP p.b x.2)->(∀(i:Nat) (p:PA) (s:List (Option Mode)),pas[i]? =some p->sig[i]? =some s->p.k=.ptr->QN s p.ps.length)->
  ∀s,RA w (qk w fl) (sV fl) (rv k c sig ds s) (if k<=s then vals.getD (s - k) undef else undef)
 |[],k,c,sig,vals,pas,l1,l2,hA,hq,hu,hp,hs,s=>by simp only[rv];exact Or.inl rfl
 |d::ds,k,c,sig,v::vals,p::pas,l1,l2,hA,hq,hu,hp,hs,s=>by
  have j:vals.length=ds.length:=by simpa using l1
  have m:pas.length=ds.length:=by simpa using l2
  have n:=hA 0 d v p rfl rfl rfl;have C:=fun i B A E (t:ds[i]? =some B) (y:vals[i]? =some A) (F:pas[i]? =some E)=>hA (i+1) B A E (by simpa using t) (by simpa using y) (by simpa using F);have iO:=n.2.1;have z:d.2=p.ps.map PC.er:=by rw[n.1]
  have a:∀x:aE,(s≠k->RA w (qk w fl) (sV fl) x (if k+1<=s then vals.getD (s - (k+1)) undef else undef))->s≠k->RA w (qk w fl) (sV fl) x (if k<=s then(v::vals).getD (s - k) undef else undef):=by
   intro x hx g;have:=hx g;by_cases D:k+1<=s
   ·rw[aj D] at this;rw[aj (by omega),show s - k=(s - (k+1))+1 by omega];simpa using this
   ·rw[ak D] at this;rw[ak (by omega)];exact this
  cases sig with
  |nil=>
   simp only[rv];by_cases g:s=k
   ·subst g;rw[dD,aj (zap _)];simp only[zaH,zaR];refine aaL o r n (fun q x h=>by simp[gO] at h) (fun pc f=>hu pc ?_) (fun e=>⟨.inl rfl,hp p (by simp) e⟩);simp only[sJ] at f;simp[uG,f]
   ·rw[dZ _ _ _ _ g];refine a _ (fun _=>WV o r ds (k+1) c [] vals pas j m C (fun q x h=>by simp[fq] at h) (fun pc f=>hu pc ?_) (fun p u=>hp p (by simp[u])) (fun i p s _ h=>by simp at h) s) g;simp only[uG] at f;simp only[AN,uG,List.flatten_cons,zaE];exact .inr f
  |cons sg sig=>
   simp only[rv];have l:(gO sg d.2).length=(gO sg p.ps).length:=by rw[z,O4,BY]
   by_cases g:s=k
   ·subst g;rw[dD,aj (zap _)];simp only[zaH,zaR];refine aaL o r n (fun q x h=>hq q x ?_) (fun pc f=>hu pc ?_) (fun e=>⟨hs 0 p sg rfl rfl e,hp p (by simp) e⟩)
    ·simp only[AN,fq];rw[zaJ (If.1 h).1];exact h
    ·simp only[AN,uG,zaE];exact .inl f
   ·rw[dZ _ _ _ _ g];refine a _ (fun _=>WV o r ds (k+1) (c+(gO sg d.2).length) sig vals pas j m C (fun q x h=>?_) (fun pc f=>hu pc ?_) (fun p u=>hp p (by simp[u])) (fun i p s t y=>hs (i+1) p s (by simpa using t) (by simpa using y)) s) g
    ·have:=hq ((gO sg p.ps).length+q) x (by
      simp only[AN,fq];rw[List.getElem?_append_right (zaC _ _),zao];exact h)
     rw[l,Nat.add_assoc];exact this
    ·simp only[AN,uG,zaE];exact .inr f
 |_::_,k,c,sig,[],pas,l1,l2,hA,hq,hu,hp,hs,s=>by simp at l1
 |_::_,k,c,sig,_::_,[],l1,l2,hA,hq,hu,hp,hs,s=>by simp at l2
theorem aaM {c:Nat} {s:List (Option Mode)} {d:Dv} {m:Nat} (h:(uQ c s d).ref m):aY<=m:=by
 have e:∀(cs:List C) (c:Nat) (s:List (Option Mode)),∀x∈kQ c s cs,x.ref m->aY<=m:=by
  intro cs;induction cs with
  |nil=>
   intro c s x hx;cases s with
   |nil=>simp[kQ] at hx
   |cons f g=>cases f<;>simp[kQ] at hx
  |cons y cs a=>
   intro c s x hx hr;cases s with
   |nil=>
    simp only[kQ,zag] at hx;obtain⟨z,_,rfl⟩:=hx;exact absurd hr id
   |cons f g=>
    cases f with
    |none=>
     simp only[kQ,zab] at hx;rcases hx with rfl|hx
     ·exact absurd hr id
     ·exact a _ _ _ hx hr
    |some md=>
     cases y with
     |list sz xs=>
      simp only[kQ,zab] at hx;rcases hx with rfl|hx
      ·have hr:m=aY+c:=hr;omega
      ·exact a _ _ _ hx hr
     |int k n=>
      simp only[kQ,zab] at hx;rcases hx with rfl|hx
      ·exact absurd hr id
      ·exact a _ _ _ hx hr
     |bool b=>
      simp only[kQ,zab] at hx;rcases hx with rfl|hx
      ·exact absurd hr id
      ·exact a _ _ _ hx hr
 obtain⟨k,xs⟩:=d;cases k with
 |one=>
  simp only[uQ] at h;match hh:kQ c s xs,h with
  |[],h=>exact absurd h id
  |[x],h=>exact e xs c s x (by rw[hh];simp) h
  |_::_::_,h=>exact absurd h id
 |agg=>
  obtain⟨x,hx,hr⟩:=h;exact e xs c s x hx hr
 |ptr=>
  simp only[uQ,KJ] at h;split at h
  ·exact absurd h id
  ·split at h
   ·have h':m=aY+c:=h;omega
   ·exact absurd h id
theorem WW:∀{ds:List Dv} {k c:Nat} {sig:cX} {s m:Nat},(rv k c sig ds s).ref m->aY<=m
 |[],k,c,sig,s,m,h=>by simp only[rv] at h;exact absurd h id
 |d::ds,k,c,[],s,m,h=>by simp only[rv,nt] at h;split at h;exact aaM h;exact WW h
 |d::ds,k,c,sg::sig,s,m,h=>by simp only[rv,nt] at h;split at h;exact aaM h;exact WW h
theorem R.Me {sig:cX} {ds:List Dv} {vals:List Value} {pas:List PA} (M:Cs w sig ds vals pas) (hN:ds.length<=N):
  R w.heap.size (vZ (fq sig (pas.map (·.ps)))) w N (se sig ds) {tmps:=vals.toArray++zar (N - vals.toArray.size) undef,defers:=[]} w (qk w (fq sig (pas.map (·.ps)))):=by
 have A:ds.map (·.2)=(pas.map (·.ps)).map fun l=>l.map PC.er:=by
  apply zan;intro i;simp only[AT];cases hd:ds[i]? with
  |none=>
   have:ds.length<=i:=zal.1 hd;rw[Pd (by rw[M.l2];exact this)];rfl
  |some d=>
   have f:=(If.1 hd).1;have r:vals[i]? =some (vals[i]'(by rw[M.l1];exact f)):=co _;have c:pas[i]? =some (pas[i]'(by rw[M.l2];exact f)):=co _;have:=(M.at_ i d _ _ hd r c).1;rw[c];simp only[wt];rw[this]
 have C:∀p∈pas,∀pc∈p.ps,Good w pc:=by
  intro p c pc F;obtain⟨i,f,rfl⟩:=zaj c;have hd:ds[i]? =some (ds[i]'(by rw[<-M.l2];exact f)):=co _;have r:vals[i]? =some (vals[i]'(by rw[M.l1,<-M.l2];exact f)):=co _;exact(M.at_ i _ _ _ hd r (co f)).2.1 pc F
 have v:∀x∈fq sig (pas.map (·.ps)),Good w x.2:=by
  intro x hx;obtain⟨l,hl,B⟩:=Le hx;obtain⟨p,c,rfl⟩:=zag.1 hl;exact C p c _ B
 have t:(se sig ds).h=sV (fq sig (pas.map (·.ps))):=by
  funext n;simp only[se,sV,A,H4]
 refine⟨rfl,by simp[M.l1];omega,fun s=>?_,fun s n hn=>Pe (WW hn),?_,Fr.refl _ _ _ (zap _),fun n p b c z=>?_,fun n hn=>Pe hn⟩
 ·rw[t];have:=WV M.ok v ds 0 0 sig vals pas M.l1 M.l2 M.at_ (fun q x h=>by rw[za8];exact h) M.free M.ptr M.axw s;simp only[za5,if_true,zaY] at this;have e:(vals.toArray++zar (N - vals.toArray.size) undef).getD s undef=vals.getD s undef:=by
   simp only[zaF,zaw];by_cases u:s<vals.length
   ·simp[zaB,u]
   ·rw[Pd (by omega)];simp only[zaB,List.size_toArray,u,if_false,Array.getElem?_replicate];split<;>rfl
  rw[e];exact this
 ·rw[t];exact HR.Me v M.ok M.sR
 ·rw[t] at z;obtain⟨E,m,sz,a,cap,xs,y,e⟩:=wc z;have o:(if aY<=n then((fq sig (pas.map (·.ps)))[n - aY]?).map (fun x=>sD x.2) else none)=some p:=c
  rw[aj E,y] at o;simp at o;subst o;have D:(qk w (fq sig (pas.map (·.ps)))).g n=sD (.list sz a cap xs):=by simp only[qk,y]
  rw[D];exact⟨rfl,rfl,rfl,rfl,rfl,fun gr bw aP _ k j pc G hL=>⟨pc,G,rfl,hL⟩⟩
theorem QF:∀{fl:List (Mode×C)} {q:Nat} {a:List C},zP σ q fl=some a->a.length=fl.length/\∀i x,fl[i]? =some x->∃o,a[i]? =some o/\FX σ (q+i) x=some o
 |[],q,a,h=>by simp only[zP] at h;injection h with h;subst h;exact⟨rfl,by simp⟩
 |y::l,q,a,h=>by simp only[zP] at h;split at h;rename_i o os f c;injection h with h;subst h;obtain⟨d,b⟩:=QF c;refine⟨by simp[d],fun i x hx=>?_⟩;(cases i with|zero=>simp at hx;subst hx;exact⟨o,rfl,f⟩|succ i=>obtain⟨j,e,g⟩:=b i x (by simpa using hx);exact⟨j,by simpa using e,by rw[show q+(i+1)=q+1+i by omega];exact g⟩);cases h
theorem axO {q:Nat} {x:Mode×C} {o:C} (h:FX σ q x=some o):∃sz xs b a,x.2=.list sz xs/\σ.h (aY+q)=some (.row b x.1 sz a)/\a.length=xs.length/\y3 x.1 a=true/\a.map (fun e=>e.map C.wy)=xs.map (fun e=>e.map C.wy)/\o=.list sz a:=by unfold FX at h;split at h;rename_i sz xs b m' bw a g c;split at h;rename_i i;obtain⟨rfl,rfl,d,j,f⟩:=i;injection h with h;exact⟨_,xs,b,a,g,c,d,j,f,h.symm⟩;cases h;cases h
theorem anW {px:List (List PC)} (hd:(px.map fun e=>e.map PC.er).all (fun e=>e.all C.yY)=true) {k j:Nat} {c:PC} (g:At px k j c):∀sz a cap ys,c=.list sz a cap ys->∀b,¬bY b ys:=by rintro sz a cap ys rfl b;obtain⟨e,f,h⟩:=g;simp only[zax,zag] at hd;have d:=hd (e.map PC.er) ⟨e,GB f,rfl⟩ (PC.er (.list sz a cap ys)) (zag.2 ⟨_,GB h,rfl⟩);rw[PC.fx] at d;exact D0 d b
theorem PC.asB (c:PC):c.er.wy=c.kw:=by cases c with|int k n=>rfl|bool b=>rfl|list sz a cap xs=>rw[PC.fx];rfl
theorem aAo {px px':List (List PC)} (h:(px'.map fun e=>e.map PC.er).map (fun e=>e.map C.wy)=(px.map fun e=>e.map PC.er).map (fun e=>e.map C.wy)) {k j:Nat} {c:PC} (i:At px' k j c): ∃d,At px k j d/\d.kw=c.kw:=by obtain⟨e,g,m⟩:=i;have b:=congrArg (fun l=>l[k]?) h;simp only[AT,g,wt] at b;cases h0:px[k]? with|none=>rw[h0] at b;cases b|some f=>rw[h0] at b;simp only[wt,zae] at b;have a:=congrArg (fun l=>l[j]?) b;simp only[AT,m,wt] at a;cases h3:f[j]? with|none=>rw[h3] at a;cases a|some d=>rw[h3] at a;simp only[wt,zae,PC.asB] at a;exact⟨d,⟨f,h0,h3⟩,a.symm⟩
theorem At.inj {α:Type} {px:List (List α)} {k j:Nat} {c b:α} (h:At px k j c) (h':At px k j b):c=b:=by obtain⟨e,g,f⟩:=h;obtain⟨e',a,d⟩:=h';rw[g] at a;injection a with a;subst a;rw[f] at d;injection d
theorem afY {px px':List (List PC)} (hd:(px.map fun e=>e.map PC.er).all (fun e=>e.all C.yY)=true) (hl:∀k j pc,At px k j pc->pc.kw=true->∃g,At px' k j g/\g.val=pc.val/\g.kw=true) {b:Nat} (v:bY b px):bY b px':=by obtain⟨k,j,c,i,d⟩:=v;cases c with|int k n=>exact absurd d bP.axy|bool x=>exact absurd d bP.axx|list sz a cap ys=>have s:=anW hd i sz a cap ys rfl;rw[bP.pg] at d;rcases d with⟨t,o,rfl⟩|⟨k',r,f,w,u⟩;obtain⟨f,q,l,m⟩:=hl k j _ i rfl;(cases f with|int k n=>cases m|bool x=>cases m|list bw a' oN ys'=>simp only[PC.val] at l;injection l with p e2 e3;subst p;refine⟨k,j,_,q,?_⟩;rw[bP.pg];refine .inl ⟨fun h=>?_,o,rfl⟩;subst h;exact t (zad e2.symm));exact absurd ⟨k',r,f,w,u⟩ (s b)
end
section
variable {B:Nat} {E:Ex} {w0 w w':World} {G G':Gh} {N:Nat} {h h':Nat->Option bf} {used:Nat->Bool}
variable {P:Program} {T:bL} {a:Act} {σ σ':St} {Q:Exit->Act->World->Prop}
theorem BN {n:Nat} {b:bf} (hn:σ.nT.h n=some b):¬aY<=n/\σ.h n=some b:=by unfold St.nT at hn;simp only at hn;split at hn;cases hn;rename_i h;exact⟨h,hn⟩
theorem Jk {n:Nat} (hn:σ.nT.h n≠none):¬aY<=n/\σ.h n≠none:=by cases h:σ.nT.h n with|none=>exact absurd h hn|some b=>obtain⟨a,e⟩:=BN h;exact⟨a,by rw[e];simp⟩
theorem cD.nT (u:Nat->Prop):cD w G σ.h u w G σ.nT.h:= ⟨fun _ h=>h,fun _ _ _=>rfl,fun n _ hn=>⟨(Jk hn).2,rfl,rfl,rfl,rfl,rfl⟩,fun n c sz xs _ hn=>⟨⟨c,xs,(BN hn).2⟩,fun k j pc b a=>⟨pc,b,rfl,a⟩⟩⟩
theorem R.nT (r:R B E w0 N σ a w G) (P:∀b,E b->∃n d m sz xs,aY<=n/\σ.h n=some (.row d m sz xs)/\m≠ .bn/\rS G n b/\(m=.bq->¬bY b (G.g n).px)): R B Ex.no w N σ.nT a w G:=by have H:=r.hr;have K:cD w G σ.h (fun n=>σ.used n=true) w G σ.nT.h:=cD.nT _;have I:∀n,¬aY<=n->σ.h n≠none->(G.g n).nl=false->¬E (G.g n).b:=(by intro n hn k hl f;obtain⟨q,d,m,sz,xs,z,C,F,u,J⟩:=P _ f;have D:n≠q:=fun e=>hn (e▸z);have s8:σ.h q≠none:=(by rw[C];simp);rcases u with⟨l,e⟩|u;exact H.inj n q k s8 D hl l e;cases m with|bn=>exact F rfl|bq=>exact J rfl u|live=>exact H.live q d sz xs C _ u n k hl rfl);have A:∀n d m sz xs,¬aY<=n->σ.h n=some (.row d m sz xs)->m≠ .bn->∀b,bY b (G.g n).px->¬E b:=(by intro n d m sz xs hn k hm b f o;obtain⟨q,Q,M,S,L,z,C,F,u,J⟩:=P _ o;have D:n≠q:=fun e=>hn (e▸z);exact H.adH D k C hm F (.inr f) u);refine⟨r.defers,r.size,fun s=>(r.env s).keep K fun m hm=>r.uH s m hm,r.uH,?_,Fr.refl _ _ _ r.fr.size,fun n p b t=>(by cases t),r.BQ⟩;refine⟨fun n hn=>H.lP n (Jk hn).2,fun m cs c n hm T hr=>H.kP m cs c n (BN hm).2 T hr,fun n cs hn=>?_,fun n d m sz xs hn=>?_,fun n hn hl=>?_,fun n n' hn x=>H.inj n n' (Jk hn).2 (Jk x).2, H.jN,fun b _=>.inr (.inr trivial),fun n n' d m sz xs Q M S L hn x=>H.ju n n' d m sz xs Q M S L (BN hn).2 (BN x).2,fun n d sz xs hn b f n' x=>H.live n d sz xs (BN hn).2 b f n' (Jk x).2,?_,?_,?_⟩;obtain⟨V,a2,W⟩:=H.box n cs (BN hn).2;refine⟨V,a2,fun j c O=>?_⟩;obtain⟨v,Z,X,b3⟩:=W j c O;exact⟨v,Z,X,b3.keep K fun q z=>H.kP n cs c q (BN hn).2 (GB O) z⟩;obtain⟨t,k⟩:=BN hn;have hr:=H.row n d m sz xs k;refine⟨hr.pos,hr.er,hr.nl,hr.f0,hr.room,?_,hr.nr⟩;have hm:=hr.mode;(cases m with|bn=>exact hm|bq=>exact⟨fun b f=>⟨(hm.1 b f).1,(hm.1 b f).2.1,(hm.1 b f).2.2.imp id fun o=>absurd o (A n d .bq sz xs t k (by simp) b f)⟩,hm.2⟩|live=>exact⟨fun b f=>⟨(hm.1 b f).1,(hm.1 b f).2.1,(hm.1 b f).2.2.imp id fun o=>absurd o (A n d .live sz xs t k (by simp) b f)⟩,hm.2⟩);obtain⟨t,k⟩:=Jk hn;obtain⟨U,o2,Y⟩:=H.own n k hl;exact⟨U,o2.imp id fun o=>absurd o (I n t k hl),Y⟩;intro i pc y;simp at y;intro i j pc fo b _ y;simp at y;intro i pc n d m sz xs b y;simp at y
theorem aqz {m:Mode} {px:List (List PC)} (a:y3 m (px.map fun e=>e.map PC.er)=true):(m=.bq->∀b,¬bY b px)/\m≠ .bn/\(m=.live->(px.map fun e=>e.map PC.er).all (fun e=>e.all C.yY)=true):=by cases m with|bn=>cases a|bq=>exact⟨fun _ b=>D0 a b,(by simp),fun h=>(by cases h)⟩|live=>exact⟨fun h=>(by cases h),(by simp),fun _=>a⟩
theorem KG {fl:List (Mode×PC)} (g0:∀x∈fl,Ez w0 x.1 x.2) (hg:∀x∈fl,Good w0 x.2) (r:R B (vZ fl) w0 N σ a w G) {fm:List C} (ho:zP σ 0 (fl.map fun x=>(x.1,x.2.er))=some fm)
  {i:Nat} {x:Mode×PC} (hx:fl[i]? =some x):∃q o,fm[i]? =some o/\q.er=o/\uL w x.1 x.2 q/\
   ∃u sz xs,σ.h (aY+i)=some (.row u x.1 sz xs)/\(∀b,bP b x.2->rS G (aY+i) b)/\(x.1=.bq->∀b,¬bY b (G.g (aY+i)).px)/\x.1≠ .bn:=by
 obtain⟨m,pc⟩:=x;have s7:=GB hx;obtain⟨o1,o2⟩:=QF ho;obtain⟨o,e1,e2⟩:=o2 i (m,pc.er) (by rw[AT,hx];rfl);rw[za8] at e2;obtain⟨sz,xs,u,v,f1,y,f3,f4,f5,rfl⟩:=axO e2;have ok:=g0 _ s7;have Z:=hg _ s7;obtain⟨p,a0,cap,F,rfl,fN,t7,wh⟩:=ok.f0;simp only[PC.fx] at f1;injection f1 with Y f1b;subst Y;subst f1b;have hr:=r.hr.row _ u m p v y;have rn:(vZ fl).rG (aY+i)=some (sD (.list p a0 cap F)):=by
  show(if aY<=aY+i then(fl[aY+i - aY]?).map (fun x=>sD x.2) else none)=_
  rw[aj (zaC _ _),zao,hx];rfl
 obtain⟨p1,E,V,p4,p6,p5⟩:=r.rG _ _ _ rn y;have A:v=(G.g (aY+i)).px.map fun e=>e.map PC.er:=hr.er;have L:=f4;simp only at L;rw[A] at L;obtain⟨P,z,q3⟩:=aqz L;have d:(G.g (aY+i)).px.length=F.length:=by
  have:=f3;rw[A] at this;simpa using this
 have D:mz (G.g (aY+i)).px:=by
  have hm:=hr.mode;cases m with
  |bn=>exact absurd rfl z
  |bq=>exact hm.2
  |live=>exact hm.2
 have bk:σ.h (aY+i)≠none:=by rw[y];simp
 rcases Z.cases with rfl|⟨M,kJ,b,o,rfl⟩
 ·have H:(G.g (aY+i)).px=[]:=zad (by rw[d];rfl);refine⟨.list p a0 cap [],_,e1,(by rw[PC.fx,A,H]),⟨rfl,.nil _ _ _ fN,ok.sep,fun _ h=>h,?_,?_⟩,u,p,v,y,fun l f=>?_,fun hm l f=>P hm l f,z⟩
  ·simp only[PC.fx];rw[A,H] at f4;exact f4
  ·intro sz a cap xs bw a' oN mV O K;have K:=O.symm.trans K;injection K with W h2 h3 h4;refine⟨W.symm,h2.symm,h3.symm,by rw[h4],fun _ k j c n hL=>?_⟩;injection O with _ _ _ h5;subst h5;obtain⟨e,s,_⟩:=n;simp at s
  ·rw[bP.pg] at f;rcases f with⟨f,_⟩|⟨k,j,c,⟨e,s,_⟩,_⟩
   ·exact absurd rfl f
   ·simp at s
 ·have Q:m=.live->∀k j c,At F k j c->c.kw=true->∃U,At (G.g (aY+i)).px k j U/\U.val=c.val/\U.kw=true:=by
   rintro rfl k j c n hL;rw[zQ M] at p5;exact p5 u p v rfl k j c n hL
  rw[zQ M] at p1 E V p4;simp only at p1 E V p4;obtain⟨l1,l2,l3⟩:=hr.f0 p1;rw[E] at l1 l2;rw[V] at l2;rw[p4] at l3;have arB:(G.g (aY+i)).px≠[]:=by
   intro h0;rw[h0] at d;exact M (zad d.symm)
  have iK:Good w (.list p (some (ad b o)) cap (G.g (aY+i)).px):=.cons _ _ _ _ _ arB l3 fN l2.1 l2.2.1 l2.2.2;have T:¬bY b (G.g (aY+i)).px:=by
   intro hb;cases m with
   |bn=>exact z rfl
   |bq=>exact P rfl b hb
   |live=>exact r.hr.live _ u p v y b hb _ bk p1 E.symm
  have S:m=.live->∀l,bY l (G.g (aY+i)).px->bY l F:=by
   rintro rfl l f;refine afY (px':=F) (q3 rfl) (fun k j c n hL=>?_) f;rw[A] at f5;obtain⟨c0,J,X⟩:=aAo f5 n;rw[hL] at X;obtain⟨c1,Fe,qq,hL1⟩:=Q rfl k j c0 J X;rw[At.inj Fe n] at qq;exact⟨c0,J,qq.symm,X⟩
  refine⟨.list p (some (ad b o)) cap (G.g (aY+i)).px,_,e1,by rw[PC.fx,A],⟨by simp only[PC.val,d],iK,.list _ _ _ _ D.1 (fun b1 o1 k j c s n Pm=>?_) D.2,fun l f=>?_,?_,?_⟩,u,p,v,y,fun l f=>?_,P,z⟩
  ·injection s with s;obtain⟨rfl,_⟩:=pF s;exact T ⟨k,j,c,n,Pm⟩
  ·rw[bP.pg] at f;rcases f with⟨_,o',t⟩|I
   ·injection t with t;rw[<-(pF t).1];exact .here _ _ _ _ M
   ·cases m with
    |bn=>exact absurd rfl z
    |bq=>exact absurd I (P rfl l)
    |live=>
     obtain⟨k,j,c,n,hc⟩:=S rfl l I;exact .there _ _ _ _ k j c n hc
  ·simp only[PC.fx];exact L
  ·intro sz a oN xs bw a' aBB mV O K;injection O with W h2 h3 h4;injection K with g1 g2 g3 g4;subst W h2 h3 h4 g1 g2 g3 g4;exact⟨rfl,rfl,rfl,d,Q⟩
  ·rw[bP.pg] at f;rcases f with⟨_,o',t⟩|I
   ·injection t with t;exact .inl ⟨p1,by rw[E];exact(pF t).1.symm⟩
   ·cases m with
    |bn=>exact absurd rfl z
    |bq=>exact absurd I (D0 wh l)
    |live=>exact .inr (afY wh (Q rfl) I)
theorem avK (X:sM P T) (hm:P.follows .mixedOrders=true) {f:FuncId} {fn:Func} {c:Code} {A:mX} {S:List bU} {sig:cX} {M:List Dv->Option (List Dv×List C)} (hf:P.funcs[f]? =some fn) (hb:fn.body=some c)
  (W:mC P fn.ntmps c A=true) (hr:qY P fn.results.toList S=true) (Y:∀ds u z,M ds=some (u,z)->ds.length<=fn.ntmps/\QV T A S sig ds=some (u,z)):uM P f sig M:=by
 intro ds u z mZ w vals pas k;obtain⟨hN,s⟩:=Y ds u z mZ;refine calls_of_wp hf hb ?_;have D:=R.Me (N:=fn.ntmps) k hN;have iO:∀p∈pas,∀pc∈p.ps,Good w pc:=by
  intro p y pc cA;obtain⟨i,j,rfl⟩:=zaj y;have hd:ds[i]? =some (ds[i]'(by rw[<-k.l2];exact j)):=co _;have F:vals[i]? =some (vals[i]'(by rw[k.l1,<-k.l2];exact j)):=co _;exact(k.at_ i _ _ _ hd F (co j)).2.1 pc cA
 have I:∀x∈fq sig (pas.map (·.ps)),Good w x.2:=by
  intro x hx;obtain⟨l,hl,Z⟩:=Le hx;obtain⟨p,y,rfl⟩:=zag.1 hl;exact iO p y _ Z
 have LA:ds.map (·.2)=(pas.map (·.ps)).map fun l=>l.map PC.er:=by
  apply zan;intro i;simp only[AT];cases hd:ds[i]? with
  |none=>
   have:ds.length<=i:=zal.1 hd;rw[Pd (by rw[k.l2];exact this)];rfl
  |some d=>
   have j:=(If.1 hd).1;have F:vals[i]? =some (vals[i]'(by rw[k.l1];exact j)):=co _;have y:pas[i]? =some (pas[i]'(by rw[k.l2];exact j)):=co _;have:=(k.at_ i d _ _ hd F y).1;rw[y];simp only[wt];rw[this]
 unfold QV at s;rw[LA,H4] at s;generalize m5:fq sig (pas.map (·.ps))=fl at s D I;have H:=k.ok;rw[m5] at H;have ie:∀{σ:St} {a:Act} {w':World} {G:Gh},σ.zU S (fl.map fun x=>(x.1,x.2.er))=some (u,z)->R w.heap.size (vZ fl) w fn.ntmps σ a w' G->a.defers=[]/\∃v,(results fn a.tmps).run P w'=.ok v w'/\
   ∃t:List (K×List PC),t.map (fun p=>(p.1,p.2.map PC.er))=u/\(Ending.returned v)=.returned (zV t)/\(∀p∈t,p.1≠ .ptr/\(p.1=.one->p.2.length=1))/\
   Cu w' w.heap.size (t.flatMap (·.2))/\Fr w.heap.size (CL fl) w w'/\
   ∃L:List PC,L.map PC.er=z/\L.length=fl.length/\∀(i:Nat) (x:Mode×PC) (q:PC),fl[i]? =some x->L[i]? =some q->uL w' x.1 x.2 q:=by
  intro σ a w' G hx r;unfold St.zU at hx;split at hx
  ·rename_i oH X9 e1 V;injection hx with hx;injection hx with lV fC;subst lV fC;have hE:∀b,(vZ fl) b->∃n O m sz xs,aY<=n/\σ.h n=some (.row O m sz xs)/\m≠ .bn/\rS G n b/\(m=.bq->¬bY b (G.g n).px):=by
    rintro b ⟨x,xR,C9⟩;obtain⟨i,j⟩:=zam xR;obtain⟨q,o,_,_,_,O,sz,xs,E,J,Q,k4⟩:=KG H I r V j;exact⟨aY+i,O,x.1,sz,xs,zaC _ _,E,k4,J b C9,fun hm=>Q hm b⟩
   obtain⟨t,p1,p2,p3,p4⟩:=YC (r.nT hE) hr e1;obtain⟨ol,_⟩:=QF V;have U:∀i:Fin fl.length,∃q,X9[i.1]? =some (PC.er q)/\uL w' (fl[i.1]).1 (fl[i.1]).2 q:=by
    intro i;obtain⟨q,o,E,J,Q,_⟩:=KG H I r V (co i.2);exact⟨q,by rw[E,J],Q⟩
   refine⟨r.defers,_,p2,t,p1,rfl,p3,p4,⟨r.fr.os,r.fr.tape,r.fr.output,r.fr.size,r.fr.block,r.fr.mh⟩,List.ofFn fun i=>za2 (U i),?_,by simp,fun i x q j B=>?_⟩
   ·apply zan;intro i;simp only[AT];by_cases j:i<fl.length
    ·rw[zaA,dif_pos j];exact(zas (U ⟨i,j⟩)).1.symm
    ·rw[Pd (by simp;omega),Pd (by rw[ol];simp;omega)];rfl
   ·obtain⟨hl,e⟩:=If.1 j;rw[zaA,dif_pos hl] at B;injection B with B;subst B;subst e;exact(zas (U ⟨i,hl⟩)).2
  ·cases hx
 split at s
 ·rename_i σ e;exact n7 X hm A W e D fun a w' G r=>ie s r
 ·rename_i σ e;exact n7 X hm A W e D fun a w' G r=>ie s r
 ·cases s
end
def KI:Dv->aE
 |(.one,[x])=>.one (.c x)
 |(.one,_)=>.one .cC
 |(.agg,xs)=>.agg (xs.map .c)
 |(.ptr,_)=>.one (.ptr aY 0 0 0)
def zy:Nat->List Dv->(Nat->aE)
 |_,[]=>CJ
 |k,d::ds=>bj (zy (k+1) ds) k (KI d)
def ux:List Dv->Option (List C)
 |[]=>none
 |(.ptr,xs)::_=>some xs
 |_::ds=>ux ds
def uh (ds:List Dv):Nat->Option bf:=fun n=>match IS n aY with
 |true=>(ux ds).map fun xs=>.box (xs.map .c)
 |false=>none
def Mg (ds:List Dv):St:={env:=zy 0 ds,h:=uh ds,used:=fun n=>zaf aY n}
theorem al9 (ds:List Dv) (n:Nat) (hn:aY<=n):(Mg ds).used n=true:=Pe hn
def wM (h:Nat->Option bf):List aE->Option (List Dv)
 |[]=>some []
 |v::vs=>match v.cells? with
  |some (ag,cs)=>match lm h cs,wM h vs with
   |some xs,some ds=>some ((if ag=true then .agg else .one,xs)::ds)
   |_,_=>none
  |none=>none
def JF (h:Nat->Option bf):List aE->Option (List Dv)
 |[v]=>match yP h v with
  |some (n,xs)=>if aY<=n then none else some [(.ptr,xs)]
  |none=>wM h [v]
 |vs=>wM h vs
def Jm (h:Nat->Option bf):Option (List C)->Option (List C)
 |none=>some []
 |some xs=>match h aY with
  |some (.box cs)=>if cs.length=xs.length then ot cs else none
  |_=>none
def St.JE (σ:St) (ms:List bU) (ds:List Dv):Option (List Dv×List C):=
 match σ.wK ms with
 |some vs=>match JF σ.h vs,Jm σ.h (ux ds) with
  |some rs,some out=>some (rs,out)
  |_,_=>none
 |none=>none
def QW (T:bL) (mc:mX) (aJ:List bU) (ds:List Dv):Option (List Dv×List C):=
 match fB T mc (Mg ds) with
 |some (.iH σ)=>σ.JE aJ ds
 |some (.ret σ)=>σ.JE aJ ds
 |_=>none
section
variable {B:Nat} {E:Ex} {w0 w w':World} {G G':Gh} {N:Nat} {h h':Nat->Option bf} {used:Nat->Bool}
variable {P:Program} {T:bL} {a:Act} {σ σ':St} {Q:Exit->Act->World->Prop}
theorem WX:∀(ds:List Dv) (k n:Nat),zy k ds n=if k<=n then(match ds[n - k]? with|some d=>KI d|none=>.one .cC) else .one .cC
 |[],k,n=>by simp[zy,CJ]
 |d::ds,k,n=>by simp only[zy,nt,WX ds];by_cases h:n=k;subst h;simp;by_cases b:k<=n;have a:k+1<=n:=(by omega);have c:n - k=(n - (k+1))+1:=(by omega);simp[h,b,a,c];have a:¬k+1<=n:=(by omega);simp[h,b,a]
theorem PX {ds:List Dv} {n:Nat} {b:bf} (hn:uh ds n=some b):n=aY/\∃xs,ux ds=some xs/\b=.box (xs.map .c):=by unfold uh at hn;split at hn;rename_i e;have:=AI e;subst this;refine⟨rfl,?_⟩;(cases hp:ux ds with|none=>rw[hp] at hn;cases hn|some xs=>rw[hp] at hn;injection hn with hn;exact⟨xs,rfl,hn.symm⟩);cases hn
def lz:List PA->Option PA
 |[]=>none
 |p::ps=>if p.k=.ptr then some p else lz ps
theorem K5:∀{pas:List PA} {p:PA},lz pas=some p->p∈pas/\p.k=.ptr
 |[],p,h=>by cases h
 |q::pas,p,h=>by unfold lz at h;split at h;injection h with h;subst h;rename_i c;exact⟨by simp,c⟩;obtain⟨b,a⟩:=K5 h;exact⟨by simp[b],a⟩
theorem OD:∀{pas:List PA},lz pas=none->∀p∈pas,p.k≠ .ptr
 |[],_,p,a=>by cases a
 |q::pas,h,p,a=>by unfold lz at h;split at h;cases h;rename_i b;cases a with|head=>exact b|tail _ a=>exact OD h p a
theorem Yp:∀{ds:List Dv} {pas:List PA},pas.length=ds.length->(∀(i:Nat) (d:Dv) (p:PA),ds[i]? =some d->pas[i]? =some p->d=(p.k,p.ps.map PC.er))->ux ds=(lz pas).map fun p=>p.ps.map PC.er
 |[],[],_,_=>rfl
 |[],_::_,hl,_=>by simp at hl
 |_::_,[],hl,_=>by simp at hl
 |d::ds,p::pas,hl,hd=>by have f:=hd 0 d p rfl rfl;have a:=Yp (ds:=ds) (pas:=pas) (by simpa using hl) (fun i d p e c=>hd (i+1) d p e c);subst f;obtain⟨k,ps,b,o⟩:=p;cases k with|ptr=>rfl|one=>simpa[ux,lz] using a|agg=>simpa[ux,lz] using a
def DV (p:PA):PB:=⟨false,p.b,p.o,0,[],none⟩
def Ld (pas:List PA):Ex:=
 ⟨fun b=>∃p∈pas,p.k=.ptr/\b=p.b,fun n=>if n=aY then(lz pas).map DV else none,fun n p h=>(by
  by_cases hn:n=aY
  ·exact za9 hn.symm
  ·rw[ak hn] at h;cases h),fun b=>∃q∈pas,∃pc∈q.ps,bP b pc⟩
def CQ (pas:List PA):Gh:=⟨fun b=>∃q∈pas,∃pc∈q.ps,bP b pc,fun n=>match lz pas with|some p=>DV p|none=>default⟩
theorem R.ast {ds:List Dv} {vals:List Value} {pas:List PA} (f:TN w ds vals pas) (hN:ds.length<=N):
  R w.heap.size (Ld pas) w N (Mg ds) {tmps:=vals.toArray++zar (N - vals.toArray.size) undef,defers:=[]} w (CQ pas):=by
 have hl:=f.l1;have Bi:ux ds=(lz pas).map fun p=>p.ps.map PC.er:=by
  refine Yp f.l2 fun i d p hd r=>?_;have E:vals[i]? =some (vals[i]'(by rw[f.l1];exact(If.1 hd).1)):=co _;exact(f.at_ i d _ p hd E r).1
 have V:∀q∈pas,∀pc∈q.ps,Good w pc:=by
  intro q z pc F;obtain⟨i,h,rfl⟩:=zaj z;have hd:ds[i]? =some (ds[i]'(by rw[<-f.l2];exact h)):=co _;have E:vals[i]? =some (vals[i]'(by rw[f.l1,<-f.l2];exact h)):=co _;exact(f.at_ i _ _ _ hd E (co h)).2.1 pc F
 have Q:∀q∈pas,q.k=.ptr->N5 w q.b q.o q.ps/\∃v:Value,v∈vals/\v=.pointer (some (ad q.b q.o)):=by
  intro q z hk;obtain⟨i,h,rfl⟩:=zaj z;have hd:ds[i]? =some (ds[i]'(by rw[<-f.l2];exact h)):=co _;have E:vals[i]? =some (vals[i]'(by rw[f.l1,<-f.l2];exact h)):=co _;have P:=(f.at_ i _ _ _ hd E (co h)).2.2;rw[hk] at P;exact⟨P.2.2,_,GB E,P.1⟩
 have cell:∀q∈pas,∀pc∈q.ps,RC w (CQ pas) (uh ds) (.c pc.er) pc.val:=fun q z pc F=>⟨pc,rfl,rfl,V q z pc F,fun b A=>⟨q,z,pc,F,A⟩⟩;have cells:∀q∈pas,eJ w (CQ pas) (uh ds) ((q.ps.map PC.er).map .c) (q.ps.map PC.val):=by
  intro q z;refine⟨by simp,fun j c u t M=>?_⟩;simp only[AT,zai] at t M;cases r:q.ps[j]? with
  |none=>rw[r] at t;cases t
  |some pc=>
   rw[r] at t M;simp at t M;subst t M;exact⟨PC.mU pc,cell q z pc (GB r)⟩
 refine⟨rfl,by simp;omega,fun s=>?_,fun s n hn=>?_,?_,Fr.refl _ _ _ (zap _),fun n p b r A=>?_,fun n hn=>Pe hn⟩
 ·show RA w _ (uh ds) (zy 0 ds s) _;rw[WX];simp only[za5,if_true,zaY];cases hs:ds[s]? with
  |none=>exact Or.inl rfl
  |some d=>
   have L:=(If.1 hs).1;have W:s<vals.length:=by rw[hl];exact L
   have E:vals[s]? =some vals[s]:=co W;obtain⟨q,r⟩:∃q,pas[s]? =some q:=⟨_,co (by rw[f.l2];exact L)⟩;have:(vals.toArray++zar (N - vals.toArray.size) undef).getD s undef=vals[s]:=by
    simp[zaF,zaB,W]
   rw[this];have S:=GB r;obtain⟨C,X,B⟩:=f.at_ s d _ q hs E r;generalize vals[s]=u at*
   subst C;obtain⟨k,ps,b,o⟩:=q;cases k with
   |one=>
    have B:ps.map PC.val=[u]:=B;obtain⟨pc,rfl⟩:∃pc,ps=[pc]:=by
     have:=congrArg zaz B;exact List.length_eq_one_iff.1 (by simpa using this)
    simp at B;rw[<-B];exact RA.iR (PC.mU pc) (cell _ S pc (by simp))
   |agg=>exact⟨_,B,cells _ S⟩
   |ptr=>
    have B:u=.pointer (some (ad b o))/\_:=B;rw[B.1];have l:lz pas=some ⟨.ptr,ps,b,o⟩:=by
     cases l:lz pas with
     |none=>exact absurd rfl (OD l _ S)
     |some p=>
      obtain⟨J,I⟩:=K5 l;obtain⟨i,h⟩:=zam J;have:=f.one i s p _ h r I rfl;subst this;rw[h] at r;injection r with r;rw[r]
    refine RA.iR (c:=.ptr aY 0 0 0) rfl (fun _=>?_);simp[CQ,l,DV]
 ·have a:(zy 0 ds s).ref n:=hn;rw[WX] at a;simp only[za5,if_true,zaY] at a;cases hs:ds[s]? with
  |none=>rw[hs] at a;exact absurd a id
  |some d=>
   rw[hs] at a;obtain⟨k,xs⟩:=d;cases k with
   |one=>match xs,a with
    |[],a=>exact absurd a id
    |[x],a=>exact absurd a id
    |_::_::_,a=>exact absurd a id
   |agg=>
    obtain⟨c,l,O⟩:=a;obtain⟨y,_,rfl⟩:=zag.1 l;exact absurd O id
   |ptr=>
    have a:n=aY:=a;subst a;exact al9 ds aY (zap aY)
 ·
  have T:∀n H m sz xs,uh ds n≠some (.row H m sz xs):=fun n H m sz xs hn=>by obtain⟨_,_,_,e⟩:=PX hn;cases e
  have K:∀n,uh ds n≠none->n=aY/\∃p,lz pas=some p/\(CQ pas).g n=DV p/\uh ds n=some (.box ((p.ps.map PC.er).map .c)):=by
   intro n hn;cases O:uh ds n with
   |none=>exact absurd O hn
   |some b=>
    obtain⟨rfl,xs,C,X⟩:=PX O;rw[Bi] at C;cases l:lz pas with
    |none=>rw[l] at C;cases C
    |some p=>
     rw[l] at C;injection C with C;exact⟨rfl,p,rfl,by simp[CQ,l],by rw[X,<-C]⟩
  refine⟨fun n hn=>?_,fun m cs c n hm l hr=>?_,fun n cs hn=>?_,fun n H m sz xs hn=>absurd hn (T _ _ _ _ _),fun n hn hlf=>?_,fun n n' hn a Z=>?_,fun b A=>?_,fun b A=>.inr (.inr A),
   fun n n' H m sz xs cv m' bw aP hn=>absurd hn (T _ _ _ _ _),fun n H sz xs hn=>absurd hn (T _ _ _ _ _),?_,?_,?_⟩
  ·obtain⟨rfl,_⟩:=K n hn;exact al9 ds aY (zap aY)
  ·have cU:uh ds m=some (.box cs):=hm;obtain⟨_,xs,_,e⟩:=PX cU;injection e with e;subst e;obtain⟨x,_,rfl⟩:=zag.1 l;exact absurd hr id
  ·have a:uh ds n=some (.box cs):=hn;obtain⟨rfl,p,J,I,G⟩:=K n (by rw[a];simp);rw[a] at G;injection G with G;injection G with G;subst G;obtain⟨m1,m2⟩:=K5 J;rw[I];refine⟨rfl,(f.mh p m1 m2).1,fun j c t=>?_⟩;rw[AT,AT] at t;cases lU:p.ps[j]? with
   |none=>rw[lU] at t;cases t
   |some pc=>
    rw[lU] at t;simp at t;subst t;exact⟨pc.val,(Q p m1 m2).1 j pc lU,PC.mU pc,cell p m1 pc (GB lU)⟩
  ·obtain⟨rfl,p,J,I,G⟩:=K n hn;obtain⟨m1,m2⟩:=K5 J;rw[I];obtain⟨Y,u2⟩:=f.mh p m1 m2;exact⟨fun⟨q,z,pc,F,A⟩=>u2 q z pc F A,.inr ⟨p,m1,m2,rfl⟩,Y.lt⟩
  ·obtain⟨rfl,_⟩:=K n hn;obtain⟨rfl,_⟩:=K n' a;exact absurd rfl Z
  ·obtain⟨q,z,pc,F,A⟩:=A;exact(V q z pc F).lt A
  ·intro i pc h;simp at h
  ·intro i j pc fo b _ h;simp at h
  ·intro i pc n H m sz xs b h;simp at h
 ·have D:(if n=aY then(lz pas).map DV else none)=some p:=r
  split at D
  ·rename_i hn;subst hn;cases l:lz pas with
   |none=>rw[l] at D;cases D
   |some q=>
    rw[l] at D;injection D with D;subst D;have hg:(CQ pas).g aY=DV q:=by simp[CQ,l]
    rw[hg];refine⟨rfl,rfl,rfl,rfl,rfl,fun H sz xs U=>?_⟩;have Vy:uh ds aY=some b:=A;obtain⟨_,_,_,e⟩:=PX Vy;rw[e] at U;cases U
  ·cases D
def TL (G:Gh) (h:Nat->Option bf) (b:Nat):Prop:=G.Im b\/∃n gr m sz xs,h n=some (.row gr m sz xs)/\xE G n b
theorem HR.amh (H:HR B E w G h used []):∀{cs:List ar} {xs:List C} {vs:List Value},Am.lm h cs=some xs->eJ w G h cs vs->∃ps:List PC,ps.map PC.er=xs/\ps.map PC.val=vs/\∀pc∈ps,Good w pc/\∀b,bP b pc->TL G h b
 |[],xs,vs,hx,hc=>by
  simp only[Am.lm] at hx;injection hx with hx;subst hx;have:vs=[]:=zad (by simpa using hc.1);subst this;exact⟨[],rfl,rfl,by simp⟩
 |c::cs,xs,vs,hx,hc=>by
  simp only[Am.lm] at hx;split at hx
  ·rename_i x aP f y;injection hx with hx;subst hx;match vs,hc.1 with
   |v::vs,hl=>
    obtain⟨pc,i,t,k,g⟩:=H.ZX f (hc.2 0 c v rfl rfl).2;obtain⟨ps,p,l,r⟩:=H.amh (vs:=vs) y ⟨by simpa using hl,fun j c u a d=>hc.2 (j+1) c u a d⟩;refine⟨pc::ps,by simp[i,p],by simp[t,l],fun q e=>?_⟩;cases e with
    |head=>exact⟨k,fun b s=>(g b s).imp id fun⟨n,o,m,sz,xs,_,a,d⟩=>⟨n,o,m,sz,xs,a,d⟩⟩
    |tail _ e=>exact r q e
  ·cases hx
theorem HR.wM (H:HR B E w G h used []):∀{vs:List aE} {ds:List Dv} {us:List Value},Am.wM h vs=some ds->us.length=vs.length->(∀(j:Nat) (x:aE) (v:Value),vs[j]? =some x->us[j]? =some v->RA w G h x v)->
  ∃i:List PA,i.map (fun p=>(p.k,p.ps.map PC.er))=ds/\i.map F5=us/\(∀p∈i,p.k≠ .ptr/\(p.k=.one->p.ps.length=1))/\∀p∈i,∀pc∈p.ps,Good w pc/\∀b,bP b pc->TL G h b
 |[],ds,us,hx,hl,hc=>by
  simp only[Am.wM] at hx;injection hx with hx;subst hx;have:us=[]:=zad (by simpa using hl);subst this;exact⟨[],rfl,rfl,by simp,by simp⟩
 |x::vs,ds,us,hx,hl,hc=>by
  simp only[Am.wM] at hx;split at hx
  ·rename_i ag cs f;split at hx
   ·rename_i xs CI o D;injection hx with hx;subst hx;match us,hl with
    |v::us,hl=>
     obtain⟨i,u,r,y,s⟩:=H.wM (us:=us) D (by simpa using hl) (fun j x v l C=>hc (j+1) x v l C);have g:=hc 0 x v rfl rfl;have q:∃vs:List Value,(if ag=true then v=.agg vs.toArray else vs=[v])/\eJ w G h cs vs:=by
      cases x with
      |one c=>
       have A:ag=false/\cs=[c]:=by cases c<;>simp[aE.cells?] at f<;>exact⟨f.1,f.2.symm⟩
       obtain⟨rfl,rfl⟩:=A;rcases g with g|g
       ·subst g;simp[aE.cells?] at f
       ·exact⟨[v],rfl,g⟩
      |agg cs'=>
       simp[aE.cells?] at f;obtain⟨rfl,rfl⟩:=f;obtain⟨vs,e,l⟩:∃vs:List Value,v=.agg vs.toArray/\eJ w G h cs' vs:=g;exact⟨vs,e,l⟩
      |dh xs=>simp[aE.cells?] at f
     obtain⟨cvs,a,z⟩:=q;obtain⟨ps,p1,m,t⟩:=H.amh o z;refine⟨⟨if ag=true then .agg else .one,ps,0,0⟩::i,by simp[p1,u],?_,fun p d=>?_,fun p d pc n=>?_⟩
     ·rw[AN,r];congr 1;cases ag with
      |true=>
       simp only[if_true] at a⊢;rw[a,<-m];rfl
      |false=>
       simp only[zac,if_false] at a⊢;rw[<-m] at a;match ps,a with
       |[pc],a=>simp at a;exact a
     ·cases d with
      |head=>
       cases ag with
       |true=>exact⟨by simp,fun h=>by cases h⟩
       |false=>
        simp only[zac,if_false] at a;refine⟨by simp,fun _=>?_⟩;have:(ps.map PC.val).length=1:=by rw[m,a];rfl
        simpa using this
      |tail _ d=>exact y p d
     ·cases d with
      |head=>exact t pc n
      |tail _ d=>exact s p d pc n
   ·cases hx
  ·cases hx
theorem ayY {a:List PA}:Jo (a.map F5)=F6 a:=by
 match a with
 |[]=>rfl
 |[p]=>rfl
 |p::q::a=>rfl
theorem aBf (hT:sM P T) (hm:P.follows .mixedOrders=true) {f:FuncId} {fn:Func} {c:Code} {mc:mX} {ms:List bU} {M:List Dv->Option (List Dv×List C)} (hf:P.funcs[f]? =some fn) (l:fn.body=some c)
  (E:mC P fn.ntmps c mc=true) (hr:qY P fn.results.toList ms=true) (hM:∀ds O out,M ds=some (O,out)->ds.length<=fn.ntmps/\QW T mc ms ds=some (O,out)):yL P f M:=by
 intro ds O out mZ w vals pas va;obtain⟨hN,de⟩:=hM ds O out mZ;refine calls_of_wp hf l ?_;have r0:=R.ast (N:=fn.ntmps) va hN;have Bi:ux ds=(lz pas).map fun p=>p.ps.map PC.er:=by
  refine Yp va.l2 fun i d p hd s=>?_;have hv:vals[i]? =some (vals[i]'(by rw[va.l1];exact(If.1 hd).1)):=co _;exact(va.at_ i d _ p hd hv s).1
 unfold QW at de;have ie:∀{σ:St} {a:Act} {w':World} {G:Gh},σ.JE ms ds=some (O,out)->R w.heap.size (Ld pas) w fn.ntmps σ a w' G->a.defers=[]/\∃v,(results fn a.tmps).run P w'=.ok v w'/\
   ∃(I:List PA) (A:List PC),I.map (fun p=>(p.k,p.ps.map PC.er))=O/\(Ending.returned v)=.returned (F6 I)/\A.map PC.er=out/\TM w w' pas I A:=by
  intro σ a w' G hx r;have H:=r.hr;unfold St.JE at hx;split at hx
  ·rename_i vs e1;split at hx
   ·rename_i oH X8 F B;injection hx with hx;injection hx with lV fC;subst lV fC;have E7:∀p,lz pas=some p->∃cs,σ.h aY=some (.box cs)/\cs.length=p.ps.length/\ot cs=some X8/\(G.g aY).nl=false/\(G.g aY).b=p.b/\(G.g aY).o=p.o:=by
     intro p s;rw[Bi,s] at B;simp only[wt,Jm] at B;split at B
     ·rename_i cs jf;split at B
      ·rename_i hl;have rn:(Ld pas).rG aY=some (DV p):=by
        show(if aY=aY then(lz pas).map DV else none)=_
        rw[aj rfl,s];rfl
       obtain⟨q1,L,q3,_⟩:=r.rG _ _ _ rn jf;exact⟨cs,jf,by simpa using hl,B,q1,L,q3⟩
      ·cases B
     ·cases B
    have PK:∀q∈pas,q.k=.ptr->∃p,lz pas=some p/\q=p:=by
     intro q V z;cases E:lz pas with
     |none=>exact absurd z (OD E q V)
     |some p=>
      obtain⟨c1,c2⟩:=K5 E;obtain⟨i,hi⟩:=zam V;obtain⟨j,J⟩:=zam c1;have:=va.one i j q p hi J z c2;subst this;rw[hi] at J;injection J with J;exact⟨p,rfl,J⟩
    have hE:∀b,(Ld pas) b->∃p cs,lz pas=some p/\σ.h aY=some (.box cs)/\(G.g aY).nl=false/\b=(G.g aY).b:=by
     rintro b ⟨q,V,z,rfl⟩;obtain⟨p,s,rfl⟩:=PK q V z;obtain⟨cs,t,_,_,x,D,_⟩:=E7 q s;exact⟨q,cs,s,t,x,D.symm⟩
    have U:∀b,G.Im b->Hi w pas b:=fun b l=>by
     rcases H.uf b l with t|t|t
     ·exact .inl t
     ·obtain⟨p,cs,_,x,D,rfl⟩:=hE b t;exact absurd l (H.own aY (by rw[x];simp) D).1
     ·exact .inr t
    have arE:∀b,TL G σ.h b->Hi w pas b/\(∀p,lz pas=some p->b≠p.b):=by
     have K:∀b,(∀cs,σ.h aY=some (.box cs)->(G.g aY).nl=false->b≠(G.g aY).b)->∀p,lz pas=some p->b≠p.b:=fun b l p s=>by
      obtain⟨cs,t,_,_,x,D,_⟩:=E7 p s;rw[<-D];exact l cs t x
     have adL:∀b,(w.heap.size<=b\/(Ld pas) b)->(∀cs,σ.h aY=some (.box cs)->(G.g aY).nl=false->b≠(G.g aY).b)->Hi w pas b:=fun b l K=>by
      rcases l with l|l
      ·exact .inl l
      ·obtain⟨p,cs,_,x,D,h4⟩:=hE b l;exact absurd h4 (K cs x D)
     intro b l;rcases l with l|⟨n,gr,m,sz,xs,hn,hft⟩
     ·exact⟨U b l,K b fun cs t x X=>(H.own aY (by rw[t];simp) x).1 (X▸l)⟩
     ·have Q:σ.h n≠none:=by rw[hn];simp
      rcases hft with⟨bJ,rfl⟩|S
      ·have hd:∀cs,σ.h aY=some (.box cs)->(G.g aY).nl=false->(G.g n).b≠(G.g aY).b:=fun cs t x=>
        H.inj n aY Q (by rw[t];simp) (by rintro rfl;rw[hn] at t;cases t) bJ x
       exact⟨adL _ (H.own n Q bJ).2.1 hd,K _ hd⟩
      ·have Y:=(H.row n gr m sz xs hn).mode;cases m with
       |bn=>exact⟨U b (Y b S),K b fun cs t x X=>(H.own aY (by rw[t];simp) x).1 (X▸Y b S)⟩
       |bq=>exact⟨U b (Y.1 b S).1,K b fun cs t x X=>(H.own aY (by rw[t];simp) x).1 (X▸(Y.1 b S).1)⟩
       |live=>
        have hd:∀cs,σ.h aY=some (.box cs)->(G.g aY).nl=false->b≠(G.g aY).b:=fun cs t x=>H.live n gr sz xs hn b S aY (by rw[t];simp) x;exact⟨adL b (Y.1 b S).2.2 hd,K b hd⟩
    obtain⟨us,u1,u2,_,u3⟩:=M6 r hr e1;obtain⟨A,q1,L,q3⟩:∃A:List PC,A.map PC.er=X8/\(∀pc∈A,Good w' pc/\∀b,bP b pc->G.Im b)/\∀p∈pas,p.k=.ptr->N5 w' p.b p.o A:=by
     cases E:lz pas with
     |none=>
      rw[Bi,E] at B;simp only[OF,Jm] at B;injection B with B;subst B;exact⟨[],rfl,by simp,fun p s z=>absurd z (OD E p s)⟩
     |some p=>
      obtain⟨cs,t,x,D,h4,h5,h6⟩:=E7 p E;obtain⟨cvs,v1,v2⟩:=H.T7 t;obtain⟨ps,p1,p2,p3⟩:=HR.ot D v1;refine⟨ps,p1,p3,fun q V z j c J=>?_⟩;obtain⟨p',dt,rfl⟩:=PK q V z;rw[E] at dt;injection dt with dt;subst dt;rw[<-h5,<-h6];refine v2 j _ ?_;rw[<-p2,AT,J];rfl
    have A7:Fr w.heap.size (exV pas) w w':=⟨r.fr.os,r.fr.tape,r.fr.output,r.fr.size,r.fr.block,r.fr.mh⟩;have OG:∀{oH:List Dv},wM σ.h vs=some oH->∃v,(results fn a.tmps).run P w'=.ok v w'/\
      ∃(I:List PA) (A:List PC),I.map (fun p=>(p.k,p.ps.map PC.er))=oH/\(Ending.returned v)=.returned (F6 I)/\A.map PC.er=X8/\TM w w' pas I A:=by
     intro oH PG;obtain⟨I,b1,b2,b3,b4⟩:=H.wM PG u2 u3;refine⟨_,Q0 fn a.tmps u1,I,A,b1,by rw[<-b2,ayY],q1,?_⟩;exact⟨fun p s=>(b3 p s).2,fun p s z=>absurd z (b3 p s).1,fun p s pc y=>⟨(b4 p s pc y).1,fun b l=>(arE b ((b4 p s pc y).2 b l)).1⟩,A7,fun pc y=>⟨(L pc y).1,fun b l=>U b ((L pc y).2 b l)⟩,q3⟩
    refine⟨r.defers,?_⟩;unfold JF at F;split at F
    ·rename_i v0;split at F
     ·rename_i n xs hbp;split at F
      ·cases F
      ·rename_i LM;injection F with F;subst F;obtain⟨sz,cs,rfl,hn,jf⟩:=aaQ hbp;obtain⟨nl,un,_⟩:=H.box n cs hn;have Q:σ.h n≠none:=by rw[hn];simp
       obtain⟨o1,Z,o3⟩:=H.own n Q nl;obtain⟨cvs,v1,v2⟩:=H.T7 hn;obtain⟨ps,p1,p2,p3⟩:=HR.ot jf v1;match us,u2 with
       |[u],_=>
        have hu:u=.pointer (some (ad (G.g n).b (G.g n).o)):=by
         have W:=u3 0 _ u rfl rfl;rcases W with W|W
         ·cases W
         ·have t:RC w' G σ.h (.ptr n 0 sz 0) u:=(W.2 0 _ u rfl rfl).2;simpa using(t Q).2
        have hB:w.heap.size<=(G.g n).b:=by
         rcases Z with Z|Z
         ·exact Z
         ·obtain⟨p,cs',_,x,D,h4⟩:=hE _ Z;exact absurd h4 (H.inj n aY Q (by rw[x];simp) (by rintro rfl;exact LM (zap _)) nl D)
        refine⟨_,Q0 fn a.tmps u1,[⟨.ptr,ps,(G.g n).b,(G.g n).o⟩],A,by simp[p1],?_,q1,?_⟩
        ·rw[hu];rfl
        ·refine⟨fun p s z=>?_,fun p s z=>?_,fun p s pc y=>?_,A7,fun pc y=>⟨(L pc y).1,fun b l=>U b ((L pc y).2 b l)⟩,q3⟩
         ·simp at s;subst s;cases z
         ·simp at s;subst s;refine⟨rfl,hB,un,fun j c J=>v2 j _ ?_,fun pc y l=>o1 ((p3 pc y).2 _ l),fun pc y l=>o1 ((L pc y).2 _ l)⟩;rw[<-p2,AT,J];rfl
         ·simp at s;subst s;exact⟨(p3 pc y).1,fun b l=>U b ((p3 pc y).2 b l)⟩
     ·exact OG F
    ·exact OG F
   ·cases hx
  ·cases hx
 split at de
 ·rename_i σ e;exact n7 hT hm mc E e r0 fun a w' G r=>ie de r
 ·rename_i σ e;exact n7 hT hm mc E e r0 fun a w' G r=>ie de r
 ·cases de
end
def _root_.Option.ae {α β:Type} (o:Option α) (f:α->Option β):Option β:=o.bind f
def au {α:Type} (b:Bool) (x y:α):α:=cond b x y
def bo (k:IntKind) (a b:Int):Int:=k.wrap (a+b)
def iw (k:IntKind) (a b:Int):Int:=k.wrap (a - b)
def f6 (k:IntKind) (a b:Int):Int:=k.wrap (a*b)
def axq (k:IntKind) (a:Int):Int:=k.wrap (0 - a)
def yM (k:IntKind) (a b:Int):Int:=bits .and k a b
def DQ (k:IntKind) (a b:Int):Int:=bits .or k a b
def aBx (k:IntKind) (a b:Int):Int:=bits .xor k a b
def cu (a b:Int):Bool:=a==b
def fy (a b:Int):Bool:=a !=b
def bO (a b:Int):Bool:=decide (a<b)
def fR (a b:Int):Bool:=decide (a<=b)
def eqB (a b:Bool):Bool:=a==b
def FT (a b:Bool):Bool:=a !=b
def df (a:Bool):Bool:= !a
def wF (a b:Int):Int:=if a<b then b else a
def iM (a b:Int):Int:=if b<a then b else a
def ab {α:Type} (xs:List α):Nat:=xs.length
def aD (n:Nat):Int:=(n:Int)
def av (a b:Nat):Nat:=a+b
def bQ {α:Type} (xs:List α) (k:Nat):Option α:=xs[k]?
def bB {α:Type} (xs:List α) (k:Nat) (x:α):List α:=xs.set k x
def dn {α:Type} (xs ys:List α):List α:=xs++ys
def cR {α:Type} (n:Nat) (x:α):List α:=zaI n x
def fU {α:Type} (xs:List α) (lo len:Nat):List α:=(xs.drop lo).take len
def bF {α:Type} (xs:List α) (i:Int):Option α:=if 0<=i then xs[i.toNat]? else none
def cN (i:Int) (len:Nat):Option Nat:=if 0<=i/\i<len then some i.toNat else none
def jB (lo hi:Int) (len:Nat):Option (Nat×Nat):=if 0<=lo/\lo<=hi/\hi<=len then some (lo.toNat,(hi - lo).toNat) else none
def bc {α:Type} (xs:List α) (lo len:Nat):Option (List α):=if lo+len<=xs.length then some ((xs.drop lo).take len) else none
def ed {α:Type} (xs:List α) (len:Nat):Option (List α):=if len<=xs.length then some (xs.take len) else none
def HP {α:Type} (xs:List α) (lo len:Nat) (ys:List α):Option (List α):=if lo+len<=xs.length then some (xs.take lo++ys++xs.drop (lo+ys.length)) else none
def kB (a b:Int) (by_:Nat):Option Nat:=if a<=b/\0<=a/\b.toNat*by_<=eD then some a.toNat else none
def iN (n by_:Nat):Option Unit:=if n*by_<=eD then some () else none
def kq (a b:Nat):Option Unit:=if a=b then some () else none
def aO (lo len l:Nat):Option Unit:=if lo=0/\len=l then some () else none
abbrev U:=List Int
abbrev ah {α β:Type} (l:List α) (k:Option β):Option β:=(aO 0 (ab l) (ab l)).ae fun _=>k
def JA (k:IntKind) (a b:Int):Option Int:=if b=0 then none else some (k.wrap (a.tdiv b))
def hZ (a b:Int):Option Int:=if b=0 then none else some (a.tmod b)
def D8 (k:IntKind) (a b:Int):Option Int:=if b<0 then none else some (k.wrap (a*2^(min b.toNat k.bits)))
def ak3 (k:IntKind) (a b:Int):Option Int:=if b<0 then none else some (a/(2^(min b.toNat k.bits)))
def cj {X Y:Type}:Nat->(X->Option (X⊕Y))->X->Option Y
 |0,_,_=>none
 |n+1,f,x=>match f x with
  |some (.inl x')=>cj n f x'
  |some (.inr y)=>some y
  |none=>none
def bK {X ρ:Type} (o:Option (X⊕ρ)) (k:X->Option ρ):Option ρ:=o.bind fun s=>Sum.casesOn s k some
theorem gw {α β:Type} {o:Option α} {f:α->Option β} {b:β}:o.ae f=some b↔∃a,o=some a/\f a=some b:=zaL
theorem KZ {α:Type} (x y:α):au true x y=x:=rfl
theorem HI {α:Type} (x y:α):au false x y=y:=rfl
inductive Ty where
 |int (k:IntKind)
 |bool
 |list (ts:List Ty)
instance:Inhabited Ty:=⟨.bool⟩
mutual
def Ty.beq:Ty->Ty->Bool
 |.int k,.int k'=>decide (k=k')
 |.bool,.bool=>true
 |.list ts,.list us=>Ty.xu ts us
 |_,_=>false
def Ty.xu:List Ty->List Ty->Bool
 |[],[]=>true
 |t::ts,u::us=>Ty.beq t u&&Ty.xu ts us
 |_,_=>false
end
mutual
theorem Ty.beq_eq:∀{t u:Ty},Ty.beq t u=true->t=u
 |.int k,.int k',h=>by simp[Ty.beq] at h;rw[h]
 |.bool,.bool,_=>rfl
 |.list ts,.list us,h=>by simp only[Ty.beq] at h;rw[Ty.xv h]
 |.int _,.bool,h=>by simp[Ty.beq] at h
 |.int _,.list _,h=>by simp[Ty.beq] at h
 |.bool,.int _,h=>by simp[Ty.beq] at h
 |.bool,.list _,h=>by simp[Ty.beq] at h
 |.list _,.int _,h=>by simp[Ty.beq] at h
 |.list _,.bool,h=>by simp[Ty.beq] at h
theorem Ty.xv:∀{ts us:List Ty},Ty.xu ts us=true->ts=us
 |[],[],_=>rfl
 |t::ts,u::us,h=>by simp only[Ty.xu,IN] at h;rw[Ty.beq_eq h.1,Ty.xv h.2]
 |[],_::_,h=>by simp[Ty.xu] at h
 |_::_,[],h=>by simp[Ty.xu] at h
end
mutual
def Ty.D:Ty->Type
 |.int _=>Int
 |.bool=>Bool
 |.list ts=>List (Ty.DL ts)
def Ty.DL:List Ty->Type
 |[]=>Unit
 |t::ts=>match ts with
  |[]=>Ty.D t
  |u::us=>Ty.D t×Ty.DL (u::us)
end
mutual
def Ty.er:(t:Ty)->t.D->C
 |.int k,n=>.int k n
 |.bool,b=>.bool b
 |.list ts,xs=>.list ts.length (By (Ty.bu ts) xs)
def Ty.bu:(ts:List Ty)->Ty.DL ts->List C
 |[],_=>[]
 |[t],x=>[Ty.er t x]
 |t::u::ts,x=>Ty.er t x.1::Ty.bu (u::ts) x.2
end
def Ty.cast (t u:Ty) (x:t.D):Option u.D:=if h:Ty.beq t u=true then some (Ty.beq_eq h▸x) else none
theorem Ty.Ug {t u:Ty} {x:t.D} {y:u.D} (h:Ty.cast t u x=some y):t.er x=u.er y:=by unfold Ty.cast at h;split at h;rename_i a;have:=Ty.beq_eq a;subst this;injection h with h;rw[<-h];cases h
def Ty.Hu (ts us:List Ty) (x:Ty.DL ts):Option (Ty.DL us):=if h:Ty.xu ts us=true then some (Ty.xv h▸x) else none
theorem Ty.HZ:∀(ts:List Ty) (x:Ty.DL ts),(Ty.bu ts x).length=ts.length
 |[],_=>rfl
 |[t],_=>rfl
 |t::u::ts,x=>by simp only[Ty.bu,zay,Ty.HZ (u::ts) x.2]
def Ty.gU:Ty->Bool
 |.list _=>false
 |_=>true
theorem Ty.D1 (t:Ty) (x:t.D):(t.er x).gU=t.gU:=by cases t<;>rfl
def Ty.jb (ts:List Ty):Bool:=ts.all Ty.gU
theorem Ty.Nd:∀(ts:List Ty) (x:Ty.DL ts),Am.jb (Ty.bu ts x)=Ty.jb ts
 |[],_=>rfl
 |[t],x=>by simp[Am.jb,Ty.bu,Ty.jb];exact Ty.D1 t x
 |t::u::ts,x=>by have:=Ty.Nd (u::ts) x.2;simp only[Am.jb,Ty.jb] at this;simp only[Am.jb,Ty.jb,Ty.bu,zav,Ty.D1] at this⊢;rw[this]
inductive SC where
 |v (t:Ty) (x:t.D)
 |nil (ts:List Ty)
 |ptr (n k sz off:Nat)
 |eU (ts:List Ty) (x:Ty.DL ts) (off:Nat)
 |sl (n sz lo len:Nat)
 |cG (n k aZ off sz len:Nat)
 |ez (n k aZ off sz i:Nat)
 |dW (ts:List Ty) (x:Ty.DL ts) (off j n sz len:Nat)
 |fn (f:FuncId) (fv:List SC)
 |cC
instance:Inhabited SC:=⟨.cC⟩
mutual
def SC.er:SC->ar
 |.v t x=>.c (t.er x)
 |.nil ts=>.nil ts.length
 |.ptr n k sz off=>.ptr n k sz off
 |.eU ts x off=>.eU (Ty.bu ts x) off
 |.sl n sz lo len=>.sl n sz lo len
 |.cG n k aZ off sz len=>.cG n k aZ off sz len
 |.ez n k aZ off sz i=>.ez n k aZ off sz i
 |.dW ts x off j n sz len=>.dW (Ty.bu ts x) off j n sz len
 |.fn f fv=>.fn f (SC.OX fv)
 |.cC=>.cC
def SC.OX:List SC->List ar
 |[]=>[]
 |c::cs=>SC.er c::SC.OX cs
end
theorem SC.OY (cs:List SC):SC.OX cs=cs.map SC.er:=by induction cs with|nil=>rfl|cons c cs a=>simp[SC.OX,a]
inductive SB where
 |box (cs:List SC)
 |row (gr:Bool) (m:Mode) (ts:List Ty) (xs:List (Ty.DL ts))
def SB.er:SB->bf
 |.box cs=>.box (cs.map SC.er)
 |.row gr m ts xs=>.row gr m ts.length (By (Ty.bu ts) xs)
inductive SV where
 |one (c:SC)
 |agg (cs:List SC)
 |dh (xs:List (Bool×List SC))
instance:Inhabited SV:=⟨.one .cC⟩
def SV.er:SV->aE
 |.one c=>.one c.er
 |.agg cs=>.agg (cs.map SC.er)
 |.dh xs=>.dh (xs.map fun x=>(x.1,x.2.map SC.er))
structure aq where
 env:Nat->SV
 h:Nat->Option SB
 used:Nat->Bool
def vW (env:Nat->SV):Nat->aE:=fun s=>(env s).er
def e8 (h:Nat->Option SB):Nat->Option bf:=fun n=>(h n).map SB.er
def aq.er (σ:aq):St:={env:=vW σ.env,h:=e8 σ.h,used:=σ.used}
theorem CK (env:Nat->SV) (n:Nat) (v:SV):vW (bj env n v)=bj (vW env) n v.er:=by funext s;simp only[vW,nt];split<;>rfl
theorem OS (h:Nat->Option SB) (n:Nat) (v:Option SB):e8 (bj h n v)=bj (e8 h) n (v.map SB.er):=by funext s;simp only[e8,nt];split<;>rfl
def aq.put (σ:aq) (d:Option Nat) (v:SV):aq:=
 match d with
 |some n=>{σ with env:=bj σ.env n v}
 |none=>σ
def aq.ins (σ:aq) (n:Nat) (b:SB):Option aq:=
 match σ.used n with
 |true=>none
 |false=>some {σ with h:=bj σ.h n (some b),used:=bj σ.used n true}
def aq.gu (σ:aq) (n:Nat) (b:SB):aq:={σ with h:=bj σ.h n (some b)}
def aq.del (σ:aq) (n:Nat):aq:={σ with h:=bj σ.h n none}
theorem aq.gZ (σ:aq) (d:Option Nat) (v:SV):(σ.put d v).er=σ.er.put d v.er:=by cases d with|none=>rfl|some n=>simp only[aq.put,aq.er,St.put,CK]
theorem aq.AK {σ σ1:aq} {n:Nat} {b:SB} (h:σ.ins n b=some σ1):σ.er.ins n b.er=some σ1.er:=by unfold aq.ins at h;split at h;cases h;rename_i a;injection h with h;subst h;simp[St.ins,aq.er,a,OS]
theorem aq.vY (σ:aq) (n:Nat) (b:SB):(σ.gu n b).er=σ.er.gu n b.er:=by simp[aq.gu,aq.er,St.gu,OS]
theorem aq.OU (σ:aq) (n:Nat):(σ.del n).er=σ.er.del n:=by simp[aq.del,aq.er,St.del,OS]
def Ty.cells:(ts:List Ty)->Ty.DL ts->List SC
 |[],_=>[]
 |[t],x=>[.v t x]
 |t::u::ts,x=>.v t x.1::Ty.cells (u::ts) x.2
theorem Ty.pH:∀(ts:List Ty) (x:Ty.DL ts),(Ty.cells ts x).map SC.er=(Ty.bu ts x).map .c
 |[],_=>rfl
 |[t],x=>rfl
 |t::u::ts,x=>by simp only[Ty.cells,Ty.bu,AN,Ty.pH (u::ts) x.2];rfl
def Xy (n k rs off:Nat) (t:Ty) (x:t.D):SC:=
 match t,x with
 |.list ts,xs=>.cG n k rs off ts.length (ab (α:=Ty.DL ts) xs)
 |.int k',x=>.v (.int k') x
 |.bool,x=>.v .bool x
def Ty.live (n k rs:Nat):Nat->(ts:List Ty)->Ty.DL ts->List SC
 |_,[],_=>[]
 |off,[t],x=>[Xy n k rs off t x]
 |off,t::u::ts,x=>Xy n k rs off t x.1::Ty.live n k rs (off+1) (u::ts) x.2
theorem afS (n k a off:Nat) (t:Ty) (x:t.D) (l:List C):ld n k a off (t.er x::l)=(Xy n k a off t x).er::ld n k a (off+1) l:=by cases t with|int k'=>rfl|bool=>rfl|list ts=>exact congrArg (fun m=>ar.cG n k a off ts.length m::ld n k a (off+1) l) (BY (Ty.bu ts))
theorem Ty.afX (n k a:Nat):∀(off:Nat) (ts:List Ty) (x:Ty.DL ts),(Ty.live n k a off ts x).map SC.er=ld n k a off (Ty.bu ts x)
 |_,[],_=>rfl
 |off,[t],x=>(afS n k a off t x []).symm
 |off,t::u::ts,x=>by simp only[Ty.live,Ty.bu,afS,AN,Ty.afX n k a (off+1) (u::ts) x.2]
theorem afT (n k a:Nat):∀(j off:Nat) (l:List C),(ld n k a off l).drop j=ld n k a (off+j) (l.drop j)
 |0,off,l=>by simp
 |j+1,off,[]=>by simp[ld]
 |j+1,off,c::l=>by have b:=afT n k a j (off+1) l;rw[show off+1+j=off+(j+1) by omega] at b;cases c<;>simpa[ld] using b
theorem afW (n k a:Nat):∀(j off:Nat) (l:List C),(ld n k a off l).take j=ld n k a off (l.take j)
 |0,off,l=>by simp[ld]
 |j+1,off,[]=>by simp[ld]
 |j+1,off,c::l=>by cases c<;>simp[ld,afW n k a j (off+1) l]
theorem afU (n k a:Nat):∀(off:Nat) (l:List C),(ld n k a off l).length=l.length
 |off,[]=>rfl
 |off,c::l=>by cases c<;>simp[ld,afU n k a (off+1) l]
theorem aAW (n k a off sz:Nat) (l:List C):sub (ld n k a 0 l) off sz=(sub l off sz).map (ld n k a off):=by unfold sub;rw[afU];split;simp[afT,afW];rfl
theorem yo {α β:Type} (f:α->β) (l:List α) (off sz:Nat):sub (l.map f) off sz=(sub l off sz).map (By f):=by unfold sub;rw[BY];split;simp[zaM,zaD];rfl
def EP (t:Ty):(ts:List Ty)->t.D->Ty.DL ts->Ty.DL (t::ts)
 |[],x,_=>x
 |_::_,x,y=>(x,y)
theorem Up (t:Ty) (ts:List Ty) (x:t.D) (y:Ty.DL ts):Ty.bu (t::ts) (EP t ts x y)=t.er x::Ty.bu ts y:=by cases ts<;>rfl
def wI:(ts:List Ty)->List ((t:Ty)×t.D)->Option (Ty.DL ts)
 |[],[]=>some ()
 |t::ts,c::cs=>match Ty.cast c.1 t c.2,wI ts cs with
  |some y,some z=>some (EP t ts y z)
  |_,_=>none
 |_,_=>none
def eM (l:List ((t:Ty)×t.D)):List C:=l.map fun x=>x.1.er x.2
theorem DD:∀{ts:List Ty} {cs:List ((t:Ty)×t.D)} {y:Ty.DL ts},wI ts cs=some y->Ty.bu ts y=eM cs
 |[],[],y,h=>rfl
 |t::ts,c::cs,y,h=>by simp only[wI] at h;split at h;rename_i y1 z b a;injection h with h;subst h;have:=DD a;simp only[eM] at this;simp only[Up,eM,AN,Ty.Ug b,this];cases h
 |[],_::_,y,h=>by simp[wI] at h
 |t::ts,[],y,h=>by simp[wI] at h
def Ty.jT:(ts:List Ty)->Ty.DL ts->List ((t:Ty)×t.D)
 |[],_=>[]
 |[t],x=>[⟨t,x⟩]
 |t::u::ts,x=>⟨t,x.1⟩::Ty.jT (u::ts) x.2
theorem Ty.tW:∀(ts:List Ty) (x:Ty.DL ts),eM (Ty.jT ts x)=Ty.bu ts x
 |[],_=>rfl
 |[t],x=>rfl
 |t::u::ts,x=>by have:=Ty.tW (u::ts) x.2;simp only[eM] at this;simp only[Ty.jT,Ty.bu,eM,AN,this]
def iC {ρ:Type} (b:Bool) (x:Option ρ):Option ρ:=match b with|true=>x|false=>none
def eu {ρ:Type} (a b:Nat) (x:Option ρ):Option ρ:=match IS a b with|true=>x|false=>none
theorem d9 {ρ:Type} {b:Bool} {x:Option ρ} {r:ρ} (h:iC b x=some r):b=true/\x=some r:=by cases b with|true=>exact⟨rfl,h⟩|false=>cases h
theorem bW {ρ:Type} {a b:Nat} {x:Option ρ} {r:ρ} (h:eu a b x=some r):a=b/\x=some r:=by unfold eu at h;split at h;rename_i e;exact⟨AI e,h⟩;cases h
abbrev TD:=(t:Ty)×t.D
inductive eK where
 |t (n:Nat)
 |k (v:SV)
def eK.er:eK->MO
 |.t n=>.t n
 |.k v=>.k v.er
def aq.ev (σ:aq):eK->SV
 |.t n=>σ.env n
 |.k v=>v
theorem aq.h9 (σ:aq) (x:eK):σ.er.ev x.er=(σ.ev x).er:=by cases x<;>rfl
def SV.cells?:SV->Option (Bool×List SC)
 |.one .cC=>none
 |.one c=>some (false,[c])
 |.agg cs=>some (true,cs)
 |.dh _=>none
theorem SV.pH {v:SV} {b:Bool} {cs:List SC} (h:v.cells?=some (b,cs)):v.er.cells?=some (b,cs.map SC.er):=by cases v with|one c=>cases c<;>simp[SV.cells?] at h<;>(obtain⟨rfl,rfl⟩:=h;rfl)|agg cs'=>simp[SV.cells?] at h;obtain⟨rfl,rfl⟩:=h;rfl|dh xs=>simp[SV.cells?] at h
def NC:Bool->List SC->SV
 |true,cs=>.agg cs
 |false,[c]=>.one c
 |false,_=>.one .cC
theorem Sa (b:Bool) (cs:List SC):(NC b cs).er=vD b (cs.map SC.er):=by
 cases b with
 |true=>rfl
 |false=>match cs with
  |[]=>rfl
  |[c]=>rfl
  |_::_::_=>rfl
section
variable {ρ:Type}
def Oh (op:BinOp) (k:IntKind) (a b:Int) (c:(t:Ty)->t.D->Option ρ):Option ρ:=
 match op with
 |.add=>c (.int k) (bo k a b)
 |.sub=>c (.int k) (iw k a b)
 |.mul=>c (.int k) (f6 k a b)
 |.quo=>(JA k a b).ae fun x=>c (.int k) x
 |.rem=>(hZ a b).ae fun x=>c (.int k) x
 |.and=>c (.int k) (yM k a b)
 |.or=>c (.int k) (DQ k a b)
 |.xor=>c (.int k) (aBx k a b)
 |.eql=>c .bool (cu a b)
 |.neq=>c .bool (fy a b)
 |.lss=>c .bool (bO a b)
 |.leq=>c .bool (fR a b)
 |.gtr=>c .bool (bO b a)
 |.geq=>c .bool (fR b a)
 |_=>none
theorem am6 {op:BinOp} {k:IntKind} {a b:Int} {c:(t:Ty)->t.D->Option ρ} {r:ρ} (h:Oh op k a b c=some r):
    ∃(t:Ty) (x:t.D),Hr op k a b=some (t.er x)/\c t x=some r:=by
  cases op<;>first
    |exact⟨.int k,_,rfl,h⟩
    |exact⟨.bool,_,rfl,h⟩
    |(simp only[Oh,JA,hZ,gw] at h
      obtain⟨x,d,f⟩:=h;split at d
      · cases d
      · rename_i e;injection d with d;subst d;exact⟨.int k,_,by simp[Hr,e,Ty.er],f⟩)
    |(simp[Oh] at h)
def Rt (op:BinOp) (k:IntKind) (a b:Int) (c:(t:Ty)->t.D->Option ρ):Option ρ:=
 match op with
 |.shl=>(D8 k a b).ae fun x=>c (.int k) x
 |.shr=>(ak3 k a b).ae fun x=>c (.int k) x
 |_=>none
theorem aAn {op:BinOp} {k:IntKind} {a b:Int} {c:(t:Ty)->t.D->Option ρ} {r:ρ} (h:Rt op k a b c=some r):
    ∃(t:Ty) (x:t.D),Nh op k a b=some (t.er x)/\c t x=some r:=by
  cases op<;>first
    |(simp only[Rt,D8,ak3,gw] at h
      obtain⟨x,d,f⟩:=h;split at d
      · cases d
      · rename_i e;injection d with d;subst d;exact⟨.int k,_,by simp[Nh,e,Ty.er],f⟩)
    |(simp[Rt] at h)
def T6 (op:BinOp) (x y:SV) (c:(t:Ty)->t.D->Option ρ):Option ρ:=
 match x,y with
 |.one (.v (.int k) a),.one (.v (.int k') b)=>match BinOp.FA op with
  |true=>Rt op k a b c
  |false=>match decide (k=k') with
   |true=>Oh op k a b c
   |false=>none
 |_,_=>none
theorem am7 {op:BinOp} {x y:SV} {c:(t:Ty)->t.D->Option ρ} {r:ρ} (h:T6 op x y c=some r): ∃(t:Ty) (z:t.D),CA op x.er y.er=some (t.er z)/\c t z=some r:=by unfold T6 at h;split at h;rename_i k a k' b;split at h;rename_i e;obtain⟨t,z,g,f⟩:=aAn h;exact⟨t,z,by simp[SV.er,SC.er,Ty.er,CA,e];exact g,f⟩;rename_i e;split at h;rename_i d;have d:=of_decide_eq_true d;obtain⟨t,z,g,f⟩:=am6 h;exact⟨t,z,by simp[SV.er,SC.er,Ty.er,CA,e,d];subst d;exact g,f⟩;cases h;cases h
def T5 (op:BinOp) (x y:SV) (c:(t:Ty)->t.D->Option ρ):Option ρ:=
 match x,y with
 |.one (.v .bool a),.one (.v .bool b)=>match op with
  |.eql=>c .bool (eqB a b)
  |.neq=>c .bool (FT a b)
  |_=>none
 |_,_=>none
theorem am5 {op:BinOp} {x y:SV} {c:(t:Ty)->t.D->Option ρ} {r:ρ} (h:T5 op x y c=some r): ∃(t:Ty) (z:t.D),Hq op x.er y.er=some (t.er z)/\c t z=some r:=by unfold T5 at h;split at h;rename_i a b;split at h;exact⟨.bool,_,rfl,h⟩;exact⟨.bool,_,rfl,h⟩;cases h;cases h
def ZP (op:UnOp) (x:SV) (c:(t:Ty)->t.D->Option ρ):Option ρ:=
 match x with
 |.one (.v .bool a)=>match op with
  |.not=>c .bool (df a)
  |_=>none
 |.one (.v (.int k) a)=>match op with
  |.neg=>c (.int k) (axq k a)
  |_=>none
 |_=>none
theorem aBa {op:UnOp} {x:SV} {c:(t:Ty)->t.D->Option ρ} {r:ρ} (h:ZP op x c=some r): ∃(t:Ty) (z:t.D),Ke op x.er=some (t.er z)/\c t z=some r:=by unfold ZP at h;split at h;rename_i a;split at h;exact⟨.bool,_,rfl,h⟩;cases h;rename_i k a;split at h;exact⟨.int k,_,rfl,h⟩;cases h;cases h
def SV.fZ:SV->Option Int
 |.one (.v (.int k) n)=>some n
 |_=>none
theorem SV.I3 {v:SV} {n:Int} (h:v.fZ=some n):v.er.fZ=some n:=by unfold SV.fZ at h;split at h;injection h with h;subst h;rfl;cases h
def RD (h:Nat->Option SB) (p:SC) (sz:Nat) (c:List SC->Option ρ):Option ρ:=
 match p with
 |.ptr n k aZ off=>match h n with
  |some (.box cs)=>eu k 0 (match sub cs off sz with|some l=>c l|none=>none)
  |some (.row _ m ts xs)=>eu aZ ts.length ((bQ xs k).ae fun e=>
   match sub (match m with|.live=>Ty.live n k ts.length 0 ts e|_=>Ty.cells ts e) off sz with
   |some l=>c l
   |none=>none)
  |none=>none
 |.eU ts x off=>match sub (Ty.cells ts x) off sz with|some l=>c l|none=>none
 |.dW ts x off j n s len=>match IS off j&&IS sz 1 with
  |true=>c [.sl n s 0 len]
  |false=>iC (zaf (off+sz) j) (match sub (Ty.cells ts x) off sz with|some l=>c l|none=>none)
 |.ez n kk aZ off s i=>match h n with
  |some (.row _ .live ts xs)=>eu ts.length aZ ((bQ xs kk).ae fun e=>match(Ty.jT ts e)[off]? with
   |some ⟨.list us,ys⟩=>eu us.length s (eu sz s (iC (Ty.jb us) ((bQ (α:=Ty.DL us) ys i).ae fun y=>c (Ty.cells us y))))
   |_=>none)
  |_=>none
 |_=>none
theorem aqE {ts:List Ty} {ys:List (Ty.DL ts)} {i:Nat} {y:Ty.DL ts} (h:bQ ys i=some y):(By (Ty.bu ts) ys)[i]? =some (Ty.bu ts y):=by have a:ys[i]? =some y:=h;rw[AT,a];rfl
theorem axz {us:List Ty} {L:List (List C)} {i:Nat} {y:Ty.DL us} (h:L[i]? =some (Ty.bu us y)) (a:Ty.jb us=true): (match L[i]? with|some e=>if Am.jb e=true then some (e.map .c) else none|none=>none)=some ((Ty.cells us y).map SC.er):=by rw[h];simp only[Ty.Nd,a,if_true,Ty.pH]
theorem anU:∀{ts:List Ty} {e:Ty.DL ts} {off:Nat} {x:TD},(Ty.jT ts e)[off]? =some x->(Ty.bu ts e)[off]? =some (x.1.er x.2):=by intro ts e off x h;rw[<-Ty.tW,eM,AT,h];rfl
theorem ald {h:Nat->Option SB} {p:SC} {sz:Nat} {c:List SC->Option ρ} {r:ρ} (hx:RD h p sz c=some r): ∃l,loadAt (e8 h) p.er sz=some (l.map SC.er)/\c l=some r:=by unfold RD at hx;split at hx;rename_i n k z off;split at hx;rename_i cs hn;have b:=(bW hx).1;replace hx:=(bW hx).2;subst b;split at hx;rename_i l e;refine⟨l,?_,hx⟩;simp[SC.er,loadAt,e8,hn,SB.er,yo,e];cases hx;rename_i v m ts xs hn;have b:=(bW hx).1;replace hx:=(bW hx).2;subst b;rw[gw] at hx;obtain⟨e,d,hx⟩:=hx;replace d:xs[k]? =some e:=d;split at hx;rename_i l hl;refine⟨l,?_,hx⟩;have q:(By (Ty.bu ts) xs)[k]? =some (Ty.bu ts e):=(by rw[AT,d];rfl);simp only[SC.er,loadAt,e8,hn,wt,SB.er,if_true,q];(cases m with|live=>simp only at hl;have:=congrArg (zaP (By SC.er)) hl;rw[<-yo,Ty.afX,aAW] at this;(cases a:sub (Ty.bu ts e) off sz with|none=>rw[a] at this;cases this|some g=>rw[a] at this;simpa using this)|bq=>simp only at hl;have:=congrArg (zaP (By SC.er)) hl;rw[<-yo,Ty.pH,yo] at this;(cases a:sub (Ty.bu ts e) off sz with|none=>rw[a] at this;cases this|some g=>rw[a] at this;simpa using this)|bn=>simp only at hl;have:=congrArg (zaP (By SC.er)) hl;rw[<-yo,Ty.pH,yo] at this;cases a:sub (Ty.bu ts e) off sz with|none=>rw[a] at this;cases this|some g=>rw[a] at this;simpa using this);cases hx;cases hx;rename_i ts x off;split at hx;rename_i l hl;refine⟨l,?_,hx⟩;have:=congrArg (zaP (By SC.er)) hl;rw[<-yo,Ty.pH,yo] at this;simpa[SC.er,loadAt] using this;cases hx;rename_i ts x off j n s len;split at hx;rename_i f;simp only[IN] at f;have u:=AI f.1;have B:=AI f.2;subst u B;exact⟨_,by simp[SC.er,loadAt],hx⟩;rename_i f;have w:¬(off=j/\sz=1):=(by rintro⟨rfl,rfl⟩;simp at f);have A:=(d9 hx).1;replace hx:=(d9 hx).2;have t:=zat A;split at hx;rename_i l hl;refine⟨l,?_,hx⟩;have:=congrArg (zaP (By SC.er)) hl;rw[<-yo,Ty.pH,yo] at this;simp only[SC.er,loadAt];rw[ak w,aj t];(cases a:sub (Ty.bu ts x) off sz with|none=>rw[a] at this;cases this|some g=>rw[a] at this;simpa using this);cases hx;rename_i n C z off s i;split at hx;rename_i v ts xs hn;have b:=(bW hx).1;replace hx:=(bW hx).2;subst b;rw[gw] at hx;obtain⟨e,d,hx⟩:=hx;replace d:xs[C]? =some e:=d;split at hx;rename_i us ys hd;have b:=(bW hx).1;replace hx:=(bW hx).2;subst b;have b:=(bW hx).1;replace hx:=(bW hx).2;subst b;have a:=(d9 hx).1;replace hx:=(d9 hx).2;rw[gw] at hx;obtain⟨y,hy,hx⟩:=hx;have o:(By (Ty.bu us) ys)[i]? =some (Ty.bu us y):=aqE (ts:=us) (ys:=ys) hy;refine⟨Ty.cells us y,?_,hx⟩;have q:=anU hd;simp only[SC.er,loadAt,e8,hn,wt,SB.er,if_true,AT,d,zak,q,Ty.er,and_self];exact axz o a;cases hx;cases hx;cases hx
theorem OH:∀{ts:List Ty} {e:Ty.DL ts} {off:Nat} {x:TD},(Ty.jT ts e)[off]? =some x->(Ty.bu ts e)[off]? =some (x.1.er x.2):=by intro ts e off x h;rw[<-Ty.tW,eM,AT,h];rfl
def Ef (h:Nat->Option SB) (c:SC) (k:(t:Ty)->t.D->Option ρ):Option ρ:=
 match c with
 |.v t x=>k t x
 |.nil ts=>match ts with
  |[]=>none
  |t::us=>k (.list (t::us)) ([]:List (Ty.DL (t::us)))
 |.sl n sz lo len=>match h n with
  |some (.row _ _ ts xs)=>eu ts.length sz ((bc xs lo len).ae fun ys=>k (.list ts) ys)
  |_=>none
 |.cG n kk aZ off sz len=>match h n with
  |some (.row _ .live ts xs)=>eu ts.length aZ ((bQ xs kk).ae fun e=>match(Ty.jT ts e)[off]? with
   |some ⟨t,x⟩=>k t x
   |none=>none)
  |_=>none
 |_=>none
theorem aml {ts:List Ty} {xs ys:List (Ty.DL ts)} {lo len:Nat} (h:bc xs lo len=some ys):lo+len<=xs.length/\((By (Ty.bu ts) xs).drop lo).take len=By (Ty.bu ts) ys:=by unfold bc at h;split at h;rename_i hl;injection h with h;subst h;exact⟨hl,by simp[zaM,zaD]⟩;cases h
theorem J9 {h:Nat->Option SB} {c:SC} {k:(t:Ty)->t.D->Option ρ} {r:ρ} (hx:Ef h c k=some r): ∃(t:Ty) (x:t.D),eA (e8 h) c.er=some (t.er x)/\k t x=some r:=by unfold Ef at hx;split at hx;exact⟨_,_,rfl,hx⟩;split at hx;cases hx;rename_i t us;exact⟨.list (t::us),[],by simp[SC.er,eA,Ty.er],hx⟩;rename_i n sz lo len;split at hx;rename_i g m ts xs hn;have a:=(bW hx).1;replace hx:=(bW hx).2;subst a;rw[gw] at hx;obtain⟨ys,f,hx⟩:=hx;obtain⟨d,i⟩:=aml f;refine⟨.list ts,ys,?_,hx⟩;simp only[SC.er,eA,e8,hn,wt,SB.er,BY,Ty.er,i,d,and_self,if_true];cases hx;rename_i n j aZ off sz len;split at hx;rename_i g ts xs hn;have a:=(bW hx).1;replace hx:=(bW hx).2;subst a;rw[gw] at hx;obtain⟨e,b,hx⟩:=hx;replace b:xs[j]? =some e:=b;split at hx;rename_i t x hd;refine⟨t,x,?_,hx⟩;have:=OH hd;simp only[SC.er,eA,e8,hn,wt,SB.er,if_true,AT,b,zak,this];cases hx;cases hx;cases hx
def Gq (h:Nat->Option SB):List SC->(List TD->Option ρ)->Option ρ
 |[],k=>k []
 |c::cs,k=>Ef h c fun t x=>Gq h cs fun l=>k (⟨t,x⟩::l)
theorem Ny {h:Nat->Option SB}:∀{cs:List SC} {k:List TD->Option ρ} {r:ρ},Gq h cs k=some r-> ∃l,lm (e8 h) (cs.map SC.er)=some (eM l)/\k l=some r
 |[],k,r,hx=>⟨[],rfl,hx⟩
 |c::cs,k,r,hx=>by simp only[Gq] at hx;obtain⟨t,x,d,a⟩:=J9 hx;obtain⟨l,b,e⟩:=Ny a;exact⟨⟨t,x⟩::l,by simp[lm,d,b,eM],e⟩
abbrev dB:=K×List TD
def dB.er (d:dB):Dv:=(d.1,eM d.2)
def ZA (h:Nat->Option SB) (v:SV) (k:dB->Option ρ):Option ρ:=
 match v with
 |.one (.ptr n kk sz off)=>match h n with
  |some (.box cs)=>eu kk 0 (eu off 0 (Gq h cs fun l=>k (.ptr,l)))
  |_=>none
 |.one (.eU ts x off)=>eu off 0 (k (.ptr,Ty.jT ts x))
 |.one c=>Ef h c fun t x=>k (.one,[⟨t,x⟩])
 |.agg cs=>Gq h cs fun l=>k (.agg,l)
 |.dh _=>none
theorem aAZ {h:Nat->Option SB} {v:SV} {k:dB->Option ρ} {r:ρ} (hx:ZA h v k=some r): ∃d:dB,lH (e8 h) v.er=some d.er/\k d=some r:=by unfold ZA at hx;split at hx;rename_i n o sz off;split at hx;rename_i cs hn;have i:=(bW hx).1;replace hx:=(bW hx).2;subst i;have i:=(bW hx).1;replace hx:=(bW hx).2;subst i;obtain⟨l,g,j⟩:=Ny hx;exact⟨(.ptr,l),by simp[SV.er,SC.er,lH,e8,hn,SB.er];exact⟨_,g,rfl⟩,j⟩;cases hx;rename_i ts x off;have i:=(bW hx).1;replace hx:=(bW hx).2;subst i;exact⟨(.ptr,Ty.jT ts x),by simp[SV.er,SC.er,lH,dB.er,Ty.tW],hx⟩;rename_i c p hd;obtain⟨t,x,g,j⟩:=J9 hx;refine⟨(.one,[⟨t,x⟩]),?_,j⟩;(cases c with|ptr n o sz off=>exact absurd rfl (p n o sz off)|eU ts x off=>exact absurd rfl (hd ts x off)|v t' x'=>simp only[SV.er,SC.er,lH] at g⊢;rw[g];rfl|nil ts=>simp only[SV.er,SC.er,lH] at g⊢;rw[g];rfl|sl n sz lo len=>simp only[SV.er,SC.er,lH] at g⊢;rw[g];rfl|cG n a b m d e=>simp only[SV.er,SC.er,lH] at g⊢;rw[g];rfl|ez n a b m d e=>simp only[SV.er,SC.er,lH] at g⊢;rw[g];rfl|dW ts x a b n m d=>simp only[SV.er,SC.er,lH] at g⊢;rw[g];rfl|fn f fv=>simp only[SV.er,SC.er,lH] at g⊢;rw[g];rfl|cC=>simp only[SV.er,SC.er,lH] at g⊢;rw[g];rfl);obtain⟨l,g,j⟩:=Ny hx;exact⟨(.agg,l),by simp[SV.er,lH,g,dB.er],j⟩;cases hx
def Nw (h:Nat->Option SB):List SV->(List dB->Option ρ)->Option ρ
 |[],k=>k []
 |v::vs,k=>ZA h v fun d=>Nw h vs fun l=>k (d::l)
theorem ZB {h:Nat->Option SB}:∀{vs:List SV} {k:List dB->Option ρ} {r:ρ},Nw h vs k=some r-> ∃l,qa (e8 h) (vs.map SV.er)=some (l.map dB.er)/\k l=some r
 |[],k,r,hx=>⟨[],rfl,hx⟩
 |v::vs,k,r,hx=>by simp only[Nw] at hx;obtain⟨d,c,a⟩:=aAZ hx;obtain⟨l,b,e⟩:=ZB a;exact⟨d::l,by simp[qa,c,b],e⟩
def Mode.own:Mode->Bool
 |.bn=>false
 |_=>true
theorem Mode.axT (m:Mode):decide (m≠ .bn)=m.own:=by cases m<;>rfl
def Zs (σ:aq) (c:SC) (k:(t:Ty)->t.D->Bool->aq->Option ρ):Option ρ:=
 match c with
 |.v t x=>k t x t.gU σ
 |.nil ts=>match ts with
  |[]=>none
  |t::us=>k (.list (t::us)) ([]:List (Ty.DL (t::us))) true σ
 |.sl n sz lo len=>match σ.h n with
  |some (.row _ m ts xs)=>eu ts.length sz (eu lo 0 ((ed xs len).ae fun ys=>k (.list ts) ys m.own (σ.del n)))
  |_=>none
 |_=>none
theorem alR {ts:List Ty} {xs ys:List (Ty.DL ts)} {len:Nat} (h:ed xs len=some ys):len<=xs.length/\(By (Ty.bu ts) xs).take len=By (Ty.bu ts) ys:=by unfold ed at h;split at h;rename_i hl;injection h with h;subst h;exact⟨hl,by simp[zaD]⟩;cases h
theorem aAQ {σ:aq} {c:SC} {k:(t:Ty)->t.D->Bool->aq->Option ρ} {r:ρ} (hx:Zs σ c k=some r): ∃(t:Ty) (x:t.D) (o:Bool) (σ1:aq),σ.er.jC c.er=some (t.er x,o,σ1.er)/\k t x o σ1=some r:=by unfold Zs at hx;split at hx;rename_i t x;exact⟨_,_,_,_,by simp only[SC.er,St.jC,Ty.D1],hx⟩;split at hx;cases hx;rename_i t us;exact⟨.list (t::us),[],true,σ,by simp[SC.er,St.jC,Ty.er],hx⟩;rename_i n sz lo len;split at hx;rename_i e m ts xs hn;have a:=(bW hx).1;replace hx:=(bW hx).2;subst a;have a:=(bW hx).1;replace hx:=(bW hx).2;subst a;rw[gw] at hx;obtain⟨ys,d,hx⟩:=hx;obtain⟨b,f⟩:=alR d;refine⟨.list ts,ys,m.own,σ.del n,?_,hx⟩;have g:σ.er.h n=some (.row e m ts.length (By (Ty.bu ts) xs)):=(by simp[aq.er,e8,hn,SB.er]);simp only[SC.er,St.jC,g,BY,b,f,and_self,if_true,Ty.er,aq.OU,Mode.axT];cases hx;cases hx
def J7 (σ:aq):List SC->(List TD->Bool->aq->Option ρ)->Option ρ
 |[],k=>k [] true σ
 |c::cs,k=>Zs σ c fun t x o σ1=>J7 σ1 cs fun l o' σ2=>k (⟨t,x⟩::l) (o&&o') σ2
theorem RU:∀{cs:List SC} {σ:aq} {k:List TD->Bool->aq->Option ρ} {r:ρ},J7 σ cs k=some r-> ∃(l:List TD) (o:Bool) (σ1:aq),σ.er.jp (cs.map SC.er)=some (eM l,o,σ1.er)/\k l o σ1=some r
 |[],σ,k,r,hx=>⟨[],true,σ,rfl,hx⟩
 |c::cs,σ,k,r,hx=>by simp only[J7] at hx;obtain⟨t,x,o,σ1,e,a⟩:=aAQ hx;obtain⟨l,d,σ2,b,f⟩:=RU a;exact⟨⟨t,x⟩::l,o&&d,σ2,by simp[St.jp,e,b,eM],f⟩
def RT (ts:List Ty) (σ:aq):List SV->(List (Ty.DL ts)->Bool->aq->Option ρ)->Option ρ
 |[],k=>k [] true σ
 |v::vs,k=>match v.cells? with
  |some (_,cs)=>J7 σ cs fun l o σ1=>match wI ts l with
   |some e=>RT ts σ1 vs fun es o' σ2=>k (e::es) (o&&o') σ2
   |none=>none
  |none=>none
theorem alU:∀{cs:List ar} {σ σ1:St} {l:List C} {o:Bool},σ.jp cs=some (l,o,σ1)->l.length=cs.length
 |[],σ,σ1,l,o,h=>by simp[St.jp] at h;rw[h.1];rfl
 |c::cs,σ,σ1,l,o,h=>by simp only[St.jp] at h;split at h;split at h;rename_i a;injection h with h;injection h with h h2;subst h;simp[alU a];cases h;cases h
theorem alE {ts:List Ty}:∀{vs:List SV} {σ:aq} {k:List (Ty.DL ts)->Bool->aq->Option ρ} {r:ρ},RT ts σ vs k=some r-> ∃(c:List (Ty.DL ts)) (o:Bool) (σ1:aq),σ.er.oJ ts.length (vs.map SV.er)=some (By (Ty.bu ts) c,o,σ1.er)/\k c o σ1=some r
 |[],σ,k,r,hx=>⟨[],true,σ,rfl,hx⟩
 |v::vs,σ,k,r,hx=>by simp only[RT] at hx;split at hx;rename_i b cs h;obtain⟨l,o,σ1,f,d⟩:=RU hx;split at d;rename_i e g;obtain⟨c,m,σ2,j,i⟩:=alE d;have hl:(cs.map SC.er).length=ts.length:=(by have a:=alU f;rw[<-DD g,Ty.HZ] at a;exact a.symm);refine⟨e::c,o&&m,σ2,?_,i⟩;simp only[AN,St.oJ,SV.pH h,hl,if_true,f,j,DD g];cases d;cases hx
end
section
def bt:List (List Ty)->Type
 |[]=>Unit
 |ts::l=>match l with
  |[]=>Ty.DL ts
  |us::l'=>Ty.DL ts×bt (us::l')
abbrev aR:=List (K×List Ty)
abbrev aR.br (s:aR):List (List Ty):=s.map (·.2)
def eZ:(as:aR)->bt as.br->List Dv
 |[],_=>[]
 |[a],x=>[(a.1,Ty.bu a.2 x)]
 |a::b::as,x=>(a.1,Ty.bu a.2 x.1)::eZ (b::as) x.2
def mF:(as:aR)->bt as.br->List dB
 |[],_=>[]
 |[a],x=>[(a.1,Ty.jT a.2 x)]
 |a::b::as,x=>(a.1,Ty.jT a.2 x.1)::mF (b::as) x.2
theorem AE:∀(as:aR) (x:bt as.br),(mF as x).map dB.er=eZ as x
 |[],_=>rfl
 |[a],x=>congrArg (fun l=>[((a.1,l):Dv)]) (Ty.tW a.2 x)
 |a::b::as,x=>by have:=AE (b::as) x.2;simp only[mF,eZ,AN,dB.er,Ty.tW,this]
def K.beq:K->K->Bool
 |.one,.one=>true
 |.agg,.agg=>true
 |.ptr,.ptr=>true
 |_,_=>false
theorem K.beq_eq {a b:K} (h:K.beq a b=true):a=b:=by cases a<;>cases b<;>first|rfl|cases h
def OB (ts:List Ty):(l:List (List Ty))->Ty.DL ts->bt l->bt (ts::l)
 |[],x,_=>x
 |_::_,x,y=>(x,y)
theorem abR (a:K×List Ty):∀(as:aR) (x:Ty.DL a.2) (y:bt (aR.br as)),eZ (a::as) (OB a.2 (aR.br as) x y)=(a.1,Ty.bu a.2 x)::eZ as y
 |[],_,_=>rfl
 |_::_,_,_=>rfl
def tu:(as:aR)->List dB->Option (bt as.br)
 |[],[]=>some ()
 |a::as,d::ds=>iC (K.beq a.1 d.1) (match wI a.2 d.2,tu as ds with
  |some x,some y=>some (OB a.2 (aR.br as) x y)
  |_,_=>none)
 |_,_=>none
theorem yg:∀{as:aR} {ds:List dB} {x:bt as.br},tu as ds=some x->ds.map dB.er=eZ as x
 |[],[],x,h=>rfl
 |a::as,d::ds,x,h=>by simp only[tu] at h;have e:=(d9 h).1;replace b:=(d9 h).2;split at b;rename_i y z c f;injection b with b;subst b;rw[abR,AN,yg f,dB.er,<-K.beq_eq e,<-DD c];cases b
 |[],_::_,x,h=>by simp[tu] at h
 |a::as,[],x,h=>by simp[tu] at h
mutual
theorem Ty.abV:∀(t:Ty) (x y:t.D),t.er x=t.er y->x=y
 |.int k,x,y,h=>by simp only[Ty.er] at h;injection h
 |.bool,x,y,h=>by simp only[Ty.er] at h;injection h
 |.list ts,x,y,h=>by simp only[Ty.er] at h;injection h with _ h;exact Ty.abU ts x y h
theorem Ty.abU:∀(ts:List Ty) (xs ys:List (Ty.DL ts)),By (Ty.bu ts) xs=By (Ty.bu ts) ys->xs=ys
 |ts,[],[],h=>rfl
 |ts,x::xs,y::ys,h=>by simp only[AN,zaG] at h;rw[Ty.OT ts x y h.1,Ty.abU ts xs ys h.2]
 |ts,[],_::_,h=>by simp at h
 |ts,_::_,[],h=>by simp at h
theorem Ty.OT:∀(ts:List Ty) (x y:Ty.DL ts),Ty.bu ts x=Ty.bu ts y->x=y
 |[],x,y,h=>rfl
 |[t],x,y,h=>by simp only[Ty.bu,zaG,and_true] at h;exact Ty.abV t x y h
 |t::u::ts,x,y,h=>by simp only[Ty.bu,zaG] at h;exact za4 (Ty.abV t x.1 y.1 h.1) (Ty.OT (u::ts) x.2 y.2 h.2)
end
theorem abS:∀(as:aR) (x y:bt as.br),eZ as x=eZ as y->x=y
 |[],x,y,h=>rfl
 |[a],x,y,h=>by simp[eZ] at h;exact Ty.OT a.2 x y h
 |a::b::as,x,y,h=>by simp only[eZ,zaG,Prod.mk.injEq,true_and] at h;exact za4 (Ty.OT a.2 x.1 y.1 h.1) (abS (b::as) x.2 y.2 h.2)
structure aF where
 id:FuncId
 args:aR
 mu:cX
 aJ:aR
 F:bt args.br->Option (bt aJ.br)
open Classical in
noncomputable def aF.M (fn:aF) (ds:List Dv):Option (List Dv):=
 if h:∃x,eZ fn.args x=ds then(fn.F h.choose).map (eZ fn.aJ) else none
theorem aF.Ct (fn:aF) (x:bt fn.args.br):fn.M (eZ fn.args x)=(fn.F x).map (eZ fn.aJ):=by have h:∃y,eZ fn.args y=eZ fn.args x:=⟨x,rfl⟩;unfold aF.M;rw[dif_pos h,abS _ _ _ h.choose_spec]
theorem aF.Kw {fn:aF} {ds a:List Dv} (h:fn.M ds=some a):∃x y,ds=eZ fn.args x/\fn.F x=some y/\a=eZ fn.aJ y:=by unfold aF.M at h;split at h;rename_i e;rw[zaq] at h;obtain⟨y,c,b⟩:=h;exact⟨_,y,e.choose_spec.symm,c,b.symm⟩;cases h
def cX.dH:cX->Nat
 |[]=>0
 |s::l=>(s.filter Option.isSome).length+cX.dH l
def z8 (k:Nat) (rs:List Dv):List Dv×List C:=(rs.take k,(rs.drop k).flatMap (·.2))
noncomputable def aF.MM (fn:aF) (ds:List Dv):Option (List Dv×List C):=(fn.M ds).map (z8 (fn.aJ.length - fn.mu.dH))
def cX.iq:cX->Nat
 |[]=>0
 |[[some .bn]]=>2
 |[some .bn,some .bn]::_=>3
 |[some .bn,some .bn,some .bn]::_=>4
 |[some .bn,some .bn,some .bn,some .bn]::_=>5
 |_=>1
def Il:aR->Bool
 |[]=>false
 |(.ptr,_)::_=>true
 |_::as=>Il as
def vr (as:aR):Nat:=match Il as with
 |true=>1
 |false=>0
noncomputable def aF.MV (fn:aF) (ds:List Dv):Option (List Dv×List C):=(fn.M ds).map (z8 (fn.aJ.length - vr fn.args))
def ZY:List Dv->Option (Nat×Nat)
 |[(.one,[.int _ a]),(.one,[.int _ b])]=>some (a.toNat,(b - a).toNat)
 |_=>none
noncomputable def aF.MW (fn:aF) (ds:List Dv):Option (Nat×Nat):=(fn.M ds).bind ZY
def cX.nW (s:cX):Nat:=s.length - 2
noncomputable def aF.MX (fn:aF) (ds:List Dv):Option (List Dv×List C):=(fn.M ds).map (z8 (fn.aJ.length - 1))
noncomputable def eE (T:List aF):bL:=
 ⟨T.filterMap fun fn=>match fn.mu.iq with|0=>some (fn.id,fn.M)|_=>none,T.filterMap fun fn=>match fn.mu.iq with|1=>some (fn.id,fn.mu,fn.MM)|_=>none,
  T.filterMap fun fn=>match fn.mu.iq with|2=>some (fn.id,fn.MV)|_=>none,T.filterMap fun fn=>match fn.mu.iq with|3=>some (fn.id,fn.mu.tl,fn.MW)|_=>none,
  T.filterMap fun fn=>match fn.mu.iq with|4=>some (fn.id,fn.mu.nW,fn.MX)|_=>none,T.filterMap fun fn=>match fn.mu.iq with|5=>some (fn.id,fn.M)|_=>none⟩
def aF.find:List aF->FuncId->Option aF
 |[],_=>none
 |fn::l,f=>match IS f fn.id with
  |true=>some fn
  |false=>aF.find l f
theorem aF.UR:∀{T:List aF} {f:FuncId} {fn:aF},aF.find T f=some fn->fn.mu.iq=0->bL.find (eE T).pure f=some fn.M
 |[],f,fn,h,_=>by simp[aF.find] at h
 |g::l,f,fn,h,hm=>by simp only[aF.find] at h;split at h;rename_i e;injection h with h;subst h;simp only[eE,IT,hm,bL.find];rw[aj (AI e)];rename_i e;have a:bL.find (eE l).pure f=some fn.M:=aF.UR h hm;simp only[eE,IT] at a⊢;by_cases b:g.mu.iq=0;simp only[b,bL.find];rw[ak (fun d=>by rw[d,zah] at e;cases e)];exact a;split;exact a;rename_i z c;split at c;rename_i i;exact absurd i b;cases c
theorem aF.acp:∀{T:List aF} {f:FuncId} {fn:aF},aF.find T f=some fn->fn.mu.iq=1->bL.tZ (eE T).DG f=some (fn.mu,fn.MM)
 |[],f,fn,h,_=>by simp[aF.find] at h
 |g::l,f,fn,h,hm=>by simp only[aF.find] at h;split at h;rename_i e;injection h with h;subst h;simp only[eE,IT,hm,bL.tZ];rw[aj (AI e)];rename_i e;have a:bL.tZ (eE l).DG f=some (fn.mu,fn.MM):=aF.acp h hm;simp only[eE,IT] at a⊢;by_cases b:g.mu.iq=1;simp only[b,bL.tZ];rw[ak (fun d=>by rw[d,zah] at e;cases e)];exact a;split;exact a;rename_i z c;split at c;rename_i i;exact absurd i b;cases c
theorem aF.acq:∀{T:List aF} {f:FuncId} {fn:aF},aF.find T f=some fn->fn.mu.iq=2->bL.rR (eE T).vs f=some fn.MV
 |[],f,fn,h,_=>by simp[aF.find] at h
 |g::l,f,fn,h,hm=>by simp only[aF.find] at h;split at h;rename_i e;injection h with h;subst h;simp only[eE,IT,hm,bL.rR];rw[aj (AI e)];rename_i e;have a:bL.rR (eE l).vs f=some fn.MV:=aF.acq h hm;simp only[eE,IT] at a⊢;by_cases b:g.mu.iq=2;simp only[b,bL.rR];rw[ak (fun d=>by rw[d,zah] at e;cases e)];exact a;split;exact a;rename_i z c;split at c;rename_i i;exact absurd i b;cases c
def BX (m:Mode) (σ:aq):Nat->List TD->Option (List SC×Nat×aq)
 |nm,[]=>some ([],nm,σ)
 |nm,⟨t,x⟩::cs=>match t,x with
  |.list ts,xs=>match σ.ins nm (.row m.yi m ts xs) with
   |some σ1=>match BX m σ1 (nm+1) cs with
    |some (l,jk,σ2)=>some (.sl nm ts.length 0 (ab (α:=Ty.DL ts) xs)::l,jk,σ2)
    |none=>none
   |none=>none
  |.int k,x=>match BX m σ nm cs with
   |some (l,jk,σ2)=>some (.v (.int k) x::l,jk,σ2)
   |none=>none
  |.bool,x=>match BX m σ nm cs with
   |some (l,jk,σ2)=>some (.v .bool x::l,jk,σ2)
   |none=>none
theorem Rv (m:Mode):∀{cs:List TD} {σ σ1:aq} {nm d:Nat} {l:List SC},BX m σ nm cs=some (l,d,σ1)-> σ.er.imp m nm (eM cs)=some (l.map SC.er,d,σ1.er)
 |[],σ,σ1,nm,d,l,h=>by simp only[BX] at h;injection h with h;injection h with c a;injection a with a h3;subst c a h3;rfl
 |⟨.list ts,xs⟩::cs,σ,σ2,nm,d,l,h=>by simp only[BX] at h;split at h;rename_i σ1 n;split at h;rename_i g i f e;injection h with h;injection h with c a;injection a with a h3;subst c a h3;have j:σ.er.ins nm (.row m.yi m ts.length (By (Ty.bu ts) xs))=some σ1.er:=aq.AK n;have b:=Rv m e;simp only[eM] at b;simp only[eM,AN,Ty.er,St.imp,j,b,SC.er];exact congrArg (fun q=>some (ar.sl nm ts.length 0 q::By SC.er g,i,f.er)) (BY (Ty.bu ts));cases h;cases h
 |⟨.int k,x⟩::cs,σ,σ2,nm,d,l,h=>by simp only[BX] at h;split at h;rename_i g i f e;injection h with h;injection h with c a;injection a with a h3;subst c a h3;have b:=Rv m e;simp only[eM] at b;simp only[eM,AN,Ty.er,St.imp,b,SC.er];cases h
 |⟨.bool,x⟩::cs,σ,σ2,nm,d,l,h=>by simp only[BX] at h;split at h;rename_i g i f e;injection h with h;injection h with c a;injection a with a h3;subst c a h3;have b:=Rv m e;simp only[eM] at b;simp only[eM,AN,Ty.er,St.imp,b,SC.er];cases h
def K.isAgg:K->Bool
 |.agg=>true
 |_=>false
def K.zA:K->Bool
 |.ptr=>true
 |_=>false
def Gi (m:Mode) (σ:aq):Nat->List dB->Option (List (Bool×List SC)×aq)
 |_,[]=>some ([],σ)
 |nm,(k,cs)::ds=>match k.zA with
  |true=>none
  |false=>match BX m σ nm cs with
   |some (l,jk,σ1)=>match Gi m σ1 jk ds with
    |some (ls,σ2)=>some ((k.isAgg,l)::ls,σ2)
    |none=>none
   |none=>none
theorem Rw (m:Mode):∀{ds:List dB} {σ σ1:aq} {nm:Nat} {b:List (Bool×List SC)},Gi m σ nm ds=some (b,σ1)-> σ.er.nF m nm (ds.map dB.er)=some (b.map (fun x=>(x.1,x.2.map SC.er)),σ1.er)
 |[],σ,σ1,nm,b,h=>by simp only[Gi] at h;injection h with h;injection h with c h2;subst c h2;rfl
 |(k,cs)::ds,σ,σ2,nm,b,h=>by simp only[Gi] at h;split at h;cases h;rename_i n;split at h;rename_i l i σ1 f;split at h;rename_i g j o;injection h with h;injection h with c h2;subst c h2;have d:=Rv m f;have e:=Rw m o;have a:σ1.er.nF m i (By dB.er ds)=some (g.map (fun x=>(x.1,x.2.map SC.er)),j.er):=e;(cases k with|ptr=>cases n|one=>simp only[AN,dB.er,St.nF,d,a];rfl|agg=>simp only[AN,dB.er,St.nF,d,a];rfl);cases h;cases h
def Gm:List (Bool×List SC)->SV
 |[(ag,cs)]=>NC ag cs
 |l=>.dh l
theorem J1 (l:List (Bool×List SC)):(Gm l).er=rH (l.map fun x=>(x.1,x.2.map SC.er)):=by
 match l with
 |[]=>rfl
 |[(ag,cs)]=>exact Sa ag cs
 |_::_::_=>rfl
section
variable {ρ:Type}
def YO (T:List aF) (m:Mode) (d:Option Nat) (f:FuncId) (as:List SV) (σ:aq) (k:aq->Option ρ):Option ρ:=
 match aF.find T f with
 |some fn=>match fn.mu.iq with
  |0=>Nw σ.h as fun ds=>match tu fn.args ds with
   |some x=>(fn.F x).ae fun rs=>match Gi m σ (BM d) (mF fn.aJ rs) with
    |some (ls,σ1)=>k (σ1.put d (Gm ls))
    |none=>none
   |none=>none
  |_=>none
 |none=>none
theorem aAg {T:List aF} {m:Mode} {d:Option Nat} {f:FuncId} {as:List SV} {σ:aq} {k:aq->Option ρ} {r:ρ} (h:YO T m d f as σ k=some r): ∃σ1:aq,CH (eE T) m d f (as.map SV.er) σ.er=some σ1.er/\k σ1=some r:=by unfold YO at h;split at h;rename_i fn l;split at h;rename_i g;obtain⟨ds,b,a⟩:=ZB h;split at a;rename_i x hx;rw[gw] at a;obtain⟨rs,i,a⟩:=a;split at a;rename_i ls σ1 c;refine⟨_,?_,a⟩;have e:=Rw m c;rw[AE] at e;have j:qa σ.er.h (as.map SV.er)=some (ds.map dB.er):=b;simp only[CH,j,aF.UR l g,yg hx,aF.Ct,i,wt,e,aq.gZ,J1];cases a;cases a;cases h;cases h
def Gd:List dB->Option (List (Bool×List SC))
 |[]=>some []
 |(k,cs)::ds=>match k.zA with
  |true=>none
  |false=>match Gd ds with
   |some ls=>some ((k.isAgg,cs.map fun x=>SC.v x.1 x.2)::ls)
   |none=>none
theorem Q7:∀{ds:List dB} {a:List (Bool×List SC)},Gd ds=some a->mG (ds.map dB.er)=some (a.map fun x=>(x.1,x.2.map SC.er))
 |[],a,h=>by simp only[Gd] at h;injection h with h;subst h;rfl
 |(k,cs)::ds,a,h=>by simp only[Gd] at h;split at h;cases h;rename_i f;split at h;rename_i FN e;injection h with h;subst h;have b:=Q7 e;have d:(eM cs).map ar.c=(cs.map fun x=>SC.v x.1 x.2).map SC.er:=(by simp[eM,SC.er]);(cases k with|ptr=>cases f|one=>simp only[AN,dB.er,mG];rw[show mG (By dB.er ds)=_ from b];simp only;rw[d];rfl|agg=>simp only[AN,dB.er,mG];rw[show mG (By dB.er ds)=_ from b];simp only;rw[d];rfl);cases h
def YQ (T:List aF) (d:Option Nat) (f:FuncId) (as:List SV) (σ:aq) (k:aq->Option ρ):Option ρ:=
 match aF.find T f with
 |some fn=>match fn.mu.iq with
  |0=>Nw σ.h as fun ds=>match tu fn.args ds with
   |some x=>(fn.F x).ae fun rs=>match Gd (mF fn.aJ rs) with
    |some ls=>k (σ.put d (Gm ls))
    |none=>none
   |none=>none
  |_=>none
 |none=>none
theorem aAb {T:List aF} {d:Option Nat} {f:FuncId} {as:List SV} {σ:aq} {k:aq->Option ρ} {r:ρ} (h:YQ T d f as σ k=some r): ∃v:SV,Aw (eE T) f (as.map SV.er) σ.er.h=some v.er/\k (σ.put d v)=some r:=by unfold YQ at h;split at h;rename_i fn l;split at h;rename_i g;obtain⟨ds,b,a⟩:=ZB h;split at a;rename_i x hx;rw[gw] at a;obtain⟨rs,i,a⟩:=a;split at a;rename_i ls c;refine⟨_,?_,a⟩;have e:=Q7 c;rw[AE] at e;have j:qa σ.er.h (as.map SV.er)=some (ds.map dB.er):=b;simp only[Aw,j,aF.UR l g,yg hx,aF.Ct,i,wt,e,J1];cases a;cases a;cases h;cases h
def Ty.yY:Ty->Bool
 |.list ts=>Ty.jb ts
 |_=>true
def ZN:Mode->List Ty->Bool
 |.bq,ts=>Ty.jb ts
 |.live,ts=>ts.all Ty.yY
 |.bn,_=>false
theorem Ga (ts:List Ty) (xs:List (Ty.DL ts)) (h:Ty.jb ts=true):jm (By (Ty.bu ts) xs)=true:=by simp only[jm,zax,zag];rintro e ⟨x,_,rfl⟩;rw[Ty.Nd];exact h
theorem abD (t:Ty) (x:t.D) (h:Ty.yY t=true):C.yY (t.er x)=true:=by cases t with|int k=>rfl|bool=>rfl|list ts=>exact Ga ts x h
theorem abC:∀(ts:List Ty) (x:Ty.DL ts),ts.all Ty.yY=true->(Ty.bu ts x).all C.yY=true
 |[],_,_=>rfl
 |[t],x,h=>by simp only[zav,zaZ,zaN] at h;simp only[Ty.bu,zav,zaZ,zaN];exact abD t x h
 |t::u::ts,x,h=>by simp only[zav (a:=t),IN] at h;simp only[Ty.bu,zav (a:=Ty.er t x.1),IN];exact⟨abD t x.1 h.1,abC (u::ts) x.2 h.2⟩
theorem acv (m:Mode) (ts:List Ty) (xs:List (Ty.DL ts)) (h:ZN m ts=true):y3 m (By (Ty.bu ts) xs)=true:=by cases m with|bn=>cases h|bq=>exact Ga ts xs h|live=>simp only[y3,zax,zag];rintro e ⟨x,_,rfl⟩;have:=abC ts x h;simpa[zax] using this
def Mode.Mj:Mode->Bool
 |.live=>true
 |_=>false
def Mode.ae1:Mode->Bool
 |.bq=>true
 |_=>false
def Y9 (h:Nat->Option SB) (md:Mode) (c:SC) (k:fe->(t:Ty)->t.D->Option ρ):Option ρ:=
 match c with
 |.nil ts=>match ts with
  |[]=>none
  |t::us=>iC md.own (k (.nil (us.length+1)) (.list (t::us)) ([]:List (Ty.DL (t::us))))
 |.sl n sz lo len=>match h n with
  |some (.row gr m ts xs)=>iC (m.own&&((!md.Mj||m.Mj)&&(ZN md ts&&(!m.Mj|| !gr)))) (eu ts.length sz ((aO lo len (ab xs)).ae fun _=>k (.row n) (.list ts) xs))
  |_=>none
 |.cG n kk aZ off sz len=>match h n with
  |some (.row false .live ts xs)=>iC md.ae1 (eu ts.length aZ ((bQ xs kk).ae fun e=>match(Ty.jT ts e)[off]? with
   |some ⟨.list us,ys⟩=>iC (Ty.jb us) (k (.nest n kk off) (.list us) ys)
   |_=>none))
  |_=>none
 |_=>none
theorem aAy {h:Nat->Option SB} {a:Mode} {c:SC} {k:fe->(t:Ty)->t.D->Option ρ} {r:ρ} (hx:Y9 h a c k=some r): ∃(it:fe) (t:Ty) (x:t.D),yf (e8 h) a c.er=some (it,t.er x)/\k it t x=some r:=by unfold Y9 at hx;split at hx;split at hx;cases hx;rename_i t us;have hm:=(d9 hx).1;replace hx:=(d9 hx).2;refine⟨_,.list (t::us),[],?_,hx⟩;have g:a≠ .bn:=(by rintro rfl;cases hm);simp[SC.er,yf,Ty.er,g];rename_i n sz lo len;split at hx;rename_i gr m ts xs hn;have hm:=(d9 hx).1;replace hx:=(d9 hx).2;have b:=(bW hx).1;replace hx:=(bW hx).2;subst b;rw[gw] at hx;obtain⟨_,f,hx⟩:=hx;have l:lo=0/\len=ab xs:=(by unfold aO at f;split at f;assumption;cases f);obtain⟨rfl,rfl⟩:=l;simp only[IN] at hm;have g:m≠ .bn:=(by rintro rfl;cases hm.1);have o:a=.live->m=.live:=(by rintro rfl;have:=hm.2.1;cases m<;>first|rfl|(simp[Mode.Mj] at this));refine⟨_,.list ts,xs,?_,hx⟩;simp only[SC.er,yf,e8,hn,wt,SB.er,Ty.er];rw[aj ⟨g,o,trivial,trivial,(BY (Ty.bu ts)).symm,acv a ts xs hm.2.2.1,fun hl=>by have:=hm.2.2.2;subst hl;simpa[Mode.Mj] using this⟩];cases hx;rename_i n q aZ off sz len;split at hx;rename_i ts xs hn;have hm:=(d9 hx).1;replace hx:=(d9 hx).2;have b:=(bW hx).1;replace hx:=(bW hx).2;subst b;rw[gw] at hx;obtain⟨e,d,hx⟩:=hx;replace d:xs[q]? =some e:=d;split at hx;rename_i us ys hd;have i:=(d9 hx).1;replace hx:=(d9 hx).2;refine⟨_,.list us,ys,?_,hx⟩;have j:a=.bq:=(by cases a<;>first|rfl|(simp[Mode.ae1] at hm));have p:=OH hd;simp only[SC.er,yf,e8,hn,wt,SB.er,AT,d,zak,p,Ty.er,j,and_self,if_true];rw[aj (Ga us ys i)];cases hx;cases hx;cases hx
def SC.nm:SC->List Nat
 |.sl n _ _ _=>[n]
 |.cG n _ _ _ _ _=>[n]
 |_=>[]
theorem SC.axt (c:SC):c.er.gh.toList=c.nm:=by cases c<;>rfl
def JU:List (Option Mode)->List SC->List Nat
 |some _::fs,c::cs=>c.nm++JU fs cs
 |none::fs,_::cs=>JU fs cs
 |_,_=>[]
theorem Za:∀(a:List (Option Mode)) (cs:List SC),sC a (cs.map SC.er)=JU a cs
 |some m::a,c::cs=>by simp only[AN,sC,JU,SC.axt,Za a cs]
 |none::a,c::cs=>by simp only[AN,sC,JU,Za a cs]
 |[],cs=>by cases cs<;>rfl
 |some m::a,[]=>rfl
 |none::a,[]=>rfl
def Eb:cX->List (Bool×List SC)->List Nat
 |s::sig,a::as=>JU s a.2++Eb sig as
 |_,_=>[]
theorem RF:∀(sig:cX) (as:List (Bool×List SC)),tv sig (as.map fun x=>(x.1,x.2.map SC.er))=Eb sig as
 |s::sig,a::as=>by simp only[AN,tv,Eb,Za,RF sig as]
 |[],as=>by cases as<;>rfl
 |s::sig,[]=>rfl
def Ni (h:Nat->Option SB) (ns:List Nat):Nat->Option SB:=fun n=>match ns.contains n with|true=>none|false=>h n
theorem Y0 (h:Nat->Option SB) (ns:List Nat):e8 (Ni h ns)=fk (e8 h) ns:=by funext n;simp only[e8,Ni,fk];cases hc:ns.contains n<;>simp[hc]
def BZ (h h0:Nat->Option SB):List (Option Mode)->List SC->(List TD->List (fe×Mode)->Option ρ)->Option ρ
 |[],cs,k=>Gq h0 cs fun l=>k l []
 |none::fs,c::cs,k=>Ef h0 c fun t x=>BZ h h0 fs cs fun l its=>k (⟨t,x⟩::l) its
 |some md::fs,c::cs,k=>Y9 h md c fun it t x=>BZ h h0 fs cs fun l its=>k (⟨t,x⟩::l) ((it,md)::its)
 |_::_,[],_=>none
theorem Y8 {h i:Nat->Option SB}:∀{b:List (Option Mode)} {cs:List SC} {k:List TD->List (fe×Mode)->Option ρ} {r:ρ},BZ h i b cs k=some r-> ∃l a,oF (e8 h) (e8 i) b (cs.map SC.er)=some (eM l,a)/\k l a=some r
 |[],cs,k,r,hx=>by simp only[BZ] at hx;obtain⟨l,e,d⟩:=Ny hx;exact⟨l,[],by simp only[oF,e],d⟩
 |none::b,c::cs,k,r,hx=>by simp only[BZ] at hx;obtain⟨t,x,e,d⟩:=J9 hx;obtain⟨l,a,f,g⟩:=Y8 d;exact⟨⟨t,x⟩::l,a,by simp only[AN,oF,e,f,eM],g⟩
 |some md::b,c::cs,k,r,hx=>by simp only[BZ] at hx;obtain⟨it,t,x,e,d⟩:=aAy hx;obtain⟨l,a,f,g⟩:=Y8 d;exact⟨⟨t,x⟩::l,(it,md)::a,by simp only[AN,oF,e,f,eM],g⟩
 |none::b,[],k,r,hx=>by simp[BZ] at hx
 |some md::b,[],k,r,hx=>by simp[BZ] at hx
def P9:Bool->K
 |true=>.agg
 |false=>.one
def JV (h h0:Nat->Option SB):cX->List (Bool×List SC)->(List dB->List (fe×Mode)->Option ρ)->Option ρ
 |_,[],k=>k [] []
 |sig,(ag,cs)::as,k=>BZ h h0 sig.hd cs fun l its=>JV h h0 sig.tl as fun ds Bx=>k ((P9 ag,l)::ds) (its++Bx)
theorem RG {h b:Nat->Option SB}:∀{as:List (Bool×List SC)} {sig:cX} {k:List dB->List (fe×Mode)->Option ρ} {r:ρ},JV h b sig as k=some r-> ∃ds a,qI (e8 h) (e8 b) sig (as.map fun x=>(x.1,x.2.map SC.er))=some (ds.map dB.er,a)/\k ds a=some r
 |[],sig,k,r,hx=>⟨[],[],by simp only[za0,qI],hx⟩
 |(ag,cs)::as,sig,k,r,hx=>by simp only[JV] at hx;obtain⟨l,a,e,c⟩:=Y8 hx;obtain⟨ds,Bx,d,f⟩:=RG c;refine⟨_,_,?_,f⟩;simp only[AN,qI,e,d,dB.er];cases ag<;>rfl
def Gj:List SV->Option (List (Bool×List SC))
 |[]=>some []
 |v::vs=>match v.cells?,Gj vs with
  |some x,some xs=>some (x::xs)
  |_,_=>none
theorem RE:∀{as:List SV} {a:List (Bool×List SC)},Gj as=some a->vq (as.map SV.er)=some (a.map fun x=>(x.1,x.2.map SC.er))
 |[],a,h=>by simp only[Gj] at h;injection h with h;subst h;rfl
 |v::vs,a,h=>by simp only[Gj] at h;split at h;rename_i x xs c d;injection h with h;subst h;obtain⟨b,cs⟩:=x;simp only[AN,vq,SV.pH c,RE d];cases h
def Nf (ts:List Ty) (e:Ty.DL ts) (off:Nat) (x:TD):Option (Ty.DL ts):=wI ts ((Ty.jT ts e).set off x)
theorem YV {ts:List Ty} {e a:Ty.DL ts} {off:Nat} {x:TD} (h:Nf ts e off x=some a):Ty.bu ts a=(Ty.bu ts e).set off (x.1.er x.2):=by have:=DD h;rw[this,eM,zau,<-Ty.tW ts e];rfl
def Zf (σ:aq) (it:fe) (x:TD) (k:aq->Option ρ):Option ρ:=
 match it with
 |.nil _=>k σ
 |.row n=>match x with
  |⟨.list ts,xs⟩=>match σ.h n with
   |some (.row gr m us _)=>eu us.length ts.length (k (σ.gu n (.row gr m ts xs)))
   |_=>none
  |_=>none
 |.nest n kk off=>match σ.h n with
  |some (.row gr m us xs)=>(bQ xs kk).ae fun e=>match Nf us e off x with
   |some e'=>k (σ.gu n (.row gr m us (bB xs kk e')))
   |none=>none
  |_=>none
theorem aAI {σ:aq} {it:fe} {x:TD} {k:aq->Option ρ} {r:ρ} (hx:Zf σ it x k=some r):∃σ1,σ.er.tE it (x.1.er x.2)=some σ1.er/\k σ1=some r:=by unfold Zf at hx;split at hx;exact⟨σ,rfl,hx⟩;rename_i n;split at hx;rename_i ts xs;split at hx;rename_i a m us ys hn;have f:=(bW hx).1;replace hx:=(bW hx).2;refine⟨_,?_,hx⟩;have c:σ.er.h n=some (.row a m us.length (By (Ty.bu us) ys)):=(by simp[aq.er,e8,hn,SB.er]);simp only[St.tE,Ty.er,c,f,if_true,aq.vY,SB.er];cases hx;cases hx;rename_i n g off;split at hx;rename_i a m us xs hn;rw[gw] at hx;obtain⟨e,b,hx⟩:=hx;replace b:xs[g]? =some e:=b;split at hx;rename_i e' d;refine⟨_,?_,hx⟩;have c:σ.er.h n=some (.row a m us.length (By (Ty.bu us) xs)):=(by simp[aq.er,e8,hn,SB.er]);simp only[St.tE,c,AT,b,wt,aq.vY,SB.er,bB,zau,YV d];cases hx;cases hx
def Gl (σ:aq):List (fe×Mode)->List TD->(aq->Option ρ)->Option ρ
 |[],[],k=>k σ
 |it::its,x::xs,k=>Zf σ it.1 x fun σ1=>Gl σ1 its xs k
 |_,_,_=>none
theorem Zg:∀{a:List (fe×Mode)} {xs:List TD} {σ:aq} {k:aq->Option ρ} {r:ρ},Gl σ a xs k=some r->∃σ1,σ.er.uy a (eM xs)=some σ1.er/\k σ1=some r
 |[],[],σ,k,r,hx=>⟨σ,rfl,hx⟩
 |it::a,x::xs,σ,k,r,hx=>by simp only[Gl] at hx;obtain⟨σ1,d,c⟩:=aAI hx;obtain⟨σ2,b,e⟩:=Zg c;refine⟨σ2,?_,e⟩;simp only[eM] at b;simp only[eM,AN,St.uy,d,b]
 |[],_::_,σ,k,r,hx=>by simp[Gl] at hx
 |_::_,[],σ,k,r,hx=>by simp[Gl] at hx
def MJ:List Nat->Bool
 |[]=>true
 |n::l=> !(l.contains n)&&MJ l
theorem XT:∀{l:List Nat},MJ l=true->l.Nodup
 |[],_=>List.nodup_nil
 |n::l,h=>by simp only[MJ,IN,zaW] at h;rw[List.nodup_cons];refine⟨fun hm=>?_,XT h.2⟩;have:l.contains n=true:=(by simpa using hm);rw[this] at h;cases h.1
def YR (T:List aF) (m:Mode) (d:Option Nat) (f:FuncId) (as:List SV) (σ:aq) (k:aq->Option ρ):Option ρ:=
 match aF.find T f with
 |some fn=>match fn.mu.iq with
  |1=>match Gj as with
   |some fW=>iC (MJ (Eb fn.mu fW)) (JV σ.h (Ni σ.h (Eb fn.mu fW)) fn.mu fW fun ds its=>match tu fn.args ds with
    |some x=>(fn.F x).ae fun y=>Gl σ its (((mF fn.aJ y).drop (fn.aJ.length - fn.mu.dH)).flatMap (·.2)) fun σ1=>match Gi m σ1 (BM d) ((mF fn.aJ y).take (fn.aJ.length - fn.mu.dH)) with
     |some (ls,σ2)=>k (σ2.put d (Gm ls))
     |none=>none
    |none=>none)
   |none=>none
  |_=>none
 |none=>none
theorem JZ (k:Nat) (l:List dB):z8 k (l.map dB.er)=((l.take k).map dB.er,eM ((l.drop k).flatMap (·.2))):=by simp only[z8,<-zaD,<-zaM];congr 1;induction l.drop k with|nil=>rfl|cons d l a=>simp only[AN,List.flatMap_cons,a,eM,za6,dB.er]
theorem aAc {T:List aF} {m:Mode} {d:Option Nat} {f:FuncId} {as:List SV} {σ:aq} {k:aq->Option ρ} {r:ρ} (h:YR T m d f as σ k=some r): ∃σ1:aq,vV (eE T) m d f (as.map SV.er) σ.er=some σ1.er/\k σ1=some r:=by unfold YR at h;split at h;rename_i fn p;split at h;rename_i l;split at h;rename_i fW i;have s:=XT (d9 h).1;replace h:=(d9 h).2;obtain⟨ds,its,c,a⟩:=RG h;split at a;rename_i x hx;rw[gw] at a;obtain⟨y,n,a⟩:=a;obtain⟨σ1,q,b⟩:=Zg a;split at b;rename_i ls σ2 j;refine⟨_,?_,b⟩;have e:=Rw m j;have g:fn.MM (eZ fn.args x)=some (((mF fn.aJ y).take (fn.aJ.length - fn.mu.dH)).map dB.er,eM (((mF fn.aJ y).drop (fn.aJ.length - fn.mu.dH)).flatMap (·.2))):=(by unfold aF.MM;rw[aF.Ct,n];simp only[wt];rw[<-AE,JZ]);have o:σ.er.h=e8 σ.h:=rfl;rw[Y0] at c;simp only[vV,aF.acp p l,RE i,RF,aj s,o,c,yg hx,g,q,e,aq.gZ,J1];cases b;cases a;cases h;cases h;cases h
def D9:List SC->Option (List TD)
 |[]=>some []
 |.v t x::cs=>match D9 cs with
  |some l=>some (⟨t,x⟩::l)
  |none=>none
 |.nil (t::us)::cs=>match D9 cs with
  |some l=>some (⟨.list (t::us),([]:List (Ty.DL (t::us)))⟩::l)
  |none=>none
 |_::_=>none
theorem Nj:∀{cs:List SC} {l:List TD},D9 cs=some l->ot (cs.map SC.er)=some (eM l)
 |[],l,h=>by simp only[D9] at h;injection h with h;subst h;rfl
 |c::cs,l,h=>by unfold D9 at h;split at h;rename_i e;cases e;rename_i t x cs' e;injection e with a e2;subst a e2;split at h;rename_i b e;injection h with h;subst h;simp only[AN,ot,SC.er,ug,Nj e,eM];cases h;rename_i t us cs' e;injection e with a e2;subst a e2;split at h;rename_i b e;injection h with h;subst h;simp[ot,SC.er,ug,Nj e,eM,Ty.er];cases h;cases h
def Q4 (h:Nat->Option SB) (n kk off:Nat):Option (List TD):=
 match kk,off with
 |0,0=>match h n with
  |some (.box cs)=>D9 cs
  |_=>none
 |_,_=>none
theorem ajh {h:Nat->Option SB} {n a sz off:Nat} {l:List TD} (e:Q4 h n a off=some l):yP (e8 h) (SV.er (.one (.ptr n a sz off)))=some (n,eM l):=by unfold Q4 at e;split at e;split at e;rename_i cs hn;simp[SV.er,SC.er,yP,e8,hn,SB.er,Nj e];cases e;cases e
def SV.vu:SV->Option (Nat×Nat×Nat)
 |.one (.ptr n kk _ off)=>some (n,kk,off)
 |_=>none
theorem aiI {v:SV} (h:v.vu=none) (a:Nat->Option bf):yP a v.er=none:=by cases v with|one c=>(cases c<;>first|rfl|(simp[SV.vu] at h))|agg cs=>rfl|dh xs=>rfl
theorem aiJ {v:SV} {n a off:Nat} (h:v.vu=some (n,a,off)):∃sz,v=.one (.ptr n a sz off):=by cases v with|one c=>cases c<;>simp[SV.vu] at h;obtain⟨rfl,rfl,rfl⟩:=h;exact⟨_,rfl⟩|agg cs=>simp[SV.vu] at h|dh xs=>simp[SV.vu] at h
def Nc (σ:aq):List SV->(List dB->List Nat->aq->Option ρ)->Option ρ
 |[],k=>k [] [] σ
 |v::vs,k=>match v.vu with
  |some (n,kk,off)=>match Q4 σ.h n kk off with
   |some l=>Nc σ vs fun ds ns σ1=>k ((.ptr,l)::ds) (n::ns) σ1
   |none=>none
  |none=>match v.cells? with
   |some (ag,cs)=>J7 σ cs fun l _ σ1=>Nc σ1 vs fun ds ns σ2=>k ((P9 ag,l)::ds) ns σ2
   |none=>none
theorem YM:∀{vs:List SV} {σ:aq} {k:List dB->List Nat->aq->Option ρ} {r:ρ},Nc σ vs k=some r-> ∃ds ns σ1,σ.er.mB (vs.map SV.er)=some (ds.map dB.er,ns,σ1.er)/\k ds ns σ1=some r
 |[],σ,k,r,h=>⟨[],[],σ,rfl,h⟩
 |v::vs,σ,k,r,h=>by simp only[Nc] at h;split at h;rename_i n kk off b;obtain⟨sz,rfl⟩:=aiJ b;split at h;rename_i l hl;obtain⟨ds,ns,σ1,a,c⟩:=YM h;refine⟨_,_,σ1,?_,c⟩;have:=ajh (sz:=sz) hl;have f:σ.er.h=e8 σ.h:=rfl;simp only[AN,St.mB,f,this,a,dB.er];cases h;rename_i b;split at h;rename_i ag cs d;obtain⟨l,o,σ1,a,c⟩:=RU h;obtain⟨ds,ns,σ2,g,e⟩:=YM c;refine⟨_,_,σ2,?_,e⟩;simp only[AN,St.mB,aiI b,SV.pH d,a,g,dB.er];cases ag<;>rfl;cases h
def Ze (σ:aq) (ns:List Nat) (out:List TD) (k:aq->Option ρ):Option ρ:=
 match ns,out with
 |[],[]=>k σ
 |[n],out=>match σ.h n with
  |some (.box cs)=>eu cs.length out.length (k (σ.gu n (.box (out.map fun x=>.v x.1 x.2))))
  |_=>none
 |_,_=>none
theorem ZV (out:List TD):(out.map fun x=>SC.v x.1 x.2).map SC.er=(eM out).map .c:=by simp[eM,SC.er]
theorem aAH {σ:aq} {ns:List Nat} {out:List TD} {k:aq->Option ρ} {r:ρ} (h:Ze σ ns out k=some r):∃σ1,σ.er.zR ns (eM out)=some σ1.er/\k σ1=some r:=by unfold Ze at h;split at h;exact⟨σ,rfl,h⟩;rename_i n;split at h;rename_i cs hn;have a:=(bW h).1;replace h:=(bW h).2;refine⟨_,?_,h⟩;have b:σ.er.h n=some (.box (cs.map SC.er)):=(by simp[aq.er,e8,hn,SB.er]);simp only[St.zR,b,BY];rw[aj (by rw[a,eM,BY]),aq.vY,SB.er,ZV];cases h;cases h
def dB.vu:List dB->Option (List TD)
 |[(.ptr,cs)]=>some cs
 |_=>none
theorem aAh {a:List dB} {cs:List TD} (h:dB.vu a=some cs):a=[(.ptr,cs)]:=by unfold dB.vu at h;split at h;injection h with h;rw[h];cases h
def YN (σ:aq) (d:Option Nat) (rs:List dB) (k:aq->Option ρ):Option ρ:=
 match dB.vu rs with
 |some cs=>match d with
  |some q=>match σ.ins q (.box (cs.map fun x=>.v x.1 x.2)) with
   |some σ1=>k (σ1.put d (.one (.ptr q 0 0 0)))
   |none=>none
  |none=>none
 |none=>match Gd rs with
  |some ls=>k (σ.put d (Gm ls))
  |none=>none
theorem az5 {σ:aq} {d:Option Nat} {a:List dB} {k:aq->Option ρ} {r:ρ} (h:YN σ d a k=some r):∃σ1,yQ σ.er d (a.map dB.er)=some σ1.er/\k σ1=some r:=by
 unfold YN at h;split at h
 ·rename_i cs g;have:=aAh g;subst this;split at h
  ·rename_i q;split at h
   ·rename_i σ1 j;refine⟨_,?_,h⟩;have e:=aq.AK j;rw[SB.er,ZV] at e;simp only[AN,za0,dB.er,yQ,e,aq.gZ];rfl
   ·cases h
  ·cases h
 ·split at h
  ·rename_i b i;refine⟨_,?_,h⟩;have e:=Q7 i;have c:yQ σ.er d (a.map dB.er)=match mG (a.map dB.er) with
     |some b=>some (σ.er.put d (rH b))
     |none=>none:=by
    unfold yQ;split
    ·rename_i cs f;rw[f] at e;simp[mG] at e
    ·rfl
   rw[c,e,aq.gZ,J1]
  ·cases h
def YP (T:List aF) (d:Option Nat) (f:FuncId) (as:List SV) (σ:aq) (k:aq->Option ρ):Option ρ:=
 match aF.find T f with
 |some fn=>match fn.mu.iq with
  |2=>Nc σ as fun ds ns σ1=>match tu fn.args ds with
   |some x=>(fn.F x).ae fun y=>Ze σ1 ns (((mF fn.aJ y).drop (fn.aJ.length - vr fn.args)).flatMap (·.2)) fun σ2=>YN σ2 d ((mF fn.aJ y).take (fn.aJ.length - vr fn.args)) k
   |none=>none
  |_=>none
 |none=>none
theorem aAa {T:List aF} {d:Option Nat} {f:FuncId} {as:List SV} {σ:aq} {k:aq->Option ρ} {r:ρ} (h:YP T d f as σ k=some r): ∃σ1:aq,xy (eE T) d f (as.map SV.er) σ.er=some σ1.er/\k σ1=some r:=by unfold YP at h;split at h;rename_i fn m;split at h;rename_i g;obtain⟨ds,ns,σ1,c,a⟩:=YM h;split at a;rename_i x hx;rw[gw] at a;obtain⟨y,i,a⟩:=a;obtain⟨σ2,n,e⟩:=aAH a;obtain⟨l,o,j⟩:=az5 e;refine⟨l,?_,j⟩;have b:fn.MV (eZ fn.args x)=some (((mF fn.aJ y).take (fn.aJ.length - vr fn.args)).map dB.er,eM (((mF fn.aJ y).drop (fn.aJ.length - vr fn.args)).flatMap (·.2))):=(by unfold aF.MV;rw[aF.Ct,i];simp only[wt];rw[<-AE,JZ]);simp only[xy,c,aF.acq m g,yg hx,b,n,o];cases a;cases h;cases h
def aF.uW (k:Nat):List aF->FuncId->Option aF
 |[],_=>none
 |fn::l,f=>match IS f fn.id&&IS fn.mu.iq k with
  |true=>some fn
  |false=>aF.uW k l f
theorem aF.acm:∀{T:List aF} {f:FuncId} {fn:aF},aF.uW 2 T f=some fn->bL.rR (eE T).vs f=some fn.MV
 |[],f,fn,h=>by simp[aF.uW] at h
 |g::l,f,fn,h=>by simp only[aF.uW] at h;split at h;rename_i e;injection h with h;subst h;rw[IN] at e;have hm:=AI e.2;simp only[eE,IT,hm,bL.rR];rw[aj (AI e.1)];rename_i e;have b:bL.rR (eE l).vs f=some fn.MV:=aF.acm h;simp only[eE,IT] at b⊢;by_cases a:g.mu.iq=2;simp only[a,bL.rR];rw[ak (fun d=>by rw[d,a,zah] at e;cases e)];exact b;split;exact b;rename_i z c;split at c;rename_i i;exact absurd i a;cases c
theorem aF.acn:∀{T:List aF} {f:FuncId} {fn:aF},aF.uW 3 T f=some fn->bL.xC (eE T).ws f=some (fn.mu.tl,fn.MW)
 |[],f,fn,h=>by simp[aF.uW] at h
 |g::l,f,fn,h=>by simp only[aF.uW] at h;split at h;rename_i e;injection h with h;subst h;rw[IN] at e;have hm:=AI e.2;simp only[eE,IT,hm,bL.xC];rw[aj (AI e.1)];rename_i e;have b:bL.xC (eE l).ws f=some (fn.mu.tl,fn.MW):=aF.acn h;simp only[eE,IT] at b⊢;by_cases a:g.mu.iq=3;simp only[a,bL.xC];rw[ak (fun d=>by rw[d,a,zah] at e;cases e)];exact b;split;exact b;rename_i z c;split at c;rename_i i;exact absurd i a;cases c
theorem aF.aco:∀{T:List aF} {f:FuncId} {fn:aF},aF.uW 4 T f=some fn->bL.xD (eE T).xs f=some (fn.mu.nW,fn.MX)
 |[],f,fn,h=>by simp[aF.uW] at h
 |g::l,f,fn,h=>by simp only[aF.uW] at h;split at h;rename_i e;injection h with h;subst h;rw[IN] at e;have hm:=AI e.2;simp only[eE,IT,hm,bL.xD];rw[aj (AI e.1)];rename_i e;have b:bL.xD (eE l).xs f=some (fn.mu.nW,fn.MX):=aF.aco h;simp only[eE,IT] at b⊢;by_cases a:g.mu.iq=4;simp only[a,bL.xD];rw[ak (fun d=>by rw[d,a,zah] at e;cases e)];exact b;split;exact b;rename_i z c;split at c;rename_i i;exact absurd i a;cases c
def ZC (T:List dB) (i:Nat):Bool:=match T[i]? with
 |some (.one,[⟨.list [.int .i64],_⟩])=>true
 |_=>false
theorem aA0 {ds:List dB} {i:Nat} (h:ZC ds i=true):∃ys,(ds.map dB.er)[i]? =some (.one,[.list 1 ys]):=by unfold ZC at h;split at h;rename_i x e;exact⟨_,by rw[AT,e];rfl⟩;cases h
def sdI (a:Int):dB:=(.one,[⟨.int .i64,a⟩])
def YU (T:List aF) (m:Mode) (d:Option Nat) (f:FuncId) (as:List SV) (σ:aq) (k:aq->Option ρ):Option ρ:=
 match aF.uW 4 T f with
 |some fn=>match as[fn.mu.nW]? with
  |some (.one (.sl n s lo len))=>match σ.h n with
   |some (.row _ _ ts xs)=>eu s 1 (eu ts.length 1 ((bQ xs lo).ae fun _=>(bc xs lo len).ae fun _=>match Gj (as.set fn.mu.nW (.one (.sl n 1 0 (ab xs)))) with
    |some fW=>iC (MJ (Eb (oL fn.mu.nW) fW)) (JV σ.h (Ni σ.h (Eb (oL fn.mu.nW) fW)) (oL fn.mu.nW) fW fun ds its=>iC (ZC ds fn.mu.nW) (match tu fn.args (sdI (aD lo)::sdI (aD (av lo len))::ds) with
     |some x=>(fn.F x).ae fun y=>Gl σ its (((mF fn.aJ y).drop (fn.aJ.length - 1)).flatMap (·.2)) fun σ1=>match Gi m σ1 (BM d) ((mF fn.aJ y).take (fn.aJ.length - 1)) with
      |some (ls,σ2)=>k (σ2.put d (Gm ls))
      |none=>none
     |none=>none))
    |none=>none))
   |_=>none
  |_=>none
 |none=>none
theorem aAf {T:List aF} {m:Mode} {d:Option Nat} {f:FuncId} {as:List SV} {σ:aq} {k:aq->Option ρ} {r:ρ} (h:YU T m d f as σ k=some r): ∃σ1:aq,AF (eE T) m d f (as.map SV.er) σ.er=some σ1.er/\k σ1=some r:=by unfold YU at h;split at h;rename_i fn J;split at h;rename_i n s lo len C;split at h;rename_i E w ts xs K;have j:=(bW h).1;replace h:=(bW h).2;have l:=(bW h).1;replace h:=(bW h).2;rw[gw] at h;obtain⟨N,G,h⟩:=h;rw[gw] at h;obtain⟨wl,g,h⟩:=h;subst j;have D:lo<xs.length:=(If.1 (show xs[lo]? =some N from G)).1;have u:lo+len<=xs.length:=(by unfold bc at g;split at g;rename_i b;exact b;cases g);split at h;rename_i fW b;have O:=XT (d9 h).1;replace h:=(d9 h).2;obtain⟨ds,its,o,a⟩:=RG h;have p:=aA0 (d9 a).1;replace a:=(d9 a).2;obtain⟨ys,t⟩:=p;split at a;rename_i x hx;rw[gw] at a;obtain⟨y,A,a⟩:=a;obtain⟨σ1,L,c⟩:=Zg a;split at c;rename_i ls σ2 z;refine⟨_,?_,c⟩;have e:=Rw m z;have v:fn.MX (eZ fn.args x)=some (((mF fn.aJ y).take (fn.aJ.length - 1)).map dB.er,eM (((mF fn.aJ y).drop (fn.aJ.length - 1)).flatMap (·.2))):=(by unfold aF.MX;rw[aF.Ct,A];simp only[wt];rw[<-AE,JZ]);have B:σ.er.h=e8 σ.h:=rfl;have H:σ.er.h n=some (.row E w ts.length (By (Ty.bu ts) xs)):=(by simp[aq.er,e8,K,SB.er]);have q:dI lo::dI (lo+len)::ds.map dB.er=eZ fn.args x:=yg hx;have F:xM fn.mu.nW lo (lo+len) fn.MX (ds.map dB.er)=some (((mF fn.aJ y).take (fn.aJ.length - 1)).map dB.er,eM (((mF fn.aJ y).drop (fn.aJ.length - 1)).flatMap (·.2))):=(by unfold xM;rw[t];simp only;rw[q,v]);have i:Km σ.er.h (.one (.sl n 1 lo len))=some (n,lo,len,xs.length):=(by unfold Km;simp only[H];rw[aj ⟨trivial,l,by rw[BY];exact D,by rw[BY];exact u⟩,BY]);have I:(as.map SV.er)[fn.mu.nW]? =some (.one (.sl n 1 lo len)):=(by rw[AT,C];rfl);have M:(as.map SV.er).set fn.mu.nW (.one (.sl n 1 0 xs.length))=(as.set fn.mu.nW (.one (.sl n 1 0 (ab xs)))).map SV.er:=(by rw[zau];rfl);rw[Y0] at o;unfold AF;rw[aF.aco J];simp only[I,i,M];unfold vV;simp only[bL.tZ,if_true,RE b,RF,aj O,B,o,F,L,e,aq.gZ,J1];cases c;cases a;cases h;cases h;cases h;cases h
def Nt:List SV->Option (List dB)
 |[]=>some []
 |v::vs=>match v.cells? with
  |some (ag,cs)=>match D9 cs with
   |some l=>match Nt vs with
    |some ds=>some ((P9 ag,l)::ds)
    |none=>none
   |none=>none
  |none=>none
theorem alt:∀{vs:List SV} {ds:List dB},Nt vs=some ds->F0 (vs.map SV.er)=some (ds.map dB.er)
 |[],ds,h=>by simp only[Nt] at h;injection h with h;subst h;rfl
 |v::vs,ds,h=>by simp only[Nt] at h;split at h;rename_i ag cs a;split at h;rename_i l hl;split at h;rename_i CI hd;injection h with h;subst h;simp only[AN,F0,SV.pH a,Nj hl,alt hd,dB.er];cases ag<;>rfl;cases h;cases h;cases h
def YS (T:List aF) (d:Option Nat) (f:FuncId) (as:List SV) (σ:aq) (k:aq->Option ρ):Option ρ:=
 match aF.uW 2 T f with
 |some fn=>match Nt as with
  |some ds=>match tu fn.args ds with
   |some x=>(fn.F x).ae fun y=>match((mF fn.aJ y).drop (fn.aJ.length - vr fn.args)).flatMap (·.2) with
    |[]=>match Gd ((mF fn.aJ y).take (fn.aJ.length - vr fn.args)) with
     |some ls=>k (σ.put d (Gm ls))
     |none=>none
    |_=>none
   |none=>none
  |none=>none
 |none=>none
theorem aAd {T:List aF} {d:Option Nat} {f:FuncId} {as:List SV} {σ:aq} {k:aq->Option ρ} {r:ρ} (h:YS T d f as σ k=some r): ∃v:SV,ER (eE T) f (as.map SV.er)=some v.er/\k (σ.put d v)=some r:=by unfold YS at h;split at h;rename_i fn g;split at h;rename_i ds hd;split at h;rename_i x hx;rw[gw] at h;obtain⟨y,e,h⟩:=h;split at h;rename_i b;split at h;rename_i ls c;refine⟨_,?_,h⟩;have a:fn.MV (eZ fn.args x)=some (((mF fn.aJ y).take (fn.aJ.length - vr fn.args)).map dB.er,[]):=(by unfold aF.MV;rw[aF.Ct,e];simp only[wt];rw[<-AE,JZ,b];rfl);simp only[ER,alt hd,aF.acm g,yg hx,a,Q7 c,J1];cases h;cases h;cases h;cases h;cases h
def YT (T:List aF) (d:Option Nat) (f:FuncId) (as:List SV) (σ:aq) (k:aq->Option ρ):Option ρ:=
 match aF.uW 3 T f with
 |some fn=>match fn.mu.iq with
  |3=>match Gj as with
   |some fW=>match Eb fn.mu.tl fW with
    |[n]=>JV σ.h (Ni σ.h [n]) fn.mu.tl fW fun ds its=>match its with
     |[(.row n',_)]=>eu n' n (match σ.h n with
      |some (.row _ _ ts xs)=>match tu fn.args ds with
       |some x=>(fn.F x).ae fun y=>match mF fn.aJ y with
        |[(.one,[⟨.int _,a⟩]),(.one,[⟨.int _,b⟩])]=>(jB a b (ab xs)).ae fun p=>k (σ.put d (.one (.sl n ts.length p.1 p.2)))
        |_=>none
       |none=>none
      |_=>none)
     |_=>none
    |_=>none
   |none=>none
  |_=>none
 |none=>none
theorem aAe {T:List aF} {d:Option Nat} {f:FuncId} {as:List SV} {σ:aq} {k:aq->Option ρ} {r:ρ} (h:YT T d f as σ k=some r): ∃v:SV,uU (eE T) f (as.map SV.er) σ.er.h=some v.er/\k (σ.put d v)=some r:=by unfold YT at h;split at h;rename_i fn u;split at h;rename_i C1;split at h;rename_i fW m;split at h;rename_i n hn;obtain⟨ds,its,g,c⟩:=RG h;split at c;rename_i n' md;have t:=(bW c).1;replace c:=(bW c).2;subst t;split at c;rename_i s o ts xs w;split at c;rename_i x hx;rw[gw] at c;obtain⟨y,q,c⟩:=c;split at c;rename_i ka a kb b hy;rw[gw] at c;obtain⟨p,e,c⟩:=c;refine⟨_,?_,c⟩;unfold jB at e;split at e;rename_i eO;injection e with e;subst e;have l:fn.MW (eZ fn.args x)=some (Int.toNat a,Int.toNat (@HSub.hSub Int Int Int instHSub b a)):=(by unfold aF.MW;rw[aF.Ct,q];simp only[wt,zak];rw[<-AE,hy];rfl);have i:σ.er.h=e8 σ.h:=rfl;have j:σ.er.h n'=some (.row s o ts.length (By (Ty.bu ts) xs)):=(by simp[aq.er,e8,w,SB.er]);rw[Y0] at g;simp only[uU,aF.acn u,RE m,RF,hn,i,g,yg hx,l];rw[i] at j;simp only[j,if_true];rfl;cases e;cases c;cases c;cases c;cases c;cases h;cases h;cases h;cases h
inductive fA where
 |mv (x:eK)
 |pick (c x y:eK)
 |alloc (zs:List SC)
 |box (sz:Nat) (x:eK)
 |build (zs:List SC) (parts:List (Nat×Nat×eK))
 |gk (ts:List Ty) (parts:List eK)
 |load (ag:Bool) (sz:Nat) (x:eK)
 |store (sz:Nat) (x v:eK)
 |bin (op:BinOp) (x y:eK)
 |qV (op:BinOp) (x y:eK)
 |un (op:UnOp) (x:eK)
 |ji (m:Mode) (ts:List Ty) (by_:Nat) (z:Ty.DL ts) (l c:eK)
 |slice (sz:Nat) (x:eK) (lo hi:Option eK)
 |rQ (off:Nat) (x:eK)
 |ru (sz:Nat) (x i:eK)
 |ext (i:Nat) (x:eK)
 |len (x:eK)
 |append (fl:Bool) (ts:List Ty) (by_:Nat) (x y:eK)
 |mm (mx:Bool) (x y:eK)
 |call (m:Mode) (f:FuncId) (xs:List eK)
 |qW (f:FuncId) (xs:List eK)
 |vR (t:Ty) (z:t.D) (x:eK)
 |kH (m:Mode) (f:FuncId) (xs:List eK)
 |tR (f:FuncId) (xs:List eK)
 |qX (f:FuncId) (xs:List eK)
 |pG (f:FuncId) (xs:List eK)
 |tT (m:Mode) (f:FuncId) (xs:List eK)
def ay4:Ty->Bool
 |.list _=>false
 |_=>true
def Js:List Ty->Bool
 |[]=>true
 |t::ts=>ay4 t&&Js ts
theorem aiy:∀{ts:List Ty} (e:Ty.DL ts),Js ts=true->∀x∈Ty.bu ts e,x.gU=true
 |[],e,_,x,hx=>by cases hx
 |[t],e,h,x,hx=>by simp only[Js,zaN] at h;simp only[Ty.bu,zaT] at hx;subst hx;cases t with|list ts=>cases h|_=>rfl
 |t::u::ts,e,h,x,hx=>by rw[Js,IN] at h;simp only[Ty.bu,zab] at hx;rcases hx with rfl|hx;(cases t with|list ts=>cases h.1|_=>rfl);exact aiy (ts:=u::ts) e.2 h.2 x hx
def fA.er:fA->eB
 |.mv x=>.mv x.er
 |.pick c x y=>.pick c.er x.er y.er
 |.alloc zs=>.alloc (zs.map SC.er)
 |.box sz x=>.box sz x.er
 |.build zs ps=>.build (zs.map SC.er) (ps.map fun p=>(p.1,p.2.1,p.2.2.er))
 |.gk ts ps=>cond (Js ts) (.Av ts.length (ps.map eK.er)) (.gk ts.length (ps.map eK.er))
 |.load ag sz x=>.load ag sz x.er
 |.store sz x v=>.store sz x.er v.er
 |.bin op x y=>.bin op x.er y.er
 |.qV op x y=>.qV op x.er y.er
 |.un op x=>.un op x.er
 |.ji m ts by_ z l c=>.ji m ts.length by_ (Ty.bu ts z) l.er c.er
 |.slice sz x lo hi=>.slice sz x.er (lo.map eK.er) (hi.map eK.er)
 |.rQ off x=>.rQ off x.er
 |.ru sz x i=>.ru sz x.er i.er
 |.ext i x=>.ext i x.er
 |.len x=>.len x.er
 |.append fl ts by_ x y=>.append fl ts.length by_ x.er y.er
 |.mm b x y=>.mm b x.er y.er
 |.call m f xs=>.call m f (xs.map eK.er)
 |.qW f xs=>.qW f (xs.map eK.er)
 |.vR t z x=>.vR (t.er z) x.er
 |.kH m f xs=>.kH m f (xs.map eK.er)
 |.tR f xs=>.tR f (xs.map eK.er)
 |.qX f xs=>.qX f (xs.map eK.er)
 |.pG f xs=>.pG f (xs.map eK.er)
 |.tT m f xs=>.tT m f (xs.map eK.er)
theorem AL (σ:aq) (xs:List eK):(xs.map eK.er).map σ.er.ev=(xs.map σ.ev).map SV.er:=by simp[aq.h9]
def Nv (ev:eK->SV):List SC->List (Nat×Nat×eK)->Option (List SC)
 |zs,[]=>some zs
 |zs,(off,sz,x)::ps=>match(ev x).cells? with
  |some (_,cs)=>eu cs.length sz (iC (zaf (off+sz) zs.length) (Nv ev (e9 zs off cs) ps))
  |none=>none
theorem alD {σ:aq}:∀{ps:List (Nat×Nat×eK)} {a cs:List SC},Nv σ.ev a ps=some cs-> vB σ.er.ev (a.map SC.er) (ps.map fun p=>(p.1,p.2.1,p.2.2.er))=some (cs.map SC.er)
 |[],a,cs,h=>by simp only[Nv] at h;injection h with h;subst h;rfl
 |(off,sz,x)::ps,a,cs,h=>by simp only[Nv] at h;split at h;rename_i b cs1 f;have g:=(bW h).1;replace h:=(bW h).2;subst g;have d:=(d9 h).1;replace h:=(d9 h).2;have c:=alD h;rw[JY] at c;have e:=zat d;simp only[AN,vB,aq.h9,SV.pH f,BY,e,and_self,if_true,c];cases h
def Q5 (l:List TD):Bool:=l.all fun x=>x.1.gU
theorem az7 (l:List TD):jb (eM l)=Q5 l:=by simp[jb,eM,Q5,List.all_map,Function.comp_def,Ty.D1]
def Zr (σ:aq) (n:Nat) (gr:Bool) (m:Mode) (ts:List Ty) (xs:List (Ty.DL ts)) (kk off:Nat) (e:Ty.DL ts) (vs:List SC) (k:aq->Option ρ):Option ρ:=
 match sub (Ty.jT ts e) off vs.length with
 |none=>none
 |some lG=>J7 σ vs fun cs o σ1=>match wI ts (e9 (Ty.jT ts e) off cs) with
  |none=>none
  |some e'=>match m with
   |.live=>iC (Q5 cs&&Q5 lG&&(σ1.h n).isSome&& !gr) (k (σ1.gu n (.row gr .live ts (bB xs kk e'))))
   |.bq=>iC (σ1.h n).isSome (k (σ1.gu n (.row gr (match o with|true=>.bq|false=>.bn) ts (bB xs kk e'))))
   |.bn=>iC (σ1.h n).isSome (k (σ1.gu n (.row gr .bn ts (bB xs kk e'))))
theorem abT (h:Nat->Option SB) (n:Nat):(e8 h n).isSome=(h n).isSome:=by unfold e8;cases h n<;>rfl
theorem aAO {σ:aq} {n:Nat} {p:Bool} {m:Mode} {ts:List Ty} {xs:List (Ty.DL ts)} {d off:Nat} {e:Ty.DL ts} {vs:List SC} {k:aq->Option ρ} {r:ρ} (h:Zr σ n p m ts xs d off e vs k=some r): ∃σ1:aq,uB σ.er n p m ts.length (By (Ty.bu ts) xs) d off (Ty.bu ts e) (vs.map SC.er)=some σ1.er/\k σ1=some r:=by unfold Zr at h;split at h;cases h;rename_i t q;obtain⟨cs,o,σ1,j,a⟩:=RU h;have b:sub (Ty.bu ts e) off (vs.map SC.er).length=some (eM t):=(by rw[<-Ty.tW];simp only[eM];rw[yo,BY,q];rfl);split at a;cases a;rename_i f s;have i:e9 (Ty.bu ts e) off (eM cs)=Ty.bu ts f:=(by rw[DD s,<-Ty.tW];simp only[eM];rw[<-JY]);have l:(By (Ty.bu ts) xs).set d (Ty.bu ts f)=By (Ty.bu ts) (bB xs d f):=(by show _=By (Ty.bu ts) (xs.set d f);rw[zau]);have g:σ1.er.h n=(σ1.h n).map SB.er:=rfl;split at a;have c:=(d9 a).1;replace a:=(d9 a).2;simp only[IN,zaW] at c;refine⟨_,?_,a⟩;simp only[uB,b,j,if_true,az7,c.1.1.1,c.1.1.2,g,zaK,c.1.2,c.2,and_self,i,l,aq.vY,SB.er];have c:=(d9 a).1;replace a:=(d9 a).2;refine⟨_,?_,a⟩;cases o<;>simp only[uB,b,j,g,zaK,c,i,l,aq.vY,SB.er,reduceCtorEq,if_false,if_true,zac,cond_true,cond_false,ite_self];have c:=(d9 a).1;replace a:=(d9 a).2;refine⟨_,?_,a⟩;cases o<;>simp only[uB,b,j,g,zaK,c,i,l,aq.vY,SB.er,reduceCtorEq,if_false,if_true,zac,cond_true,cond_false,ite_self]
def CC (us ts:List Ty) (xs:List (Ty.DL us)):Option (List (Ty.DL ts)):=if h:Ty.xu us ts=true then some (Ty.xv h▸xs) else none
theorem Uf {us ts:List Ty} {xs:List (Ty.DL us)} {ys:List (Ty.DL ts)} (h:CC us ts xs=some ys):us.length=ts.length/\By (Ty.bu us) xs=By (Ty.bu ts) ys/\xs.length=ys.length:=by unfold CC at h;split at h;rename_i a;have:=Ty.xv a;subst this;injection h with h;rw[<-h];exact⟨rfl,rfl,rfl⟩;cases h
def YJ (σ:aq) (ts:List Ty) (v:SV) (k:List (Ty.DL ts)->Mode->aq->Option ρ):Option ρ:=
 match v with
 |.one (.nil _)=>k [] .bq σ
 |.one (.sl a s lo len)=>match σ.h a with
  |some (.row true m us xs)=>eu s ts.length (eu lo 0 (match CC us ts xs with
   |some ys=>(aO lo len (ab ys)).ae fun _=>k ys m (σ.del a)
   |none=>none))
  |_=>none
 |_=>none
theorem adM {lo len l:Nat} {u:Unit} (h:aO lo len l=some u):lo=0/\len=l:=by unfold aO at h;split at h;rename_i a;exact a;cases h
theorem az2 {σ:aq} {ts:List Ty} {v:SV} {k:List (Ty.DL ts)->Mode->aq->Option ρ} {r:ρ} (h:YJ σ ts v k=some r): ∃(xs:List (Ty.DL ts)) (m:Mode) (σ1:aq),yN σ.er ts.length v.er=some (By (Ty.bu ts) xs,m,σ1.er)/\k xs m σ1=some r:=by unfold YJ at h;split at h;exact⟨[],.bq,σ,rfl,h⟩;rename_i a s lo len;split at h;rename_i m us xs hn;have c:=(bW h).1;replace h:=(bW h).2;subst c;have c:=(bW h).1;replace h:=(bW h).2;subst c;split at h;rename_i ys e;obtain⟨d,f,c3⟩:=Uf e;rw[gw] at h;obtain⟨_,i,h⟩:=h;obtain⟨_,b⟩:=adM i;replace b:len=ys.length:=b;refine⟨ys,m,σ.del a,?_,h⟩;have g:σ.er.h a=some (.row true m ts.length (By (Ty.bu ts) ys)):=(by simp[aq.er,e8,hn,SB.er,d,f]);subst b;simp only[SV.er,SC.er,yN,g,BY,and_self,if_true,aq.OU];cases h;cases h;cases h
theorem akT (ts:List Ty) (xs:List (Ty.DL ts)) (h:Ty.jb ts=true):jm (By (Ty.bu ts) xs)=true:=by simp only[jm,zax,zag];rintro _ ⟨e,_,rfl⟩;rw[Ty.Nd];exact h
def YK (fl:Bool) (σ:aq) (ts:List Ty) (m:Mode) (v:SV) (k:List (Ty.DL ts)->Mode->aq->Option ρ):Option ρ:=
 match v with
 |.one (.nil _)=>k [] m σ
 |.one (.v (.list us) ys)=>match CC us ts ys with
  |some zs=>match fl with
   |true=>iC (Ty.jb ts) (k zs m σ)
   |false=>match m with
    |.live=>none
    |_=>k zs .bn σ
  |none=>none
 |.one (.sl b s lo len)=>match σ.h b with
  |some (.row gr m' us ys)=>eu s ts.length (match CC us ts ys with
   |some zs=>match fl with
    |true=>iC (Ty.jb ts) ((bc zs lo len).ae fun ws=>k ws m σ)
    |false=>(aO lo len (ab zs)).ae fun _=>match m,m' with
     |.bq,.bq=>k zs .bq (σ.del b)
     |.live,.live=>iC gr (k zs .live (σ.del b))
     |.bn,.bn=>k zs .bn (σ.del b)
     |.bq,.bn=>k zs .bn (σ.del b)
     |.bn,.bq=>k zs .bn (σ.del b)
     |_,_=>none
   |none=>none)
  |_=>none
 |_=>none
theorem az3 {fl:Bool} {σ:aq} {ts:List Ty} {m:Mode} {v:SV} {k:List (Ty.DL ts)->Mode->aq->Option ρ} {r:ρ} (h:YK fl σ ts m v k=some r):
  ∃(ys:List (Ty.DL ts)) (m2:Mode) (σ1:aq),sO fl σ.er ts.length m v.er=some (By (Ty.bu ts) ys,m2,σ1.er)/\k ys m2 σ1=some r:=by
 unfold YK at h;split at h
 ·exact⟨[],m,σ,rfl,h⟩
 ·rename_i us ys;split at h
  ·rename_i a f;obtain⟨d,j,t⟩:=Uf f;have l:Ty.er (.list us) ys=.list ts.length (By (Ty.bu ts) a):=by rw[<-d,<-j];rfl
   split at h
   ·have g:=(d9 h).1;replace h:=(d9 h).2;refine⟨a,m,σ,?_,h⟩;simp only[SV.er,SC.er,l,sO,if_true,za7,akT ts a g]
   ·split at h
    ·cases h
    ·rename_i hm;refine⟨a,.bn,σ,?_,h⟩;have z:m≠ .live:=fun e=>hm e;simp only[SV.er,SC.er,l,sO,if_true,Bool.false_and,zac,if_false,ak z]
  ·cases h
 ·rename_i b s lo len;split at h
  ·rename_i u n us ys hn;have q:=(bW h).1;replace h:=(bW h).2;subst q;split at h
   ·rename_i a f;obtain⟨d,j,t⟩:=Uf f;have i:σ.er.h b=some (.row u n ts.length (By (Ty.bu ts) a)):=by simp[aq.er,e8,hn,SB.er,d,j]
    split at h
    ·have g:=(d9 h).1;replace h:=(d9 h).2;rw[gw] at h;obtain⟨ws,p,h⟩:=h;obtain⟨o,x⟩:=aml p;refine⟨ws,m,σ,?_,h⟩;simp only[SV.er,SC.er,sO,i,BY,o,x,and_self,if_true,za7,akT ts ws g]
    ·rw[gw] at h;obtain⟨_,y,h⟩:=h;obtain⟨rfl,c⟩:=adM y
     replace c:len=a.length:=c
     subst c;have zl:zba a.length (By (Ty.bu ts) a)=By (Ty.bu ts) a:=by
      rw[List.take_of_length_le];simp
     cases m<;>cases n<;>first
      |(cases h;done)
      |exact⟨a,_,σ.del b,by simp[SV.er,SC.er,sO,i,aq.OU],h⟩
      |exact⟨a,_,σ.del b,by have w:=(d9 h).1;subst w;simp[SV.er,SC.er,sO,i,aq.OU],(d9 h).2⟩
   ·cases h
  ·cases h
 ·cases h
end
end
theorem avA {α β:Type} (f:α->β) {l:List α} {i:Nat} {e:α} (h:l[i]? =some e):(l.map f)[i]? =some (f e):=by rw[AT,h];rfl
section
variable {ρ:Type}
def ML:Bool->Mode
 |true=>.bq
 |false=>.bn
theorem axR (o:Bool):(if o=true then Mode.bq else .bn)=ML o:=by cases o<;>rfl
def QD (σ:aq) (d:Int) (o:Option eK):Option Int:=
 match o with
 |none=>some d
 |some q=>(σ.ev q).fZ
theorem QE {σ:aq} {d l:Int} {o:Option eK} (h:QD σ d o=some l):(match o.map eK.er with|none=>some d|some q=>(σ.er.ev q).fZ)=some l:=by cases o with|none=>exact h|some q=>simp only[wt,aq.h9];exact SV.I3 h
def Gc:List SC->Option (List TD)
 |[]=>some []
 |.v t x::l=>match t.gU with
  |true=>match Gc l with
   |some ds=>some (⟨t,x⟩::ds)
   |none=>none
  |false=>none
 |_::_=>none
theorem akY:∀{vs:List SC} {ds:List TD},Gc vs=some ds->qi (vs.map SC.er)=some (eM ds)
 |[],ds,h=>by simp only[Gc] at h;injection h with h;subst h;rfl
 |c::vs,ds,h=>by cases c with|v t x=>simp only[Gc] at h;split at h;rename_i a;split at h;rename_i l hl;injection h with h;subst h;simp only[AN,SC.er,qi,Ty.D1,a,if_true,akY hl,eM,wt];cases h;cases h|_=>simp[Gc] at h
def Zp (us:List Ty) (e:Ty.DL us) (off s i:Nat) (vs:List SC) (k:Ty.DL us->Option ρ):Option ρ:=
 match(Ty.jT us e)[off]? with
 |some ⟨.list ts,ys⟩=>eu ts.length s (eu vs.length s (iC (Ty.jb ts) ((bQ (α:=Ty.DL ts) ys i).ae fun _=>match Gc vs with
  |some ds=>match wI ts ds with
   |some el=>match Nf us e off ⟨.list ts,bB (α:=Ty.DL ts) ys i el⟩ with
    |some e'=>k e'
    |none=>none
   |none=>none
  |none=>none)))
 |_=>none
theorem aAj {us ts:List Ty} {xs:List (Ty.DL us)} {b off i:Nat} {e d:Ty.DL us} {vs:List SC} {ds:List TD} {c l:Ty.DL ts} (ys:List (Ty.DL ts)) (k:xs[b]? =some e) (hd:(Ty.jT us e)[off]? =some ⟨.list ts,ys⟩) (n:vs.length=ts.length) (j:Ty.jb ts=true) (hy:ys[i]? =some l) (f:Gc vs=some ds) (g:wI ts ds=some c) (h:Nf us e off ⟨.list ts,bB ys i c⟩=some d): Ge (By (Ty.bu us) xs) b off ts.length i (vs.map SC.er)=some (By (Ty.bu us) (bB xs b d)):=by have o:(Ty.bu us e)[off]? =some (.list ts.length (By (Ty.bu ts) ys)):=OH hd;have hx:(By (Ty.bu us) xs)[b]? =some (Ty.bu us e):=(by rw[AT,k];rfl);have m:i<(By (Ty.bu ts) ys).length:=(by rw[BY];exact(If.1 hy).1);have a:Ty.bu us d=(Ty.bu us e).set off (.list ts.length (By (Ty.bu ts) (bB ys i c))):=YV h;unfold Ge;rw[hx,zak,o];simp only;rw[aj ⟨trivial,by simpa using n,m,Ga ts ys j⟩,akY f,zaw,hx];simp only[wt,Option.getD_some];unfold bB at a⊢;rw[zau,a,zau,DD g]
theorem aAM {us:List Ty} {xs:List (Ty.DL us)} {b:Nat} {e:Ty.DL us} {off s i:Nat} {vs:List SC} {k:Ty.DL us->Option ρ} {r:ρ} (l:xs[b]? =some e) (h:Zp us e off s i vs k=some r): ∃a,Ge (By (Ty.bu us) xs) b off s i (vs.map SC.er)=some (By (Ty.bu us) (bB xs b a))/\k a=some r:=by unfold Zp at h;split at h;rename_i ts ys hd;have j:=(bW h).1;replace h:=(bW h).2;have m:=(bW h).1;replace h:=(bW h).2;have g:=(d9 h).1;replace h:=(d9 h).2;rw[gw] at h;obtain⟨y0,hy,h⟩:=h;split at h;rename_i ds c;split at h;rename_i el d;split at h;rename_i a f;subst j;exact⟨a,aAj ys l hd m g hy c d f,h⟩;cases h;cases h;cases h;cases h
def j5 (T:List aF) (d:Option Nat) (op:fA) (σ:aq) (k:aq->Option ρ):Option ρ:=
 match op with
 |.mv x=>k (σ.put d (σ.ev x))
 |.pick c x y=>match σ.ev c with
  |.one (.v .bool b)=>match σ.ev x,σ.ev y with
   |.one (.v t x'),.one (.v u y')=>match Ty.cast u t y' with
    |some z=>k (σ.put d (.one (.v t (au b x' z))))
    |none=>au b (k (σ.put d (σ.ev x))) (k (σ.put d (σ.ev y)))
   |_,_=>au b (k (σ.put d (σ.ev x))) (k (σ.put d (σ.ev y)))
  |_=>none
 |.alloc zs=>match d with
  |some n=>match σ.ins n (.box zs) with
   |some σ1=>k (σ1.put d (.one (.ptr n 0 0 0)))
   |none=>none
  |none=>none
 |.box sz x=>match d,(σ.ev x).cells? with
  |some n,some (_,cs)=>eu cs.length sz (match σ.ins n (.box cs) with
   |some σ1=>k (σ1.put d (.one (.ptr n 0 0 0)))
   |none=>none)
  |_,_=>none
 |.build zs parts=>match Nv σ.ev zs parts with
  |some cs=>k (σ.put d (.agg cs))
  |none=>none
 |.gk ts parts=>match d with
  |some n=>RT ts σ (parts.map σ.ev) fun es o σ1=>match σ1.ins n (.row true (ML o) ts es) with
   |some σ2=>k (σ2.put d (.one (.sl n ts.length 0 es.length)))
   |none=>none
  |none=>none
 |.load ag sz x=>match σ.ev x with
  |.one p=>RD σ.h p sz fun cs=>k (σ.put d (NC ag cs))
  |_=>none
 |.store sz x v=>match σ.ev x,(σ.ev v).cells? with
  |.one (.ptr n kk aZ off),some (_,vs)=>eu vs.length sz (match σ.h n with
   |some (.box cs)=>eu kk 0 (iC (zaf (off+sz) cs.length) (k (σ.gu n (.box (e9 cs off vs)))))
   |some (.row gr m ts xs)=>eu aZ ts.length ((bQ xs kk).ae fun e=>Zr σ n gr m ts xs kk off e vs k)
   |none=>none)
  |.one (.ez n kk aZ off s i),some (_,vs)=>eu vs.length sz (match σ.h n with
   |some (.row false .live us xs)=>eu aZ us.length ((bQ xs kk).ae fun e=>Zp us e off s i vs fun e'=>k (σ.gu n (.row false .live us (bB xs kk e'))))
   |_=>none)
  |_,_=>none
 |.bin op x y=>T6 op (σ.ev x) (σ.ev y) fun t z=>k (σ.put d (.one (.v t z)))
 |.qV op x y=>T5 op (σ.ev x) (σ.ev y) fun t z=>k (σ.put d (.one (.v t z)))
 |.un op x=>ZP op (σ.ev x) fun t z=>k (σ.put d (.one (.v t z)))
 |.ji m ts by_ z l c=>match d,(σ.ev l).fZ,(σ.ev c).fZ with
  |some n,some a,some b=>(kB a b by_).ae fun len=>match σ.ins n (.row true m ts (cR len z)) with
   |some σ1=>k (σ1.put d (.one (.sl n ts.length 0 len)))
   |none=>none
  |_,_,_=>none
 |.slice sz x lo hi=>
  match σ.ev x,QD σ 0 lo with
  |.one (.sl n s l0 len),some l=>
   match QD σ (aD len) hi with
   |some h=>eu s sz (iC (σ.h n).isSome ((jB l h len).ae fun p=>k (σ.put d (.one (.sl n s (av l0 p.1) p.2)))))
   |none=>none
  |.one (.v (.list ts) xs),some l=>
   match QD σ (aD (ab (α:=Ty.DL ts) xs)) hi with
   |some h=>eu ts.length sz ((jB l h (ab (α:=Ty.DL ts) xs)).ae fun p=>k (σ.put d (.one (.v (.list ts) (fU (α:=Ty.DL ts) xs p.1 p.2)))))
   |none=>none
  |_,_=>none
 |.rQ off x=>match σ.ev x with
  |.one (.ptr n kk sz o)=>iC (σ.h n).isSome (k (σ.put d (.one (.ptr n kk sz (o+off)))))
  |.one (.eU ts x o)=>k (σ.put d (.one (.eU ts x (o+off))))
  |.one (.dW ts x o j n s len)=>k (σ.put d (.one (.dW ts x (o+off) j n s len)))
  |_=>none
 |.ru sz x i=>match σ.ev x,(σ.ev i).fZ with
  |.one (.sl n s lo len),some j=>eu s sz (iC (σ.h n).isSome ((cN j len).ae fun q=>k (σ.put d (.one (.ptr n (av lo q) s 0)))))
  |.one (.v (.list ts) xs),some j=>eu ts.length sz ((bF (α:=Ty.DL ts) xs j).ae fun e=>k (σ.put d (.one (.eU ts e 0))))
  |.one (.cG n kk aZ off s len),some j=>Ef σ.h (.cG n kk aZ off s len) fun t x=>match t,x with
   |.list ts,ys=>eu ts.length sz ((cN j (ab (α:=Ty.DL ts) ys)).ae fun q=>k (σ.put d (.one (.ez n kk aZ off sz q))))
   |_,_=>none
  |_,_=>none
 |.ext i x=>match σ.ev x with
  |.dh xs=>match xs[i]? with
   |some (ag,cs)=>k (σ.put d (NC ag cs))
   |none=>none
  |_=>none
 |.len x=>match σ.ev x with
  |.one (.sl n sz lo len)=>iC (σ.h n).isSome (k (σ.put d (.one (.v (.int .i64) (aD len)))))
  |.one (.v (.list ts) xs)=>k (σ.put d (.one (.v (.int .i64) (aD (ab (α:=Ty.DL ts) xs)))))
  |.one (.nil ts)=>k (σ.put d (.one (.v (.int .i64) (0:Int))))
  |.one (.cG n kk aZ off sz len)=>Ef σ.h (.cG n kk aZ off sz len) fun t x=>match t,x with
   |.list ts,ys=>k (σ.put d (.one (.v (.int .i64) (aD (ab (α:=Ty.DL ts) ys)))))
   |_,_=>none
  |_=>none
 |.append fl ts by_ x y=>match d with
  |none=>none
  |some n=>YJ σ ts (σ.ev x) fun xs m σ1=>YK fl σ1 ts m (σ.ev y) fun ys m2 σ2=>
   (iN (av (ab xs) (ab ys)) by_).ae fun _=>match σ2.ins n (.row true m2 ts (dn xs ys)) with
    |some j6=>k (j6.put d (.one (.sl n ts.length 0 (av (ab xs) (ab ys)))))
    |none=>none
 |.mm mx x y=>match σ.ev x,σ.ev y with
  |.one (.v (.int kd) a),.one (.v (.int kd') b)=>match mx with
   |true=>k (σ.put d (.one (.v (.int kd) (wF a b))))
   |false=>k (σ.put d (.one (.v (.int kd) (iM a b))))
  |_,_=>none
 |.call m f xs=>YO T m d f (xs.map σ.ev) σ k
 |.qW f xs=>YQ T d f (xs.map σ.ev) σ k
 |.vR t z x=>match σ.ev x with
  |.one (.sl n s lo len)=>match σ.h n with
   |some (.row gr m ts xs)=>eu s 1 (iC (m.own&&t.gU) (match wI ts [⟨t,z⟩] with
    |some e=>(HP (α:=Ty.DL ts) xs lo len (cR len e)).ae fun aP=>k ((σ.gu n (.row gr m ts aP)).put d (.dh []))
    |none=>none))
   |_=>none
  |_=>none
 |.kH m f xs=>YR T m d f (xs.map σ.ev) σ k
 |.tR f xs=>YP T d f (xs.map σ.ev) σ k
 |.qX f xs=>YT T d f (xs.map σ.ev) σ k
 |.pG f xs=>YS T d f (xs.map σ.ev) σ k
 |.tT m f xs=>YU T m d f (xs.map σ.ev) σ k
theorem OW {σ:aq} {n:Nat} {b:SB} (h:σ.h n=some b):σ.er.h n=some b.er:=by simp[aq.er,e8,h]
theorem OV {σ:aq} {n:Nat} (h:(σ.h n).isSome=true):(σ.er.h n).isSome=true:=by simp only[aq.er,abT,h]
theorem ZR (t:Ty) (x:t.D):(SV.one (.v t x)).er=.one (.c (t.er x)):=rfl
theorem anP {ts:List Ty} {xs a ys:List (Ty.DL ts)} {lo len:Nat} (h:HP xs lo len ys=some a):lo+len<=xs.length/\By (Ty.bu ts) a=e9 (By (Ty.bu ts) xs) lo (By (Ty.bu ts) ys):=by unfold HP at h;split at h;rename_i b;injection h with h;subst h;exact⟨b,JY (Ty.bu ts) xs ys lo⟩;cases h
theorem aAk {T:List aF} {d:Option Nat} {op:fA} {σ:aq} {k:aq->Option ρ} {r:ρ} (h:j5 T d op σ k=some r):
  ∃σ1:aq,exec (eE T) d op.er σ.er=some σ1.er/\k σ1=some r:=by
 cases op with
 |mv x=>exact⟨_,by simp only[fA.er,exec,aq.gZ,aq.h9],h⟩
 |pick c x y=>
  simp only[j5] at h;split at h
  ·rename_i b L;have U:σ.er.ev c.er=.one (.c (.bool b)):=by rw[aq.h9,L];rfl
   have dY:∀σ1:aq,σ1.er=σ.er.put d (cond b (σ.ev x).er (σ.ev y).er)->exec (eE T) d (fA.er (.pick c x y)) σ.er=some σ1.er:=by
    intro σ1 e;simp only[fA.er,exec,U,aq.h9,e];cases b<;>rfl
   have gen:au b (k (σ.put d (σ.ev x))) (k (σ.put d (σ.ev y)))=some r->∃σ1:aq,exec (eE T) d (fA.er (.pick c x y)) σ.er=some σ1.er/\k σ1=some r:=by
    intro h;cases C:(b:Bool) with
    |true=>rw[C] at h;exact⟨_,dY _ (by rw[aq.gZ,C];rfl),h⟩
    |false=>rw[C] at h;exact⟨_,dY _ (by rw[aq.gZ,C];rfl),h⟩
   split at h
   ·rename_i t x' u y' ex ey;split at h
    ·rename_i z hz;refine⟨_,dY _ ?_,h⟩;rw[aq.gZ,ex,ey,ZR,ZR,ZR,Ty.Ug hz];cases (b:Bool)<;>rfl
    ·exact gen h
   ·exact gen h
  ·cases h
 |alloc zs=>
  simp only[j5] at h;split at h
  ·rename_i n;split at h
   ·rename_i σ1 e;have:=aq.AK e;exact⟨_,by simp only[fA.er,exec];rw[show bf.box (zs.map SC.er)=(SB.box zs).er from rfl,this,aq.gZ];rfl,h⟩
   ·cases h
  ·cases h
 |box sz x=>
  simp only[j5] at h;split at h
  ·rename_i n b cs L;have D:=(bW h).1;replace h:=(bW h).2;subst D;split at h
   ·rename_i σ1 e;have:=aq.AK e;refine⟨_,?_,h⟩;simp only[fA.er,exec,aq.h9,SV.pH L,BY,if_true];rw[show bf.box (cs.map SC.er)=(SB.box cs).er from rfl,this,aq.gZ];rfl
   ·cases h
  ·cases h
 |build zs parts=>
  simp only[j5] at h;split at h
  ·rename_i cs L;exact⟨_,by simp only[fA.er,exec,alD L,aq.gZ];rfl,h⟩
  ·cases h
 |gk ts parts=>
  simp only[j5] at h;split at h
  ·rename_i n;obtain⟨es,o,σ1,B,g⟩:=alE h;split at g
   ·rename_i σ2 e;have i:=aq.AK e;refine⟨_,?_,g⟩;have:(SB.row true (ML o) ts es).er=bf.row true (ML o) ts.length (By (Ty.bu ts) es):=rfl;cases A:Js ts with
    |true=>
     obtain⟨p1,p2,p3⟩:=alV B fun e G=>by
      obtain⟨y,_,rfl⟩:=zag.1 G;exact aiy y A
     simp only[fA.er,A,cond_true,exec,AL,p1,aq.gZ];rw[p2] at this i;rw[<-p3,show Mode.bq=ML true from rfl,<-this,i,BY]
     rfl
    |false=>
     simp only[fA.er,A,cond_false,exec,AL,B,aq.gZ];rw[axR,<-this,i,BY];rfl
   ·cases g
  ·cases h
 |load ag sz x=>
  simp only[j5] at h;split at h
  ·rename_i p A;obtain⟨l,B,g⟩:=ald h;have w:σ.er.ev x.er=.one p.er:=by rw[aq.h9,A];rfl
   have X:loadAt σ.er.h p.er sz=some (l.map SC.er):=B;exact⟨_,by simp only[fA.er,exec,w,X,aq.gZ,Sa],g⟩
  ·cases h
 |store sz x v=>
  simp only[j5] at h;split at h
  ·rename_i n H Q off b vs A L;have D:=(bW h).1;replace h:=(bW h).2;subst D;have w:σ.er.ev x.er=.one (.ptr n H Q off):=by rw[aq.h9,A];rfl
   have U:(σ.er.ev v.er).cells?=some (b,vs.map SC.er):=by rw[aq.h9];exact SV.pH L
   split at h
   ·rename_i cs hn;have D:=(bW h).1;replace h:=(bW h).2;subst D;have C:=(d9 h).1;replace h:=(d9 h).2;have gS:=zat C;refine⟨_,?_,h⟩;simp only[fA.er,exec,w,U,BY,if_true,OW hn,SB.er,gS,and_self,aq.vY,<-JY]
   ·rename_i gr m ts xs hn;have D:=(bW h).1;replace h:=(bW h).2;subst D;rw[gw] at h;obtain⟨e,G,h⟩:=h
    replace G:xs[H]? =some e:=G
    obtain⟨σ1,s1,s2⟩:=aAO h;refine⟨σ1,?_,s2⟩;have lA:(By (Ty.bu ts) xs)[H]? =some (Ty.bu ts e):=by rw[AT,G];rfl
    simp only[fA.er,exec,w,U,BY,if_true,OW hn,SB.er,lA,s1]
   ·cases h
  ·rename_i n H Q off s i b vs A L;have D:=(bW h).1;replace h:=(bW h).2;subst D;have w:σ.er.ev x.er=.one (.ez n H Q off s i):=by rw[aq.h9,A];rfl
   have U:(σ.er.ev v.er).cells?=some (b,vs.map SC.er):=by rw[aq.h9];exact SV.pH L
   split at h
   ·rename_i gr us xs hn;have D:=(bW h).1;replace h:=(bW h).2;subst D;rw[gw] at h;obtain⟨e,G,h⟩:=h
    replace G:xs[H]? =some e:=G
    obtain⟨e',s1,s2⟩:=aAM G h;refine⟨_,?_,s2⟩;simp only[fA.er,exec,w,U,BY,if_true,OW hn,SB.er,s1,aq.vY]
   ·cases h
  ·cases h
 |bin op x y=>
  simp only[j5] at h;obtain⟨t,z,B,g⟩:=am7 h;exact⟨_,by simp only[fA.er,exec,aq.h9,B,aq.gZ];rfl,g⟩
 |qV op x y=>
  simp only[j5] at h;obtain⟨t,z,B,g⟩:=am5 h;exact⟨_,by simp only[fA.er,exec,aq.h9,B,aq.gZ];rfl,g⟩
 |un op x=>
  simp only[j5] at h;obtain⟨t,z,B,g⟩:=aBa h;exact⟨_,by simp only[fA.er,exec,aq.h9,B,aq.gZ];rfl,g⟩
 |ji m ts by_ z l c=>
  simp only[j5] at h;split at h
  ·rename_i n a b ha C;rw[gw] at h;obtain⟨len,hm,h⟩:=h;unfold kB at hm;split at hm
   ·rename_i E;injection hm with hm;subst hm;split at h
    ·rename_i σ1 e;have i:=aq.AK e;have AU:(σ.er.ev l.er).fZ=some a:=by rw[aq.h9];exact SV.I3 ha
     have bD:(σ.er.ev c.er).fZ=some b:=by rw[aq.h9];exact SV.I3 C
     refine⟨_,?_,h⟩;have hz:(Ty.bu ts z).length=ts.length:=Ty.HZ ts z;have gd:(SB.row true m ts (cR a.toNat z)).er=bf.row true m ts.length (zaI a.toNat (Ty.bu ts z)):=by simp[SB.er,cR,zaU]
     have VG:a<=b/\0<=a/\b.toNat*by_<=eD/\(Ty.bu ts z).length=ts.length:=⟨E.1,E.2.1,E.2.2,hz⟩;simp only[fA.er,exec,AU,bD,aj VG,<-gd,i,aq.gZ];rfl
    ·cases h
   ·cases hm
  ·cases h
 |slice sz x lo K=>
  simp only[j5] at h;split at h
  ·rename_i n s l0 len l A el;have w:σ.er.ev x.er=.one (.sl n s l0 len):=by rw[aq.h9,A];rfl
   split at h
   ·rename_i P eh;have D:=(bW h).1;replace h:=(bW h).2;subst D;have C:=(d9 h).1;replace h:=(d9 h).2;rw[gw] at h;obtain⟨p,I,h⟩:=h;unfold jB at I;split at I
    ·rename_i E;injection I with I;subst I;refine⟨_,?_,h⟩;have N:s=s/\0<=l/\l<=P/\P<=len/\(σ.er.h n).isSome=true:=⟨rfl,E.1,E.2.1,E.2.2,OV C⟩;have M:=QE el;have F:=QE eh;rw[aq.gZ];cases lo with
     |none=>
      simp only[OF,zae] at M;subst M;cases K with
      |none=>
       simp only[OF,zae] at F;subst F;simp only[fA.er,exec,w,OF];exact aj ⟨trivial,N.2⟩
      |some q=>
       simp only[wt] at F;simp only[fA.er,exec,w,OF,wt,F];exact aj ⟨trivial,N.2⟩
     |some q0=>
      simp only[wt] at M;cases K with
      |none=>
       simp only[OF,zae] at F;subst F;simp only[fA.er,exec,w,OF,wt,M];exact aj ⟨trivial,N.2⟩
      |some q=>
       simp only[wt] at F;simp only[fA.er,exec,w,wt,M,F];exact aj ⟨trivial,N.2⟩
    ·cases I
   ·cases h
  ·rename_i ts xs l A el;have w:σ.er.ev x.er=.one (.c (.list ts.length (By (Ty.bu ts) xs))):=by rw[aq.h9,A];rfl
   split at h
   ·rename_i P eh;have D:=(bW h).1;replace h:=(bW h).2;subst D;rw[gw] at h;obtain⟨p,I,h⟩:=h;unfold jB at I;split at I
    ·rename_i E;injection I with I;subst I;refine⟨_,?_,h⟩;have N:ts.length=ts.length/\0<=l/\l<=P/\P<=(By (Ty.bu ts) xs).length:=⟨rfl,E.1,E.2.1,Int.le_trans E.2.2 (Int.le_of_eq (congrArg _ (BY (Ty.bu ts)).symm))⟩;have M:=QE el;have F:(match K.map eK.er with|none=>some (((By (Ty.bu ts) xs).length:Nat):Int)|some q=>(σ.er.ev q).fZ)=some P:=by rw[show(By (Ty.bu ts) xs).length=zaz (α:=Ty.DL ts) xs from BY (Ty.bu ts)];exact QE eh
     rw[aq.gZ];have Pz:By (Ty.bu ts) (zba (P - l).toNat (List.drop (α:=Ty.DL ts) l.toNat xs))=((By (Ty.bu ts) xs).drop l.toNat).take (P - l).toNat:=by
      rw[zaD];exact congrArg (zba (P - l).toNat) zaM
     refine Eq.trans ?_ (congrArg (fun q=>some (σ.er.put d (aE.one (.c (.list ts.length q))))) Pz.symm);cases lo with
     |none=>
      simp only[OF,zae] at M;subst M;cases K with
      |none=>
       simp only[OF,zae] at F;subst F;simp only[fA.er,exec,w,OF];exact aj ⟨trivial,N.2⟩
      |some q=>
       simp only[wt] at F;simp only[fA.er,exec,w,OF,wt,F];exact aj ⟨trivial,N.2⟩
     |some q0=>
      simp only[wt] at M;cases K with
      |none=>
       simp only[OF,zae] at F;subst F;simp only[fA.er,exec,w,OF,wt,M];exact aj ⟨trivial,N.2⟩
      |some q=>
       simp only[wt] at F;simp only[fA.er,exec,w,wt,M,F];exact aj ⟨trivial,N.2⟩
    ·cases I
   ·cases h
  ·cases h
 |rQ off x=>
  simp only[j5] at h;split at h
  ·rename_i n H sz o A;have C:=(d9 h).1;replace h:=(d9 h).2;have w:σ.er.ev x.er=.one (.ptr n H sz o):=by rw[aq.h9,A];rfl
   exact⟨_,by simp only[fA.er,exec,w,OV C,if_true,aq.gZ];rfl,h⟩
  ·rename_i ts y o A;have w:σ.er.ev x.er=.one (.eU (Ty.bu ts y) o):=by rw[aq.h9,A];rfl
   exact⟨_,by simp only[fA.er,exec,w,aq.gZ];rfl,h⟩
  ·rename_i ts y o j n s len A;have w:σ.er.ev x.er=.one (.dW (Ty.bu ts y) o j n s len):=by rw[aq.h9,A];rfl
   exact⟨_,by simp only[fA.er,exec,w,aq.gZ];rfl,h⟩
  ·cases h
 |ru sz x i=>
  simp only[j5] at h;split at h
  ·rename_i n s lo len j A K;have D:=(bW h).1;replace h:=(bW h).2;subst D;have C:=(d9 h).1;replace h:=(d9 h).2;rw[gw] at h;obtain⟨q,J,h⟩:=h;unfold cN at J;split at J
   ·rename_i E;injection J with J;subst J;have w:σ.er.ev x.er=.one (.sl n s lo len):=by rw[aq.h9,A];rfl
    have W:(σ.er.ev i.er).fZ=some j:=by rw[aq.h9];exact SV.I3 K
    refine⟨_,?_,h⟩;have VG:s=s/\0<=j/\j<len/\(σ.er.h n).isSome=true:=⟨rfl,E.1,E.2,OV C⟩;simp only[fA.er,exec,w,W,aq.gZ];exact aj ⟨trivial,VG.2⟩
   ·cases J
  ·rename_i ts xs j A K;have D:=(bW h).1;replace h:=(bW h).2;subst D;rw[gw] at h;obtain⟨e,G,h⟩:=h;unfold bF at G;split at G
   ·rename_i E;have w:σ.er.ev x.er=.one (.c (.list ts.length (By (Ty.bu ts) xs))):=by rw[aq.h9,A];rfl
    have W:(σ.er.ev i.er).fZ=some j:=by rw[aq.h9];exact SV.I3 K
    have lA:(By (Ty.bu ts) xs)[j.toNat]? =some (Ty.bu ts e):=avA (Ty.bu ts) G;refine⟨_,?_,h⟩;simp only[fA.er,exec,w,W,E,and_self,if_true,lA,aq.gZ];rfl
   ·cases G
  ·rename_i n H Q off s len j A K;obtain⟨t,y,B,g⟩:=J9 h;have w:σ.er.ev x.er=.one (.cG n H Q off s len):=by rw[aq.h9,A];rfl
   have W:(σ.er.ev i.er).fZ=some j:=by rw[aq.h9];exact SV.I3 K
   have X:eA σ.er.h (.cG n H Q off s len)=some (t.er y):=B;split at g
   ·rename_i ts ys;have D:=(bW g).1;replace g:=(bW g).2;subst D;rw[gw] at g;obtain⟨q,J,g⟩:=g;unfold cN at J;split at J
    ·rename_i E;injection J with J;subst J;refine⟨_,?_,g⟩;simp only[fA.er,exec,w,W,X,Ty.er,aq.gZ];exact aj ⟨trivial,E.1,by rw[show(By (Ty.bu ts) ys).length=ab (α:=Ty.DL ts) ys from BY (Ty.bu ts)];exact E.2⟩
    ·cases J
   ·cases g
  ·cases h
 |ext i x=>
  simp only[j5] at h;split at h
  ·rename_i xs A;split at h
   ·rename_i ag cs hg;have w:σ.er.ev x.er=.dh (xs.map fun x=>(x.1,x.2.map SC.er)):=by rw[aq.h9,A];rfl
    refine⟨_,?_,h⟩;simp only[fA.er,exec,w,AT,hg,wt,aq.gZ,Sa]
   ·cases h
  ·cases h
 |len x=>
  simp only[j5] at h;split at h
  ·rename_i n sz lo len A;have C:=(d9 h).1;replace h:=(d9 h).2;have w:σ.er.ev x.er=.one (.sl n sz lo len):=by rw[aq.h9,A];rfl
   exact⟨_,by simp only[fA.er,exec,w,OV C,if_true,aq.gZ];rfl,h⟩
  ·rename_i ts xs A;have w:σ.er.ev x.er=.one (.c (.list ts.length (By (Ty.bu ts) xs))):=by rw[aq.h9,A];rfl
   exact⟨_,by simp only[fA.er,exec,w,aq.gZ];exact congrArg (fun q:Nat=>some (σ.er.put d (aE.one (.c (.int .i64 (q:Int)))))) (BY (Ty.bu ts)),h⟩
  ·rename_i ts A;have w:σ.er.ev x.er=.one (.nil ts.length):=by rw[aq.h9,A];rfl
   exact⟨_,by simp only[fA.er,exec,w,aq.gZ];rfl,h⟩
  ·rename_i n H Q off sz len A;obtain⟨t,y,B,g⟩:=J9 h;have w:σ.er.ev x.er=.one (.cG n H Q off sz len):=by rw[aq.h9,A];rfl
   have X:eA σ.er.h (.cG n H Q off sz len)=some (t.er y):=B;split at g
   ·rename_i ts ys;exact⟨_,by simp only[fA.er,exec,w,X,Ty.er,aq.gZ];exact congrArg (fun q:Nat=>some (σ.er.put d (aE.one (.c (.int .i64 (q:Int)))))) (BY (Ty.bu ts)),g⟩
   ·cases g
  ·cases h
 |append fl ts by_ x y=>
  simp only[j5] at h;split at h
  ·cases h
  ·rename_i n;obtain⟨xs,m,σ1,B,g⟩:=az2 h;obtain⟨ys,m2,σ2,h3,S⟩:=az3 g;rw[gw] at S;obtain⟨_,hf,S⟩:=S;unfold iN at hf;split at hf
   ·rename_i C;split at S
    ·rename_i j6 e;have i:=aq.AK e;refine⟨_,?_,S⟩
     replace C:(xs.length+ys.length)*by_<=eD:=C
     have gd:(SB.row true m2 ts (dn xs ys)).er=bf.row true m2 ts.length (By (Ty.bu ts) xs++By (Ty.bu ts) ys):=by simp[SB.er,dn]
     simp only[fA.er,exec,aq.h9,B,h3,BY,C,if_true,<-gd,i,aq.gZ];rfl
    ·cases S
   ·cases hf
 |mm mx x y=>
  simp only[j5] at h;split at h
  ·rename_i Z a kd' b ex ey;have Y:σ.er.ev x.er=.one (.c (.int Z a)):=by rw[aq.h9,ex];rfl
   have V:σ.er.ev y.er=.one (.c (.int kd' b)):=by rw[aq.h9,ey];rfl
   split at h
   ·refine⟨_,?_,h⟩;rw[aq.gZ];simp only[fA.er,exec,Y,V,if_true];by_cases O:LT.lt (α:=Int) a b
    ·exact(aj O).trans (congrArg (fun q:Int=>some (σ.er.put d (aE.one (.c (.int Z q))))) (aj O:wF a b=b).symm)
    ·exact(ak O).trans (congrArg (fun q:Int=>some (σ.er.put d (aE.one (.c (.int Z q))))) (ak O:wF a b=a).symm)
   ·refine⟨_,?_,h⟩;rw[aq.gZ];simp only[fA.er,exec,Y,V,zac,if_false];by_cases O:LT.lt (α:=Int) b a
    ·exact(aj O).trans (congrArg (fun q:Int=>some (σ.er.put d (aE.one (.c (.int Z q))))) (aj O:iM a b=b).symm)
    ·exact(ak O).trans (congrArg (fun q:Int=>some (σ.er.put d (aE.one (.c (.int Z q))))) (ak O:iM a b=a).symm)
  ·cases h
 |call m f xs=>
  simp only[j5] at h;obtain⟨σ1,B,g⟩:=aAg h;exact⟨σ1,by simp only[fA.er,exec,AL];exact B,g⟩
 |vR t z x=>
  simp only[j5] at h;split at h
  ·rename_i n s lo len A;split at h
   ·rename_i gr m ts xs hn;have D:=(bW h).1;replace h:=(bW h).2;subst D;have C:=(d9 h).1;replace h:=(d9 h).2;simp only[IN] at C;split at h
    ·rename_i e G;rw[gw] at h;obtain⟨aP,L,h⟩:=h;refine⟨_,?_,h⟩;have w:σ.er.ev x.er=.one (.sl n 1 lo len):=by rw[aq.h9,A];rfl
     have mJ:Ty.bu ts e=[t.er z]:=DD G;have R:ts.length=1:=by
      have:=congrArg zaz mJ;rw[Ty.HZ] at this;exact this
     have r6:Ty.jb ts=true:=by
      have:=Ty.Nd ts e;rw[mJ] at this;simp only[Am.jb,zav,zaZ,zaN,Ty.D1,C.2] at this;exact this.symm
     obtain⟨c1,c2⟩:=anP L;have n9:m≠ .bn:=by rintro rfl;exact absurd C.1 (by simp[Mode.own])
     simp only[fA.er,exec,w,OW hn,SB.er];rw[aj ⟨trivial,R,by rw[Ty.D1];exact C.2,n9,Ga ts xs r6,by rw[BY];exact c1⟩];rw[aq.gZ,aq.vY];simp only[SB.er,c2,R,cR,zaU,mJ];rfl
    ·cases h
   ·cases h
  ·cases h
 |qW f xs=>
  simp only[j5] at h;obtain⟨v,B,g⟩:=aAb h;refine⟨_,?_,g⟩;simp only[fA.er,exec,AL];rw[B];simp only[aq.gZ]
 |kH m f xs=>
  simp only[j5] at h;obtain⟨σ1,B,g⟩:=aAc h;exact⟨σ1,by simp only[fA.er,exec,AL];exact B,g⟩
 |tR f xs=>
  simp only[j5] at h;obtain⟨σ1,B,g⟩:=aAa h;exact⟨σ1,by simp only[fA.er,exec,AL];exact B,g⟩
 |pG f xs=>
  simp only[j5] at h;obtain⟨v,B,g⟩:=aAd h;exact⟨σ.put d v,by simp only[fA.er,exec,AL,B,aq.gZ],g⟩
 |tT m f xs=>
  simp only[j5] at h;obtain⟨σ1,B,g⟩:=aAf h;exact⟨σ1,by simp only[fA.er,exec,AL];exact B,g⟩
 |qX f xs=>
  simp only[j5] at h;obtain⟨v,B,g⟩:=aAe h;exact⟨σ.put d v,by simp only[fA.er,exec,AL,B,aq.gZ],g⟩
structure f7 where
 dst:Option Nat
 op:fA
 guard:Option (Nat×Bool)
def f7.er (o:f7):eI:=⟨o.dst,o.op.er,o.guard⟩
def aq.lit (σ:aq) (n:Nat) (b:Bool):aq:={σ with env:=bj σ.env n (.one (.v .bool b))}
theorem aq.UI {σ:aq} {n:Nat} {b:Bool} (h:σ.env n=.one (.v .bool b)):(σ.lit n b).er=σ.er:=by have:bj σ.env n (.one (.v .bool b))=σ.env:=(by funext s;simp only[nt];split;rename_i a;subst a;exact h.symm;rfl);simp only[aq.lit,this]
def uA (T:List aF):List f7->aq->(aq->Option ρ)->Option ρ
 |[],σ,k=>k σ
 |o::os,σ,k=>match o.guard with
  |none=>j5 T o.dst o.op σ fun σ1=>uA T os σ1 k
  |some (s,vG)=>match σ.env s with
   |.one (.v .bool b)=>au b
    (match vG with
     |true=>j5 T o.dst o.op (σ.lit s true) fun σ1=>uA T os σ1 k
     |false=>uA T os ((σ.lit s true).put o.dst (.dh [])) k)
    (match vG with
     |true=>uA T os ((σ.lit s false).put o.dst (.dh [])) k
     |false=>j5 T o.dst o.op (σ.lit s false) fun σ1=>uA T os σ1 k)
   |.dh []=>uA T os (σ.put o.dst (.dh [])) k
   |_=>none
theorem Q8 {T:List aF}:∀{os:List f7} {σ:aq} {k:aq->Option ρ} {r:ρ},uA T os σ k=some r-> ∃σ1:aq,ic (eE T) (os.map f7.er) σ.er=some σ1.er/\k σ1=some r
 |[],σ,k,r,h=>⟨σ,rfl,h⟩
 |o::os,σ,k,r,h=>by obtain⟨d,op,g⟩:=o;have f:∀i:aq,i.er=σ.er->iY (eE T) (f7.er ⟨d,op,g⟩) σ.er=exec (eE T) d op.er σ.er->j5 T d op i (fun σ1=>uA T os σ1 k)=some r-> ∃σ1:aq,ic (eE T) ((⟨d,op,g⟩::os).map f7.er) σ.er=some σ1.er/\k σ1=some r:=(by intro i e p a;obtain⟨σ1,q,u⟩:=aAk a;obtain⟨σ2,l,m⟩:=Q8 u;rw[e] at q;exact⟨σ2,by simp only[AN,ic,p,q,l],m⟩);have n:∀i:aq,i.er=σ.er->iY (eE T) (f7.er ⟨d,op,g⟩) σ.er=some (σ.er.put d (.dh []))->uA T os (i.put d (.dh [])) k=some r-> ∃σ1:aq,ic (eE T) ((⟨d,op,g⟩::os).map f7.er) σ.er=some σ1.er/\k σ1=some r:=(by intro i e p a;obtain⟨σ2,l,m⟩:=Q8 a;rw[aq.gZ,e] at l;exact⟨σ2,by simp only[AN,ic,p];exact l,m⟩);cases g with|none=>exact f σ rfl rfl h|some g=>obtain⟨s,t⟩:=g;simp only[uA] at h;split at h;rename_i b a;have j:σ.er.env s=.one (.c (.bool b)):=(by show(σ.env s).er=_;rw[a];rfl);(cases hb:(b:Bool) with|true=>have e:(σ.lit s true).er=σ.er:=aq.UI (by rw[a,hb]);rw[hb] at h;simp only[KZ] at h;(cases t with|true=>exact f _ e (by simp[iY,f7.er,j,hb]) h|false=>exact n _ e (by simp[iY,f7.er,j,hb]) h)|false=>have e:(σ.lit s false).er=σ.er:=aq.UI (by rw[a,hb]);rw[hb] at h;simp only[HI] at h;cases t with|true=>exact n _ e (by simp[iY,f7.er,j,hb]) h|false=>exact f _ e (by simp[iY,f7.er,j,hb]) h);rename_i a;have j:σ.er.env s=.dh []:=(by show(σ.env s).er=_;rw[a];rfl);exact n σ rfl (by simp[iY,f7.er,j]) h;cases h
end
def SC.kS (n:Nat):SC->SC
 |.cG m k aZ off sz len=>match IS m n with
  |true=>.cC
  |false=>.cG m k aZ off sz len
 |.ez m k aZ off sz i=>match IS m n with
  |true=>.cC
  |false=>.ez m k aZ off sz i
 |x=>x
def SC.cut (n:Nat):SC->SC
 |.fn f fv=>.fn f (fv.map (SC.kS n))
 |.cG m k aZ off sz len=>SC.kS n (.cG m k aZ off sz len)
 |.ez m k aZ off sz i=>SC.kS n (.ez m k aZ off sz i)
 |.v t x=>.v t x
 |.nil ts=>.nil ts
 |.ptr m k sz off=>.ptr m k sz off
 |.eU ts x off=>.eU ts x off
 |.sl m sz lo len=>.sl m sz lo len
 |.dW ts x off j m sz len=>.dW ts x off j m sz len
 |.cC=>.cC
theorem SC.Us (n:Nat) (c:SC):(c.kS n).er=c.er.kS n:=by cases c with|cG m k a off sz len=>simp only[SC.kS,SC.er,ar.kS];cases IS m n<;>rfl|ez m k a off sz i=>simp only[SC.kS,SC.er,ar.kS];cases IS m n<;>rfl|_=>rfl
theorem SC.CF (n:Nat) (c:SC):(c.cut n).er=c.er.cut n:=by cases c with|fn f fv=>simp only[SC.cut,SC.er,ar.cut,SC.OY,zai];congr 1;exact zaa fun c _=>SC.Us n c|cG m k a off sz len=>exact SC.Us n (.cG m k a off sz len)|ez m k a off sz i=>exact SC.Us n (.ez m k a off sz i)|_=>rfl
theorem Ut (n:Nat) (cs:List SC):(cs.map (SC.cut n)).map SC.er=(cs.map SC.er).map (ar.cut n):=by simp only[zai];exact zaa fun c _=>SC.CF n c
def SV.cut (n:Nat):SV->SV
 |.one c=>.one (c.cut n)
 |.agg cs=>.agg (cs.map (SC.cut n))
 |.dh xs=>.dh (xs.map fun x=>(x.1,x.2.map (SC.cut n)))
theorem SV.CF (n:Nat) (v:SV):(v.cut n).er=v.er.cut n:=by cases v with|one c=>simp only[SV.cut,SV.er,aE.cut,SC.CF]|agg cs=>simp only[SV.cut,SV.er,aE.cut,Ut]|dh xs=>simp only[SV.cut,SV.er,aE.cut,zai];congr 1;exact zaa fun x _=>by simp only[zaV];rw[Ut]
def SB.cut (n:Nat):SB->SB
 |.box cs=>.box (cs.map (SC.cut n))
 |.row gr m ts xs=>.row gr m ts xs
theorem SB.CF (n:Nat) (b:SB):(b.cut n).er=b.er.cut n:=by cases b with|box cs=>simp only[SB.cut,SB.er,bf.cut,Ut]|row gr m ts xs=>rfl
def aq.cut (σ:aq) (n:Nat):aq:={σ with env:=fun s=>(σ.env s).cut n,h:=fun m=>match σ.h m with|some b=>some (b.cut n)|none=>none}
theorem aq.CF (σ:aq) (n:Nat):(σ.cut n).er=σ.er.cut n:=by simp only[aq.cut,aq.er,St.cut];congr 1;funext s;exact SV.CF n (σ.env s);funext m;simp only[e8];cases σ.h m with|none=>rfl|some b=>simp only[wt,SB.CF]
section
variable {ρ:Type}
structure KC where
 ia:Nat
 sz:Nat
 by_:Nat
 mx:eK
 ml:eK
 my:eK
 d:Nat
def KC.er (s:KC):yH:=⟨s.ia,s.sz,s.by_,s.mx.er,s.ml.er,s.my.er,s.d⟩
def RH (sp:KC) (σ:aq) (k:aq->Option ρ):Option ρ:=
 match σ.ev sp.mx,σ.ev sp.ml,σ.ev sp.my with
 |.one (.ptr n kk rs off),.one (.cG n' zD oH qK _ _),.one yc=>
  eu n' n (eu oH rs (eu qK off (eu (off+1) rs (iC (!(zaf aY n)) ((kq zD kk).ae fun _=>match σ.h n with
   |some (.row true .live ts xs)=>eu ts.length rs ((bQ xs kk).ae fun e=>match(Ty.jT ts e)[off]? with
    |some ⟨.list us,ls⟩=>eu us.length sp.sz (iC (Ty.jb us) (Ef σ.h yc fun t y=>match t,y with
     |.list vs,ys=>match Ty.cast (.list vs) (.list us) ys with
      |some zs=>(iN (av (ab (α:=Ty.DL us) ls) (ab (α:=Ty.DL us) zs)) sp.by_).ae fun _=>match Nf ts e off ⟨.list us,dn (α:=Ty.DL us) ls zs⟩ with
       |some e'=>k ((σ.cut n).gu n (.row true .live ts (bB xs kk e')))
       |none=>none
      |none=>none
     |_,_=>none))
    |_=>none)
   |_=>none)))))
 |_,_,_=>none
theorem az1 {a b:Nat} {u:Unit} (h:kq a b=some u):a=b:=by unfold kq at h;split at h;assumption;cases h
theorem aAB {sp:KC} {σ:aq} {k:aq->Option ρ} {r:ρ} (h:RH sp σ k=some r):∃σ1:aq,Jj sp.er σ.er=some σ1.er/\k σ1=some r:=by unfold RH at h;split at h;rename_i n kk rs off n' c A o K H s E R I;have f:=(bW h).1;replace h:=(bW h).2;subst f;have f:=(bW h).1;replace h:=(bW h).2;subst f;have f:=(bW h).1;replace h:=(bW h).2;subst f;have oW:=(bW h).1;replace h:=(bW h).2;have z:=(d9 h).1;replace h:=(d9 h).2;rw[gw] at h;obtain⟨_,q,h⟩:=h;have q:=az1 q;subst q;have rn:n'<aY:=(by rcases Nat.lt_or_ge n' aY with g|g;exact g;rw[Pe g] at z;cases z);split at h;rename_i ts xs hn;have w:=(bW h).1;replace h:=(bW h).2;rw[gw] at h;obtain⟨e,m,h⟩:=h;replace m:xs[c]? =some e:=m;split at h;rename_i us b hd;have l:=(bW h).1;replace h:=(bW h).2;have x:=(d9 h).1;replace h:=(d9 h).2;obtain⟨t,y,M,h⟩:=J9 h;split at h;rename_i vs ys;split at h;rename_i a u;rw[gw] at h;obtain⟨_,d,h⟩:=h;have d:(zaz (α:=Ty.DL us) b+zaz (α:=Ty.DL us) a)*sp.by_<=eD:=(by unfold iN at d;split at d;assumption;cases d);split at h;rename_i v Q;refine⟨_,?_,h⟩;have J:σ.er.ev sp.er.mx=.one (.ptr n' c A o):=(by show σ.er.ev sp.mx.er=_;rw[aq.h9,E];rfl);have P:σ.er.ev sp.er.ml=.one (.cG n' c A o K H):=(by show σ.er.ev sp.ml.er=_;rw[aq.h9,R];rfl);have O:σ.er.ev sp.er.my=.one s.er:=(by show σ.er.ev sp.my.er=_;rw[aq.h9,I];rfl);have L:σ.er.h n'=some (.row true .live ts.length (By (Ty.bu ts) xs)):=(by simp[aq.er,e8,hn,SB.er]);have B:(By (Ty.bu ts) xs)[c]? =some (Ty.bu ts e):=(by rw[AT,m];rfl);have s6:=OH hd;have D:eA σ.er.h s.er=some ((Ty.list us).er a):=(by rw[<-Ty.Ug u];exact M);have F:(Ty.bu ts e)[o]? =some (.list us.length (By (Ty.bu us) b)):=s6;have N:eA σ.er.h s.er=some (.list us.length (By (Ty.bu us) a)):=D;simp only[Jj,J,P,O,oW,rn,and_self,if_true,L,w,B,zak,F,N];have p:((By (Ty.bu us) b).length+(By (Ty.bu us) a).length)*sp.er.by_<=eD:=(by rw[show(By (Ty.bu us) b).length=zaz (α:=Ty.DL us) b from BY _,show(By (Ty.bu us) a).length=zaz (α:=Ty.DL us) a from BY _];exact d);rw[aj ⟨l,l,Ga us b x,Ga us a x,p⟩];have G:=YV Q;have i:(By (Ty.bu ts) xs).getD c []=Ty.bu ts e:=(by rw[zaw,B];rfl);rw[aq.vY,aq.CF,i];simp only[SB.er];rw[show(By (Ty.bu ts) (bB xs c v))=(By (Ty.bu ts) xs).set c (Ty.bu ts v) from by show By _ (xs.set c v)=_;rw[zau],G];have j:(Ty.list us).er (dn (α:=Ty.DL us) b a)=.list us.length (By (Ty.bu us) b++By (Ty.bu us) a):=(by show C.list us.length (By (Ty.bu us) (List.append (α:=Ty.DL us) b a))=_;exact congrArg (C.list us.length) za6);rw[j,l,w];rfl;cases h;cases h;cases h;cases h;cases h;cases h
inductive TJ where
 |T8 (ts:List Ty) (p:eK)
 |T9 (p:eK) (s:Nat)
 |pop (x lo:eK) (s:Nat)
 |Ue (f:FuncId) (xs:List eK)
def TJ.er:TJ->Z7
 |.T8 ts p=>.T8 ts.length p.er
 |.T9 p s=>.T9 p.er s
 |.pop x lo s=>.pop x.er lo.er s
 |.Ue f xs=>.Ue f (xs.map eK.er)
inductive aav where
 |op (m:f7)
 |HO (d:Nat) (c:TJ)
def aav.er:aav->ams
 |.op m=>.op m.er
 |.HO d c=>.HO d c.er
end
inductive LT where
 |unit
 |ty (t:Ty)
 |dl (ts:List Ty)
 |nat
 |pair (a b:LT)
def LT.D:LT->Type
 |.unit=>Unit
 |.ty t=>t.D
 |.dl ts=>Ty.DL ts
 |.nat=>Nat
 |.pair a b=>a.D×b.D
def LT.JW (a:LT):LT->LT
 |.unit=>a
 |.ty t=>.pair a (.ty t)
 |.dl ts=>.pair a (.dl ts)
 |.nat=>.pair a .nat
 |.pair x y=>.pair a (.pair x y)
def LT.sp:LT->LT->LT
 |.unit,b=>b
 |.ty t,b=>LT.JW (.ty t) b
 |.dl ts,b=>LT.JW (.dl ts) b
 |.nat,b=>LT.JW .nat b
 |.pair x y,b=>LT.JW (.pair x y) b
def LT.Ns (a:LT):(b:LT)->(LT.JW a b).D->a.D×b.D
 |.unit,x=>(x,())
 |.ty _,x=>x
 |.dl _,x=>x
 |.nat,x=>x
 |.pair _ _,x=>x
def LT.z7:(a b:LT)->(LT.sp a b).D->a.D×b.D
 |.unit,b,x=>((),x)
 |.ty t,b,x=>LT.Ns (.ty t) b x
 |.dl ts,b,x=>LT.Ns (.dl ts) b x
 |.nat,b,x=>LT.Ns .nat b x
 |.pair x y,b,z=>LT.Ns (.pair x y) b z
def LT.Nr (a:LT):(b:LT)->a.D->b.D->(LT.JW a b).D
 |.unit,x,_=>x
 |.ty _,x,y=>(x,y)
 |.dl _,x,y=>(x,y)
 |.nat,x,y=>(x,y)
 |.pair _ _,x,y=>(x,y)
def LT.JX:(a b:LT)->a.D->b.D->(LT.sp a b).D
 |.unit,b,_,y=>y
 |.ty t,b,x,y=>LT.Nr (.ty t) b x y
 |.dl ts,b,x,y=>LT.Nr (.dl ts) b x y
 |.nat,b,x,y=>LT.Nr .nat b x y
 |.pair u v,b,x,y=>LT.Nr (.pair u v) b x y
theorem LT.aAF (a b:LT) (x:a.D) (y:b.D):LT.Ns a b (LT.Nr a b x y)=(x,y):=by cases b<;>rfl
theorem LT.alq (a b:LT) (x:a.D) (y:b.D):LT.z7 a b (LT.JX a b x y)=(x,y):=by cases a with|unit=>rfl|_=>exact LT.aAF _ b x y
section
variable {α β:Type} {ρ:Type} {L:α->LT}
def LL (L:α->LT):List α->LT
 |[]=>.unit
 |a::l=>LT.sp (L a) (LL L l)
def vE (un:(a:α)->(L a).D->β):(l:List α)->(LL L l).D->List β
 |[],_=>[]
 |a::l,x=>un a (LT.z7 (L a) (LL L l) x).1::vE un l (LT.z7 (L a) (LL L l) x).2
def v8 (flat:(a:α)->β->((L a).D->Option ρ)->Option ρ):(l:List α)->List β->((LL L l).D->Option ρ)->Option ρ
 |[],[],k=>k ()
 |a::l,b::bs,k=>flat a b fun x=>v8 flat l bs fun y=>k (LT.JX (L a) (LL L l) x y)
 |_,_,_=>none
theorem CO {flat:(a:α)->β->((L a).D->Option ρ)->Option ρ} {un:(a:α)->(L a).D->β} (d:∀a b k r,flat a b k=some r->∃x,b=un a x/\k x=some r):∀{l:List α} {c:List β} {k:(LL L l).D->Option ρ} {r:ρ},v8 flat l c k=some r-> ∃x,c=vE un l x/\k x=some r
 |[],[],k,r,h=>⟨(),rfl,h⟩
 |a::l,b::c,k,r,h=>by simp only[v8] at h;obtain⟨x,rfl,e⟩:=d _ _ _ _ h;obtain⟨y,rfl,f⟩:=CO d e;exact⟨LT.JX (L a) (LL L l) x y,by simp only[vE,LT.alq],f⟩
 |[],_::_,k,r,h=>by simp[v8] at h
 |_::_,[],k,r,h=>by simp[v8] at h
end
inductive lK where
 |v (t:Ty)
 |nil (ts:List Ty)
 |MU (n off:Nat)
 |ptr (n sz off:Nat)
 |eU (ts:List Ty) (off:Nat)
 |dW (ts:List Ty) (off j n sz:Nat)
 |full (n sz:Nat)
 |sl (n sz:Nat)
 |cG (n aZ off sz:Nat)
 |cC
inductive gE where
 |c (s:lK)
 |fn (f:FuncId) (fv:List lK)
inductive lx where
 |one (c:gE)
 |agg (cs:List gE)
 |dh (xs:List (Bool×List gE))
inductive jc where
 |box (cs:List gE)
 |row (gr:Bool) (m:Mode) (ts:List Ty)
structure n5 where
 env:List (Nat×lx)
 heap:List (Nat×jc)
abbrev n5.ke (sh:n5):List Nat:=sh.env.map (·.1)
def lK.L:lK->LT
 |.v t=>.ty t
 |.nil _=>.unit
 |.MU _ _=>.unit
 |.ptr _ _ _=>.nat
 |.eU ts _=>.dl ts
 |.dW ts _ _ _ _=>.dl ts
 |.full _ _=>.unit
 |.sl _ _=>.pair .nat .nat
 |.cG _ _ _ _=>.pair .nat .nat
 |.cC=>.unit
def lK.un (ln:Nat->Nat):(s:lK)->s.L.D->SC
 |.v t,x=>.v t x
 |.nil ts,_=>.nil ts
 |.MU n off,_=>.ptr n 0 0 off
 |.ptr n sz off,k=>.ptr n k sz off
 |.eU ts off,x=>.eU ts x off
 |.dW ts off j n sz,x=>.dW ts x off j n sz (ln n)
 |.full n sz,_=>.sl n sz 0 (ln n)
 |.sl n sz,x=>.sl n sz x.1 x.2
 |.cG n aZ off sz,x=>.cG n x.1 aZ off sz x.2
 |.cC,_=>.cC
section
variable {ρ:Type}
def lK.flat (ln:Nat->Nat) (s:lK) (c:SC) (k:s.L.D->Option ρ):Option ρ:=
 match s,c with
 |.v t,.v u x=>match Ty.cast u t x with
  |some y=>k y
  |none=>none
 |.nil ts,.nil us=>iC (Ty.xu us ts) (k ())
 |.MU n off,.ptr n' kk sz qK=>eu n' n (eu kk 0 (eu sz 0 (eu qK off (k ()))))
 |.ptr n sz off,.ptr n' kk bw qK=>eu n' n (eu bw sz (eu qK off (k kk)))
 |.eU ts off,.eU us x qK=>eu qK off (match Ty.Hu us ts x with
  |some y=>k y
  |none=>none)
 |.dW ts off j n sz,.dW us x qK j' n' bw len=>eu qK off (eu j' j (eu n' n (eu bw sz ((aO 0 len (ln n)).ae fun _=>match Ty.Hu us ts x with
  |some y=>k y
  |none=>none))))
 |.full n sz,.sl n' bw lo len=>eu n' n (eu bw sz ((aO lo len (ln n)).ae fun _=>k ()))
 |.sl n sz,.sl n' bw lo len=>eu n' n (eu bw sz (k (lo,len)))
 |.cG n aZ off sz,.cG n' kk azM qK bw len=>eu n' n (eu azM aZ (eu qK off (eu bw sz (k (kk,len)))))
 |.cC,.cC=>k ()
 |_,_=>none
theorem Ty.cast_eq {t u:Ty} {x:t.D} {y:u.D} (h:Ty.cast t u x=some y):SC.v t x=SC.v u y:=by unfold Ty.cast at h;split at h;rename_i a;have:=Ty.beq_eq a;subst this;injection h with h;rw[<-h];cases h
theorem Ty.anl {ts us:List Ty} {x:Ty.DL ts} {y:Ty.DL us} (h:Ty.Hu ts us x=some y) (off:Nat):SC.eU ts x off=SC.eU us y off:=by unfold Ty.Hu at h;split at h;rename_i a;have:=Ty.xv a;subst this;injection h with h;rw[<-h];cases h
theorem Ty.anm {ts us:List Ty} {x:Ty.DL ts} {y:Ty.DL us} (h:Ty.Hu ts us x=some y) (off j n sz len:Nat):SC.dW ts x off j n sz len=SC.dW us y off j n sz len:=by unfold Ty.Hu at h;split at h;rename_i a;have:=Ty.xv a;subst this;injection h with h;rw[<-h];cases h
theorem lK.uY {e:Nat->Nat} (s:lK) (c:SC) (k:s.L.D->Option ρ) (r:ρ) (h:s.flat e c k=some r):∃x,c=s.un e x/\k x=some r:=by cases s with|v t=>(cases c<;>simp only[lK.flat] at h<;>first|(cases h;done)|skip);split at h;rename_i y hy;exact⟨y,Ty.cast_eq hy,h⟩;cases h|nil ts=>(cases c<;>simp only[lK.flat] at h<;>first|(cases h;done)|skip);have f:=(d9 h).1;replace h:=(d9 h).2;exact⟨(),by rw[Ty.xv f];rfl,h⟩|MU n off=>(cases c<;>simp only[lK.flat] at h<;>first|(cases h;done)|skip);have a:=(bW h).1;replace h:=(bW h).2;subst a;have a:=(bW h).1;replace h:=(bW h).2;subst a;have a:=(bW h).1;replace h:=(bW h).2;subst a;have a:=(bW h).1;replace h:=(bW h).2;subst a;exact⟨(),rfl,h⟩|ptr n sz off=>(cases c<;>simp only[lK.flat] at h<;>first|(cases h;done)|skip);have a:=(bW h).1;replace h:=(bW h).2;subst a;have a:=(bW h).1;replace h:=(bW h).2;subst a;have a:=(bW h).1;replace h:=(bW h).2;subst a;exact⟨_,rfl,h⟩|eU ts off=>(cases c<;>simp only[lK.flat] at h<;>first|(cases h;done)|skip);have a:=(bW h).1;replace h:=(bW h).2;subst a;split at h;rename_i y hy;exact⟨y,Ty.anl hy _,h⟩;cases h|dW ts off j n sz=>(cases c<;>simp only[lK.flat] at h<;>first|(cases h;done)|skip);have a:=(bW h).1;replace h:=(bW h).2;subst a;have a:=(bW h).1;replace h:=(bW h).2;subst a;have a:=(bW h).1;replace h:=(bW h).2;subst a;have a:=(bW h).1;replace h:=(bW h).2;subst a;rw[gw] at h;obtain⟨_,b,h⟩:=h;unfold aO at b;split at b;rename_i d;obtain⟨_,rfl⟩:=d;split at h;rename_i y hy;exact⟨y,Ty.anm hy _ _ _ _ _,h⟩;cases h;cases b|full n sz=>(cases c<;>simp only[lK.flat] at h<;>first|(cases h;done)|skip);have a:=(bW h).1;replace h:=(bW h).2;subst a;have a:=(bW h).1;replace h:=(bW h).2;subst a;rw[gw] at h;obtain⟨_,b,h⟩:=h;unfold aO at b;split at b;rename_i d;obtain⟨rfl,rfl⟩:=d;exact⟨(),rfl,h⟩;cases b|sl n sz=>(cases c<;>simp only[lK.flat] at h<;>first|(cases h;done)|skip);have a:=(bW h).1;replace h:=(bW h).2;subst a;have a:=(bW h).1;replace h:=(bW h).2;subst a;exact⟨_,rfl,h⟩|cG n aZ off sz=>(cases c<;>simp only[lK.flat] at h<;>first|(cases h;done)|skip);have a:=(bW h).1;replace h:=(bW h).2;subst a;have a:=(bW h).1;replace h:=(bW h).2;subst a;have a:=(bW h).1;replace h:=(bW h).2;subst a;have a:=(bW h).1;replace h:=(bW h).2;subst a;exact⟨_,rfl,h⟩|cC=>(cases c<;>simp only[lK.flat] at h<;>first|(cases h;done)|skip);exact⟨(),rfl,h⟩
def gE.L:gE->LT
 |.c s=>s.L
 |.fn _ fv=>LL lK.L fv
def gE.un (ln:Nat->Nat):(s:gE)->s.L.D->SC
 |.c s,x=>s.un ln x
 |.fn f fv,x=>.fn f (vE (lK.un ln) fv x)
def gE.flat (ln:Nat->Nat) (s:gE) (c:SC) (k:s.L.D->Option ρ):Option ρ:=
 match s,c with
 |.c s,c=>s.flat ln c k
 |.fn f fv,.fn f' cs=>eu f' f (v8 (lK.flat ln) fv cs k)
 |_,_=>none
theorem gE.uY {d:Nat->Nat} (s:gE) (c:SC) (k:s.L.D->Option ρ) (r:ρ) (h:s.flat d c k=some r):∃x,c=s.un d x/\k x=some r:=by cases s with|c s=>exact s.uY c k r (by cases c<;>exact h)|fn f fv=>(cases c<;>simp only[gE.flat] at h<;>first|(cases h;done)|skip);have i:=(bW h).1;replace h:=(bW h).2;subst i;obtain⟨x,g,e⟩:=CO (un:=lK.un d) (fun a b k r=>lK.uY a b k r) h;subst g;replace h:=e;exact⟨x,rfl,h⟩
def lx.L:lx->LT
 |.one c=>c.L
 |.agg cs=>LL gE.L cs
 |.dh xs=>LL (fun x:Bool×List gE=>LL gE.L x.2) xs
def lx.un (ln:Nat->Nat):(s:lx)->s.L.D->SV
 |.one c,x=>.one (c.un ln x)
 |.agg cs,x=>.agg (vE (gE.un ln) cs x)
 |.dh xs,x=>.dh (vE (L:=fun x:Bool×List gE=>LL gE.L x.2) (fun a y=>(a.1,vE (gE.un ln) a.2 y)) xs x)
def acw (ln:Nat->Nat) (a:Bool×List gE) (b:Bool×List SC) (k:(LL gE.L a.2).D->Option ρ):Option ρ:=
 iC (a.1==b.1) (v8 (gE.flat ln) a.2 b.2 k)
def lx.flat (ln:Nat->Nat) (s:lx) (v:SV) (k:s.L.D->Option ρ):Option ρ:=
 match s,v with
 |.one c,.one v=>c.flat ln v k
 |.agg cs,.agg vs=>v8 (gE.flat ln) cs vs k
 |.dh xs,.dh vs=>v8 (L:=fun x:Bool×List gE=>LL gE.L x.2) (acw ln) xs vs k
 |_,_=>none
theorem lx.uY {d:Nat->Nat} (s:lx) (v:SV) (k:s.L.D->Option ρ) (r:ρ) (h:s.flat d v k=some r):∃x,v=s.un d x/\k x=some r:=by cases s with|one c=>(cases v<;>simp only[lx.flat] at h<;>first|(cases h;done)|skip);obtain⟨x,f,e⟩:=gE.uY _ _ _ _ h;subst f;replace h:=e;exact⟨x,rfl,h⟩|agg cs=>(cases v<;>simp only[lx.flat] at h<;>first|(cases h;done)|skip);obtain⟨x,f,e⟩:=CO (un:=gE.un d) (fun a b k r=>gE.uY a b k r) h;subst f;replace h:=e;exact⟨x,rfl,h⟩|dh xs=>(cases v<;>simp only[lx.flat] at h<;>first|(cases h;done)|skip);obtain⟨x,f,e⟩:=CO (L:=fun x:Bool×List gE=>LL gE.L x.2) (un:=fun a y=>(a.1,vE (gE.un d) a.2 y)) (fun a b k r h=>by unfold acw at h;have i:=(d9 h).1;replace h:=(d9 h).2;obtain⟨x,g,h⟩:=CO (un:=gE.un d) (fun a b k r=>gE.uY a b k r) h;exact⟨x,za4 (eq_of_beq i).symm g,h⟩) h;subst f;exact⟨x,rfl,e⟩
def jc.L:jc->LT
 |.box cs=>LL gE.L cs
 |.row _ _ ts=>.ty (.list ts)
def jc.un (ln:Nat->Nat):(s:jc)->s.L.D->SB
 |.box cs,x=>.box (vE (gE.un ln) cs x)
 |.row gr m ts,x=>.row gr m ts x
def Mode.beq:Mode->Mode->Bool
 |.live,.live=>true
 |.bq,.bq=>true
 |.bn,.bn=>true
 |_,_=>false
theorem Mode.beq_eq {a b:Mode} (h:Mode.beq a b=true):a=b:=by cases a<;>cases b<;>first|rfl|cases h
def jc.flat (ln:Nat->Nat) (s:jc) (b:Option SB) (k:s.L.D->Option ρ):Option ρ:=
 match s,b with
 |.box cs,some (.box vs)=>v8 (gE.flat ln) cs vs k
 |.row gr m ts,some (.row cv m' us xs)=>iC (cv==gr) (iC (Mode.beq m' m) (match CC us ts xs with
  |some y=>k y
  |none=>none))
 |_,_=>none
theorem azJ {us ts:List Ty} {xs:List (Ty.DL us)} {ys:List (Ty.DL ts)} (h:CC us ts xs=some ys) (a:Bool) (m:Mode):SB.row a m us xs=SB.row a m ts ys:=by unfold CC at h;split at h;rename_i c;have b:=Ty.xv c;subst b;injection h with h;rw[<-h];cases h
theorem jc.uY {c:Nat->Nat} (s:jc) (b:Option SB) (k:s.L.D->Option ρ) (r:ρ) (h:s.flat c b k=some r):∃x,b=some (s.un c x)/\k x=some r:=by cases s with|box cs=>(cases b with|none=>cases h|some b=>(cases b<;>simp only[jc.flat] at h<;>first|(cases h;done)|skip);obtain⟨x,g,d⟩:=CO (un:=gE.un c) (fun a b k r=>gE.uY a b k r) h;subst g;replace h:=d;exact⟨x,rfl,h⟩)|row gr m ts=>cases b with|none=>cases h|some b=>(cases b<;>simp only[jc.flat] at h<;>first|(cases h;done)|skip);have f:=(d9 h).1;replace h:=(d9 h).2;have e:=(d9 h).1;replace h:=(d9 h).2;split at h;rename_i y hy;refine⟨y,?_,h⟩;rw[eq_of_beq f,Mode.beq_eq e,azJ hy];rfl;cases h
end
def rf:List (Nat×SV)->Nat->SV
 |[]=>fun _=>.one .cC
 |p::l=>bj (rf l) p.1 p.2
def oR:List (Nat×Option SB)->Nat->Option SB
 |[]=>fun _=>none
 |p::l=>bj (oR l) p.1 p.2
def Kf:List (Nat×jc)->Nat->Bool
 |[]=>fun _=>false
 |p::l=>bj (Kf l) p.1 true
def yk (h:Nat->Option SB) (n:Nat):Nat:=
 match h n with
 |some (.row _ _ ts xs)=>ab (α:=Ty.DL ts) xs
 |_=>0
abbrev n5.eL (sh:n5):LT:=LL (fun p:Nat×lx=>p.2.L) sh.env
abbrev n5.hL (sh:n5):LT:=LL (fun p:Nat×jc=>p.2.L) sh.heap
def n5.L (sh:n5):LT:=LT.sp sh.eL sh.hL
def Sd (ln:Nat->Nat) (l:List (Nat×lx)) (x:(LL (fun p:Nat×lx=>p.2.L) l).D):List (Nat×SV):=
 vE (L:=fun p:Nat×lx=>p.2.L) (fun p y=>(p.1,p.2.un ln y)) l x
def Gw (ln:Nat->Nat) (l:List (Nat×jc)) (x:(LL (fun p:Nat×jc=>p.2.L) l).D):List (Nat×Option SB):=
 vE (L:=fun p:Nat×jc=>p.2.L) (fun p y=>(p.1,some (p.2.un ln y))) l x
def zN:(l:List (Nat×jc))->(LL (fun p:Nat×jc=>p.2.L) l).D->Nat->Nat
 |[],_=>fun _=>0
 |(n,.box cs)::l,x=>bj (zN l (LT.z7 _ _ x).2) n 0
 |(n,.row gr m ts)::l,x=>bj (zN l (LT.z7 (LT.ty (.list ts)) _ x).2) n (ab (α:=Ty.DL ts) (LT.z7 (LT.ty (.list ts)) _ x).1)
theorem Xv (a:Nat->Nat):∀(l:List (Nat×jc)) (x:(LL (fun p:Nat×jc=>p.2.L) l).D),zN l x=yk (oR (Gw a l x))
 |[],_=>rfl
 |(n,.box cs)::l,x=>by funext m;simp only[zN,Gw,vE,oR,yk];by_cases hm:m=n;subst hm;simp only[dD];rfl;simp only[dZ _ _ _ _ hm];exact congrFun (Xv a l _) m
 |(n,.row gr mo ts)::l,x=>by funext m;simp only[zN,Gw,vE,oR,yk];by_cases hm:m=n;subst hm;simp only[dD];rfl;simp only[dZ _ _ _ _ hm];exact congrFun (Xv a l _) m
def n5.un (sh:n5) (x:sh.L.D):aq:=
 {env:=rf (Sd (zN sh.heap (LT.z7 sh.eL sh.hL x).2) sh.env (LT.z7 sh.eL sh.hL x).1)
  h:=oR (Gw (zN sh.heap (LT.z7 sh.eL sh.hL x).2) sh.heap (LT.z7 sh.eL sh.hL x).2)
  used:=fun n=>zaf aY n||Kf sh.heap n}
def v9 (n:Nat):List (Nat×jc)->Bool
 |[]=>false
 |p::l=>match IS n p.1 with
  |true=>true
  |false=>v9 n l
section
variable {ρ:Type}
def acr (ln:Nat->Nat) (p:Nat×lx) (v:Nat×SV) (k:p.2.L.D->Option ρ):Option ρ:=eu v.1 p.1 (p.2.flat ln v.2 k)
def acs (ln:Nat->Nat) (p:Nat×jc) (b:Nat×Option SB) (k:p.2.L.D->Option ρ):Option ρ:=eu b.1 p.1 (p.2.flat ln b.2 k)
def Ou (σ:aq) (hp:List (Nat×jc)):List Nat->Bool
 |[]=>true
 |n::kh=>(match v9 n hp with|true=>σ.used n|false=>(match σ.used n with|true=>zaf aY n|false=> !(zaf aY n))&&(σ.h n).isNone)&&Ou σ hp kh
def Od (kh:List Nat):List (Nat×jc)->Bool
 |[]=>true
 |p::l=>kh.contains p.1&&Od kh l
def n5.flat (sh:n5) (kh:List Nat) (σ:aq) (k:sh.L.D->Option ρ):Option ρ:=
 iC (Ou σ sh.heap kh&&Od kh sh.heap)
  (v8 (acr (yk σ.h)) sh.env (sh.env.map fun p=>(p.1,σ.env p.1)) fun xe=>
   v8 (acs (yk σ.h)) sh.heap (sh.heap.map fun p=>(p.1,σ.h p.1)) fun xh=>k (LT.JX sh.eL sh.hL xe xh))
end
theorem aoe (l:List (Nat×lx)) (f:Nat->SV) (c:∀s,s∉l.map (·.1)->f s=.one .cC):rf (l.map fun p=>(p.1,f p.1))=f:=by
 have:∀(l:List (Nat×lx)) s,rf (l.map fun p=>(p.1,f p.1)) s=if s∈l.map (·.1) then f s else .one .cC:=by
  intro l s;induction l with
  |nil=>rfl
  |cons p l b=>
   simp only[AN,rf,nt,b,zab];by_cases h:s=p.1
   ·subst h;simp
   ·by_cases a:s∈l.map (·.1)
    ·rw[ak h,aj a,aj (Or.inr a)]
    ·rw[ak h,ak a,ak (fun e=>e.elim h a)]
 funext s;rw[this];split
 ·rfl
 ·rename_i h;exact(c s h).symm
theorem aqZ (l:List (Nat×jc)) (f:Nat->Option SB) (c:∀s,s∉l.map (·.1)->f s=none):oR (l.map fun p=>(p.1,f p.1))=f:=by
 have:∀(l:List (Nat×jc)) s,oR (l.map fun p=>(p.1,f p.1)) s=if s∈l.map (·.1) then f s else none:=by
  intro l s;induction l with
  |nil=>rfl
  |cons p l b=>
   simp only[AN,oR,nt,b,zab];by_cases h:s=p.1
   ·subst h;simp
   ·by_cases a:s∈l.map (·.1)
    ·rw[ak h,aj a,aj (Or.inr a)]
    ·rw[ak h,ak a,ak (fun e=>e.elim h a)]
 funext s;rw[this];split
 ·rfl
 ·rename_i h;exact(c s h).symm
theorem ad5 (n:Nat) (l:List (Nat×jc)):v9 n l=true↔n∈l.map (·.1):=by induction l with|nil=>simp[v9]|cons p l b=>simp only[v9,AN,zab];cases h:IS n p.1 with|true=>simp[AI h]|false=>simp only[b];constructor;exact .inr;rintro(rfl|a);rw[zah] at h;cases h;exact a
theorem aBd (n:Nat) (l:List (Nat×jc)):Kf l n=v9 n l:=by induction l with|nil=>rfl|cons p l a=>simp only[Kf,v9,nt,a];by_cases h:n=p.1;subst h;simp[zah];have:IS n p.1=false:=(by cases hb:IS n p.1 with|true=>exact absurd (AI hb) h|false=>rfl);simp[h,this]
theorem Uk {σ:aq} {b:List (Nat×jc)}:∀{c:List Nat},Ou σ b c=true->∀n∈c,σ.used n=(zaf aY n||v9 n b)/\(v9 n b=false->σ.h n=none)
 |[],_,n,hn=>by cases hn
 |m::c,h,n,hn=>by simp only[Ou,IN] at h;rcases zab.1 hn with d|hn;subst d;(cases hh:v9 n b with|true=>rw[hh] at h;have a:σ.used n=true:=h.1;exact⟨by rw[a,Bool.or_true],fun e=>by cases e⟩|false=>rw[hh] at h;simp only[IN,Option.isNone_iff_eq_none] at h;refine⟨?_,fun _=>h.1.2⟩;have a:=h.1.1;rw[zaO];cases hu:σ.used n with|true=>rw[hu] at a;exact a.symm|false=>rw[hu] at a;simpa using a.symm);exact Uk h.2 n hn
theorem aaG {a:List Nat}:∀{l:List (Nat×jc)},Od a l=true->∀n∈l.map (·.1),n∈a
 |[],_,n,hn=>by cases hn
 |p::l,h,n,hn=>by simp only[Od,IN] at h;simp only[AN,zab] at hn;rcases hn with rfl|hn;simpa using h.1;exact aaG h.2 n hn
theorem n5.uY {ρ:Type} {c:n5} {f:List Nat} {σ:aq} {k:c.L.D->Option ρ} {r:ρ} (h:c.flat f σ k=some r) (v:∀s,s∉c.ke->σ.env s=.one .cC) (q:∀n,n∉f->σ.h n=none/\σ.used n=zaf aY n):∃x,σ=c.un x/\k x=some r:=by unfold n5.flat at h;have g:=(d9 h).1;replace h:=(d9 h).2;simp only[IN] at g;obtain⟨i,u,h⟩:=CO (L:=fun p:Nat×lx=>p.2.L) (un:=fun p y=>(p.1,p.2.un (yk σ.h) y)) (fun a b k r h=>by unfold acr at h;obtain⟨j,h⟩:=bW h;obtain⟨x,l,h⟩:=lx.uY _ _ _ _ h;exact⟨x,za4 j l,h⟩) h;obtain⟨d,z,h⟩:=CO (L:=fun p:Nat×jc=>p.2.L) (un:=fun p y=>(p.1,some (p.2.un (yk σ.h) y))) (fun a b k r h=>by unfold acs at h;obtain⟨j,h⟩:=bW h;obtain⟨x,l,h⟩:=jc.uY _ _ _ _ h;exact⟨x,za4 j l,h⟩) h;have w:σ.env=rf (Sd (yk σ.h) c.env i):=(by unfold Sd;rw[<-u];exact(aoe c.env σ.env v).symm);have t:σ.h=oR (Gw (yk σ.h) c.heap d):=(by unfold Gw;rw[<-z];refine(aqZ c.heap σ.h fun n hn=>?_).symm;by_cases e:n∈f;refine(Uk g.1 n e).2 ?_;(cases hb:v9 n c.heap with|true=>exact absurd ((ad5 n c.heap).1 hb) hn|false=>rfl);exact(q n e).1);have o:zN c.heap d=yk σ.h:=(by rw[Xv (yk σ.h),<-t]);have m:σ.used=fun n=>zaf aY n||Kf c.heap n:=(by funext n;rw[aBd];by_cases e:n∈f;exact(Uk g.1 n e).1;rw[(q n e).2];cases hb:v9 n c.heap with|true=>exact absurd (aaG g.2 n ((ad5 n c.heap).1 hb)) e|false=>rw[zaO]);refine⟨LT.JX c.eL c.hL i d,?_,h⟩;have:c.un (LT.JX c.eL c.hL i d)={env:=rf (Sd (zN c.heap d) c.env i),h:=oR (Gw (zN c.heap d) c.heap d),used:=fun n=>zaf aY n||Kf c.heap n}:=(by simp only[n5.un,LT.alq]);rw[this,o,<-w,<-t,<-m]
def SC.iz (ok:Nat->Bool):SC->SC
 |.ptr n k sz off=>match ok n with|true=>.ptr n k sz off|false=>.cC
 |.sl n sz lo len=>match ok n with|true=>.sl n sz lo len|false=>.cC
 |.cG n k aZ off sz len=>match ok n with|true=>.cG n k aZ off sz len|false=>.cC
 |.ez n k aZ off sz i=>match ok n with|true=>.ez n k aZ off sz i|false=>.cC
 |.dW ts x off j n sz len=>match ok n with|true=>.dW ts x off j n sz len|false=>.cC
 |x=>x
def SC.fh (ok:Nat->Bool):SC->SC
 |.fn f fv=>.fn f (fv.map (SC.iz ok))
 |.v t x=>.v t x
 |.nil ts=>.nil ts
 |.ptr n k sz off=>SC.iz ok (.ptr n k sz off)
 |.eU ts x off=>.eU ts x off
 |.sl n sz lo len=>SC.iz ok (.sl n sz lo len)
 |.cG n k aZ off sz len=>SC.iz ok (.cG n k aZ off sz len)
 |.ez n k aZ off sz i=>SC.iz ok (.ez n k aZ off sz i)
 |.dW ts x off j n sz len=>SC.iz ok (.dW ts x off j n sz len)
 |.cC=>.cC
theorem SC.HE (ok:Nat->Bool) (c:SC):(c.iz ok).er=c.er.iz ok:=by cases c with|ptr n k sz off=>simp only[SC.iz,SC.er,ar.iz];cases ok n<;>rfl|sl n sz lo len=>simp only[SC.iz,SC.er,ar.iz];cases ok n<;>rfl|cG n k a off sz len=>simp only[SC.iz,SC.er,ar.iz];cases ok n<;>rfl|ez n k a off sz i=>simp only[SC.iz,SC.er,ar.iz];cases ok n<;>rfl|dW ts x off j n sz len=>simp only[SC.iz,SC.er,ar.iz];cases ok n<;>rfl|_=>rfl
theorem SC.HG (ok:Nat->Bool) (c:SC):(c.fh ok).er=c.er.fh ok:=by cases c with|fn f fv=>simp only[SC.fh,SC.er,ar.fh,SC.OY,zai];congr 1;exact zaa fun c _=>SC.HE ok c|ptr n k sz off=>exact SC.HE ok (.ptr n k sz off)|sl n sz lo len=>exact SC.HE ok (.sl n sz lo len)|cG n k a off sz len=>exact SC.HE ok (.cG n k a off sz len)|ez n k a off sz i=>exact SC.HE ok (.ez n k a off sz i)|dW ts x off j n sz len=>exact SC.HE ok (.dW ts x off j n sz len)|_=>rfl
def SV.fh (ok:Nat->Bool):SV->SV
 |.one c=>.one (c.fh ok)
 |.agg cs=>.agg (cs.map (SC.fh ok))
 |.dh xs=>.dh (xs.map fun x=>(x.1,x.2.map (SC.fh ok)))
theorem Uo (ok:Nat->Bool) (cs:List SC):(cs.map (SC.fh ok)).map SC.er=(cs.map SC.er).map (ar.fh ok):=by simp only[zai];exact zaa fun c _=>SC.HG ok c
theorem SV.HG (ok:Nat->Bool) (v:SV):(v.fh ok).er=v.er.fh ok:=by cases v with|one c=>simp only[SV.fh,SV.er,aE.fh,SC.HG]|agg cs=>simp only[SV.fh,SV.er,aE.fh,Uo]|dh xs=>simp only[SV.fh,SV.er,aE.fh,zai];congr 1;exact zaa fun x _=>by simp only[zaV];rw[Uo]
def SB.fh (ok:Nat->Bool):SB->SB
 |.box cs=>.box (cs.map (SC.fh ok))
 |.row gr m ts xs=>.row gr m ts xs
theorem SB.HG (ok:Nat->Bool) (b:SB):(b.fh ok).er=b.er.fh ok:=by cases b with|box cs=>simp only[SB.fh,SB.er,bf.fh,Uo]|row gr m ts xs=>rfl
def Gn (ok:Nat->Bool) (env:Nat->SV):List Nat->(Nat->SV)
 |[]=>fun _=>.one .cC
 |s::ss=>bj (Gn ok env ss) s ((env s).fh ok)
def B1 (ok:Nat->Bool) (h:Nat->Option SB):List Nat->(Nat->Option SB)
 |[]=>fun _=>none
 |s::ss=>match ok s with
  |true=>match h s with
   |some b=>bj (B1 ok h ss) s (some (b.fh ok))
   |none=>B1 ok h ss
  |false=>B1 ok h ss
def ym (ok:Nat->Bool):List Nat->(Nat->Bool)
 |[]=>fun _=>false
 |s::ss=>match ok s with
  |true=>bj (ym ok ss) s true
  |false=>ym ok ss
theorem alv (ok:Nat->Bool) (env:Nat->SV):∀l,vW (Gn ok env l)=BU ok (vW env) l
 |[]=>rfl
 |s::ss=>by simp only[Gn,BU,CK,alv ok env ss,SV.HG];rfl
theorem RM (ok:Nat->Bool) (h:Nat->Option SB):∀l,e8 (B1 ok h l)=wL ok (e8 h) l
 |[]=>rfl
 |s::ss=>by simp only[B1,wL];cases ok s with|false=>simp only[RM ok h ss,zac,if_false]|true=>have:e8 h s=(h s).map SB.er:=rfl;simp only[if_true,this];cases h s with|none=>simp only[OF,RM ok h ss]|some b=>simp only[OS,RM ok h ss,wt,SB.HG]
theorem alw (ok:Nat->Bool):∀l,ym ok l=BV ok l
 |[]=>rfl
 |s::ss=>by simp only[ym,BV];cases ok s<;>simp[alw ok ss]
theorem Zi (ok:Nat->Bool) (env:Nat->SV):∀(l:List Nat) (s:Nat),s∉l->Gn ok env l s=.one .cC
 |[],s,_=>rfl
 |a::l,s,h=>by simp only[zab,not_or] at h;simp only[Gn,dZ _ _ _ _ h.1,Zi ok env l s h.2]
theorem Zj (ok:Nat->Bool) (c:Nat->Option SB):∀(l:List Nat) (s:Nat),s∉l->B1 ok c l s=none
 |[],s,_=>rfl
 |a::l,s,h=>by simp only[zab,not_or] at h;have d:=Zj ok c l s h.2;simp only[B1];cases ok a with|false=>exact d|true=>cases c a with|none=>exact d|some b=>simp only[dZ _ _ _ _ h.1];exact d
theorem Zk (ok:Nat->Bool):∀(l:List Nat) (s:Nat),s∉l->ym ok l s=false
 |[],s,_=>rfl
 |a::l,s,h=>by simp only[zab,not_or] at h;have b:=Zk ok l s h.2;simp only[ym];cases ok a with|false=>exact b|true=>simp only[dZ _ _ _ _ h.1];exact b
def SC.DX (n:Nat):SC->Bool
 |.ptr m _ _ _=>IS m n
 |.sl m _ _ _=>IS m n
 |.cG m _ _ _ _ _=>IS m n
 |.ez m _ _ _ _ _=>IS m n
 |.dW _ _ _ _ m _ _=>IS m n
 |_=>false
def SC.lg (n:Nat):SC->Bool
 |.fn _ fv=>fv.any (SC.DX n)
 |.ptr m _ _ _=>IS m n
 |.sl m _ _ _=>IS m n
 |.cG m _ _ _ _ _=>IS m n
 |.ez m _ _ _ _ _=>IS m n
 |.dW _ _ _ _ m _ _=>IS m n
 |.v _ _=>false
 |.nil _=>false
 |.eU _ _ _=>false
 |.cC=>false
theorem Hp (m n:Nat):(m==n)=IS m n:=by rw[Bool.eq_iff_iff,beq_iff_eq];exact⟨fun h=>by rw[h];exact zah n,AI⟩
theorem SC.azw (n:Nat) (c:SC):c.er.DX n=c.DX n:=by cases c<;>simp[SC.er,ar.DX,SC.DX,Hp]
theorem SC.QO (n:Nat) (c:SC):c.er.lg n=c.lg n:=by cases c with|fn f fv=>simp only[SC.er,SC.OY,ar.lg,SC.lg,za1];congr 1;funext c;exact SC.azw n c|ptr m _ _ _=>exact Hp m n|sl m _ _ _=>exact Hp m n|cG m _ _ _ _ _=>exact Hp m n|ez m _ _ _ _ _=>exact Hp m n|dW _ _ _ _ m _ _=>exact Hp m n|_=>rfl
def SV.lg (n:Nat):SV->Bool
 |.one c=>c.lg n
 |.agg cs=>cs.any (SC.lg n)
 |.dh xs=>xs.any fun x=>x.2.any (SC.lg n)
theorem Yv (n:Nat) (cs:List SC):(cs.map SC.er).any (ar.lg n)=cs.any (SC.lg n):=by rw[za1];congr 1;funext c;exact SC.QO n c
theorem SV.QO (n:Nat) (v:SV):v.er.lg n=v.lg n:=by cases v with|one c=>exact SC.QO n c|agg cs=>exact Yv n cs|dh xs=>simp only[SV.er,aE.lg,SV.lg,za1];congr 1;funext x;exact Yv n x.2
def aiX (n:Nat):Option SB->Bool
 |some (.box cs)=>cs.any (SC.lg n)
 |_=>false
def OO (n:Nat):List Nat->Bool
 |[]=>false
 |m::l=>match IS n m with
  |true=>true
  |false=>OO n l
theorem abL (n:Nat):∀l:List Nat,OO n l=l.contains n
 |[]=>rfl
 |m::l=>by simp only[OO,List.contains_cons];have e:(n==m)=IS n m:=(by cases h:IS n m with|true=>simpa using AI h|false=>simp;intro h';rw[h',zah] at h;cases h);rw[e,abL n l];cases IS n m<;>rfl
def aq.np (σ:aq) (ke kh:List Nat):Nat->Bool:=fun n=>(σ.h n).isSome&&OO n kh&&(zaf aY n||ke.any (fun s=>(σ.env s).lg n)||kh.any fun k=>aiX n (σ.h k))
theorem aq.axD (σ:aq) (ke a:List Nat):σ.er.np ke a=σ.np ke a:=by
 funext n;simp only[St.np,aq.np];have e:(σ.er.h n).isSome=(σ.h n).isSome:=abT σ.h n;have c:(fun s=>(σ.er.env s).lg n)=fun s=>(σ.env s).lg n:=by funext s;exact SV.QO n _
 have d:(fun k=>match σ.er.h k with|some (.box cs)=>cs.any (·.lg n)|_=>false)=fun k=>aiX n (σ.h k):=by
  funext k;have:σ.er.h k=(σ.h k).map SB.er:=rfl;rw[this];cases σ.h k with
  |none=>rfl
  |some b=>cases b with
   |box cs=>exact Yv n cs
   |row gr m ts xs=>rfl
 rw[e,c,abL,Bool.and_comm (x:=(σ.h n).isSome)];exact congrArg (fun g:Nat->Bool=>(a.contains n&&(σ.h n).isSome&&((zaf aY n||ke.any fun s=>SV.lg n (σ.env s))||a.any g))) d
def aq.mf (σ:aq) (ke kh:List Nat):aq:=
 {env:=Gn (σ.np ke kh) σ.env ke,h:=B1 (σ.np ke kh) σ.h kh,used:=fun n=>zaf aY n||ym (σ.np ke kh) kh n}
theorem aq.YA (σ:aq) (ke a:List Nat):(σ.mf ke a).er=σ.er.mf ke a:=by simp only[aq.mf,St.mf,aq.axD];have b:=alv (σ.np ke a) σ.env ke;have d:=RM (σ.np ke a) σ.h a;have c:=alw (σ.np ke a) a;show St.mk (vW (Gn (σ.np ke a) σ.env ke)) (e8 (B1 (σ.np ke a) σ.h a)) (fun n=>zaf aY n||ym (σ.np ke a) a n)=_;rw[b,d,c];rfl
def wX (x c n:Nat):Nat:=match IS n x with|true=>c|false=>n
theorem J5 (x c n:Nat):wX x c n=sF x c n:=by unfold wX sF;cases h:IS n x with|true=>rw[aj (AI h)]|false=>rw[ak (fun e=>by rw[e,zah] at h;cases h)]
def SC.tF (x c:Nat):SC->SC
 |.ptr n k sz off=>.ptr (wX x c n) k sz off
 |.sl n sz lo len=>.sl (wX x c n) sz lo len
 |.cG n k aZ off sz len=>.cG (wX x c n) k aZ off sz len
 |.ez n k aZ off sz i=>.ez (wX x c n) k aZ off sz i
 |.dW ts y off j n sz len=>.dW ts y off j (wX x c n) sz len
 |y=>y
def SC.cr (x c:Nat):SC->SC
 |.fn f fv=>.fn f (fv.map (SC.tF x c))
 |.ptr n k sz off=>.ptr (wX x c n) k sz off
 |.sl n sz lo len=>.sl (wX x c n) sz lo len
 |.cG n k aZ off sz len=>.cG (wX x c n) k aZ off sz len
 |.ez n k aZ off sz i=>.ez (wX x c n) k aZ off sz i
 |.dW ts y off j n sz len=>.dW ts y off j (wX x c n) sz len
 |.v t y=>.v t y
 |.nil ts=>.nil ts
 |.eU ts y off=>.eU ts y off
 |.cC=>.cC
theorem SC.azB (x c:Nat) (y:SC):(y.tF x c).er=y.er.tF x c:=by cases y<;>simp[SC.tF,SC.er,ar.tF,J5]
theorem SC.DY (x c:Nat) (y:SC):(y.cr x c).er=y.er.cr x c:=by cases y with|fn f fv=>simp only[SC.cr,SC.er,ar.cr,SC.OY,zai];congr 1;exact zaa fun y _=>SC.azB x c y|ptr n k sz off=>simp only[SC.cr,SC.er,ar.cr,ar.tF,J5]|sl n sz lo len=>simp only[SC.cr,SC.er,ar.cr,ar.tF,J5]|cG n k a off sz len=>simp only[SC.cr,SC.er,ar.cr,ar.tF,J5]|ez n k a off sz i=>simp only[SC.cr,SC.er,ar.cr,ar.tF,J5]|dW ts y off j n sz len=>simp only[SC.cr,SC.er,ar.cr,ar.tF,J5]|_=>rfl
theorem Yx (x c:Nat) (cs:List SC):(cs.map (SC.cr x c)).map SC.er=(cs.map SC.er).map (ar.cr x c):=by simp only[zai];exact zaa fun y _=>SC.DY x c y
def SV.cr (x c:Nat):SV->SV
 |.one y=>.one (y.cr x c)
 |.agg ys=>.agg (ys.map (SC.cr x c))
 |.dh ys=>.dh (ys.map fun y=>(y.1,y.2.map (SC.cr x c)))
theorem SV.DY (x c:Nat) (v:SV):(v.cr x c).er=v.er.cr x c:=by cases v with|one y=>simp only[SV.cr,SV.er,aE.cr,SC.DY]|agg cs=>simp only[SV.cr,SV.er,aE.cr,Yx]|dh xs=>simp only[SV.cr,SV.er,aE.cr,zai];congr 1;exact zaa fun y _=>by simp only[zaV];rw[Yx]
def SB.cr (x c:Nat):SB->SB
 |.box cs=>.box (cs.map (SC.cr x c))
 |.row gr m ts xs=>.row gr m ts xs
theorem SB.DY (x c:Nat) (b:SB):(b.cr x c).er=b.er.cr x c:=by cases b with|box cs=>simp only[SB.cr,SB.er,bf.cr,Yx]|row gr m ts xs=>rfl
def aq.cr (σ:aq) (x c:Nat):Option aq:=
  match IS x c with
  |true=>some σ
  |false=>match zaf aY x with
   |true=>some σ
   |false=>match σ.used c with
    |true=>none
    |false=>some
     {env:=fun s=>(σ.env s).cr x c
      h:=fun n=>match IS n c with
        |true=>(σ.h x).map (SB.cr x c)
        |false=>match IS n x with
         |true=>none
         |false=>(σ.h n).map (SB.cr x c)
      used:=fun n=>match IS n c with
        |true=>σ.used x
        |false=>match IS n x with
         |true=>false
         |false=>σ.used n}
theorem DI {m n:Nat} (h:IS m n=false):m≠n:=fun e=>by rw[e,zah] at h;cases h
theorem aq.DY {σ σ1:aq} {x c:Nat} (h:σ.cr x c=some σ1):σ.er.cr x c=some σ1.er:=by
 unfold aq.cr at h;split at h
 ·rename_i e;injection h with h;subst h;simp[St.cr,AI e]
 ·rename_i e;split at h
  ·rename_i hx;injection h with h;subst h;simp only[St.cr,ak (DI e),hx,if_true]
  rename_i hx;split at h
  ·cases h
  ·rename_i f;injection h with h;subst h;have a:σ.er.used c=false:=f;simp only[St.cr,ak (DI e),hx,a,zac,if_false];congr 1;have mm:∀o:Option SB,(o.map (SB.cr x c)).map SB.er=(o.map SB.er).map (·.cr x c):=by
    intro o;cases o with
    |none=>rfl
    |some b=>simp only[wt,SB.DY]
   have g:(fun s=>(σ.er.env s).cr x c)=vW (fun s=>(σ.env s).cr x c):=by
    funext s;exact(SV.DY x c (σ.env s)).symm
   have d:(fun n=>if n=c then(σ.er.h x).map (·.cr x c) else if n=x then none else(σ.er.h n).map (·.cr x c))=e8 (fun n=>match IS n c with
     |true=>(σ.h x).map (SB.cr x c)
     |false=>match IS n x with
      |true=>none
      |false=>(σ.h n).map (SB.cr x c)):=by
    funext n;simp only[e8];cases hc:IS n c with
    |true=>rw[aj (AI hc)];exact(mm (σ.h x)).symm
    |false=>
     rw[ak (DI hc)];cases hx:IS n x with
     |true=>rw[aj (AI hx)];rfl
     |false=>rw[ak (DI hx)];exact(mm (σ.h n)).symm
   have i:(fun n=>if n=c then σ.er.used x else if n=x then false else σ.er.used n)=(fun n=>match IS n c with
     |true=>σ.used x
     |false=>match IS n x with
      |true=>false
      |false=>σ.used n):=by
    funext n;cases hc:IS n c with
    |true=>rw[aj (AI hc)];rfl
    |false=>
     rw[ak (DI hc)];cases hx:IS n x with
     |true=>rw[aj (AI hx)]
     |false=>rw[ak (DI hx)];rfl
   rw[g,d,i];rfl
abbrev Cn:=List (Bool×Nat×Nat×Nat×Mode×List Ty)
def Cn.er (cn:Cn):List (Bool×Nat×Nat×Nat×Mode):=cn.map fun x=>(x.1,x.2.1,x.2.2.1,x.2.2.2.1,x.2.2.2.2.1)
def aq.oK (σ:aq) (c:Nat):Mode->aq
 |.bn=>match σ.h c with
  |some (.row gr .bq ts xs)=>σ.gu c (.row gr .bn ts xs)
  |_=>σ
 |_=>σ
theorem aq.aoi (σ:aq) (c:Nat) (m:Mode):(σ.oK c m).er=σ.er.oK c m:=by cases m with|live=>rfl|bq=>rfl|bn=>simp only[aq.oK,St.oK];have a:σ.er.h c=(σ.h c).map SB.er:=rfl;rw[a];cases σ.h c with|none=>rfl|some b=>cases b with|box cs=>rfl|row gr m ts xs=>cases m with|bq=>simp only[wt,SB.er,aq.vY]|live=>rfl|bn=>rfl
def D2 (σ:aq):Bool×Nat×Nat×Nat×Mode×List Ty->Option aq
 |(true,n,j,c,m,us)=>match σ.h n with
  |some (.box cs)=>match cs[j]? with
   |some (.sl a _ _ _)=>(σ.cr a c).map fun σ1=>σ1.oK c m
   |some (.nil ts)=>match ts with
    |[]=>some σ
    |t::ts=>match σ.ins c (.row true m (t::ts) []) with
     |some σ1=>some (σ1.gu n (.box (cs.set j (.sl c (t::ts).length 0 0))))
     |none=>none
   |_=>some σ
  |_=>some σ
 |(false,n,j,c,m,us)=>match σ.env n with
  |.one (.sl a _ _ _)=>(σ.cr a c).map fun σ1=>σ1.oK c m
  |.one (.nil ts)=>match ts with
   |[]=>some σ
   |t::ts=>match σ.ins c (.row true m (t::ts) []) with
    |some σ1=>some (σ1.put (some n) (.one (.sl c (t::ts).length 0 0)))
    |none=>none
  |_=>some σ
theorem alu {σ σ1:aq} {a c:Nat} {m:Mode} (h:(σ.cr a c).map (fun σ1=>σ1.oK c m)=some σ1):(σ.er.cr a c).map (fun σ1=>σ1.oK c m)=some σ1.er:=by rw[zaq] at h;obtain⟨σ2,e,rfl⟩:=h;rw[aq.DY e,wt,aq.aoi]
theorem az9 {σ σ1:aq} {x:Bool×Nat×Nat×Nat×Mode×List Ty} (h:D2 σ x=some σ1):σ.er.canon (x.1,x.2.1,x.2.2.1,x.2.2.2.1,x.2.2.2.2.1)=some σ1.er:=by obtain⟨b,n,j,c,m,us⟩:=x;cases b with|true=>simp only[D2] at h;simp only[St.canon];have g:σ.er.h n=(σ.h n).map SB.er:=rfl;rw[g];split at h;rename_i cs hn;simp only[hn,wt,SB.er,AT];split at h;rename_i a _ _ _ d;simp only[d,wt,SC.er];exact alu h;rename_i ts d;simp only[d,wt,SC.er];split at h;injection h with h;subst h;rfl;rename_i t ts;split at h;rename_i σ2 e;injection h with h;subst h;have i:=aq.AK e;rw[show(SB.row true m (t::ts) []).er=bf.row true m (t::ts).length [] from rfl] at i;simp only[zay,za3,if_true] at i⊢;rw[i];simp only[aq.vY,SB.er,zau,SC.er,zay];cases h;rename_i f k;injection h with h;subst h;(cases d:cs[j]? with|none=>rfl|some y=>cases y<;>first|rfl|(exfalso;exact f _ _ _ _ d)|(exfalso;exact k _ d));rename_i l;injection h with h;subst h;(cases hn:σ.h n with|none=>rfl|some b=>cases b with|box cs=>exact absurd hn (l cs)|row gr m ts xs=>rfl)|false=>simp only[D2] at h;simp only[St.canon];have g:σ.er.env n=(σ.env n).er:=rfl;rw[g];split at h;rename_i a _ _ _ hn;simp only[hn,SV.er,SC.er];exact alu h;rename_i ts hn;simp only[hn,SV.er,SC.er];split at h;injection h with h;subst h;rfl;rename_i t ts;split at h;rename_i σ2 e;injection h with h;subst h;have i:=aq.AK e;rw[show(SB.row true m (t::ts) []).er=bf.row true m (t::ts).length [] from rfl] at i;simp only[zay,za3,if_true] at i⊢;rw[i];simp only[aq.gZ,SV.er,SC.er,zay];cases h;rename_i f k;injection h with h;subst h;cases hn:σ.env n with|one y=>(cases y<;>first|rfl|(exfalso;exact f _ _ _ _ hn)|(exfalso;exact k _ hn))|_=>rfl
def JK (σ:aq):Cn->Option aq
 |[]=>some σ
 |x::l=>match D2 σ x with
  |some σ1=>JK σ1 l
  |none=>none
theorem akW:∀{a:Cn} {σ σ1:aq},JK σ a=some σ1->σ.er.yR a.er=some σ1.er
 |[],σ,σ1,h=>by simp only[JK] at h;injection h with h;subst h;rfl
 |x::l,σ,σ1,h=>by simp only[JK] at h;split at h;rename_i σ2 e;have i:=az9 e;have j:=akW h;simp only[Cn.er] at j;simp only[Cn.er,AN,St.yR,i,j];cases h
section
variable {ρ:Type}
def DH (n:Nat) (k:Nat->Option ρ):List Nat->Option ρ
 |[]=>k n
 |c::l=>match IS n c with
  |true=>k c
  |false=>DH n k l
theorem ah2 (n:Nat) (k:Nat->Option ρ):∀l,DH n k l=k n
 |[]=>rfl
 |c::l=>by simp only[DH];split;rename_i e;rw[AI e];exact ah2 n k l
def Ve (kh:List Nat) (c:SC) (k:SC->Option ρ):Option ρ:=
 match c with
 |.v t x=>k (.v t x)
 |.nil ts=>k (.nil ts)
 |.ptr n kk sz off=>DH n (fun n=>k (.ptr n kk sz off)) kh
 |.eU ts x off=>k (.eU ts x off)
 |.sl n sz lo len=>DH n (fun n=>k (.sl n sz lo len)) kh
 |.cG n a b c d e=>DH n (fun n=>k (.cG n a b c d e)) kh
 |.ez n a b c d e=>DH n (fun n=>k (.ez n a b c d e)) kh
 |.dW ts x off j n sz len=>DH n (fun n=>k (.dW ts x off j n sz len)) kh
 |.fn f fv=>k (.fn f fv)
 |.cC=>k .cC
theorem adI (a:List Nat) (c:SC) (k:SC->Option ρ):Ve a c k=k c:=by cases c<;>first|rfl|exact ah2 _ _ _
def Lq (kh:List Nat):List SC->(List SC->Option ρ)->Option ρ
 |[],k=>k []
 |c::cs,k=>Ve kh c fun c=>Lq kh cs fun cs=>k (c::cs)
theorem Vf (a:List Nat):∀(cs:List SC) (k:List SC->Option ρ),Lq a cs k=k cs
 |[],k=>rfl
 |c::cs,k=>by simp only[Lq,adI,Vf a cs]
def AQ (kh:List Nat) (env:Nat->SV):List Nat->(List (Nat×SV)->Option ρ)->Option ρ
 |[],k=>k []
 |s::ss,k=>match env s with
  |.one .cC=>AQ kh env ss k
  |.one c=>Ve kh c fun c=>AQ kh env ss fun l=>k ((s,.one c)::l)
  |.agg cs=>Lq kh cs fun cs=>AQ kh env ss fun l=>k ((s,.agg cs)::l)
  |.dh xs=>AQ kh env ss fun l=>k ((s,.dh xs)::l)
def AR (kh:List Nat) (h:Nat->Option SB):List Nat->(List (Nat×Option SB)->Option ρ)->Option ρ
 |[],k=>k []
 |n::ns,k=>match h n with
  |none=>AR kh h ns k
  |some (.box cs)=>Lq kh cs fun cs=>AR kh h ns fun l=>k ((n,some (.box cs))::l)
  |some (.row gr m ts xs)=>AR kh h ns fun l=>k ((n,some (.row gr m ts xs))::l)
def EX (u:Nat->Bool):List Nat->(List Nat->Option ρ)->Option ρ
 |[],k=>k []
 |n::ns,k=>match u n with
  |true=>EX u ns fun l=>k (n::l)
  |false=>EX u ns k
def B5:List Nat->Nat->Bool
 |[],n=>zaf aY n
 |m::l,n=>match IS n m with
  |true=>true
  |false=>B5 l n
def aq.Ia (ke kh:List Nat) (σ:aq) (k:aq->Option ρ):Option ρ:=
 AQ kh σ.env ke fun le=>AR kh σ.h kh fun lh=>EX σ.used kh fun lu=>k ⟨rf le,oR lh,B5 lu⟩
structure mA (ke kh:List Nat) (σ:aq):Prop where
 e:∀s,s∉ke->σ.env s=.one .cC
 h:∀n,n∉kh->σ.h n=none
 u:∀n,n∉kh->σ.used n=zaf aY n
 p:∀n,σ.used n=false->zaf aY n=false
theorem adJ (h:List Nat) (env:Nat->SV):∀(b:List Nat) (k:List (Nat×SV)->Option ρ),∃l:List (Nat×SV),AQ h env b k=k l/\∀s,rf l s=if s∈b then env s else .one .cC
 |[],k=>⟨[],rfl,fun s=>by simp[rf]⟩
 |a::b,k=>by
  have j:∀v:SV,env a=v->(∀k':List (Nat×SV)->Option ρ,∃l,AQ h env b k'=k' l/\∀s,rf l s=if s∈b then env s else .one .cC)->
    ∃l:List (Nat×SV),AQ h env b (fun l=>k ((a,v)::l))=k l/\∀s,rf l s=if s∈a::b then env s else .one .cC:=by
   intro v f g;obtain⟨l,i,m⟩:=g fun l=>k ((a,v)::l);refine⟨(a,v)::l,i,fun s=>?_⟩;simp only[rf,nt];split
   ·rename_i e;subst e;rw[aj (by simp)];exact f.symm
   ·rename_i o;rw[m s];by_cases d:s∈b
    ·rw[aj d,aj (by simp[d])]
    ·rw[ak d,ak (by simp[d,o])]
  have g:=fun k':List (Nat×SV)->Option ρ=>adJ h env b k';simp only[AQ];split
  ·rename_i f;obtain⟨l,i,m⟩:=g k;refine⟨l,i,fun s=>?_⟩;rw[m s];by_cases d:s∈b
   ·rw[aj d,aj (by simp[d])]
   ·rw[ak d];by_cases n:s=a
    ·subst n;rw[aj (by simp),f]
    ·rw[ak (by simp[d,n])]
  ·rename_i c hc f;rw[adI];exact j _ f g
  ·rename_i cs f;rw[Vf];exact j _ f g
  ·rename_i xs f;exact j _ f g
theorem adK (f:List Nat) (h:Nat->Option SB):∀(ns:List Nat) (k:List (Nat×Option SB)->Option ρ),∃l:List (Nat×Option SB),AR f h ns k=k l/\∀n,oR l n=if n∈ns then h n else none
 |[],k=>⟨[],rfl,fun s=>by simp[oR]⟩
 |a::ns,k=>by
  have o:∀v:Option SB,h a=v->(∀k':List (Nat×Option SB)->Option ρ,∃l,AR f h ns k'=k' l/\∀s,oR l s=if s∈ns then h s else none)->
    ∃l:List (Nat×Option SB),AR f h ns (fun l=>k ((a,v)::l))=k l/\∀s,oR l s=if s∈a::ns then h s else none:=by
   intro v c d;obtain⟨l,g,i⟩:=d fun l=>k ((a,v)::l);refine⟨(a,v)::l,g,fun s=>?_⟩;simp only[oR,nt];split
   ·rename_i e;subst e;rw[aj (by simp)];exact c.symm
   ·rename_i p;rw[i s];by_cases b:s∈ns
    ·rw[aj b,aj (by simp[b])]
    ·rw[ak b,ak (by simp[b,p])]
  have d:=fun k':List (Nat×Option SB)->Option ρ=>adK f h ns k';simp only[AR];split
  ·rename_i c;obtain⟨l,g,i⟩:=d k;refine⟨l,g,fun s=>?_⟩;rw[i s];by_cases b:s∈ns
   ·rw[aj b,aj (by simp[b])]
   ·rw[ak b];by_cases j:s=a
    ·subst j;rw[aj (by simp),c]
    ·rw[ak (by simp[b,j])]
  ·rename_i cs c;rw[Vf];exact o _ c d
  ·rename_i gr m ts xs c;exact o _ c d
theorem Vg (u:Nat->Bool) (g:∀n,u n=false->zaf aY n=false):∀(ns:List Nat) (k:List Nat->Option ρ),∃l:List Nat,EX u ns k=k l/\∀n,B5 l n=if n∈ns then u n else zaf aY n
 |[],k=>⟨[],rfl,fun s=>by simp[B5]⟩
 |a::ns,k=>by simp only[EX];split;rename_i c;obtain⟨l,f,d⟩:=Vg u g ns fun l=>k (a::l);refine⟨a::l,f,fun s=>?_⟩;simp only[B5];split;rename_i e;have:=AI e;subst this;rw[aj (by simp)];exact c.symm;rename_i e;have i:=DI e;rw[d s];by_cases b:s∈ns;rw[aj b,aj (by simp[b])];rw[ak b,ak (by simp[b,i])];rename_i c;obtain⟨l,f,d⟩:=Vg u g ns k;refine⟨l,f,fun s=>?_⟩;rw[d s];by_cases b:s∈ns;rw[aj b,aj (by simp[b])];rw[ak b];by_cases h:s=a;subst h;rw[aj (by simp),c,g _ c];rw[ak (by simp[b,h])]
theorem Pc {ke a:List Nat} {σ:aq} (W:mA ke a σ) (k:aq->Option ρ):σ.Ia ke a k=k σ:=by unfold aq.Ia;obtain⟨le,l,o⟩:=adJ a σ.env ke fun le=>AR a σ.h a fun c=>EX σ.used a fun b=>k ⟨rf le,oR c,B5 b⟩;rw[l];obtain⟨c,n,g⟩:=adK a σ.h a fun c=>EX σ.used a fun b=>k ⟨rf le,oR c,B5 b⟩;rw[n];obtain⟨b,i,u2⟩:=Vg σ.used W.p a fun b=>k ⟨rf le,oR c,B5 b⟩;rw[i];have f:rf le=σ.env:=(by funext s;rw[o s];split;rfl;rename_i d;exact(W.e s d).symm);have m:oR c=σ.h:=(by funext s;rw[g s];split;rfl;rename_i d;exact(W.h s d).symm);have j:B5 b=σ.used:=(by funext s;rw[u2 s];split;rfl;rename_i d;exact(W.u s d).symm);rw[f,m,j]
theorem mA.mf (ke a:List Nat) (σ:aq):mA ke a (σ.mf ke a):= ⟨fun s c=>Zi _ _ _ s c,fun n hn=>Zj _ _ _ n hn,fun n hn=>by show(zaf aY n||ym _ _ n)=_;rw[Zk _ _ n hn,zaO], fun n hn=>by have b:(zaf aY n||ym _ _ n)=false:=hn;simp only[Bool.or_eq_false_iff] at b;exact b.1⟩
theorem mA.cr {ke b:List Nat} {σ σ1:aq} {a c:Nat} (W:mA ke b σ) (d:c∈b) (h:σ.cr a c=some σ1):mA ke b σ1:=by unfold aq.cr at h;split at h;injection h with h;subst h;exact W;split at h;injection h with h;subst h;exact W;rename_i rn;split at h;cases h;rename_i f;injection h with h;subst h;refine⟨fun s g=>?_,fun n hn=>?_,fun n hn=>?_,fun n hn=>?_⟩;show(σ.env s).cr a c=_;rw[W.e s g];rfl;simp only;split;rename_i e;exact absurd (by rw[AI e];exact d) hn;split;rfl;rw[W.h n hn];rfl;simp only;split;rename_i e;exact absurd (by rw[AI e];exact d) hn;split;rename_i e;rw[AI e,rn];exact W.u n hn;simp only at hn;split at hn;rename_i e;rw[AI e];exact W.p c f;split at hn;rename_i e;rw[AI e,rn];exact W.p n hn
theorem mA.ins {ke d:List Nat} {σ σ1:aq} {c:Nat} {b:SB} (W:mA ke d σ) (f:c∈d) (h:σ.ins c b=some σ1):mA ke d σ1:=by unfold aq.ins at h;split at h;cases h;rename_i PJ;injection h with h;subst h;refine⟨W.e,fun n hn=>?_,fun n hn=>?_,fun n hn=>?_⟩;show bj σ.h c _ n=_;rw[dZ _ _ _ _ (fun e=>hn (by rw[e];exact f))];exact W.h n hn;show bj σ.used c _ n=_;rw[dZ _ _ _ _ (fun e=>hn (by rw[e];exact f))];exact W.u n hn;have a:bj σ.used c true n=false:=hn;by_cases e:n=c;subst e;rw[dD] at a;cases a;rw[dZ _ _ _ _ e] at a;exact W.p n a
theorem mA.oK {ke a:List Nat} {σ:aq} (W:mA ke a σ) (c:Nat) (m:Mode):mA ke a (σ.oK c m):=by cases m with|live=>exact W|bq=>exact W|bn=>simp only[aq.oK];split;rename_i gr ts xs hn;exact⟨W.e,fun n b=>by show bj σ.h c _ n=none;have d:n≠c:=fun e=>(by subst e;rw[W.h n b] at hn;cases hn);rw[dZ _ _ _ _ d];exact W.h n b,W.u,W.p⟩;exact W
theorem mA.M4 {ke b:List Nat} {σ σ1:aq} {a c:Nat} {m:Mode} (W:mA ke b σ) (d:c∈b) (h:(σ.cr a c).map (fun σ1=>σ1.oK c m)=some σ1):mA ke b σ1:=by rw[zaq] at h;obtain⟨σ2,e,rfl⟩:=h;exact(W.cr d e).oK c m
theorem mA.canon {ke d:List Nat} {σ σ1:aq} {x:Bool×Nat×Nat×Nat×Mode×List Ty} (W:mA ke d σ) (f:x.2.2.2.1∈d) (h:D2 σ x=some σ1):mA ke d σ1:=by obtain⟨b,n,j,c,m,us⟩:=x;simp only at f;have kt:some σ=some σ1->mA ke d σ1:=fun h=>(by injection h with h;subst h;exact W);cases b with|true=>simp only[D2] at h;split at h;rename_i cs hn;split at h;exact W.M4 f h;split at h;exact kt h;split at h;rename_i σ2 e;injection h with h;subst h;have a:=W.ins f e;have i:n∈d:=(by rcases zbb (n∈d) with h|h;exact h;rw[W.h n h] at hn;cases hn);exact⟨a.e,fun q g=>by show bj σ2.h n _ q=_;rw[dZ _ _ _ _ (fun e=>g (by rw[e];exact i))];exact a.h q g,a.u,a.p⟩;cases h;exact kt h;exact kt h|false=>simp only[D2] at h;split at h;exact W.M4 f h;rename_i ts hn;split at h;exact kt h;split at h;rename_i σ2 e;injection h with h;subst h;have a:=W.ins f e;have i:n∈ke:=(by rcases zbb (n∈ke) with h|h;exact h;rw[W.e n h] at hn;cases hn);exact⟨fun q g=>by show bj σ2.env n _ q=_;rw[dZ _ _ _ _ (fun e=>g (by rw[e];exact i))];exact a.e q g,a.h,a.u,a.p⟩;cases h;exact kt h
def Q6 (ke kh:List Nat):Cn->aq->(aq->Option ρ)->Option ρ
 |[],σ,k=>k σ
 |x::l,σ,k=>match D2 σ x with
  |some σ1=>match List.elem x.2.2.2.1 kh with
   |true=>σ1.Ia ke kh fun σ2=>Q6 ke kh l σ2 k
   |false=>none
  |none=>none
theorem akV {ke a:List Nat}:∀{c:Cn} {σ:aq} {k:aq->Option ρ} {r:ρ},mA ke a σ->Q6 ke a c σ k=some r->∃σ1,JK σ c=some σ1/\k σ1=some r
 |[],σ,k,r,W,h=>⟨σ,rfl,h⟩
 |x::l,σ,k,r,W,h=>by simp only[Q6] at h;split at h;rename_i σ1 e;split at h;rename_i hm;have b:=W.canon (by simpa using hm) e;rw[Pc b] at h;obtain⟨σ2,f,d⟩:=akV b h;exact⟨σ2,by simp only[JK,e,f],d⟩;cases h;cases h
def JR (sh:n5) (kh:List Nat) (cn:Cn) (σ:aq) (k:sh.L.D->Option ρ):Option ρ:=
 (σ.mf sh.ke kh).Ia sh.ke kh fun σ1=>(σ1.mf sh.ke kh).Ia sh.ke kh fun σ2=>Q6 sh.ke kh cn σ2 fun j6=>(j6.mf sh.ke kh).Ia sh.ke kh fun σ4=>sh.flat kh σ4 k
theorem Ru {a:n5} {b:List Nat} {c:Cn} {σ:aq} {k:a.L.D->Option ρ} {r:ρ} (h:JR a b c σ k=some r): ∃x,σ.er.head a.ke b c.er=some (a.un x).er/\k x=some r:=by unfold JR at h;rw[Pc (mA.mf _ _ _),Pc (mA.mf _ _ _)] at h;obtain⟨σ1,e,h⟩:=akV (mA.mf _ _ _) h;rw[Pc (mA.mf _ _ _)] at h;obtain⟨x,f,d⟩:=n5.uY h (fun s g=>Zi _ _ _ s g) (fun n hn=>⟨Zj _ _ _ n hn,by show(zaf aY n||ym _ _ n)=_;rw[Zk _ _ n hn,zaO]⟩);have i:=akW e;rw[aq.YA,aq.YA] at i;exact⟨x,by simp only[St.head,i,<-f,aq.YA],d⟩
end
inductive bV where
 |skip
 |dM (sT:Bool) (ops:List f7)
 |wJ (sT:Bool) (ps:List (Nat×Nat)) (ops:List f7) (sp:KC)
 |seq (a b:bV)
 |cond (c:eK) (a b:bV)
 |block (id:Nat) (c:bV)
 |join (sh:n5) (kh:List Nat) (cn:Cn) (c:bV)
 |loop (id:Nat) (sh:n5) (kh:List Nat) (cn:Cn) (c:bV)
 |exit (id:Nat)
 |ret
def bV.er:bV->mX
 |.skip=>.skip
 |.dM d ops=>.dM d (ops.map f7.er)
 |.wJ dr ps ops sp=>.wJ dr ps (ops.map f7.er) sp.er
 |.seq a b=>.seq a.er b.er
 |.cond c a b=>.cond c.er a.er b.er
 |.block id c=>.block id c.er
 |.join sh kh cn c=>.join sh.ke kh cn.er c.er
 |.loop id sh kh cn c=>.loop id sh.ke kh cn.er c.er
 |.exit id=>.exit id
 |.ret=>.ret
def aq.Xx (σ:aq) (c:eK) (b:Bool):aq:=
 match c with
 |.t n=>σ.lit n b
 |.k _=>σ
def Dl {X ρ:Type} (o:Option ρ):Option (X⊕ρ):=o.ae fun r=>some (.inr r)
theorem I2 {X ρ:Type} {o:Option ρ} {s:X⊕ρ} (h:Dl o=some s):∃r,o=some r/\s=.inr r:=by unfold Dl at h;rw[gw] at h;obtain⟨r,b,a⟩:=h;injection a with a;exact⟨r,b,a.symm⟩
def pu (N:Nat) (T:List aF):bV->{ρ:Type}->aq->(aq->Option ρ)->(Nat->aq->Option ρ)->(aq->Option ρ)->Option ρ
 |.skip,_,σ,k,_,_=>k σ
 |.dM _ ops,_,σ,k,_,_=>uA T ops σ k
 |.wJ false _ ops sp,_,σ,k,_,_=>uA T ops σ fun σ1=>RH sp σ1 k
 |.wJ true ps ops sp,_,σ,k,_,_=>none
 |.seq a b,_,σ,k,ex,kr=>pu N T a σ (fun σ1=>pu N T b σ1 k ex kr) ex kr
 |.cond c a b,_,σ,k,ex,kr=>match σ.ev c with
  |.one (.v .bool t)=>au t (pu N T a (σ.Xx c true) k ex kr) (pu N T b (σ.Xx c false) k ex kr)
  |_=>none
 |.block id c,_,σ,k,ex,kr=>pu N T c σ k (fun i σ1=>match IS i id with|true=>k σ1|false=>ex i σ1) kr
 |.join sh kh cn c,ρ,σ,k,ex,kr=>
  bK (pu N T c (ρ:=sh.L.D⊕ρ) σ (fun σ1=>JR sh kh cn σ1 fun x=>some (.inl x)) (fun i σ1=>Dl (ex i σ1)) (fun σ1=>Dl (kr σ1))) fun x=>k (sh.un x)
 |.loop id sh kh cn c,ρ,σ,k,ex,kr=>
  JR sh kh cn σ fun x0=>cj N (fun x=>pu N T c (ρ:=sh.L.D⊕ρ) (sh.un x) (fun σ1=>JR sh kh cn σ1 fun x'=>some (.inl x')) (fun i σ1=>Dl (ex i σ1)) (fun σ1=>Dl (kr σ1))) x0
 |.exit id,_,σ,_,ex,_=>ex id σ
 |.ret,_,σ,_,_,kr=>kr σ
def aaq {ρ:Type} (k:aq->Option ρ) (ex:Nat->aq->Option ρ) (kr:aq->Option ρ) (r:ρ):xm->Prop
 |.iH τ=>∃gv:aq,τ=gv.er/\k gv=some r
 |.ext i τ=>∃gv:aq,τ=gv.er/\ex i gv=some r
 |.ret τ=>∃gv:aq,τ=gv.er/\kr gv=some r
theorem afR {σ:aq} {c:eK} {b:Bool} (h:σ.ev c=.one (.v .bool b)):(σ.Xx c b).er=σ.er:=by cases c with|t n=>exact aq.UI h|k v=>rfl
theorem vA {T:List aF}:∀(m:bV) {ρ:Type} {σ:aq} {k:aq->Option ρ} {l:Nat->aq->Option ρ} {p:aq->Option ρ} {r:ρ},pu aN T m σ k l p=some r->
    ∃o:xm,fB (eE T) m.er σ.er=some o/\aaq k l p r o
  |.skip,ρ,σ,k,l,p,r,h=>⟨.iH σ.er,rfl,σ,rfl,h⟩
  |.dM d ops,ρ,σ,k,l,p,r,h=>by
   obtain⟨σ1,g,f⟩:=Q8 (h:uA T ops σ k=some r);exact⟨.iH σ1.er,by simp only[bV.er,fB,g],σ1,rfl,f⟩
  |.wJ false ps ops sp,ρ,σ,k,l,p,r,h=>by
   obtain⟨σ1,g,f⟩:=Q8 (h:uA T ops σ (fun σ1=>RH sp σ1 k)=some r);obtain⟨σ2,u,q⟩:=aAB f;exact⟨.iH σ2.er,by simp only[bV.er,fB,g,u],σ2,rfl,q⟩
  |.wJ true ps ops sp,ρ,σ,k,l,p,r,h=>by
   cases h
  |.seq a b,ρ,σ,k,l,p,r,h=>by
   obtain⟨o,g,f⟩:=vA a (h:pu aN T a σ (fun σ1=>pu aN T b σ1 k l p) l p=some r);cases o with
   |iH τ=>
    obtain⟨j,rfl,f⟩:=f;obtain⟨I,u,q⟩:=vA b f;exact⟨I,by simp only[bV.er,fB,g,u],q⟩
   |ext i τ=>exact⟨.ext i τ,by simp only[bV.er,fB,g],f⟩
   |ret τ=>exact⟨.ret τ,by simp only[bV.er,fB,g],f⟩
  |.cond c a b,ρ,σ,k,l,p,r,h=>by
   simp only[pu] at h;split at h
   · rename_i t A;have E:σ.er.ev c.er=.one (.c (.bool t)):=by rw[aq.h9,A];rfl
     cases ht:(t:Bool) with
     |true=>
      rw[ht] at h;simp only[KZ] at h;obtain⟨o,g,f⟩:=vA a h;rw[afR (by rw[A,ht])] at g;exact⟨o,by simp only[bV.er,fB,E,ht,if_true,g],f⟩
     |false=>
      rw[ht] at h;simp only[HI] at h;obtain⟨o,g,f⟩:=vA b h;rw[afR (by rw[A,ht])] at g;exact⟨o,by simp only[bV.er,fB,E,ht,zac,if_false,g],f⟩
   · cases h
  |.block id c,ρ,σ,k,l,p,r,h=>by
   obtain⟨o,g,f⟩:=vA c (h:pu aN T c σ k (fun i σ1=>match IS i id with|true=>k σ1|false=>l i σ1) p=some r)
   cases o with
   |iH τ=>exact⟨.iH τ,by simp only[bV.er,fB,g],f⟩
   |ret τ=>exact⟨.ret τ,by simp only[bV.er,fB,g],f⟩
   |ext i τ=>
    obtain⟨j,rfl,f⟩:=f;simp only at f;split at f
    · rename_i e;exact⟨.iH j.er,by simp only[bV.er,fB,g,aj (AI e)],j,rfl,f⟩
    · rename_i e;exact⟨.ext i j.er,by simp only[bV.er,fB,g,ak (DI e)],j,rfl,f⟩
  |.join sh kh cn c,ρ,σ,k,l,p,r,h=>by
   simp only[pu,bK,zaL] at h;obtain⟨s,F,h⟩:=h;obtain⟨o,g,f⟩:=vA c F;cases o with
   |iH τ=>
    obtain⟨j,rfl,f⟩:=f;obtain⟨x,u,q⟩:=Ru f;injection q with q;subst q;exact⟨.iH (sh.un x).er,by simp only[bV.er,fB,g,u],sh.un x,rfl,h⟩
   |ext i τ=>
    obtain⟨j,rfl,f⟩:=f;obtain⟨y,u,rfl⟩:=I2 f;injection h with h;subst h;exact⟨.ext i j.er,by simp only[bV.er,fB,g],j,rfl,u⟩
   |ret τ=>
    obtain⟨j,rfl,f⟩:=f;obtain⟨y,u,rfl⟩:=I2 f;injection h with h;subst h;exact⟨.ret j.er,by simp only[bV.er,fB,g],j,rfl,u⟩
  |.loop id sh kh cn c,ρ,σ,k,l,p,r,h=>by
   simp only[pu] at h;obtain⟨v,w,h⟩:=Ru h;simp only[bV.er,fB];have H:∀(n:Nat) (v:sh.L.D) (z:St),z.head sh.ke kh cn.er=some (sh.un v).er->
       cj n (fun x=>pu aN T c (ρ:=sh.L.D⊕ρ) (sh.un x) (fun σ1=>JR sh kh cn σ1 fun x'=>some (.inl x')) (fun i σ1=>Dl (l i σ1)) (fun σ1=>Dl (p σ1))) v=some r->
       ∃o:xm,Jf n (fun σ=>match σ.head sh.ke kh cn.er with|some σ1=>fB (eE T) c.er σ1|none=>none) z=some o/\aaq k l p r o:=by
    intro n;induction n with
    |zero=>intro v z w h;simp[cj] at h
    |succ n G=>
     intro v z w h;simp only[cj] at h;simp only[Jf,w];split at h
     · rename_i x' B;obtain⟨o,g,f⟩:=vA c B;cases o with
       |iH τ=>
        obtain⟨j,rfl,f⟩:=f;obtain⟨C,u,q⟩:=Ru f;injection q with q;injection q with q;subst q;simp only[g];exact G C _ u h
       |ext i τ=>
        obtain⟨j,rfl,f⟩:=f;obtain⟨y,_,e⟩:=I2 f;cases e
       |ret τ=>
        obtain⟨j,rfl,f⟩:=f;obtain⟨y,_,e⟩:=I2 f;cases e
     · rename_i y B;injection h with h;subst h;obtain⟨o,g,f⟩:=vA c B;cases o with
       |iH τ=>
        obtain⟨j,rfl,f⟩:=f;obtain⟨C,u,q⟩:=Ru f;injection q with q;cases q
       |ext i τ=>
        obtain⟨j,rfl,f⟩:=f;obtain⟨y',u,e⟩:=I2 f;injection e with e;subst e;exact⟨.ext i j.er,by simp only[g],j,rfl,u⟩
       |ret τ=>
        obtain⟨j,rfl,f⟩:=f;obtain⟨y',u,e⟩:=I2 f;injection e with e;subst e;exact⟨.ret j.er,by simp only[g],j,rfl,u⟩
     · cases h
   exact H aN v σ.er w h
  |.exit id,ρ,σ,k,l,p,r,h=>⟨.ext id σ.er,rfl,σ,rfl,h⟩
  |.ret,ρ,σ,k,l,p,r,h=>⟨.ret σ.er,rfl,σ,rfl,h⟩
def vx:mX->Bool
 |.skip|.ret|.exit _=>true
 |.dM _ ops=>ops.all fun o=>zaf o.op.jF 1
 |.seq a b=>vx a&&vx b
 |.cond _ a b=>vx a&&vx b
 |.block _ c=>vx c
 |_=>false
structure jq (σ σ':St):Prop where
 h:∀n,σ.used n=true->σ'.h n=σ.h n
 u:∀n,σ.used n=true->σ'.used n=true
theorem jq.refl (σ:St):jq σ σ:=⟨fun _ _=>rfl,fun _ h=>h⟩
theorem jq.trans {σ σ1 σ2:St} (a:jq σ σ1) (b:jq σ1 σ2):jq σ σ2:=⟨fun n hn=>(b.h n (a.u n hn)).trans (a.h n hn),fun n hn=>b.u n (a.u n hn)⟩
theorem jq.put (σ:St) (d:Option Nat) (v:aE):jq σ (σ.put d v):=by cases d<;>exact⟨fun _ _=>rfl,fun _ h=>h⟩
theorem jq.fQ:∀{l:List (Nat×bf)} {σ σ':St},σ.fQ l=some σ'->jq σ σ'
 |[],σ,σ',h=>by simp only[St.fQ] at h;injection h with h;subst h;exact jq.refl _
 |(n,b)::l,σ,σ',h=>by simp only[St.fQ] at h;split at h;rename_i σ1 e;obtain⟨a,rfl⟩:=ui e;refine jq.trans ⟨fun m hm=>?_,fun m hm=>?_⟩ (jq.fQ h);show bj σ.h n (some b) m=_;rw[dZ _ _ _ _ (fun e=>by subst e;rw[a] at hm;cases hm)];show bj σ.used n true m=true;rw[nt];split;rfl;exact hm;cases h
theorem jq.exec {T:bL} {d:Option Nat} {op:eB} {σ σ':St} (b:zaf op.jF 1=true) (h:exec T d op σ=some σ'):jq σ σ':=by rw[xA T d op σ (zat b)] at h;cases hr:rd T d op σ.ev σ.h with|none=>rw[hr] at h;cases h|some x=>rw[hr] at h;simp only[zak,ie] at h;rw[zaq] at h;obtain⟨σ1,a,rfl⟩:=h;exact(jq.fQ a).trans (jq.put _ _ _)
theorem jq.iY {T:bL} {o:eI} {σ σ':St} (a:zaf o.op.jF 1=true) (h:iY T o σ=some σ'):jq σ σ':=by unfold Am.iY at h;split at h;exact jq.exec a h;split at h;split at h;exact jq.exec a h;injection h with h;subst h;exact jq.put _ _ _;injection h with h;subst h;exact jq.put _ _ _;cases h
theorem jq.ic {T:bL}:∀{os:List eI} {σ σ':St},os.all (fun o=>zaf o.op.jF 1)=true->ic T os σ=some σ'->jq σ σ'
 |[],σ,σ',_,h=>by simp only[Am.ic] at h;injection h with h;subst h;exact jq.refl _
 |o::os,σ,σ',hc,h=>by simp only[zav,IN] at hc;simp only[Am.ic] at h;split at h;rename_i σ1 e;exact(jq.iY hc.1 e).trans (jq.ic hc.2 h);cases h
def xm.st:xm->St
 |.iH σ=>σ
 |.ext _ σ=>σ
 |.ret σ=>σ
theorem F7 {T:bL}:∀(j:mX) {σ:St} {o:xm},vx j=true->fB T j σ=some o->jq σ o.st
 |.skip,σ,o,_,h=>by simp only[fB] at h;injection h with h;subst h;exact jq.refl _
 |.ret,σ,o,_,h=>by simp only[fB] at h;injection h with h;subst h;exact jq.refl _
 |.exit i,σ,o,_,h=>by simp only[fB] at h;injection h with h;subst h;exact jq.refl _
 |.dM d ops,σ,o,hc,h=>by simp only[fB] at h;split at h;rename_i σ1 e;injection h with h;subst h;exact jq.ic hc e;cases h
 |.seq a b,σ,o,hc,h=>by simp only[vx,IN] at hc;simp only[fB] at h;cases e:fB T a σ with|none=>rw[e] at h;cases h|some g=>have f:=F7 a hc.1 e;rw[e] at h;cases g with|iH σ1=>exact f.trans (F7 b hc.2 h)|ext i σ1=>injection h with h;subst h;exact f|ret σ1=>injection h with h;subst h;exact f
 |.cond c a b,σ,o,hc,h=>by simp only[vx,IN] at hc;simp only[fB] at h;split at h;split at h;exact F7 a hc.1 h;exact F7 b hc.2 h;cases h
 |.block id c,σ,o,hc,h=>by simp only[vx] at hc;simp only[fB] at h;cases e:fB T c σ with|none=>rw[e] at h;cases h|some g=>have f:=F7 c hc e;rw[e] at h;cases g with|iH σ1=>injection h with h;subst h;exact f|ret σ1=>injection h with h;subst h;exact f|ext i σ1=>simp only at h;split at h<;>(injection h with h;subst h;exact f)
 |.join ..,_,_,hc,_=>by simp[vx] at hc
 |.loop ..,_,_,hc,_=>by simp[vx] at hc
def St.JG (σ:St) (ms:List bU):Option (Nat×Nat):=
 match σ.wK ms with
 |some [.one (.sl n sz lo len)]=>if n=aY then match σ.h aY with
  |some (.row _ _ rs (_::_))=>if sz=rs then some (lo,len) else none
  |_=>none
  else none
 |_=>none
def QX (T:bL) (mc:mX) (aJ:List bU) (sig:cX) (ds:List Dv):Option (Nat×Nat):=
 match fq sig (ds.map (·.2)) with
 |[_]=>match fB T mc (se sig ds) with
  |some (.iH σ)=>σ.JG aJ
  |some (.ret σ)=>σ.JG aJ
  |_=>none
 |_=>none
section
variable {B:Nat} {E:Ex} {w0 w w':World} {G G':Gh} {N:Nat} {h h':Nat->Option bf} {used:Nat->Bool}
variable {P:Program} {T:bL} {a:Act} {σ σ':St} {Q:Exit->Act->World->Prop}
theorem asr (sig:cX) (ds:List Dv):(se sig ds).h aY=((fq sig (ds.map (·.2)))[aY - aY]?).bind pt:=by have a:∀n,aY<=n->(se sig ds).h n=((fq sig (ds.map (·.2)))[n - aY]?).bind pt:=fun n hn=>aj hn;exact a aY (zap aY)
theorem ass (sig:cX) (ds:List Dv):(se sig ds).used aY=true:=by have a:∀n,aY<=n->(se sig ds).used n=true:=fun n hn=>Pe hn;exact a aY (zap aY)
theorem aoj (x:Mode×PC):(vZ [x]).rG aY=some (sD x.2):=by
 have b:∀n,aY<=n->n - aY=0->(vZ [x]).rG n=some (sD x.2):=fun n hn a=>by
  show(if aY<=n then([x][n - aY]?).map _ else none)=_
  rw[aj hn,a];rfl
 exact b aY (zap aY) (zaH aY)
theorem aBj (hT:sM P T) (hm:P.follows .mixedOrders=true) {f:FuncId} {fn:Func} {c:Code} {t:mX} {ms:List bU} {sig:cX} {M:List Dv->Option (Nat×Nat)} (hf:P.funcs[f]? =some fn) (hb:fn.body=some c)
  (hc:mC P fn.ntmps c t=true) (hr:qY P fn.results.toList ms=true) (PH:vx t=true) (hM:∀ds lo len,M ds=some (lo,len)->ds.length<=fn.ntmps/\QX T t ms sig ds=some (lo,len)):Hj P f sig M:=by
 intro ds lo len mZ w vals pas j;obtain⟨hN,s⟩:=hM ds lo len mZ;refine calls_of_wp hf hb ?_;have L:=R.Me (N:=fn.ntmps) j hN;have iO:∀p∈pas,∀pc∈p.ps,Good w pc:=by
  intro p A pc cA;obtain⟨i,z,rfl⟩:=zaj A;have hd:ds[i]? =some (ds[i]'(by rw[<-j.l2];exact z)):=co _;have B:vals[i]? =some (vals[i]'(by rw[j.l1,<-j.l2];exact z)):=co _;exact(j.at_ i _ _ _ hd B (co z)).2.1 pc cA
 have W:∀x∈fq sig (pas.map (·.ps)),Good w x.2:=by
  intro x hx;obtain⟨l,hl,te⟩:=Le hx;obtain⟨p,A,rfl⟩:=zag.1 hl;exact iO p A _ te
 have LA:ds.map (·.2)=(pas.map (·.ps)).map fun l=>l.map PC.er:=by
  apply zan;intro i;simp only[AT];cases hd:ds[i]? with
  |none=>
   have:ds.length<=i:=zal.1 hd;rw[Pd (by rw[j.l2];exact this)];rfl
  |some d=>
   have z:=(If.1 hd).1;have B:vals[i]? =some (vals[i]'(by rw[j.l1];exact z)):=co _;have A:pas[i]? =some (pas[i]'(by rw[j.l2];exact z)):=co _;have:=(j.at_ i d _ _ hd B A).1;rw[A];simp only[wt];rw[this]
 have Q:(se sig ds).h aY=((fq sig (ds.map (·.2)))[aY - aY]?).bind pt:=asr sig ds;have D:(se sig ds).used aY=true:=ass sig ds;unfold QX at s;rw[LA,H4] at s Q;generalize m5:fq sig (pas.map (·.ps))=fl at s L W Q;have V:=j.ok;rw[m5] at V;split at s
 case h_2=>cases s
 rename_i y hy;obtain⟨x,rfl⟩:∃x,fl=[x]:=by
  match fl,hy with
  |[x],_=>exact⟨x,rfl⟩
 obtain⟨m,pc⟩:=x;obtain⟨sz,Z,cap,px,F,fN,t7,wh⟩:=(V (m,pc) (by simp)).f0;dsimp only at F wh;subst F;have S:(se sig ds).h aY=some (.row false m sz (px.map fun e=>e.map PC.er)):=by
  rw[Q,zaH];simp[pt,PC.fx]
 have ie:∀{σ:St} {a:Act} {w':World} {G:Gh},σ.h aY=(se sig ds).h aY->σ.JG ms=some (lo,len)->R w.heap.size (vZ [(m,.list sz Z cap px)]) w fn.ntmps σ a w' G->a.defers=[]/\∃v,(results fn a.tmps).run P w'=.ok v w'/\
   ∃(Y:Mode) (H u:Nat) (E:Option Addr) (xs:List (List PC)) (v':Value),[(m,PC.list sz Z cap px)]=[(Y,.list H E u xs)]/\(Ending.returned v)=.returned v'/\xs≠[]/\
   (∃(b o:Nat) (J:Option Addr),E=some (ad b o)/\v'=.slice J len (u - lo)/\lo+len<=u/\((lo<u\/lo=0)->J=some (ad b (o+lo*H))))/\
   Fr w.heap.size (CL [(Y,.list H E u xs)]) w w'/\∃q:PC,q.er=(PC.list H E u xs).er/\uL w' Y (.list H E u xs) q:=by
  intro σ a w' G k hx r;rw[S] at k;unfold St.JG at hx;split at hx
  ·rename_i n C Qr MA e1;split at hx
   ·rename_i hn;subst hn;rw[k] at hx;split at hx
    ·rename_i gr m0 vC e0 es0 gd;split at hx
     case isFalse=>cases hx
     rename_i K;injection hx with hx;injection hx with lV fC;subst lV fC;injection gd with gd;injection gd with _ _ tc kj;have O:px≠[]:=by rintro rfl;cases kj
     have iK:=W (m,.list sz Z cap px) (by simp);rcases iK.cases with I|⟨_,kJ,b,o,rfl⟩
     ·exact absurd I O
     have e2:zP σ 0 ([(m,PC.list sz (some (ad b o)) cap px)].map fun x=>(x.1,x.2.er))=some [.list sz (px.map fun e=>e.map PC.er)]:=by
      simp only[AN,za0,zP,FX,PC.fx,zaX,k];rw[aj ⟨trivial,trivial,trivial,wh,trivial⟩]
     obtain⟨us,u1,u2,_,u3⟩:=M6 r hr e1;obtain⟨v,rfl⟩:∃v,us=[v]:=by
      match us,u2 with
      |[v],_=>exact⟨v,rfl⟩
     have B:=(u3 0 _ v rfl rfl).jR (by simp);have lB:lL (G.g aY) C Qr MA v:=B.1 (by rw[k];simp);have arF:C=sz:=K.trans tc.symm;have rn:=aoj (m,PC.list sz (some (ad b o)) cap px);obtain⟨p1,U,X,p4,p6,_⟩:=r.rG _ _ _ rn k;rw[zQ O] at p1 U X p4;dsimp only at p1 U X p4;obtain⟨q,oq,k1,k2,k3,_⟩:=KG V W r e2 (i:=0) rfl;refine⟨r.defers,_,Q0 fn a.tmps u1,m,sz,cap,some (ad b o),px,v,rfl,rfl,O,?_,⟨r.fr.os,r.fr.tape,r.fr.output,r.fr.size,r.fr.block,r.fr.mh⟩,q,?_,k3⟩
     ·rcases lB with⟨I,_⟩|⟨_,J,h1,h2,h3⟩
      ·rw[p1] at I;cases I
      ·rw[U,X,p4] at*
       subst arF;exact⟨b,o,J,rfl,h1,h2,h3⟩
     ·rw[k2];simp only[List.getElem?_cons_zero,zae] at k1;rw[<-k1,PC.fx]
    ·cases hx
   ·cases hx
  ·cases hx
 split at s
 ·rename_i σ e;have k:=(F7 t PH e).h aY D;exact n7 hT hm t hc e L fun a w' G r=>ie k s r
 ·rename_i σ e;have k:=(F7 t PH e).h aY D;exact n7 hT hm t hc e L fun a w' G r=>ie k s r
 ·cases s
end
def St.win (σ:St) (i lo len:Nat):St:=σ.put (some i) (.one (.sl aY 1 lo len))
def QZ (T:bL) (mc:mX) (aJ:List bU) (i lo len:Nat) (ds:List Dv):Option (List Dv×List C):=
 match fB T mc ((se (oL i) ds).win i lo len) with
 |some (.iH σ)=>σ.zU aJ (fq (oL i) (ds.map (·.2)))
 |some (.ret σ)=>σ.zU aJ (fq (oL i) (ds.map (·.2)))
 |_=>none
theorem ab9 {α:Type}:∀{i:Nat} {xss:List (List α)} {x:α},xss[i]? =some [x]->fq (oL i) xss=[(.bq,x)]
 |0,[],_,h=>by cases h
 |0,xs::xss,x,h=>by injection h with h;subst h;show gO [some .bq] [x]++fq [] xss=_;rfl
 |i+1,[],_,h=>by cases h
 |i+1,xs::xss,x,h=>by show gO [] xs++fq (oL i) xss=_;rw[ab9 (i:=i) (xss:=xss) (x:=x) h];rfl
section
variable {B:Nat} {E:Ex} {w0 w w':World} {G G':Gh} {N:Nat} {h h':Nat->Option bf} {used:Nat->Bool}
variable {P:Program} {T:bL} {a:Act} {σ σ':St} {Q:Exit->Act->World->Prop}
theorem amH {vals:List Value} {v:Value} {i N:Nat} (a:i<vals.length): ({tmps:=(vals.set i v).toArray++zar (N - (vals.set i v).toArray.size) undef,defers:=[]}:Act)=({tmps:=vals.toArray++zar (N - vals.toArray.size) undef,defers:=[]}:Act).put (some i) v:=by simp only[Act.put];congr 1;apply Array.ext';simp[List.set_append,a]
theorem aBu (hT:sM P T) (hm:P.follows .mixedOrders=true) {f:FuncId} {fn:Func} {c:Code} {S:mX} {ms:List bU} {i:Nat} {M:List Dv->Option (List Dv×List C)} (hf:P.funcs[f]? =some fn) (hb:fn.body=some c)
  (hc:mC P fn.ntmps c S=true) (hr:qY P fn.results.toList ms=true)
  (hM:∀lo len ds D H,M (dI lo::dI (lo+len)::ds)=some (D,H)->ds.length<=fn.ntmps/\QZ T S ms i lo len ds=some (D,H)):EB P f i M:=by
 intro lo len ds D H ys mZ Is w vals pas j b0 o0 Oj n0 a' Wy cY gS Vu;obtain⟨hN,u⟩:=hM lo len ds D H mZ;refine calls_of_wp hf hb ?_;have rm:i<ds.length:=(If.1 Is).1;have Iy:i<vals.length:=by rw[j.l1];exact rm
 have iO:∀p∈pas,∀pc∈p.ps,Good w pc:=by
  intro p E pc cA;obtain⟨i,t,rfl⟩:=zaj E;have hd:ds[i]? =some (ds[i]'(by rw[<-j.l2];exact t)):=co _;have W:vals[i]? =some (vals[i]'(by rw[j.l1,<-j.l2];exact t)):=co _;exact(j.at_ i _ _ _ hd W (co t)).2.1 pc cA
 have V:pas[i]? =some (pas[i]'(by rw[j.l2];exact rm)):=co _;obtain⟨A,y,s⟩:=j.at_ i _ _ _ Is Wy V;generalize pas[i]'(by rw[j.l2];exact rm)=p at V A y s;obtain⟨pk,O,pb,po⟩:=p;injection A with I J;simp only at I J y s;subst I;simp only at s;obtain⟨pc,rfl⟩:∃pc,O=[pc]:=by
  have hl:=congrArg zaz s;rw[BY] at hl;match O,hl with
  |[pc],_=>exact⟨pc,rfl⟩
 injection s with s _;injection J with J _;obtain⟨uE,Hm,B,F,rfl⟩:∃uE Hm B F,pc=.list uE Hm B F:=by
  cases pc with
  |int k n=>cases s
  |bool b=>cases s
  |list sz a cap xs=>exact⟨_,_,_,_,rfl⟩
 rw[PC.fx] at J;injection J with z1 z2;subst z1;rw[PC.val] at s;injection s with z3 z4 z5;subst z3 z4 z5;have iK:=y _ (zaT.2 rfl);have bk:F≠[]:=by rintro rfl;simp at cY
 have VU:fq (oL i) (pas.map (·.ps))=[(.bq,PC.list 1 (some (ad b0 o0)) B F)]:=ab9 (by rw[AT,V];rfl);have kJ:F.length<=B:=by
  rcases iK.cases with h0|⟨_,h1,_⟩
  ·exact absurd h0 bk
  ·exact h1
 have r1:=R.Me (N:=fn.ntmps) j hN;have Q:=r1.put (d:=some i) (x:=.one (.sl aY 1 lo len)) (v:=.slice a' len (B - lo)) (RA.iR rfl (by
   intro _;have L:(qk w (fq (oL i) (pas.map (·.ps)))).g aY=⟨false,b0,o0,B,F,none⟩:=by
    rw[VU];simp only[qk,zaH];exact zQ bk
   show lL _ 1 lo len _;rw[L];exact .inr ⟨rfl,a',rfl,by simp only;omega,Vu⟩)) (fun m hm=>Pe (za9 (show aY=m from(show m=aY from hm).symm))) (fun n hn=>by
   injection hn with hn;subst hn;omega)
 rw[<-amH Iy] at Q;have L:∀x∈fq (oL i) (pas.map (·.ps)),Good w x.2:=by
  intro x hx;obtain⟨l,hl,te⟩:=Le hx;obtain⟨p,E,rfl⟩:=zag.1 hl;exact iO p E _ te
 have LA:ds.map (·.2)=(pas.map (·.ps)).map fun l=>l.map PC.er:=by
  apply zan;intro i;simp only[AT];cases hd:ds[i]? with
  |none=>
   have:ds.length<=i:=zal.1 hd;rw[Pd (by rw[j.l2];exact this)];rfl
  |some d=>
   have t:=(If.1 hd).1;have W:vals[i]? =some (vals[i]'(by rw[j.l1];exact t)):=co _;have E:pas[i]? =some (pas[i]'(by rw[j.l2];exact t)):=co _;have:=(j.at_ i d _ _ hd W E).1;rw[E];simp only[wt];rw[this]
 unfold QZ at u;rw[LA,H4] at u;unfold N7;generalize m5:fq (oL i) (pas.map (·.ps))=fl at u Q L;have X:=j.ok;rw[m5] at X;have ie:∀{σ:St} {a:Act} {w':World} {G:Gh},σ.zU ms (fl.map fun x=>(x.1,x.2.er))=some (D,H)->R w.heap.size (vZ fl) w fn.ntmps σ a w' G->a.defers=[]/\∃v,(results fn a.tmps).run P w'=.ok v w'/\
   ∃z:List (K×List PC),z.map (fun p=>(p.1,p.2.map PC.er))=D/\(Ending.returned v)=.returned (zV z)/\(∀p∈z,p.1≠ .ptr/\(p.1=.one->p.2.length=1))/\
   Cu w' w.heap.size (z.flatMap (·.2))/\Fr w.heap.size (CL fl) w w'/\
   ∃Y:List PC,Y.map PC.er=H/\Y.length=fl.length/\∀(i:Nat) (x:Mode×PC) (q:PC),fl[i]? =some x->Y[i]? =some q->uL w' x.1 x.2 q:=by
  intro σ a w' G hx r;unfold St.zU at hx;split at hx
  ·rename_i oH X9 e1 e2;injection hx with hx;injection hx with lV fC;subst lV fC;have hE:∀b,(vZ fl) b->∃n Z m sz xs,aY<=n/\σ.h n=some (.row Z m sz xs)/\m≠ .bn/\rS G n b/\(m=.bq->¬bY b (G.g n).px):=by
    rintro b ⟨x,xR,C9⟩;obtain⟨i,t⟩:=zam xR;obtain⟨q,o,_,_,_,Z,sz,xs,A,y,s,k4⟩:=KG X L r e2 t;exact⟨aY+i,Z,x.1,sz,xs,zaC _ _,A,k4,y b C9,fun hm=>s hm b⟩
   obtain⟨z,p1,p2,p3,p4⟩:=YC (r.nT hE) hr e1;obtain⟨ol,_⟩:=QF e2;have hq:∀i:Fin fl.length,∃q,X9[i.1]? =some (PC.er q)/\uL w' (fl[i.1]).1 (fl[i.1]).2 q:=by
    intro i;obtain⟨q,o,A,y,s,_⟩:=KG X L r e2 (co i.2);exact⟨q,by rw[A,y],s⟩
   refine⟨r.defers,_,p2,z,p1,rfl,p3,p4,⟨r.fr.os,r.fr.tape,r.fr.output,r.fr.size,r.fr.block,r.fr.mh⟩,List.ofFn fun i=>za2 (hq i),?_,by simp,fun i x q t U=>?_⟩
   ·apply zan;intro i;simp only[AT];by_cases t:i<fl.length
    ·rw[zaA,dif_pos t];exact(zas (hq ⟨i,t⟩)).1.symm
    ·rw[Pd (by simp;omega),Pd (by rw[ol];simp;omega)];rfl
   ·obtain⟨hl,e⟩:=If.1 t;rw[zaA,dif_pos hl] at U;injection U with U;subst U;subst e;exact(zas (hq ⟨i,hl⟩)).2
  ·cases hx
 split at u
 ·rename_i σ e;exact n7 hT hm S hc e Q fun a w' G r=>ie u r
 ·rename_i σ e;exact n7 hT hm S hc e Q fun a w' G r=>ie u r
 ·cases u
end
end Go.Am
