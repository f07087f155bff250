/- Am25, Am26, Am27, Am28, Am29, Am30, AmW, S0, S1, S2, S3, S4, S5, S6, AmY, AmZ: parts of the proof. No condition. -/
import Derived.Test.YtnndpobalfaalaaGreatAm24
set_option linter.unusedVariables false
set_option linter.unusedSimpArgs false
open List renaming getElem?_eq_getElem->zaa,map_cons->zad,getElem?_map->zae,length_map->zaf,getElem?_eq_some_iff->zag,mem_of_getElem?->zah,filterMap_cons->zaj,eq_nil_of_length_eq_zero->zak,getElem?_eq_none->zam,mem_cons->zaq,mem_map->zar,getElem_of_mem->zat,map_congr_left->zau,map_map->zav,getElem?_eq_none_iff->zax,getElem?_of_mem->zay,ext_getElem?->zaz,all_cons->zaA,mem_append->zaC,all_eq_true->zaG,length_cons->zaH,map_set->zaJ,getElem?_cons_zero->zaK,getElem?_ofFn->zaM,map_take->zaN,map_drop->zaR,getD_eq_getElem?_getD->zaT,pairwise_iff_getElem->zaV,take_of_length_le->za0,mem_cons_of_mem->za1,getD_cons_zero->za2,map_replicate->za5,all_nil->za8,map_nil->za9,any_map->zba,map_append->zbd
open Option renaming map_some->zab,map_none->zal,map_eq_some_iff->zaB,bind_some->zaI,isSome_map->zaW,bind_eq_some_iff->zaY
open Nat renaming eq_of_beq_eq_true->zac,ble_eq_true_of_le->zao,beq_refl->zas,le_refl->zaw,add_sub_cancel_left->zaL,sub_zero->zaO,le_of_ble_eq_true->zaP,le_add_right->zaQ,sub_self->zaU,zero_le->zaX,lt_or_gt_of_ne->za3,add_zero->za7,zero_lt_succ->zbb,zero_add->zbf,le_of_eq->zbg
open Bool renaming and_eq_true->zai,false_eq_true->zap,or_false->zaZ,and_true->za4,true_and->zbe
open Option.some renaming injEq->zan
open Array renaming getD_eq_getD_getElem?->zaD,getElem?_append->zaE
open Classical renaming choose_spec->zaF
open List.cons renaming injEq->zaS
open List.Pairwise renaming nil->za6
open Prod renaming ext->zbc
open Decidable renaming em->zbh
namespace Go.Am
inductive bK where
 |tmp (t:Nat)
 |cell (t sz:Nat) (ag:Bool)
def pJ (P:Program):List ResultVar->List bK->Bool
 |[],[]=>true
 |.tmp t::rs,.tmp t'::ms=>(t==t')&&pJ P rs ms
 |.cell a ty::rs,.cell a' sz ag::ms=>(a==a')&&FE P ty ag sz&&pJ P rs ms
 |_,_=>false
def St.vb (σ:St):List bK->Option (List aA)
 |[]=>some []
 |.tmp t::ms=>match σ.vb ms with
  |some vs=>some (σ.env t::vs)
  |none=>none
 |.cell t sz ag::ms=>match σ.env t with
  |.one p=>match loadAt σ.h p sz,σ.vb ms with
   |some cs,some vs=>some (qN ag cs::vs)
   |_,_=>none
  |_=>none
def pf (h:Nat->Option aK):ao->Option (C×List Nat)
 |.c x=>if x.gV=true then some (x,[]) else none
 |.nil sz=>if 0<sz then some (.list sz [],[]) else none
 |.sl n sz 0 len=>match h n with
  |some (.row true m rs xs)=>if rs=sz/\m≠ .aV/\len<=xs.length then some (.list sz (xs.take len),[n]) else none
  |_=>none
 |_=>none
def yc (h:Nat->Option aK):List ao->Option (List C×List Nat)
 |[]=>some ([],[])
 |c::cs=>match pf h c,yc h cs with
  |some (x,ns),some (xs,nO)=>some (x::xs,ns++nO)
  |_,_=>none
def ve (h:Nat->Option aK):List aA->Option (List Dv×List Nat)
 |[]=>some ([],[])
 |v::vs=>match v.cells? with
  |some (ag,cs)=>match yc h cs,ve h vs with
   |some (xs,ns),some (ds,nO)=>some ((if ag=true then(K.agg,xs) else(K.one,xs))::ds,ns++nO)
   |_,_=>none
  |none=>none
def St.yb (σ:St) (ms:List bK):Option (List Dv):=
 match σ.vb ms with
 |some vs=>match ve σ.h vs with
  |some (ds,ns)=>if ns.Nodup then some ds else none
  |none=>none
 |none=>none
section
variable {B:Nat} {E:Ex} {w0 w w':World} {G G':Gh} {N:Nat} {h h':Nat->Option aK} {used:Nat->Bool}
variable {P:Program} {T:br} {a:Act} {σ σ':St}
def qu (G:Gh) (n b:Nat):Prop:=((G.g n).nl=false/\b=(G.g n).b)\/bY b (G.g n).px
theorem HR.aeY (H:HR B E w G h used []) {n n':Nat} (aR:n≠n') {gr cv:Bool} {m m':Mode} {sz bu:Nat} {xs aM:List (List C)} (h1:h n=some (.row gr m sz xs)) (h2:h n'=some (.row cv m' bu aM))
  (hm:m≠ .aV) (cQ:m'≠ .aV) {b:Nat} (hb:qu G n b):¬qu G n' b:=by
 have e1:h n≠none:=by rw[h1];simp
 have e2:h n'≠none:=by rw[h2];simp
 have own:∀{p q:Nat} {gr:Bool} {m:Mode} {sz:Nat} {xs:List (List C)},h p≠none->h q=some (.row gr m sz xs)->m≠ .aV->(G.g p).nl=false->¬bY (G.g p).b (G.g q).px:=by
  intro p q gr m sz xs hp hq hm hl hF;have jm:=(H.row q gr m sz xs hq).mode;cases m with
  |aV=>exact hm rfl
  |aZ=>exact(H.own p hp hl).1 (jm.1 _ hF).1
  |live=>exact H.live q gr sz xs hq _ hF p hp hl rfl
 rintro(⟨l2,rfl⟩|b2)
 ·rcases hb with⟨l1,b1⟩|b1
  ·exact H.inj n n' e1 e2 aR l1 l2 b1.symm
  ·exact own e2 h1 hm l2 b1
 ·rcases hb with⟨l1,rfl⟩|b1
  ·exact own e1 h2 cQ l1 b2
  ·exact H.ja n n' gr m sz xs cv m' bu aM h1 h2 hm cQ aR b b1 b2
structure abQ (B:Nat) (w:World) (G:Gh) (h:Nat->Option aK) (ns:List Nat) (pc:PC):Prop where
 gF:Good w pc/\Sep pc/\IB w pc
 new:∀b,mh b pc->(B<=b/\fL w b)/\∃n∈ns,qu G n b
def yy (h:Nat->Option aK) (ns:List Nat):Prop:=∀n∈ns,∃gr m sz xs,h n=some (.row gr m sz xs)/\m≠ .aV
theorem HR.pf (H:HR B Ex.no w G h used []) {c:ao} {x:C} {ns:List Nat} {v:Value} (hx:pf h c=some (x,ns)) (hc:RC w G h c v):
  ∃pc:PC,pc.er=x/\pc.val=v/\abQ B w G h ns pc/\yy h ns:=by
 have noT:∀pc:PC,(∀sz a cap xs,pc≠ .list sz a cap xs)->∀b,¬mh b pc:=by
  intro pc hp b hb;rcases hb with hb|⟨sz,o,cap,xs,rfl,_⟩
  ·cases hb with
   |here sz o cap xs h=>exact hp _ _ _ _ rfl
   |there sz a cap xs k j c h1 h2=>exact hp _ _ _ _ rfl
  ·exact hp _ _ _ _ rfl
 cases c with
 |c y=>
  simp only[Am.pf] at hx;split at hx
  ·rename_i hs;injection hx with hx;injection hx with h1 h2;subst h1 h2;obtain⟨pc,p1,p2,p3,p4⟩:=hc;have dE:∀b,¬mh b pc:=noT pc (by rintro sz a cap xs rfl;rw[<-p1] at hs;simp[PC.fN,C.gV] at hs);have Bj:IB w pc:=by
    cases pc with
    |list sz a cap xs=>rw[<-p1] at hs;simp[PC.fN,C.gV] at hs
    |_=>trivial
   exact⟨pc,p1,p2,⟨⟨p3,(Sep.o8 (by rw[p1];exact hs)).1,Bj⟩,fun b hb=>absurd hb (dE b)⟩,fun n hn=>by simp at hn⟩
  ·cases hx
 |nil sz=>
  simp only[Am.pf] at hx;split at hx
  ·rename_i fO;injection hx with hx;injection hx with h1 h2;subst h1 h2;have dJ:v=.slice none 0 0:=hc;subst dJ;have oh:Sep (.list sz none 0 []):=by
    refine .list _ _ _ _ ?_ ?_ ?_
    ·rintro k j c ⟨e,he,_⟩;simp at he
    ·rintro b o k j c _ ⟨e,he,_⟩;simp at he
    ·rintro k j c k' j' c' b ⟨e,he,_⟩;simp at he
   refine⟨.list sz none 0 [],by simp[PC.fN],rfl,⟨⟨.nil _ _ _ fO,oh,fO,by simp,.inl rfl⟩,fun b hb=>?_⟩,fun n hn=>by simp at hn⟩;rcases hb with hb|⟨_,_,_,_,hb,xt⟩
   ·rw[bR.oE] at hb;rcases hb with⟨hb,_⟩|⟨k,j,c,⟨e,he,_⟩,_⟩
    ·exact absurd rfl hb
    ·simp at he
   ·cases hb
  ·cases hx
 |sl n sz lo len=>
  cases lo with
  |succ lo=>simp[Am.pf] at hx
  |zero=>
   simp only[Am.pf] at hx;split at hx
   ·rename_i m rs xs hn;split at hx
    ·rename_i eQ;obtain⟨rfl,hm,hl⟩:=eQ;injection hx with hx;injection hx with h1 h2;subst h1 h2;have c8:h n≠none:=by rw[hn];simp
     have hr:=H.row n true m rs xs hn;have hs:nh (G.g n) rs 0 len v:=hc c8;obtain⟨a1,a2,a3,a4⟩:=Lq hr hs (by omega);have vZ:(∀b,bY b (G.g n).px->fL w b/\B<=b)/\kU (G.g n).px/\(∀b,bY b (G.g n).px->(G.g n).nl=false->b≠(G.g n).b):=by
      have eR:=hr.mode;cases m with
      |aV=>exact absurd rfl hm
      |aZ=>exact⟨fun b hb=>⟨(eR.1 b hb).2.1,(eR.1 b hb).2.2.resolve_right id⟩,eR.2,fun b hb hl gw=>(H.own n c8 hl).1 (gw▸(eR.1 b hb).1)⟩
      |live=>exact⟨fun b hb=>⟨(eR.1 b hb).2.1,(eR.1 b hb).2.2.resolve_right id⟩,eR.2,fun b hb hl=>H.live n true rs xs hn b hb n c8 hl⟩
     obtain⟨o1,o2,o3⟩:=vZ;refine⟨oG (G.g n) rs 0 len v,by simpa using a1,a2,?_,fun q hq=>?_⟩
     ·rcases hs with⟨bI,rfl,_,rfl⟩|⟨bI,ad',rfl,mr,had⟩
      ·simp only[oG] at a3⊢;have hz:(List.take 0 (List.drop 0 (G.g n).px))=[]:=by simp
       have OB:=(hr.nl bI).2 rfl;rw[hz,OB] at a3⊢;have oh:Sep (.list rs (G.g n).na 0 []):=by
        refine .list _ _ _ _ ?_ ?_ ?_
        ·rintro k j c ⟨e,he,_⟩;simp at he
        ·rintro b o k j c _ ⟨e,he,_⟩;simp at he
        ·rintro k j c k' j' c' b ⟨e,he,_⟩;simp at he
       refine⟨⟨a3,oh,hr.pos,by simp,.inl rfl⟩,fun b hb=>?_⟩;rcases hb with hb|⟨_,_,_,_,hb,xt⟩
       ·rw[bR.oE] at hb;rcases hb with⟨hb,_⟩|⟨k,j,c,⟨e,he,_⟩,_⟩
        ·exact absurd rfl hb
        ·simp at he
       ·injection hb with _ _ hb _;exact absurd hb.symm xt
      ·obtain⟨r2,cur,e,r3,r4⟩:=hr.room bI rfl;have e0:=had (.inr rfl);have e0':ad'=some (ad (G.g n).b (G.g n).o):=by rw[e0];simp
       subst e0';simp only[oG,zaO] at a3 a4⊢;have JX:=o2.sub 0 len;have jG:∀k j c,At ((List.drop 0 (G.g n).px).take len) k j c->At (G.g n).px k j c:=fun k j c hk=>by have:=(sY hk).1;simpa using this
       refine⟨⟨a3,.list _ _ _ _ JX.1 (fun b o k j c gT hk hb=>?_) JX.2,hr.pos,by simp;omega,.inr ⟨_,_,cur,e,rfl,r3,r4,r2,fun k j c hk hb=>?_⟩⟩,fun b hb=>?_⟩
       ·injection gT with gT;exact o3 b ⟨_,_,_,jG _ _ _ hk,hb⟩ bI (qS gT).1.symm
       ·exact o3 _ ⟨_,_,_,jG _ _ _ hk,hb⟩ bI rfl
       ·have hf:qu G n b:=by
         rcases hb with hb|⟨_,_,_,_,hb,xt⟩
         ·exact a4 b hb
         ·injection hb with _ hb _ _;injection hb with hb;exact .inl ⟨bI,(qS hb).1.symm⟩
        refine⟨?_,n,by simp,hf⟩;rcases hf with⟨_,rfl⟩|hF
        ·exact⟨((H.own n c8 bI).2.1).resolve_right id,(hr.gd bI).1⟩
        ·exact⟨(o1 b hF).2,(o1 b hF).1⟩
     ·simp at hq;subst hq;exact⟨_,_,_,_,hn,hm⟩
    ·cases hx
   ·cases hx
 |ptr _ _ _ _=>simp[Am.pf] at hx
 |dR _ _=>simp[Am.pf] at hx
 |cJ _ _ _ _ _ _=>simp[Am.pf] at hx
 |fn _ _=>simp[Am.pf] at hx
 |eG _ _ _ _ _ _=>simp[Am.pf] at hx
 |cD=>simp[Am.pf] at hx
structure wZ (B:Nat) (w:World) (G:Gh) (h:Nat->Option aK) (ns:List Nat) (ps:List PC):Prop where
 each:∀pc∈ps,abQ B w G h ns pc
 qY:ns.Nodup->ps.Pairwise fun p q=>∀b,mh b p->¬mh b q
theorem wZ.append (H:HR B Ex.no w G h used []) {ns nO:List Nat} {ps ps':List PC} (h1:wZ B w G h ns ps) (h2:wZ B w G h nO ps') (n1:yy h ns) (n2:yy h nO):wZ B w G h (ns++nO) (ps++ps'):=by
 refine⟨fun pc bU=>?_,fun hd=>?_⟩
 ·rcases zaC.1 bU with hp|hp
  ·obtain⟨g,n⟩:=h1.each pc hp;exact⟨g,fun b hb=>⟨(n b hb).1,by obtain⟨k,hk,hf⟩:=(n b hb).2;exact⟨k,by simp[hk],hf⟩⟩⟩
  ·obtain⟨g,n⟩:=h2.each pc hp;exact⟨g,fun b hb=>⟨(n b hb).1,by obtain⟨k,hk,hf⟩:=(n b hb).2;exact⟨k,by simp[hk],hf⟩⟩⟩
 ·rw[List.nodup_append] at hd;rw[List.pairwise_append];refine⟨h1.qY hd.1,h2.qY hd.2.1,fun p hp q hq b hb bX=>?_⟩;obtain⟨k,hk,hf⟩:=((h1.each p hp).new b hb).2;obtain⟨k',dg,od⟩:=((h2.each q hq).new b bX).2;obtain⟨_,_,_,_,e1,m1⟩:=n1 k hk;obtain⟨_,_,_,_,e2,m2⟩:=n2 k' dg;exact H.aeY (hd.2.2 k hk k' dg) e1 e2 m1 m2 hf od
theorem yy.append {ns nO:List Nat} (h1:yy h ns) (h2:yy h nO):yy h (ns++nO):=fun n hn=>(zaC.1 hn).elim (h1 n) (h2 n)
theorem HR.yc (H:HR B Ex.no w G h used []):∀{cs:List ao} {xs:List C} {ns:List Nat} {vs:List Value},yc h cs=some (xs,ns)->eO w G h cs vs->
  ∃cH:List PC,cH.map PC.er=xs/\cH.map PC.val=vs/\wZ B w G h ns cH/\yy h ns
 |[],xs,ns,vs,hx,hc=>by
  simp only[Am.yc] at hx;injection hx with hx;injection hx with h1 h2;subst h1 h2;have:vs=[]:=zak (by simpa using hc.1);subst this;exact⟨[],rfl,rfl,⟨by simp,fun _=>za6⟩,fun n hn=>by simp at hn⟩
 |c::cs,xs,ns,vs,hx,hc=>by
  simp only[Am.yc] at hx;split at hx
  ·rename_i x ns1 aM ns2 e1 e2;injection hx with hx;injection hx with h1 h2;subst h1 h2;obtain⟨hlen,cY⟩:=hc;match vs,hlen with
   |v::vs,hlen=>
    obtain⟨pc,a1,a2,a3,a4⟩:=H.pf e1 (cY 0 c v rfl rfl).2;obtain⟨cH,b1,b2,b3,b4⟩:=H.yc e2 (cs:=cs) (vs:=vs) ⟨by simpa using hlen,fun j c u h1 h2=>cY (j+1) c u h1 h2⟩;have asf:wZ B w G h ns1 [pc]:=⟨fun q hq=>by simp at hq;subst hq;exact a3,fun _=>by simp⟩;exact⟨pc::cH,by simp[a1,b1],by simp[a2,b2],wZ.append H asf b3 a4 b4,a4.append b4⟩
  ·cases hx
theorem HR.ve (H:HR B Ex.no w G h used []):∀{xs:List aA} {ds:List Dv} {ns:List Nat} {vs:List Value},ve h xs=some (ds,ns)->vs.length=xs.length->
  (∀(j:Nat) (x:aA) (v:Value),xs[j]? =some x->vs[j]? =some v->RA w G h x v)->
  ∃bO:List (K×List PC),bO.map (fun p=>(p.1,p.2.map PC.er))=ds/\bO.map vf=vs/\(∀p∈bO,p.1≠ .ptr/\(p.1=.one->p.2.length=1))/\wZ B w G h ns (bO.flatMap (·.2))/\yy h ns
 |[],ds,ns,vs,hx,hl,hc=>by
  simp only[Am.ve] at hx;injection hx with hx;injection hx with h1 h2;subst h1 h2;have:vs=[]:=zak (by simpa using hl);subst this;exact⟨[],rfl,rfl,by simp,⟨by simp,fun _=>za6⟩,fun n hn=>by simp at hn⟩
 |x::xs,ds,ns,vs,hx,hl,hc=>by
  simp only[Am.ve] at hx;split at hx
  ·rename_i ag cs n5;split at hx
   ·rename_i ys ns1 yK ns2 e1 e2;injection hx with hx;injection hx with h1 h2;subst h1 h2;match vs,hl with
    |v::vs,hl=>
     obtain⟨cH,a1,a2,a3,a4⟩:=H.yc e1 ((hc 0 x v rfl rfl).cells n5);obtain⟨bO,b1,b2,b3,b4,b5⟩:=H.ve e2 (xs:=xs) (vs:=vs) (by simpa using hl) (fun j x v h1 h2=>hc (j+1) x v h1 h2);have Jt:=hc 0 x v rfl rfl;cases ag with
     |true=>
      have hv:vf (K.agg,cH)=v:=by
       cases x with
       |one c=>cases c<;>simp[aA.cells?] at n5
       |agg cs'=>
        obtain⟨us,e,_⟩:∃us:List Value,v=.agg us.toArray/\eO w G h cs' us:=Jt;subst e;simp only[vf,a2];simp[Value.cells]
       |cF l=>simp[aA.cells?] at n5
      refine⟨(K.agg,cH)::bO,by simp[a1,b1],by simp[hv,b2],fun p hp=>?_,?_,a4.append b5⟩
      ·cases hp with
       |head=>exact⟨by simp,fun e=>by cases e⟩
       |tail _ hp=>exact b3 p hp
      ·simpa using wZ.append H a3 b4 a4 b5
     |false=>
      have JB:∃c,x=.one c/\cs=[c]:=by
       cases x with
       |one c=>cases c<;>simp[aA.cells?] at n5<;>exact⟨_,rfl,n5.symm⟩
       |agg cs'=>simp[aA.cells?] at n5
       |cF l=>simp[aA.cells?] at n5
      obtain⟨c,rfl,rfl⟩:=JB;have mw:c≠ .cD:=by rintro rfl;simp[aA.cells?] at n5
      have h1c:=(Jt.kO mw).2;have Dh:v.cells.toList=[v]:=by cases v<;>first|rfl|(simp[Value.oneCell'] at h1c)
      rw[Dh] at a2;match cH,a2 with
      |[pc],a2=>
       have hv:vf (K.one,[pc])=v:=by simpa[vf] using a2
       refine⟨(K.one,[pc])::bO,by simp[<-a1,b1],by simp[hv,b2],fun p hp=>?_,?_,a4.append b5⟩
       ·cases hp with
        |head=>exact⟨by simp,fun _=>rfl⟩
        |tail _ hp=>exact b3 p hp
       ·simpa using wZ.append H a3 b4 a4 b5
   ·cases hx
  ·cases hx
end
def CM:Dv->aA
 |(.one,[x])=>.one (.c x)
 |(.one,_)=>.one .cD
 |(.agg,xs)=>.agg (xs.map .c)
 |(.ptr,xs)=>.one (.dR xs 0)
def xO:Nat->List Dv->(Nat->aA)
 |_,[]=>AG
 |k,d::ds=>aX (xO (k+1) ds) k (CM d)
def Kf (ds:List Dv):St:={env:=xO 0 ds,h:=FO,used:=fun n=>Nat.ble aU n}
def Rd (T:br) (mc:lF) (aH:List bK) (ds:List Dv):Option (List Dv):=
 match eY T mc (Kf ds) with
 |some (.gN σ)=>σ.yb aH
 |some (.ret σ)=>σ.yb aH
 |_=>none
section
variable {B:Nat} {E:Ex} {w0 w w':World} {G G':Gh} {N:Nat} {h h':Nat->Option aK} {used:Nat->Bool}
variable {P:Program} {T:br} {a:Act} {σ σ':St} {Q:Exit->Act->World->Prop}
theorem WH:∀(ds:List Dv) (k n:Nat),xO k ds n=if k<=n then(match ds[n - k]? with|some d=>CM d|none=>.one .cD) else .one .cD
 |[],k,n=>by simp[xO,AG]
 |d::ds,k,n=>by
  simp only[xO,ma,WH ds];by_cases h:n=k
  ·subst h;simp
  ·by_cases h2:k<=n
   ·have h3:k+1<=n:=by omega
    have h4:n - k=(n - (k+1))+1:=by omega
    simp[h,h2,h3,h4]
   ·have h3:¬k+1<=n:=by omega
    simp[h,h2,h3]
def UT (w:World):Gh:=⟨fun b=>b<w.heap.size,fun _=>default⟩
theorem anA {d:Dv} {v:Value} (hd:EM w d v):RA w (UT w) FO (CM d) v:=by
 have cells:∀{cH:List PC},(∀pc∈cH,Good w pc)->eO w (UT w) FO ((cH.map PC.er).map .c) (cH.map PC.val):=by
  intro cH hg;refine⟨by simp,fun j c u hj hu=>?_⟩;simp only[zae,zav] at hj hu;cases hp:cH[j]? with
  |none=>rw[hp] at hj;cases hj
  |some pc=>
   rw[hp] at hj hu;simp at hj hu;subst hj;subst hu;have hgp:=hg pc (zah hp);exact⟨PC.qg pc,pc,rfl,rfl,hgp,fun b hb=>hgp.lt hb⟩
 obtain⟨k,xs⟩:=d;cases k with
 |one=>
  obtain⟨cH,p1,p2,p3⟩:=hd;have p1:cH.map PC.er=xs:=p1;subst p1;match cH,p3 with
  |[pc],p3=>
   simp at p3;subst p3;exact RA.jP (PC.qg pc) ⟨pc,rfl,rfl,p2 pc (by simp),fun b hb=>(p2 pc (by simp)).lt hb⟩
 |agg=>
  obtain⟨cH,p1,p2,p3⟩:=hd;have p1:cH.map PC.er=xs:=p1;subst p1;exact⟨_,p3,cells p2⟩
 |ptr=>
  obtain⟨cH,b,o,p1,p2,p3,p4⟩:=hd;have p1:cH.map PC.er=xs:=p1;subst p1 p2;exact RA.jP rfl ⟨b,o,cH,by simp,rfl,p3,fun j c hj=>⟨(p4 j c hj).1,(p4 j c hj).2,fun b' bX=>(p4 j c hj).2.lt bX⟩⟩
theorem anB {d:Dv} {m:Nat}:¬(CM d).ref m:=by
 obtain⟨k,xs⟩:=d;cases k with
 |one=>match xs with
  |[]=>exact id
  |[x]=>exact id
  |_::_::_=>exact id
 |agg=>
  rintro⟨c,hc,h⟩;obtain⟨y,_,rfl⟩:=zar.1 hc;exact h
 |ptr=>exact id
theorem R.init {ds:List Dv} {vals:List Value} (ha:LU w ds vals) (hN:ds.length<=N):
  R w.heap.size Ex.no w N (Kf ds) {tmps:=vals.toArray++Array.replicate (N - vals.toArray.size) undef,defers:=[]} w (UT w):=by
 obtain⟨hl,cY⟩:=ha;refine⟨rfl,by simp;omega,fun s=>?_,fun s n hn=>?_,?_,Fr.refl _ _ _ (zaw _),fun n p b hp=>(by cases hp),fun n hn=>zao hn⟩
 ·show RA w _ FO (xO 0 ds s) _;rw[WH];simp only[zaX,if_true,zaO];cases hs:ds[s]? with
  |none=>exact Or.inl rfl
  |some d=>
   have lv:s<vals.length:=by rw[hl];exact(zag.1 hs).1
   have hv:vals[s]? =some vals[s]:=zaa lv;have:(vals.toArray++Array.replicate (N - vals.toArray.size) undef).getD s undef=vals[s]:=by
    simp[zaD,zaE,lv]
   rw[this];exact anA (cY s d _ hs hv)
 ·have cb:(xO 0 ds s).ref n:=hn;rw[WH] at cb;simp only[zaX,if_true,zaO] at cb;cases hs:ds[s]? with
  |none=>rw[hs] at cb;exact absurd cb id
  |some d=>rw[hs] at cb;exact absurd cb anB
 ·have h0:∀n,(Kf ds).h n=none:=fun n=>rfl;refine⟨fun n hn=>absurd (h0 n) hn,fun m cs c n hm=>?_,fun n cs hn=>?_,fun n gr m sz xs hn=>?_,fun n hn=>absurd (h0 n) hn,fun n n' hn=>absurd (h0 n) hn,fun b hb=>hb,fun b _=>.inr (.inr trivial),
   fun n n' gr m sz xs cv m' bu aM hn=>?_,fun n gr sz xs hn=>?_,?_,?_,?_⟩
  ·rw[h0] at hm;cases hm
  ·rw[h0] at hn;cases hn
  ·rw[h0] at hn;cases hn
  ·rw[h0] at hn;cases hn
  ·rw[h0] at hn;cases hn
  ·intro i pc hi;simp at hi
  ·intro i j pc fh b _ hi;simp at hi
  ·intro i pc n gr m sz xs b hi;simp at hi
theorem aBp (r:R B E w0 N σ a w G) {t sz:Nat} {ag:Bool} {ty:TypeId} {p:ao} {cs:List ao} (kE:FE P ty ag sz=true) (hp:σ.env t=.one p) (hx:loadAt σ.h p sz=some cs):
  ∃v,(zL a.tmps (.cell t ty)).run P w=.ok v w/\RA w G σ.h (qN ag cs) v:=by
 have hv:=r.env t;have oU:=r.wS t;rw[hp] at hv oU;have uG:p≠ .cD:=by rintro rfl;simp[Am.loadAt] at hx
 obtain⟨b,of,vs,h1,h2,h3,h4,h5⟩:=r.hr.loadAt hx (hv.kO uG).1 (fun m hm=>oU m hm);have VI:∀n:Nat,n=vs.length->(loadCells (ad b of) n).run P w=.ok vs.toArray w:=fun n hn=>by
  subst hn;exact run_loadCells_list w (ad b of) vs (fun j u hj=>by rw[vD];exact h3 j u hj)
 unfold FE at kE;cases hu:P.underlying ty with
 |none=>rw[hu] at kE;simp at kE
 |some d=>
  cases hi:P.info? ty with
  |none=>rw[hu,hi] at kE;cases d<;>simp at kE
  |some i=>
   rw[hu,hi] at kE;have cM:(ag=true/\i.size=sz/\(isAgg ty).run P w=.ok true w)\/(ag=false/\sz=1/\(isAgg ty).run P w=.ok false w):=by
    cases d<;>simp at kE<;>simp[isAgg,run_underlying hu,kE]
   rcases cM with⟨rfl,e1,e2⟩|⟨rfl,e1,e2⟩
   ·refine⟨.agg vs.toArray,?_,vs,rfl,h4⟩;simp[zL,h1,loadVar,asAddr,e2,sizeOf,typeInfo,hi,VI i.size (by omega)]
   ·subst e1;match vs,h2 with
    |[u],_=>
     have gY:∃c,cs=[c]:=by
      have:=h4.1;match cs,this with
      |[c],_=>exact⟨c,rfl⟩
     obtain⟨c,rfl⟩:=gY;have kD:=h3 0 u rfl;simp only[za7] at kD;exact⟨u,by simp[zL,h1,loadVar,asAddr,e2,kD],.inr h4⟩
theorem K9 (r:R B E w0 N σ a w G):∀{rs:List ResultVar} {ms:List bK} {vs:List aA},pJ P rs ms=true->σ.vb ms=some vs->
  ∃us:List Value,(rs.mapM (zL a.tmps)).run P w=.ok us w/\us.length=vs.length/\us.length=rs.length/\∀(j:Nat) (x:aA) (v:Value),vs[j]? =some x->us[j]? =some v->RA w G σ.h x v
 |[],[],vs,hc,hx=>by
  simp only[St.vb] at hx;injection hx with hx;subst hx;exact⟨[],by simp,rfl,rfl,by simp⟩
 |.tmp t::rs,.tmp t'::ms,vs,hc,hx=>by
  simp only[pJ,zai,beq_iff_eq] at hc;obtain⟨rfl,hc⟩:=hc;simp only[St.vb] at hx;split at hx
  ·rename_i vs' e;injection hx with hx;subst hx;obtain⟨us,u1,u2,u2',u3⟩:=K9 r hc e;refine⟨a.tmps.getD t undef::us,by simp[zL,u1],by simp[u2],by simp[u2'],fun j x v hj hv=>?_⟩;cases j with
   |zero=>simp only[zaK,zan] at hj hv;subst hj;subst hv;exact r.env t
   |succ j=>exact u3 j x v (by simpa using hj) (by simpa using hv)
  ·cases hx
 |.cell t ty::rs,.cell t' sz ag::ms,vs,hc,hx=>by
  simp only[pJ,zai,beq_iff_eq] at hc;obtain⟨⟨rfl,kE⟩,hc⟩:=hc;simp only[St.vb] at hx;split at hx
  ·rename_i p hp;split at hx
   ·rename_i cs vs' e1 e2;injection hx with hx;subst hx;obtain⟨us,u1,u2,u2',u3⟩:=K9 r hc e2;obtain⟨v0,v1,v2⟩:=aBp r kE hp e1;refine⟨v0::us,by simp[v1,u1],by simp[u2],by simp[u2'],fun j x v hj hv=>?_⟩;cases j with
    |zero=>simp only[zaK,zan] at hj hv;subst hj;subst hv;exact v2
    |succ j=>exact u3 j x v (by simpa using hj) (by simpa using hv)
   ·cases hx
  ·cases hx
 |[],_::_,_,hc,_=>by simp[pJ] at hc
 |.tmp _::_,[],_,hc,_=>by simp[pJ] at hc
 |.cell _ _::_,[],_,hc,_=>by simp[pJ] at hc
 |.tmp _::_,.cell _ _ _::_,_,hc,_=>by simp[pJ] at hc
 |.cell _ _::_,.tmp _::_,_,hc,_=>by simp[pJ] at hc
theorem aAh {bO:List (K×List PC)}:Hu (bO.map vf)=ye bO:=by
 match bO with
 |[]=>rfl
 |[p]=>rfl
 |p::q::bO=>rfl
theorem YB (r:R B Ex.no w0 N σ a w G) {fn:Func} {ms:List bK} {ds:List Dv} (hc:pJ P fn.results.toList ms=true) (hx:σ.yb ms=some ds):
  ∃bO:List (K×List PC),bO.map (fun p=>(p.1,p.2.map PC.er))=ds/\(results fn a.tmps).run P w=.ok (ye bO) w/\(∀p∈bO,p.1≠ .ptr/\(p.1=.one->p.2.length=1))/\
   CK w B (bO.flatMap (·.2)):=by
 unfold St.yb at hx;split at hx
 ·rename_i vs e1;split at hx
  ·rename_i yK ns e2;split at hx
   ·rename_i iI;injection hx with hx;subst hx;obtain⟨us,u1,u2,_,u3⟩:=K9 r hc e1;obtain⟨bO,p1,p2,p3,p4,p5⟩:=r.hr.ve e2 u2 u3;refine⟨bO,p1,?_,p3,⟨fun pc bU=>(p4.each pc bU).gF,fun pc bU b hb=>((p4.each pc bU).new b hb).1,fun i j pc fh b mQ hi hj hb=>?_⟩⟩
    ·rw[Rk fn a.tmps u1,<-p2,aAh]
    ·have hp:=p4.qY iI;rw[zaV] at hp;obtain⟨li,ei⟩:=zag.1 hi;obtain⟨lj,ej⟩:=zag.1 hj;subst ei;subst ej;rcases za3 mQ with cC|cC
     ·exact hp i j li lj cC b hb
     ·exact fun bX=>hp j i lj li cC b bX hb
   ·cases hx
  ·cases hx
 ·cases hx
theorem aAz (hT:qm P T) (hm:P.follows .mixedOrders=true) {f:FuncId} {fn:Func} {c:Code} {mc:lF} {ms:List bK} {M:List Dv->Option (List Dv)} (hf:P.funcs[f]? =some fn) (hb:fn.body=some c)
  (hc:lc P fn.ntmps c mc=true) (hr:pJ P fn.results.toList ms=true) (hM:∀ds rs,M ds=some rs->ds.length<=fn.ntmps/\Rd T mc ms ds=some rs):dP P f M:=by
 intro ds rs mP w vals ha;obtain⟨hN,c9⟩:=hM ds rs mP;refine calls_of_wp hf hb ?_;have r0:=R.init (N:=fn.ntmps) ha hN;unfold Rd at c9;have fin:∀{σ:St} {a:Act} {w':World} {G:Gh},σ.yb ms=some rs->R w.heap.size Ex.no w fn.ntmps σ a w' G->a.defers=[]/\∃v,(results fn a.tmps).run P w'=.ok v w'/\
   ∃bO:List (K×List PC),bO.map (fun p=>(p.1,p.2.map PC.er))=rs/\(Ending.returned v)=.returned (ye bO)/\(∀p∈bO,p.1≠ .ptr/\(p.1=.one->p.2.length=1))/\
   CK w' w.heap.size (bO.flatMap (·.2))/\Fr w.heap.size Ex.no w w':=by
  intro σ a w' G hx r;obtain⟨bO,p1,p2,p3,p4⟩:=YB r hr hx;exact⟨r.defers,_,p2,bO,p1,rfl,p3,p4,r.fr⟩
 split at c9
 ·rename_i σ e;exact mO hT hm mc hc e r0 fun a w' G r=>fin c9 r
 ·rename_i σ e;exact mO hT hm mc hc e r0 fun a w' G r=>fin c9 r
 ·cases c9
end

def jS:Nat->List (Option Mode)->List C->List ao
 |c,some _::fs,.list sz xs::cs=>.sl (aU+c) sz 0 xs.length::jS (c+1) fs cs
 |c,some _::fs,x::cs=>.cD::jS (c+1) fs cs
 |c,none::fs,x::cs=>.c x::jS c fs cs
 |c,[],cs=>cs.map .c
 |c,_::_,[]=>[]
def w5 (c:Nat) (s:List (Option Mode)):Dv->aA
 |(.one,xs)=>match jS c s xs with
  |[x]=>.one x
  |_=>.one .cD
 |(.agg,xs)=>.agg (jS c s xs)
 |(.ptr,xs)=>.one (.dR xs 0)
def pY:Nat->Nat->bi->List Dv->(Nat->aA)
 |_,_,_,[]=>AG
 |k,c,[],d::ds=>aX (pY (k+1) c [] ds) k (w5 c [] d)
 |k,c,s::sig,d::ds=>aX (pY (k+1) (c+(gj s d.2).length) sig ds) k (w5 c s d)
def nQ:Mode×C->Option aK
 |(m,.list sz xs)=>some (.row false m sz xs)
 |_=>none
def qG (sig:bi) (ds:List Dv):St:=
 {env:=pY 0 0 sig ds
  h:=fun n=>if aU<=n then((eT sig (ds.map (·.2)))[n - aU]?).bind nQ else none
  used:=fun n=>Nat.ble aU n}
def St.mF (σ:St):St:={σ with h:=fun n=>if aU<=n then none else σ.h n}
def Ea (σ:St) (q:Nat) (x:Mode×C):Option C:=
 match x.2,σ.h (aU+q) with
 |.list sz xs,some (.row _ m' bu aM)=>if m'=x.1/\bu=sz/\aM.length=xs.length/\xm x.1 aM=true/\aM.map (fun e=>e.map C.uK)=xs.map (fun e=>e.map C.uK) then some (.list sz aM) else none
 |_,_=>none
def x6 (σ:St):Nat->List (Mode×C)->Option (List C)
 |_,[]=>some []
 |q,x::l=>match Ea σ q x,x6 σ (q+1) l with
  |some y,some ys=>some (y::ys)
  |_,_=>none
def St.yd (σ:St) (ms:List bK) (fl:List (Mode×C)):Option (List Dv×List C):=
 match σ.mF.yb ms,x6 σ 0 fl with
 |some rs,some eV=>some (rs,eV)
 |_,_=>none
def Re (T:br) (mc:lF) (aH:List bK) (sig:bi) (ds:List Dv):Option (List Dv×List C):=
 match eY T mc (qG sig ds) with
 |some (.gN σ)=>σ.yd aH (eT sig (ds.map (·.2)))
 |some (.ret σ)=>σ.yd aH (eT sig (ds.map (·.2)))
 |_=>none
section
variable {B:Nat} {E:Ex} {w0 w w':World} {G G':Gh} {N:Nat} {h h':Nat->Option aK} {used:Nat->Bool}
variable {P:Program} {T:br} {a:Act} {σ σ':St} {Q:Exit->Act->World->Prop}
def rA:PC->PB
 |.list _ a cap []=>⟨true,0,0,cap,[],a⟩
 |.list _ (some a) cap (e::xs)=>⟨false,a.block,a.off,cap,e::xs,none⟩
 |_=>default
theorem KQ (sz:Nat) (a:Option Addr) (cap:Nat):rA (.list sz a cap [])=⟨true,0,0,cap,[],a⟩:=by
 cases a<;>rfl
theorem zG {sz b o cap:Nat} {xs:List (List PC)} (h:xs≠[]):rA (.list sz (some (ad b o)) cap xs)=⟨false,b,o,cap,xs,none⟩:=by
 cases xs with
 |nil=>exact absurd rfl h
 |cons e xs=>rfl
theorem Good.cases {w:World} {sz cap:Nat} {a:Option Addr} {xs:List (List PC)} (h:Good w (.list sz a cap xs)):xs=[]\/(xs≠[]/\xs.length<=cap/\∃b o,a=some (ad b o)):=by
 cases h with
 |nil _ _ _ h=>exact .inl rfl
 |cons _ b o _ _ h1 h2=>exact .inr ⟨h1,h2,b,o,rfl⟩
def uo (fl:List (Mode×PC)):Ex:=
 ⟨fun b=>∃x∈fl,bR b x.2,fun n=>if aU<=n then(fl[n - aU]?).map fun x=>rA x.2 else none,fun n p h=>(by
  by_cases hn:aU<=n
  ·exact hn
  ·rw[if_neg hn] at h;cases h),fun _=>True⟩
def qx (w:World) (fl:List (Mode×PC)):Gh:=
 ⟨fun b=>b<w.heap.size/\¬∃x∈fl,bR b x.2,fun n=>match fl[n - aU]? with|some x=>rA x.2|none=>default⟩
def q9 (fl:List (Mode×PC)):Nat->Option aK:=fun n=>if aU<=n then((fl.map fun x=>(x.1,x.2.er))[n - aU]?).bind nQ else none
theorem uB {fl:List (Mode×PC)} {n:Nat} {blk:aK} (hn:q9 fl n=some blk):aU<=n/\∃m sz a cap xs,fl[n - aU]? =some (m,.list sz a cap xs)/\blk=.row false m sz (xs.map fun e=>e.map PC.er):=by
 unfold q9 at hn;split at hn
 ·rename_i hp;refine⟨hp,?_⟩;rw[zae] at hn;cases hf:fl[n - aU]? with
  |none=>rw[hf] at hn;cases hn
  |some x=>
   rw[hf] at hn;obtain⟨m,pc⟩:=x;cases pc with
   |int k i=>simp[PC.er,nQ] at hn
   |bool b=>simp[PC.er,nQ] at hn
   |list sz a cap xs=>
    simp[PC.fN,nQ] at hn;exact⟨m,sz,a,cap,xs,rfl,hn.symm⟩
 ·cases hn
theorem mh.LJ (b o sz cap:Nat) (xs:List (List PC)) (hc:cap≠0):mh b (.list sz (some (ad b o)) cap xs):=.inr ⟨_,_,_,_,rfl,hc⟩
theorem mh.row {b sz:Nat} {a:Option Addr} {cap:Nat} {xs:List (List PC)} (h:bY b xs):mh b (.list sz a cap xs):=by
 obtain⟨k,j,c,hk,hc⟩:=h;exact .inl (.there _ _ _ _ k j c hk hc)
theorem Sep.row {sz:Nat} {a:Option Addr} {cap:Nat} {xs:List (List PC)} (h:Sep (.list sz a cap xs)):kU xs:=by
 cases h with
 |list _ _ _ _ h1 h2 h3=>exact⟨h1,h3⟩
theorem Good.rowAt {sz b o cap:Nat} {xs:List (List PC)} (h:Good w (.list sz (some (ad b o)) cap xs)):sV w b o sz xs:=by
 generalize hq:PC.list sz (some (ad b o)) cap xs=q at h;cases h with
 |int k n=>cases hq
 |bool b=>cases hq
 |nil bu a oO h0=>
  injection hq with h1 h2 h3 h4;subst h4;exact⟨by simp,by rintro k j c ⟨e,he,_⟩;simp at he,by rintro k j c ⟨e,he,_⟩;simp at he⟩
 |cons bu b' o' oO aM h1 h2 h3 h4 h5 h6=>
  injection hq with e1 e2 e3 e4;injection e2 with e2;obtain⟨rfl,rfl⟩:=qS e2;subst e1 e3 e4;exact⟨h4,h5,h6⟩
theorem HR.Ke {fl:List (Mode×PC)} (hg:∀x∈fl,Good w x.2) (fT:∀x∈fl,CI w x.1 x.2) (tq:fl.Pairwise fun x y=>∀b,bR b x.2->¬bR b y.2):
  HR w.heap.size (uo fl) w (qx w fl) (q9 fl) (fun n=>Nat.ble aU n) []:=by
 have qY:∀{i j:Nat} {x y:Mode×PC},fl[i]? =some x->fl[j]? =some y->i≠j->∀b,bR b x.2->¬bR b y.2:=by
  intro i j x y hi hj mQ b hb bX;obtain⟨li,ei⟩:=zag.1 hi;obtain⟨lj,ej⟩:=zag.1 hj;rw[zaV] at tq;subst ei;subst ej;rcases za3 mQ with h|h
  ·exact tq i j li lj h b hb bX
  ·exact tq j i lj li h b bX hb
 have gg:∀{n:Nat} {x:Mode×PC},fl[n - aU]? =some x->(qx w fl).g n=rA x.2:=by intro n x h;simp only[qx,h]
 have LJ:∀{x:Mode×PC},x∈fl->(rA x.2).nl=false->bR (rA x.2).b x.2:=by
  intro x hx hl;obtain⟨sz,a,cap,xs,e,_,_,_⟩:=(fT x hx).gd;have Dl:=hg x hx;rw[e] at hl Dl⊢;rcases Dl.cases with rfl|⟨aR,_,b,o,rfl⟩
  ·rw[KQ] at hl;cases hl
  ·rw[zG aR];exact .here _ _ _ _ aR
 have YD:∀{x:Mode×PC},x∈fl->∀b,bY b (rA x.2).px->bR b x.2:=by
  intro x hx b hb;obtain⟨sz,a,cap,xs,e,_,_,_⟩:=(fT x hx).gd;have Dl:=hg x hx;rw[e] at hb Dl⊢;rcases Dl.cases with rfl|⟨aR,_,b,o,rfl⟩
  ·rw[KQ] at hb;obtain⟨k,j,c,⟨e,he,_⟩,_⟩:=hb;simp at he
  ·rw[zG aR] at hb;obtain⟨k,j,c,hk,hc⟩:=hb;exact .there _ _ _ _ k j c hk hc
 have sub:∀{n n':Nat},aU<=n->aU<=n'->n≠n'->n - aU≠n' - aU:=by intro n n' h1 h2 h3;omega
 refine⟨fun n hn=>?_,fun m cs c n hm=>?_,fun n cs hn=>?_,fun n gr m sz xs hn=>?_,fun n hn hl=>?_,fun n n' hn cb aR hl fv=>?_,fun b hb=>hb.1,fun b _=>.inr (.inr trivial),fun n n' gr m sz xs cv m' bu aM hn cb _ _ aR b hb=>?_,
  fun n gr sz xs hn b hb n' cb fv=>?_,(by intro i pc hi;simp at hi),(by intro i j pc fh b _ hi;simp at hi),(by intro i pc n gr m sz xs b hi;simp at hi)⟩
 ·cases hh:q9 fl n with
  |none=>exact absurd hh hn
  |some b=>exact zao (uB hh).1
 ·obtain⟨_,m',sz,a,cap,xs,_,e⟩:=uB hm;cases e
 ·obtain⟨_,m',sz,a,cap,xs,_,e⟩:=uB hn;cases e
 ·obtain⟨hp,m',bu,a,cap,aM,hf,e⟩:=uB hn;injection e with e1 e2 e3 e4;subst e1 e2 e3 e4;have hx:(m,PC.list sz a cap aM)∈fl:=zah hf;have ok:=fT _ hx;have gF:=hg _ hx;obtain⟨pi,a2,OC,mb,e,fO,rh,vW⟩:=ok.gd;injection e with e1 e2 e3 e4;subst e1 e2 e3 e4;rw[gg hf];have YF:∀b,bY b aM->bR b (PC.list sz a cap aM):=fun b ⟨k,j,c,hk,hc⟩=>.there _ _ _ _ k j c hk hc;have jm:MJ w.heap.size (uo fl) w (qx w fl) aM m:=by
   have oh:=Sep.row ok.sep;cases m with
   |aV=>cases vW
   |aZ=>exact⟨fun b hb=>absurd hb (HH vW b),oh⟩
   |live=>exact⟨fun b hb=>⟨fun hi=>hi.2 ⟨_,hx,YF b hb⟩,ok.un b (YF b hb),.inr ⟨_,hx,YF b hb⟩⟩,oh⟩
  rcases gF.cases with rfl|⟨aR,mr,b,o,rfl⟩
  ·rw[KQ];exact⟨fO,rfl,fun _=>⟨rfl,fun h=>by cases h⟩,(fun h=>by cases h),(fun h=>by cases h),jm⟩
  ·rw[zG aR];exact⟨fO,rfl,(fun h=>by cases h),fun _=>⟨ok.un b (.here _ _ _ _ aR),Good.rowAt gF,mr⟩,(fun _ h=>by cases h),jm⟩
 ·cases hh:q9 fl n with
  |none=>exact absurd hh hn
  |some blk=>
   obtain⟨hp,m',bu,a,cap,aM,hf,e⟩:=uB hh;have hx:(m',PC.list bu a cap aM)∈fl:=zah hf;rw[gg hf] at hl⊢;have ht:=LJ hx hl;exact⟨fun hi=>hi.2 ⟨_,hx,ht⟩,.inr ⟨_,hx,ht⟩,((fT _ hx).un _ ht).lt⟩
 ·cases hh:q9 fl n with
  |none=>exact absurd hh hn
  |some blk=>
   cases JI:q9 fl n' with
   |none=>exact absurd JI cb
   |some anV=>
    obtain⟨hp,m1,sK,a1,s6,vr,hf,_⟩:=uB hh;obtain⟨cd,m2,pi,a2,OC,mb,od,_⟩:=uB JI;rw[gg hf] at hl⊢;rw[gg od] at fv⊢;intro he;exact qY hf od (sub hp cd aR) _ (LJ (zah hf) hl) (he▸LJ (zah od) fv)
 ·obtain⟨hp,m1,sK,a1,s6,vr,hf,_⟩:=uB hn;obtain⟨cd,m2,pi,a2,OC,mb,od,_⟩:=uB cb;rw[gg hf] at hb;rw[gg od];exact fun bX=>qY hf od (sub hp cd aR) b (YD (zah hf) b hb) (YD (zah od) b bX)
 ·obtain⟨hp,m1,sK,a1,s6,vr,hf,_⟩:=uB hn;rw[gg hf] at hb;cases JI:q9 fl n' with
  |none=>exact absurd JI cb
  |some anV=>
   obtain⟨cd,m2,pi,a2,OC,mb,od,_⟩:=uB JI;rw[gg od] at fv⊢;rintro rfl;by_cases aR:n=n'
   ·subst aR;rw[hf] at od;injection od with od;injection od with _ od;injection od with q1 q2 q3 q4;subst q1 q2 q3 q4;have hm:=zah hf;obtain⟨sz,a,cap,xs,e,_,rh,_⟩:=(fT _ hm).gd;have Dl:=hg _ hm;injection e with e1 e2 e3 e4;subst e1 e2 e3 e4;rcases Dl.cases with rfl|⟨aR,_,b,o,rfl⟩
    ·rw[KQ] at fv;cases fv
    ·rw[zG aR] at hb;exact rh b o rfl hb
   ·exact qY hf od (sub hp cd aR) _ (YD (zah hf) _ hb) (LJ (zah od) fv)
end
section
variable {B:Nat} {E:Ex} {w0 w w':World} {G G':Gh} {N:Nat} {h h':Nat->Option aK} {used:Nat->Bool}
variable {P:Program} {T:br} {a:Act} {σ σ':St} {Q:Exit->Act->World->Prop}
theorem Uk {α:Type}:∀{s:List (Option Mode)} {xs:List α} {x:Mode×α},x∈gj s xs->x.2∈xs
 |some m::fs,y::xs,x,h=>by
  simp only[gj,zaq] at h;rcases h with rfl|h
  ·simp
  ·exact za1 _ (Uk h)
 |none::fs,y::xs,x,h=>by
  simp only[gj] at h;exact za1 _ (Uk h)
 |[],_,x,h=>by simp[gj] at h
 |some m::fs,[],x,h=>by simp[gj] at h
 |none::fs,[],x,h=>by simp[gj] at h
theorem Je {α:Type}:∀{sig:bi} {xss:List (List α)} {x:Mode×α},x∈eT sig xss->∃xs∈xss,x.2∈xs
 |s::sig,xs::xss,x,h=>by
  simp only[eT,zaC] at h;rcases h with h|h
  ·exact⟨xs,by simp,Uk h⟩
  ·obtain⟨ys,h1,h2⟩:=Je h;exact⟨ys,by simp[h1],h2⟩
 |[],_,x,h=>by simp[eT] at h
 |s::sig,[],x,h=>by simp[eT] at h
theorem Ot {fl:List (Mode×PC)} (fT:∀x∈fl,CI w x.1 x.2) (hg:∀x∈fl,Good w x.2):∀(c:Nat) (fs:List (Option Mode)) (ps:List PC),(∀(q:Nat) (x:Mode×PC),(gj fs ps)[q]? =some x->fl[c+q]? =some x)->(∀pc∈ps,Good w pc)->
  (∀pc∈rI fs ps,∀x∈fl,∀b,bR b pc->¬bR b x.2)->eO w (qx w fl) (q9 fl) (jS c fs (ps.map PC.er)) (ps.map PC.val)
 |c,[],ps,hq,ig,hu=>by
  simp only[jS];refine⟨by simp,fun j x u hj nB=>?_⟩;simp only[zae,zav] at hj nB;cases hp:ps[j]? with
  |none=>rw[hp] at hj;cases hj
  |some pc=>
   rw[hp] at hj nB;simp at hj nB;subst hj;subst nB;have hm:=zah hp;exact⟨PC.qg pc,pc,rfl,rfl,ig pc hm,fun b hb=>⟨(ig pc hm).lt hb,fun⟨x,hx,fw⟩=>hu pc (by simpa[rI] using hm) x hx b hb fw⟩⟩
 |c,f::fs,[],hq,ig,hu=>by
  cases f<;>exact⟨rfl,by intro j c u hj;simp[jS] at hj⟩
 |c,none::fs,p::ps,hq,ig,hu=>by
  have ih:=Ot fT hg c fs ps (fun q x h=>hq q x (by simpa[gj] using h)) (fun pc h=>ig pc (by simp[h])) (fun pc h=>hu pc (by simp[rI,h]));simp only[zad,jS];refine⟨by simp[ih.1],fun j x u hj nB=>?_⟩;cases j with
  |zero=>
   simp at hj nB;subst hj;subst nB;exact⟨PC.qg p,p,rfl,rfl,ig p (by simp),fun b hb=>⟨(ig p (by simp)).lt hb,fun⟨x,hx,fw⟩=>hu p (by simp[rI]) x hx b hb fw⟩⟩
  |succ j=>exact ih.2 j x u (by simpa using hj) (by simpa using nB)
 |c,some m::fs,p::ps,hq,ig,hu=>by
  have h0:=hq 0 (m,p) (by simp[gj]);simp only[za7] at h0;have uF:=zah h0;obtain⟨sz,a,cap,xs,e,fO,rh,vW⟩:=(fT _ uF).gd;simp only at e;subst e;have ih:=Ot fT hg (c+1) fs ps (fun q x h=>by have:=hq (q+1) x (by simpa[gj] using h);rwa[show c+(q+1)=c+1+q by omega] at this) (fun pc h=>ig pc (by simp[h])) (fun pc h=>hu pc (by simpa[rI] using h));simp only[zad,PC.fN,jS];refine⟨by simp[ih.1],fun j x u hj nB=>?_⟩;cases j with
  |zero=>
   simp at hj nB;subst hj;subst nB;refine⟨PC.qg _,fun _=>?_⟩;have Vs:(qx w fl).g (aU+c)=rA (.list sz a cap xs):=by simp only[qx,zaL,h0]
   rw[Vs];rcases(hg _ uF).cases with rfl|⟨aR,mr,b,o,rfl⟩
   ·rw[KQ];exact .inl ⟨rfl,rfl,rfl,rfl⟩
   ·rw[zG aR];exact .inr ⟨rfl,some (ad b o),by simp[PC.val],by simpa using mr,fun _=>by simp⟩
  |succ j=>exact ih.2 j x u (by simpa using hj) (by simpa using nB)
theorem acb {fl:List (Mode×PC)} (fT:∀x∈fl,CI w x.1 x.2) (hg:∀x∈fl,Good w x.2) {c:Nat} {s:List (Option Mode)} {d:Dv} {v:Value} {p:PA} (hA:EL w d v p)
  (hq:∀(q:Nat) (x:Mode×PC),(gj s p.ps)[q]? =some x->fl[c+q]? =some x) (hu:∀pc∈rI s p.ps,∀x∈fl,∀b,bR b pc->¬bR b x.2) (hp:p.k=.ptr->s=[]/\∀x∈fl,¬bR p.b x.2):
  RA w (qx w fl) (q9 fl) (w5 c s d) v:=by
 obtain⟨k,ps,b,o⟩:=p;obtain⟨rfl,ig,hv⟩:=hA;cases k with
 |one=>
  have hv:ps.map PC.val=[v]:=hv;have hl:=Ot fT hg c s ps hq ig hu;rw[hv] at hl;simp only[w5];obtain⟨x,hx⟩:∃x,jS c s (ps.map PC.er)=[x]:=by
   have:=hl.1;match hh:jS c s (ps.map PC.er),this with
   |[x],_=>exact⟨x,rfl⟩
  rw[hx] at hl⊢;exact .inr hl
 |agg=>
  have hv:v=.agg (ps.map PC.val).toArray:=hv;exact⟨_,hv,Ot fT hg c s ps hq ig hu⟩
 |ptr=>
  obtain⟨h1,h2,h3⟩:v=.pointer (some (ad b o))/\b<w.heap.size/\∀j c,ps[j]? =some c->w.cell? (ad b (o+j))=some c.val:=hv;obtain⟨rfl,Gv⟩:=hp rfl;subst h1;refine RA.jP rfl ⟨b,o,ps,by simp,rfl,⟨h2,fun⟨x,hx,fw⟩=>Gv x hx fw⟩,fun j c hj=>?_⟩;have hm:=zah hj;exact⟨h3 j c hj,ig c hm,fun b' bX=>⟨(ig c hm).lt bX,fun⟨x,hx,fw⟩=>hu c (by simpa[rI] using hm) x hx b' bX fw⟩⟩
theorem WD {fl:List (Mode×PC)} (fT:∀x∈fl,CI w x.1 x.2) (hg:∀x∈fl,Good w x.2):∀(ds:List Dv) (k c:Nat) (sig:bi) (vals:List Value) (pas:List PA),vals.length=ds.length->pas.length=ds.length->
  (∀(i:Nat) (d:Dv) (v:Value) (p:PA),ds[i]? =some d->vals[i]? =some v->pas[i]? =some p->EL w d v p)->(∀(q:Nat) (x:Mode×PC),(eT sig (pas.map (·.ps)))[q]? =some x->fl[c+q]? =some x)->
  (∀pc∈tV sig (pas.map (·.ps)),∀x∈fl,∀b,bR b pc->¬bR b x.2)->(∀p∈pas,p.k=.ptr->∀x∈fl,¬bR p.b x.2)->(∀(i:Nat) (p:PA) (s:List (Option Mode)),pas[i]? =some p->sig[i]? =some s->p.k=.ptr->s=[])->
  ∀s,RA w (qx w fl) (q9 fl) (pY k c sig ds s) (if k<=s then vals.getD (s - k) undef else undef)
 |[],k,c,sig,vals,pas,l1,l2,hA,hq,hu,hp,hs,s=>by simp only[pY];exact Or.inl rfl
 |d::ds,k,c,sig,v::vals,p::pas,l1,l2,hA,hq,hu,hp,hs,s=>by
  have l1':vals.length=ds.length:=by simpa using l1
  have l2':pas.length=ds.length:=by simpa using l2
  have A0:=hA 0 d v p rfl rfl rfl;have A1:=fun i d' v' p' (h1:ds[i]? =some d') (h2:vals[i]? =some v') (h3:pas[i]? =some p')=>hA (i+1) d' v' p' (by simpa using h1) (by simpa using h2) (by simpa using h3);have ig:=A0.2.1;have hd2:d.2=p.ps.map PC.er:=by rw[A0.1]
  have shift:∀x:aA,(s≠k->RA w (qx w fl) (q9 fl) x (if k+1<=s then vals.getD (s - (k+1)) undef else undef))->s≠k->RA w (qx w fl) (q9 fl) x (if k<=s then(v::vals).getD (s - k) undef else undef):=by
   intro x hx ze;have:=hx ze;by_cases hk:k+1<=s
   ·rw[if_pos hk] at this;rw[if_pos (by omega),show s - k=(s - (k+1))+1 by omega];simpa using this
   ·rw[if_neg hk] at this;rw[if_neg (by omega)];exact this
  cases sig with
  |nil=>
   simp only[pY];by_cases ze:s=k
   ·subst ze;rw[cT,if_pos (zaw _)];simp only[zaU,za2];refine acb fT hg A0 (fun q x h=>by simp[gj] at h) (fun pc bU=>hu pc ?_) (fun e=>⟨rfl,hp p (by simp) e⟩);simp only[rI] at bU;simp[tV,bU]
   ·rw[dN _ _ _ _ ze];refine shift _ (fun _=>WD fT hg ds (k+1) c [] vals pas l1' l2' A1 (fun q x h=>by simp[eT] at h) (fun pc bU=>hu pc ?_) (fun p cd=>hp p (by simp[cd])) (fun i p s _ h=>by simp at h) s) ze;simp only[tV] at bU;simp only[zad,tV,List.flatten_cons,zaC];exact .inr bU
  |cons sg sig=>
   simp only[pY];have hlen:(gj sg d.2).length=(gj sg p.ps).length:=by rw[hd2,Pm,zaf]
   by_cases ze:s=k
   ·subst ze;rw[cT,if_pos (zaw _)];simp only[zaU,za2];refine acb fT hg A0 (fun q x h=>hq q x ?_) (fun pc bU=>hu pc ?_) (fun e=>⟨hs 0 p sg rfl rfl e,hp p (by simp) e⟩)
    ·simp only[zad,eT];rw[List.getElem?_append_left (zag.1 h).1];exact h
    ·simp only[zad,tV,zaC];exact .inl bU
   ·rw[dN _ _ _ _ ze];refine shift _ (fun _=>WD fT hg ds (k+1) (c+(gj sg d.2).length) sig vals pas l1' l2' A1 (fun q x h=>?_) (fun pc bU=>hu pc ?_) (fun p cd=>hp p (by simp[cd])) (fun i p s h1 h2=>hs (i+1) p s (by simpa using h1) (by simpa using h2)) s) ze
    ·have:=hq ((gj sg p.ps).length+q) x (by
      simp only[zad,eT];rw[List.getElem?_append_right (zaQ _ _),zaL];exact h)
     rw[hlen,Nat.add_assoc];exact this
    ·simp only[zad,tV,zaC];exact .inr bU
 |_::_,k,c,sig,[],pas,l1,l2,hA,hq,hu,hp,hs,s=>by simp at l1
 |_::_,k,c,sig,_::_,[],l1,l2,hA,hq,hu,hp,hs,s=>by simp at l2
theorem acd {c:Nat} {s:List (Option Mode)} {d:Dv} {m:Nat} (h:(w5 c s d).ref m):aU<=m:=by
 have cN:∀(cs:List C) (c:Nat) (s:List (Option Mode)),∀x∈jS c s cs,x.ref m->aU<=m:=by
  intro cs;induction cs with
  |nil=>
   intro c s x hx;cases s with
   |nil=>simp[jS] at hx
   |cons f fs=>cases f<;>simp[jS] at hx
  |cons y cs ih=>
   intro c s x hx hr;cases s with
   |nil=>
    simp only[jS,zar] at hx;obtain⟨z,_,rfl⟩:=hx;exact absurd hr id
   |cons f fs=>
    cases f with
    |none=>
     simp only[jS,zaq] at hx;rcases hx with rfl|hx
     ·exact absurd hr id
     ·exact ih _ _ _ hx hr
    |some md=>
     cases y with
     |list sz xs=>
      simp only[jS,zaq] at hx;rcases hx with rfl|hx
      ·have hr:m=aU+c:=hr;omega
      ·exact ih _ _ _ hx hr
     |int k n=>
      simp only[jS,zaq] at hx;rcases hx with rfl|hx
      ·exact absurd hr id
      ·exact ih _ _ _ hx hr
     |bool b=>
      simp only[jS,zaq] at hx;rcases hx with rfl|hx
      ·exact absurd hr id
      ·exact ih _ _ _ hx hr
 obtain⟨k,xs⟩:=d;cases k with
 |one=>
  simp only[w5] at h;match hh:jS c s xs,h with
  |[],h=>exact absurd h id
  |[x],h=>exact cN xs c s x (by rw[hh];simp) h
  |_::_::_,h=>exact absurd h id
 |agg=>
  obtain⟨x,hx,hr⟩:=h;exact cN xs c s x hx hr
 |ptr=>exact absurd h id
theorem WE:∀{ds:List Dv} {k c:Nat} {sig:bi} {s m:Nat},(pY k c sig ds s).ref m->aU<=m
 |[],k,c,sig,s,m,h=>by simp only[pY] at h;exact absurd h id
 |d::ds,k,c,[],s,m,h=>by
  simp only[pY,ma] at h;split at h
  ·exact acd h
  ·exact WE h
 |d::ds,k,c,sg::sig,s,m,h=>by
  simp only[pY,ma] at h;split at h
  ·exact acd h
  ·exact WE h
theorem R.Ke {sig:bi} {ds:List Dv} {vals:List Value} {pas:List PA} (M:CH w sig ds vals pas) (hN:ds.length<=N):
  R w.heap.size (uo (eT sig (pas.map (·.ps)))) w N (qG sig ds) {tmps:=vals.toArray++Array.replicate (N - vals.toArray.size) undef,defers:=[]} w (qx w (eT sig (pas.map (·.ps)))):=by
 have mP:ds.map (·.2)=(pas.map (·.ps)).map fun l=>l.map PC.er:=by
  apply zaz;intro i;simp only[zae];cases hd:ds[i]? with
  |none=>
   have:ds.length<=i:=zax.1 hd;rw[zam (by rw[M.l2];exact this)];rfl
  |some d=>
   have hi:=(zag.1 hd).1;have hv:vals[i]? =some (vals[i]'(by rw[M.l1];exact hi)):=zaa _;have hp:pas[i]? =some (pas[i]'(by rw[M.l2];exact hi)):=zaa _;have:=(M.at_ i d _ _ hd hv hp).1;rw[hp];simp only[zab];rw[this]
 have ig:∀p∈pas,∀pc∈p.ps,Good w pc:=by
  intro p hp pc bU;obtain⟨i,hi,rfl⟩:=zat hp;have hd:ds[i]? =some (ds[i]'(by rw[<-M.l2];exact hi)):=zaa _;have hv:vals[i]? =some (vals[i]'(by rw[M.l1,<-M.l2];exact hi)):=zaa _;exact(M.at_ i _ _ _ hd hv (zaa hi)).2.1 pc bU
 have hg:∀x∈eT sig (pas.map (·.ps)),Good w x.2:=by
  intro x hx;obtain⟨l,hl,ot⟩:=Je hx;obtain⟨p,hp,rfl⟩:=zar.1 hl;exact ig p hp _ ot
 have Gn:(qG sig ds).h=q9 (eT sig (pas.map (·.ps))):=by
  funext n;simp only[qG,q9,mP,FW]
 refine⟨rfl,by simp[M.l1];omega,fun s=>?_,fun s n hn=>zao (WE hn),?_,Fr.refl _ _ _ (zaw _),fun n p b hp hb=>?_,fun n hn=>zao hn⟩
 ·rw[Gn];have:=WD M.ok hg ds 0 0 sig vals pas M.l1 M.l2 M.at_ (fun q x h=>by rw[zbf];exact h) M.free M.ptr M.ay5 s;simp only[zaX,if_true,zaO] at this;have e:(vals.toArray++Array.replicate (N - vals.toArray.size) undef).getD s undef=vals.getD s undef:=by
   simp only[zaD,zaT];by_cases cC:s<vals.length
   ·simp[zaE,cC]
   ·rw[zam (by omega)];simp only[zaE,List.size_toArray,cC,if_false,Array.getElem?_replicate];split<;>rfl
  rw[e];exact this
 ·rw[Gn];exact HR.Ke hg M.ok M.qY
 ·rw[Gn] at hb;obtain⟨VQ,m,sz,a,cap,xs,hf,e⟩:=uB hb;have cd:(if aU<=n then((eT sig (pas.map (·.ps)))[n - aU]?).map (fun x=>rA x.2) else none)=some p:=hp
  rw[if_pos VQ,hf] at cd;simp at cd;subst cd;have Vs:(qx w (eT sig (pas.map (·.ps)))).g n=rA (.list sz a cap xs):=by simp only[qx,hf]
  rw[Vs];exact⟨rfl,rfl,rfl,rfl,rfl,fun gr bu aM _ k j pc hk hL=>⟨pc,hk,rfl,hL⟩⟩
theorem Q0:∀{fl:List (Mode×C)} {q:Nat} {eV:List C},x6 σ q fl=some eV->eV.length=fl.length/\∀i x,fl[i]? =some x->∃o,eV[i]? =some o/\Ea σ (q+i) x=some o
 |[],q,eV,h=>by simp only[x6] at h;injection h with h;subst h;exact⟨rfl,by simp⟩
 |y::l,q,eV,h=>by
  simp only[x6] at h;split at h
  ·rename_i o os h1 h2;injection h with h;subst h;obtain⟨i1,i2⟩:=Q0 h2;refine⟨by simp[i1],fun i x hx=>?_⟩;cases i with
   |zero=>simp at hx;subst hx;exact⟨o,rfl,h1⟩
   |succ i=>
    obtain⟨o',e1,e2⟩:=i2 i x (by simpa using hx);exact⟨o',by simpa using e1,by rw[show q+(i+1)=q+1+i by omega];exact e2⟩
  ·cases h
theorem azi {q:Nat} {x:Mode×C} {o:C} (h:Ea σ q x=some o):∃sz xs gr aM,x.2=.list sz xs/\σ.h (aU+q)=some (.row gr x.1 sz aM)/\aM.length=xs.length/\xm x.1 aM=true/\aM.map (fun e=>e.map C.uK)=xs.map (fun e=>e.map C.uK)/\o=.list sz aM:=by
 unfold Ea at h;split at h
 ·rename_i sz xs gr m' bu aM h1 h2;split at h
  ·rename_i hc;obtain⟨rfl,rfl,h3,h4,h5⟩:=hc;injection h with h;exact⟨_,xs,gr,aM,h1,h2,h3,h4,h5,h.symm⟩
  ·cases h
 ·cases h
theorem aoF {px:List (List PC)} (hd:(px.map fun e=>e.map PC.er).all (fun e=>e.all C.xi)=true) {k j:Nat} {c:PC} (hk:At px k j c):∀sz a cap ys,c=.list sz a cap ys->∀b,¬bY b ys:=by
 rintro sz a cap ys rfl b;obtain⟨e,he,hj⟩:=hk;simp only[zaG,zar] at hd;have h1:=hd (e.map PC.er) ⟨e,zah he,rfl⟩ (PC.er (.list sz a cap ys)) (zar.2 ⟨_,zah hj,rfl⟩);rw[PC.fN] at h1;exact HH h1 b
theorem PC.atP (c:PC):c.er.uK=c.jX:=by
 cases c with
 |int k n=>rfl
 |bool b=>rfl
 |list sz a cap xs=>rw[PC.fN];rfl
theorem aBW {px px':List (List PC)} (hs:(px'.map fun e=>e.map PC.er).map (fun e=>e.map C.uK)=(px.map fun e=>e.map PC.er).map (fun e=>e.map C.uK)) {k j:Nat} {c:PC} (hk:At px' k j c):
  ∃c0,At px k j c0/\c0.jX=c.jX:=by
 obtain⟨e,he,hj⟩:=hk;have h1:=congrArg (fun l=>l[k]?) hs;simp only[zae,he,zab] at h1;cases h0:px[k]? with
 |none=>rw[h0] at h1;cases h1
 |some e0=>
  rw[h0] at h1;simp only[zab,zan] at h1;have h2:=congrArg (fun l=>l[j]?) h1;simp only[zae,hj,zab] at h2;cases h3:e0[j]? with
  |none=>rw[h3] at h2;cases h2
  |some c0=>
   rw[h3] at h2;simp only[zab,zan,PC.atP] at h2;exact⟨c0,⟨e0,h0,h3⟩,h2.symm⟩
theorem At.inj {α:Type} {px:List (List α)} {k j:Nat} {c c':α} (h:At px k j c) (h':At px k j c'):c=c':=by
 obtain⟨e,h1,h2⟩:=h;obtain⟨e',h3,h4⟩:=h';rw[h1] at h3;injection h3 with h3;subst h3;rw[h2] at h4;injection h4
theorem ag2 {px px':List (List PC)} (hd:(px.map fun e=>e.map PC.er).all (fun e=>e.all C.xi)=true)
  (hl:∀k j pc,At px k j pc->pc.jX=true->∃fh,At px' k j fh/\fh.val=pc.val/\fh.jX=true) {b:Nat} (hb:bY b px):bY b px':=by
 obtain⟨k,j,c,hk,hc⟩:=hb;cases c with
 |int k n=>exact absurd hc bR.ay9
 |bool x=>exact absurd hc bR.ay8
 |list sz a cap ys=>
  have vW:=aoF hd hk sz a cap ys rfl;rw[bR.oE] at hc;rcases hc with⟨aR,o,rfl⟩|⟨k',j',c',dg,dJ⟩
  ·obtain⟨c',h1,h2,h3⟩:=hl k j _ hk rfl;cases c' with
   |int k n=>cases h3
   |bool x=>cases h3
   |list bu a' oO ys'=>
    simp only[PC.val] at h2;injection h2 with e1 e2 e3;subst e1;refine⟨k,j,_,h1,?_⟩;rw[bR.oE];refine .inl ⟨fun asd=>?_,o,rfl⟩;subst asd;exact aR (zak e2.symm)
  ·exact absurd ⟨k',j',c',dg,dJ⟩ (vW b)
end
section
variable {B:Nat} {E:Ex} {w0 w w':World} {G G':Gh} {N:Nat} {h h':Nat->Option aK} {used:Nat->Bool}
variable {P:Program} {T:br} {a:Act} {σ σ':St} {Q:Exit->Act->World->Prop}
theorem zE {n:Nat} {b:aK} (hn:σ.mF.h n=some b):¬aU<=n/\σ.h n=some b:=by
 unfold St.mF at hn;simp only at hn;split at hn
 ·cases hn
 ·rename_i h;exact⟨h,hn⟩
theorem Hp {n:Nat} (hn:σ.mF.h n≠none):¬aU<=n/\σ.h n≠none:=by
 cases h:σ.mF.h n with
 |none=>exact absurd h hn
 |some b=>obtain⟨a,e⟩:=zE h;exact⟨a,by rw[e];simp⟩
theorem cr.mF (u:Nat->Prop):cr w G σ.h u w G σ.mF.h:=
 ⟨fun _ h=>h,fun _ _ _=>rfl,fun n _ hn=>⟨(Hp hn).2,rfl,rfl,rfl,rfl,rfl⟩,fun n gr sz xs _ hn=>⟨⟨gr,xs,(zE hn).2⟩,fun k j pc h1 h2=>⟨pc,h1,rfl,h2⟩⟩⟩
theorem R.mF (r:R B E w0 N σ a w G) (hE:∀b,E b->∃n gr m sz xs,aU<=n/\σ.h n=some (.row gr m sz xs)/\m≠ .aV/\qu G n b/\(m=.aZ->¬bY b (G.g n).px)):
  R B Ex.no w N σ.mF a w G:=by
 have H:=r.hr;have K:cr w G σ.h (fun n=>σ.used n=true) w G σ.mF.h:=cr.mF _;have big:∀n,¬aU<=n->σ.h n≠none->(G.g n).nl=false->¬E (G.g n).b:=by
  intro n hn h0 hl hb;obtain⟨q,gr,m,sz,xs,hq,h1,h2,h3,h4⟩:=hE _ hb;have aR:n≠q:=fun e=>hn (e▸hq);have rm:σ.h q≠none:=by rw[h1];simp
  rcases h3 with⟨l,e⟩|h3
  ·exact H.inj n q h0 rm aR hl l e
  ·cases m with
   |aV=>exact h2 rfl
   |aZ=>exact h4 rfl h3
   |live=>exact H.live q gr sz xs h1 _ h3 n h0 hl rfl
 have ack:∀n gr m sz xs,¬aU<=n->σ.h n=some (.row gr m sz xs)->m≠ .aV->∀b,bY b (G.g n).px->¬E b:=by
  intro n gr m sz xs hn h0 hm b hb he;obtain⟨q,cv,m',bu,aM,hq,h1,h2,h3,h4⟩:=hE _ he;have aR:n≠q:=fun e=>hn (e▸hq);exact H.aeY aR h0 h1 hm h2 (.inr hb) h3
 refine⟨r.defers,r.size,fun s=>(r.env s).fu K fun m hm=>r.wS s m hm,r.wS,?_,Fr.refl _ _ _ r.fr.size,fun n p b hp=>(by cases hp),r.Ec⟩;refine⟨fun n hn=>H.lI n (Hp hn).2,fun m cs c n hm hc hr=>H.j7 m cs c n (zE hm).2 hc hr,fun n cs hn=>?_,fun n gr m sz xs hn=>?_,fun n hn hl=>?_,fun n n' hn cb=>H.inj n n' (Hp hn).2 (Hp cb).2,
  H.jM,fun b _=>.inr (.inr trivial),fun n n' gr m sz xs cv m' bu aM hn cb=>H.ja n n' gr m sz xs cv m' bu aM (zE hn).2 (zE cb).2,fun n gr sz xs hn b hb n' cb=>H.live n gr sz xs (zE hn).2 b hb n' (Hp cb).2,?_,?_,?_⟩
 ·obtain⟨a1,a2,a3⟩:=H.box n cs (zE hn).2;refine⟨a1,a2,fun j c hj=>?_⟩;obtain⟨v,b1,b2,b3⟩:=a3 j c hj;exact⟨v,b1,b2,b3.fu K fun q hq=>H.j7 n cs c q (zE hn).2 (zah hj) hq⟩
 ·obtain⟨hp,h0⟩:=zE hn;have hr:=H.row n gr m sz xs h0;refine⟨hr.pos,hr.er,hr.nl,hr.gd,hr.room,?_⟩;have hm:=hr.mode;cases m with
  |aV=>exact hm
  |aZ=>exact⟨fun b hb=>⟨(hm.1 b hb).1,(hm.1 b hb).2.1,(hm.1 b hb).2.2.imp id fun he=>absurd he (ack n gr .aZ sz xs hp h0 (by simp) b hb)⟩,hm.2⟩
  |live=>exact⟨fun b hb=>⟨(hm.1 b hb).1,(hm.1 b hb).2.1,(hm.1 b hb).2.2.imp id fun he=>absurd he (ack n gr .live sz xs hp h0 (by simp) b hb)⟩,hm.2⟩
 ·obtain⟨hp,h0⟩:=Hp hn;obtain⟨o1,o2,o3⟩:=H.own n h0 hl;exact⟨o1,o2.imp id fun he=>absurd he (big n hp h0 hl),o3⟩
 ·intro i pc hi;simp at hi
 ·intro i j pc fh b _ hi;simp at hi
 ·intro i pc n gr m sz xs b hi;simp at hi
theorem arf {m:Mode} {px:List (List PC)} (hf:xm m (px.map fun e=>e.map PC.er)=true):(m=.aZ->∀b,¬bY b px)/\m≠ .aV/\(m=.live->(px.map fun e=>e.map PC.er).all (fun e=>e.all C.xi)=true):=by
 cases m with
 |aV=>cases hf
 |aZ=>exact⟨fun _ b=>HH hf b,(by simp),fun h=>(by cases h)⟩
 |live=>exact⟨fun h=>(by cases h),(by simp),fun _=>hf⟩
theorem IC {fl:List (Mode×PC)} (fT:∀x∈fl,CI w0 x.1 x.2) (hg:∀x∈fl,Good w0 x.2) (r:R B (uo fl) w0 N σ a w G) {eV:List C} (ho:x6 σ 0 (fl.map fun x=>(x.1,x.2.er))=some eV)
  {i:Nat} {x:Mode×PC} (hx:fl[i]? =some x):∃q o,eV[i]? =some o/\q.er=o/\sU w x.1 x.2 q/\
   ∃gr sz xs,σ.h (aU+i)=some (.row gr x.1 sz xs)/\(∀b,bR b x.2->qu G (aU+i) b)/\(x.1=.aZ->∀b,¬bY b (G.g (aU+i)).px)/\x.1≠ .aV:=by
 obtain⟨m,pc⟩:=x;have uF:=zah hx;obtain⟨o1,o2⟩:=Q0 ho;obtain⟨o,e1,e2⟩:=o2 i (m,pc.er) (by rw[zae,hx];rfl);rw[zbf] at e2;obtain⟨sz,xs,gr,aM,f1,f2,f3,f4,f5,rfl⟩:=azi e2;have ok:=fT _ uF;have ar0:=hg _ uF;obtain⟨wN,a0,cap,KW,rfl,fO,rh,vW⟩:=ok.gd;simp only[PC.fN] at f1;injection f1 with f1a f1b;subst f1a;subst f1b;have hr:=r.hr.row _ gr m wN aM f2;have xy:(uo fl).rB (aU+i)=some (rA (.list wN a0 cap KW)):=by
  show(if aU<=aU+i then(fl[aU+i - aU]?).map (fun x=>rA x.2) else none)=_
  rw[if_pos (zaQ _ _),zaL,hx];rfl
 obtain⟨p1,p2,p3,p4,p6,p5⟩:=r.rB _ _ _ xy f2;have Gj:aM=(G.g (aU+i)).px.map fun e=>e.map PC.er:=hr.er;have Pl:=f4;simp only at Pl;rw[Gj] at Pl;obtain⟨q1,q2,q3⟩:=arf Pl;have hlen:(G.g (aU+i)).px.length=KW.length:=by
  have:=f3;rw[Gj] at this;simpa using this
 have afJ:kU (G.g (aU+i)).px:=by
  have hm:=hr.mode;cases m with
  |aV=>exact absurd rfl q2
  |aZ=>exact hm.2
  |live=>exact hm.2
 have aR:σ.h (aU+i)≠none:=by rw[f2];simp
 rcases ar0.cases with rfl|⟨je,mr,b,o,rfl⟩
 ·have afG:(G.g (aU+i)).px=[]:=zak (by rw[hlen];rfl);refine⟨.list wN a0 cap [],_,e1,(by rw[PC.fN,Gj,afG]),⟨rfl,.nil _ _ _ fO,ok.sep,fun _ h=>h,?_,?_⟩,gr,wN,aM,f2,fun b' bX=>?_,fun hm b' bX=>q1 hm b' bX,q2⟩
  ·simp only[PC.fN];rw[Gj,afG] at f4;exact f4
  ·intro sz a cap xs bu a' oO mb A6 yW;have yW:=A6.symm.trans yW;injection yW with h1 h2 h3 h4;refine⟨h1.symm,h2.symm,h3.symm,by rw[h4],fun _ k j c hk hL=>?_⟩;injection A6 with _ _ _ h5;subst h5;obtain⟨e,he,_⟩:=hk;simp at he
  ·rw[bR.oE] at bX;rcases bX with⟨bX,_⟩|⟨k,j,c,⟨e,he,_⟩,_⟩
   ·exact absurd rfl bX
   ·simp at he
 ·have y5:m=.live->∀k j c,At KW k j c->c.jX=true->∃c',At (G.g (aU+i)).px k j c'/\c'.val=c.val/\c'.jX=true:=by
   rintro rfl k j c hk hL;rw[zG je] at p5;exact p5 gr wN aM rfl k j c hk hL
  rw[zG je] at p1 p2 p3 p4;simp only at p1 p2 p3 p4;obtain⟨l1,l2,l3⟩:=hr.gd p1;rw[p2] at l1 l2;rw[p3] at l2;rw[p4] at l3;have asp:(G.g (aU+i)).px≠[]:=by
   intro h0;rw[h0] at hlen;exact je (zak hlen.symm)
  have jc:Good w (.list wN (some (ad b o)) cap (G.g (aU+i)).px):=.cons _ _ _ _ _ asp l3 fO l2.1 l2.2.1 l2.2.2;have asz:¬bY b (G.g (aU+i)).px:=by
   intro hb;cases m with
   |aV=>exact q2 rfl
   |aZ=>exact q1 rfl b hb
   |live=>exact r.hr.live _ gr wN aM f2 b hb _ aR p1 p2.symm
  have arQ:m=.live->∀b',bY b' (G.g (aU+i)).px->bY b' KW:=by
   rintro rfl b' bX;refine ag2 (px':=KW) (q3 rfl) (fun k j c hk hL=>?_) bX;rw[Gj] at f5;obtain⟨c0,hk0,vS⟩:=aBW f5 hk;rw[hL] at vS;obtain⟨c1,Ba,nC,hL1⟩:=y5 rfl k j c0 hk0 vS;rw[At.inj Ba hk] at nC;exact⟨c0,hk0,nC.symm,vS⟩
  refine⟨.list wN (some (ad b o)) cap (G.g (aU+i)).px,_,e1,by rw[PC.fN,Gj],⟨by simp only[PC.val,hlen],jc,.list _ _ _ _ afJ.1 (fun b1 o1 k j c he hk uA=>?_) afJ.2,fun b' bX=>?_,?_,?_⟩,gr,wN,aM,f2,fun b' bX=>?_,q1,q2⟩
  ·injection he with he;obtain⟨rfl,_⟩:=qS he;exact asz ⟨k,j,c,hk,uA⟩
  ·rw[bR.oE] at bX;rcases bX with⟨_,o',jV⟩|hF
   ·injection jV with jV;rw[<-(qS jV).1];exact .here _ _ _ _ je
   ·cases m with
    |aV=>exact absurd rfl q2
    |aZ=>exact absurd hF (q1 rfl b')
    |live=>
     obtain⟨k,j,c,hk,hc⟩:=arQ rfl b' hF;exact .there _ _ _ _ k j c hk hc
  ·simp only[PC.fN];exact Pl
  ·intro sz a oO xs bu a' aDB mb A6 yW;injection A6 with h1 h2 h3 h4;injection yW with g1 g2 g3 g4;subst h1 h2 h3 h4 g1 g2 g3 g4;exact⟨rfl,rfl,rfl,hlen,y5⟩
  ·rw[bR.oE] at bX;rcases bX with⟨_,o',jV⟩|hF
   ·injection jV with jV;exact .inl ⟨p1,by rw[p2];exact(qS jV).1.symm⟩
   ·cases m with
    |aV=>exact absurd rfl q2
    |aZ=>exact absurd hF (HH vW b')
    |live=>exact .inr (ag2 vW (y5 rfl) hF)
theorem axs (hT:qm P T) (hm:P.follows .mixedOrders=true) {f:FuncId} {fn:Func} {c:Code} {mc:lF} {ms:List bK} {sig:bi} {M:List Dv->Option (List Dv×List C)} (hf:P.funcs[f]? =some fn) (hb:fn.body=some c)
  (hc:lc P fn.ntmps c mc=true) (hr:pJ P fn.results.toList ms=true) (hM:∀ds rs eV,M ds=some (rs,eV)->ds.length<=fn.ntmps/\Re T mc ms sig ds=some (rs,eV)):rM P f sig M:=by
 intro ds rs eV mP w vals pas ha;obtain⟨hN,c9⟩:=hM ds rs eV mP;refine calls_of_wp hf hb ?_;have r0:=R.Ke (N:=fn.ntmps) ha hN;have ig:∀p∈pas,∀pc∈p.ps,Good w pc:=by
  intro p hp pc bU;obtain⟨i,hi,rfl⟩:=zat hp;have hd:ds[i]? =some (ds[i]'(by rw[<-ha.l2];exact hi)):=zaa _;have hv:vals[i]? =some (vals[i]'(by rw[ha.l1,<-ha.l2];exact hi)):=zaa _;exact(ha.at_ i _ _ _ hd hv (zaa hi)).2.1 pc bU
 have hg:∀x∈eT sig (pas.map (·.ps)),Good w x.2:=by
  intro x hx;obtain⟨l,hl,ot⟩:=Je hx;obtain⟨p,hp,rfl⟩:=zar.1 hl;exact ig p hp _ ot
 have JE:ds.map (·.2)=(pas.map (·.ps)).map fun l=>l.map PC.er:=by
  apply zaz;intro i;simp only[zae];cases hd:ds[i]? with
  |none=>
   have:ds.length<=i:=zax.1 hd;rw[zam (by rw[ha.l2];exact this)];rfl
  |some d=>
   have hi:=(zag.1 hd).1;have hv:vals[i]? =some (vals[i]'(by rw[ha.l1];exact hi)):=zaa _;have hp:pas[i]? =some (pas[i]'(by rw[ha.l2];exact hi)):=zaa _;have:=(ha.at_ i d _ _ hd hv hp).1;rw[hp];simp only[zab];rw[this]
 unfold Re at c9;rw[JE,FW] at c9;generalize oR:eT sig (pas.map (·.ps))=fl at c9 r0 hg;have fT:=ha.ok;rw[oR] at fT;have fin:∀{σ:St} {a:Act} {w':World} {G:Gh},σ.yd ms (fl.map fun x=>(x.1,x.2.er))=some (rs,eV)->R w.heap.size (uo fl) w fn.ntmps σ a w' G->a.defers=[]/\∃v,(results fn a.tmps).run P w'=.ok v w'/\
   ∃bO:List (K×List PC),bO.map (fun p=>(p.1,p.2.map PC.er))=rs/\(Ending.returned v)=.returned (ye bO)/\(∀p∈bO,p.1≠ .ptr/\(p.1=.one->p.2.length=1))/\
   CK w' w.heap.size (bO.flatMap (·.2))/\Fr w.heap.size (AJ fl) w w'/\
   ∃qs:List PC,qs.map PC.er=eV/\qs.length=fl.length/\∀(i:Nat) (x:Mode×PC) (q:PC),fl[i]? =some x->qs[i]? =some q->sU w' x.1 x.2 q:=by
  intro σ a w' G hx r;unfold St.yd at hx;split at hx
  ·rename_i vh Yb e1 e2;injection hx with hx;injection hx with kG fw;subst kG fw;have hE:∀b,(uo fl) b->∃n gr m sz xs,aU<=n/\σ.h n=some (.row gr m sz xs)/\m≠ .aV/\qu G n b/\(m=.aZ->¬bY b (G.g n).px):=by
    rintro b ⟨x,wa,J0⟩;obtain⟨i,hi⟩:=zay wa;obtain⟨q,o,_,_,_,gr,sz,xs,k1,k2,k3,k4⟩:=IC fT hg r e2 hi;exact⟨aU+i,gr,x.1,sz,xs,zaQ _ _,k1,k4,k2 b J0,fun hm=>k3 hm b⟩
   obtain⟨bO,p1,p2,p3,p4⟩:=YB (r.mF hE) hr e1;obtain⟨ol,_⟩:=Q0 e2;have hq:∀i:Fin fl.length,∃q,Yb[i.1]? =some (PC.er q)/\sU w' (fl[i.1]).1 (fl[i.1]).2 q:=by
    intro i;obtain⟨q,o,k1,k2,k3,_⟩:=IC fT hg r e2 (zaa i.2);exact⟨q,by rw[k1,k2],k3⟩
   refine⟨r.defers,_,p2,bO,p1,rfl,p3,p4,⟨r.fr.os,r.fr.tape,r.fr.output,r.fr.size,r.fr.block,r.fr.kS⟩,List.ofFn fun i=>Classical.choose (hq i),?_,by simp,fun i x q hi mS=>?_⟩
   ·apply zaz;intro i;simp only[zae];by_cases hi:i<fl.length
    ·rw[zaM,dif_pos hi];exact(zaF (hq ⟨i,hi⟩)).1.symm
    ·rw[zam (by simp;omega),zam (by rw[ol];simp;omega)];rfl
   ·obtain⟨hl,e⟩:=zag.1 hi;rw[zaM,dif_pos hl] at mS;injection mS with mS;subst mS;subst e;exact(zaF (hq ⟨i,hl⟩)).2
  ·cases hx
 split at c9
 ·rename_i σ e;exact mO hT hm mc hc e r0 fun a w' G r=>fin c9 r
 ·rename_i σ e;exact mO hT hm mc hc e r0 fun a w' G r=>fin c9 r
 ·cases c9
end
def ID:Dv->aA
 |(.one,[x])=>.one (.c x)
 |(.one,_)=>.one .cD
 |(.agg,xs)=>.agg (xs.map .c)
 |(.ptr,_)=>.one (.ptr aU 0 0 0)
def xP:Nat->List Dv->(Nat->aA)
 |_,[]=>AG
 |k,d::ds=>aX (xP (k+1) ds) k (ID d)
def sG:List Dv->Option (List C)
 |[]=>none
 |(.ptr,xs)::_=>some xs
 |_::ds=>sG ds
def sf (ds:List Dv):Nat->Option aK:=fun n=>match Nat.beq n aU with
 |true=>(sG ds).map fun xs=>.box (xs.map .c)
 |false=>none
def Kg (ds:List Dv):St:={env:=xP 0 ds,h:=sf ds,used:=fun n=>Nat.ble aU n}
theorem amH (ds:List Dv) (n:Nat) (hn:aU<=n):(Kg ds).used n=true:=zao hn
def vd (h:Nat->Option aK):List aA->Option (List Dv)
 |[]=>some []
 |v::vs=>match v.cells? with
  |some (ag,cs)=>match j6 h cs,vd h vs with
   |some xs,some ds=>some ((if ag=true then .agg else .one,xs)::ds)
   |_,_=>none
  |none=>none
def HE (h:Nat->Option aK):List aA->Option (List Dv)
 |[v]=>match pE h v with
  |some (n,xs)=>if aU<=n then none else some [(.ptr,xs)]
  |none=>vd h [v]
 |vs=>vd h vs
def Hs (h:Nat->Option aK):Option (List C)->Option (List C)
 |none=>some []
 |some xs=>match h aU with
  |some (.box cs)=>if cs.length=xs.length then mV cs else none
  |_=>none
def St.HD (σ:St) (ms:List bK) (ds:List Dv):Option (List Dv×List C):=
 match σ.vb ms with
 |some vs=>match HE σ.h vs,Hs σ.h (sG ds) with
  |some rs,some out=>some (rs,out)
  |_,_=>none
 |none=>none
def Rf (T:br) (mc:lF) (aH:List bK) (ds:List Dv):Option (List Dv×List C):=
 match eY T mc (Kg ds) with
 |some (.gN σ)=>σ.HD aH ds
 |some (.ret σ)=>σ.HD aH ds
 |_=>none
section
variable {B:Nat} {E:Ex} {w0 w w':World} {G G':Gh} {N:Nat} {h h':Nat->Option aK} {used:Nat->Bool}
variable {P:Program} {T:br} {a:Act} {σ σ':St} {Q:Exit->Act->World->Prop}
theorem WG:∀(ds:List Dv) (k n:Nat),xP k ds n=if k<=n then(match ds[n - k]? with|some d=>ID d|none=>.one .cD) else .one .cD
 |[],k,n=>by simp[xP,AG]
 |d::ds,k,n=>by
  simp only[xP,ma,WG ds];by_cases h:n=k
  ·subst h;simp
  ·by_cases h2:k<=n
   ·have h3:k+1<=n:=by omega
    have h4:n - k=(n - (k+1))+1:=by omega
    simp[h,h2,h3,h4]
   ·have h3:¬k+1<=n:=by omega
    simp[h,h2,h3]
theorem Qb {ds:List Dv} {n:Nat} {b:aK} (hn:sf ds n=some b):n=aU/\∃xs,sG ds=some xs/\b=.box (xs.map .c):=by
 unfold sf at hn;split at hn
 ·rename_i e;have:=zac e;subst this;refine⟨rfl,?_⟩;cases hp:sG ds with
  |none=>rw[hp] at hn;cases hn
  |some xs=>rw[hp] at hn;injection hn with hn;exact⟨xs,rfl,hn.symm⟩
 ·cases hn
def kg:List PA->Option PA
 |[]=>none
 |p::ps=>if p.k=.ptr then some p else kg ps
theorem IX:∀{pas:List PA} {p:PA},kg pas=some p->p∈pas/\p.k=.ptr
 |[],p,h=>by cases h
 |q::pas,p,h=>by
  unfold kg at h;split at h
  ·injection h with h;subst h;rename_i hk;exact⟨by simp,hk⟩
  ·obtain⟨h1,h2⟩:=IX h;exact⟨by simp[h1],h2⟩
theorem OV:∀{pas:List PA},kg pas=none->∀p∈pas,p.k≠ .ptr
 |[],_,p,hp=>by cases hp
 |q::pas,h,p,hp=>by
  unfold kg at h;split at h
  ·cases h
  ·rename_i hk;cases hp with
   |head=>exact hk
   |tail _ hp=>exact OV h p hp
theorem Yn:∀{ds:List Dv} {pas:List PA},pas.length=ds.length->(∀(i:Nat) (d:Dv) (p:PA),ds[i]? =some d->pas[i]? =some p->d=(p.k,p.ps.map PC.er))->sG ds=(kg pas).map fun p=>p.ps.map PC.er
 |[],[],_,_=>rfl
 |[],_::_,hl,_=>by simp at hl
 |_::_,[],hl,_=>by simp at hl
 |d::ds,p::pas,hl,hd=>by
  have h0:=hd 0 d p rfl rfl;have ih:=Yn (ds:=ds) (pas:=pas) (by simpa using hl) (fun i d p h1 h2=>hd (i+1) d p h1 h2);subst h0;obtain⟨k,ps,b,o⟩:=p;cases k with
  |ptr=>rfl
  |one=>simpa[sG,kg] using ih
  |agg=>simpa[sG,kg] using ih
def BT (p:PA):PB:=⟨false,p.b,p.o,0,[],none⟩
def Jd (pas:List PA):Ex:=
 ⟨fun b=>∃p∈pas,p.k=.ptr/\b=p.b,fun n=>if n=aU then(kg pas).map BT else none,fun n p h=>(by
  by_cases hn:n=aU
  ·exact zbg hn.symm
  ·rw[if_neg hn] at h;cases h),fun b=>∃q∈pas,∃pc∈q.ps,bR b pc⟩
def AQ (pas:List PA):Gh:=⟨fun b=>∃q∈pas,∃pc∈q.ps,bR b pc,fun n=>match kg pas with|some p=>BT p|none=>default⟩
theorem R.atE {ds:List Dv} {vals:List Value} {pas:List PA} (va:Tn w ds vals pas) (hN:ds.length<=N):
  R w.heap.size (Jd pas) w N (Kg ds) {tmps:=vals.toArray++Array.replicate (N - vals.toArray.size) undef,defers:=[]} w (AQ pas):=by
 have hl:=va.l1;have Gv:sG ds=(kg pas).map fun p=>p.ps.map PC.er:=by
  refine Yn va.l2 fun i d p hd hp=>?_;have hv:vals[i]? =some (vals[i]'(by rw[va.l1];exact(zag.1 hd).1)):=zaa _;exact(va.at_ i d _ p hd hv hp).1
 have jc:∀q∈pas,∀pc∈q.ps,Good w pc:=by
  intro q hq pc bU;obtain⟨i,hi,rfl⟩:=zat hq;have hd:ds[i]? =some (ds[i]'(by rw[<-va.l2];exact hi)):=zaa _;have hv:vals[i]? =some (vals[i]'(by rw[va.l1,<-va.l2];exact hi)):=zaa _;exact(va.at_ i _ _ _ hd hv (zaa hi)).2.1 pc bU
 have ar7:∀q∈pas,q.k=.ptr->MI w q.b q.o q.ps/\∃v:Value,v∈vals/\v=.pointer (some (ad q.b q.o)):=by
  intro q hq hk;obtain⟨i,hi,rfl⟩:=zat hq;have hd:ds[i]? =some (ds[i]'(by rw[<-va.l2];exact hi)):=zaa _;have hv:vals[i]? =some (vals[i]'(by rw[va.l1,<-va.l2];exact hi)):=zaa _;have h3:=(va.at_ i _ _ _ hd hv (zaa hi)).2.2;rw[hk] at h3;exact⟨h3.2.2,_,zah hv,h3.1⟩
 have cell:∀q∈pas,∀pc∈q.ps,RC w (AQ pas) (sf ds) (.c pc.er) pc.val:=fun q hq pc bU=>⟨pc,rfl,rfl,jc q hq pc bU,fun b hb=>⟨q,hq,pc,bU,hb⟩⟩;have cells:∀q∈pas,eO w (AQ pas) (sf ds) ((q.ps.map PC.er).map .c) (q.ps.map PC.val):=by
  intro q hq;refine⟨by simp,fun j c u hj hu=>?_⟩;simp only[zae,zav] at hj hu;cases hp:q.ps[j]? with
  |none=>rw[hp] at hj;cases hj
  |some pc=>
   rw[hp] at hj hu;simp at hj hu;subst hj hu;exact⟨PC.qg pc,cell q hq pc (zah hp)⟩
 refine⟨rfl,by simp;omega,fun s=>?_,fun s n hn=>?_,?_,Fr.refl _ _ _ (zaw _),fun n p b hp hb=>?_,fun n hn=>zao hn⟩
 ·show RA w _ (sf ds) (xP 0 ds s) _;rw[WG];simp only[zaX,if_true,zaO];cases hs:ds[s]? with
  |none=>exact Or.inl rfl
  |some d=>
   have P1:=(zag.1 hs).1;have lv:s<vals.length:=by rw[hl];exact P1
   have hv:vals[s]? =some vals[s]:=zaa lv;obtain⟨q,hp⟩:∃q,pas[s]? =some q:=⟨_,zaa (by rw[va.l2];exact P1)⟩;have:(vals.toArray++Array.replicate (N - vals.toArray.size) undef).getD s undef=vals[s]:=by
    simp[zaD,zaE,lv]
   rw[this];have uF:=zah hp;obtain⟨e1,e2,e3⟩:=va.at_ s d _ q hs hv hp;generalize vals[s]=u at*
   subst e1;obtain⟨k,ps,b,o⟩:=q;cases k with
   |one=>
    have e3:ps.map PC.val=[u]:=e3;obtain⟨pc,rfl⟩:∃pc,ps=[pc]:=by
     have:=congrArg List.length e3;exact List.length_eq_one_iff.1 (by simpa using this)
    simp at e3;rw[<-e3];exact RA.jP (PC.qg pc) (cell _ uF pc (by simp))
   |agg=>exact⟨_,e3,cells _ uF⟩
   |ptr=>
    have e3:u=.pointer (some (ad b o))/\_:=e3;rw[e3.1];have hc:kg pas=some ⟨.ptr,ps,b,o⟩:=by
     cases hc:kg pas with
     |none=>exact absurd rfl (OV hc _ uF)
     |some p=>
      obtain⟨c1,c2⟩:=IX hc;obtain⟨i,hi⟩:=zay c1;have:=va.one i s p _ hi hp c2 rfl;subst this;rw[hi] at hp;injection hp with hp;rw[hp]
    refine RA.jP (c:=.ptr aU 0 0 0) rfl (fun _=>?_);simp[AQ,hc,BT]
 ·have cb:(xP 0 ds s).ref n:=hn;rw[WG] at cb;simp only[zaX,if_true,zaO] at cb;cases hs:ds[s]? with
  |none=>rw[hs] at cb;exact absurd cb id
  |some d=>
   rw[hs] at cb;obtain⟨k,xs⟩:=d;cases k with
   |one=>match xs,cb with
    |[],cb=>exact absurd cb id
    |[x],cb=>exact absurd cb id
    |_::_::_,cb=>exact absurd cb id
   |agg=>
    obtain⟨c,hc,hh⟩:=cb;obtain⟨y,_,rfl⟩:=zar.1 hc;exact absurd hh id
   |ptr=>
    have cb:n=aU:=cb;subst cb;exact amH ds aU (zaw aU)
 ·
  have XY:∀n gr m sz xs,sf ds n≠some (.row gr m sz xs):=fun n gr m sz xs hn=>by obtain⟨_,_,_,e⟩:=Qb hn;cases e
  have rU:∀n,sf ds n≠none->n=aU/\∃p,kg pas=some p/\(AQ pas).g n=BT p/\sf ds n=some (.box ((p.ps.map PC.er).map .c)):=by
   intro n hn;cases hh:sf ds n with
   |none=>exact absurd hh hn
   |some b=>
    obtain⟨rfl,xs,e1,e2⟩:=Qb hh;rw[Gv] at e1;cases hc:kg pas with
    |none=>rw[hc] at e1;cases e1
    |some p=>
     rw[hc] at e1;injection e1 with e1;exact⟨rfl,p,rfl,by simp[AQ,hc],by rw[e2,<-e1]⟩
  refine⟨fun n hn=>?_,fun m cs c n hm hc hr=>?_,fun n cs hn=>?_,fun n gr m sz xs hn=>absurd hn (XY _ _ _ _ _),fun n hn hlf=>?_,fun n n' hn cb aR=>?_,fun b hb=>?_,fun b hb=>.inr (.inr hb),
   fun n n' gr m sz xs cv m' bu aM hn=>absurd hn (XY _ _ _ _ _),fun n gr sz xs hn=>absurd hn (XY _ _ _ _ _),?_,?_,?_⟩
  ·obtain⟨rfl,_⟩:=rU n hn;exact amH ds aU (zaw aU)
  ·have cQ:sf ds m=some (.box cs):=hm;obtain⟨_,xs,_,e⟩:=Qb cQ;injection e with e;subst e;obtain⟨x,_,rfl⟩:=zar.1 hc;exact absurd hr id
  ·have cb:sf ds n=some (.box cs):=hn;obtain⟨rfl,p,c1,c2,c3⟩:=rU n (by rw[cb];simp);rw[cb] at c3;injection c3 with c3;injection c3 with c3;subst c3;obtain⟨m1,m2⟩:=IX c1;rw[c2];refine⟨rfl,(va.kS p m1 m2).1,fun j c hj=>?_⟩;rw[zae,zae] at hj;cases uG:p.ps[j]? with
   |none=>rw[uG] at hj;cases hj
   |some pc=>
    rw[uG] at hj;simp at hj;subst hj;exact⟨pc.val,(ar7 p m1 m2).1 j pc uG,PC.qg pc,cell p m1 pc (zah uG)⟩
  ·obtain⟨rfl,p,c1,c2,c3⟩:=rU n hn;obtain⟨m1,m2⟩:=IX c1;rw[c2];obtain⟨u1,u2⟩:=va.kS p m1 m2;exact⟨fun⟨q,hq,pc,bU,hb⟩=>u2 q hq pc bU hb,.inr ⟨p,m1,m2,rfl⟩,u1.lt⟩
  ·obtain⟨rfl,_⟩:=rU n hn;obtain⟨rfl,_⟩:=rU n' cb;exact absurd rfl aR
  ·obtain⟨q,hq,pc,bU,hb⟩:=hb;exact(jc q hq pc bU).lt hb
  ·intro i pc hi;simp at hi
  ·intro i j pc fh b _ hi;simp at hi
  ·intro i pc n gr m sz xs b hi;simp at hi
 ·have cd:(if n=aU then(kg pas).map BT else none)=some p:=hp
  split at cd
  ·rename_i hn;subst hn;cases hc:kg pas with
   |none=>rw[hc] at cd;cases cd
   |some q=>
    rw[hc] at cd;injection cd with cd;subst cd;have hg:(AQ pas).g aU=BT q:=by simp[AQ,hc]
    rw[hg];refine⟨rfl,rfl,rfl,rfl,rfl,fun gr sz xs bX=>?_⟩;have yT:sf ds aU=some b:=hb;obtain⟨_,_,_,e⟩:=Qb yT;rw[e] at bX;cases bX
  ·cases cd
def Tk (G:Gh) (h:Nat->Option aK) (b:Nat):Prop:=G.Im b\/∃n gr m sz xs,h n=some (.row gr m sz xs)/\vP G n b
theorem HR.amL (H:HR B E w G h used []):∀{cs:List ao} {xs:List C} {vs:List Value},Am.j6 h cs=some xs->eO w G h cs vs->∃ps:List PC,ps.map PC.er=xs/\ps.map PC.val=vs/\∀pc∈ps,Good w pc/\∀b,bR b pc->Tk G h b
 |[],xs,vs,hx,hc=>by
  simp only[Am.j6] at hx;injection hx with hx;subst hx;have:vs=[]:=zak (by simpa using hc.1);subst this;exact⟨[],rfl,rfl,by simp⟩
 |c::cs,xs,vs,hx,hc=>by
  simp only[Am.j6] at hx;split at hx
  ·rename_i x aM e1 e2;injection hx with hx;subst hx;match vs,hc.1 with
   |v::vs,hl=>
    obtain⟨pc,a1,a2,a3,a4⟩:=H.abk e1 (hc.2 0 c v rfl rfl).2;obtain⟨ps,b1,b2,b3⟩:=H.amL (vs:=vs) e2 ⟨by simpa using hl,fun j c u h1 h2=>hc.2 (j+1) c u h1 h2⟩;refine⟨pc::ps,by simp[a1,b1],by simp[a2,b2],fun q hq=>?_⟩;cases hq with
    |head=>exact⟨a3,fun b hb=>(a4 b hb).imp id fun⟨n,gr,m,sz,xs,_,h1,h2⟩=>⟨n,gr,m,sz,xs,h1,h2⟩⟩
    |tail _ hq=>exact b3 q hq
  ·cases hx
theorem HR.vd (H:HR B E w G h used []):∀{vs:List aA} {ds:List Dv} {us:List Value},Am.vd h vs=some ds->us.length=vs.length->(∀(j:Nat) (x:aA) (v:Value),vs[j]? =some x->us[j]? =some v->RA w G h x v)->
  ∃bO:List PA,bO.map (fun p=>(p.k,p.ps.map PC.er))=ds/\bO.map Eh=us/\(∀p∈bO,p.k≠ .ptr/\(p.k=.one->p.ps.length=1))/\∀p∈bO,∀pc∈p.ps,Good w pc/\∀b,bR b pc->Tk G h b
 |[],ds,us,hx,hl,hc=>by
  simp only[Am.vd] at hx;injection hx with hx;subst hx;have:us=[]:=zak (by simpa using hl);subst this;exact⟨[],rfl,rfl,by simp,by simp⟩
 |x::vs,ds,us,hx,hl,hc=>by
  simp only[Am.vd] at hx;split at hx
  ·rename_i ag cs n5;split at hx
   ·rename_i xs yK e1 e2;injection hx with hx;subst hx;match us,hl with
    |v::us,hl=>
     obtain⟨bO,b1,b2,b3,b4⟩:=H.vd (us:=us) e2 (by simpa using hl) (fun j x v h1 h2=>hc (j+1) x v h1 h2);have h0:=hc 0 x v rfl rfl;have fU:∃vs:List Value,(if ag=true then v=.agg vs.toArray else vs=[v])/\eO w G h cs vs:=by
      cases x with
      |one c=>
       have PL:ag=false/\cs=[c]:=by cases c<;>simp[aA.cells?] at n5<;>exact⟨n5.1,n5.2.symm⟩
       obtain⟨rfl,rfl⟩:=PL;rcases h0 with h0|h0
       ·subst h0;simp[aA.cells?] at n5
       ·exact⟨[v],rfl,h0⟩
      |agg cs'=>
       simp[aA.cells?] at n5;obtain⟨rfl,rfl⟩:=n5;obtain⟨vs,e,h1⟩:∃vs:List Value,v=.agg vs.toArray/\eO w G h cs' vs:=h0;exact⟨vs,e,h1⟩
      |cF xs=>simp[aA.cells?] at n5
     obtain⟨cvs,lP,di⟩:=fU;obtain⟨ps,p1,p2,p3⟩:=H.amL e1 di;refine⟨⟨if ag=true then .agg else .one,ps,0,0⟩::bO,by simp[p1,b1],?_,fun p hp=>?_,fun p hp pc bU=>?_⟩
     ·rw[zad,b2];congr 1;cases ag with
      |true=>
       simp only[if_true] at lP⊢;rw[lP,<-p2];rfl
      |false=>
       simp only[zap,if_false] at lP⊢;rw[<-p2] at lP;match ps,lP with
       |[pc],lP=>simp at lP;exact lP
     ·cases hp with
      |head=>
       cases ag with
       |true=>exact⟨by simp,fun h=>by cases h⟩
       |false=>
        simp only[zap,if_false] at lP;refine⟨by simp,fun _=>?_⟩;have:(ps.map PC.val).length=1:=by rw[p2,lP];rfl
        simpa using this
      |tail _ hp=>exact b3 p hp
     ·cases hp with
      |head=>exact p3 pc bU
      |tail _ hp=>exact b4 p hp pc bU
   ·cases hx
  ·cases hx
theorem aAi {bO:List PA}:Hu (bO.map Eh)=Ei bO:=by
 match bO with
 |[]=>rfl
 |[p]=>rfl
 |p::q::bO=>rfl
theorem aDd (hT:qm P T) (hm:P.follows .mixedOrders=true) {f:FuncId} {fn:Func} {c:Code} {mc:lF} {ms:List bK} {M:List Dv->Option (List Dv×List C)} (hf:P.funcs[f]? =some fn) (hb:fn.body=some c)
  (hc:lc P fn.ntmps c mc=true) (hr:pJ P fn.results.toList ms=true) (hM:∀ds rs out,M ds=some (rs,out)->ds.length<=fn.ntmps/\Rf T mc ms ds=some (rs,out)):mL P f M:=by
 intro ds rs out mP w vals pas va;obtain⟨hN,c9⟩:=hM ds rs out mP;refine calls_of_wp hf hb ?_;have r0:=R.atE (N:=fn.ntmps) va hN;have Gv:sG ds=(kg pas).map fun p=>p.ps.map PC.er:=by
  refine Yn va.l2 fun i d p hd hp=>?_;have hv:vals[i]? =some (vals[i]'(by rw[va.l1];exact(zag.1 hd).1)):=zaa _;exact(va.at_ i d _ p hd hv hp).1
 unfold Rf at c9;have fin:∀{σ:St} {a:Act} {w':World} {G:Gh},σ.HD ms ds=some (rs,out)->R w.heap.size (Jd pas) w fn.ntmps σ a w' G->a.defers=[]/\∃v,(results fn a.tmps).run P w'=.ok v w'/\
   ∃(bO:List PA) (qs:List PC),bO.map (fun p=>(p.k,p.ps.map PC.er))=rs/\(Ending.returned v)=.returned (Ei bO)/\qs.map PC.er=out/\Tm w w' pas bO qs:=by
  intro σ a w' G hx r;have H:=r.hr;unfold St.HD at hx;split at hx
  ·rename_i vs e1;split at hx
   ·rename_i vh Ya e2 e3;injection hx with hx;injection hx with kG fw;subst kG fw;have Gg:∀p,kg pas=some p->∃cs,σ.h aU=some (.box cs)/\cs.length=p.ps.length/\mV cs=some Ya/\(G.g aU).nl=false/\(G.g aU).b=p.b/\(G.g aU).o=p.o:=by
     intro p hp;rw[Gv,hp] at e3;simp only[zab,Hs] at e3;split at e3
     ·rename_i cs gY;split at e3
      ·rename_i hl;have xy:(Jd pas).rB aU=some (BT p):=by
        show(if aU=aU then(kg pas).map BT else none)=_
        rw[if_pos rfl,hp];rfl
       obtain⟨q1,q2,q3,_⟩:=r.rB _ _ _ xy gY;exact⟨cs,gY,by simpa using hl,e3,q1,q2,q3⟩
      ·cases e3
     ·cases e3
    have P3:∀q∈pas,q.k=.ptr->∃p,kg pas=some p/\q=p:=by
     intro q hq hk;cases hc:kg pas with
     |none=>exact absurd hk (OV hc q hq)
     |some p=>
      obtain⟨c1,c2⟩:=IX hc;obtain⟨i,hi⟩:=zay hq;obtain⟨j,hj⟩:=zay c1;have:=va.one i j q p hi hj hk c2;subst this;rw[hi] at hj;injection hj with hj;exact⟨p,rfl,hj⟩
    have hE:∀b,(Jd pas) b->∃p cs,kg pas=some p/\σ.h aU=some (.box cs)/\(G.g aU).nl=false/\b=(G.g aU).b:=by
     rintro b ⟨q,hq,hk,rfl⟩;obtain⟨p,hp,rfl⟩:=P3 q hq hk;obtain⟨cs,h1,_,_,h2,h3,_⟩:=Gg q hp;exact⟨q,cs,hp,h1,h2,h3.symm⟩
    have uD:∀b,G.Im b->Fo w pas b:=fun b hb=>by
     rcases H.tC b hb with h1|h1|h1
     ·exact .inl h1
     ·obtain⟨p,cs,_,h2,h3,rfl⟩:=hE b h1;exact absurd hb (H.own aU (by rw[h2];simp) h3).1
     ·exact .inr h1
    have ast:∀b,Tk G σ.h b->Fo w pas b/\(∀p,kg pas=some p->b≠p.b):=by
     have aR:∀b,(∀cs,σ.h aU=some (.box cs)->(G.g aU).nl=false->b≠(G.g aU).b)->∀p,kg pas=some p->b≠p.b:=fun b hb p hp=>by
      obtain⟨cs,h1,_,_,h2,h3,_⟩:=Gg p hp;rw[<-h3];exact hb cs h1 h2
     have ae3:∀b,(w.heap.size<=b\/(Jd pas) b)->(∀cs,σ.h aU=some (.box cs)->(G.g aU).nl=false->b≠(G.g aU).b)->Fo w pas b:=fun b hb aR=>by
      rcases hb with hb|hb
      ·exact .inl hb
      ·obtain⟨p,cs,_,h2,h3,h4⟩:=hE b hb;exact absurd h4 (aR cs h2 h3)
     intro b hb;rcases hb with hb|⟨n,gr,m,sz,xs,hn,hft⟩
     ·exact⟨uD b hb,aR b fun cs h1 h2 he=>(H.own aU (by rw[h1];simp) h2).1 (he▸hb)⟩
     ·have c8:σ.h n≠none:=by rw[hn];simp
      rcases hft with⟨bI,rfl⟩|hF
      ·have hd:∀cs,σ.h aU=some (.box cs)->(G.g aU).nl=false->(G.g n).b≠(G.g aU).b:=fun cs h1 h2=>
        H.inj n aU c8 (by rw[h1];simp) (by rintro rfl;rw[hn] at h1;cases h1) bI h2
       exact⟨ae3 _ (H.own n c8 bI).2.1 hd,aR _ hd⟩
      ·have jm:=(H.row n gr m sz xs hn).mode;cases m with
       |aV=>exact⟨uD b (jm b hF),aR b fun cs h1 h2 he=>(H.own aU (by rw[h1];simp) h2).1 (he▸jm b hF)⟩
       |aZ=>exact⟨uD b (jm.1 b hF).1,aR b fun cs h1 h2 he=>(H.own aU (by rw[h1];simp) h2).1 (he▸(jm.1 b hF).1)⟩
       |live=>
        have hd:∀cs,σ.h aU=some (.box cs)->(G.g aU).nl=false->b≠(G.g aU).b:=fun cs h1 h2=>H.live n gr sz xs hn b hF aU (by rw[h1];simp) h2;exact⟨ae3 b (jm.1 b hF).2.2 hd,aR b hd⟩
    obtain⟨us,u1,u2,_,u3⟩:=K9 r hr e1;obtain⟨qs,q1,q2,q3⟩:∃qs:List PC,qs.map PC.er=Ya/\(∀pc∈qs,Good w' pc/\∀b,bR b pc->G.Im b)/\∀p∈pas,p.k=.ptr->MI w' p.b p.o qs:=by
     cases hc:kg pas with
     |none=>
      rw[Gv,hc] at e3;simp only[zal,Hs] at e3;injection e3 with e3;subst e3;exact⟨[],rfl,by simp,fun p hp hk=>absurd hk (OV hc p hp)⟩
     |some p=>
      obtain⟨cs,h1,h2,h3,h4,h5,h6⟩:=Gg p hc;obtain⟨cvs,v1,v2⟩:=H.OA h1;obtain⟨ps,p1,p2,p3⟩:=HR.mV h3 v1;refine⟨ps,p1,p3,fun q hq hk j c hj=>?_⟩;obtain⟨p',cd,rfl⟩:=P3 q hq hk;rw[hc] at cd;injection cd with cd;subst cd;rw[<-h5,<-h6];refine v2 j _ ?_;rw[<-p2,zae,hj];rfl
    have yZ:Fr w.heap.size (exV pas) w w':=⟨r.fr.os,r.fr.tape,r.fr.output,r.fr.size,r.fr.block,r.fr.kS⟩;have OW:∀{vh:List Dv},vd σ.h vs=some vh->∃v,(results fn a.tmps).run P w'=.ok v w'/\
      ∃(bO:List PA) (qs:List PC),bO.map (fun p=>(p.k,p.ps.map PC.er))=vh/\(Ending.returned v)=.returned (Ei bO)/\qs.map PC.er=Ya/\Tm w w' pas bO qs:=by
     intro vh hrb;obtain⟨bO,b1,b2,b3,b4⟩:=H.vd hrb u2 u3;refine⟨_,Rk fn a.tmps u1,bO,qs,b1,by rw[<-b2,aAi],q1,?_⟩;exact⟨fun p hp=>(b3 p hp).2,fun p hp hk=>absurd hk (b3 p hp).1,fun p hp pc bU=>⟨(b4 p hp pc bU).1,fun b hb=>(ast b ((b4 p hp pc bU).2 b hb)).1⟩,yZ,fun pc bU=>⟨(q2 pc bU).1,fun b hb=>uD b ((q2 pc bU).2 b hb)⟩,q3⟩
    refine⟨r.defers,?_⟩;unfold HE at e2;split at e2
    ·rename_i v0;split at e2
     ·rename_i n xs hbp;split at e2
      ·cases e2
      ·rename_i VQ;injection e2 with e2;subst e2;obtain⟨sz,cs,rfl,hn,gY⟩:=TC hbp;obtain⟨nl,un,_⟩:=H.box n cs hn;have c8:σ.h n≠none:=by rw[hn];simp
       obtain⟨o1,o2,o3⟩:=H.own n c8 nl;obtain⟨cvs,v1,v2⟩:=H.OA hn;obtain⟨ps,p1,p2,p3⟩:=HR.mV gY v1;match us,u2 with
       |[u],_=>
        have hu:u=.pointer (some (ad (G.g n).b (G.g n).o)):=by
         have h0:=u3 0 _ u rfl rfl;rcases h0 with h0|h0
         ·cases h0
         ·have h1:RC w' G σ.h (.ptr n 0 sz 0) u:=(h0.2 0 _ u rfl rfl).2;simpa using(h1 c8).2
        have hB:w.heap.size<=(G.g n).b:=by
         rcases o2 with o2|o2
         ·exact o2
         ·obtain⟨p,cs',_,h2,h3,h4⟩:=hE _ o2;exact absurd h4 (H.inj n aU c8 (by rw[h2];simp) (by rintro rfl;exact VQ (zaw _)) nl h3)
        refine⟨_,Rk fn a.tmps u1,[⟨.ptr,ps,(G.g n).b,(G.g n).o⟩],qs,by simp[p1],?_,q1,?_⟩
        ·rw[hu];rfl
        ·refine⟨fun p hp hk=>?_,fun p hp hk=>?_,fun p hp pc bU=>?_,yZ,fun pc bU=>⟨(q2 pc bU).1,fun b hb=>uD b ((q2 pc bU).2 b hb)⟩,q3⟩
         ·simp at hp;subst hp;cases hk
         ·simp at hp;subst hp;refine⟨rfl,hB,un,fun j c hj=>v2 j _ ?_,fun pc bU hb=>o1 ((p3 pc bU).2 _ hb),fun pc bU hb=>o1 ((q2 pc bU).2 _ hb)⟩;rw[<-p2,zae,hj];rfl
         ·simp at hp;subst hp;exact⟨(p3 pc bU).1,fun b hb=>uD b ((p3 pc bU).2 b hb)⟩
     ·exact OW e2
    ·exact OW e2
   ·cases hx
  ·cases hx
 split at c9
 ·rename_i σ e;exact mO hT hm mc hc e r0 fun a w' G r=>fin c9 r
 ·rename_i σ e;exact mO hT hm mc hc e r0 fun a w' G r=>fin c9 r
 ·cases c9
end
def _root_.Option.ae {α β:Type} (o:Option α) (f:α->Option β):Option β:=o.bind f
def aD {α:Type} (b:Bool) (x y:α):α:=cond b x y
def bE (k:IntKind) (a b:Int):Int:=k.wrap (a+b)
def iy (k:IntKind) (a b:Int):Int:=k.wrap (a - b)
def cV (k:IntKind) (a b:Int):Int:=k.wrap (a*b)
def ayW (k:IntKind) (a:Int):Int:=k.wrap (0 - a)
def C0 (k:IntKind) (a:Int):Int:=k.wrap a
def qn (k:IntKind) (a b:Int):Int:=bits .and k a b
def X9 (k:IntKind) (a b:Int):Int:=bits .or k a b
def abr (k:IntKind) (a b:Int):Int:=bits .xor k a b
def c6 (a b:Int):Bool:=a==b
def iF (a b:Int):Bool:=a !=b
def cj (a b:Int):Bool:=decide (a<b)
def ir (a b:Int):Bool:=decide (a<=b)
def eqB (a b:Bool):Bool:=a==b
def neB (a b:Bool):Bool:=a !=b
def d9 (a:Bool):Bool:= !a
def zC (a b:Int):Int:=if a<b then b else a
def iW (a b:Int):Int:=if b<a then b else a
def af {α:Type} (xs:List α):Nat:=xs.length
def aW (n:Nat):Int:=(n:Int)
def aJ (a b:Nat):Nat:=a+b
def cA {α:Type} (xs:List α) (k:Nat):Option α:=xs[k]?
def bo {α:Type} (xs:List α) (k:Nat) (x:α):List α:=xs.set k x
def d6 {α:Type} (xs ys:List α):List α:=xs++ys
def dU {α:Type} (n:Nat) (x:α):List α:=List.replicate n x
def lZ {α:Type} (xs:List α) (lo len:Nat):List α:=(xs.drop lo).take len
def cW {α:Type} (xs:List α) (i:Int):Option α:=if 0<=i then xs[i.toNat]? else none
def c7 (i:Int) (len:Nat):Option Nat:=if 0<=i/\i<len then some i.toNat else none
def kw (lo hi:Int) (len:Nat):Option (Nat×Nat):=if 0<=lo/\lo<=hi/\hi<=len then some (lo.toNat,(hi - lo).toNat) else none
def bZ {α:Type} (xs:List α) (lo len:Nat):Option (List α):=if lo+len<=xs.length then some ((xs.drop lo).take len) else none
def dW {α:Type} (xs:List α) (len:Nat):Option (List α):=if len<=xs.length then some (xs.take len) else none
def C1 {α:Type} (xs:List α) (lo len:Nat) (ys:List α):Option (List α):=if lo+len<=xs.length then some (xs.take lo++ys++xs.drop (lo+ys.length)) else none
def mE (a b:Int) (by_:Nat):Option Nat:=if a<=b/\0<=a/\b.toNat*by_<=fo then some a.toNat else none
def kC (n by_:Nat):Option Unit:=if n*by_<=fo then some () else none
def kR (a b:Nat):Option Unit:=if a=b then some () else none
def bn (lo len l:Nat):Option Unit:=if lo=0/\len=l then some () else none
abbrev aa:=List Int
abbrev ai {α β:Type} (l:List α) (k:Option β):Option β:=(bn 0 (af l) (af l)).ae fun _=>k
def Ef (k:IntKind) (a b:Int):Option Int:=if b=0 then none else some (k.wrap (a.tdiv b))
def gJ (a b:Int):Option Int:=if b=0 then none else some (a.tmod b)
def Ep (k:IntKind) (a b:Int):Option Int:=if b<0 then none else some (k.wrap (a*2^(min b.toNat k.bits)))
def yi (k:IntKind) (a b:Int):Option Int:=if b<0 then none else some (a/(2^(min b.toNat k.bits)))
def cq {X Y:Type}:Nat->(X->Option (X⊕Y))->X->Option Y
 |0,_,_=>none
 |n+1,f,x=>match f x with
  |some (.inl x')=>cq n f x'
  |some (.inr y)=>some y
  |none=>none
def ct {X ρ:Type} (o:Option (X⊕ρ)) (k:X->Option ρ):Option ρ:=o.bind fun s=>Sum.casesOn s k some
theorem gi {α β:Type} {o:Option α} {f:α->Option β} {b:β}:o.ae f=some b↔∃a,o=some a/\f a=some b:=zaY
theorem FK {α:Type} (x y:α):aD true x y=x:=rfl
theorem CU {α:Type} (x y:α):aD false x y=y:=rfl
inductive Ty where
 |int (k:IntKind)
 |bool
 |list (ts:List Ty)
instance:Inhabited Ty:=⟨.bool⟩
mutual
def Ty.beq:Ty->Ty->Bool
 |.int k,.int k'=>decide (k=k')
 |.bool,.bool=>true
 |.list ts,.list us=>Ty.vG ts us
 |_,_=>false
def Ty.vG:List Ty->List Ty->Bool
 |[],[]=>true
 |t::ts,u::us=>Ty.beq t u&&Ty.vG ts us
 |_,_=>false
end
mutual
theorem Ty.beq_eq:∀{t u:Ty},Ty.beq t u=true->t=u
 |.int k,.int k',h=>by simp[Ty.beq] at h;rw[h]
 |.bool,.bool,_=>rfl
 |.list ts,.list us,h=>by simp only[Ty.beq] at h;rw[Ty.w6 h]
 |.int _,.bool,h=>by simp[Ty.beq] at h
 |.int _,.list _,h=>by simp[Ty.beq] at h
 |.bool,.int _,h=>by simp[Ty.beq] at h
 |.bool,.list _,h=>by simp[Ty.beq] at h
 |.list _,.int _,h=>by simp[Ty.beq] at h
 |.list _,.bool,h=>by simp[Ty.beq] at h
theorem Ty.w6:∀{ts us:List Ty},Ty.vG ts us=true->ts=us
 |[],[],_=>rfl
 |t::ts,u::us,h=>by simp only[Ty.vG,zai] at h;rw[Ty.beq_eq h.1,Ty.w6 h.2]
 |[],_::_,h=>by simp[Ty.vG] at h
 |_::_,[],h=>by simp[Ty.vG] at h
end
mutual
def Ty.D:Ty->Type
 |.int _=>Int
 |.bool=>Bool
 |.list ts=>List (Ty.DL ts)
def Ty.DL:List Ty->Type
 |[]=>Unit
 |t::ts=>match ts with
  |[]=>Ty.D t
  |u::us=>Ty.D t×Ty.DL (u::us)
end
mutual
def Ty.er:(t:Ty)->t.D->C
 |.int k,n=>.int k n
 |.bool,b=>.bool b
 |.list ts,xs=>.list ts.length (List.map (Ty.bq ts) xs)
def Ty.bq:(ts:List Ty)->Ty.DL ts->List C
 |[],_=>[]
 |[t],x=>[Ty.er t x]
 |t::u::ts,x=>Ty.er t x.1::Ty.bq (u::ts) x.2
end
def Ty.cast (t u:Ty) (x:t.D):Option u.D:=if h:Ty.beq t u=true then some (Ty.beq_eq h▸x) else none
theorem Ty.acr {t u:Ty} {x:t.D} {y:u.D} (h:Ty.cast t u x=some y):t.er x=u.er y:=by
 unfold Ty.cast at h;split at h
 ·rename_i he;have:=Ty.beq_eq he;subst this;injection h with h;rw[<-h]
 ·cases h
def Ty.TN (ts us:List Ty) (x:Ty.DL ts):Option (Ty.DL us):=if h:Ty.vG ts us=true then some (Ty.w6 h▸x) else none
theorem Ty.I9:∀(ts:List Ty) (x:Ty.DL ts),(Ty.bq ts x).length=ts.length
 |[],_=>rfl
 |[t],_=>rfl
 |t::u::ts,x=>by simp only[Ty.bq,zaH,Ty.I9 (u::ts) x.2]
def Ty.gV:Ty->Bool
 |.list _=>false
 |_=>true
theorem Ty.B2 (t:Ty) (x:t.D):(t.er x).gV=t.gV:=by cases t<;>rfl
def Ty.iG (ts:List Ty):Bool:=ts.all Ty.gV
theorem Ty.Ro:∀(ts:List Ty) (x:Ty.DL ts),Am.iG (Ty.bq ts x)=Ty.iG ts
 |[],_=>rfl
 |[t],x=>by simp[Am.iG,Ty.bq,Ty.iG];exact Ty.B2 t x
 |t::u::ts,x=>by
  have:=Ty.Ro (u::ts) x.2;simp only[Am.iG,Ty.iG] at this;simp only[Am.iG,Ty.iG,Ty.bq,zaA,Ty.B2] at this⊢;rw[this]
inductive SC where
 |v (t:Ty) (x:t.D)
 |nil (ts:List Ty)
 |ptr (n k sz off:Nat)
 |dR (ts:List Ty) (x:Ty.DL ts) (off:Nat)
 |sl (n sz lo len:Nat)
 |cJ (n k aY off sz len:Nat)
 |eG (n k aY off sz i:Nat)
 |fn (f:FuncId) (ed:List SC)
 |cD
instance:Inhabited SC:=⟨.cD⟩
mutual
def SC.er:SC->ao
 |.v t x=>.c (t.er x)
 |.nil ts=>.nil ts.length
 |.ptr n k sz off=>.ptr n k sz off
 |.dR ts x off=>.dR (Ty.bq ts x) off
 |.sl n sz lo len=>.sl n sz lo len
 |.cJ n k aY off sz len=>.cJ n k aY off sz len
 |.eG n k aY off sz i=>.eG n k aY off sz i
 |.fn f ed=>.fn f (SC.Pc ed)
 |.cD=>.cD
def SC.Pc:List SC->List ao
 |[]=>[]
 |c::cs=>SC.er c::SC.Pc cs
end
theorem SC.Jc (cs:List SC):SC.Pc cs=cs.map SC.er:=by
 induction cs with
 |nil=>rfl
 |cons c cs ih=>simp[SC.Pc,ih]
inductive SB where
 |box (cs:List SC)
 |row (gr:Bool) (m:Mode) (ts:List Ty) (xs:List (Ty.DL ts))
def SB.er:SB->aK
 |.box cs=>.box (cs.map SC.er)
 |.row gr m ts xs=>.row gr m ts.length (List.map (Ty.bq ts) xs)
inductive SV where
 |one (c:SC)
 |agg (cs:List SC)
 |cF (xs:List (Bool×List SC))
instance:Inhabited SV:=⟨.one .cD⟩
def SV.er:SV->aA
 |.one c=>.one c.er
 |.agg cs=>.agg (cs.map SC.er)
 |.cF xs=>.cF (xs.map fun x=>(x.1,x.2.map SC.er))
structure ak where
 env:Nat->SV
 h:Nat->Option SB
 used:Nat->Bool
def ul (env:Nat->SV):Nat->aA:=fun s=>(env s).er
def ez (h:Nat->Option SB):Nat->Option aK:=fun n=>(h n).map SB.er
def ak.er (σ:ak):St:={env:=ul σ.env,h:=ez σ.h,used:=σ.used}
theorem AH (env:Nat->SV) (n:Nat) (v:SV):ul (aX env n v)=aX (ul env) n v.er:=by
 funext s;simp only[ul,ma];split<;>rfl
theorem O9 (h:Nat->Option SB) (n:Nat) (v:Option SB):ez (aX h n v)=aX (ez h) n (v.map SB.er):=by
 funext s;simp only[ez,ma];split<;>rfl
def ak.put (σ:ak) (d:Option Nat) (v:SV):ak:=
 match d with
 |some n=>{σ with env:=aX σ.env n v}
 |none=>σ
def ak.ins (σ:ak) (n:Nat) (b:SB):Option ak:=
 match σ.used n with
 |true=>none
 |false=>some {σ with h:=aX σ.h n (some b),used:=aX σ.used n true}
def ak.fK (σ:ak) (n:Nat) (b:SB):ak:={σ with h:=aX σ.h n (some b)}
def ak.del (σ:ak) (n:Nat):ak:={σ with h:=aX σ.h n none}
theorem ak.fg (σ:ak) (d:Option Nat) (v:SV):(σ.put d v).er=σ.er.put d v.er:=by
 cases d with
 |none=>rfl
 |some n=>simp only[ak.put,ak.er,St.put,AH]
theorem ak.xk {σ σ1:ak} {n:Nat} {b:SB} (h:σ.ins n b=some σ1):σ.er.ins n b.er=some σ1.er:=by
 unfold ak.ins at h;split at h
 ·cases h
 ·rename_i hu;injection h with h;subst h;simp[St.ins,ak.er,hu,O9]
theorem ak.te (σ:ak) (n:Nat) (b:SB):(σ.fK n b).er=σ.er.fK n b.er:=by
 simp[ak.fK,ak.er,St.fK,O9]
theorem ak.Pb (σ:ak) (n:Nat):(σ.del n).er=σ.er.del n:=by
 simp[ak.del,ak.er,St.del,O9]
def Ty.cells:(ts:List Ty)->Ty.DL ts->List SC
 |[],_=>[]
 |[t],x=>[.v t x]
 |t::u::ts,x=>.v t x.1::Ty.cells (u::ts) x.2
theorem Ty.pH:∀(ts:List Ty) (x:Ty.DL ts),(Ty.cells ts x).map SC.er=(Ty.bq ts x).map .c
 |[],_=>rfl
 |[t],x=>rfl
 |t::u::ts,x=>by simp only[Ty.cells,Ty.bq,zad,Ty.pH (u::ts) x.2];rfl
def Xz (n k rs off:Nat) (t:Ty) (x:t.D):SC:=
 match t,x with
 |.list ts,xs=>.cJ n k rs off ts.length (af (α:=Ty.DL ts) xs)
 |.int k',x=>.v (.int k') x
 |.bool,x=>.v .bool x
def Ty.live (n k rs:Nat):Nat->(ts:List Ty)->Ty.DL ts->List SC
 |_,[],_=>[]
 |off,[t],x=>[Xz n k rs off t x]
 |off,t::u::ts,x=>Xz n k rs off t x.1::Ty.live n k rs (off+1) (u::ts) x.2
theorem agW (n k rs off:Nat) (t:Ty) (x:t.D) (l:List C):jY n k rs off (t.er x::l)=(Xz n k rs off t x).er::jY n k rs (off+1) l:=by
 cases t with
 |int k'=>rfl
 |bool=>rfl
 |list ts=>
  exact congrArg (fun m=>ao.cJ n k rs off ts.length m::jY n k rs (off+1) l) (zaf (Ty.bq ts))
theorem Ty.ag1 (n k rs:Nat):∀(off:Nat) (ts:List Ty) (x:Ty.DL ts),(Ty.live n k rs off ts x).map SC.er=jY n k rs off (Ty.bq ts x)
 |_,[],_=>rfl
 |off,[t],x=>(agW n k rs off t x []).symm
 |off,t::u::ts,x=>by simp only[Ty.live,Ty.bq,agW,zad,Ty.ag1 n k rs (off+1) (u::ts) x.2]
theorem agX (n k rs:Nat):∀(j off:Nat) (l:List C),(jY n k rs off l).drop j=jY n k rs (off+j) (l.drop j)
 |0,off,l=>by simp
 |j+1,off,[]=>by simp[jY]
 |j+1,off,c::l=>by
  have ih:=agX n k rs j (off+1) l;rw[show off+1+j=off+(j+1) by omega] at ih;cases c<;>simpa[jY] using ih
theorem ag0 (n k rs:Nat):∀(j off:Nat) (l:List C),(jY n k rs off l).take j=jY n k rs off (l.take j)
 |0,off,l=>by simp[jY]
 |j+1,off,[]=>by simp[jY]
 |j+1,off,c::l=>by cases c<;>simp[jY,ag0 n k rs j (off+1) l]
theorem agY (n k rs:Nat):∀(off:Nat) (l:List C),(jY n k rs off l).length=l.length
 |off,[]=>rfl
 |off,c::l=>by cases c<;>simp[jY,agY n k rs (off+1) l]
theorem aCB (n k rs off sz:Nat) (l:List C):sub (jY n k rs 0 l) off sz=(sub l off sz).map (jY n k rs off):=by
 unfold sub;rw[agY];split
 ·simp[agX,ag0]
 ·rfl
theorem yo {α β:Type} (f:α->β) (l:List α) (off sz:Nat):sub (l.map f) off sz=(sub l off sz).map (List.map f):=by
 unfold sub;rw[zaf];split
 ·simp[zaR,zaN]
 ·rfl
def CZ (t:Ty):(ts:List Ty)->t.D->Ty.DL ts->Ty.DL (t::ts)
 |[],x,_=>x
 |_::_,x,y=>(x,y)
theorem T4 (t:Ty) (ts:List Ty) (x:t.D) (y:Ty.DL ts):Ty.bq (t::ts) (CZ t ts x y)=t.er x::Ty.bq ts y:=by cases ts<;>rfl
def uV:(ts:List Ty)->List ((t:Ty)×t.D)->Option (Ty.DL ts)
 |[],[]=>some ()
 |t::ts,c::cs=>match Ty.cast c.1 t c.2,uV ts cs with
  |some y,some z=>some (CZ t ts y z)
  |_,_=>none
 |_,_=>none
def dT (l:List ((t:Ty)×t.D)):List C:=l.map fun x=>x.1.er x.2
theorem BH:∀{ts:List Ty} {cs:List ((t:Ty)×t.D)} {y:Ty.DL ts},uV ts cs=some y->Ty.bq ts y=dT cs
 |[],[],y,h=>rfl
 |t::ts,c::cs,y,h=>by
  simp only[uV] at h;split at h
  ·rename_i y1 z h1 h2;injection h with h;subst h;have:=BH h2;simp only[dT] at this;simp only[T4,dT,zad,Ty.acr h1,this]
  ·cases h
 |[],_::_,y,h=>by simp[uV] at h
 |t::ts,[],y,h=>by simp[uV] at h
def Ty.kA:(ts:List Ty)->Ty.DL ts->List ((t:Ty)×t.D)
 |[],_=>[]
 |[t],x=>[⟨t,x⟩]
 |t::u::ts,x=>⟨t,x.1⟩::Ty.kA (u::ts) x.2
theorem Ty.uf:∀(ts:List Ty) (x:Ty.DL ts),dT (Ty.kA ts x)=Ty.bq ts x
 |[],_=>rfl
 |[t],x=>rfl
 |t::u::ts,x=>by
  have:=Ty.uf (u::ts) x.2;simp only[dT] at this;simp only[Ty.kA,Ty.bq,dT,zad,this]
def gO {ρ:Type} (b:Bool) (x:Option ρ):Option ρ:=match b with|true=>x|false=>none
def dZ {ρ:Type} (a b:Nat) (x:Option ρ):Option ρ:=match Nat.beq a b with|true=>x|false=>none
theorem dq {ρ:Type} {b:Bool} {x:Option ρ} {r:ρ} (h:gO b x=some r):b=true/\x=some r:=by
 cases b with
 |true=>exact⟨rfl,h⟩
 |false=>cases h
theorem bW {ρ:Type} {a b:Nat} {x:Option ρ} {r:ρ} (h:dZ a b x=some r):a=b/\x=some r:=by
 unfold dZ at h;split at h
 ·rename_i e;exact⟨zac e,h⟩
 ·cases h
abbrev TD:=(t:Ty)×t.D
inductive dD where
 |t (n:Nat)
 |k (v:SV)
def dD.er:dD->MO
 |.t n=>.t n
 |.k v=>.k v.er
def ak.ev (σ:ak):dD->SV
 |.t n=>σ.env n
 |.k v=>v
theorem ak.ft (σ:ak) (x:dD):σ.er.ev x.er=(σ.ev x).er:=by cases x<;>rfl
def SV.cells?:SV->Option (Bool×List SC)
 |.one .cD=>none
 |.one c=>some (false,[c])
 |.agg cs=>some (true,cs)
 |.cF _=>none
theorem SV.pH {v:SV} {b:Bool} {cs:List SC} (h:v.cells?=some (b,cs)):v.er.cells?=some (b,cs.map SC.er):=by
 cases v with
 |one c=>cases c<;>simp[SV.cells?] at h<;>(obtain⟨rfl,rfl⟩:=h;rfl)
 |agg cs'=>simp[SV.cells?] at h;obtain⟨rfl,rfl⟩:=h;rfl
 |cF xs=>simp[SV.cells?] at h
def EH:Bool->List SC->SV
 |true,cs=>.agg cs
 |false,[c]=>.one c
 |false,_=>.one .cD
theorem Ib (b:Bool) (cs:List SC):(EH b cs).er=qN b (cs.map SC.er):=by
 cases b with
 |true=>rfl
 |false=>match cs with
  |[]=>rfl
  |[c]=>rfl
  |_::_::_=>rfl
section
variable {ρ:Type}
def Oy (op:BinOp) (k:IntKind) (a b:Int) (c:(t:Ty)->t.D->Option ρ):Option ρ:=
 match op with
 |.add=>c (.int k) (bE k a b)
 |.sub=>c (.int k) (iy k a b)
 |.mul=>c (.int k) (cV k a b)
 |.quo=>(Ef k a b).ae fun x=>c (.int k) x
 |.rem=>(gJ a b).ae fun x=>c (.int k) x
 |.and=>c (.int k) (qn k a b)
 |.or=>c (.int k) (X9 k a b)
 |.xor=>c (.int k) (abr k a b)
 |.eql=>c .bool (c6 a b)
 |.neq=>c .bool (iF a b)
 |.lss=>c .bool (cj a b)
 |.leq=>c .bool (ir a b)
 |.gtr=>c .bool (cj b a)
 |.geq=>c .bool (ir b a)
 |_=>none
theorem anT {op:BinOp} {k:IntKind} {a b:Int} {c:(t:Ty)->t.D->Option ρ} {r:ρ} (h:Oy op k a b c=some r):
    ∃(t:Ty) (x:t.D),Fy op k a b=some (t.er x)/\c t x=some r:=by
  cases op<;>first
    |exact⟨.int k,_,rfl,h⟩
    |exact⟨.bool,_,rfl,h⟩
    |(simp only[Oy,Ef,gJ,gi] at h
      obtain⟨x,h1,h2⟩:=h;split at h1
      · cases h1
      · rename_i hb;injection h1 with h1;subst h1;exact⟨.int k,_,by simp[Fy,hb,Ty.er],h2⟩)
    |(simp[Oy] at h)
def Rt (op:BinOp) (k:IntKind) (a b:Int) (c:(t:Ty)->t.D->Option ρ):Option ρ:=
 match op with
 |.shl=>(Ep k a b).ae fun x=>c (.int k) x
 |.shr=>(yi k a b).ae fun x=>c (.int k) x
 |_=>none
theorem aBV {op:BinOp} {k:IntKind} {a b:Int} {c:(t:Ty)->t.D->Option ρ} {r:ρ} (h:Rt op k a b c=some r):
    ∃(t:Ty) (x:t.D),Li op k a b=some (t.er x)/\c t x=some r:=by
  cases op<;>first
    |(simp only[Rt,Ep,yi,gi] at h
      obtain⟨x,h1,h2⟩:=h;split at h1
      · cases h1
      · rename_i hb;injection h1 with h1;subst h1;exact⟨.int k,_,by simp[Li,hb,Ty.er],h2⟩)
    |(simp[Rt] at h)
def TH (op:BinOp) (x y:SV) (c:(t:Ty)->t.D->Option ρ):Option ρ:=
 match x,y with
 |.one (.v (.int k) a),.one (.v (.int k') b)=>match BinOp.DM op with
  |true=>Rt op k a b c
  |false=>match decide (k=k') with
   |true=>Oy op k a b c
   |false=>none
 |_,_=>none
theorem anU {op:BinOp} {x y:SV} {c:(t:Ty)->t.D->Option ρ} {r:ρ} (h:TH op x y c=some r):
  ∃(t:Ty) (z:t.D),AA op x.er y.er=some (t.er z)/\c t z=some r:=by
 unfold TH at h;split at h
 ·rename_i k a k' b;split at h
  ·rename_i e;obtain⟨t,z,h1,h2⟩:=aBV h;exact⟨t,z,by simp[SV.er,SC.er,Ty.er,AA,e];exact h1,h2⟩
  ·rename_i e;split at h
   ·rename_i hk;have hk:=of_decide_eq_true hk;obtain⟨t,z,h1,h2⟩:=anT h;exact⟨t,z,by simp[SV.er,SC.er,Ty.er,AA,e,hk];subst hk;exact h1,h2⟩
   ·cases h
 ·cases h
def TG (op:BinOp) (x y:SV) (c:(t:Ty)->t.D->Option ρ):Option ρ:=
 match x,y with
 |.one (.v .bool a),.one (.v .bool b)=>match op with
  |.eql=>c .bool (eqB a b)
  |.neq=>c .bool (neB a b)
  |_=>none
 |_,_=>none
theorem anS {op:BinOp} {x y:SV} {c:(t:Ty)->t.D->Option ρ} {r:ρ} (h:TG op x y c=some r):
  ∃(t:Ty) (z:t.D),Fx op x.er y.er=some (t.er z)/\c t z=some r:=by
 unfold TG at h;split at h
 ·rename_i a b;split at h
  ·exact⟨.bool,_,rfl,h⟩
  ·exact⟨.bool,_,rfl,h⟩
  ·cases h
 ·cases h
def unS (op:UnOp) (x:SV) (c:(t:Ty)->t.D->Option ρ):Option ρ:=
 match x with
 |.one (.v .bool a)=>match op with
  |.not=>c .bool (d9 a)
  |_=>none
 |.one (.v (.int k) a)=>match op with
  |.neg=>c (.int k) (ayW k a)
  |_=>none
 |_=>none
theorem aC7 {op:UnOp} {x:SV} {c:(t:Ty)->t.D->Option ρ} {r:ρ} (h:unS op x c=some r):
  ∃(t:Ty) (z:t.D),Ie op x.er=some (t.er z)/\c t z=some r:=by
 unfold unS at h;split at h
 ·rename_i a;split at h
  ·exact⟨.bool,_,rfl,h⟩
  ·cases h
 ·rename_i k a;split at h
  ·exact⟨.int k,_,rfl,h⟩
  ·cases h
 ·cases h
def SV.fm:SV->Option Int
 |.one (.v (.int k) n)=>some n
 |_=>none
theorem SV.DI {v:SV} {n:Int} (h:v.fm=some n):v.er.fm=some n:=by
 unfold SV.fm at h;split at h
 ·injection h with h;subst h;rfl
 ·cases h
def Ls (h:Nat->Option SB) (p:SC) (sz:Nat) (c:List SC->Option ρ):Option ρ:=
 match p with
 |.ptr n k aY off=>match h n with
  |some (.box cs)=>dZ k 0 (match sub cs off sz with|some l=>c l|none=>none)
  |some (.row _ m ts xs)=>dZ aY ts.length ((cA xs k).ae fun e=>
   match sub (match m with|.live=>Ty.live n k ts.length 0 ts e|_=>Ty.cells ts e) off sz with
   |some l=>c l
   |none=>none)
  |none=>none
 |.dR ts x off=>match sub (Ty.cells ts x) off sz with|some l=>c l|none=>none
 |_=>none
theorem aav {h:Nat->Option SB} {p:SC} {sz:Nat} {c:List SC->Option ρ} {r:ρ} (hx:Ls h p sz c=some r):
  ∃l,loadAt (ez h) p.er sz=some (l.map SC.er)/\c l=some r:=by
 unfold Ls at hx;split at hx
 ·rename_i n k aY off;split at hx
  ·rename_i cs hn;have cB:=(bW hx).1;replace hx:=(bW hx).2;subst cB;split at hx
   ·rename_i l e;refine⟨l,?_,hx⟩;simp[SC.er,loadAt,ez,hn,SB.er,yo,e]
   ·cases hx
  ·rename_i gr m ts xs hn;have cB:=(bW hx).1;replace hx:=(bW hx).2;subst cB;rw[gi] at hx;obtain⟨e,he,hx⟩:=hx
   replace he:xs[k]? =some e:=he
   split at hx
   ·rename_i l hl;refine⟨l,?_,hx⟩;have oe:(List.map (Ty.bq ts) xs)[k]? =some (Ty.bq ts e):=by rw[zae,he];rfl
    simp only[SC.er,loadAt,ez,hn,zab,SB.er,if_true,oe];cases m with
    |live=>
     simp only at hl;have:=congrArg (Option.map (List.map SC.er)) hl;rw[<-yo,Ty.ag1,aCB] at this;cases hs:sub (Ty.bq ts e) off sz with
     |none=>rw[hs] at this;cases this
     |some l'=>rw[hs] at this;simpa using this
    |aZ=>
     simp only at hl;have:=congrArg (Option.map (List.map SC.er)) hl;rw[<-yo,Ty.pH,yo] at this;cases hs:sub (Ty.bq ts e) off sz with
     |none=>rw[hs] at this;cases this
     |some l'=>rw[hs] at this;simpa using this
    |aV=>
     simp only at hl;have:=congrArg (Option.map (List.map SC.er)) hl;rw[<-yo,Ty.pH,yo] at this;cases hs:sub (Ty.bq ts e) off sz with
     |none=>rw[hs] at this;cases this
     |some l'=>rw[hs] at this;simpa using this
   ·cases hx
  ·cases hx
 ·rename_i ts x off;split at hx
  ·rename_i l hl;refine⟨l,?_,hx⟩;have:=congrArg (Option.map (List.map SC.er)) hl;rw[<-yo,Ty.pH,yo] at this;simpa[SC.er,loadAt] using this
  ·cases hx
 ·cases hx
theorem T8:∀{ts:List Ty} {e:Ty.DL ts} {off:Nat} {x:TD},(Ty.kA ts e)[off]? =some x->(Ty.bq ts e)[off]? =some (x.1.er x.2):=by
 intro ts e off x h;rw[<-Ty.uf,dT,zae,h];rfl
def Cb (h:Nat->Option SB) (c:SC) (k:(t:Ty)->t.D->Option ρ):Option ρ:=
 match c with
 |.v t x=>k t x
 |.nil ts=>match ts with
  |[]=>none
  |t::us=>k (.list (t::us)) ([]:List (Ty.DL (t::us)))
 |.sl n sz lo len=>match h n with
  |some (.row _ _ ts xs)=>dZ ts.length sz ((bZ xs lo len).ae fun ys=>k (.list ts) ys)
  |_=>none
 |.cJ n kk aY off sz len=>match h n with
  |some (.row _ .live ts xs)=>dZ ts.length aY ((cA xs kk).ae fun e=>match(Ty.kA ts e)[off]? with
   |some ⟨t,x⟩=>k t x
   |none=>none)
  |_=>none
 |_=>none
theorem amR {ts:List Ty} {xs ys:List (Ty.DL ts)} {lo len:Nat} (h:bZ xs lo len=some ys):lo+len<=xs.length/\((List.map (Ty.bq ts) xs).drop lo).take len=List.map (Ty.bq ts) ys:=by
 unfold bZ at h;split at h
 ·rename_i hl;injection h with h;subst h;exact⟨hl,by simp[zaR,zaN]⟩
 ·cases h
theorem H8 {h:Nat->Option SB} {c:SC} {k:(t:Ty)->t.D->Option ρ} {r:ρ} (hx:Cb h c k=some r):
  ∃(t:Ty) (x:t.D),dH (ez h) c.er=some (t.er x)/\k t x=some r:=by
 unfold Cb at hx;split at hx
 ·exact⟨_,_,rfl,hx⟩
 ·split at hx
  ·cases hx
  ·rename_i t us;exact⟨.list (t::us),[],by simp[SC.er,dH,Ty.er],hx⟩
 ·rename_i n sz lo len;split at hx
  ·rename_i gr m ts xs hn;have cB:=(bW hx).1;replace hx:=(bW hx).2;subst cB;rw[gi] at hx;obtain⟨ys,hw,hx⟩:=hx;obtain⟨w1,w2⟩:=amR hw;refine⟨.list ts,ys,?_,hx⟩;simp only[SC.er,dH,ez,hn,zab,SB.er,zaf,Ty.er,w2,w1,and_self,if_true]
  ·cases hx
 ·rename_i n kk aY off sz len;split at hx
  ·rename_i gr ts xs hn;have cB:=(bW hx).1;replace hx:=(bW hx).2;subst cB;rw[gi] at hx;obtain⟨e,he,hx⟩:=hx
   replace he:xs[kk]? =some e:=he
   split at hx
   ·rename_i t x hd;refine⟨t,x,?_,hx⟩;have:=T8 hd;simp only[SC.er,dH,ez,hn,zab,SB.er,if_true,zae,he,zaI,this]
   ·cases hx
  ·cases hx
 ·cases hx
def EE (h:Nat->Option SB):List SC->(List TD->Option ρ)->Option ρ
 |[],k=>k []
 |c::cs,k=>Cb h c fun t x=>EE h cs fun l=>k (⟨t,x⟩::l)
theorem LC {h:Nat->Option SB}:∀{cs:List SC} {k:List TD->Option ρ} {r:ρ},EE h cs k=some r->
  ∃l,j6 (ez h) (cs.map SC.er)=some (dT l)/\k l=some r
 |[],k,r,hx=>⟨[],rfl,hx⟩
 |c::cs,k,r,hx=>by
  simp only[EE] at hx;obtain⟨t,x,h1,h2⟩:=H8 hx;obtain⟨l,h3,h4⟩:=LC h2;exact⟨⟨t,x⟩::l,by simp[j6,h1,h3,dT],h4⟩
abbrev cP:=K×List TD
def cP.er (d:cP):Dv:=(d.1,dT d.2)
def aa3 (h:Nat->Option SB) (v:SV) (k:cP->Option ρ):Option ρ:=
 match v with
 |.one (.ptr n kk sz off)=>match h n with
  |some (.box cs)=>dZ kk 0 (dZ off 0 (EE h cs fun l=>k (.ptr,l)))
  |_=>none
 |.one (.dR ts x off)=>dZ off 0 (k (.ptr,Ty.kA ts x))
 |.one c=>Cb h c fun t x=>k (.one,[⟨t,x⟩])
 |.agg cs=>EE h cs fun l=>k (.agg,l)
 |.cF _=>none
theorem aCD {h:Nat->Option SB} {v:SV} {k:cP->Option ρ} {r:ρ} (hx:aa3 h v k=some r):
  ∃d:cP,kT (ez h) v.er=some d.er/\k d=some r:=by
 unfold aa3 at hx;split at hx
 ·rename_i n kk sz off;split at hx
  ·rename_i cs hn;have cB:=(bW hx).1;replace hx:=(bW hx).2;subst cB;have cB:=(bW hx).1;replace hx:=(bW hx).2;subst cB;obtain⟨l,h1,h2⟩:=LC hx;exact⟨(.ptr,l),by simp[SV.er,SC.er,kT,ez,hn,SB.er];exact⟨_,h1,rfl⟩,h2⟩
  ·cases hx
 ·rename_i ts x off;have cB:=(bW hx).1;replace hx:=(bW hx).2;subst cB;exact⟨(.ptr,Ty.kA ts x),by simp[SV.er,SC.er,kT,cP.er,Ty.uf],hx⟩
 ·rename_i c hp hd;obtain⟨t,x,h1,h2⟩:=H8 hx;refine⟨(.one,[⟨t,x⟩]),?_,h2⟩;cases c with
  |ptr n kk sz off=>exact absurd rfl (hp n kk sz off)
  |dR ts x off=>exact absurd rfl (hd ts x off)
  |v t' x'=>simp only[SV.er,SC.er,kT] at h1⊢;rw[h1];rfl
  |nil ts=>simp only[SV.er,SC.er,kT] at h1⊢;rw[h1];rfl
  |sl n sz lo len=>simp only[SV.er,SC.er,kT] at h1⊢;rw[h1];rfl
  |cJ n a b c' d e=>simp only[SV.er,SC.er,kT] at h1⊢;rw[h1];rfl
  |eG n a b c' d e=>simp only[SV.er,SC.er,kT] at h1⊢;rw[h1];rfl
  |fn f ed=>simp only[SV.er,SC.er,kT] at h1⊢;rw[h1];rfl
  |cD=>simp only[SV.er,SC.er,kT] at h1⊢;rw[h1];rfl
 ·obtain⟨l,h1,h2⟩:=LC hx;exact⟨(.agg,l),by simp[SV.er,kT,h1,cP.er],h2⟩
 ·cases hx
def LB (h:Nat->Option SB):List SV->(List cP->Option ρ)->Option ρ
 |[],k=>k []
 |v::vs,k=>aa3 h v fun d=>LB h vs fun l=>k (d::l)
theorem aa4 {h:Nat->Option SB}:∀{vs:List SV} {k:List cP->Option ρ} {r:ρ},LB h vs k=some r->
  ∃l,pt (ez h) (vs.map SV.er)=some (l.map cP.er)/\k l=some r
 |[],k,r,hx=>⟨[],rfl,hx⟩
 |v::vs,k,r,hx=>by
  simp only[LB] at hx;obtain⟨d,h1,h2⟩:=aCD hx;obtain⟨l,h3,h4⟩:=aa4 h2;exact⟨d::l,by simp[pt,h1,h3],h4⟩
def Mode.own:Mode->Bool
 |.aV=>false
 |_=>true
theorem Mode.azl (m:Mode):decide (m≠ .aV)=m.own:=by cases m<;>rfl
def aaT (σ:ak) (c:SC) (k:(t:Ty)->t.D->Bool->ak->Option ρ):Option ρ:=
 match c with
 |.v t x=>k t x t.gV σ
 |.nil ts=>match ts with
  |[]=>none
  |t::us=>k (.list (t::us)) ([]:List (Ty.DL (t::us))) true σ
 |.sl n sz lo len=>match σ.h n with
  |some (.row _ m ts xs)=>dZ ts.length sz (dZ lo 0 ((dW xs len).ae fun ys=>k (.list ts) ys m.own (σ.del n)))
  |_=>none
 |_=>none
theorem amr {ts:List Ty} {xs ys:List (Ty.DL ts)} {len:Nat} (h:dW xs len=some ys):len<=xs.length/\(List.map (Ty.bq ts) xs).take len=List.map (Ty.bq ts) ys:=by
 unfold dW at h;split at h
 ·rename_i hl;injection h with h;subst h;exact⟨hl,by simp[zaN]⟩
 ·cases h
theorem aCu {σ:ak} {c:SC} {k:(t:Ty)->t.D->Bool->ak->Option ρ} {r:ρ} (hx:aaT σ c k=some r):
  ∃(t:Ty) (x:t.D) (o:Bool) (σ1:ak),σ.er.iY c.er=some (t.er x,o,σ1.er)/\k t x o σ1=some r:=by
 unfold aaT at hx;split at hx
 ·rename_i t x;exact⟨_,_,_,_,by simp only[SC.er,St.iY,Ty.B2],hx⟩
 ·split at hx
  ·cases hx
  ·rename_i t us;exact⟨.list (t::us),[],true,σ,by simp[SC.er,St.iY,Ty.er],hx⟩
 ·rename_i n sz lo len;split at hx
  ·rename_i gr m ts xs hn;have cB:=(bW hx).1;replace hx:=(bW hx).2;subst cB;have cB:=(bW hx).1;replace hx:=(bW hx).2;subst cB;rw[gi] at hx;obtain⟨ys,hw,hx⟩:=hx;obtain⟨w1,w2⟩:=amr hw;refine⟨.list ts,ys,m.own,σ.del n,?_,hx⟩;have cb:σ.er.h n=some (.row gr m ts.length (List.map (Ty.bq ts) xs)):=by simp[ak.er,ez,hn,SB.er]
   simp only[SC.er,St.iY,cb,zaf,w1,w2,and_self,if_true,Ty.er,ak.Pb,Mode.azl]
  ·cases hx
 ·cases hx
def EC (σ:ak):List SC->(List TD->Bool->ak->Option ρ)->Option ρ
 |[],k=>k [] true σ
 |c::cs,k=>aaT σ c fun t x o σ1=>EC σ1 cs fun l o' σ2=>k (⟨t,x⟩::l) (o&&o') σ2
theorem Lz:∀{cs:List SC} {σ:ak} {k:List TD->Bool->ak->Option ρ} {r:ρ},EC σ cs k=some r->
  ∃(l:List TD) (o:Bool) (σ1:ak),σ.er.iz (cs.map SC.er)=some (dT l,o,σ1.er)/\k l o σ1=some r
 |[],σ,k,r,hx=>⟨[],true,σ,rfl,hx⟩
 |c::cs,σ,k,r,hx=>by
  simp only[EC] at hx;obtain⟨t,x,o,σ1,h1,h2⟩:=aCu hx;obtain⟨l,o',σ2,h3,h4⟩:=Lz h2;exact⟨⟨t,x⟩::l,o&&o',σ2,by simp[St.iz,h1,h3,dT],h4⟩
def RT (ts:List Ty) (σ:ak):List SV->(List (Ty.DL ts)->Bool->ak->Option ρ)->Option ρ
 |[],k=>k [] true σ
 |v::vs,k=>match v.cells? with
  |some (_,cs)=>EC σ cs fun l o σ1=>match uV ts l with
   |some e=>RT ts σ1 vs fun es o' σ2=>k (e::es) (o&&o') σ2
   |none=>none
  |none=>none
theorem amw:∀{cs:List ao} {σ σ1:St} {l:List C} {o:Bool},σ.iz cs=some (l,o,σ1)->l.length=cs.length
 |[],σ,σ1,l,o,h=>by simp[St.iz] at h;rw[h.1];rfl
 |c::cs,σ,σ1,l,o,h=>by
  simp only[St.iz] at h;split at h
  ·split at h
   ·rename_i e2;injection h with h;injection h with h h2;subst h;simp[amw e2]
   ·cases h
  ·cases h
theorem amf {ts:List Ty}:∀{vs:List SV} {σ:ak} {k:List (Ty.DL ts)->Bool->ak->Option ρ} {r:ρ},RT ts σ vs k=some r->
  ∃(es:List (Ty.DL ts)) (o:Bool) (σ1:ak),σ.er.pj ts.length (vs.map SV.er)=some (List.map (Ty.bq ts) es,o,σ1.er)/\k es o σ1=some r
 |[],σ,k,r,hx=>⟨[],true,σ,rfl,hx⟩
 |v::vs,σ,k,r,hx=>by
  simp only[RT] at hx;split at hx
  ·rename_i b cs hc;obtain⟨l,o,σ1,h1,h2⟩:=Lz hx;split at h2
   ·rename_i e he;obtain⟨es,o',σ2,h3,h4⟩:=amf h2;have hl:(cs.map SC.er).length=ts.length:=by
     have a:=amw h1;rw[<-BH he,Ty.I9] at a;exact a.symm
    refine⟨e::es,o&&o',σ2,?_,h4⟩;simp only[zad,St.pj,SV.pH hc,hl,if_true,h1,h3,BH he]
   ·cases h2
  ·cases hx
end
section
def bf:List (List Ty)->Type
 |[]=>Unit
 |ts::l=>match l with
  |[]=>Ty.DL ts
  |us::l'=>Ty.DL ts×bf (us::l')
abbrev aq:=List (K×List Ty)
abbrev aq.be (s:aq):List (List Ty):=s.map (·.2)
def d8:(as:aq)->bf as.be->List Dv
 |[],_=>[]
 |[a],x=>[(a.1,Ty.bq a.2 x)]
 |a::b::as,x=>(a.1,Ty.bq a.2 x.1)::d8 (b::as) x.2
def lk:(as:aq)->bf as.be->List cP
 |[],_=>[]
 |[a],x=>[(a.1,Ty.kA a.2 x)]
 |a::b::as,x=>(a.1,Ty.kA a.2 x.1)::lk (b::as) x.2
theorem yH:∀(as:aq) (x:bf as.be),(lk as x).map cP.er=d8 as x
 |[],_=>rfl
 |[a],x=>congrArg (fun l=>[((a.1,l):Dv)]) (Ty.uf a.2 x)
 |a::b::as,x=>by
  have:=yH (b::as) x.2;simp only[lk,d8,zad,cP.er,Ty.uf,this]
def K.beq:K->K->Bool
 |.one,.one=>true
 |.agg,.agg=>true
 |.ptr,.ptr=>true
 |_,_=>false
theorem K.beq_eq {a b:K} (h:K.beq a b=true):a=b:=by cases a<;>cases b<;>first|rfl|cases h
def OR (ts:List Ty):(l:List (List Ty))->Ty.DL ts->bf l->bf (ts::l)
 |[],x,_=>x
 |_::_,x,y=>(x,y)
theorem adm (a:K×List Ty):∀(as:aq) (x:Ty.DL a.2) (y:bf (aq.be as)),d8 (a::as) (OR a.2 (aq.be as) x y)=(a.1,Ty.bq a.2 x)::d8 as y
 |[],_,_=>rfl
 |_::_,_,_=>rfl
def ry:(as:aq)->List cP->Option (bf as.be)
 |[],[]=>some ()
 |a::as,d::ds=>gO (K.beq a.1 d.1) (match uV a.2 d.2,ry as ds with
  |some x,some y=>some (OR a.2 (aq.be as) x y)
  |_,_=>none)
 |_,_=>none
theorem wC:∀{as:aq} {ds:List cP} {x:bf as.be},ry as ds=some x->ds.map cP.er=d8 as x
 |[],[],x,h=>rfl
 |a::as,d::ds,x,h=>by
  simp only[ry] at h;have h1:=(dq h).1;replace h2:=(dq h).2;split at h2
  ·rename_i y z e1 e2;injection h2 with h2;subst h2;rw[adm,zad,wC e2,cP.er,<-K.beq_eq h1,<-BH e1]
  ·cases h2
 |[],_::_,x,h=>by simp[ry] at h
 |a::as,[],x,h=>by simp[ry] at h
mutual
theorem Ty.adq:∀(t:Ty) (x y:t.D),t.er x=t.er y->x=y
 |.int k,x,y,h=>by simp only[Ty.er] at h;injection h
 |.bool,x,y,h=>by simp only[Ty.er] at h;injection h
 |.list ts,x,y,h=>by simp only[Ty.er] at h;injection h with _ h;exact Ty.adp ts x y h
theorem Ty.adp:∀(ts:List Ty) (xs ys:List (Ty.DL ts)),List.map (Ty.bq ts) xs=List.map (Ty.bq ts) ys->xs=ys
 |ts,[],[],h=>rfl
 |ts,x::xs,y::ys,h=>by
  simp only[zad,zaS] at h;rw[Ty.Pa ts x y h.1,Ty.adp ts xs ys h.2]
 |ts,[],_::_,h=>by simp at h
 |ts,_::_,[],h=>by simp at h
theorem Ty.Pa:∀(ts:List Ty) (x y:Ty.DL ts),Ty.bq ts x=Ty.bq ts y->x=y
 |[],x,y,h=>rfl
 |[t],x,y,h=>by simp only[Ty.bq,zaS,and_true] at h;exact Ty.adq t x y h
 |t::u::ts,x,y,h=>by
  simp only[Ty.bq,zaS] at h;exact zbc (Ty.adq t x.1 y.1 h.1) (Ty.Pa (u::ts) x.2 y.2 h.2)
end
theorem adn:∀(as:aq) (x y:bf as.be),d8 as x=d8 as y->x=y
 |[],x,y,h=>rfl
 |[a],x,y,h=>by simp[d8] at h;exact Ty.Pa a.2 x y h
 |a::b::as,x,y,h=>by
  simp only[d8,zaS,Prod.mk.injEq,true_and] at h;exact zbc (Ty.Pa a.2 x.1 y.1 h.1) (adn (b::as) x.2 y.2 h.2)
structure aE where
 id:FuncId
 args:aq
 mu:bi
 aH:aq
 F:bf args.be->Option (bf aH.be)
open Classical in
noncomputable def aE.M (fn:aE) (ds:List Dv):Option (List Dv):=
 if h:∃x,d8 fn.args x=ds then(fn.F h.choose).map (d8 fn.aH) else none
theorem aE.Aq (fn:aE) (x:bf fn.args.be):fn.M (d8 fn.args x)=(fn.F x).map (d8 fn.aH):=by
 have h:∃y,d8 fn.args y=d8 fn.args x:=⟨x,rfl⟩;unfold aE.M;rw[dif_pos h,adn _ _ _ h.choose_spec]
theorem aE.Fl {fn:aE} {ds rs:List Dv} (h:fn.M ds=some rs):∃x y,ds=d8 fn.args x/\fn.F x=some y/\rs=d8 fn.aH y:=by
 unfold aE.M at h;split at h
 ·rename_i e;rw[zaB] at h;obtain⟨y,h1,h2⟩:=h;exact⟨_,y,e.choose_spec.symm,h1,h2.symm⟩
 ·cases h
def bi.lH:bi->Nat
 |[]=>0
 |s::l=>(s.filter Option.isSome).length+bi.lH l
def yl (k:Nat) (rs:List Dv):List Dv×List C:=(rs.take k,(rs.drop k).flatMap (·.2))
noncomputable def aE.MM (fn:aE) (ds:List Dv):Option (List Dv×List C):=(fn.M ds).map (yl (fn.aH.length - fn.mu.lH))
def bi.g0:bi->Nat
 |[]=>0
 |[[some .aV]]=>2
 |[some .aV,some .aV]::_=>3
 |[some .aV,some .aV,some .aV]::_=>4
 |_=>1
def Ge:aq->Bool
 |[]=>false
 |(.ptr,_)::_=>true
 |_::as=>Ge as
def tI (as:aq):Nat:=match Ge as with
 |true=>1
 |false=>0
noncomputable def aE.MV (fn:aE) (ds:List Dv):Option (List Dv×List C):=(fn.M ds).map (yl (fn.aH.length - tI fn.args))
def abm:List Dv->Option (Nat×Nat)
 |[(.one,[.int _ a]),(.one,[.int _ b])]=>some (a.toNat,(b - a).toNat)
 |_=>none
noncomputable def aE.MW (fn:aE) (ds:List Dv):Option (Nat×Nat):=(fn.M ds).bind abm
def bi.mI (s:bi):Nat:=s.length - 2
noncomputable def aE.MX (fn:aE) (ds:List Dv):Option (List Dv×List C):=(fn.M ds).map (yl (fn.aH.length - 1))
noncomputable def dr (T:List aE):br:=
 ⟨T.filterMap fun fn=>match fn.mu.g0 with|0=>some (fn.id,fn.M)|_=>none,T.filterMap fun fn=>match fn.mu.g0 with|1=>some (fn.id,fn.mu,fn.MM)|_=>none,
  T.filterMap fun fn=>match fn.mu.g0 with|2=>some (fn.id,fn.MV)|_=>none,T.filterMap fun fn=>match fn.mu.g0 with|3=>some (fn.id,fn.mu.tl,fn.MW)|_=>none,
  T.filterMap fun fn=>match fn.mu.g0 with|4=>some (fn.id,fn.mu.mI,fn.MX)|_=>none⟩
def aE.find:List aE->FuncId->Option aE
 |[],_=>none
 |fn::l,f=>match Nat.beq f fn.id with
  |true=>some fn
  |false=>aE.find l f
theorem aE.Ul:∀{T:List aE} {f:FuncId} {fn:aE},aE.find T f=some fn->fn.mu.g0=0->br.find (dr T).pure f=some fn.M
 |[],f,fn,h,_=>by simp[aE.find] at h
 |g::l,f,fn,h,hm=>by
  simp only[aE.find] at h;split at h
  ·rename_i e;injection h with h;subst h;simp only[dr,zaj,hm,br.find];rw[if_pos (zac e)]
  ·rename_i e;have ih:br.find (dr l).pure f=some fn.M:=aE.Ul h hm;simp only[dr,zaj] at ih⊢;by_cases hg:g.mu.g0=0
   ·simp only[hg,br.find];rw[if_neg (fun he=>by rw[he,zas] at e;cases e)];exact ih
   ·split
    ·exact ih
    ·rename_i z hz;split at hz
     ·rename_i h0;exact absurd h0 hg
     ·cases hz
theorem aE.adN:∀{T:List aE} {f:FuncId} {fn:aE},aE.find T f=some fn->fn.mu.g0=1->br.rS (dr T).BJ f=some (fn.mu,fn.MM)
 |[],f,fn,h,_=>by simp[aE.find] at h
 |g::l,f,fn,h,hm=>by
  simp only[aE.find] at h;split at h
  ·rename_i e;injection h with h;subst h;simp only[dr,zaj,hm,br.rS];rw[if_pos (zac e)]
  ·rename_i e;have ih:br.rS (dr l).BJ f=some (fn.mu,fn.MM):=aE.adN h hm;simp only[dr,zaj] at ih⊢;by_cases hg:g.mu.g0=1
   ·simp only[hg,br.rS];rw[if_neg (fun he=>by rw[he,zas] at e;cases e)];exact ih
   ·split
    ·exact ih
    ·rename_i z hz;split at hz
     ·rename_i h0;exact absurd h0 hg
     ·cases hz
theorem aE.adO:∀{T:List aE} {f:FuncId} {fn:aE},aE.find T f=some fn->fn.mu.g0=2->br.n7 (dr T).vs f=some fn.MV
 |[],f,fn,h,_=>by simp[aE.find] at h
 |g::l,f,fn,h,hm=>by
  simp only[aE.find] at h;split at h
  ·rename_i e;injection h with h;subst h;simp only[dr,zaj,hm,br.n7];rw[if_pos (zac e)]
  ·rename_i e;have ih:br.n7 (dr l).vs f=some fn.MV:=aE.adO h hm;simp only[dr,zaj] at ih⊢;by_cases hg:g.mu.g0=2
   ·simp only[hg,br.n7];rw[if_neg (fun he=>by rw[he,zas] at e;cases e)];exact ih
   ·split
    ·exact ih
    ·rename_i z hz;split at hz
     ·rename_i h0;exact absurd h0 hg
     ·cases hz
def zR (m:Mode) (σ:ak):Nat->List TD->Option (List SC×Nat×ak)
 |nm,[]=>some ([],nm,σ)
 |nm,⟨t,x⟩::cs=>match t,x with
  |.list ts,xs=>match σ.ins nm (.row true m ts xs) with
   |some σ1=>match zR m σ1 (nm+1) cs with
    |some (l,iu,σ2)=>some (.sl nm ts.length 0 (af (α:=Ty.DL ts) xs)::l,iu,σ2)
    |none=>none
   |none=>none
  |.int k,x=>match zR m σ nm cs with
   |some (l,iu,σ2)=>some (.v (.int k) x::l,iu,σ2)
   |none=>none
  |.bool,x=>match zR m σ nm cs with
   |some (l,iu,σ2)=>some (.v .bool x::l,iu,σ2)
   |none=>none
theorem Rv (m:Mode):∀{cs:List TD} {σ σ1:ak} {nm iu:Nat} {l:List SC},zR m σ nm cs=some (l,iu,σ1)->
  σ.er.imp m nm (dT cs)=some (l.map SC.er,iu,σ1.er)
 |[],σ,σ1,nm,iu,l,h=>by
  simp only[zR] at h;injection h with h;injection h with h1 h2;injection h2 with h2 h3;subst h1 h2 h3;rfl
 |⟨.list ts,xs⟩::cs,σ,σ2,nm,iu,l,h=>by
  simp only[zR] at h;split at h
  ·rename_i σ1 e1;split at h
   ·rename_i l' KF j8 e2;injection h with h;injection h with h1 h2;injection h2 with h2 h3;subst h1 h2 h3;have i1:σ.er.ins nm (.row true m ts.length (List.map (Ty.bq ts) xs))=some σ1.er:=ak.xk e1;have i2:=Rv m e2;simp only[dT] at i2;simp only[dT,zad,Ty.er,St.imp,i1,i2,SC.er];exact congrArg (fun q=>some (ao.sl nm ts.length 0 q::List.map SC.er l',KF,j8.er)) (zaf (Ty.bq ts))
   ·cases h
  ·cases h
 |⟨.int k,x⟩::cs,σ,σ2,nm,iu,l,h=>by
  simp only[zR] at h;split at h
  ·rename_i l' KF j8 e2;injection h with h;injection h with h1 h2;injection h2 with h2 h3;subst h1 h2 h3;have i2:=Rv m e2;simp only[dT] at i2;simp only[dT,zad,Ty.er,St.imp,i2,SC.er]
  ·cases h
 |⟨.bool,x⟩::cs,σ,σ2,nm,iu,l,h=>by
  simp only[zR] at h;split at h
  ·rename_i l' KF j8 e2;injection h with h;injection h with h1 h2;injection h2 with h2 h3;subst h1 h2 h3;have i2:=Rv m e2;simp only[dT] at i2;simp only[dT,zad,Ty.er,St.imp,i2,SC.er]
  ·cases h
def K.isAgg:K->Bool
 |.agg=>true
 |_=>false
def K.xQ:K->Bool
 |.ptr=>true
 |_=>false
def Er (m:Mode) (σ:ak):Nat->List cP->Option (List (Bool×List SC)×ak)
 |_,[]=>some ([],σ)
 |nm,(k,cs)::ds=>match k.xQ with
  |true=>none
  |false=>match zR m σ nm cs with
   |some (l,iu,σ1)=>match Er m σ1 iu ds with
    |some (ls,σ2)=>some ((k.isAgg,l)::ls,σ2)
    |none=>none
   |none=>none
theorem Rw (m:Mode):∀{ds:List cP} {σ σ1:ak} {nm:Nat} {ls:List (Bool×List SC)},Er m σ nm ds=some (ls,σ1)->
  σ.er.mW m nm (ds.map cP.er)=some (ls.map (fun x=>(x.1,x.2.map SC.er)),σ1.er)
 |[],σ,σ1,nm,ls,h=>by
  simp only[Er] at h;injection h with h;injection h with h1 h2;subst h1 h2;rfl
 |(k,cs)::ds,σ,σ2,nm,ls,h=>by
  simp only[Er] at h;split at h
  ·cases h
  ·rename_i hk;split at h
   ·rename_i l iu σ1 e1;split at h
    ·rename_i Ky j8 e2;injection h with h;injection h with h1 h2;subst h1 h2;have i1:=Rv m e1;have i2:=Rw m e2;have i2':σ1.er.mW m iu (List.map cP.er ds)=some (Ky.map (fun x=>(x.1,x.2.map SC.er)),j8.er):=i2;cases k with
     |ptr=>cases hk
     |one=>simp only[zad,cP.er,St.mW,i1,i2'];rfl
     |agg=>simp only[zad,cP.er,St.mW,i1,i2'];rfl
    ·cases h
   ·cases h
def EA:List (Bool×List SC)->SV
 |[(ag,cs)]=>EH ag cs
 |l=>.cF l
theorem HZ (l:List (Bool×List SC)):(EA l).er=qe (l.map fun x=>(x.1,x.2.map SC.er)):=by
 match l with
 |[]=>rfl
 |[(ag,cs)]=>exact Ib ag cs
 |_::_::_=>rfl
section
variable {ρ:Type}
def Rr (T:List aE) (m:Mode) (d:Option Nat) (f:FuncId) (as:List SV) (σ:ak) (k:ak->Option ρ):Option ρ:=
 match aE.find T f with
 |some fn=>match fn.mu.g0 with
  |0=>LB σ.h as fun ds=>match ry fn.args ds with
   |some x=>(fn.F x).ae fun rs=>match Er m σ (BK d) (lk fn.aH rs) with
    |some (ls,σ1)=>k (σ1.put d (EA ls))
    |none=>none
   |none=>none
  |_=>none
 |none=>none
theorem alq {T:List aE} {m:Mode} {d:Option Nat} {f:FuncId} {as:List SV} {σ:ak} {k:ak->Option ρ} {r:ρ} (h:Rr T m d f as σ k=some r):
  ∃σ1:ak,yI (dr T) m d f (as.map SV.er) σ.er=some σ1.er/\k σ1=some r:=by
 unfold Rr at h;split at h
 ·rename_i fn hf;split at h
  ·rename_i Bb;obtain⟨ds,h1,h2⟩:=aa4 h;split at h2
   ·rename_i x hx;rw[gi] at h2;obtain⟨rs,hF,h2⟩:=h2;split at h2
    ·rename_i ls σ1 hs;refine⟨_,?_,h2⟩;have e:=Rw m hs;rw[yH] at e;have hv:pt σ.er.h (as.map SV.er)=some (ds.map cP.er):=h1;simp only[yI,hv,aE.Ul hf Bb,wC hx,aE.Aq,hF,zab,e,ak.fg,HZ]
    ·cases h2
   ·cases h2
  ·cases h
 ·cases h
def Eo:List cP->Option (List (Bool×List SC))
 |[]=>some []
 |(k,cs)::ds=>match k.xQ with
  |true=>none
  |false=>match Eo ds with
   |some ls=>some ((k.isAgg,cs.map fun x=>SC.v x.1 x.2)::ls)
   |none=>none
theorem Rq:∀{ds:List cP} {ls:List (Bool×List SC)},Eo ds=some ls->mq (ds.map cP.er)=some (ls.map fun x=>(x.1,x.2.map SC.er))
 |[],ls,h=>by simp only[Eo] at h;injection h with h;subst h;rfl
 |(k,cs)::ds,ls,h=>by
  simp only[Eo] at h;split at h
  ·cases h
  ·rename_i hk;split at h
   ·rename_i Ky e;injection h with h;subst h;have i2:=Rq e;have ec:(dT cs).map ao.c=(cs.map fun x=>SC.v x.1 x.2).map SC.er:=by simp[dT,SC.er]
    cases k with
    |ptr=>cases hk
    |one=>simp only[zad,cP.er,mq];rw[show mq (List.map cP.er ds)=_ from i2];simp only;rw[ec];rfl
    |agg=>simp only[zad,cP.er,mq];rw[show mq (List.map cP.er ds)=_ from i2];simp only;rw[ec];rfl
   ·cases h
def aae (T:List aE) (d:Option Nat) (f:FuncId) (as:List SV) (σ:ak) (k:ak->Option ρ):Option ρ:=
 match aE.find T f with
 |some fn=>match fn.mu.g0 with
  |0=>LB σ.h as fun ds=>match ry fn.args ds with
   |some x=>(fn.F x).ae fun rs=>match Eo (lk fn.aH rs) with
    |some ls=>k (σ.put d (EA ls))
    |none=>none
   |none=>none
  |_=>none
 |none=>none
theorem aBF {T:List aE} {d:Option Nat} {f:FuncId} {as:List SV} {σ:ak} {k:ak->Option ρ} {r:ρ} (h:aae T d f as σ k=some r):
  ∃v:SV,FC (dr T) f (as.map SV.er) σ.er.h=some v.er/\k (σ.put d v)=some r:=by
 unfold aae at h;split at h
 ·rename_i fn hf;split at h
  ·rename_i Bb;obtain⟨ds,h1,h2⟩:=aa4 h;split at h2
   ·rename_i x hx;rw[gi] at h2;obtain⟨rs,hF,h2⟩:=h2;split at h2
    ·rename_i ls hs;refine⟨_,?_,h2⟩;have e:=Rq hs;rw[yH] at e;have hv:pt σ.er.h (as.map SV.er)=some (ds.map cP.er):=h1;simp only[FC,hv,aE.Ul hf Bb,wC hx,aE.Aq,hF,zab,e,HZ]
    ·cases h2
   ·cases h2
  ·cases h
 ·cases h
def Ty.xi:Ty->Bool
 |.list ts=>Ty.iG ts
 |_=>true
def abg:Mode->List Ty->Bool
 |.aZ,ts=>Ty.iG ts
 |.live,ts=>ts.all Ty.xi
 |.aV,_=>false
theorem Em (ts:List Ty) (xs:List (Ty.DL ts)) (h:Ty.iG ts=true):jQ (List.map (Ty.bq ts) xs)=true:=by
 simp only[jQ,zaG,zar];rintro e ⟨x,_,rfl⟩;rw[Ty.Ro];exact h
theorem ac2 (t:Ty) (x:t.D) (h:Ty.xi t=true):C.xi (t.er x)=true:=by
 cases t with
 |int k=>rfl
 |bool=>rfl
 |list ts=>exact Em ts x h
theorem ac1:∀(ts:List Ty) (x:Ty.DL ts),ts.all Ty.xi=true->(Ty.bq ts x).all C.xi=true
 |[],_,_=>rfl
 |[t],x,h=>by
  simp only[zaA,za8,za4] at h;simp only[Ty.bq,zaA,za8,za4];exact ac2 t x h
 |t::u::ts,x,h=>by
  simp only[zaA (a:=t),zai] at h;simp only[Ty.bq,zaA (a:=Ty.er t x.1),zai];exact⟨ac2 t x.1 h.1,ac1 (u::ts) x.2 h.2⟩
theorem adR (m:Mode) (ts:List Ty) (xs:List (Ty.DL ts)) (h:abg m ts=true):xm m (List.map (Ty.bq ts) xs)=true:=by
 cases m with
 |aV=>cases h
 |aZ=>exact Em ts xs h
 |live=>
  simp only[xm,zaG,zar];rintro e ⟨x,_,rfl⟩;have:=ac1 ts x h;simpa[zaG] using this
def Mode.WR:Mode->Bool
 |.live=>true
 |_=>false
def Mode.agp:Mode->Bool
 |.aZ=>true
 |_=>false
def aaz (h:Nat->Option SB) (md:Mode) (c:SC) (k:eC->(t:Ty)->t.D->Option ρ):Option ρ:=
 match c with
 |.nil ts=>match ts with
  |[]=>none
  |t::us=>gO md.own (k (.nil (us.length+1)) (.list (t::us)) ([]:List (Ty.DL (t::us))))
 |.sl n sz lo len=>match h n with
  |some (.row _ m ts xs)=>gO (m.own&&((!md.WR||m.WR)&&abg md ts)) (dZ ts.length sz ((bn lo len (af xs)).ae fun _=>k (.row n) (.list ts) xs))
  |_=>none
 |.cJ n kk aY off sz len=>match h n with
  |some (.row _ .live ts xs)=>gO md.agp (dZ ts.length aY ((cA xs kk).ae fun e=>match(Ty.kA ts e)[off]? with
   |some ⟨.list us,ys⟩=>gO (Ty.iG us) (k (.nest n kk off) (.list us) ys)
   |_=>none))
  |_=>none
 |_=>none
theorem aB9 {h:Nat->Option SB} {md:Mode} {c:SC} {k:eC->(t:Ty)->t.D->Option ρ} {r:ρ} (hx:aaz h md c k=some r):
  ∃(it:eC) (t:Ty) (x:t.D),wB (ez h) md c.er=some (it,t.er x)/\k it t x=some r:=by
 unfold aaz at hx;split at hx
 ·split at hx
  ·cases hx
  ·rename_i t us;have hm:=(dq hx).1;replace hx:=(dq hx).2;refine⟨_,.list (t::us),[],?_,hx⟩;have cQ:md≠ .aV:=by rintro rfl;cases hm
   simp[SC.er,wB,Ty.er,cQ]
 ·rename_i n sz lo len;split at hx
  ·rename_i gr m ts xs hn;have hm:=(dq hx).1;replace hx:=(dq hx).2;have cB:=(bW hx).1;replace hx:=(bW hx).2;subst cB;rw[gi] at hx;obtain⟨_,hf,hx⟩:=hx;have Vo:lo=0/\len=af xs:=by
    unfold bn at hf;split at hf
    ·assumption
    ·cases hf
   obtain⟨rfl,rfl⟩:=Vo;simp only[zai] at hm;have cQ:m≠ .aV:=by rintro rfl;cases hm.1
   have y5:md=.live->m=.live:=by
    rintro rfl;have:=hm.2.1;cases m<;>first|rfl|(simp[Mode.WR] at this)
   refine⟨_,.list ts,xs,?_,hx⟩;simp only[SC.er,wB,ez,hn,zab,SB.er,Ty.er];rw[if_pos ⟨cQ,y5,trivial,trivial,(zaf (Ty.bq ts)).symm,adR md ts xs hm.2.2⟩]
  ·cases hx
 ·rename_i n kk aY off sz len;split at hx
  ·rename_i gr ts xs hn;have hm:=(dq hx).1;replace hx:=(dq hx).2;have cB:=(bW hx).1;replace hx:=(bW hx).2;subst cB;rw[gi] at hx;obtain⟨e,he,hx⟩:=hx
   replace he:xs[kk]? =some e:=he
   split at hx
   ·rename_i us ys hd;have hs:=(dq hx).1;replace hx:=(dq hx).2;refine⟨_,.list us,ys,?_,hx⟩;have PU:md=.aZ:=by cases md<;>first|rfl|(simp[Mode.agp] at hm)
    have oe:=T8 hd;simp only[SC.er,wB,ez,hn,zab,SB.er,zae,he,zaI,oe,Ty.er,PU,and_self,if_true];rw[if_pos (Em us ys hs)]
   ·cases hx
  ·cases hx
 ·cases hx
def SC.nm:SC->List Nat
 |.sl n _ _ _=>[n]
 |.cJ n _ _ _ _ _=>[n]
 |_=>[]
theorem SC.ay3 (c:SC):c.er.fJ.toList=c.nm:=by cases c<;>rfl
def HS:List (Option Mode)->List SC->List Nat
 |some _::fs,c::cs=>c.nm++HS fs cs
 |none::fs,_::cs=>HS fs cs
 |_,_=>[]
theorem aaA:∀(fs:List (Option Mode)) (cs:List SC),qJ fs (cs.map SC.er)=HS fs cs
 |some m::fs,c::cs=>by simp only[zad,qJ,HS,SC.ay3,aaA fs cs]
 |none::fs,c::cs=>by simp only[zad,qJ,HS,aaA fs cs]
 |[],cs=>by cases cs<;>rfl
 |some m::fs,[]=>rfl
 |none::fs,[]=>rfl
def B7:bi->List (Bool×List SC)->List Nat
 |s::sig,a::as=>HS s a.2++B7 sig as
 |_,_=>[]
theorem RG:∀(sig:bi) (as:List (Bool×List SC)),nN sig (as.map fun x=>(x.1,x.2.map SC.er))=B7 sig as
 |s::sig,a::as=>by simp only[zad,nN,B7,aaA,RG sig as]
 |[],as=>by cases as<;>rfl
 |s::sig,[]=>rfl
def Lj (h:Nat->Option SB) (ns:List Nat):Nat->Option SB:=fun n=>match ns.contains n with|true=>none|false=>h n
theorem aan (h:Nat->Option SB) (ns:List Nat):ez (Lj h ns)=fV (ez h) ns:=by
 funext n;simp only[ez,Lj,fV];cases hc:ns.contains n<;>simp[hc]
def zT (h h0:Nat->Option SB):List (Option Mode)->List SC->(List TD->List (eC×Mode)->Option ρ)->Option ρ
 |[],cs,k=>EE h0 cs fun l=>k l []
 |none::fs,c::cs,k=>Cb h0 c fun t x=>zT h h0 fs cs fun l its=>k (⟨t,x⟩::l) its
 |some md::fs,c::cs,k=>aaz h md c fun it t x=>zT h h0 fs cs fun l its=>k (⟨t,x⟩::l) ((it,md)::its)
 |_::_,[],_=>none
theorem aay {h h0:Nat->Option SB}:∀{fs:List (Option Mode)} {cs:List SC} {k:List TD->List (eC×Mode)->Option ρ} {r:ρ},zT h h0 fs cs k=some r->
  ∃l its,mY (ez h) (ez h0) fs (cs.map SC.er)=some (dT l,its)/\k l its=some r
 |[],cs,k,r,hx=>by
  simp only[zT] at hx;obtain⟨l,h1,h2⟩:=LC hx;exact⟨l,[],by simp only[mY,h1],h2⟩
 |none::fs,c::cs,k,r,hx=>by
  simp only[zT] at hx;obtain⟨t,x,h1,h2⟩:=H8 hx;obtain⟨l,its,h3,h4⟩:=aay h2;exact⟨⟨t,x⟩::l,its,by simp only[zad,mY,h1,h3,dT],h4⟩
 |some md::fs,c::cs,k,r,hx=>by
  simp only[zT] at hx;obtain⟨it,t,x,h1,h2⟩:=aB9 hx;obtain⟨l,its,h3,h4⟩:=aay h2;exact⟨⟨t,x⟩::l,(it,md)::its,by simp only[zad,mY,h1,h3,dT],h4⟩
 |none::fs,[],k,r,hx=>by simp[zT] at hx
 |some md::fs,[],k,r,hx=>by simp[zT] at hx
def Qg:Bool->K
 |true=>.agg
 |false=>.one
def HT (h h0:Nat->Option SB):bi->List (Bool×List SC)->(List cP->List (eC×Mode)->Option ρ)->Option ρ
 |_,[],k=>k [] []
 |sig,(ag,cs)::as,k=>zT h h0 sig.hd cs fun l its=>HT h h0 sig.tl as fun ds zr=>k ((Qg ag,l)::ds) (its++zr)
theorem RH {h h0:Nat->Option SB}:∀{as:List (Bool×List SC)} {sig:bi} {k:List cP->List (eC×Mode)->Option ρ} {r:ρ},HT h h0 sig as k=some r->
  ∃ds its,o6 (ez h) (ez h0) sig (as.map fun x=>(x.1,x.2.map SC.er))=some (ds.map cP.er,its)/\k ds its=some r
 |[],sig,k,r,hx=>⟨[],[],by simp only[za9,o6],hx⟩
 |(ag,cs)::as,sig,k,r,hx=>by
  simp only[HT] at hx;obtain⟨l,its,h1,h2⟩:=aay hx;obtain⟨ds,zr,h3,h4⟩:=RH h2;refine⟨_,_,?_,h4⟩;simp only[zad,o6,h1,h3,cP.er];cases ag<;>rfl
def Ev:List SV->Option (List (Bool×List SC))
 |[]=>some []
 |v::vs=>match v.cells?,Ev vs with
  |some x,some xs=>some (x::xs)
  |_,_=>none
theorem Rx:∀{as:List SV} {e8:List (Bool×List SC)},Ev as=some e8->tG (as.map SV.er)=some (e8.map fun x=>(x.1,x.2.map SC.er))
 |[],e8,h=>by simp only[Ev] at h;injection h with h;subst h;rfl
 |v::vs,e8,h=>by
  simp only[Ev] at h;split at h
  ·rename_i x xs e1 e2;injection h with h;subst h;obtain⟨b,cs⟩:=x;simp only[zad,tG,SV.pH e1,Rx e2]
  ·cases h
def Rs (ts:List Ty) (e:Ty.DL ts) (off:Nat) (x:TD):Option (Ty.DL ts):=uV ts ((Ty.kA ts e).set off x)
theorem als {ts:List Ty} {e e':Ty.DL ts} {off:Nat} {x:TD} (h:Rs ts e off x=some e'):Ty.bq ts e'=(Ty.bq ts e).set off (x.1.er x.2):=by
 have:=BH h;rw[this,dT,zaJ,<-Ty.uf ts e];rfl
def aaF (σ:ak) (it:eC) (x:TD) (k:ak->Option ρ):Option ρ:=
 match it with
 |.nil _=>k σ
 |.row n=>match x with
  |⟨.list ts,xs⟩=>match σ.h n with
   |some (.row gr m us _)=>dZ us.length ts.length (k (σ.fK n (.row gr m ts xs)))
   |_=>none
  |_=>none
 |.nest n kk off=>match σ.h n with
  |some (.row gr m us xs)=>(cA xs kk).ae fun e=>match Rs us e off x with
   |some e'=>k (σ.fK n (.row gr m us (bo xs kk e')))
   |none=>none
  |_=>none
theorem aCm {σ:ak} {it:eC} {x:TD} {k:ak->Option ρ} {r:ρ} (hx:aaF σ it x k=some r):∃σ1,σ.er.rD it (x.1.er x.2)=some σ1.er/\k σ1=some r:=by
 unfold aaF at hx;split at hx
 ·exact⟨σ,rfl,hx⟩
 ·rename_i n;split at hx
  ·rename_i ts xs;split at hx
   ·rename_i gr m us ys hn;have cB:=(bW hx).1;replace hx:=(bW hx).2;refine⟨_,?_,hx⟩;have cb:σ.er.h n=some (.row gr m us.length (List.map (Ty.bq us) ys)):=by simp[ak.er,ez,hn,SB.er]
    simp only[St.rD,Ty.er,cb,cB,if_true,ak.te,SB.er]
   ·cases hx
  ·cases hx
 ·rename_i n kk off;split at hx
  ·rename_i gr m us xs hn;rw[gi] at hx;obtain⟨e,he,hx⟩:=hx
   replace he:xs[kk]? =some e:=he
   split at hx
   ·rename_i e' hs;refine⟨_,?_,hx⟩;have cb:σ.er.h n=some (.row gr m us.length (List.map (Ty.bq us) xs)):=by simp[ak.er,ez,hn,SB.er]
    simp only[St.rD,cb,zae,he,zab,ak.te,SB.er,bo,zaJ,als hs]
   ·cases hx
  ·cases hx
def Ez (σ:ak):List (eC×Mode)->List TD->(ak->Option ρ)->Option ρ
 |[],[],k=>k σ
 |it::its,x::xs,k=>aaF σ it.1 x fun σ1=>Ez σ1 its xs k
 |_,_,_=>none
theorem aaG:∀{its:List (eC×Mode)} {xs:List TD} {σ:ak} {k:ak->Option ρ} {r:ρ},Ez σ its xs k=some r->∃σ1,σ.er.tM its (dT xs)=some σ1.er/\k σ1=some r
 |[],[],σ,k,r,hx=>⟨σ,rfl,hx⟩
 |it::its,x::xs,σ,k,r,hx=>by
  simp only[Ez] at hx;obtain⟨σ1,h1,h2⟩:=aCm hx;obtain⟨σ2,h3,h4⟩:=aaG h2;refine⟨σ2,?_,h4⟩;simp only[dT] at h3;simp only[dT,zad,St.tM,h1,h3]
 |[],_::_,σ,k,r,hx=>by simp[Ez] at hx
 |_::_,[],σ,k,r,hx=>by simp[Ez] at hx
def KK:List Nat->Bool
 |[]=>true
 |n::l=> !(l.contains n)&&KK l
theorem X0:∀{l:List Nat},KK l=true->l.Nodup
 |[],_=>List.nodup_nil
 |n::l,h=>by
  simp only[KK,zai,Bool.not_eq_true'] at h;rw[List.nodup_cons];refine⟨fun hm=>?_,X0 h.2⟩;have:l.contains n=true:=by simpa using hm
  rw[this] at h;cases h.1
def aaf (T:List aE) (m:Mode) (d:Option Nat) (f:FuncId) (as:List SV) (σ:ak) (k:ak->Option ρ):Option ρ:=
 match aE.find T f with
 |some fn=>match fn.mu.g0 with
  |1=>match Ev as with
   |some e8=>gO (KK (B7 fn.mu e8)) (HT σ.h (Lj σ.h (B7 fn.mu e8)) fn.mu e8 fun ds its=>match ry fn.args ds with
    |some x=>(fn.F x).ae fun y=>Ez σ its (((lk fn.aH y).drop (fn.aH.length - fn.mu.lH)).flatMap (·.2)) fun σ1=>match Er m σ1 (BK d) ((lk fn.aH y).take (fn.aH.length - fn.mu.lH)) with
     |some (ls,σ2)=>k (σ2.put d (EA ls))
     |none=>none
    |none=>none)
   |none=>none
  |_=>none
 |none=>none
theorem HX (k:Nat) (l:List cP):yl k (l.map cP.er)=((l.take k).map cP.er,dT ((l.drop k).flatMap (·.2))):=by
 simp only[yl,<-zaN,<-zaR];congr 1;induction l.drop k with
 |nil=>rfl
 |cons d l ih=>
  simp only[zad,List.flatMap_cons,ih,dT,zbd,cP.er]
theorem aBG {T:List aE} {m:Mode} {d:Option Nat} {f:FuncId} {as:List SV} {σ:ak} {k:ak->Option ρ} {r:ρ} (h:aaf T m d f as σ k=some r):
  ∃σ1:ak,uh (dr T) m d f (as.map SV.er) σ.er=some σ1.er/\k σ1=some r:=by
 unfold aaf at h;split at h
 ·rename_i fn hf;split at h
  ·rename_i Bb;split at h
   ·rename_i e8 hc;have iI:=X0 (dq h).1;replace h:=(dq h).2;obtain⟨ds,its,h1,h2⟩:=RH h;split at h2
    ·rename_i x hx;rw[gi] at h2;obtain⟨y,hF,h2⟩:=h2;obtain⟨σ1,h3,h4⟩:=aaG h2;split at h4
     ·rename_i ls σ2 hs;refine⟨_,?_,h4⟩;have e:=Rw m hs;have hM:fn.MM (d8 fn.args x)=some (((lk fn.aH y).take (fn.aH.length - fn.mu.lH)).map cP.er,dT (((lk fn.aH y).drop (fn.aH.length - fn.mu.lH)).flatMap (·.2))):=by
       unfold aE.MM;rw[aE.Aq,hF];simp only[zab];rw[<-yH,HX]
      have hh:σ.er.h=ez σ.h:=rfl;rw[aan] at h1;simp only[uh,aE.adN hf Bb,Rx hc,RG,if_pos iI,hh,h1,wC hx,hM,h3,e,ak.fg,HZ]
     ·cases h4
    ·cases h2
   ·cases h
  ·cases h
 ·cases h
def B5:List SC->Option (List TD)
 |[]=>some []
 |.v t x::cs=>match B5 cs with
  |some l=>some (⟨t,x⟩::l)
  |none=>none
 |.nil (t::us)::cs=>match B5 cs with
  |some l=>some (⟨.list (t::us),([]:List (Ty.DL (t::us)))⟩::l)
  |none=>none
 |_::_=>none
theorem Lk:∀{cs:List SC} {l:List TD},B5 cs=some l->mV (cs.map SC.er)=some (dT l)
 |[],l,h=>by simp only[B5] at h;injection h with h;subst h;rfl
 |c::cs,l,h=>by
  unfold B5 at h;split at h
  ·rename_i e;cases e
  ·rename_i t x cs' e;injection e with e1 e2;subst e1 e2;split at h
   ·rename_i l' e;injection h with h;subst h;simp only[zad,mV,SC.er,se,Lk e,dT]
   ·cases h
  ·rename_i t us cs' e;injection e with e1 e2;subst e1 e2;split at h
   ·rename_i l' e;injection h with h;subst h;simp[mV,SC.er,se,Lk e,dT,Ty.er]
   ·cases h
  ·cases h
def Rm (h:Nat->Option SB) (n kk off:Nat):Option (List TD):=
 match kk,off with
 |0,0=>match h n with
  |some (.box cs)=>B5 cs
  |_=>none
 |_,_=>none
theorem ajU {h:Nat->Option SB} {n kk sz off:Nat} {l:List TD} (e:Rm h n kk off=some l):pE (ez h) (SV.er (.one (.ptr n kk sz off)))=some (n,dT l):=by
 unfold Rm at e;split at e
 ·split at e
  ·rename_i cs hn;simp[SV.er,SC.er,pE,ez,hn,SB.er,Lk e]
  ·cases e
 ·cases e
def SV.tL:SV->Option (Nat×Nat×Nat)
 |.one (.ptr n kk _ off)=>some (n,kk,off)
 |_=>none
theorem ajn {v:SV} (h:v.tL=none) (hh:Nat->Option aK):pE hh v.er=none:=by
 cases v with
 |one c=>cases c<;>first|rfl|(simp[SV.tL] at h)
 |agg cs=>rfl
 |cF xs=>rfl
theorem ajo {v:SV} {n kk off:Nat} (h:v.tL=some (n,kk,off)):∃sz,v=.one (.ptr n kk sz off):=by
 cases v with
 |one c=>cases c<;>simp[SV.tL] at h;obtain⟨rfl,rfl,rfl⟩:=h;exact⟨_,rfl⟩
 |agg cs=>simp[SV.tL] at h
 |cF xs=>simp[SV.tL] at h
def Lh (σ:ak):List SV->(List cP->List Nat->ak->Option ρ)->Option ρ
 |[],k=>k [] [] σ
 |v::vs,k=>match v.tL with
  |some (n,kk,off)=>match Rm σ.h n kk off with
   |some l=>Lh σ vs fun ds ns σ1=>k ((.ptr,l)::ds) (n::ns) σ1
   |none=>none
  |none=>match v.cells? with
   |some (ag,cs)=>EC σ cs fun l _ σ1=>Lh σ1 vs fun ds ns σ2=>k ((Qg ag,l)::ds) ns σ2
   |none=>none
theorem aab:∀{vs:List SV} {σ:ak} {k:List cP->List Nat->ak->Option ρ} {r:ρ},Lh σ vs k=some r->
  ∃ds ns σ1,σ.er.kf (vs.map SV.er)=some (ds.map cP.er,ns,σ1.er)/\k ds ns σ1=some r
 |[],σ,k,r,h=>⟨[],[],σ,rfl,h⟩
 |v::vs,σ,k,r,h=>by
  simp only[Lh] at h;split at h
  ·rename_i n kk off hv;obtain⟨sz,rfl⟩:=ajo hv;split at h
   ·rename_i l hl;obtain⟨ds,ns,σ1,h1,h2⟩:=aab h;refine⟨_,_,σ1,?_,h2⟩;have:=ajU (sz:=sz) hl;have hh:σ.er.h=ez σ.h:=rfl;simp only[zad,St.kf,hh,this,h1,cP.er]
   ·cases h
  ·rename_i hv;split at h
   ·rename_i ag cs hc;obtain⟨l,o,σ1,h1,h2⟩:=Lz h;obtain⟨ds,ns,σ2,h3,h4⟩:=aab h2;refine⟨_,_,σ2,?_,h4⟩;simp only[zad,St.kf,ajn hv,SV.pH hc,h1,h3,cP.er];cases ag<;>rfl
   ·cases h
def aaE (σ:ak) (ns:List Nat) (out:List TD) (k:ak->Option ρ):Option ρ:=
 match ns,out with
 |[],[]=>k σ
 |[n],out=>match σ.h n with
  |some (.box cs)=>dZ cs.length out.length (k (σ.fK n (.box (out.map fun x=>.v x.1 x.2))))
  |_=>none
 |_,_=>none
theorem R8 (out:List TD):(out.map fun x=>SC.v x.1 x.2).map SC.er=(dT out).map .c:=by simp[dT,SC.er]
theorem aCl {σ:ak} {ns:List Nat} {out:List TD} {k:ak->Option ρ} {r:ρ} (h:aaE σ ns out k=some r):∃σ1,σ.er.u6 ns (dT out)=some σ1.er/\k σ1=some r:=by
 unfold aaE at h;split at h
 ·exact⟨σ,rfl,h⟩
 ·rename_i n;split at h
  ·rename_i cs hn;have he:=(bW h).1;replace h:=(bW h).2;refine⟨_,?_,h⟩;have cb:σ.er.h n=some (.box (cs.map SC.er)):=by simp[ak.er,ez,hn,SB.er]
   simp only[St.u6,cb,zaf];rw[if_pos (by rw[he,dT,zaf]),ak.te,SB.er,R8]
  ·cases h
 ·cases h
def cP.tL:List cP->Option (List TD)
 |[(.ptr,cs)]=>some cs
 |_=>none
theorem aBK {rs:List cP} {cs:List TD} (h:cP.tL rs=some cs):rs=[(.ptr,cs)]:=by
 unfold cP.tL at h;split at h
 ·injection h with h;rw[h]
 ·cases h
def aac (σ:ak) (d:Option Nat) (rs:List cP) (k:ak->Option ρ):Option ρ:=
 match cP.tL rs with
 |some cs=>match d with
  |some q=>match σ.ins q (.box (cs.map fun x=>.v x.1 x.2)) with
   |some σ1=>k (σ1.put d (.one (.ptr q 0 0 0)))
   |none=>none
  |none=>none
 |none=>match Eo rs with
  |some ls=>k (σ.put d (EA ls))
  |none=>none
theorem aBw {σ:ak} {d:Option Nat} {rs:List cP} {k:ak->Option ρ} {r:ρ} (h:aac σ d rs k=some r):∃σ1,ue σ.er d (rs.map cP.er)=some σ1.er/\k σ1=some r:=by
 unfold aac at h;split at h
 ·rename_i cs hp;have:=aBK hp;subst this;split at h
  ·rename_i q;split at h
   ·rename_i σ1 hi;refine⟨_,?_,h⟩;have e:=ak.xk hi;rw[SB.er,R8] at e;simp only[zad,za9,cP.er,ue,e,ak.fg];rfl
   ·cases h
  ·cases h
 ·split at h
  ·rename_i ls hs;refine⟨_,?_,h⟩;have e:=Rq hs;have hb:ue σ.er d (rs.map cP.er)=match mq (rs.map cP.er) with
     |some ls=>some (σ.er.put d (qe ls))
     |none=>none:=by
    unfold ue;split
    ·rename_i cs he;rw[he] at e;simp[mq] at e
    ·rfl
   rw[hb,e,ak.fg,HZ]
  ·cases h
def aad (T:List aE) (d:Option Nat) (f:FuncId) (as:List SV) (σ:ak) (k:ak->Option ρ):Option ρ:=
 match aE.find T f with
 |some fn=>match fn.mu.g0 with
  |2=>Lh σ as fun ds ns σ1=>match ry fn.args ds with
   |some x=>(fn.F x).ae fun y=>aaE σ1 ns (((lk fn.aH y).drop (fn.aH.length - tI fn.args)).flatMap (·.2)) fun σ2=>aac σ2 d ((lk fn.aH y).take (fn.aH.length - tI fn.args)) k
   |none=>none
  |_=>none
 |none=>none
theorem aBE {T:List aE} {d:Option Nat} {f:FuncId} {as:List SV} {σ:ak} {k:ak->Option ρ} {r:ρ} (h:aad T d f as σ k=some r):
  ∃σ1:ak,ug (dr T) d f (as.map SV.er) σ.er=some σ1.er/\k σ1=some r:=by
 unfold aad at h;split at h
 ·rename_i fn hf;split at h
  ·rename_i Bb;obtain⟨ds,ns,σ1,h1,h2⟩:=aab h;split at h2
   ·rename_i x hx;rw[gi] at h2;obtain⟨y,hF,h2⟩:=h2;obtain⟨σ2,h3,h4⟩:=aCl h2;obtain⟨j8,h5,h6⟩:=aBw h4;refine⟨j8,?_,h6⟩;have hM:fn.MV (d8 fn.args x)=some (((lk fn.aH y).take (fn.aH.length - tI fn.args)).map cP.er,dT (((lk fn.aH y).drop (fn.aH.length - tI fn.args)).flatMap (·.2))):=by
     unfold aE.MV;rw[aE.Aq,hF];simp only[zab];rw[<-yH,HX]
    simp only[ug,h1,aE.adO hf Bb,wC hx,hM,h3,h5]
   ·cases h2
  ·cases h
 ·cases h
def aE.tg (k:Nat):List aE->FuncId->Option aE
 |[],_=>none
 |fn::l,f=>match Nat.beq f fn.id&&Nat.beq fn.mu.g0 k with
  |true=>some fn
  |false=>aE.tg k l f
theorem aE.adK:∀{T:List aE} {f:FuncId} {fn:aE},aE.tg 2 T f=some fn->br.n7 (dr T).vs f=some fn.MV
 |[],f,fn,h=>by simp[aE.tg] at h
 |g::l,f,fn,h=>by
  simp only[aE.tg] at h;split at h
  ·rename_i e;injection h with h;subst h;rw[zai] at e;have hm:=zac e.2;simp only[dr,zaj,hm,br.n7];rw[if_pos (zac e.1)]
  ·rename_i e;have ih:br.n7 (dr l).vs f=some fn.MV:=aE.adK h;simp only[dr,zaj] at ih⊢;by_cases hg:g.mu.g0=2
   ·simp only[hg,br.n7];rw[if_neg (fun he=>by rw[he,hg,zas] at e;cases e)];exact ih
   ·split
    ·exact ih
    ·rename_i z hz;split at hz
     ·rename_i h0;exact absurd h0 hg
     ·cases hz
theorem aE.adL:∀{T:List aE} {f:FuncId} {fn:aE},aE.tg 3 T f=some fn->br.vM (dr T).ws f=some (fn.mu.tl,fn.MW)
 |[],f,fn,h=>by simp[aE.tg] at h
 |g::l,f,fn,h=>by
  simp only[aE.tg] at h;split at h
  ·rename_i e;injection h with h;subst h;rw[zai] at e;have hm:=zac e.2;simp only[dr,zaj,hm,br.vM];rw[if_pos (zac e.1)]
  ·rename_i e;have ih:br.vM (dr l).ws f=some (fn.mu.tl,fn.MW):=aE.adL h;simp only[dr,zaj] at ih⊢;by_cases hg:g.mu.g0=3
   ·simp only[hg,br.vM];rw[if_neg (fun he=>by rw[he,hg,zas] at e;cases e)];exact ih
   ·split
    ·exact ih
    ·rename_i z hz;split at hz
     ·rename_i h0;exact absurd h0 hg
     ·cases hz
theorem aE.adM:∀{T:List aE} {f:FuncId} {fn:aE},aE.tg 4 T f=some fn->br.vN (dr T).xs f=some (fn.mu.mI,fn.MX)
 |[],f,fn,h=>by simp[aE.tg] at h
 |g::l,f,fn,h=>by
  simp only[aE.tg] at h;split at h
  ·rename_i e;injection h with h;subst h;rw[zai] at e;have hm:=zac e.2;simp only[dr,zaj,hm,br.vN];rw[if_pos (zac e.1)]
  ·rename_i e;have ih:br.vN (dr l).xs f=some (fn.mu.mI,fn.MX):=aE.adM h;simp only[dr,zaj] at ih⊢;by_cases hg:g.mu.g0=4
   ·simp only[hg,br.vN];rw[if_neg (fun he=>by rw[he,hg,zas] at e;cases e)];exact ih
   ·split
    ·exact ih
    ·rename_i z hz;split at hz
     ·rename_i h0;exact absurd h0 hg
     ·cases hz
def aa5 (T:List cP) (i:Nat):Bool:=match T[i]? with
 |some (.one,[⟨.list [.int .i64],_⟩])=>true
 |_=>false
theorem aCI {ds:List cP} {i:Nat} (h:aa5 ds i=true):∃ys,(ds.map cP.er)[i]? =some (.one,[.list 1 ys]):=by
 unfold aa5 at h;split at h
 ·rename_i x e;exact⟨_,by rw[zae,e];rfl⟩
 ·cases h
def sdI (a:Int):cP:=(.one,[⟨.int .i64,a⟩])
def aai (T:List aE) (m:Mode) (d:Option Nat) (f:FuncId) (as:List SV) (σ:ak) (k:ak->Option ρ):Option ρ:=
 match aE.tg 4 T f with
 |some fn=>match as[fn.mu.mI]? with
  |some (.one (.sl n s lo len))=>match σ.h n with
   |some (.row _ _ ts xs)=>dZ s 1 (dZ ts.length 1 ((cA xs lo).ae fun _=>(bZ xs lo len).ae fun _=>match Ev (as.set fn.mu.mI (.one (.sl n 1 0 (af xs)))) with
    |some e8=>gO (KK (B7 (nc fn.mu.mI) e8)) (HT σ.h (Lj σ.h (B7 (nc fn.mu.mI) e8)) (nc fn.mu.mI) e8 fun ds its=>gO (aa5 ds fn.mu.mI) (match ry fn.args (sdI (aW lo)::sdI (aW (aJ lo len))::ds) with
     |some x=>(fn.F x).ae fun y=>Ez σ its (((lk fn.aH y).drop (fn.aH.length - 1)).flatMap (·.2)) fun σ1=>match Er m σ1 (BK d) ((lk fn.aH y).take (fn.aH.length - 1)) with
      |some (ls,σ2)=>k (σ2.put d (EA ls))
      |none=>none
     |none=>none))
    |none=>none))
   |_=>none
  |_=>none
 |none=>none
theorem aBJ {T:List aE} {m:Mode} {d:Option Nat} {f:FuncId} {as:List SV} {σ:ak} {k:ak->Option ρ} {r:ρ} (h:aai T m d f as σ k=some r):
  ∃σ1:ak,yJ (dr T) m d f (as.map SV.er) σ.er=some σ1.er/\k σ1=some r:=by
 unfold aai at h;split at h
 ·rename_i fn hf;split at h
  ·rename_i n s lo len ha;split at h
   ·rename_i gr mo ts xs f9;have zb:=(bW h).1
    replace h:=(bW h).2
    have ht1:=(bW h).1
    replace h:=(bW h).2
    rw[gi] at h;obtain⟨el,he,h⟩:=h;rw[gi] at h;obtain⟨wl,hw,h⟩:=h;subst zb;have vY:lo<xs.length:=(zag.1 (show xs[lo]? =some el from he)).1
    have jF:lo+len<=xs.length:=by
     unfold bZ at hw;split at hw
     ·rename_i hc;exact hc
     ·cases hw
    split at h
    ·rename_i e8 hc;have iI:=X0 (dq h).1;replace h:=(dq h).2;obtain⟨ds,its,h1,h2⟩:=RH h;have mP:=aCI (dq h2).1;replace h2:=(dq h2).2;obtain⟨ys,xD⟩:=mP;split at h2
     ·rename_i x hx;rw[gi] at h2;obtain⟨y,hF,h2⟩:=h2;obtain⟨σ1,h3,h4⟩:=aaG h2;split at h4
      ·rename_i ls σ2 hs;refine⟨_,?_,h4⟩;have e:=Rw m hs;have hM:fn.MX (d8 fn.args x)=some (((lk fn.aH y).take (fn.aH.length - 1)).map cP.er,dT (((lk fn.aH y).drop (fn.aH.length - 1)).flatMap (·.2))):=by
        unfold aE.MX;rw[aE.Aq,hF];simp only[zab];rw[<-yH,HX]
       have hh:σ.er.h=ez σ.h:=rfl;have cb:σ.er.h n=some (.row gr mo ts.length (List.map (Ty.bq ts) xs)):=by simp[ak.er,ez,f9,SB.er]
       have fw:dI lo::dI (lo+len)::ds.map cP.er=d8 fn.args x:=wC hx;have wa:xM fn.mu.mI lo (lo+len) fn.MX (ds.map cP.er)=some (((lk fn.aH y).take (fn.aH.length - 1)).map cP.er,dT (((lk fn.aH y).drop (fn.aH.length - 1)).flatMap (·.2))):=by
        unfold xM;rw[xD];simp only
        rw[fw,hM]
       have hxr:Ik σ.er.h (.one (.sl n 1 lo len))=some (n,lo,len,xs.length):=by
        unfold Ik;simp only[cb];rw[if_pos ⟨trivial,ht1,by rw[zaf];exact vY,by rw[zaf];exact jF⟩,zaf]
       have yR:(as.map SV.er)[fn.mu.mI]? =some (.one (.sl n 1 lo len)):=by
        rw[zae,ha];rfl
       have xB:(as.map SV.er).set fn.mu.mI (.one (.sl n 1 0 xs.length))=(as.set fn.mu.mI (.one (.sl n 1 0 (af xs)))).map SV.er:=by
        rw[zaJ];rfl
       rw[aan] at h1;unfold yJ;rw[aE.adM hf];simp only[yR,hxr,xB];unfold uh;simp only[br.rS,if_true,Rx hc,RG,if_pos iI,hh,h1,wa,h3,e,ak.fg,HZ]
      ·cases h4
     ·cases h2
    ·cases h
   ·cases h
  ·cases h
 ·cases h
def Lv:List SV->Option (List cP)
 |[]=>some []
 |v::vs=>match v.cells? with
  |some (ag,cs)=>match B5 cs with
   |some l=>match Lv vs with
    |some ds=>some ((Qg ag,l)::ds)
    |none=>none
   |none=>none
  |none=>none
theorem al4:∀{vs:List SV} {ds:List cP},Lv vs=some ds->Ee (vs.map SV.er)=some (ds.map cP.er)
 |[],ds,h=>by simp only[Lv] at h;injection h with h;subst h;rfl
 |v::vs,ds,h=>by
  simp only[Lv] at h;split at h
  ·rename_i ag cs hc;split at h
   ·rename_i l hl;split at h
    ·rename_i yK hd;injection h with h;subst h;simp only[zad,Ee,SV.pH hc,Lk hl,al4 hd,cP.er];cases ag<;>rfl
    ·cases h
   ·cases h
  ·cases h
def aag (T:List aE) (d:Option Nat) (f:FuncId) (as:List SV) (σ:ak) (k:ak->Option ρ):Option ρ:=
 match aE.tg 2 T f with
 |some fn=>match Lv as with
  |some ds=>match ry fn.args ds with
   |some x=>(fn.F x).ae fun y=>match((lk fn.aH y).drop (fn.aH.length - tI fn.args)).flatMap (·.2) with
    |[]=>match Eo ((lk fn.aH y).take (fn.aH.length - tI fn.args)) with
     |some ls=>k (σ.put d (EA ls))
     |none=>none
    |_=>none
   |none=>none
  |none=>none
 |none=>none
theorem aBH {T:List aE} {d:Option Nat} {f:FuncId} {as:List SV} {σ:ak} {k:ak->Option ρ} {r:ρ} (h:aag T d f as σ k=some r):
  ∃v:SV,C2 (dr T) f (as.map SV.er)=some v.er/\k (σ.put d v)=some r:=by
 unfold aag at h;split at h
 ·rename_i fn hf;split at h
  ·rename_i ds hd;split at h
   ·rename_i x hx;rw[gi] at h;obtain⟨y,hF,h⟩:=h;split at h
    ·rename_i ho;split at h
     ·rename_i ls hs;refine⟨_,?_,h⟩;have hM:fn.MV (d8 fn.args x)=some (((lk fn.aH y).take (fn.aH.length - tI fn.args)).map cP.er,[]):=by
       unfold aE.MV;rw[aE.Aq,hF];simp only[zab];rw[<-yH,HX,ho];rfl
      simp only[C2,al4 hd,aE.adK hf,wC hx,hM,Rq hs,HZ]
     ·cases h
    ·cases h
   ·cases h
  ·cases h
 ·cases h
def aah (T:List aE) (d:Option Nat) (f:FuncId) (as:List SV) (σ:ak) (k:ak->Option ρ):Option ρ:=
 match aE.tg 3 T f with
 |some fn=>match fn.mu.g0 with
  |3=>match Ev as with
   |some e8=>match B7 fn.mu.tl e8 with
    |[n]=>HT σ.h (Lj σ.h [n]) fn.mu.tl e8 fun ds its=>match its with
     |[(.row n',_)]=>dZ n' n (match σ.h n with
      |some (.row _ _ ts xs)=>match ry fn.args ds with
       |some x=>(fn.F x).ae fun y=>match lk fn.aH y with
        |[(.one,[⟨.int _,a⟩]),(.one,[⟨.int _,b⟩])]=>(kw a b (af xs)).ae fun p=>k (σ.put d (.one (.sl n ts.length p.1 p.2)))
        |_=>none
       |none=>none
      |_=>none)
     |_=>none
    |_=>none
   |none=>none
  |_=>none
 |none=>none
theorem aBI {T:List aE} {d:Option Nat} {f:FuncId} {as:List SV} {σ:ak} {k:ak->Option ρ} {r:ρ} (h:aah T d f as σ k=some r):
  ∃v:SV,tc (dr T) f (as.map SV.er) σ.er.h=some v.er/\k (σ.put d v)=some r:=by
 unfold aah at h;split at h
 ·rename_i fn hf;split at h
  ·rename_i Bb;split at h
   ·rename_i e8 hc;split at h
    ·rename_i n hn;obtain⟨ds,its,h1,h2⟩:=RH h;split at h2
     ·rename_i n' md;have he:=(bW h2).1;replace h2:=(bW h2).2;subst he;split at h2
      ·rename_i gr mo ts xs f9;split at h2
       ·rename_i x hx;rw[gi] at h2;obtain⟨y,hF,h2⟩:=h2;split at h2
        ·rename_i ka a kb b hy;rw[gi] at h2;obtain⟨p,hs,h2⟩:=h2;refine⟨_,?_,h2⟩;unfold kw at hs;split at hs
         ·rename_i eQ;injection hs with hs;subst hs;have hM:fn.MW (d8 fn.args x)=some (Int.toNat a,Int.toNat (@HSub.hSub Int Int Int instHSub b a)):=by
           unfold aE.MW;rw[aE.Aq,hF];simp only[zab,zaI];rw[<-yH,hy];rfl
          have hh:σ.er.h=ez σ.h:=rfl;have cb:σ.er.h n'=some (.row gr mo ts.length (List.map (Ty.bq ts) xs)):=by simp[ak.er,ez,f9,SB.er]
          rw[aan] at h1;simp only[tc,aE.adL hf,Rx hc,RG,hn,hh,h1,wC hx,hM];rw[hh] at cb;simp only[cb,if_true];rfl
         ·cases hs
        ·cases h2
       ·cases h2
      ·cases h2
     ·cases h2
    ·cases h
   ·cases h
  ·cases h
 ·cases h
def aam (σ:ak) (p:SC) (k:ak->Option ρ):Option ρ:=
 match p with
 |.ptr n _ _ _=>match σ.h n with
  |some (.box cs)=>EC σ cs fun l _ σ1=>k (σ1.fK n (.box (l.map fun x=>.v x.1 x.2)))
  |_=>none
 |_=>none
theorem aBU {σ:ak} {p:SC} {k:ak->Option ρ} {r:ρ} (h:aam σ p k=some r):∃σ1,σ.er.xn p.er=some σ1.er/\k σ1=some r:=by
 unfold aam at h;split at h
 ·rename_i n kk sz off;split at h
  ·rename_i cs hn;obtain⟨l,o,σ1,h1,h2⟩:=Lz h;refine⟨_,?_,h2⟩;have cb:σ.er.h n=some (.box (cs.map SC.er)):=by simp[ak.er,ez,hn,SB.er]
   simp only[SC.er,St.xn,cb,h1];rw[ak.te,SB.er,R8]
  ·cases h
 ·cases h
inductive d7 where
 |mv (x:dD)
 |pick (c x y:dD)
 |alloc (zs:List SC)
 |box (sz:Nat) (x:dD)
 |build (zs:List SC) (parts:List (Nat×Nat×dD))
 |gy (ts:List Ty) (parts:List dD)
 |load (ag:Bool) (sz:Nat) (x:dD)
 |store (sz:Nat) (x v:dD)
 |jZ (x:dD)
 |bin (op:BinOp) (x y:dD)
 |sZ (op:BinOp) (x y:dD)
 |un (op:UnOp) (x:dD)
 |conv (k:IntKind) (x:dD)
 |kv (m:Mode) (ts:List Ty) (by_:Nat) (z:Ty.DL ts) (l c:dD)
 |slice (sz:Nat) (x:dD) (lo hi:Option dD)
 |tail (sz:Nat) (x lo:dD)
 |tF (ag:Bool) (sz:Nat) (x:dD)
 |q8 (off:Nat) (x:dD)
 |qE (sz:Nat) (x i:dD)
 |ext (i:Nat) (x:dD)
 |uv (ag:Bool) (off sz:Nat) (x:dD)
 |tP (f:FuncId) (gu:Bool) (x:dD)
 |len (x:dD)
 |append (fl:Bool) (ts:List Ty) (by_:Nat) (x y:dD)
 |mm (mx:Bool) (x y:dD)
 |call (m:Mode) (f:FuncId) (xs:List dD)
 |qU (f:FuncId) (xs:List dD)
 |copy (x y:dD)
 |nY (t:Ty) (z:t.D) (x:dD)
 |uW (f:FuncId) (xs:List dD)
 |qV (m:Mode) (x:dD) (xs:List dD)
 |g7 (m:Mode) (f:FuncId) (xs:List dD)
 |mn (f:FuncId) (xs:List dD)
 |pF (f:FuncId) (xs:List dD)
 |nX (f:FuncId) (xs:List dD)
 |pG (m:Mode) (f:FuncId) (xs:List dD)
def d7.er:d7->bm
 |.mv x=>.mv x.er
 |.pick c x y=>.pick c.er x.er y.er
 |.alloc zs=>.alloc (zs.map SC.er)
 |.box sz x=>.box sz x.er
 |.build zs ps=>.build (zs.map SC.er) (ps.map fun p=>(p.1,p.2.1,p.2.2.er))
 |.gy ts ps=>.gy ts.length (ps.map dD.er)
 |.load ag sz x=>.load ag sz x.er
 |.tF ag sz x=>.tF ag sz x.er
 |.store sz x v=>.store sz x.er v.er
 |.jZ x=>.jZ x.er
 |.bin op x y=>.bin op x.er y.er
 |.sZ op x y=>.sZ op x.er y.er
 |.un op x=>.un op x.er
 |.conv k x=>.conv k x.er
 |.kv m ts by_ z l c=>.kv m ts.length by_ (Ty.bq ts z) l.er c.er
 |.slice sz x lo hi=>.slice sz x.er (lo.map dD.er) (hi.map dD.er)
 |.tail sz x lo=>.tail sz x.er lo.er
 |.q8 off x=>.q8 off x.er
 |.qE sz x i=>.qE sz x.er i.er
 |.ext i x=>.ext i x.er
 |.uv ag off sz x=>.uv ag off sz x.er
 |.tP f gu x=>.tP f gu x.er
 |.len x=>.len x.er
 |.append fl ts by_ x y=>.append fl ts.length by_ x.er y.er
 |.mm b x y=>.mm b x.er y.er
 |.call m f xs=>.call m f (xs.map dD.er)
 |.qU f xs=>.qU f (xs.map dD.er)
 |.copy x y=>.copy 1 x.er y.er
 |.nY t z x=>.nY (t.er z) x.er
 |.uW f xs=>.uW f (xs.map dD.er)
 |.qV m x xs=>.qV m x.er (xs.map dD.er)
 |.g7 m f xs=>.g7 m f (xs.map dD.er)
 |.mn f xs=>.mn f (xs.map dD.er)
 |.pF f xs=>.pF f (xs.map dD.er)
 |.nX f xs=>.nX f (xs.map dD.er)
 |.pG m f xs=>.pG m f (xs.map dD.er)
theorem xl (σ:ak) (xs:List dD):(xs.map dD.er).map σ.er.ev=(xs.map σ.ev).map SV.er:=by
 simp[ak.ft]
def Ly (ev:dD->SV):List SC->List (Nat×Nat×dD)->Option (List SC)
 |zs,[]=>some zs
 |zs,(off,sz,x)::ps=>match(ev x).cells? with
  |some (_,cs)=>dZ cs.length sz (gO (Nat.ble (off+sz) zs.length) (Ly ev (dM zs off cs) ps))
  |none=>none
theorem ame {σ:ak}:∀{ps:List (Nat×Nat×dD)} {zs cs:List SC},Ly σ.ev zs ps=some cs->
  tS σ.er.ev (zs.map SC.er) (ps.map fun p=>(p.1,p.2.1,p.2.2.er))=some (cs.map SC.er)
 |[],zs,cs,h=>by simp only[Ly] at h;injection h with h;subst h;rfl
 |(off,sz,x)::ps,zs,cs,h=>by
  simp only[Ly] at h;split at h
  ·rename_i b cs1 hc;have cB:=(bW h).1;replace h:=(bW h).2;subst cB;have hb:=(dq h).1;replace h:=(dq h).2;have ih:=ame h;rw[HW] at ih;have jF:=zaP hb;simp only[zad,tS,ak.ft,SV.pH hc,zaf,jF,and_self,if_true,ih]
  ·cases h
def Rn (l:List TD):Bool:=l.all fun x=>x.1.gV
theorem aBx (l:List TD):iG (dT l)=Rn l:=by
 simp[iG,dT,Rn,List.all_map,Function.comp_def,Ty.B2]
def aaS (σ:ak) (n:Nat) (gr:Bool) (m:Mode) (ts:List Ty) (xs:List (Ty.DL ts)) (kk off:Nat) (e:Ty.DL ts) (vs:List SC) (k:ak->Option ρ):Option ρ:=
 match sub (Ty.kA ts e) off vs.length with
 |none=>none
 |some iv=>EC σ vs fun cs o σ1=>match uV ts (dM (Ty.kA ts e) off cs) with
  |none=>none
  |some e'=>match m with
   |.live=>gO (Rn cs&&Rn iv&&(σ1.h n).isSome) (k (σ1.fK n (.row gr .live ts (bo xs kk e'))))
   |.aZ=>gO (σ1.h n).isSome (k (σ1.fK n (.row gr (match o with|true=>.aZ|false=>.aV) ts (bo xs kk e'))))
   |.aV=>gO (σ1.h n).isSome (k (σ1.fK n (.row gr .aV ts (bo xs kk e'))))
theorem ado (h:Nat->Option SB) (n:Nat):(ez h n).isSome=(h n).isSome:=by
 unfold ez;cases h n<;>rfl
theorem aCt {σ:ak} {n:Nat} {gr:Bool} {m:Mode} {ts:List Ty} {xs:List (Ty.DL ts)} {kk off:Nat} {e:Ty.DL ts} {vs:List SC} {k:ak->Option ρ} {r:ρ}
  (h:aaS σ n gr m ts xs kk off e vs k=some r):
  ∃σ1:ak,qM σ.er n gr m ts.length (List.map (Ty.bq ts) xs) kk off (Ty.bq ts e) (vs.map SC.er)=some σ1.er/\k σ1=some r:=by
 unfold aaS at h;split at h
 ·cases h
 ·rename_i iv ho;obtain⟨cs,o,σ1,h1,h2⟩:=Lz h;have hold:sub (Ty.bq ts e) off (vs.map SC.er).length=some (dT iv):=by
   rw[<-Ty.uf];simp only[dT];rw[yo,zaf,ho];rfl
  split at h2
  ·cases h2
  ·rename_i e' he;have Ds:dM (Ty.bq ts e) off (dT cs)=Ty.bq ts e':=by
    rw[BH he,<-Ty.uf];simp only[dT];rw[<-HW]
   have xB:(List.map (Ty.bq ts) xs).set kk (Ty.bq ts e')=List.map (Ty.bq ts) (bo xs kk e'):=by
    show _=List.map (Ty.bq ts) (xs.set kk e');rw[zaJ]
   have Gy:σ1.er.h n=(σ1.h n).map SB.er:=rfl;split at h2
   ·have hb:=(dq h2).1;replace h2:=(dq h2).2;simp only[zai] at hb;refine⟨_,?_,h2⟩;simp only[qM,hold,h1,if_true,aBx,hb.1.1,hb.1.2,Gy,zaW,hb.2,and_self,Ds,xB,ak.te,SB.er]
   ·have hb:=(dq h2).1;replace h2:=(dq h2).2;refine⟨_,?_,h2⟩;cases o<;>simp only[qM,hold,h1,Gy,zaW,hb,Ds,xB,ak.te,SB.er,reduceCtorEq,if_false,if_true,zap,cond_true,cond_false,ite_self]
   ·have hb:=(dq h2).1;replace h2:=(dq h2).2;refine⟨_,?_,h2⟩;cases o<;>simp only[qM,hold,h1,Gy,zaW,hb,Ds,xB,ak.te,SB.er,reduceCtorEq,if_false,if_true,zap,cond_true,cond_false,ite_self]
def AB (us ts:List Ty) (xs:List (Ty.DL us)):Option (List (Ty.DL ts)):=if h:Ty.vG us ts=true then some (Ty.w6 h▸xs) else none
theorem TO {us ts:List Ty} {xs:List (Ty.DL us)} {ys:List (Ty.DL ts)} (h:AB us ts xs=some ys):us.length=ts.length/\List.map (Ty.bq us) xs=List.map (Ty.bq ts) ys/\xs.length=ys.length:=by
 unfold AB at h;split at h
 ·rename_i he;have:=Ty.w6 he;subst this;injection h with h;rw[<-h];exact⟨rfl,rfl,rfl⟩
 ·cases h
def Z9 (σ:ak) (ts:List Ty) (v:SV) (k:List (Ty.DL ts)->Mode->ak->Option ρ):Option ρ:=
 match v with
 |.one (.nil _)=>k [] .aZ σ
 |.one (.sl a s lo len)=>match σ.h a with
  |some (.row true m us xs)=>dZ s ts.length (dZ lo 0 (match AB us ts xs with
   |some ys=>(bn lo len (af ys)).ae fun _=>k ys m (σ.del a)
   |none=>none))
  |_=>none
 |_=>none
theorem UR {lo len l:Nat} {u:Unit} (h:bn lo len l=some u):lo=0/\len=l:=by
 unfold bn at h;split at h
 ·rename_i hc;exact hc
 ·cases h
theorem aBu {σ:ak} {ts:List Ty} {v:SV} {k:List (Ty.DL ts)->Mode->ak->Option ρ} {r:ρ} (h:Z9 σ ts v k=some r):
  ∃(xs:List (Ty.DL ts)) (m:Mode) (σ1:ak),ub σ.er ts.length v.er=some (List.map (Ty.bq ts) xs,m,σ1.er)/\k xs m σ1=some r:=by
 unfold Z9 at h;split at h
 ·exact⟨[],.aZ,σ,rfl,h⟩
 ·rename_i a s lo len;split at h
  ·rename_i m us xs hn;have cB:=(bW h).1;replace h:=(bW h).2;subst cB;have cB:=(bW h).1;replace h:=(bW h).2;subst cB;split at h
   ·rename_i ys hc;obtain⟨c1,c2,c3⟩:=TO hc;rw[gi] at h;obtain⟨_,hf,h⟩:=h;obtain⟨_,hlen⟩:=UR hf
    replace hlen:len=ys.length:=hlen
    refine⟨ys,m,σ.del a,?_,h⟩;have cb:σ.er.h a=some (.row true m ts.length (List.map (Ty.bq ts) ys)):=by simp[ak.er,ez,hn,SB.er,c1,c2]
    subst hlen;simp only[SV.er,SC.er,ub,cb,zaf,and_self,if_true,ak.Pb]
   ·cases h
  ·cases h
 ·cases h
theorem alk (ts:List Ty) (xs:List (Ty.DL ts)) (h:Ty.iG ts=true):jQ (List.map (Ty.bq ts) xs)=true:=by
 simp only[jQ,zaG,zar];rintro _ ⟨e,_,rfl⟩;rw[Ty.Ro];exact h
def aaa (fl:Bool) (σ:ak) (ts:List Ty) (m:Mode) (v:SV) (k:List (Ty.DL ts)->Mode->ak->Option ρ):Option ρ:=
 match v with
 |.one (.nil _)=>k [] m σ
 |.one (.v (.list us) ys)=>match AB us ts ys with
  |some zs=>match fl with
   |true=>gO (Ty.iG ts) (k zs m σ)
   |false=>match m with
    |.live=>none
    |_=>k zs .aV σ
  |none=>none
 |.one (.sl b s lo len)=>match σ.h b with
  |some (.row _ m' us ys)=>dZ s ts.length (match AB us ts ys with
   |some zs=>match fl with
    |true=>gO (Ty.iG ts) ((bZ zs lo len).ae fun ws=>k ws m σ)
    |false=>(bn lo len (af zs)).ae fun _=>match m,m' with
     |.aZ,.aZ=>k zs .aZ (σ.del b)
     |.live,.live=>k zs .live (σ.del b)
     |.aV,.aV=>k zs .aV (σ.del b)
     |.aZ,.aV=>k zs .aV (σ.del b)
     |.aV,.aZ=>k zs .aV (σ.del b)
     |_,_=>none
   |none=>none)
  |_=>none
 |_=>none
theorem aBv {fl:Bool} {σ:ak} {ts:List Ty} {m:Mode} {v:SV} {k:List (Ty.DL ts)->Mode->ak->Option ρ} {r:ρ} (h:aaa fl σ ts m v k=some r):
  ∃(ys:List (Ty.DL ts)) (m2:Mode) (σ1:ak),pB fl σ.er ts.length m v.er=some (List.map (Ty.bq ts) ys,m2,σ1.er)/\k ys m2 σ1=some r:=by
 unfold aaa at h;split at h
 ·exact⟨[],m,σ,rfl,h⟩
 ·rename_i us ys;split at h
  ·rename_i zs hc;obtain⟨e1,e2,e3⟩:=TO hc;have xj:Ty.er (.list us) ys=.list ts.length (List.map (Ty.bq ts) zs):=by rw[<-e1,<-e2];rfl
   split at h
   ·have hs:=(dq h).1;replace h:=(dq h).2;refine⟨zs,m,σ,?_,h⟩;simp only[SV.er,SC.er,xj,pB,if_true,zbe,alk ts zs hs]
   ·split at h
    ·cases h
    ·rename_i hm;refine⟨zs,.aV,σ,?_,h⟩;have cQ:m≠ .live:=fun e=>hm e;simp only[SV.er,SC.er,xj,pB,if_true,Bool.false_and,zap,if_false,if_neg cQ]
  ·cases h
 ·rename_i b s lo len;split at h
  ·rename_i gr m' us ys hn;have cB:=(bW h).1;replace h:=(bW h).2;subst cB;split at h
   ·rename_i zs hc;obtain⟨e1,e2,e3⟩:=TO hc;have cb:σ.er.h b=some (.row gr m' ts.length (List.map (Ty.bq ts) zs)):=by simp[ak.er,ez,hn,SB.er,e1,e2]
    split at h
    ·have hs:=(dq h).1;replace h:=(dq h).2;rw[gi] at h;obtain⟨ws,hw,h⟩:=h;obtain⟨w1,w2⟩:=amR hw;refine⟨ws,m,σ,?_,h⟩;simp only[SV.er,SC.er,pB,cb,zaf,w1,w2,and_self,if_true,zbe,alk ts ws hs]
    ·rw[gi] at h;obtain⟨_,hf,h⟩:=h;obtain⟨rfl,hlen⟩:=UR hf
     replace hlen:len=zs.length:=hlen
     subst hlen;have GA:List.take zs.length (List.map (Ty.bq ts) zs)=List.map (Ty.bq ts) zs:=by
      rw[za0];simp
     cases m<;>cases m'<;>first
      |(cases h;done)
      |exact⟨zs,_,σ.del b,by simp[SV.er,SC.er,pB,cb,ak.Pb],h⟩
   ·cases h
  ·cases h
 ·cases h
def SC.adX:SC->Bool
 |.fn _ _=>false
 |.cD=>false
 |_=>true
def Ew:List SV->Option (List SC)
 |[]=>some []
 |.one c::vs=>match c.adX,Ew vs with
  |true,some cs=>some (c::cs)
  |_,_=>none
 |_::_=>none
theorem alP:∀{vs:List SV} {cs:List SC},Ew vs=some cs->
  (vs.map SV.er).mapM (fun v=>match v with|.one c=>if c.wj=true then none else some c|_=>none)=some (cs.map SC.er)/\(cs.map SC.er).all ao.QU=true
 |[],cs,h=>by simp only[Ew] at h;injection h with h;subst h;exact⟨rfl,rfl⟩
 |.one c::vs,cs,h=>by
  simp only[Ew] at h;split at h
  ·rename_i cs' e1 e2;injection h with h;subst h;obtain⟨i1,i2⟩:=alP e2;have hc:c.er.wj=false/\c.er.QU=true:=by cases c<;>first|exact⟨rfl,rfl⟩|(simp[SC.adX] at e1)
   refine⟨?_,by simp[hc.2];simpa using i2⟩;simp only[zad,List.mapM_cons,SV.er,hc.1];rw[i1];rfl
  ·cases h
 |.agg _::_,cs,h=>by simp[Ew] at h
 |.cF _::_,cs,h=>by simp[Ew] at h
end
end
theorem av0 {α β:Type} (f:α->β) {l:List α} {i:Nat} {e:α} (h:l[i]? =some e):(l.map f)[i]? =some (f e):=by rw[zae,h];rfl
section
variable {ρ:Type}
def Q1:Bool->Mode
 |true=>.aZ
 |false=>.aV
theorem azj (o:Bool):(if o=true then Mode.aZ else .aV)=Q1 o:=by cases o<;>rfl
def QY (σ:ak) (d:Int) (o:Option dD):Option Int:=
 match o with
 |none=>some d
 |some q=>(σ.ev q).fm
theorem QZ {σ:ak} {d l:Int} {o:Option dD} (h:QY σ d o=some l):(match o.map dD.er with|none=>some d|some q=>(σ.er.ev q).fm)=some l:=by
 cases o with
 |none=>exact h
 |some q=>simp only[zab,ak.ft];exact SV.DI h
def yn (gu:Bool) (n:Int) (c:SC):List SC:=match gu with
 |true=>[.v (.int .i64) n,.v (.int .i64) (1:Int),c]
 |false=>[.v (.int .i64) (1:Int),.v (.int .i64) n,c]
theorem aaP (gu:Bool) (n:Int) (c:SC):(yn gu n c).map SC.er=El gu n c.er:=by cases gu<;>rfl
def En:List SC->Option (List TD)
 |[]=>some []
 |.v t x::l=>match t.gV with
  |true=>match En l with
   |some ds=>some (⟨t,x⟩::ds)
   |none=>none
  |false=>none
 |_::_=>none
theorem alp:∀{vs:List SC} {ds:List TD},En vs=some ds->pM (vs.map SC.er)=some (dT ds)
 |[],ds,h=>by simp only[En] at h;injection h with h;subst h;rfl
 |c::vs,ds,h=>by
  cases c with
  |v t x=>
   simp only[En] at h;split at h
   ·rename_i hs;split at h
    ·rename_i l hl;injection h with h;subst h;simp only[zad,SC.er,pM,Ty.B2,hs,if_true,alp hl,dT,zab]
    ·cases h
   ·cases h
  |_=>simp[En] at h
def aaR (us:List Ty) (e:Ty.DL us) (off s i:Nat) (vs:List SC) (k:Ty.DL us->Option ρ):Option ρ:=
 match(Ty.kA us e)[off]? with
 |some ⟨.list ts,ys⟩=>dZ ts.length s (dZ vs.length s (gO (Ty.iG ts) ((cA (α:=Ty.DL ts) ys i).ae fun _=>match En vs with
  |some ds=>match uV ts ds with
   |some el=>match Rs us e off ⟨.list ts,bo (α:=Ty.DL ts) ys i el⟩ with
    |some e'=>k e'
    |none=>none
   |none=>none
  |none=>none)))
 |_=>none
theorem aBT {us ts:List Ty} {xs:List (Ty.DL us)} {kk off i:Nat} {e e':Ty.DL us} {vs:List SC} {ds:List TD} {el y0:Ty.DL ts} (ys:List (Ty.DL ts)) (he:xs[kk]? =some e) (hd:(Ty.kA us e)[off]? =some ⟨.list ts,ys⟩)
  (lP:vs.length=ts.length) (hs:Ty.iG ts=true) (hy:ys[i]? =some y0) (mP:En vs=some ds) (ra:uV ts ds=some el) (Ds:Rs us e off ⟨.list ts,bo ys i el⟩=some e'):
  zQ (List.map (Ty.bq us) xs) kk off ts.length i (vs.map SC.er)=some (List.map (Ty.bq us) (bo xs kk e')):=by
 have oe:(Ty.bq us e)[off]? =some (.list ts.length (List.map (Ty.bq ts) ys)):=T8 hd;have hx:(List.map (Ty.bq us) xs)[kk]? =some (Ty.bq us e):=by rw[zae,he];rfl
 have hi:i<(List.map (Ty.bq ts) ys).length:=by rw[zaf];exact(zag.1 hy).1
 have afL:Ty.bq us e'=(Ty.bq us e).set off (.list ts.length (List.map (Ty.bq ts) (bo ys i el))):=als Ds;unfold zQ;rw[hx,zaI,oe];simp only
 rw[if_pos ⟨trivial,by simpa using lP,hi,Em ts ys hs⟩,alp mP,zaT,hx];simp only[zab,Option.getD_some];unfold bo at afL⊢;rw[zaJ,afL,zaJ,BH ra]
theorem aCs {us:List Ty} {xs:List (Ty.DL us)} {kk:Nat} {e:Ty.DL us} {off s i:Nat} {vs:List SC} {k:Ty.DL us->Option ρ} {r:ρ} (he:xs[kk]? =some e) (h:aaR us e off s i vs k=some r):
  ∃e',zQ (List.map (Ty.bq us) xs) kk off s i (vs.map SC.er)=some (List.map (Ty.bq us) (bo xs kk e'))/\k e'=some r:=by
 unfold aaR at h;split at h
 ·rename_i ts ys hd;have A6:=(bW h).1;replace h:=(bW h).2;have yW:=(bW h).1;replace h:=(bW h).2;have hs:=(dq h).1;replace h:=(dq h).2;rw[gi] at h;obtain⟨y0,hy,h⟩:=h;split at h
  ·rename_i ds mP;split at h
   ·rename_i el ra;split at h
    ·rename_i e' Ds;subst A6;exact⟨e',aBT ys he hd yW hs hy mP ra Ds,h⟩
    ·cases h
   ·cases h
  ·cases h
 ·cases h
def fZ (T:List aE) (d:Option Nat) (op:d7) (σ:ak) (k:ak->Option ρ):Option ρ:=
 match op with
 |.mv x=>k (σ.put d (σ.ev x))
 |.pick c x y=>match σ.ev c with
  |.one (.v .bool b)=>match σ.ev x,σ.ev y with
   |.one (.v t x'),.one (.v u y')=>match Ty.cast u t y' with
    |some z=>k (σ.put d (.one (.v t (aD b x' z))))
    |none=>aD b (k (σ.put d (σ.ev x))) (k (σ.put d (σ.ev y)))
   |_,_=>aD b (k (σ.put d (σ.ev x))) (k (σ.put d (σ.ev y)))
  |_=>none
 |.alloc zs=>match d with
  |some n=>match σ.ins n (.box zs) with
   |some σ1=>k (σ1.put d (.one (.ptr n 0 0 0)))
   |none=>none
  |none=>none
 |.box sz x=>match d,(σ.ev x).cells? with
  |some n,some (_,cs)=>dZ cs.length sz (match σ.ins n (.box cs) with
   |some σ1=>k (σ1.put d (.one (.ptr n 0 0 0)))
   |none=>none)
  |_,_=>none
 |.build zs parts=>match Ly σ.ev zs parts with
  |some cs=>k (σ.put d (.agg cs))
  |none=>none
 |.gy ts parts=>match d with
  |some n=>RT ts σ (parts.map σ.ev) fun es o σ1=>match σ1.ins n (.row true (Q1 o) ts es) with
   |some σ2=>k (σ2.put d (.one (.sl n ts.length 0 es.length)))
   |none=>none
  |none=>none
 |.load ag sz x=>match σ.ev x with
  |.one p=>Ls σ.h p sz fun cs=>k (σ.put d (EH ag cs))
  |_=>none
 |.tF ag sz x=>match σ.ev x with
  |.one p=>aam σ p fun σ1=>Ls σ1.h p sz fun cs=>k (σ1.put d (EH ag cs))
  |_=>none
 |.store sz x v=>match σ.ev x,(σ.ev v).cells? with
  |.one (.ptr n kk aY off),some (_,vs)=>dZ vs.length sz (match σ.h n with
   |some (.box cs)=>dZ kk 0 (gO (Nat.ble (off+sz) cs.length) (k (σ.fK n (.box (dM cs off vs)))))
   |some (.row gr m ts xs)=>dZ aY ts.length ((cA xs kk).ae fun e=>aaS σ n gr m ts xs kk off e vs k)
   |none=>none)
  |.one (.eG n kk aY off s i),some (_,vs)=>dZ vs.length sz (match σ.h n with
   |some (.row gr .live us xs)=>dZ aY us.length ((cA xs kk).ae fun e=>aaR us e off s i vs fun e'=>k (σ.fK n (.row gr .live us (bo xs kk e'))))
   |_=>none)
  |_,_=>none
 |.jZ x=>match σ.ev x with
  |.one (.ptr n kk sz off)=>gO (σ.h n).isSome (k (σ.put d (.one (.ptr n kk sz off))))
  |.one (.dR ts x off)=>k (σ.put d (.one (.dR ts x off)))
  |_=>none
 |.bin op x y=>TH op (σ.ev x) (σ.ev y) fun t z=>k (σ.put d (.one (.v t z)))
 |.sZ op x y=>TG op (σ.ev x) (σ.ev y) fun t z=>k (σ.put d (.one (.v t z)))
 |.un op x=>unS op (σ.ev x) fun t z=>k (σ.put d (.one (.v t z)))
 |.conv kd x=>match σ.ev x with
  |.one (.v (.int _) n)=>k (σ.put d (.one (.v (.int kd) (C0 kd n))))
  |_=>none
 |.kv m ts by_ z l c=>match d,(σ.ev l).fm,(σ.ev c).fm with
  |some n,some a,some b=>(mE a b by_).ae fun len=>match σ.ins n (.row true m ts (dU len z)) with
   |some σ1=>k (σ1.put d (.one (.sl n ts.length 0 len)))
   |none=>none
  |_,_,_=>none
 |.slice sz x lo hi=>
  match σ.ev x,QY σ 0 lo with
  |.one (.sl n s l0 len),some l=>
   match QY σ (aW len) hi with
   |some h=>dZ s sz (gO (σ.h n).isSome ((kw l h len).ae fun p=>k (σ.put d (.one (.sl n s (aJ l0 p.1) p.2)))))
   |none=>none
  |.one (.v (.list ts) xs),some l=>
   match QY σ (aW (af (α:=Ty.DL ts) xs)) hi with
   |some h=>dZ ts.length sz ((kw l h (af (α:=Ty.DL ts) xs)).ae fun p=>k (σ.put d (.one (.v (.list ts) (lZ (α:=Ty.DL ts) xs p.1 p.2)))))
   |none=>none
  |_,_=>none
 |.tail sz x lo=>match d,σ.ev x,(σ.ev lo).fm with
  |some n,.one (.sl a s l0 len),some l=>match σ.h a with
   |some (.row true m ts xs)=>dZ s ts.length (dZ ts.length sz (dZ l0 0 ((bn l0 len (af xs)).ae fun _=>(kw l (aW (af xs)) (af xs)).ae fun p=>
    match(σ.del a).ins n (.row true m ts (lZ xs p.1 p.2)) with
    |some σ1=>k (σ1.put d (.one (.sl n sz 0 p.2)))
    |none=>none)))
   |_=>none
  |_,_,_=>none
 |.q8 off x=>match σ.ev x with
  |.one (.ptr n kk sz o)=>gO (σ.h n).isSome (k (σ.put d (.one (.ptr n kk sz (o+off)))))
  |.one (.dR ts x o)=>k (σ.put d (.one (.dR ts x (o+off))))
  |_=>none
 |.qE sz x i=>match σ.ev x,(σ.ev i).fm with
  |.one (.sl n s lo len),some j=>dZ s sz (gO (σ.h n).isSome ((c7 j len).ae fun q=>k (σ.put d (.one (.ptr n (aJ lo q) s 0)))))
  |.one (.v (.list ts) xs),some j=>dZ ts.length sz ((cW (α:=Ty.DL ts) xs j).ae fun e=>k (σ.put d (.one (.dR ts e 0))))
  |.one (.cJ n kk aY off s len),some j=>Cb σ.h (.cJ n kk aY off s len) fun t x=>match t,x with
   |.list ts,ys=>dZ ts.length sz ((c7 j (af (α:=Ty.DL ts) ys)).ae fun q=>k (σ.put d (.one (.eG n kk aY off sz q))))
   |_,_=>none
  |_,_=>none
 |.ext i x=>match σ.ev x with
  |.cF xs=>match xs[i]? with
   |some (ag,cs)=>k (σ.put d (EH ag cs))
   |none=>none
  |_=>none
 |.uv ag off sz x=>match σ.ev x with
  |.agg cs=>match sub cs off sz with
   |some l=>k (σ.put d (EH ag l))
   |none=>none
  |_=>none
 |.tP f gu x=>match σ.ev x with
  |.one (.sl n sz lo len)=>gO (σ.h n).isSome (k (σ.put d (.agg (yn gu (aW len) (.sl n sz lo len)))))
  |.one (.v (.list ts) xs)=>k (σ.put d (.agg (yn gu (aW (af (α:=Ty.DL ts) xs)) (.v (.list ts) xs))))
  |.one (.nil ts)=>k (σ.put d (.agg (yn gu (0:Int) (.nil ts))))
  |_=>none
 |.len x=>match σ.ev x with
  |.one (.sl n sz lo len)=>gO (σ.h n).isSome (k (σ.put d (.one (.v (.int .i64) (aW len)))))
  |.one (.v (.list ts) xs)=>k (σ.put d (.one (.v (.int .i64) (aW (af (α:=Ty.DL ts) xs)))))
  |.one (.nil ts)=>k (σ.put d (.one (.v (.int .i64) (0:Int))))
  |.one (.cJ n kk aY off sz len)=>Cb σ.h (.cJ n kk aY off sz len) fun t x=>match t,x with
   |.list ts,ys=>k (σ.put d (.one (.v (.int .i64) (aW (af (α:=Ty.DL ts) ys)))))
   |_,_=>none
  |_=>none
 |.append fl ts by_ x y=>match d with
  |none=>none
  |some n=>Z9 σ ts (σ.ev x) fun xs m σ1=>aaa fl σ1 ts m (σ.ev y) fun ys m2 σ2=>
   (kC (aJ (af xs) (af ys)) by_).ae fun _=>match σ2.ins n (.row true m2 ts (d6 xs ys)) with
    |some j8=>k (j8.put d (.one (.sl n ts.length 0 (aJ (af xs) (af ys)))))
    |none=>none
 |.mm mx x y=>match σ.ev x,σ.ev y with
  |.one (.v (.int kd) a),.one (.v (.int kd') b)=>match mx with
   |true=>k (σ.put d (.one (.v (.int kd) (zC a b))))
   |false=>k (σ.put d (.one (.v (.int kd) (iW a b))))
  |_,_=>none
 |.call m f xs=>Rr T m d f (xs.map σ.ev) σ k
 |.qU f xs=>aae T d f (xs.map σ.ev) σ k
 |.copy x y=>match σ.ev x,σ.ev y with
  |.one (.sl n s lo len),.one c=>match σ.h n with
   |some (.row gr m ts xs)=>dZ s 1 (dZ ts.length 1 (gO (m.own&&Ty.iG ts) (Cb σ.h c fun u ys=>match u,ys with
    |.list us,ys=>match Ty.cast (.list us) (.list ts) ys with
     |some zs=>(C1 (α:=Ty.DL ts) xs lo len (List.take (α:=Ty.DL ts) len zs)).ae fun aM=>k ((σ.fK n (.row gr m ts aM)).put d (.one (.v (.int .i64) (aW (Nat.min (af (α:=Ty.DL ts) zs) len)))))
     |none=>none
    |_,_=>none)))
   |_=>none
  |_,_=>none
 |.nY t z x=>match σ.ev x with
  |.one (.sl n s lo len)=>match σ.h n with
   |some (.row gr m ts xs)=>dZ s 1 (gO (m.own&&t.gV) (match uV ts [⟨t,z⟩] with
    |some e=>(C1 (α:=Ty.DL ts) xs lo len (dU len e)).ae fun aM=>k ((σ.fK n (.row gr m ts aM)).put d (.cF []))
    |none=>none))
   |_=>none
  |_=>none
 |.uW f xs=>match Ew (xs.map σ.ev) with
  |some cs=>k (σ.put d (.one (.fn f cs)))
  |none=>none
 |.qV m x xs=>match σ.ev x with
  |.one (.fn f ed)=>Rr T m d f (xs.map σ.ev++ed.map .one) σ k
  |_=>none
 |.g7 m f xs=>aaf T m d f (xs.map σ.ev) σ k
 |.mn f xs=>aad T d f (xs.map σ.ev) σ k
 |.pF f xs=>aah T d f (xs.map σ.ev) σ k
 |.nX f xs=>aag T d f (xs.map σ.ev) σ k
 |.pG m f xs=>aai T m d f (xs.map σ.ev) σ k
theorem Jb {σ:ak} {n:Nat} {b:SB} (h:σ.h n=some b):σ.er.h n=some b.er:=by simp[ak.er,ez,h]
theorem FT {σ:ak} {n:Nat} (h:(σ.h n).isSome=true):(σ.er.h n).isSome=true:=by
 simp only[ak.er,ado,h]
theorem abj (t:Ty) (x:t.D):(SV.one (.v t x)).er=.one (.c (t.er x)):=rfl
theorem acV {ts:List Ty} {xs aM ys:List (Ty.DL ts)} {lo len:Nat} (h:C1 xs lo len ys=some aM):lo+len<=xs.length/\List.map (Ty.bq ts) aM=dM (List.map (Ty.bq ts) xs) lo (List.map (Ty.bq ts) ys):=by
 unfold C1 at h;split at h
 ·rename_i hc;injection h with h;subst h;exact⟨hc,HW (Ty.bq ts) xs ys lo⟩
 ·cases h
theorem Ty.an2 {t u:Ty} {x:t.D} {y:u.D} (h:Ty.cast t u x=some y):t.er x=u.er y:=by
 unfold Ty.cast at h;split at h
 ·rename_i he;have:=Ty.beq_eq he;subst this;injection h with h;rw[<-h]
 ·cases h
theorem alu {T:List aE} {d:Option Nat} {op:d7} {σ:ak} {k:ak->Option ρ} {r:ρ} (h:fZ T d op σ k=some r):
  ∃σ1:ak,exec (dr T) d op.er σ.er=some σ1.er/\k σ1=some r:=by
 cases op with
 |mv x=>exact⟨_,by simp only[d7.er,exec,ak.fg,ak.ft],h⟩
 |pick c x y=>
  simp only[fZ] at h;split at h
  ·rename_i b hc;have dJ:σ.er.ev c.er=.one (.c (.bool b)):=by rw[ak.ft,hc];rfl
   have cN:∀σ1:ak,σ1.er=σ.er.put d (cond b (σ.ev x).er (σ.ev y).er)->exec (dr T) d (d7.er (.pick c x y)) σ.er=some σ1.er:=by
    intro σ1 e;simp only[d7.er,exec,dJ,ak.ft,e];cases b<;>rfl
   have gen:aD b (k (σ.put d (σ.ev x))) (k (σ.put d (σ.ev y)))=some r->∃σ1:ak,exec (dr T) d (d7.er (.pick c x y)) σ.er=some σ1.er/\k σ1=some r:=by
    intro h;cases hb:(b:Bool) with
    |true=>rw[hb] at h;exact⟨_,cN _ (by rw[ak.fg,hb];rfl),h⟩
    |false=>rw[hb] at h;exact⟨_,cN _ (by rw[ak.fg,hb];rfl),h⟩
   split at h
   ·rename_i t x' u y' ex ey;split at h
    ·rename_i z hz;refine⟨_,cN _ ?_,h⟩;rw[ak.fg,ex,ey,abj,abj,abj,Ty.acr hz];cases (b:Bool)<;>rfl
    ·exact gen h
   ·exact gen h
  ·cases h
 |alloc zs=>
  simp only[fZ] at h;split at h
  ·rename_i n;split at h
   ·rename_i σ1 e;have:=ak.xk e;exact⟨_,by simp only[d7.er,exec];rw[show aK.box (zs.map SC.er)=(SB.box zs).er from rfl,this,ak.fg];rfl,h⟩
   ·cases h
  ·cases h
 |box sz x=>
  simp only[fZ] at h;split at h
  ·rename_i n b cs hc;have cB:=(bW h).1;replace h:=(bW h).2;subst cB;split at h
   ·rename_i σ1 e;have:=ak.xk e;refine⟨_,?_,h⟩;simp only[d7.er,exec,ak.ft,SV.pH hc,zaf,if_true];rw[show aK.box (cs.map SC.er)=(SB.box cs).er from rfl,this,ak.fg];rfl
   ·cases h
  ·cases h
 |build zs parts=>
  simp only[fZ] at h;split at h
  ·rename_i cs hc;exact⟨_,by simp only[d7.er,exec,ame hc,ak.fg];rfl,h⟩
  ·cases h
 |gy ts parts=>
  simp only[fZ] at h;split at h
  ·rename_i n;obtain⟨es,o,σ1,h1,h2⟩:=amf h;split at h2
   ·rename_i σ2 e;have i:=ak.xk e;refine⟨_,?_,h2⟩;simp only[d7.er,exec,xl,h1,ak.fg];have:(SB.row true (Q1 o) ts es).er=aK.row true (Q1 o) ts.length (List.map (Ty.bq ts) es):=rfl;rw[azj,<-this,i,zaf];rfl
   ·cases h2
  ·cases h
 |load ag sz x=>
  simp only[fZ] at h;split at h
  ·rename_i p hp;obtain⟨l,h1,h2⟩:=aav h;have cd:σ.er.ev x.er=.one p.er:=by rw[ak.ft,hp];rfl
   have nk:loadAt σ.er.h p.er sz=some (l.map SC.er):=h1;exact⟨_,by simp only[d7.er,exec,cd,nk,ak.fg,Ib],h2⟩
  ·cases h
 |tF ag sz x=>
  simp only[fZ] at h;split at h
  ·rename_i p hp;obtain⟨σ1,h0,h⟩:=aBU h;obtain⟨l,h1,h2⟩:=aav h;have cd:σ.er.ev x.er=.one p.er:=by rw[ak.ft,hp];rfl
   have nk:loadAt σ1.er.h p.er sz=some (l.map SC.er):=h1;exact⟨_,by simp only[d7.er,exec,cd,h0,nk,ak.fg,Ib],h2⟩
  ·cases h
 |store sz x v=>
  simp only[fZ] at h;split at h
  ·rename_i n kk aY off b vs hp hc;have cB:=(bW h).1;replace h:=(bW h).2;subst cB;have cd:σ.er.ev x.er=.one (.ptr n kk aY off):=by rw[ak.ft,hp];rfl
   have dJ:(σ.er.ev v.er).cells?=some (b,vs.map SC.er):=by rw[ak.ft];exact SV.pH hc
   split at h
   ·rename_i cs hn;have cB:=(bW h).1;replace h:=(bW h).2;subst cB;have hb:=(dq h).1;replace h:=(dq h).2;have jF:=zaP hb;refine⟨_,?_,h⟩;simp only[d7.er,exec,cd,dJ,zaf,if_true,Jb hn,SB.er,jF,and_self,ak.te,<-HW]
   ·rename_i gr m ts xs hn;have cB:=(bW h).1;replace h:=(bW h).2;subst cB;rw[gi] at h;obtain⟨e,he,h⟩:=h
    replace he:xs[kk]? =some e:=he
    obtain⟨σ1,s1,s2⟩:=aCt h;refine⟨σ1,?_,s2⟩;have oe:(List.map (Ty.bq ts) xs)[kk]? =some (Ty.bq ts e):=by rw[zae,he];rfl
    simp only[d7.er,exec,cd,dJ,zaf,if_true,Jb hn,SB.er,oe,s1]
   ·cases h
  ·rename_i n kk aY off s i b vs hp hc;have cB:=(bW h).1;replace h:=(bW h).2;subst cB;have cd:σ.er.ev x.er=.one (.eG n kk aY off s i):=by rw[ak.ft,hp];rfl
   have dJ:(σ.er.ev v.er).cells?=some (b,vs.map SC.er):=by rw[ak.ft];exact SV.pH hc
   split at h
   ·rename_i gr us xs hn;have cB:=(bW h).1;replace h:=(bW h).2;subst cB;rw[gi] at h;obtain⟨e,he,h⟩:=h
    replace he:xs[kk]? =some e:=he
    obtain⟨e',s1,s2⟩:=aCs he h;refine⟨_,?_,s2⟩;simp only[d7.er,exec,cd,dJ,zaf,if_true,Jb hn,SB.er,s1,ak.te]
   ·cases h
  ·cases h
 |jZ x=>
  simp only[fZ] at h;split at h
  ·rename_i n kk sz off hp;have hb:=(dq h).1;replace h:=(dq h).2;have cd:σ.er.ev x.er=.one (.ptr n kk sz off):=by rw[ak.ft,hp];rfl
   exact⟨_,by simp only[d7.er,exec,cd,FT hb,if_true,ak.fg];rfl,h⟩
  ·rename_i ts y off hp;have cd:σ.er.ev x.er=.one (.dR (Ty.bq ts y) off):=by rw[ak.ft,hp];rfl
   exact⟨_,by simp only[d7.er,exec,cd,ak.fg];rfl,h⟩
  ·cases h
 |bin op x y=>
  simp only[fZ] at h;obtain⟨t,z,h1,h2⟩:=anU h;exact⟨_,by simp only[d7.er,exec,ak.ft,h1,ak.fg];rfl,h2⟩
 |sZ op x y=>
  simp only[fZ] at h;obtain⟨t,z,h1,h2⟩:=anS h;exact⟨_,by simp only[d7.er,exec,ak.ft,h1,ak.fg];rfl,h2⟩
 |un op x=>
  simp only[fZ] at h;obtain⟨t,z,h1,h2⟩:=aC7 h;exact⟨_,by simp only[d7.er,exec,ak.ft,h1,ak.fg];rfl,h2⟩
 |conv kd x=>
  simp only[fZ] at h;split at h
  ·rename_i k' n hp;have cd:σ.er.ev x.er=.one (.c (.int k' n)):=by rw[ak.ft,hp];rfl
   exact⟨_,by simp only[d7.er,exec,cd,ak.fg];rfl,h⟩
  ·cases h
 |kv m ts by_ z l c=>
  simp only[fZ] at h;split at h
  ·rename_i n a b ha hb;rw[gi] at h;obtain⟨len,hm,h⟩:=h;unfold mE at hm;split at hm
   ·rename_i eQ;injection hm with hm;subst hm;split at h
    ·rename_i σ1 e;have i:=ak.xk e;have yR:(σ.er.ev l.er).fm=some a:=by rw[ak.ft];exact SV.DI ha
     have bX:(σ.er.ev c.er).fm=some b:=by rw[ak.ft];exact SV.DI hb
     refine⟨_,?_,h⟩;have hz:(Ty.bq ts z).length=ts.length:=Ty.I9 ts z;have f9:(SB.row true m ts (dU a.toNat z)).er=aK.row true m ts.length (List.replicate a.toNat (Ty.bq ts z)):=by simp[SB.er,dU,za5]
     have Vd:a<=b/\0<=a/\b.toNat*by_<=fo/\(Ty.bq ts z).length=ts.length:=⟨eQ.1,eQ.2.1,eQ.2.2,hz⟩;simp only[d7.er,exec,yR,bX,if_pos Vd,<-f9,i,ak.fg];rfl
    ·cases h
   ·cases hm
  ·cases h
 |slice sz x lo hi=>
  simp only[fZ] at h;split at h
  ·rename_i n s l0 len l hp el;have cd:σ.er.ev x.er=.one (.sl n s l0 len):=by rw[ak.ft,hp];rfl
   split at h
   ·rename_i hh eh;have cB:=(bW h).1;replace h:=(bW h).2;subst cB;have hb:=(dq h).1;replace h:=(dq h).2;rw[gi] at h;obtain⟨p,hs,h⟩:=h;unfold kw at hs;split at hs
    ·rename_i eQ;injection hs with hs;subst hs;refine⟨_,?_,h⟩;have yU:s=s/\0<=l/\l<=hh/\hh<=len/\(σ.er.h n).isSome=true:=⟨rfl,eQ.1,eQ.2.1,eQ.2.2,FT hb⟩;have e1:=QZ el;have e2:=QZ eh;rw[ak.fg];cases lo with
     |none=>
      simp only[zal,zan] at e1;subst e1;cases hi with
      |none=>
       simp only[zal,zan] at e2;subst e2;simp only[d7.er,exec,cd,zal];exact if_pos ⟨trivial,yU.2⟩
      |some q=>
       simp only[zab] at e2;simp only[d7.er,exec,cd,zal,zab,e2];exact if_pos ⟨trivial,yU.2⟩
     |some q0=>
      simp only[zab] at e1;cases hi with
      |none=>
       simp only[zal,zan] at e2;subst e2;simp only[d7.er,exec,cd,zal,zab,e1];exact if_pos ⟨trivial,yU.2⟩
      |some q=>
       simp only[zab] at e2;simp only[d7.er,exec,cd,zab,e1,e2];exact if_pos ⟨trivial,yU.2⟩
    ·cases hs
   ·cases h
  ·rename_i ts xs l hp el;have cd:σ.er.ev x.er=.one (.c (.list ts.length (List.map (Ty.bq ts) xs))):=by rw[ak.ft,hp];rfl
   split at h
   ·rename_i hh eh;have cB:=(bW h).1;replace h:=(bW h).2;subst cB;rw[gi] at h;obtain⟨p,hs,h⟩:=h;unfold kw at hs;split at hs
    ·rename_i eQ;injection hs with hs;subst hs;refine⟨_,?_,h⟩;have yU:ts.length=ts.length/\0<=l/\l<=hh/\hh<=(List.map (Ty.bq ts) xs).length:=⟨rfl,eQ.1,eQ.2.1,Int.le_trans eQ.2.2 (Int.le_of_eq (congrArg _ (zaf (Ty.bq ts)).symm))⟩;have e1:=QZ el;have e2:(match hi.map dD.er with|none=>some (((List.map (Ty.bq ts) xs).length:Nat):Int)|some q=>(σ.er.ev q).fm)=some hh:=by rw[show(List.map (Ty.bq ts) xs).length=List.length (α:=Ty.DL ts) xs from zaf (Ty.bq ts)];exact QZ eh
     rw[ak.fg];have PU:List.map (Ty.bq ts) (List.take (hh - l).toNat (List.drop (α:=Ty.DL ts) l.toNat xs))=((List.map (Ty.bq ts) xs).drop l.toNat).take (hh - l).toNat:=by
      rw[zaN];exact congrArg (List.take (hh - l).toNat) zaR
     refine Eq.trans ?_ (congrArg (fun q=>some (σ.er.put d (aA.one (.c (.list ts.length q))))) PU.symm);cases lo with
     |none=>
      simp only[zal,zan] at e1;subst e1;cases hi with
      |none=>
       simp only[zal,zan] at e2;subst e2;simp only[d7.er,exec,cd,zal];exact if_pos ⟨trivial,yU.2⟩
      |some q=>
       simp only[zab] at e2;simp only[d7.er,exec,cd,zal,zab,e2];exact if_pos ⟨trivial,yU.2⟩
     |some q0=>
      simp only[zab] at e1;cases hi with
      |none=>
       simp only[zal,zan] at e2;subst e2;simp only[d7.er,exec,cd,zal,zab,e1];exact if_pos ⟨trivial,yU.2⟩
      |some q=>
       simp only[zab] at e2;simp only[d7.er,exec,cd,zab,e1,e2];exact if_pos ⟨trivial,yU.2⟩
    ·cases hs
   ·cases h
  ·cases h
 |tail sz x lo=>
  simp only[fZ] at h;split at h
  ·rename_i n a0 s l0 len l hp hl;have cd:σ.er.ev x.er=.one (.sl a0 s l0 len):=by rw[ak.ft,hp];rfl
   have fv:(σ.er.ev lo.er).fm=some l:=by rw[ak.ft];exact SV.DI hl
   split at h
   ·rename_i m ts xs hn;have cB:=(bW h).1;replace h:=(bW h).2;subst cB;have cB:=(bW h).1;replace h:=(bW h).2;subst cB;have cB:=(bW h).1;replace h:=(bW h).2;subst cB;rw[gi] at h;obtain⟨_,hf,h⟩:=h;obtain⟨_,hlen⟩:=UR hf;rw[gi] at h;obtain⟨p,hs,h⟩:=h;unfold kw at hs;split at hs
    ·rename_i eQ;injection hs with hs;subst hs;simp only at h;split at h
     ·rename_i σ1 e1;refine⟨_,?_,h⟩;have ar5:len=xs.length:=hlen;have afp:0<=l/\l<=(xs.length:Int):=⟨eQ.1,eQ.2.1⟩;have cb:σ.er.h a0=some (.row true m ts.length (List.map (Ty.bq ts) xs)):=by simp[ak.er,ez,hn,SB.er]
      have i1:=ak.xk e1;have e2:(aW (af xs) - l).toNat=xs.length - l.toNat:=by simp only[aW,af];omega
      have e3:lZ xs l.toNat (aW (af xs) - l).toNat=xs.drop l.toNat:=by rw[e2];unfold lZ;rw[za0 (by simp)]
      rw[e3] at i1;simp only[SB.er,ak.Pb,zaR] at i1;simp only[d7.er,exec,cd,fv,cb,zaf,ar5,afp.1,afp.2,and_self,if_true,i1,ak.fg,SV.er,SC.er,e2]
     ·cases h
    ·cases hs
   ·cases h
  ·cases h
 |q8 off x=>
  simp only[fZ] at h;split at h
  ·rename_i n kk sz o hp;have hb:=(dq h).1;replace h:=(dq h).2;have cd:σ.er.ev x.er=.one (.ptr n kk sz o):=by rw[ak.ft,hp];rfl
   exact⟨_,by simp only[d7.er,exec,cd,FT hb,if_true,ak.fg];rfl,h⟩
  ·rename_i ts y o hp;have cd:σ.er.ev x.er=.one (.dR (Ty.bq ts y) o):=by rw[ak.ft,hp];rfl
   exact⟨_,by simp only[d7.er,exec,cd,ak.fg];rfl,h⟩
  ·cases h
 |qE sz x i=>
  simp only[fZ] at h;split at h
  ·rename_i n s lo len j hp hi;have cB:=(bW h).1;replace h:=(bW h).2;subst cB;have hb:=(dq h).1;replace h:=(dq h).2;rw[gi] at h;obtain⟨q,hq,h⟩:=h;unfold c7 at hq;split at hq
   ·rename_i eQ;injection hq with hq;subst hq;have cd:σ.er.ev x.er=.one (.sl n s lo len):=by rw[ak.ft,hp];rfl
    have fA:(σ.er.ev i.er).fm=some j:=by rw[ak.ft];exact SV.DI hi
    refine⟨_,?_,h⟩;have Vd:s=s/\0<=j/\j<len/\(σ.er.h n).isSome=true:=⟨rfl,eQ.1,eQ.2,FT hb⟩;simp only[d7.er,exec,cd,fA,ak.fg];exact if_pos ⟨trivial,Vd.2⟩
   ·cases hq
  ·rename_i ts xs j hp hi;have cB:=(bW h).1;replace h:=(bW h).2;subst cB;rw[gi] at h;obtain⟨e,he,h⟩:=h;unfold cW at he;split at he
   ·rename_i eQ;have cd:σ.er.ev x.er=.one (.c (.list ts.length (List.map (Ty.bq ts) xs))):=by rw[ak.ft,hp];rfl
    have fA:(σ.er.ev i.er).fm=some j:=by rw[ak.ft];exact SV.DI hi
    have oe:(List.map (Ty.bq ts) xs)[j.toNat]? =some (Ty.bq ts e):=av0 (Ty.bq ts) he;refine⟨_,?_,h⟩;simp only[d7.er,exec,cd,fA,eQ,and_self,if_true,oe,ak.fg];rfl
   ·cases he
  ·rename_i n kk aY off s len j hp hi;obtain⟨t,y,h1,h2⟩:=H8 h;have cd:σ.er.ev x.er=.one (.cJ n kk aY off s len):=by rw[ak.ft,hp];rfl
   have fA:(σ.er.ev i.er).fm=some j:=by rw[ak.ft];exact SV.DI hi
   have nk:dH σ.er.h (.cJ n kk aY off s len)=some (t.er y):=h1;split at h2
   ·rename_i ts ys;have cB:=(bW h2).1;replace h2:=(bW h2).2;subst cB;rw[gi] at h2;obtain⟨q,hq,h2⟩:=h2;unfold c7 at hq;split at hq
    ·rename_i eQ;injection hq with hq;subst hq;refine⟨_,?_,h2⟩;simp only[d7.er,exec,cd,fA,nk,Ty.er,ak.fg];exact if_pos ⟨trivial,eQ.1,by rw[show(List.map (Ty.bq ts) ys).length=af (α:=Ty.DL ts) ys from zaf (Ty.bq ts)];exact eQ.2⟩
    ·cases hq
   ·cases h2
  ·cases h
 |ext i x=>
  simp only[fZ] at h;split at h
  ·rename_i xs hp;split at h
   ·rename_i ag cs hg;have cd:σ.er.ev x.er=.cF (xs.map fun x=>(x.1,x.2.map SC.er)):=by rw[ak.ft,hp];rfl
    refine⟨_,?_,h⟩;simp only[d7.er,exec,cd,zae,hg,zab,ak.fg,Ib]
   ·cases h
  ·cases h
 |uv ag off sz x=>
  simp only[fZ] at h;split at h
  ·rename_i cs hp;have cd:σ.er.ev x.er=.agg (cs.map SC.er):=by rw[ak.ft,hp];rfl
   split at h
   ·rename_i l hl;exact⟨_,by simp only[d7.er,exec,cd,yo,hl,zab,ak.fg,Ib],h⟩
   ·cases h
  ·cases h
 |tP f gu x=>
  simp only[fZ] at h;split at h
  ·rename_i n sz lo len hp;have hb:=(dq h).1;replace h:=(dq h).2;have cd:σ.er.ev x.er=.one (.sl n sz lo len):=by rw[ak.ft,hp];rfl
   refine⟨_,?_,h⟩;simp only[d7.er,exec,cd,FT hb,if_true,ak.fg];rw[show(SV.agg (yn gu (aW len) (.sl n sz lo len))).er=.agg ((yn gu (aW len) (.sl n sz lo len)).map SC.er) from rfl,aaP]
   rfl
  ·rename_i ts xs hp;have cd:σ.er.ev x.er=.one (.c (.list ts.length (List.map (α:=Ty.DL ts) (Ty.bq ts) xs))):=by rw[ak.ft,hp];rfl
   refine⟨_,?_,h⟩;simp only[d7.er,exec,cd,ak.fg];rw[show(SV.agg (yn gu (aW (af (α:=Ty.DL ts) xs)) (.v (.list ts) xs))).er=.agg ((yn gu (aW (af (α:=Ty.DL ts) xs)) (.v (.list ts) xs)).map SC.er) from rfl,aaP]
   congr 3;congr 1;exact congrArg Int.ofNat (zaf (as:=(xs:List (Ty.DL ts))) (Ty.bq ts))
  ·rename_i ts hp;have cd:σ.er.ev x.er=.one (.nil ts.length):=by rw[ak.ft,hp];rfl
   refine⟨_,?_,h⟩;simp only[d7.er,exec,cd,ak.fg];rw[show(SV.agg (yn gu (0:Int) (.nil ts))).er=.agg ((yn gu (0:Int) (.nil ts)).map SC.er) from rfl,aaP]
   rfl
  ·cases h
 |len x=>
  simp only[fZ] at h;split at h
  ·rename_i n sz lo len hp;have hb:=(dq h).1;replace h:=(dq h).2;have cd:σ.er.ev x.er=.one (.sl n sz lo len):=by rw[ak.ft,hp];rfl
   exact⟨_,by simp only[d7.er,exec,cd,FT hb,if_true,ak.fg];rfl,h⟩
  ·rename_i ts xs hp;have cd:σ.er.ev x.er=.one (.c (.list ts.length (List.map (Ty.bq ts) xs))):=by rw[ak.ft,hp];rfl
   exact⟨_,by simp only[d7.er,exec,cd,ak.fg];exact congrArg (fun q:Nat=>some (σ.er.put d (aA.one (.c (.int .i64 (q:Int)))))) (zaf (Ty.bq ts)),h⟩
  ·rename_i ts hp;have cd:σ.er.ev x.er=.one (.nil ts.length):=by rw[ak.ft,hp];rfl
   exact⟨_,by simp only[d7.er,exec,cd,ak.fg];rfl,h⟩
  ·rename_i n kk aY off sz len hp;obtain⟨t,y,h1,h2⟩:=H8 h;have cd:σ.er.ev x.er=.one (.cJ n kk aY off sz len):=by rw[ak.ft,hp];rfl
   have nk:dH σ.er.h (.cJ n kk aY off sz len)=some (t.er y):=h1;split at h2
   ·rename_i ts ys;exact⟨_,by simp only[d7.er,exec,cd,nk,Ty.er,ak.fg];exact congrArg (fun q:Nat=>some (σ.er.put d (aA.one (.c (.int .i64 (q:Int)))))) (zaf (Ty.bq ts)),h2⟩
   ·cases h2
  ·cases h
 |append fl ts by_ x y=>
  simp only[fZ] at h;split at h
  ·cases h
  ·rename_i n;obtain⟨xs,m,σ1,h1,h2⟩:=aBu h;obtain⟨ys,m2,σ2,h3,h4⟩:=aBv h2;rw[gi] at h4;obtain⟨_,hf,h4⟩:=h4;unfold kC at hf;split at hf
   ·rename_i hb;split at h4
    ·rename_i j8 e;have i:=ak.xk e;refine⟨_,?_,h4⟩
     replace hb:(xs.length+ys.length)*by_<=fo:=hb
     have f9:(SB.row true m2 ts (d6 xs ys)).er=aK.row true m2 ts.length (List.map (Ty.bq ts) xs++List.map (Ty.bq ts) ys):=by simp[SB.er,d6]
     simp only[d7.er,exec,ak.ft,h1,h3,zaf,hb,if_true,<-f9,i,ak.fg];rfl
    ·cases h4
   ·cases hf
 |mm mx x y=>
  simp only[fZ] at h;split at h
  ·rename_i kd a kd' b ex ey;have ex':σ.er.ev x.er=.one (.c (.int kd a)):=by rw[ak.ft,ex];rfl
   have ey':σ.er.ev y.er=.one (.c (.int kd' b)):=by rw[ak.ft,ey];rfl
   split at h
   ·refine⟨_,?_,h⟩;rw[ak.fg];simp only[d7.er,exec,ex',ey',if_true];by_cases gT:LT.lt (α:=Int) a b
    ·exact(if_pos gT).trans (congrArg (fun q:Int=>some (σ.er.put d (aA.one (.c (.int kd q))))) (if_pos gT:zC a b=b).symm)
    ·exact(if_neg gT).trans (congrArg (fun q:Int=>some (σ.er.put d (aA.one (.c (.int kd q))))) (if_neg gT:zC a b=a).symm)
   ·refine⟨_,?_,h⟩;rw[ak.fg];simp only[d7.er,exec,ex',ey',zap,if_false];by_cases gT:LT.lt (α:=Int) b a
    ·exact(if_pos gT).trans (congrArg (fun q:Int=>some (σ.er.put d (aA.one (.c (.int kd q))))) (if_pos gT:iW a b=b).symm)
    ·exact(if_neg gT).trans (congrArg (fun q:Int=>some (σ.er.put d (aA.one (.c (.int kd q))))) (if_neg gT:iW a b=a).symm)
  ·cases h
 |call m f xs=>
  simp only[fZ] at h;obtain⟨σ1,h1,h2⟩:=alq h;exact⟨σ1,by simp only[d7.er,exec,xl];exact h1,h2⟩
 |copy x y=>
  simp only[fZ] at h;split at h
  ·rename_i n s lo len c hp hq;split at h
   ·rename_i gr m ts xs hn;have cB:=(bW h).1;replace h:=(bW h).2;subst cB;have ht:=(bW h).1;replace h:=(bW h).2;have hb:=(dq h).1;replace h:=(dq h).2;simp only[zai] at hb;obtain⟨u,ys,h1,h2⟩:=H8 h;split at h2
    ·rename_i us ys;split at h2
     ·rename_i zs hz;rw[gi] at h2;obtain⟨aM,hc,h2⟩:=h2;refine⟨_,?_,h2⟩;have cd:σ.er.ev x.er=.one (.sl n 1 lo len):=by rw[ak.ft,hp];rfl
      have gz:σ.er.ev y.er=.one c.er:=by rw[ak.ft,hq];rfl
      have Du:Ty.er (.list us) ys=Ty.er (.list ts) zs:=by
       have:=Ty.an2 hz;exact this
      have nk:dH σ.er.h c.er=some (.list ts.length (List.map (Ty.bq ts) zs)):=by
       have:dH σ.er.h c.er=some (Ty.er (.list us) ys):=h1;rw[this,Du];rfl
      obtain⟨c1,c2⟩:=acV hc;have lM:m≠ .aV:=by rintro rfl;exact absurd hb.1 (by simp[Mode.own])
      simp only[d7.er,exec,cd,gz,Jb hn,SB.er,nk];rw[if_pos ⟨trivial,trivial,ht,ht,lM,Em ts xs hb.2,Em ts zs hb.2,by rw[zaf];exact c1⟩];rw[ak.fg,ak.te];simp only[SB.er,c2,ht];rw[show List.map (Ty.bq ts) (List.take (α:=Ty.DL ts) len zs)=List.take len (List.map (Ty.bq ts) zs) from zaN,show(List.map (Ty.bq ts) zs).length=af (α:=Ty.DL ts) zs from zaf _]
      rfl
     ·cases h2
    ·cases h2
   ·cases h
  ·cases h
 |nY t z x=>
  simp only[fZ] at h;split at h
  ·rename_i n s lo len hp;split at h
   ·rename_i gr m ts xs hn;have cB:=(bW h).1;replace h:=(bW h).2;subst cB;have hb:=(dq h).1;replace h:=(dq h).2;simp only[zai] at hb;split at h
    ·rename_i e he;rw[gi] at h;obtain⟨aM,hc,h⟩:=h;refine⟨_,?_,h⟩;have cd:σ.er.ev x.er=.one (.sl n 1 lo len):=by rw[ak.ft,hp];rfl
     have ra:Ty.bq ts e=[t.er z]:=BH he;have hlen:ts.length=1:=by
      have:=congrArg List.length ra;rw[Ty.I9] at this;exact this
     have xA:Ty.iG ts=true:=by
      have:=Ty.Ro ts e;rw[ra] at this;simp only[Am.iG,zaA,za8,za4,Ty.B2,hb.2] at this;exact this.symm
     obtain⟨c1,c2⟩:=acV hc;have lM:m≠ .aV:=by rintro rfl;exact absurd hb.1 (by simp[Mode.own])
     simp only[d7.er,exec,cd,Jb hn,SB.er];rw[if_pos ⟨trivial,hlen,by rw[Ty.B2];exact hb.2,lM,Em ts xs xA,by rw[zaf];exact c1⟩];rw[ak.fg,ak.te];simp only[SB.er,c2,hlen,dU,za5,ra];rfl
    ·cases h
   ·cases h
  ·cases h
 |qU f xs=>
  simp only[fZ] at h;obtain⟨v,h1,h2⟩:=aBF h;refine⟨_,?_,h2⟩;simp only[d7.er,exec,xl];rw[h1];simp only[ak.fg]
 |uW f xs=>
  simp only[fZ] at h;split at h
  ·rename_i cs hc;obtain⟨h1,h2⟩:=alP hc;refine⟨_,?_,h⟩;simp only[d7.er,exec,xl];split
   ·rename_i cs' e;have e2:some cs'=some (cs.map SC.er):=e.symm.trans h1;injection e2 with e2;subst e2;rw[if_pos h2,ak.fg];simp only[SV.er,SC.er,SC.Jc]
   ·rename_i e;have e2:none=some (cs.map SC.er):=e.symm.trans h1;cases e2
  ·cases h
 |g7 m f xs=>
  simp only[fZ] at h;obtain⟨σ1,h1,h2⟩:=aBG h;exact⟨σ1,by simp only[d7.er,exec,xl];exact h1,h2⟩
 |mn f xs=>
  simp only[fZ] at h;obtain⟨σ1,h1,h2⟩:=aBE h;exact⟨σ1,by simp only[d7.er,exec,xl];exact h1,h2⟩
 |nX f xs=>
  simp only[fZ] at h;obtain⟨v,h1,h2⟩:=aBH h;exact⟨σ.put d v,by simp only[d7.er,exec,xl,h1,ak.fg],h2⟩
 |pG m f xs=>
  simp only[fZ] at h;obtain⟨σ1,h1,h2⟩:=aBJ h;exact⟨σ1,by simp only[d7.er,exec,xl];exact h1,h2⟩
 |pF f xs=>
  simp only[fZ] at h;obtain⟨v,h1,h2⟩:=aBI h;exact⟨σ.put d v,by simp only[d7.er,exec,xl,h1,ak.fg],h2⟩
 |qV m x xs=>
  simp only[fZ] at h;split at h
  ·rename_i f ed hp;have cd:σ.er.ev x.er=.one (.fn f (ed.map SC.er)):=by rw[ak.ft,hp];simp only[SV.er,SC.er,SC.Jc]
   obtain⟨σ1,h1,h2⟩:=alq h;refine⟨σ1,?_,h2⟩;simp only[d7.er,exec,cd,xl];rw[zbd] at h1;simp only[zav] at h1⊢;exact h1
  ·cases h
structure eD where
 dst:Option Nat
 op:d7
 guard:Option (Nat×Bool)
def eD.er (o:eD):cZ:=⟨o.dst,o.op.er,o.guard⟩
def ak.lit (σ:ak) (n:Nat) (b:Bool):ak:={σ with env:=aX σ.env n (.one (.v .bool b))}
theorem ak.Ja {σ:ak} {n:Nat} {b:Bool} (h:σ.env n=.one (.v .bool b)):(σ.lit n b).er=σ.er:=by
 have:aX σ.env n (.one (.v .bool b))=σ.env:=by
  funext s;simp only[ma];split
  ·rename_i hs;subst hs;exact h.symm
  ·rfl
 simp only[ak.lit,this]
def vi (T:List aE):List eD->ak->(ak->Option ρ)->Option ρ
 |[],σ,k=>k σ
 |o::os,σ,k=>match o.guard with
  |none=>fZ T o.dst o.op σ fun σ1=>vi T os σ1 k
  |some (s,oK)=>match σ.env s with
   |.one (.v .bool b)=>aD b
    (match oK with
     |true=>fZ T o.dst o.op (σ.lit s true) fun σ1=>vi T os σ1 k
     |false=>vi T os ((σ.lit s true).put o.dst (.cF [])) k)
    (match oK with
     |true=>vi T os ((σ.lit s false).put o.dst (.cF [])) k
     |false=>fZ T o.dst o.op (σ.lit s false) fun σ1=>vi T os σ1 k)
   |.cF []=>vi T os (σ.put o.dst (.cF [])) k
   |_=>none
theorem aal {T:List aE}:∀{os:List eD} {σ:ak} {k:ak->Option ρ} {r:ρ},vi T os σ k=some r->
  ∃σ1:ak,ni (dr T) (os.map eD.er) σ.er=some σ1.er/\k σ1=some r
 |[],σ,k,r,h=>⟨σ,rfl,h⟩
 |o::os,σ,k,r,h=>by
  obtain⟨d,op,g⟩:=o;have run:∀nf:ak,nf.er=σ.er->gv (dr T) (eD.er ⟨d,op,g⟩) σ.er=exec (dr T) d op.er σ.er->fZ T d op nf (fun σ1=>vi T os σ1 k)=some r->
    ∃σ1:ak,ni (dr T) ((⟨d,op,g⟩::os).map eD.er) σ.er=some σ1.er/\k σ1=some r:=by
   intro nf h0 he hs;obtain⟨σ1,h1,h2⟩:=alu hs;obtain⟨σ2,h3,h4⟩:=aal h2;rw[h0] at h1;exact⟨σ2,by simp only[zad,ni,he,h1,h3],h4⟩
  have Eu:∀nf:ak,nf.er=σ.er->gv (dr T) (eD.er ⟨d,op,g⟩) σ.er=some (σ.er.put d (.cF []))->vi T os (nf.put d (.cF [])) k=some r->
    ∃σ1:ak,ni (dr T) ((⟨d,op,g⟩::os).map eD.er) σ.er=some σ1.er/\k σ1=some r:=by
   intro nf h0 he hs;obtain⟨σ2,h3,h4⟩:=aal hs;rw[ak.fg,h0] at h3;exact⟨σ2,by simp only[zad,ni,he];exact h3,h4⟩
  cases g with
  |none=>exact run σ rfl rfl h
  |some g=>
   obtain⟨s,oK⟩:=g;simp only[vi] at h;split at h
   ·rename_i b hs;have oV:σ.er.env s=.one (.c (.bool b)):=by show(σ.env s).er=_;rw[hs];rfl
    cases hb:(b:Bool) with
    |true=>
     have h0:(σ.lit s true).er=σ.er:=ak.Ja (by rw[hs,hb]);rw[hb] at h;simp only[FK] at h;cases oK with
     |true=>exact run _ h0 (by simp[gv,eD.er,oV,hb]) h
     |false=>exact Eu _ h0 (by simp[gv,eD.er,oV,hb]) h
    |false=>
     have h0:(σ.lit s false).er=σ.er:=ak.Ja (by rw[hs,hb]);rw[hb] at h;simp only[CU] at h;cases oK with
     |true=>exact Eu _ h0 (by simp[gv,eD.er,oV,hb]) h
     |false=>exact run _ h0 (by simp[gv,eD.er,oV,hb]) h
   ·rename_i hs;have oV:σ.er.env s=.cF []:=by show(σ.env s).er=_;rw[hs];rfl
    exact Eu σ rfl (by simp[gv,eD.er,oV]) h
   ·cases h
def vj (T:List aE) (ps:List (Nat×Nat)):List eD->List (Option FP)->ak->(ak->Option ρ)->Option ρ
 |[],eE,σ,k=>gO (zF ps eE) (k σ)
 |o::os,eE,σ,k=>match o.guard with
  |none=>fZ T o.dst o.op σ fun σ1=>vj T ps os (eE++[o.er.fp σ.er]) σ1 k
  |some (s,oK)=>match σ.env s with
   |.one (.v .bool b)=>aD b
    (match oK with
     |true=>fZ T o.dst o.op (σ.lit s true) fun σ1=>vj T ps os (eE++[o.er.fp (σ.lit s true).er]) σ1 k
     |false=>vj T ps os (eE++[o.er.fp (σ.lit s true).er]) ((σ.lit s true).put o.dst (.cF [])) k)
    (match oK with
     |true=>vj T ps os (eE++[o.er.fp (σ.lit s false).er]) ((σ.lit s false).put o.dst (.cF [])) k
     |false=>fZ T o.dst o.op (σ.lit s false) fun σ1=>vj T ps os (eE++[o.er.fp (σ.lit s false).er]) σ1 k)
   |.cF []=>vj T ps os (eE++[o.er.fp σ.er]) (σ.put o.dst (.cF [])) k
   |_=>none
theorem aak {T:List aE} {ps:List (Nat×Nat)}:∀{os:List eD} {eE:List (Option FP)} {σ:ak} {k:ak->Option ρ} {r:ρ},vj T ps os eE σ k=some r->
  ∃(σ1:ak) (fs:List (Option FP)),pP (dr T) (os.map eD.er) eE σ.er=some (fs,σ1.er)/\zF ps fs=true/\k σ1=some r
 |[],eE,σ,k,r,h=>⟨σ,eE,rfl,(dq h).1,(dq h).2⟩
 |o::os,eE,σ,k,r,h=>by
  obtain⟨d,op,g⟩:=o;have run:∀nf:ak,nf.er=σ.er->gv (dr T) (eD.er ⟨d,op,g⟩) σ.er=exec (dr T) d op.er σ.er->fZ T d op nf (fun σ1=>vj T ps os (eE++[(eD.er ⟨d,op,g⟩).fp nf.er]) σ1 k)=some r->
    ∃(σ1:ak) (fs:List (Option FP)),pP (dr T) ((⟨d,op,g⟩::os).map eD.er) eE σ.er=some (fs,σ1.er)/\zF ps fs=true/\k σ1=some r:=by
   intro nf h0 he hs;obtain⟨σ1,h1,h2⟩:=alu hs;obtain⟨σ2,fs,h3,h4⟩:=aak h2;rw[h0] at h1 h3;exact⟨σ2,fs,by simp only[zad,pP,he,h1,h3],h4⟩
  have Eu:∀nf:ak,nf.er=σ.er->gv (dr T) (eD.er ⟨d,op,g⟩) σ.er=some (σ.er.put d (.cF []))->vj T ps os (eE++[(eD.er ⟨d,op,g⟩).fp nf.er]) (nf.put d (.cF [])) k=some r->
    ∃(σ1:ak) (fs:List (Option FP)),pP (dr T) ((⟨d,op,g⟩::os).map eD.er) eE σ.er=some (fs,σ1.er)/\zF ps fs=true/\k σ1=some r:=by
   intro nf h0 he hs;obtain⟨σ2,fs,h3,h4⟩:=aak hs;rw[ak.fg,h0] at h3;exact⟨σ2,fs,by simp only[zad,pP,he];exact h3,h4⟩
  cases g with
  |none=>exact run σ rfl rfl h
  |some g=>
   obtain⟨s,oK⟩:=g;simp only[vj] at h;split at h
   ·rename_i b hs;have oV:σ.er.env s=.one (.c (.bool b)):=by show(σ.env s).er=_;rw[hs];rfl
    cases hb:(b:Bool) with
    |true=>
     have h0:(σ.lit s true).er=σ.er:=ak.Ja (by rw[hs,hb]);rw[hb] at h;simp only[FK] at h;cases oK with
     |true=>exact run _ h0 (by simp[gv,eD.er,oV,hb]) h
     |false=>exact Eu _ h0 (by simp[gv,eD.er,oV,hb]) h
    |false=>
     have h0:(σ.lit s false).er=σ.er:=ak.Ja (by rw[hs,hb]);rw[hb] at h;simp only[CU] at h;cases oK with
     |true=>exact Eu _ h0 (by simp[gv,eD.er,oV,hb]) h
     |false=>exact run _ h0 (by simp[gv,eD.er,oV,hb]) h
   ·rename_i hs;have oV:σ.er.env s=.cF []:=by show(σ.env s).er=_;rw[hs];rfl
    exact Eu σ rfl (by simp[gv,eD.er,oV]) h
   ·cases h
end
inductive LT where
 |unit
 |ty (t:Ty)
 |dl (ts:List Ty)
 |nat
 |pair (a b:LT)
def LT.D:LT->Type
 |.unit=>Unit
 |.ty t=>t.D
 |.dl ts=>Ty.DL ts
 |.nat=>Nat
 |.pair a b=>a.D×b.D
def LT.HU (a:LT):LT->LT
 |.unit=>a
 |.ty t=>.pair a (.ty t)
 |.dl ts=>.pair a (.dl ts)
 |.nat=>.pair a .nat
 |.pair x y=>.pair a (.pair x y)
def LT.sp:LT->LT->LT
 |.unit,b=>b
 |.ty t,b=>LT.HU (.ty t) b
 |.dl ts,b=>LT.HU (.dl ts) b
 |.nat,b=>LT.HU .nat b
 |.pair x y,b=>LT.HU (.pair x y) b
def LT.Lu (a:LT):(b:LT)->(LT.HU a b).D->a.D×b.D
 |.unit,x=>(x,())
 |.ty _,x=>x
 |.dl _,x=>x
 |.nat,x=>x
 |.pair _ _,x=>x
def LT.yk:(a b:LT)->(LT.sp a b).D->a.D×b.D
 |.unit,b,x=>((),x)
 |.ty t,b,x=>LT.Lu (.ty t) b x
 |.dl ts,b,x=>LT.Lu (.dl ts) b x
 |.nat,b,x=>LT.Lu .nat b x
 |.pair x y,b,z=>LT.Lu (.pair x y) b z
def LT.Lt (a:LT):(b:LT)->a.D->b.D->(LT.HU a b).D
 |.unit,x,_=>x
 |.ty _,x,y=>(x,y)
 |.dl _,x,y=>(x,y)
 |.nat,x,y=>(x,y)
 |.pair _ _,x,y=>(x,y)
def LT.HV:(a b:LT)->a.D->b.D->(LT.sp a b).D
 |.unit,b,_,y=>y
 |.ty t,b,x,y=>LT.Lt (.ty t) b x y
 |.dl ts,b,x,y=>LT.Lt (.dl ts) b x y
 |.nat,b,x,y=>LT.Lt .nat b x y
 |.pair u v,b,x,y=>LT.Lt (.pair u v) b x y
theorem LT.aCj (a b:LT) (x:a.D) (y:b.D):LT.Lu a b (LT.Lt a b x y)=(x,y):=by cases b<;>rfl
theorem LT.al1 (a b:LT) (x:a.D) (y:b.D):LT.yk a b (LT.HV a b x y)=(x,y):=by
 cases a with
 |unit=>rfl
 |_=>exact LT.aCj _ b x y
section
variable {α β:Type} {ρ:Type} {L:α->LT}
def LL (L:α->LT):List α->LT
 |[]=>.unit
 |a::l=>LT.sp (L a) (LL L l)
def tW (un:(a:α)->(L a).D->β):(l:List α)->(LL L l).D->List β
 |[],_=>[]
 |a::l,x=>un a (LT.yk (L a) (LL L l) x).1::tW un l (LT.yk (L a) (LL L l) x).2
def uu (flat:(a:α)->β->((L a).D->Option ρ)->Option ρ):(l:List α)->List β->((LL L l).D->Option ρ)->Option ρ
 |[],[],k=>k ()
 |a::l,b::bs,k=>flat a b fun x=>uu flat l bs fun y=>k (LT.HV (L a) (LL L l) x y)
 |_,_,_=>none
theorem AO {flat:(a:α)->β->((L a).D->Option ρ)->Option ρ} {un:(a:α)->(L a).D->β}
  (hf:∀a b k r,flat a b k=some r->∃x,b=un a x/\k x=some r):∀{l:List α} {bs:List β} {k:(LL L l).D->Option ρ} {r:ρ},uu flat l bs k=some r->
  ∃x,bs=tW un l x/\k x=some r
 |[],[],k,r,h=>⟨(),rfl,h⟩
 |a::l,b::bs,k,r,h=>by
  simp only[uu] at h;obtain⟨x,rfl,h2⟩:=hf _ _ _ _ h;obtain⟨y,rfl,h4⟩:=AO hf h2;exact⟨LT.HV (L a) (LL L l) x y,by simp only[tW,LT.al1],h4⟩
 |[],_::_,k,r,h=>by simp[uu] at h
 |_::_,[],k,r,h=>by simp[uu] at h
end
inductive kV where
 |v (t:Ty)
 |nil (ts:List Ty)
 |KV (n off:Nat)
 |ptr (n sz off:Nat)
 |dR (ts:List Ty) (off:Nat)
 |full (n sz:Nat)
 |sl (n sz:Nat)
 |cJ (n aY off sz:Nat)
 |cD
inductive fQ where
 |c (s:kV)
 |fn (f:FuncId) (ed:List kV)
inductive kc where
 |one (c:fQ)
 |agg (cs:List fQ)
 |cF (xs:List (Bool×List fQ))
inductive ie where
 |box (cs:List fQ)
 |row (gr:Bool) (m:Mode) (ts:List Ty)
structure mK where
 env:List (Nat×kc)
 heap:List (Nat×ie)
abbrev mK.ke (sh:mK):List Nat:=sh.env.map (·.1)
def kV.L:kV->LT
 |.v t=>.ty t
 |.nil _=>.unit
 |.KV _ _=>.unit
 |.ptr _ _ _=>.nat
 |.dR ts _=>.dl ts
 |.full _ _=>.unit
 |.sl _ _=>.pair .nat .nat
 |.cJ _ _ _ _=>.pair .nat .nat
 |.cD=>.unit
def kV.un (ln:Nat->Nat):(s:kV)->s.L.D->SC
 |.v t,x=>.v t x
 |.nil ts,_=>.nil ts
 |.KV n off,_=>.ptr n 0 0 off
 |.ptr n sz off,k=>.ptr n k sz off
 |.dR ts off,x=>.dR ts x off
 |.full n sz,_=>.sl n sz 0 (ln n)
 |.sl n sz,x=>.sl n sz x.1 x.2
 |.cJ n aY off sz,x=>.cJ n x.1 aY off sz x.2
 |.cD,_=>.cD
section
variable {ρ:Type}
def kV.flat (ln:Nat->Nat) (s:kV) (c:SC) (k:s.L.D->Option ρ):Option ρ:=
 match s,c with
 |.v t,.v u x=>match Ty.cast u t x with
  |some y=>k y
  |none=>none
 |.nil ts,.nil us=>gO (Ty.vG us ts) (k ())
 |.KV n off,.ptr n' kk sz D9=>dZ n' n (dZ kk 0 (dZ sz 0 (dZ D9 off (k ()))))
 |.ptr n sz off,.ptr n' kk bu D9=>dZ n' n (dZ bu sz (dZ D9 off (k kk)))
 |.dR ts off,.dR us x D9=>dZ D9 off (match Ty.TN us ts x with
  |some y=>k y
  |none=>none)
 |.full n sz,.sl n' bu lo len=>dZ n' n (dZ bu sz ((bn lo len (ln n)).ae fun _=>k ()))
 |.sl n sz,.sl n' bu lo len=>dZ n' n (dZ bu sz (k (lo,len)))
 |.cJ n aY off sz,.cJ n' kk aBe D9 bu len=>dZ n' n (dZ aBe aY (dZ D9 off (dZ bu sz (k (kk,len)))))
 |.cD,.cD=>k ()
 |_,_=>none
theorem Ty.cast_eq {t u:Ty} {x:t.D} {y:u.D} (h:Ty.cast t u x=some y):SC.v t x=SC.v u y:=by
 unfold Ty.cast at h;split at h
 ·rename_i he;have:=Ty.beq_eq he;subst this;injection h with h;rw[<-h]
 ·cases h
theorem Ty.an1 {ts us:List Ty} {x:Ty.DL ts} {y:Ty.DL us} (h:Ty.TN ts us x=some y) (off:Nat):SC.dR ts x off=SC.dR us y off:=by
 unfold Ty.TN at h;split at h
 ·rename_i he;have:=Ty.w6 he;subst this;injection h with h;rw[<-h]
 ·cases h
theorem kV.th {ln:Nat->Nat} (s:kV) (c:SC) (k:s.L.D->Option ρ) (r:ρ) (h:s.flat ln c k=some r):∃x,c=s.un ln x/\k x=some r:=by
 cases s with
 |v t=>
  cases c<;>simp only[kV.flat] at h<;>first|(cases h;done)|skip
  split at h
  ·rename_i y hy;exact⟨y,Ty.cast_eq hy,h⟩
  ·cases h
 |nil ts=>
  cases c<;>simp only[kV.flat] at h<;>first|(cases h;done)|skip
  have h1:=(dq h).1;replace h:=(dq h).2;exact⟨(),by rw[Ty.w6 h1];rfl,h⟩
 |KV n off=>
  cases c<;>simp only[kV.flat] at h<;>first|(cases h;done)|skip
  have cB:=(bW h).1;replace h:=(bW h).2;subst cB;have cB:=(bW h).1;replace h:=(bW h).2;subst cB;have cB:=(bW h).1;replace h:=(bW h).2;subst cB;have cB:=(bW h).1;replace h:=(bW h).2;subst cB;exact⟨(),rfl,h⟩
 |ptr n sz off=>
  cases c<;>simp only[kV.flat] at h<;>first|(cases h;done)|skip
  have cB:=(bW h).1;replace h:=(bW h).2;subst cB;have cB:=(bW h).1;replace h:=(bW h).2;subst cB;have cB:=(bW h).1;replace h:=(bW h).2;subst cB;exact⟨_,rfl,h⟩
 |dR ts off=>
  cases c<;>simp only[kV.flat] at h<;>first|(cases h;done)|skip
  have cB:=(bW h).1;replace h:=(bW h).2;subst cB;split at h
  ·rename_i y hy;exact⟨y,Ty.an1 hy _,h⟩
  ·cases h
 |full n sz=>
  cases c<;>simp only[kV.flat] at h<;>first|(cases h;done)|skip
  have cB:=(bW h).1;replace h:=(bW h).2;subst cB;have cB:=(bW h).1;replace h:=(bW h).2;subst cB;rw[gi] at h;obtain⟨_,hf,h⟩:=h;unfold bn at hf;split at hf
  ·rename_i hc;obtain⟨rfl,rfl⟩:=hc;exact⟨(),rfl,h⟩
  ·cases hf
 |sl n sz=>
  cases c<;>simp only[kV.flat] at h<;>first|(cases h;done)|skip
  have cB:=(bW h).1;replace h:=(bW h).2;subst cB;have cB:=(bW h).1;replace h:=(bW h).2;subst cB;exact⟨_,rfl,h⟩
 |cJ n aY off sz=>
  cases c<;>simp only[kV.flat] at h<;>first|(cases h;done)|skip
  have cB:=(bW h).1;replace h:=(bW h).2;subst cB;have cB:=(bW h).1;replace h:=(bW h).2;subst cB;have cB:=(bW h).1;replace h:=(bW h).2;subst cB;have cB:=(bW h).1;replace h:=(bW h).2;subst cB;exact⟨_,rfl,h⟩
 |cD=>
  cases c<;>simp only[kV.flat] at h<;>first|(cases h;done)|skip
  exact⟨(),rfl,h⟩
def fQ.L:fQ->LT
 |.c s=>s.L
 |.fn _ ed=>LL kV.L ed
def fQ.un (ln:Nat->Nat):(s:fQ)->s.L.D->SC
 |.c s,x=>s.un ln x
 |.fn f ed,x=>.fn f (tW (kV.un ln) ed x)
def fQ.flat (ln:Nat->Nat) (s:fQ) (c:SC) (k:s.L.D->Option ρ):Option ρ:=
 match s,c with
 |.c s,c=>s.flat ln c k
 |.fn f ed,.fn f' cs=>dZ f' f (uu (kV.flat ln) ed cs k)
 |_,_=>none
theorem fQ.th {ln:Nat->Nat} (s:fQ) (c:SC) (k:s.L.D->Option ρ) (r:ρ) (h:s.flat ln c k=some r):∃x,c=s.un ln x/\k x=some r:=by
 cases s with
 |c s=>exact s.th c k r (by cases c<;>exact h)
 |fn f ed=>
  cases c<;>simp only[fQ.flat] at h<;>first|(cases h;done)|skip
  have cB:=(bW h).1;replace h:=(bW h).2;subst cB;obtain⟨x,e_,h_⟩:=AO (un:=kV.un ln) (fun a b k r=>kV.th a b k r) h;subst e_;replace h:=h_;exact⟨x,rfl,h⟩
def kc.L:kc->LT
 |.one c=>c.L
 |.agg cs=>LL fQ.L cs
 |.cF xs=>LL (fun x:Bool×List fQ=>LL fQ.L x.2) xs
def kc.un (ln:Nat->Nat):(s:kc)->s.L.D->SV
 |.one c,x=>.one (c.un ln x)
 |.agg cs,x=>.agg (tW (fQ.un ln) cs x)
 |.cF xs,x=>.cF (tW (L:=fun x:Bool×List fQ=>LL fQ.L x.2) (fun a y=>(a.1,tW (fQ.un ln) a.2 y)) xs x)
def adS (ln:Nat->Nat) (a:Bool×List fQ) (b:Bool×List SC) (k:(LL fQ.L a.2).D->Option ρ):Option ρ:=
 gO (a.1==b.1) (uu (fQ.flat ln) a.2 b.2 k)
def kc.flat (ln:Nat->Nat) (s:kc) (v:SV) (k:s.L.D->Option ρ):Option ρ:=
 match s,v with
 |.one c,.one v=>c.flat ln v k
 |.agg cs,.agg vs=>uu (fQ.flat ln) cs vs k
 |.cF xs,.cF vs=>uu (L:=fun x:Bool×List fQ=>LL fQ.L x.2) (adS ln) xs vs k
 |_,_=>none
theorem kc.th {ln:Nat->Nat} (s:kc) (v:SV) (k:s.L.D->Option ρ) (r:ρ) (h:s.flat ln v k=some r):∃x,v=s.un ln x/\k x=some r:=by
 cases s with
 |one c=>
  cases v<;>simp only[kc.flat] at h<;>first|(cases h;done)|skip
  obtain⟨x,e_,h_⟩:=fQ.th _ _ _ _ h;subst e_;replace h:=h_;exact⟨x,rfl,h⟩
 |agg cs=>
  cases v<;>simp only[kc.flat] at h<;>first|(cases h;done)|skip
  obtain⟨x,e_,h_⟩:=AO (un:=fQ.un ln) (fun a b k r=>fQ.th a b k r) h;subst e_;replace h:=h_;exact⟨x,rfl,h⟩
 |cF xs=>
  cases v<;>simp only[kc.flat] at h<;>first|(cases h;done)|skip
  obtain⟨x,e_,h_⟩:=AO (L:=fun x:Bool×List fQ=>LL fQ.L x.2) (un:=fun a y=>(a.1,tW (fQ.un ln) a.2 y)) (fun a b k r h=>by
   unfold adS at h;have h1:=(dq h).1;replace h:=(dq h).2;obtain⟨x,h2,h⟩:=AO (un:=fQ.un ln) (fun a b k r=>fQ.th a b k r) h;exact⟨x,zbc (eq_of_beq h1).symm h2,h⟩) h
  subst e_;exact⟨x,rfl,h_⟩
def ie.L:ie->LT
 |.box cs=>LL fQ.L cs
 |.row _ _ ts=>.ty (.list ts)
def ie.un (ln:Nat->Nat):(s:ie)->s.L.D->SB
 |.box cs,x=>.box (tW (fQ.un ln) cs x)
 |.row gr m ts,x=>.row gr m ts x
def Mode.beq:Mode->Mode->Bool
 |.live,.live=>true
 |.aZ,.aZ=>true
 |.aV,.aV=>true
 |_,_=>false
theorem Mode.beq_eq {a b:Mode} (h:Mode.beq a b=true):a=b:=by cases a<;>cases b<;>first|rfl|cases h
def ie.flat (ln:Nat->Nat) (s:ie) (b:Option SB) (k:s.L.D->Option ρ):Option ρ:=
 match s,b with
 |.box cs,some (.box vs)=>uu (fQ.flat ln) cs vs k
 |.row gr m ts,some (.row cv m' us xs)=>gO (cv==gr) (gO (Mode.beq m' m) (match AB us ts xs with
  |some y=>k y
  |none=>none))
 |_,_=>none
theorem aA8 {us ts:List Ty} {xs:List (Ty.DL us)} {ys:List (Ty.DL ts)} (h:AB us ts xs=some ys) (gr:Bool) (m:Mode):SB.row gr m us xs=SB.row gr m ts ys:=by
 unfold AB at h;split at h
 ·rename_i he;have h2:=Ty.w6 he;subst h2;injection h with h;rw[<-h]
 ·cases h
theorem ie.th {ln:Nat->Nat} (s:ie) (b:Option SB) (k:s.L.D->Option ρ) (r:ρ) (h:s.flat ln b k=some r):∃x,b=some (s.un ln x)/\k x=some r:=by
 cases s with
 |box cs=>
  cases b with
  |none=>cases h
  |some b=>
   cases b<;>simp only[ie.flat] at h<;>first|(cases h;done)|skip
   obtain⟨x,e_,h_⟩:=AO (un:=fQ.un ln) (fun a b k r=>fQ.th a b k r) h;subst e_;replace h:=h_;exact⟨x,rfl,h⟩
 |row gr m ts=>
  cases b with
  |none=>cases h
  |some b=>
   cases b<;>simp only[ie.flat] at h<;>first|(cases h;done)|skip
   have h1:=(dq h).1;replace h:=(dq h).2;have h2:=(dq h).1;replace h:=(dq h).2;split at h
   ·rename_i y hy;refine⟨y,?_,h⟩;rw[eq_of_beq h1,Mode.beq_eq h2,aA8 hy];rfl
   ·cases h
end
def pO:List (Nat×SV)->Nat->SV
 |[]=>fun _=>.one .cD
 |p::l=>aX (pO l) p.1 p.2
def nu:List (Nat×Option SB)->Nat->Option SB
 |[]=>fun _=>none
 |p::l=>aX (nu l) p.1 p.2
def Ih:List (Nat×ie)->Nat->Bool
 |[]=>fun _=>false
 |p::l=>aX (Ih l) p.1 true
def wI (h:Nat->Option SB) (n:Nat):Nat:=
 match h n with
 |some (.row _ _ ts xs)=>af (α:=Ty.DL ts) xs
 |_=>0
abbrev mK.eL (sh:mK):LT:=LL (fun p:Nat×kc=>p.2.L) sh.env
abbrev mK.hL (sh:mK):LT:=LL (fun p:Nat×ie=>p.2.L) sh.heap
def mK.L (sh:mK):LT:=LT.sp sh.eL sh.hL
def R5 (ln:Nat->Nat) (l:List (Nat×kc)) (x:(LL (fun p:Nat×kc=>p.2.L) l).D):List (Nat×SV):=
 tW (L:=fun p:Nat×kc=>p.2.L) (fun p y=>(p.1,p.2.un ln y)) l x
def EI (ln:Nat->Nat) (l:List (Nat×ie)) (x:(LL (fun p:Nat×ie=>p.2.L) l).D):List (Nat×Option SB):=
 tW (L:=fun p:Nat×ie=>p.2.L) (fun p y=>(p.1,some (p.2.un ln y))) l x
def xY:(l:List (Nat×ie))->(LL (fun p:Nat×ie=>p.2.L) l).D->Nat->Nat
 |[],_=>fun _=>0
 |(n,.box cs)::l,x=>aX (xY l (LT.yk _ _ x).2) n 0
 |(n,.row gr m ts)::l,x=>aX (xY l (LT.yk (LT.ty (.list ts)) _ x).2) n (af (α:=Ty.DL ts) (LT.yk (LT.ty (.list ts)) _ x).1)
theorem Xw (ln:Nat->Nat):∀(l:List (Nat×ie)) (x:(LL (fun p:Nat×ie=>p.2.L) l).D),xY l x=wI (nu (EI ln l x))
 |[],_=>rfl
 |(n,.box cs)::l,x=>by
  funext m;simp only[xY,EI,tW,nu,wI];by_cases hm:m=n
  ·subst hm;simp only[cT];rfl
  ·simp only[dN _ _ _ _ hm];exact congrFun (Xw ln l _) m
 |(n,.row gr mo ts)::l,x=>by
  funext m;simp only[xY,EI,tW,nu,wI];by_cases hm:m=n
  ·subst hm;simp only[cT];rfl
  ·simp only[dN _ _ _ _ hm];exact congrFun (Xw ln l _) m
def mK.un (sh:mK) (x:sh.L.D):ak:=
 {env:=pO (R5 (xY sh.heap (LT.yk sh.eL sh.hL x).2) sh.env (LT.yk sh.eL sh.hL x).1)
  h:=nu (EI (xY sh.heap (LT.yk sh.eL sh.hL x).2) sh.heap (LT.yk sh.eL sh.hL x).2)
  used:=fun n=>Nat.ble aU n||Ih sh.heap n}
def uz (n:Nat):List (Nat×ie)->Bool
 |[]=>false
 |p::l=>match Nat.beq n p.1 with
  |true=>true
  |false=>uz n l
section
variable {ρ:Type}
def adP (ln:Nat->Nat) (p:Nat×kc) (v:Nat×SV) (k:p.2.L.D->Option ρ):Option ρ:=dZ v.1 p.1 (p.2.flat ln v.2 k)
def adQ (ln:Nat->Nat) (p:Nat×ie) (b:Nat×Option SB) (k:p.2.L.D->Option ρ):Option ρ:=dZ b.1 p.1 (p.2.flat ln b.2 k)
def OO (σ:ak) (hp:List (Nat×ie)):List Nat->Bool
 |[]=>true
 |n::kh=>(match uz n hp with|true=>σ.used n|false=>(match σ.used n with|true=>Nat.ble aU n|false=> !(Nat.ble aU n))&&(σ.h n).isNone)&&OO σ hp kh
def Om (kh:List Nat):List (Nat×ie)->Bool
 |[]=>true
 |p::l=>kh.contains p.1&&Om kh l
def mK.flat (sh:mK) (kh:List Nat) (σ:ak) (k:sh.L.D->Option ρ):Option ρ:=
 gO (OO σ sh.heap kh&&Om kh sh.heap)
  (uu (adP (wI σ.h)) sh.env (sh.env.map fun p=>(p.1,σ.env p.1)) fun xe=>
   uu (adQ (wI σ.h)) sh.heap (sh.heap.map fun p=>(p.1,σ.h p.1)) fun xh=>k (LT.HV sh.eL sh.hL xe xh))
end
theorem aoY (l:List (Nat×kc)) (f:Nat->SV) (hf:∀s,s∉l.map (·.1)->f s=.one .cD):pO (l.map fun p=>(p.1,f p.1))=f:=by
 have:∀(l:List (Nat×kc)) s,pO (l.map fun p=>(p.1,f p.1)) s=if s∈l.map (·.1) then f s else .one .cD:=by
  intro l s;induction l with
  |nil=>rfl
  |cons p l ih=>
   simp only[zad,pO,ma,ih,zaq];by_cases h:s=p.1
   ·subst h;simp
   ·by_cases h2:s∈l.map (·.1)
    ·rw[if_neg h,if_pos h2,if_pos (Or.inr h2)]
    ·rw[if_neg h,if_neg h2,if_neg (fun e=>e.elim h h2)]
 funext s;rw[this];split
 ·rfl
 ·rename_i h;exact(hf s h).symm
theorem arV (l:List (Nat×ie)) (f:Nat->Option SB) (hf:∀s,s∉l.map (·.1)->f s=none):nu (l.map fun p=>(p.1,f p.1))=f:=by
 have:∀(l:List (Nat×ie)) s,nu (l.map fun p=>(p.1,f p.1)) s=if s∈l.map (·.1) then f s else none:=by
  intro l s;induction l with
  |nil=>rfl
  |cons p l ih=>
   simp only[zad,nu,ma,ih,zaq];by_cases h:s=p.1
   ·subst h;simp
   ·by_cases h2:s∈l.map (·.1)
    ·rw[if_neg h,if_pos h2,if_pos (Or.inr h2)]
    ·rw[if_neg h,if_neg h2,if_neg (fun e=>e.elim h h2)]
 funext s;rw[this];split
 ·rfl
 ·rename_i h;exact(hf s h).symm
theorem afm (n:Nat) (l:List (Nat×ie)):uz n l=true↔n∈l.map (·.1):=by
  induction l with
  |nil=>simp[uz]
  |cons p l ih=>
   simp only[uz,zad,zaq];cases h:Nat.beq n p.1 with
   |true=>simp[zac h]
   |false=>simp only[ih];constructor
           · exact .inr
           · rintro(rfl|h2)
             · rw[zas] at h;cases h
             · exact h2
theorem aDc (n:Nat) (l:List (Nat×ie)):Ih l n=uz n l:=by
 induction l with
 |nil=>rfl
 |cons p l ih=>
  simp only[Ih,uz,ma,ih];by_cases h:n=p.1
  ·subst h;simp[zas]
  ·have:Nat.beq n p.1=false:=by
    cases hb:Nat.beq n p.1 with
    |true=>exact absurd (zac hb) h
    |false=>rfl
   simp[h,this]
theorem TV {σ:ak} {hp:List (Nat×ie)}:∀{kh:List Nat},OO σ hp kh=true->∀n∈kh,σ.used n=(Nat.ble aU n||uz n hp)/\(uz n hp=false->σ.h n=none)
 |[],_,n,hn=>by cases hn
 |m::kh,h,n,hn=>by
  simp only[OO,zai] at h;rcases zaq.1 hn with e_|hn
  ·subst e_;cases hh:uz n hp with
   |true=>
    rw[hh] at h;have h1:σ.used n=true:=h.1;exact⟨by rw[h1,Bool.or_true],fun e=>by cases e⟩
   |false=>
    rw[hh] at h;simp only[zai,Option.isNone_iff_eq_none] at h;refine⟨?_,fun _=>h.1.2⟩;have h1:=h.1.1;rw[zaZ];cases hu:σ.used n with
    |true=>rw[hu] at h1;exact h1.symm
    |false=>rw[hu] at h1;simpa using h1.symm
  ·exact TV h.2 n hn
theorem ab2 {kh:List Nat}:∀{l:List (Nat×ie)},Om kh l=true->∀n∈l.map (·.1),n∈kh
 |[],_,n,hn=>by cases hn
 |p::l,h,n,hn=>by
  simp only[Om,zai] at h;simp only[zad,zaq] at hn;rcases hn with rfl|hn
  ·simpa using h.1
  ·exact ab2 h.2 n hn
theorem mK.th {ρ:Type} {sh:mK} {kh:List Nat} {σ:ak} {k:sh.L.D->Option ρ} {r:ρ} (h:sh.flat kh σ k=some r)
  (he:∀s,s∉sh.ke->σ.env s=.one .cD) (hh:∀n,n∉kh->σ.h n=none/\σ.used n=Nat.ble aU n):∃x,σ=sh.un x/\k x=some r:=by
 unfold mK.flat at h;have hc:=(dq h).1;replace h:=(dq h).2;simp only[zai] at hc;obtain⟨xe,e1,h⟩:=AO (L:=fun p:Nat×kc=>p.2.L) (un:=fun p y=>(p.1,p.2.un (wI σ.h) y)) (fun a b k r h=>by
  unfold adP at h;obtain⟨h1,h⟩:=bW h;obtain⟨x,h2,h⟩:=kc.th _ _ _ _ h;exact⟨x,zbc h1 h2,h⟩) h
 obtain⟨xh,e2,h⟩:=AO (L:=fun p:Nat×ie=>p.2.L) (un:=fun p y=>(p.1,some (p.2.un (wI σ.h) y))) (fun a b k r h=>by
  unfold adQ at h;obtain⟨h1,h⟩:=bW h;obtain⟨x,h2,h⟩:=ie.th _ _ _ _ h;exact⟨x,zbc h1 h2,h⟩) h
 have Di:σ.env=pO (R5 (wI σ.h) sh.env xe):=by
  unfold R5;rw[<-e1];exact(aoY sh.env σ.env he).symm
 have Gn:σ.h=nu (EI (wI σ.h) sh.heap xh):=by
  unfold EI;rw[<-e2];refine(arV sh.heap σ.h fun n hn=>?_).symm;by_cases hk:n∈kh
  ·refine(TV hc.1 n hk).2 ?_;cases hb:uz n sh.heap with
   |true=>exact absurd ((afm n sh.heap).1 hb) hn
   |false=>rfl
  ·exact(hh n hk).1
 have ar6:xY sh.heap xh=wI σ.h:=by
  rw[Xw (wI σ.h),<-Gn]
 have asB:σ.used=fun n=>Nat.ble aU n||Ih sh.heap n:=by
  funext n;rw[aDc];by_cases hk:n∈kh
  ·exact(TV hc.1 n hk).1
  ·rw[(hh n hk).2];cases hb:uz n sh.heap with
   |true=>exact absurd (ab2 hc.2 n ((afm n sh.heap).1 hb)) hk
   |false=>rw[zaZ]
 refine⟨LT.HV sh.eL sh.hL xe xh,?_,h⟩;have:sh.un (LT.HV sh.eL sh.hL xe xh)={env:=pO (R5 (xY sh.heap xh) sh.env xe),h:=nu (EI (xY sh.heap xh) sh.heap xh),used:=fun n=>Nat.ble aU n||Ih sh.heap n}:=by
  simp only[mK.un,LT.al1]
 rw[this,ar6,<-Di,<-Gn,<-asB]
def SC.iB (ok:Nat->Bool):SC->SC
 |.ptr n k sz off=>match ok n with|true=>.ptr n k sz off|false=>.cD
 |.sl n sz lo len=>match ok n with|true=>.sl n sz lo len|false=>.cD
 |.cJ n k aY off sz len=>match ok n with|true=>.cJ n k aY off sz len|false=>.cD
 |.eG n k aY off sz i=>match ok n with|true=>.eG n k aY off sz i|false=>.cD
 |x=>x
def SC.eP (ok:Nat->Bool):SC->SC
 |.fn f ed=>.fn f (ed.map (SC.iB ok))
 |.v t x=>.v t x
 |.nil ts=>.nil ts
 |.ptr n k sz off=>SC.iB ok (.ptr n k sz off)
 |.dR ts x off=>.dR ts x off
 |.sl n sz lo len=>SC.iB ok (.sl n sz lo len)
 |.cJ n k aY off sz len=>SC.iB ok (.cJ n k aY off sz len)
 |.eG n k aY off sz i=>SC.iB ok (.eG n k aY off sz i)
 |.cD=>.cD
theorem SC.IQ (ok:Nat->Bool) (c:SC):(c.iB ok).er=c.er.iB ok:=by
 cases c with
 |ptr n k sz off=>simp only[SC.iB,SC.er,ao.iB];cases ok n<;>rfl
 |sl n sz lo len=>simp only[SC.iB,SC.er,ao.iB];cases ok n<;>rfl
 |cJ n k aY off sz len=>simp only[SC.iB,SC.er,ao.iB];cases ok n<;>rfl
 |eG n k aY off sz i=>simp only[SC.iB,SC.er,ao.iB];cases ok n<;>rfl
 |_=>rfl
theorem SC.FI (ok:Nat->Bool) (c:SC):(c.eP ok).er=c.er.eP ok:=by
 cases c with
 |fn f ed=>
  simp only[SC.eP,SC.er,ao.eP,SC.Jc,zav];congr 1;exact zau fun c _=>SC.IQ ok c
 |ptr n k sz off=>exact SC.IQ ok (.ptr n k sz off)
 |sl n sz lo len=>exact SC.IQ ok (.sl n sz lo len)
 |cJ n k aY off sz len=>exact SC.IQ ok (.cJ n k aY off sz len)
 |eG n k aY off sz i=>exact SC.IQ ok (.eG n k aY off sz i)
 |_=>rfl
def SV.eP (ok:Nat->Bool):SV->SV
 |.one c=>.one (c.eP ok)
 |.agg cs=>.agg (cs.map (SC.eP ok))
 |.cF xs=>.cF (xs.map fun x=>(x.1,x.2.map (SC.eP ok)))
theorem T0 (ok:Nat->Bool) (cs:List SC):(cs.map (SC.eP ok)).map SC.er=(cs.map SC.er).map (ao.eP ok):=by
 simp only[zav];exact zau fun c _=>SC.FI ok c
theorem SV.FI (ok:Nat->Bool) (v:SV):(v.eP ok).er=v.er.eP ok:=by
 cases v with
 |one c=>simp only[SV.eP,SV.er,aA.eP,SC.FI]
 |agg cs=>simp only[SV.eP,SV.er,aA.eP,T0]
 |cF xs=>
  simp only[SV.eP,SV.er,aA.eP,zav];congr 1;exact zau fun x _=>by simp only[Function.comp];rw[T0]
def SB.eP (ok:Nat->Bool):SB->SB
 |.box cs=>.box (cs.map (SC.eP ok))
 |.row gr m ts xs=>.row gr m ts xs
theorem SB.FI (ok:Nat->Bool) (b:SB):(b.eP ok).er=b.er.eP ok:=by
 cases b with
 |box cs=>simp only[SB.eP,SB.er,aK.eP,T0]
 |row gr m ts xs=>rfl
def EB (ok:Nat->Bool) (env:Nat->SV):List Nat->(Nat->SV)
 |[]=>fun _=>.one .cD
 |s::ss=>aX (EB ok env ss) s ((env s).eP ok)
def zV (ok:Nat->Bool) (h:Nat->Option SB):List Nat->(Nat->Option SB)
 |[]=>fun _=>none
 |s::ss=>match ok s with
  |true=>match h s with
   |some b=>aX (zV ok h ss) s (some (b.eP ok))
   |none=>zV ok h ss
  |false=>zV ok h ss
def wM (ok:Nat->Bool):List Nat->(Nat->Bool)
 |[]=>fun _=>false
 |s::ss=>match ok s with
  |true=>aX (wM ok ss) s true
  |false=>wM ok ss
theorem al6 (ok:Nat->Bool) (env:Nat->SV):∀l,ul (EB ok env l)=zM ok (ul env) l
 |[]=>rfl
 |s::ss=>by simp only[EB,zM,AH,al6 ok env ss,SV.FI];rfl
theorem RM (ok:Nat->Bool) (h:Nat->Option SB):∀l,ez (zV ok h l)=vc ok (ez h) l
 |[]=>rfl
 |s::ss=>by
  simp only[zV,vc];cases ok s with
  |false=>simp only[RM ok h ss,zap,if_false]
  |true=>
   have:ez h s=(h s).map SB.er:=rfl;simp only[if_true,this];cases h s with
   |none=>simp only[zal,RM ok h ss]
   |some b=>simp only[O9,RM ok h ss,zab,SB.FI]
theorem al7 (ok:Nat->Bool):∀l,wM ok l=zN ok l
 |[]=>rfl
 |s::ss=>by
  simp only[wM,zN];cases ok s<;>simp[al7 ok ss]
theorem aaJ (ok:Nat->Bool) (env:Nat->SV):∀(l:List Nat) (s:Nat),s∉l->EB ok env l s=.one .cD
 |[],s,_=>rfl
 |a::l,s,h=>by
  simp only[zaq,not_or] at h;simp only[EB,dN _ _ _ _ h.1,aaJ ok env l s h.2]
theorem aaK (ok:Nat->Bool) (hp:Nat->Option SB):∀(l:List Nat) (s:Nat),s∉l->zV ok hp l s=none
 |[],s,_=>rfl
 |a::l,s,h=>by
  simp only[zaq,not_or] at h;have ih:=aaK ok hp l s h.2;simp only[zV];cases ok a with
  |false=>exact ih
  |true=>
   cases hp a with
   |none=>exact ih
   |some b=>simp only[dN _ _ _ _ h.1];exact ih
theorem aaL (ok:Nat->Bool):∀(l:List Nat) (s:Nat),s∉l->wM ok l s=false
 |[],s,_=>rfl
 |a::l,s,h=>by
  simp only[zaq,not_or] at h;have ih:=aaL ok l s h.2;simp only[wM];cases ok a with
  |false=>exact ih
  |true=>simp only[dN _ _ _ _ h.1];exact ih
def SC.BW (n:Nat):SC->Bool
 |.ptr m _ _ _=>Nat.beq m n
 |.sl m _ _ _=>Nat.beq m n
 |.cJ m _ _ _ _ _=>Nat.beq m n
 |.eG m _ _ _ _ _=>Nat.beq m n
 |_=>false
def SC.j0 (n:Nat):SC->Bool
 |.fn _ ed=>ed.any (SC.BW n)
 |.ptr m _ _ _=>Nat.beq m n
 |.sl m _ _ _=>Nat.beq m n
 |.cJ m _ _ _ _ _=>Nat.beq m n
 |.eG m _ _ _ _ _=>Nat.beq m n
 |.v _ _=>false
 |.nil _=>false
 |.dR _ _ _=>false
 |.cD=>false
theorem IH (m n:Nat):(m==n)=Nat.beq m n:=by
 rw[Bool.eq_iff_iff,beq_iff_eq];exact⟨fun h=>by rw[h];exact zas n,zac⟩
theorem SC.aAQ (n:Nat) (c:SC):c.er.BW n=c.BW n:=by
 cases c<;>simp[SC.er,ao.BW,SC.BW,IH]
theorem SC.Q9 (n:Nat) (c:SC):c.er.j0 n=c.j0 n:=by
 cases c with
 |fn f ed=>
  simp only[SC.er,SC.Jc,ao.j0,SC.j0,zba];congr 1;funext c;exact SC.aAQ n c
 |ptr m _ _ _=>exact IH m n
 |sl m _ _ _=>exact IH m n
 |cJ m _ _ _ _ _=>exact IH m n
 |eG m _ _ _ _ _=>exact IH m n
 |_=>rfl
def SV.j0 (n:Nat):SV->Bool
 |.one c=>c.j0 n
 |.agg cs=>cs.any (SC.j0 n)
 |.cF xs=>xs.any fun x=>x.2.any (SC.j0 n)
theorem Yu (n:Nat) (cs:List SC):(cs.map SC.er).any (ao.j0 n)=cs.any (SC.j0 n):=by
 rw[zba];congr 1;funext c;exact SC.Q9 n c
theorem SV.Q9 (n:Nat) (v:SV):v.er.j0 n=v.j0 n:=by
 cases v with
 |one c=>exact SC.Q9 n c
 |agg cs=>exact Yu n cs
 |cF xs=>
  simp only[SV.er,aA.j0,SV.j0,zba];congr 1;funext x;exact Yu n x.2
def ajE (n:Nat):Option SB->Bool
 |some (.box cs)=>cs.any (SC.j0 n)
 |_=>false
def O7 (n:Nat):List Nat->Bool
 |[]=>false
 |m::l=>match Nat.beq n m with
  |true=>true
  |false=>O7 n l
theorem adh (n:Nat):∀l:List Nat,O7 n l=l.contains n
 |[]=>rfl
 |m::l=>by
  simp only[O7,List.contains_cons];have e:(n==m)=Nat.beq n m:=by cases h:Nat.beq n m with
   |true=>simpa using zac h
   |false=>simp;intro h';rw[h',zas] at h;cases h
  rw[e,adh n l];cases Nat.beq n m<;>rfl
def ak.lV (σ:ak) (ke kh:List Nat):Nat->Bool:=fun n=>(σ.h n).isSome&&O7 n kh&&(Nat.ble aU n||ke.any (fun s=>(σ.env s).j0 n)||kh.any fun k=>ajE n (σ.h k))
theorem ak.azd (σ:ak) (ke kh:List Nat):σ.er.lV ke kh=σ.lV ke kh:=by
 funext n;simp only[St.lV,ak.lV];have h1:(σ.er.h n).isSome=(σ.h n).isSome:=ado σ.h n;have h2:(fun s=>(σ.er.env s).j0 n)=fun s=>(σ.env s).j0 n:=by funext s;exact SV.Q9 n _
 have h3:(fun k=>match σ.er.h k with|some (.box cs)=>cs.any (·.j0 n)|_=>false)=fun k=>ajE n (σ.h k):=by
  funext k;have:σ.er.h k=(σ.h k).map SB.er:=rfl;rw[this];cases σ.h k with
  |none=>rfl
  |some b=>cases b with
   |box cs=>exact Yu n cs
   |row gr m ts xs=>rfl
 rw[h1,h2,adh,Bool.and_comm (x:=(σ.h n).isSome)];exact congrArg (fun g:Nat->Bool=>(kh.contains n&&(σ.h n).isSome&&((Nat.ble aU n||ke.any fun s=>SV.j0 n (σ.env s))||kh.any g))) h3
def ak.kQ (σ:ak) (ke kh:List Nat):ak:=
 {env:=EB (σ.lV ke kh) σ.env ke,h:=zV (σ.lV ke kh) σ.h kh,used:=fun n=>Nat.ble aU n||wM (σ.lV ke kh) kh n}
theorem ak.YA (σ:ak) (ke kh:List Nat):(σ.kQ ke kh).er=σ.er.kQ ke kh:=by
 simp only[ak.kQ,St.kQ,ak.azd];have e1:=al6 (σ.lV ke kh) σ.env ke;have e2:=RM (σ.lV ke kh) σ.h kh;have e3:=al7 (σ.lV ke kh) kh;show St.mk (ul (EB (σ.lV ke kh) σ.env ke)) (ez (zV (σ.lV ke kh) σ.h kh)) (fun n=>Nat.ble aU n||wM (σ.lV ke kh) kh n)=_;rw[e1,e2,e3];rfl
def ym (x c n:Nat):Nat:=match Nat.beq n x with|true=>c|false=>n
theorem Lx (x c n:Nat):ym x c n=rE x c n:=by
 unfold ym rE;cases h:Nat.beq n x with
 |true=>rw[if_pos (zac h)]
 |false=>rw[if_neg (fun e=>by rw[e,zas] at h;cases h)]
def SC.sJ (x c:Nat):SC->SC
 |.ptr n k sz off=>.ptr (ym x c n) k sz off
 |.sl n sz lo len=>.sl (ym x c n) sz lo len
 |.cJ n k aY off sz len=>.cJ (ym x c n) k aY off sz len
 |.eG n k aY off sz i=>.eG (ym x c n) k aY off sz i
 |y=>y
def SC.ca (x c:Nat):SC->SC
 |.fn f ed=>.fn f (ed.map (SC.sJ x c))
 |.ptr n k sz off=>.ptr (ym x c n) k sz off
 |.sl n sz lo len=>.sl (ym x c n) sz lo len
 |.cJ n k aY off sz len=>.cJ (ym x c n) k aY off sz len
 |.eG n k aY off sz i=>.eG (ym x c n) k aY off sz i
 |.v t y=>.v t y
 |.nil ts=>.nil ts
 |.dR ts y off=>.dR ts y off
 |.cD=>.cD
theorem SC.aAW (x c:Nat) (y:SC):(y.sJ x c).er=y.er.sJ x c:=by
 cases y<;>simp[SC.sJ,SC.er,ao.sJ,Lx]
theorem SC.B0 (x c:Nat) (y:SC):(y.ca x c).er=y.er.ca x c:=by
 cases y with
 |fn f ed=>
  simp only[SC.ca,SC.er,ao.ca,SC.Jc,zav];congr 1;exact zau fun y _=>SC.aAW x c y
 |ptr n k sz off=>simp only[SC.ca,SC.er,ao.ca,ao.sJ,Lx]
 |sl n sz lo len=>simp only[SC.ca,SC.er,ao.ca,ao.sJ,Lx]
 |cJ n k aY off sz len=>simp only[SC.ca,SC.er,ao.ca,ao.sJ,Lx]
 |eG n k aY off sz i=>simp only[SC.ca,SC.er,ao.ca,ao.sJ,Lx]
 |_=>rfl
theorem Yy (x c:Nat) (cs:List SC):(cs.map (SC.ca x c)).map SC.er=(cs.map SC.er).map (ao.ca x c):=by
 simp only[zav];exact zau fun y _=>SC.B0 x c y
def SV.ca (x c:Nat):SV->SV
 |.one y=>.one (y.ca x c)
 |.agg ys=>.agg (ys.map (SC.ca x c))
 |.cF ys=>.cF (ys.map fun y=>(y.1,y.2.map (SC.ca x c)))
theorem SV.B0 (x c:Nat) (v:SV):(v.ca x c).er=v.er.ca x c:=by
 cases v with
 |one y=>simp only[SV.ca,SV.er,aA.ca,SC.B0]
 |agg cs=>simp only[SV.ca,SV.er,aA.ca,Yy]
 |cF xs=>
  simp only[SV.ca,SV.er,aA.ca,zav];congr 1;exact zau fun y _=>by simp only[Function.comp];rw[Yy]
def SB.ca (x c:Nat):SB->SB
 |.box cs=>.box (cs.map (SC.ca x c))
 |.row gr m ts xs=>.row gr m ts xs
theorem SB.B0 (x c:Nat) (b:SB):(b.ca x c).er=b.er.ca x c:=by
 cases b with
 |box cs=>simp only[SB.ca,SB.er,aK.ca,Yy]
 |row gr m ts xs=>rfl
def ak.ca (σ:ak) (x c:Nat):Option ak:=
  match Nat.beq x c with
  |true=>some σ
  |false=>match Nat.ble aU x with
   |true=>some σ
   |false=>match σ.used c with
    |true=>none
    |false=>some
     {env:=fun s=>(σ.env s).ca x c
      h:=fun n=>match Nat.beq n c with
        |true=>(σ.h x).map (SB.ca x c)
        |false=>match Nat.beq n x with
         |true=>none
         |false=>(σ.h n).map (SB.ca x c)
      used:=fun n=>match Nat.beq n c with
        |true=>σ.used x
        |false=>match Nat.beq n x with
         |true=>false
         |false=>σ.used n}
theorem BM {m n:Nat} (h:Nat.beq m n=false):m≠n:=fun e=>by rw[e,zas] at h;cases h
theorem ak.B0 {σ σ1:ak} {x c:Nat} (h:σ.ca x c=some σ1):σ.er.ca x c=some σ1.er:=by
 unfold ak.ca at h;split at h
 ·rename_i e;injection h with h;subst h;simp[St.ca,zac e]
 ·rename_i e;split at h
  ·rename_i hx;injection h with h;subst h;simp only[St.ca,if_neg (BM e),hx,if_true]
  rename_i hx;split at h
  ·cases h
  ·rename_i hu;injection h with h;subst h;have nB:σ.er.used c=false:=hu;simp only[St.ca,if_neg (BM e),hx,nB,zap,if_false];congr 1;have mm:∀o:Option SB,(o.map (SB.ca x c)).map SB.er=(o.map SB.er).map (·.ca x c):=by
    intro o;cases o with
    |none=>rfl
    |some b=>simp only[zab,SB.B0]
   have e1:(fun s=>(σ.er.env s).ca x c)=ul (fun s=>(σ.env s).ca x c):=by
    funext s;exact(SV.B0 x c (σ.env s)).symm
   have e2:(fun n=>if n=c then(σ.er.h x).map (·.ca x c) else if n=x then none else(σ.er.h n).map (·.ca x c))=ez (fun n=>match Nat.beq n c with
     |true=>(σ.h x).map (SB.ca x c)
     |false=>match Nat.beq n x with
      |true=>none
      |false=>(σ.h n).map (SB.ca x c)):=by
    funext n;simp only[ez];cases hc:Nat.beq n c with
    |true=>rw[if_pos (zac hc)];exact(mm (σ.h x)).symm
    |false=>
     rw[if_neg (BM hc)];cases hx:Nat.beq n x with
     |true=>rw[if_pos (zac hx)];rfl
     |false=>rw[if_neg (BM hx)];exact(mm (σ.h n)).symm
   have e3:(fun n=>if n=c then σ.er.used x else if n=x then false else σ.er.used n)=(fun n=>match Nat.beq n c with
     |true=>σ.used x
     |false=>match Nat.beq n x with
      |true=>false
      |false=>σ.used n):=by
    funext n;cases hc:Nat.beq n c with
    |true=>rw[if_pos (zac hc)];rfl
    |false=>
     rw[if_neg (BM hc)];cases hx:Nat.beq n x with
     |true=>rw[if_pos (zac hx)]
     |false=>rw[if_neg (BM hx)];rfl
   rw[e1,e2,e3];rfl
abbrev Cn:=List (Bool×Nat×Nat×Nat×Mode×List Ty)
def Cn.er (cn:Cn):List (Bool×Nat×Nat×Nat×Mode):=cn.map fun x=>(x.1,x.2.1,x.2.2.1,x.2.2.2.1,x.2.2.2.2.1)
def ak.m8 (σ:ak) (c:Nat):Mode->ak
 |.aV=>match σ.h c with
  |some (.row gr .aZ ts xs)=>σ.fK c (.row gr .aV ts xs)
  |_=>σ
 |_=>σ
theorem ak.ao1 (σ:ak) (c:Nat) (m:Mode):(σ.m8 c m).er=σ.er.m8 c m:=by
 cases m with
 |live=>rfl
 |aZ=>rfl
 |aV=>
  simp only[ak.m8,St.m8];have hh:σ.er.h c=(σ.h c).map SB.er:=rfl;rw[hh];cases σ.h c with
  |none=>rfl
  |some b=>cases b with
   |box cs=>rfl
   |row gr m ts xs=>cases m with
    |aZ=>simp only[zab,SB.er,ak.te]
    |live=>rfl
    |aV=>rfl
def B3 (σ:ak):Bool×Nat×Nat×Nat×Mode×List Ty->Option ak
 |(true,n,j,c,m,us)=>match σ.h n with
  |some (.box cs)=>match cs[j]? with
   |some (.sl a _ _ _)=>(σ.ca a c).map fun σ1=>σ1.m8 c m
   |some (.nil ts)=>match ts with
    |[]=>some σ
    |t::ts=>match σ.ins c (.row true m (t::ts) []) with
     |some σ1=>some (σ1.fK n (.box (cs.set j (.sl c (t::ts).length 0 0))))
     |none=>none
   |_=>some σ
  |_=>some σ
 |(false,n,j,c,m,us)=>match σ.env n with
  |.one (.sl a _ _ _)=>(σ.ca a c).map fun σ1=>σ1.m8 c m
  |.one (.nil ts)=>match ts with
   |[]=>some σ
   |t::ts=>match σ.ins c (.row true m (t::ts) []) with
    |some σ1=>some (σ1.put (some n) (.one (.sl c (t::ts).length 0 0)))
    |none=>none
  |_=>some σ
theorem al5 {σ σ1:ak} {a c:Nat} {m:Mode} (h:(σ.ca a c).map (fun σ1=>σ1.m8 c m)=some σ1):(σ.er.ca a c).map (fun σ1=>σ1.m8 c m)=some σ1.er:=by
 rw[zaB] at h;obtain⟨σ2,e,rfl⟩:=h;rw[ak.B0 e,zab,ak.ao1]
theorem aBz {σ σ1:ak} {x:Bool×Nat×Nat×Nat×Mode×List Ty} (h:B3 σ x=some σ1):σ.er.canon (x.1,x.2.1,x.2.2.1,x.2.2.2.1,x.2.2.2.2.1)=some σ1.er:=by
 obtain⟨b,n,j,c,m,us⟩:=x;cases b with
 |true=>
  simp only[B3] at h;simp only[St.canon];have hh:σ.er.h n=(σ.h n).map SB.er:=rfl;rw[hh];split at h
  ·rename_i cs hn;simp only[hn,zab,SB.er,zae];split at h
   ·rename_i a _ _ _ hj;simp only[hj,zab,SC.er];exact al5 h
   ·rename_i ts hj;simp only[hj,zab,SC.er];split at h
    ·injection h with h;subst h;rfl
    ·rename_i t ts;split at h
     ·rename_i σ2 e;injection h with h;subst h;have i:=ak.xk e;rw[show(SB.row true m (t::ts) []).er=aK.row true m (t::ts).length [] from rfl] at i
      simp only[zaH,zbb,if_true] at i⊢;rw[i];simp only[ak.te,SB.er,zaJ,SC.er,zaH]
     ·cases h
   ·rename_i hs hz;injection h with h;subst h;cases hj:cs[j]? with
    |none=>rfl
    |some y=>cases y<;>first|rfl|(exfalso;exact hs _ _ _ _ hj)|(exfalso;exact hz _ hj)
  ·rename_i hb;injection h with h;subst h;cases hn:σ.h n with
   |none=>rfl
   |some b=>cases b with
    |box cs=>exact absurd hn (hb cs)
    |row gr m ts xs=>rfl
 |false=>
  simp only[B3] at h;simp only[St.canon];have hh:σ.er.env n=(σ.env n).er:=rfl;rw[hh];split at h
  ·rename_i a _ _ _ hn;simp only[hn,SV.er,SC.er];exact al5 h
  ·rename_i ts hn;simp only[hn,SV.er,SC.er];split at h
   ·injection h with h;subst h;rfl
   ·rename_i t ts;split at h
    ·rename_i σ2 e;injection h with h;subst h;have i:=ak.xk e;rw[show(SB.row true m (t::ts) []).er=aK.row true m (t::ts).length [] from rfl] at i
     simp only[zaH,zbb,if_true] at i⊢;rw[i];simp only[ak.fg,SV.er,SC.er,zaH]
    ·cases h
  ·rename_i hs hz;injection h with h;subst h;cases hn:σ.env n with
   |one y=>cases y<;>first|rfl|(exfalso;exact hs _ _ _ _ hn)|(exfalso;exact hz _ hn)
   |_=>rfl
def HI (σ:ak):Cn->Option ak
 |[]=>some σ
 |x::l=>match B3 σ x with
  |some σ1=>HI σ1 l
  |none=>none
theorem aln:∀{cn:Cn} {σ σ1:ak},HI σ cn=some σ1->σ.er.xc cn.er=some σ1.er
 |[],σ,σ1,h=>by simp only[HI] at h;injection h with h;subst h;rfl
 |x::l,σ,σ1,h=>by
  simp only[HI] at h;split at h
  ·rename_i σ2 e;have i:=aBz e;have j:=aln h;simp only[Cn.er] at j;simp only[Cn.er,zad,St.xc,i,j]
  ·cases h
section
variable {ρ:Type}
def D7 (n:Nat) (k:Nat->Option ρ):List Nat->Option ρ
 |[]=>k n
 |c::l=>match Nat.beq n c with
  |true=>k c
  |false=>D7 n k l
theorem aiO (n:Nat) (k:Nat->Option ρ):∀l,D7 n k l=k n
 |[]=>rfl
 |c::l=>by
  simp only[D7];split
  ·rename_i e;rw[zac e]
  ·exact aiO n k l
def UM (kh:List Nat) (c:SC) (k:SC->Option ρ):Option ρ:=
 match c with
 |.v t x=>k (.v t x)
 |.nil ts=>k (.nil ts)
 |.ptr n kk sz off=>D7 n (fun n=>k (.ptr n kk sz off)) kh
 |.dR ts x off=>k (.dR ts x off)
 |.sl n sz lo len=>D7 n (fun n=>k (.sl n sz lo len)) kh
 |.cJ n a b c d e=>D7 n (fun n=>k (.cJ n a b c d e)) kh
 |.eG n a b c d e=>D7 n (fun n=>k (.eG n a b c d e)) kh
 |.fn f ed=>k (.fn f ed)
 |.cD=>k .cD
theorem aeZ (kh:List Nat) (c:SC) (k:SC->Option ρ):UM kh c k=k c:=by
 cases c<;>first|rfl|exact aiO _ _ _
def Jm (kh:List Nat):List SC->(List SC->Option ρ)->Option ρ
 |[],k=>k []
 |c::cs,k=>UM kh c fun c=>Jm kh cs fun cs=>k (c::cs)
theorem UN (kh:List Nat):∀(cs:List SC) (k:List SC->Option ρ),Jm kh cs k=k cs
 |[],k=>rfl
 |c::cs,k=>by simp only[Jm,aeZ,UN kh cs]
def yP (kh:List Nat) (env:Nat->SV):List Nat->(List (Nat×SV)->Option ρ)->Option ρ
 |[],k=>k []
 |s::ss,k=>match env s with
  |.one .cD=>yP kh env ss k
  |.one c=>UM kh c fun c=>yP kh env ss fun l=>k ((s,.one c)::l)
  |.agg cs=>Jm kh cs fun cs=>yP kh env ss fun l=>k ((s,.agg cs)::l)
  |.cF xs=>yP kh env ss fun l=>k ((s,.cF xs)::l)
def yQ (kh:List Nat) (h:Nat->Option SB):List Nat->(List (Nat×Option SB)->Option ρ)->Option ρ
 |[],k=>k []
 |n::ns,k=>match h n with
  |none=>yQ kh h ns k
  |some (.box cs)=>Jm kh cs fun cs=>yQ kh h ns fun l=>k ((n,some (.box cs))::l)
  |some (.row gr m ts xs)=>yQ kh h ns fun l=>k ((n,some (.row gr m ts xs))::l)
def C8 (u:Nat->Bool):List Nat->(List Nat->Option ρ)->Option ρ
 |[],k=>k []
 |n::ns,k=>match u n with
  |true=>C8 u ns fun l=>k (n::l)
  |false=>C8 u ns k
def z7:List Nat->Nat->Bool
 |[],n=>Nat.ble aU n
 |m::l,n=>match Nat.beq n m with
  |true=>true
  |false=>z7 l n
def ak.F6 (ke kh:List Nat) (σ:ak) (k:ak->Option ρ):Option ρ:=
 yP kh σ.env ke fun le=>yQ kh σ.h kh fun lh=>C8 σ.used kh fun lu=>k ⟨pO le,nu lh,z7 lu⟩
structure kY (ke kh:List Nat) (σ:ak):Prop where
 e:∀s,s∉ke->σ.env s=.one .cD
 h:∀n,n∉kh->σ.h n=none
 u:∀n,n∉kh->σ.used n=Nat.ble aU n
 p:∀n,σ.used n=false->Nat.ble aU n=false
theorem ae0 (kh:List Nat) (env:Nat->SV):∀(ss:List Nat) (k:List (Nat×SV)->Option ρ),∃l:List (Nat×SV),yP kh env ss k=k l/\∀s,pO l s=if s∈ss then env s else .one .cD
 |[],k=>⟨[],rfl,fun s=>by simp[pO]⟩
 |a::ss,k=>by
  have cN:∀v:SV,env a=v->(∀k':List (Nat×SV)->Option ρ,∃l,yP kh env ss k'=k' l/\∀s,pO l s=if s∈ss then env s else .one .cD)->
    ∃l:List (Nat×SV),yP kh env ss (fun l=>k ((a,v)::l))=k l/\∀s,pO l s=if s∈a::ss then env s else .one .cD:=by
   intro v hv ih;obtain⟨l,h1,h2⟩:=ih fun l=>k ((a,v)::l);refine⟨(a,v)::l,h1,fun s=>?_⟩;simp only[pO,ma];split
   ·rename_i e;subst e;rw[if_pos (by simp)];exact hv.symm
   ·rename_i aR;rw[h2 s];by_cases hs:s∈ss
    ·rw[if_pos hs,if_pos (by simp[hs])]
    ·rw[if_neg hs,if_neg (by simp[hs,aR])]
  have ih:=fun k':List (Nat×SV)->Option ρ=>ae0 kh env ss k';simp only[yP];split
  ·rename_i hv;obtain⟨l,h1,h2⟩:=ih k;refine⟨l,h1,fun s=>?_⟩;rw[h2 s];by_cases hs:s∈ss
   ·rw[if_pos hs,if_pos (by simp[hs])]
   ·rw[if_neg hs];by_cases Bh:s=a
    ·subst Bh;rw[if_pos (by simp),hv]
    ·rw[if_neg (by simp[hs,Bh])]
  ·rename_i c hc hv;rw[aeZ];exact cN _ hv ih
  ·rename_i cs hv;rw[UN];exact cN _ hv ih
  ·rename_i xs hv;exact cN _ hv ih
theorem ae1 (kh:List Nat) (h:Nat->Option SB):∀(ns:List Nat) (k:List (Nat×Option SB)->Option ρ),∃l:List (Nat×Option SB),yQ kh h ns k=k l/\∀n,nu l n=if n∈ns then h n else none
 |[],k=>⟨[],rfl,fun s=>by simp[nu]⟩
 |a::ns,k=>by
  have cN:∀v:Option SB,h a=v->(∀k':List (Nat×Option SB)->Option ρ,∃l,yQ kh h ns k'=k' l/\∀s,nu l s=if s∈ns then h s else none)->
    ∃l:List (Nat×Option SB),yQ kh h ns (fun l=>k ((a,v)::l))=k l/\∀s,nu l s=if s∈a::ns then h s else none:=by
   intro v hv ih;obtain⟨l,h1,h2⟩:=ih fun l=>k ((a,v)::l);refine⟨(a,v)::l,h1,fun s=>?_⟩;simp only[nu,ma];split
   ·rename_i e;subst e;rw[if_pos (by simp)];exact hv.symm
   ·rename_i aR;rw[h2 s];by_cases hs:s∈ns
    ·rw[if_pos hs,if_pos (by simp[hs])]
    ·rw[if_neg hs,if_neg (by simp[hs,aR])]
  have ih:=fun k':List (Nat×Option SB)->Option ρ=>ae1 kh h ns k';simp only[yQ];split
  ·rename_i hv;obtain⟨l,h1,h2⟩:=ih k;refine⟨l,h1,fun s=>?_⟩;rw[h2 s];by_cases hs:s∈ns
   ·rw[if_pos hs,if_pos (by simp[hs])]
   ·rw[if_neg hs];by_cases Bh:s=a
    ·subst Bh;rw[if_pos (by simp),hv]
    ·rw[if_neg (by simp[hs,Bh])]
  ·rename_i cs hv;rw[UN];exact cN _ hv ih
  ·rename_i gr m ts xs hv;exact cN _ hv ih
theorem UO (u:Nat->Bool) (hp:∀n,u n=false->Nat.ble aU n=false):∀(ns:List Nat) (k:List Nat->Option ρ),∃l:List Nat,C8 u ns k=k l/\∀n,z7 l n=if n∈ns then u n else Nat.ble aU n
 |[],k=>⟨[],rfl,fun s=>by simp[z7]⟩
 |a::ns,k=>by
  simp only[C8];split
  ·rename_i hv;obtain⟨l,h1,h2⟩:=UO u hp ns fun l=>k (a::l);refine⟨a::l,h1,fun s=>?_⟩;simp only[z7];split
   ·rename_i e;have:=zac e;subst this;rw[if_pos (by simp)];exact hv.symm
   ·rename_i e;have aR:=BM e;rw[h2 s];by_cases hs:s∈ns
    ·rw[if_pos hs,if_pos (by simp[hs])]
    ·rw[if_neg hs,if_neg (by simp[hs,aR])]
  ·rename_i hv;obtain⟨l,h1,h2⟩:=UO u hp ns k;refine⟨l,h1,fun s=>?_⟩;rw[h2 s];by_cases hs:s∈ns
   ·rw[if_pos hs,if_pos (by simp[hs])]
   ·rw[if_neg hs];by_cases Bh:s=a
    ·subst Bh;rw[if_pos (by simp),hv,hp _ hv]
    ·rw[if_neg (by simp[hs,Bh])]
theorem Pu {ke kh:List Nat} {σ:ak} (W:kY ke kh σ) (k:ak->Option ρ):σ.F6 ke kh k=k σ:=by
 unfold ak.F6;obtain⟨le,e1,e2⟩:=ae0 kh σ.env ke fun le=>yQ kh σ.h kh fun lh=>C8 σ.used kh fun lu=>k ⟨pO le,nu lh,z7 lu⟩;rw[e1];obtain⟨lh,h1,h2⟩:=ae1 kh σ.h kh fun lh=>C8 σ.used kh fun lu=>k ⟨pO le,nu lh,z7 lu⟩;rw[h1];obtain⟨lu,u1,u2⟩:=UO σ.used W.p kh fun lu=>k ⟨pO le,nu lh,z7 lu⟩;rw[u1];have a1:pO le=σ.env:=by
  funext s;rw[e2 s];split
  ·rfl
  ·rename_i hs;exact(W.e s hs).symm
 have a2:nu lh=σ.h:=by
  funext s;rw[h2 s];split
  ·rfl
  ·rename_i hs;exact(W.h s hs).symm
 have a3:z7 lu=σ.used:=by
  funext s;rw[u2 s];split
  ·rfl
  ·rename_i hs;exact(W.u s hs).symm
 rw[a1,a2,a3]
theorem kY.kQ (ke kh:List Nat) (σ:ak):kY ke kh (σ.kQ ke kh):=
 ⟨fun s hs=>aaJ _ _ _ s hs,fun n hn=>aaK _ _ _ n hn,fun n hn=>by show(Nat.ble aU n||wM _ _ n)=_;rw[aaL _ _ n hn,zaZ],
  fun n hn=>by have cb:(Nat.ble aU n||wM _ _ n)=false:=hn;simp only[Bool.or_eq_false_iff] at cb;exact cb.1⟩
theorem kY.ca {ke kh:List Nat} {σ σ1:ak} {a c:Nat} (W:kY ke kh σ) (hc:c∈kh) (h:σ.ca a c=some σ1):kY ke kh σ1:=by
 unfold ak.ca at h;split at h
 ·injection h with h;subst h;exact W
 ·split at h
  ·injection h with h;subst h;exact W
  ·rename_i xy;split at h
   ·cases h
   ·rename_i P2;injection h with h;subst h;refine⟨fun s hs=>?_,fun n hn=>?_,fun n hn=>?_,fun n hn=>?_⟩
    ·show(σ.env s).ca a c=_;rw[W.e s hs];rfl
    ·simp only
     split
     ·rename_i e;exact absurd (by rw[zac e];exact hc) hn
     ·split
      ·rfl
      ·rw[W.h n hn];rfl
    ·simp only
     split
     ·rename_i e;exact absurd (by rw[zac e];exact hc) hn
     ·split
      ·rename_i e;rw[zac e,xy]
      ·exact W.u n hn
    ·simp only at hn;split at hn
     ·rename_i e;rw[zac e];exact W.p c P2
     ·split at hn
      ·rename_i e;rw[zac e,xy]
      ·exact W.p n hn
theorem kY.ins {ke kh:List Nat} {σ σ1:ak} {c:Nat} {b:SB} (W:kY ke kh σ) (hc:c∈kh) (h:σ.ins c b=some σ1):kY ke kh σ1:=by
 unfold ak.ins at h;split at h
 ·cases h
 ·rename_i P2;injection h with h;subst h;refine⟨W.e,fun n hn=>?_,fun n hn=>?_,fun n hn=>?_⟩
  ·show aX σ.h c _ n=_;rw[dN _ _ _ _ (fun e=>hn (by rw[e];exact hc))];exact W.h n hn
  ·show aX σ.used c _ n=_;rw[dN _ _ _ _ (fun e=>hn (by rw[e];exact hc))];exact W.u n hn
  ·have cb:aX σ.used c true n=false:=hn;by_cases e:n=c
   ·subst e;rw[cT] at cb;cases cb
   ·rw[dN _ _ _ _ e] at cb;exact W.p n cb
theorem kY.m8 {ke kh:List Nat} {σ:ak} (W:kY ke kh σ) (c:Nat) (m:Mode):kY ke kh (σ.m8 c m):=by
 cases m with
 |live=>exact W
 |aZ=>exact W
 |aV=>
  simp only[ak.m8];split
  ·rename_i gr ts xs hn;exact⟨W.e,fun n hk=>by
    show aX σ.h c _ n=none;have y6:n≠c:=fun e=>by subst e;rw[W.h n hk] at hn;cases hn
    rw[dN _ _ _ _ y6];exact W.h n hk,W.u,W.p⟩
  ·exact W
theorem kY.KZ {ke kh:List Nat} {σ σ1:ak} {a c:Nat} {m:Mode} (W:kY ke kh σ) (hc:c∈kh) (h:(σ.ca a c).map (fun σ1=>σ1.m8 c m)=some σ1):kY ke kh σ1:=by
 rw[zaB] at h;obtain⟨σ2,e,rfl⟩:=h;exact(W.ca hc e).m8 c m
theorem kY.canon {ke kh:List Nat} {σ σ1:ak} {x:Bool×Nat×Nat×Nat×Mode×List Ty} (W:kY ke kh σ) (hc:x.2.2.2.1∈kh) (h:B3 σ x=some σ1):kY ke kh σ1:=by
 obtain⟨b,n,j,c,m,us⟩:=x;simp only at hc;have jk:some σ=some σ1->kY ke kh σ1:=fun h=>by injection h with h;subst h;exact W
 cases b with
 |true=>
  simp only[B3] at h;split at h
  ·rename_i cs hn;split at h
   ·exact W.KZ hc h
   ·split at h
    ·exact jk h
    ·split at h
     ·rename_i σ2 e;injection h with h;subst h;have W2:=W.ins hc e;have VL:n∈kh:=by
       rcases zbh (n∈kh) with h|h
       ·exact h
       ·rw[W.h n h] at hn;cases hn
      exact⟨W2.e,fun q hq=>by show aX σ2.h n _ q=_;rw[dN _ _ _ _ (fun e=>hq (by rw[e];exact VL))];exact W2.h q hq,W2.u,W2.p⟩
     ·cases h
   ·exact jk h
  ·exact jk h
 |false=>
  simp only[B3] at h;split at h
  ·exact W.KZ hc h
  ·rename_i ts hn;split at h
   ·exact jk h
   ·split at h
    ·rename_i σ2 e;injection h with h;subst h;have W2:=W.ins hc e;have VL:n∈ke:=by
      rcases zbh (n∈ke) with h|h
      ·exact h
      ·rw[W.e n h] at hn;cases hn
     exact⟨fun q hq=>by show aX σ2.env n _ q=_;rw[dN _ _ _ _ (fun e=>hq (by rw[e];exact VL))];exact W2.e q hq,W2.h,W2.u,W2.p⟩
    ·cases h
  ·exact jk h
def Rp (ke kh:List Nat):Cn->ak->(ak->Option ρ)->Option ρ
 |[],σ,k=>k σ
 |x::l,σ,k=>match B3 σ x with
  |some σ1=>match List.elem x.2.2.2.1 kh with
   |true=>σ1.F6 ke kh fun σ2=>Rp ke kh l σ2 k
   |false=>none
  |none=>none
theorem alm {ke kh:List Nat}:∀{cn:Cn} {σ:ak} {k:ak->Option ρ} {r:ρ},kY ke kh σ->Rp ke kh cn σ k=some r->∃σ1,HI σ cn=some σ1/\k σ1=some r
 |[],σ,k,r,W,h=>⟨σ,rfl,h⟩
 |x::l,σ,k,r,W,h=>by
  simp only[Rp] at h;split at h
  ·rename_i σ1 e;split at h
   ·rename_i hm;have W1:=W.canon (by simpa using hm) e;rw[Pu W1] at h;obtain⟨σ2,h1,h2⟩:=alm W1 h;exact⟨σ2,by simp only[HI,e,h1],h2⟩
   ·cases h
  ·cases h
def HL (sh:mK) (kh:List Nat) (cn:Cn) (σ:ak) (k:sh.L.D->Option ρ):Option ρ:=
 (σ.kQ sh.ke kh).F6 sh.ke kh fun σ1=>(σ1.kQ sh.ke kh).F6 sh.ke kh fun σ2=>Rp sh.ke kh cn σ2 fun j8=>(j8.kQ sh.ke kh).F6 sh.ke kh fun σ4=>sh.flat kh σ4 k
theorem Ru {sh:mK} {kh:List Nat} {cn:Cn} {σ:ak} {k:sh.L.D->Option ρ} {r:ρ} (h:HL sh kh cn σ k=some r):
  ∃x,σ.er.head sh.ke kh cn.er=some (sh.un x).er/\k x=some r:=by
 unfold HL at h;rw[Pu (kY.kQ _ _ _),Pu (kY.kQ _ _ _)] at h;obtain⟨σ1,e,h⟩:=alm (kY.kQ _ _ _) h;rw[Pu (kY.kQ _ _ _)] at h;obtain⟨x,h1,h2⟩:=mK.th h (fun s hs=>aaJ _ _ _ s hs) (fun n hn=>⟨aaK _ _ _ n hn,by show(Nat.ble aU n||wM _ _ n)=_;rw[aaL _ _ n hn,zaZ]⟩);have i:=aln e;rw[ak.YA,ak.YA] at i;exact⟨x,by simp only[St.head,i,<-h1,ak.YA],h2⟩
end
inductive bN where
 |skip
 |dB (vL:Bool) (ops:List eD)
 |o9 (ps:List (Nat×Nat)) (ops:List eD)
 |seq (a b:bN)
 |cond (c:dD) (a b:bN)
 |block (id:Nat) (c:bN)
 |join (sh:mK) (kh:List Nat) (cn:Cn) (c:bN)
 |loop (id:Nat) (sh:mK) (kh:List Nat) (cn:Cn) (c:bN)
 |exit (id:Nat)
 |ret
def bN.er:bN->lF
 |.skip=>.skip
 |.dB d ops=>.dB d (ops.map eD.er)
 |.o9 ps ops=>.o9 ps (ops.map eD.er)
 |.seq a b=>.seq a.er b.er
 |.cond c a b=>.cond c.er a.er b.er
 |.block id c=>.block id c.er
 |.join sh kh cn c=>.join sh.ke kh cn.er c.er
 |.loop id sh kh cn c=>.loop id sh.ke kh cn.er c.er
 |.exit id=>.exit id
 |.ret=>.ret
def ak.Xy (σ:ak) (c:dD) (b:Bool):ak:=
 match c with
 |.t n=>σ.lit n b
 |.k _=>σ
def Bu {X ρ:Type} (o:Option ρ):Option (X⊕ρ):=o.ae fun r=>some (.inr r)
theorem GO {X ρ:Type} {o:Option ρ} {s:X⊕ρ} (h:Bu o=some s):∃r,o=some r/\s=.inr r:=by
 unfold Bu at h;rw[gi] at h;obtain⟨r,h1,h2⟩:=h;injection h2 with h2;exact⟨r,h1,h2.symm⟩
def nR (N:Nat) (T:List aE):bN->{ρ:Type}->ak->(ak->Option ρ)->(Nat->ak->Option ρ)->(ak->Option ρ)->Option ρ
 |.skip,_,σ,k,_,_=>k σ
 |.dB _ ops,_,σ,k,_,_=>vi T ops σ k
 |.o9 ps ops,_,σ,k,_,_=>vj T ps ops [] σ k
 |.seq a b,_,σ,k,ex,kr=>nR N T a σ (fun σ1=>nR N T b σ1 k ex kr) ex kr
 |.cond c a b,_,σ,k,ex,kr=>match σ.ev c with
  |.one (.v .bool t)=>aD t (nR N T a (σ.Xy c true) k ex kr) (nR N T b (σ.Xy c false) k ex kr)
  |_=>none
 |.block id c,_,σ,k,ex,kr=>nR N T c σ k (fun i σ1=>match Nat.beq i id with|true=>k σ1|false=>ex i σ1) kr
 |.join sh kh cn c,ρ,σ,k,ex,kr=>
  ct (nR N T c (ρ:=sh.L.D⊕ρ) σ (fun σ1=>HL sh kh cn σ1 fun x=>some (.inl x)) (fun i σ1=>Bu (ex i σ1)) (fun σ1=>Bu (kr σ1))) fun x=>k (sh.un x)
 |.loop id sh kh cn c,ρ,σ,k,ex,kr=>
  HL sh kh cn σ fun x0=>cq N (fun x=>nR N T c (ρ:=sh.L.D⊕ρ) (sh.un x) (fun σ1=>HL sh kh cn σ1 fun x'=>some (.inl x')) (fun i σ1=>Bu (ex i σ1)) (fun σ1=>Bu (kr σ1))) x0
 |.exit id,_,σ,_,ex,_=>ex id σ
 |.ret,_,σ,_,_,kr=>kr σ
def abR {ρ:Type} (k:ak->Option ρ) (ex:Nat->ak->Option ρ) (kr:ak->Option ρ) (r:ρ):vB->Prop
 |.gN τ=>∃fP:ak,τ=fP.er/\k fP=some r
 |.ext i τ=>∃fP:ak,τ=fP.er/\ex i fP=some r
 |.ret τ=>∃fP:ak,τ=fP.er/\kr fP=some r
theorem agV {σ:ak} {c:dD} {b:Bool} (h:σ.ev c=.one (.v .bool b)):(σ.Xy c b).er=σ.er:=by
 cases c with
 |t n=>exact ak.Ja h
 |k v=>rfl
theorem tR {T:List aE}:∀(m:bN) {ρ:Type} {σ:ak} {k:ak->Option ρ} {ex:Nat->ak->Option ρ} {kr:ak->Option ρ} {r:ρ},nR aI T m σ k ex kr=some r->
    ∃o:vB,eY (dr T) m.er σ.er=some o/\abR k ex kr r o
  |.skip,ρ,σ,k,ex,kr,r,h=>⟨.gN σ.er,rfl,σ,rfl,h⟩
  |.dB d ops,ρ,σ,k,ex,kr,r,h=>by
   obtain⟨σ1,h1,h2⟩:=aal (h:vi T ops σ k=some r);exact⟨.gN σ1.er,by simp only[bN.er,eY,h1],σ1,rfl,h2⟩
  |.o9 ps ops,ρ,σ,k,ex,kr,r,h=>by
   obtain⟨σ1,fs,h1,h2,h3⟩:=aak (h:vj T ps ops [] σ k=some r);exact⟨.gN σ1.er,by simp only[bN.er,eY,h1,h2,cond_true],σ1,rfl,h3⟩
  |.seq a b,ρ,σ,k,ex,kr,r,h=>by
   obtain⟨o,h1,h2⟩:=tR a (h:nR aI T a σ (fun σ1=>nR aI T b σ1 k ex kr) ex kr=some r);cases o with
   |gN τ=>
    obtain⟨fP,rfl,h2⟩:=h2;obtain⟨o2,h3,h4⟩:=tR b h2;exact⟨o2,by simp only[bN.er,eY,h1,h3],h4⟩
   |ext i τ=>exact⟨.ext i τ,by simp only[bN.er,eY,h1],h2⟩
   |ret τ=>exact⟨.ret τ,by simp only[bN.er,eY,h1],h2⟩
  |.cond c a b,ρ,σ,k,ex,kr,r,h=>by
   simp only[nR] at h;split at h
   · rename_i t hc;have dJ:σ.er.ev c.er=.one (.c (.bool t)):=by rw[ak.ft,hc];rfl
     cases ht:(t:Bool) with
     |true=>
      rw[ht] at h;simp only[FK] at h;obtain⟨o,h1,h2⟩:=tR a h;rw[agV (by rw[hc,ht])] at h1;exact⟨o,by simp only[bN.er,eY,dJ,ht,if_true,h1],h2⟩
     |false=>
      rw[ht] at h;simp only[CU] at h;obtain⟨o,h1,h2⟩:=tR b h;rw[agV (by rw[hc,ht])] at h1;exact⟨o,by simp only[bN.er,eY,dJ,ht,zap,if_false,h1],h2⟩
   · cases h
  |.block id c,ρ,σ,k,ex,kr,r,h=>by
   obtain⟨o,h1,h2⟩:=tR c (h:nR aI T c σ k (fun i σ1=>match Nat.beq i id with|true=>k σ1|false=>ex i σ1) kr=some r)
   cases o with
   |gN τ=>exact⟨.gN τ,by simp only[bN.er,eY,h1],h2⟩
   |ret τ=>exact⟨.ret τ,by simp only[bN.er,eY,h1],h2⟩
   |ext i τ=>
    obtain⟨fP,rfl,h2⟩:=h2;simp only at h2;split at h2
    · rename_i e;exact⟨.gN fP.er,by simp only[bN.er,eY,h1,if_pos (zac e)],fP,rfl,h2⟩
    · rename_i e;exact⟨.ext i fP.er,by simp only[bN.er,eY,h1,if_neg (BM e)],fP,rfl,h2⟩
  |.join sh kh cn c,ρ,σ,k,ex,kr,r,h=>by
   simp only[nR,ct,zaY] at h;obtain⟨s,hs,h⟩:=h;obtain⟨o,h1,h2⟩:=tR c hs;cases o with
   |gN τ=>
    obtain⟨fP,rfl,h2⟩:=h2;obtain⟨x,h3,h4⟩:=Ru h2;injection h4 with h4;subst h4;exact⟨.gN (sh.un x).er,by simp only[bN.er,eY,h1,h3],sh.un x,rfl,h⟩
   |ext i τ=>
    obtain⟨fP,rfl,h2⟩:=h2;obtain⟨y,h3,rfl⟩:=GO h2;injection h with h;subst h;exact⟨.ext i fP.er,by simp only[bN.er,eY,h1],fP,rfl,h3⟩
   |ret τ=>
    obtain⟨fP,rfl,h2⟩:=h2;obtain⟨y,h3,rfl⟩:=GO h2;injection h with h;subst h;exact⟨.ret fP.er,by simp only[bN.er,eY,h1],fP,rfl,h3⟩
  |.loop id sh kh cn c,ρ,σ,k,ex,kr,r,h=>by
   simp only[nR] at h;obtain⟨x0,h0,h⟩:=Ru h;simp only[bN.er,eY];have cN:∀(n:Nat) (x0:sh.L.D) (Sh:St),Sh.head sh.ke kh cn.er=some (sh.un x0).er->
       cq n (fun x=>nR aI T c (ρ:=sh.L.D⊕ρ) (sh.un x) (fun σ1=>HL sh kh cn σ1 fun x'=>some (.inl x')) (fun i σ1=>Bu (ex i σ1)) (fun σ1=>Bu (kr σ1))) x0=some r->
       ∃o:vB,Hc n (fun σ=>match σ.head sh.ke kh cn.er with|some σ1=>eY (dr T) c.er σ1|none=>none) Sh=some o/\abR k ex kr r o:=by
    intro n;induction n with
    |zero=>intro x0 Sh h0 h;simp[cq] at h
    |succ n ih=>
     intro x0 Sh h0 h;simp only[cq] at h;simp only[Hc,h0];split at h
     · rename_i x' hb;obtain⟨o,h1,h2⟩:=tR c hb;cases o with
       |gN τ=>
        obtain⟨fP,rfl,h2⟩:=h2;obtain⟨x2,h3,h4⟩:=Ru h2;injection h4 with h4;injection h4 with h4;subst h4;simp only[h1];exact ih x2 _ h3 h
       |ext i τ=>
        obtain⟨fP,rfl,h2⟩:=h2;obtain⟨y,_,e⟩:=GO h2;cases e
       |ret τ=>
        obtain⟨fP,rfl,h2⟩:=h2;obtain⟨y,_,e⟩:=GO h2;cases e
     · rename_i y hb;injection h with h;subst h;obtain⟨o,h1,h2⟩:=tR c hb;cases o with
       |gN τ=>
        obtain⟨fP,rfl,h2⟩:=h2;obtain⟨x2,h3,h4⟩:=Ru h2;injection h4 with h4;cases h4
       |ext i τ=>
        obtain⟨fP,rfl,h2⟩:=h2;obtain⟨y',h3,e⟩:=GO h2;injection e with e;subst e;exact⟨.ext i fP.er,by simp only[h1],fP,rfl,h3⟩
       |ret τ=>
        obtain⟨fP,rfl,h2⟩:=h2;obtain⟨y',h3,e⟩:=GO h2;injection e with e;subst e;exact⟨.ret fP.er,by simp only[h1],fP,rfl,h3⟩
     · cases h
   exact cN aI x0 σ.er h0 h
  |.exit id,ρ,σ,k,ex,kr,r,h=>⟨.ext id σ.er,rfl,σ,rfl,h⟩
  |.ret,ρ,σ,k,ex,kr,r,h=>⟨.ret σ.er,rfl,σ,rfl,h⟩
def tO:lF->Bool
 |.skip|.ret|.exit _=>true
 |.dB _ ops|.o9 _ ops=>ops.all fun o=>Nat.ble o.op.fG 1
 |.seq a b=>tO a&&tO b
 |.cond _ a b=>tO a&&tO b
 |.block _ c=>tO c
 |_=>false
structure gC (σ σ':St):Prop where
 h:∀n,σ.used n=true->σ'.h n=σ.h n
 u:∀n,σ.used n=true->σ'.used n=true
theorem gC.refl (σ:St):gC σ σ:=⟨fun _ _=>rfl,fun _ h=>h⟩
theorem gC.trans {σ σ1 σ2:St} (a:gC σ σ1) (b:gC σ1 σ2):gC σ σ2:=⟨fun n hn=>(b.h n (a.u n hn)).trans (a.h n hn),fun n hn=>b.u n (a.u n hn)⟩
theorem gC.put (σ:St) (d:Option Nat) (v:aA):gC σ (σ.put d v):=by cases d<;>exact⟨fun _ _=>rfl,fun _ h=>h⟩
theorem gC.dX:∀{l:List (Nat×aK)} {σ σ':St},σ.dX l=some σ'->gC σ σ'
 |[],σ,σ',h=>by simp only[St.dX] at h;injection h with h;subst h;exact gC.refl _
 |(n,b)::l,σ,σ',h=>by
  simp only[St.dX] at h;split at h
  ·rename_i σ1 e;obtain⟨hu,rfl⟩:=qH e;refine gC.trans ⟨fun m hm=>?_,fun m hm=>?_⟩ (gC.dX h)
   ·show aX σ.h n (some b) m=_;rw[dN _ _ _ _ (fun e=>by subst e;rw[hu] at hm;cases hm)]
   ·show aX σ.used n true m=true;rw[ma];split
    ·rfl
    ·exact hm
  ·cases h
theorem gC.exec {T:br} {d:Option Nat} {op:bm} {σ σ':St} (hc:Nat.ble op.fG 1=true) (h:exec T d op σ=some σ'):gC σ σ':=by
 rw[tf T d op σ (zaP hc)] at h;cases hr:rd T d op σ.ev σ.h with
 |none=>rw[hr] at h;cases h
 |some x=>
  rw[hr] at h;simp only[zaI,fin] at h;rw[zaB] at h;obtain⟨σ1,h1,rfl⟩:=h;exact(gC.dX h1).trans (gC.put _ _ _)
theorem gC.gv {T:br} {o:cZ} {σ σ':St} (hc:Nat.ble o.op.fG 1=true) (h:gv T o σ=some σ'):gC σ σ':=by
 unfold Am.gv at h;split at h
 ·exact gC.exec hc h
 ·split at h
  ·split at h
   ·exact gC.exec hc h
   ·injection h with h;subst h;exact gC.put _ _ _
  ·injection h with h;subst h;exact gC.put _ _ _
  ·cases h
theorem gC.ni {T:br}:∀{os:List cZ} {σ σ':St},os.all (fun o=>Nat.ble o.op.fG 1)=true->ni T os σ=some σ'->gC σ σ'
 |[],σ,σ',_,h=>by simp only[Am.ni] at h;injection h with h;subst h;exact gC.refl _
 |o::os,σ,σ',hc,h=>by
  simp only[zaA,zai] at hc;simp only[Am.ni] at h;split at h
  ·rename_i σ1 e;exact(gC.gv hc.1 e).trans (gC.ni hc.2 h)
  ·cases h
theorem gC.pP {T:br}:∀{os:List cZ} {eE fs:List (Option FP)} {σ σ':St},os.all (fun o=>Nat.ble o.op.fG 1)=true->pP T os eE σ=some (fs,σ')->gC σ σ'
 |[],eE,fs,σ,σ',_,h=>by simp only[Am.pP] at h;injection h with h;injection h with _ h;subst h;exact gC.refl _
 |o::os,eE,fs,σ,σ',hc,h=>by
  simp only[zaA,zai] at hc;simp only[Am.pP] at h;split at h
  ·rename_i σ1 e;exact(gC.gv hc.1 e).trans (gC.pP hc.2 h)
  ·cases h
def vB.st:vB->St
 |.gN σ=>σ
 |.ext _ σ=>σ
 |.ret σ=>σ
theorem Ek {T:br}:∀(mc:lF) {σ:St} {o:vB},tO mc=true->eY T mc σ=some o->gC σ o.st
 |.skip,σ,o,_,h=>by simp only[eY] at h;injection h with h;subst h;exact gC.refl _
 |.ret,σ,o,_,h=>by simp only[eY] at h;injection h with h;subst h;exact gC.refl _
 |.exit i,σ,o,_,h=>by simp only[eY] at h;injection h with h;subst h;exact gC.refl _
 |.dB d ops,σ,o,hc,h=>by
  simp only[eY] at h;split at h
  ·rename_i σ1 e;injection h with h;subst h;exact gC.ni hc e
  ·cases h
 |.o9 ps ops,σ,o,hc,h=>by
  simp only[eY] at h;split at h
  ·rename_i fs σ1 e;cases hp:zF ps fs with
   |true=>rw[hp] at h;injection h with h;subst h;exact gC.pP hc e
   |false=>rw[hp] at h;cases h
  ·cases h
 |.seq a b,σ,o,hc,h=>by
  simp only[tO,zai] at hc;simp only[eY] at h;cases e:eY T a σ with
  |none=>rw[e] at h;cases h
  |some o1=>
   have h1:=Ek a hc.1 e;rw[e] at h;cases o1 with
   |gN σ1=>exact h1.trans (Ek b hc.2 h)
   |ext i σ1=>injection h with h;subst h;exact h1
   |ret σ1=>injection h with h;subst h;exact h1
 |.cond c a b,σ,o,hc,h=>by
  simp only[tO,zai] at hc;simp only[eY] at h;split at h
  ·split at h
   ·exact Ek a hc.1 h
   ·exact Ek b hc.2 h
  ·cases h
 |.block id c,σ,o,hc,h=>by
  simp only[tO] at hc;simp only[eY] at h;cases e:eY T c σ with
  |none=>rw[e] at h;cases h
  |some o1=>
   have h1:=Ek c hc e;rw[e] at h;cases o1 with
   |gN σ1=>injection h with h;subst h;exact h1
   |ret σ1=>injection h with h;subst h;exact h1
   |ext i σ1=>
    simp only at h;split at h<;>(injection h with h;subst h;exact h1)
 |.join ..,_,_,hc,_=>by simp[tO] at hc
 |.loop ..,_,_,hc,_=>by simp[tO] at hc
def St.HG (σ:St) (ms:List bK):Option (Nat×Nat):=
 match σ.vb ms with
 |some [.one (.sl n sz lo len)]=>if n=aU then match σ.h aU with
  |some (.row _ _ rs (_::_))=>if sz=rs then some (lo,len) else none
  |_=>none
  else none
 |_=>none
def Rh (T:br) (mc:lF) (aH:List bK) (sig:bi) (ds:List Dv):Option (Nat×Nat):=
 match eT sig (ds.map (·.2)) with
 |[_]=>match eY T mc (qG sig ds) with
  |some (.gN σ)=>σ.HG aH
  |some (.ret σ)=>σ.HG aH
  |_=>none
 |_=>none
section
variable {B:Nat} {E:Ex} {w0 w w':World} {G G':Gh} {N:Nat} {h h':Nat->Option aK} {used:Nat->Bool}
variable {P:Program} {T:br} {a:Act} {σ σ':St} {Q:Exit->Act->World->Prop}
theorem atC (sig:bi) (ds:List Dv):(qG sig ds).h aU=((eT sig (ds.map (·.2)))[aU - aU]?).bind nQ:=by
 have cN:∀n,aU<=n->(qG sig ds).h n=((eT sig (ds.map (·.2)))[n - aU]?).bind nQ:=fun n hn=>if_pos hn;exact cN aU (zaw aU)
theorem atD (sig:bi) (ds:List Dv):(qG sig ds).used aU=true:=by
 have cN:∀n,aU<=n->(qG sig ds).used n=true:=fun n hn=>zao hn;exact cN aU (zaw aU)
theorem ao2 (x:Mode×PC):(uo [x]).rB aU=some (rA x.2):=by
 have cN:∀n,aU<=n->n - aU=0->(uo [x]).rB n=some (rA x.2):=fun n hn h0=>by
  show(if aU<=n then([x][n - aU]?).map _ else none)=_
  rw[if_pos hn,h0];rfl
 exact cN aU (zaw aU) (zaU aU)
theorem aDl (hT:qm P T) (hm:P.follows .mixedOrders=true) {f:FuncId} {fn:Func} {c:Code} {mc:lF} {ms:List bK} {sig:bi} {M:List Dv->Option (Nat×Nat)} (hf:P.funcs[f]? =some fn) (hb:fn.body=some c)
  (hc:lc P fn.ntmps c mc=true) (hr:pJ P fn.results.toList ms=true) (P0:tO mc=true) (hM:∀ds lo len,M ds=some (lo,len)->ds.length<=fn.ntmps/\Rh T mc ms sig ds=some (lo,len)):Fp P f sig M:=by
 intro ds lo len mP w vals pas ha;obtain⟨hN,c9⟩:=hM ds lo len mP;refine calls_of_wp hf hb ?_;have r0:=R.Ke (N:=fn.ntmps) ha hN;have ig:∀p∈pas,∀pc∈p.ps,Good w pc:=by
  intro p hp pc bU;obtain⟨i,hi,rfl⟩:=zat hp;have hd:ds[i]? =some (ds[i]'(by rw[<-ha.l2];exact hi)):=zaa _;have hv:vals[i]? =some (vals[i]'(by rw[ha.l1,<-ha.l2];exact hi)):=zaa _;exact(ha.at_ i _ _ _ hd hv (zaa hi)).2.1 pc bU
 have hg:∀x∈eT sig (pas.map (·.ps)),Good w x.2:=by
  intro x hx;obtain⟨l,hl,ot⟩:=Je hx;obtain⟨p,hp,rfl⟩:=zar.1 hl;exact ig p hp _ ot
 have JE:ds.map (·.2)=(pas.map (·.ps)).map fun l=>l.map PC.er:=by
  apply zaz;intro i;simp only[zae];cases hd:ds[i]? with
  |none=>
   have:ds.length<=i:=zax.1 hd;rw[zam (by rw[ha.l2];exact this)];rfl
  |some d=>
   have hi:=(zag.1 hd).1;have hv:vals[i]? =some (vals[i]'(by rw[ha.l1];exact hi)):=zaa _;have hp:pas[i]? =some (pas[i]'(by rw[ha.l2];exact hi)):=zaa _;have:=(ha.at_ i d _ _ hd hv hp).1;rw[hp];simp only[zab];rw[this]
 have JJ:(qG sig ds).h aU=((eT sig (ds.map (·.2)))[aU - aU]?).bind nQ:=atC sig ds;have hpu:(qG sig ds).used aU=true:=atD sig ds;unfold Rh at c9;rw[JE,FW] at c9 JJ;generalize oR:eT sig (pas.map (·.ps))=fl at c9 r0 hg JJ;have fT:=ha.ok;rw[oR] at fT;split at c9
 case h_2=>cases c9
 rename_i y hy;obtain⟨x,rfl⟩:∃x,fl=[x]:=by
  match fl,hy with
  |[x],_=>exact⟨x,rfl⟩
 obtain⟨m,pc⟩:=x;obtain⟨sz,Tp,cap,px,epc,fO,rh,vW⟩:=(fT (m,pc) (by simp)).gd;dsimp only at epc vW;subst epc;have Gm:(qG sig ds).h aU=some (.row false m sz (px.map fun e=>e.map PC.er)):=by
  rw[JJ,zaU];simp[nQ,PC.fN]
 have fin:∀{σ:St} {a:Act} {w':World} {G:Gh},σ.h aU=(qG sig ds).h aU->σ.HG ms=some (lo,len)->R w.heap.size (uo [(m,.list sz Tp cap px)]) w fn.ntmps σ a w' G->a.defers=[]/\∃v,(results fn a.tmps).run P w'=.ok v w'/\
   ∃(m':Mode) (bu oO:Nat) (a':Option Addr) (xs:List (List PC)) (v':Value),[(m,PC.list sz Tp cap px)]=[(m',.list bu a' oO xs)]/\(Ending.returned v)=.returned v'/\xs≠[]/\
   (∃(b o:Nat) (a2:Option Addr),a'=some (ad b o)/\v'=.slice a2 len (oO - lo)/\lo+len<=oO/\((lo<oO\/lo=0)->a2=some (ad b (o+lo*bu))))/\
   Fr w.heap.size (AJ [(m',.list bu a' oO xs)]) w w'/\∃q:PC,q.er=(PC.list bu a' oO xs).er/\sU w' m' (.list bu a' oO xs) q:=by
  intro σ a w' G nA hx r;rw[Gm] at nA;unfold St.HG at hx;split at hx
  ·rename_i n szq Qz Qx e1;split at hx
   ·rename_i hn;subst hn;rw[nA] at hx;split at hx
    ·rename_i gr m0 wN e0 es0 f9;split at hx
     case isFalse=>cases hx
     rename_i asx;injection hx with hx;injection hx with kG fw;subst kG fw;injection f9 with f9;injection f9 with _ _ za je;have aR:px≠[]:=by rintro rfl;cases je
     have jc:=hg (m,.list sz Tp cap px) (by simp);rcases jc.cases with h0|⟨_,mr,b,o,rfl⟩
     ·exact absurd h0 aR
     have e2:x6 σ 0 ([(m,PC.list sz (some (ad b o)) cap px)].map fun x=>(x.1,x.2.er))=some [.list sz (px.map fun e=>e.map PC.er)]:=by
      simp only[zad,za9,x6,Ea,PC.fN,za7,nA];rw[if_pos ⟨trivial,trivial,trivial,vW,trivial⟩]
     obtain⟨us,u1,u2,_,u3⟩:=K9 r hr e1;obtain⟨v,rfl⟩:∃v,us=[v]:=by
      match us,u2 with
      |[v],_=>exact⟨v,rfl⟩
     have hv:=(u3 0 _ v rfl rfl).kO (by simp);have lv:nh (G.g aU) szq Qz Qx v:=hv.1 (by rw[nA];simp);have asw:szq=sz:=asx.trans za.symm;have xy:=ao2 (m,PC.list sz (some (ad b o)) cap px);obtain⟨p1,p2,p3,p4,p6,_⟩:=r.rB _ _ _ xy nA;rw[zG aR] at p1 p2 p3 p4;dsimp only at p1 p2 p3 p4;obtain⟨q,oq,k1,k2,k3,_⟩:=IC fT hg r e2 (i:=0) rfl;refine⟨r.defers,_,Rk fn a.tmps u1,m,sz,cap,some (ad b o),px,v,rfl,rfl,aR,?_,⟨r.fr.os,r.fr.tape,r.fr.output,r.fr.size,r.fr.block,r.fr.kS⟩,q,?_,k3⟩
     ·rcases lv with⟨h0,_⟩|⟨_,a2,h1,h2,h3⟩
      ·rw[p1] at h0;cases h0
      ·rw[p2,p3,p4] at*
       subst asw;exact⟨b,o,a2,rfl,h1,h2,h3⟩
     ·rw[k2];simp only[zaK,zan] at k1;rw[<-k1,PC.fN]
    ·cases hx
   ·cases hx
  ·cases hx
 split at c9
 ·rename_i σ e;have nA:=(Ek mc P0 e).h aU hpu;exact mO hT hm mc hc e r0 fun a w' G r=>fin nA c9 r
 ·rename_i σ e;have nA:=(Ek mc P0 e).h aU hpu;exact mO hT hm mc hc e r0 fun a w' G r=>fin nA c9 r
 ·cases c9
end
def St.win (σ:St) (i lo len:Nat):St:=σ.put (some i) (.one (.sl aU 1 lo len))
def Rj (T:br) (mc:lF) (aH:List bK) (i lo len:Nat) (ds:List Dv):Option (List Dv×List C):=
 match eY T mc ((qG (nc i) ds).win i lo len) with
 |some (.gN σ)=>σ.yd aH (eT (nc i) (ds.map (·.2)))
 |some (.ret σ)=>σ.yd aH (eT (nc i) (ds.map (·.2)))
 |_=>none
theorem adE {α:Type}:∀{i:Nat} {xss:List (List α)} {x:α},xss[i]? =some [x]->eT (nc i) xss=[(.aZ,x)]
 |0,[],_,h=>by cases h
 |0,xs::xss,x,h=>by
  injection h with h;subst h;show gj [some .aZ] [x]++eT [] xss=_;rfl
 |i+1,[],_,h=>by cases h
 |i+1,xs::xss,x,h=>by
  show gj [] xs++eT (nc i) xss=_;rw[adE (i:=i) (xss:=xss) (x:=x) h];rfl
section
variable {B:Nat} {E:Ex} {w0 w w':World} {G G':Gh} {N:Nat} {h h':Nat->Option aK} {used:Nat->Bool}
variable {P:Program} {T:br} {a:Act} {σ σ':St} {Q:Exit->Act->World->Prop}
theorem anb {vals:List Value} {v:Value} {i N:Nat} (hi:i<vals.length):
  ({tmps:=(vals.set i v).toArray++Array.replicate (N - (vals.set i v).toArray.size) undef,defers:=[]}:Act)=({tmps:=vals.toArray++Array.replicate (N - vals.toArray.size) undef,defers:=[]}:Act).put (some i) v:=by
 simp only[Act.put];congr 1;apply Array.ext';simp[List.set_append,hi]
theorem aDv (hT:qm P T) (hm:P.follows .mixedOrders=true) {f:FuncId} {fn:Func} {c:Code} {mc:lF} {ms:List bK} {i:Nat} {M:List Dv->Option (List Dv×List C)} (hf:P.funcs[f]? =some fn) (hb:fn.body=some c)
  (hc:lc P fn.ntmps c mc=true) (hr:pJ P fn.results.toList ms=true)
  (hM:∀lo len ds rs eV,M (dI lo::dI (lo+len)::ds)=some (rs,eV)->ds.length<=fn.ntmps/\Rj T mc ms i lo len ds=some (rs,eV)):CL P f i M:=by
 intro lo len ds rs eV ys mP hdi w vals pas ha b0 o0 OB n0 a' V0 c8 jF U4;obtain⟨hN,c9⟩:=hM lo len ds rs eV mP;refine calls_of_wp hf hb ?_;have gk:i<ds.length:=(zag.1 hdi).1;have Gp:i<vals.length:=by rw[ha.l1];exact gk
 have ig:∀p∈pas,∀pc∈p.ps,Good w pc:=by
  intro p hp pc bU;obtain⟨i,hi,rfl⟩:=zat hp;have hd:ds[i]? =some (ds[i]'(by rw[<-ha.l2];exact hi)):=zaa _;have hv:vals[i]? =some (vals[i]'(by rw[ha.l1,<-ha.l2];exact hi)):=zaa _;exact(ha.at_ i _ _ _ hd hv (zaa hi)).2.1 pc bU
 have VO:pas[i]? =some (pas[i]'(by rw[ha.l2];exact gk)):=zaa _;obtain⟨k1,k2,k3⟩:=ha.at_ i _ _ _ hdi V0 VO;generalize pas[i]'(by rw[ha.l2];exact gk)=p at VO k1 k2 k3;obtain⟨pk,pps,pb,po⟩:=p;injection k1 with k1a Km;simp only at k1a Km k2 k3;subst k1a;simp only at k3;obtain⟨pc,rfl⟩:∃pc,pps=[pc]:=by
  have hl:=congrArg List.length k3;rw[zaf] at hl;match pps,hl with
  |[pc],_=>exact⟨pc,rfl⟩
 injection k3 with k3 _;injection Km with Km _;obtain⟨sK,Fs,s6,HA,rfl⟩:∃sK Fs s6 HA,pc=.list sK Fs s6 HA:=by
  cases pc with
  |int k n=>cases k3
  |bool b=>cases k3
  |list sz a cap xs=>exact⟨_,_,_,_,rfl⟩
 rw[PC.fN] at Km;injection Km with z1 z2;subst z1;rw[PC.val] at k3;injection k3 with z3 z4 z5;subst z3 z4 z5;have jc:=k2 _ (List.mem_singleton.2 rfl);have aR:HA≠[]:=by rintro rfl;simp at c8
 have Gk:eT (nc i) (pas.map (·.ps))=[(.aZ,PC.list 1 (some (ad b0 o0)) s6 HA)]:=adE (by rw[zae,VO];rfl);have mr:HA.length<=s6:=by
  rcases jc.cases with h0|⟨_,h1,_⟩
  ·exact absurd h0 aR
  ·exact h1
 have r1:=R.Ke (N:=fn.ntmps) ha hN;have r0:=r1.put (d:=some i) (x:=.one (.sl aU 1 lo len)) (v:=.slice a' len (s6 - lo)) (RA.jP rfl (by
   intro _;have hg:(qx w (eT (nc i) (pas.map (·.ps)))).g aU=⟨false,b0,o0,s6,HA,none⟩:=by
    rw[Gk];simp only[qx,zaU];exact zG aR
   show nh _ 1 lo len _;rw[hg];exact .inr ⟨rfl,a',rfl,by simp only;omega,U4⟩)) (fun m hm=>zao (zbg (show aU=m from(show m=aU from hm).symm))) (fun n hn=>by
   injection hn with hn;subst hn;omega)
 rw[<-anb Gp] at r0;have hg:∀x∈eT (nc i) (pas.map (·.ps)),Good w x.2:=by
  intro x hx;obtain⟨l,hl,ot⟩:=Je hx;obtain⟨p,hp,rfl⟩:=zar.1 hl;exact ig p hp _ ot
 have JE:ds.map (·.2)=(pas.map (·.ps)).map fun l=>l.map PC.er:=by
  apply zaz;intro i;simp only[zae];cases hd:ds[i]? with
  |none=>
   have:ds.length<=i:=zax.1 hd;rw[zam (by rw[ha.l2];exact this)];rfl
  |some d=>
   have hi:=(zag.1 hd).1;have hv:vals[i]? =some (vals[i]'(by rw[ha.l1];exact hi)):=zaa _;have hp:pas[i]? =some (pas[i]'(by rw[ha.l2];exact hi)):=zaa _;have:=(ha.at_ i d _ _ hd hv hp).1;rw[hp];simp only[zab];rw[this]
 unfold Rj at c9;rw[JE,FW] at c9;unfold Th;generalize oR:eT (nc i) (pas.map (·.ps))=fl at c9 r0 hg;have fT:=ha.ok;rw[oR] at fT;have fin:∀{σ:St} {a:Act} {w':World} {G:Gh},σ.yd ms (fl.map fun x=>(x.1,x.2.er))=some (rs,eV)->R w.heap.size (uo fl) w fn.ntmps σ a w' G->a.defers=[]/\∃v,(results fn a.tmps).run P w'=.ok v w'/\
   ∃bO:List (K×List PC),bO.map (fun p=>(p.1,p.2.map PC.er))=rs/\(Ending.returned v)=.returned (ye bO)/\(∀p∈bO,p.1≠ .ptr/\(p.1=.one->p.2.length=1))/\
   CK w' w.heap.size (bO.flatMap (·.2))/\Fr w.heap.size (AJ fl) w w'/\
   ∃qs:List PC,qs.map PC.er=eV/\qs.length=fl.length/\∀(i:Nat) (x:Mode×PC) (q:PC),fl[i]? =some x->qs[i]? =some q->sU w' x.1 x.2 q:=by
  intro σ a w' G hx r;unfold St.yd at hx;split at hx
  ·rename_i vh Yb e1 e2;injection hx with hx;injection hx with kG fw;subst kG fw;have hE:∀b,(uo fl) b->∃n gr m sz xs,aU<=n/\σ.h n=some (.row gr m sz xs)/\m≠ .aV/\qu G n b/\(m=.aZ->¬bY b (G.g n).px):=by
    rintro b ⟨x,wa,J0⟩;obtain⟨i,hi⟩:=zay wa;obtain⟨q,o,_,_,_,gr,sz,xs,k1,k2,k3,k4⟩:=IC fT hg r e2 hi;exact⟨aU+i,gr,x.1,sz,xs,zaQ _ _,k1,k4,k2 b J0,fun hm=>k3 hm b⟩
   obtain⟨bO,p1,p2,p3,p4⟩:=YB (r.mF hE) hr e1;obtain⟨ol,_⟩:=Q0 e2;have hq:∀i:Fin fl.length,∃q,Yb[i.1]? =some (PC.er q)/\sU w' (fl[i.1]).1 (fl[i.1]).2 q:=by
    intro i;obtain⟨q,o,k1,k2,k3,_⟩:=IC fT hg r e2 (zaa i.2);exact⟨q,by rw[k1,k2],k3⟩
   refine⟨r.defers,_,p2,bO,p1,rfl,p3,p4,⟨r.fr.os,r.fr.tape,r.fr.output,r.fr.size,r.fr.block,r.fr.kS⟩,List.ofFn fun i=>Classical.choose (hq i),?_,by simp,fun i x q hi mS=>?_⟩
   ·apply zaz;intro i;simp only[zae];by_cases hi:i<fl.length
    ·rw[zaM,dif_pos hi];exact(zaF (hq ⟨i,hi⟩)).1.symm
    ·rw[zam (by simp;omega),zam (by rw[ol];simp;omega)];rfl
   ·obtain⟨hl,e⟩:=zag.1 hi;rw[zaM,dif_pos hl] at mS;injection mS with mS;subst mS;subst e;exact(zaF (hq ⟨i,hl⟩)).2
  ·cases hx
 split at c9
 ·rename_i σ e;exact mO hT hm mc hc e r0 fun a w' G r=>fin c9 r
 ·rename_i σ e;exact mO hT hm mc hc e r0 fun a w' G r=>fin c9 r
 ·cases c9
end
end Go.Am
