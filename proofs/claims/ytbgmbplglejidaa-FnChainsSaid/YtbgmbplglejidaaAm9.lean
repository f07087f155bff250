/- Am6, Am7, Am8, Am9: parts of the proof. No condition. -/
import Derived.Test.YtbgmbplglejidaaAm5
set_option linter.unusedVariables false
section
namespace Go.Am
section
variable {B:Nat} {E:Ex} {w0 w w':World} {G G':Gh} {h h':Nat->Option ao} {used used':Nat->Bool} {tk:List PC}
theorem bc.qp (S:Nat->Prop) (u:Nat->Prop):bc w G h u w ⟨fun b=>G.Im b\/S b,G.g⟩ h:=
 ⟨fun _ h=>.inl h,fun _ _ _=>rfl,fun _ _ h=>⟨h,rfl,rfl,rfl,rfl,rfl⟩,fun n gr sz xs _ hn=>⟨⟨gr,xs,hn⟩,fun k j pc h1 h2=>⟨pc,h1,rfl,h2⟩⟩⟩
theorem HR.qp (H:HR B E w G h used tk) (S:Nat->Prop) (h1:∀b,S b->b<w.heap.size) (h2:∀b,S b->∀n,h n≠none->(G.g n).nl=false->b≠(G.g n).b)
  (h3:∀b,S b->∀n gr sz xs,h n=some (.row gr .live sz xs)->¬aV b (G.g n).px) (h4:∀b,S b->B<=b\/E b\/E.a b):HR B E w ⟨fun b=>G.Im b\/S b,G.g⟩ h used tk:=by
 refine⟨H.iG,H.gH,fun n cs hn=>?_,fun n gr m sz xs hn=>?_,fun n hn hl=>?_,H.inj,?_,fun b hb=>hb.elim (H.pf b) (h4 b),H.fJ,H.live,fun i pc hi=>?_,H.vc,H.qQ⟩
 ·obtain⟨a1,a2,a3⟩:=H.box n cs hn
  refine⟨a1,a2,fun j c hj=>?_⟩
  obtain⟨v,b1,b2,b3⟩:=a3 j c hj
  exact⟨v,b1,b2,b3.fe (bc.qp S (fun n=>used n=true)) fun q hq=>H.gH n cs c q hn (List.mem_of_getElem? hj) hq⟩
 ·have hr:=H.row n gr m sz xs hn
  refine⟨hr.pos,hr.er,hr.nl,hr.dR,hr.room,?_⟩
  have hm:=hr.mode
  cases m with
  |aD=>exact fun b hb=>.inl (hm b hb)
  |ae=>exact⟨fun b hb=>⟨.inl (hm.1 b hb).1,(hm.1 b hb).2⟩,hm.2⟩
  |live=>exact⟨fun b hb=>⟨fun hi=>hi.elim (hm.1 b hb).1 (fun hs=>h3 b hs n gr sz xs hn hb),(hm.1 b hb).2⟩,hm.2⟩
 ·obtain⟨a1,a2,a3⟩:=H.own n hn hl
  exact⟨fun hi=>hi.elim a1 (fun hs=>h2 _ hs n hn hl rfl),a2,a3⟩
 ·exact fun b hb=>hb.elim (H.fW b) (h1 b)
 ·obtain⟨a1,a2⟩:=H.qP i pc hi
  exact⟨a1,fun b hb=>⟨.inl (a2 b hb).1,(a2 b hb).2⟩⟩
theorem HR.xg {l:List PC} (H:HR B E w G h used (tk++l)):HR B E w G h used tk:=by
 have e:∀(i:Nat) (pc:PC),tk[i]? =some pc->(tk++l)[i]? =some pc:=fun i pc hi=>by
  rw[List.getElem?_append_left (List.getElem?_eq_some_iff.1 hi).1];exact hi
 exact⟨H.iG,H.gH,H.box,H.row,H.own,H.inj,H.fW,H.pf,H.fJ,H.live,fun i pc hi=>H.qP i pc (e i pc hi),fun i j pc dg b jw h1 h2=>H.vc i j pc dg b jw (e i pc h1) (e j dg h2),
  fun i pc n gr m sz xs b hi=>H.qQ i pc n gr m sz xs b (e i pc hi)⟩
theorem HR.Vf (H:HR B E w G h used tk) {pc:PC} (h1:Sep pc) (h2:∀b,aS b pc->G.Im b/\dD w b/\(B<=b\/E b))
  (h3:∀(i:Nat) (q:PC) (b:Nat),tk[i]? =some q->aS b q->¬aS b pc)
  (h4:∀n gr m sz xs b,h n=some (.row gr m sz xs)->m≠ .aD->aS b pc->¬aV b (G.g n).px):HR B E w G h used (tk++[pc]):=by
 have e:∀(i:Nat) (q:PC),(tk++[pc])[i]? =some q->(i<tk.length/\tk[i]? =some q)\/(i=tk.length/\q=pc):=fun i q hi=>by
  rcases Nat.lt_trichotomy i tk.length with bG|d9|yj
  ·rw[List.getElem?_append_left bG] at hi;exact .inl ⟨bG,hi⟩
  ·subst d9;simp at hi;exact .inr ⟨rfl,hi.symm⟩
  ·rw[List.getElem?_eq_none (by simp;omega)] at hi;cases hi
 refine⟨H.iG,H.gH,H.box,H.row,H.own,H.inj,H.fW,H.pf,H.fJ,H.live,fun i q hi=>?_,fun i j q q' b jw hi hj hb=>?_,fun i q n gr m sz xs b hi hn hm hb=>?_⟩
 ·rcases e i q hi with⟨_,hi⟩|⟨_,rfl⟩
  ·exact H.qP i q hi
  ·exact⟨h1,h2⟩
 ·rcases e i q hi with⟨_,hi'⟩|⟨ei,eq⟩
  ·rcases e j q' hj with⟨_,ir⟩|⟨_,Xp⟩
   ·exact H.vc i j q q' b jw hi' ir hb
   ·rw[Xp];exact h3 i q b hi' hb
  ·rcases e j q' hj with⟨_,ir⟩|⟨ej,Xp⟩
   ·rw[eq] at hb;exact fun aY=>h3 j q' b ir aY hb
   ·omega
 ·rcases e i q hi with⟨_,hi⟩|⟨_,rfl⟩
  ·exact H.qQ i q n gr m sz xs b hi hn hm hb
  ·exact h4 n gr m sz xs b hn hm hb
theorem Sep.kP {pc:PC} (hs:pc.er.eN=true):Sep pc/\∀b,¬aS b pc:=by
 cases pc with
 |int k n=>exact⟨.int k n,fun b hb=>by cases hb⟩
 |bool b=>exact⟨.bool b,fun b hb=>by cases hb⟩
 |list sz a cap xs=>simp[PC.dJ,C.eN] at hs
theorem pT {n m:Nat} {b:ao} (hm:au h n none m=some b):h m=some b/\m≠n:=by
 by_cases bE:m=n
 ·subst bE;rw[bF] at hm;cases hm
 ·rw[cq _ _ _ _ bE] at hm;exact⟨hm,bE⟩
theorem Ax {n m:Nat} (hm:au h n none m≠none):h m≠none/\m≠n:=by
 cases hh:au h n none m with
 |none=>exact absurd hh hm
 |some b=>obtain⟨a,b⟩:=pT hh;exact⟨by rw[a];simp,b⟩
def KB (p:PB):Nat->Prop:=fun b=>(p.nl=false/\b=p.b)\/aV b p.px
theorem HR.freeze (H:HR B E w G h used tk) {n:Nat} {gr:Bool} {m:Mode} {rs:Nat} {xs:List (List C)} (hn:h n=some (.row gr m rs xs)):
  HR B E w ⟨fun b=>G.Im b\/KB (G.g n) b,G.g⟩ (au h n none) used tk:=by
 have hr:=H.row n gr m rs xs hn
 have bM:h n≠none:=by rw[hn];simp
 have f0:∀b,aV b (G.g n).px->G.Im b\/m=.live:=fun b hb=>by
  have hm:=hr.mode
  cases m with
  |aD=>exact .inl (hm b hb)
  |ae=>exact .inl (hm.1 b hb).1
  |live=>exact .inr rfl
 refine(H.del n).qp (KB (G.g n)) (fun b hb=>?_) (fun b hb q hq hl=>?_) (fun b hb q bk aJ aq hq cF=>?_) (fun b hb=>?_)
 ·rcases hb with⟨h1,rfl⟩|hb
  ·exact(H.own n bM h1).2.2
  ·exact H.qI hn hb
 ·obtain⟨nj,fD⟩:=Ax hq
  rcases hb with⟨h1,rfl⟩|hb
  ·exact H.inj n q bM nj (Ne.symm fD) h1 hl
  ·rcases f0 b hb with hi|rfl
   ·rintro rfl;exact(H.own q nj hl).1 hi
   ·exact H.live n gr rs xs hn b hb q nj hl
 ·obtain⟨nj,fD⟩:=pT hq
  rcases hb with⟨h1,rfl⟩|hb
  ·exact H.live q bk aJ aq nj _ cF n bM h1 rfl
  ·rcases f0 b hb with hi|rfl
   ·exact((H.row q bk .live aJ aq nj).mode.1 b cF).1 hi
   ·exact H.fJ n q gr .live rs xs bk .live aJ aq hn nj (by simp) (by simp) (Ne.symm fD) b hb cF
 ·rcases hb with⟨h1,rfl⟩|hb
  ·exact(H.own n bM h1).2.1.imp id .inl
  ·rcases f0 b hb with hi|rfl
   ·exact H.pf b hi
   ·exact(hr.mode.1 b hb).2.2.imp id .inl
theorem ij.sub {px:List (List PC)} (hs:ij px) (lo len:Nat):ij ((px.drop lo).take len):=by
 refine⟨fun k j c hk=>hs.1 _ _ _ (oE hk).1,fun k j c k' j' c' b hk cW aB hb=>hs.2 _ _ _ _ _ _ b (oE hk).1 (oE cW).1 (fun e=>aB ?_) hb⟩
 injection e with e1 e2
 rw[show k=k' by omega,e2]
theorem HR.fS {σ σ1:St} (H:HR B E w G σ.h σ.used tk) {c:ah} {x:C} {o:Bool} {v:Value} (hx:σ.fS c=some (x,o,σ1)) (hc:RC w G σ.h c v):
  ∃(Im':Nat->Prop) (pc:PC),pc.er=x/\pc.val=v/\Good w pc/\(∀b,aS b pc->Im' b)/\
   HR B E w ⟨Im',G.g⟩ σ1.h σ.used (if o=true then tk++[pc] else tk)/\bc w G σ.h (fun n=>σ.used n=true) w ⟨Im',G.g⟩ σ1.h/\σ1.env=σ.env/\σ1.used=σ.used/\
   (∀n b,σ1.h n=some b->σ.h n=some b):=by
 cases c with
 |c y=>
  simp only[St.fS] at hx
  injection hx with hx
  injection hx with lH eD
  injection eD with eD oU
  subst lH eD oU
  obtain⟨pc,h1,h2,h3,h4⟩:=hc
  refine⟨G.Im,pc,h1,h2,h3,h4,?_,bc.refl _ _ _ _,rfl,rfl,fun _ _ h=>h⟩
  by_cases hs:y.eN=true
  ·rw[if_pos hs]
   obtain⟨s1,s2⟩:=Sep.kP (pc:=pc) (by rw[h1];exact hs)
   exact H.Vf s1 (fun b hb=>absurd hb (s2 b)) (fun _ _ b _ _=>s2 b) (fun _ _ _ _ _ b _ _ hb=>absurd hb (s2 b))
  ·rw[if_neg hs];exact H
 |nil sz=>
  simp only[St.fS] at hx
  split at hx
  ·rename_i dL
   injection hx with hx
   injection hx with lH eD
   injection eD with eD oU
   subst lH eD oU
   have cv:v=.slice none 0 0:=hc
   subst cv
   have ca:∀b,¬aS b (.list sz none 0 []):=fun b hb=>by
    rw[aS.kq] at hb
    rcases hb with⟨hb,_⟩|⟨k,j,c,⟨e,he,_⟩,_⟩
    ·exact absurd rfl hb
    ·simp at he
   refine⟨G.Im,.list sz none 0 [],by simp[PC.dJ],rfl,.nil _ _ _ dL,fun b hb=>absurd hb (ca b),?_,bc.refl _ _ _ _,rfl,rfl,fun _ _ h=>h⟩
   rw[if_pos rfl]
   refine H.Vf (.list _ _ _ _ ?_ ?_ ?_) (fun b hb=>absurd hb (ca b)) (fun _ _ b _ _=>ca b) (fun _ _ _ _ _ b _ _ hb=>absurd hb (ca b))
   ·rintro k j c ⟨e,he,_⟩;simp at he
   ·rintro b o k j c _ ⟨e,he,_⟩;simp at he
   ·rintro k j c k' j' c' b ⟨e,he,_⟩;simp at he
  ·cases hx
 |sl n sz lo len=>
  simp only[St.fS] at hx
  split at hx
  ·rename_i gr m rs xs hn
   split at hx
   ·rename_i cI
    obtain⟨rfl,rfl,kF⟩:=cI
    injection hx with hx
    injection hx with lH eD
    injection eD with eD oU
    subst lH eD oU
    have hl:0+len<=xs.length:=by omega
    have bM:σ.h n≠none:=by rw[hn];simp
    have hs:jq (G.g n) rs 0 len v:=hc bM
    have hr:=H.row n gr m rs xs hn
    obtain⟨a1,a2,a3,a4⟩:=E3 hr hs hl
    have HF:=H.freeze hn
    have K1:bc w G σ.h (fun n=>σ.used n=true) w ⟨fun b=>G.Im b\/KB (G.g n) b,G.g⟩ (au σ.h n none):=
     bc.trans (fun _ h=>h) (bc.del n (fun n=>σ.used n=true)) (bc.qp (KB (G.g n)) (fun n=>σ.used n=true))
    refine⟨_,kt (G.g n) rs 0 len v,by simpa using a1,a2,a3,fun b hb=>.inr (a4 b hb),?_,K1,rfl,rfl,fun q b hq=>(pT hq).1⟩
    by_cases hm:m≠ .aD
    ·rw[if_pos (by simpa using hm)]
     have rA:(∀b,aV b (G.g n).px->dD w b/\(B<=b\/E b))/\ij (G.g n).px/\(∀b,aV b (G.g n).px->(G.g n).nl=false->b≠(G.g n).b):=by
      have cX:=hr.mode
      cases m with
      |aD=>exact absurd rfl hm
      |ae=>exact⟨fun b hb=>(cX.1 b hb).2,cX.2,fun b hb hl d9=>(H.own n bM hl).1 (d9▸(cX.1 b hb).1)⟩
      |live=>exact⟨fun b hb=>(cX.1 b hb).2,cX.2,fun b hb hl=>H.live n gr rs xs hn b hb n bM hl⟩
     obtain⟨o1,o2,o3⟩:=rA
     refine HF.Vf ?_ (fun b hb=>⟨.inr (a4 b hb),?_⟩) (fun i q b hi hb aY=>?_) (fun q bk m' aJ aq b hq bJ hb cF=>?_)
     ·
      rcases hs with⟨aL,rfl,_,rfl⟩|⟨aL,a,rfl,ju,ha⟩
      ·simp only[kt]
       have hz:(List.take 0 (List.drop 0 (G.g n).px))=[]:=by simp
       rw[hz]
       refine .list _ _ _ _ ?_ ?_ ?_
       ·rintro k j c ⟨e,he,_⟩;simp at he
       ·rintro b o k j c _ ⟨e,he,_⟩;simp at he
       ·rintro k j c k' j' c' b ⟨e,he,_⟩;simp at he
      ·simp only[kt]
       have D4:=o2.sub 0 len
       refine .list _ _ _ _ D4.1 (fun b o k j c eQ hk hb=>?_) D4.2
       have cW:=(oE hk).1
       have YV:0<len:=by have:=(oE hk).2;omega
       have e:=ha (.inl (by omega))
       rw[e] at eQ
       injection eQ with eQ
       exact o3 b ⟨_,_,_,cW,hb⟩ aL (m4 eQ).1.symm
     ·rcases a4 b hb with⟨dw,rfl⟩|aY
      ·exact⟨(hr.dR dw).1,(H.own n bM dw).2.1⟩
      ·exact o1 b aY
     ·rcases a4 b aY with⟨dw,rfl⟩|cF
      ·exact(H.own n bM dw).1 ((H.qP i q hi).2 _ hb).1
      ·exact H.qQ i q n gr m rs xs b hi hn hm hb cF
     ·obtain⟨nj,fD⟩:=pT hq
      rcases a4 b hb with⟨dw,rfl⟩|aY
      ·have cX:=(H.row q bk m' aJ aq nj).mode
       cases m' with
       |aD=>exact absurd rfl bJ
       |ae=>exact(H.own n bM dw).1 (cX.1 _ cF).1
       |live=>exact H.live q bk aJ aq nj _ cF n bM dw rfl
      ·exact H.fJ n q gr m rs xs bk m' aJ aq hn nj hm bJ (Ne.symm fD) b aY cF
    ·rw[if_neg (by simpa using hm)]
     exact HF
   ·cases hx
  ·cases hx
 |ptr _ _ _ _=>simp[St.fS] at hx
 |cu _ _=>simp[St.fS] at hx
 |bz _ _ _ _ _ _=>simp[St.fS] at hx
 |fn _ _=>simp[St.fS] at hx
 |cQ _ _ _ _ _ _=>simp[St.fS] at hx
 |bm=>simp[St.fS] at hx
end
end Go.Am
end
section
namespace Go.Am
section
variable {B:Nat} {E:Ex} {w0 w w':World} {G G':Gh} {h h':Nat->Option ao} {used used':Nat->Bool} {tk:List PC}
theorem HR.ft:∀{cs:List ah} {σ σ1:St} {G:Gh} {tk:List PC} {xs:List C} {o:Bool} {vs:List Value},HR B E w G σ.h σ.used tk->σ.ft cs=some (xs,o,σ1)->cN w G σ.h cs vs->
  (∀c∈cs,∀m,c.ref m->σ.used m=true)->
  ∃(Im':Nat->Prop) (bu:List PC),bu.map PC.er=xs/\bu.map PC.val=vs/\(∀pc∈bu,Good w pc/\∀b,aS b pc->Im' b)/\
   HR B E w ⟨Im',G.g⟩ σ1.h σ.used (if o=true then tk++bu else tk)/\bc w G σ.h (fun n=>σ.used n=true) w ⟨Im',G.g⟩ σ1.h/\σ1.env=σ.env/\σ1.used=σ.used/\
   (∀n b,σ1.h n=some b->σ.h n=some b)
 |[],σ,σ1,G,tk,xs,o,vs,H,hx,hc,hr=>by
  simp only[St.ft] at hx
  injection hx with hx
  injection hx with lH eD
  injection eD with eD oU
  subst lH eD oU
  have:vs=[]:=List.eq_nil_of_length_eq_zero (by simpa using hc.1)
  subst this
  exact⟨G.Im,[],rfl,rfl,by simp,by simpa using H,bc.refl _ _ _ _,rfl,rfl,fun _ _ h=>h⟩
 |c::cs,σ,σ2,G,tk,xs,o,vs,H,hx,hc,hr=>by
  simp only[St.ft] at hx
  split at hx
  ·rename_i x o1 σ1 e1
   split at hx
   ·rename_i aq o2 Vx e2
    injection hx with hx
    injection hx with lH eD
    injection eD with eD oU
    subst lH eD oU
    obtain⟨hlen,bQ⟩:=hc
    match vs,hlen with
    |v::vs,hlen=>
     obtain⟨xy,pc,a1,a2,a3,a4,a5,a6,a7,a8,a9⟩:=H.fS e1 (bQ 0 c v rfl rfl).2
     have vT:cN w ⟨xy,G.g⟩ σ1.h cs vs:=cN.fe a6 (fun c' cv m hm=>hr c' (by simp[cv]) m hm) ⟨by simpa using hlen,fun j c u h1 h2=>bQ (j+1) c u h1 h2⟩
     rw[<-a8] at a5
     obtain⟨CH,bu,b1,b2,b3,b4,b5,b6,b7,b8⟩:=HR.ft a5 e2 vT (fun c' cv m hm=>by rw[a8];exact hr c' (by simp[cv]) m hm)
     refine⟨CH,pc::bu,by simp[a1,b1],by simp[a2,b2],fun q hq=>?_,?_,bc.trans (fun n hn=>by rw[a8];exact hn) a6 b5,b6.trans a7,b7.trans a8,fun n b hb=>a9 n b (b8 n b hb)⟩
     ·cases hq with
      |head=>exact⟨a3,fun b hb=>b5.im b (a4 b hb)⟩
      |tail _ hq=>exact b3 q hq
     ·rw[a8] at b4
      cases o1<;>cases o2<;>simp at b4⊢
      ·exact b4
      ·exact b4.xg
      ·exact b4.xg
      ·exact b4
   ·cases hx
  ·cases hx
theorem RA.cells {x:aj} {ag:Bool} {cs:List ah} {v:Value} (hx:x.cells?=some (ag,cs)) (hc:RA w G h x v):cN w G h cs v.cells.toList:=by
 cases x with
 |one c=>
  have hj:c≠ .bm/\ag=false/\cs=[c]:=by
   cases c<;>simp[aj.cells?] at hx<;>(obtain⟨rfl,rfl⟩:=hx;simp)
  obtain⟨h1,rfl,rfl⟩:=hj
  rcases hc with rfl|hc
  ·exact absurd rfl h1
  ·have cv:cN w G h [c] [v]:=hc
   have h1:=(cv.2 0 c v rfl rfl).1
   cases v<;>first|exact cv|(simp[Value.oneCell'] at h1)
 |agg cs'=>
  simp[aj.cells?] at hx
  obtain⟨rfl,rfl⟩:=hx
  obtain⟨vs,e,hl⟩:∃vs:List Value,v=.agg vs.toArray/\cN w G h cs' vs:=hc
  subst e
  exact hl
 |bn xs=>simp[aj.cells?] at hx
theorem aj.xJ {x:aj} {ag:Bool} {cs:List ah} (hx:x.cells?=some (ag,cs)) {c:ah} (hc:c∈cs) {m:Nat} (hm:c.ref m):x.ref m:=by
 cases x with
 |one c'=>
  have hj:cs=[c']:=by
   cases c'<;>simp[aj.cells?] at hx<;>exact hx.2.symm
  subst hj
  simp at hc
  subst hc
  exact hm
 |agg cs'=>
  simp[aj.cells?] at hx
  obtain⟨_,rfl⟩:=hx
  exact⟨c,hc,hm⟩
 |bn xs=>simp[aj.cells?] at hx
theorem HR.kU {sz:Nat}:∀{xs:List aj} {σ σ1:St} {G:Gh} {tk:List PC} {es:List (List C)} {o:Bool} {vs:List Value},HR B E w G σ.h σ.used tk->σ.kU sz xs=some (es,o,σ1)->
  vs.length=xs.length->(∀(j:Nat) (x:aj) (v:Value),xs[j]? =some x->vs[j]? =some v->RA w G σ.h x v)->(∀x∈xs,∀m,x.ref m->σ.used m=true)->
  ∃(Im':Nat->Prop) (pes:List (List PC)),pes.map (fun e=>e.map PC.er)=es/\pes.map (fun e=>e.map PC.val)=vs.map (fun v=>v.cells.toList)/\(∀e∈pes,e.length=sz)/\
   (∀e∈pes,∀pc∈e,Good w pc/\∀b,aS b pc->Im' b)/\
   HR B E w ⟨Im',G.g⟩ σ1.h σ.used (if o=true then tk++pes.flatten else tk)/\bc w G σ.h (fun n=>σ.used n=true) w ⟨Im',G.g⟩ σ1.h/\σ1.env=σ.env/\σ1.used=σ.used/\
   (∀n b,σ1.h n=some b->σ.h n=some b)
 |[],σ,σ1,G,tk,es,o,vs,H,hx,hl,hc,hr=>by
  simp only[St.kU] at hx
  injection hx with hx
  injection hx with lH eD
  injection eD with eD oU
  subst lH eD oU
  have:vs=[]:=List.eq_nil_of_length_eq_zero (by simpa using hl)
  subst this
  exact⟨G.Im,[],rfl,rfl,by simp,by simp,by simpa using H,bc.refl _ _ _ _,rfl,rfl,fun _ _ h=>h⟩
 |x::xs,σ,σ2,G,tk,es,o,vs,H,hx,hl,hc,hr=>by
  simp only[St.kU] at hx
  split at hx
  ·rename_i ag cs j5
   split at hx
   ·rename_i bD
    split at hx
    ·rename_i e o1 σ1 e1
     split at hx
     ·rename_i es' o2 Vx e2
      injection hx with hx
      injection hx with lH eD
      injection eD with eD oU
      subst lH eD oU
      match vs,hl with
      |v::vs,hl=>
       have bL:=(hc 0 x v rfl rfl).cells j5
       obtain⟨xy,bu,a1,a2,a3,a5,a6,a7,a8,a9⟩:=H.ft e1 bL (fun c' cv m hm=>hr x (by simp) m (aj.xJ j5 cv hm))
       rw[<-a8] at a5
       obtain⟨CH,pes,b1,b2,b3,b3',b4,b5,b6,b7,b8⟩:=HR.kU (xs:=xs) (vs:=vs) a5 e2 (by simpa using hl)
        (fun j x v h1 h2=>(hc (j+1) x v h1 h2).fe a6 (fun m hm=>hr x (by simp[List.mem_of_getElem? h1]) m hm)) (fun x' fM m hm=>by rw[a8];exact hr x' (by simp[fM]) m hm)
       refine⟨CH,bu::pes,by simp[a1,b1],by simp[a2,b2],fun q hq=>?_,fun q hq pc aZ=>?_,?_,bc.trans (fun n hn=>by rw[a8];exact hn) a6 b5,b6.trans a7,b7.trans a8,fun n b hb=>a9 n b (b8 n b hb)⟩
       ·cases hq with
        |head=>
         have:(bu.map PC.er).length=(v.cells.toList).length:=by rw[<-a2];simp
         have h2:=bL.1
         simp at this
         simp at h2
         omega
        |tail _ hq=>exact b3 q hq
       ·cases hq with
        |head=>exact⟨(a3 pc aZ).1,fun b hb=>b5.im b ((a3 pc aZ).2 b hb)⟩
        |tail _ hq=>exact b3' q hq pc aZ
       ·rw[a8] at b4
        cases o1<;>cases o2<;>simp at b4⊢
        ·exact b4
        ·exact b4.xg
        ·exact b4.xg
        ·exact b4
     ·cases hx
    ·cases hx
   ·cases hx
  ·cases hx
def iT (b:Nat) (pc:PC):Prop:=aS b pc\/∃sz o cap xs,pc=.list sz (some (ad b o)) cap xs/\cap≠0
def CR (w:World):PC->Prop
 |.list sz a cap xs=>0<sz/\xs.length<=cap/\(cap=0\/∃b o cur e,a=some (ad b o)/\w.heap[b]? =some (.cells cur e (0,0))/\cur.size=o+cap*sz/\cap<=maxLen/\∀k j c,At xs k j c->¬aS b c)
 |_=>True
structure CO (w:World) (B':Nat) (ps:List PC):Prop where
 eu:∀pc∈ps,Good w pc/\Sep pc/\CR w pc
 new:∀pc∈ps,∀b,iT b pc->B'<=b/\dD w b
 m7:∀(i j:Nat) (pc dg:PC) (b:Nat),i≠j->ps[i]? =some pc->ps[j]? =some dg->iT b pc->¬iT b dg
def qH:K×List PC->Value
 |(.one,[pc])=>pc.val
 |(_,bu)=>.agg (bu.map PC.val).toArray
def wV:List (K×List PC)->Value
 |[p]=>qH p
 |l=>.tuple (l.map qH).toArray
def dh (P:Program) (f:FuncId) (M:List Dv->Option (List Dv)):Prop:=
 ∀ds rs,M ds=some rs->∀(w:World) (vals:List Value),FA w ds vals->Calls P f vals.toArray w fun e w'=>
  ∃aT:List (K×List PC),aT.map (fun p=>(p.1,p.2.map PC.er))=rs/\e=.returned (wV aT)/\(∀p∈aT,p.1≠ .ptr/\(p.1=.one->p.2.length=1))/\
   CO w' w.heap.size (aT.flatMap (·.2))/\Fr w.heap.size Ex.no w w'
end
end Go.Am
end
section
namespace Go.Am
section
variable {B:Nat} {E:Ex} {w0 w w':World} {G G':Gh} {h h':Nat->Option ao} {used used':Nat->Bool} {tk:List PC} {N:Nat}
def oC (G:Gh) (h:Nat->Option ao) (b:Nat):Prop:=
 ¬G.Im b/\(∀n,h n≠none->(G.g n).nl=false->(G.g n).b≠b)/\∀n gr m sz xs,h n=some (.row gr m sz xs)->¬aV b (G.g n).px
theorem HR.PO (H:HR B E w G h used tk):oC G h w.heap.size:=
 ⟨fun hi=>Nat.lt_irrefl _ (H.fW _ hi),fun n hn hl he=>by have:=(H.own n hn hl).2.2;omega,fun n gr m sz xs hn hb=>Nat.lt_irrefl _ (H.qI hn hb)⟩
def adk (B:Nat) (E:Ex) (w w':World) (G:Gh) (h:Nat->Option ao) (p:PB):ao->Prop
 |.box cs=>p.nl=false/\dD w' p.b/\∀(j:Nat) (c:ah),cs[j]? =some c->∃v,w'.cell? (ad p.b (p.o+j))=some v/\v.oneCell'=true/\RC w G h c v
 |.row gr m sz xs=>tC B E w' G gr m sz xs p
theorem bc.insert (H:HR B E w G h used tk) {n:Nat} {blk:ao} {p:PB} (hn:used n=false) (hw:∀b,b<w.heap.size->w'.heap[b]? =w.heap[b]?):
  bc w G h (fun n=>used n=true) w' ⟨G.Im,au G.g n p⟩ (au h n (some blk)):=by
 have ne:∀m,used m=true->m≠n:=fun m hm e=>by subst e;rw[hn] at hm;cases hm
 refine⟨fun _ h=>h,fun b hb o=>iF (hw b (H.fW b hb)) o,fun m hm h0=>?_,fun m gr sz xs hm h0=>?_⟩
 ·rw[cq _ _ _ _ (ne m hm)] at h0
  simp only[cq _ _ _ _ (ne m hm)]
  exact⟨h0,trivial,trivial,trivial,trivial,trivial⟩
 ·rw[cq _ _ _ _ (ne m hm)] at h0
  simp only[cq _ _ _ _ (ne m hm)]
  exact⟨⟨gr,xs,h0⟩,fun k j pc h1 h2=>⟨pc,h1,rfl,h2⟩⟩
theorem HR.insert (H:HR B E w G h used tk) {n:Nat} {blk:ao} {p:PB} (hn:used n=false) (hw:∀b,b<w.heap.size->w'.heap[b]? =w.heap[b]?) (bD:w.heap.size<=w'.heap.size)
  (hl:p.nl=false->oC G h p.b/\(B<=p.b\/E p.b)/\p.b<w'.heap.size)
  (wm:∀cs c m,blk=.box cs->c∈cs->c.ref m->used m=true)
  (gV:adk B E w w' G h p blk)
  (IG:∀gr m sz xs,blk=.row gr m sz xs->m≠ .aD->∀n' bk m' aJ aq,h n'=some (.row bk m' aJ aq)->m'≠ .aD->∀b,aV b p.px->¬aV b (G.g n').px)
  (sH:∀gr sz xs,blk=.row gr .live sz xs->∀b,aV b p.px->(p.nl=false->b≠p.b)/\∀n',h n'≠none->(G.g n').nl=false->b≠(G.g n').b)
  (wh:∀gr m sz xs,blk=.row gr m sz xs->m≠ .aD->∀(i:Nat) (pc:PC) (b:Nat),tk[i]? =some pc->aS b pc->¬aV b p.px):
  HR B E w' ⟨G.Im,au G.g n p⟩ (au h n (some blk)) (au used n true) tk:=by
 have K:=bc.insert H (blk:=blk) (p:=p) hn hw
 have Oa:h n=none:=by
  cases hh:h n with
  |none=>rfl
  |some b=>have:=H.iG n (by rw[hh];simp);rw[hn] at this;cases this
 have aB:∀m,h m≠none->m≠n:=fun m hm e=>by subst e;exact hm Oa
 have hu:∀m,used m=true->au used n true m=true:=fun m hm=>by
  simp only[iP];split
  ·rfl
  ·exact hm
 refine H.put (fun b hb _=>hw b hb) bD (fun b hb hU=>hU.congr (hw b hb)) hu (bF _ _ _) (fun hp=>⟨(hl hp).1.1,(hl hp).2⟩) (fun hp m hm h0 kF=>(hl hp).1.2.1 m h0 kF)
  (fun hp m gr sz xs hm h0 b hb he=>(hl hp).1.2.2 m gr _ sz xs h0 (he▸hb)) (fun cs c m hb hc hr=>hu m (wm cs c m hb hc hr)) K ?_
  (fun gr m sz xs hb hm n' bk m' aJ aq _ h0=>IG gr m sz xs hb hm n' bk m' aJ aq h0) (fun gr sz xs hb b cF=>⟨(sH gr sz xs hb b cF).1,fun n' _=>(sH gr sz xs hb b cF).2 n'⟩) wh
  (fun hp _ b hb he=>by obtain⟨m,gr,mo,sz,xs,_,h0,cF⟩:=hb;exact(hl hp).1.2.2 m gr mo sz xs h0 (he▸cF))
 cases blk with
 |box cs=>
  obtain⟨a1,a2,a3⟩:=gV
  refine⟨a1,a2,fun j c hj=>?_⟩
  obtain⟨v,b1,b2,b3⟩:=a3 j c hj
  exact⟨v,b1,b2,b3.fe K fun m hm=>wm cs c m rfl (List.mem_of_getElem? hj) hm⟩
 |row gr m sz xs=>
  have hr:tC B E w' G gr m sz xs p:=gV
  exact⟨hr.pos,hr.er,hr.nl,hr.dR,hr.room,by
   have:=hr.mode
   cases m<;>exact this⟩
theorem R.put {σ:St} {a:Act} (r:R B E w0 N σ a w G) {x:aj} {v:Value} (hv:RA w G σ.h x v) (hr:∀m,x.ref m->σ.used m=true) {d:Option Nat} (hd:∀n,d=some n->n<N):
  R B E w0 N (σ.put d x) (a.put d v) w G:=by
 cases d with
 |none=>exact r
 |some n=>
  have hn:=hd n rfl
  refine⟨r.defers,by simp[Act.put,r.size],fun s=>?_,fun s m hm=>?_,r.hr,r.fr,r.qA,r.y4⟩
  ·simp only[St.put,Act.put]
   by_cases hs:s=n
   ·subst hs
    rw[bF]
    have:(a.tmps.setIfInBounds s v).getD s undef=v:=by
     simp[Array.getD_eq_getD_getElem?,r.size,hn]
    rw[this]
    exact hv
   ·rw[cq _ _ _ _ hs]
    have:(a.tmps.setIfInBounds n v).getD s undef=a.tmps.getD s undef:=by
     simp[Array.getD_eq_getD_getElem?,Array.getElem?_setIfInBounds_ne (Ne.symm hs)]
    rw[this]
    exact r.env s
  ·simp only[St.put] at hm⊢
   by_cases hs:s=n
   ·subst hs;rw[bF] at hm;exact hr m hm
   ·rw[cq _ _ _ _ hs] at hm;exact r.r7 s m hm
theorem R.step {σ:St} {a:Act} (r:R B E w0 N σ a w G) {σ':St} (he:σ'.env=σ.env) (hu:∀m,σ.used m=true->σ'.used m=true) (K:bc w G σ.h (fun n=>σ.used n=true) w' G' σ'.h)
  (H:HR B E w' G' σ'.h σ'.used []) (F:Fr B E w0 w'):R B E w0 N σ' a w' G':=
 ⟨r.defers,r.size,fun s=>by rw[he];exact(r.env s).fe K (fun m hm=>r.r7 s m hm),fun s m hm=>by rw[he] at hm;exact hu m (r.r7 s m hm),H,F,
  fun n p b hp hb=>by
   have Bk:=r.y4 n (E.lt n p hp)
   obtain⟨k0,k1,k2,k3,k4,k6⟩:=K.name n Bk (by rw[hb];simp)
   cases h0:σ.h n with
   |none=>exact absurd h0 k0
   |some b0=>
    obtain⟨p1,p2,p3,p4,p6,p5⟩:=r.qA n p b0 hp h0
    refine⟨k1.trans p1,k2.trans p2,k3.trans p3,k4.trans p4,k6.trans p6,fun gr sz xs DI k j pc hk hL=>?_⟩
    subst DI
    obtain⟨⟨x7,kA,e0⟩,hl⟩:=K.live n gr sz xs Bk hb
    rw[h0] at e0
    injection e0 with e0
    obtain⟨pc1,q1,q2,q3⟩:=p5 x7 sz kA e0 k j pc hk hL
    obtain⟨pc2,q4,q5,q6⟩:=hl k j pc1 q1 q3
    exact⟨pc2,q4,q5.trans q2,q6⟩,
  fun n hn=>hu n (r.y4 n hn)⟩
end
def HC:Value->ah->Bool
 |.int k n,.c (.int k' n')=>decide (k=k')&&decide (n=n')
 |.bool b,.c (.bool b')=>decide (b=b')
 |.slice none 0 0,.nil sz=>true
 |.pointer none,.bm=>true
 |_,_=>false
def sq:List Value->List ah->Bool
 |[],[]=>true
 |v::vs,c::cs=>HC v c&&sq vs cs
 |_,_=>false
def bB:Operand->MO->Bool
 |.tmp n,.t m=>n==m
 |.const (.agg vs),.k (.agg cs)=>sq vs.toList cs
 |.const v,.k (.one c)=>HC v c
 |_,_=>false
section
variable {B:Nat} {E:Ex} {w0 w w':World} {G G':Gh} {h h':Nat->Option ao} {used used':Nat->Bool} {tk:List PC} {N:Nat}
theorem WE {v:Value} {c:ah} (hc:HC v c=true):RC w G h c v/\v.oneCell'=true/\∀m,¬c.ref m:=by
 unfold HC at hc
 split at hc
 ·simp at hc
  obtain⟨rfl,rfl⟩:=hc
  exact⟨⟨.int _ _,rfl,rfl,.int _ _,fun b hb=>by cases hb⟩,rfl,fun m hm=>hm⟩
 ·simp at hc
  subst hc
  exact⟨⟨.bool _,rfl,rfl,.bool _,fun b hb=>by cases hb⟩,rfl,fun m hm=>hm⟩
 ·exact⟨rfl,rfl,fun m hm=>hm⟩
 ·exact⟨trivial,rfl,fun m hm=>hm⟩
 ·cases hc
theorem HE:∀{vs:List Value} {cs:List ah},sq vs cs=true->cN w G h cs vs/\∀c∈cs,∀m,¬c.ref m
 |[],[],_=>⟨⟨rfl,by simp⟩,by simp⟩
 |v::vs,c::cs,hc=>by
  simp only[sq,Bool.and_eq_true] at hc
  obtain⟨a1,a2,a3⟩:=WE (w:=w) (G:=G) (h:=h) hc.1
  obtain⟨⟨b1,b2⟩,b3⟩:=HE hc.2
  refine⟨⟨by simp[b1],fun j c' u hj hu=>?_⟩,fun c' cv=>?_⟩
  ·cases j with
   |zero=>simp at hj hu;subst hj;subst hu;exact⟨a2,a1⟩
   |succ j=>exact b2 j c' u (by simpa using hj) (by simpa using hu)
  ·cases cv with
   |head=>exact a3
   |tail _ cv=>exact b3 c' cv
 |[],_::_,hc=>by simp[sq] at hc
 |_::_,[],hc=>by simp[sq] at hc
theorem RV.ga {c:ah} {v:Value} (h1:v.oneCell'=true) (h2:RC w G h c v):RV w G h false [c] v:=by
 show cN w G h [c] [v]
 exact⟨rfl,fun j c' u hj hu=>by
  cases j with
  |zero=>simp at hj hu;subst hj;subst hu;exact⟨h1,h2⟩
  |succ j=>simp at hj⟩
theorem RA.ga {c:ah} {v:Value} (h1:v.oneCell'=true) (h2:RC w G h c v):RA w G h (.one c) v:=.inr (RV.ga h1 h2)
theorem R.ev {σ:St} {a:Act} (r:R B E w0 N σ a w G) {x:Operand} {m:MO} (hc:bB x m=true):RA w G σ.h (σ.ev m) (a.eval x)/\∀n,(σ.ev m).ref n->σ.used n=true:=by
 unfold bB at hc
 split at hc
 ·simp at hc
  subst hc
  exact⟨r.env _,fun n hn=>r.r7 _ n hn⟩
 ·rename_i vs cs
  obtain⟨b1,b2⟩:=HE (w:=w) (G:=G) (h:=σ.h) hc
  exact⟨⟨vs.toList,by simp[Act.eval],b1⟩,fun n hn=>by obtain⟨c,hc,hm⟩:=hn;exact absurd hm (b2 c hc n)⟩
 ·obtain⟨a1,a2,a3⟩:=WE (w:=w) (G:=G) (h:=σ.h) hc
  exact⟨RA.ga a2 a1,fun n hn=>absurd hn (a3 n)⟩
 ·cases hc
theorem nE {P:Program} {o:Oper} {a:Act} {v:Value} {K:Act->World->Prop} {Q:Exit->Act->World->Prop} (hr:(execOp a.eval o).run P w=.ok (.value v) w') (hK:K (a.put o.dst v) w'):o.wp P a w K Q:=by
 unfold Oper.wp
 rw[hr]
 exact hK
theorem KL {P:Program} {o:Oper} {a:Act} {K:Act->World->Prop} {Q:Exit->Act->World->Prop} (hr:(execOp a.eval o).run P w=.ok .skip w') (hK:K (a.put o.dst undef) w'):o.wp P a w K Q:=by
 unfold Oper.wp
 rw[hr]
 exact hK
end
end Go.Am
end
section
namespace Go.Am
section
variable {B:Nat} {E:Ex} {w0 w w':World} {G G':Gh} {h h':Nat->Option ao} {used used':Nat->Bool} {tk:List PC} {N:Nat}
variable {P:Program} {o:Oper} {a:Act} {σ σ':St} {Q:Exit->Act->World->Prop}
def Nx (B:Nat) (E:Ex) (w0:World) (N:Nat) (σ:St):Act->World->Prop:=fun a w=>∃G,R B E w0 N σ a w G
theorem LM (w:World) (ob:Obj) (b:Nat) (hb:b<w.heap.size):(w.alloc ob).heap[b]? =w.heap[b]? :=heap_alloc_old w ob b hb
theorem dD.alloc (w:World) (arr:Array Value) (e:TypeId):dD (w.alloc (.cells arr e)) w.heap.size:=⟨arr,e,heap_alloc_new w _⟩
theorem lL {σ1:St} {n:Nat} {b:ao} (hx:σ.ins n b=some σ1):σ.used n=false/\σ1={σ with h:=au σ.h n (some b),used:=au σ.used n true}:=by
 unfold St.ins at hx
 split at hx
 ·cases hx
 ·rename_i hu
  injection hx with hx
  exact⟨by simpa using hu,hx.symm⟩
theorem qR (n m:Nat) (hm:used m=true):au used n true m=true:=by
 simp only[iP];split
 ·rfl
 ·exact hm
theorem R.aay (r:R B E w0 N σ a w G) {n:Nat} {cs:List ah} {vs:List Value} {e:TypeId} (hn:σ.used n=false) (hc:cN w G σ.h cs vs) (iH:∀c∈cs,∀m,c.ref m->σ.used m=true):
  ∃G',R B E w0 N {σ with h:=au σ.h n (some (.box cs)),used:=au σ.used n true} a (w.alloc (.cells vs.toArray e)) G'/\
   RA (w.alloc (.cells vs.toArray e)) G' (au σ.h n (some (.box cs))) (.one (.ptr n 0 0 0)) (.pointer (some (ad w.heap.size 0))):=by
 have H:=r.hr
 have hB:=r.fr.size
 have hw:=LM w (.cells vs.toArray e)
 refine⟨⟨G.Im,au G.g n ⟨false,w.heap.size,0,0,[],none⟩⟩,r.step rfl (fun m hm=>qR n m hm) (bc.insert H hn hw) ?_ (r.fr.grow hw (by simp) rfl rfl rfl),?_⟩
 ·refine H.insert hn hw (by simp) (fun _=>⟨H.PO,.inl hB,by simp⟩) (fun cs' c m hb cv hm=>?_) ⟨rfl,dD.alloc _ _ _,fun j c hj=>?_⟩ (fun gr m sz xs hb=>by cases hb) (fun gr sz xs hb=>by cases hb) (fun gr m sz xs hb=>by cases hb)
  ·injection hb with hb;subst hb;exact iH c cv m hm
  ·have mB:j<vs.length:=by rw[hc.1];exact(List.getElem?_eq_some_iff.1 hj).1
   have hv:vs[j]? =some vs[j]:=List.getElem?_eq_getElem mB
   obtain⟨q1,q2⟩:=hc.2 j c _ hj hv
   refine⟨vs[j],?_,q1,q2⟩
   simp only[Nat.zero_add]
   unfold ad
   rw[World.cell?_alloc_new]
   simp only[List.getElem?_toArray];exact hv
 ·exact RA.ga rfl fun _=>by simp[bF]
theorem aeS (r:R B E w0 N σ a w G) {n:Nat} {e:TypeId} {i:TypeInfo} {z:Value} {zs:List ah} {σ1:St} (ho:o.op=.alloc e) (hd:o.dst=some n) (hN:n<N)
  (hi:P.info? e=some i) (hz:i.zero=some z) (hc:sq z.cells.toList zs=true) (hx:σ.ins n (.box zs)=some σ1):
  o.wp P a w (Nx B E w0 N (σ1.put o.dst (.one (.ptr n 0 0 0)))) Q:=by
 obtain⟨hn,rfl⟩:=lL hx
 obtain⟨bL,iH⟩:=HE (w:=w) (G:=G) (h:=σ.h) hc
 obtain⟨G',r',hv⟩:=r.aay (e:=e) hn bL (fun c hc m hm=>absurd hm (iH c hc m))
 have bU:(execOp a.eval o).run P w=.ok (.value (.pointer (some (ad w.heap.size 0)))) (w.alloc (.cells z.cells.toList.toArray e)):=by
  simp[execOp,ho,Instr.alloc,zeroValue,typeInfo,hi,hz,newVar,newRow,ad]
 exact nE bU ⟨G',r'.put hv (fun m hm=>by have bJ:m=n:=hm;subst bJ;exact bF _ _ _) (fun m hm=>by rw[hd] at hm;injection hm with hm;omega)⟩
theorem aeW (r:R B E w0 N σ a w G) {n:Nat} {e:TypeId} {x:Operand} {m:MO} {ag:Bool} {cs:List ah} {σ1:St} (ho:o.op=.box e x) (hd:o.dst=some n) (hN:n<N)
  (hm:bB x m=true) (ez:(σ.ev m).cells?=some (ag,cs)) (hx:σ.ins n (.box cs)=some σ1):
  o.wp P a w (Nx B E w0 N (σ1.put o.dst (.one (.ptr n 0 0 0)))) Q:=by
 obtain⟨hn,rfl⟩:=lL hx
 obtain⟨hv,iH⟩:=r.ev hm
 obtain⟨G',r',fE⟩:=r.aay (e:=e) hn (hv.cells ez) (fun c hc q hq=>iH q (aj.xJ ez hc hq))
 have bU:(execOp a.eval o).run P w=.ok (.value (.pointer (some (ad w.heap.size 0)))) (w.alloc (.cells (a.eval x).cells.toList.toArray e)):=by
  simp[execOp,ho,Instr.box,newVar,newRow,ad]
 exact nE bU ⟨G',r'.put fE (fun q hq=>by have eA:q=n:=hq;subst eA;exact bF _ _ _) (fun q hq=>by rw[hd] at hq;injection hq with hq;omega)⟩
theorem tE {α:Type} {sz:Nat}:∀{px:List (List α)} (_:∀e∈px,e.length=sz) {k j:Nat} {c:α},At px k j c->px.flatten[k*sz+j]? =some c
 |[],_,k,j,c,hk=>by obtain⟨e,he,_⟩:=hk;simp at he
 |e::px,hl,k,j,c,hk=>by
  obtain⟨e',he,hj⟩:=hk
  have h0:=hl e (by simp)
  cases k with
  |zero=>
   simp at he
   subst he
   have mB:=(List.getElem?_eq_some_iff.1 hj).1
   simp only[List.flatten_cons,Nat.zero_mul,Nat.zero_add]
   rw[List.getElem?_append_left mB]
   exact hj
  |succ k=>
   have ih:=tE (px:=px) (fun e he=>hl e (by simp[he])) (k:=k) (j:=j) (c:=c) ⟨e',by simpa using he,hj⟩
   simp only[List.flatten_cons]
   rw[List.getElem?_append_right (by rw[h0,Nat.add_mul];omega)]
   rw[show(k+1)*sz+j - e.length=k*sz+j by rw[h0,Nat.add_mul];omega]
   exact ih
structure CL (B:Nat) (E:Ex) (w:World) (G:Gh) (h:Nat->Option ao) (m:Mode) (pes:List (List PC)):Prop where
 m8:∀b,aV b pes->G.Im b/\dD w b/\(B<=b\/E b)
 sep:ij pes
 fJ:∀n gr m sz xs,h n=some (.row gr m sz xs)->m≠ .aD->∀b,aV b pes->¬aV b (G.g n).px
 kind:m=.ae\/∀b,¬aV b pes
theorem adC {α:Type} {sz:Nat} (bD:0<sz) {pes:List (List α)} (hl:∀e∈pes,e.length=sz) {k j k' j':Nat} {c c':α} (h1:At pes k j c) (h2:At pes k' j' c') (aB:(k,j)≠(k',j')):k*sz+j≠k'*sz+j':=by
 intro d9
 have hj:j<sz:=by obtain⟨e1,he,hj⟩:=h1;rw[<-hl e1 (List.mem_of_getElem? he)];exact(List.getElem?_eq_some_iff.1 hj).1
 have ir:j'<sz:=by obtain⟨e1,he,hj⟩:=h2;rw[<-hl e1 (List.mem_of_getElem? he)];exact(List.getElem?_eq_some_iff.1 hj).1
 have hk:k=k':=by
  have h3:(k*sz+j)/sz=k:=by rw[Nat.mul_comm,Nat.mul_add_div bD,Nat.div_eq_of_lt hj];omega
  have h4:(k'*sz+j')/sz=k':=by rw[Nat.mul_comm,Nat.mul_add_div bD,Nat.div_eq_of_lt ir];omega
  rw[d9] at h3
  omega
 subst hk
 exact aB (by rw[show j=j' by omega])
theorem HR.al5 {pes:List (List PC)} {sz:Nat} (bD:0<sz) (hl:∀e∈pes,e.length=sz) (H:HR B E w G h used pes.flatten):CL B E w G h .ae pes:=by
 refine⟨?_,⟨fun k j c hk=>(H.qP _ c (tE hl hk)).1,fun k j c k' j' c' b hk cW aB hb=>H.vc _ _ c c' b (adC bD hl hk cW aB) (tE hl hk) (tE hl cW) hb⟩,?_,.inl rfl⟩
 ·rintro b ⟨k,j,c,hk,hb⟩
  exact(H.qP _ c (tE hl hk)).2 b hb
 ·rintro n gr m sz xs hn hm b ⟨k,j,c,hk,hb⟩
  exact H.qQ _ c n gr m sz xs b (tE hl hk) hn hm hb
theorem Sep.EB {w:World} {q:PC} (hq:∀b,¬aS b q) (hg:Good w q):Sep q:=by
 induction hg with
 |int k n=>exact .int k n
 |bool b=>exact .bool b
 |nil sz a cap h=>exact .list _ _ _ _ (by rintro k j c ⟨e,he,_⟩;simp at he) (by rintro b o k j c _ ⟨e,he,_⟩;simp at he) (by rintro k j c k' j' c' b ⟨e,he,_⟩;simp at he)
 |cons sz b o cap xs h1 h2 h3 h4 h5 h6 ih=>exact absurd (.here _ _ _ _ h1) (hq b)
theorem CL.EB {m:Mode} {pes:List (List PC)} (ca:∀b,¬aV b pes) (hg:∀k j c,At pes k j c->Good w c):CL B E w G h m pes:=
 ⟨fun b hb=>absurd hb (ca b),⟨fun k j c hk=>Sep.EB (fun b hb=>ca b ⟨k,j,c,hk,hb⟩) (hg k j c hk),fun k j c k' j' c' b hk _ _ hb=>absurd ⟨k,j,c,hk,hb⟩ (ca b)⟩,fun n gr m sz xs _ _ b hb=>absurd hb (ca b),.inr ca⟩
theorem R.newRow (r:R B E w0 N σ a w G) {Im':Nat->Prop} {σ1:St} (H:HR B E w ⟨Im',G.g⟩ σ1.h σ.used []) (K:bc w G σ.h (fun n=>σ.used n=true) w ⟨Im',G.g⟩ σ1.h)
  (yh:σ1.env=σ.env) (lG:σ1.used=σ.used)
  {n:Nat} {m:Mode} {sz cap:Nat} {pes:List (List PC)} {arr:Array Value} {e:TypeId} (hn:σ.used n=false) (bD:0<sz) (hl:∀e∈pes,e.length=sz)
  (gO:∀k j c,At pes k j c->Good w c/\∀b,aS b c->Im' b) (tW:∀k j c,At pes k j c->arr[k*sz+j]? =some c.val) (ju:pes.length<=cap) (yp:cap<=maxLen) (uo:arr.size=cap*sz)
  (hm:m=.aD\/CL B E w ⟨Im',G.g⟩ σ1.h m pes):
  ∃G',R B E w0 N {σ1 with h:=au σ1.h n (some (.row true m sz (pes.map fun e=>e.map PC.er))),used:=au σ1.used n true} a (w.alloc (.cells arr e)) G'/\
   RA (w.alloc (.cells arr e)) G' (au σ1.h n (some (.row true m sz (pes.map fun e=>e.map PC.er)))) (.one (.sl n sz 0 pes.length)) (.slice (some (ad w.heap.size 0)) pes.length cap):=by
 have hB:=r.fr.size
 have hw:=LM w (.cells arr e)
 have adg:HR B E (w.alloc (.cells arr e)) ⟨Im',au G.g n ⟨false,w.heap.size,0,cap,pes,none⟩⟩ (au σ1.h n (some (.row true m sz (pes.map fun e=>e.map PC.er)))) (au σ.used n true) []:=by
  refine H.insert (p:=⟨false,w.heap.size,0,cap,pes,none⟩) hn hw (by simp) (fun _=>⟨H.PO,.inl hB,by simp⟩) (fun cs c m hb=>by cases hb) ?_ ?_ ?_ (fun gr m sz xs _ _ i pc b hi=>by simp at hi)
  ·refine⟨bD,rfl,(fun hl=>by cases hl),fun _=>⟨dD.alloc _ _ _,⟨hl,fun k j c hk=>?_,fun k j c hk=>?_⟩,ju⟩,fun _ _=>⟨yp,arr,e,heap_alloc_new w _,(Nat.zero_add _).symm▸uo⟩,?_⟩
   ·simp only[Nat.zero_add]
    unfold ad
    rw[World.cell?_alloc_new]
    exact tW k j c hk
   ·exact(gO k j c hk).1.congr fun b hb o=>iF (hw b (H.fW b ((gO k j c hk).2 b hb))) o
   ·have nh:m≠ .aD->(∀b,aV b pes->Im' b/\dD (w.alloc (.cells arr e)) b/\(B<=b\/E b))/\ij pes:=fun gZ=>
     ⟨fun b hb=>by
      have hO:=hm.resolve_left gZ
      obtain⟨q1,q2,q3⟩:=hO.m8 b hb
      exact⟨q1,q2.congr (hw b (H.fW b q1)),q3⟩,(hm.resolve_left gZ).sep⟩
    cases m with
    |aD=>
     rintro b ⟨k,j,c,hk,hb⟩
     exact(gO k j c hk).2 b hb
    |ae=>exact nh (by simp)
    |live=>
     have hO:=hm.resolve_left (by simp)
     have ca:=hO.kind.resolve_left (by simp)
     exact⟨fun b hb=>absurd hb (ca b),hO.sep⟩
  ·intro gr m' aJ aq hb gZ n' bk mS jZ ii h0 iZ b cF
   injection hb with _ hb _ _
   subst hb
   exact(hm.resolve_left gZ).fJ n' bk mS jZ ii h0 iZ b cF
  ·intro gr aJ aq hb b cF
   injection hb with _ hb _ _
   subst hb
   exact absurd cF ((hm.resolve_left (by simp)).kind.resolve_left (by simp) b)
 have K2:=bc.trans (u2:=fun n=>σ.used n=true) (fun _ h=>h) K (bc.insert H (blk:=.row true m sz (pes.map fun e=>e.map PC.er)) (p:=⟨false,w.heap.size,0,cap,pes,none⟩) hn hw)
 refine⟨⟨Im',au G.g n ⟨false,w.heap.size,0,cap,pes,none⟩⟩,r.step yh (fun m hm=>by rw[lG];exact qR n m hm) K2 (by rw[lG];exact adg) (r.fr.grow hw (by simp) rfl rfl rfl),?_⟩
 refine RA.ga rfl fun _=>.inr ⟨by simp[bF],some (ad w.heap.size 0),?_,?_,?_⟩
 ·simp[bF]
 ·simp[bF];omega
 ·simp[bF]
end
end Go.Am
end
