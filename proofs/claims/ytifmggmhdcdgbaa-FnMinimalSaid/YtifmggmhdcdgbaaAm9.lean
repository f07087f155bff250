/- Am6, Am7, Am8, Am9: parts of the proof. No condition. -/
import Derived.Test.YtifmggmhdcdgbaaAm5
set_option linter.unusedVariables false
section
namespace Go.Am
section
variable {B:Nat} {E:Ex} {w0 w w':World} {G G':Gh} {h h':Nat->Option aq} {used used':Nat->Bool} {tk:List PC}
theorem aT.pA (S:Nat->Prop) (u:Nat->Prop):aT w G h u w ⟨fun b=>G.Im b\/S b,G.g⟩ h:=
 ⟨fun _ h=>.inl h,fun _ _ _=>rfl,fun _ _ h=>⟨h,rfl,rfl,rfl,rfl,rfl⟩,fun n gr sz xs _ hn=>⟨⟨gr,xs,hn⟩,fun k j pc h1 h2=>⟨pc,h1,rfl,h2⟩⟩⟩
theorem HR.pA (H:HR B E w G h used tk) (S:Nat->Prop) (h1:∀b,S b->b<w.heap.size) (h2:∀b,S b->∀n,h n≠none->(G.g n).nl=false->b≠(G.g n).b)
  (h3:∀b,S b->∀n gr sz xs,h n=some (.row gr .live sz xs)->¬aP b (G.g n).px) (h4:∀b,S b->B<=b\/E b\/E.a b):HR B E w ⟨fun b=>G.Im b\/S b,G.g⟩ h used tk:=by
 refine⟨H.iA,H.gi,fun n cs hn=>?_,fun n gr m sz xs hn=>?_,fun n hn hl=>?_,H.inj,?_,fun b hb=>hb.elim (H.ox b) (h4 b),H.fi,H.live,fun i pc hi=>?_,H.uh,H.qb⟩
 ·obtain⟨a1,a2,a3⟩:=H.box n cs hn
  refine⟨a1,a2,fun j c hj=>?_⟩
  obtain⟨v,b1,b2,b3⟩:=a3 j c hj
  exact⟨v,b1,b2,b3.eI (aT.pA S (fun n=>used n=true)) fun q hq=>H.gi n cs c q hn (List.mem_of_getElem? hj) hq⟩
 ·have hr:=H.row n gr m sz xs hn
  refine⟨hr.pos,hr.er,hr.nl,hr.dB,hr.room,?_⟩
  have hm:=hr.mode
  cases m with
  |aA=>exact fun b hb=>.inl (hm b hb)
  |ae=>exact⟨fun b hb=>⟨.inl (hm.1 b hb).1,(hm.1 b hb).2⟩,hm.2⟩
  |live=>exact⟨fun b hb=>⟨fun hi=>hi.elim (hm.1 b hb).1 (fun hs=>h3 b hs n gr sz xs hn hb),(hm.1 b hb).2⟩,hm.2⟩
 ·obtain⟨a1,a2,a3⟩:=H.own n hn hl
  exact⟨fun hi=>hi.elim a1 (fun hs=>h2 _ hs n hn hl rfl),a2,a3⟩
 ·exact fun b hb=>hb.elim (H.fx b) (h1 b)
 ·obtain⟨a1,a2⟩:=H.qa i pc hi
  exact⟨a1,fun b hb=>⟨.inl (a2 b hb).1,(a2 b hb).2⟩⟩
theorem HR.wu {l:List PC} (H:HR B E w G h used (tk++l)):HR B E w G h used tk:=by
 have e:∀(i:Nat) (pc:PC),tk[i]? =some pc->(tk++l)[i]? =some pc:=fun i pc hi=>by
  rw[List.getElem?_append_left (List.getElem?_eq_some_iff.1 hi).1];exact hi
 exact⟨H.iA,H.gi,H.box,H.row,H.own,H.inj,H.fx,H.ox,H.fi,H.live,fun i pc hi=>H.qa i pc (e i pc hi),fun i j pc c8 b jN h1 h2=>H.uh i j pc c8 b jN (e i pc h1) (e j c8 h2),
  fun i pc n gr m sz xs b hi=>H.qb i pc n gr m sz xs b (e i pc hi)⟩
theorem HR.Sf (H:HR B E w G h used tk) {pc:PC} (h1:Sep pc) (h2:∀b,aM b pc->G.Im b/\dk w b/\(B<=b\/E b))
  (h3:∀(i:Nat) (q:PC) (b:Nat),tk[i]? =some q->aM b q->¬aM b pc)
  (h4:∀n gr m sz xs b,h n=some (.row gr m sz xs)->m≠ .aA->aM b pc->¬aP b (G.g n).px):HR B E w G h used (tk++[pc]):=by
 have e:∀(i:Nat) (q:PC),(tk++[pc])[i]? =some q->(i<tk.length/\tk[i]? =some q)\/(i=tk.length/\q=pc):=fun i q hi=>by
  rcases Nat.lt_trichotomy i tk.length with bL|du|xC
  ·rw[List.getElem?_append_left bL] at hi;exact .inl ⟨bL,hi⟩
  ·subst du;simp at hi;exact .inr ⟨rfl,hi.symm⟩
  ·rw[List.getElem?_eq_none (by simp;omega)] at hi;cases hi
 refine⟨H.iA,H.gi,H.box,H.row,H.own,H.inj,H.fx,H.ox,H.fi,H.live,fun i q hi=>?_,fun i j q q' b jN hi hj hb=>?_,fun i q n gr m sz xs b hi hn hm hb=>?_⟩
 ·rcases e i q hi with⟨_,hi⟩|⟨_,rfl⟩
  ·exact H.qa i q hi
  ·exact⟨h1,h2⟩
 ·rcases e i q hi with⟨_,hi'⟩|⟨ei,eq⟩
  ·rcases e j q' hj with⟨_,jl⟩|⟨_,Uc⟩
   ·exact H.uh i j q q' b jN hi' jl hb
   ·rw[Uc];exact h3 i q b hi' hb
  ·rcases e j q' hj with⟨_,jl⟩|⟨ej,Uc⟩
   ·rw[eq] at hb;exact fun aR=>h3 j q' b jl aR hb
   ·omega
 ·rcases e i q hi with⟨_,hi⟩|⟨_,rfl⟩
  ·exact H.qb i q n gr m sz xs b hi hn hm hb
  ·exact h4 n gr m sz xs b hn hm hb
theorem Sep.kA {pc:PC} (hs:pc.er.dT=true):Sep pc/\∀b,¬aM b pc:=by
 cases pc with
 |int k n=>exact⟨.int k n,fun b hb=>by cases hb⟩
 |bool b=>exact⟨.bool b,fun b hb=>by cases hb⟩
 |list sz a cap xs=>simp[PC.dr,C.dT] at hs
theorem oZ {n m:Nat} {b:aq} (hm:au h n none m=some b):h m=some b/\m≠n:=by
 by_cases bB:m=n
 ·subst bB;rw[bC] at hm;cases hm
 ·rw[cb _ _ _ _ bB] at hm;exact⟨hm,bB⟩
theorem zu {n m:Nat} (hm:au h n none m≠none):h m≠none/\m≠n:=by
 cases hh:au h n none m with
 |none=>exact absurd hh hm
 |some b=>obtain⟨a,b⟩:=oZ hh;exact⟨by rw[a];simp,b⟩
def Jb (p:PB):Nat->Prop:=fun b=>(p.nl=false/\b=p.b)\/aP b p.px
theorem HR.freeze (H:HR B E w G h used tk) {n:Nat} {gr:Bool} {m:Mode} {rs:Nat} {xs:List (List C)} (hn:h n=some (.row gr m rs xs)):
  HR B E w ⟨fun b=>G.Im b\/Jb (G.g n) b,G.g⟩ (au h n none) used tk:=by
 have hr:=H.row n gr m rs xs hn
 have bM:h n≠none:=by rw[hn];simp
 have gu:∀b,aP b (G.g n).px->G.Im b\/m=.live:=fun b hb=>by
  have hm:=hr.mode
  cases m with
  |aA=>exact .inl (hm b hb)
  |ae=>exact .inl (hm.1 b hb).1
  |live=>exact .inr rfl
 refine(H.del n).pA (Jb (G.g n)) (fun b hb=>?_) (fun b hb q hq hl=>?_) (fun b hb q bh aG ar hq cq=>?_) (fun b hb=>?_)
 ·rcases hb with⟨h1,rfl⟩|hb
  ·exact(H.own n bM h1).2.2
  ·exact H.pT hn hb
 ·obtain⟨mK,eG⟩:=zu hq
  rcases hb with⟨h1,rfl⟩|hb
  ·exact H.inj n q bM mK (Ne.symm eG) h1 hl
  ·rcases gu b hb with hi|rfl
   ·rintro rfl;exact(H.own q mK hl).1 hi
   ·exact H.live n gr rs xs hn b hb q mK hl
 ·obtain⟨mK,eG⟩:=oZ hq
  rcases hb with⟨h1,rfl⟩|hb
  ·exact H.live q bh aG ar mK _ cq n bM h1 rfl
  ·rcases gu b hb with hi|rfl
   ·exact((H.row q bh .live aG ar mK).mode.1 b cq).1 hi
   ·exact H.fi n q gr .live rs xs bh .live aG ar hn mK (by simp) (by simp) (Ne.symm eG) b hb cq
 ·rcases hb with⟨h1,rfl⟩|hb
  ·exact(H.own n bM h1).2.1.imp id .inl
  ·rcases gu b hb with hi|rfl
   ·exact H.ox b hi
   ·exact(hr.mode.1 b hb).2.2.imp id .inl
theorem gS.sub {px:List (List PC)} (hs:gS px) (lo len:Nat):gS ((px.drop lo).take len):=by
 refine⟨fun k j c hk=>hs.1 _ _ _ (nU hk).1,fun k j c k' j' c' b hk cW aw hb=>hs.2 _ _ _ _ _ _ b (nU hk).1 (nU cW).1 (fun e=>aw ?_) hb⟩
 injection e with e1 e2
 rw[show k=k' by omega,e2]
theorem HR.fC {σ σ1:St} (H:HR B E w G σ.h σ.used tk) {c:ai} {x:C} {o:Bool} {v:Value} (hx:σ.fC c=some (x,o,σ1)) (hc:RC w G σ.h c v):
  ∃(Im':Nat->Prop) (pc:PC),pc.er=x/\pc.val=v/\Good w pc/\(∀b,aM b pc->Im' b)/\
   HR B E w ⟨Im',G.g⟩ σ1.h σ.used (if o=true then tk++[pc] else tk)/\aT w G σ.h (fun n=>σ.used n=true) w ⟨Im',G.g⟩ σ1.h/\σ1.env=σ.env/\σ1.used=σ.used/\
   (∀n b,σ1.h n=some b->σ.h n=some b):=by
 cases c with
 |c y=>
  simp only[St.fC] at hx
  injection hx with hx
  injection hx with la dO
  injection dO with dO n9
  subst la dO n9
  obtain⟨pc,h1,h2,h3,h4⟩:=hc
  refine⟨G.Im,pc,h1,h2,h3,h4,?_,aT.refl _ _ _ _,rfl,rfl,fun _ _ h=>h⟩
  by_cases hs:y.dT=true
  ·rw[if_pos hs]
   obtain⟨s1,s2⟩:=Sep.kA (pc:=pc) (by rw[h1];exact hs)
   exact H.Sf s1 (fun b hb=>absurd hb (s2 b)) (fun _ _ b _ _=>s2 b) (fun _ _ _ _ _ b _ _ hb=>absurd hb (s2 b))
  ·rw[if_neg hs];exact H
 |nil sz=>
  simp only[St.fC] at hx
  split at hx
  ·rename_i eu
   injection hx with hx
   injection hx with la dO
   injection dO with dO n9
   subst la dO n9
   have ct:v=.slice none 0 0:=hc
   subst ct
   have cf:∀b,¬aM b (.list sz none 0 []):=fun b hb=>by
    rw[aM.jZ] at hb
    rcases hb with⟨hb,_⟩|⟨k,j,c,⟨e,he,_⟩,_⟩
    ·exact absurd rfl hb
    ·simp at he
   refine⟨G.Im,.list sz none 0 [],by simp[PC.dr],rfl,.nil _ _ _ eu,fun b hb=>absurd hb (cf b),?_,aT.refl _ _ _ _,rfl,rfl,fun _ _ h=>h⟩
   rw[if_pos rfl]
   refine H.Sf (.list _ _ _ _ ?_ ?_ ?_) (fun b hb=>absurd hb (cf b)) (fun _ _ b _ _=>cf b) (fun _ _ _ _ _ b _ _ hb=>absurd hb (cf b))
   ·rintro k j c ⟨e,he,_⟩;simp at he
   ·rintro b o k j c _ ⟨e,he,_⟩;simp at he
   ·rintro k j c k' j' c' b ⟨e,he,_⟩;simp at he
  ·cases hx
 |sl n sz lo len=>
  simp only[St.fC] at hx
  split at hx
  ·rename_i gr m rs xs hn
   split at hx
   ·rename_i cz
    obtain⟨rfl,rfl,kq⟩:=cz
    injection hx with hx
    injection hx with la dO
    injection dO with dO n9
    subst la dO n9
    have hl:0+len<=xs.length:=by omega
    have bM:σ.h n≠none:=by rw[hn];simp
    have hs:jg (G.g n) rs 0 len v:=hc bM
    have hr:=H.row n gr m rs xs hn
    obtain⟨a1,a2,a3,a4⟩:=D2 hr hs hl
    have HF:=H.freeze hn
    have K1:aT w G σ.h (fun n=>σ.used n=true) w ⟨fun b=>G.Im b\/Jb (G.g n) b,G.g⟩ (au σ.h n none):=
     aT.trans (fun _ h=>h) (aT.del n (fun n=>σ.used n=true)) (aT.pA (Jb (G.g n)) (fun n=>σ.used n=true))
    refine⟨_,j0 (G.g n) rs 0 len v,by simpa using a1,a2,a3,fun b hb=>.inr (a4 b hb),?_,K1,rfl,rfl,fun q b hq=>(oZ hq).1⟩
    by_cases hm:m≠ .aA
    ·rw[if_pos (by simpa using hm)]
     have qG:(∀b,aP b (G.g n).px->dk w b/\(B<=b\/E b))/\gS (G.g n).px/\(∀b,aP b (G.g n).px->(G.g n).nl=false->b≠(G.g n).b):=by
      have cR:=hr.mode
      cases m with
      |aA=>exact absurd rfl hm
      |ae=>exact⟨fun b hb=>(cR.1 b hb).2,cR.2,fun b hb hl du=>(H.own n bM hl).1 (du▸(cR.1 b hb).1)⟩
      |live=>exact⟨fun b hb=>(cR.1 b hb).2,cR.2,fun b hb hl=>H.live n gr rs xs hn b hb n bM hl⟩
     obtain⟨o1,o2,o3⟩:=qG
     refine HF.Sf ?_ (fun b hb=>⟨.inr (a4 b hb),?_⟩) (fun i q b hi hb aR=>?_) (fun q bh m' aG ar b hq bI hb cq=>?_)
     ·
      rcases hs with⟨aK,rfl,_,rfl⟩|⟨aK,a,rfl,jL,ha⟩
      ·simp only[j0]
       have hz:(List.take 0 (List.drop 0 (G.g n).px))=[]:=by simp
       rw[hz]
       refine .list _ _ _ _ ?_ ?_ ?_
       ·rintro k j c ⟨e,he,_⟩;simp at he
       ·rintro b o k j c _ ⟨e,he,_⟩;simp at he
       ·rintro k j c k' j' c' b ⟨e,he,_⟩;simp at he
      ·simp only[j0]
       have CY:=o2.sub 0 len
       refine .list _ _ _ _ CY.1 (fun b o k j c eE hk hb=>?_) CY.2
       have cW:=(nU hk).1
       have VA:0<len:=by have:=(nU hk).2;omega
       have e:=ha (.inl (by omega))
       rw[e] at eE
       injection eE with eE
       exact o3 b ⟨_,_,_,cW,hb⟩ aK (nb eE).1.symm
     ·rcases a4 b hb with⟨dq,rfl⟩|aR
      ·exact⟨(hr.dB dq).1,(H.own n bM dq).2.1⟩
      ·exact o1 b aR
     ·rcases a4 b aR with⟨dq,rfl⟩|cq
      ·exact(H.own n bM dq).1 ((H.qa i q hi).2 _ hb).1
      ·exact H.qb i q n gr m rs xs b hi hn hm hb cq
     ·obtain⟨mK,eG⟩:=oZ hq
      rcases a4 b hb with⟨dq,rfl⟩|aR
      ·have cR:=(H.row q bh m' aG ar mK).mode
       cases m' with
       |aA=>exact absurd rfl bI
       |ae=>exact(H.own n bM dq).1 (cR.1 _ cq).1
       |live=>exact H.live q bh aG ar mK _ cq n bM dq rfl
      ·exact H.fi n q gr m rs xs bh m' aG ar hn mK hm bI (Ne.symm eG) b aR cq
    ·rw[if_neg (by simpa using hm)]
     exact HF
   ·cases hx
  ·cases hx
 |ptr _ _ _ _=>simp[St.fC] at hx
 |cd _ _=>simp[St.fC] at hx
 |bx _ _ _ _ _ _=>simp[St.fC] at hx
 |fn _ _=>simp[St.fC] at hx
 |cD _ _ _ _ _ _=>simp[St.fC] at hx
 |bf=>simp[St.fC] at hx
end
end Go.Am
end
section
namespace Go.Am
section
variable {B:Nat} {E:Ex} {w0 w w':World} {G G':Gh} {h h':Nat->Option aq} {used used':Nat->Bool} {tk:List PC}
theorem HR.fc:∀{cs:List ai} {σ σ1:St} {G:Gh} {tk:List PC} {xs:List C} {o:Bool} {vs:List Value},HR B E w G σ.h σ.used tk->σ.fc cs=some (xs,o,σ1)->cA w G σ.h cs vs->
  (∀c∈cs,∀m,c.ref m->σ.used m=true)->
  ∃(Im':Nat->Prop) (bu:List PC),bu.map PC.er=xs/\bu.map PC.val=vs/\(∀pc∈bu,Good w pc/\∀b,aM b pc->Im' b)/\
   HR B E w ⟨Im',G.g⟩ σ1.h σ.used (if o=true then tk++bu else tk)/\aT w G σ.h (fun n=>σ.used n=true) w ⟨Im',G.g⟩ σ1.h/\σ1.env=σ.env/\σ1.used=σ.used/\
   (∀n b,σ1.h n=some b->σ.h n=some b)
 |[],σ,σ1,G,tk,xs,o,vs,H,hx,hc,hr=>by
  simp only[St.fc] at hx
  injection hx with hx
  injection hx with la dO
  injection dO with dO n9
  subst la dO n9
  have:vs=[]:=List.eq_nil_of_length_eq_zero (by simpa using hc.1)
  subst this
  exact⟨G.Im,[],rfl,rfl,by simp,by simpa using H,aT.refl _ _ _ _,rfl,rfl,fun _ _ h=>h⟩
 |c::cs,σ,σ2,G,tk,xs,o,vs,H,hx,hc,hr=>by
  simp only[St.fc] at hx
  split at hx
  ·rename_i x o1 σ1 e1
   split at hx
   ·rename_i ar o2 SG e2
    injection hx with hx
    injection hx with la dO
    injection dO with dO n9
    subst la dO n9
    obtain⟨hlen,bO⟩:=hc
    match vs,hlen with
    |v::vs,hlen=>
     obtain⟨wK,pc,a1,a2,a3,a4,a5,a6,a7,a8,a9⟩:=H.fC e1 (bO 0 c v rfl rfl).2
     have uZ:cA w ⟨wK,G.g⟩ σ1.h cs vs:=cA.eI a6 (fun c' ct m hm=>hr c' (by simp[ct]) m hm) ⟨by simpa using hlen,fun j c u h1 h2=>bO (j+1) c u h1 h2⟩
     rw[<-a8] at a5
     obtain⟨BN,bu,b1,b2,b3,b4,b5,b6,b7,b8⟩:=HR.fc a5 e2 uZ (fun c' ct m hm=>by rw[a8];exact hr c' (by simp[ct]) m hm)
     refine⟨BN,pc::bu,by simp[a1,b1],by simp[a2,b2],fun q hq=>?_,?_,aT.trans (fun n hn=>by rw[a8];exact hn) a6 b5,b6.trans a7,b7.trans a8,fun n b hb=>a9 n b (b8 n b hb)⟩
     ·cases hq with
      |head=>exact⟨a3,fun b hb=>b5.im b (a4 b hb)⟩
      |tail _ hq=>exact b3 q hq
     ·rw[a8] at b4
      cases o1<;>cases o2<;>simp at b4⊢
      ·exact b4
      ·exact b4.wu
      ·exact b4.wu
      ·exact b4
   ·cases hx
  ·cases hx
theorem RA.cells {x:ak} {ag:Bool} {cs:List ai} {v:Value} (hx:x.cells?=some (ag,cs)) (hc:RA w G h x v):cA w G h cs v.cells.toList:=by
 cases x with
 |one c=>
  have hj:c≠ .bf/\ag=false/\cs=[c]:=by
   cases c<;>simp[ak.cells?] at hx<;>(obtain⟨rfl,rfl⟩:=hx;simp)
  obtain⟨h1,rfl,rfl⟩:=hj
  rcases hc with rfl|hc
  ·exact absurd rfl h1
  ·have ct:cA w G h [c] [v]:=hc
   have h1:=(ct.2 0 c v rfl rfl).1
   cases v<;>first|exact ct|(simp[Value.oneCell'] at h1)
 |agg cs'=>
  simp[ak.cells?] at hx
  obtain⟨rfl,rfl⟩:=hx
  obtain⟨vs,e,hl⟩:∃vs:List Value,v=.agg vs.toArray/\cA w G h cs' vs:=hc
  subst e
  exact hl
 |bn xs=>simp[ak.cells?] at hx
theorem ak.zk {x:ak} {ag:Bool} {cs:List ai} (hx:x.cells?=some (ag,cs)) {c:ai} (hc:c∈cs) {m:Nat} (hm:c.ref m):x.ref m:=by
 cases x with
 |one c'=>
  have hj:cs=[c']:=by
   cases c'<;>simp[ak.cells?] at hx<;>exact hx.2.symm
  subst hj
  simp at hc
  subst hc
  exact hm
 |agg cs'=>
  simp[ak.cells?] at hx
  obtain⟨_,rfl⟩:=hx
  exact⟨c,hc,hm⟩
 |bn xs=>simp[ak.cells?] at hx
theorem HR.kH {sz:Nat}:∀{xs:List ak} {σ σ1:St} {G:Gh} {tk:List PC} {es:List (List C)} {o:Bool} {vs:List Value},HR B E w G σ.h σ.used tk->σ.kH sz xs=some (es,o,σ1)->
  vs.length=xs.length->(∀(j:Nat) (x:ak) (v:Value),xs[j]? =some x->vs[j]? =some v->RA w G σ.h x v)->(∀x∈xs,∀m,x.ref m->σ.used m=true)->
  ∃(Im':Nat->Prop) (pes:List (List PC)),pes.map (fun e=>e.map PC.er)=es/\pes.map (fun e=>e.map PC.val)=vs.map (fun v=>v.cells.toList)/\(∀e∈pes,e.length=sz)/\
   (∀e∈pes,∀pc∈e,Good w pc/\∀b,aM b pc->Im' b)/\
   HR B E w ⟨Im',G.g⟩ σ1.h σ.used (if o=true then tk++pes.flatten else tk)/\aT w G σ.h (fun n=>σ.used n=true) w ⟨Im',G.g⟩ σ1.h/\σ1.env=σ.env/\σ1.used=σ.used/\
   (∀n b,σ1.h n=some b->σ.h n=some b)
 |[],σ,σ1,G,tk,es,o,vs,H,hx,hl,hc,hr=>by
  simp only[St.kH] at hx
  injection hx with hx
  injection hx with la dO
  injection dO with dO n9
  subst la dO n9
  have:vs=[]:=List.eq_nil_of_length_eq_zero (by simpa using hl)
  subst this
  exact⟨G.Im,[],rfl,rfl,by simp,by simp,by simpa using H,aT.refl _ _ _ _,rfl,rfl,fun _ _ h=>h⟩
 |x::xs,σ,σ2,G,tk,es,o,vs,H,hx,hl,hc,hr=>by
  simp only[St.kH] at hx
  split at hx
  ·rename_i ag cs jK
   split at hx
   ·rename_i bE
    split at hx
    ·rename_i e o1 σ1 e1
     split at hx
     ·rename_i es' o2 SG e2
      injection hx with hx
      injection hx with la dO
      injection dO with dO n9
      subst la dO n9
      match vs,hl with
      |v::vs,hl=>
       have bP:=(hc 0 x v rfl rfl).cells jK
       obtain⟨wK,bu,a1,a2,a3,a5,a6,a7,a8,a9⟩:=H.fc e1 bP (fun c' ct m hm=>hr x (by simp) m (ak.zk jK ct hm))
       rw[<-a8] at a5
       obtain⟨BN,pes,b1,b2,b3,b3',b4,b5,b6,b7,b8⟩:=HR.kH (xs:=xs) (vs:=vs) a5 e2 (by simpa using hl)
        (fun j x v h1 h2=>(hc (j+1) x v h1 h2).eI a6 (fun m hm=>hr x (by simp[List.mem_of_getElem? h1]) m hm)) (fun x' eT m hm=>by rw[a8];exact hr x' (by simp[eT]) m hm)
       refine⟨BN,bu::pes,by simp[a1,b1],by simp[a2,b2],fun q hq=>?_,fun q hq pc aV=>?_,?_,aT.trans (fun n hn=>by rw[a8];exact hn) a6 b5,b6.trans a7,b7.trans a8,fun n b hb=>a9 n b (b8 n b hb)⟩
       ·cases hq with
        |head=>
         have:(bu.map PC.er).length=(v.cells.toList).length:=by rw[<-a2];simp
         have h2:=bP.1
         simp at this
         simp at h2
         omega
        |tail _ hq=>exact b3 q hq
       ·cases hq with
        |head=>exact⟨(a3 pc aV).1,fun b hb=>b5.im b ((a3 pc aV).2 b hb)⟩
        |tail _ hq=>exact b3' q hq pc aV
       ·rw[a8] at b4
        cases o1<;>cases o2<;>simp at b4⊢
        ·exact b4
        ·exact b4.wu
        ·exact b4.wu
        ·exact b4
     ·cases hx
    ·cases hx
   ·cases hx
  ·cases hx
def iL (b:Nat) (pc:PC):Prop:=aM b pc\/∃sz o cap xs,pc=.list sz (some (ad b o)) cap xs/\cap≠0
def BV (w:World):PC->Prop
 |.list sz a cap xs=>0<sz/\xs.length<=cap/\(cap=0\/∃b o cur e,a=some (ad b o)/\w.heap[b]? =some (.cells cur e (0,0))/\cur.size=o+cap*sz/\cap<=maxLen/\∀k j c,At xs k j c->¬aM b c)
 |_=>True
structure BT (w:World) (B':Nat) (ps:List PC):Prop where
 ek:∀pc∈ps,Good w pc/\Sep pc/\BV w pc
 new:∀pc∈ps,∀b,iL b pc->B'<=b/\dk w b
 mz:∀(i j:Nat) (pc c8:PC) (b:Nat),i≠j->ps[i]? =some pc->ps[j]? =some c8->iL b pc->¬iL b c8
def pR:K×List PC->Value
 |(.one,[pc])=>pc.val
 |(_,bu)=>.agg (bu.map PC.val).toArray
def vZ:List (K×List PC)->Value
 |[p]=>pR p
 |l=>.tuple (l.map pR).toArray
def ff (P:Program) (f:FuncId) (M:List Dv->Option (List Dv)):Prop:=
 ∀ds rs,M ds=some rs->∀(w:World) (vals:List Value),Eu w ds vals->Calls P f vals.toArray w fun e w'=>
  ∃aO:List (K×List PC),aO.map (fun p=>(p.1,p.2.map PC.er))=rs/\e=.returned (vZ aO)/\(∀p∈aO,p.1≠ .ptr/\(p.1=.one->p.2.length=1))/\
   BT w' w.heap.size (aO.flatMap (·.2))/\Fr w.heap.size Ex.no w w'
end
end Go.Am
end
section
namespace Go.Am
section
variable {B:Nat} {E:Ex} {w0 w w':World} {G G':Gh} {h h':Nat->Option aq} {used used':Nat->Bool} {tk:List PC} {N:Nat}
def nS (G:Gh) (h:Nat->Option aq) (b:Nat):Prop:=
 ¬G.Im b/\(∀n,h n≠none->(G.g n).nl=false->(G.g n).b≠b)/\∀n gr m sz xs,h n=some (.row gr m sz xs)->¬aP b (G.g n).px
theorem HR.Ok (H:HR B E w G h used tk):nS G h w.heap.size:=
 ⟨fun hi=>Nat.lt_irrefl _ (H.fx _ hi),fun n hn hl he=>by have:=(H.own n hn hl).2.2;omega,fun n gr m sz xs hn hb=>Nat.lt_irrefl _ (H.pT hn hb)⟩
def aah (B:Nat) (E:Ex) (w w':World) (G:Gh) (h:Nat->Option aq) (p:PB):aq->Prop
 |.box cs=>p.nl=false/\dk w' p.b/\∀(j:Nat) (c:ai),cs[j]? =some c->∃v,w'.cell? (ad p.b (p.o+j))=some v/\v.oneCell'=true/\RC w G h c v
 |.row gr m sz xs=>sU B E w' G gr m sz xs p
theorem aT.insert (H:HR B E w G h used tk) {n:Nat} {blk:aq} {p:PB} (hn:used n=false) (hw:∀b,b<w.heap.size->w'.heap[b]? =w.heap[b]?):
  aT w G h (fun n=>used n=true) w' ⟨G.Im,au G.g n p⟩ (au h n (some blk)):=by
 have ne:∀m,used m=true->m≠n:=fun m hm e=>by subst e;rw[hn] at hm;cases hm
 refine⟨fun _ h=>h,fun b hb o=>hZ (hw b (H.fx b hb)) o,fun m hm h0=>?_,fun m gr sz xs hm h0=>?_⟩
 ·rw[cb _ _ _ _ (ne m hm)] at h0
  simp only[cb _ _ _ _ (ne m hm)]
  exact⟨h0,trivial,trivial,trivial,trivial,trivial⟩
 ·rw[cb _ _ _ _ (ne m hm)] at h0
  simp only[cb _ _ _ _ (ne m hm)]
  exact⟨⟨gr,xs,h0⟩,fun k j pc h1 h2=>⟨pc,h1,rfl,h2⟩⟩
theorem HR.insert (H:HR B E w G h used tk) {n:Nat} {blk:aq} {p:PB} (hn:used n=false) (hw:∀b,b<w.heap.size->w'.heap[b]? =w.heap[b]?) (bE:w.heap.size<=w'.heap.size)
  (hl:p.nl=false->nS G h p.b/\(B<=p.b\/E p.b)/\p.b<w'.heap.size)
  (vm:∀cs c m,blk=.box cs->c∈cs->c.ref m->used m=true)
  (gB:aah B E w w' G h p blk)
  (GS:∀gr m sz xs,blk=.row gr m sz xs->m≠ .aA->∀n' bh m' aG ar,h n'=some (.row bh m' aG ar)->m'≠ .aA->∀b,aP b p.px->¬aP b (G.g n').px)
  (rS:∀gr sz xs,blk=.row gr .live sz xs->∀b,aP b p.px->(p.nl=false->b≠p.b)/\∀n',h n'≠none->(G.g n').nl=false->b≠(G.g n').b)
  (zY:∀gr m sz xs,blk=.row gr m sz xs->m≠ .aA->∀(i:Nat) (pc:PC) (b:Nat),tk[i]? =some pc->aM b pc->¬aP b p.px):
  HR B E w' ⟨G.Im,au G.g n p⟩ (au h n (some blk)) (au used n true) tk:=by
 have K:=aT.insert H (blk:=blk) (p:=p) hn hw
 have LH:h n=none:=by
  cases hh:h n with
  |none=>rfl
  |some b=>have:=H.iA n (by rw[hh];simp);rw[hn] at this;cases this
 have aw:∀m,h m≠none->m≠n:=fun m hm e=>by subst e;exact hm LH
 have hu:∀m,used m=true->au used n true m=true:=fun m hm=>by
  simp only[iK];split
  ·rfl
  ·exact hm
 refine H.put (fun b hb _=>hw b hb) bE (fun b hb hU=>hU.congr (hw b hb)) hu (bC _ _ _) (fun hp=>⟨(hl hp).1.1,(hl hp).2⟩) (fun hp m hm h0 kq=>(hl hp).1.2.1 m h0 kq)
  (fun hp m gr sz xs hm h0 b hb he=>(hl hp).1.2.2 m gr _ sz xs h0 (he▸hb)) (fun cs c m hb hc hr=>hu m (vm cs c m hb hc hr)) K ?_
  (fun gr m sz xs hb hm n' bh m' aG ar _ h0=>GS gr m sz xs hb hm n' bh m' aG ar h0) (fun gr sz xs hb b cq=>⟨(rS gr sz xs hb b cq).1,fun n' _=>(rS gr sz xs hb b cq).2 n'⟩) zY
  (fun hp _ b hb he=>by obtain⟨m,gr,mo,sz,xs,_,h0,cq⟩:=hb;exact(hl hp).1.2.2 m gr mo sz xs h0 (he▸cq))
 cases blk with
 |box cs=>
  obtain⟨a1,a2,a3⟩:=gB
  refine⟨a1,a2,fun j c hj=>?_⟩
  obtain⟨v,b1,b2,b3⟩:=a3 j c hj
  exact⟨v,b1,b2,b3.eI K fun m hm=>vm cs c m rfl (List.mem_of_getElem? hj) hm⟩
 |row gr m sz xs=>
  have hr:sU B E w' G gr m sz xs p:=gB
  exact⟨hr.pos,hr.er,hr.nl,hr.dB,hr.room,by
   have:=hr.mode
   cases m<;>exact this⟩
theorem R.put {σ:St} {a:Act} (r:R B E w0 N σ a w G) {x:ak} {v:Value} (hv:RA w G σ.h x v) (hr:∀m,x.ref m->σ.used m=true) {d:Option Nat} (hd:∀n,d=some n->n<N):
  R B E w0 N (σ.put d x) (a.put d v) w G:=by
 cases d with
 |none=>exact r
 |some n=>
  have hn:=hd n rfl
  refine⟨r.defers,by simp[Act.put,r.size],fun s=>?_,fun s m hm=>?_,r.hr,r.fr,r.pK,r.yr⟩
  ·simp only[St.put,Act.put]
   by_cases hs:s=n
   ·subst hs
    rw[bC]
    have:(a.tmps.setIfInBounds s v).getD s undef=v:=by
     simp[Array.getD_eq_getD_getElem?,r.size,hn]
    rw[this]
    exact hv
   ·rw[cb _ _ _ _ hs]
    have:(a.tmps.setIfInBounds n v).getD s undef=a.tmps.getD s undef:=by
     simp[Array.getD_eq_getD_getElem?,Array.getElem?_setIfInBounds_ne (Ne.symm hs)]
    rw[this]
    exact r.env s
  ·simp only[St.put] at hm⊢
   by_cases hs:s=n
   ·subst hs;rw[bC] at hm;exact hr m hm
   ·rw[cb _ _ _ _ hs] at hm;exact r.rf s m hm
theorem R.step {σ:St} {a:Act} (r:R B E w0 N σ a w G) {σ':St} (he:σ'.env=σ.env) (hu:∀m,σ.used m=true->σ'.used m=true) (K:aT w G σ.h (fun n=>σ.used n=true) w' G' σ'.h)
  (H:HR B E w' G' σ'.h σ'.used []) (F:Fr B E w0 w'):R B E w0 N σ' a w' G':=
 ⟨r.defers,r.size,fun s=>by rw[he];exact(r.env s).eI K (fun m hm=>r.rf s m hm),fun s m hm=>by rw[he] at hm;exact hu m (r.rf s m hm),H,F,
  fun n p b hp hb=>by
   have vi:=r.yr n (E.lt n p hp)
   obtain⟨k0,k1,k2,k3,k4,k6⟩:=K.name n vi (by rw[hb];simp)
   cases h0:σ.h n with
   |none=>exact absurd h0 k0
   |some b0=>
    obtain⟨p1,p2,p3,p4,p6,p5⟩:=r.pK n p b0 hp h0
    refine⟨k1.trans p1,k2.trans p2,k3.trans p3,k4.trans p4,k6.trans p6,fun gr sz xs CH k j pc hk hL=>?_⟩
    subst CH
    obtain⟨⟨xo,kb,e0⟩,hl⟩:=K.live n gr sz xs vi hb
    rw[h0] at e0
    injection e0 with e0
    obtain⟨pc1,q1,q2,q3⟩:=p5 xo sz kb e0 k j pc hk hL
    obtain⟨pc2,q4,q5,q6⟩:=hl k j pc1 q1 q3
    exact⟨pc2,q4,q5.trans q2,q6⟩,
  fun n hn=>hu n (r.yr n hn)⟩
end
def FX:Value->ai->Bool
 |.int k n,.c (.int k' n')=>decide (k=k')&&decide (n=n')
 |.bool b,.c (.bool b')=>decide (b=b')
 |.slice none 0 0,.nil sz=>true
 |.pointer none,.bf=>true
 |_,_=>false
def rC:List Value->List ai->Bool
 |[],[]=>true
 |v::vs,c::cs=>FX v c&&rC vs cs
 |_,_=>false
def bw:Operand->MO->Bool
 |.tmp n,.t m=>n==m
 |.const (.agg vs),.k (.agg cs)=>rC vs.toList cs
 |.const v,.k (.one c)=>FX v c
 |_,_=>false
section
variable {B:Nat} {E:Ex} {w0 w w':World} {G G':Gh} {h h':Nat->Option aq} {used used':Nat->Bool} {tk:List PC} {N:Nat}
theorem TB {v:Value} {c:ai} (hc:FX v c=true):RC w G h c v/\v.oneCell'=true/\∀m,¬c.ref m:=by
 unfold FX at hc
 split at hc
 ·simp at hc
  obtain⟨rfl,rfl⟩:=hc
  exact⟨⟨.int _ _,rfl,rfl,.int _ _,fun b hb=>by cases hb⟩,rfl,fun m hm=>hm⟩
 ·simp at hc
  subst hc
  exact⟨⟨.bool _,rfl,rfl,.bool _,fun b hb=>by cases hb⟩,rfl,fun m hm=>hm⟩
 ·exact⟨rfl,rfl,fun m hm=>hm⟩
 ·exact⟨trivial,rfl,fun m hm=>hm⟩
 ·cases hc
theorem FY:∀{vs:List Value} {cs:List ai},rC vs cs=true->cA w G h cs vs/\∀c∈cs,∀m,¬c.ref m
 |[],[],_=>⟨⟨rfl,by simp⟩,by simp⟩
 |v::vs,c::cs,hc=>by
  simp only[rC,Bool.and_eq_true] at hc
  obtain⟨a1,a2,a3⟩:=TB (w:=w) (G:=G) (h:=h) hc.1
  obtain⟨⟨b1,b2⟩,b3⟩:=FY hc.2
  refine⟨⟨by simp[b1],fun j c' u hj hu=>?_⟩,fun c' ct=>?_⟩
  ·cases j with
   |zero=>simp at hj hu;subst hj;subst hu;exact⟨a2,a1⟩
   |succ j=>exact b2 j c' u (by simpa using hj) (by simpa using hu)
  ·cases ct with
   |head=>exact a3
   |tail _ ct=>exact b3 c' ct
 |[],_::_,hc=>by simp[rC] at hc
 |_::_,[],hc=>by simp[rC] at hc
theorem RV.fR {c:ai} {v:Value} (h1:v.oneCell'=true) (h2:RC w G h c v):RV w G h false [c] v:=by
 show cA w G h [c] [v]
 exact⟨rfl,fun j c' u hj hu=>by
  cases j with
  |zero=>simp at hj hu;subst hj;subst hu;exact⟨h1,h2⟩
  |succ j=>simp at hj⟩
theorem RA.fR {c:ai} {v:Value} (h1:v.oneCell'=true) (h2:RC w G h c v):RA w G h (.one c) v:=.inr (RV.fR h1 h2)
theorem R.ev {σ:St} {a:Act} (r:R B E w0 N σ a w G) {x:Operand} {m:MO} (hc:bw x m=true):RA w G σ.h (σ.ev m) (a.eval x)/\∀n,(σ.ev m).ref n->σ.used n=true:=by
 unfold bw at hc
 split at hc
 ·simp at hc
  subst hc
  exact⟨r.env _,fun n hn=>r.rf _ n hn⟩
 ·rename_i vs cs
  obtain⟨b1,b2⟩:=FY (w:=w) (G:=G) (h:=σ.h) hc
  exact⟨⟨vs.toList,by simp[Act.eval],b1⟩,fun n hn=>by obtain⟨c,hc,hm⟩:=hn;exact absurd hm (b2 c hc n)⟩
 ·obtain⟨a1,a2,a3⟩:=TB (w:=w) (G:=G) (h:=σ.h) hc
  exact⟨RA.fR a2 a1,fun n hn=>absurd hn (a3 n)⟩
 ·cases hc
theorem mZ {P:Program} {o:Oper} {a:Act} {v:Value} {K:Act->World->Prop} {Q:Exit->Act->World->Prop} (hr:(execOp a.eval o).run P w=.ok (.value v) w') (hK:K (a.put o.dst v) w'):o.wp P a w K Q:=by
 unfold Oper.wp
 rw[hr]
 exact hK
theorem Jk {P:Program} {o:Oper} {a:Act} {K:Act->World->Prop} {Q:Exit->Act->World->Prop} (hr:(execOp a.eval o).run P w=.ok .skip w') (hK:K (a.put o.dst undef) w'):o.wp P a w K Q:=by
 unfold Oper.wp
 rw[hr]
 exact hK
end
end Go.Am
end
section
namespace Go.Am
section
variable {B:Nat} {E:Ex} {w0 w w':World} {G G':Gh} {h h':Nat->Option aq} {used used':Nat->Bool} {tk:List PC} {N:Nat}
variable {P:Program} {o:Oper} {a:Act} {σ σ':St} {Q:Exit->Act->World->Prop}
def Nx (B:Nat) (E:Ex) (w0:World) (N:Nat) (σ:St):Act->World->Prop:=fun a w=>∃G,R B E w0 N σ a w G
theorem JT (w:World) (ob:Obj) (b:Nat) (hb:b<w.heap.size):(w.alloc ob).heap[b]? =w.heap[b]? :=heap_alloc_old w ob b hb
theorem dk.alloc (w:World) (arr:Array Value) (e:TypeId):dk (w.alloc (.cells arr e)) w.heap.size:=⟨arr,e,heap_alloc_new w _⟩
theorem lW {σ1:St} {n:Nat} {b:aq} (hx:σ.ins n b=some σ1):σ.used n=false/\σ1={σ with h:=au σ.h n (some b),used:=au σ.used n true}:=by
 unfold St.ins at hx
 split at hx
 ·cases hx
 ·rename_i hu
  injection hx with hx
  exact⟨by simpa using hu,hx.symm⟩
theorem qc (n m:Nat) (hm:used m=true):au used n true m=true:=by
 simp only[iK];split
 ·rfl
 ·exact hm
theorem R.XV (r:R B E w0 N σ a w G) {n:Nat} {cs:List ai} {vs:List Value} {e:TypeId} (hn:σ.used n=false) (hc:cA w G σ.h cs vs) (ic:∀c∈cs,∀m,c.ref m->σ.used m=true):
  ∃G',R B E w0 N {σ with h:=au σ.h n (some (.box cs)),used:=au σ.used n true} a (w.alloc (.cells vs.toArray e)) G'/\
   RA (w.alloc (.cells vs.toArray e)) G' (au σ.h n (some (.box cs))) (.one (.ptr n 0 0 0)) (.pointer (some (ad w.heap.size 0))):=by
 have H:=r.hr
 have hB:=r.fr.size
 have hw:=JT w (.cells vs.toArray e)
 refine⟨⟨G.Im,au G.g n ⟨false,w.heap.size,0,0,[],none⟩⟩,r.step rfl (fun m hm=>qc n m hm) (aT.insert H hn hw) ?_ (r.fr.grow hw (by simp) rfl rfl rfl),?_⟩
 ·refine H.insert hn hw (by simp) (fun _=>⟨H.Ok,.inl hB,by simp⟩) (fun cs' c m hb ct hm=>?_) ⟨rfl,dk.alloc _ _ _,fun j c hj=>?_⟩ (fun gr m sz xs hb=>by cases hb) (fun gr sz xs hb=>by cases hb) (fun gr m sz xs hb=>by cases hb)
  ·injection hb with hb;subst hb;exact ic c ct m hm
  ·have tu:j<vs.length:=by rw[hc.1];exact(List.getElem?_eq_some_iff.1 hj).1
   have hv:vs[j]? =some vs[j]:=List.getElem?_eq_getElem tu
   obtain⟨q1,q2⟩:=hc.2 j c _ hj hv
   refine⟨vs[j],?_,q1,q2⟩
   simp only[Nat.zero_add]
   unfold ad
   rw[World.cell?_alloc_new]
   simp only[List.getElem?_toArray];exact hv
 ·exact RA.fR rfl fun _=>by simp[bC]
theorem abl (r:R B E w0 N σ a w G) {n:Nat} {e:TypeId} {i:TypeInfo} {z:Value} {zs:List ai} {σ1:St} (ho:o.op=.alloc e) (hd:o.dst=some n) (hN:n<N)
  (hi:P.info? e=some i) (hz:i.zero=some z) (hc:rC z.cells.toList zs=true) (hx:σ.ins n (.box zs)=some σ1):
  o.wp P a w (Nx B E w0 N (σ1.put o.dst (.one (.ptr n 0 0 0)))) Q:=by
 obtain⟨hn,rfl⟩:=lW hx
 obtain⟨bP,ic⟩:=FY (w:=w) (G:=G) (h:=σ.h) hc
 obtain⟨G',r',hv⟩:=r.XV (e:=e) hn bP (fun c hc m hm=>absurd hm (ic c hc m))
 have bK:(execOp a.eval o).run P w=.ok (.value (.pointer (some (ad w.heap.size 0)))) (w.alloc (.cells z.cells.toList.toArray e)):=by
  simp[execOp,ho,Instr.alloc,zeroValue,typeInfo,hi,hz,newVar,newRow,ad]
 exact mZ bK ⟨G',r'.put hv (fun m hm=>by have bI:m=n:=hm;subst bI;exact bC _ _ _) (fun m hm=>by rw[hd] at hm;injection hm with hm;omega)⟩
theorem abp (r:R B E w0 N σ a w G) {n:Nat} {e:TypeId} {x:Operand} {m:MO} {ag:Bool} {cs:List ai} {σ1:St} (ho:o.op=.box e x) (hd:o.dst=some n) (hN:n<N)
  (hm:bw x m=true) (dL:(σ.ev m).cells?=some (ag,cs)) (hx:σ.ins n (.box cs)=some σ1):
  o.wp P a w (Nx B E w0 N (σ1.put o.dst (.one (.ptr n 0 0 0)))) Q:=by
 obtain⟨hn,rfl⟩:=lW hx
 obtain⟨hv,ic⟩:=r.ev hm
 obtain⟨G',r',fw⟩:=r.XV (e:=e) hn (hv.cells dL) (fun c hc q hq=>ic q (ak.zk dL hc hq))
 have bK:(execOp a.eval o).run P w=.ok (.value (.pointer (some (ad w.heap.size 0)))) (w.alloc (.cells (a.eval x).cells.toList.toArray e)):=by
  simp[execOp,ho,Instr.box,newVar,newRow,ad]
 exact mZ bK ⟨G',r'.put fw (fun q hq=>by have dM:q=n:=hq;subst dM;exact bC _ _ _) (fun q hq=>by rw[hd] at hq;injection hq with hq;omega)⟩
theorem sY {α:Type} {sz:Nat}:∀{px:List (List α)} (_:∀e∈px,e.length=sz) {k j:Nat} {c:α},At px k j c->px.flatten[k*sz+j]? =some c
 |[],_,k,j,c,hk=>by obtain⟨e,he,_⟩:=hk;simp at he
 |e::px,hl,k,j,c,hk=>by
  obtain⟨e',he,hj⟩:=hk
  have h0:=hl e (by simp)
  cases k with
  |zero=>
   simp at he
   subst he
   have tu:=(List.getElem?_eq_some_iff.1 hj).1
   simp only[List.flatten_cons,Nat.zero_mul,Nat.zero_add]
   rw[List.getElem?_append_left tu]
   exact hj
  |succ k=>
   have ih:=sY (px:=px) (fun e he=>hl e (by simp[he])) (k:=k) (j:=j) (c:=c) ⟨e',by simpa using he,hj⟩
   simp only[List.flatten_cons]
   rw[List.getElem?_append_right (by rw[h0,Nat.add_mul];omega)]
   rw[show(k+1)*sz+j - e.length=k*sz+j by rw[h0,Nat.add_mul];omega]
   exact ih
structure BR (B:Nat) (E:Ex) (w:World) (G:Gh) (h:Nat->Option aq) (m:Mode) (pes:List (List PC)):Prop where
 nj:∀b,aP b pes->G.Im b/\dk w b/\(B<=b\/E b)
 sep:gS pes
 fi:∀n gr m sz xs,h n=some (.row gr m sz xs)->m≠ .aA->∀b,aP b pes->¬aP b (G.g n).px
 kind:m=.ae\/∀b,¬aP b pes
theorem aav {α:Type} {sz:Nat} (bE:0<sz) {pes:List (List α)} (hl:∀e∈pes,e.length=sz) {k j k' j':Nat} {c c':α} (h1:At pes k j c) (h2:At pes k' j' c') (aw:(k,j)≠(k',j')):k*sz+j≠k'*sz+j':=by
 intro du
 have hj:j<sz:=by obtain⟨e1,he,hj⟩:=h1;rw[<-hl e1 (List.mem_of_getElem? he)];exact(List.getElem?_eq_some_iff.1 hj).1
 have jl:j'<sz:=by obtain⟨e1,he,hj⟩:=h2;rw[<-hl e1 (List.mem_of_getElem? he)];exact(List.getElem?_eq_some_iff.1 hj).1
 have hk:k=k':=by
  have h3:(k*sz+j)/sz=k:=by rw[Nat.mul_comm,Nat.mul_add_div bE,Nat.div_eq_of_lt hj];omega
  have h4:(k'*sz+j')/sz=k':=by rw[Nat.mul_comm,Nat.mul_add_div bE,Nat.div_eq_of_lt jl];omega
  rw[du] at h3
  omega
 subst hk
 exact aw (by rw[show j=j' by omega])
theorem HR.aim {pes:List (List PC)} {sz:Nat} (bE:0<sz) (hl:∀e∈pes,e.length=sz) (H:HR B E w G h used pes.flatten):BR B E w G h .ae pes:=by
 refine⟨?_,⟨fun k j c hk=>(H.qa _ c (sY hl hk)).1,fun k j c k' j' c' b hk cW aw hb=>H.uh _ _ c c' b (aav bE hl hk cW aw) (sY hl hk) (sY hl cW) hb⟩,?_,.inl rfl⟩
 ·rintro b ⟨k,j,c,hk,hb⟩
  exact(H.qa _ c (sY hl hk)).2 b hb
 ·rintro n gr m sz xs hn hm b ⟨k,j,c,hk,hb⟩
  exact H.qb _ c n gr m sz xs b (sY hl hk) hn hm hb
theorem Sep.DD {w:World} {q:PC} (hq:∀b,¬aM b q) (hg:Good w q):Sep q:=by
 induction hg with
 |int k n=>exact .int k n
 |bool b=>exact .bool b
 |nil sz a cap h=>exact .list _ _ _ _ (by rintro k j c ⟨e,he,_⟩;simp at he) (by rintro b o k j c _ ⟨e,he,_⟩;simp at he) (by rintro k j c k' j' c' b ⟨e,he,_⟩;simp at he)
 |cons sz b o cap xs h1 h2 h3 h4 h5 h6 ih=>exact absurd (.here _ _ _ _ h1) (hq b)
theorem BR.DD {m:Mode} {pes:List (List PC)} (cf:∀b,¬aP b pes) (hg:∀k j c,At pes k j c->Good w c):BR B E w G h m pes:=
 ⟨fun b hb=>absurd hb (cf b),⟨fun k j c hk=>Sep.DD (fun b hb=>cf b ⟨k,j,c,hk,hb⟩) (hg k j c hk),fun k j c k' j' c' b hk _ _ hb=>absurd ⟨k,j,c,hk,hb⟩ (cf b)⟩,fun n gr m sz xs _ _ b hb=>absurd hb (cf b),.inr cf⟩
theorem R.newRow (r:R B E w0 N σ a w G) {Im':Nat->Prop} {σ1:St} (H:HR B E w ⟨Im',G.g⟩ σ1.h σ.used []) (K:aT w G σ.h (fun n=>σ.used n=true) w ⟨Im',G.g⟩ σ1.h)
  (xy:σ1.env=σ.env) (k8:σ1.used=σ.used)
  {n:Nat} {m:Mode} {sz cap:Nat} {pes:List (List PC)} {arr:Array Value} {e:TypeId} (hn:σ.used n=false) (bE:0<sz) (hl:∀e∈pes,e.length=sz)
  (gp:∀k j c,At pes k j c->Good w c/\∀b,aM b c->Im' b) (ti:∀k j c,At pes k j c->arr[k*sz+j]? =some c.val) (jL:pes.length<=cap) (rU:cap<=maxLen) (tE:arr.size=cap*sz)
  (hm:m=.aA\/BR B E w ⟨Im',G.g⟩ σ1.h m pes):
  ∃G',R B E w0 N {σ1 with h:=au σ1.h n (some (.row true m sz (pes.map fun e=>e.map PC.er))),used:=au σ1.used n true} a (w.alloc (.cells arr e)) G'/\
   RA (w.alloc (.cells arr e)) G' (au σ1.h n (some (.row true m sz (pes.map fun e=>e.map PC.er)))) (.one (.sl n sz 0 pes.length)) (.slice (some (ad w.heap.size 0)) pes.length cap):=by
 have hB:=r.fr.size
 have hw:=JT w (.cells arr e)
 have aae:HR B E (w.alloc (.cells arr e)) ⟨Im',au G.g n ⟨false,w.heap.size,0,cap,pes,none⟩⟩ (au σ1.h n (some (.row true m sz (pes.map fun e=>e.map PC.er)))) (au σ.used n true) []:=by
  refine H.insert (p:=⟨false,w.heap.size,0,cap,pes,none⟩) hn hw (by simp) (fun _=>⟨H.Ok,.inl hB,by simp⟩) (fun cs c m hb=>by cases hb) ?_ ?_ ?_ (fun gr m sz xs _ _ i pc b hi=>by simp at hi)
  ·refine⟨bE,rfl,(fun hl=>by cases hl),fun _=>⟨dk.alloc _ _ _,⟨hl,fun k j c hk=>?_,fun k j c hk=>?_⟩,jL⟩,fun _ _=>⟨rU,arr,e,heap_alloc_new w _,(Nat.zero_add _).symm▸tE⟩,?_⟩
   ·simp only[Nat.zero_add]
    unfold ad
    rw[World.cell?_alloc_new]
    exact ti k j c hk
   ·exact(gp k j c hk).1.congr fun b hb o=>hZ (hw b (H.fx b ((gp k j c hk).2 b hb))) o
   ·have qB:m≠ .aA->(∀b,aP b pes->Im' b/\dk (w.alloc (.cells arr e)) b/\(B<=b\/E b))/\gS pes:=fun gF=>
     ⟨fun b hb=>by
      have hO:=hm.resolve_left gF
      obtain⟨q1,q2,q3⟩:=hO.nj b hb
      exact⟨q1,q2.congr (hw b (H.fx b q1)),q3⟩,(hm.resolve_left gF).sep⟩
    cases m with
    |aA=>
     rintro b ⟨k,j,c,hk,hb⟩
     exact(gp k j c hk).2 b hb
    |ae=>exact qB (by simp)
    |live=>
     have hO:=hm.resolve_left (by simp)
     have cf:=hO.kind.resolve_left (by simp)
     exact⟨fun b hb=>absurd hb (cf b),hO.sep⟩
  ·intro gr m' aG ar hb gF n' bh mR j5 gR h0 iC b cq
   injection hb with _ hb _ _
   subst hb
   exact(hm.resolve_left gF).fi n' bh mR j5 gR h0 iC b cq
  ·intro gr aG ar hb b cq
   injection hb with _ hb _ _
   subst hb
   exact absurd cq ((hm.resolve_left (by simp)).kind.resolve_left (by simp) b)
 have K2:=aT.trans (u2:=fun n=>σ.used n=true) (fun _ h=>h) K (aT.insert H (blk:=.row true m sz (pes.map fun e=>e.map PC.er)) (p:=⟨false,w.heap.size,0,cap,pes,none⟩) hn hw)
 refine⟨⟨Im',au G.g n ⟨false,w.heap.size,0,cap,pes,none⟩⟩,r.step xy (fun m hm=>by rw[k8];exact qc n m hm) K2 (by rw[k8];exact aae) (r.fr.grow hw (by simp) rfl rfl rfl),?_⟩
 refine RA.fR rfl fun _=>.inr ⟨by simp[bC],some (ad w.heap.size 0),?_,?_,?_⟩
 ·simp[bC]
 ·simp[bC];omega
 ·simp[bC]
end
end Go.Am
end
