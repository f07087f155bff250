/- Am6, Am7, Am8, Am9: parts of the proof. No condition. -/
import Derived.Test.YtbgmbplglejidaaAm5
set_option linter.unusedVariables false
section
namespace Go.Am
section
variable {B:Nat} {E:Ex} {w0 w w':World} {G G':Gh} {h h':Nat->Option aq} {used used':Nat->Bool} {tk:List PC}
theorem aZ.qq (S:Nat->Prop) (u:Nat->Prop):aZ w G h u w ⟨fun b=>G.Im b\/S b,G.g⟩ h:=
 ⟨fun _ h=>.inl h,fun _ _ _=>rfl,fun _ _ h=>⟨h,rfl,rfl,rfl,rfl,rfl⟩,fun n gr sz xs _ hn=>⟨⟨gr,xs,hn⟩,fun k j pc h1 h2=>⟨pc,h1,rfl,h2⟩⟩⟩
theorem HR.qq (H:HR B E w G h used tk) (S:Nat->Prop) (h1:∀b,S b->b<w.heap.size) (h2:∀b,S b->∀n,h n≠none->(G.g n).nl=false->b≠(G.g n).b)
  (h3:∀b,S b->∀n gr sz xs,h n=some (.row gr .live sz xs)->¬aX b (G.g n).px) (h4:∀b,S b->B<=b\/E b\/E.a b):HR B E w ⟨fun b=>G.Im b\/S b,G.g⟩ h used tk:=by
 refine⟨H.iA,H.gC,fun n cs hn=>?_,fun n gr m sz xs hn=>?_,fun n hn hl=>?_,H.inj,?_,fun b hb=>hb.elim (H.oY b) (h4 b),H.fA,H.live,fun i pc hi=>?_,H.vh,H.qS⟩
 ·obtain⟨a1,a2,a3⟩:=H.box n cs hn
  refine⟨a1,a2,fun j c hj=>?_⟩
  obtain⟨v,b1,b2,b3⟩:=a3 j c hj
  exact⟨v,b1,b2,b3.eV (aZ.qq S (fun n=>used n=true)) fun q hq=>H.gC n cs c q hn (List.mem_of_getElem? hj) hq⟩
 ·have hr:=H.row n gr m sz xs hn
  refine⟨hr.pos,hr.er,hr.nl,hr.dT,hr.room,?_⟩
  have hm:=hr.mode
  cases m with
  |aO=>exact fun b hb=>.inl (hm b hb)
  |ab=>exact⟨fun b hb=>⟨.inl (hm.1 b hb).1,(hm.1 b hb).2⟩,hm.2⟩
  |live=>exact⟨fun b hb=>⟨fun hi=>hi.elim (hm.1 b hb).1 (fun hs=>h3 b hs n gr sz xs hn hb),(hm.1 b hb).2⟩,hm.2⟩
 ·obtain⟨a1,a2,a3⟩:=H.own n hn hl
  exact⟨fun hi=>hi.elim a1 (fun hs=>h2 _ hs n hn hl rfl),a2,a3⟩
 ·exact fun b hb=>hb.elim (H.fL b) (h1 b)
 ·obtain⟨a1,a2⟩:=H.qR i pc hi
  exact⟨a1,fun b hb=>⟨.inl (a2 b hb).1,(a2 b hb).2⟩⟩
theorem HR.xv {l:List PC} (H:HR B E w G h used (tk++l)):HR B E w G h used tk:=by
 have e:∀(i:Nat) (pc:PC),tk[i]? =some pc->(tk++l)[i]? =some pc:=fun i pc hi=>by
  rw[List.getElem?_append_left (List.getElem?_eq_some_iff.1 hi).1];exact hi
 exact⟨H.iA,H.gC,H.box,H.row,H.own,H.inj,H.fL,H.oY,H.fA,H.live,fun i pc hi=>H.qR i pc (e i pc hi),fun i j pc di b jm h1 h2=>H.vh i j pc di b jm (e i pc h1) (e j di h2),
  fun i pc n gr m sz xs b hi=>H.qS i pc n gr m sz xs b (e i pc hi)⟩
theorem HR.Wr (H:HR B E w G h used tk) {pc:PC} (h1:Sep pc) (h2:∀b,aT b pc->G.Im b/\dD w b/\(B<=b\/E b))
  (h3:∀(i:Nat) (q:PC) (b:Nat),tk[i]? =some q->aT b q->¬aT b pc)
  (h4:∀n gr m sz xs b,h n=some (.row gr m sz xs)->m≠ .aO->aT b pc->¬aX b (G.g n).px):HR B E w G h used (tk++[pc]):=by
 have e:∀(i:Nat) (q:PC),(tk++[pc])[i]? =some q->(i<tk.length/\tk[i]? =some q)\/(i=tk.length/\q=pc):=fun i q hi=>by
  rcases Nat.lt_trichotomy i tk.length with bB|dI|yu
  ·rw[List.getElem?_append_left bB] at hi;exact .inl ⟨bB,hi⟩
  ·subst dI;simp at hi;exact .inr ⟨rfl,hi.symm⟩
  ·rw[List.getElem?_eq_none (by simp;omega)] at hi;cases hi
 refine⟨H.iA,H.gC,H.box,H.row,H.own,H.inj,H.fL,H.oY,H.fA,H.live,fun i q hi=>?_,fun i j q q' b jm hi hj hb=>?_,fun i q n gr m sz xs b hi hn hm hb=>?_⟩
 ·rcases e i q hi with⟨_,hi⟩|⟨_,rfl⟩
  ·exact H.qR i q hi
  ·exact⟨h1,h2⟩
 ·rcases e i q hi with⟨_,hi'⟩|⟨ei,eq⟩
  ·rcases e j q' hj with⟨_,jn⟩|⟨_,Ym⟩
   ·exact H.vh i j q q' b jm hi' jn hb
   ·rw[Ym];exact h3 i q b hi' hb
  ·rcases e j q' hj with⟨_,jn⟩|⟨ej,Ym⟩
   ·rw[eq] at hb;exact fun aW=>h3 j q' b jn aW hb
   ·omega
 ·rcases e i q hi with⟨_,hi⟩|⟨_,rfl⟩
  ·exact H.qS i q n gr m sz xs b hi hn hm hb
  ·exact h4 n gr m sz xs b hn hm hb
theorem Sep.kP {pc:PC} (hs:pc.er.eF=true):Sep pc/\∀b,¬aT b pc:=by
 cases pc with
 |int k n=>exact⟨.int k n,fun b hb=>by cases hb⟩
 |bool b=>exact⟨.bool b,fun b hb=>by cases hb⟩
 |list sz a cap xs=>simp[PC.dG,C.eF] at hs
theorem pO {n m:Nat} {b:aq} (hm:ax h n none m=some b):h m=some b/\m≠n:=by
 by_cases bC:m=n
 ·subst bC;rw[bE] at hm;cases hm
 ·rw[cb _ _ _ _ bC] at hm;exact⟨hm,bC⟩
theorem AA {n m:Nat} (hm:ax h n none m≠none):h m≠none/\m≠n:=by
 cases hh:ax h n none m with
 |none=>exact absurd hh hm
 |some b=>obtain⟨a,b⟩:=pO hh;exact⟨by rw[a];simp,b⟩
def KJ (p:PB):Nat->Prop:=fun b=>(p.nl=false/\b=p.b)\/aX b p.px
theorem HR.freeze (H:HR B E w G h used tk) {n:Nat} {gr:Bool} {m:Mode} {rs:Nat} {xs:List (List C)} (hn:h n=some (.row gr m rs xs)):
  HR B E w ⟨fun b=>G.Im b\/KJ (G.g n) b,G.g⟩ (ax h n none) used tk:=by
 have hr:=H.row n gr m rs xs hn
 have bJ:h n≠none:=by rw[hn];simp
 have fS:∀b,aX b (G.g n).px->G.Im b\/m=.live:=fun b hb=>by
  have hm:=hr.mode
  cases m with
  |aO=>exact .inl (hm b hb)
  |ab=>exact .inl (hm.1 b hb).1
  |live=>exact .inr rfl
 refine(H.del n).qq (KJ (G.g n)) (fun b hb=>?_) (fun b hb q hq hl=>?_) (fun b hb q bj aL ar hq cB=>?_) (fun b hb=>?_)
 ·rcases hb with⟨h1,rfl⟩|hb
  ·exact(H.own n bJ h1).2.2
  ·exact H.qL hn hb
 ·obtain⟨nd,fw⟩:=AA hq
  rcases hb with⟨h1,rfl⟩|hb
  ·exact H.inj n q bJ nd (Ne.symm fw) h1 hl
  ·rcases fS b hb with hi|rfl
   ·rintro rfl;exact(H.own q nd hl).1 hi
   ·exact H.live n gr rs xs hn b hb q nd hl
 ·obtain⟨nd,fw⟩:=pO hq
  rcases hb with⟨h1,rfl⟩|hb
  ·exact H.live q bj aL ar nd _ cB n bJ h1 rfl
  ·rcases fS b hb with hi|rfl
   ·exact((H.row q bj .live aL ar nd).mode.1 b cB).1 hi
   ·exact H.fA n q gr .live rs xs bj .live aL ar hn nd (by simp) (by simp) (Ne.symm fw) b hb cB
 ·rcases hb with⟨h1,rfl⟩|hb
  ·exact(H.own n bJ h1).2.1.imp id .inl
  ·rcases fS b hb with hi|rfl
   ·exact H.oY b hi
   ·exact(hr.mode.1 b hb).2.2.imp id .inl
theorem ig.sub {px:List (List PC)} (hs:ig px) (lo len:Nat):ig ((px.drop lo).take len):=by
 refine⟨fun k j c hk=>hs.1 _ _ _ (oF hk).1,fun k j c k' j' c' b hk cY aE hb=>hs.2 _ _ _ _ _ _ b (oF hk).1 (oF cY).1 (fun e=>aE ?_) hb⟩
 injection e with e1 e2
 rw[show k=k' by omega,e2]
theorem HR.fG {σ σ1:St} (H:HR B E w G σ.h σ.used tk) {c:ah} {x:C} {o:Bool} {v:Value} (hx:σ.fG c=some (x,o,σ1)) (hc:RC w G σ.h c v):
  ∃(Im':Nat->Prop) (pc:PC),pc.er=x/\pc.val=v/\Good w pc/\(∀b,aT b pc->Im' b)/\
   HR B E w ⟨Im',G.g⟩ σ1.h σ.used (if o=true then tk++[pc] else tk)/\aZ w G σ.h (fun n=>σ.used n=true) w ⟨Im',G.g⟩ σ1.h/\σ1.env=σ.env/\σ1.used=σ.used/\
   (∀n b,σ1.h n=some b->σ.h n=some b):=by
 cases c with
 |c y=>
  simp only[St.fG] at hx
  injection hx with hx
  injection hx with lL eC
  injection eC with eC oV
  subst lL eC oV
  obtain⟨pc,h1,h2,h3,h4⟩:=hc
  refine⟨G.Im,pc,h1,h2,h3,h4,?_,aZ.refl _ _ _ _,rfl,rfl,fun _ _ h=>h⟩
  by_cases hs:y.eF=true
  ·rw[if_pos hs]
   obtain⟨s1,s2⟩:=Sep.kP (pc:=pc) (by rw[h1];exact hs)
   exact H.Wr s1 (fun b hb=>absurd hb (s2 b)) (fun _ _ b _ _=>s2 b) (fun _ _ _ _ _ b _ _ hb=>absurd hb (s2 b))
  ·rw[if_neg hs];exact H
 |nil sz=>
  simp only[St.fG] at hx
  split at hx
  ·rename_i ed
   injection hx with hx
   injection hx with lL eC
   injection eC with eC oV
   subst lL eC oV
   have cO:v=.slice none 0 0:=hc
   subst cO
   have bS:∀b,¬aT b (.list sz none 0 []):=fun b hb=>by
    rw[aT.ko] at hb
    rcases hb with⟨hb,_⟩|⟨k,j,c,⟨e,he,_⟩,_⟩
    ·exact absurd rfl hb
    ·simp at he
   refine⟨G.Im,.list sz none 0 [],by simp[PC.dG],rfl,.nil _ _ _ ed,fun b hb=>absurd hb (bS b),?_,aZ.refl _ _ _ _,rfl,rfl,fun _ _ h=>h⟩
   rw[if_pos rfl]
   refine H.Wr (.list _ _ _ _ ?_ ?_ ?_) (fun b hb=>absurd hb (bS b)) (fun _ _ b _ _=>bS b) (fun _ _ _ _ _ b _ _ hb=>absurd hb (bS b))
   ·rintro k j c ⟨e,he,_⟩;simp at he
   ·rintro b o k j c _ ⟨e,he,_⟩;simp at he
   ·rintro k j c k' j' c' b ⟨e,he,_⟩;simp at he
  ·cases hx
 |sl n sz lo len=>
  simp only[St.fG] at hx
  split at hx
  ·rename_i gr m rs xs hn
   split at hx
   ·rename_i cF
    obtain⟨rfl,rfl,kF⟩:=cF
    injection hx with hx
    injection hx with lL eC
    injection eC with eC oV
    subst lL eC oV
    have hl:0+len<=xs.length:=by omega
    have bJ:σ.h n≠none:=by rw[hn];simp
    have hs:jg (G.g n) rs 0 len v:=hc bJ
    have hr:=H.row n gr m rs xs hn
    obtain⟨a1,a2,a3,a4⟩:=Fc hr hs hl
    have HF:=H.freeze hn
    have K1:aZ w G σ.h (fun n=>σ.used n=true) w ⟨fun b=>G.Im b\/KJ (G.g n) b,G.g⟩ (ax σ.h n none):=
     aZ.trans (fun _ h=>h) (aZ.del n (fun n=>σ.used n=true)) (aZ.qq (KJ (G.g n)) (fun n=>σ.used n=true))
    refine⟨_,ku (G.g n) rs 0 len v,by simpa using a1,a2,a3,fun b hb=>.inr (a4 b hb),?_,K1,rfl,rfl,fun q b hq=>(pO hq).1⟩
    by_cases hm:m≠ .aO
    ·rw[if_pos (by simpa using hm)]
     have rB:(∀b,aX b (G.g n).px->dD w b/\(B<=b\/E b))/\ig (G.g n).px/\(∀b,aX b (G.g n).px->(G.g n).nl=false->b≠(G.g n).b):=by
      have dg:=hr.mode
      cases m with
      |aO=>exact absurd rfl hm
      |ab=>exact⟨fun b hb=>(dg.1 b hb).2,dg.2,fun b hb hl dI=>(H.own n bJ hl).1 (dI▸(dg.1 b hb).1)⟩
      |live=>exact⟨fun b hb=>(dg.1 b hb).2,dg.2,fun b hb hl=>H.live n gr rs xs hn b hb n bJ hl⟩
     obtain⟨o1,o2,o3⟩:=rB
     refine HF.Wr ?_ (fun b hb=>⟨.inr (a4 b hb),?_⟩) (fun i q b hi hb aW=>?_) (fun q bj m' aL ar b hq bI hb cB=>?_)
     ·
      rcases hs with⟨aR,rfl,_,rfl⟩|⟨aR,a,rfl,jk,ha⟩
      ·simp only[ku]
       have hz:(List.take 0 (List.drop 0 (G.g n).px))=[]:=by simp
       rw[hz]
       refine .list _ _ _ _ ?_ ?_ ?_
       ·rintro k j c ⟨e,he,_⟩;simp at he
       ·rintro b o k j c _ ⟨e,he,_⟩;simp at he
       ·rintro k j c k' j' c' b ⟨e,he,_⟩;simp at he
      ·simp only[ku]
       have D7:=o2.sub 0 len
       refine .list _ _ _ _ D7.1 (fun b o k j c eR hk hb=>?_) D7.2
       have cY:=(oF hk).1
       have ZO:0<len:=by have:=(oF hk).2;omega
       have e:=ha (.inl (by omega))
       rw[e] at eR
       injection eR with eR
       exact o3 b ⟨_,_,_,cY,hb⟩ aR (mX eR).1.symm
     ·rcases a4 b hb with⟨dR,rfl⟩|aW
      ·exact⟨(hr.dT dR).1,(H.own n bJ dR).2.1⟩
      ·exact o1 b aW
     ·rcases a4 b aW with⟨dR,rfl⟩|cB
      ·exact(H.own n bJ dR).1 ((H.qR i q hi).2 _ hb).1
      ·exact H.qS i q n gr m rs xs b hi hn hm hb cB
     ·obtain⟨nd,fw⟩:=pO hq
      rcases a4 b hb with⟨dR,rfl⟩|aW
      ·have dg:=(H.row q bj m' aL ar nd).mode
       cases m' with
       |aO=>exact absurd rfl bI
       |ab=>exact(H.own n bJ dR).1 (dg.1 _ cB).1
       |live=>exact H.live q bj aL ar nd _ cB n bJ dR rfl
      ·exact H.fA n q gr m rs xs bj m' aL ar hn nd hm bI (Ne.symm fw) b aW cB
    ·rw[if_neg (by simpa using hm)]
     exact HF
   ·cases hx
  ·cases hx
 |ptr _ _ _ _=>simp[St.fG] at hx
 |cj _ _=>simp[St.fG] at hx
 |bx _ _ _ _ _ _=>simp[St.fG] at hx
 |fn _ _=>simp[St.fG] at hx
 |cN _ _ _ _ _ _=>simp[St.fG] at hx
 |bn=>simp[St.fG] at hx
end
end Go.Am
end
section
namespace Go.Am
section
variable {B:Nat} {E:Ex} {w0 w w':World} {G G':Gh} {h h':Nat->Option aq} {used used':Nat->Bool} {tk:List PC}
theorem HR.fg:∀{cs:List ah} {σ σ1:St} {G:Gh} {tk:List PC} {xs:List C} {o:Bool} {vs:List Value},HR B E w G σ.h σ.used tk->σ.fg cs=some (xs,o,σ1)->cJ w G σ.h cs vs->
  (∀c∈cs,∀m,c.ref m->σ.used m=true)->
  ∃(Im':Nat->Prop) (bt:List PC),bt.map PC.er=xs/\bt.map PC.val=vs/\(∀pc∈bt,Good w pc/\∀b,aT b pc->Im' b)/\
   HR B E w ⟨Im',G.g⟩ σ1.h σ.used (if o=true then tk++bt else tk)/\aZ w G σ.h (fun n=>σ.used n=true) w ⟨Im',G.g⟩ σ1.h/\σ1.env=σ.env/\σ1.used=σ.used/\
   (∀n b,σ1.h n=some b->σ.h n=some b)
 |[],σ,σ1,G,tk,xs,o,vs,H,hx,hc,hr=>by
  simp only[St.fg] at hx
  injection hx with hx
  injection hx with lL eC
  injection eC with eC oV
  subst lL eC oV
  have:vs=[]:=List.eq_nil_of_length_eq_zero (by simpa using hc.1)
  subst this
  exact⟨G.Im,[],rfl,rfl,by simp,by simpa using H,aZ.refl _ _ _ _,rfl,rfl,fun _ _ h=>h⟩
 |c::cs,σ,σ2,G,tk,xs,o,vs,H,hx,hc,hr=>by
  simp only[St.fg] at hx
  split at hx
  ·rename_i x o1 σ1 e1
   split at hx
   ·rename_i ar o2 WG e2
    injection hx with hx
    injection hx with lL eC
    injection eC with eC oV
    subst lL eC oV
    obtain⟨hlen,cg⟩:=hc
    match vs,hlen with
    |v::vs,hlen=>
     obtain⟨xN,pc,a1,a2,a3,a4,a5,a6,a7,a8,a9⟩:=H.fG e1 (cg 0 c v rfl rfl).2
     have DK:cJ w ⟨xN,G.g⟩ σ1.h cs vs:=cJ.eV a6 (fun c' cO m hm=>hr c' (by simp[cO]) m hm) ⟨by simpa using hlen,fun j c u h1 h2=>cg (j+1) c u h1 h2⟩
     rw[<-a8] at a5
     obtain⟨CJ,bt,b1,b2,b3,b4,b5,b6,b7,b8⟩:=HR.fg a5 e2 DK (fun c' cO m hm=>by rw[a8];exact hr c' (by simp[cO]) m hm)
     refine⟨CJ,pc::bt,by simp[a1,b1],by simp[a2,b2],fun q hq=>?_,?_,aZ.trans (fun n hn=>by rw[a8];exact hn) a6 b5,b6.trans a7,b7.trans a8,fun n b hb=>a9 n b (b8 n b hb)⟩
     ·cases hq with
      |head=>exact⟨a3,fun b hb=>b5.im b (a4 b hb)⟩
      |tail _ hq=>exact b3 q hq
     ·rw[a8] at b4
      cases o1<;>cases o2<;>simp at b4⊢
      ·exact b4
      ·exact b4.xv
      ·exact b4.xv
      ·exact b4
   ·cases hx
  ·cases hx
theorem RA.cells {x:aj} {ag:Bool} {cs:List ah} {v:Value} (hx:x.cells?=some (ag,cs)) (hc:RA w G h x v):cJ w G h cs v.cells.toList:=by
 cases x with
 |one c=>
  have hj:c≠ .bn/\ag=false/\cs=[c]:=by
   cases c<;>simp[aj.cells?] at hx<;>(obtain⟨rfl,rfl⟩:=hx;simp)
  obtain⟨h1,rfl,rfl⟩:=hj
  rcases hc with rfl|hc
  ·exact absurd rfl h1
  ·have cO:cJ w G h [c] [v]:=hc
   have h1:=(cO.2 0 c v rfl rfl).1
   cases v<;>first|exact cO|(simp[Value.oneCell'] at h1)
 |agg cs'=>
  simp[aj.cells?] at hx
  obtain⟨rfl,rfl⟩:=hx
  obtain⟨vs,e,hl⟩:∃vs:List Value,v=.agg vs.toArray/\cJ w G h cs' vs:=hc
  subst e
  exact hl
 |bo xs=>simp[aj.cells?] at hx
theorem aj.xX {x:aj} {ag:Bool} {cs:List ah} (hx:x.cells?=some (ag,cs)) {c:ah} (hc:c∈cs) {m:Nat} (hm:c.ref m):x.ref m:=by
 cases x with
 |one c'=>
  have hj:cs=[c']:=by
   cases c'<;>simp[aj.cells?] at hx<;>exact hx.2.symm
  subst hj
  simp at hc
  subst hc
  exact hm
 |agg cs'=>
  simp[aj.cells?] at hx
  obtain⟨_,rfl⟩:=hx
  exact⟨c,hc,hm⟩
 |bo xs=>simp[aj.cells?] at hx
theorem HR.kY {sz:Nat}:∀{xs:List aj} {σ σ1:St} {G:Gh} {tk:List PC} {es:List (List C)} {o:Bool} {vs:List Value},HR B E w G σ.h σ.used tk->σ.kY sz xs=some (es,o,σ1)->
  vs.length=xs.length->(∀(j:Nat) (x:aj) (v:Value),xs[j]? =some x->vs[j]? =some v->RA w G σ.h x v)->(∀x∈xs,∀m,x.ref m->σ.used m=true)->
  ∃(Im':Nat->Prop) (pes:List (List PC)),pes.map (fun e=>e.map PC.er)=es/\pes.map (fun e=>e.map PC.val)=vs.map (fun v=>v.cells.toList)/\(∀e∈pes,e.length=sz)/\
   (∀e∈pes,∀pc∈e,Good w pc/\∀b,aT b pc->Im' b)/\
   HR B E w ⟨Im',G.g⟩ σ1.h σ.used (if o=true then tk++pes.flatten else tk)/\aZ w G σ.h (fun n=>σ.used n=true) w ⟨Im',G.g⟩ σ1.h/\σ1.env=σ.env/\σ1.used=σ.used/\
   (∀n b,σ1.h n=some b->σ.h n=some b)
 |[],σ,σ1,G,tk,es,o,vs,H,hx,hl,hc,hr=>by
  simp only[St.kY] at hx
  injection hx with hx
  injection hx with lL eC
  injection eC with eC oV
  subst lL eC oV
  have:vs=[]:=List.eq_nil_of_length_eq_zero (by simpa using hl)
  subst this
  exact⟨G.Im,[],rfl,rfl,by simp,by simp,by simpa using H,aZ.refl _ _ _ _,rfl,rfl,fun _ _ h=>h⟩
 |x::xs,σ,σ2,G,tk,es,o,vs,H,hx,hl,hc,hr=>by
  simp only[St.kY] at hx
  split at hx
  ·rename_i ag cs j7
   split at hx
   ·rename_i bF
    split at hx
    ·rename_i e o1 σ1 e1
     split at hx
     ·rename_i es' o2 WG e2
      injection hx with hx
      injection hx with lL eC
      injection eC with eC oV
      subst lL eC oV
      match vs,hl with
      |v::vs,hl=>
       have bG:=(hc 0 x v rfl rfl).cells j7
       obtain⟨xN,bt,a1,a2,a3,a5,a6,a7,a8,a9⟩:=H.fg e1 bG (fun c' cO m hm=>hr x (by simp) m (aj.xX j7 cO hm))
       rw[<-a8] at a5
       obtain⟨CJ,pes,b1,b2,b3,b3',b4,b5,b6,b7,b8⟩:=HR.kY (xs:=xs) (vs:=vs) a5 e2 (by simpa using hl)
        (fun j x v h1 h2=>(hc (j+1) x v h1 h2).eV a6 (fun m hm=>hr x (by simp[List.mem_of_getElem? h1]) m hm)) (fun x' fm m hm=>by rw[a8];exact hr x' (by simp[fm]) m hm)
       refine⟨CJ,bt::pes,by simp[a1,b1],by simp[a2,b2],fun q hq=>?_,fun q hq pc aY=>?_,?_,aZ.trans (fun n hn=>by rw[a8];exact hn) a6 b5,b6.trans a7,b7.trans a8,fun n b hb=>a9 n b (b8 n b hb)⟩
       ·cases hq with
        |head=>
         have:(bt.map PC.er).length=(v.cells.toList).length:=by rw[<-a2];simp
         have h2:=bG.1
         simp at this
         simp at h2
         omega
        |tail _ hq=>exact b3 q hq
       ·cases hq with
        |head=>exact⟨(a3 pc aY).1,fun b hb=>b5.im b ((a3 pc aY).2 b hb)⟩
        |tail _ hq=>exact b3' q hq pc aY
       ·rw[a8] at b4
        cases o1<;>cases o2<;>simp at b4⊢
        ·exact b4
        ·exact b4.xv
        ·exact b4.xv
        ·exact b4
     ·cases hx
    ·cases hx
   ·cases hx
  ·cases hx
def iR (b:Nat) (pc:PC):Prop:=aT b pc\/∃sz o cap xs,pc=.list sz (some (ad b o)) cap xs/\cap≠0
def CS (w:World):PC->Prop
 |.list sz a cap xs=>0<sz/\xs.length<=cap/\(cap=0\/∃b o cur e,a=some (ad b o)/\w.heap[b]? =some (.cells cur e (0,0))/\cur.size=o+cap*sz/\cap<=maxLen/\∀k j c,At xs k j c->¬aT b c)
 |_=>True
structure CP (w:World) (B':Nat) (ps:List PC):Prop where
 dH:∀pc∈ps,Good w pc/\Sep pc/\CS w pc
 new:∀pc∈ps,∀b,iR b pc->B'<=b/\dD w b
 m4:∀(i j:Nat) (pc di:PC) (b:Nat),i≠j->ps[i]? =some pc->ps[j]? =some di->iR b pc->¬iR b di
def qK:K×List PC->Value
 |(.one,[pc])=>pc.val
 |(_,bt)=>.agg (bt.map PC.val).toArray
def xd:List (K×List PC)->Value
 |[p]=>qK p
 |l=>.tuple (l.map qK).toArray
def bV (P:Program) (f:FuncId) (M:List Dv->Option (List Dv)):Prop:=
 ∀ds rs,M ds=some rs->∀(w:World) (vals:List Value),FM w ds vals->Calls P f vals.toArray w fun e w'=>
  ∃aV:List (K×List PC),aV.map (fun p=>(p.1,p.2.map PC.er))=rs/\e=.returned (xd aV)/\(∀p∈aV,p.1≠ .ptr/\(p.1=.one->p.2.length=1))/\
   CP w' w.heap.size (aV.flatMap (·.2))/\Fr w.heap.size Ex.no w w'
end
end Go.Am
end
section
namespace Go.Am
section
variable {B:Nat} {E:Ex} {w0 w w':World} {G G':Gh} {h h':Nat->Option aq} {used used':Nat->Bool} {tk:List PC} {N:Nat}
def oC (G:Gh) (h:Nat->Option aq) (b:Nat):Prop:=
 ¬G.Im b/\(∀n,h n≠none->(G.g n).nl=false->(G.g n).b≠b)/\∀n gr m sz xs,h n=some (.row gr m sz xs)->¬aX b (G.g n).px
theorem HR.Qs (H:HR B E w G h used tk):oC G h w.heap.size:=
 ⟨fun hi=>Nat.lt_irrefl _ (H.fL _ hi),fun n hn hl he=>by have:=(H.own n hn hl).2.2;omega,fun n gr m sz xs hn hb=>Nat.lt_irrefl _ (H.qL hn hb)⟩
def aef (B:Nat) (E:Ex) (w w':World) (G:Gh) (h:Nat->Option aq) (p:PB):aq->Prop
 |.box cs=>p.nl=false/\dD w' p.b/\∀(j:Nat) (c:ah),cs[j]? =some c->∃v,w'.cell? (ad p.b (p.o+j))=some v/\v.oneCell'=true/\RC w G h c v
 |.row gr m sz xs=>tJ B E w' G gr m sz xs p
theorem aZ.insert (H:HR B E w G h used tk) {n:Nat} {blk:aq} {p:PB} (hn:used n=false) (hw:∀b,b<w.heap.size->w'.heap[b]? =w.heap[b]?):
  aZ w G h (fun n=>used n=true) w' ⟨G.Im,ax G.g n p⟩ (ax h n (some blk)):=by
 have ne:∀m,used m=true->m≠n:=fun m hm e=>by subst e;rw[hn] at hm;cases hm
 refine⟨fun _ h=>h,fun b hb o=>iz (hw b (H.fL b hb)) o,fun m hm h0=>?_,fun m gr sz xs hm h0=>?_⟩
 ·rw[cb _ _ _ _ (ne m hm)] at h0
  simp only[cb _ _ _ _ (ne m hm)]
  exact⟨h0,trivial,trivial,trivial,trivial,trivial⟩
 ·rw[cb _ _ _ _ (ne m hm)] at h0
  simp only[cb _ _ _ _ (ne m hm)]
  exact⟨⟨gr,xs,h0⟩,fun k j pc h1 h2=>⟨pc,h1,rfl,h2⟩⟩
theorem HR.insert (H:HR B E w G h used tk) {n:Nat} {blk:aq} {p:PB} (hn:used n=false) (hw:∀b,b<w.heap.size->w'.heap[b]? =w.heap[b]?) (bF:w.heap.size<=w'.heap.size)
  (hl:p.nl=false->oC G h p.b/\(B<=p.b\/E p.b)/\p.b<w'.heap.size)
  (wB:∀cs c m,blk=.box cs->c∈cs->c.ref m->used m=true)
  (gY:aef B E w w' G h p blk)
  (IL:∀gr m sz xs,blk=.row gr m sz xs->m≠ .aO->∀n' bj m' aL ar,h n'=some (.row bj m' aL ar)->m'≠ .aO->∀b,aX b p.px->¬aX b (G.g n').px)
  (sQ:∀gr sz xs,blk=.row gr .live sz xs->∀b,aX b p.px->(p.nl=false->b≠p.b)/\∀n',h n'≠none->(G.g n').nl=false->b≠(G.g n').b)
  (wu:∀gr m sz xs,blk=.row gr m sz xs->m≠ .aO->∀(i:Nat) (pc:PC) (b:Nat),tk[i]? =some pc->aT b pc->¬aX b p.px):
  HR B E w' ⟨G.Im,ax G.g n p⟩ (ax h n (some blk)) (ax used n true) tk:=by
 have K:=aZ.insert H (blk:=blk) (p:=p) hn hw
 have OV:h n=none:=by
  cases hh:h n with
  |none=>rfl
  |some b=>have:=H.iA n (by rw[hh];simp);rw[hn] at this;cases this
 have aE:∀m,h m≠none->m≠n:=fun m hm e=>by subst e;exact hm OV
 have hu:∀m,used m=true->ax used n true m=true:=fun m hm=>by
  simp only[iO];split
  ·rfl
  ·exact hm
 refine H.put (fun b hb _=>hw b hb) bF (fun b hb hU=>hU.congr (hw b hb)) hu (bE _ _ _) (fun hp=>⟨(hl hp).1.1,(hl hp).2⟩) (fun hp m hm h0 kF=>(hl hp).1.2.1 m h0 kF)
  (fun hp m gr sz xs hm h0 b hb he=>(hl hp).1.2.2 m gr _ sz xs h0 (he▸hb)) (fun cs c m hb hc hr=>hu m (wB cs c m hb hc hr)) K ?_
  (fun gr m sz xs hb hm n' bj m' aL ar _ h0=>IL gr m sz xs hb hm n' bj m' aL ar h0) (fun gr sz xs hb b cB=>⟨(sQ gr sz xs hb b cB).1,fun n' _=>(sQ gr sz xs hb b cB).2 n'⟩) wu
  (fun hp _ b hb he=>by obtain⟨m,gr,mo,sz,xs,_,h0,cB⟩:=hb;exact(hl hp).1.2.2 m gr mo sz xs h0 (he▸cB))
 cases blk with
 |box cs=>
  obtain⟨a1,a2,a3⟩:=gY
  refine⟨a1,a2,fun j c hj=>?_⟩
  obtain⟨v,b1,b2,b3⟩:=a3 j c hj
  exact⟨v,b1,b2,b3.eV K fun m hm=>wB cs c m rfl (List.mem_of_getElem? hj) hm⟩
 |row gr m sz xs=>
  have hr:tJ B E w' G gr m sz xs p:=gY
  exact⟨hr.pos,hr.er,hr.nl,hr.dT,hr.room,by
   have:=hr.mode
   cases m<;>exact this⟩
theorem R.put {σ:St} {a:Act} (r:R B E w0 N σ a w G) {x:aj} {v:Value} (hv:RA w G σ.h x v) (hr:∀m,x.ref m->σ.used m=true) {d:Option Nat} (hd:∀n,d=some n->n<N):
  R B E w0 N (σ.put d x) (a.put d v) w G:=by
 cases d with
 |none=>exact r
 |some n=>
  have hn:=hd n rfl
  refine⟨r.defers,by simp[Act.put,r.size],fun s=>?_,fun s m hm=>?_,r.hr,r.fr,r.qD,r.ze⟩
  ·simp only[St.put,Act.put]
   by_cases hs:s=n
   ·subst hs
    rw[bE]
    have:(a.tmps.setIfInBounds s v).getD s undef=v:=by
     simp[Array.getD_eq_getD_getElem?,r.size,hn]
    rw[this]
    exact hv
   ·rw[cb _ _ _ _ hs]
    have:(a.tmps.setIfInBounds n v).getD s undef=a.tmps.getD s undef:=by
     simp[Array.getD_eq_getD_getElem?,Array.getElem?_setIfInBounds_ne (Ne.symm hs)]
    rw[this]
    exact r.env s
  ·simp only[St.put] at hm⊢
   by_cases hs:s=n
   ·subst hs;rw[bE] at hm;exact hr m hm
   ·rw[cb _ _ _ _ hs] at hm;exact r.r7 s m hm
theorem R.step {σ:St} {a:Act} (r:R B E w0 N σ a w G) {σ':St} (he:σ'.env=σ.env) (hu:∀m,σ.used m=true->σ'.used m=true) (K:aZ w G σ.h (fun n=>σ.used n=true) w' G' σ'.h)
  (H:HR B E w' G' σ'.h σ'.used []) (F:Fr B E w0 w'):R B E w0 N σ' a w' G':=
 ⟨r.defers,r.size,fun s=>by rw[he];exact(r.env s).eV K (fun m hm=>r.r7 s m hm),fun s m hm=>by rw[he] at hm;exact hu m (r.r7 s m hm),H,F,
  fun n p b hp hb=>by
   have Bd:=r.ze n (E.lt n p hp)
   obtain⟨k0,k1,k2,k3,k4,k6⟩:=K.name n Bd (by rw[hb];simp)
   cases h0:σ.h n with
   |none=>exact absurd h0 k0
   |some b0=>
    obtain⟨p1,p2,p3,p4,p6,p5⟩:=r.qD n p b0 hp h0
    refine⟨k1.trans p1,k2.trans p2,k3.trans p3,k4.trans p4,k6.trans p6,fun gr sz xs DH k j pc hk hL=>?_⟩
    subst DH
    obtain⟨⟨yk,kz,e0⟩,hl⟩:=K.live n gr sz xs Bd hb
    rw[h0] at e0
    injection e0 with e0
    obtain⟨pc1,q1,q2,q3⟩:=p5 yk sz kz e0 k j pc hk hL
    obtain⟨pc2,q4,q5,q6⟩:=hl k j pc1 q1 q3
    exact⟨pc2,q4,q5.trans q2,q6⟩,
  fun n hn=>hu n (r.ze n hn)⟩
end
def HP:Value->ah->Bool
 |.int k n,.c (.int k' n')=>decide (k=k')&&decide (n=n')
 |.bool b,.c (.bool b')=>decide (b=b')
 |.slice none 0 0,.nil sz=>true
 |.pointer none,.bn=>true
 |_,_=>false
def sC:List Value->List ah->Bool
 |[],[]=>true
 |v::vs,c::cs=>HP v c&&sC vs cs
 |_,_=>false
def bz:Operand->MO->Bool
 |.tmp n,.t m=>n==m
 |.const (.agg vs),.k (.agg cs)=>sC vs.toList cs
 |.const v,.k (.one c)=>HP v c
 |_,_=>false
section
variable {B:Nat} {E:Ex} {w0 w w':World} {G G':Gh} {h h':Nat->Option aq} {used used':Nat->Bool} {tk:List PC} {N:Nat}
theorem XC {v:Value} {c:ah} (hc:HP v c=true):RC w G h c v/\v.oneCell'=true/\∀m,¬c.ref m:=by
 unfold HP at hc
 split at hc
 ·simp at hc
  obtain⟨rfl,rfl⟩:=hc
  exact⟨⟨.int _ _,rfl,rfl,.int _ _,fun b hb=>by cases hb⟩,rfl,fun m hm=>hm⟩
 ·simp at hc
  subst hc
  exact⟨⟨.bool _,rfl,rfl,.bool _,fun b hb=>by cases hb⟩,rfl,fun m hm=>hm⟩
 ·exact⟨rfl,rfl,fun m hm=>hm⟩
 ·exact⟨trivial,rfl,fun m hm=>hm⟩
 ·cases hc
theorem HQ:∀{vs:List Value} {cs:List ah},sC vs cs=true->cJ w G h cs vs/\∀c∈cs,∀m,¬c.ref m
 |[],[],_=>⟨⟨rfl,by simp⟩,by simp⟩
 |v::vs,c::cs,hc=>by
  simp only[sC,Bool.and_eq_true] at hc
  obtain⟨a1,a2,a3⟩:=XC (w:=w) (G:=G) (h:=h) hc.1
  obtain⟨⟨b1,b2⟩,b3⟩:=HQ hc.2
  refine⟨⟨by simp[b1],fun j c' u hj hu=>?_⟩,fun c' cO=>?_⟩
  ·cases j with
   |zero=>simp at hj hu;subst hj;subst hu;exact⟨a2,a1⟩
   |succ j=>exact b2 j c' u (by simpa using hj) (by simpa using hu)
  ·cases cO with
   |head=>exact a3
   |tail _ cO=>exact b3 c' cO
 |[],_::_,hc=>by simp[sC] at hc
 |_::_,[],hc=>by simp[sC] at hc
theorem RV.fZ {c:ah} {v:Value} (h1:v.oneCell'=true) (h2:RC w G h c v):RV w G h false [c] v:=by
 show cJ w G h [c] [v]
 exact⟨rfl,fun j c' u hj hu=>by
  cases j with
  |zero=>simp at hj hu;subst hj;subst hu;exact⟨h1,h2⟩
  |succ j=>simp at hj⟩
theorem RA.fZ {c:ah} {v:Value} (h1:v.oneCell'=true) (h2:RC w G h c v):RA w G h (.one c) v:=.inr (RV.fZ h1 h2)
theorem R.ev {σ:St} {a:Act} (r:R B E w0 N σ a w G) {x:Operand} {m:MO} (hc:bz x m=true):RA w G σ.h (σ.ev m) (a.eval x)/\∀n,(σ.ev m).ref n->σ.used n=true:=by
 unfold bz at hc
 split at hc
 ·simp at hc
  subst hc
  exact⟨r.env _,fun n hn=>r.r7 _ n hn⟩
 ·rename_i vs cs
  obtain⟨b1,b2⟩:=HQ (w:=w) (G:=G) (h:=σ.h) hc
  exact⟨⟨vs.toList,by simp[Act.eval],b1⟩,fun n hn=>by obtain⟨c,hc,hm⟩:=hn;exact absurd hm (b2 c hc n)⟩
 ·obtain⟨a1,a2,a3⟩:=XC (w:=w) (G:=G) (h:=σ.h) hc
  exact⟨RA.fZ a2 a1,fun n hn=>absurd hn (a3 n)⟩
 ·cases hc
theorem nD {P:Program} {o:Oper} {a:Act} {v:Value} {K:Act->World->Prop} {Q:Exit->Act->World->Prop} (hr:(execOp a.eval o).run P w=.ok (.value v) w') (hK:K (a.put o.dst v) w'):o.wp P a w K Q:=by
 unfold Oper.wp
 rw[hr]
 exact hK
theorem KT {P:Program} {o:Oper} {a:Act} {K:Act->World->Prop} {Q:Exit->Act->World->Prop} (hr:(execOp a.eval o).run P w=.ok .skip w') (hK:K (a.put o.dst undef) w'):o.wp P a w K Q:=by
 unfold Oper.wp
 rw[hr]
 exact hK
end
end Go.Am
end
section
namespace Go.Am
section
variable {B:Nat} {E:Ex} {w0 w w':World} {G G':Gh} {h h':Nat->Option aq} {used used':Nat->Bool} {tk:List PC} {N:Nat}
variable {P:Program} {o:Oper} {a:Act} {σ σ':St} {Q:Exit->Act->World->Prop}
def Nx (B:Nat) (E:Ex) (w0:World) (N:Nat) (σ:St):Act->World->Prop:=fun a w=>∃G,R B E w0 N σ a w G
theorem Mf (w:World) (ob:Obj) (b:Nat) (hb:b<w.heap.size):(w.alloc ob).heap[b]? =w.heap[b]? :=heap_alloc_old w ob b hb
theorem dD.alloc (w:World) (arr:Array Value) (e:TypeId):dD (w.alloc (.cells arr e)) w.heap.size:=⟨arr,e,heap_alloc_new w _⟩
theorem lP {σ1:St} {n:Nat} {b:aq} (hx:σ.ins n b=some σ1):σ.used n=false/\σ1={σ with h:=ax σ.h n (some b),used:=ax σ.used n true}:=by
 unfold St.ins at hx
 split at hx
 ·cases hx
 ·rename_i hu
  injection hx with hx
  exact⟨by simpa using hu,hx.symm⟩
theorem qT (n m:Nat) (hm:used m=true):ax used n true m=true:=by
 simp only[iO];split
 ·rfl
 ·exact hm
theorem R.abk (r:R B E w0 N σ a w G) {n:Nat} {cs:List ah} {vs:List Value} {e:TypeId} (hn:σ.used n=false) (hc:cJ w G σ.h cs vs) (iC:∀c∈cs,∀m,c.ref m->σ.used m=true):
  ∃G',R B E w0 N {σ with h:=ax σ.h n (some (.box cs)),used:=ax σ.used n true} a (w.alloc (.cells vs.toArray e)) G'/\
   RA (w.alloc (.cells vs.toArray e)) G' (ax σ.h n (some (.box cs))) (.one (.ptr n 0 0 0)) (.pointer (some (ad w.heap.size 0))):=by
 have H:=r.hr
 have hB:=r.fr.size
 have hw:=Mf w (.cells vs.toArray e)
 refine⟨⟨G.Im,ax G.g n ⟨false,w.heap.size,0,0,[],none⟩⟩,r.step rfl (fun m hm=>qT n m hm) (aZ.insert H hn hw) ?_ (r.fr.grow hw (by simp) rfl rfl rfl),?_⟩
 ·refine H.insert hn hw (by simp) (fun _=>⟨H.Qs,.inl hB,by simp⟩) (fun cs' c m hb cO hm=>?_) ⟨rfl,dD.alloc _ _ _,fun j c hj=>?_⟩ (fun gr m sz xs hb=>by cases hb) (fun gr sz xs hb=>by cases hb) (fun gr m sz xs hb=>by cases hb)
  ·injection hb with hb;subst hb;exact iC c cO m hm
  ·have iB:j<vs.length:=by rw[hc.1];exact(List.getElem?_eq_some_iff.1 hj).1
   have hv:vs[j]? =some vs[j]:=List.getElem?_eq_getElem iB
   obtain⟨q1,q2⟩:=hc.2 j c _ hj hv
   refine⟨vs[j],?_,q1,q2⟩
   simp only[Nat.zero_add]
   unfold ad
   rw[World.cell?_alloc_new]
   simp only[List.getElem?_toArray];exact hv
 ·exact RA.fZ rfl fun _=>by simp[bE]
theorem afx (r:R B E w0 N σ a w G) {n:Nat} {e:TypeId} {i:TypeInfo} {z:Value} {zs:List ah} {σ1:St} (ho:o.op=.alloc e) (hd:o.dst=some n) (hN:n<N)
  (hi:P.info? e=some i) (hz:i.zero=some z) (hc:sC z.cells.toList zs=true) (hx:σ.ins n (.box zs)=some σ1):
  o.wp P a w (Nx B E w0 N (σ1.put o.dst (.one (.ptr n 0 0 0)))) Q:=by
 obtain⟨hn,rfl⟩:=lP hx
 obtain⟨bG,iC⟩:=HQ (w:=w) (G:=G) (h:=σ.h) hc
 obtain⟨G',r',hv⟩:=r.abk (e:=e) hn bG (fun c hc m hm=>absurd hm (iC c hc m))
 have bO:(execOp a.eval o).run P w=.ok (.value (.pointer (some (ad w.heap.size 0)))) (w.alloc (.cells z.cells.toList.toArray e)):=by
  simp[execOp,ho,Instr.alloc,zeroValue,typeInfo,hi,hz,newVar,newRow,ad]
 exact nD bO ⟨G',r'.put hv (fun m hm=>by have bI:m=n:=hm;subst bI;exact bE _ _ _) (fun m hm=>by rw[hd] at hm;injection hm with hm;omega)⟩
theorem afB (r:R B E w0 N σ a w G) {n:Nat} {e:TypeId} {x:Operand} {m:MO} {ag:Bool} {cs:List ah} {σ1:St} (ho:o.op=.box e x) (hd:o.dst=some n) (hN:n<N)
  (hm:bz x m=true) (ew:(σ.ev m).cells?=some (ag,cs)) (hx:σ.ins n (.box cs)=some σ1):
  o.wp P a w (Nx B E w0 N (σ1.put o.dst (.one (.ptr n 0 0 0)))) Q:=by
 obtain⟨hn,rfl⟩:=lP hx
 obtain⟨hv,iC⟩:=r.ev hm
 obtain⟨G',r',fK⟩:=r.abk (e:=e) hn (hv.cells ew) (fun c hc q hq=>iC q (aj.xX ew hc hq))
 have bO:(execOp a.eval o).run P w=.ok (.value (.pointer (some (ad w.heap.size 0)))) (w.alloc (.cells (a.eval x).cells.toList.toArray e)):=by
  simp[execOp,ho,Instr.box,newVar,newRow,ad]
 exact nD bO ⟨G',r'.put fK (fun q hq=>by have ez:q=n:=hq;subst ez;exact bE _ _ _) (fun q hq=>by rw[hd] at hq;injection hq with hq;omega)⟩
theorem tL {α:Type} {sz:Nat}:∀{px:List (List α)} (_:∀e∈px,e.length=sz) {k j:Nat} {c:α},At px k j c->px.flatten[k*sz+j]? =some c
 |[],_,k,j,c,hk=>by obtain⟨e,he,_⟩:=hk;simp at he
 |e::px,hl,k,j,c,hk=>by
  obtain⟨e',he,hj⟩:=hk
  have h0:=hl e (by simp)
  cases k with
  |zero=>
   simp at he
   subst he
   have iB:=(List.getElem?_eq_some_iff.1 hj).1
   simp only[List.flatten_cons,Nat.zero_mul,Nat.zero_add]
   rw[List.getElem?_append_left iB]
   exact hj
  |succ k=>
   have ih:=tL (px:=px) (fun e he=>hl e (by simp[he])) (k:=k) (j:=j) (c:=c) ⟨e',by simpa using he,hj⟩
   simp only[List.flatten_cons]
   rw[List.getElem?_append_right (by rw[h0,Nat.add_mul];omega)]
   rw[show(k+1)*sz+j - e.length=k*sz+j by rw[h0,Nat.add_mul];omega]
   exact ih
structure CN (B:Nat) (E:Ex) (w:World) (G:Gh) (h:Nat->Option aq) (m:Mode) (pes:List (List PC)):Prop where
 m5:∀b,aX b pes->G.Im b/\dD w b/\(B<=b\/E b)
 sep:ig pes
 fA:∀n gr m sz xs,h n=some (.row gr m sz xs)->m≠ .aO->∀b,aX b pes->¬aX b (G.g n).px
 kind:m=.ab\/∀b,¬aX b pes
theorem aeu {α:Type} {sz:Nat} (bF:0<sz) {pes:List (List α)} (hl:∀e∈pes,e.length=sz) {k j k' j':Nat} {c c':α} (h1:At pes k j c) (h2:At pes k' j' c') (aE:(k,j)≠(k',j')):k*sz+j≠k'*sz+j':=by
 intro dI
 have hj:j<sz:=by obtain⟨e1,he,hj⟩:=h1;rw[<-hl e1 (List.mem_of_getElem? he)];exact(List.getElem?_eq_some_iff.1 hj).1
 have jn:j'<sz:=by obtain⟨e1,he,hj⟩:=h2;rw[<-hl e1 (List.mem_of_getElem? he)];exact(List.getElem?_eq_some_iff.1 hj).1
 have hk:k=k':=by
  have h3:(k*sz+j)/sz=k:=by rw[Nat.mul_comm,Nat.mul_add_div bF,Nat.div_eq_of_lt hj];omega
  have h4:(k'*sz+j')/sz=k':=by rw[Nat.mul_comm,Nat.mul_add_div bF,Nat.div_eq_of_lt jn];omega
  rw[dI] at h3
  omega
 subst hk
 exact aE (by rw[show j=j' by omega])
theorem HR.anx {pes:List (List PC)} {sz:Nat} (bF:0<sz) (hl:∀e∈pes,e.length=sz) (H:HR B E w G h used pes.flatten):CN B E w G h .ab pes:=by
 refine⟨?_,⟨fun k j c hk=>(H.qR _ c (tL hl hk)).1,fun k j c k' j' c' b hk cY aE hb=>H.vh _ _ c c' b (aeu bF hl hk cY aE) (tL hl hk) (tL hl cY) hb⟩,?_,.inl rfl⟩
 ·rintro b ⟨k,j,c,hk,hb⟩
  exact(H.qR _ c (tL hl hk)).2 b hb
 ·rintro n gr m sz xs hn hm b ⟨k,j,c,hk,hb⟩
  exact H.qS _ c n gr m sz xs b (tL hl hk) hn hm hb
theorem Sep.EI {w:World} {q:PC} (hq:∀b,¬aT b q) (hg:Good w q):Sep q:=by
 induction hg with
 |int k n=>exact .int k n
 |bool b=>exact .bool b
 |nil sz a cap h=>exact .list _ _ _ _ (by rintro k j c ⟨e,he,_⟩;simp at he) (by rintro b o k j c _ ⟨e,he,_⟩;simp at he) (by rintro k j c k' j' c' b ⟨e,he,_⟩;simp at he)
 |cons sz b o cap xs h1 h2 h3 h4 h5 h6 ih=>exact absurd (.here _ _ _ _ h1) (hq b)
theorem CN.EI {m:Mode} {pes:List (List PC)} (bS:∀b,¬aX b pes) (hg:∀k j c,At pes k j c->Good w c):CN B E w G h m pes:=
 ⟨fun b hb=>absurd hb (bS b),⟨fun k j c hk=>Sep.EI (fun b hb=>bS b ⟨k,j,c,hk,hb⟩) (hg k j c hk),fun k j c k' j' c' b hk _ _ hb=>absurd ⟨k,j,c,hk,hb⟩ (bS b)⟩,fun n gr m sz xs _ _ b hb=>absurd hb (bS b),.inr bS⟩
theorem R.newRow (r:R B E w0 N σ a w G) {Im':Nat->Prop} {σ1:St} (H:HR B E w ⟨Im',G.g⟩ σ1.h σ.used []) (K:aZ w G σ.h (fun n=>σ.used n=true) w ⟨Im',G.g⟩ σ1.h)
  (yr:σ1.env=σ.env) (lK:σ1.used=σ.used)
  {n:Nat} {m:Mode} {sz cap:Nat} {pes:List (List PC)} {arr:Array Value} {e:TypeId} (hn:σ.used n=false) (bF:0<sz) (hl:∀e∈pes,e.length=sz)
  (gH:∀k j c,At pes k j c->Good w c/\∀b,aT b c->Im' b) (ui:∀k j c,At pes k j c->arr[k*sz+j]? =some c.val) (jk:pes.length<=cap) (yy:cap<=maxLen) (uC:arr.size=cap*sz)
  (hm:m=.aO\/CN B E w ⟨Im',G.g⟩ σ1.h m pes):
  ∃G',R B E w0 N {σ1 with h:=ax σ1.h n (some (.row true m sz (pes.map fun e=>e.map PC.er))),used:=ax σ1.used n true} a (w.alloc (.cells arr e)) G'/\
   RA (w.alloc (.cells arr e)) G' (ax σ1.h n (some (.row true m sz (pes.map fun e=>e.map PC.er)))) (.one (.sl n sz 0 pes.length)) (.slice (some (ad w.heap.size 0)) pes.length cap):=by
 have hB:=r.fr.size
 have hw:=Mf w (.cells arr e)
 have aee:HR B E (w.alloc (.cells arr e)) ⟨Im',ax G.g n ⟨false,w.heap.size,0,cap,pes,none⟩⟩ (ax σ1.h n (some (.row true m sz (pes.map fun e=>e.map PC.er)))) (ax σ.used n true) []:=by
  refine H.insert (p:=⟨false,w.heap.size,0,cap,pes,none⟩) hn hw (by simp) (fun _=>⟨H.Qs,.inl hB,by simp⟩) (fun cs c m hb=>by cases hb) ?_ ?_ ?_ (fun gr m sz xs _ _ i pc b hi=>by simp at hi)
  ·refine⟨bF,rfl,(fun hl=>by cases hl),fun _=>⟨dD.alloc _ _ _,⟨hl,fun k j c hk=>?_,fun k j c hk=>?_⟩,jk⟩,fun _ _=>⟨yy,arr,e,heap_alloc_new w _,(Nat.zero_add _).symm▸uC⟩,?_⟩
   ·simp only[Nat.zero_add]
    unfold ad
    rw[World.cell?_alloc_new]
    exact ui k j c hk
   ·exact(gH k j c hk).1.congr fun b hb o=>iz (hw b (H.fL b ((gH k j c hk).2 b hb))) o
   ·have nb:m≠ .aO->(∀b,aX b pes->Im' b/\dD (w.alloc (.cells arr e)) b/\(B<=b\/E b))/\ig pes:=fun g7=>
     ⟨fun b hb=>by
      have hO:=hm.resolve_left g7
      obtain⟨q1,q2,q3⟩:=hO.m5 b hb
      exact⟨q1,q2.congr (hw b (H.fL b q1)),q3⟩,(hm.resolve_left g7).sep⟩
    cases m with
    |aO=>
     rintro b ⟨k,j,c,hk,hb⟩
     exact(gH k j c hk).2 b hb
    |ab=>exact nb (by simp)
    |live=>
     have hO:=hm.resolve_left (by simp)
     have bS:=hO.kind.resolve_left (by simp)
     exact⟨fun b hb=>absurd hb (bS b),hO.sep⟩
  ·intro gr m' aL ar hb g7 n' bj mR jZ ic h0 iV b cB
   injection hb with _ hb _ _
   subst hb
   exact(hm.resolve_left g7).fA n' bj mR jZ ic h0 iV b cB
  ·intro gr aL ar hb b cB
   injection hb with _ hb _ _
   subst hb
   exact absurd cB ((hm.resolve_left (by simp)).kind.resolve_left (by simp) b)
 have K2:=aZ.trans (u2:=fun n=>σ.used n=true) (fun _ h=>h) K (aZ.insert H (blk:=.row true m sz (pes.map fun e=>e.map PC.er)) (p:=⟨false,w.heap.size,0,cap,pes,none⟩) hn hw)
 refine⟨⟨Im',ax G.g n ⟨false,w.heap.size,0,cap,pes,none⟩⟩,r.step yr (fun m hm=>by rw[lK];exact qT n m hm) K2 (by rw[lK];exact aee) (r.fr.grow hw (by simp) rfl rfl rfl),?_⟩
 refine RA.fZ rfl fun _=>.inr ⟨by simp[bE],some (ad w.heap.size 0),?_,?_,?_⟩
 ·simp[bE]
 ·simp[bE];omega
 ·simp[bE]
end
end Go.Am
end
