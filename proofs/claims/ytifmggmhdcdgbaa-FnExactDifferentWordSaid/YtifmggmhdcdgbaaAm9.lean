/- Am6, Am7, Am8, Am9: parts of the proof. No condition. -/
import Derived.Test.YtifmggmhdcdgbaaAm5
set_option linter.unusedVariables false
section
namespace Go.Am
section
variable {B:Nat} {E:Ex} {w0 w w':World} {G G':Gh} {h h':Nat->Option ar} {used used':Nat->Bool} {tk:List PC}
theorem aV.pI (S:Nat->Prop) (u:Nat->Prop):aV w G h u w ⟨fun b=>G.Im b\/S b,G.g⟩ h:=
 ⟨fun _ h=>.inl h,fun _ _ _=>rfl,fun _ _ h=>⟨h,rfl,rfl,rfl,rfl,rfl⟩,fun n gr sz xs _ hn=>⟨⟨gr,xs,hn⟩,fun k j pc h1 h2=>⟨pc,h1,rfl,h2⟩⟩⟩
theorem HR.pI (H:HR B E w G h used tk) (S:Nat->Prop) (h1:∀b,S b->b<w.heap.size) (h2:∀b,S b->∀n,h n≠none->(G.g n).nl=false->b≠(G.g n).b)
  (h3:∀b,S b->∀n gr sz xs,h n=some (.row gr .live sz xs)->¬aR b (G.g n).px) (h4:∀b,S b->B<=b\/E b\/E.a b):HR B E w ⟨fun b=>G.Im b\/S b,G.g⟩ h used tk:=by
 refine⟨H.iq,H.f8,fun n cs hn=>?_,fun n gr m sz xs hn=>?_,fun n hn hl=>?_,H.inj,?_,fun b hb=>hb.elim (H.oH b) (h4 b),H.e7,H.live,fun i pc hi=>?_,H.uK,H.qi⟩
 ·obtain⟨a1,a2,a3⟩:=H.box n cs hn
  refine⟨a1,a2,fun j c hj=>?_⟩
  obtain⟨v,b1,b2,b3⟩:=a3 j c hj
  exact⟨v,b1,b2,b3.ek (aV.pI S (fun n=>used n=true)) fun q hq=>H.f8 n cs c q hn (List.mem_of_getElem? hj) hq⟩
 ·have hr:=H.row n gr m sz xs hn
  refine⟨hr.pos,hr.er,hr.nl,hr.dq,hr.room,?_⟩
  have hm:=hr.mode
  cases m with
  |aE=>exact fun b hb=>.inl (hm b hb)
  |aa=>exact⟨fun b hb=>⟨.inl (hm.1 b hb).1,(hm.1 b hb).2⟩,hm.2⟩
  |live=>exact⟨fun b hb=>⟨fun hi=>hi.elim (hm.1 b hb).1 (fun hs=>h3 b hs n gr sz xs hn hb),(hm.1 b hb).2⟩,hm.2⟩
 ·obtain⟨a1,a2,a3⟩:=H.own n hn hl
  exact⟨fun hi=>hi.elim a1 (fun hs=>h2 _ hs n hn hl rfl),a2,a3⟩
 ·exact fun b hb=>hb.elim (H.fk b) (h1 b)
 ·obtain⟨a1,a2⟩:=H.qh i pc hi
  exact⟨a1,fun b hb=>⟨.inl (a2 b hb).1,(a2 b hb).2⟩⟩
theorem HR.wX {l:List PC} (H:HR B E w G h used (tk++l)):HR B E w G h used tk:=by
 have e:∀(i:Nat) (pc:PC),tk[i]? =some pc->(tk++l)[i]? =some pc:=fun i pc hi=>by
  rw[List.getElem?_append_left (List.getElem?_eq_some_iff.1 hi).1];exact hi
 exact⟨H.iq,H.f8,H.box,H.row,H.own,H.inj,H.fk,H.oH,H.e7,H.live,fun i pc hi=>H.qh i pc (e i pc hi),fun i j pc cR b jC h1 h2=>H.uK i j pc cR b jC (e i pc h1) (e j cR h2),
  fun i pc n gr m sz xs b hi=>H.qi i pc n gr m sz xs b (e i pc hi)⟩
theorem HR.Uq (H:HR B E w G h used tk) {pc:PC} (h1:Sep pc) (h2:∀b,aN b pc->G.Im b/\da w b/\(B<=b\/E b))
  (h3:∀(i:Nat) (q:PC) (b:Nat),tk[i]? =some q->aN b q->¬aN b pc)
  (h4:∀n gr m sz xs b,h n=some (.row gr m sz xs)->m≠ .aE->aN b pc->¬aR b (G.g n).px):HR B E w G h used (tk++[pc]):=by
 have e:∀(i:Nat) (q:PC),(tk++[pc])[i]? =some q->(i<tk.length/\tk[i]? =some q)\/(i=tk.length/\q=pc):=fun i q hi=>by
  rcases Nat.lt_trichotomy i tk.length with bN|dh|x8
  ·rw[List.getElem?_append_left bN] at hi;exact .inl ⟨bN,hi⟩
  ·subst dh;simp at hi;exact .inr ⟨rfl,hi.symm⟩
  ·rw[List.getElem?_eq_none (by simp;omega)] at hi;cases hi
 refine⟨H.iq,H.f8,H.box,H.row,H.own,H.inj,H.fk,H.oH,H.e7,H.live,fun i q hi=>?_,fun i j q q' b jC hi hj hb=>?_,fun i q n gr m sz xs b hi hn hm hb=>?_⟩
 ·rcases e i q hi with⟨_,hi⟩|⟨_,rfl⟩
  ·exact H.qh i q hi
  ·exact⟨h1,h2⟩
 ·rcases e i q hi with⟨_,hi'⟩|⟨ei,eq⟩
  ·rcases e j q' hj with⟨_,jD⟩|⟨_,V4⟩
   ·exact H.uK i j q q' b jC hi' jD hb
   ·rw[V4];exact h3 i q b hi' hb
  ·rcases e j q' hj with⟨_,jD⟩|⟨ej,V4⟩
   ·rw[eq] at hb;exact fun aU=>h3 j q' b jD aU hb
   ·omega
 ·rcases e i q hi with⟨_,hi⟩|⟨_,rfl⟩
  ·exact H.qi i q n gr m sz xs b hi hn hm hb
  ·exact h4 n gr m sz xs b hn hm hb
theorem Sep.kx {pc:PC} (hs:pc.er.dR=true):Sep pc/\∀b,¬aN b pc:=by
 cases pc with
 |int k n=>exact⟨.int k n,fun b hb=>by cases hb⟩
 |bool b=>exact⟨.bool b,fun b hb=>by cases hb⟩
 |list sz a cap xs=>simp[PC.df,C.dR] at hs
theorem ph {n m:Nat} {b:ar} (hm:av h n none m=some b):h m=some b/\m≠n:=by
 by_cases bu:m=n
 ·subst bu;rw[bw] at hm;cases hm
 ·rw[bS _ _ _ _ bu] at hm;exact⟨hm,bu⟩
theorem zP {n m:Nat} (hm:av h n none m≠none):h m≠none/\m≠n:=by
 cases hh:av h n none m with
 |none=>exact absurd hh hm
 |some b=>obtain⟨a,b⟩:=ph hh;exact⟨by rw[a];simp,b⟩
def KE (p:PB):Nat->Prop:=fun b=>(p.nl=false/\b=p.b)\/aR b p.px
theorem HR.freeze (H:HR B E w G h used tk) {n:Nat} {gr:Bool} {m:Mode} {rs:Nat} {xs:List (List C)} (hn:h n=some (.row gr m rs xs)):
  HR B E w ⟨fun b=>G.Im b\/KE (G.g n) b,G.g⟩ (av h n none) used tk:=by
 have hr:=H.row n gr m rs xs hn
 have bF:h n≠none:=by rw[hn];simp
 have gf:∀b,aR b (G.g n).px->G.Im b\/m=.live:=fun b hb=>by
  have hm:=hr.mode
  cases m with
  |aE=>exact .inl (hm b hb)
  |aa=>exact .inl (hm.1 b hb).1
  |live=>exact .inr rfl
 refine(H.del n).pI (KE (G.g n)) (fun b hb=>?_) (fun b hb q hq hl=>?_) (fun b hb q bf aK au hq bW=>?_) (fun b hb=>?_)
 ·rcases hb with⟨h1,rfl⟩|hb
  ·exact(H.own n bF h1).2.2
  ·exact H.qd hn hb
 ·obtain⟨kV,eS⟩:=zP hq
  rcases hb with⟨h1,rfl⟩|hb
  ·exact H.inj n q bF kV (Ne.symm eS) h1 hl
  ·rcases gf b hb with hi|rfl
   ·rintro rfl;exact(H.own q kV hl).1 hi
   ·exact H.live n gr rs xs hn b hb q kV hl
 ·obtain⟨kV,eS⟩:=ph hq
  rcases hb with⟨h1,rfl⟩|hb
  ·exact H.live q bf aK au kV _ bW n bF h1 rfl
  ·rcases gf b hb with hi|rfl
   ·exact((H.row q bf .live aK au kV).mode.1 b bW).1 hi
   ·exact H.e7 n q gr .live rs xs bf .live aK au hn kV (by simp) (by simp) (Ne.symm eS) b hb bW
 ·rcases hb with⟨h1,rfl⟩|hb
  ·exact(H.own n bF h1).2.1.imp id .inl
  ·rcases gf b hb with hi|rfl
   ·exact H.oH b hi
   ·exact(hr.mode.1 b hb).2.2.imp id .inl
theorem gI.sub {px:List (List PC)} (hs:gI px) (lo len:Nat):gI ((px.drop lo).take len):=by
 refine⟨fun k j c hk=>hs.1 _ _ _ (n7 hk).1,fun k j c k' j' c' b hk cM aA hb=>hs.2 _ _ _ _ _ _ b (n7 hk).1 (n7 cM).1 (fun e=>aA ?_) hb⟩
 injection e with e1 e2
 rw[show k=k' by omega,e2]
theorem HR.fu {σ σ1:St} (H:HR B E w G σ.h σ.used tk) {c:ah} {x:C} {o:Bool} {v:Value} (hx:σ.fu c=some (x,o,σ1)) (hc:RC w G σ.h c v):
  ∃(Im':Nat->Prop) (pc:PC),pc.er=x/\pc.val=v/\Good w pc/\(∀b,aN b pc->Im' b)/\
   HR B E w ⟨Im',G.g⟩ σ1.h σ.used (if o=true then tk++[pc] else tk)/\aV w G σ.h (fun n=>σ.used n=true) w ⟨Im',G.g⟩ σ1.h/\σ1.env=σ.env/\σ1.used=σ.used/\
   (∀n b,σ1.h n=some b->σ.h n=some b):=by
 cases c with
 |c y=>
  simp only[St.fu] at hx
  injection hx with hx
  injection hx with kZ dK
  injection dK with dK oy
  subst kZ dK oy
  obtain⟨pc,h1,h2,h3,h4⟩:=hc
  refine⟨G.Im,pc,h1,h2,h3,h4,?_,aV.refl _ _ _ _,rfl,rfl,fun _ _ h=>h⟩
  by_cases hs:y.dR=true
  ·rw[if_pos hs]
   obtain⟨s1,s2⟩:=Sep.kx (pc:=pc) (by rw[h1];exact hs)
   exact H.Uq s1 (fun b hb=>absurd hb (s2 b)) (fun _ _ b _ _=>s2 b) (fun _ _ _ _ _ b _ _ hb=>absurd hb (s2 b))
  ·rw[if_neg hs];exact H
 |nil sz=>
  simp only[St.fu] at hx
  split at hx
  ·rename_i d9
   injection hx with hx
   injection hx with kZ dK
   injection dK with dK oy
   subst kZ dK oy
   have cz:v=.slice none 0 0:=hc
   subst cz
   have ca:∀b,¬aN b (.list sz none 0 []):=fun b hb=>by
    rw[aN.jP] at hb
    rcases hb with⟨hb,_⟩|⟨k,j,c,⟨e,he,_⟩,_⟩
    ·exact absurd rfl hb
    ·simp at he
   refine⟨G.Im,.list sz none 0 [],by simp[PC.df],rfl,.nil _ _ _ d9,fun b hb=>absurd hb (ca b),?_,aV.refl _ _ _ _,rfl,rfl,fun _ _ h=>h⟩
   rw[if_pos rfl]
   refine H.Uq (.list _ _ _ _ ?_ ?_ ?_) (fun b hb=>absurd hb (ca b)) (fun _ _ b _ _=>ca b) (fun _ _ _ _ _ b _ _ hb=>absurd hb (ca b))
   ·rintro k j c ⟨e,he,_⟩;simp at he
   ·rintro b o k j c _ ⟨e,he,_⟩;simp at he
   ·rintro k j c k' j' c' b ⟨e,he,_⟩;simp at he
  ·cases hx
 |sl n sz lo len=>
  simp only[St.fu] at hx
  split at hx
  ·rename_i gr m rs xs hn
   split at hx
   ·rename_i cd
    obtain⟨rfl,rfl,kb⟩:=cd
    injection hx with hx
    injection hx with kZ dK
    injection dK with dK oy
    subst kZ dK oy
    have hl:0+len<=xs.length:=by omega
    have bF:σ.h n≠none:=by rw[hn];simp
    have hs:jc (G.g n) rs 0 len v:=hc bF
    have hr:=H.row n gr m rs xs hn
    obtain⟨a1,a2,a3,a4⟩:=EM hr hs hl
    have HF:=H.freeze hn
    have K1:aV w G σ.h (fun n=>σ.used n=true) w ⟨fun b=>G.Im b\/KE (G.g n) b,G.g⟩ (av σ.h n none):=
     aV.trans (fun _ h=>h) (aV.del n (fun n=>σ.used n=true)) (aV.pI (KE (G.g n)) (fun n=>σ.used n=true))
    refine⟨_,jQ (G.g n) rs 0 len v,by simpa using a1,a2,a3,fun b hb=>.inr (a4 b hb),?_,K1,rfl,rfl,fun q b hq=>(ph hq).1⟩
    by_cases hm:m≠ .aE
    ·rw[if_pos (by simpa using hm)]
     have qP:(∀b,aR b (G.g n).px->da w b/\(B<=b\/E b))/\gI (G.g n).px/\(∀b,aR b (G.g n).px->(G.g n).nl=false->b≠(G.g n).b):=by
      have cA:=hr.mode
      cases m with
      |aE=>exact absurd rfl hm
      |aa=>exact⟨fun b hb=>(cA.1 b hb).2,cA.2,fun b hb hl dh=>(H.own n bF hl).1 (dh▸(cA.1 b hb).1)⟩
      |live=>exact⟨fun b hb=>(cA.1 b hb).2,cA.2,fun b hb hl=>H.live n gr rs xs hn b hb n bF hl⟩
     obtain⟨o1,o2,o3⟩:=qP
     refine HF.Uq ?_ (fun b hb=>⟨.inr (a4 b hb),?_⟩) (fun i q b hi hb aU=>?_) (fun q bf m' aK au b hq bz hb bW=>?_)
     ·
      rcases hs with⟨aL,rfl,_,rfl⟩|⟨aL,a,rfl,jA,ha⟩
      ·simp only[jQ]
       have hz:(List.take 0 (List.drop 0 (G.g n).px))=[]:=by simp
       rw[hz]
       refine .list _ _ _ _ ?_ ?_ ?_
       ·rintro k j c ⟨e,he,_⟩;simp at he
       ·rintro b o k j c _ ⟨e,he,_⟩;simp at he
       ·rintro k j c k' j' c' b ⟨e,he,_⟩;simp at he
      ·simp only[jQ]
       have Dw:=o2.sub 0 len
       refine .list _ _ _ _ Dw.1 (fun b o k j c eK hk hb=>?_) Dw.2
       have cM:=(n7 hk).1
       have Xp:0<len:=by have:=(n7 hk).2;omega
       have e:=ha (.inl (by omega))
       rw[e] at eK
       injection eK with eK
       exact o3 b ⟨_,_,_,cM,hb⟩ aL (nc eK).1.symm
     ·rcases a4 b hb with⟨dm,rfl⟩|aU
      ·exact⟨(hr.dq dm).1,(H.own n bF dm).2.1⟩
      ·exact o1 b aU
     ·rcases a4 b aU with⟨dm,rfl⟩|bW
      ·exact(H.own n bF dm).1 ((H.qh i q hi).2 _ hb).1
      ·exact H.qi i q n gr m rs xs b hi hn hm hb bW
     ·obtain⟨kV,eS⟩:=ph hq
      rcases a4 b hb with⟨dm,rfl⟩|aU
      ·have cA:=(H.row q bf m' aK au kV).mode
       cases m' with
       |aE=>exact absurd rfl bz
       |aa=>exact(H.own n bF dm).1 (cA.1 _ bW).1
       |live=>exact H.live q bf aK au kV _ bW n bF dm rfl
      ·exact H.e7 n q gr m rs xs bf m' aK au hn kV hm bz (Ne.symm eS) b aU bW
    ·rw[if_neg (by simpa using hm)]
     exact HF
   ·cases hx
  ·cases hx
 |ptr _ _ _ _=>simp[St.fu] at hx
 |bT _ _=>simp[St.fu] at hx
 |br _ _ _ _ _ _=>simp[St.fu] at hx
 |fn _ _=>simp[St.fu] at hx
 |cr _ _ _ _ _ _=>simp[St.fu] at hx
 |bg=>simp[St.fu] at hx
end
end Go.Am
end
section
namespace Go.Am
section
variable {B:Nat} {E:Ex} {w0 w w':World} {G G':Gh} {h h':Nat->Option ar} {used used':Nat->Bool} {tk:List PC}
theorem HR.eY:∀{cs:List ah} {σ σ1:St} {G:Gh} {tk:List PC} {xs:List C} {o:Bool} {vs:List Value},HR B E w G σ.h σ.used tk->σ.eY cs=some (xs,o,σ1)->cj w G σ.h cs vs->
  (∀c∈cs,∀m,c.ref m->σ.used m=true)->
  ∃(Im':Nat->Prop) (bo:List PC),bo.map PC.er=xs/\bo.map PC.val=vs/\(∀pc∈bo,Good w pc/\∀b,aN b pc->Im' b)/\
   HR B E w ⟨Im',G.g⟩ σ1.h σ.used (if o=true then tk++bo else tk)/\aV w G σ.h (fun n=>σ.used n=true) w ⟨Im',G.g⟩ σ1.h/\σ1.env=σ.env/\σ1.used=σ.used/\
   (∀n b,σ1.h n=some b->σ.h n=some b)
 |[],σ,σ1,G,tk,xs,o,vs,H,hx,hc,hr=>by
  simp only[St.eY] at hx
  injection hx with hx
  injection hx with kZ dK
  injection dK with dK oy
  subst kZ dK oy
  have:vs=[]:=List.eq_nil_of_length_eq_zero (by simpa using hc.1)
  subst this
  exact⟨G.Im,[],rfl,rfl,by simp,by simpa using H,aV.refl _ _ _ _,rfl,rfl,fun _ _ h=>h⟩
 |c::cs,σ,σ2,G,tk,xs,o,vs,H,hx,hc,hr=>by
  simp only[St.eY] at hx
  split at hx
  ·rename_i x o1 σ1 e1
   split at hx
   ·rename_i au o2 UK e2
    injection hx with hx
    injection hx with kZ dK
    injection dK with dK oy
    subst kZ dK oy
    obtain⟨hlen,bZ⟩:=hc
    match vs,hlen with
    |v::vs,hlen=>
     obtain⟨xl,pc,a1,a2,a3,a4,a5,a6,a7,a8,a9⟩:=H.fu e1 (bZ 0 c v rfl rfl).2
     have Da:cj w ⟨xl,G.g⟩ σ1.h cs vs:=cj.ek a6 (fun c' cz m hm=>hr c' (by simp[cz]) m hm) ⟨by simpa using hlen,fun j c u h1 h2=>bZ (j+1) c u h1 h2⟩
     rw[<-a8] at a5
     obtain⟨Cf,bo,b1,b2,b3,b4,b5,b6,b7,b8⟩:=HR.eY a5 e2 Da (fun c' cz m hm=>by rw[a8];exact hr c' (by simp[cz]) m hm)
     refine⟨Cf,pc::bo,by simp[a1,b1],by simp[a2,b2],fun q hq=>?_,?_,aV.trans (fun n hn=>by rw[a8];exact hn) a6 b5,b6.trans a7,b7.trans a8,fun n b hb=>a9 n b (b8 n b hb)⟩
     ·cases hq with
      |head=>exact⟨a3,fun b hb=>b5.im b (a4 b hb)⟩
      |tail _ hq=>exact b3 q hq
     ·rw[a8] at b4
      cases o1<;>cases o2<;>simp at b4⊢
      ·exact b4
      ·exact b4.wX
      ·exact b4.wX
      ·exact b4
   ·cases hx
  ·cases hx
theorem RA.cells {x:ai} {ag:Bool} {cs:List ah} {v:Value} (hx:x.cells?=some (ag,cs)) (hc:RA w G h x v):cj w G h cs v.cells.toList:=by
 cases x with
 |one c=>
  have hj:c≠ .bg/\ag=false/\cs=[c]:=by
   cases c<;>simp[ai.cells?] at hx<;>(obtain⟨rfl,rfl⟩:=hx;simp)
  obtain⟨h1,rfl,rfl⟩:=hj
  rcases hc with rfl|hc
  ·exact absurd rfl h1
  ·have cz:cj w G h [c] [v]:=hc
   have h1:=(cz.2 0 c v rfl rfl).1
   cases v<;>first|exact cz|(simp[Value.oneCell'] at h1)
 |agg cs'=>
  simp[ai.cells?] at hx
  obtain⟨rfl,rfl⟩:=hx
  obtain⟨vs,e,hl⟩:∃vs:List Value,v=.agg vs.toArray/\cj w G h cs' vs:=hc
  subst e
  exact hl
 |bj xs=>simp[ai.cells?] at hx
theorem ai.zI {x:ai} {ag:Bool} {cs:List ah} (hx:x.cells?=some (ag,cs)) {c:ah} (hc:c∈cs) {m:Nat} (hm:c.ref m):x.ref m:=by
 cases x with
 |one c'=>
  have hj:cs=[c']:=by
   cases c'<;>simp[ai.cells?] at hx<;>exact hx.2.symm
  subst hj
  simp at hc
  subst hc
  exact hm
 |agg cs'=>
  simp[ai.cells?] at hx
  obtain⟨_,rfl⟩:=hx
  exact⟨c,hc,hm⟩
 |bj xs=>simp[ai.cells?] at hx
theorem HR.kB {sz:Nat}:∀{xs:List ai} {σ σ1:St} {G:Gh} {tk:List PC} {es:List (List C)} {o:Bool} {vs:List Value},HR B E w G σ.h σ.used tk->σ.kB sz xs=some (es,o,σ1)->
  vs.length=xs.length->(∀(j:Nat) (x:ai) (v:Value),xs[j]? =some x->vs[j]? =some v->RA w G σ.h x v)->(∀x∈xs,∀m,x.ref m->σ.used m=true)->
  ∃(Im':Nat->Prop) (pes:List (List PC)),pes.map (fun e=>e.map PC.er)=es/\pes.map (fun e=>e.map PC.val)=vs.map (fun v=>v.cells.toList)/\(∀e∈pes,e.length=sz)/\
   (∀e∈pes,∀pc∈e,Good w pc/\∀b,aN b pc->Im' b)/\
   HR B E w ⟨Im',G.g⟩ σ1.h σ.used (if o=true then tk++pes.flatten else tk)/\aV w G σ.h (fun n=>σ.used n=true) w ⟨Im',G.g⟩ σ1.h/\σ1.env=σ.env/\σ1.used=σ.used/\
   (∀n b,σ1.h n=some b->σ.h n=some b)
 |[],σ,σ1,G,tk,es,o,vs,H,hx,hl,hc,hr=>by
  simp only[St.kB] at hx
  injection hx with hx
  injection hx with kZ dK
  injection dK with dK oy
  subst kZ dK oy
  have:vs=[]:=List.eq_nil_of_length_eq_zero (by simpa using hl)
  subst this
  exact⟨G.Im,[],rfl,rfl,by simp,by simp,by simpa using H,aV.refl _ _ _ _,rfl,rfl,fun _ _ h=>h⟩
 |x::xs,σ,σ2,G,tk,es,o,vs,H,hx,hl,hc,hr=>by
  simp only[St.kB] at hx
  split at hx
  ·rename_i ag cs jw
   split at hx
   ·rename_i bA
    split at hx
    ·rename_i e o1 σ1 e1
     split at hx
     ·rename_i es' o2 UK e2
      injection hx with hx
      injection hx with kZ dK
      injection dK with dK oy
      subst kZ dK oy
      match vs,hl with
      |v::vs,hl=>
       have bI:=(hc 0 x v rfl rfl).cells jw
       obtain⟨xl,bo,a1,a2,a3,a5,a6,a7,a8,a9⟩:=H.eY e1 bI (fun c' cz m hm=>hr x (by simp) m (ai.zI jw cz hm))
       rw[<-a8] at a5
       obtain⟨Cf,pes,b1,b2,b3,b3',b4,b5,b6,b7,b8⟩:=HR.kB (xs:=xs) (vs:=vs) a5 e2 (by simpa using hl)
        (fun j x v h1 h2=>(hc (j+1) x v h1 h2).ek a6 (fun m hm=>hr x (by simp[List.mem_of_getElem? h1]) m hm)) (fun x' eg m hm=>by rw[a8];exact hr x' (by simp[eg]) m hm)
       refine⟨Cf,bo::pes,by simp[a1,b1],by simp[a2,b2],fun q hq=>?_,fun q hq pc aZ=>?_,?_,aV.trans (fun n hn=>by rw[a8];exact hn) a6 b5,b6.trans a7,b7.trans a8,fun n b hb=>a9 n b (b8 n b hb)⟩
       ·cases hq with
        |head=>
         have:(bo.map PC.er).length=(v.cells.toList).length:=by rw[<-a2];simp
         have h2:=bI.1
         simp at this
         simp at h2
         omega
        |tail _ hq=>exact b3 q hq
       ·cases hq with
        |head=>exact⟨(a3 pc aZ).1,fun b hb=>b5.im b ((a3 pc aZ).2 b hb)⟩
        |tail _ hq=>exact b3' q hq pc aZ
       ·rw[a8] at b4
        cases o1<;>cases o2<;>simp at b4⊢
        ·exact b4
        ·exact b4.wX
        ·exact b4.wX
        ·exact b4
     ·cases hx
    ·cases hx
   ·cases hx
  ·cases hx
def iF (b:Nat) (pc:PC):Prop:=aN b pc\/∃sz o cap xs,pc=.list sz (some (ad b o)) cap xs/\cap≠0
def Co (w:World):PC->Prop
 |.list sz a cap xs=>0<sz/\xs.length<=cap/\(cap=0\/∃b o cur e,a=some (ad b o)/\w.heap[b]? =some (.cells cur e (0,0))/\cur.size=o+cap*sz/\cap<=maxLen/\∀k j c,At xs k j c->¬aN b c)
 |_=>True
structure Cl (w:World) (B':Nat) (ps:List PC):Prop where
 dF:∀pc∈ps,Good w pc/\Sep pc/\Co w pc
 new:∀pc∈ps,∀b,iF b pc->B'<=b/\da w b
 mz:∀(i j:Nat) (pc cR:PC) (b:Nat),i≠j->ps[i]? =some pc->ps[j]? =some cR->iF b pc->¬iF b cR
def qc:K×List PC->Value
 |(.one,[pc])=>pc.val
 |(_,bo)=>.agg (bo.map PC.val).toArray
def wK:List (K×List PC)->Value
 |[p]=>qc p
 |l=>.tuple (l.map qc).toArray
def cJ (P:Program) (f:FuncId) (M:List Dv->Option (List Dv)):Prop:=
 ∀ds rs,M ds=some rs->∀(w:World) (vals:List Value),Fi w ds vals->Calls P f vals.toArray w fun e w'=>
  ∃aO:List (K×List PC),aO.map (fun p=>(p.1,p.2.map PC.er))=rs/\e=.returned (wK aO)/\(∀p∈aO,p.1≠ .ptr/\(p.1=.one->p.2.length=1))/\
   Cl w' w.heap.size (aO.flatMap (·.2))/\Fr w.heap.size Ex.no w w'
end
end Go.Am
end
section
namespace Go.Am
section
variable {B:Nat} {E:Ex} {w0 w w':World} {G G':Gh} {h h':Nat->Option ar} {used used':Nat->Bool} {tk:List PC} {N:Nat}
def n3 (G:Gh) (h:Nat->Option ar) (b:Nat):Prop:=
 ¬G.Im b/\(∀n,h n≠none->(G.g n).nl=false->(G.g n).b≠b)/\∀n gr m sz xs,h n=some (.row gr m sz xs)->¬aR b (G.g n).px
theorem HR.PN (H:HR B E w G h used tk):n3 G h w.heap.size:=
 ⟨fun hi=>Nat.lt_irrefl _ (H.fk _ hi),fun n hn hl he=>by have:=(H.own n hn hl).2.2;omega,fun n gr m sz xs hn hb=>Nat.lt_irrefl _ (H.qd hn hb)⟩
def acb (B:Nat) (E:Ex) (w w':World) (G:Gh) (h:Nat->Option ar) (p:PB):ar->Prop
 |.box cs=>p.nl=false/\da w' p.b/\∀(j:Nat) (c:ah),cs[j]? =some c->∃v,w'.cell? (ad p.b (p.o+j))=some v/\v.oneCell'=true/\RC w G h c v
 |.row gr m sz xs=>tj B E w' G gr m sz xs p
theorem aV.insert (H:HR B E w G h used tk) {n:Nat} {blk:ar} {p:PB} (hn:used n=false) (hw:∀b,b<w.heap.size->w'.heap[b]? =w.heap[b]?):
  aV w G h (fun n=>used n=true) w' ⟨G.Im,av G.g n p⟩ (av h n (some blk)):=by
 have ne:∀m,used m=true->m≠n:=fun m hm e=>by subst e;rw[hn] at hm;cases hm
 refine⟨fun _ h=>h,fun b hb o=>gW (hw b (H.fk b hb)) o,fun m hm h0=>?_,fun m gr sz xs hm h0=>?_⟩
 ·rw[bS _ _ _ _ (ne m hm)] at h0
  simp only[bS _ _ _ _ (ne m hm)]
  exact⟨h0,trivial,trivial,trivial,trivial,trivial⟩
 ·rw[bS _ _ _ _ (ne m hm)] at h0
  simp only[bS _ _ _ _ (ne m hm)]
  exact⟨⟨gr,xs,h0⟩,fun k j pc h1 h2=>⟨pc,h1,rfl,h2⟩⟩
theorem HR.insert (H:HR B E w G h used tk) {n:Nat} {blk:ar} {p:PB} (hn:used n=false) (hw:∀b,b<w.heap.size->w'.heap[b]? =w.heap[b]?) (bA:w.heap.size<=w'.heap.size)
  (hl:p.nl=false->n3 G h p.b/\(B<=p.b\/E p.b)/\p.b<w'.heap.size)
  (vO:∀cs c m,blk=.box cs->c∈cs->c.ref m->used m=true)
  (gx:acb B E w w' G h p blk)
  (HY:∀gr m sz xs,blk=.row gr m sz xs->m≠ .aE->∀n' bf m' aK au,h n'=some (.row bf m' aK au)->m'≠ .aE->∀b,aR b p.px->¬aR b (G.g n').px)
  (rW:∀gr sz xs,blk=.row gr .live sz xs->∀b,aR b p.px->(p.nl=false->b≠p.b)/\∀n',h n'≠none->(G.g n').nl=false->b≠(G.g n').b)
  (An:∀gr m sz xs,blk=.row gr m sz xs->m≠ .aE->∀(i:Nat) (pc:PC) (b:Nat),tk[i]? =some pc->aN b pc->¬aR b p.px):
  HR B E w' ⟨G.Im,av G.g n p⟩ (av h n (some blk)) (av used n true) tk:=by
 have K:=aV.insert H (blk:=blk) (p:=p) hn hw
 have NE:h n=none:=by
  cases hh:h n with
  |none=>rfl
  |some b=>have:=H.iq n (by rw[hh];simp);rw[hn] at this;cases this
 have aA:∀m,h m≠none->m≠n:=fun m hm e=>by subst e;exact hm NE
 have hu:∀m,used m=true->av used n true m=true:=fun m hm=>by
  simp only[iE];split
  ·rfl
  ·exact hm
 refine H.put (fun b hb _=>hw b hb) bA (fun b hb hU=>hU.congr (hw b hb)) hu (bw _ _ _) (fun hp=>⟨(hl hp).1.1,(hl hp).2⟩) (fun hp m hm h0 kb=>(hl hp).1.2.1 m h0 kb)
  (fun hp m gr sz xs hm h0 b hb he=>(hl hp).1.2.2 m gr _ sz xs h0 (he▸hb)) (fun cs c m hb hc hr=>hu m (vO cs c m hb hc hr)) K ?_
  (fun gr m sz xs hb hm n' bf m' aK au _ h0=>HY gr m sz xs hb hm n' bf m' aK au h0) (fun gr sz xs hb b bW=>⟨(rW gr sz xs hb b bW).1,fun n' _=>(rW gr sz xs hb b bW).2 n'⟩) An
  (fun hp _ b hb he=>by obtain⟨m,gr,mo,sz,xs,_,h0,bW⟩:=hb;exact(hl hp).1.2.2 m gr mo sz xs h0 (he▸bW))
 cases blk with
 |box cs=>
  obtain⟨a1,a2,a3⟩:=gx
  refine⟨a1,a2,fun j c hj=>?_⟩
  obtain⟨v,b1,b2,b3⟩:=a3 j c hj
  exact⟨v,b1,b2,b3.ek K fun m hm=>vO cs c m rfl (List.mem_of_getElem? hj) hm⟩
 |row gr m sz xs=>
  have hr:tj B E w' G gr m sz xs p:=gx
  exact⟨hr.pos,hr.er,hr.nl,hr.dq,hr.room,by
   have:=hr.mode
   cases m<;>exact this⟩
theorem R.put {σ:St} {a:Act} (r:R B E w0 N σ a w G) {x:ai} {v:Value} (hv:RA w G σ.h x v) (hr:∀m,x.ref m->σ.used m=true) {d:Option Nat} (hd:∀n,d=some n->n<N):
  R B E w0 N (σ.put d x) (a.put d v) w G:=by
 cases d with
 |none=>exact r
 |some n=>
  have hn:=hd n rfl
  refine⟨r.defers,by simp[Act.put,r.size],fun s=>?_,fun s m hm=>?_,r.hr,r.fr,r.pV,r.yO⟩
  ·simp only[St.put,Act.put]
   by_cases hs:s=n
   ·subst hs
    rw[bw]
    have:(a.tmps.setIfInBounds s v).getD s undef=v:=by
     simp[Array.getD_eq_getD_getElem?,r.size,hn]
    rw[this]
    exact hv
   ·rw[bS _ _ _ _ hs]
    have:(a.tmps.setIfInBounds n v).getD s undef=a.tmps.getD s undef:=by
     simp[Array.getD_eq_getD_getElem?,Array.getElem?_setIfInBounds_ne (Ne.symm hs)]
    rw[this]
    exact r.env s
  ·simp only[St.put] at hm⊢
   by_cases hs:s=n
   ·subst hs;rw[bw] at hm;exact hr m hm
   ·rw[bS _ _ _ _ hs] at hm;exact r.ru s m hm
theorem R.step {σ:St} {a:Act} (r:R B E w0 N σ a w G) {σ':St} (he:σ'.env=σ.env) (hu:∀m,σ.used m=true->σ'.used m=true) (K:aV w G σ.h (fun n=>σ.used n=true) w' G' σ'.h)
  (H:HR B E w' G' σ'.h σ'.used []) (F:Fr B E w0 w'):R B E w0 N σ' a w' G':=
 ⟨r.defers,r.size,fun s=>by rw[he];exact(r.env s).ek K (fun m hm=>r.ru s m hm),fun s m hm=>by rw[he] at hm;exact hu m (r.ru s m hm),H,F,
  fun n p b hp hb=>by
   have Aq:=r.yO n (E.lt n p hp)
   obtain⟨k0,k1,k2,k3,k4,k6⟩:=K.name n Aq (by rw[hb];simp)
   cases h0:σ.h n with
   |none=>exact absurd h0 k0
   |some b0=>
    obtain⟨p1,p2,p3,p4,p6,p5⟩:=r.pV n p b0 hp h0
    refine⟨k1.trans p1,k2.trans p2,k3.trans p3,k4.trans p4,k6.trans p6,fun gr sz xs C7 k j pc hk hL=>?_⟩
    subst C7
    obtain⟨⟨xS,jX,e0⟩,hl⟩:=K.live n gr sz xs Aq hb
    rw[h0] at e0
    injection e0 with e0
    obtain⟨pc1,q1,q2,q3⟩:=p5 xS sz jX e0 k j pc hk hL
    obtain⟨pc2,q4,q5,q6⟩:=hl k j pc1 q1 q3
    exact⟨pc2,q4,q5.trans q2,q6⟩,
  fun n hn=>hu n (r.yO n hn)⟩
end
def GY:Value->ah->Bool
 |.int k n,.c (.int k' n')=>decide (k=k')&&decide (n=n')
 |.bool b,.c (.bool b')=>decide (b=b')
 |.slice none 0 0,.nil sz=>true
 |.pointer none,.bg=>true
 |_,_=>false
def rK:List Value->List ah->Bool
 |[],[]=>true
 |v::vs,c::cs=>GY v c&&rK vs cs
 |_,_=>false
def bq:Operand->MO->Bool
 |.tmp n,.t m=>n==m
 |.const (.agg vs),.k (.agg cs)=>rK vs.toList cs
 |.const v,.k (.one c)=>GY v c
 |_,_=>false
section
variable {B:Nat} {E:Ex} {w0 w w':World} {G G':Gh} {h h':Nat->Option ar} {used used':Nat->Bool} {tk:List PC} {N:Nat}
theorem Vu {v:Value} {c:ah} (hc:GY v c=true):RC w G h c v/\v.oneCell'=true/\∀m,¬c.ref m:=by
 unfold GY at hc
 split at hc
 ·simp at hc
  obtain⟨rfl,rfl⟩:=hc
  exact⟨⟨.int _ _,rfl,rfl,.int _ _,fun b hb=>by cases hb⟩,rfl,fun m hm=>hm⟩
 ·simp at hc
  subst hc
  exact⟨⟨.bool _,rfl,rfl,.bool _,fun b hb=>by cases hb⟩,rfl,fun m hm=>hm⟩
 ·exact⟨rfl,rfl,fun m hm=>hm⟩
 ·exact⟨trivial,rfl,fun m hm=>hm⟩
 ·cases hc
theorem GZ:∀{vs:List Value} {cs:List ah},rK vs cs=true->cj w G h cs vs/\∀c∈cs,∀m,¬c.ref m
 |[],[],_=>⟨⟨rfl,by simp⟩,by simp⟩
 |v::vs,c::cs,hc=>by
  simp only[rK,Bool.and_eq_true] at hc
  obtain⟨a1,a2,a3⟩:=Vu (w:=w) (G:=G) (h:=h) hc.1
  obtain⟨⟨b1,b2⟩,b3⟩:=GZ hc.2
  refine⟨⟨by simp[b1],fun j c' u hj hu=>?_⟩,fun c' cz=>?_⟩
  ·cases j with
   |zero=>simp at hj hu;subst hj;subst hu;exact⟨a2,a1⟩
   |succ j=>exact b2 j c' u (by simpa using hj) (by simpa using hu)
  ·cases cz with
   |head=>exact a3
   |tail _ cz=>exact b3 c' cz
 |[],_::_,hc=>by simp[rK] at hc
 |_::_,[],hc=>by simp[rK] at hc
theorem RV.fQ {c:ah} {v:Value} (h1:v.oneCell'=true) (h2:RC w G h c v):RV w G h false [c] v:=by
 show cj w G h [c] [v]
 exact⟨rfl,fun j c' u hj hu=>by
  cases j with
  |zero=>simp at hj hu;subst hj;subst hu;exact⟨h1,h2⟩
  |succ j=>simp at hj⟩
theorem RA.fQ {c:ah} {v:Value} (h1:v.oneCell'=true) (h2:RC w G h c v):RA w G h (.one c) v:=.inr (RV.fQ h1 h2)
theorem R.ev {σ:St} {a:Act} (r:R B E w0 N σ a w G) {x:Operand} {m:MO} (hc:bq x m=true):RA w G σ.h (σ.ev m) (a.eval x)/\∀n,(σ.ev m).ref n->σ.used n=true:=by
 unfold bq at hc
 split at hc
 ·simp at hc
  subst hc
  exact⟨r.env _,fun n hn=>r.ru _ n hn⟩
 ·rename_i vs cs
  obtain⟨b1,b2⟩:=GZ (w:=w) (G:=G) (h:=σ.h) hc
  exact⟨⟨vs.toList,by simp[Act.eval],b1⟩,fun n hn=>by obtain⟨c,hc,hm⟩:=hn;exact absurd hm (b2 c hc n)⟩
 ·obtain⟨a1,a2,a3⟩:=Vu (w:=w) (G:=G) (h:=σ.h) hc
  exact⟨RA.fQ a2 a1,fun n hn=>absurd hn (a3 n)⟩
 ·cases hc
theorem m6 {P:Program} {o:Oper} {a:Act} {v:Value} {K:Act->World->Prop} {Q:Exit->Act->World->Prop} (hr:(execOp a.eval o).run P w=.ok (.value v) w') (hK:K (a.put o.dst v) w'):o.wp P a w K Q:=by
 unfold Oper.wp
 rw[hr]
 exact hK
theorem KM {P:Program} {o:Oper} {a:Act} {K:Act->World->Prop} {Q:Exit->Act->World->Prop} (hr:(execOp a.eval o).run P w=.ok .skip w') (hK:K (a.put o.dst undef) w'):o.wp P a w K Q:=by
 unfold Oper.wp
 rw[hr]
 exact hK
end
end Go.Am
end
section
namespace Go.Am
section
variable {B:Nat} {E:Ex} {w0 w w':World} {G G':Gh} {h h':Nat->Option ar} {used used':Nat->Bool} {tk:List PC} {N:Nat}
variable {P:Program} {o:Oper} {a:Act} {σ σ':St} {Q:Exit->Act->World->Prop}
def Nx (B:Nat) (E:Ex) (w0:World) (N:Nat) (σ:St):Act->World->Prop:=fun a w=>∃G,R B E w0 N σ a w G
theorem Ly (w:World) (ob:Obj) (b:Nat) (hb:b<w.heap.size):(w.alloc ob).heap[b]? =w.heap[b]? :=heap_alloc_old w ob b hb
theorem da.alloc (w:World) (arr:Array Value) (e:TypeId):da (w.alloc (.cells arr e)) w.heap.size:=⟨arr,e,heap_alloc_new w _⟩
theorem lO {σ1:St} {n:Nat} {b:ar} (hx:σ.ins n b=some σ1):σ.used n=false/\σ1={σ with h:=av σ.h n (some b),used:=av σ.used n true}:=by
 unfold St.ins at hx
 split at hx
 ·cases hx
 ·rename_i hu
  injection hx with hx
  exact⟨by simpa using hu,hx.symm⟩
theorem qj (n m:Nat) (hm:used m=true):av used n true m=true:=by
 simp only[iE];split
 ·rfl
 ·exact hm
theorem R.ZO (r:R B E w0 N σ a w G) {n:Nat} {cs:List ah} {vs:List Value} {e:TypeId} (hn:σ.used n=false) (hc:cj w G σ.h cs vs) (g0:∀c∈cs,∀m,c.ref m->σ.used m=true):
  ∃G',R B E w0 N {σ with h:=av σ.h n (some (.box cs)),used:=av σ.used n true} a (w.alloc (.cells vs.toArray e)) G'/\
   RA (w.alloc (.cells vs.toArray e)) G' (av σ.h n (some (.box cs))) (.one (.ptr n 0 0 0)) (.pointer (some (ad w.heap.size 0))):=by
 have H:=r.hr
 have hB:=r.fr.size
 have hw:=Ly w (.cells vs.toArray e)
 refine⟨⟨G.Im,av G.g n ⟨false,w.heap.size,0,0,[],none⟩⟩,r.step rfl (fun m hm=>qj n m hm) (aV.insert H hn hw) ?_ (r.fr.grow hw (by simp) rfl rfl rfl),?_⟩
 ·refine H.insert hn hw (by simp) (fun _=>⟨H.PN,.inl hB,by simp⟩) (fun cs' c m hb cz hm=>?_) ⟨rfl,da.alloc _ _ _,fun j c hj=>?_⟩ (fun gr m sz xs hb=>by cases hb) (fun gr sz xs hb=>by cases hb) (fun gr m sz xs hb=>by cases hb)
  ·injection hb with hb;subst hb;exact g0 c cz m hm
  ·have tO:j<vs.length:=by rw[hc.1];exact(List.getElem?_eq_some_iff.1 hj).1
   have hv:vs[j]? =some vs[j]:=List.getElem?_eq_getElem tO
   obtain⟨q1,q2⟩:=hc.2 j c _ hj hv
   refine⟨vs[j],?_,q1,q2⟩
   simp only[Nat.zero_add]
   unfold ad
   rw[World.cell?_alloc_new]
   simp only[List.getElem?_toArray];exact hv
 ·exact RA.fQ rfl fun _=>by simp[bw]
theorem adp (r:R B E w0 N σ a w G) {n:Nat} {e:TypeId} {i:TypeInfo} {z:Value} {zs:List ah} {σ1:St} (ho:o.op=.alloc e) (hd:o.dst=some n) (hN:n<N)
  (hi:P.info? e=some i) (hz:i.zero=some z) (hc:rK z.cells.toList zs=true) (hx:σ.ins n (.box zs)=some σ1):
  o.wp P a w (Nx B E w0 N (σ1.put o.dst (.one (.ptr n 0 0 0)))) Q:=by
 obtain⟨hn,rfl⟩:=lO hx
 obtain⟨bI,g0⟩:=GZ (w:=w) (G:=G) (h:=σ.h) hc
 obtain⟨G',r',hv⟩:=r.ZO (e:=e) hn bI (fun c hc m hm=>absurd hm (g0 c hc m))
 have bm:(execOp a.eval o).run P w=.ok (.value (.pointer (some (ad w.heap.size 0)))) (w.alloc (.cells z.cells.toList.toArray e)):=by
  simp[execOp,ho,Instr.alloc,zeroValue,typeInfo,hi,hz,newVar,newRow,ad]
 exact m6 bm ⟨G',r'.put hv (fun m hm=>by have bz:m=n:=hm;subst bz;exact bw _ _ _) (fun m hm=>by rw[hd] at hm;injection hm with hm;omega)⟩
theorem adu (r:R B E w0 N σ a w G) {n:Nat} {e:TypeId} {x:Operand} {m:MO} {ag:Bool} {cs:List ah} {σ1:St} (ho:o.op=.box e x) (hd:o.dst=some n) (hN:n<N)
  (hm:bq x m=true) (dG:(σ.ev m).cells?=some (ag,cs)) (hx:σ.ins n (.box cs)=some σ1):
  o.wp P a w (Nx B E w0 N (σ1.put o.dst (.one (.ptr n 0 0 0)))) Q:=by
 obtain⟨hn,rfl⟩:=lO hx
 obtain⟨hv,g0⟩:=r.ev hm
 obtain⟨G',r',fi⟩:=r.ZO (e:=e) hn (hv.cells dG) (fun c hc q hq=>g0 q (ai.zI dG hc hq))
 have bm:(execOp a.eval o).run P w=.ok (.value (.pointer (some (ad w.heap.size 0)))) (w.alloc (.cells (a.eval x).cells.toList.toArray e)):=by
  simp[execOp,ho,Instr.box,newVar,newRow,ad]
 exact m6 bm ⟨G',r'.put fi (fun q hq=>by have dH:q=n:=hq;subst dH;exact bw _ _ _) (fun q hq=>by rw[hd] at hq;injection hq with hq;omega)⟩
theorem tq {α:Type} {sz:Nat}:∀{px:List (List α)} (_:∀e∈px,e.length=sz) {k j:Nat} {c:α},At px k j c->px.flatten[k*sz+j]? =some c
 |[],_,k,j,c,hk=>by obtain⟨e,he,_⟩:=hk;simp at he
 |e::px,hl,k,j,c,hk=>by
  obtain⟨e',he,hj⟩:=hk
  have h0:=hl e (by simp)
  cases k with
  |zero=>
   simp at he
   subst he
   have tO:=(List.getElem?_eq_some_iff.1 hj).1
   simp only[List.flatten_cons,Nat.zero_mul,Nat.zero_add]
   rw[List.getElem?_append_left tO]
   exact hj
  |succ k=>
   have ih:=tq (px:=px) (fun e he=>hl e (by simp[he])) (k:=k) (j:=j) (c:=c) ⟨e',by simpa using he,hj⟩
   simp only[List.flatten_cons]
   rw[List.getElem?_append_right (by rw[h0,Nat.add_mul];omega)]
   rw[show(k+1)*sz+j - e.length=k*sz+j by rw[h0,Nat.add_mul];omega]
   exact ih
structure Cj (B:Nat) (E:Ex) (w:World) (G:Gh) (h:Nat->Option ar) (m:Mode) (pes:List (List PC)):Prop where
 np:∀b,aR b pes->G.Im b/\da w b/\(B<=b\/E b)
 sep:gI pes
 e7:∀n gr m sz xs,h n=some (.row gr m sz xs)->m≠ .aE->∀b,aR b pes->¬aR b (G.g n).px
 kind:m=.aa\/∀b,¬aR b pes
theorem acp {α:Type} {sz:Nat} (bA:0<sz) {pes:List (List α)} (hl:∀e∈pes,e.length=sz) {k j k' j':Nat} {c c':α} (h1:At pes k j c) (h2:At pes k' j' c') (aA:(k,j)≠(k',j')):k*sz+j≠k'*sz+j':=by
 intro dh
 have hj:j<sz:=by obtain⟨e1,he,hj⟩:=h1;rw[<-hl e1 (List.mem_of_getElem? he)];exact(List.getElem?_eq_some_iff.1 hj).1
 have jD:j'<sz:=by obtain⟨e1,he,hj⟩:=h2;rw[<-hl e1 (List.mem_of_getElem? he)];exact(List.getElem?_eq_some_iff.1 hj).1
 have hk:k=k':=by
  have h3:(k*sz+j)/sz=k:=by rw[Nat.mul_comm,Nat.mul_add_div bA,Nat.div_eq_of_lt hj];omega
  have h4:(k'*sz+j')/sz=k':=by rw[Nat.mul_comm,Nat.mul_add_div bA,Nat.div_eq_of_lt jD];omega
  rw[dh] at h3
  omega
 subst hk
 exact aA (by rw[show j=j' by omega])
theorem HR.alT {pes:List (List PC)} {sz:Nat} (bA:0<sz) (hl:∀e∈pes,e.length=sz) (H:HR B E w G h used pes.flatten):Cj B E w G h .aa pes:=by
 refine⟨?_,⟨fun k j c hk=>(H.qh _ c (tq hl hk)).1,fun k j c k' j' c' b hk cM aA hb=>H.uK _ _ c c' b (acp bA hl hk cM aA) (tq hl hk) (tq hl cM) hb⟩,?_,.inl rfl⟩
 ·rintro b ⟨k,j,c,hk,hb⟩
  exact(H.qh _ c (tq hl hk)).2 b hb
 ·rintro n gr m sz xs hn hm b ⟨k,j,c,hk,hb⟩
  exact H.qi _ c n gr m sz xs b (tq hl hk) hn hm hb
theorem Sep.En {w:World} {q:PC} (hq:∀b,¬aN b q) (hg:Good w q):Sep q:=by
 induction hg with
 |int k n=>exact .int k n
 |bool b=>exact .bool b
 |nil sz a cap h=>exact .list _ _ _ _ (by rintro k j c ⟨e,he,_⟩;simp at he) (by rintro b o k j c _ ⟨e,he,_⟩;simp at he) (by rintro k j c k' j' c' b ⟨e,he,_⟩;simp at he)
 |cons sz b o cap xs h1 h2 h3 h4 h5 h6 ih=>exact absurd (.here _ _ _ _ h1) (hq b)
theorem Cj.En {m:Mode} {pes:List (List PC)} (ca:∀b,¬aR b pes) (hg:∀k j c,At pes k j c->Good w c):Cj B E w G h m pes:=
 ⟨fun b hb=>absurd hb (ca b),⟨fun k j c hk=>Sep.En (fun b hb=>ca b ⟨k,j,c,hk,hb⟩) (hg k j c hk),fun k j c k' j' c' b hk _ _ hb=>absurd ⟨k,j,c,hk,hb⟩ (ca b)⟩,fun n gr m sz xs _ _ b hb=>absurd hb (ca b),.inr ca⟩
theorem R.newRow (r:R B E w0 N σ a w G) {Im':Nat->Prop} {σ1:St} (H:HR B E w ⟨Im',G.g⟩ σ1.h σ.used []) (K:aV w G σ.h (fun n=>σ.used n=true) w ⟨Im',G.g⟩ σ1.h)
  (x5:σ1.env=σ.env) (kY:σ1.used=σ.used)
  {n:Nat} {m:Mode} {sz cap:Nat} {pes:List (List PC)} {arr:Array Value} {e:TypeId} (hn:σ.used n=false) (bA:0<sz) (hl:∀e∈pes,e.length=sz)
  (gd:∀k j c,At pes k j c->Good w c/\∀b,aN b c->Im' b) (tF:∀k j c,At pes k j c->arr[k*sz+j]? =some c.val) (jA:pes.length<=cap) (yb:cap<=maxLen) (tS:arr.size=cap*sz)
  (hm:m=.aE\/Cj B E w ⟨Im',G.g⟩ σ1.h m pes):
  ∃G',R B E w0 N {σ1 with h:=av σ1.h n (some (.row true m sz (pes.map fun e=>e.map PC.er))),used:=av σ1.used n true} a (w.alloc (.cells arr e)) G'/\
   RA (w.alloc (.cells arr e)) G' (av σ1.h n (some (.row true m sz (pes.map fun e=>e.map PC.er)))) (.one (.sl n sz 0 pes.length)) (.slice (some (ad w.heap.size 0)) pes.length cap):=by
 have hB:=r.fr.size
 have hw:=Ly w (.cells arr e)
 have aca:HR B E (w.alloc (.cells arr e)) ⟨Im',av G.g n ⟨false,w.heap.size,0,cap,pes,none⟩⟩ (av σ1.h n (some (.row true m sz (pes.map fun e=>e.map PC.er)))) (av σ.used n true) []:=by
  refine H.insert (p:=⟨false,w.heap.size,0,cap,pes,none⟩) hn hw (by simp) (fun _=>⟨H.PN,.inl hB,by simp⟩) (fun cs c m hb=>by cases hb) ?_ ?_ ?_ (fun gr m sz xs _ _ i pc b hi=>by simp at hi)
  ·refine⟨bA,rfl,(fun hl=>by cases hl),fun _=>⟨da.alloc _ _ _,⟨hl,fun k j c hk=>?_,fun k j c hk=>?_⟩,jA⟩,fun _ _=>⟨yb,arr,e,heap_alloc_new w _,(Nat.zero_add _).symm▸tS⟩,?_⟩
   ·simp only[Nat.zero_add]
    unfold ad
    rw[World.cell?_alloc_new]
    exact tF k j c hk
   ·exact(gd k j c hk).1.congr fun b hb o=>gW (hw b (H.fk b ((gd k j c hk).2 b hb))) o
   ·have qK:m≠ .aE->(∀b,aR b pes->Im' b/\da (w.alloc (.cells arr e)) b/\(B<=b\/E b))/\gI pes:=fun gA=>
     ⟨fun b hb=>by
      have hO:=hm.resolve_left gA
      obtain⟨q1,q2,q3⟩:=hO.np b hb
      exact⟨q1,q2.congr (hw b (H.fk b q1)),q3⟩,(hm.resolve_left gA).sep⟩
    cases m with
    |aE=>
     rintro b ⟨k,j,c,hk,hb⟩
     exact(gd k j c hk).2 b hb
    |aa=>exact qK (by simp)
    |live=>
     have hO:=hm.resolve_left (by simp)
     have ca:=hO.kind.resolve_left (by simp)
     exact⟨fun b hb=>absurd hb (ca b),hO.sep⟩
  ·intro gr m' aK au hb gA n' bf mT jS gH h0 iu b bW
   injection hb with _ hb _ _
   subst hb
   exact(hm.resolve_left gA).e7 n' bf mT jS gH h0 iu b bW
  ·intro gr aK au hb b bW
   injection hb with _ hb _ _
   subst hb
   exact absurd bW ((hm.resolve_left (by simp)).kind.resolve_left (by simp) b)
 have K2:=aV.trans (u2:=fun n=>σ.used n=true) (fun _ h=>h) K (aV.insert H (blk:=.row true m sz (pes.map fun e=>e.map PC.er)) (p:=⟨false,w.heap.size,0,cap,pes,none⟩) hn hw)
 refine⟨⟨Im',av G.g n ⟨false,w.heap.size,0,cap,pes,none⟩⟩,r.step x5 (fun m hm=>by rw[kY];exact qj n m hm) K2 (by rw[kY];exact aca) (r.fr.grow hw (by simp) rfl rfl rfl),?_⟩
 refine RA.fQ rfl fun _=>.inr ⟨by simp[bw],some (ad w.heap.size 0),?_,?_,?_⟩
 ·simp[bw]
 ·simp[bw];omega
 ·simp[bw]
end
end Go.Am
end
