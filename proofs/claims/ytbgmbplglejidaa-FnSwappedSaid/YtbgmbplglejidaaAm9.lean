/- Am6, Am7, Am8, Am9: parts of the proof. No condition. -/
import Derived.Test.YtbgmbplglejidaaAm5
set_option linter.unusedVariables false
section
namespace Go.Am
section
variable {B:Nat} {E:Ex} {w0 w w':World} {G G':Gh} {h h':Nat->Option ar} {used used':Nat->Bool} {tk:List PC}
theorem bf.ra (S:Nat->Prop) (u:Nat->Prop):bf w G h u w ⟨fun b=>G.Im b\/S b,G.g⟩ h:=
 ⟨fun _ h=>.inl h,fun _ _ _=>rfl,fun _ _ h=>⟨h,rfl,rfl,rfl,rfl,rfl⟩,fun n gr sz xs _ hn=>⟨⟨gr,xs,hn⟩,fun k j pc h1 h2=>⟨pc,h1,rfl,h2⟩⟩⟩
theorem HR.ra (H:HR B E w G h used tk) (S:Nat->Prop) (h1:∀b,S b->b<w.heap.size) (h2:∀b,S b->∀n,h n≠none->(G.g n).nl=false->b≠(G.g n).b)
  (h3:∀b,S b->∀n gr sz xs,h n=some (.row gr .live sz xs)->¬aZ b (G.g n).px) (h4:∀b,S b->B<=b\/E b\/E.a b):HR B E w ⟨fun b=>G.Im b\/S b,G.g⟩ h used tk:=by
 refine⟨H.jc,H.g8,fun n cs hn=>?_,fun n gr m sz xs hn=>?_,fun n hn hl=>?_,H.inj,?_,fun b hb=>hb.elim (H.pZ b) (h4 b),H.fV,H.live,fun i pc hi=>?_,H.vP,H.rG⟩
 ·obtain⟨a1,a2,a3⟩:=H.box n cs hn
  refine⟨a1,a2,fun j c hj=>?_⟩
  obtain⟨v,b1,b2,b3⟩:=a3 j c hj
  exact⟨v,b1,b2,b3.ft (bf.ra S (fun n=>used n=true)) fun q hq=>H.g8 n cs c q hn (List.mem_of_getElem? hj) hq⟩
 ·have hr:=H.row n gr m sz xs hn
  refine⟨hr.pos,hr.er,hr.nl,hr.dW,hr.room,?_⟩
  have hm:=hr.mode
  cases m with
  |aG=>exact fun b hb=>.inl (hm b hb)
  |ae=>exact⟨fun b hb=>⟨.inl (hm.1 b hb).1,(hm.1 b hb).2⟩,hm.2⟩
  |live=>exact⟨fun b hb=>⟨fun hi=>hi.elim (hm.1 b hb).1 (fun hs=>h3 b hs n gr sz xs hn hb),(hm.1 b hb).2⟩,hm.2⟩
 ·obtain⟨a1,a2,a3⟩:=H.own n hn hl
  exact⟨fun hi=>hi.elim a1 (fun hs=>h2 _ hs n hn hl rfl),a2,a3⟩
 ·exact fun b hb=>hb.elim (H.gi b) (h1 b)
 ·obtain⟨a1,a2⟩:=H.rF i pc hi
  exact⟨a1,fun b hb=>⟨.inl (a2 b hb).1,(a2 b hb).2⟩⟩
theorem HR.xZ {l:List PC} (H:HR B E w G h used (tk++l)):HR B E w G h used tk:=by
 have e:∀(i:Nat) (pc:PC),tk[i]? =some pc->(tk++l)[i]? =some pc:=fun i pc hi=>by
  rw[List.getElem?_append_left (List.getElem?_eq_some_iff.1 hi).1];exact hi
 exact⟨H.jc,H.g8,H.box,H.row,H.own,H.inj,H.gi,H.pZ,H.fV,H.live,fun i pc hi=>H.rF i pc (e i pc hi),fun i j pc dq b jS h1 h2=>H.vP i j pc dq b jS (e i pc h1) (e j dq h2),
  fun i pc n gr m sz xs b hi=>H.rG i pc n gr m sz xs b (e i pc hi)⟩
theorem HR.W8 (H:HR B E w G h used tk) {pc:PC} (h1:Sep pc) (h2:∀b,aX b pc->G.Im b/\dK w b/\(B<=b\/E b))
  (h3:∀(i:Nat) (q:PC) (b:Nat),tk[i]? =some q->aX b q->¬aX b pc)
  (h4:∀n gr m sz xs b,h n=some (.row gr m sz xs)->m≠ .aG->aX b pc->¬aZ b (G.g n).px):HR B E w G h used (tk++[pc]):=by
 have e:∀(i:Nat) (q:PC),(tk++[pc])[i]? =some q->(i<tk.length/\tk[i]? =some q)\/(i=tk.length/\q=pc):=fun i q hi=>by
  rcases Nat.lt_trichotomy i tk.length with bK|ez|zf
  ·rw[List.getElem?_append_left bK] at hi;exact .inl ⟨bK,hi⟩
  ·subst ez;simp at hi;exact .inr ⟨rfl,hi.symm⟩
  ·rw[List.getElem?_eq_none (by simp;omega)] at hi;cases hi
 refine⟨H.jc,H.g8,H.box,H.row,H.own,H.inj,H.gi,H.pZ,H.fV,H.live,fun i q hi=>?_,fun i j q q' b jS hi hj hb=>?_,fun i q n gr m sz xs b hi hn hm hb=>?_⟩
 ·rcases e i q hi with⟨_,hi⟩|⟨_,rfl⟩
  ·exact H.rF i q hi
  ·exact⟨h1,h2⟩
 ·rcases e i q hi with⟨_,hi'⟩|⟨ei,eq⟩
  ·rcases e j q' hj with⟨_,iO⟩|⟨_,Zf⟩
   ·exact H.vP i j q q' b jS hi' iO hb
   ·rw[Zf];exact h3 i q b hi' hb
  ·rcases e j q' hj with⟨_,iO⟩|⟨ej,Zf⟩
   ·rw[eq] at hb;exact fun be=>h3 j q' b iO be hb
   ·omega
 ·rcases e i q hi with⟨_,hi⟩|⟨_,rfl⟩
  ·exact H.rG i q n gr m sz xs b hi hn hm hb
  ·exact h4 n gr m sz xs b hn hm hb
theorem Sep.lS {pc:PC} (hs:pc.er.eV=true):Sep pc/\∀b,¬aX b pc:=by
 cases pc with
 |int k n=>exact⟨.int k n,fun b hb=>by cases hb⟩
 |bool b=>exact⟨.bool b,fun b hb=>by cases hb⟩
 |list sz a cap xs=>simp[PC.dR,C.eV] at hs
theorem qH {n m:Nat} {b:ar} (hm:aA h n none m=some b):h m=some b/\m≠n:=by
 by_cases bL:m=n
 ·subst bL;rw[bN] at hm;cases hm
 ·rw[cE _ _ _ _ bL] at hm;exact⟨hm,bL⟩
theorem BK {n m:Nat} (hm:aA h n none m≠none):h m≠none/\m≠n:=by
 cases hh:aA h n none m with
 |none=>exact absurd hh hm
 |some b=>obtain⟨a,b⟩:=qH hh;exact⟨by rw[a];simp,b⟩
def LZ (p:PB):Nat->Prop:=fun b=>(p.nl=false/\b=p.b)\/aZ b p.px
theorem HR.freeze (H:HR B E w G h used tk) {n:Nat} {gr:Bool} {m:Mode} {rs:Nat} {xs:List (List C)} (hn:h n=some (.row gr m rs xs)):
  HR B E w ⟨fun b=>G.Im b\/LZ (G.g n) b,G.g⟩ (aA h n none) used tk:=by
 have hr:=H.row n gr m rs xs hn
 have bS:h n≠none:=by rw[hn];simp
 have gx:∀b,aZ b (G.g n).px->G.Im b\/m=.live:=fun b hb=>by
  have hm:=hr.mode
  cases m with
  |aG=>exact .inl (hm b hb)
  |ae=>exact .inl (hm.1 b hb).1
  |live=>exact .inr rfl
 refine(H.del n).ra (LZ (G.g n)) (fun b hb=>?_) (fun b hb q hq hl=>?_) (fun b hb q bo aJ au hq cR=>?_) (fun b hb=>?_)
 ·rcases hb with⟨h1,rfl⟩|hb
  ·exact(H.own n bS h1).2.2
  ·exact H.rz hn hb
 ·obtain⟨nX,fO⟩:=BK hq
  rcases hb with⟨h1,rfl⟩|hb
  ·exact H.inj n q bS nX (Ne.symm fO) h1 hl
  ·rcases gx b hb with hi|rfl
   ·rintro rfl;exact(H.own q nX hl).1 hi
   ·exact H.live n gr rs xs hn b hb q nX hl
 ·obtain⟨nX,fO⟩:=qH hq
  rcases hb with⟨h1,rfl⟩|hb
  ·exact H.live q bo aJ au nX _ cR n bS h1 rfl
  ·rcases gx b hb with hi|rfl
   ·exact((H.row q bo .live aJ au nX).mode.1 b cR).1 hi
   ·exact H.fV n q gr .live rs xs bo .live aJ au hn nX (by simp) (by simp) (Ne.symm fO) b hb cR
 ·rcases hb with⟨h1,rfl⟩|hb
  ·exact(H.own n bS h1).2.1.imp id .inl
  ·rcases gx b hb with hi|rfl
   ·exact H.pZ b hi
   ·exact(hr.mode.1 b hb).2.2.imp id .inl
theorem iI.sub {px:List (List PC)} (hs:iI px) (lo len:Nat):iI ((px.drop lo).take len):=by
 refine⟨fun k j c hk=>hs.1 _ _ _ (pC hk).1,fun k j c k' j' c' b hk cI aD hb=>hs.2 _ _ _ _ _ _ b (pC hk).1 (pC cI).1 (fun e=>aD ?_) hb⟩
 injection e with e1 e2
 rw[show k=k' by omega,e2]
theorem HR.gb {σ σ1:St} (H:HR B E w G σ.h σ.used tk) {c:aj} {x:C} {o:Bool} {v:Value} (hx:σ.gb c=some (x,o,σ1)) (hc:RC w G σ.h c v):
  ∃(Im':Nat->Prop) (pc:PC),pc.er=x/\pc.val=v/\Good w pc/\(∀b,aX b pc->Im' b)/\
   HR B E w ⟨Im',G.g⟩ σ1.h σ.used (if o=true then tk++[pc] else tk)/\bf w G σ.h (fun n=>σ.used n=true) w ⟨Im',G.g⟩ σ1.h/\σ1.env=σ.env/\σ1.used=σ.used/\
   (∀n b,σ1.h n=some b->σ.h n=some b):=by
 cases c with
 |c y=>
  simp only[St.gb] at hx
  injection hx with hx
  injection hx with mJ eK
  injection eK with eK pS
  subst mJ eK pS
  obtain⟨pc,h1,h2,h3,h4⟩:=hc
  refine⟨G.Im,pc,h1,h2,h3,h4,?_,bf.refl _ _ _ _,rfl,rfl,fun _ _ h=>h⟩
  by_cases hs:y.eV=true
  ·rw[if_pos hs]
   obtain⟨s1,s2⟩:=Sep.lS (pc:=pc) (by rw[h1];exact hs)
   exact H.W8 s1 (fun b hb=>absurd hb (s2 b)) (fun _ _ b _ _=>s2 b) (fun _ _ _ _ _ b _ _ hb=>absurd hb (s2 b))
  ·rw[if_neg hs];exact H
 |nil sz=>
  simp only[St.gb] at hx
  split at hx
  ·rename_i dU
   injection hx with hx
   injection hx with mJ eK
   injection eK with eK pS
   subst mJ eK pS
   have cA:v=.slice none 0 0:=hc
   subst cA
   have cm:∀b,¬aX b (.list sz none 0 []):=fun b hb=>by
    rw[aX.lm] at hb
    rcases hb with⟨hb,_⟩|⟨k,j,c,⟨e,he,_⟩,_⟩
    ·exact absurd rfl hb
    ·simp at he
   refine⟨G.Im,.list sz none 0 [],by simp[PC.dR],rfl,.nil _ _ _ dU,fun b hb=>absurd hb (cm b),?_,bf.refl _ _ _ _,rfl,rfl,fun _ _ h=>h⟩
   rw[if_pos rfl]
   refine H.W8 (.list _ _ _ _ ?_ ?_ ?_) (fun b hb=>absurd hb (cm b)) (fun _ _ b _ _=>cm b) (fun _ _ _ _ _ b _ _ hb=>absurd hb (cm b))
   ·rintro k j c ⟨e,he,_⟩;simp at he
   ·rintro b o k j c _ ⟨e,he,_⟩;simp at he
   ·rintro k j c k' j' c' b ⟨e,he,_⟩;simp at he
  ·cases hx
 |sl n sz lo len=>
  simp only[St.gb] at hx
  split at hx
  ·rename_i gr m rs xs hn
   split at hx
   ·rename_i cV
    obtain⟨rfl,rfl,lK⟩:=cV
    injection hx with hx
    injection hx with mJ eK
    injection eK with eK pS
    subst mJ eK pS
    have hl:0+len<=xs.length:=by omega
    have bS:σ.h n≠none:=by rw[hn];simp
    have hs:jO (G.g n) rs 0 len v:=hc bS
    have hr:=H.row n gr m rs xs hn
    obtain⟨a1,a2,a3,a4⟩:=Gr hr hs hl
    have HF:=H.freeze hn
    have K1:bf w G σ.h (fun n=>σ.used n=true) w ⟨fun b=>G.Im b\/LZ (G.g n) b,G.g⟩ (aA σ.h n none):=
     bf.trans (fun _ h=>h) (bf.del n (fun n=>σ.used n=true)) (bf.ra (LZ (G.g n)) (fun n=>σ.used n=true))
    refine⟨_,lp (G.g n) rs 0 len v,by simpa using a1,a2,a3,fun b hb=>.inr (a4 b hb),?_,K1,rfl,rfl,fun q b hq=>(qH hq).1⟩
    by_cases hm:m≠ .aG
    ·rw[if_pos (by simpa using hm)]
     have si:(∀b,aZ b (G.g n).px->dK w b/\(B<=b\/E b))/\iI (G.g n).px/\(∀b,aZ b (G.g n).px->(G.g n).nl=false->b≠(G.g n).b):=by
      have dd:=hr.mode
      cases m with
      |aG=>exact absurd rfl hm
      |ae=>exact⟨fun b hb=>(dd.1 b hb).2,dd.2,fun b hb hl ez=>(H.own n bS hl).1 (ez▸(dd.1 b hb).1)⟩
      |live=>exact⟨fun b hb=>(dd.1 b hb).2,dd.2,fun b hb hl=>H.live n gr rs xs hn b hb n bS hl⟩
     obtain⟨o1,o2,o3⟩:=si
     refine HF.W8 ?_ (fun b hb=>⟨.inr (a4 b hb),?_⟩) (fun i q b hi hb be=>?_) (fun q bo m' aJ au b hq bO hb cR=>?_)
     ·
      rcases hs with⟨aN,rfl,_,rfl⟩|⟨aN,a,rfl,jQ,ha⟩
      ·simp only[lp]
       have hz:(List.take 0 (List.drop 0 (G.g n).px))=[]:=by simp
       rw[hz]
       refine .list _ _ _ _ ?_ ?_ ?_
       ·rintro k j c ⟨e,he,_⟩;simp at he
       ·rintro b o k j c _ ⟨e,he,_⟩;simp at he
       ·rintro k j c k' j' c' b ⟨e,he,_⟩;simp at he
      ·simp only[lp]
       have Fq:=o2.sub 0 len
       refine .list _ _ _ _ Fq.1 (fun b o k j c e8 hk hb=>?_) Fq.2
       have cI:=(pC hk).1
       have aaw:0<len:=by have:=(pC hk).2;omega
       have e:=ha (.inl (by omega))
       rw[e] at e8
       injection e8 with e8
       exact o3 b ⟨_,_,_,cI,hb⟩ aN (nG e8).1.symm
     ·rcases a4 b hb with⟨dQ,rfl⟩|be
      ·exact⟨(hr.dW dQ).1,(H.own n bS dQ).2.1⟩
      ·exact o1 b be
     ·rcases a4 b be with⟨dQ,rfl⟩|cR
      ·exact(H.own n bS dQ).1 ((H.rF i q hi).2 _ hb).1
      ·exact H.rG i q n gr m rs xs b hi hn hm hb cR
     ·obtain⟨nX,fO⟩:=qH hq
      rcases a4 b hb with⟨dQ,rfl⟩|be
      ·have dd:=(H.row q bo m' aJ au nX).mode
       cases m' with
       |aG=>exact absurd rfl bO
       |ae=>exact(H.own n bS dQ).1 (dd.1 _ cR).1
       |live=>exact H.live q bo aJ au nX _ cR n bS dQ rfl
      ·exact H.fV n q gr m rs xs bo m' aJ au hn nX hm bO (Ne.symm fO) b be cR
    ·rw[if_neg (by simpa using hm)]
     exact HF
   ·cases hx
  ·cases hx
 |ptr _ _ _ _=>simp[St.gb] at hx
 |cH _ _=>simp[St.gb] at hx
 |bE _ _ _ _ _ _=>simp[St.gb] at hx
 |fn _ _=>simp[St.gb] at hx
 |c7 _ _ _ _ _ _=>simp[St.gb] at hx
 |bq=>simp[St.gb] at hx
end
end Go.Am
end
section
namespace Go.Am
section
variable {B:Nat} {E:Ex} {w0 w w':World} {G G':Gh} {h h':Nat->Option ar} {used used':Nat->Bool} {tk:List PC}
theorem HR.fD:∀{cs:List aj} {σ σ1:St} {G:Gh} {tk:List PC} {xs:List C} {o:Bool} {vs:List Value},HR B E w G σ.h σ.used tk->σ.fD cs=some (xs,o,σ1)->cZ w G σ.h cs vs->
  (∀c∈cs,∀m,c.ref m->σ.used m=true)->
  ∃(Im':Nat->Prop) (bx:List PC),bx.map PC.er=xs/\bx.map PC.val=vs/\(∀pc∈bx,Good w pc/\∀b,aX b pc->Im' b)/\
   HR B E w ⟨Im',G.g⟩ σ1.h σ.used (if o=true then tk++bx else tk)/\bf w G σ.h (fun n=>σ.used n=true) w ⟨Im',G.g⟩ σ1.h/\σ1.env=σ.env/\σ1.used=σ.used/\
   (∀n b,σ1.h n=some b->σ.h n=some b)
 |[],σ,σ1,G,tk,xs,o,vs,H,hx,hc,hr=>by
  simp only[St.fD] at hx
  injection hx with hx
  injection hx with mJ eK
  injection eK with eK pS
  subst mJ eK pS
  have:vs=[]:=List.eq_nil_of_length_eq_zero (by simpa using hc.1)
  subst this
  exact⟨G.Im,[],rfl,rfl,by simp,by simpa using H,bf.refl _ _ _ _,rfl,rfl,fun _ _ h=>h⟩
 |c::cs,σ,σ2,G,tk,xs,o,vs,H,hx,hc,hr=>by
  simp only[St.fD] at hx
  split at hx
  ·rename_i x o1 σ1 e1
   split at hx
   ·rename_i au o2 Xp e2
    injection hx with hx
    injection hx with mJ eK
    injection eK with eK pS
    subst mJ eK pS
    obtain⟨hlen,bU⟩:=hc
    match vs,hlen with
    |v::vs,hlen=>
     obtain⟨yk,pc,a1,a2,a3,a4,a5,a6,a7,a8,a9⟩:=H.gb e1 (bU 0 c v rfl rfl).2
     have wR:cZ w ⟨yk,G.g⟩ σ1.h cs vs:=cZ.ft a6 (fun c' cA m hm=>hr c' (by simp[cA]) m hm) ⟨by simpa using hlen,fun j c u h1 h2=>bU (j+1) c u h1 h2⟩
     rw[<-a8] at a5
     obtain⟨D3,bx,b1,b2,b3,b4,b5,b6,b7,b8⟩:=HR.fD a5 e2 wR (fun c' cA m hm=>by rw[a8];exact hr c' (by simp[cA]) m hm)
     refine⟨D3,pc::bx,by simp[a1,b1],by simp[a2,b2],fun q hq=>?_,?_,bf.trans (fun n hn=>by rw[a8];exact hn) a6 b5,b6.trans a7,b7.trans a8,fun n b hb=>a9 n b (b8 n b hb)⟩
     ·cases hq with
      |head=>exact⟨a3,fun b hb=>b5.im b (a4 b hb)⟩
      |tail _ hq=>exact b3 q hq
     ·rw[a8] at b4
      cases o1<;>cases o2<;>simp at b4⊢
      ·exact b4
      ·exact b4.xZ
      ·exact b4.xZ
      ·exact b4
   ·cases hx
  ·cases hx
theorem RA.cells {x:ak} {ag:Bool} {cs:List aj} {v:Value} (hx:x.cells?=some (ag,cs)) (hc:RA w G h x v):cZ w G h cs v.cells.toList:=by
 cases x with
 |one c=>
  have hj:c≠ .bq/\ag=false/\cs=[c]:=by
   cases c<;>simp[ak.cells?] at hx<;>(obtain⟨rfl,rfl⟩:=hx;simp)
  obtain⟨h1,rfl,rfl⟩:=hj
  rcases hc with rfl|hc
  ·exact absurd rfl h1
  ·have cA:cZ w G h [c] [v]:=hc
   have h1:=(cA.2 0 c v rfl rfl).1
   cases v<;>first|exact cA|(simp[Value.oneCell'] at h1)
 |agg cs'=>
  simp[ak.cells?] at hx
  obtain⟨rfl,rfl⟩:=hx
  obtain⟨vs,e,hl⟩:∃vs:List Value,v=.agg vs.toArray/\cZ w G h cs' vs:=hc
  subst e
  exact hl
 |br xs=>simp[ak.cells?] at hx
theorem ak.yy {x:ak} {ag:Bool} {cs:List aj} (hx:x.cells?=some (ag,cs)) {c:aj} (hc:c∈cs) {m:Nat} (hm:c.ref m):x.ref m:=by
 cases x with
 |one c'=>
  have hj:cs=[c']:=by
   cases c'<;>simp[ak.cells?] at hx<;>exact hx.2.symm
  subst hj
  simp at hc
  subst hc
  exact hm
 |agg cs'=>
  simp[ak.cells?] at hx
  obtain⟨_,rfl⟩:=hx
  exact⟨c,hc,hm⟩
 |br xs=>simp[ak.cells?] at hx
theorem HR.lY {sz:Nat}:∀{xs:List ak} {σ σ1:St} {G:Gh} {tk:List PC} {es:List (List C)} {o:Bool} {vs:List Value},HR B E w G σ.h σ.used tk->σ.lY sz xs=some (es,o,σ1)->
  vs.length=xs.length->(∀(j:Nat) (x:ak) (v:Value),xs[j]? =some x->vs[j]? =some v->RA w G σ.h x v)->(∀x∈xs,∀m,x.ref m->σ.used m=true)->
  ∃(Im':Nat->Prop) (pes:List (List PC)),pes.map (fun e=>e.map PC.er)=es/\pes.map (fun e=>e.map PC.val)=vs.map (fun v=>v.cells.toList)/\(∀e∈pes,e.length=sz)/\
   (∀e∈pes,∀pc∈e,Good w pc/\∀b,aX b pc->Im' b)/\
   HR B E w ⟨Im',G.g⟩ σ1.h σ.used (if o=true then tk++pes.flatten else tk)/\bf w G σ.h (fun n=>σ.used n=true) w ⟨Im',G.g⟩ σ1.h/\σ1.env=σ.env/\σ1.used=σ.used/\
   (∀n b,σ1.h n=some b->σ.h n=some b)
 |[],σ,σ1,G,tk,es,o,vs,H,hx,hl,hc,hr=>by
  simp only[St.lY] at hx
  injection hx with hx
  injection hx with mJ eK
  injection eK with eK pS
  subst mJ eK pS
  have:vs=[]:=List.eq_nil_of_length_eq_zero (by simpa using hl)
  subst this
  exact⟨G.Im,[],rfl,rfl,by simp,by simp,by simpa using H,bf.refl _ _ _ _,rfl,rfl,fun _ _ h=>h⟩
 |x::xs,σ,σ2,G,tk,es,o,vs,H,hx,hl,hc,hr=>by
  simp only[St.lY] at hx
  split at hx
  ·rename_i ag cs kN
   split at hx
   ·rename_i bP
    split at hx
    ·rename_i e o1 σ1 e1
     split at hx
     ·rename_i es' o2 Xp e2
      injection hx with hx
      injection hx with mJ eK
      injection eK with eK pS
      subst mJ eK pS
      match vs,hl with
      |v::vs,hl=>
       have bT:=(hc 0 x v rfl rfl).cells kN
       obtain⟨yk,bx,a1,a2,a3,a5,a6,a7,a8,a9⟩:=H.fD e1 bT (fun c' cA m hm=>hr x (by simp) m (ak.yy kN cA hm))
       rw[<-a8] at a5
       obtain⟨D3,pes,b1,b2,b3,b3',b4,b5,b6,b7,b8⟩:=HR.lY (xs:=xs) (vs:=vs) a5 e2 (by simpa using hl)
        (fun j x v h1 h2=>(hc (j+1) x v h1 h2).ft a6 (fun m hm=>hr x (by simp[List.mem_of_getElem? h1]) m hm)) (fun x' f7 m hm=>by rw[a8];exact hr x' (by simp[f7]) m hm)
       refine⟨D3,bx::pes,by simp[a1,b1],by simp[a2,b2],fun q hq=>?_,fun q hq pc bc=>?_,?_,bf.trans (fun n hn=>by rw[a8];exact hn) a6 b5,b6.trans a7,b7.trans a8,fun n b hb=>a9 n b (b8 n b hb)⟩
       ·cases hq with
        |head=>
         have:(bx.map PC.er).length=(v.cells.toList).length:=by rw[<-a2];simp
         have h2:=bT.1
         simp at this
         simp at h2
         omega
        |tail _ hq=>exact b3 q hq
       ·cases hq with
        |head=>exact⟨(a3 pc bc).1,fun b hb=>b5.im b ((a3 pc bc).2 b hb)⟩
        |tail _ hq=>exact b3' q hq pc bc
       ·rw[a8] at b4
        cases o1<;>cases o2<;>simp at b4⊢
        ·exact b4
        ·exact b4.xZ
        ·exact b4.xZ
        ·exact b4
     ·cases hx
    ·cases hx
   ·cases hx
  ·cases hx
def ju (b:Nat) (pc:PC):Prop:=aX b pc\/∃sz o cap xs,pc=.list sz (some (ad b o)) cap xs/\cap≠0
def Ed (w:World):PC->Prop
 |.list sz a cap xs=>0<sz/\xs.length<=cap/\(cap=0\/∃b o cur e,a=some (ad b o)/\w.heap[b]? =some (.cells cur e (0,0))/\cur.size=o+cap*sz/\cap<=maxLen/\∀k j c,At xs k j c->¬aX b c)
 |_=>True
structure Ea (w:World) (B':Nat) (ps:List PC):Prop where
 eD:∀pc∈ps,Good w pc/\Sep pc/\Ed w pc
 new:∀pc∈ps,∀b,ju b pc->B'<=b/\dK w b
 nM:∀(i j:Nat) (pc dq:PC) (b:Nat),i≠j->ps[i]? =some pc->ps[j]? =some dq->ju b pc->¬ju b dq
def ry:K×List PC->Value
 |(.one,[pc])=>pc.val
 |(_,bx)=>.agg (bx.map PC.val).toArray
def xM:List (K×List PC)->Value
 |[p]=>ry p
 |l=>.tuple (l.map ry).toArray
def dj (P:Program) (f:FuncId) (M:List Dv->Option (List Dv)):Prop:=
 ∀ds rs,M ds=some rs->∀(w:World) (vals:List Value),GX w ds vals->Calls P f vals.toArray w fun e w'=>
  ∃aY:List (K×List PC),aY.map (fun p=>(p.1,p.2.map PC.er))=rs/\e=.returned (xM aY)/\(∀p∈aY,p.1≠ .ptr/\(p.1=.one->p.2.length=1))/\
   Ea w' w.heap.size (aY.flatMap (·.2))/\Fr w.heap.size Ex.no w w'
end
end Go.Am
end
section
namespace Go.Am
section
variable {B:Nat} {E:Ex} {w0 w w':World} {G G':Gh} {h h':Nat->Option ar} {used used':Nat->Bool} {tk:List PC} {N:Nat}
def pA (G:Gh) (h:Nat->Option ar) (b:Nat):Prop:=
 ¬G.Im b/\(∀n,h n≠none->(G.g n).nl=false->(G.g n).b≠b)/\∀n gr m sz xs,h n=some (.row gr m sz xs)->¬aZ b (G.g n).px
theorem HR.Rv (H:HR B E w G h used tk):pA G h w.heap.size:=
 ⟨fun hi=>Nat.lt_irrefl _ (H.gi _ hi),fun n hn hl he=>by have:=(H.own n hn hl).2.2;omega,fun n gr m sz xs hn hb=>Nat.lt_irrefl _ (H.rz hn hb)⟩
def ae6 (B:Nat) (E:Ex) (w w':World) (G:Gh) (h:Nat->Option ar) (p:PB):ar->Prop
 |.box cs=>p.nl=false/\dK w' p.b/\∀(j:Nat) (c:aj),cs[j]? =some c->∃v,w'.cell? (ad p.b (p.o+j))=some v/\v.oneCell'=true/\RC w G h c v
 |.row gr m sz xs=>uv B E w' G gr m sz xs p
theorem bf.insert (H:HR B E w G h used tk) {n:Nat} {blk:ar} {p:PB} (hn:used n=false) (hw:∀b,b<w.heap.size->w'.heap[b]? =w.heap[b]?):
  bf w G h (fun n=>used n=true) w' ⟨G.Im,aA G.g n p⟩ (aA h n (some blk)):=by
 have ne:∀m,used m=true->m≠n:=fun m hm e=>by subst e;rw[hn] at hm;cases hm
 refine⟨fun _ h=>h,fun b hb o=>ja (hw b (H.gi b hb)) o,fun m hm h0=>?_,fun m gr sz xs hm h0=>?_⟩
 ·rw[cE _ _ _ _ (ne m hm)] at h0
  simp only[cE _ _ _ _ (ne m hm)]
  exact⟨h0,trivial,trivial,trivial,trivial,trivial⟩
 ·rw[cE _ _ _ _ (ne m hm)] at h0
  simp only[cE _ _ _ _ (ne m hm)]
  exact⟨⟨gr,xs,h0⟩,fun k j pc h1 h2=>⟨pc,h1,rfl,h2⟩⟩
theorem HR.insert (H:HR B E w G h used tk) {n:Nat} {blk:ar} {p:PB} (hn:used n=false) (hw:∀b,b<w.heap.size->w'.heap[b]? =w.heap[b]?) (bP:w.heap.size<=w'.heap.size)
  (hl:p.nl=false->pA G h p.b/\(B<=p.b\/E p.b)/\p.b<w'.heap.size)
  (xc:∀cs c m,blk=.box cs->c∈cs->c.ref m->used m=true)
  (iv:ae6 B E w w' G h p blk)
  (J2:∀gr m sz xs,blk=.row gr m sz xs->m≠ .aG->∀n' bo m' aJ au,h n'=some (.row bo m' aJ au)->m'≠ .aG->∀b,aZ b p.px->¬aZ b (G.g n').px)
  (tu:∀gr sz xs,blk=.row gr .live sz xs->∀b,aZ b p.px->(p.nl=false->b≠p.b)/\∀n',h n'≠none->(G.g n').nl=false->b≠(G.g n').b)
  (Cm:∀gr m sz xs,blk=.row gr m sz xs->m≠ .aG->∀(i:Nat) (pc:PC) (b:Nat),tk[i]? =some pc->aX b pc->¬aZ b p.px):
  HR B E w' ⟨G.Im,aA G.g n p⟩ (aA h n (some blk)) (aA used n true) tk:=by
 have K:=bf.insert H (blk:=blk) (p:=p) hn hw
 have PD:h n=none:=by
  cases hh:h n with
  |none=>rfl
  |some b=>have:=H.jc n (by rw[hh];simp);rw[hn] at this;cases this
 have aD:∀m,h m≠none->m≠n:=fun m hm e=>by subst e;exact hm PD
 have hu:∀m,used m=true->aA used n true m=true:=fun m hm=>by
  simp only[jr];split
  ·rfl
  ·exact hm
 refine H.put (fun b hb _=>hw b hb) bP (fun b hb hU=>hU.congr (hw b hb)) hu (bN _ _ _) (fun hp=>⟨(hl hp).1.1,(hl hp).2⟩) (fun hp m hm h0 lK=>(hl hp).1.2.1 m h0 lK)
  (fun hp m gr sz xs hm h0 b hb he=>(hl hp).1.2.2 m gr _ sz xs h0 (he▸hb)) (fun cs c m hb hc hr=>hu m (xc cs c m hb hc hr)) K ?_
  (fun gr m sz xs hb hm n' bo m' aJ au _ h0=>J2 gr m sz xs hb hm n' bo m' aJ au h0) (fun gr sz xs hb b cR=>⟨(tu gr sz xs hb b cR).1,fun n' _=>(tu gr sz xs hb b cR).2 n'⟩) Cm
  (fun hp _ b hb he=>by obtain⟨m,gr,mo,sz,xs,_,h0,cR⟩:=hb;exact(hl hp).1.2.2 m gr mo sz xs h0 (he▸cR))
 cases blk with
 |box cs=>
  obtain⟨a1,a2,a3⟩:=iv
  refine⟨a1,a2,fun j c hj=>?_⟩
  obtain⟨v,b1,b2,b3⟩:=a3 j c hj
  exact⟨v,b1,b2,b3.ft K fun m hm=>xc cs c m rfl (List.mem_of_getElem? hj) hm⟩
 |row gr m sz xs=>
  have hr:uv B E w' G gr m sz xs p:=iv
  exact⟨hr.pos,hr.er,hr.nl,hr.dW,hr.room,by
   have:=hr.mode
   cases m<;>exact this⟩
theorem R.put {σ:St} {a:Act} (r:R B E w0 N σ a w G) {x:ak} {v:Value} (hv:RA w G σ.h x v) (hr:∀m,x.ref m->σ.used m=true) {d:Option Nat} (hd:∀n,d=some n->n<N):
  R B E w0 N (σ.put d x) (a.put d v) w G:=by
 cases d with
 |none=>exact r
 |some n=>
  have hn:=hd n rfl
  refine⟨r.defers,by simp[Act.put,r.size],fun s=>?_,fun s m hm=>?_,r.hr,r.fr,r.rm,r.Ac⟩
  ·simp only[St.put,Act.put]
   by_cases hs:s=n
   ·subst hs
    rw[bN]
    have:(a.tmps.setIfInBounds s v).getD s undef=v:=by
     simp[Array.getD_eq_getD_getElem?,r.size,hn]
    rw[this]
    exact hv
   ·rw[cE _ _ _ _ hs]
    have:(a.tmps.setIfInBounds n v).getD s undef=a.tmps.getD s undef:=by
     simp[Array.getD_eq_getD_getElem?,Array.getElem?_setIfInBounds_ne (Ne.symm hs)]
    rw[this]
    exact r.env s
  ·simp only[St.put] at hm⊢
   by_cases hs:s=n
   ·subst hs;rw[bN] at hm;exact hr m hm
   ·rw[cE _ _ _ _ hs] at hm;exact r.sP s m hm
theorem R.step {σ:St} {a:Act} (r:R B E w0 N σ a w G) {σ':St} (he:σ'.env=σ.env) (hu:∀m,σ.used m=true->σ'.used m=true) (K:bf w G σ.h (fun n=>σ.used n=true) w' G' σ'.h)
  (H:HR B E w' G' σ'.h σ'.used []) (F:Fr B E w0 w'):R B E w0 N σ' a w' G':=
 ⟨r.defers,r.size,fun s=>by rw[he];exact(r.env s).ft K (fun m hm=>r.sP s m hm),fun s m hm=>by rw[he] at hm;exact hu m (r.sP s m hm),H,F,
  fun n p b hp hb=>by
   have Cr:=r.Ac n (E.lt n p hp)
   obtain⟨k0,k1,k2,k3,k4,k6⟩:=K.name n Cr (by rw[hb];simp)
   cases h0:σ.h n with
   |none=>exact absurd h0 k0
   |some b0=>
    obtain⟨p1,p2,p3,p4,p6,p5⟩:=r.rm n p b0 hp h0
    refine⟨k1.trans p1,k2.trans p2,k3.trans p3,k4.trans p4,k6.trans p6,fun gr sz xs E2 k j pc hk hL=>?_⟩
    subst E2
    obtain⟨⟨yX,lB,e0⟩,hl⟩:=K.live n gr sz xs Cr hb
    rw[h0] at e0
    injection e0 with e0
    obtain⟨pc1,q1,q2,q3⟩:=p5 yX sz lB e0 k j pc hk hL
    obtain⟨pc2,q4,q5,q6⟩:=hl k j pc1 q1 q3
    exact⟨pc2,q4,q5.trans q2,q6⟩,
  fun n hn=>hu n (r.Ac n hn)⟩
end
def I9:Value->aj->Bool
 |.int k n,.c (.int k' n')=>decide (k=k')&&decide (n=n')
 |.bool b,.c (.bool b')=>decide (b=b')
 |.slice none 0 0,.nil sz=>true
 |.pointer none,.bq=>true
 |_,_=>false
def tc:List Value->List aj->Bool
 |[],[]=>true
 |v::vs,c::cs=>I9 v c&&tc vs cs
 |_,_=>false
def bF:Operand->MO->Bool
 |.tmp n,.t m=>n==m
 |.const (.agg vs),.k (.agg cs)=>tc vs.toList cs
 |.const v,.k (.one c)=>I9 v c
 |_,_=>false
section
variable {B:Nat} {E:Ex} {w0 w w':World} {G G':Gh} {h h':Nat->Option ar} {used used':Nat->Bool} {tk:List PC} {N:Nat}
theorem Yy {v:Value} {c:aj} (hc:I9 v c=true):RC w G h c v/\v.oneCell'=true/\∀m,¬c.ref m:=by
 unfold I9 at hc
 split at hc
 ·simp at hc
  obtain⟨rfl,rfl⟩:=hc
  exact⟨⟨.int _ _,rfl,rfl,.int _ _,fun b hb=>by cases hb⟩,rfl,fun m hm=>hm⟩
 ·simp at hc
  subst hc
  exact⟨⟨.bool _,rfl,rfl,.bool _,fun b hb=>by cases hb⟩,rfl,fun m hm=>hm⟩
 ·exact⟨rfl,rfl,fun m hm=>hm⟩
 ·exact⟨trivial,rfl,fun m hm=>hm⟩
 ·cases hc
theorem Ja:∀{vs:List Value} {cs:List aj},tc vs cs=true->cZ w G h cs vs/\∀c∈cs,∀m,¬c.ref m
 |[],[],_=>⟨⟨rfl,by simp⟩,by simp⟩
 |v::vs,c::cs,hc=>by
  simp only[tc,Bool.and_eq_true] at hc
  obtain⟨a1,a2,a3⟩:=Yy (w:=w) (G:=G) (h:=h) hc.1
  obtain⟨⟨b1,b2⟩,b3⟩:=Ja hc.2
  refine⟨⟨by simp[b1],fun j c' u hj hu=>?_⟩,fun c' cA=>?_⟩
  ·cases j with
   |zero=>simp at hj hu;subst hj;subst hu;exact⟨a2,a1⟩
   |succ j=>exact b2 j c' u (by simpa using hj) (by simpa using hu)
  ·cases cA with
   |head=>exact a3
   |tail _ cA=>exact b3 c' cA
 |[],_::_,hc=>by simp[tc] at hc
 |_::_,[],hc=>by simp[tc] at hc
theorem RV.gD {c:aj} {v:Value} (h1:v.oneCell'=true) (h2:RC w G h c v):RV w G h false [c] v:=by
 show cZ w G h [c] [v]
 exact⟨rfl,fun j c' u hj hu=>by
  cases j with
  |zero=>simp at hj hu;subst hj;subst hu;exact⟨h1,h2⟩
  |succ j=>simp at hj⟩
theorem RA.gD {c:aj} {v:Value} (h1:v.oneCell'=true) (h2:RC w G h c v):RA w G h (.one c) v:=.inr (RV.gD h1 h2)
theorem R.ev {σ:St} {a:Act} (r:R B E w0 N σ a w G) {x:Operand} {m:MO} (hc:bF x m=true):RA w G σ.h (σ.ev m) (a.eval x)/\∀n,(σ.ev m).ref n->σ.used n=true:=by
 unfold bF at hc
 split at hc
 ·simp at hc
  subst hc
  exact⟨r.env _,fun n hn=>r.sP _ n hn⟩
 ·rename_i vs cs
  obtain⟨b1,b2⟩:=Ja (w:=w) (G:=G) (h:=σ.h) hc
  exact⟨⟨vs.toList,by simp[Act.eval],b1⟩,fun n hn=>by obtain⟨c,hc,hm⟩:=hn;exact absurd hm (b2 c hc n)⟩
 ·obtain⟨a1,a2,a3⟩:=Yy (w:=w) (G:=G) (h:=σ.h) hc
  exact⟨RA.gD a2 a1,fun n hn=>absurd hn (a3 n)⟩
 ·cases hc
theorem oC {P:Program} {o:Oper} {a:Act} {v:Value} {K:Act->World->Prop} {Q:Exit->Act->World->Prop} (hr:(execOp a.eval o).run P w=.ok (.value v) w') (hK:K (a.put o.dst v) w'):o.wp P a w K Q:=by
 unfold Oper.wp
 rw[hr]
 exact hK
theorem Mb {P:Program} {o:Oper} {a:Act} {K:Act->World->Prop} {Q:Exit->Act->World->Prop} (hr:(execOp a.eval o).run P w=.ok .skip w') (hK:K (a.put o.dst undef) w'):o.wp P a w K Q:=by
 unfold Oper.wp
 rw[hr]
 exact hK
end
end Go.Am
end
section
namespace Go.Am
section
variable {B:Nat} {E:Ex} {w0 w w':World} {G G':Gh} {h h':Nat->Option ar} {used used':Nat->Bool} {tk:List PC} {N:Nat}
variable {P:Program} {o:Oper} {a:Act} {σ σ':St} {Q:Exit->Act->World->Prop}
def Nx (B:Nat) (E:Ex) (w0:World) (N:Nat) (σ:St):Act->World->Prop:=fun a w=>∃G,R B E w0 N σ a w G
theorem M8 (w:World) (ob:Obj) (b:Nat) (hb:b<w.heap.size):(w.alloc ob).heap[b]? =w.heap[b]? :=heap_alloc_old w ob b hb
theorem dK.alloc (w:World) (arr:Array Value) (e:TypeId):dK (w.alloc (.cells arr e)) w.heap.size:=⟨arr,e,heap_alloc_new w _⟩
theorem mN {σ1:St} {n:Nat} {b:ar} (hx:σ.ins n b=some σ1):σ.used n=false/\σ1={σ with h:=aA σ.h n (some b),used:=aA σ.used n true}:=by
 unfold St.ins at hx
 split at hx
 ·cases hx
 ·rename_i hu
  injection hx with hx
  exact⟨by simpa using hu,hx.symm⟩
theorem rI (n m:Nat) (hm:used m=true):aA used n true m=true:=by
 simp only[jr];split
 ·rfl
 ·exact hm
theorem R.acb (r:R B E w0 N σ a w G) {n:Nat} {cs:List aj} {vs:List Value} {e:TypeId} (hn:σ.used n=false) (hc:cZ w G σ.h cs vs) (je:∀c∈cs,∀m,c.ref m->σ.used m=true):
  ∃G',R B E w0 N {σ with h:=aA σ.h n (some (.box cs)),used:=aA σ.used n true} a (w.alloc (.cells vs.toArray e)) G'/\
   RA (w.alloc (.cells vs.toArray e)) G' (aA σ.h n (some (.box cs))) (.one (.ptr n 0 0 0)) (.pointer (some (ad w.heap.size 0))):=by
 have H:=r.hr
 have hB:=r.fr.size
 have hw:=M8 w (.cells vs.toArray e)
 refine⟨⟨G.Im,aA G.g n ⟨false,w.heap.size,0,0,[],none⟩⟩,r.step rfl (fun m hm=>rI n m hm) (bf.insert H hn hw) ?_ (r.fr.grow hw (by simp) rfl rfl rfl),?_⟩
 ·refine H.insert hn hw (by simp) (fun _=>⟨H.Rv,.inl hB,by simp⟩) (fun cs' c m hb cA hm=>?_) ⟨rfl,dK.alloc _ _ _,fun j c hj=>?_⟩ (fun gr m sz xs hb=>by cases hb) (fun gr sz xs hb=>by cases hb) (fun gr m sz xs hb=>by cases hb)
  ·injection hb with hb;subst hb;exact je c cA m hm
  ·have m7:j<vs.length:=by rw[hc.1];exact(List.getElem?_eq_some_iff.1 hj).1
   have hv:vs[j]? =some vs[j]:=List.getElem?_eq_getElem m7
   obtain⟨q1,q2⟩:=hc.2 j c _ hj hv
   refine⟨vs[j],?_,q1,q2⟩
   simp only[Nat.zero_add]
   unfold ad
   rw[World.cell?_alloc_new]
   simp only[List.getElem?_toArray];exact hv
 ·exact RA.gD rfl fun _=>by simp[bN]
theorem agz (r:R B E w0 N σ a w G) {n:Nat} {e:TypeId} {i:TypeInfo} {z:Value} {zs:List aj} {σ1:St} (ho:o.op=.alloc e) (hd:o.dst=some n) (hN:n<N)
  (hi:P.info? e=some i) (hz:i.zero=some z) (hc:tc z.cells.toList zs=true) (hx:σ.ins n (.box zs)=some σ1):
  o.wp P a w (Nx B E w0 N (σ1.put o.dst (.one (.ptr n 0 0 0)))) Q:=by
 obtain⟨hn,rfl⟩:=mN hx
 obtain⟨bT,je⟩:=Ja (w:=w) (G:=G) (h:=σ.h) hc
 obtain⟨G',r',hv⟩:=r.acb (e:=e) hn bT (fun c hc m hm=>absurd hm (je c hc m))
 have bY:(execOp a.eval o).run P w=.ok (.value (.pointer (some (ad w.heap.size 0)))) (w.alloc (.cells z.cells.toList.toArray e)):=by
  simp[execOp,ho,Instr.alloc,zeroValue,typeInfo,hi,hz,newVar,newRow,ad]
 exact oC bY ⟨G',r'.put hv (fun m hm=>by have bO:m=n:=hm;subst bO;exact bN _ _ _) (fun m hm=>by rw[hd] at hm;injection hm with hm;omega)⟩
theorem agD (r:R B E w0 N σ a w G) {n:Nat} {e:TypeId} {x:Operand} {m:MO} {ag:Bool} {cs:List aj} {σ1:St} (ho:o.op=.box e x) (hd:o.dst=some n) (hN:n<N)
  (hm:bF x m=true) (eE:(σ.ev m).cells?=some (ag,cs)) (hx:σ.ins n (.box cs)=some σ1):
  o.wp P a w (Nx B E w0 N (σ1.put o.dst (.one (.ptr n 0 0 0)))) Q:=by
 obtain⟨hn,rfl⟩:=mN hx
 obtain⟨hv,je⟩:=r.ev hm
 obtain⟨G',r',eS⟩:=r.acb (e:=e) hn (hv.cells eE) (fun c hc q hq=>je q (ak.yy eE hc hq))
 have bY:(execOp a.eval o).run P w=.ok (.value (.pointer (some (ad w.heap.size 0)))) (w.alloc (.cells (a.eval x).cells.toList.toArray e)):=by
  simp[execOp,ho,Instr.box,newVar,newRow,ad]
 exact oC bY ⟨G',r'.put eS (fun q hq=>by have d9:q=n:=hq;subst d9;exact bN _ _ _) (fun q hq=>by rw[hd] at hq;injection hq with hq;omega)⟩
theorem uz {α:Type} {sz:Nat}:∀{px:List (List α)} (_:∀e∈px,e.length=sz) {k j:Nat} {c:α},At px k j c->px.flatten[k*sz+j]? =some c
 |[],_,k,j,c,hk=>by obtain⟨e,he,_⟩:=hk;simp at he
 |e::px,hl,k,j,c,hk=>by
  obtain⟨e',he,hj⟩:=hk
  have h0:=hl e (by simp)
  cases k with
  |zero=>
   simp at he
   subst he
   have m7:=(List.getElem?_eq_some_iff.1 hj).1
   simp only[List.flatten_cons,Nat.zero_mul,Nat.zero_add]
   rw[List.getElem?_append_left m7]
   exact hj
  |succ k=>
   have ih:=uz (px:=px) (fun e he=>hl e (by simp[he])) (k:=k) (j:=j) (c:=c) ⟨e',by simpa using he,hj⟩
   simp only[List.flatten_cons]
   rw[List.getElem?_append_right (by rw[h0,Nat.add_mul];omega)]
   rw[show(k+1)*sz+j - e.length=k*sz+j by rw[h0,Nat.add_mul];omega]
   exact ih
structure D7 (B:Nat) (E:Ex) (w:World) (G:Gh) (h:Nat->Option ar) (m:Mode) (pes:List (List PC)):Prop where
 nO:∀b,aZ b pes->G.Im b/\dK w b/\(B<=b\/E b)
 sep:iI pes
 fV:∀n gr m sz xs,h n=some (.row gr m sz xs)->m≠ .aG->∀b,aZ b pes->¬aZ b (G.g n).px
 kind:m=.ae\/∀b,¬aZ b pes
theorem afn {α:Type} {sz:Nat} (bP:0<sz) {pes:List (List α)} (hl:∀e∈pes,e.length=sz) {k j k' j':Nat} {c c':α} (h1:At pes k j c) (h2:At pes k' j' c') (aD:(k,j)≠(k',j')):k*sz+j≠k'*sz+j':=by
 intro ez
 have hj:j<sz:=by obtain⟨e1,he,hj⟩:=h1;rw[<-hl e1 (List.mem_of_getElem? he)];exact(List.getElem?_eq_some_iff.1 hj).1
 have iO:j'<sz:=by obtain⟨e1,he,hj⟩:=h2;rw[<-hl e1 (List.mem_of_getElem? he)];exact(List.getElem?_eq_some_iff.1 hj).1
 have hk:k=k':=by
  have h3:(k*sz+j)/sz=k:=by rw[Nat.mul_comm,Nat.mul_add_div bP,Nat.div_eq_of_lt hj];omega
  have h4:(k'*sz+j')/sz=k':=by rw[Nat.mul_comm,Nat.mul_add_div bP,Nat.div_eq_of_lt iO];omega
  rw[ez] at h3
  omega
 subst hk
 exact aD (by rw[show j=j' by omega])
theorem HR.apq {pes:List (List PC)} {sz:Nat} (bP:0<sz) (hl:∀e∈pes,e.length=sz) (H:HR B E w G h used pes.flatten):D7 B E w G h .ae pes:=by
 refine⟨?_,⟨fun k j c hk=>(H.rF _ c (uz hl hk)).1,fun k j c k' j' c' b hk cI aD hb=>H.vP _ _ c c' b (afn bP hl hk cI aD) (uz hl hk) (uz hl cI) hb⟩,?_,.inl rfl⟩
 ·rintro b ⟨k,j,c,hk,hb⟩
  exact(H.rF _ c (uz hl hk)).2 b hb
 ·rintro n gr m sz xs hn hm b ⟨k,j,c,hk,hb⟩
  exact H.rG _ c n gr m sz xs b (uz hl hk) hn hm hb
theorem Sep.FY {w:World} {q:PC} (hq:∀b,¬aX b q) (hg:Good w q):Sep q:=by
 induction hg with
 |int k n=>exact .int k n
 |bool b=>exact .bool b
 |nil sz a cap h=>exact .list _ _ _ _ (by rintro k j c ⟨e,he,_⟩;simp at he) (by rintro b o k j c _ ⟨e,he,_⟩;simp at he) (by rintro k j c k' j' c' b ⟨e,he,_⟩;simp at he)
 |cons sz b o cap xs h1 h2 h3 h4 h5 h6 ih=>exact absurd (.here _ _ _ _ h1) (hq b)
theorem D7.FY {m:Mode} {pes:List (List PC)} (cm:∀b,¬aZ b pes) (hg:∀k j c,At pes k j c->Good w c):D7 B E w G h m pes:=
 ⟨fun b hb=>absurd hb (cm b),⟨fun k j c hk=>Sep.FY (fun b hb=>cm b ⟨k,j,c,hk,hb⟩) (hg k j c hk),fun k j c k' j' c' b hk _ _ hb=>absurd ⟨k,j,c,hk,hb⟩ (cm b)⟩,fun n gr m sz xs _ _ b hb=>absurd hb (cm b),.inr cm⟩
theorem R.newRow (r:R B E w0 N σ a w G) {Im':Nat->Prop} {σ1:St} (H:HR B E w ⟨Im',G.g⟩ σ1.h σ.used []) (K:bf w G σ.h (fun n=>σ.used n=true) w ⟨Im',G.g⟩ σ1.h)
  (zd:σ1.env=σ.env) (mI:σ1.used=σ.used)
  {n:Nat} {m:Mode} {sz cap:Nat} {pes:List (List PC)} {arr:Array Value} {e:TypeId} (hn:σ.used n=false) (bP:0<sz) (hl:∀e∈pes,e.length=sz)
  (ie:∀k j c,At pes k j c->Good w c/\∀b,aX b c->Im' b) (uS:∀k j c,At pes k j c->arr[k*sz+j]? =some c.val) (jQ:pes.length<=cap) (zl:cap<=maxLen) (vd:arr.size=cap*sz)
  (hm:m=.aG\/D7 B E w ⟨Im',G.g⟩ σ1.h m pes):
  ∃G',R B E w0 N {σ1 with h:=aA σ1.h n (some (.row true m sz (pes.map fun e=>e.map PC.er))),used:=aA σ1.used n true} a (w.alloc (.cells arr e)) G'/\
   RA (w.alloc (.cells arr e)) G' (aA σ1.h n (some (.row true m sz (pes.map fun e=>e.map PC.er)))) (.one (.sl n sz 0 pes.length)) (.slice (some (ad w.heap.size 0)) pes.length cap):=by
 have hB:=r.fr.size
 have hw:=M8 w (.cells arr e)
 have ae1:HR B E (w.alloc (.cells arr e)) ⟨Im',aA G.g n ⟨false,w.heap.size,0,cap,pes,none⟩⟩ (aA σ1.h n (some (.row true m sz (pes.map fun e=>e.map PC.er)))) (aA σ.used n true) []:=by
  refine H.insert (p:=⟨false,w.heap.size,0,cap,pes,none⟩) hn hw (by simp) (fun _=>⟨H.Rv,.inl hB,by simp⟩) (fun cs c m hb=>by cases hb) ?_ ?_ ?_ (fun gr m sz xs _ _ i pc b hi=>by simp at hi)
  ·refine⟨bP,rfl,(fun hl=>by cases hl),fun _=>⟨dK.alloc _ _ _,⟨hl,fun k j c hk=>?_,fun k j c hk=>?_⟩,jQ⟩,fun _ _=>⟨zl,arr,e,heap_alloc_new w _,(Nat.zero_add _).symm▸vd⟩,?_⟩
   ·simp only[Nat.zero_add]
    unfold ad
    rw[World.cell?_alloc_new]
    exact uS k j c hk
   ·exact(ie k j c hk).1.congr fun b hb o=>ja (hw b (H.gi b ((ie k j c hk).2 b hb))) o
   ·have nV:m≠ .aG->(∀b,aZ b pes->Im' b/\dK (w.alloc (.cells arr e)) b/\(B<=b\/E b))/\iI pes:=fun iz=>
     ⟨fun b hb=>by
      have hO:=hm.resolve_left iz
      obtain⟨q1,q2,q3⟩:=hO.nO b hb
      exact⟨q1,q2.congr (hw b (H.gi b q1)),q3⟩,(hm.resolve_left iz).sep⟩
    cases m with
    |aG=>
     rintro b ⟨k,j,c,hk,hb⟩
     exact(ie k j c hk).2 b hb
    |ae=>exact nV (by simp)
    |live=>
     have hO:=hm.resolve_left (by simp)
     have cm:=hO.kind.resolve_left (by simp)
     exact⟨fun b hb=>absurd hb (cm b),hO.sep⟩
  ·intro gr m' aJ au hb iz n' bo nv kL iH h0 jz b cR
   injection hb with _ hb _ _
   subst hb
   exact(hm.resolve_left iz).fV n' bo nv kL iH h0 jz b cR
  ·intro gr aJ au hb b cR
   injection hb with _ hb _ _
   subst hb
   exact absurd cR ((hm.resolve_left (by simp)).kind.resolve_left (by simp) b)
 have K2:=bf.trans (u2:=fun n=>σ.used n=true) (fun _ h=>h) K (bf.insert H (blk:=.row true m sz (pes.map fun e=>e.map PC.er)) (p:=⟨false,w.heap.size,0,cap,pes,none⟩) hn hw)
 refine⟨⟨Im',aA G.g n ⟨false,w.heap.size,0,cap,pes,none⟩⟩,r.step zd (fun m hm=>by rw[mI];exact rI n m hm) K2 (by rw[mI];exact ae1) (r.fr.grow hw (by simp) rfl rfl rfl),?_⟩
 refine RA.gD rfl fun _=>.inr ⟨by simp[bN],some (ad w.heap.size 0),?_,?_,?_⟩
 ·simp[bN]
 ·simp[bN];omega
 ·simp[bN]
end
end Go.Am
end
