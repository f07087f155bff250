/- Am6, Am7, Am8, Am9: parts of the proof. No condition. -/
import Derived.Test.YtfkfmbhknekkdaaAm5
set_option linter.unusedVariables false
section
namespace Go.Am
section
variable {B:Nat} {E:Ex} {w0 w w':World} {G G':Gh} {h h':Nat->Option ak} {used used':Nat->Bool} {tk:List PC}
theorem aQ.ot (S:Nat->Prop) (u:Nat->Prop):aQ w G h u w ⟨fun b=>G.Im b\/S b,G.g⟩ h:=
 ⟨fun _ h=>.inl h,fun _ _ _=>rfl,fun _ _ h=>⟨h,rfl,rfl,rfl,rfl,rfl⟩,fun n gr sz xs _ hn=>⟨⟨gr,xs,hn⟩,fun k j pc h1 h2=>⟨pc,h1,rfl,h2⟩⟩⟩
theorem HR.ot (H:HR B E w G h used tk) (S:Nat->Prop) (h1:∀b,S b->b<w.heap.size) (h2:∀b,S b->∀n,h n≠none->(G.g n).nl=false->b≠(G.g n).b)
  (h3:∀b,S b->∀n gr sz xs,h n=some (.row gr .live sz xs)->¬aN b (G.g n).px) (h4:∀b,S b->B<=b\/E b\/E.a b):HR B E w ⟨fun b=>G.Im b\/S b,G.g⟩ h used tk:=by
 refine⟨H.gN,H.fW,fun n cs hn=>?_,fun n gr m sz xs hn=>?_,fun n hn hl=>?_,H.inj,?_,fun b hb=>hb.elim (H.oq b) (h4 b),H.fg,H.live,fun i pc hi=>?_,H.tg,H.oR⟩
 ·obtain⟨a1,a2,a3⟩:=H.box n cs hn
  refine⟨a1,a2,fun j c hj=>?_⟩
  obtain⟨v,b1,b2,b3⟩:=a3 j c hj
  exact⟨v,b1,b2,b3.eI (aQ.ot S (fun n=>used n=true)) fun q hq=>H.fW n cs c q hn (List.mem_of_getElem? hj) hq⟩
 ·have hr:=H.row n gr m sz xs hn
  refine⟨hr.pos,hr.er,hr.nl,hr.dv,hr.room,?_⟩
  have hm:=hr.mode
  cases m with
  |aF=>exact fun b hb=>.inl (hm b hb)
  |aj=>exact⟨fun b hb=>⟨.inl (hm.1 b hb).1,(hm.1 b hb).2⟩,hm.2⟩
  |live=>exact⟨fun b hb=>⟨fun hi=>hi.elim (hm.1 b hb).1 (fun hs=>h3 b hs n gr sz xs hn hb),(hm.1 b hb).2⟩,hm.2⟩
 ·obtain⟨a1,a2,a3⟩:=H.own n hn hl
  exact⟨fun hi=>hi.elim a1 (fun hs=>h2 _ hs n hn hl rfl),a2,a3⟩
 ·exact fun b hb=>hb.elim (H.fv b) (h1 b)
 ·obtain⟨a1,a2⟩:=H.oQ i pc hi
  exact⟨a1,fun b hb=>⟨.inl (a2 b hb).1,(a2 b hb).2⟩⟩
theorem HR.vg {l:List PC} (H:HR B E w G h used (tk++l)):HR B E w G h used tk:=by
 have e:∀(i:Nat) (pc:PC),tk[i]? =some pc->(tk++l)[i]? =some pc:=fun i pc hi=>by
  rw[List.getElem?_append_left (List.getElem?_eq_some_iff.1 hi).1];exact hi
 exact⟨H.gN,H.fW,H.box,H.row,H.own,H.inj,H.fv,H.oq,H.fg,H.live,fun i pc hi=>H.oQ i pc (e i pc hi),fun i j pc dd b hZ h1 h2=>H.tg i j pc dd b hZ (e i pc h1) (e j dd h2),
  fun i pc n gr m sz xs b hi=>H.oR i pc n gr m sz xs b (e i pc hi)⟩
theorem HR.Qn (H:HR B E w G h used tk) {pc:PC} (h1:Sep pc) (h2:∀b,aM b pc->G.Im b/\dm w b/\(B<=b\/E b))
  (h3:∀(i:Nat) (q:PC) (b:Nat),tk[i]? =some q->aM b q->¬aM b pc)
  (h4:∀n gr m sz xs b,h n=some (.row gr m sz xs)->m≠ .aF->aM b pc->¬aN b (G.g n).px):HR B E w G h used (tk++[pc]):=by
 have e:∀(i:Nat) (q:PC),(tk++[pc])[i]? =some q->(i<tk.length/\tk[i]? =some q)\/(i=tk.length/\q=pc):=fun i q hi=>by
  rcases Nat.lt_trichotomy i tk.length with bB|dM|wi
  ·rw[List.getElem?_append_left bB] at hi;exact .inl ⟨bB,hi⟩
  ·subst dM;simp at hi;exact .inr ⟨rfl,hi.symm⟩
  ·rw[List.getElem?_eq_none (by simp;omega)] at hi;cases hi
 refine⟨H.gN,H.fW,H.box,H.row,H.own,H.inj,H.fv,H.oq,H.fg,H.live,fun i q hi=>?_,fun i j q q' b hZ hi hj hb=>?_,fun i q n gr m sz xs b hi hn hm hb=>?_⟩
 ·rcases e i q hi with⟨_,hi⟩|⟨_,rfl⟩
  ·exact H.oQ i q hi
  ·exact⟨h1,h2⟩
 ·rcases e i q hi with⟨_,hi'⟩|⟨ei,eq⟩
  ·rcases e j q' hj with⟨_,jd⟩|⟨_,Sx⟩
   ·exact H.tg i j q q' b hZ hi' jd hb
   ·rw[Sx];exact h3 i q b hi' hb
  ·rcases e j q' hj with⟨_,jd⟩|⟨ej,Sx⟩
   ·rw[eq] at hb;exact fun aL=>h3 j q' b jd aL hb
   ·omega
 ·rcases e i q hi with⟨_,hi⟩|⟨_,rfl⟩
  ·exact H.oR i q n gr m sz xs b hi hn hm hb
  ·exact h4 n gr m sz xs b hn hm hb
theorem Sep.jI {pc:PC} (hs:pc.er.dX=true):Sep pc/\∀b,¬aM b pc:=by
 cases pc with
 |int k n=>exact⟨.int k n,fun b hb=>by cases hb⟩
 |bool b=>exact⟨.bool b,fun b hb=>by cases hb⟩
 |list sz a cap xs=>simp[PC.du,C.dX] at hs
theorem nQ {n m:Nat} {b:ak} (hm:aq h n none m=some b):h m=some b/\m≠n:=by
 by_cases br:m=n
 ·subst br;rw[bu] at hm;cases hm
 ·rw[cd _ _ _ _ br] at hm;exact⟨hm,br⟩
theorem yk {n m:Nat} (hm:aq h n none m≠none):h m≠none/\m≠n:=by
 cases hh:aq h n none m with
 |none=>exact absurd hh hm
 |some b=>obtain⟨a,b⟩:=nQ hh;exact⟨by rw[a];simp,b⟩
def HC (p:PB):Nat->Prop:=fun b=>(p.nl=false/\b=p.b)\/aN b p.px
theorem HR.freeze (H:HR B E w G h used tk) {n:Nat} {gr:Bool} {m:Mode} {rs:Nat} {xs:List (List C)} (hn:h n=some (.row gr m rs xs)):
  HR B E w ⟨fun b=>G.Im b\/HC (G.g n) b,G.g⟩ (aq h n none) used tk:=by
 have hr:=H.row n gr m rs xs hn
 have bJ:h n≠none:=by rw[hn];simp
 have gj:∀b,aN b (G.g n).px->G.Im b\/m=.live:=fun b hb=>by
  have hm:=hr.mode
  cases m with
  |aF=>exact .inl (hm b hb)
  |aj=>exact .inl (hm.1 b hb).1
  |live=>exact .inr rfl
 refine(H.del n).ot (HC (G.g n)) (fun b hb=>?_) (fun b hb q hq hl=>?_) (fun b hb q aU aC ao hq cz=>?_) (fun b hb=>?_)
 ·rcases hb with⟨h1,rfl⟩|hb
  ·exact(H.own n bJ h1).2.2
  ·exact H.oK hn hb
 ·obtain⟨lD,e7⟩:=yk hq
  rcases hb with⟨h1,rfl⟩|hb
  ·exact H.inj n q bJ lD (Ne.symm e7) h1 hl
  ·rcases gj b hb with hi|rfl
   ·rintro rfl;exact(H.own q lD hl).1 hi
   ·exact H.live n gr rs xs hn b hb q lD hl
 ·obtain⟨lD,e7⟩:=nQ hq
  rcases hb with⟨h1,rfl⟩|hb
  ·exact H.live q aU aC ao lD _ cz n bJ h1 rfl
  ·rcases gj b hb with hi|rfl
   ·exact((H.row q aU .live aC ao lD).mode.1 b cz).1 hi
   ·exact H.fg n q gr .live rs xs aU .live aC ao hn lD (by simp) (by simp) (Ne.symm e7) b hb cz
 ·rcases hb with⟨h1,rfl⟩|hb
  ·exact(H.own n bJ h1).2.1.imp id .inl
  ·rcases gj b hb with hi|rfl
   ·exact H.oq b hi
   ·exact(hr.mode.1 b hb).2.2.imp id .inl
theorem gx.sub {px:List (List PC)} (hs:gx px) (lo len:Nat):gx ((px.drop lo).take len):=by
 refine⟨fun k j c hk=>hs.1 _ _ _ (mU hk).1,fun k j c k' j' c' b hk cC av hb=>hs.2 _ _ _ _ _ _ b (mU hk).1 (mU cC).1 (fun e=>av ?_) hb⟩
 injection e with e1 e2
 rw[show k=k' by omega,e2]
theorem HR.fe {σ σ1:St} (H:HR B E w G σ.h σ.used tk) {c:ae} {x:C} {o:Bool} {v:Value} (hx:σ.fe c=some (x,o,σ1)) (hc:RC w G σ.h c v):
  ∃(Im':Nat->Prop) (pc:PC),pc.er=x/\pc.val=v/\Good w pc/\(∀b,aM b pc->Im' b)/\
   HR B E w ⟨Im',G.g⟩ σ1.h σ.used (if o=true then tk++[pc] else tk)/\aQ w G σ.h (fun n=>σ.used n=true) w ⟨Im',G.g⟩ σ1.h/\σ1.env=σ.env/\σ1.used=σ.used/\
   (∀n b,σ1.h n=some b->σ.h n=some b):=by
 cases c with
 |c y=>
  simp only[St.fe] at hx
  injection hx with hx
  injection hx with lF dD
  injection dD with dD nc
  subst lF dD nc
  obtain⟨pc,h1,h2,h3,h4⟩:=hc
  refine⟨G.Im,pc,h1,h2,h3,h4,?_,aQ.refl _ _ _ _,rfl,rfl,fun _ _ h=>h⟩
  by_cases hs:y.dX=true
  ·rw[if_pos hs]
   obtain⟨s1,s2⟩:=Sep.jI (pc:=pc) (by rw[h1];exact hs)
   exact H.Qn s1 (fun b hb=>absurd hb (s2 b)) (fun _ _ b _ _=>s2 b) (fun _ _ _ _ _ b _ _ hb=>absurd hb (s2 b))
  ·rw[if_neg hs];exact H
 |nil sz=>
  simp only[St.fe] at hx
  split at hx
  ·rename_i dU
   injection hx with hx
   injection hx with lF dD
   injection dD with dD nc
   subst lF dD nc
   have cN:v=.slice none 0 0:=hc
   subst cN
   have cq:∀b,¬aM b (.list sz none 0 []):=fun b hb=>by
    rw[aM.jk] at hb
    rcases hb with⟨hb,_⟩|⟨k,j,c,⟨e,he,_⟩,_⟩
    ·exact absurd rfl hb
    ·simp at he
   refine⟨G.Im,.list sz none 0 [],by simp[PC.du],rfl,.nil _ _ _ dU,fun b hb=>absurd hb (cq b),?_,aQ.refl _ _ _ _,rfl,rfl,fun _ _ h=>h⟩
   rw[if_pos rfl]
   refine H.Qn (.list _ _ _ _ ?_ ?_ ?_) (fun b hb=>absurd hb (cq b)) (fun _ _ b _ _=>cq b) (fun _ _ _ _ _ b _ _ hb=>absurd hb (cq b))
   ·rintro k j c ⟨e,he,_⟩;simp at he
   ·rintro b o k j c _ ⟨e,he,_⟩;simp at he
   ·rintro k j c k' j' c' b ⟨e,he,_⟩;simp at he
  ·cases hx
 |sl n sz lo len=>
  simp only[St.fe] at hx
  split at hx
  ·rename_i gr m rs xs hn
   split at hx
   ·rename_i cm
    obtain⟨rfl,rfl,lA⟩:=cm
    injection hx with hx
    injection hx with lF dD
    injection dD with dD nc
    subst lF dD nc
    have hl:0+len<=xs.length:=by omega
    have bJ:σ.h n≠none:=by rw[hn];simp
    have hs:gy (G.g n) rs 0 len v:=hc bJ
    have hr:=H.row n gr m rs xs hn
    obtain⟨a1,a2,a3,a4⟩:=CU hr hs hl
    have HF:=H.freeze hn
    have K1:aQ w G σ.h (fun n=>σ.used n=true) w ⟨fun b=>G.Im b\/HC (G.g n) b,G.g⟩ (aq σ.h n none):=
     aQ.trans (fun _ h=>h) (aQ.del n (fun n=>σ.used n=true)) (aQ.ot (HC (G.g n)) (fun n=>σ.used n=true))
    refine⟨_,jp (G.g n) rs 0 len v,by simpa using a1,a2,a3,fun b hb=>.inr (a4 b hb),?_,K1,rfl,rfl,fun q b hq=>(nQ hq).1⟩
    by_cases hm:m≠ .aF
    ·rw[if_pos (by simpa using hm)]
     have pJ:(∀b,aN b (G.g n).px->dm w b/\(B<=b\/E b))/\gx (G.g n).px/\(∀b,aN b (G.g n).px->(G.g n).nl=false->b≠(G.g n).b):=by
      have cU:=hr.mode
      cases m with
      |aF=>exact absurd rfl hm
      |aj=>exact⟨fun b hb=>(cU.1 b hb).2,cU.2,fun b hb hl dM=>(H.own n bJ hl).1 (dM▸(cU.1 b hb).1)⟩
      |live=>exact⟨fun b hb=>(cU.1 b hb).2,cU.2,fun b hb hl=>H.live n gr rs xs hn b hb n bJ hl⟩
     obtain⟨o1,o2,o3⟩:=pJ
     refine HF.Qn ?_ (fun b hb=>⟨.inr (a4 b hb),?_⟩) (fun i q b hi hb aL=>?_) (fun q aU m' aC ao b hq bx hb cz=>?_)
     ·
      rcases hs with⟨aE,rfl,_,rfl⟩|⟨aE,a,rfl,hH,ha⟩
      ·simp only[jp]
       have hz:(List.take 0 (List.drop 0 (G.g n).px))=[]:=by simp
       rw[hz]
       refine .list _ _ _ _ ?_ ?_ ?_
       ·rintro k j c ⟨e,he,_⟩;simp at he
       ·rintro b o k j c _ ⟨e,he,_⟩;simp at he
       ·rintro k j c k' j' c' b ⟨e,he,_⟩;simp at he
      ·simp only[jp]
       have BU:=o2.sub 0 len
       refine .list _ _ _ _ BU.1 (fun b o k j c d8 hk hb=>?_) BU.2
       have cC:=(mU hk).1
       have Ua:0<len:=by have:=(mU hk).2;omega
       have e:=ha (.inl (by omega))
       rw[e] at d8
       injection d8 with d8
       exact o3 b ⟨_,_,_,cC,hb⟩ aE (lg d8).1.symm
     ·rcases a4 b hb with⟨cT,rfl⟩|aL
      ·exact⟨(hr.dv cT).1,(H.own n bJ cT).2.1⟩
      ·exact o1 b aL
     ·rcases a4 b aL with⟨cT,rfl⟩|cz
      ·exact(H.own n bJ cT).1 ((H.oQ i q hi).2 _ hb).1
      ·exact H.oR i q n gr m rs xs b hi hn hm hb cz
     ·obtain⟨lD,e7⟩:=nQ hq
      rcases a4 b hb with⟨cT,rfl⟩|aL
      ·have cU:=(H.row q aU m' aC ao lD).mode
       cases m' with
       |aF=>exact absurd rfl bx
       |aj=>exact(H.own n bJ cT).1 (cU.1 _ cz).1
       |live=>exact H.live q aU aC ao lD _ cz n bJ cT rfl
      ·exact H.fg n q gr m rs xs aU m' aC ao hn lD hm bx (Ne.symm e7) b aL cz
    ·rw[if_neg (by simpa using hm)]
     exact HF
   ·cases hx
  ·cases hx
 |ptr _ _ _ _=>simp[St.fe] at hx
 |bV _ _=>simp[St.fe] at hx
 |bD _ _ _ _ _ _=>simp[St.fe] at hx
 |bj _ _ _ _ _ _=>simp[St.fe] at hx
 |fn _ _=>simp[St.fe] at hx
 |cH _ _ _ _ _ _=>simp[St.fe] at hx
 |bg=>simp[St.fe] at hx
end
end Go.Am
end
section
namespace Go.Am
section
variable {B:Nat} {E:Ex} {w0 w w':World} {G G':Gh} {h h':Nat->Option ak} {used used':Nat->Bool} {tk:List PC}
theorem HR.eS:∀{cs:List ae} {σ σ1:St} {G:Gh} {tk:List PC} {xs:List C} {o:Bool} {vs:List Value},HR B E w G σ.h σ.used tk->σ.eS cs=some (xs,o,σ1)->cL w G σ.h cs vs->
  (∀c∈cs,∀m,c.ref m->σ.used m=true)->
  ∃(Im':Nat->Prop) (bk:List PC),bk.map PC.er=xs/\bk.map PC.val=vs/\(∀pc∈bk,Good w pc/\∀b,aM b pc->Im' b)/\
   HR B E w ⟨Im',G.g⟩ σ1.h σ.used (if o=true then tk++bk else tk)/\aQ w G σ.h (fun n=>σ.used n=true) w ⟨Im',G.g⟩ σ1.h/\σ1.env=σ.env/\σ1.used=σ.used/\
   (∀n b,σ1.h n=some b->σ.h n=some b)
 |[],σ,σ1,G,tk,xs,o,vs,H,hx,hc,hr=>by
  simp only[St.eS] at hx
  injection hx with hx
  injection hx with lF dD
  injection dD with dD nc
  subst lF dD nc
  have:vs=[]:=List.eq_nil_of_length_eq_zero (by simpa using hc.1)
  subst this
  exact⟨G.Im,[],rfl,rfl,by simp,by simpa using H,aQ.refl _ _ _ _,rfl,rfl,fun _ _ h=>h⟩
 |c::cs,σ,σ2,G,tk,xs,o,vs,H,hx,hc,hr=>by
  simp only[St.eS] at hx
  split at hx
  ·rename_i x o1 σ1 e1
   split at hx
   ·rename_i ao o2 QA e2
    injection hx with hx
    injection hx with lF dD
    injection dD with dD nc
    subst lF dD nc
    obtain⟨hlen,bK⟩:=hc
    match vs,hlen with
    |v::vs,hlen=>
     obtain⟨vq,pc,a1,a2,a3,a4,a5,a6,a7,a8,a9⟩:=H.fe e1 (bK 0 c v rfl rfl).2
     have BA:cL w ⟨vq,G.g⟩ σ1.h cs vs:=cL.eI a6 (fun c' cN m hm=>hr c' (by simp[cN]) m hm) ⟨by simpa using hlen,fun j c u h1 h2=>bK (j+1) c u h1 h2⟩
     rw[<-a8] at a5
     obtain⟨Ay,bk,b1,b2,b3,b4,b5,b6,b7,b8⟩:=HR.eS a5 e2 BA (fun c' cN m hm=>by rw[a8];exact hr c' (by simp[cN]) m hm)
     refine⟨Ay,pc::bk,by simp[a1,b1],by simp[a2,b2],fun q hq=>?_,?_,aQ.trans (fun n hn=>by rw[a8];exact hn) a6 b5,b6.trans a7,b7.trans a8,fun n b hb=>a9 n b (b8 n b hb)⟩
     ·cases hq with
      |head=>exact⟨a3,fun b hb=>b5.im b (a4 b hb)⟩
      |tail _ hq=>exact b3 q hq
     ·rw[a8] at b4
      cases o1<;>cases o2<;>simp at b4⊢
      ·exact b4
      ·exact b4.vg
      ·exact b4.vg
      ·exact b4
   ·cases hx
  ·cases hx
theorem RA.cells {x:ai} {ag:Bool} {cs:List ae} {v:Value} (hx:x.cells?=some (ag,cs)) (hc:RA w G h x v):cL w G h cs v.cells.toList:=by
 cases x with
 |one c=>
  have hj:c≠ .bg/\ag=false/\cs=[c]:=by
   cases c<;>simp[ai.cells?] at hx<;>(obtain⟨rfl,rfl⟩:=hx;simp)
  obtain⟨h1,rfl,rfl⟩:=hj
  rcases hc with rfl|hc
  ·exact absurd rfl h1
  ·have cN:cL w G h [c] [v]:=hc
   have h1:=(cN.2 0 c v rfl rfl).1
   cases v<;>first|exact cN|(simp[Value.oneCell'] at h1)
 |agg cs'=>
  simp[ai.cells?] at hx
  obtain⟨rfl,rfl⟩:=hx
  obtain⟨vs,e,hl⟩:∃vs:List Value,v=.agg vs.toArray/\cL w G h cs' vs:=hc
  subst e
  exact hl
 |aY xs=>simp[ai.cells?] at hx
theorem ai.vG {x:ai} {ag:Bool} {cs:List ae} (hx:x.cells?=some (ag,cs)) {c:ae} (hc:c∈cs) {m:Nat} (hm:c.ref m):x.ref m:=by
 cases x with
 |one c'=>
  have hj:cs=[c']:=by
   cases c'<;>simp[ai.cells?] at hx<;>exact hx.2.symm
  subst hj
  simp at hc
  subst hc
  exact hm
 |agg cs'=>
  simp[ai.cells?] at hx
  obtain⟨_,rfl⟩:=hx
  exact⟨c,hc,hm⟩
 |aY xs=>simp[ai.cells?] at hx
theorem HR.jK {sz:Nat}:∀{xs:List ai} {σ σ1:St} {G:Gh} {tk:List PC} {es:List (List C)} {o:Bool} {vs:List Value},HR B E w G σ.h σ.used tk->σ.jK sz xs=some (es,o,σ1)->
  vs.length=xs.length->(∀(j:Nat) (x:ai) (v:Value),xs[j]? =some x->vs[j]? =some v->RA w G σ.h x v)->(∀x∈xs,∀m,x.ref m->σ.used m=true)->
  ∃(Im':Nat->Prop) (pes:List (List PC)),pes.map (fun e=>e.map PC.er)=es/\pes.map (fun e=>e.map PC.val)=vs.map (fun v=>v.cells.toList)/\(∀e∈pes,e.length=sz)/\
   (∀e∈pes,∀pc∈e,Good w pc/\∀b,aM b pc->Im' b)/\
   HR B E w ⟨Im',G.g⟩ σ1.h σ.used (if o=true then tk++pes.flatten else tk)/\aQ w G σ.h (fun n=>σ.used n=true) w ⟨Im',G.g⟩ σ1.h/\σ1.env=σ.env/\σ1.used=σ.used/\
   (∀n b,σ1.h n=some b->σ.h n=some b)
 |[],σ,σ1,G,tk,es,o,vs,H,hx,hl,hc,hr=>by
  simp only[St.jK] at hx
  injection hx with hx
  injection hx with lF dD
  injection dD with dD nc
  subst lF dD nc
  have:vs=[]:=List.eq_nil_of_length_eq_zero (by simpa using hl)
  subst this
  exact⟨G.Im,[],rfl,rfl,by simp,by simp,by simpa using H,aQ.refl _ _ _ _,rfl,rfl,fun _ _ h=>h⟩
 |x::xs,σ,σ2,G,tk,es,o,vs,H,hx,hl,hc,hr=>by
  simp only[St.jK] at hx
  split at hx
  ·rename_i ag cs pj
   split at hx
   ·rename_i bo
    split at hx
    ·rename_i e o1 σ1 e1
     split at hx
     ·rename_i es' o2 QA e2
      injection hx with hx
      injection hx with lF dD
      injection dD with dD nc
      subst lF dD nc
      match vs,hl with
      |v::vs,hl=>
       have bq:=(hc 0 x v rfl rfl).cells pj
       obtain⟨vq,bk,a1,a2,a3,a5,a6,a7,a8,a9⟩:=H.eS e1 bq (fun c' cN m hm=>hr x (by simp) m (ai.vG pj cN hm))
       rw[<-a8] at a5
       obtain⟨Ay,pes,b1,b2,b3,b3',b4,b5,b6,b7,b8⟩:=HR.jK (xs:=xs) (vs:=vs) a5 e2 (by simpa using hl)
        (fun j x v h1 h2=>(hc (j+1) x v h1 h2).eI a6 (fun m hm=>hr x (by simp[List.mem_of_getElem? h1]) m hm)) (fun x' gk m hm=>by rw[a8];exact hr x' (by simp[gk]) m hm)
       refine⟨Ay,bk::pes,by simp[a1,b1],by simp[a2,b2],fun q hq=>?_,fun q hq pc bc=>?_,?_,aQ.trans (fun n hn=>by rw[a8];exact hn) a6 b5,b6.trans a7,b7.trans a8,fun n b hb=>a9 n b (b8 n b hb)⟩
       ·cases hq with
        |head=>
         have:(bk.map PC.er).length=(v.cells.toList).length:=by rw[<-a2];simp
         have h2:=bq.1
         simp at this
         simp at h2
         omega
        |tail _ hq=>exact b3 q hq
       ·cases hq with
        |head=>exact⟨(a3 pc bc).1,fun b hb=>b5.im b ((a3 pc bc).2 b hb)⟩
        |tail _ hq=>exact b3' q hq pc bc
       ·rw[a8] at b4
        cases o1<;>cases o2<;>simp at b4⊢
        ·exact b4
        ·exact b4.vg
        ·exact b4.vg
        ·exact b4
     ·cases hx
    ·cases hx
   ·cases hx
  ·cases hx
def il (b:Nat) (pc:PC):Prop:=aM b pc\/∃sz o cap xs,pc=.list sz (some (ad b o)) cap xs/\cap≠0
def AH (w:World):PC->Prop
 |.list sz a cap xs=>0<sz/\xs.length<=cap/\(cap=0\/∃b o cur e,a=some (ad b o)/\w.heap[b]? =some (.cells cur e (0,0))/\cur.size=o+cap*sz/\cap<=maxLen/\∀k j c,At xs k j c->¬aM b c)
 |_=>True
structure xT (w:World) (B':Nat) (ps:List PC):Prop where
 dA:∀pc∈ps,Good w pc/\Sep pc/\AH w pc
 new:∀pc∈ps,∀b,il b pc->B'<=b/\dm w b
 lm:∀(i j:Nat) (pc dd:PC) (b:Nat),i≠j->ps[i]? =some pc->ps[j]? =some dd->il b pc->¬il b dd
def oJ:K×List PC->Value
 |(.one,[pc])=>pc.val
 |(_,bk)=>.agg (bk.map PC.val).toArray
def sZ:List (K×List PC)->Value
 |[p]=>oJ p
 |l=>.tuple (l.map oJ).toArray
def dO (P:Program) (f:FuncId) (M:List Dv->Option (List Dv)):Prop:=
 ∀ds rs,M ds=some rs->∀(w:World) (vals:List Value),Dj w ds vals->Calls P f vals.toArray w fun e w'=>
  ∃aT:List (K×List PC),aT.map (fun p=>(p.1,p.2.map PC.er))=rs/\e=.returned (sZ aT)/\(∀p∈aT,p.1≠ .ptr/\(p.1=.one->p.2.length=1))/\
   xT w' w.heap.size (aT.flatMap (·.2))/\Fr w.heap.size Ex.no w w'
end
end Go.Am
end
section
namespace Go.Am
section
variable {B:Nat} {E:Ex} {w0 w w':World} {G G':Gh} {h h':Nat->Option ak} {used used':Nat->Bool} {tk:List PC} {N:Nat}
def mP (G:Gh) (h:Nat->Option ak) (b:Nat):Prop:=
 ¬G.Im b/\(∀n,h n≠none->(G.g n).nl=false->(G.g n).b≠b)/\∀n gr m sz xs,h n=some (.row gr m sz xs)->¬aN b (G.g n).px
theorem HR.Mw (H:HR B E w G h used tk):mP G h w.heap.size:=
 ⟨fun hi=>Nat.lt_irrefl _ (H.fv _ hi),fun n hn hl he=>by have:=(H.own n hn hl).2.2;omega,fun n gr m sz xs hn hb=>Nat.lt_irrefl _ (H.oK hn hb)⟩
def ZS (B:Nat) (E:Ex) (w w':World) (G:Gh) (h:Nat->Option ak) (p:PB):ak->Prop
 |.box cs=>p.nl=false/\dm w' p.b/\∀(j:Nat) (c:ae),cs[j]? =some c->∃v,w'.cell? (ad p.b (p.o+j))=some v/\v.oneCell'=true/\RC w G h c v
 |.row gr m sz xs=>rS B E w' G gr m sz xs p
theorem aQ.insert (H:HR B E w G h used tk) {n:Nat} {blk:ak} {p:PB} (hn:used n=false) (hw:∀b,b<w.heap.size->w'.heap[b]? =w.heap[b]?):
  aQ w G h (fun n=>used n=true) w' ⟨G.Im,aq G.g n p⟩ (aq h n (some blk)):=by
 have ne:∀m,used m=true->m≠n:=fun m hm e=>by subst e;rw[hn] at hm;cases hm
 refine⟨fun _ h=>h,fun b hb o=>gL (hw b (H.fv b hb)) o,fun m hm h0=>?_,fun m gr sz xs hm h0=>?_⟩
 ·rw[cd _ _ _ _ (ne m hm)] at h0
  simp only[cd _ _ _ _ (ne m hm)]
  exact⟨h0,trivial,trivial,trivial,trivial,trivial⟩
 ·rw[cd _ _ _ _ (ne m hm)] at h0
  simp only[cd _ _ _ _ (ne m hm)]
  exact⟨⟨gr,xs,h0⟩,fun k j pc h1 h2=>⟨pc,h1,rfl,h2⟩⟩
theorem HR.insert (H:HR B E w G h used tk) {n:Nat} {blk:ak} {p:PB} (hn:used n=false) (hw:∀b,b<w.heap.size->w'.heap[b]? =w.heap[b]?) (bo:w.heap.size<=w'.heap.size)
  (hl:p.nl=false->mP G h p.b/\(B<=p.b\/E p.b)/\p.b<w'.heap.size)
  (uf:∀cs c m,blk=.box cs->c∈cs->c.ref m->used m=true)
  (gh:ZS B E w w' G h p blk)
  (Fg:∀gr m sz xs,blk=.row gr m sz xs->m≠ .aF->∀n' aU m' aC ao,h n'=some (.row aU m' aC ao)->m'≠ .aF->∀b,aN b p.px->¬aN b (G.g n').px)
  (qQ:∀gr sz xs,blk=.row gr .live sz xs->∀b,aN b p.px->(p.nl=false->b≠p.b)/\∀n',h n'≠none->(G.g n').nl=false->b≠(G.g n').b)
  (yX:∀gr m sz xs,blk=.row gr m sz xs->m≠ .aF->∀(i:Nat) (pc:PC) (b:Nat),tk[i]? =some pc->aM b pc->¬aN b p.px):
  HR B E w' ⟨G.Im,aq G.g n p⟩ (aq h n (some blk)) (aq used n true) tk:=by
 have K:=aQ.insert H (blk:=blk) (p:=p) hn hw
 have KC:h n=none:=by
  cases hh:h n with
  |none=>rfl
  |some b=>have:=H.gN n (by rw[hh];simp);rw[hn] at this;cases this
 have av:∀m,h m≠none->m≠n:=fun m hm e=>by subst e;exact hm KC
 have hu:∀m,used m=true->aq used n true m=true:=fun m hm=>by
  simp only[ik];split
  ·rfl
  ·exact hm
 refine H.put (fun b hb _=>hw b hb) bo (fun b hb hU=>hU.congr (hw b hb)) hu (bu _ _ _) (fun hp=>⟨(hl hp).1.1,(hl hp).2⟩) (fun hp m hm h0 lA=>(hl hp).1.2.1 m h0 lA)
  (fun hp m gr sz xs hm h0 b hb he=>(hl hp).1.2.2 m gr _ sz xs h0 (he▸hb)) (fun cs c m hb hc hr=>hu m (uf cs c m hb hc hr)) K ?_
  (fun gr m sz xs hb hm n' aU m' aC ao _ h0=>Fg gr m sz xs hb hm n' aU m' aC ao h0) (fun gr sz xs hb b cz=>⟨(qQ gr sz xs hb b cz).1,fun n' _=>(qQ gr sz xs hb b cz).2 n'⟩) yX
  (fun hp _ b hb he=>by obtain⟨m,gr,mo,sz,xs,_,h0,cz⟩:=hb;exact(hl hp).1.2.2 m gr mo sz xs h0 (he▸cz))
 cases blk with
 |box cs=>
  obtain⟨a1,a2,a3⟩:=gh
  refine⟨a1,a2,fun j c hj=>?_⟩
  obtain⟨v,b1,b2,b3⟩:=a3 j c hj
  exact⟨v,b1,b2,b3.eI K fun m hm=>uf cs c m rfl (List.mem_of_getElem? hj) hm⟩
 |row gr m sz xs=>
  have hr:rS B E w' G gr m sz xs p:=gh
  exact⟨hr.pos,hr.er,hr.nl,hr.dv,hr.room,by
   have:=hr.mode
   cases m<;>exact this⟩
theorem R.put {σ:St} {a:Act} (r:R B E w0 N σ a w G) {x:ai} {v:Value} (hv:RA w G σ.h x v) (hr:∀m,x.ref m->σ.used m=true) {d:Option Nat} (hd:∀n,d=some n->n<N):
  R B E w0 N (σ.put d x) (a.put d v) w G:=by
 cases d with
 |none=>exact r
 |some n=>
  have hn:=hd n rfl
  refine⟨r.defers,by simp[Act.put,r.size],fun s=>?_,fun s m hm=>?_,r.hr,r.fr,r.rq,r.wW⟩
  ·simp only[St.put,Act.put]
   by_cases hs:s=n
   ·subst hs
    rw[bu]
    have:(a.tmps.setIfInBounds s v).getD s undef=v:=by
     simp[Array.getD_eq_getD_getElem?,r.size,hn]
    rw[this]
    exact hv
   ·rw[cd _ _ _ _ hs]
    have:(a.tmps.setIfInBounds n v).getD s undef=a.tmps.getD s undef:=by
     simp[Array.getD_eq_getD_getElem?,Array.getElem?_setIfInBounds_ne (Ne.symm hs)]
    rw[this]
    exact r.env s
  ·simp only[St.put] at hm⊢
   by_cases hs:s=n
   ·subst hs;rw[bu] at hm;exact hr m hm
   ·rw[cd _ _ _ _ hs] at hm;exact r.qj s m hm
theorem R.step {σ:St} {a:Act} (r:R B E w0 N σ a w G) {σ':St} (he:σ'.env=σ.env) (hu:∀m,σ.used m=true->σ'.used m=true) (K:aQ w G σ.h (fun n=>σ.used n=true) w' G' σ'.h)
  (H:HR B E w' G' σ'.h σ'.used []) (F:Fr B E w0 w'):R B E w0 N σ' a w' G':=
 ⟨r.defers,r.size,fun s=>by rw[he];exact(r.env s).eI K (fun m hm=>r.qj s m hm),fun s m hm=>by rw[he] at hm;exact hu m (r.qj s m hm),H,F,
  fun n p b hp hb=>by
   have y3:=r.wW n (E.lt n p hp)
   obtain⟨k0,k1,k2,k3,k4,k6⟩:=K.name n y3 (by rw[hb];simp)
   cases h0:σ.h n with
   |none=>exact absurd h0 k0
   |some b0=>
    obtain⟨p1,p2,p3,p4,p6,p5⟩:=r.rq n p b0 hp h0
    refine⟨k1.trans p1,k2.trans p2,k3.trans p3,k4.trans p4,k6.trans p6,fun gr sz xs Bw k j pc hk hL=>?_⟩
    subst Bw
    obtain⟨⟨vZ,ju,e0⟩,hl⟩:=K.live n gr sz xs y3 hb
    rw[h0] at e0
    injection e0 with e0
    obtain⟨pc1,q1,q2,q3⟩:=p5 vZ sz ju e0 k j pc hk hL
    obtain⟨pc2,q4,q5,q6⟩:=hl k j pc1 q1 q3
    exact⟨pc2,q4,q5.trans q2,q6⟩,
  fun n hn=>hu n (r.wW n hn)⟩
end
def Eo:Value->ae->Bool
 |.int k n,.c (.int k' n')=>decide (k=k')&&decide (n=n')
 |.bool b,.c (.bool b')=>decide (b=b')
 |.slice none 0 0,.nil sz=>true
 |.pointer none,.bg=>true
 |_,_=>false
def qz:List Value->List ae->Bool
 |[],[]=>true
 |v::vs,c::cs=>Eo v c&&qz vs cs
 |_,_=>false
def bi:Operand->MO->Bool
 |.tmp n,.t m=>n==m
 |.const (.agg vs),.k (.agg cs)=>qz vs.toList cs
 |.const v,.k (.one c)=>Eo v c
 |_,_=>false
section
variable {B:Nat} {E:Ex} {w0 w w':World} {G G':Gh} {h h':Nat->Option ak} {used used':Nat->Bool} {tk:List PC} {N:Nat}
theorem RL {v:Value} {c:ae} (hc:Eo v c=true):RC w G h c v/\v.oneCell'=true/\∀m,¬c.ref m:=by
 unfold Eo at hc
 split at hc
 ·simp at hc
  obtain⟨rfl,rfl⟩:=hc
  exact⟨⟨.int _ _,rfl,rfl,.int _ _,fun b hb=>by cases hb⟩,rfl,fun m hm=>hm⟩
 ·simp at hc
  subst hc
  exact⟨⟨.bool _,rfl,rfl,.bool _,fun b hb=>by cases hb⟩,rfl,fun m hm=>hm⟩
 ·exact⟨rfl,rfl,fun m hm=>hm⟩
 ·exact⟨trivial,rfl,fun m hm=>hm⟩
 ·cases hc
theorem Ep:∀{vs:List Value} {cs:List ae},qz vs cs=true->cL w G h cs vs/\∀c∈cs,∀m,¬c.ref m
 |[],[],_=>⟨⟨rfl,by simp⟩,by simp⟩
 |v::vs,c::cs,hc=>by
  simp only[qz,Bool.and_eq_true] at hc
  obtain⟨a1,a2,a3⟩:=RL (w:=w) (G:=G) (h:=h) hc.1
  obtain⟨⟨b1,b2⟩,b3⟩:=Ep hc.2
  refine⟨⟨by simp[b1],fun j c' u hj hu=>?_⟩,fun c' cN=>?_⟩
  ·cases j with
   |zero=>simp at hj hu;subst hj;subst hu;exact⟨a2,a1⟩
   |succ j=>exact b2 j c' u (by simpa using hj) (by simpa using hu)
  ·cases cN with
   |head=>exact a3
   |tail _ cN=>exact b3 c' cN
 |[],_::_,hc=>by simp[qz] at hc
 |_::_,[],hc=>by simp[qz] at hc
theorem RV.fi {c:ae} {v:Value} (h1:v.oneCell'=true) (h2:RC w G h c v):RV w G h false [c] v:=by
 show cL w G h [c] [v]
 exact⟨rfl,fun j c' u hj hu=>by
  cases j with
  |zero=>simp at hj hu;subst hj;subst hu;exact⟨h1,h2⟩
  |succ j=>simp at hj⟩
theorem RA.fi {c:ae} {v:Value} (h1:v.oneCell'=true) (h2:RC w G h c v):RA w G h (.one c) v:=.inr (RV.fi h1 h2)
theorem R.ev {σ:St} {a:Act} (r:R B E w0 N σ a w G) {x:Operand} {m:MO} (hc:bi x m=true):RA w G σ.h (σ.ev m) (a.eval x)/\∀n,(σ.ev m).ref n->σ.used n=true:=by
 unfold bi at hc
 split at hc
 ·simp at hc
  subst hc
  exact⟨r.env _,fun n hn=>r.qj _ n hn⟩
 ·rename_i vs cs
  obtain⟨b1,b2⟩:=Ep (w:=w) (G:=G) (h:=σ.h) hc
  exact⟨⟨vs.toList,by simp[Act.eval],b1⟩,fun n hn=>by obtain⟨c,hc,hm⟩:=hn;exact absurd hm (b2 c hc n)⟩
 ·obtain⟨a1,a2,a3⟩:=RL (w:=w) (G:=G) (h:=σ.h) hc
  exact⟨RA.fi a2 a1,fun n hn=>absurd hn (a3 n)⟩
 ·cases hc
theorem lR {P:Program} {o:Oper} {a:Act} {v:Value} {K:Act->World->Prop} {Q:Exit->Act->World->Prop} (hr:(execOp a.eval o).run P w=.ok (.value v) w') (hK:K (a.put o.dst v) w'):o.wp P a w K Q:=by
 unfold Oper.wp
 rw[hr]
 exact hK
theorem HN {P:Program} {o:Oper} {a:Act} {K:Act->World->Prop} {Q:Exit->Act->World->Prop} (hr:(execOp a.eval o).run P w=.ok .skip w') (hK:K (a.put o.dst undef) w'):o.wp P a w K Q:=by
 unfold Oper.wp
 rw[hr]
 exact hK
end
end Go.Am
end
section
namespace Go.Am
section
variable {B:Nat} {E:Ex} {w0 w w':World} {G G':Gh} {h h':Nat->Option ak} {used used':Nat->Bool} {tk:List PC} {N:Nat}
variable {P:Program} {o:Oper} {a:Act} {σ σ':St} {Q:Exit->Act->World->Prop}
def Nx (B:Nat) (E:Ex) (w0:World) (N:Nat) (σ:St):Act->World->Prop:=fun a w=>∃G,R B E w0 N σ a w G
theorem IF (w:World) (ob:Obj) (b:Nat) (hb:b<w.heap.size):(w.alloc ob).heap[b]? =w.heap[b]? :=heap_alloc_old w ob b hb
theorem dm.alloc (w:World) (arr:Array Value) (e:TypeId):dm (w.alloc (.cells arr e)) w.heap.size:=⟨arr,e,heap_alloc_new w _⟩
theorem j8 {σ1:St} {n:Nat} {b:ak} (hx:σ.ins n b=some σ1):σ.used n=false/\σ1={σ with h:=aq σ.h n (some b),used:=aq σ.used n true}:=by
 unfold St.ins at hx
 split at hx
 ·cases hx
 ·rename_i hu
  injection hx with hx
  exact⟨by simpa using hu,hx.symm⟩
theorem oT (n m:Nat) (hm:used m=true):aq used n true m=true:=by
 simp only[ik];split
 ·rfl
 ·exact hm
theorem R.Xg (r:R B E w0 N σ a w G) {n:Nat} {cs:List ae} {vs:List Value} {e:TypeId} (hn:σ.used n=false) (hc:cL w G σ.h cs vs) (gE:∀c∈cs,∀m,c.ref m->σ.used m=true):
  ∃G',R B E w0 N {σ with h:=aq σ.h n (some (.box cs)),used:=aq σ.used n true} a (w.alloc (.cells vs.toArray e)) G'/\
   RA (w.alloc (.cells vs.toArray e)) G' (aq σ.h n (some (.box cs))) (.one (.ptr n 0 0 0)) (.pointer (some (ad w.heap.size 0))):=by
 have H:=r.hr
 have hB:=r.fr.size
 have hw:=IF w (.cells vs.toArray e)
 refine⟨⟨G.Im,aq G.g n ⟨false,w.heap.size,0,0,[],none⟩⟩,r.step rfl (fun m hm=>oT n m hm) (aQ.insert H hn hw) ?_ (r.fr.grow hw (by simp) rfl rfl rfl),?_⟩
 ·refine H.insert hn hw (by simp) (fun _=>⟨H.Mw,.inl hB,by simp⟩) (fun cs' c m hb cN hm=>?_) ⟨rfl,dm.alloc _ _ _,fun j c hj=>?_⟩ (fun gr m sz xs hb=>by cases hb) (fun gr sz xs hb=>by cases hb) (fun gr m sz xs hb=>by cases hb)
  ·injection hb with hb;subst hb;exact gE c cN m hm
  ·have pF:j<vs.length:=by rw[hc.1];exact(List.getElem?_eq_some_iff.1 hj).1
   have hv:vs[j]? =some vs[j]:=List.getElem?_eq_getElem pF
   obtain⟨q1,q2⟩:=hc.2 j c _ hj hv
   refine⟨vs[j],?_,q1,q2⟩
   simp only[Nat.zero_add]
   unfold ad
   rw[World.cell?_alloc_new]
   simp only[List.getElem?_toArray];exact hv
 ·exact RA.fi rfl fun _=>by simp[bu]
theorem abg (r:R B E w0 N σ a w G) {n:Nat} {e:TypeId} {i:TypeInfo} {z:Value} {zs:List ae} {σ1:St} (ho:o.op=.alloc e) (hd:o.dst=some n) (hN:n<N)
  (hi:P.info? e=some i) (hz:i.zero=some z) (hc:qz z.cells.toList zs=true) (hx:σ.ins n (.box zs)=some σ1):
  o.wp P a w (Nx B E w0 N (σ1.put o.dst (.one (.ptr n 0 0 0)))) Q:=by
 obtain⟨hn,rfl⟩:=j8 hx
 obtain⟨bq,gE⟩:=Ep (w:=w) (G:=G) (h:=σ.h) hc
 obtain⟨G',r',hv⟩:=r.Xg (e:=e) hn bq (fun c hc m hm=>absurd hm (gE c hc m))
 have bH:(execOp a.eval o).run P w=.ok (.value (.pointer (some (ad w.heap.size 0)))) (w.alloc (.cells z.cells.toList.toArray e)):=by
  simp[execOp,ho,Instr.alloc,zeroValue,typeInfo,hi,hz,newVar,newRow,ad]
 exact lR bH ⟨G',r'.put hv (fun m hm=>by have bx:m=n:=hm;subst bx;exact bu _ _ _) (fun m hm=>by rw[hd] at hm;injection hm with hm;omega)⟩
theorem abk (r:R B E w0 N σ a w G) {n:Nat} {e:TypeId} {x:Operand} {m:MO} {ag:Bool} {cs:List ae} {σ1:St} (ho:o.op=.box e x) (hd:o.dst=some n) (hN:n<N)
  (hm:bi x m=true) (eF:(σ.ev m).cells?=some (ag,cs)) (hx:σ.ins n (.box cs)=some σ1):
  o.wp P a w (Nx B E w0 N (σ1.put o.dst (.one (.ptr n 0 0 0)))) Q:=by
 obtain⟨hn,rfl⟩:=j8 hx
 obtain⟨hv,gE⟩:=r.ev hm
 obtain⟨G',r',eO⟩:=r.Xg (e:=e) hn (hv.cells eF) (fun c hc q hq=>gE q (ai.vG eF hc hq))
 have bH:(execOp a.eval o).run P w=.ok (.value (.pointer (some (ad w.heap.size 0)))) (w.alloc (.cells (a.eval x).cells.toList.toArray e)):=by
  simp[execOp,ho,Instr.box,newVar,newRow,ad]
 exact lR bH ⟨G',r'.put eO (fun q hq=>by have dB:q=n:=hq;subst dB;exact bu _ _ _) (fun q hq=>by rw[hd] at hq;injection hq with hq;omega)⟩
theorem rV {α:Type} {sz:Nat}:∀{px:List (List α)} (_:∀e∈px,e.length=sz) {k j:Nat} {c:α},At px k j c->px.flatten[k*sz+j]? =some c
 |[],_,k,j,c,hk=>by obtain⟨e,he,_⟩:=hk;simp at he
 |e::px,hl,k,j,c,hk=>by
  obtain⟨e',he,hj⟩:=hk
  have h0:=hl e (by simp)
  cases k with
  |zero=>
   simp at he
   subst he
   have pF:=(List.getElem?_eq_some_iff.1 hj).1
   simp only[List.flatten_cons,Nat.zero_mul,Nat.zero_add]
   rw[List.getElem?_append_left pF]
   exact hj
  |succ k=>
   have ih:=rV (px:=px) (fun e he=>hl e (by simp[he])) (k:=k) (j:=j) (c:=c) ⟨e',by simpa using he,hj⟩
   simp only[List.flatten_cons]
   rw[List.getElem?_append_right (by rw[h0,Nat.add_mul];omega)]
   rw[show(k+1)*sz+j - e.length=k*sz+j by rw[h0,Nat.add_mul];omega]
   exact ih
structure AB (B:Nat) (E:Ex) (w:World) (G:Gh) (h:Nat->Option ak) (m:Mode) (pes:List (List PC)):Prop where
 lp:∀b,aN b pes->G.Im b/\dm w b/\(B<=b\/E b)
 sep:gx pes
 fg:∀n gr m sz xs,h n=some (.row gr m sz xs)->m≠ .aF->∀b,aN b pes->¬aN b (G.g n).px
 kind:m=.aj\/∀b,¬aN b pes
theorem aac {α:Type} {sz:Nat} (bo:0<sz) {pes:List (List α)} (hl:∀e∈pes,e.length=sz) {k j k' j':Nat} {c c':α} (h1:At pes k j c) (h2:At pes k' j' c') (av:(k,j)≠(k',j')):k*sz+j≠k'*sz+j':=by
 intro dM
 have hj:j<sz:=by obtain⟨e1,he,hj⟩:=h1;rw[<-hl e1 (List.mem_of_getElem? he)];exact(List.getElem?_eq_some_iff.1 hj).1
 have jd:j'<sz:=by obtain⟨e1,he,hj⟩:=h2;rw[<-hl e1 (List.mem_of_getElem? he)];exact(List.getElem?_eq_some_iff.1 hj).1
 have hk:k=k':=by
  have h3:(k*sz+j)/sz=k:=by rw[Nat.mul_comm,Nat.mul_add_div bo,Nat.div_eq_of_lt hj];omega
  have h4:(k'*sz+j')/sz=k':=by rw[Nat.mul_comm,Nat.mul_add_div bo,Nat.div_eq_of_lt jd];omega
  rw[dM] at h3
  omega
 subst hk
 exact av (by rw[show j=j' by omega])
theorem HR.air {pes:List (List PC)} {sz:Nat} (bo:0<sz) (hl:∀e∈pes,e.length=sz) (H:HR B E w G h used pes.flatten):AB B E w G h .aj pes:=by
 refine⟨?_,⟨fun k j c hk=>(H.oQ _ c (rV hl hk)).1,fun k j c k' j' c' b hk cC av hb=>H.tg _ _ c c' b (aac bo hl hk cC av) (rV hl hk) (rV hl cC) hb⟩,?_,.inl rfl⟩
 ·rintro b ⟨k,j,c,hk,hb⟩
  exact(H.oQ _ c (rV hl hk)).2 b hb
 ·rintro n gr m sz xs hn hm b ⟨k,j,c,hk,hb⟩
  exact H.oR _ c n gr m sz xs b (rV hl hk) hn hm hb
theorem Sep.CD {w:World} {q:PC} (hq:∀b,¬aM b q) (hg:Good w q):Sep q:=by
 induction hg with
 |int k n=>exact .int k n
 |bool b=>exact .bool b
 |nil sz a cap h=>exact .list _ _ _ _ (by rintro k j c ⟨e,he,_⟩;simp at he) (by rintro b o k j c _ ⟨e,he,_⟩;simp at he) (by rintro k j c k' j' c' b ⟨e,he,_⟩;simp at he)
 |cons sz b o cap xs h1 h2 h3 h4 h5 h6 ih=>exact absurd (.here _ _ _ _ h1) (hq b)
theorem AB.CD {m:Mode} {pes:List (List PC)} (cq:∀b,¬aN b pes) (hg:∀k j c,At pes k j c->Good w c):AB B E w G h m pes:=
 ⟨fun b hb=>absurd hb (cq b),⟨fun k j c hk=>Sep.CD (fun b hb=>cq b ⟨k,j,c,hk,hb⟩) (hg k j c hk),fun k j c k' j' c' b hk _ _ hb=>absurd ⟨k,j,c,hk,hb⟩ (cq b)⟩,fun n gr m sz xs _ _ b hb=>absurd hb (cq b),.inr cq⟩
theorem R.newRow (r:R B E w0 N σ a w G) {Im':Nat->Prop} {σ1:St} (H:HR B E w ⟨Im',G.g⟩ σ1.h σ.used []) (K:aQ w G σ.h (fun n=>σ.used n=true) w ⟨Im',G.g⟩ σ1.h)
  (wg:σ1.env=σ.env) (j0:σ1.used=σ.used)
  {n:Nat} {m:Mode} {sz cap:Nat} {pes:List (List PC)} {arr:Array Value} {e:TypeId} (hn:σ.used n=false) (bo:0<sz) (hl:∀e∈pes,e.length=sz)
  (gO:∀k j c,At pes k j c->Good w c/\∀b,aM b c->Im' b) (sq:∀k j c,At pes k j c->arr[k*sz+j]? =some c.val) (hH:pes.length<=cap) (wu:cap<=maxLen) (sF:arr.size=cap*sz)
  (hm:m=.aF\/AB B E w ⟨Im',G.g⟩ σ1.h m pes):
  ∃G',R B E w0 N {σ1 with h:=aq σ1.h n (some (.row true m sz (pes.map fun e=>e.map PC.er))),used:=aq σ1.used n true} a (w.alloc (.cells arr e)) G'/\
   RA (w.alloc (.cells arr e)) G' (aq σ1.h n (some (.row true m sz (pes.map fun e=>e.map PC.er)))) (.one (.sl n sz 0 pes.length)) (.slice (some (ad w.heap.size 0)) pes.length cap):=by
 have hB:=r.fr.size
 have hw:=IF w (.cells arr e)
 have ZN:HR B E (w.alloc (.cells arr e)) ⟨Im',aq G.g n ⟨false,w.heap.size,0,cap,pes,none⟩⟩ (aq σ1.h n (some (.row true m sz (pes.map fun e=>e.map PC.er)))) (aq σ.used n true) []:=by
  refine H.insert (p:=⟨false,w.heap.size,0,cap,pes,none⟩) hn hw (by simp) (fun _=>⟨H.Mw,.inl hB,by simp⟩) (fun cs c m hb=>by cases hb) ?_ ?_ ?_ (fun gr m sz xs _ _ i pc b hi=>by simp at hi)
  ·refine⟨bo,rfl,(fun hl=>by cases hl),fun _=>⟨dm.alloc _ _ _,⟨hl,fun k j c hk=>?_,fun k j c hk=>?_⟩,hH⟩,fun _ _=>⟨wu,arr,e,heap_alloc_new w _,(Nat.zero_add _).symm▸sF⟩,?_⟩
   ·simp only[Nat.zero_add]
    unfold ad
    rw[World.cell?_alloc_new]
    exact sq k j c hk
   ·exact(gO k j c hk).1.congr fun b hb o=>gL (hw b (H.fv b ((gO k j c hk).2 b hb))) o
   ·have kK:m≠ .aF->(∀b,aN b pes->Im' b/\dm (w.alloc (.cells arr e)) b/\(B<=b\/E b))/\gx pes:=fun gi=>
     ⟨fun b hb=>by
      have hO:=hm.resolve_left gi
      obtain⟨q1,q2,q3⟩:=hO.lp b hb
      exact⟨q1,q2.congr (hw b (H.fv b q1)),q3⟩,(hm.resolve_left gi).sep⟩
    cases m with
    |aF=>
     rintro b ⟨k,j,c,hk,hb⟩
     exact(gO k j c hk).2 b hb
    |aj=>exact kK (by simp)
    |live=>
     have hO:=hm.resolve_left (by simp)
     have cq:=hO.kind.resolve_left (by simp)
     exact⟨fun b hb=>absurd hb (cq b),hO.sep⟩
  ·intro gr m' aC ao hb gi n' aU kR iS gw h0 ia b cz
   injection hb with _ hb _ _
   subst hb
   exact(hm.resolve_left gi).fg n' aU kR iS gw h0 ia b cz
  ·intro gr aC ao hb b cz
   injection hb with _ hb _ _
   subst hb
   exact absurd cz ((hm.resolve_left (by simp)).kind.resolve_left (by simp) b)
 have K2:=aQ.trans (u2:=fun n=>σ.used n=true) (fun _ h=>h) K (aQ.insert H (blk:=.row true m sz (pes.map fun e=>e.map PC.er)) (p:=⟨false,w.heap.size,0,cap,pes,none⟩) hn hw)
 refine⟨⟨Im',aq G.g n ⟨false,w.heap.size,0,cap,pes,none⟩⟩,r.step wg (fun m hm=>by rw[j0];exact oT n m hm) K2 (by rw[j0];exact ZN) (r.fr.grow hw (by simp) rfl rfl rfl),?_⟩
 refine RA.fi rfl fun _=>.inr ⟨by simp[bu],some (ad w.heap.size 0),?_,?_,?_⟩
 ·simp[bu]
 ·simp[bu];omega
 ·simp[bu]
end
end Go.Am
end
