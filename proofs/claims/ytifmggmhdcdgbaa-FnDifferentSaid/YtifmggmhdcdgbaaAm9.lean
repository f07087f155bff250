/- Am6, Am7, Am8, Am9: parts of the proof. No condition. -/
import Derived.Test.YtifmggmhdcdgbaaAm5
set_option linter.unusedVariables false
section
namespace Go.Am
section
variable {B:Nat} {E:Ex} {w0 w w':World} {G G':Gh} {h h':Nat->Option ar} {used used':Nat->Bool} {tk:List PC}
theorem aW.qb (S:Nat->Prop) (u:Nat->Prop):aW w G h u w ⟨fun b=>G.Im b\/S b,G.g⟩ h:=
 ⟨fun _ h=>.inl h,fun _ _ _=>rfl,fun _ _ h=>⟨h,rfl,rfl,rfl,rfl,rfl⟩,fun n gr sz xs _ hn=>⟨⟨gr,xs,hn⟩,fun k j pc h1 h2=>⟨pc,h1,rfl,h2⟩⟩⟩
theorem HR.qb (H:HR B E w G h used tk) (S:Nat->Prop) (h1:∀b,S b->b<w.heap.size) (h2:∀b,S b->∀n,h n≠none->(G.g n).nl=false->b≠(G.g n).b)
  (h3:∀b,S b->∀n gr sz xs,h n=some (.row gr .live sz xs)->¬aS b (G.g n).px) (h4:∀b,S b->B<=b\/E b\/E.a b):HR B E w ⟨fun b=>G.Im b\/S b,G.g⟩ h used tk:=by
 refine⟨H.iS,H.gy,fun n cs hn=>?_,fun n gr m sz xs hn=>?_,fun n hn hl=>?_,H.inj,?_,fun b hb=>hb.elim (H.oT b) (h4 b),H.fv,H.live,fun i pc hi=>?_,H.vo,H.qH⟩
 ·obtain⟨a1,a2,a3⟩:=H.box n cs hn
  refine⟨a1,a2,fun j c hj=>?_⟩
  obtain⟨v,b1,b2,b3⟩:=a3 j c hj
  exact⟨v,b1,b2,b3.eM (aW.qb S (fun n=>used n=true)) fun q hq=>H.gy n cs c q hn (List.mem_of_getElem? hj) hq⟩
 ·have hr:=H.row n gr m sz xs hn
  refine⟨hr.pos,hr.er,hr.nl,hr.dD,hr.room,?_⟩
  have hm:=hr.mode
  cases m with
  |aA=>exact fun b hb=>.inl (hm b hb)
  |ab=>exact⟨fun b hb=>⟨.inl (hm.1 b hb).1,(hm.1 b hb).2⟩,hm.2⟩
  |live=>exact⟨fun b hb=>⟨fun hi=>hi.elim (hm.1 b hb).1 (fun hs=>h3 b hs n gr sz xs hn hb),(hm.1 b hb).2⟩,hm.2⟩
 ·obtain⟨a1,a2,a3⟩:=H.own n hn hl
  exact⟨fun hi=>hi.elim a1 (fun hs=>h2 _ hs n hn hl rfl),a2,a3⟩
 ·exact fun b hb=>hb.elim (H.fI b) (h1 b)
 ·obtain⟨a1,a2⟩:=H.qG i pc hi
  exact⟨a1,fun b hb=>⟨.inl (a2 b hb).1,(a2 b hb).2⟩⟩
theorem HR.xy {l:List PC} (H:HR B E w G h used (tk++l)):HR B E w G h used tk:=by
 have e:∀(i:Nat) (pc:PC),tk[i]? =some pc->(tk++l)[i]? =some pc:=fun i pc hi=>by
  rw[List.getElem?_append_left (List.getElem?_eq_some_iff.1 hi).1];exact hi
 exact⟨H.iS,H.gy,H.box,H.row,H.own,H.inj,H.fI,H.oT,H.fv,H.live,fun i pc hi=>H.qG i pc (e i pc hi),fun i j pc c6 b j3 h1 h2=>H.vo i j pc c6 b j3 (e i pc h1) (e j c6 h2),
  fun i pc n gr m sz xs b hi=>H.qH i pc n gr m sz xs b (e i pc hi)⟩
theorem HR.UX (H:HR B E w G h used tk) {pc:PC} (h1:Sep pc) (h2:∀b,aP b pc->G.Im b/\dr w b/\(B<=b\/E b))
  (h3:∀(i:Nat) (q:PC) (b:Nat),tk[i]? =some q->aP b q->¬aP b pc)
  (h4:∀n gr m sz xs b,h n=some (.row gr m sz xs)->m≠ .aA->aP b pc->¬aS b (G.g n).px):HR B E w G h used (tk++[pc]):=by
 have e:∀(i:Nat) (q:PC),(tk++[pc])[i]? =some q->(i<tk.length/\tk[i]? =some q)\/(i=tk.length/\q=pc):=fun i q hi=>by
  rcases Nat.lt_trichotomy i tk.length with bH|dm|yG
  ·rw[List.getElem?_append_left bH] at hi;exact .inl ⟨bH,hi⟩
  ·subst dm;simp at hi;exact .inr ⟨rfl,hi.symm⟩
  ·rw[List.getElem?_eq_none (by simp;omega)] at hi;cases hi
 refine⟨H.iS,H.gy,H.box,H.row,H.own,H.inj,H.fI,H.oT,H.fv,H.live,fun i q hi=>?_,fun i j q q' b j3 hi hj hb=>?_,fun i q n gr m sz xs b hi hn hm hb=>?_⟩
 ·rcases e i q hi with⟨_,hi⟩|⟨_,rfl⟩
  ·exact H.qG i q hi
  ·exact⟨h1,h2⟩
 ·rcases e i q hi with⟨_,hi'⟩|⟨ei,eq⟩
  ·rcases e j q' hj with⟨_,iU⟩|⟨_,WI⟩
   ·exact H.vo i j q q' b j3 hi' iU hb
   ·rw[WI];exact h3 i q b hi' hb
  ·rcases e j q' hj with⟨_,iU⟩|⟨ej,WI⟩
   ·rw[eq] at hb;exact fun aT=>h3 j q' b iU aT hb
   ·omega
 ·rcases e i q hi with⟨_,hi⟩|⟨_,rfl⟩
  ·exact H.qH i q n gr m sz xs b hi hn hm hb
  ·exact h4 n gr m sz xs b hn hm hb
theorem Sep.kK {pc:PC} (hs:pc.er.d7=true):Sep pc/\∀b,¬aP b pc:=by
 cases pc with
 |int k n=>exact⟨.int k n,fun b hb=>by cases hb⟩
 |bool b=>exact⟨.bool b,fun b hb=>by cases hb⟩
 |list sz a cap xs=>simp[PC.dz,C.d7] at hs
theorem pz {n m:Nat} {b:ar} (hm:aw h n none m=some b):h m=some b/\m≠n:=by
 by_cases bz:m=n
 ·subst bz;rw[bA] at hm;cases hm
 ·rw[bZ _ _ _ _ bz] at hm;exact⟨hm,bz⟩
theorem Aj {n m:Nat} (hm:aw h n none m≠none):h m≠none/\m≠n:=by
 cases hh:aw h n none m with
 |none=>exact absurd hh hm
 |some b=>obtain⟨a,b⟩:=pz hh;exact⟨by rw[a];simp,b⟩
def Lj (p:PB):Nat->Prop:=fun b=>(p.nl=false/\b=p.b)\/aS b p.px
theorem HR.freeze (H:HR B E w G h used tk) {n:Nat} {gr:Bool} {m:Mode} {rs:Nat} {xs:List (List C)} (hn:h n=some (.row gr m rs xs)):
  HR B E w ⟨fun b=>G.Im b\/Lj (G.g n) b,G.g⟩ (aw h n none) used tk:=by
 have hr:=H.row n gr m rs xs hn
 have bJ:h n≠none:=by rw[hn];simp
 have gD:∀b,aS b (G.g n).px->G.Im b\/m=.live:=fun b hb=>by
  have hm:=hr.mode
  cases m with
  |aA=>exact .inl (hm b hb)
  |ab=>exact .inl (hm.1 b hb).1
  |live=>exact .inr rfl
 refine(H.del n).qb (Lj (G.g n)) (fun b hb=>?_) (fun b hb q hq hl=>?_) (fun b hb q bk aK av hq cg=>?_) (fun b hb=>?_)
 ·rcases hb with⟨h1,rfl⟩|hb
  ·exact(H.own n bJ h1).2.2
  ·exact H.qC hn hb
 ·obtain⟨lx,fi⟩:=Aj hq
  rcases hb with⟨h1,rfl⟩|hb
  ·exact H.inj n q bJ lx (Ne.symm fi) h1 hl
  ·rcases gD b hb with hi|rfl
   ·rintro rfl;exact(H.own q lx hl).1 hi
   ·exact H.live n gr rs xs hn b hb q lx hl
 ·obtain⟨lx,fi⟩:=pz hq
  rcases hb with⟨h1,rfl⟩|hb
  ·exact H.live q bk aK av lx _ cg n bJ h1 rfl
  ·rcases gD b hb with hi|rfl
   ·exact((H.row q bk .live aK av lx).mode.1 b cg).1 hi
   ·exact H.fv n q gr .live rs xs bk .live aK av hn lx (by simp) (by simp) (Ne.symm fi) b hb cg
 ·rcases hb with⟨h1,rfl⟩|hb
  ·exact(H.own n bJ h1).2.1.imp id .inl
  ·rcases gD b hb with hi|rfl
   ·exact H.oT b hi
   ·exact(hr.mode.1 b hb).2.2.imp id .inl
theorem g7.sub {px:List (List PC)} (hs:g7 px) (lo len:Nat):g7 ((px.drop lo).take len):=by
 refine⟨fun k j c hk=>hs.1 _ _ _ (oG hk).1,fun k j c k' j' c' b hk cX ax hb=>hs.2 _ _ _ _ _ _ b (oG hk).1 (oG cX).1 (fun e=>ax ?_) hb⟩
 injection e with e1 e2
 rw[show k=k' by omega,e2]
theorem HR.fO {σ σ1:St} (H:HR B E w G σ.h σ.used tk) {c:ai} {x:C} {o:Bool} {v:Value} (hx:σ.fO c=some (x,o,σ1)) (hc:RC w G σ.h c v):
  ∃(Im':Nat->Prop) (pc:PC),pc.er=x/\pc.val=v/\Good w pc/\(∀b,aP b pc->Im' b)/\
   HR B E w ⟨Im',G.g⟩ σ1.h σ.used (if o=true then tk++[pc] else tk)/\aW w G σ.h (fun n=>σ.used n=true) w ⟨Im',G.g⟩ σ1.h/\σ1.env=σ.env/\σ1.used=σ.used/\
   (∀n b,σ1.h n=some b->σ.h n=some b):=by
 cases c with
 |c y=>
  simp only[St.fO] at hx
  injection hx with hx
  injection hx with lz dV
  injection dV with dV oR
  subst lz dV oR
  obtain⟨pc,h1,h2,h3,h4⟩:=hc
  refine⟨G.Im,pc,h1,h2,h3,h4,?_,aW.refl _ _ _ _,rfl,rfl,fun _ _ h=>h⟩
  by_cases hs:y.d7=true
  ·rw[if_pos hs]
   obtain⟨s1,s2⟩:=Sep.kK (pc:=pc) (by rw[h1];exact hs)
   exact H.UX s1 (fun b hb=>absurd hb (s2 b)) (fun _ _ b _ _=>s2 b) (fun _ _ _ _ _ b _ _ hb=>absurd hb (s2 b))
  ·rw[if_neg hs];exact H
 |nil sz=>
  simp only[St.fO] at hx
  split at hx
  ·rename_i eE
   injection hx with hx
   injection hx with lz dV
   injection dV with dV oR
   subst lz dV oR
   have cj:v=.slice none 0 0:=hc
   subst cj
   have cb:∀b,¬aP b (.list sz none 0 []):=fun b hb=>by
    rw[aP.ka] at hb
    rcases hb with⟨hb,_⟩|⟨k,j,c,⟨e,he,_⟩,_⟩
    ·exact absurd rfl hb
    ·simp at he
   refine⟨G.Im,.list sz none 0 [],by simp[PC.dz],rfl,.nil _ _ _ eE,fun b hb=>absurd hb (cb b),?_,aW.refl _ _ _ _,rfl,rfl,fun _ _ h=>h⟩
   rw[if_pos rfl]
   refine H.UX (.list _ _ _ _ ?_ ?_ ?_) (fun b hb=>absurd hb (cb b)) (fun _ _ b _ _=>cb b) (fun _ _ _ _ _ b _ _ hb=>absurd hb (cb b))
   ·rintro k j c ⟨e,he,_⟩;simp at he
   ·rintro b o k j c _ ⟨e,he,_⟩;simp at he
   ·rintro k j c k' j' c' b ⟨e,he,_⟩;simp at he
  ·cases hx
 |sl n sz lo len=>
  simp only[St.fO] at hx
  split at hx
  ·rename_i gr m rs xs hn
   split at hx
   ·rename_i cu
    obtain⟨rfl,rfl,kx⟩:=cu
    injection hx with hx
    injection hx with lz dV
    injection dV with dV oR
    subst lz dV oR
    have hl:0+len<=xs.length:=by omega
    have bJ:σ.h n≠none:=by rw[hn];simp
    have hs:jF (G.g n) rs 0 len v:=hc bJ
    have hr:=H.row n gr m rs xs hn
    obtain⟨a1,a2,a3,a4⟩:=Fj hr hs hl
    have HF:=H.freeze hn
    have K1:aW w G σ.h (fun n=>σ.used n=true) w ⟨fun b=>G.Im b\/Lj (G.g n) b,G.g⟩ (aw σ.h n none):=
     aW.trans (fun _ h=>h) (aW.del n (fun n=>σ.used n=true)) (aW.qb (Lj (G.g n)) (fun n=>σ.used n=true))
    refine⟨_,kb (G.g n) rs 0 len v,by simpa using a1,a2,a3,fun b hb=>.inr (a4 b hb),?_,K1,rfl,rfl,fun q b hq=>(pz hq).1⟩
    by_cases hm:m≠ .aA
    ·rw[if_pos (by simpa using hm)]
     have rn:(∀b,aS b (G.g n).px->dr w b/\(B<=b\/E b))/\g7 (G.g n).px/\(∀b,aS b (G.g n).px->(G.g n).nl=false->b≠(G.g n).b):=by
      have cJ:=hr.mode
      cases m with
      |aA=>exact absurd rfl hm
      |ab=>exact⟨fun b hb=>(cJ.1 b hb).2,cJ.2,fun b hb hl dm=>(H.own n bJ hl).1 (dm▸(cJ.1 b hb).1)⟩
      |live=>exact⟨fun b hb=>(cJ.1 b hb).2,cJ.2,fun b hb hl=>H.live n gr rs xs hn b hb n bJ hl⟩
     obtain⟨o1,o2,o3⟩:=rn
     refine HF.UX ?_ (fun b hb=>⟨.inr (a4 b hb),?_⟩) (fun i q b hi hb aT=>?_) (fun q bk m' aK av b hq bB hb cg=>?_)
     ·
      rcases hs with⟨aM,rfl,_,rfl⟩|⟨aM,a,rfl,jZ,ha⟩
      ·simp only[kb]
       have hz:(List.take 0 (List.drop 0 (G.g n).px))=[]:=by simp
       rw[hz]
       refine .list _ _ _ _ ?_ ?_ ?_
       ·rintro k j c ⟨e,he,_⟩;simp at he
       ·rintro b o k j c _ ⟨e,he,_⟩;simp at he
       ·rintro k j c k' j' c' b ⟨e,he,_⟩;simp at he
      ·simp only[kb]
       have D7:=o2.sub 0 len
       refine .list _ _ _ _ D7.1 (fun b o k j c eK hk hb=>?_) D7.2
       have cX:=(oG hk).1
       have X7:0<len:=by have:=(oG hk).2;omega
       have e:=ha (.inl (by omega))
       rw[e] at eK
       injection eK with eK
       exact o3 b ⟨_,_,_,cX,hb⟩ aM (nz eK).1.symm
     ·rcases a4 b hb with⟨dt,rfl⟩|aT
      ·exact⟨(hr.dD dt).1,(H.own n bJ dt).2.1⟩
      ·exact o1 b aT
     ·rcases a4 b aT with⟨dt,rfl⟩|cg
      ·exact(H.own n bJ dt).1 ((H.qG i q hi).2 _ hb).1
      ·exact H.qH i q n gr m rs xs b hi hn hm hb cg
     ·obtain⟨lx,fi⟩:=pz hq
      rcases a4 b hb with⟨dt,rfl⟩|aT
      ·have cJ:=(H.row q bk m' aK av lx).mode
       cases m' with
       |aA=>exact absurd rfl bB
       |ab=>exact(H.own n bJ dt).1 (cJ.1 _ cg).1
       |live=>exact H.live q bk aK av lx _ cg n bJ dt rfl
      ·exact H.fv n q gr m rs xs bk m' aK av hn lx hm bB (Ne.symm fi) b aT cg
    ·rw[if_neg (by simpa using hm)]
     exact HF
   ·cases hx
  ·cases hx
 |ptr _ _ _ _=>simp[St.fO] at hx
 |ca _ _=>simp[St.fO] at hx
 |bx _ _ _ _ _ _=>simp[St.fO] at hx
 |fn _ _=>simp[St.fO] at hx
 |cD _ _ _ _ _ _=>simp[St.fO] at hx
 |bh=>simp[St.fO] at hx
end
end Go.Am
end
section
namespace Go.Am
section
variable {B:Nat} {E:Ex} {w0 w w':World} {G G':Gh} {h h':Nat->Option ar} {used used':Nat->Bool} {tk:List PC}
theorem HR.ft:∀{cs:List ai} {σ σ1:St} {G:Gh} {tk:List PC} {xs:List C} {o:Bool} {vs:List Value},HR B E w G σ.h σ.used tk->σ.ft cs=some (xs,o,σ1)->cA w G σ.h cs vs->
  (∀c∈cs,∀m,c.ref m->σ.used m=true)->
  ∃(Im':Nat->Prop) (bu:List PC),bu.map PC.er=xs/\bu.map PC.val=vs/\(∀pc∈bu,Good w pc/\∀b,aP b pc->Im' b)/\
   HR B E w ⟨Im',G.g⟩ σ1.h σ.used (if o=true then tk++bu else tk)/\aW w G σ.h (fun n=>σ.used n=true) w ⟨Im',G.g⟩ σ1.h/\σ1.env=σ.env/\σ1.used=σ.used/\
   (∀n b,σ1.h n=some b->σ.h n=some b)
 |[],σ,σ1,G,tk,xs,o,vs,H,hx,hc,hr=>by
  simp only[St.ft] at hx
  injection hx with hx
  injection hx with lz dV
  injection dV with dV oR
  subst lz dV oR
  have:vs=[]:=List.eq_nil_of_length_eq_zero (by simpa using hc.1)
  subst this
  exact⟨G.Im,[],rfl,rfl,by simp,by simpa using H,aW.refl _ _ _ _,rfl,rfl,fun _ _ h=>h⟩
 |c::cs,σ,σ2,G,tk,xs,o,vs,H,hx,hc,hr=>by
  simp only[St.ft] at hx
  split at hx
  ·rename_i x o1 σ1 e1
   split at hx
   ·rename_i av o2 Vh e2
    injection hx with hx
    injection hx with lz dV
    injection dV with dV oR
    subst lz dV oR
    obtain⟨hlen,bI⟩:=hc
    match vs,hlen with
    |v::vs,hlen=>
     obtain⟨xQ,pc,a1,a2,a3,a4,a5,a6,a7,a8,a9⟩:=H.fO e1 (bI 0 c v rfl rfl).2
     have wh:cA w ⟨xQ,G.g⟩ σ1.h cs vs:=cA.eM a6 (fun c' cj m hm=>hr c' (by simp[cj]) m hm) ⟨by simpa using hlen,fun j c u h1 h2=>bI (j+1) c u h1 h2⟩
     rw[<-a8] at a5
     obtain⟨CQ,bu,b1,b2,b3,b4,b5,b6,b7,b8⟩:=HR.ft a5 e2 wh (fun c' cj m hm=>by rw[a8];exact hr c' (by simp[cj]) m hm)
     refine⟨CQ,pc::bu,by simp[a1,b1],by simp[a2,b2],fun q hq=>?_,?_,aW.trans (fun n hn=>by rw[a8];exact hn) a6 b5,b6.trans a7,b7.trans a8,fun n b hb=>a9 n b (b8 n b hb)⟩
     ·cases hq with
      |head=>exact⟨a3,fun b hb=>b5.im b (a4 b hb)⟩
      |tail _ hq=>exact b3 q hq
     ·rw[a8] at b4
      cases o1<;>cases o2<;>simp at b4⊢
      ·exact b4
      ·exact b4.xy
      ·exact b4.xy
      ·exact b4
   ·cases hx
  ·cases hx
theorem RA.cells {x:aj} {ag:Bool} {cs:List ai} {v:Value} (hx:x.cells?=some (ag,cs)) (hc:RA w G h x v):cA w G h cs v.cells.toList:=by
 cases x with
 |one c=>
  have hj:c≠ .bh/\ag=false/\cs=[c]:=by
   cases c<;>simp[aj.cells?] at hx<;>(obtain⟨rfl,rfl⟩:=hx;simp)
  obtain⟨h1,rfl,rfl⟩:=hj
  rcases hc with rfl|hc
  ·exact absurd rfl h1
  ·have cj:cA w G h [c] [v]:=hc
   have h1:=(cj.2 0 c v rfl rfl).1
   cases v<;>first|exact cj|(simp[Value.oneCell'] at h1)
 |agg cs'=>
  simp[aj.cells?] at hx
  obtain⟨rfl,rfl⟩:=hx
  obtain⟨vs,e,hl⟩:∃vs:List Value,v=.agg vs.toArray/\cA w G h cs' vs:=hc
  subst e
  exact hl
 |bn xs=>simp[aj.cells?] at hx
theorem aj.Ab {x:aj} {ag:Bool} {cs:List ai} (hx:x.cells?=some (ag,cs)) {c:ai} (hc:c∈cs) {m:Nat} (hm:c.ref m):x.ref m:=by
 cases x with
 |one c'=>
  have hj:cs=[c']:=by
   cases c'<;>simp[aj.cells?] at hx<;>exact hx.2.symm
  subst hj
  simp at hc
  subst hc
  exact hm
 |agg cs'=>
  simp[aj.cells?] at hx
  obtain⟨_,rfl⟩:=hx
  exact⟨c,hc,hm⟩
 |bn xs=>simp[aj.cells?] at hx
theorem HR.kP {sz:Nat}:∀{xs:List aj} {σ σ1:St} {G:Gh} {tk:List PC} {es:List (List C)} {o:Bool} {vs:List Value},HR B E w G σ.h σ.used tk->σ.kP sz xs=some (es,o,σ1)->
  vs.length=xs.length->(∀(j:Nat) (x:aj) (v:Value),xs[j]? =some x->vs[j]? =some v->RA w G σ.h x v)->(∀x∈xs,∀m,x.ref m->σ.used m=true)->
  ∃(Im':Nat->Prop) (pes:List (List PC)),pes.map (fun e=>e.map PC.er)=es/\pes.map (fun e=>e.map PC.val)=vs.map (fun v=>v.cells.toList)/\(∀e∈pes,e.length=sz)/\
   (∀e∈pes,∀pc∈e,Good w pc/\∀b,aP b pc->Im' b)/\
   HR B E w ⟨Im',G.g⟩ σ1.h σ.used (if o=true then tk++pes.flatten else tk)/\aW w G σ.h (fun n=>σ.used n=true) w ⟨Im',G.g⟩ σ1.h/\σ1.env=σ.env/\σ1.used=σ.used/\
   (∀n b,σ1.h n=some b->σ.h n=some b)
 |[],σ,σ1,G,tk,es,o,vs,H,hx,hl,hc,hr=>by
  simp only[St.kP] at hx
  injection hx with hx
  injection hx with lz dV
  injection dV with dV oR
  subst lz dV oR
  have:vs=[]:=List.eq_nil_of_length_eq_zero (by simpa using hl)
  subst this
  exact⟨G.Im,[],rfl,rfl,by simp,by simp,by simpa using H,aW.refl _ _ _ _,rfl,rfl,fun _ _ h=>h⟩
 |x::xs,σ,σ2,G,tk,es,o,vs,H,hx,hl,hc,hr=>by
  simp only[St.kP] at hx
  split at hx
  ·rename_i ag cs jX
   split at hx
   ·rename_i bD
    split at hx
    ·rename_i e o1 σ1 e1
     split at hx
     ·rename_i es' o2 Vh e2
      injection hx with hx
      injection hx with lz dV
      injection dV with dV oR
      subst lz dV oR
      match vs,hl with
      |v::vs,hl=>
       have bN:=(hc 0 x v rfl rfl).cells jX
       obtain⟨xQ,bu,a1,a2,a3,a5,a6,a7,a8,a9⟩:=H.ft e1 bN (fun c' cj m hm=>hr x (by simp) m (aj.Ab jX cj hm))
       rw[<-a8] at a5
       obtain⟨CQ,pes,b1,b2,b3,b3',b4,b5,b6,b7,b8⟩:=HR.kP (xs:=xs) (vs:=vs) a5 e2 (by simpa using hl)
        (fun j x v h1 h2=>(hc (j+1) x v h1 h2).eM a6 (fun m hm=>hr x (by simp[List.mem_of_getElem? h1]) m hm)) (fun x' dU m hm=>by rw[a8];exact hr x' (by simp[dU]) m hm)
       refine⟨CQ,bu::pes,by simp[a1,b1],by simp[a2,b2],fun q hq=>?_,fun q hq pc aZ=>?_,?_,aW.trans (fun n hn=>by rw[a8];exact hn) a6 b5,b6.trans a7,b7.trans a8,fun n b hb=>a9 n b (b8 n b hb)⟩
       ·cases hq with
        |head=>
         have:(bu.map PC.er).length=(v.cells.toList).length:=by rw[<-a2];simp
         have h2:=bN.1
         simp at this
         simp at h2
         omega
        |tail _ hq=>exact b3 q hq
       ·cases hq with
        |head=>exact⟨(a3 pc aZ).1,fun b hb=>b5.im b ((a3 pc aZ).2 b hb)⟩
        |tail _ hq=>exact b3' q hq pc aZ
       ·rw[a8] at b4
        cases o1<;>cases o2<;>simp at b4⊢
        ·exact b4
        ·exact b4.xy
        ·exact b4.xy
        ·exact b4
     ·cases hx
    ·cases hx
   ·cases hx
  ·cases hx
def jh (b:Nat) (pc:PC):Prop:=aP b pc\/∃sz o cap xs,pc=.list sz (some (ad b o)) cap xs/\cap≠0
def CY (w:World):PC->Prop
 |.list sz a cap xs=>0<sz/\xs.length<=cap/\(cap=0\/∃b o cur e,a=some (ad b o)/\w.heap[b]? =some (.cells cur e (0,0))/\cur.size=o+cap*sz/\cap<=maxLen/\∀k j c,At xs k j c->¬aP b c)
 |_=>True
structure CW (w:World) (B':Nat) (ps:List PC):Prop where
 eD:∀pc∈ps,Good w pc/\Sep pc/\CY w pc
 new:∀pc∈ps,∀b,jh b pc->B'<=b/\dr w b
 mI:∀(i j:Nat) (pc c6:PC) (b:Nat),i≠j->ps[i]? =some pc->ps[j]? =some c6->jh b pc->¬jh b c6
def qB:K×List PC->Value
 |(.one,[pc])=>pc.val
 |(_,bu)=>.agg (bu.map PC.val).toArray
def xi:List (K×List PC)->Value
 |[p]=>qB p
 |l=>.tuple (l.map qB).toArray
def dL (P:Program) (f:FuncId) (M:List Dv->Option (List Dv)):Prop:=
 ∀ds rs,M ds=some rs->∀(w:World) (vals:List Value),FN w ds vals->Calls P f vals.toArray w fun e w'=>
  ∃aR:List (K×List PC),aR.map (fun p=>(p.1,p.2.map PC.er))=rs/\e=.returned (xi aR)/\(∀p∈aR,p.1≠ .ptr/\(p.1=.one->p.2.length=1))/\
   CW w' w.heap.size (aR.flatMap (·.2))/\Fr w.heap.size Ex.no w w'
end
end Go.Am
end
section
namespace Go.Am
section
variable {B:Nat} {E:Ex} {w0 w w':World} {G G':Gh} {h h':Nat->Option ar} {used used':Nat->Bool} {tk:List PC} {N:Nat}
def oE (G:Gh) (h:Nat->Option ar) (b:Nat):Prop:=
 ¬G.Im b/\(∀n,h n≠none->(G.g n).nl=false->(G.g n).b≠b)/\∀n gr m sz xs,h n=some (.row gr m sz xs)->¬aS b (G.g n).px
theorem HR.Qt (H:HR B E w G h used tk):oE G h w.heap.size:=
 ⟨fun hi=>Nat.lt_irrefl _ (H.fI _ hi),fun n hn hl he=>by have:=(H.own n hn hl).2.2;omega,fun n gr m sz xs hn hb=>Nat.lt_irrefl _ (H.qC hn hb)⟩
def acY (B:Nat) (E:Ex) (w w':World) (G:Gh) (h:Nat->Option ar) (p:PB):ar->Prop
 |.box cs=>p.nl=false/\dr w' p.b/\∀(j:Nat) (c:ai),cs[j]? =some c->∃v,w'.cell? (ad p.b (p.o+j))=some v/\v.oneCell'=true/\RC w G h c v
 |.row gr m sz xs=>tW B E w' G gr m sz xs p
theorem aW.insert (H:HR B E w G h used tk) {n:Nat} {blk:ar} {p:PB} (hn:used n=false) (hw:∀b,b<w.heap.size->w'.heap[b]? =w.heap[b]?):
  aW w G h (fun n=>used n=true) w' ⟨G.Im,aw G.g n p⟩ (aw h n (some blk)):=by
 have ne:∀m,used m=true->m≠n:=fun m hm e=>by subst e;rw[hn] at hm;cases hm
 refine⟨fun _ h=>h,fun b hb o=>io (hw b (H.fI b hb)) o,fun m hm h0=>?_,fun m gr sz xs hm h0=>?_⟩
 ·rw[bZ _ _ _ _ (ne m hm)] at h0
  simp only[bZ _ _ _ _ (ne m hm)]
  exact⟨h0,trivial,trivial,trivial,trivial,trivial⟩
 ·rw[bZ _ _ _ _ (ne m hm)] at h0
  simp only[bZ _ _ _ _ (ne m hm)]
  exact⟨⟨gr,xs,h0⟩,fun k j pc h1 h2=>⟨pc,h1,rfl,h2⟩⟩
theorem HR.insert (H:HR B E w G h used tk) {n:Nat} {blk:ar} {p:PB} (hn:used n=false) (hw:∀b,b<w.heap.size->w'.heap[b]? =w.heap[b]?) (bD:w.heap.size<=w'.heap.size)
  (hl:p.nl=false->oE G h p.b/\(B<=p.b\/E p.b)/\p.b<w'.heap.size)
  (wG:∀cs c m,blk=.box cs->c∈cs->c.ref m->used m=true)
  (gM:acY B E w w' G h p blk)
  (IB:∀gr m sz xs,blk=.row gr m sz xs->m≠ .aA->∀n' bk m' aK av,h n'=some (.row bk m' aK av)->m'≠ .aA->∀b,aS b p.px->¬aS b (G.g n').px)
  (sA:∀gr sz xs,blk=.row gr .live sz xs->∀b,aS b p.px->(p.nl=false->b≠p.b)/\∀n',h n'≠none->(G.g n').nl=false->b≠(G.g n').b)
  (AS:∀gr m sz xs,blk=.row gr m sz xs->m≠ .aA->∀(i:Nat) (pc:PC) (b:Nat),tk[i]? =some pc->aP b pc->¬aS b p.px):
  HR B E w' ⟨G.Im,aw G.g n p⟩ (aw h n (some blk)) (aw used n true) tk:=by
 have K:=aW.insert H (blk:=blk) (p:=p) hn hw
 have Oe:h n=none:=by
  cases hh:h n with
  |none=>rfl
  |some b=>have:=H.iS n (by rw[hh];simp);rw[hn] at this;cases this
 have ax:∀m,h m≠none->m≠n:=fun m hm e=>by subst e;exact hm Oe
 have hu:∀m,used m=true->aw used n true m=true:=fun m hm=>by
  simp only[jg];split
  ·rfl
  ·exact hm
 refine H.put (fun b hb _=>hw b hb) bD (fun b hb hU=>hU.congr (hw b hb)) hu (bA _ _ _) (fun hp=>⟨(hl hp).1.1,(hl hp).2⟩) (fun hp m hm h0 kx=>(hl hp).1.2.1 m h0 kx)
  (fun hp m gr sz xs hm h0 b hb he=>(hl hp).1.2.2 m gr _ sz xs h0 (he▸hb)) (fun cs c m hb hc hr=>hu m (wG cs c m hb hc hr)) K ?_
  (fun gr m sz xs hb hm n' bk m' aK av _ h0=>IB gr m sz xs hb hm n' bk m' aK av h0) (fun gr sz xs hb b cg=>⟨(sA gr sz xs hb b cg).1,fun n' _=>(sA gr sz xs hb b cg).2 n'⟩) AS
  (fun hp _ b hb he=>by obtain⟨m,gr,mo,sz,xs,_,h0,cg⟩:=hb;exact(hl hp).1.2.2 m gr mo sz xs h0 (he▸cg))
 cases blk with
 |box cs=>
  obtain⟨a1,a2,a3⟩:=gM
  refine⟨a1,a2,fun j c hj=>?_⟩
  obtain⟨v,b1,b2,b3⟩:=a3 j c hj
  exact⟨v,b1,b2,b3.eM K fun m hm=>wG cs c m rfl (List.mem_of_getElem? hj) hm⟩
 |row gr m sz xs=>
  have hr:tW B E w' G gr m sz xs p:=gM
  exact⟨hr.pos,hr.er,hr.nl,hr.dD,hr.room,by
   have:=hr.mode
   cases m<;>exact this⟩
theorem R.put {σ:St} {a:Act} (r:R B E w0 N σ a w G) {x:aj} {v:Value} (hv:RA w G σ.h x v) (hr:∀m,x.ref m->σ.used m=true) {d:Option Nat} (hd:∀n,d=some n->n<N):
  R B E w0 N (σ.put d x) (a.put d v) w G:=by
 cases d with
 |none=>exact r
 |some n=>
  have hn:=hd n rfl
  refine⟨r.defers,by simp[Act.put,r.size],fun s=>?_,fun s m hm=>?_,r.hr,r.fr,r.qv,r.zf⟩
  ·simp only[St.put,Act.put]
   by_cases hs:s=n
   ·subst hs
    rw[bA]
    have:(a.tmps.setIfInBounds s v).getD s undef=v:=by
     simp[Array.getD_eq_getD_getElem?,r.size,hn]
    rw[this]
    exact hv
   ·rw[bZ _ _ _ _ hs]
    have:(a.tmps.setIfInBounds n v).getD s undef=a.tmps.getD s undef:=by
     simp[Array.getD_eq_getD_getElem?,Array.getElem?_setIfInBounds_ne (Ne.symm hs)]
    rw[this]
    exact r.env s
  ·simp only[St.put] at hm⊢
   by_cases hs:s=n
   ·subst hs;rw[bA] at hm;exact hr m hm
   ·rw[bZ _ _ _ _ hs] at hm;exact r.rR s m hm
theorem R.step {σ:St} {a:Act} (r:R B E w0 N σ a w G) {σ':St} (he:σ'.env=σ.env) (hu:∀m,σ.used m=true->σ'.used m=true) (K:aW w G σ.h (fun n=>σ.used n=true) w' G' σ'.h)
  (H:HR B E w' G' σ'.h σ'.used []) (F:Fr B E w0 w'):R B E w0 N σ' a w' G':=
 ⟨r.defers,r.size,fun s=>by rw[he];exact(r.env s).eM K (fun m hm=>r.rR s m hm),fun s m hm=>by rw[he] at hm;exact hu m (r.rR s m hm),H,F,
  fun n p b hp hb=>by
   have sG:=r.zf n (E.lt n p hp)
   obtain⟨k0,k1,k2,k3,k4,k6⟩:=K.name n sG (by rw[hb];simp)
   cases h0:σ.h n with
   |none=>exact absurd h0 k0
   |some b0=>
    obtain⟨p1,p2,p3,p4,p6,p5⟩:=r.qv n p b0 hp h0
    refine⟨k1.trans p1,k2.trans p2,k3.trans p3,k4.trans p4,k6.trans p6,fun gr sz xs DI k j pc hk hL=>?_⟩
    subst DI
    obtain⟨⟨yu,km,e0⟩,hl⟩:=K.live n gr sz xs sG hb
    rw[h0] at e0
    injection e0 with e0
    obtain⟨pc1,q1,q2,q3⟩:=p5 yu sz km e0 k j pc hk hL
    obtain⟨pc2,q4,q5,q6⟩:=hl k j pc1 q1 q3
    exact⟨pc2,q4,q5.trans q2,q6⟩,
  fun n hn=>hu n (r.zf n hn)⟩
end
def HG:Value->ai->Bool
 |.int k n,.c (.int k' n')=>decide (k=k')&&decide (n=n')
 |.bool b,.c (.bool b')=>decide (b=b')
 |.slice none 0 0,.nil sz=>true
 |.pointer none,.bh=>true
 |_,_=>false
def se:List Value->List ai->Bool
 |[],[]=>true
 |v::vs,c::cs=>HG v c&&se vs cs
 |_,_=>false
def bw:Operand->MO->Bool
 |.tmp n,.t m=>n==m
 |.const (.agg vs),.k (.agg cs)=>se vs.toList cs
 |.const v,.k (.one c)=>HG v c
 |_,_=>false
section
variable {B:Nat} {E:Ex} {w0 w w':World} {G G':Gh} {h h':Nat->Option ar} {used used':Nat->Bool} {tk:List PC} {N:Nat}
theorem V3 {v:Value} {c:ai} (hc:HG v c=true):RC w G h c v/\v.oneCell'=true/\∀m,¬c.ref m:=by
 unfold HG at hc
 split at hc
 ·simp at hc
  obtain⟨rfl,rfl⟩:=hc
  exact⟨⟨.int _ _,rfl,rfl,.int _ _,fun b hb=>by cases hb⟩,rfl,fun m hm=>hm⟩
 ·simp at hc
  subst hc
  exact⟨⟨.bool _,rfl,rfl,.bool _,fun b hb=>by cases hb⟩,rfl,fun m hm=>hm⟩
 ·exact⟨rfl,rfl,fun m hm=>hm⟩
 ·exact⟨trivial,rfl,fun m hm=>hm⟩
 ·cases hc
theorem HH:∀{vs:List Value} {cs:List ai},se vs cs=true->cA w G h cs vs/\∀c∈cs,∀m,¬c.ref m
 |[],[],_=>⟨⟨rfl,by simp⟩,by simp⟩
 |v::vs,c::cs,hc=>by
  simp only[se,Bool.and_eq_true] at hc
  obtain⟨a1,a2,a3⟩:=V3 (w:=w) (G:=G) (h:=h) hc.1
  obtain⟨⟨b1,b2⟩,b3⟩:=HH hc.2
  refine⟨⟨by simp[b1],fun j c' u hj hu=>?_⟩,fun c' cj=>?_⟩
  ·cases j with
   |zero=>simp at hj hu;subst hj;subst hu;exact⟨a2,a1⟩
   |succ j=>exact b2 j c' u (by simpa using hj) (by simpa using hu)
  ·cases cj with
   |head=>exact a3
   |tail _ cj=>exact b3 c' cj
 |[],_::_,hc=>by simp[se] at hc
 |_::_,[],hc=>by simp[se] at hc
theorem RV.gb {c:ai} {v:Value} (h1:v.oneCell'=true) (h2:RC w G h c v):RV w G h false [c] v:=by
 show cA w G h [c] [v]
 exact⟨rfl,fun j c' u hj hu=>by
  cases j with
  |zero=>simp at hj hu;subst hj;subst hu;exact⟨h1,h2⟩
  |succ j=>simp at hj⟩
theorem RA.gb {c:ai} {v:Value} (h1:v.oneCell'=true) (h2:RC w G h c v):RA w G h (.one c) v:=.inr (RV.gb h1 h2)
theorem R.ev {σ:St} {a:Act} (r:R B E w0 N σ a w G) {x:Operand} {m:MO} (hc:bw x m=true):RA w G σ.h (σ.ev m) (a.eval x)/\∀n,(σ.ev m).ref n->σ.used n=true:=by
 unfold bw at hc
 split at hc
 ·simp at hc
  subst hc
  exact⟨r.env _,fun n hn=>r.rR _ n hn⟩
 ·rename_i vs cs
  obtain⟨b1,b2⟩:=HH (w:=w) (G:=G) (h:=σ.h) hc
  exact⟨⟨vs.toList,by simp[Act.eval],b1⟩,fun n hn=>by obtain⟨c,hc,hm⟩:=hn;exact absurd hm (b2 c hc n)⟩
 ·obtain⟨a1,a2,a3⟩:=V3 (w:=w) (G:=G) (h:=σ.h) hc
  exact⟨RA.gb a2 a1,fun n hn=>absurd hn (a3 n)⟩
 ·cases hc
theorem nq {P:Program} {o:Oper} {a:Act} {v:Value} {K:Act->World->Prop} {Q:Exit->Act->World->Prop} (hr:(execOp a.eval o).run P w=.ok (.value v) w') (hK:K (a.put o.dst v) w'):o.wp P a w K Q:=by
 unfold Oper.wp
 rw[hr]
 exact hK
theorem Ls {P:Program} {o:Oper} {a:Act} {K:Act->World->Prop} {Q:Exit->Act->World->Prop} (hr:(execOp a.eval o).run P w=.ok .skip w') (hK:K (a.put o.dst undef) w'):o.wp P a w K Q:=by
 unfold Oper.wp
 rw[hr]
 exact hK
end
end Go.Am
end
section
namespace Go.Am
section
variable {B:Nat} {E:Ex} {w0 w w':World} {G G':Gh} {h h':Nat->Option ar} {used used':Nat->Bool} {tk:List PC} {N:Nat}
variable {P:Program} {o:Oper} {a:Act} {σ σ':St} {Q:Exit->Act->World->Prop}
def Nx (B:Nat) (E:Ex) (w0:World) (N:Nat) (σ:St):Act->World->Prop:=fun a w=>∃G,R B E w0 N σ a w G
theorem L8 (w:World) (ob:Obj) (b:Nat) (hb:b<w.heap.size):(w.alloc ob).heap[b]? =w.heap[b]? :=heap_alloc_old w ob b hb
theorem dr.alloc (w:World) (arr:Array Value) (e:TypeId):dr (w.alloc (.cells arr e)) w.heap.size:=⟨arr,e,heap_alloc_new w _⟩
theorem mg {σ1:St} {n:Nat} {b:ar} (hx:σ.ins n b=some σ1):σ.used n=false/\σ1={σ with h:=aw σ.h n (some b),used:=aw σ.used n true}:=by
 unfold St.ins at hx
 split at hx
 ·cases hx
 ·rename_i hu
  injection hx with hx
  exact⟨by simpa using hu,hx.symm⟩
theorem qI (n m:Nat) (hm:used m=true):aw used n true m=true:=by
 simp only[jg];split
 ·rfl
 ·exact hm
theorem R.aau (r:R B E w0 N σ a w G) {n:Nat} {cs:List ai} {vs:List Value} {e:TypeId} (hn:σ.used n=false) (hc:cA w G σ.h cs vs) (ix:∀c∈cs,∀m,c.ref m->σ.used m=true):
  ∃G',R B E w0 N {σ with h:=aw σ.h n (some (.box cs)),used:=aw σ.used n true} a (w.alloc (.cells vs.toArray e)) G'/\
   RA (w.alloc (.cells vs.toArray e)) G' (aw σ.h n (some (.box cs))) (.one (.ptr n 0 0 0)) (.pointer (some (ad w.heap.size 0))):=by
 have H:=r.hr
 have hB:=r.fr.size
 have hw:=L8 w (.cells vs.toArray e)
 refine⟨⟨G.Im,aw G.g n ⟨false,w.heap.size,0,0,[],none⟩⟩,r.step rfl (fun m hm=>qI n m hm) (aW.insert H hn hw) ?_ (r.fr.grow hw (by simp) rfl rfl rfl),?_⟩
 ·refine H.insert hn hw (by simp) (fun _=>⟨H.Qt,.inl hB,by simp⟩) (fun cs' c m hb cj hm=>?_) ⟨rfl,dr.alloc _ _ _,fun j c hj=>?_⟩ (fun gr m sz xs hb=>by cases hb) (fun gr sz xs hb=>by cases hb) (fun gr m sz xs hb=>by cases hb)
  ·injection hb with hb;subst hb;exact ix c cj m hm
  ·have uB:j<vs.length:=by rw[hc.1];exact(List.getElem?_eq_some_iff.1 hj).1
   have hv:vs[j]? =some vs[j]:=List.getElem?_eq_getElem uB
   obtain⟨q1,q2⟩:=hc.2 j c _ hj hv
   refine⟨vs[j],?_,q1,q2⟩
   simp only[Nat.zero_add]
   unfold ad
   rw[World.cell?_alloc_new]
   simp only[List.getElem?_toArray];exact hv
 ·exact RA.gb rfl fun _=>by simp[bA]
theorem ad0 (r:R B E w0 N σ a w G) {n:Nat} {e:TypeId} {i:TypeInfo} {z:Value} {zs:List ai} {σ1:St} (ho:o.op=.alloc e) (hd:o.dst=some n) (hN:n<N)
  (hi:P.info? e=some i) (hz:i.zero=some z) (hc:se z.cells.toList zs=true) (hx:σ.ins n (.box zs)=some σ1):
  o.wp P a w (Nx B E w0 N (σ1.put o.dst (.one (.ptr n 0 0 0)))) Q:=by
 obtain⟨hn,rfl⟩:=mg hx
 obtain⟨bN,ix⟩:=HH (w:=w) (G:=G) (h:=σ.h) hc
 obtain⟨G',r',hv⟩:=r.aau (e:=e) hn bN (fun c hc m hm=>absurd hm (ix c hc m))
 have bq:(execOp a.eval o).run P w=.ok (.value (.pointer (some (ad w.heap.size 0)))) (w.alloc (.cells z.cells.toList.toArray e)):=by
  simp[execOp,ho,Instr.alloc,zeroValue,typeInfo,hi,hz,newVar,newRow,ad]
 exact nq bq ⟨G',r'.put hv (fun m hm=>by have bB:m=n:=hm;subst bB;exact bA _ _ _) (fun m hm=>by rw[hd] at hm;injection hm with hm;omega)⟩
theorem ad4 (r:R B E w0 N σ a w G) {n:Nat} {e:TypeId} {x:Operand} {m:MO} {ag:Bool} {cs:List ai} {σ1:St} (ho:o.op=.box e x) (hd:o.dst=some n) (hN:n<N)
  (hm:bw x m=true) (dP:(σ.ev m).cells?=some (ag,cs)) (hx:σ.ins n (.box cs)=some σ1):
  o.wp P a w (Nx B E w0 N (σ1.put o.dst (.one (.ptr n 0 0 0)))) Q:=by
 obtain⟨hn,rfl⟩:=mg hx
 obtain⟨hv,ix⟩:=r.ev hm
 obtain⟨G',r',fH⟩:=r.aau (e:=e) hn (hv.cells dP) (fun c hc q hq=>ix q (aj.Ab dP hc hq))
 have bq:(execOp a.eval o).run P w=.ok (.value (.pointer (some (ad w.heap.size 0)))) (w.alloc (.cells (a.eval x).cells.toList.toArray e)):=by
  simp[execOp,ho,Instr.box,newVar,newRow,ad]
 exact nq bq ⟨G',r'.put fH (fun q hq=>by have dQ:q=n:=hq;subst dQ;exact bA _ _ _) (fun q hq=>by rw[hd] at hq;injection hq with hq;omega)⟩
theorem tZ {α:Type} {sz:Nat}:∀{px:List (List α)} (_:∀e∈px,e.length=sz) {k j:Nat} {c:α},At px k j c->px.flatten[k*sz+j]? =some c
 |[],_,k,j,c,hk=>by obtain⟨e,he,_⟩:=hk;simp at he
 |e::px,hl,k,j,c,hk=>by
  obtain⟨e',he,hj⟩:=hk
  have h0:=hl e (by simp)
  cases k with
  |zero=>
   simp at he
   subst he
   have uB:=(List.getElem?_eq_some_iff.1 hj).1
   simp only[List.flatten_cons,Nat.zero_mul,Nat.zero_add]
   rw[List.getElem?_append_left uB]
   exact hj
  |succ k=>
   have ih:=tZ (px:=px) (fun e he=>hl e (by simp[he])) (k:=k) (j:=j) (c:=c) ⟨e',by simpa using he,hj⟩
   simp only[List.flatten_cons]
   rw[List.getElem?_append_right (by rw[h0,Nat.add_mul];omega)]
   rw[show(k+1)*sz+j - e.length=k*sz+j by rw[h0,Nat.add_mul];omega]
   exact ih
structure CU (B:Nat) (E:Ex) (w:World) (G:Gh) (h:Nat->Option ar) (m:Mode) (pes:List (List PC)):Prop where
 nJ:∀b,aS b pes->G.Im b/\dr w b/\(B<=b\/E b)
 sep:g7 pes
 fv:∀n gr m sz xs,h n=some (.row gr m sz xs)->m≠ .aA->∀b,aS b pes->¬aS b (G.g n).px
 kind:m=.ab\/∀b,¬aS b pes
theorem adf {α:Type} {sz:Nat} (bD:0<sz) {pes:List (List α)} (hl:∀e∈pes,e.length=sz) {k j k' j':Nat} {c c':α} (h1:At pes k j c) (h2:At pes k' j' c') (ax:(k,j)≠(k',j')):k*sz+j≠k'*sz+j':=by
 intro dm
 have hj:j<sz:=by obtain⟨e1,he,hj⟩:=h1;rw[<-hl e1 (List.mem_of_getElem? he)];exact(List.getElem?_eq_some_iff.1 hj).1
 have iU:j'<sz:=by obtain⟨e1,he,hj⟩:=h2;rw[<-hl e1 (List.mem_of_getElem? he)];exact(List.getElem?_eq_some_iff.1 hj).1
 have hk:k=k':=by
  have h3:(k*sz+j)/sz=k:=by rw[Nat.mul_comm,Nat.mul_add_div bD,Nat.div_eq_of_lt hj];omega
  have h4:(k'*sz+j')/sz=k':=by rw[Nat.mul_comm,Nat.mul_add_div bD,Nat.div_eq_of_lt iU];omega
  rw[dm] at h3
  omega
 subst hk
 exact ax (by rw[show j=j' by omega])
theorem HR.al8 {pes:List (List PC)} {sz:Nat} (bD:0<sz) (hl:∀e∈pes,e.length=sz) (H:HR B E w G h used pes.flatten):CU B E w G h .ab pes:=by
 refine⟨?_,⟨fun k j c hk=>(H.qG _ c (tZ hl hk)).1,fun k j c k' j' c' b hk cX ax hb=>H.vo _ _ c c' b (adf bD hl hk cX ax) (tZ hl hk) (tZ hl cX) hb⟩,?_,.inl rfl⟩
 ·rintro b ⟨k,j,c,hk,hb⟩
  exact(H.qG _ c (tZ hl hk)).2 b hb
 ·rintro n gr m sz xs hn hm b ⟨k,j,c,hk,hb⟩
  exact H.qH _ c n gr m sz xs b (tZ hl hk) hn hm hb
theorem Sep.EV {w:World} {q:PC} (hq:∀b,¬aP b q) (hg:Good w q):Sep q:=by
 induction hg with
 |int k n=>exact .int k n
 |bool b=>exact .bool b
 |nil sz a cap h=>exact .list _ _ _ _ (by rintro k j c ⟨e,he,_⟩;simp at he) (by rintro b o k j c _ ⟨e,he,_⟩;simp at he) (by rintro k j c k' j' c' b ⟨e,he,_⟩;simp at he)
 |cons sz b o cap xs h1 h2 h3 h4 h5 h6 ih=>exact absurd (.here _ _ _ _ h1) (hq b)
theorem CU.EV {m:Mode} {pes:List (List PC)} (cb:∀b,¬aS b pes) (hg:∀k j c,At pes k j c->Good w c):CU B E w G h m pes:=
 ⟨fun b hb=>absurd hb (cb b),⟨fun k j c hk=>Sep.EV (fun b hb=>cb b ⟨k,j,c,hk,hb⟩) (hg k j c hk),fun k j c k' j' c' b hk _ _ hb=>absurd ⟨k,j,c,hk,hb⟩ (cb b)⟩,fun n gr m sz xs _ _ b hb=>absurd hb (cb b),.inr cb⟩
theorem R.newRow (r:R B E w0 N σ a w G) {Im':Nat->Prop} {σ1:St} (H:HR B E w ⟨Im',G.g⟩ σ1.h σ.used []) (K:aW w G σ.h (fun n=>σ.used n=true) w ⟨Im',G.g⟩ σ1.h)
  (yD:σ1.env=σ.env) (ly:σ1.used=σ.used)
  {n:Nat} {m:Mode} {sz cap:Nat} {pes:List (List PC)} {arr:Array Value} {e:TypeId} (hn:σ.used n=false) (bD:0<sz) (hl:∀e∈pes,e.length=sz)
  (gC:∀k j c,At pes k j c->Good w c/\∀b,aP b c->Im' b) (ul:∀k j c,At pes k j c->arr[k*sz+j]? =some c.val) (jZ:pes.length<=cap) (sC:cap<=maxLen) (uE:arr.size=cap*sz)
  (hm:m=.aA\/CU B E w ⟨Im',G.g⟩ σ1.h m pes):
  ∃G',R B E w0 N {σ1 with h:=aw σ1.h n (some (.row true m sz (pes.map fun e=>e.map PC.er))),used:=aw σ1.used n true} a (w.alloc (.cells arr e)) G'/\
   RA (w.alloc (.cells arr e)) G' (aw σ1.h n (some (.row true m sz (pes.map fun e=>e.map PC.er)))) (.one (.sl n sz 0 pes.length)) (.slice (some (ad w.heap.size 0)) pes.length cap):=by
 have hB:=r.fr.size
 have hw:=L8 w (.cells arr e)
 have acV:HR B E (w.alloc (.cells arr e)) ⟨Im',aw G.g n ⟨false,w.heap.size,0,cap,pes,none⟩⟩ (aw σ1.h n (some (.row true m sz (pes.map fun e=>e.map PC.er)))) (aw σ.used n true) []:=by
  refine H.insert (p:=⟨false,w.heap.size,0,cap,pes,none⟩) hn hw (by simp) (fun _=>⟨H.Qt,.inl hB,by simp⟩) (fun cs c m hb=>by cases hb) ?_ ?_ ?_ (fun gr m sz xs _ _ i pc b hi=>by simp at hi)
  ·refine⟨bD,rfl,(fun hl=>by cases hl),fun _=>⟨dr.alloc _ _ _,⟨hl,fun k j c hk=>?_,fun k j c hk=>?_⟩,jZ⟩,fun _ _=>⟨sC,arr,e,heap_alloc_new w _,(Nat.zero_add _).symm▸uE⟩,?_⟩
   ·simp only[Nat.zero_add]
    unfold ad
    rw[World.cell?_alloc_new]
    exact ul k j c hk
   ·exact(gC k j c hk).1.congr fun b hb o=>io (hw b (H.fI b ((gC k j c hk).2 b hb))) o
   ·have rh:m≠ .aA->(∀b,aS b pes->Im' b/\dr (w.alloc (.cells arr e)) b/\(B<=b\/E b))/\g7 pes:=fun gP=>
     ⟨fun b hb=>by
      have hO:=hm.resolve_left gP
      obtain⟨q1,q2,q3⟩:=hO.nJ b hb
      exact⟨q1,q2.congr (hw b (H.fI b q1)),q3⟩,(hm.resolve_left gP).sep⟩
    cases m with
    |aA=>
     rintro b ⟨k,j,c,hk,hb⟩
     exact(gC k j c hk).2 b hb
    |ab=>exact rh (by simp)
    |live=>
     have hO:=hm.resolve_left (by simp)
     have cb:=hO.kind.resolve_left (by simp)
     exact⟨fun b hb=>absurd hb (cb b),hO.sep⟩
  ·intro gr m' aK av hb gP n' bk nc kc g0 h0 iW b cg
   injection hb with _ hb _ _
   subst hb
   exact(hm.resolve_left gP).fv n' bk nc kc g0 h0 iW b cg
  ·intro gr aK av hb b cg
   injection hb with _ hb _ _
   subst hb
   exact absurd cg ((hm.resolve_left (by simp)).kind.resolve_left (by simp) b)
 have K2:=aW.trans (u2:=fun n=>σ.used n=true) (fun _ h=>h) K (aW.insert H (blk:=.row true m sz (pes.map fun e=>e.map PC.er)) (p:=⟨false,w.heap.size,0,cap,pes,none⟩) hn hw)
 refine⟨⟨Im',aw G.g n ⟨false,w.heap.size,0,cap,pes,none⟩⟩,r.step yD (fun m hm=>by rw[ly];exact qI n m hm) K2 (by rw[ly];exact acV) (r.fr.grow hw (by simp) rfl rfl rfl),?_⟩
 refine RA.gb rfl fun _=>.inr ⟨by simp[bA],some (ad w.heap.size 0),?_,?_,?_⟩
 ·simp[bA]
 ·simp[bA];omega
 ·simp[bA]
end
end Go.Am
end
