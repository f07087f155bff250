/- Am6, Am7, Am8, Am9: parts of the proof. No condition. -/
import Derived.Test.YtifmggmhdcdgbaaAm5
set_option linter.unusedVariables false
section
namespace Go.Am
section
variable {B:Nat} {E:Ex} {w0 w w':World} {G G':Gh} {h h':Nat->Option aq} {used used':Nat->Bool} {tk:List PC}
theorem aY.qg (S:Nat->Prop) (u:Nat->Prop):aY w G h u w ⟨fun b=>G.Im b\/S b,G.g⟩ h:=
 ⟨fun _ h=>.inl h,fun _ _ _=>rfl,fun _ _ h=>⟨h,rfl,rfl,rfl,rfl,rfl⟩,fun n gr sz xs _ hn=>⟨⟨gr,xs,hn⟩,fun k j pc h1 h2=>⟨pc,h1,rfl,h2⟩⟩⟩
theorem HR.qg (H:HR B E w G h used tk) (S:Nat->Prop) (h1:∀b,S b->b<w.heap.size) (h2:∀b,S b->∀n,h n≠none->(G.g n).nl=false->b≠(G.g n).b)
  (h3:∀b,S b->∀n gr sz xs,h n=some (.row gr .live sz xs)->¬aV b (G.g n).px) (h4:∀b,S b->B<=b\/E b\/E.a b):HR B E w ⟨fun b=>G.Im b\/S b,G.g⟩ h used tk:=by
 refine⟨H.jb,H.gT,fun n cs hn=>?_,fun n gr m sz xs hn=>?_,fun n hn hl=>?_,H.inj,?_,fun b hb=>hb.elim (H.pg b) (h4 b),H.fy,H.live,fun i pc hi=>?_,H.uP,H.qG⟩
 ·obtain⟨a1,a2,a3⟩:=H.box n cs hn
  refine⟨a1,a2,fun j c hj=>?_⟩
  obtain⟨v,b1,b2,b3⟩:=a3 j c hj
  exact⟨v,b1,b2,b3.eV (aY.qg S (fun n=>used n=true)) fun q hq=>H.gT n cs c q hn (List.mem_of_getElem? hj) hq⟩
 ·have hr:=H.row n gr m sz xs hn
  refine⟨hr.pos,hr.er,hr.nl,hr.dE,hr.room,?_⟩
  have hm:=hr.mode
  cases m with
  |aF=>exact fun b hb=>.inl (hm b hb)
  |aa=>exact⟨fun b hb=>⟨.inl (hm.1 b hb).1,(hm.1 b hb).2⟩,hm.2⟩
  |live=>exact⟨fun b hb=>⟨fun hi=>hi.elim (hm.1 b hb).1 (fun hs=>h3 b hs n gr sz xs hn hb),(hm.1 b hb).2⟩,hm.2⟩
 ·obtain⟨a1,a2,a3⟩:=H.own n hn hl
  exact⟨fun hi=>hi.elim a1 (fun hs=>h2 _ hs n hn hl rfl),a2,a3⟩
 ·exact fun b hb=>hb.elim (H.fL b) (h1 b)
 ·obtain⟨a1,a2⟩:=H.qF i pc hi
  exact⟨a1,fun b hb=>⟨.inl (a2 b hb).1,(a2 b hb).2⟩⟩
theorem HR.yK {l:List PC} (H:HR B E w G h used (tk++l)):HR B E w G h used tk:=by
 have e:∀(i:Nat) (pc:PC),tk[i]? =some pc->(tk++l)[i]? =some pc:=fun i pc hi=>by
  rw[List.getElem?_append_left (List.getElem?_eq_some_iff.1 hi).1];exact hi
 exact⟨H.jb,H.gT,H.box,H.row,H.own,H.inj,H.fL,H.pg,H.fy,H.live,fun i pc hi=>H.qF i pc (e i pc hi),fun i j pc df b ko h1 h2=>H.uP i j pc df b ko (e i pc h1) (e j df h2),
  fun i pc n gr m sz xs b hi=>H.qG i pc n gr m sz xs b (e i pc hi)⟩
theorem HR.Tc (H:HR B E w G h used tk) {pc:PC} (h1:Sep pc) (h2:∀b,aR b pc->G.Im b/\dr w b/\(B<=b\/E b))
  (h3:∀(i:Nat) (q:PC) (b:Nat),tk[i]? =some q->aR b q->¬aR b pc)
  (h4:∀n gr m sz xs b,h n=some (.row gr m sz xs)->m≠ .aF->aR b pc->¬aV b (G.g n).px):HR B E w G h used (tk++[pc]):=by
 have e:∀(i:Nat) (q:PC),(tk++[pc])[i]? =some q->(i<tk.length/\tk[i]? =some q)\/(i=tk.length/\q=pc):=fun i q hi=>by
  rcases Nat.lt_trichotomy i tk.length with bX|dA|xN
  ·rw[List.getElem?_append_left bX] at hi;exact .inl ⟨bX,hi⟩
  ·subst dA;simp at hi;exact .inr ⟨rfl,hi.symm⟩
  ·rw[List.getElem?_eq_none (by simp;omega)] at hi;cases hi
 refine⟨H.jb,H.gT,H.box,H.row,H.own,H.inj,H.fL,H.pg,H.fy,H.live,fun i q hi=>?_,fun i j q q' b ko hi hj hb=>?_,fun i q n gr m sz xs b hi hn hm hb=>?_⟩
 ·rcases e i q hi with⟨_,hi⟩|⟨_,rfl⟩
  ·exact H.qF i q hi
  ·exact⟨h1,h2⟩
 ·rcases e i q hi with⟨_,hi'⟩|⟨ei,eq⟩
  ·rcases e j q' hj with⟨_,kq⟩|⟨_,UQ⟩
   ·exact H.uP i j q q' b ko hi' kq hb
   ·rw[UQ];exact h3 i q b hi' hb
  ·rcases e j q' hj with⟨_,kq⟩|⟨ej,UQ⟩
   ·rw[eq] at hb;exact fun aX=>h3 j q' b kq aX hb
   ·omega
 ·rcases e i q hi with⟨_,hi⟩|⟨_,rfl⟩
  ·exact H.qG i q n gr m sz xs b hi hn hm hb
  ·exact h4 n gr m sz xs b hn hm hb
theorem Sep.lc {pc:PC} (hs:pc.er.eD=true):Sep pc/\∀b,¬aR b pc:=by
 cases pc with
 |int k n=>exact⟨.int k n,fun b hb=>by cases hb⟩
 |bool b=>exact⟨.bool b,fun b hb=>by cases hb⟩
 |list sz a cap xs=>simp[PC.dw,C.eD] at hs
theorem pL {n m:Nat} {b:aq} (hm:av h n none m=some b):h m=some b/\m≠n:=by
 by_cases bC:m=n
 ·subst bC;rw[bD] at hm;cases hm
 ·rw[cd _ _ _ _ bC] at hm;exact⟨hm,bC⟩
theorem zz {n m:Nat} (hm:av h n none m≠none):h m≠none/\m≠n:=by
 cases hh:av h n none m with
 |none=>exact absurd hh hm
 |some b=>obtain⟨a,b⟩:=pL hh;exact⟨by rw[a];simp,b⟩
def Jt (p:PB):Nat->Prop:=fun b=>(p.nl=false/\b=p.b)\/aV b p.px
theorem HR.freeze (H:HR B E w G h used tk) {n:Nat} {gr:Bool} {m:Mode} {rs:Nat} {xs:List (List C)} (hn:h n=some (.row gr m rs xs)):
  HR B E w ⟨fun b=>G.Im b\/Jt (G.g n) b,G.g⟩ (av h n none) used tk:=by
 have hr:=H.row n gr m rs xs hn
 have bN:h n≠none:=by rw[hn];simp
 have gK:∀b,aV b (G.g n).px->G.Im b\/m=.live:=fun b hb=>by
  have hm:=hr.mode
  cases m with
  |aF=>exact .inl (hm b hb)
  |aa=>exact .inl (hm.1 b hb).1
  |live=>exact .inr rfl
 refine(H.del n).qg (Jt (G.g n)) (fun b hb=>?_) (fun b hb q hq hl=>?_) (fun b hb q bi aK ar hq cl=>?_) (fun b hb=>?_)
 ·rcases hb with⟨h1,rfl⟩|hb
  ·exact(H.own n bN h1).2.2
  ·exact H.qA hn hb
 ·obtain⟨lN,fm⟩:=zz hq
  rcases hb with⟨h1,rfl⟩|hb
  ·exact H.inj n q bN lN (Ne.symm fm) h1 hl
  ·rcases gK b hb with hi|rfl
   ·rintro rfl;exact(H.own q lN hl).1 hi
   ·exact H.live n gr rs xs hn b hb q lN hl
 ·obtain⟨lN,fm⟩:=pL hq
  rcases hb with⟨h1,rfl⟩|hb
  ·exact H.live q bi aK ar lN _ cl n bN h1 rfl
  ·rcases gK b hb with hi|rfl
   ·exact((H.row q bi .live aK ar lN).mode.1 b cl).1 hi
   ·exact H.fy n q gr .live rs xs bi .live aK ar hn lN (by simp) (by simp) (Ne.symm fm) b hb cl
 ·rcases hb with⟨h1,rfl⟩|hb
  ·exact(H.own n bN h1).2.1.imp id .inl
  ·rcases gK b hb with hi|rfl
   ·exact H.pg b hi
   ·exact(hr.mode.1 b hb).2.2.imp id .inl
theorem io.sub {px:List (List PC)} (hs:io px) (lo len:Nat):io ((px.drop lo).take len):=by
 refine⟨fun k j c hk=>hs.1 _ _ _ (oN hk).1,fun k j c k' j' c' b hk da aC hb=>hs.2 _ _ _ _ _ _ b (oN hk).1 (oN da).1 (fun e=>aC ?_) hb⟩
 injection e with e1 e2
 rw[show k=k' by omega,e2]
theorem HR.fS {σ σ1:St} (H:HR B E w G σ.h σ.used tk) {c:ah} {x:C} {o:Bool} {v:Value} (hx:σ.fS c=some (x,o,σ1)) (hc:RC w G σ.h c v):
  ∃(Im':Nat->Prop) (pc:PC),pc.er=x/\pc.val=v/\Good w pc/\(∀b,aR b pc->Im' b)/\
   HR B E w ⟨Im',G.g⟩ σ1.h σ.used (if o=true then tk++[pc] else tk)/\aY w G σ.h (fun n=>σ.used n=true) w ⟨Im',G.g⟩ σ1.h/\σ1.env=σ.env/\σ1.used=σ.used/\
   (∀n b,σ1.h n=some b->σ.h n=some b):=by
 cases c with
 |c y=>
  simp only[St.fS] at hx
  injection hx with hx
  injection hx with lP d9
  injection d9 with d9 o8
  subst lP d9 o8
  obtain⟨pc,h1,h2,h3,h4⟩:=hc
  refine⟨G.Im,pc,h1,h2,h3,h4,?_,aY.refl _ _ _ _,rfl,rfl,fun _ _ h=>h⟩
  by_cases hs:y.eD=true
  ·rw[if_pos hs]
   obtain⟨s1,s2⟩:=Sep.lc (pc:=pc) (by rw[h1];exact hs)
   exact H.Tc s1 (fun b hb=>absurd hb (s2 b)) (fun _ _ b _ _=>s2 b) (fun _ _ _ _ _ b _ _ hb=>absurd hb (s2 b))
  ·rw[if_neg hs];exact H
 |nil sz=>
  simp only[St.fS] at hx
  split at hx
  ·rename_i eO
   injection hx with hx
   injection hx with lP d9
   injection d9 with d9 o8
   subst lP d9 o8
   have cI:v=.slice none 0 0:=hc
   subst cI
   have ct:∀b,¬aR b (.list sz none 0 []):=fun b hb=>by
    rw[aR.kA] at hb
    rcases hb with⟨hb,_⟩|⟨k,j,c,⟨e,he,_⟩,_⟩
    ·exact absurd rfl hb
    ·simp at he
   refine⟨G.Im,.list sz none 0 [],by simp[PC.dw],rfl,.nil _ _ _ eO,fun b hb=>absurd hb (ct b),?_,aY.refl _ _ _ _,rfl,rfl,fun _ _ h=>h⟩
   rw[if_pos rfl]
   refine H.Tc (.list _ _ _ _ ?_ ?_ ?_) (fun b hb=>absurd hb (ct b)) (fun _ _ b _ _=>ct b) (fun _ _ _ _ _ b _ _ hb=>absurd hb (ct b))
   ·rintro k j c ⟨e,he,_⟩;simp at he
   ·rintro b o k j c _ ⟨e,he,_⟩;simp at he
   ·rintro k j c k' j' c' b ⟨e,he,_⟩;simp at he
  ·cases hx
 |sl n sz lo len=>
  simp only[St.fS] at hx
  split at hx
  ·rename_i gr m rs xs hn
   split at hx
   ·rename_i cv
    obtain⟨rfl,rfl,kS⟩:=cv
    injection hx with hx
    injection hx with lP d9
    injection d9 with d9 o8
    subst lP d9 o8
    have hl:0+len<=xs.length:=by omega
    have bN:σ.h n≠none:=by rw[hn];simp
    have hs:jR (G.g n) rs 0 len v:=hc bN
    have hr:=H.row n gr m rs xs hn
    obtain⟨a1,a2,a3,a4⟩:=D5 hr hs hl
    have HF:=H.freeze hn
    have K1:aY w G σ.h (fun n=>σ.used n=true) w ⟨fun b=>G.Im b\/Jt (G.g n) b,G.g⟩ (av σ.h n none):=
     aY.trans (fun _ h=>h) (aY.del n (fun n=>σ.used n=true)) (aY.qg (Jt (G.g n)) (fun n=>σ.used n=true))
    refine⟨_,kF (G.g n) rs 0 len v,by simpa using a1,a2,a3,fun b hb=>.inr (a4 b hb),?_,K1,rfl,rfl,fun q b hq=>(pL hq).1⟩
    by_cases hm:m≠ .aF
    ·rw[if_pos (by simpa using hm)]
     have rb:(∀b,aV b (G.g n).px->dr w b/\(B<=b\/E b))/\io (G.g n).px/\(∀b,aV b (G.g n).px->(G.g n).nl=false->b≠(G.g n).b):=by
      have cU:=hr.mode
      cases m with
      |aF=>exact absurd rfl hm
      |aa=>exact⟨fun b hb=>(cU.1 b hb).2,cU.2,fun b hb hl dA=>(H.own n bN hl).1 (dA▸(cU.1 b hb).1)⟩
      |live=>exact⟨fun b hb=>(cU.1 b hb).2,cU.2,fun b hb hl=>H.live n gr rs xs hn b hb n bN hl⟩
     obtain⟨o1,o2,o3⟩:=rb
     refine HF.Tc ?_ (fun b hb=>⟨.inr (a4 b hb),?_⟩) (fun i q b hi hb aX=>?_) (fun q bi m' aK ar b hq bE hb cl=>?_)
     ·
      rcases hs with⟨aO,rfl,_,rfl⟩|⟨aO,a,rfl,kl,ha⟩
      ·simp only[kF]
       have hz:(List.take 0 (List.drop 0 (G.g n).px))=[]:=by simp
       rw[hz]
       refine .list _ _ _ _ ?_ ?_ ?_
       ·rintro k j c ⟨e,he,_⟩;simp at he
       ·rintro b o k j c _ ⟨e,he,_⟩;simp at he
       ·rintro k j c k' j' c' b ⟨e,he,_⟩;simp at he
      ·simp only[kF]
       have C0:=o2.sub 0 len
       refine .list _ _ _ _ C0.1 (fun b o k j c fc hk hb=>?_) C0.2
       have da:=(oN hk).1
       have V8:0<len:=by have:=(oN hk).2;omega
       have e:=ha (.inl (by omega))
       rw[e] at fc
       injection fc with fc
       exact o3 b ⟨_,_,_,da,hb⟩ aO (nQ fc).1.symm
     ·rcases a4 b hb with⟨dC,rfl⟩|aX
      ·exact⟨(hr.dE dC).1,(H.own n bN dC).2.1⟩
      ·exact o1 b aX
     ·rcases a4 b aX with⟨dC,rfl⟩|cl
      ·exact(H.own n bN dC).1 ((H.qF i q hi).2 _ hb).1
      ·exact H.qG i q n gr m rs xs b hi hn hm hb cl
     ·obtain⟨lN,fm⟩:=pL hq
      rcases a4 b hb with⟨dC,rfl⟩|aX
      ·have cU:=(H.row q bi m' aK ar lN).mode
       cases m' with
       |aF=>exact absurd rfl bE
       |aa=>exact(H.own n bN dC).1 (cU.1 _ cl).1
       |live=>exact H.live q bi aK ar lN _ cl n bN dC rfl
      ·exact H.fy n q gr m rs xs bi m' aK ar hn lN hm bE (Ne.symm fm) b aX cl
    ·rw[if_neg (by simpa using hm)]
     exact HF
   ·cases hx
  ·cases hx
 |ptr _ _ _ _=>simp[St.fS] at hx
 |cf _ _=>simp[St.fS] at hx
 |bt _ _ _ _ _ _=>simp[St.fS] at hx
 |fn _ _=>simp[St.fS] at hx
 |cB _ _ _ _ _ _=>simp[St.fS] at hx
 |bj=>simp[St.fS] at hx
end
end Go.Am
end
section
namespace Go.Am
section
variable {B:Nat} {E:Ex} {w0 w w':World} {G G':Gh} {h h':Nat->Option aq} {used used':Nat->Bool} {tk:List PC}
theorem HR.gf:∀{cs:List ah} {σ σ1:St} {G:Gh} {tk:List PC} {xs:List C} {o:Bool} {vs:List Value},HR B E w G σ.h σ.used tk->σ.gf cs=some (xs,o,σ1)->cA w G σ.h cs vs->
  (∀c∈cs,∀m,c.ref m->σ.used m=true)->
  ∃(Im':Nat->Prop) (bz:List PC),bz.map PC.er=xs/\bz.map PC.val=vs/\(∀pc∈bz,Good w pc/\∀b,aR b pc->Im' b)/\
   HR B E w ⟨Im',G.g⟩ σ1.h σ.used (if o=true then tk++bz else tk)/\aY w G σ.h (fun n=>σ.used n=true) w ⟨Im',G.g⟩ σ1.h/\σ1.env=σ.env/\σ1.used=σ.used/\
   (∀n b,σ1.h n=some b->σ.h n=some b)
 |[],σ,σ1,G,tk,xs,o,vs,H,hx,hc,hr=>by
  simp only[St.gf] at hx
  injection hx with hx
  injection hx with lP d9
  injection d9 with d9 o8
  subst lP d9 o8
  have:vs=[]:=List.eq_nil_of_length_eq_zero (by simpa using hc.1)
  subst this
  exact⟨G.Im,[],rfl,rfl,by simp,by simpa using H,aY.refl _ _ _ _,rfl,rfl,fun _ _ h=>h⟩
 |c::cs,σ,σ2,G,tk,xs,o,vs,H,hx,hc,hr=>by
  simp only[St.gf] at hx
  split at hx
  ·rename_i x o1 σ1 e1
   split at hx
   ·rename_i ar o2 TA e2
    injection hx with hx
    injection hx with lP d9
    injection d9 with d9 o8
    subst lP d9 o8
    obtain⟨hlen,cr⟩:=hc
    match vs,hlen with
    |v::vs,hlen=>
     obtain⟨BN,pc,a1,a2,a3,a4,a5,a6,a7,a8,a9⟩:=H.fS e1 (cr 0 c v rfl rfl).2
     have CI:cA w ⟨BN,G.g⟩ σ1.h cs vs:=cA.eV a6 (fun c' cI m hm=>hr c' (by simp[cI]) m hm) ⟨by simpa using hlen,fun j c u h1 h2=>cr (j+1) c u h1 h2⟩
     rw[<-a8] at a5
     obtain⟨BO,bz,b1,b2,b3,b4,b5,b6,b7,b8⟩:=HR.gf a5 e2 CI (fun c' cI m hm=>by rw[a8];exact hr c' (by simp[cI]) m hm)
     refine⟨BO,pc::bz,by simp[a1,b1],by simp[a2,b2],fun q hq=>?_,?_,aY.trans (fun n hn=>by rw[a8];exact hn) a6 b5,b6.trans a7,b7.trans a8,fun n b hb=>a9 n b (b8 n b hb)⟩
     ·cases hq with
      |head=>exact⟨a3,fun b hb=>b5.im b (a4 b hb)⟩
      |tail _ hq=>exact b3 q hq
     ·rw[a8] at b4
      cases o1<;>cases o2<;>simp at b4⊢
      ·exact b4
      ·exact b4.yK
      ·exact b4.yK
      ·exact b4
   ·cases hx
  ·cases hx
theorem RA.cells {x:aj} {ag:Bool} {cs:List ah} {v:Value} (hx:x.cells?=some (ag,cs)) (hc:RA w G h x v):cA w G h cs v.cells.toList:=by
 cases x with
 |one c=>
  have hj:c≠ .bj/\ag=false/\cs=[c]:=by
   cases c<;>simp[aj.cells?] at hx<;>(obtain⟨rfl,rfl⟩:=hx;simp)
  obtain⟨h1,rfl,rfl⟩:=hj
  rcases hc with rfl|hc
  ·exact absurd rfl h1
  ·have cI:cA w G h [c] [v]:=hc
   have h1:=(cI.2 0 c v rfl rfl).1
   cases v<;>first|exact cI|(simp[Value.oneCell'] at h1)
 |agg cs'=>
  simp[aj.cells?] at hx
  obtain⟨rfl,rfl⟩:=hx
  obtain⟨vs,e,hl⟩:∃vs:List Value,v=.agg vs.toArray/\cA w G h cs' vs:=hc
  subst e
  exact hl
 |bk xs=>simp[aj.cells?] at hx
theorem aj.zq {x:aj} {ag:Bool} {cs:List ah} (hx:x.cells?=some (ag,cs)) {c:ah} (hc:c∈cs) {m:Nat} (hm:c.ref m):x.ref m:=by
 cases x with
 |one c'=>
  have hj:cs=[c']:=by
   cases c'<;>simp[aj.cells?] at hx<;>exact hx.2.symm
  subst hj
  simp at hc
  subst hc
  exact hm
 |agg cs'=>
  simp[aj.cells?] at hx
  obtain⟨_,rfl⟩:=hx
  exact⟨c,hc,hm⟩
 |bk xs=>simp[aj.cells?] at hx
theorem HR.lm {sz:Nat}:∀{xs:List aj} {σ σ1:St} {G:Gh} {tk:List PC} {es:List (List C)} {o:Bool} {vs:List Value},HR B E w G σ.h σ.used tk->σ.lm sz xs=some (es,o,σ1)->
  vs.length=xs.length->(∀(j:Nat) (x:aj) (v:Value),xs[j]? =some x->vs[j]? =some v->RA w G σ.h x v)->(∀x∈xs,∀m,x.ref m->σ.used m=true)->
  ∃(Im':Nat->Prop) (pes:List (List PC)),pes.map (fun e=>e.map PC.er)=es/\pes.map (fun e=>e.map PC.val)=vs.map (fun v=>v.cells.toList)/\(∀e∈pes,e.length=sz)/\
   (∀e∈pes,∀pc∈e,Good w pc/\∀b,aR b pc->Im' b)/\
   HR B E w ⟨Im',G.g⟩ σ1.h σ.used (if o=true then tk++pes.flatten else tk)/\aY w G σ.h (fun n=>σ.used n=true) w ⟨Im',G.g⟩ σ1.h/\σ1.env=σ.env/\σ1.used=σ.used/\
   (∀n b,σ1.h n=some b->σ.h n=some b)
 |[],σ,σ1,G,tk,es,o,vs,H,hx,hl,hc,hr=>by
  simp only[St.lm] at hx
  injection hx with hx
  injection hx with lP d9
  injection d9 with d9 o8
  subst lP d9 o8
  have:vs=[]:=List.eq_nil_of_length_eq_zero (by simpa using hl)
  subst this
  exact⟨G.Im,[],rfl,rfl,by simp,by simp,by simpa using H,aY.refl _ _ _ _,rfl,rfl,fun _ _ h=>h⟩
 |x::xs,σ,σ2,G,tk,es,o,vs,H,hx,hl,hc,hr=>by
  simp only[St.lm] at hx
  split at hx
  ·rename_i ag cs ki
   split at hx
   ·rename_i bG
    split at hx
    ·rename_i e o1 σ1 e1
     split at hx
     ·rename_i es' o2 TA e2
      injection hx with hx
      injection hx with lP d9
      injection d9 with d9 o8
      subst lP d9 o8
      match vs,hl with
      |v::vs,hl=>
       have bQ:=(hc 0 x v rfl rfl).cells ki
       obtain⟨BN,bz,a1,a2,a3,a5,a6,a7,a8,a9⟩:=H.gf e1 bQ (fun c' cI m hm=>hr x (by simp) m (aj.zq ki cI hm))
       rw[<-a8] at a5
       obtain⟨BO,pes,b1,b2,b3,b3',b4,b5,b6,b7,b8⟩:=HR.lm (xs:=xs) (vs:=vs) a5 e2 (by simpa using hl)
        (fun j x v h1 h2=>(hc (j+1) x v h1 h2).eV a6 (fun m hm=>hr x (by simp[List.mem_of_getElem? h1]) m hm)) (fun x' eT m hm=>by rw[a8];exact hr x' (by simp[eT]) m hm)
       refine⟨BO,bz::pes,by simp[a1,b1],by simp[a2,b2],fun q hq=>?_,fun q hq pc bd=>?_,?_,aY.trans (fun n hn=>by rw[a8];exact hn) a6 b5,b6.trans a7,b7.trans a8,fun n b hb=>a9 n b (b8 n b hb)⟩
       ·cases hq with
        |head=>
         have:(bz.map PC.er).length=(v.cells.toList).length:=by rw[<-a2];simp
         have h2:=bQ.1
         simp at this
         simp at h2
         omega
        |tail _ hq=>exact b3 q hq
       ·cases hq with
        |head=>exact⟨(a3 pc bd).1,fun b hb=>b5.im b ((a3 pc bd).2 b hb)⟩
        |tail _ hq=>exact b3' q hq pc bd
       ·rw[a8] at b4
        cases o1<;>cases o2<;>simp at b4⊢
        ·exact b4
        ·exact b4.yK
        ·exact b4.yK
        ·exact b4
     ·cases hx
    ·cases hx
   ·cases hx
  ·cases hx
def jr (b:Nat) (pc:PC):Prop:=aR b pc\/∃sz o cap xs,pc=.list sz (some (ad b o)) cap xs/\cap≠0
def BW (w:World):PC->Prop
 |.list sz a cap xs=>0<sz/\xs.length<=cap/\(cap=0\/∃b o cur e,a=some (ad b o)/\w.heap[b]? =some (.cells cur e (0,0))/\cur.size=o+cap*sz/\cap<=maxLen/\∀k j c,At xs k j c->¬aR b c)
 |_=>True
structure BU (w:World) (B':Nat) (ps:List PC):Prop where
 dV:∀pc∈ps,Good w pc/\Sep pc/\BW w pc
 new:∀pc∈ps,∀b,jr b pc->B'<=b/\dr w b
 nb:∀(i j:Nat) (pc df:PC) (b:Nat),i≠j->ps[i]? =some pc->ps[j]? =some df->jr b pc->¬jr b df
def qz:K×List PC->Value
 |(.one,[pc])=>pc.val
 |(_,bz)=>.agg (bz.map PC.val).toArray
def wA:List (K×List PC)->Value
 |[p]=>qz p
 |l=>.tuple (l.map qz).toArray
def cJ (P:Program) (f:FuncId) (M:List Dv->Option (List Dv)):Prop:=
 ∀ds rs,M ds=some rs->∀(w:World) (vals:List Value),Ey w ds vals->Calls P f vals.toArray w fun e w'=>
  ∃aU:List (K×List PC),aU.map (fun p=>(p.1,p.2.map PC.er))=rs/\e=.returned (wA aU)/\(∀p∈aU,p.1≠ .ptr/\(p.1=.one->p.2.length=1))/\
   BU w' w.heap.size (aU.flatMap (·.2))/\Fr w.heap.size Ex.no w w'
end
end Go.Am
end
section
namespace Go.Am
section
variable {B:Nat} {E:Ex} {w0 w w':World} {G G':Gh} {h h':Nat->Option aq} {used used':Nat->Bool} {tk:List PC} {N:Nat}
def oJ (G:Gh) (h:Nat->Option aq) (b:Nat):Prop:=
 ¬G.Im b/\(∀n,h n≠none->(G.g n).nl=false->(G.g n).b≠b)/\∀n gr m sz xs,h n=some (.row gr m sz xs)->¬aV b (G.g n).px
theorem HR.Od (H:HR B E w G h used tk):oJ G h w.heap.size:=
 ⟨fun hi=>Nat.lt_irrefl _ (H.fL _ hi),fun n hn hl he=>by have:=(H.own n hn hl).2.2;omega,fun n gr m sz xs hn hb=>Nat.lt_irrefl _ (H.qA hn hb)⟩
def aau (B:Nat) (E:Ex) (w w':World) (G:Gh) (h:Nat->Option aq) (p:PB):aq->Prop
 |.box cs=>p.nl=false/\dr w' p.b/\∀(j:Nat) (c:ah),cs[j]? =some c->∃v,w'.cell? (ad p.b (p.o+j))=some v/\v.oneCell'=true/\RC w G h c v
 |.row gr m sz xs=>tn B E w' G gr m sz xs p
theorem aY.insert (H:HR B E w G h used tk) {n:Nat} {blk:aq} {p:PB} (hn:used n=false) (hw:∀b,b<w.heap.size->w'.heap[b]? =w.heap[b]?):
  aY w G h (fun n=>used n=true) w' ⟨G.Im,av G.g n p⟩ (av h n (some blk)):=by
 have ne:∀m,used m=true->m≠n:=fun m hm e=>by subst e;rw[hn] at hm;cases hm
 refine⟨fun _ h=>h,fun b hb o=>iE (hw b (H.fL b hb)) o,fun m hm h0=>?_,fun m gr sz xs hm h0=>?_⟩
 ·rw[cd _ _ _ _ (ne m hm)] at h0
  simp only[cd _ _ _ _ (ne m hm)]
  exact⟨h0,trivial,trivial,trivial,trivial,trivial⟩
 ·rw[cd _ _ _ _ (ne m hm)] at h0
  simp only[cd _ _ _ _ (ne m hm)]
  exact⟨⟨gr,xs,h0⟩,fun k j pc h1 h2=>⟨pc,h1,rfl,h2⟩⟩
theorem HR.insert (H:HR B E w G h used tk) {n:Nat} {blk:aq} {p:PB} (hn:used n=false) (hw:∀b,b<w.heap.size->w'.heap[b]? =w.heap[b]?) (bG:w.heap.size<=w'.heap.size)
  (hl:p.nl=false->oJ G h p.b/\(B<=p.b\/E p.b)/\p.b<w'.heap.size)
  (vN:∀cs c m,blk=.box cs->c∈cs->c.ref m->used m=true)
  (g0:aau B E w w' G h p blk)
  (Hi:∀gr m sz xs,blk=.row gr m sz xs->m≠ .aF->∀n' bi m' aK ar,h n'=some (.row bi m' aK ar)->m'≠ .aF->∀b,aV b p.px->¬aV b (G.g n').px)
  (sq:∀gr sz xs,blk=.row gr .live sz xs->∀b,aV b p.px->(p.nl=false->b≠p.b)/\∀n',h n'≠none->(G.g n').nl=false->b≠(G.g n').b)
  (z6:∀gr m sz xs,blk=.row gr m sz xs->m≠ .aF->∀(i:Nat) (pc:PC) (b:Nat),tk[i]? =some pc->aR b pc->¬aV b p.px):
  HR B E w' ⟨G.Im,av G.g n p⟩ (av h n (some blk)) (av used n true) tk:=by
 have K:=aY.insert H (blk:=blk) (p:=p) hn hw
 have Mw:h n=none:=by
  cases hh:h n with
  |none=>rfl
  |some b=>have:=H.jb n (by rw[hh];simp);rw[hn] at this;cases this
 have aC:∀m,h m≠none->m≠n:=fun m hm e=>by subst e;exact hm Mw
 have hu:∀m,used m=true->av used n true m=true:=fun m hm=>by
  simp only[jp];split
  ·rfl
  ·exact hm
 refine H.put (fun b hb _=>hw b hb) bG (fun b hb hU=>hU.congr (hw b hb)) hu (bD _ _ _) (fun hp=>⟨(hl hp).1.1,(hl hp).2⟩) (fun hp m hm h0 kS=>(hl hp).1.2.1 m h0 kS)
  (fun hp m gr sz xs hm h0 b hb he=>(hl hp).1.2.2 m gr _ sz xs h0 (he▸hb)) (fun cs c m hb hc hr=>hu m (vN cs c m hb hc hr)) K ?_
  (fun gr m sz xs hb hm n' bi m' aK ar _ h0=>Hi gr m sz xs hb hm n' bi m' aK ar h0) (fun gr sz xs hb b cl=>⟨(sq gr sz xs hb b cl).1,fun n' _=>(sq gr sz xs hb b cl).2 n'⟩) z6
  (fun hp _ b hb he=>by obtain⟨m,gr,mo,sz,xs,_,h0,cl⟩:=hb;exact(hl hp).1.2.2 m gr mo sz xs h0 (he▸cl))
 cases blk with
 |box cs=>
  obtain⟨a1,a2,a3⟩:=g0
  refine⟨a1,a2,fun j c hj=>?_⟩
  obtain⟨v,b1,b2,b3⟩:=a3 j c hj
  exact⟨v,b1,b2,b3.eV K fun m hm=>vN cs c m rfl (List.mem_of_getElem? hj) hm⟩
 |row gr m sz xs=>
  have hr:tn B E w' G gr m sz xs p:=g0
  exact⟨hr.pos,hr.er,hr.nl,hr.dE,hr.room,by
   have:=hr.mode
   cases m<;>exact this⟩
theorem R.put {σ:St} {a:Act} (r:R B E w0 N σ a w G) {x:aj} {v:Value} (hv:RA w G σ.h x v) (hr:∀m,x.ref m->σ.used m=true) {d:Option Nat} (hd:∀n,d=some n->n<N):
  R B E w0 N (σ.put d x) (a.put d v) w G:=by
 cases d with
 |none=>exact r
 |some n=>
  have hn:=hd n rfl
  refine⟨r.defers,by simp[Act.put,r.size],fun s=>?_,fun s m hm=>?_,r.hr,r.fr,r.qt,r.yx⟩
  ·simp only[St.put,Act.put]
   by_cases hs:s=n
   ·subst hs
    rw[bD]
    have:(a.tmps.setIfInBounds s v).getD s undef=v:=by
     simp[Array.getD_eq_getD_getElem?,r.size,hn]
    rw[this]
    exact hv
   ·rw[cd _ _ _ _ hs]
    have:(a.tmps.setIfInBounds n v).getD s undef=a.tmps.getD s undef:=by
     simp[Array.getD_eq_getD_getElem?,Array.getElem?_setIfInBounds_ne (Ne.symm hs)]
    rw[this]
    exact r.env s
  ·simp only[St.put] at hm⊢
   by_cases hs:s=n
   ·subst hs;rw[bD] at hm;exact hr m hm
   ·rw[cd _ _ _ _ hs] at hm;exact r.rF s m hm
theorem R.step {σ:St} {a:Act} (r:R B E w0 N σ a w G) {σ':St} (he:σ'.env=σ.env) (hu:∀m,σ.used m=true->σ'.used m=true) (K:aY w G σ.h (fun n=>σ.used n=true) w' G' σ'.h)
  (H:HR B E w' G' σ'.h σ'.used []) (F:Fr B E w0 w'):R B E w0 N σ' a w' G':=
 ⟨r.defers,r.size,fun s=>by rw[he];exact(r.env s).eV K (fun m hm=>r.rF s m hm),fun s m hm=>by rw[he] at hm;exact hu m (r.rF s m hm),H,F,
  fun n p b hp hb=>by
   have z9:=r.yx n (E.lt n p hp)
   obtain⟨k0,k1,k2,k3,k4,k6⟩:=K.name n z9 (by rw[hb];simp)
   cases h0:σ.h n with
   |none=>exact absurd h0 k0
   |some b0=>
    obtain⟨p1,p2,p3,p4,p6,p5⟩:=r.qt n p b0 hp h0
    refine⟨k1.trans p1,k2.trans p2,k3.trans p3,k4.trans p4,k6.trans p6,fun gr sz xs CF k j pc hk hL=>?_⟩
    subst CF
    obtain⟨⟨xC,kL,e0⟩,hl⟩:=K.live n gr sz xs z9 hb
    rw[h0] at e0
    injection e0 with e0
    obtain⟨pc1,q1,q2,q3⟩:=p5 xC sz kL e0 k j pc hk hL
    obtain⟨pc2,q4,q5,q6⟩:=hl k j pc1 q1 q3
    exact⟨pc2,q4,q5.trans q2,q6⟩,
  fun n hn=>hu n (r.yx n hn)⟩
end
def Gk:Value->ah->Bool
 |.int k n,.c (.int k' n')=>decide (k=k')&&decide (n=n')
 |.bool b,.c (.bool b')=>decide (b=b')
 |.slice none 0 0,.nil sz=>true
 |.pointer none,.bj=>true
 |_,_=>false
def r5:List Value->List ah->Bool
 |[],[]=>true
 |v::vs,c::cs=>Gk v c&&r5 vs cs
 |_,_=>false
def bx:Operand->MO->Bool
 |.tmp n,.t m=>n==m
 |.const (.agg vs),.k (.agg cs)=>r5 vs.toList cs
 |.const v,.k (.one c)=>Gk v c
 |_,_=>false
section
variable {B:Nat} {E:Ex} {w0 w w':World} {G G':Gh} {h h':Nat->Option aq} {used used':Nat->Bool} {tk:List PC} {N:Nat}
theorem Ue {v:Value} {c:ah} (hc:Gk v c=true):RC w G h c v/\v.oneCell'=true/\∀m,¬c.ref m:=by
 unfold Gk at hc
 split at hc
 ·simp at hc
  obtain⟨rfl,rfl⟩:=hc
  exact⟨⟨.int _ _,rfl,rfl,.int _ _,fun b hb=>by cases hb⟩,rfl,fun m hm=>hm⟩
 ·simp at hc
  subst hc
  exact⟨⟨.bool _,rfl,rfl,.bool _,fun b hb=>by cases hb⟩,rfl,fun m hm=>hm⟩
 ·exact⟨rfl,rfl,fun m hm=>hm⟩
 ·exact⟨trivial,rfl,fun m hm=>hm⟩
 ·cases hc
theorem Gl:∀{vs:List Value} {cs:List ah},r5 vs cs=true->cA w G h cs vs/\∀c∈cs,∀m,¬c.ref m
 |[],[],_=>⟨⟨rfl,by simp⟩,by simp⟩
 |v::vs,c::cs,hc=>by
  simp only[r5,Bool.and_eq_true] at hc
  obtain⟨a1,a2,a3⟩:=Ue (w:=w) (G:=G) (h:=h) hc.1
  obtain⟨⟨b1,b2⟩,b3⟩:=Gl hc.2
  refine⟨⟨by simp[b1],fun j c' u hj hu=>?_⟩,fun c' cI=>?_⟩
  ·cases j with
   |zero=>simp at hj hu;subst hj;subst hu;exact⟨a2,a1⟩
   |succ j=>exact b2 j c' u (by simpa using hj) (by simpa using hu)
  ·cases cI with
   |head=>exact a3
   |tail _ cI=>exact b3 c' cI
 |[],_::_,hc=>by simp[r5] at hc
 |_::_,[],hc=>by simp[r5] at hc
theorem RV.gp {c:ah} {v:Value} (h1:v.oneCell'=true) (h2:RC w G h c v):RV w G h false [c] v:=by
 show cA w G h [c] [v]
 exact⟨rfl,fun j c' u hj hu=>by
  cases j with
  |zero=>simp at hj hu;subst hj;subst hu;exact⟨h1,h2⟩
  |succ j=>simp at hj⟩
theorem RA.gp {c:ah} {v:Value} (h1:v.oneCell'=true) (h2:RC w G h c v):RA w G h (.one c) v:=.inr (RV.gp h1 h2)
theorem R.ev {σ:St} {a:Act} (r:R B E w0 N σ a w G) {x:Operand} {m:MO} (hc:bx x m=true):RA w G σ.h (σ.ev m) (a.eval x)/\∀n,(σ.ev m).ref n->σ.used n=true:=by
 unfold bx at hc
 split at hc
 ·simp at hc
  subst hc
  exact⟨r.env _,fun n hn=>r.rF _ n hn⟩
 ·rename_i vs cs
  obtain⟨b1,b2⟩:=Gl (w:=w) (G:=G) (h:=σ.h) hc
  exact⟨⟨vs.toList,by simp[Act.eval],b1⟩,fun n hn=>by obtain⟨c,hc,hm⟩:=hn;exact absurd hm (b2 c hc n)⟩
 ·obtain⟨a1,a2,a3⟩:=Ue (w:=w) (G:=G) (h:=σ.h) hc
  exact⟨RA.gp a2 a1,fun n hn=>absurd hn (a3 n)⟩
 ·cases hc
theorem nK {P:Program} {o:Oper} {a:Act} {v:Value} {K:Act->World->Prop} {Q:Exit->Act->World->Prop} (hr:(execOp a.eval o).run P w=.ok (.value v) w') (hK:K (a.put o.dst v) w'):o.wp P a w K Q:=by
 unfold Oper.wp
 rw[hr]
 exact hK
theorem JB {P:Program} {o:Oper} {a:Act} {K:Act->World->Prop} {Q:Exit->Act->World->Prop} (hr:(execOp a.eval o).run P w=.ok .skip w') (hK:K (a.put o.dst undef) w'):o.wp P a w K Q:=by
 unfold Oper.wp
 rw[hr]
 exact hK
end
end Go.Am
end
section
namespace Go.Am
section
variable {B:Nat} {E:Ex} {w0 w w':World} {G G':Gh} {h h':Nat->Option aq} {used used':Nat->Bool} {tk:List PC} {N:Nat}
variable {P:Program} {o:Oper} {a:Act} {σ σ':St} {Q:Exit->Act->World->Prop}
def Nx (B:Nat) (E:Ex) (w0:World) (N:Nat) (σ:St):Act->World->Prop:=fun a w=>∃G,R B E w0 N σ a w G
theorem Kq (w:World) (ob:Obj) (b:Nat) (hb:b<w.heap.size):(w.alloc ob).heap[b]? =w.heap[b]? :=heap_alloc_old w ob b hb
theorem dr.alloc (w:World) (arr:Array Value) (e:TypeId):dr (w.alloc (.cells arr e)) w.heap.size:=⟨arr,e,heap_alloc_new w _⟩
theorem mJ {σ1:St} {n:Nat} {b:aq} (hx:σ.ins n b=some σ1):σ.used n=false/\σ1={σ with h:=av σ.h n (some b),used:=av σ.used n true}:=by
 unfold St.ins at hx
 split at hx
 ·cases hx
 ·rename_i hu
  injection hx with hx
  exact⟨by simpa using hu,hx.symm⟩
theorem qI (n m:Nat) (hm:used m=true):av used n true m=true:=by
 simp only[jp];split
 ·rfl
 ·exact hm
theorem R.X6 (r:R B E w0 N σ a w G) {n:Nat} {cs:List ah} {vs:List Value} {e:TypeId} (hn:σ.used n=false) (hc:cA w G σ.h cs vs) (iH:∀c∈cs,∀m,c.ref m->σ.used m=true):
  ∃G',R B E w0 N {σ with h:=av σ.h n (some (.box cs)),used:=av σ.used n true} a (w.alloc (.cells vs.toArray e)) G'/\
   RA (w.alloc (.cells vs.toArray e)) G' (av σ.h n (some (.box cs))) (.one (.ptr n 0 0 0)) (.pointer (some (ad w.heap.size 0))):=by
 have H:=r.hr
 have hB:=r.fr.size
 have hw:=Kq w (.cells vs.toArray e)
 refine⟨⟨G.Im,av G.g n ⟨false,w.heap.size,0,0,[],none⟩⟩,r.step rfl (fun m hm=>qI n m hm) (aY.insert H hn hw) ?_ (r.fr.grow hw (by simp) rfl rfl rfl),?_⟩
 ·refine H.insert hn hw (by simp) (fun _=>⟨H.Od,.inl hB,by simp⟩) (fun cs' c m hb cI hm=>?_) ⟨rfl,dr.alloc _ _ _,fun j c hj=>?_⟩ (fun gr m sz xs hb=>by cases hb) (fun gr sz xs hb=>by cases hb) (fun gr m sz xs hb=>by cases hb)
  ·injection hb with hb;subst hb;exact iH c cI m hm
  ·have tS:j<vs.length:=by rw[hc.1];exact(List.getElem?_eq_some_iff.1 hj).1
   have hv:vs[j]? =some vs[j]:=List.getElem?_eq_getElem tS
   obtain⟨q1,q2⟩:=hc.2 j c _ hj hv
   refine⟨vs[j],?_,q1,q2⟩
   simp only[Nat.zero_add]
   unfold ad
   rw[World.cell?_alloc_new]
   simp only[List.getElem?_toArray];exact hv
 ·exact RA.gp rfl fun _=>by simp[bD]
theorem abE (r:R B E w0 N σ a w G) {n:Nat} {e:TypeId} {i:TypeInfo} {z:Value} {zs:List ah} {σ1:St} (ho:o.op=.alloc e) (hd:o.dst=some n) (hN:n<N)
  (hi:P.info? e=some i) (hz:i.zero=some z) (hc:r5 z.cells.toList zs=true) (hx:σ.ins n (.box zs)=some σ1):
  o.wp P a w (Nx B E w0 N (σ1.put o.dst (.one (.ptr n 0 0 0)))) Q:=by
 obtain⟨hn,rfl⟩:=mJ hx
 obtain⟨bQ,iH⟩:=Gl (w:=w) (G:=G) (h:=σ.h) hc
 obtain⟨G',r',hv⟩:=r.X6 (e:=e) hn bQ (fun c hc m hm=>absurd hm (iH c hc m))
 have bo:(execOp a.eval o).run P w=.ok (.value (.pointer (some (ad w.heap.size 0)))) (w.alloc (.cells z.cells.toList.toArray e)):=by
  simp[execOp,ho,Instr.alloc,zeroValue,typeInfo,hi,hz,newVar,newRow,ad]
 exact nK bo ⟨G',r'.put hv (fun m hm=>by have bE:m=n:=hm;subst bE;exact bD _ _ _) (fun m hm=>by rw[hd] at hm;injection hm with hm;omega)⟩
theorem abI (r:R B E w0 N σ a w G) {n:Nat} {e:TypeId} {x:Operand} {m:MO} {ag:Bool} {cs:List ah} {σ1:St} (ho:o.op=.box e x) (hd:o.dst=some n) (hN:n<N)
  (hm:bx x m=true) (ez:(σ.ev m).cells?=some (ag,cs)) (hx:σ.ins n (.box cs)=some σ1):
  o.wp P a w (Nx B E w0 N (σ1.put o.dst (.one (.ptr n 0 0 0)))) Q:=by
 obtain⟨hn,rfl⟩:=mJ hx
 obtain⟨hv,iH⟩:=r.ev hm
 obtain⟨G',r',fJ⟩:=r.X6 (e:=e) hn (hv.cells ez) (fun c hc q hq=>iH q (aj.zq ez hc hq))
 have bo:(execOp a.eval o).run P w=.ok (.value (.pointer (some (ad w.heap.size 0)))) (w.alloc (.cells (a.eval x).cells.toList.toArray e)):=by
  simp[execOp,ho,Instr.box,newVar,newRow,ad]
 exact nK bo ⟨G',r'.put fJ (fun q hq=>by have dW:q=n:=hq;subst dW;exact bD _ _ _) (fun q hq=>by rw[hd] at hq;injection hq with hq;omega)⟩
theorem tt {α:Type} {sz:Nat}:∀{px:List (List α)} (_:∀e∈px,e.length=sz) {k j:Nat} {c:α},At px k j c->px.flatten[k*sz+j]? =some c
 |[],_,k,j,c,hk=>by obtain⟨e,he,_⟩:=hk;simp at he
 |e::px,hl,k,j,c,hk=>by
  obtain⟨e',he,hj⟩:=hk
  have h0:=hl e (by simp)
  cases k with
  |zero=>
   simp at he
   subst he
   have tS:=(List.getElem?_eq_some_iff.1 hj).1
   simp only[List.flatten_cons,Nat.zero_mul,Nat.zero_add]
   rw[List.getElem?_append_left tS]
   exact hj
  |succ k=>
   have ih:=tt (px:=px) (fun e he=>hl e (by simp[he])) (k:=k) (j:=j) (c:=c) ⟨e',by simpa using he,hj⟩
   simp only[List.flatten_cons]
   rw[List.getElem?_append_right (by rw[h0,Nat.add_mul];omega)]
   rw[show(k+1)*sz+j - e.length=k*sz+j by rw[h0,Nat.add_mul];omega]
   exact ih
structure BS (B:Nat) (E:Ex) (w:World) (G:Gh) (h:Nat->Option aq) (m:Mode) (pes:List (List PC)):Prop where
 nX:∀b,aV b pes->G.Im b/\dr w b/\(B<=b\/E b)
 sep:io pes
 fy:∀n gr m sz xs,h n=some (.row gr m sz xs)->m≠ .aF->∀b,aV b pes->¬aV b (G.g n).px
 kind:m=.aa\/∀b,¬aV b pes
theorem aaG {α:Type} {sz:Nat} (bG:0<sz) {pes:List (List α)} (hl:∀e∈pes,e.length=sz) {k j k' j':Nat} {c c':α} (h1:At pes k j c) (h2:At pes k' j' c') (aC:(k,j)≠(k',j')):k*sz+j≠k'*sz+j':=by
 intro dA
 have hj:j<sz:=by obtain⟨e1,he,hj⟩:=h1;rw[<-hl e1 (List.mem_of_getElem? he)];exact(List.getElem?_eq_some_iff.1 hj).1
 have kq:j'<sz:=by obtain⟨e1,he,hj⟩:=h2;rw[<-hl e1 (List.mem_of_getElem? he)];exact(List.getElem?_eq_some_iff.1 hj).1
 have hk:k=k':=by
  have h3:(k*sz+j)/sz=k:=by rw[Nat.mul_comm,Nat.mul_add_div bG,Nat.div_eq_of_lt hj];omega
  have h4:(k'*sz+j')/sz=k':=by rw[Nat.mul_comm,Nat.mul_add_div bG,Nat.div_eq_of_lt kq];omega
  rw[dA] at h3
  omega
 subst hk
 exact aC (by rw[show j=j' by omega])
theorem HR.aiJ {pes:List (List PC)} {sz:Nat} (bG:0<sz) (hl:∀e∈pes,e.length=sz) (H:HR B E w G h used pes.flatten):BS B E w G h .aa pes:=by
 refine⟨?_,⟨fun k j c hk=>(H.qF _ c (tt hl hk)).1,fun k j c k' j' c' b hk da aC hb=>H.uP _ _ c c' b (aaG bG hl hk da aC) (tt hl hk) (tt hl da) hb⟩,?_,.inl rfl⟩
 ·rintro b ⟨k,j,c,hk,hb⟩
  exact(H.qF _ c (tt hl hk)).2 b hb
 ·rintro n gr m sz xs hn hm b ⟨k,j,c,hk,hb⟩
  exact H.qG _ c n gr m sz xs b (tt hl hk) hn hm hb
theorem Sep.DG {w:World} {q:PC} (hq:∀b,¬aR b q) (hg:Good w q):Sep q:=by
 induction hg with
 |int k n=>exact .int k n
 |bool b=>exact .bool b
 |nil sz a cap h=>exact .list _ _ _ _ (by rintro k j c ⟨e,he,_⟩;simp at he) (by rintro b o k j c _ ⟨e,he,_⟩;simp at he) (by rintro k j c k' j' c' b ⟨e,he,_⟩;simp at he)
 |cons sz b o cap xs h1 h2 h3 h4 h5 h6 ih=>exact absurd (.here _ _ _ _ h1) (hq b)
theorem BS.DG {m:Mode} {pes:List (List PC)} (ct:∀b,¬aV b pes) (hg:∀k j c,At pes k j c->Good w c):BS B E w G h m pes:=
 ⟨fun b hb=>absurd hb (ct b),⟨fun k j c hk=>Sep.DG (fun b hb=>ct b ⟨k,j,c,hk,hb⟩) (hg k j c hk),fun k j c k' j' c' b hk _ _ hb=>absurd ⟨k,j,c,hk,hb⟩ (ct b)⟩,fun n gr m sz xs _ _ b hb=>absurd hb (ct b),.inr ct⟩
theorem R.newRow (r:R B E w0 N σ a w G) {Im':Nat->Prop} {σ1:St} (H:HR B E w ⟨Im',G.g⟩ σ1.h σ.used []) (K:aY w G σ.h (fun n=>σ.used n=true) w ⟨Im',G.g⟩ σ1.h)
  (xK:σ1.env=σ.env) (lO:σ1.used=σ.used)
  {n:Nat} {m:Mode} {sz cap:Nat} {pes:List (List PC)} {arr:Array Value} {e:TypeId} (hn:σ.used n=false) (bG:0<sz) (hl:∀e∈pes,e.length=sz)
  (gJ:∀k j c,At pes k j c->Good w c/\∀b,aR b c->Im' b) (tK:∀k j c,At pes k j c->arr[k*sz+j]? =some c.val) (kl:pes.length<=cap) (xP:cap<=maxLen) (tZ:arr.size=cap*sz)
  (hm:m=.aF\/BS B E w ⟨Im',G.g⟩ σ1.h m pes):
  ∃G',R B E w0 N {σ1 with h:=av σ1.h n (some (.row true m sz (pes.map fun e=>e.map PC.er))),used:=av σ1.used n true} a (w.alloc (.cells arr e)) G'/\
   RA (w.alloc (.cells arr e)) G' (av σ1.h n (some (.row true m sz (pes.map fun e=>e.map PC.er)))) (.one (.sl n sz 0 pes.length)) (.slice (some (ad w.heap.size 0)) pes.length cap):=by
 have hB:=r.fr.size
 have hw:=Kq w (.cells arr e)
 have aat:HR B E (w.alloc (.cells arr e)) ⟨Im',av G.g n ⟨false,w.heap.size,0,cap,pes,none⟩⟩ (av σ1.h n (some (.row true m sz (pes.map fun e=>e.map PC.er)))) (av σ.used n true) []:=by
  refine H.insert (p:=⟨false,w.heap.size,0,cap,pes,none⟩) hn hw (by simp) (fun _=>⟨H.Od,.inl hB,by simp⟩) (fun cs c m hb=>by cases hb) ?_ ?_ ?_ (fun gr m sz xs _ _ i pc b hi=>by simp at hi)
  ·refine⟨bG,rfl,(fun hl=>by cases hl),fun _=>⟨dr.alloc _ _ _,⟨hl,fun k j c hk=>?_,fun k j c hk=>?_⟩,kl⟩,fun _ _=>⟨xP,arr,e,heap_alloc_new w _,(Nat.zero_add _).symm▸tZ⟩,?_⟩
   ·simp only[Nat.zero_add]
    unfold ad
    rw[World.cell?_alloc_new]
    exact tK k j c hk
   ·exact(gJ k j c hk).1.congr fun b hb o=>iE (hw b (H.fL b ((gJ k j c hk).2 b hb))) o
   ·have qY:m≠ .aF->(∀b,aV b pes->Im' b/\dr (w.alloc (.cells arr e)) b/\(B<=b\/E b))/\io pes:=fun g9=>
     ⟨fun b hb=>by
      have hO:=hm.resolve_left g9
      obtain⟨q1,q2,q3⟩:=hO.nX b hb
      exact⟨q1,q2.congr (hw b (H.fL b q1)),q3⟩,(hm.resolve_left g9).sep⟩
    cases m with
    |aF=>
     rintro b ⟨k,j,c,hk,hb⟩
     exact(gJ k j c hk).2 b hb
    |aa=>exact qY (by simp)
    |live=>
     have hO:=hm.resolve_left (by simp)
     have ct:=hO.kind.resolve_left (by simp)
     exact⟨fun b hb=>absurd hb (ct b),hO.sep⟩
  ·intro gr m' aK ar hb g9 n' bi nC kG il h0 jd b cl
   injection hb with _ hb _ _
   subst hb
   exact(hm.resolve_left g9).fy n' bi nC kG il h0 jd b cl
  ·intro gr aK ar hb b cl
   injection hb with _ hb _ _
   subst hb
   exact absurd cl ((hm.resolve_left (by simp)).kind.resolve_left (by simp) b)
 have K2:=aY.trans (u2:=fun n=>σ.used n=true) (fun _ h=>h) K (aY.insert H (blk:=.row true m sz (pes.map fun e=>e.map PC.er)) (p:=⟨false,w.heap.size,0,cap,pes,none⟩) hn hw)
 refine⟨⟨Im',av G.g n ⟨false,w.heap.size,0,cap,pes,none⟩⟩,r.step xK (fun m hm=>by rw[lO];exact qI n m hm) K2 (by rw[lO];exact aat) (r.fr.grow hw (by simp) rfl rfl rfl),?_⟩
 refine RA.gp rfl fun _=>.inr ⟨by simp[bD],some (ad w.heap.size 0),?_,?_,?_⟩
 ·simp[bD]
 ·simp[bD];omega
 ·simp[bD]
end
end Go.Am
end
