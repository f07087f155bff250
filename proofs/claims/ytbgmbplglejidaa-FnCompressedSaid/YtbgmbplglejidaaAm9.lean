/- Am6, Am7, Am8, Am9: parts of the proof. No condition. -/
import Derived.Test.YtbgmbplglejidaaAm5
set_option linter.unusedVariables false
section
namespace Go.Am
section
variable {B:Nat} {E:Ex} {w0 w w':World} {G G':Gh} {h h':Nat->Option ao} {used used':Nat->Bool} {tk:List PC}
theorem bf.qV (S:Nat->Prop) (u:Nat->Prop):bf w G h u w ⟨fun b=>G.Im b\/S b,G.g⟩ h:=
 ⟨fun _ h=>.inl h,fun _ _ _=>rfl,fun _ _ h=>⟨h,rfl,rfl,rfl,rfl,rfl⟩,fun n gr sz xs _ hn=>⟨⟨gr,xs,hn⟩,fun k j pc h1 h2=>⟨pc,h1,rfl,h2⟩⟩⟩
theorem HR.qV (H:HR B E w G h used tk) (S:Nat->Prop) (h1:∀b,S b->b<w.heap.size) (h2:∀b,S b->∀n,h n≠none->(G.g n).nl=false->b≠(G.g n).b)
  (h3:∀b,S b->∀n gr sz xs,h n=some (.row gr .live sz xs)->¬aX b (G.g n).px) (h4:∀b,S b->B<=b\/E b\/E.a b):HR B E w ⟨fun b=>G.Im b\/S b,G.g⟩ h used tk:=by
 refine⟨H.iK,H.gV,fun n cs hn=>?_,fun n gr m sz xs hn=>?_,fun n hn hl=>?_,H.inj,?_,fun b hb=>hb.elim (H.pP b) (h4 b),H.fI,H.live,fun i pc hi=>?_,H.vr,H.rD⟩
 ·obtain⟨a1,a2,a3⟩:=H.box n cs hn
  refine⟨a1,a2,fun j c hj=>?_⟩
  obtain⟨v,b1,b2,b3⟩:=a3 j c hj
  exact⟨v,b1,b2,b3.ff (bf.qV S (fun n=>used n=true)) fun q hq=>H.gV n cs c q hn (List.mem_of_getElem? hj) hq⟩
 ·have hr:=H.row n gr m sz xs hn
  refine⟨hr.pos,hr.er,hr.nl,hr.dV,hr.room,?_⟩
  have hm:=hr.mode
  cases m with
  |aF=>exact fun b hb=>.inl (hm b hb)
  |ab=>exact⟨fun b hb=>⟨.inl (hm.1 b hb).1,(hm.1 b hb).2⟩,hm.2⟩
  |live=>exact⟨fun b hb=>⟨fun hi=>hi.elim (hm.1 b hb).1 (fun hs=>h3 b hs n gr sz xs hn hb),(hm.1 b hb).2⟩,hm.2⟩
 ·obtain⟨a1,a2,a3⟩:=H.own n hn hl
  exact⟨fun hi=>hi.elim a1 (fun hs=>h2 _ hs n hn hl rfl),a2,a3⟩
 ·exact fun b hb=>hb.elim (H.fW b) (h1 b)
 ·obtain⟨a1,a2⟩:=H.rC i pc hi
  exact⟨a1,fun b hb=>⟨.inl (a2 b hb).1,(a2 b hb).2⟩⟩
theorem HR.xu {l:List PC} (H:HR B E w G h used (tk++l)):HR B E w G h used tk:=by
 have e:∀(i:Nat) (pc:PC),tk[i]? =some pc->(tk++l)[i]? =some pc:=fun i pc hi=>by
  rw[List.getElem?_append_left (List.getElem?_eq_some_iff.1 hi).1];exact hi
 exact⟨H.iK,H.gV,H.box,H.row,H.own,H.inj,H.fW,H.pP,H.fI,H.live,fun i pc hi=>H.rC i pc (e i pc hi),fun i j pc dn b jG h1 h2=>H.vr i j pc dn b jG (e i pc h1) (e j dn h2),
  fun i pc n gr m sz xs b hi=>H.rD i pc n gr m sz xs b (e i pc hi)⟩
theorem HR.VY (H:HR B E w G h used tk) {pc:PC} (h1:Sep pc) (h2:∀b,aT b pc->G.Im b/\dH w b/\(B<=b\/E b))
  (h3:∀(i:Nat) (q:PC) (b:Nat),tk[i]? =some q->aT b q->¬aT b pc)
  (h4:∀n gr m sz xs b,h n=some (.row gr m sz xs)->m≠ .aF->aT b pc->¬aX b (G.g n).px):HR B E w G h used (tk++[pc]):=by
 have e:∀(i:Nat) (q:PC),(tk++[pc])[i]? =some q->(i<tk.length/\tk[i]? =some q)\/(i=tk.length/\q=pc):=fun i q hi=>by
  rcases Nat.lt_trichotomy i tk.length with bH|ef|yE
  ·rw[List.getElem?_append_left bH] at hi;exact .inl ⟨bH,hi⟩
  ·subst ef;simp at hi;exact .inr ⟨rfl,hi.symm⟩
  ·rw[List.getElem?_eq_none (by simp;omega)] at hi;cases hi
 refine⟨H.iK,H.gV,H.box,H.row,H.own,H.inj,H.fW,H.pP,H.fI,H.live,fun i q hi=>?_,fun i j q q' b jG hi hj hb=>?_,fun i q n gr m sz xs b hi hn hm hb=>?_⟩
 ·rcases e i q hi with⟨_,hi⟩|⟨_,rfl⟩
  ·exact H.rC i q hi
  ·exact⟨h1,h2⟩
 ·rcases e i q hi with⟨_,hi'⟩|⟨ei,eq⟩
  ·rcases e j q' hj with⟨_,iC⟩|⟨_,X9⟩
   ·exact H.vr i j q q' b jG hi' iC hb
   ·rw[X9];exact h3 i q b hi' hb
  ·rcases e j q' hj with⟨_,iC⟩|⟨ej,X9⟩
   ·rw[eq] at hb;exact fun aY=>h3 j q' b iC aY hb
   ·omega
 ·rcases e i q hi with⟨_,hi⟩|⟨_,rfl⟩
  ·exact H.rD i q n gr m sz xs b hi hn hm hb
  ·exact h4 n gr m sz xs b hn hm hb
theorem Sep.lF {pc:PC} (hs:pc.er.eR=true):Sep pc/\∀b,¬aT b pc:=by
 cases pc with
 |int k n=>exact⟨.int k n,fun b hb=>by cases hb⟩
 |bool b=>exact⟨.bool b,fun b hb=>by cases hb⟩
 |list sz a cap xs=>simp[PC.dO,C.eR] at hs
theorem qz {n m:Nat} {b:ao} (hm:av h n none m=some b):h m=some b/\m≠n:=by
 by_cases bE:m=n
 ·subst bE;rw[bG] at hm;cases hm
 ·rw[cz _ _ _ _ bE] at hm;exact⟨hm,bE⟩
theorem AZ {n m:Nat} (hm:av h n none m≠none):h m≠none/\m≠n:=by
 cases hh:av h n none m with
 |none=>exact absurd hh hm
 |some b=>obtain⟨a,b⟩:=qz hh;exact⟨by rw[a];simp,b⟩
def Lq (p:PB):Nat->Prop:=fun b=>(p.nl=false/\b=p.b)\/aX b p.px
theorem HR.freeze (H:HR B E w G h used tk) {n:Nat} {gr:Bool} {m:Mode} {rs:Nat} {xs:List (List C)} (hn:h n=some (.row gr m rs xs)):
  HR B E w ⟨fun b=>G.Im b\/Lq (G.g n) b,G.g⟩ (av h n none) used tk:=by
 have hr:=H.row n gr m rs xs hn
 have bP:h n≠none:=by rw[hn];simp
 have gf:∀b,aX b (G.g n).px->G.Im b\/m=.live:=fun b hb=>by
  have hm:=hr.mode
  cases m with
  |aF=>exact .inl (hm b hb)
  |ab=>exact .inl (hm.1 b hb).1
  |live=>exact .inr rfl
 refine(H.del n).qV (Lq (G.g n)) (fun b hb=>?_) (fun b hb q hq hl=>?_) (fun b hb q bm aJ aq hq cH=>?_) (fun b hb=>?_)
 ·rcases hb with⟨h1,rfl⟩|hb
  ·exact(H.own n bP h1).2.2
  ·exact H.rq hn hb
 ·obtain⟨nO,fE⟩:=AZ hq
  rcases hb with⟨h1,rfl⟩|hb
  ·exact H.inj n q bP nO (Ne.symm fE) h1 hl
  ·rcases gf b hb with hi|rfl
   ·rintro rfl;exact(H.own q nO hl).1 hi
   ·exact H.live n gr rs xs hn b hb q nO hl
 ·obtain⟨nO,fE⟩:=qz hq
  rcases hb with⟨h1,rfl⟩|hb
  ·exact H.live q bm aJ aq nO _ cH n bP h1 rfl
  ·rcases gf b hb with hi|rfl
   ·exact((H.row q bm .live aJ aq nO).mode.1 b cH).1 hi
   ·exact H.fI n q gr .live rs xs bm .live aJ aq hn nO (by simp) (by simp) (Ne.symm fE) b hb cH
 ·rcases hb with⟨h1,rfl⟩|hb
  ·exact(H.own n bP h1).2.1.imp id .inl
  ·rcases gf b hb with hi|rfl
   ·exact H.pP b hi
   ·exact(hr.mode.1 b hb).2.2.imp id .inl
theorem iy.sub {px:List (List PC)} (hs:iy px) (lo len:Nat):iy ((px.drop lo).take len):=by
 refine⟨fun k j c hk=>hs.1 _ _ _ (pi hk).1,fun k j c k' j' c' b hk cO aC hb=>hs.2 _ _ _ _ _ _ b (pi hk).1 (pi cO).1 (fun e=>aC ?_) hb⟩
 injection e with e1 e2
 rw[show k=k' by omega,e2]
theorem HR.fQ {σ σ1:St} (H:HR B E w G σ.h σ.used tk) {c:ah} {x:C} {o:Bool} {v:Value} (hx:σ.fQ c=some (x,o,σ1)) (hc:RC w G σ.h c v):
  ∃(Im':Nat->Prop) (pc:PC),pc.er=x/\pc.val=v/\Good w pc/\(∀b,aT b pc->Im' b)/\
   HR B E w ⟨Im',G.g⟩ σ1.h σ.used (if o=true then tk++[pc] else tk)/\bf w G σ.h (fun n=>σ.used n=true) w ⟨Im',G.g⟩ σ1.h/\σ1.env=σ.env/\σ1.used=σ.used/\
   (∀n b,σ1.h n=some b->σ.h n=some b):=by
 cases c with
 |c y=>
  simp only[St.fQ] at hx
  injection hx with hx
  injection hx with mA eJ
  injection eJ with eJ pH
  subst mA eJ pH
  obtain⟨pc,h1,h2,h3,h4⟩:=hc
  refine⟨G.Im,pc,h1,h2,h3,h4,?_,bf.refl _ _ _ _,rfl,rfl,fun _ _ h=>h⟩
  by_cases hs:y.eR=true
  ·rw[if_pos hs]
   obtain⟨s1,s2⟩:=Sep.lF (pc:=pc) (by rw[h1];exact hs)
   exact H.VY s1 (fun b hb=>absurd hb (s2 b)) (fun _ _ b _ _=>s2 b) (fun _ _ _ _ _ b _ _ hb=>absurd hb (s2 b))
  ·rw[if_neg hs];exact H
 |nil sz=>
  simp only[St.fQ] at hx
  split at hx
  ·rename_i dR
   injection hx with hx
   injection hx with mA eJ
   injection eJ with eJ pH
   subst mA eJ pH
   have cC:v=.slice none 0 0:=hc
   subst cC
   have cf:∀b,¬aT b (.list sz none 0 []):=fun b hb=>by
    rw[aT.kI] at hb
    rcases hb with⟨hb,_⟩|⟨k,j,c,⟨e,he,_⟩,_⟩
    ·exact absurd rfl hb
    ·simp at he
   refine⟨G.Im,.list sz none 0 [],by simp[PC.dO],rfl,.nil _ _ _ dR,fun b hb=>absurd hb (cf b),?_,bf.refl _ _ _ _,rfl,rfl,fun _ _ h=>h⟩
   rw[if_pos rfl]
   refine H.VY (.list _ _ _ _ ?_ ?_ ?_) (fun b hb=>absurd hb (cf b)) (fun _ _ b _ _=>cf b) (fun _ _ _ _ _ b _ _ hb=>absurd hb (cf b))
   ·rintro k j c ⟨e,he,_⟩;simp at he
   ·rintro b o k j c _ ⟨e,he,_⟩;simp at he
   ·rintro k j c k' j' c' b ⟨e,he,_⟩;simp at he
  ·cases hx
 |sl n sz lo len=>
  simp only[St.fQ] at hx
  split at hx
  ·rename_i gr m rs xs hn
   split at hx
   ·rename_i cM
    obtain⟨rfl,rfl,lm⟩:=cM
    injection hx with hx
    injection hx with mA eJ
    injection eJ with eJ pH
    subst mA eJ pH
    have hl:0+len<=xs.length:=by omega
    have bP:σ.h n≠none:=by rw[hn];simp
    have hs:jA (G.g n) rs 0 len v:=hc bP
    have hr:=H.row n gr m rs xs hn
    obtain⟨a1,a2,a3,a4⟩:=FK hr hs hl
    have HF:=H.freeze hn
    have K1:bf w G σ.h (fun n=>σ.used n=true) w ⟨fun b=>G.Im b\/Lq (G.g n) b,G.g⟩ (av σ.h n none):=
     bf.trans (fun _ h=>h) (bf.del n (fun n=>σ.used n=true)) (bf.qV (Lq (G.g n)) (fun n=>σ.used n=true))
    refine⟨_,kK (G.g n) rs 0 len v,by simpa using a1,a2,a3,fun b hb=>.inr (a4 b hb),?_,K1,rfl,rfl,fun q b hq=>(qz hq).1⟩
    by_cases hm:m≠ .aF
    ·rw[if_pos (by simpa using hm)]
     have sd:(∀b,aX b (G.g n).px->dH w b/\(B<=b\/E b))/\iy (G.g n).px/\(∀b,aX b (G.g n).px->(G.g n).nl=false->b≠(G.g n).b):=by
      have c6:=hr.mode
      cases m with
      |aF=>exact absurd rfl hm
      |ab=>exact⟨fun b hb=>(c6.1 b hb).2,c6.2,fun b hb hl ef=>(H.own n bP hl).1 (ef▸(c6.1 b hb).1)⟩
      |live=>exact⟨fun b hb=>(c6.1 b hb).2,c6.2,fun b hb hl=>H.live n gr rs xs hn b hb n bP hl⟩
     obtain⟨o1,o2,o3⟩:=sd
     refine HF.VY ?_ (fun b hb=>⟨.inr (a4 b hb),?_⟩) (fun i q b hi hb aY=>?_) (fun q bm m' aJ aq b hq bM hb cH=>?_)
     ·
      rcases hs with⟨aL,rfl,_,rfl⟩|⟨aL,a,rfl,jE,ha⟩
      ·simp only[kK]
       have hz:(List.take 0 (List.drop 0 (G.g n).px))=[]:=by simp
       rw[hz]
       refine .list _ _ _ _ ?_ ?_ ?_
       ·rintro k j c ⟨e,he,_⟩;simp at he
       ·rintro b o k j c _ ⟨e,he,_⟩;simp at he
       ·rintro k j c k' j' c' b ⟨e,he,_⟩;simp at he
      ·simp only[kK]
       have EH:=o2.sub 0 len
       refine .list _ _ _ _ EH.1 (fun b o k j c eV hk hb=>?_) EH.2
       have cO:=(pi hk).1
       have ZG:0<len:=by have:=(pi hk).2;omega
       have e:=ha (.inl (by omega))
       rw[e] at eV
       injection eV with eV
       exact o3 b ⟨_,_,_,cO,hb⟩ aL (nD eV).1.symm
     ·rcases a4 b hb with⟨dE,rfl⟩|aY
      ·exact⟨(hr.dV dE).1,(H.own n bP dE).2.1⟩
      ·exact o1 b aY
     ·rcases a4 b aY with⟨dE,rfl⟩|cH
      ·exact(H.own n bP dE).1 ((H.rC i q hi).2 _ hb).1
      ·exact H.rD i q n gr m rs xs b hi hn hm hb cH
     ·obtain⟨nO,fE⟩:=qz hq
      rcases a4 b hb with⟨dE,rfl⟩|aY
      ·have c6:=(H.row q bm m' aJ aq nO).mode
       cases m' with
       |aF=>exact absurd rfl bM
       |ab=>exact(H.own n bP dE).1 (c6.1 _ cH).1
       |live=>exact H.live q bm aJ aq nO _ cH n bP dE rfl
      ·exact H.fI n q gr m rs xs bm m' aJ aq hn nO hm bM (Ne.symm fE) b aY cH
    ·rw[if_neg (by simpa using hm)]
     exact HF
   ·cases hx
  ·cases hx
 |ptr _ _ _ _=>simp[St.fQ] at hx
 |cB _ _=>simp[St.fQ] at hx
 |bx _ _ _ _ _ _=>simp[St.fQ] at hx
 |fn _ _=>simp[St.fQ] at hx
 |cV _ _ _ _ _ _=>simp[St.fQ] at hx
 |bn=>simp[St.fQ] at hx
end
end Go.Am
end
section
namespace Go.Am
section
variable {B:Nat} {E:Ex} {w0 w w':World} {G G':Gh} {h h':Nat->Option ao} {used used':Nat->Bool} {tk:List PC}
theorem HR.fv:∀{cs:List ah} {σ σ1:St} {G:Gh} {tk:List PC} {xs:List C} {o:Bool} {vs:List Value},HR B E w G σ.h σ.used tk->σ.fv cs=some (xs,o,σ1)->cT w G σ.h cs vs->
  (∀c∈cs,∀m,c.ref m->σ.used m=true)->
  ∃(Im':Nat->Prop) (bw:List PC),bw.map PC.er=xs/\bw.map PC.val=vs/\(∀pc∈bw,Good w pc/\∀b,aT b pc->Im' b)/\
   HR B E w ⟨Im',G.g⟩ σ1.h σ.used (if o=true then tk++bw else tk)/\bf w G σ.h (fun n=>σ.used n=true) w ⟨Im',G.g⟩ σ1.h/\σ1.env=σ.env/\σ1.used=σ.used/\
   (∀n b,σ1.h n=some b->σ.h n=some b)
 |[],σ,σ1,G,tk,xs,o,vs,H,hx,hc,hr=>by
  simp only[St.fv] at hx
  injection hx with hx
  injection hx with mA eJ
  injection eJ with eJ pH
  subst mA eJ pH
  have:vs=[]:=List.eq_nil_of_length_eq_zero (by simpa using hc.1)
  subst this
  exact⟨G.Im,[],rfl,rfl,by simp,by simpa using H,bf.refl _ _ _ _,rfl,rfl,fun _ _ h=>h⟩
 |c::cs,σ,σ2,G,tk,xs,o,vs,H,hx,hc,hr=>by
  simp only[St.fv] at hx
  split at hx
  ·rename_i x o1 σ1 e1
   split at hx
   ·rename_i aq o2 Wh e2
    injection hx with hx
    injection hx with mA eJ
    injection eJ with eJ pH
    subst mA eJ pH
    obtain⟨hlen,bU⟩:=hc
    match vs,hlen with
    |v::vs,hlen=>
     obtain⟨xM,pc,a1,a2,a3,a4,a5,a6,a7,a8,a9⟩:=H.fQ e1 (bU 0 c v rfl rfl).2
     have wj:cT w ⟨xM,G.g⟩ σ1.h cs vs:=cT.ff a6 (fun c' cC m hm=>hr c' (by simp[cC]) m hm) ⟨by simpa using hlen,fun j c u h1 h2=>bU (j+1) c u h1 h2⟩
     rw[<-a8] at a5
     obtain⟨De,bw,b1,b2,b3,b4,b5,b6,b7,b8⟩:=HR.fv a5 e2 wj (fun c' cC m hm=>by rw[a8];exact hr c' (by simp[cC]) m hm)
     refine⟨De,pc::bw,by simp[a1,b1],by simp[a2,b2],fun q hq=>?_,?_,bf.trans (fun n hn=>by rw[a8];exact hn) a6 b5,b6.trans a7,b7.trans a8,fun n b hb=>a9 n b (b8 n b hb)⟩
     ·cases hq with
      |head=>exact⟨a3,fun b hb=>b5.im b (a4 b hb)⟩
      |tail _ hq=>exact b3 q hq
     ·rw[a8] at b4
      cases o1<;>cases o2<;>simp at b4⊢
      ·exact b4
      ·exact b4.xu
      ·exact b4.xu
      ·exact b4
   ·cases hx
  ·cases hx
theorem RA.cells {x:aj} {ag:Bool} {cs:List ah} {v:Value} (hx:x.cells?=some (ag,cs)) (hc:RA w G h x v):cT w G h cs v.cells.toList:=by
 cases x with
 |one c=>
  have hj:c≠ .bn/\ag=false/\cs=[c]:=by
   cases c<;>simp[aj.cells?] at hx<;>(obtain⟨rfl,rfl⟩:=hx;simp)
  obtain⟨h1,rfl,rfl⟩:=hj
  rcases hc with rfl|hc
  ·exact absurd rfl h1
  ·have cC:cT w G h [c] [v]:=hc
   have h1:=(cC.2 0 c v rfl rfl).1
   cases v<;>first|exact cC|(simp[Value.oneCell'] at h1)
 |agg cs'=>
  simp[aj.cells?] at hx
  obtain⟨rfl,rfl⟩:=hx
  obtain⟨vs,e,hl⟩:∃vs:List Value,v=.agg vs.toArray/\cT w G h cs' vs:=hc
  subst e
  exact hl
 |bq xs=>simp[aj.cells?] at hx
theorem aj.xY {x:aj} {ag:Bool} {cs:List ah} (hx:x.cells?=some (ag,cs)) {c:ah} (hc:c∈cs) {m:Nat} (hm:c.ref m):x.ref m:=by
 cases x with
 |one c'=>
  have hj:cs=[c']:=by
   cases c'<;>simp[aj.cells?] at hx<;>exact hx.2.symm
  subst hj
  simp at hc
  subst hc
  exact hm
 |agg cs'=>
  simp[aj.cells?] at hx
  obtain⟨_,rfl⟩:=hx
  exact⟨c,hc,hm⟩
 |bq xs=>simp[aj.cells?] at hx
theorem HR.lM {sz:Nat}:∀{xs:List aj} {σ σ1:St} {G:Gh} {tk:List PC} {es:List (List C)} {o:Bool} {vs:List Value},HR B E w G σ.h σ.used tk->σ.lM sz xs=some (es,o,σ1)->
  vs.length=xs.length->(∀(j:Nat) (x:aj) (v:Value),xs[j]? =some x->vs[j]? =some v->RA w G σ.h x v)->(∀x∈xs,∀m,x.ref m->σ.used m=true)->
  ∃(Im':Nat->Prop) (pes:List (List PC)),pes.map (fun e=>e.map PC.er)=es/\pes.map (fun e=>e.map PC.val)=vs.map (fun v=>v.cells.toList)/\(∀e∈pes,e.length=sz)/\
   (∀e∈pes,∀pc∈e,Good w pc/\∀b,aT b pc->Im' b)/\
   HR B E w ⟨Im',G.g⟩ σ1.h σ.used (if o=true then tk++pes.flatten else tk)/\bf w G σ.h (fun n=>σ.used n=true) w ⟨Im',G.g⟩ σ1.h/\σ1.env=σ.env/\σ1.used=σ.used/\
   (∀n b,σ1.h n=some b->σ.h n=some b)
 |[],σ,σ1,G,tk,es,o,vs,H,hx,hl,hc,hr=>by
  simp only[St.lM] at hx
  injection hx with hx
  injection hx with mA eJ
  injection eJ with eJ pH
  subst mA eJ pH
  have:vs=[]:=List.eq_nil_of_length_eq_zero (by simpa using hl)
  subst this
  exact⟨G.Im,[],rfl,rfl,by simp,by simp,by simpa using H,bf.refl _ _ _ _,rfl,rfl,fun _ _ h=>h⟩
 |x::xs,σ,σ2,G,tk,es,o,vs,H,hx,hl,hc,hr=>by
  simp only[St.lM] at hx
  split at hx
  ·rename_i ag cs ku
   split at hx
   ·rename_i bI
    split at hx
    ·rename_i e o1 σ1 e1
     split at hx
     ·rename_i es' o2 Wh e2
      injection hx with hx
      injection hx with mA eJ
      injection eJ with eJ pH
      subst mA eJ pH
      match vs,hl with
      |v::vs,hl=>
       have bO:=(hc 0 x v rfl rfl).cells ku
       obtain⟨xM,bw,a1,a2,a3,a5,a6,a7,a8,a9⟩:=H.fv e1 bO (fun c' cC m hm=>hr x (by simp) m (aj.xY ku cC hm))
       rw[<-a8] at a5
       obtain⟨De,pes,b1,b2,b3,b3',b4,b5,b6,b7,b8⟩:=HR.lM (xs:=xs) (vs:=vs) a5 e2 (by simpa using hl)
        (fun j x v h1 h2=>(hc (j+1) x v h1 h2).ff a6 (fun m hm=>hr x (by simp[List.mem_of_getElem? h1]) m hm)) (fun x' fM m hm=>by rw[a8];exact hr x' (by simp[fM]) m hm)
       refine⟨De,bw::pes,by simp[a1,b1],by simp[a2,b2],fun q hq=>?_,fun q hq pc aU=>?_,?_,bf.trans (fun n hn=>by rw[a8];exact hn) a6 b5,b6.trans a7,b7.trans a8,fun n b hb=>a9 n b (b8 n b hb)⟩
       ·cases hq with
        |head=>
         have:(bw.map PC.er).length=(v.cells.toList).length:=by rw[<-a2];simp
         have h2:=bO.1
         simp at this
         simp at h2
         omega
        |tail _ hq=>exact b3 q hq
       ·cases hq with
        |head=>exact⟨(a3 pc aU).1,fun b hb=>b5.im b ((a3 pc aU).2 b hb)⟩
        |tail _ hq=>exact b3' q hq pc aU
       ·rw[a8] at b4
        cases o1<;>cases o2<;>simp at b4⊢
        ·exact b4
        ·exact b4.xu
        ·exact b4.xu
        ·exact b4
     ·cases hx
    ·cases hx
   ·cases hx
  ·cases hx
def jb (b:Nat) (pc:PC):Prop:=aT b pc\/∃sz o cap xs,pc=.list sz (some (ad b o)) cap xs/\cap≠0
def Dp (w:World):PC->Prop
 |.list sz a cap xs=>0<sz/\xs.length<=cap/\(cap=0\/∃b o cur e,a=some (ad b o)/\w.heap[b]? =some (.cells cur e (0,0))/\cur.size=o+cap*sz/\cap<=maxLen/\∀k j c,At xs k j c->¬aT b c)
 |_=>True
structure Dl (w:World) (B':Nat) (ps:List PC):Prop where
 eA:∀pc∈ps,Good w pc/\Sep pc/\Dp w pc
 new:∀pc∈ps,∀b,jb b pc->B'<=b/\dH w b
 nF:∀(i j:Nat) (pc dn:PC) (b:Nat),i≠j->ps[i]? =some pc->ps[j]? =some dn->jb b pc->¬jb b dn
def rp:K×List PC->Value
 |(.one,[pc])=>pc.val
 |(_,bw)=>.agg (bw.map PC.val).toArray
def xd:List (K×List PC)->Value
 |[p]=>rp p
 |l=>.tuple (l.map rp).toArray
def du (P:Program) (f:FuncId) (M:List Dv->Option (List Dv)):Prop:=
 ∀ds rs,M ds=some rs->∀(w:World) (vals:List Value),Gk w ds vals->Calls P f vals.toArray w fun e w'=>
  ∃aW:List (K×List PC),aW.map (fun p=>(p.1,p.2.map PC.er))=rs/\e=.returned (xd aW)/\(∀p∈aW,p.1≠ .ptr/\(p.1=.one->p.2.length=1))/\
   Dl w' w.heap.size (aW.flatMap (·.2))/\Fr w.heap.size Ex.no w w'
end
end Go.Am
end
section
namespace Go.Am
section
variable {B:Nat} {E:Ex} {w0 w w':World} {G G':Gh} {h h':Nat->Option ao} {used used':Nat->Bool} {tk:List PC} {N:Nat}
def pf (G:Gh) (h:Nat->Option ao) (b:Nat):Prop:=
 ¬G.Im b/\(∀n,h n≠none->(G.g n).nl=false->(G.g n).b≠b)/\∀n gr m sz xs,h n=some (.row gr m sz xs)->¬aX b (G.g n).px
theorem HR.QF (H:HR B E w G h used tk):pf G h w.heap.size:=
 ⟨fun hi=>Nat.lt_irrefl _ (H.fW _ hi),fun n hn hl he=>by have:=(H.own n hn hl).2.2;omega,fun n gr m sz xs hn hb=>Nat.lt_irrefl _ (H.rq hn hb)⟩
def aea (B:Nat) (E:Ex) (w w':World) (G:Gh) (h:Nat->Option ao) (p:PB):ao->Prop
 |.box cs=>p.nl=false/\dH w' p.b/\∀(j:Nat) (c:ah),cs[j]? =some c->∃v,w'.cell? (ad p.b (p.o+j))=some v/\v.oneCell'=true/\RC w G h c v
 |.row gr m sz xs=>tU B E w' G gr m sz xs p
theorem bf.insert (H:HR B E w G h used tk) {n:Nat} {blk:ao} {p:PB} (hn:used n=false) (hw:∀b,b<w.heap.size->w'.heap[b]? =w.heap[b]?):
  bf w G h (fun n=>used n=true) w' ⟨G.Im,av G.g n p⟩ (av h n (some blk)):=by
 have ne:∀m,used m=true->m≠n:=fun m hm e=>by subst e;rw[hn] at hm;cases hm
 refine⟨fun _ h=>h,fun b hb o=>iJ (hw b (H.fW b hb)) o,fun m hm h0=>?_,fun m gr sz xs hm h0=>?_⟩
 ·rw[cz _ _ _ _ (ne m hm)] at h0
  simp only[cz _ _ _ _ (ne m hm)]
  exact⟨h0,trivial,trivial,trivial,trivial,trivial⟩
 ·rw[cz _ _ _ _ (ne m hm)] at h0
  simp only[cz _ _ _ _ (ne m hm)]
  exact⟨⟨gr,xs,h0⟩,fun k j pc h1 h2=>⟨pc,h1,rfl,h2⟩⟩
theorem HR.insert (H:HR B E w G h used tk) {n:Nat} {blk:ao} {p:PB} (hn:used n=false) (hw:∀b,b<w.heap.size->w'.heap[b]? =w.heap[b]?) (bI:w.heap.size<=w'.heap.size)
  (hl:p.nl=false->pf G h p.b/\(B<=p.b\/E p.b)/\p.b<w'.heap.size)
  (wJ:∀cs c m,blk=.box cs->c∈cs->c.ref m->used m=true)
  (ig:aea B E w w' G h p blk)
  (Jr:∀gr m sz xs,blk=.row gr m sz xs->m≠ .aF->∀n' bm m' aJ aq,h n'=some (.row bm m' aJ aq)->m'≠ .aF->∀b,aX b p.px->¬aX b (G.g n').px)
  (tf:∀gr sz xs,blk=.row gr .live sz xs->∀b,aX b p.px->(p.nl=false->b≠p.b)/\∀n',h n'≠none->(G.g n').nl=false->b≠(G.g n').b)
  (wE:∀gr m sz xs,blk=.row gr m sz xs->m≠ .aF->∀(i:Nat) (pc:PC) (b:Nat),tk[i]? =some pc->aT b pc->¬aX b p.px):
  HR B E w' ⟨G.Im,av G.g n p⟩ (av h n (some blk)) (av used n true) tk:=by
 have K:=bf.insert H (blk:=blk) (p:=p) hn hw
 have O3:h n=none:=by
  cases hh:h n with
  |none=>rfl
  |some b=>have:=H.iK n (by rw[hh];simp);rw[hn] at this;cases this
 have aC:∀m,h m≠none->m≠n:=fun m hm e=>by subst e;exact hm O3
 have hu:∀m,used m=true->av used n true m=true:=fun m hm=>by
  simp only[iY];split
  ·rfl
  ·exact hm
 refine H.put (fun b hb _=>hw b hb) bI (fun b hb hU=>hU.congr (hw b hb)) hu (bG _ _ _) (fun hp=>⟨(hl hp).1.1,(hl hp).2⟩) (fun hp m hm h0 lm=>(hl hp).1.2.1 m h0 lm)
  (fun hp m gr sz xs hm h0 b hb he=>(hl hp).1.2.2 m gr _ sz xs h0 (he▸hb)) (fun cs c m hb hc hr=>hu m (wJ cs c m hb hc hr)) K ?_
  (fun gr m sz xs hb hm n' bm m' aJ aq _ h0=>Jr gr m sz xs hb hm n' bm m' aJ aq h0) (fun gr sz xs hb b cH=>⟨(tf gr sz xs hb b cH).1,fun n' _=>(tf gr sz xs hb b cH).2 n'⟩) wE
  (fun hp _ b hb he=>by obtain⟨m,gr,mo,sz,xs,_,h0,cH⟩:=hb;exact(hl hp).1.2.2 m gr mo sz xs h0 (he▸cH))
 cases blk with
 |box cs=>
  obtain⟨a1,a2,a3⟩:=ig
  refine⟨a1,a2,fun j c hj=>?_⟩
  obtain⟨v,b1,b2,b3⟩:=a3 j c hj
  exact⟨v,b1,b2,b3.ff K fun m hm=>wJ cs c m rfl (List.mem_of_getElem? hj) hm⟩
 |row gr m sz xs=>
  have hr:tU B E w' G gr m sz xs p:=ig
  exact⟨hr.pos,hr.er,hr.nl,hr.dV,hr.room,by
   have:=hr.mode
   cases m<;>exact this⟩
theorem R.put {σ:St} {a:Act} (r:R B E w0 N σ a w G) {x:aj} {v:Value} (hv:RA w G σ.h x v) (hr:∀m,x.ref m->σ.used m=true) {d:Option Nat} (hd:∀n,d=some n->n<N):
  R B E w0 N (σ.put d x) (a.put d v) w G:=by
 cases d with
 |none=>exact r
 |some n=>
  have hn:=hd n rfl
  refine⟨r.defers,by simp[Act.put,r.size],fun s=>?_,fun s m hm=>?_,r.hr,r.fr,r.re,r.zw⟩
  ·simp only[St.put,Act.put]
   by_cases hs:s=n
   ·subst hs
    rw[bG]
    have:(a.tmps.setIfInBounds s v).getD s undef=v:=by
     simp[Array.getD_eq_getD_getElem?,r.size,hn]
    rw[this]
    exact hv
   ·rw[cz _ _ _ _ hs]
    have:(a.tmps.setIfInBounds n v).getD s undef=a.tmps.getD s undef:=by
     simp[Array.getD_eq_getD_getElem?,Array.getElem?_setIfInBounds_ne (Ne.symm hs)]
    rw[this]
    exact r.env s
  ·simp only[St.put] at hm⊢
   by_cases hs:s=n
   ·subst hs;rw[bG] at hm;exact hr m hm
   ·rw[cz _ _ _ _ hs] at hm;exact r.sI s m hm
theorem R.step {σ:St} {a:Act} (r:R B E w0 N σ a w G) {σ':St} (he:σ'.env=σ.env) (hu:∀m,σ.used m=true->σ'.used m=true) (K:bf w G σ.h (fun n=>σ.used n=true) w' G' σ'.h)
  (H:HR B E w' G' σ'.h σ'.used []) (F:Fr B E w0 w'):R B E w0 N σ' a w' G':=
 ⟨r.defers,r.size,fun s=>by rw[he];exact(r.env s).ff K (fun m hm=>r.sI s m hm),fun s m hm=>by rw[he] at hm;exact hu m (r.sI s m hm),H,F,
  fun n p b hp hb=>by
   have BM:=r.zw n (E.lt n p hp)
   obtain⟨k0,k1,k2,k3,k4,k6⟩:=K.name n BM (by rw[hb];simp)
   cases h0:σ.h n with
   |none=>exact absurd h0 k0
   |some b0=>
    obtain⟨p1,p2,p3,p4,p6,p5⟩:=r.re n p b0 hp h0
    refine⟨k1.trans p1,k2.trans p2,k3.trans p3,k4.trans p4,k6.trans p6,fun gr sz xs El k j pc hk hL=>?_⟩
    subst El
    obtain⟨⟨yr,kR,e0⟩,hl⟩:=K.live n gr sz xs BM hb
    rw[h0] at e0
    injection e0 with e0
    obtain⟨pc1,q1,q2,q3⟩:=p5 yr sz kR e0 k j pc hk hL
    obtain⟨pc2,q4,q5,q6⟩:=hl k j pc1 q1 q3
    exact⟨pc2,q4,q5.trans q2,q6⟩,
  fun n hn=>hu n (r.zw n hn)⟩
end
def Iq:Value->ah->Bool
 |.int k n,.c (.int k' n')=>decide (k=k')&&decide (n=n')
 |.bool b,.c (.bool b')=>decide (b=b')
 |.slice none 0 0,.nil sz=>true
 |.pointer none,.bn=>true
 |_,_=>false
def sV:List Value->List ah->Bool
 |[],[]=>true
 |v::vs,c::cs=>Iq v c&&sV vs cs
 |_,_=>false
def bz:Operand->MO->Bool
 |.tmp n,.t m=>n==m
 |.const (.agg vs),.k (.agg cs)=>sV vs.toList cs
 |.const v,.k (.one c)=>Iq v c
 |_,_=>false
section
variable {B:Nat} {E:Ex} {w0 w w':World} {G G':Gh} {h h':Nat->Option ao} {used used':Nat->Bool} {tk:List PC} {N:Nat}
theorem Xq {v:Value} {c:ah} (hc:Iq v c=true):RC w G h c v/\v.oneCell'=true/\∀m,¬c.ref m:=by
 unfold Iq at hc
 split at hc
 ·simp at hc
  obtain⟨rfl,rfl⟩:=hc
  exact⟨⟨.int _ _,rfl,rfl,.int _ _,fun b hb=>by cases hb⟩,rfl,fun m hm=>hm⟩
 ·simp at hc
  subst hc
  exact⟨⟨.bool _,rfl,rfl,.bool _,fun b hb=>by cases hb⟩,rfl,fun m hm=>hm⟩
 ·exact⟨rfl,rfl,fun m hm=>hm⟩
 ·exact⟨trivial,rfl,fun m hm=>hm⟩
 ·cases hc
theorem Ir:∀{vs:List Value} {cs:List ah},sV vs cs=true->cT w G h cs vs/\∀c∈cs,∀m,¬c.ref m
 |[],[],_=>⟨⟨rfl,by simp⟩,by simp⟩
 |v::vs,c::cs,hc=>by
  simp only[sV,Bool.and_eq_true] at hc
  obtain⟨a1,a2,a3⟩:=Xq (w:=w) (G:=G) (h:=h) hc.1
  obtain⟨⟨b1,b2⟩,b3⟩:=Ir hc.2
  refine⟨⟨by simp[b1],fun j c' u hj hu=>?_⟩,fun c' cC=>?_⟩
  ·cases j with
   |zero=>simp at hj hu;subst hj;subst hu;exact⟨a2,a1⟩
   |succ j=>exact b2 j c' u (by simpa using hj) (by simpa using hu)
  ·cases cC with
   |head=>exact a3
   |tail _ cC=>exact b3 c' cC
 |[],_::_,hc=>by simp[sV] at hc
 |_::_,[],hc=>by simp[sV] at hc
theorem RV.gu {c:ah} {v:Value} (h1:v.oneCell'=true) (h2:RC w G h c v):RV w G h false [c] v:=by
 show cT w G h [c] [v]
 exact⟨rfl,fun j c' u hj hu=>by
  cases j with
  |zero=>simp at hj hu;subst hj;subst hu;exact⟨h1,h2⟩
  |succ j=>simp at hj⟩
theorem RA.gu {c:ah} {v:Value} (h1:v.oneCell'=true) (h2:RC w G h c v):RA w G h (.one c) v:=.inr (RV.gu h1 h2)
theorem R.ev {σ:St} {a:Act} (r:R B E w0 N σ a w G) {x:Operand} {m:MO} (hc:bz x m=true):RA w G σ.h (σ.ev m) (a.eval x)/\∀n,(σ.ev m).ref n->σ.used n=true:=by
 unfold bz at hc
 split at hc
 ·simp at hc
  subst hc
  exact⟨r.env _,fun n hn=>r.sI _ n hn⟩
 ·rename_i vs cs
  obtain⟨b1,b2⟩:=Ir (w:=w) (G:=G) (h:=σ.h) hc
  exact⟨⟨vs.toList,by simp[Act.eval],b1⟩,fun n hn=>by obtain⟨c,hc,hm⟩:=hn;exact absurd hm (b2 c hc n)⟩
 ·obtain⟨a1,a2,a3⟩:=Xq (w:=w) (G:=G) (h:=σ.h) hc
  exact⟨RA.gu a2 a1,fun n hn=>absurd hn (a3 n)⟩
 ·cases hc
theorem oe {P:Program} {o:Oper} {a:Act} {v:Value} {K:Act->World->Prop} {Q:Exit->Act->World->Prop} (hr:(execOp a.eval o).run P w=.ok (.value v) w') (hK:K (a.put o.dst v) w'):o.wp P a w K Q:=by
 unfold Oper.wp
 rw[hr]
 exact hK
theorem Lz {P:Program} {o:Oper} {a:Act} {K:Act->World->Prop} {Q:Exit->Act->World->Prop} (hr:(execOp a.eval o).run P w=.ok .skip w') (hK:K (a.put o.dst undef) w'):o.wp P a w K Q:=by
 unfold Oper.wp
 rw[hr]
 exact hK
end
end Go.Am
end
section
namespace Go.Am
section
variable {B:Nat} {E:Ex} {w0 w w':World} {G G':Gh} {h h':Nat->Option ao} {used used':Nat->Bool} {tk:List PC} {N:Nat}
variable {P:Program} {o:Oper} {a:Act} {σ σ':St} {Q:Exit->Act->World->Prop}
def Nx (B:Nat) (E:Ex) (w0:World) (N:Nat) (σ:St):Act->World->Prop:=fun a w=>∃G,R B E w0 N σ a w G
theorem MC (w:World) (ob:Obj) (b:Nat) (hb:b<w.heap.size):(w.alloc ob).heap[b]? =w.heap[b]? :=heap_alloc_old w ob b hb
theorem dH.alloc (w:World) (arr:Array Value) (e:TypeId):dH (w.alloc (.cells arr e)) w.heap.size:=⟨arr,e,heap_alloc_new w _⟩
theorem mE {σ1:St} {n:Nat} {b:ao} (hx:σ.ins n b=some σ1):σ.used n=false/\σ1={σ with h:=av σ.h n (some b),used:=av σ.used n true}:=by
 unfold St.ins at hx
 split at hx
 ·cases hx
 ·rename_i hu
  injection hx with hx
  exact⟨by simpa using hu,hx.symm⟩
theorem rE (n m:Nat) (hm:used m=true):av used n true m=true:=by
 simp only[iY];split
 ·rfl
 ·exact hm
theorem R.abh (r:R B E w0 N σ a w G) {n:Nat} {cs:List ah} {vs:List Value} {e:TypeId} (hn:σ.used n=false) (hc:cT w G σ.h cs vs) (iN:∀c∈cs,∀m,c.ref m->σ.used m=true):
  ∃G',R B E w0 N {σ with h:=av σ.h n (some (.box cs)),used:=av σ.used n true} a (w.alloc (.cells vs.toArray e)) G'/\
   RA (w.alloc (.cells vs.toArray e)) G' (av σ.h n (some (.box cs))) (.one (.ptr n 0 0 0)) (.pointer (some (ad w.heap.size 0))):=by
 have H:=r.hr
 have hB:=r.fr.size
 have hw:=MC w (.cells vs.toArray e)
 refine⟨⟨G.Im,av G.g n ⟨false,w.heap.size,0,0,[],none⟩⟩,r.step rfl (fun m hm=>rE n m hm) (bf.insert H hn hw) ?_ (r.fr.grow hw (by simp) rfl rfl rfl),?_⟩
 ·refine H.insert hn hw (by simp) (fun _=>⟨H.QF,.inl hB,by simp⟩) (fun cs' c m hb cC hm=>?_) ⟨rfl,dH.alloc _ _ _,fun j c hj=>?_⟩ (fun gr m sz xs hb=>by cases hb) (fun gr sz xs hb=>by cases hb) (fun gr m sz xs hb=>by cases hb)
  ·injection hb with hb;subst hb;exact iN c cC m hm
  ·have mX:j<vs.length:=by rw[hc.1];exact(List.getElem?_eq_some_iff.1 hj).1
   have hv:vs[j]? =some vs[j]:=List.getElem?_eq_getElem mX
   obtain⟨q1,q2⟩:=hc.2 j c _ hj hv
   refine⟨vs[j],?_,q1,q2⟩
   simp only[Nat.zero_add]
   unfold ad
   rw[World.cell?_alloc_new]
   simp only[List.getElem?_toArray];exact hv
 ·exact RA.gu rfl fun _=>by simp[bG]
theorem afE (r:R B E w0 N σ a w G) {n:Nat} {e:TypeId} {i:TypeInfo} {z:Value} {zs:List ah} {σ1:St} (ho:o.op=.alloc e) (hd:o.dst=some n) (hN:n<N)
  (hi:P.info? e=some i) (hz:i.zero=some z) (hc:sV z.cells.toList zs=true) (hx:σ.ins n (.box zs)=some σ1):
  o.wp P a w (Nx B E w0 N (σ1.put o.dst (.one (.ptr n 0 0 0)))) Q:=by
 obtain⟨hn,rfl⟩:=mE hx
 obtain⟨bO,iN⟩:=Ir (w:=w) (G:=G) (h:=σ.h) hc
 obtain⟨G',r',hv⟩:=r.abh (e:=e) hn bO (fun c hc m hm=>absurd hm (iN c hc m))
 have bX:(execOp a.eval o).run P w=.ok (.value (.pointer (some (ad w.heap.size 0)))) (w.alloc (.cells z.cells.toList.toArray e)):=by
  simp[execOp,ho,Instr.alloc,zeroValue,typeInfo,hi,hz,newVar,newRow,ad]
 exact oe bX ⟨G',r'.put hv (fun m hm=>by have bM:m=n:=hm;subst bM;exact bG _ _ _) (fun m hm=>by rw[hd] at hm;injection hm with hm;omega)⟩
theorem afI (r:R B E w0 N σ a w G) {n:Nat} {e:TypeId} {x:Operand} {m:MO} {ag:Bool} {cs:List ah} {σ1:St} (ho:o.op=.box e x) (hd:o.dst=some n) (hN:n<N)
  (hm:bz x m=true) (eB:(σ.ev m).cells?=some (ag,cs)) (hx:σ.ins n (.box cs)=some σ1):
  o.wp P a w (Nx B E w0 N (σ1.put o.dst (.one (.ptr n 0 0 0)))) Q:=by
 obtain⟨hn,rfl⟩:=mE hx
 obtain⟨hv,iN⟩:=r.ev hm
 obtain⟨G',r',dS⟩:=r.abh (e:=e) hn (hv.cells eB) (fun c hc q hq=>iN q (aj.xY eB hc hq))
 have bX:(execOp a.eval o).run P w=.ok (.value (.pointer (some (ad w.heap.size 0)))) (w.alloc (.cells (a.eval x).cells.toList.toArray e)):=by
  simp[execOp,ho,Instr.box,newVar,newRow,ad]
 exact oe bX ⟨G',r'.put dS (fun q hq=>by have eD:q=n:=hq;subst eD;exact bG _ _ _) (fun q hq=>by rw[hd] at hq;injection hq with hq;omega)⟩
theorem tW {α:Type} {sz:Nat}:∀{px:List (List α)} (_:∀e∈px,e.length=sz) {k j:Nat} {c:α},At px k j c->px.flatten[k*sz+j]? =some c
 |[],_,k,j,c,hk=>by obtain⟨e,he,_⟩:=hk;simp at he
 |e::px,hl,k,j,c,hk=>by
  obtain⟨e',he,hj⟩:=hk
  have h0:=hl e (by simp)
  cases k with
  |zero=>
   simp at he
   subst he
   have mX:=(List.getElem?_eq_some_iff.1 hj).1
   simp only[List.flatten_cons,Nat.zero_mul,Nat.zero_add]
   rw[List.getElem?_append_left mX]
   exact hj
  |succ k=>
   have ih:=tW (px:=px) (fun e he=>hl e (by simp[he])) (k:=k) (j:=j) (c:=c) ⟨e',by simpa using he,hj⟩
   simp only[List.flatten_cons]
   rw[List.getElem?_append_right (by rw[h0,Nat.add_mul];omega)]
   rw[show(k+1)*sz+j - e.length=k*sz+j by rw[h0,Nat.add_mul];omega]
   exact ih
structure Di (B:Nat) (E:Ex) (w:World) (G:Gh) (h:Nat->Option ao) (m:Mode) (pes:List (List PC)):Prop where
 nG:∀b,aX b pes->G.Im b/\dH w b/\(B<=b\/E b)
 sep:iy pes
 fI:∀n gr m sz xs,h n=some (.row gr m sz xs)->m≠ .aF->∀b,aX b pes->¬aX b (G.g n).px
 kind:m=.ab\/∀b,¬aX b pes
theorem aer {α:Type} {sz:Nat} (bI:0<sz) {pes:List (List α)} (hl:∀e∈pes,e.length=sz) {k j k' j':Nat} {c c':α} (h1:At pes k j c) (h2:At pes k' j' c') (aC:(k,j)≠(k',j')):k*sz+j≠k'*sz+j':=by
 intro ef
 have hj:j<sz:=by obtain⟨e1,he,hj⟩:=h1;rw[<-hl e1 (List.mem_of_getElem? he)];exact(List.getElem?_eq_some_iff.1 hj).1
 have iC:j'<sz:=by obtain⟨e1,he,hj⟩:=h2;rw[<-hl e1 (List.mem_of_getElem? he)];exact(List.getElem?_eq_some_iff.1 hj).1
 have hk:k=k':=by
  have h3:(k*sz+j)/sz=k:=by rw[Nat.mul_comm,Nat.mul_add_div bI,Nat.div_eq_of_lt hj];omega
  have h4:(k'*sz+j')/sz=k':=by rw[Nat.mul_comm,Nat.mul_add_div bI,Nat.div_eq_of_lt iC];omega
  rw[ef] at h3
  omega
 subst hk
 exact aC (by rw[show j=j' by omega])
theorem HR.amy {pes:List (List PC)} {sz:Nat} (bI:0<sz) (hl:∀e∈pes,e.length=sz) (H:HR B E w G h used pes.flatten):Di B E w G h .ab pes:=by
 refine⟨?_,⟨fun k j c hk=>(H.rC _ c (tW hl hk)).1,fun k j c k' j' c' b hk cO aC hb=>H.vr _ _ c c' b (aer bI hl hk cO aC) (tW hl hk) (tW hl cO) hb⟩,?_,.inl rfl⟩
 ·rintro b ⟨k,j,c,hk,hb⟩
  exact(H.rC _ c (tW hl hk)).2 b hb
 ·rintro n gr m sz xs hn hm b ⟨k,j,c,hk,hb⟩
  exact H.rD _ c n gr m sz xs b (tW hl hk) hn hm hb
theorem Sep.Fg {w:World} {q:PC} (hq:∀b,¬aT b q) (hg:Good w q):Sep q:=by
 induction hg with
 |int k n=>exact .int k n
 |bool b=>exact .bool b
 |nil sz a cap h=>exact .list _ _ _ _ (by rintro k j c ⟨e,he,_⟩;simp at he) (by rintro b o k j c _ ⟨e,he,_⟩;simp at he) (by rintro k j c k' j' c' b ⟨e,he,_⟩;simp at he)
 |cons sz b o cap xs h1 h2 h3 h4 h5 h6 ih=>exact absurd (.here _ _ _ _ h1) (hq b)
theorem Di.Fg {m:Mode} {pes:List (List PC)} (cf:∀b,¬aX b pes) (hg:∀k j c,At pes k j c->Good w c):Di B E w G h m pes:=
 ⟨fun b hb=>absurd hb (cf b),⟨fun k j c hk=>Sep.Fg (fun b hb=>cf b ⟨k,j,c,hk,hb⟩) (hg k j c hk),fun k j c k' j' c' b hk _ _ hb=>absurd ⟨k,j,c,hk,hb⟩ (cf b)⟩,fun n gr m sz xs _ _ b hb=>absurd hb (cf b),.inr cf⟩
theorem R.newRow (r:R B E w0 N σ a w G) {Im':Nat->Prop} {σ1:St} (H:HR B E w ⟨Im',G.g⟩ σ1.h σ.used []) (K:bf w G σ.h (fun n=>σ.used n=true) w ⟨Im',G.g⟩ σ1.h)
  (yC:σ1.env=σ.env) (mz:σ1.used=σ.used)
  {n:Nat} {m:Mode} {sz cap:Nat} {pes:List (List PC)} {arr:Array Value} {e:TypeId} (hn:σ.used n=false) (bI:0<sz) (hl:∀e∈pes,e.length=sz)
  (hJ:∀k j c,At pes k j c->Good w c/\∀b,aT b c->Im' b) (ur:∀k j c,At pes k j c->arr[k*sz+j]? =some c.val) (jE:pes.length<=cap) (yJ:cap<=maxLen) (uL:arr.size=cap*sz)
  (hm:m=.aF\/Di B E w ⟨Im',G.g⟩ σ1.h m pes):
  ∃G',R B E w0 N {σ1 with h:=av σ1.h n (some (.row true m sz (pes.map fun e=>e.map PC.er))),used:=av σ1.used n true} a (w.alloc (.cells arr e)) G'/\
   RA (w.alloc (.cells arr e)) G' (av σ1.h n (some (.row true m sz (pes.map fun e=>e.map PC.er)))) (.one (.sl n sz 0 pes.length)) (.slice (some (ad w.heap.size 0)) pes.length cap):=by
 have hB:=r.fr.size
 have hw:=MC w (.cells arr e)
 have ad8:HR B E (w.alloc (.cells arr e)) ⟨Im',av G.g n ⟨false,w.heap.size,0,cap,pes,none⟩⟩ (av σ1.h n (some (.row true m sz (pes.map fun e=>e.map PC.er)))) (av σ.used n true) []:=by
  refine H.insert (p:=⟨false,w.heap.size,0,cap,pes,none⟩) hn hw (by simp) (fun _=>⟨H.QF,.inl hB,by simp⟩) (fun cs c m hb=>by cases hb) ?_ ?_ ?_ (fun gr m sz xs _ _ i pc b hi=>by simp at hi)
  ·refine⟨bI,rfl,(fun hl=>by cases hl),fun _=>⟨dH.alloc _ _ _,⟨hl,fun k j c hk=>?_,fun k j c hk=>?_⟩,jE⟩,fun _ _=>⟨yJ,arr,e,heap_alloc_new w _,(Nat.zero_add _).symm▸uL⟩,?_⟩
   ·simp only[Nat.zero_add]
    unfold ad
    rw[World.cell?_alloc_new]
    exact ur k j c hk
   ·exact(hJ k j c hk).1.congr fun b hb o=>iJ (hw b (H.fW b ((hJ k j c hk).2 b hb))) o
   ·have nM:m≠ .aF->(∀b,aX b pes->Im' b/\dH (w.alloc (.cells arr e)) b/\(B<=b\/E b))/\iy pes:=fun ik=>
     ⟨fun b hb=>by
      have hO:=hm.resolve_left ik
      obtain⟨q1,q2,q3⟩:=hO.nG b hb
      exact⟨q1,q2.congr (hw b (H.fW b q1)),q3⟩,(hm.resolve_left ik).sep⟩
    cases m with
    |aF=>
     rintro b ⟨k,j,c,hk,hb⟩
     exact(hJ k j c hk).2 b hb
    |ab=>exact nM (by simp)
    |live=>
     have hO:=hm.resolve_left (by simp)
     have cf:=hO.kind.resolve_left (by simp)
     exact⟨fun b hb=>absurd hb (cf b),hO.sep⟩
  ·intro gr m' aJ aq hb ik n' bm np ko iw h0 jg b cH
   injection hb with _ hb _ _
   subst hb
   exact(hm.resolve_left ik).fI n' bm np ko iw h0 jg b cH
  ·intro gr aJ aq hb b cH
   injection hb with _ hb _ _
   subst hb
   exact absurd cH ((hm.resolve_left (by simp)).kind.resolve_left (by simp) b)
 have K2:=bf.trans (u2:=fun n=>σ.used n=true) (fun _ h=>h) K (bf.insert H (blk:=.row true m sz (pes.map fun e=>e.map PC.er)) (p:=⟨false,w.heap.size,0,cap,pes,none⟩) hn hw)
 refine⟨⟨Im',av G.g n ⟨false,w.heap.size,0,cap,pes,none⟩⟩,r.step yC (fun m hm=>by rw[mz];exact rE n m hm) K2 (by rw[mz];exact ad8) (r.fr.grow hw (by simp) rfl rfl rfl),?_⟩
 refine RA.gu rfl fun _=>.inr ⟨by simp[bG],some (ad w.heap.size 0),?_,?_,?_⟩
 ·simp[bG]
 ·simp[bG];omega
 ·simp[bG]
end
end Go.Am
end
