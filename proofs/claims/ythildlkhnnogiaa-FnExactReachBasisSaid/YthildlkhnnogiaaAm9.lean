/- Am6, Am7, Am8, Am9: parts of the proof. No condition. -/
import Derived.Test.YthildlkhnnogiaaAm5
set_option linter.unusedVariables false
section
namespace Go.Am
section
variable {B:Nat} {E:Ex} {w0 w w':World} {G G':Gh} {h h':Nat->Option aj} {used used':Nat->Bool} {tk:List PC}
theorem aR.qR (S:Nat->Prop) (u:Nat->Prop):aR w G h u w ⟨fun b=>G.Im b\/S b,G.g⟩ h:=
 ⟨fun _ h=>.inl h,fun _ _ _=>rfl,fun _ _ h=>⟨h,rfl,rfl,rfl,rfl,rfl⟩,fun n gr sz xs _ hn=>⟨⟨gr,xs,hn⟩,fun k j pc h1 h2=>⟨pc,h1,rfl,h2⟩⟩⟩
theorem HR.qR (H:HR B E w G h used tk) (S:Nat->Prop) (h1:∀b,S b->b<w.heap.size) (h2:∀b,S b->∀n,h n≠none->(G.g n).nl=false->b≠(G.g n).b)
  (h3:∀b,S b->∀n gr sz xs,h n=some (.row gr .live sz xs)->¬aP b (G.g n).px) (h4:∀b,S b->B<=b\/E b\/E.a b):HR B E w ⟨fun b=>G.Im b\/S b,G.g⟩ h used tk:=by
 refine⟨H.gT,H.gd,fun n cs hn=>?_,fun n gr m sz xs hn=>?_,fun n hn hl=>?_,H.inj,?_,fun b hb=>hb.elim (H.ov b) (h4 b),H.eV,H.live,fun i pc hi=>?_,H.wq,H.rv⟩
 ·obtain⟨a1,a2,a3⟩:=H.box n cs hn
  refine⟨a1,a2,fun j c hj=>?_⟩
  obtain⟨v,b1,b2,b3⟩:=a3 j c hj
  exact⟨v,b1,b2,b3.eJ (aR.qR S (fun n=>used n=true)) fun q hq=>H.gd n cs c q hn (List.mem_of_getElem? hj) hq⟩
 ·have hr:=H.row n gr m sz xs hn
  refine⟨hr.pos,hr.er,hr.nl,hr.cZ,hr.room,?_,hr.nr⟩
  have hm:=hr.mode
  cases m with
  |aG=>exact fun b hb=>.inl (hm b hb)
  |af=>exact⟨fun b hb=>⟨.inl (hm.1 b hb).1,(hm.1 b hb).2⟩,hm.2⟩
  |live=>exact⟨fun b hb=>⟨fun hi=>hi.elim (hm.1 b hb).1 (fun hs=>h3 b hs n gr sz xs hn hb),(hm.1 b hb).2⟩,hm.2⟩
 ·obtain⟨a1,a2,a3⟩:=H.own n hn hl
  exact⟨fun hi=>hi.elim a1 (fun hs=>h2 _ hs n hn hl rfl),a2,a3⟩
 ·exact fun b hb=>hb.elim (H.e7 b) (h1 b)
 ·obtain⟨a1,a2⟩:=H.ru i pc hi
  exact⟨a1,fun b hb=>⟨.inl (a2 b hb).1,(a2 b hb).2⟩⟩
theorem HR.wm {l:List PC} (H:HR B E w G h used (tk++l)):HR B E w G h used tk:=by
 have e:∀(i:Nat) (pc:PC),tk[i]? =some pc->(tk++l)[i]? =some pc:=fun i pc hi=>by
  rw[List.getElem?_append_left (List.getElem?_eq_some_iff.1 hi).1];exact hi
 exact⟨H.gT,H.gd,H.box,H.row,H.own,H.inj,H.e7,H.ov,H.eV,H.live,fun i pc hi=>H.ru i pc (e i pc hi),fun i j pc cm b gL h1 h2=>H.wq i j pc cm b gL (e i pc h1) (e j cm h2),
  fun i pc n gr m sz xs b hi=>H.rv i pc n gr m sz xs b (e i pc hi)⟩
theorem HR.UB (H:HR B E w G h used tk) {pc:PC} (h1:Sep pc) (h2:∀b,aK b pc->G.Im b/\cP w b/\(B<=b\/E b))
  (h3:∀(i:Nat) (q:PC) (b:Nat),tk[i]? =some q->aK b q->¬aK b pc)
  (h4:∀n gr m sz xs b,h n=some (.row gr m sz xs)->m≠ .aG->aK b pc->¬aP b (G.g n).px):HR B E w G h used (tk++[pc]):=by
 have e:∀(i:Nat) (q:PC),(tk++[pc])[i]? =some q->(i<tk.length/\tk[i]? =some q)\/(i=tk.length/\q=pc):=fun i q hi=>by
  rcases Nat.lt_trichotomy i tk.length with bS|dP|zt
  ·rw[List.getElem?_append_left bS] at hi;exact .inl ⟨bS,hi⟩
  ·subst dP;simp at hi;exact .inr ⟨rfl,hi.symm⟩
  ·rw[List.getElem?_eq_none (by simp;omega)] at hi;cases hi
 refine⟨H.gT,H.gd,H.box,H.row,H.own,H.inj,H.e7,H.ov,H.eV,H.live,fun i q hi=>?_,fun i j q q' b gL hi hj hb=>?_,fun i q n gr m sz xs b hi hn hm hb=>?_⟩
 ·rcases e i q hi with⟨_,hi⟩|⟨_,rfl⟩
  ·exact H.ru i q hi
  ·exact⟨h1,h2⟩
 ·rcases e i q hi with⟨_,hi'⟩|⟨ei,eq⟩
  ·rcases e j q' hj with⟨_,iD⟩|⟨_,Wj⟩
   ·exact H.wq i j q q' b gL hi' iD hb
   ·rw[Wj];exact h3 i q b hi' hb
  ·rcases e j q' hj with⟨_,iD⟩|⟨ej,Wj⟩
   ·rw[eq] at hb;exact fun aE=>h3 j q' b iD aE hb
   ·omega
 ·rcases e i q hi with⟨_,hi⟩|⟨_,rfl⟩
  ·exact H.rv i q n gr m sz xs b hi hn hm hb
  ·exact h4 n gr m sz xs b hn hm hb
theorem Sep.fT {pc:PC} (hs:pc.er.dL=true):Sep pc/\∀b,¬aK b pc:=by
 cases pc with
 |int k n=>exact⟨.int k n,fun b hb=>by cases hb⟩
 |bool b=>exact⟨.bool b,fun b hb=>by cases hb⟩
 |list sz a cap xs=>simp[PC.cN,C.dL] at hs
theorem nR.fT {pc:PC} (h:pc.er.dL=true):nR w pc:=by
 cases pc with
 |int k n=>trivial
 |bool b=>trivial
 |list sz a cap xs=>rw[PC.cN] at h;cases h
theorem kY {n m:Nat} {b:aj} (hm:ao h n none m=some b):h m=some b/\m≠n:=by
 by_cases bj:m=n
 ·subst bj;rw[bo] at hm;cases hm
 ·rw[bP _ _ _ _ bj] at hm;exact⟨hm,bj⟩
theorem tc {n m:Nat} (hm:ao h n none m≠none):h m≠none/\m≠n:=by
 cases hh:ao h n none m with
 |none=>exact absurd hh hm
 |some b=>obtain⟨a,b⟩:=kY hh;exact⟨by rw[a];simp,b⟩
def KY (p:PB):Nat->Prop:=fun b=>(p.nl=false/\b=p.b)\/aP b p.px
theorem HR.freeze (H:HR B E w G h used tk) {n:Nat} {gr:Bool} {m:Mode} {rs:Nat} {xs:List (List C)} (hn:h n=some (.row gr m rs xs)):
  HR B E w ⟨fun b=>G.Im b\/KY (G.g n) b,G.g⟩ (ao h n none) used tk:=by
 have hr:=H.row n gr m rs xs hn
 have bi:h n≠none:=by rw[hn];simp
 have eY:∀b,aP b (G.g n).px->G.Im b\/m=.live:=fun b hb=>by
  have hm:=hr.mode
  cases m with
  |aG=>exact .inl (hm b hb)
  |af=>exact .inl (hm.1 b hb).1
  |live=>exact .inr rfl
 refine(H.del n).qR (KY (G.g n)) (fun b hb=>?_) (fun b hb q hq hl=>?_) (fun b hb q aW ax ak hq bL=>?_) (fun b hb=>?_)
 ·rcases hb with⟨h1,rfl⟩|hb
  ·exact(H.own n bi h1).2.2
  ·exact H.mO hn hb
 ·obtain⟨jM,fB⟩:=tc hq
  rcases hb with⟨h1,rfl⟩|hb
  ·exact H.inj n q bi jM (Ne.symm fB) h1 hl
  ·rcases eY b hb with hi|rfl
   ·rintro rfl;exact(H.own q jM hl).1 hi
   ·exact H.live n gr rs xs hn b hb q jM hl
 ·obtain⟨jM,fB⟩:=kY hq
  rcases hb with⟨h1,rfl⟩|hb
  ·exact H.live q aW ax ak jM _ bL n bi h1 rfl
  ·rcases eY b hb with hi|rfl
   ·exact((H.row q aW .live ax ak jM).mode.1 b bL).1 hi
   ·exact H.eV n q gr .live rs xs aW .live ax ak hn jM (by simp) (by simp) (Ne.symm fB) b hb bL
 ·rcases hb with⟨h1,rfl⟩|hb
  ·exact(H.own n bi h1).2.1.imp id .inl
  ·rcases eY b hb with hi|rfl
   ·exact H.ov b hi
   ·exact(hr.mode.1 b hb).2.2.imp id .inl
theorem gF.sub {px:List (List PC)} (hs:gF px) (lo len:Nat):gF ((px.drop lo).take len):=by
 refine⟨fun k j c hk=>hs.1 _ _ _ (oW hk).1,fun k j c k' j' c' b hk bx av hb=>hs.2 _ _ _ _ _ _ b (oW hk).1 (oW bx).1 (fun e=>av ?_) hb⟩
 injection e with e1 e2
 rw[show k=k' by omega,e2]
theorem HR.eM {σ σ1:St} (H:HR B E w G σ.h σ.used tk) {c:ab} {x:C} {o:Bool} {v:Value} (hx:σ.eM c=some (x,o,σ1)) (hc:RC w G σ.h c v):
  ∃(Im':Nat->Prop) (pc:PC),pc.er=x/\pc.val=v/\Good w pc/\(∀b,aK b pc->Im' b)/\
   HR B E w ⟨Im',G.g⟩ σ1.h σ.used (if o=true then tk++[pc] else tk)/\aR w G σ.h (fun n=>σ.used n=true) w ⟨Im',G.g⟩ σ1.h/\σ1.env=σ.env/\σ1.used=σ.used/\
   (∀n b,σ1.h n=some b->σ.h n=some b):=by
 cases c with
 |c y=>
  simp only[St.eM] at hx
  injection hx with hx
  injection hx with jr dh
  injection dh with dh pz
  subst jr dh pz
  obtain⟨pc,h1,h2,h3,h4⟩:=hc
  refine⟨G.Im,pc,h1,h2,h3,h4,?_,aR.refl _ _ _ _,rfl,rfl,fun _ _ h=>h⟩
  by_cases hs:y.dL=true
  ·rw[if_pos hs]
   obtain⟨s1,s2⟩:=Sep.fT (pc:=pc) (by rw[h1];exact hs)
   exact H.UB s1 (fun b hb=>absurd hb (s2 b)) (fun _ _ b _ _=>s2 b) (fun _ _ _ _ _ b _ _ hb=>absurd hb (s2 b))
  ·rw[if_neg hs];exact H
 |nil sz=>
  simp only[St.eM] at hx
  split at hx
  ·rename_i dQ
   injection hx with hx
   injection hx with jr dh
   injection dh with dh pz
   subst jr dh pz
   have bZ:v=.slice none 0 0:=hc
   subst bZ
   have bG:∀b,¬aK b (.list sz none 0 []):=fun b hb=>by
    rw[aK.jw] at hb
    rcases hb with⟨hb,_⟩|⟨k,j,c,⟨e,he,_⟩,_⟩
    ·exact absurd rfl hb
    ·simp at he
   refine⟨G.Im,.list sz none 0 [],by simp[PC.cN],rfl,.nil _ _ _ dQ,fun b hb=>absurd hb (bG b),?_,aR.refl _ _ _ _,rfl,rfl,fun _ _ h=>h⟩
   rw[if_pos rfl]
   refine H.UB (.list _ _ _ _ ?_ ?_ ?_) (fun b hb=>absurd hb (bG b)) (fun _ _ b _ _=>bG b) (fun _ _ _ _ _ b _ _ hb=>absurd hb (bG b))
   ·rintro k j c ⟨e,he,_⟩;simp at he
   ·rintro b o k j c _ ⟨e,he,_⟩;simp at he
   ·rintro k j c k' j' c' b ⟨e,he,_⟩;simp at he
  ·cases hx
 |sl n sz lo len=>
  simp only[St.eM] at hx
  split at hx
  ·rename_i gr m rs xs hn
   split at hx
   ·rename_i bR
    obtain⟨rfl,rfl,fa⟩:=bR
    injection hx with hx
    injection hx with jr dh
    injection dh with dh pz
    subst jr dh pz
    have hl:0+len<=xs.length:=by omega
    have bi:σ.h n≠none:=by rw[hn];simp
    have hs:eU (G.g n) rs 0 len v:=hc bi
    have hr:=H.row n gr m rs xs hn
    obtain⟨a1,a2,a3,a4⟩:=C0 hr hs hl
    have HF:=H.freeze hn
    have K1:aR w G σ.h (fun n=>σ.used n=true) w ⟨fun b=>G.Im b\/KY (G.g n) b,G.g⟩ (ao σ.h n none):=
     aR.trans (fun _ h=>h) (aR.del n (fun n=>σ.used n=true)) (aR.qR (KY (G.g n)) (fun n=>σ.used n=true))
    refine⟨_,ix (G.g n) rs 0 len v,by simpa using a1,a2,a3,fun b hb=>.inr (a4 b hb),?_,K1,rfl,rfl,fun q b hq=>(kY hq).1⟩
    by_cases hm:m≠ .aG
    ·rw[if_pos (by simpa using hm)]
     have pw:(∀b,aP b (G.g n).px->cP w b/\(B<=b\/E b))/\gF (G.g n).px/\(∀b,aP b (G.g n).px->(G.g n).nl=false->b≠(G.g n).b):=by
      have cv:=hr.mode
      cases m with
      |aG=>exact absurd rfl hm
      |af=>exact⟨fun b hb=>(cv.1 b hb).2,cv.2,fun b hb hl dP=>(H.own n bi hl).1 (dP▸(cv.1 b hb).1)⟩
      |live=>exact⟨fun b hb=>(cv.1 b hb).2,cv.2,fun b hb hl=>H.live n gr rs xs hn b hb n bi hl⟩
     obtain⟨o1,o2,o3⟩:=pw
     refine HF.UB ?_ (fun b hb=>⟨.inr (a4 b hb),?_⟩) (fun i q b hi hb aE=>?_) (fun q aW m' ax ak b hq bm hb bL=>?_)
     ·
      rcases hs with⟨aD,rfl,_,rfl⟩|⟨aD,a,rfl,gh,ha⟩
      ·simp only[ix]
       have hz:(List.take 0 (List.drop 0 (G.g n).px))=[]:=by simp
       rw[hz]
       refine .list _ _ _ _ ?_ ?_ ?_
       ·rintro k j c ⟨e,he,_⟩;simp at he
       ·rintro b o k j c _ ⟨e,he,_⟩;simp at he
       ·rintro k j c k' j' c' b ⟨e,he,_⟩;simp at he
      ·simp only[ix]
       have EK:=o2.sub 0 len
       refine .list _ _ _ _ EK.1 (fun b o k j c fm hk hb=>?_) EK.2
       have bx:=(oW hk).1
       have Ov:0<len:=by have:=(oW hk).2;omega
       have e:=ha (.inl (by omega))
       rw[e] at fm
       injection fm with fm
       exact o3 b ⟨_,_,_,bx,hb⟩ aD (jF fm).1.symm
     ·rcases a4 b hb with⟨dg,rfl⟩|aE
      ·exact⟨(hr.cZ dg).1,(H.own n bi dg).2.1⟩
      ·exact o1 b aE
     ·rcases a4 b aE with⟨dg,rfl⟩|bL
      ·exact(H.own n bi dg).1 ((H.ru i q hi).2 _ hb).1
      ·exact H.rv i q n gr m rs xs b hi hn hm hb bL
     ·obtain⟨jM,fB⟩:=kY hq
      rcases a4 b hb with⟨dg,rfl⟩|aE
      ·have cv:=(H.row q aW m' ax ak jM).mode
       cases m' with
       |aG=>exact absurd rfl bm
       |af=>exact(H.own n bi dg).1 (cv.1 _ bL).1
       |live=>exact H.live q aW ax ak jM _ bL n bi dg rfl
      ·exact H.eV n q gr m rs xs aW m' ax ak hn jM hm bm (Ne.symm fB) b aE bL
    ·rw[if_neg (by simpa using hm)]
     exact HF
   ·cases hx
  ·cases hx
 |ptr _ _ _ _=>simp[St.eM] at hx
 |cd _ _=>simp[St.eM] at hx
 |bK _ _ _ _ _ _=>simp[St.eM] at hx
 |bf _ _ _ _ _ _=>simp[St.eM] at hx
 |fn _ _=>simp[St.eM] at hx
 |bX _ _ _ _ _ _=>simp[St.eM] at hx
 |aX=>simp[St.eM] at hx
end
end Go.Am
end
section
namespace Go.Am
section
variable {B:Nat} {E:Ex} {w0 w w':World} {G G':Gh} {h h':Nat->Option aj} {used used':Nat->Bool} {tk:List PC}
theorem HR.fi:∀{cs:List ab} {σ σ1:St} {G:Gh} {tk:List PC} {xs:List C} {o:Bool} {vs:List Value},HR B E w G σ.h σ.used tk->σ.fi cs=some (xs,o,σ1)->cb w G σ.h cs vs->
  (∀c∈cs,∀m,c.ref m->σ.used m=true)->
  ∃(Im':Nat->Prop) (bg:List PC),bg.map PC.er=xs/\bg.map PC.val=vs/\(∀pc∈bg,Good w pc/\∀b,aK b pc->Im' b)/\
   HR B E w ⟨Im',G.g⟩ σ1.h σ.used (if o=true then tk++bg else tk)/\aR w G σ.h (fun n=>σ.used n=true) w ⟨Im',G.g⟩ σ1.h/\σ1.env=σ.env/\σ1.used=σ.used/\
   (∀n b,σ1.h n=some b->σ.h n=some b)
 |[],σ,σ1,G,tk,xs,o,vs,H,hx,hc,hr=>by
  simp only[St.fi] at hx
  injection hx with hx
  injection hx with jr dh
  injection dh with dh pz
  subst jr dh pz
  have:vs=[]:=List.eq_nil_of_length_eq_zero (by simpa using hc.1)
  subst this
  exact⟨G.Im,[],rfl,rfl,by simp,by simpa using H,aR.refl _ _ _ _,rfl,rfl,fun _ _ h=>h⟩
 |c::cs,σ,σ2,G,tk,xs,o,vs,H,hx,hc,hr=>by
  simp only[St.fi] at hx
  split at hx
  ·rename_i x o1 σ1 e1
   split at hx
   ·rename_i ak o2 UT e2
    injection hx with hx
    injection hx with jr dh
    injection dh with dh pz
    subst jr dh pz
    obtain⟨hlen,bO⟩:=hc
    match vs,hlen with
    |v::vs,hlen=>
     obtain⟨yH,pc,a1,a2,a3,a4,a5,a6,a7,a8,a9⟩:=H.eM e1 (bO 0 c v rfl rfl).2
     have lr:cb w ⟨yH,G.g⟩ σ1.h cs vs:=cb.eJ a6 (fun c' bZ m hm=>hr c' (by simp[bZ]) m hm) ⟨by simpa using hlen,fun j c u h1 h2=>bO (j+1) c u h1 h2⟩
     rw[<-a8] at a5
     obtain⟨Du,bg,b1,b2,b3,b4,b5,b6,b7,b8⟩:=HR.fi a5 e2 lr (fun c' bZ m hm=>by rw[a8];exact hr c' (by simp[bZ]) m hm)
     refine⟨Du,pc::bg,by simp[a1,b1],by simp[a2,b2],fun q hq=>?_,?_,aR.trans (fun n hn=>by rw[a8];exact hn) a6 b5,b6.trans a7,b7.trans a8,fun n b hb=>a9 n b (b8 n b hb)⟩
     ·cases hq with
      |head=>exact⟨a3,fun b hb=>b5.im b (a4 b hb)⟩
      |tail _ hq=>exact b3 q hq
     ·rw[a8] at b4
      cases o1<;>cases o2<;>simp at b4⊢
      ·exact b4
      ·exact b4.wm
      ·exact b4.wm
      ·exact b4
   ·cases hx
  ·cases hx
theorem RA.cells {x:ah} {ag:Bool} {cs:List ab} {v:Value} (hx:x.cells?=some (ag,cs)) (hc:RA w G h x v):cb w G h cs v.cells.toList:=by
 cases x with
 |one c=>
  have hj:c≠ .aX/\ag=false/\cs=[c]:=by
   cases c<;>simp[ah.cells?] at hx<;>(obtain⟨rfl,rfl⟩:=hx;simp)
  obtain⟨h1,rfl,rfl⟩:=hj
  rcases hc with rfl|hc
  ·exact absurd rfl h1
  ·have bZ:cb w G h [c] [v]:=hc
   have h1:=(bZ.2 0 c v rfl rfl).1
   cases v<;>first|exact bZ|(simp[Value.oneCell'] at h1)
 |agg cs'=>
  simp[ah.cells?] at hx
  obtain⟨rfl,rfl⟩:=hx
  obtain⟨vs,e,hl⟩:∃vs:List Value,v=.agg vs.toArray/\cb w G h cs' vs:=hc
  subst e
  exact hl
 |bk xs=>simp[ah.cells?] at hx
theorem ah.wO {x:ah} {ag:Bool} {cs:List ab} (hx:x.cells?=some (ag,cs)) {c:ab} (hc:c∈cs) {m:Nat} (hm:c.ref m):x.ref m:=by
 cases x with
 |one c'=>
  have hj:cs=[c']:=by
   cases c'<;>simp[ah.cells?] at hx<;>exact hx.2.symm
  subst hj
  simp at hc
  subst hc
  exact hm
 |agg cs'=>
  simp[ah.cells?] at hx
  obtain⟨_,rfl⟩:=hx
  exact⟨c,hc,hm⟩
 |bk xs=>simp[ah.cells?] at hx
theorem HR.kL {sz:Nat}:∀{xs:List ah} {σ σ1:St} {G:Gh} {tk:List PC} {es:List (List C)} {o:Bool} {vs:List Value},HR B E w G σ.h σ.used tk->σ.kL sz xs=some (es,o,σ1)->
  vs.length=xs.length->(∀(j:Nat) (x:ah) (v:Value),xs[j]? =some x->vs[j]? =some v->RA w G σ.h x v)->(∀x∈xs,∀m,x.ref m->σ.used m=true)->
  ∃(Im':Nat->Prop) (pes:List (List PC)),pes.map (fun e=>e.map PC.er)=es/\pes.map (fun e=>e.map PC.val)=vs.map (fun v=>v.cells.toList)/\(∀e∈pes,e.length=sz)/\
   (∀e∈pes,∀pc∈e,Good w pc/\∀b,aK b pc->Im' b)/\
   HR B E w ⟨Im',G.g⟩ σ1.h σ.used (if o=true then tk++pes.flatten else tk)/\aR w G σ.h (fun n=>σ.used n=true) w ⟨Im',G.g⟩ σ1.h/\σ1.env=σ.env/\σ1.used=σ.used/\
   (∀n b,σ1.h n=some b->σ.h n=some b)
 |[],σ,σ1,G,tk,es,o,vs,H,hx,hl,hc,hr=>by
  simp only[St.kL] at hx
  injection hx with hx
  injection hx with jr dh
  injection dh with dh pz
  subst jr dh pz
  have:vs=[]:=List.eq_nil_of_length_eq_zero (by simpa using hl)
  subst this
  exact⟨G.Im,[],rfl,rfl,by simp,by simp,by simpa using H,aR.refl _ _ _ _,rfl,rfl,fun _ _ h=>h⟩
 |x::xs,σ,σ2,G,tk,es,o,vs,H,hx,hl,hc,hr=>by
  simp only[St.kL] at hx
  split at hx
  ·rename_i ag cs jX
   split at hx
   ·rename_i bn
    split at hx
    ·rename_i e o1 σ1 e1
     split at hx
     ·rename_i es' o2 UT e2
      injection hx with hx
      injection hx with jr dh
      injection dh with dh pz
      subst jr dh pz
      match vs,hl with
      |v::vs,hl=>
       have bA:=(hc 0 x v rfl rfl).cells jX
       obtain⟨yH,bg,a1,a2,a3,a5,a6,a7,a8,a9⟩:=H.fi e1 bA (fun c' bZ m hm=>hr x (by simp) m (ah.wO jX bZ hm))
       rw[<-a8] at a5
       obtain⟨Du,pes,b1,b2,b3,b3',b4,b5,b6,b7,b8⟩:=HR.kL (xs:=xs) (vs:=vs) a5 e2 (by simpa using hl)
        (fun j x v h1 h2=>(hc (j+1) x v h1 h2).eJ a6 (fun m hm=>hr x (by simp[List.mem_of_getElem? h1]) m hm)) (fun x' eZ m hm=>by rw[a8];exact hr x' (by simp[eZ]) m hm)
       refine⟨Du,bg::pes,by simp[a1,b1],by simp[a2,b2],fun q hq=>?_,fun q hq pc aT=>?_,?_,aR.trans (fun n hn=>by rw[a8];exact hn) a6 b5,b6.trans a7,b7.trans a8,fun n b hb=>a9 n b (b8 n b hb)⟩
       ·cases hq with
        |head=>
         have:(bg.map PC.er).length=(v.cells.toList).length:=by rw[<-a2];simp
         have h2:=bA.1
         simp at this
         simp at h2
         omega
        |tail _ hq=>exact b3 q hq
       ·cases hq with
        |head=>exact⟨(a3 pc aT).1,fun b hb=>b5.im b ((a3 pc aT).2 b hb)⟩
        |tail _ hq=>exact b3' q hq pc aT
       ·rw[a8] at b4
        cases o1<;>cases o2<;>simp at b4⊢
        ·exact b4
        ·exact b4.wm
        ·exact b4.wm
        ·exact b4
     ·cases hx
    ·cases hx
   ·cases hx
  ·cases hx
def iy (b:Nat) (pc:PC):Prop:=aK b pc\/∃sz o cap xs,pc=.list sz (some (ad b o)) cap xs/\cap≠0
def A3 (w:World):PC->Prop
 |.list sz a cap xs=>0<sz/\xs.length<=cap/\(cap=0\/∃b o cur e,a=some (ad b o)/\w.heap[b]? =some (.cells cur e (0,0))/\cur.size=o+cap*sz/\cap<=maxLen/\∀k j c,At xs k j c->¬aK b c)
 |_=>True
structure yM (w:World) (B':Nat) (ps:List PC):Prop where
 dk:∀pc∈ps,Good w pc/\Sep pc/\A3 w pc
 new:∀pc∈ps,∀b,iy b pc->B'<=b/\cP w b
 m8:∀(i j:Nat) (pc cm:PC) (b:Nat),i≠j->ps[i]? =some pc->ps[j]? =some cm->iy b pc->¬iy b cm
def rk:K×List PC->Value
 |(.one,[pc])=>pc.val
 |(_,bg)=>.agg (bg.map PC.val).toArray
def v5:List (K×List PC)->Value
 |[p]=>rk p
 |l=>.tuple (l.map rk).toArray
def de (P:Program) (f:FuncId) (M:List Dv->Option (List Dv)):Prop:=
 ∀ds rs,M ds=some rs->∀(w:World) (vals:List Value),Dn w ds vals->Calls P f vals.toArray w fun e w'=>
  ∃aU:List (K×List PC),aU.map (fun p=>(p.1,p.2.map PC.er))=rs/\e=.returned (v5 aU)/\(∀p∈aU,p.1≠ .ptr/\(p.1=.one->p.2.length=1))/\
   yM w' w.heap.size (aU.flatMap (·.2))/\Fr w.heap.size Ex.no w w'
end
end Go.Am
end
section
namespace Go.Am
section
variable {B:Nat} {E:Ex} {w0 w w':World} {G G':Gh} {h h':Nat->Option aj} {used used':Nat->Bool} {tk:List PC} {N:Nat}
def mV (G:Gh) (h:Nat->Option aj) (b:Nat):Prop:=
 ¬G.Im b/\(∀n,h n≠none->(G.g n).nl=false->(G.g n).b≠b)/\∀n gr m sz xs,h n=some (.row gr m sz xs)->¬aP b (G.g n).px
theorem HR.JC (H:HR B E w G h used tk):mV G h w.heap.size:=
 ⟨fun hi=>Nat.lt_irrefl _ (H.e7 _ hi),fun n hn hl he=>by have:=(H.own n hn hl).2.2;omega,fun n gr m sz xs hn hb=>Nat.lt_irrefl _ (H.mO hn hb)⟩
def ab0 (B:Nat) (E:Ex) (w w':World) (G:Gh) (h:Nat->Option aj) (p:PB):aj->Prop
 |.box cs=>p.nl=false/\cP w' p.b/\∀(j:Nat) (c:ab),cs[j]? =some c->∃v,w'.cell? (ad p.b (p.o+j))=some v/\v.oneCell'=true/\RC w G h c v
 |.row gr m sz xs=>sW B E w' G gr m sz xs p
theorem aR.insert (H:HR B E w G h used tk) {n:Nat} {blk:aj} {p:PB} (hn:used n=false) (hw:∀b,b<w.heap.size->w'.heap[b]? =w.heap[b]?):
  aR w G h (fun n=>used n=true) w' ⟨G.Im,ao G.g n p⟩ (ao h n (some blk)):=by
 have ne:∀m,used m=true->m≠n:=fun m hm e=>by subst e;rw[hn] at hm;cases hm
 refine⟨fun _ h=>h,fun b hb o=>fO (hw b (H.e7 b hb)) o,fun m hm h0=>?_,fun m gr sz xs hm h0=>?_⟩
 ·rw[bP _ _ _ _ (ne m hm)] at h0
  simp only[bP _ _ _ _ (ne m hm)]
  exact⟨h0,trivial,trivial,trivial,trivial,trivial⟩
 ·rw[bP _ _ _ _ (ne m hm)] at h0
  simp only[bP _ _ _ _ (ne m hm)]
  exact⟨⟨gr,xs,h0⟩,fun k j pc h1 h2=>⟨pc,h1,rfl,h2⟩⟩
theorem HR.insert (H:HR B E w G h used tk) {n:Nat} {blk:aj} {p:PB} (hn:used n=false) (hw:∀b,b<w.heap.size->w'.heap[b]? =w.heap[b]?) (bn:w.heap.size<=w'.heap.size)
  (hl:p.nl=false->mV G h p.b/\(B<=p.b\/E p.b)/\p.b<w'.heap.size)
  (tC:∀cs c m,blk=.box cs->c∈cs->c.ref m->used m=true)
  (fP:ab0 B E w w' G h p blk)
  (BQ:∀gr m sz xs,blk=.row gr m sz xs->m≠ .aG->∀n' aW m' ax ak,h n'=some (.row aW m' ax ak)->m'≠ .aG->∀b,aP b p.px->¬aP b (G.g n').px)
  (qI:∀gr sz xs,blk=.row gr .live sz xs->∀b,aP b p.px->(p.nl=false->b≠p.b)/\∀n',h n'≠none->(G.g n').nl=false->b≠(G.g n').b)
  (kz:∀gr m sz xs,blk=.row gr m sz xs->m≠ .aG->∀(i:Nat) (pc:PC) (b:Nat),tk[i]? =some pc->aK b pc->¬aP b p.px):
  HR B E w' ⟨G.Im,ao G.g n p⟩ (ao h n (some blk)) (ao used n true) tk:=by
 have K:=aR.insert H (blk:=blk) (p:=p) hn hw
 have BR:h n=none:=by
  cases hh:h n with
  |none=>rfl
  |some b=>have:=H.gT n (by rw[hh];simp);rw[hn] at this;cases this
 have av:∀m,h m≠none->m≠n:=fun m hm e=>by subst e;exact hm BR
 have hu:∀m,used m=true->ao used n true m=true:=fun m hm=>by
  simp only[iU];split
  ·rfl
  ·exact hm
 refine H.put (fun b hb _=>hw b hb) bn (fun b hb hU=>hU.congr (hw b hb)) hu (bo _ _ _) (fun hp=>⟨(hl hp).1.1,(hl hp).2⟩) (fun hp m hm h0 fa=>(hl hp).1.2.1 m h0 fa)
  (fun hp m gr sz xs hm h0 b hb he=>(hl hp).1.2.2 m gr _ sz xs h0 (he▸hb)) (fun cs c m hb hc hr=>hu m (tC cs c m hb hc hr)) K ?_
  (fun gr m sz xs hb hm n' aW m' ax ak _ h0=>BQ gr m sz xs hb hm n' aW m' ax ak h0) (fun gr sz xs hb b bL=>⟨(qI gr sz xs hb b bL).1,fun n' _=>(qI gr sz xs hb b bL).2 n'⟩) kz
  (fun hp _ b hb he=>by obtain⟨m,gr,mo,sz,xs,_,h0,bL⟩:=hb;exact(hl hp).1.2.2 m gr mo sz xs h0 (he▸bL))
 cases blk with
 |box cs=>
  obtain⟨a1,a2,a3⟩:=fP
  refine⟨a1,a2,fun j c hj=>?_⟩
  obtain⟨v,b1,b2,b3⟩:=a3 j c hj
  exact⟨v,b1,b2,b3.eJ K fun m hm=>tC cs c m rfl (List.mem_of_getElem? hj) hm⟩
 |row gr m sz xs=>
  have hr:sW B E w' G gr m sz xs p:=fP
  exact⟨hr.pos,hr.er,hr.nl,hr.cZ,hr.room,by
   have:=hr.mode
   cases m<;>exact this,hr.nr⟩
theorem R.put {σ:St} {a:Act} (r:R B E w0 N σ a w G) {x:ah} {v:Value} (hv:RA w G σ.h x v) (hr:∀m,x.ref m->σ.used m=true) {d:Option Nat} (hd:∀n,d=some n->n<N):
  R B E w0 N (σ.put d x) (a.put d v) w G:=by
 cases d with
 |none=>exact r
 |some n=>
  have hn:=hd n rfl
  refine⟨r.defers,by simp[Act.put,r.size],fun s=>?_,fun s m hm=>?_,r.hr,r.fr,r.nF,r.t8⟩
  ·simp only[St.put,Act.put]
   by_cases hs:s=n
   ·subst hs
    rw[bo]
    have:(a.tmps.setIfInBounds s v).getD s undef=v:=by
     simp[Array.getD_eq_getD_getElem?,r.size,hn]
    rw[this]
    exact hv
   ·rw[bP _ _ _ _ hs]
    have:(a.tmps.setIfInBounds n v).getD s undef=a.tmps.getD s undef:=by
     simp[Array.getD_eq_getD_getElem?,Array.getElem?_setIfInBounds_ne (Ne.symm hs)]
    rw[this]
    exact r.env s
  ·simp only[St.put] at hm⊢
   by_cases hs:s=n
   ·subst hs;rw[bo] at hm;exact hr m hm
   ·rw[bP _ _ _ _ hs] at hm;exact r.nO s m hm
theorem R.step {σ:St} {a:Act} (r:R B E w0 N σ a w G) {σ':St} (he:σ'.env=σ.env) (hu:∀m,σ.used m=true->σ'.used m=true) (K:aR w G σ.h (fun n=>σ.used n=true) w' G' σ'.h)
  (H:HR B E w' G' σ'.h σ'.used []) (F:Fr B E w0 w'):R B E w0 N σ' a w' G':=
 ⟨r.defers,r.size,fun s=>by rw[he];exact(r.env s).eJ K (fun m hm=>r.nO s m hm),fun s m hm=>by rw[he] at hm;exact hu m (r.nO s m hm),H,F,
  fun n p b hp hb=>by
   have xl:=r.t8 n (E.lt n p hp)
   obtain⟨k0,k1,k2,k3,k4,k6⟩:=K.name n xl (by rw[hb];simp)
   cases h0:σ.h n with
   |none=>exact absurd h0 k0
   |some b0=>
    obtain⟨p1,p2,p3,p4,p6,p5⟩:=r.nF n p b0 hp h0
    refine⟨k1.trans p1,k2.trans p2,k3.trans p3,k4.trans p4,k6.trans p6,fun gr sz xs Ej k j pc hk hL=>?_⟩
    subst Ej
    obtain⟨⟨pj,hZ,e0⟩,hl⟩:=K.live n gr sz xs xl hb
    rw[h0] at e0
    injection e0 with e0
    obtain⟨pc1,q1,q2,q3⟩:=p5 pj sz hZ e0 k j pc hk hL
    obtain⟨pc2,q4,q5,q6⟩:=hl k j pc1 q1 q3
    exact⟨pc2,q4,q5.trans q2,q6⟩,
  fun n hn=>hu n (r.t8 n hn)⟩
end
def H8:Value->ab->Bool
 |.int k n,.c (.int k' n')=>decide (k=k')&&decide (n=n')
 |.bool b,.c (.bool b')=>decide (b=b')
 |.slice none 0 0,.nil sz=>true
 |.pointer none,.aX=>true
 |_,_=>false
def ta:List Value->List ab->Bool
 |[],[]=>true
 |v::vs,c::cs=>H8 v c&&ta vs cs
 |_,_=>false
def bd:Operand->MO->Bool
 |.tmp n,.t m=>n==m
 |.const (.agg vs),.k (.agg cs)=>ta vs.toList cs
 |.const v,.k (.one c)=>H8 v c
 |_,_=>false
section
variable {B:Nat} {E:Ex} {w0 w w':World} {G G':Gh} {h h':Nat->Option aj} {used used':Nat->Bool} {tk:List PC} {N:Nat}
theorem VF {v:Value} {c:ab} (hc:H8 v c=true):RC w G h c v/\v.oneCell'=true/\∀m,¬c.ref m:=by
 unfold H8 at hc
 split at hc
 ·simp at hc
  obtain⟨rfl,rfl⟩:=hc
  exact⟨⟨.int _ _,rfl,rfl,.int _ _,fun b hb=>by cases hb⟩,rfl,fun m hm=>hm⟩
 ·simp at hc
  subst hc
  exact⟨⟨.bool _,rfl,rfl,.bool _,fun b hb=>by cases hb⟩,rfl,fun m hm=>hm⟩
 ·exact⟨rfl,rfl,fun m hm=>hm⟩
 ·exact⟨trivial,rfl,fun m hm=>hm⟩
 ·cases hc
theorem Ia:∀{vs:List Value} {cs:List ab},ta vs cs=true->cb w G h cs vs/\∀c∈cs,∀m,¬c.ref m
 |[],[],_=>⟨⟨rfl,by simp⟩,by simp⟩
 |v::vs,c::cs,hc=>by
  simp only[ta,Bool.and_eq_true] at hc
  obtain⟨a1,a2,a3⟩:=VF (w:=w) (G:=G) (h:=h) hc.1
  obtain⟨⟨b1,b2⟩,b3⟩:=Ia hc.2
  refine⟨⟨by simp[b1],fun j c' u hj hu=>?_⟩,fun c' bZ=>?_⟩
  ·cases j with
   |zero=>simp at hj hu;subst hj;subst hu;exact⟨a2,a1⟩
   |succ j=>exact b2 j c' u (by simpa using hj) (by simpa using hu)
  ·cases bZ with
   |head=>exact a3
   |tail _ bZ=>exact b3 c' bZ
 |[],_::_,hc=>by simp[ta] at hc
 |_::_,[],hc=>by simp[ta] at hc
theorem RV.dS {c:ab} {v:Value} (h1:v.oneCell'=true) (h2:RC w G h c v):RV w G h false [c] v:=by
 show cb w G h [c] [v]
 exact⟨rfl,fun j c' u hj hu=>by
  cases j with
  |zero=>simp at hj hu;subst hj;subst hu;exact⟨h1,h2⟩
  |succ j=>simp at hj⟩
theorem RA.dS {c:ab} {v:Value} (h1:v.oneCell'=true) (h2:RC w G h c v):RA w G h (.one c) v:=.inr (RV.dS h1 h2)
theorem R.ev {σ:St} {a:Act} (r:R B E w0 N σ a w G) {x:Operand} {m:MO} (hc:bd x m=true):RA w G σ.h (σ.ev m) (a.eval x)/\∀n,(σ.ev m).ref n->σ.used n=true:=by
 unfold bd at hc
 split at hc
 ·simp at hc
  subst hc
  exact⟨r.env _,fun n hn=>r.nO _ n hn⟩
 ·rename_i vs cs
  obtain⟨b1,b2⟩:=Ia (w:=w) (G:=G) (h:=σ.h) hc
  exact⟨⟨vs.toList,by simp[Act.eval],b1⟩,fun n hn=>by obtain⟨c,hc,hm⟩:=hn;exact absurd hm (b2 c hc n)⟩
 ·obtain⟨a1,a2,a3⟩:=VF (w:=w) (G:=G) (h:=σ.h) hc
  exact⟨RA.dS a2 a1,fun n hn=>absurd hn (a3 n)⟩
 ·cases hc
theorem jk {P:Program} {o:Oper} {a:Act} {v:Value} {K:Act->World->Prop} {Q:Exit->Act->World->Prop} (hr:(execOp a.eval o).run P w=.ok (.value v) w') (hK:K (a.put o.dst v) w'):o.wp P a w K Q:=by
 unfold Oper.wp
 rw[hr]
 exact hK
theorem Gu {P:Program} {o:Oper} {a:Act} {K:Act->World->Prop} {Q:Exit->Act->World->Prop} (hr:(execOp a.eval o).run P w=.ok .skip w') (hK:K (a.put o.dst undef) w'):o.wp P a w K Q:=by
 unfold Oper.wp
 rw[hr]
 exact hK
end
end Go.Am
end
section
namespace Go.Am
section
variable {B:Nat} {E:Ex} {w0 w w':World} {G G':Gh} {h h':Nat->Option aj} {used used':Nat->Bool} {tk:List PC} {N:Nat}
variable {P:Program} {o:Oper} {a:Act} {σ σ':St} {Q:Exit->Act->World->Prop}
def Nx (B:Nat) (E:Ex) (w0:World) (N:Nat) (σ:St):Act->World->Prop:=fun a w=>∃G,R B E w0 N σ a w G
theorem HV (w:World) (ob:Obj) (b:Nat) (hb:b<w.heap.size):(w.alloc ob).heap[b]? =w.heap[b]? :=heap_alloc_old w ob b hb
theorem cP.alloc (w:World) (arr:Array Value) (e:TypeId):cP (w.alloc (.cells arr e)) w.heap.size:=⟨arr,e,heap_alloc_new w _⟩
theorem iI {σ1:St} {n:Nat} {b:aj} (hx:σ.ins n b=some σ1):σ.used n=false/\σ1={σ with h:=ao σ.h n (some b),used:=ao σ.used n true}:=by
 unfold St.ins at hx
 split at hx
 ·cases hx
 ·rename_i hu
  injection hx with hx
  exact⟨by simpa using hu,hx.symm⟩
theorem lQ (n m:Nat) (hm:used m=true):ao used n true m=true:=by
 simp only[iU];split
 ·rfl
 ·exact hm
theorem R.Zv (r:R B E w0 N σ a w G) {n:Nat} {cs:List ab} {vs:List Value} {e:TypeId} (hn:σ.used n=false) (hc:cb w G σ.h cs vs) (io:∀c∈cs,∀m,c.ref m->σ.used m=true):
  ∃G',R B E w0 N {σ with h:=ao σ.h n (some (.box cs)),used:=ao σ.used n true} a (w.alloc (.cells vs.toArray e)) G'/\
   RA (w.alloc (.cells vs.toArray e)) G' (ao σ.h n (some (.box cs))) (.one (.ptr n 0 0 0)) (.pointer (some (ad w.heap.size 0))):=by
 have H:=r.hr
 have hB:=r.fr.size
 have hw:=HV w (.cells vs.toArray e)
 refine⟨⟨G.Im,ao G.g n ⟨false,w.heap.size,0,0,[],none⟩⟩,r.step rfl (fun m hm=>lQ n m hm) (aR.insert H hn hw) ?_ (r.fr.grow hw (by simp) rfl rfl rfl),?_⟩
 ·refine H.insert hn hw (by simp) (fun _=>⟨H.JC,.inl hB,by simp⟩) (fun cs' c m hb bZ hm=>?_) ⟨rfl,cP.alloc _ _ _,fun j c hj=>?_⟩ (fun gr m sz xs hb=>by cases hb) (fun gr sz xs hb=>by cases hb) (fun gr m sz xs hb=>by cases hb)
  ·injection hb with hb;subst hb;exact io c bZ m hm
  ·have rU:j<vs.length:=by rw[hc.1];exact(List.getElem?_eq_some_iff.1 hj).1
   have hv:vs[j]? =some vs[j]:=List.getElem?_eq_getElem rU
   obtain⟨q1,q2⟩:=hc.2 j c _ hj hv
   refine⟨vs[j],?_,q1,q2⟩
   simp only[Nat.zero_add]
   unfold ad
   rw[World.cell?_alloc_new]
   simp only[List.getElem?_toArray];exact hv
 ·exact RA.dS rfl fun _=>by simp[bo]
theorem adh (r:R B E w0 N σ a w G) {n:Nat} {e:TypeId} {i:TypeInfo} {z:Value} {zs:List ab} {σ1:St} (ho:o.op=.alloc e) (hd:o.dst=some n) (hN:n<N)
  (hi:P.info? e=some i) (hz:i.zero=some z) (hc:ta z.cells.toList zs=true) (hx:σ.ins n (.box zs)=some σ1):
  o.wp P a w (Nx B E w0 N (σ1.put o.dst (.one (.ptr n 0 0 0)))) Q:=by
 obtain⟨hn,rfl⟩:=iI hx
 obtain⟨bA,io⟩:=Ia (w:=w) (G:=G) (h:=σ.h) hc
 obtain⟨G',r',hv⟩:=r.Zv (e:=e) hn bA (fun c hc m hm=>absurd hm (io c hc m))
 have aS:(execOp a.eval o).run P w=.ok (.value (.pointer (some (ad w.heap.size 0)))) (w.alloc (.cells z.cells.toList.toArray e)):=by
  simp[execOp,ho,Instr.alloc,zeroValue,typeInfo,hi,hz,newVar,newRow,ad]
 exact jk aS ⟨G',r'.put hv (fun m hm=>by have bm:m=n:=hm;subst bm;exact bo _ _ _) (fun m hm=>by rw[hd] at hm;injection hm with hm;omega)⟩
theorem adm (r:R B E w0 N σ a w G) {n:Nat} {e:TypeId} {x:Operand} {m:MO} {ag:Bool} {cs:List ab} {σ1:St} (ho:o.op=.box e x) (hd:o.dst=some n) (hN:n<N)
  (hm:bd x m=true) (dm:(σ.ev m).cells?=some (ag,cs)) (hx:σ.ins n (.box cs)=some σ1):
  o.wp P a w (Nx B E w0 N (σ1.put o.dst (.one (.ptr n 0 0 0)))) Q:=by
 obtain⟨hn,rfl⟩:=iI hx
 obtain⟨hv,io⟩:=r.ev hm
 obtain⟨G',r',eH⟩:=r.Zv (e:=e) hn (hv.cells dm) (fun c hc q hq=>io q (ah.wO dm hc hq))
 have aS:(execOp a.eval o).run P w=.ok (.value (.pointer (some (ad w.heap.size 0)))) (w.alloc (.cells (a.eval x).cells.toList.toArray e)):=by
  simp[execOp,ho,Instr.box,newVar,newRow,ad]
 exact jk aS ⟨G',r'.put eH (fun q hq=>by have db:q=n:=hq;subst db;exact bo _ _ _) (fun q hq=>by rw[hd] at hq;injection hq with hq;omega)⟩
theorem rE {α:Type} {sz:Nat}:∀{px:List (List α)} (_:∀e∈px,e.length=sz) {k j:Nat} {c:α},At px k j c->px.flatten[k*sz+j]? =some c
 |[],_,k,j,c,hk=>by obtain⟨e,he,_⟩:=hk;simp at he
 |e::px,hl,k,j,c,hk=>by
  obtain⟨e',he,hj⟩:=hk
  have h0:=hl e (by simp)
  cases k with
  |zero=>
   simp at he
   subst he
   have rU:=(List.getElem?_eq_some_iff.1 hj).1
   simp only[List.flatten_cons,Nat.zero_mul,Nat.zero_add]
   rw[List.getElem?_append_left rU]
   exact hj
  |succ k=>
   have ih:=rE (px:=px) (fun e he=>hl e (by simp[he])) (k:=k) (j:=j) (c:=c) ⟨e',by simpa using he,hj⟩
   simp only[List.flatten_cons]
   rw[List.getElem?_append_right (by rw[h0,Nat.add_mul];omega)]
   rw[show(k+1)*sz+j - e.length=k*sz+j by rw[h0,Nat.add_mul];omega]
   exact ih
structure Dy (B:Nat) (E:Ex) (w:World) (G:Gh) (h:Nat->Option aj) (m:Mode) (pes:List (List PC)):Prop where
 nb:∀b,aP b pes->G.Im b/\cP w b/\(B<=b\/E b)
 sep:gF pes
 eV:∀n gr m sz xs,h n=some (.row gr m sz xs)->m≠ .aG->∀b,aP b pes->¬aP b (G.g n).px
 kind:m=.af\/∀b,¬aP b pes
theorem Vp {α:Type} {sz:Nat} (bn:0<sz) {pes:List (List α)} (hl:∀e∈pes,e.length=sz) {k j k' j':Nat} {c c':α} (h1:At pes k j c) (h2:At pes k' j' c') (av:(k,j)≠(k',j')):k*sz+j≠k'*sz+j':=by
 intro dP
 have hj:j<sz:=by obtain⟨e1,he,hj⟩:=h1;rw[<-hl e1 (List.mem_of_getElem? he)];exact(List.getElem?_eq_some_iff.1 hj).1
 have iD:j'<sz:=by obtain⟨e1,he,hj⟩:=h2;rw[<-hl e1 (List.mem_of_getElem? he)];exact(List.getElem?_eq_some_iff.1 hj).1
 have hk:k=k':=by
  have h3:(k*sz+j)/sz=k:=by rw[Nat.mul_comm,Nat.mul_add_div bn,Nat.div_eq_of_lt hj];omega
  have h4:(k'*sz+j')/sz=k':=by rw[Nat.mul_comm,Nat.mul_add_div bn,Nat.div_eq_of_lt iD];omega
  rw[dP] at h3
  omega
 subst hk
 exact av (by rw[show j=j' by omega])
theorem HR.ZB {pes:List (List PC)} {sz:Nat} (bn:0<sz) (hl:∀e∈pes,e.length=sz) (H:HR B E w G h used pes.flatten):Dy B E w G h .af pes:=by
 refine⟨?_,⟨fun k j c hk=>(H.ru _ c (rE hl hk)).1,fun k j c k' j' c' b hk bx av hb=>H.wq _ _ c c' b (Vp bn hl hk bx av) (rE hl hk) (rE hl bx) hb⟩,?_,.inl rfl⟩
 ·rintro b ⟨k,j,c,hk,hb⟩
  exact(H.ru _ c (rE hl hk)).2 b hb
 ·rintro n gr m sz xs hn hm b ⟨k,j,c,hk,hb⟩
  exact H.rv _ c n gr m sz xs b (rE hl hk) hn hm hb
theorem Sep.vT {w:World} {q:PC} (hq:∀b,¬aK b q) (hg:Good w q):Sep q:=by
 induction hg with
 |int k n=>exact .int k n
 |bool b=>exact .bool b
 |nil sz a cap h=>exact .list _ _ _ _ (by rintro k j c ⟨e,he,_⟩;simp at he) (by rintro b o k j c _ ⟨e,he,_⟩;simp at he) (by rintro k j c k' j' c' b ⟨e,he,_⟩;simp at he)
 |cons sz b o cap xs h1 h2 h3 h4 h5 h6 ih=>exact absurd (.here _ _ _ _ h1) (hq b)
theorem Dy.vT {m:Mode} {pes:List (List PC)} (bG:∀b,¬aP b pes) (hg:∀k j c,At pes k j c->Good w c):Dy B E w G h m pes:=
 ⟨fun b hb=>absurd hb (bG b),⟨fun k j c hk=>Sep.vT (fun b hb=>bG b ⟨k,j,c,hk,hb⟩) (hg k j c hk),fun k j c k' j' c' b hk _ _ hb=>absurd ⟨k,j,c,hk,hb⟩ (bG b)⟩,fun n gr m sz xs _ _ b hb=>absurd hb (bG b),.inr bG⟩
theorem R.newRow (r:R B E w0 N σ a w G) {Im':Nat->Prop} {σ1:St} (H:HR B E w ⟨Im',G.g⟩ σ1.h σ.used []) (K:aR w G σ.h (fun n=>σ.used n=true) w ⟨Im',G.g⟩ σ1.h)
  (rS:σ1.env=σ.env) (jq:σ1.used=σ.used)
  {n:Nat} {m:Mode} {sz cap:Nat} {pes:List (List PC)} {arr:Array Value} {e:TypeId} (hn:σ.used n=false) (bn:0<sz) (hl:∀e∈pes,e.length=sz)
  (eQ:∀k j c,At pes k j c->Good w c/\∀b,aK b c->Im' b) (uZ:∀k j c,At pes k j c->arr[k*sz+j]? =some c.val) (gh:pes.length<=cap) (vi:cap<=maxLen) (ky:arr.size=cap*sz)
  (hm:m=.aG\/Dy B E w ⟨Im',G.g⟩ σ1.h m pes) (zx:m=.live->∀w',qg w' sz pes):
  ∃G',R B E w0 N {σ1 with h:=ao σ1.h n (some (.row true m sz (pes.map fun e=>e.map PC.er))),used:=ao σ1.used n true} a (w.alloc (.cells arr e)) G'/\
   RA (w.alloc (.cells arr e)) G' (ao σ1.h n (some (.row true m sz (pes.map fun e=>e.map PC.er)))) (.one (.sl n sz 0 pes.length)) (.slice (some (ad w.heap.size 0)) pes.length cap)/\
   aR w ⟨Im',G.g⟩ σ1.h (fun n=>σ.used n=true) (w.alloc (.cells arr e)) G' (ao σ1.h n (some (.row true m sz (pes.map fun e=>e.map PC.er)))):=by
 have hB:=r.fr.size
 have hw:=HV w (.cells arr e)
 have abZ:HR B E (w.alloc (.cells arr e)) ⟨Im',ao G.g n ⟨false,w.heap.size,0,cap,pes,none⟩⟩ (ao σ1.h n (some (.row true m sz (pes.map fun e=>e.map PC.er)))) (ao σ.used n true) []:=by
  refine H.insert (p:=⟨false,w.heap.size,0,cap,pes,none⟩) hn hw (by simp) (fun _=>⟨H.JC,.inl hB,by simp⟩) (fun cs c m hb=>by cases hb) ?_ ?_ ?_ (fun gr m sz xs _ _ i pc b hi=>by simp at hi)
  ·refine⟨bn,rfl,(fun hl=>by cases hl),fun _=>⟨cP.alloc _ _ _,⟨hl,fun k j c hk=>?_,fun k j c hk=>?_⟩,gh⟩,fun _ _=>⟨vi,arr,e,heap_alloc_new w _,(Nat.zero_add _).symm▸ky⟩,?_,fun _ hl=>zx hl _⟩
   ·simp only[Nat.zero_add]
    unfold ad
    rw[World.cell?_alloc_new]
    exact uZ k j c hk
   ·exact(eQ k j c hk).1.congr fun b hb o=>fO (hw b (H.e7 b ((eQ k j c hk).2 b hb))) o
   ·have jJ:m≠ .aG->(∀b,aP b pes->Im' b/\cP (w.alloc (.cells arr e)) b/\(B<=b\/E b))/\gF pes:=fun gi=>
     ⟨fun b hb=>by
      have hO:=hm.resolve_left gi
      obtain⟨q1,q2,q3⟩:=hO.nb b hb
      exact⟨q1,q2.congr (hw b (H.e7 b q1)),q3⟩,(hm.resolve_left gi).sep⟩
    cases m with
    |aG=>
     rintro b ⟨k,j,c,hk,hb⟩
     exact(eQ k j c hk).2 b hb
    |af=>exact jJ (by simp)
    |live=>
     have hO:=hm.resolve_left (by simp)
     have bG:=hO.kind.resolve_left (by simp)
     exact⟨fun b hb=>absurd hb (bG b),hO.sep⟩
  ·intro gr m' ax ak hb gi n' aW iv gm eT h0 fY b bL
   injection hb with _ hb _ _
   subst hb
   exact(hm.resolve_left gi).eV n' aW iv gm eT h0 fY b bL
  ·intro gr ax ak hb b bL
   injection hb with _ hb _ _
   subst hb
   exact absurd bL ((hm.resolve_left (by simp)).kind.resolve_left (by simp) b)
 have K2:=aR.trans (u2:=fun n=>σ.used n=true) (fun _ h=>h) K (aR.insert H (blk:=.row true m sz (pes.map fun e=>e.map PC.er)) (p:=⟨false,w.heap.size,0,cap,pes,none⟩) hn hw)
 refine⟨⟨Im',ao G.g n ⟨false,w.heap.size,0,cap,pes,none⟩⟩,r.step rS (fun m hm=>by rw[jq];exact lQ n m hm) K2 (by rw[jq];exact abZ) (r.fr.grow hw (by simp) rfl rfl rfl),?_,aR.insert H (blk:=.row true m sz (pes.map fun e=>e.map PC.er)) (p:=⟨false,w.heap.size,0,cap,pes,none⟩) hn hw⟩
 refine RA.dS rfl fun _=>.inr ⟨by simp[bo],some (ad w.heap.size 0),?_,?_,?_⟩
 ·simp[bo]
 ·simp[bo];omega
 ·simp[bo]
end
end Go.Am
end
