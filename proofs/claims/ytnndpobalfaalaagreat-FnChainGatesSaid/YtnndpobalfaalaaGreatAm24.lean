/- AmO, AmR, AmS, AmT, AmU, AmV, AmX, Am17, Am18, Am19, Am20, Am21, Am22, Am23, AmP, AmQ, Am24: parts of the proof. No condition. -/
import Derived.Test.YtnndpobalfaalaaGreatAmN
set_option linter.unusedVariables false
set_option linter.unusedSimpArgs false
open Bool renaming and_eq_true->zaa,or_eq_true->zaz,false_eq_true->zaI
open Option renaming map_some->zab,bind_some->zai,map_eq_some_iff->zas,getD_some->zbf
open List renaming mem_of_getElem?->zac,getElem?_eq_getElem->zad,mem_append->zae,all_eq_true->zaf,getElem?_map->zag,getElem?_eq_some_iff->zah,mem_map->zaj,flatMap_cons->zak,getD_eq_getElem?_getD->zal,getElem?_of_mem->zam,getElem?_set_self->zao,eq_nil_of_length_eq_zero->zap,mem_flatMap->zaq,mem_cons_of_mem->zar,map_congr_left->zat,getElem?_append_right->zav,pairwise_cons->zay,mem_cons->zaB,getElem?_set_ne->zaC,pairwise_append->zaD,mem_or_eq_of_mem_set->zaE,mem_range->zaF,flatMap_map->zaG,length_map->zaH,mem_singleton->zaJ,mem_filterMap->zaM,map_map->zaO,pairwise_iff_getElem->zaQ,length_eq_zero_iff->zaS,getElem?_cons_zero->zaT,cons_append->zaU,length_eq_one_iff->zaV,pairwise_lt_range->zaW,length_replicate->zaX,getElem?_eq_none->zaZ,mem_filter->za0,length_nil->za3,range_eq_range'->za6,mem_replicate->za7,map_replicate->za8,getElem?_ofFn->za9,map_cons->zba,append_of_mem->zbb,map_set->zbd,getElem_mem->zbe,length_cons->zbg,length_set->zbh,nil_append->zbi
open Array renaming getElem?_eq_some_iff->zan,ext'->zaw,getElem?_eq_none->zaA,mem_toList_iff->zaK,getD_eq_getD_getElem?->zaL,getElem?_eq_getElem->zaR
open Nat renaming le_refl->zau,lt_of_lt_of_le->zax,le_trans->zaN,sub_self->za1,lt_or_ge->za2,ble_eq_true_of_le->za4,mul_le_mul_right->za5
open Ne renaming symm->zaP
open Classical renaming choose_spec->zaY
open Option.some renaming injEq->zbc
namespace Go.Am
section
variable {B:Nat} {E:Ex} {w0 w w':World} {G G':Gh} {N:Nat} {h h':Nat->Option aK} {used:Nat->Bool}
variable {P:Program} {o:Oper} {a:Act} {σ σ':St} {Q:Exit->Act->World->Prop}
def BN (p:PB):eC->PC->PB
 |.row _,.list _ _ _ px=>{p with px:=px}
 |.nest _ k off,q=>{p with px:=p.px.set k ((p.px.getD k []).set off q)}
 |_,_=>p
open Classical in
noncomputable def xq (G:Gh) (its:List (eC×Mode)) (qs:List PC):Gh:=
 ⟨G.Im,fun n=>if h:∃p:(eC×Mode)×PC,∃i:Nat,its[i]? =some p.1/\qs[i]? =some p.2/\p.1.1.fJ=some n then BN (G.g n) h.choose.1.1 h.choose.2 else G.g n⟩
theorem aff {its:List (eC×Mode)} {qs:List PC} (iI:(its.filterMap (·.1.fJ)).Nodup) {i n:Nat} {it:eC×Mode} {q:PC} (hi:its[i]? =some it) (hq:qs[i]? =some q) (hn:it.1.fJ=some n):
  (xq G its qs).g n=BN (G.g n) it.1 q:=by
 have uC:∃p:(eC×Mode)×PC,∃i:Nat,its[i]? =some p.1/\qs[i]? =some p.2/\p.1.1.fJ=some n:=⟨(it,q),i,hi,hq,hn⟩;unfold xq;simp only
 rw[dif_pos uC];obtain⟨j,h1,h2,h3⟩:=uC.choose_spec;have mQ:=QR iI h1 hi h3 hn;subst mQ;rw[hi] at h1;rw[hq] at h2;injection h1 with h1;injection h2 with h2;rw[<-h1,<-h2]
theorem afg {its:List (eC×Mode)} {qs:List PC} {n:Nat} (hn:n∉its.filterMap (·.1.fJ)):(xq G its qs).g n=G.g n:=by
 unfold xq;simp only
 rw[dif_neg];rintro⟨p,i,h1,h2,h3⟩;exact hn (zaM.2 ⟨p.1,zac h1,h3⟩)
theorem PC.Xx {pc q:PC} (hv:q.val=pc.val) (hL:pc.jX=true):∃sz a cap xs,q=.list sz a cap xs:=by
 cases pc with
 |int k n=>cases hL
 |bool b=>cases hL
 |list sz a cap xs=>
  cases q with
  |int k n=>cases hv
  |bool b=>cases hv
  |list sz a cap xs=>exact⟨_,_,_,_,rfl⟩
theorem adU {px:List (List PC)} (hs:jQ (px.map fun e=>e.map PC.er)=true) {k j:Nat} {c:PC} (hk:At px k j c):c.jX=false:=by
 obtain⟨e,he,hj⟩:=hk;have h6:=zaf.1 hs (e.map PC.er) (by simp only[zaj];exact⟨e,zac he,rfl⟩);have h7:=zaf.1 h6 c.er (by simp only[zaj];exact⟨c,zac hj,rfl⟩);cases hL:c.jX with
 |false=>rfl
 |true=>rw[PC.agt hL] at h7;cases h7
theorem adT {px:List (List PC)} (hs:jQ (px.map fun e=>e.map PC.er)=true) (b:Nat):¬bY b px:=by
 rintro⟨k,j,c,⟨e,he,hj⟩,hc⟩;have h6:=zaf.1 hs (e.map PC.er) (by simp only[zaj];exact⟨e,zac he,rfl⟩);have h7:=zaf.1 h6 c.er (by simp only[zaj];exact⟨c,zac hj,rfl⟩);exact(Sep.o8 h7).2 b hc
theorem acA (H:HR B E w G h used []) {n:Nat} {gr:Bool} {m md:Mode} {sz:Nat} {xs:List (List C)} (hn:h n=some (.row gr m sz xs)) (hm:m≠ .aV) (y5:md=.live->m=.live) (oR:xm md xs=true)
  {q:PC} (A:sU w' md (rF sz (G.g n)) q) {k:Nat} {aM:List (List C)} (hq:q.er=.list k aM):LW w' (G.g n) (BN (G.g n) (.row n) q) gr m sz aM:=by
 have hr:=H.row n gr m sz xs hn;have c8:h n≠none:=by rw[hn];simp
 obtain⟨bu,a',oO,px',rfl⟩:=PC.Xx A.val rfl;obtain⟨rfl,ha,rfl,hlen,hl⟩:=A.live _ _ _ _ _ _ _ _ rfl rfl;rw[PC.fN] at hq;injection hq with _ hq;have oh:=A.sep;have fO:(∀k j c,At px' k j c->Sep c)/\(∀b o k j c,a'=some (ad b o)->At px' k j c->¬bR b c)/\kU px':=by
  cases oh with
  |list _ _ _ _ h1 h2 h3=>exact⟨h1,h2,h1,h3⟩
 have vZ:∀b,bY b px'->(G.g n).nl=false->b≠(G.g n).b:=by
  rintro b ⟨k,j,c,hk,hc⟩ bI rfl;refine fO.2.1 (G.g n).b (G.g n).o k j c ?_ hk hc;rw[ha,if_neg (by simp[bI])]
 have mz:md=.aZ->jQ xs=true:=by rintro rfl;exact oR
 refine⟨hm,?_,rfl,rfl,rfl,rfl,rfl,hq.symm,fun bI=>?_,fun bI=>?_,fO.2.2,fun b hb=>?_,fun eR k j pc hk hL=>?_⟩
 ·cases md with
  |aV=>cases oR
  |live=>exact .inr (y5 rfl)
  |aZ=>exact .inl (adT (by rw[<-hr.er];exact mz rfl))
 ·have:=(hr.nl bI).1;rw[this] at hlen;exact zap hlen
 ·refine⟨?_,?_⟩
  ·have hg:=A.gF;rw[ha,if_neg (by simp[bI])] at hg;by_cases h0:px'=[]
   ·show sV w' _ _ _ px';rw[h0];exact⟨by simp,by rintro k j c ⟨e,he,_⟩;simp at he,by rintro k j c ⟨e,he,_⟩;simp at he⟩
   ·generalize nz:PC.list bu (some (ad (G.g n).b (G.g n).o)) (G.g n).cap px'=q2 at hg;cases hg with
    |int k n=>cases nz
    |bool b=>cases nz
    |nil _ _ _ _=>injection nz with _ _ _ e4;exact absurd e4 h0
    |cons _ _ _ _ _ h1 h2 h3 h4 h5 h6=>
     injection nz with e1 e2 e3 e4;injection e2 with e2;obtain⟨e5,e6⟩:=qS e2;subst e1 e3 e4;rw[e5,e6];exact⟨h4,h5,h6⟩
  ·show px'.length<=_;rw[hlen];exact(hr.gd bI).2.2
 ·have gU:bR b (rF bu (G.g n)):=A.sub b (by
   obtain⟨k,j,c,hk,hc⟩:=hb;exact .there _ _ _ _ k j c hk hc)
  rcases YC (fun hq=>(hr.nl hq).1) gU with⟨bI,he⟩|hF
  ·exact absurd he (vZ b hb bI)
  ·exact hF
 ·cases md with
  |aV=>cases oR
  |live=>exact hl rfl k j pc hk hL
  |aZ=>
   have:=adU (px:=(G.g n).px) (by rw[<-hr.er];exact mz rfl) hk;rw[hL] at this;cases this
theorem CO {α:Type} {px:List (List α)} {k off k' j':Nat} {e:List α} {q c:α} (he:px[k]? =some e) (h:At (px.set k (e.set off q)) k' j' c):(k'=k/\j'=off/\c=q)\/(At px k' j' c/\(k',j')≠(k,off)):=by
 have hk:=(zah.1 he).1;rcases Ov hk h with⟨rfl,h1⟩|⟨aR,h1⟩
 ·by_cases hj:j'=off
  ·subst hj;have hl:j'<e.length:=by have:=(zah.1 h1).1;simpa using this
   rw[zao hl] at h1;injection h1 with h1;exact .inl ⟨rfl,rfl,h1.symm⟩
  ·rw[zaC (zaP hj)] at h1;exact .inr ⟨⟨e,he,h1⟩,fun e=>hj (congrArg Prod.snd e)⟩
 ·exact .inr ⟨h1,fun e=>aR (congrArg Prod.fst e)⟩
theorem anF {α:Type} {px:List (List α)} {k off k' j':Nat} {e:List α} {q c:α} (he:px[k]? =some e) (h:At px k' j' c) (aR:(k',j')≠(k,off)):At (px.set k (e.set off q)) k' j' c:=by
 obtain⟨e',h1,h2⟩:=h;by_cases hk:k'=k
 ·subst hk;rw[he] at h1;injection h1 with h1;subst h1;have hj:j'≠off:=fun e=>aR (by rw[e]);exact⟨_,zao (zah.1 he).1,by rw[zaC (zaP hj)];exact h2⟩
 ·exact⟨e',by rw[zaC (zaP hk)];exact h1,h2⟩
theorem acz (H:HR B E w G h used []) {n k off:Nat} {gr:Bool} {sz:Nat} {xs:List (List C)} (hn:h n=some (.row gr .live sz xs)) {pc:PC} (cY:At (G.g n).px k off pc) (hL:pc.jX=true)
  (vZ:(G.g n).nl=false->w'.heap[(G.g n).b]? =w.heap[(G.g n).b]?) (VU:∀k' j' c,At (G.g n).px k' j' c->(k',j')≠(k,off)->∀b,bR b c->w'.heap[b]? =w.heap[b]?)
  {q:PC} (A:sU w' .aZ pc q) {ex:List C} (uC:xs[k]? =some ex):LW w' (G.g n) (BN (G.g n) (.nest n k off) q) gr .live sz (xs.set k (ex.set off q.er)):=by
 have hr:=H.row n gr .live sz xs hn;obtain⟨e0,oQ,Vz⟩:=cY;have oe:(G.g n).px.getD k []=e0:=by simp[zal,oQ]
 have je:(BN (G.g n) (.nest n k off) q).px=(G.g n).px.set k (e0.set off q):=by simp only[BN,oe]
 have arX:ex=e0.map PC.er:=by
  rw[hr.er,zag,oQ] at uC;simpa using uC.symm
 have cY:At (G.g n).px k off pc:=⟨e0,oQ,Vz⟩;have hqL:q.jX=true:=by
  obtain⟨sz,a,cap,xs,rfl⟩:=PC.Xx A.val hL;rfl
 have bI:(G.g n).nl=false:=by
  cases hq:(G.g n).nl with
  |false=>rfl
  |true=>rw[(hr.nl hq).1] at oQ;simp at oQ
 obtain⟨l1,l2,l3⟩:=hr.gd bI;refine⟨by simp,.inr rfl,rfl,rfl,rfl,rfl,rfl,?_,fun h=>?_,fun _=>?_,?_,fun b hb=>?_,fun _ k' j' c dg hc=>?_⟩
 ·rw[je,hr.er,arX,zbd,zbd]
 ·rw[bI] at h;cases h
 ·rw[je];refine⟨⟨fun e he=>?_,fun k' j' c dg=>?_,fun k' j' c dg=>?_⟩,by rw[zbh];exact l3⟩
  ·rcases zaE he with he|rfl
   ·exact l2.1 e he
   ·rw[zbh];exact l2.1 e0 (zac oQ)
  ·rw[lG (vZ bI)];rcases CO oQ dg with⟨rfl,rfl,rfl⟩|⟨h1,_⟩
   ·rw[A.val];exact l2.2.1 _ _ _ cY
   ·exact l2.2.1 _ _ _ h1
  ·rcases CO oQ dg with⟨rfl,rfl,rfl⟩|⟨h1,h2⟩
   ·exact A.gF
   ·exact(l2.2.2 _ _ _ h1).congr fun b hb o=>lG (VU k' j' c h1 h2 b hb) o
 ·rw[je];refine⟨fun k' j' c dg=>?_,fun k1 j1 c1 k2 j2 c2 b h1 h2 aR hb bX=>?_⟩
  ·rcases CO oQ dg with⟨rfl,rfl,rfl⟩|⟨h1,h2⟩
   ·exact A.sep
   ·exact hr.mode.2.1 _ _ _ h1
  ·rcases CO oQ h1 with⟨rfl,rfl,rfl⟩|⟨g1,n1⟩
   ·rcases CO oQ h2 with⟨rfl,rfl,rfl⟩|⟨g2,n2⟩
    ·exact aR rfl
    ·exact hr.mode.2.2 _ _ _ _ _ _ b cY g2 aR (A.sub b hb) bX
   ·rcases CO oQ h2 with⟨rfl,rfl,rfl⟩|⟨g2,n2⟩
    ·exact hr.mode.2.2 _ _ _ _ _ _ b g1 cY aR hb (A.sub b bX)
    ·exact hr.mode.2.2 _ _ _ _ _ _ b g1 g2 aR hb bX
 ·rw[je] at hb;obtain⟨k',j',c,dg,hc⟩:=hb;rcases CO oQ dg with⟨rfl,rfl,rfl⟩|⟨h1,h2⟩
  ·exact⟨_,_,_,cY,A.sub b hc⟩
  ·exact⟨_,_,_,h1,hc⟩
 ·rw[je];by_cases he:(k',j')=(k,off)
  ·have h1:k'=k:=congrArg Prod.fst he;have h2:j'=off:=congrArg Prod.snd he;subst h1 h2;obtain⟨e1,g1,g2⟩:=dg;rw[oQ] at g1;injection g1 with g1;subst g1;rw[Vz] at g2;injection g2 with g2;subst g2;have hl:j'<e0.length:=(zah.1 Vz).1;exact⟨q,⟨_,zao (zah.1 oQ).1,zao hl⟩,A.val,hqL⟩
  ·exact⟨c,anF oQ dg he,rfl,hc⟩
theorem XF:∀{as:List aA} {e8:List (Bool×List ao)} {vals:List Value},tG as=some e8->vals.length=as.length->(∀(j:Nat) (x:aA) (v:Value),as[j]? =some x->vals[j]? =some v->RA w G h x v)->
  vals.length=e8.length/\∀(j:Nat) (x:Bool×List ao) (v:Value),e8[j]? =some x->vals[j]? =some v->RV w G h x.1 x.2 v
 |[],e8,vals,hx,hl,hc=>by
  simp only[tG] at hx;injection hx with hx;subst hx;exact⟨hl,by simp⟩
 |y::as,e8,vals,hx,hl,hc=>by
  simp only[tG] at hx;split at hx
  ·rename_i x xs e1 e2;injection hx with hx;subst hx;match vals,hl with
   |v::vals,hl=>
    obtain⟨i1,i2⟩:=XF e2 (vals:=vals) (by simpa using hl) (fun j x v h1 h2=>hc (j+1) x v h1 h2);refine⟨by simp[i1],fun j x' v' hj hv=>?_⟩;cases j with
    |zero=>
     simp at hj hv;subst hj hv;have h0:=hc 0 y v rfl rfl;cases y with
     |one c=>
      cases c<;>simp[aA.cells?] at e1<;>subst e1<;>exact h0.resolve_left (by simp)
     |agg cs=>
      simp[aA.cells?] at e1;subst e1;exact h0
     |cF l=>simp[aA.cells?] at e1
    |succ j=>exact i2 j x' v' (by simpa using hj) (by simpa using hv)
  ·cases hx
theorem wY.jX {it:eC} {md:Mode} {pc:PC} (i:wY B E w G h it md pc):pc.jX=true:=by
 obtain⟨sz,a,cap,xs,rfl,_⟩:=i.ok.gd;rfl
def MP (P:Program) (T:br):Prop:=∀f sig M,br.rS T.BJ f=some (sig,M)->rM P f sig M
def Th (w:World) (sig:bi) (pas:List PA) (rs:List Dv) (eV:List C) (e:Ending) (w':World):Prop:=
  ∃bO:List (K×List PC),bO.map (fun p=>(p.1,p.2.map PC.er))=rs/\e=.returned (ye bO)/\(∀p∈bO,p.1≠ .ptr/\(p.1=.one->p.2.length=1))/\
   CK w' w.heap.size (bO.flatMap (·.2))/\Fr w.heap.size (AJ (eT sig (pas.map (·.ps)))) w w'/\
   ∃qs:List PC,qs.map PC.er=eV/\qs.length=(eT sig (pas.map (·.ps))).length/\
    ∀(i:Nat) (x:Mode×PC) (q:PC),(eT sig (pas.map (·.ps)))[i]? =some x->qs[i]? =some q->sU w' x.1 x.2 q
theorem adt (r:R B E w0 N σ a w G) {T:br} {m:Mode} {f:FuncId} {as:List aA} {vals vals':List Value} {σ1:St}
  (hS:∀sig M,br.rS T.BJ f=some (sig,M)->∀ds rs eV,M ds=some (rs,eV)->∀pas,CH w sig ds vals pas->Calls P f vals'.toArray w (Th w sig pas rs eV)) (hN:∀n,o.dst=some n->n<N)
  (c9:(execOp a.eval o).run P w=.ok (.enter f vals'.toArray) w) (hl:vals.length=as.length)
  (uw:∀(j:Nat) (x:aA) (v:Value),as[j]? =some x->vals[j]? =some v->RA w G σ.h x v)
  (hx:uh T m o.dst f as σ=some σ1):o.wp P a w (Nx B E w0 N σ1) Q:=by
 have H:=r.hr;unfold uh at hx;split at hx
 ·rename_i sig M e8 hM Vg;split at hx
  ·rename_i iI;split at hx
   ·rename_i ds its hv;split at hx
    ·rename_i rs eV np;split at hx
     ·rename_i σ2 rl;split at hx
      ·rename_i ls j8 JK;injection hx with hx;subst hx;obtain⟨uE,U7⟩:=XF Vg hl uw;obtain⟨pas,q1,q2,q3,q4,q5,q6,q7⟩:=H.o6 hv uE U7;have xv:(its.filterMap (·.1.fJ)).Nodup:=by rw[q6];exact iI
       generalize yY:eT sig (pas.map (·.ps))=fl at q5;have Qc:∀(i:Nat) (x:Mode×PC),fl[i]? =some x->∃it,its[i]? =some it/\it.2=x.1/\wY B E w G σ.h it.1 x.1 x.2:=by
        intro i x hi;have cC:i<its.length:=by rw[q5.len];exact(zah.1 hi).1
        have he:its[i]? =some its[i]:=zad cC;exact⟨_,he,q5.at_ i _ x he hi⟩
       have adW:∀x∈fl,∃it∈its,wY B E w G σ.h it.1 x.1 x.2:=by
        intro x hx;obtain⟨i,hi⟩:=zam hx;obtain⟨it,h1,_,h2⟩:=Qc i x hi;exact⟨it,zac h1,h2⟩
       have rb:∀x∈fl,∀b,bR b x.2->∃n gr m sz xs,n∈nN sig e8/\σ.h n=some (.row gr m sz xs)/\m≠ .aV/\vP G n b/\((∀b,¬bY b (G.g n).px)\/m=.live):=by
        intro x hx b hb;obtain⟨it,h1,h2⟩:=adW x hx;obtain⟨n,gr,m,sz,xs,e1,e2,e3,e4,e5⟩:=h2.qu H hb;exact⟨n,gr,m,sz,xs,by rw[<-q6];exact zaM.2 ⟨it,h1,e1⟩,e2,e3,e4,e5⟩
       have uC:∀b,AJ fl b->(B<=b\/E b):=by
        rintro b ⟨x,hx,hb⟩;obtain⟨n,gr,m,sz,xs,_,e2,e3,e4,e5⟩:=rb x hx b hb;rcases e4 with⟨bI,rfl⟩|hF
        ·exact(H.own n (by rw[e2];simp) bI).2.1
        ·have jm:=(H.row n gr m sz xs e2).mode;cases m with
         |aV=>exact absurd rfl e3
         |aZ=>exact(jm.1 b hF).2.2
         |live=>exact(jm.1 b hF).2.2
       have XJ:CH w sig ds vals pas:=by
        refine⟨q2,q1,q3,fun x hx=>?_,?_,fun pc bU x hx b hb bX=>?_,fun p hp hk=>absurd hk (q4 p hp),fun i p s hp _ hk=>absurd hk (q4 p (zac hp))⟩
        ·rw[yY] at hx;obtain⟨it,_,h2⟩:=adW x hx;exact h2.ok
        ·rw[yY,zaQ];intro i j hi hj mQ b hb bX;obtain⟨it,h1,_,h2⟩:=Qc i _ (zad hi);obtain⟨DN,nk,_,F8⟩:=Qc j _ (zad hj);obtain⟨n,gr,m,sz,xs,e1,e2,e3,e4,e5⟩:=h2.qu H hb;obtain⟨n',cv,m',bu,aM,Ue,xj,e3',FM,FN⟩:=F8.qu H bX;have aR:n≠n':=by
          rintro rfl;have:=QR xv h1 nk e1 Ue;omega
         exact H.Jo aR e2 xj FN e4 FM
        ·rw[yY] at hx;obtain⟨n',cv,m',bu,aM,Ue,xj,e3',FM,FN⟩:=rb x hx b bX;rcases q7 pc bU b hb with hi|⟨n,gr,m,sz,xs,hn,e2,e4⟩
         ·rcases FM with⟨bI,rfl⟩|hF
          ·exact(H.own n' (by rw[xj];simp) bI).1 hi
          ·rcases FN with FN|rfl
           ·exact FN b hF
           ·exact((H.row n' cv .live bu aM xj).mode.1 b hF).1 hi
         ·have aR:n≠n':=fun e=>hn (e▸Ue);exact H.Jo aR e2 xj FN e4 FM
       unfold Oper.wp;rw[c9];refine(hS sig M hM ds rs eV np pas XJ).mono fun e w' ⟨bO,p1,p2,p3,p4,p5,qs,p6,p7,p8⟩=>?_;subst p2;rw[yY] at p5 p7 p8;obtain⟨t1,t2,t3,t4⟩:=ajr rl xv;have hSn:∀n,n∈nN sig e8->∃(i:Nat) (it:eC×Mode) (x:Mode×PC) (q:PC),its[i]? =some it/\fl[i]? =some x/\qs[i]? =some q/\eV[i]? =some q.er/\it.1.fJ=some n/\wY B E w G σ.h it.1 x.1 x.2/\sU w' x.1 x.2 q:=by
        intro n hn;rw[<-q6,zaM] at hn;obtain⟨it,A8,jn⟩:=hn;obtain⟨i,hi⟩:=zam A8;have cC:i<fl.length:=by rw[<-q5.len];exact(zah.1 hi).1
        have hx:fl[i]? =some fl[i]:=zad cC;have hq:qs[i]? =some (qs[i]'(by rw[p7];exact cC)):=zad _;exact⟨i,it,_,_,hi,hx,hq,by rw[<-p6,zag,hq];rfl,jn,(q5.at_ i it _ hi hx).2,p8 i _ _ hx hq⟩
       have asD:∀b,b<w.heap.size->(∀n,n∈nN sig e8->¬vP G n b)->w'.heap[b]? =w.heap[b]? :=by
        intro b hb dE;refine p5.block b hb ?_;rintro⟨x,hx,JA⟩;obtain⟨n,gr,m,sz,xs,e1,e2,e3,e4,e5⟩:=rb x hx b JA;exact dE n e1 e4
       have asc:∀b,b<w.heap.size->(∀x∈fl,¬bR b x.2)->w'.heap[b]? =w.heap[b]? :=fun b hb dE=>p5.block b hb (by rintro⟨x,hx,JA⟩;exact dE x hx JA);obtain⟨yw,K,jG⟩:=H.QQ (G':=xq G its qs) (h':=σ2.h) (w':=w') (S:=fun n=>n∈nN sig e8) p5.size asD (fun b hb=>p5.kS b hb) rfl (fun n hn=>by
        obtain⟨i,it,x,q,hi,hxi,mS,nw,jn,fT,Jw⟩:=hSn n hn;have cY:=fT.at_;have afE:=t4 i it q.er hi nw;rw[aff xv hi mS jn];obtain⟨WT,md⟩:=it;cases WT with
        |nil sz=>cases jn
        |row n'=>
         injection jn with jn;have jn:n'=n:=jn;subst jn;obtain⟨gr,mo,sz,xs,e1,e2,e3,e4,e5⟩:=cY;obtain⟨cv,qK,vh,oL,aM,g1,g2,g3⟩:=afE;rw[e1] at g1;injection g1 with g1;injection g1 with a1 a2 a3 a4;subst a1 a2 a3 a4;rw[e4] at Jw;exact⟨gr,mo,sz,xs,aM,e1,g3,acA H e1 e2 e3 e5 Jw g2⟩
        |nest n' k off=>
         injection jn with jn;have jn:n'=n:=jn;subst jn;obtain⟨gr,sz,xs,e1,e2,e3⟩:=cY;obtain⟨cv,qK,vh,oL,ex,g1,g2,g3⟩:=afE;rw[e1] at g1;injection g1 with g1;injection g1 with a1 a2 a3 a4;subst a1 a2 a3 a4;rw[e2] at Jw;have hr:=H.row n' gr .live sz xs e1;have c8:σ.h n'≠none:=by rw[e1];simp
         have afM:∀b,vP G n' b->¬bR b x.2->w'.heap[b]? =w.heap[b]? :=by
          intro b hb xw;have cC:b<w.heap.size:=by
           rcases hb with⟨bI,rfl⟩|hF
           ·exact(H.own n' c8 bI).2.2
           ·exact H.wH e1 hF
          refine asc b cC fun y hy rT=>?_;obtain⟨j,hj⟩:=zam hy;by_cases mQ:j=i
          ·subst mQ;rw[hxi] at hj;injection hj with hj;subst hj;exact xw rT
          ·obtain⟨DN,nk,_,F8⟩:=Qc j y hj;obtain⟨n2,F7,m2,pi,mb,f1,f2,f3,f4,f5⟩:=F8.qu H rT;have aR:n'≠n2:=by
            rintro rfl;exact mQ (QR xv nk hi f1 rfl)
           exact H.Jo aR e1 f2 f5 hb f4
         refine⟨gr,.live,sz,xs,_,e1,g3,acz H e1 e3 fT.jX (fun bI=>afM _ (.inl ⟨bI,rfl⟩) fun hb=>?_) (fun k' j' c hk aR b hb=>afM b (.inr ⟨k',j',c,hk,hb⟩) fun JA=>?_) Jw g2⟩
         ·exact H.live n' gr sz xs e1 _ ⟨k,off,x.2,e3,hb⟩ n' c8 bI rfl
         ·exact hr.mode.2.2 _ _ _ _ _ _ b hk e3 aR hb JA) (fun n hn=>⟨t3 n (by rw[q6];exact hn),afg (by rw[q6];exact hn)⟩)
       have HR2:HR B E w' (xq G its qs) σ2.h σ2.used []:=by rw[t2];exact yw
       have gU:yx B w' (xq G its qs) σ2.h (bO.flatMap (·.2)):=by
        refine⟨p4.gF,fun pc bU b hb=>?_,?_⟩
        ·obtain⟨n1,n2⟩:=p4.new pc bU b hb;refine⟨⟨fun hi=>?_,fun q hq nz he=>?_,fun q gr mo sz xs hq eI=>?_⟩,n2,zaN r.fr.size n1⟩
         ·have:=H.jM b hi;omega
         ·obtain⟨k0,k1,k2,_⟩:=K.name q (yw.lI q hq) hq;have:=(H.own q k0 (k1.symm.trans nz)).2.2;rw[<-k2] at this;omega
         ·have bX:=jG q b eI;have GF:=yw.lI q (by rw[hq];simp);obtain⟨k0,_⟩:=K.name q GF (by rw[hq];simp);cases hh:σ.h q with
          |none=>exact absurd hh k0
          |some blk=>
           cases blk with
           |box cs=>
            have:q∉nN sig e8:=by
             intro hm;obtain⟨i,it,x,q',hi,hxi,mS,nw,jn,fT,Jw⟩:=hSn q hm;have cY:=fT.at_;obtain⟨WT,md⟩:=it;cases WT with
             |nil sz=>cases jn
             |row n'=>
              injection jn with jn;have jn:n'=q:=jn;subst jn;obtain⟨gr,mo,sz,xs,e1,_⟩:=cY;rw[hh] at e1;cases e1
             |nest n' k off=>
              injection jn with jn;have jn:n'=q:=jn;subst jn;obtain⟨gr,sz,xs,e1,_⟩:=cY;rw[hh] at e1;cases e1
            have h3:=t3 q (by rw[q6];exact this);rw[h3,hh] at hq;cases hq
           |row cv m' bu aM=>have:=H.wH hh bX;omega
        ·rw[zaQ];intro i j hi hj mQ b hb;exact p4.qY i j _ _ b (by omega) (zad hi) (zad hj) hb
       rw[<-p1] at JK;obtain⟨G',b1,b2,b3,b4,b5,b6,b7⟩:=HR.mW HR2 JK p3 gU;have yZ:Fr B E w0 w':=by
        refine⟨p5.os.trans r.fr.os,p5.tape.trans r.fr.tape,p5.output.trans r.fr.output,zaN r.fr.size p5.size,fun b hb he=>?_,fun b hb=>?_⟩
        ·refine(p5.block b (zax hb r.fr.size) fun hx=>?_).trans (r.fr.block b hb he);rcases uC b hx with h1|h1
         ·omega
         ·exact he h1
        ·exact(r.fr.kS b hb).trans (p5.kS b (zax hb r.fr.size))
       have K2:cr w G σ.h (fun n=>σ.used n=true) w' G' j8.h:=cr.trans (fun n hn=>by rw[t2];exact hn) K b2;have r2:R B E w0 N j8 a w' G':=r.step (b6.trans t1) (fun q hq=>b7 q (by rw[t2];exact hq)) K2 b1 yZ;refine⟨G',r2.put (RA.qe b3 p3 b4) ?_ hN⟩;intro q hq;match ls,hq with
       |[],hq=>obtain⟨x,hx,_⟩:=hq;simp at hx
       |[(true,cs)],hq=>obtain⟨c,hc,hq⟩:=hq;exact b5 (true,cs) (by simp) c hc q hq
       |[(false,[c])],hq=>exact b5 (false,[c]) (by simp) c (by simp) q hq
       |[(false,[])],hq=>exact absurd hq id
       |[(false,_::_::_)],hq=>exact absurd hq id
       |x::y::ls,hq=>obtain⟨x',kF,c,hc,hq⟩:=hq;exact b5 x' kF c hc q hq
      ·cases hx
     ·cases hx
    ·cases hx
   ·cases hx
  ·cases hx
 ·cases hx
theorem api (r:R B E w0 N σ a w G) {T:br} (hT:MP P T) {m:Mode} {f:FuncId} {as:List aA} {vals:List Value} {σ1:St} (hN:∀n,o.dst=some n->n<N)
  (c9:(execOp a.eval o).run P w=.ok (.enter f vals.toArray) w) (hl:vals.length=as.length)
  (uw:∀(j:Nat) (x:aA) (v:Value),as[j]? =some x->vals[j]? =some v->RA w G σ.h x v)
  (hx:uh T m o.dst f as σ=some σ1):o.wp P a w (Nx B E w0 N σ1) Q:=
 adt r (fun sig M hM ds rs eV h pas hm=>hT f sig M hM ds rs eV h w vals pas hm) hN c9 hl uw hx
theorem apb (r:R B E w0 N σ a w G) {T:br} (hT:MP P T) {m:Mode} {f:FuncId} {xs:Array Operand} {ms:List MO} {ts:Array TypeId} {σ1:St} (hN:∀n,o.dst=some n->n<N)
  (ho:o.op=.call {callee:=.value (.func f),args:=xs,argTypes:=ts}) (hf:cc P f=true) (hm:ld xs.toList ms=true)
  (hx:uh T m o.dst f (ms.map σ.ev) σ=some σ1):o.wp P a w (Nx B E w0 N σ1) Q:=by
 obtain⟨e1,e2⟩:=r.FU hm;refine api r hT (vals:=xs.toList.map a.eval) hN ?_ (by simpa using e1) e2 hx;have he:(xs.toList.map a.eval).toArray=xs.map a.eval:=by apply zaw;simp
 rw[he];simp[execOp,ho,resolve,Deferred.ofValue,invoke,Act.eval,K8 hf]
end
section
variable {B:Nat} {E:Ex} {w0 w w':World} {G G':Gh} {h h':Nat->Option aK} {used used':Nat->Bool} {tk:List PC} {N:Nat}
variable {P:Program} {o:Oper} {a:Act} {σ σ':St} {Q:Exit->Act->World->Prop}
def zL (tmps:Array Value):ResultVar->Sem Value
 |.tmp t=>pure (tmps.getD t undef)
 |.cell a t=>do loadVar t (<-asAddr (tmps.getD a undef))
def Hu:List Value->Value
 |[u]=>u
 |l=>.tuple l.toArray
theorem Rk (fn:Func) (tmps:Array Value) {us:List Value} (h:(fn.results.toList.mapM (zL tmps)).run P w=.ok us w):
  (results fn tmps).run P w=.ok (Hu us) w:=by
 unfold results;generalize fn.results=A at h⊢;obtain⟨l,rfl⟩:∃l:List ResultVar,A=l.toArray:=⟨A.toList,by simp⟩;have h2:((l.toArray.mapM (zL tmps)).run P w)=.ok us.toArray w:=by
  rw[List.mapM_toArray];simp at h;simp[h]
 show Sem.run P (l.toArray.mapM (zL tmps)>>=fun vs=>pure (if h:vs.size=1 then vs[0] else Value.tuple vs)) w=_
 generalize l.toArray.mapM (zL tmps)=s at h2⊢;match us with
 |[]=>simp[Hu,h2]
 |[u]=>simp[Hu,h2]
 |u::v::us=>simp[Hu,h2]
end
section
variable {B:Nat} {E:Ex} {w0 w w':World} {G G':Gh} {N:Nat} {h h':Nat->Option aK} {used:Nat->Bool}
variable {P:Program} {o:Oper} {a:Act} {σ σ':St} {Q:Exit->Act->World->Prop}
theorem aDf {n k aY off sz len:Nat} {x:C} (hx:dH h (.cJ n k aY off sz len)=some x):∃gr xs,h n=some (.row gr .live aY xs)/\(xs[k]?).bind (·[off]?)=some x:=by
 simp only[Am.dH] at hx;split at hx
 ·rename_i gr rs xs hn;split at hx
  ·rename_i hc;subst hc;exact⟨gr,xs,hn,hx⟩
  ·cases hx
 ·cases hx
theorem HR.aiP (H:HR B E w G h used []) {n k off aY:Nat} {gr:Bool} {xs:List (List C)} (hn:h n=some (.row gr .live aY xs)) {pc:PC} (cY:At (G.g n).px k off pc):
  (G.g n).nl=false/\Good w pc/\(xs[k]?).bind (·[off]?)=some pc.er:=by
 have hr:=H.row n gr .live aY xs hn;have bI:(G.g n).nl=false:=by
  cases hq:(G.g n).nl with
  |false=>rfl
  |true=>obtain⟨e,he,_⟩:=cY;rw[(hr.nl hq).1] at he;simp at he
 refine⟨bI,(hr.gd bI).2.1.2.2 _ _ _ cY,?_⟩;obtain⟨e,he,hj⟩:=cY;rw[hr.er];simp[he,hj]
theorem apm (r:R B E w0 N σ a w G) {t e:TypeId} {i:TypeInfo} {x y:Operand} {mx my:MO} {n k aY off sz bu len:Nat} {q:Int} {ys:List (List C)} (ho:o.op=.indexAddr t x y) (hN:∀n,o.dst=some n->n<N) (mR:df x mx=true) (pT:df y my=true)
  (ht:P.underlying t=some (.slice e)) (hi:P.info? e=some i) (dd:i.size=sz) (hq:(σ.ev my).fm=some q) (h0:0<=q) (h1:q<(ys.length:Int))
  (hx:σ.ev mx=.one (.cJ n k aY off bu len)) (hv:dH σ.h (.cJ n k aY off bu len)=some (.list sz ys)):
  o.wp P a w (Nx B E w0 N (σ.put o.dst (.one (.eG n k aY off sz q.toNat)))) Q:=by
 obtain⟨x1,x2⟩:=r.ev mR;obtain⟨kk,ey⟩:=(r.ev pT).1.int hq;rw[hx] at x1 x2;obtain⟨gr,xs,hn,hb⟩:=aDf hv;obtain⟨pc,p1,p2,p3⟩:=(x1.kO (by simp)).1 gr xs hn;obtain⟨g1,g2,g3⟩:=r.hr.aiP hn p1;rw[hb] at g3;injection g3 with g3;cases pc with
 |int k n=>simp[PC.er] at g3
 |bool b=>simp[PC.er] at g3
 |list s' ya c py=>
  rw[PC.fN] at g3;injection g3 with e1 e2;subst e1;have hl:ys.length=py.length:=by rw[e2];simp
  have gz:q<(py.length:Int):=by omega
  have v7:PC.val (.list sz ya c py)=.slice ya py.length c:=rfl;generalize y3:PC.list sz ya c py=p at g2;cases g2 with
  |int k n=>cases y3
  |bool b=>cases y3
  |nil _ _ _ _=>injection y3 with _ _ _ e4;subst e4;simp at gz;omega
  |cons _ b oo _ _ q1 q2 q3 q4 q5 q6=>
   injection y3 with f1 f2 f3 f4;subst f1 f2 f3 f4;refine lK r (v:=.pointer (some (ad b (oo+q.toNat*sz)))) ?_ ?_ (fun m hm=>x2 m hm) hN
   ·simp only[execOp,ho,<-p2,PC.val,ey];simp[Z4 ht hi dd h0 gz]
   ·refine RA.jP rfl fun cv aM cb=>?_;exact⟨_,b,oo,py.length,c,p1,rfl,rfl,rfl⟩
theorem ac0:∀{vs:List ao} {cs:List C} {us:List Value},pM vs=some cs->eO w G h vs us->∃pe:List PC,pe.map PC.er=cs/\pe.map PC.val=us/\pe.length=vs.length/\∀c∈pe,c.er.gV=true
 |[],cs,us,hx,hr=>by
  simp only[pM] at hx;injection hx with hx;subst hx;have:us=[]:=zap hr.1;subst this;exact⟨[],rfl,rfl,rfl,by simp⟩
 |c::vs,cs,us,hx,hr=>by
  match us,hr with
  |[],hr=>exact absurd hr.1 (by simp)
  |u::us,hr=>
  cases c with
  |c x=>
   simp only[pM] at hx;split at hx
   ·rename_i hs;cases hd:pM vs with
    |none=>rw[hd] at hx;cases hx
    |some l=>
     rw[hd] at hx;injection hx with hx;subst hx;obtain⟨pe,e1,e2,e3,e4⟩:=ac0 (us:=us) hd ⟨by have:=hr.1;simpa using this,fun j c u hj hu=>hr.2 (j+1) c u (by simpa using hj) (by simpa using hu)⟩;obtain⟨_,pc,q1,q2,_⟩:=hr.2 0 _ u rfl rfl;refine⟨pc::pe,by simp[e1,q1],by simp[e2,q2],by simp[e3],fun c hc=>?_⟩;rcases zaB.1 hc with rfl|hc
     ·rw[q1];exact hs
     ·exact e4 c hc
   ·cases hx
  |nil _=>simp[pM] at hx
  |ptr _ _ _ _=>simp[pM] at hx
  |dR _ _=>simp[pM] at hx
  |sl _ _ _ _=>simp[pM] at hx
  |cJ _ _ _ _ _ _=>simp[pM] at hx
  |eG _ _ _ _ _ _=>simp[pM] at hx
  |fn _ _=>simp[pM] at hx
  |cD=>simp[pM] at hx
theorem Good.o8 {c:PC} (hs:c.er.gV=true):Good w c:=by
 cases c with
 |int k n=>exact .int k n
 |bool b=>exact .bool b
 |list s a cap xs=>rw[PC.fN] at hs;cases hs
theorem apw (r:R B E w0 N σ a w G) {t:TypeId} {i:TypeInfo} {x y:Operand} {mx my:MO} {sz n k rs off s j:Nat} {ag gr:Bool} {xs aM:List (List C)} {vs:List ao} (ho:o.op=.store t x y) (hd:o.dst=none) (mR:df x mx=true) (pT:df y my=true)
  (hi:P.info? t=some i) (dd:i.size=sz) (mT:0<sz) (hp:σ.ev mx=.one (.eG n k rs off s j)) (hv:(σ.ev my).cells?=some (ag,vs)) (hl:vs.length=sz) (hn:σ.h n=some (.row gr .live rs xs))
  (hx:zQ xs k off s j vs=some aM):o.wp P a w (Nx B E w0 N (σ.fK n (.row gr .live rs aM))) Q:=by
 have H:=r.hr;obtain⟨x1,_⟩:=r.ev mR;obtain⟨y1,y2⟩:=r.ev pT;rw[hp] at x1;obtain⟨pc,b,oo,len,cap,p1,p2,p3,p4⟩:=(x1.kO (by simp)).1 gr xs hn;obtain⟨bI,g2,g3⟩:=H.aiP hn p1;have hr:=H.row n gr .live rs xs hn;unfold zQ at hx;rw[g3] at hx;have di:=y1.cells hv;have JZ:(a.eval y).cells.toList.length=sz:=by rw[di.1,hl]
 cases pc with
 |int kk nn=>simp[PC.er] at hx
 |bool bb=>simp[PC.er] at hx
 |list s' ya c py=>
 rw[PC.fN] at hx;simp only at hx;split at hx
 ·rename_i eQ;obtain⟨rfl,lP,hj,xA⟩:=eQ;cases AZ:pM vs with
  |none=>rw[AZ] at hx;cases hx
  |some cs=>
  rw[AZ] at hx;injection hx with hx;obtain⟨pe,e1,e2,e3,e4⟩:=ac0 AZ di;have hj:j<py.length:=by simpa using hj
  have PX:pe.length=s':=by omega
  have Bl:PC.val (.list s' ya c py)=.slice ya py.length c:=rfl;rw[Bl] at p2;injection p2 with f1 f2 f3;subst f1 f2 f3;generalize y3:PC.list s' (some (ad b oo)) c py=p at g2;cases g2 with
  |int k n=>cases y3
  |bool b=>cases y3
  |nil _ _ _ _=>injection y3 with _ _ _ e4;subst e4;simp at hj
  |cons _ b' oo' _ _ q1 q2 q3 q4 q5 q6=>
  injection y3 with f1 f2 f3 f4;injection f2 with f2;obtain⟨rfl,rfl⟩:=qS f2;subst f1 f3 f4;have gU:bR b (PC.list s' (some (ad b oo)) c py):=.here _ _ _ _ q1;have hF:bY b (G.g n).px:=⟨k,off,_,p1,gU⟩;obtain⟨aDO,⟨cur,et,hg⟩,hBE⟩:=hr.mode.1 b hF;have jE:oo+j*s'+(a.eval y).cells.toList.length<=cur.size:=by
   have h2:(py[j]'hj).length=s':=q4 _ (zbe hj);have hc:=q5 j (s' - 1) ((py[j]'hj)[s' - 1]'(by omega)) ⟨_,zad hj,zad _⟩;have:=OE hg hc;omega
  have mz:∀k' j' c',At (py.set j pe) k' j' c'->c'.er.gV=true:=by
   intro k' j' c' h;rcases Ov hj h with⟨rfl,h1⟩|⟨_,h1⟩
   ·exact e4 c' (zac h1)
   ·obtain⟨e,he,oS⟩:=h1;have h6:=zaf.1 xA (e.map PC.er) (by simp only[zaj];exact⟨e,zac he,rfl⟩);exact zaf.1 h6 c'.er (by simp only[zaj];exact⟨c',zac oS,rfl⟩)
  have aR:py.set j pe≠[]:=by
   intro h;have:=congrArg List.length h;simp at this;rw[this] at hj;simp at hj
  have ra:∀e∈py.set j pe,e.length=s':=by
   intro e he;rcases zaE he with he|rfl
   ·exact q4 e he
   ·exact PX
  generalize nD:jA w b (oo+j*s') (a.eval y).cells.toList cur=w';have A:sU w' .aZ (PC.list s' (some (ad b oo)) c py) (PC.list s' (some (ad b oo)) c (py.set j pe)):=by
   refine⟨by simp[PC.val],.cons _ _ _ _ _ aR (by simpa using q2) q3 ra (fun k' j' c' h=>?_) (fun k' j' c' h=>Good.o8 (mz k' j' c' h)),.list _ _ _ _ (fun k' j' c' h=>(Sep.o8 (mz k' j' c' h)).1) (fun b' o' k' j' c' _ h=>(Sep.o8 (mz k' j' c' h)).2 b')
    (fun k1 j1 c1 k2 j2 c2 b' h _ _ hb=>absurd hb ((Sep.o8 (mz k1 j1 c1 h)).2 b')),fun b' bX=>?_,?_,fun wN a0 OB oL sK a1 s6 vr h1 h2=>?_⟩
   ·have qC:j'<s':=by
     obtain⟨e,he,oS⟩:=h;have:=ra e (zac he);have:=(zah.1 oS).1;omega
    rw[<-nD,LQ hg jE];rcases Ov hj h with⟨rfl,h1⟩|⟨re,h1⟩
    ·rw[if_pos (by omega),show oo+k'*s'+j' - (oo+k'*s')=j' by omega,<-e2,zag,h1];rfl
    ·rw[if_neg]
     ·exact q5 _ _ _ h1
     ·rintro⟨u1,u2⟩;rcases Nat.lt_or_gt_of_ne re with cC|Dk
      ·have:(k'+1)*s'<=j*s':=za5 _ cC;rw[Nat.add_mul] at this;omega
      ·have:(j+1)*s'<=k'*s':=za5 _ Dk;rw[Nat.add_mul] at this;omega
   ·rw[bR.oE] at bX⊢;rcases bX with⟨_,h2⟩|⟨k',j',c',h1,h2⟩
    ·exact .inl ⟨q1,h2⟩
    ·exact absurd h2 ((Sep.o8 (mz k' j' c' h1)).2 b')
   ·rw[PC.fN];show jQ _=true;rw[jQ,zaf];intro e he;obtain⟨e0,oQ,rfl⟩:=zaj.1 he;rw[iG,zaf];intro c0 gK;obtain⟨c1,JB,rfl⟩:=zaj.1 gK;obtain⟨k',dg⟩:=zam oQ;obtain⟨j',oS⟩:=zam JB;exact mz k' j' c1 ⟨e0,dg,oS⟩
   ·injection h1 with a1 a2 a3 a4;injection h2 with b1 b2 b3 b4;subst a1 a2 a3 a4 b1 b2 b3 b4;exact⟨rfl,rfl,rfl,by simp,fun h=>by cases h⟩
  have fV:∀b',b'≠b->w'.heap[b']? =w.heap[b']? :=fun b' bX=>by rw[<-nD];exact Ij b' bX
  have pR:∀b',Cz w w' b':=fun b'=>by
   by_cases hb:b'=b
   ·subst hb;rw[<-nD];exact LR hg jE
   ·exact Cz.of_eq (fV b' hb)
  have zd:w.heap.size<=w'.heap.size:=by rw[<-nD,wR];exact zau _
  have c8:σ.h n≠none:=by rw[hn];simp
  have hbn:(G.g n).b≠b:=fun h=>H.live n gr rs xs hn b hF n c8 bI h.symm;obtain⟨ex,uC⟩:∃ex,xs[k]? =some ex:=by
   cases h:xs[k]? with
   |none=>rw[h] at g3;cases g3
   |some ex=>exact⟨ex,rfl⟩
  have asE:aM=xs.set k (ex.set off (PC.list s' (some (ad b oo)) c (py.set j pe)).er):=by
   rw[<-hx,PC.fN,zbd,e1,zal,uC];rfl
  have Vi:=acz H hn p1 rfl (fun _=>fV _ hbn) (fun k' j' c' h1 h2 b' bX=>fV b' (by rintro rfl;exact hr.mode.2.2 _ _ _ _ _ _ b' h1 p1 h2 bX gU)) A uC;obtain⟨yw,K,_⟩:=H.QQ (G':=⟨G.Im,aX G.g n (BN (G.g n) (.nest n k off) (PC.list s' (some (ad b oo)) c (py.set j pe)))⟩) (h':=aX σ.h n (some (.row gr .live rs aM))) (w':=w') (S:=fun m=>m=n) zd
   (fun b' bX dE=>fV b' (by rintro rfl;exact dE n rfl (.inr hF))) (fun b' _=>pR b') rfl
   (fun m hm=>by subst hm;exact⟨gr,.live,rs,xs,aM,hn,cT _ _ _,by simp only[cT];rw[asE];exact Vi⟩)
   (fun m hm=>⟨dN _ _ _ _ hm,dN _ _ _ _ hm⟩)
  have r':=r.step (σ':=σ.fK n (.row gr .live rs aM)) rfl (fun _ h=>h) K yw (r.fr.one hBE (fun b' _ aR=>fV b' aR) zd (pR b) (by rw[<-nD];rfl) (by rw[<-nD];rfl) (by rw[<-nD];rfl));have c9:=Z6 (P:=P) (w:=w) (t:=t) (i:=i) (b:=b) (off:=oo+j*s') (v:=a.eval y) (cur:=cur) (e:=et) hi (by rw[dd,<-JZ];simp) hg (by simpa using jE) (fun u hu=>by
   obtain⟨j,hj,JL⟩:=List.getElem_of_mem hu;have Dm:j<vs.length:=by omega
   exact(di.2 j _ u (zad Dm) (by rw[zad hj,JL])).1)
  refine abp (w':=w') ?_ ⟨_,by rw[hd];exact r'⟩;rw[<-nD];simp only[execOp,ho,p4];simp[Instr.storeAt,Instr.sureAddr,c9]
 ·cases hx
end
section
variable {B:Nat} {E:Ex} {w0 w w':World} {G G':Gh} {N:Nat} {h h':Nat->Option aK} {used:Nat->Bool}
variable {P:Program} {o:Oper} {a:Act} {σ σ':St} {Q:Exit->Act->World->Prop}
theorem R.aq9 (r:R B E w0 N σ a w G) {n:Nat} {gr:Bool} {m:Mode} {xs:List (List C)} (hn:σ.h n=some (.row gr m 1 xs)) (hm:m≠ .aV) (hs:jQ xs=true) (bI:(G.g n).nl=false) {lo:Nat} {pe:List PC}
  (tt:∀c∈pe,c.er.gV=true) (jE:lo+pe.length<=xs.length) {cur:Array Value} {et:TypeId} (hg:w.heap[(G.g n).b]? =some (.cells cur et (0,0))) (rU:(G.g n).o+lo+pe.length<=cur.size):
  ∃G',R B E w0 N (σ.fK n (.row gr m 1 (dM xs lo (pe.map fun c=>[c.er])))) a (jA w (G.g n).b ((G.g n).o+lo) (pe.map PC.val) cur) G':=by
 have H:=r.hr;have hr:=H.row n gr m 1 xs hn;have c8:σ.h n≠none:=by rw[hn];simp
 obtain⟨y7,xx,y8⟩:=H.own n c8 bI;obtain⟨l1,l2,l3⟩:=hr.gd bI;have ot:xs.length=(G.g n).px.length:=by rw[hr.er,zaH]
 have oV:=hs;rw[hr.er] at oV;have yX:=hr.er;generalize je:(G.g n).px=px at*
 have Vq:lo+(pe.map fun c=>[c]).length<=px.length:=by rw[zaH];omega
 have pU:(pe.map PC.val).length=pe.length:=zaH _;have afq:(G.g n).o+lo+(pe.map PC.val).length<=cur.size:=by rw[pU];exact rU
 have cN:∀k j c,At (dM px lo (pe.map fun c=>[c])) k j c->j=0/\((lo<=k/\k<lo+pe.length/\pe[k - lo]? =some c)\/(¬(lo<=k/\k<lo+pe.length)/\At px k j c)):=by
  rintro k j c ⟨e,he,hj⟩;rw[B8 Vq,zaH] at he;by_cases gU:lo<=k/\k<lo+pe.length
  ·rw[if_pos gU,zag] at he;cases hp:pe[k - lo]? with
   |none=>rw[hp] at he;cases he
   |some c0=>
    rw[hp] at he;injection he with he;subst he;cases j with
    |zero=>simp at hj;subst hj;exact⟨rfl,.inl ⟨gU.1,gU.2,rfl⟩⟩
    |succ j=>simp at hj
  ·rw[if_neg gU] at he;have ra:=l2.1 e (zac he);have:=(zah.1 hj).1;exact⟨by omega,.inr ⟨gU,e,he,hj⟩⟩
 have mz:∀k j c,At (dM px lo (pe.map fun c=>[c])) k j c->c.er.gV=true:=by
  intro k j c hk;rcases(cN k j c hk).2 with⟨_,_,h1⟩|⟨_,e,he,hj⟩
  ·exact tt c (zac h1)
  ·have h6:=zaf.1 oV (e.map PC.er) (by simp only[zaj];exact⟨e,zac he,rfl⟩);exact zaf.1 h6 c.er (by simp only[zaj];exact⟨c,zac hj,rfl⟩)
 generalize nD:jA w (G.g n).b ((G.g n).o+lo) (pe.map PC.val) cur=w';have fV:∀b',b'≠(G.g n).b->w'.heap[b']? =w.heap[b']? :=fun b' bX=>by rw[<-nD];exact Ij b' bX
 have pR:∀b',Cz w w' b':=fun b'=>by
  by_cases hb:b'=(G.g n).b
  ·subst hb;rw[<-nD];exact LR hg afq
  ·exact Cz.of_eq (fV b' hb)
 have zd:w.heap.size<=w'.heap.size:=by rw[<-nD,wR];exact zau _
 have Vi:LW w' (G.g n) {G.g n with px:=dM px lo (pe.map fun c=>[c])} gr m 1 (dM xs lo (pe.map fun c=>[c.er])):=by
  refine⟨hm,.inl (by rw[je];exact adT oV),rfl,rfl,rfl,rfl,rfl,?_,(fun h=>by rw[bI] at h;cases h),fun _=>⟨⟨fun e he=>?_,fun k j c hk=>?_,fun k j c hk=>Good.o8 (mz k j c hk)⟩,by show(dM px lo _).length<=_;rw[RL Vq];exact l3⟩,
   ⟨fun k j c hk=>(Sep.o8 (mz k j c hk)).1,fun k j c k' j' c' b hk _ _ hb=>absurd hb ((Sep.o8 (mz k j c hk)).2 b)⟩,fun b ⟨k,j,c,hk,hb⟩=>absurd hb ((Sep.o8 (mz k j c hk)).2 b),fun _ k j pc hk hL=>?_⟩
  ·show dM xs lo _=(dM px lo _).map _;rw[HW,<-yX,zaO];rfl
  ·obtain⟨k,hk⟩:=zam he;have dg:(dM px lo (pe.map fun c=>[c]))[k]? =some e:=hk;rw[B8 Vq] at dg;split at dg
   ·rw[zag] at dg;cases hp:pe[k - lo]? with
    |none=>rw[hp] at dg;cases dg
    |some c0=>rw[hp] at dg;injection dg with dg;rw[<-dg];rfl
   ·exact l2.1 e (zac dg)
  ·obtain⟨rfl,h1⟩:=cN k j c hk;rw[<-nD,LQ hg afq];rcases h1 with⟨h1,h2,h3⟩|⟨h1,h2⟩
   ·rw[if_pos (by rw[pU];omega),show(G.g n).o+k*1+0 - ((G.g n).o+lo)=k - lo by omega,zag,h3];rfl
   ·rw[if_neg (by rw[pU];omega)];exact l2.2.1 _ _ _ h2
  ·rw[je] at hk;have:=adU oV hk;rw[hL] at this;cases this
 obtain⟨yw,K,_⟩:=H.QQ (G':=⟨G.Im,aX G.g n {G.g n with px:=dM px lo (pe.map fun c=>[c])}⟩) (h':=aX σ.h n (some (.row gr m 1 (dM xs lo (pe.map fun c=>[c.er]))))) (w':=w') (S:=fun q=>q=n) zd
  (fun b' bX dE=>fV b' (by rintro rfl;exact dE n rfl (.inl ⟨bI,rfl⟩))) (fun b' _=>pR b') rfl
  (fun q hq=>by subst hq;exact⟨gr,m,1,xs,_,hn,cT _ _ _,by simp only[cT];exact Vi⟩)
  (fun q hq=>⟨dN _ _ _ _ hq,dN _ _ _ _ hq⟩)
 exact⟨_,r.step (σ':=σ.fK n (.row gr m 1 (dM xs lo (pe.map fun c=>[c.er])))) rfl (fun _ h=>h) K yw (r.fr.one xx (fun b' _ aR=>fV b' aR) zd (pR _) (by rw[<-nD];rfl) (by rw[<-nD];rfl) (by rw[<-nD];rfl))⟩
end
section
variable {B:Nat} {E:Ex} {w0 w w':World} {G G':Gh} {N:Nat} {h h':Nat->Option aK} {used:Nat->Bool}
variable {P:Program} {o:Oper} {a:Act} {σ σ':St} {Q:Exit->Act->World->Prop}
theorem aBP {n:Nat} {b:aK} (hn:σ.h n=some b):σ.fK n b=σ:=by
 unfold St.fK;rw[<-hn,LM]
theorem aCk {α:Type} (xs:List α) (lo:Nat) (h:lo<=xs.length):dM xs lo []=xs:=by simp[dM]
theorem aDz (z0:Value) (n:Nat):(Builtin.zeroCells #[z0] n).toList=List.replicate n z0:=by
 unfold Builtin.zeroCells;simp;rw[List.eq_replicate_iff];refine⟨by simp,fun b hb=>?_⟩;obtain⟨i,_,rfl⟩:=zaj.1 hb;simp[Nat.mod_one]
theorem aBo {t ty e:TypeId} (ht:P.underlying t=some (.slice e)) (ya:Option Addr) (c:Nat):
  (Builtin.clear_ #[t] ty #[.slice ya 0 c]).run P w=.ok (.tuple #[]) w:=by
 cases ya<;>simp[Builtin.clear_,run_underlying ht]
theorem aBn {t ty e e':TypeId} {i:TypeInfo} {z z0:Value} (ht:P.underlying t=some (.slice e)) (hi:P.info? e=some i) (hz:i.zero=some z) (zi:z.cells=#[z0]) (h1:z0.oneCell'=true) (g og n c:Nat) (hn:0<n) (cur:Array Value) (hg:w.heap[g]? =some (.cells cur e' (0,0)))
  (jE:og+n<=cur.size):(Builtin.clear_ #[t] ty #[.slice (some (ad g og)) n c]).run P w=.ok (.tuple #[]) (jA w g og (List.replicate n z0) cur):=by
 have nA:=run_storeCells_at P g og e' (List.replicate n z0) 0 cur w hg (by simpa using jE) (fun v hv=>by rw[(za7.1 hv).2];exact h1);simp only[Nat.add_zero] at nA;obtain⟨n,rfl⟩:∃k,n=k+1:=⟨n - 1,by omega⟩;simp[Builtin.clear_,run_underlying ht,typeInfo,zeroValue,hi,hz,zi,aDz,ad,nA,jA]
theorem ape (r:R B E w0 N σ a w G) {t e:TypeId} {i:TypeInfo} {z:Value} {x:Operand} {mx:MO} {n lo len:Nat} {zc:C} {xs:List (List C)} {gr:Bool} {m:Mode} (ho:o.op=.call {callee:=.builtin .clear,args:=#[x],argTypes:=#[t]}) (hN:∀n,o.dst=some n->n<N)
  (mR:df x mx=true) (ht:P.underlying t=some (.slice e)) (hi:P.info? e=some i) (hz:i.zero=some z) (hc:yF z.cells.toList [zc]=true) (Du:zc.gV=true) (hx:σ.ev mx=.one (.sl n 1 lo len)) (hn:σ.h n=some (.row gr m 1 xs))
  (hm:m≠ .aV) (hs:jQ xs=true) (jE:lo+len<=xs.length):
  o.wp P a w (Nx B E w0 N ((σ.fK n (.row gr m 1 (dM xs lo (List.replicate len [zc])))).put o.dst (.cF []))) Q:=by
 have H:=r.hr;obtain⟨x1,_⟩:=r.ev mR;rw[hx] at x1;have lv:nh (G.g n) 1 lo len (a.eval x):=(x1.kO (by simp)).1 (by rw[hn];simp);have hr:=H.row n gr m 1 xs hn;obtain⟨b1,b2,b3⟩:=TZ (w:=w) hc;have Jt:∀w G' h',RA w G' h' (.cF []) (.tuple #[]):=fun w G' h'=>⟨[],rfl,rfl,by simp⟩;have zi:z.cells=#[(pw zc).val]:=by
  apply zaw;rw[<-b2];rfl
 rcases Nat.eq_zero_or_pos len with rfl|hlen
 ·have Vn:∃ya' c,a.eval x=.slice ya' 0 c:=by
   rcases lv with⟨bI,hv,_,_⟩|⟨bI,a',hv,_,_⟩
   ·exact⟨_,_,hv⟩
   ·exact⟨_,_,hv⟩
  obtain⟨ya',c,Vn⟩:=Vn;rw[show dM xs lo (List.replicate 0 [zc])=xs from aCk _ _ (by omega),aBP hn]
  refine lK r (v:=.tuple #[]) ?_ (Jt _ _ _) (fun q hq=>?_) hN
  ·simp only[execOp,ho];simp[resolve,invoke,builtin,Vn,aBo ht]
  ·obtain⟨x,hx,_⟩:=hq;simp at hx
 ·rcases lv with⟨_,_,_,rfl⟩|⟨bI,a',nC,mr,ha⟩
  ·omega
  have AX:=ha (.inl (by omega));subst AX;obtain⟨⟨cur,et,hg⟩,l2,l3⟩:=hr.gd bI;have ot:xs.length=(G.g n).px.length:=by rw[hr.er,zaH]
  have rU:(G.g n).o+lo+len<=cur.size:=by
   have h1:lo+len - 1<(G.g n).px.length:=by omega
   have h2:((G.g n).px[lo+len - 1]'h1).length=1:=l2.1 _ (zbe h1);have hc:=l2.2.1 (lo+len - 1) 0 (((G.g n).px[lo+len - 1]'h1)[0]'(by omega)) ⟨_,zad h1,zad _⟩;have:=OE hg hc;omega
  have yX:(pw zc).er=zc:=by simpa using b1
  obtain⟨G',r'⟩:=r.aq9 hn hm hs bI (lo:=lo) (pe:=List.replicate len (pw zc)) (fun c hc=>by rw[(za7.1 hc).2,yX];exact Du) (by rw[zaX];exact jE) hg (by rw[zaX];exact rU);rw[za8,za8,yX] at r';have c9:=aBn (P:=P) (w:=w) (ty:=o.type) ht hi hz zi (PC.qg _) (G.g n).b ((G.g n).o+lo) len ((G.g n).cap - lo) hlen cur hg rU;refine Ci (w':=jA w (G.g n).b ((G.g n).o+lo) (List.replicate len (pw zc).val) cur) (v:=.tuple #[]) ?_ ⟨G',r'.put (Jt _ _ _) (fun q hq=>by obtain⟨x,hx,_⟩:=hq;simp at hx) hN⟩;rw[Nat.mul_one] at nC;simp only[execOp,ho];simp[resolve,invoke,builtin,nC,c9]
end
structure Tn (w:World) (ds:List Dv) (vals:List Value) (pas:List PA):Prop where
 l1:vals.length=ds.length
 l2:pas.length=ds.length
 at_:∀(i:Nat) (d:Dv) (v:Value) (p:PA),ds[i]? =some d->vals[i]? =some v->pas[i]? =some p->EL w d v p
 kS:∀p∈pas,p.k=.ptr->fL w p.b/\∀q∈pas,∀pc∈q.ps,¬bR p.b pc
 one:∀(i j:Nat) (p q:PA),pas[i]? =some p->pas[j]? =some q->p.k=.ptr->q.k=.ptr->i=j
def Fo (w:World) (pas:List PA) (b:Nat):Prop:=w.heap.size<=b\/∃q∈pas,∃pc∈q.ps,bR b pc
def exV (pas:List PA):Ex:=⟨fun b=>∃p∈pas,p.k=.ptr/\b=p.b,fun _=>none,fun _ _ h=>(by cases h),fun _=>True⟩
def Eh (p:PA):Value:=
 match p.k with
 |.one=>match p.ps with
  |[pc]=>pc.val
  |_=>.agg (p.ps.map PC.val).toArray
 |.agg=>.agg (p.ps.map PC.val).toArray
 |.ptr=>.pointer (some (ad p.b p.o))
def Ei:List PA->Value
 |[p]=>Eh p
 |l=>.tuple (l.map Eh).toArray
def MI (w:World) (b o:Nat) (ps:List PC):Prop:=∀(j:Nat) (c:PC),ps[j]? =some c->w.cell? (ad b (o+j))=some c.val
structure Tm (w w':World) (pas bO:List PA) (qs:List PC):Prop where
 one:∀p∈bO,p.k=.one->p.ps.length=1
 ptr:∀p∈bO,p.k=.ptr->bO.length=1/\w.heap.size<=p.b/\fL w' p.b/\MI w' p.b p.o p.ps/\(∀pc∈p.ps,¬bR p.b pc)/\∀pc∈qs,¬bR p.b pc
 gF:∀p∈bO,∀pc∈p.ps,Good w' pc/\∀b,bR b pc->Fo w pas b
 fr:Fr w.heap.size (exV pas) w w'
 out:∀pc∈qs,Good w' pc/\∀b,bR b pc->Fo w pas b
 at_:∀p∈pas,p.k=.ptr->MI w' p.b p.o qs
def mL (P:Program) (f:FuncId) (M:List Dv->Option (List Dv×List C)):Prop:=
 ∀ds rs out,M ds=some (rs,out)->∀(w:World) (vals:List Value) (pas:List PA),Tn w ds vals pas->Calls P f vals.toArray w fun e w'=>
  ∃(bO:List PA) (qs:List PC),bO.map (fun p=>(p.k,p.ps.map PC.er))=rs/\e=.returned (Ei bO)/\qs.map PC.er=out/\Tm w w' pas bO qs
def Fm (P:Program) (T:br):Prop:=∀f M,br.n7 T.vs f=some M->mL P f M
section
variable {B:Nat} {E:Ex} {w0 w w':World} {G G':Gh} {N:Nat} {h h':Nat->Option aK} {used used':Nat->Bool} {tk:List PC}
variable {P:Program} {o:Oper} {a:Act} {σ σ':St} {Q:Exit->Act->World->Prop}
theorem HR.se {c:ao} {x:C} {v:Value} (hx:Am.se c=some x) (hc:RC w G h c v):∃pc:PC,pc.er=x/\pc.val=v/\Good w pc/\∀b,bR b pc->G.Im b:=by
 cases c with
 |c y=>
  simp only[Am.se] at hx;injection hx with hx;subst hx;exact hc
 |nil sz=>
  simp only[Am.se] at hx;split at hx
  ·rename_i fO;injection hx with hx;subst hx;have dJ:v=.slice none 0 0:=hc;subst dJ;refine⟨.list sz none 0 [],by simp[PC.fN],rfl,.nil _ _ _ fO,fun b hb=>?_⟩;rw[bR.oE] at hb;rcases hb with⟨hb,_⟩|⟨k,j,c,⟨e,he,_⟩,_⟩
   ·exact absurd rfl hb
   ·simp at he
  ·cases hx
 |_=>simp[Am.se] at hx
theorem HR.mV:∀{cs:List ao} {xs:List C} {vs:List Value},Am.mV cs=some xs->eO w G h cs vs->∃ps:List PC,ps.map PC.er=xs/\ps.map PC.val=vs/\∀pc∈ps,Good w pc/\∀b,bR b pc->G.Im b
 |[],xs,vs,hx,hc=>by
  simp only[Am.mV] at hx;injection hx with hx;subst hx;have:vs=[]:=zap (by simpa using hc.1);subst this;exact⟨[],rfl,rfl,by simp⟩
 |c::cs,xs,vs,hx,hc=>by
  simp only[Am.mV] at hx;split at hx
  ·rename_i x aM e1 e2;injection hx with hx;subst hx;match vs,hc.1 with
   |v::vs,hl=>
    obtain⟨pc,a1,a2,a3,a4⟩:=HR.se e1 (hc.2 0 c v rfl rfl).2;obtain⟨ps,b1,b2,b3⟩:=HR.mV (vs:=vs) e2 ⟨by simpa using hl,fun j c u h1 h2=>hc.2 (j+1) c u h1 h2⟩;refine⟨pc::ps,by simp[a1,b1],by simp[a2,b2],fun q hq=>?_⟩;cases hq with
    |head=>exact⟨a3,a4⟩
    |tail _ hq=>exact b3 q hq
  ·cases hx
theorem HR.OA (H:HR B E w G h used tk) {n:Nat} {cs:List ao} (hn:h n=some (.box cs)):∃vs:List Value,eO w G h cs vs/\∀(j:Nat) (v:Value),vs[j]? =some v->w.cell? (ad (G.g n).b ((G.g n).o+j))=some v:=by
 obtain⟨_,_,a3⟩:=H.box n cs hn;have hj:∀j:Fin cs.length,∃v,w.cell? (ad (G.g n).b ((G.g n).o+j.1))=some v/\v.oneCell'=true/\RC w G h cs[j.1] v:=fun j=>a3 j.1 _ (zad j.2);refine⟨List.ofFn fun j=>Classical.choose (hj j),⟨by simp,fun j c u hc hu=>?_⟩,fun j v hv=>?_⟩
 ·obtain⟨hl,e⟩:=zah.1 hc;rw[za9,dif_pos hl] at hu;injection hu with hu;subst hu e;exact(zaY (hj ⟨j,hl⟩)).2
 ·by_cases hl:j<cs.length
  ·rw[za9,dif_pos hl] at hv;injection hv with hv;subst hv;exact(zaY (hj ⟨j,hl⟩)).1
  ·rw[zaZ (by simp;omega)] at hv;cases hv
theorem aCT {σ1:St} {c:ao} {x:C} {o:Bool} (hx:σ.iY c=some (x,o,σ1)) {n:Nat} {cs:List ao} (hn:σ.h n=some (.box cs)):σ1.h n=some (.box cs):=by
 cases c with
 |c y=>simp only[St.iY] at hx;injection hx with hx;injection hx with _ hx;injection hx with _ hx;subst hx;exact hn
 |nil sz=>
  simp only[St.iY] at hx;split at hx
  ·injection hx with hx;injection hx with _ hx;injection hx with _ hx;subst hx;exact hn
  ·cases hx
 |sl q sz lo len=>
  simp only[St.iY] at hx;split at hx
  ·rename_i gr m rs xs hq;split at hx
   ·injection hx with hx;injection hx with _ hx;injection hx with _ hx;subst hx;have aR:n≠q:=by rintro rfl;rw[hq] at hn;cases hn
    show aX σ.h q none n=_;rw[dN _ _ _ _ aR];exact hn
   ·cases hx
  ·cases hx
 |_=>simp[St.iY] at hx
theorem abc:∀{l:List ao} {σ σ1:St} {xs:List C} {o:Bool},σ.iz l=some (xs,o,σ1)->∀{n:Nat} {cs:List ao},σ.h n=some (.box cs)->σ1.h n=some (.box cs)
 |[],σ,σ1,xs,o,hx,n,cs,hn=>by simp only[St.iz] at hx;injection hx with hx;injection hx with _ hx;injection hx with _ hx;subst hx;exact hn
 |c::l,σ,σ2,xs,o,hx,n,cs,hn=>by
  simp only[St.iz] at hx;split at hx
  ·rename_i x o1 σ1 e1;split at hx
   ·rename_i aM o2 abt e2;injection hx with hx;injection hx with _ hx;injection hx with _ hx;subst hx;exact abc e2 (aCT e1 hn)
   ·cases hx
  ·cases hx
theorem Tz:∀{as:List aA} {σ σ1:St} {ds:List Dv} {ns:List Nat},σ.kf as=some (ds,ns,σ1)->∀{n:Nat} {cs:List ao},σ.h n=some (.box cs)->σ1.h n=some (.box cs)
 |[],σ,σ1,ds,ns,hx,n,cs,hn=>by simp only[St.kf] at hx;injection hx with hx;injection hx with _ hx;injection hx with _ hx;subst hx;exact hn
 |v::as,σ,σ2,ds,ns,hx,n,cs,hn=>by
  simp only[St.kf] at hx;split at hx
  ·split at hx
   ·rename_i e;injection hx with hx;injection hx with _ hx;injection hx with _ hx;subst hx;exact Tz e hn
   ·cases hx
  ·split at hx
   ·split at hx
    ·rename_i e1;split at hx
     ·rename_i e2;injection hx with hx;injection hx with _ hx;injection hx with _ hx;subst hx;exact Tz e2 (abc e1 hn)
     ·cases hx
    ·cases hx
   ·cases hx
def pL (pas:List PA):List PA:=pas.filter fun p=>decide (p.k=.ptr)
def abu (G:Gh) (h:Nat->Option aK) (p:PA) (n:Nat):Prop:=∃cs,h n=some (.box cs)/\p.b=(G.g n).b/\p.o=(G.g n).o/\p.ps.length=cs.length
theorem TC {v:aA} {n:Nat} {xs:List C} (hx:pE h v=some (n,xs)):∃sz cs,v=.one (.ptr n 0 sz 0)/\h n=some (.box cs)/\mV cs=some xs:=by
 unfold pE at hx;split at hx
 ·rename_i q k sz off;split at hx
  ·rename_i hc;obtain⟨rfl,rfl⟩:=hc;split at hx
   ·rename_i cs hq;split at hx
    ·rename_i ys e;injection hx with hx;injection hx with h1 h2;subst h1 h2;exact⟨sz,cs,rfl,hq,e⟩
    ·cases hx
   ·cases hx
  ·cases hx
 ·cases hx
theorem HR.kf:∀{as:List aA} {vals:List Value} {σ σ1:St} {G:Gh} {ds:List Dv} {ns:List Nat},HR B E w G σ.h σ.used []->σ.kf as=some (ds,ns,σ1)->vals.length=as.length->
  (∀(j:Nat) (x:aA) (v:Value),as[j]? =some x->vals[j]? =some v->RA w G σ.h x v)->(∀x∈as,∀m,x.ref m->σ.used m=true)->
  ∃(Im':Nat->Prop) (pas:List PA),pas.length=ds.length/\vals.length=ds.length/\(∀(i:Nat) (d:Dv) (v:Value) (p:PA),ds[i]? =some d->vals[i]? =some v->pas[i]? =some p->EL w d v p)/\
   (∀p∈pas,∀pc∈p.ps,∀b,bR b pc->Im' b)/\(pL pas).length=ns.length/\(∀(i:Nat) (p:PA) (n:Nat),(pL pas)[i]? =some p->ns[i]? =some n->abu G σ1.h p n)/\
   HR B E w ⟨Im',G.g⟩ σ1.h σ1.used []/\cr w G σ.h (fun n=>σ.used n=true) w ⟨Im',G.g⟩ σ1.h/\σ1.env=σ.env/\σ1.used=σ.used
 |[],vals,σ,σ1,G,ds,ns,H,hx,hl,hc,hr=>by
  simp only[St.kf] at hx;injection hx with hx;injection hx with h1 h2;injection h2 with h2 h3;subst h1 h2 h3;exact⟨G.Im,[],rfl,by simpa using hl,by simp,by simp,rfl,by simp[pL],H,cr.refl _ _ _ _,rfl,rfl⟩
 |x::as,vals,σ,σ2,G,ds,ns,H,hx,hl,hc,hr=>by
  match vals,hl with
  |v::vals,hl=>
   simp only[St.kf] at hx;split at hx
   ·rename_i n xs hp;split at hx
    ·rename_i yK nO σ1 e;injection hx with hx;injection hx with h1 h2;injection h2 with h2 h3;subst h1 h2 h3;obtain⟨sz,cs,rfl,hn,uD⟩:=TC hp;obtain⟨nl,un,_⟩:=H.box n cs hn;obtain⟨vs,v1,v2⟩:=H.OA hn;obtain⟨ps,p1,p2,p3⟩:=HR.mV uD v1;have hv:v=.pointer (some (ad (G.g n).b (G.g n).o)):=by
      have h0:=hc 0 _ v rfl rfl;rcases h0 with h0|h0
      ·cases h0
      ·have h1:RC w G σ.h (.ptr n 0 sz 0) v:=(h0.2 0 _ v rfl rfl).2;simpa using(h1 (by rw[hn];simp)).2
     obtain⟨Im',pas,b1,b2,b3,b4,b5,b6,b7,b8,b9,qp⟩:=HR.kf (as:=as) (vals:=vals) H e (by simpa using hl) (fun j x v h1 h2=>hc (j+1) x v h1 h2) (fun x hx=>hr x (by simp[hx]));have hk:(Am.K.ptr=Am.K.ptr)=True:=by simp
     refine⟨Im',⟨.ptr,ps,(G.g n).b,(G.g n).o⟩::pas,by simp[b1],by simp[b2],fun i d u p hd hu g9=>?_,fun p g9 pc bU b hb=>?_,by simp[pL];exact b5,fun i p m hi hm=>?_,b7,b8,b9,qp⟩
     ·cases i with
      |zero=>
       simp at hd hu g9;subst hd hu g9;refine⟨by rw[p1],fun pc bU=>(p3 pc bU).1,hv,un.lt,fun j c hj=>v2 j _ ?_⟩;rw[<-p2,zag,hj];rfl
      |succ i=>exact b3 i d u p (by simpa using hd) (by simpa using hu) (by simpa using g9)
     ·cases g9 with
      |head=>exact b8.im b ((p3 pc bU).2 b hb)
      |tail _ g9=>exact b4 p g9 pc bU b hb
     ·cases i with
      |zero=>
       simp[pL] at hi hm;subst hi hm;refine⟨cs,Tz e hn,rfl,rfl,?_⟩;have h1:ps.length=vs.length:=by rw[<-p2];simp
       exact h1.trans v1.1
      |succ i=>exact b6 i p m (by simpa[pL] using hi) (by simpa using hm)
    ·cases hx
   ·split at hx
    ·rename_i ag cs gY;split at hx
     ·rename_i xs o σ1 e1;split at hx
      ·rename_i yK nO abt e2;injection hx with hx;injection hx with h1 h2;injection h2 with h2 h3;subst h1 h2 h3;have h0:=hc 0 x v rfl rfl;have fU:∃vs:List Value,(if ag=true then v=.agg vs.toArray else vs=[v])/\eO w G σ.h cs vs:=by
        cases x with
        |one c=>
         have PL:ag=false/\cs=[c]:=by cases c<;>simp[aA.cells?] at gY<;>exact⟨gY.1,gY.2.symm⟩
         obtain⟨rfl,rfl⟩:=PL;rcases h0 with h0|h0
         ·subst h0;simp[aA.cells?] at gY
         ·exact⟨[v],rfl,h0⟩
        |agg cs'=>
         simp[aA.cells?] at gY;obtain⟨rfl,rfl⟩:=gY;obtain⟨vs,e,h1⟩:∃vs:List Value,v=.agg vs.toArray/\eO w G σ.h cs' vs:=h0;exact⟨vs,e,h1⟩
        |cF xs=>simp[aA.cells?] at gY
       obtain⟨vs,lP,di⟩:=fU;obtain⟨CE,cH,a1,a2,a3,a5,a6,a7,a8,a9⟩:=H.iz e1 di (fun c' dJ m hm=>hr x (by simp) m (aA.CR gY dJ hm));have Av:HR B E w ⟨CE,G.g⟩ σ1.h σ.used []:=by
        cases o with
        |true=>exact HR.Cc (tk:=[]) (l:=cH) (by simpa using a5)
        |false=>simpa using a5
       rw[<-a8] at Av;obtain⟨Iu,pas,b1,b2,b3,b4,b5,b6,b7,b8,b9,qp⟩:=HR.kf (as:=as) (vals:=vals) (G:=⟨CE,G.g⟩) Av e2 (by simpa using hl)
        (fun j x v h1 h2=>(hc (j+1) x v h1 h2).fu a6 (fun m hm=>hr x (by simp[zac h1]) m hm)) (fun x' kF m hm=>by rw[a8];exact hr x' (by simp[kF]) m hm)
       refine⟨Iu,⟨if ag=true then .agg else .one,cH,0,0⟩::pas,by simp[b1],by simp[b2],fun i d u p hd hu g9=>?_,fun p g9 pc bU b hb=>?_,?_,fun i p m hi hm=>?_,b7,
        cr.trans (fun n hn=>by rw[a8];exact hn) a6 b8,b9.trans a7,qp.trans a8⟩
       ·cases i with
        |zero=>
         simp at hd hu g9;subst hd hu g9;cases ag with
         |true=>exact⟨by simp[a1],fun pc bU=>(a3 pc bU).1,by simp only[if_true] at lP⊢;rw[a2];exact lP⟩
         |false=>exact⟨by simp[a1],fun pc bU=>(a3 pc bU).1,by simp only[zaI,if_false] at lP⊢;rw[a2];exact lP⟩
        |succ i=>exact b3 i d u p (by simpa using hd) (by simpa using hu) (by simpa using g9)
       ·cases g9 with
        |head=>exact b8.im b ((a3 pc bU).2 b hb)
        |tail _ g9=>exact b4 p g9 pc bU b hb
       ·cases ag<;>simp[pL]<;>exact b5
       ·refine b6 i p m ?_ hm;cases ag<;>simpa[pL] using hi
      ·cases hx
     ·cases hx
    ·cases hx
theorem HR.acp (H:HR B E w G h used []) {n:Nat} {cs cs':List ao} (hn:h n=some (.box cs)) (dd:w.heap.size<=w'.heap.size) (hw:∀b,b<w.heap.size->b≠(G.g n).b->w'.heap[b]? =w.heap[b]?)
  (pR:∀b,b<w.heap.size->Cz w w' b) {S:Nat->Prop} (hS:∀b,S b->w.heap.size<=b/\b<w'.heap.size/\B<=b) {ps:List PC} (ig:cs'=ps.map fun pc=>ao.c pc.er)
  (cY:∀(j:Nat) (c:PC),ps[j]? =some c->w'.cell? (ad (G.g n).b ((G.g n).o+j))=some c.val) (jc:∀pc∈ps,Good w' pc/\∀b,bR b pc->G.Im b\/S b):
  HR B E w' ⟨fun b=>G.Im b\/S b,G.g⟩ (aX h n (some (.box cs'))) used []/\cr w G h (fun n=>used n=true) w' ⟨fun b=>G.Im b\/S b,G.g⟩ (aX h n (some (.box cs'))):=by
 subst ig;have c8:h n≠none:=by rw[hn];simp
 obtain⟨bI,xC,kD⟩:=H.box n cs hn;obtain⟨y7,xx,y8⟩:=H.own n c8 bI;have Bk:=H.lI n c8;have kp:∀OU:List ao,cr w G h (fun n=>used n=true) w' G (aX h n (some (.box OU))):=by
  intro OU;refine⟨fun _ h=>h,fun b hb x=>lG (hw b (H.jM b hb) (fun he=>y7 (he▸hb))) x,fun m hm h0=>?_,fun m gr sz xs hm h0=>?_⟩
  ·by_cases cO:m=n
   ·subst cO;exact⟨c8,rfl,rfl,rfl,rfl,rfl⟩
   ·rw[dN _ _ _ _ cO] at h0;exact⟨h0,rfl,rfl,rfl,rfl,rfl⟩
  ·by_cases cO:m=n
   ·subst cO;rw[cT] at h0;cases h0
   ·rw[dN _ _ _ _ cO] at h0;exact⟨⟨gr,xs,h0⟩,fun k j pc h1 h2=>⟨pc,h1,rfl,h2⟩⟩
 have hG:(⟨G.Im,aX G.g n (G.g n)⟩:Gh)=G:=by rw[LM]
 have H1:HR B E w' ⟨G.Im,aX G.g n (G.g n)⟩ (aX h n (some (.box []))) used []:=by
  refine H.put (fun b hb aR=>hw b hb (aR bI)) dd (fun b hb hU=>(pR b hb).kS hU) (fun _ h=>h) Bk (fun _=>⟨y7,xx,zax y8 dd⟩)
   (fun _ m hm h0 pS=>(H.inj m n h0 c8 hm pS bI)) (fun _ m gr sz xs hm h0 b hb=>H.live m gr sz xs h0 b hb n c8 bI) ?_ (by rw[hG];exact kp []) ?_
   (fun gr m sz xs hb=>by cases hb) (fun gr sz xs hb=>by cases hb) (fun gr m sz xs hb=>by cases hb) ?_
  ·intro OU c m hb hc hm;injection hb with hb;subst hb;cases hc
  ·exact⟨bI,(pR _ y8).kS xC,fun j c hj=>by simp at hj⟩
  ·intro _ _ b hb;obtain⟨m,gr,mo,sz,xs,hm,h0,eI⟩:=hb;exact H.AP c8 bI h0 eI
 rw[hG] at H1;have VU:∀m,aX h n (some (aK.box [])) m≠none->h m≠none:=fun m hm=>by
  by_cases cO:m=n
  ·subst cO;exact c8
  ·rwa[dN _ _ _ _ cO] at hm
 have H2:HR B E w' ⟨fun b=>G.Im b\/S b,G.g⟩ (aX h n (some (.box []))) used []:=H1.xN S (fun b hb=>(hS b hb).2.1) (fun b hb q hq hl he=>by have:=(hS b hb).1;have:=(H.own q (VU q hq) hl).2.2;omega)
  (fun b hb q gr sz xs hq hF=>by
   by_cases iJ:q=n
   ·subst iJ;rw[cT] at hq;cases hq
   ·rw[dN _ _ _ _ iJ] at hq;have:=(hS b hb).1;have:=H.wH hq hF;omega) (fun b hb=>.inl (hS b hb).2.2)
 have hn2:aX h n (some (aK.box [])) n=some (.box []):=cT _ _ _;have JP:aX h n (some (aK.box [])) n≠none:=by rw[hn2];simp
 have huu:aX (aX h n (some (aK.box []))) n (some (.box (ps.map fun pc=>ao.c pc.er)))=aX h n (some (.box (ps.map fun pc=>ao.c pc.er))):=by
  funext m;simp only[ma];split<;>rfl
 have hG2:(⟨fun b=>G.Im b\/S b,aX G.g n (G.g n)⟩:Gh)=⟨fun b=>G.Im b\/S b,G.g⟩:=by rw[LM]
 have K2:cr w' ⟨fun b=>G.Im b\/S b,G.g⟩ (aX h n (some (aK.box []))) (fun n=>used n=true) w' ⟨fun b=>G.Im b\/S b,G.g⟩ (aX h n (some (.box (ps.map fun pc=>ao.c pc.er)))):=by
  refine⟨fun _ h=>h,fun _ _ _=>rfl,fun m hm h0=>?_,fun m gr sz xs hm h0=>?_⟩
  ·refine⟨?_,rfl,rfl,rfl,rfl,rfl⟩;by_cases cO:m=n
   ·subst cO;exact JP
   ·rw[dN _ _ _ _ cO] at h0⊢;exact h0
  ·by_cases cO:m=n
   ·subst cO;rw[cT] at h0;cases h0
   ·rw[dN _ _ _ _ cO] at h0;exact⟨⟨gr,xs,by rw[dN _ _ _ _ cO];exact h0⟩,fun k j pc h1 h2=>⟨pc,h1,rfl,h2⟩⟩
 have H3:HR B E w' ⟨fun b=>G.Im b\/S b,aX G.g n (G.g n)⟩ (aX (aX h n (some (aK.box []))) n (some (.box (ps.map fun pc=>ao.c pc.er)))) used []:=by
  refine H2.put (w':=w') (fun _ _ _=>rfl) (zau _) (fun _ _ hU=>hU) (fun _ h=>h) Bk (fun _=>⟨fun hi=>(H2.own n JP bI).1 hi,xx,zax y8 dd⟩)
   (fun _ m hm h0 pS=>H2.inj m n h0 JP hm pS bI) (fun _ m gr sz xs hm h0 b hb=>H2.live m gr sz xs h0 b hb n JP bI) ?_ (by rw[hG2,huu];exact K2) ?_
   (fun gr m sz xs hb=>by cases hb) (fun gr sz xs hb=>by cases hb) (fun gr m sz xs hb=>by cases hb) ?_
  ·intro OU c m hb hc hm;injection hb with hb;subst hb;obtain⟨pc,_,rfl⟩:=zaj.1 hc;exact absurd hm id
  ·refine⟨bI,(pR _ y8).kS xC,fun j c hj=>?_⟩;rw[zag] at hj;cases hp:ps[j]? with
   |none=>rw[hp] at hj;cases hj
   |some pc=>
    rw[hp] at hj;simp at hj;subst hj;obtain⟨g1,g2⟩:=jc pc (zac hp);exact⟨pc.val,cY j pc hp,PC.qg pc,pc,rfl,rfl,g1,g2⟩
  ·intro _ _ b hb;obtain⟨m,gr,mo,sz,xs,hm,h0,eI⟩:=hb;exact H2.AP JP bI h0 eI
 rw[hG2,huu] at H3;have K1:cr w G h (fun n=>used n=true) w' ⟨fun b=>G.Im b\/S b,G.g⟩ (aX h n (some (aK.box []))):=cr.trans (fun _ h=>h) (kp []) (cr.xN S _);exact⟨H3,cr.trans (fun _ h=>h) K1 K2⟩
theorem Yo {σ1:St} {ns:List Nat} {out:List C} (hx:σ.u6 ns out=some σ1):(ns=[]/\out=[]/\σ1=σ)\/∃n cs,ns=[n]/\σ.h n=some (.box cs)/\cs.length=out.length/\σ1=σ.fK n (.box (out.map .c)):=by
 unfold St.u6 at hx;split at hx
 ·injection hx with hx;exact .inl ⟨rfl,rfl,hx.symm⟩
 ·rename_i n;split at hx
  ·rename_i cs hn;split at hx
   ·rename_i hl;injection hx with hx;exact .inr ⟨n,cs,rfl,hn,hl,hx.symm⟩
   ·cases hx
  ·cases hx
 ·cases hx
theorem acW {pas:List PA} {p:PA} (hp:p∈pas) (hk:p.k=.ptr):p∈pL pas:=za0.2 ⟨hp,by simp[hk]⟩
theorem acX:∀{pas:List PA},(pL pas).length<=1->∀{i j:Nat} {p q:PA},pas[i]? =some p->pas[j]? =some q->p.k=.ptr->q.k=.ptr->i=j
 |[],_,i,_,_,_,hi,_,_,_=>by simp at hi
 |x::pas,hl,i,j,p,q,hi,hj,hp,hq=>by
  by_cases hx:x.k=.ptr
  ·have hz:(pL pas).length=0:=by
    simp[pL,hx] at hl⊢;exact hl
   have dE:∀y∈pas,y.k≠ .ptr:=fun y hy hk=>by
    have:=acW hy hk;rw[zaS.1 hz] at this;cases this
   cases i with
   |zero=>
    cases j with
    |zero=>rfl
    |succ j=>exact absurd hq (dE q (zac (by simpa using hj)))
   |succ i=>exact absurd hp (dE p (zac (by simpa using hi)))
  ·have fv:(pL pas).length<=1:=by simpa[pL,hx] using hl
   cases i with
   |zero=>simp at hi;subst hi;exact absurd hp hx
   |succ i=>
    cases j with
    |zero=>simp at hj;subst hj;exact absurd hq hx
    |succ j=>exact congrArg (·+1) (acX fv (by simpa using hi) (by simpa using hj) hp hq)
theorem T7:∀{bO:List PA} {ls:List (Bool×List ao)},mq (bO.map fun p=>(p.k,p.ps.map PC.er))=some ls->ls=bO.map (fun p=>(decide (p.k=.agg),p.ps.map fun pc=>ao.c pc.er))/\∀p∈bO,p.k≠ .ptr
 |[],ls,h=>by simp only[List.map_nil,mq] at h;injection h with h;exact⟨h.symm,by simp⟩
 |⟨k,ps,b,o⟩::bO,ls,h=>by
  cases k with
  |ptr=>simp[mq] at h
  |one=>
   simp only[zba,mq] at h;split at h
   ·rename_i Ky e;injection h with h;obtain⟨e1,e2⟩:=T7 e;refine⟨by rw[<-h,e1,zaO];rfl,fun p hp=>?_⟩;cases hp with
    |head=>simp
    |tail _ hp=>exact e2 p hp
   ·cases h
  |agg=>
   simp only[zba,mq] at h;split at h
   ·rename_i Ky e;injection h with h;obtain⟨e1,e2⟩:=T7 e;refine⟨by rw[<-h,e1,zaO];rfl,fun p hp=>?_⟩;cases hp with
    |head=>simp
    |tail _ hp=>exact e2 p hp
   ·cases h
theorem aAI {ls:List (Bool×List ao)} {bO:List PA} (hlen:ls.length=bO.length)
  (hv:∀(j:Nat) (x:Bool×List ao) (p:PA),ls[j]? =some x->bO[j]? =some p->RV w G h x.1 x.2 (Eh p)):RA w G h (qe ls) (Ei bO):=by
 match ls,bO,hlen with
 |[],[],_=>exact⟨[],rfl,rfl,by simp⟩
 |[(ag,cs)],[p],_=>
  have h0:=hv 0 (ag,cs) p rfl rfl;cases ag with
  |true=>exact h0
  |false=>
   have di:eO w G h cs [Eh p]:=h0;match cs,di.1 with
   |[c],_=>exact .inr h0
 |x::y::ls,p::q::bO,hl=>
  refine⟨(p::q::bO).map Eh,rfl,by simpa using hl.symm,fun j x' u hj hu=>?_⟩;rw[zag] at hu;cases hp:(p::q::bO)[j]? with
  |none=>rw[hp] at hu;cases hu
  |some p'=>rw[hp] at hu;simp at hu;subst hu;exact hv j x' p' hj hp
theorem aph (r:R B E w0 N σ a w G) {T:br} (hT:Fm P T) {f:FuncId} {as:List aA} {vals:List Value} {σ1:St} (hN:∀n,o.dst=some n->n<N)
  (c9:(execOp a.eval o).run P w=.ok (.enter f vals.toArray) w) (hl:vals.length=as.length)
  (uw:∀(j:Nat) (x:aA) (v:Value),as[j]? =some x->vals[j]? =some v->RA w G σ.h x v) (VV:∀x∈as,∀m,x.ref m->σ.used m=true)
  (hx:ug T o.dst f as σ=some σ1):o.wp P a w (Nx B E w0 N σ1) Q:=by
 unfold ug at hx;split at hx
 ·rename_i ds ns sO M hba hM;split at hx
  ·rename_i rs out np;split at hx
   ·rename_i qP rl;obtain⟨Im',pas,b1,b2,b3,b4,b5,b6,b7,b8,b9,qp⟩:=r.hr.kf hba hl uw VV;have hns:ns.length<=1:=by
     rcases Yo rl with⟨h1,_⟩|⟨n,cs,h1,_⟩<;>rw[h1]<;>simp
    have rU:∀p∈pas,p.k=.ptr->∃n,ns=[n]/\abu G sO.h p n:=by
     intro p hp hk;obtain⟨i,hi⟩:=zam (acW hp hk);have cC:i<ns.length:=by rw[<-b5];exact(zah.1 hi).1
     have hn:ns[i]? =some ns[i]:=zad cC;have h0:i=0:=by omega
     subst h0;refine⟨_,?_,b6 0 p _ hi hn⟩;match ns,cC,hns with
     |[n],_,_=>rfl
    have va:Tn w ds vals pas:=by
     refine⟨b2,b1,b3,fun p hp hk=>?_,fun i j p q hi hj hp hq=>acX (by omega) hi hj hp hq⟩;obtain⟨n,_,cs,hn,e1,e2,e3⟩:=rU p hp hk;obtain⟨nl,un,_⟩:=b7.box n cs hn;have ho:=b7.own n (by rw[hn];simp) nl;rw[e1];exact⟨un,fun q hq pc bU hb=>ho.1 (b4 q hq pc bU _ hb)⟩
    unfold Oper.wp;rw[c9];refine(hT f M hM ds rs out np w vals pas va).mono fun e w' ⟨bO,qs,p1,p2,p3,p4⟩=>?_;subst p2;have afQ:∀b,Fo w pas b->Im' b\/w.heap.size<=b:=fun b hb=>by
     rcases hb with hb|⟨q,hq,pc,bU,hb⟩
     ·exact .inr hb
     ·exact .inl (b4 q hq pc bU b hb)
    let S:Nat->Prop:=fun b=>w.heap.size<=b/\((∃p∈bO,∃pc∈p.ps,bR b pc)\/∃pc∈qs,bR b pc);have hB:=r.fr.size;have hS:∀b,S b->w.heap.size<=b/\b<w'.heap.size/\B<=b:=fun b ⟨h1,h2⟩=>by
     refine⟨h1,?_,zaN hB h1⟩;rcases h2 with⟨p,hp,pc,bU,hb⟩|⟨pc,bU,hb⟩
     ·exact(p4.gF p hp pc bU).1.lt hb
     ·exact(p4.out pc bU).1.lt hb
    have afh:∀p∈bO,∀pc∈p.ps,Good w' pc/\∀b,bR b pc->Im' b\/S b:=fun p hp pc bU=>by
     obtain⟨g1,g2⟩:=p4.gF p hp pc bU;exact⟨g1,fun b hb=>(afQ b (g2 b hb)).imp id fun h1=>⟨h1,.inl ⟨p,hp,pc,bU,hb⟩⟩⟩
    have arA:∀pc∈qs,Good w' pc/\∀b,bR b pc->Im' b\/S b:=fun pc bU=>by
     obtain⟨g1,g2⟩:=p4.out pc bU;exact⟨g1,fun b hb=>(afQ b (g2 b hb)).imp id fun h1=>⟨h1,.inr ⟨pc,bU,hb⟩⟩⟩
    have aCv:HR B E w' ⟨fun b=>Im' b\/S b,G.g⟩ qP.h qP.used []/\cr w ⟨Im',G.g⟩ sO.h (fun n=>sO.used n=true) w' ⟨fun b=>Im' b\/S b,G.g⟩ qP.h/\qP.env=sO.env/\qP.used=sO.used/\Fr B E w0 w':=by
     rcases Yo rl with⟨h1,h2,h3⟩|⟨n,cs,h1,h2,h3,h4⟩
     ·subst h3;have dE:∀p∈pas,p.k≠ .ptr:=fun p hp hk=>by
       obtain⟨n,e,_⟩:=rU p hp hk;rw[h1] at e;cases e
      have n8:∀b,b<w.heap.size->w'.heap[b]? =w.heap[b]? :=fun b hb=>p4.fr.block b hb (fun⟨p,hp,hk,_⟩=>dE p hp hk);have Hg:=b7.grow n8 p4.fr.size;refine⟨Hg.xN S (fun b hb=>(hS b hb).2.1) (fun b hb q hq hl he=>by have:=(hS b hb).1;have:=(b7.own q hq hl).2.2;omega)
       (fun b hb q gr sz xs hq hF=>by have:=(hS b hb).1;have:=b7.wH hq hF;omega) (fun b hb=>.inl (hS b hb).2.2),
       cr.trans (fun _ h=>h) (cr.world (fun b hb=>n8 b (b7.jM b hb)) _) (cr.xN S _),rfl,rfl,r.fr.grow n8 p4.fr.size p4.fr.os p4.fr.tape p4.fr.output⟩
     ·subst h4;obtain⟨p,hp,hk⟩:∃p∈pas,p.k=.ptr:=by
       have hlen:(pL pas).length=1:=by rw[b5,h1];rfl
       match hc:pL pas,hlen with
       |[p],_=>
        have hm:p∈pL pas:=by rw[hc];simp
        have:=za0.1 hm;exact⟨p,this.1,by simpa using this.2⟩
      obtain⟨n',e0,cs',cb,e1,e2,e3⟩:=rU p hp hk;rw[h1] at e0;injection e0 with e0;subst e0;have P3:∀q∈pas,q.k=.ptr->q=p:=fun q hq VD=>by
       obtain⟨i,hi⟩:=zam hq;obtain⟨j,hj⟩:=zam hp;have:=va.one i j q p hi hj VD hk;subst this;rw[hi] at hj;injection hj
      have ho:=b7.own n (by rw[h2];simp) (b7.box n cs h2).1;have n8:∀b,b<w.heap.size->b≠(G.g n).b->w'.heap[b]? =w.heap[b]? :=fun b hb aR=>p4.fr.block b hb (fun⟨q,hq,VD,hbq⟩=>by
       rw[P3 q hq VD,e1] at hbq;exact aR hbq)
      have pR:∀b,b<w.heap.size->Cz w w' b:=fun b hb=>p4.fr.kS b hb;obtain⟨Hb,Kb⟩:=b7.acp (cs':=out.map .c) h2 p4.fr.size n8 pR hS (ps:=qs) (by rw[<-p3,zaO];rfl) (fun j c hj=>by
       have:=p4.at_ p hp hk j c hj;rw[e1,e2] at this;exact this) arA
      exact⟨Hb,Kb,rfl,rfl,r.fr.one ho.2.1 n8 p4.fr.size (pR _ ho.2.2) p4.fr.os p4.fr.tape p4.fr.output⟩
    obtain⟨H2,K2,v1,v2,yZ⟩:=aCv;have K0:cr w G σ.h (fun n=>σ.used n=true) w' ⟨fun b=>Im' b\/S b,G.g⟩ qP.h:=cr.trans (fun n hn=>by rw[qp];exact hn) b8 K2;have r2:R B E w0 N qP a w' ⟨fun b=>Im' b\/S b,G.g⟩:=r.step (v1.trans b9) (fun m hm=>by rw[v2,qp];exact hm) K0 H2 yZ;have OW:∀{ls:List (Bool×List ao)},mq rs=some ls->σ1=qP.put o.dst (qe ls)->(match(Ending.returned (Ei bO)) with|.returned v=>Nx B E w0 N σ1 (a.put o.dst v) w'|_=>True):=by
     intro ls PT hs;subst hs;rw[<-p1] at PT;obtain⟨rfl,JQ⟩:=T7 PT;refine⟨_,r2.put (aAI (by simp) (fun j x p hj hp=>?_)) (fun q hq=>?_) hN⟩
     ·rw[zag,hp] at hj;simp at hj;subst hj;have hm:=zac hp;have di:eO w' ⟨fun b=>Im' b\/S b,G.g⟩ qP.h (p.ps.map fun pc=>ao.c pc.er) (p.ps.map PC.val):=by
       refine⟨by simp,fun j c u hj hu=>?_⟩;rw[zag] at hj hu;cases uG:p.ps[j]? with
       |none=>rw[uG] at hj;cases hj
       |some pc=>
        rw[uG] at hj hu;simp at hj hu;subst hj hu;obtain⟨g1,g2⟩:=afh p hm pc (zac uG);exact⟨PC.qg pc,pc,rfl,rfl,g1,g2⟩
      have Ba:=p4.one p hm;have hk2:=JQ p hm;obtain⟨k,ps,b,o'⟩:=p;cases k with
      |ptr=>exact absurd rfl hk2
      |agg=>exact⟨ps.map PC.val,rfl,di⟩
      |one=>
       have h2:=Ba rfl;match ps,h2 with
       |[p],_=>exact di
     ·exfalso;refine aAZ (fun x hx c hc hq=>?_) hq;obtain⟨p,_,rfl⟩:=zaj.1 hx;obtain⟨pc,_,rfl⟩:=zaj.1 hc;exact hq
    unfold ue at hx;split at hx
    ·rename_i cs;split at hx
     ·rename_i q hq;split at hx
      ·rename_i τ3 ar3;injection hx with hx;subst hx;obtain⟨u1,rfl⟩:=qH ar3;obtain⟨p,rfl⟩:∃p,bO=[p]:=by
        have h1:bO.length=1:=by have:=congrArg List.length p1;simpa using this
        exact zaV.1 h1
       simp at p1;obtain⟨hk,gY⟩:=p1;obtain⟨_,q1,q2,q3,q4,q5⟩:=p4.ptr p (by simp) hk;subst gY;have afC:sT ⟨fun b=>Im' b\/S b,G.g⟩ qP.h p.b:=by
        refine⟨fun hi=>?_,fun m hm hl he=>?_,fun m gr mo sz xs hm hF=>?_⟩
        ·rcases hi with hi|⟨_,hi⟩
         ·have:=b7.jM _ hi;omega
         ·rcases hi with⟨p',cd,pc,bU,hb⟩|⟨pc,bU,hb⟩
          ·simp at cd;subst cd;exact q4 pc bU hb
          ·exact q5 pc bU hb
        ·have hd:=H2.lI m hm;obtain⟨k0,k1,k2,_⟩:=K2.name m (by rw[<-v2];exact hd) hm;have fv:(G.g m).nl=false:=hl;have:=(b7.own m k0 fv).2.2;have PP:(G.g m).b=p.b:=he;have h7:(⟨Im',G.g⟩:Gh).g m=G.g m:=rfl;rw[h7] at this;omega
        ·have hd:=H2.lI m (by rw[hm];simp);have f9:∃cv qK bu aM,sO.h m=some (.row cv qK bu aM):=by
          rcases Yo rl with⟨h1,h2,h3⟩|⟨n,cs,h1,h2,h3,h4⟩
          ·subst h3;exact⟨_,_,_,_,hm⟩
          ·subst h4;by_cases cO:m=n
           ·subst cO;have:aX sO.h m (some (aK.box (out.map ao.c))) m=_:=hm;rw[cT] at this;cases this
           ·have:aX sO.h n (some (aK.box (out.map ao.c))) m=_:=hm;rw[dN _ _ _ _ cO] at this;exact⟨_,_,_,_,this⟩
         obtain⟨cv,qK,bu,aM,cQ⟩:=f9;have AU:bY p.b (G.g m).px:=hF;have:=b7.wH cQ AU;omega
       have Hn:HR B E w' ⟨fun b=>Im' b\/S b,aX G.g q ⟨false,p.b,p.o,0,[],none⟩⟩ (aX qP.h q (some (.box ((p.ps.map PC.er).map .c)))) (aX qP.used q true) []:=by
        refine H2.insert (w':=w') u1 (fun _ _=>rfl) (zau _) (fun _=>⟨afC,.inl (zaN hB q1),q2.lt⟩) (fun cs' c m hb dJ hm=>?_) ⟨rfl,q2,fun j c hj=>?_⟩ (fun gr m sz xs hb=>by cases hb) (fun gr sz xs hb=>by cases hb) (fun gr m sz xs hb=>by cases hb)
        ·injection hb with hb;subst hb;obtain⟨x,_,rfl⟩:=zaj.1 dJ;exact absurd hm id
        ·rw[zag,zag] at hj;cases hp:p.ps[j]? with
         |none=>rw[hp] at hj;cases hj
         |some pc=>
          rw[hp] at hj;simp at hj;subst hj;obtain⟨g1,g2⟩:=afh p (by simp) pc (zac hp);exact⟨pc.val,q3 j pc hp,PC.qg pc,pc,rfl,rfl,g1,g2⟩
       have r3:=r2.step (σ':={qP with h:=aX qP.h q (some (.box ((p.ps.map PC.er).map .c))),used:=aX qP.used q true}) rfl (fun m hm=>wQ q m hm) (cr.insert H2 u1 (fun _ _=>rfl)) Hn yZ
       have hv:Ei [p]=.pointer (some (ad p.b p.o)):=by
        obtain⟨k,ps,b,o'⟩:=p;simp only at hk;subst hk;rfl
       rw[hv];exact⟨_,r3.put (RA.jP (c:=.ptr q 0 0 0) rfl (show aX qP.h q _ q≠none->(aX G.g q _ q).nl=false/\_=_ from fun _=>by simp[cT])) (fun m hm=>by have cQ:m=q:=hm;subst cQ;exact cT _ _ _) hN⟩
      ·cases hx
     ·cases hx
    ·split at hx
     ·rename_i ls PT;injection hx with hx;exact OW PT hx.symm
     ·cases hx
   ·cases hx
  ·cases hx
 ·cases hx
theorem ads (r:R B E w0 N σ a w G) {T:br} (hT:Fm P T) {f:FuncId} {xs:Array Operand} {ms:List MO} {ts:Array TypeId} {σ1:St} (hN:∀n,o.dst=some n->n<N)
  (ho:o.op=.call {callee:=.value (.func f),args:=xs,argTypes:=ts}) (hf:cc P f=true) (hm:ld xs.toList ms=true)
  (hx:ug T o.dst f (ms.map σ.ev) σ=some σ1):o.wp P a w (Nx B E w0 N σ1) Q:=by
 obtain⟨e1,e2⟩:=r.FU hm;have VV:∀x∈ms.map σ.ev,∀m,x.ref m->σ.used m=true:=by
  have cN:∀{xs:List Operand} {ms:List MO},ld xs ms=true->∀x∈ms.map σ.ev,∀m,x.ref m->σ.used m=true:=by
   intro xs ms;induction ms generalizing xs with
   |nil=>intro _ x hx;simp at hx
   |cons m0 ms ih=>
    intro hc x hx m hm;cases xs with
    |nil=>simp[ld] at hc
    |cons y ys=>
     simp only[ld,zaa] at hc;simp only[zba,zaB] at hx;rcases hx with rfl|hx
     ·exact(r.ev hc.1).2 m hm
     ·exact ih hc.2 x hx m hm
  exact cN hm
 refine aph r hT (vals:=xs.toList.map a.eval) hN ?_ (by simpa using e1) e2 VV hx;have he:(xs.toList.map a.eval).toArray=xs.map a.eval:=by apply zaw;simp
 rw[he];simp[execOp,ho,resolve,Deferred.ofValue,invoke,Act.eval,K8 hf]
theorem R.xn (r:R B E w0 N σ a w G) {p:ao} (hx:σ.xn p=some σ'):∃G',R B E w0 N σ' a w G'/\σ'.env=σ.env:=by
 unfold St.xn at hx;split at hx
 ·rename_i n k sz off;split at hx
  ·rename_i cs hn;split at hx
   ·rename_i xs ow σ1 ht;injection hx with hx;subst hx;obtain⟨vs,v1,v2⟩:=r.hr.OA hn;obtain⟨CE,cH,a1,a2,a3,a5,a6,a7,a8,a9⟩:=r.hr.iz ht v1 (fun c hc m hm=>r.hr.j7 n cs c m hn hc hm);have Av:HR B E w ⟨CE,G.g⟩ σ1.h σ.used []:=by
     cases ow with
     |true=>exact HR.Cc (tk:=[]) (l:=cH) (by simpa using a5)
     |false=>simpa using a5
    have oT:=abc ht hn;obtain⟨b1,b2⟩:=Av.acp (w':=w) (cs':=xs.map .c) oT (zau _) (fun _ _ _=>rfl) (fun b _=>Cz.refl w b) (S:=fun _=>False) (fun b hb=>hb.elim) (ps:=cH)
     (by rw[<-a1,zaO];rfl) (fun j c hj=>by
      have:=v2 j c.val (by rw[<-a2,zag,hj];rfl);exact this) (fun pc bU=>⟨(a3 pc bU).1,fun b hb=>.inl ((a3 pc bU).2 b hb)⟩)
    have hk:=cr.trans (fun _ h=>h) a6 b2;refine⟨_,r.step a7 (fun q hq=>by rw[show(σ1.fK n (.box (xs.map .c))).used=σ1.used from rfl,a8];exact hq) hk ?_ r.fr,a7⟩
    show HR B E w _ _ σ1.used [];rw[a8];exact b1
   ·cases hx
  ·cases hx
 ·cases hx
end
def Fp (P:Program) (f:FuncId) (sig:bi) (M:List Dv->Option (Nat×Nat)):Prop:=
 ∀ds lo len,M ds=some (lo,len)->∀(w:World) (vals:List Value) (pas:List PA),CH w sig ds vals pas->Calls P f vals.toArray w fun e w'=>
  ∃(m:Mode) (sz cap:Nat) (a:Option Addr) (xs:List (List PC)) (v:Value),eT sig (pas.map (·.ps))=[(m,.list sz a cap xs)]/\e=.returned v/\xs≠[]/\
   (∃(b o:Nat) (a':Option Addr),a=some (ad b o)/\v=.slice a' len (cap - lo)/\lo+len<=cap/\((lo<cap\/lo=0)->a'=some (ad b (o+lo*sz))))/\
   Fr w.heap.size (AJ [(m,.list sz a cap xs)]) w w'/\∃q:PC,q.er=(PC.list sz a cap xs).er/\sU w' m (.list sz a cap xs) q
def CL (P:Program) (f:FuncId) (i:Nat) (M:List Dv->Option (List Dv×List C)):Prop:=
 ∀(lo len:Nat) (ds rs:List Dv) (eV:List C) (ys:List (List C)),M (dI lo::dI (lo+len)::ds)=some (rs,eV)->ds[i]? =some (.one,[.list 1 ys])->∀(w:World) (vals:List Value) (pas:List PA),CH w (nc i) ds vals pas->
  ∀(b o cap n:Nat) (a':Option Addr),vals[i]? =some (.slice (some (ad b o)) n cap)->0<n->lo+len<=n->((lo<cap\/lo=0)->a'=some (ad b (o+lo*1)))->
  Calls P f (vals.set i (.slice a' len (cap - lo))).toArray w (Th w (nc i) pas rs eV)
def Au (P:Program) (T:br):Prop:=(∀f sig M,br.vM T.ws f=some (sig,M)->Fp P f sig M)/\∀f i M,br.vN T.xs f=some (i,M)->CL P f i M
section
variable {B:Nat} {E:Ex} {w0 w w':World} {G G':Gh} {N:Nat} {h h':Nat->Option aK} {used used':Nat->Bool} {tk:List PC}
variable {P:Program} {o:Oper} {a:Act} {σ σ':St} {Q:Exit->Act->World->Prop}
theorem apj (r:R B E w0 N σ a w G) {T:br} (hT:Au P T) {f:FuncId} {as:List aA} {vals:List Value} {v0:aA} (hN:∀n,o.dst=some n->n<N)
  (c9:(execOp a.eval o).run P w=.ok (.enter f vals.toArray) w) (hl:vals.length=as.length)
  (uw:∀(j:Nat) (x:aA) (v:Value),as[j]? =some x->vals[j]? =some v->RA w G σ.h x v)
  (hx:tc T f as σ.h=some v0):o.wp P a w (Nx B E w0 N (σ.put o.dst v0)) Q:=by
 have H:=r.hr;unfold tc at hx;split at hx
 ·rename_i sig M e8 hM Vg;split at hx
  ·rename_i n0 aDP;split at hx
   ·rename_i ds n md hv;split at hx
    ·rename_i he;subst he;split at hx
     ·rename_i gr mo sz xs lo len f9 np;injection hx with hx;subst hx;obtain⟨uE,U7⟩:=XF Vg hl uw;obtain⟨pas,q1,q2,q3,q4,q5,q6,q7⟩:=H.o6 hv uE U7;have xv:([((eC.row n:eC),md)].filterMap (·.1.fJ)).Nodup:=by simp[eC.fJ]
      generalize yY:eT sig (pas.map (·.ps))=fl at q5;obtain⟨x,rfl⟩:∃x,fl=[x]:=by
       match fl,q5.len with
       |[x],_=>exact⟨x,rfl⟩
      obtain⟨PU,A8⟩:=q5.at_ 0 _ x rfl rfl;have cY:=A8.at_;obtain⟨cv,qK,bu,aM,e1,e2,e3,e4,e5⟩:=cY;rw[f9] at e1;injection e1 with e1;injection e1 with a1 a2 a3 a4;subst a1 a2 a3 a4;have c8:σ.h n≠none:=by rw[f9];simp
      have hr:=H.row n gr mo sz xs f9;have rb:∀b,bR b x.2->vP G n b/\((∀b,¬bY b (G.g n).px)\/mo=.live):=by
       intro b hb;obtain⟨n',cv,m',bu,aM,f1,f2,f3,f4,f5⟩:=A8.qu H hb;have:n'=n:=by injection f1 with f1;exact f1.symm
       subst this;rw[f9] at f2;injection f2 with f2;injection f2 with _ f2 _ _;subst f2;exact⟨f4,f5⟩
      have XJ:CH w sig ds vals pas:=by
       refine⟨q2,q1,q3,fun y hy=>?_,?_,fun pc bU y hy b hb bX=>?_,fun p hp hk=>absurd hk (q4 p hp),fun i p s hp _ hk=>absurd hk (q4 p (zac hp))⟩
       ·rw[yY,zaJ] at hy;subst hy;exact A8.ok
       ·rw[yY];simp
       ·rw[yY,zaJ] at hy;subst hy;obtain⟨f4,f5⟩:=rb b bX;rcases q7 pc bU b hb with hi|⟨n',cv,m',bu,aM,cb,xj,FM⟩
        ·rcases f4 with⟨bI,rfl⟩|hF
         ·exact(H.own n c8 bI).1 hi
         ·rcases f5 with f5|rfl
          ·exact f5 b hF
          ·exact(hr.mode.1 b hF).1 hi
        ·have aR:n'≠n:=fun e=>cb (by rw[e];simp);exact H.Jo aR xj f9 f5 FM f4
      unfold Oper.wp;rw[c9];refine(hT.1 f sig M hM ds lo len np w vals pas XJ).mono fun e w' ⟨m1,sK,s6,Fs,vr,v,p1,p2,p3,⟨lb,lo1,la,l1,l2,l3,l4⟩,p4,q,p5,p6⟩=>?_;subst p2;rw[yY] at p1;injection p1 with p1 _;subst p1;dsimp only at e4;have uC:∀b,AJ [(m1,PC.list sK Fs s6 vr)] b->(B<=b\/E b):=by
       rintro b ⟨y,hy,hb⟩;rw[zaJ] at hy;subst hy;rcases(rb b hb).1 with⟨bI,rfl⟩|hF
       ·exact(H.own n c8 bI).2.1
       ·have jm:=hr.mode;cases mo with
        |aV=>exact absurd rfl e2
        |aZ=>exact(jm.1 b hF).2.2
        |live=>exact(jm.1 b hF).2.2
      have afu:(xq G [((eC.row n:eC),md)] [q]).g n=BN (G.g n) (.row n) q:=aff xv (i:=0) (it:=(.row n,md)) rfl rfl rfl;have hqe:q.er=.list sz xs:=by rw[p5,e4];exact ajJ hr
      have p6':=p6;rw[e4] at p6;obtain⟨yw,K,_⟩:=H.QQ (G':=xq G [((eC.row n:eC),md)] [q]) (h':=σ.h) (w':=w') (S:=fun k=>k=n) p4.size (fun b hb dE=>p4.block b hb (by
        rintro⟨y,hy,rT⟩;rw[zaJ] at hy;subst hy;exact dE n rfl (rb b rT).1)) (fun b hb=>p4.kS b hb) rfl (fun k hk=>by
        subst hk;exact⟨gr,mo,sz,xs,xs,f9,f9,by rw[afu];exact acA H f9 e2 e3 e5 p6 hqe⟩)
       (fun k hk=>⟨rfl,afg (by simp[eC.fJ];exact hk)⟩)
      have yZ:Fr B E w0 w':=by
       refine⟨p4.os.trans r.fr.os,p4.tape.trans r.fr.tape,p4.output.trans r.fr.output,zaN r.fr.size p4.size,fun b hb he=>?_,fun b hb=>?_⟩
       ·refine(p4.block b (zax hb r.fr.size) fun hx=>?_).trans (r.fr.block b hb he);rcases uC b hx with h1|h1
        ·omega
        ·exact he h1
       ·exact(r.fr.kS b hb).trans (p4.kS b (zax hb r.fr.size))
      have r2:R B E w0 N σ a w' (xq G [((eC.row n:eC),md)] [q]):=r.step rfl (fun _ h=>h) K yw yZ;refine⟨_,r2.put (RA.jP ?_ ?_) (fun k hk=>?_) hN⟩
      ·rw[l2];rfl
      ·show σ.h n≠none->nh _ sz lo len v;intro _;have hq:PC.list sK Fs s6 vr=rF sz (G.g n):=e4;unfold rF at hq;injection hq with g1 g2 g3 g4;subst g1 g3 g4;have bI:(G.g n).nl=false:=by
        cases h0:(G.g n).nl with
        |false=>rfl
        |true=>exact absurd (hr.nl h0).1 p3
       rw[bI] at g2;have g2:Fs=some (ad (G.g n).b (G.g n).o):=g2;rw[l1] at g2;injection g2 with g2;obtain⟨rfl,rfl⟩:=qS g2;obtain⟨pi,ad2,OC,px2,rfl⟩:=PC.Xx p6.val rfl;rw[afu];exact .inr ⟨bI,la,l2,l3,l4⟩
      ·have dg:k=n:=hk;subst dg;exact r.hr.lI k c8
     ·cases hx
    ·cases hx
   ·cases hx
  ·cases hx
 ·cases hx
theorem apc (r:R B E w0 N σ a w G) {T:br} (hT:Au P T) {f:FuncId} {xs:Array Operand} {ms:List MO} {ts:Array TypeId} {v0:aA} (hN:∀n,o.dst=some n->n<N)
  (ho:o.op=.call {callee:=.value (.func f),args:=xs,argTypes:=ts}) (hf:cc P f=true) (hm:ld xs.toList ms=true)
  (hx:tc T f (ms.map σ.ev) σ.h=some v0):o.wp P a w (Nx B E w0 N (σ.put o.dst v0)) Q:=by
 obtain⟨e1,e2⟩:=r.FU hm;refine apj r hT (vals:=xs.toList.map a.eval) hN ?_ (by simpa using e1) e2 hx;have he:(xs.toList.map a.eval).toArray=xs.map a.eval:=by apply zaw;simp
 rw[he];simp[execOp,ho,resolve,Deferred.ofValue,invoke,Act.eval,K8 hf]
theorem aDu {h:Nat->Option aK} {x:aA} {n lo len N:Nat} (hx:Ik h x=some (n,lo,len,N)):x=.one (.sl n 1 lo len)/\∃gr m xs,h n=some (.row gr m 1 xs)/\N=xs.length/\lo<N/\lo+len<=N:=by
 unfold Ik at hx;split at hx
 ·rename_i n' s Qz Qx;split at hx
  ·rename_i gr m rs xs hn;split at hx
   ·rename_i hc;obtain⟨rfl,rfl,h1,h2⟩:=hc;injection hx with hx;injection hx with e1 e2;injection e2 with e2 e3;injection e3 with e3 e4;subst e1 e2 e3 e4;exact⟨rfl,gr,m,xs,hn,rfl,h1,h2⟩
   ·cases hx
  ·cases hx
 ·cases hx
theorem apk (r:R B E w0 N σ a w G) {T:br} (hT:Au P T) {m:Mode} {f:FuncId} {as:List aA} {vals:List Value} {σ1:St} (hN:∀n,o.dst=some n->n<N)
  (c9:(execOp a.eval o).run P w=.ok (.enter f vals.toArray) w) (hl:vals.length=as.length)
  (uw:∀(j:Nat) (x:aA) (v:Value),as[j]? =some x->vals[j]? =some v->RA w G σ.h x v)
  (hx:yJ T m o.dst f as σ=some σ1):o.wp P a w (Nx B E w0 N σ1) Q:=by
 have H:=r.hr;unfold yJ at hx;split at hx
 ·rename_i i M hM;split at hx
  ·rename_i x hi;split at hx
   ·rename_i n lo len L f9;obtain⟨rfl,gr,md,xs,hn,rfl,vY,jF⟩:=aDu f9;have gk:i<as.length:=(zah.1 hi).1;have Gp:i<vals.length:=by omega
    have hv:vals[i]? =some vals[i]:=zad Gp;have xz:=uw i _ _ hi hv;have lv:nh (G.g n) 1 lo len vals[i]:=(xz.kO (by simp)).1 (by rw[hn];simp);have hr:=H.row n gr md 1 xs hn;have je:(G.g n).px.length=xs.length:=by rw[hr.er];simp
    have bI:(G.g n).nl=false:=by
     cases h0:(G.g n).nl with
     |false=>rfl
     |true=>
      have:=(hr.nl h0).1;rw[this] at je;simp at je;omega
    obtain⟨l1,l2,l3⟩:=hr.gd bI;rcases lv with⟨h0,_⟩|⟨_,ya,hva,mr,U4⟩
    ·rw[bI] at h0;cases h0
    refine adt r (as:=as.set i (.one (.sl n 1 0 xs.length))) (vals:=vals.set i (.slice (some (ad (G.g n).b (G.g n).o)) xs.length (G.g n).cap)) (vals':=vals)
     (fun sig M' np ds rs eV h pas hm=>?_) hN c9 (by simp[hl]) (fun j x v hj A9=>?_) hx
    ·have Gb:(nc i,xM i lo (lo+len) M)=(sig,M'):=by
      simp only[br.rS,if_true] at np;injection np
     injection Gb with q1 q2;subst q1 q2;unfold xM at h;split at h
     ·rename_i ys mP;have:=hT.2 f i M hM lo len ds rs eV ys h mP w _ pas hm (G.g n).b (G.g n).o (G.g n).cap xs.length ya (by rw[zao Gp]) (by omega) jF U4;have e:(vals.set i (.slice (some (ad (G.g n).b (G.g n).o)) xs.length (G.g n).cap)).set i (.slice ya len ((G.g n).cap - lo))=vals:=by
       rw[List.set_set,<-hva];exact List.set_getElem_self Gp
      rw[e] at this;exact this
     ·cases h
    ·by_cases rW:j=i
     ·subst rW;rw[zao gk] at hj;rw[zao Gp] at A9;injection hj with hj;injection A9 with A9;subst hj A9;refine RA.jP rfl (fun _=>.inr ⟨bI,_,rfl,by omega,fun _=>by simp⟩)
     ·rw[zaC (fun h=>rW h.symm)] at hj A9;exact uw j x v hj A9
   ·cases hx
  ·cases hx
 ·cases hx
theorem apd (r:R B E w0 N σ a w G) {T:br} (hT:Au P T) {m:Mode} {f:FuncId} {xs:Array Operand} {ms:List MO} {ts:Array TypeId} {σ1:St} (hN:∀n,o.dst=some n->n<N)
  (ho:o.op=.call {callee:=.value (.func f),args:=xs,argTypes:=ts}) (hf:cc P f=true) (hm:ld xs.toList ms=true)
  (hx:yJ T m o.dst f (ms.map σ.ev) σ=some σ1):o.wp P a w (Nx B E w0 N σ1) Q:=by
 obtain⟨e1,e2⟩:=r.FU hm;refine apk r hT (vals:=xs.toList.map a.eval) hN ?_ (by simpa using e1) e2 hx;have he:(xs.toList.map a.eval).toArray=xs.map a.eval:=by apply zaw;simp
 rw[he];simp[execOp,ho,resolve,Deferred.ofValue,invoke,Act.eval,K8 hf]
end
def FF:Option Operand->Option MO->Bool
 |none,none=>true
 |some x,some m=>df x m
 |_,_=>false
def AD (P:Program) (t:TypeId) (sz:Nat) (k:TypeInfo->Value->Bool):Bool:=
 match P.underlying t with
 |some (.slice e)=>match P.info? e with
  |some i=>match i.zero with
   |some z=>i.size==sz&&decide (0<sz)&&k i z
   |none=>false
  |none=>false
 |_=>false
theorem FH {P:Program} {t:TypeId} {sz:Nat} {k:TypeInfo->Value->Bool} (h:AD P t sz k=true):
  ∃e i z,P.underlying t=some (.slice e)/\P.info? e=some i/\i.zero=some z/\i.size=sz/\0<sz/\k i z=true:=by
 unfold AD at h;split at h
 ·rename_i e he;split at h
  ·rename_i i hi;split at h
   ·rename_i z hz;simp only[zaa,beq_iff_eq,decide_eq_true_eq] at h;exact⟨e,i,z,he,hi,hz,h.1.1,h.1.2,h.2⟩
   ·cases h
  ·cases h
 ·cases h
def OP (P:Program) (t:TypeId) (zs:List ao):Bool:=
 match P.info? t with
 |some i=>match i.zero with
  |some z=>xg z.cells.toList zs
  |none=>false
 |none=>false
theorem acH {P:Program} {t:TypeId} {zs:List ao} (h:OP P t zs=true):∃i z,P.info? t=some i/\i.zero=some z/\xg z.cells.toList zs=true:=by
 unfold OP at h;split at h
 ·rename_i i hi;split at h
  ·rename_i z hz;exact⟨i,z,hi,hz,h⟩
  ·cases h
 ·cases h
def acB (P:Program) (t:TypeId) (parts:List (Nat×Operand)) (zs:List ao) (ms:List (Nat×Nat×MO)):Bool:=
 match P.underlying t with
 |some (.struct AL)=>match AL.toList.mapM (fun f=>(P.info? f.type).map fun i=>(f.offset,i.size)) with
  |some places=>OP P t zs&&CS places parts ms
  |none=>false
 |_=>false
def acG (P:Program) (t:TypeId) (sz:Nat):Bool:=
 match P.info? t with
 |some i=>i.size==sz&&decide (0<sz)
 |none=>false
def acD (P:Program) (t u:TypeId) (k:IntKind):Bool:=
 match P.underlying t,P.underlying u with
 |some _,some (.int k')=>k==k'
 |_,_=>false
def ago (P:Program) (t:TypeId):Bool:=
 match P.underlying t with
 |some .bool=>true
 |_=>false
def f8 (P:Program) (o:Oper) (mo:bm):Bool:=
 match mo,o.op with
 |.mv m,.move x=>df x m
 |.mv m,.assign x=>df x m
 |.pick c x y,.pick c' x' y'=>df c' c&&df x' x&&df y' y
 |.alloc zs,.alloc e=>OP P e zs
 |.box sz m,.box e x=>df x m
 |.build zs ms,.build t parts=>acB P t parts.toList zs ms
 |.gy sz ms,.buildSlice t len parts=>AD P t sz (fun _ _=>true)&&(ms.length==len)&&decide (parts.toList.map (·.1)=List.range len)&&decide (len*sz<=16777216)&&ld (parts.toList.map (·.2)) ms
 |.load ag sz m,.load t x=>df x m&&FE P t ag sz
 |.store sz mx my,.store t x y=>o.dst.isNone&&df x mx&&df y my&&acG P t sz
 |.jZ m,.nilCheck x=>df x m
 |.bin op mx my,.binOp BP t x y t'=>decide (op=BP)&&df x mx&&df y my
 |.sZ op mx my,.binOp BP t x y t'=>decide (op=BP)&&df x mx&&df y my&&ago P t
 |.un op mx,.unOp BP t x=>decide (op=BP)&&df x mx
 |.conv k mx,.convert t u x=>df x mx&&acD P t u k
 |.kv m sz by_ zs ml mc,.makeSlice t l c=>df l ml&&df c mc&&AD P t sz (fun i z=>(i.bytes==by_)&&decide (0<by_)&&yF z.cells.toList zs)
 |.slice sz mx QD QB,.slice t x lo hi none=>df x mx&&FF lo QD&&FF hi QB&&AD P t sz (fun _ _=>true)
 |.q8 off mx,.fieldAddr s x f=>df x mx&&ON P s f off
 |.qE sz mx mi,.indexAddr t x i=>df x mx&&df i mi&&AD P t sz (fun _ _=>true)
 |.ext i mx,.extract x j=>(i==j)&&df x mx
 |.len mx,.call c=>match c.callee,c.args.toList,c.argTypes.toList with
  |.builtin .len,[x],[t]=>df x mx&&(match P.underlying t with|some (.slice _)=>true|_=>false)
  |_,_,_=>false
 |.append fl sz by_ mx my,.call c=>match c.callee,c.args.toList,c.argTypes.toList with
  |.builtin .append,[x,y],[t,t']=>(t==t')&&df x mx&&df y my&&AD P t sz (fun i z=>(i.bytes==by_)&&decide (0<by_)&&(z.cells.size==sz))
  |_,_,_=>false
 |.nY zc mx,.call c=>match c.callee,c.args.toList,c.argTypes.toList with
  |.builtin .clear,[x],[t]=>df x mx&&AD P t 1 (fun _ z=>yF z.cells.toList [zc])
  |_,_,_=>false
 |.mm b mx my,.call c=>match c.callee,c.args.toList with
  |.builtin .max,[x,y]=>b&&df x mx&&df y my
  |.builtin .min,[x,y]=> !b&&df x mx&&df y my
  |_,_=>false
 |.call m f ms,.call c=>match c.callee with
  |.value (.func g)=>(f==g)&&cc P f&&ld c.args.toList ms
  |_=>false
 |.g7 m f ms,.call c=>match c.callee with
  |.value (.func g)=>(f==g)&&cc P f&&ld c.args.toList ms
  |_=>false
 |.mn f ms,.call c=>match c.callee with
  |.value (.func g)=>(f==g)&&cc P f&&ld c.args.toList ms
  |_=>false
 |.pF f ms,.call c=>match c.callee with
  |.value (.func g)=>(f==g)&&cc P f&&ld c.args.toList ms
  |_=>false
 |.nX f ms,.call c=>match c.callee with
  |.value (.func g)=>(f==g)&&cc P f&&ld c.args.toList ms
  |_=>false
 |.pG m f ms,.call c=>match c.callee with
  |.value (.func g)=>(f==g)&&cc P f&&ld c.args.toList ms
  |_=>false
 |_,_=>false
theorem acF:∀{xs:List Operand} {ms:List MO},ld xs ms=true->xs.length=ms.length/\∀(j:Nat) (x:Operand) (m:MO),xs[j]? =some x->ms[j]? =some m->df x m=true
 |[],[],_=>⟨rfl,by simp⟩
 |x::xs,m::ms,hc=>by
  simp only[ld,zaa] at hc;obtain⟨i1,i2⟩:=acF hc.2;refine⟨by simp[i1],fun j x' m' hj hm=>?_⟩;cases j with
  |zero=>simp at hj hm;subst hj;subst hm;exact hc.1
  |succ j=>exact i2 j x' m' (by simpa using hj) (by simpa using hm)
 |[],_::_,hc=>by simp[ld] at hc
 |_::_,[],hc=>by simp[ld] at hc
section
variable {B:Nat} {E:Ex} {w0 w w':World} {G G':Gh} {h h':Nat->Option aK} {used used':Nat->Bool} {tk:List PC} {N:Nat}
variable {P:Program} {o:Oper} {a:Act} {σ σ':St} {Q:Exit->Act->World->Prop}
theorem apr (r:R B E w0 N σ a w G) {T:br} (Gc:Fm P T) {f:FuncId} {ms:List MO} (hN:∀n,o.dst=some n->n<N) (hc:f8 P o (.nX f ms)=true) (hx:exec T o.dst (.nX f ms) σ=some σ'):o.wp P a w (Nx B E w0 N σ') Q:=by
 obtain⟨dst,op,ty,pos,after,guard⟩:=o;cases op<;>simp only[f8] at hc<;>first|cases hc|skip
 rename_i c;obtain⟨callee,args,argTypes⟩:=c;split at hc
 ·rename_i g di;simp only at di;subst di;simp only[zaa,beq_iff_eq] at hc;obtain⟨⟨rfl,c1⟩,c2⟩:=hc;simp only[exec] at hx;split at hx
  ·rename_i v0 v7;injection hx with hx;subst hx;exact ads r Gc hN rfl c1 c2 (aoR v7 σ)
  ·cases hx
 ·cases hc
theorem aps (r:R B E w0 N σ a w G) {T:br} (Gd:Au P T) {f:FuncId} {ms:List MO} (hN:∀n,o.dst=some n->n<N) (hc:f8 P o (.pF f ms)=true) (hx:exec T o.dst (.pF f ms) σ=some σ'):o.wp P a w (Nx B E w0 N σ') Q:=by
 obtain⟨dst,op,ty,pos,after,guard⟩:=o;cases op<;>simp only[f8] at hc<;>first|cases hc|skip
 rename_i c;obtain⟨callee,args,argTypes⟩:=c;split at hc
 ·rename_i g di;simp only at di;subst di;simp only[zaa,beq_iff_eq] at hc;obtain⟨⟨rfl,c1⟩,c2⟩:=hc;simp only[exec] at hx;split at hx
  ·rename_i v0 v7;injection hx with hx;subst hx;exact apc r Gd hN rfl c1 c2 v7
  ·cases hx
 ·cases hc
theorem apt (r:R B E w0 N σ a w G) {T:br} (Gd:Au P T) {m:Mode} {f:FuncId} {ms:List MO} (hN:∀n,o.dst=some n->n<N) (hc:f8 P o (.pG m f ms)=true) (hx:exec T o.dst (.pG m f ms) σ=some σ'):o.wp P a w (Nx B E w0 N σ') Q:=by
 obtain⟨dst,op,ty,pos,after,guard⟩:=o;cases op<;>simp only[f8] at hc<;>first|cases hc|skip
 rename_i c;obtain⟨callee,args,argTypes⟩:=c;split at hc
 ·rename_i g di;simp only at di;subst di;simp only[zaa,beq_iff_eq] at hc;obtain⟨⟨rfl,c1⟩,c2⟩:=hc;simp only[exec] at hx;exact apd r Gd hN rfl c1 c2 hx
 ·cases hc
theorem apq (r:R B E w0 N σ a w G) {T:br} (Gc:Fm P T) {f:FuncId} {ms:List MO} (hN:∀n,o.dst=some n->n<N) (hc:f8 P o (.mn f ms)=true) (hx:exec T o.dst (.mn f ms) σ=some σ'):o.wp P a w (Nx B E w0 N σ') Q:=by
 obtain⟨dst,op,ty,pos,after,guard⟩:=o;cases op<;>simp only[f8] at hc<;>first|cases hc|skip
 rename_i c;obtain⟨callee,args,argTypes⟩:=c;split at hc
 ·rename_i g di;simp only at di;subst di;simp only[zaa,beq_iff_eq] at hc;obtain⟨⟨rfl,c1⟩,c2⟩:=hc;simp only[exec] at hx;exact ads r Gc hN rfl c1 c2 hx
 ·cases hc
set_option maxHeartbeats 1000000 in
theorem ady (r:R B E w0 N σ a w G) {T:br} (hT:MN P T) (hTM:MP P T) (Gc:Fm P T) (Gd:Au P T) (hF:∀f M,br.find T.pure f=some M->cc P f=true) {mo:bm} (hN:∀n,o.dst=some n->n<N) (hc:f8 P o mo=true) (hx:exec T o.dst mo σ=some σ'):
  o.wp P a w (Nx B E w0 N σ') Q:=by
 obtain⟨dst,op,ty,pos,after,guard⟩:=o;cases mo with
 |mv m=>
  simp only[exec] at hx;injection hx with hx;subst hx;cases op<;>simp only[f8] at hc<;>first|cases hc|skip
  ·exact adw r (.inl rfl) hN hc
  ·exact adw r (.inr rfl) hN hc
 |pick c x y=>
  cases op<;>simp only[f8] at hc<;>first|cases hc|skip
  rename_i c' x' y';simp only[zaa] at hc;simp only[exec] at hx;split at hx
  ·rename_i b hb;have:=apu (P:=P) (Q:=Q) r (o:=⟨dst,.pick c' x' y',ty,pos,after,guard⟩) rfl hN hc.1.1 hc.1.2 hc.2 hb;cases b<;>simp at hx<;>subst hx<;>exact this
  ·cases hx
 |alloc zs=>
  cases op<;>simp only[f8] at hc<;>first|cases hc|skip
  obtain⟨i,z,h1,h2,h3⟩:=acH hc;simp only[exec] at hx;split at hx
  ·rename_i n;split at hx
   ·rename_i σ1 hi;injection hx with hx;subst hx;exact ao3 r rfl rfl (hN n rfl) h1 h2 h3 hi
   ·cases hx
  ·cases hx
 |box sz m=>
  cases op<;>simp only[f8] at hc<;>first|cases hc|skip
  simp only[exec] at hx;split at hx
  ·rename_i n ag cs gY;split at hx
   ·split at hx
    ·rename_i σ1 hi;injection hx with hx;subst hx;exact ao7 r rfl rfl (hN _ rfl) hc gY hi
    ·cases hx
   ·cases hx
  ·cases hx
 |build zs ms=>
  cases op<;>simp only[f8] at hc<;>first|cases hc|skip
  simp only[exec] at hx;split at hx
  ·rename_i cs gY;injection hx with hx;subst hx;unfold acB at hc;split at hc
   ·rename_i AL hu;split at hc
    ·rename_i places lO;simp only[zaa] at hc;obtain⟨i,z,h1,h2,h3⟩:=acH hc.1;exact ao9 r rfl hN h1 h2 hu lO h3 hc.2 gY
    ·cases hc
   ·cases hc
  ·cases hx
 |gy sz ms=>
  cases op<;>simp only[f8] at hc<;>first|cases hc|skip
  simp only[zaa,beq_iff_eq,decide_eq_true_eq] at hc;obtain⟨⟨⟨⟨c1,c2⟩,c3⟩,c4⟩,c5⟩:=hc;obtain⟨e,i,z,h1,h2,h3,h4,h5,_⟩:=FH c1;simp only[exec] at hx;split at hx
  ·rename_i n es ow σ1 GA;split at hx
   ·rename_i σ2 hi;injection hx with hx;subst hx;refine ao8 r rfl rfl (hN _ rfl) h1 h2 h3 h4 h5 c2 c3 c4 (fun j p m hp hm=>?_) GA hi;exact(acF c5).2 j p.2 m (by simp[hp]) hm
   ·cases hx
  ·cases hx
 |load ag sz m=>
  cases op<;>simp only[f8] at hc<;>first|cases hc|skip
  simp only[zaa] at hc;simp only[exec] at hx;split at hx
  ·rename_i p hp;split at hx
   ·rename_i cs gY;injection hx with hx;subst hx;exact apn r rfl hN hc.1 hc.2 hp gY
   ·cases hx
  ·cases hx
 |tF ag sz m=>
  cases op<;>simp[f8] at hc
 |store sz mx my=>
  cases op<;>simp only[f8] at hc<;>first|cases hc|skip
  simp only[zaa] at hc;obtain⟨⟨⟨c0,c1⟩,c2⟩,c3⟩:=hc;have hd:dst=none:=by simpa using c0
  unfold acG at c3;split at c3
  ·rename_i i hi;simp only[zaa,beq_iff_eq,decide_eq_true_eq] at c3;simp only[exec] at hx;split at hx
   ·rename_i n k aY off ag vs hp hv;split at hx
    ·rename_i hl;split at hx
     ·rename_i cs hn;split at hx
      ·rename_i hk;injection hx with hx;subst hx;exact apv r rfl hd c1 c2 hi c3.1 c3.2 hp hv hl hn hk.1 hk.2
      ·cases hx
     ·rename_i gr m rs xs hn;split at hx
      ·rename_i za;subst za;split at hx
       ·rename_i el ra;exact apx r rfl hd c1 c2 hi c3.1 c3.2 hp hv hl hn ra hx
       ·cases hx
      ·cases hx
     ·cases hx
    ·cases hx
   ·rename_i n k aY off s i ag vs hp hv;split at hx
    ·rename_i hl;split at hx
     ·rename_i gr rs xs hn;split at hx
      ·rename_i za;subst za;split at hx
       ·rename_i aM nA;injection hx with hx;subst hx;exact apw r rfl hd c1 c2 hi c3.1 c3.2 hp hv hl hn nA
       ·cases hx
      ·cases hx
     ·cases hx
    ·cases hx
   ·cases hx
  ·cases c3
 |jZ m=>
  cases op<;>simp only[f8] at hc<;>first|cases hc|skip
  simp only[exec] at hx;split at hx
  ·rename_i n k sz off hp;split at hx
   ·rename_i hn;injection hx with hx;subst hx;rw[<-hp];exact adx r rfl hN hc (.inl ⟨_,_,_,_,hp,hn⟩)
   ·cases hx
  ·rename_i xs off hp;injection hx with hx;subst hx;rw[<-hp];exact adx r rfl hN hc (.inr ⟨_,_,hp⟩)
  ·cases hx
 |bin BP mx my=>
  cases op<;>simp only[f8] at hc<;>first|cases hc|skip
  simp only[zaa,decide_eq_true_eq] at hc;obtain⟨⟨rfl,c1⟩,c2⟩:=hc;simp only[exec] at hx;split at hx
  ·rename_i c hb;injection hx with hx;subst hx;exact ao5 r rfl hN c1 c2 hb
  ·cases hx
 |sZ BP mx my=>
  cases op<;>simp only[f8] at hc<;>first|cases hc|skip
  simp only[zaa,decide_eq_true_eq] at hc;obtain⟨⟨⟨rfl,c1⟩,c2⟩,c3⟩:=hc;unfold ago at c3;split at c3
  ·rename_i ht;simp only[exec] at hx;split at hx
   ·rename_i c hb;injection hx with hx;subst hx;exact ao6 r rfl hN c1 c2 ht hb
   ·cases hx
  ·cases c3
 |un BP mx=>
  cases op<;>simp only[f8] at hc<;>first|cases hc|skip
  simp only[zaa,decide_eq_true_eq] at hc;obtain⟨rfl,c1⟩:=hc;simp only[exec] at hx;split at hx
  ·rename_i c hb;injection hx with hx;subst hx;exact apy r rfl hN c1 hb
  ·cases hx
 |conv k mx=>
  cases op<;>simp only[f8] at hc<;>first|cases hc|skip
  simp only[zaa] at hc;obtain⟨c1,c2⟩:=hc;unfold acD at c2;split at c2
  ·rename_i d k' ht hu;have hk:k=k':=by simpa using c2
   subst hk;simp only[exec] at hx;split at hx
   ·rename_i k2 n hb;injection hx with hx;subst hx;exact apf r rfl hN c1 ht hu hb
   ·cases hx
  ·cases c2
 |kv m sz by_ zs ml mc=>
  cases op<;>simp only[f8] at hc<;>first|cases hc|skip
  simp only[zaa] at hc;obtain⟨⟨c1,c2⟩,c3⟩:=hc;obtain⟨e,i,z,h1,h2,h3,h4,h5,h6⟩:=FH c3;simp only[zaa,beq_iff_eq,decide_eq_true_eq] at h6;simp only[exec] at hx;split at hx
  ·rename_i n q q' hq gz;split at hx
   ·rename_i eQ;obtain⟨k1,k2,k3,k4⟩:=eQ;split at hx
    ·rename_i σ1 hi;injection hx with hx;subst hx;exact apo r rfl rfl (hN _ rfl) c1 c2 h1 h2 h3 h4 h6.1.1 h6.1.2 h5 h6.2 hq gz k1 k2 k3 k4 hi
    ·cases hx
   ·cases hx
  ·cases hx
 |slice sz mx QD QB=>
  cases op<;>simp only[f8] at hc<;>first|cases hc|skip
  rename_i t x lo hi mm;cases mm<;>simp only[f8] at hc<;>first|cases hc|skip
  simp only[zaa] at hc;obtain⟨⟨⟨c1,c2⟩,c3⟩,c4⟩:=hc;obtain⟨e,i,z,h1,h2,h3,h4,h5,_⟩:=FH c4;have vY:∀l,(match QD with|none=>some 0|some l=>(σ.ev l).fm)=some l->(lo=none/\l=0)\/∃y my,lo=some y/\df y my=true/\(σ.ev my).fm=some l:=by
   intro l hl;cases QD with
   |none=>cases lo<;>simp[FF] at c2;simp at hl;exact .inl ⟨rfl,hl.symm⟩
   |some my=>cases lo<;>simp[FF] at c2;exact .inr ⟨_,my,rfl,c2,hl⟩
  have y4:∀(len:Nat) hh,(match QB with|none=>some (len:Int)|some h=>(σ.ev h).fm)=some hh->(hi=none/\hh=len)\/∃y my,hi=some y/\df y my=true/\(σ.ev my).fm=some hh:=by
   intro len l hl;cases QB with
   |none=>cases hi<;>simp[FF] at c3;simp at hl;exact .inl ⟨rfl,hl.symm⟩
   |some my=>cases hi<;>simp[FF] at c3;exact .inr ⟨_,my,rfl,c3,hl⟩
  simp only[exec] at hx;split at hx
  ·rename_i n s l0 len l hp hl;split at hx
   ·rename_i hh Vt;split at hx
    ·rename_i eQ;obtain⟨rfl,k1,k2,k3,k4⟩:=eQ;injection hx with hx;subst hx;exact adz r rfl hN c1 h1 h2 h4 h5 (vY l hl) (y4 len hh Vt) k1 k2 k3 (.inl ⟨n,l0,hp,k4,rfl⟩)
    ·cases hx
   ·cases hx
  ·rename_i s xs l hp hl;split at hx
   ·rename_i hh Vt;split at hx
    ·rename_i eQ;obtain⟨rfl,k1,k2,k3⟩:=eQ;injection hx with hx;subst hx;exact adz r rfl hN c1 h1 h2 h4 h5 (vY l hl) (y4 xs.length hh Vt) k1 k2 k3 (.inr ⟨xs,hp,rfl,rfl⟩)
    ·cases hx
   ·cases hx
  ·cases hx
 |tail sz mx ml=>
  cases op<;>simp[f8] at hc
 |q8 off mx=>
  cases op<;>simp only[f8] at hc<;>first|cases hc|skip
  simp only[zaa] at hc;simp only[exec] at hx;split at hx
  ·rename_i n k sz q hp;split at hx
   ·rename_i hn;injection hx with hx;subst hx;exact adu r rfl hN hc.1 hc.2 (.inl ⟨_,_,_,_,hp,hn,rfl⟩)
   ·cases hx
  ·rename_i xs q hp;injection hx with hx;subst hx;exact adu r rfl hN hc.1 hc.2 (.inr ⟨_,_,hp,rfl⟩)
  ·cases hx
 |qE sz mx mi=>
  cases op<;>simp only[f8] at hc<;>first|cases hc|skip
  simp only[zaa] at hc;obtain⟨⟨c1,c2⟩,c3⟩:=hc;obtain⟨e,i,z,h1,h2,h3,h4,h5,_⟩:=FH c3;simp only[exec] at hx;split at hx
  ·rename_i n s lo len k hp hk;split at hx
   ·rename_i eQ;obtain⟨rfl,k1,k2,k3⟩:=eQ;injection hx with hx;subst hx;exact adv r rfl hN c1 c2 h1 h2 h4 hk k1 (.inl ⟨_,_,_,hp,k2,k3,rfl⟩)
   ·cases hx
  ·rename_i s xs k hp hk;split at hx
   ·rename_i eQ;obtain⟨rfl,k1⟩:=eQ;split at hx
    ·rename_i el ra;injection hx with hx;subst hx;exact adv r rfl hN c1 c2 h1 h2 h4 hk k1 (.inr ⟨_,_,hp,ra,rfl⟩)
    ·cases hx
   ·cases hx
  ·rename_i n kk aY off s len k hp hk;split at hx
   ·rename_i s' ys V3;split at hx
    ·rename_i eQ;obtain⟨rfl,k1,k2⟩:=eQ;injection hx with hx;subst hx;exact apm r rfl hN c1 c2 h1 h2 h4 hk k1 k2 hp V3
    ·cases hx
   ·cases hx
  ·cases hx
 |ext i mx=>
  cases op<;>simp only[f8] at hc<;>first|cases hc|skip
  simp only[zaa,beq_iff_eq] at hc;obtain⟨rfl,c1⟩:=hc;simp only[exec] at hx;split at hx
  ·rename_i xs hp;split at hx
   ·rename_i ag cs gY;injection hx with hx;subst hx;refine apl r rfl hN c1 hp gY fun cM=>?_;subst cM;obtain⟨y1,_⟩:=r.ev c1;rw[hp] at y1;obtain⟨vs,_,hl,hv⟩:=y1;have hi:i<vs.length:=by rw[hl];exact(zah.1 gY).1
    have:eO w G σ.h cs [vs[i]]:=hv i (false,cs) vs[i] gY (zad hi);exact zaV.1 this.1.symm
   ·cases hx
  ·cases hx
 |uv ag off sz mx=>
  cases op<;>simp[f8] at hc
 |tP f gu mx=>
  cases op<;>simp[f8] at hc
 |len mx=>
  cases op<;>simp only[f8] at hc<;>first|cases hc|skip
  rename_i c;obtain⟨callee,args,argTypes⟩:=c;split at hc
  ·rename_i x t di ha ht;simp only at di ha ht;subst di;have yR:args=#[x]:=by apply zaw;exact ha
   have JY:argTypes=#[t]:=by apply zaw;exact ht
   subst yR JY;simp only[zaa] at hc;obtain⟨c1,c2⟩:=hc;split at c2
   ·rename_i e hu;simp only[exec] at hx;split at hx
    ·rename_i n sz lo len hp;split at hx
     ·rename_i hn;injection hx with hx;subst hx;exact Pg r rfl hN c1 hu (.inl ⟨_,_,_,hp,hn⟩)
     ·cases hx
    ·rename_i sz xs hp;injection hx with hx;subst hx;exact Pg r rfl hN c1 hu (.inr (.inl ⟨_,_,hp,rfl⟩))
    ·rename_i sz hp;injection hx with hx;subst hx;exact Pg r rfl hN c1 hu (.inr (.inr (.inl ⟨_,hp,rfl⟩)))
    ·rename_i n k aY off sz len hp;split at hx
     ·rename_i s ys xD;injection hx with hx;subst hx;exact Pg r rfl hN c1 hu (.inr (.inr (.inr ⟨_,_,_,_,_,_,_,_,hp,xD,rfl⟩)))
     ·cases hx
    ·cases hx
   ·cases c2
  ·cases hc
 |append fl sz by_ mx my=>
  cases op<;>simp only[f8] at hc<;>first|cases hc|skip
  rename_i c;obtain⟨callee,args,argTypes⟩:=c;split at hc
  ·rename_i x y t t' di ha ht;simp only at di ha ht;subst di;have yR:args=#[x,y]:=by apply zaw;exact ha
   have JY:argTypes=#[t,t']:=by apply zaw;exact ht
   subst yR JY;simp only[zaa,beq_iff_eq] at hc;obtain⟨⟨⟨rfl,c1⟩,c2⟩,c3⟩:=hc;obtain⟨e,i,z,h1,h2,h3,h4,h5,h6⟩:=FH c3;simp only[zaa,beq_iff_eq,decide_eq_true_eq] at h6;simp only[exec] at hx;split at hx
   ·cases hx
   ·rename_i n;split at hx
    ·cases hx
    ·rename_i xs m σ1 hl;split at hx
     ·cases hx
     ·rename_i ys m2 σ2 hr;split at hx
      ·rename_i hb;split at hx
       ·rename_i j8 hi;injection hx with hx;subst hx;exact ao4 r rfl rfl (hN _ rfl) c1 c2 h1 h2 h3 h4 h5 h6.1.1 h6.1.2 h6.2 hl hr hb hi
       ·cases hx
      ·cases hx
  ·cases hc
 |copy sz mx my=>
  cases op<;>simp[f8] at hc
 |nY zc mx=>
  cases op<;>simp only[f8] at hc<;>first|cases hc|skip
  rename_i c;obtain⟨callee,args,argTypes⟩:=c;split at hc
  ·rename_i x t di ha ht;simp only at di ha ht;subst di;have yR:args=#[x]:=by apply zaw;exact ha
   have JY:argTypes=#[t]:=by apply zaw;exact ht
   subst yR JY;simp only[zaa] at hc;obtain⟨c1,c3⟩:=hc;obtain⟨e,i,z,h1,h2,h3,h4,h5,h6⟩:=FH c3;simp only[exec] at hx;split at hx
   ·rename_i n s lo len hp;split at hx
    ·rename_i gr m rs xs hn;split at hx
     ·rename_i eQ;obtain⟨rfl,rfl,k0,k1,k2,k3⟩:=eQ;injection hx with hx;subst hx;exact ape r rfl hN c1 h1 h2 h3 h6 k0 hp hn k1 k2 k3
     ·cases hx
    ·cases hx
   ·cases hx
  ·cases hc
 |mm b mx my=>
  cases op<;>simp only[f8] at hc<;>first|cases hc|skip
  rename_i c;obtain⟨callee,args,argTypes⟩:=c;have cN:∀x y,callee=.builtin (if b=true then .max else .min)->args=#[x,y]->df x mx=true->df y my=true->
    Oper.wp P ⟨dst,.call ⟨callee,args,argTypes⟩,ty,pos,after,guard⟩ a w (Nx B E w0 N σ') Q:=by
   intro x y di ha c1 c2;subst di ha;simp only[exec] at hx;split at hx
   ·rename_i k n k' m h1 h2;have:=app (P:=P) (Q:=Q) (mx':=b) r (o:=⟨dst,.call ⟨.builtin (if b=true then .max else .min),#[x,y],argTypes⟩,ty,pos,after,guard⟩) rfl hN c1 c2 h1 h2
    cases b
    ·simp at hx this;split at hx<;>(rename_i cC;injection hx with hx;subst hx;simpa[cC] using this)
    ·simp at hx this;split at hx<;>(rename_i cC;injection hx with hx;subst hx;simpa[cC] using this)
   ·cases hx
  split at hc
  ·rename_i x y di ha;simp only[zaa] at hc;obtain⟨⟨rfl,c1⟩,c2⟩:=hc;exact cN x y di (by apply zaw;exact ha) c1 c2
  ·rename_i x y di ha;simp only[zaa,Bool.not_eq_true'] at hc;obtain⟨⟨rfl,c1⟩,c2⟩:=hc;exact cN x y di (by apply zaw;exact ha) c1 c2
  ·cases hc
 |call m f ms=>
  cases op<;>simp only[f8] at hc<;>first|cases hc|skip
  rename_i c;obtain⟨callee,args,argTypes⟩:=c;split at hc
  ·rename_i g di;simp only at di;subst di;simp only[zaa,beq_iff_eq] at hc;obtain⟨⟨rfl,c1⟩,c2⟩:=hc;exact apa r hT hN rfl c1 c2 hx
  ·cases hc
 |qU f ms=>
  cases op<;>simp[f8] at hc
 |g7 m f ms=>
  cases op<;>simp only[f8] at hc<;>first|cases hc|skip
  rename_i c;obtain⟨callee,args,argTypes⟩:=c;split at hc
  ·rename_i g di;simp only at di;subst di;simp only[zaa,beq_iff_eq] at hc;obtain⟨⟨rfl,c1⟩,c2⟩:=hc;simp only[exec] at hx;exact apb r hTM hN rfl c1 c2 hx
  ·cases hc
 |mn f ms=>exact apq r Gc hN hc hx
 |pF f ms=>exact aps r Gd hN hc hx
 |nX f ms=>exact apr r Gc hN hc hx
 |pG m f ms=>exact apt r Gd hN hc hx
 |uW f ms=>
  cases op<;>simp[f8] at hc
 |qV m mx ms=>
  cases op<;>simp[f8] at hc
end
def bm.fG:bm->Nat
 |.mv _|.pick ..|.build ..|.bin ..|.sZ ..|.un ..|.conv ..|.ext ..|.uv ..|.mm ..|.uW ..=>0
 |.alloc _|.box ..|.load ..|.jZ _|.kv ..|.slice ..|.q8 ..|.qE ..|.len _|.tP ..|.call ..|.qV ..|.qU ..|.pF ..|.nX ..=>1
 |_=>2
def St.dX (σ:St):List (Nat×aK)->Option St
 |[]=>some σ
 |(n,b)::l=>match σ.ins n b with
  |some σ1=>σ1.dX l
  |none=>none
def kK (m:Mode):Nat->List C->List ao×Nat×List (Nat×aK)
 |nm,[]=>([],nm,[])
 |nm,.list sz xs::cs=>(.sl nm sz 0 xs.length::(kK m (nm+1) cs).1,(kK m (nm+1) cs).2.1,(nm,.row true m sz xs)::(kK m (nm+1) cs).2.2)
 |nm,x::cs=>(.c x::(kK m nm cs).1,(kK m nm cs).2.1,(kK m nm cs).2.2)
def Bt (m:Mode):Nat->List Dv->Option (List (Bool×List ao)×List (Nat×aK))
 |_,[]=>some ([],[])
 |nm,(.ptr,_)::_=>none
 |nm,(k,cs)::ds=>match Bt m (kK m nm cs).2.1 ds with
  |some (ls,bs)=>some ((decide (k=.agg),(kK m nm cs).1)::ls,(kK m nm cs).2.2++bs)
  |none=>none
theorem agi (σ:St) (l l':List (Nat×aK)):σ.dX (l++l')=(σ.dX l).bind fun σ1=>σ1.dX l':=by
 induction l generalizing σ with
 |nil=>rfl
 |cons x l ih=>
  obtain⟨n,b⟩:=x;simp only[zaU,St.dX];cases σ.ins n b with
  |none=>rfl
  |some σ1=>exact ih σ1
theorem P9 (m:Mode):∀(cs:List C) (σ:St) (nm:Nat),σ.imp m nm cs=(σ.dX (kK m nm cs).2.2).map fun σ1=>((kK m nm cs).1,(kK m nm cs).2.1,σ1)
 |[],σ,nm=>rfl
 |.list sz xs::cs,σ,nm=>by
  simp only[St.imp,kK,St.dX];cases σ.ins nm (.row true m sz xs) with
  |none=>rfl
  |some σ1=>
   simp only[P9 m cs];cases σ1.dX (kK m (nm+1) cs).2.2<;>rfl
 |.int k n::cs,σ,nm=>by
  simp only[St.imp,kK,P9 m cs];cases σ.dX (kK m nm cs).2.2<;>rfl
 |.bool b::cs,σ,nm=>by
  simp only[St.imp,kK,P9 m cs];cases σ.dX (kK m nm cs).2.2<;>rfl
theorem WC (m:Mode):∀(ds:List Dv) (σ:St) (nm:Nat),σ.mW m nm ds=(Bt m nm ds).bind fun x=>(σ.dX x.2).map fun σ1=>(x.1,σ1)
 |[],σ,nm=>rfl
 |(k,cs)::ds,σ,nm=>by
  have cN:(match σ.imp m nm cs with
    |some (l,iu,σ1)=>match σ1.mW m iu ds with
     |some (ls,σ2)=>some ((decide (k=K.agg),l)::ls,σ2)
     |none=>none
    |none=>none)=(match Bt m (kK m nm cs).2.1 ds with
    |some (ls,bs)=>some ((decide (k=K.agg),(kK m nm cs).1)::ls,(kK m nm cs).2.2++bs)
    |none=>none).bind fun x=>(σ.dX x.2).map fun σ1=>(x.1,σ1):=by
   rw[P9];have ih:=fun(σ1:St)=>WC m ds σ1 (kK m nm cs).2.1;cases h1:σ.dX (kK m nm cs).2.2 with
   |none=>
    cases h2:Bt m (kK m nm cs).2.1 ds with
    |none=>rfl
    |some x=>simp[agi,h1]
   |some σ1=>
    simp only[zab,ih];cases h2:Bt m (kK m nm cs).2.1 ds with
    |none=>rfl
    |some x=>
     simp[agi,h1];cases σ1.dX x.2<;>rfl
  cases k with
  |ptr=>rfl
  |one=>exact cN
  |agg=>exact cN
def FB (T:br) (m:Mode) (d:Option Nat) (f:FuncId) (as:List aA) (h:Nat->Option aK):Option (aA×List (Nat×aK)):=
 match pt h as with
 |some ds=>match br.find T.pure f with
  |some M=>match M ds with
   |some rs=>match Bt m (BK d) rs with
    |some (ls,bs)=>some (qe ls,bs)
    |none=>none
   |none=>none
  |none=>none
 |none=>none
def ahj (vs:List aA) (f:FuncId):Option aA:=
 match vs.mapM (fun v=>match v with|.one c=>if c.wj=true then none else some c|_=>none) with
 |some cs=>if cs.all ao.QU=true then some (.one (.fn f cs)) else none
 |none=>none
def rd (T:br) (d:Option Nat) (op:bm) (ev:MO->aA) (h:Nat->Option aK):Option (aA×List (Nat×aK)):=
 match op with
 |.mv x=>some (ev x,[])
 |.pick c x y=>match ev c with
  |.one (.c (.bool b))=>if b=true then some (ev x,[]) else some (ev y,[])
  |_=>none
 |.build zs parts=>match tS ev zs parts with
  |some cs=>some (.agg cs,[])
  |none=>none
 |.bin op x y=>match AA op (ev x) (ev y) with
  |some c=>some (.one (.c c),[])
  |none=>none
 |.sZ op x y=>match Fx op (ev x) (ev y) with
  |some c=>some (.one (.c c),[])
  |none=>none
 |.un op x=>match Ie op (ev x) with
  |some c=>some (.one (.c c),[])
  |none=>none
 |.conv k x=>match ev x with
  |.one (.c (.int _ n))=>some (.one (.c (.int k (k.wrap n))),[])
  |_=>none
 |.ext i x=>match ev x with
  |.cF xs=>match xs[i]? with
   |some (ag,cs)=>some (qN ag cs,[])
   |none=>none
  |_=>none
 |.uv ag off sz x=>match ev x with
  |.agg cs=>match sub cs off sz with
   |some l=>some (qN ag l,[])
   |none=>none
  |_=>none
 |.tP f gu x=>match ev x with
  |.one (.sl n sz lo len)=>if(h n).isSome=true then some (.agg (El gu len (.sl n sz lo len)),[]) else none
  |.one (.c (.list sz xs))=>some (.agg (El gu xs.length (.c (.list sz xs))),[])
  |.one (.nil sz)=>some (.agg (El gu 0 (.nil sz)),[])
  |_=>none
 |.mm mx x y=>match ev x,ev y with
  |.one (.c (.int k a)),.one (.c (.int k' b))=>if mx=true then(if a<b then some (.one (.c (.int k b)),[]) else some (.one (.c (.int k a)),[]))
   else(if b<a then some (.one (.c (.int k b)),[]) else some (.one (.c (.int k a)),[]))
  |_,_=>none
 |.uW f xs=>match ahj (xs.map ev) f with
  |some v=>some (v,[])
  |none=>none
 |.alloc zs=>match d with
  |some n=>some (.one (.ptr n 0 0 0),[(n,.box zs)])
  |none=>none
 |.box sz x=>match d,(ev x).cells? with
  |some n,some (_,cs)=>if cs.length=sz then some (.one (.ptr n 0 0 0),[(n,.box cs)]) else none
  |_,_=>none
 |.load ag sz x=>match ev x with
  |.one p=>match loadAt h p sz with
   |some cs=>some (qN ag cs,[])
   |none=>none
  |_=>none
 |.jZ x=>match ev x with
  |.one (.ptr n k sz off)=>if(h n).isSome=true then some (.one (.ptr n k sz off),[]) else none
  |.one (.dR xs off)=>some (.one (.dR xs off),[])
  |_=>none
 |.kv m sz by_ zs l c=>match d,(ev l).fm,(ev c).fm with
  |some n,some a,some b=>if a<=b/\0<=a/\b.toNat*by_<=fo/\zs.length=sz then
   some (.one (.sl n sz 0 a.toNat),[(n,.row true m sz (List.replicate a.toNat zs))])
   else none
  |_,_,_=>none
 |.slice sz x lo hi=>
  let XB:Option Int:=match lo with|none=>some 0|some l=>(ev l).fm
  match ev x,XB with
  |.one (.sl n s l0 len),some l=>
   match(match hi with|none=>some (len:Int)|some h=>(ev h).fm) with
   |some hh=>if s=sz/\0<=l/\l<=hh/\hh<=len/\(h n).isSome=true then some (.one (.sl n s (l0+l.toNat) (hh - l).toNat),[]) else none
   |none=>none
  |.one (.c (.list s xs)),some l=>
   match(match hi with|none=>some (xs.length:Int)|some h=>(ev h).fm) with
   |some hh=>if s=sz/\0<=l/\l<=hh/\hh<=xs.length then some (.one (.c (.list s ((xs.drop l.toNat).take (hh - l).toNat))),[]) else none
   |none=>none
  |_,_=>none
 |.q8 off x=>match ev x with
  |.one (.ptr n k sz o)=>if(h n).isSome=true then some (.one (.ptr n k sz (o+off)),[]) else none
  |.one (.dR xs o)=>some (.one (.dR xs (o+off)),[])
  |_=>none
 |.qE sz x i=>match ev x,(ev i).fm with
  |.one (.sl n s lo len),some k=>if s=sz/\0<=k/\k<len/\(h n).isSome=true then some (.one (.ptr n (lo+k.toNat) s 0),[]) else none
  |.one (.c (.list s xs)),some k=>if s=sz/\0<=k then
   match xs[k.toNat]? with
   |some e=>some (.one (.dR e 0),[])
   |none=>none
   else none
  |.one (.cJ n kk aY off s len),some k=>match dH h (.cJ n kk aY off s len) with
   |some (.list s' ys)=>if s'=sz/\0<=k/\k<ys.length then some (.one (.eG n kk aY off sz k.toNat),[]) else none
   |_=>none
  |_,_=>none
 |.len x=>match ev x with
  |.one (.sl n sz lo len)=>if(h n).isSome=true then some (.one (.c (.int .i64 len)),[]) else none
  |.one (.c (.list sz xs))=>some (.one (.c (.int .i64 xs.length)),[])
  |.one (.nil sz)=>some (.one (.c (.int .i64 0)),[])
  |.one (.cJ n k aY off sz len)=>match dH h (.cJ n k aY off sz len) with
   |some (.list s ys)=>some (.one (.c (.int .i64 ys.length)),[])
   |_=>none
  |_=>none
 |.call m f xs=>FB T m d f (xs.map ev) h
 |.qU f xs=>(FC T f (xs.map ev) h).map fun v=>(v,[])
 |.pF f xs=>(tc T f (xs.map ev) h).map fun v=>(v,[])
 |.nX f xs=>(C2 T f (xs.map ev)).map fun v=>(v,[])
 |.qV m x xs=>match ev x with
  |.one (.fn f ed)=>FB T m d f (xs.map ev++ed.map .one) h
  |_=>none
 |_=>none
def fin (d:Option Nat) (σ:St) (x:aA×List (Nat×aK)):Option St:=(σ.dX x.2).map (·.put d x.1)
theorem ada (T:br) (m:Mode) (d:Option Nat) (f:FuncId) (as:List aA) (σ:St):yI T m d f as σ=(FB T m d f as σ.h).bind (fin d σ):=by
 unfold yI FB;cases pt σ.h as with
 |none=>rfl
 |some ds=>
  simp only
  cases br.find T.pure f with
  |none=>rfl
  |some M=>
   simp only
   cases M ds with
   |none=>rfl
   |some rs=>
    simp only[WC];cases Bt m (BK d) rs with
    |none=>rfl
    |some x=>
     simp only[zai,fin];cases σ.dX x.2<;>rfl
theorem tf (T:br) (d:Option Nat) (op:bm) (σ:St) (hc:op.fG<=1):exec T d op σ=(rd T d op σ.ev σ.h).bind (fin d σ):=by
 cases op<;>simp only[bm.fG] at hc<;>first|omega|skip
 case call m f xs=>exact ada _ _ _ _ _ _
 case qU f xs=>
  simp only[exec,rd];cases FC T f (xs.map σ.ev) σ.h with
  |none=>rfl
  |some v=>rfl
 case pF f xs=>
  simp only[exec,rd];cases tc T f (xs.map σ.ev) σ.h with
  |none=>rfl
  |some v=>rfl
 case nX f xs=>
  simp only[exec,rd];cases C2 T f (xs.map σ.ev) with
  |none=>rfl
  |some v=>rfl
 case qV m x xs=>
  simp only[exec,rd];split
  ·rename_i f ed h1;simp only[h1];exact ada _ _ _ _ _ _
  ·rename_i dE;split
   ·rename_i f ed h1;exact absurd h1 (dE f ed)
   ·rfl
 case alloc zs=>
  simp only[exec,rd];split
  ·rename_i n;simp only[zai,fin,St.dX];cases σ.ins n (.box zs)<;>rfl
  ·rfl
 case box sz x=>
  simp only[exec,rd];split
  ·rename_i n ag cs h1;simp only[h1];split
   ·simp only[zai,fin,St.dX];cases σ.ins n (.box cs)<;>rfl
   ·rfl
  ·rename_i dE;split
   ·rename_i n ag cs h1;exact absurd h1 (dE n ag cs rfl)
   ·rfl
 case kv m sz by_ zs l c=>
  simp only[exec,rd];split
  ·rename_i n a b h1 h2;simp only[h1,h2];split
   ·simp only[zai,fin,St.dX];cases σ.ins n (.row true m sz (List.replicate a.toNat zs))<;>rfl
   ·rfl
  ·rename_i dE;split
   ·rename_i n a b h1 h2;exact absurd h2 (dE n a b rfl h1)
   ·rfl
 case uW f xs=>
  simp only[exec,rd,ahj];cases (xs.map σ.ev).mapM (fun v=>match v with|.one c=>if c.wj=true then none else some c|_=>none) with
  |none=>rfl
  |some cs=>
   simp only
   split<;>rfl
 case mv x=>rfl
 case pick c x y=>
  simp only[exec,rd];generalize σ.ev c=v;cases v with
  |one v=>cases v with
   |c v=>cases v with
    |bool b=>cases b<;>rfl
    |_=>rfl
   |_=>rfl
  |_=>rfl
 case build zs ps=>simp only[exec,rd];cases tS σ.ev zs ps<;>rfl
 case bin op x y=>simp only[exec,rd];cases AA op (σ.ev x) (σ.ev y)<;>rfl
 case sZ op x y=>simp only[exec,rd];cases Fx op (σ.ev x) (σ.ev y)<;>rfl
 case un op x=>simp only[exec,rd];cases Ie op (σ.ev x)<;>rfl
 case conv k x=>
  simp only[exec,rd];generalize σ.ev x=v;cases v with
  |one v=>cases v with
   |c v=>cases v<;>rfl
   |_=>rfl
  |_=>rfl
 case ext i x=>
  simp only[exec,rd];generalize σ.ev x=v;cases v with
  |cF xs=>
   simp only
   cases xs[i]? <;>rfl
  |_=>rfl
 case uv ag off sz x=>
  simp only[exec,rd];generalize σ.ev x=v;cases v with
  |agg cs=>
   simp only
   cases sub cs off sz<;>rfl
  |_=>rfl
 case tP f gu x=>
  simp only[exec,rd];generalize σ.ev x=v;cases v with
  |one v=>cases v with
   |sl n sz lo len=>simp only;split<;>rfl
   |c v=>cases v<;>rfl
   |_=>rfl
  |_=>rfl
 case mm b x y=>
  simp only[exec,rd];generalize σ.ev x=v;generalize σ.ev y=u;cases v with
  |one v=>cases v with
   |c v=>cases v with
    |int k a=>cases u with
     |one u=>cases u with
      |c u=>cases u with
       |int k' a'=>
        simp only
        cases b
        ·simp only[zaI,if_false];split<;>rfl
        ·simp only[if_true];split<;>rfl
       |_=>rfl
      |_=>rfl
     |_=>rfl
    |_=>rfl
   |_=>rfl
  |_=>rfl
 case load ag sz x=>
  simp only[exec,rd];generalize σ.ev x=v;cases v with
  |one v=>
   simp only
   cases loadAt σ.h v sz<;>rfl
  |_=>rfl
 case jZ x=>
  simp only[exec,rd];generalize σ.ev x=v;cases v with
  |one v=>cases v with
   |ptr n k sz off=>simp only;split<;>rfl
   |_=>rfl
  |_=>rfl
 case q8 off x=>
  simp only[exec,rd];generalize σ.ev x=v;cases v with
  |one v=>cases v with
   |ptr n k sz off=>simp only;split<;>rfl
   |_=>rfl
  |_=>rfl
 case len x=>
  simp only[exec,rd];generalize σ.ev x=v;cases v with
  |one v=>cases v with
   |sl n sz lo len=>simp only;split<;>rfl
   |c v=>cases v<;>rfl
   |cJ n k aY off sz len=>
    simp only
    cases dH σ.h (.cJ n k aY off sz len) with
    |none=>rfl
    |some y=>cases y<;>rfl
   |_=>rfl
  |_=>rfl
 case qE sz x i=>
  simp only[exec,rd];generalize σ.ev x=v;generalize (σ.ev i).fm=u;cases v with
  |one v=>cases v with
   |sl n s lo len=>cases u with
    |none=>rfl
    |some k=>simp only;split<;>rfl
   |c v=>cases v with
    |list s xs=>cases u with
     |none=>rfl
     |some k=>
      simp only
      split
      ·cases xs[k.toNat]? <;>rfl
      ·rfl
    |_=>rfl
   |cJ n k aY off s len=>
    cases u with
    |none=>rfl
    |some q=>
     simp only
     cases dH σ.h (.cJ n k aY off s len) with
     |none=>rfl
     |some y=>cases y with
      |list s' ys=>simp only;split<;>rfl
      |_=>rfl
   |_=>rfl
  |_=>rfl
 case slice sz x lo hi=>
  cases lo with
  |none=>
   cases hi with
   |none=>
    simp only[exec,rd];generalize σ.ev x=v;cases v with
    |one v=>cases v with
     |sl n s l0 len=>simp only;split<;>rfl
     |c v=>cases v with
      |list s xs=>simp only;split<;>rfl
      |_=>rfl
     |_=>rfl
    |_=>rfl
   |some hi=>
    simp only[exec,rd];generalize σ.ev x=v;generalize (σ.ev hi).fm=q;cases q with
    |none=>
     cases v with
     |one v=>cases v with
      |c v=>cases v<;>rfl
      |_=>rfl
     |_=>rfl
    |some q=>
     cases v with
     |one v=>cases v with
      |sl n s l0 len=>simp only;split<;>rfl
      |c v=>cases v with
       |list s xs=>simp only;split<;>rfl
       |_=>rfl
      |_=>rfl
     |_=>rfl
  |some lo=>
   cases hi with
   |none=>
    simp only[exec,rd];generalize σ.ev x=v;generalize (σ.ev lo).fm=u;cases u with
    |none=>
     cases v with
     |one v=>cases v with
      |c v=>cases v<;>rfl
      |_=>rfl
     |_=>rfl
    |some u=>
     cases v with
     |one v=>cases v with
      |sl n s l0 len=>simp only;split<;>rfl
      |c v=>cases v with
       |list s xs=>simp only;split<;>rfl
       |_=>rfl
      |_=>rfl
     |_=>rfl
   |some hi=>
    simp only[exec,rd];generalize σ.ev x=v;generalize (σ.ev lo).fm=u;generalize (σ.ev hi).fm=q;cases u with
    |none=>
     cases v with
     |one v=>cases v with
      |c v=>cases v<;>rfl
      |_=>rfl
     |_=>rfl
    |some u=>
     cases q with
     |none=>
      cases v with
      |one v=>cases v with
       |c v=>cases v<;>rfl
       |_=>rfl
      |_=>rfl
     |some q=>
      cases v with
      |one v=>cases v with
       |sl n s l0 len=>simp only;split<;>rfl
       |c v=>cases v with
        |list s xs=>simp only;split<;>rfl
        |_=>rfl
       |_=>rfl
      |_=>rfl
def St.we (σ:St) (e:Nat->aA):St:={σ with env:=e}
def yp (e:Nat->aA) (d:Option Nat) (x:Nat->aA):Nat->aA:=
 match d with
 |some n=>aX e n (x n)
 |none=>e
theorem aDn (σ:St):σ.we σ.env=σ:=rfl
theorem x9 (σ:St) (e:Nat->aA) (d:Option Nat) (v:aA):(σ.we e).put d v=(σ.put d v).we (yp e d (σ.put d v).env):=by
 cases d with
 |none=>rfl
 |some n=>simp[St.put,St.we,yp,cT]
theorem Ki (σ:St) (e:Nat->aA) (n:Nat) (b:aK):(σ.we e).ins n b=(σ.ins n b).map (·.we e):=by
 unfold St.ins;by_cases h:σ.used n=true
 ·rw[if_pos h,if_pos (show(σ.we e).used n=true from h)];rfl
 ·rw[if_neg h,if_neg (show¬(σ.we e).used n=true from h)];rfl
theorem DH:∀(l:List (Nat×aK)) (σ:St) (e:Nat->aA),(σ.we e).dX l=(σ.dX l).map (·.we e)
 |[],σ,e=>rfl
 |(n,b)::l,σ,e=>by
  simp only[St.dX,Ki];cases σ.ins n b with
  |none=>rfl
  |some σ1=>exact DH l σ1 e
theorem aCV (σ:St) (e:Nat->aA) (c:ao):(σ.we e).iY c=(σ.iY c).map fun x=>(x.1,x.2.1,x.2.2.we e):=by
 cases c with
 |c x=>rfl
 |nil sz=>simp only[St.iY];split<;>rfl
 |sl n sz lo len=>
  have:(σ.we e).h n=σ.h n:=rfl;simp only[St.iY,this];cases σ.h n with
  |none=>rfl
  |some b=>cases b with
   |box cs=>rfl
   |row gr m rs xs=>simp only;split<;>rfl
 |_=>rfl
theorem LG:∀(cs:List ao) (σ:St) (e:Nat->aA),(σ.we e).iz cs=(σ.iz cs).map fun x=>(x.1,x.2.1,x.2.2.we e)
 |[],σ,e=>rfl
 |c::cs,σ,e=>by
  simp only[St.iz,aCV];cases σ.iY c with
  |none=>rfl
  |some x=>
   obtain⟨x,o,σ1⟩:=x;simp only[zab,LG cs σ1 e];cases σ1.iz cs<;>rfl
theorem ari (σ:St) (e:Nat->aA) (p:ao):(σ.we e).xn p=(σ.xn p).map (·.we e):=by
 cases p with
 |ptr n k sz off=>
  have h3:(σ.we e).h=σ.h:=rfl;simp only[St.xn,h3];cases σ.h n with
  |none=>rfl
  |some b=>
   cases b with
   |row gr m rs xs=>rfl
   |box cs=>
    simp only[LG];cases σ.iz cs with
    |none=>rfl
    |some x=>rfl
 |_=>rfl
theorem amv (sz:Nat):∀(vs:List aA) (σ:St) (e:Nat->aA),(σ.we e).pj sz vs=(σ.pj sz vs).map fun x=>(x.1,x.2.1,x.2.2.we e)
 |[],σ,e=>rfl
 |v::vs,σ,e=>by
  simp only[St.pj];cases v.cells? with
  |none=>rfl
  |some x=>
   obtain⟨ag,cs⟩:=x;simp only
   split
   ·simp only[LG];cases σ.iz cs with
    |none=>rfl
    |some y=>
     obtain⟨y,o,σ1⟩:=y;simp only[zab,amv sz vs σ1 e];cases σ1.pj sz vs<;>rfl
   ·rfl
theorem anu (σ:St) (e:Nat->aA) (sz:Nat) (v:aA):ub (σ.we e) sz v=(ub σ sz v).map fun x=>(x.1,x.2.1,x.2.2.we e):=by
 cases v with
 |one v=>cases v with
  |sl a s lo len=>cases lo with
   |zero=>
    have:(σ.we e).h a=σ.h a:=rfl;simp only[ub,this];cases σ.h a with
    |none=>rfl
    |some b=>cases b with
     |box cs=>rfl
     |row gr m rs xs=>cases gr with
      |true=>simp only;split<;>rfl
      |false=>rfl
   |succ lo=>rfl
  |_=>rfl
 |_=>rfl
theorem anw (fl:Bool) (σ:St) (e:Nat->aA) (sz:Nat) (m:Mode) (v:aA):pB fl (σ.we e) sz m v=(pB fl σ sz m v).map fun x=>(x.1,x.2.1,x.2.2.we e):=by
 cases v with
 |one v=>cases v with
  |sl b s lo len=>
   have:(σ.we e).h b=σ.h b:=rfl;simp only[pB,this];cases σ.h b with
   |none=>rfl
   |some b=>cases b with
    |box cs=>rfl
    |row gr m rs xs=>
     simp only
     repeat' split
     all_goals rfl
  |c x=>cases x with
   |list s ys=>
    simp only[pB]
    repeat' split
    all_goals rfl
   |_=>rfl
  |_=>rfl
 |_=>rfl
theorem aCy (σ:St) (e:Nat->aA) (n:Nat) (gr:Bool) (m:Mode) (rs:Nat) (xs:List (List C)) (k off:Nat) (el:List C) (vs:List ao):
  qM (σ.we e) n gr m rs xs k off el vs=(qM σ n gr m rs xs k off el vs).map (·.we e):=by
 simp only[qM,LG];cases sub el off vs.length with
 |none=>rfl
 |some iv=>
  simp only
  cases σ.iz vs with
  |none=>rfl
  |some x=>
   obtain⟨cs,o,σ1⟩:=x;have:(σ1.we e).h n=σ1.h n:=rfl;simp only[zab,this]
   repeat' split
   all_goals rfl
theorem HB (T:br) (d:Option Nat) (op:bm) {ev ev':MO->aA} (h:Nat->Option aK) (cM:∀x∈op.args,ev' x=ev x):rd T d op ev' h=rd T d op ev h:=by
 have hl:∀xs:List MO,(∀x∈xs,ev' x=ev x)->xs.map ev'=xs.map ev:=fun xs hx=>zat hx;have hp:∀(ps:List (Nat×Nat×MO)) (zs:List ao),(∀x∈ps.map (·.2.2),ev' x=ev x)->tS ev' zs ps=tS ev zs ps:=by
  intro ps;induction ps with
  |nil=>intro zs _;rfl
  |cons p ps ih=>
   intro zs hx;obtain⟨off,sz,x⟩:=p;simp only[tS];rw[hx x (by simp)];cases (ev x).cells? with
   |none=>rfl
   |some y=>
    simp only
    split
    ·exact ih _ fun z hz=>hx z (by simp at hz⊢;exact .inr hz)
    ·rfl
 cases op with
 |build zs ps=>simp only[rd];rw[hp ps zs cM]
 |call m f xs=>simp only[rd];rw[hl xs cM]
 |qU f xs=>simp only[rd];rw[hl xs cM]
 |pF f xs=>simp only[rd];rw[hl xs cM]
 |nX f xs=>simp only[rd];rw[hl xs cM]
 |uW f xs=>simp only[rd];rw[hl xs cM]
 |qV m x xs=>simp only[rd];rw[cM x (by simp[bm.args]),hl xs fun y hy=>cM y (by simp[bm.args,hy])]
 |slice sz x lo hi=>
  have h1:=cM x (by simp[bm.args]);cases lo with
  |none=>cases hi with
   |none=>simp only[rd,h1]
   |some hi=>have h3:=cM hi (by simp[bm.args]);simp only[rd,h1,h3]
  |some lo=>
   have h2:=cM lo (by simp[bm.args]);cases hi with
   |none=>simp only[rd,h1,h2]
   |some hi=>have h3:=cM hi (by simp[bm.args]);simp only[rd,h1,h2,h3]
 |mv x=>have h1:=cM x (by simp[bm.args]);simp only[rd,h1]
 |pick x y z=>have h1:=cM x (by simp[bm.args]);have h2:=cM y (by simp[bm.args]);have h3:=cM z (by simp[bm.args]);simp only[rd,h1,h2,h3]
 |alloc zs=>rfl
 |box sz x=>have h1:=cM x (by simp[bm.args]);simp only[rd,h1]
 |gy sz ps=>rfl
 |g7 m f xs=>rfl
 |pG m f xs=>rfl
 |mn f xs=>rfl
 |load ag sz x=>have h1:=cM x (by simp[bm.args]);simp only[rd,h1]
 |store sz x v=>rfl
 |jZ x=>have h1:=cM x (by simp[bm.args]);simp only[rd,h1]
 |bin op x y=>have h1:=cM x (by simp[bm.args]);have h2:=cM y (by simp[bm.args]);simp only[rd,h1,h2]
 |sZ op x y=>have h1:=cM x (by simp[bm.args]);have h2:=cM y (by simp[bm.args]);simp only[rd,h1,h2]
 |un op x=>have h1:=cM x (by simp[bm.args]);simp only[rd,h1]
 |conv k x=>have h1:=cM x (by simp[bm.args]);simp only[rd,h1]
 |kv m sz by_ zs x y=>have h1:=cM x (by simp[bm.args]);have h2:=cM y (by simp[bm.args]);simp only[rd,h1,h2]
 |q8 off x=>have h1:=cM x (by simp[bm.args]);simp only[rd,h1]
 |qE sz x y=>have h1:=cM x (by simp[bm.args]);have h2:=cM y (by simp[bm.args]);simp only[rd,h1,h2]
 |ext i x=>have h1:=cM x (by simp[bm.args]);simp only[rd,h1]
 |uv ag off sz x=>have h1:=cM x (by simp[bm.args]);simp only[rd,h1]
 |tP f gu x=>have h1:=cM x (by simp[bm.args]);simp only[rd,h1]
 |len x=>have h1:=cM x (by simp[bm.args]);simp only[rd,h1]
 |append fl sz by_ x y=>rfl
 |tail sz x lo=>rfl
 |tF ag sz x=>rfl
 |copy sz x y=>rfl
 |nY z x=>rfl
 |mm b x y=>have h1:=cM x (by simp[bm.args]);have h2:=cM y (by simp[bm.args]);simp only[rd,h1,h2]
theorem Se (σ:St) (e:Nat->aA):(σ.we e).h=σ.h:=rfl
theorem aAF (σ:St) (e:Nat->aA) (it:eC) (x:C):(σ.we e).rD it x=(σ.rD it x).map (·.we e):=by
 cases it with
 |nil sz=>rfl
 |row n=>
  cases x with
  |int k i=>rfl
  |bool b=>rfl
  |list sz xs=>
   simp only[St.rD,Se];cases σ.h n with
   |none=>rfl
   |some b=>
    cases b with
    |box cs=>rfl
    |row gr m rs oL=>simp only;split<;>rfl
 |nest n k off=>
  simp only[St.rD,Se];cases σ.h n with
  |none=>rfl
  |some b=>
   cases b with
   |box cs=>rfl
   |row gr m rs oL=>
    simp only
    cases oL[k]? with
    |none=>rfl
    |some el=>rfl
theorem ajs:∀(its:List (eC×Mode)) (eV:List C) (σ:St) (e:Nat->aA),(σ.we e).tM its eV=(σ.tM its eV).map (·.we e)
 |[],[],σ,e=>rfl
 |it::its,x::eV,σ,e=>by
  simp only[St.tM,aAF];cases σ.rD it.1 x with
  |none=>rfl
  |some σ1=>exact ajs its eV σ1 e
 |[],_::_,σ,e=>rfl
 |_::_,[],σ,e=>rfl
theorem atA (m:Mode) (σ:St) (e:Nat->aA) (nm:Nat) (ds:List Dv):(σ.we e).mW m nm ds=(σ.mW m nm ds).map fun x=>(x.1,x.2.we e):=by
 simp only[WC];cases Bt m nm ds with
 |none=>rfl
 |some x=>
  simp only[zai,DH];cases σ.dX x.2 with
  |none=>rfl
  |some σ1=>rfl
theorem ac9 (T:br) (m:Mode) (d:Option Nat) (f:FuncId) (as:List aA) (σ:St) (e:Nat->aA):
  uh T m d f as (σ.we e)=(uh T m d f as σ).map fun τ=>τ.we (yp e d τ.env):=by
 unfold uh;cases br.rS T.BJ f with
 |none=>rfl
 |some z=>
  obtain⟨sig,M⟩:=z;cases tG as with
  |none=>rfl
  |some e8=>
   simp only
   by_cases iI:(nN sig e8).Nodup
   ·rw[if_pos iI,if_pos iI];show(match o6 σ.h (fV σ.h (nN sig e8)) sig e8 with|some (ds,its)=>_|none=>none)=_
    cases o6 σ.h (fV σ.h (nN sig e8)) sig e8 with
    |none=>rfl
    |some z=>
     obtain⟨ds,its⟩:=z;simp only
     cases M ds with
     |none=>rfl
     |some z=>
      obtain⟨rs,eV⟩:=z;simp only[ajs];cases σ.tM its eV with
      |none=>rfl
      |some σ1=>
       simp only[zab,atA];cases σ1.mW m (BK d) rs with
       |none=>rfl
       |some z=>
        obtain⟨ls,σ2⟩:=z;simp only[zab,x9]
   ·rw[if_neg iI,if_neg iI];rfl
theorem aoT (T:br) (m:Mode) (d:Option Nat) (f:FuncId) (as:List aA) (σ:St) (e:Nat->aA):
  yJ T m d f as (σ.we e)=(yJ T m d f as σ).map fun τ=>τ.we (yp e d τ.env):=by
 unfold yJ;cases br.vN T.xs f with
 |none=>rfl
 |some z=>
  obtain⟨i,M⟩:=z;simp only
  cases as[i]? with
  |none=>rfl
  |some x=>
   have hh:(σ.we e).h=σ.h:=rfl;simp only[hh];cases Ik σ.h x with
   |none=>rfl
   |some z=>
    obtain⟨n,lo,len,N⟩:=z;exact ac9 _ _ _ _ _ _ _
theorem TB:∀(as:List aA) (σ:St) (e:Nat->aA),(σ.we e).kf as=(σ.kf as).map fun x=>(x.1,x.2.1,x.2.2.we e)
 |[],σ,e=>rfl
 |v::as,σ,e=>by
  simp only[St.kf,Se,LG];cases pE σ.h v with
  |some x=>
   obtain⟨n,xs⟩:=x;simp only[TB as σ e];cases σ.kf as<;>rfl
  |none=>
   simp only
   cases v.cells? with
   |none=>rfl
   |some x=>
    obtain⟨ag,cs⟩:=x;simp only
    cases σ.iz cs with
    |none=>rfl
    |some y=>
     obtain⟨xs,o,σ1⟩:=y;simp only[zab,TB as σ1 e];cases σ1.kf as<;>rfl
theorem aAD (σ:St) (e:Nat->aA) (ns:List Nat) (out:List C):(σ.we e).u6 ns out=(σ.u6 ns out).map (·.we e):=by
 match ns,out with
 |[],[]=>rfl
 |[],_::_=>rfl
 |[n],out=>
  simp only[St.u6,Se];cases σ.h n with
  |none=>rfl
  |some b=>
   cases b with
   |box cs=>simp only;split<;>rfl
   |row gr m rs xs=>rfl
 |_::_::_,out=>rfl
theorem anQ (σ:St) (e:Nat->aA) (d:Option Nat) (rs:List Dv):ue (σ.we e) d rs=(ue σ d rs).map fun τ=>τ.we (yp e d τ.env):=by
 unfold ue;split
 ·cases d with
  |none=>rfl
  |some q=>
   simp only[Ki];cases σ.ins q _ with
   |none=>rfl
   |some σ1=>simp only[zab,x9]
 ·cases mq rs with
  |none=>rfl
  |some ls=>simp only[zab,x9]
theorem aoQ (T:br) (d:Option Nat) (f:FuncId) (as:List aA) (σ:St) (e:Nat->aA):
  ug T d f as (σ.we e)=(ug T d f as σ).map fun τ=>τ.we (yp e d τ.env):=by
 unfold ug;rw[TB];cases σ.kf as with
 |none=>rfl
 |some x=>
  obtain⟨ds,ns,σ1⟩:=x;simp only[zab];cases br.n7 T.vs f with
  |none=>rfl
  |some M=>
   simp only
   cases M ds with
   |none=>rfl
   |some z=>
    obtain⟨rs,out⟩:=z;simp only[aAD];cases σ1.u6 ns out with
    |none=>rfl
    |some σ2=>exact anQ σ2 e d rs
theorem Uh (T:br) (d:Option Nat) (op:bm) (σ:St) (e:Nat->aA) (cM:∀x∈op.args,(σ.we e).ev x=σ.ev x) (hd:∀sz x v,op=.store sz x v->d=none):
  exec T d op (σ.we e)=(exec T d op σ).map fun τ=>τ.we (yp e d τ.env):=by
 by_cases hc:op.fG<=1
 ·rw[tf T d op _ hc,tf T d op _ hc,HB T d op _ cM];show Option.bind (rd T d op σ.ev σ.h) _=_;cases rd T d op σ.ev σ.h with
  |none=>rfl
  |some x=>
   simp only[zai,fin,DH];cases σ.dX x.2 with
   |none=>rfl
   |some σ1=>simp only[zab,x9]
 ·cases op<;>simp[bm.fG] at hc
  case gy sz ps=>
   have hl:ps.map (σ.we e).ev=ps.map σ.ev:=zat cM;simp only[exec,hl,amv];cases d with
   |none=>rfl
   |some n=>
    cases σ.pj sz (ps.map σ.ev) with
    |none=>rfl
    |some x=>
     obtain⟨es,o,σ1⟩:=x;simp only[zab,Ki];cases σ1.ins n (.row true (if o=true then .aZ else .aV) sz es) with
     |none=>rfl
     |some σ2=>simp only[zab,x9]
  case store sz x v=>
   have h1:=cM x (by simp[bm.args]);have h2:=cM v (by simp[bm.args]);have hd:=hd sz x v rfl;subst hd;simp only[exec,h1,h2];cases σ.ev x with
   |one p=>cases p with
    |ptr n k aY off=>
     cases (σ.ev v).cells? with
     |none=>rfl
     |some y=>
      obtain⟨ag,vs⟩:=y;have:(σ.we e).h n=σ.h n:=rfl;simp only[this];split
      ·cases σ.h n with
       |none=>rfl
       |some b=>cases b with
        |box cs=>simp only;split<;>rfl
        |row gr m rs xs=>
         simp only
         split
         ·cases xs[k]? with
          |none=>rfl
          |some el=>simp only[aCy];rfl
         ·rfl
      ·rfl
    |eG n k aY off s i=>
     cases (σ.ev v).cells? with
     |none=>rfl
     |some y=>
      obtain⟨ag,vs⟩:=y;have:(σ.we e).h n=σ.h n:=rfl;simp only[this];split
      ·cases σ.h n with
       |none=>rfl
       |some b=>cases b with
        |box cs=>rfl
        |row gr m rs xs=>cases m with
         |live=>
          simp only
          split
          ·cases zQ xs k off s i vs<;>rfl
          ·rfl
         |_=>rfl
      ·rfl
    |_=>cases (σ.ev v).cells?<;>rfl
   |agg cs=>cases (σ.ev v).cells?<;>rfl
   |cF cs=>cases (σ.ev v).cells?<;>rfl
  case append fl sz by_ x y=>
   have h1:=cM x (by simp[bm.args]);have h2:=cM y (by simp[bm.args]);simp only[exec,h1,h2,anu];cases d with
   |none=>rfl
   |some n=>
    simp only
    cases ub σ sz (σ.ev x) with
    |none=>rfl
    |some z=>
     obtain⟨xs,m,σ1⟩:=z;simp only[zab,anw];cases pB fl σ1 sz m (σ.ev y) with
     |none=>rfl
     |some z=>
      obtain⟨ys,m2,σ2⟩:=z;simp only[zab];split
      ·simp only[Ki];cases σ2.ins n (.row true m2 sz (xs++ys)) with
       |none=>rfl
       |some j8=>simp only[zab,x9]
      ·rfl
  case copy sz x y=>
   have h1:=cM x (by simp[bm.args]);have h2:=cM y (by simp[bm.args]);have h3:(σ.we e).h=σ.h:=rfl;simp only[exec,h1,h2,h3];cases σ.ev x with
   |one p=>cases p with
    |sl n s lo len=>
     cases σ.ev y with
     |one c=>
      simp only
      cases σ.h n with
      |none=>rfl
      |some b=>cases b with
       |box cs=>rfl
       |row gr m rs xs=>
        cases dH σ.h c with
        |none=>rfl
        |some q=>cases q with
         |list s' ys=>
          simp only
          split
          ·exact congrArg some (x9 (σ.fK n _) e d _)
          ·rfl
         |_=>rfl
     |_=>rfl
    |_=>rfl
   |_=>rfl
  case nY z x=>
   have h1:=cM x (by simp[bm.args]);have h3:(σ.we e).h=σ.h:=rfl;simp only[exec,h1,h3];cases σ.ev x with
   |one p=>cases p with
    |sl n s lo len=>
     simp only
     cases σ.h n with
     |none=>rfl
     |some b=>cases b with
      |box cs=>rfl
      |row gr m rs xs=>
       simp only
       split
       ·exact congrArg some (x9 (σ.fK n _) e d _)
       ·rfl
    |_=>rfl
   |_=>rfl
  case tF ag sz x=>
   have h1:=cM x (by simp[bm.args]);simp only[exec,h1];cases σ.ev x with
   |one p=>
    simp only[ari];cases σ.xn p with
    |none=>rfl
    |some σ1=>
     simp only[zab];have h3:(σ1.we e).h=σ1.h:=rfl;rw[h3];cases loadAt σ1.h p sz with
     |none=>rfl
     |some cs=>exact congrArg some (x9 σ1 e d _)
   |_=>rfl
  case tail sz x y=>
   have h1:=cM x (by simp[bm.args]);have h2:=cM y (by simp[bm.args]);simp only[exec,h1,h2];cases d with
   |none=>rfl
   |some n=>
    generalize (σ.ev y).fm=q;cases hv:σ.ev x with
    |one p=>cases p with
     |sl a s lo len=>cases lo with
      |zero=>
       cases q with
       |none=>rfl
       |some l=>
        simp only
        have:(σ.we e).h a=σ.h a:=rfl;rw[this];cases σ.h a with
        |none=>rfl
        |some b=>cases b with
         |box cs=>rfl
         |row gr m rs xs=>cases gr with
          |false=>rfl
          |true=>
           simp only
           split
           ·rw[show(σ.we e).del a=(σ.del a).we e from rfl,Ki]
            cases (σ.del a).ins n (.row true m sz (xs.drop l.toNat)) with
            |none=>rfl
            |some j8=>simp only[zab,x9]
           ·rfl
      |succ lo=>cases q<;>rfl
     |_=>cases q<;>rfl
    |_=>cases q<;>rfl
  case g7 m f xs=>
   have hl:xs.map (σ.we e).ev=xs.map σ.ev:=zat cM;simp only[exec,hl,ac9]
  case mn f xs=>
   have hl:xs.map (σ.we e).ev=xs.map σ.ev:=zat cM;simp only[exec,hl,aoQ]
  case pG m f xs=>
   have hl:xs.map (σ.we e).ev=xs.map σ.ev:=zat cM;simp only[exec,hl,aoT]
section
variable {u vv:Nat->Prop} {h h':Nat->Option aK}
theorem avY (hh:∀n,u n->h' n=h n) {p:ao} (hp:∀m,p.ref m->u m) (sz:Nat):loadAt h' p sz=loadAt h p sz:=by
 cases p with
 |ptr n k aY off=>simp only[loadAt,hh n (hp n rfl)]
 |_=>rfl
theorem ao.BX {c:ao} {m:Nat} (h:c.lY m):c.ref m:=by
 cases c<;>first|exact h|exact h.elim
def aA.BZ:aA->Nat->Prop
 |.one c,m=>c.lY m
 |.agg cs,m=>∃c∈cs,c.lY m
 |.cF _,_=>False
theorem aA.Yv {x:aA} {m:Nat} (h:x.BZ m):x.ref m:=by
 cases x with
 |one c=>exact ao.BX h
 |agg cs=>obtain⟨c,hc,h⟩:=h;exact⟨c,hc,ao.BX h⟩
 |cF xs=>exact h.elim
theorem EJ (hh:∀n,u n->h' n=h n) {p:ao} (hp:∀m,p.lY m->u m):dH h' p=dH h p:=by
 cases p with
 |sl n sz lo len=>simp only[dH,hh n (hp n rfl)]
 |cJ n k aY off sz len=>simp only[dH,hh n (hp n rfl)]
 |_=>rfl
theorem Sa (hh:∀n,u n->h' n=h n):∀{l:List ao} (_:∀p∈l,∀m,p.lY m->u m),j6 h' l=j6 h l
 |[],_=>rfl
 |c::cs,hp=>by
  have h1:=EJ hh (hp c (by simp));have h2:=Sa hh (l:=cs) fun p q=>hp p (zar _ q);simp only[j6,h1,h2]
theorem aDe (hh:∀n,u n->h' n=h n) (hb:∀m cs c n,vv m->h m=some (.box cs)->c∈cs->c.ref n->u n) {x:aA} (hx:∀m,x.BZ m->u m) (hv:∀m,x.BZ m->vv m):kT h' x=kT h x:=by
 cases x with
 |one c=>cases c with
  |ptr n k sz off=>
   simp only[kT,hh n (hx n rfl)];cases hn:h n with
   |none=>rfl
   |some b=>cases b with
    |box cs=>simp only[Sa hh fun p hp m hm=>hb n cs p m (hv n rfl) hn hp (ao.BX hm)]
    |row gr m sz xs=>rfl
  |dR xs off=>rfl
  |c x=>rfl
  |nil sz=>rfl
  |sl n sz lo len=>simp only[kT];rw[EJ hh (p:=.sl n sz lo len) hx]
  |cJ n k aY off sz len=>simp only[kT];rw[EJ hh (p:=.cJ n k aY off sz len) hx]
  |eG n k aY off sz i=>rfl
  |fn f ed=>rfl
  |cD=>rfl
 |agg cs=>simp only[kT,Sa hh fun p hp m hm=>hx m ⟨p,hp,hm⟩]
 |cF xs=>rfl
theorem R9 (hh:∀n,u n->h' n=h n) (hb:∀m cs c n,vv m->h m=some (.box cs)->c∈cs->c.ref n->u n):∀{xs:List aA} (_:∀x∈xs,∀m,x.BZ m->u m) (_:∀x∈xs,∀m,x.BZ m->vv m),pt h' xs=pt h xs
 |[],_,_=>rfl
 |x::xs,hx,hv=>by
  have h1:=aDe hh hb (hx x (by simp)) (hv x (by simp));have h2:=R9 hh hb (xs:=xs) (fun p q=>hx p (zar _ q)) (fun p q=>hv p (zar _ q));simp only[pt,h1,h2]
theorem av3 (hh:∀n,u n->h' n=h n) {md:Mode} {c:ao} (hp:∀m,c.ref m->u m):wB h' md c=wB h md c:=by
 cases c with
 |sl n sz lo len=>simp only[wB,hh n (hp n rfl)]
 |cJ n k aY off sz len=>simp only[wB,hh n (hp n rfl)]
 |_=>rfl
theorem afR (hh:∀n,u n->h' n=h n) (ns:List Nat):∀n,u n->fV h' ns n=fV h ns n:=fun n hn=>by simp only[fV,hh n hn]
theorem XM (hh:∀n,u n->h' n=h n) (ns:List Nat):∀(fs:List (Option Mode)) (cs:List ao),(∀c∈cs,∀m,c.ref m->u m)->mY h' (fV h' ns) fs cs=mY h (fV h ns) fs cs
 |[],cs,hc=>by simp only[mY,Sa (afR hh ns) fun p hp m hm=>hc p hp m (ao.BX hm)]
 |none::fs,c::cs,hc=>by
  simp only[mY,EJ (afR hh ns) fun m hm=>hc c (by simp) m (ao.BX hm),XM hh ns fs cs fun p hp=>hc p (by simp[hp])]
 |some md::fs,c::cs,hc=>by
  simp only[mY,av3 hh (hc c (by simp)),XM hh ns fs cs fun p hp=>hc p (by simp[hp])]
 |none::_,[],_=>rfl
 |some _::_,[],_=>rfl
theorem aiN (hh:∀n,u n->h' n=h n) (ns:List Nat):∀(as:List (Bool×List ao)) (sig:bi),(∀x∈as,∀c∈x.2,∀m,c.ref m->u m)->o6 h' (fV h' ns) sig as=o6 h (fV h ns) sig as
 |[],_,_=>rfl
 |(ag,cs)::as,sig,hc=>by
  simp only[o6,XM hh ns (bi.hd sig) cs (hc (ag,cs) (by simp)),aiN hh ns as (bi.tl sig) fun x hx=>hc x (by simp[hx])]
theorem XO:∀{fs:List (Option Mode)} {cs:List ao} {n:Nat},n∈qJ fs cs->∃c∈cs,c.ref n
 |some _::fs,c::cs,n,hn=>by
  simp only[qJ] at hn;rcases zae.1 hn with h|h
  ·refine⟨c,by simp,?_⟩;cases c<;>simp[ao.fJ] at h<;>(subst h;rfl)
  ·obtain⟨c',h1,h2⟩:=XO h;exact⟨c',by simp[h1],h2⟩
 |none::fs,c::cs,n,hn=>by
  simp only[qJ] at hn;obtain⟨c',h1,h2⟩:=XO hn;exact⟨c',by simp[h1],h2⟩
 |[],_,n,hn=>by simp[qJ] at hn
 |some _::_,[],n,hn=>by simp[qJ] at hn
 |none::_,[],n,hn=>by simp[qJ] at hn
theorem ahk:∀{as:List (Bool×List ao)} {sig:bi} {n:Nat},n∈nN sig as->∃x∈as,∃c∈x.2,c.ref n
 |a::as,s::sig,n,hn=>by
  simp only[nN] at hn;rcases zae.1 hn with h|h
  ·obtain⟨c,h1,h2⟩:=XO h;exact⟨a,by simp,c,h1,h2⟩
  ·obtain⟨x,h1,h2⟩:=ahk h;exact⟨x,by simp[h1],h2⟩
 |[],s::sig,n,hn=>by simp[nN] at hn
 |as,[],n,hn=>by cases as<;>simp[nN] at hn
theorem ag8:∀{as:List aA} {e8:List (Bool×List ao)},tG as=some e8->∀x∈e8,∀c∈x.2,∀m,c.ref m->∃v∈as,v.ref m
 |[],e8,hx,x,hm=>by simp only[tG] at hx;injection hx with hx;subst hx;cases hm
 |v::vs,e8,hx,x,hm=>by
  simp only[tG] at hx;split at hx
  ·rename_i y ys e1 e2;injection hx with hx;subst hx;intro c hc m hr;cases hm with
   |head=>exact⟨v,by simp,aA.CR e1 hc hr⟩
   |tail _ hm=>
    obtain⟨v',h1,h2⟩:=ag8 e2 x hm c hc m hr;exact⟨v',by simp[h1],h2⟩
  ·cases hx
theorem aoS (hh:∀n,u n->h' n=h n) {T:br} {f:FuncId} {as:List aA} (hx:∀x∈as,∀m,x.ref m->u m):tc T f as h'=tc T f as h:=by
 unfold tc;cases br.vM T.ws f with
 |none=>rfl
 |some M=>
  obtain⟨sig,M⟩:=M;cases hc:tG as with
  |none=>rfl
  |some e8=>
   have hr:∀x∈e8,∀c∈x.2,∀m,c.ref m->u m:=fun x h1 c h2 m h3=>by
    obtain⟨v,a1,a2⟩:=ag8 hc x h1 c h2 m h3;exact hx v a1 m a2
   simp only
   cases hn:nN sig e8 with
   |nil=>rfl
   |cons n l=>
    cases l with
    |cons n2 l=>rfl
    |nil=>
     obtain⟨x,h1,c,h2,h3⟩:=ahk (n:=n) (sig:=sig) (as:=e8) (by rw[hn];simp);simp only[aiN hh [n] e8 sig hr,hh n (hr x h1 c h2 n h3)]
theorem ajx (T:br) (d:Option Nat) (op:bm) (ev:MO->aA) (hh:∀n,u n->h' n=h n) (xt:op.Kj=true->∀m cs c n,vv m->h m=some (.box cs)->c∈cs->c.ref n->u n)
  (hx:∀x∈op.args,∀m,(ev x).ref m->u m) (v7:∀x∈op.args,∀m,(ev x).ref m->vv m):rd T d op ev h'=rd T d op ev h:=by
 cases op with
 |load ag sz x=>
  have h1:=hx x (by simp[bm.args]);simp only[rd];cases hv:ev x with
  |one p=>rw[hv] at h1;simp only[avY hh (p:=p) h1]
  |_=>rfl
 |jZ x=>
  have h1:=hx x (by simp[bm.args]);simp only[rd];cases hv:ev x with
  |one p=>cases p with
   |ptr n k sz off=>rw[hv] at h1;simp only[hh n (h1 n rfl)]
   |_=>rfl
  |_=>rfl
 |q8 off x=>
  have h1:=hx x (by simp[bm.args]);simp only[rd];cases hv:ev x with
  |one p=>cases p with
   |ptr n k sz off=>rw[hv] at h1;simp only[hh n (h1 n rfl)]
   |_=>rfl
  |_=>rfl
 |len x=>
  have h1:=hx x (by simp[bm.args]);simp only[rd];cases hv:ev x with
  |one p=>cases p with
   |sl n sz lo len=>rw[hv] at h1;simp only[hh n (h1 n rfl)]
   |cJ n k aY off sz len=>rw[hv] at h1;simp only[EJ hh (p:=.cJ n k aY off sz len) (fun m hm=>h1 m (ao.BX hm))]
   |c x=>cases x<;>rfl
   |_=>rfl
  |_=>rfl
 |tP f gu x=>
  have h1:=hx x (by simp[bm.args]);simp only[rd];cases hv:ev x with
  |one p=>cases p with
   |sl n sz lo len=>rw[hv] at h1;simp only[hh n (h1 n rfl)]
   |c x=>cases x<;>rfl
   |_=>rfl
  |_=>rfl
 |qE sz x i=>
  have h1:=hx x (by simp[bm.args]);simp only[rd];generalize (ev i).fm=q;cases hv:ev x with
  |one p=>cases p with
   |sl n s lo len=>
    rw[hv] at h1;have h2:=hh n (h1 n rfl);cases q with
    |none=>rfl
    |some q=>simp only[h2]
   |cJ n k aY off s len=>
    rw[hv] at h1;cases q with
    |none=>rfl
    |some q=>simp only[EJ hh (p:=.cJ n k aY off s len) (fun m hm=>h1 m (ao.BX hm))]
   |c x=>cases x<;>cases q<;>rfl
   |_=>cases q<;>rfl
  |_=>cases q<;>rfl
 |slice sz x lo hi=>
  have h1:=hx x (by simp[bm.args]);simp only[rd];cases hv:ev x with
  |one p=>cases p with
   |sl n s l0 len=>
    rw[hv] at h1;have h2:=hh n (h1 n rfl);cases lo with
    |none=>simp only[h2]
    |some lo=>
     simp only
     cases (ev lo).fm with
     |none=>rfl
     |some q=>simp only[h2]
   |c x=>cases lo with
    |none=>cases x<;>rfl
    |some lo=>
     simp only
     cases (ev lo).fm<;>cases x<;>rfl
   |_=>cases lo<;>rfl
  |_=>cases lo<;>rfl
 |call m f xs=>
  simp only[rd,FB];have go:∀u':Nat->Prop,(∀x∈(bm.call m f xs).args,∀m,(ev x).ref m->u' m)->∀x∈xs.map ev,∀m,x.BZ m->u' m:=by
   intro u' hx x wa q hq;obtain⟨y,hy,rfl⟩:=zaj.1 wa;exact hx y hy q (aA.Yv hq)
  rw[R9 hh (xt rfl) (go _ hx) (go _ v7)]
 |qU f xs=>
  simp only[rd,FC];have go:∀u':Nat->Prop,(∀x∈(bm.qU f xs).args,∀m,(ev x).ref m->u' m)->∀x∈xs.map ev,∀m,x.BZ m->u' m:=by
   intro u' hx x wa q hq;obtain⟨y,hy,rfl⟩:=zaj.1 wa;exact hx y hy q (aA.Yv hq)
  rw[R9 hh (xt rfl) (go _ hx) (go _ v7)]
 |nX f xs=>rfl
 |pF f xs=>
  have:tc T f (xs.map ev) h'=tc T f (xs.map ev) h:=aoS hh fun x wa q hq=>by
   obtain⟨y,hy,rfl⟩:=zaj.1 wa;exact hx y hy q hq
  simp only[rd,this]
 |qV m x xs=>
  simp only[rd];cases hv:ev x with
  |one p=>cases p with
   |fn f ed=>
    simp only[FB];have go:∀u':Nat->Prop,(∀y∈(bm.qV m x xs).args,∀m,(ev y).ref m->u' m)->∀y∈xs.map ev++ed.map aA.one,∀m,y.BZ m->u' m:=by
     intro u' hx y hym q hq;rcases zae.1 hym with hy|hy
     ·obtain⟨z,hz,rfl⟩:=zaj.1 hy;exact hx z (by simp[bm.args,hz]) q (aA.Yv hq)
     ·obtain⟨z,hz,rfl⟩:=zaj.1 hy;refine hx x (by simp[bm.args]) q ?_;rw[hv];exact⟨z,hz,hq⟩
    rw[R9 hh (xt rfl) (go _ hx) (go _ v7)]
   |_=>rfl
  |_=>rfl
 |_=>rfl
theorem ajw (T:br) (d:Option Nat) (op:bm) (ev:MO->aA) (hh:∀n,u n->h' n=h n) (hb:∀m cs c n,h m=some (.box cs)->c∈cs->c.ref n->u n)
  (hx:∀x∈op.args,∀m,(ev x).ref m->u m):rd T d op ev h'=rd T d op ev h:=
 ajx (vv:=fun _=>True) T d op ev hh (fun _ m cs c n _=>hb m cs c n) hx (fun _ _ _ _=>trivial)
theorem ajz (T:br) (d:Option Nat) (op:bm) (ev:MO->aA) (h h':Nat->Option aK) (hc:op.fG=0):rd T d op ev h'=rd T d op ev h:=by
 cases op<;>simp[bm.fG] at hc<;>rfl
end
def kP (e:Nat->aA) (d:Option Nat) (v:aA):Nat->aA:=
 match d with
 |some n=>aX e n v
 |none=>e
theorem sH (σ:St) (d:Option Nat) (v:aA):σ.put d v=σ.we (kP σ.env d v):=by cases d<;>rfl
theorem u7 {e:Nat->aA} {d:Option Nat} {v:aA} {n:Nat} (h:d≠some n):kP e d v n=e n:=by
 cases d with
 |none=>rfl
 |some m=>exact dN _ _ _ _ (fun he=>h (by rw[he]))
theorem Q6 (e:Nat->aA) {d d':Option Nat} (v v':aA) (h:∀n,d=some n->d'≠some n):kP (kP e d v) d' v'=kP (kP e d' v') d v:=by
 cases d with
 |none=>rfl
 |some n=>cases d' with
  |none=>rfl
  |some m=>
   have aR:m≠n:=fun he=>h n rfl (by rw[he]);funext k;simp only[kP,ma];by_cases h1:k=m
   ·by_cases h2:k=n
    ·omega
    ·simp[h1,aR]
   ·by_cases h2:k=n
    ·simp[h2,zaP aR]
    ·simp[h1,h2]
def amJ (d:Option Nat) (x:Nat->aA):aA:=
 match d with
 |some n=>x n
 |none=>.one .cD
theorem abh (e:Nat->aA) (d:Option Nat) (x:Nat->aA):yp e d x=kP e d (amJ d x):=by cases d<;>rfl
theorem atH {σ σ1 σ2:St} {n m:Nat} {b c:aK} (h1:σ.ins n b=some σ1) (h2:σ1.ins m c=some σ2):∃τ,σ.ins m c=some τ/\τ.ins n b=some σ2:=by
 obtain⟨u1,rfl⟩:=qH h1;obtain⟨u2,rfl⟩:=qH h2;have aR:m≠n:=fun e=>by subst e;simp[cT] at u2
 have um:σ.used m=false:=by simpa[dN _ _ _ _ aR] using u2
 have un:aX σ.used m true n=false:=by rw[dN _ _ _ _ (zaP aR)];exact u1
 refine⟨_,by unfold St.ins;rw[if_neg (by simp[um])],?_⟩;unfold St.ins;simp only[un,zaI,if_false];congr 2<;>(funext k;simp only[ma];by_cases h1:k=m<;>by_cases h2:k=n<;>simp_all)
theorem agk {m:Nat} {c:aK}:∀{A:List (Nat×aK)} {σ σ1 σ2:St},σ.dX A=some σ1->σ1.ins m c=some σ2->∃τ,σ.ins m c=some τ/\τ.dX A=some σ2
 |[],σ,σ1,σ2,h1,h2=>by
  simp only[St.dX] at h1;injection h1 with h1;subst h1;exact⟨σ2,h2,rfl⟩
 |(n,b)::A,σ,σ1,σ2,h1,h2=>by
  simp only[St.dX] at h1;split at h1
  ·rename_i nf e;obtain⟨τ,t1,t2⟩:=agk h1 h2;obtain⟨τ',s1,s2⟩:=atH e t1;exact⟨τ',s1,by simp only[St.dX,s2];exact t2⟩
  ·cases h1
theorem WJ:∀{Bs A:List (Nat×aK)} {σ σ1 σ2:St},σ.dX A=some σ1->σ1.dX Bs=some σ2->∃τ,σ.dX Bs=some τ/\τ.dX A=some σ2
 |[],A,σ,σ1,σ2,h1,h2=>by
  simp only[St.dX] at h2;injection h2 with h2;subst h2;exact⟨σ,rfl,h1⟩
 |(m,c)::Bs,A,σ,σ1,σ2,h1,h2=>by
  simp only[St.dX] at h2;split at h2
  ·rename_i j8 e;obtain⟨τ,t1,t2⟩:=agk h1 e;obtain⟨τ',s1,s2⟩:=WJ t2 h2;exact⟨τ',by simp only[St.dX,t1];exact s1,s2⟩
  ·cases h2
theorem DG:∀{A:List (Nat×aK)} {σ σ1:St},σ.dX A=some σ1->(∀n,σ.used n=true->σ1.used n=true/\σ1.h n=σ.h n)/\σ1.env=σ.env
 |[],σ,σ1,h1=>by
  simp only[St.dX] at h1;injection h1 with h1;subst h1;exact⟨fun n hn=>⟨hn,rfl⟩,rfl⟩
 |(m,c)::A,σ,σ1,h1=>by
  simp only[St.dX] at h1;split at h1
  ·rename_i nf e;obtain⟨u1,rfl⟩:=qH e;obtain⟨t1,t2⟩:=DG h1;refine⟨fun n hn=>?_,t2⟩;have aR:n≠m:=fun he=>by subst he;rw[u1] at hn;cases hn
   obtain⟨s1,s2⟩:=t1 n (wQ _ _ hn);exact⟨s1,by rw[s2];exact dN _ _ _ _ aR⟩
  ·cases h1
structure Wf (σ:St):Prop where
 env:∀s m,(σ.env s).ref m->σ.used m=true
 box:∀m cs c n,σ.h m=some (.box cs)->c∈cs->c.ref n->σ.used n=true
def ao.flat:ao->Bool
 |.c _|.nil _|.cD=>true
 |_=>false
def MO.flat:MO->Bool
 |.t _=>true
 |.k (.one c)=>c.flat
 |.k (.agg cs)=>cs.all ao.flat
 |.k (.cF xs)=>xs.isEmpty
theorem ao.adV {c:ao} (h:c.flat=true) (m:Nat):¬c.ref m:=by
 cases c<;>first|exact id|(simp[ao.flat] at h)
theorem Wf.arg {σ:St} (W:Wf σ) {x:MO} (hx:x.flat=true) (m:Nat) (hm:(σ.ev x).ref m):σ.used m=true:=by
 cases x with
 |t n=>exact W.env n m hm
 |k v=>cases v with
  |one c=>exact absurd hm (ao.adV hx m)
  |agg cs=>
   obtain⟨c,hc,hm⟩:=hm;exact absurd hm (ao.adV (zaf.1 hx c hc) m)
  |cF xs=>
   have:xs=[]:=by simpa[MO.flat] using hx
   subst this;obtain⟨c,hc,_⟩:=hm;cases hc
theorem ajy (T:br) (d:Option Nat) (op:bm) (ev:MO->aA) (h:Nat->Option aK) (hc:op.fG=0) {x:aA×List (Nat×aK)} (hx:rd T d op ev h=some x):x.2=[]:=by
 cases op<;>simp[bm.fG] at hc<;>simp only[rd] at hx
 all_goals
  repeat' split at hx
  all_goals first|(cases hx;rfl)|(cases hx)
theorem Pf {σ:St} {e:Nat->aA} {x:MO} (h:∀n,x=.t n->e n=σ.env n):(σ.we e).ev x=σ.ev x:=by
 cases x with
 |t n=>exact h n rfl
 |k v=>rfl
section
variable {T:br} {dx dy:Option Nat} {x y:bm} {σ σ1 σ2:St}
theorem AK (yV:∀sz p v,x=.store sz p v->dx=none) (h1:exec T dx x σ=some σ1):σ1.env=kP σ.env dx (amJ dx σ1.env):=by
 have h:=Uh T dx x σ σ.env (fun _ _=>rfl) yV;rw[aDn,h1] at h;simp only[zab] at h;injection h with h;rw[<-abh]
 calc σ1.env=(σ1.we (yp σ.env dx σ1.env)).env:=by rw[<-h]
  _=_:=rfl
theorem acN (W:Wf σ) (hd:∀n,dx=some n->dy≠some n) (uH:∀n,dx=some n->MO.t n∉y.args) (xE:∀n,dy=some n->MO.t n∉x.args)
  (Gk:∀a∈x.args,a.flat=true) (Dj:∀a∈y.args,a.flat=true)
  (yV:∀sz p v,x=.store sz p v->dx=none) (JF:∀sz p v,y=.store sz p v->dy=none) (aDI:x.fG=0\/y.fG=0\/(x.fG<=1/\y.fG<=1))
  (h1:exec T dx x σ=some σ1) (h2:exec T dy y σ1=some σ2):∃τ,exec T dy y σ=some τ/\exec T dx x τ=some σ2:=by
 have afV:∀(e:Nat->aA) (v:aA) (s:St),∀a∈y.args,(s.we (kP s.env dx v)).ev a=s.ev a:=fun e v s a ha=>Pf fun n hn=>u7 fun tr=>uH n tr (hn▸ha);have afT:∀(e:Nat->aA) (v:aA) (s:St),∀a∈x.args,(s.we (kP s.env dy v)).ev a=s.ev a:=fun e v s a ha=>Pf fun n hn=>u7 fun tr=>xE n tr (hn▸ha);by_cases cx:x.fG=0
 ·rw[tf T dx x σ (by omega)] at h1;cases hr:rd T dx x σ.ev σ.h with
  |none=>rw[hr] at h1;cases h1
  |some p=>
   obtain⟨v,bs⟩:=p;have hb:bs=[]:=ajy T dx x _ _ cx hr;subst hb;rw[hr] at h1;simp only[zai,fin,St.dX,zab] at h1;injection h1 with h1;rw[sH] at h1;subst h1;rw[Uh T dy y σ _ (afV σ.env v σ) JF] at h2;cases hy:exec T dy y σ with
   |none=>rw[hy] at h2;cases h2
   |some τ=>
    rw[hy] at h2;simp only[zab] at h2;injection h2 with h2;refine⟨τ,rfl,?_⟩;have v5:=AK JF hy;rw[tf T dx x τ (by omega),ajz T dx x τ.ev σ.h τ.h cx,HB T dx x (ev:=σ.ev) (ev':=τ.ev) σ.h (fun a ha=>by
     cases a with
     |t n=>
      show τ.env n=σ.env n;rw[v5];exact u7 fun tr=>xE n tr ha
     |k v=>rfl),hr]
    simp only[zai,fin,St.dX,zab];rw[<-h2,sH];congr 1;have:kP τ.env dx v=yp (kP σ.env dx v) dy τ.env:=by
     rw[abh,Q6 σ.env _ _ hd];rw[<-v5]
    rw[this]
 ·by_cases cy:y.fG=0
  ·rw[tf T dy y σ1 (by omega)] at h2;cases hr:rd T dy y σ1.ev σ1.h with
   |none=>rw[hr] at h2;cases h2
   |some p=>
    obtain⟨v,bs⟩:=p;have hb:bs=[]:=ajy T dy y _ _ cy hr;subst hb;rw[hr] at h2;simp only[zai,fin,St.dX,zab] at h2;injection h2 with h2;have v5:=AK yV h1;refine⟨σ.put dy v,?_,?_⟩
    ·rw[tf T dy y σ (by omega),ajz T dy y σ.ev σ1.h σ.h cy,HB T dy y (ev:=σ1.ev) (ev':=σ.ev) σ1.h (fun a ha=>by
      cases a with
      |t n=>
       show σ.env n=σ1.env n;rw[v5];exact(u7 fun tr=>uH n tr ha).symm
      |k v=>rfl),hr]
     rfl
    ·rw[sH,Uh T dx x σ _ (afT σ.env v σ) yV,h1];simp only[zab];rw[<-h2,sH];congr 2;rw[abh,<-Q6 σ.env _ _ hd,<-v5]
  ·have cx1:x.fG<=1:=by omega
   have cy1:y.fG<=1:=by omega
   rw[tf T dx x σ cx1] at h1;cases hr:rd T dx x σ.ev σ.h with
   |none=>rw[hr] at h1;cases h1
   |some p=>
    obtain⟨v,A⟩:=p;rw[hr] at h1;simp only[zai,fin] at h1;cases hA:σ.dX A with
    |none=>rw[hA] at h1;cases h1
    |some Cj=>
     rw[hA] at h1;simp only[zab] at h1;injection h1 with h1;rw[sH] at h1;subst h1;obtain⟨oa,ea⟩:=DG hA;rw[tf T dy y _ cy1] at h2;have hry:rd T dy y (Cj.we (kP Cj.env dx v)).ev (Cj.we (kP Cj.env dx v)).h=rd T dy y σ.ev σ.h:=by
      rw[HB T dy y (ev:=σ.ev) _ (fun a ha=>by rw[afV σ.env v Cj a ha];cases a with
       |t n=>show Cj.env n=σ.env n;rw[ea]
       |k v=>rfl)]
      exact ajw (u:=fun n=>σ.used n=true) T dy y σ.ev (fun n hn=>(oa n hn).2) W.box (fun a ha m hm=>W.arg (Dj a ha) m hm)
     rw[hry] at h2;cases VT:rd T dy y σ.ev σ.h with
     |none=>rw[VT] at h2;cases h2
     |some q=>
      obtain⟨v2,Bs⟩:=q;rw[VT] at h2;simp only[zai,fin,DH] at h2;cases hB:Cj.dX Bs with
      |none=>rw[hB] at h2;cases h2
      |some amV=>
       rw[hB] at h2;simp only[zab] at h2;injection h2 with h2;obtain⟨Ck,b1,b2⟩:=WJ hA hB;obtain⟨ob,eb⟩:=DG b1;obtain⟨oab,eab⟩:=DG hB;refine⟨Ck.put dy v2,?_,?_⟩
       ·rw[tf T dy y σ cy1,VT];simp[fin,b1]
       ·rw[sH,tf T dx x _ cx1];have hrx:rd T dx x (Ck.we (kP Ck.env dy v2)).ev (Ck.we (kP Ck.env dy v2)).h=rd T dx x σ.ev σ.h:=by
         rw[HB T dx x (ev:=σ.ev) _ (fun a ha=>by rw[afT σ.env v2 Ck a ha];cases a with
          |t n=>show Ck.env n=σ.env n;rw[eb]
          |k v=>rfl)]
         exact ajw (u:=fun n=>σ.used n=true) T dx x σ.ev (fun n hn=>(ob n hn).2) W.box (fun a ha m hm=>W.arg (Gk a ha) m hm)
        rw[hrx,hr];simp only[zai,fin,DH,b2,zab];rw[<-h2,sH,sH];congr 1;show amV.we (kP (kP Ck.env dy v2) dx v)=amV.we (kP (kP Cj.env dx v) dy v2);rw[eb,ea,Q6 σ.env _ _ hd]
end
theorem FV (T:br) (o:cZ) (σ:St):gv T o σ=(qt o σ.env).bind fun op=>exec T o.dst op σ:=by
 unfold gv qt;cases hg:o.guard with
 |none=>rfl
 |some g=>
  obtain⟨s,oK⟩:=g;simp only
  generalize σ.env s=v;cases v with
  |one c=>cases c with
   |c x=>cases x with
    |bool b=>simp only;split<;>rfl
    |_=>rfl
   |_=>rfl
  |agg cs=>rfl
  |cF xs=>cases xs<;>rfl
def cZ.x4 (o:cZ) (n:Nat):Bool:=(o.op.args.all fun a=>match a with|.t m=>m !=n|_=>true)&&(match o.guard with|some (s,_)=>s !=n|none=>true)
def cZ.ur (o:cZ):Bool:=o.op.args.all MO.flat&&(match o.op with|.store ..=>o.dst.isNone|_=>true)
def FL (x y:cZ):Bool:=
 (match x.dst with|some d=>y.x4 d&&(match y.dst with|some e=>e !=d|none=>true)|none=>true)&&
 (match y.dst with|some d=>x.x4 d|none=>true)&&x.ur&&y.ur&&(x.op.fG==0||y.op.fG==0||(decide (x.op.fG<=1)&&decide (y.op.fG<=1)))
theorem cZ.QT {o:cZ} {n:Nat} (h:o.x4 n=true):MO.t n∉o.op.args:=by
 intro hm;simp only[cZ.x4,zaa,zaf] at h;have:=h.1 _ hm;simp at this
theorem O0 {o:cZ} {e:Nat->aA} {op:bm} (h:qt o e=some op):op=o.op\/op=.mv (.k (.cF [])):=by
 unfold qt at h;split at h
 ·injection h with h;exact .inl h.symm
 ·split at h
  ·split at h
   ·injection h with h;exact .inl h.symm
   ·injection h with h;exact .inr h.symm
  ·injection h with h;exact .inr h.symm
  ·cases h
theorem I5 {o:cZ} {e e':Nat->aA} (h:∀s w,o.guard=some (s,w)->e' s=e s):qt o e'=qt o e:=by
 unfold qt;cases hg:o.guard with
 |none=>rfl
 |some g=>obtain⟨s,w⟩:=g;simp only;rw[h s w hg]
theorem aon {T:br} {x y:cZ} {σ σ1 σ2:St} (W:Wf σ) (hc:FL x y=true) (h1:gv T x σ=some σ1) (h2:gv T y σ1=some σ2):
  ∃τ,gv T y σ=some τ/\gv T x τ=some σ2:=by
 simp only[FL,zaa] at hc;obtain⟨⟨⟨⟨c1,c2⟩,c3⟩,c4⟩,c5⟩:=hc;rw[FV] at h1 h2;cases ex:qt x σ.env with
 |none=>rw[ex] at h1;cases h1
 |some mH=>
  rw[ex] at h1;have h1:exec T x.dst mH σ=some σ1:=h1;have jx:mH=x.op\/mH=.mv (.k (.cF [])):=O0 ex;have ED:∀sz p v,mH=.store sz p v->x.dst=none:=by
   intro sz p v he;rcases jx with rfl|rfl
   ·simp only[cZ.ur,zaa,he] at c3;simpa using c3.2
   ·cases he
  have v5:=AK ED h1;have Wa:∀s w,y.guard=some (s,w)->x.dst≠some s:=by
   intro s w hg hd;rw[hd] at c1;simp[cZ.x4,hg] at c1
  have P4:∀s w,x.guard=some (s,w)->y.dst≠some s:=by
   intro s w hg hd;rw[hd] at c2;simp[cZ.x4,hg] at c2
  have Pk:qt y σ1.env=qt y σ.env:=I5 fun s w hg=>by rw[v5];exact u7 (Wa s w hg)
  rw[Pk] at h2;cases ey:qt y σ.env with
  |none=>rw[ey] at h2;cases h2
  |some lW=>
   rw[ey] at h2;have h2:exec T y.dst lW σ1=some σ2:=h2;have jy:lW=y.op\/lW=.mv (.k (.cF [])):=O0 ey;have Ca:∀sz p v,lW=.store sz p v->y.dst=none:=by
    intro sz p v he;rcases jy with rfl|rfl
    ·simp only[cZ.ur,zaa,he] at c4;simpa using c4.2
    ·cases he
   have Jh:∀a∈mH.args,a.flat=true:=by
    rcases jx with rfl|rfl
    ·simp only[cZ.ur,zaa,zaf] at c3;exact c3.1
    ·intro a ha;simp[bm.args] at ha;subst ha;rfl
   have Ji:∀a∈lW.args,a.flat=true:=by
    rcases jy with rfl|rfl
    ·simp only[cZ.ur,zaa,zaf] at c4;exact c4.1
    ·intro a ha;simp[bm.args] at ha;subst ha;rfl
   have uH:∀n,x.dst=some n->MO.t n∉lW.args:=by
    intro n hd;rcases jy with rfl|rfl
    ·rw[hd] at c1;simp only[zaa] at c1;exact cZ.QT c1.1
    ·simp[bm.args]
   have xE:∀n,y.dst=some n->MO.t n∉mH.args:=by
    intro n hd;rcases jx with rfl|rfl
    ·rw[hd] at c2;exact cZ.QT c2
    ·simp[bm.args]
   have vV:∀n,x.dst=some n->y.dst≠some n:=by
    intro n hd he;rw[hd,he] at c1;simp at c1
   have di:mH.fG=0\/lW.fG=0\/(mH.fG<=1/\lW.fG<=1):=by
    rcases jx with rfl|rfl
    ·rcases jy with rfl|rfl
     ·simp only[zaz,beq_iff_eq,zaa,decide_eq_true_eq,or_assoc] at c5;exact c5
     ·exact .inr (.inl rfl)
    ·exact .inl rfl
   obtain⟨τ,t1,t2⟩:=acN W vV uH xE Jh Ji ED Ca di h1 h2;refine⟨τ,?_,?_⟩
   ·rw[FV,ey];exact t1
   ·rw[FV,I5 (e:=σ.env) (fun s w hg=>by rw[AK Ca t1];exact u7 (P4 s w hg)),ex];exact t2
def acE (ops:Array Oper) (o:Oper) (mo:cZ):Bool:=
 match o.guard,mo.guard with
 |none,none=>true
 |some (j,oK),some (s,amN)=>decide ((ops[j]?).bind (·.dst)=some s)&&(oK==amN)
 |_,_=>false
def yE (P:Program) (N:Nat) (ops:Array Oper) (o:Oper) (mo:cZ):Bool:=
 decide (o.dst=mo.dst)&&(match o.dst with|some n=>decide (n<N)|none=>true)&&acE ops o mo&&f8 P o mo.op
def s8 (P:Program) (N:Nat) (ops:Array Oper):List Oper->List cZ->Bool
 |[],[]=>true
 |o::os,m::ms=>yE P N ops o m&&s8 P N ops os ms
 |_,_=>false
section
variable {B:Nat} {E:Ex} {w0 w w':World} {G G':Gh} {N:Nat}
variable {P:Program} {T:br} {o:Oper} {mo:cZ} {a:Act} {σ σ':St} {Q:Exit->Act->World->Prop} {ops:Array Oper}
structure qm (P:Program) (T:br):Prop where
 spec:MN P T
 alY:MP P T
 alZ:Fm P T
 al0:Au P T
 fn:∀f M,br.find T.pure f=some M->cc P f=true
theorem R.guard (r:R B E w0 N σ a w G) {j s:Nat} {b:Bool} (hj:(ops[j]?).bind (·.dst)=some s) (hb:σ.env s=.one (.c (.bool b))):yielded ops a.tmps j=some b:=by
 have h1:=r.env s;rw[hb] at h1;have h2:=h1.Fz;have h3:a.tmps[s]? =some (.bool b):=by
  rw[zaL] at h2;cases ht:a.tmps[s]? with
  |none=>rw[ht] at h2;simp[undef] at h2
  |some v=>rw[ht] at h2;simp at h2;rw[h2]
 unfold yielded;rw[hj];simp[h3]
theorem alF {w:World} {G:Gh} {h:Nat->Option aK}:RA w G h (.cF []) undef:=⟨[],rfl,rfl,fun j x u hx=>by simp at hx⟩
theorem alG {u:Nat->Prop} (m:Nat) (hm:(aA.cF []).ref m):u m:=by
 obtain⟨c,hc,_⟩:=hm;cases hc
theorem R.arB (r:R B E w0 N σ a w G) {j s:Nat} (hj:(ops[j]?).bind (·.dst)=some s) (hb:σ.env s=.cF []):yielded ops a.tmps j=none:=by
 have h1:=r.env s;rw[hb] at h1;obtain⟨vs,h2,h3,_⟩:=h1;have:vs=[]:=zaS.1 h3;subst this;rw[zaL] at h2;unfold yielded;rw[hj];simp only[zai];cases ht:a.tmps[s]? with
 |none=>rfl
 |some v=>
  rw[ht] at h2;simp only[zbf] at h2;subst h2;rfl
theorem Ph (r:R B E w0 N σ a w G) (hT:qm P T) (hc:yE P N ops o mo=true) (hx:gv T mo σ=some σ'):
  (Region.wanted o (yielded ops a.tmps)=true/\o.wp P a w (Nx B E w0 N σ') Q)\/(Region.wanted o (yielded ops a.tmps)=false/\Nx B E w0 N σ' (a.put o.dst undef) w):=by
 simp only[yE,zaa,decide_eq_true_eq] at hc;obtain⟨⟨⟨c1,c2⟩,c3⟩,c4⟩:=hc;have hN:∀n,o.dst=some n->n<N:=fun n hn=>by rw[hn] at c2;simpa using c2
 unfold acE at c3;unfold gv at hx;split at c3
 ·rename_i g1 g2;simp only[g2] at hx;rw[<-c1] at hx;exact .inl ⟨by simp[Region.wanted,g1],ady r hT.spec hT.alY hT.alZ hT.al0 hT.fn hN c4 hx⟩
 ·rename_i j oK s amN g1 g2;simp only[zaa,decide_eq_true_eq,beq_iff_eq] at c3;obtain⟨k1,rfl⟩:=c3;simp only[g2] at hx;split at hx
  ·rename_i b hb;have hy:=r.guard k1 hb;split at hx
   ·rename_i Vc;rw[<-c1] at hx;exact .inl ⟨by simp[Region.wanted,g1,hy,Vc],ady r hT.spec hT.alY hT.alZ hT.al0 hT.fn hN c4 hx⟩
   ·rename_i Vc;injection hx with hx;subst hx;refine .inr ⟨by simp[Region.wanted,g1,hy,Vc],G,?_⟩;rw[<-c1];exact r.put (x:=.cF []) alF alG hN
  ·rename_i hb;have hy:=r.arB k1 hb;injection hx with hx;subst hx;refine .inr ⟨by simp[Region.wanted,g1,hy],G,?_⟩;rw[<-c1];exact r.put (x:=.cF []) alF alG hN
  ·cases hx
 ·cases c3
theorem R.wf (r:R B E w0 N σ a w G):Wf σ:=⟨r.wS,r.hr.j7⟩
theorem aDt {K:Act->World->Prop} (h:o.wp P a w K (fun _ _ _=>False)):∃a' w',K a' w':=by
 unfold Oper.wp at h;unfold Oper.upon at h;split at h
 ·exact⟨_,_,h⟩
 ·exact⟨_,_,h⟩
 ·exact⟨_,_,h⟩
 ·obtain⟨e,w',fr,hR,_⟩:=h [];cases e with
  |returned v=>exact⟨_,_,hR⟩
  |panicked c=>exact hR.elim
  |outgrown=>obtain⟨_,_,hf⟩:=hR;exact hf.elim
 ·obtain⟨v,w',hR,_⟩:=h default [];exact⟨_,_,hR⟩
 ·exact h.elim
 ·exact h.elim
def ML (B:Nat) (E:Ex) (w0:World) (N:Nat) (σ:St):Prop:=∃a w G,R B E w0 N σ a w G
theorem ajC (r:ML B E w0 N σ) (hT:qm P T) (hc:yE P N ops o mo=true) (hx:gv T mo σ=some σ'):ML B E w0 N σ':=by
 obtain⟨a,w,G,r⟩:=r;rcases Ph (Q:=fun _ _ _=>False) r hT hc hx with⟨_,h⟩|⟨_,G',h⟩
 ·obtain⟨a',w',G',h⟩:=aDt h;exact⟨a',w',G',h⟩
 ·exact⟨_,_,G',h⟩
theorem abo (hT:qm P T):∀{l:List Oper} {ms:List cZ} {σ σ':St} {a:Act} {w:World} {G:Gh},s8 P N ops l ms=true->ni T ms σ=some σ'->R B E w0 N σ a w G->
  (∀a w G,R B E w0 N σ' a w G->Q .normal a w)->wpList P ops Q l a w
 |[],[],σ,σ',a,w,G,hc,hx,r,hQ=>by
  simp only[ni] at hx;injection hx with hx;subst hx;exact hQ _ _ _ r
 |o::l,m::ms,σ,σ',a,w,G,hc,hx,r,hQ=>by
  simp only[s8,zaa] at hc;simp only[ni] at hx;split at hx
  ·rename_i σ1 e1;unfold wpList;rcases Ph (Q:=Q) r hT hc.1 e1 with⟨hw,h⟩|⟨hw,G',h⟩
   ·rw[if_pos hw];exact .inl (Oper.wp_mono (fun a' w' ⟨G',r'⟩=>abo hT hc.2 hx r' hQ) h)
   ·rw[if_neg (by simp[hw])];exact abo hT hc.2 hx h hQ
  ·cases hx
 |[],_::_,_,_,_,_,_,hc,_,_,_=>by simp[s8] at hc
 |_::_,[],_,_,_,_,_,hc,_,_,_=>by simp[s8] at hc
def uq (T:br) (ms:List cZ):List Nat->St->Option St
 |[],σ=>some σ
 |i::L,σ=>match ms[i]? with
  |some o=>match gv T o σ with
   |some σ1=>uq T ms L σ1
   |none=>none
  |none=>none
inductive Aa (ops:Array Oper):Nat->Nat->Prop where
 |adf (i:Nat) (o:Oper) (e:_):ops[i]? =some o->e∈o.after->Region.binds .any e=true->Aa ops i e.on
 |step (i j:Nat) (o:Oper) (e:_):ops[i]? =some o->e∈o.after->Region.binds .any e=true->Aa ops e.on j->Aa ops i j
def Uf (o:Oper):List Nat:=(o.after.toList.filter (Region.binds .any)).map (·.on)
def KB (eE:List Nat):List Nat->Nat
 |[]=>0
 |j::js=>(Nat.shiftLeft 1 j|||eE.getD j 0)|||KB eE js
def He:List Oper->List Nat->List Nat
 |[],eE=>eE
 |o::os,eE=>He os (eE++[KB eE (Uf o)])
theorem av1 {o:Oper} {j:Nat} (h:j∈Uf o):∃e∈o.after,Region.binds .any e=true/\e.on=j:=by
 unfold Uf at h;simp only[zaj,za0] at h;obtain⟨e,⟨h1,h2⟩,h3⟩:=h;exact⟨e,zaK.1 h1,h2,h3⟩
theorem ahb {eE:List Nat}:∀{js:List Nat} {k:Nat},(KB eE js).testBit k=true->∃j∈js,j=k\/(eE.getD j 0).testBit k=true
 |[],k,h=>by simp[KB] at h
 |j::js,k,h=>by
  simp only[KB,Nat.testBit_or,zaz] at h;rcases h with(h|h)|h
  ·refine⟨j,by simp,.inl ?_⟩;have h':(1<<<j).testBit k=true:=h;rw[Nat.one_shiftLeft,Nat.testBit_two_pow] at h';exact of_decide_eq_true h'
  ·exact⟨j,by simp,.inr h⟩
  ·obtain⟨j',h1,h2⟩:=ahb h;exact⟨j',by simp[h1],h2⟩
theorem XK {ops:Array Oper}:∀(os:List Oper) (eE:List Nat) (pre:List Oper),ops.toList=pre++os->eE.length=pre.length->(∀i k,(eE.getD i 0).testBit k=true->Aa ops i k)->
  ∀i k,((He os eE).getD i 0).testBit k=true->Aa ops i k
 |[],eE,pre,_,_,h,i,k,hb=>h i k hb
 |o::os,eE,pre,he,hl,h,i,k,hb=>by
  refine XK os _ (pre++[o]) (by simp[he]) (by simp[hl]) (fun i k hb=>?_) i k hb;by_cases cC:i<eE.length
  ·rw[zal,List.getElem?_append_left cC,<-zal] at hb;exact h i k hb
  ·by_cases hi:i=eE.length
   ·subst hi;rw[zal,zav (zau _),za1] at hb;simp only[zaT,zbf] at hb;have ho:ops[eE.length]? =some o:=by
     have:ops.toList[eE.length]? =some o:=by rw[he,hl,zav (zau _),za1];rfl
     simpa using this
    obtain⟨j,h1,h2⟩:=ahb hb;obtain⟨e,e1,e2,rfl⟩:=av1 h1;rcases h2 with rfl|h2
    ·exact .adf _ o e ho e1 e2
    ·exact .step _ _ o e ho e1 e2 (h _ _ h2)
   ·rw[zal,zaZ (by simp;omega)] at hb;simp at hb
def OL (ops:List Oper) (ms:List cZ):Bool:=
 (fun ks:List Nat=>(List.range ops.length).all fun i=>match ops[i]?,ms[i]? with
  |some o,some m=>(o.after.toList.all fun e=> !Region.binds .any e||decide (e.on<i))&&
   (List.range i).all fun j=>(ks.getD i 0).testBit j||(match ms[j]? with|some mj=>FL mj m|none=>false)
  |_,_=>false) (He ops [])
structure abw (ops:Array Oper) (ms:List cZ):Prop where
 back:∀(i:Nat) (o:Oper),ops[i]? =some o->∀e∈o.after,Region.binds .any e=true->e.on<i
 pair:∀(i j:Nat) (o:Oper) (m:cZ),ops[i]? =some o->ms[i]? =some m->j<i->Aa ops i j\/∃mj,ms[j]? =some mj/\FL mj m=true
theorem aoa {ms:List cZ} (h:OL ops.toList ms=true):abw ops ms:=by
  simp only[OL,zaf,zaF] at h;have cN:∀(i:Nat) (o:Oper),ops[i]? =some o->∃m,ms[i]? =some m/\(o.after.toList.all fun e=> !Region.binds .any e||decide (e.on<i))=true/\
        ∀j,j<i->(((He ops.toList []).getD i 0).testBit j||(match ms[j]? with|some mj=>FL mj m|none=>false))=true:=by
    intro i o ho;have hi:i<ops.toList.length:=by simpa using(zan.1 ho).1
    have fA:=h i hi;have jV:ops.toList[i]? =some o:=by simpa using ho
    rw[jV] at fA;cases hm:ms[i]? with
    |none=>rw[hm] at fA;cases fA
    |some m=>
     rw[hm] at fA;simp only[zaa,zaf,zaF] at fA;exact⟨m,rfl,by rw[zaf];exact fA.1,fA.2⟩
  refine⟨fun i o ho e he hb=>?_,fun i j o m ho hm hj=>?_⟩
  · obtain⟨m,_,k1,_⟩:=cN i o ho;have:=zaf.1 k1 e (zaK.2 he);simp[hb] at this;exact this
  · obtain⟨m',cQ,_,k2⟩:=cN i o ho;rw[hm] at cQ;injection cQ with cQ;subst cQ;have:=k2 j hj;rw[zaz] at this;rcases this with h1|h1
    · exact .inl (XK ops.toList [] [] rfl rfl (by intro i k hb;simp at hb) i j h1)
    · cases Gs:ms[j]? with
      |none=>rw[Gs] at h1;cases h1
      |some mj=>rw[Gs] at h1;exact .inr ⟨mj,rfl,h1⟩
def Sk (ops:Array Oper) (eS:Array Bool):Prop:=
 ∀(k:Nat) (o:Oper),ops[k]? =some o->eS.getD k true=true->∀e∈o.after,Region.binds .any e=true->eS.getD e.on true=true
theorem aci {eS:Array Bool} (hc:Sk ops eS) {i j:Nat} (hb:Aa ops i j):(∀o,ops[i]? =some o->∀e∈o.after,Region.binds .any e=true->eS.getD e.on true=true)->eS.getD j true=true:=by
 induction hb with
 |adf i o e ho he hb=>exact fun h=>h o ho e he hb
 |step i j o e ho he hb _ ih=>exact fun h=>ih fun o' jV=>hc _ o' jV (h o ho e he hb)
theorem adB (hT:qm P T) {ms:List cZ} (vU:∀(i:Nat) (m:cZ),ms[i]? =some m->∃o,ops[i]? =some o/\yE P N ops o m=true) {i:Nat} {mi:cZ} (hi:ms[i]? =some mi) {post:List Nat} {me:St}:
  ∀{pre:List Nat} {σ:St},ML B E w0 N σ->uq T ms (pre++i::post) σ=some me->(∀j∈pre,∃mj,ms[j]? =some mj/\FL mj mi=true)->
  ∃τ,gv T mi σ=some τ/\uq T ms (pre++post) τ=some me
 |[],σ,hr,hx,hc=>by
  simp only[zbi,uq,hi] at hx;split at hx
  ·rename_i σ1 e;exact⟨σ1,e,hx⟩
  ·cases hx
 |j::pre,σ,hr,hx,hc=>by
  obtain⟨mj,hj,tp⟩:=hc j (by simp);simp only[zaU,uq,hj] at hx;split at hx
  ·rename_i σ1 e1;obtain⟨oj,_,mw⟩:=vU j mj hj;obtain⟨sO,t1,t2⟩:=adB hT vU hi (ajC hr hT mw e1) hx (fun k hk=>hc k (by simp[hk]));obtain⟨a,w,G,r⟩:=hr;obtain⟨τ,s1,s2⟩:=aon r.wf tp e1 t1;exact⟨τ,s1,by simp only[zaU,uq,hj,s2];exact t2⟩
  ·cases hx
theorem aDr (hT:qm P T) {ms:List cZ} (vU:∀(i:Nat) (m:cZ),ms[i]? =some m->∃o,ops[i]? =some o/\yE P N ops o m=true) (hlen:ms.length=ops.size) (hd:abw ops ms) {me:St}
  (hQ:∀a w G,R B E w0 N me a w G->Q .normal a w):
  ∀(lm:Nat) (L:List Nat) (eS:Array Bool) (σ:St) (a:Act) (w:World) (G:Gh),R B E w0 N σ a w G->uq T ms L σ=some me->L.Pairwise (·<·)->L.length<=lm->eS.size=ops.size->
   (∀j,j∈L↔eS.getD j true=false)->Sk ops eS->wpAny P .any ops Q lm eS a w:=by
 have first:∀(L:List Nat) (eS:Array Bool),L.Pairwise (·<·)->eS.size=ops.size->(∀j,j∈L↔eS.getD j true=false)->Region.ready .any ops eS=[]->L=[]:=by
  intro L eS hp hs hL hr;cases L with
  |nil=>rfl
  |cons j L=>
   exfalso;have hj:=(hL j).1 (by simp);have qC:j<ops.size:=by
    rw[<-hs];rcases za2 j eS.size with h|h
    ·exact h
    ·simp[zaA h] at hj
   have ho:ops[j]? =some ops[j]:=zaR qC;have:j∈Region.ready .any ops eS:=by
    rw[mem_ready];refine⟨hj,_,ho,fun e he hb=>?_⟩;have cC:=hd.back j _ ho e he hb;have rh:e.on∉j::L:=by
     intro hm;cases hm with
     |head=>omega
     |tail _ hm=>have:=(zay.1 hp).1 _ hm;omega
    have aR:eS.getD e.on true≠false:=fun h=>rh ((hL e.on).2 h);have tt:e.on<eS.size:=by omega
    simp[tt] at aR⊢;exact aR
   rw[hr] at this;cases this
 intro lm;induction lm with
 |zero=>
  intro L eS σ a w G r hx hp hl hs hL hC;have vS:L=[]:=zap (by omega);subst vS;simp only[uq] at hx;injection hx with hx;subst hx;refine⟨?_,hQ _ _ _ r⟩;cases hr:Region.ready .any ops eS with
  |nil=>rfl
  |cons i l=>
   have hm:i∈Region.ready .any ops eS:=by rw[hr];simp
   have:=(hL i).2 (mem_ready.1 hm).1;cases this
 |succ lm ih=>
  intro L eS σ a w G r hx hp hl hs hL hC;refine⟨fun hr=>?_,fun i hi=>?_⟩
  ·have vS:=first L eS hp hs hL hr
   subst vS;simp only[uq] at hx;injection hx with hx;subst hx;exact hQ _ _ _ r
  ·obtain⟨Vy,oi,nw,Jx⟩:=mem_ready.1 hi;have uD:i∈L:=(hL i).2 Vy;obtain⟨pre,post,rfl⟩:=zbb uD;have his:i<ops.size:=(zan.1 nw).1;have Dr:ms[i]? =some ms[i]:=zad (by omega);obtain⟨o',jV,Vj⟩:=vU i _ Dr;rw[nw] at jV;injection jV with jV;subst jV;have g9:=zaD.1 hp;obtain⟨τ,t1,t2⟩:=adB (ops:=ops) hT vU Dr ⟨a,w,G,r⟩ hx (fun j hj=>by
    have rW:j<i:=g9.2.2 j hj i (by simp);rcases hd.pair i j oi _ nw Dr rW with U9|h
    ·have h1:=aci hC U9 (fun o ho e he hb=>by
      rw[nw] at ho;injection ho with ho;subst ho;have h1:=Jx e he hb;have cC:=hd.back i _ nw e he hb;have tt:e.on<eS.size:=by omega
      simp[tt] at h1⊢;exact h1)
     have h2:=(hL j).1 (by simp[hj]);rw[h1] at h2;cases h2
    ·exact h)
   have zf:∀a' w',Nx B E w0 N τ a' w'->wpAny P .any ops Q lm (eS.setIfInBounds i true) a' w':=by
    rintro a' w' ⟨G',r'⟩;refine ih (pre++post) _ τ a' w' G' r' t2 ?_ (by simp at hl⊢;omega) (by simpa using hs) (fun j=>?_) (fun k o ho hk e he hb=>?_)
    ·rw[zaD];exact⟨g9.1,(zay.1 g9.2.1).2,fun x hx y hy=>g9.2.2 x hx y (by simp[hy])⟩
    ·by_cases rW:j=i
     ·subst rW;have qC:j<eS.size:=by omega
      simp only[zae];constructor
      ·rintro(h|h)
       ·have:=g9.2.2 j h j (by simp);omega
       ·have:=(zay.1 g9.2.1).1 j h;omega
      ·intro h;simp[qC] at h
     ·rw[getD_set_ne true (zaP rW),<-hL j];simp[rW]
    ·have JN:∀q,eS.getD q true=true->(eS.setIfInBounds i true).getD q true=true:=by
      intro q hq;by_cases mS:q=i
      ·subst mS;have:q<eS.size:=by omega
       simp[this]
      ·rw[getD_set_ne true (zaP mS)];exact hq
     by_cases Dn:k=i
     ·subst Dn;rw[nw] at ho;injection ho with ho;subst ho;have h1:=Jx e he hb;have cC:=hd.back k _ nw e he hb;have tt:e.on<eS.size:=by omega
      refine JN _ ?_;simp[tt] at h1⊢;exact h1
     ·rw[getD_set_ne true (zaP Dn)] at hk;exact JN _ (hC k o ho hk e he hb)
   unfold wpOp;rw[nw];simp only
   rcases Ph (Q:=Q) r hT Vj t1 with⟨hw,h⟩|⟨hw,h⟩
   ·rw[if_pos hw];exact .inl (Oper.wp_mono zf h)
   ·rw[if_neg (by simp[hw])];exact zf _ _ h
theorem adA:∀(post pre:List cZ) (σ:St),uq T (pre++post) (List.range' pre.length post.length) σ=ni T post σ
 |[],pre,σ=>by simp[uq,ni]
 |m::post,pre,σ=>by
  simp only[zbg,List.range'_succ,uq,ni];rw[zav (zau _),za1];simp only[zaT];cases gv T m σ with
  |none=>rfl
  |some σ1=>
   have:=adA post (pre++[m]) σ1;simp only[List.length_append,zbg,za3,List.append_assoc,List.singleton_append,Nat.zero_add] at this;exact this
theorem TW:∀{l:List Oper} {ms:List cZ},s8 P N ops l ms=true->ms.length=l.length/\∀(i:Nat) (m:cZ),ms[i]? =some m->∃o,l[i]? =some o/\yE P N ops o m=true
 |[],[],_=>⟨rfl,by simp⟩
 |o::l,m::ms,hc=>by
  simp only[s8,zaa] at hc;obtain⟨i1,i2⟩:=TW hc.2;refine⟨by simp[i1],fun i m' hm=>?_⟩;cases i with
  |zero=>simp at hm;subst hm;exact⟨o,rfl,hc.1⟩
  |succ i=>exact i2 i m' (by simpa using hm)
 |[],_::_,hc=>by simp[s8] at hc
 |_::_,[],hc=>by simp[s8] at hc
theorem R.drawn (r:R B E w0 N σ a w G) (k:Nat):R B E w0 N σ a {w with drawn:=k} G:=by
 have hw:∀b,b<w.heap.size->({w with drawn:=k}:World).heap[b]? =w.heap[b]? :=fun _ _=>rfl
 exact r.step rfl (fun _ h=>h) (cr.world (fun b hb=>hw b (r.hr.jM b hb)) _) (r.hr.grow hw (zau _)) (r.fr.grow hw (zau _) rfl rfl rfl)
theorem aAT (hT:qm P T) (hm:P.follows .mixedOrders=true) {id:Nat} {vL:Bool} {ms:List cZ} (hc:s8 P N ops ops.toList ms=true) (hd:vL=true->OL ops.toList ms=true)
  (hx:ni T ms σ=some σ') (r:R B E w0 N σ a w G) (hQ:∀a w G,R B E w0 N σ' a w G->Q .normal a w):(Code.region id ops vL).wp P Q a w:=by
 cases vL with
 |false=>exact wp_region_list (abo hT hc hx r hQ)
 |true=>
  obtain⟨k1,k2⟩:=TW hc;have hlen:ms.length=ops.size:=by simpa using k1
  refine wp_region_any hm (aDr (B:=B) (E:=E) (w0:=w0) (N:=N) hT (fun i m h=>by
   obtain⟨o,h1,h2⟩:=k2 i m h;exact⟨o,by simpa using h1,h2⟩) hlen (aoa (hd rfl)) hQ ops.size (List.range ops.size) _ σ a _ G (r.drawn _) ?_ ?_ (by simp) (by simp) (fun j=>?_) (fun k o ho hk=>?_))
  ·have:=adA (T:=T) ms [] σ;simp only[zbi,za3,hlen,<-za6] at this;rw[this];exact hx
  ·exact zaW
  ·rw[zaF];constructor
   ·intro h;simp[h]
   ·intro h;rcases za2 j ops.size with h'|h'
    ·exact h'
    ·simp[zaA (show(Array.replicate ops.size false).size<=j by simpa using h')] at h
  ·exfalso;have VE:k<ops.size:=(zan.1 ho).1;simp[VE] at hk
end
theorem Yz (ok:Nat->Bool) (env:Nat->aA):∀(ss:List Nat) (n:Nat),zM ok env ss n=if n∈ss then(env n).eP ok else .one .cD
 |[],n=>by simp[zM,AG]
 |s::ss,n=>by
  simp only[zM,ma,Yz ok env ss,zaB];by_cases h:n=s
  ·subst h;simp
  ·simp[h]
theorem Rb (ok:Nat->Bool) (h:Nat->Option aK):∀(ss:List Nat) (n:Nat),vc ok h ss n=if n∈ss/\ok n=true then(h n).map (·.eP ok) else none
 |[],n=>by simp[vc,FO]
 |s::ss,n=>by
  have ih:=Rb ok h ss n;simp only[vc,zaB];by_cases hn:n=s
  ·subst hn;by_cases hk:ok n=true
   ·rw[if_pos hk];cases hh:h n with
    |some b=>simp[cT,hk]
    |none=>simp only[ih,hh];simp
   ·rw[if_neg hk,ih];simp[hk]
  ·by_cases hk:ok s=true
   ·rw[if_pos hk];cases hh:h s with
    |some b=>simp only[dN _ _ _ _ hn,ih];simp[hn]
    |none=>simp only[ih];simp[hn]
   ·rw[if_neg hk,ih];simp[hn]
theorem ajG (ok:Nat->Bool):∀(ss:List Nat) (n:Nat),zN ok ss n=(decide (n∈ss)&&ok n)
 |[],n=>by simp[zN,adj]
 |s::ss,n=>by
  have ih:=ajG ok ss n;simp only[zN];by_cases hn:n=s
  ·subst hn;by_cases hk:ok n=true
   ·rw[if_pos hk];simp[cT,hk]
   ·rw[if_neg hk,ih];simp[hk]
  ·by_cases hk:ok s=true
   ·rw[if_pos hk,dN _ _ _ _ hn,ih];simp[hn]
   ·rw[if_neg hk,ih];simp[hn]
theorem ao.aoe {ok:Nat->Bool} {c:ao} {m:Nat} (h:(c.iB ok).lY m):ok m=true:=by
 cases c<;>simp only[ao.iB] at h<;>first|exact h.elim|skip
 all_goals
  split at h
  ·rename_i hk;have h':=h;simp only[ao.lY] at h';subst h';exact hk
  ·exact h.elim
theorem ao.FJ {ok:Nat->Bool} {c:ao} {m:Nat} (h:(c.eP ok).ref m):ok m=true:=by
 cases c with
 |fn f ed=>
  obtain⟨x,hx,h⟩:=h;obtain⟨y,hy,rfl⟩:=zaj.1 hx;exact ao.aoe h
 |c x=>exact h.elim
 |nil sz=>exact h.elim
 |dR xs off=>exact h.elim
 |cD=>exact h.elim
 |ptr n k sz off=>
  simp only[ao.eP,ao.iB] at h;split at h
  ·rename_i hk;have h':m=n:=h;subst h';exact hk
  ·exact h.elim
 |sl n sz lo len=>
  simp only[ao.eP,ao.iB] at h;split at h
  ·rename_i hk;have h':m=n:=h;subst h';exact hk
  ·exact h.elim
 |cJ n k aY off sz len=>
  simp only[ao.eP,ao.iB] at h;split at h
  ·rename_i hk;have h':m=n:=h;subst h';exact hk
  ·exact h.elim
 |eG n k aY off sz i=>
  simp only[ao.eP,ao.iB] at h;split at h
  ·rename_i hk;have h':m=n:=h;subst h';exact hk
  ·exact h.elim
section
variable {B:Nat} {E:Ex} {w0 w w':World} {G G':Gh} {N:Nat} {h h':Nat->Option aK} {ok:Nat->Bool}
variable {P:Program} {T:br} {a:Act} {σ σ':St} {Q:Exit->Act->World->Prop}
structure sR (ok:Nat->Bool) (h h':Nat->Option aK):Prop where
 le:∀n,ok n=true->h' n=(h n).map (·.eP ok)\/h' n=none
 no:∀n,ok n=false->h' n=none
theorem sR.ne (L:sR ok h h') {n:Nat} (hn:h' n≠none):ok n=true/\h n≠none:=by
 cases hk:ok n with
 |false=>exact absurd (L.no n hk) hn
 |true=>
  refine⟨rfl,fun e=>?_⟩;rcases L.le n hk with h1|h1
  ·rw[e] at h1;exact hn h1
  ·exact hn h1
theorem sR.row (L:sR ok h h') {n:Nat} {gr:Bool} {m:Mode} {sz:Nat} {xs:List (List C)} (hn:h' n=some (.row gr m sz xs)):h n=some (.row gr m sz xs):=by
 obtain⟨hk,h0⟩:=L.ne (n:=n) (by rw[hn];simp);rcases L.le n hk with h1|h1
 ·rw[h1] at hn;cases hh:h n with
  |none=>exact absurd hh h0
  |some b=>cases b with
   |box cs=>rw[hh] at hn;simp[aK.eP] at hn
   |row gr m sz xs=>rw[hh] at hn;simp only[zab,aK.eP] at hn;exact hn
 ·rw[h1] at hn;cases hn
theorem sR.box (L:sR ok h h') {n:Nat} {cs:List ao} (hn:h' n=some (.box cs)):∃lg,h n=some (.box lg)/\cs=lg.map (·.eP ok):=by
 obtain⟨hk,h0⟩:=L.ne (n:=n) (by rw[hn];simp);rcases L.le n hk with h1|h1
 ·rw[h1] at hn;cases hh:h n with
  |none=>exact absurd hh h0
  |some b=>cases b with
   |box lg=>
    rw[hh] at hn;simp only[zab,aK.eP] at hn;injection hn with hn;injection hn with hn;exact⟨lg,rfl,hn.symm⟩
   |row gr m sz xs=>rw[hh] at hn;simp[aK.eP] at hn
 ·rw[h1] at hn;cases hn
theorem ng.less (L:sR ok h h') {c:ao} {v:Value} (hc:ng w G h c v):ng w G h' (c.iB ok) v:=by
 cases c with
 |ptr n k sz off=>
  simp only[ao.iB];split
  ·exact fun hn=>hc (L.ne hn).2
  ·trivial
 |sl n sz lo len=>
  simp only[ao.iB];split
  ·exact fun hn=>hc (L.ne hn).2
  ·trivial
 |cJ n k aY off sz len=>
  simp only[ao.iB];split
  ·exact fun gr xs hn=>hc gr xs (L.row hn)
  ·trivial
 |eG n k aY off sz i=>
  simp only[ao.iB];split
  ·exact fun gr xs hn=>hc gr xs (L.row hn)
  ·trivial
 |c x=>exact hc
 |nil sz=>exact hc
 |dR xs off=>exact hc
 |fn f ed=>exact hc
 |cD=>exact hc
theorem RC.less (L:sR ok h h') {c:ao} {v:Value} (hc:RC w G h c v):RC w G h' (c.eP ok) v:=by
 cases c with
 |fn f ed=>
  obtain⟨vs,h1,h2,h3⟩:=hc;refine⟨vs,h1,by simpa using h2,fun j c u hj hu=>?_⟩;rw[zag] at hj;cases hc:ed[j]? with
  |none=>rw[hc] at hj;cases hj
  |some c0=>
   rw[hc] at hj;simp at hj;subst hj;exact⟨(h3 j c0 u hc hu).1,(h3 j c0 u hc hu).2.less L⟩
 |ptr n k sz off=>
  have:=ng.less (w:=w) (G:=G) L (c:=.ptr n k sz off) hc;simp only[ao.eP];rw[Iz]
  ·exact this
  ·simp only[ao.iB];split<;>rfl
 |sl n sz lo len=>
  have:=ng.less (w:=w) (G:=G) L (c:=.sl n sz lo len) hc;simp only[ao.eP];rw[Iz]
  ·exact this
  ·simp only[ao.iB];split<;>rfl
 |cJ n k aY off sz len=>
  have:=ng.less (w:=w) (G:=G) L (c:=.cJ n k aY off sz len) hc;simp only[ao.eP];rw[Iz]
  ·exact this
  ·simp only[ao.iB];split<;>rfl
 |eG n k aY off sz i=>
  have:=ng.less (w:=w) (G:=G) L (c:=.eG n k aY off sz i) hc;simp only[ao.eP];rw[Iz]
  ·exact this
  ·simp only[ao.iB];split<;>rfl
 |c x=>exact hc
 |nil sz=>exact hc
 |dR xs off=>exact hc
 |cD=>exact hc
theorem eO.less (L:sR ok h h') {cs:List ao} {vs:List Value} (hc:eO w G h cs vs):eO w G h' (cs.map (·.eP ok)) vs:=by
 refine⟨by simpa using hc.1,fun j c u hj hu=>?_⟩;rw[zag] at hj;cases gK:cs[j]? with
 |none=>rw[gK] at hj;cases hj
 |some c0=>
  rw[gK] at hj;simp at hj;subst hj;exact⟨(hc.2 j c0 u gK hu).1,(hc.2 j c0 u gK hu).2.less L⟩
theorem RV.less (L:sR ok h h') {ag:Bool} {cs:List ao} {v:Value} (hc:RV w G h ag cs v):RV w G h' ag (cs.map (·.eP ok)) v:=by
 unfold RV at*
 split
 ·rename_i h1;simp only[h1,if_true] at hc;obtain⟨vs,e,hv⟩:=hc;exact⟨vs,e,hv.less L⟩
 ·rename_i h1;simp only[h1] at hc;exact eO.less L hc
theorem RA.less (L:sR ok h h') {x:aA} {v:Value} (hc:RA w G h x v):RA w G h' (x.eP ok) v:=by
 cases x with
 |one c=>
  rcases hc with rfl|hc
  ·exact Or.inl rfl
  ·exact Or.inr (RV.less L hc)
 |agg cs=>exact RV.less L hc
 |cF xs=>
  obtain⟨vs,e,hl,hv⟩:=hc;refine⟨vs,e,by simpa using hl,fun j x u hj hu=>?_⟩;rw[zag] at hj;cases gK:xs[j]? with
  |none=>rw[gK] at hj;cases hj
  |some c0=>
   rw[gK] at hj;simp at hj;subst hj;exact RV.less L (hv j c0 u gK hu)
theorem aA.FJ {x:aA} {m:Nat} (h:(x.eP ok).ref m):ok m=true:=by
 cases x with
 |one c=>exact ao.FJ h
 |agg cs=>
  obtain⟨c,hc,h⟩:=h;obtain⟨c0,gK,rfl⟩:=zaj.1 hc;exact ao.FJ h
 |cF xs=>
  obtain⟨x,hx,c,hc,h⟩:=h;obtain⟨x0,hx0,rfl⟩:=zaj.1 hx;obtain⟨c0,gK,rfl⟩:=zaj.1 hc;exact ao.FJ h
theorem HR.less {used:Nat->Bool} (H:HR B E w G h used []) (L:sR ok h h'):HR B E w G h' ok []:=by
 refine⟨fun n hn=>(L.ne hn).1,fun m cs c n hm hc hr=>?_,fun n cs hn=>?_,fun n gr m sz xs hn=>H.row n gr m sz xs (L.row hn),fun n hn=>H.own n (L.ne hn).2,fun n n' hn cb=>H.inj n n' (L.ne hn).2 (L.ne cb).2,
  H.jM,H.tC,fun n n' gr m sz xs cv m' bu aM hn cb=>H.ja n n' gr m sz xs cv m' bu aM (L.row hn) (L.row cb),fun n gr sz xs hn b hb n' cb=>H.live n gr sz xs (L.row hn) b hb n' (L.ne cb).2,?_,?_,?_⟩
 ·obtain⟨lg,_,rfl⟩:=L.box hm;obtain⟨c0,_,rfl⟩:=zaj.1 hc;exact ao.FJ hr
 ·obtain⟨lg,h0,rfl⟩:=L.box hn;obtain⟨a1,a2,a3⟩:=H.box n lg h0;refine⟨a1,a2,fun j c hj=>?_⟩;rw[zag] at hj;cases gK:lg[j]? with
  |none=>rw[gK] at hj;cases hj
  |some c0=>
   rw[gK] at hj;simp at hj;subst hj;obtain⟨v,b1,b2,b3⟩:=a3 j c0 gK;exact⟨v,b1,b2,b3.less L⟩
 ·intro i pc hi;simp at hi
 ·intro i j pc fh b _ hi;simp at hi
 ·intro i pc n gr m sz xs b hi;simp at hi
theorem HR.aDb {used used':Nat->Bool} (H:HR B E w G h used []) (hu:∀n,used n=true->used' n=true):HR B E w G h used' []:=
 ⟨fun n hn=>hu n (H.lI n hn),fun m cs c n hm hc hr=>hu n (H.j7 m cs c n hm hc hr),H.box,H.row,H.own,H.inj,H.jM,H.tC,H.ja,H.live,H.vo,H.z6,H.vp⟩
theorem X7 {ke kh:List Nat} {n:Nat} (hn:σ.lV ke kh n=true):n∈kh:=by
 simp only[St.lV,zaa] at hn;simpa using hn.1.1
theorem R.kQ (r:R B E w0 N σ a w G) (ke kh:List Nat):R B E w0 N (σ.kQ ke kh) a w G:=by
 have L:sR (σ.lV ke kh) σ.h (σ.kQ ke kh).h:=by
  refine⟨fun n hn=>.inl ?_,fun n hn=>?_⟩
  ·show vc _ _ _ n=_;rw[Rb,if_pos ⟨X7 hn,hn⟩]
  ·show vc _ _ _ n=_;rw[Rb,if_neg (by simp[hn])]
 have hu:∀n,σ.lV ke kh n=true->(σ.kQ ke kh).used n=true:=by
  intro n hk;show(Nat.ble aU n||zN _ _ n)=true;rw[ajG];simp[hk,X7 hk]
 refine⟨r.defers,r.size,fun s=>?_,fun s n hn=>?_,?_,r.fr,fun n p b hp hb=>?_,fun n hn=>?_⟩
 ·show RA w G _ (zM _ _ _ s) _;rw[Yz];split
  ·exact(r.env s).less L
  ·exact Or.inl rfl
 ·have cb:(zM (σ.lV ke kh) σ.env ke s).ref n:=hn;rw[Yz] at cb;split at cb
  ·exact hu n (aA.FJ cb)
  ·exact absurd cb id
 ·exact(r.hr.less L).aDb hu
 ·have h0:(σ.kQ ke kh).h n≠none:=by rw[hb];simp
  obtain⟨hk,_⟩:=L.ne h0;have xy:=fun b0 (h1:σ.h n=some b0)=>r.rB n p b0 hp h1;have bX:vc (σ.lV ke kh) σ.h kh n=some b:=hb;rw[Rb,if_pos ⟨X7 hk,hk⟩] at bX;cases h1:σ.h n with
  |none=>rw[h1] at bX;cases bX
  |some b0=>
   obtain⟨p1,p2,p3,p4,p6,p5⟩:=xy b0 h1;refine⟨p1,p2,p3,p4,p6,fun gr sz xs Jz=>?_⟩;rw[h1,Jz] at bX;cases b0 with
   |box cs=>simp[aK.eP] at bX
   |row cv m' bu aM=>
    simp only[aK.eP,zab,zbc,aK.row.injEq] at bX;obtain⟨_,rfl,_,_⟩:=bX;exact p5 cv bu aM rfl
 ·show(Nat.ble aU n||_)=true;rw[za4 hn];rfl
end
def back (x c n:Nat):Nat:=if n=c then x else n
theorem ach {x c n:Nat} (hn:n≠c):back x c (rE x c n)=n:=by
 unfold back rE;by_cases h:n=x
 ·subst h;simp
 ·simp[h,hn]
theorem aA3 {x c n:Nat} (hx:x≠c) (hn:n≠c):rE x c n≠x:=by
 unfold rE;by_cases h:n=x
 ·simp[h];exact fun e=>hx e.symm
 ·simp[h]
structure rN (x c:Nat) (used:Nat->Bool) (h h':Nat->Option aK):Prop where
 ne:x≠c
 uc:used c=false
 gone:h' x=none
 b:∀n,n≠x->h' n=(h (back x c n)).map (·.ca x c)
section
variable {B:Nat} {E:Ex} {w0 w w':World} {G G':Gh} {N:Nat} {h h':Nat->Option aK} {used:Nat->Bool} {x c:Nat}
variable {P:Program} {T:br} {a:Act} {σ σ':St} {Q:Exit->Act->World->Prop}
def xp (G:Gh) (x c:Nat):Gh:=⟨G.Im,fun n=>G.g (back x c n)⟩
theorem rN.at (L:rN x c used h h') {n:Nat} (hn:used n=true):h' (rE x c n)=(h n).map (·.ca x c):=by
 have hc:n≠c:=fun e=>by subst e;rw[L.uc] at hn;cases hn
 rw[L.b _ (aA3 L.ne hc),ach hc]
theorem rN.Pv (L:rN x c used h h') {n:Nat} (hn:used n=true):(xp G x c).g (rE x c n)=G.g n:=by
 have hc:n≠c:=fun e=>by subst e;rw[L.uc] at hn;cases hn
 show G.g (back x c (rE x c n))=_;rw[ach hc]
theorem XH {o:Option aK} (hn:o.map (·.ca x c)≠none):o≠none:=by
 cases o with
 |none=>exact absurd rfl hn
 |some b=>simp
theorem XI {o:Option aK} {gr:Bool} {m:Mode} {sz:Nat} {xs:List (List C)} (hn:o.map (·.ca x c)=some (.row gr m sz xs)):o=some (.row gr m sz xs):=by
 cases o with
 |none=>cases hn
 |some b=>cases b with
  |box cs=>simp[aK.ca] at hn
  |row gr m sz xs=>exact hn
theorem aha {o:Option aK} {cs:List ao} (hn:o.map (·.ca x c)=some (.box cs)):∃lg,o=some (.box lg)/\cs=lg.map (·.ca x c):=by
 cases o with
 |none=>cases hn
 |some b=>cases b with
  |box lg=>
   simp only[zab,aK.ca] at hn;injection hn with hn;injection hn with hn;exact⟨lg,rfl,hn.symm⟩
  |row gr m sz xs=>simp[aK.ca] at hn
theorem ng.ca (L:rN x c used h h') {y:ao} {v:Value} (hr:∀m,y.lY m->used m=true) (hc:ng w G h y v):ng w (xp G x c) h' (y.sJ x c) v:=by
 cases y with
 |ptr n k sz off=>
  intro hn;rw[L.at (hr n rfl)] at hn;rw[L.Pv (hr n rfl)];exact hc (XH hn)
 |sl n sz lo len=>
  intro hn;rw[L.at (hr n rfl)] at hn;rw[L.Pv (hr n rfl)];exact hc (XH hn)
 |cJ n k aY off sz len=>
  intro gr xs hn;rw[L.at (hr n rfl)] at hn;rw[L.Pv (hr n rfl)];exact hc gr xs (XI hn)
 |eG n k aY off sz i=>
  intro gr xs hn;rw[L.at (hr n rfl)] at hn;rw[L.Pv (hr n rfl)];exact hc gr xs (XI hn)
 |c x=>exact hc
 |nil sz=>exact hc
 |dR xs off=>exact hc
 |fn f ed=>exact hc
 |cD=>exact hc
theorem RC.ca (L:rN x c used h h') {y:ao} {v:Value} (hr:∀m,y.ref m->used m=true) (hc:RC w G h y v):RC w (xp G x c) h' (y.ca x c) v:=by
 cases y with
 |fn f ed=>
  obtain⟨vs,h1,h2,h3⟩:=hc;refine⟨vs,h1,by simpa using h2,fun j y u hj hu=>?_⟩;rw[zag] at hj;cases hc:ed[j]? with
  |none=>rw[hc] at hj;cases hj
  |some c0=>
   rw[hc] at hj;simp at hj;subst hj;exact⟨(h3 j c0 u hc hu).1,(h3 j c0 u hc hu).2.ca L fun m hm=>hr m ⟨c0,zac hc,hm⟩⟩
 |ptr n k sz off=>exact ng.ca (w:=w) (G:=G) L (y:=.ptr n k sz off) hr hc
 |sl n sz lo len=>exact ng.ca (w:=w) (G:=G) L (y:=.sl n sz lo len) hr hc
 |cJ n k aY off sz len=>exact ng.ca (w:=w) (G:=G) L (y:=.cJ n k aY off sz len) hr hc
 |eG n k aY off sz i=>exact ng.ca (w:=w) (G:=G) L (y:=.eG n k aY off sz i) hr hc
 |c x=>exact hc
 |nil sz=>exact hc
 |dR xs off=>exact hc
 |cD=>exact hc
theorem eO.ca (L:rN x c used h h') {cs:List ao} {vs:List Value} (hr:∀y∈cs,∀m,y.ref m->used m=true) (hc:eO w G h cs vs):eO w (xp G x c) h' (cs.map (·.ca x c)) vs:=by
 refine⟨by simpa using hc.1,fun j y u hj hu=>?_⟩;rw[zag] at hj;cases gK:cs[j]? with
 |none=>rw[gK] at hj;cases hj
 |some c0=>
  rw[gK] at hj;simp at hj;subst hj;exact⟨(hc.2 j c0 u gK hu).1,(hc.2 j c0 u gK hu).2.ca L (hr c0 (zac gK))⟩
theorem RV.ca (L:rN x c used h h') {ag:Bool} {cs:List ao} {v:Value} (hr:∀y∈cs,∀m,y.ref m->used m=true) (hc:RV w G h ag cs v):RV w (xp G x c) h' ag (cs.map (·.ca x c)) v:=by
 unfold RV at*
 split
 ·rename_i h1;simp only[h1,if_true] at hc;obtain⟨vs,e,hv⟩:=hc;exact⟨vs,e,hv.ca L hr⟩
 ·rename_i h1;simp only[h1] at hc;exact eO.ca L hr hc
theorem RA.ca (L:rN x c used h h') {y:aA} {v:Value} (hr:∀m,y.ref m->used m=true) (hc:RA w G h y v):RA w (xp G x c) h' (y.ca x c) v:=by
 cases y with
 |one y=>
  rcases hc with rfl|hc
  ·exact Or.inl rfl
  ·exact Or.inr (RV.ca L (fun z hz m hm=>hr m (by simp at hz;subst hz;exact hm)) hc)
 |agg cs=>exact RV.ca L (fun z hz m hm=>hr m ⟨z,hz,hm⟩) hc
 |cF xs=>
  obtain⟨vs,e,hl,hv⟩:=hc;refine⟨vs,e,by simpa using hl,fun j y u hj hu=>?_⟩;rw[zag] at hj;cases gK:xs[j]? with
  |none=>rw[gK] at hj;cases hj
  |some c0=>
   rw[gK] at hj;simp at hj;subst hj;exact RV.ca L (fun z hz m hm=>hr m ⟨c0,zac gK,z,hz,hm⟩) (hv j c0 u gK hu)
def Cd (used:Nat->Bool) (x c:Nat):Nat->Bool:=fun n=>if n=c then used x else if n=x then false else used n
theorem ao.KY (L:rN x c used h h') {y:ao} {m:Nat} (hr:∀m,y.lY m->used m=true) (hm:(y.sJ x c).lY m):Cd used x c m=true:=by
 have cN:∀n,used n=true->m=rE x c n->Cd used x c m=true:=by
  intro n hn e;subst e;have hc:n≠c:=fun e=>by subst e;rw[L.uc] at hn;cases hn
  unfold Cd rE;by_cases h1:n=x
  ·subst h1;simp[hn]
  ·simp[h1,hc,hn]
 cases y<;>first|exact absurd hm id|exact cN _ (hr _ rfl) hm
theorem ao.HC (L:rN x c used h h') {y:ao} {m:Nat} (hr:∀m,y.ref m->used m=true) (hm:(y.ca x c).ref m):Cd used x c m=true:=by
 cases y with
 |fn f ed=>
  obtain⟨z,hz,hm⟩:=hm;obtain⟨z0,zi,rfl⟩:=zaj.1 hz;exact ao.KY L (fun m hm=>hr m ⟨z0,zi,hm⟩) hm
 |ptr n k sz off=>exact ao.KY L (y:=.ptr n k sz off) hr hm
 |sl n sz lo len=>exact ao.KY L (y:=.sl n sz lo len) hr hm
 |cJ n k aY off sz len=>exact ao.KY L (y:=.cJ n k aY off sz len) hr hm
 |eG n k aY off sz i=>exact ao.KY L (y:=.eG n k aY off sz i) hr hm
 |c x=>exact absurd hm id
 |nil sz=>exact absurd hm id
 |dR xs off=>exact absurd hm id
 |cD=>exact absurd hm id
theorem aA.HC (L:rN x c used h h') {y:aA} {m:Nat} (hr:∀m,y.ref m->used m=true) (hm:(y.ca x c).ref m):Cd used x c m=true:=by
 cases y with
 |one y=>exact ao.HC L hr hm
 |agg cs=>
  obtain⟨z,hz,hm⟩:=hm;obtain⟨z0,zi,rfl⟩:=zaj.1 hz;exact ao.HC L (fun m hm=>hr m ⟨z0,zi,hm⟩) hm
 |cF xs=>
  obtain⟨p,hp,z,hz,hm⟩:=hm;obtain⟨p0,JR,rfl⟩:=zaj.1 hp;obtain⟨z0,zi,rfl⟩:=zaj.1 hz;exact ao.HC L (fun m hm=>hr m ⟨p0,JR,z0,zi,hm⟩) hm
theorem HR.ca (H:HR B E w G h used []) (L:rN x c used h h'):HR B E w (xp G x c) h' (Cd used x c) []:=by
 have nx:∀n,h' n≠none->n≠x:=fun n hn e=>by subst e;exact hn L.gone
 have hb:∀n,h' n≠none->h (back x c n)≠none:=fun n hn=>by
  have:=L.b n (nx n hn);rw[this] at hn;exact XH hn
 have f9:∀{n gr m sz xs},h' n=some (.row gr m sz xs)->h (back x c n)=some (.row gr m sz xs):=by
  intro n gr m sz xs hn;have:=L.b n (nx n (by rw[hn];simp));rw[this] at hn;exact XI hn
 have A7:∀n n',n≠x->n'≠x->n≠n'->back x c n≠back x c n':=by
  intro n n' h1 h2 h3;unfold back;by_cases e1:n=c
  ·by_cases e2:n'=c
   ·omega
   ·simp[e1,e2];omega
  ·by_cases e2:n'=c
   ·simp[e1,e2];omega
   ·simp[e1,e2];omega
 have Bk:∀n,n≠x->used (back x c n)=true->Cd used x c n=true:=by
  intro n h1 h2;unfold Cd;unfold back at h2;by_cases e1:n=c
  ·simp[e1] at h2⊢;exact h2
  ·simp[e1] at h2;simp[e1,h1,h2]
 refine⟨fun n hn=>Bk n (nx n hn) (H.lI _ (hb n hn)),fun m cs y n hm hy hr=>?_,fun n cs hn=>?_,fun n gr m sz xs hn=>?_,fun n hn=>H.own _ (hb n hn),
  fun n n' hn cb aR=>H.inj _ _ (hb n hn) (hb n' cb) (A7 n n' (nx n hn) (nx n' cb) aR),H.jM,H.tC,fun n n' gr m sz xs cv m' bu aM hn cb hm cQ aR=>H.ja _ _ gr m sz xs cv m' bu aM (f9 hn) (f9 cb) hm cQ
   (A7 n n' (nx n (by rw[hn];simp)) (nx n' (by rw[cb];simp)) aR),fun n gr sz xs hn b bX n' cb=>H.live _ gr sz xs (f9 hn) b bX _ (hb n' cb),?_,?_,?_⟩
 ·have hmx:=nx m (by rw[hm];simp);rw[L.b m hmx] at hm;obtain⟨lg,h0,rfl⟩:=aha hm;obtain⟨y0,hy0,rfl⟩:=zaj.1 hy;exact ao.HC L (fun q hq=>H.j7 _ lg y0 q h0 hy0 hq) hr
 ·have xw:=nx n (by rw[hn];simp);rw[L.b n xw] at hn;obtain⟨lg,h0,rfl⟩:=aha hn;obtain⟨a1,a2,a3⟩:=H.box _ lg h0;refine⟨a1,a2,fun j y hj=>?_⟩;rw[zag] at hj;cases gK:lg[j]? with
  |none=>rw[gK] at hj;cases hj
  |some y0=>
   rw[gK] at hj;simp at hj;subst hj;obtain⟨v,b1,b2,b3⟩:=a3 j y0 gK;exact⟨v,b1,b2,b3.ca L fun q hq=>H.j7 _ lg y0 q h0 (zac gK) hq⟩
 ·have hr:=H.row _ gr m sz xs (f9 hn);refine⟨hr.pos,hr.er,hr.nl,hr.gd,hr.room,?_⟩;have hm:=hr.mode;cases m<;>exact hm
 ·intro i pc hi;simp at hi
 ·intro i j pc fh b _ hi;simp at hi
 ·intro i pc n gr m sz xs b hi;simp at hi
theorem R.ca (r:R B E w0 N σ a w G) (hx:σ.ca x c=some σ'):∃G',R B E w0 N σ' a w G':=by
 unfold St.ca at hx;split at hx
 ·injection hx with hx;subst hx;exact⟨G,r⟩
 ·rename_i aR;split at hx
  ·injection hx with hx;subst hx;exact⟨G,r⟩
  rename_i hxp;split at hx
  ·cases hx
  ·rename_i hu;injection hx with hx;subst hx;have Gg:¬aU<=c:=fun hc=>by rw[r.Ec c hc] at hu;exact hu rfl
   have afU:¬aU<=x:=fun hc=>hxp (za4 hc);have P2:σ.used c=false:=by simpa using hu
   have L:rN x c σ.used σ.h (fun n=>if n=c then(σ.h x).map (·.ca x c) else if n=x then none else(σ.h n).map (·.ca x c)):=by
    refine⟨aR,P2,by simp[aR],fun n hn=>?_⟩;unfold back;by_cases h1:n=c
    ·simp[h1]
    ·simp[h1,hn]
   exact⟨xp G x c,r.defers,r.size,fun s=>(r.env s).ca L (fun m hm=>r.wS s m hm),fun s n hn=>aA.HC L (fun m hm=>r.wS s m hm) hn,r.hr.ca L,r.fr,fun n p b hp hb=>by
    have hn:=E.lt n p hp;have y6:n≠c:=fun e=>Gg (e▸hn);have xw:n≠x:=fun e=>afU (e▸hn);have bX:(if n=c then(σ.h x).map (·.ca x c) else if n=x then none else(σ.h n).map (·.ca x c))=some b:=hb
    rw[if_neg y6,if_neg xw] at bX;have hg:(xp G x c).g n=G.g n:=by simp[xp,back,y6]
    rw[hg];cases h1:σ.h n with
    |none=>rw[h1] at bX;cases bX
    |some b0=>
     obtain⟨p1,p2,p3,p4,p6,p5⟩:=r.rB n p b0 hp h1;refine⟨p1,p2,p3,p4,p6,fun gr sz xs Jz=>?_⟩;rw[h1,Jz] at bX;cases b0 with
     |box cs=>simp[aK.ca] at bX
     |row cv m' bu aM=>
      simp only[aK.ca,zab,zbc,aK.row.injEq] at bX;obtain⟨_,rfl,_,_⟩:=bX;exact p5 cv bu aM rfl,fun n hn=>by
    have y6:n≠c:=fun e=>Gg (e▸hn);have xw:n≠x:=fun e=>afU (e▸hn);show(if n=c then σ.used x else if n=x then false else σ.used n)=true
    rw[if_neg y6,if_neg xw];exact r.Ec n hn⟩
theorem R.agl (r:R B E w0 N σ a w G) {m:Mode} {sz:Nat} (dd:0<sz) (hx:σ.ins c (.row true m sz [])=some σ'):
  ∃G',R B E w0 N σ' a w G'/\RC w G' σ'.h (.sl c sz 0 0) (.slice none 0 0):=by
 obtain⟨hn,rfl⟩:=qH hx;have KI:∀b,¬bY b ([]:List (List PC)):=by rintro b ⟨k,j,q,⟨e,he,_⟩,_⟩;simp at he
 have oh:kU ([]:List (List PC)):=⟨by rintro k j q ⟨e,he,_⟩;simp at he,by rintro k j q k' j' q' b ⟨e,he,_⟩;simp at he⟩;have H:=r.hr.insert (w':=w) (n:=c) (blk:=.row true m sz []) (p:=⟨true,0,0,0,[],none⟩) hn (fun _ _=>rfl) (zau _) (fun hf=>by cases hf) (fun cs y q hb=>by cases hb)
  (by
   refine⟨dd,rfl,fun _=>⟨rfl,fun _=>rfl⟩,(fun hf=>by cases hf),(fun hf=>by cases hf),?_⟩;cases m with
   |aV=>exact fun b hb=>absurd hb (KI b)
   |aZ=>exact⟨fun b hb=>absurd hb (KI b),oh⟩
   |live=>exact⟨fun b hb=>absurd hb (KI b),oh⟩)
  (fun gr m' bu aM hb hm n' cv qK pi mb h0 nv b eI=>absurd eI (KI b)) (fun gr bu aM hb b eI=>absurd eI (KI b)) (fun gr m' bu aM hb hm i pc b hi=>by simp at hi)
 refine⟨_,r.step rfl (fun q hq=>wQ _ _ hq) (cr.insert r.hr hn (fun _ _=>rfl)) H r.fr,fun _=>?_⟩;simp only[cT];exact Or.inl ⟨rfl,rfl,rfl,rfl⟩
end
theorem ao.ay2 {c:ao} {m:Nat}:m∈c.wE↔c.lY m:=by
 cases c<;>simp[ao.wE,ao.lY]
theorem ao.KH {c:ao} {m:Nat}:m∈c.nm↔c.ref m:=by
 cases c with
 |fn f ed=>simp[ao.nm,ao.ref,zaq,ao.ay2]
 |_=>simp[ao.nm,ao.wE,ao.ref,ao.lY]
theorem aA.D8 {v:aA} {m:Nat}:m∈v.jN↔v.ref m:=by
 cases v with
 |one c=>exact ao.KH
 |agg cs=>simp[aA.jN,aA.ref,zaq,ao.KH]
 |cF xs=>simp only[aA.jN,aA.ref,zaq,ao.KH]
theorem tH {op:bm} {ev:MO->aA} {n:Nat}:n∈op.lU ev↔∃a∈op.args,(ev a).ref n:=by
 simp[bm.lU,zaq,aA.D8]
theorem QS {op:bm} {ev:MO->aA} {h:Nat->Option aK} {n:Nat} (hn:n∈op.lU ev):n∈op.qc ev h:=by
 unfold bm.qc;cases op.Kj with
 |true=>exact zae.2 (.inl hn)
 |false=>exact hn
theorem amS {op:bm} {ev:MO->aA} {h:Nat->Option aK} {ws:List Nat} (hw:op.nV ev h=some ws) {n:Nat} (hn:n∈ws):n∈op.lU ev:=by
 cases op<;>simp only[bm.nV] at hw<;>first|(cases hw;cases hn)|(cases hw;done)|skip
 case store sz x v=>
  split at hw
  ·rename_i q _ _ _ hx;have hq:q∈(bm.store sz x v).lU ev:=tH.2 ⟨x,by simp[bm.args],by rw[hx];exact rfl⟩;split at hw
   ·injection hw with hw;subst hw;simp at hn;subst hn;exact hq
   ·injection hw with hw;subst hw;rcases zaB.1 hn with rfl|hn
    ·exact hq
    ·exact tH.2 ⟨v,by simp[bm.args],aA.D8.1 hn⟩
   ·cases hw
  ·rename_i q _ _ _ _ _ hx;have hq:q∈(bm.store sz x v).lU ev:=tH.2 ⟨x,by simp[bm.args],by rw[hx];exact rfl⟩;injection hw with hw;subst hw;simp at hn;subst hn;exact hq
  ·cases hw
 case copy sz x y=>
  split at hw
  ·rename_i q _ _ _ hx;injection hw with hw;subst hw;simp at hn;subst hn;exact tH.2 ⟨x,by simp[bm.args],by rw[hx];exact rfl⟩
  ·cases hw
 case nY z x=>
  split at hw
  ·rename_i q _ _ _ hx;injection hw with hw;subst hw;simp at hn;subst hn;exact tH.2 ⟨x,by simp[bm.args],by rw[hx];exact rfl⟩
  ·cases hw
 case gy sz ps=>
  injection hw with hw;subst hw;obtain⟨a,ha,hn⟩:=zaq.1 hn;exact tH.2 ⟨a,ha,aA.D8.1 hn⟩
 case mn f xs=>
  injection hw with hw;subst hw;obtain⟨a,ha,hn⟩:=zaq.1 hn;exact tH.2 ⟨a,ha,aA.D8.1 hn⟩
 case append fl sz by_ x y=>
  injection hw with hw;subst hw;rcases zae.1 hn with hn|hn
  ·exact tH.2 ⟨x,by simp[bm.args],aA.D8.1 hn⟩
  ·exact tH.2 ⟨y,by simp[bm.args],aA.D8.1 hn⟩
def St.fe (σ:St):List (Nat×Option aK)->St
 |[]=>σ
 |(n,b)::l=>St.fe {σ with h:=aX σ.h n b} l
def fy (h:Nat->Option aK):List (Nat×Option aK)->(Nat->Option aK)
 |[]=>h
 |(n,b)::l=>fy (aX h n b) l
theorem pq:∀(l:List (Nat×Option aK)) (σ:St),σ.fe l={σ with h:=fy σ.h l}
 |[],σ=>rfl
 |(n,b)::l,σ=>by simp only[St.fe,fy];rw[pq l]
theorem rJ:∀{l:List (Nat×Option aK)} {h:Nat->Option aK} {n:Nat},(∀p∈l,p.1≠n)->fy h l n=h n
 |[],h,n,_=>rfl
 |(m,b)::l,h,n,hn=>by
  simp only[fy];rw[rJ fun p hp=>hn p (zar _ hp)];exact dN _ _ _ _ (fun e=>hn (m,b) (by simp) e.symm)
theorem aC8 (h:Nat->Option aK) (l l':List (Nat×Option aK)):fy h (l++l')=fy (fy h l) l':=by
 induction l generalizing h with
 |nil=>rfl
 |cons x l ih=>obtain⟨n,b⟩:=x;exact ih _
theorem Ig (σ:St) (l l':List (Nat×Option aK)):σ.fe (l++l')=(σ.fe l).fe l':=by
 simp only[pq,aC8]
theorem LO:∀{l:List (Nat×Option aK)} {h h':Nat->Option aK} {n:Nat},(∃p∈l,p.1=n)->fy h l n=fy h' l n
 |[],h,h',n,hn=>by obtain⟨p,hp,_⟩:=hn;cases hp
 |(m,b)::l,h,h',n,hn=>by
  simp only[fy];by_cases hl:∃p∈l,p.1=n
  ·exact LO hl
  ·have dE:∀p∈l,p.1≠n:=fun p hp e=>hl ⟨p,hp,e⟩;rw[rJ dE,rJ dE];obtain⟨p,hp,e⟩:=hn;rcases zaB.1 hp with rfl|hp
   ·simp only at e;subst e;rw[cT,cT]
   ·exact absurd e (dE p hp)
theorem amF {u v:List (Nat×Option aK)} (hd:∀p∈u,∀q∈v,p.1≠q.1) (h:Nat->Option aK):fy (fy h u) v=fy (fy h v) u:=by
 funext n;by_cases hu:∃p∈u,p.1=n
 ·obtain⟨p,hp,rfl⟩:=hu;rw[rJ (l:=v) fun q hq e=>hd p hp q hq e.symm];exact LO ⟨p,hp,rfl⟩
 ·rw[rJ (l:=u) (h:=fy h v) fun p hp e=>hu ⟨p,hp,e⟩];by_cases hv:∃q∈v,q.1=n
  ·exact LO hv
  ·rw[rJ fun q hq e=>hv ⟨q,hq,e⟩,rJ fun p hp e=>hu ⟨p,hp,e⟩,rJ fun q hq e=>hv ⟨q,hq,e⟩]
theorem aDa {u v:List (Nat×Option aK)} (hd:∀p∈u,∀q∈v,p.1≠q.1) (σ:St):(σ.fe u).fe v=(σ.fe v).fe u:=by
 simp only[pq,amF hd]
theorem amG (σ:St) (e:Nat->aA) (l:List (Nat×Option aK)):(σ.we e).fe l=(σ.fe l).we e:=by
 simp only[pq];rfl
theorem aC9 {l:List (Nat×Option aK)} {h:Nat->Option aK} {n:Nat} {b:Option aK} (hn:∀p∈l,p.1≠n):fy (aX h n b) l=aX (fy h l) n b:=by
 have:=amF (u:=l) (v:=[(n,b)]) (fun p hp q hq=>by simp at hq;subst hq;exact hn p hp) h;exact this.symm
theorem atJ {σ σ1:St} {l:List (Nat×Option aK)} {n:Nat} {b:aK} (hl:∀p∈l,σ.used p.1=true) (h:σ.ins n b=some σ1):(σ.fe l).ins n b=some (σ1.fe l):=by
 obtain⟨u1,rfl⟩:=qH h;unfold St.ins;rw[pq,pq];rw[if_neg (show¬σ.used n=true by rw[u1];simp)];simp only
 rw[aC9 fun p hp e=>by rw[<-e,hl p hp] at u1;cases u1]
theorem Kh:∀{A:List (Nat×aK)} {σ σ1:St} {l:List (Nat×Option aK)},(∀p∈l,σ.used p.1=true)->σ.dX A=some σ1->(σ.fe l).dX A=some (σ1.fe l)
 |[],σ,σ1,l,hl,h=>by
  simp only[St.dX] at h⊢;injection h with h;rw[h]
 |(n,b)::A,σ,σ1,l,hl,h=>by
  simp only[St.dX] at h⊢;split at h
  ·rename_i nf e;rw[atJ hl e];obtain⟨u1,rfl⟩:=qH e;exact Kh (fun p hp=>wQ _ _ (hl p hp)) h
  ·cases h
theorem agj:∀{A:List (Nat×aK)} {σ σ':St},σ.used=σ'.used->(σ.dX A).isSome=true->(σ'.dX A).isSome=true
 |[],σ,σ',hu,h=>rfl
 |(n,b)::A,σ,σ',hu,h=>by
  simp only[St.dX,St.ins] at h⊢;rw[<-hu];split at h
  ·rename_i nf e;split at e
   ·cases e
   ·rename_i hn;injection e with e;subst e;rw[if_neg hn];simp only
    exact agj (by rfl) h
  ·cases h
theorem WK {A:List (Nat×aK)} {σ B:St} {l:List (Nat×Option aK)} (hl:∀p∈l,σ.used p.1=true) (h:(σ.fe l).dX A=some B):∃B',σ.dX A=some B'/\B=B'.fe l:=by
 have hs:(σ.dX A).isSome=true:=agj (A:=A) (σ:=σ.fe l) (σ':=σ) (by rw[pq]) (by rw[h];rfl);cases e:σ.dX A with
 |none=>rw[e] at hs;cases hs
 |some B'=>
  refine⟨B',rfl,?_⟩;have:=Kh hl e;rw[h] at this;injection this
abbrev Us:=List (Nat×Option aK)
def wO (h:Nat->Option aK):ao->Option (C×Bool×Us)
 |.c x=>some (x,x.gV,[])
 |.nil sz=>if 0<sz then some (.list sz [],true,[]) else none
 |.sl n sz lo len=>
  match h n with
  |some (.row _ m rs xs)=>if rs=sz/\lo=0/\len<=xs.length then some (.list sz (xs.take len),decide (m≠ .aV),[(n,none)]) else none
  |_=>none
 |_=>none
def m6 (h:Nat->Option aK):List ao->Option (List C×Bool×Us)
 |[]=>some ([],true,[])
 |c::cs=>match wO h c with
  |some (x,o,u)=>match m6 (fy h u) cs with
   |some (xs,o',u')=>some (x::xs,o&&o',u++u')
   |none=>none
  |none=>none
def sM (sz:Nat) (h:Nat->Option aK):List aA->Option (List (List C)×Bool×Us)
 |[]=>some ([],true,[])
 |v::vs=>match v.cells? with
  |some (_,cs)=>if cs.length=sz then
   match m6 h cs with
   |some (e,o,u)=>match sM sz (fy h u) vs with
    |some (es,o',u')=>some (e::es,o&&o',u++u')
    |none=>none
   |none=>none
   else none
  |none=>none
theorem LP (σ:St) (l:Us):(σ.fe l).h=fy σ.h l:=by rw[pq]
theorem aCU (σ:St) (c:ao):σ.iY c=(wO σ.h c).map fun x=>(x.1,x.2.1,σ.fe x.2.2):=by
 cases c with
 |sl n sz lo len=>
  simp only[St.iY,wO];cases σ.h n with
  |none=>rfl
  |some b=>cases b with
   |box cs=>rfl
   |row gr m rs xs=>simp only;split<;>rfl
 |nil sz=>simp only[St.iY,wO];split<;>rfl
 |_=>rfl
theorem R0:∀(cs:List ao) (σ:St),σ.iz cs=(m6 σ.h cs).map fun x=>(x.1,x.2.1,σ.fe x.2.2)
 |[],σ=>rfl
 |c::cs,σ=>by
  simp only[St.iz,m6,aCU];cases wO σ.h c with
  |none=>rfl
  |some x=>
   obtain⟨x,o,u⟩:=x;simp only[zab,R0 cs,LP];cases m6 (fy σ.h u) cs with
   |none=>rfl
   |some y=>obtain⟨xs,o',u'⟩:=y;simp only[zab,Ig]
theorem amu (sz:Nat):∀(vs:List aA) (σ:St),σ.pj sz vs=(sM sz σ.h vs).map fun x=>(x.1,x.2.1,σ.fe x.2.2)
 |[],σ=>rfl
 |v::vs,σ=>by
  simp only[St.pj,sM];cases v.cells? with
  |none=>rfl
  |some x=>
   obtain⟨b,cs⟩:=x;simp only
   split
   ·rw[R0];cases m6 σ.h cs with
    |none=>rfl
    |some y=>
     obtain⟨e,o,u⟩:=y;simp only[zab,amu sz vs,LP];cases sM sz (fy σ.h u) vs with
     |none=>rfl
     |some y=>obtain⟨es,o',u'⟩:=y;simp only[zab,Ig]
   ·rfl
theorem aCS {h:Nat->Option aK} {c:ao} {x:C} {o:Bool} {u:Us} (e:wO h c=some (x,o,u)):∀q∈u,q.1∈c.nm:=by
 unfold wO at e;split at e
 ·injection e with e;injection e with _ e;injection e with _ e;subst e;intro q hq;cases hq
 ·split at e
  ·injection e with e;injection e with _ e;injection e with _ e;subst e;intro q hq;cases hq
  ·cases e
 ·split at e
  ·split at e
   ·injection e with e;injection e with _ e;injection e with _ e;subst e;intro q hq;simp at hq;subst hq;simp[ao.nm,ao.wE]
   ·cases e
  ·cases e
 ·cases e
theorem RZ:∀{cs:List ao} {h:Nat->Option aK} {xs:List C} {o:Bool} {u:Us},m6 h cs=some (xs,o,u)->∀q∈u,q.1∈cs.flatMap ao.nm
 |[],h,xs,o,u,e=>by
  simp only[m6] at e;injection e with e;injection e with _ e;injection e with _ e;subst e;intro q hq;cases hq
 |c::cs,h,xs,o,u,e=>by
  simp only[m6] at e;split at e
  ·rename_i x o1 u1 e1;split at e
   ·rename_i mb o2 u2 e2;injection e with e;injection e with _ e;injection e with _ e;subst e;intro q hq;rw[zak];rcases zae.1 hq with hq|hq
    ·exact zae.2 (.inl (aCS e1 q hq))
    ·exact zae.2 (.inr (RZ e2 q hq))
   ·cases e
  ·cases e
theorem FD {v:aA} {b:Bool} {cs:List ao} (h:v.cells?=some (b,cs)):cs.flatMap ao.nm=v.jN:=by
 cases v with
 |one c=>cases c<;>simp[aA.cells?] at h<;>(obtain⟨_,rfl⟩:=h;simp[aA.jN])
 |agg cs'=>simp[aA.cells?] at h;obtain⟨_,rfl⟩:=h;rfl
 |cF xs=>simp[aA.cells?] at h
theorem amt {sz:Nat}:∀{vs:List aA} {h:Nat->Option aK} {xs:List (List C)} {o:Bool} {u:Us},sM sz h vs=some (xs,o,u)->∀q∈u,q.1∈vs.flatMap aA.jN
 |[],h,xs,o,u,e=>by
  simp only[sM] at e;injection e with e;injection e with _ e;injection e with _ e;subst e;intro q hq;cases hq
 |v::vs,h,xs,o,u,e=>by
  simp only[sM] at e;split at e
  ·rename_i b cs hv;split at e
   ·split at e
    ·rename_i x o1 u1 e1;split at e
     ·rename_i mb o2 u2 e2;injection e with e;injection e with _ e;injection e with _ e;subst e;intro q hq;rw[zak];rcases zae.1 hq with hq|hq
      ·exact zae.2 (.inl (FD hv▸RZ e1 q hq))
      ·exact zae.2 (.inr (amt e2 q hq))
     ·cases e
    ·cases e
   ·cases e
  ·cases e
theorem LN {h h':Nat->Option aK} {n:Nat} (hh:h' n=h n) (u:Us):fy h' u n=fy h u n:=by
 by_cases hu:∃p∈u,p.1=n
 ·exact LO hu
 ·rw[rJ fun p hp e=>hu ⟨p,hp,e⟩,rJ fun p hp e=>hu ⟨p,hp,e⟩,hh]
theorem aCR {h h':Nat->Option aK} {c:ao} (hh:∀n∈c.nm,h' n=h n):wO h' c=wO h c:=by
 cases c with
 |sl n sz lo len=>simp only[wO];rw[hh n (by simp[ao.nm,ao.wE])]
 |_=>rfl
theorem RY:∀{cs:List ao} {h h':Nat->Option aK},(∀n∈cs.flatMap ao.nm,h' n=h n)->m6 h' cs=m6 h cs
 |[],h,h',_=>rfl
 |c::cs,h,h',hh=>by
  simp only[m6];rw[aCR fun n hn=>hh n (by rw[zak];exact zae.2 (.inl hn))];cases wO h c with
  |none=>rfl
  |some x=>
   obtain⟨x,o,u⟩:=x;simp only
   rw[RY (cs:=cs) (h:=fy h u) (h':=fy h' u) fun n hn=>LN (hh n (by rw[zak];exact zae.2 (.inr hn))) u]
theorem ams {sz:Nat}:∀{vs:List aA} {h h':Nat->Option aK},(∀n∈vs.flatMap aA.jN,h' n=h n)->sM sz h' vs=sM sz h vs
 |[],h,h',_=>rfl
 |v::vs,h,h',hh=>by
  simp only[sM];cases hv:v.cells? with
  |none=>rfl
  |some x=>
   obtain⟨b,cs⟩:=x;simp only
   rw[RY (cs:=cs) fun n hn=>hh n (by rw[zak];exact zae.2 (.inl (FD hv▸hn)))];cases m6 h cs with
   |none=>rfl
   |some y=>
    obtain⟨e,o,u⟩:=y;simp only
    rw[ams (vs:=vs) (h:=fy h u) (h':=fy h' u) fun n hn=>LN (hh n (by rw[zak];exact zae.2 (.inr hn))) u]
def B9 (h:Nat->Option aK) (n:Nat) (gr:Bool) (m:Mode) (rs:Nat) (xs:List (List C)) (k off:Nat) (e:List C) (vs:List ao):Option Us:=
 match sub e off vs.length with
 |none=>none
 |some iv=>match m6 h vs with
  |none=>none
  |some (cs,o,u)=>
   if m=.live then
    if iG cs=true/\iG iv=true/\(fy h u n).isSome=true then some (u++[(n,some (.row gr m rs (xs.set k (dM e off cs))))]) else none
   else if(fy h u n).isSome=true then some (u++[(n,some (.row gr (if o=true then m else .aV) rs (xs.set k (dM e off cs))))])
   else none
theorem aCx (σ:St) (n:Nat) (gr:Bool) (m:Mode) (rs:Nat) (xs:List (List C)) (k off:Nat) (e:List C) (vs:List ao):
  qM σ n gr m rs xs k off e vs=(B9 σ.h n gr m rs xs k off e vs).map fun u=>σ.fe u:=by
 unfold qM B9;cases sub e off vs.length with
 |none=>rfl
 |some iv=>
  simp only[R0];cases m6 σ.h vs with
  |none=>rfl
  |some x=>
   obtain⟨cs,o,u⟩:=x;simp only[zab,LP]
   repeat' split
   all_goals first|rfl|(simp only[zab,Ig];rfl)
def Ax (h:Nat->Option aK) (sz:Nat):aA->Option (List (List C)×Mode×List (Nat×Option aK))
 |.one (.nil _)=>some ([],.aZ,[])
 |.one (.sl a s 0 len)=>match h a with
  |some (.row true m rs xs)=>if rs=sz/\s=sz/\len=xs.length then some (xs,m,[(a,none)]) else none
  |_=>none
 |_=>none
def yB (fl:Bool) (h:Nat->Option aK) (sz:Nat) (m:Mode):aA->Option (List (List C)×Mode×List (Nat×Option aK))
  |.one (.nil _)=>some ([],m,[])
  |.one (.c (.list s ys))=>if s=sz then(if(fl&&jQ ys)=true then some (ys,m,[]) else if m=.live then none else some (ys,.aV,[])) else none
  |.one (.sl b s lo len)=>match h b with
   |some (.row _ m' rs ys)=>if rs=sz/\s=sz/\lo+len<=ys.length then
       (if(fl&&jQ ((ys.drop lo).take len))=true then some ((ys.drop lo).take len,m,[])
        else if lo=0/\len=ys.length then(if m=m' then some (ys,m,[(b,none)]) else if m=.live\/m'=.live then none else some (ys,.aV,[(b,none)])) else none)
    else none
   |_=>none
  |_=>none
theorem ant (σ:St) (sz:Nat) (v:aA):ub σ sz v=(Ax σ.h sz v).map fun x=>(x.1,x.2.1,σ.fe x.2.2):=by
 cases v with
 |one v=>cases v with
  |sl a s lo len=>cases lo with
   |zero=>
    simp only[ub,Ax];cases σ.h a with
    |none=>rfl
    |some b=>cases b with
     |box cs=>rfl
     |row gr m rs xs=>cases gr with
      |true=>simp only;split<;>rfl
      |false=>rfl
   |succ lo=>rfl
  |_=>rfl
 |_=>rfl
theorem anv (fl:Bool) (σ:St) (sz:Nat) (m:Mode) (v:aA):pB fl σ sz m v=(yB fl σ.h sz m v).map fun x=>(x.1,x.2.1,σ.fe x.2.2):=by
 cases v with
 |one v=>cases v with
  |sl b s lo len=>
   simp only[pB,yB];cases σ.h b with
   |none=>rfl
   |some b=>cases b with
    |box cs=>rfl
    |row gr m rs xs=>
     simp only
     repeat' split
     all_goals rfl
  |c x=>cases x with
   |list s ys=>
    simp only[pB,yB]
    repeat' split
    all_goals rfl
   |_=>rfl
  |_=>rfl
 |_=>rfl
def pD (h:Nat->Option aK):List aA->Option (List Dv×List Nat×Us)
 |[]=>some ([],[],[])
 |v::vs=>match pE h v with
  |some (n,xs)=>match pD h vs with
   |some (ds,ns,u)=>some ((.ptr,xs)::ds,n::ns,u)
   |none=>none
  |none=>match v.cells? with
   |some (ag,cs)=>match m6 h cs with
    |some (xs,_,u)=>match pD (fy h u) vs with
     |some (ds,ns,u')=>some ((if ag=true then .agg else .one,xs)::ds,ns,u++u')
     |none=>none
    |none=>none
   |none=>none
theorem TA:∀(vs:List aA) (σ:St),σ.kf vs=(pD σ.h vs).map fun x=>(x.1,x.2.1,σ.fe x.2.2)
 |[],σ=>rfl
 |v::vs,σ=>by
  simp only[St.kf,pD];cases pE σ.h v with
  |some x=>
   obtain⟨n,xs⟩:=x;simp only[TA vs σ];cases pD σ.h vs<;>rfl
  |none=>
   simp only
   cases v.cells? with
   |none=>rfl
   |some x=>
    obtain⟨ag,cs⟩:=x;simp only
    rw[R0];cases m6 σ.h cs with
    |none=>rfl
    |some y=>
     obtain⟨e,o,u⟩:=y;simp only[zab,TA vs,LP];cases pD (fy σ.h u) vs with
     |none=>rfl
     |some y=>obtain⟨ds,ns,u'⟩:=y;simp only[zab,Ig]
theorem anO {h:Nat->Option aK} {v:aA} {n:Nat} {xs:List C} (e:pE h v=some (n,xs)):n∈v.jN:=by
 obtain⟨sz,cs,rfl,_⟩:=TC e;simp[aA.jN,ao.nm,ao.wE]
theorem Ox:∀{vs:List aA} {h:Nat->Option aK} {ds:List Dv} {ns:List Nat} {u:Us},pD h vs=some (ds,ns,u)->(∀q∈u,q.1∈vs.flatMap aA.jN)/\∀n∈ns,n∈vs.flatMap aA.jN
 |[],h,ds,ns,u,e=>by
  simp only[pD] at e;injection e with e;injection e with _ e;injection e with e1 e;subst e e1;exact⟨fun q hq=>(by cases hq),fun q hq=>(by cases hq)⟩
 |v::vs,h,ds,ns,u,e=>by
  simp only[pD] at e;split at e
  ·rename_i n xs hp;split at e
   ·rename_i yK nO u' e2;injection e with e;injection e with _ e;injection e with e1 e;subst e e1;obtain⟨i1,i2⟩:=Ox e2;rw[zak];refine⟨fun q hq=>zae.2 (.inr (i1 q hq)),fun m hm=>?_⟩;rcases zaB.1 hm with rfl|hm
    ·exact zae.2 (.inl (anO hp))
    ·exact zae.2 (.inr (i2 m hm))
   ·cases e
  ·split at e
   ·rename_i b cs hv;split at e
    ·rename_i x o1 u1 e1;split at e
     ·rename_i ds2 ns2 u2 e2;injection e with e;injection e with _ e;injection e with e3 e;subst e e3;obtain⟨i1,i2⟩:=Ox e2;rw[zak];refine⟨fun q hq=>?_,fun m hm=>zae.2 (.inr (i2 m hm))⟩;rcases zae.1 hq with hq|hq
      ·exact zae.2 (.inl (FD hv▸RZ e1 q hq))
      ·exact zae.2 (.inr (i1 q hq))
     ·cases e
    ·cases e
   ·cases e
theorem anN {h h':Nat->Option aK} {v:aA} (hh:∀n∈v.jN,h' n=h n):pE h' v=pE h v:=by
 cases v with
 |one c=>cases c with
  |ptr n k sz off=>simp only[pE];rw[hh n (by simp[aA.jN,ao.nm,ao.wE])]
  |_=>rfl
 |_=>rfl
theorem Tx:∀{vs:List aA} {h h':Nat->Option aK},(∀n∈vs.flatMap aA.jN,h' n=h n)->pD h' vs=pD h vs
 |[],h,h',_=>rfl
 |v::vs,h,h',hh=>by
  have h1:∀n∈v.jN,h' n=h n:=fun n hn=>hh n (by rw[zak];exact zae.2 (.inl hn));have h2:∀n∈vs.flatMap aA.jN,h' n=h n:=fun n hn=>hh n (by rw[zak];exact zae.2 (.inr hn));simp only[pD];rw[anN h1];cases pE h v with
  |some x=>
   obtain⟨n,xs⟩:=x;simp only
   rw[Tx h2]
  |none=>
   simp only
   cases hv:v.cells? with
   |none=>rfl
   |some x=>
    obtain⟨b,cs⟩:=x;simp only
    rw[RY (cs:=cs) fun n hn=>h1 n (FD hv▸hn)];cases m6 h cs with
    |none=>rfl
    |some y=>
     obtain⟨e,o,u⟩:=y;simp only
     rw[Tx (vs:=vs) (h:=fy h u) (h':=fy h' u) fun n hn=>LN (h2 n hn) u]
def zK (h:Nat->Option aK):List Nat->List C->Option Us
 |[],[]=>some []
 |[n],out=>match h n with
  |some (.box cs)=>if cs.length=out.length then some [(n,some (.box (out.map .c)))] else none
  |_=>none
 |_,_=>none
theorem aAC (σ:St) (ns:List Nat) (out:List C):σ.u6 ns out=(zK σ.h ns out).map σ.fe:=by
 match ns,out with
 |[],[]=>rfl
 |[],_::_=>rfl
 |[n],out=>
  simp only[St.u6,zK];cases σ.h n with
  |none=>rfl
  |some b=>
   cases b with
   |box cs=>simp only;split<;>rfl
   |row gr m rs xs=>rfl
 |_::_::_,out=>rfl
theorem aAB {h:Nat->Option aK} {ns:List Nat} {out:List C} {u:Us} (e:zK h ns out=some u):∀q∈u,q.1∈ns:=by
 unfold zK at e;split at e
 ·injection e with e;subst e;intro q hq;cases hq
 ·split at e
  ·split at e
   ·injection e with e;subst e;intro q hq;simp at hq;subst hq;simp
   ·cases e
  ·cases e
 ·cases e
theorem aAA {h h':Nat->Option aK} {ns:List Nat} {out:List C} (hh:∀n∈ns,h' n=h n):zK h' ns out=zK h ns out:=by
 match ns,out with
 |[],[]=>rfl
 |[],_::_=>rfl
 |[n],out=>simp only[zK];rw[hh n (by simp)]
 |_::_::_,out=>rfl
def Fu (d:Option Nat):List Dv->Option (aA×List (Nat×aK))
 |[(.ptr,cs)]=>match d with
  |some q=>some (.one (.ptr q 0 0 0),[(q,.box (cs.map .c))])
  |none=>none
 |rs=>match mq rs with
  |some ls=>some (qe ls,[])
  |none=>none
theorem anP (σ:St) (d:Option Nat) (rs:List Dv):ue σ d rs=(Fu d rs).bind fun x=>(σ.dX x.2).map (·.put d x.1):=by
 unfold ue;split
 ·cases d with
  |none=>rfl
  |some q=>
   simp only[Fu,zai,St.dX];cases σ.ins q _<;>rfl
 ·rename_i aR;have e:Fu d rs=match mq rs with
    |some ls=>some (qe ls,[])
    |none=>none:=by
   unfold Fu;split
   ·exact absurd rfl (aR _)
   ·rfl
  rw[e];cases mq rs with
  |none=>rfl
  |some ls=>rfl
abbrev Ti:=aA×List (Nat×Option aK)×List (Nat×aK)
def jl (T:br) (d:Option Nat) (op:bm) (ev:MO->aA) (h:Nat->Option aK):Option Ti:=
 match op with
 |.store sz x v=>match ev x,(ev v).cells? with
  |.one (.ptr n k aY off),some (_,vs)=>if vs.length=sz then
   match h n with
   |some (.box cs)=>if k=0/\off+sz<=cs.length then some (.one .cD,[(n,some (.box (dM cs off vs)))],[]) else none
   |some (.row gr m rs xs)=>if aY=rs then
    match xs[k]? with
    |some e=>match B9 h n gr m rs xs k off e vs with
     |some u=>some (.one .cD,u,[])
     |none=>none
    |none=>none
    else none
   |none=>none
   else none
  |.one (.eG n k aY off s i),some (_,vs)=>if vs.length=sz then
   match h n with
   |some (.row gr .live rs xs)=>if aY=rs then
    match zQ xs k off s i vs with
    |some aM=>some (.one .cD,[(n,some (.row gr .live rs aM))],[])
    |none=>none
    else none
   |_=>none
   else none
  |_,_=>none
 |.gy sz ps=>match d,sM sz h (ps.map ev) with
  |some n,some (es,o,u)=>some (.one (.sl n sz 0 es.length),u,[(n,.row true (if o=true then .aZ else .aV) sz es)])
  |_,_=>none
 |.append fl sz by_ x y=>match d with
  |none=>none
  |some n=>match Ax h sz (ev x) with
   |none=>none
   |some (xs,m,u1)=>match yB fl (fy h u1) sz m (ev y) with
    |none=>none
    |some (ys,m2,u2)=>if(xs.length+ys.length)*by_<=fo then some (.one (.sl n sz 0 (xs.length+ys.length)),u1++u2,[(n,.row true m2 sz (xs++ys))]) else none
 |.mn f xs=>match pD h (xs.map ev),br.n7 T.vs f with
  |some (ds,ns,u),some M=>match M ds with
   |some (rs,out)=>match zK (fy h u) ns out,Fu d rs with
    |some u',some (v,is)=>some (v,u++u',is)
    |_,_=>none
   |none=>none
  |_,_=>none
 |.copy sz x y=>match ev x,ev y with
  |.one (.sl n s lo len),.one c=>match h n,dH h c with
   |some (.row gr m rs xs),some (.list s' ys)=>if sz=1/\s=1/\rs=1/\s'=1/\m≠ .aV/\jQ xs=true/\jQ ys=true/\lo+len<=xs.length then
    some (.one (.c (.int .i64 (Nat.min ys.length len:Nat))),[(n,some (.row gr m 1 (dM xs lo (ys.take len))))],[]) else none
   |_,_=>none
  |_,_=>none
 |.nY z x=>match ev x with
  |.one (.sl n s lo len)=>match h n with
   |some (.row gr m rs xs)=>if s=1/\rs=1/\z.gV=true/\m≠ .aV/\jQ xs=true/\lo+len<=xs.length then
    some (.cF [],[(n,some (.row gr m 1 (dM xs lo (List.replicate len [z]))))],[]) else none
   |_=>none
  |_=>none
 |op=>(rd T d op ev h).map fun x=>(x.1,[],x.2)
def AM (d:Option Nat) (σ:St) (p:Ti):Option St:=((σ.fe p.2.1).dX p.2.2).map (·.put d p.1)
theorem Pj {T:br} {d:Option Nat} {op:bm} {σ:St} {ws:List Nat} (hw:op.nV σ.ev σ.h=some ws) (hd:∀sz x v,op=.store sz x v->d=none):
  exec T d op σ=(jl T d op σ.ev σ.h).bind (AM d σ):=by
 by_cases hc:op.fG<=1
 ·rw[tf T d op σ hc];have:jl T d op σ.ev σ.h=(rd T d op σ.ev σ.h).map fun x=>(x.1,[],x.2):=by
   cases op<;>first|rfl|(simp[bm.fG] at hc)
  rw[this];cases rd T d op σ.ev σ.h with
  |none=>rfl
  |some x=>rfl
 ·cases op<;>simp[bm.fG] at hc<;>simp only[bm.nV] at hw
  case g7=>cases hw
  case pG=>cases hw
  case copy sz x y=>
   simp only[exec,jl];cases σ.ev x with
   |one p=>cases p with
    |sl n s lo len=>
     cases σ.ev y with
     |one c=>
      simp only
      cases σ.h n with
      |none=>rfl
      |some b=>cases b with
       |box cs=>rfl
       |row gr m rs xs=>
        cases dH σ.h c with
        |none=>rfl
        |some q=>cases q with
         |list s' ys=>
          simp only
          split<;>rfl
         |_=>rfl
     |_=>rfl
    |_=>rfl
   |_=>rfl
  case nY z x=>
   simp only[exec,jl];cases σ.ev x with
   |one p=>cases p with
    |sl n s lo len=>
     simp only
     cases σ.h n with
     |none=>rfl
     |some b=>cases b with
      |box cs=>rfl
      |row gr m rs xs=>
       simp only
       split<;>rfl
    |_=>rfl
   |_=>rfl
  case tail=>cases hw
  case tF=>cases hw
  case mn f xs=>
   simp only[exec,jl,ug,TA];cases pD σ.h (xs.map σ.ev) with
   |none=>rfl
   |some x=>
    obtain⟨ds,ns,u⟩:=x;simp only[zab];cases br.n7 T.vs f with
    |none=>rfl
    |some M=>
     simp only
     cases M ds with
     |none=>rfl
     |some z=>
      obtain⟨rs,out⟩:=z;simp only[aAC,LP];cases zK (fy σ.h u) ns out with
      |none=>rfl
      |some u'=>
       simp only[zab,anP];cases Fu d rs with
       |none=>rfl
       |some z=>
        obtain⟨v,is⟩:=z;simp only[zai,AM,Ig]
  case gy sz ps=>
   simp only[exec,jl];rw[amu];cases d with
   |none=>rfl
   |some n=>
    cases sM sz σ.h (ps.map σ.ev) with
    |none=>rfl
    |some x=>
     obtain⟨es,o,u⟩:=x;simp only[zab,zai,AM,St.dX];cases (σ.fe u).ins n (.row true (if o=true then .aZ else .aV) sz es)<;>rfl
  case append fl sz by_ x y=>
   simp only[exec,jl,ant];cases d with
   |none=>rfl
   |some n=>
    simp only
    cases Ax σ.h sz (σ.ev x) with
    |none=>rfl
    |some z=>
     obtain⟨xs,m,u1⟩:=z;simp only[zab,anv];have hh:(σ.fe u1).h=fy σ.h u1:=by rw[pq]
     rw[hh];cases yB fl (fy σ.h u1) sz m (σ.ev y) with
     |none=>rfl
     |some z=>
      obtain⟨ys,m2,u2⟩:=z;simp only[zab];split
      ·simp only[zai,AM,Ig,St.dX];cases ((σ.fe u1).fe u2).ins n (.row true m2 sz (xs++ys))<;>rfl
      ·rfl
  case store sz x v=>
   have hd:=hd sz x v rfl;subst hd;simp only[exec,jl];split at hw
   ·rename_i n k aY off hx;simp only[hx];cases hv:(σ.ev v).cells? with
    |none=>rfl
    |some y=>
     obtain⟨ag,vs⟩:=y;simp only
     split
     ·split at hw
      ·rename_i cs hn;simp only[hn];split
       ·rfl
       ·rfl
      ·rename_i gr m rs xs hn;simp only[hn];split
       ·cases xs[k]? with
        |none=>rfl
        |some e=>
         simp only
         rw[aCx];cases B9 σ.h n gr m rs xs k off e vs with
         |none=>rfl
         |some b=>rfl
       ·rfl
      ·cases hw
     ·rfl
   ·rename_i n k aY off s i hx;simp only[hx];cases hv:(σ.ev v).cells? with
    |none=>rfl
    |some y=>
     obtain⟨ag,vs⟩:=y;simp only
     split
     ·cases σ.h n with
      |none=>rfl
      |some b=>cases b with
       |box cs=>rfl
       |row gr m rs xs=>cases m with
        |live=>
         simp only
         split
         ·cases zQ xs k off s i vs<;>rfl
         ·rfl
        |_=>rfl
     ·rfl
   ·cases hw
theorem abW {T:br} {d:Option Nat} {op:bm} {ev:MO->aA} {h:Nat->Option aK} {ws:List Nat} {p:Ti} (hw:op.nV ev h=some ws) (ha:jl T d op ev h=some p):∀q∈p.2.1,q.1∈ws:=by
 by_cases hc:op.fG<=1
 ·have:jl T d op ev h=(rd T d op ev h).map fun x=>(x.1,[],x.2):=by
   cases op<;>first|rfl|(simp[bm.fG] at hc)
  rw[this,zas] at ha;obtain⟨x,_,rfl⟩:=ha;intro q hq;cases hq
 ·cases op<;>simp[bm.fG] at hc<;>simp only[bm.nV] at hw
  case g7=>cases hw
  case pG=>cases hw
  case copy sz x y=>
   simp only[jl] at ha;split at ha
   ·rename_i n s lo len c hx hy;simp only[hx] at hw;injection hw with hw;subst hw
    repeat' split at ha
    all_goals first|cases ha|skip
    intro q hq;simp at hq;subst hq;simp
   ·cases ha
  case nY z x=>
   simp only[jl] at ha;split at ha
   ·rename_i n s lo len hx;simp only[hx] at hw;injection hw with hw;subst hw
    repeat' split at ha
    all_goals first|cases ha|skip
    intro q hq;simp at hq;subst hq;simp
   ·cases ha
  case tail=>cases hw
  case tF=>cases hw
  case mn f xs=>
   injection hw with hw;subst hw;simp only[jl] at ha;split at ha
   ·rename_i ds ns u M e1 e2;split at ha
    ·rename_i rs out e3;split at ha
     ·rename_i u' v is e4 e5;injection ha with ha;subst ha;obtain⟨i1,i2⟩:=Ox e1;intro q hq;rw[zaG] at i1 i2;rcases zae.1 hq with hq|hq
      ·exact i1 q hq
      ·exact i2 _ (aAB e4 q hq)
     ·cases ha
    ·cases ha
   ·cases ha
  case gy sz ps=>
   injection hw with hw;subst hw;simp only[jl] at ha;split at ha
   ·rename_i n es o u e;injection ha with ha;subst ha;intro q hq;have:=amt e q hq;rw[zaG] at this;exact this
   ·cases ha
  case append fl sz by_ x y=>
   injection hw with hw;subst hw;simp only[jl] at ha;split at ha
   ·cases ha
   ·split at ha
    ·cases ha
    ·rename_i xs m u1 e1;split at ha
     ·cases ha
     ·rename_i ys m2 u2 e2;split at ha
      ·injection ha with ha;subst ha;intro q hq;rcases zae.1 hq with y9|y9
       ·clear hq;refine zae.2 (.inl ?_);unfold Ax at e1;split at e1
        ·injection e1 with e1;injection e1 with _ e1;injection e1 with _ e1;subst e1;cases y9
        ·rename_i a s len hv;split at e1
         ·split at e1
          ·injection e1 with e1;injection e1 with _ e1;injection e1 with _ e1;subst e1;simp at y9;subst y9;simp[aA.jN,ao.nm,ao.wE,hv]
          ·cases e1
         ·cases e1
        ·cases e1
       ·clear hq;refine zae.2 (.inr ?_);have Gf:∀(b:Nat),u2=[]\/u2=[(b,none)]->b∈(ev y).jN->q.1∈(ev y).jN:=by
         intro b hb hm;rcases hb with hb|hb
         ·subst hb;cases y9
         ·subst hb;simp at y9;subst y9;exact hm
        unfold yB at e2;split at e2
        ·injection e2 with e2;injection e2 with _ e2;injection e2 with _ e2;subst e2;cases y9
        ·repeat' split at e2
         all_goals first|cases e2|skip
         all_goals (cases y9)
        ·rename_i b s lo len hv;have hm:b∈(ev y).jN:=by simp[hv,aA.jN,ao.nm,ao.wE]
         refine Gf b ?_ hm
         repeat' split at e2
         all_goals first|cases e2|skip
         all_goals first|exact .inl rfl|exact .inr rfl
        ·cases e2
      ·cases ha
  case store sz x v=>
   simp only[jl] at ha;split at ha
   ·rename_i n k aY off b vs hx hv;simp only[hx] at hw;split at ha
    ·split at ha
     ·rename_i cs hn;simp only[hn] at hw;split at ha
      ·injection ha with ha;subst ha;injection hw with hw;subst hw;intro q hq;simp at hq;subst hq;simp
      ·cases ha
     ·rename_i gr m rs xs hn;simp only[hn] at hw;injection hw with hw;subst hw;split at ha
      ·split at ha
       ·split at ha
        ·rename_i u e0;injection ha with ha;subst ha;intro q hq;have hq:q∈u:=hq;have two:∀(u1:Us) (bb:Option aK),u=u1++[(n,bb)]->(∀q∈u1,q.1∈vs.flatMap ao.nm)->q.1∈n::(ev v).jN:=by
          intro u1 bb he GD;rw[he] at hq;rcases zae.1 hq with hq|hq
          ·exact zar _ (FD hv▸GD q hq)
          ·simp at hq;subst hq;simp
         unfold B9 at e0;split at e0
         ·cases e0
         ·split at e0
          ·cases e0
          ·rename_i cs o u1 e1;have GD:=RZ e1
           repeat' split at e0
           all_goals first|(injection e0 with e0;exact two _ _ e0.symm GD)|cases e0
        ·cases ha
       ·cases ha
      ·cases ha
     ·cases ha
    ·cases ha
   ·rename_i n k aY off s i b vs hx hv;simp only[hx] at hw;injection hw with hw;subst hw
    repeat' split at ha
    all_goals first|cases ha|skip
    intro q hq;simp at hq;subst hq;simp
   ·cases ha
section
variable {T:br} {d:Option Nat} {op:bm} {ev ev':MO->aA} {h h':Nat->Option aK}
theorem KG (cM:∀x∈op.args,ev' x=ev x):op.lU ev'=op.lU ev:=by
 unfold bm.lU;generalize op.args=l at cM;induction l with
 |nil=>rfl
 |cons x l ih=>simp only[zak];rw[cM x (by simp),ih fun y hy=>cM y (zar _ hy)]
theorem acn:∀{l:List Nat} (_:∀n∈l,h' n=h n),FA h' l=FA h l
 |[],_=>rfl
 |n::l,hh=>by
  have:=acn (l:=l) fun m hm=>hh m (zar _ hm);simp only[FA,zak] at this⊢;rw[hh n (by simp),this]
theorem Yq (cM:∀x∈op.args,ev' x=ev x) (hh:∀n∈op.lU ev,h' n=h n):op.qc ev' h'=op.qc ev h:=by
 unfold bm.qc;rw[KG cM,acn hh]
theorem Sg (cM:∀x∈op.args,ev' x=ev x) (hh:∀n∈op.lU ev,h' n=h n):op.nV ev' h'=op.nV ev h:=by
 cases op<;>first|rfl|skip
 case store sz x v=>
  have h1:=cM x (by simp[bm.args]);have h2:=cM v (by simp[bm.args]);simp only[bm.nV,h1,h2];cases hv:ev x with
  |one p=>cases p with
   |ptr n k aY off=>simp only;rw[hh n (tH.2 ⟨x,by simp[bm.args],by rw[hv];exact rfl⟩)]
   |_=>rfl
  |_=>rfl
 case copy sz x y=>
  simp only[bm.nV,cM x (by simp[bm.args])]
 case nY z x=>
  simp only[bm.nV,cM x (by simp[bm.args])]
 case mn f xs=>
  have:=KG (op:=.mn f xs) cM;simp only[bm.lU,bm.args] at this;simp only[bm.nV,this]
 case gy sz ps=>
  have:=KG (op:=.gy sz ps) cM;simp only[bm.lU,bm.args] at this;simp only[bm.nV,this]
 case append fl sz by_ x y=>
  simp only[bm.nV,cM x (by simp[bm.args]),cM y (by simp[bm.args])]
theorem abV (cM:∀x∈op.args,ev' x=ev x) (hh:∀n∈op.qc ev h,h' n=h n):jl T d op ev' h'=jl T d op ev h:=by
 have Gm:∀n∈op.lU ev,h' n=h n:=fun n hn=>hh n (QS hn);have hn:∀a∈op.args,∀n,(ev a).ref n->h' n=h n:=fun a ha n hr=>Gm n (tH.2 ⟨a,ha,hr⟩);have gen:rd T d op ev' h'=rd T d op ev h:=by
  rw[HB T d op _ cM];refine ajx (u:=fun n=>h' n=h n) (vv:=fun n=>n∈op.lU ev) T d op ev (fun n hn=>hn) (fun hc m cs c n hm hb gY hr=>?_) (fun x hx m hm=>hn x hx m hm) (fun x hx m hm=>tH.2 ⟨x,hx,hm⟩);refine hh n ?_;unfold bm.qc;rw[hc];refine zae.2 (.inr ?_);unfold FA;rw[zaq];exact⟨m,hm,by rw[hb];exact zaq.2 ⟨c,gY,ao.KH.2 hr⟩⟩
 cases op<;>first|(simp only[jl];rw[gen];done)|skip
 case store sz x v=>
  have h1:=cM x (by simp[bm.args]);have h2:=cM v (by simp[bm.args]);simp only[jl,h1,h2];have h3:=hn x (by simp[bm.args]);cases hv:ev x with
  |one p=>cases p with
   |ptr n k aY off=>
    rw[hv] at h3;have h3:=h3 n rfl;have h5:=hn v (by simp[bm.args]);cases hc:(ev v).cells? with
    |none=>rfl
    |some y=>
     obtain⟨b,vs⟩:=y;have h6:∀gr m rs xs e,B9 h' n gr m rs xs k off e vs=B9 h n gr m rs xs k off e vs:=by
      intro gr m rs xs e;have h7:m6 h' vs=m6 h vs:=RY fun q hq=>h5 q (aA.D8.1 (FD hc▸hq));unfold B9;rw[h7];cases m6 h vs with
      |none=>rfl
      |some y=>
       obtain⟨cs,o,u⟩:=y;simp only[LN h3 u]
     simp only[h3,h6]
   |eG n k aY off s i=>
    rw[hv] at h3;have h3:=h3 n rfl;cases hc:(ev v).cells? with
    |none=>rfl
    |some y=>
     simp only[h3]
   |_=>cases (ev v).cells?<;>rfl
  |_=>cases (ev v).cells?<;>rfl
 case copy sz x y=>
  have h1:=cM x (by simp[bm.args]);have h2:=cM y (by simp[bm.args]);have h3:=hn x (by simp[bm.args]);have h4:=hn y (by simp[bm.args]);simp only[jl,h1,h2];cases hv:ev x with
  |one p=>cases p with
   |sl n s lo len=>
    rw[hv] at h3;have h3:=h3 n rfl;cases hc:ev y with
    |one c=>
     rw[hc] at h4;have h5:dH h' c=dH h c:=EJ (u:=fun n=>h' n=h n) (fun n hn=>hn) fun m hm=>h4 m (ao.BX hm);simp only[h3,h5]
    |_=>rfl
   |_=>rfl
  |_=>rfl
 case nY z x=>
  have h1:=cM x (by simp[bm.args]);have h3:=hn x (by simp[bm.args]);simp only[jl,h1];cases hv:ev x with
  |one p=>cases p with
   |sl n s lo len=>
    rw[hv] at h3;have h3:=h3 n rfl;simp only[h3]
   |_=>rfl
  |_=>rfl
 case mn f xs=>
  have hl:xs.map ev'=xs.map ev:=zat cM;have h2:pD h' (xs.map ev)=pD h (xs.map ev):=Tx fun n cb=>by
   rw[zaG] at cb;exact Gm n cb
  simp only[jl,hl,h2];cases e1:pD h (xs.map ev) with
  |none=>rfl
  |some x=>
   obtain⟨ds,ns,u⟩:=x
   try simp only
   cases br.n7 T.vs f with
   |none=>rfl
   |some M=>
    try simp only
    cases M ds with
    |none=>rfl
    |some z=>
     obtain⟨rs,out⟩:=z
     try simp only
     rw[aAA (h:=fy h u) (h':=fy h' u) fun n cb=>LN (Gm n (by
      have:=(Ox e1).2 n cb;rw[zaG] at this;exact this)) u]
 case gy sz ps=>
  have hl:ps.map ev'=ps.map ev:=zat cM;have h2:sM sz h' (ps.map ev)=sM sz h (ps.map ev):=ams fun n cb=>by
   rw[zaG] at cb;exact Gm n cb
  simp only[jl,hl,h2]
 case append fl sz by_ x y=>
  have h1:=cM x (by simp[bm.args]);have h2:=cM y (by simp[bm.args]);have h3:=hn x (by simp[bm.args]);have h4:=hn y (by simp[bm.args]);have e1:Ax h' sz (ev x)=Ax h sz (ev x):=by
   cases hv:ev x with
   |one p=>cases p with
    |sl a s lo len=>
     rw[hv] at h3;cases lo with
     |zero=>simp only[Ax,h3 a rfl]
     |succ lo=>rfl
    |_=>rfl
   |_=>rfl
  have e2:∀(us:List (Nat×Option aK)) (m:Mode),yB fl (fy h' us) sz m (ev y)=yB fl (fy h us) sz m (ev y):=by
   intro us m;cases hv:ev y with
   |one p=>cases p with
    |sl b s lo len=>
     rw[hv] at h4;have hb:fy h' us b=fy h us b:=by
      by_cases hu:∃p∈us,p.1=b
      ·exact LO hu
      ·rw[rJ fun p hp e=>hu ⟨p,hp,e⟩,rJ fun p hp e=>hu ⟨p,hp,e⟩];exact h4 b rfl
     simp only[yB,hb]
    |c x=>cases x<;>rfl
    |_=>rfl
   |_=>rfl
  simp only[jl,h1,h2,e1,e2]
end
theorem Uc {f g:List Nat×List Nat} (h:I3 f g=true) {n:Nat} (h1:n∈f.2) (h2:n∈g.1):False:=by
 simp only[I3,zaa,zaf] at h;have:=h.1 n h1;simp[h2] at this
theorem aoM {f g:List Nat×List Nat} (h:I3 f g=true) {n:Nat} (h1:n∈g.2) (h2:n∈f.1):False:=by
 simp only[I3,zaa,zaf] at h;have:=h.2 n h1;simp[h2] at this
theorem Ho {σ:St} (W:Wf σ) {op:bm} (hf:∀a∈op.args,a.flat=true) {n:Nat} (hn:n∈op.lU σ.ev):σ.used n=true:=by
 obtain⟨a,ha,hr⟩:=tH.1 hn;exact W.arg (hf a ha) n hr
theorem ajv {σ:St} (W:Wf σ) {op:bm} (hf:∀a∈op.args,a.flat=true) {n:Nat} (hn:n∈op.qc σ.ev σ.h):σ.used n=true:=by
 unfold bm.qc at hn;cases hc:op.Kj with
 |true=>
  rw[hc] at hn;rcases zae.1 hn with hn|hn
  ·exact Ho W hf hn
  ·unfold FA at hn;rw[zaq] at hn;obtain⟨m,hm,hn⟩:=hn;split at hn
   ·rename_i cs hb;obtain⟨c,hc,hr⟩:=zaq.1 hn;exact W.box m cs c n hb hc (ao.KH.1 hr)
   ·cases hn
 |false=>rw[hc] at hn;exact Ho W hf hn
section
variable {T:br} {dx dy:Option Nat} {x y:bm} {σ σ1 σ2:St}
theorem ae2 (W:Wf σ) (uH:∀n,dx=some n->MO.t n∉y.args) (Dj:∀a∈y.args,a.flat=true) (yV:∀sz p v,x=.store sz p v->dx=none)
  (hc:x.fG<=1\/y.fG=0) (h1:exec T dx x σ=some σ1):y.fp σ1=y.fp σ:=by
 have v5:=AK yV h1;have cM:∀a∈y.args,σ1.ev a=σ.ev a:=fun a ha=>by
  cases a with
  |t n=>show σ1.env n=σ.env n;rw[v5];exact u7 fun tr=>uH n tr ha
  |k v=>rfl
 rcases hc with hc|hc
 ·rw[tf T dx x σ hc] at h1;have hh:∀n∈y.lU σ.ev,σ1.h n=σ.h n:=by
   intro n hn;cases hr:rd T dx x σ.ev σ.h with
   |none=>rw[hr] at h1;cases h1
   |some p=>
    rw[hr] at h1;simp only[zai,fin,zas] at h1;obtain⟨A,hA,rfl⟩:=h1;have:(A.put dx p.1).h=A.h:=by cases dx<;>rfl
    rw[this];exact((DG hA).1 n (Ho W Dj hn)).2
  unfold bm.fp;rw[Sg cM hh,Yq cM hh]
 ·unfold bm.fp;have c1:y.Kj=false:=by cases y<;>first|rfl|(simp[bm.fG] at hc)
  have w:∀ev h,y.nV ev h=some []:=by intro ev h;cases y<;>first|rfl|(simp[bm.fG] at hc)
  simp only[w,bm.qc,c1,cond_false,KG cM]
theorem aoo (W:Wf σ) (hd:∀n,dx=some n->dy≠some n) (uH:∀n,dx=some n->MO.t n∉y.args) (xE:∀n,dy=some n->MO.t n∉x.args)
  (Gk:∀a∈x.args,a.flat=true) (Dj:∀a∈y.args,a.flat=true)
  (yV:∀sz p v,x=.store sz p v->dx=none) (JF:∀sz p v,y=.store sz p v->dy=none) (hk:I4 (x.fp σ) (y.fp σ1)=true)
  (h1:exec T dx x σ=some σ1) (h2:exec T dy y σ1=some σ2):∃τ,exec T dy y σ=some τ/\exec T dx x τ=some σ2/\y.fp σ1=y.fp σ/\x.fp τ=x.fp σ:=by
 unfold bm.fp at hk;cases C4:x.nV σ.ev σ.h with
 |none=>rw[C4] at hk;cases hk
 |some wx=>
 cases C5:y.nV σ1.ev σ1.h with
 |none=>rw[C4,C5] at hk;cases hk
 |some wy=>
 rw[C4,C5] at hk;simp only[zab,I4] at hk;rw[Pj C4 yV] at h1;rw[Pj C5 JF] at h2;cases OY:jl T dx x σ.ev σ.h with
 |none=>rw[OY] at h1;cases h1
 |some px=>
 obtain⟨vx,ux,nx⟩:=px;rw[OY] at h1;simp only[zai,AM,zas] at h1;obtain⟨A,hA,rfl⟩:=h1;have R7:∀q∈ux,q.1∈wx:=abW C4 OY;have uxu:∀q∈ux,σ.used q.1=true:=fun q hq=>Ho W Gk (amS C4 (R7 q hq));obtain⟨A',AS,rfl⟩:=WK uxu hA;obtain⟨oa,ea⟩:=DG AS;have rl:∀(s:St) (d:Option Nat) (v:aA),(s.put d v).h=s.h:=fun s d v=>by cases d<;>rfl
 have cM:∀a∈y.args,((A'.fe ux).put dx vx).ev a=σ.ev a:=fun a ha=>by
  rw[sH,Pf fun n hn=>u7 fun tr=>uH n tr (hn▸ha)];cases a with
  |t n=>show(A'.fe ux).env n=σ.env n;rw[pq];show A'.env n=_;rw[ea]
  |k v=>rfl
 have asq:y.qc ((A'.fe ux).put dx vx).ev ((A'.fe ux).put dx vx).h=y.qc σ.ev σ.h/\y.nV ((A'.fe ux).put dx vx).ev ((A'.fe ux).put dx vx).h=y.nV σ.ev σ.h:=by
  have hh:∀n∈y.lU σ.ev,((A'.fe ux).put dx vx).h n=σ.h n:=fun n hn=>by
   rw[rl,pq];show fy A'.h ux n=_;rw[rJ fun p hp e=>Uc hk (R7 p hp) (by rw[e];exact QS (by rw[KG cM];exact hn))];exact(oa n (Ho W Dj hn)).2
  exact⟨Yq cM hh,Sg cM hh⟩
 obtain⟨r1,r2⟩:=asq;have hh:∀n∈y.qc σ.ev σ.h,((A'.fe ux).put dx vx).h n=σ.h n:=fun n hn=>by
  rw[rl,pq];show fy A'.h ux n=_;rw[rJ fun p hp e=>Uc hk (R7 p hp) (by rw[e];show n∈y.qc _ _;rw[r1];exact hn)];exact(oa n (ajv W Dj hn)).2
 have eay:jl T dy y ((A'.fe ux).put dx vx).ev ((A'.fe ux).put dx vx).h=jl T dy y σ.ev σ.h:=abV cM hh;rw[eay] at h2;rw[r2] at C5;cases OZ:jl T dy y σ.ev σ.h with
 |none=>rw[OZ] at h2;cases h2
 |some py=>
 obtain⟨vy,uy,ny⟩:=py;rw[OZ] at h2;simp only[zai,AM,zas] at h2;obtain⟨D,hD,rfl⟩:=h2;have uyw:∀q∈uy,q.1∈wy:=abW C5 OZ;have uyn:∀q∈uy,q.1∈y.lU σ.ev:=fun q hq=>amS C5 (uyw q hq);have uyu:∀q∈uy,σ.used q.1=true:=fun q hq=>Ho W Dj (uyn q hq);have uyA:∀q∈uy,A'.used q.1=true:=fun q hq=>(oa _ (uyu q hq)).1;have uxA:∀q∈ux,A'.used q.1=true:=fun q hq=>(oa _ (uxu q hq)).1;have vV:∀p∈ux,∀q∈uy,p.1≠q.1:=fun p hp q hq e=>Uc hk (R7 p hp) (by rw[e];show q.1∈y.qc _ _;rw[r1];exact QS (uyn q hq));rw[sH,amG,DH,zas] at hD;obtain⟨D0,hD0,rfl⟩:=hD;obtain⟨D1,hD1,rfl⟩:=WK (σ:=A'.fe ux) (fun q hq=>by rw[pq];exact uyA q hq) hD0;obtain⟨F,hF,rfl⟩:=WK uxA hD1;obtain⟨C',hC,hCF⟩:=WJ AS hF;obtain⟨oc,ec⟩:=DG hC;have uyC:∀q∈uy,C'.used q.1=true:=fun q hq=>(oc _ (uyu q hq)).1;have uxC:∀q∈ux,C'.used q.1=true:=fun q hq=>(oc _ (uxu q hq)).1;have PI:∀a∈x.args,((C'.fe uy).put dy vy).ev a=σ.ev a:=fun a ha=>by
  rw[sH,Pf fun n hn=>u7 fun tr=>xE n tr (hn▸ha)];cases a with
  |t n=>show(C'.fe uy).env n=σ.env n;rw[pq];show C'.env n=_;rw[ec]
  |k v=>rfl
 have hhx:∀n∈x.qc σ.ev σ.h,((C'.fe uy).put dy vy).h n=σ.h n:=fun n hn=>by
  rw[rl,pq];show fy C'.h uy n=_;rw[rJ fun p hp e=>aoM hk (uyw p hp) (by rw[e];exact hn)];exact(oc n (ajv W Gk hn)).2
 have Vv:∀n∈x.lU σ.ev,((C'.fe uy).put dy vy).h n=σ.h n:=fun n hn=>hhx n (QS hn);refine⟨(C'.fe uy).put dy vy,?_,?_,?_,?_⟩
 ·rw[Pj C5 JF,OZ];simp only[zai,AM,Kh uyu hC,zab]
 ·rw[Pj (ws:=wx) (by rw[Sg PI Vv];exact C4) yV,abV PI hhx,OY];simp only[zai,AM];rw[sH,amG,DH,Kh (σ:=C'.fe uy) (fun q hq=>by rw[pq];exact uxC q hq) (Kh uyC hCF)];simp only[zab];rw[sH,sH,aDa vV];congr 1;have e1:(C'.fe uy).env=σ.env:=by rw[pq];exact ec
  have e2:(A'.fe ux).env=σ.env:=by rw[pq];exact ea
  show St.we _ (kP (kP (C'.fe uy).env dy vy) dx vx)=St.we _ (kP (kP (A'.fe ux).env dx vx) dy vy);rw[e1,e2,Q6 σ.env _ _ hd];rfl
 ·unfold bm.fp;rw[r1,r2]
 ·unfold bm.fp;rw[Sg PI Vv,Yq PI Vv]
end
def IU (x y:cZ):Bool:=x.op.fG==0||y.op.fG==0||(decide (x.op.fG<=1)&&decide (y.op.fG<=1))
def IV (x y:cZ):Bool:=
 (match x.dst with|some d=>y.x4 d&&(match y.dst with|some e=>e !=d|none=>true)|none=>true)&&
 (match y.dst with|some d=>x.x4 d|none=>true)&&x.ur&&y.ur
theorem aop {T:br} {x y:cZ} {σ σ1 σ2:St} (W:Wf σ) (hc:IV x y=true) (hk:IU x y=true\/I4 (x.fp σ) (y.fp σ1)=true) (h1:gv T x σ=some σ1) (h2:gv T y σ1=some σ2):
  ∃τ,gv T y σ=some τ/\gv T x τ=some σ2/\y.fp σ1=y.fp σ/\x.fp τ=x.fp σ:=by
 simp only[IV,zaa] at hc;obtain⟨⟨⟨c1,c2⟩,c3⟩,c4⟩:=hc;rw[FV] at h1 h2;cases ex:qt x σ.env with
 |none=>rw[ex] at h1;cases h1
 |some mH=>
  rw[ex] at h1;have h1:exec T x.dst mH σ=some σ1:=h1;have jx:mH=x.op\/mH=.mv (.k (.cF [])):=O0 ex;have ED:∀sz p v,mH=.store sz p v->x.dst=none:=by
   intro sz p v he;rcases jx with rfl|rfl
   ·simp only[cZ.ur,zaa,he] at c3;simpa using c3.2
   ·cases he
  have v5:=AK ED h1;have Wa:∀s w,y.guard=some (s,w)->x.dst≠some s:=by
   intro s w hg hd;rw[hd] at c1;simp[cZ.x4,hg] at c1
  have P4:∀s w,x.guard=some (s,w)->y.dst≠some s:=by
   intro s w hg hd;rw[hd] at c2;simp[cZ.x4,hg] at c2
  have Pk:qt y σ1.env=qt y σ.env:=I5 fun s w hg=>by rw[v5];exact u7 (Wa s w hg)
  rw[Pk] at h2;cases ey:qt y σ.env with
  |none=>rw[ey] at h2;cases h2
  |some lW=>
   rw[ey] at h2;have h2:exec T y.dst lW σ1=some σ2:=h2;have jy:lW=y.op\/lW=.mv (.k (.cF [])):=O0 ey;have Ca:∀sz p v,lW=.store sz p v->y.dst=none:=by
    intro sz p v he;rcases jy with rfl|rfl
    ·simp only[cZ.ur,zaa,he] at c4;simpa using c4.2
    ·cases he
   have Jh:∀a∈mH.args,a.flat=true:=by
    rcases jx with rfl|rfl
    ·simp only[cZ.ur,zaa,zaf] at c3;exact c3.1
    ·intro a ha;simp[bm.args] at ha;subst ha;rfl
   have Ji:∀a∈lW.args,a.flat=true:=by
    rcases jy with rfl|rfl
    ·simp only[cZ.ur,zaa,zaf] at c4;exact c4.1
    ·intro a ha;simp[bm.args] at ha;subst ha;rfl
   have uH:∀n,x.dst=some n->MO.t n∉lW.args:=by
    intro n hd;rcases jy with rfl|rfl
    ·rw[hd] at c1;simp only[zaa] at c1;exact cZ.QT c1.1
    ·simp[bm.args]
   have xE:∀n,y.dst=some n->MO.t n∉mH.args:=by
    intro n hd;rcases jx with rfl|rfl
    ·rw[hd] at c2;exact cZ.QT c2
    ·simp[bm.args]
   have vV:∀n,x.dst=some n->y.dst≠some n:=by
    intro n hd he;rw[hd,he] at c1;simp at c1
   have yfp:y.fp σ1=lW.fp σ1:=by unfold cZ.fp;rw[Pk,ey]
   have aDy:y.fp σ=lW.fp σ:=by unfold cZ.fp;rw[ey]
   have amT:x.fp σ=mH.fp σ:=by unfold cZ.fp;rw[ex]
   have xfp:∀τ,exec T y.dst lW σ=some τ->x.fp τ=mH.fp τ:=by
    intro τ t1;unfold cZ.fp;rw[I5 (e:=σ.env) (fun s w hg=>by rw[AK Ca t1];exact u7 (P4 s w hg)),ex]
   have fin:(∃τ,exec T y.dst lW σ=some τ/\exec T x.dst mH τ=some σ2/\lW.fp σ1=lW.fp σ/\mH.fp τ=mH.fp σ)->∃τ,gv T y σ=some τ/\gv T x τ=some σ2/\y.fp σ1=y.fp σ/\x.fp τ=x.fp σ:=by
    rintro⟨τ,t1,t2,t3,t4⟩;refine⟨τ,?_,?_,?_,?_⟩
    ·rw[FV,ey];exact t1
    ·rw[FV,I5 (e:=σ.env) (fun s w hg=>by rw[AK Ca t1];exact u7 (P4 s w hg)),ex];exact t2
    ·rw[yfp,aDy,t3]
    ·rw[xfp τ t1,amT,t4]
   apply fin;rcases hk with c5|hk
   ·have di:mH.fG=0\/lW.fG=0\/(mH.fG<=1/\lW.fG<=1):=by
     rcases jx with rfl|rfl
     ·rcases jy with rfl|rfl
      ·simp only[IU,zaz,beq_iff_eq,zaa,decide_eq_true_eq,or_assoc] at c5;exact c5
      ·exact .inr (.inl rfl)
     ·exact .inl rfl
    obtain⟨τ,t1,t2⟩:=acN W vV uH xE Jh Ji ED Ca di h1 h2;refine⟨τ,t1,t2,ae2 W uH Ji ED (by omega) h1,ae2 W xE Jh Ca (by omega) t1⟩
   ·rw[yfp,amT] at hk;exact aoo W vV uH xE Jh Ji ED Ca hk h1 h2
def IA (T:br) (ms:List cZ) (F:Nat->Option FP):List Nat->St->St->Prop
 |[],σ,me=>σ=me
 |i::L,σ,me=>∃m σ1,ms[i]? =some m/\F i=m.fp σ/\gv T m σ=some σ1/\IA T ms F L σ1 me
def abS (F:Nat->Option FP) (ms:List cZ) (i j:Nat) (m:cZ):Prop:=∃mj,ms[j]? =some mj/\IV mj m=true/\(IU mj m=true\/I4 (F j) (F i)=true)
structure abv (F:Nat->Option FP) (ops:Array Oper) (ms:List cZ):Prop where
 back:∀(i:Nat) (o:Oper),ops[i]? =some o->∀e∈o.after,Region.binds .any e=true->e.on<i
 pair:∀(i j:Nat) (o:Oper) (m:cZ),ops[i]? =some o->ms[i]? =some m->j<i->Aa ops i j\/abS F ms i j m
section
variable {B:Nat} {E:Ex} {w0 w w':World} {G G':Gh} {N:Nat}
variable {P:Program} {T:br} {o:Oper} {mo:cZ} {a:Act} {σ σ':St} {Q:Exit->Act->World->Prop} {ops:Array Oper}
theorem ajL (hT:qm P T) {ms:List cZ} {F:Nat->Option FP} (vU:∀(i:Nat) (m:cZ),ms[i]? =some m->∃o,ops[i]? =some o/\yE P N ops o m=true) {i:Nat} {mi:cZ} (hi:ms[i]? =some mi) {post:List Nat} {me:St}:
  ∀{pre:List Nat} {σ:St},ML B E w0 N σ->IA T ms F (pre++i::post) σ me->(∀j∈pre,abS F ms i j mi)->
  ∃τ,F i=mi.fp σ/\gv T mi σ=some τ/\IA T ms F (pre++post) τ me
 |[],σ,hr,hx,hc=>by
  obtain⟨m,σ1,h1,h2,h3,h4⟩:=hx;rw[hi] at h1;injection h1 with h1;subst h1;exact⟨σ1,h2,h3,h4⟩
 |j::pre,σ,hr,hx,hc=>by
  obtain⟨mj,σ1,k1,k2,k3,k4⟩:=hx;obtain⟨mj',hj,tp,di⟩:=hc j (by simp);rw[k1] at hj;injection hj with hj;subst hj;obtain⟨oj,_,mw⟩:=vU j mj k1;obtain⟨sO,t0,t1,t2⟩:=ajL hT vU hi (ajC hr hT mw k3) k4 (fun k hk=>hc k (by simp[hk]));obtain⟨a,w,G,r⟩:=hr;rw[k2,t0] at di;obtain⟨τ,s1,s2,s3,s4⟩:=aop r.wf tp di k3 t1;exact⟨τ,by rw[t0,s3],s1,mj,sO,k1,by rw[s4];exact k2,s2,t2⟩
theorem aDs (hT:qm P T) {ms:List cZ} {F:Nat->Option FP} (vU:∀(i:Nat) (m:cZ),ms[i]? =some m->∃o,ops[i]? =some o/\yE P N ops o m=true) (hlen:ms.length=ops.size) (hd:abv F ops ms) {me:St}
  (hQ:∀a w G,R B E w0 N me a w G->Q .normal a w):
  ∀(lm:Nat) (L:List Nat) (eS:Array Bool) (σ:St) (a:Act) (w:World) (G:Gh),R B E w0 N σ a w G->IA T ms F L σ me->L.Pairwise (·<·)->L.length<=lm->eS.size=ops.size->
   (∀j,j∈L↔eS.getD j true=false)->Sk ops eS->wpAny P .any ops Q lm eS a w:=by
 have first:∀(L:List Nat) (eS:Array Bool),L.Pairwise (·<·)->eS.size=ops.size->(∀j,j∈L↔eS.getD j true=false)->Region.ready .any ops eS=[]->L=[]:=by
  intro L eS hp hs hL hr;cases L with
  |nil=>rfl
  |cons j L=>
   exfalso;have hj:=(hL j).1 (by simp);have qC:j<ops.size:=by
    rw[<-hs];rcases za2 j eS.size with h|h
    ·exact h
    ·simp[zaA h] at hj
   have ho:ops[j]? =some ops[j]:=zaR qC;have:j∈Region.ready .any ops eS:=by
    rw[mem_ready];refine⟨hj,_,ho,fun e he hb=>?_⟩;have cC:=hd.back j _ ho e he hb;have rh:e.on∉j::L:=by
     intro hm;cases hm with
     |head=>omega
     |tail _ hm=>have:=(zay.1 hp).1 _ hm;omega
    have aR:eS.getD e.on true≠false:=fun h=>rh ((hL e.on).2 h);have tt:e.on<eS.size:=by omega
    simp[tt] at aR⊢;exact aR
   rw[hr] at this;cases this
 intro lm;induction lm with
 |zero=>
  intro L eS σ a w G r hx hp hl hs hL hC;have vS:L=[]:=zap (by omega);subst vS;have hx:σ=me:=hx;subst hx;refine⟨?_,hQ _ _ _ r⟩;cases hr:Region.ready .any ops eS with
  |nil=>rfl
  |cons i l=>
   have hm:i∈Region.ready .any ops eS:=by rw[hr];simp
   have:=(hL i).2 (mem_ready.1 hm).1;cases this
 |succ lm ih=>
  intro L eS σ a w G r hx hp hl hs hL hC;refine⟨fun hr=>?_,fun i hi=>?_⟩
  ·have vS:=first L eS hp hs hL hr
   subst vS;have hx:σ=me:=hx;subst hx;exact hQ _ _ _ r
  ·obtain⟨Vy,oi,nw,Jx⟩:=mem_ready.1 hi;have uD:i∈L:=(hL i).2 Vy;obtain⟨pre,post,rfl⟩:=zbb uD;have his:i<ops.size:=(zan.1 nw).1;have Dr:ms[i]? =some ms[i]:=zad (by omega);obtain⟨o',jV,Vj⟩:=vU i _ Dr;rw[nw] at jV;injection jV with jV;subst jV;have g9:=zaD.1 hp;obtain⟨τ,t0,t1,t2⟩:=ajL (ops:=ops) hT vU Dr ⟨a,w,G,r⟩ hx (fun j hj=>by
    have rW:j<i:=g9.2.2 j hj i (by simp);rcases hd.pair i j oi _ nw Dr rW with U9|h
    ·have h1:=aci hC U9 (fun o ho e he hb=>by
      rw[nw] at ho;injection ho with ho;subst ho;have h1:=Jx e he hb;have cC:=hd.back i _ nw e he hb;have tt:e.on<eS.size:=by omega
      simp[tt] at h1⊢;exact h1)
     have h2:=(hL j).1 (by simp[hj]);rw[h1] at h2;cases h2
    ·exact h)
   have zf:∀a' w',Nx B E w0 N τ a' w'->wpAny P .any ops Q lm (eS.setIfInBounds i true) a' w':=by
    rintro a' w' ⟨G',r'⟩;refine ih (pre++post) _ τ a' w' G' r' t2 ?_ (by simp at hl⊢;omega) (by simpa using hs) (fun j=>?_) (fun k o ho hk e he hb=>?_)
    ·rw[zaD];exact⟨g9.1,(zay.1 g9.2.1).2,fun x hx y hy=>g9.2.2 x hx y (by simp[hy])⟩
    ·by_cases rW:j=i
     ·subst rW;have qC:j<eS.size:=by omega
      simp only[zae];constructor
      ·rintro(h|h)
       ·have:=g9.2.2 j h j (by simp);omega
       ·have:=(zay.1 g9.2.1).1 j h;omega
      ·intro h;simp[qC] at h
     ·rw[getD_set_ne true (zaP rW),<-hL j];simp[rW]
    ·have JN:∀q,eS.getD q true=true->(eS.setIfInBounds i true).getD q true=true:=by
      intro q hq;by_cases mS:q=i
      ·subst mS;have:q<eS.size:=by omega
       simp[this]
      ·rw[getD_set_ne true (zaP mS)];exact hq
     by_cases Dn:k=i
     ·subst Dn;rw[nw] at ho;injection ho with ho;subst ho;have h1:=Jx e he hb;have cC:=hd.back k _ nw e he hb;have tt:e.on<eS.size:=by omega
      refine JN _ ?_;simp[tt] at h1⊢;exact h1
     ·rw[getD_set_ne true (zaP Dn)] at hk;exact JN _ (hC k o ho hk e he hb)
   unfold wpOp;rw[nw];simp only
   rcases Ph (Q:=Q) r hT Vj t1 with⟨hw,h⟩|⟨hw,h⟩
   ·rw[if_pos hw];exact .inl (Oper.wp_mono zf h)
   ·rw[if_neg (by simp[hw])];exact zf _ _ h
def OM (ps:List (Nat×Nat)) (ops:List Oper) (ms:List cZ):Bool:=
 (fun ks:List Nat=>(List.range ops.length).all fun i=>match ops[i]?,ms[i]? with
  |some o,some m=>(o.after.toList.all fun e=> !Region.binds .any e||decide (e.on<i))&&
   (List.range i).all fun j=>(ks.getD i 0).testBit j||(match ms[j]? with|some mj=>IV mj m&&(IU mj m||ps.contains (j,i))|none=>false)
  |_,_=>false) (He ops [])
theorem an9 {ps:List (Nat×Nat)} {ms:List cZ} {fs:List (Option FP)} (h:OM ps ops.toList ms=true) (hp:zF ps fs=true):abv (fun i=>fs.getD i none) ops ms:=by
  simp only[OM,zaf,zaF] at h;have cN:∀(i:Nat) (o:Oper),ops[i]? =some o->∃m,ms[i]? =some m/\(o.after.toList.all fun e=> !Region.binds .any e||decide (e.on<i))=true/\
        ∀j,j<i->(((He ops.toList []).getD i 0).testBit j||(match ms[j]? with|some mj=>IV mj m&&(IU mj m||ps.contains (j,i))|none=>false))=true:=by
    intro i o ho;have hi:i<ops.toList.length:=by simpa using(zan.1 ho).1
    have fA:=h i hi;have jV:ops.toList[i]? =some o:=by simpa using ho
    rw[jV] at fA;cases hm:ms[i]? with
    |none=>rw[hm] at fA;cases fA
    |some m=>
     rw[hm] at fA;simp only[zaa,zaf,zaF] at fA;exact⟨m,rfl,by rw[zaf];exact fA.1,fA.2⟩
  refine⟨fun i o ho e he hb=>?_,fun i j o m ho hm hj=>?_⟩
  · obtain⟨m,_,k1,_⟩:=cN i o ho;have:=zaf.1 k1 e (zaK.2 he);simp[hb] at this;exact this
  · obtain⟨m',cQ,_,k2⟩:=cN i o ho;rw[hm] at cQ;injection cQ with cQ;subst cQ;have:=k2 j hj;rw[zaz] at this;rcases this with h1|h1
    · exact .inl (XK ops.toList [] [] rfl rfl (by intro i k hb;simp at hb) i j h1)
    · cases Gs:ms[j]? with
      |none=>rw[Gs] at h1;cases h1
      |some mj=>
       rw[Gs] at h1;simp only[zaa,zaz] at h1;refine .inr ⟨mj,Gs,h1.1,?_⟩;rcases h1.2 with h2|h2
       · exact .inl h2
       · refine .inr ?_;have:=zaf.1 hp (j,i) (by simpa using h2);exact this
theorem adC {ms:List cZ}:∀(post pre:List cZ) (σ me:St) (fs eE:List (Option FP)),ms=pre++post->eE.length=pre.length->pP T post eE σ=some (fs,me)->
  eE=fs.take eE.length/\IA T ms (fun i=>fs.getD i none) (List.range' pre.length post.length) σ me
 |[],pre,σ,me,fs,eE,he,hl,hx=>by
  simp only[pP] at hx;injection hx with hx;injection hx with h1 h2;subst h1 h2;exact⟨by simp,rfl⟩
 |m::post,pre,σ,me,fs,eE,he,hl,hx=>by
  simp only[pP] at hx;split at hx
  ·rename_i σ1 e1;obtain⟨h1,h2⟩:=adC (ms:=ms) post (pre++[m]) σ1 me fs (eE++[m.fp σ]) (by simp[he]) (by simp[hl]) hx;have h3:fs[eE.length]? =some (m.fp σ):=by
    have:(fs.take (eE++[m.fp σ]).length)[eE.length]? =some (m.fp σ):=by rw[<-h1];simp
    rw[List.getElem?_take] at this;split at this
    ·exact this
    ·cases this
   have h4:eE=fs.take eE.length:=by
    have:=congrArg (List.take eE.length) h1;simpa[List.take_take] using this
   refine⟨h4,m,σ1,?_,?_,e1,?_⟩
   ·rw[he,zav (zau _),za1];rfl
   ·show fs.getD pre.length none=_;rw[<-hl,zal,h3];rfl
   ·simpa using h2
  ·cases hx
theorem aAS (hT:qm P T) (hm:P.follows .mixedOrders=true) {id:Nat} {ps:List (Nat×Nat)} {ms:List cZ} {fs:List (Option FP)} (hc:s8 P N ops ops.toList ms=true) (hd:OM ps ops.toList ms=true)
  (hx:pP T ms [] σ=some (fs,σ')) (hp:zF ps fs=true) (r:R B E w0 N σ a w G) (hQ:∀a w G,R B E w0 N σ' a w G->Q .normal a w):(Code.region id ops true).wp P Q a w:=by
 obtain⟨k1,k2⟩:=TW hc;have hlen:ms.length=ops.size:=by simpa using k1
 refine wp_region_any hm (aDs (B:=B) (E:=E) (w0:=w0) (N:=N) hT (fun i m h=>by
  obtain⟨o,h1,h2⟩:=k2 i m h;exact⟨o,by simpa using h1,h2⟩) hlen (an9 hd hp) hQ ops.size (List.range ops.size) _ σ a _ G (r.drawn _) ?_ ?_ (by simp) (by simp) (fun j=>?_) (fun k o ho hk=>?_))
 ·have:=(adC (T:=T) (ms:=ms) ms [] σ σ' fs [] rfl rfl hx).2;simp only[za3,hlen,<-za6] at this;exact this
 ·exact zaW
 ·rw[zaF];constructor
  ·intro h;simp[h]
  ·intro h;rcases za2 j ops.size with h'|h'
   ·exact h'
   ·simp[zaA (show(Array.replicate ops.size false).size<=j by simpa using h')] at h
 ·exfalso;have VE:k<ops.size:=(zan.1 ho).1;simp[VE] at hk
end
section
variable {B:Nat} {E:Ex} {w0 w w':World} {G G':Gh} {N:Nat} {h h':Nat->Option aK}
variable {P:Program} {T:br} {a:Act} {σ σ':St} {Q:Exit->Act->World->Prop}
theorem R.aAO (r:R B E w0 N σ a w G) {n j:Nat} {cs:List ao} {y:ao} (hn:σ.h n=some (.box cs)) (hy:∀v,w.cell? (ad (G.g n).b ((G.g n).o+j))=some v->RC w G σ.h y v) (hyr:∀m,y.ref m->σ.used m=true):
  R B E w0 N (σ.fK n (.box (cs.set j y))) a w G:=by
 have H:=r.hr;have c8:σ.h n≠none:=by rw[hn];simp
 obtain⟨b1,b2,b3⟩:=H.box n cs hn;have hg:aX G.g n (G.g n)=G.g:=LM _ _;have K:cr w G σ.h (fun n=>σ.used n=true) w ⟨G.Im,aX G.g n (G.g n)⟩ (aX σ.h n (some (.box (cs.set j y)))):=by
  rw[hg];refine⟨fun _ h=>h,fun _ _ _=>rfl,fun m _ hm=>⟨?_,rfl,rfl,rfl,rfl,rfl⟩,fun m gr sz xs _ hm=>?_⟩
  ·by_cases cO:m=n
   ·subst cO;exact c8
   ·rwa[dN _ _ _ _ cO] at hm
  ·by_cases cO:m=n
   ·subst cO;rw[cT] at hm;cases hm
   ·rw[dN _ _ _ _ cO] at hm;exact⟨⟨gr,xs,hm⟩,fun k j pc h1 h2=>⟨pc,h1,rfl,h2⟩⟩
 have Hn:=H.put (w':=w) (used':=σ.used) (n:=n) (blk:=.box (cs.set j y)) (p:=G.g n) (fun _ _ _=>rfl) (zau _) (fun _ _ h=>h) (fun _ h=>h) (H.lI n c8) (fun hl=>H.own n c8 hl)
  (fun hl m cO hm hml=>H.inj m n hm c8 cO hml hl) (fun hl m gr sz xs cO hm b hb=>H.live m gr sz xs hm b hb n c8 hl)
  (fun cs' c m hb hc hr=>by
   injection hb with hb;subst hb;rcases zaE hc with hc|rfl
   ·exact H.j7 n cs c m hn hc hr
   ·exact hyr m hr) K
  (by
   refine⟨b1,b2,fun i c hi=>?_⟩;rw[List.getElem?_set] at hi;split at hi
   ·rename_i mQ;subst mQ;split at hi
    ·rename_i cC;injection hi with hi;subst hi;obtain⟨v,v1,v2,v3⟩:=b3 j cs[j] (zad cC);exact⟨v,v1,v2,(hy v v1).fu K hyr⟩
    ·cases hi
   ·obtain⟨v,v1,v2,v3⟩:=b3 i c hi;exact⟨v,v1,v2,v3.fu K fun m hm=>H.j7 n cs c m hn (zac hi) hm⟩)
  (fun gr m sz xs hb=>by cases hb) (fun gr sz xs hb=>by cases hb) (fun gr m sz xs hb=>by cases hb)
  (fun hl _ b ⟨m,gr,mo,sz,xs,_,hm,hb⟩=>H.AP c8 hl hm hb)
 rw[hg] at K Hn;exact r.step rfl (fun _ h=>h) K Hn r.fr
theorem R.m8 (r:R B E w0 N σ a w G) (c:Nat) (m:Mode):R B E w0 N (σ.m8 c m) a w G:=by
 unfold St.m8;cases m with
 |live=>exact r
 |aZ=>exact r
 |aV=>
  simp only
  split
  ·rename_i gr rs xs hn;have hg:(⟨G.Im,aX G.g c (G.g c)⟩:Gh)=G:=by
    have:aX G.g c (G.g c)=G.g:=by funext q;rw[ma];split<;>simp[*]
    rw[this]
   have hr:=r.hr.row c gr .aZ rs xs hn;have e0:∀q b,aX σ.h c (some (.row gr .aV rs xs)) q=some b->q≠c->σ.h q=some b:=fun q b hq aR=>by rwa[dN _ _ _ _ aR] at hq
   have ne:∀q,aX σ.h c (some (.row gr .aV rs xs)) q≠none->σ.h q≠none:=fun q hq=>by
    by_cases rZ:q=c
    ·subst rZ;rw[hn];simp
    ·rwa[dN _ _ _ _ rZ] at hq
   have nQ:∀q cv m' bu aM,aX σ.h c (some (.row gr .aV rs xs)) q=some (.row cv m' bu aM)->m'≠ .aV->q≠c/\σ.h q=some (.row cv m' bu aM):=fun q cv m' bu aM hq hm=>by
    by_cases rZ:q=c
    ·subst rZ;rw[cT] at hq;injection hq with hq;injection hq with _ hq _ _;exact absurd hq.symm hm
    ·exact⟨rZ,e0 q _ hq rZ⟩
   have K:cr w G σ.h (fun q=>σ.used q=true) w G (aX σ.h c (some (.row gr .aV rs xs))):=
    ⟨fun _ h=>h,fun _ _ _=>rfl,fun q _ hq=>⟨ne q hq,rfl,rfl,rfl,rfl,rfl⟩,fun q cv bu aM _ hq=>by
     obtain⟨h1,h2⟩:=nQ q cv .live bu aM hq (by simp);exact⟨⟨cv,aM,h2⟩,fun k j pc a b=>⟨pc,a,rfl,b⟩⟩⟩
   have H:=r.hr;have Hn:HR B E w G (aX σ.h c (some (.row gr .aV rs xs))) σ.used []:=by
    refine⟨fun q hq=>H.lI q (ne q hq),fun q cs y p hq=>?_,fun q cs hq=>?_,fun q cv m' bu aM hq=>?_,fun q hq=>H.own q (ne q hq),fun q q' hq gz=>H.inj q q' (ne q hq) (ne q' gz),H.jM,H.tC,
     fun q q' cv m' bu aM F7 m2 pi mb hq gz hm pT=>H.ja q q' cv m' bu aM F7 m2 pi mb (nQ _ _ _ _ _ hq hm).2 (nQ _ _ _ _ _ gz pT).2 hm pT,
     fun q cv bu aM hq b hb q' gz=>H.live q cv bu aM (nQ _ _ _ _ _ hq (by simp)).2 b hb q' (ne q' gz),(by intro i pc hi;simp at hi),(by intro i j pc fh b _ hi;simp at hi),(by intro i pc q cv m' bu aM b hi;simp at hi)⟩
    ·have rZ:q≠c:=fun e=>by subst e;rw[cT] at hq;cases hq
     exact H.j7 q cs y p (e0 q _ hq rZ)
    ·have rZ:q≠c:=fun e=>by subst e;rw[cT] at hq;cases hq
     obtain⟨a1,a2,a3⟩:=H.box q cs (e0 q _ hq rZ);refine⟨a1,a2,fun j y hj=>?_⟩;obtain⟨v,v1,v2,v3⟩:=a3 j y hj;exact⟨v,v1,v2,v3.fu K fun p hp=>H.j7 q cs y p (e0 q _ hq rZ) (zac hj) hp⟩
    ·by_cases rZ:q=c
     ·subst rZ;rw[cT] at hq;injection hq with hq;injection hq with h1 h2 h3 h4;subst h1 h2 h3 h4;exact⟨hr.pos,hr.er,hr.nl,hr.gd,hr.room,fun b hb=>(hr.mode.1 b hb).1⟩
     ·exact H.row q cv m' bu aM (e0 q _ hq rZ)
   exact r.step rfl (fun _ h=>h) K Hn r.fr
  ·exact r
theorem R.KZ (r:R B E w0 N σ a w G) {x c:Nat} {m:Mode} (hx:(σ.ca x c).map (fun σ1=>σ1.m8 c m)=some σ'):∃G',R B E w0 N σ' a w G':=by
 rw[zas] at hx;obtain⟨σ1,e,rfl⟩:=hx;obtain⟨G',r'⟩:=r.ca e;exact⟨G',r'.m8 c m⟩
theorem R.canon (r:R B E w0 N σ a w G) {x:Bool×Nat×Nat×Nat×Mode} (hx:σ.canon x=some σ'):∃G',R B E w0 N σ' a w G':=by
 obtain⟨b,n,j,c,m⟩:=x;have jk:some σ=some σ'->∃G',R B E w0 N σ' a w G':=fun h=>by injection h with h;subst h;exact⟨G,r⟩
 cases b with
 |true=>
  simp only[St.canon] at hx;split at hx
  ·rename_i cs hn;split at hx
   ·exact r.KZ hx
   ·rename_i sz hj;split at hx
    ·rename_i dd;split at hx
     ·rename_i σ1 e;injection hx with hx;subst hx;obtain⟨G1,r1,fU⟩:=r.agl dd e;obtain⟨hu,rfl⟩:=qH e;have hnu:σ.used n=true:=r.hr.lI n (by rw[hn];simp);have y6:n≠c:=fun he=>by subst he;rw[hu] at hnu;cases hnu
      have oT:(aX σ.h c (some (.row true m sz []))) n=some (.box cs):=by rw[dN _ _ _ _ y6];exact hn
      refine⟨G1,r1.aAO oT (fun v hv=>?_) (fun q hq=>?_)⟩
      ·obtain⟨v',v1,v2,v3⟩:=(r1.hr.box n cs oT).2.2 j _ hj;rw[v1] at hv;injection hv with hv;subst hv;have v3':v'=.slice none 0 0:=v3;subst v3';exact fU
      ·have gz:q=c:=hq;subst gz;exact cT _ _ _
     ·cases hx
    ·exact jk hx
   ·exact jk hx
  ·exact jk hx
 |false=>
  simp only[St.canon] at hx;split at hx
  ·exact r.KZ hx
  ·rename_i sz hj;split at hx
   ·rename_i dd;split at hx
    ·rename_i σ1 e;injection hx with hx;subst hx;obtain⟨G1,r1,fU⟩:=r.agl dd e;obtain⟨hu,rfl⟩:=qH e;have hv:=r1.env n;rw[show({σ with h:=aX σ.h c (some (.row true m sz [])),used:=aX σ.used c true}:St).env n=σ.env n from rfl,hj] at hv
     have fH:a.tmps.getD n undef=.slice none 0 0:=(hv.kO (by simp)).1;refine⟨G1,r1.defers,r1.size,fun s=>?_,fun s q hq=>?_,r1.hr,r1.fr,r1.rB,r1.Ec⟩
     ·show RA w G1 _ (aX σ.env n _ s) _;by_cases hs:s=n
      ·subst hs;rw[cT,fH];exact RA.jP rfl fU
      ·rw[dN _ _ _ _ hs];exact r1.env s
     ·have nz:(aX σ.env n (.one (.sl c sz 0 0)) s).ref q:=hq;by_cases hs:s=n
      ·subst hs;rw[cT] at nz;have gz:q=c:=nz;subst gz;exact cT _ _ _
      ·rw[dN _ _ _ _ hs] at nz;exact r1.wS s q nz
    ·cases hx
   ·exact jk hx
  ·exact jk hx
theorem R.xc:∀{l:List (Bool×Nat×Nat×Nat×Mode)} {σ:St} {G:Gh},R B E w0 N σ a w G->σ.xc l=some σ'->∃G',R B E w0 N σ' a w G'
 |[],σ,G,r,hx=>by
  simp only[St.xc] at hx;injection hx with hx;subst hx;exact⟨G,r⟩
 |x::l,σ,G,r,hx=>by
  simp only[St.xc] at hx;split at hx
  ·rename_i σ1 e;obtain⟨G1,r1⟩:=r.canon e;exact R.xc r1 hx
  ·cases hx
theorem R.head (r:R B E w0 N σ a w G) {ke kh:List Nat} {cn:List (Bool×Nat×Nat×Nat×Mode)} (hx:σ.head ke kh cn=some σ'):∃G',R B E w0 N σ' a w G':=by
 unfold St.head at hx;split at hx
 ·rename_i σ1 e;injection hx with hx;subst hx;obtain⟨G1,r1⟩:=((r.kQ ke kh).kQ ke kh).xc e;exact⟨G1,r1.kQ ke kh⟩
 ·cases hx
def lc (P:Program) (N:Nat):Code->lF->Bool
 |c,.join _ _ _ mc=>lc P N c mc
 |.skip,.skip=>true
 |.region _ ops vL,.dB aoU ms=>(vL==aoU)&&s8 P N ops ops.toList ms&&(!vL||OL ops.toList ms)
 |.region _ ops vL,.o9 ps ms=>vL&&s8 P N ops ops.toList ms&&OM ps ops.toList ms
 |.seq x y,.seq mx my=>lc P N x mx&&lc P N y my
 |.cond c x y,.cond mc mx my=>df c mc&&lc P N x mx&&lc P N y my
 |.block id c,.block Wy mc=>(id==Wy)&&lc P N c mc
 |.loop c,.loop _ _ _ _ mc=>lc P N c mc
 |.exit id,.exit Wy=>id==Wy
 |.ret,.ret=>true
 |_,_=>false
def am6 (B:Nat) (E:Ex) (w0:World) (N:Nat) (Q:Exit->Act->World->Prop):vB->Prop
 |.gN σ=>∀a w G,R B E w0 N σ a w G->Q .normal a w
 |.ext id σ=>∀a w G,R B E w0 N σ a w G->Q (.exit id) a w
 |.ret σ=>∀a w G,R B E w0 N σ a w G->Q .ret a w
theorem mO (hT:qm P T) (hm:P.follows .mixedOrders=true):∀(mc:lF) {c:Code} {σ:St} {o:vB} {a:Act} {w:World} {G:Gh} {Q:Exit->Act->World->Prop},
  lc P N c mc=true->eY T mc σ=some o->R B E w0 N σ a w G->am6 B E w0 N Q o->c.wp P Q a w
 |.skip,c,σ,o,a,w,G,Q,hc,hx,r,hQ=>by
  cases c<;>simp only[lc] at hc<;>first|cases hc|skip
  simp only[eY] at hx;injection hx with hx;subst hx;exact wp_skip (hQ _ _ _ r)
 |.dB vL ms,c,σ,o,a,w,G,Q,hc,hx,r,hQ=>by
  cases c<;>simp only[lc] at hc<;>first|cases hc|skip
  simp only[zaa,zaz,beq_iff_eq] at hc;simp only[eY] at hx;split at hx
  ·rename_i σ1 e;injection hx with hx;subst hx;exact aAT hT hm hc.1.2 (fun hd=>hc.2.resolve_left (by simp[hd])) e r hQ
  ·cases hx
 |.o9 ps ms,c,σ,o,a,w,G,Q,hc,hx,r,hQ=>by
  cases c<;>simp only[lc] at hc<;>first|cases hc|skip
  simp only[zaa] at hc;obtain⟨⟨hd,JB⟩,AY⟩:=hc;subst hd;simp only[eY] at hx;split at hx
  ·rename_i fs σ1 e;cases hp:zF ps fs with
   |true=>
    rw[hp] at hx;injection hx with hx;subst hx;exact aAS hT hm JB AY e hp r hQ
   |false=>rw[hp] at hx;cases hx
  ·cases hx
 |.seq mx my,c,σ,o,a,w,G,Q,hc,hx,r,hQ=>by
  cases c<;>simp only[lc] at hc<;>first|cases hc|skip
  simp only[zaa] at hc;simp only[eY] at hx;refine wp_seq ?_;cases e:eY T mx σ with
  |none=>rw[e] at hx;cases hx
  |some o1=>
   rw[e] at hx;cases o1 with
   |gN σ1=>exact mO hT hm mx hc.1 e r fun a w G r1=>mO hT hm my hc.2 hx r1 hQ
   |ext i σ1=>
    injection hx with hx;subst hx;exact mO hT hm mx hc.1 e r hQ
   |ret σ1=>
    injection hx with hx;subst hx;exact mO hT hm mx hc.1 e r hQ
 |.cond mc mx my,c,σ,o,a,w,G,Q,hc,hx,r,hQ=>by
  cases c<;>simp only[lc] at hc<;>first|cases hc|skip
  simp only[zaa] at hc;simp only[eY] at hx;split at hx
  ·rename_i t ht;have h1:=(r.ev hc.1.1).1;rw[ht] at h1;refine wp_cond h1.Fz ?_;cases t with
   |true=>simp only[if_true] at hx⊢;exact mO hT hm mx hc.1.2 hx r hQ
   |false=>simp only[zaI,if_false] at hx⊢;exact mO hT hm my hc.2 hx r hQ
  ·cases hx
 |.block id mc,c,σ,o,a,w,G,Q,hc,hx,r,hQ=>by
  cases c<;>simp only[lc] at hc<;>first|cases hc|skip
  simp only[zaa,beq_iff_eq] at hc;obtain⟨rfl,hc⟩:=hc;simp only[eY] at hx;refine wp_block ?_;cases e:eY T mc σ with
  |none=>rw[e] at hx;cases hx
  |some o1=>
   rw[e] at hx;refine mO hT hm mc hc e r ?_;cases o1 with
   |gN σ1=>injection hx with hx;subst hx;exact hQ
   |ret σ1=>injection hx with hx;subst hx;exact hQ
   |ext i σ1=>
    simp only at hx;intro a w G r1;simp only[Exit.inBlock];split at hx
    ·rename_i hi;injection hx with hx;subst hx;rw[if_pos hi];exact hQ a w G r1
    ·rename_i hi;injection hx with hx;subst hx;rw[if_neg hi];exact hQ a w G r1
 |.join ke kh cn mc,c,σ,o,a,w,G,Q,hc,hx,r,hQ=>by
  have hc:lc P N c mc=true:=by cases c<;>exact hc
  simp only[eY] at hx;cases e:eY T mc σ with
  |none=>rw[e] at hx;cases hx
  |some o1=>
   rw[e] at hx;cases o1 with
   |gN σ1=>
    simp only at hx;split at hx
    ·rename_i σh e0;injection hx with hx;subst hx;exact mO hT hm mc hc e r fun a w G r1=>by
      obtain⟨G',r'⟩:=r1.head e0;exact hQ a w G' r'
    ·cases hx
   |ext i σ1=>
    injection hx with hx;subst hx;exact mO hT hm mc hc e r hQ
   |ret σ1=>
    injection hx with hx;subst hx;exact mO hT hm mc hc e r hQ
 |.loop id ke kh cn mc,c,σ,o,a,w,G,Q,hc,hx,r,hQ=>by
  cases c<;>simp only[lc] at hc<;>first|cases hc|skip
  rename_i c;simp only[eY] at hx;refine wp_loop_rounds aI ?_
  revert hx r
  generalize aI=n
  revert σ a w G
  induction n with
  |zero=>intro σ a w G hx r;simp[Hc] at hx
  |succ n ih=>
   intro σ a w G hx r;simp only[Hc] at hx;rw[rounds_succ];cases e0:σ.head ke kh cn with
   |none=>rw[e0] at hx;cases hx
   |some σh=>
    rw[e0] at hx;obtain⟨G',r'⟩:=r.head e0;cases e:eY T mc σh with
    |none=>simp only[e] at hx;cases hx
    |some o1=>
     simp only[e] at hx;refine mO hT hm mc hc e r' ?_;cases o1 with
     |gN σ1=>intro a w G r1;exact ih _ _ _ _ hx r1
     |ext i σ1=>injection hx with hx;subst hx;exact hQ
     |ret σ1=>injection hx with hx;subst hx;exact hQ
 |.exit id,c,σ,o,a,w,G,Q,hc,hx,r,hQ=>by
  cases c<;>simp only[lc] at hc<;>first|cases hc|skip
  have Vw:=eq_of_beq hc;subst Vw;simp only[eY] at hx;injection hx with hx;subst hx;exact wp_exit (hQ _ _ _ r)
 |.ret,c,σ,o,a,w,G,Q,hc,hx,r,hQ=>by
  cases c<;>simp only[lc] at hc<;>first|cases hc|skip
  simp only[eY] at hx;injection hx with hx;subst hx;exact wp_ret (hQ _ _ _ r)
end
end Go.Am
