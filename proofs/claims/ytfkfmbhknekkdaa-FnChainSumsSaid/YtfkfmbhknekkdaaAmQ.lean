/- AmO, AmR, AmS, AmT, AmU, AmV, AmX, Am17, Am18, Am19, Am20, Am21, Am22, Am23, AmP, AmQ: parts of the proof. No condition. -/
import Derived.Test.YtfkfmbhknekkdaaAmN
set_option linter.unusedVariables false
set_option linter.unusedSimpArgs false
open Bool renaming and_eq_true->zaa,or_eq_true->zaB,false_eq_true->zaP
open Option renaming map_some->zab,bind_some->zai,map_eq_some_iff->zaw,getD_some->zbg
open List renaming mem_of_getElem?->zac,getElem?_eq_getElem->zad,mem_append->zae,all_eq_true->zaf,getElem?_map->zag,getElem?_eq_some_iff->zah,mem_map->zaj,eq_nil_of_length_eq_zero->zak,flatMap_cons->zal,getD_eq_getElem?_getD->zam,getElem?_of_mem->zan,getElem?_append_right->zao,getElem?_set_self->zaq,mem_flatMap->zar,map_congr_left->zas,mem_cons_of_mem->zat,pairwise_cons->zay,length_map->zaA,mem_cons->zaC,getElem?_set_ne->zaD,pairwise_append->zaE,getElem?_append_left->zaF,mem_range->zaG,flatMap_map->zaH,mem_singleton->zaI,map_cons->zaK,mem_filterMap->zaM,map_map->zaO,mem_or_eq_of_mem_set->zaR,pairwise_iff_getElem->zaS,length_eq_zero_iff->zaU,getElem?_cons_zero->zaV,cons_append->zaW,length_eq_one_iff->zaX,pairwise_lt_range->zaY,length_replicate->zaZ,getElem?_eq_none->za1,mem_filter->za2,length_nil->za5,range_eq_range'->za8,mem_replicate->za9,map_replicate->zba,getElem?_ofFn->zbb,append_of_mem->zbc,map_set->zbe,getElem_mem->zbf,length_cons->zbh,length_set->zbi,nil_append->zbj
open Array renaming getElem?_eq_some_iff->zap,ext'->zau,getElem?_eq_none->zaz,mem_toList_iff->zaJ,getD_eq_getD_getElem?->zaL,getElem?_eq_getElem->zaT
open Nat renaming le_refl->zav,lt_of_lt_of_le->zax,le_trans->zaN,sub_self->za3,lt_or_ge->za4,ble_eq_true_of_le->za6,mul_le_mul_right->za7
open Ne renaming symm->zaQ
open Classical renaming choose_spec->za0
open Option.some renaming injEq->zbd
namespace Go.Am
section
variable {B:Nat} {E:Ex} {w0 w w':World} {G G':Gh} {N:Nat} {h h':Nat->Option av} {used:Nat->Bool}
variable {P:Program} {o:Oper} {a:Act} {σ σ':St} {Q:Exit->Act->World->Prop}
def zL (p:PB):dG->PC->PB
 |.row _,.list _ _ _ px=>{p with px:=px}
 |.nest _ k off,q=>{p with px:=p.px.set k ((p.px.getD k []).set off q)}
 |_,_=>p
open Classical in
noncomputable def vJ (G:Gh) (its:List (dG×Mode)) (qs:List PC):Gh:=
 ⟨G.Im,fun n=>if h:∃p:(dG×Mode)×PC,∃i:Nat,its[i]? =some p.1/\qs[i]? =some p.2/\p.1.1.ff=some n then zL (G.g n) h.choose.1.1 h.choose.2 else G.g n⟩
theorem aaF {its:List (dG×Mode)} {qs:List PC} (fP:(its.filterMap (·.1.ff)).Nodup) {i n:Nat} {it:dG×Mode} {q:PC} (hi:its[i]? =some it) (hq:qs[i]? =some q) (hn:it.1.ff=some n):
  (vJ G its qs).g n=zL (G.g n) it.1 q:=by
 have s6:∃p:(dG×Mode)×PC,∃i:Nat,its[i]? =some p.1/\qs[i]? =some p.2/\p.1.1.ff=some n:=⟨(it,q),i,hi,hq,hn⟩;unfold vJ;simp only
 rw[dif_pos s6];obtain⟨j,h1,h2,h3⟩:=s6.choose_spec;have kO:=NE fP h1 hi h3 hn;subst kO;rw[hi] at h1;rw[hq] at h2;injection h1 with h1;injection h2 with h2;rw[<-h1,<-h2]
theorem aaG {its:List (dG×Mode)} {qs:List PC} {n:Nat} (hn:n∉its.filterMap (·.1.ff)):(vJ G its qs).g n=G.g n:=by
 unfold vJ;simp only
 rw[dif_neg];rintro⟨p,i,h1,h2,h3⟩;exact hn (zaM.2 ⟨p.1,zac h1,h3⟩)
theorem PC.Tw {pc q:PC} (hv:q.val=pc.val) (hL:pc.jG=true):∃sz a cap xs,q=.list sz a cap xs:=by
 cases pc with
 |int k n=>cases hL
 |bool b=>cases hL
 |list sz a cap xs=>
  cases q with
  |int k n=>cases hv
  |bool b=>cases hv
  |list sz a cap xs=>exact⟨_,_,_,_,rfl⟩
theorem ZF {px:List (List PC)} (hs:jv (px.map fun e=>e.map PC.er)=true) {k j:Nat} {c:PC} (hk:At px k j c):c.jG=false:=by
 obtain⟨e,he,hj⟩:=hk;have h6:=zaf.1 hs (e.map PC.er) (by simp only[zaj];exact⟨e,zac he,rfl⟩);have h7:=zaf.1 h6 c.er (by simp only[zaj];exact⟨c,zac hj,rfl⟩);cases hL:c.jG with
 |false=>rfl
 |true=>rw[PC.abv hL] at h7;cases h7
theorem ZE {px:List (List PC)} (hs:jv (px.map fun e=>e.map PC.er)=true) (b:Nat):¬bH b px:=by
 rintro⟨k,j,c,⟨e,he,hj⟩,hc⟩;have h6:=zaf.1 hs (e.map PC.er) (by simp only[zaj];exact⟨e,zac he,rfl⟩);have h7:=zaf.1 h6 c.er (by simp only[zaj];exact⟨c,zac hj,rfl⟩);exact(Sep.n9 h7).2 b hc
theorem Yl (H:HR B E w G h used []) {n:Nat} {gr:Bool} {m md:Mode} {sz:Nat} {xs:List (List C)} (hn:h n=some (.row gr m sz xs)) (hm:m≠ .aL) (xy:md=.live->m=.live) (ni:vF md xs=true)
  {q:PC} (A:rv w' md (qz sz (G.g n)) q) {k:Nat} {az:List (List C)} (hq:q.er=.list k az):Jj w' (G.g n) (zL (G.g n) (.row n) q) gr m sz az:=by
 have hr:=H.row n gr m sz xs hn;have cO:h n≠none:=by rw[hn];simp
 obtain⟨be,a',nO,px',rfl⟩:=PC.Tw A.val rfl;obtain⟨rfl,ha,rfl,hlen,hl⟩:=A.live _ _ _ _ _ _ _ _ rfl rfl;rw[PC.fo] at hq;injection hq with _ hq;have nq:=A.sep;have ft:(∀k j c,At px' k j c->Sep c)/\(∀b o k j c,a'=some (ad b o)->At px' k j c->¬bD b c)/\kx px':=by
  cases nq with
  |list _ _ _ _ h1 h2 h3=>exact⟨h1,h2,h1,h3⟩
 have uJ:∀b,bH b px'->(G.g n).nl=false->b≠(G.g n).b:=by
  rintro b ⟨k,j,c,hk,hc⟩ bq rfl;refine ft.2.1 (G.g n).b (G.g n).o k j c ?_ hk hc;rw[ha,if_neg (by simp[bq])]
 have lC:md=.bc->jv xs=true:=by rintro rfl;exact ni
 refine⟨hm,?_,rfl,rfl,rfl,rfl,rfl,hq.symm,fun bq=>?_,fun bq=>?_,ft.2.2,fun b hb=>?_,fun eA k j pc hk hL=>?_⟩
 ·cases md with
  |aL=>cases ni
  |live=>exact .inr (xy rfl)
  |bc=>exact .inl (ZE (by rw[<-hr.er];exact lC rfl))
 ·have:=(hr.nl bq).1;rw[this] at hlen;exact zak hlen
 ·refine⟨?_,?_⟩
  ·have hg:=A.gx;rw[ha,if_neg (by simp[bq])] at hg;by_cases h0:px'=[]
   ·show ry w' _ _ _ px';rw[h0];exact⟨by simp,by rintro k j c ⟨e,he,_⟩;simp at he,by rintro k j c ⟨e,he,_⟩;simp at he⟩
   ·generalize mM:PC.list be (some (ad (G.g n).b (G.g n).o)) (G.g n).cap px'=q2 at hg;cases hg with
    |int k n=>cases mM
    |bool b=>cases mM
    |nil _ _ _ _=>injection mM with _ _ _ e4;exact absurd e4 h0
    |cons _ _ _ _ _ h1 h2 h3 h4 h5 h6=>
     injection mM with e1 e2 e3 e4;injection e2 with e2;obtain⟨e5,e6⟩:=pZ e2;subst e1 e3 e4;rw[e5,e6];exact⟨h4,h5,h6⟩
  ·show px'.length<=_;rw[hlen];exact(hr.fN bq).2.2
 ·have gQ:bD b (qz be (G.g n)):=A.sub b (by
   obtain⟨k,j,c,hk,hc⟩:=hb;exact .there _ _ _ _ k j c hk hc)
  rcases Uy (fun hq=>(hr.nl hq).1) gQ with⟨bq,he⟩|hF
  ·exact absurd he (uJ b hb bq)
  ·exact hF
 ·cases md with
  |aL=>cases ni
  |live=>exact hl rfl k j pc hk hL
  |bc=>
   have:=ZF (px:=(G.g n).px) (by rw[<-hr.er];exact lC rfl) hk;rw[hL] at this;cases this
theorem AM {α:Type} {px:List (List α)} {k off k' j':Nat} {e:List α} {q c:α} (he:px[k]? =some e) (h:At (px.set k (e.set off q)) k' j' c):(k'=k/\j'=off/\c=q)\/(At px k' j' c/\(k',j')≠(k,off)):=by
 have hk:=(zah.1 he).1;rcases K9 hk h with⟨rfl,h1⟩|⟨aE,h1⟩
 ·by_cases hj:j'=off
  ·subst hj;have hl:j'<e.length:=by have:=(zah.1 h1).1;simpa using this
   rw[zaq hl] at h1;injection h1 with h1;exact .inl ⟨rfl,rfl,h1.symm⟩
  ·rw[zaD (zaQ hj)] at h1;exact .inr ⟨⟨e,he,h1⟩,fun e=>hj (congrArg Prod.snd e)⟩
 ·exact .inr ⟨h1,fun e=>aE (congrArg Prod.fst e)⟩
theorem ahS {α:Type} {px:List (List α)} {k off k' j':Nat} {e:List α} {q c:α} (he:px[k]? =some e) (h:At px k' j' c) (aE:(k',j')≠(k,off)):At (px.set k (e.set off q)) k' j' c:=by
 obtain⟨e',h1,h2⟩:=h;by_cases hk:k'=k
 ·subst hk;rw[he] at h1;injection h1 with h1;subst h1;have hj:j'≠off:=fun e=>aE (by rw[e]);exact⟨_,zaq (zah.1 he).1,by rw[zaD (zaQ hj)];exact h2⟩
 ·exact⟨e',by rw[zaD (zaQ hk)];exact h1,h2⟩
theorem Yk (H:HR B E w G h used []) {n k off:Nat} {gr:Bool} {sz:Nat} {xs:List (List C)} (hn:h n=some (.row gr .live sz xs)) {pc:PC} (cV:At (G.g n).px k off pc) (hL:pc.jG=true)
  (uJ:(G.g n).nl=false->w'.heap[(G.g n).b]? =w.heap[(G.g n).b]?) (Sk:∀k' j' c,At (G.g n).px k' j' c->(k',j')≠(k,off)->∀b,bD b c->w'.heap[b]? =w.heap[b]?)
  {q:PC} (A:rv w' .bc pc q) {ex:List C} (s6:xs[k]? =some ex):Jj w' (G.g n) (zL (G.g n) (.nest n k off) q) gr .live sz (xs.set k (ex.set off q.er)):=by
 have hr:=H.row n gr .live sz xs hn;obtain⟨e0,nT,RT⟩:=cV;have nj:(G.g n).px.getD k []=e0:=by simp[zam,nT]
 have iH:(zL (G.g n) (.nest n k off) q).px=(G.g n).px.set k (e0.set off q):=by simp only[zL,nj]
 have alu:ex=e0.map PC.er:=by
  rw[hr.er,zag,nT] at s6;simpa using s6.symm
 have cV:At (G.g n).px k off pc:=⟨e0,nT,RT⟩;have hqL:q.jG=true:=by
  obtain⟨sz,a,cap,xs,rfl⟩:=PC.Tw A.val hL;rfl
 have bq:(G.g n).nl=false:=by
  cases hq:(G.g n).nl with
  |false=>rfl
  |true=>rw[(hr.nl hq).1] at nT;simp at nT
 obtain⟨l1,l2,l3⟩:=hr.fN bq;refine⟨by simp,.inr rfl,rfl,rfl,rfl,rfl,rfl,?_,fun h=>?_,fun _=>?_,?_,fun b hb=>?_,fun _ k' j' c dj hc=>?_⟩
 ·rw[iH,hr.er,alu,zbe,zbe]
 ·rw[bq] at h;cases h
 ·rw[iH];refine⟨⟨fun e he=>?_,fun k' j' c dj=>?_,fun k' j' c dj=>?_⟩,by rw[zbi];exact l3⟩
  ·rcases zaR he with he|rfl
   ·exact l2.1 e he
   ·rw[zbi];exact l2.1 e0 (zac nT)
  ·rw[kM (uJ bq)];rcases AM nT dj with⟨rfl,rfl,rfl⟩|⟨h1,_⟩
   ·rw[A.val];exact l2.2.1 _ _ _ cV
   ·exact l2.2.1 _ _ _ h1
  ·rcases AM nT dj with⟨rfl,rfl,rfl⟩|⟨h1,h2⟩
   ·exact A.gx
   ·exact(l2.2.2 _ _ _ h1).congr fun b hb o=>kM (Sk k' j' c h1 h2 b hb) o
 ·rw[iH];refine⟨fun k' j' c dj=>?_,fun k1 j1 c1 k2 j2 c2 b h1 h2 aE hb bB=>?_⟩
  ·rcases AM nT dj with⟨rfl,rfl,rfl⟩|⟨h1,h2⟩
   ·exact A.sep
   ·exact hr.mode.2.1 _ _ _ h1
  ·rcases AM nT h1 with⟨rfl,rfl,rfl⟩|⟨g1,n1⟩
   ·rcases AM nT h2 with⟨rfl,rfl,rfl⟩|⟨g2,n2⟩
    ·exact aE rfl
    ·exact hr.mode.2.2 _ _ _ _ _ _ b cV g2 aE (A.sub b hb) bB
   ·rcases AM nT h2 with⟨rfl,rfl,rfl⟩|⟨g2,n2⟩
    ·exact hr.mode.2.2 _ _ _ _ _ _ b g1 cV aE hb (A.sub b bB)
    ·exact hr.mode.2.2 _ _ _ _ _ _ b g1 g2 aE hb bB
 ·rw[iH] at hb;obtain⟨k',j',c,dj,hc⟩:=hb;rcases AM nT dj with⟨rfl,rfl,rfl⟩|⟨h1,h2⟩
  ·exact⟨_,_,_,cV,A.sub b hc⟩
  ·exact⟨_,_,_,h1,hc⟩
 ·rw[iH];by_cases he:(k',j')=(k,off)
  ·have h1:k'=k:=congrArg Prod.fst he;have h2:j'=off:=congrArg Prod.snd he;subst h1 h2;obtain⟨e1,g1,g2⟩:=dj;rw[nT] at g1;injection g1 with g1;subst g1;rw[RT] at g2;injection g2 with g2;subst g2;have hl:j'<e0.length:=(zah.1 RT).1;exact⟨q,⟨_,zaq (zah.1 nT).1,zaq hl⟩,A.val,hqL⟩
  ·exact⟨c,ahS nT dj he,rfl,hc⟩
theorem TG:∀{as:List ao} {de:List (Bool×List aj)} {vals:List Value},r7 as=some de->vals.length=as.length->(∀(j:Nat) (x:ao) (v:Value),as[j]? =some x->vals[j]? =some v->RA w G h x v)->
  vals.length=de.length/\∀(j:Nat) (x:Bool×List aj) (v:Value),de[j]? =some x->vals[j]? =some v->RV w G h x.1 x.2 v
 |[],de,vals,hx,hl,hc=>by
  simp only[r7] at hx;injection hx with hx;subst hx;exact⟨hl,by simp⟩
 |y::as,de,vals,hx,hl,hc=>by
  simp only[r7] at hx;split at hx
  ·rename_i x xs e1 e2;injection hx with hx;subst hx;match vals,hl with
   |v::vals,hl=>
    obtain⟨i1,i2⟩:=TG e2 (vals:=vals) (by simpa using hl) (fun j x v h1 h2=>hc (j+1) x v h1 h2);refine⟨by simp[i1],fun j x' v' hj hv=>?_⟩;cases j with
    |zero=>
     simp at hj hv;subst hj hv;have h0:=hc 0 y v rfl rfl;cases y with
     |one c=>
      cases c<;>simp[ao.cells?] at e1<;>subst e1<;>exact h0.resolve_left (by simp)
     |agg cs=>
      simp[ao.cells?] at e1;subst e1;exact h0
     |cf l=>simp[ao.cells?] at e1
    |succ j=>exact i2 j x' v' (by simpa using hj) (by simpa using hv)
  ·cases hx
theorem vn.jG {it:dG} {md:Mode} {pc:PC} (i:vn B E w G h it md pc):pc.jG=true:=by
 obtain⟨sz,a,cap,xs,rfl,_⟩:=i.ok.fN;rfl
def Dd (P:Program) (T:aZ):Prop:=∀f sig M,aZ.ph T.wi f=some (sig,M)->vo P f sig M
def JT (w:World) (sig:aU) (pas:List PA) (rs:List Dv) (dK:List C) (e:Ending) (w':World):Prop:=
  ∃bC:List (K×List PC),bC.map (fun p=>(p.1,p.2.map PC.er))=rs/\e=.returned (wB bC)/\(∀p∈bC,p.1≠ .ptr/\(p.1=.one->p.2.length=1))/\
   AH w' w.heap.size (bC.flatMap (·.2))/\Fr w.heap.size (yW (dX sig (pas.map (·.ps)))) w w'/\
   ∃qs:List PC,qs.map PC.er=dK/\qs.length=(dX sig (pas.map (·.ps))).length/\
    ∀(i:Nat) (x:Mode×PC) (q:PC),(dX sig (pas.map (·.ps)))[i]? =some x->qs[i]? =some q->rv w' x.1 x.2 q
theorem Zc (r:R B E w0 N σ a w G) {m:Mode} {f:FuncId} {vals vals':List Value} {sig:aU} {ns:List Nat} {ds:List Dv} {its:List (dG×Mode)} {pas:List PA} {rs:List Dv} {dK:List C} {σ2 iD:St} {ls:List (Bool×List aj)}
  (hS:∀pas,yE w sig ds vals pas->Calls P f vals'.toArray w (JT w sig pas rs dK)) (hN:∀n,o.dst=some n->n<N) (cP:(execOp a.eval o).run P w=.ok (.enter f vals'.toArray) w)
  (q1:pas.length=ds.length) (q2:vals.length=ds.length) (q3:∀(i:Nat) (d:Dv) (v:Value) (p:PA),ds[i]? =some d->vals[i]? =some v->pas[i]? =some p->wJ w d v p)
  (xC:∀p∈pas,p.k=.ptr->∃n cs,σ.h n=some (.box cs)/\(G.g n).nl=false/\p.b=(G.g n).b)
  (alO:∀(i:Nat) (p:PA) (s:List (Option Mode)),pas[i]? =some p->sig[i]? =some s->p.k=.ptr->zS s p.ps.length)
  (q5:lP B E w G σ.h its (dX sig (pas.map (·.ps)))) (q6:its.filterMap (·.1.ff)=ns) (q7:∀pc∈nF sig (pas.map (·.ps)),FO G σ.h ns pc) (fP:ns.Nodup)
  (nk:σ.pN its dK=some σ2) (xu:σ2.kG m (tw o.dst) rs=some (ls,iD)):o.wp P a w (Nx B E w0 N (iD.put o.dst (nC ls))) Q:=by
 have H:=r.hr;have vO:(its.filterMap (·.1.ff)).Nodup:=by rw[q6];exact fP
 generalize vL:dX sig (pas.map (·.ps))=fl at q5;have MY:∀(i:Nat) (x:Mode×PC),fl[i]? =some x->∃it,its[i]? =some it/\it.2=x.1/\vn B E w G σ.h it.1 x.1 x.2:=by
  intro i x hi;have cD:i<its.length:=by rw[q5.len];exact(zah.1 hi).1
  have he:its[i]? =some its[i]:=zad cD;exact⟨_,he,q5.at_ i _ x he hi⟩
 have ZJ:∀x∈fl,∃it∈its,vn B E w G σ.h it.1 x.1 x.2:=by
  intro x hx;obtain⟨i,hi⟩:=zan hx;obtain⟨it,h1,_,h2⟩:=MY i x hi;exact⟨it,zac h1,h2⟩
 have pq:∀x∈fl,∀b,bD b x.2->∃n gr m sz xs,n∈ns/\σ.h n=some (.row gr m sz xs)/\m≠ .aL/\uC G n b/\((∀b,¬bH b (G.g n).px)\/m=.live):=by
  intro x hx b hb;obtain⟨it,h1,h2⟩:=ZJ x hx;obtain⟨n,gr,m,sz,xs,e1,e2,e3,e4,e5⟩:=h2.pi H hb;exact⟨n,gr,m,sz,xs,by rw[<-q6];exact zaM.2 ⟨it,h1,e1⟩,e2,e3,e4,e5⟩
 have s6:∀b,yW fl b->(B<=b\/E b):=by
  rintro b ⟨x,hx,hb⟩;obtain⟨n,gr,m,sz,xs,_,e2,e3,e4,e5⟩:=pq x hx b hb;rcases e4 with⟨bq,rfl⟩|hF
  ·exact(H.own n (by rw[e2];simp) bq).2.1
  ·have iv:=(H.row n gr m sz xs e2).mode;cases m with
   |aL=>exact absurd rfl e3
   |bc=>exact(iv.1 b hF).2.2
   |live=>exact(iv.1 b hF).2.2
 have TI:yE w sig ds vals pas:=by
  refine⟨q2,q1,q3,fun x hx=>?_,?_,fun pc bA x hx b hb bB=>?_,fun p hp hk x hx hb=>?_,alO⟩
  ·rw[vL] at hx;obtain⟨it,_,h2⟩:=ZJ x hx;exact h2.ok
  ·rw[vL,zaS];intro i j hi hj kO b hb bB;obtain⟨it,h1,_,h2⟩:=MY i _ (zad hi);obtain⟨BO,mH,_,D2⟩:=MY j _ (zad hj);obtain⟨n,gr,m,sz,xs,e1,e2,e3,e4,e5⟩:=h2.pi H hb;obtain⟨n',cc,m',be,az,Gp,pf,QE,xd,A7⟩:=D2.pi H bB;have aE:n≠n':=by
    rintro rfl;have:=NE vO h1 mH e1 Gp;omega
   exact H.GH aE e2 pf A7 e4 xd
  ·rw[vL] at hx;obtain⟨n',cc,m',be,az,Gp,pf,QE,xd,A7⟩:=pq x hx b bB;rcases q7 pc bA b hb with hi|⟨n,gr,m,sz,xs,hn,e2,e4⟩
   ·rcases xd with⟨bq,rfl⟩|hF
    ·exact(H.own n' (by rw[pf];simp) bq).1 hi
    ·rcases A7 with A7|rfl
     ·exact A7 b hF
     ·exact((H.row n' cc .live be az pf).mode.1 b hF).1 hi
   ·have aE:n≠n':=fun e=>hn (e▸Gp);exact H.GH aE e2 pf A7 e4 xd
  ·rw[vL] at hx;obtain⟨n',cc,m',be,az,Gp,pf,QE,xd,A7⟩:=pq x hx p.b hb;obtain⟨n,cs,hn,hl,Bv⟩:=xC p hp hk;rw[Bv] at xd;have cO:σ.h n≠none:=by rw[hn];simp
   rcases xd with⟨bq,he⟩|hF
   ·refine H.inj n n' cO (by rw[pf];simp) ?_ hl bq he;rintro rfl;rw[hn] at pf;cases pf
   ·have iv:=(H.row n' cc m' be az pf).mode;cases m' with
    |aL=>exact absurd rfl QE
    |bc=>exact(H.own n cO hl).1 (iv.1 _ hF).1
    |live=>exact H.live n' cc be az pf _ hF n cO hl rfl
 unfold Oper.wp;rw[cP];refine(hS pas TI).mono fun e w' ⟨bC,p1,p2,p3,p4,p5,qs,p6,p7,p8⟩=>?_;subst p2;rw[vL] at p5 p7 p8;obtain⟨t1,t2,t3,t4⟩:=ad3 nk vO;have hSn:∀n,n∈ns->∃(i:Nat) (it:dG×Mode) (x:Mode×PC) (q:PC),its[i]? =some it/\fl[i]? =some x/\qs[i]? =some q/\dK[i]? =some q.er/\it.1.ff=some n/\vn B E w G σ.h it.1 x.1 x.2/\rv w' x.1 x.2 q:=by
  intro n hn;rw[<-q6,zaM] at hn;obtain⟨it,ze,iQ⟩:=hn;obtain⟨i,hi⟩:=zan ze;have cD:i<fl.length:=by rw[<-q5.len];exact(zah.1 hi).1
  have hx:fl[i]? =some fl[i]:=zad cD;have hq:qs[i]? =some (qs[i]'(by rw[p7];exact cD)):=zad _;exact⟨i,it,_,_,hi,hx,hq,by rw[<-p6,zag,hq];rfl,iQ,(q5.at_ i it _ hi hx).2,p8 i _ _ hx hq⟩
 have al9:∀b,b<w.heap.size->(∀n,n∈ns->¬uC G n b)->w'.heap[b]? =w.heap[b]? :=by
  intro b hb dF;refine p5.block b hb ?_;rintro⟨x,hx,GV⟩;obtain⟨n,gr,m,sz,xs,e1,e2,e3,e4,e5⟩:=pq x hx b GV;exact dF n e1 e4
 have alL:∀b,b<w.heap.size->(∀x∈fl,¬bD b x.2)->w'.heap[b]? =w.heap[b]? :=fun b hb dF=>p5.block b hb (by rintro⟨x,hx,GV⟩;exact dF x hx GV);obtain⟨wR,K,ic⟩:=H.ND (G':=vJ G its qs) (h':=σ2.h) (w':=w') (S:=fun n=>n∈ns) p5.size al9 (fun b hb=>p5.kv b hb) rfl (fun n hn=>by
  obtain⟨i,it,x,q,hi,hxi,lZ,mL,iQ,gi,GO⟩:=hSn n hn;have cV:=gi.at_;have aaU:=t4 i it q.er hi mL;rw[aaF vO hi lZ iQ];obtain⟨SZ,md⟩:=it;cases SZ with
  |nil sz=>cases iQ
  |row n'=>
   injection iQ with iQ;have iQ:n'=n:=iQ;subst iQ;obtain⟨gr,mo,sz,xs,e1,e2,e3,e4,e5⟩:=cV;obtain⟨cc,pJ,tJ,nI,az,g1,g2,g3⟩:=aaU;rw[e1] at g1;injection g1 with g1;injection g1 with a1 a2 a3 a4;subst a1 a2 a3 a4;rw[e4] at GO;exact⟨gr,mo,sz,xs,az,e1,g3,Yl H e1 e2 e3 e5 GO g2⟩
  |nest n' k off=>
   injection iQ with iQ;have iQ:n'=n:=iQ;subst iQ;obtain⟨gr,sz,xs,e1,e2,e3⟩:=cV;obtain⟨cc,pJ,tJ,nI,ex,g1,g2,g3⟩:=aaU;rw[e1] at g1;injection g1 with g1;injection g1 with a1 a2 a3 a4;subst a1 a2 a3 a4;rw[e2] at GO;have hr:=H.row n' gr .live sz xs e1;have cO:σ.h n'≠none:=by rw[e1];simp
   have aa1:∀b,uC G n' b->¬bD b x.2->w'.heap[b]? =w.heap[b]? :=by
    intro b hb vP;have cD:b<w.heap.size:=by
     rcases hb with⟨bq,rfl⟩|hF
     ·exact(H.own n' cO bq).2.2
     ·exact H.u6 e1 hF
    refine alL b cD fun y hy qN=>?_;obtain⟨j,hj⟩:=zan hy;by_cases kO:j=i
    ·subst kO;rw[hxi] at hj;injection hj with hj;subst hj;exact vP qN
    ·obtain⟨BO,mH,_,D2⟩:=MY j y hj;obtain⟨n2,DZ,m2,od,ld,f1,f2,f3,f4,f5⟩:=D2.pi H qN;have aE:n'≠n2:=by
      rintro rfl;exact kO (NE vO mH hi f1 rfl)
     exact H.GH aE e1 f2 f5 hb f4
   refine⟨gr,.live,sz,xs,_,e1,g3,Yk H e1 e3 gi.jG (fun bq=>aa1 _ (.inl ⟨bq,rfl⟩) fun hb=>?_) (fun k' j' c hk aE b hb=>aa1 b (.inr ⟨k',j',c,hk,hb⟩) fun GV=>?_) GO g2⟩
   ·exact H.live n' gr sz xs e1 _ ⟨k,off,x.2,e3,hb⟩ n' cO bq rfl
   ·exact hr.mode.2.2 _ _ _ _ _ _ b hk e3 aE hb GV) (fun n hn=>⟨t3 n (by rw[q6];exact hn),aaG (by rw[q6];exact hn)⟩)
 have HR2:HR B E w' (vJ G its qs) σ2.h σ2.used []:=by rw[t2];exact wR
 have gQ:wS B w' (vJ G its qs) σ2.h (bC.flatMap (·.2)):=by
  refine⟨p4.gx,fun pc bA b hb=>?_,?_⟩
  ·obtain⟨n1,n2⟩:=p4.new pc bA b hb;refine⟨⟨fun hi=>?_,fun q hq mM he=>?_,fun q gr mo sz xs hq d7=>?_⟩,n2,zaN r.fr.size n1⟩
   ·have:=H.jq b hi;omega
   ·obtain⟨k0,k1,k2,_⟩:=K.name q (wR.kN q hq) hq;have:=(H.own q k0 (k1.symm.trans mM)).2.2;rw[<-k2] at this;omega
   ·have bB:=ic q b d7;have Eo:=wR.kN q (by rw[hq];simp);obtain⟨k0,_⟩:=K.name q Eo (by rw[hq];simp);cases hh:σ.h q with
    |none=>exact absurd hh k0
    |some blk=>
     cases blk with
     |box cs=>
      have:q∉ns:=by
       intro hm;obtain⟨i,it,x,q',hi,hxi,lZ,mL,iQ,gi,GO⟩:=hSn q hm;have cV:=gi.at_;obtain⟨SZ,md⟩:=it;cases SZ with
       |nil sz=>cases iQ
       |row n'=>
        injection iQ with iQ;have iQ:n'=q:=iQ;subst iQ;obtain⟨gr,mo,sz,xs,e1,_⟩:=cV;rw[hh] at e1;cases e1
       |nest n' k off=>
        injection iQ with iQ;have iQ:n'=q:=iQ;subst iQ;obtain⟨gr,sz,xs,e1,_⟩:=cV;rw[hh] at e1;cases e1
      have h3:=t3 q (by rw[q6];exact this);rw[h3,hh] at hq;cases hq
     |row cc m' be az=>have:=H.u6 hh bB;omega
  ·rw[zaS];intro i j hi hj kO b hb;exact p4.qc i j _ _ b (by omega) (zad hi) (zad hj) hb
 rw[<-p1] at xu;obtain⟨G',b1,b2,b3,b4,b5,b6,b7⟩:=HR.kG HR2 xu p3 gQ;have xq:Fr B E w0 w':=by
  refine⟨p5.os.trans r.fr.os,p5.tape.trans r.fr.tape,p5.output.trans r.fr.output,zaN r.fr.size p5.size,fun b hb he=>?_,fun b hb=>?_⟩
  ·refine(p5.block b (zax hb r.fr.size) fun hx=>?_).trans (r.fr.block b hb he);rcases s6 b hx with h1|h1
   ·omega
   ·exact he h1
  ·exact(r.fr.kv b hb).trans (p5.kv b (zax hb r.fr.size))
 have K2:bW w G σ.h (fun n=>σ.used n=true) w' G' iD.h:=bW.trans (fun n hn=>by rw[t2];exact hn) K b2;have r2:R B E w0 N iD a w' G':=r.step (b6.trans t1) (fun q hq=>b7 q (by rw[t2];exact hq)) K2 b1 xq;refine⟨G',r2.put (RA.nC b3 p3 b4) ?_ hN⟩;intro q hq;match ls,hq with
 |[],hq=>obtain⟨x,hx,_⟩:=hq;simp at hx
 |[(true,cs)],hq=>obtain⟨c,hc,hq⟩:=hq;exact b5 (true,cs) (by simp) c hc q hq
 |[(false,[c])],hq=>exact b5 (false,[c]) (by simp) c (by simp) q hq
 |[(false,[])],hq=>exact absurd hq id
 |[(false,_::_::_)],hq=>exact absurd hq id
 |x::y::ls,hq=>obtain⟨x',me,c,hc,hq⟩:=hq;exact b5 x' me c hc q hq
theorem Ze (r:R B E w0 N σ a w G) {T:aZ} {m:Mode} {f:FuncId} {as:List ao} {vals vals':List Value} {σ1:St}
  (hS:∀sig M,aZ.ph T.wi f=some (sig,M)->∀ds rs dK,M ds=some (rs,dK)->∀pas,yE w sig ds vals pas->Calls P f vals'.toArray w (JT w sig pas rs dK)) (hN:∀n,o.dst=some n->n<N)
  (cP:(execOp a.eval o).run P w=.ok (.enter f vals'.toArray) w) (hl:vals.length=as.length)
  (qM:∀(j:Nat) (x:ao) (v:Value),as[j]? =some x->vals[j]? =some v->RA w G σ.h x v)
  (hx:sO T m o.dst f as σ=some σ1):o.wp P a w (Nx B E w0 N σ1) Q:=by
 have H:=r.hr;unfold sO at hx;split at hx
 ·rename_i sig M de hM GX;split at hx
  ·rename_i fP;split at hx
   ·rename_i ds its hv;split at hx
    ·rename_i rs dK nf;split at hx
     ·rename_i σ2 nk;split at hx
      ·rename_i ls iD xu;injection hx with hx;subst hx;obtain⟨xw,GR⟩:=TG GX hl qM;obtain⟨pas,q1,q2,q3,q4,q5,q6,q7⟩:=H.n8 hv xw GR;exact Zc r (fun Ub hm=>hS sig M hM ds rs dK nf Ub hm) hN cP q1 q2 q3 (fun p hp hk=>absurd hk (q4 p hp)) (fun i p s hp _ hk=>absurd hk (q4 p (zac hp))) q5 q6 q7 fP nk xu
      ·cases hx
     ·cases hx
    ·cases hx
   ·cases hx
  ·cases hx
 ·cases hx
theorem aju (r:R B E w0 N σ a w G) {T:aZ} (hT:Dd P T) {m:Mode} {f:FuncId} {as:List ao} {vals:List Value} {σ1:St} (hN:∀n,o.dst=some n->n<N)
  (cP:(execOp a.eval o).run P w=.ok (.enter f vals.toArray) w) (hl:vals.length=as.length)
  (qM:∀(j:Nat) (x:ao) (v:Value),as[j]? =some x->vals[j]? =some v->RA w G σ.h x v)
  (hx:sO T m o.dst f as σ=some σ1):o.wp P a w (Nx B E w0 N σ1) Q:=
 Ze r (fun sig M hM ds rs dK h pas hm=>hT f sig M hM ds rs dK h w vals pas hm) hN cP hl qM hx
theorem ajm (r:R B E w0 N σ a w G) {T:aZ} (hT:Dd P T) {m:Mode} {f:FuncId} {xs:Array Operand} {ms:List MO} {ts:Array TypeId} {σ1:St} (hN:∀n,o.dst=some n->n<N)
  (ho:o.op=.call {callee:=.value (.func f),args:=xs,argTypes:=ts}) (hf:cz P f=true) (hm:jB xs.toList ms=true)
  (hx:sO T m o.dst f (ms.map σ.ev) σ=some σ1):o.wp P a w (Nx B E w0 N σ1) Q:=by
 obtain⟨e1,e2⟩:=r.Ba hm;refine aju r hT (vals:=xs.toList.map a.eval) hN ?_ (by simpa using e1) e2 hx;have he:(xs.toList.map a.eval).toArray=xs.map a.eval:=by apply zau;simp
 rw[he];simp[execOp,ho,resolve,Deferred.ofValue,invoke,Act.eval,Ff hf]
theorem asg {s:List (Option Mode)} {n:Nat} (h:Ug s n=true):zS s n:=by
 rcases of_decide_eq_true h with h|⟨h1,h2⟩
 ·exact .inl h
 ·exact .inr ⟨n - 1,by omega,h2⟩
def JU (w:World) (G:Gh) (h:Nat->Option av) (k:K) (cs:List aj) (v:Value):Prop:=
 match k with
 |.one=>RV w G h false cs v
 |.agg=>RV w G h true cs v
 |.ptr=>∃n,h n=some (.box cs)/\(G.g n).nl=false/\v=.pointer (some (ad (G.g n).b (G.g n).o))
theorem arj {s:List (Option Mode)} {y:ao} {x:K×List aj} {v:Value} (hx:zN h s y=some x) (hc:RA w G h y v):JU w G h x.1 x.2 v/\(x.1=.ptr->zS s x.2.length):=by
 have gen:∀{y:ao},RA w G h y v->(∀n k z off,y≠ .one (.ptr n k z off))->(match y.cells? with|some (ag,cs)=>some (if ag=true then K.agg else .one,cs)|none=>none)=some x->JU w G h x.1 x.2 v/\(x.1=.ptr->zS s x.2.length):=by
  intro y hc aE hx;cases hy:y.cells? with
  |none=>rw[hy] at hx;cases hx
  |some z=>
   obtain⟨ag,cs⟩:=z;rw[hy] at hx;injection hx with hx;subst hx;cases y with
   |one c=>
    cases c<;>simp[ao.cells?] at hy<;>obtain⟨rfl,rfl⟩:=hy<;>exact⟨hc.resolve_left (by simp),by intro e;cases e⟩
   |agg cs'=>
    simp[ao.cells?] at hy;obtain⟨rfl,rfl⟩:=hy;exact⟨hc,by intro e;cases e⟩
   |cf l=>simp[ao.cells?] at hy
 by_cases hp:∃n k z off,y=.one (.ptr n k z off)
 ·obtain⟨n,k,z,off,rfl⟩:=hp;simp only[zN] at hx;split at hx
  ·rename_i cs hn;split at hx
   ·rename_i dP;obtain⟨rfl,rfl,hs⟩:=dP;injection hx with hx;subst hx;have h1:RC w G h (.ptr n 0 z 0) v:=((hc.resolve_left (by simp)).2 0 _ v rfl rfl).2;obtain⟨q1,q2⟩:=h1 (by rw[hn];simp);exact⟨⟨n,hn,q1,by simpa using q2⟩,fun _=>asg hs⟩
   ·cases hx
  ·cases hx
 ·have aE:∀n k z off,y≠ .one (.ptr n k z off):=fun n k z off e=>hp ⟨n,k,z,off,e⟩;refine gen hc aE ?_;unfold zN at hx;split at hx
  ·rename_i n k z off;exact absurd rfl (aE n k z off)
  ·exact hx
theorem adA:∀{as:List ao} {sig:aU} {de:List (K×List aj)} {vals:List Value},zO h sig as=some de->vals.length=as.length->(∀(j:Nat) (x:ao) (v:Value),as[j]? =some x->vals[j]? =some v->RA w G h x v)->
  vals.length=de.length/\(∀(j:Nat) (x:K×List aj) (v:Value),de[j]? =some x->vals[j]? =some v->JU w G h x.1 x.2 v)/\∀(j:Nat) (x:K×List aj) (s:List (Option Mode)),de[j]? =some x->sig[j]? =some s->x.1=.ptr->zS s x.2.length
 |[],sig,de,vals,hx,hl,hc=>by
  simp only[zO] at hx;injection hx with hx;subst hx;exact⟨hl,by simp,by simp⟩
 |y::as,sig,de,vals,hx,hl,hc=>by
  simp only[zO] at hx;split at hx
  ·rename_i x xs e1 e2;injection hx with hx;subst hx;match vals,hl with
   |v::vals,hl=>
    obtain⟨i1,i2,i3⟩:=adA e2 (vals:=vals) (by simpa using hl) (fun j x v h1 h2=>hc (j+1) x v h1 h2);obtain⟨p1,p2⟩:=arj e1 (hc 0 y v rfl rfl);refine⟨by simp[i1],fun j x' v' hj hv=>?_,fun j x' s hj hs=>?_⟩
    ·cases j with
     |zero=>simp at hj hv;subst hj hv;exact p1
     |succ j=>exact i2 j x' v' (by simpa using hj) (by simpa using hv)
    ·cases sig with
     |nil=>simp at hs
     |cons s0 sig=>
      cases j with
      |zero=>simp at hj hs;subst hj hs;exact p2
      |succ j=>exact i3 j x' s (by simpa using hj) (show sig[j]? =some s by simpa using hs)
  ·cases hx
theorem HR.tB (H:HR B E w G h used []) {ns:List Nat}:∀{as:List (K×List aj)} {sig:aU} {ds:List Dv} {its:List (dG×Mode)} {vals:List Value},Am.tB h (fu h ns) sig as=some (ds,its)->vals.length=as.length->
  (∀(j:Nat) (x:K×List aj) (v:Value),as[j]? =some x->vals[j]? =some v->JU w G h x.1 x.2 v)->
  ∃pas:List PA,pas.length=ds.length/\vals.length=ds.length/\(∀(i:Nat) (d:Dv) (v:Value) (p:PA),ds[i]? =some d->vals[i]? =some v->pas[i]? =some p->wJ w d v p)/\
   (∀p∈pas,p.k=.ptr->∃n cs,h n=some (.box cs)/\(G.g n).nl=false/\p.b=(G.g n).b)/\
   (∀(i:Nat) (p:PA),pas[i]? =some p->∃x,as[i]? =some x/\p.k=x.1/\p.ps.length=x.2.length)/\
   lP B E w G h its (dX sig (pas.map (·.ps)))/\its.filterMap (·.1.ff)=zR sig as/\∀pc∈nF sig (pas.map (·.ps)),FO G h ns pc
 |[],sig,ds,its,vals,hx,hl,hc=>by
  simp only[Am.tB] at hx;injection hx with hx;injection hx with h1 h2;subst h1 h2;refine⟨[],rfl,by simpa using hl,by simp,by simp,by simp,?_,?_,?_⟩
  ·cases sig<;>exact lP.nil
  ·cases sig<;>rfl
  ·cases sig<;>simp[nF]
 |(k,cs)::as,sig,ds,its,vals,hx,hl,hc=>by
  simp only[Am.tB] at hx;split at hx
  ·rename_i xs HC vC HD e1 e2;injection hx with hx;injection hx with h1 h2;subst h1 h2;match vals,hl with
   |v::vals,hl=>
    have h0:=hc 0 (k,cs) v rfl rfl;obtain⟨q1,q2,q3,q4,q5,q5',q6,q7⟩:=H.tB e2 (as:=as) (vals:=vals) (by simpa using hl) (fun j x v h1 h2=>hc (j+1) x v h1 h2);have cI:∃(vs:List Value) (b o:Nat),dT w G h cs vs/\(∀ps:List PC,ps.map PC.val=vs->(∀pc∈ps,Good w pc)->wJ w (k,ps.map PC.er) v ⟨k,ps,b,o⟩)/\
      (k=.ptr->∃n cs,h n=some (.box cs)/\(G.g n).nl=false/\b=(G.g n).b):=by
     cases k with
     |one=>exact⟨[v],0,0,h0,fun ps hp hg=>⟨rfl,hg,hp⟩,by intro e;cases e⟩
     |agg=>
      obtain⟨vs,e,hR⟩:∃vs:List Value,v=.agg vs.toArray/\dT w G h cs vs:=h0;exact⟨vs,0,0,hR,fun ps hp hg=>⟨rfl,hg,show v=.agg (ps.map PC.val).toArray by rw[hp];exact e⟩,by intro e;cases e⟩
     |ptr=>
      obtain⟨n,hn,bq,hv⟩:∃n,h n=some (.box cs)/\(G.g n).nl=false/\v=.pointer (some (ad (G.g n).b (G.g n).o)):=h0;obtain⟨b1,b2,b3⟩:=H.box n cs hn;have kk:∀j,j<cs.length->∃u,w.cell? (ad (G.g n).b ((G.g n).o+j))=some u/\∀c,cs[j]? =some c->u.oneCell'=true/\RC w G h c u:=by
       intro j hj;have gf:cs[j]? =some (cs[j]'hj):=zad hj;obtain⟨u,u1,u2,u3⟩:=b3 j _ gf;refine⟨u,u1,fun c iu=>?_⟩;rw[gf] at iu;injection iu with iu;subst iu;exact⟨u2,u3⟩
      obtain⟨vs,l1,l2⟩:=QK _ cs.length kk;refine⟨vs,(G.g n).b,(G.g n).o,⟨l1,fun j c u iu hu=>(l2 j u hu).2 c iu⟩,fun ps hp hg=>⟨rfl,hg,hv,b2.lt,fun j c hj=>?_⟩,fun _=>⟨n,cs,hn,bq,rfl⟩⟩;refine(l2 j c.val ?_).1;rw[<-hp,zag,hj];rfl
    obtain⟨vs,b,o,hR,hA,hB⟩:=cI;obtain⟨ps,p1,p2,p3,p4,p5,p6⟩:=H.kT e1 hR;have jk:ps.length=cs.length:=by
     have:(ps.map PC.val).length=cs.length:=by rw[p2];exact hR.1
     simpa using this
    refine⟨⟨k,ps,b,o⟩::q1,by simp[q2],by simp[q3],fun i d v' p hd hv hp=>?_,fun p hp hk=>?_,fun i p hp=>?_,?_,?_,?_⟩
    ·cases i with
     |zero=>
      simp at hd hv hp;subst hd hv hp;have:=hA ps p2 p3;rw[p1] at this;exact this
     |succ i=>exact q4 i d v' p (by simpa using hd) (by simpa using hv) (by simpa using hp)
    ·cases hp with
     |head=>exact hB hk
     |tail _ hp=>exact q5 p hp hk
    ·cases i with
     |zero=>simp at hp;subst hp;exact⟨(k,cs),rfl,rfl,jk⟩
     |succ i=>exact q5' i p (by simpa using hp)
    ·cases sig with
     |nil=>
      have e3:fF (aU.hd ([]:aU)) ps=[]:=rfl;rw[e3] at p4;have e4:HC=[]:=zak p4.len;subst e4;have e5:dX (aU.tl ([]:aU)) (q1.map (·.ps))=[]:=rfl;rw[e5] at q6;have e6:HD=[]:=zak q6.len;subst e6;exact lP.nil
     |cons s sig=>exact lP.append p4 q6
    ·cases sig with
     |nil=>
      have e3:fF (aU.hd ([]:aU)) ps=[]:=rfl;rw[e3] at p4;have e4:HC=[]:=zak p4.len;subst e4;have e5:dX (aU.tl ([]:aU)) (q1.map (·.ps))=[]:=rfl;rw[e5] at q6;have e6:HD=[]:=zak q6.len;subst e6;rfl
     |cons s sig=>
      rw[List.filterMap_append,p5,q7.1];rfl
    ·intro pc bA;cases sig with
     |nil=>
      simp only[zaK,nF,List.flatten_cons,zae] at bA;rcases bA with bA|bA
      ·exact p6 pc bA
      ·exact q7.2 pc (by simpa[nF,aU.tl] using bA)
     |cons s sig=>
      simp only[zaK,nF,zae] at bA;rcases bA with bA|bA
      ·exact p6 pc bA
      ·exact q7.2 pc bA
  ·cases hx
theorem ajv (r:R B E w0 N σ a w G) {T:aZ} (hT:Dd P T) {m:Mode} {f:FuncId} {as:List ao} {vals:List Value} {σ1:St} (hN:∀n,o.dst=some n->n<N)
  (cP:(execOp a.eval o).run P w=.ok (.enter f vals.toArray) w) (hl:vals.length=as.length)
  (qM:∀(j:Nat) (x:ao) (v:Value),as[j]? =some x->vals[j]? =some v->RA w G σ.h x v)
  (hx:w9 T m o.dst f as σ=some σ1):o.wp P a w (Nx B E w0 N σ1) Q:=by
 have H:=r.hr;unfold w9 at hx;split at hx
 ·rename_i sig M hM;split at hx
  ·rename_i de GX;split at hx
   ·rename_i fP;split at hx
    ·rename_i ds its hv;split at hx
     ·rename_i rs dK nf;split at hx
      ·rename_i σ2 nk;split at hx
       ·rename_i ls iD xu;injection hx with hx;subst hx;obtain⟨xw,GR,gA⟩:=adA GX hl qM;obtain⟨pas,q1,q2,q3,q4,q4',q5,q6,q7⟩:=H.tB hv xw GR;refine Zc r (fun Ub hm=>hT f sig M hM ds rs dK nf w vals Ub hm) hN cP q1 q2 q3 q4 (fun i p s hp hs hk=>?_) q5 q6 q7 fP nk xu;obtain⟨x,hx,e1,e2⟩:=q4' i p hp;rw[e2];exact gA i x s hx hs (e1.symm.trans hk)
       ·cases hx
      ·cases hx
     ·cases hx
    ·cases hx
   ·cases hx
  ·cases hx
 ·cases hx
theorem ajn (r:R B E w0 N σ a w G) {T:aZ} (hT:Dd P T) {m:Mode} {f:FuncId} {x:Operand} {mx:MO} {c9:List aj} {xs:Array Operand} {ms:List MO} {ts:Array TypeId} {σ1:St} (hN:∀n,o.dst=some n->n<N)
  (ho:o.op=.call {callee:=.value x,args:=xs,argTypes:=ts}) (hf:cz P f=true) (R7:cQ x mx=true) (hm:jB xs.toList ms=true) (he:σ.ev mx=.one (.fn f c9))
  (hx:w9 T m o.dst f (ms.map σ.ev++c9.map .one) σ=some σ1):o.wp P a w (Nx B E w0 N σ1) Q:=by
 obtain⟨e1,e2⟩:=r.Ba hm;obtain⟨x1,x2⟩:=r.ev R7;rw[he] at x1;obtain⟨vs,v1,v2,v3⟩:=(x1.iV (by simp)).1;refine ajv r hT (vals:=xs.toList.map a.eval++vs) hN ?_ (by simp[e1,v2]) (fun j y v hj hv=>?_) hx
 ·have uH:(xs.toList.map a.eval++vs).toArray=xs.map a.eval++vs.toArray:=by apply zau;simp
  rw[uH];simp[execOp,ho,resolve,v1,Deferred.ofValue,invoke,Ff hf]
 ·have Gp:xs.size=ms.length:=by simpa using e1
  by_cases cD:j<ms.length
  ·rw[zaF (by simpa using cD)] at hj;rw[zaF (by simp;omega)] at hv;exact e2 j y v hj hv
  ·rw[zao (by simp;omega)] at hj;rw[zao (by simp;omega)] at hv;simp only[zaA,<-e1] at hj hv;rw[zag] at hj;simp only[e1] at hj hv;cases hc:c9[j - ms.length]? with
   |none=>rw[hc] at hj;cases hj
   |some c=>
    rw[hc] at hj;simp at hj;subst hj;obtain⟨q1,q2⟩:=v3 _ c v hc hv;refine RA.il q1 ?_;by_cases GY:c.nZ=false
    ·rw[yF _ _ _ _ _ GY];exact q2
    ·cases c<;>first|exact q2.elim|(simp[aj.nZ] at GY)
end
section
variable {B:Nat} {E:Ex} {w0 w w':World} {G G':Gh} {h h':Nat->Option av} {used used':Nat->Bool} {tk:List PC} {N:Nat}
variable {P:Program} {o:Oper} {a:Act} {σ σ':St} {Q:Exit->Act->World->Prop}
def x4 (tmps:Array Value):ResultVar->Sem Value
 |.tmp t=>pure (tmps.getD t undef)
 |.cell a t=>do loadVar t (<-asAddr (tmps.getD a undef))
def E0:List Value->Value
 |[u]=>u
 |l=>.tuple l.toArray
theorem N7 (fn:Func) (tmps:Array Value) {us:List Value} (h:(fn.results.toList.mapM (x4 tmps)).run P w=.ok us w):
  (results fn tmps).run P w=.ok (E0 us) w:=by
 unfold results;generalize fn.results=A at h⊢;obtain⟨l,rfl⟩:∃l:List ResultVar,A=l.toArray:=⟨A.toList,by simp⟩;have h2:((l.toArray.mapM (x4 tmps)).run P w)=.ok us.toArray w:=by
  rw[List.mapM_toArray];simp at h;simp[h]
 show Sem.run P (l.toArray.mapM (x4 tmps)>>=fun vs=>pure (if h:vs.size=1 then vs[0] else Value.tuple vs)) w=_
 generalize l.toArray.mapM (x4 tmps)=s at h2⊢;match us with
 |[]=>simp[E0,h2]
 |[u]=>simp[E0,h2]
 |u::v::us=>simp[E0,h2]
end
section
variable {B:Nat} {E:Ex} {w0 w w':World} {G G':Gh} {N:Nat} {h h':Nat->Option av} {used:Nat->Bool}
variable {P:Program} {o:Oper} {a:Act} {σ σ':St} {Q:Exit->Act->World->Prop}
theorem auM {n k aR off sz len:Nat} {x:C} (hx:dq h (.ct n k aR off sz len)=some x):∃gr xs,h n=some (.row gr .live aR xs)/\(xs[k]?).bind (·[off]?)=some x:=by
 simp only[Am.dq] at hx;split at hx
 ·rename_i gr rs xs hn;split at hx
  ·rename_i hc;subst hc;exact⟨gr,xs,hn,hx⟩
  ·cases hx
 ·cases hx
theorem HR.ads (H:HR B E w G h used []) {n k off aR:Nat} {gr:Bool} {xs:List (List C)} (hn:h n=some (.row gr .live aR xs)) {pc:PC} (cV:At (G.g n).px k off pc):
  (G.g n).nl=false/\Good w pc/\(xs[k]?).bind (·[off]?)=some pc.er:=by
 have hr:=H.row n gr .live aR xs hn;have bq:(G.g n).nl=false:=by
  cases hq:(G.g n).nl with
  |false=>rfl
  |true=>obtain⟨e,he,_⟩:=cV;rw[(hr.nl hq).1] at he;simp at he
 refine⟨bq,(hr.fN bq).2.1.2.2 _ _ _ cV,?_⟩;obtain⟨e,he,hj⟩:=cV;rw[hr.er];simp[he,hj]
theorem ajz (r:R B E w0 N σ a w G) {t e:TypeId} {i:TypeInfo} {x y:Operand} {mx my:MO} {n k aR off sz be len:Nat} {q:Int} {ys:List (List C)} (ho:o.op=.indexAddr t x y) (hN:∀n,o.dst=some n->n<N) (oI:cQ x mx=true) (oJ:cQ y my=true)
  (ht:P.underlying t=some (.slice e)) (hi:P.info? e=some i) (cX:i.size=sz) (hq:(σ.ev my).eV=some q) (h0:0<=q) (h1:q<(ys.length:Int))
  (hx:σ.ev mx=.one (.ct n k aR off be len)) (hv:dq σ.h (.ct n k aR off be len)=some (.list sz ys)):
  o.wp P a w (Nx B E w0 N (σ.put o.dst (.one (.dY n k aR off sz q.toNat)))) Q:=by
 obtain⟨x1,x2⟩:=r.ev oI;obtain⟨kk,ey⟩:=(r.ev oJ).1.int hq;rw[hx] at x1 x2;obtain⟨gr,xs,hn,hb⟩:=auM hv;obtain⟨pc,p1,p2,p3⟩:=(x1.iV (by simp)).1 gr xs hn;obtain⟨g1,g2,g3⟩:=r.hr.ads hn p1;rw[hb] at g3;injection g3 with g3;cases pc with
 |int k n=>simp[PC.er] at g3
 |bool b=>simp[PC.er] at g3
 |list s' ya c py=>
  rw[PC.fo] at g3;injection g3 with e1 e2;subst e1;have hl:ys.length=py.length:=by rw[e2];simp
  have gj:q<(py.length:Int):=by omega
  have uL:PC.val (.list sz ya c py)=.slice ya py.length c:=rfl;generalize xr:PC.list sz ya c py=p at g2;cases g2 with
  |int k n=>cases xr
  |bool b=>cases xr
  |nil _ _ _ _=>injection xr with _ _ _ e4;subst e4;simp at gj;omega
  |cons _ b oo _ _ q1 q2 q3 q4 q5 q6=>
   injection xr with f1 f2 f3 f4;subst f1 f2 f3 f4;refine j9 r (v:=.pointer (some (ad b (oo+q.toNat*sz)))) ?_ ?_ (fun m hm=>x2 m hm) hN
   ·simp only[execOp,ho,<-p2,PC.val,ey];simp[VG ht hi cX h0 gj]
   ·refine RA.il rfl fun cc az bU=>?_;exact⟨_,b,oo,py.length,c,p1,rfl,rfl,rfl⟩
theorem YL:∀{vs:List aj} {cs:List C} {us:List Value},nQ vs=some cs->dT w G h vs us->∃pe:List PC,pe.map PC.er=cs/\pe.map PC.val=us/\pe.length=vs.length/\∀c∈pe,c.er.gK=true
 |[],cs,us,hx,hr=>by
  simp only[nQ] at hx;injection hx with hx;subst hx;have:us=[]:=zak hr.1;subst this;exact⟨[],rfl,rfl,rfl,by simp⟩
 |c::vs,cs,us,hx,hr=>by
  match us,hr with
  |[],hr=>exact absurd hr.1 (by simp)
  |u::us,hr=>
  cases c with
  |c x=>
   simp only[nQ] at hx;split at hx
   ·rename_i hs;cases hd:nQ vs with
    |none=>rw[hd] at hx;cases hx
    |some l=>
     rw[hd] at hx;injection hx with hx;subst hx;obtain⟨pe,e1,e2,e3,e4⟩:=YL (us:=us) hd ⟨by have:=hr.1;simpa using this,fun j c u hj hu=>hr.2 (j+1) c u (by simpa using hj) (by simpa using hu)⟩;obtain⟨_,pc,q1,q2,_⟩:=hr.2 0 _ u rfl rfl;refine⟨pc::pe,by simp[e1,q1],by simp[e2,q2],by simp[e3],fun c hc=>?_⟩;rcases zaC.1 hc with rfl|hc
     ·rw[q1];exact hs
     ·exact e4 c hc
   ·cases hx
  |nil _=>simp[nQ] at hx
  |ptr _ _ _ _=>simp[nQ] at hx
  |dr _ _=>simp[nQ] at hx
  |cN _ _ _ _ _ _=>simp[nQ] at hx
  |sl _ _ _ _=>simp[nQ] at hx
  |ct _ _ _ _ _ _=>simp[nQ] at hx
  |dY _ _ _ _ _ _=>simp[nQ] at hx
  |fn _ _=>simp[nQ] at hx
  |cd=>simp[nQ] at hx
theorem Good.n9 {c:PC} (hs:c.er.gK=true):Good w c:=by
 cases c with
 |int k n=>exact .int k n
 |bool b=>exact .bool b
 |list s a cap xs=>rw[PC.fo] at hs;cases hs
theorem ajK (r:R B E w0 N σ a w G) {t:TypeId} {i:TypeInfo} {x y:Operand} {mx my:MO} {sz n k rs off s j:Nat} {ag gr:Bool} {xs az:List (List C)} {vs:List aj} (ho:o.op=.store t x y) (hd:o.dst=none) (oI:cQ x mx=true) (oJ:cQ y my=true)
  (hi:P.info? t=some i) (cX:i.size=sz) (mb:0<sz) (hp:σ.ev mx=.one (.dY n k rs off s j)) (hv:(σ.ev my).cells?=some (ag,vs)) (hl:vs.length=sz) (hn:σ.h n=some (.row gr .live rs xs))
  (hx:yb xs k off s j vs=some az):o.wp P a w (Nx B E w0 N (σ.fx n (.row gr .live rs az))) Q:=by
 have H:=r.hr;obtain⟨x1,_⟩:=r.ev oI;obtain⟨y1,y2⟩:=r.ev oJ;rw[hp] at x1;obtain⟨pc,b,oo,len,cap,p1,p2,p3,p4⟩:=(x1.iV (by simp)).1 gr xs hn;obtain⟨bq,g2,g3⟩:=H.ads hn p1;have hr:=H.row n gr .live rs xs hn;unfold yb at hx;rw[g3] at hx;have cY:=y1.cells hv;have Hm:(a.eval y).cells.toList.length=sz:=by rw[cY.1,hl]
 cases pc with
 |int kk nn=>simp[PC.er] at hx
 |bool bb=>simp[PC.er] at hx
 |list s' ya c py=>
 rw[PC.fo] at hx;simp only at hx;split at hx
 ·rename_i dP;obtain⟨rfl,kR,hj,vS⟩:=dP;cases RE:nQ vs with
  |none=>rw[RE] at hx;cases hx
  |some cs=>
  rw[RE] at hx;injection hx with hx;obtain⟨pe,e1,e2,e3,e4⟩:=YL RE cY;have hj:j<py.length:=by simpa using hj
  have MB:pe.length=s':=by omega
  have Ho:PC.val (.list s' ya c py)=.slice ya py.length c:=rfl;rw[Ho] at p2;injection p2 with f1 f2 f3;subst f1 f2 f3;generalize xr:PC.list s' (some (ad b oo)) c py=p at g2;cases g2 with
  |int k n=>cases xr
  |bool b=>cases xr
  |nil _ _ _ _=>injection xr with _ _ _ e4;subst e4;simp at hj
  |cons _ b' oo' _ _ q1 q2 q3 q4 q5 q6=>
  injection xr with f1 f2 f3 f4;injection f2 with f2;obtain⟨rfl,rfl⟩:=pZ f2;subst f1 f3 f4;have gQ:bD b (PC.list s' (some (ad b oo)) c py):=.here _ _ _ _ q1;have hF:bH b (G.g n).px:=⟨k,off,_,p1,gQ⟩;obtain⟨avb,⟨cur,et,hg⟩,hBE⟩:=hr.mode.1 b hF;have kc:oo+j*s'+(a.eval y).cells.toList.length<=cur.size:=by
   have h2:(py[j]'hj).length=s':=q4 _ (zbf hj);have hc:=q5 j (s' - 1) ((py[j]'hj)[s' - 1]'(by omega)) ⟨_,zad hj,zad _⟩;have:=Lj hg hc;omega
  have lC:∀k' j' c',At (py.set j pe) k' j' c'->c'.er.gK=true:=by
   intro k' j' c' h;rcases K9 hj h with⟨rfl,h1⟩|⟨_,h1⟩
   ·exact e4 c' (zac h1)
   ·obtain⟨e,he,kD⟩:=h1;have h6:=zaf.1 vS (e.map PC.er) (by simp only[zaj];exact⟨e,zac he,rfl⟩);exact zaf.1 h6 c'.er (by simp only[zaj];exact⟨c',zac kD,rfl⟩)
  have aE:py.set j pe≠[]:=by
   intro h;have:=congrArg List.length h;simp at this;rw[this] at hj;simp at hj
  have qg:∀e∈py.set j pe,e.length=s':=by
   intro e he;rcases zaR he with he|rfl
   ·exact q4 e he
   ·exact MB
  generalize pz:iZ w b (oo+j*s') (a.eval y).cells.toList cur=w';have A:rv w' .bc (PC.list s' (some (ad b oo)) c py) (PC.list s' (some (ad b oo)) c (py.set j pe)):=by
   refine⟨by simp[PC.val],.cons _ _ _ _ _ aE (by simpa using q2) q3 qg (fun k' j' c' h=>?_) (fun k' j' c' h=>Good.n9 (lC k' j' c' h)),.list _ _ _ _ (fun k' j' c' h=>(Sep.n9 (lC k' j' c' h)).1) (fun b' o' k' j' c' _ h=>(Sep.n9 (lC k' j' c' h)).2 b')
    (fun k1 j1 c1 k2 j2 c2 b' h _ _ hb=>absurd hb ((Sep.n9 (lC k1 j1 c1 h)).2 b')),fun b' bB=>?_,?_,fun vb a0 Lg nI rm a1 rC tZ h1 h2=>?_⟩
   ·have pt:j'<s':=by
     obtain⟨e,he,kD⟩:=h;have:=qg e (zac he);have:=(zah.1 kD).1;omega
    rw[<-pz,Je hg kc];rcases K9 hj h with⟨rfl,h1⟩|⟨qh,h1⟩
    ·rw[if_pos (by omega),show oo+k'*s'+j' - (oo+k'*s')=j' by omega,<-e2,zag,h1];rfl
    ·rw[if_neg]
     ·exact q5 _ _ _ h1
     ·rintro⟨u1,u2⟩;rcases Nat.lt_or_gt_of_ne qh with cD|Bo
      ·have:(k'+1)*s'<=j*s':=za7 _ cD;rw[Nat.add_mul] at this;omega
      ·have:(j+1)*s'<=k'*s':=za7 _ Bo;rw[Nat.add_mul] at this;omega
   ·rw[bD.nA] at bB⊢;rcases bB with⟨_,h2⟩|⟨k',j',c',h1,h2⟩
    ·exact .inl ⟨q1,h2⟩
    ·exact absurd h2 ((Sep.n9 (lC k' j' c' h1)).2 b')
   ·rw[PC.fo];show jv _=true;rw[jv,zaf];intro e he;obtain⟨e0,nT,rfl⟩:=zaj.1 he;rw[g8,zaf];intro c0 gf;obtain⟨c1,GW,rfl⟩:=zaj.1 gf;obtain⟨k',dj⟩:=zan nT;obtain⟨j',kD⟩:=zan GW;exact lC k' j' c1 ⟨e0,dj,kD⟩
   ·injection h1 with a1 a2 a3 a4;injection h2 with b1 b2 b3 b4;subst a1 a2 a3 a4 b1 b2 b3 b4;exact⟨rfl,rfl,rfl,by simp,fun h=>by cases h⟩
  have fu:∀b',b'≠b->w'.heap[b']? =w.heap[b']? :=fun b' bB=>by rw[<-pz];exact FK b' bB
  have oH:∀b',Cz w w' b':=fun b'=>by
   by_cases hb:b'=b
   ·subst hb;rw[<-pz];exact Jf hg kc
   ·exact Cz.of_eq (fu b' hb)
  have xF:w.heap.size<=w'.heap.size:=by rw[<-pz,vg];exact zav _
  have cO:σ.h n≠none:=by rw[hn];simp
  have hbn:(G.g n).b≠b:=fun h=>H.live n gr rs xs hn b hF n cO bq h.symm;obtain⟨ex,s6⟩:∃ex,xs[k]? =some ex:=by
   cases h:xs[k]? with
   |none=>rw[h] at g3;cases g3
   |some ex=>exact⟨ex,rfl⟩
  have ama:az=xs.set k (ex.set off (PC.list s' (some (ad b oo)) c (py.set j pe)).er):=by
   rw[<-hx,PC.fo,zbe,e1,zam,s6];rfl
  have Rz:=Yk H hn p1 rfl (fun _=>fu _ hbn) (fun k' j' c' h1 h2 b' bB=>fu b' (by rintro rfl;exact hr.mode.2.2 _ _ _ _ _ _ b' h1 p1 h2 bB gQ)) A s6;obtain⟨wR,K,_⟩:=H.ND (G':=⟨G.Im,aQ G.g n (zL (G.g n) (.nest n k off) (PC.list s' (some (ad b oo)) c (py.set j pe)))⟩) (h':=aQ σ.h n (some (.row gr .live rs az))) (w':=w') (S:=fun m=>m=n) xF
   (fun b' bB dF=>fu b' (by rintro rfl;exact dF n rfl (.inr hF))) (fun b' _=>oH b') rfl
   (fun m hm=>by subst hm;exact⟨gr,.live,rs,xs,az,hn,cJ _ _ _,by simp only[cJ];rw[ama];exact Rz⟩)
   (fun m hm=>⟨dA _ _ _ _ hm,dA _ _ _ _ hm⟩)
  have r':=r.step (σ':=σ.fx n (.row gr .live rs az)) rfl (fun _ h=>h) K wR (r.fr.one hBE (fun b' _ aE=>fu b' aE) xF (oH b) (by rw[<-pz];rfl) (by rw[<-pz];rfl) (by rw[<-pz];rfl));have cP:=VI (P:=P) (w:=w) (t:=t) (i:=i) (b:=b) (off:=oo+j*s') (v:=a.eval y) (cur:=cur) (e:=et) hi (by rw[cX,<-Hm];simp) hg (by simpa using kc) (fun u hu=>by
   obtain⟨j,hj,Hc⟩:=List.getElem_of_mem hu;have xv:j<vs.length:=by omega
   exact(cY.2 j _ u (zad xv) (by rw[zad hj,Hc])).1)
  refine W8 (w':=w') ?_ ⟨_,by rw[hd];exact r'⟩;rw[<-pz];simp only[execOp,ho,p4];simp[Instr.storeAt,Instr.sureAddr,cP]
 ·cases hx
end
section
variable {B:Nat} {E:Ex} {w0 w w':World} {G G':Gh} {N:Nat} {h h':Nat->Option av} {used:Nat->Bool}
variable {P:Program} {o:Oper} {a:Act} {σ σ':St} {Q:Exit->Act->World->Prop}
theorem R.akT (r:R B E w0 N σ a w G) {n:Nat} {gr:Bool} {m:Mode} {xs:List (List C)} (hn:σ.h n=some (.row gr m 1 xs)) (hm:m≠ .aL) (hs:jv xs=true) (bq:(G.g n).nl=false) {lo:Nat} {pe:List PC}
  (rT:∀c∈pe,c.er.gK=true) (kc:lo+pe.length<=xs.length) {cur:Array Value} {et:TypeId} (hg:w.heap[(G.g n).b]? =some (.cells cur et (0,0))) (qO:(G.g n).o+lo+pe.length<=cur.size):
  ∃G',R B E w0 N (σ.fx n (.row gr m 1 (dz xs lo (pe.map fun c=>[c.er])))) a (iZ w (G.g n).b ((G.g n).o+lo) (pe.map PC.val) cur) G':=by
 have H:=r.hr;have hr:=H.row n gr m 1 xs hn;have cO:σ.h n≠none:=by rw[hn];simp
 obtain⟨xA,vQ,xB⟩:=H.own n cO bq;obtain⟨l1,l2,l3⟩:=hr.fN bq;have qW:xs.length=(G.g n).px.length:=by rw[hr.er,zaA]
 have nW:=hs;rw[hr.er] at nW;have xp:=hr.er;generalize iH:(G.g n).px=px at*
 have RN:lo+(pe.map fun c=>[c]).length<=px.length:=by rw[zaA];omega
 have oK:(pe.map PC.val).length=pe.length:=zaA _;have aaM:(G.g n).o+lo+(pe.map PC.val).length<=cur.size:=by rw[oK];exact qO
 have cI:∀k j c,At (dz px lo (pe.map fun c=>[c])) k j c->j=0/\((lo<=k/\k<lo+pe.length/\pe[k - lo]? =some c)\/(¬(lo<=k/\k<lo+pe.length)/\At px k j c)):=by
  rintro k j c ⟨e,he,hj⟩;rw[Ad RN,zaA] at he;by_cases gQ:lo<=k/\k<lo+pe.length
  ·rw[if_pos gQ,zag] at he;cases hp:pe[k - lo]? with
   |none=>rw[hp] at he;cases he
   |some c0=>
    rw[hp] at he;injection he with he;subst he;cases j with
    |zero=>simp at hj;subst hj;exact⟨rfl,.inl ⟨gQ.1,gQ.2,rfl⟩⟩
    |succ j=>simp at hj
  ·rw[if_neg gQ] at he;have qg:=l2.1 e (zac he);have:=(zah.1 hj).1;exact⟨by omega,.inr ⟨gQ,e,he,hj⟩⟩
 have lC:∀k j c,At (dz px lo (pe.map fun c=>[c])) k j c->c.er.gK=true:=by
  intro k j c hk;rcases(cI k j c hk).2 with⟨_,_,h1⟩|⟨_,e,he,hj⟩
  ·exact rT c (zac h1)
  ·have h6:=zaf.1 nW (e.map PC.er) (by simp only[zaj];exact⟨e,zac he,rfl⟩);exact zaf.1 h6 c.er (by simp only[zaj];exact⟨c,zac hj,rfl⟩)
 generalize pz:iZ w (G.g n).b ((G.g n).o+lo) (pe.map PC.val) cur=w';have fu:∀b',b'≠(G.g n).b->w'.heap[b']? =w.heap[b']? :=fun b' bB=>by rw[<-pz];exact FK b' bB
 have oH:∀b',Cz w w' b':=fun b'=>by
  by_cases hb:b'=(G.g n).b
  ·subst hb;rw[<-pz];exact Jf hg aaM
  ·exact Cz.of_eq (fu b' hb)
 have xF:w.heap.size<=w'.heap.size:=by rw[<-pz,vg];exact zav _
 have Rz:Jj w' (G.g n) {G.g n with px:=dz px lo (pe.map fun c=>[c])} gr m 1 (dz xs lo (pe.map fun c=>[c.er])):=by
  refine⟨hm,.inl (by rw[iH];exact ZE nW),rfl,rfl,rfl,rfl,rfl,?_,(fun h=>by rw[bq] at h;cases h),fun _=>⟨⟨fun e he=>?_,fun k j c hk=>?_,fun k j c hk=>Good.n9 (lC k j c hk)⟩,by show(dz px lo _).length<=_;rw[Ox RN];exact l3⟩,
   ⟨fun k j c hk=>(Sep.n9 (lC k j c hk)).1,fun k j c k' j' c' b hk _ _ hb=>absurd hb ((Sep.n9 (lC k j c hk)).2 b)⟩,fun b ⟨k,j,c,hk,hb⟩=>absurd hb ((Sep.n9 (lC k j c hk)).2 b),fun _ k j pc hk hL=>?_⟩
  ·show dz xs lo _=(dz px lo _).map _;rw[Fu,<-xp,zaO];rfl
  ·obtain⟨k,hk⟩:=zan he;have dj:(dz px lo (pe.map fun c=>[c]))[k]? =some e:=hk;rw[Ad RN] at dj;split at dj
   ·rw[zag] at dj;cases hp:pe[k - lo]? with
    |none=>rw[hp] at dj;cases dj
    |some c0=>rw[hp] at dj;injection dj with dj;rw[<-dj];rfl
   ·exact l2.1 e (zac dj)
  ·obtain⟨rfl,h1⟩:=cI k j c hk;rw[<-pz,Je hg aaM];rcases h1 with⟨h1,h2,h3⟩|⟨h1,h2⟩
   ·rw[if_pos (by rw[oK];omega),show(G.g n).o+k*1+0 - ((G.g n).o+lo)=k - lo by omega,zag,h3];rfl
   ·rw[if_neg (by rw[oK];omega)];exact l2.2.1 _ _ _ h2
  ·rw[iH] at hk;have:=ZF nW hk;rw[hL] at this;cases this
 obtain⟨wR,K,_⟩:=H.ND (G':=⟨G.Im,aQ G.g n {G.g n with px:=dz px lo (pe.map fun c=>[c])}⟩) (h':=aQ σ.h n (some (.row gr m 1 (dz xs lo (pe.map fun c=>[c.er]))))) (w':=w') (S:=fun q=>q=n) xF
  (fun b' bB dF=>fu b' (by rintro rfl;exact dF n rfl (.inl ⟨bq,rfl⟩))) (fun b' _=>oH b') rfl
  (fun q hq=>by subst hq;exact⟨gr,m,1,xs,_,hn,cJ _ _ _,by simp only[cJ];exact Rz⟩)
  (fun q hq=>⟨dA _ _ _ _ hq,dA _ _ _ _ hq⟩)
 exact⟨_,r.step (σ':=σ.fx n (.row gr m 1 (dz xs lo (pe.map fun c=>[c.er])))) rfl (fun _ h=>h) K wR (r.fr.one vQ (fun b' _ aE=>fu b' aE) xF (oH _) (by rw[<-pz];rfl) (by rw[<-pz];rfl) (by rw[<-pz];rfl))⟩
end
section
variable {B:Nat} {E:Ex} {w0 w w':World} {G G':Gh} {N:Nat} {h h':Nat->Option av} {used:Nat->Bool}
variable {P:Program} {o:Oper} {a:Act} {σ σ':St} {Q:Exit->Act->World->Prop}
theorem atw {n:Nat} {b:av} (hn:σ.h n=some b):σ.fx n b=σ:=by
 unfold St.fx;rw[<-hn,I9]
theorem atW {α:Type} (xs:List α) (lo:Nat) (h:lo<=xs.length):dz xs lo []=xs:=by simp[dz]
theorem au0 (z0:Value) (n:Nat):(Builtin.zeroCells #[z0] n).toList=List.replicate n z0:=by
 unfold Builtin.zeroCells;simp;rw[List.eq_replicate_iff];refine⟨by simp,fun b hb=>?_⟩;obtain⟨i,_,rfl⟩:=zaj.1 hb;simp[Nat.mod_one]
theorem as7 {t ty e:TypeId} (ht:P.underlying t=some (.slice e)) (ya:Option Addr) (c:Nat):
  (Builtin.clear_ #[t] ty #[.slice ya 0 c]).run P w=.ok (.tuple #[]) w:=by
 cases ya<;>simp[Builtin.clear_,run_underlying ht]
theorem as6 {t ty e e':TypeId} {i:TypeInfo} {z z0:Value} (ht:P.underlying t=some (.slice e)) (hi:P.info? e=some i) (hz:i.zero=some z) (xK:z.cells=#[z0]) (h1:z0.oneCell'=true) (g og n c:Nat) (hn:0<n) (cur:Array Value) (hg:w.heap[g]? =some (.cells cur e' (0,0)))
  (kc:og+n<=cur.size):(Builtin.clear_ #[t] ty #[.slice (some (ad g og)) n c]).run P w=.ok (.tuple #[]) (iZ w g og (List.replicate n z0) cur):=by
 have kQ:=run_storeCells_at P g og e' (List.replicate n z0) 0 cur w hg (by simpa using kc) (fun v hv=>by rw[(za9.1 hv).2];exact h1);simp only[Nat.add_zero] at kQ;obtain⟨n,rfl⟩:∃k,n=k+1:=⟨n - 1,by omega⟩;simp[Builtin.clear_,run_underlying ht,typeInfo,zeroValue,hi,hz,xK,au0,ad,kQ,iZ]
theorem ajq (r:R B E w0 N σ a w G) {t e:TypeId} {i:TypeInfo} {z:Value} {x:Operand} {mx:MO} {n lo len:Nat} {zc:C} {xs:List (List C)} {gr:Bool} {m:Mode} (ho:o.op=.call {callee:=.builtin .clear,args:=#[x],argTypes:=#[t]}) (hN:∀n,o.dst=some n->n<N)
  (oI:cQ x mx=true) (ht:P.underlying t=some (.slice e)) (hi:P.info? e=some i) (hz:i.zero=some z) (hc:w5 z.cells.toList [zc]=true) (Bz:zc.gK=true) (hx:σ.ev mx=.one (.sl n 1 lo len)) (hn:σ.h n=some (.row gr m 1 xs))
  (hm:m≠ .aL) (hs:jv xs=true) (kc:lo+len<=xs.length):
  o.wp P a w (Nx B E w0 N ((σ.fx n (.row gr m 1 (dz xs lo (List.replicate len [zc])))).put o.dst (.cf []))) Q:=by
 have H:=r.hr;obtain⟨x1,_⟩:=r.ev oI;rw[hx] at x1;have kF:lm (G.g n) 1 lo len (a.eval x):=(x1.iV (by simp)).1 (by rw[hn];simp);have hr:=H.row n gr m 1 xs hn;obtain⟨b1,b2,b3⟩:=Qq (w:=w) hc;have GN:∀w G' h',RA w G' h' (.cf []) (.tuple #[]):=fun w G' h'=>⟨[],rfl,rfl,by simp⟩;have xK:z.cells=#[(ou zc).val]:=by
  apply zau;rw[<-b2];rfl
 rcases Nat.eq_zero_or_pos len with rfl|hlen
 ·have RH:∃ya' c,a.eval x=.slice ya' 0 c:=by
   rcases kF with⟨bq,hv,_,_⟩|⟨bq,a',hv,_,_⟩
   ·exact⟨_,_,hv⟩
   ·exact⟨_,_,hv⟩
  obtain⟨ya',c,RH⟩:=RH;rw[show dz xs lo (List.replicate 0 [zc])=xs from atW _ _ (by omega),atw hn]
  refine j9 r (v:=.tuple #[]) ?_ (GN _ _ _) (fun q hq=>?_) hN
  ·simp only[execOp,ho];simp[resolve,invoke,builtin,RH,as7 ht]
  ·obtain⟨x,hx,_⟩:=hq;simp at hx
 ·rcases kF with⟨_,_,_,rfl⟩|⟨bq,a',mN,kC,ha⟩
  ·omega
  have y8:=ha (.inl (by omega));subst y8;obtain⟨⟨cur,et,hg⟩,l2,l3⟩:=hr.fN bq;have qW:xs.length=(G.g n).px.length:=by rw[hr.er,zaA]
  have qO:(G.g n).o+lo+len<=cur.size:=by
   have h1:lo+len - 1<(G.g n).px.length:=by omega
   have h2:((G.g n).px[lo+len - 1]'h1).length=1:=l2.1 _ (zbf h1);have hc:=l2.2.1 (lo+len - 1) 0 (((G.g n).px[lo+len - 1]'h1)[0]'(by omega)) ⟨_,zad h1,zad _⟩;have:=Lj hg hc;omega
  have xp:(ou zc).er=zc:=by simpa using b1
  obtain⟨G',r'⟩:=r.akT hn hm hs bq (lo:=lo) (pe:=List.replicate len (ou zc)) (fun c hc=>by rw[(za9.1 hc).2,xp];exact Bz) (by rw[zaZ];exact kc) hg (by rw[zaZ];exact qO);rw[zba,zba,xp] at r';have cP:=as6 (P:=P) (w:=w) (ty:=o.type) ht hi hz xK (PC.nG _) (G.g n).b ((G.g n).o+lo) len ((G.g n).cap - lo) hlen cur hg qO;refine Ao (w':=iZ w (G.g n).b ((G.g n).o+lo) (List.replicate len (ou zc).val) cur) (v:=.tuple #[]) ?_ ⟨G',r'.put (GN _ _ _) (fun q hq=>by obtain⟨x,hx,_⟩:=hq;simp at hx) hN⟩;rw[Nat.mul_one] at mN;simp only[execOp,ho];simp[resolve,invoke,builtin,mN,cP]
end
structure PP (w:World) (ds:List Dv) (vals:List Value) (pas:List PA):Prop where
 l1:vals.length=ds.length
 l2:pas.length=ds.length
 at_:∀(i:Nat) (d:Dv) (v:Value) (p:PA),ds[i]? =some d->vals[i]? =some v->pas[i]? =some p->wJ w d v p
 kv:∀p∈pas,p.k=.ptr->fy w p.b/\∀q∈pas,∀pc∈q.ps,¬bD p.b pc
 one:∀(i j:Nat) (p q:PA),pas[i]? =some p->pas[j]? =some q->p.k=.ptr->q.k=.ptr->i=j
def Df (w:World) (pas:List PA) (b:Nat):Prop:=w.heap.size<=b\/∃q∈pas,∃pc∈q.ps,bD b pc
def Zb (pas:List PA):Ex:=⟨fun b=>∃p∈pas,p.k=.ptr/\b=p.b,fun _=>none,fun _ _ h=>(by cases h),fun _=>True⟩
def Ci (p:PA):Value:=
 match p.k with
 |.one=>match p.ps with
  |[pc]=>pc.val
  |_=>.agg (p.ps.map PC.val).toArray
 |.agg=>.agg (p.ps.map PC.val).toArray
 |.ptr=>.pointer (some (ad p.b p.o))
def Cj:List PA->Value
 |[p]=>Ci p
 |l=>.tuple (l.map Ci).toArray
def JR (w:World) (b o:Nat) (ps:List PC):Prop:=∀(j:Nat) (c:PC),ps[j]? =some c->w.cell? (ad b (o+j))=some c.val
structure PO (w w':World) (pas bC:List PA) (qs:List PC):Prop where
 one:∀p∈bC,p.k=.one->p.ps.length=1
 ptr:∀p∈bC,p.k=.ptr->bC.length=1/\w.heap.size<=p.b/\fy w' p.b/\JR w' p.b p.o p.ps/\(∀pc∈p.ps,¬bD p.b pc)/\∀pc∈qs,¬bD p.b pc
 gx:∀p∈bC,∀pc∈p.ps,Good w' pc/\∀b,bD b pc->Df w pas b
 fr:Fr w.heap.size (Zb pas) w w'
 out:∀pc∈qs,Good w' pc/\∀b,bD b pc->Df w pas b
 at_:∀p∈pas,p.k=.ptr->JR w' p.b p.o qs
def nK (P:Program) (f:FuncId) (M:List Dv->Option (List Dv×List C)):Prop:=
 ∀ds rs out,M ds=some (rs,out)->∀(w:World) (vals:List Value) (pas:List PA),PP w ds vals pas->Calls P f vals.toArray w fun e w'=>
  ∃(bC:List PA) (qs:List PC),bC.map (fun p=>(p.k,p.ps.map PC.er))=rs/\e=.returned (Cj bC)/\qs.map PC.er=out/\PO w w' pas bC qs
def De (P:Program) (T:aZ):Prop:=∀f M,aZ.nc T.vs f=some M->nK P f M
section
variable {B:Nat} {E:Ex} {w0 w w':World} {G G':Gh} {N:Nat} {h h':Nat->Option av} {used used':Nat->Bool} {tk:List PC}
variable {P:Program} {o:Oper} {a:Act} {σ σ':St} {Q:Exit->Act->World->Prop}
theorem HR.qZ {c:aj} {x:C} {v:Value} (hx:Am.qZ c=some x) (hc:RC w G h c v):∃pc:PC,pc.er=x/\pc.val=v/\Good w pc/\∀b,bD b pc->G.Im b:=by
 cases c with
 |c y=>
  simp only[Am.qZ] at hx;injection hx with hx;subst hx;exact hc
 |nil sz=>
  simp only[Am.qZ] at hx;split at hx
  ·rename_i ft;injection hx with hx;subst hx;have dO:v=.slice none 0 0:=hc;subst dO;refine⟨.list sz none 0 [],by simp[PC.fo],rfl,.nil _ _ _ ft,fun b hb=>?_⟩;rw[bD.nA] at hb;rcases hb with⟨hb,_⟩|⟨k,j,c,⟨e,he,_⟩,_⟩
   ·exact absurd rfl hb
   ·simp at he
  ·cases hx
 |_=>simp[Am.qZ] at hx
theorem HR.mh:∀{cs:List aj} {xs:List C} {vs:List Value},Am.mh cs=some xs->dT w G h cs vs->∃ps:List PC,ps.map PC.er=xs/\ps.map PC.val=vs/\∀pc∈ps,Good w pc/\∀b,bD b pc->G.Im b
 |[],xs,vs,hx,hc=>by
  simp only[Am.mh] at hx;injection hx with hx;subst hx;have:vs=[]:=zak (by simpa using hc.1);subst this;exact⟨[],rfl,rfl,by simp⟩
 |c::cs,xs,vs,hx,hc=>by
  simp only[Am.mh] at hx;split at hx
  ·rename_i x az e1 e2;injection hx with hx;subst hx;match vs,hc.1 with
   |v::vs,hl=>
    obtain⟨pc,a1,a2,a3,a4⟩:=HR.qZ e1 (hc.2 0 c v rfl rfl).2;obtain⟨ps,b1,b2,b3⟩:=HR.mh (vs:=vs) e2 ⟨by simpa using hl,fun j c u h1 h2=>hc.2 (j+1) c u h1 h2⟩;refine⟨pc::ps,by simp[a1,b1],by simp[a2,b2],fun q hq=>?_⟩;cases hq with
    |head=>exact⟨a3,a4⟩
    |tail _ hq=>exact b3 q hq
  ·cases hx
theorem HR.Lf (H:HR B E w G h used tk) {n:Nat} {cs:List aj} (hn:h n=some (.box cs)):∃vs:List Value,dT w G h cs vs/\∀(j:Nat) (v:Value),vs[j]? =some v->w.cell? (ad (G.g n).b ((G.g n).o+j))=some v:=by
 obtain⟨_,_,a3⟩:=H.box n cs hn;have hj:∀j:Fin cs.length,∃v,w.cell? (ad (G.g n).b ((G.g n).o+j.1))=some v/\v.oneCell'=true/\RC w G h cs[j.1] v:=fun j=>a3 j.1 _ (zad j.2);refine⟨List.ofFn fun j=>Classical.choose (hj j),⟨by simp,fun j c u hc hu=>?_⟩,fun j v hv=>?_⟩
 ·obtain⟨hl,e⟩:=zah.1 hc;rw[zbb,dif_pos hl] at hu;injection hu with hu;subst hu e;exact(za0 (hj ⟨j,hl⟩)).2
 ·by_cases hl:j<cs.length
  ·rw[zbb,dif_pos hl] at hv;injection hv with hv;subst hv;exact(za0 (hj ⟨j,hl⟩)).1
  ·rw[za1 (by simp;omega)] at hv;cases hv
theorem auq {σ1:St} {c:aj} {x:C} {o:Bool} (hx:σ.io c=some (x,o,σ1)) {n:Nat} {cs:List aj} (hn:σ.h n=some (.box cs)):σ1.h n=some (.box cs):=by
 cases c with
 |c y=>simp only[St.io] at hx;injection hx with hx;injection hx with _ hx;injection hx with _ hx;subst hx;exact hn
 |nil sz=>
  simp only[St.io] at hx;split at hx
  ·injection hx with hx;injection hx with _ hx;injection hx with _ hx;subst hx;exact hn
  ·cases hx
 |sl q sz lo len=>
  simp only[St.io] at hx;split at hx
  ·rename_i gr m rs xs hq;split at hx
   ·injection hx with hx;injection hx with _ hx;injection hx with _ hx;subst hx;have aE:n≠q:=by rintro rfl;rw[hq] at hn;cases hn
    show aQ σ.h q none n=_;rw[dA _ _ _ _ aE];exact hn
   ·cases hx
  ·cases hx
 |_=>simp[St.io] at hx
theorem WO:∀{l:List aj} {σ σ1:St} {xs:List C} {o:Bool},σ.gY l=some (xs,o,σ1)->∀{n:Nat} {cs:List aj},σ.h n=some (.box cs)->σ1.h n=some (.box cs)
 |[],σ,σ1,xs,o,hx,n,cs,hn=>by simp only[St.gY] at hx;injection hx with hx;injection hx with _ hx;injection hx with _ hx;subst hx;exact hn
 |c::l,σ,σ2,xs,o,hx,n,cs,hn=>by
  simp only[St.gY] at hx;split at hx
  ·rename_i x o1 σ1 e1;split at hx
   ·rename_i az o2 Xb e2;injection hx with hx;injection hx with _ hx;injection hx with _ hx;subst hx;exact WO e2 (auq e1 hn)
   ·cases hx
  ·cases hx
theorem P4:∀{as:List ao} {σ σ1:St} {ds:List Dv} {ns:List Nat},σ.jS as=some (ds,ns,σ1)->∀{n:Nat} {cs:List aj},σ.h n=some (.box cs)->σ1.h n=some (.box cs)
 |[],σ,σ1,ds,ns,hx,n,cs,hn=>by simp only[St.jS] at hx;injection hx with hx;injection hx with _ hx;injection hx with _ hx;subst hx;exact hn
 |v::as,σ,σ2,ds,ns,hx,n,cs,hn=>by
  simp only[St.jS] at hx;split at hx
  ·split at hx
   ·rename_i e;injection hx with hx;injection hx with _ hx;injection hx with _ hx;subst hx;exact P4 e hn
   ·cases hx
  ·split at hx
   ·split at hx
    ·rename_i e1;split at hx
     ·rename_i e2;injection hx with hx;injection hx with _ hx;injection hx with _ hx;subst hx;exact P4 e2 (WO e1 hn)
     ·cases hx
    ·cases hx
   ·cases hx
def oD (pas:List PA):List PA:=pas.filter fun p=>decide (p.k=.ptr)
def Xe (G:Gh) (h:Nat->Option av) (p:PA) (n:Nat):Prop:=∃cs,h n=some (.box cs)/\p.b=(G.g n).b/\p.o=(G.g n).o/\p.ps.length=cs.length
theorem P7 {v:ao} {n:Nat} {xs:List C} (hx:oB h v=some (n,xs)):∃sz cs,v=.one (.ptr n 0 sz 0)/\h n=some (.box cs)/\mh cs=some xs:=by
 unfold oB at hx;split at hx
 ·rename_i q k sz off;split at hx
  ·rename_i hc;obtain⟨rfl,rfl⟩:=hc;split at hx
   ·rename_i cs hq;split at hx
    ·rename_i ys e;injection hx with hx;injection hx with h1 h2;subst h1 h2;exact⟨sz,cs,rfl,hq,e⟩
    ·cases hx
   ·cases hx
  ·cases hx
 ·cases hx
theorem HR.jS:∀{as:List ao} {vals:List Value} {σ σ1:St} {G:Gh} {ds:List Dv} {ns:List Nat},HR B E w G σ.h σ.used []->σ.jS as=some (ds,ns,σ1)->vals.length=as.length->
  (∀(j:Nat) (x:ao) (v:Value),as[j]? =some x->vals[j]? =some v->RA w G σ.h x v)->(∀x∈as,∀m,x.ref m->σ.used m=true)->
  ∃(Im':Nat->Prop) (pas:List PA),pas.length=ds.length/\vals.length=ds.length/\(∀(i:Nat) (d:Dv) (v:Value) (p:PA),ds[i]? =some d->vals[i]? =some v->pas[i]? =some p->wJ w d v p)/\
   (∀p∈pas,∀pc∈p.ps,∀b,bD b pc->Im' b)/\(oD pas).length=ns.length/\(∀(i:Nat) (p:PA) (n:Nat),(oD pas)[i]? =some p->ns[i]? =some n->Xe G σ1.h p n)/\
   HR B E w ⟨Im',G.g⟩ σ1.h σ1.used []/\bW w G σ.h (fun n=>σ.used n=true) w ⟨Im',G.g⟩ σ1.h/\σ1.env=σ.env/\σ1.used=σ.used
 |[],vals,σ,σ1,G,ds,ns,H,hx,hl,hc,hr=>by
  simp only[St.jS] at hx;injection hx with hx;injection hx with h1 h2;injection h2 with h2 h3;subst h1 h2 h3;exact⟨G.Im,[],rfl,by simpa using hl,by simp,by simp,rfl,by simp[oD],H,bW.refl _ _ _ _,rfl,rfl⟩
 |x::as,vals,σ,σ2,G,ds,ns,H,hx,hl,hc,hr=>by
  match vals,hl with
  |v::vals,hl=>
   simp only[St.jS] at hx;split at hx
   ·rename_i n xs hp;split at hx
    ·rename_i vC mS σ1 e;injection hx with hx;injection hx with h1 h2;injection h2 with h2 h3;subst h1 h2 h3;obtain⟨sz,cs,rfl,hn,s8⟩:=P7 hp;obtain⟨nl,un,_⟩:=H.box n cs hn;obtain⟨vs,v1,v2⟩:=H.Lf hn;obtain⟨ps,p1,p2,p3⟩:=HR.mh s8 v1;have hv:v=.pointer (some (ad (G.g n).b (G.g n).o)):=by
      have h0:=hc 0 _ v rfl rfl;rcases h0 with h0|h0
      ·cases h0
      ·have h1:RC w G σ.h (.ptr n 0 sz 0) v:=(h0.2 0 _ v rfl rfl).2;simpa using(h1 (by rw[hn];simp)).2
     obtain⟨Im',pas,b1,b2,b3,b4,b5,b6,b7,b8,b9,m4⟩:=HR.jS (as:=as) (vals:=vals) H e (by simpa using hl) (fun j x v h1 h2=>hc (j+1) x v h1 h2) (fun x hx=>hr x (by simp[hx]));have hk:(Am.K.ptr=Am.K.ptr)=True:=by simp
     refine⟨Im',⟨.ptr,ps,(G.g n).b,(G.g n).o⟩::pas,by simp[b1],by simp[b2],fun i d u p hd hu iR=>?_,fun p iR pc bA b hb=>?_,by simp[oD];exact b5,fun i p m hi hm=>?_,b7,b8,b9,m4⟩
     ·cases i with
      |zero=>
       simp at hd hu iR;subst hd hu iR;refine⟨by rw[p1],fun pc bA=>(p3 pc bA).1,hv,un.lt,fun j c hj=>v2 j _ ?_⟩;rw[<-p2,zag,hj];rfl
      |succ i=>exact b3 i d u p (by simpa using hd) (by simpa using hu) (by simpa using iR)
     ·cases iR with
      |head=>exact b8.im b ((p3 pc bA).2 b hb)
      |tail _ iR=>exact b4 p iR pc bA b hb
     ·cases i with
      |zero=>
       simp[oD] at hi hm;subst hi hm;refine⟨cs,P4 e hn,rfl,rfl,?_⟩;have h1:ps.length=vs.length:=by rw[<-p2];simp
       exact h1.trans v1.1
      |succ i=>exact b6 i p m (by simpa[oD] using hi) (by simpa using hm)
    ·cases hx
   ·split at hx
    ·rename_i ag cs gz;split at hx
     ·rename_i xs o σ1 e1;split at hx
      ·rename_i vC mS Xb e2;injection hx with hx;injection hx with h1 h2;injection h2 with h2 h3;subst h1 h2 h3;have h0:=hc 0 x v rfl rfl;have np:∃vs:List Value,(if ag=true then v=.agg vs.toArray else vs=[v])/\dT w G σ.h cs vs:=by
        cases x with
        |one c=>
         have Mo:ag=false/\cs=[c]:=by cases c<;>simp[ao.cells?] at gz<;>exact⟨gz.1,gz.2.symm⟩
         obtain⟨rfl,rfl⟩:=Mo;rcases h0 with h0|h0
         ·subst h0;simp[ao.cells?] at gz
         ·exact⟨[v],rfl,h0⟩
        |agg cs'=>
         simp[ao.cells?] at gz;obtain⟨rfl,rfl⟩:=gz;obtain⟨vs,e,h1⟩:∃vs:List Value,v=.agg vs.toArray/\dT w G σ.h cs' vs:=h0;exact⟨vs,e,h1⟩
        |cf xs=>simp[ao.cells?] at gz
       obtain⟨vs,kR,cY⟩:=np;obtain⟨AB,cu,a1,a2,a3,a5,a6,a7,a8,a9⟩:=H.gY e1 cY (fun c' dO m hm=>hr x (by simp) m (ao.AP gz dO hm));have yJ:HR B E w ⟨AB,G.g⟩ σ1.h σ.used []:=by
        cases o with
        |true=>exact HR.Ak (tk:=[]) (l:=cu) (by simpa using a5)
        |false=>simpa using a5
       rw[<-a8] at yJ;obtain⟨FT,pas,b1,b2,b3,b4,b5,b6,b7,b8,b9,m4⟩:=HR.jS (as:=as) (vals:=vals) (G:=⟨AB,G.g⟩) yJ e2 (by simpa using hl)
        (fun j x v h1 h2=>(hc (j+1) x v h1 h2).keep a6 (fun m hm=>hr x (by simp[zac h1]) m hm)) (fun x' me m hm=>by rw[a8];exact hr x' (by simp[me]) m hm)
       refine⟨FT,⟨if ag=true then .agg else .one,cu,0,0⟩::pas,by simp[b1],by simp[b2],fun i d u p hd hu iR=>?_,fun p iR pc bA b hb=>?_,?_,fun i p m hi hm=>?_,b7,
        bW.trans (fun n hn=>by rw[a8];exact hn) a6 b8,b9.trans a7,m4.trans a8⟩
       ·cases i with
        |zero=>
         simp at hd hu iR;subst hd hu iR;cases ag with
         |true=>exact⟨by simp[a1],fun pc bA=>(a3 pc bA).1,by simp only[if_true] at kR⊢;rw[a2];exact kR⟩
         |false=>exact⟨by simp[a1],fun pc bA=>(a3 pc bA).1,by simp only[zaP,if_false] at kR⊢;rw[a2];exact kR⟩
        |succ i=>exact b3 i d u p (by simpa using hd) (by simpa using hu) (by simpa using iR)
       ·cases iR with
        |head=>exact b8.im b ((a3 pc bA).2 b hb)
        |tail _ iR=>exact b4 p iR pc bA b hb
       ·cases ag<;>simp[oD]<;>exact b5
       ·refine b6 i p m ?_ hm;cases ag<;>simpa[oD] using hi
      ·cases hx
     ·cases hx
    ·cases hx
theorem HR.Yc (H:HR B E w G h used []) {n:Nat} {cs cs':List aj} (hn:h n=some (.box cs)) (cX:w.heap.size<=w'.heap.size) (hw:∀b,b<w.heap.size->b≠(G.g n).b->w'.heap[b]? =w.heap[b]?)
  (oH:∀b,b<w.heap.size->Cz w w' b) {S:Nat->Prop} (hS:∀b,S b->w.heap.size<=b/\b<w'.heap.size/\B<=b) {ps:List PC} (gA:cs'=ps.map fun pc=>aj.c pc.er)
  (cV:∀(j:Nat) (c:PC),ps[j]? =some c->w'.cell? (ad (G.g n).b ((G.g n).o+j))=some c.val) (iG:∀pc∈ps,Good w' pc/\∀b,bD b pc->G.Im b\/S b):
  HR B E w' ⟨fun b=>G.Im b\/S b,G.g⟩ (aQ h n (some (.box cs'))) used []/\bW w G h (fun n=>used n=true) w' ⟨fun b=>G.Im b\/S b,G.g⟩ (aQ h n (some (.box cs'))):=by
 subst gA;have cO:h n≠none:=by rw[hn];simp
 obtain⟨bq,vU,jg⟩:=H.box n cs hn;obtain⟨xA,vQ,xB⟩:=H.own n cO bq;have zm:=H.kN n cO;have kp:∀Lw:List aj,bW w G h (fun n=>used n=true) w' G (aQ h n (some (.box Lw))):=by
  intro Lw;refine⟨fun _ h=>h,fun b hb x=>kM (hw b (H.jq b hb) (fun he=>xA (he▸hb))) x,fun m hm h0=>?_,fun m gr sz xs hm h0=>?_⟩
  ·by_cases cG:m=n
   ·subst cG;exact⟨cO,rfl,rfl,rfl,rfl,rfl⟩
   ·rw[dA _ _ _ _ cG] at h0;exact⟨h0,rfl,rfl,rfl,rfl,rfl⟩
  ·by_cases cG:m=n
   ·subst cG;rw[cJ] at h0;cases h0
   ·rw[dA _ _ _ _ cG] at h0;exact⟨⟨gr,xs,h0⟩,fun k j pc h1 h2=>⟨pc,h1,rfl,h2⟩⟩
 have hG:(⟨G.Im,aQ G.g n (G.g n)⟩:Gh)=G:=by rw[I9]
 have H1:HR B E w' ⟨G.Im,aQ G.g n (G.g n)⟩ (aQ h n (some (.box []))) used []:=by
  refine H.put (fun b hb aE=>hw b hb (aE bq)) cX (fun b hb hU=>(oH b hb).kv hU) (fun _ h=>h) zm (fun _=>⟨xA,vQ,zax xB cX⟩)
   (fun _ m hm h0 qS=>(H.inj m n h0 cO hm qS bq)) (fun _ m gr sz xs hm h0 b hb=>H.live m gr sz xs h0 b hb n cO bq) ?_ (by rw[hG];exact kp []) ?_
   (fun gr m sz xs hb=>by cases hb) (fun gr sz xs hb=>by cases hb) (fun gr m sz xs hb=>by cases hb) ?_
  ·intro Lw c m hb hc hm;injection hb with hb;subst hb;cases hc
  ·exact⟨bq,(oH _ xB).kv vU,fun j c hj=>by simp at hj⟩
  ·intro _ _ b hb;obtain⟨m,gr,mo,sz,xs,hm,h0,d7⟩:=hb;exact H.y4 cO bq h0 d7
 rw[hG] at H1;have Sk:∀m,aQ h n (some (av.box [])) m≠none->h m≠none:=fun m hm=>by
  by_cases cG:m=n
  ·subst cG;exact cO
  ·rwa[dA _ _ _ _ cG] at hm
 have H2:HR B E w' ⟨fun b=>G.Im b\/S b,G.g⟩ (aQ h n (some (.box []))) used []:=H1.v8 S (fun b hb=>(hS b hb).2.1) (fun b hb q hq hl he=>by have:=(hS b hb).1;have:=(H.own q (Sk q hq) hl).2.2;omega)
  (fun b hb q gr sz xs hq hF=>by
   by_cases ib:q=n
   ·subst ib;rw[cJ] at hq;cases hq
   ·rw[dA _ _ _ _ ib] at hq;have:=(hS b hb).1;have:=H.u6 hq hF;omega) (fun b hb=>.inl (hS b hb).2.2)
 have hn2:aQ h n (some (av.box [])) n=some (.box []):=cJ _ _ _;have He:aQ h n (some (av.box [])) n≠none:=by rw[hn2];simp
 have huu:aQ (aQ h n (some (av.box []))) n (some (.box (ps.map fun pc=>aj.c pc.er)))=aQ h n (some (.box (ps.map fun pc=>aj.c pc.er))):=by
  funext m;simp only[lc];split<;>rfl
 have hG2:(⟨fun b=>G.Im b\/S b,aQ G.g n (G.g n)⟩:Gh)=⟨fun b=>G.Im b\/S b,G.g⟩:=by rw[I9]
 have K2:bW w' ⟨fun b=>G.Im b\/S b,G.g⟩ (aQ h n (some (av.box []))) (fun n=>used n=true) w' ⟨fun b=>G.Im b\/S b,G.g⟩ (aQ h n (some (.box (ps.map fun pc=>aj.c pc.er)))):=by
  refine⟨fun _ h=>h,fun _ _ _=>rfl,fun m hm h0=>?_,fun m gr sz xs hm h0=>?_⟩
  ·refine⟨?_,rfl,rfl,rfl,rfl,rfl⟩;by_cases cG:m=n
   ·subst cG;exact He
   ·rw[dA _ _ _ _ cG] at h0⊢;exact h0
  ·by_cases cG:m=n
   ·subst cG;rw[cJ] at h0;cases h0
   ·rw[dA _ _ _ _ cG] at h0;exact⟨⟨gr,xs,by rw[dA _ _ _ _ cG];exact h0⟩,fun k j pc h1 h2=>⟨pc,h1,rfl,h2⟩⟩
 have H3:HR B E w' ⟨fun b=>G.Im b\/S b,aQ G.g n (G.g n)⟩ (aQ (aQ h n (some (av.box []))) n (some (.box (ps.map fun pc=>aj.c pc.er)))) used []:=by
  refine H2.put (w':=w') (fun _ _ _=>rfl) (zav _) (fun _ _ hU=>hU) (fun _ h=>h) zm (fun _=>⟨fun hi=>(H2.own n He bq).1 hi,vQ,zax xB cX⟩)
   (fun _ m hm h0 qS=>H2.inj m n h0 He hm qS bq) (fun _ m gr sz xs hm h0 b hb=>H2.live m gr sz xs h0 b hb n He bq) ?_ (by rw[hG2,huu];exact K2) ?_
   (fun gr m sz xs hb=>by cases hb) (fun gr sz xs hb=>by cases hb) (fun gr m sz xs hb=>by cases hb) ?_
  ·intro Lw c m hb hc hm;injection hb with hb;subst hb;obtain⟨pc,_,rfl⟩:=zaj.1 hc;exact absurd hm id
  ·refine⟨bq,(oH _ xB).kv vU,fun j c hj=>?_⟩;rw[zag] at hj;cases hp:ps[j]? with
   |none=>rw[hp] at hj;cases hj
   |some pc=>
    rw[hp] at hj;simp at hj;subst hj;obtain⟨g1,g2⟩:=iG pc (zac hp);exact⟨pc.val,cV j pc hp,PC.nG pc,pc,rfl,rfl,g1,g2⟩
  ·intro _ _ b hb;obtain⟨m,gr,mo,sz,xs,hm,h0,d7⟩:=hb;exact H2.y4 He bq h0 d7
 rw[hG2,huu] at H3;have K1:bW w G h (fun n=>used n=true) w' ⟨fun b=>G.Im b\/S b,G.g⟩ (aQ h n (some (av.box []))):=bW.trans (fun _ h=>h) (kp []) (bW.v8 S _);exact⟨H3,bW.trans (fun _ h=>h) K1 K2⟩
theorem Uh {σ1:St} {ns:List Nat} {out:List C} (hx:σ.tz ns out=some σ1):(ns=[]/\out=[]/\σ1=σ)\/∃n cs,ns=[n]/\σ.h n=some (.box cs)/\cs.length=out.length/\σ1=σ.fx n (.box (out.map .c)):=by
 unfold St.tz at hx;split at hx
 ·injection hx with hx;exact .inl ⟨rfl,rfl,hx.symm⟩
 ·rename_i n;split at hx
  ·rename_i cs hn;split at hx
   ·rename_i hl;injection hx with hx;exact .inr ⟨n,cs,rfl,hn,hl,hx.symm⟩
   ·cases hx
  ·cases hx
 ·cases hx
theorem YE {pas:List PA} {p:PA} (hp:p∈pas) (hk:p.k=.ptr):p∈oD pas:=za2.2 ⟨hp,by simp[hk]⟩
theorem YF:∀{pas:List PA},(oD pas).length<=1->∀{i j:Nat} {p q:PA},pas[i]? =some p->pas[j]? =some q->p.k=.ptr->q.k=.ptr->i=j
 |[],_,i,_,_,_,hi,_,_,_=>by simp at hi
 |x::pas,hl,i,j,p,q,hi,hj,hp,hq=>by
  by_cases hx:x.k=.ptr
  ·have hz:(oD pas).length=0:=by
    simp[oD,hx] at hl⊢;exact hl
   have dF:∀y∈pas,y.k≠ .ptr:=fun y hy hk=>by
    have:=YE hy hk;rw[zaU.1 hz] at this;cases this
   cases i with
   |zero=>
    cases j with
    |zero=>rfl
    |succ j=>exact absurd hq (dF q (zac (by simpa using hj)))
   |succ i=>exact absurd hp (dF p (zac (by simpa using hi)))
  ·have eN:(oD pas).length<=1:=by simpa[oD,hx] using hl
   cases i with
   |zero=>simp at hi;subst hi;exact absurd hp hx
   |succ i=>
    cases j with
    |zero=>simp at hj;subst hj;exact absurd hq hx
    |succ j=>exact congrArg (·+1) (YF eN (by simpa using hi) (by simpa using hj) hp hq)
theorem Qz:∀{bC:List PA} {ls:List (Bool×List aj)},ly (bC.map fun p=>(p.k,p.ps.map PC.er))=some ls->ls=bC.map (fun p=>(decide (p.k=.agg),p.ps.map fun pc=>aj.c pc.er))/\∀p∈bC,p.k≠ .ptr
 |[],ls,h=>by simp only[List.map_nil,ly] at h;injection h with h;exact⟨h.symm,by simp⟩
 |⟨k,ps,b,o⟩::bC,ls,h=>by
  cases k with
  |ptr=>simp[ly] at h
  |one=>
   simp only[zaK,ly] at h;split at h
   ·rename_i HU e;injection h with h;obtain⟨e1,e2⟩:=Qz e;refine⟨by rw[<-h,e1,zaO];rfl,fun p hp=>?_⟩;cases hp with
    |head=>simp
    |tail _ hp=>exact e2 p hp
   ·cases h
  |agg=>
   simp only[zaK,ly] at h;split at h
   ·rename_i HU e;injection h with h;obtain⟨e1,e2⟩:=Qz e;refine⟨by rw[<-h,e1,zaO];rfl,fun p hp=>?_⟩;cases hp with
    |head=>simp
    |tail _ hp=>exact e2 p hp
   ·cases h
theorem asx {ls:List (Bool×List aj)} {bC:List PA} (hlen:ls.length=bC.length)
  (hv:∀(j:Nat) (x:Bool×List aj) (p:PA),ls[j]? =some x->bC[j]? =some p->RV w G h x.1 x.2 (Ci p)):RA w G h (nC ls) (Cj bC):=by
 match ls,bC,hlen with
 |[],[],_=>exact⟨[],rfl,rfl,by simp⟩
 |[(ag,cs)],[p],_=>
  have h0:=hv 0 (ag,cs) p rfl rfl;cases ag with
  |true=>exact h0
  |false=>
   have cY:dT w G h cs [Ci p]:=h0;match cs,cY.1 with
   |[c],_=>exact .inr h0
 |x::y::ls,p::q::bC,hl=>
  refine⟨(p::q::bC).map Ci,rfl,by simpa using hl.symm,fun j x' u hj hu=>?_⟩;rw[zag] at hu;cases hp:(p::q::bC)[j]? with
  |none=>rw[hp] at hu;cases hu
  |some p'=>rw[hp] at hu;simp at hu;subst hu;exact hv j x' p' hj hp
theorem ajt (r:R B E w0 N σ a w G) {T:aZ} (hT:De P T) {f:FuncId} {as:List ao} {vals:List Value} {σ1:St} (hN:∀n,o.dst=some n->n<N)
  (cP:(execOp a.eval o).run P w=.ok (.enter f vals.toArray) w) (hl:vals.length=as.length)
  (qM:∀(j:Nat) (x:ao) (v:Value),as[j]? =some x->vals[j]? =some v->RA w G σ.h x v) (Sl:∀x∈as,∀m,x.ref m->σ.used m=true)
  (hx:sM T o.dst f as σ=some σ1):o.wp P a w (Nx B E w0 N σ1) Q:=by
 unfold sM at hx;split at hx
 ·rename_i ds ns rq M hba hM;split at hx
  ·rename_i rs out nf;split at hx
   ·rename_i pV nk;obtain⟨Im',pas,b1,b2,b3,b4,b5,b6,b7,b8,b9,m4⟩:=r.hr.jS hba hl qM Sl;have hns:ns.length<=1:=by
     rcases Uh nk with⟨h1,_⟩|⟨n,cs,h1,_⟩<;>rw[h1]<;>simp
    have qO:∀p∈pas,p.k=.ptr->∃n,ns=[n]/\Xe G rq.h p n:=by
     intro p hp hk;obtain⟨i,hi⟩:=zan (YE hp hk);have cD:i<ns.length:=by rw[<-b5];exact(zah.1 hi).1
     have hn:ns[i]? =some ns[i]:=zad cD;have h0:i=0:=by omega
     subst h0;refine⟨_,?_,b6 0 p _ hi hn⟩;match ns,cD,hns with
     |[n],_,_=>rfl
    have va:PP w ds vals pas:=by
     refine⟨b2,b1,b3,fun p hp hk=>?_,fun i j p q hi hj hp hq=>YF (by omega) hi hj hp hq⟩;obtain⟨n,_,cs,hn,e1,e2,e3⟩:=qO p hp hk;obtain⟨nl,un,_⟩:=b7.box n cs hn;have ho:=b7.own n (by rw[hn];simp) nl;rw[e1];exact⟨un,fun q hq pc bA hb=>ho.1 (b4 q hq pc bA _ hb)⟩
    unfold Oper.wp;rw[cP];refine(hT f M hM ds rs out nf w vals pas va).mono fun e w' ⟨bC,qs,p1,p2,p3,p4⟩=>?_;subst p2;have aa3:∀b,Df w pas b->Im' b\/w.heap.size<=b:=fun b hb=>by
     rcases hb with hb|⟨q,hq,pc,bA,hb⟩
     ·exact .inr hb
     ·exact .inl (b4 q hq pc bA b hb)
    let S:Nat->Prop:=fun b=>w.heap.size<=b/\((∃p∈bC,∃pc∈p.ps,bD b pc)\/∃pc∈qs,bD b pc);have hB:=r.fr.size;have hS:∀b,S b->w.heap.size<=b/\b<w'.heap.size/\B<=b:=fun b ⟨h1,h2⟩=>by
     refine⟨h1,?_,zaN hB h1⟩;rcases h2 with⟨p,hp,pc,bA,hb⟩|⟨pc,bA,hb⟩
     ·exact(p4.gx p hp pc bA).1.lt hb
     ·exact(p4.out pc bA).1.lt hb
    have aaH:∀p∈bC,∀pc∈p.ps,Good w' pc/\∀b,bD b pc->Im' b\/S b:=fun p hp pc bA=>by
     obtain⟨g1,g2⟩:=p4.gx p hp pc bA;exact⟨g1,fun b hb=>(aa3 b (g2 b hb)).imp id fun h1=>⟨h1,.inl ⟨p,hp,pc,bA,hb⟩⟩⟩
    have ale:∀pc∈qs,Good w' pc/\∀b,bD b pc->Im' b\/S b:=fun pc bA=>by
     obtain⟨g1,g2⟩:=p4.out pc bA;exact⟨g1,fun b hb=>(aa3 b (g2 b hb)).imp id fun h1=>⟨h1,.inr ⟨pc,bA,hb⟩⟩⟩
    have at7:HR B E w' ⟨fun b=>Im' b\/S b,G.g⟩ pV.h pV.used []/\bW w ⟨Im',G.g⟩ rq.h (fun n=>rq.used n=true) w' ⟨fun b=>Im' b\/S b,G.g⟩ pV.h/\pV.env=rq.env/\pV.used=rq.used/\Fr B E w0 w':=by
     rcases Uh nk with⟨h1,h2,h3⟩|⟨n,cs,h1,h2,h3,h4⟩
     ·subst h3;have dF:∀p∈pas,p.k≠ .ptr:=fun p hp hk=>by
       obtain⟨n,e,_⟩:=qO p hp hk;rw[h1] at e;cases e
      have ng:∀b,b<w.heap.size->w'.heap[b]? =w.heap[b]? :=fun b hb=>p4.fr.block b hb (fun⟨p,hp,hk,_⟩=>dF p hp hk);have Hg:=b7.grow ng p4.fr.size;refine⟨Hg.v8 S (fun b hb=>(hS b hb).2.1) (fun b hb q hq hl he=>by have:=(hS b hb).1;have:=(b7.own q hq hl).2.2;omega)
       (fun b hb q gr sz xs hq hF=>by have:=(hS b hb).1;have:=b7.u6 hq hF;omega) (fun b hb=>.inl (hS b hb).2.2),
       bW.trans (fun _ h=>h) (bW.world (fun b hb=>ng b (b7.jq b hb)) _) (bW.v8 S _),rfl,rfl,r.fr.grow ng p4.fr.size p4.fr.os p4.fr.tape p4.fr.output⟩
     ·subst h4;obtain⟨p,hp,hk⟩:∃p∈pas,p.k=.ptr:=by
       have hlen:(oD pas).length=1:=by rw[b5,h1];rfl
       match hc:oD pas,hlen with
       |[p],_=>
        have hm:p∈oD pas:=by rw[hc];simp
        have:=za2.1 hm;exact⟨p,this.1,by simpa using this.2⟩
      obtain⟨n',e0,cs',bU,e1,e2,e3⟩:=qO p hp hk;rw[h1] at e0;injection e0 with e0;subst e0;have MG:∀q∈pas,q.k=.ptr->q=p:=fun q hq RZ=>by
       obtain⟨i,hi⟩:=zan hq;obtain⟨j,hj⟩:=zan hp;have:=va.one i j q p hi hj RZ hk;subst this;rw[hi] at hj;injection hj
      have ho:=b7.own n (by rw[h2];simp) (b7.box n cs h2).1;have ng:∀b,b<w.heap.size->b≠(G.g n).b->w'.heap[b]? =w.heap[b]? :=fun b hb aE=>p4.fr.block b hb (fun⟨q,hq,RZ,hbq⟩=>by
       rw[MG q hq RZ,e1] at hbq;exact aE hbq)
      have oH:∀b,b<w.heap.size->Cz w w' b:=fun b hb=>p4.fr.kv b hb;obtain⟨Hb,Kb⟩:=b7.Yc (cs':=out.map .c) h2 p4.fr.size ng oH hS (ps:=qs) (by rw[<-p3,zaO];rfl) (fun j c hj=>by
       have:=p4.at_ p hp hk j c hj;rw[e1,e2] at this;exact this) ale
      exact⟨Hb,Kb,rfl,rfl,r.fr.one ho.2.1 ng p4.fr.size (oH _ ho.2.2) p4.fr.os p4.fr.tape p4.fr.output⟩
    obtain⟨H2,K2,v1,v2,xq⟩:=at7;have K0:bW w G σ.h (fun n=>σ.used n=true) w' ⟨fun b=>Im' b\/S b,G.g⟩ pV.h:=bW.trans (fun n hn=>by rw[m4];exact hn) b8 K2;have r2:R B E w0 N pV a w' ⟨fun b=>Im' b\/S b,G.g⟩:=r.step (v1.trans b9) (fun m hm=>by rw[v2,m4];exact hm) K0 H2 xq;have Lz:∀{ls:List (Bool×List aj)},ly rs=some ls->σ1=pV.put o.dst (nC ls)->(match(Ending.returned (Cj bC)) with|.returned v=>Nx B E w0 N σ1 (a.put o.dst v) w'|_=>True):=by
     intro ls Mx hs;subst hs;rw[<-p1] at Mx;obtain⟨rfl,Hf⟩:=Qz Mx;refine⟨_,r2.put (asx (by simp) (fun j x p hj hp=>?_)) (fun q hq=>?_) hN⟩
     ·rw[zag,hp] at hj;simp at hj;subst hj;have hm:=zac hp;have cY:dT w' ⟨fun b=>Im' b\/S b,G.g⟩ pV.h (p.ps.map fun pc=>aj.c pc.er) (p.ps.map PC.val):=by
       refine⟨by simp,fun j c u hj hu=>?_⟩;rw[zag] at hj hu;cases ta:p.ps[j]? with
       |none=>rw[ta] at hj;cases hj
       |some pc=>
        rw[ta] at hj hu;simp at hj hu;subst hj hu;obtain⟨g1,g2⟩:=aaH p hm pc (zac ta);exact⟨PC.nG pc,pc,rfl,rfl,g1,g2⟩
      have RX:=p4.one p hm;have hk2:=Hf p hm;obtain⟨k,ps,b,o'⟩:=p;cases k with
      |ptr=>exact absurd rfl hk2
      |agg=>exact⟨ps.map PC.val,rfl,cY⟩
      |one=>
       have h2:=RX rfl;match ps,h2 with
       |[p],_=>exact cY
     ·exfalso;refine asL (fun x hx c hc hq=>?_) hq;obtain⟨p,_,rfl⟩:=zaj.1 hx;obtain⟨pc,_,rfl⟩:=zaj.1 hc;exact hq
    unfold sJ at hx;split at hx
    ·rename_i cs;split at hx
     ·rename_i q hq;split at hx
      ·rename_i τ3 alz;injection hx with hx;subst hx;obtain⟨u1,rfl⟩:=pE alz;obtain⟨p,rfl⟩:∃p,bC=[p]:=by
        have h1:bC.length=1:=by have:=congrArg List.length p1;simpa using this
        exact zaX.1 h1
       simp at p1;obtain⟨hk,gz⟩:=p1;obtain⟨_,q1,q2,q3,q4,q5⟩:=p4.ptr p (by simp) hk;subst gz;have aaS:ru ⟨fun b=>Im' b\/S b,G.g⟩ pV.h p.b:=by
        refine⟨fun hi=>?_,fun m hm hl he=>?_,fun m gr mo sz xs hm hF=>?_⟩
        ·rcases hi with hi|⟨_,hi⟩
         ·have:=b7.jq _ hi;omega
         ·rcases hi with⟨p',bJ,pc,bA,hb⟩|⟨pc,bA,hb⟩
          ·simp at bJ;subst bJ;exact q4 pc bA hb
          ·exact q5 pc bA hb
        ·have hd:=H2.kN m hm;obtain⟨k0,k1,k2,_⟩:=K2.name m (by rw[<-v2];exact hd) hm;have eN:(G.g m).nl=false:=hl;have:=(b7.own m k0 eN).2.2;have Mr:(G.g m).b=p.b:=he;have h7:(⟨Im',G.g⟩:Gh).g m=G.g m:=rfl;rw[h7] at this;omega
        ·have hd:=H2.kN m (by rw[hm];simp);have gk:∃cc pJ be az,rq.h m=some (.row cc pJ be az):=by
          rcases Uh nk with⟨h1,h2,h3⟩|⟨n,cs,h1,h2,h3,h4⟩
          ·subst h3;exact⟨_,_,_,_,hm⟩
          ·subst h4;by_cases cG:m=n
           ·subst cG;have:aQ rq.h m (some (av.box (out.map aj.c))) m=_:=hm;rw[cJ] at this;cases this
           ·have:aQ rq.h n (some (av.box (out.map aj.c))) m=_:=hm;rw[dA _ _ _ _ cG] at this;exact⟨_,_,_,_,this⟩
         obtain⟨cc,pJ,be,az,cF⟩:=gk;have hF':bH p.b (G.g m).px:=hF;have:=b7.u6 cF hF';omega
       have Hn:HR B E w' ⟨fun b=>Im' b\/S b,aQ G.g q ⟨false,p.b,p.o,0,[],none⟩⟩ (aQ pV.h q (some (.box ((p.ps.map PC.er).map .c)))) (aQ pV.used q true) []:=by
        refine H2.insert (w':=w') u1 (fun _ _=>rfl) (zav _) (fun _=>⟨aaS,.inl (zaN hB q1),q2.lt⟩) (fun cs' c m hb dO hm=>?_) ⟨rfl,q2,fun j c hj=>?_⟩ (fun gr m sz xs hb=>by cases hb) (fun gr sz xs hb=>by cases hb) (fun gr m sz xs hb=>by cases hb)
        ·injection hb with hb;subst hb;obtain⟨x,_,rfl⟩:=zaj.1 dO;exact absurd hm id
        ·rw[zag,zag] at hj;cases hp:p.ps[j]? with
         |none=>rw[hp] at hj;cases hj
         |some pc=>
          rw[hp] at hj;simp at hj;subst hj;obtain⟨g1,g2⟩:=aaH p (by simp) pc (zac hp);exact⟨pc.val,q3 j pc hp,PC.nG pc,pc,rfl,rfl,g1,g2⟩
       have r3:=r2.step (σ':={pV with h:=aQ pV.h q (some (.box ((p.ps.map PC.er).map .c))),used:=aQ pV.used q true}) rfl (fun m hm=>vf q m hm) (bW.insert H2 u1 (fun _ _=>rfl)) Hn xq
       have hv:Cj [p]=.pointer (some (ad p.b p.o)):=by
        obtain⟨k,ps,b,o'⟩:=p;simp only at hk;subst hk;rfl
       rw[hv];exact⟨_,r3.put (RA.il (c:=.ptr q 0 0 0) rfl (show aQ pV.h q _ q≠none->(aQ G.g q _ q).nl=false/\_=_ from fun _=>by simp[cJ])) (fun m hm=>by have cF:m=q:=hm;subst cF;exact cJ _ _ _) hN⟩
      ·cases hx
     ·cases hx
    ·split at hx
     ·rename_i ls Mx;injection hx with hx;exact Lz Mx hx.symm
     ·cases hx
   ·cases hx
  ·cases hx
 ·cases hx
theorem Zd (r:R B E w0 N σ a w G) {T:aZ} (hT:De P T) {f:FuncId} {xs:Array Operand} {ms:List MO} {ts:Array TypeId} {σ1:St} (hN:∀n,o.dst=some n->n<N)
  (ho:o.op=.call {callee:=.value (.func f),args:=xs,argTypes:=ts}) (hf:cz P f=true) (hm:jB xs.toList ms=true)
  (hx:sM T o.dst f (ms.map σ.ev) σ=some σ1):o.wp P a w (Nx B E w0 N σ1) Q:=by
 obtain⟨e1,e2⟩:=r.Ba hm;have Sl:∀x∈ms.map σ.ev,∀m,x.ref m->σ.used m=true:=by
  have cI:∀{xs:List Operand} {ms:List MO},jB xs ms=true->∀x∈ms.map σ.ev,∀m,x.ref m->σ.used m=true:=by
   intro xs ms;induction ms generalizing xs with
   |nil=>intro _ x hx;simp at hx
   |cons m0 ms ih=>
    intro hc x hx m hm;cases xs with
    |nil=>simp[jB] at hc
    |cons y ys=>
     simp only[jB,zaa] at hc;simp only[zaK,zaC] at hx;rcases hx with rfl|hx
     ·exact(r.ev hc.1).2 m hm
     ·exact ih hc.2 x hx m hm
  exact cI hm
 refine ajt r hT (vals:=xs.toList.map a.eval) hN ?_ (by simpa using e1) e2 Sl hx;have he:(xs.toList.map a.eval).toArray=xs.map a.eval:=by apply zau;simp
 rw[he];simp[execOp,ho,resolve,Deferred.ofValue,invoke,Act.eval,Ff hf]
theorem R.vG (r:R B E w0 N σ a w G) {p:aj} (hx:σ.vG p=some σ'):∃G',R B E w0 N σ' a w G'/\σ'.env=σ.env:=by
 unfold St.vG at hx;split at hx
 ·rename_i n k sz off;split at hx
  ·rename_i cs hn;split at hx
   ·rename_i xs ow σ1 ht;injection hx with hx;subst hx;obtain⟨vs,v1,v2⟩:=r.hr.Lf hn;obtain⟨AB,cu,a1,a2,a3,a5,a6,a7,a8,a9⟩:=r.hr.gY ht v1 (fun c hc m hm=>r.hr.jQ n cs c m hn hc hm);have yJ:HR B E w ⟨AB,G.g⟩ σ1.h σ.used []:=by
     cases ow with
     |true=>exact HR.Ak (tk:=[]) (l:=cu) (by simpa using a5)
     |false=>simpa using a5
    have nV:=WO ht hn;obtain⟨b1,b2⟩:=yJ.Yc (w':=w) (cs':=xs.map .c) nV (zav _) (fun _ _ _=>rfl) (fun b _=>Cz.refl w b) (S:=fun _=>False) (fun b hb=>hb.elim) (ps:=cu)
     (by rw[<-a1,zaO];rfl) (fun j c hj=>by
      have:=v2 j c.val (by rw[<-a2,zag,hj];rfl);exact this) (fun pc bA=>⟨(a3 pc bA).1,fun b hb=>.inl ((a3 pc bA).2 b hb)⟩)
    have hk:=bW.trans (fun _ h=>h) a6 b2;refine⟨_,r.step a7 (fun q hq=>by rw[show(σ1.fx n (.box (xs.map .c))).used=σ1.used from rfl,a8];exact hq) hk ?_ r.fr,a7⟩
    show HR B E w _ _ σ1.used [];rw[a8];exact b1
   ·cases hx
  ·cases hx
 ·cases hx
end
def Dg (P:Program) (f:FuncId) (sig:aU) (M:List Dv->Option (Nat×Nat)):Prop:=
 ∀ds lo len,M ds=some (lo,len)->∀(w:World) (vals:List Value) (pas:List PA),yE w sig ds vals pas->Calls P f vals.toArray w fun e w'=>
  ∃(m:Mode) (sz cap:Nat) (a:Option Addr) (xs:List (List PC)) (v:Value),dX sig (pas.map (·.ps))=[(m,.list sz a cap xs)]/\e=.returned v/\xs≠[]/\
   (∃(b o:Nat) (a':Option Addr),a=some (ad b o)/\v=.slice a' len (cap - lo)/\lo+len<=cap/\((lo<cap\/lo=0)->a'=some (ad b (o+lo*sz))))/\
   Fr w.heap.size (yW [(m,.list sz a cap xs)]) w w'/\∃q:PC,q.er=(PC.list sz a cap xs).er/\rv w' m (.list sz a cap xs) q
def AJ (P:Program) (f:FuncId) (i:Nat) (M:List Dv->Option (List Dv×List C)):Prop:=
 ∀(lo len:Nat) (ds rs:List Dv) (dK:List C) (ys:List (List C)),M (dI lo::dI (lo+len)::ds)=some (rs,dK)->ds[i]? =some (.one,[.list 1 ys])->∀(w:World) (vals:List Value) (pas:List PA),yE w (mB i) ds vals pas->
  ∀(b o cap n:Nat) (a':Option Addr),vals[i]? =some (.slice (some (ad b o)) n cap)->0<n->lo+len<=n->((lo<cap\/lo=0)->a'=some (ad b (o+lo*1)))->
  Calls P f (vals.set i (.slice a' len (cap - lo))).toArray w (JT w (mB i) pas rs dK)
def yI (P:Program) (T:aZ):Prop:=(∀f sig M,aZ.uz T.ws f=some (sig,M)->Dg P f sig M)/\∀f i M,aZ.uA T.xs f=some (i,M)->AJ P f i M
section
variable {B:Nat} {E:Ex} {w0 w w':World} {G G':Gh} {N:Nat} {h h':Nat->Option av} {used used':Nat->Bool} {tk:List PC}
variable {P:Program} {o:Oper} {a:Act} {σ σ':St} {Q:Exit->Act->World->Prop}
theorem ajw (r:R B E w0 N σ a w G) {T:aZ} (hT:yI P T) {f:FuncId} {as:List ao} {vals:List Value} {v0:ao} (hN:∀n,o.dst=some n->n<N)
  (cP:(execOp a.eval o).run P w=.ok (.enter f vals.toArray) w) (hl:vals.length=as.length)
  (qM:∀(j:Nat) (x:ao) (v:Value),as[j]? =some x->vals[j]? =some v->RA w G σ.h x v)
  (hx:rH T f as σ.h=some v0):o.wp P a w (Nx B E w0 N (σ.put o.dst v0)) Q:=by
 have H:=r.hr;unfold rH at hx;split at hx
 ·rename_i sig M de hM GX;split at hx
  ·rename_i n0 avc;split at hx
   ·rename_i ds n md hv;split at hx
    ·rename_i he;subst he;split at hx
     ·rename_i gr mo sz xs lo len gk nf;injection hx with hx;subst hx;obtain⟨xw,GR⟩:=TG GX hl qM;obtain⟨pas,q1,q2,q3,q4,q5,q6,q7⟩:=H.n8 hv xw GR;have vO:([((dG.row n:dG),md)].filterMap (·.1.ff)).Nodup:=by simp[dG.ff]
      generalize vL:dX sig (pas.map (·.ps))=fl at q5;obtain⟨x,rfl⟩:∃x,fl=[x]:=by
       match fl,q5.len with
       |[x],_=>exact⟨x,rfl⟩
      obtain⟨My,ze⟩:=q5.at_ 0 _ x rfl rfl;have cV:=ze.at_;obtain⟨cc,pJ,be,az,e1,e2,e3,e4,e5⟩:=cV;rw[gk] at e1;injection e1 with e1;injection e1 with a1 a2 a3 a4;subst a1 a2 a3 a4;have cO:σ.h n≠none:=by rw[gk];simp
      have hr:=H.row n gr mo sz xs gk;have pq:∀b,bD b x.2->uC G n b/\((∀b,¬bH b (G.g n).px)\/mo=.live):=by
       intro b hb;obtain⟨n',cc,m',be,az,f1,f2,f3,f4,f5⟩:=ze.pi H hb;have:n'=n:=by injection f1 with f1;exact f1.symm
       subst this;rw[gk] at f2;injection f2 with f2;injection f2 with _ f2 _ _;subst f2;exact⟨f4,f5⟩
      have TI:yE w sig ds vals pas:=by
       refine⟨q2,q1,q3,fun y hy=>?_,?_,fun pc bA y hy b hb bB=>?_,fun p hp hk=>absurd hk (q4 p hp),fun i p s hp _ hk=>absurd hk (q4 p (zac hp))⟩
       ·rw[vL,zaI] at hy;subst hy;exact ze.ok
       ·rw[vL];simp
       ·rw[vL,zaI] at hy;subst hy;obtain⟨f4,f5⟩:=pq b bB;rcases q7 pc bA b hb with hi|⟨n',cc,m',be,az,bU,pf,xd⟩
        ·rcases f4 with⟨bq,rfl⟩|hF
         ·exact(H.own n cO bq).1 hi
         ·rcases f5 with f5|rfl
          ·exact f5 b hF
          ·exact(hr.mode.1 b hF).1 hi
        ·have aE:n'≠n:=fun e=>bU (by rw[e];simp);exact H.GH aE pf gk f5 xd f4
      unfold Oper.wp;rw[cP];refine(hT.1 f sig M hM ds lo len nf w vals pas TI).mono fun e w' ⟨m1,rm,rC,Di,tZ,v,p1,p2,p3,⟨lb,lo1,la,l1,l2,l3,l4⟩,p4,q,p5,p6⟩=>?_;subst p2;rw[vL] at p1;injection p1 with p1 _;subst p1;dsimp only at e4;have s6:∀b,yW [(m1,PC.list rm Di rC tZ)] b->(B<=b\/E b):=by
       rintro b ⟨y,hy,hb⟩;rw[zaI] at hy;subst hy;rcases(pq b hb).1 with⟨bq,rfl⟩|hF
       ·exact(H.own n cO bq).2.1
       ·have iv:=hr.mode;cases mo with
        |aL=>exact absurd rfl e2
        |bc=>exact(iv.1 b hF).2.2
        |live=>exact(iv.1 b hF).2.2
      have aaO:(vJ G [((dG.row n:dG),md)] [q]).g n=zL (G.g n) (.row n) q:=aaF vO (i:=0) (it:=(.row n,md)) rfl rfl rfl;have hqe:q.er=.list sz xs:=by rw[p5,e4];exact aen hr
      have p6':=p6;rw[e4] at p6;obtain⟨wR,K,_⟩:=H.ND (G':=vJ G [((dG.row n:dG),md)] [q]) (h':=σ.h) (w':=w') (S:=fun k=>k=n) p4.size (fun b hb dF=>p4.block b hb (by
        rintro⟨y,hy,qN⟩;rw[zaI] at hy;subst hy;exact dF n rfl (pq b qN).1)) (fun b hb=>p4.kv b hb) rfl (fun k hk=>by
        subst hk;exact⟨gr,mo,sz,xs,xs,gk,gk,by rw[aaO];exact Yl H gk e2 e3 e5 p6 hqe⟩)
       (fun k hk=>⟨rfl,aaG (by simp[dG.ff];exact hk)⟩)
      have xq:Fr B E w0 w':=by
       refine⟨p4.os.trans r.fr.os,p4.tape.trans r.fr.tape,p4.output.trans r.fr.output,zaN r.fr.size p4.size,fun b hb he=>?_,fun b hb=>?_⟩
       ·refine(p4.block b (zax hb r.fr.size) fun hx=>?_).trans (r.fr.block b hb he);rcases s6 b hx with h1|h1
        ·omega
        ·exact he h1
       ·exact(r.fr.kv b hb).trans (p4.kv b (zax hb r.fr.size))
      have r2:R B E w0 N σ a w' (vJ G [((dG.row n:dG),md)] [q]):=r.step rfl (fun _ h=>h) K wR xq;refine⟨_,r2.put (RA.il ?_ ?_) (fun k hk=>?_) hN⟩
      ·rw[l2];rfl
      ·show σ.h n≠none->lm _ sz lo len v;intro _;have hq:PC.list rm Di rC tZ=qz sz (G.g n):=e4;unfold qz at hq;injection hq with g1 g2 g3 g4;subst g1 g3 g4;have bq:(G.g n).nl=false:=by
        cases h0:(G.g n).nl with
        |false=>rfl
        |true=>exact absurd (hr.nl h0).1 p3
       rw[bq] at g2;have g2:Di=some (ad (G.g n).b (G.g n).o):=g2;rw[l1] at g2;injection g2 with g2;obtain⟨rfl,rfl⟩:=pZ g2;obtain⟨od,ad2,Lh,px2,rfl⟩:=PC.Tw p6.val rfl;rw[aaO];exact .inr ⟨bq,la,l2,l3,l4⟩
      ·have dj:k=n:=hk;subst dj;exact r.hr.kN k cO
     ·cases hx
    ·cases hx
   ·cases hx
  ·cases hx
 ·cases hx
theorem ajo (r:R B E w0 N σ a w G) {T:aZ} (hT:yI P T) {f:FuncId} {xs:Array Operand} {ms:List MO} {ts:Array TypeId} {v0:ao} (hN:∀n,o.dst=some n->n<N)
  (ho:o.op=.call {callee:=.value (.func f),args:=xs,argTypes:=ts}) (hf:cz P f=true) (hm:jB xs.toList ms=true)
  (hx:rH T f (ms.map σ.ev) σ.h=some v0):o.wp P a w (Nx B E w0 N (σ.put o.dst v0)) Q:=by
 obtain⟨e1,e2⟩:=r.Ba hm;refine ajw r hT (vals:=xs.toList.map a.eval) hN ?_ (by simpa using e1) e2 hx;have he:(xs.toList.map a.eval).toArray=xs.map a.eval:=by apply zau;simp
 rw[he];simp[execOp,ho,resolve,Deferred.ofValue,invoke,Act.eval,Ff hf]
theorem auV {h:Nat->Option av} {x:ao} {n lo len N:Nat} (hx:FN h x=some (n,lo,len,N)):x=.one (.sl n 1 lo len)/\∃gr m xs,h n=some (.row gr m 1 xs)/\N=xs.length/\lo<N/\lo+len<=N:=by
 unfold FN at hx;split at hx
 ·rename_i n' s Np Nl;split at hx
  ·rename_i gr m rs xs hn;split at hx
   ·rename_i hc;obtain⟨rfl,rfl,h1,h2⟩:=hc;injection hx with hx;injection hx with e1 e2;injection e2 with e2 e3;injection e3 with e3 e4;subst e1 e2 e3 e4;exact⟨rfl,gr,m,xs,hn,rfl,h1,h2⟩
   ·cases hx
  ·cases hx
 ·cases hx
theorem ajx (r:R B E w0 N σ a w G) {T:aZ} (hT:yI P T) {m:Mode} {f:FuncId} {as:List ao} {vals:List Value} {σ1:St} (hN:∀n,o.dst=some n->n<N)
  (cP:(execOp a.eval o).run P w=.ok (.enter f vals.toArray) w) (hl:vals.length=as.length)
  (qM:∀(j:Nat) (x:ao) (v:Value),as[j]? =some x->vals[j]? =some v->RA w G σ.h x v)
  (hx:xc T m o.dst f as σ=some σ1):o.wp P a w (Nx B E w0 N σ1) Q:=by
 have H:=r.hr;unfold xc at hx;split at hx
 ·rename_i i M hM;split at hx
  ·rename_i x hi;split at hx
   ·rename_i n lo len L gk;obtain⟨rfl,gr,md,xs,hn,rfl,uI,kf⟩:=auV gk;have fW:i<as.length:=(zah.1 hi).1;have Ef:i<vals.length:=by omega
    have hv:vals[i]? =some vals[i]:=zad Ef;have tc:=qM i _ _ hi hv;have kF:lm (G.g n) 1 lo len vals[i]:=(tc.iV (by simp)).1 (by rw[hn];simp);have hr:=H.row n gr md 1 xs hn;have iH:(G.g n).px.length=xs.length:=by rw[hr.er];simp
    have bq:(G.g n).nl=false:=by
     cases h0:(G.g n).nl with
     |false=>rfl
     |true=>
      have:=(hr.nl h0).1;rw[this] at iH;simp at iH;omega
    obtain⟨l1,l2,l3⟩:=hr.fN bq;rcases kF with⟨h0,_⟩|⟨_,ya,hva,kC,Rm⟩
    ·rw[bq] at h0;cases h0
    refine Ze r (as:=as.set i (.one (.sl n 1 0 xs.length))) (vals:=vals.set i (.slice (some (ad (G.g n).b (G.g n).o)) xs.length (G.g n).cap)) (vals':=vals)
     (fun sig M' nf ds rs dK h pas hm=>?_) hN cP (by simp[hl]) (fun j x v hj zf=>?_) hx
    ·have D4:(mB i,xM i lo (lo+len) M)=(sig,M'):=by
      simp only[aZ.ph,if_true] at nf;injection nf
     injection D4 with q1 q2;subst q1 q2;unfold xM at h;split at h
     ·rename_i ys lW;have:=hT.2 f i M hM lo len ds rs dK ys h lW w _ pas hm (G.g n).b (G.g n).o (G.g n).cap xs.length ya (by rw[zaq Ef]) (by omega) kf Rm;have e:(vals.set i (.slice (some (ad (G.g n).b (G.g n).o)) xs.length (G.g n).cap)).set i (.slice ya len ((G.g n).cap - lo))=vals:=by
       rw[List.set_set,<-hva];exact List.set_getElem_self Ef
      rw[e] at this;exact this
     ·cases h
    ·by_cases qQ:j=i
     ·subst qQ;rw[zaq fW] at hj;rw[zaq Ef] at zf;injection hj with hj;injection zf with zf;subst hj zf;refine RA.il rfl (fun _=>.inr ⟨bq,_,rfl,by omega,fun _=>by simp⟩)
     ·rw[zaD (fun h=>qQ h.symm)] at hj zf;exact qM j x v hj zf
   ·cases hx
  ·cases hx
 ·cases hx
theorem ajp (r:R B E w0 N σ a w G) {T:aZ} (hT:yI P T) {m:Mode} {f:FuncId} {xs:Array Operand} {ms:List MO} {ts:Array TypeId} {σ1:St} (hN:∀n,o.dst=some n->n<N)
  (ho:o.op=.call {callee:=.value (.func f),args:=xs,argTypes:=ts}) (hf:cz P f=true) (hm:jB xs.toList ms=true)
  (hx:xc T m o.dst f (ms.map σ.ev) σ=some σ1):o.wp P a w (Nx B E w0 N σ1) Q:=by
 obtain⟨e1,e2⟩:=r.Ba hm;refine ajx r hT (vals:=xs.toList.map a.eval) hN ?_ (by simpa using e1) e2 hx;have he:(xs.toList.map a.eval).toArray=xs.map a.eval:=by apply zau;simp
 rw[he];simp[execOp,ho,resolve,Deferred.ofValue,invoke,Act.eval,Ff hf]
end
def DA:Option Operand->Option MO->Bool
 |none,none=>true
 |some x,some m=>cQ x m
 |_,_=>false
def yR (P:Program) (t:TypeId) (sz:Nat) (k:TypeInfo->Value->Bool):Bool:=
 match P.underlying t with
 |some (.slice e)=>match P.info? e with
  |some i=>match i.zero with
   |some z=>i.size==sz&&decide (0<sz)&&k i z
   |none=>false
  |none=>false
 |_=>false
theorem DD {P:Program} {t:TypeId} {sz:Nat} {k:TypeInfo->Value->Bool} (h:yR P t sz k=true):
  ∃e i z,P.underlying t=some (.slice e)/\P.info? e=some i/\i.zero=some z/\i.size=sz/\0<sz/\k i z=true:=by
 unfold yR at h;split at h
 ·rename_i e he;split at h
  ·rename_i i hi;split at h
   ·rename_i z hz;simp only[zaa,beq_iff_eq,decide_eq_true_eq] at h;exact⟨e,i,z,he,hi,hz,h.1.1,h.1.2,h.2⟩
   ·cases h
  ·cases h
 ·cases h
def Ls (P:Program) (t:TypeId) (zs:List aj):Bool:=
 match P.info? t with
 |some i=>match i.zero with
  |some z=>vz z.cells.toList zs
  |none=>false
 |none=>false
theorem Yr {P:Program} {t:TypeId} {zs:List aj} (h:Ls P t zs=true):∃i z,P.info? t=some i/\i.zero=some z/\vz z.cells.toList zs=true:=by
 unfold Ls at h;split at h
 ·rename_i i hi;split at h
  ·rename_i z hz;exact⟨i,z,hi,hz,h⟩
  ·cases h
 ·cases h
def Ym (P:Program) (t:TypeId) (parts:List (Nat×Operand)) (zs:List aj) (ms:List (Nat×Nat×MO)):Bool:=
 match P.underlying t with
 |some (.struct yY)=>match yY.toList.mapM (fun f=>(P.info? f.type).map fun i=>(f.offset,i.size)) with
  |some places=>Ls P t zs&&AQ places parts ms
  |none=>false
 |_=>false
def Yq (P:Program) (t:TypeId) (sz:Nat):Bool:=
 match P.info? t with
 |some i=>i.size==sz&&decide (0<sz)
 |none=>false
def Yo (P:Program) (t u:TypeId) (k:IntKind):Bool:=
 match P.underlying t,P.underlying u with
 |some _,some (.int k')=>k==k'
 |_,_=>false
def abp (P:Program) (t:TypeId):Bool:=
 match P.underlying t with
 |some .bool=>true
 |_=>false
def fM (P:Program) (o:Oper) (mo:aY):Bool:=
 match mo,o.op with
 |.mv m,.move x=>cQ x m
 |.mv m,.assign x=>cQ x m
 |.pick c x y,.pick c' x' y'=>cQ c' c&&cQ x' x&&cQ y' y
 |.alloc zs,.alloc e=>Ls P e zs
 |.box sz m,.box e x=>cQ x m
 |.build zs ms,.build t parts=>Ym P t parts.toList zs ms
 |.hZ sz ms,.buildSlice t len parts=>yR P t sz (fun _ _=>true)&&(ms.length==len)&&decide (parts.toList.map (·.1)=List.range len)&&decide (len*sz<=16777216)&&jB (parts.toList.map (·.2)) ms
 |.load ag sz m,.load t x=>cQ x m&&Dz P t ag sz
 |.store sz mx my,.store t x y=>o.dst.isNone&&cQ x mx&&cQ y my&&Yq P t sz
 |.jM m,.nilCheck x=>cQ x m
 |.bin op mx my,.binOp zM t x y t'=>decide (op=zM)&&cQ x mx&&cQ y my
 |.rB op mx my,.binOp zM t x y t'=>decide (op=zM)&&cQ x mx&&cQ y my&&abp P t
 |.un op mx,.unOp zM t x=>decide (op=zM)&&cQ x mx
 |.conv k mx,.convert t u x=>cQ x mx&&Yo P t u k
 |.jK m sz by_ zs ml mc,.makeSlice t l c=>cQ l ml&&cQ c mc&&yR P t sz (fun i z=>(i.bytes==by_)&&decide (0<by_)&&w5 z.cells.toList zs)
 |.slice sz mx Nt Nr,.slice t x lo hi none=>cQ x mx&&DA lo Nt&&DA hi Nr&&yR P t sz (fun _ _=>true)
 |.qd off mx,.fieldAddr s x f=>cQ x mx&&Lq P s f off
 |.pC sz mx mi,.indexAddr t x i=>cQ x mx&&cQ i mi&&yR P t sz (fun _ _=>true)
 |.ext i mx,.extract x j=>(i==j)&&cQ x mx
 |.len mx,.call c=>match c.callee,c.args.toList,c.argTypes.toList with
  |.builtin .len,[x],[t]=>cQ x mx&&(match P.underlying t with|some (.slice _)=>true|_=>false)
  |_,_,_=>false
 |.append fl sz by_ mx my,.call c=>match c.callee,c.args.toList,c.argTypes.toList with
  |.builtin .append,[x,y],[t,t']=>(t==t')&&cQ x mx&&cQ y my&&yR P t sz (fun i z=>(i.bytes==by_)&&decide (0<by_)&&(z.cells.size==sz))
  |_,_,_=>false
 |.m6 zc mx,.call c=>match c.callee,c.args.toList,c.argTypes.toList with
  |.builtin .clear,[x],[t]=>cQ x mx&&yR P t 1 (fun _ z=>w5 z.cells.toList [zc])
  |_,_,_=>false
 |.mm b mx my,.call c=>match c.callee,c.args.toList with
  |.builtin .max,[x,y]=>b&&cQ x mx&&cQ y my
  |.builtin .min,[x,y]=> !b&&cQ x mx&&cQ y my
  |_,_=>false
 |.call m f ms,.call c=>match c.callee with
  |.value (.func g)=>(f==g)&&cz P f&&jB c.args.toList ms
  |_=>false
 |.lv m f ms,.call c=>match c.callee with
  |.value (.func g)=>(f==g)&&cz P f&&jB c.args.toList ms
  |_=>false
 |.lr f ms,.call c=>match c.callee with
  |.value (.func g)=>(f==g)&&cz P f&&jB c.args.toList ms
  |_=>false
 |.nM f ms,.call c=>match c.callee with
  |.value (.func g)=>(f==g)&&cz P f&&jB c.args.toList ms
  |_=>false
 |.mD f ms,.call c=>match c.callee with
  |.value (.func g)=>(f==g)&&cz P f&&jB c.args.toList ms
  |_=>false
 |.nN m f ms,.call c=>match c.callee with
  |.value (.func g)=>(f==g)&&cz P f&&jB c.args.toList ms
  |_=>false
 |.o8 m f mx ms,.call c=>match c.callee with
  |.value (.tmp t)=>cz P f&&cQ (.tmp t) mx&&jB c.args.toList ms
  |_=>false
 |.re f ms,.makeFunc (.func g) first xs=>(f==g)&&first.isEmpty&&cz P f&&jB xs.toList ms
 |_,_=>false
theorem Ql:∀{xs:List Operand} {ms:List MO},jB xs ms=true->xs.length=ms.length/\∀(j:Nat) (x:Operand) (m:MO),xs[j]? =some x->ms[j]? =some m->cQ x m=true
 |[],[],_=>⟨rfl,by simp⟩
 |x::xs,m::ms,hc=>by
  simp only[jB,zaa] at hc;obtain⟨i1,i2⟩:=Ql hc.2;refine⟨by simp[i1],fun j x' m' hj hm=>?_⟩;cases j with
  |zero=>simp at hj hm;subst hj;subst hm;exact hc.1
  |succ j=>exact i2 j x' m' (by simpa using hj) (by simpa using hm)
 |[],_::_,hc=>by simp[jB] at hc
 |_::_,[],hc=>by simp[jB] at hc
section
variable {B:Nat} {E:Ex} {w0 w w':World} {G G':Gh} {h h':Nat->Option av} {used used':Nat->Bool} {tk:List PC} {N:Nat}
variable {P:Program} {o:Oper} {a:Act} {σ σ':St} {Q:Exit->Act->World->Prop}
theorem ajF (r:R B E w0 N σ a w G) {T:aZ} (D5:De P T) {f:FuncId} {ms:List MO} (hN:∀n,o.dst=some n->n<N) (hc:fM P o (.mD f ms)=true) (hx:exec T o.dst (.mD f ms) σ=some σ'):o.wp P a w (Nx B E w0 N σ') Q:=by
 obtain⟨dst,op,ty,pos,after,guard⟩:=o;cases op<;>simp only[fM] at hc<;>first|cases hc|skip
 rename_i c;obtain⟨callee,args,argTypes⟩:=c;split at hc
 ·rename_i g cY;simp only at cY;subst cY;simp only[zaa,beq_iff_eq] at hc;obtain⟨⟨rfl,c1⟩,c2⟩:=hc;simp only[exec] at hx;split at hx
  ·rename_i v0 uL;injection hx with hx;subst hx;exact Zd r D5 hN rfl c1 c2 (aiZ uL σ)
  ·cases hx
 ·cases hc
theorem ajG (r:R B E w0 N σ a w G) {T:aZ} (D6:yI P T) {f:FuncId} {ms:List MO} (hN:∀n,o.dst=some n->n<N) (hc:fM P o (.nM f ms)=true) (hx:exec T o.dst (.nM f ms) σ=some σ'):o.wp P a w (Nx B E w0 N σ') Q:=by
 obtain⟨dst,op,ty,pos,after,guard⟩:=o;cases op<;>simp only[fM] at hc<;>first|cases hc|skip
 rename_i c;obtain⟨callee,args,argTypes⟩:=c;split at hc
 ·rename_i g cY;simp only at cY;subst cY;simp only[zaa,beq_iff_eq] at hc;obtain⟨⟨rfl,c1⟩,c2⟩:=hc;simp only[exec] at hx;split at hx
  ·rename_i v0 uL;injection hx with hx;subst hx;exact ajo r D6 hN rfl c1 c2 uL
  ·cases hx
 ·cases hc
theorem ajH (r:R B E w0 N σ a w G) {T:aZ} (D6:yI P T) {m:Mode} {f:FuncId} {ms:List MO} (hN:∀n,o.dst=some n->n<N) (hc:fM P o (.nN m f ms)=true) (hx:exec T o.dst (.nN m f ms) σ=some σ'):o.wp P a w (Nx B E w0 N σ') Q:=by
 obtain⟨dst,op,ty,pos,after,guard⟩:=o;cases op<;>simp only[fM] at hc<;>first|cases hc|skip
 rename_i c;obtain⟨callee,args,argTypes⟩:=c;split at hc
 ·rename_i g cY;simp only at cY;subst cY;simp only[zaa,beq_iff_eq] at hc;obtain⟨⟨rfl,c1⟩,c2⟩:=hc;simp only[exec] at hx;exact ajp r D6 hN rfl c1 c2 hx
 ·cases hc
theorem ajE (r:R B E w0 N σ a w G) {T:aZ} (D5:De P T) {f:FuncId} {ms:List MO} (hN:∀n,o.dst=some n->n<N) (hc:fM P o (.lr f ms)=true) (hx:exec T o.dst (.lr f ms) σ=some σ'):o.wp P a w (Nx B E w0 N σ') Q:=by
 obtain⟨dst,op,ty,pos,after,guard⟩:=o;cases op<;>simp only[fM] at hc<;>first|cases hc|skip
 rename_i c;obtain⟨callee,args,argTypes⟩:=c;split at hc
 ·rename_i g cY;simp only at cY;subst cY;simp only[zaa,beq_iff_eq] at hc;obtain⟨⟨rfl,c1⟩,c2⟩:=hc;simp only[exec] at hx;exact Zd r D5 hN rfl c1 c2 hx
 ·cases hc
set_option maxHeartbeats 1000000 in
theorem Zh (r:R B E w0 N σ a w G) {T:aZ} (hT:JW P T) (hTM:Dd P T) (D5:De P T) (D6:yI P T) (hF:∀f M,aZ.find T.pure f=some M->cz P f=true) {mo:aY} (hN:∀n,o.dst=some n->n<N) (hc:fM P o mo=true) (hx:exec T o.dst mo σ=some σ'):
  o.wp P a w (Nx B E w0 N σ') Q:=by
 obtain⟨dst,op,ty,pos,after,guard⟩:=o;cases mo with
 |mv m=>
  simp only[exec] at hx;injection hx with hx;subst hx;cases op<;>simp only[fM] at hc<;>first|cases hc|skip
  ·exact Zg r (.inl rfl) hN hc
  ·exact Zg r (.inr rfl) hN hc
 |pick c x y=>
  cases op<;>simp only[fM] at hc<;>first|cases hc|skip
  rename_i c' x' y';simp only[zaa] at hc;simp only[exec] at hx;split at hx
  ·rename_i b hb;have:=ajI (P:=P) (Q:=Q) r (o:=⟨dst,.pick c' x' y',ty,pos,after,guard⟩) rfl hN hc.1.1 hc.1.2 hc.2 hb;cases b<;>simp at hx<;>subst hx<;>exact this
  ·cases hx
 |alloc zs=>
  cases op<;>simp only[fM] at hc<;>first|cases hc|skip
  obtain⟨i,z,h1,h2,h3⟩:=Yr hc;simp only[exec] at hx;split at hx
  ·rename_i n;split at hx
   ·rename_i σ1 hi;injection hx with hx;subst hx;exact aje r rfl rfl (hN n rfl) h1 h2 h3 hi
   ·cases hx
  ·cases hx
 |box sz m=>
  cases op<;>simp only[fM] at hc<;>first|cases hc|skip
  simp only[exec] at hx;split at hx
  ·rename_i n ag cs gz;split at hx
   ·split at hx
    ·rename_i σ1 hi;injection hx with hx;subst hx;exact aji r rfl rfl (hN _ rfl) hc gz hi
    ·cases hx
   ·cases hx
  ·cases hx
 |build zs ms=>
  cases op<;>simp only[fM] at hc<;>first|cases hc|skip
  simp only[exec] at hx;split at hx
  ·rename_i cs gz;injection hx with hx;subst hx;unfold Ym at hc;split at hc
   ·rename_i yY hu;split at hc
    ·rename_i places jk;simp only[zaa] at hc;obtain⟨i,z,h1,h2,h3⟩:=Yr hc.1;exact ajk r rfl hN h1 h2 hu jk h3 hc.2 gz
    ·cases hc
   ·cases hc
  ·cases hx
 |hZ sz ms=>
  cases op<;>simp only[fM] at hc<;>first|cases hc|skip
  simp only[zaa,beq_iff_eq,decide_eq_true_eq] at hc;obtain⟨⟨⟨⟨c1,c2⟩,c3⟩,c4⟩,c5⟩:=hc;obtain⟨e,i,z,h1,h2,h3,h4,h5,_⟩:=DD c1;simp only[exec] at hx;split at hx
  ·rename_i n es ow σ1 Em;split at hx
   ·rename_i σ2 hi;injection hx with hx;subst hx;refine ajj r rfl rfl (hN _ rfl) h1 h2 h3 h4 h5 c2 c3 c4 (fun j p m hp hm=>?_) Em hi;exact(Ql c5).2 j p.2 m (by simp[hp]) hm
   ·cases hx
  ·cases hx
 |load ag sz m=>
  cases op<;>simp only[fM] at hc<;>first|cases hc|skip
  simp only[zaa] at hc;simp only[exec] at hx;split at hx
  ·rename_i p hp;split at hx
   ·rename_i cs gz;injection hx with hx;subst hx;exact ajA r rfl hN hc.1 hc.2 hp gz
   ·cases hx
  ·cases hx
 |rZ ag sz m=>
  cases op<;>simp[fM] at hc
 |store sz mx my=>
  cases op<;>simp only[fM] at hc<;>first|cases hc|skip
  simp only[zaa] at hc;obtain⟨⟨⟨c0,c1⟩,c2⟩,c3⟩:=hc;have hd:dst=none:=by simpa using c0
  unfold Yq at c3;split at c3
  ·rename_i i hi;simp only[zaa,beq_iff_eq,decide_eq_true_eq] at c3;simp only[exec] at hx;split at hx
   ·rename_i n k aR off ag vs hp hv;split at hx
    ·rename_i hl;split at hx
     ·rename_i cs hn;split at hx
      ·rename_i hk;injection hx with hx;subst hx;exact ajJ r rfl hd c1 c2 hi c3.1 c3.2 hp hv hl hn hk.1 hk.2
      ·cases hx
     ·rename_i gr m rs xs hn;split at hx
      ·rename_i xE;subst xE;split at hx
       ·rename_i el qg;exact ajL r rfl hd c1 c2 hi c3.1 c3.2 hp hv hl hn qg hx
       ·cases hx
      ·cases hx
     ·cases hx
    ·cases hx
   ·rename_i n k aR off s i ag vs hp hv;split at hx
    ·rename_i hl;split at hx
     ·rename_i gr rs xs hn;split at hx
      ·rename_i xE;subst xE;split at hx
       ·rename_i az kQ;injection hx with hx;subst hx;exact ajK r rfl hd c1 c2 hi c3.1 c3.2 hp hv hl hn kQ
       ·cases hx
      ·cases hx
     ·cases hx
    ·cases hx
   ·cases hx
  ·cases c3
 |jM m=>
  cases op<;>simp only[fM] at hc<;>first|cases hc|skip
  simp only[exec] at hx;split at hx
  ·rename_i n k sz off hp;split at hx
   ·rename_i hn;injection hx with hx;subst hx;rw[<-hp];exact QI r rfl hN hc (.inl ⟨_,_,_,_,hp,hn⟩)
   ·cases hx
  ·rename_i xs off hp;injection hx with hx;subst hx;rw[<-hp];exact QI r rfl hN hc (.inr (.inl ⟨_,_,hp⟩))
  ·rename_i xs off j n s len hp;injection hx with hx;subst hx;rw[<-hp];exact QI r rfl hN hc (.inr (.inr ⟨_,_,_,_,_,_,hp⟩))
  ·cases hx
 |bin zM mx my=>
  cases op<;>simp only[fM] at hc<;>first|cases hc|skip
  simp only[zaa,decide_eq_true_eq] at hc;obtain⟨⟨rfl,c1⟩,c2⟩:=hc;simp only[exec] at hx;split at hx
  ·rename_i c hb;injection hx with hx;subst hx;exact ajg r rfl hN c1 c2 hb
  ·cases hx
 |rB zM mx my=>
  cases op<;>simp only[fM] at hc<;>first|cases hc|skip
  simp only[zaa,decide_eq_true_eq] at hc;obtain⟨⟨⟨rfl,c1⟩,c2⟩,c3⟩:=hc;unfold abp at c3;split at c3
  ·rename_i ht;simp only[exec] at hx;split at hx
   ·rename_i c hb;injection hx with hx;subst hx;exact ajh r rfl hN c1 c2 ht hb
   ·cases hx
  ·cases c3
 |un zM mx=>
  cases op<;>simp only[fM] at hc<;>first|cases hc|skip
  simp only[zaa,decide_eq_true_eq] at hc;obtain⟨rfl,c1⟩:=hc;simp only[exec] at hx;split at hx
  ·rename_i c hb;injection hx with hx;subst hx;exact ajM r rfl hN c1 hb
  ·cases hx
 |conv k mx=>
  cases op<;>simp only[fM] at hc<;>first|cases hc|skip
  simp only[zaa] at hc;obtain⟨c1,c2⟩:=hc;unfold Yo at c2;split at c2
  ·rename_i d k' ht hu;have hk:k=k':=by simpa using c2
   subst hk;simp only[exec] at hx;split at hx
   ·rename_i k2 n hb;injection hx with hx;subst hx;exact ajr r rfl hN c1 ht hu hb
   ·cases hx
  ·cases c2
 |jK m sz by_ zs ml mc=>
  cases op<;>simp only[fM] at hc<;>first|cases hc|skip
  simp only[zaa] at hc;obtain⟨⟨c1,c2⟩,c3⟩:=hc;obtain⟨e,i,z,h1,h2,h3,h4,h5,h6⟩:=DD c3;simp only[zaa,beq_iff_eq,decide_eq_true_eq] at h6;simp only[exec] at hx;split at hx
  ·rename_i n q q' hq gj;split at hx
   ·rename_i dP;obtain⟨k1,k2,k3,k4⟩:=dP;split at hx
    ·rename_i σ1 hi;injection hx with hx;subst hx;exact ajC r rfl rfl (hN _ rfl) c1 c2 h1 h2 h3 h4 h6.1.1 h6.1.2 h5 h6.2 hq gj k1 k2 k3 k4 hi
    ·cases hx
   ·cases hx
  ·cases hx
 |slice sz mx Nt Nr=>
  cases op<;>simp only[fM] at hc<;>first|cases hc|skip
  rename_i t x lo hi mm;cases mm<;>simp only[fM] at hc<;>first|cases hc|skip
  simp only[zaa] at hc;obtain⟨⟨⟨c1,c2⟩,c3⟩,c4⟩:=hc;obtain⟨e,i,z,h1,h2,h3,h4,h5,_⟩:=DD c4;have uI:∀l,(match Nt with|none=>some 0|some l=>(σ.ev l).eV)=some l->(lo=none/\l=0)\/∃y my,lo=some y/\cQ y my=true/\(σ.ev my).eV=some l:=by
   intro l hl;cases Nt with
   |none=>cases lo<;>simp[DA] at c2;simp at hl;exact .inl ⟨rfl,hl.symm⟩
   |some my=>cases lo<;>simp[DA] at c2;exact .inr ⟨_,my,rfl,c2,hl⟩
  have xt:∀(len:Nat) hh,(match Nr with|none=>some (len:Int)|some h=>(σ.ev h).eV)=some hh->(hi=none/\hh=len)\/∃y my,hi=some y/\cQ y my=true/\(σ.ev my).eV=some hh:=by
   intro len l hl;cases Nr with
   |none=>cases hi<;>simp[DA] at c3;simp at hl;exact .inl ⟨rfl,hl.symm⟩
   |some my=>cases hi<;>simp[DA] at c3;exact .inr ⟨_,my,rfl,c3,hl⟩
  simp only[exec] at hx;split at hx
  ·rename_i n s l0 len l hp hl;split at hx
   ·rename_i hh RP;split at hx
    ·rename_i dP;obtain⟨rfl,k1,k2,k3,k4⟩:=dP;injection hx with hx;subst hx;exact Zi r rfl hN c1 h1 h2 h4 h5 (uI l hl) (xt len hh RP) k1 k2 k3 (.inl ⟨n,l0,hp,k4,rfl⟩)
    ·cases hx
   ·cases hx
  ·rename_i s xs l hp hl;split at hx
   ·rename_i hh RP;split at hx
    ·rename_i dP;obtain⟨rfl,k1,k2,k3⟩:=dP;injection hx with hx;subst hx;exact Zi r rfl hN c1 h1 h2 h4 h5 (uI l hl) (xt xs.length hh RP) k1 k2 k3 (.inr ⟨xs,hp,rfl,rfl⟩)
    ·cases hx
   ·cases hx
  ·cases hx
 |tail sz mx ml=>
  cases op<;>simp[fM] at hc
 |qd off mx=>
  cases op<;>simp only[fM] at hc<;>first|cases hc|skip
  simp only[zaa] at hc;simp only[exec] at hx;split at hx
  ·rename_i n k sz q hp;split at hx
   ·rename_i hn;injection hx with hx;subst hx;exact QH r rfl hN hc.1 hc.2 (.inl ⟨_,_,_,_,hp,hn,rfl⟩)
   ·cases hx
  ·rename_i xs q hp;injection hx with hx;subst hx;exact QH r rfl hN hc.1 hc.2 (.inr (.inl ⟨_,_,hp,rfl⟩))
  ·rename_i xs q j n s len hp;injection hx with hx;subst hx;exact QH r rfl hN hc.1 hc.2 (.inr (.inr ⟨_,_,_,_,_,_,hp,rfl⟩))
  ·cases hx
 |pC sz mx mi=>
  cases op<;>simp only[fM] at hc<;>first|cases hc|skip
  simp only[zaa] at hc;obtain⟨⟨c1,c2⟩,c3⟩:=hc;obtain⟨e,i,z,h1,h2,h3,h4,h5,_⟩:=DD c3;simp only[exec] at hx;split at hx
  ·rename_i n s lo len k hp hk;split at hx
   ·rename_i dP;obtain⟨rfl,k1,k2,k3⟩:=dP;injection hx with hx;subst hx;exact Zf r rfl hN c1 c2 h1 h2 h4 hk k1 (.inl ⟨_,_,_,hp,k2,k3,rfl⟩)
   ·cases hx
  ·rename_i s xs k hp hk;split at hx
   ·rename_i dP;obtain⟨rfl,k1⟩:=dP;split at hx
    ·rename_i el qg;injection hx with hx;subst hx;exact Zf r rfl hN c1 c2 h1 h2 h4 hk k1 (.inr ⟨_,_,hp,qg,rfl⟩)
    ·cases hx
   ·cases hx
  ·rename_i n kk aR off s len k hp hk;split at hx
   ·rename_i s' ys Su;split at hx
    ·rename_i dP;obtain⟨rfl,k1,k2⟩:=dP;injection hx with hx;subst hx;exact ajz r rfl hN c1 c2 h1 h2 h4 hk k1 k2 hp Su
    ·cases hx
   ·cases hx
  ·cases hx
 |ext i mx=>
  cases op<;>simp only[fM] at hc<;>first|cases hc|skip
  simp only[zaa,beq_iff_eq] at hc;obtain⟨rfl,c1⟩:=hc;simp only[exec] at hx;split at hx
  ·rename_i xs hp;split at hx
   ·rename_i ag cs gz;injection hx with hx;subst hx;refine ajy r rfl hN c1 hp gz fun cj=>?_;subst cj;obtain⟨y1,_⟩:=r.ev c1;rw[hp] at y1;obtain⟨vs,_,hl,hv⟩:=y1;have hi:i<vs.length:=by rw[hl];exact(zah.1 gz).1
    have:dT w G σ.h cs [vs[i]]:=hv i (false,cs) vs[i] gz (zad hi);exact zaX.1 this.1.symm
   ·cases hx
  ·cases hx
 |sW ag off sz mx=>
  cases op<;>simp[fM] at hc
 |sk f fZ mx=>
  cases op<;>simp[fM] at hc
 |len mx=>
  cases op<;>simp only[fM] at hc<;>first|cases hc|skip
  rename_i c;obtain⟨callee,args,argTypes⟩:=c;split at hc
  ·rename_i x t cY ha ht;simp only at cY ha ht;subst cY;have xk:args=#[x]:=by apply zau;exact ha
   have Hl:argTypes=#[t]:=by apply zau;exact ht
   subst xk Hl;simp only[zaa] at hc;obtain⟨c1,c2⟩:=hc;split at c2
   ·rename_i e hu;simp only[exec] at hx;split at hx
    ·rename_i n sz lo len hp;split at hx
     ·rename_i hn;injection hx with hx;subst hx;exact LR r rfl hN c1 hu (.inl ⟨_,_,_,hp,hn⟩)
     ·cases hx
    ·rename_i sz xs hp;injection hx with hx;subst hx;exact LR r rfl hN c1 hu (.inr (.inl ⟨_,_,hp,rfl⟩))
    ·rename_i sz hp;injection hx with hx;subst hx;exact LR r rfl hN c1 hu (.inr (.inr (.inl ⟨_,hp,rfl⟩)))
    ·rename_i n k aR off sz len hp;split at hx
     ·rename_i s ys vV;injection hx with hx;subst hx;exact LR r rfl hN c1 hu (.inr (.inr (.inr ⟨_,_,_,_,_,_,_,_,hp,vV,rfl⟩)))
     ·cases hx
    ·cases hx
   ·cases c2
  ·cases hc
 |append fl sz by_ mx my=>
  cases op<;>simp only[fM] at hc<;>first|cases hc|skip
  rename_i c;obtain⟨callee,args,argTypes⟩:=c;split at hc
  ·rename_i x y t t' cY ha ht;simp only at cY ha ht;subst cY;have xk:args=#[x,y]:=by apply zau;exact ha
   have Hl:argTypes=#[t,t']:=by apply zau;exact ht
   subst xk Hl;simp only[zaa,beq_iff_eq] at hc;obtain⟨⟨⟨rfl,c1⟩,c2⟩,c3⟩:=hc;obtain⟨e,i,z,h1,h2,h3,h4,h5,h6⟩:=DD c3;simp only[zaa,beq_iff_eq,decide_eq_true_eq] at h6;simp only[exec] at hx;split at hx
   ·cases hx
   ·rename_i n;split at hx
    ·cases hx
    ·rename_i xs m σ1 hl;split at hx
     ·cases hx
     ·rename_i ys m2 σ2 hr;split at hx
      ·rename_i hb;split at hx
       ·rename_i iD hi;injection hx with hx;subst hx;exact ajf r rfl rfl (hN _ rfl) c1 c2 h1 h2 h3 h4 h5 h6.1.1 h6.1.2 h6.2 hl hr hb hi
       ·cases hx
      ·cases hx
  ·cases hc
 |copy sz mx my=>
  cases op<;>simp[fM] at hc
 |m6 zc mx=>
  cases op<;>simp only[fM] at hc<;>first|cases hc|skip
  rename_i c;obtain⟨callee,args,argTypes⟩:=c;split at hc
  ·rename_i x t cY ha ht;simp only at cY ha ht;subst cY;have xk:args=#[x]:=by apply zau;exact ha
   have Hl:argTypes=#[t]:=by apply zau;exact ht
   subst xk Hl;simp only[zaa] at hc;obtain⟨c1,c3⟩:=hc;obtain⟨e,i,z,h1,h2,h3,h4,h5,h6⟩:=DD c3;simp only[exec] at hx;split at hx
   ·rename_i n s lo len hp;split at hx
    ·rename_i gr m rs xs hn;split at hx
     ·rename_i dP;obtain⟨rfl,rfl,k0,k1,k2,k3⟩:=dP;injection hx with hx;subst hx;exact ajq r rfl hN c1 h1 h2 h3 h6 k0 hp hn k1 k2 k3
     ·cases hx
    ·cases hx
   ·cases hx
  ·cases hc
 |mm b mx my=>
  cases op<;>simp only[fM] at hc<;>first|cases hc|skip
  rename_i c;obtain⟨callee,args,argTypes⟩:=c;have cI:∀x y,callee=.builtin (if b=true then .max else .min)->args=#[x,y]->cQ x mx=true->cQ y my=true->
    Oper.wp P ⟨dst,.call ⟨callee,args,argTypes⟩,ty,pos,after,guard⟩ a w (Nx B E w0 N σ') Q:=by
   intro x y cY ha c1 c2;subst cY ha;simp only[exec] at hx;split at hx
   ·rename_i k n k' m h1 h2;have:=ajD (P:=P) (Q:=Q) (mx':=b) r (o:=⟨dst,.call ⟨.builtin (if b=true then .max else .min),#[x,y],argTypes⟩,ty,pos,after,guard⟩) rfl hN c1 c2 h1 h2
    cases b
    ·simp at hx this;split at hx<;>(rename_i cD;injection hx with hx;subst hx;simpa[cD] using this)
    ·simp at hx this;split at hx<;>(rename_i cD;injection hx with hx;subst hx;simpa[cD] using this)
   ·cases hx
  split at hc
  ·rename_i x y cY ha;simp only[zaa] at hc;obtain⟨⟨rfl,c1⟩,c2⟩:=hc;exact cI x y cY (by apply zau;exact ha) c1 c2
  ·rename_i x y cY ha;simp only[zaa,Bool.not_eq_true'] at hc;obtain⟨⟨rfl,c1⟩,c2⟩:=hc;exact cI x y cY (by apply zau;exact ha) c1 c2
  ·cases hc
 |call m f ms=>
  cases op<;>simp only[fM] at hc<;>first|cases hc|skip
  rename_i c;obtain⟨callee,args,argTypes⟩:=c;split at hc
  ·rename_i g cY;simp only at cY;subst cY;simp only[zaa,beq_iff_eq] at hc;obtain⟨⟨rfl,c1⟩,c2⟩:=hc;exact ajl r hT hN rfl c1 c2 hx
  ·cases hc
 |qa f ms=>
  cases op<;>simp[fM] at hc
 |lv m f ms=>
  cases op<;>simp only[fM] at hc<;>first|cases hc|skip
  rename_i c;obtain⟨callee,args,argTypes⟩:=c;split at hc
  ·rename_i g cY;simp only at cY;subst cY;simp only[zaa,beq_iff_eq] at hc;obtain⟨⟨rfl,c1⟩,c2⟩:=hc;simp only[exec] at hx;exact ajm r hTM hN rfl c1 c2 hx
  ·cases hc
 |lr f ms=>exact ajE r D5 hN hc hx
 |nM f ms=>exact ajG r D6 hN hc hx
 |mD f ms=>exact ajF r D5 hN hc hx
 |nN m f ms=>exact ajH r D6 hN hc hx
 |o8 m f mx ms=>
  cases op<;>simp only[fM] at hc<;>first|cases hc|skip
  rename_i c;obtain⟨callee,args,argTypes⟩:=c;split at hc
  ·rename_i t cY;simp only at cY;subst cY;simp only[zaa] at hc;simp only[exec] at hx;split at hx
   ·rename_i g c9 hp;split at hx
    ·rename_i hg;subst hg;exact ajn r hTM hN rfl hc.1.1 hc.1.2 hc.2 hp hx
    ·cases hx
   ·cases hx
  ·cases hc
 |re f ms=>
  cases op<;>simp only[fM] at hc<;>first|cases hc|skip
  rename_i fn first xs
  cases fn<;>simp only at hc<;>first|cases hc|skip
  simp only[zaa,beq_iff_eq] at hc;obtain⟨⟨⟨rfl,c0⟩,c1⟩,c2⟩:=hc;have hf0:first=#[]:=by simpa using c0
  subst hf0;obtain⟨g1,g2⟩:=Ql c2;simp only[exec] at hx;split at hx
  ·rename_i cs gz;split at hx
   ·rename_i hj;injection hx with hx;subst hx;exact ajB r rfl hN ⟨by simpa using g1.symm,g2⟩ gz (fun c hc iu=>by
     have:=zaf.1 hj c hc;subst iu;simp[aj.Ie] at this)
   ·cases hx
  ·cases hx
 |qb m mx ms=>
  cases op<;>simp[fM] at hc
end
def aY.fm:aY->Nat
 |.mv _|.pick ..|.build ..|.bin ..|.rB ..|.un ..|.conv ..|.ext ..|.sW ..|.mm ..|.re ..=>0
 |.alloc _|.box ..|.load ..|.jM _|.jK ..|.slice ..|.qd ..|.pC ..|.len _|.sk ..|.call ..|.qb ..|.qa ..|.nM ..|.mD ..=>1
 |_=>2
def St.dH (σ:St):List (Nat×av)->Option St
 |[]=>some σ
 |(n,b)::l=>match σ.ins n b with
  |some σ1=>σ1.dH l
  |none=>none
def ki (m:Mode):Nat->List C->List aj×Nat×List (Nat×av)
 |nm,[]=>([],nm,[])
 |nm,.list sz xs::cs=>(.sl nm sz 0 xs.length::(ki m (nm+1) cs).1,(ki m (nm+1) cs).2.1,(nm,.row true m sz xs)::(ki m (nm+1) cs).2.2)
 |nm,x::cs=>(.c x::(ki m nm cs).1,(ki m nm cs).2.1,(ki m nm cs).2.2)
def zz (m:Mode):Nat->List Dv->Option (List (Bool×List aj)×List (Nat×av))
 |_,[]=>some ([],[])
 |nm,(.ptr,_)::_=>none
 |nm,(k,cs)::ds=>match zz m (ki m nm cs).2.1 ds with
  |some (ls,bs)=>some ((decide (k=.agg),(ki m nm cs).1)::ls,(ki m nm cs).2.2++bs)
  |none=>none
theorem abj (σ:St) (l l':List (Nat×av)):σ.dH (l++l')=(σ.dH l).bind fun σ1=>σ1.dH l':=by
 induction l generalizing σ with
 |nil=>rfl
 |cons x l ih=>
  obtain⟨n,b⟩:=x;simp only[zaW,St.dH];cases σ.ins n b with
  |none=>rfl
  |some σ1=>exact ih σ1
theorem MR (m:Mode):∀(cs:List C) (σ:St) (nm:Nat),σ.imp m nm cs=(σ.dH (ki m nm cs).2.2).map fun σ1=>((ki m nm cs).1,(ki m nm cs).2.1,σ1)
 |[],σ,nm=>rfl
 |.list sz xs::cs,σ,nm=>by
  simp only[St.imp,ki,St.dH];cases σ.ins nm (.row true m sz xs) with
  |none=>rfl
  |some σ1=>
   simp only[MR m cs];cases σ1.dH (ki m (nm+1) cs).2.2<;>rfl
 |.int k n::cs,σ,nm=>by
  simp only[St.imp,ki,MR m cs];cases σ.dH (ki m nm cs).2.2<;>rfl
 |.bool b::cs,σ,nm=>by
  simp only[St.imp,ki,MR m cs];cases σ.dH (ki m nm cs).2.2<;>rfl
theorem SK (m:Mode):∀(ds:List Dv) (σ:St) (nm:Nat),σ.kG m nm ds=(zz m nm ds).bind fun x=>(σ.dH x.2).map fun σ1=>(x.1,σ1)
 |[],σ,nm=>rfl
 |(k,cs)::ds,σ,nm=>by
  have cI:(match σ.imp m nm cs with
    |some (l,gV,σ1)=>match σ1.kG m gV ds with
     |some (ls,σ2)=>some ((decide (k=K.agg),l)::ls,σ2)
     |none=>none
    |none=>none)=(match zz m (ki m nm cs).2.1 ds with
    |some (ls,bs)=>some ((decide (k=K.agg),(ki m nm cs).1)::ls,(ki m nm cs).2.2++bs)
    |none=>none).bind fun x=>(σ.dH x.2).map fun σ1=>(x.1,σ1):=by
   rw[MR];have ih:=fun(σ1:St)=>SK m ds σ1 (ki m nm cs).2.1;cases h1:σ.dH (ki m nm cs).2.2 with
   |none=>
    cases h2:zz m (ki m nm cs).2.1 ds with
    |none=>rfl
    |some x=>simp[abj,h1]
   |some σ1=>
    simp only[zab,ih];cases h2:zz m (ki m nm cs).2.1 ds with
    |none=>rfl
    |some x=>
     simp[abj,h1];cases σ1.dH x.2<;>rfl
  cases k with
  |ptr=>rfl
  |one=>exact cI
  |agg=>exact cI
def Du (T:aZ) (m:Mode) (d:Option Nat) (f:FuncId) (as:List ao) (h:Nat->Option av):Option (ao×List (Nat×av)):=
 match ot h as with
 |some ds=>match aZ.find T.pure f with
  |some M=>match M ds with
   |some rs=>match zz m (tw d) rs with
    |some (ls,bs)=>some (nC ls,bs)
    |none=>none
   |none=>none
  |none=>none
 |none=>none
def acb (vs:List ao) (f:FuncId):Option ao:=
 match vs.mapM (fun v=>match v with|.one c=>if c.nZ=true then none else some c|_=>none) with
 |some cs=>if cs.all aj.Ie=true then some (.one (.fn f cs)) else none
 |none=>none
def rd (T:aZ) (d:Option Nat) (op:aY) (ev:MO->ao) (h:Nat->Option av):Option (ao×List (Nat×av)):=
 match op with
 |.mv x=>some (ev x,[])
 |.pick c x y=>match ev c with
  |.one (.c (.bool b))=>if b=true then some (ev x,[]) else some (ev y,[])
  |_=>none
 |.build zs parts=>match sr ev zs parts with
  |some cs=>some (.agg cs,[])
  |none=>none
 |.bin op x y=>match yP op (ev x) (ev y) with
  |some c=>some (.one (.c c),[])
  |none=>none
 |.rB op x y=>match Dq op (ev x) (ev y) with
  |some c=>some (.one (.c c),[])
  |none=>none
 |.un op x=>match FH op (ev x) with
  |some c=>some (.one (.c c),[])
  |none=>none
 |.conv k x=>match ev x with
  |.one (.c (.int _ n))=>some (.one (.c (.int k (k.wrap n))),[])
  |_=>none
 |.ext i x=>match ev x with
  |.cf xs=>match xs[i]? with
   |some (ag,cs)=>some (pT ag cs,[])
   |none=>none
  |_=>none
 |.sW ag off sz x=>match ev x with
  |.agg cs=>match sub cs off sz with
   |some l=>some (pT ag l,[])
   |none=>none
  |_=>none
 |.sk f fZ x=>match ev x with
  |.one (.sl n sz lo len)=>if(h n).isSome=true then some (.agg (Cm fZ len (.sl n sz lo len)),[]) else none
  |.one (.c (.list sz xs))=>some (.agg (Cm fZ xs.length (.c (.list sz xs))),[])
  |.one (.nil sz)=>some (.agg (Cm fZ 0 (.nil sz)),[])
  |_=>none
 |.mm mx x y=>match ev x,ev y with
  |.one (.c (.int k a)),.one (.c (.int k' b))=>if mx=true then(if a<b then some (.one (.c (.int k b)),[]) else some (.one (.c (.int k a)),[]))
   else(if b<a then some (.one (.c (.int k b)),[]) else some (.one (.c (.int k a)),[]))
  |_,_=>none
 |.re f xs=>match acb (xs.map ev) f with
  |some v=>some (v,[])
  |none=>none
 |.alloc zs=>match d with
  |some n=>some (.one (.ptr n 0 0 0),[(n,.box zs)])
  |none=>none
 |.box sz x=>match d,(ev x).cells? with
  |some n,some (_,cs)=>if cs.length=sz then some (.one (.ptr n 0 0 0),[(n,.box cs)]) else none
  |_,_=>none
 |.load ag sz x=>match ev x with
  |.one p=>match loadAt h p sz with
   |some cs=>some (pT ag cs,[])
   |none=>none
  |_=>none
 |.jM x=>match ev x with
  |.one (.ptr n k sz off)=>if(h n).isSome=true then some (.one (.ptr n k sz off),[]) else none
  |.one (.dr xs off)=>some (.one (.dr xs off),[])
  |.one (.cN xs off j n s len)=>some (.one (.cN xs off j n s len),[])
  |_=>none
 |.jK m sz by_ zs l c=>match d,(ev l).eV,(ev c).eV with
  |some n,some a,some b=>if a<=b/\0<=a/\b.toNat*by_<=fe/\zs.length=sz then
   some (.one (.sl n sz 0 a.toNat),[(n,.row true m sz (List.replicate a.toNat zs))])
   else none
  |_,_,_=>none
 |.slice sz x lo hi=>
  let TB:Option Int:=match lo with|none=>some 0|some l=>(ev l).eV
  match ev x,TB with
  |.one (.sl n s l0 len),some l=>
   match(match hi with|none=>some (len:Int)|some h=>(ev h).eV) with
   |some hh=>if s=sz/\0<=l/\l<=hh/\hh<=len/\(h n).isSome=true then some (.one (.sl n s (l0+l.toNat) (hh - l).toNat),[]) else none
   |none=>none
  |.one (.c (.list s xs)),some l=>
   match(match hi with|none=>some (xs.length:Int)|some h=>(ev h).eV) with
   |some hh=>if s=sz/\0<=l/\l<=hh/\hh<=xs.length then some (.one (.c (.list s ((xs.drop l.toNat).take (hh - l).toNat))),[]) else none
   |none=>none
  |_,_=>none
 |.qd off x=>match ev x with
  |.one (.ptr n k sz o)=>if(h n).isSome=true then some (.one (.ptr n k sz (o+off)),[]) else none
  |.one (.dr xs o)=>some (.one (.dr xs (o+off)),[])
  |.one (.cN xs o j n s len)=>some (.one (.cN xs (o+off) j n s len),[])
  |_=>none
 |.pC sz x i=>match ev x,(ev i).eV with
  |.one (.sl n s lo len),some k=>if s=sz/\0<=k/\k<len/\(h n).isSome=true then some (.one (.ptr n (lo+k.toNat) s 0),[]) else none
  |.one (.c (.list s xs)),some k=>if s=sz/\0<=k then
   match xs[k.toNat]? with
   |some e=>some (.one (.dr e 0),[])
   |none=>none
   else none
  |.one (.ct n kk aR off s len),some k=>match dq h (.ct n kk aR off s len) with
   |some (.list s' ys)=>if s'=sz/\0<=k/\k<ys.length then some (.one (.dY n kk aR off sz k.toNat),[]) else none
   |_=>none
  |_,_=>none
 |.len x=>match ev x with
  |.one (.sl n sz lo len)=>if(h n).isSome=true then some (.one (.c (.int .i64 len)),[]) else none
  |.one (.c (.list sz xs))=>some (.one (.c (.int .i64 xs.length)),[])
  |.one (.nil sz)=>some (.one (.c (.int .i64 0)),[])
  |.one (.ct n k aR off sz len)=>match dq h (.ct n k aR off sz len) with
   |some (.list s ys)=>some (.one (.c (.int .i64 ys.length)),[])
   |_=>none
  |_=>none
 |.call m f xs=>Du T m d f (xs.map ev) h
 |.qa f xs=>(Dw T f (xs.map ev) h).map fun v=>(v,[])
 |.nM f xs=>(rH T f (xs.map ev) h).map fun v=>(v,[])
 |.mD f xs=>(A6 T f (xs.map ev)).map fun v=>(v,[])
 |.qb m x xs=>match ev x with
  |.one (.fn f c9)=>Du T m d f (xs.map ev++c9.map .one) h
  |_=>none
 |_=>none
def fin (d:Option Nat) (σ:St) (x:ao×List (Nat×av)):Option St:=(σ.dH x.2).map (·.put d x.1)
theorem YT (T:aZ) (m:Mode) (d:Option Nat) (f:FuncId) (as:List ao) (σ:St):w7 T m d f as σ=(Du T m d f as σ.h).bind (fin d σ):=by
 unfold w7 Du;cases ot σ.h as with
 |none=>rfl
 |some ds=>
  simp only
  cases aZ.find T.pure f with
  |none=>rfl
  |some M=>
   simp only
   cases M ds with
   |none=>rfl
   |some rs=>
    simp only[SK];cases zz m (tw d) rs with
    |none=>rfl
    |some x=>
     simp only[zai,fin];cases σ.dH x.2<;>rfl
theorem rK (T:aZ) (d:Option Nat) (op:aY) (σ:St) (hc:op.fm<=1):exec T d op σ=(rd T d op σ.ev σ.h).bind (fin d σ):=by
 cases op<;>simp only[aY.fm] at hc<;>first|omega|skip
 case call m f xs=>exact YT _ _ _ _ _ _
 case qa f xs=>
  simp only[exec,rd];cases Dw T f (xs.map σ.ev) σ.h with
  |none=>rfl
  |some v=>rfl
 case nM f xs=>
  simp only[exec,rd];cases rH T f (xs.map σ.ev) σ.h with
  |none=>rfl
  |some v=>rfl
 case mD f xs=>
  simp only[exec,rd];cases A6 T f (xs.map σ.ev) with
  |none=>rfl
  |some v=>rfl
 case qb m x xs=>
  simp only[exec,rd];split
  ·rename_i f c9 h1;simp only[h1];exact YT _ _ _ _ _ _
  ·rename_i dF;split
   ·rename_i f c9 h1;exact absurd h1 (dF f c9)
   ·rfl
 case alloc zs=>
  simp only[exec,rd];split
  ·rename_i n;simp only[zai,fin,St.dH];cases σ.ins n (.box zs)<;>rfl
  ·rfl
 case box sz x=>
  simp only[exec,rd];split
  ·rename_i n ag cs h1;simp only[h1];split
   ·simp only[zai,fin,St.dH];cases σ.ins n (.box cs)<;>rfl
   ·rfl
  ·rename_i dF;split
   ·rename_i n ag cs h1;exact absurd h1 (dF n ag cs rfl)
   ·rfl
 case jK m sz by_ zs l c=>
  simp only[exec,rd];split
  ·rename_i n a b h1 h2;simp only[h1,h2];split
   ·simp only[zai,fin,St.dH];cases σ.ins n (.row true m sz (List.replicate a.toNat zs))<;>rfl
   ·rfl
  ·rename_i dF;split
   ·rename_i n a b h1 h2;exact absurd h2 (dF n a b rfl h1)
   ·rfl
 case re f xs=>
  simp only[exec,rd,acb];cases (xs.map σ.ev).mapM (fun v=>match v with|.one c=>if c.nZ=true then none else some c|_=>none) with
  |none=>rfl
  |some cs=>
   simp only
   split<;>rfl
 case mv x=>rfl
 case pick c x y=>
  simp only[exec,rd];generalize σ.ev c=v;cases v with
  |one v=>cases v with
   |c v=>cases v with
    |bool b=>cases b<;>rfl
    |_=>rfl
   |_=>rfl
  |_=>rfl
 case build zs ps=>simp only[exec,rd];cases sr σ.ev zs ps<;>rfl
 case bin op x y=>simp only[exec,rd];cases yP op (σ.ev x) (σ.ev y)<;>rfl
 case rB op x y=>simp only[exec,rd];cases Dq op (σ.ev x) (σ.ev y)<;>rfl
 case un op x=>simp only[exec,rd];cases FH op (σ.ev x)<;>rfl
 case conv k x=>
  simp only[exec,rd];generalize σ.ev x=v;cases v with
  |one v=>cases v with
   |c v=>cases v<;>rfl
   |_=>rfl
  |_=>rfl
 case ext i x=>
  simp only[exec,rd];generalize σ.ev x=v;cases v with
  |cf xs=>
   simp only
   cases xs[i]? <;>rfl
  |_=>rfl
 case sW ag off sz x=>
  simp only[exec,rd];generalize σ.ev x=v;cases v with
  |agg cs=>
   simp only
   cases sub cs off sz<;>rfl
  |_=>rfl
 case sk f fZ x=>
  simp only[exec,rd];generalize σ.ev x=v;cases v with
  |one v=>cases v with
   |sl n sz lo len=>simp only;split<;>rfl
   |c v=>cases v<;>rfl
   |_=>rfl
  |_=>rfl
 case mm b x y=>
  simp only[exec,rd];generalize σ.ev x=v;generalize σ.ev y=u;cases v with
  |one v=>cases v with
   |c v=>cases v with
    |int k a=>cases u with
     |one u=>cases u with
      |c u=>cases u with
       |int k' a'=>
        simp only
        cases b
        ·simp only[zaP,if_false];split<;>rfl
        ·simp only[if_true];split<;>rfl
       |_=>rfl
      |_=>rfl
     |_=>rfl
    |_=>rfl
   |_=>rfl
  |_=>rfl
 case load ag sz x=>
  simp only[exec,rd];generalize σ.ev x=v;cases v with
  |one v=>
   simp only
   cases loadAt σ.h v sz<;>rfl
  |_=>rfl
 case jM x=>
  simp only[exec,rd];generalize σ.ev x=v;cases v with
  |one v=>cases v with
   |ptr n k sz off=>simp only;split<;>rfl
   |_=>rfl
  |_=>rfl
 case qd off x=>
  simp only[exec,rd];generalize σ.ev x=v;cases v with
  |one v=>cases v with
   |ptr n k sz off=>simp only;split<;>rfl
   |_=>rfl
  |_=>rfl
 case len x=>
  simp only[exec,rd];generalize σ.ev x=v;cases v with
  |one v=>cases v with
   |sl n sz lo len=>simp only;split<;>rfl
   |c v=>cases v<;>rfl
   |ct n k aR off sz len=>
    simp only
    cases dq σ.h (.ct n k aR off sz len) with
    |none=>rfl
    |some y=>cases y<;>rfl
   |_=>rfl
  |_=>rfl
 case pC sz x i=>
  simp only[exec,rd];generalize σ.ev x=v;generalize (σ.ev i).eV=u;cases v with
  |one v=>cases v with
   |sl n s lo len=>cases u with
    |none=>rfl
    |some k=>simp only;split<;>rfl
   |c v=>cases v with
    |list s xs=>cases u with
     |none=>rfl
     |some k=>
      simp only
      split
      ·cases xs[k.toNat]? <;>rfl
      ·rfl
    |_=>rfl
   |ct n k aR off s len=>
    cases u with
    |none=>rfl
    |some q=>
     simp only
     cases dq σ.h (.ct n k aR off s len) with
     |none=>rfl
     |some y=>cases y with
      |list s' ys=>simp only;split<;>rfl
      |_=>rfl
   |_=>rfl
  |_=>rfl
 case slice sz x lo hi=>
  cases lo with
  |none=>
   cases hi with
   |none=>
    simp only[exec,rd];generalize σ.ev x=v;cases v with
    |one v=>cases v with
     |sl n s l0 len=>simp only;split<;>rfl
     |c v=>cases v with
      |list s xs=>simp only;split<;>rfl
      |_=>rfl
     |_=>rfl
    |_=>rfl
   |some hi=>
    simp only[exec,rd];generalize σ.ev x=v;generalize (σ.ev hi).eV=q;cases q with
    |none=>
     cases v with
     |one v=>cases v with
      |c v=>cases v<;>rfl
      |_=>rfl
     |_=>rfl
    |some q=>
     cases v with
     |one v=>cases v with
      |sl n s l0 len=>simp only;split<;>rfl
      |c v=>cases v with
       |list s xs=>simp only;split<;>rfl
       |_=>rfl
      |_=>rfl
     |_=>rfl
  |some lo=>
   cases hi with
   |none=>
    simp only[exec,rd];generalize σ.ev x=v;generalize (σ.ev lo).eV=u;cases u with
    |none=>
     cases v with
     |one v=>cases v with
      |c v=>cases v<;>rfl
      |_=>rfl
     |_=>rfl
    |some u=>
     cases v with
     |one v=>cases v with
      |sl n s l0 len=>simp only;split<;>rfl
      |c v=>cases v with
       |list s xs=>simp only;split<;>rfl
       |_=>rfl
      |_=>rfl
     |_=>rfl
   |some hi=>
    simp only[exec,rd];generalize σ.ev x=v;generalize (σ.ev lo).eV=u;generalize (σ.ev hi).eV=q;cases u with
    |none=>
     cases v with
     |one v=>cases v with
      |c v=>cases v<;>rfl
      |_=>rfl
     |_=>rfl
    |some u=>
     cases q with
     |none=>
      cases v with
      |one v=>cases v with
       |c v=>cases v<;>rfl
       |_=>rfl
      |_=>rfl
     |some q=>
      cases v with
      |one v=>cases v with
       |sl n s l0 len=>simp only;split<;>rfl
       |c v=>cases v with
        |list s xs=>simp only;split<;>rfl
        |_=>rfl
       |_=>rfl
      |_=>rfl
def St.we (σ:St) (e:Nat->ao):St:={σ with env:=e}
def ve (e:Nat->ao) (d:Option Nat) (x:Nat->ao):Nat->ao:=
 match d with
 |some n=>aQ e n (x n)
 |none=>e
theorem auP (σ:St):σ.we σ.env=σ:=rfl
theorem u4 (σ:St) (e:Nat->ao) (d:Option Nat) (v:ao):(σ.we e).put d v=(σ.put d v).we (ve e d (σ.put d v).env):=by
 cases d with
 |none=>rfl
 |some n=>simp[St.put,St.we,ve,cJ]
theorem HA (σ:St) (e:Nat->ao) (n:Nat) (b:av):(σ.we e).ins n b=(σ.ins n b).map (·.we e):=by
 unfold St.ins;by_cases h:σ.used n=true
 ·rw[if_pos h,if_pos (show(σ.we e).used n=true from h)];rfl
 ·rw[if_neg h,if_neg (show¬(σ.we e).used n=true from h)];rfl
theorem BK:∀(l:List (Nat×av)) (σ:St) (e:Nat->ao),(σ.we e).dH l=(σ.dH l).map (·.we e)
 |[],σ,e=>rfl
 |(n,b)::l,σ,e=>by
  simp only[St.dH,HA];cases σ.ins n b with
  |none=>rfl
  |some σ1=>exact BK l σ1 e
theorem aus (σ:St) (e:Nat->ao) (c:aj):(σ.we e).io c=(σ.io c).map fun x=>(x.1,x.2.1,x.2.2.we e):=by
 cases c with
 |c x=>rfl
 |nil sz=>simp only[St.io];split<;>rfl
 |sl n sz lo len=>
  have:(σ.we e).h n=σ.h n:=rfl;simp only[St.io,this];cases σ.h n with
  |none=>rfl
  |some b=>cases b with
   |box cs=>rfl
   |row gr m rs xs=>simp only;split<;>rfl
 |_=>rfl
theorem I4:∀(cs:List aj) (σ:St) (e:Nat->ao),(σ.we e).gY cs=(σ.gY cs).map fun x=>(x.1,x.2.1,x.2.2.we e)
 |[],σ,e=>rfl
 |c::cs,σ,e=>by
  simp only[St.gY,aus];cases σ.io c with
  |none=>rfl
  |some x=>
   obtain⟨x,o,σ1⟩:=x;simp only[zab,I4 cs σ1 e];cases σ1.gY cs<;>rfl
theorem akZ (σ:St) (e:Nat->ao) (p:aj):(σ.we e).vG p=(σ.vG p).map (·.we e):=by
 cases p with
 |ptr n k sz off=>
  have h3:(σ.we e).h=σ.h:=rfl;simp only[St.vG,h3];cases σ.h n with
  |none=>rfl
  |some b=>
   cases b with
   |row gr m rs xs=>rfl
   |box cs=>
    simp only[I4];cases σ.gY cs with
    |none=>rfl
    |some x=>rfl
 |_=>rfl
theorem agO (sz:Nat):∀(vs:List ao) (σ:St) (e:Nat->ao),(σ.we e).oe sz vs=(σ.oe sz vs).map fun x=>(x.1,x.2.1,x.2.2.we e)
 |[],σ,e=>rfl
 |v::vs,σ,e=>by
  simp only[St.oe];cases v.cells? with
  |none=>rfl
  |some x=>
   obtain⟨ag,cs⟩:=x;simp only
   split
   ·simp only[I4];cases σ.gY cs with
    |none=>rfl
    |some y=>
     obtain⟨y,o,σ1⟩:=y;simp only[zab,agO sz vs σ1 e];cases σ1.oe sz vs<;>rfl
   ·rfl
theorem ahJ (σ:St) (e:Nat->ao) (sz:Nat) (v:ao):sI (σ.we e) sz v=(sI σ sz v).map fun x=>(x.1,x.2.1,x.2.2.we e):=by
 cases v with
 |one v=>cases v with
  |sl a s lo len=>cases lo with
   |zero=>
    have:(σ.we e).h a=σ.h a:=rfl;simp only[sI,this];cases σ.h a with
    |none=>rfl
    |some b=>cases b with
     |box cs=>rfl
     |row gr m rs xs=>cases gr with
      |true=>simp only;split<;>rfl
      |false=>rfl
   |succ lo=>rfl
  |_=>rfl
 |_=>rfl
theorem ahL (fl:Bool) (σ:St) (e:Nat->ao) (sz:Nat) (m:Mode) (v:ao):oz fl (σ.we e) sz m v=(oz fl σ sz m v).map fun x=>(x.1,x.2.1,x.2.2.we e):=by
 cases v with
 |one v=>cases v with
  |sl b s lo len=>
   have:(σ.we e).h b=σ.h b:=rfl;simp only[oz,this];cases σ.h b with
   |none=>rfl
   |some b=>cases b with
    |box cs=>rfl
    |row gr m rs xs=>
     simp only
     repeat' split
     all_goals rfl
  |c x=>cases x with
   |list s ys=>
    simp only[oz]
    repeat' split
    all_goals rfl
   |_=>rfl
  |_=>rfl
 |_=>rfl
theorem aua (σ:St) (e:Nat->ao) (n:Nat) (gr:Bool) (m:Mode) (rs:Nat) (xs:List (List C)) (k off:Nat) (el:List C) (vs:List aj):
  pS (σ.we e) n gr m rs xs k off el vs=(pS σ n gr m rs xs k off el vs).map (·.we e):=by
 simp only[pS,I4];cases sub el off vs.length with
 |none=>rfl
 |some gW=>
  simp only
  cases σ.gY vs with
  |none=>rfl
  |some x=>
   obtain⟨cs,o,σ1⟩:=x;have:(σ1.we e).h n=σ1.h n:=rfl;simp only[zab,this]
   repeat' split
   all_goals rfl
theorem E7 (T:aZ) (d:Option Nat) (op:aY) {ev ev':MO->ao} (h:Nat->Option av) (cj:∀x∈op.args,ev' x=ev x):rd T d op ev' h=rd T d op ev h:=by
 have hl:∀xs:List MO,(∀x∈xs,ev' x=ev x)->xs.map ev'=xs.map ev:=fun xs hx=>zas hx;have hp:∀(ps:List (Nat×Nat×MO)) (zs:List aj),(∀x∈ps.map (·.2.2),ev' x=ev x)->sr ev' zs ps=sr ev zs ps:=by
  intro ps;induction ps with
  |nil=>intro zs _;rfl
  |cons p ps ih=>
   intro zs hx;obtain⟨off,sz,x⟩:=p;simp only[sr];rw[hx x (by simp)];cases (ev x).cells? with
   |none=>rfl
   |some y=>
    simp only
    split
    ·exact ih _ fun z hz=>hx z (by simp at hz⊢;exact .inr hz)
    ·rfl
 cases op with
 |build zs ps=>simp only[rd];rw[hp ps zs cj]
 |call m f xs=>simp only[rd];rw[hl xs cj]
 |qa f xs=>simp only[rd];rw[hl xs cj]
 |nM f xs=>simp only[rd];rw[hl xs cj]
 |mD f xs=>simp only[rd];rw[hl xs cj]
 |re f xs=>simp only[rd];rw[hl xs cj]
 |qb m x xs=>simp only[rd];rw[cj x (by simp[aY.args]),hl xs fun y hy=>cj y (by simp[aY.args,hy])]
 |slice sz x lo hi=>
  have h1:=cj x (by simp[aY.args]);cases lo with
  |none=>cases hi with
   |none=>simp only[rd,h1]
   |some hi=>have h3:=cj hi (by simp[aY.args]);simp only[rd,h1,h3]
  |some lo=>
   have h2:=cj lo (by simp[aY.args]);cases hi with
   |none=>simp only[rd,h1,h2]
   |some hi=>have h3:=cj hi (by simp[aY.args]);simp only[rd,h1,h2,h3]
 |mv x=>have h1:=cj x (by simp[aY.args]);simp only[rd,h1]
 |pick x y z=>have h1:=cj x (by simp[aY.args]);have h2:=cj y (by simp[aY.args]);have h3:=cj z (by simp[aY.args]);simp only[rd,h1,h2,h3]
 |alloc zs=>rfl
 |box sz x=>have h1:=cj x (by simp[aY.args]);simp only[rd,h1]
 |hZ sz ps=>rfl
 |lv m f xs=>rfl
 |o8 m f x xs=>rfl
 |nN m f xs=>rfl
 |lr f xs=>rfl
 |load ag sz x=>have h1:=cj x (by simp[aY.args]);simp only[rd,h1]
 |store sz x v=>rfl
 |jM x=>have h1:=cj x (by simp[aY.args]);simp only[rd,h1]
 |bin op x y=>have h1:=cj x (by simp[aY.args]);have h2:=cj y (by simp[aY.args]);simp only[rd,h1,h2]
 |rB op x y=>have h1:=cj x (by simp[aY.args]);have h2:=cj y (by simp[aY.args]);simp only[rd,h1,h2]
 |un op x=>have h1:=cj x (by simp[aY.args]);simp only[rd,h1]
 |conv k x=>have h1:=cj x (by simp[aY.args]);simp only[rd,h1]
 |jK m sz by_ zs x y=>have h1:=cj x (by simp[aY.args]);have h2:=cj y (by simp[aY.args]);simp only[rd,h1,h2]
 |qd off x=>have h1:=cj x (by simp[aY.args]);simp only[rd,h1]
 |pC sz x y=>have h1:=cj x (by simp[aY.args]);have h2:=cj y (by simp[aY.args]);simp only[rd,h1,h2]
 |ext i x=>have h1:=cj x (by simp[aY.args]);simp only[rd,h1]
 |sW ag off sz x=>have h1:=cj x (by simp[aY.args]);simp only[rd,h1]
 |sk f fZ x=>have h1:=cj x (by simp[aY.args]);simp only[rd,h1]
 |len x=>have h1:=cj x (by simp[aY.args]);simp only[rd,h1]
 |append fl sz by_ x y=>rfl
 |tail sz x lo=>rfl
 |rZ ag sz x=>rfl
 |copy sz x y=>rfl
 |m6 z x=>rfl
 |mm b x y=>have h1:=cj x (by simp[aY.args]);have h2:=cj y (by simp[aY.args]);simp only[rd,h1,h2]
theorem O2 (σ:St) (e:Nat->ao):(σ.we e).h=σ.h:=rfl
theorem aso (σ:St) (e:Nat->ao) (it:dG) (x:C):(σ.we e).qx it x=(σ.qx it x).map (·.we e):=by
 cases it with
 |nil sz=>rfl
 |row n=>
  cases x with
  |int k i=>rfl
  |bool b=>rfl
  |list sz xs=>
   simp only[St.qx,O2];cases σ.h n with
   |none=>rfl
   |some b=>
    cases b with
    |box cs=>rfl
    |row gr m rs nI=>simp only;split<;>rfl
 |nest n k off=>
  simp only[St.qx,O2];cases σ.h n with
  |none=>rfl
  |some b=>
   cases b with
   |box cs=>rfl
   |row gr m rs nI=>
    simp only
    cases nI[k]? with
    |none=>rfl
    |some el=>rfl
theorem Ui:∀(its:List (dG×Mode)) (dK:List C) (σ:St) (e:Nat->ao),(σ.we e).pN its dK=(σ.pN its dK).map (·.we e)
 |[],[],σ,e=>rfl
 |it::its,x::dK,σ,e=>by
  simp only[St.pN,aso];cases σ.qx it.1 x with
  |none=>rfl
  |some σ1=>exact Ui its dK σ1 e
 |[],_::_,σ,e=>rfl
 |_::_,[],σ,e=>rfl
theorem abf (m:Mode) (σ:St) (e:Nat->ao) (nm:Nat) (ds:List Dv):(σ.we e).kG m nm ds=(σ.kG m nm ds).map fun x=>(x.1,x.2.we e):=by
 simp only[SK];cases zz m nm ds with
 |none=>rfl
 |some x=>
  simp only[zai,BK];cases σ.dH x.2 with
  |none=>rfl
  |some σ1=>rfl
theorem YS (T:aZ) (m:Mode) (d:Option Nat) (f:FuncId) (as:List ao) (σ:St) (e:Nat->ao):
  sO T m d f as (σ.we e)=(sO T m d f as σ).map fun τ=>τ.we (ve e d τ.env):=by
 unfold sO;cases aZ.ph T.wi f with
 |none=>rfl
 |some z=>
  obtain⟨sig,M⟩:=z;cases r7 as with
  |none=>rfl
  |some de=>
   simp only
   by_cases fP:(qt sig de).Nodup
   ·rw[if_pos fP,if_pos fP];show(match n8 σ.h (fu σ.h (qt sig de)) sig de with|some (ds,its)=>_|none=>none)=_
    cases n8 σ.h (fu σ.h (qt sig de)) sig de with
    |none=>rfl
    |some z=>
     obtain⟨ds,its⟩:=z;simp only
     cases M ds with
     |none=>rfl
     |some z=>
      obtain⟨rs,dK⟩:=z;simp only[Ui];cases σ.pN its dK with
      |none=>rfl
      |some σ1=>
       simp only[zab,abf];cases σ1.kG m (tw d) rs with
       |none=>rfl
       |some z=>
        obtain⟨ls,σ2⟩:=z;simp only[zab,u4]
   ·rw[if_neg fP,if_neg fP];rfl
theorem aiY (T:aZ) (m:Mode) (d:Option Nat) (f:FuncId) (as:List ao) (σ:St) (e:Nat->ao):
  w9 T m d f as (σ.we e)=(w9 T m d f as σ).map fun τ=>τ.we (ve e d τ.env):=by
 unfold w9;cases aZ.ph T.wi f with
 |none=>rfl
 |some z=>
  obtain⟨sig,M⟩:=z;simp only
  have hh:(σ.we e).h=σ.h:=rfl;rw[hh];cases zO σ.h sig as with
  |none=>rfl
  |some de=>
   simp only
   by_cases fP:(zR sig de).Nodup
   ·rw[if_pos fP,if_pos fP];cases tB σ.h (fu σ.h (zR sig de)) sig de with
    |none=>rfl
    |some z=>
     obtain⟨ds,its⟩:=z;simp only
     cases M ds with
     |none=>rfl
     |some z=>
      obtain⟨rs,dK⟩:=z;simp only[Ui];cases σ.pN its dK with
      |none=>rfl
      |some σ1=>
       simp only[zab,abf];cases σ1.kG m (tw d) rs with
       |none=>rfl
       |some z=>
        obtain⟨ls,σ2⟩:=z;simp only[zab,u4]
   ·rw[if_neg fP,if_neg fP];rfl
theorem ai1 (T:aZ) (m:Mode) (d:Option Nat) (f:FuncId) (as:List ao) (σ:St) (e:Nat->ao):
  xc T m d f as (σ.we e)=(xc T m d f as σ).map fun τ=>τ.we (ve e d τ.env):=by
 unfold xc;cases aZ.uA T.xs f with
 |none=>rfl
 |some z=>
  obtain⟨i,M⟩:=z;simp only
  cases as[i]? with
  |none=>rfl
  |some x=>
   have hh:(σ.we e).h=σ.h:=rfl;simp only[hh];cases FN σ.h x with
   |none=>rfl
   |some z=>
    obtain⟨n,lo,len,N⟩:=z;exact YS _ _ _ _ _ _ _
theorem P6:∀(as:List ao) (σ:St) (e:Nat->ao),(σ.we e).jS as=(σ.jS as).map fun x=>(x.1,x.2.1,x.2.2.we e)
 |[],σ,e=>rfl
 |v::as,σ,e=>by
  simp only[St.jS,O2,I4];cases oB σ.h v with
  |some x=>
   obtain⟨n,xs⟩:=x;simp only[P6 as σ e];cases σ.jS as<;>rfl
  |none=>
   simp only
   cases v.cells? with
   |none=>rfl
   |some x=>
    obtain⟨ag,cs⟩:=x;simp only
    cases σ.gY cs with
    |none=>rfl
    |some y=>
     obtain⟨xs,o,σ1⟩:=y;simp only[zab,P6 as σ1 e];cases σ1.jS as<;>rfl
theorem asm (σ:St) (e:Nat->ao) (ns:List Nat) (out:List C):(σ.we e).tz ns out=(σ.tz ns out).map (·.we e):=by
 match ns,out with
 |[],[]=>rfl
 |[],_::_=>rfl
 |[n],out=>
  simp only[St.tz,O2];cases σ.h n with
  |none=>rfl
  |some b=>
   cases b with
   |box cs=>simp only;split<;>rfl
   |row gr m rs xs=>rfl
 |_::_::_,out=>rfl
theorem ah1 (σ:St) (e:Nat->ao) (d:Option Nat) (rs:List Dv):sJ (σ.we e) d rs=(sJ σ d rs).map fun τ=>τ.we (ve e d τ.env):=by
 unfold sJ;split
 ·cases d with
  |none=>rfl
  |some q=>
   simp only[HA];cases σ.ins q _ with
   |none=>rfl
   |some σ1=>simp only[zab,u4]
 ·cases ly rs with
  |none=>rfl
  |some ls=>simp only[zab,u4]
theorem aiX (T:aZ) (d:Option Nat) (f:FuncId) (as:List ao) (σ:St) (e:Nat->ao):
  sM T d f as (σ.we e)=(sM T d f as σ).map fun τ=>τ.we (ve e d τ.env):=by
 unfold sM;rw[P6];cases σ.jS as with
 |none=>rfl
 |some x=>
  obtain⟨ds,ns,σ1⟩:=x;simp only[zab];cases aZ.nc T.vs f with
  |none=>rfl
  |some M=>
   simp only
   cases M ds with
   |none=>rfl
   |some z=>
    obtain⟨rs,out⟩:=z;simp only[asm];cases σ1.tz ns out with
    |none=>rfl
    |some σ2=>exact ah1 σ2 e d rs
theorem QJ (T:aZ) (d:Option Nat) (op:aY) (σ:St) (e:Nat->ao) (cj:∀x∈op.args,(σ.we e).ev x=σ.ev x) (hd:∀sz x v,op=.store sz x v->d=none):
  exec T d op (σ.we e)=(exec T d op σ).map fun τ=>τ.we (ve e d τ.env):=by
 by_cases hc:op.fm<=1
 ·rw[rK T d op _ hc,rK T d op _ hc,E7 T d op _ cj];show Option.bind (rd T d op σ.ev σ.h) _=_;cases rd T d op σ.ev σ.h with
  |none=>rfl
  |some x=>
   simp only[zai,fin,BK];cases σ.dH x.2 with
   |none=>rfl
   |some σ1=>simp only[zab,u4]
 ·cases op<;>simp[aY.fm] at hc
  case hZ sz ps=>
   have hl:ps.map (σ.we e).ev=ps.map σ.ev:=zas cj;simp only[exec,hl,agO];cases d with
   |none=>rfl
   |some n=>
    cases σ.oe sz (ps.map σ.ev) with
    |none=>rfl
    |some x=>
     obtain⟨es,o,σ1⟩:=x;simp only[zab,HA];cases σ1.ins n (.row true (if o=true then .bc else .aL) sz es) with
     |none=>rfl
     |some σ2=>simp only[zab,u4]
  case store sz x v=>
   have h1:=cj x (by simp[aY.args]);have h2:=cj v (by simp[aY.args]);have hd:=hd sz x v rfl;subst hd;simp only[exec,h1,h2];cases σ.ev x with
   |one p=>cases p with
    |ptr n k aR off=>
     cases (σ.ev v).cells? with
     |none=>rfl
     |some y=>
      obtain⟨ag,vs⟩:=y;have:(σ.we e).h n=σ.h n:=rfl;simp only[this];split
      ·cases σ.h n with
       |none=>rfl
       |some b=>cases b with
        |box cs=>simp only;split<;>rfl
        |row gr m rs xs=>
         simp only
         split
         ·cases xs[k]? with
          |none=>rfl
          |some el=>simp only[aua];rfl
         ·rfl
      ·rfl
    |dY n k aR off s i=>
     cases (σ.ev v).cells? with
     |none=>rfl
     |some y=>
      obtain⟨ag,vs⟩:=y;have:(σ.we e).h n=σ.h n:=rfl;simp only[this];split
      ·cases σ.h n with
       |none=>rfl
       |some b=>cases b with
        |box cs=>rfl
        |row gr m rs xs=>cases m with
         |live=>
          simp only
          split
          ·cases yb xs k off s i vs<;>rfl
          ·rfl
         |_=>rfl
      ·rfl
    |_=>cases (σ.ev v).cells?<;>rfl
   |agg cs=>cases (σ.ev v).cells?<;>rfl
   |cf cs=>cases (σ.ev v).cells?<;>rfl
  case append fl sz by_ x y=>
   have h1:=cj x (by simp[aY.args]);have h2:=cj y (by simp[aY.args]);simp only[exec,h1,h2,ahJ];cases d with
   |none=>rfl
   |some n=>
    simp only
    cases sI σ sz (σ.ev x) with
    |none=>rfl
    |some z=>
     obtain⟨xs,m,σ1⟩:=z;simp only[zab,ahL];cases oz fl σ1 sz m (σ.ev y) with
     |none=>rfl
     |some z=>
      obtain⟨ys,m2,σ2⟩:=z;simp only[zab];split
      ·simp only[HA];cases σ2.ins n (.row true m2 sz (xs++ys)) with
       |none=>rfl
       |some iD=>simp only[zab,u4]
      ·rfl
  case copy sz x y=>
   have h1:=cj x (by simp[aY.args]);have h2:=cj y (by simp[aY.args]);have h3:(σ.we e).h=σ.h:=rfl;simp only[exec,h1,h2,h3];cases σ.ev x with
   |one p=>cases p with
    |sl n s lo len=>
     cases σ.ev y with
     |one c=>
      simp only
      cases σ.h n with
      |none=>rfl
      |some b=>cases b with
       |box cs=>rfl
       |row gr m rs xs=>
        cases dq σ.h c with
        |none=>rfl
        |some q=>cases q with
         |list s' ys=>
          simp only
          split
          ·exact congrArg some (u4 (σ.fx n _) e d _)
          ·rfl
         |_=>rfl
     |_=>rfl
    |_=>rfl
   |_=>rfl
  case m6 z x=>
   have h1:=cj x (by simp[aY.args]);have h3:(σ.we e).h=σ.h:=rfl;simp only[exec,h1,h3];cases σ.ev x with
   |one p=>cases p with
    |sl n s lo len=>
     simp only
     cases σ.h n with
     |none=>rfl
     |some b=>cases b with
      |box cs=>rfl
      |row gr m rs xs=>
       simp only
       split
       ·exact congrArg some (u4 (σ.fx n _) e d _)
       ·rfl
    |_=>rfl
   |_=>rfl
  case rZ ag sz x=>
   have h1:=cj x (by simp[aY.args]);simp only[exec,h1];cases σ.ev x with
   |one p=>
    simp only[akZ];cases σ.vG p with
    |none=>rfl
    |some σ1=>
     simp only[zab];have h3:(σ1.we e).h=σ1.h:=rfl;rw[h3];cases loadAt σ1.h p sz with
     |none=>rfl
     |some cs=>exact congrArg some (u4 σ1 e d _)
   |_=>rfl
  case tail sz x y=>
   have h1:=cj x (by simp[aY.args]);have h2:=cj y (by simp[aY.args]);simp only[exec,h1,h2];cases d with
   |none=>rfl
   |some n=>
    generalize (σ.ev y).eV=q;cases hv:σ.ev x with
    |one p=>cases p with
     |sl a s lo len=>cases lo with
      |zero=>
       cases q with
       |none=>rfl
       |some l=>
        simp only
        have:(σ.we e).h a=σ.h a:=rfl;rw[this];cases σ.h a with
        |none=>rfl
        |some b=>cases b with
         |box cs=>rfl
         |row gr m rs xs=>cases gr with
          |false=>rfl
          |true=>
           simp only
           split
           ·rw[show(σ.we e).del a=(σ.del a).we e from rfl,HA]
            cases (σ.del a).ins n (.row true m sz (xs.drop l.toNat)) with
            |none=>rfl
            |some iD=>simp only[zab,u4]
           ·rfl
      |succ lo=>cases q<;>rfl
     |_=>cases q<;>rfl
    |_=>cases q<;>rfl
  case lv m f xs=>
   have hl:xs.map (σ.we e).ev=xs.map σ.ev:=zas cj;simp only[exec,hl,YS]
  case lr f xs=>
   have hl:xs.map (σ.we e).ev=xs.map σ.ev:=zas cj;simp only[exec,hl,aiX]
  case o8 m f x xs=>
   have h0:=cj x (by simp[aY.args]);have hl:xs.map (σ.we e).ev=xs.map σ.ev:=zas fun y hy=>cj y (by simp[aY.args,hy]);simp only[exec,hl,h0];cases σ.ev x with
   |one c=>cases c with
    |fn g c9=>
     simp only
     split
     ·exact aiY _ _ _ _ _ _ _
     ·rfl
    |_=>rfl
   |agg cs=>rfl
   |cf xs=>rfl
  case nN m f xs=>
   have hl:xs.map (σ.we e).ev=xs.map σ.ev:=zas cj;simp only[exec,hl,ai1]
section
variable {u vv:Nat->Prop} {h h':Nat->Option av}
theorem aoA (hh:∀n,u n->h' n=h n) {p:aj} (hp:∀m,p.ref m->u m) (sz:Nat):loadAt h' p sz=loadAt h p sz:=by
 cases p with
 |ptr n k aR off=>simp only[loadAt,hh n (hp n rfl)]
 |_=>rfl
theorem aj.zV {c:aj} {m:Nat} (h:c.kq m):c.ref m:=by
 cases c<;>first|exact h|exact h.elim
def ao.zW:ao->Nat->Prop
 |.one c,m=>c.kq m
 |.agg cs,m=>∃c∈cs,c.kq m
 |.cf _,_=>False
theorem ao.Uo {x:ao} {m:Nat} (h:x.zW m):x.ref m:=by
 cases x with
 |one c=>exact aj.zV h
 |agg cs=>obtain⟨c,hc,h⟩:=h;exact⟨c,hc,aj.zV h⟩
 |cf xs=>exact h.elim
theorem CM (hh:∀n,u n->h' n=h n) {p:aj} (hp:∀m,p.kq m->u m):dq h' p=dq h p:=by
 cases p with
 |sl n sz lo len=>simp only[dq,hh n (hp n rfl)]
 |ct n k aR off sz len=>simp only[dq,hh n (hp n rfl)]
 |_=>rfl
theorem OY (hh:∀n,u n->h' n=h n):∀{l:List aj} (_:∀p∈l,∀m,p.kq m->u m),jP h' l=jP h l
 |[],_=>rfl
 |c::cs,hp=>by
  have h1:=CM hh (hp c (by simp));have h2:=OY hh (l:=cs) fun p q=>hp p (zat _ q);simp only[jP,h1,h2]
theorem auL (hh:∀n,u n->h' n=h n) (hb:∀m cs c n,vv m->h m=some (.box cs)->c∈cs->c.ref n->u n) {x:ao} (hx:∀m,x.zW m->u m) (hv:∀m,x.zW m->vv m):j5 h' x=j5 h x:=by
 cases x with
 |one c=>cases c with
  |ptr n k sz off=>
   simp only[j5,hh n (hx n rfl)];cases hn:h n with
   |none=>rfl
   |some b=>cases b with
    |box cs=>simp only[OY hh fun p hp m hm=>hb n cs p m (hv n rfl) hn hp (aj.zV hm)]
    |row gr m sz xs=>rfl
  |dr xs off=>rfl
  |c x=>rfl
  |nil sz=>rfl
  |sl n sz lo len=>simp only[j5];rw[CM hh (p:=.sl n sz lo len) hx]
  |ct n k aR off sz len=>simp only[j5];rw[CM hh (p:=.ct n k aR off sz len) hx]
  |dY n k aR off sz i=>rfl
  |cN xs off j n sz len=>rfl
  |fn f c9=>rfl
  |cd=>rfl
 |agg cs=>simp only[j5,OY hh fun p hp m hm=>hx m ⟨p,hp,hm⟩]
 |cf xs=>rfl
theorem OX (hh:∀n,u n->h' n=h n) (hb:∀m cs c n,vv m->h m=some (.box cs)->c∈cs->c.ref n->u n):∀{xs:List ao} (_:∀x∈xs,∀m,x.zW m->u m) (_:∀x∈xs,∀m,x.zW m->vv m),ot h' xs=ot h xs
 |[],_,_=>rfl
 |x::xs,hx,hv=>by
  have h1:=auL hh hb (hx x (by simp)) (hv x (by simp));have h2:=OX hh hb (xs:=xs) (fun p q=>hx p (zat _ q)) (fun p q=>hv p (zat _ q));simp only[ot,h1,h2]
theorem aoG (hh:∀n,u n->h' n=h n) {md:Mode} {c:aj} (hp:∀m,c.ref m->u m):uT h' md c=uT h md c:=by
 cases c with
 |sl n sz lo len=>simp only[uT,hh n (hp n rfl)]
 |ct n k aR off sz len=>simp only[uT,hh n (hp n rfl)]
 |_=>rfl
theorem aa4 (hh:∀n,u n->h' n=h n) (ns:List Nat):∀n,u n->fu h' ns n=fu h ns n:=fun n hn=>by simp only[fu,hh n hn]
theorem TK (hh:∀n,u n->h' n=h n) (ns:List Nat):∀(fs:List (Option Mode)) (cs:List aj),(∀c∈cs,∀m,c.ref m->u m)->kT h' (fu h' ns) fs cs=kT h (fu h ns) fs cs
 |[],cs,hc=>by simp only[kT,OY (aa4 hh ns) fun p hp m hm=>hc p hp m (aj.zV hm)]
 |none::fs,c::cs,hc=>by
  simp only[kT,CM (aa4 hh ns) fun m hm=>hc c (by simp) m (aj.zV hm),TK hh ns fs cs fun p hp=>hc p (by simp[hp])]
 |some md::fs,c::cs,hc=>by
  simp only[kT,aoG hh (hc c (by simp)),TK hh ns fs cs fun p hp=>hc p (by simp[hp])]
 |none::_,[],_=>rfl
 |some _::_,[],_=>rfl
theorem adp (hh:∀n,u n->h' n=h n) (ns:List Nat):∀(as:List (Bool×List aj)) (sig:aU),(∀x∈as,∀c∈x.2,∀m,c.ref m->u m)->n8 h' (fu h' ns) sig as=n8 h (fu h ns) sig as
 |[],_,_=>rfl
 |(ag,cs)::as,sig,hc=>by
  simp only[n8,TK hh ns (aU.hd sig) cs (hc (ag,cs) (by simp)),adp hh ns as (aU.tl sig) fun x hx=>hc x (by simp[hx])]
theorem TM:∀{fs:List (Option Mode)} {cs:List aj} {n:Nat},n∈oR fs cs->∃c∈cs,c.ref n
 |some _::fs,c::cs,n,hn=>by
  simp only[oR] at hn;rcases zae.1 hn with h|h
  ·refine⟨c,by simp,?_⟩;cases c<;>simp[aj.ff] at h<;>(subst h;rfl)
  ·obtain⟨c',h1,h2⟩:=TM h;exact⟨c',by simp[h1],h2⟩
 |none::fs,c::cs,n,hn=>by
  simp only[oR] at hn;obtain⟨c',h1,h2⟩:=TM hn;exact⟨c',by simp[h1],h2⟩
 |[],_,n,hn=>by simp[oR] at hn
 |some _::_,[],n,hn=>by simp[oR] at hn
 |none::_,[],n,hn=>by simp[oR] at hn
theorem acd:∀{as:List (Bool×List aj)} {sig:aU} {n:Nat},n∈qt sig as->∃x∈as,∃c∈x.2,c.ref n
 |a::as,s::sig,n,hn=>by
  simp only[qt] at hn;rcases zae.1 hn with h|h
  ·obtain⟨c,h1,h2⟩:=TM h;exact⟨a,by simp,c,h1,h2⟩
  ·obtain⟨x,h1,h2⟩:=acd h;exact⟨x,by simp[h1],h2⟩
 |[],s::sig,n,hn=>by simp[qt] at hn
 |as,[],n,hn=>by cases as<;>simp[qt] at hn
theorem ab1:∀{as:List ao} {de:List (Bool×List aj)},r7 as=some de->∀x∈de,∀c∈x.2,∀m,c.ref m->∃v∈as,v.ref m
 |[],de,hx,x,hm=>by simp only[r7] at hx;injection hx with hx;subst hx;cases hm
 |v::vs,de,hx,x,hm=>by
  simp only[r7] at hx;split at hx
  ·rename_i y ys e1 e2;injection hx with hx;subst hx;intro c hc m hr;cases hm with
   |head=>exact⟨v,by simp,ao.AP e1 hc hr⟩
   |tail _ hm=>
    obtain⟨v',h1,h2⟩:=ab1 e2 x hm c hc m hr;exact⟨v',by simp[h1],h2⟩
  ·cases hx
theorem ai0 (hh:∀n,u n->h' n=h n) {T:aZ} {f:FuncId} {as:List ao} (hx:∀x∈as,∀m,x.ref m->u m):rH T f as h'=rH T f as h:=by
 unfold rH;cases aZ.uz T.ws f with
 |none=>rfl
 |some M=>
  obtain⟨sig,M⟩:=M;cases hc:r7 as with
  |none=>rfl
  |some de=>
   have hr:∀x∈de,∀c∈x.2,∀m,c.ref m->u m:=fun x h1 c h2 m h3=>by
    obtain⟨v,a1,a2⟩:=ab1 hc x h1 c h2 m h3;exact hx v a1 m a2
   simp only
   cases hn:qt sig de with
   |nil=>rfl
   |cons n l=>
    cases l with
    |cons n2 l=>rfl
    |nil=>
     obtain⟨x,h1,c,h2,h3⟩:=acd (n:=n) (sig:=sig) (as:=de) (by rw[hn];simp);simp only[adp hh [n] de sig hr,hh n (hr x h1 c h2 n h3)]
theorem ad8 (T:aZ) (d:Option Nat) (op:aY) (ev:MO->ao) (hh:∀n,u n->h' n=h n) (xm:op.HB=true->∀m cs c n,vv m->h m=some (.box cs)->c∈cs->c.ref n->u n)
  (hx:∀x∈op.args,∀m,(ev x).ref m->u m) (uL:∀x∈op.args,∀m,(ev x).ref m->vv m):rd T d op ev h'=rd T d op ev h:=by
 cases op with
 |load ag sz x=>
  have h1:=hx x (by simp[aY.args]);simp only[rd];cases hv:ev x with
  |one p=>rw[hv] at h1;simp only[aoA hh (p:=p) h1]
  |_=>rfl
 |jM x=>
  have h1:=hx x (by simp[aY.args]);simp only[rd];cases hv:ev x with
  |one p=>cases p with
   |ptr n k sz off=>rw[hv] at h1;simp only[hh n (h1 n rfl)]
   |_=>rfl
  |_=>rfl
 |qd off x=>
  have h1:=hx x (by simp[aY.args]);simp only[rd];cases hv:ev x with
  |one p=>cases p with
   |ptr n k sz off=>rw[hv] at h1;simp only[hh n (h1 n rfl)]
   |_=>rfl
  |_=>rfl
 |len x=>
  have h1:=hx x (by simp[aY.args]);simp only[rd];cases hv:ev x with
  |one p=>cases p with
   |sl n sz lo len=>rw[hv] at h1;simp only[hh n (h1 n rfl)]
   |ct n k aR off sz len=>rw[hv] at h1;simp only[CM hh (p:=.ct n k aR off sz len) (fun m hm=>h1 m (aj.zV hm))]
   |c x=>cases x<;>rfl
   |_=>rfl
  |_=>rfl
 |sk f fZ x=>
  have h1:=hx x (by simp[aY.args]);simp only[rd];cases hv:ev x with
  |one p=>cases p with
   |sl n sz lo len=>rw[hv] at h1;simp only[hh n (h1 n rfl)]
   |c x=>cases x<;>rfl
   |_=>rfl
  |_=>rfl
 |pC sz x i=>
  have h1:=hx x (by simp[aY.args]);simp only[rd];generalize (ev i).eV=q;cases hv:ev x with
  |one p=>cases p with
   |sl n s lo len=>
    rw[hv] at h1;have h2:=hh n (h1 n rfl);cases q with
    |none=>rfl
    |some q=>simp only[h2]
   |ct n k aR off s len=>
    rw[hv] at h1;cases q with
    |none=>rfl
    |some q=>simp only[CM hh (p:=.ct n k aR off s len) (fun m hm=>h1 m (aj.zV hm))]
   |c x=>cases x<;>cases q<;>rfl
   |_=>cases q<;>rfl
  |_=>cases q<;>rfl
 |slice sz x lo hi=>
  have h1:=hx x (by simp[aY.args]);simp only[rd];cases hv:ev x with
  |one p=>cases p with
   |sl n s l0 len=>
    rw[hv] at h1;have h2:=hh n (h1 n rfl);cases lo with
    |none=>simp only[h2]
    |some lo=>
     simp only
     cases (ev lo).eV with
     |none=>rfl
     |some q=>simp only[h2]
   |c x=>cases lo with
    |none=>cases x<;>rfl
    |some lo=>
     simp only
     cases (ev lo).eV<;>cases x<;>rfl
   |_=>cases lo<;>rfl
  |_=>cases lo<;>rfl
 |call m f xs=>
  simp only[rd,Du];have go:∀u':Nat->Prop,(∀x∈(aY.call m f xs).args,∀m,(ev x).ref m->u' m)->∀x∈xs.map ev,∀m,x.zW m->u' m:=by
   intro u' hx x uM q hq;obtain⟨y,hy,rfl⟩:=zaj.1 uM;exact hx y hy q (ao.Uo hq)
  rw[OX hh (xm rfl) (go _ hx) (go _ uL)]
 |qa f xs=>
  simp only[rd,Dw];have go:∀u':Nat->Prop,(∀x∈(aY.qa f xs).args,∀m,(ev x).ref m->u' m)->∀x∈xs.map ev,∀m,x.zW m->u' m:=by
   intro u' hx x uM q hq;obtain⟨y,hy,rfl⟩:=zaj.1 uM;exact hx y hy q (ao.Uo hq)
  rw[OX hh (xm rfl) (go _ hx) (go _ uL)]
 |mD f xs=>rfl
 |nM f xs=>
  have:rH T f (xs.map ev) h'=rH T f (xs.map ev) h:=ai0 hh fun x uM q hq=>by
   obtain⟨y,hy,rfl⟩:=zaj.1 uM;exact hx y hy q hq
  simp only[rd,this]
 |qb m x xs=>
  simp only[rd];cases hv:ev x with
  |one p=>cases p with
   |fn f c9=>
    simp only[Du];have go:∀u':Nat->Prop,(∀y∈(aY.qb m x xs).args,∀m,(ev y).ref m->u' m)->∀y∈xs.map ev++c9.map ao.one,∀m,y.zW m->u' m:=by
     intro u' hx y hym q hq;rcases zae.1 hym with hy|hy
     ·obtain⟨z,hz,rfl⟩:=zaj.1 hy;exact hx z (by simp[aY.args,hz]) q (ao.Uo hq)
     ·obtain⟨z,hz,rfl⟩:=zaj.1 hy;refine hx x (by simp[aY.args]) q ?_;rw[hv];exact⟨z,hz,hq⟩
    rw[OX hh (xm rfl) (go _ hx) (go _ uL)]
   |_=>rfl
  |_=>rfl
 |_=>rfl
theorem ad7 (T:aZ) (d:Option Nat) (op:aY) (ev:MO->ao) (hh:∀n,u n->h' n=h n) (hb:∀m cs c n,h m=some (.box cs)->c∈cs->c.ref n->u n)
  (hx:∀x∈op.args,∀m,(ev x).ref m->u m):rd T d op ev h'=rd T d op ev h:=
 ad8 (vv:=fun _=>True) T d op ev hh (fun _ m cs c n _=>hb m cs c n) hx (fun _ _ _ _=>trivial)
theorem aea (T:aZ) (d:Option Nat) (op:aY) (ev:MO->ao) (h h':Nat->Option av) (hc:op.fm=0):rd T d op ev h'=rd T d op ev h:=by
 cases op<;>simp[aY.fm] at hc<;>rfl
end
def ko (e:Nat->ao) (d:Option Nat) (v:ao):Nat->ao:=
 match d with
 |some n=>aQ e n v
 |none=>e
theorem rj (σ:St) (d:Option Nat) (v:ao):σ.put d v=σ.we (ko σ.env d v):=by cases d<;>rfl
theorem tA {e:Nat->ao} {d:Option Nat} {v:ao} {n:Nat} (h:d≠some n):ko e d v n=e n:=by
 cases d with
 |none=>rfl
 |some m=>exact dA _ _ _ _ (fun he=>h (by rw[he]))
theorem NV (e:Nat->ao) {d d':Option Nat} (v v':ao) (h:∀n,d=some n->d'≠some n):ko (ko e d v) d' v'=ko (ko e d' v') d v:=by
 cases d with
 |none=>rfl
 |some n=>cases d' with
  |none=>rfl
  |some m=>
   have aE:m≠n:=fun he=>h n rfl (by rw[he]);funext k;simp only[ko,lc];by_cases h1:k=m
   ·by_cases h2:k=n
    ·omega
    ·simp[h1,aE]
   ·by_cases h2:k=n
    ·simp[h2,zaQ aE]
    ·simp[h1,h2]
def ag3 (d:Option Nat) (x:Nat->ao):ao:=
 match d with
 |some n=>x n
 |none=>.one .cd
theorem WX (e:Nat->ao) (d:Option Nat) (x:Nat->ao):ve e d x=ko e d (ag3 d x):=by cases d<;>rfl
theorem amL {σ σ1 σ2:St} {n m:Nat} {b c:av} (h1:σ.ins n b=some σ1) (h2:σ1.ins m c=some σ2):∃τ,σ.ins m c=some τ/\τ.ins n b=some σ2:=by
 obtain⟨u1,rfl⟩:=pE h1;obtain⟨u2,rfl⟩:=pE h2;have aE:m≠n:=fun e=>by subst e;simp[cJ] at u2
 have um:σ.used m=false:=by simpa[dA _ _ _ _ aE] using u2
 have un:aQ σ.used m true n=false:=by rw[dA _ _ _ _ (zaQ aE)];exact u1
 refine⟨_,by unfold St.ins;rw[if_neg (by simp[um])],?_⟩;unfold St.ins;simp only[un,zaP,if_false];congr 2<;>(funext k;simp only[lc];by_cases h1:k=m<;>by_cases h2:k=n<;>simp_all)
theorem abl {m:Nat} {c:av}:∀{A:List (Nat×av)} {σ σ1 σ2:St},σ.dH A=some σ1->σ1.ins m c=some σ2->∃τ,σ.ins m c=some τ/\τ.dH A=some σ2
 |[],σ,σ1,σ2,h1,h2=>by
  simp only[St.dH] at h1;injection h1 with h1;subst h1;exact⟨σ2,h2,rfl⟩
 |(n,b)::A,σ,σ1,σ2,h1,h2=>by
  simp only[St.dH] at h1;split at h1
  ·rename_i mC e;obtain⟨τ,t1,t2⟩:=abl h1 h2;obtain⟨Xc,s1,s2⟩:=amL e t1;exact⟨Xc,s1,by simp only[St.dH,s2];exact t2⟩
  ·cases h1
theorem SR:∀{Bs A:List (Nat×av)} {σ σ1 σ2:St},σ.dH A=some σ1->σ1.dH Bs=some σ2->∃τ,σ.dH Bs=some τ/\τ.dH A=some σ2
 |[],A,σ,σ1,σ2,h1,h2=>by
  simp only[St.dH] at h2;injection h2 with h2;subst h2;exact⟨σ,rfl,h1⟩
 |(m,c)::Bs,A,σ,σ1,σ2,h1,h2=>by
  simp only[St.dH] at h2;split at h2
  ·rename_i iD e;obtain⟨τ,t1,t2⟩:=abl h1 e;obtain⟨Xc,s1,s2⟩:=SR t2 h2;exact⟨Xc,by simp only[St.dH,t1];exact s1,s2⟩
  ·cases h2
theorem BJ:∀{A:List (Nat×av)} {σ σ1:St},σ.dH A=some σ1->(∀n,σ.used n=true->σ1.used n=true/\σ1.h n=σ.h n)/\σ1.env=σ.env
 |[],σ,σ1,h1=>by
  simp only[St.dH] at h1;injection h1 with h1;subst h1;exact⟨fun n hn=>⟨hn,rfl⟩,rfl⟩
 |(m,c)::A,σ,σ1,h1=>by
  simp only[St.dH] at h1;split at h1
  ·rename_i mC e;obtain⟨u1,rfl⟩:=pE e;obtain⟨t1,t2⟩:=BJ h1;refine⟨fun n hn=>?_,t2⟩;have aE:n≠m:=fun he=>by subst he;rw[u1] at hn;cases hn
   obtain⟨s1,s2⟩:=t1 n (vf _ _ hn);exact⟨s1,by rw[s2];exact dA _ _ _ _ aE⟩
  ·cases h1
structure Wf (σ:St):Prop where
 env:∀s m,(σ.env s).ref m->σ.used m=true
 box:∀m cs c n,σ.h m=some (.box cs)->c∈cs->c.ref n->σ.used n=true
def aj.flat:aj->Bool
 |.c _|.nil _|.cd=>true
 |_=>false
def MO.flat:MO->Bool
 |.t _=>true
 |.k (.one c)=>c.flat
 |.k (.agg cs)=>cs.all aj.flat
 |.k (.cf xs)=>xs.isEmpty
theorem aj.ZG {c:aj} (h:c.flat=true) (m:Nat):¬c.ref m:=by
 cases c<;>first|exact id|(simp[aj.flat] at h)
theorem Wf.arg {σ:St} (W:Wf σ) {x:MO} (hx:x.flat=true) (m:Nat) (hm:(σ.ev x).ref m):σ.used m=true:=by
 cases x with
 |t n=>exact W.env n m hm
 |k v=>cases v with
  |one c=>exact absurd hm (aj.ZG hx m)
  |agg cs=>
   obtain⟨c,hc,hm⟩:=hm;exact absurd hm (aj.ZG (zaf.1 hx c hc) m)
  |cf xs=>
   have:xs=[]:=by simpa[MO.flat] using hx
   subst this;obtain⟨c,hc,_⟩:=hm;cases hc
theorem ad9 (T:aZ) (d:Option Nat) (op:aY) (ev:MO->ao) (h:Nat->Option av) (hc:op.fm=0) {x:ao×List (Nat×av)} (hx:rd T d op ev h=some x):x.2=[]:=by
 cases op<;>simp[aY.fm] at hc<;>simp only[rd] at hx
 all_goals
  repeat' split at hx
  all_goals first|(cases hx;rfl)|(cases hx)
theorem LQ {σ:St} {e:Nat->ao} {x:MO} (h:∀n,x=.t n->e n=σ.env n):(σ.we e).ev x=σ.ev x:=by
 cases x with
 |t n=>exact h n rfl
 |k v=>rfl
section
variable {T:aZ} {dx dy:Option Nat} {x y:aY} {σ σ1 σ2:St}
theorem yX (xo:∀sz p v,x=.store sz p v->dx=none) (h1:exec T dx x σ=some σ1):σ1.env=ko σ.env dx (ag3 dx σ1.env):=by
 have h:=QJ T dx x σ σ.env (fun _ _=>rfl) xo;rw[auP,h1] at h;simp only[zab] at h;injection h with h;rw[<-WX]
 calc σ1.env=(σ1.we (ve σ.env dx σ1.env)).env:=by rw[<-h]
  _=_:=rfl
theorem Yt (W:Wf σ) (hd:∀n,dx=some n->dy≠some n) (te:∀n,dx=some n->MO.t n∉y.args) (vW:∀n,dy=some n->MO.t n∉x.args)
  (Ec:∀a∈x.args,a.flat=true) (Bn:∀a∈y.args,a.flat=true)
  (xo:∀sz p v,x=.store sz p v->dx=none) (G5:∀sz p v,y=.store sz p v->dy=none) (au7:x.fm=0\/y.fm=0\/(x.fm<=1/\y.fm<=1))
  (h1:exec T dx x σ=some σ1) (h2:exec T dy y σ1=some σ2):∃τ,exec T dy y σ=some τ/\exec T dx x τ=some σ2:=by
 have aa8:∀(e:Nat->ao) (v:ao) (s:St),∀a∈y.args,(s.we (ko s.env dx v)).ev a=s.ev a:=fun e v s a ha=>LQ fun n hn=>tA fun qP=>te n qP (hn▸ha);have aa6:∀(e:Nat->ao) (v:ao) (s:St),∀a∈x.args,(s.we (ko s.env dy v)).ev a=s.ev a:=fun e v s a ha=>LQ fun n hn=>tA fun qP=>vW n qP (hn▸ha);by_cases cx:x.fm=0
 ·rw[rK T dx x σ (by omega)] at h1;cases hr:rd T dx x σ.ev σ.h with
  |none=>rw[hr] at h1;cases h1
  |some p=>
   obtain⟨v,bs⟩:=p;have hb:bs=[]:=ad9 T dx x _ _ cx hr;subst hb;rw[hr] at h1;simp only[zai,fin,St.dH,zab] at h1;injection h1 with h1;rw[rj] at h1;subst h1;rw[QJ T dy y σ _ (aa8 σ.env v σ) G5] at h2;cases hy:exec T dy y σ with
   |none=>rw[hy] at h2;cases h2
   |some τ=>
    rw[hy] at h2;simp only[zab] at h2;injection h2 with h2;refine⟨τ,rfl,?_⟩;have uK:=yX G5 hy;rw[rK T dx x τ (by omega),aea T dx x τ.ev σ.h τ.h cx,E7 T dx x (ev:=σ.ev) (ev':=τ.ev) σ.h (fun a ha=>by
     cases a with
     |t n=>
      show τ.env n=σ.env n;rw[uK];exact tA fun qP=>vW n qP ha
     |k v=>rfl),hr]
    simp only[zai,fin,St.dH,zab];rw[<-h2,rj];congr 1;have:ko τ.env dx v=ve (ko σ.env dx v) dy τ.env:=by
     rw[WX,NV σ.env _ _ hd];rw[<-uK]
    rw[this]
 ·by_cases cy:y.fm=0
  ·rw[rK T dy y σ1 (by omega)] at h2;cases hr:rd T dy y σ1.ev σ1.h with
   |none=>rw[hr] at h2;cases h2
   |some p=>
    obtain⟨v,bs⟩:=p;have hb:bs=[]:=ad9 T dy y _ _ cy hr;subst hb;rw[hr] at h2;simp only[zai,fin,St.dH,zab] at h2;injection h2 with h2;have uK:=yX xo h1;refine⟨σ.put dy v,?_,?_⟩
    ·rw[rK T dy y σ (by omega),aea T dy y σ.ev σ1.h σ.h cy,E7 T dy y (ev:=σ1.ev) (ev':=σ.ev) σ1.h (fun a ha=>by
      cases a with
      |t n=>
       show σ.env n=σ1.env n;rw[uK];exact(tA fun qP=>te n qP ha).symm
      |k v=>rfl),hr]
     rfl
    ·rw[rj,QJ T dx x σ _ (aa6 σ.env v σ) xo,h1];simp only[zab];rw[<-h2,rj];congr 2;rw[WX,<-NV σ.env _ _ hd,<-uK]
  ·have YJ:x.fm<=1:=by omega
   have YK:y.fm<=1:=by omega
   rw[rK T dx x σ YJ] at h1;cases hr:rd T dx x σ.ev σ.h with
   |none=>rw[hr] at h1;cases h1
   |some p=>
    obtain⟨v,A⟩:=p;rw[hr] at h1;simp only[zai,fin] at h1;cases hA:σ.dH A with
    |none=>rw[hA] at h1;cases h1
    |some Ap=>
     rw[hA] at h1;simp only[zab] at h1;injection h1 with h1;rw[rj] at h1;subst h1;obtain⟨oa,ea⟩:=BJ hA;rw[rK T dy y _ YK] at h2;have hry:rd T dy y (Ap.we (ko Ap.env dx v)).ev (Ap.we (ko Ap.env dx v)).h=rd T dy y σ.ev σ.h:=by
      rw[E7 T dy y (ev:=σ.ev) _ (fun a ha=>by rw[aa8 σ.env v Ap a ha];cases a with
       |t n=>show Ap.env n=σ.env n;rw[ea]
       |k v=>rfl)]
      exact ad7 (u:=fun n=>σ.used n=true) T dy y σ.ev (fun n hn=>(oa n hn).2) W.box (fun a ha m hm=>W.arg (Bn a ha) m hm)
     rw[hry] at h2;cases Sj:rd T dy y σ.ev σ.h with
     |none=>rw[Sj] at h2;cases h2
     |some q=>
      obtain⟨v2,Bs⟩:=q;rw[Sj] at h2;simp only[zai,fin,BK] at h2;cases hB:Ap.dH Bs with
      |none=>rw[hB] at h2;cases h2
      |some ahc=>
       rw[hB] at h2;simp only[zab] at h2;injection h2 with h2;obtain⟨Aq,b1,b2⟩:=SR hA hB;obtain⟨ob,eb⟩:=BJ b1;obtain⟨oab,eab⟩:=BJ hB;refine⟨Aq.put dy v2,?_,?_⟩
       ·rw[rK T dy y σ YK,Sj];simp[fin,b1]
       ·rw[rj,rK T dx x _ YJ];have hrx:rd T dx x (Aq.we (ko Aq.env dy v2)).ev (Aq.we (ko Aq.env dy v2)).h=rd T dx x σ.ev σ.h:=by
         rw[E7 T dx x (ev:=σ.ev) _ (fun a ha=>by rw[aa6 σ.env v2 Aq a ha];cases a with
          |t n=>show Aq.env n=σ.env n;rw[eb]
          |k v=>rfl)]
         exact ad7 (u:=fun n=>σ.used n=true) T dx x σ.ev (fun n hn=>(ob n hn).2) W.box (fun a ha m hm=>W.arg (Ec a ha) m hm)
        rw[hrx,hr];simp only[zai,fin,BK,b2,zab];rw[<-h2,rj,rj];congr 1;show ahc.we (ko (ko Aq.env dy v2) dx v)=ahc.we (ko (ko Ap.env dx v) dy v2);rw[eb,ea,NV σ.env _ _ hd]
end
theorem DR (T:aZ) (o:cT) (σ:St):f0 T o σ=(pg o σ.env).bind fun op=>exec T o.dst op σ:=by
 unfold f0 pg;cases hg:o.guard with
 |none=>rfl
 |some g=>
  obtain⟨s,nH⟩:=g;simp only
  generalize σ.env s=v;cases v with
  |one c=>cases c with
   |c x=>cases x with
    |bool b=>simp only;split<;>rfl
    |_=>rfl
   |_=>rfl
  |agg cs=>rfl
  |cf xs=>cases xs<;>rfl
def cT.wj (o:cT) (n:Nat):Bool:=(o.op.args.all fun a=>match a with|.t m=>m !=n|_=>true)&&(match o.guard with|some (s,_)=>s !=n|none=>true)
def cT.sU (o:cT):Bool:=o.op.args.all MO.flat&&(match o.op with|.store ..=>o.dst.isNone|_=>true)
def DI (x y:cT):Bool:=
 (match x.dst with|some d=>y.wj d&&(match y.dst with|some e=>e !=d|none=>true)|none=>true)&&
 (match y.dst with|some d=>x.wj d|none=>true)&&x.sU&&y.sU&&(x.op.fm==0||y.op.fm==0||(decide (x.op.fm<=1)&&decide (y.op.fm<=1)))
theorem cT.NJ {o:cT} {n:Nat} (h:o.wj n=true):MO.t n∉o.op.args:=by
 intro hm;simp only[cT.wj,zaa,zaf] at h;have:=h.1 _ hm;simp at this
theorem LC {o:cT} {e:Nat->ao} {op:aY} (h:pg o e=some op):op=o.op\/op=.mv (.k (.cf [])):=by
 unfold pg at h;split at h
 ·injection h with h;exact .inl h.symm
 ·split at h
  ·split at h
   ·injection h with h;exact .inl h.symm
   ·injection h with h;exact .inr h.symm
  ·injection h with h;exact .inr h.symm
  ·cases h
theorem Gq {o:cT} {e e':Nat->ao} (h:∀s w,o.guard=some (s,w)->e' s=e s):pg o e'=pg o e:=by
 unfold pg;cases hg:o.guard with
 |none=>rfl
 |some g=>obtain⟨s,w⟩:=g;simp only;rw[h s w hg]
theorem aix {T:aZ} {x y:cT} {σ σ1 σ2:St} (W:Wf σ) (hc:DI x y=true) (h1:f0 T x σ=some σ1) (h2:f0 T y σ1=some σ2):
  ∃τ,f0 T y σ=some τ/\f0 T x τ=some σ2:=by
 simp only[DI,zaa] at hc;obtain⟨⟨⟨⟨c1,c2⟩,c3⟩,c4⟩,c5⟩:=hc;rw[DR] at h1 h2;cases ex:pg x σ.env with
 |none=>rw[ex] at h1;cases h1
 |some lI=>
  rw[ex] at h1;have h1:exec T x.dst lI σ=some σ1:=h1;have jx:lI=x.op\/lI=.mv (.k (.cf [])):=LC ex;have CG:∀sz p v,lI=.store sz p v->x.dst=none:=by
   intro sz p v he;rcases jx with rfl|rfl
   ·simp only[cT.sU,zaa,he] at c3;simpa using c3.2
   ·cases he
  have uK:=yX CG h1;have SA:∀s w,y.guard=some (s,w)->x.dst≠some s:=by
   intro s w hg hd;rw[hd] at c1;simp[cT.wj,hg] at c1
  have MH:∀s w,x.guard=some (s,w)->y.dst≠some s:=by
   intro s w hg hd;rw[hd] at c2;simp[cT.wj,hg] at c2
  have LV:pg y σ1.env=pg y σ.env:=Gq fun s w hg=>by rw[uK];exact tA (SA s w hg)
  rw[LV] at h2;cases ey:pg y σ.env with
  |none=>rw[ey] at h2;cases h2
  |some kZ=>
   rw[ey] at h2;have h2:exec T y.dst kZ σ1=some σ2:=h2;have jy:kZ=y.op\/kZ=.mv (.k (.cf [])):=LC ey;have Ah:∀sz p v,kZ=.store sz p v->y.dst=none:=by
    intro sz p v he;rcases jy with rfl|rfl
    ·simp only[cT.sU,zaa,he] at c4;simpa using c4.2
    ·cases he
   have GA:∀a∈lI.args,a.flat=true:=by
    rcases jx with rfl|rfl
    ·simp only[cT.sU,zaa,zaf] at c3;exact c3.1
    ·intro a ha;simp[aY.args] at ha;subst ha;rfl
   have GC:∀a∈kZ.args,a.flat=true:=by
    rcases jy with rfl|rfl
    ·simp only[cT.sU,zaa,zaf] at c4;exact c4.1
    ·intro a ha;simp[aY.args] at ha;subst ha;rfl
   have te:∀n,x.dst=some n->MO.t n∉kZ.args:=by
    intro n hd;rcases jy with rfl|rfl
    ·rw[hd] at c1;simp only[zaa] at c1;exact cT.NJ c1.1
    ·simp[aY.args]
   have vW:∀n,y.dst=some n->MO.t n∉lI.args:=by
    intro n hd;rcases jx with rfl|rfl
    ·rw[hd] at c2;exact cT.NJ c2
    ·simp[aY.args]
   have ji:∀n,x.dst=some n->y.dst≠some n:=by
    intro n hd he;rw[hd,he] at c1;simp at c1
   have cY:lI.fm=0\/kZ.fm=0\/(lI.fm<=1/\kZ.fm<=1):=by
    rcases jx with rfl|rfl
    ·rcases jy with rfl|rfl
     ·simp only[zaB,beq_iff_eq,zaa,decide_eq_true_eq,or_assoc] at c5;exact c5
     ·exact .inr (.inl rfl)
    ·exact .inl rfl
   obtain⟨τ,t1,t2⟩:=Yt W ji te vW GA GC CG Ah cY h1 h2;refine⟨τ,?_,?_⟩
   ·rw[DR,ey];exact t1
   ·rw[DR,Gq (e:=σ.env) (fun s w hg=>by rw[yX Ah t1];exact tA (MH s w hg)),ex];exact t2
def Yp (ops:Array Oper) (o:Oper) (mo:cT):Bool:=
 match o.guard,mo.guard with
 |none,none=>true
 |some (j,nH),some (s,ag6)=>decide ((ops[j]?).bind (·.dst)=some s)&&(nH==ag6)
 |_,_=>false
def w4 (P:Program) (N:Nat) (ops:Array Oper) (o:Oper) (mo:cT):Bool:=
 decide (o.dst=mo.dst)&&(match o.dst with|some n=>decide (n<N)|none=>true)&&Yp ops o mo&&fM P o mo.op
def rE (P:Program) (N:Nat) (ops:Array Oper):List Oper->List cT->Bool
 |[],[]=>true
 |o::os,m::ms=>w4 P N ops o m&&rE P N ops os ms
 |_,_=>false
section
variable {B:Nat} {E:Ex} {w0 w w':World} {G G':Gh} {N:Nat}
variable {P:Program} {T:aZ} {o:Oper} {mo:cT} {a:Act} {σ σ':St} {Q:Exit->Act->World->Prop} {ops:Array Oper}
structure o6 (P:Program) (T:aZ):Prop where
 spec:JW P T
 agf:Dd P T
 agh:De P T
 agi:yI P T
 fn:∀f M,aZ.find T.pure f=some M->cz P f=true
theorem R.guard (r:R B E w0 N σ a w G) {j s:Nat} {b:Bool} (hj:(ops[j]?).bind (·.dst)=some s) (hb:σ.env s=.one (.c (.bool b))):yielded ops a.tmps j=some b:=by
 have h1:=r.env s;rw[hb] at h1;have h2:=h1.Ds;have h3:a.tmps[s]? =some (.bool b):=by
  rw[zaL] at h2;cases ht:a.tmps[s]? with
  |none=>rw[ht] at h2;simp[undef] at h2
  |some v=>rw[ht] at h2;simp at h2;rw[h2]
 unfold yielded;rw[hj];simp[h3]
theorem afV {w:World} {G:Gh} {h:Nat->Option av}:RA w G h (.cf []) undef:=⟨[],rfl,rfl,fun j x u hx=>by simp at hx⟩
theorem afW {u:Nat->Prop} (m:Nat) (hm:(ao.cf []).ref m):u m:=by
 obtain⟨c,hc,_⟩:=hm;cases hc
theorem R.alf (r:R B E w0 N σ a w G) {j s:Nat} (hj:(ops[j]?).bind (·.dst)=some s) (hb:σ.env s=.cf []):yielded ops a.tmps j=none:=by
 have h1:=r.env s;rw[hb] at h1;obtain⟨vs,h2,h3,_⟩:=h1;have:vs=[]:=zaU.1 h3;subst this;rw[zaL] at h2;unfold yielded;rw[hj];simp only[zai];cases ht:a.tmps[s]? with
 |none=>rfl
 |some v=>
  rw[ht] at h2;simp only[zbg] at h2;subst h2;rfl
theorem LS (r:R B E w0 N σ a w G) (hT:o6 P T) (hc:w4 P N ops o mo=true) (hx:f0 T mo σ=some σ'):
  (Region.wanted o (yielded ops a.tmps)=true/\o.wp P a w (Nx B E w0 N σ') Q)\/(Region.wanted o (yielded ops a.tmps)=false/\Nx B E w0 N σ' (a.put o.dst undef) w):=by
 simp only[w4,zaa,decide_eq_true_eq] at hc;obtain⟨⟨⟨c1,c2⟩,c3⟩,c4⟩:=hc;have hN:∀n,o.dst=some n->n<N:=fun n hn=>by rw[hn] at c2;simpa using c2
 unfold Yp at c3;unfold f0 at hx;split at c3
 ·rename_i g1 g2;simp only[g2] at hx;rw[<-c1] at hx;exact .inl ⟨by simp[Region.wanted,g1],Zh r hT.spec hT.agf hT.agh hT.agi hT.fn hN c4 hx⟩
 ·rename_i j nH s ag6 g1 g2;simp only[zaa,decide_eq_true_eq,beq_iff_eq] at c3;obtain⟨k1,rfl⟩:=c3;simp only[g2] at hx;split at hx
  ·rename_i b hb;have hy:=r.guard k1 hb;split at hx
   ·rename_i Rt;rw[<-c1] at hx;exact .inl ⟨by simp[Region.wanted,g1,hy,Rt],Zh r hT.spec hT.agf hT.agh hT.agi hT.fn hN c4 hx⟩
   ·rename_i Rt;injection hx with hx;subst hx;refine .inr ⟨by simp[Region.wanted,g1,hy,Rt],G,?_⟩;rw[<-c1];exact r.put (x:=.cf []) afV afW hN
  ·rename_i hb;have hy:=r.alf k1 hb;injection hx with hx;subst hx;refine .inr ⟨by simp[Region.wanted,g1,hy],G,?_⟩;rw[<-c1];exact r.put (x:=.cf []) afV afW hN
  ·cases hx
 ·cases c3
theorem R.wf (r:R B E w0 N σ a w G):Wf σ:=⟨r.vh,r.hr.jQ⟩
theorem auU {K:Act->World->Prop} (h:o.wp P a w K (fun _ _ _=>False)):∃a' w',K a' w':=by
 unfold Oper.wp at h;unfold Oper.upon at h;split at h
 ·exact⟨_,_,h⟩
 ·exact⟨_,_,h⟩
 ·exact⟨_,_,h⟩
 ·obtain⟨e,w',fr,hR,_⟩:=h [];cases e with
  |returned v=>exact⟨_,_,hR⟩
  |panicked c=>exact hR.elim
  |outgrown=>obtain⟨_,_,hf⟩:=hR;exact hf.elim
 ·obtain⟨v,w',hR,_⟩:=h default [];exact⟨_,_,hR⟩
 ·exact h.elim
 ·exact h.elim
def JV (B:Nat) (E:Ex) (w0:World) (N:Nat) (σ:St):Prop:=∃a w G,R B E w0 N σ a w G
theorem aed (r:JV B E w0 N σ) (hT:o6 P T) (hc:w4 P N ops o mo=true) (hx:f0 T mo σ=some σ'):JV B E w0 N σ':=by
 obtain⟨a,w,G,r⟩:=r;rcases LS (Q:=fun _ _ _=>False) r hT hc hx with⟨_,h⟩|⟨_,G',h⟩
 ·obtain⟨a',w',G',h⟩:=auU h;exact⟨a',w',G',h⟩
 ·exact⟨_,_,G',h⟩
theorem W7 (hT:o6 P T):∀{l:List Oper} {ms:List cT} {σ σ':St} {a:Act} {w:World} {G:Gh},rE P N ops l ms=true->mF T ms σ=some σ'->R B E w0 N σ a w G->
  (∀a w G,R B E w0 N σ' a w G->Q .normal a w)->wpList P ops Q l a w
 |[],[],σ,σ',a,w,G,hc,hx,r,hQ=>by
  simp only[mF] at hx;injection hx with hx;subst hx;exact hQ _ _ _ r
 |o::l,m::ms,σ,σ',a,w,G,hc,hx,r,hQ=>by
  simp only[rE,zaa] at hc;simp only[mF] at hx;split at hx
  ·rename_i σ1 e1;unfold wpList;rcases LS (Q:=Q) r hT hc.1 e1 with⟨hw,h⟩|⟨hw,G',h⟩
   ·rw[if_pos hw];exact .inl (Oper.wp_mono (fun a' w' ⟨G',r'⟩=>W7 hT hc.2 hx r' hQ) h)
   ·rw[if_neg (by simp[hw])];exact W7 hT hc.2 hx h hQ
  ·cases hx
 |[],_::_,_,_,_,_,_,hc,_,_,_=>by simp[rE] at hc
 |_::_,[],_,_,_,_,_,hc,_,_,_=>by simp[rE] at hc
def sT (T:aZ) (ms:List cT):List Nat->St->Option St
 |[],σ=>some σ
 |i::L,σ=>match ms[i]? with
  |some o=>match f0 T o σ with
   |some σ1=>sT T ms L σ1
   |none=>none
  |none=>none
inductive yn (ops:Array Oper):Nat->Nat->Prop where
 |YW (i:Nat) (o:Oper) (e:_):ops[i]? =some o->e∈o.after->Region.binds .any e=true->yn ops i e.on
 |step (i j:Nat) (o:Oper) (e:_):ops[i]? =some o->e∈o.after->Region.binds .any e=true->yn ops e.on j->yn ops i j
def QG (o:Oper):List Nat:=(o.after.toList.filter (Region.binds .any)).map (·.on)
def HY (dV:List Nat):List Nat->Nat
 |[]=>0
 |j::js=>(Nat.shiftLeft 1 j|||dV.getD j 0)|||HY dV js
def EO:List Oper->List Nat->List Nat
 |[],dV=>dV
 |o::os,dV=>EO os (dV++[HY dV (QG o)])
theorem aoE {o:Oper} {j:Nat} (h:j∈QG o):∃e∈o.after,Region.binds .any e=true/\e.on=j:=by
 unfold QG at h;simp only[zaj,za2] at h;obtain⟨e,⟨h1,h2⟩,h3⟩:=h;exact⟨e,zaJ.1 h1,h2,h3⟩
theorem ab5 {dV:List Nat}:∀{js:List Nat} {k:Nat},(HY dV js).testBit k=true->∃j∈js,j=k\/(dV.getD j 0).testBit k=true
 |[],k,h=>by simp[HY] at h
 |j::js,k,h=>by
  simp only[HY,Nat.testBit_or,zaB] at h;rcases h with(h|h)|h
  ·refine⟨j,by simp,.inl ?_⟩;have h':(1<<<j).testBit k=true:=h;rw[Nat.one_shiftLeft,Nat.testBit_two_pow] at h';exact of_decide_eq_true h'
  ·exact⟨j,by simp,.inr h⟩
  ·obtain⟨j',h1,h2⟩:=ab5 h;exact⟨j',by simp[h1],h2⟩
theorem TJ {ops:Array Oper}:∀(os:List Oper) (dV:List Nat) (pre:List Oper),ops.toList=pre++os->dV.length=pre.length->(∀i k,(dV.getD i 0).testBit k=true->yn ops i k)->
  ∀i k,((EO os dV).getD i 0).testBit k=true->yn ops i k
 |[],dV,pre,_,_,h,i,k,hb=>h i k hb
 |o::os,dV,pre,he,hl,h,i,k,hb=>by
  refine TJ os _ (pre++[o]) (by simp[he]) (by simp[hl]) (fun i k hb=>?_) i k hb;by_cases cD:i<dV.length
  ·rw[zam,zaF cD,<-zam] at hb;exact h i k hb
  ·by_cases hi:i=dV.length
   ·subst hi;rw[zam,zao (zav _),za3] at hb;simp only[zaV,zbg] at hb;have ho:ops[dV.length]? =some o:=by
     have:ops.toList[dV.length]? =some o:=by rw[he,hl,zao (zav _),za3];rfl
     simpa using this
    obtain⟨j,h1,h2⟩:=ab5 hb;obtain⟨e,e1,e2,rfl⟩:=aoE h1;rcases h2 with rfl|h2
    ·exact .YW _ o e ho e1 e2
    ·exact .step _ _ o e ho e1 e2 (h _ _ h2)
   ·rw[zam,za1 (by simp;omega)] at hb;simp at hb
def Lo (ops:List Oper) (ms:List cT):Bool:=
 (fun ks:List Nat=>(List.range ops.length).all fun i=>match ops[i]?,ms[i]? with
  |some o,some m=>(o.after.toList.all fun e=> !Region.binds .any e||decide (e.on<i))&&
   (List.range i).all fun j=>(ks.getD i 0).testBit j||(match ms[j]? with|some mj=>DI mj m|none=>false)
  |_,_=>false) (EO ops [])
structure Xg (ops:Array Oper) (ms:List cT):Prop where
 back:∀(i:Nat) (o:Oper),ops[i]? =some o->∀e∈o.after,Region.binds .any e=true->e.on<i
 pair:∀(i j:Nat) (o:Oper) (m:cT),ops[i]? =some o->ms[i]? =some m->j<i->yn ops i j\/∃mj,ms[j]? =some mj/\DI mj m=true
theorem ail {ms:List cT} (h:Lo ops.toList ms=true):Xg ops ms:=by
  simp only[Lo,zaf,zaG] at h;have cI:∀(i:Nat) (o:Oper),ops[i]? =some o->∃m,ms[i]? =some m/\(o.after.toList.all fun e=> !Region.binds .any e||decide (e.on<i))=true/\
        ∀j,j<i->(((EO ops.toList []).getD i 0).testBit j||(match ms[j]? with|some mj=>DI mj m|none=>false))=true:=by
    intro i o ho;have hi:i<ops.toList.length:=by simpa using(zap.1 ho).1
    have e7:=h i hi;have jE:ops.toList[i]? =some o:=by simpa using ho
    rw[jE] at e7;cases hm:ms[i]? with
    |none=>rw[hm] at e7;cases e7
    |some m=>
     rw[hm] at e7;simp only[zaa,zaf,zaG] at e7;exact⟨m,rfl,by rw[zaf];exact e7.1,e7.2⟩
  refine⟨fun i o ho e he hb=>?_,fun i j o m ho hm hj=>?_⟩
  · obtain⟨m,_,k1,_⟩:=cI i o ho;have:=zaf.1 k1 e (zaJ.2 he);simp[hb] at this;exact this
  · obtain⟨m',cF,_,k2⟩:=cI i o ho;rw[hm] at cF;injection cF with cF;subst cF;have:=k2 j hj;rw[zaB] at this;rcases this with h1|h1
    · exact .inl (TJ ops.toList [] [] rfl rfl (by intro i k hb;simp at hb) i j h1)
    · cases Eg:ms[j]? with
      |none=>rw[Eg] at h1;cases h1
      |some mj=>rw[Eg] at h1;exact .inr ⟨mj,rfl,h1⟩
def O7 (ops:Array Oper) (d9:Array Bool):Prop:=
 ∀(k:Nat) (o:Oper),ops[k]? =some o->d9.getD k true=true->∀e∈o.after,Region.binds .any e=true->d9.getD e.on true=true
theorem X5 {d9:Array Bool} (hc:O7 ops d9) {i j:Nat} (hb:yn ops i j):(∀o,ops[i]? =some o->∀e∈o.after,Region.binds .any e=true->d9.getD e.on true=true)->d9.getD j true=true:=by
 induction hb with
 |YW i o e ho he hb=>exact fun h=>h o ho e he hb
 |step i j o e ho he hb _ ih=>exact fun h=>ih fun o' jE=>hc _ o' jE (h o ho e he hb)
theorem Zk (hT:o6 P T) {ms:List cT} (uG:∀(i:Nat) (m:cT),ms[i]? =some m->∃o,ops[i]? =some o/\w4 P N ops o m=true) {i:Nat} {mi:cT} (hi:ms[i]? =some mi) {post:List Nat} {lg:St}:
  ∀{pre:List Nat} {σ:St},JV B E w0 N σ->sT T ms (pre++i::post) σ=some lg->(∀j∈pre,∃mj,ms[j]? =some mj/\DI mj mi=true)->
  ∃τ,f0 T mi σ=some τ/\sT T ms (pre++post) τ=some lg
 |[],σ,hr,hx,hc=>by
  simp only[zbj,sT,hi] at hx;split at hx
  ·rename_i σ1 e;exact⟨σ1,e,hx⟩
  ·cases hx
 |j::pre,σ,hr,hx,hc=>by
  obtain⟨mj,hj,mI⟩:=hc j (by simp);simp only[zaW,sT,hj] at hx;split at hx
  ·rename_i σ1 e1;obtain⟨oj,_,iu⟩:=uG j mj hj;obtain⟨rq,t1,t2⟩:=Zk hT uG hi (aed hr hT iu e1) hx (fun k hk=>hc k (by simp[hk]));obtain⟨a,w,G,r⟩:=hr;obtain⟨τ,s1,s2⟩:=aix r.wf mI e1 t1;exact⟨τ,s1,by simp only[zaW,sT,hj,s2];exact t2⟩
  ·cases hx
theorem auS (hT:o6 P T) {ms:List cT} (uG:∀(i:Nat) (m:cT),ms[i]? =some m->∃o,ops[i]? =some o/\w4 P N ops o m=true) (hlen:ms.length=ops.size) (hd:Xg ops ms) {lg:St}
  (hQ:∀a w G,R B E w0 N lg a w G->Q .normal a w):
  ∀(kA:Nat) (L:List Nat) (d9:Array Bool) (σ:St) (a:Act) (w:World) (G:Gh),R B E w0 N σ a w G->sT T ms L σ=some lg->L.Pairwise (·<·)->L.length<=kA->d9.size=ops.size->
   (∀j,j∈L↔d9.getD j true=false)->O7 ops d9->wpAny P .any ops Q kA d9 a w:=by
 have first:∀(L:List Nat) (d9:Array Bool),L.Pairwise (·<·)->d9.size=ops.size->(∀j,j∈L↔d9.getD j true=false)->Region.ready .any ops d9=[]->L=[]:=by
  intro L d9 hp hs hL hr;cases L with
  |nil=>rfl
  |cons j L=>
   exfalso;have hj:=(hL j).1 (by simp);have pt:j<ops.size:=by
    rw[<-hs];rcases za4 j d9.size with h|h
    ·exact h
    ·simp[zaz h] at hj
   have ho:ops[j]? =some ops[j]:=zaT pt;have:j∈Region.ready .any ops d9:=by
    rw[mem_ready];refine⟨hj,_,ho,fun e he hb=>?_⟩;have cD:=hd.back j _ ho e he hb;have pw:e.on∉j::L:=by
     intro hm;cases hm with
     |head=>omega
     |tail _ hm=>have:=(zay.1 hp).1 _ hm;omega
    have aE:d9.getD e.on true≠false:=fun h=>pw ((hL e.on).2 h);have rT:e.on<d9.size:=by omega
    simp[rT] at aE⊢;exact aE
   rw[hr] at this;cases this
 intro kA;induction kA with
 |zero=>
  intro L d9 σ a w G r hx hp hl hs hL hC;have uF:L=[]:=zak (by omega);subst uF;simp only[sT] at hx;injection hx with hx;subst hx;refine⟨?_,hQ _ _ _ r⟩;cases hr:Region.ready .any ops d9 with
  |nil=>rfl
  |cons i l=>
   have hm:i∈Region.ready .any ops d9:=by rw[hr];simp
   have:=(hL i).2 (mem_ready.1 hm).1;cases this
 |succ kA ih=>
  intro L d9 σ a w G r hx hp hl hs hL hC;refine⟨fun hr=>?_,fun i hi=>?_⟩
  ·have uF:=first L d9 hp hs hL hr
   subst uF;simp only[sT] at hx;injection hx with hx;subst hx;exact hQ _ _ _ r
  ·obtain⟨RS,oi,mL,GQ⟩:=mem_ready.1 hi;have s8:i∈L:=(hL i).2 RS;obtain⟨pre,post,rfl⟩:=zbc s8;have Ha:i<ops.size:=(zap.1 mL).1;have Bu:ms[i]? =some ms[i]:=zad (by omega);obtain⟨o',jE,vK⟩:=uG i _ Bu;rw[mL] at jE;injection jE with jE;subst jE;have iR:=zaE.1 hp;obtain⟨τ,t1,t2⟩:=Zk (ops:=ops) hT uG Bu ⟨a,w,G,r⟩ hx (fun j hj=>by
    have qQ:j<i:=iR.2.2 j hj i (by simp);rcases hd.pair i j oi _ mL Bu qQ with Rq|h
    ·have h1:=X5 hC Rq (fun o ho e he hb=>by
      rw[mL] at ho;injection ho with ho;subst ho;have h1:=GQ e he hb;have cD:=hd.back i _ mL e he hb;have rT:e.on<d9.size:=by omega
      simp[rT] at h1⊢;exact h1)
     have h2:=(hL j).1 (by simp[hj]);rw[h1] at h2;cases h2
    ·exact h)
   have xH:∀a' w',Nx B E w0 N τ a' w'->wpAny P .any ops Q kA (d9.setIfInBounds i true) a' w':=by
    rintro a' w' ⟨G',r'⟩;refine ih (pre++post) _ τ a' w' G' r' t2 ?_ (by simp at hl⊢;omega) (by simpa using hs) (fun j=>?_) (fun k o ho hk e he hb=>?_)
    ·rw[zaE];exact⟨iR.1,(zay.1 iR.2.1).2,fun x hx y hy=>iR.2.2 x hx y (by simp[hy])⟩
    ·by_cases qQ:j=i
     ·subst qQ;have pt:j<d9.size:=by omega
      simp only[zae];constructor
      ·rintro(h|h)
       ·have:=iR.2.2 j h j (by simp);omega
       ·have:=(zay.1 iR.2.1).1 j h;omega
      ·intro h;simp[pt] at h
     ·rw[getD_set_ne true (zaQ qQ),<-hL j];simp[qQ]
    ·have Hd:∀q,d9.getD q true=true->(d9.setIfInBounds i true).getD q true=true:=by
      intro q hq;by_cases lZ:q=i
      ·subst lZ;have:q<d9.size:=by omega
       simp[this]
      ·rw[getD_set_ne true (zaQ lZ)];exact hq
     by_cases Bq:k=i
     ·subst Bq;rw[mL] at ho;injection ho with ho;subst ho;have h1:=GQ e he hb;have cD:=hd.back k _ mL e he hb;have rT:e.on<d9.size:=by omega
      refine Hd _ ?_;simp[rT] at h1⊢;exact h1
     ·rw[getD_set_ne true (zaQ Bq)] at hk;exact Hd _ (hC k o ho hk e he hb)
   unfold wpOp;rw[mL];simp only
   rcases LS (Q:=Q) r hT vK t1 with⟨hw,h⟩|⟨hw,h⟩
   ·rw[if_pos hw];exact .inl (Oper.wp_mono xH h)
   ·rw[if_neg (by simp[hw])];exact xH _ _ h
theorem Zj:∀(post pre:List cT) (σ:St),sT T (pre++post) (List.range' pre.length post.length) σ=mF T post σ
 |[],pre,σ=>by simp[sT,mF]
 |m::post,pre,σ=>by
  simp only[zbh,List.range'_succ,sT,mF];rw[zao (zav _),za3];simp only[zaV];cases f0 T m σ with
  |none=>rfl
  |some σ1=>
   have:=Zj post (pre++[m]) σ1;simp only[List.length_append,zbh,za5,List.append_assoc,List.singleton_append,Nat.zero_add] at this;exact this
theorem Qn:∀{l:List Oper} {ms:List cT},rE P N ops l ms=true->ms.length=l.length/\∀(i:Nat) (m:cT),ms[i]? =some m->∃o,l[i]? =some o/\w4 P N ops o m=true
 |[],[],_=>⟨rfl,by simp⟩
 |o::l,m::ms,hc=>by
  simp only[rE,zaa] at hc;obtain⟨i1,i2⟩:=Qn hc.2;refine⟨by simp[i1],fun i m' hm=>?_⟩;cases i with
  |zero=>simp at hm;subst hm;exact⟨o,rfl,hc.1⟩
  |succ i=>exact i2 i m' (by simpa using hm)
 |[],_::_,hc=>by simp[rE] at hc
 |_::_,[],hc=>by simp[rE] at hc
theorem R.drawn (r:R B E w0 N σ a w G) (k:Nat):R B E w0 N σ a {w with drawn:=k} G:=by
 have hw:∀b,b<w.heap.size->({w with drawn:=k}:World).heap[b]? =w.heap[b]? :=fun _ _=>rfl
 exact r.step rfl (fun _ h=>h) (bW.world (fun b hb=>hw b (r.hr.jq b hb)) _) (r.hr.grow hw (zav _)) (r.fr.grow hw (zav _) rfl rfl rfl)
theorem asG (hT:o6 P T) (hm:P.follows .mixedOrders=true) {id:Nat} {uv:Bool} {ms:List cT} (hc:rE P N ops ops.toList ms=true) (hd:uv=true->Lo ops.toList ms=true)
  (hx:mF T ms σ=some σ') (r:R B E w0 N σ a w G) (hQ:∀a w G,R B E w0 N σ' a w G->Q .normal a w):(Code.region id ops uv).wp P Q a w:=by
 cases uv with
 |false=>exact wp_region_list (W7 hT hc hx r hQ)
 |true=>
  obtain⟨k1,k2⟩:=Qn hc;have hlen:ms.length=ops.size:=by simpa using k1
  refine wp_region_any hm (auS (B:=B) (E:=E) (w0:=w0) (N:=N) hT (fun i m h=>by
   obtain⟨o,h1,h2⟩:=k2 i m h;exact⟨o,by simpa using h1,h2⟩) hlen (ail (hd rfl)) hQ ops.size (List.range ops.size) _ σ a _ G (r.drawn _) ?_ ?_ (by simp) (by simp) (fun j=>?_) (fun k o ho hk=>?_))
  ·have:=Zj (T:=T) ms [] σ;simp only[zbj,za5,hlen,<-za8] at this;rw[this];exact hx
  ·exact zaY
  ·rw[zaG];constructor
   ·intro h;simp[h]
   ·intro h;rcases za4 j ops.size with h'|h'
    ·exact h'
    ·simp[zaz (show(Array.replicate ops.size false).size<=j by simpa using h')] at h
  ·exfalso;have R0:k<ops.size:=(zap.1 ho).1;simp[R0] at hk
end
theorem Uu (ok:Nat->Bool) (env:Nat->ao):∀(ss:List Nat) (n:Nat),x5 ok env ss n=if n∈ss then(env n).dW ok else .one .cd
 |[],n=>by simp[x5,yU]
 |s::ss,n=>by
  simp only[x5,lc,Uu ok env ss,zaC];by_cases h:n=s
  ·subst h;simp
  ·simp[h]
theorem NY (ok:Nat->Bool) (h:Nat->Option av):∀(ss:List Nat) (n:Nat),tE ok h ss n=if n∈ss/\ok n=true then(h n).map (·.dW ok) else none
 |[],n=>by simp[tE,DM]
 |s::ss,n=>by
  have ih:=NY ok h ss n;simp only[tE,zaC];by_cases hn:n=s
  ·subst hn;by_cases hk:ok n=true
   ·rw[if_pos hk];cases hh:h n with
    |some b=>simp[cJ,hk]
    |none=>simp only[ih,hh];simp
   ·rw[if_neg hk,ih];simp[hk]
  ·by_cases hk:ok s=true
   ·rw[if_pos hk];cases hh:h s with
    |some b=>simp only[dA _ _ _ _ hn,ih];simp[hn]
    |none=>simp only[ih];simp[hn]
   ·rw[if_neg hk,ih];simp[hn]
theorem aek (ok:Nat->Bool):∀(ss:List Nat) (n:Nat),x6 ok ss n=(decide (n∈ss)&&ok n)
 |[],n=>by simp[x6,Y0]
 |s::ss,n=>by
  have ih:=aek ok ss n;simp only[x6];by_cases hn:n=s
  ·subst hn;by_cases hk:ok n=true
   ·rw[if_pos hk];simp[cJ,hk]
   ·rw[if_neg hk,ih];simp[hk]
  ·by_cases hk:ok s=true
   ·rw[if_pos hk,dA _ _ _ _ hn,ih];simp[hn]
   ·rw[if_neg hk,ih];simp[hn]
theorem aj.aip {ok:Nat->Bool} {c:aj} {m:Nat} (h:(c.gv ok).kq m):ok m=true:=by
 cases c<;>simp only[aj.gv] at h<;>first|exact h.elim|skip
 all_goals
  split at h
  ·rename_i hk;have h':=h;simp only[aj.kq] at h';subst h';exact hk
  ·exact h.elim
theorem aj.DG {ok:Nat->Bool} {c:aj} {m:Nat} (h:(c.dW ok).ref m):ok m=true:=by
 cases c with
 |fn f c9=>
  obtain⟨x,hx,h⟩:=h;obtain⟨y,hy,rfl⟩:=zaj.1 hx;exact aj.aip h
 |c x=>exact h.elim
 |nil sz=>exact h.elim
 |dr xs off=>exact h.elim
 |cd=>exact h.elim
 |ptr n k sz off=>
  simp only[aj.dW,aj.gv] at h;split at h
  ·rename_i hk;have h':m=n:=h;subst h';exact hk
  ·exact h.elim
 |sl n sz lo len=>
  simp only[aj.dW,aj.gv] at h;split at h
  ·rename_i hk;have h':m=n:=h;subst h';exact hk
  ·exact h.elim
 |ct n k aR off sz len=>
  simp only[aj.dW,aj.gv] at h;split at h
  ·rename_i hk;have h':m=n:=h;subst h';exact hk
  ·exact h.elim
 |dY n k aR off sz i=>
  simp only[aj.dW,aj.gv] at h;split at h
  ·rename_i hk;have h':m=n:=h;subst h';exact hk
  ·exact h.elim
 |cN xs off j n sz len=>
  simp only[aj.dW,aj.gv] at h;split at h
  ·rename_i hk;have h':m=n:=h;subst h';exact hk
  ·exact h.elim
section
variable {B:Nat} {E:Ex} {w0 w w':World} {G G':Gh} {N:Nat} {h h':Nat->Option av} {ok:Nat->Bool}
variable {P:Program} {T:aZ} {a:Act} {σ σ':St} {Q:Exit->Act->World->Prop}
structure rr (ok:Nat->Bool) (h h':Nat->Option av):Prop where
 le:∀n,ok n=true->h' n=(h n).map (·.dW ok)\/h' n=none
 no:∀n,ok n=false->h' n=none
theorem rr.ne (L:rr ok h h') {n:Nat} (hn:h' n≠none):ok n=true/\h n≠none:=by
 cases hk:ok n with
 |false=>exact absurd (L.no n hk) hn
 |true=>
  refine⟨rfl,fun e=>?_⟩;rcases L.le n hk with h1|h1
  ·rw[e] at h1;exact hn h1
  ·exact hn h1
theorem rr.row (L:rr ok h h') {n:Nat} {gr:Bool} {m:Mode} {sz:Nat} {xs:List (List C)} (hn:h' n=some (.row gr m sz xs)):h n=some (.row gr m sz xs):=by
 obtain⟨hk,h0⟩:=L.ne (n:=n) (by rw[hn];simp);rcases L.le n hk with h1|h1
 ·rw[h1] at hn;cases hh:h n with
  |none=>exact absurd hh h0
  |some b=>cases b with
   |box cs=>rw[hh] at hn;simp[av.dW] at hn
   |row gr m sz xs=>rw[hh] at hn;simp only[zab,av.dW] at hn;exact hn
 ·rw[h1] at hn;cases hn
theorem rr.box (L:rr ok h h') {n:Nat} {cs:List aj} (hn:h' n=some (.box cs)):∃j8,h n=some (.box j8)/\cs=j8.map (·.dW ok):=by
 obtain⟨hk,h0⟩:=L.ne (n:=n) (by rw[hn];simp);rcases L.le n hk with h1|h1
 ·rw[h1] at hn;cases hh:h n with
  |none=>exact absurd hh h0
  |some b=>cases b with
   |box j8=>
    rw[hh] at hn;simp only[zab,av.dW] at hn;injection hn with hn;injection hn with hn;exact⟨j8,rfl,hn.symm⟩
   |row gr m sz xs=>rw[hh] at hn;simp[av.dW] at hn
 ·rw[h1] at hn;cases hn
theorem kK.less (L:rr ok h h') {c:aj} {v:Value} (hc:kK w G h c v):kK w G h' (c.gv ok) v:=by
 cases c with
 |ptr n k sz off=>
  simp only[aj.gv];split
  ·exact fun hn=>hc (L.ne hn).2
  ·trivial
 |sl n sz lo len=>
  simp only[aj.gv];split
  ·exact fun hn=>hc (L.ne hn).2
  ·trivial
 |ct n k aR off sz len=>
  simp only[aj.gv];split
  ·exact fun gr xs hn=>hc gr xs (L.row hn)
  ·trivial
 |dY n k aR off sz i=>
  simp only[aj.gv];split
  ·exact fun gr xs hn=>hc gr xs (L.row hn)
  ·trivial
 |cN xs off j n sz len=>
  simp only[aj.gv];split
  ·obtain⟨b,o,pe,h1,h2,h3,h4,h5⟩:=hc;obtain⟨u,u1,u2,u3⟩:=h5;exact⟨b,o,pe,h1,h2,h3,h4,u,u1,u2,fun hn=>u3 (L.ne hn).2⟩
  ·trivial
 |c x=>exact hc
 |nil sz=>exact hc
 |dr xs off=>exact hc
 |fn f c9=>exact hc
 |cd=>exact hc
theorem RC.less (L:rr ok h h') {c:aj} {v:Value} (hc:RC w G h c v):RC w G h' (c.dW ok) v:=by
 cases c with
 |fn f c9=>
  obtain⟨vs,h1,h2,h3⟩:=hc;refine⟨vs,h1,by simpa using h2,fun j c u hj hu=>?_⟩;rw[zag] at hj;cases hc:c9[j]? with
  |none=>rw[hc] at hj;cases hj
  |some c0=>
   rw[hc] at hj;simp at hj;subst hj;exact⟨(h3 j c0 u hc hu).1,(h3 j c0 u hc hu).2.less L⟩
 |ptr n k sz off=>
  have:=kK.less (w:=w) (G:=G) L (c:=.ptr n k sz off) hc;simp only[aj.dW];rw[yF]
  ·exact this
  ·simp only[aj.gv];split<;>rfl
 |sl n sz lo len=>
  have:=kK.less (w:=w) (G:=G) L (c:=.sl n sz lo len) hc;simp only[aj.dW];rw[yF]
  ·exact this
  ·simp only[aj.gv];split<;>rfl
 |ct n k aR off sz len=>
  have:=kK.less (w:=w) (G:=G) L (c:=.ct n k aR off sz len) hc;simp only[aj.dW];rw[yF]
  ·exact this
  ·simp only[aj.gv];split<;>rfl
 |dY n k aR off sz i=>
  have:=kK.less (w:=w) (G:=G) L (c:=.dY n k aR off sz i) hc;simp only[aj.dW];rw[yF]
  ·exact this
  ·simp only[aj.gv];split<;>rfl
 |cN xs off j n sz len=>
  have:=kK.less (w:=w) (G:=G) L (c:=.cN xs off j n sz len) hc;simp only[aj.dW];rw[yF]
  ·exact this
  ·simp only[aj.gv];split<;>rfl
 |c x=>exact hc
 |nil sz=>exact hc
 |dr xs off=>exact hc
 |cd=>exact hc
theorem dT.less (L:rr ok h h') {cs:List aj} {vs:List Value} (hc:dT w G h cs vs):dT w G h' (cs.map (·.dW ok)) vs:=by
 refine⟨by simpa using hc.1,fun j c u hj hu=>?_⟩;rw[zag] at hj;cases gf:cs[j]? with
 |none=>rw[gf] at hj;cases hj
 |some c0=>
  rw[gf] at hj;simp at hj;subst hj;exact⟨(hc.2 j c0 u gf hu).1,(hc.2 j c0 u gf hu).2.less L⟩
theorem RV.less (L:rr ok h h') {ag:Bool} {cs:List aj} {v:Value} (hc:RV w G h ag cs v):RV w G h' ag (cs.map (·.dW ok)) v:=by
 unfold RV at*
 split
 ·rename_i h1;simp only[h1,if_true] at hc;obtain⟨vs,e,hv⟩:=hc;exact⟨vs,e,hv.less L⟩
 ·rename_i h1;simp only[h1] at hc;exact dT.less L hc
theorem RA.less (L:rr ok h h') {x:ao} {v:Value} (hc:RA w G h x v):RA w G h' (x.dW ok) v:=by
 cases x with
 |one c=>
  rcases hc with rfl|hc
  ·exact Or.inl rfl
  ·exact Or.inr (RV.less L hc)
 |agg cs=>exact RV.less L hc
 |cf xs=>
  obtain⟨vs,e,hl,hv⟩:=hc;refine⟨vs,e,by simpa using hl,fun j x u hj hu=>?_⟩;rw[zag] at hj;cases gf:xs[j]? with
  |none=>rw[gf] at hj;cases hj
  |some c0=>
   rw[gf] at hj;simp at hj;subst hj;exact RV.less L (hv j c0 u gf hu)
theorem ao.DG {x:ao} {m:Nat} (h:(x.dW ok).ref m):ok m=true:=by
 cases x with
 |one c=>exact aj.DG h
 |agg cs=>
  obtain⟨c,hc,h⟩:=h;obtain⟨c0,gf,rfl⟩:=zaj.1 hc;exact aj.DG h
 |cf xs=>
  obtain⟨x,hx,c,hc,h⟩:=h;obtain⟨x0,hx0,rfl⟩:=zaj.1 hx;obtain⟨c0,gf,rfl⟩:=zaj.1 hc;exact aj.DG h
theorem HR.less {used:Nat->Bool} (H:HR B E w G h used []) (L:rr ok h h'):HR B E w G h' ok []:=by
 refine⟨fun n hn=>(L.ne hn).1,fun m cs c n hm hc hr=>?_,fun n cs hn=>?_,fun n gr m sz xs hn=>H.row n gr m sz xs (L.row hn),fun n hn=>H.own n (L.ne hn).2,fun n n' hn bU=>H.inj n n' (L.ne hn).2 (L.ne bU).2,
  H.jq,H.rW,fun n n' gr m sz xs cc m' be az hn bU=>H.iF n n' gr m sz xs cc m' be az (L.row hn) (L.row bU),fun n gr sz xs hn b hb n' bU=>H.live n gr sz xs (L.row hn) b hb n' (L.ne bU).2,?_,?_,?_⟩
 ·obtain⟨j8,_,rfl⟩:=L.box hm;obtain⟨c0,_,rfl⟩:=zaj.1 hc;exact aj.DG hr
 ·obtain⟨j8,h0,rfl⟩:=L.box hn;obtain⟨a1,a2,a3⟩:=H.box n j8 h0;refine⟨a1,a2,fun j c hj=>?_⟩;rw[zag] at hj;cases gf:j8[j]? with
  |none=>rw[gf] at hj;cases hj
  |some c0=>
   rw[gf] at hj;simp at hj;subst hj;obtain⟨v,b1,b2,b3⟩:=a3 j c0 gf;exact⟨v,b1,b2,b3.less L⟩
 ·intro i pc hi;simp at hi
 ·intro i j pc eX b _ hi;simp at hi
 ·intro i pc n gr m sz xs b hi;simp at hi
theorem HR.auI {used used':Nat->Bool} (H:HR B E w G h used []) (hu:∀n,used n=true->used' n=true):HR B E w G h used' []:=
 ⟨fun n hn=>hu n (H.kN n hn),fun m cs c n hm hc hr=>hu n (H.jQ m cs c n hm hc hr),H.box,H.row,H.own,H.inj,H.jq,H.rW,H.iF,H.live,H.tU,H.yk,H.tV⟩
theorem TX {ke kh:List Nat} {n:Nat} (hn:σ.kY ke kh n=true):n∈kh:=by
 simp only[St.kY,zaa] at hn;simpa using hn.1.1
theorem R.kt (r:R B E w0 N σ a w G) (ke kh:List Nat):R B E w0 N (σ.kt ke kh) a w G:=by
 have L:rr (σ.kY ke kh) σ.h (σ.kt ke kh).h:=by
  refine⟨fun n hn=>.inl ?_,fun n hn=>?_⟩
  ·show tE _ _ _ n=_;rw[NY,if_pos ⟨TX hn,hn⟩]
  ·show tE _ _ _ n=_;rw[NY,if_neg (by simp[hn])]
 have hu:∀n,σ.kY ke kh n=true->(σ.kt ke kh).used n=true:=by
  intro n hk;show(Nat.ble aD n||x6 _ _ n)=true;rw[aek];simp[hk,TX hk]
 refine⟨r.defers,r.size,fun s=>?_,fun s n hn=>?_,?_,r.fr,fun n p b hp hb=>?_,fun n hn=>?_⟩
 ·show RA w G _ (x5 _ _ _ s) _;rw[Uu];split
  ·exact(r.env s).less L
  ·exact Or.inl rfl
 ·have bU:(x5 (σ.kY ke kh) σ.env ke s).ref n:=hn;rw[Uu] at bU;split at bU
  ·exact hu n (ao.DG bU)
  ·exact absurd bU id
 ·exact(r.hr.less L).auI hu
 ·have h0:(σ.kt ke kh).h n≠none:=by rw[hb];simp
  obtain⟨hk,_⟩:=L.ne h0;have vR:=fun b0 (h1:σ.h n=some b0)=>r.qw n p b0 hp h1;have bB:tE (σ.kY ke kh) σ.h kh n=some b:=hb;rw[NY,if_pos ⟨TX hk,hk⟩] at bB;cases h1:σ.h n with
  |none=>rw[h1] at bB;cases bB
  |some b0=>
   obtain⟨p1,p2,p3,p4,p6,p5⟩:=vR b0 h1;refine⟨p1,p2,p3,p4,p6,fun gr sz xs GU=>?_⟩;rw[h1,GU] at bB;cases b0 with
   |box cs=>simp[av.dW] at bB
   |row cc m' be az=>
    simp only[av.dW,zab,zbd,av.row.injEq] at bB;obtain⟨_,rfl,_,_⟩:=bB;exact p5 cc be az rfl
 ·show(Nat.ble aD n||_)=true;rw[za6 hn];rfl
end
def back (x c n:Nat):Nat:=if n=c then x else n
theorem X4 {x c n:Nat} (hn:n≠c):back x c (pP x c n)=n:=by
 unfold back pP;by_cases h:n=x
 ·subst h;simp
 ·simp[h,hn]
theorem asP {x c n:Nat} (hx:x≠c) (hn:n≠c):pP x c n≠x:=by
 unfold pP;by_cases h:n=x
 ·simp[h];exact fun e=>hx e.symm
 ·simp[h]
structure qF (x c:Nat) (used:Nat->Bool) (h h':Nat->Option av):Prop where
 ne:x≠c
 uc:used c=false
 gone:h' x=none
 b:∀n,n≠x->h' n=(h (back x c n)).map (·.bI x c)
section
variable {B:Nat} {E:Ex} {w0 w w':World} {G G':Gh} {N:Nat} {h h':Nat->Option av} {used:Nat->Bool} {x c:Nat}
variable {P:Program} {T:aZ} {a:Act} {σ σ':St} {Q:Exit->Act->World->Prop}
def vI (G:Gh) (x c:Nat):Gh:=⟨G.Im,fun n=>G.g (back x c n)⟩
theorem qF.at (L:qF x c used h h') {n:Nat} (hn:used n=true):h' (pP x c n)=(h n).map (·.bI x c):=by
 have hc:n≠c:=fun e=>by subst e;rw[L.uc] at hn;cases hn
 rw[L.b _ (asP L.ne hc),X4 hc]
theorem qF.GJ (L:qF x c used h h') {n:Nat} (hn:used n=true):(vI G x c).g (pP x c n)=G.g n:=by
 have hc:n≠c:=fun e=>by subst e;rw[L.uc] at hn;cases hn
 show G.g (back x c (pP x c n))=_;rw[X4 hc]
theorem Nq {o:Option av} (hn:o.map (·.bI x c)≠none):o≠none:=by
 cases o with
 |none=>exact absurd rfl hn
 |some b=>simp
theorem TH {o:Option av} {gr:Bool} {m:Mode} {sz:Nat} {xs:List (List C)} (hn:o.map (·.bI x c)=some (.row gr m sz xs)):o=some (.row gr m sz xs):=by
 cases o with
 |none=>cases hn
 |some b=>cases b with
  |box cs=>simp[av.bI] at hn
  |row gr m sz xs=>exact hn
theorem ab4 {o:Option av} {cs:List aj} (hn:o.map (·.bI x c)=some (.box cs)):∃j8,o=some (.box j8)/\cs=j8.map (·.bI x c):=by
 cases o with
 |none=>cases hn
 |some b=>cases b with
  |box j8=>
   simp only[zab,av.bI] at hn;injection hn with hn;injection hn with hn;exact⟨j8,rfl,hn.symm⟩
  |row gr m sz xs=>simp[av.bI] at hn
theorem kK.bI (L:qF x c used h h') {y:aj} {v:Value} (hr:∀m,y.kq m->used m=true) (hc:kK w G h y v):kK w (vI G x c) h' (y.qy x c) v:=by
 cases y with
 |ptr n k sz off=>
  intro hn;rw[L.at (hr n rfl)] at hn;rw[L.GJ (hr n rfl)];exact hc (Nq hn)
 |sl n sz lo len=>
  intro hn;rw[L.at (hr n rfl)] at hn;rw[L.GJ (hr n rfl)];exact hc (Nq hn)
 |ct n k aR off sz len=>
  intro gr xs hn;rw[L.at (hr n rfl)] at hn;rw[L.GJ (hr n rfl)];exact hc gr xs (TH hn)
 |dY n k aR off sz i=>
  intro gr xs hn;rw[L.at (hr n rfl)] at hn;rw[L.GJ (hr n rfl)];exact hc gr xs (TH hn)
 |cN xs off j n sz len=>
  obtain⟨b,o,pe,h1,h2,h3,h4,h5⟩:=hc;obtain⟨u,u1,u2,u3⟩:=h5;refine⟨b,o,pe,h1,h2,h3,h4,u,u1,u2,fun hn=>?_⟩;rw[L.at (hr n rfl)] at hn;rw[L.GJ (hr n rfl)];exact u3 (Nq hn)
 |c x=>exact hc
 |nil sz=>exact hc
 |dr xs off=>exact hc
 |fn f c9=>exact hc
 |cd=>exact hc
theorem RC.bI (L:qF x c used h h') {y:aj} {v:Value} (hr:∀m,y.ref m->used m=true) (hc:RC w G h y v):RC w (vI G x c) h' (y.bI x c) v:=by
 cases y with
 |fn f c9=>
  obtain⟨vs,h1,h2,h3⟩:=hc;refine⟨vs,h1,by simpa using h2,fun j y u hj hu=>?_⟩;rw[zag] at hj;cases hc:c9[j]? with
  |none=>rw[hc] at hj;cases hj
  |some c0=>
   rw[hc] at hj;simp at hj;subst hj;exact⟨(h3 j c0 u hc hu).1,(h3 j c0 u hc hu).2.bI L fun m hm=>hr m ⟨c0,zac hc,hm⟩⟩
 |ptr n k sz off=>exact kK.bI (w:=w) (G:=G) L (y:=.ptr n k sz off) hr hc
 |sl n sz lo len=>exact kK.bI (w:=w) (G:=G) L (y:=.sl n sz lo len) hr hc
 |ct n k aR off sz len=>exact kK.bI (w:=w) (G:=G) L (y:=.ct n k aR off sz len) hr hc
 |dY n k aR off sz i=>exact kK.bI (w:=w) (G:=G) L (y:=.dY n k aR off sz i) hr hc
 |cN xs off j n sz len=>exact kK.bI (w:=w) (G:=G) L (y:=.cN xs off j n sz len) hr hc
 |c x=>exact hc
 |nil sz=>exact hc
 |dr xs off=>exact hc
 |cd=>exact hc
theorem dT.bI (L:qF x c used h h') {cs:List aj} {vs:List Value} (hr:∀y∈cs,∀m,y.ref m->used m=true) (hc:dT w G h cs vs):dT w (vI G x c) h' (cs.map (·.bI x c)) vs:=by
 refine⟨by simpa using hc.1,fun j y u hj hu=>?_⟩;rw[zag] at hj;cases gf:cs[j]? with
 |none=>rw[gf] at hj;cases hj
 |some c0=>
  rw[gf] at hj;simp at hj;subst hj;exact⟨(hc.2 j c0 u gf hu).1,(hc.2 j c0 u gf hu).2.bI L (hr c0 (zac gf))⟩
theorem RV.bI (L:qF x c used h h') {ag:Bool} {cs:List aj} {v:Value} (hr:∀y∈cs,∀m,y.ref m->used m=true) (hc:RV w G h ag cs v):RV w (vI G x c) h' ag (cs.map (·.bI x c)) v:=by
 unfold RV at*
 split
 ·rename_i h1;simp only[h1,if_true] at hc;obtain⟨vs,e,hv⟩:=hc;exact⟨vs,e,hv.bI L hr⟩
 ·rename_i h1;simp only[h1] at hc;exact dT.bI L hr hc
theorem RA.bI (L:qF x c used h h') {y:ao} {v:Value} (hr:∀m,y.ref m->used m=true) (hc:RA w G h y v):RA w (vI G x c) h' (y.bI x c) v:=by
 cases y with
 |one y=>
  rcases hc with rfl|hc
  ·exact Or.inl rfl
  ·exact Or.inr (RV.bI L (fun z hz m hm=>hr m (by simp at hz;subst hz;exact hm)) hc)
 |agg cs=>exact RV.bI L (fun z hz m hm=>hr m ⟨z,hz,hm⟩) hc
 |cf xs=>
  obtain⟨vs,e,hl,hv⟩:=hc;refine⟨vs,e,by simpa using hl,fun j y u hj hu=>?_⟩;rw[zag] at hj;cases gf:xs[j]? with
  |none=>rw[gf] at hj;cases hj
  |some c0=>
   rw[gf] at hj;simp at hj;subst hj;exact RV.bI L (fun z hz m hm=>hr m ⟨c0,zac gf,z,hz,hm⟩) (hv j c0 u gf hu)
def Al (used:Nat->Bool) (x c:Nat):Nat->Bool:=fun n=>if n=c then used x else if n=x then false else used n
theorem aj.E8 (L:qF x c used h h') {y:aj} {m:Nat} (hr:∀m,y.kq m->used m=true) (hm:(y.qy x c).kq m):Al used x c m=true:=by
 have cI:∀n,used n=true->m=pP x c n->Al used x c m=true:=by
  intro n hn e;subst e;have hc:n≠c:=fun e=>by subst e;rw[L.uc] at hn;cases hn
  unfold Al pP;by_cases h1:n=x
  ·subst h1;simp[hn]
  ·simp[h1,hc,hn]
 cases y<;>first|exact absurd hm id|exact cI _ (hr _ rfl) hm
theorem aj.E9 (L:qF x c used h h') {y:aj} {m:Nat} (hr:∀m,y.ref m->used m=true) (hm:(y.bI x c).ref m):Al used x c m=true:=by
 cases y with
 |fn f c9=>
  obtain⟨z,hz,hm⟩:=hm;obtain⟨z0,xK,rfl⟩:=zaj.1 hz;exact aj.E8 L (fun m hm=>hr m ⟨z0,xK,hm⟩) hm
 |ptr n k sz off=>exact aj.E8 L (y:=.ptr n k sz off) hr hm
 |sl n sz lo len=>exact aj.E8 L (y:=.sl n sz lo len) hr hm
 |ct n k aR off sz len=>exact aj.E8 L (y:=.ct n k aR off sz len) hr hm
 |dY n k aR off sz i=>exact aj.E8 L (y:=.dY n k aR off sz i) hr hm
 |cN xs off j n sz len=>exact aj.E8 L (y:=.cN xs off j n sz len) hr hm
 |c x=>exact absurd hm id
 |nil sz=>exact absurd hm id
 |dr xs off=>exact absurd hm id
 |cd=>exact absurd hm id
theorem ao.E9 (L:qF x c used h h') {y:ao} {m:Nat} (hr:∀m,y.ref m->used m=true) (hm:(y.bI x c).ref m):Al used x c m=true:=by
 cases y with
 |one y=>exact aj.E9 L hr hm
 |agg cs=>
  obtain⟨z,hz,hm⟩:=hm;obtain⟨z0,xK,rfl⟩:=zaj.1 hz;exact aj.E9 L (fun m hm=>hr m ⟨z0,xK,hm⟩) hm
 |cf xs=>
  obtain⟨p,hp,z,hz,hm⟩:=hm;obtain⟨p0,Hh,rfl⟩:=zaj.1 hp;obtain⟨z0,xK,rfl⟩:=zaj.1 hz;exact aj.E9 L (fun m hm=>hr m ⟨p0,Hh,z0,xK,hm⟩) hm
theorem HR.bI (H:HR B E w G h used []) (L:qF x c used h h'):HR B E w (vI G x c) h' (Al used x c) []:=by
 have nx:∀n,h' n≠none->n≠x:=fun n hn e=>by subst e;exact hn L.gone
 have hb:∀n,h' n≠none->h (back x c n)≠none:=fun n hn=>by
  have:=L.b n (nx n hn);rw[this] at hn;exact Nq hn
 have gk:∀{n gr m sz xs},h' n=some (.row gr m sz xs)->h (back x c n)=some (.row gr m sz xs):=by
  intro n gr m sz xs hn;have:=L.b n (nx n (by rw[hn];simp));rw[this] at hn;exact TH hn
 have zd:∀n n',n≠x->n'≠x->n≠n'->back x c n≠back x c n':=by
  intro n n' h1 h2 h3;unfold back;by_cases e1:n=c
  ·by_cases e2:n'=c
   ·omega
   ·simp[e1,e2];omega
  ·by_cases e2:n'=c
   ·simp[e1,e2];omega
   ·simp[e1,e2];omega
 have zm:∀n,n≠x->used (back x c n)=true->Al used x c n=true:=by
  intro n h1 h2;unfold Al;unfold back at h2;by_cases e1:n=c
  ·simp[e1] at h2⊢;exact h2
  ·simp[e1] at h2;simp[e1,h1,h2]
 refine⟨fun n hn=>zm n (nx n hn) (H.kN _ (hb n hn)),fun m cs y n hm hy hr=>?_,fun n cs hn=>?_,fun n gr m sz xs hn=>?_,fun n hn=>H.own _ (hb n hn),
  fun n n' hn bU aE=>H.inj _ _ (hb n hn) (hb n' bU) (zd n n' (nx n hn) (nx n' bU) aE),H.jq,H.rW,fun n n' gr m sz xs cc m' be az hn bU hm cF aE=>H.iF _ _ gr m sz xs cc m' be az (gk hn) (gk bU) hm cF
   (zd n n' (nx n (by rw[hn];simp)) (nx n' (by rw[bU];simp)) aE),fun n gr sz xs hn b bB n' bU=>H.live _ gr sz xs (gk hn) b bB _ (hb n' bU),?_,?_,?_⟩
 ·have R7:=nx m (by rw[hm];simp);rw[L.b m R7] at hm;obtain⟨j8,h0,rfl⟩:=ab4 hm;obtain⟨y0,hy0,rfl⟩:=zaj.1 hy;exact aj.E9 L (fun q hq=>H.jQ _ j8 y0 q h0 hy0 hq) hr
 ·have vP:=nx n (by rw[hn];simp);rw[L.b n vP] at hn;obtain⟨j8,h0,rfl⟩:=ab4 hn;obtain⟨a1,a2,a3⟩:=H.box _ j8 h0;refine⟨a1,a2,fun j y hj=>?_⟩;rw[zag] at hj;cases gf:j8[j]? with
  |none=>rw[gf] at hj;cases hj
  |some y0=>
   rw[gf] at hj;simp at hj;subst hj;obtain⟨v,b1,b2,b3⟩:=a3 j y0 gf;exact⟨v,b1,b2,b3.bI L fun q hq=>H.jQ _ j8 y0 q h0 (zac gf) hq⟩
 ·have hr:=H.row _ gr m sz xs (gk hn);refine⟨hr.pos,hr.er,hr.nl,hr.fN,hr.room,?_⟩;have hm:=hr.mode;cases m<;>exact hm
 ·intro i pc hi;simp at hi
 ·intro i j pc eX b _ hi;simp at hi
 ·intro i pc n gr m sz xs b hi;simp at hi
theorem R.bI (r:R B E w0 N σ a w G) (hx:σ.bI x c=some σ'):∃G',R B E w0 N σ' a w G':=by
 unfold St.bI at hx;split at hx
 ·injection hx with hx;subst hx;exact⟨G,r⟩
 ·rename_i aE;split at hx
  ·injection hx with hx;subst hx;exact⟨G,r⟩
  rename_i hxp;split at hx
  ·cases hx
  ·rename_i hu;injection hx with hx;subst hx;have D9:¬aD<=c:=fun hc=>by rw[r.Ca c hc] at hu;exact hu rfl
   have aa7:¬aD<=x:=fun hc=>hxp (za6 hc);have MF:σ.used c=false:=by simpa using hu
   have L:qF x c σ.used σ.h (fun n=>if n=c then(σ.h x).map (·.bI x c) else if n=x then none else(σ.h n).map (·.bI x c)):=by
    refine⟨aE,MF,by simp[aE],fun n hn=>?_⟩;unfold back;by_cases h1:n=c
    ·simp[h1]
    ·simp[h1,hn]
   exact⟨vI G x c,r.defers,r.size,fun s=>(r.env s).bI L (fun m hm=>r.vh s m hm),fun s n hn=>ao.E9 L (fun m hm=>r.vh s m hm) hn,r.hr.bI L,r.fr,fun n p b hp hb=>by
    have hn:=E.lt n p hp;have xz:n≠c:=fun e=>D9 (e▸hn);have vP:n≠x:=fun e=>aa7 (e▸hn);have bB:(if n=c then(σ.h x).map (·.bI x c) else if n=x then none else(σ.h n).map (·.bI x c))=some b:=hb
    rw[if_neg xz,if_neg vP] at bB;have hg:(vI G x c).g n=G.g n:=by simp[vI,back,xz]
    rw[hg];cases h1:σ.h n with
    |none=>rw[h1] at bB;cases bB
    |some b0=>
     obtain⟨p1,p2,p3,p4,p6,p5⟩:=r.qw n p b0 hp h1;refine⟨p1,p2,p3,p4,p6,fun gr sz xs GU=>?_⟩;rw[h1,GU] at bB;cases b0 with
     |box cs=>simp[av.bI] at bB
     |row cc m' be az=>
      simp only[av.bI,zab,zbd,av.row.injEq] at bB;obtain⟨_,rfl,_,_⟩:=bB;exact p5 cc be az rfl,fun n hn=>by
    have xz:n≠c:=fun e=>D9 (e▸hn);have vP:n≠x:=fun e=>aa7 (e▸hn);show(if n=c then σ.used x else if n=x then false else σ.used n)=true
    rw[if_neg xz,if_neg vP];exact r.Ca n hn⟩
theorem R.abm (r:R B E w0 N σ a w G) {m:Mode} {sz:Nat} (cX:0<sz) (hx:σ.ins c (.row true m sz [])=some σ'):
  ∃G',R B E w0 N σ' a w G'/\RC w G' σ'.h (.sl c sz 0 0) (.slice none 0 0):=by
 obtain⟨hn,rfl⟩:=pE hx;have Ib:∀b,¬bH b ([]:List (List PC)):=by rintro b ⟨k,j,q,⟨e,he,_⟩,_⟩;simp at he
 have nq:kx ([]:List (List PC)):=⟨by rintro k j q ⟨e,he,_⟩;simp at he,by rintro k j q k' j' q' b ⟨e,he,_⟩;simp at he⟩;have H:=r.hr.insert (w':=w) (n:=c) (blk:=.row true m sz []) (p:=⟨true,0,0,0,[],none⟩) hn (fun _ _=>rfl) (zav _) (fun hf=>by cases hf) (fun cs y q hb=>by cases hb)
  (by
   refine⟨cX,rfl,fun _=>⟨rfl,fun _=>rfl⟩,(fun hf=>by cases hf),(fun hf=>by cases hf),?_⟩;cases m with
   |aL=>exact fun b hb=>absurd hb (Ib b)
   |bc=>exact⟨fun b hb=>absurd hb (Ib b),nq⟩
   |live=>exact⟨fun b hb=>absurd hb (Ib b),nq⟩)
  (fun gr m' be az hb hm n' cc pJ od ld h0 mK b d7=>absurd d7 (Ib b)) (fun gr be az hb b d7=>absurd d7 (Ib b)) (fun gr m' be az hb hm i pc b hi=>by simp at hi)
 refine⟨_,r.step rfl (fun q hq=>vf _ _ hq) (bW.insert r.hr hn (fun _ _=>rfl)) H r.fr,fun _=>?_⟩;simp only[cJ];exact Or.inl ⟨rfl,rfl,rfl,rfl⟩
end
theorem aj.aqV {c:aj} {m:Nat}:m∈c.uW↔c.kq m:=by
 cases c<;>simp[aj.uW,aj.kq]
theorem aj.Ia {c:aj} {m:Nat}:m∈c.nm↔c.ref m:=by
 cases c with
 |fn f c9=>simp[aj.nm,aj.ref,zar,aj.aqV]
 |_=>simp[aj.nm,aj.uW,aj.ref,aj.kq]
theorem ao.B6 {v:ao} {m:Nat}:m∈v.ju↔v.ref m:=by
 cases v with
 |one c=>exact aj.Ia
 |agg cs=>simp[ao.ju,ao.ref,zar,aj.Ia]
 |cf xs=>simp only[ao.ju,ao.ref,zar,aj.Ia]
theorem r8 {op:aY} {ev:MO->ao} {n:Nat}:n∈op.kV ev↔∃a∈op.args,(ev a).ref n:=by
 simp[aY.kV,zar,ao.B6]
theorem NI {op:aY} {ev:MO->ao} {h:Nat->Option av} {n:Nat} (hn:n∈op.kV ev):n∈op.oT ev h:=by
 unfold aY.oT;cases op.HB with
 |true=>exact zae.2 (.inl hn)
 |false=>exact hn
theorem ag9 {op:aY} {ev:MO->ao} {h:Nat->Option av} {ws:List Nat} (hw:op.mY ev h=some ws) {n:Nat} (hn:n∈ws):n∈op.kV ev:=by
 cases op<;>simp only[aY.mY] at hw<;>first|(cases hw;cases hn)|(cases hw;done)|skip
 case store sz x v=>
  split at hw
  ·rename_i q _ _ _ hx;have hq:q∈(aY.store sz x v).kV ev:=r8.2 ⟨x,by simp[aY.args],by rw[hx];exact rfl⟩;split at hw
   ·injection hw with hw;subst hw;simp at hn;subst hn;exact hq
   ·injection hw with hw;subst hw;rcases zaC.1 hn with rfl|hn
    ·exact hq
    ·exact r8.2 ⟨v,by simp[aY.args],ao.B6.1 hn⟩
   ·cases hw
  ·rename_i q _ _ _ _ _ hx;have hq:q∈(aY.store sz x v).kV ev:=r8.2 ⟨x,by simp[aY.args],by rw[hx];exact rfl⟩;injection hw with hw;subst hw;simp at hn;subst hn;exact hq
  ·cases hw
 case copy sz x y=>
  split at hw
  ·rename_i q _ _ _ hx;injection hw with hw;subst hw;simp at hn;subst hn;exact r8.2 ⟨x,by simp[aY.args],by rw[hx];exact rfl⟩
  ·cases hw
 case m6 z x=>
  split at hw
  ·rename_i q _ _ _ hx;injection hw with hw;subst hw;simp at hn;subst hn;exact r8.2 ⟨x,by simp[aY.args],by rw[hx];exact rfl⟩
  ·cases hw
 case hZ sz ps=>
  injection hw with hw;subst hw;obtain⟨a,ha,hn⟩:=zar.1 hn;exact r8.2 ⟨a,ha,ao.B6.1 hn⟩
 case lr f xs=>
  injection hw with hw;subst hw;obtain⟨a,ha,hn⟩:=zar.1 hn;exact r8.2 ⟨a,ha,ao.B6.1 hn⟩
 case append fl sz by_ x y=>
  injection hw with hw;subst hw;rcases zae.1 hn with hn|hn
  ·exact r8.2 ⟨x,by simp[aY.args],ao.B6.1 hn⟩
  ·exact r8.2 ⟨y,by simp[aY.args],ao.B6.1 hn⟩
def St.eI (σ:St):List (Nat×Option av)->St
 |[]=>σ
 |(n,b)::l=>St.eI {σ with h:=aQ σ.h n b} l
def fh (h:Nat->Option av):List (Nat×Option av)->(Nat->Option av)
 |[]=>h
 |(n,b)::l=>fh (aQ h n b) l
theorem oh:∀(l:List (Nat×Option av)) (σ:St),σ.eI l={σ with h:=fh σ.h l}
 |[],σ=>rfl
 |(n,b)::l,σ=>by simp only[St.eI,fh];rw[oh l]
theorem qD:∀{l:List (Nat×Option av)} {h:Nat->Option av} {n:Nat},(∀p∈l,p.1≠n)->fh h l n=h n
 |[],h,n,_=>rfl
 |(m,b)::l,h,n,hn=>by
  simp only[fh];rw[qD fun p hp=>hn p (zat _ hp)];exact dA _ _ _ _ (fun e=>hn (m,b) (by simp) e.symm)
theorem auF (h:Nat->Option av) (l l':List (Nat×Option av)):fh h (l++l')=fh (fh h l) l':=by
 induction l generalizing h with
 |nil=>rfl
 |cons x l ih=>obtain⟨n,b⟩:=x;exact ih _
theorem FI (σ:St) (l l':List (Nat×Option av)):σ.eI (l++l')=(σ.eI l).eI l':=by
 simp only[oh,auF]
theorem Jb:∀{l:List (Nat×Option av)} {h h':Nat->Option av} {n:Nat},(∃p∈l,p.1=n)->fh h l n=fh h' l n
 |[],h,h',n,hn=>by obtain⟨p,hp,_⟩:=hn;cases hp
 |(m,b)::l,h,h',n,hn=>by
  simp only[fh];by_cases hl:∃p∈l,p.1=n
  ·exact Jb hl
  ·have dF:∀p∈l,p.1≠n:=fun p hp e=>hl ⟨p,hp,e⟩;rw[qD dF,qD dF];obtain⟨p,hp,e⟩:=hn;rcases zaC.1 hp with rfl|hp
   ·simp only at e;subst e;rw[cJ,cJ]
   ·exact absurd e (dF p hp)
theorem agZ {u v:List (Nat×Option av)} (hd:∀p∈u,∀q∈v,p.1≠q.1) (h:Nat->Option av):fh (fh h u) v=fh (fh h v) u:=by
 funext n;by_cases hu:∃p∈u,p.1=n
 ·obtain⟨p,hp,rfl⟩:=hu;rw[qD (l:=v) fun q hq e=>hd p hp q hq e.symm];exact Jb ⟨p,hp,rfl⟩
 ·rw[qD (l:=u) (h:=fh h v) fun p hp e=>hu ⟨p,hp,e⟩];by_cases hv:∃q∈v,q.1=n
  ·exact Jb hv
  ·rw[qD fun q hq e=>hv ⟨q,hq,e⟩,qD fun p hp e=>hu ⟨p,hp,e⟩,qD fun q hq e=>hv ⟨q,hq,e⟩]
theorem auH {u v:List (Nat×Option av)} (hd:∀p∈u,∀q∈v,p.1≠q.1) (σ:St):(σ.eI u).eI v=(σ.eI v).eI u:=by
 simp only[oh,agZ hd]
theorem ag0 (σ:St) (e:Nat->ao) (l:List (Nat×Option av)):(σ.we e).eI l=(σ.eI l).we e:=by
 simp only[oh];rfl
theorem auG {l:List (Nat×Option av)} {h:Nat->Option av} {n:Nat} {b:Option av} (hn:∀p∈l,p.1≠n):fh (aQ h n b) l=aQ (fh h l) n b:=by
 have:=agZ (u:=l) (v:=[(n,b)]) (fun p hp q hq=>by simp at hq;subst hq;exact hn p hp) h;exact this.symm
theorem amM {σ σ1:St} {l:List (Nat×Option av)} {n:Nat} {b:av} (hl:∀p∈l,σ.used p.1=true) (h:σ.ins n b=some σ1):(σ.eI l).ins n b=some (σ1.eI l):=by
 obtain⟨u1,rfl⟩:=pE h;unfold St.ins;rw[oh,oh];rw[if_neg (show¬σ.used n=true by rw[u1];simp)];simp only
 rw[auG fun p hp e=>by rw[<-e,hl p hp] at u1;cases u1]
theorem Hz:∀{A:List (Nat×av)} {σ σ1:St} {l:List (Nat×Option av)},(∀p∈l,σ.used p.1=true)->σ.dH A=some σ1->(σ.eI l).dH A=some (σ1.eI l)
 |[],σ,σ1,l,hl,h=>by
  simp only[St.dH] at h⊢;injection h with h;rw[h]
 |(n,b)::A,σ,σ1,l,hl,h=>by
  simp only[St.dH] at h⊢;split at h
  ·rename_i mC e;rw[amM hl e];obtain⟨u1,rfl⟩:=pE e;exact Hz (fun p hp=>vf _ _ (hl p hp)) h
  ·cases h
theorem abk:∀{A:List (Nat×av)} {σ σ':St},σ.used=σ'.used->(σ.dH A).isSome=true->(σ'.dH A).isSome=true
 |[],σ,σ',hu,h=>rfl
 |(n,b)::A,σ,σ',hu,h=>by
  simp only[St.dH,St.ins] at h⊢;rw[<-hu];split at h
  ·rename_i mC e;split at e
   ·cases e
   ·rename_i hn;injection e with e;subst e;rw[if_neg hn];simp only
    exact abk (by rfl) h
  ·cases h
theorem SS {A:List (Nat×av)} {σ B:St} {l:List (Nat×Option av)} (hl:∀p∈l,σ.used p.1=true) (h:(σ.eI l).dH A=some B):∃B',σ.dH A=some B'/\B=B'.eI l:=by
 have hs:(σ.dH A).isSome=true:=abk (A:=A) (σ:=σ.eI l) (σ':=σ) (by rw[oh]) (by rw[h];rfl);cases e:σ.dH A with
 |none=>rw[e] at hs;cases hs
 |some B'=>
  refine⟨B',rfl,?_⟩;have:=Hz hl e;rw[h] at this;injection this
abbrev Us:=List (Nat×Option av)
def vc (h:Nat->Option av):aj->Option (C×Bool×Us)
 |.c x=>some (x,x.gK,[])
 |.nil sz=>if 0<sz then some (.list sz [],true,[]) else none
 |.sl n sz lo len=>
  match h n with
  |some (.row _ m rs xs)=>if rs=sz/\lo=0/\len<=xs.length then some (.list sz (xs.take len),decide (m≠ .aL),[(n,none)]) else none
  |_=>none
 |_=>none
def mw (h:Nat->Option av):List aj->Option (List C×Bool×Us)
 |[]=>some ([],true,[])
 |c::cs=>match vc h c with
  |some (x,o,u)=>match mw (fh h u) cs with
   |some (xs,o',u')=>some (x::xs,o&&o',u++u')
   |none=>none
  |none=>none
def rp (sz:Nat) (h:Nat->Option av):List ao->Option (List (List C)×Bool×Us)
 |[]=>some ([],true,[])
 |v::vs=>match v.cells? with
  |some (_,cs)=>if cs.length=sz then
   match mw h cs with
   |some (e,o,u)=>match rp sz (fh h u) vs with
    |some (es,o',u')=>some (e::es,o&&o',u++u')
    |none=>none
   |none=>none
   else none
  |none=>none
theorem Jc (σ:St) (l:Us):(σ.eI l).h=fh σ.h l:=by rw[oh]
theorem aur (σ:St) (c:aj):σ.io c=(vc σ.h c).map fun x=>(x.1,x.2.1,σ.eI x.2.2):=by
 cases c with
 |sl n sz lo len=>
  simp only[St.io,vc];cases σ.h n with
  |none=>rfl
  |some b=>cases b with
   |box cs=>rfl
   |row gr m rs xs=>simp only;split<;>rfl
 |nil sz=>simp only[St.io,vc];split<;>rfl
 |_=>rfl
theorem OQ:∀(cs:List aj) (σ:St),σ.gY cs=(mw σ.h cs).map fun x=>(x.1,x.2.1,σ.eI x.2.2)
 |[],σ=>rfl
 |c::cs,σ=>by
  simp only[St.gY,mw,aur];cases vc σ.h c with
  |none=>rfl
  |some x=>
   obtain⟨x,o,u⟩:=x;simp only[zab,OQ cs,Jc];cases mw (fh σ.h u) cs with
   |none=>rfl
   |some y=>obtain⟨xs,o',u'⟩:=y;simp only[zab,FI]
theorem agN (sz:Nat):∀(vs:List ao) (σ:St),σ.oe sz vs=(rp sz σ.h vs).map fun x=>(x.1,x.2.1,σ.eI x.2.2)
 |[],σ=>rfl
 |v::vs,σ=>by
  simp only[St.oe,rp];cases v.cells? with
  |none=>rfl
  |some x=>
   obtain⟨b,cs⟩:=x;simp only
   split
   ·rw[OQ];cases mw σ.h cs with
    |none=>rfl
    |some y=>
     obtain⟨e,o,u⟩:=y;simp only[zab,agN sz vs,Jc];cases rp sz (fh σ.h u) vs with
     |none=>rfl
     |some y=>obtain⟨es,o',u'⟩:=y;simp only[zab,FI]
   ·rfl
theorem aup {h:Nat->Option av} {c:aj} {x:C} {o:Bool} {u:Us} (e:vc h c=some (x,o,u)):∀q∈u,q.1∈c.nm:=by
 unfold vc at e;split at e
 ·injection e with e;injection e with _ e;injection e with _ e;subst e;intro q hq;cases hq
 ·split at e
  ·injection e with e;injection e with _ e;injection e with _ e;subst e;intro q hq;cases hq
  ·cases e
 ·split at e
  ·split at e
   ·injection e with e;injection e with _ e;injection e with _ e;subst e;intro q hq;simp at hq;subst hq;simp[aj.nm,aj.uW]
   ·cases e
  ·cases e
 ·cases e
theorem OP:∀{cs:List aj} {h:Nat->Option av} {xs:List C} {o:Bool} {u:Us},mw h cs=some (xs,o,u)->∀q∈u,q.1∈cs.flatMap aj.nm
 |[],h,xs,o,u,e=>by
  simp only[mw] at e;injection e with e;injection e with _ e;injection e with _ e;subst e;intro q hq;cases hq
 |c::cs,h,xs,o,u,e=>by
  simp only[mw] at e;split at e
  ·rename_i x o1 u1 e1;split at e
   ·rename_i ld o2 u2 e2;injection e with e;injection e with _ e;injection e with _ e;subst e;intro q hq;rw[zal];rcases zae.1 hq with hq|hq
    ·exact zae.2 (.inl (aup e1 q hq))
    ·exact zae.2 (.inr (OP e2 q hq))
   ·cases e
  ·cases e
theorem Dy {v:ao} {b:Bool} {cs:List aj} (h:v.cells?=some (b,cs)):cs.flatMap aj.nm=v.ju:=by
 cases v with
 |one c=>cases c<;>simp[ao.cells?] at h<;>(obtain⟨_,rfl⟩:=h;simp[ao.ju])
 |agg cs'=>simp[ao.cells?] at h;obtain⟨_,rfl⟩:=h;rfl
 |cf xs=>simp[ao.cells?] at h
theorem agM {sz:Nat}:∀{vs:List ao} {h:Nat->Option av} {xs:List (List C)} {o:Bool} {u:Us},rp sz h vs=some (xs,o,u)->∀q∈u,q.1∈vs.flatMap ao.ju
 |[],h,xs,o,u,e=>by
  simp only[rp] at e;injection e with e;injection e with _ e;injection e with _ e;subst e;intro q hq;cases hq
 |v::vs,h,xs,o,u,e=>by
  simp only[rp] at e;split at e
  ·rename_i b cs hv;split at e
   ·split at e
    ·rename_i x o1 u1 e1;split at e
     ·rename_i ld o2 u2 e2;injection e with e;injection e with _ e;injection e with _ e;subst e;intro q hq;rw[zal];rcases zae.1 hq with hq|hq
      ·exact zae.2 (.inl (Dy hv▸OP e1 q hq))
      ·exact zae.2 (.inr (agM e2 q hq))
     ·cases e
    ·cases e
   ·cases e
  ·cases e
theorem Ja {h h':Nat->Option av} {n:Nat} (hh:h' n=h n) (u:Us):fh h' u n=fh h u n:=by
 by_cases hu:∃p∈u,p.1=n
 ·exact Jb hu
 ·rw[qD fun p hp e=>hu ⟨p,hp,e⟩,qD fun p hp e=>hu ⟨p,hp,e⟩,hh]
theorem auo {h h':Nat->Option av} {c:aj} (hh:∀n∈c.nm,h' n=h n):vc h' c=vc h c:=by
 cases c with
 |sl n sz lo len=>simp only[vc];rw[hh n (by simp[aj.nm,aj.uW])]
 |_=>rfl
theorem OO:∀{cs:List aj} {h h':Nat->Option av},(∀n∈cs.flatMap aj.nm,h' n=h n)->mw h' cs=mw h cs
 |[],h,h',_=>rfl
 |c::cs,h,h',hh=>by
  simp only[mw];rw[auo fun n hn=>hh n (by rw[zal];exact zae.2 (.inl hn))];cases vc h c with
  |none=>rfl
  |some x=>
   obtain⟨x,o,u⟩:=x;simp only
   rw[OO (cs:=cs) (h:=fh h u) (h':=fh h' u) fun n hn=>Ja (hh n (by rw[zal];exact zae.2 (.inr hn))) u]
theorem agL {sz:Nat}:∀{vs:List ao} {h h':Nat->Option av},(∀n∈vs.flatMap ao.ju,h' n=h n)->rp sz h' vs=rp sz h vs
 |[],h,h',_=>rfl
 |v::vs,h,h',hh=>by
  simp only[rp];cases hv:v.cells? with
  |none=>rfl
  |some x=>
   obtain⟨b,cs⟩:=x;simp only
   rw[OO (cs:=cs) fun n hn=>hh n (by rw[zal];exact zae.2 (.inl (Dy hv▸hn)))];cases mw h cs with
   |none=>rfl
   |some y=>
    obtain⟨e,o,u⟩:=y;simp only
    rw[agL (vs:=vs) (h:=fh h u) (h':=fh h' u) fun n hn=>Ja (hh n (by rw[zal];exact zae.2 (.inr hn))) u]
def Ag (h:Nat->Option av) (n:Nat) (gr:Bool) (m:Mode) (rs:Nat) (xs:List (List C)) (k off:Nat) (e:List C) (vs:List aj):Option Us:=
 match sub e off vs.length with
 |none=>none
 |some gW=>match mw h vs with
  |none=>none
  |some (cs,o,u)=>
   if m=.live then
    if g8 cs=true/\g8 gW=true/\(fh h u n).isSome=true then some (u++[(n,some (.row gr m rs (xs.set k (dz e off cs))))]) else none
   else if(fh h u n).isSome=true then some (u++[(n,some (.row gr (if o=true then m else .aL) rs (xs.set k (dz e off cs))))])
   else none
theorem at9 (σ:St) (n:Nat) (gr:Bool) (m:Mode) (rs:Nat) (xs:List (List C)) (k off:Nat) (e:List C) (vs:List aj):
  pS σ n gr m rs xs k off e vs=(Ag σ.h n gr m rs xs k off e vs).map fun u=>σ.eI u:=by
 unfold pS Ag;cases sub e off vs.length with
 |none=>rfl
 |some gW=>
  simp only[OQ];cases mw σ.h vs with
  |none=>rfl
  |some x=>
   obtain⟨cs,o,u⟩:=x;simp only[zab,Jc]
   repeat' split
   all_goals first|rfl|(simp only[zab,FI];rfl)
def yM (h:Nat->Option av) (sz:Nat):ao->Option (List (List C)×Mode×List (Nat×Option av))
 |.one (.nil _)=>some ([],.bc,[])
 |.one (.sl a s 0 len)=>match h a with
  |some (.row true m rs xs)=>if rs=sz/\s=sz/\len=xs.length then some (xs,m,[(a,none)]) else none
  |_=>none
 |_=>none
def wW (fl:Bool) (h:Nat->Option av) (sz:Nat) (m:Mode):ao->Option (List (List C)×Mode×List (Nat×Option av))
  |.one (.nil _)=>some ([],m,[])
  |.one (.c (.list s ys))=>if s=sz then(if(fl&&jv ys)=true then some (ys,m,[]) else if m=.live then none else some (ys,.aL,[])) else none
  |.one (.sl b s lo len)=>match h b with
   |some (.row _ m' rs ys)=>if rs=sz/\s=sz/\lo+len<=ys.length then
       (if(fl&&jv ((ys.drop lo).take len))=true then some ((ys.drop lo).take len,m,[])
        else if lo=0/\len=ys.length then(if m=m' then some (ys,m,[(b,none)]) else if m=.live\/m'=.live then none else some (ys,.aL,[(b,none)])) else none)
    else none
   |_=>none
  |_=>none
theorem ahI (σ:St) (sz:Nat) (v:ao):sI σ sz v=(yM σ.h sz v).map fun x=>(x.1,x.2.1,σ.eI x.2.2):=by
 cases v with
 |one v=>cases v with
  |sl a s lo len=>cases lo with
   |zero=>
    simp only[sI,yM];cases σ.h a with
    |none=>rfl
    |some b=>cases b with
     |box cs=>rfl
     |row gr m rs xs=>cases gr with
      |true=>simp only;split<;>rfl
      |false=>rfl
   |succ lo=>rfl
  |_=>rfl
 |_=>rfl
theorem ahK (fl:Bool) (σ:St) (sz:Nat) (m:Mode) (v:ao):oz fl σ sz m v=(wW fl σ.h sz m v).map fun x=>(x.1,x.2.1,σ.eI x.2.2):=by
 cases v with
 |one v=>cases v with
  |sl b s lo len=>
   simp only[oz,wW];cases σ.h b with
   |none=>rfl
   |some b=>cases b with
    |box cs=>rfl
    |row gr m rs xs=>
     simp only
     repeat' split
     all_goals rfl
  |c x=>cases x with
   |list s ys=>
    simp only[oz,wW]
    repeat' split
    all_goals rfl
   |_=>rfl
  |_=>rfl
 |_=>rfl
def oA (h:Nat->Option av):List ao->Option (List Dv×List Nat×Us)
 |[]=>some ([],[],[])
 |v::vs=>match oB h v with
  |some (n,xs)=>match oA h vs with
   |some (ds,ns,u)=>some ((.ptr,xs)::ds,n::ns,u)
   |none=>none
  |none=>match v.cells? with
   |some (ag,cs)=>match mw h cs with
    |some (xs,_,u)=>match oA (fh h u) vs with
     |some (ds,ns,u')=>some ((if ag=true then .agg else .one,xs)::ds,ns,u++u')
     |none=>none
    |none=>none
   |none=>none
theorem P5:∀(vs:List ao) (σ:St),σ.jS vs=(oA σ.h vs).map fun x=>(x.1,x.2.1,σ.eI x.2.2)
 |[],σ=>rfl
 |v::vs,σ=>by
  simp only[St.jS,oA];cases oB σ.h v with
  |some x=>
   obtain⟨n,xs⟩:=x;simp only[P5 vs σ];cases oA σ.h vs<;>rfl
  |none=>
   simp only
   cases v.cells? with
   |none=>rfl
   |some x=>
    obtain⟨ag,cs⟩:=x;simp only
    rw[OQ];cases mw σ.h cs with
    |none=>rfl
    |some y=>
     obtain⟨e,o,u⟩:=y;simp only[zab,P5 vs,Jc];cases oA (fh σ.h u) vs with
     |none=>rfl
     |some y=>obtain⟨ds,ns,u'⟩:=y;simp only[zab,FI]
theorem ahZ {h:Nat->Option av} {v:ao} {n:Nat} {xs:List C} (e:oB h v=some (n,xs)):n∈v.ju:=by
 obtain⟨sz,cs,rfl,_⟩:=P7 e;simp[ao.ju,aj.nm,aj.uW]
theorem Ld:∀{vs:List ao} {h:Nat->Option av} {ds:List Dv} {ns:List Nat} {u:Us},oA h vs=some (ds,ns,u)->(∀q∈u,q.1∈vs.flatMap ao.ju)/\∀n∈ns,n∈vs.flatMap ao.ju
 |[],h,ds,ns,u,e=>by
  simp only[oA] at e;injection e with e;injection e with _ e;injection e with e1 e;subst e e1;exact⟨fun q hq=>(by cases hq),fun q hq=>(by cases hq)⟩
 |v::vs,h,ds,ns,u,e=>by
  simp only[oA] at e;split at e
  ·rename_i n xs hp;split at e
   ·rename_i vC mS u' e2;injection e with e;injection e with _ e;injection e with e1 e;subst e e1;obtain⟨i1,i2⟩:=Ld e2;rw[zal];refine⟨fun q hq=>zae.2 (.inr (i1 q hq)),fun m hm=>?_⟩;rcases zaC.1 hm with rfl|hm
    ·exact zae.2 (.inl (ahZ hp))
    ·exact zae.2 (.inr (i2 m hm))
   ·cases e
  ·split at e
   ·rename_i b cs hv;split at e
    ·rename_i x o1 u1 e1;split at e
     ·rename_i ds2 ns2 u2 e2;injection e with e;injection e with _ e;injection e with e3 e;subst e e3;obtain⟨i1,i2⟩:=Ld e2;rw[zal];refine⟨fun q hq=>?_,fun m hm=>zae.2 (.inr (i2 m hm))⟩;rcases zae.1 hq with hq|hq
      ·exact zae.2 (.inl (Dy hv▸OP e1 q hq))
      ·exact zae.2 (.inr (i1 q hq))
     ·cases e
    ·cases e
   ·cases e
theorem ahY {h h':Nat->Option av} {v:ao} (hh:∀n∈v.ju,h' n=h n):oB h' v=oB h v:=by
 cases v with
 |one c=>cases c with
  |ptr n k sz off=>simp only[oB];rw[hh n (by simp[ao.ju,aj.nm,aj.uW])]
  |_=>rfl
 |_=>rfl
theorem P3:∀{vs:List ao} {h h':Nat->Option av},(∀n∈vs.flatMap ao.ju,h' n=h n)->oA h' vs=oA h vs
 |[],h,h',_=>rfl
 |v::vs,h,h',hh=>by
  have h1:∀n∈v.ju,h' n=h n:=fun n hn=>hh n (by rw[zal];exact zae.2 (.inl hn));have h2:∀n∈vs.flatMap ao.ju,h' n=h n:=fun n hn=>hh n (by rw[zal];exact zae.2 (.inr hn));simp only[oA];rw[ahY h1];cases oB h v with
  |some x=>
   obtain⟨n,xs⟩:=x;simp only
   rw[P3 h2]
  |none=>
   simp only
   cases hv:v.cells? with
   |none=>rfl
   |some x=>
    obtain⟨b,cs⟩:=x;simp only
    rw[OO (cs:=cs) fun n hn=>h1 n (Dy hv▸hn)];cases mw h cs with
    |none=>rfl
    |some y=>
     obtain⟨e,o,u⟩:=y;simp only
     rw[P3 (vs:=vs) (h:=fh h u) (h':=fh h' u) fun n hn=>Ja (h2 n hn) u]
def x3 (h:Nat->Option av):List Nat->List C->Option Us
 |[],[]=>some []
 |[n],out=>match h n with
  |some (.box cs)=>if cs.length=out.length then some [(n,some (.box (out.map .c)))] else none
  |_=>none
 |_,_=>none
theorem asl (σ:St) (ns:List Nat) (out:List C):σ.tz ns out=(x3 σ.h ns out).map σ.eI:=by
 match ns,out with
 |[],[]=>rfl
 |[],_::_=>rfl
 |[n],out=>
  simp only[St.tz,x3];cases σ.h n with
  |none=>rfl
  |some b=>
   cases b with
   |box cs=>simp only;split<;>rfl
   |row gr m rs xs=>rfl
 |_::_::_,out=>rfl
theorem asj {h:Nat->Option av} {ns:List Nat} {out:List C} {u:Us} (e:x3 h ns out=some u):∀q∈u,q.1∈ns:=by
 unfold x3 at e;split at e
 ·injection e with e;subst e;intro q hq;cases hq
 ·split at e
  ·split at e
   ·injection e with e;subst e;intro q hq;simp at hq;subst hq;simp
   ·cases e
  ·cases e
 ·cases e
theorem asi {h h':Nat->Option av} {ns:List Nat} {out:List C} (hh:∀n∈ns,h' n=h n):x3 h' ns out=x3 h ns out:=by
 match ns,out with
 |[],[]=>rfl
 |[],_::_=>rfl
 |[n],out=>simp only[x3];rw[hh n (by simp)]
 |_::_::_,out=>rfl
def Dl (d:Option Nat):List Dv->Option (ao×List (Nat×av))
 |[(.ptr,cs)]=>match d with
  |some q=>some (.one (.ptr q 0 0 0),[(q,.box (cs.map .c))])
  |none=>none
 |rs=>match ly rs with
  |some ls=>some (nC ls,[])
  |none=>none
theorem ah0 (σ:St) (d:Option Nat) (rs:List Dv):sJ σ d rs=(Dl d rs).bind fun x=>(σ.dH x.2).map (·.put d x.1):=by
 unfold sJ;split
 ·cases d with
  |none=>rfl
  |some q=>
   simp only[Dl,zai,St.dH];cases σ.ins q _<;>rfl
 ·rename_i aE;have e:Dl d rs=match ly rs with
    |some ls=>some (nC ls,[])
    |none=>none:=by
   unfold Dl;split
   ·exact absurd rfl (aE _)
   ·rfl
  rw[e];cases ly rs with
  |none=>rfl
  |some ls=>rfl
abbrev PK:=ao×List (Nat×Option av)×List (Nat×av)
def iO (T:aZ) (d:Option Nat) (op:aY) (ev:MO->ao) (h:Nat->Option av):Option PK:=
 match op with
 |.store sz x v=>match ev x,(ev v).cells? with
  |.one (.ptr n k aR off),some (_,vs)=>if vs.length=sz then
   match h n with
   |some (.box cs)=>if k=0/\off+sz<=cs.length then some (.one .cd,[(n,some (.box (dz cs off vs)))],[]) else none
   |some (.row gr m rs xs)=>if aR=rs then
    match xs[k]? with
    |some e=>match Ag h n gr m rs xs k off e vs with
     |some u=>some (.one .cd,u,[])
     |none=>none
    |none=>none
    else none
   |none=>none
   else none
  |.one (.dY n k aR off s i),some (_,vs)=>if vs.length=sz then
   match h n with
   |some (.row gr .live rs xs)=>if aR=rs then
    match yb xs k off s i vs with
    |some az=>some (.one .cd,[(n,some (.row gr .live rs az))],[])
    |none=>none
    else none
   |_=>none
   else none
  |_,_=>none
 |.hZ sz ps=>match d,rp sz h (ps.map ev) with
  |some n,some (es,o,u)=>some (.one (.sl n sz 0 es.length),u,[(n,.row true (if o=true then .bc else .aL) sz es)])
  |_,_=>none
 |.append fl sz by_ x y=>match d with
  |none=>none
  |some n=>match yM h sz (ev x) with
   |none=>none
   |some (xs,m,u1)=>match wW fl (fh h u1) sz m (ev y) with
    |none=>none
    |some (ys,m2,u2)=>if(xs.length+ys.length)*by_<=fe then some (.one (.sl n sz 0 (xs.length+ys.length)),u1++u2,[(n,.row true m2 sz (xs++ys))]) else none
 |.lr f xs=>match oA h (xs.map ev),aZ.nc T.vs f with
  |some (ds,ns,u),some M=>match M ds with
   |some (rs,out)=>match x3 (fh h u) ns out,Dl d rs with
    |some u',some (v,is)=>some (v,u++u',is)
    |_,_=>none
   |none=>none
  |_,_=>none
 |.copy sz x y=>match ev x,ev y with
  |.one (.sl n s lo len),.one c=>match h n,dq h c with
   |some (.row gr m rs xs),some (.list s' ys)=>if sz=1/\s=1/\rs=1/\s'=1/\m≠ .aL/\jv xs=true/\jv ys=true/\lo+len<=xs.length then
    some (.one (.c (.int .i64 (Nat.min ys.length len:Nat))),[(n,some (.row gr m 1 (dz xs lo (ys.take len))))],[]) else none
   |_,_=>none
  |_,_=>none
 |.m6 z x=>match ev x with
  |.one (.sl n s lo len)=>match h n with
   |some (.row gr m rs xs)=>if s=1/\rs=1/\z.gK=true/\m≠ .aL/\jv xs=true/\lo+len<=xs.length then
    some (.cf [],[(n,some (.row gr m 1 (dz xs lo (List.replicate len [z]))))],[]) else none
   |_=>none
  |_=>none
 |op=>(rd T d op ev h).map fun x=>(x.1,[],x.2)
def yZ (d:Option Nat) (σ:St) (p:PK):Option St:=((σ.eI p.2.1).dH p.2.2).map (·.put d p.1)
theorem LU {T:aZ} {d:Option Nat} {op:aY} {σ:St} {ws:List Nat} (hw:op.mY σ.ev σ.h=some ws) (hd:∀sz x v,op=.store sz x v->d=none):
  exec T d op σ=(iO T d op σ.ev σ.h).bind (yZ d σ):=by
 by_cases hc:op.fm<=1
 ·rw[rK T d op σ hc];have:iO T d op σ.ev σ.h=(rd T d op σ.ev σ.h).map fun x=>(x.1,[],x.2):=by
   cases op<;>first|rfl|(simp[aY.fm] at hc)
  rw[this];cases rd T d op σ.ev σ.h with
  |none=>rfl
  |some x=>rfl
 ·cases op<;>simp[aY.fm] at hc<;>simp only[aY.mY] at hw
  case lv=>cases hw
  case nN=>cases hw
  case o8=>cases hw
  case copy sz x y=>
   simp only[exec,iO];cases σ.ev x with
   |one p=>cases p with
    |sl n s lo len=>
     cases σ.ev y with
     |one c=>
      simp only
      cases σ.h n with
      |none=>rfl
      |some b=>cases b with
       |box cs=>rfl
       |row gr m rs xs=>
        cases dq σ.h c with
        |none=>rfl
        |some q=>cases q with
         |list s' ys=>
          simp only
          split<;>rfl
         |_=>rfl
     |_=>rfl
    |_=>rfl
   |_=>rfl
  case m6 z x=>
   simp only[exec,iO];cases σ.ev x with
   |one p=>cases p with
    |sl n s lo len=>
     simp only
     cases σ.h n with
     |none=>rfl
     |some b=>cases b with
      |box cs=>rfl
      |row gr m rs xs=>
       simp only
       split<;>rfl
    |_=>rfl
   |_=>rfl
  case tail=>cases hw
  case rZ=>cases hw
  case lr f xs=>
   simp only[exec,iO,sM,P5];cases oA σ.h (xs.map σ.ev) with
   |none=>rfl
   |some x=>
    obtain⟨ds,ns,u⟩:=x;simp only[zab];cases aZ.nc T.vs f with
    |none=>rfl
    |some M=>
     simp only
     cases M ds with
     |none=>rfl
     |some z=>
      obtain⟨rs,out⟩:=z;simp only[asl,Jc];cases x3 (fh σ.h u) ns out with
      |none=>rfl
      |some u'=>
       simp only[zab,ah0];cases Dl d rs with
       |none=>rfl
       |some z=>
        obtain⟨v,is⟩:=z;simp only[zai,yZ,FI]
  case hZ sz ps=>
   simp only[exec,iO];rw[agN];cases d with
   |none=>rfl
   |some n=>
    cases rp sz σ.h (ps.map σ.ev) with
    |none=>rfl
    |some x=>
     obtain⟨es,o,u⟩:=x;simp only[zab,zai,yZ,St.dH];cases (σ.eI u).ins n (.row true (if o=true then .bc else .aL) sz es)<;>rfl
  case append fl sz by_ x y=>
   simp only[exec,iO,ahI];cases d with
   |none=>rfl
   |some n=>
    simp only
    cases yM σ.h sz (σ.ev x) with
    |none=>rfl
    |some z=>
     obtain⟨xs,m,u1⟩:=z;simp only[zab,ahK];have hh:(σ.eI u1).h=fh σ.h u1:=by rw[oh]
     rw[hh];cases wW fl (fh σ.h u1) sz m (σ.ev y) with
     |none=>rfl
     |some z=>
      obtain⟨ys,m2,u2⟩:=z;simp only[zab];split
      ·simp only[zai,yZ,FI,St.dH];cases ((σ.eI u1).eI u2).ins n (.row true m2 sz (xs++ys))<;>rfl
      ·rfl
  case store sz x v=>
   have hd:=hd sz x v rfl;subst hd;simp only[exec,iO];split at hw
   ·rename_i n k aR off hx;simp only[hx];cases hv:(σ.ev v).cells? with
    |none=>rfl
    |some y=>
     obtain⟨ag,vs⟩:=y;simp only
     split
     ·split at hw
      ·rename_i cs hn;simp only[hn];split
       ·rfl
       ·rfl
      ·rename_i gr m rs xs hn;simp only[hn];split
       ·cases xs[k]? with
        |none=>rfl
        |some e=>
         simp only
         rw[at9];cases Ag σ.h n gr m rs xs k off e vs with
         |none=>rfl
         |some b=>rfl
       ·rfl
      ·cases hw
     ·rfl
   ·rename_i n k aR off s i hx;simp only[hx];cases hv:(σ.ev v).cells? with
    |none=>rfl
    |some y=>
     obtain⟨ag,vs⟩:=y;simp only
     split
     ·cases σ.h n with
      |none=>rfl
      |some b=>cases b with
       |box cs=>rfl
       |row gr m rs xs=>cases m with
        |live=>
         simp only
         split
         ·cases yb xs k off s i vs<;>rfl
         ·rfl
        |_=>rfl
     ·rfl
   ·cases hw
theorem XE {T:aZ} {d:Option Nat} {op:aY} {ev:MO->ao} {h:Nat->Option av} {ws:List Nat} {p:PK} (hw:op.mY ev h=some ws) (ha:iO T d op ev h=some p):∀q∈p.2.1,q.1∈ws:=by
 by_cases hc:op.fm<=1
 ·have:iO T d op ev h=(rd T d op ev h).map fun x=>(x.1,[],x.2):=by
   cases op<;>first|rfl|(simp[aY.fm] at hc)
  rw[this,zaw] at ha;obtain⟨x,_,rfl⟩:=ha;intro q hq;cases hq
 ·cases op<;>simp[aY.fm] at hc<;>simp only[aY.mY] at hw
  case lv=>cases hw
  case nN=>cases hw
  case o8=>cases hw
  case copy sz x y=>
   simp only[iO] at ha;split at ha
   ·rename_i n s lo len c hx hy;simp only[hx] at hw;injection hw with hw;subst hw
    repeat' split at ha
    all_goals first|cases ha|skip
    intro q hq;simp at hq;subst hq;simp
   ·cases ha
  case m6 z x=>
   simp only[iO] at ha;split at ha
   ·rename_i n s lo len hx;simp only[hx] at hw;injection hw with hw;subst hw
    repeat' split at ha
    all_goals first|cases ha|skip
    intro q hq;simp at hq;subst hq;simp
   ·cases ha
  case tail=>cases hw
  case rZ=>cases hw
  case lr f xs=>
   injection hw with hw;subst hw;simp only[iO] at ha;split at ha
   ·rename_i ds ns u M e1 e2;split at ha
    ·rename_i rs out e3;split at ha
     ·rename_i u' v is e4 e5;injection ha with ha;subst ha;obtain⟨i1,i2⟩:=Ld e1;intro q hq;rw[zaH] at i1 i2;rcases zae.1 hq with hq|hq
      ·exact i1 q hq
      ·exact i2 _ (asj e4 q hq)
     ·cases ha
    ·cases ha
   ·cases ha
  case hZ sz ps=>
   injection hw with hw;subst hw;simp only[iO] at ha;split at ha
   ·rename_i n es o u e;injection ha with ha;subst ha;intro q hq;have:=agM e q hq;rw[zaH] at this;exact this
   ·cases ha
  case append fl sz by_ x y=>
   injection hw with hw;subst hw;simp only[iO] at ha;split at ha
   ·cases ha
   ·split at ha
    ·cases ha
    ·rename_i xs m u1 e1;split at ha
     ·cases ha
     ·rename_i ys m2 u2 e2;split at ha
      ·injection ha with ha;subst ha;intro q hq;rcases zae.1 hq with xD|xD
       ·clear hq;refine zae.2 (.inl ?_);unfold yM at e1;split at e1
        ·injection e1 with e1;injection e1 with _ e1;injection e1 with _ e1;subst e1;cases xD
        ·rename_i a s len hv;split at e1
         ·split at e1
          ·injection e1 with e1;injection e1 with _ e1;injection e1 with _ e1;subst e1;simp at xD;subst xD;simp[ao.ju,aj.nm,aj.uW,hv]
          ·cases e1
         ·cases e1
        ·cases e1
       ·clear hq;refine zae.2 (.inr ?_);have D8:∀(b:Nat),u2=[]\/u2=[(b,none)]->b∈(ev y).ju->q.1∈(ev y).ju:=by
         intro b hb hm;rcases hb with hb|hb
         ·subst hb;cases xD
         ·subst hb;simp at xD;subst xD;exact hm
        unfold wW at e2;split at e2
        ·injection e2 with e2;injection e2 with _ e2;injection e2 with _ e2;subst e2;cases xD
        ·repeat' split at e2
         all_goals first|cases e2|skip
         all_goals (cases xD)
        ·rename_i b s lo len hv;have hm:b∈(ev y).ju:=by simp[hv,ao.ju,aj.nm,aj.uW]
         refine D8 b ?_ hm
         repeat' split at e2
         all_goals first|cases e2|skip
         all_goals first|exact .inl rfl|exact .inr rfl
        ·cases e2
      ·cases ha
  case store sz x v=>
   simp only[iO] at ha;split at ha
   ·rename_i n k aR off b vs hx hv;simp only[hx] at hw;split at ha
    ·split at ha
     ·rename_i cs hn;simp only[hn] at hw;split at ha
      ·injection ha with ha;subst ha;injection hw with hw;subst hw;intro q hq;simp at hq;subst hq;simp
      ·cases ha
     ·rename_i gr m rs xs hn;simp only[hn] at hw;injection hw with hw;subst hw;split at ha
      ·split at ha
       ·split at ha
        ·rename_i u e0;injection ha with ha;subst ha;intro q hq;have hq:q∈u:=hq;have two:∀(u1:Us) (bb:Option av),u=u1++[(n,bb)]->(∀q∈u1,q.1∈vs.flatMap aj.nm)->q.1∈n::(ev v).ju:=by
          intro u1 bb he En;rw[he] at hq;rcases zae.1 hq with hq|hq
          ·exact zat _ (Dy hv▸En q hq)
          ·simp at hq;subst hq;simp
         unfold Ag at e0;split at e0
         ·cases e0
         ·split at e0
          ·cases e0
          ·rename_i cs o u1 e1;have En:=OP e1
           repeat' split at e0
           all_goals first|(injection e0 with e0;exact two _ _ e0.symm En)|cases e0
        ·cases ha
       ·cases ha
      ·cases ha
     ·cases ha
    ·cases ha
   ·rename_i n k aR off s i b vs hx hv;simp only[hx] at hw;injection hw with hw;subst hw
    repeat' split at ha
    all_goals first|cases ha|skip
    intro q hq;simp at hq;subst hq;simp
   ·cases ha
section
variable {T:aZ} {d:Option Nat} {op:aY} {ev ev':MO->ao} {h h':Nat->Option av}
theorem H9 (cj:∀x∈op.args,ev' x=ev x):op.kV ev'=op.kV ev:=by
 unfold aY.kV;generalize op.args=l at cj;induction l with
 |nil=>rfl
 |cons x l ih=>simp only[zal];rw[cj x (by simp),ih fun y hy=>cj y (zat _ hy)]
theorem Ya:∀{l:List Nat} (_:∀n∈l,h' n=h n),Dt h' l=Dt h l
 |[],_=>rfl
 |n::l,hh=>by
  have:=Ya (l:=l) fun m hm=>hh m (zat _ hm);simp only[Dt,zal] at this⊢;rw[hh n (by simp),this]
theorem Uk (cj:∀x∈op.args,ev' x=ev x) (hh:∀n∈op.kV ev,h' n=h n):op.oT ev' h'=op.oT ev h:=by
 unfold aY.oT;rw[H9 cj,Ya hh]
theorem O4 (cj:∀x∈op.args,ev' x=ev x) (hh:∀n∈op.kV ev,h' n=h n):op.mY ev' h'=op.mY ev h:=by
 cases op<;>first|rfl|skip
 case store sz x v=>
  have h1:=cj x (by simp[aY.args]);have h2:=cj v (by simp[aY.args]);simp only[aY.mY,h1,h2];cases hv:ev x with
  |one p=>cases p with
   |ptr n k aR off=>simp only;rw[hh n (r8.2 ⟨x,by simp[aY.args],by rw[hv];exact rfl⟩)]
   |_=>rfl
  |_=>rfl
 case copy sz x y=>
  simp only[aY.mY,cj x (by simp[aY.args])]
 case m6 z x=>
  simp only[aY.mY,cj x (by simp[aY.args])]
 case lr f xs=>
  have:=H9 (op:=.lr f xs) cj;simp only[aY.kV,aY.args] at this;simp only[aY.mY,this]
 case hZ sz ps=>
  have:=H9 (op:=.hZ sz ps) cj;simp only[aY.kV,aY.args] at this;simp only[aY.mY,this]
 case append fl sz by_ x y=>
  simp only[aY.mY,cj x (by simp[aY.args]),cj y (by simp[aY.args])]
theorem XD (cj:∀x∈op.args,ev' x=ev x) (hh:∀n∈op.oT ev h,h' n=h n):iO T d op ev' h'=iO T d op ev h:=by
 have Ed:∀n∈op.kV ev,h' n=h n:=fun n hn=>hh n (NI hn);have hn:∀a∈op.args,∀n,(ev a).ref n->h' n=h n:=fun a ha n hr=>Ed n (r8.2 ⟨a,ha,hr⟩);have gen:rd T d op ev' h'=rd T d op ev h:=by
  rw[E7 T d op _ cj];refine ad8 (u:=fun n=>h' n=h n) (vv:=fun n=>n∈op.kV ev) T d op ev (fun n hn=>hn) (fun hc m cs c n hm hb gz hr=>?_) (fun x hx m hm=>hn x hx m hm) (fun x hx m hm=>r8.2 ⟨x,hx,hm⟩);refine hh n ?_;unfold aY.oT;rw[hc];refine zae.2 (.inr ?_);unfold Dt;rw[zar];exact⟨m,hm,by rw[hb];exact zar.2 ⟨c,gz,aj.Ia.2 hr⟩⟩
 cases op<;>first|(simp only[iO];rw[gen];done)|skip
 case store sz x v=>
  have h1:=cj x (by simp[aY.args]);have h2:=cj v (by simp[aY.args]);simp only[iO,h1,h2];have h3:=hn x (by simp[aY.args]);cases hv:ev x with
  |one p=>cases p with
   |ptr n k aR off=>
    rw[hv] at h3;have h3:=h3 n rfl;have h5:=hn v (by simp[aY.args]);cases hc:(ev v).cells? with
    |none=>rfl
    |some y=>
     obtain⟨b,vs⟩:=y;have h6:∀gr m rs xs e,Ag h' n gr m rs xs k off e vs=Ag h n gr m rs xs k off e vs:=by
      intro gr m rs xs e;have h7:mw h' vs=mw h vs:=OO fun q hq=>h5 q (ao.B6.1 (Dy hc▸hq));unfold Ag;rw[h7];cases mw h vs with
      |none=>rfl
      |some y=>
       obtain⟨cs,o,u⟩:=y;simp only[Ja h3 u]
     simp only[h3,h6]
   |dY n k aR off s i=>
    rw[hv] at h3;have h3:=h3 n rfl;cases hc:(ev v).cells? with
    |none=>rfl
    |some y=>
     simp only[h3]
   |_=>cases (ev v).cells?<;>rfl
  |_=>cases (ev v).cells?<;>rfl
 case copy sz x y=>
  have h1:=cj x (by simp[aY.args]);have h2:=cj y (by simp[aY.args]);have h3:=hn x (by simp[aY.args]);have h4:=hn y (by simp[aY.args]);simp only[iO,h1,h2];cases hv:ev x with
  |one p=>cases p with
   |sl n s lo len=>
    rw[hv] at h3;have h3:=h3 n rfl;cases hc:ev y with
    |one c=>
     rw[hc] at h4;have h5:dq h' c=dq h c:=CM (u:=fun n=>h' n=h n) (fun n hn=>hn) fun m hm=>h4 m (aj.zV hm);simp only[h3,h5]
    |_=>rfl
   |_=>rfl
  |_=>rfl
 case m6 z x=>
  have h1:=cj x (by simp[aY.args]);have h3:=hn x (by simp[aY.args]);simp only[iO,h1];cases hv:ev x with
  |one p=>cases p with
   |sl n s lo len=>
    rw[hv] at h3;have h3:=h3 n rfl;simp only[h3]
   |_=>rfl
  |_=>rfl
 case lr f xs=>
  have hl:xs.map ev'=xs.map ev:=zas cj;have h2:oA h' (xs.map ev)=oA h (xs.map ev):=P3 fun n bU=>by
   rw[zaH] at bU;exact Ed n bU
  simp only[iO,hl,h2];cases e1:oA h (xs.map ev) with
  |none=>rfl
  |some x=>
   obtain⟨ds,ns,u⟩:=x
   try simp only
   cases aZ.nc T.vs f with
   |none=>rfl
   |some M=>
    try simp only
    cases M ds with
    |none=>rfl
    |some z=>
     obtain⟨rs,out⟩:=z
     try simp only
     rw[asi (h:=fh h u) (h':=fh h' u) fun n bU=>Ja (Ed n (by
      have:=(Ld e1).2 n bU;rw[zaH] at this;exact this)) u]
 case hZ sz ps=>
  have hl:ps.map ev'=ps.map ev:=zas cj;have h2:rp sz h' (ps.map ev)=rp sz h (ps.map ev):=agL fun n bU=>by
   rw[zaH] at bU;exact Ed n bU
  simp only[iO,hl,h2]
 case append fl sz by_ x y=>
  have h1:=cj x (by simp[aY.args]);have h2:=cj y (by simp[aY.args]);have h3:=hn x (by simp[aY.args]);have h4:=hn y (by simp[aY.args]);have e1:yM h' sz (ev x)=yM h sz (ev x):=by
   cases hv:ev x with
   |one p=>cases p with
    |sl a s lo len=>
     rw[hv] at h3;cases lo with
     |zero=>simp only[yM,h3 a rfl]
     |succ lo=>rfl
    |_=>rfl
   |_=>rfl
  have e2:∀(us:List (Nat×Option av)) (m:Mode),wW fl (fh h' us) sz m (ev y)=wW fl (fh h us) sz m (ev y):=by
   intro us m;cases hv:ev y with
   |one p=>cases p with
    |sl b s lo len=>
     rw[hv] at h4;have hb:fh h' us b=fh h us b:=by
      by_cases hu:∃p∈us,p.1=b
      ·exact Jb hu
      ·rw[qD fun p hp e=>hu ⟨p,hp,e⟩,qD fun p hp e=>hu ⟨p,hp,e⟩];exact h4 b rfl
     simp only[wW,hb]
    |c x=>cases x<;>rfl
    |_=>rfl
   |_=>rfl
  simp only[iO,h1,h2,e1,e2]
end
theorem QD {f g:List Nat×List Nat} (h:Gm f g=true) {n:Nat} (h1:n∈f.2) (h2:n∈g.1):False:=by
 simp only[Gm,zaa,zaf] at h;have:=h.1 n h1;simp[h2] at this
theorem aiT {f g:List Nat×List Nat} (h:Gm f g=true) {n:Nat} (h1:n∈g.2) (h2:n∈f.1):False:=by
 simp only[Gm,zaa,zaf] at h;have:=h.2 n h1;simp[h2] at this
theorem EV {σ:St} (W:Wf σ) {op:aY} (hf:∀a∈op.args,a.flat=true) {n:Nat} (hn:n∈op.kV σ.ev):σ.used n=true:=by
 obtain⟨a,ha,hr⟩:=r8.1 hn;exact W.arg (hf a ha) n hr
theorem ad6 {σ:St} (W:Wf σ) {op:aY} (hf:∀a∈op.args,a.flat=true) {n:Nat} (hn:n∈op.oT σ.ev σ.h):σ.used n=true:=by
 unfold aY.oT at hn;cases hc:op.HB with
 |true=>
  rw[hc] at hn;rcases zae.1 hn with hn|hn
  ·exact EV W hf hn
  ·unfold Dt at hn;rw[zar] at hn;obtain⟨m,hm,hn⟩:=hn;split at hn
   ·rename_i cs hb;obtain⟨c,hc,hr⟩:=zar.1 hn;exact W.box m cs c n hb hc (aj.Ia.1 hr)
   ·cases hn
 |false=>rw[hc] at hn;exact EV W hf hn
section
variable {T:aZ} {dx dy:Option Nat} {x y:aY} {σ σ1 σ2:St}
theorem aat (W:Wf σ) (te:∀n,dx=some n->MO.t n∉y.args) (Bn:∀a∈y.args,a.flat=true) (xo:∀sz p v,x=.store sz p v->dx=none)
  (hc:x.fm<=1\/y.fm=0) (h1:exec T dx x σ=some σ1):y.fp σ1=y.fp σ:=by
 have uK:=yX xo h1;have cj:∀a∈y.args,σ1.ev a=σ.ev a:=fun a ha=>by
  cases a with
  |t n=>show σ1.env n=σ.env n;rw[uK];exact tA fun qP=>te n qP ha
  |k v=>rfl
 rcases hc with hc|hc
 ·rw[rK T dx x σ hc] at h1;have hh:∀n∈y.kV σ.ev,σ1.h n=σ.h n:=by
   intro n hn;cases hr:rd T dx x σ.ev σ.h with
   |none=>rw[hr] at h1;cases h1
   |some p=>
    rw[hr] at h1;simp only[zai,fin,zaw] at h1;obtain⟨A,hA,rfl⟩:=h1;have:(A.put dx p.1).h=A.h:=by cases dx<;>rfl
    rw[this];exact((BJ hA).1 n (EV W Bn hn)).2
  unfold aY.fp;rw[O4 cj hh,Uk cj hh]
 ·unfold aY.fp;have c1:y.HB=false:=by cases y<;>first|rfl|(simp[aY.fm] at hc)
  have w:∀ev h,y.mY ev h=some []:=by intro ev h;cases y<;>first|rfl|(simp[aY.fm] at hc)
  simp only[w,aY.oT,c1,cond_false,H9 cj]
theorem aiy (W:Wf σ) (hd:∀n,dx=some n->dy≠some n) (te:∀n,dx=some n->MO.t n∉y.args) (vW:∀n,dy=some n->MO.t n∉x.args)
  (Ec:∀a∈x.args,a.flat=true) (Bn:∀a∈y.args,a.flat=true)
  (xo:∀sz p v,x=.store sz p v->dx=none) (G5:∀sz p v,y=.store sz p v->dy=none) (hk:Gn (x.fp σ) (y.fp σ1)=true)
  (h1:exec T dx x σ=some σ1) (h2:exec T dy y σ1=some σ2):∃τ,exec T dy y σ=some τ/\exec T dx x τ=some σ2/\y.fp σ1=y.fp σ/\x.fp τ=x.fp σ:=by
 unfold aY.fp at hk;cases Bb:x.mY σ.ev σ.h with
 |none=>rw[Bb] at hk;cases hk
 |some wx=>
 cases Bc:y.mY σ1.ev σ1.h with
 |none=>rw[Bb,Bc] at hk;cases hk
 |some wy=>
 rw[Bb,Bc] at hk;simp only[zab,Gn] at hk;rw[LU Bb xo] at h1;rw[LU Bc G5] at h2;cases LA:iO T dx x σ.ev σ.h with
 |none=>rw[LA] at h1;cases h1
 |some px=>
 obtain⟨vx,ux,nx⟩:=px;rw[LA] at h1;simp only[zai,yZ,zaw] at h1;obtain⟨A,hA,rfl⟩:=h1;have OV:∀q∈ux,q.1∈wx:=XE Bb LA;have WZ:∀q∈ux,σ.used q.1=true:=fun q hq=>EV W Ec (ag9 Bb (OV q hq));obtain⟨A',Mj,rfl⟩:=SS WZ hA;obtain⟨oa,ea⟩:=BJ Mj;have nk:∀(s:St) (d:Option Nat) (v:ao),(s.put d v).h=s.h:=fun s d v=>by cases d<;>rfl
 have cj:∀a∈y.args,((A'.eI ux).put dx vx).ev a=σ.ev a:=fun a ha=>by
  rw[rj,LQ fun n hn=>tA fun qP=>te n qP (hn▸ha)];cases a with
  |t n=>show(A'.eI ux).env n=σ.env n;rw[oh];show A'.env n=_;rw[ea]
  |k v=>rfl
 have alZ:y.oT ((A'.eI ux).put dx vx).ev ((A'.eI ux).put dx vx).h=y.oT σ.ev σ.h/\y.mY ((A'.eI ux).put dx vx).ev ((A'.eI ux).put dx vx).h=y.mY σ.ev σ.h:=by
  have hh:∀n∈y.kV σ.ev,((A'.eI ux).put dx vx).h n=σ.h n:=fun n hn=>by
   rw[nk,oh];show fh A'.h ux n=_;rw[qD fun p hp e=>QD hk (OV p hp) (by rw[e];exact NI (by rw[H9 cj];exact hn))];exact(oa n (EV W Bn hn)).2
  exact⟨Uk cj hh,O4 cj hh⟩
 obtain⟨r1,r2⟩:=alZ;have hh:∀n∈y.oT σ.ev σ.h,((A'.eI ux).put dx vx).h n=σ.h n:=fun n hn=>by
  rw[nk,oh];show fh A'.h ux n=_;rw[qD fun p hp e=>QD hk (OV p hp) (by rw[e];show n∈y.oT _ _;rw[r1];exact hn)];exact(oa n (ad6 W Bn hn)).2
 have eay:iO T dy y ((A'.eI ux).put dx vx).ev ((A'.eI ux).put dx vx).h=iO T dy y σ.ev σ.h:=XD cj hh;rw[eay] at h2;rw[r2] at Bc;cases LB:iO T dy y σ.ev σ.h with
 |none=>rw[LB] at h2;cases h2
 |some py=>
 obtain⟨vy,uy,ny⟩:=py;rw[LB] at h2;simp only[zai,yZ,zaw] at h2;obtain⟨D,hD,rfl⟩:=h2;have uyw:∀q∈uy,q.1∈wy:=XE Bc LB;have uyn:∀q∈uy,q.1∈y.kV σ.ev:=fun q hq=>ag9 Bc (uyw q hq);have W0:∀q∈uy,σ.used q.1=true:=fun q hq=>EV W Bn (uyn q hq);have uyA:∀q∈uy,A'.used q.1=true:=fun q hq=>(oa _ (W0 q hq)).1;have uxA:∀q∈ux,A'.used q.1=true:=fun q hq=>(oa _ (WZ q hq)).1;have ji:∀p∈ux,∀q∈uy,p.1≠q.1:=fun p hp q hq e=>QD hk (OV p hp) (by rw[e];show q.1∈y.oT _ _;rw[r1];exact NI (uyn q hq));rw[rj,ag0,BK,zaw] at hD;obtain⟨D0,hD0,rfl⟩:=hD;obtain⟨D1,hD1,rfl⟩:=SS (σ:=A'.eI ux) (fun q hq=>by rw[oh];exact uyA q hq) hD0;obtain⟨F,hF,rfl⟩:=SS uxA hD1;obtain⟨C',hC,hCF⟩:=SR Mj hF;obtain⟨oc,ec⟩:=BJ hC;have uyC:∀q∈uy,C'.used q.1=true:=fun q hq=>(oc _ (W0 q hq)).1;have uxC:∀q∈ux,C'.used q.1=true:=fun q hq=>(oc _ (WZ q hq)).1;have Mm:∀a∈x.args,((C'.eI uy).put dy vy).ev a=σ.ev a:=fun a ha=>by
  rw[rj,LQ fun n hn=>tA fun qP=>vW n qP (hn▸ha)];cases a with
  |t n=>show(C'.eI uy).env n=σ.env n;rw[oh];show C'.env n=_;rw[ec]
  |k v=>rfl
 have hhx:∀n∈x.oT σ.ev σ.h,((C'.eI uy).put dy vy).h n=σ.h n:=fun n hn=>by
  rw[nk,oh];show fh C'.h uy n=_;rw[qD fun p hp e=>aiT hk (uyw p hp) (by rw[e];exact hn)];exact(oc n (ad6 W Ec hn)).2
 have RR:∀n∈x.kV σ.ev,((C'.eI uy).put dy vy).h n=σ.h n:=fun n hn=>hhx n (NI hn);refine⟨(C'.eI uy).put dy vy,?_,?_,?_,?_⟩
 ·rw[LU Bc G5,LB];simp only[zai,yZ,Hz W0 hC,zab]
 ·rw[LU (ws:=wx) (by rw[O4 Mm RR];exact Bb) xo,XD Mm hhx,LA];simp only[zai,yZ];rw[rj,ag0,BK,Hz (σ:=C'.eI uy) (fun q hq=>by rw[oh];exact uxC q hq) (Hz uyC hCF)];simp only[zab];rw[rj,rj,auH ji];congr 1;have e1:(C'.eI uy).env=σ.env:=by rw[oh];exact ec
  have e2:(A'.eI ux).env=σ.env:=by rw[oh];exact ea
  show St.we _ (ko (ko (C'.eI uy).env dy vy) dx vx)=St.we _ (ko (ko (A'.eI ux).env dx vx) dy vy);rw[e1,e2,NV σ.env _ _ hd];rfl
 ·unfold aY.fp;rw[r1,r2]
 ·unfold aY.fp;rw[O4 Mm RR,Uk Mm RR]
end
def Ge (x y:cT):Bool:=x.op.fm==0||y.op.fm==0||(decide (x.op.fm<=1)&&decide (y.op.fm<=1))
def Gf (x y:cT):Bool:=
 (match x.dst with|some d=>y.wj d&&(match y.dst with|some e=>e !=d|none=>true)|none=>true)&&
 (match y.dst with|some d=>x.wj d|none=>true)&&x.sU&&y.sU
theorem aiz {T:aZ} {x y:cT} {σ σ1 σ2:St} (W:Wf σ) (hc:Gf x y=true) (hk:Ge x y=true\/Gn (x.fp σ) (y.fp σ1)=true) (h1:f0 T x σ=some σ1) (h2:f0 T y σ1=some σ2):
  ∃τ,f0 T y σ=some τ/\f0 T x τ=some σ2/\y.fp σ1=y.fp σ/\x.fp τ=x.fp σ:=by
 simp only[Gf,zaa] at hc;obtain⟨⟨⟨c1,c2⟩,c3⟩,c4⟩:=hc;rw[DR] at h1 h2;cases ex:pg x σ.env with
 |none=>rw[ex] at h1;cases h1
 |some lI=>
  rw[ex] at h1;have h1:exec T x.dst lI σ=some σ1:=h1;have jx:lI=x.op\/lI=.mv (.k (.cf [])):=LC ex;have CG:∀sz p v,lI=.store sz p v->x.dst=none:=by
   intro sz p v he;rcases jx with rfl|rfl
   ·simp only[cT.sU,zaa,he] at c3;simpa using c3.2
   ·cases he
  have uK:=yX CG h1;have SA:∀s w,y.guard=some (s,w)->x.dst≠some s:=by
   intro s w hg hd;rw[hd] at c1;simp[cT.wj,hg] at c1
  have MH:∀s w,x.guard=some (s,w)->y.dst≠some s:=by
   intro s w hg hd;rw[hd] at c2;simp[cT.wj,hg] at c2
  have LV:pg y σ1.env=pg y σ.env:=Gq fun s w hg=>by rw[uK];exact tA (SA s w hg)
  rw[LV] at h2;cases ey:pg y σ.env with
  |none=>rw[ey] at h2;cases h2
  |some kZ=>
   rw[ey] at h2;have h2:exec T y.dst kZ σ1=some σ2:=h2;have jy:kZ=y.op\/kZ=.mv (.k (.cf [])):=LC ey;have Ah:∀sz p v,kZ=.store sz p v->y.dst=none:=by
    intro sz p v he;rcases jy with rfl|rfl
    ·simp only[cT.sU,zaa,he] at c4;simpa using c4.2
    ·cases he
   have GA:∀a∈lI.args,a.flat=true:=by
    rcases jx with rfl|rfl
    ·simp only[cT.sU,zaa,zaf] at c3;exact c3.1
    ·intro a ha;simp[aY.args] at ha;subst ha;rfl
   have GC:∀a∈kZ.args,a.flat=true:=by
    rcases jy with rfl|rfl
    ·simp only[cT.sU,zaa,zaf] at c4;exact c4.1
    ·intro a ha;simp[aY.args] at ha;subst ha;rfl
   have te:∀n,x.dst=some n->MO.t n∉kZ.args:=by
    intro n hd;rcases jy with rfl|rfl
    ·rw[hd] at c1;simp only[zaa] at c1;exact cT.NJ c1.1
    ·simp[aY.args]
   have vW:∀n,y.dst=some n->MO.t n∉lI.args:=by
    intro n hd;rcases jx with rfl|rfl
    ·rw[hd] at c2;exact cT.NJ c2
    ·simp[aY.args]
   have ji:∀n,x.dst=some n->y.dst≠some n:=by
    intro n hd he;rw[hd,he] at c1;simp at c1
   have yfp:y.fp σ1=kZ.fp σ1:=by unfold cT.fp;rw[LV,ey]
   have auZ:y.fp σ=kZ.fp σ:=by unfold cT.fp;rw[ey]
   have aha:x.fp σ=lI.fp σ:=by unfold cT.fp;rw[ex]
   have xfp:∀τ,exec T y.dst kZ σ=some τ->x.fp τ=lI.fp τ:=by
    intro τ t1;unfold cT.fp;rw[Gq (e:=σ.env) (fun s w hg=>by rw[yX Ah t1];exact tA (MH s w hg)),ex]
   have fin:(∃τ,exec T y.dst kZ σ=some τ/\exec T x.dst lI τ=some σ2/\kZ.fp σ1=kZ.fp σ/\lI.fp τ=lI.fp σ)->∃τ,f0 T y σ=some τ/\f0 T x τ=some σ2/\y.fp σ1=y.fp σ/\x.fp τ=x.fp σ:=by
    rintro⟨τ,t1,t2,t3,t4⟩;refine⟨τ,?_,?_,?_,?_⟩
    ·rw[DR,ey];exact t1
    ·rw[DR,Gq (e:=σ.env) (fun s w hg=>by rw[yX Ah t1];exact tA (MH s w hg)),ex];exact t2
    ·rw[yfp,auZ,t3]
    ·rw[xfp τ t1,aha,t4]
   apply fin;rcases hk with c5|hk
   ·have cY:lI.fm=0\/kZ.fm=0\/(lI.fm<=1/\kZ.fm<=1):=by
     rcases jx with rfl|rfl
     ·rcases jy with rfl|rfl
      ·simp only[Ge,zaB,beq_iff_eq,zaa,decide_eq_true_eq,or_assoc] at c5;exact c5
      ·exact .inr (.inl rfl)
     ·exact .inl rfl
    obtain⟨τ,t1,t2⟩:=Yt W ji te vW GA GC CG Ah cY h1 h2;refine⟨τ,t1,t2,aat W te GC CG (by omega) h1,aat W vW GA Ah (by omega) t1⟩
   ·rw[yfp,aha] at hk;exact aiy W ji te vW GA GC CG Ah hk h1 h2
def FZ (T:aZ) (ms:List cT) (F:Nat->Option FP):List Nat->St->St->Prop
 |[],σ,lg=>σ=lg
 |i::L,σ,lg=>∃m σ1,ms[i]? =some m/\F i=m.fp σ/\f0 T m σ=some σ1/\FZ T ms F L σ1 lg
def Xw (F:Nat->Option FP) (ms:List cT) (i j:Nat) (m:cT):Prop:=∃mj,ms[j]? =some mj/\Gf mj m=true/\(Ge mj m=true\/Gn (F j) (F i)=true)
structure Xf (F:Nat->Option FP) (ops:Array Oper) (ms:List cT):Prop where
 back:∀(i:Nat) (o:Oper),ops[i]? =some o->∀e∈o.after,Region.binds .any e=true->e.on<i
 pair:∀(i j:Nat) (o:Oper) (m:cT),ops[i]? =some o->ms[i]? =some m->j<i->yn ops i j\/Xw F ms i j m
section
variable {B:Nat} {E:Ex} {w0 w w':World} {G G':Gh} {N:Nat}
variable {P:Program} {T:aZ} {o:Oper} {mo:cT} {a:Act} {σ σ':St} {Q:Exit->Act->World->Prop} {ops:Array Oper}
theorem aep (hT:o6 P T) {ms:List cT} {F:Nat->Option FP} (uG:∀(i:Nat) (m:cT),ms[i]? =some m->∃o,ops[i]? =some o/\w4 P N ops o m=true) {i:Nat} {mi:cT} (hi:ms[i]? =some mi) {post:List Nat} {lg:St}:
  ∀{pre:List Nat} {σ:St},JV B E w0 N σ->FZ T ms F (pre++i::post) σ lg->(∀j∈pre,Xw F ms i j mi)->
  ∃τ,F i=mi.fp σ/\f0 T mi σ=some τ/\FZ T ms F (pre++post) τ lg
 |[],σ,hr,hx,hc=>by
  obtain⟨m,σ1,h1,h2,h3,h4⟩:=hx;rw[hi] at h1;injection h1 with h1;subst h1;exact⟨σ1,h2,h3,h4⟩
 |j::pre,σ,hr,hx,hc=>by
  obtain⟨mj,σ1,k1,k2,k3,k4⟩:=hx;obtain⟨mj',hj,mI,cY⟩:=hc j (by simp);rw[k1] at hj;injection hj with hj;subst hj;obtain⟨oj,_,iu⟩:=uG j mj k1;obtain⟨rq,t0,t1,t2⟩:=aep hT uG hi (aed hr hT iu k3) k4 (fun k hk=>hc k (by simp[hk]));obtain⟨a,w,G,r⟩:=hr;rw[k2,t0] at cY;obtain⟨τ,s1,s2,s3,s4⟩:=aiz r.wf mI cY k3 t1;exact⟨τ,by rw[t0,s3],s1,mj,rq,k1,by rw[s4];exact k2,s2,t2⟩
theorem auT (hT:o6 P T) {ms:List cT} {F:Nat->Option FP} (uG:∀(i:Nat) (m:cT),ms[i]? =some m->∃o,ops[i]? =some o/\w4 P N ops o m=true) (hlen:ms.length=ops.size) (hd:Xf F ops ms) {lg:St}
  (hQ:∀a w G,R B E w0 N lg a w G->Q .normal a w):
  ∀(kA:Nat) (L:List Nat) (d9:Array Bool) (σ:St) (a:Act) (w:World) (G:Gh),R B E w0 N σ a w G->FZ T ms F L σ lg->L.Pairwise (·<·)->L.length<=kA->d9.size=ops.size->
   (∀j,j∈L↔d9.getD j true=false)->O7 ops d9->wpAny P .any ops Q kA d9 a w:=by
 have first:∀(L:List Nat) (d9:Array Bool),L.Pairwise (·<·)->d9.size=ops.size->(∀j,j∈L↔d9.getD j true=false)->Region.ready .any ops d9=[]->L=[]:=by
  intro L d9 hp hs hL hr;cases L with
  |nil=>rfl
  |cons j L=>
   exfalso;have hj:=(hL j).1 (by simp);have pt:j<ops.size:=by
    rw[<-hs];rcases za4 j d9.size with h|h
    ·exact h
    ·simp[zaz h] at hj
   have ho:ops[j]? =some ops[j]:=zaT pt;have:j∈Region.ready .any ops d9:=by
    rw[mem_ready];refine⟨hj,_,ho,fun e he hb=>?_⟩;have cD:=hd.back j _ ho e he hb;have pw:e.on∉j::L:=by
     intro hm;cases hm with
     |head=>omega
     |tail _ hm=>have:=(zay.1 hp).1 _ hm;omega
    have aE:d9.getD e.on true≠false:=fun h=>pw ((hL e.on).2 h);have rT:e.on<d9.size:=by omega
    simp[rT] at aE⊢;exact aE
   rw[hr] at this;cases this
 intro kA;induction kA with
 |zero=>
  intro L d9 σ a w G r hx hp hl hs hL hC;have uF:L=[]:=zak (by omega);subst uF;have hx:σ=lg:=hx;subst hx;refine⟨?_,hQ _ _ _ r⟩;cases hr:Region.ready .any ops d9 with
  |nil=>rfl
  |cons i l=>
   have hm:i∈Region.ready .any ops d9:=by rw[hr];simp
   have:=(hL i).2 (mem_ready.1 hm).1;cases this
 |succ kA ih=>
  intro L d9 σ a w G r hx hp hl hs hL hC;refine⟨fun hr=>?_,fun i hi=>?_⟩
  ·have uF:=first L d9 hp hs hL hr
   subst uF;have hx:σ=lg:=hx;subst hx;exact hQ _ _ _ r
  ·obtain⟨RS,oi,mL,GQ⟩:=mem_ready.1 hi;have s8:i∈L:=(hL i).2 RS;obtain⟨pre,post,rfl⟩:=zbc s8;have Ha:i<ops.size:=(zap.1 mL).1;have Bu:ms[i]? =some ms[i]:=zad (by omega);obtain⟨o',jE,vK⟩:=uG i _ Bu;rw[mL] at jE;injection jE with jE;subst jE;have iR:=zaE.1 hp;obtain⟨τ,t0,t1,t2⟩:=aep (ops:=ops) hT uG Bu ⟨a,w,G,r⟩ hx (fun j hj=>by
    have qQ:j<i:=iR.2.2 j hj i (by simp);rcases hd.pair i j oi _ mL Bu qQ with Rq|h
    ·have h1:=X5 hC Rq (fun o ho e he hb=>by
      rw[mL] at ho;injection ho with ho;subst ho;have h1:=GQ e he hb;have cD:=hd.back i _ mL e he hb;have rT:e.on<d9.size:=by omega
      simp[rT] at h1⊢;exact h1)
     have h2:=(hL j).1 (by simp[hj]);rw[h1] at h2;cases h2
    ·exact h)
   have xH:∀a' w',Nx B E w0 N τ a' w'->wpAny P .any ops Q kA (d9.setIfInBounds i true) a' w':=by
    rintro a' w' ⟨G',r'⟩;refine ih (pre++post) _ τ a' w' G' r' t2 ?_ (by simp at hl⊢;omega) (by simpa using hs) (fun j=>?_) (fun k o ho hk e he hb=>?_)
    ·rw[zaE];exact⟨iR.1,(zay.1 iR.2.1).2,fun x hx y hy=>iR.2.2 x hx y (by simp[hy])⟩
    ·by_cases qQ:j=i
     ·subst qQ;have pt:j<d9.size:=by omega
      simp only[zae];constructor
      ·rintro(h|h)
       ·have:=iR.2.2 j h j (by simp);omega
       ·have:=(zay.1 iR.2.1).1 j h;omega
      ·intro h;simp[pt] at h
     ·rw[getD_set_ne true (zaQ qQ),<-hL j];simp[qQ]
    ·have Hd:∀q,d9.getD q true=true->(d9.setIfInBounds i true).getD q true=true:=by
      intro q hq;by_cases lZ:q=i
      ·subst lZ;have:q<d9.size:=by omega
       simp[this]
      ·rw[getD_set_ne true (zaQ lZ)];exact hq
     by_cases Bq:k=i
     ·subst Bq;rw[mL] at ho;injection ho with ho;subst ho;have h1:=GQ e he hb;have cD:=hd.back k _ mL e he hb;have rT:e.on<d9.size:=by omega
      refine Hd _ ?_;simp[rT] at h1⊢;exact h1
     ·rw[getD_set_ne true (zaQ Bq)] at hk;exact Hd _ (hC k o ho hk e he hb)
   unfold wpOp;rw[mL];simp only
   rcases LS (Q:=Q) r hT vK t1 with⟨hw,h⟩|⟨hw,h⟩
   ·rw[if_pos hw];exact .inl (Oper.wp_mono xH h)
   ·rw[if_neg (by simp[hw])];exact xH _ _ h
def Lp (ps:List (Nat×Nat)) (ops:List Oper) (ms:List cT):Bool:=
 (fun ks:List Nat=>(List.range ops.length).all fun i=>match ops[i]?,ms[i]? with
  |some o,some m=>(o.after.toList.all fun e=> !Region.binds .any e||decide (e.on<i))&&
   (List.range i).all fun j=>(ks.getD i 0).testBit j||(match ms[j]? with|some mj=>Gf mj m&&(Ge mj m||ps.contains (j,i))|none=>false)
  |_,_=>false) (EO ops [])
theorem aik {ps:List (Nat×Nat)} {ms:List cT} {fs:List (Option FP)} (h:Lp ps ops.toList ms=true) (hp:xZ ps fs=true):Xf (fun i=>fs.getD i none) ops ms:=by
  simp only[Lp,zaf,zaG] at h;have cI:∀(i:Nat) (o:Oper),ops[i]? =some o->∃m,ms[i]? =some m/\(o.after.toList.all fun e=> !Region.binds .any e||decide (e.on<i))=true/\
        ∀j,j<i->(((EO ops.toList []).getD i 0).testBit j||(match ms[j]? with|some mj=>Gf mj m&&(Ge mj m||ps.contains (j,i))|none=>false))=true:=by
    intro i o ho;have hi:i<ops.toList.length:=by simpa using(zap.1 ho).1
    have e7:=h i hi;have jE:ops.toList[i]? =some o:=by simpa using ho
    rw[jE] at e7;cases hm:ms[i]? with
    |none=>rw[hm] at e7;cases e7
    |some m=>
     rw[hm] at e7;simp only[zaa,zaf,zaG] at e7;exact⟨m,rfl,by rw[zaf];exact e7.1,e7.2⟩
  refine⟨fun i o ho e he hb=>?_,fun i j o m ho hm hj=>?_⟩
  · obtain⟨m,_,k1,_⟩:=cI i o ho;have:=zaf.1 k1 e (zaJ.2 he);simp[hb] at this;exact this
  · obtain⟨m',cF,_,k2⟩:=cI i o ho;rw[hm] at cF;injection cF with cF;subst cF;have:=k2 j hj;rw[zaB] at this;rcases this with h1|h1
    · exact .inl (TJ ops.toList [] [] rfl rfl (by intro i k hb;simp at hb) i j h1)
    · cases Eg:ms[j]? with
      |none=>rw[Eg] at h1;cases h1
      |some mj=>
       rw[Eg] at h1;simp only[zaa,zaB] at h1;refine .inr ⟨mj,Eg,h1.1,?_⟩;rcases h1.2 with h2|h2
       · exact .inl h2
       · refine .inr ?_;have:=zaf.1 hp (j,i) (by simpa using h2);exact this
theorem Zl {ms:List cT}:∀(post pre:List cT) (σ lg:St) (fs dV:List (Option FP)),ms=pre++post->dV.length=pre.length->oG T post dV σ=some (fs,lg)->
  dV=fs.take dV.length/\FZ T ms (fun i=>fs.getD i none) (List.range' pre.length post.length) σ lg
 |[],pre,σ,lg,fs,dV,he,hl,hx=>by
  simp only[oG] at hx;injection hx with hx;injection hx with h1 h2;subst h1 h2;exact⟨by simp,rfl⟩
 |m::post,pre,σ,lg,fs,dV,he,hl,hx=>by
  simp only[oG] at hx;split at hx
  ·rename_i σ1 e1;obtain⟨h1,h2⟩:=Zl (ms:=ms) post (pre++[m]) σ1 lg fs (dV++[m.fp σ]) (by simp[he]) (by simp[hl]) hx;have h3:fs[dV.length]? =some (m.fp σ):=by
    have:(fs.take (dV++[m.fp σ]).length)[dV.length]? =some (m.fp σ):=by rw[<-h1];simp
    rw[List.getElem?_take] at this;split at this
    ·exact this
    ·cases this
   have h4:dV=fs.take dV.length:=by
    have:=congrArg (List.take dV.length) h1;simpa[List.take_take] using this
   refine⟨h4,m,σ1,?_,?_,e1,?_⟩
   ·rw[he,zao (zav _),za3];rfl
   ·show fs.getD pre.length none=_;rw[<-hl,zam,h3];rfl
   ·simpa using h2
  ·cases hx
theorem asF (hT:o6 P T) (hm:P.follows .mixedOrders=true) {id:Nat} {ps:List (Nat×Nat)} {ms:List cT} {fs:List (Option FP)} (hc:rE P N ops ops.toList ms=true) (hd:Lp ps ops.toList ms=true)
  (hx:oG T ms [] σ=some (fs,σ')) (hp:xZ ps fs=true) (r:R B E w0 N σ a w G) (hQ:∀a w G,R B E w0 N σ' a w G->Q .normal a w):(Code.region id ops true).wp P Q a w:=by
 obtain⟨k1,k2⟩:=Qn hc;have hlen:ms.length=ops.size:=by simpa using k1
 refine wp_region_any hm (auT (B:=B) (E:=E) (w0:=w0) (N:=N) hT (fun i m h=>by
  obtain⟨o,h1,h2⟩:=k2 i m h;exact⟨o,by simpa using h1,h2⟩) hlen (aik hd hp) hQ ops.size (List.range ops.size) _ σ a _ G (r.drawn _) ?_ ?_ (by simp) (by simp) (fun j=>?_) (fun k o ho hk=>?_))
 ·have:=(Zl (T:=T) (ms:=ms) ms [] σ σ' fs [] rfl rfl hx).2;simp only[za5,hlen,<-za8] at this;exact this
 ·exact zaY
 ·rw[zaG];constructor
  ·intro h;simp[h]
  ·intro h;rcases za4 j ops.size with h'|h'
   ·exact h'
   ·simp[zaz (show(Array.replicate ops.size false).size<=j by simpa using h')] at h
 ·exfalso;have R0:k<ops.size:=(zap.1 ho).1;simp[R0] at hk
end
end Go.Am
