/- AmO, AmR, AmS, AmT, AmU, AmV, AmX, Am17, Am18, Am19, Am20, Am21, Am22, Am23, AmA, AmD, AmE, AmF, AmP, AmQ, AmG, AmH: parts of the proof. No condition. -/
import Derived.Test.YtaaeocdagekdcaaAmN
set_option linter.unusedVariables false
set_option linter.unusedSimpArgs false
open Bool renaming and_eq_true->co,or_eq_true->zat,false_eq_true->zaC,not_eq_true'->zaE
open List renaming getElem?_eq_getElem->wt,mem_of_getElem?->AI,getElem?_map->AN,all_eq_true->AT,getElem?_eq_some_iff->By,mem_map->BY,eq_nil_of_length_eq_zero->If,map_congr_left->IN,getElem?_of_mem->IS,length_map->IT,mem_range->Pd,mem_append->zaa,getElem?_set_self->zad,getD_eq_getElem?_getD->zae,getElem?_append_right->zaf,range->zag,mem_cons->zai,map_map->zaj,replicate->zak,mem_flatMap->zam,mem_or_eq_of_mem_set->zap,pairwise_iff_getElem->zaq,mem_singleton->zas,flatMap_cons->zau,eq_nil_iff_forall_not_mem->zav,map_append->zax,map_set->zaA,map_cons->zaF,getElem_mem->zaH,length_take->zaI,flatMap_map->zaJ,cons_append->zaK,length_eq_one_iff->zaL,pairwise_lt_range->zaM,length_replicate->zaN,length_nil->zaQ,take_append_drop->zaR,mem_of_mem_take->zaS,mem_cons_of_mem->zaT,length->zaU,flatten_append->zaV,getElem?_take->zaW,mem_replicate->zaX,map_replicate->zaY,nodup_append->za1,nodup_range->za4,length_cons->za5,length_set->za6,mem_filter->za8,nodup_cons->za9,nil_append->zba,map_nil->zbd
open Option renaming map_some->GB,bind_some->OF,map_eq_some_iff->zan
open Nat renaming le_refl->Pe,mul_le_mul_right->zab,lt_of_lt_of_le->zah,le_trans->zar,add_mul->zaw,eq_zero_or_pos->zaB,min->zaD,add_assoc->zaG,ble_eq_true_of_le->zaP,sub_self->za3,mul_one->za7,add_zero->zbb,min_comm->zbc,beq_refl->zbf,zero_add->zbg
open Array renaming ext'->zac,getElem?_eq_getElem->zal,getElem?_eq_some_iff->zao,getD_eq_getD_getElem?->zay,length_toList->zaz
open List.Pairwise renaming sublist->zaO
open Ne renaming symm->zaZ
open List.Sublist renaming refl->za0,append->zbh
open Option.some renaming injEq->za2
open Or renaming inl->zbe
open Prod renaming snd->zbi
namespace Go.Am
section
variable {B N:Nat} {E:Ex} {w0 w w':World} {G G':Gh} {h h':Nat->Option aV} {used used':Nat->Bool} {P:Program} {o:Oper} {a:Act} {σ σ':St} {Q:Exit->Act->World->Prop} {tk:List PC}
def DT (p:PB):e7->PC->PB
 |.row _,.list _ _ _ px=>{p with px:=px}
 |.nest _ k off,q=>{p with px:=p.px.set k ((p.px.getD k []).set off q)}
 |_,_=>p
open Classical in
noncomputable def zK (G:Gh) (its:List (e7×Mode)) (qs:List PC):Gh:=
 ⟨G.Im,fun n=>if h:∃p:(e7×Mode)×PC,∃i:Nat,its[i]? =some p.1/\qs[i]? =some p.2/\p.1.1.g0=some n then DT (G.g n) h.choose.1.1 h.choose.2 else G.g n⟩
theorem aes {a:List (e7×Mode)} {b:List PC} (e:(a.filterMap (·.1.g0)).Nodup) {i n:Nat} {it:e7×Mode} {q:PC} (d:a[i]? =some it) (k:b[i]? =some q) (hn:it.1.g0=some n): (zK G a b).g n=DT (G.g n) it.1 q:=by have c:∃p:(e7×Mode)×PC,∃i:Nat,a[i]? =some p.1/\b[i]? =some p.2/\p.1.1.g0=some n:=⟨(it,q),i,d,k,hn⟩;unfold zK;simp only;rw[dif_pos c];obtain⟨j,f,h2,h⟩:=c.choose_spec;have lN:=QX e f d h hn;simp_all
theorem aet {a:List (e7×Mode)} {b:List PC} {n:Nat} (hn:n∉a.filterMap (·.1.g0)):(zK G a b).g n=G.g n:=by unfold zK;grind
theorem PC.Yr {pc q:PC} (c:q.val=pc.val) (hL:pc.kO=true):∃sz a cap xs,q=.list sz a cap xs:=by cases pc with|int k n=>cases hL|bool b=>cases hL|list sz a cap xs=>cases q with|int k n=>cases c|bool b=>cases c|list sz a cap xs=>simp_all
theorem adf {px:List (List PC)} (b:gU (px.map fun e=>e.map PC.er)=true) {k j:Nat} {c:PC} (d:At px k j c):c.kO=false:=by obtain⟨e,he,hj⟩:=d;have f:=AT.1 b (e.map PC.er) (by grind);have a:=AT.1 f c.er (by grind);cases hL:c.kO with|false=>rfl|true=>rw[PC.afi hL] at a;cases a
theorem ade {px:List (List PC)} (a:gU (px.map fun e=>e.map PC.er)=true) (b:Nat):¬bK b px:=by rintro⟨k,j,c,⟨e,he,hj⟩,d⟩;have g:=AT.1 a (e.map PC.er) (by grind);have f:=AT.1 g c.er (by grind);exact(Sep.kC f).2 b d
theorem abT (H:HR B E w G h used []) {n:Nat} {r:Bool} {m f:Mode} {sz:Nat} {xs:List (List C)} (hn:h n=some (.row r m sz xs)) (hm:m≠ .bh) (Fo:f=.live->m=.live) (u:zD f xs=true) (Fb:m=.live->r=false) {q:PC} (A:vl w' f (tL sz (G.g n)) q) {k:Nat} {F:List (List C)} (l:q.er=.list k F):KK w' (G.g n) (DT (G.g n) (.row n) q) r m sz F:=by have hr:=H.row n r m sz xs hn;have cQ:h n≠none:=(by rw[hn];simp);obtain⟨I,Q,oJ,px',rfl⟩:=PC.Yr A.val rfl;obtain⟨rfl,V,rfl,a,hl⟩:=A.live _ _ _ _ _ _ _ _ rfl rfl;rw[PC.fk] at l;injection l with _ l;have S:=A.sep;have D:(∀k j c,At px' k j c->Sep c)/\(∀b o k j c,Q=some (ad b o)->At px' k j c->¬bB b c)/\me px':=(by cases S with|list _ _ _ _ x K z=>exact⟨x,K,x,z⟩);have W:∀b,bK b px'->(G.g n).nl=false->b≠(G.g n).b:=(by rintro b ⟨k,j,c,i,v⟩ d rfl;refine D.2.1 (G.g n).b (G.g n).o k j c ?_ i v;simp_all);have J:f=.bi->gU xs=true:=(by rintro rfl;exact u);refine⟨hm,?_,rfl,rfl,rfl,rfl,rfl,l.symm,fun d=>?_,fun d=>?_,D.2.2,fun b y=>?_,fun fo k j pc i hL=>?_,fun s hl=>by simp_all⟩;(cases f with|bh=>cases u|live=>simp_all|bi=>exact .inl (ade (by rw[<-hr.er];exact J rfl)));have:=(hr.nl d).1;rw[this] at a;exact If a;refine⟨?_,?_⟩;have s:=A.fm;rw[V,aq (by simp[d])] at s;by_cases T:px'=[];show rI w' _ _ _ px';rw[T];exact⟨by simp,by rintro k j c ⟨e,p,_⟩;simp at p,by rintro k j c ⟨e,p,_⟩;simp at p⟩;generalize pY:PC.list I (some (ad (G.g n).b (G.g n).o)) (G.g n).cap px'=q2 at s;(cases s with|int k n=>cases pY|bool b=>cases pY|nil _ _ _ _=>simp_all|cons _ _ _ _ _ x K z L M N=>injection pY with O t e3 e4;injection t with t;obtain⟨R,P⟩:=pn t;subst O e3 e4;rw[R,P];exact⟨L,M,N⟩);show px'.length<=_;rw[a];exact(hr.f6 d).2.2;have X:bB b (tL I (G.g n)):=A.sub b (by obtain⟨k,j,c,i,v⟩:=y;exact .there _ _ _ _ k j c i v);rcases Zr (fun l=>(hr.nl l).1) X with⟨d,p⟩|U;exact absurd p (W b y d);exact U;cases f with|bh=>cases u|live=>exact hl rfl k j pc i hL|bi=>have:=adf (px:=(G.g n).px) (by rw[<-hr.er];exact J rfl) i;simp_all
theorem sH {α:Type} {px:List (List α)} {k off k' a:Nat} {e:List α} {q c:α} (f:px[k]? =some e) (h:At (px.set k (e.set off q)) k' a c):(k'=k/\a=off/\c=q)\/(At px k' a c/\(k',a)≠(k,off)):=by have g:=(By.1 f).1;rcases OX g h with⟨rfl,b⟩|⟨bm,b⟩;by_cases d:a=off;grind;rw[List.getElem?_set_ne (zaZ d)] at b;exact .inr ⟨⟨e,f,b⟩,fun e=>d (congrArg zbi e)⟩;simp_all
theorem akh {α:Type} {px:List (List α)} {k off k' a:Nat} {e:List α} {q c:α} (d:px[k]? =some e) (h:At px k' a c) (g:(k',a)≠(k,off)):At (px.set k (e.set off q)) k' a c:=by obtain⟨j,b,f⟩:=h;by_cases i:k'=k;subst i;rw[d] at b;injection b with b;subst b;have hj:a≠off:=fun e=>g (by rw[e]);exact⟨_,zad (By.1 d).1,by grind⟩;exact⟨j,by grind,f⟩
theorem abS (H:HR B E w G h used []) {n k off:Nat} {x:Bool} {sz:Nat} {xs:List (List C)} (hn:h n=some (.row x .live sz xs)) (Fb:x=false) {pc:PC} (t:At (G.g n).px k off pc) (hL:pc.kO=true) (P:(G.g n).nl=false->w'.heap[(G.g n).b]? =w.heap[(G.g n).b]?) (Q:∀k' i c,At (G.g n).px k' i c->(k',i)≠(k,off)->∀b,bB b c->w'.heap[b]? =w.heap[b]?) {q:PC} (A:vl w' .bi pc q) {D:List C} (L:xs[k]? =some D):KK w' (G.g n) (DT (G.g n) (.nest n k off) q) x .live sz (xs.set k (D.set off q.er)):=by have hr:=H.row n x .live sz xs hn;obtain⟨u,d,J⟩:=t;have O:(G.g n).px.getD k []=u:=(by simp[zae,d]);have v:(DT (G.g n) (.nest n k off) q).px=(G.g n).px.set k (u.set off q):=(by simp only[DT,O]);have F:D=u.map PC.er:=(by rw[hr.er,AN,d] at L;simpa using L.symm);have t:At (G.g n).px k off pc:=⟨u,d,J⟩;have K:q.kO=true:=(by obtain⟨sz,a,cap,xs,rfl⟩:=PC.Yr A.val hL;rfl);have M:(G.g n).nl=false:=(by cases hq:(G.g n).nl with|false=>rfl|true=>rw[(hr.nl hq).1] at d;simp at d);obtain⟨l1,l2,l3⟩:=hr.f6 M;refine⟨by simp,.inr rfl,rfl,rfl,rfl,rfl,rfl,?_,fun h=>?_,fun _=>?_,?_,fun b l=>?_,fun _ k' i c j y=>?_,fun hg _=>by simp_all⟩;rw[v,hr.er,F,zaA,zaA];simp_all;rw[v];refine⟨⟨fun e r=>?_,fun k' i c j=>?_,fun k' i c j=>?_⟩,by simp_all⟩;rcases zap r with r|rfl;exact l2.1 e r;rw[za6];exact l2.1 u (AI d);rw[kv (P M)];rcases sH d j with⟨rfl,rfl,rfl⟩|⟨f,_⟩;rw[A.val];exact l2.2.1 _ _ _ t;exact l2.2.1 _ _ _ f;rcases sH d j with⟨rfl,rfl,rfl⟩|⟨f,p⟩;exact A.fm;exact(l2.2.2 _ _ _ f).congr fun b l o=>kv (Q k' i c f p b l) o;rw[v];refine⟨fun k' i c j=>?_,fun k1 j1 c1 k2 j2 c2 b f p z l I=>?_⟩;rcases sH d j with⟨rfl,rfl,rfl⟩|⟨f,p⟩;exact A.sep;exact hr.mode.2.1 _ _ _ f;rcases sH d f with⟨rfl,rfl,rfl⟩|⟨s,n1⟩;rcases sH d p with⟨rfl,rfl,rfl⟩|⟨m,N⟩;exact z rfl;exact hr.mode.2.2 _ _ _ _ _ _ b t m z (A.sub b l) I;rcases sH d p with⟨rfl,rfl,rfl⟩|⟨m,N⟩;exact hr.mode.2.2 _ _ _ _ _ _ b s t z l (A.sub b I);exact hr.mode.2.2 _ _ _ _ _ _ b s m z l I;rw[v] at l;obtain⟨k',i,c,j,y⟩:=l;rcases sH d j with⟨rfl,rfl,rfl⟩|⟨f,p⟩;exact⟨_,_,_,t,A.sub b y⟩;exact⟨_,_,_,f,y⟩;rw[v];by_cases r:(k',i)=(k,off);have f:k'=k:=congrArg Prod.fst r;have p:i=off:=congrArg zbi r;subst f p;obtain⟨e1,s,m⟩:=j;rw[d] at s;injection s with s;subst s;rw[J] at m;injection m with m;subst m;have hl:i<u.length:=(By.1 J).1;exact⟨q,⟨_,zad (By.1 d).1,zad hl⟩,A.val,K⟩;exact⟨c,akh d j r,rfl,y⟩
theorem Yz:∀{as:List aw} {b:List (Bool×List ao)} {vals:List Value},wu as=some b->vals.length=as.length->(∀(j:Nat) (x:aw) (v:Value),as[j]? =some x->vals[j]? =some v->RA w G h x v)->
  vals.length=b.length/\∀(j:Nat) (x:Bool×List ao) (v:Value),b[j]? =some x->vals[j]? =some v->RV w G h x.1 x.2 v
 |[],b,vals,hx,hl,hc=>by
  simp_all [wu]
 |y::as,b,vals,hx,hl,hc=>by
  simp only[wu] at hx;split at hx
  ·rename_i x xs a g;injection hx with hx;subst hx;match vals,hl with
   |v::vals,hl=>
    obtain⟨k,i2⟩:=Yz g (vals:=vals) (by simpa using hl) (fun j x v i m=>hc (j+1) x v i m);refine⟨by simp[k],fun j x' v' e d=>?_⟩;cases j with
    |zero=>
     simp at e d;subst e d;have f:=hc 0 y v rfl rfl;cases y with
     |one c=>
      cases c<;>simp[aw.cells?] at a<;>subst a<;>exact f.resolve_left (by simp)
     |agg cs=>
      simp[aw.cells?] at a;subst a;exact f
     |cT l=>simp[aw.cells?] at a
    |succ j=>grind
  ·cases hx
theorem zh.kO {it:e7} {b:Mode} {pc:PC} (i:zh B E w G h it b pc):pc.kO=true:=by obtain⟨sz,a,cap,xs,rfl,_⟩:=i.ok.f6;rfl
def OS (P:Program) (T:bz):Prop:=∀f sig M,bz.uo T.DP f=some (sig,M)->zi P f sig M
def OP (w:World) (sig:df) (pas:List PA) (rs:List Dv) (fy:List C) (e:Ending) (w':World):Prop:=
  ∃bJ:List (K×List PC),bJ.map (fun p=>(p.1,p.2.map PC.er))=rs/\e=.returned (yW bJ)/\(∀p∈bJ,p.1≠ .ptr/\(p.1=.one->p.2.length=1))/\
   xW w' w.heap.size (bJ.flatMap (·.2))/\Fr w.heap.size (C8 (fx sig (pas.map (·.ps)))) w w'/\
   ∃qs:List PC,qs.map PC.er=fy/\qs.length=(fx sig (pas.map (·.ps))).length/\
    ∀(i:Nat) (x:Mode×PC) (q:PC),(fx sig (pas.map (·.ps)))[i]? =some x->qs[i]? =some q->vl w' x.1 x.2 q
theorem alZ (r:R B E w0 N σ a w G) {m:Mode} {f:FuncId} {vals vals':List Value} {sig:df} {ns:List Nat} {ds:List Dv} {t:List (e7×Mode)} {pas:List PA} {rs:List Dv} {fy:List C} {σ2 jX:St} {ls:List (Bool×List ao)}
  (hS:∀pas,CK w sig ds vals pas->Calls P f vals'.toArray w (OP w sig pas rs fy)) (hN:∀n,o.dst=some n->n<N) (cG:(execOp a.eval o).run P w=.ok (.enter f vals'.toArray) w)
  (q1:pas.length=ds.length) (q2:vals.length=ds.length) (q3:∀(i:Nat) (d:Dv) (v:Value) (p:PA),ds[i]? =some d->vals[i]? =some v->pas[i]? =some p->Ep w d v p)
  (BE:∀p∈pas,p.k=.ptr->∃n cs,σ.h n=some (.box cs)/\(G.g n).nl=false/\p.b=(G.g n).b)
  (an7:∀(i:Nat) (p:PA) (s:List (Option Mode)),pas[i]? =some p->sig[i]? =some s->p.k=.ptr->Rn s p.ps.length)
  (q5:qS B E w G σ.h t (fx sig (pas.map (·.ps)))) (q6:t.filterMap (·.1.g0)=ns) (q7:∀pc∈vg sig (pas.map (·.ps)),OK G σ.h ns pc) (jv:ns.Nodup)
  (ri:σ.wx t fy=some σ2) (zP:σ2.nQ m (nT o.dst) rs=some (ls,jX)):o.wp P a w (Nx B E w0 N (jX.put o.dst (pL ls))) Q:=by
 have H:=r.hr;have zS:(t.filterMap (·.1.g0)).Nodup:=by rw[q6];exact jv
 generalize zO:fx sig (pas.map (·.ps))=fl at q5;have QE:∀(i:Nat) (x:Mode×PC),fl[i]? =some x->∃it,t[i]? =some it/\it.2=x.1/\zh B E w G σ.h it.1 x.1 x.2:=by
  intro i x D;have cI:i<t.length:=by rw[q5.len];exact(By.1 D).1
  have X:t[i]? =some t[i]:=wt cI;exact⟨_,X,q5.at_ i _ x X D⟩
 have adi:∀x∈fl,∃it∈t,zh B E w G σ.h it.1 x.1 x.2:=by
  intro x hx;obtain⟨i,D⟩:=IS hx;obtain⟨it,h1,_,h2⟩:=QE i x D;exact⟨it,AI h1,h2⟩
 have pw:∀x∈fl,∀b,bB b x.2->∃n I m sz xs,n∈ns/\σ.h n=some (.row I m sz xs)/\m≠ .bh/\yh G n b/\((∀b,¬bK b (G.g n).px)\/m=.live):=by
  intro x hx b l;obtain⟨it,h1,h2⟩:=adi x hx;obtain⟨n,I,m,sz,xs,F,J,T,L,e5⟩:=h2.ra H l;exact⟨n,I,m,sz,xs,by grind,J,T,L,e5⟩
 have yo:∀b,C8 fl b->(B<=b\/E b):=by
  rintro b ⟨x,hx,l⟩;obtain⟨n,I,m,sz,xs,_,J,T,L,e5⟩:=pw x hx b l;rcases L with⟨O,rfl⟩|hF
  ·exact(H.own n (by rw[J];simp) O).2.1
  ·have ju:=(H.row n I m sz xs J).mode;cases m with
   |bh=>grind
   |bi=>grind
   |live=>exact(ju.1 b hF).2.2
 have YE:CK w sig ds vals pas:=by
  refine⟨q2,q1,q3,fun x hx=>?_,?_,fun pc bZ x hx b l bk=>?_,fun p hp hk x hx l=>?_,an7⟩
  ·rw[zO] at hx;obtain⟨it,_,h2⟩:=adi x hx;exact h2.ok
  ·rw[zO,zaq];intro i j D hj lN b l bk;obtain⟨it,h1,_,h2⟩:=QE i _ (wt D);obtain⟨FL,lI,_,yj⟩:=QE j _ (wt hj);obtain⟨n,I,m,sz,xs,F,J,T,L,e5⟩:=h2.ra H l;obtain⟨A,V,m',bf,W,Pm,Z,e3',Y,HQ⟩:=yj.ra H bk;have bm:n≠A:=by
    rintro rfl;have:=QX zS h1 lI F Pm;omega
   exact H.L9 bm J Z HQ L Y
  ·rw[zO] at hx;obtain⟨A,V,m',bf,W,Pm,Z,e3',Y,HQ⟩:=pw x hx b bk;rcases q7 pc bZ b l with D|⟨n,I,m,sz,xs,hn,J,L⟩
   ·rcases Y with⟨O,rfl⟩|hF
    ·exact(H.own A (by grind) O).1 D
    ·rcases HQ with HQ|rfl
     ·grind
     ·exact((H.row A V .live bf W Z).mode.1 b hF).1 D
   ·have bm:n≠A:=fun e=>hn (e▸Pm);exact H.L9 bm J Z HQ L Y
  ·rw[zO] at hx;obtain⟨A,V,m',bf,W,Pm,Z,e3',Y,HQ⟩:=pw x hx p.b l;obtain⟨n,cs,hn,hl,sW⟩:=BE p hp hk;rw[sW] at Y;have cQ:σ.h n≠none:=by rw[hn];simp
   rcases Y with⟨O,X⟩|hF
   ·refine H.inj n A cQ (by grind) ?_ hl O X
    grind
   ·have ju:=(H.row A V m' bf W Z).mode;cases m' with
    |bh=>grind
    |bi=>grind
    |live=>exact H.live A V bf W Z _ hF n cQ hl rfl
 unfold Oper.wp;rw[cG];refine(hS pas YE).mono fun e w' ⟨bJ,p1,p2,p3,p4,M,qs,p6,p7,p8⟩=>?_;subst p2;rw[zO] at M p7 p8;obtain⟨t1,t2,t3,t4⟩:=ag4 ri zS;have hSn:∀n,n∈ns->∃(i:Nat) (it:e7×Mode) (x:Mode×PC) (q:PC),t[i]? =some it/\fl[i]? =some x/\qs[i]? =some q/\fy[i]? =some q.er/\it.1.g0=some n/\zh B E w G σ.h it.1 x.1 x.2/\vl w' x.1 x.2 q:=by
  intro n hn;rw[<-q6,List.mem_filterMap] at hn;obtain⟨it,w9,z⟩:=hn;obtain⟨i,D⟩:=IS w9;have cI:i<fl.length:=by rw[<-q5.len];exact(By.1 D).1
  have hx:fl[i]? =some fl[i]:=wt cI;have u:qs[i]? =some (qs[i]'(by omega)):=wt _;exact⟨i,it,_,_,D,hx,u,by grind,z,(q5.at_ i it _ D hx).2,p8 i _ _ hx u⟩
 have aoq:∀b,b<w.heap.size->(∀n,n∈ns->¬yh G n b)->w'.heap[b]? =w.heap[b]? :=by
  intro b l dD;refine M.block b l ?_;rintro⟨x,hx,PT⟩;obtain⟨n,I,m,sz,xs,F,J,T,L,e5⟩:=pw x hx b PT;exact dD n F L
 have an4:∀b,b<w.heap.size->(∀x∈fl,¬bB b x.2)->w'.heap[b]? =w.heap[b]? :=fun b l dD=>M.block b l (by rintro⟨x,hx,PT⟩;grind);obtain⟨xR,K,iy⟩:=H.NI (G':=zK G t qs) (h':=σ2.h) (w':=w') (S:=fun n=>n∈ns) M.size aoq (fun b l=>M.mY b l) rfl (fun n hn=>by
  obtain⟨i,it,x,q,D,hxi,uu,Qe,z,fM,Mg⟩:=hSn n hn;have dT:=fM.at_;have aeI:=t4 i it q.er D Qe;rw[aes zS D uu z];obtain⟨X6,md⟩:=it;cases X6 with
  |nil sz=>cases z
  |row A=>
   injection z with z;have z:A=n:=z;subst z;obtain⟨I,mo,sz,xs,F,J,T,L,e5⟩:=dT;obtain⟨V,nA,pf,m7,W,U,g2,g3⟩:=aeI;rw[F] at U;injection U with U;injection U with a1 a2 a3 a4;subst a1 a2 a3 a4;rw[L] at Mg;exact⟨I,mo,sz,xs,W,F,g3,abT H F J T e5.1 e5.2 Mg g2⟩
  |nest A k off=>
   injection z with z;have z:A=n:=z;subst z;obtain⟨I,sz,xs,F,J,T,Fb⟩:=dT;obtain⟨V,nA,pf,m7,ex,U,g2,g3⟩:=aeI;rw[F] at U;injection U with U;injection U with a1 a2 a3 a4;subst a1 a2 a3 a4;rw[J] at Mg;have hr:=H.row A I .live sz xs F;have cQ:σ.h A≠none:=by rw[F];simp
   have Qm:∀b,yh G A b->¬bB b x.2->w'.heap[b]? =w.heap[b]? :=by
    intro b l xc;have cI:b<w.heap.size:=by
     rcases l with⟨O,rfl⟩|hF
     ·exact(H.own A cQ O).2.2
     ·exact H.tK F hF
    refine an4 b cI fun y hy w4=>?_;obtain⟨j,hj⟩:=IS hy;by_cases lN:j=i
    ·grind
    ·obtain⟨FL,lI,_,yj⟩:=QE j y hj;obtain⟨n2,Ie,m2,mC,ko,f1,f2,f3,f4,f5⟩:=yj.ra H w4;have bm:A≠n2:=by
      rintro rfl;exact lN (QX zS lI D f1 rfl)
     exact H.L9 bm F f2 f5 l f4
   refine⟨I,.live,sz,xs,_,F,g3,abS H F Fb T fM.kO (fun O=>Qm _ (.inl ⟨O,rfl⟩) fun l=>?_) (fun k' j' c hk bm b l=>Qm b (.inr ⟨k',j',c,hk,l⟩) fun PT=>?_) Mg g2⟩
   ·exact H.live A I sz xs F _ ⟨k,off,x.2,T,l⟩ A cQ O rfl
   ·exact hr.mode.2.2 _ _ _ _ _ _ b hk T bm l PT) (fun n hn=>⟨t3 n (by grind),aet (by grind)⟩)
 have HR2:HR B E w' (zK G t qs) σ2.h σ2.used []:=by rw[t2];exact xR
 have d6:zg B w' (zK G t qs) σ2.h (bJ.flatMap (·.2)):=by
  refine⟨p4.fm,fun pc bZ b l=>?_,?_⟩
  ·obtain⟨n1,n2⟩:=p4.new pc bZ b l;refine⟨⟨fun D=>?_,fun q u pY X=>?_,fun q I mo sz xs u dV=>?_⟩,n2,zar r.fr.size n1⟩
   ·have:=H.jG b D;omega
   ·obtain⟨k0,k1,k2,_⟩:=K.name q (xR.mM q u) u;have:=(H.own q k0 (k1.symm.trans pY)).2.2;omega
   ·have bk:=iy q b dV;have Dn:=xR.mM q (by rw[u];simp);obtain⟨k0,_⟩:=K.name q Dn (by rw[u];simp);cases hh:σ.h q with
    |none=>grind
    |some blk=>
     cases blk with
     |box cs=>
      have:q∉ns:=by
       intro hm;obtain⟨i,it,x,q',D,hxi,uu,Qe,z,fM,Mg⟩:=hSn q hm;have dT:=fM.at_;obtain⟨X6,md⟩:=it;cases X6 with
       |nil sz=>cases z
       |row A=>
        injection z with z;have z:A=q:=z;subst z;obtain⟨I,mo,sz,xs,F,_⟩:=dT
        grind
       |nest A k off=>
        injection z with z;have z:A=q:=z;subst z;obtain⟨I,sz,xs,F,_⟩:=dT
        grind
      grind
     |row V m' bf W=>have:=H.tK hh bk;omega
  ·rw[zaq];intro i j D hj lN b l;exact p4.qX i j _ _ b (by omega) (wt D) (wt hj) l
 rw[<-p1] at zP;obtain⟨G',b1,b2,b3,b4,b5,b6,b7⟩:=HR.nQ HR2 zP p3 d6;have yq:Fr B E w0 w':=by
  refine⟨M.os.trans r.fr.os,M.tape.trans r.fr.tape,M.output.trans r.fr.output,zar r.fr.size M.size,fun b l X=>?_,fun b l=>?_⟩
  ·refine(M.block b (zah l r.fr.size) fun hx=>?_).trans (r.fr.block b l X)
   grind
  ·exact(r.fr.mY b l).trans (M.mY b (zah l r.fr.size))
 have K2:bU w G σ.h (fun n=>σ.used n=true) w' G' jX.h:=bU.trans (fun n hn=>by grind) K b2;have r2:R B E w0 N jX a w' G':=r.step (b6.trans t1) (fun q u=>b7 q (by grind)) K2 b1 yq;refine⟨G',r2.put (RA.pL b3 p3 b4) ?_ hN⟩;intro q u;match ls,u with
 |[],u=>obtain⟨x,hx,_⟩:=u;simp at hx
 |[(true,cs)],u=>obtain⟨c,hc,u⟩:=u;exact b5 (true,cs) (by simp) c hc q u
 |[(false,[c])],u=>exact b5 (false,[c]) (by simp) c (by simp) q u
 |[(false,[])],u=>exact absurd u id
 |[(false,_::_::_)],u=>exact absurd u id
 |x::y::ls,u=>obtain⟨x',pC,c,hc,u⟩:=u;grind
theorem acE (r:R B E w0 N σ a w G) {T:bz} {m:Mode} {f:FuncId} {as:List aw} {vals vals':List Value} {σ1:St} (t:∀sig M,bz.uo T.DP f=some (sig,M)->∀ds b c,M ds=some (b,c)->∀pas,CK w sig ds vals pas->Calls P f vals'.toArray w (OP w sig pas b c)) (u:∀n,o.dst=some n->n<N) (W:(execOp a.eval o).run P w=.ok (.enter f vals'.toArray) w) (hl:vals.length=as.length) (A:∀(j:Nat) (x:aw) (v:Value),as[j]? =some x->vals[j]? =some v->RA w G σ.h x v) (hx:wT T m o.dst f as σ=some σ1):o.wp P a w (Nx B E w0 N σ1) Q:=by have H:=r.hr;unfold wT at hx;split at hx;rename_i sig M gh V O;split at hx;rename_i S;split at hx;rename_i ds its C;split at hx;rename_i b c l;split at hx;rename_i σ2 K;split at hx;rename_i ls jX z;injection hx with hx;subst hx;obtain⟨U,I⟩:=Yz O hl A;obtain⟨pas,q,y,J,k,L,D,F⟩:=H.qJ C U I;exact alZ r (fun g hm=>t sig M V ds b c l g hm) u W q y J (fun p d e=>absurd e (k p d)) (fun i p s d _ e=>absurd e (k p (AI d))) L D F S K z;cases hx;cases hx;cases hx;cases hx;cases hx;cases hx
theorem al9 (r:R B E w0 N σ a w G) {T:bz} (g:OS P T) {m:Mode} {f:FuncId} {as:List aw} {vals:List Value} {σ1:St} (c:∀n,o.dst=some n->n<N) (k:(execOp a.eval o).run P w=.ok (.enter f vals.toArray) w) (hl:vals.length=as.length) (d:∀(j:Nat) (x:aw) (v:Value),as[j]? =some x->vals[j]? =some v->RA w G σ.h x v) (hx:wT T m o.dst f as σ=some σ1):o.wp P a w (Nx B E w0 N σ1) Q:= acE r (fun sig M i ds b e h pas hm=>g f sig M i ds b e h w vals pas hm) c k hl d hx
theorem al0 (r:R B E w0 N σ a w G) {T:bz} (c:OS P T) {m:Mode} {f:FuncId} {xs:Array Operand} {ms:List MO} {ts:Array TypeId} {σ1:St} (d:∀n,o.dst=some n->n<N) (e:o.op=.call {callee:=.value (.func f),args:=xs,argTypes:=ts}) (b:cB P f=true) (hm:mn xs.toList ms=true) (hx:wT T m o.dst f (ms.map σ.ev) σ=some σ1):o.wp P a w (Nx B E w0 N σ1) Q:=by obtain⟨g,h⟩:=r.HV hm;refine al9 r c (vals:=xs.toList.map a.eval) d ?_ (by simpa using g) h hx;have i:(xs.toList.map a.eval).toArray=xs.map a.eval:=(by apply zac;simp);rw[i];simp[execOp,e,resolve,Deferred.ofValue,invoke,Act.eval,JU b]
def Cf (tmps:Array Value):ResultVar->Sem Value
 |.tmp t=>pure (tmps.getD t undef)
 |.cell a t=>do loadVar t (<-asAddr (tmps.getD a undef))
def Jz:List Value->Value
 |[u]=>u
 |l=>.tuple l.toArray
theorem JY (fn:Func) (a:Array Value) {us:List Value} (h:(fn.results.toList.mapM (Cf a)).run P w=.ok us w):
  (results fn a).run P w=.ok (Jz us) w:=by
 unfold results;generalize fn.results=A at h⊢;obtain⟨l,rfl⟩:∃l:List ResultVar,A=l.toArray:=⟨A.toList,by simp⟩;have b:((l.toArray.mapM (Cf a)).run P w)=.ok us.toArray w:=by
  rw[List.mapM_toArray];simp at h;simp[h]
 show Sem.run P (l.toArray.mapM (Cf a)>>=fun vs=>pure (if h:vs.size=1 then vs[0] else Value.tuple vs)) w=_
 generalize l.toArray.mapM (Cf a)=s at b⊢;match us with
 |[]=>simp[Jz,b]
 |[u]=>simp[Jz,b]
 |u::v::us=>simp[Jz,b]
theorem ajD {n k b off sz len:Nat} {x:C} (hx:dX h (.cF n k b off sz len)=some x):∃a xs,h n=some (.row a .live b xs)/\(xs[k]?).bind (·[off]?)=some x:=by simp only[Am.dX] at hx;split at hx;rename_i a rs xs hn;split at hx;rename_i c;subst c;exact⟨a,xs,hn,hx⟩;cases hx;cases hx
theorem HR.NJ (H:HR B E w G h used []) {n k off d:Nat} {c:Bool} {xs:List (List C)} (hn:h n=some (.row c .live d xs)) {pc:PC} (b:At (G.g n).px k off pc): (G.g n).nl=false/\Good w pc/\(xs[k]?).bind (·[off]?)=some pc.er:=by have hr:=H.row n c .live d xs hn;have f:(G.g n).nl=false:=(by cases hq:(G.g n).nl with|false=>rfl|true=>obtain⟨e,a,_⟩:=b;rw[(hr.nl hq).1] at a;simp at a);refine⟨f,(hr.f6 f).2.1.2.2 _ _ _ b,?_⟩;obtain⟨e,a,i⟩:=b;rw[hr.er];simp[a,i]
theorem ame (r:R B E w0 N σ a w G) {t e:TypeId} {i:TypeInfo} {x y:Operand} {mx my:MO} {n k f off sz s len:Nat} {q:Int} {ys:List (List C)} (D:o.op=.indexAddr t x y) (I:∀n,o.dst=some n->n<N) (V:cX x mx=true) (M:cX y my=true) (W:P.underlying t=some (.slice e)) (U:P.info? e=some i) (O:i.size=sz) (X:(σ.ev my).fW=some q) (S:0<=q) (h1:q<(ys.length:Int)) (hx:σ.ev mx=.one (.cF n k f off s len)) (L:dX σ.h (.cF n k f off s len)=some (.list sz ys)): o.wp P a w (Nx B E w0 N (σ.put o.dst (.one (.eE n k f off sz q.toNat)))) Q:=by obtain⟨j,g⟩:=r.ev V;obtain⟨kk,J⟩:=(r.ev M).1.int X;rw[hx] at j g;obtain⟨F,xs,hn,K⟩:=ajD L;obtain⟨pc,p1,A,p3⟩:=(j.il (by simp)).1 F xs hn;obtain⟨g1,l,d⟩:=r.hr.NJ hn p1;rw[K] at d;injection d with d;cases pc with|int k n=>simp[PC.er] at d|bool b=>simp[PC.er] at d|list s' ya c py=>rw[PC.fk] at d;injection d with H e2;subst H;have hl:ys.length=py.length:=(by rw[e2];simp);have z:q<(py.length:Int):=(by omega);have MU:PC.val (.list sz ya c py)=.slice ya py.length c:=rfl;generalize kc:PC.list sz ya c py=p at l;cases l with|int k n=>cases kc|bool b=>cases kc|nil _ _ _ _=>injection kc with _ _ _ e4;subst e4;simp at z;omega|cons _ b u _ _ q1 q2 q3 q4 q5 q6=>injection kc with T f2 f3 f4;subst T f2 f3 f4;refine mN r (v:=.pointer (some (ad b (u+q.toNat*sz)))) ?_ ?_ (fun m hm=>g m hm) I;simp only[execOp,D,<-A,PC.val,J];simp[JW W U O S z];refine RA.iB rfl fun cq aM cV=>?_;exact⟨_,b,u,py.length,c,p1,rfl,rfl,rfl⟩
theorem ach:∀{vs:List ao} {cs:List C} {us:List Value},qt vs=some cs->eN w G h vs us->∃pe:List PC,pe.map PC.er=cs/\pe.map PC.val=us/\pe.length=vs.length/\∀c∈pe,c.er.gI=true
 |[],cs,us,hx,hr=>by
  simp only[qt] at hx;injection hx with hx;subst hx;have:us=[]:=If hr.1;subst this;exact⟨[],rfl,rfl,rfl,by simp⟩
 |c::vs,cs,us,hx,hr=>by
  match us,hr with
  |[],hr=>exact absurd hr.1 (by simp)
  |u::us,hr=>
  cases c with
  |c x=>
   simp only[qt] at hx;split at hx
   ·rename_i m;cases hd:qt vs with
    |none=>rw[hd] at hx;cases hx
    |some l=>
     rw[hd] at hx;injection hx with hx;subst hx;obtain⟨pe,e,g,k,d⟩:=ach (us:=us) hd ⟨by have:=hr.1;simpa using this,fun j c u i n=>hr.2 (j+1) c u (by simpa using i) (by simpa using n)⟩;obtain⟨_,pc,b,f,_⟩:=hr.2 0 _ u rfl rfl;refine⟨pc::pe,by simp[e,b],by simp[g,f],by simp[k],fun c a=>?_⟩;rcases zai.1 a with rfl|a
     ·rw[b];exact m
     ·exact d c a
   ·cases hx
  |nil _=>simp[qt] at hx
  |ptr _ _ _ _=>simp[qt] at hx
  |ez _ _=>simp[qt] at hx
  |dE _ _ _ _ _ _=>simp[qt] at hx
  |sl _ _ _ _=>simp[qt] at hx
  |cF _ _ _ _ _ _=>simp[qt] at hx
  |eE _ _ _ _ _ _=>simp[qt] at hx
  |fn _ _=>simp[qt] at hx
  |cj=>simp[qt] at hx
theorem Good.kC {c:PC} (d:c.er.gI=true):Good w c:=by cases c with|int k n=>exact .int k n|bool b=>exact .bool b|list s a cap xs=>rw[PC.fk] at d;cases d
theorem amr (r:R B E w0 N σ a w G) {t:TypeId} {i:TypeInfo} {x y:Operand} {mx my:MO} {sz n k L off s j:Nat} {ag I:Bool} {xs T:List (List C)} {vs:List ao} (ho:o.op=.store t x y) (hd:o.dst=none) (iL:cX x mx=true) (iM:cX y my=true)
  (hi:P.info? t=some i) (dn:i.size=sz) (jh:0<sz) (hp:σ.ev mx=.one (.eE n k L off s j)) (hv:(σ.ev my).cells?=some (ag,vs)) (hl:vs.length=sz) (hn:σ.h n=some (.row I .live L xs)) (Fb:I=false)
  (hx:Gv xs k off s j vs=some T):o.wp P a w (Nx B E w0 N (σ.fQ n (.row I .live L T))) Q:=by
 have H:=r.hr;obtain⟨x1,_⟩:=r.ev iL;obtain⟨y1,y2⟩:=r.ev iM;rw[hp] at x1;obtain⟨pc,b,F,len,cap,p1,p2,p3,p4⟩:=(x1.il (by simp)).1 I xs hn;obtain⟨bq,g2,g3⟩:=H.NJ hn p1;have hr:=H.row n I .live L xs hn;unfold Gv at hx;rw[g3] at hx;have dK:=y1.cells hv;have Xr:(a.eval y).cells.toList.length=sz:=by rw[dK.1,hl]
 cases pc with
 |int kk nn=>simp[PC.er] at hx
 |bool bb=>simp[PC.er] at hx
 |list f ya c py=>
 rw[PC.fk] at hx;simp only at hx;split at hx
 ·rename_i eo;obtain⟨rfl,pB,D,lc⟩:=eo;cases Mq:qt vs with
  |none=>rw[Mq] at hx;cases hx
  |some cs=>
  rw[Mq] at hx;injection hx with hx;obtain⟨pe,e1,e2,e3,e4⟩:=ach Mq dK;have D:j<py.length:=by simpa using D
  have Dm:pe.length=f:=by omega
  have Fw:PC.val (.list f ya c py)=.slice ya py.length c:=rfl;rw[Fw] at p2;injection p2 with f1 X f3;subst f1 X f3;generalize kc:PC.list f (some (ad b F)) c py=p at g2;cases g2 with
  |int k n=>cases kc
  |bool b=>cases kc
  |nil _ _ _ _=>injection kc with _ _ _ e4;subst e4;simp at D
  |cons _ d Y0 _ _ q1 q2 q3 q4 q5 q6=>
  injection kc with f1 X f3 f4;injection X with X;obtain⟨rfl,rfl⟩:=pn X;subst f1 f3 f4;have d6:bB b (PC.list f (some (ad b F)) c py):=.here _ _ _ _ q1;have hF:bK b (G.g n).px:=⟨k,off,_,p1,d6⟩;obtain⟨axy,⟨cur,et,Z⟩,hBE⟩:=hr.mode.1 b hF;have jt:F+j*f+(a.eval y).cells.toList.length<=cur.size:=by
   have M:(py[j]'D).length=f:=q4 _ (zaH D);have hc:=q5 j (f - 1) ((py[j]'D)[f - 1]'(by omega)) ⟨_,wt D,wt _⟩;have:=EJ Z hc;omega
  have U:∀k' l q,At (py.set j pe) k' l q->q.er.gI=true:=by
   intro k' l q h;rcases OX D h with⟨rfl,z⟩|⟨_,z⟩
   ·exact e4 q (AI z)
   ·obtain⟨e,J,V⟩:=z;have h6:=AT.1 lc (e.map PC.er) (by simp only[BY];exact⟨e,AI J,rfl⟩);exact AT.1 h6 q.er (by simp only[BY];exact⟨q,AI V,rfl⟩)
  have bm:py.set j pe≠[]:=by
   intro h;have:=congrArg zaU h;simp at this;rw[this] at D;simp at D
  have kJ:∀e∈py.set j pe,e.length=f:=by
   intro e J;rcases zap J with J|rfl
   ·exact q4 e J
   ·exact Dm
  generalize qC:jq w b (F+j*f) (a.eval y).cells.toList cur=w';have A:vl w' .bi (PC.list f (some (ad b F)) c py) (PC.list f (some (ad b F)) c (py.set j pe)):=by
   refine⟨by simp[PC.val],.cons _ _ _ _ _ bm (by simpa using q2) q3 kJ (fun k' l q h=>?_) (fun k' l q h=>Good.kC (U k' l q h)),.list _ _ _ _ (fun k' l q h=>(Sep.kC (U k' l q h)).1) (fun d o' k' l q _ h=>(Sep.kC (U k' l q h)).2 d)
    (fun k1 j1 c1 k2 j2 c2 d h _ _ Y=>absurd Y ((Sep.kC (U k1 j1 c1 h)).2 d)),fun d O=>?_,?_,fun wE a0 EG m7 vf a1 vw xN z M=>?_⟩
   ·have Fg:l<f:=by
     obtain⟨e,J,V⟩:=h;have:=kJ e (AI J);have:=(By.1 V).1;omega
    rw[<-qC,Ek Z jt];rcases OX D h with⟨rfl,z⟩|⟨Fi,z⟩
    ·rw[ai (by omega),show F+k'*f+l - (F+k'*f)=l by omega,<-e2,AN,z];rfl
    ·rw[aq]
     ·exact q5 _ _ _ z
     ·rintro⟨u1,u2⟩;rcases Nat.lt_or_gt_of_ne Fi with cI|Ir
      ·have:(k'+1)*f<=j*f:=zab _ cI;rw[zaw] at this;omega
      ·have:(j+1)*f<=k'*f:=zab _ Ir;rw[zaw] at this;omega
   ·rw[bB.oZ] at O⊢;rcases O with⟨_,M⟩|⟨k',l,q,z,M⟩
    ·exact .inl ⟨q1,M⟩
    ·exact absurd M ((Sep.kC (U k' l q z)).2 d)
   ·rw[PC.fk];show gU _=true;rw[gU,AT];intro e J;obtain⟨e0,pu,rfl⟩:=BY.1 J;rw[io,AT];intro c0 fK;obtain⟨c1,re,rfl⟩:=BY.1 fK;obtain⟨k',cM⟩:=IS pu;obtain⟨l,V⟩:=IS re;exact U k' l c1 ⟨e0,cM,V⟩
   ·injection z with a1 a2 a3 a4;injection M with b1 b2 b3 b4;subst a1 a2 a3 a4 b1 b2 b3 b4;exact⟨rfl,rfl,rfl,by simp,fun h=>by cases h⟩
  have fq:∀d,d≠b->w'.heap[d]? =w.heap[d]? :=fun d O=>by rw[<-qC];exact El d O
  have ni:∀d,Cz w w' d:=fun d=>by
   by_cases Y:d=b
   ·subst Y;rw[<-qC];exact GN Z jt
   ·exact Cz.of_eq (fq d Y)
  have s8:w.heap.size<=w'.heap.size:=by rw[<-qC,wH];exact Pe _
  have cQ:σ.h n≠none:=by rw[hn];simp
  have WA:(G.g n).b≠b:=fun h=>H.live n I L xs hn b hF n cQ bq h.symm;obtain⟨W,yo⟩:∃W,xs[k]? =some W:=by
   cases h:xs[k]? with
   |none=>rw[h] at g3;cases g3
   |some W=>exact⟨W,rfl⟩
  have aor:T=xs.set k (W.set off (PC.list f (some (ad b F)) c (py.set j pe)).er):=by
   rw[<-hx,PC.fk,zaA,e1,zae,yo];rfl
  have Mp:=abS H hn Fb p1 rfl (fun _=>fq _ WA) (fun k' l q z M d O=>fq d (by rintro rfl;exact hr.mode.2.2 _ _ _ _ _ _ d z p1 M O d6)) A yo;obtain⟨xR,K,_⟩:=H.NI (G':=⟨G.Im,aN G.g n (DT (G.g n) (.nest n k off) (PC.list f (some (ad b F)) c (py.set j pe)))⟩) (h':=aN σ.h n (some (.row I .live L T))) (w':=w') (S:=fun m=>m=n) s8
   (fun d O dD=>fq d (by rintro rfl;exact dD n rfl (.inr hF))) (fun d _=>ni d) rfl
   (fun m hm=>by subst hm;exact⟨I,.live,L,xs,T,hn,dd _ _ _,by simp only[dd];rw[aor];exact Mp⟩)
   (fun m hm=>⟨dP _ _ _ _ hm,dP _ _ _ _ hm⟩)
  have r':=r.step (σ':=σ.fQ n (.row I .live L T)) rfl (fun _ h=>h) K xR (r.fr.one hBE (fun d _ bm=>fq d bm) s8 (ni b) (by rw[<-qC];rfl) (by rw[<-qC];rfl) (by rw[<-qC];rfl));have cG:=RN (P:=P) (w:=w) (t:=t) (i:=i) (b:=b) (off:=F+j*f) (v:=a.eval y) (cur:=cur) (e:=et) hi (by rw[dn,<-Xr];simp) Z (by simpa using jt) (fun u hu=>by
   obtain⟨j,D,WU⟩:=List.getElem_of_mem hu;have It:j<vs.length:=by omega
   exact(dK.2 j _ u (wt It) (by rw[wt D,WU])).1)
  refine S5 (w':=w') ?_ ⟨_,by rw[hd];exact r'⟩;rw[<-qC];simp only[execOp,ho,p4];simp[Instr.storeAt,Instr.sureAddr,cG]
 ·cases hx
theorem R.acY (r:R B E w0 N σ a w G) {n:Nat} {p:Bool} {m:Mode} {xs:List (List C)} (hn:σ.h n=some (.row p m 1 xs)) (hm:m≠ .bh) (hs:gU xs=true) (D:(G.g n).nl=false) {lo:Nat} {pe:List PC} (J:∀c∈pe,c.er.gI=true) (jt:lo+pe.length<=xs.length) {cur:Array Value} {et:TypeId} (O:w.heap[(G.g n).b]? =some (.cells cur et (0,0))) (rS:(G.g n).o+lo+pe.length<=cur.size): ∃G',R B E w0 N (σ.fQ n (.row p m 1 (eP xs lo (pe.map fun c=>[c.er])))) a (jq w (G.g n).b ((G.g n).o+lo) (pe.map PC.val) cur) G':=by have H:=r.hr;have hr:=H.row n p m 1 xs hn;have cQ:σ.h n≠none:=(by rw[hn];simp);obtain⟨xd,W,yx⟩:=H.own n cQ D;obtain⟨l1,l2,V⟩:=hr.f6 D;have tc:xs.length=(G.g n).px.length:=(by rw[hr.er,IT]);have z:=hs;rw[hr.er] at z;have X:=hr.er;generalize iO:(G.g n).px=px at*;have F:lo+(pe.map fun c=>[c]).length<=px.length:=(by rw[IT];omega);have I:(pe.map PC.val).length=pe.length:=IT _;have v:(G.g n).o+lo+(pe.map PC.val).length<=cur.size:=(by rw[I];exact rS);have L:∀k j c,At (eP px lo (pe.map fun c=>[c])) k j c->j=0/\((lo<=k/\k<lo+pe.length/\pe[k - lo]? =some c)\/(¬(lo<=k/\k<lo+pe.length)/\At px k j c)):=(by rintro k j c ⟨e,i,s⟩;rw[Ec F,IT] at i;by_cases y:lo<=k/\k<lo+pe.length;rw[ai y,AN] at i;(cases hp:pe[k - lo]? with|none=>rw[hp] at i;cases i|some c0=>rw[hp] at i;injection i with i;subst i;cases j with|zero=>simp at s;subst s;exact⟨rfl,.inl ⟨y.1,y.2,rfl⟩⟩|succ j=>simp at s);rw[aq y] at i;have kJ:=l2.1 e (AI i);have:=(By.1 s).1;exact⟨by omega,.inr ⟨y,e,i,s⟩⟩);have x:∀k j c,At (eP px lo (pe.map fun c=>[c])) k j c->c.er.gI=true:=(by intro k j c d;rcases(L k j c d).2 with⟨_,_,u⟩|⟨_,e,i,s⟩;exact J c (AI u);have U:=AT.1 z (e.map PC.er) (by simp only[BY];exact⟨e,AI i,rfl⟩);exact AT.1 U c.er (by simp only[BY];exact⟨c,AI s,rfl⟩));generalize qC:jq w (G.g n).b ((G.g n).o+lo) (pe.map PC.val) cur=w';have fq:∀f,f≠(G.g n).b->w'.heap[f]? =w.heap[f]? :=fun f M=>(by rw[<-qC];exact El f M);have Q:∀f,Cz w w' f:=fun f=>(by by_cases t:f=(G.g n).b;subst t;rw[<-qC];exact GN O v;exact Cz.of_eq (fq f t));have P:w.heap.size<=w'.heap.size:=(by rw[<-qC,wH];exact Pe _);have Y:KK w' (G.g n) {G.g n with px:=eP px lo (pe.map fun c=>[c])} p m 1 (eP xs lo (pe.map fun c=>[c.er])):=(by refine⟨hm,.inl (by rw[iO];exact ade z),rfl,rfl,rfl,rfl,rfl,?_,(fun h=>by rw[D] at h;cases h),fun _=>⟨⟨fun e i=>?_,fun k j c d=>?_,fun k j c d=>Good.kC (x k j c d)⟩,by show(eP px lo _).length<=_;rw[Sq F];exact V⟩, ⟨fun k j c d=>(Sep.kC (x k j c d)).1,fun k j c k' j' c' b d _ _ t=>absurd t ((Sep.kC (x k j c d)).2 b)⟩,fun b ⟨k,j,c,d,t⟩=>absurd t ((Sep.kC (x k j c d)).2 b),fun _ k j pc d hL=>?_,fun _ _ k c d=>t7.kC (x k _ c d)⟩;show eP xs lo _=(eP px lo _).map _;rw[Ki,<-X,zaj];rfl;obtain⟨k,d⟩:=IS i;have l:(eP px lo (pe.map fun c=>[c]))[k]? =some e:=d;rw[Ec F] at l;split at l;rw[AN] at l;(cases hp:pe[k - lo]? with|none=>rw[hp] at l;cases l|some c0=>rw[hp] at l;injection l with l;rw[<-l];rfl);exact l2.1 e (AI l);obtain⟨rfl,u⟩:=L k j c d;rw[<-qC,Ek O v];rcases u with⟨u,T,h3⟩|⟨u,T⟩;rw[ai (by rw[I];omega),show(G.g n).o+k*1+0 - ((G.g n).o+lo)=k - lo by omega,AN,h3];rfl;rw[aq (by rw[I];omega)];exact l2.2.1 _ _ _ T;rw[iO] at d;have:=adf z d;rw[hL] at this;cases this);obtain⟨xR,K,_⟩:=H.NI (G':=⟨G.Im,aN G.g n {G.g n with px:=eP px lo (pe.map fun c=>[c])}⟩) (h':=aN σ.h n (some (.row p m 1 (eP xs lo (pe.map fun c=>[c.er]))))) (w':=w') (S:=fun q=>q=n) P (fun f M Z=>fq f (by rintro rfl;exact Z n rfl (.inl ⟨D,rfl⟩))) (fun f _=>Q f) rfl (fun q A=>by subst A;exact⟨p,m,1,xs,_,hn,dd _ _ _,by simp only[dd];exact Y⟩) (fun q A=>⟨dP _ _ _ _ A,dP _ _ _ _ A⟩);exact⟨_,r.step (σ':=σ.fQ n (.row p m 1 (eP xs lo (pe.map fun c=>[c.er])))) rfl (fun _ h=>h) K xR (r.fr.one W (fun f _ bm=>fq f bm) P (Q _) (by rw[<-qC];rfl) (by rw[<-qC];rfl) (by rw[<-qC];rfl))⟩
theorem ags {α:Type}:∀{py:List (List α)},(∀e∈py,e.length=1)->py=py.flatten.map fun c=>[c]
 |[],_=>rfl
 |e::py,h=>by
  have b:=h e (by simp);match e,b with
  |[c],_=>
   rw[List.flatten_cons,zax,<-ags (py:=py) fun e a=>h e (by simp[a])];rfl
theorem ahR {n:Nat} {b:aV} (hn:σ.h n=some b):σ.fQ n b=σ:=by unfold St.fQ;rw[<-hn,OE]
theorem aiK {α:Type} (xs:List α) (lo:Nat) (h:lo<=xs.length):eP xs lo []=xs:=by simp[eP]
theorem aus {t t' ty e h:TypeId} {i:TypeInfo} (x:P.underlying t=some (.slice e)) (o:P.info? e=some i) (l:i.size=1) (g d f q:Nat) (cur:Array Value) (p:w.heap[g]? =some (.cells cur h (0,0))) (a:Addr) (m c:Nat) (b:List Value) (hl:b.length=zaD m f) (s:∀j u,b[j]? =some u->w.cell? (a.add j)=some u) (n:∀u∈b,u.oneCell'=true) (r:d+b.length<=cur.size): (Builtin.copy_ #[t,t'] ty #[.slice (some (ad g d)) f q,.slice (some a) m c]).run P w=.ok (.int .i64 (zaD m f:Nat)) (jq w g d b cur):=by have v:=run_firstCells_some (P:=P) w i.size (zaD m f) a m c b (by rw[hl,l,za7]) s;have k:=run_storeCells_at P g d h b 0 cur w p (by simpa using r) n;simp only[zbb] at k;simp[Builtin.copy_,run_underlying x,sizeOf,typeInfo,o,Builtin.lenOf,v,ad,k,jq,goInt]
theorem aut {t t' ty e:TypeId} {i:TypeInfo} (d:P.underlying t=some (.slice e)) (g:P.info? e=some i) (ya b:Option Addr) (a h m c:Nat) (f:zaD m a=0): (Builtin.copy_ #[t,t'] ty #[.slice ya a h,.slice b m c]).run P w=.ok (.int .i64 0) w:=by cases ya<;>cases b<;>simp[Builtin.copy_,run_underlying d,sizeOf,typeInfo,g,Builtin.lenOf,f,Builtin.firstCells,loadCells,loadCellsFrom,storeCells,goInt]
theorem al6 (r:R B E w0 N σ a w G) {t t' e:TypeId} {i:TypeInfo} {x y:Operand} {mx my:MO} {n lo len:Nat} {c:ao} {ys xs:List (List C)} {I:Bool} {m:Mode} (ho:o.op=.call {callee:=.builtin .copy,args:=#[x,y],argTypes:=#[t,t']}) (Z:∀n,o.dst=some n->n<N)
  (iL:cX x mx=true) (iM:cX y my=true) (ht:P.underlying t=some (.slice e)) (hi:P.info? e=some i) (dn:i.size=1) (hx:σ.ev mx=.one (.sl n 1 lo len)) (hy:σ.ev my=.one c) (hn:σ.h n=some (.row I m 1 xs))
  (l:dX σ.h c=some (.list 1 ys)) (hm:m≠ .bh) (hs:gU xs=true) (s6:gU ys=true) (jt:lo+len<=xs.length):
  o.wp P a w (Nx B E w0 N ((σ.fQ n (.row I m 1 (eP xs lo (ys.take len)))).put o.dst (.one (.c (.int .i64 (zaD ys.length len:Nat)))))) Q:=by
 have H:=r.hr;obtain⟨W,_⟩:=r.ev iL;obtain⟨y1,_⟩:=r.ev iM;rw[hx] at W;rw[hy] at y1;have kI:c≠ .cj:=by rintro rfl;simp[Am.dX] at l
 have kg:jD (G.g n) 1 lo len (a.eval x):=(W.il (by simp)).1 (by rw[hn];simp);obtain⟨pc,p1,p2,p3⟩:=H.dX l (y1.il kI).1;have hr:=H.row n I m 1 xs hn;cases pc with
 |int kk nn=>simp[PC.er] at p1
 |bool bb=>simp[PC.er] at p1
 |list s' ya T py=>
 rw[PC.fk] at p1;injection p1 with e1 e2;subst e1;have K:ys.length=py.length:=by rw[<-e2];simp
 have A:a.eval y=.slice ya py.length T:=p2.symm;by_cases D:zaD py.length len=0
 ·have Qm:σ.fQ n (.row I m 1 (eP xs lo (ys.take len)))=σ:=by
   have:ys.take len=[]:=by
    apply If;rw[zaI,K];have:min len py.length=zaD py.length len:=zbc _ _;omega
   rw[this,aiK _ _ (by omega)];exact ahR hn
  have O:∃KF,a.eval x=.slice KF len (match(G.g n).nl with|true=>(G.g n).cap|false=>(G.g n).cap - lo):=by
   rcases kg with⟨s,l,_,rfl⟩|⟨s,a',l,_,_⟩
   ·exact⟨_,by rw[l,s]⟩
   ·exact⟨_,by rw[l,s]⟩
  obtain⟨KF,O⟩:=O;rw[Qm,K,D];refine mN r (v:=.int .i64 0) ?_ (RA.of_int _ _) (fun q S=>absurd S uS) Z;simp only[execOp,ho];simp[resolve,invoke,builtin,O,A,aut ht hi _ _ _ _ _ _ D]
 ·have hlen:0<len:=by
   rcases zaB len with h|h
   ·subst h;exact absurd (Nat.min_zero _) D
   ·exact h
  have ij:0<py.length:=by
   rcases zaB py.length with h|h
   ·rw[h] at D;exact absurd (Nat.zero_min _) D
   ·exact h
  rcases kg with⟨_,_,_,rfl⟩|⟨s,a',nN,j9,ha⟩
  ·omega
  have rQ:=ha (.inl (by omega));subst rQ;obtain⟨⟨cur,et,U⟩,l2,l3⟩:=hr.f6 s;generalize kc:PC.list 1 ya T py=p at p3;cases p3 with
  |int k n=>cases kc
  |bool b=>cases kc
  |nil _ _ _ _=>injection kc with _ _ _ e4;subst e4;simp at ij
  |cons _ b V _ _ q1 q2 q3 q4 q5 q6=>
  injection kc with f1 f2 f3 f4;subst f1 f2 f3 f4;have F:=ags q4;generalize lM:py.flatten=pl at F;subst F;have rj:ys=pl.map fun c=>[c.er]:=by rw[<-e2,zaj];rfl
  have lR:∀c∈pl.take len,c.er.gI=true:=by
   intro c L;have h6:=AT.1 s6 [c.er] (by rw[rj];exact List.mem_map_of_mem (f:=fun c:PC=>[c.er]) (zaS L));exact AT.1 h6 c.er (by simp)
  have tc:xs.length=(G.g n).px.length:=by rw[hr.er,IT]
  have Xg:(pl.take len).length=zaD (pl.map fun c=>[c]).length len:=by rw[zaI,IT];exact zbc _ _
  have jU:(pl.take len).length<=len:=by rw[zaI];exact Nat.min_le_left _ _
  have X:(G.g n).o+lo+(pl.take len).length<=cur.size:=by
   have J:lo+len - 1<(G.g n).px.length:=by omega
   have h2:((G.g n).px[lo+len - 1]'J).length=1:=l2.1 _ (zaH J);have L:=l2.2.1 (lo+len - 1) 0 (((G.g n).px[lo+len - 1]'J)[0]'(by omega)) ⟨_,wt J,wt _⟩;have:=EJ U L;omega
  obtain⟨G',r'⟩:=r.acY hn hm hs s (lo:=lo) (pe:=pl.take len) lR (by omega) U X;have M:ys.take len=(pl.take len).map fun c=>[c.er]:=by rw[rj,List.map_take]
  rw[M,show zaD ys.length len=zaD (pl.map fun c=>[c]).length len by rw[K]];have Y:=aus (P:=P) (w:=w) (t':=t') (ty:=o.type) ht hi dn (G.g n).b ((G.g n).o+lo) len ((G.g n).cap - lo) cur U (ad b V) (pl.map fun c=>[c]).length T ((pl.take len).map PC.val) (by rw[IT,Xg]) (fun j u d=>by
   rw[AN] at d;cases hp:(pl.take len)[j]? with
   |none=>rw[hp] at d;cases d
   |some z=>
    rw[hp] at d;injection d with d;subst d;have du:pl[j]? =some z:=by
     rw[zaW] at hp;split at hp
     ·exact hp
     ·cases hp
    have:=q5 j 0 z ⟨[z],by rw[AN,du];rfl,rfl⟩;rw[vn];rw[show V+j=V+j*1+0 by omega];exact this) (fun u hu=>by obtain⟨z,_,rfl⟩:=BY.1 hu;exact PC.nW z) (by rw[IT];exact X)
  refine sE (w':=jq w (G.g n).b ((G.g n).o+lo) ((pl.take len).map PC.val) cur) (v:=.int .i64 (zaD (pl.map fun c=>[c]).length len:Nat)) ?_ ⟨G',r'.put (RA.of_int _ _) (fun q S=>absurd S uS) Z⟩;rw[za7] at nN;simp only[execOp,ho];simp only[IT] at Y⊢;simp[resolve,invoke,builtin,nN,A,IT,Y]
theorem axh (z0:Value) (n:Nat):(Builtin.zeroCells #[z0] n).toList=zak n z0:=by unfold Builtin.zeroCells;simp;rw[List.eq_replicate_iff];refine⟨by simp,fun b a=>?_⟩;obtain⟨i,_,rfl⟩:=BY.1 a;simp[Nat.mod_one]
theorem aur {t ty e:TypeId} (a:P.underlying t=some (.slice e)) (ya:Option Addr) (c:Nat): (Builtin.clear_ #[t] ty #[.slice ya 0 c]).run P w=.ok (.tuple #[]) w:=by cases ya<;>simp[Builtin.clear_,run_underlying a]
theorem auq {t ty e b:TypeId} {i:TypeInfo} {z z0:Value} (p:P.underlying t=some (.slice e)) (l:P.info? e=some i) (f:i.zero=some z) (q:z.cells=#[z0]) (j:z0.oneCell'=true) (g a n c:Nat) (hn:0<n) (cur:Array Value) (m:w.heap[g]? =some (.cells cur b (0,0))) (o:a+n<=cur.size):(Builtin.clear_ #[t] ty #[.slice (some (ad g a)) n c]).run P w=.ok (.tuple #[]) (jq w g a (zak n z0) cur):=by have d:=run_storeCells_at P g a b (zak n z0) 0 cur w m (by simpa using o) (fun v h=>by rw[(zaX.1 h).2];exact j);simp only[zbb] at d;obtain⟨n,rfl⟩:∃k,n=k+1:=⟨n - 1,by omega⟩;simp[Builtin.clear_,run_underlying p,typeInfo,zeroValue,l,f,q,axh,ad,d,jq]
theorem al3 (r:R B E w0 N σ a w G) {t e:TypeId} {i:TypeInfo} {z:Value} {x:Operand} {mx:MO} {n lo len:Nat} {d:C} {xs:List (List C)} {p:Bool} {m:Mode} (F:o.op=.call {callee:=.builtin .clear,args:=#[x],argTypes:=#[t]}) (I:∀n,o.dst=some n->n<N)
  (iL:cX x mx=true) (T:P.underlying t=some (.slice e)) (hi:P.info? e=some i) (V:i.zero=some z) (f:Bc z.cells.toList [d]=true) (Y:d.gI=true) (hx:σ.ev mx=.one (.sl n 1 lo len)) (hn:σ.h n=some (.row p m 1 xs))
  (hm:m≠ .bh) (hs:gU xs=true) (jt:lo+len<=xs.length):
  o.wp P a w (Nx B E w0 N ((σ.fQ n (.row p m 1 (eP xs lo (zak len [d])))).put o.dst (.cT []))) Q:=by
 have H:=r.hr;obtain⟨M,_⟩:=r.ev iL;rw[hx] at M;have K:jD (G.g n) 1 lo len (a.eval x):=(M.il (by simp)).1 (by rw[hn];simp);have hr:=H.row n p m 1 xs hn;obtain⟨W,b2,b3⟩:=Vf (w:=w) f;have O:∀w G' h',RA w G' h' (.cT []) (.tuple #[]):=fun w G' h'=>⟨[],rfl,rfl,by simp⟩;have BM:z.cells=#[(qQ d).val]:=by
  apply zac;rw[<-b2];rfl
 rcases zaB len with rfl|j
 ·have y:∃L c,a.eval x=.slice L 0 c:=by
   rcases K with⟨l,s,_,_⟩|⟨l,Z,s,_,_⟩
   ·exact⟨_,_,s⟩
   ·exact⟨_,_,s⟩
  obtain⟨L,c,y⟩:=y;rw[show eP xs lo (zak 0 [d])=xs from aiK _ _ (by omega),ahR hn]
  refine mN r (v:=.tuple #[]) ?_ (O _ _ _) (fun q A=>?_) I
  ·simp only[execOp,F];simp[resolve,invoke,builtin,y,aur T]
  ·obtain⟨x,hx,_⟩:=A;simp at hx
 ·rcases K with⟨_,_,_,rfl⟩|⟨l,Z,S,j9,ha⟩
  ·omega
  have X:=ha (.inl (by omega));subst X;obtain⟨⟨cur,et,u⟩,l2,l3⟩:=hr.f6 l;have tc:xs.length=(G.g n).px.length:=by rw[hr.er,IT]
  have U:(G.g n).o+lo+len<=cur.size:=by
   have k:lo+len - 1<(G.g n).px.length:=by omega
   have h2:((G.g n).px[lo+len - 1]'k).length=1:=l2.1 _ (zaH k);have f:=l2.2.1 (lo+len - 1) 0 (((G.g n).px[lo+len - 1]'k)[0]'(by omega)) ⟨_,wt k,wt _⟩;have:=EJ u f;omega
  have J:(qQ d).er=d:=by simpa using W
  obtain⟨G',D⟩:=r.acY hn hm hs l (lo:=lo) (pe:=zak len (qQ d)) (fun c f=>by rw[(zaX.1 f).2,J];exact Y) (by rw[zaN];exact jt) u (by rw[zaN];exact U);rw[zaY,zaY,J] at D;have cG:=auq (P:=P) (w:=w) (ty:=o.type) T hi V BM (PC.nW _) (G.g n).b ((G.g n).o+lo) len ((G.g n).cap - lo) j cur u U;refine sE (w':=jq w (G.g n).b ((G.g n).o+lo) (zak len (qQ d).val) cur) (v:=.tuple #[]) ?_ ⟨G',D.put (O _ _ _) (fun q A=>by obtain⟨x,hx,_⟩:=A;simp at hx) I⟩;rw[za7] at S;simp only[execOp,F];simp[resolve,invoke,builtin,S,cG]
end
structure Uz (w:World) (ds:List Dv) (vals:List Value) (pas:List PA):Prop where
 l1:vals.length=ds.length
 l2:pas.length=ds.length
 at_:∀(i:Nat) (d:Dv) (v:Value) (p:PA),ds[i]? =some d->vals[i]? =some v->pas[i]? =some p->Ep w d v p
 mY:∀p∈pas,p.k=.ptr->fB w p.b/\∀q∈pas,∀pc∈q.ps,¬bB p.b pc
 one:∀(i j:Nat) (p q:PA),pas[i]? =some p->pas[j]? =some q->p.k=.ptr->q.k=.ptr->i=j
def Hj (w:World) (pas:List PA) (b:Nat):Prop:=w.heap.size<=b\/∃q∈pas,∃pc∈q.ps,bB b pc
def exV (pas:List PA):Ex:=⟨fun b=>∃p∈pas,p.k=.ptr/\b=p.b,fun _=>none,fun _ _ h=>(by cases h),fun _=>True⟩
def Ci (p:PA):Value:=
 match p.k with
 |.one=>match p.ps with
  |[pc]=>pc.val
  |_=>.agg (p.ps.map PC.val).toArray
 |.agg=>.agg (p.ps.map PC.val).toArray
 |.ptr=>.pointer (some (ad p.b p.o))
def D1:List PA->Value
 |[p]=>Ci p
 |l=>.tuple (l.map Ci).toArray
def OO (w:World) (b o:Nat) (ps:List PC):Prop:=∀(j:Nat) (c:PC),ps[j]? =some c->w.cell? (ad b (o+j))=some c.val
structure Uy (ow:Bool) (w w':World) (pas bJ:List PA) (qs:List PC):Prop where
 one:∀p∈bJ,p.k=.one->p.ps.length=1
 ptr:∀p∈bJ,p.k=.ptr->bJ.length=1/\w.heap.size<=p.b/\fB w' p.b/\OO w' p.b p.o p.ps/\(∀pc∈p.ps,¬bB p.b pc)/\∀pc∈qs,¬bB p.b pc
 fm:∀p∈bJ,∀pc∈p.ps,Good w' pc/\∀b,bB b pc->Hj w pas b
 fr:Fr w.heap.size (exV pas) w w'
 out:∀pc∈qs,Good w' pc/\∀b,bB b pc->Hj w pas b
 at_:∀p∈pas,p.k=.ptr->OO w' p.b p.o qs
 own:ow=true->(∀p∈bJ,p.k≠ .ptr)/\xW w' w.heap.size (bJ.flatMap (·.ps))/\∀pc∈bJ.flatMap (·.ps),∀b,m8 b pc->∀q∈qs,¬bB b q
def oH (P:Program) (f:FuncId) (ow:Bool) (M:List Dv->Option (List Dv×List C)):Prop:=
 ∀ds rs out,M ds=some (rs,out)->∀(w:World) (vals:List Value) (pas:List PA),Uz w ds vals pas->Calls P f vals.toArray w fun e w'=>
  ∃(bJ:List PA) (qs:List PC),bJ.map (fun p=>(p.k,p.ps.map PC.er))=rs/\e=.returned (D1 bJ)/\qs.map PC.er=out/\Uy ow w w' pas bJ qs
def Hh (P:Program) (T:bz):Prop:=∀f ow M,bz.rO T.vs f=some (ow,M)->oH P (zC f) ow M
section
variable {B N:Nat} {E:Ex} {w0 w w':World} {G G':Gh} {h h':Nat->Option aV} {used used':Nat->Bool} {tk:List PC} {P:Program} {o:Oper} {a:Act} {σ σ':St} {Q:Exit->Act->World->Prop}
theorem HR.uE {c:ao} {x:C} {v:Value} (hx:Am.uE c=some x) (d:RC w G h c v):∃pc:PC,pc.er=x/\pc.val=v/\Good w pc/\∀b,bB b pc->G.Im b:=by cases c with|c y=>simp only[Am.uE] at hx;injection hx with hx;subst hx;exact d|nil sz=>simp only[Am.uE] at hx;split at hx;rename_i f;injection hx with hx;subst hx;have g:v=.slice none 0 0:=d;subst g;refine⟨.list sz none 0 [],by simp[PC.fk],rfl,.nil _ _ _ f,fun b a=>?_⟩;rw[bB.oZ] at a;rcases a with⟨a,_⟩|⟨k,j,c,⟨e,i,_⟩,_⟩;simp_all;simp at i;cases hx|_=>simp[Am.uE] at hx
theorem HR.oQ:∀{cs:List ao} {xs:List C} {vs:List Value},Am.oQ cs=some xs->eN w G h cs vs->∃ps:List PC,ps.map PC.er=xs/\ps.map PC.val=vs/\∀pc∈ps,Good w pc/\∀b,bB b pc->G.Im b
 |[],xs,vs,hx,hc=>by
  simp only[Am.oQ] at hx;injection hx with hx;subst hx;have:vs=[]:=If (by simpa using hc.1)
  simp_all
 |c::cs,xs,vs,hx,hc=>by
  simp only[Am.oQ] at hx;split at hx
  ·rename_i x aM a f;injection hx with hx;subst hx;match vs,hc.1 with
   |v::vs,hl=>
    obtain⟨pc,k,d,a3,a4⟩:=HR.uE a (hc.2 0 c v rfl rfl).2;obtain⟨ps,e,i,b3⟩:=HR.oQ (vs:=vs) f ⟨by simpa using hl,fun j c u g l=>hc.2 (j+1) c u g l⟩;refine⟨pc::ps,by simp[k,e],by simp[d,i],fun q hq=>?_⟩
    grind
  ·cases hx
theorem HR.U0 (H:HR B E w G h used tk) {n:Nat} {cs:List ao} (hn:h n=some (.box cs)):∃vs:List Value,eN w G h cs vs/\∀(j:Nat) (v:Value),vs[j]? =some v->w.cell? (ad (G.g n).b ((G.g n).o+j))=some v:=by obtain⟨_,_,a⟩:=H.box n cs hn;have d:∀j:Fin cs.length,∃v,w.cell? (ad (G.g n).b ((G.g n).o+j.1))=some v/\v.oneCell'=true/\RC w G h cs[j.1] v:=fun j=>a j.1 _ (wt j.2);refine⟨List.ofFn fun j=>Classical.choose (d j),⟨by simp,fun j c u hc hu=>?_⟩,fun j v hv=>?_⟩;grind;grind
theorem awK {σ1:St} {c:ao} {x:C} {o:Bool} (hx:σ.ir c=some (x,o,σ1)) {n:Nat} {cs:List ao} (hn:σ.h n=some (.box cs)):σ1.h n=some (.box cs):=by cases c with|c y=>simp_all [St.ir]|nil sz=>simp_all [St.ir]|sl q sz lo len=>simp only[St.ir] at hx;split at hx;rename_i gr m rs xs b;split at hx;injection hx with hx;injection hx with _ hx;injection hx with _ hx;subst hx;have a:n≠q:=(by rintro rfl;rw[b] at hn;cases hn);show aN σ.h q none n=_;rw[dP _ _ _ _ a];exact hn;cases hx;cases hx|_=>simp[St.ir] at hx
theorem ajj:∀{l:List ao} {σ σ1:St} {xs:List C} {o:Bool},σ.jm l=some (xs,o,σ1)->∀{n:Nat} {cs:List ao},σ.h n=some (.box cs)->σ1.h n=some (.box cs)
 |[],σ,σ1,xs,o,hx,n,cs,hn=>by simp_all [St.jm]
 |c::l,σ,σ2,xs,o,hx,n,cs,hn=>by simp only[St.jm] at hx;split at hx;rename_i x o1 σ1 a;split at hx;rename_i aM o2 aaW b;injection hx with hx;injection hx with _ hx;injection hx with _ hx;subst hx;exact ajj b (awK a hn);cases hx;cases hx
theorem US:∀{as:List aw} {σ σ1:St} {ds:List Dv} {ns:List Nat},σ.lE as=some (ds,ns,σ1)->∀{n:Nat} {cs:List ao},σ.h n=some (.box cs)->σ1.h n=some (.box cs)
 |[],σ,σ1,ds,ns,hx,n,cs,hn=>by simp_all [St.lE]
 |v::as,σ,σ2,ds,ns,hx,n,cs,hn=>by simp only[St.lE] at hx;split at hx;split at hx;rename_i e;injection hx with hx;injection hx with _ hx;injection hx with _ hx;subst hx;exact US e hn;cases hx;split at hx;split at hx;rename_i a;split at hx;rename_i b;injection hx with hx;injection hx with _ hx;injection hx with _ hx;subst hx;exact US b (ajj a hn);cases hx;cases hx;cases hx
def qW (pas:List PA):List PA:=pas.filter fun p=>decide (p.k=.ptr)
def aaY (G:Gh) (h:Nat->Option aV) (p:PA) (n:Nat):Prop:=∃cs,h n=some (.box cs)/\p.b=(G.g n).b/\p.o=(G.g n).o/\p.ps.length=cs.length
theorem UW {v:aw} {n:Nat} {xs:List C} (hx:vt h v=some (n,xs)):∃sz cs,v=.one (.ptr n 0 sz 0)/\h n=some (.box cs)/\oQ cs=some xs:=by unfold vt at hx;grind
theorem HR.lE:∀{as:List aw} {vals:List Value} {σ σ1:St} {G:Gh} {ds:List Dv} {ns:List Nat},HR B E w G σ.h σ.used []->σ.lE as=some (ds,ns,σ1)->vals.length=as.length->
  (∀(j:Nat) (x:aw) (v:Value),as[j]? =some x->vals[j]? =some v->RA w G σ.h x v)->(∀x∈as,∀m,x.ref m->σ.used m=true)->
  ∃(Im':Nat->Prop) (pas:List PA),pas.length=ds.length/\vals.length=ds.length/\(∀(i:Nat) (d:Dv) (v:Value) (p:PA),ds[i]? =some d->vals[i]? =some v->pas[i]? =some p->Ep w d v p)/\
   (∀p∈pas,∀pc∈p.ps,∀b,bB b pc->Im' b)/\(qW pas).length=ns.length/\(∀(i:Nat) (p:PA) (n:Nat),(qW pas)[i]? =some p->ns[i]? =some n->aaY G σ1.h p n)/\
   HR B E w ⟨Im',G.g⟩ σ1.h σ1.used []/\bU w G σ.h (fun n=>σ.used n=true) w ⟨Im',G.g⟩ σ1.h/\σ1.env=σ.env/\σ1.used=σ.used
 |[],vals,σ,σ1,G,ds,ns,H,hx,hl,hc,hr=>by
  simp only[St.lE] at hx;injection hx with hx;injection hx with f a;injection a with a h3;subst f a h3;exact⟨G.Im,[],rfl,by omega,by simp,by simp,rfl,by simp[qW],H,bU.refl _ _ _ _,rfl,rfl⟩
 |x::as,vals,σ,σ2,G,ds,ns,H,hx,hl,hc,hr=>by
  match vals,hl with
  |v::vals,hl=>
   simp only[St.lE] at hx;split at hx
   ·rename_i n xs hp;split at hx
    ·rename_i Bj qK σ1 e;injection hx with hx;injection hx with f a;injection a with a h3;subst f a h3;obtain⟨sz,cs,rfl,hn,X⟩:=UW hp;obtain⟨nl,un,_⟩:=H.box n cs hn;obtain⟨vs,T,v2⟩:=H.U0 hn;obtain⟨ps,p1,p2,U⟩:=HR.oQ X T;have Y:v=.pointer (some (ad (G.g n).b (G.g n).o)):=by
      have q:=hc 0 _ v rfl rfl;rcases q with q|q
      ·cases q
      ·have f:RC w G σ.h (.ptr n 0 sz 0) v:=(q.2 0 _ v rfl rfl).2;simpa using(f (by rw[hn];simp)).2
     obtain⟨Im',pas,A,C,b3,J,D,Q,M,b8,I,F⟩:=HR.lE (as:=as) (vals:=vals) H e (by simpa using hl) (fun j x v f a=>hc (j+1) x v f a) (fun x hx=>hr x (by simp[hx]));have hk:(Am.K.ptr=Am.K.ptr)=True:=by simp
     refine⟨Im',⟨.ptr,ps,(G.g n).b,(G.g n).o⟩::pas,by simp[A],by simp[C],fun i d u p hd t k=>?_,fun p k pc r b s=>?_,by simp[qW];exact D,fun i p m z hm=>?_,M,b8,I,F⟩
     ·cases i with
      |zero=>
       simp at hd t k;subst hd t k;refine⟨by rw[p1],fun pc r=>(U pc r).1,Y,un.lt,fun j c hj=>v2 j _ ?_⟩
       grind
      |succ i=>grind
     ·cases k with
      |head=>exact b8.im b ((U pc r).2 b s)
      |tail _ k=>exact J p k pc r b s
     ·cases i with
      |zero=>
       simp[qW] at z hm;subst z hm;refine⟨cs,US e hn,rfl,rfl,?_⟩;have f:ps.length=vs.length:=by rw[<-p2];simp
       exact f.trans T.1
      |succ i=>grind [qW]
    ·cases hx
   ·split at hx
    ·rename_i ag cs y;split at hx
     ·rename_i xs o σ1 e1;split at hx
      ·rename_i Bj qK aaW e2;injection hx with hx;injection hx with f a;injection a with a h3;subst f a h3;have q:=hc 0 x v rfl rfl;have rV:∃vs:List Value,(if ag=true then v=.agg vs.toArray else vs=[v])/\eN w G σ.h cs vs:=by
        cases x with
        |one c=>
         have WE:ag=false/\cs=[c]:=by cases c<;>simp[aw.cells?] at y<;>simp_all
         obtain⟨rfl,rfl⟩:=WE;rcases q with q|q
         ·simp_all [aw.cells?]
         ·exact⟨[v],rfl,q⟩
        |agg cs'=>
         simp[aw.cells?] at y;obtain⟨rfl,rfl⟩:=y;obtain⟨vs,e,f⟩:∃vs:List Value,v=.agg vs.toArray/\eN w G σ.h cs' vs:=q
         simp_all
        |cT xs=>simp[aw.cells?] at y
       obtain⟨vs,pB,dK⟩:=rV;obtain⟨S,N,R,a2,L,W,O,a7,V,a9⟩:=H.jm e1 dK (fun c' Z m hm=>hr x (by simp) m (aw.CY y Z hm));have P:HR B E w ⟨S,G.g⟩ σ1.h σ.used []:=by
        cases o with
        |true=>exact HR.Ef (tk:=[]) (l:=N) (by simpa using W)
        |false=>simpa using W
       rw[<-V] at P;obtain⟨K6,pas,A,C,b3,J,D,Q,M,b8,I,F⟩:=HR.lE (as:=as) (vals:=vals) (G:=⟨S,G.g⟩) P e2 (by simpa using hl)
        (fun j x v f a=>(hc (j+1) x v f a).d9 O (fun m hm=>hr x (by grind) m hm)) (fun x' pC m hm=>by grind)
       refine⟨K6,⟨if ag=true then .agg else .one,N,0,0⟩::pas,by simp[A],by simp[C],fun i d u p hd t k=>?_,fun p k pc r b s=>?_,?_,fun i p m z hm=>?_,M,
        bU.trans (fun n hn=>by simp_all) O b8,I.trans a7,F.trans V⟩
       ·cases i with
        |zero=>
         simp at hd t k;subst hd t k;cases ag with
         |true=>exact⟨by simp[R],fun pc r=>(L pc r).1,by simp_all⟩
         |false=>exact⟨by simp[R],fun pc r=>(L pc r).1,by simp_all⟩
        |succ i=>grind
       ·cases k with
        |head=>exact b8.im b ((L pc r).2 b s)
        |tail _ k=>exact J p k pc r b s
       ·cases ag<;>simp[qW]<;>exact D
       ·refine Q i p m ?_ hm;cases ag<;>simpa[qW] using z
      ·cases hx
     ·cases hx
    ·cases hx
theorem HR.akL (H:HR B E w G h used []) {n:Nat} {cs cs':List ao} (hn:h n=some (.box cs)) (F:w.heap.size<=w'.heap.size) (U:∀b,b<w.heap.size->b≠(G.g n).b->w'.heap[b]? =w.heap[b]?) (L:∀b,b<w.heap.size->Cz w w' b) {S:Nat->Prop} (s:∀b,S b->w.heap.size<=b/\b<w'.heap.size/\B<=b) {ps:List PC} (iN:cs'=ps.map fun pc=>ao.c pc.er) (Z:∀(j:Nat) (c:PC),ps[j]? =some c->w'.cell? (ad (G.g n).b ((G.g n).o+j))=some c.val) (iE:∀pc∈ps,Good w' pc/\∀b,bB b pc->G.Im b\/S b): HR B E w' ⟨fun b=>G.Im b\/S b,G.g⟩ (aN h n (some (.box cs'))) used []/\bU w G h (fun n=>used n=true) w' ⟨fun b=>G.Im b\/S b,G.g⟩ (aN h n (some (.box cs'))):=by subst iN;have r:h n≠none:=(by rw[hn];simp);obtain⟨f,V,kY⟩:=H.box n cs hn;obtain⟨P,O,u⟩:=H.own n r f;have R:=H.mM n r;have kp:∀D:List ao,bU w G h (fun n=>used n=true) w' G (aN h n (some (.box D))):=(by intro D;refine⟨fun _ h=>h,fun b a x=>kv (U b (H.jG b a) (fun Q=>P (Q▸a))) x,fun m hm d=>?_,fun m e sz xs hm d=>?_⟩;by_cases i:m=n;simp_all;rw[dP _ _ _ _ i] at d;exact⟨d,rfl,rfl,rfl,rfl,rfl⟩;by_cases i:m=n;simp_all [dd];rw[dP _ _ _ _ i] at d;exact⟨⟨e,xs,d⟩,fun k j pc I K=>⟨pc,I,rfl,K⟩⟩);have hG:(⟨G.Im,aN G.g n (G.g n)⟩:Gh)=G:=(by rw[OE]);have T:HR B E w' ⟨G.Im,aN G.g n (G.g n)⟩ (aN h n (some (.box []))) used []:=(by refine H.put (fun b a bm=>U b a (bm f)) F (fun b a y=>(L b a).mY y) (fun _ h=>h) R (fun _=>⟨P,O,zah u F⟩) (fun _ m hm d M=>(H.inj m n d r hm M f)) (fun _ m e sz xs hm d b a=>H.live m e sz xs d b a n r f) ?_ (by simp_all) ?_ (fun e m sz xs a=>by cases a) (fun e sz xs a=>by cases a) (fun e m sz xs a=>by cases a) ?_;simp_all;exact⟨f,(L _ u).mY V,fun j c l=>by simp at l⟩;intro _ _ b a;obtain⟨m,e,W,sz,xs,hm,d,C⟩:=a;exact H.vI r f d C);rw[hG] at T;have IC:∀m,aN h n (some (aV.box [])) m≠none->h m≠none:=fun m hm=>(by by_cases i:m=n;simp_all;rwa[dP _ _ _ _ i] at hm);have p:HR B E w' ⟨fun b=>G.Im b\/S b,G.g⟩ (aN h n (some (.box []))) used []:=T.z7 S (fun b a=>(s b a).2.1) (fun b a q v hl Q=>by have:=(s b a).1;have:=(H.own q (IC q v) hl).2.2;omega) (fun b a q e sz xs v hF=>by by_cases kx:q=n;simp_all [dd];rw[dP _ _ _ _ kx] at v;have:=(s b a).1;have:=H.tK v hF;omega) (fun b a=>.inl (s b a).2.2);have A:aN h n (some (aV.box [])) n=some (.box []):=dd _ _ _;have t:aN h n (some (aV.box [])) n≠none:=(by rw[A];simp);have J:aN (aN h n (some (aV.box []))) n (some (.box (ps.map fun pc=>ao.c pc.er)))=aN h n (some (.box (ps.map fun pc=>ao.c pc.er))):=(by funext m;simp only[mZ];split<;>rfl);have z:(⟨fun b=>G.Im b\/S b,aN G.g n (G.g n)⟩:Gh)=⟨fun b=>G.Im b\/S b,G.g⟩:=(by rw[OE]);have Y:bU w' ⟨fun b=>G.Im b\/S b,G.g⟩ (aN h n (some (aV.box []))) (fun n=>used n=true) w' ⟨fun b=>G.Im b\/S b,G.g⟩ (aN h n (some (.box (ps.map fun pc=>ao.c pc.er)))):=(by refine⟨fun _ h=>h,fun _ _ _=>rfl,fun m hm d=>?_,fun m e sz xs hm d=>?_⟩;refine⟨?_,rfl,rfl,rfl,rfl,rfl⟩;by_cases i:m=n;simp_all;rw[dP _ _ _ _ i] at d⊢;exact d;by_cases i:m=n;simp_all [dd];rw[dP _ _ _ _ i] at d;exact⟨⟨e,xs,by rw[dP _ _ _ _ i];exact d⟩,fun k j pc I K=>⟨pc,I,rfl,K⟩⟩);have N:HR B E w' ⟨fun b=>G.Im b\/S b,aN G.g n (G.g n)⟩ (aN (aN h n (some (aV.box []))) n (some (.box (ps.map fun pc=>ao.c pc.er)))) used []:=(by refine p.put (w':=w') (fun _ _ _=>rfl) (Pe _) (fun _ _ y=>y) (fun _ h=>h) R (fun _=>⟨fun hi=>(p.own n t f).1 hi,O,zah u F⟩) (fun _ m hm d M=>p.inj m n d t hm M f) (fun _ m e sz xs hm d b a=>p.live m e sz xs d b a n t f) ?_ (by simp_all) ?_ (fun e m sz xs a=>by cases a) (fun e sz xs a=>by cases a) (fun e m sz xs a=>by cases a) ?_;intro D c m a hc hm;injection a with a;subst a;obtain⟨pc,_,rfl⟩:=BY.1 hc;exact absurd hm id;refine⟨f,(L _ u).mY V,fun j c l=>?_⟩;rw[AN] at l;(cases hp:ps[j]? with|none=>simp_all|some pc=>rw[hp] at l;simp at l;subst l;obtain⟨g1,g2⟩:=iE pc (AI hp);exact⟨pc.val,Z j pc hp,PC.nW pc,pc,rfl,rfl,g1,g2⟩);intro _ _ b a;obtain⟨m,e,W,sz,xs,hm,d,C⟩:=a;exact p.vI t f d C);rw[z,J] at N;have X:bU w G h (fun n=>used n=true) w' ⟨fun b=>G.Im b\/S b,G.g⟩ (aN h n (some (aV.box []))):=bU.trans (fun _ h=>h) (kp []) (bU.z7 S _);exact⟨N,bU.trans (fun _ h=>h) X Y⟩
theorem Zi {σ1:St} {ns:List Nat} {out:List C} (hx:σ.uW ns out=some σ1):(ns=[]/\out=[]/\σ1=σ)\/∃n cs,ns=[n]/\σ.h n=some (.box cs)/\σ1=σ.fQ n (.box (out.map .c)):=by unfold St.uW at hx;grind
theorem acb {pas:List PA} {p:PA} (b:p∈pas) (a:p.k=.ptr):p∈qW pas:=za8.2 ⟨b,by simp[a]⟩
theorem acd:∀{pas:List PA},(qW pas).length<=1->∀{i j:Nat} {p q:PA},pas[i]? =some p->pas[j]? =some q->p.k=.ptr->q.k=.ptr->i=j
 |[],_,i,_,_,_,hi,_,_,_=>by simp at hi
 |x::pas,hl,i,j,p,q,hi,hj,hp,hq=>by by_cases hx:x.k=.ptr;have hz:(qW pas).length=0:=(by simp[qW,hx] at hl⊢;exact hl);have dD:∀y∈pas,y.k≠ .ptr:=fun y hy a=>(by have:=acb hy a;simp_all);grind;have b:(qW pas).length<=1:=(by simpa[qW,hx] using hl);cases i with|zero=>simp_all|succ i=>cases j with|zero=>simp_all|succ j=>exact congrArg (·+1) (acd b (by simpa using hi) (by simpa using hj) hp hq)
theorem Vw:∀{a:List PA} {d:List (Bool×List ao)},qu (a.map fun p=>(p.k,p.ps.map PC.er))=some d->d=a.map (fun p=>(decide (p.k=.agg),p.ps.map fun pc=>ao.c pc.er))/\∀p∈a,p.k≠ .ptr
 |[],d,h=>by simp_all [zbd,qu]
 |⟨k,ps,b,o⟩::a,d,h=>by cases k with|ptr=>simp[qu] at h|one=>simp only[zaF,qu] at h;split at h;rename_i g e;injection h with h;obtain⟨f,i⟩:=Vw e;refine⟨by rw[<-h,f,zaj];rfl,fun p j=>?_⟩;grind;cases h|agg=>simp only[zaF,qu] at h;split at h;rename_i g e;injection h with h;obtain⟨f,i⟩:=Vw e;refine⟨by rw[<-h,f,zaj];rfl,fun p j=>?_⟩;grind;cases h
theorem atG {d:List (Bool×List ao)} {a:List PA} (b:d.length=a.length)
  (g:∀(j:Nat) (x:Bool×List ao) (p:PA),d[j]? =some x->a[j]? =some p->RV w G h x.1 x.2 (Ci p)):RA w G h (pL d) (D1 a):=by
 match d,a,b with
 |[],[],_=>exact⟨[],rfl,rfl,by simp⟩
 |[(ag,cs)],[p],_=>
  have e:=g 0 (ag,cs) p rfl rfl;cases ag with
  |true=>exact e
  |false=>
   have f:eN w G h cs [Ci p]:=e;match cs,f.1 with
   |[c],_=>exact .inr e
 |x::y::d,p::q::a,hl=>
  refine⟨(p::q::a).map Ci,rfl,by simp_all,fun j x' u hj hu=>?_⟩
  grind
theorem at0 {b:List (Bool×List ao)} {q:Nat} {u:Prop} (h:∀x∈b,∀c∈x.2,c.ref q->u) (a:(pL b).ref q):u:=by
 match b,a with
 |[],a=>obtain⟨x,hx,_⟩:=a;simp at hx
 |[(true,cs)],a=>obtain⟨c,d,a⟩:=a;exact h (true,cs) (by simp) c d a
 |[(false,[c])],a=>exact h (false,[c]) (by simp) c (by simp) a
 |[(false,[])],a=>exact absurd a id
 |[(false,_::_::_)],a=>exact absurd a id
 |x::y::b,a=>obtain⟨x',pC,c,d,a⟩:=a;grind
theorem ahq {a:List PA} (c:∀p∈a,p.k≠ .ptr):D1 a=yW (a.map fun p=>(p.k,p.ps)):=by
 have one:∀p∈a,Ci p=uZ (p.k,p.ps):=fun p h=>by
  have:=c p h;obtain⟨k,ps,b,o⟩:=p;cases k with
  |ptr=>simp_all
  |agg=>rfl
  |one=>match ps with
   |[]=>rfl
   |[_]=>rfl
   |_::_::_=>rfl
 match a,one with
 |[],_=>rfl
 |[p],one=>exact one p (by simp)
 |p::q::l,one=>
  show Value.tuple ((p::q::l).map Ci).toArray=Value.tuple (((p::q::l).map fun p=>(p.k,p.ps)).map uZ).toArray
  simp_all
theorem al8 (r:R B E w0 N σ a w G) {T:bz} (hT:Hh P T) {f:FuncId} {as:List aw} {vals:List Value} {σ1:St} (hN:∀n,o.dst=some n->n<N)
  (cG:(execOp a.eval o).run P w=.ok (.enter (zC f) vals.toArray) w) (hl:vals.length=as.length)
  (vO:∀(j:Nat) (x:aw) (v:Value),as[j]? =some x->vals[j]? =some v->RA w G σ.h x v) (Xm:∀x∈as,∀m,x.ref m->σ.used m=true)
  (hx:vD T o.dst f as σ=some σ1):o.wp P a w (Nx B E w0 N σ1) Q:=by
 unfold vD at hx;split at hx
 ·rename_i ds ns K ow M hba hM;split at hx
  ·rename_i rs out zM;split at hx
   ·rename_i z ri;obtain⟨Im',pas,b1,b2,b3,b4,b5,b6,H,b8,b9,pR⟩:=r.hr.lE hba hl vO Xm;have hns:ns.length<=1:=by
     rcases Zi ri with⟨F,_⟩|⟨n,cs,F,_⟩<;>rw[F]<;>simp
    have rS:∀p∈pas,p.k=.ptr->∃n,ns=[n]/\aaY G K.h p n:=by
     intro p l A;obtain⟨i,y⟩:=IS (acb l A);have cI:i<ns.length:=by rw[<-b5];exact(By.1 y).1
     have hn:ns[i]? =some ns[i]:=wt cI;have h0:i=0:=by omega
     subst h0;refine⟨_,?_,b6 0 p _ y hn⟩;match ns,cI,hns with
     |[n],_,_=>rfl
    have va:Uz w ds vals pas:=by
     refine⟨b2,b1,b3,fun p l A=>?_,fun i j p q y t l s=>acd (by omega) y t l s⟩;obtain⟨n,_,cs,hn,e1,e2,e3⟩:=rS p l A;obtain⟨nl,un,_⟩:=H.box n cs hn;have ho:=H.own n (by rw[hn];simp) nl;rw[e1];exact⟨un,fun q s pc D d=>ho.1 (b4 q s pc D _ d)⟩
    unfold Oper.wp;rw[cG];refine(hT f ow M hM ds rs out zM w vals pas va).mono fun e w' ⟨I,qs,p1,p2,p3,p4⟩=>?_;subst p2;have axD:∀b,Hj w pas b->Im' b\/w.heap.size<=b:=fun b d=>by
     rcases d with d|⟨q,s,pc,D,d⟩
     ·exact .inr d
     grind
    let S:Nat->Prop:=fun b=>w.heap.size<=b/\((ow=false/\∃p∈I,∃pc∈p.ps,bB b pc)\/∃pc∈qs,bB b pc);have hB:=r.fr.size;have hS:∀b,S b->w.heap.size<=b/\b<w'.heap.size/\B<=b:=fun b ⟨F,J⟩=>by
     refine⟨F,?_,zar hB F⟩;rcases J with⟨_,p,l,pc,D,d⟩|⟨pc,D,d⟩
     ·exact(p4.fm p l pc D).1.lt d
     ·exact(p4.out pc D).1.lt d
    have W:ow=false->∀p∈I,∀pc∈p.ps,Good w' pc/\∀b,bB b pc->Im' b\/S b:=fun ho p l pc D=>by
     obtain⟨V,Y⟩:=p4.fm p l pc D
     grind
    have anx:∀pc∈qs,Good w' pc/\∀b,bB b pc->Im' b\/S b:=fun pc D=>by
     obtain⟨V,Y⟩:=p4.out pc D
     grind
    have awA:HR B E w' ⟨fun b=>Im' b\/S b,G.g⟩ z.h z.used []/\bU w ⟨Im',G.g⟩ K.h (fun n=>K.used n=true) w' ⟨fun b=>Im' b\/S b,G.g⟩ z.h/\z.env=K.env/\z.used=K.used/\Fr B E w0 w':=by
     rcases Zi ri with⟨F,J,h3⟩|⟨n,cs,F,J,h4⟩
     ·subst h3;have dD:∀p∈pas,p.k≠ .ptr:=fun p l A=>by
       simp_all
      have U:∀b,b<w.heap.size->w'.heap[b]? =w.heap[b]? :=fun b d=>p4.fr.block b d (fun⟨p,l,A,_⟩=>dD p l A);have Hg:=H.grow U p4.fr.size;refine⟨Hg.z7 S (fun b d=>(hS b d).2.1) (fun b d q s hl he=>by have:=(hS b d).1;have:=(H.own q s hl).2.2;omega)
       (fun b d q L sz xs s hF=>by have:=(hS b d).1;have:=H.tK s hF;omega) (fun b d=>.inl (hS b d).2.2),
       bU.trans (fun _ h=>h) (bU.world (fun b d=>U b (H.jG b d)) _) (bU.z7 S _),rfl,rfl,r.fr.grow U p4.fr.size p4.fr.os p4.fr.tape p4.fr.output⟩
     ·subst h4;obtain⟨p,l,A⟩:∃p∈pas,p.k=.ptr:=by
       have hlen:(qW pas).length=1:=by rw[b5,F];rfl
       match X:qW pas,hlen with
       |[p],_=>
        have hm:p∈qW pas:=by rw[X];simp
        have:=za8.1 hm
        grind
      obtain⟨n',e0,cs',cV,e1,e2,e3⟩:=rS p l A;rw[F] at e0;injection e0 with e0;subst e0;have aeN:∀q∈pas,q.k=.ptr->q=p:=fun q s Z=>by
       obtain⟨i,y⟩:=IS s;obtain⟨j,t⟩:=IS l;have:=va.one i j q p y t Z A
       grind
      have ho:=H.own n (by rw[J];simp) (H.box n cs J).1;have U:∀b,b<w.heap.size->b≠(G.g n).b->w'.heap[b]? =w.heap[b]? :=fun b d bm=>p4.fr.block b d (fun⟨q,s,Z,hbq⟩=>by
       grind)
      have ni:∀b,b<w.heap.size->Cz w w' b:=fun b d=>p4.fr.mY b d;obtain⟨Hb,Kb⟩:=H.akL (cs':=out.map .c) J p4.fr.size U ni hS (ps:=qs) (by rw[<-p3,zaj];rfl) (fun j c t=>by
       have:=p4.at_ p l A j c t
       grind) anx
      exact⟨Hb,Kb,rfl,rfl,r.fr.one ho.2.1 U p4.fr.size (ni _ ho.2.2) p4.fr.os p4.fr.tape p4.fr.output⟩
    obtain⟨O,K2,v1,v2,yq⟩:=awA;have K0:bU w G σ.h (fun n=>σ.used n=true) w' ⟨fun b=>Im' b\/S b,G.g⟩ z.h:=bU.trans (fun n hn=>by simp_all) b8 K2;have r2:R B E w0 N z a w' ⟨fun b=>Im' b\/S b,G.g⟩:=r.step (v1.trans b9) (fun m hm=>by simp_all) K0 O yq;have C:∀b0,w.heap.size<=b0->(∀m,z.h m≠none->(G.g m).nl=false->(G.g m).b≠b0)/\∀m L mo sz xs,z.h m=some (.row L mo sz xs)->¬bK b0 (G.g m).px:=by
     intro b0 q1;refine⟨fun m hm hl he=>?_,fun m L mo sz xs hm hF=>?_⟩
     ·have hd:=O.mM m hm;obtain⟨k0,k1,k2,_⟩:=K2.name m (by simp_all) hm;have gu:(G.g m).nl=false:=hl;have:=(H.own m k0 gu).2.2
      grind
     ·have hd:=O.mM m (by rw[hm];simp);have f9:∃cq nA bf aM,K.h m=some (.row cq nA bf aM):=by
       rcases Zi ri with⟨F,J,h3⟩|⟨n,cs,F,J,h4⟩
       ·simp_all
       ·subst h4;by_cases di:m=n
        ·subst di;have:aN K.h m (some (aV.box (out.map ao.c))) m=_:=hm;grind [dd]
        ·have:aN K.h n (some (aV.box (out.map ao.c))) m=_:=hm;rw[dP _ _ _ _ di] at this
         grind
      obtain⟨cq,nA,bf,aM,dk⟩:=f9;have hF':bK b0 (G.g m).px:=hF;have:=H.tK dk hF';omega
    have pt:ow=false->∀{ls:List (Bool×List ao)},qu rs=some ls->σ1=z.put o.dst (pL ls)->(match(Ending.returned (D1 I)) with|.returned v=>Nx B E w0 N σ1 (a.put o.dst v) w'|_=>True):=by
     intro hof ls yt hs;subst hs;rw[<-p1] at yt;obtain⟨rfl,MH⟩:=Vw yt;refine⟨_,r2.put (atG (by simp) (fun j x p t l=>?_)) (fun q s=>?_) hN⟩
     ·rw[AN,l] at t;simp at t;subst t;have hm:=AI l;have dK:eN w' ⟨fun b=>Im' b\/S b,G.g⟩ z.h (p.ps.map fun pc=>ao.c pc.er) (p.ps.map PC.val):=by
       refine⟨by simp,fun j c u t hu=>?_⟩;rw[AN] at t hu;cases rh:p.ps[j]? with
       |none=>grind
       |some pc=>
        rw[rh] at t hu;simp at t hu;subst t hu;obtain⟨V,Y⟩:=W hof p hm pc (AI rh);exact⟨PC.nW pc,pc,rfl,rfl,V,Y⟩
      have Fh:=p4.one p hm;have MF:=MH p hm;obtain⟨k,ps,b,o'⟩:=p;cases k with
      |ptr=>grind
      |agg=>exact⟨ps.map PC.val,rfl,dK⟩
      |one=>
       have J:=Fh rfl;match ps,J with
       |[p],_=>exact dK
     ·exfalso;refine atZ (fun x hx c X s=>?_) s;obtain⟨p,_,rfl⟩:=BY.1 hx;obtain⟨pc,_,rfl⟩:=BY.1 X;exact s
    cases ow with
    |true=>
     simp only[vv] at hx;split at hx
     ·rename_i ls jX zP;injection hx with hx;subst hx;obtain⟨on1,YZ,on3⟩:=p4.own rfl;have lM:(I.map fun p=>(p.k,p.ps)).flatMap (·.2)=I.flatMap (·.ps):=by rw[zaJ]
      have d6:zg B w' ⟨fun b=>Im' b\/S b,G.g⟩ z.h ((I.map fun p=>(p.k,p.ps)).flatMap (·.2)):=by
       rw[lM];refine⟨YZ.fm,fun pc D b d=>?_,?_⟩
       ·obtain⟨n1,n2⟩:=YZ.new pc D b d;refine⟨⟨fun y=>?_,(C b n1).1,(C b n1).2⟩,n2,zar hB n1⟩;rcases y with y|⟨_,⟨y,_⟩|⟨q,s,y⟩⟩
        ·have:=H.jG _ y;omega
        ·cases y
        grind
       ·rw[zaq];intro i j y t lN b d;exact YZ.qX i j _ _ b (by omega) (wt y) (wt t) d
      have A:∀p∈I.map (fun p=>(p.k,p.ps)),p.1≠ .ptr/\(p.1=.one->p.2.length=1):=by
       intro p l;obtain⟨q,s,rfl⟩:=BY.1 l;exact⟨on1 q s,p4.one q s⟩
      have he:rs=(I.map fun p=>(p.k,p.ps)).map fun p=>(p.1,p.2.map PC.er):=by rw[<-p1,zaj];rfl
      rw[he] at zP;obtain⟨G',c1,c2,c3,c4,c5,c6,c7⟩:=HR.nQ O zP A d6;have r3:R B E w0 N jX a w' G':=r2.step c6 c7 c2 c1 yq;rw[ahq on1];exact⟨G',r3.put (RA.pL c3 A c4) (fun q s=>at0 (fun x hx c X hr=>c5 x hx c X q hr) s) hN⟩
     ·cases hx
    |false=>
    simp only[vv] at hx;unfold vu at hx;split at hx
    ·rename_i cs;split at hx
     ·rename_i q s;split at hx
      ·rename_i τ3 P0;injection hx with hx;subst hx;obtain⟨u1,rfl⟩:=oR P0;obtain⟨p,rfl⟩:∃p,I=[p]:=by
        have F:I.length=1:=by have:=congrArg zaU p1;simpa using this
        exact zaL.1 F
       simp at p1;obtain⟨A,iS⟩:=p1;obtain⟨_,q1,q2,q3,q4,q5⟩:=p4.ptr p (by simp) A;subst iS;have aeG:sG ⟨fun b=>Im' b\/S b,G.g⟩ z.h p.b:=by
        refine⟨fun y=>?_,(C p.b q1).1,(C p.b q1).2⟩;rcases y with y|⟨_,y⟩
        ·have:=H.jG _ y;omega
        ·rcases y with⟨_,p',du,pc,D,d⟩|⟨pc,D,d⟩
         ·grind
         grind
       have Hn:HR B E w' ⟨fun b=>Im' b\/S b,aN G.g q ⟨false,p.b,p.o,0,[],none⟩⟩ (aN z.h q (some (.box ((p.ps.map PC.er).map .c)))) (aN z.used q true) []:=by
        refine O.insert (w':=w') u1 (fun _ _=>rfl) (Pe _) (fun _=>⟨aeG,.inl (zar hB q1),q2.lt⟩) (fun cs' c m d eH hm=>?_) ⟨rfl,q2,fun j c t=>?_⟩ (fun L m sz xs d=>by cases d) (fun L sz xs d=>by cases d) (fun L m sz xs d=>by cases d)
        ·injection d with d;subst d;obtain⟨x,_,rfl⟩:=BY.1 eH;exact absurd hm id
        ·rw[AN,AN] at t;cases l:p.ps[j]? with
         |none=>grind
         |some pc=>
          rw[l] at t;simp at t;subst t;obtain⟨V,Y⟩:=W rfl p (by simp) pc (AI l);exact⟨pc.val,q3 j pc l,PC.nW pc,pc,rfl,rfl,V,Y⟩
       have r3:=r2.step (σ':={z with h:=aN z.h q (some (.box ((p.ps.map PC.er).map .c))),used:=aN z.used q true}) rfl (fun m hm=>sD q m hm) (bU.insert O u1 (fun _ _=>rfl)) Hn yq
       have hv:D1 [p]=.pointer (some (ad p.b p.o)):=by
        obtain⟨k,ps,b,o'⟩:=p;simp only at A;subst A;rfl
       rw[hv];exact⟨_,r3.put (RA.iB (c:=.ptr q 0 0 0) rfl (show aN z.h q _ q≠none->(aN G.g q _ q).nl=false/\_=_ from fun _=>by simp[dd])) (fun m hm=>by have dk:m=q:=hm;subst dk;exact dd _ _ _) hN⟩
      ·cases hx
     ·cases hx
    grind
   ·cases hx
  ·cases hx
 ·cases hx
theorem acD (r:R B E w0 N σ a w G) {T:bz} (l:Hh P T) {f:FuncId} {xs:Array Operand} {ms:List MO} {ts:Array TypeId} {σ1:St} (g:∀n,o.dst=some n->n<N) (d:o.op=.call {callee:=.value (.func (zC f)),args:=xs,argTypes:=ts}) (k:cB P (zC f)=true) (hm:mn xs.toList ms=true) (hx:vD T o.dst f (ms.map σ.ev) σ=some σ1):o.wp P a w (Nx B E w0 N σ1) Q:=by obtain⟨e,j⟩:=r.HV hm;have h:∀x∈ms.map σ.ev,∀m,x.ref m->σ.used m=true:=(by have c:∀{xs:List Operand} {ms:List MO},mn xs ms=true->∀x∈ms.map σ.ev,∀m,x.ref m->σ.used m=true:=(by intro xs ms;induction ms generalizing xs with|nil=>simp_all|cons m0 ms ih=>intro b x hx m hm;cases xs with|nil=>simp[mn] at b|cons y ys=>simp only[mn,co] at b;simp only[zaF,zai] at hx;rcases hx with rfl|hx;exact(r.ev b.1).2 m hm;grind);exact c hm);refine al8 r l (vals:=xs.toList.map a.eval) g ?_ (by simpa using e) j h hx;have i:(xs.toList.map a.eval).toArray=xs.map a.eval:=(by apply zac;simp);rw[i];simp[execOp,d,resolve,Deferred.ofValue,invoke,Act.eval,JU k]
end
def Hk (P:Program) (f:FuncId) (sig:df) (M:List Dv->Option (Nat×Nat)):Prop:=
 ∀ds lo len,M ds=some (lo,len)->∀(w:World) (vals:List Value) (pas:List PA),CK w sig ds vals pas->Calls P f vals.toArray w fun e w'=>
  ∃(m:Mode) (sz cap:Nat) (a:Option Addr) (xs:List (List PC)) (v:Value),fx sig (pas.map (·.ps))=[(m,.list sz a cap xs)]/\e=.returned v/\xs≠[]/\
   (∃(b o:Nat) (a':Option Addr),a=some (ad b o)/\v=.slice a' len (cap - lo)/\lo+len<=cap/\((lo<cap\/lo=0)->a'=some (ad b (o+lo*sz))))/\
   Fr w.heap.size (C8 [(m,.list sz a cap xs)]) w w'/\∃q:PC,q.er=(PC.list sz a cap xs).er/\vl w' m (.list sz a cap xs) q
def ED (P:Program) (f:FuncId) (i:Nat) (M:List Dv->Option (List Dv×List C)):Prop:=
 ∀(lo len:Nat) (ds rs:List Dv) (fy:List C) (ys:List (List C)),M (dI lo::dI (lo+len)::ds)=some (rs,fy)->ds[i]? =some (.one,[.list 1 ys])->∀(w:World) (vals:List Value) (pas:List PA),CK w (pi i) ds vals pas->
  ∀(b o cap n:Nat) (a':Option Addr),vals[i]? =some (.slice (some (ad b o)) n cap)->0<n->lo+len<=n->((lo<cap\/lo=0)->a'=some (ad b (o+lo*1)))->
  Calls P f (vals.set i (.slice a' len (cap - lo))).toArray w (OP w (pi i) pas rs fy)
def CN (P:Program) (T:bz):Prop:=(∀f sig M,bz.ye T.ws f=some (sig,M)->Hk P f sig M)/\∀f i M,bz.yf T.xs f=some (i,M)->ED P f i M
section
variable {B N:Nat} {E:Ex} {w0 w w':World} {G G':Gh} {h h':Nat->Option aV} {used used':Nat->Bool} {tk:List PC} {P:Program} {o:Oper} {a:Act} {σ σ':St} {Q:Exit->Act->World->Prop}
theorem amb (r:R B E w0 N σ a w G) {T:bz} (hT:CN P T) {f:FuncId} {as:List aw} {vals:List Value} {v0:aw} (hN:∀n,o.dst=some n->n<N)
  (cG:(execOp a.eval o).run P w=.ok (.enter f vals.toArray) w) (hl:vals.length=as.length)
  (vO:∀(j:Nat) (x:aw) (v:Value),as[j]? =some x->vals[j]? =some v->RA w G σ.h x v)
  (hx:vE T f as σ.h=some v0):o.wp P a w (Nx B E w0 N (σ.put o.dst v0)) Q:=by
 have H:=r.hr;unfold vE at hx;split at hx
 ·rename_i sig M gh hM WD;split at hx
  ·rename_i n0 axz;split at hx
   ·rename_i ds n A hv;split at hx
    ·rename_i J;subst J;split at hx
     ·rename_i gr F sz xs lo len l zM;injection hx with hx;subst hx;obtain⟨vS,Wu⟩:=Yz WD hl vO;obtain⟨pas,q1,q2,q3,q4,Y,q6,q7⟩:=H.qJ hv vS Wu;have zS:([((e7.row n:e7),A)].filterMap (·.1.g0)).Nodup:=by simp[e7.g0]
      generalize zO:fx sig (pas.map (·.ps))=fl at Y;obtain⟨x,rfl⟩:∃x,fl=[x]:=by
       match fl,Y.len with
       |[x],_=>exact⟨x,rfl⟩
      obtain⟨P8,w9⟩:=Y.at_ 0 _ x rfl rfl;have dT:=w9.at_;obtain⟨cq,nA,bf,aM,O,e2,e3,I,e5⟩:=dT;rw[l] at O;injection O with O;injection O with a1 a2 a3 a4;subst a1 a2 a3 a4;have Z:σ.h n≠none:=by rw[l];simp
      have hr:=H.row n gr F sz xs l;have pw:∀b,bB b x.2->yh G n b/\((∀b,¬bK b (G.g n).px)\/F=.live):=by
       intro b c;obtain⟨X,cq,m',bf,aM,V,z,f3,U,u⟩:=w9.ra H c;have:X=n:=by injection V with V;exact V.symm
       subst this;rw[l] at z;injection z with z;injection z with _ z _ _;subst z;exact⟨U,u⟩
      have YE:CK w sig ds vals pas:=by
       refine⟨q2,q1,q3,fun y hy=>?_,?_,fun pc bZ y hy b c bk=>?_,fun p W d=>absurd d (q4 p W),fun i p s W _ d=>absurd d (q4 p (AI W))⟩
       ·rw[zO,zas] at hy;subst hy;exact w9.ok
       ·rw[zO];simp
       ·rw[zO,zas] at hy;subst hy;obtain⟨U,u⟩:=pw b bk;rcases q7 pc bZ b c with hi|⟨X,cq,m',bf,aM,cV,yd,Bl⟩
        ·rcases U with⟨t,rfl⟩|D
         ·exact(H.own n Z t).1 hi
         ·rcases u with u|rfl
          ·exact u b D
          ·exact(hr.mode.1 b D).1 hi
        ·have bm:X≠n:=fun e=>cV (by rw[e];simp);exact H.L9 bm yd l u Bl U
      unfold Oper.wp;rw[cG];refine(hT.1 f sig M hM ds lo len zM w vals pas YE).mono fun e w' ⟨m1,vf,vw,Hm,xN,v,p1,p2,p3,⟨lb,lo1,la,l1,l2,l3,l4⟩,p4,q,p5,L⟩=>?_;subst p2;rw[zO] at p1;injection p1 with p1 _;subst p1;dsimp only at I;have yo:∀b,C8 [(m1,PC.list vf Hm vw xN)] b->(B<=b\/E b):=by
       rintro b ⟨y,hy,c⟩;rw[zas] at hy;subst hy;rcases(pw b c).1 with⟨t,rfl⟩|D
       ·exact(H.own n Z t).2.1
       ·have ju:=hr.mode;cases F with
        |bh=>grind
        |bi=>exact(ju.1 b D).2.2
        |live=>exact(ju.1 b D).2.2
      have C:(zK G [((e7.row n:e7),A)] [q]).g n=DT (G.g n) (.row n) q:=aes zS (i:=0) (it:=(.row n,A)) rfl rfl rfl;have Qh:q.er=.list sz xs:=by rw[p5,I];exact ahr hr
      have p6':=L;rw[I] at L;obtain⟨xR,K,_⟩:=H.NI (G':=zK G [((e7.row n:e7),A)] [q]) (h':=σ.h) (w':=w') (S:=fun k=>k=n) p4.size (fun b c dD=>p4.block b c (by
        rintro⟨y,hy,w4⟩;rw[zas] at hy;subst hy;exact dD n rfl (pw b w4).1)) (fun b c=>p4.mY b c) rfl (fun k d=>by
        subst d;exact⟨gr,F,sz,xs,xs,l,l,by rw[C];exact abT H l e2 e3 e5.1 e5.2 L Qh⟩)
       (fun k d=>⟨rfl,aet (by simp[e7.g0];exact d)⟩)
      have yq:Fr B E w0 w':=by
       refine⟨p4.os.trans r.fr.os,p4.tape.trans r.fr.tape,p4.output.trans r.fr.output,zar r.fr.size p4.size,fun b c J=>?_,fun b c=>?_⟩
       ·refine(p4.block b (zah c r.fr.size) fun hx=>?_).trans (r.fr.block b c J);rcases yo b hx with h1|h1
        ·omega
        ·exact J h1
       ·exact(r.fr.mY b c).trans (p4.mY b (zah c r.fr.size))
      have r2:R B E w0 N σ a w' (zK G [((e7.row n:e7),A)] [q]):=r.step rfl (fun _ h=>h) K xR yq;refine⟨_,r2.put (RA.iB ?_ ?_) (fun k d=>?_) hN⟩
      ·rw[l2];rfl
      ·show σ.h n≠none->jD _ sz lo len v;intro _;have hq:PC.list vf Hm vw xN=tL sz (G.g n):=I;unfold tL at hq;injection hq with g1 m g3 g4;subst g1 g3 g4;have t:(G.g n).nl=false:=by
        cases h0:(G.g n).nl with
        |false=>rfl
        |true=>exact absurd (hr.nl h0).1 p3
       rw[t] at m;have m:Hm=some (ad (G.g n).b (G.g n).o):=m;rw[l1] at m;injection m with m;obtain⟨rfl,rfl⟩:=pn m;obtain⟨mC,ad2,zr,px2,rfl⟩:=PC.Yr L.val rfl;rw[C];exact .inr ⟨t,la,l2,l3,l4⟩
      ·have cM:k=n:=d;subst cM;exact r.hr.mM k Z
     ·cases hx
    ·cases hx
   ·cases hx
  ·cases hx
 ·cases hx
theorem al1 (r:R B E w0 N σ a w G) {T:bz} (d:CN P T) {f:FuncId} {xs:Array Operand} {ms:List MO} {ts:Array TypeId} {b:aw} (e:∀n,o.dst=some n->n<N) (g:o.op=.call {callee:=.value (.func f),args:=xs,argTypes:=ts}) (c:cB P f=true) (hm:mn xs.toList ms=true) (hx:vE T f (ms.map σ.ev) σ.h=some b):o.wp P a w (Nx B E w0 N (σ.put o.dst b)) Q:=by obtain⟨e1,i⟩:=r.HV hm;refine amb r d (vals:=xs.toList.map a.eval) e ?_ (by grind) i hx;have j:(xs.toList.map a.eval).toArray=xs.map a.eval:=(by apply zac;simp);rw[j];simp[execOp,g,resolve,Deferred.ofValue,invoke,Act.eval,JU c]
theorem axc {h:Nat->Option aV} {x:aw} {n lo len N:Nat} (hx:KE h x=some (n,lo,len,N)):x=.one (.sl n 1 lo len)/\∃a m xs,h n=some (.row a m 1 xs)/\N=xs.length/\lo<N/\lo+len<=N:=by unfold KE at hx;grind
theorem amc (r:R B E w0 N σ a w G) {T:bz} (Y:CN P T) {m:Mode} {f:FuncId} {as:List aw} {vals:List Value} {σ1:St} (C:∀n,o.dst=some n->n<N) (cG:(execOp a.eval o).run P w=.ok (.enter f vals.toArray) w) (hl:vals.length=as.length) (I:∀(j:Nat) (x:aw) (v:Value),as[j]? =some x->vals[j]? =some v->RA w G σ.h x v) (hx:Bi T m o.dst f as σ=some σ1):o.wp P a w (Nx B E w0 N σ1) Q:=by have H:=r.hr;unfold Bi at hx;split at hx;rename_i i M hM;split at hx;rename_i x s;split at hx;rename_i n lo len L U;obtain⟨rfl,A,z,xs,hn,rfl,n8,X⟩:=axc U;have W:i<as.length:=(By.1 s).1;have k:i<vals.length:=(by omega);have J:vals[i]? =some vals[i]:=wt k;have S:=I i _ _ s J;have D:jD (G.g n) 1 lo len vals[i]:=(S.il (by simp)).1 (by rw[hn];simp);have hr:=H.row n A z 1 xs hn;have iO:(G.g n).px.length=xs.length:=(by rw[hr.er];simp);have t:(G.g n).nl=false:=(by cases q:(G.g n).nl with|false=>rfl|true=>have:=(hr.nl q).1;grind);obtain⟨l1,l2,l3⟩:=hr.f6 t;rcases D with⟨q,_⟩|⟨_,ya,l,j9,O⟩;simp_all;refine acE r (as:=as.set i (.one (.sl n 1 0 xs.length))) (vals:=vals.set i (.slice (some (ad (G.g n).b (G.g n).o)) xs.length (G.g n).cap)) (vals':=vals) (fun sig K p ds u V h pas hm=>?_) C cG (by simp[hl]) (fun j x v c d=>?_) hx;have Z:(pi i,xM i lo (lo+len) M)=(sig,K):=(by simp only[bz.uo,if_true] at p;injection p);injection Z with y q2;subst y q2;unfold xM at h;split at h;rename_i ys F;have:=Y.2 f i M hM lo len ds u V ys h F w _ pas hm (G.g n).b (G.g n).o (G.g n).cap xs.length ya (by simp_all) (by omega) X O;have e:(vals.set i (.slice (some (ad (G.g n).b (G.g n).o)) xs.length (G.g n).cap)).set i (.slice ya len ((G.g n).cap - lo))=vals:=(by rw[List.set_set,<-l];exact List.set_getElem_self k);simp_all;cases h;by_cases Iu:j=i;subst Iu;rw[zad W] at c;rw[zad k] at d;injection c with c;injection d with d;subst c d;refine RA.iB rfl (fun _=>.inr ⟨t,_,rfl,by omega,fun _=>by simp⟩);grind;cases hx;cases hx;cases hx
theorem al2 (r:R B E w0 N σ a w G) {T:bz} (c:CN P T) {m:Mode} {f:FuncId} {xs:Array Operand} {ms:List MO} {ts:Array TypeId} {σ1:St} (d:∀n,o.dst=some n->n<N) (e:o.op=.call {callee:=.value (.func f),args:=xs,argTypes:=ts}) (b:cB P f=true) (hm:mn xs.toList ms=true) (hx:Bi T m o.dst f (ms.map σ.ev) σ=some σ1):o.wp P a w (Nx B E w0 N σ1) Q:=by obtain⟨e1,g⟩:=r.HV hm;refine amc r c (vals:=xs.toList.map a.eval) d ?_ (by grind) g hx;have h:(xs.toList.map a.eval).toArray=xs.map a.eval:=(by apply zac;simp);rw[h];simp[execOp,e,resolve,Deferred.ofValue,invoke,Act.eval,JU b]
end
def Hy:Option Operand->Option MO->Bool
 |none,none=>true
 |some x,some m=>cX x m
 |_,_=>false
def vA (P:Program) (t:TypeId) (sz:Nat) (k:TypeInfo->Value->Bool):Bool:=
 match P.underlying t with
 |some (.slice e)=>match P.info? e with
  |some i=>match i.zero with
   |some z=>i.size==sz&&decide (0<sz)&&k i z
   |none=>false
  |none=>false
 |_=>false
theorem wQ {P:Program} {t:TypeId} {sz:Nat} {k:TypeInfo->Value->Bool} (h:vA P t sz k=true): ∃e i z,P.underlying t=some (.slice e)/\P.info? e=some i/\i.zero=some z/\i.size=sz/\0<sz/\k i z=true:=by unfold vA at h;grind
def Pb (P:Program) (t:TypeId) (zs:List ao):Bool:=
 match P.info? t with
 |some i=>match i.zero with
  |some z=>zv z.cells.toList zs
  |none=>false
 |none=>false
theorem ab1 {P:Program} {t:TypeId} {a:List ao} (h:Pb P t a=true):∃i z,P.info? t=some i/\i.zero=some z/\zv z.cells.toList a=true:=by grind [Pb]
def abU (P:Program) (t:TypeId) (parts:List (Nat×Operand)) (zs:List ao) (ms:List (Nat×Nat×MO)):Bool:=
 match P.underlying t with
 |some (.struct C9)=>match C9.toList.mapM (fun f=>(P.info? f.type).map fun i=>(f.offset,i.size)) with
  |some places=>Pb P t zs&&EL places parts ms
  |none=>false
 |_=>false
def Pa (P:Program) (t:TypeId) (sz:Nat):Bool:=
 match P.info? t with
 |some i=>i.size==sz&&decide (0<sz)
 |none=>false
def abX (P:Program) (t u:TypeId) (k:IntKind):Bool:=
 match P.underlying t,P.underlying u with
 |some _,some (.int k')=>k==k'
 |_,_=>false
def afc (P:Program) (t:TypeId):Bool:=
 match P.underlying t with
 |some .bool=>true
 |_=>false
def iD (P:Program) (o:Oper) (mo:dB):Bool:=
 match mo,o.op with
 |.mv m,.move x=>cX x m
 |.mv m,.assign x=>cX x m
 |.pick c x y,.pick c' x' y'=>cX c' c&&cX x' x&&cX y' y
 |.alloc zs,.alloc e=>Pb P e zs
 |.box sz m,.box e x=>cX x m
 |.build zs ms,.build t parts=>abU P t parts.toList zs ms
 |.iu sz ms,.buildSlice t len parts=>vA P t sz (fun _ _=>true)&&(ms.length==len)&&decide (parts.toList.map (·.1)=zag len)&&decide (len*sz<=16777216)&&mn (parts.toList.map (·.2)) ms
 |.AZ sz ms,.buildSlice t len parts=>vA P t sz (fun _ _=>true)&&(ms.length==len)&&decide (parts.toList.map (·.1)=zag len)&&decide (len*sz<=16777216)&&mn (parts.toList.map (·.2)) ms
 |.load ag sz m,.load t x=>cX x m&&Hx P t ag sz
 |.store sz mx my,.store t x y=>o.dst.isNone&&cX x mx&&cX y my&&Pa P t sz
 |.lZ m,.nilCheck x=>cX x m
 |.bin op mx my,.binOp DV t x y t'=>decide (op=DV)&&cX x mx&&cX y my
 |.ue op mx my,.binOp DV t x y t'=>decide (op=DV)&&cX x mx&&cX y my&&afc P t
 |.un op mx,.unOp DV t x=>decide (op=DV)&&cX x mx
 |.conv k mx,.convert t u x=>cX x mx&&abX P t u k
 |.jW m sz ew zs ml mc,.makeSlice t l c=>cX l ml&&cX c mc&&vA P t sz (fun i z=>(i.bytes==ew)&&decide (0<ew)&&Bc z.cells.toList zs)
 |.slice sz mx QV QS,.slice t x lo hi none=>cX x mx&&Hy lo QV&&Hy hi QS&&vA P t sz (fun _ _=>true)
 |.q8 off mx,.fieldAddr s x f=>cX x mx&&Ls P s f off
 |.rm sz mx mi,.indexAddr t x i=>cX x mx&&cX i mi&&vA P t sz (fun _ _=>true)
 |.ext i mx,.extract x j=>(i==j)&&cX x mx
 |.len mx,.call c=>match c.callee,c.args.toList,c.argTypes.toList with
  |.builtin .len,[x],[t]=>cX x mx&&(match P.underlying t with|some (.slice _)=>true|_=>false)
  |_,_,_=>false
 |.append fl sz ew mx my,.call c=>match c.callee,c.args.toList,c.argTypes.toList with
  |.builtin .append,[x,y],[t,t']=>(t==t')&&cX x mx&&cX y my&&vA P t sz (fun i z=>(i.bytes==ew)&&decide (0<ew)&&(z.cells.size==sz))
  |_,_,_=>false
 |.copy sz mx my,.call c=>match c.callee,c.args.toList,c.argTypes.toList with
  |.builtin .copy,[x,y],[t,t']=>(sz==1)&&cX x mx&&cX y my&&vA P t 1 (fun _ _=>true)
  |_,_,_=>false
 |.wR zc mx,.call c=>match c.callee,c.args.toList,c.argTypes.toList with
  |.builtin .clear,[x],[t]=>cX x mx&&vA P t 1 (fun _ z=>Bc z.cells.toList [zc])
  |_,_,_=>false
 |.mm b mx my,.call c=>match c.callee,c.args.toList with
  |.builtin .max,[x,y]=>b&&cX x mx&&cX y my
  |.builtin .min,[x,y]=> !b&&cX x mx&&cX y my
  |_,_=>false
 |.call m f ms,.call c=>match c.callee with
  |.value (.func g)=>(f==g)&&cB P f&&mn c.args.toList ms
  |_=>false
 |.qp m f ms,.call c=>match c.callee with
  |.value (.func g)=>(f==g)&&cB P f&&mn c.args.toList ms
  |_=>false
 |.qV f ms,.call c=>match c.callee with
  |.value (.func g)=>(zC f==g)&&cB P (zC f)&&mn c.args.toList ms
  |_=>false
 |.pS f ms,.call c=>match c.callee with
  |.value (.func g)=>(f==g)&&cB P f&&mn c.args.toList ms
  |_=>false
 |.oI f ms,.call c=>match c.callee with
  |.value (.func g)=>(zC f==g)&&cB P (zC f)&&mn c.args.toList ms
  |_=>false
 |.uf m f ms,.call c=>match c.callee with
  |.value (.func g)=>(f==g)&&cB P f&&mn c.args.toList ms
  |_=>false
 |_,_=>false
theorem O8:∀{xs:List Operand} {ms:List MO},mn xs ms=true->xs.length=ms.length/\∀(j:Nat) (x:Operand) (m:MO),xs[j]? =some x->ms[j]? =some m->cX x m=true
 |[],[],_=>⟨rfl,by simp⟩
 |x::xs,m::ms,hc=>by simp only[mn,co] at hc;obtain⟨i1,i2⟩:=O8 hc.2;grind
 |[],_::_,hc=>by simp[mn] at hc
 |_::_,[],hc=>by simp[mn] at hc
section
variable {B N:Nat} {E:Ex} {w0 w w':World} {G G':Gh} {h h':Nat->Option aV} {used used':Nat->Bool} {tk:List PC} {P:Program} {o:Oper} {a:Act} {σ σ':St} {Q:Exit->Act->World->Prop}
theorem aml (r:R B E w0 N σ a w G) {T:bz} (i:Hh P T) {f:FuncId} {ms:List MO} (h:∀n,o.dst=some n->n<N) (b:iD P o (.oI f ms)=true) (hx:exec T o.dst (.oI f ms) σ=some σ'):o.wp P a w (Nx B E w0 N σ') Q:=by obtain⟨dst,op,ty,pos,after,guard⟩:=o;(cases op<;>simp only[iD] at b<;>first|cases b|skip);rename_i c;obtain⟨callee,args,argTypes⟩:=c;split at b;rename_i g d;simp only at d;subst d;simp only[co,beq_iff_eq] at b;obtain⟨⟨rfl,e⟩,j⟩:=b;simp only[exec] at hx;split at hx;rename_i v0 k;injection hx with hx;subst hx;exact acD r i h rfl e j (alB k σ);cases hx;cases b
theorem amm (r:R B E w0 N σ a w G) {T:bz} (j:CN P T) {f:FuncId} {ms:List MO} (h:∀n,o.dst=some n->n<N) (b:iD P o (.pS f ms)=true) (hx:exec T o.dst (.pS f ms) σ=some σ'):o.wp P a w (Nx B E w0 N σ') Q:=by obtain⟨dst,op,ty,pos,after,guard⟩:=o;(cases op<;>simp only[iD] at b<;>first|cases b|skip);rename_i c;obtain⟨callee,args,argTypes⟩:=c;split at b;rename_i g d;simp only at d;subst d;simp only[co,beq_iff_eq] at b;obtain⟨⟨rfl,e⟩,i⟩:=b;simp only[exec] at hx;split at hx;rename_i v0 k;injection hx with hx;subst hx;exact al1 r j h rfl e i k;cases hx;cases b
theorem amn (r:R B E w0 N σ a w G) {T:bz} (j:CN P T) {m:Mode} {f:FuncId} {ms:List MO} (h:∀n,o.dst=some n->n<N) (b:iD P o (.uf m f ms)=true) (hx:exec T o.dst (.uf m f ms) σ=some σ'):o.wp P a w (Nx B E w0 N σ') Q:=by obtain⟨dst,op,ty,pos,after,guard⟩:=o;(cases op<;>simp only[iD] at b<;>first|cases b|skip);rename_i c;obtain⟨callee,args,argTypes⟩:=c;split at b;rename_i g d;simp only at d;subst d;simp only[co,beq_iff_eq] at b;obtain⟨⟨rfl,e⟩,i⟩:=b;simp only[exec] at hx;exact al2 r j h rfl e i hx;cases b
theorem amk (r:R B E w0 N σ a w G) {T:bz} (i:Hh P T) {f:FuncId} {ms:List MO} (h:∀n,o.dst=some n->n<N) (b:iD P o (.qV f ms)=true) (hx:exec T o.dst (.qV f ms) σ=some σ'):o.wp P a w (Nx B E w0 N σ') Q:=by obtain⟨dst,op,ty,pos,after,guard⟩:=o;(cases op<;>simp only[iD] at b<;>first|cases b|skip);rename_i c;obtain⟨callee,args,argTypes⟩:=c;split at b;rename_i g d;simp only at d;subst d;simp only[co,beq_iff_eq] at b;obtain⟨⟨rfl,e⟩,j⟩:=b;simp only[exec] at hx;exact acD r i h rfl e j hx;cases b
set_option maxHeartbeats 1000000 in
theorem acJ (r:R B E w0 N σ a w G) {T:bz} (hT:OR P T) (hTM:OS P T) (Ij:Hh P T) (Ik:CN P T) (hF:∀f M,bz.find T.pure f=some M->cB P f=true) {mo:dB} (F:∀n,o.dst=some n->n<N) (u:iD P o mo=true) (hx:exec T o.dst mo σ=some σ'):
  o.wp P a w (Nx B E w0 N σ') Q:=by
 obtain⟨dst,op,ty,pos,X,guard⟩:=o;cases mo with
 |mv m=>
  simp only[exec] at hx;injection hx with hx;subst hx;cases op<;>simp only[iD] at u<;>first|cases u|skip
  ·exact acH r (.inl rfl) F u
  ·exact acH r (.inr rfl) F u
 |pick c x y=>
  cases op<;>simp only[iD] at u<;>first|cases u|skip
  rename_i c' x' y';simp only[co] at u;simp only[exec] at hx;split at hx
  ·rename_i b hb;have:=amo (P:=P) (Q:=Q) r (o:=⟨dst,.pick c' x' y',ty,pos,X,guard⟩) rfl F u.1.1 u.1.2 u.2 hb;cases b<;>simp at hx<;>subst hx<;>exact this
  ·cases hx
 |alloc zs=>
  cases op<;>simp only[iD] at u<;>first|cases u|skip
  obtain⟨i,z,J,K,U⟩:=ab1 u;simp only[exec] at hx;split at hx
  ·rename_i n;split at hx
   ·rename_i σ1 L;injection hx with hx;subst hx;exact alP r rfl rfl (F n rfl) J K U L
   ·cases hx
  ·cases hx
 |box sz m=>
  cases op<;>simp only[iD] at u<;>first|cases u|skip
  simp only[exec] at hx;split at hx
  ·rename_i n ag cs iS;split at hx
   ·split at hx
    ·rename_i σ1 L;injection hx with hx;subst hx;exact alU r rfl rfl (F _ rfl) u iS L
    ·cases hx
   ·cases hx
  ·cases hx
 |build zs ms=>
  cases op<;>simp only[iD] at u<;>first|cases u|skip
  simp only[exec] at hx;split at hx
  ·rename_i cs iS;injection hx with hx;subst hx;unfold abU at u;split at u
   ·rename_i C9 hu;split at u
    ·rename_i places ij;simp only[co] at u;obtain⟨i,z,J,K,U⟩:=ab1 u.1;exact alX r rfl F J K hu ij U u.2 iS
    ·cases u
   ·cases u
  ·cases hx
 |iu sz ms=>
  cases op<;>simp only[iD] at u<;>first|cases u|skip
  simp only[co,beq_iff_eq,decide_eq_true_eq] at u;obtain⟨⟨⟨⟨C,H⟩,I⟩,c4⟩,c5⟩:=u;obtain⟨e,i,z,J,K,U,S,h5,_⟩:=wQ C;simp only[exec] at hx;split at hx
  ·rename_i n es ow σ1 pA;split at hx
   ·rename_i σ2 L;injection hx with hx;subst hx;refine acC r rfl rfl (F _ rfl) J K U S h5 H I c4 (fun j p m A hm=>?_) pA L;exact(O8 c5).2 j p.2 m (by simp[A]) hm
   ·cases hx
  ·cases hx
 |AZ sz ms=>
  cases op<;>simp only[iD] at u<;>first|cases u|skip
  simp only[co,beq_iff_eq,decide_eq_true_eq] at u;obtain⟨⟨⟨⟨C,H⟩,I⟩,c4⟩,c5⟩:=u;obtain⟨e,i,z,J,K,U,S,h5,_⟩:=wQ C;simp only[exec] at hx;split at hx
  ·rename_i n es pA;split at hx
   ·rename_i σ2 L;injection hx with hx;subst hx;refine acC r rfl rfl (F _ rfl) J K U S h5 H I c4 (fun j p m A hm=>?_) (agQ _ pA) L;exact(O8 c5).2 j p.2 m (by simp[A]) hm
   ·cases hx
  ·cases hx
 |load ag sz m=>
  cases op<;>simp only[iD] at u<;>first|cases u|skip
  simp only[co] at u;simp only[exec] at hx;split at hx
  ·rename_i p A;split at hx
   ·rename_i cs iS;injection hx with hx;subst hx;exact amg r rfl F u.1 u.2 A iS
   ·cases hx
  ·cases hx
 |store sz mx my=>
  cases op<;>simp only[iD] at u<;>first|cases u|skip
  simp only[co] at u;obtain⟨⟨⟨c0,C⟩,H⟩,I⟩:=u;have hd:dst=none:=by simpa using c0
  unfold Pa at I;split at I
  ·rename_i i L;simp only[co,beq_iff_eq,decide_eq_true_eq] at I;simp only[exec] at hx;split at hx
   ·rename_i n k aZ off ag vs A hv;split at hx
    ·rename_i hl;split at hx
     ·rename_i cs hn;split at hx
      ·rename_i hk;injection hx with hx;subst hx;exact amq r rfl hd C H L I.1 I.2 A hv hl hn hk.1 hk.2
      ·cases hx
     ·rename_i gr m rs xs hn;split at hx
      ·rename_i sZ;subst sZ;split at hx
       ·rename_i el kJ;exact ams r rfl hd C H L I.1 I.2 A hv hl hn kJ hx
       ·cases hx
      ·cases hx
     ·cases hx
    ·cases hx
   ·rename_i n k aZ off s i ag vs A hv;split at hx
    ·rename_i hl;split at hx
     ·rename_i gr rs xs hn;split at hx
      ·rename_i sZ;subst sZ;split at hx
       ·rename_i aM mR;injection hx with hx;subst hx;exact amr r rfl hd C H L I.1 I.2 A hv hl hn rfl mR
       ·cases hx
      ·cases hx
     ·cases hx
    ·cases hx
   ·cases hx
  ·cases I
 |lZ m=>
  cases op<;>simp only[iD] at u<;>first|cases u|skip
  simp only[exec] at hx;split at hx
  ·rename_i n k sz off A;split at hx
   ·rename_i hn;injection hx with hx;subst hx;rw[<-A];exact VH r rfl F u (.inl ⟨_,_,_,_,A,hn⟩)
   ·cases hx
  ·rename_i xs off A;injection hx with hx;subst hx;rw[<-A];exact VH r rfl F u (.inr (.inl ⟨_,_,A⟩))
  ·rename_i xs off j n s len A;injection hx with hx;subst hx;rw[<-A];exact VH r rfl F u (.inr (.inr ⟨_,_,_,_,_,_,A⟩))
  ·cases hx
 |bin DV mx my=>
  cases op<;>simp only[iD] at u<;>first|cases u|skip
  simp only[co,decide_eq_true_eq] at u;obtain⟨⟨rfl,C⟩,H⟩:=u;simp only[exec] at hx;split at hx
  ·rename_i c hb;injection hx with hx;subst hx;exact alS r rfl F C H hb
  ·cases hx
 |ue DV mx my=>
  cases op<;>simp only[iD] at u<;>first|cases u|skip
  simp only[co,decide_eq_true_eq] at u;obtain⟨⟨⟨rfl,C⟩,H⟩,I⟩:=u;unfold afc at I;split at I
  ·rename_i Y;simp only[exec] at hx;split at hx
   ·rename_i c hb;injection hx with hx;subst hx;exact alT r rfl F C H Y hb
   ·cases hx
  ·cases I
 |un DV mx=>
  cases op<;>simp only[iD] at u<;>first|cases u|skip
  simp only[co,decide_eq_true_eq] at u;obtain⟨rfl,C⟩:=u;simp only[exec] at hx;split at hx
  ·rename_i c hb;injection hx with hx;subst hx;exact amu r rfl F C hb
  ·cases hx
 |conv k mx=>
  cases op<;>simp only[iD] at u<;>first|cases u|skip
  simp only[co] at u;obtain⟨C,H⟩:=u;unfold abX at H;split at H
  ·rename_i d k' Y hu;have hk:k=k':=by simpa using H
   subst hk;simp only[exec] at hx;split at hx
   ·rename_i Z n hb;injection hx with hx;subst hx;exact al4 r rfl F C Y hu hb
   ·cases hx
  ·cases H
 |jW m sz ew zs ml mc=>
  cases op<;>simp only[iD] at u<;>first|cases u|skip
  simp only[co] at u;obtain⟨⟨C,H⟩,I⟩:=u;obtain⟨e,i,z,J,K,U,S,h5,h6⟩:=wQ I;simp only[co,beq_iff_eq,decide_eq_true_eq] at h6;simp only[exec] at hx;split at hx
  ·rename_i n q q' hq gB;split at hx
   ·rename_i W;obtain⟨V,Z,k3,k4⟩:=W;split at hx
    ·rename_i σ1 L;injection hx with hx;subst hx;exact amh r rfl rfl (F _ rfl) C H J K U S h6.1.1 h6.1.2 h5 h6.2 hq gB V Z k3 k4 L
    ·cases hx
   ·cases hx
  ·cases hx
 |slice sz mx QV QS=>
  cases op<;>simp only[iD] at u<;>first|cases u|skip
  rename_i t x lo L mm;cases mm<;>simp only[iD] at u<;>first|cases u|skip
  simp only[co] at u;obtain⟨⟨⟨C,H⟩,I⟩,c4⟩:=u;obtain⟨e,i,z,J,K,U,S,h5,_⟩:=wQ c4;have n8:∀l,(match QV with|none=>some 0|some l=>(σ.ev l).fW)=some l->(lo=none/\l=0)\/∃y my,lo=some y/\cX y my=true/\(σ.ev my).fW=some l:=by
   intro l hl;cases QV with
   |none=>grind [Hy]
   |some my=>cases lo<;>simp[Hy] at H;grind
  have Bz:∀(len:Nat) hh,(match QS with|none=>some (len:Int)|some h=>(σ.ev h).fW)=some hh->(L=none/\hh=len)\/∃y my,L=some y/\cX y my=true/\(σ.ev my).fW=some hh:=by
   intro len l hl;cases QS with
   |none=>grind [Hy]
   |some my=>cases L<;>simp[Hy] at I;grind
  simp only[exec] at hx;split at hx
  ·rename_i n s l0 len l A hl;split at hx
   ·rename_i hh WQ;split at hx
    ·rename_i W;obtain⟨rfl,V,Z,k3,k4⟩:=W;injection hx with hx;subst hx;exact acK r rfl F C J K S h5 (n8 l hl) (Bz len hh WQ) V Z k3 (.inl ⟨n,l0,A,k4,rfl⟩)
    ·cases hx
   ·cases hx
  ·rename_i s xs l A hl;split at hx
   ·rename_i hh WQ;split at hx
    ·rename_i W;obtain⟨rfl,V,Z,k3⟩:=W;injection hx with hx;subst hx;exact acK r rfl F C J K S h5 (n8 l hl) (Bz xs.length hh WQ) V Z k3 (.inr ⟨xs,A,rfl,rfl⟩)
    ·cases hx
   ·cases hx
  ·cases hx
 |q8 off mx=>
  cases op<;>simp only[iD] at u<;>first|cases u|skip
  simp only[co] at u;simp only[exec] at hx;split at hx
  ·rename_i n k sz q A;split at hx
   ·rename_i hn;injection hx with hx;subst hx;exact VF r rfl F u.1 u.2 (.inl ⟨_,_,_,_,A,hn,rfl⟩)
   ·cases hx
  ·rename_i xs q A;injection hx with hx;subst hx;exact VF r rfl F u.1 u.2 (.inr (.inl ⟨_,_,A,rfl⟩))
  ·rename_i xs q j n s len A;injection hx with hx;subst hx;exact VF r rfl F u.1 u.2 (.inr (.inr ⟨_,_,_,_,_,_,A,rfl⟩))
  ·cases hx
 |rm sz mx mi=>
  cases op<;>simp only[iD] at u<;>first|cases u|skip
  simp only[co] at u;obtain⟨⟨C,H⟩,I⟩:=u;obtain⟨e,i,z,J,K,U,S,h5,_⟩:=wQ I;simp only[exec] at hx;split at hx
  ·rename_i n s lo len k A hk;split at hx
   ·rename_i W;obtain⟨rfl,V,Z,k3⟩:=W;injection hx with hx;subst hx;exact acF r rfl F C H J K S hk V (.inl ⟨_,_,_,A,Z,k3,rfl⟩)
   ·cases hx
  ·rename_i s xs k A hk;split at hx
   ·rename_i W;obtain⟨rfl,V⟩:=W;split at hx
    ·rename_i el kJ;injection hx with hx;subst hx;exact acF r rfl F C H J K S hk V (.inr ⟨_,_,A,kJ,rfl⟩)
    ·cases hx
   ·cases hx
  ·rename_i n kk aZ off s len k A hk;split at hx
   ·rename_i s' ys MZ;split at hx
    ·rename_i W;obtain⟨rfl,V,Z⟩:=W;injection hx with hx;subst hx;exact ame r rfl F C H J K S hk V Z A MZ
    ·cases hx
   ·cases hx
  ·cases hx
 |ext i mx=>
  cases op<;>simp only[iD] at u<;>first|cases u|skip
  simp only[co,beq_iff_eq] at u;obtain⟨rfl,C⟩:=u;simp only[exec] at hx;split at hx
  ·rename_i xs A;split at hx
   ·rename_i ag cs iS;injection hx with hx;subst hx;refine amd r rfl F C A iS fun eS=>?_;subst eS;obtain⟨y1,_⟩:=r.ev C;rw[A] at y1;obtain⟨vs,_,hl,hv⟩:=y1;have L:i<vs.length:=by rw[hl];exact(By.1 iS).1
    have:eN w G σ.h cs [vs[i]]:=hv i (false,cs) vs[i] iS (wt L);exact zaL.1 this.1.symm
   ·cases hx
  ·cases hx
 |len mx=>
  cases op<;>simp only[iD] at u<;>first|cases u|skip
  rename_i c;obtain⟨D,args,v⟩:=c;split at u
  ·rename_i x t O ha Y;simp only at O ha Y;subst O;have yk:args=#[x]:=by apply zac;exact ha
   have Fu:v=#[t]:=by apply zac;exact Y
   subst yk Fu;simp only[co] at u;obtain⟨C,H⟩:=u;split at H
   ·rename_i e hu;simp only[exec] at hx;split at hx
    ·rename_i n sz lo len A;split at hx
     ·rename_i hn;injection hx with hx;subst hx;exact Pw r rfl F C hu (.inl ⟨_,_,_,A,hn⟩)
     ·cases hx
    ·rename_i sz xs A;injection hx with hx;subst hx;exact Pw r rfl F C hu (.inr (.inl ⟨_,_,A,rfl⟩))
    ·rename_i sz A;injection hx with hx;subst hx;exact Pw r rfl F C hu (.inr (.inr (.inl ⟨_,A,rfl⟩)))
    ·rename_i n k aZ off sz len A;split at hx
     ·rename_i s ys rj;injection hx with hx;subst hx;exact Pw r rfl F C hu (.inr (.inr (.inr ⟨_,_,_,_,_,_,_,_,A,rj,rfl⟩)))
     ·cases hx
    ·cases hx
   ·cases H
  ·cases u
 |append fl sz ew mx my=>
  cases op<;>simp only[iD] at u<;>first|cases u|skip
  rename_i c;obtain⟨D,args,v⟩:=c;split at u
  ·rename_i x y t t' O ha Y;simp only at O ha Y;subst O;have yk:args=#[x,y]:=by apply zac;exact ha
   have Fu:v=#[t,t']:=by apply zac;exact Y
   subst yk Fu;simp only[co,beq_iff_eq] at u;obtain⟨⟨⟨rfl,C⟩,H⟩,I⟩:=u;obtain⟨e,i,z,J,K,U,S,h5,h6⟩:=wQ I;simp only[co,beq_iff_eq,decide_eq_true_eq] at h6;simp only[exec] at hx;split at hx
   ·cases hx
   ·rename_i n;split at hx
    ·cases hx
    ·rename_i xs m σ1 hl;split at hx
     ·cases hx
     ·rename_i ys m2 σ2 hr;split at hx
      ·rename_i hb;split at hx
       ·rename_i jX L;injection hx with hx;subst hx;exact alR r rfl rfl (F _ rfl) C H J K U S h5 h6.1.1 h6.1.2 h6.2 hl hr hb L
       ·cases hx
      ·cases hx
  ·cases u
 |copy sz mx my=>
  cases op<;>simp only[iD] at u<;>first|cases u|skip
  rename_i c;obtain⟨D,args,v⟩:=c;split at u
  ·rename_i x y t t' O ha Y;simp only at O ha Y;subst O;have yk:args=#[x,y]:=by apply zac;exact ha
   have Fu:v=#[t,t']:=by apply zac;exact Y
   subst yk Fu;simp only[co,beq_iff_eq] at u;obtain⟨⟨⟨c0,C⟩,H⟩,I⟩:=u;obtain⟨e,i,z,J,K,U,S,h5,_⟩:=wQ I;simp only[exec] at hx;split at hx
   ·rename_i n s lo len cc A hq;split at hx
    ·rename_i gr m rs xs s' ys hn hv;split at hx
     ·rename_i W;obtain⟨rfl,rfl,rfl,rfl,V,Z,k3,k4⟩:=W;injection hx with hx;subst hx;exact al6 r rfl F C H J K S A hq hn hv V Z k3 k4
     ·cases hx
    ·cases hx
   ·cases hx
  ·cases u
 |wR zc mx=>
  cases op<;>simp only[iD] at u<;>first|cases u|skip
  rename_i c;obtain⟨D,args,v⟩:=c;split at u
  ·rename_i x t O ha Y;simp only at O ha Y;subst O;have yk:args=#[x]:=by apply zac;exact ha
   have Fu:v=#[t]:=by apply zac;exact Y
   subst yk Fu;simp only[co] at u;obtain⟨C,I⟩:=u;obtain⟨e,i,z,J,K,U,S,h5,h6⟩:=wQ I;simp only[exec] at hx;split at hx
   ·rename_i n s lo len A;split at hx
    ·rename_i gr m rs xs hn;split at hx
     ·rename_i W;obtain⟨rfl,rfl,k0,V,Z,k3⟩:=W;injection hx with hx;subst hx;exact al3 r rfl F C J K U h6 k0 A hn V Z k3
     ·cases hx
    ·cases hx
   ·cases hx
  ·cases u
 |mm b mx my=>
  cases op<;>simp only[iD] at u<;>first|cases u|skip
  rename_i c;obtain⟨D,args,v⟩:=c;have eW:∀x y,D=.builtin (if b=true then .max else .min)->args=#[x,y]->cX x mx=true->cX y my=true->
    Oper.wp P ⟨dst,.call ⟨D,args,v⟩,ty,pos,X,guard⟩ a w (Nx B E w0 N σ') Q:=by
   intro x y O ha C H;subst O ha;simp only[exec] at hx;split at hx
   ·rename_i k n k' m J K;have:=ami (P:=P) (Q:=Q) (mx':=b) r (o:=⟨dst,.call ⟨.builtin (if b=true then .max else .min),#[x,y],v⟩,ty,pos,X,guard⟩) rfl F C H J K
    grind
   ·cases hx
  grind
 |call m f ms=>
  cases op<;>simp only[iD] at u<;>first|cases u|skip
  rename_i c;obtain⟨D,args,v⟩:=c;split at u
  ·rename_i g O;simp only at O;subst O;simp only[co,beq_iff_eq] at u;obtain⟨⟨rfl,C⟩,H⟩:=u;exact alY r hT F rfl C H hx
  ·cases u
 |qp m f ms=>
  cases op<;>simp only[iD] at u<;>first|cases u|skip
  rename_i c;obtain⟨D,args,v⟩:=c;split at u
  ·rename_i g O;simp only at O;subst O;simp only[co,beq_iff_eq] at u;obtain⟨⟨rfl,C⟩,H⟩:=u;simp only[exec] at hx;exact al0 r hTM F rfl C H hx
  ·cases u
 |qV f ms=>exact amk r Ij F u hx
 |pS f ms=>exact amm r Ik F u hx
 |oI f ms=>exact aml r Ij F u hx
 |uf m f ms=>exact amn r Ik F u hx
end
def dB.jZ:dB->Nat
 |.mv _|.pick ..|.build ..|.bin ..|.ue ..|.un ..|.conv ..|.ext ..|.mm ..=>0
 |.alloc _|.box ..|.AZ ..|.load ..|.lZ _|.jW ..|.slice ..|.q8 ..|.rm ..|.len _|.call ..|.pS ..|.oI ..=>1
 |_=>2
def St.eU (σ:St):List (Nat×aV)->Option St
 |[]=>some σ
 |(n,b)::l=>match σ.ins n b with
  |some σ1=>σ1.eU l
  |none=>none
def nu (m:Mode):Nat->List C->List ao×Nat×List (Nat×aV)
 |nm,[]=>([],nm,[])
 |nm,.list sz xs::cs=>(.sl nm sz 0 xs.length::(nu m (nm+1) cs).1,(nu m (nm+1) cs).2.1,(nm,.row m.yU m sz xs)::(nu m (nm+1) cs).2.2)
 |nm,x::cs=>(.c x::(nu m nm cs).1,(nu m nm cs).2.1,(nu m nm cs).2.2)
def Dz (m:Mode):Nat->List Dv->Option (List (Bool×List ao)×List (Nat×aV))
 |_,[]=>some ([],[])
 |nm,(.ptr,_)::_=>none
 |nm,(k,cs)::ds=>match Dz m (nu m nm cs).2.1 ds with
  |some (ls,bs)=>some ((decide (k=.agg),(nu m nm cs).1)::ls,(nu m nm cs).2.2++bs)
  |none=>none
theorem ae7 (σ:St) (l a:List (Nat×aV)):σ.eU (l++a)=(σ.eU l).bind fun σ1=>σ1.eU a:=by induction l generalizing σ with|nil=>rfl|cons x l ih=>grind [St.eU]
theorem QA (m:Mode):∀(cs:List C) (σ:St) (nm:Nat),σ.imp m nm cs=(σ.eU (nu m nm cs).2.2).map fun σ1=>((nu m nm cs).1,(nu m nm cs).2.1,σ1)
 |[],σ,nm=>rfl
 |.list sz xs::cs,σ,nm=>by simp only[St.imp,nu,St.eU];cases σ.ins nm (.row m.yU m sz xs) with|none=>rfl|some σ1=>simp only[QA m cs];cases σ1.eU (nu m (nm+1) cs).2.2<;>rfl
 |.int k n::cs,σ,nm=>by simp only[St.imp,nu,QA m cs];cases σ.eU (nu m nm cs).2.2<;>rfl
 |.bool b::cs,σ,nm=>by simp only[St.imp,nu,QA m cs];cases σ.eU (nu m nm cs).2.2<;>rfl
theorem QB (m:Mode):∀(ds:List Dv) (σ:St) (nm:Nat),σ.nQ m nm ds=(Dz m nm ds).bind fun x=>(σ.eU x.2).map fun σ1=>(x.1,σ1)
 |[],σ,nm=>rfl
 |(k,cs)::ds,σ,nm=>by
  have a:(match σ.imp m nm cs with
    |some (l,jN,σ1)=>match σ1.nQ m jN ds with
     |some (ls,σ2)=>some ((decide (k=K.agg),l)::ls,σ2)
     |none=>none
    |none=>none)=(match Dz m (nu m nm cs).2.1 ds with
    |some (ls,bs)=>some ((decide (k=K.agg),(nu m nm cs).1)::ls,(nu m nm cs).2.2++bs)
    |none=>none).bind fun x=>(σ.eU x.2).map fun σ1=>(x.1,σ1):=by
   rw[QA];have b:=fun(σ1:St)=>QB m ds σ1 (nu m nm cs).2.1;cases h1:σ.eU (nu m nm cs).2.2 with
   |none=>
    grind [ae7]
   |some σ1=>
    simp only[GB,b];cases h2:Dz m (nu m nm cs).2.1 ds with
    |none=>rfl
    |some x=>
     simp[ae7,h1];cases σ1.eU x.2<;>rfl
  cases k with
  |ptr=>rfl
  |one=>exact a
  |agg=>exact a
def OZ (T:bz) (m:Mode) (d:Option Nat) (f:FuncId) (as:List aw) (h:Nat->Option aV):Option (aw×List (Nat×aV)):=
 match qk h as with
 |some ds=>match bz.find T.pure f with
  |some M=>match M ds with
   |some rs=>match Dz m (nT d) rs with
    |some (ls,bs)=>some (pL ls,bs)
    |none=>none
   |none=>none
  |none=>none
 |none=>none
def rd (T:bz) (d:Option Nat) (op:dB) (ev:MO->aw) (h:Nat->Option aV):Option (aw×List (Nat×aV)):=
 match op with
 |.mv x=>some (ev x,[])
 |.pick c x y=>match ev c with
  |.one (.c (.bool b))=>if b=true then some (ev x,[]) else some (ev y,[])
  |_=>none
 |.build zs parts=>match wD ev zs parts with
  |some cs=>some (.agg cs,[])
  |none=>none
 |.bin op x y=>match CU op (ev x) (ev y) with
  |some c=>some (.one (.c c),[])
  |none=>none
 |.ue op x y=>match Hr op (ev x) (ev y) with
  |some c=>some (.one (.c c),[])
  |none=>none
 |.un op x=>match Kz op (ev x) with
  |some c=>some (.one (.c c),[])
  |none=>none
 |.conv k x=>match ev x with
  |.one (.c (.int _ n))=>some (.one (.c (.int k (k.wrap n))),[])
  |_=>none
 |.ext i x=>match ev x with
  |.cT xs=>match xs[i]? with
   |some (ag,cs)=>some (wF ag cs,[])
   |none=>none
  |_=>none
 |.mm mx x y=>match ev x,ev y with
  |.one (.c (.int k a)),.one (.c (.int k' b))=>if mx=true then(if a<b then some (.one (.c (.int k b)),[]) else some (.one (.c (.int k a)),[]))
   else(if b<a then some (.one (.c (.int k b)),[]) else some (.one (.c (.int k a)),[]))
  |_,_=>none
 |.alloc zs=>match d with
  |some n=>some (.one (.ptr n 0 0 0),[(n,.box zs)])
  |none=>none
 |.box sz x=>match d,(ev x).cells? with
  |some n,some (_,cs)=>if cs.length=sz then some (.one (.ptr n 0 0 0),[(n,.box cs)]) else none
  |_,_=>none
 |.AZ sz ps=>match d,Gk sz (ps.map ev) with
  |some n,some es=>some (.one (.sl n sz 0 es.length),[(n,.row true .bi sz es)])
  |_,_=>none
 |.load ag sz x=>match ev x with
  |.one p=>match loadAt h p sz with
   |some cs=>some (wF ag cs,[])
   |none=>none
  |_=>none
 |.lZ x=>match ev x with
  |.one (.ptr n k sz off)=>if(h n).isSome=true then some (.one (.ptr n k sz off),[]) else none
  |.one (.ez xs off)=>some (.one (.ez xs off),[])
  |.one (.dE xs off j n s len)=>some (.one (.dE xs off j n s len),[])
  |_=>none
 |.jW m sz ew zs l c=>match d,(ev l).fW,(ev c).fW with
  |some n,some a,some b=>if a<=b/\0<=a/\b.toNat*ew<=fe/\zs.length=sz then
   some (.one (.sl n sz 0 a.toNat),[(n,.row true m sz (zak a.toNat zs))])
   else none
  |_,_,_=>none
 |.slice sz x lo hi=>
  let Yv:Option Int:=match lo with|none=>some 0|some l=>(ev l).fW
  match ev x,Yv with
  |.one (.sl n s l0 len),some l=>
   match(match hi with|none=>some (len:Int)|some h=>(ev h).fW) with
   |some hh=>if s=sz/\0<=l/\l<=hh/\hh<=len/\(h n).isSome=true then some (.one (.sl n s (l0+l.toNat) (hh - l).toNat),[]) else none
   |none=>none
  |.one (.c (.list s xs)),some l=>
   match(match hi with|none=>some (xs.length:Int)|some h=>(ev h).fW) with
   |some hh=>if s=sz/\0<=l/\l<=hh/\hh<=xs.length then some (.one (.c (.list s ((xs.drop l.toNat).take (hh - l).toNat))),[]) else none
   |none=>none
  |_,_=>none
 |.q8 off x=>match ev x with
  |.one (.ptr n k sz o)=>if(h n).isSome=true then some (.one (.ptr n k sz (o+off)),[]) else none
  |.one (.ez xs o)=>some (.one (.ez xs (o+off)),[])
  |.one (.dE xs o j n s len)=>some (.one (.dE xs (o+off) j n s len),[])
  |_=>none
 |.rm sz x i=>match ev x,(ev i).fW with
  |.one (.sl n s lo len),some k=>if s=sz/\0<=k/\k<len/\(h n).isSome=true then some (.one (.ptr n (lo+k.toNat) s 0),[]) else none
  |.one (.c (.list s xs)),some k=>if s=sz/\0<=k then
   match xs[k.toNat]? with
   |some e=>some (.one (.ez e 0),[])
   |none=>none
   else none
  |.one (.cF n kk aZ off s len),some k=>match dX h (.cF n kk aZ off s len) with
   |some (.list s' ys)=>if s'=sz/\0<=k/\k<ys.length then some (.one (.eE n kk aZ off sz k.toNat),[]) else none
   |_=>none
  |_,_=>none
 |.len x=>match ev x with
  |.one (.sl n sz lo len)=>if(h n).isSome=true then some (.one (.c (.int .i64 len)),[]) else none
  |.one (.c (.list sz xs))=>some (.one (.c (.int .i64 xs.length)),[])
  |.one (.nil sz)=>some (.one (.c (.int .i64 0)),[])
  |.one (.cF n k aZ off sz len)=>match dX h (.cF n k aZ off sz len) with
   |some (.list s ys)=>some (.one (.c (.int .i64 ys.length)),[])
   |_=>none
  |_=>none
 |.call m f xs=>OZ T m d f (xs.map ev) h
 |.pS f xs=>(vE T f (xs.map ev) h).map fun v=>(v,[])
 |.oI f xs=>(EY T f (xs.map ev)).map fun v=>(v,[])
 |_=>none
def jg (d:Option Nat) (σ:St) (x:aw×List (Nat×aV)):Option St:=(σ.eU x.2).map (·.put d x.1)
theorem alE (T:bz) (m:Mode) (d:Option Nat) (f:FuncId) (as:List aw) (σ:St):C4 T m d f as σ=(OZ T m d f as σ.h).bind (jg d σ):=by unfold C4 OZ;cases qk σ.h as with|none=>rfl|some ds=>simp only;cases bz.find T.pure f with|none=>rfl|some M=>simp only;cases M ds with|none=>rfl|some a=>simp only[QB];cases Dz m (nT d) a with|none=>rfl|some x=>simp only[OF,jg];cases σ.eU x.2<;>rfl
theorem ul (T:bz) (d:Option Nat) (op:dB) (σ:St) (o:op.jZ<=1):exec T d op σ=(rd T d op σ.ev σ.h).bind (jg d σ):=by
 cases op<;>simp only[dB.jZ] at o<;>first|omega|skip
 case call m f xs=>exact alE _ _ _ _ _ _
 case pS f xs=>
  simp only[exec,rd];cases vE T f (xs.map σ.ev) σ.h with
  |none=>rfl
  |some v=>rfl
 case oI f xs=>
  simp only[exec,rd];cases EY T f (xs.map σ.ev) with
  |none=>rfl
  |some v=>rfl
 case alloc zs=>
  simp only[exec,rd]
  grind [jg,St.eU]
 case box sz x=>
  simp only[exec,rd]
  grind [jg,St.eU]
 case AZ sz ps=>
  simp only[exec,rd]
  grind [jg,St.eU]
 case jW m sz ew zs l c=>
  simp only[exec,rd];split
  ·grind [jg,St.eU]
  simp_all
 case mv x=>rfl
 case pick c x y=>
  simp only[exec,rd];generalize σ.ev c=v;cases v with
  |one v=>cases v with
   |c v=>cases v with
    |bool b=>cases b<;>rfl
    |_=>rfl
   |_=>rfl
  |_=>rfl
 case build zs ps=>simp only[exec,rd];cases wD σ.ev zs ps<;>rfl
 case bin op x y=>simp only[exec,rd];cases CU op (σ.ev x) (σ.ev y)<;>rfl
 case ue op x y=>simp only[exec,rd];cases Hr op (σ.ev x) (σ.ev y)<;>rfl
 case un op x=>simp only[exec,rd];cases Kz op (σ.ev x)<;>rfl
 case conv k x=>
  simp only[exec,rd];generalize σ.ev x=v;cases v with
  |one v=>cases v with
   |c v=>cases v<;>rfl
   |_=>rfl
  |_=>rfl
 case ext i x=>
  simp only[exec,rd];generalize σ.ev x=v;cases v with
  |cT xs=>
   simp only
   cases xs[i]? <;>rfl
  |_=>rfl
 case mm b x y=>
  simp only[exec,rd];generalize σ.ev x=v;generalize σ.ev y=u;cases v with
  |one v=>cases v with
   |c v=>cases v with
    |int k a=>cases u with
     |one u=>cases u with
      |c u=>cases u with
       |int k' a'=>
        simp only
        cases b
        ·simp only[zaC,if_false];split<;>rfl
        ·simp only[if_true];split<;>rfl
       |_=>rfl
      |_=>rfl
     |_=>rfl
    |_=>rfl
   |_=>rfl
  |_=>rfl
 case load ag sz x=>
  simp only[exec,rd];generalize σ.ev x=v;cases v with
  |one v=>
   simp only
   cases loadAt σ.h v sz<;>rfl
  |_=>rfl
 case lZ x=>
  simp only[exec,rd];generalize σ.ev x=v;cases v with
  |one v=>cases v with
   |ptr n k sz off=>simp only;split<;>rfl
   |_=>rfl
  |_=>rfl
 case q8 off x=>
  simp only[exec,rd];generalize σ.ev x=v;cases v with
  |one v=>cases v with
   |ptr n k sz off=>simp only;split<;>rfl
   |_=>rfl
  |_=>rfl
 case len x=>
  simp only[exec,rd];generalize σ.ev x=v;cases v with
  |one v=>cases v with
   |sl n sz lo len=>simp only;split<;>rfl
   |c v=>cases v<;>rfl
   |cF n k g off sz len=>
    simp only
    cases dX σ.h (.cF n k g off sz len) with
    |none=>rfl
    |some y=>cases y<;>rfl
   |_=>rfl
  |_=>rfl
 case rm sz x i=>
  simp only[exec,rd];generalize σ.ev x=v;generalize (σ.ev i).fW=u;cases v with
  |one v=>cases v with
   |sl n s lo len=>cases u with
    |none=>rfl
    |some k=>simp only;split<;>rfl
   |c v=>cases v with
    |list s xs=>cases u with
     |none=>rfl
     |some k=>
      simp only
      split
      ·cases xs[k.toNat]? <;>rfl
      ·rfl
    |_=>rfl
   |cF n k g off s len=>
    cases u with
    |none=>rfl
    |some q=>
     simp only
     cases dX σ.h (.cF n k g off s len) with
     |none=>rfl
     |some y=>cases y with
      |list s' ys=>simp only;split<;>rfl
      |_=>rfl
   |_=>rfl
  |_=>rfl
 case slice sz x lo e=>
  cases lo with
  |none=>
   cases e with
   |none=>
    simp only[exec,rd];generalize σ.ev x=v;cases v with
    |one v=>cases v with
     |sl n s j len=>simp only;split<;>rfl
     |c v=>cases v with
      |list s xs=>simp only;split<;>rfl
      |_=>rfl
     |_=>rfl
    |_=>rfl
   |some e=>
    simp only[exec,rd];generalize σ.ev x=v;generalize (σ.ev e).fW=q;cases q with
    |none=>
     grind
    |some q=>
     cases v with
     |one v=>cases v with
      |sl n s j len=>simp only;split<;>rfl
      |c v=>cases v with
       |list s xs=>simp only;split<;>rfl
       |_=>rfl
      |_=>rfl
     |_=>rfl
  |some lo=>
   cases e with
   |none=>
    simp only[exec,rd];generalize σ.ev x=v;generalize (σ.ev lo).fW=u;cases u with
    |none=>
     simp_all
    |some u=>
     cases v with
     |one v=>cases v with
      |sl n s j len=>simp only;split<;>rfl
      |c v=>cases v with
       |list s xs=>simp only;split<;>rfl
       |_=>rfl
      |_=>rfl
     |_=>rfl
   |some e=>
    simp only[exec,rd];generalize σ.ev x=v;generalize (σ.ev lo).fW=u;generalize (σ.ev e).fW=q;cases u with
    |none=>
     simp_all
    |some u=>
     cases q with
     |none=>
      grind
     |some q=>
      cases v with
      |one v=>cases v with
       |sl n s j len=>simp only;split<;>rfl
       |c v=>cases v with
        |list s xs=>simp only;split<;>rfl
        |_=>rfl
       |_=>rfl
      |_=>rfl
def St.we (σ:St) (e:Nat->aw):St:={σ with env:=e}
def za (e:Nat->aw) (d:Option Nat) (x:Nat->aw):Nat->aw:=
 match d with
 |some n=>aN e n (x n)
 |none=>e
theorem aw6 (σ:St):σ.we σ.env=σ:=rfl
theorem Cd (σ:St) (e:Nat->aw) (d:Option Nat) (v:aw):(σ.we e).put d v=(σ.put d v).we (za e d (σ.put d v).env):=by cases d with|none=>rfl|some n=>simp[St.put,St.we,za,dd]
theorem QC (σ:St) (e:Nat->aw) (n:Nat) (b:aV):(σ.we e).ins n b=(σ.ins n b).map (·.we e):=by unfold St.ins;by_cases h:σ.used n=true;rw[ai h,ai (show(σ.we e).used n=true from h)];rfl;rw[aq h,aq (show¬(σ.we e).used n=true from h)];rfl
theorem FH:∀(l:List (Nat×aV)) (σ:St) (e:Nat->aw),(σ.we e).eU l=(σ.eU l).map (·.we e)
 |[],σ,e=>rfl
 |(n,b)::l,σ,e=>by simp only[St.eU,QC];cases σ.ins n b with|none=>rfl|some σ1=>exact FH l σ1 e
theorem awM (σ:St) (e:Nat->aw) (c:ao):(σ.we e).ir c=(σ.ir c).map fun x=>(x.1,x.2.1,x.2.2.we e):=by cases c with|c x=>rfl|nil sz=>simp_all [St.ir]|sl n sz lo len=>have:(σ.we e).h n=σ.h n:=rfl;simp only[St.ir,this];(cases σ.h n with|none=>rfl|some b=>cases b with|box cs=>rfl|row gr m rs xs=>simp only;split<;>rfl)|_=>rfl
theorem SR:∀(cs:List ao) (σ:St) (e:Nat->aw),(σ.we e).jm cs=(σ.jm cs).map fun x=>(x.1,x.2.1,x.2.2.we e)
 |[],σ,e=>rfl
 |c::cs,σ,e=>by simp only[St.jm,awM];cases σ.ir c with|none=>rfl|some x=>obtain⟨x,o,σ1⟩:=x;simp only[GB,SR cs σ1 e];cases σ1.jm cs<;>rfl
theorem aji (sz:Nat):∀(vs:List aw) (σ:St) (e:Nat->aw),(σ.we e).nE sz vs=(σ.nE sz vs).map fun x=>(x.1,x.2.1,x.2.2.we e)
 |[],σ,e=>rfl
 |v::vs,σ,e=>by simp only[St.nE];cases v.cells? with|none=>rfl|some x=>obtain⟨ag,cs⟩:=x;simp only;split;simp only[SR];(cases σ.jm cs with|none=>rfl|some y=>obtain⟨y,o,σ1⟩:=y;simp only[GB,aji sz vs σ1 e];cases σ1.nE sz vs<;>rfl);rfl
theorem aj8 (σ:St) (e:Nat->aw) (sz:Nat) (v:aw):AX (σ.we e) sz v=(AX σ sz v).map fun x=>(x.1,x.2.1,x.2.2.we e):=by cases v with|one v=>(cases v with|sl a s lo len=>(cases lo with|zero=>have:(σ.we e).h a=σ.h a:=rfl;simp only[AX,this];(cases σ.h a with|none=>rfl|some b=>cases b with|box cs=>rfl|row c m rs xs=>cases c with|true=>simp only;split<;>rfl|false=>rfl)|succ lo=>rfl)|_=>rfl)|_=>rfl
theorem aj9 (fl:Bool) (σ:St) (e:Nat->aw) (sz:Nat) (m:Mode) (v:aw):ud fl (σ.we e) sz m v=(ud fl σ sz m v).map fun x=>(x.1,x.2.1,x.2.2.we e):=by cases v with|one v=>(cases v with|sl b s lo len=>have:(σ.we e).h b=σ.h b:=rfl;simp only[ud,this];(cases σ.h b with|none=>rfl|some b=>cases b with|box cs=>rfl|row gr m rs xs=>simp only;(repeat' split);all_goals rfl)|c x=>(cases x with|list s ys=>grind [ud]|_=>rfl)|_=>rfl)|_=>rfl
theorem awC (σ:St) (e:Nat->aw) (n:Nat) (c:Bool) (m:Mode) (b:Nat) (xs:List (List C)) (k off:Nat) (a:List C) (vs:List ao): u9 (σ.we e) n c m b xs k off a vs=(u9 σ n c m b xs k off a vs).map (·.we e):=by simp only[u9,SR];cases sub a off vs.length with|none=>rfl|some mB=>simp only;cases σ.jm vs with|none=>rfl|some x=>obtain⟨cs,o,σ1⟩:=x;have:(σ1.we e).h n=σ1.h n:=rfl;simp only[GB,this];(repeat' split);all_goals rfl
theorem JM (T:bz) (d:Option Nat) (op:dB) {ev ev':MO->aw} (h:Nat->Option aV) (a:∀x∈op.args,ev' x=ev x):rd T d op ev' h=rd T d op ev h:=by have hl:∀xs:List MO,(∀x∈xs,ev' x=ev x)->xs.map ev'=xs.map ev:=fun xs hx=>IN hx;have n:∀(ps:List (Nat×Nat×MO)) (c:List ao),(∀x∈ps.map (·.2.2),ev' x=ev x)->wD ev' c ps=wD ev c ps:=(by intro ps;induction ps with|nil=>intro c _;rfl|cons p ps ih=>grind [wD]);cases op with|build c ps=>simp only[rd];rw[n ps c a]|call m f xs=>simp only[rd];rw[hl xs a]|pS f xs=>simp only[rd];rw[hl xs a]|oI f xs=>simp only[rd];rw[hl xs a]|slice sz x lo e=>have g:=a x (by simp[dB.args]);(cases lo with|none=>(cases e with|none=>simp only[rd,g]|some e=>have j:=a e (by simp[dB.args]);simp only[rd,g,j])|some lo=>have l:=a lo (by simp[dB.args]);cases e with|none=>simp only[rd,g,l]|some e=>have j:=a e (by simp[dB.args]);simp only[rd,g,l,j])|mv x=>simp_all [dB.args,rd]|pick x y z=>simp_all [dB.args,rd]|alloc c=>rfl|box sz x=>simp_all [dB.args,rd]|iu sz ps=>rfl|AZ sz ps=>simp only[rd];rw[hl ps a]|qp m f xs=>rfl|uf m f xs=>rfl|qV f xs=>rfl|load ag sz x=>simp_all [dB.args,rd]|store sz x v=>rfl|lZ x=>simp_all [dB.args,rd]|bin op x y=>simp_all [dB.args,rd]|ue op x y=>simp_all [dB.args,rd]|un op x=>simp_all [dB.args,rd]|conv k x=>simp_all [dB.args,rd]|jW m sz ew c x y=>simp_all [dB.args,rd]|q8 off x=>simp_all [dB.args,rd]|rm sz x y=>simp_all [dB.args,rd]|ext i x=>simp_all [dB.args,rd]|len x=>simp_all [dB.args,rd]|append fl sz ew x y=>rfl|copy sz x y=>rfl|wR z x=>rfl|mm b x y=>simp_all [dB.args,rd]
theorem S0 (σ:St) (e:Nat->aw):(σ.we e).h=σ.h:=rfl
theorem atC (σ:St) (e:Nat->aw) (it:e7) (x:C):(σ.we e).tG it x=(σ.tG it x).map (·.we e):=by cases it with|nil sz=>rfl|row n=>(cases x with|int k i=>rfl|bool b=>rfl|list sz xs=>simp only[St.tG,S0];cases σ.h n with|none=>rfl|some b=>cases b with|box cs=>rfl|row d m c a=>simp only;split<;>rfl)|nest n k off=>simp only[St.tG,S0];cases σ.h n with|none=>rfl|some b=>cases b with|box cs=>rfl|row d m c a=>simp only;cases a[k]? with|none=>rfl|some el=>rfl
theorem ag5:∀(a:List (e7×Mode)) (b:List C) (σ:St) (e:Nat->aw),(σ.we e).wx a b=(σ.wx a b).map (·.we e)
 |[],[],σ,e=>rfl
 |it::a,x::b,σ,e=>by simp only[St.wx,atC];cases σ.tG it.1 x with|none=>rfl|some σ1=>exact ag5 a b σ1 e
 |[],_::_,σ,e=>rfl
 |_::_,[],σ,e=>rfl
theorem ae3 (m:Mode) (σ:St) (e:Nat->aw) (nm:Nat) (ds:List Dv):(σ.we e).nQ m nm ds=(σ.nQ m nm ds).map fun x=>(x.1,x.2.we e):=by simp only[QB];cases Dz m nm ds with|none=>rfl|some x=>simp only[OF,FH];cases σ.eU x.2 with|none=>rfl|some σ1=>rfl
theorem aco (T:bz) (m:Mode) (d:Option Nat) (f:FuncId) (as:List aw) (σ:St) (e:Nat->aw):
  wT T m d f as (σ.we e)=(wT T m d f as σ).map fun τ=>τ.we (za e d τ.env):=by
 unfold wT;cases bz.uo T.DP f with
 |none=>rfl
 |some z=>
  obtain⟨sig,M⟩:=z;cases wu as with
  |none=>rfl
  |some a=>
   simp only
   by_cases b:(tz sig a).Nodup
   ·rw[ai b,ai b];show(match qJ σ.h (fq σ.h (tz sig a)) sig a with|some (ds,its)=>_|none=>none)=_
    cases qJ σ.h (fq σ.h (tz sig a)) sig a with
    |none=>rfl
    |some z=>
     grind [ag5,ae3,Cd]
   simp_all
theorem alD (T:bz) (m:Mode) (d:Option Nat) (f:FuncId) (as:List aw) (σ:St) (e:Nat->aw): Bi T m d f as (σ.we e)=(Bi T m d f as σ).map fun τ=>τ.we (za e d τ.env):=by unfold Bi;cases bz.yf T.xs f with|none=>rfl|some z=>obtain⟨i,M⟩:=z;simp only;cases as[i]? with|none=>rfl|some x=>have hh:(σ.we e).h=σ.h:=rfl;simp only[hh];cases KE σ.h x with|none=>rfl|some z=>obtain⟨n,lo,len,N⟩:=z;exact aco _ _ _ _ _ _ _
theorem UU:∀(as:List aw) (σ:St) (e:Nat->aw),(σ.we e).lE as=(σ.lE as).map fun x=>(x.1,x.2.1,x.2.2.we e)
 |[],σ,e=>rfl
 |v::as,σ,e=>by simp only[St.lE,S0,SR];cases vt σ.h v with|some x=>obtain⟨n,xs⟩:=x;simp only[UU as σ e];cases σ.lE as<;>rfl|none=>simp only;cases v.cells? with|none=>rfl|some x=>obtain⟨ag,cs⟩:=x;simp only;cases σ.jm cs with|none=>rfl|some y=>obtain⟨xs,o,σ1⟩:=y;simp only[GB,UU as σ1 e];cases σ1.lE as<;>rfl
theorem atA (σ:St) (e:Nat->aw) (ns:List Nat) (out:List C):(σ.we e).uW ns out=(σ.uW ns out).map (·.we e):=by
 match ns,out with
 |[],[]=>rfl
 |[],_::_=>rfl
 |[n],out=>
  simp only[St.uW,S0];cases σ.h n with
  |none=>rfl
  |some b=>
   cases b with
   |box cs=>simp only;split<;>rfl
   |row gr m rs xs=>rfl
 |_::_::_,out=>rfl
theorem aky (σ:St) (e:Nat->aw) (d:Option Nat) (a:List Dv):vu (σ.we e) d a=(vu σ d a).map fun τ=>τ.we (za e d τ.env):=by unfold vu;split;(cases d with|none=>rfl|some q=>grind [QC,Cd]);cases qu a with|none=>rfl|some ls=>simp only[GB,Cd]
theorem akx (σ:St) (e:Nat->aw) (d:Option Nat) (o:Bool) (a:List Dv):vv (σ.we e) d o a=(vv σ d o a).map fun τ=>τ.we (za e d τ.env):=by cases o with|false=>exact aky σ e d a|true=>grind [vv,ae3,Cd]
theorem alA (T:bz) (d:Option Nat) (f:FuncId) (as:List aw) (σ:St) (e:Nat->aw): vD T d f as (σ.we e)=(vD T d f as σ).map fun τ=>τ.we (za e d τ.env):=by unfold vD;rw[UU];cases σ.lE as with|none=>rfl|some x=>obtain⟨ds,ns,σ1⟩:=x;simp only[GB];cases bz.rO T.vs f with|none=>rfl|some M=>obtain⟨o,M⟩:=M;simp only;cases M ds with|none=>rfl|some z=>obtain⟨a,out⟩:=z;simp only[atA];cases σ1.uW ns out with|none=>rfl|some σ2=>exact akx σ2 e d _ a
theorem VJ (T:bz) (d:Option Nat) (op:dB) (σ:St) (e:Nat->aw) (a:∀x∈op.args,(σ.we e).ev x=σ.ev x) (hd:∀sz x v,op=.store sz x v->d=none): exec T d op (σ.we e)=(exec T d op σ).map fun τ=>τ.we (za e d τ.env):=by by_cases t:op.jZ<=1;rw[ul T d op _ t,ul T d op _ t,JM T d op _ a];show Option.bind (rd T d op σ.ev σ.h) _=_;(cases rd T d op σ.ev σ.h with|none=>rfl|some x=>simp only[OF,jg,FH];cases σ.eU x.2 with|none=>rfl|some σ1=>simp only[GB,Cd]);cases op<;>simp[dB.jZ] at t;(case iu sz ps=>have hl:ps.map (σ.we e).ev=ps.map σ.ev:=IN a;simp only[exec,hl,aji];cases d with|none=>rfl|some n=>cases σ.nE sz (ps.map σ.ev) with|none=>rfl|some x=>grind [QC,Cd]);(case store sz x v=>have g:=a x (by simp[dB.args]);have l:=a v (by simp[dB.args]);have hd:=hd sz x v rfl;subst hd;simp only[exec,g,l];cases σ.ev x with|one p=>(cases p with|ptr n k u off=>(cases (σ.ev v).cells? with|none=>rfl|some y=>obtain⟨ag,vs⟩:=y;have:(σ.we e).h n=σ.h n:=rfl;simp only[this];split;(cases σ.h n with|none=>rfl|some b=>cases b with|box cs=>simp only;split<;>rfl|row j m o xs=>simp only;split;(cases xs[k]? with|none=>rfl|some el=>simp only[awC];rfl);rfl);rfl)|eE n k u off s i=>(cases (σ.ev v).cells? with|none=>rfl|some y=>obtain⟨ag,vs⟩:=y;have:(σ.we e).h n=σ.h n:=rfl;simp only[this];split;(cases σ.h n with|none=>rfl|some b=>cases b with|box cs=>rfl|row j m o xs=>cases m with|live=>(cases j with|true=>rfl|false=>simp only;split;cases Gv xs k off s i vs<;>rfl;rfl)|_=>cases j<;>rfl);rfl)|_=>cases (σ.ev v).cells?<;>rfl)|agg cs=>cases (σ.ev v).cells?<;>rfl|cT cs=>cases (σ.ev v).cells?<;>rfl);(case append fl sz ew x y=>have g:=a x (by simp[dB.args]);have l:=a y (by simp[dB.args]);simp only[exec,g,l,aj8];cases d with|none=>rfl|some n=>grind [aj9,QC,Cd]);(case copy sz x y=>have g:=a x (by simp[dB.args]);have l:=a y (by simp[dB.args]);have r:(σ.we e).h=σ.h:=rfl;simp only[exec,g,l,r];cases σ.ev x with|one p=>(cases p with|sl n s lo len=>(cases σ.ev y with|one c=>simp only;(cases σ.h n with|none=>rfl|some b=>cases b with|box cs=>rfl|row j m o xs=>cases dX σ.h c with|none=>rfl|some q=>cases q with|list s' ys=>simp only;split;exact congrArg some (Cd (σ.fQ n _) e d _);rfl|_=>rfl)|_=>rfl)|_=>rfl)|_=>rfl);(case wR z x=>have g:=a x (by simp[dB.args]);have r:(σ.we e).h=σ.h:=rfl;simp only[exec,g,r];cases σ.ev x with|one p=>(cases p with|sl n s lo len=>simp only;(cases σ.h n with|none=>rfl|some b=>cases b with|box cs=>rfl|row j m o xs=>simp only;split;exact congrArg some (Cd (σ.fQ n _) e d _);rfl)|_=>rfl)|_=>rfl);(case qp m f xs=>have hl:xs.map (σ.we e).ev=xs.map σ.ev:=IN a;simp only[exec,hl,aco]);(case qV f xs=>have hl:xs.map (σ.we e).ev=xs.map σ.ev:=IN a;simp only[exec,hl,alA]);case uf m f xs=>have hl:xs.map (σ.we e).ev=xs.map σ.ev:=IN a;simp only[exec,hl,alD]
section
variable {u:Nat->Prop} {h h':Nat->Option aV}
theorem ap9 (hh:∀n,u n->h' n=h n) {p:ao} (a:∀m,p.ref m->u m) (sz:Nat):loadAt h' p sz=loadAt h p sz:=by cases p with|ptr n k b off=>simp only[loadAt,hh n (a n rfl)]|eE n k b off s i=>simp only[loadAt,hh n (a n rfl)]|_=>rfl
theorem ao.Gq {c:ao} {m:Nat} (h:c.kE m):c.ref m:=by cases c<;>first|exact h|exact h.elim
def aw.Rs:aw->Nat->Prop
 |.one c,m=>c.kE m
 |.agg cs,m=>∃c∈cs,c.kE m
 |.cT _,_=>False
theorem aw.atM {x:aw} {m:Nat} (h:x.Rs m):x.ref m:=by cases x with|one c=>exact ao.Gq h|agg cs=>obtain⟨c,a,h⟩:=h;exact⟨c,a,ao.Gq h⟩|cT xs=>exact h.elim
theorem KB (hh:∀n,u n->h' n=h n) {p:ao} (a:∀m,p.kE m->u m):dX h' p=dX h p:=by cases p with|sl n sz lo len=>simp only[dX,hh n (a n rfl)]|cF n k aZ off sz len=>simp only[dX,hh n (a n rfl)]|_=>rfl
theorem SY (hh:∀n,u n->h' n=h n):∀{l:List ao} (_:∀p∈l,∀m,p.kE m->u m),mb h' l=mb h l
 |[],_=>rfl
 |c::cs,hp=>by have b:=KB hh (hp c (by simp));have a:=SY hh (l:=cs) fun p q=>hp p (zaT _ q);simp only[mb,b,a]
theorem aw3 (hh:∀n,u n->h' n=h n) (e:∀m cs c n,h m=some (.box cs)->c∈cs->c.ref n->u n) {x:aw} (hx:∀m,x.Rs m->u m):mD h' x=mD h x:=by cases x with|one c=>(cases c with|ptr n k sz off=>simp only[mD,hh n (hx n rfl)];(cases hn:h n with|none=>rfl|some b=>cases b with|box cs=>simp only[SY hh fun p a m hm=>e n cs p m hn a (ao.Gq hm)]|row gr m sz xs=>rfl)|ez xs off=>rfl|c x=>rfl|nil sz=>rfl|sl n sz lo len=>simp only[mD];rw[KB hh (p:=.sl n sz lo len) hx]|cF n k d off sz len=>simp only[mD];rw[KB hh (p:=.cF n k d off sz len) hx]|eE n k d off sz i=>rfl|dE xs off j n sz len=>rfl|fn f fv=>rfl|cj=>rfl)|agg cs=>simp only[mD,SY hh fun p a m hm=>hx m ⟨p,a,hm⟩]|cT xs=>rfl
theorem ajB (hh:∀n,u n->h' n=h n) (a:∀m cs c n,h m=some (.box cs)->c∈cs->c.ref n->u n):∀{xs:List aw} (_:∀x∈xs,∀m,x.Rs m->u m),qk h' xs=qk h xs
 |[],_=>rfl
 |x::xs,hx=>by have d:=aw3 hh a (hx x (by simp));have b:=ajB hh a (xs:=xs) fun p q=>hx p (zaT _ q);simp only[qk,d,b]
theorem aqo (hh:∀n,u n->h' n=h n) {a:Mode} {c:ao} (b:∀m,c.ref m->u m):yT h' a c=yT h a c:=by cases c with|sl n sz lo len=>simp only[yT,hh n (b n rfl)]|cF n k aZ off sz len=>simp only[yT,hh n (b n rfl)]|_=>rfl
theorem aeR (hh:∀n,u n->h' n=h n) (ns:List Nat):∀n,u n->fq h' ns n=fq h ns n:=fun n hn=>by simp_all [fq]
theorem YG (hh:∀n,u n->h' n=h n) (ns:List Nat):∀(a:List (Option Mode)) (cs:List ao),(∀c∈cs,∀m,c.ref m->u m)->o8 h' (fq h' ns) a cs=o8 h (fq h ns) a cs
 |[],cs,hc=>by simp only[o8,SY (aeR hh ns) fun p b m hm=>hc p b m (ao.Gq hm)]
 |none::a,c::cs,hc=>by simp only[o8,KB (aeR hh ns) fun m hm=>hc c (by simp) m (ao.Gq hm),YG hh ns a cs fun p b=>hc p (by simp[b])]
 |some md::a,c::cs,hc=>by simp only[o8,aqo hh (hc c (by simp)),YG hh ns a cs fun p b=>hc p (by simp[b])]
 |none::_,[],_=>rfl
 |some _::_,[],_=>rfl
theorem agb (hh:∀n,u n->h' n=h n) (ns:List Nat):∀(as:List (Bool×List ao)) (sig:df),(∀x∈as,∀c∈x.2,∀m,c.ref m->u m)->qJ h' (fq h' ns) sig as=qJ h (fq h ns) sig as
 |[],_,_=>rfl
 |(ag,cs)::as,sig,hc=>by simp only[qJ,YG hh ns (df.hd sig) cs (hc (ag,cs) (by simp)),agb hh ns as (df.tl sig) fun x hx=>hc x (by simp[hx])]
theorem YK:∀{a:List (Option Mode)} {cs:List ao} {n:Nat},n∈sj a cs->∃c∈cs,c.ref n
 |some _::a,c::cs,n,hn=>by simp only[sj] at hn;rcases zaa.1 hn with h|h;refine⟨c,by simp,?_⟩;cases c<;>simp[ao.g0] at h<;>(subst h;rfl);obtain⟨b,e,d⟩:=YK h;grind
 |none::a,c::cs,n,hn=>by simp only[sj] at hn;obtain⟨b,e,d⟩:=YK hn;grind
 |[],_,n,hn=>by simp[sj] at hn
 |some _::_,[],n,hn=>by simp[sj] at hn
 |none::_,[],n,hn=>by simp[sj] at hn
theorem af5:∀{as:List (Bool×List ao)} {sig:df} {n:Nat},n∈tz sig as->∃x∈as,∃c∈x.2,c.ref n
 |a::as,s::sig,n,hn=>by simp only[tz] at hn;rcases zaa.1 hn with h|h;obtain⟨c,d,b⟩:=YK h;grind;obtain⟨x,d,b⟩:=af5 h;grind
 |[],s::sig,n,hn=>by simp[tz] at hn
 |as,[],n,hn=>by cases as<;>simp[tz] at hn
theorem afU:∀{as:List aw} {a:List (Bool×List ao)},wu as=some a->∀x∈a,∀c∈x.2,∀m,c.ref m->∃v∈as,v.ref m
 |[],a,hx,x,hm=>by simp_all [wu]
 |v::vs,a,hx,x,hm=>by simp only[wu] at hx;split at hx;rename_i y ys d e;injection hx with hx;subst hx;intro c b m hr;(cases hm with|head=>exact⟨v,by simp,aw.CY d b hr⟩|tail _ hm=>obtain⟨v',h1,h2⟩:=afU e x hm c b m hr;grind);cases hx
theorem alC (hh:∀n,u n->h' n=h n) {T:bz} {f:FuncId} {as:List aw} (hx:∀x∈as,∀m,x.ref m->u m):vE T f as h'=vE T f as h:=by unfold vE;cases bz.ye T.ws f with|none=>rfl|some M=>obtain⟨sig,M⟩:=M;cases hc:wu as with|none=>rfl|some a=>have hr:∀x∈a,∀c∈x.2,∀m,c.ref m->u m:=fun x d c e m b=>(by obtain⟨v,a1,a2⟩:=afU hc x d c e m b;grind);simp only;cases hn:tz sig a with|nil=>rfl|cons n l=>cases l with|cons n2 l=>rfl|nil=>obtain⟨x,d,c,e,b⟩:=af5 (n:=n) (sig:=sig) (as:=a) (by rw[hn];simp);simp only[agb hh [n] a sig hr,hh n (hr x d c e n b)]
theorem aha (T:bz) (d:Option Nat) (op:dB) (ev:MO->aw) (hh:∀n,u n->h' n=h n) (o:op.afd=true->∀m cs c n,h m=some (.box cs)->c∈cs->c.ref n->u n) (hx:∀x∈op.args,∀m,(ev x).ref m->u m):rd T d op ev h'=rd T d op ev h:=by cases op with|load ag sz x=>have a:=hx x (by simp[dB.args]);simp only[rd];(cases hv:ev x with|one p=>rw[hv] at a;simp only[ap9 hh (p:=p) a]|_=>rfl)|lZ x=>have a:=hx x (by simp[dB.args]);simp only[rd];(cases hv:ev x with|one p=>(cases p with|ptr n k sz off=>rw[hv] at a;simp only[hh n (a n rfl)]|_=>rfl)|_=>rfl)|q8 off x=>have a:=hx x (by simp[dB.args]);simp only[rd];(cases hv:ev x with|one p=>(cases p with|ptr n k sz off=>rw[hv] at a;simp only[hh n (a n rfl)]|_=>rfl)|_=>rfl)|len x=>have a:=hx x (by simp[dB.args]);simp only[rd];(cases hv:ev x with|one p=>(cases p with|sl n sz lo len=>rw[hv] at a;simp only[hh n (a n rfl)]|cF n k g off sz len=>rw[hv] at a;simp only[KB hh (p:=.cF n k g off sz len) (fun m hm=>a m (ao.Gq hm))]|c x=>cases x<;>rfl|_=>rfl)|_=>rfl)|rm sz x i=>have a:=hx x (by simp[dB.args]);simp only[rd];generalize (ev i).fW=q;(cases hv:ev x with|one p=>(cases p with|sl n s lo len=>rw[hv] at a;have b:=hh n (a n rfl);(cases q with|none=>rfl|some q=>simp only[b])|cF n k g off s len=>rw[hv] at a;(cases q with|none=>rfl|some q=>simp only[KB hh (p:=.cF n k g off s len) (fun m hm=>a m (ao.Gq hm))])|c x=>cases x<;>cases q<;>rfl|_=>cases q<;>rfl)|_=>cases q<;>rfl)|slice sz x lo hi=>have a:=hx x (by simp[dB.args]);simp only[rd];(cases hv:ev x with|one p=>(cases p with|sl n s l0 len=>rw[hv] at a;have b:=hh n (a n rfl);(cases lo with|none=>simp only[b]|some lo=>simp only;cases (ev lo).fW with|none=>rfl|some q=>simp only[b])|c x=>grind|_=>cases lo<;>rfl)|_=>cases lo<;>rfl)|call m f xs=>simp only[rd,OZ];have r:∀e:Nat->Prop,(∀x∈(dB.call m f xs).args,∀m,(ev x).ref m->e m)->∀x∈xs.map ev,∀m,x.Rs m->e m:=(by intro e hx x j q l;obtain⟨y,hy,rfl⟩:=BY.1 j;exact hx y hy q (aw.atM l));rw[ajB hh (o rfl) (r _ hx)]|oI f xs=>rfl|pS f xs=>have:vE T f (xs.map ev) h'=vE T f (xs.map ev) h:=alC hh fun x j q l=>(by obtain⟨y,hy,rfl⟩:=BY.1 j;exact hx y hy q l);simp only[rd,this]|_=>rfl
theorem ag9 (T:bz) (d:Option Nat) (op:dB) (ev:MO->aw) (hh:∀n,u n->h' n=h n) (a:∀m cs c n,h m=some (.box cs)->c∈cs->c.ref n->u n) (hx:∀x∈op.args,∀m,(ev x).ref m->u m):rd T d op ev h'=rd T d op ev h:= aha T d op ev hh (fun _=>a) hx
theorem ahc (T:bz) (d:Option Nat) (op:dB) (ev:MO->aw) (h h':Nat->Option aV) (a:op.jZ=0):rd T d op ev h'=rd T d op ev h:=by cases op<;>simp[dB.jZ] at a<;>rfl
end
def kR (e:Nat->aw) (d:Option Nat) (v:aw):Nat->aw:=
 match d with
 |some n=>aN e n v
 |none=>e
theorem yV (σ:St) (d:Option Nat) (v:aw):σ.put d v=σ.we (kR σ.env d v):=by cases d<;>rfl
theorem Cc {e:Nat->aw} {d:Option Nat} {v:aw} {n:Nat} (h:d≠some n):kR e d v n=e n:=by cases d with|none=>rfl|some m=>exact dP _ _ _ _ (fun a=>h (by rw[a]))
theorem Ro (e:Nat->aw) {d a:Option Nat} (v b:aw) (h:∀n,d=some n->a≠some n):kR (kR e d v) a b=kR (kR e a b) d v:=by cases d with|none=>rfl|some n=>cases a with|none=>rfl|some m=>have bm:m≠n:=fun c=>h n rfl (by rw[c]);funext k;simp only[kR,mZ];grind
def ajy (d:Option Nat) (x:Nat->aw):aw:=
 match d with
 |some n=>x n
 |none=>.one .cj
theorem aaK (e:Nat->aw) (d:Option Nat) (x:Nat->aw):za e d x=kR e d (ajy d x):=by cases d<;>rfl
theorem ao3 {σ σ1 σ2:St} {n m:Nat} {b c:aV} (h:σ.ins n b=some σ1) (f:σ1.ins m c=some σ2):∃τ,σ.ins m c=some τ/\τ.ins n b=some σ2:=by
 obtain⟨g,rfl⟩:=oR h;obtain⟨u2,rfl⟩:=oR f;have a:m≠n:=fun e=>by simp_all [dd]
 have d:σ.used m=false:=by simpa[dP _ _ _ _ a] using u2
 have un:aN σ.used m true n=false:=by rw[dP _ _ _ _ (zaZ a)];exact g
 refine⟨_,by unfold St.ins;rw[aq (by simp[d])],?_⟩;unfold St.ins;simp only[un,zaC,if_false];congr 2<;>grind [mZ]
theorem ae9 {m:Nat} {c:aV}:∀{A:List (Nat×aV)} {σ σ1 σ2:St},σ.eU A=some σ1->σ1.ins m c=some σ2->∃τ,σ.ins m c=some τ/\τ.eU A=some σ2
 |[],σ,σ1,σ2,h1,h2=>by simp_all [St.eU]
 |(n,b)::A,σ,σ1,σ2,h1,h2=>by simp only[St.eU] at h1;split at h1;rename_i pj e;obtain⟨τ,a,t2⟩:=ae9 h1 h2;obtain⟨τ',s1,s2⟩:=ao3 e a;simp_all [St.eU];cases h1
theorem X0:∀{a A:List (Nat×aV)} {σ σ1 σ2:St},σ.eU A=some σ1->σ1.eU a=some σ2->∃τ,σ.eU a=some τ/\τ.eU A=some σ2
 |[],A,σ,σ1,σ2,h1,h2=>by simp_all [St.eU]
 |(m,c)::a,A,σ,σ1,σ2,h1,h2=>by simp only[St.eU] at h2;split at h2;rename_i jX e;obtain⟨τ,t1,b⟩:=ae9 h1 e;obtain⟨τ',s1,s2⟩:=X0 b h2;simp_all [St.eU];cases h2
theorem FG:∀{A:List (Nat×aV)} {σ σ1:St},σ.eU A=some σ1->(∀n,σ.used n=true->σ1.used n=true/\σ1.h n=σ.h n)/\σ1.env=σ.env
 |[],σ,σ1,h1=>by simp_all [St.eU]
 |(m,c)::A,σ,σ1,h1=>by simp only[St.eU] at h1;split at h1;rename_i pj e;obtain⟨u1,rfl⟩:=oR e;obtain⟨a,b⟩:=FG h1;refine⟨fun n hn=>?_,b⟩;have f:n≠m:=fun he=>(by simp_all);obtain⟨g,d⟩:=a n (sD _ _ hn);exact⟨g,by rw[d];exact dP _ _ _ _ f⟩;cases h1
structure Wf (σ:St):Prop where
 env:∀s m,(σ.env s).ref m->σ.used m=true
 box:∀m cs c n,σ.h m=some (.box cs)->c∈cs->c.ref n->σ.used n=true
def ao.flat:ao->Bool
 |.c _|.nil _|.cj=>true
 |_=>false
def MO.flat:MO->Bool
 |.t _=>true
 |.k (.one c)=>c.flat
 |.k (.agg cs)=>cs.all ao.flat
 |.k (.cT xs)=>xs.isEmpty
theorem ao.adg {c:ao} (h:c.flat=true) (m:Nat):¬c.ref m:=by cases c<;>first|exact id|(simp[ao.flat] at h)
theorem Wf.arg {σ:St} (W:Wf σ) {x:MO} (hx:x.flat=true) (m:Nat) (hm:(σ.ev x).ref m):σ.used m=true:=by cases x with|t n=>exact W.env n m hm|k v=>cases v with|one c=>exact absurd hm (ao.adg hx m)|agg cs=>obtain⟨c,a,hm⟩:=hm;exact absurd hm (ao.adg (AT.1 hx c a) m)|cT xs=>have:xs=[]:=(by simpa[MO.flat] using hx);subst this;obtain⟨c,a,_⟩:=hm;cases a
theorem ahb (T:bz) (d:Option Nat) (op:dB) (ev:MO->aw) (h:Nat->Option aV) (a:op.jZ=0) {x:aw×List (Nat×aV)} (hx:rd T d op ev h=some x):x.2=[]:=by cases op<;>simp[dB.jZ] at a<;>simp only[rd] at hx;all_goals grind
theorem acB {σ:St} {e:Nat->aw} {x:MO} (h:∀n,x=.t n->e n=σ.env n):(σ.we e).ev x=σ.ev x:=by cases x with|t n=>exact h n rfl|k v=>rfl
section
variable {T:bz} {dx dy:Option Nat} {x y:dB} {σ σ1 σ2:St}
theorem E1 (b:∀sz p v,x=.store sz p v->dx=none) (a:exec T dx x σ=some σ1):σ1.env=kR σ.env dx (ajy dx σ1.env):=by
 have h:=VJ T dx x σ σ.env (fun _ _=>rfl) b;rw[aw6,a] at h;simp only[GB] at h;injection h with h;rw[<-aaK]
 calc σ1.env=(σ1.we (za σ.env dx σ1.env)).env:=by rw[<-h]
  _=_:=rfl
theorem alc (W:Wf σ) (hd:∀n,dx=some n->dy≠some n) (H:∀n,dx=some n->MO.t n∉y.args) (N:∀n,dy=some n->MO.t n∉x.args) (Q:∀a∈x.args,a.flat=true) (R:∀a∈y.args,a.flat=true) (L:∀sz p v,x=.store sz p v->dx=none) (M:∀sz p v,y=.store sz p v->dy=none) (axs:x.jZ=0\/y.jZ=0\/(x.jZ<=1/\y.jZ<=1)) (c:exec T dx x σ=some σ1) (b:exec T dy y σ1=some σ2):∃τ,exec T dy y σ=some τ/\exec T dx x τ=some σ2:=by have j:∀(e:Nat->aw) (v:aw) (s:St),∀a∈y.args,(s.we (kR s.env dx v)).ev a=s.ev a:=fun e v s a d=>acB fun n hn=>Cc fun i=>H n i (hn▸d);have o:∀(e:Nat->aw) (v:aw) (s:St),∀a∈x.args,(s.we (kR s.env dy v)).ev a=s.ev a:=fun e v s a d=>acB fun n hn=>Cc fun i=>N n i (hn▸d);by_cases J:x.jZ=0;rw[ul T dx x σ (by omega)] at c;(cases hr:rd T dx x σ.ev σ.h with|none=>simp_all|some p=>obtain⟨v,D⟩:=p;have C:D=[]:=ahb T dx x _ _ J hr;subst C;rw[hr] at c;simp only[OF,jg,St.eU,GB] at c;injection c with c;rw[yV] at c;subst c;rw[VJ T dy y σ _ (j σ.env v σ) M] at b;cases hy:exec T dy y σ with|none=>simp_all|some τ=>rw[hy] at b;simp only[GB] at b;injection b with b;refine⟨τ,rfl,?_⟩;have z:=E1 M hy;rw[ul T dx x τ (by omega),ahc T dx x τ.ev σ.h τ.h J,JM T dx x (ev:=σ.ev) (ev':=τ.ev) σ.h (fun a d=>by cases a with|t n=>show τ.env n=σ.env n;rw[z];exact Cc fun i=>N n i d|k v=>rfl),hr];simp only[OF,jg,St.eU,GB];rw[<-b,yV];congr 1;have:kR τ.env dx v=za (kR σ.env dx v) dy τ.env:=(by rw[aaK,Ro σ.env _ _ hd];rw[<-z]);rw[this]);by_cases K:y.jZ=0;rw[ul T dy y σ1 (by omega)] at b;(cases hr:rd T dy y σ1.ev σ1.h with|none=>simp_all|some p=>obtain⟨v,D⟩:=p;have C:D=[]:=ahb T dy y _ _ K hr;subst C;rw[hr] at b;simp only[OF,jg,St.eU,GB] at b;injection b with b;have z:=E1 L c;refine⟨σ.put dy v,?_,?_⟩;rw[ul T dy y σ (by omega),ahc T dy y σ.ev σ1.h σ.h K,JM T dy y (ev:=σ1.ev) (ev':=σ.ev) σ1.h (fun a d=>by cases a with|t n=>show σ.env n=σ1.env n;rw[z];exact(Cc fun i=>H n i d).symm|k v=>rfl),hr];rfl;rw[yV,VJ T dx x σ _ (o σ.env v σ) L,c];simp only[GB];rw[<-b,yV];congr 2;rw[aaK,<-Ro σ.env _ _ hd,<-z]);have l:x.jZ<=1:=(by omega);have w:y.jZ<=1:=(by omega);rw[ul T dx x σ l] at c;cases hr:rd T dx x σ.ev σ.h with|none=>simp_all|some p=>obtain⟨v,A⟩:=p;rw[hr] at c;simp only[OF,jg] at c;cases hA:σ.eU A with|none=>simp_all|some f=>rw[hA] at c;simp only[GB] at c;injection c with c;rw[yV] at c;subst c;obtain⟨O,G⟩:=FG hA;rw[ul T dy y _ w] at b;have E:rd T dy y (f.we (kR f.env dx v)).ev (f.we (kR f.env dx v)).h=rd T dy y σ.ev σ.h:=(by rw[JM T dy y (ev:=σ.ev) _ (fun a d=>by rw[j σ.env v f a d];cases a with|t n=>show f.env n=σ.env n;rw[G]|k v=>rfl)];exact ag9 (u:=fun n=>σ.used n=true) T dy y σ.ev (fun n hn=>(O n hn).2) W.box (fun a d m hm=>W.arg (R a d) m hm));rw[E] at b;cases MP:rd T dy y σ.ev σ.h with|none=>simp_all|some q=>obtain⟨v2,P⟩:=q;rw[MP] at b;simp only[OF,jg,FH] at b;cases hB:f.eU P with|none=>simp_all|some r=>rw[hB] at b;simp only[GB] at b;injection b with b;obtain⟨g,F,S⟩:=X0 hA hB;obtain⟨U,I⟩:=FG F;obtain⟨oab,eab⟩:=FG hB;refine⟨g.put dy v2,?_,?_⟩;rw[ul T dy y σ w,MP];simp[jg,F];rw[yV,ul T dx x _ l];have B:rd T dx x (g.we (kR g.env dy v2)).ev (g.we (kR g.env dy v2)).h=rd T dx x σ.ev σ.h:=(by rw[JM T dx x (ev:=σ.ev) _ (fun a d=>by rw[o σ.env v2 g a d];cases a with|t n=>show g.env n=σ.env n;rw[I]|k v=>rfl)];exact ag9 (u:=fun n=>σ.used n=true) T dx x σ.ev (fun n hn=>(U n hn).2) W.box (fun a d m hm=>W.arg (Q a d) m hm));rw[B,hr];simp only[OF,jg,FH,S,GB];rw[<-b,yV,yV];congr 1;show r.we (kR (kR g.env dy v2) dx v)=r.we (kR (kR f.env dx v) dy v2);rw[I,G,Ro σ.env _ _ hd]
end
theorem VI (T:bz) (o:dC) (σ:St):gA T o σ=(wU o σ.env).bind fun op=>exec T o.dst op σ:=by unfold gA wU;cases hg:o.guard with|none=>rfl|some g=>obtain⟨s,tO⟩:=g;simp only;generalize σ.env s=v;cases v with|one c=>(cases c with|c x=>(cases x with|bool b=>simp only;split<;>rfl|_=>rfl)|_=>rfl)|agg cs=>rfl|cT xs=>cases xs<;>rfl
def dC.Ju (o:dC) (n:Nat):Bool:=(o.op.args.all fun a=>match a with|.t m=>m !=n|_=>true)&&(match o.guard with|some (s,_)=>s !=n|none=>true)
def dC.HZ (o:dC):Bool:=o.op.args.all MO.flat&&(match o.op with|.store ..=>o.dst.isNone|_=>true)
theorem dC.agk {o:dC} {n:Nat} (h:o.Ju n=true):MO.t n∉o.op.args:=by intro hm;simp only[dC.Ju,co,AT] at h;grind
theorem acp {o:dC} {e:Nat->aw} {op:dB} (h:wU o e=some op):op=o.op\/op=.mv (.k (.cT [])):=by grind [wU]
theorem VB {o:dC} {e a:Nat->aw} (h:∀s w,o.guard=some (s,w)->a s=e s):wU o a=wU o e:=by grind [wU]
def zj (P:Program) (f:FuncId) (M:List Dv->Option (List Dv)):Prop:=
 ∀ds rs,M ds=some rs->∀(w:World) (vals:List Value),KG w ds vals->Calls P f vals.toArray w fun e w'=>
  ∃(sz cap:Nat) (a:Option Addr) (xs:List (List PC)),rs=[(.one,[(PC.list sz a cap xs).er])]/\e=.returned (PC.list sz a cap xs).val/\xW w' w.heap.size [PC.list sz a cap xs]/\Fr w.heap.size Ex.no w w'/\t8 w' sz xs
theorem zj.pure {P:Program} {f:FuncId} {M:List Dv->Option (List Dv)} (h:zj P f M):eI P f M:=by intro ds b k w vals j;refine(h ds b k w vals j).mono fun e w' ⟨sz,cap,a,xs,g,i,d,c,_⟩=>?_;refine⟨[(.one,[PC.list sz a cap xs])],by rw[g];rfl,i,fun p hp=>?_,by simpa using d,c⟩;simp_all
def OT (P:Program) (T:bz):Prop:=∀f M,bz.find T.ns f=some M->zj P f M
def U9 (aR:Array Oper) (o:Oper) (mo:dC):Bool:=
 match o.guard,mo.guard with
 |none,none=>true
 |some (j,tO),some (s,ajF)=>decide ((aR[j]?).bind (·.dst)=some s)&&(tO==ajF)
 |_,_=>false
def x9 (P:Program) (N:Nat) (aR:Array Oper) (o:Oper) (mo:dC):Bool:=
 decide (o.dst=mo.dst)&&(match o.dst with|some n=>decide (n<N)|none=>true)&&U9 aR o mo&&iD P o mo.op
def nF (P:Program) (N:Nat) (aR:Array Oper):List Oper->List dC->Bool
 |[],[]=>true
 |o::os,m::ms=>x9 P N aR o m&&nF P N aR os ms
 |_,_=>false
section
variable {B:Nat} {E:Ex} {w0 w w':World} {G G':Gh} {N:Nat}
variable {P:Program} {T:bz} {o:Oper} {mo:dC} {a:Act} {σ σ':St} {Q:Exit->Act->World->Prop} {aR:Array Oper}
structure pQ (P:Program) (T:bz):Prop where
 spec:OR P T
 aiG:OS P T
 aiH:Hh P T
 aiI:CN P T
 awp:OT P T
 fn:∀f M,bz.find T.pure f=some M->cB P f=true
theorem R.guard (r:R B E w0 N σ a w G) {j s:Nat} {b:Bool} (hj:(aR[j]?).bind (·.dst)=some s) (f:σ.env s=.one (.c (.bool b))):yielded aR a.tmps j=some b:=by have e:=r.env s;rw[f] at e;have d:=e.Hu;have h3:a.tmps[s]? =some (.bool b):=(by rw[zay] at d;cases ht:a.tmps[s]? with|none=>rw[ht] at d;simp[undef] at d|some v=>simp_all);unfold yielded;simp_all
theorem aiv {w:World} {G:Gh} {h:Nat->Option aV}:RA w G h (.cT []) undef:=⟨[],rfl,rfl,fun j x u hx=>by simp at hx⟩
theorem aiw {u:Nat->Prop} (m:Nat) (hm:(aw.cT []).ref m):u m:=by obtain⟨c,a,_⟩:=hm;cases a
theorem R.anz (r:R B E w0 N σ a w G) {j s:Nat} (hj:(aR[j]?).bind (·.dst)=some s) (e:σ.env s=.cT []):yielded aR a.tmps j=none:=by have b:=r.env s;rw[e] at b;obtain⟨vs,c,d,_⟩:=b;have:vs=[]:=List.length_eq_zero_iff.1 d;subst this;rw[zay] at c;unfold yielded;grind
theorem HW (r:R B E w0 N σ a w G) (c:pQ P T) (m:x9 P N aR o mo=true) (hx:gA T mo σ=some σ'): (Region.wanted o (yielded aR a.tmps)=true/\o.wp P a w (Nx B E w0 N σ') Q)\/(Region.wanted o (yielded aR a.tmps)=false/\Nx B E w0 N σ' (a.put o.dst undef) w):=by simp only[x9,co,decide_eq_true_eq] at m;obtain⟨⟨⟨f,c2⟩,e⟩,p⟩:=m;have g:∀n,o.dst=some n->n<N:=fun n hn=>(by grind);unfold U9 at e;unfold gA at hx;split at e;rename_i d k;simp only[k] at hx;rw[<-f] at hx;exact .inl ⟨by simp[Region.wanted,d],acJ r c.spec c.aiG c.aiH c.aiI c.fn g p hx⟩;rename_i j tO s ajF d k;simp only[co,decide_eq_true_eq,beq_iff_eq] at e;obtain⟨l,rfl⟩:=e;simp only[k] at hx;split at hx;rename_i b i;have hy:=r.guard l i;split at hx;rename_i h;rw[<-f] at hx;exact .inl ⟨by simp[Region.wanted,d,hy,h],acJ r c.spec c.aiG c.aiH c.aiI c.fn g p hx⟩;rename_i h;injection hx with hx;subst hx;refine .inr ⟨by simp[Region.wanted,d,hy,h],G,?_⟩;rw[<-f];exact r.put (x:=.cT []) aiv aiw g;rename_i i;have hy:=r.anz l i;injection hx with hx;subst hx;refine .inr ⟨by simp[Region.wanted,d,hy],G,?_⟩;rw[<-f];exact r.put (x:=.cT []) aiv aiw g;cases hx;cases e
theorem R.wf (r:R B E w0 N σ a w G):Wf σ:=⟨r.tP,r.hr.lz⟩
theorem axb {K:Act->World->Prop} (h:o.wp P a w K (fun _ _ _=>False)):∃f w',K f w':=by unfold Oper.wp at h;unfold Oper.upon at h;split at h;grind;grind;grind;obtain⟨e,w',fr,b,_⟩:=h [];(cases e with|returned v=>grind|panicked c=>exact b.elim|outgrown=>obtain⟨_,_,d⟩:=b;exact d.elim);obtain⟨v,w',b,_⟩:=h default [];grind;exact h.elim;exact h.elim
def zl (B:Nat) (E:Ex) (w0:World) (N:Nat) (σ:St):Prop:=∃a w G,R B E w0 N σ a w G
theorem ahf (r:zl B E w0 N σ) (c:pQ P T) (b:x9 P N aR o mo=true) (hx:gA T mo σ=some σ'):zl B E w0 N σ':=by obtain⟨a,w,G,r⟩:=r;rcases HW (Q:=fun _ _ _=>False) r c b hx with⟨_,h⟩|⟨_,G',h⟩;obtain⟨d,w',G',h⟩:=axb h;exact⟨d,w',G',h⟩;exact⟨_,_,G',h⟩
theorem aaU (b:pQ P T):∀{l:List Oper} {ms:List dC} {σ σ':St} {a:Act} {w:World} {G:Gh},nF P N aR l ms=true->iv T ms σ=some σ'->R B E w0 N σ a w G-> (∀a w G,R B E w0 N σ' a w G->Q .normal a w)->wpList P aR Q l a w
 |[],[],σ,σ',a,w,G,hc,hx,r,hQ=>by simp only[iv] at hx;injection hx with hx;subst hx;exact hQ _ _ _ r
 |o::l,m::ms,σ,σ',a,w,G,hc,hx,r,hQ=>by simp only[nF,co] at hc;simp only[iv] at hx;split at hx;rename_i σ1 e;unfold wpList;rcases HW (Q:=Q) r b hc.1 e with⟨c,h⟩|⟨c,G',h⟩;rw[ai c];exact .inl (Oper.wp_mono (fun a' w' ⟨G',d⟩=>aaU b hc.2 hx d hQ) h);rw[aq (by simp[c])];exact aaU b hc.2 hx h hQ;cases hx
 |[],_::_,_,_,_,_,_,hc,_,_,_=>by simp[nF] at hc
 |_::_,[],_,_,_,_,_,hc,_,_,_=>by simp[nF] at hc
inductive tR (aR:Array Oper):Nat->Nat->Prop where
 |Vz (i:Nat) (o:Oper) (e:_):aR[i]? =some o->e∈o.after->Region.binds .any e=true->tR aR i e.on
 |step (i j:Nat) (o:Oper) (e:_):aR[i]? =some o->e∈o.after->Region.binds .any e=true->tR aR e.on j->tR aR i j
def VA (o:Oper):List Nat:=(o.after.toList.filter (Region.binds .any)).map (·.on)
def NG (acc:List Nat):List Nat->Nat
 |[]=>0
 |j::js=>(Nat.shiftLeft 1 j|||acc.getD j 0)|||NG acc js
def DN:List Oper->List Nat->List Nat
 |[],acc=>acc
 |o::os,acc=>DN os (acc++[NG acc (VA o)])
theorem aqm {o:Oper} {j:Nat} (h:j∈VA o):∃e∈o.after,Region.binds .any e=true/\e.on=j:=by grind [VA]
theorem afY {acc:List Nat}:∀{a:List Nat} {k:Nat},(NG acc a).testBit k=true->∃j∈a,j=k\/(acc.getD j 0).testBit k=true
 |[],k,h=>by simp[NG] at h
 |j::a,k,h=>by simp only[NG,Nat.testBit_or,zat] at h;rcases h with(h|h)|h;simp_all [Nat.one_shiftLeft,Nat.testBit_two_pow];simp_all;obtain⟨j',h1,h2⟩:=afY h;grind
theorem YF {b:Array Oper}:∀(os:List Oper) (acc:List Nat) (pre:List Oper),b.toList=pre++os->acc.length=pre.length->(∀i k,(acc.getD i 0).testBit k=true->tR b i k)-> ∀i k,((DN os acc).getD i 0).testBit k=true->tR b i k
 |[],acc,pre,_,_,h,i,k,a=>h i k a
 |o::os,acc,pre,he,hl,h,i,k,a=>by refine YF os _ (pre++[o]) (by simp[he]) (by simp[hl]) (fun i k a=>?_) i k a;by_cases cI:i<acc.length;grind;by_cases m:i=acc.length;subst m;rw[zae,zaf (Pe _),za3] at a;simp only[List.getElem?_cons_zero,Option.getD_some] at a;have d:b[acc.length]? =some o:=(by have:b.toList[acc.length]? =some o:=(by rw[he,hl,zaf (Pe _),za3];rfl);simpa using this);obtain⟨j,l,c⟩:=afY a;obtain⟨e,f,g,rfl⟩:=aqm l;rcases c with rfl|c;exact .Vz _ o e d f g;exact .step _ _ o e d f g (h _ _ c);grind
section
variable {I:List Nat->Act->World->Prop}
theorem ajJ (r:∀(i:Nat) (o:Oper),aR[i]? =some o->∀e∈o.after,Region.binds .any e=true->e.on<i) (hn:∀a w,I [] a w->Q .normal a w) (z:∀(pre:List Nat) (i:Nat) (post:List Nat) (a:Act) (w:World),I (pre++i::post) a w->(pre++i::post).Sublist (zag aR.size)-> (∀j k,j∉pre++i::post\/j=i->tR aR j k->k∉pre++i::post)->wpOp P aR Q i (I (pre++post)) a w): ∀(m:Nat) (L:List Nat) (l:Array Bool) (a:Act) (w:World),I L a w->L.Sublist (zag aR.size)->L.length<=m-> (∀j,l[j]? =if j<aR.size then some (decide (j∉L)) else none)->(∀j o,aR[j]? =some o->j∉L->∀e∈o.after,Region.binds .any e=true->e.on∉L)->wpAny P .any aR Q m l a w
 |m,L,l,a,w,hi,hS,hl,hL,hC=>by have p:∀i,i∈Region.ready .any aR l↔i∈L/\∃o,aR[i]? =some o/\∀e∈o.after,Region.binds .any e=true->e.on∉L:=(by intro i;rw[mem_ready];have lt:∀o,aR[i]? =some o->i<aR.size:=fun o h=>(zao.1 h).1;constructor;rintro⟨n,o,d,q⟩;have t:=lt o d;refine⟨by simpa[hL,t] using n,o,d,fun e b c=>?_⟩;have:=r i o d e b c;simpa[hL,show e.on<aR.size by omega] using q e b c;rintro⟨n,o,d,q⟩;have t:=lt o d;refine⟨by simpa[hL,t] using n,o,d,fun e b c=>?_⟩;have:=r i o d e b c;simpa[hL,show e.on<aR.size by omega] using q e b c);have x:Region.ready .any aR l=[]->L=[]:=(by intro hr;cases L with|nil=>rfl|cons j L=>have g:j<aR.size:=Pd.1 (hS.subset (by simp));have:j∈Region.ready .any aR l:=(p j).2 ⟨by simp,_,zal g,fun e b c hm=>by have n:=r j _ (zal g) e b c;rcases zai.1 hm with d|d;omega;have:=(List.pairwise_cons.1 (zaO hS zaM)).1 _ d;omega⟩;grind);cases m with|zero=>have:L=[]:=If (by omega);subst this;exact⟨zav.2 fun i h=>(by grind),hn _ _ hi⟩|succ m=>refine⟨fun hr=>hn _ _ (x hr▸hi),fun i h=>?_⟩;obtain⟨n,o,d,q⟩:=(p i).1 h;obtain⟨pre,post,rfl⟩:=List.append_of_mem n;have A:∀j k,j∉pre++i::post\/j=i->tR aR j k->k∉pre++i::post:=(by intro j k g u;have one:∀j o,(j∉pre++i::post\/j=i)->aR[j]? =some o->∀e∈o.after,Region.binds .any e=true->e.on∉pre++i::post:=(by rintro j v (g|rfl) f e b c;exact hC j v f g e b c;rw[d] at f;injection f with f;subst f;exact q e b c);induction u with|Vz j o e f b c=>exact one j o g f e b c|step j k o e f b c _ E=>exact E (.inl (one j o g f e b c)));have y:(pre++post).Sublist (pre++i::post):=zbh (za0 _) (List.sublist_cons_self i post);have B:(pre++i::post).Nodup:=(hS.nodup za4);have W8:i∉pre++post:=(by simp only[za1,za9] at B;simp only[zaa];rintro(h|h);exact B.2.2 i h i (by simp) rfl;grind);have G:∀j,j∉pre++post↔j∉pre++i::post\/j=i:=(by intro j;by_cases s:j=i;grind;simp[s]);refine wpOp_mono (fun D w' h'=>ajJ r hn z m (pre++post) _ D w' h' (y.trans hS) (by simp at hl⊢;omega) (fun j=>?_) (fun j v f g e b c=>?_)) (z pre i post a w hi hS A);rw[Array.getElem?_setIfInBounds];have dn:l.size=aR.size:=(by have F:=hL l.size;have C:=hL aR.size;simp at F C;omega);by_cases s:i=j;grind;rw[aq s,hL];simp[zaZ s];exact A j e.on ((G j).1 g) (.Vz j v e f b c)|>fun h hm=>h (y.subset hm)
theorem ajI (hm:P.follows .mixedOrders=true) {id:Nat} {a:Act} {w:World} (g:∀(i:Nat) (o:Oper),aR[i]? =some o->∀e∈o.after,Region.binds .any e=true->e.on<i) (hn:∀a w,I [] a w->Q .normal a w) (b:∀(pre:List Nat) (i:Nat) (post:List Nat) (a:Act) (w:World),I (pre++i::post) a w->(pre++i::post).Sublist (zag aR.size)-> (∀j k,j∉pre++i::post\/j=i->tR aR j k->k∉pre++i::post)->wpOp P aR Q i (I (pre++post)) a w) (d:I (zag aR.size) a {w with drawn:=w.drawn+1}):(Code.region id aR true).wp P Q a w:= wp_region_any hm (ajJ g hn b aR.size (zag aR.size) _ a _ d (za0 _) (by simp) (fun j=>by grind) fun j o f c=>absurd (Pd.2 (zao.1 f).1) c)
end
theorem ab0:∀{l:List Oper} {ms:List dC},nF P N aR l ms=true->ms.length=l.length/\∀(i:Nat) (m:dC),ms[i]? =some m->∃o,l[i]? =some o/\x9 P N aR o m=true
 |[],[],_=>⟨rfl,by simp⟩
 |o::l,m::ms,hc=>by simp only[nF,co] at hc;obtain⟨i1,i2⟩:=ab0 hc.2;grind
 |[],_::_,hc=>by simp[nF] at hc
 |_::_,[],hc=>by simp[nF] at hc
theorem R.drawn (r:R B E w0 N σ a w G) (k:Nat):R B E w0 N σ a {w with drawn:=k} G:=by have c:∀b,b<w.heap.size->({w with drawn:=k}:World).heap[b]? =w.heap[b]? :=fun _ _=>rfl;exact r.step rfl (fun _ h=>h) (bU.world (fun b d=>c b (r.hr.jG b d)) _) (r.hr.grow c (Pe _)) (r.fr.grow c (Pe _) rfl rfl rfl)
end
theorem Zo (ok:Nat->Bool) (env:Nat->aw):∀(a:List Nat) (n:Nat),Cg ok env a n=if n∈a then(env n).eR ok else .one .cj
 |[],n=>by simp[Cg,C5]
 |s::a,n=>by simp only[Cg,mZ,Zo ok env a,zai];by_cases h:n=s;subst h;simp;simp[h]
theorem Rx (ok:Nat->Bool) (h:Nat->Option aV):∀(d:List Nat) (n:Nat),xB ok h d n=if n∈d/\ok n=true then(h n).map (·.eR ok) else none
 |[],n=>by simp[xB,HS]
 |s::d,n=>by have c:=Rx ok h d n;simp only[xB,zai];by_cases hn:n=s;subst hn;by_cases a:ok n=true;rw[ai a];(cases hh:h n with|some b=>simp[dd,a]|none=>simp only[c,hh];simp);rw[aq a,c];simp[a];by_cases a:ok s=true;rw[ai a];(cases hh:h s with|some b=>simp only[dP _ _ _ _ hn,c];simp[hn]|none=>simp only[c];simp[hn]);rw[aq a,c];simp[hn]
theorem aho (ok:Nat->Bool):∀(b:List Nat) (n:Nat),Ch ok b n=(decide (n∈b)&&ok n)
 |[],n=>by simp[Ch,acv]
 |s::b,n=>by have c:=aho ok b n;simp only[Ch];by_cases hn:n=s;subst hn;by_cases a:ok n=true;rw[ai a];simp[dd,a];rw[aq a,c];simp[a];by_cases a:ok s=true;rw[ai a,dP _ _ _ _ hn,c];simp[hn];rw[aq a,c];simp[hn]
theorem ao.ak2 {ok:Nat->Bool} {c:ao} {m:Nat} (h:(c.iJ ok).kE m):ok m=true:=by(cases c<;>simp only[ao.iJ] at h<;>first|exact h.elim|skip);all_goals split at h;rename_i a;have h':=h;simp only[ao.kE] at h';subst h';exact a;exact h.elim
theorem ao.HG {ok:Nat->Bool} {c:ao} {m:Nat} (h:(c.eR ok).ref m):ok m=true:=by cases c with|fn f fv=>obtain⟨x,hx,h⟩:=h;obtain⟨y,hy,rfl⟩:=BY.1 hx;exact ao.ak2 h|c x=>exact h.elim|nil sz=>exact h.elim|ez xs off=>exact h.elim|cj=>exact h.elim|ptr n k sz off=>simp only[ao.eR,ao.iJ] at h;split at h;rename_i a;have h':m=n:=h;subst h';exact a;exact h.elim|sl n sz lo len=>simp only[ao.eR,ao.iJ] at h;split at h;rename_i a;have h':m=n:=h;subst h';exact a;exact h.elim|cF n k b off sz len=>simp only[ao.eR,ao.iJ] at h;split at h;rename_i a;have h':m=n:=h;subst h';exact a;exact h.elim|eE n k b off sz i=>simp only[ao.eR,ao.iJ] at h;split at h;rename_i a;have h':m=n:=h;subst h';exact a;exact h.elim|dE xs off j n sz len=>simp only[ao.eR,ao.iJ] at h;split at h;rename_i a;have h':m=n:=h;subst h';exact a;exact h.elim
section
variable {B N:Nat} {E:Ex} {w0 w w':World} {G G':Gh} {h h':Nat->Option aV} {ok:Nat->Bool} {P:Program} {T:bz} {a:Act} {σ σ':St} {Q:Exit->Act->World->Prop}
structure vk (ok:Nat->Bool) (h h':Nat->Option aV):Prop where
 le:∀n,ok n=true->h' n=(h n).map (·.eR ok)\/h' n=none
 no:∀n,ok n=false->h' n=none
theorem vk.ne (L:vk ok h h') {n:Nat} (hn:h' n≠none):ok n=true/\h n≠none:=by cases hk:ok n with|false=>exact absurd (L.no n hk) hn|true=>refine⟨rfl,fun e=>?_⟩;rcases L.le n hk with a|a;rw[e] at a;exact hn a;exact hn a
theorem vk.row (L:vk ok h h') {n:Nat} {a:Bool} {m:Mode} {sz:Nat} {xs:List (List C)} (hn:h' n=some (.row a m sz xs)):h n=some (.row a m sz xs):=by obtain⟨d,e⟩:=L.ne (n:=n) (by rw[hn];simp);rcases L.le n d with c|c;rw[c] at hn;(cases hh:h n with|none=>exact absurd hh e|some b=>cases b with|box cs=>rw[hh] at hn;simp[aV.eR] at hn|row a m sz xs=>rw[hh] at hn;simp only[GB,aV.eR] at hn;exact hn);rw[c] at hn;cases hn
theorem vk.box (L:vk ok h h') {n:Nat} {cs:List ao} (hn:h' n=some (.box cs)):∃a,h n=some (.box a)/\cs=a.map (·.eR ok):=by obtain⟨d,e⟩:=L.ne (n:=n) (by rw[hn];simp);rcases L.le n d with c|c;rw[c] at hn;(cases hh:h n with|none=>exact absurd hh e|some b=>cases b with|box a=>rw[hh] at hn;simp only[GB,aV.eR] at hn;injection hn with hn;injection hn with hn;exact⟨a,rfl,hn.symm⟩|row gr m sz xs=>rw[hh] at hn;simp[aV.eR] at hn);rw[c] at hn;cases hn
theorem kT.less (L:vk ok h h') {c:ao} {v:Value} (a:kT w G h c v):kT w G h' (c.iJ ok) v:=by cases c with|ptr n k sz off=>simp only[ao.iJ];split;exact fun hn=>a (L.ne hn).2;trivial|sl n sz lo len=>simp only[ao.iJ];split;exact fun hn=>a (L.ne hn).2;trivial|cF n k m off sz len=>simp only[ao.iJ];split;exact fun d xs hn=>a d xs (L.row hn);trivial|eE n k m off sz i=>simp only[ao.iJ];split;exact fun d xs hn=>a d xs (L.row hn);trivial|dE xs off j n sz len=>simp only[ao.iJ];split;obtain⟨b,o,pe,r,s,q,g,l⟩:=a;obtain⟨u,p,u2,e⟩:=l;exact⟨b,o,pe,r,s,q,g,u,p,u2,fun hn=>e (L.ne hn).2⟩;trivial|c x=>exact a|nil sz=>exact a|ez xs off=>exact a|fn f fv=>exact a|cj=>exact a
theorem RC.less (L:vk ok h h') {c:ao} {v:Value} (a:RC w G h c v):RC w G h' (c.eR ok) v:=by cases c with|fn f m=>obtain⟨vs,o,p,e⟩:=a;refine⟨vs,o,by simpa using p,fun j c u b g=>?_⟩;rw[AN] at b;(cases a:m[j]? with|none=>rw[a] at b;cases b|some l=>rw[a] at b;simp at b;subst b;exact⟨(e j l u a g).1,(e j l u a g).2.less L⟩)|ptr n k sz off=>have:=kT.less (w:=w) (G:=G) L (c:=.ptr n k sz off) a;simp only[ao.eR];rw[AS];exact this;simp only[ao.iJ];split<;>rfl|sl n sz lo len=>have:=kT.less (w:=w) (G:=G) L (c:=.sl n sz lo len) a;simp only[ao.eR];rw[AS];exact this;simp only[ao.iJ];split<;>rfl|cF n k d off sz len=>have:=kT.less (w:=w) (G:=G) L (c:=.cF n k d off sz len) a;simp only[ao.eR];rw[AS];exact this;simp only[ao.iJ];split<;>rfl|eE n k d off sz i=>have:=kT.less (w:=w) (G:=G) L (c:=.eE n k d off sz i) a;simp only[ao.eR];rw[AS];exact this;simp only[ao.iJ];split<;>rfl|dE xs off j n sz len=>have:=kT.less (w:=w) (G:=G) L (c:=.dE xs off j n sz len) a;simp only[ao.eR];rw[AS];exact this;simp only[ao.iJ];split<;>rfl|c x=>exact a|nil sz=>exact a|ez xs off=>exact a|cj=>exact a
theorem eN.less (L:vk ok h h') {cs:List ao} {vs:List Value} (b:eN w G h cs vs):eN w G h' (cs.map (·.eR ok)) vs:=by refine⟨by simpa using b.1,fun j c u a d=>?_⟩;rw[AN] at a;cases fK:cs[j]? with|none=>rw[fK] at a;cases a|some e=>rw[fK] at a;simp at a;subst a;exact⟨(b.2 j e u fK d).1,(b.2 j e u fK d).2.less L⟩
theorem RV.less (L:vk ok h h') {ag:Bool} {cs:List ao} {v:Value} (a:RV w G h ag cs v):RV w G h' ag (cs.map (·.eR ok)) v:=by unfold RV at*;split;rename_i b;simp only[b,if_true] at a;obtain⟨vs,e,c⟩:=a;exact⟨vs,e,c.less L⟩;rename_i b;simp only[b] at a;exact eN.less L a
theorem RA.less (L:vk ok h h') {x:aw} {v:Value} (b:RA w G h x v):RA w G h' (x.eR ok) v:=by cases x with|one c=>rcases b with rfl|b;exact zbe rfl;exact Or.inr (RV.less L b)|agg cs=>exact RV.less L b|cT xs=>obtain⟨vs,e,hl,d⟩:=b;refine⟨vs,e,by simpa using hl,fun j x u a f=>?_⟩;rw[AN] at a;cases fK:xs[j]? with|none=>rw[fK] at a;cases a|some g=>rw[fK] at a;simp at a;subst a;exact RV.less L (d j g u fK f)
theorem aw.HG {x:aw} {m:Nat} (h:(x.eR ok).ref m):ok m=true:=by cases x with|one c=>exact ao.HG h|agg cs=>obtain⟨c,a,h⟩:=h;obtain⟨b,d,rfl⟩:=BY.1 a;exact ao.HG h|cT xs=>obtain⟨x,hx,c,a,h⟩:=h;obtain⟨x0,Fx,rfl⟩:=BY.1 hx;obtain⟨b,d,rfl⟩:=BY.1 a;exact ao.HG h
theorem HR.less {used:Nat->Bool} (H:HR B E w G h used []) (L:vk ok h h'):HR B E w G h' ok []:=by refine⟨fun n hn=>(L.ne hn).1,fun m cs c n hm s hr=>?_,fun n cs hn=>?_,fun n a m sz xs hn=>H.row n a m sz xs (L.row hn),fun n hn=>H.own n (L.ne hn).2,fun n e hn f=>H.inj n e (L.ne hn).2 (L.ne f).2, H.jG,H.uD,fun n e a m sz xs r D y z hn f=>H.jE n e a m sz xs r D y z (L.row hn) (L.row f),fun n a sz xs hn b q e f=>H.live n a sz xs (L.row hn) b q e (L.ne f).2,?_,?_,?_⟩;obtain⟨k,_,rfl⟩:=L.box hm;obtain⟨l,_,rfl⟩:=BY.1 s;exact ao.HG hr;obtain⟨k,t,rfl⟩:=L.box hn;obtain⟨x,o,A⟩:=H.box n k t;refine⟨x,o,fun j c d=>?_⟩;rw[AN] at d;(cases fK:k[j]? with|none=>rw[fK] at d;cases d|some l=>rw[fK] at d;simp at d;subst d;obtain⟨v,p,u,C⟩:=A j l fK;exact⟨v,p,u,C.less L⟩);intro i pc g;simp at g;intro i j pc fP b _ g;simp at g;intro i pc n a m sz xs b g;simp at g
theorem HR.awY {used used':Nat->Bool} (H:HR B E w G h used []) (a:∀n,used n=true->used' n=true):HR B E w G h used' []:= ⟨fun n hn=>a n (H.mM n hn),fun m cs c n hm b hr=>a n (H.lz m cs c n hm b hr),H.box,H.row,H.own,H.inj,H.jG,H.uD,H.jE,H.live,H.xK,H.Ct,H.xL⟩
theorem YY {ke a:List Nat} {n:Nat} (hn:σ.nV ke a n=true):n∈a:=by simp only[St.nV,co] at hn;simpa using hn.1.1
theorem R.mU (r:R B E w0 N σ a w G) (ke c:List Nat):R B E w0 N (σ.mU ke c) a w G:=by have L:vk (σ.nV ke c) σ.h (σ.mU ke c).h:=(by refine⟨fun n hn=>.inl ?_,fun n hn=>?_⟩;show xB _ _ _ n=_;rw[Rx,ai ⟨YY hn,hn⟩];show xB _ _ _ n=_;rw[Rx,aq (by simp[hn])]);have j:∀n,σ.nV ke c n=true->(σ.mU ke c).used n=true:=(by intro n e;show(Nat.ble aY n||Ch _ _ n)=true;rw[aho];simp[e,YY e]);refine⟨r.defers,r.size,fun s=>?_,fun s n hn=>?_,?_,r.fr,fun n p b l i=>?_,fun n hn=>?_⟩;show RA w G _ (Cg _ _ _ s) _;rw[Zo];split;exact(r.env s).less L;exact zbe rfl;have g:(Cg (σ.nV ke c) σ.env ke s).ref n:=hn;rw[Zo] at g;split at g;exact j n (aw.HG g);exact absurd g id;exact(r.hr.less L).awY j;have o:(σ.mU ke c).h n≠none:=(by rw[i];simp);obtain⟨e,_⟩:=L.ne o;have sY:=fun b0 (f:σ.h n=some b0)=>r.qg n p b0 l f;have d:xB (σ.nV ke c) σ.h c n=some b:=i;rw[Rx,ai ⟨YY e,e⟩] at d;(cases f:σ.h n with|none=>rw[f] at d;cases d|some b0=>obtain⟨p1,k,q,p4,u,x⟩:=sY b0 f;refine⟨p1,k,q,p4,u,fun gr sz xs y=>?_⟩;rw[f,y] at d;cases b0 with|box cs=>simp[aV.eR] at d|row m m' t v=>simp only[aV.eR,GB,za2,aV.row.injEq] at d;obtain⟨_,rfl,_,_⟩:=d;exact x m t v rfl);show(Nat.ble aY n||_)=true;rw[zaP hn];rfl
end
def back (x c n:Nat):Nat:=if n=c then x else n
theorem abD {x c n:Nat} (hn:n≠c):back x c (sv x c n)=n:=by simp_all [back,sv]
theorem at8 {x c n:Nat} (hx:x≠c) (hn:n≠c):sv x c n≠x:=by grind [sv]
structure t9 (x c:Nat) (used:Nat->Bool) (h h':Nat->Option aV):Prop where
 ne:x≠c
 uc:used c=false
 gone:h' x=none
 b:∀n,n≠x->h' n=(h (back x c n)).map (·.cf x c)
section
variable {B N x c:Nat} {E:Ex} {w0 w w':World} {G G':Gh} {h h':Nat->Option aV} {used:Nat->Bool} {P:Program} {T:bz} {a:Act} {σ σ':St} {Q:Exit->Act->World->Prop}
def zI (G:Gh) (x c:Nat):Gh:=⟨G.Im,fun n=>G.g (back x c n)⟩
theorem t9.at (L:t9 x c used h h') {n:Nat} (hn:used n=true):h' (sv x c n)=(h n).map (·.cf x c):=by
 have a:n≠c:=fun e=>by subst e;rw[L.uc] at hn;cases hn
 rw[L.b _ (at8 L.ne a),abD a]
theorem t9.Mb (L:t9 x c used h h') {n:Nat} (hn:used n=true):(zI G x c).g (sv x c n)=G.g n:=by
 have a:n≠c:=fun e=>by subst e;rw[L.uc] at hn;cases hn
 show G.g (back x c (sv x c n))=_;rw[abD a]
theorem YC {o:Option aV} (hn:o.map (·.cf x c)≠none):o≠none:=by simp_all
theorem YD {o:Option aV} {a:Bool} {m:Mode} {sz:Nat} {xs:List (List C)} (hn:o.map (·.cf x c)=some (.row a m sz xs)):o=some (.row a m sz xs):=by cases o with|none=>cases hn|some b=>cases b with|box cs=>simp[aV.cf] at hn|row a m sz xs=>exact hn
theorem afW {o:Option aV} {cs:List ao} (hn:o.map (·.cf x c)=some (.box cs)):∃a,o=some (.box a)/\cs=a.map (·.cf x c):=by cases o with|none=>cases hn|some b=>cases b with|box a=>simp_all [GB,aV.cf]|row gr m sz xs=>simp[aV.cf] at hn
theorem kT.cf (L:t9 x c used h h') {y:ao} {v:Value} (hr:∀m,y.kE m->used m=true) (a:kT w G h y v):kT w (zI G x c) h' (y.tI x c) v:=by cases y with|ptr n k sz off=>intro hn;rw[L.at (hr n rfl)] at hn;rw[L.Mb (hr n rfl)];exact a (YC hn)|sl n sz lo len=>intro hn;rw[L.at (hr n rfl)] at hn;rw[L.Mb (hr n rfl)];exact a (YC hn)|cF n k p off sz len=>intro d xs hn;rw[L.at (hr n rfl)] at hn;rw[L.Mb (hr n rfl)];exact a d xs (YD hn)|eE n k p off sz i=>intro d xs hn;rw[L.at (hr n rfl)] at hn;rw[L.Mb (hr n rfl)];exact a d xs (YD hn)|dE xs off j n sz len=>obtain⟨b,o,pe,s,t,r,g,l⟩:=a;obtain⟨u,q,u2,e⟩:=l;refine⟨b,o,pe,s,t,r,g,u,q,u2,fun hn=>?_⟩;rw[L.at (hr n rfl)] at hn;rw[L.Mb (hr n rfl)];exact e (YC hn)|c x=>exact a|nil sz=>exact a|ez xs off=>exact a|fn f fv=>exact a|cj=>exact a
theorem RC.cf (L:t9 x c used h h') {y:ao} {v:Value} (hr:∀m,y.ref m->used m=true) (a:RC w G h y v):RC w (zI G x c) h' (y.cf x c) v:=by cases y with|fn f o=>obtain⟨vs,p,q,g⟩:=a;refine⟨vs,p,by simpa using q,fun j y u b l=>?_⟩;rw[AN] at b;(cases a:o[j]? with|none=>simp_all|some e=>rw[a] at b;simp at b;subst b;exact⟨(g j e u a l).1,(g j e u a l).2.cf L fun m hm=>hr m ⟨e,AI a,hm⟩⟩)|ptr n k sz off=>exact kT.cf (w:=w) (G:=G) L (y:=.ptr n k sz off) hr a|sl n sz lo len=>exact kT.cf (w:=w) (G:=G) L (y:=.sl n sz lo len) hr a|cF n k d off sz len=>exact kT.cf (w:=w) (G:=G) L (y:=.cF n k d off sz len) hr a|eE n k d off sz i=>exact kT.cf (w:=w) (G:=G) L (y:=.eE n k d off sz i) hr a|dE xs off j n sz len=>exact kT.cf (w:=w) (G:=G) L (y:=.dE xs off j n sz len) hr a|c x=>exact a|nil sz=>exact a|ez xs off=>exact a|cj=>exact a
theorem eN.cf (L:t9 x c used h h') {cs:List ao} {vs:List Value} (hr:∀y∈cs,∀m,y.ref m->used m=true) (b:eN w G h cs vs):eN w (zI G x c) h' (cs.map (·.cf x c)) vs:=by refine⟨by simpa using b.1,fun j y u a e=>?_⟩;rw[AN] at a;cases fK:cs[j]? with|none=>simp_all|some d=>rw[fK] at a;simp at a;subst a;exact⟨(b.2 j d u fK e).1,(b.2 j d u fK e).2.cf L (hr d (AI fK))⟩
theorem RV.cf (L:t9 x c used h h') {ag:Bool} {cs:List ao} {v:Value} (hr:∀y∈cs,∀m,y.ref m->used m=true) (a:RV w G h ag cs v):RV w (zI G x c) h' ag (cs.map (·.cf x c)) v:=by unfold RV at*;split;rename_i b;simp only[b,if_true] at a;obtain⟨vs,e,d⟩:=a;exact⟨vs,e,d.cf L hr⟩;rename_i b;simp only[b] at a;exact eN.cf L hr a
theorem RA.cf (L:t9 x c used h h') {y:aw} {v:Value} (hr:∀m,y.ref m->used m=true) (b:RA w G h y v):RA w (zI G x c) h' (y.cf x c) v:=by cases y with|one y=>rcases b with rfl|b;exact zbe rfl;exact Or.inr (RV.cf L (fun z a m hm=>hr m (by simp at a;subst a;exact hm)) b)|agg cs=>exact RV.cf L (fun z a m hm=>hr m ⟨z,a,hm⟩) b|cT xs=>obtain⟨vs,e,hl,g⟩:=b;refine⟨vs,e,by simpa using hl,fun j y u d i=>?_⟩;rw[AN] at d;cases fK:xs[j]? with|none=>simp_all|some f=>rw[fK] at d;simp at d;subst d;exact RV.cf L (fun z a m hm=>hr m ⟨f,AI fK,z,a,hm⟩) (g j f u fK i)
def Ei (used:Nat->Bool) (x c:Nat):Nat->Bool:=fun n=>if n=c then used x else if n=x then false else used n
theorem ao.JN (L:t9 x c used h h') {y:ao} {m:Nat} (hr:∀m,y.kE m->used m=true) (hm:(y.tI x c).kE m):Ei used x c m=true:=by have d:∀n,used n=true->m=sv x c n->Ei used x c m=true:=(by intro n hn e;subst e;have b:n≠c:=fun e=>(by subst e;rw[L.uc] at hn;cases hn);unfold Ei sv;by_cases a:n=x;subst a;simp[hn];simp[a,b,hn]);cases y<;>first|exact absurd hm id|exact d _ (hr _ rfl) hm
theorem ao.JO (L:t9 x c used h h') {y:ao} {m:Nat} (hr:∀m,y.ref m->used m=true) (hm:(y.cf x c).ref m):Ei used x c m=true:=by cases y with|fn f fv=>obtain⟨z,b,hm⟩:=hm;obtain⟨z0,d,rfl⟩:=BY.1 b;exact ao.JN L (fun m hm=>hr m ⟨z0,d,hm⟩) hm|ptr n k sz off=>exact ao.JN L (y:=.ptr n k sz off) hr hm|sl n sz lo len=>exact ao.JN L (y:=.sl n sz lo len) hr hm|cF n k a off sz len=>exact ao.JN L (y:=.cF n k a off sz len) hr hm|eE n k a off sz i=>exact ao.JN L (y:=.eE n k a off sz i) hr hm|dE xs off j n sz len=>exact ao.JN L (y:=.dE xs off j n sz len) hr hm|c x=>exact absurd hm id|nil sz=>exact absurd hm id|ez xs off=>exact absurd hm id|cj=>exact absurd hm id
theorem aw.JO (L:t9 x c used h h') {y:aw} {m:Nat} (hr:∀m,y.ref m->used m=true) (hm:(y.cf x c).ref m):Ei used x c m=true:=by cases y with|one y=>exact ao.JO L hr hm|agg cs=>obtain⟨z,b,hm⟩:=hm;obtain⟨z0,a,rfl⟩:=BY.1 b;exact ao.JO L (fun m hm=>hr m ⟨z0,a,hm⟩) hm|cT xs=>obtain⟨p,f,z,b,hm⟩:=hm;obtain⟨d,e,rfl⟩:=BY.1 f;obtain⟨z0,a,rfl⟩:=BY.1 b;exact ao.JO L (fun m hm=>hr m ⟨d,e,z0,a,hm⟩) hm
theorem HR.cf (H:HR B E w G h used []) (L:t9 x c used h h'):HR B E w (zI G x c) h' (Ei used x c) []:=by have f:∀n,h' n≠none->n≠x:=fun n hn e=>(by subst e;exact hn L.gone);have l:∀n,h' n≠none->h (back x c n)≠none:=fun n hn=>(by have:=L.b n (f n hn);simp_all);have u:∀{n d m sz xs},h' n=some (.row d m sz xs)->h (back x c n)=some (.row d m sz xs):=(by intro n d m sz xs hn;have:=L.b n (f n (by rw[hn];simp));rw[this] at hn;exact YD hn);have C:∀n a,n≠x->a≠x->n≠a->back x c n≠back x c a:=(by intro n a D k h3;unfold back;by_cases g:n=c;by_cases p:a=c;omega;simp[g,p];omega;by_cases p:a=c;simp[g,p];omega;simp[g,p];omega);have M:∀n,n≠x->used (back x c n)=true->Ei used x c n=true:=(by intro n D k;unfold Ei;unfold back at k;by_cases g:n=c;simp[g] at k⊢;exact k;simp[g] at k;simp[g,D,k]);refine⟨fun n hn=>M n (f n hn) (H.mM _ (l n hn)),fun m cs y n hm hy hr=>?_,fun n cs hn=>?_,fun n d m sz xs hn=>?_,fun n hn=>H.own _ (l n hn), fun n a hn i z=>H.inj _ _ (l n hn) (l a i) (C n a (f n hn) (f a i) z),H.jG,H.uD,fun n a d m sz xs N X T U hn i hm R z=>H.jE _ _ d m sz xs N X T U (u hn) (u i) hm R (C n a (f n (by rw[hn];simp)) (f a (by grind)) z),fun n d sz xs hn b J a i=>H.live _ d sz xs (u hn) b J _ (l a i),?_,?_,?_⟩;have O:=f m (by rw[hm];simp);rw[L.b m O] at hm;obtain⟨o,r,rfl⟩:=afW hm;obtain⟨t,I,rfl⟩:=BY.1 hy;exact ao.JO L (fun q A=>H.lz _ o t q r I A) hr;have P:=f n (by rw[hn];simp);rw[L.b n P] at hn;obtain⟨o,r,rfl⟩:=afW hn;obtain⟨S,F,V⟩:=H.box _ o r;refine⟨S,F,fun j y s=>?_⟩;rw[AN] at s;(cases fK:o[j]? with|none=>grind|some t=>rw[fK] at s;simp at s;subst s;obtain⟨v,K,Q,W⟩:=V j t fK;exact⟨v,K,Q,W.cf L fun q A=>H.lz _ o t q r (AI fK) A⟩);have hr:=H.row _ d m sz xs (u hn);refine⟨hr.pos,hr.er,hr.nl,hr.f6,hr.room,?_,hr.nr⟩;have hm:=hr.mode;cases m<;>exact hm;grind;grind;grind
theorem R.cf (r:R B E w0 N σ a w G) (hx:σ.cf x c=some σ'):∃G',R B E w0 N σ' a w G':=by
 unfold St.cf at hx;split at hx
 ·grind
 ·rename_i v;split at hx
  ·grind
  rename_i o;split at hx
  ·cases hx
  ·rename_i l;injection hx with hx;subst hx;have t:¬aY<=c:=fun k=>by rw[r.Aw c k] at l;exact l rfl
   have i:¬aY<=x:=fun k=>o (zaP k);have A:σ.used c=false:=by simpa using l
   have L:t9 x c σ.used σ.h (fun n=>if n=c then(σ.h x).map (·.cf x c) else if n=x then none else(σ.h n).map (·.cf x c)):=by
    refine⟨v,A,by simp[v],fun n hn=>?_⟩;unfold back;by_cases d:n=c
    ·simp[d]
    ·simp[d,hn]
   exact⟨zI G x c,r.defers,r.size,fun s=>(r.env s).cf L (fun m hm=>r.tP s m hm),fun s n hn=>aw.JO L (fun m hm=>r.tP s m hm) hn,r.hr.cf L,r.fr,fun n p b u z=>by
    have hn:=E.lt n p u;have j:n≠c:=fun e=>t (e▸hn);have q:n≠x:=fun e=>i (e▸hn);have f:(if n=c then(σ.h x).map (·.cf x c) else if n=x then none else(σ.h n).map (·.cf x c))=some b:=z
    rw[aq j,aq q] at f;have D:(zI G x c).g n=G.g n:=by simp[zI,back,j]
    rw[D];cases d:σ.h n with
    |none=>rw[d] at f;cases f
    |some b0=>
     obtain⟨p1,y,C,p4,F,p5⟩:=r.qg n p b0 u d;refine⟨p1,y,C,p4,F,fun gr sz xs H=>?_⟩;rw[d,H] at f;cases b0 with
     |box cs=>simp[aV.cf] at f
     |row cq m' bf aM=>
      grind [aV.cf,za2,aV.row.injEq],fun n hn=>by
    have j:n≠c:=fun e=>t (e▸hn);have q:n≠x:=fun e=>i (e▸hn);show(if n=c then σ.used x else if n=x then false else σ.used n)=true
    rw[aq j,aq q];exact r.Aw n hn⟩
theorem R.afa (r:R B E w0 N σ a w G) {m:Mode} {sz:Nat} (z:0<sz) (hx:σ.ins c (.row true m sz [])=some σ'): ∃G',R B E w0 N σ' a w G'/\RC w G' σ'.h (.sl c sz 0 0) (.slice none 0 0):=by obtain⟨hn,rfl⟩:=oR hx;have g:∀b,¬bK b ([]:List (List PC)):=(by rintro b ⟨k,j,q,⟨e,f,_⟩,_⟩;simp at f);have t:me ([]:List (List PC)):=⟨by rintro k j q ⟨e,f,_⟩;simp at f,by rintro k j q k' j' q' b ⟨e,f,_⟩;simp at f⟩;have H:=r.hr.insert (w':=w) (n:=c) (blk:=.row true m sz []) (p:=⟨true,0,0,0,[],none⟩) hn (fun _ _=>rfl) (Pe _) (fun l=>by cases l) (fun cs y q d=>by cases d) (by refine⟨z,rfl,fun _=>⟨rfl,fun _=>rfl⟩,(fun l=>by cases l),(fun l=>by cases l),?_,fun _ _ k pc x=>by obtain⟨e,f,_⟩:=x;simp at f⟩;cases m with|bh=>exact fun b d=>absurd d (g b)|bi=>exact⟨fun b d=>absurd d (g b),t⟩|live=>exact⟨fun b d=>absurd d (g b),t⟩) (fun s C u v d hm n' cq nA mC ko h0 kM b o=>absurd o (g b)) (fun s u v d b o=>absurd o (g b)) (fun s C u v d hm i pc b A=>by simp at A);refine⟨_,r.step rfl (fun q D=>sD _ _ D) (bU.insert r.hr hn (fun _ _=>rfl)) H r.fr,fun _=>?_⟩;simp only[dd];exact zbe ⟨rfl,rfl,rfl,rfl⟩
end
theorem ao.HL (n:Nat) (c:ao):c.mL n=c\/c.mL n=.cj:=by(cases c<;>first|(exact .inl rfl)|skip);grind [ao.mL];grind [ao.mL]
theorem ao.alj (n:Nat) (c:ao):(c.mL n).mL n=c.mL n:=by rcases c.HL n with h|h;rw[h,h];rw[h];rfl
theorem ao.alk {n m:Nat} {c:ao} (h:(c.mL n).kE m):c.kE m:=by rcases c.HL n with a|a;rwa[a] at h;rw[a] at h;exact h.elim
theorem ao.LG (n:Nat) (c:ao) (a:c.r6=false):c.cut n=c.mL n:=by cases c<;>first|rfl|(simp[ao.r6] at a)
theorem ao.HM (n:Nat) (c:ao):(c.cut n).cut n=c.cut n:=by by_cases a:c.r6=false;rw[ao.LG n c a];rcases c.HL n with h|h;rw[h,ao.LG n c a,h];rw[h];rfl;(cases c<;>first|(simp[ao.r6] at a;done)|skip);simp only[ao.cut,zaj];congr 1;apply IN;intro x _;exact ao.alj n x
theorem ao.HN {n m:Nat} {c:ao} (h:(c.cut n).ref m):c.ref m:=by by_cases b:c.r6=false;rw[ao.LG n c b] at h;rcases c.HL n with a|a;rwa[a] at h;rw[a] at h;exact h.elim;(cases c<;>first|(simp[ao.r6] at b;done)|skip);obtain⟨x,hx,hm⟩:=h;obtain⟨y,hy,rfl⟩:=BY.1 hx;exact⟨y,hy,ao.alk hm⟩
theorem aw.HN {n m:Nat} {x:aw} (h:(x.cut n).ref m):x.ref m:=by cases x with|one c=>exact ao.HN h|agg cs=>obtain⟨c,a,hm⟩:=h;obtain⟨y,hy,rfl⟩:=BY.1 a;exact⟨y,hy,ao.HN hm⟩|cT xs=>obtain⟨x,hx,c,a,hm⟩:=h;obtain⟨y,hy,rfl⟩:=BY.1 hx;obtain⟨z,b,rfl⟩:=BY.1 a;exact⟨y,hy,z,b,ao.HN hm⟩
theorem aw.HM (n:Nat) (x:aw):(x.cut n).cut n=x.cut n:=by cases x with|one c=>simp only[aw.cut,ao.HM]|agg cs=>simp only[aw.cut,zaj];congr 1;apply IN;intro x _;exact ao.HM n x|cT xs=>simp only[aw.cut,zaj];congr 1;apply IN;intro x _;simp only[Function.comp,zaj];congr 1;apply IN;intro y _;exact ao.HM n y
section
variable {B N n:Nat} {E:Ex} {w0 w w':World} {G G':Gh} {h h':Nat->Option aV} {used:Nat->Bool} {P:Program} {a:Act} {σ σ':St} {o:Oper} {Q:Exit->Act->World->Prop}
theorem Bf {m:Nat} (hm:(h m).map (aV.cut n)≠none):h m≠none:=by simp_all
theorem C3 {m:Nat} {c:Bool} {a:Mode} {sz:Nat} {xs:List (List C)} (hm:(h m).map (aV.cut n)=some (.row c a sz xs)):h m=some (.row c a sz xs):=by cases hh:h m with|none=>simp_all|some b=>rw[hh] at hm;cases b with|box cs=>simp[aV.cut] at hm|row cq nA bf aM=>simpa[aV.cut] using hm
theorem Vp {m:Nat} {cs:List ao} (hm:(h m).map (aV.cut n)=some (.box cs)):∃a,h m=some (.box a)/\cs=a.map (·.cut n):=by cases hh:h m with|none=>simp_all|some b=>rw[hh] at hm;cases b with|box a=>simp_all [aV.cut]|row cq nA bf aM=>simp[aV.cut] at hm
theorem kT.cut {c:ao} {v:Value} (a:kT w G h c v):kT w G (fun m=>(h m).map (aV.cut n)) (c.mL n) v:=by rcases c.HL n with e|e;rw[e];(cases c with|c x=>exact a|nil sz=>exact a|ptr m k sz off=>exact fun hm=>a (Bf hm)|ez xs off=>exact a|sl m sz lo len=>exact fun hm=>a (Bf hm)|cF m k p off sz len=>exact fun d xs hm=>a d xs (C3 hm)|eE m k p off sz i=>exact fun d xs hm=>a d xs (C3 hm)|dE xs off j m sz len=>obtain⟨b,o,pe,s,t,r,l,u,q,u2,g⟩:=a;exact⟨b,o,pe,s,t,r,l,u,q,u2,fun hm=>g (Bf hm)⟩|fn f fv=>exact a|cj=>trivial);rw[e];trivial
theorem RC.cut {c:ao} {v:Value} (f:RC w G h c v):RC w G (fun m=>(h m).map (aV.cut n)) (c.cut n) v:=by by_cases b:c.r6=false;rw[AS _ _ _ _ _ b] at f;rw[ao.LG n c b];have d:=f.cut (n:=n);rcases c.HL n with e|e;rw[e] at d⊢;rw[AS _ _ _ _ _ b];exact d;rw[e];trivial;(cases c<;>first|(simp[ao.r6] at b;done)|skip);obtain⟨vs,d,l,i⟩:=f;refine⟨vs,d,by simpa using l,fun j c u a g=>?_⟩;rw[AN] at a;cases fK:(_:List ao)[j]? with|none=>rw[fK] at a;cases a|some k=>rw[fK] at a;injection a with a;subst a;exact⟨(i j k u fK g).1,(i j k u fK g).2.cut⟩
theorem eN.cut {cs:List ao} {vs:List Value} (b:eN w G h cs vs):eN w G (fun m=>(h m).map (aV.cut n)) (cs.map (·.cut n)) vs:=by refine⟨by simpa using b.1,fun j c u a d=>?_⟩;rw[AN] at a;cases fK:cs[j]? with|none=>simp_all|some e=>rw[fK] at a;injection a with a;subst a;exact⟨(b.2 j e u fK d).1,(b.2 j e u fK d).2.cut⟩
theorem RV.cut {ag:Bool} {cs:List ao} {v:Value} (a:RV w G h ag cs v):RV w G (fun m=>(h m).map (aV.cut n)) ag (cs.map (·.cut n)) v:=by unfold RV at*;split;rename_i b;simp only[b,if_true] at a;obtain⟨vs,e,c⟩:=a;exact⟨vs,e,c.cut⟩;rename_i b;simp only[b] at a;exact eN.cut a
theorem RA.cut {x:aw} {v:Value} (a:RA w G h x v):RA w G (fun m=>(h m).map (aV.cut n)) (x.cut n) v:=by cases x with|one c=>rcases a with rfl|a;exact .inl rfl;exact .inr (RV.cut (n:=n) a)|agg cs=>exact RV.cut (n:=n) (ag:=true) a|cT xs=>obtain⟨vs,e,hl,f⟩:=a;refine⟨vs,e,by simpa using hl,fun j x u b g=>?_⟩;rw[AN] at b;cases fK:xs[j]? with|none=>simp_all|some d=>rw[fK] at b;injection b with b;subst b;exact(f j d u fK g).cut
theorem R.cut (r:R B E w0 N σ a w G) (n:Nat):R B E w0 N (σ.cut n) a w G:=by have H:=r.hr;refine⟨r.defers,r.size,fun s=>(r.env s).cut,fun s m hm=>r.tP s m (aw.HN hm),?_,r.fr,fun m p b A t=>?_,r.Aw⟩;refine⟨fun m hm=>H.mM m (Bf hm),fun m cs c q hm I hr=>?_,fun m cs hm=>?_,fun m d o sz xs hm=>H.row m d o sz xs (C3 hm),fun m hm=>H.own m (Bf hm), fun m i hm g=>H.inj m i (Bf hm) (Bf g),H.jG,H.uD,fun m i d o sz xs F Q M O hm g=>H.jE m i d o sz xs F Q M O (C3 hm) (C3 g), fun m d sz xs hm b t i g=>H.live m d sz xs (C3 hm) b t i (Bf g),by simp_all,by simp_all,by simp_all⟩;obtain⟨k,u,rfl⟩:=Vp hm;obtain⟨x,l,rfl⟩:=BY.1 I;exact H.lz m k x q u l (ao.HN hr);obtain⟨k,u,rfl⟩:=Vp hm;obtain⟨L,z,P⟩:=H.box m k u;refine⟨L,z,fun j c f=>?_⟩;rw[AN] at f;(cases l:k[j]? with|none=>simp_all|some x=>rw[l] at f;injection f with f;subst f;obtain⟨v,D,J,S⟩:=P j x l;exact⟨v,D,J,S.cut⟩);have C:(σ.h m).map (aV.cut n)=some b:=t;cases hh:σ.h m with|none=>simp_all|some b0=>obtain⟨p1,y,K,p4,T,p6⟩:=r.qg m p b0 A hh;refine⟨p1,y,K,p4,T,fun d sz xs e=>?_⟩;subst e;have:=C3 C;grind
structure Ha (q:Nat) (w:World) (G:Gh) (h:Nat->Option aV) (used:Nat->Prop) (w':World) (G':Gh) (h':Nat->Option aV):Prop where
 im:∀b,G.Im b->G'.Im b
 cell:∀b,G.Im b->∀o,w'.cell? (ad b o)=w.cell? (ad b o)
 name:∀n,used n->h' n≠none->h n≠none/\(G'.g n).nl=(G.g n).nl/\(G'.g n).b=(G.g n).b/\(G'.g n).o=(G.g n).o/\(G'.g n).cap=(G.g n).cap/\(G'.g n).na=(G.g n).na
 live:∀n gr sz xs,n≠q->used n->h' n=some (.row gr .live sz xs)->(∃vM m7,h n=some (.row vM .live sz m7))/\
  ∀k j pc,At (G.g n).px k j pc->pc.kO=true->∃fP,At (G'.g n).px k j fP/\fP.val=pc.val/\fP.kO=true
 box:∀b o v,G.Im b->w.cell? (ad b o)=some v->w'.cell? (ad b o)=some v
theorem kT.uF {q:Nat} {used:Nat->Prop} (K:Ha q w G h used w' G' h') {c:ao} {v:Value} (O:c.mL q=c) (hr:∀m,c.kE m->used m) (d:kT w G h c v):kT w' G' h' c v:=by cases c with|c x=>obtain⟨pc,r,s,e,p⟩:=d;exact⟨pc,r,s,e.congr fun b D o=>K.cell b (p b D) o,fun b D=>K.im b (p b D)⟩|nil sz=>exact d|ptr n k sz off=>intro hn;obtain⟨g,z,E,L,M,N⟩:=K.name n (hr n rfl) hn;rw[z,E,L];exact d g|ez xs off=>obtain⟨b,o,pe,r,s,e,p⟩:=d;refine⟨b,o,pe,r,s,K.im b e,fun j c T=>?_⟩;obtain⟨I,B,t⟩:=p j c T;exact⟨(K.cell b e _).trans I,B.congr fun a l F=>K.cell a (t a l) F,fun a l=>K.im a (t a l)⟩|sl n sz lo len=>intro hn;obtain⟨g,z,E,L,M,N⟩:=K.name n (hr n rfl) hn;have:=d g;simp_all [jD]|cF n k C off sz len=>have H:n≠q:=(by rintro rfl;simp[ao.mL,zbf] at O);intro y xs hn;obtain⟨⟨J,A,g⟩,hl⟩:=K.live n y C xs H (hr n rfl) hn;obtain⟨pc,p1,P,V⟩:=d J A g;grind|eE n k C off sz i=>have H:n≠q:=(by rintro rfl;simp[ao.mL,zbf] at O);intro y xs hn;obtain⟨⟨J,A,g⟩,hl⟩:=K.live n y C xs H (hr n rfl) hn;obtain⟨pc,b,o,len,cap,p1,P,V,p4⟩:=d J A g;grind|dE xs off j n sz len=>obtain⟨b,o,pe,r,s,e,p,Q⟩:=d;obtain⟨u,S,u2,u3⟩:=Q;refine⟨b,o,pe,r,s,K.im b e,fun i c R U=>?_,u,(K.cell b e _).trans S,u2,fun hn=>?_⟩;obtain⟨I,B,t⟩:=p i c R U;exact⟨(K.cell b e _).trans I,B.congr fun a l F=>K.cell a (t a l) F,fun a l=>K.im a (t a l)⟩;obtain⟨g,z,E,L,M,N⟩:=K.name n (hr n rfl) hn;simp_all [jD]|fn f fv=>exact d|cj=>trivial
theorem RC.uF {q:Nat} {used:Nat->Prop} (K:Ha q w G h used w' G' h') {c:ao} {v:Value} (b:c.cut q=c) (hr:∀m,c.ref m->used m) (g:RC w G h c v):RC w' G' h' c v:=by by_cases a:c.r6=false;rw[AS _ _ _ _ _ a] at*;rw[ao.LG q c a] at b;exact g.uF K b fun m hm=>hr m (by rw[ao.ahk c m a];exact hm);(cases c<;>first|(simp[ao.r6] at a;done)|skip);rename_i f fv;obtain⟨vs,k,l,e⟩:=g;injection b with _ b;refine⟨vs,k,l,fun j c u d i=>⟨(e j c u d i).1,(e j c u d i).2.uF K ?_ fun m hm=>hr m ⟨c,AI d,hm⟩⟩⟩;grind
theorem eN.uF {q:Nat} {used:Nat->Prop} (K:Ha q w G h used w' G' h') {cs:List ao} {vs:List Value} (e:∀c∈cs,c.cut q=c) (hr:∀c∈cs,∀m,c.ref m->used m) (b:eN w G h cs vs):eN w' G' h' cs vs:= ⟨b.1,fun j c u a d=>⟨(b.2 j c u a d).1,(b.2 j c u a d).2.uF K (e c (AI a)) (hr c (AI a))⟩⟩
theorem RV.uF {q:Nat} {used:Nat->Prop} (K:Ha q w G h used w' G' h') {ag:Bool} {cs:List ao} {v:Value} (d:∀c∈cs,c.cut q=c) (hr:∀c∈cs,∀m,c.ref m->used m) (a:RV w G h ag cs v):RV w' G' h' ag cs v:=by unfold RV at*;split;rename_i b;simp only[b,if_true] at a;obtain⟨vs,e,f⟩:=a;exact⟨vs,e,f.uF K d hr⟩;rename_i b;simp only[b] at a;exact eN.uF K d hr a
theorem afX {q:Nat} {cs:List ao} (h:cs.map (·.cut q)=cs):∀c∈cs,c.cut q=c:=by intro c a;obtain⟨j,hj⟩:=IS a;grind
theorem RA.uF {q:Nat} {used:Nat->Prop} (K:Ha q w G h used w' G' h') {x:aw} {v:Value} (b:x.cut q=x) (hr:∀m,x.ref m->used m) (g:RA w G h x v):RA w' G' h' x v:=by cases x with|one c=>injection b with b;exact g.imp id fun f=>RV.uF K (fun d a=>by simp_all) (fun d a m hm=>hr m (by simp at a;subst a;exact hm)) f|agg cs=>injection b with b;exact RV.uF K (afX b) (fun d a m hm=>hr m ⟨d,a,hm⟩) g|cT xs=>injection b with b;obtain⟨vs,e,hl,f⟩:=g;refine⟨vs,e,hl,fun j x u i k=>RV.uF K (afX ?_) (fun d a m hm=>hr m ⟨x,AI i,d,a,hm⟩) (f j x u i k)⟩;grind
structure OQ (B:Nat) (E:Ex) (w:World) (G:Gh) (h:Nat->Option aV) (n k off:Nat) (q:PC):Prop where
 fm:Good w q
 sep:Sep q
 nr:t7 w q
 own:∀b,bB b q->¬G.Im b/\fB w b/\(B<=b\/E b)
 name:∀b,bB b q->∀m,h m≠none->(G.g m).nl=false->b≠(G.g m).b
 row:∀b,bB b q->∀m gr mo sz xs,m≠n->h m=some (.row gr mo sz xs)->¬bK b (G.g m).px
 rest:∀b,bB b q->∀k' j' c,At (G.g n).px k' j' c->(k',j')≠(k,off)->¬bB b c
theorem R.nest (r:R B E w0 N σ a w G) {t k off:Nat} {xs:List (List C)} (hn:σ.h n=some (.row true .live t xs)) (sY:n<aY) (anH:∀s,(σ.env s).cut n=σ.env s) (anI:∀m cs c,σ.h m=some (.box cs)->c∈cs->c.cut n=c) {pe:List PC} (x:(G.g n).px[k]? =some pe) (pW:off+1=t) {q:PC} {cur:Array Value} {et:TypeId} (Q:w.heap[(G.g n).b]? =some (.cells cur et (0,0))) (u:OQ B E w G σ.h n k off q): R B E w0 N (σ.fQ n (.row true .live t (xs.set k ((pe.map PC.er).set off q.er)))) a (jq w (G.g n).b ((G.g n).o+k*t+off) [q.val] cur) ⟨G.Im,aN G.g n {G.g n with px:=(G.g n).px.set k (pe.set off q)}⟩:=by have H:=r.hr;have hr:=H.row n true .live t xs hn;have I:σ.h n≠none:=(by rw[hn];simp);have y:(G.g n).nl=false:=(by cases u:(G.g n).nl with|false=>rfl|true=>rw[(hr.nl u).1] at x;simp at x);obtain⟨l1,l2,l3⟩:=hr.f6 y;obtain⟨xd,vT,yx⟩:=H.own n I y;have Dm:pe.length=t:=l2.1 pe (AI x);have an8:off<pe.length:=(by omega);have F:At (G.g n).px k off pe[off]:=⟨pe,x,wt an8⟩;have Y:(G.g n).o+k*t+off+([q.val]:List Value).length<=cur.size:=(by have:=EJ Q (l2.2.1 k off _ F);simp only[za5,zaQ];omega);generalize p9:jq w (G.g n).b ((G.g n).o+k*t+off) [q.val] cur=w2;have fq:∀b,b≠(G.g n).b->w2.heap[b]? =w.heap[b]? :=fun b d=>(by rw[<-p9];exact El b d);have X:∀b,fB w b->fB w2 b:=fun b d=>(by rw[<-p9];exact OJ Q Y b d);have s8:w2.heap.size=w.heap.size:=(by rw[<-p9];exact wH);have Xk:∀b,bB b q->b≠(G.g n).b:=fun b d=>u.name b d n I y;have lQ:∀b,bK b (G.g n).px->b≠(G.g n).b:=fun b d=>H.vI I y hn d;have pw:∀b,bK b ((G.g n).px.set k (pe.set off q))->bB b q\/bK b (G.g n).px:=(by rintro b ⟨k',j',c,A,d⟩;rcases sH x A with⟨_,_,rfl⟩|⟨f,_⟩;exact .inl d;exact .inr ⟨_,_,_,f,d⟩);have E4:∀b,G.Im b->b≠(G.g n).b:=fun b d z=>xd (z▸d);have f9:rI w2 (G.g n).b (G.g n).o t ((G.g n).px.set k (pe.set off q)):=(by refine⟨fun e z=>?_,fun k' j' c A=>?_,fun k' j' c A=>?_⟩;rcases zap z with z|rfl;exact l2.1 e z;rw[za6];exact Dm;rw[<-p9,Ek Q Y];rcases sH x A with⟨rfl,rfl,rfl⟩|⟨f,L⟩;rw[ai ⟨Pe _,by simp⟩];simp;have:=abB hr.pos l2.1 f F L;rw[aq (by simp only[za5,zaQ];omega)];exact l2.2.1 _ _ _ f;rcases sH x A with⟨rfl,rfl,rfl⟩|⟨f,L⟩;exact u.fm.congr fun b d o=>kv (fq b (Xk b d)) o;exact(l2.2.2 _ _ _ f).congr fun b d o=>kv (fq b (lQ b ⟨_,_,_,f,d⟩)) o);have K:Ha n w G σ.h (fun m=>σ.used m=true) w2 ⟨G.Im,aN G.g n {G.g n with px:=(G.g n).px.set k (pe.set off q)}⟩ (aN σ.h n (some (.row true .live t (xs.set k ((pe.map PC.er).set off q.er))))):=(by refine⟨fun _ h=>h,fun b d o=>kv (fq b (E4 b d)) o,fun m hm l=>?_,fun m J sz U D hm l=>?_,fun b o v d Z=>(kv (fq b (E4 b d)) o).trans Z⟩;by_cases D:m=n;subst D;simp only[dd];exact⟨I,trivial,trivial,trivial,trivial,trivial⟩;rw[dP _ _ _ _ D] at l;simp only[dP _ _ _ _ D];exact⟨l,trivial,trivial,trivial,trivial,trivial⟩;rw[dP _ _ _ _ D] at l;simp only[dP _ _ _ _ D];exact⟨⟨J,U,l⟩,fun k j pc f W=>⟨pc,f,rfl,W⟩⟩);have Hn:HR B E w2 ⟨G.Im,aN G.g n {G.g n with px:=(G.g n).px.set k (pe.set off q)}⟩ (aN σ.h n (some (.row true .live t (xs.set k ((pe.map PC.er).set off q.er))))) σ.used []:=(by refine H.ag3 (fun b _ d=>fq b (d y)) (by rw[s8];exact Pe _) (fun b _ d=>X b d) (fun _ h=>h) (H.mM n I) (fun _=>⟨xd,vT,by rw[s8];exact yx⟩) (fun _ m hm l kw=>H.inj m n l I hm kw y) (fun _ m J sz xs hm l b d=>H.live m J sz xs l b d n I y) (fun cs c m d=>by cases d) (fun m cs c v hm l hc Z=>Z.uF K (anI m cs c l hc) fun p V=>H.lz m cs c p l hc V) ?_ ?_ ?_ (fun J m sz xs _ _ i pc b hi=>by simp at hi) ?_;refine⟨hr.pos,?_,(fun hl=>by rw[y] at hl;cases hl),fun _=>⟨X _ l1,f9,by show((G.g n).px.set k _).length<=_;simpa using l3⟩,fun _ _=>?_,?_,fun _ _ k' pc A=>?_⟩;show xs.set k _=((G.g n).px.set k _).map _;rw[zaA,<-hr.er,zaA];obtain⟨r2,nH,e',O,r4⟩:=hr.room y rfl;rw[Q] at O;injection O with O;injection O with O _ _;subst O;obtain⟨Vm,c1,c2⟩:=KC (vs:=[q.val]) (o:=(G.g n).o+k*t+off) Q Y;rw[p9] at c1;exact⟨r2,Vm,et,c1,by rw[c2];exact r4⟩;have S:=hr.mode;refine⟨fun b d=>?_,fun k' j' c A=>?_,fun k1 j1 c1 k2 j2 c2 b f W L d M=>?_⟩;rcases pw b d with f|f;exact⟨(u.own b f).1,X b (u.own b f).2.1,(u.own b f).2.2⟩;exact⟨(S.1 b f).1,X b (S.1 b f).2.1,(S.1 b f).2.2⟩;rcases sH x A with⟨rfl,rfl,rfl⟩|⟨f,_⟩;exact u.sep;exact S.2.1 _ _ _ f;rcases sH x f with⟨rfl,rfl,rfl⟩|⟨g1,n1⟩;rcases sH x W with⟨rfl,rfl,rfl⟩|⟨g2,n2⟩;exact L rfl;exact u.rest b d _ _ _ g2 n2 M;rcases sH x W with⟨rfl,rfl,rfl⟩|⟨g2,n2⟩;exact u.rest b M _ _ _ g1 n1 d;exact S.2.2 _ _ _ _ _ _ b g1 g2 L d M;have hz:=hr.nr rfl rfl;rcases sH x A with⟨_,_,rfl⟩|⟨f,_⟩;exact u.nr.cz fun b d arr e z=>⟨arr,(fq b (Xk b d)).trans z,rfl⟩;exact(hz k' pc f).cz fun b d arr e z=>⟨arr,(fq b (lQ b ⟨_,_,_,f,d⟩)).trans z,rfl⟩;intro J m sz U d hm P cq m' bf ko Xa l dk b T;rcases pw b T with f|f;exact u.row b f P cq m' bf ko Xa l;exact H.jE n P true .live t xs cq m' bf ko hn l (by simp) dk (zaZ Xa) b f;intro J sz U d b T;rcases pw b T with f|f;exact⟨fun _=>Xk b f,fun P _ l hl=>u.name b f P l hl⟩;exact⟨fun _=>lQ b f,fun P _ l hl=>H.live n true t xs hn b f P l hl⟩;intro _ _ b d;obtain⟨m,J,mo,sz,U,hm,l,T⟩:=d;exact H.vI I y l T);refine⟨r.defers,r.size,fun s=>(r.env s).uF K (anH s) fun m hm=>r.tP s m hm,r.tP,Hn,r.fr.one vT (fun b _ L=>fq b L) (by rw[s8];exact Pe _) (by rw[<-p9];exact GN Q Y) (by rw[<-p9];rfl) (by rw[<-p9];rfl) (by rw[<-p9];rfl),fun m p b V d=>?_,r.Aw⟩;have D:m≠n:=(by rintro rfl;have:=E.lt m p V;omega);have M:aN σ.h n (some (.row true .live t (xs.set k ((pe.map PC.er).set off q.er)))) m=some b:=d;rw[dP _ _ _ _ D] at M;have:=r.qg m p b V M;simp only[dP _ _ _ _ D];exact this
def Hf (B:Nat) (E:Ex) (w:World) (G:Gh) (h:Nat->Option aV) (n k off sz:Nat) (zs:List (List C)) (v:Value):Prop:=
 ∃q:PC,q.val=v/\q.er=.list sz zs/\OQ B E w G h n k off q
theorem HR.age (H:HR B E w G h used []) {n k off d:Nat} {xs:List (List C)} (hn:h n=some (.row true .live d xs)) (pW:off+1=d) {pc:PC} (f:At (G.g n).px k off pc):OQ B E w G h n k off pc:=by have hr:=H.row n true .live d xs hn;have v:(G.g n).nl=false:=(by cases hq:(G.g n).nl with|false=>rfl|true=>obtain⟨e,q,_⟩:=f;rw[(hr.nl hq).1] at q;simp at q);obtain⟨l1,l2,l3⟩:=hr.f6 v;have l:∀b,bB b pc->bK b (G.g n).px:=fun b a=>⟨k,off,pc,f,a⟩;refine⟨l2.2.2 _ _ _ f,hr.mode.2.1 _ _ _ f,hr.nr rfl rfl k pc (by grind),fun b a=>hr.mode.1 b (l b a),fun b a m j hl=>H.live n true d xs hn b (l b a) m j hl,fun b a m p o sz s hm j i=>?_, fun b a k' j' c t u i=>hr.mode.2.2 _ _ _ _ _ _ b t f u i a⟩;by_cases r:o=.bh;subst r;exact(hr.mode.1 b (l b a)).1 ((H.row m p .bh sz s j).mode b i);exact H.jE n m true .live d xs p o sz s hn j (by simp) r (zaZ hm) b (l b a) i
theorem aun {t ty e:TypeId} {i:TypeInfo} (b:P.underlying t=some (.slice e)) (d:P.info? e=some i) (a ya:Option Addr) (c:Nat): (Builtin.append_ #[t,t] ty #[.slice a 0 0,.slice ya 0 c]).run P w=.ok (.slice a 0 0) w:=by cases ya<;>cases a<;>simp[Builtin.append_,run_underlying b,sizeOf,typeInfo,d,Builtin.lenOf,Builtin.firstCells,loadCells,loadCellsFrom,storeCells]
theorem Sep.flat {sz:Nat} {x:Option Addr} {cap:Nat} {px:List (List PC)} (h:gU (px.map fun e=>e.map PC.er)=true):Sep (.list sz x cap px):=by have d:∀k j c,At px k j c->c.er.gI=true:=(by rintro k j c ⟨e,he,hj⟩;have f:=AT.1 h (e.map PC.er) (by grind);exact AT.1 f c.er (by grind));exact .list _ _ _ _ (fun k j c a=>(Sep.kC (d k j c a)).1) (fun b o k j c _ a=>(Sep.kC (d k j c a)).2 b) (fun k j c k' j' c' b a _ _ g=>absurd g ((Sep.kC (d k j c a)).2 b))
theorem ae4 {sz:Nat} {x:Option Addr} {cap b:Nat} {px:List (List PC)} (d:gU (px.map fun e=>e.map PC.er)=true) (a:bB b (.list sz x cap px)):∃o,x=some (ad b o):=by rw[bB.oZ] at a;rcases a with⟨_,h⟩|⟨k,j,c,g,f⟩;exact h;exact absurd ⟨k,j,c,g,f⟩ (AA d b)
theorem alQ (r:R B E w0 N σ a w G) {n k rs off sz wE Ak ew:Nat} {t e:TypeId} {i:TypeInfo} {z:Value} {x y:Operand} {mx my:MO} {xs ls ys:List (List C)} {yc:ao}
  (ho:o.op=.call {callee:=.builtin .append,args:=#[x,y],argTypes:=#[t,t]}) (iL:cX x mx=true) (iM:cX y my=true)
  (ht:P.underlying t=some (.slice e)) (hi:P.info? e=some i) (hz:i.zero=some z) (dn:i.size=sz) (jh:0<sz) (w4:i.bytes=ew) (Bt:0<ew) (BN:z.cells.size=sz)
  (hn:σ.h n=some (.row true .live rs xs)) (pW:off+1=rs) (hx:σ.ev mx=.one (.cF n k rs off wE Ak)) (hl:(xs[k]?).bind (·[off]?)=some (.list sz ls)) (yt:gU ls=true)
  (hy:σ.ev my=.one yc) (hv:dX σ.h yc=some (.list sz ys)) (rj:gU ys=true) (hb:(ls.length+ys.length)*ew<=fe):
  o.wp P a w (fun a' w'=>∃v,a'=a.put o.dst v/\R B E w0 N σ a w' G/\Hf B E w' G σ.h n k off sz (ls++ys) v) Q:=by
 have H:=r.hr;obtain⟨x1,_⟩:=r.ev iL;obtain⟨y1,_⟩:=r.ev iM;rw[hx] at x1;rw[hy] at y1;have hyj:yc≠ .cj:=by rintro rfl;simp[Am.dX] at hv
 obtain⟨pc,p1,p2,p3⟩:=(x1.il (by simp)).1 true xs hn;obtain⟨bq,iE,j4⟩:=H.NJ hn p1;rw[hl] at j4;injection j4 with j4;have M:=H.age hn pW p1;have hr:=H.row n true .live rs xs hn;obtain⟨yp,e1,e2,e3⟩:=H.dX hv (y1.il hyj).1;cases pc with
 |int kk nn=>simp[PC.er] at j4
 |bool bb=>simp[PC.er] at j4
 |list s' x0 cap d=>
 rw[PC.fk] at j4;injection j4 with g1 g2;subst g1;cases yp with
 |int kk nn=>simp[PC.er] at e1
 |bool bb=>simp[PC.er] at e1
 |list s2 ya yc' py=>
 rw[PC.fk] at e1;injection e1 with f1 Z;have f1:=f1.symm;subst f1;have yz:ys.length=py.length:=by rw[<-Z];simp
 have hll:ls.length=d.length:=by rw[g2];simp
 have P7:gU (d.map fun e=>e.map PC.er)=true:=by rw[<-g2];exact yt
 have aos:gU (py.map fun e=>e.map PC.er)=true:=by rw[Z];exact rj
 have rR:gU ((d++py).map fun e=>e.map PC.er)=true:=by
  rw[zax];simp only[gU,List.all_append,co];exact⟨P7,aos⟩
 have aeA:(d++py).map (fun e=>e.map PC.er)=ls++ys:=by rw[zax,<-g2,Z]
 have Wq:zm w sz py (a.eval y):=by rw[<-e2];exact zm.YW e3
 have ij:∀e∈d,e.length=sz:=by
  intro e l;cases iE with
  |nil _ _ _ _=>simp at l
  |cons _ _ _ _ _ _ _ _ h4 _ _=>exact h4 e l
 have anR:∀k j c,At d k j c->Good w c:=by
  intro k j c A;cases iE with
  |nil _ _ _ _=>obtain⟨e,l,_⟩:=A;simp at l
  |cons _ _ _ _ _ _ _ _ _ _ h6=>grind
 have P6:∀e∈d++py,e.length=sz:=fun e l=>(zaa.1 l).elim (ij e) (Wq.1 e);have axv:∀k j c,At (d++py) k j c->Good w c:=fun k j c A=>(wO A).elim (fun h=>anR _ _ _ h.2) (fun h=>Wq.2.1 _ _ _ h.2);have lT:∀k j c,At (d++py) k j c->c.er.gI=true:=by
  rintro k j c ⟨e,l,hj⟩;have h6:=AT.1 rR (e.map PC.er) (by grind);exact AT.1 h6 c.er (by grind)
 have Bu:cap=0->d=[]:=by
  intro f;cases iE with
  |nil _ _ _ _=>rfl
  |cons _ _ _ _ _ h1 h2 _ _ _ _=>simp_all
 have Xw:∀{u:Value} {I:World},(Builtin.append_ #[t,t] o.type #[a.eval x,a.eval y]).run P w=.ok u I->(execOp a.eval o).run P w=.ok (.value u) I:=by
  intro u I cG;simp[execOp,ho,resolve,invoke,builtin,cG]
 have IG:a.eval x=.slice x0 d.length cap:=p2.symm;by_cases W:d++py=[]
 ·obtain⟨rfl,rfl⟩:=List.append_eq_nil_iff.1 W;have fK:cap=0:=by
   rcases M.nr with f|⟨f,_⟩
   ·exact f
   ·grind
  subst fK;have axF:ys=[]:=by rw[<-Z];rfl
  have axw:ls=[]:=by rw[g2];rfl
  refine sE (v:=.slice x0 0 0) (w':=w) (Xw ?_) ⟨_,rfl,r,.list sz x0 0 [],rfl,by grind [PC.fk],M⟩;rw[IG,<-e2];exact aun ht hi _ _ _
 ·have L:CJ B E w G (aN σ.h n none) sz .live d (a.eval x):=by
   rcases M.nr with f|⟨f,h1,b,D,cur,et,rfl,h3,h4⟩
   ·subst f;have:=Bu rfl;subst this;exact .inl ⟨x0,IG,rfl⟩
   ·have d6:bB b (.list sz (some (ad b D)) cap d):=.here _ _ _ _ f;refine .inr ⟨b,D,cap,cur,et,IG,h3,h4,h1,?_,?_,⟨(M.own b d6).1,fun q hq Fm l=>?_,fun q V U X Y hq=>?_⟩,(M.own b d6).2.2,fun b' bk=>absurd bk (AA P7 b')⟩
    ·cases iE with
     |nil _ _ _ _=>grind
     |cons _ _ _ _ _ _ h2 _ _ _ _=>exact h2
    ·generalize kc:PC.list sz (some (ad b D)) cap d=p at iE;cases iE with
     |int k n=>cases kc
     |bool b=>cases kc
     |nil _ _ _ _=>grind
     |cons _ b' Y0 _ _ O q2 q3 q4 q5 q6=>
      injection kc with f1 Z f3 f4;injection Z with Z;obtain⟨rfl,rfl⟩:=pn Z;subst f1 f3 f4;exact⟨q4,q5,q6⟩
    ·obtain⟨O,q2⟩:=Bh hq;exact M.name b d6 q O Fm l.symm
    ·obtain⟨O,q2⟩:=rL hq;exact M.row b d6 q V U X Y q2 O
  obtain⟨r1,r2,KF,c',hyv,r3⟩:=Wq;have aeH:(py.flatten.map PC.val).length=py.length*sz:=LU r1;have h1:∀u∈py.flatten.map PC.val,u.oneCell'=true:=fun u hu=>by obtain⟨pc,_,rfl⟩:=BY.1 hu;exact PC.nW pc
  have hB:=r.fr.size;have anZ:(d++py).length=d.length+py.length:=by simp
  rcases ahu (P:=P) w (ty:=o.type) (B:=B) (E:=E) ht hi hz dn jh w4 Bt ij L aeH r3 h1 (by grind) with⟨a0,k0,_,Dl,_⟩|⟨b,D,zr,cur,e',aeP,b2,b3,b4,b5,b6,b7,b8,b9,cG⟩|⟨zr,arr,c1,c2,c3,c4,cG⟩
  ·grind
  ·
   rw[IG] at aeP;injection aeP with O q2 q3;subst O q3;have BB:(D+d.length*sz)+(py.flatten.map PC.val).length<=cur.size:=by rw[aeH,b3,zaG,<-zaw];exact Nat.add_le_add_left (zab _ b5) _
   generalize p9:jq w b (D+d.length*sz) (py.flatten.map PC.val) cur=I at cG;have fq:∀x,x≠b->I.heap[x]? =w.heap[x]? :=fun x hx=>by rw[<-p9];exact El x hx
   have s8:I.heap.size=w.heap.size:=by rw[<-p9];exact wH
   have ni:∀x,Cz w I x:=fun x=>by
    by_cases hx:x=b
    ·subst hx;rw[<-p9];exact GN b2 BB
    ·exact Cz.of_eq (fq x hx)
   have WA:¬G.Im b:=b7.1;have kY:∀k' j,k'<d.length->j<sz->I.cell? (ad b (D+k'*sz+j))=w.cell? (ad b (D+k'*sz+j)):=by
    intro k' j s hj;rw[<-p9,Ek b2 BB,aq];rintro⟨O,_⟩;have:(k'+1)*sz<=d.length*sz:=zab _ s;rw[zaw] at this;omega
   have Wv:∀{k' j c},At d k' j c->k'<d.length/\j<sz:=by
    rintro k' j c ⟨e,l,hj⟩;refine⟨(By.1 l).1,?_⟩;have:=ij e (AI l);have:=(By.1 hj).1;omega
   have anQ:Good I (.list sz (some (ad b D)) cap d):=by
    by_cases f:d=[]
    ·subst f;exact .nil _ _ _ jh
    ·refine .cons _ _ _ _ _ f (by omega) jh ij (fun k' j c A=>?_) (fun k' j c A=>Good.kC (lT k' j c ?_))
     ·rw[kY k' j (Wv A).1 (Wv A).2];exact b6.2.1 k' j c A
     ·obtain⟨e,l,hj⟩:=A;exact⟨e,by rw[List.getElem?_append_left (By.1 l).1];exact l,hj⟩
   have cQ:σ.h n≠none:=by rw[hn];simp
   have kN:∀m,σ.h m≠none->(G.g m).nl=false->(G.g m).b≠b:=by
    intro m hm hl;by_cases di:m=n
    ·subst di;by_cases f:d=[]
     ·intro l;subst l;rcases M.nr with J|⟨J,_⟩
      ·have:=b7.2.1;subst J;simp at b5;subst f;have:py=[]:=by
        apply If;simpa using b5
       exact W (by rw[this];rfl)
      ·exact J f
     ·exact fun l=>M.name b (.here _ _ _ _ f) m hm hl l.symm
    ·exact b7.2.1 m (by rw[dP _ _ _ _ di];exact hm) hl
   have aog:∀m V U X Y,m≠n->σ.h m=some (.row V U X Y)->¬bK b (G.g m).px:=fun m V U X Y di hm=>b7.2.2 m V U X Y (by rw[dP _ _ _ _ di];exact hm);have IC:∀k' F c,At (G.g n).px k' F c->(k',F)≠(k,off)->¬bB b c:=by
    intro k' F c s bm;by_cases f:d=[]
    ·intro hbc;rcases M.nr with J|⟨J,_⟩
     ·subst J;subst f;have:py=[]:=by
       apply If;simpa using b5
      exact W (by rw[this];rfl)
     ·exact J f
    ·exact M.rest b (.here _ _ _ _ f) k' F c s bm
   obtain⟨l1,l2,l3⟩:=hr.f6 bq;have Mp:KK I (G.g n) (G.g n) true .live rs xs:=by
    refine⟨by simp,.inr rfl,rfl,rfl,rfl,rfl,rfl,hr.er,fun h=>(by rw[bq] at h;cases h),fun _=>⟨⟨l2.1,fun k' F c s=>?_,fun k' F c s=>?_⟩,l3⟩,hr.mode.2,fun b h=>h,fun _ k' F pc s hL=>⟨pc,s,rfl,hL⟩,fun _ _=>?_⟩
    ·rw[kv (fq _ (kN n cQ bq))];exact l2.2.1 _ _ _ s
    ·by_cases fZ:(k',F)=(k,off)
     ·have h1:k'=k:=congrArg Prod.fst fZ;have h2:F=off:=congrArg zbi fZ;subst h1 h2;obtain⟨ea,hea,hja⟩:=s;obtain⟨eb,PX,P2⟩:=p1;rw[hea] at PX;injection PX with PX;subst PX;rw[hja] at P2;injection P2 with P2;subst P2;exact anQ
     ·exact(l2.2.2 _ _ _ s).congr fun x hx o=>kv (fq x (by rintro rfl;exact IC k' F c s fZ hx)) o
    ·exact(hr.nr rfl rfl).cz fun x _ arr e l=>ni x arr e l
   obtain⟨xR,K,_⟩:=H.NI (G':=G) (h':=σ.h) (w':=I) (S:=fun m=>m=n) (by omega) (fun x hx dD=>by
     by_cases Dq:x=b
     ·subst Dq;by_cases f:d=[]
      ·rcases M.nr with J|⟨J,_⟩
       ·subst J;subst f;exact absurd (by rw[If (by omega:py.length=0)];rfl) W
       ·exact absurd f J
      ·exact absurd (.inr ⟨k,off,_,p1,.here _ _ _ _ f⟩) (dD n rfl)
     ·exact fq x Dq) (fun x _=>ni x) rfl (fun m hm=>by
     subst hm;exact⟨true,.live,rs,xs,xs,hn,hn,Mp⟩) (fun m _=>⟨rfl,rfl⟩)
   have r':R B E w0 N σ a I G:=r.step rfl (fun _ h=>h) K xR (r.fr.one b8 (fun x _ hx=>fq x hx) (by omega) (ni b) (by rw[<-p9];rfl) (by rw[<-p9];rfl) (by rw[<-p9];rfl));refine sE (v:=.slice (some (ad b D)) (d.length+py.length) cap) (w':=I) (Xw ?_) ⟨_,rfl,r',.list sz (some (ad b D)) cap (d++py),by simp[PC.val],by rw[PC.fk,aeA],?_⟩
   ·rw[IG,hyv];rw[IG] at cG;exact cG
   ·have T:∀x,bB x (.list sz (some (ad b D)) cap (d++py))->x=b:=fun x hx=>by
     obtain⟨o',oM⟩:=ae4 rR hx;injection oM with oM;exact(pn oM).1.symm
    refine⟨.cons _ _ _ _ _ W (by omega) jh P6 (fun k' j c A=>?_) (fun k' j c A=>Good.kC (lT k' j c A)),Sep.flat rR,?_,fun x hx=>?_,fun x hx m hm hl=>?_,fun x hx m V U X Y di hm=>?_,fun x hx k' F c s bm=>?_⟩
    ·rw[<-p9,Ek b2 BB];have hf:=xY P6 A;rw[zaV] at hf;have lM:d.flatten.length=d.length*sz:=by have:=LU ij;rwa[IT] at this
     rcases wO A with⟨rf,s⟩|⟨rf,s⟩
     ·rw[aq ?_]
      ·exact b6.2.1 k' j c s
      ·rintro⟨O,_⟩;have:=(Wv s).2;have:(k'+1)*sz<=d.length*sz:=zab _ rf;rw[zaw] at this;omega
     ·have Mx:d.length*sz<=k'*sz+j:=zar (zab _ rf) (Nat.le_add_right _ _);have cI:=(By.1 hf).1;rw[List.length_append,lM] at cI;rw[zaf (by omega),lM] at hf;rw[ai ⟨by omega,by simp only[IT];omega⟩];rw[AN,show D+k'*sz+j - (D+d.length*sz)=k'*sz+j - d.length*sz by omega,hf];rfl
    ·obtain⟨nH,O,q2⟩:=KC (vs:=py.flatten.map PC.val) (o:=D+d.length*sz) b2 BB;rw[p9] at O;exact .inr ⟨W,b4,b,D,nH,e',rfl,O,by rw[q2,b3]⟩
    ·rw[T x hx];exact⟨WA,(ni b).mY ⟨cur,e',b2⟩,b8⟩
    ·rw[T x hx];exact(kN m hm hl).symm
    ·rw[T x hx];exact aog m V U X Y di hm
    ·rw[T x hx];exact IC k' F c s bm
  ·
   have hd:∀x:Nat,x<w.heap.size->(w.drew.alloc (.cells arr e)).heap[x]? =w.heap[x]? :=fun x hx=>heap_alloc_old w.drew _ x hx;have aeM:w.heap.size<=(w.drew.alloc (.cells arr e)).heap.size:=by
    have:(w.drew.alloc (.cells arr e)).heap.size=w.drew.heap.size+1:=by simp
    have h2:w.drew.heap.size=w.heap.size:=rfl;omega
   have r':R B E w0 N σ a (w.drew.alloc (.cells arr e)) G:=r.step rfl (fun _ h=>h) (bU.world (fun x hx=>hd x (H.jG x hx)) _) (H.grow hd aeM) (r.fr.grow hd aeM rfl rfl rfl);have s8:arr.size=zr*sz:=by rw[c3,BN];omega
   refine sE (v:=.slice (some (ad w.heap.size 0)) (d.length+py.length) zr) (w':=w.drew.alloc (.cells arr e)) (Xw ?_) ⟨_,rfl,r',.list sz (some (ad w.heap.size 0)) zr (d++py),by simp[PC.val],by rw[PC.fk,aeA],?_⟩
   ·rw[hyv];exact cG
   ·have T:∀x,bB x (.list sz (some (ad w.heap.size 0)) zr (d++py))->x=w.heap.size:=fun x hx=>by
     obtain⟨o',oM⟩:=ae4 rR hx;injection oM with oM;exact(pn oM).1.symm
    refine⟨.cons _ _ _ _ _ W (by omega) jh P6 (fun k' j c A=>?_) (fun k' j c A=>Good.kC (lT k' j c A)),Sep.flat rR,?_,fun x hx=>?_,fun x hx m hm hl=>?_,fun x hx m V U X Y di hm bk=>?_,fun x hx k' F c s bm bk=>?_⟩
    ·have hf:=xY P6 A;have J:=c4 _ _ (by rw[<-zax,<-zaV,AN,hf];rfl);simp only[zbg];unfold ad;have an3:=World.cell?_alloc_new w.drew arr e (k'*sz+j);exact an3.trans J
    ·exact .inr ⟨W,c2,w.heap.size,0,arr,e,rfl,heap_alloc_new w.drew _,by omega⟩
    ·rw[T x hx];refine⟨fun hi=>?_,fB.alloc w.drew arr e,.inl hB⟩;have:=H.jG _ hi;omega
    ·rw[T x hx];have:=(H.own m hm hl).2.2;omega
    ·rw[T x hx] at bk;have:=H.tK hm bk;omega
    ·rw[T x hx] at bk;have:=H.tK hn ⟨k',F,c,s,bk⟩;omega
end
def He (B:Nat) (E:Ex) (w0:World) (N:Nat) (a:Act) (w:World) (G:Gh) (d:Option Nat) (σ:St):Act->World->Prop:=
 fun a' w'=>w'=w/\(∃v,a'=a.put d v)/\R B E w0 N σ a' w G
section
variable {B N:Nat} {E:Ex} {w0 w w':World} {G G':Gh} {h h':Nat->Option aV} {used:Nat->Bool} {P:Program} {T:bz} {o:Oper} {a:Act} {σ σ':St} {Q:Exit->Act->World->Prop}
theorem E0 (r:R B E w0 N σ a w G) {x:aw} {v:Value} (d:(execOp a.eval o).run P w=.ok (.value v) w) (b:RA w G σ.h x v) (hr:∀m,x.ref m->σ.used m=true) (c:∀n,o.dst=some n->n<N): o.wp P a w (He B E w0 N a w G o.dst (σ.put o.dst x)) Q:=sE d ⟨rfl,⟨v,rfl⟩,r.put b hr c⟩
theorem acI (r:R B E w0 N σ a w G) {x:Operand} {m:MO} (b:o.op=.move x\/o.op=.assign x) (e:∀n,o.dst=some n->n<N) (hm:cX x m=true): o.wp P a w (He B E w0 N a w G o.dst (σ.put o.dst (σ.ev m))) Q:=by obtain⟨d,c⟩:=r.ev hm;refine E0 r ?_ d c e;rcases b with b|b<;>simp[execOp,b]
theorem VG (r:R B E w0 N σ a w G) {s:TypeId} {f off:Nat} {x:Operand} {mx:MO} {y:aw} (p:o.op=.fieldAddr s x f) (t:∀n,o.dst=some n->n<N) (hx:cX x mx=true) (u:Ls P s f off=true) (hy:(∃n k sz q,σ.ev mx=.one (.ptr n k sz q)/\(σ.h n).isSome=true/\y=.one (.ptr n k sz (q+off)))\/(∃xs q,σ.ev mx=.one (.ez xs q)/\y=.one (.ez xs (q+off)))\/(∃xs q j n s len,σ.ev mx=.one (.dE xs q j n s len)/\y=.one (.dE xs (q+off) j n s len))): o.wp P a w (He B E w0 N a w G o.dst (σ.put o.dst y)) Q:=by obtain⟨c,i⟩:=r.ev hx;rcases hy with⟨n,k,sz,q,d,A,rfl⟩|⟨xs,q,d,rfl⟩|⟨xs,q,j,n,s',len,d,rfl⟩;rw[d] at c i;have C:σ.h n≠none:=(by intro hh;rw[hh] at A;cases A);obtain⟨D,F⟩:=(c.il (by simp)).1 C;refine E0 r (v:=.pointer (some (ad (G.g n).b ((G.g n).o+k*sz+q+off)))) ?_ ?_ (fun m hm=>i m hm) t;simp only[execOp,p,F];simp[JV u];exact RA.iB rfl fun _=>⟨D,by rw[zaG]⟩;rw[d] at c;obtain⟨b,e,pe,p1,l,z,p4⟩:=(c.il (by simp)).1;refine E0 r (v:=.pointer (some (ad b (e+q+off)))) ?_ ?_ (fun m hm=>absurd hm (by simp[aw.ref,ao.ref,ao.kE])) t;simp only[execOp,p,p1];simp[JV u];exact RA.iB rfl ⟨b,e,pe,by rw[zaG],l,z,p4⟩;rw[d] at c i;obtain⟨b,e,pe,p1,l,z,p4,H⟩:=(c.il (by simp)).1;refine E0 r (v:=.pointer (some (ad b (e+q+off)))) ?_ ?_ (fun m hm=>i m hm) t;simp only[execOp,p,p1];simp[JV u];exact RA.iB rfl ⟨b,e,pe,by rw[zaG],l,z,p4,H⟩
theorem acG (r:R B E w0 N σ a w G) {t e:TypeId} {i:TypeInfo} {x y:Operand} {mx my:MO} {sz:Nat} {q:Int} {z:aw} (A:o.op=.indexAddr t x y) (C:∀n,o.dst=some n->n<N) (iL:cX x mx=true) (iM:cX y my=true) (M:P.underlying t=some (.slice e)) (K:P.info? e=some i) (H:i.size=sz) (hq:(σ.ev my).fW=some q) (I:0<=q) (U:(∃n lo len,σ.ev mx=.one (.sl n sz lo len)/\q<(len:Int)/\(σ.h n).isSome=true/\z=.one (.ptr n (lo+q.toNat) sz 0))\/(∃xs l,σ.ev mx=.one (.c (.list sz xs))/\xs[q.toNat]? =some l/\z=.one (.ez l 0))): o.wp P a w (He B E w0 N a w G o.dst (σ.put o.dst z)) Q:=by obtain⟨p,F⟩:=r.ev iL;obtain⟨kk,D⟩:=(r.ev iM).1.int hq;rcases U with⟨n,lo,len,s,d,hs,rfl⟩|⟨xs,l,s,d,rfl⟩;rw[s] at p F;have X:jD (G.g n) sz lo len (a.eval x):=(p.il (by simp)).1 (QD hs);rcases X with⟨_,_,_,hl⟩|⟨bq,a',hv,j9,ha⟩;omega;have Z:=ha (.inl (by omega));subst Z;refine E0 r (v:=.pointer (some (ad (G.g n).b ((G.g n).o+lo*sz+q.toNat*sz)))) ?_ ?_ (fun m hm=>F m hm) C;simp only[execOp,A,hv,D];simp[JW M K H I d];exact RA.iB rfl fun _=>⟨bq,by rw[zaw];congr 3;omega⟩;rw[s] at p;obtain⟨pc,p1,S,p3,p4⟩:=p.c;cases pc with|int k n=>simp[PC.er] at p1|bool b=>simp[PC.er] at p1|list J ya c py=>rw[PC.fk] at p1;injection p1 with p0 p1;subst p0;have lR:∃pe,py[q.toNat]? =some pe/\pe.map PC.er=l:=(by rw[<-p1,AN] at d;cases hp:py[q.toNat]? with|none=>rw[hp] at d;cases d|some pe=>rw[hp] at d;simp at d;exact⟨pe,rfl,d⟩);obtain⟨pe,f,kf⟩:=lR;have T:q.toNat<py.length:=(By.1 f).1;cases p3 with|nil _ _ _ _=>simp at T|cons _ b L _ _ Y g2 g3 g4 W g6=>have gB:q<(py.length:Int):=(by omega);refine E0 r (v:=.pointer (some (ad b (L+q.toNat*J)))) ?_ ?_ (fun m hm=>absurd hm (by simp[aw.ref,ao.ref,ao.kE])) C;simp only[execOp,A,<-S,PC.val,D];simp[JW M K H I gB];refine RA.iB rfl ⟨b,L+q.toNat*J,pe,by simp,kf,p4 b (.here _ _ _ _ Y),fun j c u=>?_⟩;exact⟨W _ _ _ ⟨pe,f,u⟩,g6 _ _ _ ⟨pe,f,u⟩,fun O V=>p4 O (.there _ _ _ _ _ _ c ⟨pe,f,u⟩ V)⟩
theorem amf (r:R B E w0 N σ a w G) {t e:TypeId} {i:TypeInfo} {x y:Operand} {mx my:MO} {n k f off sz s len:Nat} {q:Int} {ys:List (List C)} (D:o.op=.indexAddr t x y) (I:∀n,o.dst=some n->n<N) (V:cX x mx=true) (M:cX y my=true) (W:P.underlying t=some (.slice e)) (U:P.info? e=some i) (O:i.size=sz) (X:(σ.ev my).fW=some q) (S:0<=q) (h1:q<(ys.length:Int)) (hx:σ.ev mx=.one (.cF n k f off s len)) (L:dX σ.h (.cF n k f off s len)=some (.list sz ys)): o.wp P a w (He B E w0 N a w G o.dst (σ.put o.dst (.one (.eE n k f off sz q.toNat)))) Q:=by obtain⟨j,g⟩:=r.ev V;obtain⟨kk,J⟩:=(r.ev M).1.int X;rw[hx] at j g;obtain⟨F,xs,hn,K⟩:=ajD L;obtain⟨pc,p1,A,p3⟩:=(j.il (by simp)).1 F xs hn;obtain⟨g1,l,d⟩:=r.hr.NJ hn p1;rw[K] at d;injection d with d;cases pc with|int k n=>simp[PC.er] at d|bool b=>simp[PC.er] at d|list s' ya c py=>rw[PC.fk] at d;injection d with H e2;subst H;have hl:ys.length=py.length:=(by rw[e2];simp);have z:q<(py.length:Int):=(by omega);have MU:PC.val (.list sz ya c py)=.slice ya py.length c:=rfl;generalize kc:PC.list sz ya c py=p at l;cases l with|int k n=>cases kc|bool b=>cases kc|nil _ _ _ _=>injection kc with _ _ _ e4;subst e4;simp at z;omega|cons _ b u _ _ q1 q2 q3 q4 q5 q6=>injection kc with T f2 f3 f4;subst T f2 f3 f4;refine E0 r (v:=.pointer (some (ad b (u+q.toNat*sz)))) ?_ ?_ (fun m hm=>g m hm) I;simp only[execOp,D,<-A,PC.val,J];simp[JW W U O S z];refine RA.iB rfl fun cq aM cV=>?_;exact⟨_,b,u,py.length,c,p1,rfl,rfl,rfl⟩
end
theorem ao.ar0 {c:ao} {m:Nat}:m∈c.B8↔c.kE m:=by cases c<;>simp[ao.B8,ao.kE]
theorem ao.YQ {c:ao} {m:Nat}:m∈c.nm↔c.ref m:=by cases c with|fn f fv=>simp[ao.nm,ao.ref,zam,ao.ar0]|_=>simp[ao.nm,ao.B8,ao.ref,ao.kE]
theorem aw.agj {v:aw} {m:Nat}:m∈v.xz↔v.ref m:=by cases v with|one c=>exact ao.YQ|agg cs=>simp[aw.xz,aw.ref,zam,ao.YQ]|cT xs=>simp only[aw.xz,aw.ref,zam,ao.YQ]
theorem abN {v:aw} {b:Bool} {cs:List ao} (h:v.cells?=some (b,cs)):cs.flatMap ao.nm=v.xz:=by cases v with|one c=>cases c<;>simp[aw.cells?] at h<;>grind [aw.xz]|agg cs'=>simp[aw.cells?] at h;obtain⟨_,rfl⟩:=h;rfl|cT xs=>simp[aw.cells?] at h
theorem DU {op:dB} {ev ev':MO->aw} (a:∀x∈op.args,ev' x=ev x):op.Ar ev'=op.Ar ev:=by unfold dB.Ar;generalize op.args=l at a;induction l with|nil=>rfl|cons x l ih=>simp_all
def St.jk (A:List Nat) (g:Nat->Option aV) (σ:St):St:={σ with h:=fun n=>if n∈A then g n else σ.h n}
section
variable {A B:List Nat} {g g':Nat->Option aV} {σ σ' τ S:St}
theorem Q9:(τ.jk A g).jk A g'=τ.jk A g':=by simp_all [St.jk]
theorem asp (hd:∀n∈A,n∉B):(τ.jk A g).jk B g'=(τ.jk B g').jk A g:=by unfold St.jk;grind
theorem Gj (h:∀n∈A,τ.h n=g n):τ.jk A g=τ:=by obtain⟨e,f,u⟩:=τ;unfold St.jk;congr 1;grind
theorem Q8:∀n∈A,(τ.jk A g).h n=g n:=fun n hn=>ai hn
theorem ZR {n:Nat} {b:Option aV} (hn:n∈A) (eS:∀n∈A,τ.h n=σ.h n):({τ with h:=aN τ.h n b}:St)=τ.jk A (aN σ.h n b):=by unfold St.jk;congr 1;funext m;simp only[mZ];grind
theorem ae8:∀{L:List (Nat×aV)} {σ σ':St},σ.used=σ'.used->(σ.eU L).isSome=true->(σ'.eU L).isSome=true
 |[],σ,σ',hu,h=>rfl
 |(n,b)::L,σ,σ',hu,h=>by simp only[St.eU,St.ins] at h⊢;rw[<-hu];split at h;rename_i pj e;split at e;cases e;rename_i hn;injection e with e;subst e;rw[aq hn];simp only;exact ae8 (by rfl) h;cases h
theorem XZ:∀{L:List (Nat×aV)} {σ S:St},(∀n∈A,σ.used n=true)->σ.eU L=some S->(σ.jk A g).eU L=some (S.jk A g)
 |[],σ,S,hu,h=>by simp_all [St.eU]
 |(n,b)::L,σ,S,hu,h=>by simp only[St.eU] at h⊢;split at h;rename_i pj e;obtain⟨a,rfl⟩:=oR e;have:(σ.jk A g).ins n b=some (St.jk A g {σ with h:=aN σ.h n (some b),used:=aN σ.used n true}):=(by unfold St.ins St.jk;simp only[a,zaC,if_false];congr 2;funext m;simp only[mZ];by_cases hm:m=n;subst hm;have:m∉A:=fun h=>(by rw[hu m h] at a;cases a);simp[this];simp only[hm,if_false]);rw[this];exact XZ (fun m hm=>sD _ _ (hu m hm)) h;cases h
theorem ao1 {L:List (Nat×aV)} (a:∀n∈A,σ.used n=true) (h:(σ.jk A g).eU L=some S):∃C,σ.eU L=some C/\S=C.jk A g:=by have hs:(σ.eU L).isSome=true:=ae8 (L:=L) (σ:=σ.jk A g) (σ':=σ) rfl (by rw[h];rfl);cases e:σ.eU L with|none=>simp_all|some C=>refine⟨C,rfl,?_⟩;have:=XZ (g:=g) a e;simp_all
theorem awL {c:ao} {x:C} {o:Bool} (b:∀n∈c.nm,n∈A) (a:∀n∈A,τ.h n=σ.h n) (h:σ.ir c=some (x,o,σ')):τ.ir c=some (x,o,τ.jk A σ'.h):=by cases c with|sl n sz lo len=>have hn:n∈A:=b n (by simp[ao.nm,ao.B8]);simp only[St.ir,a n hn] at h⊢;split at h;split at h;cases h;rw[ai (by assumption)];exact congrArg (fun s=>some (_,_,s)) (ZR hn a);cases h;cases h|nil sz=>simp only[St.ir] at h⊢;split at h;cases h;rw[Gj a,ai (by assumption)];cases h|c x=>cases h;rw[Gj a];rfl|_=>cases h
theorem aaC:∀{cs:List ao} {xs:List C} {o:Bool} {σ τ:St},(∀n∈cs.flatMap ao.nm,n∈A)->(∀n∈A,τ.h n=σ.h n)->σ.jm cs=some (xs,o,σ')->τ.jm cs=some (xs,o,τ.jk A σ'.h)
 |[],xs,o,σ,τ,hA,eS,h=>by cases h;rw[Gj eS];rfl
 |c::cs,xs,o,σ,τ,hA,eS,h=>by simp only[zau,zaa] at hA;simp only[St.jm] at h⊢;split at h;rename_i a;split at h;rename_i b;cases h;simp only[awL (fun n h=>hA n (.inl h)) eS a,aaC (fun n h=>hA n (.inr h)) Q8 b,Q9];cases h;cases h
theorem ajh {sz:Nat}:∀{vs:List aw} {xs:List (List C)} {o:Bool} {σ τ:St},(∀n∈vs.flatMap aw.xz,n∈A)->(∀n∈A,τ.h n=σ.h n)->σ.nE sz vs=some (xs,o,σ')->τ.nE sz vs=some (xs,o,τ.jk A σ'.h)
 |[],xs,o,σ,τ,hA,eS,h=>by cases h;rw[Gj eS];rfl
 |v::vs,xs,o,σ,τ,hA,eS,h=>by simp only[zau,zaa] at hA;simp only[St.nE] at h⊢;split at h;rename_i a;split at h;rename_i b;split at h;rename_i c;split at h;rename_i d;cases h;simp only[a,ai b,aaC (fun n h=>hA n (.inl (abN a▸h))) eS c,ajh (fun n h=>hA n (.inr h)) Q8 d,Q9];cases h;cases h;cases h;cases h
theorem akv {v:aw} (hA:∀n∈v.xz,n∈A) (eS:∀n∈A,τ.h n=σ.h n):vt τ.h v=vt σ.h v:=by cases v with|one c=>(cases c with|ptr n k sz off=>simp_all [vt,aw.xz,ao.nm,ao.B8]|_=>rfl)|_=>rfl
theorem UT:∀{vs:List aw} {ds:List Dv} {ns:List Nat} {σ τ:St},(∀n∈vs.flatMap aw.xz,n∈A)->(∀n∈A,τ.h n=σ.h n)->σ.lE vs=some (ds,ns,σ')->τ.lE vs=some (ds,ns,τ.jk A σ'.h)/\∀n∈ns,n∈A
 |[],ds,ns,σ,τ,hA,eS,h=>by cases h;rw[Gj eS];exact⟨rfl,nofun⟩
 |v::vs,ds,ns,σ,τ,hA,eS,h=>by simp only[zau,zaa] at hA;simp only[St.lE,akv (fun n h=>hA n (.inl h)) eS] at h⊢;split at h;rename_i n xs b;split at h;rename_i a;cases h;obtain⟨d,c⟩:=UT (fun n h=>hA n (.inr h)) eS a;refine⟨by simp_all,fun m hm=>?_⟩;rcases zai.1 hm with rfl|hm;obtain⟨sz,cs,rfl,_⟩:=UW b;grind [aw.xz,ao.nm,ao.B8];simp_all;cases h;rename_i b;split at h;rename_i e;split at h;rename_i f;split at h;rename_i a;cases h;obtain⟨d,c⟩:=UT (τ:=τ.jk A _) (fun n h=>hA n (.inr h)) Q8 a;exact⟨by simp only[b,e,aaC (fun n h=>hA n (.inl (abN e▸h))) eS f,d,Q9],c⟩;cases h;cases h;cases h
theorem atz {ns:List Nat} {out:List C} (b:∀n∈ns,n∈A) (a:∀n∈A,τ.h n=σ.h n) (h:σ.uW ns out=some σ'):τ.uW ns out=some (τ.jk A σ'.h):=by unfold St.uW at h⊢;split at h;cases h;rw[Gj a];rename_i n;have hn:=b n (by simp);simp only[a n hn];split at h;split at h;cases h;rw[ai (by assumption)];exact congrArg some (ZR hn a);cases h;cases h;cases h
theorem akw {d:Option Nat} {o:Bool} {a:List Dv} (h:vv σ d o a=some σ'):∃v L,∀τ:St,vv τ d o a=(τ.eU L).map (·.put d v):=by cases o with|true=>simp only[vv,QB] at h⊢;(cases e:Dz .live (nT d) a with|none=>simp_all|some x=>refine⟨pL x.1,x.2,fun τ=>?_⟩;simp only[OF];cases τ.eU x.2<;>rfl)|false=>simp only[vv] at h⊢;unfold vu at h;split at h;rename_i cs;(cases d with|none=>cases h|some q=>refine⟨.one (.ptr q 0 0 0),[(q,.box (cs.map .c))],fun τ=>?_⟩;grind [vu,St.eU]);rename_i bm;split at h;rename_i b e;refine⟨pL b,[],fun τ=>?_⟩;unfold vu;split;simp_all;rw[e];rfl;cases h
theorem acM {T:bz} {d:Option Nat} {op:dB} (c:op.fp σ=some A) (hd:∀sz x v,op=.store sz x v->d=none) (h:exec T d op σ=some σ'):
  ∃g v L,∀τ:St,(∀a∈op.args,τ.ev a=σ.ev a)->(∀n∈A,τ.h n=σ.h n)->op.fp τ=some A/\exec T d op τ=((τ.jk A g).eU L).map (·.put d v):=by
 have one:op.jZ<=1->op.afd=false->(∀τ:St,(∀a∈op.args,τ.ev a=σ.ev a)->op.fp τ=some A)->A=op.Ar σ.ev->∃g v L,∀τ:St,(∀a∈op.args,τ.ev a=σ.ev a)->(∀n∈A,τ.h n=σ.h n)->op.fp τ=some A/\exec T d op τ=((τ.jk A g).eU L).map (·.put d v):=by
  intro p C I j;rw[ul T d op σ p] at h;cases hr:rd T d op σ.ev σ.h with
  |none=>simp_all
  |some x=>
   refine⟨σ.h,x.1,x.2,fun τ b i=>⟨I τ b,?_⟩⟩;rw[ul T d op τ p,JM T d op _ b,aha (u:=fun n=>n∈A) T d op σ.ev i (by rw[C];nofun) (fun x hx m hm=>by
    rw[j];exact zam.2 ⟨x,hx,aw.agj.2 hm⟩),hr,Gj i]
   rfl
 cases op<;>first|(cases c;done)|(cases c;first|exact one (Nat.zero_le 1) rfl (fun τ b=>congrArg some (DU b)) rfl|exact one (Pe 1) rfl (fun τ b=>congrArg some (DU b)) rfl)|skip
 case iu sz ps=>
  cases c;simp only[exec] at h;split at h
  ·rename_i n l o σ1 e;refine⟨σ1.h,.one (.sl n sz 0 l.length),[(n,.row true (if o=true then .bi else .bh) sz l)],fun τ b i=>⟨congrArg some (DU b),?_⟩⟩
   have hl:ps.map τ.ev=ps.map σ.ev:=IN b;simp only[exec,hl,ajh (fun n h=>by rw[zaJ] at h;exact h) i e,St.eU];cases (St.jk _ _ τ).ins _ _<;>rfl
  ·cases h
 case qV f xs=>
  cases c;simp only[exec,vD] at h;split at h
  ·rename_i t y;split at h
   ·rename_i E;split at h
    ·rename_i σ2 s;obtain⟨v,L,z⟩:=akw h;refine⟨σ2.h,v,L,fun τ b i=>⟨congrArg some (DU b),?_⟩⟩;have hl:xs.map τ.ev=xs.map σ.ev:=IN b;obtain⟨H,F⟩:=UT (A:=dB.Ar (.qV f xs) σ.ev) (fun n h=>by rw[zaJ] at h;exact h) i t;simp only[exec,vD,hl,H,y,E,atz F Q8 s,Q9];exact z _
    ·cases h
   ·cases h
  ·cases h
 case store sz x v=>
  cases hd sz x v rfl;simp only[dB.fp] at c;split at c
  ·rename_i n k aZ off hx;split at c
   ·rename_i cs hn;cases c;have hm:n∈dB.Ar (.store sz x v) σ.ev:=zam.2 ⟨x,by simp[dB.args],by simp[hx,aw.xz,ao.nm,ao.B8]⟩;simp only[exec,hx] at h;split at h
    ·rename_i D w J;cases w;split at h
     ·rename_i G;simp only[hn] at h;split at h
      ·rename_i B;refine⟨aN σ.h n (some (.box (eP cs off D))),.one .cj,[],fun τ b i=>?_⟩;have r:=(b x (by simp[dB.args])).trans hx;have q:=(i n hm).trans hn;refine⟨by simp only[dB.fp,r,q,DU b],?_⟩;simp only[exec,r,b v (by simp[dB.args]),J,ai G,q,ai B,St.eU];exact congrArg some (ZR hm i)
      ·cases h
     ·cases h
    ·grind
    ·cases h
   ·cases c
  ·cases c
theorem agi (W:Wf σ) {op:dB} (b:∀a∈op.args,a.flat=true) {n:Nat} (hn:n∈op.Ar σ.ev):σ.used n=true:=by obtain⟨a,c,hr⟩:=zam.1 hn;exact W.arg (b a c) n (aw.agj.1 hr)
theorem aeg {op:dB} (h:op.fp σ=some A):A=op.Ar σ.ev:=by unfold dB.fp at h;grind
variable {T:bz} {dx dy:Option Nat} {x y:dB} {σ1 σ2:St}
theorem aef (W:Wf σ) (j:∀n,dx=some n->MO.t n∉y.args) (l:∀a∈y.args,a.flat=true) (m:∀sz p v,x=.store sz p v->dx=none) (e:x.jZ<=1\/y.jZ=0) (b:exec T dx x σ=some σ1):y.fp σ1=y.fp σ:=by have d:∀a∈y.args,σ1.ev a=σ.ev a:=fun a o=>(by cases a with|t n=>show σ1.env n=σ.env n;rw[E1 m b];exact Cc fun f=>j n f o|k v=>rfl);(cases y<;>first|rfl|exact congrArg some (DU d)|skip);rename_i sz p v;have e:=e.resolve_right (show¬(2:Nat)=0 by decide);rw[ul T dx x σ e] at b;cases hr:rd T dx x σ.ev σ.h with|none=>simp_all|some q=>rw[hr] at b;simp only[OF,jg,zan] at b;obtain⟨S,g,rfl⟩:=b;have i:=d p (by simp[dB.args]);simp only[dB.fp,i,DU d];cases hv:σ.ev p with|one c=>(cases c with|ptr n k aZ off=>have:=(FG g).1 n (W.arg (l p (by simp[dB.args])) n (by rw[hv];exact rfl));have hh:(S.put dx q.1).h n=σ.h n:=(by cases dx<;>exact this.2);simp only[hh]|_=>rfl)|_=>rfl
theorem ald (W:Wf σ) (hd:∀n,dx=some n->dy≠some n) (xi:∀n,dx=some n->MO.t n∉y.args) (Dr:∀n,dy=some n->MO.t n∉x.args) (Mv:∀a∈x.args,a.flat=true) (Mw:∀a∈y.args,a.flat=true) (N:∀sz p v,x=.store sz p v->dx=none) (P:∀sz p v,y=.store sz p v->dy=none) (c:Pk (x.fp σ) (y.fp σ1)=true) (D:exec T dx x σ=some σ1) (U:exec T dy y σ1=some σ2):∃τ,exec T dy y σ=some τ/\exec T dx x τ=some σ2/\y.fp σ1=y.fp σ/\x.fp τ=x.fp σ:=by cases ex:x.fp σ with|none=>rw[ex] at c;cases c|some A=>cases ey:y.fp σ1 with|none=>rw[ex,ey] at c;cases c|some B=>rw[ex,ey] at c;have u:∀n∈A,n∉B:=fun n hn=>(by have:=AT.1 c n hn;simp_all);have R:∀(s:St) (d:Option Nat) (v:aw),(s.put d v).h=s.h/\(s.put d v).used=s.used:=fun s d v=>(by cases d<;>exact⟨rfl,rfl⟩);have ag:∀{d:Option Nat} {z x:dB} {s m:St},(∀n,d=some n->MO.t n∉z.args)->(∀sz p v,x=.store sz p v->d=none)->exec T d x s=some m->∀a∈z.args,m.ev a=s.ev a:=(by intro d z x s m h hd hx a G;cases a with|t n=>show m.env n=s.env n;rw[E1 hd hx];exact Cc fun Y=>h n Y G|k v=>rfl);obtain⟨w,q,Lx,H⟩:=acM ex N D;obtain⟨o,j,Ly,Q⟩:=acM ey P U;have S:=ag xi N D;have K:∀n∈A,σ.used n=true:=fun n hn=>agi W Mv (aeg ex▸hn);have V:∀n∈B,σ.used n=true:=fun n hn=>agi W Mw (by rw[<-DU S,<-aeg ey];exact hn);have J:=(H σ (fun _ _=>rfl) (fun _ _=>rfl)).2;rw[D] at J;obtain⟨e,l,rfl⟩:=zan.1 J.symm;have O:=FG l;have M:=(Q _ (fun _ _=>rfl) (fun _ _=>rfl)).2;rw[U] at M;obtain⟨S2,i,rfl⟩:=zan.1 M.symm;obtain⟨f3,F⟩:=Q σ (fun a G=>(S a G).symm) fun n hn=>(by rw[(R _ _ _).1,(O.1 n (V n hn)).2];exact(aq fun h=>u n h hn).symm);rw[yV,show(e.we (kR e.env dx q)).jk B o=(e.jk B o).we (kR e.env dx q) from rfl,FH,zan] at i;obtain⟨I,E,rfl⟩:=i;have L:=XZ (A:=B) (g:=o) (σ:=σ.jk A w) V l;rw[asp u] at L;obtain⟨C,hC,r⟩:=X0 L E;obtain⟨b,f,rfl⟩:=ao1 (σ:=σ.jk B o) K hC;have X:=FG f;rw[f] at F;obtain⟨f4,Z⟩:=H (b.put dy j) (ag Dr P F) fun n hn=>(by rw[(R _ _ _).1,(X.1 n (K n hn)).2];exact aq (u n hn));refine⟨_,F,?_,f3.symm,f4⟩;rw[Z,yV,show(b.we (kR b.env dy j)).jk A w=(b.jk A w).we (kR b.env dy j) from rfl,FH,r];simp only[GB,yV];have a1:b.env=σ.env:=X.2;have a2:e.env=σ.env:=O.2;show some (I.we (kR (kR b.env dy j) dx q))=some (I.we (kR (kR e.env dx q) dy j));rw[a1,a2,Ro σ.env _ _ hd]
end
def Lt (x y:dC):Bool:=x.op.jZ==0||y.op.jZ==0||(decide (x.op.jZ<=1)&&decide (y.op.jZ<=1))
def LA (x y:dC):Bool:=
 (match x.dst with|some d=>y.Ju d&&(match y.dst with|some e=>e !=d|none=>true)|none=>true)&&
 (match y.dst with|some d=>x.Ju d|none=>true)&&x.HZ&&y.HZ
theorem ale {T:bz} {x y:dC} {σ σ1 σ2:St} (W:Wf σ) (M:LA x y=true) (z:Lt x y=true\/Pk (x.fp σ) (y.fp σ1)=true) (f:gA T x σ=some σ1) (i:gA T y σ1=some σ2): ∃τ,gA T y σ=some τ/\gA T x τ=some σ2/\y.fp σ1=y.fp σ/\x.fp τ=x.fp σ:=by simp only[LA,co] at M;obtain⟨⟨⟨g,A⟩,N⟩,H⟩:=M;rw[VI] at f i;cases ex:wU x σ.env with|none=>simp_all|some c=>rw[ex] at f;have f:exec T x.dst c σ=some σ1:=f;have u:c=x.op\/c=.mv (.k (.cT [])):=acp ex;have B:∀sz p v,c=.store sz p v->x.dst=none:=(by intro sz p v j;rcases u with rfl|rfl;simp_all [dC.HZ,co];cases j);have Q:=E1 B f;have K:∀s w,y.guard=some (s,w)->x.dst≠some s:=(by intro s w d hd;rw[hd] at g;simp[dC.Ju,d] at g);have l:∀s w,x.guard=some (s,w)->y.dst≠some s:=(by intro s w d hd;rw[hd] at A;simp[dC.Ju,d] at A);have o:wU y σ1.env=wU y σ.env:=VB fun s w d=>(by rw[Q];exact Cc (K s w d));rw[o] at i;cases ey:wU y σ.env with|none=>simp_all|some b=>rw[ey] at i;have i:exec T y.dst b σ1=some σ2:=i;have r:b=y.op\/b=.mv (.k (.cT [])):=acp ey;have m:∀sz p v,b=.store sz p v->y.dst=none:=(by intro sz p v j;rcases r with rfl|rfl;simp only[dC.HZ,co,j] at H;grind;cases j);have F:∀a∈c.args,a.flat=true:=(by rcases u with rfl|rfl;simp only[dC.HZ,co,AT] at N;exact N.1;intro a q;simp[dB.args] at q;subst q;rfl);have E:∀a∈b.args,a.flat=true:=(by rcases r with rfl|rfl;simp only[dC.HZ,co,AT] at H;exact H.1;intro a q;simp[dB.args] at q;subst q;rfl);have D:∀n,x.dst=some n->MO.t n∉b.args:=(by intro n hd;rcases r with rfl|rfl;rw[hd] at g;simp only[co] at g;exact dC.agk g.1;simp[dB.args]);have J:∀n,y.dst=some n->MO.t n∉c.args:=(by intro n hd;rcases u with rfl|rfl;rw[hd] at A;exact dC.agk A;simp[dB.args]);have O:∀n,x.dst=some n->y.dst≠some n:=(by intro n hd j;rw[hd,j] at g;simp at g);have I:y.fp σ1=b.fp σ1:=(by unfold dC.fp;rw[o,ey]);have axR:y.fp σ=b.fp σ:=(by unfold dC.fp;rw[ey]);have C:x.fp σ=c.fp σ:=(by unfold dC.fp;rw[ex]);have xfp:∀τ,exec T y.dst b σ=some τ->x.fp τ=c.fp τ:=(by intro τ h;unfold dC.fp;rw[VB (e:=σ.env) (fun s w d=>by rw[E1 m h];exact Cc (l s w d)),ex]);have jg:(∃τ,exec T y.dst b σ=some τ/\exec T x.dst c τ=some σ2/\b.fp σ1=b.fp σ/\c.fp τ=c.fp σ)->∃τ,gA T y σ=some τ/\gA T x τ=some σ2/\y.fp σ1=y.fp σ/\x.fp τ=x.fp σ:=(by rintro⟨τ,h,G,t3,t4⟩;refine⟨τ,?_,?_,?_,?_⟩;rw[VI,ey];exact h;rw[VI,VB (e:=σ.env) (fun s w d=>by rw[E1 m h];exact Cc (l s w d)),ex];exact G;grind;grind);apply jg;rcases z with L|z;have P:c.jZ=0\/b.jZ=0\/(c.jZ<=1/\b.jZ<=1):=(by rcases u with rfl|rfl;rcases r with rfl|rfl;simp only[Lt,zat,beq_iff_eq,co,decide_eq_true_eq,or_assoc] at L;exact L;exact .inr (.inl rfl);exact .inl rfl);obtain⟨τ,h,G⟩:=alc W O D J F E B m P f i;refine⟨τ,h,G,aef W D E B (by omega) f,aef W J F m (by omega) h⟩;rw[I,C] at z;exact ald W O D J F E B m z f i
def xX (T:bz) (ms:List dC) (F:Nat->Option FP):List Nat->St->St->Prop
 |[],σ,gX=>σ=gX
 |i::L,σ,gX=>∃m σ1,ms[i]? =some m/\F i=m.fp σ/\gA T m σ=some σ1/\xX T ms F L σ1 gX
def abh (F:Nat->Option FP) (ms:List dC) (i j:Nat) (m:dC):Prop:=∃mj,ms[j]? =some mj/\LA mj m=true/\(Lt mj m=true\/Pk (F j) (F i)=true)
structure OM (F:Nat->Option FP) (aR:Array Oper) (ms:List dC):Prop where
 back:∀(i:Nat) (o:Oper),aR[i]? =some o->∀e∈o.after,Region.binds .any e=true->e.on<i
 pair:∀(i j:Nat) (o:Oper) (m:dC),aR[i]? =some o->ms[i]? =some m->j<i->tR aR i j\/abh F ms i j m
section
variable {B N:Nat} {E:Ex} {w0 w w':World} {G G':Gh} {P:Program} {T:bz} {o:Oper} {mo:dC} {a:Act} {σ σ':St} {Q:Exit->Act->World->Prop} {aR:Array Oper}
theorem ahs {ms:List dC} {F:Nat->Option FP} {i:Nat} {c:dC} (g:∀{j:Nat} {m:dC} {σ τ:St},ms[j]? =some m->zl B E w0 N σ->gA T m σ=some τ->zl B E w0 N τ) (z:ms[i]? =some c) {post:List Nat} {f:St}: ∀{pre:List Nat} {σ:St},zl B E w0 N σ->xX T ms F (pre++i::post) σ f->(∀j∈pre,abh F ms i j c)-> ∃τ,F i=c.fp σ/\gA T c σ=some τ/\xX T ms F (pre++post) τ f
 |[],σ,hr,hx,hc=>by obtain⟨m,σ1,h1,h2,h3,h4⟩:=hx;simp_all
 |j::pre,σ,hr,hx,hc=>by obtain⟨s,σ1,d,x,e,n⟩:=hx;obtain⟨mj',b,u,h⟩:=hc j (by simp);rw[d] at b;injection b with b;subst b;obtain⟨o,l,p,v⟩:=ahs g z (g d hr e) n (fun k y=>hc k (by simp[y]));obtain⟨a,w,G,r⟩:=hr;rw[x,l] at h;obtain⟨τ,t,q,A,s4⟩:=ale r.wf u h e p;exact⟨τ,by rw[l,A],t,s,o,d,by simp_all,q,v⟩
theorem OM.next {ms:List dC} {F:Nat->Option FP} {i:Nat} {d:dC} {pre post:List Nat} {c:St} (hd:OM F aR ms) (g:∀{j:Nat} {m:dC} {σ τ:St},ms[j]? =some m->zl B E w0 N σ->gA T m σ=some τ->zl B E w0 N τ) (b:ms[i]? =some d) (a:(pre++i::post).Sublist (zag aR.size)) (hB:∀j k,j∉pre++i::post\/j=i->tR aR j k->k∉pre++i::post) (hr:zl B E w0 N σ) (hx:xX T ms F (pre++i::post) σ c): ∃τ,gA T d σ=some τ/\xX T ms F (pre++post) τ c:=by obtain⟨τ,_,t⟩:=ahs g b hr hx fun j f=>(by have e:=((List.pairwise_append.1 (zaO a zaM)).2.2 j f i (by simp));rcases hd.pair i j _ _ (zal (Pd.1 (a.subset (by simp)))) b e with h|h;grind;exact h);simp_all
def EK (ps:List (Nat×Nat)) (aR:List Oper) (ms:List dC):Bool:=
 (fun ks:List Nat=>(zag aR.length).all fun i=>match aR[i]?,ms[i]? with
  |some o,some m=>(o.after.toList.all fun e=> !Region.binds .any e||decide (e.on<i))&&
   (zag i).all fun j=>(ks.getD i 0).testBit j||(match ms[j]? with|some mj=>LA mj m&&(Lt mj m||ps.contains (j,i))|none=>false)
  |_,_=>false) (DN aR [])
theorem abY {ps:List (Nat×Nat)} {ms:List dC} {n:List (Option FP)} (h:EK ps aR.toList ms=true) (q:xA ps n=true):OM (fun i=>n.getD i none) aR ms:=by
  simp only[EK,AT,Pd] at h;have g:∀(i:Nat) (o:Oper),aR[i]? =some o->∃m,ms[i]? =some m/\(o.after.toList.all fun e=> !Region.binds .any e||decide (e.on<i))=true/\
        ∀j,j<i->(((DN aR.toList []).getD i 0).testBit j||(match ms[j]? with|some c=>LA c m&&(Lt c m||ps.contains (j,i))|none=>false))=true:=by
    intro i o b;have v:i<aR.toList.length:=by simpa using(zao.1 b).1
    have hi':=h i v;have u:aR.toList[i]? =some o:=by simpa using b
    rw[u] at hi';cases hm:ms[i]? with
    |none=>grind
    |some m=>
     rw[hm] at hi';simp only[co,AT,Pd] at hi';exact⟨m,rfl,by rw[AT];exact hi'.1,hi'.2⟩
  refine⟨fun i o b e r l=>?_,fun i j o m b hm t=>?_⟩
  · obtain⟨m,_,p,_⟩:=g i o b;have:=AT.1 p e (Array.mem_toList_iff.2 r)
    grind
  · obtain⟨m',d,_,s⟩:=g i o b;rw[hm] at d;injection d with d;subst d;have:=s j t;rw[zat] at this;rcases this with a|a
    · exact .inl (YF aR.toList [] [] rfl rfl (by intro i k l;simp at l) i j a)
    · cases W4:ms[j]? with
      |none=>rw[W4] at a;cases a
      |some c=>
       rw[W4] at a;simp only[co,zat] at a;refine .inr ⟨c,W4,a.1,?_⟩;rcases a.2 with f|f
       · exact .inl f
       · refine .inr ?_;have:=AT.1 q (j,i) (by simpa using f);exact this
theorem acO {ms:List dC}:∀(post pre:List dC) (σ b:St) (a acc:List (Option FP)),ms=pre++post->acc.length=pre.length->n7 T post acc σ=some (a,b)-> acc=a.take acc.length/\xX T ms (fun i=>a.getD i none) (List.range' pre.length post.length) σ b
 |[],pre,σ,b,a,acc,he,hl,hx=>by simp only[n7] at hx;injection hx with hx;injection hx with c d;subst c d;exact⟨by simp,rfl⟩
 |m::post,pre,σ,b,a,acc,he,hl,hx=>by simp only[n7] at hx;split at hx;rename_i σ1 f;obtain⟨c,d⟩:=acO (ms:=ms) post (pre++[m]) σ1 b a (acc++[m.fp σ]) (by simp[he]) (by simp[hl]) hx;have h3:a[acc.length]? =some (m.fp σ):=(by have:(a.take (acc++[m.fp σ]).length)[acc.length]? =some (m.fp σ):=(by rw[<-c];simp);rw[zaW] at this;split at this;exact this;cases this);have e:acc=a.take acc.length:=(by have:=congrArg (List.take acc.length) c;simpa[List.take_take] using this);refine⟨e,m,σ1,?_,?_,f,?_⟩;rw[he,zaf (Pe _),za3];rfl;grind;grind;cases hx
theorem acN {ms:List dC} {a:List (Option FP)} (hl:ms.length=aR.size) (hx:n7 T ms [] σ=some (a,σ')):xX T ms (fun i=>a.getD i none) (zag aR.size) σ σ':=by have:=(acO (T:=T) (ms:=ms) ms [] σ σ' a [] rfl rfl hx).2;simp_all [zaQ,List.range_eq_range']
theorem ahl (g:pQ P T) (hm:P.follows .mixedOrders=true) {id:Nat} {ps:List (Nat×Nat)} {ms:List dC} {c:List (Option FP)} (s:nF P N aR aR.toList ms=true) (hd:EK ps aR.toList ms=true) (hx:n7 T ms [] σ=some (c,σ')) (n:xA ps c=true) (r:R B E w0 N σ a w G) (v:∀a w G,R B E w0 N σ' a w G->Q .normal a w):(Code.region id aR true).wp P Q a w:=by obtain⟨l,f⟩:=ab0 s;have b:ms.length=aR.size:=(by simpa using l);have j:=abY hd n;refine ajI (I:=fun L a w=>∃σ G,R B E w0 N σ a w G/\xX T ms (fun i=>c.getD i none) L σ σ') hm j.back (fun a w ⟨σ,G,r,h⟩=>v a w G ((show σ=σ' from h)▸r)) (fun pre i post a w ⟨σ,G,r,hx⟩ hS hB=>?_) ⟨σ,_,r.drawn _,acN b hx⟩;have MC:i<aR.size:=Pd.1 (hS.subset (by simp));have d:ms[i]? =some ms[i]:=wt (by omega);obtain⟨o,ho,m⟩:=f i _ d;obtain⟨τ,p,q⟩:=j.next (fun t hr hx=>by obtain⟨_,_,u⟩:=f _ _ t;exact ahf hr g u hx) d hS hB ⟨a,w,G,r⟩ hx;unfold wpOp;rw[show aR[i]? =some o by grind];simp only;rcases HW (Q:=Q) r g m p with⟨e,h⟩|⟨e,G',h⟩;rw[ai e];exact .inl (Oper.wp_mono (fun a' w' ⟨G',k⟩=>⟨τ,G',k,q⟩) h);grind
theorem acP:∀{ms:List dC} {acc:List (Option FP)} {σ:St},iv T ms σ=some σ'->∃a,n7 T ms acc σ=some (a,σ')
 |[],acc,σ,h=>by cases h;exact⟨_,rfl⟩
 |m::ms,acc,σ,h=>by simp only[iv,n7] at h⊢;split at h;exact acP h;cases h
theorem atS (e:pQ P T) (hm:P.follows .mixedOrders=true) {id:Nat} {b:Bool} {ms:List dC} (c:nF P N aR aR.toList ms=true) (hd:b=true->EK [] aR.toList ms=true) (hx:iv T ms σ=some σ') (r:R B E w0 N σ a w G) (d:∀a w G,R B E w0 N σ' a w G->Q .normal a w):(Code.region id aR b).wp P Q a w:=by cases b with|false=>exact wp_region_list (aaU e c hx r d)|true=>obtain⟨fs,hx⟩:=acP (acc:=[]) hx;exact ahl e hm c (hd rfl) hx rfl r d
end
def ar2:dB:=.mv (.k (.one .cj))
def MO.isNone:dB->Bool
 |.mv (.k (.one .cj))=>true
 |_=>false
def MO.IY (s:Nat):MO->Bool
 |.t n=>n==s
 |_=>false
def wG (sp:vm) (m:dC):Bool:=
 (match m.guard with|none=>true|some _=>false)&&(match m.op with|.mv _|.rm _ _ _|.q8 _ _=>true|_=>false)&&
 (match m.dst with|none=>true|some s=>s !=sp.d&& !(sp.ml.IY s)&& !(sp.my.IY s))
def A9 (P:Program) (N:Nat) (sp:vm) (o:Oper) (m:dC):Bool:=
 decide (m.dst=some sp.d)&&decide (o.dst=some sp.d)&&decide (sp.d<N)&&(match m.guard with|none=>true|some _=>false)&&(match o.guard with|none=>true|some _=>false)&&
 MO.isNone m.op&& !(sp.ml.IY sp.d)&& !(sp.my.IY sp.d)&&
 (match o.op with
  |.call c=>match c.callee,c.args.toList,c.argTypes.toList with
   |.builtin .append,[x,y],[t,t']=>(t==t')&&cX x sp.ml&&cX y sp.my&&vA P t sp.sz (fun i z=>(i.bytes==sp.ew)&&decide (0<sp.ew)&&(z.cells.size==sp.sz))
   |_,_,_=>false
  |_=>false)
def Bb (P:Program) (sp:vm) (o:Oper) (m:dC):Bool:=
 decide (m.dst=none)&&decide (o.dst=none)&&(match m.guard with|none=>true|some _=>false)&&(match o.guard with|none=>true|some _=>false)&&MO.isNone m.op&&
 (match o.op with
  |.store t x (.tmp s)=>cX x sp.mx&&(s==sp.d)&&Pa P t 1
  |_=>false)
def CZ (P:Program) (N:Nat) (aR:Array Oper) (sp:vm) (n i:Nat) (o:Oper) (m:dC):Bool:=
 if i=sp.ia then A9 P N sp o m else if i+1=n then Bb P sp o m else x9 P N aR o m
section
variable {B N:Nat} {E:Ex} {w0 w w':World} {G G':Gh} {h h':Nat->Option aV} {P:Program} {T:bz} {o:Oper} {m:dC} {a:Act} {σ σ':St} {Q:Exit->Act->World->Prop} {aR:Array Oper} {sp:vm} {used used':Nat->Bool}
theorem MO.FJ {op:dB} (h:MO.isNone op=true):op=ar2:=by unfold MO.isNone at h;split at h;rfl;cases h
theorem MO.IZ {s:Nat} {x:MO} (h:x.IY s=false):x≠ .t s:=by grind [MO.IY]
theorem HU {d:Nat} {v:aw} {x:MO} (h:x≠ .t d):(σ.put (some d) v).ev x=σ.ev x:=by cases x with|t n=>show aN σ.env d v n=σ.env n;exact dP _ _ _ _ (fun e=>h (by rw[e]))|k v=>rfl
theorem SX (c:wG sp m=true) (hx:gA T m σ=some σ'):σ'.h=σ.h/\σ'.ev sp.ml=σ.ev sp.ml/\σ'.ev sp.my=σ.ev sp.my:=by obtain⟨dst,op,guard⟩:=m;simp only[wG,co] at c;obtain⟨⟨d,b⟩,a⟩:=c;cases guard with|some g=>cases d|none=>simp only[gA] at hx;have eW:∀x,σ'=σ.put dst x->σ'.h=σ.h/\σ'.ev sp.ml=σ.ev sp.ml/\σ'.ev sp.my=σ.ev sp.my:=(by rintro x rfl;cases dst with|none=>exact⟨rfl,rfl,rfl⟩|some s=>simp only[co,zaE] at a;exact⟨rfl,HU (MO.IZ a.1.2),HU (MO.IZ a.2)⟩);(cases op<;>simp only at b<;>first|cases b|skip);simp only[exec] at hx;grind;simp only[exec] at hx;grind;simp only[exec] at hx;split at hx;grind;grind;grind;cases hx
theorem acL (r:R B E w0 N σ a w G) (K:wG sp m=true) (L:x9 P N aR o m=true) (hx:gA T m σ=some σ'):o.guard=none/\o.wp P a w (He B E w0 N a w G o.dst σ') Q:=by simp only[x9,co,decide_eq_true_eq] at L;obtain⟨⟨⟨J,c2⟩,H⟩,b⟩:=L;have c:∀n,o.dst=some n->n<N:=fun n hn=>(by grind);obtain⟨dst,op,guard⟩:=m;simp only[wG,co] at K;obtain⟨⟨U,M⟩,h3⟩:=K;cases guard with|some g=>cases U|none=>have D:o.guard=none:=(by unfold U9 at H;cases D:o.guard with|none=>rfl|some g=>rw[D] at H;cases H);refine⟨D,?_⟩;simp only[gA] at hx;simp only at J;subst J;obtain⟨axN,y,oty,axO,axM,ogd⟩:=o;(cases op<;>simp only at M<;>first|cases M|skip);rename_i x;simp only[exec] at hx;injection hx with hx;subst hx;(cases y<;>simp only[iD] at b<;>first|cases b|skip);exact acI r (.inl rfl) c b;exact acI r (.inr rfl) c b;rename_i off x;(cases y<;>simp only[iD] at b<;>first|cases b|skip);simp only[co] at b;simp only[exec] at hx;split at hx;rename_i n k sz q e;split at hx;rename_i F;injection hx with hx;subst hx;exact VG r rfl c b.1 b.2 (.inl ⟨n,k,sz,q,e,F,rfl⟩);cases hx;rename_i xs q e;injection hx with hx;subst hx;exact VG r rfl c b.1 b.2 (.inr (.inl ⟨xs,q,e,rfl⟩));rename_i xs q j n s len e;injection hx with hx;subst hx;exact VG r rfl c b.1 b.2 (.inr (.inr ⟨xs,q,j,n,s,len,e,rfl⟩));cases hx;rename_i sz x i;(cases y<;>simp only[iD] at b<;>first|cases b|skip);simp only[co] at b;obtain⟨⟨I,A⟩,v⟩:=b;obtain⟨e,ti,z,t,C,k3,u,k5,_⟩:=wQ v;simp only[exec] at hx;split at hx;rename_i n s lo len q d h;split at hx;rename_i f;obtain⟨rfl,l,p,F⟩:=f;injection hx with hx;subst hx;exact acG r rfl c I A t C u h l (.inl ⟨n,lo,len,d,p,F,rfl⟩);cases hx;rename_i s xs q d h;split at hx;rename_i f;obtain⟨rfl,l⟩:=f;split at hx;rename_i O V;injection hx with hx;subst hx;exact acG r rfl c I A t C u h l (.inr ⟨xs,O,d,V,rfl⟩);cases hx;cases hx;rename_i n kk aZ off s len q d h;split at hx;rename_i s' ys S;split at hx;rename_i f;obtain⟨rfl,l,p⟩:=f;injection hx with hx;subst hx;exact amf r rfl c I A t C u h l p d S;cases hx;cases hx;cases hx
theorem amj (r:R B E w0 N σ a w G) {n k d off sz s:Nat} {xs K:List (List C)} {t:TypeId} {i:TypeInfo} {x:Operand} {mx:MO} (U:o.op=.store t x (.tmp s)) (hd:o.dst=none) (iL:cX x mx=true)
  (hi:P.info? t=some i) (dn:i.size=1) (X:σ.ev mx=.one (.ptr n k d off)) (hn:σ.h n=some (.row true .live d xs)) (pW:off+1=d) (sY:n<aY) (hk:∃e,xs[k]? =some e)
  (T:Hf B E w G σ.h n k off sz K (a.tmps.getD s undef)):
  o.wp P a w (Nx B E w0 N ((σ.cut n).fQ n (.row true .live d (xs.set k ((xs.getD k []).set off (.list sz K)))))) Q:=by
 obtain⟨H,_⟩:=r.ev iL;rw[X] at H;have cQ:σ.h n≠none:=by rw[hn];simp
 obtain⟨p1,S⟩:=(H.il (by simp)).1 cQ;have hr:=r.hr.row n true .live d xs hn;obtain⟨⟨cur,et,p⟩,l2,l3⟩:=hr.f6 p1;obtain⟨q,F,qe,f⟩:=T;obtain⟨el,J⟩:=hk;have lR:∃pe,(G.g n).px[k]? =some pe/\pe.map PC.er=el:=by
  have j:=J;rw[hr.er,AN] at j;cases f:(G.g n).px[k]? with
  |none=>rw[f] at j;cases j
  |some pe=>rw[f] at j;simp at j;exact⟨pe,rfl,j⟩
 obtain⟨pe,D,V⟩:=lR;have Dm:pe.length=d:=l2.1 pe (AI D);have l:=PC.nW q;rw[F] at l;have I:(a.eval (.tmp s)).cells.toList=[q.val]:=by
  have Y:a.eval (.tmp s)=a.tmps.getD s undef:=rfl;rw[Y,F]
  revert l
  cases a.tmps.getD s undef<;>intro l<;>first|rfl|(simp[Value.oneCell'] at l)
 have ni:(a.eval (.tmp s)).cells.size=1:=by rw[<-zaz,I];rfl
 have Ml:(G.g n).o+k*d+off+(a.eval (.tmp s)).cells.size<=cur.size:=by
  have z:=l2.2.1 k off (pe[off]'(by omega)) ⟨pe,D,wt _⟩;have:=EJ p z;omega
 have Z:=r.cut n;have yu:(σ.cut n).h n=some (.row true .live d xs):=by show(σ.h n).map _=_;rw[hn];rfl
 have yy:OQ B E w G (σ.cut n).h n k off q:=⟨f.fm,f.sep,f.nr,f.own,fun b y m A=>f.name b y m (Bf A),fun b y m W M sz xs di A=>f.row b y m W M sz xs di (C3 A),f.rest⟩;have O:=Z.nest yu sY (fun s=>aw.HM n (σ.env s)) (fun m cs c hm z=>by
  obtain⟨jS,_,rfl⟩:=Vp (h:=σ.h) hm;obtain⟨c0,_,rfl⟩:=BY.1 z;exact ao.HM n c0) D pW p yy
 have L:=RN (P:=P) (w:=w) (t:=t) (i:=i) (b:=(G.g n).b) (off:=(G.g n).o+k*d+off) (v:=a.eval (.tmp s)) (cur:=cur) (e:=et) hi (by rw[dn,ni]) p Ml (fun u hu=>by
  simp_all)
 rw[I] at L;have kZ:xs.getD k []=pe.map PC.er:=by rw[zae,J,V];rfl
 rw[kZ,<-qe];refine S5 (w':=jq w (G.g n).b ((G.g n).o+k*d+off) [q.val] cur) ?_ (by rw[hd];exact⟨_,O⟩);simp only[execOp,U,S];simp[Instr.storeAt,Instr.sureAddr,L]
structure K7 (sp:vm) (σ σ2:St) (n k rs off:Nat) (xs ls ys:List (List C)):Prop where
 hx:σ.ev sp.mx=.one (.ptr n k rs off)
 hl:∃s0 Ak,σ.ev sp.ml=.one (.cF n k rs off s0 Ak)
 pW:off+1=rs
 sY:n<aY
 hn:σ.h n=some (.row true .live rs xs)
 yt:(xs[k]?).bind (·[off]?)=some (.list sp.sz ls)
 hy:∃yc,σ.ev sp.my=.one yc/\dX σ.h yc=some (.list sp.sz ys)
 sl:gU ls=true
 sy:gU ys=true
 fit:(ls.length+ys.length)*sp.ew<=fe
 out:σ2=(σ.cut n).fQ n (.row true .live rs (xs.set k ((xs.getD k []).set off (.list sp.sz (ls++ys)))))
theorem agd {σ2:St} (h:DR sp σ=some σ2):∃n k b off xs a ys,K7 sp σ σ2 n k b off xs a ys:=by unfold DR at h;split at h;rename_i n k b off n' k' pf qL s0 Ak i e j r;split at h;rename_i m;obtain⟨rfl,rfl,rfl,rfl,d,g⟩:=m;split at h;rename_i N4 xs hn;split at h;rename_i l;subst l;split at h;rename_i s a s' ys yt p;split at h;rename_i f;obtain⟨rfl,rfl,c,o,q⟩:=f;injection h with h;exact⟨_,_,_,_,xs,a,ys,e,⟨_,_,j⟩,d,g,hn,yt,⟨i,r,p⟩,c,o,q,h.symm⟩;cases h;cases h;cases h;cases h;cases h;cases h
theorem abv (a:A9 P N sp o m=true):gA T m σ=some (σ.put (some sp.d) (.one .cj)):=by
 simp only[A9,co,decide_eq_true_eq] at a;have b:m.guard=none:=by cases hg:m.guard with|none=>rfl|some g=>rw[hg] at a;simp at a
 have c:=MO.FJ a.1.1.1.2;have hd:=a.1.1.1.1.1.1.1.1;obtain⟨dst,op,guard⟩:=m;simp only at b c hd;subst b c hd;rfl
theorem ai0 (a:Bb P sp o m=true):gA T m σ=some σ:=by
 simp only[Bb,co,decide_eq_true_eq] at a;have b:m.guard=none:=by cases hg:m.guard with|none=>rfl|some g=>rw[hg] at a;simp at a
 have c:=MO.FJ a.1.2;have hd:=a.1.1.1.1.1;obtain⟨dst,op,guard⟩:=m;simp only at b c hd;subst b c hd;rfl
theorem ai4 (r:R B E w0 N σ a w G) (K:A9 P N sp o m=true) {l σ2:St} {n k W off:Nat} {xs I ys:List (List C)} (F:K7 sp l σ2 n k W off xs I ys) (hh:l.h=σ.h) (hl:l.ev sp.ml=σ.ev sp.ml) (hy:l.ev sp.my=σ.ev sp.my):
  o.guard=none/\o.dst=some sp.d/\sp.d<N/\gA T m σ=some (σ.put (some sp.d) (.one .cj))/\
  o.wp P a w (fun s w'=>∃v,s=a.put (some sp.d) v/\R B E w0 N (σ.put (some sp.d) (.one .cj)) s w' G/\Hf B E w' G σ.h n k off sp.sz (I++ys) v) Q:=by
 simp only[A9,co,decide_eq_true_eq] at K;obtain⟨⟨⟨⟨⟨⟨⟨⟨A,L⟩,c3⟩,M⟩,J⟩,c6⟩,c7⟩,c8⟩,b⟩:=K;have WO:o.guard=none:=by cases hg:o.guard with|none=>rfl|some g=>rw[hg] at J;cases J
 have O:m.guard=none:=by cases hg:m.guard with|none=>rfl|some g=>rw[hg] at M;cases M
 have U:=MO.FJ c6;refine⟨WO,L,c3,?_,?_⟩
 ·obtain⟨dst,op,guard⟩:=m;simp only at O U A;subst O U A;rfl
 ·split at b
  ·rename_i c u;split at b
   ·rename_i x y t t' D k2 k3;simp only[co,beq_iff_eq] at b;obtain⟨⟨⟨rfl,d2⟩,d3⟩,d4⟩:=b;obtain⟨e,i,z,g1,g2,X,g4,Z,j⟩:=wQ d4;simp only[co,beq_iff_eq,decide_eq_true_eq] at j;obtain⟨⟨j,g7⟩,g8⟩:=j;have Y:o.op=.call {callee:=.builtin .append,args:=#[x,y],argTypes:=#[t,t]}:=by
     rw[u];obtain⟨cc,ca,ct⟩:=c;simp only at D k2 k3;subst D;congr 2
     ·grind
     ·grind
    obtain⟨s0,Ak,S⟩:=F.hl;obtain⟨yc,H,f⟩:=F.hy;rw[hl] at S;rw[hy] at H;rw[hh] at f;have hn:=F.hn;rw[hh] at hn;refine Oper.wp_mono (fun s w' ⟨v,p,e2,e3⟩=>?_) (alQ (P:=P) (Q:=Q) r Y d2 d3 g1 g2 X g4 Z j g7 g8 hn F.pW S F.yt F.sl H f F.sy F.fit);rw[L] at p;refine⟨v,p,?_,e3⟩;rw[p];exact e2.put (x:=.one .cj) (zbe rfl) (fun q V=>(V:False).elim) (fun q V=>by simp_all)
   ·cases b
  ·cases b
theorem ai5 (r:R B E w0 N σ a w G) (l:Bb P sp o m=true) {σ2:St} {n k v off:Nat} {xs f ys:List (List C)} (F:K7 sp σ σ2 n k v off xs f ys) (y:Hf B E w G σ.h n k off sp.sz (f++ys) (a.tmps.getD sp.d undef)):
  o.guard=none/\gA T m σ=some σ/\o.wp P a w (Nx B E w0 N σ2) Q:=by
 simp only[Bb,co,decide_eq_true_eq] at l;obtain⟨⟨⟨⟨⟨e,D⟩,p⟩,j⟩,z⟩,c⟩:=l;have A:o.guard=none:=by cases hg:o.guard with|none=>rfl|some g=>rw[hg] at j;cases j
 have q:m.guard=none:=by cases hg:m.guard with|none=>rfl|some g=>rw[hg] at p;cases p
 have u:=MO.FJ z;refine⟨A,?_,?_⟩
 ·obtain⟨dst,op,guard⟩:=m;simp only at q u e;subst q u e;rfl
 ·split at c
  ·rename_i t x s J;simp only[co,beq_iff_eq] at c;obtain⟨⟨H,rfl⟩,b⟩:=c;unfold Pa at b;split at b
   ·rename_i i I;simp only[co,beq_iff_eq,decide_eq_true_eq] at b;rw[F.out];refine amj r J D H I b.1 F.hx F.hn F.pW F.sY ?_ y;have:=F.yt
    grind
   ·cases b
  ·cases c
theorem ajw:∀{l:List dC} {σ a:St},(∀m∈l,wG sp m=true)->iv T l σ=some a->a.h=σ.h/\a.ev sp.ml=σ.ev sp.ml/\a.ev sp.my=σ.ev sp.my
 |[],σ,a,hv,hx=>by simp_all [iv]
 |m::l,σ,a,hv,hx=>by simp only[iv] at hx;split at hx;rename_i σ1 b;obtain⟨a1,a2,a3⟩:=SX (hv m (by simp)) b;obtain⟨b1,b2,b3⟩:=ajw (fun m hm=>hv m (by simp[hm])) hx;simp_all;cases hx
theorem Rp {d:Nat} {dst:Option Nat} {v:Value} (hd:dst≠some d):(a.put dst v).tmps.getD d undef=a.tmps.getD d undef:=by cases dst with|none=>rfl|some s=>have hs:s≠d:=fun e=>hd (by rw[e]);simp only[Act.put];simp_all
theorem ag7 {d:Nat} {v:Value} (hd:d<a.tmps.size):(a.put (some d) v).tmps.getD d undef=v:=by simp only[Act.put];simp_all
theorem ajx (hv:wG sp m=true):m.dst≠some sp.d:=by intro h;simp_all [wG,co]
theorem abZ (hc:x9 P N aR o m=true):o.dst=m.dst:=by simp_all [x9,co,decide_eq_true_eq]
theorem ajH {s:Oper} {sm:dC}:∀{l:List Oper} {ms:List dC} {σ c σ2:St} {a:Act} {w:World} {G:Gh} {n k e off:Nat} {xs b ys:List (List C)},(∀m∈ms,wG sp m=true)->nF P N aR l ms=true->Bb P sp s sm=true-> iv T ms σ=some c->K7 sp c σ2 n k e off xs b ys->R B E w0 N σ a w G->Hf B E w G σ.h n k off sp.sz (b++ys) (a.tmps.getD sp.d undef)->(∀a w G,R B E w0 N σ2 a w G->Q .normal a w)->wpList P aR Q (l++[s]) a w
 |[],[],σ,c,σ2,a,w,G,n,k,e,off,xs,b,ys,hv,hc,hs,hx,F,r,hp,hQ=>by simp only[iv] at hx;injection hx with hx;subst hx;obtain⟨g,_,i⟩:=ai5 (T:=T) (Q:=Q) r hs F hp;simp only[zba];unfold wpList;rw[ai (by simp[Region.wanted,g])];exact .inl (Oper.wp_mono (fun q w' ⟨G',f⟩=>hQ q w' G' f) i)
 |o::l,m::ms,σ,c,σ2,a,w,G,n,k,e,off,xs,b,ys,hv,hc,hs,hx,F,r,hp,hQ=>by simp only[nF,co] at hc;simp only[iv] at hx;split at hx;rename_i σ1 p;have j:=hv m (by simp);obtain⟨g,i⟩:=acL (Q:=Q) r j hc.1 p;simp only[zaK];unfold wpList;rw[ai (by simp[Region.wanted,g])];refine .inl (Oper.wp_mono (fun q w' ⟨t,⟨v,u⟩,f⟩=>?_) i);subst t u;refine ajH (fun m hm=>hv m (by simp[hm])) hc.2 hs hx F f ?_ hQ;rw[(SX j p).1,Rp (by rw[abZ hc.1];exact ajx j)];exact hp;cases hx
 |[],_::_,_,_,_,_,_,_,_,_,_,_,_,_,_,_,hc,_,_,_,_,_,_=>by simp[nF] at hc
 |_::_,[],_,_,_,_,_,_,_,_,_,_,_,_,_,_,hc,_,_,_,_,_,_=>by simp[nF] at hc
theorem VK:∀(l a:List dC) (σ:St),iv T (l++a) σ=(iv T l σ).bind (iv T a)
 |[],a,σ=>rfl
 |m::l,a,σ=>by simp only[zaK,iv];cases gA T m σ with|none=>rfl|some σ1=>exact VK l a σ1
theorem axa {l1 l2:List Oper} {m1:List dC} {σ1:St} (g:pQ P T) (b:nF P N aR l1 m1=true) (hx:iv T m1 σ=some σ1) (r:R B E w0 N σ a w G) (hQ:∀a w G,R B E w0 N σ1 a w G->wpList P aR Q l2 a w):wpList P aR Q (l1++l2) a w:=by induction l1 generalizing m1 σ a w G with|nil=>grind [iv,nF]|cons o l1 f=>cases m1 with|nil=>simp[nF] at b|cons m m1=>simp only[nF,co] at b;simp only[iv] at hx;split at hx;rename_i σ2 e;simp only[zaK];unfold wpList;rcases HW (Q:=Q) r g b.1 e with⟨c,h⟩|⟨c,G',h⟩;rw[ai c];exact .inl (Oper.wp_mono (fun a' w' ⟨G',d⟩=>f b.2 hx d) h);grind;cases hx
def Vb (P:Program) (N:Nat) (aR:Array Oper) (ms:List dC) (sp:vm):Bool:=
 nF P N aR (aR.toList.take sp.ia) (ms.take sp.ia)&&
 (match aR.toList.drop sp.ia,ms.drop sp.ia with
  |oa::l,ma::m=>A9 P N sp oa ma&&nF P N aR l.dropLast m.dropLast&&m.dropLast.all (wG sp)&&(match l.getLast?,m.getLast? with
   |some so,some sm=>Bb P sp so sm
   |_,_=>false)
  |_,_=>false)
theorem afJ {α:Type} {l:List α} {x:α} (h:l.getLast?=some x):l=l.dropLast++[x]:=by grind [List.getLast?_eq_some_iff]
theorem atQ (Z:pQ P T) {id:Nat} {ms:List dC} {σ1 σ2:St} (s:Vb P N aR ms sp=true) (hx:iv T ms σ=some σ1) (Y:DR sp σ1=some σ2) (r:R B E w0 N σ a w G) (X:∀a w G,R B E w0 N σ2 a w G->Q .normal a w):(Code.region id aR false).wp P Q a w:=by refine wp_region_list ?_;simp only[Vb,co] at s;obtain⟨re,f⟩:=s;split at f;rename_i K l o m A O;simp only[co,AT] at f;obtain⟨⟨⟨i,L⟩,q⟩,e⟩:=f;split at e;rename_i so sm U D;have hl:aR.toList=aR.toList.take sp.ia++(K::(l.dropLast++[so])):=(by rw[<-afJ U,<-A,zaR]);have hm:ms=ms.take sp.ia++(o::(m.dropLast++[sm])):=(by rw[<-afJ D,<-O,zaR]);rw[hl];rw[hm,VK] at hx;(cases nk:iv T (ms.take sp.ia) σ with|none=>grind|some τ=>rw[nk] at hx;have hx:iv T (o::(m.dropLast++[sm])) τ=some σ1:=hx;refine axa Z re nk r fun a w G p=>?_;obtain⟨n,k,rs,off,xs,ls,ys,F⟩:=agd Y;simp only[iv] at hx;have j:gA T o τ=some (τ.put (some sp.d) (.one .cj)):=abv i;rw[j] at hx;simp only at hx;rw[VK] at hx;cases fT:iv T m.dropLast (τ.put (some sp.d) (.one .cj)) with|none=>grind|some b=>rw[fT] at hx;have hx:iv T [sm] b=some σ1:=hx;have H:gA T sm b=some b:=ai0 e;simp only[iv,H] at hx;injection hx with hx;subst hx;obtain⟨z,S,V⟩:=ajw (sp:=sp) q fT;have u:sp.ml≠ .t sp.d/\sp.my≠ .t sp.d:=(by have c:=i;simp only[A9,co,decide_eq_true_eq,zaE] at c;exact⟨MO.IZ c.1.1.2,MO.IZ c.1.2⟩);have hh:b.h=τ.h:=z;have M:b.ev sp.ml=τ.ev sp.ml:=S.trans (HU u.1);have g:b.ev sp.my=τ.ev sp.my:=V.trans (HU u.2);obtain⟨J,g2,x,_,I⟩:=ai4 (T:=T) (Q:=Q) p i F hh M g;unfold wpList;rw[ai (by simp[Region.wanted,J])];refine .inl (Oper.wp_mono (fun a' w' ⟨v,y,C,W⟩=>?_) I);refine ajH q L e fT F C ?_ X;rw[y,ag7 (by rw[p.size];exact x)];exact W);cases e;cases f
structure Tc (F:Nat->Option FP) (aR:Array Oper) (ms:List dC) (sp:vm):Prop where
 base:OM F aR ms
 app:∀(i:Nat) (m:dC),ms[i]? =some m->i≠sp.ia->i+1≠aR.size->tR aR sp.ia i\/wG sp m=true
 st:∀i,i+1<aR.size->tR aR (aR.size - 1) i
 lt:sp.ia+1<aR.size
def Ta (P:Program) (N:Nat) (aR:Array Oper) (ms:List dC) (sp:vm):Prop:=
 ∀(i:Nat) (m:dC),ms[i]? =some m->∃o,aR[i]? =some o/\CZ P N aR sp aR.size i o m=true
theorem akZ (k:pQ P T) {ms:List dC} (l:Ta P N aR ms sp) {i:Nat} {c:dC} (j:ms[i]? =some c) {τ:St} (r:zl B E w0 N σ) (hx:gA T c σ=some τ):zl B E w0 N τ:=by
 obtain⟨o,ho,b⟩:=l i c j;unfold CZ at b;split at b
 ·simp only[A9,co,decide_eq_true_eq] at b;have e:c.guard=none:=by cases hg:c.guard with|none=>rfl|some g=>rw[hg] at b;simp at b
  have f:=MO.FJ b.1.1.1.2;have hd:=b.1.1.1.1.1.1.1.1;have hdN:=b.1.1.1.1.1.1.2;obtain⟨dst,op,guard⟩:=c;simp only at e f hd;subst e f hd;have hx:some (σ.put (some sp.d) (.one .cj))=some τ:=hx;injection hx with hx;subst hx;obtain⟨a,w,G,r⟩:=r;exact⟨_,w,G,r.put (x:=.one .cj) (v:=undef) (d:=some sp.d) (zbe rfl) (fun q h=>(h:False).elim) (fun q h=>by simp_all)⟩
 ·split at b
  ·simp only[Bb,co,decide_eq_true_eq] at b;have e:c.guard=none:=by cases hg:c.guard with|none=>rfl|some g=>rw[hg] at b;simp at b
   have f:=MO.FJ b.1.2;have hd:=b.1.1.1.1.1;obtain⟨dst,op,guard⟩:=c;simp only at e f hd;subst e f hd;have hx:some σ=some τ:=hx
   simp_all
  ·exact ahf r k b hx
theorem aht {ms:List dC} {F:Nat->Option FP} (n:Ta P N aR ms sp) (hd:Tc F aR ms sp):∀{L:List Nat} {σ b:St},xX T ms F L σ b->(∀j∈L,j≠sp.ia/\¬tR aR sp.ia j)->
  b.h=σ.h/\b.ev sp.ml=σ.ev sp.ml/\b.ev sp.my=σ.ev sp.my
 |[],σ,b,hx,_=>by have hx:σ=b:=hx;simp_all
 |i::L,σ,b,hx,hL=>by
  obtain⟨m,σ1,d,_,c,q⟩:=hx;obtain⟨b1,b2,b3⟩:=aht n hd q (fun j s=>hL j (by simp[s]));have eW:σ1.h=σ.h/\σ1.ev sp.ml=σ.ev sp.ml/\σ1.ev sp.my=σ.ev sp.my:=by
   obtain⟨e,r⟩:=hL i (by simp);by_cases p:i+1=aR.size
   ·obtain⟨o,ho,a⟩:=n i m d;unfold CZ at a;rw[aq e,ai p] at a;simp only[Bb,co,decide_eq_true_eq] at a;have f:m.guard=none:=by cases hg:m.guard with|none=>rfl|some g=>rw[hg] at a;simp at a
    have l:=MO.FJ a.1.2;have k:=a.1.1.1.1.1;obtain⟨dst,op,guard⟩:=m;simp only at f l k;subst f l k;have c:some σ=some σ1:=c
    simp_all
   ·exact SX ((hd.app i m d e p).resolve_left r) c
  simp_all
theorem atO (hT:pQ P T) (hm:P.follows .mixedOrders=true) {id:Nat} {ms:List dC} {F:Nat->Option FP} (S:Ta P N aR ms sp) (hlen:ms.length=aR.size) (hd:Tc F aR ms sp) {x σ2:St} {n k rs off:Nat} {xs W ys:List (List C)} (Y:K7 sp x σ2 n k rs off xs W ys) (r:R B E w0 N σ a w G) (hx:xX T ms F (zag aR.size) σ x) (hQ:∀a w G,R B E w0 N σ2 a w G->Q .normal a w):(Code.region id aR true).wp P Q a w:=by have cI:=hd.lt;refine ajI (I:=fun L a w=>(∃σ G,R B E w0 N σ a w G/\xX T ms F L σ x/\aR.size - 1∈L/\(sp.ia∉L->Hf B E w G σ.h n k off sp.sz (W++ys) (a.tmps.getD sp.d undef)))\/(L=[]/\∃G,R B E w0 N σ2 a w G)) hm hd.base.back (fun a w h=>h.elim (fun⟨_,_,_,_,h,_⟩=>(by cases h)) fun⟨_,G,r⟩=>hQ a w G r) (fun pre i post a w hI hS hB=>?_) (.inl ⟨σ,_,r.drawn _,hx,Pd.2 (by omega),fun h=>absurd (Pd.2 (by omega)) h⟩);obtain⟨σ,G,r,hx,Fk,U⟩:=hI.resolve_right (fun h=>by simp at h);have MC:i<aR.size:=Pd.1 (hS.subset (by simp));have z:ms[i]? =some ms[i]:=wt (by omega);obtain⟨oi,Qe,b⟩:=S i _ z;obtain⟨τ,f,g⟩:=hd.base.next (fun m hr hx=>akZ hT S m hr hx) z hS hB ⟨a,w,G,r⟩ hx;have V:i∉pre++post:=(by have:=(hS.nodup za4);simp only[za1,za9] at this;simp only[zaa];rintro(h|h);grind;grind);have o:∀j,j∈pre++i::post↔j∈pre++post\/j=i:=(by intro j;simp only[zaa,zai];constructor;rintro(h|h|h);exact .inl (.inl h);exact .inr h;exact .inl (.inr h);rintro((h|h)|h);exact .inl h;exact .inr (.inr h);exact .inr (.inl h));unfold wpOp;rw[Qe];simp only;by_cases l:i=sp.ia;unfold CZ at b;rw[ai l] at b;obtain⟨k1,k2,k3⟩:=aht S hd g fun j m=>⟨fun e=>V (by grind),fun s=>hB i j (.inr rfl) (l▸s) ((o j).2 (.inl m))⟩;have D:τ=σ.put (some sp.d) (.one .cj):=(by rw[abv (T:=T) (σ:=σ) b] at f;injection f with f;exact f.symm);subst D;have Z:sp.ml≠ .t sp.d/\sp.my≠ .t sp.d:=(by have c:=b;simp only[A9,co,decide_eq_true_eq,zaE] at c;exact⟨MO.IZ c.1.1.2,MO.IZ c.1.2⟩);obtain⟨p,u,g3,_,g5⟩:=ai4 (T:=T) (Q:=Q) r b Y k1 (k2.trans (HU Z.1)) (k3.trans (HU Z.2));rw[ai (by simp[Region.wanted,p])];refine .inl (Oper.wp_mono (fun K w' ⟨v,q1,q2,q3⟩=>.inl ⟨_,G,q2,g,((o _).1 Fk).resolve_right (by omega),fun _=>?_⟩) g5);rw[q1,ag7 (by rw[r.size];exact g3)];exact q3;by_cases M:i+1=aR.size;have H:pre++post=[]:=zav.2 fun j m=>(by have h1:=(o j).2 (.inl m);have h2:=Pd.1 (hS.subset h1);have:j≠i:=fun e=>V (e▸m);have s:=hd.st j (by omega);grind);rw[H] at g;have g:τ=x:=g;subst g;unfold CZ at b;rw[aq l,ai M] at b;have D:τ=σ:=(by rw[ai0 (T:=T) (σ:=σ) b] at f;injection f with f;exact f.symm);subst D;obtain⟨p,_,u⟩:=ai5 (T:=T) (Q:=Q) r b Y (U fun h=>by rcases(o _).1 h with h|h;rw[H] at h;cases h;exact l h.symm);rw[ai (by simp[Region.wanted,p])];exact .inl (Oper.wp_mono (fun K w' h=>.inr ⟨H,h⟩) u);have q:aR.size - 1∈pre++post:=((o _).1 Fk).resolve_right (by omega);unfold CZ at b;rw[aq l,aq M] at b;by_cases O:sp.ia∈pre++i::post;have J:sp.ia∈pre++post:=((o _).1 O).resolve_right (zaZ l);rcases HW (Q:=Q) r hT b f with⟨X,h⟩|⟨X,G',h⟩;rw[ai X];exact .inl (Oper.wp_mono (fun K w' ⟨G',y⟩=>.inl ⟨τ,G',y,g,q,fun h=>absurd J h⟩) h);grind;have A:wG sp ms[i]=true:=(hd.app i _ z l M).resolve_left fun s=>hB sp.ia i (.inl O) s (by simp);obtain⟨p,u⟩:=acL (Q:=Q) r A b f;rw[ai (by simp[Region.wanted,p])];refine .inl (Oper.wp_mono (fun K w' ⟨e2,⟨v,e3⟩,y⟩=>?_) u);subst e2 e3;refine .inl ⟨τ,G,y,g,q,fun _=>?_⟩;rw[(SX A f).1,Rp (by rw[abZ b];exact ajx A)];exact U O
def Va (P:Program) (N:Nat) (aR:Array Oper) (ps:List (Nat×Nat)) (ms:List dC) (sp:vm):Bool:=
 (ms.length==aR.size)&&decide (sp.ia+1<aR.size)&&EK ps aR.toList ms&&
 (fun ks:List Nat=>(zag aR.size).all fun i=>match aR.toList[i]?,ms[i]? with
  |some o,some m=>CZ P N aR sp aR.size i o m&&(i==sp.ia||i+1==aR.size||wG sp m||(ks.getD sp.ia 0).testBit i)&&(i+1==aR.size||(ks.getD (aR.size - 1) 0).testBit i)
  |_,_=>false) (DN aR.toList [])
theorem atP (t:pQ P T) (hm:P.follows .mixedOrders=true) {id:Nat} {ps:List (Nat×Nat)} {ms:List dC} {d:List (Option FP)} {σ1 σ2:St} (e:Va P N aR ps ms sp=true) (hx:n7 T ms [] σ=some (d,σ1)) (l:xA ps d=true)
  (s:DR sp σ1=some σ2) (r:R B E w0 N σ a w G) (q:∀a w G,R B E w0 N σ2 a w G->Q .normal a w):(Code.region id aR true).wp P Q a w:=by
 simp only[Va,co,beq_iff_eq,decide_eq_true_eq,AT,Pd] at e;obtain⟨⟨⟨b,f⟩,hd⟩,u⟩:=e;have p:∀(i:Nat) (m:dC),ms[i]? =some m->∃o,aR[i]? =some o/\CZ P N aR sp aR.size i o m=true/\((i=sp.ia\/i+1=aR.size)\/wG sp m=true\/((DN aR.toList []).getD sp.ia 0).testBit i=true)/\(i+1=aR.size\/((DN aR.toList []).getD (aR.size - 1) 0).testBit i=true):=by
  intro i m hm;have c:i<aR.size:=by rw[<-b];exact(By.1 hm).1
  have h:=u i c;have g:aR.toList[i]? =some aR[i]:=by simp[c]
  rw[g,hm] at h;simp only[co,zat,beq_iff_eq] at h;exact⟨_,zal c,h.1.1,by
   grind,h.2⟩
 have axp:∀i j,((DN aR.toList []).getD i 0).testBit j=true->tR aR i j:=YF aR.toList [] [] rfl rfl (by simp_all);have v:Tc (fun i=>d.getD i none) aR ms sp:=by
  refine⟨abY hd l,fun i m hm h1 h2=>?_,fun i c=>?_,f⟩
  ·grind
  ·have hm:ms[i]? =some (ms[i]'(by omega)):=wt _;obtain⟨o,_,_,_,h4⟩:=p i _ hm
   grind
 obtain⟨n,k,rs,off,xs,ls,ys,F⟩:=agd s;exact atO t hm (fun i m h=>by
  grind) b v F r (acN b hx) q
structure AQ (B:Nat) (E:Ex) (w:World) (G:Gh) (h:Nat->Option aV) (pc:PC):Prop where
 fm:Good w pc
 sep:Sep pc
 own:∀b,bB b pc->¬G.Im b/\fB w b/\(B<=b\/E b)
 name:∀b,bB b pc->∀m,h m≠none->(G.g m).nl=false->b≠(G.g m).b
 row:∀b,bB b pc->∀m gr mo sz xs,h m=some (.row gr mo sz xs)->¬bK b (G.g m).px
theorem AQ.less {pc:PC} (L:AQ B E w G h pc) (hl:∀n b,h' n=some b->h n=some b):AQ B E w G h' pc:= ⟨L.fm,L.sep,L.own,fun b c m a=>L.name b c m (by cases hh:h' m with|none=>exact absurd hh a|some x=>rw[hl m x hh];simp),fun b c m e d sz xs a=>L.row b c m e d sz xs (hl m _ a)⟩
theorem AQ.Ca {pc:PC} (d:Good w pc) (c:∀b,¬bB b pc):AQ B E w G h pc:= ⟨d,Sep.Ca c d,fun b a=>absurd a (c b),fun b a=>absurd a (c b),fun b a=>absurd a (c b)⟩
theorem HR.AF (H:HR B E w G σ.h σ.used []) {c:ao} {x:C} {ok:Bool} {σ1:St} {v:Value} (hx:σ.AF c=some (x,ok,σ1)) (A:RC w G σ.h c v): ∃pc:PC,pc.er=x/\pc.val=v/\AQ B E w G σ1.h pc/\(ok=true->t7 w pc)/\HR B E w G σ1.h σ1.used []/\bU w G σ.h (fun n=>σ.used n=true) w G σ1.h/\σ1.env=σ.env/\σ1.used=σ.used/\(∀n b,σ1.h n=some b->σ.h n=some b)/\ (∀b,bB b pc->∃n,σ.h n≠none/\(G.g n).nl=false/\(G.g n).b=b):=by unfold St.AF at hx;split at hx;rename_i y;split at hx;rename_i r;injection hx with hx;injection hx with p d;injection d with d h3;subst p d h3;obtain⟨pc,p1,p2,p3,_⟩:=A;have L:pc.er.gI=true:=(by rw[p1];exact r);have u:=(Sep.kC L).2;exact⟨pc,p1,p2,.Ca p3 u,fun _=>t7.kC L,H,bU.refl _ _ _ _,rfl,rfl,fun _ _ h=>h,fun b a=>absurd a (u b)⟩;cases hx;rename_i sz;split at hx;rename_i W;injection hx with hx;injection hx with p d;injection d with d h3;subst p d h3;have P:v=.slice none 0 0:=A;subst P;have u:∀b,¬bB b (.list sz none 0 []):=fun b a=>(by rw[bB.oZ] at a;rcases a with⟨a,_⟩|⟨k,j,c,⟨e,N,_⟩,_⟩;exact absurd rfl a;simp at N);exact⟨.list sz none 0 [],by simp[PC.fk],rfl,.Ca (.nil _ _ _ W) u,fun _=>.inl rfl,H,bU.refl _ _ _ _,rfl,rfl,fun _ _ h=>h,fun b a=>absurd a (u b)⟩;cases hx;rename_i n sz len;split at hx;rename_i M m i xs hn;split at hx;rename_i Q;obtain⟨rfl,hm,lc,hl⟩:=Q;injection hx with hx;injection hx with p d;injection d with d h3;subst p d h3;have l:σ.h n≠none:=(by rw[hn];simp);have hr:=H.row n M m i xs hn;have r:jD (G.g n) i 0 len v:=A l;obtain⟨S,a2,a3,Z⟩:=Ka hr r (by omega);have z:gU ((G.g n).px.map fun e=>e.map PC.er)=true:=(by rw[<-hr.er];exact lc);have D:∀b,¬bK b (G.g n).px:=AA z;have t:∀b,bB b (nC (G.g n) i 0 len v)->(G.g n).nl=false/\b=(G.g n).b:=fun b a=>(Z b a).resolve_right (D b);have Mu:∃I J,nC (G.g n) i 0 len v=.list i I J (((G.g n).px.drop 0).take len):=(by rcases r with⟨_,rfl,_,_⟩|⟨_,O,rfl,_,_⟩<;>exact⟨_,_,rfl⟩);have U:gU ((((G.g n).px.drop 0).take len).map fun e=>e.map PC.er)=true:=(by simp only[gU,AT,BY] at z⊢;rintro e ⟨e0,pu,rfl⟩;exact z _ ⟨e0,List.mem_of_mem_drop (zaS pu),rfl⟩);refine⟨nC (G.g n) i 0 len v,by simpa using S,a2,⟨a3,?_,fun b a=>?_,fun b a q s Fm=>?_,fun b a q cq mo bf aM s=>?_⟩,fun F=>?_,H.del n,bU.del n _,rfl,rfl,fun q b s=>(rL s).1,fun b a=>⟨n,l,(t b a).1,(t b a).2.symm⟩⟩;obtain⟨I,J,T⟩:=Mu;rw[T];exact Sep.flat U;obtain⟨f,rfl⟩:=t b a;exact⟨(H.own n l f).1,(hr.f6 f).1,(H.own n l f).2.1⟩;obtain⟨f,rfl⟩:=t b a;obtain⟨V,R⟩:=Bh s;exact H.inj n q l V (zaZ R) f Fm;obtain⟨f,rfl⟩:=t b a;intro hF;exact H.vI l f (rL s).1 hF rfl;simp only[co,decide_eq_true_eq] at F;obtain⟨rfl,fZ⟩:=F;have ij:(G.g n).px.length=xs.length:=(by rw[hr.er];simp);rcases r with⟨K,rfl,_,rfl⟩|⟨K,O,rfl,j9,ha⟩;omega;obtain⟨r2,cur,e,Y,r4⟩:=hr.room K rfl;have X:=ha (.inr rfl);refine .inr ⟨?_,?_,(G.g n).b,(G.g n).o,cur,e,by rw[X];simp,Y,by simpa using r4⟩;intro h0;have:=congrArg zaU h0;simp at this;rcases this with h|h;omega;have:(G.g n).px.length=0:=(by rw[h];rfl);omega;simpa using r2;cases hx;cases hx;cases hx
theorem HR.xJ:∀{cs:List ao} {σ σ1:St} {xs:List C} {ok:Bool} {vs:List Value},HR B E w G σ.h σ.used []->σ.xJ cs=some (xs,ok,σ1)->eN w G σ.h cs vs->(∀c∈cs,∀m,c.ref m->σ.used m=true)->
  ∃d:List PC,d.map PC.er=xs/\d.map PC.val=vs/\(∀pc∈d,AQ B E w G σ1.h pc)/\(∀(i j:Nat) (pc o:PC) (b:Nat),i≠j->d[i]? =some pc->d[j]? =some o->bB b pc->¬bB b o)/\
   (ok=true->∀pc,d[cs.length - 1]? =some pc->t7 w pc)/\HR B E w G σ1.h σ1.used []/\bU w G σ.h (fun n=>σ.used n=true) w G σ1.h/\σ1.env=σ.env/\σ1.used=σ.used/\(∀n b,σ1.h n=some b->σ.h n=some b)/\
   (∀pc∈d,∀b,bB b pc->∃n,σ.h n≠none/\(G.g n).nl=false/\(G.g n).b=b)
 |[],σ,σ1,xs,ok,vs,H,hx,hc,hr=>by
  simp only[St.xJ] at hx;injection hx with hx;injection hx with r k;injection k with k h3;subst r k h3;have:vs=[]:=If (by simpa using hc.1);subst this;exact⟨[],rfl,rfl,by simp,by simp,by simp,H,bU.refl _ _ _ _,rfl,rfl,fun _ _ h=>h,by simp⟩
 |c::cs,σ,σ2,xs,ok,vs,H,hx,hc,hr=>by
  simp only[St.xJ] at hx;split at hx
  ·rename_i x o1 σ1 X;split at hx
   ·rename_i aM o2 jX l;injection hx with hx;injection hx with r k;injection k with k h3;subst r k h3;obtain⟨e,P⟩:=hc;match vs,e with
    |v::vs,e=>
     obtain⟨pc,a1,Y,U,a4,a5,R,a7,F,V,L⟩:=H.AF X (P 0 c v rfl rfl).2;have iw:eN w G σ1.h cs vs:=eN.d9 R (fun J D m hm=>hr J (by simp[D]) m hm) ⟨by simpa using e,fun j c u r k=>P (j+1) c u r k⟩;obtain⟨d,Q,b2,b3,b4,b5,b6,b7,b8,W,M,S⟩:=HR.xJ a5 l iw (fun J D m hm=>by rw[F];exact hr J (by simp[D]) m hm);have T:∀o∈d,∀b,bB b pc->¬bB b o:=by
      intro o A b f y;obtain⟨n,I,z,K⟩:=S o A b y;exact U.name b f n I z K.symm
     refine⟨pc::d,by simp[a1,Q],by simp[Y,b2],fun q a=>?_,fun i j p N b lN t s f=>?_,fun O q a=>?_,b6,bU.trans (fun n hn=>by rw[F];exact hn) R b7,b8.trans a7,W.trans F,fun n b f=>V n b (M n b f),fun q a b f=>?_⟩
     ·rcases zai.1 a with rfl|a
      ·exact U.less M
      ·exact b3 q a
     ·cases i with
      |zero=>
       simp at t;subst t;cases j with
       |zero=>exact absurd rfl lN
       |succ j=>exact T N (AI (by simpa using s)) b f
      |succ i=>
       cases j with
       |zero=>
        simp at s;subst s;exact fun y=>T p (AI (by simpa using t)) b y f
       |succ j=>exact b4 i j p N b (by omega) (by simpa using t) (by simpa using s) f
     ·cases cs with
      |nil=>
       have Z:d=[]:=by
        have:=congrArg zaU Q;simp only[St.xJ] at l;injection l with l;injection l with l _;rw[<-l] at this;simpa using this
       subst Z;simp at a;subst a;exact a4 O
      |cons c2 Pg=>
       refine b5 O q ?_;simpa using a
     ·rcases zai.1 a with rfl|a
      ·exact L b f
      ·obtain⟨n,I,z,K⟩:=S q a b f;refine⟨n,?_,z,K⟩;cases hh:σ1.h n with
       |none=>exact absurd hh I
       |some bb=>rw[V n bb hh];simp
   ·cases hx
  ·cases hx
theorem ahv {t e:TypeId} {x:Operand} {i:TypeInfo} {z:Value} {sz:Nat} (h:o.op=.buildSlice t 1 #[(0,x)]) (s:P.underlying t=some (.slice e)) (q:P.info? e=some i) (j:i.zero=some z) (m:i.size=sz) (jh:0<sz) (Io:sz<=16777216) (d:(a.eval x).cells.size=sz): (execOp a.eval o).run P w=.ok (.value (.slice (some (ad w.heap.size 0)) 1 1)) (w.alloc (.cells (a.eval x).cells e)):=by have r:∀cs:Array Value,cs.size=1*sz->Instr.fill (fun i=>some (i*sz,sz)) cs [(0,a.eval x)]=some (a.eval x).cells:=(by intro cs p;have f:=VN sz [a.eval x] 0 cs (by intro v c;simp at c;rw[c];exact d) (by simp;omega);simp only[List.zipIdx_cons,List.zipIdx_nil,zaF,zbd] at f;rw[f];congr 1;apply zac;simp only[eP,Nat.zero_mul,List.take_zero,zba,zbg,zau,List.flatMap_nil,List.append_nil];rw[List.drop_eq_nil_of_le (by rw[zaz,zaz,p,d];omega)];simp);have g:=r ((Array.range (1*sz)).map (z.cells[·%z.cells.size]!)) (by simp);have n:¬(1*sz=0):=(by omega);have l:¬(16777216<1*sz):=(by omega);simp only[Nat.one_mul] at g n l;have k:¬(16777216<sz):=(by omega);have b:¬(sz=0):=(by omega);simp[execOp,h,Instr.buildSlice,run_underlying s,sizeOf,typeInfo,q,m,b,k,zeroValue,j,g,newRow,ad]
end
end Go.Am
