/- AmO, AmR, AmS, AmT, AmU, AmV, AmX, Am17, Am18, Am19, Am20, Am21, Am22, Am23, AmA, AmD, AmE, AmF, AmP, AmQ, AmG, AmH, AmI, AmJ: parts of the proof. No condition. -/
import Derived.Test.YtfhgbfllljehhaaAmN
set_option linter.unusedVariables false
set_option linter.unusedSimpArgs false
open Bool renaming and_eq_true->co,or_eq_true->zam,false_eq_true->zaH
open List renaming mem_of_getElem?->so,getElem?_eq_getElem->AI,getElem?_map->AN,all_eq_true->AT,mem_append->By,mem_map->BY,getElem?_eq_some_iff->If,getElem?_of_mem->IN,flatMap_cons->IS,getD_eq_getElem?_getD->IT,eq_nil_of_length_eq_zero->OF,getElem?_set_self->Pe,length_map->zaa,mem_flatMap->zab,mem_cons_of_mem->zac,map_congr_left->zae,replicate->zaf,getElem?_append_right->zai,pairwise_cons->zak,mem_cons->zan,getElem?_set_ne->zap,pairwise_append->zaq,mem_or_eq_of_mem_set->zar,mem_range->zas,flatMap_map->zat,mem_singleton->zau,length_nil->zav,range->zaw,length_cons->zax,mem_filterMap->zaC,map_set->zaD,map_map->zaF,pairwise_iff_getElem->zaI,length_eq_zero_iff->zaK,getElem?_cons_zero->zaL,getElem_mem->zaM,length_take->zaN,cons_append->zaO,length_eq_one_iff->zaP,pairwise_lt_range->zaQ,length_set->zaR,length_replicate->zaS,getElem?_eq_none->zaU,mem_filter->zaV,range_eq_range'->za0,getElem?_take->za1,mem_replicate->za2,map_replicate->za3,getElem?_ofFn->za4,map_cons->za5,append_of_mem->za6,nil_append->za9,length->zbe,range'->zbg
open Option renaming map_some->wt,bind_some->GB,map_eq_some_iff->zah,getD_some->za7
open Array renaming getElem?_eq_some_iff->Pd,ext'->zag,getElem?_eq_none->zal,mem_toList_iff->zay,getD_eq_getD_getElem?->zaB,getElem?_eq_getElem->zaJ,replicate->zba
open Nat renaming le_refl->zad,lt_of_lt_of_le->zaj,min->zaA,le_trans->zaE,eq_zero_or_pos->zaG,sub_self->zaW,lt_or_ge->zaX,ble_eq_true_of_le->zaY,mul_le_mul_right->zaZ,mul_one->za8,add_zero->zbb,min_comm->zbc,beq_refl->zbd,add_mul->zbf
open Option.some renaming injEq->zao
open Ne renaming symm->zaz
open Classical renaming choose_spec->zaT
open Prod renaming snd->zbh
open Or renaming inl->zbi
namespace Go.Am
section
variable {B N:Nat} {E:Ex} {w0 w w':World} {G G':Gh} {h h':Nat->Option aA} {used used':Nat->Bool} {P:Program} {o:Oper} {a:Act} {σ σ':St} {Q:Exit->Act->World->Prop} {tk:List PC}
def C0 (p:PB):eK->PC->PB
 |.row _,.list _ _ _ px=>{p with px:=px}
 |.nest _ k off,q=>{p with px:=p.px.set k ((p.px.getD k []).set off q)}
 |_,_=>p
open Classical in
noncomputable def yy (G:Gh) (its:List (eK×Mode)) (qs:List PC):Gh:=
 ⟨G.Im,fun n=>if h:∃p:(eK×Mode)×PC,∃i:Nat,its[i]? =some p.1/\qs[i]? =some p.2/\p.1.1.fV=some n then C0 (G.g n) h.choose.1.1 h.choose.2 else G.g n⟩
theorem aft {a:List (eK×Mode)} {d:List PC} (h:(a.filterMap (·.1.fV)).Nodup) {i n:Nat} {it:eK×Mode} {q:PC} (hi:a[i]? =some it) (e:d[i]? =some q) (hn:it.1.fV=some n): (yy G a d).g n=C0 (G.g n) it.1 q:=by have f:∃p:(eK×Mode)×PC,∃i:Nat,a[i]? =some p.1/\d[i]? =some p.2/\p.1.1.fV=some n:=⟨(it,q),i,hi,e,hn⟩;unfold yy;simp only;rw[dif_pos f];obtain⟨j,b,c,k⟩:=f.choose_spec;have l:=QQ h b hi k hn;subst l;rw[hi] at b;rw[e] at c;injection b with b;injection c with c;rw[<-b,<-c]
theorem afu {a:List (eK×Mode)} {d:List PC} {n:Nat} (hn:n∉a.filterMap (·.1.fV)):(yy G a d).g n=G.g n:=by unfold yy;simp only;rw[dif_neg];rintro⟨p,i,b,h2,c⟩;exact hn (zaC.2 ⟨p.1,so b,c⟩)
theorem PC.YK {pc q:PC} (c:q.val=pc.val) (hL:pc.jY=true):∃sz a cap xs,q=.list sz a cap xs:=by cases pc with|int k n=>cases hL|bool b=>cases hL|list sz a cap xs=>cases q with|int k n=>cases c|bool b=>cases c|list sz a cap xs=>exact⟨_,_,_,_,rfl⟩
theorem aeo {px:List (List PC)} (hs:iV (px.map fun e=>e.map PC.er)=true) {k j:Nat} {c:PC} (d:At px k j c):c.jY=false:=by obtain⟨e,b,hj⟩:=d;have f:=AT.1 hs (e.map PC.er) (by simp only[BY];exact⟨e,so b,rfl⟩);have a:=AT.1 f c.er (by simp only[BY];exact⟨c,so hj,rfl⟩);cases hL:c.jY with|false=>rfl|true=>rw[PC.agk hL] at a;cases a
theorem aen {px:List (List PC)} (hs:iV (px.map fun e=>e.map PC.er)=true) (b:Nat):¬bF b px:=by rintro⟨k,j,c,⟨e,a,hj⟩,f⟩;have g:=AT.1 hs (e.map PC.er) (by simp only[BY];exact⟨e,so a,rfl⟩);have d:=AT.1 g c.er (by simp only[BY];exact⟨c,so hj,rfl⟩);exact(Sep.lE d).2 b f
theorem acL (H:HR B E w G h used []) {n:Nat} {s:Bool} {m i:Mode} {sz:Nat} {xs:List (List C)} (hn:h n=some (.row s m sz xs)) (hm:m≠ .aQ) (V:i=.live->m=.live) (t:yq i xs=true) (O:m=.live->s=false) {q:PC} (A:ua w' i (sP sz (G.g n)) q) {k:Nat} {I:List (List C)} (f:q.er=.list k I):N2 w' (G.g n) (C0 (G.g n) (.row n) q) s m sz I:=by have hr:=H.row n s m sz xs hn;have cC:h n≠none:=(by rw[hn];simp);obtain⟨y,S,oy,px',rfl⟩:=PC.YK A.val rfl;obtain⟨rfl,ha,rfl,a,hl⟩:=A.live _ _ _ _ _ _ _ _ rfl rfl;rw[PC.fK] at f;injection f with _ f;have P:=A.sep;have J:(∀k j c,At px' k j c->Sep c)/\(∀b o k j c,S=some (ad b o)->At px' k j c->¬bD b c)/\lK px':=(by cases P with|list _ _ _ _ u z K=>exact⟨u,z,u,K⟩);have M:∀b,bF b px'->(G.g n).nl=false->b≠(G.g n).b:=(by rintro b ⟨k,j,c,p,v⟩ d rfl;refine J.2.1 (G.g n).b (G.g n).o k j c ?_ p v;rw[ha,ak (by simp[d])]);have F:i=.aS->iV xs=true:=(by rintro rfl;exact t);refine⟨hm,?_,rfl,rfl,rfl,rfl,rfl,f.symm,fun d=>?_,fun d=>?_,J.2.2,fun b hb=>?_,fun eO k j pc p hL=>?_,fun l hl=>by rw[O hl] at l;cases l⟩;(cases i with|aQ=>cases t|live=>exact .inr (V rfl)|aS=>exact .inl (aen (by rw[<-hr.er];exact F rfl)));have:=(hr.nl d).1;rw[this] at a;exact OF a;refine⟨?_,?_⟩;have l:=A.hZ;rw[ha,ak (by simp[d])] at l;by_cases D:px'=[];show sY w' _ _ _ px';rw[D];exact⟨by simp,by rintro k j c ⟨e,r,_⟩;simp at r,by rintro k j c ⟨e,r,_⟩;simp at r⟩;generalize oC:PC.list y (some (ad (G.g n).b (G.g n).o)) (G.g n).cap px'=q2 at l;(cases l with|int k n=>cases oC|bool b=>cases oC|nil _ _ _ _=>injection oC with _ _ _ e4;exact absurd e4 D|cons _ _ _ _ _ u z K Q T N=>injection oC with X x e3 e4;injection x with x;obtain⟨L,R⟩:=q9 x;subst X e3 e4;rw[L,R];exact⟨Q,T,N⟩);show px'.length<=_;rw[a];exact(hr.f6 d).2.2;have W:bD b (sP y (G.g n)):=A.sub b (by obtain⟨k,j,c,p,v⟩:=hb;exact .there _ _ _ _ k j c p v);rcases ZN (fun f=>(hr.nl f).1) W with⟨d,r⟩|U;exact absurd r (M b hb d);exact U;cases i with|aQ=>cases t|live=>exact hl rfl k j pc p hL|aS=>have:=aeo (px:=(G.g n).px) (by rw[<-hr.er];exact F rfl) p;rw[hL] at this;cases this
theorem rY {α:Type} {px:List (List α)} {k off k' b:Nat} {e:List α} {q c:α} (d:px[k]? =some e) (h:At (px.set k (e.set off q)) k' b c):(k'=k/\b=off/\c=q)\/(At px k' b c/\(k',b)≠(k,off)):=by have f:=(If.1 d).1;rcases Ol f h with⟨rfl,a⟩|⟨g,a⟩;by_cases hj:b=off;subst hj;have hl:b<e.length:=(by have:=(If.1 a).1;simpa using this);rw[Pe hl] at a;injection a with a;exact .inl ⟨rfl,rfl,a.symm⟩;rw[zap (zaz hj)] at a;exact .inr ⟨⟨e,d,a⟩,fun e=>hj (congrArg zbh e)⟩;exact .inr ⟨a,fun e=>g (congrArg Prod.fst e)⟩
theorem aoj {α:Type} {px:List (List α)} {k off k' b:Nat} {e:List α} {q c:α} (d:px[k]? =some e) (h:At px k' b c) (j:(k',b)≠(k,off)):At (px.set k (e.set off q)) k' b c:=by obtain⟨i,a,f⟩:=h;by_cases g:k'=k;subst g;rw[d] at a;injection a with a;subst a;have hj:b≠off:=fun e=>j (by rw[e]);exact⟨_,Pe (If.1 d).1,by rw[zap (zaz hj)];exact f⟩;exact⟨i,by rw[zap (zaz g)];exact a,f⟩
theorem acK (H:HR B E w G h used []) {n k off:Nat} {v:Bool} {sz:Nat} {xs:List (List C)} (hn:h n=some (.row v .live sz xs)) (O:v=false) {pc:PC} (s:At (G.g n).px k off pc) (hL:pc.jY=true) (N:(G.g n).nl=false->w'.heap[(G.g n).b]? =w.heap[(G.g n).b]?) (S:∀k' i c,At (G.g n).px k' i c->(k',i)≠(k,off)->∀b,bD b c->w'.heap[b]? =w.heap[b]?) {q:PC} (A:ua w' .aS pc q) {K:List C} (L:xs[k]? =some K):N2 w' (G.g n) (C0 (G.g n) (.nest n k off) q) v .live sz (xs.set k (K.set off q.er)):=by have hr:=H.row n v .live sz xs hn;obtain⟨t,d,I⟩:=s;have P:(G.g n).px.getD k []=t:=(by simp[IT,d]);have u:(C0 (G.g n) (.nest n k off) q).px=(G.g n).px.set k (t.set off q):=(by simp only[C0,P]);have D:K=t.map PC.er:=(by rw[hr.er,AN,d] at L;simpa using L.symm);have s:At (G.g n).px k off pc:=⟨t,d,I⟩;have z:q.jY=true:=(by obtain⟨sz,a,cap,xs,rfl⟩:=PC.YK A.val hL;rfl);have F:(G.g n).nl=false:=(by cases hq:(G.g n).nl with|false=>rfl|true=>rw[(hr.nl hq).1] at d;simp at d);obtain⟨l1,l2,Q⟩:=hr.f6 F;refine⟨by simp,.inr rfl,rfl,rfl,rfl,rfl,rfl,?_,fun h=>?_,fun _=>?_,?_,fun b hb=>?_,fun _ k' i c j x=>?_,fun M _=>by rw[O] at M;cases M⟩;rw[u,hr.er,D,zaD,zaD];rw[F] at h;cases h;rw[u];refine⟨⟨fun e r=>?_,fun k' i c j=>?_,fun k' i c j=>?_⟩,by rw[zaR];exact Q⟩;rcases zar r with r|rfl;exact l2.1 e r;rw[zaR];exact l2.1 t (so d);rw[kx (N F)];rcases rY d j with⟨rfl,rfl,rfl⟩|⟨f,_⟩;rw[A.val];exact l2.2.1 _ _ _ s;exact l2.2.1 _ _ _ f;rcases rY d j with⟨rfl,rfl,rfl⟩|⟨f,l⟩;exact A.hZ;exact(l2.2.2 _ _ _ f).congr fun b hb o=>kx (S k' i c f l b hb) o;rw[u];refine⟨fun k' i c j=>?_,fun k1 j1 c1 k2 j2 c2 b f l y hb J=>?_⟩;rcases rY d j with⟨rfl,rfl,rfl⟩|⟨f,l⟩;exact A.sep;exact hr.mode.2.1 _ _ _ f;rcases rY d f with⟨rfl,rfl,rfl⟩|⟨p,n1⟩;rcases rY d l with⟨rfl,rfl,rfl⟩|⟨m,R⟩;exact y rfl;exact hr.mode.2.2 _ _ _ _ _ _ b s m y (A.sub b hb) J;rcases rY d l with⟨rfl,rfl,rfl⟩|⟨m,R⟩;exact hr.mode.2.2 _ _ _ _ _ _ b p s y hb (A.sub b J);exact hr.mode.2.2 _ _ _ _ _ _ b p m y hb J;rw[u] at hb;obtain⟨k',i,c,j,x⟩:=hb;rcases rY d j with⟨rfl,rfl,rfl⟩|⟨f,l⟩;exact⟨_,_,_,s,A.sub b x⟩;exact⟨_,_,_,f,x⟩;rw[u];by_cases r:(k',i)=(k,off);have f:k'=k:=congrArg Prod.fst r;have l:i=off:=congrArg zbh r;subst f l;obtain⟨e1,p,m⟩:=j;rw[d] at p;injection p with p;subst p;rw[I] at m;injection m with m;subst m;have hl:i<t.length:=(If.1 I).1;exact⟨q,⟨_,Pe (If.1 d).1,Pe hl⟩,A.val,z⟩;exact⟨c,aoj d j r,rfl,x⟩
theorem YT:∀{as:List au} {a:List (Bool×List aj)} {vals:List Value},u0 as=some a->vals.length=as.length->(∀(j:Nat) (x:au) (v:Value),as[j]? =some x->vals[j]? =some v->RA w G h x v)->
  vals.length=a.length/\∀(j:Nat) (x:Bool×List aj) (v:Value),a[j]? =some x->vals[j]? =some v->RV w G h x.1 x.2 v
 |[],a,vals,hx,hl,hc=>by
  simp only[u0] at hx;injection hx with hx;subst hx;exact⟨hl,by simp⟩
 |y::as,a,vals,hx,hl,hc=>by
  simp only[u0] at hx;split at hx
  ·rename_i x xs b k;injection hx with hx;subst hx;match vals,hl with
   |v::vals,hl=>
    obtain⟨i1,i2⟩:=YT k (vals:=vals) (by simpa using hl) (fun j x v i g=>hc (j+1) x v i g);refine⟨by simp[i1],fun j x' f hj d=>?_⟩;cases j with
    |zero=>
     simp at hj d;subst hj d;have e:=hc 0 y v rfl rfl;cases y with
     |one c=>
      cases c<;>simp[au.cells?] at b<;>subst b<;>exact e.resolve_left (by simp)
     |agg cs=>
      simp[au.cells?] at b;subst b;exact e
     |ct l=>simp[au.cells?] at b
    |succ j=>exact i2 j x' f (by simpa using hj) (by simpa using d)
  ·cases hx
theorem x6.jY {it:eK} {b:Mode} {pc:PC} (i:x6 B E w G h it b pc):pc.jY=true:=by obtain⟨sz,a,cap,xs,rfl,_⟩:=i.ok.f6;rfl
def Oc (P:Program) (T:bj):Prop:=∀f sig M,bj.th T.CX f=some (sig,M)->BN P f sig M
def N7 (w:World) (sig:cR) (pas:List PA) (rs:List Dv) (eV:List C) (e:Ending) (w':World):Prop:=
  ∃bQ:List (K×List PC),bQ.map (fun p=>(p.1,p.2.map PC.er))=rs/\e=.returned (zr bQ)/\(∀p∈bQ,p.1≠ .ptr/\(p.1=.one->p.2.length=1))/\
   BO w' w.heap.size (bQ.flatMap (·.2))/\Fr w.heap.size (B6 (e7 sig (pas.map (·.ps)))) w w'/\
   ∃qs:List PC,qs.map PC.er=eV/\qs.length=(e7 sig (pas.map (·.ps))).length/\
    ∀(i:Nat) (x:Mode×PC) (q:PC),(e7 sig (pas.map (·.ps)))[i]? =some x->qs[i]? =some q->ua w' x.1 x.2 q
theorem aqb (r:R B E w0 N σ a w G) {m:Mode} {f:FuncId} {vals vals':List Value} {sig:cR} {ns:List Nat} {ds:List Dv} {t:List (eK×Mode)} {pas:List PA} {rs:List Dv} {eV:List C} {σ2 jG:St} {ls:List (Bool×List aj)}
  (hS:∀pas,BM w sig ds vals pas->Calls P f vals'.toArray w (N7 w sig pas rs eV)) (hN:∀n,o.dst=some n->n<N) (di:(execOp a.eval o).run P w=.ok (.enter f vals'.toArray) w)
  (q1:pas.length=ds.length) (q2:vals.length=ds.length) (q3:∀(i:Nat) (d:Dv) (v:Value) (p:PA),ds[i]? =some d->vals[i]? =some v->pas[i]? =some p->DI w d v p)
  (Aj:∀p∈pas,p.k=.ptr->∃n cs,σ.h n=some (.box cs)/\(G.g n).nl=false/\p.b=(G.g n).b)
  (ase:∀(i:Nat) (p:PA) (s:List (Option Mode)),pas[i]? =some p->sig[i]? =some s->p.k=.ptr->Rc s p.ps.length)
  (q5:ql B E w G σ.h t (e7 sig (pas.map (·.ps)))) (q6:t.filterMap (·.1.fV)=ns) (q7:∀pc∈tZ sig (pas.map (·.ps)),N0 G σ.h ns pc) (iQ:ns.Nodup)
  (ru:σ.tO t eV=some σ2) (EE:σ2.mb m (sI o.dst) rs=some (ls,jG)):o.wp P a w (Nx B E w0 N (jG.put o.dst (oM ls))) Q:=by
 have H:=r.hr;have yH:(t.filterMap (·.1.fV)).Nodup:=by rw[q6];exact iQ
 generalize yD:e7 sig (pas.map (·.ps))=fl at q5;have Qb:∀(i:Nat) (x:Mode×PC),fl[i]? =some x->∃it,t[i]? =some it/\it.2=x.1/\x6 B E w G σ.h it.1 x.1 x.2:=by
  intro i x hi;have cu:i<t.length:=by rw[q5.len];exact(If.1 hi).1
  have X:t[i]? =some t[i]:=AI cu;exact⟨_,X,q5.at_ i _ x X hi⟩
 have aeq:∀x∈fl,∃it∈t,x6 B E w G σ.h it.1 x.1 x.2:=by
  intro x hx;obtain⟨i,hi⟩:=IN hx;obtain⟨it,Y,_,Z⟩:=Qb i x hi;exact⟨it,so Y,Z⟩
 have oA:∀x∈fl,∀b,bD b x.2->∃n D m sz xs,n∈ns/\σ.h n=some (.row D m sz xs)/\m≠ .aQ/\xd G n b/\((∀b,¬bF b (G.g n).px)\/m=.live):=by
  intro x hx b hb;obtain⟨it,Y,Z⟩:=aeq x hx;obtain⟨n,D,m,sz,xs,A,F,L,J,e5⟩:=Z.rj H hb;exact⟨n,D,m,sz,xs,by rw[<-q6];exact zaC.2 ⟨it,Y,A⟩,F,L,J,e5⟩
 have vD:∀b,B6 fl b->(B<=b\/E b):=by
  rintro b ⟨x,hx,hb⟩;obtain⟨n,D,m,sz,xs,_,F,L,J,e5⟩:=oA x hx b hb;rcases J with⟨O,rfl⟩|T
  ·exact(H.own n (by rw[F];simp) O).2.1
  ·have iK:=(H.row n D m sz xs F).mode;cases m with
   |aQ=>exact absurd rfl L
   |aS=>exact(iK.1 b T).2.2
   |live=>exact(iK.1 b T).2.2
 have YW:BM w sig ds vals pas:=by
  refine⟨q2,q1,q3,fun x hx=>?_,?_,fun pc ci x hx b hb bn=>?_,fun p hp hk x hx hb=>?_,ase⟩
  ·rw[yD] at hx;obtain⟨it,_,Z⟩:=aeq x hx;exact Z.ok
  ·rw[yD,zaI];intro i j hi hj kC b hb bn;obtain⟨it,Y,_,Z⟩:=Qb i _ (AI hi);obtain⟨EY,kB,_,sf⟩:=Qb j _ (AI hj);obtain⟨n,D,m,sz,xs,A,F,L,J,e5⟩:=Z.rj H hb;obtain⟨z,V,m',ba,W,KK,M,VG,zV,Ei⟩:=sf.rj H bn;have aJ:n≠z:=by
    rintro rfl;have:=QQ yH Y kB A KK;omega
   exact H.K8 aJ F M Ei J zV
  ·rw[yD] at hx;obtain⟨z,V,m',ba,W,KK,M,VG,zV,Ei⟩:=oA x hx b bn;rcases q7 pc ci b hb with hi|⟨n,D,m,sz,xs,hn,F,J⟩
   ·rcases zV with⟨O,rfl⟩|T
    ·exact(H.own z (by rw[M];simp) O).1 hi
    ·rcases Ei with Ei|rfl
     ·exact Ei b T
     ·exact((H.row z V .live ba W M).mode.1 b T).1 hi
   ·have aJ:n≠z:=fun e=>hn (e▸KK);exact H.K8 aJ F M Ei J zV
  ·rw[yD] at hx;obtain⟨z,V,m',ba,W,KK,M,VG,zV,Ei⟩:=oA x hx p.b hb;obtain⟨n,cs,hn,hl,EI⟩:=Aj p hp hk;rw[EI] at zV;have cC:σ.h n≠none:=by rw[hn];simp
   rcases zV with⟨O,X⟩|T
   ·refine H.inj n z cC (by rw[M];simp) ?_ hl O X;rintro rfl;rw[hn] at M;cases M
   ·have iK:=(H.row z V m' ba W M).mode;cases m' with
    |aQ=>exact absurd rfl VG
    |aS=>exact(H.own n cC hl).1 (iK.1 _ T).1
    |live=>exact H.live z V ba W M _ T n cC hl rfl
 unfold Oper.wp;rw[di];refine(hS pas YW).mono fun e w' ⟨bQ,p1,p2,p3,p4,I,qs,p6,p7,p8⟩=>?_;subst p2;rw[yD] at I p7 p8;obtain⟨t1,t2,t3,t4⟩:=aj3 ru yH;have hSn:∀n,n∈ns->∃(i:Nat) (it:eK×Mode) (x:Mode×PC) (q:PC),t[i]? =some it/\fl[i]? =some x/\qs[i]? =some q/\eV[i]? =some q.er/\it.1.fV=some n/\x6 B E w G σ.h it.1 x.1 x.2/\ua w' x.1 x.2 q:=by
  intro n hn;rw[<-q6,zaC] at hn;obtain⟨it,Ck,u⟩:=hn;obtain⟨i,hi⟩:=IN Ck;have cu:i<fl.length:=by rw[<-q5.len];exact(If.1 hi).1
  have hx:fl[i]? =some fl[i]:=AI cu;have l:qs[i]? =some (qs[i]'(by rw[p7];exact cu)):=AI _;exact⟨i,it,_,_,hi,hx,l,by rw[<-p6,AN,l];rfl,u,(q5.at_ i it _ hi hx).2,p8 i _ _ hx l⟩
 have asx:∀b,b<w.heap.size->(∀n,n∈ns->¬xd G n b)->w'.heap[b]? =w.heap[b]? :=by
  intro b hb dK;refine I.block b hb ?_;rintro⟨x,hx,Lk⟩;obtain⟨n,D,m,sz,xs,A,F,L,J,e5⟩:=oA x hx b Lk;exact dK n A J
 have asc:∀b,b<w.heap.size->(∀x∈fl,¬bD b x.2)->w'.heap[b]? =w.heap[b]? :=fun b hb dK=>I.block b hb (by rintro⟨x,hx,Lk⟩;exact dK x hx Lk);obtain⟨zF,K,ju⟩:=H.QP (G':=yy G t qs) (h':=σ2.h) (w':=w') (S:=fun n=>n∈ns) I.size asx (fun b hb=>I.mh b hb) rfl (fun n hn=>by
  obtain⟨i,it,x,q,hi,hxi,nP,oB,u,eY,Lf⟩:=hSn n hn;have eN:=eY.at_;have afL:=t4 i it q.er hi oB;rw[aft yH hi nP u];obtain⟨Yl,md⟩:=it;cases Yl with
  |nil sz=>cases u
  |row z=>
   injection u with u;have u:z=n:=u;subst u;obtain⟨D,mo,sz,xs,A,F,L,J,e5⟩:=eN;obtain⟨V,oH,u7,lI,W,U,g2,g3⟩:=afL;rw[A] at U;injection U with U;injection U with a1 a2 a3 a4;subst a1 a2 a3 a4;rw[J] at Lf;exact⟨D,mo,sz,xs,W,A,g3,acL H A F L e5.1 e5.2 Lf g2⟩
  |nest z k off=>
   injection u with u;have u:z=n:=u;subst u;obtain⟨D,sz,xs,A,F,L,Ad⟩:=eN;obtain⟨V,oH,u7,lI,ex,U,g2,g3⟩:=afL;rw[A] at U;injection U with U;injection U with a1 a2 a3 a4;subst a1 a2 a3 a4;rw[F] at Lf;have hr:=H.row z D .live sz xs A;have cC:σ.h z≠none:=by rw[A];simp
   have PS:∀b,xd G z b->¬bD b x.2->w'.heap[b]? =w.heap[b]? :=by
    intro b hb Ai;have cu:b<w.heap.size:=by
     rcases hb with⟨O,rfl⟩|T
     ·exact(H.own z cC O).2.2
     ·exact H.wb A T
    refine asc b cu fun y hy tj=>?_;obtain⟨j,hj⟩:=IN hy;by_cases kC:j=i
    ·subst kC;rw[hxi] at hj;injection hj with hj;subst hj;exact Ai tj
    ·obtain⟨EY,kB,_,sf⟩:=Qb j y hj;obtain⟨n2,Hz,m2,qf,kU,f1,f2,f3,f4,f5⟩:=sf.rj H tj;have aJ:z≠n2:=by
      rintro rfl;exact kC (QQ yH kB hi f1 rfl)
     exact H.K8 aJ A f2 f5 hb f4
   refine⟨D,.live,sz,xs,_,A,g3,acK H A Ad L eY.jY (fun O=>PS _ (.inl ⟨O,rfl⟩) fun hb=>?_) (fun k' j' c hk aJ b hb=>PS b (.inr ⟨k',j',c,hk,hb⟩) fun Lk=>?_) Lf g2⟩
   ·exact H.live z D sz xs A _ ⟨k,off,x.2,L,hb⟩ z cC O rfl
   ·exact hr.mode.2.2 _ _ _ _ _ _ b hk L aJ hb Lk) (fun n hn=>⟨t3 n (by rw[q6];exact hn),afu (by rw[q6];exact hn)⟩)
 have HR2:HR B E w' (yy G t qs) σ2.h σ2.used []:=by rw[t2];exact zF
 have gV:zG B w' (yy G t qs) σ2.h (bQ.flatMap (·.2)):=by
  refine⟨p4.hZ,fun pc ci b hb=>?_,?_⟩
  ·obtain⟨n1,n2⟩:=p4.new pc ci b hb;refine⟨⟨fun hi=>?_,fun q l oC X=>?_,fun q D mo sz xs l eB=>?_⟩,n2,zaE r.fr.size n1⟩
   ·have:=H.jX b hi;omega
   ·obtain⟨k0,k1,k2,_⟩:=K.name q (zF.lc q l) l;have:=(H.own q k0 (k1.symm.trans oC)).2.2;rw[<-k2] at this;omega
   ·have bn:=ju q b eB;have Cv:=zF.lc q (by rw[l];simp);obtain⟨k0,_⟩:=K.name q Cv (by rw[l];simp);cases hh:σ.h q with
    |none=>exact absurd hh k0
    |some blk=>
     cases blk with
     |box cs=>
      have:q∉ns:=by
       intro hm;obtain⟨i,it,x,q',hi,hxi,nP,oB,u,eY,Lf⟩:=hSn q hm;have eN:=eY.at_;obtain⟨Yl,md⟩:=it;cases Yl with
       |nil sz=>cases u
       |row z=>
        injection u with u;have u:z=q:=u;subst u;obtain⟨D,mo,sz,xs,A,_⟩:=eN;rw[hh] at A;cases A
       |nest z k off=>
        injection u with u;have u:z=q:=u;subst u;obtain⟨D,sz,xs,A,_⟩:=eN;rw[hh] at A;cases A
      have h3:=t3 q (by rw[q6];exact this);rw[h3,hh] at l;cases l
     |row V m' ba W=>have:=H.wb hh bn;omega
  ·rw[zaI];intro i j hi hj kC b hb;exact p4.sb i j _ _ b (by omega) (AI hi) (AI hj) hb
 rw[<-p1] at EE;obtain⟨G',b1,b2,b3,b4,b5,b6,b7⟩:=HR.mb HR2 EE p3 gV;have Ac:Fr B E w0 w':=by
  refine⟨I.os.trans r.fr.os,I.tape.trans r.fr.tape,I.output.trans r.fr.output,zaE r.fr.size I.size,fun b hb X=>?_,fun b hb=>?_⟩
  ·refine(I.block b (zaj hb r.fr.size) fun hx=>?_).trans (r.fr.block b hb X);rcases vD b hx with Y|Y
   ·omega
   ·exact X Y
  ·exact(r.fr.mh b hb).trans (I.mh b (zaj hb r.fr.size))
 have K2:cm w G σ.h (fun n=>σ.used n=true) w' G' jG.h:=cm.trans (fun n hn=>by rw[t2];exact hn) K b2;have r2:R B E w0 N jG a w' G':=r.step (b6.trans t1) (fun q l=>b7 q (by rw[t2];exact l)) K2 b1 Ac;refine⟨G',r2.put (RA.oM b3 p3 b4) ?_ hN⟩;intro q l;match ls,l with
 |[],l=>obtain⟨x,hx,_⟩:=l;simp at hx
 |[(true,cs)],l=>obtain⟨c,hc,l⟩:=l;exact b5 (true,cs) (by simp) c hc q l
 |[(false,[c])],l=>exact b5 (false,[c]) (by simp) c (by simp) q l
 |[(false,[])],l=>exact absurd l id
 |[(false,_::_::_)],l=>exact absurd l id
 |x::y::ls,l=>obtain⟨x',jW,c,hc,l⟩:=l;exact b5 x' jW c hc q l
theorem adU (r:R B E w0 N σ a w G) {T:bj} {m:Mode} {f:FuncId} {as:List au} {vals vals':List Value} {σ1:St} (O:∀sig M,bj.th T.CX f=some (sig,M)->∀ds c b,M ds=some (c,b)->∀pas,BM w sig ds vals pas->Calls P f vals'.toArray w (N7 w sig pas c b)) (q:∀n,o.dst=some n->n<N) (D:(execOp a.eval o).run P w=.ok (.enter f vals'.toArray) w) (hl:vals.length=as.length) (A:∀(j:Nat) (x:au) (v:Value),as[j]? =some x->vals[j]? =some v->RA w G σ.h x v) (hx:vm T m o.dst f as σ=some σ1):o.wp P a w (Nx B E w0 N σ1) Q:=by have H:=r.hr;unfold vm at hx;split at hx;rename_i sig M fQ y t;split at hx;rename_i S;split at hx;rename_i ds its V;split at hx;rename_i c b C;split at hx;rename_i σ2 u;split at hx;rename_i ls jG z;injection hx with hx;subst hx;obtain⟨J,I⟩:=YT t hl A;obtain⟨pas,K,k,l,g,L,U,F⟩:=H.qc V J I;exact aqb r (fun d hm=>O sig M y ds c b C d hm) q D K k l (fun p hp e=>absurd e (g p hp)) (fun i p s hp _ e=>absurd e (g p (so hp))) L U F S u z;cases hx;cases hx;cases hx;cases hx;cases hx;cases hx
theorem aqk (r:R B E w0 N σ a w G) {T:bj} (d:Oc P T) {m:Mode} {f:FuncId} {as:List au} {vals:List Value} {σ1:St} (b:∀n,o.dst=some n->n<N) (g:(execOp a.eval o).run P w=.ok (.enter f vals.toArray) w) (hl:vals.length=as.length) (e:∀(j:Nat) (x:au) (v:Value),as[j]? =some x->vals[j]? =some v->RA w G σ.h x v) (hx:vm T m o.dst f as σ=some σ1):o.wp P a w (Nx B E w0 N σ1) Q:= adU r (fun sig M c ds k i h pas hm=>d f sig M c ds k i h w vals pas hm) b g hl e hx
theorem aqc (r:R B E w0 N σ a w G) {T:bj} (e:Oc P T) {m:Mode} {f:FuncId} {xs:Array Operand} {ms:List MO} {ts:Array TypeId} {σ1:St} (i:∀n,o.dst=some n->n<N) (g:o.op=.call {callee:=.value (.func f),args:=xs,argTypes:=ts}) (d:bX P f=true) (hm:j8 xs.toList ms=true) (hx:vm T m o.dst f (ms.map σ.ev) σ=some σ1):o.wp P a w (Nx B E w0 N σ1) Q:=by obtain⟨h,c⟩:=r.Ek hm;refine aqk r e (vals:=xs.toList.map a.eval) i ?_ (by simpa using h) c hx;have b:(xs.toList.map a.eval).toArray=xs.map a.eval:=(by apply zag;simp);rw[b];simp[execOp,g,resolve,Deferred.ofValue,invoke,Act.eval,IZ d]
def AZ (tmps:Array Value):ResultVar->Sem Value
 |.tmp t=>pure (tmps.getD t undef)
 |.cell a t=>do loadVar t (<-asAddr (tmps.getD a undef))
def IG:List Value->Value
 |[u]=>u
 |l=>.tuple l.toArray
theorem Rq (fn:Func) (a:Array Value) {us:List Value} (h:(fn.results.toList.mapM (AZ a)).run P w=.ok us w):
  (results fn a).run P w=.ok (IG us) w:=by
 unfold results;generalize fn.results=A at h⊢;obtain⟨l,rfl⟩:∃l:List ResultVar,A=l.toArray:=⟨A.toList,by simp⟩;have b:((l.toArray.mapM (AZ a)).run P w)=.ok us.toArray w:=by
  rw[List.mapM_toArray];simp at h;simp[h]
 show Sem.run P (l.toArray.mapM (AZ a)>>=fun vs=>pure (if h:vs.size=1 then vs[0] else Value.tuple vs)) w=_
 generalize l.toArray.mapM (AZ a)=s at b⊢;match us with
 |[]=>simp[IG,b]
 |[u]=>simp[IG,b]
 |u::v::us=>simp[IG,b]
theorem aBC {n k b off sz len:Nat} {x:C} (hx:dE h (.cF n k b off sz len)=some x):∃a xs,h n=some (.row a .live b xs)/\(xs[k]?).bind (·[off]?)=some x:=by simp only[Am.dE] at hx;split at hx;rename_i a rs xs hn;split at hx;rename_i c;subst c;exact⟨a,xs,hn,hx⟩;cases hx;cases hx
theorem HR.aiU (H:HR B E w G h used []) {n k off d:Nat} {f:Bool} {xs:List (List C)} (hn:h n=some (.row f .live d xs)) {pc:PC} (b:At (G.g n).px k off pc): (G.g n).nl=false/\Good w pc/\(xs[k]?).bind (·[off]?)=some pc.er:=by have hr:=H.row n f .live d xs hn;have c:(G.g n).nl=false:=(by cases hq:(G.g n).nl with|false=>rfl|true=>obtain⟨e,a,_⟩:=b;rw[(hr.nl hq).1] at a;simp at a);refine⟨c,(hr.f6 c).2.1.2.2 _ _ _ b,?_⟩;obtain⟨e,a,hj⟩:=b;rw[hr.er];simp[a,hj]
theorem aqp (r:R B E w0 N σ a w G) {t e:TypeId} {i:TypeInfo} {x y:Operand} {mx my:MO} {n k f off sz g len:Nat} {q:Int} {ys:List (List C)} (S:o.op=.indexAddr t x y) (D:∀n,o.dst=some n->n<N) (I:c8 x mx=true) (A:c8 y my=true) (T:P.underlying t=some (.slice e)) (hi:P.info? e=some i) (M:i.size=sz) (F:(σ.ev my).fw=some q) (J:0<=q) (h1:q<(ys.length:Int)) (hx:σ.ev mx=.one (.cF n k f off g len)) (U:dE σ.h (.cF n k f off g len)=some (.list sz ys)): o.wp P a w (Nx B E w0 N (σ.put o.dst (.one (.dU n k f off sz q.toNat)))) Q:=by obtain⟨s,l⟩:=r.ev I;obtain⟨kk,L⟩:=(r.ev A).1.int F;rw[hx] at s l;obtain⟨O,xs,hn,hb⟩:=aBC U;obtain⟨pc,p1,H,p3⟩:=(s.jp (by simp)).1 O xs hn;obtain⟨g1,z,d⟩:=r.hr.aiU hn p1;rw[hb] at d;injection d with d;cases pc with|int k n=>simp[PC.er] at d|bool b=>simp[PC.er] at d|list s' ya c py=>rw[PC.fK] at d;injection d with V e2;subst V;have hl:ys.length=py.length:=(by rw[e2];simp);have u:q<(py.length:Int):=(by omega);have EM:PC.val (.list sz ya c py)=.slice ya py.length c:=rfl;generalize ph:PC.list sz ya c py=p at z;cases z with|int k n=>cases ph|bool b=>cases ph|nil _ _ _ _=>injection ph with _ _ _ e4;subst e4;simp at u;omega|cons _ b j _ _ q1 q2 q3 q4 q5 q6=>injection ph with K f2 f3 f4;subst K f2 f3 f4;refine lf r (v:=.pointer (some (ad b (j+q.toNat*sz)))) ?_ ?_ (fun m hm=>l m hm) D;simp only[execOp,S,<-H,PC.val,L];simp[ZR T hi M J u];refine RA.je rfl fun cd aH cq=>?_;exact⟨_,b,j,py.length,c,p1,rfl,rfl,rfl⟩
theorem adp:∀{vs:List aj} {cs:List C} {us:List Value},pP vs=some cs->ed w G h vs us->∃pe:List PC,pe.map PC.er=cs/\pe.map PC.val=us/\pe.length=vs.length/\∀c∈pe,c.er.gx=true
 |[],cs,us,hx,hr=>by
  simp only[pP] at hx;injection hx with hx;subst hx;have:us=[]:=OF hr.1;subst this;exact⟨[],rfl,rfl,rfl,by simp⟩
 |c::vs,cs,us,hx,hr=>by
  match us,hr with
  |[],hr=>exact absurd hr.1 (by simp)
  |u::us,hr=>
  cases c with
  |c x=>
   simp only[pP] at hx;split at hx
   ·rename_i hs;cases hd:pP vs with
    |none=>rw[hd] at hx;cases hx
    |some l=>
     rw[hd] at hx;injection hx with hx;subst hx;obtain⟨pe,i,k,d,f⟩:=adp (us:=us) hd ⟨by have:=hr.1;simpa using this,fun j c u hj g=>hr.2 (j+1) c u (by simpa using hj) (by simpa using g)⟩;obtain⟨_,pc,b,e,_⟩:=hr.2 0 _ u rfl rfl;refine⟨pc::pe,by simp[i,b],by simp[k,e],by simp[d],fun c a=>?_⟩;rcases zan.1 a with rfl|a
     ·rw[b];exact hs
     ·exact f c a
   ·cases hx
  |nil _=>simp[pP] at hx
  |ptr _ _ _ _=>simp[pP] at hx
  |dN _ _=>simp[pP] at hx
  |dh _ _ _ _ _ _=>simp[pP] at hx
  |sl _ _ _ _=>simp[pP] at hx
  |cF _ _ _ _ _ _=>simp[pP] at hx
  |dU _ _ _ _ _ _=>simp[pP] at hx
  |fn _ _=>simp[pP] at hx
  |bZ=>simp[pP] at hx
theorem Good.lE {c:PC} (hs:c.er.gx=true):Good w c:=by cases c with|int k n=>exact .int k n|bool b=>exact .bool b|list s a cap xs=>rw[PC.fK] at hs;cases hs
theorem aqA (r:R B E w0 N σ a w G) {t:TypeId} {i:TypeInfo} {x y:Operand} {mx my:MO} {sz n k L off s j:Nat} {ag F:Bool} {xs O:List (List C)} {vs:List aj} (ho:o.op=.store t x y) (hd:o.dst=none) (jS:c8 x mx=true) (mD:c8 y my=true)
  (hi:P.info? t=some i) (cY:i.size=sz) (nT:0<sz) (hp:σ.ev mx=.one (.dU n k L off s j)) (hv:(σ.ev my).cells?=some (ag,vs)) (hl:vs.length=sz) (hn:σ.h n=some (.row F .live L xs)) (Ad:F=false)
  (hx:A9 xs k off s j vs=some O):o.wp P a w (Nx B E w0 N (σ.fh n (.row F .live L O))) Q:=by
 have H:=r.hr;obtain⟨x1,_⟩:=r.ev jS;obtain⟨y1,y2⟩:=r.ev mD;rw[hp] at x1;obtain⟨pc,b,D,len,cap,p1,p2,p3,p4⟩:=(x1.jp (by simp)).1 F xs hn;obtain⟨bk,g2,g3⟩:=H.aiU hn p1;have hr:=H.row n F .live L xs hn;unfold A9 at hx;rw[g3] at hx;have cP:=y1.cells hv;have EL:(a.eval y).cells.toList.length=sz:=by rw[cP.1,hl]
 cases pc with
 |int kk nn=>simp[PC.er] at hx
 |bool bb=>simp[PC.er] at hx
 |list f ya c py=>
 rw[PC.fK] at hx;simp only at hx;split at hx
 ·rename_i eu;obtain⟨rfl,mH,hj,uL⟩:=eu;cases Aa:pP vs with
  |none=>rw[Aa] at hx;cases hx
  |some cs=>
  rw[Aa] at hx;injection hx with hx;obtain⟨pe,e1,e2,e3,e4⟩:=adp Aa cP;have hj:j<py.length:=by simpa using hj
  have Cr:pe.length=f:=by omega
  have LU:PC.val (.list f ya c py)=.slice ya py.length c:=rfl;rw[LU] at p2;injection p2 with f1 V f3;subst f1 V f3;generalize ph:PC.list f (some (ad b D)) c py=p at g2;cases g2 with
  |int k n=>cases ph
  |bool b=>cases ph
  |nil _ _ _ _=>injection ph with _ _ _ e4;subst e4;simp at hj
  |cons _ d oo' _ _ q1 q2 q3 q4 q5 q6=>
  injection ph with f1 V f3 f4;injection V with V;obtain⟨rfl,rfl⟩:=q9 V;subst f1 f3 f4;have gV:bD b (PC.list f (some (ad b D)) c py):=.here _ _ _ _ q1;have hF:bF b (G.g n).px:=⟨k,off,_,p1,gV⟩;obtain⟨aB5,⟨cur,et,X⟩,hBE⟩:=hr.mode.1 b hF;have Y:D+j*f+(a.eval y).cells.toList.length<=cur.size:=by
   have J:(py[j]'hj).length=f:=q4 _ (zaM hj);have hc:=q5 j (f - 1) ((py[j]'hj)[f - 1]'(by omega)) ⟨_,AI hj,AI _⟩;have:=GU X hc;omega
  have T:∀k' l q,At (py.set j pe) k' l q->q.er.gx=true:=by
   intro k' l q h;rcases Ol hj h with⟨rfl,z⟩|⟨_,z⟩
   ·exact e4 q (so z)
   ·obtain⟨e,I,U⟩:=z;have h6:=AT.1 uL (e.map PC.er) (by simp only[BY];exact⟨e,so I,rfl⟩);exact AT.1 h6 q.er (by simp only[BY];exact⟨q,so U,rfl⟩)
  have aJ:py.set j pe≠[]:=by
   intro h;have:=congrArg zbe h;simp at this;rw[this] at hj;simp at hj
  have lg:∀e∈py.set j pe,e.length=f:=by
   intro e I;rcases zar I with I|rfl
   ·exact q4 e I
   ·exact Cr
  generalize pV:iW w b (D+j*f) (a.eval y).cells.toList cur=w';have A:ua w' .aS (PC.list f (some (ad b D)) c py) (PC.list f (some (ad b D)) c (py.set j pe)):=by
   refine⟨by simp[PC.val],.cons _ _ _ _ _ aJ (by simpa using q2) q3 lg (fun k' l q h=>?_) (fun k' l q h=>Good.lE (T k' l q h)),.list _ _ _ _ (fun k' l q h=>(Sep.lE (T k' l q h)).1) (fun d o' k' l q _ h=>(Sep.lE (T k' l q h)).2 d)
    (fun k1 j1 c1 k2 j2 c2 d h _ _ hb=>absurd hb ((Sep.lE (T k1 j1 c1 h)).2 d)),fun d M=>?_,?_,fun xN a0 Oy lI tV a1 uh wF z J=>?_⟩
   ·have rn:l<f:=by
     obtain⟨e,I,U⟩:=h;have:=lg e (so I);have:=(If.1 U).1;omega
    rw[<-pV,Jw X Y];rcases Ol hj h with⟨rfl,z⟩|⟨Co,z⟩
    ·rw[ah (by omega),show D+k'*f+l - (D+k'*f)=l by omega,<-e2,AN,z];rfl
    ·rw[ak]
     ·exact q5 _ _ _ z
     ·rintro⟨u1,u2⟩;rcases Nat.lt_or_gt_of_ne Co with cu|Ae
      ·have:(k'+1)*f<=j*f:=zaZ _ cu;rw[zbf] at this;omega
      ·have:(j+1)*f<=k'*f:=zaZ _ Ae;rw[zbf] at this;omega
   ·rw[bD.pq] at M⊢;rcases M with⟨_,J⟩|⟨k',l,q,z,J⟩
    ·exact .inl ⟨q1,J⟩
    ·exact absurd J ((Sep.lE (T k' l q z)).2 d)
   ·rw[PC.fK];show iV _=true;rw[iV,AT];intro e I;obtain⟨e0,nH,rfl⟩:=BY.1 I;rw[gz,AT];intro c0 e8;obtain⟨c1,si,rfl⟩:=BY.1 e8;obtain⟨k',dC⟩:=IN nH;obtain⟨l,U⟩:=IN si;exact T k' l c1 ⟨e0,dC,U⟩
   ·injection z with a1 a2 a3 a4;injection J with b1 b2 b3 b4;subst a1 a2 a3 a4 b1 b2 b3 b4;exact⟨rfl,rfl,rfl,by simp,fun h=>by cases h⟩
  have fv:∀d,d≠b->w'.heap[d]? =w.heap[d]? :=fun d M=>by rw[<-pV];exact F9 d M
  have qE:∀d,Cz w w' d:=fun d=>by
   by_cases hb:d=b
   ·subst hb;rw[<-pV];exact Jx X Y
   ·exact Cz.of_eq (fv d hb)
  have uN:w.heap.size<=w'.heap.size:=by rw[<-pV,wC];exact zad _
  have cC:σ.h n≠none:=by rw[hn];simp
  have hbn:(G.g n).b≠b:=fun h=>H.live n F L xs hn b hF n cC bk h.symm;obtain⟨W,vD⟩:∃W,xs[k]? =some W:=by
   cases h:xs[k]? with
   |none=>rw[h] at g3;cases g3
   |some W=>exact⟨W,rfl⟩
  have Z:O=xs.set k (W.set off (PC.list f (some (ad b D)) c (py.set j pe)).er):=by
   rw[<-hx,PC.fK,zaD,e1,IT,vD];rfl
  have WR:=acK H hn Ad p1 rfl (fun _=>fv _ hbn) (fun k' l q z J d M=>fv d (by rintro rfl;exact hr.mode.2.2 _ _ _ _ _ _ d z p1 J M gV)) A vD;obtain⟨zF,K,_⟩:=H.QP (G':=⟨G.Im,aV G.g n (C0 (G.g n) (.nest n k off) (PC.list f (some (ad b D)) c (py.set j pe)))⟩) (h':=aV σ.h n (some (.row F .live L O))) (w':=w') (S:=fun m=>m=n) uN
   (fun d M dK=>fv d (by rintro rfl;exact dK n rfl (.inr hF))) (fun d _=>qE d) rfl
   (fun m hm=>by subst hm;exact⟨F,.live,L,xs,O,hn,cX _ _ _,by simp only[cX];rw[Z];exact WR⟩)
   (fun m hm=>⟨dJ _ _ _ _ hm,dJ _ _ _ _ hm⟩)
  have r':=r.step (σ':=σ.fh n (.row F .live L O)) rfl (fun _ h=>h) K zF (r.fr.one hBE (fun d _ aJ=>fv d aJ) uN (qE b) (by rw[<-pV];rfl) (by rw[<-pV];rfl) (by rw[<-pV];rfl));have di:=ZT (P:=P) (w:=w) (t:=t) (i:=i) (b:=b) (off:=D+j*f) (v:=a.eval y) (cur:=cur) (e:=et) hi (by rw[cY,<-EL];simp) X (by simpa using Y) (fun u hu=>by
   obtain⟨j,hj,Lv⟩:=List.getElem_of_mem hu;have Ah:j<vs.length:=by omega
   exact(cP.2 j _ u (AI Ah) (by rw[AI hj,Lv])).1)
  refine abB (w':=w') ?_ ⟨_,by rw[hd];exact r'⟩;rw[<-pV];simp only[execOp,ho,p4];simp[Instr.storeAt,Instr.sureAddr,di]
 ·cases hx
theorem R.aec (r:R B E w0 N σ a w G) {n:Nat} {p:Bool} {m:Mode} {xs:List (List C)} (hn:σ.h n=some (.row p m 1 xs)) (hm:m≠ .aQ) (hs:iV xs=true) (y:(G.g n).nl=false) {lo:Nat} {pe:List PC} (m7:∀c∈pe,c.er.gx=true) (jJ:lo+pe.length<=xs.length) {cur:Array Value} {et:TypeId} (J:w.heap[(G.g n).b]? =some (.cells cur et (0,0))) (T:(G.g n).o+lo+pe.length<=cur.size): ∃G',R B E w0 N (σ.fh n (.row p m 1 (dA xs lo (pe.map fun c=>[c.er])))) a (iW w (G.g n).b ((G.g n).o+lo) (pe.map PC.val) cur) G':=by have H:=r.hr;have hr:=H.row n p m 1 xs hn;have Y:σ.h n≠none:=(by rw[hn];simp);obtain⟨vG,Z,xn⟩:=H.own n Y y;obtain⟨l1,l2,W⟩:=hr.f6 y;have rz:xs.length=(G.g n).px.length:=(by rw[hr.er,zaa]);have z:=hs;rw[hr.er] at z;have tn:=hr.er;generalize jM:(G.g n).px=px at*;have A:lo+(pe.map fun c=>[c]).length<=px.length:=(by rw[zaa];omega);have D:(pe.map PC.val).length=pe.length:=zaa _;have v:(G.g n).o+lo+(pe.map PC.val).length<=cur.size:=(by rw[D];exact T);have M:∀k j c,At (dA px lo (pe.map fun c=>[c])) k j c->j=0/\((lo<=k/\k<lo+pe.length/\pe[k - lo]? =some c)\/(¬(lo<=k/\k<lo+pe.length)/\At px k j c)):=(by rintro k j c ⟨e,i,hj⟩;rw[Dr A,zaa] at i;by_cases u:lo<=k/\k<lo+pe.length;rw[ah u,AN] at i;(cases hp:pe[k - lo]? with|none=>rw[hp] at i;cases i|some c0=>rw[hp] at i;injection i with i;subst i;cases j with|zero=>simp at hj;subst hj;exact⟨rfl,.inl ⟨u.1,u.2,rfl⟩⟩|succ j=>simp at hj);rw[ak u] at i;have lg:=l2.1 e (so i);have:=(If.1 hj).1;exact⟨by omega,.inr ⟨u,e,i,hj⟩⟩);have s:∀k j c,At (dA px lo (pe.map fun c=>[c])) k j c->c.er.gx=true:=(by intro k j c d;rcases(M k j c d).2 with⟨_,_,t⟩|⟨_,e,i,hj⟩;exact m7 c (so t);have P:=AT.1 z (e.map PC.er) (by simp only[BY];exact⟨e,so i,rfl⟩);exact AT.1 P c.er (by simp only[BY];exact⟨c,so hj,rfl⟩));generalize pV:iW w (G.g n).b ((G.g n).o+lo) (pe.map PC.val) cur=w';have fv:∀f,f≠(G.g n).b->w'.heap[f]? =w.heap[f]? :=fun f O=>(by rw[<-pV];exact F9 f O);have F:∀f,Cz w w' f:=fun f=>(by by_cases hb:f=(G.g n).b;subst hb;rw[<-pV];exact Jx J v;exact Cz.of_eq (fv f hb));have L:w.heap.size<=w'.heap.size:=(by rw[<-pV,wC];exact zad _);have U:N2 w' (G.g n) {G.g n with px:=dA px lo (pe.map fun c=>[c])} p m 1 (dA xs lo (pe.map fun c=>[c.er])):=(by refine⟨hm,.inl (by rw[jM];exact aen z),rfl,rfl,rfl,rfl,rfl,?_,(fun h=>by rw[y] at h;cases h),fun _=>⟨⟨fun e i=>?_,fun k j c d=>?_,fun k j c d=>Good.lE (s k j c d)⟩,by show(dA px lo _).length<=_;rw[Sm A];exact W⟩, ⟨fun k j c d=>(Sep.lE (s k j c d)).1,fun k j c k' j' c' b d _ _ hb=>absurd hb ((Sep.lE (s k j c d)).2 b)⟩,fun b ⟨k,j,c,d,hb⟩=>absurd hb ((Sep.lE (s k j c d)).2 b),fun _ k j pc d hL=>?_,fun _ _ k c d=>wL.lE (s k _ c d)⟩;show dA xs lo _=(dA px lo _).map _;rw[FV,<-tn,zaF];rfl;obtain⟨k,d⟩:=IN i;have l:(dA px lo (pe.map fun c=>[c]))[k]? =some e:=d;rw[Dr A] at l;split at l;rw[AN] at l;(cases hp:pe[k - lo]? with|none=>rw[hp] at l;cases l|some c0=>rw[hp] at l;injection l with l;rw[<-l];rfl);exact l2.1 e (so l);obtain⟨rfl,t⟩:=M k j c d;rw[<-pV,Jw J v];rcases t with⟨t,I,h3⟩|⟨t,I⟩;rw[ah (by rw[D];omega),show(G.g n).o+k*1+0 - ((G.g n).o+lo)=k - lo by omega,AN,h3];rfl;rw[ak (by rw[D];omega)];exact l2.2.1 _ _ _ I;rw[jM] at d;have:=aeo z d;rw[hL] at this;cases this);obtain⟨Q,K,_⟩:=H.QP (G':=⟨G.Im,aV G.g n {G.g n with px:=dA px lo (pe.map fun c=>[c])}⟩) (h':=aV σ.h n (some (.row p m 1 (dA xs lo (pe.map fun c=>[c.er]))))) (w':=w') (S:=fun q=>q=n) L (fun f O V=>fv f (by rintro rfl;exact V n rfl (.inl ⟨y,rfl⟩))) (fun f _=>F f) rfl (fun q x=>by subst x;exact⟨p,m,1,xs,_,hn,cX _ _ _,by simp only[cX];exact U⟩) (fun q x=>⟨dJ _ _ _ _ x,dJ _ _ _ _ x⟩);exact⟨_,r.step (σ':=σ.fh n (.row p m 1 (dA xs lo (pe.map fun c=>[c.er])))) rfl (fun _ h=>h) K Q (r.fr.one Z (fun f _ X=>fv f X) L (F _) (by rw[<-pV];rfl) (by rw[<-pV];rfl) (by rw[<-pV];rfl))⟩
theorem ai8 {α:Type}:∀{py:List (List α)},(∀e∈py,e.length=1)->py=py.flatten.map fun c=>[c]
 |[],_=>rfl
 |e::py,h=>by
  have a:=h e (by simp);match e,a with
  |[c],_=>
   rw[List.flatten_cons,List.map_append,<-ai8 (py:=py) fun e b=>h e (by simp[b])];rfl
theorem al3 {n:Nat} {b:aA} (hn:σ.h n=some b):σ.fh n b=σ:=by unfold St.fh;rw[<-hn,NR]
theorem amF {α:Type} (xs:List α) (lo:Nat) (h:lo<=xs.length):dA xs lo []=xs:=by simp[dA]
theorem azP {t t' ty e h:TypeId} {i:TypeInfo} (s:P.underlying t=some (.slice e)) (hi:P.info? e=some i) (r:i.size=1) (g f d n:Nat) (cur:Array Value) (q:w.heap[g]? =some (.cells cur h (0,0))) (a:Addr) (m c:Nat) (b:List Value) (hl:b.length=zaA m d) (o:∀j u,b[j]? =some u->w.cell? (a.add j)=some u) (p:∀u∈b,u.oneCell'=true) (v:f+b.length<=cur.size): (Builtin.copy_ #[t,t'] ty #[.slice (some (ad g f)) d n,.slice (some a) m c]).run P w=.ok (.int .i64 (zaA m d:Nat)) (iW w g f b cur):=by have l:=run_firstCells_some (P:=P) w i.size (zaA m d) a m c b (by rw[hl,r,za8]) o;have k:=run_storeCells_at P g f h b 0 cur w q (by simpa using v) p;simp only[zbb] at k;simp[Builtin.copy_,run_underlying s,sizeOf,typeInfo,hi,Builtin.lenOf,l,ad,k,iW,goInt]
theorem azQ {t t' ty e:TypeId} {i:TypeInfo} (d:P.underlying t=some (.slice e)) (hi:P.info? e=some i) (ya a:Option Addr) (b f m c:Nat) (g:zaA m b=0): (Builtin.copy_ #[t,t'] ty #[.slice ya b f,.slice a m c]).run P w=.ok (.int .i64 0) w:=by cases ya<;>cases a<;>simp[Builtin.copy_,run_underlying d,sizeOf,typeInfo,hi,Builtin.lenOf,g,Builtin.firstCells,loadCells,loadCellsFrom,storeCells,goInt]
theorem aqi (r:R B E w0 N σ a w G) {t t' e:TypeId} {i:TypeInfo} {x y:Operand} {mx my:MO} {n lo len:Nat} {c:aj} {ys xs:List (List C)} {F:Bool} {m:Mode} (X:o.op=.call {callee:=.builtin .copy,args:=#[x,y],argTypes:=#[t,t']}) (hN:∀n,o.dst=some n->n<N)
  (jS:c8 x mx=true) (mD:c8 y my=true) (ht:P.underlying t=some (.slice e)) (hi:P.info? e=some i) (cY:i.size=1) (hx:σ.ev mx=.one (.sl n 1 lo len)) (hy:σ.ev my=.one c) (hn:σ.h n=some (.row F m 1 xs))
  (l:dE σ.h c=some (.list 1 ys)) (hm:m≠ .aQ) (hs:iV xs=true) (nc:iV ys=true) (jJ:lo+len<=xs.length):
  o.wp P a w (Nx B E w0 N ((σ.fh n (.row F m 1 (dA xs lo (ys.take len)))).put o.dst (.one (.c (.int .i64 (zaA ys.length len:Nat)))))) Q:=by
 have H:=r.hr;obtain⟨V,_⟩:=r.ev jS;obtain⟨Z,_⟩:=r.ev mD;rw[hx] at V;rw[hy] at Z;have jt:c≠ .bZ:=by rintro rfl;simp[Am.dE] at l
 have jN:kY (G.g n) 1 lo len (a.eval x):=(V.jp (by simp)).1 (by rw[hn];simp);obtain⟨pc,p1,p2,Y⟩:=H.dE l (Z.jp jt).1;have hr:=H.row n F m 1 xs hn;cases pc with
 |int kk nn=>simp[PC.er] at p1
 |bool bb=>simp[PC.er] at p1
 |list s' ya U py=>
 rw[PC.fK] at p1;injection p1 with e1 e2;subst e1;have T:ys.length=py.length:=by rw[<-e2];simp
 have D:a.eval y=.slice ya py.length U:=p2.symm;by_cases z:zaA py.length len=0
 ·have PS:σ.fh n (.row F m 1 (dA xs lo (ys.take len)))=σ:=by
   have:ys.take len=[]:=by
    apply OF;rw[zaN,T];have:min len py.length=zaA py.length len:=zbc _ _;omega
   rw[this,amF _ _ (by omega)];exact al3 hn
  have S:∃NZ,a.eval x=.slice NZ len (match(G.g n).nl with|true=>(G.g n).cap|false=>(G.g n).cap - lo):=by
   rcases jN with⟨d,l,_,rfl⟩|⟨d,a',l,_,_⟩
   ·exact⟨_,by rw[l,d]⟩
   ·exact⟨_,by rw[l,d]⟩
  obtain⟨NZ,S⟩:=S;rw[PS,T,z];refine lf r (v:=.int .i64 0) ?_ (RA.of_int _ _) (fun q M=>absurd M zj) hN;simp only[execOp,X];simp[resolve,invoke,builtin,S,D,azQ ht hi _ _ _ _ _ _ z]
 ·have hlen:0<len:=by
   rcases zaG len with h|h
   ·subst h;exact absurd (Nat.min_zero _) z
   ·exact h
  have jU:0<py.length:=by
   rcases zaG py.length with h|h
   ·rw[h] at z;exact absurd (Nat.zero_min _) z
   ·exact h
  rcases jN with⟨_,_,_,rfl⟩|⟨d,a',oD,lV,ha⟩
  ·omega
  have yA:=ha (.inl (by omega));subst yA;obtain⟨⟨cur,et,J⟩,l2,l3⟩:=hr.f6 d;generalize ph:PC.list 1 ya U py=p at Y;cases Y with
  |int k n=>cases ph
  |bool b=>cases ph
  |nil _ _ _ _=>injection ph with _ _ _ e4;subst e4;simp at jU
  |cons _ b L _ _ q1 q2 q3 q4 q5 q6=>
  injection ph with f1 f2 f3 f4;subst f1 f2 f3 f4;have s:=ai8 q4;generalize pg:py.flatten=pl at s;subst s;have uP:ys=pl.map fun c=>[c.er]:=by rw[<-e2,zaF];rfl
  have mF:∀c∈pl.take len,c.er.gx=true:=by
   intro c K;have h6:=AT.1 nc [c.er] (by rw[uP];exact List.mem_map_of_mem (f:=fun c:PC=>[c.er]) (List.mem_of_mem_take K));exact AT.1 h6 c.er (by simp)
  have rz:xs.length=(G.g n).px.length:=by rw[hr.er,zaa]
  have Xu:(pl.take len).length=zaA (pl.map fun c=>[c]).length len:=by rw[zaN,zaa];exact zbc _ _
  have io:(pl.take len).length<=len:=by rw[zaN];exact Nat.min_le_left _ _
  have lY:(G.g n).o+lo+(pl.take len).length<=cur.size:=by
   have I:lo+len - 1<(G.g n).px.length:=by omega
   have h2:((G.g n).px[lo+len - 1]'I).length=1:=l2.1 _ (zaM I);have K:=l2.2.1 (lo+len - 1) 0 (((G.g n).px[lo+len - 1]'I)[0]'(by omega)) ⟨_,AI I,AI _⟩;have:=GU J K;omega
  obtain⟨G',r'⟩:=r.aec hn hm hs d (lo:=lo) (pe:=pl.take len) mF (by omega) J lY;have O:ys.take len=(pl.take len).map fun c=>[c.er]:=by rw[uP,List.map_take]
  rw[O,show zaA ys.length len=zaA (pl.map fun c=>[c]).length len by rw[T]];have W:=azP (P:=P) (w:=w) (t':=t') (ty:=o.type) ht hi cY (G.g n).b ((G.g n).o+lo) len ((G.g n).cap - lo) cur J (ad b L) (pl.map fun c=>[c]).length U ((pl.take len).map PC.val) (by rw[zaa,Xu]) (fun j u hj=>by
   rw[AN] at hj;cases hp:(pl.take len)[j]? with
   |none=>rw[hp] at hj;cases hj
   |some A=>
    rw[hp] at hj;injection hj with hj;subst hj;have bM:pl[j]? =some A:=by
     rw[za1] at hp;split at hp
     ·exact hp
     ·cases hp
    have:=q5 j 0 A ⟨[A],by rw[AN,bM];rfl,rfl⟩;rw[ud];rw[show L+j=L+j*1+0 by omega];exact this) (fun u hu=>by obtain⟨A,_,rfl⟩:=BY.1 hu;exact PC.od A) (by rw[zaa];exact lY)
  refine Bq (w':=iW w (G.g n).b ((G.g n).o+lo) ((pl.take len).map PC.val) cur) (v:=.int .i64 (zaA (pl.map fun c=>[c]).length len:Nat)) ?_ ⟨G',r'.put (RA.of_int _ _) (fun q M=>absurd M zj) hN⟩;rw[za8] at oD;simp only[execOp,X];simp only[zaa] at W⊢;simp[resolve,invoke,builtin,oD,D,zaa,W]
theorem aBU (z0:Value) (n:Nat):(Builtin.zeroCells #[z0] n).toList=zaf n z0:=by unfold Builtin.zeroCells;simp;rw[List.eq_replicate_iff];refine⟨by simp,fun b hb=>?_⟩;obtain⟨i,_,rfl⟩:=BY.1 hb;simp[Nat.mod_one]
theorem azO {t ty e:TypeId} (a:P.underlying t=some (.slice e)) (ya:Option Addr) (c:Nat): (Builtin.clear_ #[t] ty #[.slice ya 0 c]).run P w=.ok (.tuple #[]) w:=by cases ya<;>simp[Builtin.clear_,run_underlying a]
theorem azN {t ty e b:TypeId} {i:TypeInfo} {z z0:Value} (m:P.underlying t=some (.slice e)) (hi:P.info? e=some i) (f:i.zero=some z) (h:z.cells=#[z0]) (j:z0.oneCell'=true) (g a n c:Nat) (hn:0<n) (cur:Array Value) (l:w.heap[g]? =some (.cells cur b (0,0))) (o:a+n<=cur.size):(Builtin.clear_ #[t] ty #[.slice (some (ad g a)) n c]).run P w=.ok (.tuple #[]) (iW w g a (zaf n z0) cur):=by have d:=run_storeCells_at P g a b (zaf n z0) 0 cur w l (by simpa using o) (fun v p=>by rw[(za2.1 p).2];exact j);simp only[zbb] at d;obtain⟨n,rfl⟩:∃k,n=k+1:=⟨n - 1,by omega⟩;simp[Builtin.clear_,run_underlying m,typeInfo,zeroValue,hi,f,h,aBU,ad,d,iW]
theorem aqg (r:R B E w0 N σ a w G) {t e:TypeId} {i:TypeInfo} {z:Value} {x:Operand} {mx:MO} {n lo len:Nat} {d:C} {xs:List (List C)} {u:Bool} {m:Mode} (L:o.op=.call {callee:=.builtin .clear,args:=#[x],argTypes:=#[t]}) (F:∀n,o.dst=some n->n<N)
  (Y:c8 x mx=true) (S:P.underlying t=some (.slice e)) (hi:P.info? e=some i) (W:i.zero=some z) (j:zQ z.cells.toList [d]=true) (X:d.gx=true) (hx:σ.ev mx=.one (.sl n 1 lo len)) (hn:σ.h n=some (.row u m 1 xs))
  (hm:m≠ .aQ) (hs:iV xs=true) (jJ:lo+len<=xs.length):
  o.wp P a w (Nx B E w0 N ((σ.fh n (.row u m 1 (dA xs lo (zaf len [d])))).put o.dst (.ct []))) Q:=by
 have H:=r.hr;obtain⟨J,_⟩:=r.ev Y;rw[hx] at J;have D:kY (G.g n) 1 lo len (a.eval x):=(J.jp (by simp)).1 (by rw[hn];simp);have hr:=H.row n u m 1 xs hn;obtain⟨V,b2,b3⟩:=Vm (w:=w) j;have O:∀w G' h',RA w G' h' (.ct []) (.tuple #[]):=fun w G' h'=>⟨[],rfl,rfl,by simp⟩;have Z:z.cells=#[(qh d).val]:=by
  apply zag;rw[<-b2];rfl
 rcases zaG len with rfl|f
 ·have y:∃M c,a.eval x=.slice M 0 c:=by
   rcases D with⟨k,A,_,_⟩|⟨k,a',A,_,_⟩
   ·exact⟨_,_,A⟩
   ·exact⟨_,_,A⟩
  obtain⟨M,c,y⟩:=y;rw[show dA xs lo (zaf 0 [d])=xs from amF _ _ (by omega),al3 hn]
  refine lf r (v:=.tuple #[]) ?_ (O _ _ _) (fun q p=>?_) F
  ·simp only[execOp,L];simp[resolve,invoke,builtin,y,azO S]
  ·obtain⟨x,hx,_⟩:=p;simp at hx
 ·rcases D with⟨_,_,_,rfl⟩|⟨k,a',I,lV,ha⟩
  ·omega
  have yA:=ha (.inl (by omega));subst yA;obtain⟨⟨cur,et,s⟩,l2,l3⟩:=hr.f6 k;have rz:xs.length=(G.g n).px.length:=by rw[hr.er,zaa]
  have K:(G.g n).o+lo+len<=cur.size:=by
   have l:lo+len - 1<(G.g n).px.length:=by omega
   have h2:((G.g n).px[lo+len - 1]'l).length=1:=l2.1 _ (zaM l);have j:=l2.2.1 (lo+len - 1) 0 (((G.g n).px[lo+len - 1]'l)[0]'(by omega)) ⟨_,AI l,AI _⟩;have:=GU s j;omega
  have T:(qh d).er=d:=by simpa using V
  obtain⟨G',U⟩:=r.aec hn hm hs k (lo:=lo) (pe:=zaf len (qh d)) (fun c j=>by rw[(za2.1 j).2,T];exact X) (by rw[zaS];exact jJ) s (by rw[zaS];exact K);rw[za3,za3,T] at U;have di:=azN (P:=P) (w:=w) (ty:=o.type) S hi W Z (PC.od _) (G.g n).b ((G.g n).o+lo) len ((G.g n).cap - lo) f cur s K;refine Bq (w':=iW w (G.g n).b ((G.g n).o+lo) (zaf len (qh d).val) cur) (v:=.tuple #[]) ?_ ⟨G',U.put (O _ _ _) (fun q p=>by obtain⟨x,hx,_⟩:=p;simp at hx) F⟩;rw[za8] at I;simp only[execOp,L];simp[resolve,invoke,builtin,I,di]
end
structure UD (w:World) (ds:List Dv) (vals:List Value) (pas:List PA):Prop where
 l1:vals.length=ds.length
 l2:pas.length=ds.length
 at_:∀(i:Nat) (d:Dv) (v:Value) (p:PA),ds[i]? =some d->vals[i]? =some v->pas[i]? =some p->DI w d v p
 mh:∀p∈pas,p.k=.ptr->fA w p.b/\∀q∈pas,∀pc∈q.ps,¬bD p.b pc
 one:∀(i j:Nat) (p q:PA),pas[i]? =some p->pas[j]? =some q->p.k=.ptr->q.k=.ptr->i=j
def GD (w:World) (pas:List PA) (b:Nat):Prop:=w.heap.size<=b\/∃q∈pas,∃pc∈q.ps,bD b pc
def exV (pas:List PA):Ex:=⟨fun b=>∃p∈pas,p.k=.ptr/\b=p.b,fun _=>none,fun _ _ h=>(by cases h),fun _=>True⟩
def FC (p:PA):Value:=
 match p.k with
 |.one=>match p.ps with
  |[pc]=>pc.val
  |_=>.agg (p.ps.map PC.val).toArray
 |.agg=>.agg (p.ps.map PC.val).toArray
 |.ptr=>.pointer (some (ad p.b p.o))
def FD:List PA->Value
 |[p]=>FC p
 |l=>.tuple (l.map FC).toArray
def N5 (w:World) (b o:Nat) (ps:List PC):Prop:=∀(j:Nat) (c:PC),ps[j]? =some c->w.cell? (ad b (o+j))=some c.val
structure UC (w w':World) (pas bQ:List PA) (qs:List PC):Prop where
 one:∀p∈bQ,p.k=.one->p.ps.length=1
 ptr:∀p∈bQ,p.k=.ptr->bQ.length=1/\w.heap.size<=p.b/\fA w' p.b/\N5 w' p.b p.o p.ps/\(∀pc∈p.ps,¬bD p.b pc)/\∀pc∈qs,¬bD p.b pc
 hZ:∀p∈bQ,∀pc∈p.ps,Good w' pc/\∀b,bD b pc->GD w pas b
 fr:Fr w.heap.size (exV pas) w w'
 out:∀pc∈qs,Good w' pc/\∀b,bD b pc->GD w pas b
 at_:∀p∈pas,p.k=.ptr->N5 w' p.b p.o qs
def lL (P:Program) (f:FuncId) (M:List Dv->Option (List Dv×List C)):Prop:=
 ∀ds rs out,M ds=some (rs,out)->∀(w:World) (vals:List Value) (pas:List PA),UD w ds vals pas->Calls P f vals.toArray w fun e w'=>
  ∃(bQ:List PA) (qs:List PC),bQ.map (fun p=>(p.k,p.ps.map PC.er))=rs/\e=.returned (FD bQ)/\qs.map PC.er=out/\UC w w' pas bQ qs
def GC (P:Program) (T:bj):Prop:=∀f M,bj.o8 T.vs f=some M->lL P f M
section
variable {B N:Nat} {E:Ex} {w0 w w':World} {G G':Gh} {h h':Nat->Option aA} {used used':Nat->Bool} {tk:List PC} {P:Program} {o:Oper} {a:Act} {σ σ':St} {Q:Exit->Act->World->Prop}
theorem HR.su {c:aj} {x:C} {v:Value} (hx:Am.su c=some x) (a:RC w G h c v):∃pc:PC,pc.er=x/\pc.val=v/\Good w pc/\∀b,bD b pc->G.Im b:=by cases c with|c y=>simp only[Am.su] at hx;injection hx with hx;subst hx;exact a|nil sz=>simp only[Am.su] at hx;split at hx;rename_i g;injection hx with hx;subst hx;have f:v=.slice none 0 0:=a;subst f;refine⟨.list sz none 0 [],by simp[PC.fK],rfl,.nil _ _ _ g,fun b hb=>?_⟩;rw[bD.pq] at hb;rcases hb with⟨hb,_⟩|⟨k,j,c,⟨e,d,_⟩,_⟩;exact absurd rfl hb;simp at d;cases hx|_=>simp[Am.su] at hx
theorem HR.oG:∀{cs:List aj} {xs:List C} {vs:List Value},Am.oG cs=some xs->ed w G h cs vs->∃ps:List PC,ps.map PC.er=xs/\ps.map PC.val=vs/\∀pc∈ps,Good w pc/\∀b,bD b pc->G.Im b
 |[],xs,vs,hx,hc=>by
  simp only[Am.oG] at hx;injection hx with hx;subst hx;have:vs=[]:=OF (by simpa using hc.1);subst this;exact⟨[],rfl,rfl,by simp⟩
 |c::cs,xs,vs,hx,hc=>by
  simp only[Am.oG] at hx;split at hx
  ·rename_i x aH o p;injection hx with hx;subst hx;match vs,hc.1 with
   |v::vs,hl=>
    obtain⟨pc,g,l,f,d⟩:=HR.su o (hc.2 0 c v rfl rfl).2;obtain⟨ps,e,n,i⟩:=HR.oG (vs:=vs) p ⟨by simpa using hl,fun j c u m k=>hc.2 (j+1) c u m k⟩;refine⟨pc::ps,by simp[g,e],by simp[l,n],fun q a=>?_⟩;cases a with
    |head=>exact⟨f,d⟩
    |tail _ a=>exact i q a
  ·cases hx
theorem HR.U6 (H:HR B E w G h used tk) {n:Nat} {cs:List aj} (hn:h n=some (.box cs)):∃vs:List Value,ed w G h cs vs/\∀(j:Nat) (v:Value),vs[j]? =some v->w.cell? (ad (G.g n).b ((G.g n).o+j))=some v:=by obtain⟨_,_,f⟩:=H.box n cs hn;have hj:∀j:Fin cs.length,∃v,w.cell? (ad (G.g n).b ((G.g n).o+j.1))=some v/\v.oneCell'=true/\RC w G h cs[j.1] v:=fun j=>f j.1 _ (AI j.2);refine⟨List.ofFn fun j=>Classical.choose (hj j),⟨by simp,fun j c u i d=>?_⟩,fun j v a=>?_⟩;obtain⟨hl,e⟩:=If.1 i;rw[za4,dif_pos hl] at d;injection d with d;subst d e;exact(zaT (hj ⟨j,hl⟩)).2;by_cases hl:j<cs.length;rw[za4,dif_pos hl] at a;injection a with a;subst a;exact(zaT (hj ⟨j,hl⟩)).1;rw[zaU (by simp;omega)] at a;cases a
theorem aA8 {σ1:St} {c:aj} {x:C} {o:Bool} (hx:σ.iD c=some (x,o,σ1)) {n:Nat} {cs:List aj} (hn:σ.h n=some (.box cs)):σ1.h n=some (.box cs):=by cases c with|c y=>simp only[St.iD] at hx;injection hx with hx;injection hx with _ hx;injection hx with _ hx;subst hx;exact hn|nil sz=>simp only[St.iD] at hx;split at hx;injection hx with hx;injection hx with _ hx;injection hx with _ hx;subst hx;exact hn;cases hx|sl q sz lo len=>simp only[St.iD] at hx;split at hx;rename_i gr m rs xs a;split at hx;injection hx with hx;injection hx with _ hx;injection hx with _ hx;subst hx;have b:n≠q:=(by rintro rfl;rw[a] at hn;cases hn);show aV σ.h q none n=_;rw[dJ _ _ _ _ b];exact hn;cases hx;cases hx|_=>simp[St.iD] at hx
theorem am7:∀{l:List aj} {σ σ1:St} {xs:List C} {o:Bool},σ.iE l=some (xs,o,σ1)->∀{n:Nat} {cs:List aj},σ.h n=some (.box cs)->σ1.h n=some (.box cs)
 |[],σ,σ1,xs,o,hx,n,cs,hn=>by simp only[St.iE] at hx;injection hx with hx;injection hx with _ hx;injection hx with _ hx;subst hx;exact hn
 |c::l,σ,σ2,xs,o,hx,n,cs,hn=>by simp only[St.iE] at hx;split at hx;rename_i x o1 σ1 a;split at hx;rename_i aH o2 abF b;injection hx with hx;injection hx with _ hx;injection hx with _ hx;subst hx;exact am7 b (aA8 a hn);cases hx;cases hx
theorem U0:∀{as:List au} {σ σ1:St} {ds:List Dv} {ns:List Nat},σ.kw as=some (ds,ns,σ1)->∀{n:Nat} {cs:List aj},σ.h n=some (.box cs)->σ1.h n=some (.box cs)
 |[],σ,σ1,ds,ns,hx,n,cs,hn=>by simp only[St.kw] at hx;injection hx with hx;injection hx with _ hx;injection hx with _ hx;subst hx;exact hn
 |v::as,σ,σ2,ds,ns,hx,n,cs,hn=>by simp only[St.kw] at hx;split at hx;split at hx;rename_i e;injection hx with hx;injection hx with _ hx;injection hx with _ hx;subst hx;exact U0 e hn;cases hx;split at hx;split at hx;rename_i a;split at hx;rename_i b;injection hx with hx;injection hx with _ hx;injection hx with _ hx;subst hx;exact U0 b (am7 a hn);cases hx;cases hx;cases hx
def qw (pas:List PA):List PA:=pas.filter fun p=>decide (p.k=.ptr)
def abH (G:Gh) (h:Nat->Option aA) (p:PA) (n:Nat):Prop:=∃cs,h n=some (.box cs)/\p.b=(G.g n).b/\p.o=(G.g n).o/\p.ps.length=cs.length
theorem acp {v:au} {n:Nat} {xs:List C} (hx:pI h v=some (n,xs)):∃sz cs,v=.one (.ptr n 0 sz 0)/\h n=some (.box cs)/\oG cs=some xs:=by unfold pI at hx;split at hx;rename_i q k sz off;split at hx;rename_i c;obtain⟨rfl,rfl⟩:=c;split at hx;rename_i cs b;split at hx;rename_i ys e;injection hx with hx;injection hx with a h2;subst a h2;exact⟨sz,cs,rfl,b,e⟩;cases hx;cases hx;cases hx;cases hx
theorem HR.kw:∀{as:List au} {vals:List Value} {σ σ1:St} {G:Gh} {ds:List Dv} {ns:List Nat},HR B E w G σ.h σ.used []->σ.kw as=some (ds,ns,σ1)->vals.length=as.length->
  (∀(j:Nat) (x:au) (v:Value),as[j]? =some x->vals[j]? =some v->RA w G σ.h x v)->(∀x∈as,∀m,x.ref m->σ.used m=true)->
  ∃(Im':Nat->Prop) (pas:List PA),pas.length=ds.length/\vals.length=ds.length/\(∀(i:Nat) (d:Dv) (v:Value) (p:PA),ds[i]? =some d->vals[i]? =some v->pas[i]? =some p->DI w d v p)/\
   (∀p∈pas,∀pc∈p.ps,∀b,bD b pc->Im' b)/\(qw pas).length=ns.length/\(∀(i:Nat) (p:PA) (n:Nat),(qw pas)[i]? =some p->ns[i]? =some n->abH G σ1.h p n)/\
   HR B E w ⟨Im',G.g⟩ σ1.h σ1.used []/\cm w G σ.h (fun n=>σ.used n=true) w ⟨Im',G.g⟩ σ1.h/\σ1.env=σ.env/\σ1.used=σ.used
 |[],vals,σ,σ1,G,ds,ns,H,hx,hl,hc,hr=>by
  simp only[St.kw] at hx;injection hx with hx;injection hx with a k;injection k with k h3;subst a k h3;exact⟨G.Im,[],rfl,by simpa using hl,by simp,by simp,rfl,by simp[qw],H,cm.refl _ _ _ _,rfl,rfl⟩
 |x::as,vals,σ,σ2,G,ds,ns,H,hx,hl,hc,hr=>by
  match vals,hl with
  |v::vals,hl=>
   simp only[St.kw] at hx;split at hx
   ·rename_i n xs hp;split at hx
    ·rename_i zU oK σ1 e;injection hx with hx;injection hx with a k;injection k with k h3;subst a k h3;obtain⟨sz,cs,rfl,hn,Z⟩:=acp hp;obtain⟨nl,un,_⟩:=H.box n cs hn;obtain⟨vs,U,v2⟩:=H.U6 hn;obtain⟨ps,p1,V,Q⟩:=HR.oG Z U;have hv:v=.pointer (some (ad (G.g n).b (G.g n).o)):=by
      have q:=hc 0 _ v rfl rfl;rcases q with q|q
      ·cases q
      ·have a:RC w G σ.h (.ptr n 0 sz 0) v:=(q.2 0 _ v rfl rfl).2;simpa using(a (by rw[hn];simp)).2
     obtain⟨Im',pas,C,D,I,N,O,L,A,b8,M,J⟩:=HR.kw (as:=as) (vals:=vals) H e (by simpa using hl) (fun j x v a k=>hc (j+1) x v a k) (fun x hx=>hr x (by simp[hx]));have hk:(Am.K.ptr=Am.K.ptr)=True:=by simp
     refine⟨Im',⟨.ptr,ps,(G.g n).b,(G.g n).o⟩::pas,by simp[C],by simp[D],fun i d u p hd t f=>?_,fun p f pc r b hb=>?_,by simp[qw];exact O,fun i p m hi hm=>?_,A,b8,M,J⟩
     ·cases i with
      |zero=>
       simp at hd t f;subst hd t f;refine⟨by rw[p1],fun pc r=>(Q pc r).1,hv,un.lt,fun j c hj=>v2 j _ ?_⟩;rw[<-V,AN,hj];rfl
      |succ i=>exact I i d u p (by simpa using hd) (by simpa using t) (by simpa using f)
     ·cases f with
      |head=>exact b8.im b ((Q pc r).2 b hb)
      |tail _ f=>exact N p f pc r b hb
     ·cases i with
      |zero=>
       simp[qw] at hi hm;subst hi hm;refine⟨cs,U0 e hn,rfl,rfl,?_⟩;have a:ps.length=vs.length:=by rw[<-V];simp
       exact a.trans U.1
      |succ i=>exact L i p m (by simpa[qw] using hi) (by simpa using hm)
    ·cases hx
   ·split at hx
    ·rename_i ag cs s;split at hx
     ·rename_i xs o σ1 e1;split at hx
      ·rename_i zU oK abF e2;injection hx with hx;injection hx with a k;injection k with k h3;subst a k h3;have q:=hc 0 x v rfl rfl;have EJ:∃vs:List Value,(if ag=true then v=.agg vs.toArray else vs=[v])/\ed w G σ.h cs vs:=by
        cases x with
        |one c=>
         have yB:ag=false/\cs=[c]:=by cases c<;>simp[au.cells?] at s<;>exact⟨s.1,s.2.symm⟩
         obtain⟨rfl,rfl⟩:=yB;rcases q with q|q
         ·subst q;simp[au.cells?] at s
         ·exact⟨[v],rfl,q⟩
        |agg cs'=>
         simp[au.cells?] at s;obtain⟨rfl,rfl⟩:=s;obtain⟨vs,e,a⟩:∃vs:List Value,v=.agg vs.toArray/\ed w G σ.h cs' vs:=q;exact⟨vs,e,a⟩
        |ct xs=>simp[au.cells?] at s
       obtain⟨vs,y,cP⟩:=EJ;obtain⟨R,W,X,T,F,S,P,a7,z,a9⟩:=H.iE e1 cP (fun c' dH m hm=>hr x (by simp) m (au.D3 s dH hm));have Y:HR B E w ⟨R,G.g⟩ σ1.h σ.used []:=by
        cases o with
        |true=>exact HR.F6 (tk:=[]) (l:=W) (by simpa using S)
        |false=>simpa using S
       rw[<-z] at Y;obtain⟨J1,pas,C,D,I,N,O,L,A,b8,M,J⟩:=HR.kw (as:=as) (vals:=vals) (G:=⟨R,G.g⟩) Y e2 (by simpa using hl)
        (fun j x v a k=>(hc (j+1) x v a k).keep P (fun m hm=>hr x (by simp[so a]) m hm)) (fun x' jW m hm=>by rw[z];exact hr x' (by simp[jW]) m hm)
       refine⟨J1,⟨if ag=true then .agg else .one,W,0,0⟩::pas,by simp[C],by simp[D],fun i d u p hd t f=>?_,fun p f pc r b hb=>?_,?_,fun i p m hi hm=>?_,A,
        cm.trans (fun n hn=>by rw[z];exact hn) P b8,M.trans a7,J.trans z⟩
       ·cases i with
        |zero=>
         simp at hd t f;subst hd t f;cases ag with
         |true=>exact⟨by simp[X],fun pc r=>(F pc r).1,by simp only[if_true] at y⊢;rw[T];exact y⟩
         |false=>exact⟨by simp[X],fun pc r=>(F pc r).1,by simp only[zaH,if_false] at y⊢;rw[T];exact y⟩
        |succ i=>exact I i d u p (by simpa using hd) (by simpa using t) (by simpa using f)
       ·cases f with
        |head=>exact b8.im b ((F pc r).2 b hb)
        |tail _ f=>exact N p f pc r b hb
       ·cases ag<;>simp[qw]<;>exact O
       ·refine L i p m ?_ hm;cases ag<;>simpa[qw] using hi
      ·cases hx
     ·cases hx
    ·cases hx
theorem HR.aoC (H:HR B E w G h used []) {n:Nat} {cs cs':List aj} (hn:h n=some (.box cs)) (J:w.heap.size<=w'.heap.size) (M:∀b,b<w.heap.size->b≠(G.g n).b->w'.heap[b]? =w.heap[b]?) (D:∀b,b<w.heap.size->Cz w w' b) {S:Nat->Prop} (y:∀b,S b->w.heap.size<=b/\b<w'.heap.size/\B<=b) {ps:List PC} (ir:cs'=ps.map fun pc=>aj.c pc.er) (eN:∀(j:Nat) (c:PC),ps[j]? =some c->w'.cell? (ad (G.g n).b ((G.g n).o+j))=some c.val) (Z:∀pc∈ps,Good w' pc/\∀b,bD b pc->G.Im b\/S b): HR B E w' ⟨fun b=>G.Im b\/S b,G.g⟩ (aV h n (some (.box cs'))) used []/\cm w G h (fun n=>used n=true) w' ⟨fun b=>G.Im b\/S b,G.g⟩ (aV h n (some (.box cs'))):=by subst ir;have i:h n≠none:=(by rw[hn];simp);obtain⟨f,Q,j9⟩:=H.box n cs hn;obtain⟨O,U,u⟩:=H.own n i f;have P:=H.lc n i;have X:∀v:List aj,cm w G h (fun n=>used n=true) w' G (aV h n (some (.box v))):=(by intro v;refine⟨fun _ h=>h,fun b hb x=>kx (M b (H.jX b hb) (fun R=>O (R▸hb))) x,fun m hm a=>?_,fun m d sz xs hm a=>?_⟩;by_cases e:m=n;subst e;exact⟨i,rfl,rfl,rfl,rfl,rfl⟩;rw[dJ _ _ _ _ e] at a;exact⟨a,rfl,rfl,rfl,rfl,rfl⟩;by_cases e:m=n;subst e;rw[cX] at a;cases a;rw[dJ _ _ _ _ e] at a;exact⟨⟨d,xs,a⟩,fun k j pc I F=>⟨pc,I,rfl,F⟩⟩);have N:(⟨G.Im,aV G.g n (G.g n)⟩:Gh)=G:=(by rw[NR]);have T:HR B E w' ⟨G.Im,aV G.g n (G.g n)⟩ (aV h n (some (.box []))) used []:=(by refine H.put (fun b hb aJ=>M b hb (aJ f)) J (fun b hb L=>(D b hb).mh L) (fun _ h=>h) P (fun _=>⟨O,U,zaj u J⟩) (fun _ m hm a A=>(H.inj m n a i hm A f)) (fun _ m d sz xs hm a b hb=>H.live m d sz xs a b hb n i f) ?_ (by rw[N];exact X []) ?_ (fun d m sz xs hb=>by cases hb) (fun d sz xs hb=>by cases hb) (fun d m sz xs hb=>by cases hb) ?_;intro v c m hb K hm;injection hb with hb;subst hb;cases K;exact⟨f,(D _ u).mh Q,fun j c hj=>by simp at hj⟩;intro _ _ b hb;obtain⟨m,d,mo,sz,xs,hm,a,C⟩:=hb;exact H.yt i f a C);rw[N] at T;have XC:∀m,aV h n (some (aA.box [])) m≠none->h m≠none:=fun m hm=>(by by_cases e:m=n;subst e;exact i;rwa[dJ _ _ _ _ e] at hm);have p:HR B E w' ⟨fun b=>G.Im b\/S b,G.g⟩ (aV h n (some (.box []))) used []:=T.yR S (fun b hb=>(y b hb).2.1) (fun b hb q l hl R=>by have:=(y b hb).1;have:=(H.own q (XC q l) hl).2.2;omega) (fun b hb q d sz xs l hF=>by by_cases V:q=n;subst V;rw[cX] at l;cases l;rw[dJ _ _ _ _ V] at l;have:=(y b hb).1;have:=H.wb l hF;omega) (fun b hb=>.inl (y b hb).2.2);have z:aV h n (some (aA.box [])) n=some (.box []):=cX _ _ _;have t:aV h n (some (aA.box [])) n≠none:=(by rw[z];simp);have s:aV (aV h n (some (aA.box []))) n (some (.box (ps.map fun pc=>aj.c pc.er)))=aV h n (some (.box (ps.map fun pc=>aj.c pc.er))):=(by funext m;simp only[mR];split<;>rfl);have r:(⟨fun b=>G.Im b\/S b,aV G.g n (G.g n)⟩:Gh)=⟨fun b=>G.Im b\/S b,G.g⟩:=(by rw[NR]);have W:cm w' ⟨fun b=>G.Im b\/S b,G.g⟩ (aV h n (some (aA.box []))) (fun n=>used n=true) w' ⟨fun b=>G.Im b\/S b,G.g⟩ (aV h n (some (.box (ps.map fun pc=>aj.c pc.er)))):=(by refine⟨fun _ h=>h,fun _ _ _=>rfl,fun m hm a=>?_,fun m d sz xs hm a=>?_⟩;refine⟨?_,rfl,rfl,rfl,rfl,rfl⟩;by_cases e:m=n;subst e;exact t;rw[dJ _ _ _ _ e] at a⊢;exact a;by_cases e:m=n;subst e;rw[cX] at a;cases a;rw[dJ _ _ _ _ e] at a;exact⟨⟨d,xs,by rw[dJ _ _ _ _ e];exact a⟩,fun k j pc I F=>⟨pc,I,rfl,F⟩⟩);have Y:HR B E w' ⟨fun b=>G.Im b\/S b,aV G.g n (G.g n)⟩ (aV (aV h n (some (aA.box []))) n (some (.box (ps.map fun pc=>aj.c pc.er)))) used []:=(by refine p.put (w':=w') (fun _ _ _=>rfl) (zad _) (fun _ _ L=>L) (fun _ h=>h) P (fun _=>⟨fun hi=>(p.own n t f).1 hi,U,zaj u J⟩) (fun _ m hm a A=>p.inj m n a t hm A f) (fun _ m d sz xs hm a b hb=>p.live m d sz xs a b hb n t f) ?_ (by rw[r,s];exact W) ?_ (fun d m sz xs hb=>by cases hb) (fun d sz xs hb=>by cases hb) (fun d m sz xs hb=>by cases hb) ?_;intro v c m hb K hm;injection hb with hb;subst hb;obtain⟨pc,_,rfl⟩:=BY.1 K;exact absurd hm id;refine⟨f,(D _ u).mh Q,fun j c hj=>?_⟩;rw[AN] at hj;(cases hp:ps[j]? with|none=>rw[hp] at hj;cases hj|some pc=>rw[hp] at hj;simp at hj;subst hj;obtain⟨g1,g2⟩:=Z pc (so hp);exact⟨pc.val,eN j pc hp,PC.od pc,pc,rfl,rfl,g1,g2⟩);intro _ _ b hb;obtain⟨m,d,mo,sz,xs,hm,a,C⟩:=hb;exact p.yt t f a C);rw[r,s] at Y;have K1:cm w G h (fun n=>used n=true) w' ⟨fun b=>G.Im b\/S b,G.g⟩ (aV h n (some (aA.box []))):=cm.trans (fun _ h=>h) (X []) (cm.yR S _);exact⟨Y,cm.trans (fun _ h=>h) K1 W⟩
theorem ZA {σ1:St} {ns:List Nat} {out:List C} (hx:σ.tN ns out=some σ1):(ns=[]/\out=[]/\σ1=σ)\/∃n cs,ns=[n]/\σ.h n=some (.box cs)/\cs.length=out.length/\σ1=σ.fh n (.box (out.map .c)):=by unfold St.tN at hx;split at hx;injection hx with hx;exact .inl ⟨rfl,rfl,hx.symm⟩;rename_i n;split at hx;rename_i cs hn;split at hx;rename_i hl;injection hx with hx;exact .inr ⟨n,cs,rfl,hn,hl,hx.symm⟩;cases hx;cases hx;cases hx
theorem adi {pas:List PA} {p:PA} (hp:p∈pas) (a:p.k=.ptr):p∈qw pas:=zaV.2 ⟨hp,by simp[a]⟩
theorem adj:∀{pas:List PA},(qw pas).length<=1->∀{i j:Nat} {p q:PA},pas[i]? =some p->pas[j]? =some q->p.k=.ptr->q.k=.ptr->i=j
 |[],_,i,_,_,_,hi,_,_,_=>by simp at hi
 |x::pas,hl,i,j,p,q,hi,hj,hp,hq=>by by_cases hx:x.k=.ptr;have b:(qw pas).length=0:=(by simp[qw,hx] at hl⊢;exact hl);have a:∀y∈pas,y.k≠ .ptr:=fun y hy c=>(by have:=adi hy c;rw[zaK.1 b] at this;cases this);(cases i with|zero=>(cases j with|zero=>rfl|succ j=>exact absurd hq (a q (so (by simpa using hj))))|succ i=>exact absurd hp (a p (so (by simpa using hi))));have d:(qw pas).length<=1:=(by simpa[qw,hx] using hl);cases i with|zero=>simp at hi;subst hi;exact absurd hp hx|succ i=>cases j with|zero=>simp at hj;subst hj;exact absurd hq hx|succ j=>exact congrArg (·+1) (adj d (by simpa using hi) (by simpa using hj) hp hq)
theorem Vz:∀{a:List PA} {d:List (Bool×List aj)},mB (a.map fun p=>(p.k,p.ps.map PC.er))=some d->d=a.map (fun p=>(decide (p.k=.agg),p.ps.map fun pc=>aj.c pc.er))/\∀p∈a,p.k≠ .ptr
 |[],d,h=>by simp only[List.map_nil,mB] at h;injection h with h;exact⟨h.symm,by simp⟩
 |⟨k,ps,b,o⟩::a,d,h=>by cases k with|ptr=>simp[mB] at h|one=>simp only[za5,mB] at h;split at h;rename_i i e;injection h with h;obtain⟨f,g⟩:=Vz e;refine⟨by rw[<-h,f,zaF];rfl,fun p hp=>?_⟩;(cases hp with|head=>simp|tail _ hp=>exact g p hp);cases h|agg=>simp only[za5,mB] at h;split at h;rename_i i e;injection h with h;obtain⟨f,g⟩:=Vz e;refine⟨by rw[<-h,f,zaF];rfl,fun p hp=>?_⟩;(cases hp with|head=>simp|tail _ hp=>exact g p hp);cases h
theorem azh {d:List (Bool×List aj)} {a:List PA} (e:d.length=a.length)
  (g:∀(j:Nat) (x:Bool×List aj) (p:PA),d[j]? =some x->a[j]? =some p->RV w G h x.1 x.2 (FC p)):RA w G h (oM d) (FD a):=by
 match d,a,e with
 |[],[],_=>exact⟨[],rfl,rfl,by simp⟩
 |[(ag,cs)],[p],_=>
  have f:=g 0 (ag,cs) p rfl rfl;cases ag with
  |true=>exact f
  |false=>
   have i:ed w G h cs [FC p]:=f;match cs,i.1 with
   |[c],_=>exact .inr f
 |x::y::d,p::q::a,hl=>
  refine⟨(p::q::a).map FC,rfl,by simpa using hl.symm,fun j x' u hj b=>?_⟩;rw[AN] at b;cases hp:(p::q::a)[j]? with
  |none=>rw[hp] at b;cases b
  |some k=>rw[hp] at b;simp at b;subst b;exact g j x' k hj hp
theorem aqj (r:R B E w0 N σ a w G) {T:bj} (hT:GC P T) {f:FuncId} {as:List au} {vals:List Value} {σ1:St} (hN:∀n,o.dst=some n->n<N)
  (di:(execOp a.eval o).run P w=.ok (.enter f vals.toArray) w) (hl:vals.length=as.length)
  (vz:∀(j:Nat) (x:au) (v:Value),as[j]? =some x->vals[j]? =some v->RA w G σ.h x v) (XD:∀x∈as,∀m,x.ref m->σ.used m=true)
  (hx:rc T o.dst f as σ=some σ1):o.wp P a w (Nx B E w0 N σ1) Q:=by
 unfold rc at hx;split at hx
 ·rename_i ds ns C M hba hM;split at hx
  ·rename_i rs out yz;split at hx
   ·rename_i t ru;obtain⟨Im',pas,b1,b2,b3,b4,b5,b6,z,b8,b9,ra⟩:=r.hr.kw hba hl vz XD;have hns:ns.length<=1:=by
     rcases ZA ru with⟨l,_⟩|⟨n,cs,l,_⟩<;>rw[l]<;>simp
    have lY:∀p∈pas,p.k=.ptr->∃n,ns=[n]/\abH G C.h p n:=by
     intro p hp y;obtain⟨i,hi⟩:=IN (adi hp y);have cu:i<ns.length:=by rw[<-b5];exact(If.1 hi).1
     have hn:ns[i]? =some ns[i]:=AI cu;have h0:i=0:=by omega
     subst h0;refine⟨_,?_,b6 0 p _ hi hn⟩;match ns,cu,hns with
     |[n],_,_=>rfl
    have va:UD w ds vals pas:=by
     refine⟨b2,b1,b3,fun p hp y=>?_,fun i j p q hi hj hp d=>adj (by omega) hi hj hp d⟩;obtain⟨n,_,cs,hn,e1,e2,e3⟩:=lY p hp y;obtain⟨nl,un,_⟩:=z.box n cs hn;have Z:=z.own n (by rw[hn];simp) nl;rw[e1];exact⟨un,fun q d pc s hb=>Z.1 (b4 q d pc s _ hb)⟩
    unfold Oper.wp;rw[di];refine(hT f M hM ds rs out yz w vals pas va).mono fun e w' ⟨K,qs,p1,p2,p3,p4⟩=>?_;subst p2;have L:∀b,GD w pas b->Im' b\/w.heap.size<=b:=fun b hb=>by
     rcases hb with hb|⟨q,d,pc,s,hb⟩
     ·exact .inr hb
     ·exact .inl (b4 q d pc s b hb)
    let S:Nat->Prop:=fun b=>w.heap.size<=b/\((∃p∈K,∃pc∈p.ps,bD b pc)\/∃pc∈qs,bD b pc);have hB:=r.fr.size;have W:∀b,S b->w.heap.size<=b/\b<w'.heap.size/\B<=b:=fun b ⟨l,A⟩=>by
     refine⟨l,?_,zaE hB l⟩;rcases A with⟨p,hp,pc,s,hb⟩|⟨pc,s,hb⟩
     ·exact(p4.hZ p hp pc s).1.lt hb
     ·exact(p4.out pc s).1.lt hb
    have J:∀p∈K,∀pc∈p.ps,Good w' pc/\∀b,bD b pc->Im' b\/S b:=fun p hp pc s=>by
     obtain⟨F,D⟩:=p4.hZ p hp pc s;exact⟨F,fun b hb=>(L b (D b hb)).imp id fun l=>⟨l,.inl ⟨p,hp,pc,s,hb⟩⟩⟩
    have arB:∀pc∈qs,Good w' pc/\∀b,bD b pc->Im' b\/S b:=fun pc s=>by
     obtain⟨F,D⟩:=p4.out pc s;exact⟨F,fun b hb=>(L b (D b hb)).imp id fun l=>⟨l,.inr ⟨pc,s,hb⟩⟩⟩
    have aAQ:HR B E w' ⟨fun b=>Im' b\/S b,G.g⟩ t.h t.used []/\cm w ⟨Im',G.g⟩ C.h (fun n=>C.used n=true) w' ⟨fun b=>Im' b\/S b,G.g⟩ t.h/\t.env=C.env/\t.used=C.used/\Fr B E w0 w':=by
     rcases ZA ru with⟨l,A,U⟩|⟨n,cs,l,A,U,h4⟩
     ·subst U;have dK:∀p∈pas,p.k≠ .ptr:=fun p hp y=>by
       obtain⟨n,e,_⟩:=lY p hp y;rw[l] at e;cases e
      have H:∀b,b<w.heap.size->w'.heap[b]? =w.heap[b]? :=fun b hb=>p4.fr.block b hb (fun⟨p,hp,y,_⟩=>dK p hp y);have Hg:=z.grow H p4.fr.size;refine⟨Hg.yR S (fun b hb=>(W b hb).2.1) (fun b hb q d hl he=>by have:=(W b hb).1;have:=(z.own q d hl).2.2;omega)
       (fun b hb q Y sz xs d hF=>by have:=(W b hb).1;have:=z.wb d hF;omega) (fun b hb=>.inl (W b hb).2.2),
       cm.trans (fun _ h=>h) (cm.world (fun b hb=>H b (z.jX b hb)) _) (cm.yR S _),rfl,rfl,r.fr.grow H p4.fr.size p4.fr.os p4.fr.tape p4.fr.output⟩
     ·subst h4;obtain⟨p,hp,y⟩:∃p∈pas,p.k=.ptr:=by
       have V:(qw pas).length=1:=by rw[b5,l];rfl
       match hc:qw pas,V with
       |[p],_=>
        have hm:p∈qw pas:=by rw[hc];simp
        have:=zaV.1 hm;exact⟨p,this.1,by simpa using this.2⟩
      obtain⟨n',X,cs',cq,e1,e2,e3⟩:=lY p hp y;rw[l] at X;injection X with X;subst X;have PW:∀q∈pas,q.k=.ptr->q=p:=fun q d Xc=>by
       obtain⟨i,hi⟩:=IN d;obtain⟨j,hj⟩:=IN hp;have:=va.one i j q p hi hj Xc y;subst this;rw[hi] at hj;injection hj
      have Z:=z.own n (by rw[A];simp) (z.box n cs A).1;have H:∀b,b<w.heap.size->b≠(G.g n).b->w'.heap[b]? =w.heap[b]? :=fun b hb aJ=>p4.fr.block b hb (fun⟨q,d,Xc,O⟩=>by
       rw[PW q d Xc,e1] at O;exact aJ O)
      have qE:∀b,b<w.heap.size->Cz w w' b:=fun b hb=>p4.fr.mh b hb;obtain⟨Hb,Kb⟩:=z.aoC (cs':=out.map .c) A p4.fr.size H qE W (ps:=qs) (by rw[<-p3,zaF];rfl) (fun j c hj=>by
       have:=p4.at_ p hp y j c hj;rw[e1,e2] at this;exact this) arB
      exact⟨Hb,Kb,rfl,rfl,r.fr.one Z.2.1 H p4.fr.size (qE _ Z.2.2) p4.fr.os p4.fr.tape p4.fr.output⟩
    obtain⟨I,K2,v1,v2,Ac⟩:=aAQ;have K0:cm w G σ.h (fun n=>σ.used n=true) w' ⟨fun b=>Im' b\/S b,G.g⟩ t.h:=cm.trans (fun n hn=>by rw[ra];exact hn) b8 K2;have r2:R B E w0 N t a w' ⟨fun b=>Im' b\/S b,G.g⟩:=r.step (v1.trans b9) (fun m hm=>by rw[v2,ra];exact hm) K0 I Ac;have OY:∀{ls:List (Bool×List aj)},mB rs=some ls->σ1=t.put o.dst (oM ls)->(match(Ending.returned (FD K)) with|.returned v=>Nx B E w0 N σ1 (a.put o.dst v) w'|_=>True):=by
     intro ls Lz hs;subst hs;rw[<-p1] at Lz;obtain⟨rfl,LH⟩:=Vz Lz;refine⟨_,r2.put (azh (by simp) (fun j x p hj hp=>?_)) (fun q d=>?_) hN⟩
     ·rw[AN,hp] at hj;simp at hj;subst hj;have hm:=so hp;have cP:ed w' ⟨fun b=>Im' b\/S b,G.g⟩ t.h (p.ps.map fun pc=>aj.c pc.er) (p.ps.map PC.val):=by
       refine⟨by simp,fun j c u hj hu=>?_⟩;rw[AN] at hj hu;cases nO:p.ps[j]? with
       |none=>rw[nO] at hj;cases hj
       |some pc=>
        rw[nO] at hj hu;simp at hj hu;subst hj hu;obtain⟨F,D⟩:=J p hm pc (so nO);exact⟨PC.od pc,pc,rfl,rfl,F,D⟩
      have Xb:=p4.one p hm;have hk2:=LH p hm;obtain⟨k,ps,b,o'⟩:=p;cases k with
      |ptr=>exact absurd rfl hk2
      |agg=>exact⟨ps.map PC.val,rfl,cP⟩
      |one=>
       have A:=Xb rfl;match ps,A with
       |[p],_=>exact cP
     ·exfalso;refine azq (fun x hx c hc d=>?_) d;obtain⟨p,_,rfl⟩:=BY.1 hx;obtain⟨pc,_,rfl⟩:=BY.1 hc;exact d
    unfold rZ at hx;split at hx
    ·rename_i cs;split at hx
     ·rename_i q d;split at hx
      ·rename_i τ3 ar1;injection hx with hx;subst hx;obtain⟨u1,rfl⟩:=rD ar1;obtain⟨p,rfl⟩:∃p,K=[p]:=by
        have l:K.length=1:=by have:=congrArg zbe p1;simpa using this
        exact zaP.1 l
       simp at p1;obtain⟨y,f9⟩:=p1;obtain⟨_,q1,q2,q3,q4,q5⟩:=p4.ptr p (by simp) y;subst f9;have afK:t9 ⟨fun b=>Im' b\/S b,G.g⟩ t.h p.b:=by
        refine⟨fun hi=>?_,fun m hm hl he=>?_,fun m Y mo sz xs hm hF=>?_⟩
        ·rcases hi with hi|⟨_,hi⟩
         ·have:=z.jX _ hi;omega
         ·rcases hi with⟨p',bM,pc,s,hb⟩|⟨pc,s,hb⟩
          ·simp at bM;subst bM;exact q4 pc s hb
          ·exact q5 pc s hb
        ·have hd:=I.lc m hm;obtain⟨k0,k1,k2,_⟩:=K2.name m (by rw[<-v2];exact hd) hm;have fM:(G.g m).nl=false:=hl;have:=(z.own m k0 fM).2.2;have Ci:(G.g m).b=p.b:=he;have h7:(⟨Im',G.g⟩:Gh).g m=G.g m:=rfl;rw[h7] at this;omega
        ·have hd:=I.lc m (by rw[hm];simp);have gG:∃cd oH ba aH,C.h m=some (.row cd oH ba aH):=by
          rcases ZA ru with⟨l,A,U⟩|⟨n,cs,l,A,U,h4⟩
          ·subst U;exact⟨_,_,_,_,hm⟩
          ·subst h4;by_cases cJ:m=n
           ·subst cJ;have:aV C.h m (some (aA.box (out.map aj.c))) m=_:=hm;rw[cX] at this;cases this
           ·have:aV C.h n (some (aA.box (out.map aj.c))) m=_:=hm;rw[dJ _ _ _ _ cJ] at this;exact⟨_,_,_,_,this⟩
         obtain⟨cd,oH,ba,aH,cG⟩:=gG;have hF':bF p.b (G.g m).px:=hF;have:=z.wb cG hF';omega
       have Hn:HR B E w' ⟨fun b=>Im' b\/S b,aV G.g q ⟨false,p.b,p.o,0,[],none⟩⟩ (aV t.h q (some (.box ((p.ps.map PC.er).map .c)))) (aV t.used q true) []:=by
        refine I.insert (w':=w') u1 (fun _ _=>rfl) (zad _) (fun _=>⟨afK,.inl (zaE hB q1),q2.lt⟩) (fun cs' c m hb dH hm=>?_) ⟨rfl,q2,fun j c hj=>?_⟩ (fun Y m sz xs hb=>by cases hb) (fun Y sz xs hb=>by cases hb) (fun Y m sz xs hb=>by cases hb)
        ·injection hb with hb;subst hb;obtain⟨x,_,rfl⟩:=BY.1 dH;exact absurd hm id
        ·rw[AN,AN] at hj;cases hp:p.ps[j]? with
         |none=>rw[hp] at hj;cases hj
         |some pc=>
          rw[hp] at hj;simp at hj;subst hj;obtain⟨F,D⟩:=J p (by simp) pc (so hp);exact⟨pc.val,q3 j pc hp,PC.od pc,pc,rfl,rfl,F,D⟩
       have r3:=r2.step (σ':={t with h:=aV t.h q (some (.box ((p.ps.map PC.er).map .c))),used:=aV t.used q true}) rfl (fun m hm=>xS q m hm) (cm.insert I u1 (fun _ _=>rfl)) Hn Ac
       have hv:FD [p]=.pointer (some (ad p.b p.o)):=by
        obtain⟨k,ps,b,o'⟩:=p;simp only at y;subst y;rfl
       rw[hv];exact⟨_,r3.put (RA.je (c:=.ptr q 0 0 0) rfl (show aV t.h q _ q≠none->(aV G.g q _ q).nl=false/\_=_ from fun _=>by simp[cX])) (fun m hm=>by have cG:m=q:=hm;subst cG;exact cX _ _ _) hN⟩
      ·cases hx
     ·cases hx
    ·split at hx
     ·rename_i ls Lz;injection hx with hx;exact OY Lz hx.symm
     ·cases hx
   ·cases hx
  ·cases hx
 ·cases hx
theorem adS (r:R B E w0 N σ a w G) {T:bj} (e:GC P T) {f:FuncId} {xs:Array Operand} {ms:List MO} {ts:Array TypeId} {σ1:St} (d:∀n,o.dst=some n->n<N) (j:o.op=.call {callee:=.value (.func f),args:=xs,argTypes:=ts}) (c:bX P f=true) (hm:j8 xs.toList ms=true) (hx:rc T o.dst f (ms.map σ.ev) σ=some σ1):o.wp P a w (Nx B E w0 N σ1) Q:=by obtain⟨l,p⟩:=r.Ek hm;have h:∀x∈ms.map σ.ev,∀m,x.ref m->σ.used m=true:=(by have k:∀{xs:List Operand} {ms:List MO},j8 xs ms=true->∀x∈ms.map σ.ev,∀m,x.ref m->σ.used m=true:=(by intro xs ms;induction ms generalizing xs with|nil=>intro _ x hx;simp at hx|cons m0 ms i=>intro b x hx m hm;cases xs with|nil=>simp[j8] at b|cons y ys=>simp only[j8,co] at b;simp only[za5,zan] at hx;rcases hx with rfl|hx;exact(r.ev b.1).2 m hm;exact i b.2 x hx m hm);exact k hm);refine aqj r e (vals:=xs.toList.map a.eval) d ?_ (by simpa using l) p h hx;have g:(xs.toList.map a.eval).toArray=xs.map a.eval:=(by apply zag;simp);rw[g];simp[execOp,j,resolve,Deferred.ofValue,invoke,Act.eval,IZ c]
end
def GF (P:Program) (f:FuncId) (sig:cR) (M:List Dv->Option (Nat×Nat)):Prop:=
 ∀ds lo len,M ds=some (lo,len)->∀(w:World) (vals:List Value) (pas:List PA),BM w sig ds vals pas->Calls P f vals.toArray w fun e w'=>
  ∃(m:Mode) (sz cap:Nat) (a:Option Addr) (xs:List (List PC)) (v:Value),e7 sig (pas.map (·.ps))=[(m,.list sz a cap xs)]/\e=.returned v/\xs≠[]/\
   (∃(b o:Nat) (a':Option Addr),a=some (ad b o)/\v=.slice a' len (cap - lo)/\lo+len<=cap/\((lo<cap\/lo=0)->a'=some (ad b (o+lo*sz))))/\
   Fr w.heap.size (B6 [(m,.list sz a cap xs)]) w w'/\∃q:PC,q.er=(PC.list sz a cap xs).er/\ua w' m (.list sz a cap xs) q
def DU (P:Program) (f:FuncId) (i:Nat) (M:List Dv->Option (List Dv×List C)):Prop:=
 ∀(lo len:Nat) (ds rs:List Dv) (eV:List C) (ys:List (List C)),M (dI lo::dI (lo+len)::ds)=some (rs,eV)->ds[i]? =some (.one,[.list 1 ys])->∀(w:World) (vals:List Value) (pas:List PA),BM w (oe i) ds vals pas->
  ∀(b o cap n:Nat) (a':Option Addr),vals[i]? =some (.slice (some (ad b o)) n cap)->0<n->lo+len<=n->((lo<cap\/lo=0)->a'=some (ad b (o+lo*1)))->
  Calls P f (vals.set i (.slice a' len (cap - lo))).toArray w (N7 w (oe i) pas rs eV)
def BR (P:Program) (T:bj):Prop:=(∀f sig M,bj.w6 T.ws f=some (sig,M)->GF P f sig M)/\∀f i M,bj.w7 T.xs f=some (i,M)->DU P f i M
section
variable {B N:Nat} {E:Ex} {w0 w w':World} {G G':Gh} {h h':Nat->Option aA} {used used':Nat->Bool} {tk:List PC} {P:Program} {o:Oper} {a:Act} {σ σ':St} {Q:Exit->Act->World->Prop}
theorem aql (r:R B E w0 N σ a w G) {T:bj} (hT:BR P T) {f:FuncId} {as:List au} {vals:List Value} {v0:au} (hN:∀n,o.dst=some n->n<N)
  (di:(execOp a.eval o).run P w=.ok (.enter f vals.toArray) w) (hl:vals.length=as.length)
  (vz:∀(j:Nat) (x:au) (v:Value),as[j]? =some x->vals[j]? =some v->RA w G σ.h x v)
  (hx:ur T f as σ.h=some v0):o.wp P a w (Nx B E w0 N (σ.put o.dst v0)) Q:=by
 have H:=r.hr;unfold ur at hx;split at hx
 ·rename_i sig M fQ hM WQ;split at hx
  ·rename_i n0 aB6;split at hx
   ·rename_i ds n z hv;split at hx
    ·rename_i O;subst O;split at hx
     ·rename_i gr I sz xs lo len d yz;injection hx with hx;subst hx;obtain⟨yF,WE⟩:=YT WQ hl vz;obtain⟨pas,q1,q2,q3,q4,U,q6,q7⟩:=H.qc hv yF WE;have yH:([((eK.row n:eK),z)].filterMap (·.1.fV)).Nodup:=by simp[eK.fV]
      generalize yD:e7 sig (pas.map (·.ps))=fl at U;obtain⟨x,rfl⟩:∃x,fl=[x]:=by
       match fl,U.len with
       |[x],_=>exact⟨x,rfl⟩
      obtain⟨PK,Ck⟩:=U.at_ 0 _ x rfl rfl;have eN:=Ck.at_;obtain⟨cd,oH,ba,aH,L,e2,e3,J,e5⟩:=eN;rw[d] at L;injection L with L;injection L with a1 a2 a3 a4;subst a1 a2 a3 a4;have cC:σ.h n≠none:=by rw[d];simp
      have hr:=H.row n gr I sz xs d;have W:∀b,bD b x.2->xd G n b/\((∀b,¬bF b (G.g n).px)\/I=.live):=by
       intro b hb;obtain⟨X,cd,m',ba,aH,Y,m,f3,F,t⟩:=Ck.rj H hb;have:X=n:=by injection Y with Y;exact Y.symm
       subst this;rw[d] at m;injection m with m;injection m with _ m _ _;subst m;exact⟨F,t⟩
      have YW:BM w sig ds vals pas:=by
       refine⟨q2,q1,q3,fun y hy=>?_,?_,fun pc ci y hy b hb bn=>?_,fun p hp c=>absurd c (q4 p hp),fun i p s hp _ c=>absurd c (q4 p (so hp))⟩
       ·rw[yD,zau] at hy;subst hy;exact Ck.ok
       ·rw[yD];simp
       ·rw[yD,zau] at hy;subst hy;obtain⟨F,t⟩:=W b bn;rcases q7 pc ci b hb with hi|⟨X,cd,m',ba,aH,cq,re,zV⟩
        ·rcases F with⟨u,rfl⟩|C
         ·exact(H.own n cC u).1 hi
         ·rcases t with t|rfl
          ·exact t b C
          ·exact(hr.mode.1 b C).1 hi
        ·have aJ:X≠n:=fun e=>cq (by rw[e];simp);exact H.K8 aJ re d t zV F
      unfold Oper.wp;rw[di];refine(hT.1 f sig M hM ds lo len yz w vals pas YW).mono fun e w' ⟨m1,tV,uh,V,wF,v,p1,p2,p3,⟨lb,lo1,la,l1,l2,l3,l4⟩,p4,q,p5,D⟩=>?_;subst p2;rw[yD] at p1;injection p1 with p1 _;subst p1;dsimp only at J;have vD:∀b,B6 [(m1,PC.list tV V uh wF)] b->(B<=b\/E b):=by
       rintro b ⟨y,hy,hb⟩;rw[zau] at hy;subst hy;rcases(W b hb).1 with⟨u,rfl⟩|C
       ·exact(H.own n cC u).2.1
       ·have iK:=hr.mode;cases I with
        |aQ=>exact absurd rfl e2
        |aS=>exact(iK.1 b C).2.2
        |live=>exact(iK.1 b C).2.2
      have A:(yy G [((eK.row n:eK),z)] [q]).g n=C0 (G.g n) (.row n) q:=aft yH (i:=0) (it:=(.row n,z)) rfl rfl rfl;have Z:q.er=.list sz xs:=by rw[p5,J];exact akp hr
      have p6':=D;rw[J] at D;obtain⟨zF,K,_⟩:=H.QP (G':=yy G [((eK.row n:eK),z)] [q]) (h':=σ.h) (w':=w') (S:=fun k=>k=n) p4.size (fun b hb dK=>p4.block b hb (by
        rintro⟨y,hy,tj⟩;rw[zau] at hy;subst hy;exact dK n rfl (W b tj).1)) (fun b hb=>p4.mh b hb) rfl (fun k c=>by
        subst c;exact⟨gr,I,sz,xs,xs,d,d,by rw[A];exact acL H d e2 e3 e5.1 e5.2 D Z⟩)
       (fun k c=>⟨rfl,afu (by simp[eK.fV];exact c)⟩)
      have Ac:Fr B E w0 w':=by
       refine⟨p4.os.trans r.fr.os,p4.tape.trans r.fr.tape,p4.output.trans r.fr.output,zaE r.fr.size p4.size,fun b hb O=>?_,fun b hb=>?_⟩
       ·refine(p4.block b (zaj hb r.fr.size) fun hx=>?_).trans (r.fr.block b hb O);rcases vD b hx with h1|h1
        ·omega
        ·exact O h1
       ·exact(r.fr.mh b hb).trans (p4.mh b (zaj hb r.fr.size))
      have r2:R B E w0 N σ a w' (yy G [((eK.row n:eK),z)] [q]):=r.step rfl (fun _ h=>h) K zF Ac;refine⟨_,r2.put (RA.je ?_ ?_) (fun k c=>?_) hN⟩
      ·rw[l2];rfl
      ·show σ.h n≠none->kY _ sz lo len v;intro _;have hq:PC.list tV V uh wF=sP sz (G.g n):=J;unfold sP at hq;injection hq with g1 l g3 g4;subst g1 g3 g4;have u:(G.g n).nl=false:=by
        cases h0:(G.g n).nl with
        |false=>rfl
        |true=>exact absurd (hr.nl h0).1 p3
       rw[u] at l;have l:V=some (ad (G.g n).b (G.g n).o):=l;rw[l1] at l;injection l with l;obtain⟨rfl,rfl⟩:=q9 l;obtain⟨qf,ad2,Oz,px2,rfl⟩:=PC.YK D.val rfl;rw[A];exact .inr ⟨u,la,l2,l3,l4⟩
      ·have dC:k=n:=c;subst dC;exact r.hr.lc k cC
     ·cases hx
    ·cases hx
   ·cases hx
  ·cases hx
 ·cases hx
theorem aqe (r:R B E w0 N σ a w G) {T:bj} (g:BR P T) {f:FuncId} {xs:Array Operand} {ms:List MO} {ts:Array TypeId} {b:au} (k:∀n,o.dst=some n->n<N) (i:o.op=.call {callee:=.value (.func f),args:=xs,argTypes:=ts}) (e:bX P f=true) (hm:j8 xs.toList ms=true) (hx:ur T f (ms.map σ.ev) σ.h=some b):o.wp P a w (Nx B E w0 N (σ.put o.dst b)) Q:=by obtain⟨j,d⟩:=r.Ek hm;refine aql r g (vals:=xs.toList.map a.eval) k ?_ (by simpa using j) d hx;have c:(xs.toList.map a.eval).toArray=xs.map a.eval:=(by apply zag;simp);rw[c];simp[execOp,i,resolve,Deferred.ofValue,invoke,Act.eval,IZ e]
theorem aBO {h:Nat->Option aA} {x:au} {n lo len N:Nat} (hx:Jy h x=some (n,lo,len,N)):x=.one (.sl n 1 lo len)/\∃b m xs,h n=some (.row b m 1 xs)/\N=xs.length/\lo<N/\lo+len<=N:=by unfold Jy at hx;split at hx;rename_i n' s QC Mt;split at hx;rename_i b m rs xs hn;split at hx;rename_i f;obtain⟨rfl,rfl,e,d⟩:=f;injection hx with hx;injection hx with g c;injection c with c a;injection a with a e4;subst g c a e4;exact⟨rfl,b,m,xs,hn,rfl,e,d⟩;cases hx;cases hx;cases hx
theorem aqm (r:R B E w0 N σ a w G) {T:bj} (K:BR P T) {m:Mode} {f:FuncId} {as:List au} {vals:List Value} {σ1:St} (F:∀n,o.dst=some n->n<N) (O:(execOp a.eval o).run P w=.ok (.enter f vals.toArray) w) (hl:vals.length=as.length) (s:∀(j:Nat) (x:au) (v:Value),as[j]? =some x->vals[j]? =some v->RA w G σ.h x v) (hx:zT T m o.dst f as σ=some σ1):o.wp P a w (Nx B E w0 N σ1) Q:=by have H:=r.hr;unfold zT at hx;split at hx;rename_i i M J;split at hx;rename_i x hi;split at hx;rename_i n lo len L Z;obtain⟨rfl,U,S,xs,hn,rfl,m8,X⟩:=aBO Z;have C:i<as.length:=(If.1 hi).1;have d:i<vals.length:=(by omega);have hv:vals[i]? =some vals[i]:=AI d;have I:=s i _ _ hi hv;have D:kY (G.g n) 1 lo len vals[i]:=(I.jp (by simp)).1 (by rw[hn];simp);have hr:=H.row n U S 1 xs hn;have u:(G.g n).px.length=xs.length:=(by rw[hr.er];simp);have l:(G.g n).nl=false:=(by cases k:(G.g n).nl with|false=>rfl|true=>have:=(hr.nl k).1;rw[this] at u;simp at u;omega);obtain⟨l1,l2,l3⟩:=hr.f6 l;rcases D with⟨k,_⟩|⟨_,ya,p,lV,A⟩;rw[l] at k;cases k;refine adU r (as:=as.set i (.one (.sl n 1 0 xs.length))) (vals:=vals.set i (.slice (some (ad (G.g n).b (G.g n).o)) xs.length (G.g n).cap)) (vals':=vals) (fun sig Y t ds z W h pas hm=>?_) F O (by simp[hl]) (fun j x v hj c=>?_) hx;have HD:(oe i,xM i lo (lo+len) M)=(sig,Y):=(by simp only[bj.th,if_true] at t;injection t);injection HD with V q2;subst V q2;unfold xM at h;split at h;rename_i ys y;have:=K.2 f i M J lo len ds z W ys h y w _ pas hm (G.g n).b (G.g n).o (G.g n).cap xs.length ya (by rw[Pe d]) (by omega) X A;have e:(vals.set i (.slice (some (ad (G.g n).b (G.g n).o)) xs.length (G.g n).cap)).set i (.slice ya len ((G.g n).cap - lo))=vals:=(by rw[List.set_set,<-p];exact List.set_getElem_self d);rw[e] at this;exact this;cases h;by_cases q:j=i;subst q;rw[Pe C] at hj;rw[Pe d] at c;injection hj with hj;injection c with c;subst hj c;refine RA.je rfl (fun _=>.inr ⟨l,_,rfl,by omega,fun _=>by simp⟩);rw[zap (fun h=>q h.symm)] at hj c;exact s j x v hj c;cases hx;cases hx;cases hx
theorem aqf (r:R B E w0 N σ a w G) {T:bj} (e:BR P T) {m:Mode} {f:FuncId} {xs:Array Operand} {ms:List MO} {ts:Array TypeId} {σ1:St} (i:∀n,o.dst=some n->n<N) (g:o.op=.call {callee:=.value (.func f),args:=xs,argTypes:=ts}) (d:bX P f=true) (hm:j8 xs.toList ms=true) (hx:zT T m o.dst f (ms.map σ.ev) σ=some σ1):o.wp P a w (Nx B E w0 N σ1) Q:=by obtain⟨h,c⟩:=r.Ek hm;refine aqm r e (vals:=xs.toList.map a.eval) i ?_ (by simpa using h) c hx;have b:(xs.toList.map a.eval).toArray=xs.map a.eval:=(by apply zag;simp);rw[b];simp[execOp,g,resolve,Deferred.ofValue,invoke,Act.eval,IZ d]
end
def GZ:Option Operand->Option MO->Bool
 |none,none=>true
 |some x,some m=>c8 x m
 |_,_=>false
def yg (P:Program) (t:TypeId) (sz:Nat) (k:TypeInfo->Value->Bool):Bool:=
 match P.underlying t with
 |some (.slice e)=>match P.info? e with
  |some i=>match i.zero with
   |some z=>i.size==sz&&decide (0<sz)&&k i z
   |none=>false
  |none=>false
 |_=>false
theorem BW {P:Program} {t:TypeId} {sz:Nat} {k:TypeInfo->Value->Bool} (h:yg P t sz k=true): ∃e i z,P.underlying t=some (.slice e)/\P.info? e=some i/\i.zero=some z/\i.size=sz/\0<sz/\k i z=true:=by unfold yg at h;split at h;rename_i e a;split at h;rename_i i hi;split at h;rename_i z b;simp only[co,beq_iff_eq,decide_eq_true_eq] at h;exact⟨e,i,z,a,hi,b,h.1.1,h.1.2,h.2⟩;cases h;cases h;cases h
def ON (P:Program) (t:TypeId) (zs:List aj):Bool:=
 match P.info? t with
 |some i=>match i.zero with
  |some z=>yf z.cells.toList zs
  |none=>false
 |none=>false
theorem acR {P:Program} {t:TypeId} {a:List aj} (h:ON P t a=true):∃i z,P.info? t=some i/\i.zero=some z/\yf z.cells.toList a=true:=by unfold ON at h;split at h;rename_i i hi;split at h;rename_i z b;exact⟨i,z,hi,b,h⟩;cases h;cases h
def acM (P:Program) (t:TypeId) (parts:List (Nat×Operand)) (zs:List aj) (ms:List (Nat×Nat×MO)):Bool:=
 match P.underlying t with
 |some (.struct B8)=>match B8.toList.mapM (fun f=>(P.info? f.type).map fun i=>(f.offset,i.size)) with
  |some places=>ON P t zs&&D5 places parts ms
  |none=>false
 |_=>false
def Vh (P:Program) (t:TypeId) (len:Nat):Bool:=
 match P.underlying t with
 |some (.array l e)=>match P.info? e with
  |some i=>i.size==1&&l==len
  |none=>false
 |_=>false
theorem aoM {P:Program} {t:TypeId} {len:Nat} (h:Vh P t len=true):∃e i,P.underlying t=some (.array len e)/\P.info? e=some i/\i.size=1:=by unfold Vh at h;split at h;rename_i l e a;split at h;rename_i i hi;simp only[co,beq_iff_eq] at h;exact⟨e,i,by rw[a,h.2],hi,h.1⟩;cases h;cases h
def acQ (P:Program) (t:TypeId) (sz:Nat):Bool:=
 match P.info? t with
 |some i=>i.size==sz&&decide (0<sz)
 |none=>false
def acO (P:Program) (t u:TypeId) (k:IntKind):Bool:=
 match P.underlying t,P.underlying u with
 |some _,some (.int k')=>k==k'
 |_,_=>false
def hH (P:Program) (o:Oper) (mo:bo):Bool:=
 match mo,o.op with
 |.mv m,.move x=>c8 x m
 |.mv m,.assign x=>c8 x m
 |.pick c x y,.pick c' x' y'=>c8 c' c&&c8 x' x&&c8 y' y
 |.alloc zs,.alloc e=>ON P e zs
 |.box sz m,.box e x=>c8 x m
 |.build zs ms,.build t parts=>acM P t parts.toList zs ms
 |.f8 sz ms,.buildSlice t len parts=>yg P t sz (fun _ _=>true)&&(ms.length==len)&&decide (parts.toList.map (·.1)=zaw len)&&decide (len*sz<=16777216)&&j8 (parts.toList.map (·.2)) ms
 |.zM sz ms,.buildSlice t len parts=>yg P t sz (fun _ _=>true)&&(ms.length==len)&&decide (parts.toList.map (·.1)=zaw len)&&decide (len*sz<=16777216)&&j8 (parts.toList.map (·.2)) ms
 |.load ag sz m,.load t x=>c8 x m&&GY P t ag sz
 |.store sz mx my,.store t x y=>o.dst.isNone&&c8 x mx&&c8 y my&&acQ P t sz
 |.gS m,.nilCheck x=>c8 x m
 |.bin op mx my,.binOp MN t x y t'=>decide (op=MN)&&c8 x mx&&c8 y my
 |.un op mx,.unOp MN t x=>decide (op=MN)&&c8 x mx
 |.conv k mx,.convert t u x=>c8 x mx&&acO P t u k
 |.jP m sz dW zs ml mc,.makeSlice t l c=>c8 l ml&&c8 c mc&&yg P t sz (fun i z=>(i.bytes==dW)&&decide (0<dW)&&zQ z.cells.toList zs)
 |.slice sz mx QO QH,.slice t x lo hi none=>c8 x mx&&GZ lo QO&&GZ hi QH&&yg P t sz (fun _ _=>true)
 |.ri off mx,.fieldAddr s x f=>c8 x mx&&OK P s f off
 |.qL sz mx mi,.indexAddr t x i=>c8 x mx&&c8 i mi&&yg P t sz (fun _ _=>true)
 |.oF len mx mi,.indexAddr t x i=>c8 x mx&&c8 i mi&&Vh P t len
 |.ext i mx,.extract x j=>(i==j)&&c8 x mx
 |.len mx,.call c=>match c.callee,c.args.toList,c.argTypes.toList with
  |.builtin .len,[x],[t]=>c8 x mx&&(match P.underlying t with|some (.slice _)=>true|_=>false)
  |_,_,_=>false
 |.append fl sz dW mx my,.call c=>match c.callee,c.args.toList,c.argTypes.toList with
  |.builtin .append,[x,y],[t,t']=>(t==t')&&c8 x mx&&c8 y my&&yg P t sz (fun i z=>(i.bytes==dW)&&decide (0<dW)&&(z.cells.size==sz))
  |_,_,_=>false
 |.copy sz mx my,.call c=>match c.callee,c.args.toList,c.argTypes.toList with
  |.builtin .copy,[x,y],[t,t']=>(sz==1)&&c8 x mx&&c8 y my&&yg P t 1 (fun _ _=>true)
  |_,_,_=>false
 |.oW zc mx,.call c=>match c.callee,c.args.toList,c.argTypes.toList with
  |.builtin .clear,[x],[t]=>c8 x mx&&yg P t 1 (fun _ z=>zQ z.cells.toList [zc])
  |_,_,_=>false
 |.mm b mx my,.call c=>match c.callee,c.args.toList with
  |.builtin .max,[x,y]=>b&&c8 x mx&&c8 y my
  |.builtin .min,[x,y]=> !b&&c8 x mx&&c8 y my
  |_,_=>false
 |.call m f ms,.call c=>match c.callee with
  |.value (.func g)=>(f==g)&&bX P f&&j8 c.args.toList ms
  |_=>false
 |.oU m f ms,.call c=>match c.callee with
  |.value (.func g)=>(f==g)&&bX P f&&j8 c.args.toList ms
  |_=>false
 |.lN f ms,.call c=>match c.callee with
  |.value (.func g)=>(f==g)&&bX P f&&j8 c.args.toList ms
  |_=>false
 |.pL f ms,.call c=>match c.callee with
  |.value (.func g)=>(f==g)&&bX P f&&j8 c.args.toList ms
  |_=>false
 |.oV f ms,.call c=>match c.callee with
  |.value (.func g)=>(f==g)&&bX P f&&j8 c.args.toList ms
  |_=>false
 |.ox m f ms,.call c=>match c.callee with
  |.value (.func g)=>(f==g)&&bX P f&&j8 c.args.toList ms
  |_=>false
 |.tJ f ms,.makeFunc (.func g) first xs=>(f==g)&&first.isEmpty&&bX P f&&j8 xs.toList ms
 |.pK m mx ms,.call c=>match c.callee with
  |.value (.tmp t)=>c8 (.tmp t) mx&&j8 c.args.toList ms
  |_=>false
 |_,_=>false
theorem OL:∀{xs:List Operand} {ms:List MO},j8 xs ms=true->xs.length=ms.length/\∀(j:Nat) (x:Operand) (m:MO),xs[j]? =some x->ms[j]? =some m->c8 x m=true
 |[],[],_=>⟨rfl,by simp⟩
 |x::xs,m::ms,hc=>by simp only[j8,co] at hc;obtain⟨i1,i2⟩:=OL hc.2;refine⟨by simp[i1],fun j x' a hj hm=>?_⟩;cases j with|zero=>simp at hj hm;subst hj;subst hm;exact hc.1|succ j=>exact i2 j x' a (by simpa using hj) (by simpa using hm)
 |[],_::_,hc=>by simp[j8] at hc
 |_::_,[],hc=>by simp[j8] at hc
section
variable {B N:Nat} {E:Ex} {w0 w w':World} {G G':Gh} {h h':Nat->Option aA} {used used':Nat->Bool} {tk:List PC} {P:Program} {o:Oper} {a:Act} {σ σ':St} {Q:Exit->Act->World->Prop}
theorem aqv (r:R B E w0 N σ a w G) {T:bj} (k:GC P T) {f:FuncId} {ms:List MO} (e:∀n,o.dst=some n->n<N) (b:hH P o (.oV f ms)=true) (hx:exec T o.dst (.oV f ms) σ=some σ'):o.wp P a w (Nx B E w0 N σ') Q:=by obtain⟨dst,op,ty,pos,after,guard⟩:=o;(cases op<;>simp only[hH] at b<;>first|cases b|skip);rename_i c;obtain⟨callee,args,argTypes⟩:=c;split at b;rename_i g d;simp only at d;subst d;simp only[co,beq_iff_eq] at b;obtain⟨⟨rfl,j⟩,i⟩:=b;simp only[exec] at hx;split at hx;rename_i v0 h;injection hx with hx;subst hx;exact adS r k e rfl j i (apP h σ);cases hx;cases b
theorem aqw (r:R B E w0 N σ a w G) {T:bj} (k:BR P T) {f:FuncId} {ms:List MO} (e:∀n,o.dst=some n->n<N) (b:hH P o (.pL f ms)=true) (hx:exec T o.dst (.pL f ms) σ=some σ'):o.wp P a w (Nx B E w0 N σ') Q:=by obtain⟨dst,op,ty,pos,after,guard⟩:=o;(cases op<;>simp only[hH] at b<;>first|cases b|skip);rename_i c;obtain⟨callee,args,argTypes⟩:=c;split at b;rename_i g d;simp only at d;subst d;simp only[co,beq_iff_eq] at b;obtain⟨⟨rfl,j⟩,i⟩:=b;simp only[exec] at hx;split at hx;rename_i v0 h;injection hx with hx;subst hx;exact aqe r k e rfl j i h;cases hx;cases b
theorem aqx (r:R B E w0 N σ a w G) {T:bj} (j:BR P T) {m:Mode} {f:FuncId} {ms:List MO} (e:∀n,o.dst=some n->n<N) (b:hH P o (.ox m f ms)=true) (hx:exec T o.dst (.ox m f ms) σ=some σ'):o.wp P a w (Nx B E w0 N σ') Q:=by obtain⟨dst,op,ty,pos,after,guard⟩:=o;(cases op<;>simp only[hH] at b<;>first|cases b|skip);rename_i c;obtain⟨callee,args,argTypes⟩:=c;split at b;rename_i g d;simp only at d;subst d;simp only[co,beq_iff_eq] at b;obtain⟨⟨rfl,i⟩,h⟩:=b;simp only[exec] at hx;exact aqf r j e rfl i h hx;cases b
theorem aqu (r:R B E w0 N σ a w G) {T:bj} (j:GC P T) {f:FuncId} {ms:List MO} (e:∀n,o.dst=some n->n<N) (b:hH P o (.lN f ms)=true) (hx:exec T o.dst (.lN f ms) σ=some σ'):o.wp P a w (Nx B E w0 N σ') Q:=by obtain⟨dst,op,ty,pos,after,guard⟩:=o;(cases op<;>simp only[hH] at b<;>first|cases b|skip);rename_i c;obtain⟨callee,args,argTypes⟩:=c;split at b;rename_i g d;simp only at d;subst d;simp only[co,beq_iff_eq] at b;obtain⟨⟨rfl,i⟩,h⟩:=b;simp only[exec] at hx;exact adS r j e rfl i h hx;cases b
set_option maxHeartbeats 1000000 in
theorem adX (r:R B E w0 N σ a w G) {T:bj} (hT:Ka P T) (hTM:Oc P T) (HE:GC P T) (HG:BR P T) (hF:∀f M,bj.find T.pure f=some M->bX P f=true) {mo:bo} (F:∀n,o.dst=some n->n<N) (u:hH P o mo=true) (hx:exec T o.dst mo σ=some σ'):
  o.wp P a w (Nx B E w0 N σ') Q:=by
 obtain⟨dst,op,ty,pos,W,guard⟩:=o;cases mo with
 |mv m=>
  simp only[exec] at hx;injection hx with hx;subst hx;cases op<;>simp only[hH] at u<;>first|cases u|skip
  ·exact adW r (.inl rfl) F u
  ·exact adW r (.inr rfl) F u
 |pick c x y=>
  cases op<;>simp only[hH] at u<;>first|cases u|skip
  rename_i c' x' y';simp only[co] at u;simp only[exec] at hx;split at hx
  ·rename_i b hb;have:=aqy (P:=P) (Q:=Q) r (o:=⟨dst,.pick c' x' y',ty,pos,W,guard⟩) rfl F u.1.1 u.1.2 u.2 hb;cases b<;>simp at hx<;>subst hx<;>exact this
  ·cases hx
 |alloc zs=>
  cases op<;>simp only[hH] at u<;>first|cases u|skip
  obtain⟨i,z,J,I,V⟩:=acR u;simp only[exec] at hx;split at hx
  ·rename_i n;split at hx
   ·rename_i σ1 hi;injection hx with hx;subst hx;exact ap5 r rfl rfl (F n rfl) J I V hi
   ·cases hx
  ·cases hx
 |box sz m=>
  cases op<;>simp only[hH] at u<;>first|cases u|skip
  simp only[exec] at hx;split at hx
  ·rename_i n ag cs f9;split at hx
   ·split at hx
    ·rename_i σ1 hi;injection hx with hx;subst hx;exact ap8 r rfl rfl (F _ rfl) u f9 hi
    ·cases hx
   ·cases hx
  ·cases hx
 |build zs ms=>
  cases op<;>simp only[hH] at u<;>first|cases u|skip
  simp only[exec] at hx;split at hx
  ·rename_i cs f9;injection hx with hx;subst hx;unfold acM at u;split at u
   ·rename_i B8 hu;split at u
    ·rename_i places jU;simp only[co] at u;obtain⟨i,z,J,I,V⟩:=acR u.1;exact ap9 r rfl F J I hu jU V u.2 f9
    ·cases u
   ·cases u
  ·cases hx
 |f8 sz ms=>
  cases op<;>simp only[hH] at u<;>first|cases u|skip
  simp only[co,beq_iff_eq,decide_eq_true_eq] at u;obtain⟨⟨⟨⟨C,D⟩,H⟩,c4⟩,c5⟩:=u;obtain⟨e,i,z,J,I,V,L,X,_⟩:=BW C;simp only[exec] at hx;split at hx
  ·rename_i n es ow σ1 qG;split at hx
   ·rename_i σ2 hi;injection hx with hx;subst hx;refine adR r rfl rfl (F _ rfl) J I V L X D H c4 (fun j p m hp hm=>?_) qG hi;exact(OL c5).2 j p.2 m (by simp[hp]) hm
   ·cases hx
  ·cases hx
 |zM sz ms=>
  cases op<;>simp only[hH] at u<;>first|cases u|skip
  simp only[co,beq_iff_eq,decide_eq_true_eq] at u;obtain⟨⟨⟨⟨C,D⟩,H⟩,c4⟩,c5⟩:=u;obtain⟨e,i,z,J,I,V,L,X,_⟩:=BW C;simp only[exec] at hx;split at hx
  ·rename_i n es qG;split at hx
   ·rename_i σ2 hi;injection hx with hx;subst hx;refine adR r rfl rfl (F _ rfl) J I V L X D H c4 (fun j p m hp hm=>?_) (ajH _ qG) hi;exact(OL c5).2 j p.2 m (by simp[hp]) hm
   ·cases hx
  ·cases hx
 |load ag sz m=>
  cases op<;>simp only[hH] at u<;>first|cases u|skip
  simp only[co] at u;simp only[exec] at hx;split at hx
  ·rename_i p hp;split at hx
   ·rename_i cs f9;injection hx with hx;subst hx;exact aqq r rfl F u.1 u.2 hp f9
   ·cases hx
  ·cases hx
 |store sz mx my=>
  cases op<;>simp only[hH] at u<;>first|cases u|skip
  simp only[co] at u;obtain⟨⟨⟨c0,C⟩,D⟩,H⟩:=u;have hd:dst=none:=by simpa using c0
  unfold acQ at H;split at H
  ·rename_i i hi;simp only[co,beq_iff_eq,decide_eq_true_eq] at H;simp only[exec] at hx;split at hx
   ·rename_i n k aO off ag vs hp hv;split at hx
    ·rename_i hl;split at hx
     ·rename_i cs hn;split at hx
      ·rename_i hk;injection hx with hx;subst hx;exact aqz r rfl hd C D hi H.1 H.2 hp hv hl hn hk.1 hk.2
      ·cases hx
     ·rename_i gr m rs xs hn;split at hx
      ·rename_i xo;subst xo;split at hx
       ·rename_i el lg;exact aqB r rfl hd C D hi H.1 H.2 hp hv hl hn lg hx
       ·cases hx
      ·cases hx
     ·cases hx
    ·cases hx
   ·rename_i n k aO off s i ag vs hp hv;split at hx
    ·rename_i hl;split at hx
     ·rename_i gr rs xs hn;split at hx
      ·rename_i xo;subst xo;split at hx
       ·rename_i aH lk;injection hx with hx;subst hx;exact aqA r rfl hd C D hi H.1 H.2 hp hv hl hn rfl lk
       ·cases hx
      ·cases hx
     ·cases hx
    ·cases hx
   ·cases hx
  ·cases H
 |gS m=>
  cases op<;>simp only[hH] at u<;>first|cases u|skip
  simp only[exec] at hx;split at hx
  ·rename_i n k sz off hp;split at hx
   ·rename_i hn;injection hx with hx;subst hx;rw[<-hp];exact VN r rfl F u (.inl ⟨_,_,_,_,hp,hn⟩)
   ·cases hx
  ·rename_i xs off hp;injection hx with hx;subst hx;rw[<-hp];exact VN r rfl F u (.inr (.inl ⟨_,_,hp⟩))
  ·rename_i xs off j n s len hp;injection hx with hx;subst hx;rw[<-hp];exact VN r rfl F u (.inr (.inr ⟨_,_,_,_,_,_,hp⟩))
  ·cases hx
 |bin MN mx my=>
  cases op<;>simp only[hH] at u<;>first|cases u|skip
  simp only[co,decide_eq_true_eq] at u;obtain⟨⟨rfl,C⟩,D⟩:=u;simp only[exec] at hx;split at hx
  ·rename_i c hb;injection hx with hx;subst hx;exact ap7 r rfl F C D hb
  ·cases hx
 |un MN mx=>
  cases op<;>simp only[hH] at u<;>first|cases u|skip
  simp only[co,decide_eq_true_eq] at u;obtain⟨rfl,C⟩:=u;simp only[exec] at hx;split at hx
  ·rename_i c hb;injection hx with hx;subst hx;exact aqC r rfl F C hb
  ·cases hx
 |conv k mx=>
  cases op<;>simp only[hH] at u<;>first|cases u|skip
  simp only[co] at u;obtain⟨C,D⟩:=u;unfold acO at D;split at D
  ·rename_i d k' Z hu;have hk:k=k':=by simpa using D
   subst hk;simp only[exec] at hx;split at hx
   ·rename_i U n hb;injection hx with hx;subst hx;exact aqh r rfl F C Z hu hb
   ·cases hx
  ·cases D
 |jP m sz dW zs ml mc=>
  cases op<;>simp only[hH] at u<;>first|cases u|skip
  simp only[co] at u;obtain⟨⟨C,D⟩,H⟩:=u;obtain⟨e,i,z,J,I,V,L,X,h6⟩:=BW H;simp only[co,beq_iff_eq,decide_eq_true_eq] at h6;simp only[exec] at hx;split at hx
  ·rename_i n q q' hq ig;split at hx
   ·rename_i S;obtain⟨O,U,Y,k4⟩:=S;split at hx
    ·rename_i σ1 hi;injection hx with hx;subst hx;exact aqs r rfl rfl (F _ rfl) C D J I V L h6.1.1 h6.1.2 X h6.2 hq ig O U Y k4 hi
    ·cases hx
   ·cases hx
  ·cases hx
 |slice sz mx QO QH=>
  cases op<;>simp only[hH] at u<;>first|cases u|skip
  rename_i t x lo hi mm;cases mm<;>simp only[hH] at u<;>first|cases u|skip
  simp only[co] at u;obtain⟨⟨⟨C,D⟩,H⟩,c4⟩:=u;obtain⟨e,i,z,J,I,V,L,X,_⟩:=BW c4;have m8:∀l,(match QO with|none=>some 0|some l=>(σ.ev l).fw)=some l->(lo=none/\l=0)\/∃y my,lo=some y/\c8 y my=true/\(σ.ev my).fw=some l:=by
   intro l hl;cases QO with
   |none=>cases lo<;>simp[GZ] at D;simp at hl;exact .inl ⟨rfl,hl.symm⟩
   |some my=>cases lo<;>simp[GZ] at D;exact .inr ⟨_,my,rfl,D,hl⟩
  have Af:∀(len:Nat) hh,(match QH with|none=>some (len:Int)|some h=>(σ.ev h).fw)=some hh->(hi=none/\hh=len)\/∃y my,hi=some y/\c8 y my=true/\(σ.ev my).fw=some hh:=by
   intro len l hl;cases QH with
   |none=>cases hi<;>simp[GZ] at H;simp at hl;exact .inl ⟨rfl,hl.symm⟩
   |some my=>cases hi<;>simp[GZ] at H;exact .inr ⟨_,my,rfl,H,hl⟩
  simp only[exec] at hx;split at hx
  ·rename_i n s l0 len l hp hl;split at hx
   ·rename_i hh W4;split at hx
    ·rename_i S;obtain⟨rfl,O,U,Y,k4⟩:=S;injection hx with hx;subst hx;exact adY r rfl F C J I L X (m8 l hl) (Af len hh W4) O U Y (.inl ⟨n,l0,hp,k4,rfl⟩)
    ·cases hx
   ·cases hx
  ·rename_i s xs l hp hl;split at hx
   ·rename_i hh W4;split at hx
    ·rename_i S;obtain⟨rfl,O,U,Y⟩:=S;injection hx with hx;subst hx;exact adY r rfl F C J I L X (m8 l hl) (Af xs.length hh W4) O U Y (.inr ⟨xs,hp,rfl,rfl⟩)
    ·cases hx
   ·cases hx
  ·cases hx
 |ri off mx=>
  cases op<;>simp only[hH] at u<;>first|cases u|skip
  simp only[co] at u;simp only[exec] at hx;split at hx
  ·rename_i n k sz q hp;split at hx
   ·rename_i hn;injection hx with hx;subst hx;exact VM r rfl F u.1 u.2 (.inl ⟨_,_,_,_,hp,hn,rfl⟩)
   ·cases hx
  ·rename_i xs q hp;injection hx with hx;subst hx;exact VM r rfl F u.1 u.2 (.inr (.inl ⟨_,_,hp,rfl⟩))
  ·rename_i xs q j n s len hp;injection hx with hx;subst hx;exact VM r rfl F u.1 u.2 (.inr (.inr ⟨_,_,_,_,_,_,hp,rfl⟩))
  ·cases hx
 |oF len mx mi=>
  cases op<;>simp only[hH] at u<;>first|cases u|skip
  simp only[co] at u;obtain⟨⟨C,D⟩,H⟩:=u;obtain⟨e,i,J,I,L⟩:=aoM H;simp only[exec] at hx;split at hx
  ·rename_i n kk s off k hp hk;split at hx
   ·rename_i S;obtain⟨O,U,Y⟩:=S;injection hx with hx;subst hx;exact aqo r rfl F C D J I L hk O U hp Y
   ·cases hx
  ·cases hx
 |qL sz mx mi=>
  cases op<;>simp only[hH] at u<;>first|cases u|skip
  simp only[co] at u;obtain⟨⟨C,D⟩,H⟩:=u;obtain⟨e,i,z,J,I,V,L,X,_⟩:=BW H;simp only[exec] at hx;split at hx
  ·rename_i n s lo len k hp hk;split at hx
   ·rename_i S;obtain⟨rfl,O,U,Y⟩:=S;injection hx with hx;subst hx;exact adV r rfl F C D J I L hk O (.inl ⟨_,_,_,hp,U,Y,rfl⟩)
   ·cases hx
  ·rename_i s xs k hp hk;split at hx
   ·rename_i S;obtain⟨rfl,O⟩:=S;split at hx
    ·rename_i el lg;injection hx with hx;subst hx;exact adV r rfl F C D J I L hk O (.inr ⟨_,_,hp,lg,rfl⟩)
    ·cases hx
   ·cases hx
  ·rename_i n kk aO off s len k hp hk;split at hx
   ·rename_i s' ys XN;split at hx
    ·rename_i S;obtain⟨rfl,O,U⟩:=S;injection hx with hx;subst hx;exact aqp r rfl F C D J I L hk O U hp XN
    ·cases hx
   ·cases hx
  ·cases hx
 |ext i mx=>
  cases op<;>simp only[hH] at u<;>first|cases u|skip
  simp only[co,beq_iff_eq] at u;obtain⟨rfl,C⟩:=u;simp only[exec] at hx;split at hx
  ·rename_i xs hp;split at hx
   ·rename_i ag cs f9;injection hx with hx;subst hx;refine aqn r rfl F C hp f9 fun cU=>?_;subst cU;obtain⟨y1,_⟩:=r.ev C;rw[hp] at y1;obtain⟨vs,_,hl,hv⟩:=y1;have hi:i<vs.length:=by rw[hl];exact(If.1 f9).1
    have:ed w G σ.h cs [vs[i]]:=hv i (false,cs) vs[i] f9 (AI hi);exact zaP.1 this.1.symm
   ·cases hx
  ·cases hx
 |len mx=>
  cases op<;>simp only[hH] at u<;>first|cases u|skip
  rename_i c;obtain⟨A,args,v⟩:=c;split at u
  ·rename_i x t K ha Z;simp only at K ha Z;subst K;have xg:args=#[x]:=by apply zag;exact ha
   have vI:v=#[t]:=by apply zag;exact Z
   subst xg vI;simp only[co] at u;obtain⟨C,D⟩:=u;split at D
   ·rename_i e hu;simp only[exec] at hx;split at hx
    ·rename_i n sz lo len hp;split at hx
     ·rename_i hn;injection hx with hx;subst hx;exact Pg r rfl F C hu (.inl ⟨_,_,_,hp,hn⟩)
     ·cases hx
    ·rename_i sz xs hp;injection hx with hx;subst hx;exact Pg r rfl F C hu (.inr (.inl ⟨_,_,hp,rfl⟩))
    ·rename_i sz hp;injection hx with hx;subst hx;exact Pg r rfl F C hu (.inr (.inr (.inl ⟨_,hp,rfl⟩)))
    ·rename_i n k aO off sz len hp;split at hx
     ·rename_i s ys uP;injection hx with hx;subst hx;exact Pg r rfl F C hu (.inr (.inr (.inr ⟨_,_,_,_,_,_,_,_,hp,uP,rfl⟩)))
     ·cases hx
    ·cases hx
   ·cases D
  ·cases u
 |append fl sz dW mx my=>
  cases op<;>simp only[hH] at u<;>first|cases u|skip
  rename_i c;obtain⟨A,args,v⟩:=c;split at u
  ·rename_i x y t t' K ha Z;simp only at K ha Z;subst K;have xg:args=#[x,y]:=by apply zag;exact ha
   have vI:v=#[t,t']:=by apply zag;exact Z
   subst xg vI;simp only[co,beq_iff_eq] at u;obtain⟨⟨⟨rfl,C⟩,D⟩,H⟩:=u;obtain⟨e,i,z,J,I,V,L,X,h6⟩:=BW H;simp only[co,beq_iff_eq,decide_eq_true_eq] at h6;simp only[exec] at hx;split at hx
   ·cases hx
   ·rename_i n;split at hx
    ·cases hx
    ·rename_i xs m σ1 hl;split at hx
     ·cases hx
     ·rename_i ys m2 σ2 hr;split at hx
      ·rename_i hb;split at hx
       ·rename_i jG hi;injection hx with hx;subst hx;exact ap6 r rfl rfl (F _ rfl) C D J I V L X h6.1.1 h6.1.2 h6.2 hl hr hb hi
       ·cases hx
      ·cases hx
  ·cases u
 |copy sz mx my=>
  cases op<;>simp only[hH] at u<;>first|cases u|skip
  rename_i c;obtain⟨A,args,v⟩:=c;split at u
  ·rename_i x y t t' K ha Z;simp only at K ha Z;subst K;have xg:args=#[x,y]:=by apply zag;exact ha
   have vI:v=#[t,t']:=by apply zag;exact Z
   subst xg vI;simp only[co,beq_iff_eq] at u;obtain⟨⟨⟨c0,C⟩,D⟩,H⟩:=u;obtain⟨e,i,z,J,I,V,L,X,_⟩:=BW H;simp only[exec] at hx;split at hx
   ·rename_i n s lo len cc hp hq;split at hx
    ·rename_i gr m rs xs s' ys hn hv;split at hx
     ·rename_i S;obtain⟨rfl,rfl,rfl,rfl,O,U,Y,k4⟩:=S;injection hx with hx;subst hx;exact aqi r rfl F C D J I L hp hq hn hv O U Y k4
     ·cases hx
    ·cases hx
   ·cases hx
  ·cases u
 |oW zc mx=>
  cases op<;>simp only[hH] at u<;>first|cases u|skip
  rename_i c;obtain⟨A,args,v⟩:=c;split at u
  ·rename_i x t K ha Z;simp only at K ha Z;subst K;have xg:args=#[x]:=by apply zag;exact ha
   have vI:v=#[t]:=by apply zag;exact Z
   subst xg vI;simp only[co] at u;obtain⟨C,H⟩:=u;obtain⟨e,i,z,J,I,V,L,X,h6⟩:=BW H;simp only[exec] at hx;split at hx
   ·rename_i n s lo len hp;split at hx
    ·rename_i gr m rs xs hn;split at hx
     ·rename_i S;obtain⟨rfl,rfl,k0,O,U,Y⟩:=S;injection hx with hx;subst hx;exact aqg r rfl F C J I V h6 k0 hp hn O U Y
     ·cases hx
    ·cases hx
   ·cases hx
  ·cases u
 |mm b mx my=>
  cases op<;>simp only[hH] at u<;>first|cases u|skip
  rename_i c;obtain⟨A,args,v⟩:=c;have dd:∀x y,A=.builtin (if b=true then .max else .min)->args=#[x,y]->c8 x mx=true->c8 y my=true->
    Oper.wp P ⟨dst,.call ⟨A,args,v⟩,ty,pos,W,guard⟩ a w (Nx B E w0 N σ') Q:=by
   intro x y K ha C D;subst K ha;simp only[exec] at hx;split at hx
   ·rename_i k n k' m J I;have:=aqt (P:=P) (Q:=Q) (mx':=b) r (o:=⟨dst,.call ⟨.builtin (if b=true then .max else .min),#[x,y],v⟩,ty,pos,W,guard⟩) rfl F C D J I
    cases b
    ·simp at hx this;split at hx<;>(rename_i cu;injection hx with hx;subst hx;simpa[cu] using this)
    ·simp at hx this;split at hx<;>(rename_i cu;injection hx with hx;subst hx;simpa[cu] using this)
   ·cases hx
  split at u
  ·rename_i x y K ha;simp only[co] at u;obtain⟨⟨rfl,C⟩,D⟩:=u;exact dd x y K (by apply zag;exact ha) C D
  ·rename_i x y K ha;simp only[co,Bool.not_eq_true'] at u;obtain⟨⟨rfl,C⟩,D⟩:=u;exact dd x y K (by apply zag;exact ha) C D
  ·cases u
 |call m f ms=>
  cases op<;>simp only[hH] at u<;>first|cases u|skip
  rename_i c;obtain⟨A,args,v⟩:=c;split at u
  ·rename_i g K;simp only at K;subst K;simp only[co,beq_iff_eq] at u;obtain⟨⟨rfl,C⟩,D⟩:=u;exact aqa r hT F rfl C D hx
  ·cases u
 |oU m f ms=>
  cases op<;>simp only[hH] at u<;>first|cases u|skip
  rename_i c;obtain⟨A,args,v⟩:=c;split at u
  ·rename_i g K;simp only at K;subst K;simp only[co,beq_iff_eq] at u;obtain⟨⟨rfl,C⟩,D⟩:=u;simp only[exec] at hx;exact aqc r hTM F rfl C D hx
  ·cases u
 |lN f ms=>exact aqu r HE F u hx
 |pL f ms=>exact aqw r HG F u hx
 |oV f ms=>exact aqv r HE F u hx
 |ox m f ms=>exact aqx r HG F u hx
 |tJ f ms=>
  cases op<;>simp only[hH] at u<;>first|cases u|skip
  rename_i fn first xs
  cases fn<;>simp only at u<;>first|cases u|skip
  simp only[co,beq_iff_eq] at u;obtain⟨⟨⟨rfl,c0⟩,C⟩,D⟩:=u;have hf0:first=#[]:=by simpa using c0
  subst hf0;obtain⟨g1,g2⟩:=OL D;simp only[exec] at hx;split at hx
  ·rename_i cs f9;split at hx
   ·rename_i hj;injection hx with hx;subst hx;exact aqr r rfl F ⟨by simpa using g1.symm,g2⟩ f9 (fun c u jt=>by
     have:=AT.1 hj c u;subst jt;simp[aj.MJ] at this)
   ·cases hx
  ·cases hx
 |pK m mx ms=>
  cases op<;>simp only[hH] at u<;>first|cases u|skip
  rename_i c;obtain⟨A,args,v⟩:=c;split at u
  ·rename_i t K;simp only at K;subst K;simp only[co] at u;simp only[exec] at hx;split at hx
   ·rename_i f dM hp;have hfk:bX P f=true:=by
     have jW:=hx;unfold qy at jW;split at jW
     ·split at jW
      ·rename_i M hM;exact hF f M hM
      ·cases jW
     ·cases jW
    exact aqd r hT F rfl hfk u.1 u.2 hp hx
   ·cases hx
  ·cases u
end
def bo.fW:bo->Nat
 |.mv _|.pick ..|.build ..|.bin ..|.un ..|.conv ..|.ext ..|.mm ..|.tJ ..=>0
 |.alloc _|.box ..|.zM ..|.load ..|.gS _|.jP ..|.slice ..|.ri ..|.qL ..|.oF ..|.len _|.call ..|.pK ..|.pL ..|.oV ..=>1
 |_=>2
def St.ew (σ:St):List (Nat×aA)->Option St
 |[]=>some σ
 |(n,b)::l=>match σ.ins n b with
  |some σ1=>σ1.ew l
  |none=>none
def lB (m:Mode):Nat->List C->List aj×Nat×List (Nat×aA)
 |nm,[]=>([],nm,[])
 |nm,.list sz xs::cs=>(.sl nm sz 0 xs.length::(lB m (nm+1) cs).1,(lB m (nm+1) cs).2.1,(nm,.row m.xF m sz xs)::(lB m (nm+1) cs).2.2)
 |nm,x::cs=>(.c x::(lB m nm cs).1,(lB m nm cs).2.1,(lB m nm cs).2.2)
def CI (m:Mode):Nat->List Dv->Option (List (Bool×List aj)×List (Nat×aA))
 |_,[]=>some ([],[])
 |nm,(.ptr,_)::_=>none
 |nm,(k,cs)::ds=>match CI m (lB m nm cs).2.1 ds with
  |some (ls,bs)=>some ((decide (k=.agg),(lB m nm cs).1)::ls,(lB m nm cs).2.2++bs)
  |none=>none
theorem af9 (σ:St) (l a:List (Nat×aA)):σ.ew (l++a)=(σ.ew l).bind fun σ1=>σ1.ew a:=by induction l generalizing σ with|nil=>rfl|cons x l c=>obtain⟨n,b⟩:=x;simp only[zaO,St.ew];cases σ.ins n b with|none=>rfl|some σ1=>exact c σ1
theorem P6 (m:Mode):∀(cs:List C) (σ:St) (nm:Nat),σ.imp m nm cs=(σ.ew (lB m nm cs).2.2).map fun σ1=>((lB m nm cs).1,(lB m nm cs).2.1,σ1)
 |[],σ,nm=>rfl
 |.list sz xs::cs,σ,nm=>by simp only[St.imp,lB,St.ew];cases σ.ins nm (.row m.xF m sz xs) with|none=>rfl|some σ1=>simp only[P6 m cs];cases σ1.ew (lB m (nm+1) cs).2.2<;>rfl
 |.int k n::cs,σ,nm=>by simp only[St.imp,lB,P6 m cs];cases σ.ew (lB m nm cs).2.2<;>rfl
 |.bool b::cs,σ,nm=>by simp only[St.imp,lB,P6 m cs];cases σ.ew (lB m nm cs).2.2<;>rfl
theorem Yd (m:Mode):∀(ds:List Dv) (σ:St) (nm:Nat),σ.mb m nm ds=(CI m nm ds).bind fun x=>(σ.ew x.2).map fun σ1=>(x.1,σ1)
 |[],σ,nm=>rfl
 |(k,cs)::ds,σ,nm=>by
  have a:(match σ.imp m nm cs with
    |some (l,iU,σ1)=>match σ1.mb m iU ds with
     |some (ls,σ2)=>some ((decide (k=K.agg),l)::ls,σ2)
     |none=>none
    |none=>none)=(match CI m (lB m nm cs).2.1 ds with
    |some (ls,bs)=>some ((decide (k=K.agg),(lB m nm cs).1)::ls,(lB m nm cs).2.2++bs)
    |none=>none).bind fun x=>(σ.ew x.2).map fun σ1=>(x.1,σ1):=by
   rw[P6];have b:=fun(σ1:St)=>Yd m ds σ1 (lB m nm cs).2.1;cases h1:σ.ew (lB m nm cs).2.2 with
   |none=>
    cases h2:CI m (lB m nm cs).2.1 ds with
    |none=>rfl
    |some x=>simp[af9,h1]
   |some σ1=>
    simp only[wt,b];cases h2:CI m (lB m nm cs).2.1 ds with
    |none=>rfl
    |some x=>
     simp[af9,h1];cases σ1.ew x.2<;>rfl
  cases k with
  |ptr=>rfl
  |one=>exact a
  |agg=>exact a
def GQ (T:bj) (m:Mode) (d:Option Nat) (f:FuncId) (as:List au) (h:Nat->Option aA):Option (au×List (Nat×aA)):=
 match mS h as with
 |some ds=>match bj.find T.pure f with
  |some M=>match M ds with
   |some rs=>match CI m (sI d) rs with
    |some (ls,bs)=>some (oM ls,bs)
    |none=>none
   |none=>none
  |none=>none
 |none=>none
def ahi (vs:List au) (f:FuncId):Option au:=
 match vs.mapM (fun v=>match v with|.one c=>if c.kP=true then none else some c|_=>none) with
 |some cs=>if cs.all aj.MJ=true then some (.one (.fn f cs)) else none
 |none=>none
def rd (T:bj) (d:Option Nat) (op:bo) (ev:MO->au) (h:Nat->Option aA):Option (au×List (Nat×aA)):=
 match op with
 |.mv x=>some (ev x,[])
 |.pick c x y=>match ev c with
  |.one (.c (.bool b))=>if b=true then some (ev x,[]) else some (ev y,[])
  |_=>none
 |.build zs parts=>match pz ev zs parts with
  |some cs=>some (.agg cs,[])
  |none=>none
 |.bin op x y=>match BU op (ev x) (ev y) with
  |some c=>some (.one (.c c),[])
  |none=>none
 |.un op x=>match Jt op (ev x) with
  |some c=>some (.one (.c c),[])
  |none=>none
 |.conv k x=>match ev x with
  |.one (.c (.int _ n))=>some (.one (.c (.int k (k.wrap n))),[])
  |_=>none
 |.ext i x=>match ev x with
  |.ct xs=>match xs[i]? with
   |some (ag,cs)=>some (rT ag cs,[])
   |none=>none
  |_=>none
 |.mm mx x y=>match ev x,ev y with
  |.one (.c (.int k a)),.one (.c (.int k' b))=>if mx=true then(if a<b then some (.one (.c (.int k b)),[]) else some (.one (.c (.int k a)),[]))
   else(if b<a then some (.one (.c (.int k b)),[]) else some (.one (.c (.int k a)),[]))
  |_,_=>none
 |.tJ f xs=>match ahi (xs.map ev) f with
  |some v=>some (v,[])
  |none=>none
 |.alloc zs=>match d with
  |some n=>some (.one (.ptr n 0 0 0),[(n,.box zs)])
  |none=>none
 |.box sz x=>match d,(ev x).cells? with
  |some n,some (_,cs)=>if cs.length=sz then some (.one (.ptr n 0 0 0),[(n,.box cs)]) else none
  |_,_=>none
 |.zM sz ps=>match d,Fw sz (ps.map ev) with
  |some n,some es=>some (.one (.sl n sz 0 es.length),[(n,.row true .aS sz es)])
  |_,_=>none
 |.load ag sz x=>match ev x with
  |.one p=>match loadAt h p sz with
   |some cs=>some (rT ag cs,[])
   |none=>none
  |_=>none
 |.gS x=>match ev x with
  |.one (.ptr n k sz off)=>if(h n).isSome=true then some (.one (.ptr n k sz off),[]) else none
  |.one (.dN xs off)=>some (.one (.dN xs off),[])
  |.one (.dh xs off j n s len)=>some (.one (.dh xs off j n s len),[])
  |_=>none
 |.jP m sz dW zs l c=>match d,(ev l).fw,(ev c).fw with
  |some n,some a,some b=>if a<=b/\0<=a/\b.toNat*dW<=gH/\zs.length=sz then
   some (.one (.sl n sz 0 a.toNat),[(n,.row true m sz (zaf a.toNat zs))])
   else none
  |_,_,_=>none
 |.slice sz x lo hi=>
  let YO:Option Int:=match lo with|none=>some 0|some l=>(ev l).fw
  match ev x,YO with
  |.one (.sl n s l0 len),some l=>
   match(match hi with|none=>some (len:Int)|some h=>(ev h).fw) with
   |some hh=>if s=sz/\0<=l/\l<=hh/\hh<=len/\(h n).isSome=true then some (.one (.sl n s (l0+l.toNat) (hh - l).toNat),[]) else none
   |none=>none
  |.one (.c (.list s xs)),some l=>
   match(match hi with|none=>some (xs.length:Int)|some h=>(ev h).fw) with
   |some hh=>if s=sz/\0<=l/\l<=hh/\hh<=xs.length then some (.one (.c (.list s ((xs.drop l.toNat).take (hh - l).toNat))),[]) else none
   |none=>none
  |_,_=>none
 |.ri off x=>match ev x with
  |.one (.ptr n k sz o)=>if(h n).isSome=true then some (.one (.ptr n k sz (o+off)),[]) else none
  |.one (.dN xs o)=>some (.one (.dN xs (o+off)),[])
  |.one (.dh xs o j n s len)=>some (.one (.dh xs (o+off) j n s len),[])
  |_=>none
 |.oF len x i=>match ev x,(ev i).fw with
  |.one (.ptr n kk s o),some k=>if 0<=k/\k<len/\(h n).isSome=true then some (.one (.ptr n kk s (o+k.toNat)),[]) else none
  |_,_=>none
 |.qL sz x i=>match ev x,(ev i).fw with
  |.one (.sl n s lo len),some k=>if s=sz/\0<=k/\k<len/\(h n).isSome=true then some (.one (.ptr n (lo+k.toNat) s 0),[]) else none
  |.one (.c (.list s xs)),some k=>if s=sz/\0<=k then
   match xs[k.toNat]? with
   |some e=>some (.one (.dN e 0),[])
   |none=>none
   else none
  |.one (.cF n kk aO off s len),some k=>match dE h (.cF n kk aO off s len) with
   |some (.list s' ys)=>if s'=sz/\0<=k/\k<ys.length then some (.one (.dU n kk aO off sz k.toNat),[]) else none
   |_=>none
  |_,_=>none
 |.len x=>match ev x with
  |.one (.sl n sz lo len)=>if(h n).isSome=true then some (.one (.c (.int .i64 len)),[]) else none
  |.one (.c (.list sz xs))=>some (.one (.c (.int .i64 xs.length)),[])
  |.one (.nil sz)=>some (.one (.c (.int .i64 0)),[])
  |.one (.cF n k aO off sz len)=>match dE h (.cF n k aO off sz len) with
   |some (.list s ys)=>some (.one (.c (.int .i64 ys.length)),[])
   |_=>none
  |_=>none
 |.call m f xs=>GQ T m d f (xs.map ev) h
 |.pL f xs=>(ur T f (xs.map ev) h).map fun v=>(v,[])
 |.oV f xs=>(Ef T f (xs.map ev)).map fun v=>(v,[])
 |.pK m x xs=>match ev x with
  |.one (.fn f dM)=>GQ T m d f (xs.map ev++dM.map .one) h
  |_=>none
 |_=>none
def iP (d:Option Nat) (σ:St) (x:au×List (Nat×aA)):Option St:=(σ.ew x.2).map (·.put d x.1)
theorem adD (T:bj) (m:Mode) (d:Option Nat) (f:FuncId) (as:List au) (σ:St):qy T m d f as σ=(GQ T m d f as σ.h).bind (iP d σ):=by unfold qy GQ;cases mS σ.h as with|none=>rfl|some ds=>simp only;cases bj.find T.pure f with|none=>rfl|some M=>simp only;cases M ds with|none=>rfl|some a=>simp only[Yd];cases CI m (sI d) a with|none=>rfl|some x=>simp only[GB,iP];cases σ.ew x.2<;>rfl
theorem uz (T:bj) (d:Option Nat) (op:bo) (σ:St) (w:op.fW<=1):exec T d op σ=(rd T d op σ.ev σ.h).bind (iP d σ):=by
 cases op<;>simp only[bo.fW] at w<;>first|omega|skip
 case call m f xs=>exact adD _ _ _ _ _ _
 case pL f xs=>
  simp only[exec,rd];cases ur T f (xs.map σ.ev) σ.h with
  |none=>rfl
  |some v=>rfl
 case oV f xs=>
  simp only[exec,rd];cases Ef T f (xs.map σ.ev) with
  |none=>rfl
  |some v=>rfl
 case pK m x xs=>
  simp only[exec,rd];split
  ·rename_i f t e;simp only[e];exact adD _ _ _ _ _ _
  ·rename_i g;split
   ·rename_i f t e;exact absurd e (g f t)
   ·rfl
 case alloc zs=>
  simp only[exec,rd];split
  ·rename_i n;simp only[GB,iP,St.ew];cases σ.ins n (.box zs)<;>rfl
  ·rfl
 case box sz x=>
  simp only[exec,rd];split
  ·rename_i n ag cs e;simp only[e];split
   ·simp only[GB,iP,St.ew];cases σ.ins n (.box cs)<;>rfl
   ·rfl
  ·rename_i g;split
   ·rename_i n ag cs e;exact absurd e (g n ag cs rfl)
   ·rfl
 case zM sz ps=>
  simp only[exec,rd];split
  ·rename_i n es e;simp only[e,GB,iP,St.ew];cases σ.ins n (.row true .aS sz es)<;>rfl
  ·rename_i g;split
   ·rename_i n es e;exact absurd e (g n es rfl)
   ·rfl
 case jP m sz dW zs l c=>
  simp only[exec,rd];split
  ·rename_i n a b e p;simp only[e,p];split
   ·simp only[GB,iP,St.ew];cases σ.ins n (.row true m sz (zaf a.toNat zs))<;>rfl
   ·rfl
  ·rename_i g;split
   ·rename_i n a b e p;exact absurd p (g n a b rfl e)
   ·rfl
 case tJ f xs=>
  simp only[exec,rd,ahi];cases (xs.map σ.ev).mapM (fun v=>match v with|.one c=>if c.kP=true then none else some c|_=>none) with
  |none=>rfl
  |some cs=>
   simp only
   split<;>rfl
 case mv x=>rfl
 case pick c x y=>
  simp only[exec,rd];generalize σ.ev c=v;cases v with
  |one v=>cases v with
   |c v=>cases v with
    |bool b=>cases b<;>rfl
    |_=>rfl
   |_=>rfl
  |_=>rfl
 case build zs ps=>simp only[exec,rd];cases pz σ.ev zs ps<;>rfl
 case bin op x y=>simp only[exec,rd];cases BU op (σ.ev x) (σ.ev y)<;>rfl
 case un op x=>simp only[exec,rd];cases Jt op (σ.ev x)<;>rfl
 case conv k x=>
  simp only[exec,rd];generalize σ.ev x=v;cases v with
  |one v=>cases v with
   |c v=>cases v<;>rfl
   |_=>rfl
  |_=>rfl
 case ext i x=>
  simp only[exec,rd];generalize σ.ev x=v;cases v with
  |ct xs=>
   simp only
   cases xs[i]? <;>rfl
  |_=>rfl
 case mm b x y=>
  simp only[exec,rd];generalize σ.ev x=v;generalize σ.ev y=u;cases v with
  |one v=>cases v with
   |c v=>cases v with
    |int k a=>cases u with
     |one u=>cases u with
      |c u=>cases u with
       |int k' a'=>
        simp only
        cases b
        ·simp only[zaH,if_false];split<;>rfl
        ·simp only[if_true];split<;>rfl
       |_=>rfl
      |_=>rfl
     |_=>rfl
    |_=>rfl
   |_=>rfl
  |_=>rfl
 case load ag sz x=>
  simp only[exec,rd];generalize σ.ev x=v;cases v with
  |one v=>
   simp only
   cases loadAt σ.h v sz<;>rfl
  |_=>rfl
 case gS x=>
  simp only[exec,rd];generalize σ.ev x=v;cases v with
  |one v=>cases v with
   |ptr n k sz off=>simp only;split<;>rfl
   |_=>rfl
  |_=>rfl
 case ri off x=>
  simp only[exec,rd];generalize σ.ev x=v;cases v with
  |one v=>cases v with
   |ptr n k sz off=>simp only;split<;>rfl
   |_=>rfl
  |_=>rfl
 case len x=>
  simp only[exec,rd];generalize σ.ev x=v;cases v with
  |one v=>cases v with
   |sl n sz lo len=>simp only;split<;>rfl
   |c v=>cases v<;>rfl
   |cF n k r off sz len=>
    simp only
    cases dE σ.h (.cF n k r off sz len) with
    |none=>rfl
    |some y=>cases y<;>rfl
   |_=>rfl
  |_=>rfl
 case oF len x i=>
  simp only[exec,rd];generalize σ.ev x=v;generalize (σ.ev i).fw=u;cases v with
  |one v=>cases v with
   |ptr n kk s o=>cases u with
    |none=>rfl
    |some k=>simp only;split<;>rfl
   |_=>rfl
  |_=>rfl
 case qL sz x i=>
  simp only[exec,rd];generalize σ.ev x=v;generalize (σ.ev i).fw=u;cases v with
  |one v=>cases v with
   |sl n s lo len=>cases u with
    |none=>rfl
    |some k=>simp only;split<;>rfl
   |c v=>cases v with
    |list s xs=>cases u with
     |none=>rfl
     |some k=>
      simp only
      split
      ·cases xs[k.toNat]? <;>rfl
      ·rfl
    |_=>rfl
   |cF n k r off s len=>
    cases u with
    |none=>rfl
    |some q=>
     simp only
     cases dE σ.h (.cF n k r off s len) with
     |none=>rfl
     |some y=>cases y with
      |list s' ys=>simp only;split<;>rfl
      |_=>rfl
   |_=>rfl
  |_=>rfl
 case slice sz x lo hi=>
  cases lo with
  |none=>
   cases hi with
   |none=>
    simp only[exec,rd];generalize σ.ev x=v;cases v with
    |one v=>cases v with
     |sl n s j len=>simp only;split<;>rfl
     |c v=>cases v with
      |list s xs=>simp only;split<;>rfl
      |_=>rfl
     |_=>rfl
    |_=>rfl
   |some hi=>
    simp only[exec,rd];generalize σ.ev x=v;generalize (σ.ev hi).fw=q;cases q with
    |none=>
     cases v with
     |one v=>cases v with
      |c v=>cases v<;>rfl
      |_=>rfl
     |_=>rfl
    |some q=>
     cases v with
     |one v=>cases v with
      |sl n s j len=>simp only;split<;>rfl
      |c v=>cases v with
       |list s xs=>simp only;split<;>rfl
       |_=>rfl
      |_=>rfl
     |_=>rfl
  |some lo=>
   cases hi with
   |none=>
    simp only[exec,rd];generalize σ.ev x=v;generalize (σ.ev lo).fw=u;cases u with
    |none=>
     cases v with
     |one v=>cases v with
      |c v=>cases v<;>rfl
      |_=>rfl
     |_=>rfl
    |some u=>
     cases v with
     |one v=>cases v with
      |sl n s j len=>simp only;split<;>rfl
      |c v=>cases v with
       |list s xs=>simp only;split<;>rfl
       |_=>rfl
      |_=>rfl
     |_=>rfl
   |some hi=>
    simp only[exec,rd];generalize σ.ev x=v;generalize (σ.ev lo).fw=u;generalize (σ.ev hi).fw=q;cases u with
    |none=>
     cases v with
     |one v=>cases v with
      |c v=>cases v<;>rfl
      |_=>rfl
     |_=>rfl
    |some u=>
     cases q with
     |none=>
      cases v with
      |one v=>cases v with
       |c v=>cases v<;>rfl
       |_=>rfl
      |_=>rfl
     |some q=>
      cases v with
      |one v=>cases v with
       |sl n s j len=>simp only;split<;>rfl
       |c v=>cases v with
        |list s xs=>simp only;split<;>rfl
        |_=>rfl
       |_=>rfl
      |_=>rfl
def St.we (σ:St) (e:Nat->au):St:={σ with env:=e}
def zA (e:Nat->au) (d:Option Nat) (x:Nat->au):Nat->au:=
 match d with
 |some n=>aV e n (x n)
 |none=>e
theorem aBG (σ:St):σ.we σ.env=σ:=rfl
theorem C4 (σ:St) (e:Nat->au) (d:Option Nat) (v:au):(σ.we e).put d v=(σ.put d v).we (zA e d (σ.put d v).env):=by cases d with|none=>rfl|some n=>simp[St.put,St.we,zA,cX]
theorem P8 (σ:St) (e:Nat->au) (n:Nat) (b:aA):(σ.we e).ins n b=(σ.ins n b).map (·.we e):=by unfold St.ins;by_cases h:σ.used n=true;rw[ah h,ah (show(σ.we e).used n=true from h)];rfl;rw[ak h,ak (show¬(σ.we e).used n=true from h)];rfl
theorem EV:∀(l:List (Nat×aA)) (σ:St) (e:Nat->au),(σ.we e).ew l=(σ.ew l).map (·.we e)
 |[],σ,e=>rfl
 |(n,b)::l,σ,e=>by simp only[St.ew,P8];cases σ.ins n b with|none=>rfl|some σ1=>exact EV l σ1 e
theorem aBa (σ:St) (e:Nat->au) (c:aj):(σ.we e).iD c=(σ.iD c).map fun x=>(x.1,x.2.1,x.2.2.we e):=by cases c with|c x=>rfl|nil sz=>simp only[St.iD];split<;>rfl|sl n sz lo len=>have:(σ.we e).h n=σ.h n:=rfl;simp only[St.iD,this];(cases σ.h n with|none=>rfl|some b=>cases b with|box cs=>rfl|row gr m rs xs=>simp only;split<;>rfl)|_=>rfl
theorem SK:∀(cs:List aj) (σ:St) (e:Nat->au),(σ.we e).iE cs=(σ.iE cs).map fun x=>(x.1,x.2.1,x.2.2.we e)
 |[],σ,e=>rfl
 |c::cs,σ,e=>by simp only[St.iE,aBa];cases σ.iD c with|none=>rfl|some x=>obtain⟨x,o,σ1⟩:=x;simp only[wt,SK cs σ1 e];cases σ1.iE cs<;>rfl
theorem am6 (sz:Nat):∀(vs:List au) (σ:St) (e:Nat->au),(σ.we e).mQ sz vs=(σ.mQ sz vs).map fun x=>(x.1,x.2.1,x.2.2.we e)
 |[],σ,e=>rfl
 |v::vs,σ,e=>by simp only[St.mQ];cases v.cells? with|none=>rfl|some x=>obtain⟨ag,cs⟩:=x;simp only;split;simp only[SK];(cases σ.iE cs with|none=>rfl|some y=>obtain⟨y,o,σ1⟩:=y;simp only[wt,am6 sz vs σ1 e];cases σ1.mQ sz vs<;>rfl);rfl
theorem an9 (σ:St) (e:Nat->au) (sz:Nat) (v:au):vj (σ.we e) sz v=(vj σ sz v).map fun x=>(x.1,x.2.1,x.2.2.we e):=by cases v with|one v=>(cases v with|sl a s lo len=>(cases lo with|zero=>have:(σ.we e).h a=σ.h a:=rfl;simp only[vj,this];(cases σ.h a with|none=>rfl|some b=>cases b with|box cs=>rfl|row c m rs xs=>cases c with|true=>simp only;split<;>rfl|false=>rfl)|succ lo=>rfl)|_=>rfl)|_=>rfl
theorem aob (fl:Bool) (σ:St) (e:Nat->au) (sz:Nat) (m:Mode) (v:au):pH fl (σ.we e) sz m v=(pH fl σ sz m v).map fun x=>(x.1,x.2.1,x.2.2.we e):=by cases v with|one v=>(cases v with|sl b s lo len=>have:(σ.we e).h b=σ.h b:=rfl;simp only[pH,this];(cases σ.h b with|none=>rfl|some b=>cases b with|box cs=>rfl|row gr m rs xs=>simp only;(repeat' split);all_goals rfl)|c x=>(cases x with|list s ys=>simp only[pH];(repeat' split);(all_goals rfl)|_=>rfl)|_=>rfl)|_=>rfl
theorem aAT (σ:St) (e:Nat->au) (n:Nat) (b:Bool) (m:Mode) (c:Nat) (xs:List (List C)) (k off:Nat) (a:List C) (vs:List aj): rS (σ.we e) n b m c xs k off a vs=(rS σ n b m c xs k off a vs).map (·.we e):=by simp only[rS,SK];cases sub a off vs.length with|none=>rfl|some j0=>simp only;cases σ.iE vs with|none=>rfl|some x=>obtain⟨cs,o,σ1⟩:=x;have:(σ1.we e).h n=σ1.h n:=rfl;simp only[wt,this];(repeat' split);all_goals rfl
theorem IQ (T:bj) (d:Option Nat) (op:bo) {ev ev':MO->au} (h:Nat->Option aA) (c:∀x∈op.args,ev' x=ev x):rd T d op ev' h=rd T d op ev h:=by have hl:∀xs:List MO,(∀x∈xs,ev' x=ev x)->xs.map ev'=xs.map ev:=fun xs hx=>zae hx;have hp:∀(ps:List (Nat×Nat×MO)) (g:List aj),(∀x∈ps.map (·.2.2),ev' x=ev x)->pz ev' g ps=pz ev g ps:=(by intro ps;induction ps with|nil=>intro g _;rfl|cons p ps n=>intro g hx;obtain⟨off,sz,x⟩:=p;simp only[pz];rw[hx x (by simp)];cases (ev x).cells? with|none=>rfl|some y=>simp only;split;exact n _ fun z l=>hx z (by simp at l⊢;exact .inr l);rfl);cases op with|build g ps=>simp only[rd];rw[hp ps g c]|call m f xs=>simp only[rd];rw[hl xs c]|pL f xs=>simp only[rd];rw[hl xs c]|oV f xs=>simp only[rd];rw[hl xs c]|tJ f xs=>simp only[rd];rw[hl xs c]|pK m x xs=>simp only[rd];rw[c x (by simp[bo.args]),hl xs fun y hy=>c y (by simp[bo.args,hy])]|slice sz x lo hi=>have a:=c x (by simp[bo.args]);(cases lo with|none=>(cases hi with|none=>simp only[rd,a]|some hi=>have j:=c hi (by simp[bo.args]);simp only[rd,a,j])|some lo=>have e:=c lo (by simp[bo.args]);cases hi with|none=>simp only[rd,a,e]|some hi=>have j:=c hi (by simp[bo.args]);simp only[rd,a,e,j])|mv x=>have a:=c x (by simp[bo.args]);simp only[rd,a]|pick x y z=>have a:=c x (by simp[bo.args]);have e:=c y (by simp[bo.args]);have j:=c z (by simp[bo.args]);simp only[rd,a,e,j]|alloc g=>rfl|box sz x=>have a:=c x (by simp[bo.args]);simp only[rd,a]|f8 sz ps=>rfl|zM sz ps=>simp only[rd];rw[hl ps c]|oU m f xs=>rfl|ox m f xs=>rfl|lN f xs=>rfl|load ag sz x=>have a:=c x (by simp[bo.args]);simp only[rd,a]|store sz x v=>rfl|gS x=>have a:=c x (by simp[bo.args]);simp only[rd,a]|bin op x y=>have a:=c x (by simp[bo.args]);have e:=c y (by simp[bo.args]);simp only[rd,a,e]|un op x=>have a:=c x (by simp[bo.args]);simp only[rd,a]|conv k x=>have a:=c x (by simp[bo.args]);simp only[rd,a]|jP m sz dW g x y=>have a:=c x (by simp[bo.args]);have e:=c y (by simp[bo.args]);simp only[rd,a,e]|ri off x=>have a:=c x (by simp[bo.args]);simp only[rd,a]|oF len x y=>have a:=c x (by simp[bo.args]);have e:=c y (by simp[bo.args]);simp only[rd,a,e]|qL sz x y=>have a:=c x (by simp[bo.args]);have e:=c y (by simp[bo.args]);simp only[rd,a,e]|ext i x=>have a:=c x (by simp[bo.args]);simp only[rd,a]|len x=>have a:=c x (by simp[bo.args]);simp only[rd,a]|append fl sz dW x y=>rfl|copy sz x y=>rfl|oW z x=>rfl|mm b x y=>have a:=c x (by simp[bo.args]);have e:=c y (by simp[bo.args]);simp only[rd,a,e]
theorem SZ (σ:St) (e:Nat->au):(σ.we e).h=σ.h:=rfl
theorem azb (σ:St) (e:Nat->au) (it:eK) (x:C):(σ.we e).sL it x=(σ.sL it x).map (·.we e):=by cases it with|nil sz=>rfl|row n=>(cases x with|int k i=>rfl|bool b=>rfl|list sz xs=>simp only[St.sL,SZ];cases σ.h n with|none=>rfl|some b=>cases b with|box cs=>rfl|row c m d a=>simp only;split<;>rfl)|nest n k off=>simp only[St.sL,SZ];cases σ.h n with|none=>rfl|some b=>cases b with|box cs=>rfl|row c m d a=>simp only;cases a[k]? with|none=>rfl|some el=>rfl
theorem aj4:∀(a:List (eK×Mode)) (b:List C) (σ:St) (e:Nat->au),(σ.we e).tO a b=(σ.tO a b).map (·.we e)
 |[],[],σ,e=>rfl
 |it::a,x::b,σ,e=>by simp only[St.tO,azb];cases σ.sL it.1 x with|none=>rfl|some σ1=>exact aj4 a b σ1 e
 |[],_::_,σ,e=>rfl
 |_::_,[],σ,e=>rfl
theorem as9 (m:Mode) (σ:St) (e:Nat->au) (nm:Nat) (ds:List Dv):(σ.we e).mb m nm ds=(σ.mb m nm ds).map fun x=>(x.1,x.2.we e):=by simp only[Yd];cases CI m nm ds with|none=>rfl|some x=>simp only[GB,EV];cases σ.ew x.2 with|none=>rfl|some σ1=>rfl
theorem adC (T:bj) (m:Mode) (d:Option Nat) (f:FuncId) (as:List au) (σ:St) (e:Nat->au):
  vm T m d f as (σ.we e)=(vm T m d f as σ).map fun τ=>τ.we (zA e d τ.env):=by
 unfold vm;cases bj.th T.CX f with
 |none=>rfl
 |some z=>
  obtain⟨sig,M⟩:=z;cases u0 as with
  |none=>rfl
  |some a=>
   simp only
   by_cases c:(sH sig a).Nodup
   ·rw[ah c,ah c];show(match qc σ.h (fv σ.h (sH sig a)) sig a with|some (ds,b)=>_|none=>none)=_
    cases qc σ.h (fv σ.h (sH sig a)) sig a with
    |none=>rfl
    |some z=>
     obtain⟨ds,b⟩:=z;simp only
     cases M ds with
     |none=>rfl
     |some z=>
      obtain⟨i,g⟩:=z;simp only[aj4];cases σ.tO b g with
      |none=>rfl
      |some σ1=>
       simp only[wt,as9];cases σ1.mb m (sI d) i with
       |none=>rfl
       |some z=>
        obtain⟨ls,σ2⟩:=z;simp only[wt,C4]
   ·rw[ak c,ak c];rfl
theorem apR (T:bj) (m:Mode) (d:Option Nat) (f:FuncId) (as:List au) (σ:St) (e:Nat->au): zT T m d f as (σ.we e)=(zT T m d f as σ).map fun τ=>τ.we (zA e d τ.env):=by unfold zT;cases bj.w7 T.xs f with|none=>rfl|some z=>obtain⟨i,M⟩:=z;simp only;cases as[i]? with|none=>rfl|some x=>have a:(σ.we e).h=σ.h:=rfl;simp only[a];cases Jy σ.h x with|none=>rfl|some z=>obtain⟨n,lo,len,N⟩:=z;exact adC _ _ _ _ _ _ _
theorem U2:∀(as:List au) (σ:St) (e:Nat->au),(σ.we e).kw as=(σ.kw as).map fun x=>(x.1,x.2.1,x.2.2.we e)
 |[],σ,e=>rfl
 |v::as,σ,e=>by simp only[St.kw,SZ,SK];cases pI σ.h v with|some x=>obtain⟨n,xs⟩:=x;simp only[U2 as σ e];cases σ.kw as<;>rfl|none=>simp only;cases v.cells? with|none=>rfl|some x=>obtain⟨ag,cs⟩:=x;simp only;cases σ.iE cs with|none=>rfl|some y=>obtain⟨xs,o,σ1⟩:=y;simp only[wt,U2 as σ1 e];cases σ1.kw as<;>rfl
theorem ay9 (σ:St) (e:Nat->au) (ns:List Nat) (out:List C):(σ.we e).tN ns out=(σ.tN ns out).map (·.we e):=by
 match ns,out with
 |[],[]=>rfl
 |[],_::_=>rfl
 |[n],out=>
  simp only[St.tN,SZ];cases σ.h n with
  |none=>rfl
  |some b=>
   cases b with
   |box cs=>simp only;split<;>rfl
   |row gr m rs xs=>rfl
 |_::_::_,out=>rfl
theorem aox (σ:St) (e:Nat->au) (d:Option Nat) (a:List Dv):rZ (σ.we e) d a=(rZ σ d a).map fun τ=>τ.we (zA e d τ.env):=by unfold rZ;split;(cases d with|none=>rfl|some q=>simp only[P8];cases σ.ins q _ with|none=>rfl|some σ1=>simp only[wt,C4]);cases mB a with|none=>rfl|some ls=>simp only[wt,C4]
theorem apO (T:bj) (d:Option Nat) (f:FuncId) (as:List au) (σ:St) (e:Nat->au): rc T d f as (σ.we e)=(rc T d f as σ).map fun τ=>τ.we (zA e d τ.env):=by unfold rc;rw[U2];cases σ.kw as with|none=>rfl|some x=>obtain⟨ds,ns,σ1⟩:=x;simp only[wt];cases bj.o8 T.vs f with|none=>rfl|some M=>simp only;cases M ds with|none=>rfl|some z=>obtain⟨a,out⟩:=z;simp only[ay9];cases σ1.tN ns out with|none=>rfl|some σ2=>exact aox σ2 e d a
theorem VO (T:bj) (d:Option Nat) (op:bo) (σ:St) (e:Nat->au) (a:∀x∈op.args,(σ.we e).ev x=σ.ev x) (hd:∀sz x v,op=.store sz x v->d=none):
  exec T d op (σ.we e)=(exec T d op σ).map fun τ=>τ.we (zA e d τ.env):=by
 by_cases r:op.fW<=1
 ·rw[uz T d op _ r,uz T d op _ r,IQ T d op _ a];show Option.bind (rd T d op σ.ev σ.h) _=_;cases rd T d op σ.ev σ.h with
  |none=>rfl
  |some x=>
   simp only[GB,iP,EV];cases σ.ew x.2 with
   |none=>rfl
   |some σ1=>simp only[wt,C4]
 ·cases op<;>simp[bo.fW] at r
  case f8 sz ps=>
   have hl:ps.map (σ.we e).ev=ps.map σ.ev:=zae a;simp only[exec,hl,am6];cases d with
   |none=>rfl
   |some n=>
    cases σ.mQ sz (ps.map σ.ev) with
    |none=>rfl
    |some x=>
     obtain⟨es,o,σ1⟩:=x;simp only[wt,P8];cases σ1.ins n (.row true (if o=true then .aS else .aQ) sz es) with
     |none=>rfl
     |some σ2=>simp only[wt,C4]
  case store sz x v=>
   have g:=a x (by simp[bo.args]);have j:=a v (by simp[bo.args]);have hd:=hd sz x v rfl;subst hd;simp only[exec,g,j];cases σ.ev x with
   |one p=>cases p with
    |ptr n k w off=>
     cases (σ.ev v).cells? with
     |none=>rfl
     |some y=>
      obtain⟨ag,vs⟩:=y;have:(σ.we e).h n=σ.h n:=rfl;simp only[this];split
      ·cases σ.h n with
       |none=>rfl
       |some b=>cases b with
        |box cs=>simp only;split<;>rfl
        |row l m u xs=>
         simp only
         split
         ·cases xs[k]? with
          |none=>rfl
          |some el=>simp only[aAT];rfl
         ·rfl
      ·rfl
    |dU n k w off s i=>
     cases (σ.ev v).cells? with
     |none=>rfl
     |some y=>
      obtain⟨ag,vs⟩:=y;have:(σ.we e).h n=σ.h n:=rfl;simp only[this];split
      ·cases σ.h n with
       |none=>rfl
       |some b=>cases b with
        |box cs=>rfl
        |row l m u xs=>cases m with
         |live=>cases l with
          |true=>rfl
          |false=>
           simp only
           split
           ·cases A9 xs k off s i vs<;>rfl
           ·rfl
         |_=>cases l<;>rfl
      ·rfl
    |_=>cases (σ.ev v).cells?<;>rfl
   |agg cs=>cases (σ.ev v).cells?<;>rfl
   |ct cs=>cases (σ.ev v).cells?<;>rfl
  case append fl sz dW x y=>
   have g:=a x (by simp[bo.args]);have j:=a y (by simp[bo.args]);simp only[exec,g,j,an9];cases d with
   |none=>rfl
   |some n=>
    simp only
    cases vj σ sz (σ.ev x) with
    |none=>rfl
    |some z=>
     obtain⟨xs,m,σ1⟩:=z;simp only[wt,aob];cases pH fl σ1 sz m (σ.ev y) with
     |none=>rfl
     |some z=>
      obtain⟨ys,m2,σ2⟩:=z;simp only[wt];split
      ·simp only[P8];cases σ2.ins n (.row true m2 sz (xs++ys)) with
       |none=>rfl
       |some jG=>simp only[wt,C4]
      ·rfl
  case copy sz x y=>
   have g:=a x (by simp[bo.args]);have j:=a y (by simp[bo.args]);have t:(σ.we e).h=σ.h:=rfl;simp only[exec,g,j,t];cases σ.ev x with
   |one p=>cases p with
    |sl n s lo len=>
     cases σ.ev y with
     |one c=>
      simp only
      cases σ.h n with
      |none=>rfl
      |some b=>cases b with
       |box cs=>rfl
       |row l m u xs=>
        cases dE σ.h c with
        |none=>rfl
        |some q=>cases q with
         |list s' ys=>
          simp only
          split
          ·exact congrArg some (C4 (σ.fh n _) e d _)
          ·rfl
         |_=>rfl
     |_=>rfl
    |_=>rfl
   |_=>rfl
  case oW z x=>
   have g:=a x (by simp[bo.args]);have t:(σ.we e).h=σ.h:=rfl;simp only[exec,g,t];cases σ.ev x with
   |one p=>cases p with
    |sl n s lo len=>
     simp only
     cases σ.h n with
     |none=>rfl
     |some b=>cases b with
      |box cs=>rfl
      |row l m u xs=>
       simp only
       split
       ·exact congrArg some (C4 (σ.fh n _) e d _)
       ·rfl
    |_=>rfl
   |_=>rfl
  case oU m f xs=>
   have hl:xs.map (σ.we e).ev=xs.map σ.ev:=zae a;simp only[exec,hl,adC]
  case lN f xs=>
   have hl:xs.map (σ.we e).ev=xs.map σ.ev:=zae a;simp only[exec,hl,apO]
  case ox m f xs=>
   have hl:xs.map (σ.we e).ev=xs.map σ.ev:=zae a;simp only[exec,hl,apR]
section
variable {u vv:Nat->Prop} {h h':Nat->Option aA}
theorem avp (a:∀n,u n->h' n=h n) {p:aj} (hp:∀m,p.ref m->u m) (sz:Nat):loadAt h' p sz=loadAt h p sz:=by cases p with|ptr n k b off=>simp only[loadAt,a n (hp n rfl)]|dU n k b off s i=>simp only[loadAt,a n (hp n rfl)]|_=>rfl
theorem aj.C6 {c:aj} {m:Nat} (h:c.j4 m):c.ref m:=by cases c<;>first|exact h|exact h.elim
def au.FB:au->Nat->Prop
 |.one c,m=>c.j4 m
 |.agg cs,m=>∃c∈cs,c.j4 m
 |.ct _,_=>False
theorem au.akj {x:au} {m:Nat} (h:x.FB m):x.ref m:=by cases x with|one c=>exact aj.C6 h|agg cs=>obtain⟨c,a,h⟩:=h;exact⟨c,a,aj.C6 h⟩|ct xs=>exact h.elim
theorem F8 (a:∀n,u n->h' n=h n) {p:aj} (hp:∀m,p.j4 m->u m):dE h' p=dE h p:=by cases p with|sl n sz lo len=>simp only[dE,a n (hp n rfl)]|cF n k aO off sz len=>simp only[dE,a n (hp n rfl)]|_=>rfl
theorem SU (a:∀n,u n->h' n=h n):∀{l:List aj} (_:∀p∈l,∀m,p.j4 m->u m),ie h' l=ie h l
 |[],_=>rfl
 |c::cs,hp=>by have b:=F8 a (hp c (by simp));have d:=SU a (l:=cs) fun p q=>hp p (zac _ q);simp only[ie,b,d]
theorem aBB (a:∀n,u n->h' n=h n) (hb:∀m cs c n,vv m->h m=some (.box cs)->c∈cs->c.ref n->u n) {x:au} (hx:∀m,x.FB m->u m) (e:∀m,x.FB m->vv m):ko h' x=ko h x:=by cases x with|one c=>(cases c with|ptr n k sz off=>simp only[ko,a n (hx n rfl)];(cases hn:h n with|none=>rfl|some b=>cases b with|box cs=>simp only[SU a fun p hp m hm=>hb n cs p m (e n rfl) hn hp (aj.C6 hm)]|row gr m sz xs=>rfl)|dN xs off=>rfl|c x=>rfl|nil sz=>rfl|sl n sz lo len=>simp only[ko];rw[F8 a (p:=.sl n sz lo len) hx]|cF n k d off sz len=>simp only[ko];rw[F8 a (p:=.cF n k d off sz len) hx]|dU n k d off sz i=>rfl|dh xs off j n sz len=>rfl|fn f dM=>rfl|bZ=>rfl)|agg cs=>simp only[ko,SU a fun p hp m hm=>hx m ⟨p,hp,hm⟩]|ct xs=>rfl
theorem abv (a:∀n,u n->h' n=h n) (hb:∀m cs c n,vv m->h m=some (.box cs)->c∈cs->c.ref n->u n):∀{xs:List au} (_:∀x∈xs,∀m,x.FB m->u m) (_:∀x∈xs,∀m,x.FB m->vv m),mS h' xs=mS h xs
 |[],_,_=>rfl
 |x::xs,hx,hv=>by have b:=aBB a hb (hx x (by simp)) (hv x (by simp));have d:=abv a hb (xs:=xs) (fun p q=>hx p (zac _ q)) (fun p q=>hv p (zac _ q));simp only[mS,b,d]
theorem avI (b:∀n,u n->h' n=h n) {a:Mode} {c:aj} (hp:∀m,c.ref m->u m):xD h' a c=xD h a c:=by cases c with|sl n sz lo len=>simp only[xD,b n (hp n rfl)]|cF n k aO off sz len=>simp only[xD,b n (hp n rfl)]|_=>rfl
theorem afW (a:∀n,u n->h' n=h n) (ns:List Nat):∀n,u n->fv h' ns n=fv h ns n:=fun n hn=>by simp only[fv,a n hn]
theorem YY (b:∀n,u n->h' n=h n) (ns:List Nat):∀(a:List (Option Mode)) (cs:List aj),(∀c∈cs,∀m,c.ref m->u m)->nY h' (fv h' ns) a cs=nY h (fv h ns) a cs
 |[],cs,hc=>by simp only[nY,SU (afW b ns) fun p hp m hm=>hc p hp m (aj.C6 hm)]
 |none::a,c::cs,hc=>by simp only[nY,F8 (afW b ns) fun m hm=>hc c (by simp) m (aj.C6 hm),YY b ns a cs fun p hp=>hc p (by simp[hp])]
 |some md::a,c::cs,hc=>by simp only[nY,avI b (hc c (by simp)),YY b ns a cs fun p hp=>hc p (by simp[hp])]
 |none::_,[],_=>rfl
 |some _::_,[],_=>rfl
theorem aiM (a:∀n,u n->h' n=h n) (ns:List Nat):∀(as:List (Bool×List aj)) (sig:cR),(∀x∈as,∀c∈x.2,∀m,c.ref m->u m)->qc h' (fv h' ns) sig as=qc h (fv h ns) sig as
 |[],_,_=>rfl
 |(ag,cs)::as,sig,hc=>by simp only[qc,YY a ns (cR.hd sig) cs (hc (ag,cs) (by simp)),aiM a ns as (cR.tl sig) fun x hx=>hc x (by simp[hx])]
theorem YZ:∀{b:List (Option Mode)} {cs:List aj} {n:Nat},n∈rH b cs->∃c∈cs,c.ref n
 |some _::b,c::cs,n,hn=>by simp only[rH] at hn;rcases By.1 hn with h|h;refine⟨c,by simp,?_⟩;cases c<;>simp[aj.fV] at h<;>(subst h;rfl);obtain⟨e,a,d⟩:=YZ h;exact⟨e,by simp[a],d⟩
 |none::b,c::cs,n,hn=>by simp only[rH] at hn;obtain⟨e,a,d⟩:=YZ hn;exact⟨e,by simp[a],d⟩
 |[],_,n,hn=>by simp[rH] at hn
 |some _::_,[],n,hn=>by simp[rH] at hn
 |none::_,[],n,hn=>by simp[rH] at hn
theorem ahj:∀{as:List (Bool×List aj)} {sig:cR} {n:Nat},n∈sH sig as->∃x∈as,∃c∈x.2,c.ref n
 |a::as,s::sig,n,hn=>by simp only[sH] at hn;rcases By.1 hn with h|h;obtain⟨c,b,d⟩:=YZ h;exact⟨a,by simp,c,b,d⟩;obtain⟨x,b,d⟩:=ahj h;exact⟨x,by simp[b],d⟩
 |[],s::sig,n,hn=>by simp[sH] at hn
 |as,[],n,hn=>by cases as<;>simp[sH] at hn
theorem ag1:∀{as:List au} {a:List (Bool×List aj)},u0 as=some a->∀x∈a,∀c∈x.2,∀m,c.ref m->∃v∈as,v.ref m
 |[],a,hx,x,hm=>by simp only[u0] at hx;injection hx with hx;subst hx;cases hm
 |v::vs,a,hx,x,hm=>by simp only[u0] at hx;split at hx;rename_i y ys g h;injection hx with hx;subst hx;intro c b m hr;(cases hm with|head=>exact⟨v,by simp,au.D3 g b hr⟩|tail _ hm=>obtain⟨e,d,f⟩:=ag1 h x hm c b m hr;exact⟨e,by simp[d],f⟩);cases hx
theorem apQ (g:∀n,u n->h' n=h n) {T:bj} {f:FuncId} {as:List au} (hx:∀x∈as,∀m,x.ref m->u m):ur T f as h'=ur T f as h:=by unfold ur;cases bj.w6 T.ws f with|none=>rfl|some M=>obtain⟨sig,M⟩:=M;cases hc:u0 as with|none=>rfl|some a=>have hr:∀x∈a,∀c∈x.2,∀m,c.ref m->u m:=fun x d c b m e=>(by obtain⟨v,i,j⟩:=ag1 hc x d c b m e;exact hx v i m j);simp only;cases hn:sH sig a with|nil=>rfl|cons n l=>cases l with|cons n2 l=>rfl|nil=>obtain⟨x,d,c,b,e⟩:=ahj (n:=n) (sig:=sig) (as:=a) (by rw[hn];simp);simp only[aiM g [n] a sig hr,g n (hr x d c b n e)]
theorem aj9 (T:bj) (d:Option Nat) (op:bo) (ev:MO->au) (b:∀n,u n->h' n=h n) (B:op.Mb=true->∀m cs c n,vv m->h m=some (.box cs)->c∈cs->c.ref n->u n) (hx:∀x∈op.args,∀m,(ev x).ref m->u m) (A:∀x∈op.args,∀m,(ev x).ref m->vv m):rd T d op ev h'=rd T d op ev h:=by cases op with|load ag sz x=>have a:=hx x (by simp[bo.args]);simp only[rd];(cases hv:ev x with|one p=>rw[hv] at a;simp only[avp b (p:=p) a]|_=>rfl)|gS x=>have a:=hx x (by simp[bo.args]);simp only[rd];(cases hv:ev x with|one p=>(cases p with|ptr n k sz off=>rw[hv] at a;simp only[b n (a n rfl)]|_=>rfl)|_=>rfl)|ri off x=>have a:=hx x (by simp[bo.args]);simp only[rd];(cases hv:ev x with|one p=>(cases p with|ptr n k sz off=>rw[hv] at a;simp only[b n (a n rfl)]|_=>rfl)|_=>rfl)|len x=>have a:=hx x (by simp[bo.args]);simp only[rd];(cases hv:ev x with|one p=>(cases p with|sl n sz lo len=>rw[hv] at a;simp only[b n (a n rfl)]|cF n k v off sz len=>rw[hv] at a;simp only[F8 b (p:=.cF n k v off sz len) (fun m hm=>a m (aj.C6 hm))]|c x=>cases x<;>rfl|_=>rfl)|_=>rfl)|oF len x i=>have a:=hx x (by simp[bo.args]);simp only[rd];generalize (ev i).fw=q;(cases hv:ev x with|one p=>(cases p with|ptr n kk s o=>rw[hv] at a;have j:=b n (a n rfl);(cases q with|none=>rfl|some q=>simp only[j])|_=>cases q<;>rfl)|_=>cases q<;>rfl)|qL sz x i=>have a:=hx x (by simp[bo.args]);simp only[rd];generalize (ev i).fw=q;(cases hv:ev x with|one p=>(cases p with|sl n s lo len=>rw[hv] at a;have j:=b n (a n rfl);(cases q with|none=>rfl|some q=>simp only[j])|cF n k v off s len=>rw[hv] at a;(cases q with|none=>rfl|some q=>simp only[F8 b (p:=.cF n k v off s len) (fun m hm=>a m (aj.C6 hm))])|c x=>cases x<;>cases q<;>rfl|_=>cases q<;>rfl)|_=>cases q<;>rfl)|slice sz x lo hi=>have a:=hx x (by simp[bo.args]);simp only[rd];(cases hv:ev x with|one p=>(cases p with|sl n s l0 len=>rw[hv] at a;have j:=b n (a n rfl);(cases lo with|none=>simp only[j]|some lo=>simp only;cases (ev lo).fw with|none=>rfl|some q=>simp only[j])|c x=>(cases lo with|none=>cases x<;>rfl|some lo=>simp only;cases (ev lo).fw<;>cases x<;>rfl)|_=>cases lo<;>rfl)|_=>cases lo<;>rfl)|call m f xs=>simp only[rd,GQ];have l:∀e:Nat->Prop,(∀x∈(bo.call m f xs).args,∀m,(ev x).ref m->e m)->∀x∈xs.map ev,∀m,x.FB m->e m:=(by intro e hx x w q g;obtain⟨y,hy,rfl⟩:=BY.1 w;exact hx y hy q (au.akj g));rw[abv b (B rfl) (l _ hx) (l _ A)]|oV f xs=>rfl|pL f xs=>have:ur T f (xs.map ev) h'=ur T f (xs.map ev) h:=apQ b fun x w q g=>(by obtain⟨y,hy,rfl⟩:=BY.1 w;exact hx y hy q g);simp only[rd,this]|pK m x xs=>simp only[rd];(cases hv:ev x with|one p=>(cases p with|fn f C=>simp only[GQ];have l:∀e:Nat->Prop,(∀y∈(bo.pK m x xs).args,∀m,(ev y).ref m->e m)->∀y∈xs.map ev++C.map au.one,∀m,y.FB m->e m:=(by intro e hx y t q g;rcases By.1 t with hy|hy;obtain⟨z,r,rfl⟩:=BY.1 hy;exact hx z (by simp[bo.args,r]) q (au.akj g);obtain⟨z,r,rfl⟩:=BY.1 hy;refine hx x (by simp[bo.args]) q ?_;rw[hv];exact⟨z,r,g⟩);rw[abv b (B rfl) (l _ hx) (l _ A)]|_=>rfl)|_=>rfl)|_=>rfl
theorem aj8 (T:bj) (d:Option Nat) (op:bo) (ev:MO->au) (a:∀n,u n->h' n=h n) (hb:∀m cs c n,h m=some (.box cs)->c∈cs->c.ref n->u n) (hx:∀x∈op.args,∀m,(ev x).ref m->u m):rd T d op ev h'=rd T d op ev h:= aj9 (vv:=fun _=>True) T d op ev a (fun _ m cs c n _=>hb m cs c n) hx (fun _ _ _ _=>trivial)
theorem akb (T:bj) (d:Option Nat) (op:bo) (ev:MO->au) (h h':Nat->Option aA) (a:op.fW=0):rd T d op ev h'=rd T d op ev h:=by cases op<;>simp[bo.fW] at a<;>rfl
end
def lF (e:Nat->au) (d:Option Nat) (v:au):Nat->au:=
 match d with
 |some n=>aV e n v
 |none=>e
theorem tP (σ:St) (d:Option Nat) (v:au):σ.put d v=σ.we (lF σ.env d v):=by cases d<;>rfl
theorem vY {e:Nat->au} {d:Option Nat} {v:au} {n:Nat} (h:d≠some n):lF e d v n=e n:=by cases d with|none=>rfl|some m=>exact dJ _ _ _ _ (fun a=>h (by rw[a]))
theorem Rd (e:Nat->au) {d a:Option Nat} (v f:au) (h:∀n,d=some n->a≠some n):lF (lF e d v) a f=lF (lF e a f) d v:=by cases d with|none=>rfl|some n=>cases a with|none=>rfl|some m=>have g:m≠n:=fun i=>h n rfl (by rw[i]);funext k;simp only[lF,mR];by_cases c:k=m;by_cases b:k=n;omega;simp[c,g];by_cases b:k=n;simp[b,zaz g];simp[c,b]
def anl (d:Option Nat) (x:Nat->au):au:=
 match d with
 |some n=>x n
 |none=>.one .bZ
theorem abp (e:Nat->au) (d:Option Nat) (x:Nat->au):zA e d x=lF e d (anl d x):=by cases d<;>rfl
theorem atd {σ σ1 σ2:St} {n m:Nat} {b c:aA} (a:σ.ins n b=some σ1) (f:σ1.ins m c=some σ2):∃τ,σ.ins m c=some τ/\τ.ins n b=some σ2:=by
 obtain⟨g,rfl⟩:=rD a;obtain⟨u2,rfl⟩:=rD f;have d:m≠n:=fun e=>by subst e;simp[cX] at u2
 have h:σ.used m=false:=by simpa[dJ _ _ _ _ d] using u2
 have un:aV σ.used m true n=false:=by rw[dJ _ _ _ _ (zaz d)];exact g
 refine⟨_,by unfold St.ins;rw[ak (by simp[h])],?_⟩;unfold St.ins;simp only[un,zaH,if_false];congr 2<;>(funext k;simp only[mR];by_cases a:k=m<;>by_cases f:k=n<;>simp_all)
theorem agb {m:Nat} {c:aA}:∀{A:List (Nat×aA)} {σ σ1 σ2:St},σ.ew A=some σ1->σ1.ins m c=some σ2->∃τ,σ.ins m c=some τ/\τ.ew A=some σ2
 |[],σ,σ1,σ2,a,h2=>by simp only[St.ew] at a;injection a with a;subst a;exact⟨σ2,h2,rfl⟩
 |(n,b)::A,σ,σ1,σ2,a,h2=>by simp only[St.ew] at a;split at a;rename_i oh e;obtain⟨τ,f,g⟩:=agb a h2;obtain⟨i,d,h⟩:=atd e f;exact⟨i,d,by simp only[St.ew,h];exact g⟩;cases a
theorem Yi:∀{b A:List (Nat×aA)} {σ σ1 σ2:St},σ.ew A=some σ1->σ1.ew b=some σ2->∃τ,σ.ew b=some τ/\τ.ew A=some σ2
 |[],A,σ,σ1,σ2,h1,a=>by simp only[St.ew] at a;injection a with a;subst a;exact⟨σ,rfl,h1⟩
 |(m,c)::b,A,σ,σ1,σ2,h1,a=>by simp only[St.ew] at a;split at a;rename_i jG e;obtain⟨τ,f,g⟩:=agb h1 e;obtain⟨h,d,i⟩:=Yi g a;exact⟨h,by simp only[St.ew,f];exact d,i⟩;cases a
theorem EU:∀{A:List (Nat×aA)} {σ σ1:St},σ.ew A=some σ1->(∀n,σ.used n=true->σ1.used n=true/\σ1.h n=σ.h n)/\σ1.env=σ.env
 |[],σ,σ1,a=>by simp only[St.ew] at a;injection a with a;subst a;exact⟨fun n hn=>⟨hn,rfl⟩,rfl⟩
 |(m,c)::A,σ,σ1,a=>by simp only[St.ew] at a;split at a;rename_i oh e;obtain⟨j,rfl⟩:=rD e;obtain⟨f,g⟩:=EU a;refine⟨fun n hn=>?_,g⟩;have k:n≠m:=fun b=>(by subst b;rw[j] at hn;cases hn);obtain⟨d,i⟩:=f n (xS _ _ hn);exact⟨d,by rw[i];exact dJ _ _ _ _ k⟩;cases a
structure Wf (σ:St):Prop where
 env:∀s m,(σ.env s).ref m->σ.used m=true
 box:∀m cs c n,σ.h m=some (.box cs)->c∈cs->c.ref n->σ.used n=true
def aj.flat:aj->Bool
 |.c _|.nil _|.bZ=>true
 |_=>false
def MO.flat:MO->Bool
 |.t _=>true
 |.k (.one c)=>c.flat
 |.k (.agg cs)=>cs.all aj.flat
 |.k (.ct xs)=>xs.isEmpty
theorem aj.aep {c:aj} (h:c.flat=true) (m:Nat):¬c.ref m:=by cases c<;>first|exact id|(simp[aj.flat] at h)
theorem Wf.arg {σ:St} (W:Wf σ) {x:MO} (hx:x.flat=true) (m:Nat) (hm:(σ.ev x).ref m):σ.used m=true:=by cases x with|t n=>exact W.env n m hm|k v=>cases v with|one c=>exact absurd hm (aj.aep hx m)|agg cs=>obtain⟨c,a,hm⟩:=hm;exact absurd hm (aj.aep (AT.1 hx c a) m)|ct xs=>have:xs=[]:=(by simpa[MO.flat] using hx);subst this;obtain⟨c,a,_⟩:=hm;cases a
theorem aka (T:bj) (d:Option Nat) (op:bo) (ev:MO->au) (h:Nat->Option aA) (a:op.fW=0) {x:au×List (Nat×aA)} (hx:rd T d op ev h=some x):x.2=[]:=by cases op<;>simp[bo.fW] at a<;>simp only[rd] at hx;all_goals (repeat' split at hx);all_goals first|(cases hx;rfl)|(cases hx)
theorem Pf {σ:St} {e:Nat->au} {x:MO} (h:∀n,x=.t n->e n=σ.env n):(σ.we e).ev x=σ.ev x:=by cases x with|t n=>exact h n rfl|k v=>rfl
section
variable {T:bj} {dx dy:Option Nat} {x y:bo} {σ σ1 σ2:St}
theorem B7 (b:∀sz p v,x=.store sz p v->dx=none) (a:exec T dx x σ=some σ1):σ1.env=lF σ.env dx (anl dx σ1.env):=by
 have h:=VO T dx x σ σ.env (fun _ _=>rfl) b;rw[aBG,a] at h;simp only[wt] at h;injection h with h;rw[<-abp]
 calc σ1.env=(σ1.we (zA σ.env dx σ1.env)).env:=by rw[<-h]
  _=_:=rfl
theorem ac0 (W:Wf σ) (hd:∀n,dx=some n->dy≠some n) (H:∀n,dx=some n->MO.t n∉y.args) (E:∀n,dy=some n->MO.t n∉x.args) (Q:∀a∈x.args,a.flat=true) (N:∀a∈y.args,a.flat=true) (F:∀sz p v,x=.store sz p v->dx=none) (I:∀sz p v,y=.store sz p v->dy=none) (aB2:x.fW=0\/y.fW=0\/(x.fW<=1/\y.fW<=1)) (c:exec T dx x σ=some σ1) (b:exec T dy y σ1=some σ2):∃τ,exec T dy y σ=some τ/\exec T dx x τ=some σ2:=by have o:∀(e:Nat->au) (v:au) (s:St),∀a∈y.args,(s.we (lF s.env dx v)).ev a=s.ev a:=fun e v s a ha=>Pf fun n hn=>vY fun g=>H n g (hn▸ha);have r:∀(e:Nat->au) (v:au) (s:St),∀a∈x.args,(s.we (lF s.env dy v)).ev a=s.ev a:=fun e v s a ha=>Pf fun n hn=>vY fun g=>E n g (hn▸ha);by_cases J:x.fW=0;rw[uz T dx x σ (by omega)] at c;(cases hr:rd T dx x σ.ev σ.h with|none=>rw[hr] at c;cases c|some p=>obtain⟨v,D⟩:=p;have hb:D=[]:=aka T dx x _ _ J hr;subst hb;rw[hr] at c;simp only[GB,iP,St.ew,wt] at c;injection c with c;rw[tP] at c;subst c;rw[VO T dy y σ _ (o σ.env v σ) I] at b;cases hy:exec T dy y σ with|none=>rw[hy] at b;cases b|some τ=>rw[hy] at b;simp only[wt] at b;injection b with b;refine⟨τ,rfl,?_⟩;have z:=B7 I hy;rw[uz T dx x τ (by omega),akb T dx x τ.ev σ.h τ.h J,IQ T dx x (ev:=σ.ev) (ev':=τ.ev) σ.h (fun a ha=>by cases a with|t n=>show τ.env n=σ.env n;rw[z];exact vY fun g=>E n g ha|k v=>rfl),hr];simp only[GB,iP,St.ew,wt];rw[<-b,tP];congr 1;have:lF τ.env dx v=zA (lF σ.env dx v) dy τ.env:=(by rw[abp,Rd σ.env _ _ hd];rw[<-z]);rw[this]);by_cases K:y.fW=0;rw[uz T dy y σ1 (by omega)] at b;(cases hr:rd T dy y σ1.ev σ1.h with|none=>rw[hr] at b;cases b|some p=>obtain⟨v,D⟩:=p;have hb:D=[]:=aka T dy y _ _ K hr;subst hb;rw[hr] at b;simp only[GB,iP,St.ew,wt] at b;injection b with b;have z:=B7 F c;refine⟨σ.put dy v,?_,?_⟩;rw[uz T dy y σ (by omega),akb T dy y σ.ev σ1.h σ.h K,IQ T dy y (ev:=σ1.ev) (ev':=σ.ev) σ1.h (fun a ha=>by cases a with|t n=>show σ.env n=σ1.env n;rw[z];exact(vY fun g=>H n g ha).symm|k v=>rfl),hr];rfl;rw[tP,VO T dx x σ _ (r σ.env v σ) F,c];simp only[wt];rw[<-b,tP];congr 2;rw[abp,<-Rd σ.env _ _ hd,<-z]);have j:x.fW<=1:=(by omega);have w:y.fW<=1:=(by omega);rw[uz T dx x σ j] at c;cases hr:rd T dx x σ.ev σ.h with|none=>rw[hr] at c;cases c|some p=>obtain⟨v,A⟩:=p;rw[hr] at c;simp only[GB,iP] at c;cases hA:σ.ew A with|none=>rw[hA] at c;cases c|some d=>rw[hA] at c;simp only[wt] at c;injection c with c;rw[tP] at c;subst c;obtain⟨L,ea⟩:=EU hA;rw[uz T dy y _ w] at b;have B:rd T dy y (d.we (lF d.env dx v)).ev (d.we (lF d.env dx v)).h=rd T dy y σ.ev σ.h:=(by rw[IQ T dy y (ev:=σ.ev) _ (fun a ha=>by rw[o σ.env v d a ha];cases a with|t n=>show d.env n=σ.env n;rw[ea]|k v=>rfl)];exact aj8 (u:=fun n=>σ.used n=true) T dy y σ.ev (fun n hn=>(L n hn).2) W.box (fun a ha m hm=>W.arg (N a ha) m hm));rw[B] at b;cases XB:rd T dy y σ.ev σ.h with|none=>rw[XB] at b;cases b|some q=>obtain⟨i,O⟩:=q;rw[XB] at b;simp only[GB,iP,EV] at b;cases hB:d.ew O with|none=>rw[hB] at b;cases b|some l=>rw[hB] at b;simp only[wt] at b;injection b with b;obtain⟨f,G,P⟩:=Yi hA hB;obtain⟨M,eb⟩:=EU G;obtain⟨oab,eab⟩:=EU hB;refine⟨f.put dy i,?_,?_⟩;rw[uz T dy y σ w,XB];simp[iP,G];rw[tP,uz T dx x _ j];have C:rd T dx x (f.we (lF f.env dy i)).ev (f.we (lF f.env dy i)).h=rd T dx x σ.ev σ.h:=(by rw[IQ T dx x (ev:=σ.ev) _ (fun a ha=>by rw[r σ.env i f a ha];cases a with|t n=>show f.env n=σ.env n;rw[eb]|k v=>rfl)];exact aj8 (u:=fun n=>σ.used n=true) T dx x σ.ev (fun n hn=>(M n hn).2) W.box (fun a ha m hm=>W.arg (Q a ha) m hm));rw[C,hr];simp only[GB,iP,EV,P,wt];rw[<-b,tP,tP];congr 1;show l.we (lF (lF f.env dy i) dx v)=l.we (lF (lF d.env dx v) dy i);rw[eb,ea,Rd σ.env _ _ hd]
end
theorem Hp (T:bj) (o:cZ) (σ:St):gQ T o σ=(rf o σ.env).bind fun op=>exec T o.dst op σ:=by unfold gQ rf;cases hg:o.guard with|none=>rfl|some g=>obtain⟨s,pC⟩:=g;simp only;generalize σ.env s=v;cases v with|one c=>(cases c with|c x=>(cases x with|bool b=>simp only;split<;>rfl|_=>rfl)|_=>rfl)|agg cs=>rfl|ct xs=>cases xs<;>rfl
def cZ.zh (o:cZ) (n:Nat):Bool:=(o.op.args.all fun a=>match a with|.t m=>m !=n|_=>true)&&(match o.guard with|some (s,_)=>s !=n|none=>true)
def cZ.vt (o:cZ):Bool:=o.op.args.all MO.flat&&(match o.op with|.store ..=>o.dst.isNone|_=>true)
def Hd (x y:cZ):Bool:=
 (match x.dst with|some d=>y.zh d&&(match y.dst with|some e=>e !=d|none=>true)|none=>true)&&
 (match y.dst with|some d=>x.zh d|none=>true)&&x.vt&&y.vt&&(x.op.fW==0||y.op.fW==0||(decide (x.op.fW<=1)&&decide (y.op.fW<=1)))
theorem cZ.QS {o:cZ} {n:Nat} (h:o.zh n=true):MO.t n∉o.op.args:=by intro hm;simp only[cZ.zh,co,AT] at h;have:=h.1 _ hm;simp at this
theorem O3 {o:cZ} {e:Nat->au} {op:bo} (h:rf o e=some op):op=o.op\/op=.mv (.k (.ct [])):=by unfold rf at h;split at h;injection h with h;exact .inl h.symm;split at h;split at h;injection h with h;exact .inl h.symm;injection h with h;exact .inr h.symm;injection h with h;exact .inr h.symm;cases h
theorem KL {o:cZ} {e a:Nat->au} (h:∀s w,o.guard=some (s,w)->a s=e s):rf o a=rf o e:=by unfold rf;cases hg:o.guard with|none=>rfl|some g=>obtain⟨s,w⟩:=g;simp only;rw[h s w hg]
theorem ao5 {T:bj} {x y:cZ} {σ σ1 σ2:St} (W:Wf σ) (A:Hd x y=true) (f:gQ T x σ=some σ1) (d:gQ T y σ1=some σ2): ∃τ,gQ T y σ=some τ/\gQ T x τ=some σ2:=by simp only[Hd,co] at A;obtain⟨⟨⟨⟨g,l⟩,j⟩,q⟩,B⟩:=A;rw[Hp] at f d;cases ex:rf x σ.env with|none=>rw[ex] at f;cases f|some b=>rw[ex] at f;have f:exec T x.dst b σ=some σ1:=f;have o:b=x.op\/b=.mv (.k (.ct [])):=O3 ex;have z:∀sz p v,b=.store sz p v->x.dst=none:=(by intro sz p v h;rcases o with rfl|rfl;simp only[cZ.vt,co,h] at j;simpa using j.2;cases h);have L:=B7 z f;have G:∀s w,y.guard=some (s,w)->x.dst≠some s:=(by intro s w i hd;rw[hd] at g;simp[cZ.zh,i] at g);have K:∀s w,x.guard=some (s,w)->y.dst≠some s:=(by intro s w i hd;rw[hd] at l;simp[cZ.zh,i] at l);have H:rf y σ1.env=rf y σ.env:=KL fun s w i=>(by rw[L];exact vY (G s w i));rw[H] at d;cases ey:rf y σ.env with|none=>rw[ey] at d;cases d|some c=>rw[ey] at d;have d:exec T y.dst c σ1=some σ2:=d;have m:c=y.op\/c=.mv (.k (.ct [])):=O3 ey;have u:∀sz p v,c=.store sz p v->y.dst=none:=(by intro sz p v h;rcases m with rfl|rfl;simp only[cZ.vt,co,h] at q;simpa using q.2;cases h);have D:∀a∈b.args,a.flat=true:=(by rcases o with rfl|rfl;simp only[cZ.vt,co,AT] at j;exact j.1;intro a ha;simp[bo.args] at ha;subst ha;rfl);have F:∀a∈c.args,a.flat=true:=(by rcases m with rfl|rfl;simp only[cZ.vt,co,AT] at q;exact q.1;intro a ha;simp[bo.args] at ha;subst ha;rfl);have E:∀n,x.dst=some n->MO.t n∉c.args:=(by intro n hd;rcases m with rfl|rfl;rw[hd] at g;simp only[co] at g;exact cZ.QS g.1;simp[bo.args]);have C:∀n,y.dst=some n->MO.t n∉b.args:=(by intro n hd;rcases o with rfl|rfl;rw[hd] at l;exact cZ.QS l;simp[bo.args]);have J:∀n,x.dst=some n->y.dst≠some n:=(by intro n hd h;rw[hd,h] at g;simp at g);have M:b.fW=0\/c.fW=0\/(b.fW<=1/\c.fW<=1):=(by rcases o with rfl|rfl;rcases m with rfl|rfl;simp only[zam,beq_iff_eq,co,decide_eq_true_eq,or_assoc] at B;exact B;exact .inr (.inl rfl);exact .inl rfl);obtain⟨τ,r,I⟩:=ac0 W J E C D F z u M f d;refine⟨τ,?_,?_⟩;rw[Hp,ey];exact r;rw[Hp,KL (e:=σ.env) (fun s w i=>by rw[B7 u r];exact vY (K s w i)),ex];exact I
def J4 (P:Program) (f:FuncId) (M:List Dv->Option (List Dv)):Prop:=
 ∀ds rs,M ds=some rs->∀(w:World) (vals:List Value),Jz w ds vals->Calls P f vals.toArray w fun e w'=>
  ∃(sz cap:Nat) (a:Option Addr) (xs:List (List PC)),rs=[(.one,[(PC.list sz a cap xs).er])]/\e=.returned (PC.list sz a cap xs).val/\BO w' w.heap.size [PC.list sz a cap xs]/\Fr w.heap.size Ex.no w w'/\wM w' sz xs
theorem J4.pure {P:Program} {f:FuncId} {M:List Dv->Option (List Dv)} (h:J4 P f M):dV P f M:=by intro ds j b w vals ha;refine(h ds j b w vals ha).mono fun e w' ⟨sz,cap,a,xs,g,d,i,c,_⟩=>?_;refine⟨[(.one,[PC.list sz a cap xs])],by rw[g];rfl,d,fun p hp=>?_,by simpa using i,c⟩;simp at hp;subst hp;exact⟨by simp,fun _=>rfl⟩
def anV (P:Program) (T:bj):Prop:=∀f M,bj.find T.ns f=some M->J4 P f M
def acP (ops:Array Oper) (o:Oper) (mo:cZ):Bool:=
 match o.guard,mo.guard with
 |none,none=>true
 |some (j,pC),some (s,ant)=>decide ((ops[j]?).bind (·.dst)=some s)&&(pC==ant)
 |_,_=>false
def zP (P:Program) (N:Nat) (ops:Array Oper) (o:Oper) (mo:cZ):Bool:=
 decide (o.dst=mo.dst)&&(match o.dst with|some n=>decide (n<N)|none=>true)&&acP ops o mo&&hH P o mo.op
def ul (P:Program) (N:Nat) (ops:Array Oper):List Oper->List cZ->Bool
 |[],[]=>true
 |o::os,m::ms=>zP P N ops o m&&ul P N ops os ms
 |_,_=>false
section
variable {B N:Nat} {E:Ex} {w0 w w':World} {G G':Gh} {P:Program} {T:bj} {o:Oper} {mo:cZ} {a:Act} {σ σ':St} {Q:Exit->Act->World->Prop} {ops:Array Oper}
structure q8 (P:Program) (T:bj):Prop where
 spec:Ka P T
 amz:Oc P T
 amA:GC P T
 amB:BR P T
 aCh:anV P T
 fn:∀f M,bj.find T.pure f=some M->bX P f=true
theorem R.guard (r:R B E w0 N σ a w G) {j s:Nat} {b:Bool} (hj:(ops[j]?).bind (·.dst)=some s) (hb:σ.env s=.one (.c (.bool b))):yielded ops a.tmps j=some b:=by have e:=r.env s;rw[hb] at e;have d:=e.Ou;have f:a.tmps[s]? =some (.bool b):=(by rw[zaB] at d;cases ht:a.tmps[s]? with|none=>rw[ht] at d;simp[undef] at d|some v=>rw[ht] at d;simp at d;rw[d]);unfold yielded;rw[hj];simp[f]
theorem amj {w:World} {G:Gh} {h:Nat->Option aA}:RA w G h (.ct []) undef:=⟨[],rfl,rfl,fun j x u hx=>by simp at hx⟩
theorem aml {u:Nat->Prop} (m:Nat) (hm:(au.ct []).ref m):u m:=by obtain⟨c,a,_⟩:=hm;cases a
theorem R.arD (r:R B E w0 N σ a w G) {j s:Nat} (hj:(ops[j]?).bind (·.dst)=some s) (hb:σ.env s=.ct []):yielded ops a.tmps j=none:=by have c:=r.env s;rw[hb] at c;obtain⟨vs,b,d,_⟩:=c;have:vs=[]:=zaK.1 d;subst this;rw[zaB] at b;unfold yielded;rw[hj];simp only[GB];cases ht:a.tmps[s]? with|none=>rfl|some v=>rw[ht] at b;simp only[za7] at b;subst b;rfl
theorem Ph (r:R B E w0 N σ a w G) (c:q8 P T) (p:zP P N ops o mo=true) (hx:gQ T mo σ=some σ'): (Region.wanted o (yielded ops a.tmps)=true/\o.wp P a w (Nx B E w0 N σ') Q)\/(Region.wanted o (yielded ops a.tmps)=false/\Nx B E w0 N σ' (a.put o.dst undef) w):=by simp only[zP,co,decide_eq_true_eq] at p;obtain⟨⟨⟨g,l⟩,d⟩,m⟩:=p;have f:∀n,o.dst=some n->n<N:=fun n hn=>(by rw[hn] at l;simpa using l);unfold acP at d;unfold gQ at hx;split at d;rename_i e h;simp only[h] at hx;rw[<-g] at hx;exact .inl ⟨by simp[Region.wanted,e],adX r c.spec c.amz c.amA c.amB c.fn f m hx⟩;rename_i j pC s ant e h;simp only[co,decide_eq_true_eq,beq_iff_eq] at d;obtain⟨k,rfl⟩:=d;simp only[h] at hx;split at hx;rename_i b hb;have hy:=r.guard k hb;split at hx;rename_i i;rw[<-g] at hx;exact .inl ⟨by simp[Region.wanted,e,hy,i],adX r c.spec c.amz c.amA c.amB c.fn f m hx⟩;rename_i i;injection hx with hx;subst hx;refine .inr ⟨by simp[Region.wanted,e,hy,i],G,?_⟩;rw[<-g];exact r.put (x:=.ct []) amj aml f;rename_i hb;have hy:=r.arD k hb;injection hx with hx;subst hx;refine .inr ⟨by simp[Region.wanted,e,hy],G,?_⟩;rw[<-g];exact r.put (x:=.ct []) amj aml f;cases hx;cases d
theorem R.wf (r:R B E w0 N σ a w G):Wf σ:=⟨r.t6,r.hr.kq⟩
theorem aBN {K:Act->World->Prop} (h:o.wp P a w K (fun _ _ _=>False)):∃d w',K d w':=by unfold Oper.wp at h;unfold Oper.upon at h;split at h;exact⟨_,_,h⟩;exact⟨_,_,h⟩;exact⟨_,_,h⟩;obtain⟨e,w',fr,b,_⟩:=h [];(cases e with|returned v=>exact⟨_,_,b⟩|panicked c=>exact b.elim|outgrown=>obtain⟨_,_,f⟩:=b;exact f.elim);obtain⟨v,w',b,_⟩:=h default [];exact⟨_,_,b⟩;exact h.elim;exact h.elim
def N8 (B:Nat) (E:Ex) (w0:World) (N:Nat) (σ:St):Prop:=∃a w G,R B E w0 N σ a w G
theorem ake (r:N8 B E w0 N σ) (d:q8 P T) (c:zP P N ops o mo=true) (hx:gQ T mo σ=some σ'):N8 B E w0 N σ':=by obtain⟨a,w,G,r⟩:=r;rcases Ph (Q:=fun _ _ _=>False) r d c hx with⟨_,h⟩|⟨_,G',h⟩;obtain⟨b,w',G',h⟩:=aBN h;exact⟨b,w',G',h⟩;exact⟨_,_,G',h⟩
theorem abA (c:q8 P T):∀{l:List Oper} {ms:List cZ} {σ σ':St} {a:Act} {w:World} {G:Gh},ul P N ops l ms=true->oz T ms σ=some σ'->R B E w0 N σ a w G-> (∀a w G,R B E w0 N σ' a w G->Q .normal a w)->wpList P ops Q l a w
 |[],[],σ,σ',a,w,G,hc,hx,r,hQ=>by simp only[oz] at hx;injection hx with hx;subst hx;exact hQ _ _ _ r
 |o::l,m::ms,σ,σ',a,w,G,hc,hx,r,hQ=>by simp only[ul,co] at hc;simp only[oz] at hx;split at hx;rename_i σ1 e;unfold wpList;rcases Ph (Q:=Q) r c hc.1 e with⟨b,h⟩|⟨b,G',h⟩;rw[ah b];exact .inl (Oper.wp_mono (fun a' w' ⟨G',d⟩=>abA c hc.2 hx d hQ) h);rw[ak (by simp[b])];exact abA c hc.2 hx h hQ;cases hx
 |[],_::_,_,_,_,_,_,hc,_,_,_=>by simp[ul] at hc
 |_::_,[],_,_,_,_,_,hc,_,_,_=>by simp[ul] at hc
def vr (T:bj) (ms:List cZ):List Nat->St->Option St
 |[],σ=>some σ
 |i::L,σ=>match ms[i]? with
  |some o=>match gQ T o σ with
   |some σ1=>vr T ms L σ1
   |none=>none
  |none=>none
inductive xU (ops:Array Oper):Nat->Nat->Prop where
 |adF (i:Nat) (o:Oper) (e:_):ops[i]? =some o->e∈o.after->Region.binds .any e=true->xU ops i e.on
 |step (i j:Nat) (o:Oper) (e:_):ops[i]? =some o->e∈o.after->Region.binds .any e=true->xU ops e.on j->xU ops i j
def VH (o:Oper):List Nat:=(o.after.toList.filter (Region.binds .any)).map (·.on)
def My (cW:List Nat):List Nat->Nat
 |[]=>0
 |j::js=>(Nat.shiftLeft 1 j|||cW.getD j 0)|||My cW js
def It:List Oper->List Nat->List Nat
 |[],cW=>cW
 |o::os,cW=>It os (cW++[My cW (VH o)])
theorem avF {o:Oper} {j:Nat} (h:j∈VH o):∃e∈o.after,Region.binds .any e=true/\e.on=j:=by unfold VH at h;simp only[BY,zaV] at h;obtain⟨e,⟨a,c⟩,b⟩:=h;exact⟨e,zay.1 a,c,b⟩
theorem ag9 {b:List Nat}:∀{a:List Nat} {k:Nat},(My b a).testBit k=true->∃j∈a,j=k\/(b.getD j 0).testBit k=true
 |[],k,h=>by simp[My] at h
 |j::a,k,h=>by simp only[My,Nat.testBit_or,zam] at h;rcases h with(h|h)|h;refine⟨j,by simp,.inl ?_⟩;have h':(1<<<j).testBit k=true:=h;rw[Nat.one_shiftLeft,Nat.testBit_two_pow] at h';exact of_decide_eq_true h';exact⟨j,by simp,.inr h⟩;obtain⟨d,c,e⟩:=ag9 h;exact⟨d,by simp[c],e⟩
theorem YX {ops:Array Oper}:∀(os:List Oper) (a:List Nat) (pre:List Oper),ops.toList=pre++os->a.length=pre.length->(∀i k,(a.getD i 0).testBit k=true->xU ops i k)-> ∀i k,((It os a).getD i 0).testBit k=true->xU ops i k
 |[],a,pre,_,_,h,i,k,hb=>h i k hb
 |o::os,a,pre,he,hl,h,i,k,hb=>by refine YX os _ (pre++[o]) (by simp[he]) (by simp[hl]) (fun i k hb=>?_) i k hb;by_cases l:i<a.length;rw[IT,List.getElem?_append_left l,<-IT] at hb;exact h i k hb;by_cases hi:i=a.length;subst hi;rw[IT,zai (zad _),zaW] at hb;simp only[zaL,za7] at hb;have c:ops[a.length]? =some o:=(by have:ops.toList[a.length]? =some o:=(by rw[he,hl,zai (zad _),zaW];rfl);simpa using this);obtain⟨j,g,b⟩:=ag9 hb;obtain⟨e,d,f,rfl⟩:=avF g;rcases b with rfl|b;exact .adF _ o e c d f;exact .step _ _ o e c d f (h _ _ b);rw[IT,zaU (by simp;omega)] at hb;simp at hb
def OI (ops:List Oper) (ms:List cZ):Bool:=
 (fun ks:List Nat=>(zaw ops.length).all fun i=>match ops[i]?,ms[i]? with
  |some o,some m=>(o.after.toList.all fun e=> !Region.binds .any e||decide (e.on<i))&&
   (zaw i).all fun j=>(ks.getD i 0).testBit j||(match ms[j]? with|some mj=>Hd mj m|none=>false)
  |_,_=>false) (It ops [])
structure abI (ops:Array Oper) (ms:List cZ):Prop where
 back:∀(i:Nat) (o:Oper),ops[i]? =some o->∀e∈o.after,Region.binds .any e=true->e.on<i
 pair:∀(i j:Nat) (o:Oper) (m:cZ),ops[i]? =some o->ms[i]? =some m->j<i->xU ops i j\/∃mj,ms[j]? =some mj/\Hd mj m=true
theorem aoO {ms:List cZ} (h:OI ops.toList ms=true):abI ops ms:=by
  simp only[OI,AT,zas] at h;have g:∀(i:Nat) (o:Oper),ops[i]? =some o->∃m,ms[i]? =some m/\(o.after.toList.all fun e=> !Region.binds .any e||decide (e.on<i))=true/\
        ∀j,j<i->(((It ops.toList []).getD i 0).testBit j||(match ms[j]? with|some f=>Hd f m|none=>false))=true:=by
    intro i o c;have hi:i<ops.toList.length:=by simpa using(Pd.1 c).1
    have a:=h i hi;have p:ops.toList[i]? =some o:=by simpa using c
    rw[p] at a;cases hm:ms[i]? with
    |none=>rw[hm] at a;cases a
    |some m=>
     rw[hm] at a;simp only[co,AT,zas] at a;exact⟨m,rfl,by rw[AT];exact a.1,a.2⟩
  refine⟨fun i o c e q hb=>?_,fun i j o m c hm hj=>?_⟩
  · obtain⟨m,_,l,_⟩:=g i o c;have:=AT.1 l e (zay.2 q);simp[hb] at this;exact this
  · obtain⟨m',d,_,n⟩:=g i o c;rw[hm] at d;injection d with d;subst d;have:=n j hj;rw[zam] at this;rcases this with b|b
    · exact .inl (YX ops.toList [] [] rfl rfl (by intro i k hb;simp at hb) i j b)
    · cases HT:ms[j]? with
      |none=>rw[HT] at b;cases b
      |some f=>rw[HT] at b;exact .inr ⟨f,rfl,b⟩
def S6 (ops:Array Oper) (fe:Array Bool):Prop:=
 ∀(k:Nat) (o:Oper),ops[k]? =some o->fe.getD k true=true->∀e∈o.after,Region.binds .any e=true->fe.getD e.on true=true
theorem acr {b:Array Bool} (d:S6 ops b) {i j:Nat} (hb:xU ops i j):(∀o,ops[i]? =some o->∀e∈o.after,Region.binds .any e=true->b.getD e.on true=true)->b.getD j true=true:=by induction hb with|adF i o e c a hb=>exact fun h=>h o c e a hb|step i j o e c a hb _ f=>exact fun h=>f fun g k=>d _ g k (h o c e a hb)
theorem ad3 (d:q8 P T) {ms:List cZ} (g:∀(i:Nat) (m:cZ),ms[i]? =some m->∃o,ops[i]? =some o/\zP P N ops o m=true) {i:Nat} {c:cZ} (hi:ms[i]? =some c) {post:List Nat} {f:St}: ∀{pre:List Nat} {σ:St},N8 B E w0 N σ->vr T ms (pre++i::post) σ=some f->(∀j∈pre,∃b,ms[j]? =some b/\Hd b c=true)-> ∃τ,gQ T c σ=some τ/\vr T ms (pre++post) τ=some f
 |[],σ,hr,hx,hc=>by simp only[za9,vr,hi] at hx;split at hx;rename_i σ1 e;exact⟨σ1,e,hx⟩;cases hx
 |j::pre,σ,hr,hx,hc=>by obtain⟨b,hj,p⟩:=hc j (by simp);simp only[zaO,vr,hj] at hx;split at hx;rename_i σ1 h;obtain⟨oj,_,n⟩:=g j b hj;obtain⟨t7,l,q⟩:=ad3 d g hi (ake hr d n h) hx (fun k s=>hc k (by simp[s]));obtain⟨a,w,G,r⟩:=hr;obtain⟨τ,t,u⟩:=ao5 r.wf p h l;exact⟨τ,t,by simp only[zaO,vr,hj,u];exact q⟩;cases hx
theorem aBL (U:q8 P T) {ms:List cZ} (X:∀(i:Nat) (m:cZ),ms[i]? =some m->∃o,ops[i]? =some o/\zP P N ops o m=true) (hlen:ms.length=ops.size) (hd:abI ops ms) {V:St} (K:∀a w G,R B E w0 N V a w G->Q .normal a w): ∀(p:Nat) (L:List Nat) (b:Array Bool) (σ:St) (a:Act) (w:World) (G:Gh),R B E w0 N σ a w G->vr T ms L σ=some V->L.Pairwise (·<·)->L.length<=p->b.size=ops.size-> (∀j,j∈L↔b.getD j true=false)->S6 ops b->wpAny P .any ops Q p b a w:=by(have first:∀(L:List Nat) (b:Array Bool),L.Pairwise (·<·)->b.size=ops.size->(∀j,j∈L↔b.getD j true=false)->Region.ready .any ops b=[]->L=[]:=by intro L b hp hs hL hr;cases L with|nil=>rfl|cons j L=>exfalso;have hj:=(hL j).1 (by simp);have C:j<ops.size:=(by rw[<-hs];rcases zaX j b.size with h|h;exact h;simp[zal h] at hj);have c:ops[j]? =some ops[j]:=zaJ C;have:j∈Region.ready .any ops b:=(by rw[mem_ready];refine⟨hj,_,c,fun e d hb=>?_⟩;have O:=hd.back j _ c e d hb;have rr:e.on∉j::L:=(by intro hm;cases hm with|head=>omega|tail _ hm=>have:=(zak.1 hp).1 _ hm;omega);have Y:b.getD e.on true≠false:=fun h=>rr ((hL e.on).2 h);have t:e.on<b.size:=(by omega);simp[t] at Y⊢;exact Y);rw[hr] at this;cases this);intro p;induction p with|zero=>intro L b σ a w G r hx hp hl hs hL D;have F:L=[]:=OF (by omega);subst F;simp only[vr] at hx;injection hx with hx;subst hx;refine⟨?_,K _ _ _ r⟩;(cases hr:Region.ready .any ops b with|nil=>rfl|cons i l=>have hm:i∈Region.ready .any ops b:=(by rw[hr];simp);have:=(hL i).2 (mem_ready.1 hm).1;cases this)|succ p ih=>intro L b σ a w G r hx hp hl hs hL D;refine⟨fun hr=>?_,fun i hi=>?_⟩;(have F:=first L b hp hs hL hr);subst F;simp only[vr] at hx;injection hx with hx;subst hx;exact K _ _ _ r;obtain⟨W8,oi,f,I⟩:=mem_ready.1 hi;have Ag:i∈L:=(hL i).2 W8;obtain⟨pre,post,rfl⟩:=za6 Ag;have Lt:i<ops.size:=(Pd.1 f).1;have A:ms[i]? =some ms[i]:=AI (by omega);obtain⟨o',u,yC⟩:=X i _ A;rw[f] at u;injection u with u;subst u;have n:=zaq.1 hp;obtain⟨τ,t1,t2⟩:=ad3 (ops:=ops) U X A ⟨a,w,G,r⟩ hx (fun j hj=>by have s:j<i:=n.2.2 j hj i (by simp);rcases hd.pair i j oi _ f A s with WH|h;have g:=acr D WH (fun o c e d hb=>by rw[f] at c;injection c with c;subst c;have g:=I e d hb;have O:=hd.back i _ f e d hb;have t:e.on<b.size:=(by omega);simp[t] at g⊢;exact g);have W:=(hL j).1 (by simp[hj]);rw[g] at W;cases W;exact h);have J:∀v w',Nx B E w0 N τ v w'->wpAny P .any ops Q p (b.setIfInBounds i true) v w':=(by rintro v w' ⟨G',r'⟩;refine ih (pre++post) _ τ v w' G' r' t2 ?_ (by simp at hl⊢;omega) (by simpa using hs) (fun j=>?_) (fun k o c Z e d hb=>?_);rw[zaq];exact⟨n.1,(zak.1 n.2.1).2,fun x hx y hy=>n.2.2 x hx y (by simp[hy])⟩;by_cases s:j=i;subst s;have C:j<b.size:=(by omega);simp only[By];constructor;rintro(h|h);have:=n.2.2 j h j (by simp);omega;have:=(zak.1 n.2.1).1 j h;omega;intro h;simp[C] at h;rw[getD_set_ne true (zaz s),<-hL j];simp[s];have M:∀q,b.getD q true=true->(b.setIfInBounds i true).getD q true=true:=(by intro q hq;by_cases H:q=i;subst H;have:q<b.size:=(by omega);simp[this];rw[getD_set_ne true (zaz H)];exact hq);by_cases S:k=i;subst S;rw[f] at c;injection c with c;subst c;have g:=I e d hb;have O:=hd.back k _ f e d hb;have t:e.on<b.size:=(by omega);refine M _ ?_;simp[t] at g⊢;exact g;rw[getD_set_ne true (zaz S)] at Z;exact M _ (D k o c Z e d hb));unfold wpOp;rw[f];simp only;rcases Ph (Q:=Q) r U yC t1 with⟨z,h⟩|⟨z,h⟩;rw[ah z];exact .inl (Oper.wp_mono J h);rw[ak (by simp[z])];exact J _ _ h
theorem adZ:∀(post pre:List cZ) (σ:St),vr T (pre++post) (zbg pre.length post.length) σ=oz T post σ
 |[],pre,σ=>by simp[vr,oz]
 |m::post,pre,σ=>by simp only[zax,List.range'_succ,vr,oz];rw[zai (zad _),zaW];simp only[zaL];cases gQ T m σ with|none=>rfl|some σ1=>have:=adZ post (pre++[m]) σ1;simp only[List.length_append,zax,zav,List.append_assoc,List.singleton_append,Nat.zero_add] at this;exact this
theorem Vj:∀{l:List Oper} {ms:List cZ},ul P N ops l ms=true->ms.length=l.length/\∀(i:Nat) (m:cZ),ms[i]? =some m->∃o,l[i]? =some o/\zP P N ops o m=true
 |[],[],_=>⟨rfl,by simp⟩
 |o::l,m::ms,hc=>by simp only[ul,co] at hc;obtain⟨i1,i2⟩:=Vj hc.2;refine⟨by simp[i1],fun i a hm=>?_⟩;cases i with|zero=>simp at hm;subst hm;exact⟨o,rfl,hc.1⟩|succ i=>exact i2 i a (by simpa using hm)
 |[],_::_,hc=>by simp[ul] at hc
 |_::_,[],hc=>by simp[ul] at hc
theorem R.drawn (r:R B E w0 N σ a w G) (k:Nat):R B E w0 N σ a {w with drawn:=k} G:=by have c:∀b,b<w.heap.size->({w with drawn:=k}:World).heap[b]? =w.heap[b]? :=fun _ _=>rfl;exact r.step rfl (fun _ h=>h) (cm.world (fun b hb=>c b (r.hr.jX b hb)) _) (r.hr.grow c (zad _)) (r.fr.grow c (zad _) rfl rfl rfl)
theorem azn (e:q8 P T) (hm:P.follows .mixedOrders=true) {id:Nat} {c:Bool} {ms:List cZ} (f:ul P N ops ops.toList ms=true) (hd:c=true->OI ops.toList ms=true) (hx:oz T ms σ=some σ') (r:R B E w0 N σ a w G) (d:∀a w G,R B E w0 N σ' a w G->Q .normal a w):(Code.region id ops c).wp P Q a w:=by cases c with|false=>exact wp_region_list (abA e f hx r d)|true=>obtain⟨g,l⟩:=Vj f;have b:ms.length=ops.size:=(by simpa using g);refine wp_region_any hm (aBL (B:=B) (E:=E) (w0:=w0) (N:=N) e (fun i m h=>by obtain⟨o,p,n⟩:=l i m h;exact⟨o,by simpa using p,n⟩) b (aoO (hd rfl)) d ops.size (zaw ops.size) _ σ a _ G (r.drawn _) ?_ ?_ (by simp) (by simp) (fun j=>?_) (fun k o s t=>?_));have:=adZ (T:=T) ms [] σ;simp only[za9,zav,b,<-za0] at this;rw[this];exact hx;exact zaQ;rw[zas];constructor;intro h;simp[h];intro h;rcases zaX j ops.size with h'|h';exact h';simp[zal (show(zba ops.size false).size<=j by simpa using h')] at h;exfalso;have q:k<ops.size:=(Pd.1 s).1;simp[q] at t
end
theorem ZJ (ok:Nat->Bool) (env:Nat->au):∀(a:List Nat) (n:Nat),A6 ok env a n=if n∈a then(env n).dX ok else .one .bZ
 |[],n=>by simp[A6,B3]
 |s::a,n=>by simp only[A6,mR,ZJ ok env a,zan];by_cases h:n=s;subst h;simp;simp[h]
theorem Rh (ok:Nat->Bool) (h:Nat->Option aA):∀(d:List Nat) (n:Nat),v5 ok h d n=if n∈d/\ok n=true then(h n).map (·.dX ok) else none
 |[],n=>by simp[v5,Hm]
 |s::d,n=>by have c:=Rh ok h d n;simp only[v5,zan];by_cases hn:n=s;subst hn;by_cases a:ok n=true;rw[ah a];(cases hh:h n with|some b=>simp[cX,a]|none=>simp only[c,hh];simp);rw[ak a,c];simp[a];by_cases a:ok s=true;rw[ah a];(cases hh:h s with|some b=>simp only[dJ _ _ _ _ hn,c];simp[hn]|none=>simp only[c];simp[hn]);rw[ak a,c];simp[hn]
theorem akm (ok:Nat->Bool):∀(b:List Nat) (n:Nat),A7 ok b n=(decide (n∈b)&&ok n)
 |[],n=>by simp[A7,adL]
 |s::b,n=>by have c:=akm ok b n;simp only[A7];by_cases hn:n=s;subst hn;by_cases a:ok n=true;rw[ah a];simp[cX,a];rw[ak a,c];simp[a];by_cases a:ok s=true;rw[ah a,dJ _ _ _ _ hn,c];simp[hn];rw[ak a,c];simp[hn]
theorem aj.aoR {ok:Nat->Bool} {c:aj} {m:Nat} (h:(c.hY ok).j4 m):ok m=true:=by(cases c<;>simp only[aj.hY] at h<;>first|exact h.elim|skip);all_goals split at h;rename_i a;have h':=h;simp only[aj.j4] at h';subst h';exact a;exact h.elim
theorem aj.G8 {ok:Nat->Bool} {c:aj} {m:Nat} (h:(c.dX ok).ref m):ok m=true:=by cases c with|fn f dM=>obtain⟨x,hx,h⟩:=h;obtain⟨y,hy,rfl⟩:=BY.1 hx;exact aj.aoR h|c x=>exact h.elim|nil sz=>exact h.elim|dN xs off=>exact h.elim|bZ=>exact h.elim|ptr n k sz off=>simp only[aj.dX,aj.hY] at h;split at h;rename_i a;have h':m=n:=h;subst h';exact a;exact h.elim|sl n sz lo len=>simp only[aj.dX,aj.hY] at h;split at h;rename_i a;have h':m=n:=h;subst h';exact a;exact h.elim|cF n k b off sz len=>simp only[aj.dX,aj.hY] at h;split at h;rename_i a;have h':m=n:=h;subst h';exact a;exact h.elim|dU n k b off sz i=>simp only[aj.dX,aj.hY] at h;split at h;rename_i a;have h':m=n:=h;subst h';exact a;exact h.elim|dh xs off j n sz len=>simp only[aj.dX,aj.hY] at h;split at h;rename_i a;have h':m=n:=h;subst h';exact a;exact h.elim
section
variable {B N:Nat} {E:Ex} {w0 w w':World} {G G':Gh} {h h':Nat->Option aA} {ok:Nat->Bool} {P:Program} {T:bj} {a:Act} {σ σ':St} {Q:Exit->Act->World->Prop}
structure t8 (ok:Nat->Bool) (h h':Nat->Option aA):Prop where
 le:∀n,ok n=true->h' n=(h n).map (·.dX ok)\/h' n=none
 no:∀n,ok n=false->h' n=none
theorem t8.ne (L:t8 ok h h') {n:Nat} (hn:h' n≠none):ok n=true/\h n≠none:=by cases hk:ok n with|false=>exact absurd (L.no n hk) hn|true=>refine⟨rfl,fun e=>?_⟩;rcases L.le n hk with a|a;rw[e] at a;exact hn a;exact hn a
theorem t8.row (L:t8 ok h h') {n:Nat} {c:Bool} {m:Mode} {sz:Nat} {xs:List (List C)} (hn:h' n=some (.row c m sz xs)):h n=some (.row c m sz xs):=by obtain⟨d,e⟩:=L.ne (n:=n) (by rw[hn];simp);rcases L.le n d with a|a;rw[a] at hn;(cases hh:h n with|none=>exact absurd hh e|some b=>cases b with|box cs=>rw[hh] at hn;simp[aA.dX] at hn|row c m sz xs=>rw[hh] at hn;simp only[wt,aA.dX] at hn;exact hn);rw[a] at hn;cases hn
theorem t8.box (L:t8 ok h h') {n:Nat} {cs:List aj} (hn:h' n=some (.box cs)):∃a,h n=some (.box a)/\cs=a.map (·.dX ok):=by obtain⟨d,e⟩:=L.ne (n:=n) (by rw[hn];simp);rcases L.le n d with c|c;rw[c] at hn;(cases hh:h n with|none=>exact absurd hh e|some b=>cases b with|box a=>rw[hh] at hn;simp only[wt,aA.dX] at hn;injection hn with hn;injection hn with hn;exact⟨a,rfl,hn.symm⟩|row gr m sz xs=>rw[hh] at hn;simp[aA.dX] at hn);rw[c] at hn;cases hn
theorem jQ.less (L:t8 ok h h') {c:aj} {v:Value} (a:jQ w G h c v):jQ w G h' (c.hY ok) v:=by cases c with|ptr n k sz off=>simp only[aj.hY];split;exact fun hn=>a (L.ne hn).2;trivial|sl n sz lo len=>simp only[aj.hY];split;exact fun hn=>a (L.ne hn).2;trivial|cF n k r off sz len=>simp only[aj.hY];split;exact fun d xs hn=>a d xs (L.row hn);trivial|dU n k r off sz i=>simp only[aj.hY];split;exact fun d xs hn=>a d xs (L.row hn);trivial|dh xs off j n sz len=>simp only[aj.hY];split;obtain⟨b,o,pe,l,g,q,e,m⟩:=a;obtain⟨u,s,u2,p⟩:=m;exact⟨b,o,pe,l,g,q,e,u,s,u2,fun hn=>p (L.ne hn).2⟩;trivial|c x=>exact a|nil sz=>exact a|dN xs off=>exact a|fn f dM=>exact a|bZ=>exact a
theorem RC.less (L:t8 ok h h') {c:aj} {v:Value} (a:RC w G h c v):RC w G h' (c.dX ok) v:=by cases c with|fn f o=>obtain⟨vs,m,l,d⟩:=a;refine⟨vs,m,by simpa using l,fun j c u hj e=>?_⟩;rw[AN] at hj;(cases a:o[j]? with|none=>rw[a] at hj;cases hj|some g=>rw[a] at hj;simp at hj;subst hj;exact⟨(d j g u a e).1,(d j g u a e).2.less L⟩)|ptr n k sz off=>have:=jQ.less (w:=w) (G:=G) L (c:=.ptr n k sz off) a;simp only[aj.dX];rw[wO];exact this;simp only[aj.hY];split<;>rfl|sl n sz lo len=>have:=jQ.less (w:=w) (G:=G) L (c:=.sl n sz lo len) a;simp only[aj.dX];rw[wO];exact this;simp only[aj.hY];split<;>rfl|cF n k b off sz len=>have:=jQ.less (w:=w) (G:=G) L (c:=.cF n k b off sz len) a;simp only[aj.dX];rw[wO];exact this;simp only[aj.hY];split<;>rfl|dU n k b off sz i=>have:=jQ.less (w:=w) (G:=G) L (c:=.dU n k b off sz i) a;simp only[aj.dX];rw[wO];exact this;simp only[aj.hY];split<;>rfl|dh xs off j n sz len=>have:=jQ.less (w:=w) (G:=G) L (c:=.dh xs off j n sz len) a;simp only[aj.dX];rw[wO];exact this;simp only[aj.hY];split<;>rfl|c x=>exact a|nil sz=>exact a|dN xs off=>exact a|bZ=>exact a
theorem ed.less (L:t8 ok h h') {cs:List aj} {vs:List Value} (a:ed w G h cs vs):ed w G h' (cs.map (·.dX ok)) vs:=by refine⟨by simpa using a.1,fun j c u hj b=>?_⟩;rw[AN] at hj;cases e8:cs[j]? with|none=>rw[e8] at hj;cases hj|some d=>rw[e8] at hj;simp at hj;subst hj;exact⟨(a.2 j d u e8 b).1,(a.2 j d u e8 b).2.less L⟩
theorem RV.less (L:t8 ok h h') {ag:Bool} {cs:List aj} {v:Value} (a:RV w G h ag cs v):RV w G h' ag (cs.map (·.dX ok)) v:=by unfold RV at*;split;rename_i b;simp only[b,if_true] at a;obtain⟨vs,e,c⟩:=a;exact⟨vs,e,c.less L⟩;rename_i b;simp only[b] at a;exact ed.less L a
theorem RA.less (L:t8 ok h h') {x:au} {v:Value} (a:RA w G h x v):RA w G h' (x.dX ok) v:=by cases x with|one c=>rcases a with rfl|a;exact zbi rfl;exact Or.inr (RV.less L a)|agg cs=>exact RV.less L a|ct xs=>obtain⟨vs,e,hl,d⟩:=a;refine⟨vs,e,by simpa using hl,fun j x u hj b=>?_⟩;rw[AN] at hj;cases e8:xs[j]? with|none=>rw[e8] at hj;cases hj|some f=>rw[e8] at hj;simp at hj;subst hj;exact RV.less L (d j f u e8 b)
theorem au.G8 {x:au} {m:Nat} (h:(x.dX ok).ref m):ok m=true:=by cases x with|one c=>exact aj.G8 h|agg cs=>obtain⟨c,a,h⟩:=h;obtain⟨d,b,rfl⟩:=BY.1 a;exact aj.G8 h|ct xs=>obtain⟨x,hx,c,a,h⟩:=h;obtain⟨x0,hx0,rfl⟩:=BY.1 hx;obtain⟨d,b,rfl⟩:=BY.1 a;exact aj.G8 h
theorem HR.less {used:Nat->Bool} (H:HR B E w G h used []) (L:t8 ok h h'):HR B E w G h' ok []:=by refine⟨fun n hn=>(L.ne hn).1,fun m cs c n hm x hr=>?_,fun n cs hn=>?_,fun n a m sz xs hn=>H.row n a m sz xs (L.row hn),fun n hn=>H.own n (L.ne hn).2,fun n e hn d=>H.inj n e (L.ne hn).2 (L.ne d).2, H.jX,H.tx,fun n e a m sz xs y o k u hn d=>H.ji n e a m sz xs y o k u (L.row hn) (L.row d),fun n a sz xs hn b hb e d=>H.live n a sz xs (L.row hn) b hb e (L.ne d).2,?_,?_,?_⟩;obtain⟨f,_,rfl⟩:=L.box hm;obtain⟨g,_,rfl⟩:=BY.1 x;exact aj.G8 hr;obtain⟨f,r,rfl⟩:=L.box hn;obtain⟨q,t,p⟩:=H.box n f r;refine⟨q,t,fun j c hj=>?_⟩;rw[AN] at hj;(cases e8:f[j]? with|none=>rw[e8] at hj;cases hj|some g=>rw[e8] at hj;simp at hj;subst hj;obtain⟨v,l,z,s⟩:=p j g e8;exact⟨v,l,z,s.less L⟩);intro i pc hi;simp at hi;intro i j pc eW b _ hi;simp at hi;intro i pc n a m sz xs b hi;simp at hi
theorem HR.aBt {used used':Nat->Bool} (H:HR B E w G h used []) (a:∀n,used n=true->used' n=true):HR B E w G h used' []:= ⟨fun n hn=>a n (H.lc n hn),fun m cs c n hm b hr=>a n (H.kq m cs c n hm b hr),H.box,H.row,H.own,H.inj,H.jX,H.tx,H.ji,H.live,H.wz,H.Bm,H.wA⟩
theorem Zd {ke a:List Nat} {n:Nat} (hn:σ.mN ke a n=true):n∈a:=by simp only[St.mN,co] at hn;simpa using hn.1.1
theorem R.lG (r:R B E w0 N σ a w G) (ke c:List Nat):R B E w0 N (σ.lG ke c) a w G:=by have L:t8 (σ.mN ke c) σ.h (σ.lG ke c).h:=(by refine⟨fun n hn=>.inl ?_,fun n hn=>?_⟩;show v5 _ _ _ n=_;rw[Rh,ah ⟨Zd hn,hn⟩];show v5 _ _ _ n=_;rw[Rh,ak (by simp[hn])]);have i:∀n,σ.mN ke c n=true->(σ.lG ke c).used n=true:=(by intro n f;show(Nat.ble aL n||A7 _ _ n)=true;rw[akm];simp[f,Zd f]);refine⟨r.defers,r.size,fun s=>?_,fun s n hn=>?_,?_,r.fr,fun n p b hp hb=>?_,fun n hn=>?_⟩;show RA w G _ (A6 _ _ _ s) _;rw[ZJ];split;exact(r.env s).less L;exact zbi rfl;have g:(A6 (σ.mN ke c) σ.env ke s).ref n:=hn;rw[ZJ] at g;split at g;exact i n (au.G8 g);exact absurd g id;exact(r.hr.less L).aBt i;have o:(σ.lG ke c).h n≠none:=(by rw[hb];simp);obtain⟨f,_⟩:=L.ne o;have vH:=fun b0 (e:σ.h n=some b0)=>r.nZ n p b0 hp e;have d:v5 (σ.mN ke c) σ.h c n=some b:=hb;rw[Rh,ah ⟨Zd f,f⟩] at d;(cases e:σ.h n with|none=>rw[e] at d;cases d|some b0=>obtain⟨p1,m,v,p4,l,k⟩:=vH b0 e;refine⟨p1,m,v,p4,l,fun gr sz xs u=>?_⟩;rw[e,u] at d;cases b0 with|box cs=>simp[aA.dX] at d|row t m' j q=>simp only[aA.dX,wt,zao,aA.row.injEq] at d;obtain⟨_,rfl,_,_⟩:=d;exact k t j q rfl);show(Nat.ble aL n||_)=true;rw[zaY hn];rfl
end
def back (x c n:Nat):Nat:=if n=c then x else n
theorem acq {x c n:Nat} (hn:n≠c):back x c (rO x c n)=n:=by unfold back rO;by_cases h:n=x;subst h;simp;simp[h,hn]
theorem azv {x c n:Nat} (hx:x≠c) (hn:n≠c):rO x c n≠x:=by unfold rO;by_cases h:n=x;simp[h];exact fun e=>hx e.symm;simp[h]
structure sW (x c:Nat) (used:Nat->Bool) (h h':Nat->Option aA):Prop where
 ne:x≠c
 uc:used c=false
 gone:h' x=none
 b:∀n,n≠x->h' n=(h (back x c n)).map (·.bN x c)
section
variable {B N x c:Nat} {E:Ex} {w0 w w':World} {G G':Gh} {h h':Nat->Option aA} {used:Nat->Bool} {P:Program} {T:bj} {a:Act} {σ σ':St} {Q:Exit->Act->World->Prop}
def yw (G:Gh) (x c:Nat):Gh:=⟨G.Im,fun n=>G.g (back x c n)⟩
theorem sW.at (L:sW x c used h h') {n:Nat} (hn:used n=true):h' (rO x c n)=(h n).map (·.bN x c):=by
 have a:n≠c:=fun e=>by subst e;rw[L.uc] at hn;cases hn
 rw[L.b _ (azv L.ne a),acq a]
theorem sW.Lc (L:sW x c used h h') {n:Nat} (hn:used n=true):(yw G x c).g (rO x c n)=G.g n:=by
 have a:n≠c:=fun e=>by subst e;rw[L.uc] at hn;cases hn
 show G.g (back x c (rO x c n))=_;rw[acq a]
theorem QF {o:Option aA} (hn:o.map (·.bN x c)≠none):o≠none:=by cases o with|none=>exact absurd rfl hn|some b=>simp
theorem YV {o:Option aA} {a:Bool} {m:Mode} {sz:Nat} {xs:List (List C)} (hn:o.map (·.bN x c)=some (.row a m sz xs)):o=some (.row a m sz xs):=by cases o with|none=>cases hn|some b=>cases b with|box cs=>simp[aA.bN] at hn|row a m sz xs=>exact hn
theorem ag6 {o:Option aA} {cs:List aj} (hn:o.map (·.bN x c)=some (.box cs)):∃a,o=some (.box a)/\cs=a.map (·.bN x c):=by cases o with|none=>cases hn|some b=>cases b with|box a=>simp only[wt,aA.bN] at hn;injection hn with hn;injection hn with hn;exact⟨a,rfl,hn.symm⟩|row gr m sz xs=>simp[aA.bN] at hn
theorem jQ.bN (L:sW x c used h h') {y:aj} {v:Value} (hr:∀m,y.j4 m->used m=true) (a:jQ w G h y v):jQ w (yw G x c) h' (y.sM x c) v:=by cases y with|ptr n k sz off=>intro hn;rw[L.at (hr n rfl)] at hn;rw[L.Lc (hr n rfl)];exact a (QF hn)|sl n sz lo len=>intro hn;rw[L.at (hr n rfl)] at hn;rw[L.Lc (hr n rfl)];exact a (QF hn)|cF n k s off sz len=>intro d xs hn;rw[L.at (hr n rfl)] at hn;rw[L.Lc (hr n rfl)];exact a d xs (YV hn)|dU n k s off sz i=>intro d xs hn;rw[L.at (hr n rfl)] at hn;rw[L.Lc (hr n rfl)];exact a d xs (YV hn)|dh xs off j n sz len=>obtain⟨b,o,pe,l,g,r,e,p⟩:=a;obtain⟨u,t,u2,q⟩:=p;refine⟨b,o,pe,l,g,r,e,u,t,u2,fun hn=>?_⟩;rw[L.at (hr n rfl)] at hn;rw[L.Lc (hr n rfl)];exact q (QF hn)|c x=>exact a|nil sz=>exact a|dN xs off=>exact a|fn f dM=>exact a|bZ=>exact a
theorem RC.bN (L:sW x c used h h') {y:aj} {v:Value} (hr:∀m,y.ref m->used m=true) (a:RC w G h y v):RC w (yw G x c) h' (y.bN x c) v:=by cases y with|fn f p=>obtain⟨vs,o,l,e⟩:=a;refine⟨vs,o,by simpa using l,fun j y u hj g=>?_⟩;rw[AN] at hj;(cases a:p[j]? with|none=>rw[a] at hj;cases hj|some d=>rw[a] at hj;simp at hj;subst hj;exact⟨(e j d u a g).1,(e j d u a g).2.bN L fun m hm=>hr m ⟨d,so a,hm⟩⟩)|ptr n k sz off=>exact jQ.bN (w:=w) (G:=G) L (y:=.ptr n k sz off) hr a|sl n sz lo len=>exact jQ.bN (w:=w) (G:=G) L (y:=.sl n sz lo len) hr a|cF n k b off sz len=>exact jQ.bN (w:=w) (G:=G) L (y:=.cF n k b off sz len) hr a|dU n k b off sz i=>exact jQ.bN (w:=w) (G:=G) L (y:=.dU n k b off sz i) hr a|dh xs off j n sz len=>exact jQ.bN (w:=w) (G:=G) L (y:=.dh xs off j n sz len) hr a|c x=>exact a|nil sz=>exact a|dN xs off=>exact a|bZ=>exact a
theorem ed.bN (L:sW x c used h h') {cs:List aj} {vs:List Value} (hr:∀y∈cs,∀m,y.ref m->used m=true) (a:ed w G h cs vs):ed w (yw G x c) h' (cs.map (·.bN x c)) vs:=by refine⟨by simpa using a.1,fun j y u hj d=>?_⟩;rw[AN] at hj;cases e8:cs[j]? with|none=>rw[e8] at hj;cases hj|some b=>rw[e8] at hj;simp at hj;subst hj;exact⟨(a.2 j b u e8 d).1,(a.2 j b u e8 d).2.bN L (hr b (so e8))⟩
theorem RV.bN (L:sW x c used h h') {ag:Bool} {cs:List aj} {v:Value} (hr:∀y∈cs,∀m,y.ref m->used m=true) (a:RV w G h ag cs v):RV w (yw G x c) h' ag (cs.map (·.bN x c)) v:=by unfold RV at*;split;rename_i b;simp only[b,if_true] at a;obtain⟨vs,e,d⟩:=a;exact⟨vs,e,d.bN L hr⟩;rename_i b;simp only[b] at a;exact ed.bN L hr a
theorem RA.bN (L:sW x c used h h') {y:au} {v:Value} (hr:∀m,y.ref m->used m=true) (b:RA w G h y v):RA w (yw G x c) h' (y.bN x c) v:=by cases y with|one y=>rcases b with rfl|b;exact zbi rfl;exact Or.inr (RV.bN L (fun z a m hm=>hr m (by simp at a;subst a;exact hm)) b)|agg cs=>exact RV.bN L (fun z a m hm=>hr m ⟨z,a,hm⟩) b|ct xs=>obtain⟨vs,e,hl,g⟩:=b;refine⟨vs,e,by simpa using hl,fun j y u hj f=>?_⟩;rw[AN] at hj;cases e8:xs[j]? with|none=>rw[e8] at hj;cases hj|some d=>rw[e8] at hj;simp at hj;subst hj;exact RV.bN L (fun z a m hm=>hr m ⟨d,so e8,z,a,hm⟩) (g j d u e8 f)
def DD (used:Nat->Bool) (x c:Nat):Nat->Bool:=fun n=>if n=c then used x else if n=x then false else used n
theorem aj.IU (L:sW x c used h h') {y:aj} {m:Nat} (hr:∀m,y.j4 m->used m=true) (hm:(y.sM x c).j4 m):DD used x c m=true:=by have b:∀n,used n=true->m=rO x c n->DD used x c m=true:=(by intro n hn e;subst e;have d:n≠c:=fun e=>(by subst e;rw[L.uc] at hn;cases hn);unfold DD rO;by_cases a:n=x;subst a;simp[hn];simp[a,d,hn]);cases y<;>first|exact absurd hm id|exact b _ (hr _ rfl) hm
theorem aj.IX (L:sW x c used h h') {y:aj} {m:Nat} (hr:∀m,y.ref m->used m=true) (hm:(y.bN x c).ref m):DD used x c m=true:=by cases y with|fn f dM=>obtain⟨z,b,hm⟩:=hm;obtain⟨z0,d,rfl⟩:=BY.1 b;exact aj.IU L (fun m hm=>hr m ⟨z0,d,hm⟩) hm|ptr n k sz off=>exact aj.IU L (y:=.ptr n k sz off) hr hm|sl n sz lo len=>exact aj.IU L (y:=.sl n sz lo len) hr hm|cF n k a off sz len=>exact aj.IU L (y:=.cF n k a off sz len) hr hm|dU n k a off sz i=>exact aj.IU L (y:=.dU n k a off sz i) hr hm|dh xs off j n sz len=>exact aj.IU L (y:=.dh xs off j n sz len) hr hm|c x=>exact absurd hm id|nil sz=>exact absurd hm id|dN xs off=>exact absurd hm id|bZ=>exact absurd hm id
theorem au.IX (L:sW x c used h h') {y:au} {m:Nat} (hr:∀m,y.ref m->used m=true) (hm:(y.bN x c).ref m):DD used x c m=true:=by cases y with|one y=>exact aj.IX L hr hm|agg cs=>obtain⟨z,b,hm⟩:=hm;obtain⟨z0,a,rfl⟩:=BY.1 b;exact aj.IX L (fun m hm=>hr m ⟨z0,a,hm⟩) hm|ct xs=>obtain⟨p,hp,z,b,hm⟩:=hm;obtain⟨d,e,rfl⟩:=BY.1 hp;obtain⟨z0,a,rfl⟩:=BY.1 b;exact aj.IX L (fun m hm=>hr m ⟨d,e,z0,a,hm⟩) hm
theorem HR.bN (H:HR B E w G h used []) (L:sW x c used h h'):HR B E w (yw G x c) h' (DD used x c) []:=by have nx:∀n,h' n≠none->n≠x:=fun n hn e=>(by subst e;exact hn L.gone);have hb:∀n,h' n≠none->h (back x c n)≠none:=fun n hn=>(by have:=L.b n (nx n hn);rw[this] at hn;exact QF hn);have r:∀{n d m sz xs},h' n=some (.row d m sz xs)->h (back x c n)=some (.row d m sz xs):=(by intro n d m sz xs hn;have:=L.b n (nx n (by rw[hn];simp));rw[this] at hn;exact YV hn);have C:∀n a,n≠x->a≠x->n≠a->back x c n≠back x c a:=(by intro n a A k h3;unfold back;by_cases g:n=c;by_cases s:a=c;omega;simp[g,s];omega;by_cases s:a=c;simp[g,s];omega;simp[g,s];omega);have K:∀n,n≠x->used (back x c n)=true->DD used x c n=true:=(by intro n A k;unfold DD;unfold back at k;by_cases g:n=c;simp[g] at k⊢;exact k;simp[g] at k;simp[g,A,k]);refine⟨fun n hn=>K n (nx n hn) (H.lc _ (hb n hn)),fun m cs y n hm hy hr=>?_,fun n cs hn=>?_,fun n d m sz xs hn=>?_,fun n hn=>H.own _ (hb n hn), fun n a hn f z=>H.inj _ _ (hb n hn) (hb a f) (C n a (nx n hn) (nx a f) z),H.jX,H.tx,fun n a d m sz xs S I D R hn f hm P z=>H.ji _ _ d m sz xs S I D R (r hn) (r f) hm P (C n a (nx n (by rw[hn];simp)) (nx a (by rw[f];simp)) z),fun n d sz xs hn b V a f=>H.live _ d sz xs (r hn) b V _ (hb a f),?_,?_,?_⟩;have J:=nx m (by rw[hm];simp);rw[L.b m J] at hm;obtain⟨l,o,rfl⟩:=ag6 hm;obtain⟨p,t,rfl⟩:=BY.1 hy;exact aj.IX L (fun q u=>H.kq _ l p q o t u) hr;have T:=nx n (by rw[hn];simp);rw[L.b n T] at hn;obtain⟨l,o,rfl⟩:=ag6 hn;obtain⟨N,Q,M⟩:=H.box _ l o;refine⟨N,Q,fun j y hj=>?_⟩;rw[AN] at hj;(cases e8:l[j]? with|none=>rw[e8] at hj;cases hj|some p=>rw[e8] at hj;simp at hj;subst hj;obtain⟨v,F,U,O⟩:=M j p e8;exact⟨v,F,U,O.bN L fun q u=>H.kq _ l p q o (so e8) u⟩);have hr:=H.row _ d m sz xs (r hn);refine⟨hr.pos,hr.er,hr.nl,hr.f6,hr.room,?_,hr.nr⟩;have hm:=hr.mode;cases m<;>exact hm;intro i pc hi;simp at hi;intro i j pc eW b _ hi;simp at hi;intro i pc n d m sz xs b hi;simp at hi
theorem R.bN (r:R B E w0 N σ a w G) (hx:σ.bN x c=some σ'):∃G',R B E w0 N σ' a w G':=by
 unfold St.bN at hx;split at hx
 ·injection hx with hx;subst hx;exact⟨G,r⟩
 ·rename_i u;split at hx
  ·injection hx with hx;subst hx;exact⟨G,r⟩
  rename_i o;split at hx
  ·cases hx
  ·rename_i q;injection hx with hx;subst hx;have t:¬aL<=c:=fun k=>by rw[r.AS c k] at q;exact q rfl
   have i:¬aL<=x:=fun k=>o (zaY k);have A:σ.used c=false:=by simpa using q
   have L:sW x c σ.used σ.h (fun n=>if n=c then(σ.h x).map (·.bN x c) else if n=x then none else(σ.h n).map (·.bN x c)):=by
    refine⟨u,A,by simp[u],fun n hn=>?_⟩;unfold back;by_cases f:n=c
    ·simp[f]
    ·simp[f,hn]
   exact⟨yw G x c,r.defers,r.size,fun s=>(r.env s).bN L (fun m hm=>r.t6 s m hm),fun s n hn=>au.IX L (fun m hm=>r.t6 s m hm) hn,r.hr.bN L,r.fr,fun n p b hp hb=>by
    have hn:=E.lt n p hp;have j:n≠c:=fun e=>t (e▸hn);have l:n≠x:=fun e=>i (e▸hn);have d:(if n=c then(σ.h x).map (·.bN x c) else if n=x then none else(σ.h n).map (·.bN x c))=some b:=hb
    rw[ak j,ak l] at d;have D:(yw G x c).g n=G.g n:=by simp[yw,back,j]
    rw[D];cases f:σ.h n with
    |none=>rw[f] at d;cases d
    |some b0=>
     obtain⟨p1,C,J,p4,z,y⟩:=r.nZ n p b0 hp f;refine⟨p1,C,J,p4,z,fun gr sz xs I=>?_⟩;rw[f,I] at d;cases b0 with
     |box cs=>simp[aA.bN] at d
     |row H m' v F=>
      simp only[aA.bN,wt,zao,aA.row.injEq] at d;obtain⟨_,rfl,_,_⟩:=d;exact y H v F rfl,fun n hn=>by
    have j:n≠c:=fun e=>t (e▸hn);have l:n≠x:=fun e=>i (e▸hn);show(if n=c then σ.used x else if n=x then false else σ.used n)=true
    rw[ak j,ak l];exact r.AS n hn⟩
theorem R.agc (r:R B E w0 N σ a w G) {m:Mode} {sz:Nat} (z:0<sz) (hx:σ.ins c (.row true m sz [])=some σ'): ∃G',R B E w0 N σ' a w G'/\RC w G' σ'.h (.sl c sz 0 0) (.slice none 0 0):=by obtain⟨hn,rfl⟩:=rD hx;have g:∀b,¬bF b ([]:List (List PC)):=(by rintro b ⟨k,j,q,⟨e,d,_⟩,_⟩;simp at d);have s:lK ([]:List (List PC)):=⟨by rintro k j q ⟨e,d,_⟩;simp at d,by rintro k j q k' j' q' b ⟨e,d,_⟩;simp at d⟩;have H:=r.hr.insert (w':=w) (n:=c) (blk:=.row true m sz []) (p:=⟨true,0,0,0,[],none⟩) hn (fun _ _=>rfl) (zad _) (fun f=>by cases f) (fun cs y q hb=>by cases hb) (by refine⟨z,rfl,fun _=>⟨rfl,fun _=>rfl⟩,(fun f=>by cases f),(fun f=>by cases f),?_,fun _ _ k pc A=>by obtain⟨e,d,_⟩:=A;simp at d⟩;cases m with|aQ=>exact fun b hb=>absurd hb (g b)|aS=>exact⟨fun b hb=>absurd hb (g b),s⟩|live=>exact⟨fun b hb=>absurd hb (g b),s⟩) (fun u v o t hb hm n' cd oH qf kU h0 ma b l=>absurd l (g b)) (fun u o t hb b l=>absurd l (g b)) (fun u v o t hb hm i pc b hi=>by simp at hi);refine⟨_,r.step rfl (fun q x=>xS _ _ x) (cm.insert r.hr hn (fun _ _=>rfl)) H r.fr,fun _=>?_⟩;simp only[cX];exact zbi ⟨rfl,rfl,rfl,rfl⟩
end
theorem aj.OX (n:Nat) (c:aj):c.pO n=c\/c.pO n=.bZ:=by(cases c<;>first|(exact .inl rfl)|skip);rename_i m k a off sz len;(cases h:Nat.beq m n with|true=>exact .inr (by simp[aj.pO,h])|false=>exact .inl (by simp[aj.pO,h]));rename_i m k a off sz i;cases h:Nat.beq m n with|true=>exact .inr (by simp[aj.pO,h])|false=>exact .inl (by simp[aj.pO,h])
theorem aj.apm {n m:Nat} {c:aj} (h:(c.pO n).j4 m):c.j4 m:=by rcases c.OX n with a|a;rwa[a] at h;rw[a] at h;exact h.elim
theorem aj.Vv (n:Nat) (c:aj) (a:c.kP=false):c.cut n=c.pO n:=by cases c<;>first|rfl|(simp[aj.kP] at a)
theorem aj.Hj {n m:Nat} {c:aj} (h:(c.cut n).ref m):c.ref m:=by by_cases b:c.kP=false;rw[aj.Vv n c b] at h;rcases c.OX n with a|a;rwa[a] at h;rw[a] at h;exact h.elim;(cases c<;>first|(simp[aj.kP] at b;done)|skip);obtain⟨x,hx,hm⟩:=h;obtain⟨y,hy,rfl⟩:=BY.1 hx;exact⟨y,hy,aj.apm hm⟩
theorem au.Hj {n m:Nat} {x:au} (h:(x.cut n).ref m):x.ref m:=by cases x with|one c=>exact aj.Hj h|agg cs=>obtain⟨c,a,hm⟩:=h;obtain⟨y,hy,rfl⟩:=BY.1 a;exact⟨y,hy,aj.Hj hm⟩|ct xs=>obtain⟨x,hx,c,a,hm⟩:=h;obtain⟨y,hy,rfl⟩:=BY.1 hx;obtain⟨z,b,rfl⟩:=BY.1 a;exact⟨y,hy,z,b,aj.Hj hm⟩
section
variable {B N n:Nat} {E:Ex} {w0 w w':World} {G G':Gh} {h h':Nat->Option aA} {used:Nat->Bool} {P:Program} {a:Act} {σ σ':St} {o:Oper} {Q:Exit->Act->World->Prop} {T:bj}
theorem B2 {m:Nat} (hm:(h m).map (aA.cut n)≠none):h m≠none:=by intro a;rw[a] at hm;exact hm rfl
theorem Ed {m:Nat} {a:Bool} {c:Mode} {sz:Nat} {xs:List (List C)} (hm:(h m).map (aA.cut n)=some (.row a c sz xs)):h m=some (.row a c sz xs):=by cases hh:h m with|none=>rw[hh] at hm;cases hm|some b=>rw[hh] at hm;cases b with|box cs=>simp[aA.cut] at hm|row cd oH ba aH=>simpa[aA.cut] using hm
theorem adk {m:Nat} {cs:List aj} (hm:(h m).map (aA.cut n)=some (.box cs)):∃a,h m=some (.box a)/\cs=a.map (·.cut n):=by cases hh:h m with|none=>rw[hh] at hm;cases hm|some b=>rw[hh] at hm;cases b with|box a=>simp[aA.cut] at hm;exact⟨a,rfl,hm.symm⟩|row cd oH ba aH=>simp[aA.cut] at hm
theorem jQ.cut {c:aj} {v:Value} (a:jQ w G h c v):jQ w G (fun m=>(h m).map (aA.cut n)) (c.pO n) v:=by rcases c.OX n with e|e;rw[e];(cases c with|c x=>exact a|nil sz=>exact a|ptr m k sz off=>exact fun hm=>a (B2 hm)|dN xs off=>exact a|sl m sz lo len=>exact fun hm=>a (B2 hm)|cF m k s off sz len=>exact fun d xs hm=>a d xs (Ed hm)|dU m k s off sz i=>exact fun d xs hm=>a d xs (Ed hm)|dh xs off j m sz len=>obtain⟨b,o,pe,p,l,r,g,u,t,u2,q⟩:=a;exact⟨b,o,pe,p,l,r,g,u,t,u2,fun hm=>q (B2 hm)⟩|fn f dM=>exact a|bZ=>trivial);rw[e];trivial
theorem RC.cut {c:aj} {v:Value} (d:RC w G h c v):RC w G (fun m=>(h m).map (aA.cut n)) (c.cut n) v:=by by_cases b:c.kP=false;rw[wO _ _ _ _ _ b] at d;rw[aj.Vv n c b];have a:=d.cut (n:=n);rcases c.OX n with e|e;rw[e] at a⊢;rw[wO _ _ _ _ _ b];exact a;rw[e];trivial;(cases c<;>first|(simp[aj.kP] at b;done)|skip);obtain⟨vs,a,k,f⟩:=d;refine⟨vs,a,by simpa using k,fun j c u hj g=>?_⟩;rw[AN] at hj;cases e8:(_:List aj)[j]? with|none=>rw[e8] at hj;cases hj|some i=>rw[e8] at hj;injection hj with hj;subst hj;exact⟨(f j i u e8 g).1,(f j i u e8 g).2.cut⟩
theorem ed.cut {cs:List aj} {vs:List Value} (a:ed w G h cs vs):ed w G (fun m=>(h m).map (aA.cut n)) (cs.map (·.cut n)) vs:=by refine⟨by simpa using a.1,fun j c u hj b=>?_⟩;rw[AN] at hj;cases e8:cs[j]? with|none=>rw[e8] at hj;cases hj|some d=>rw[e8] at hj;injection hj with hj;subst hj;exact⟨(a.2 j d u e8 b).1,(a.2 j d u e8 b).2.cut⟩
theorem RV.cut {ag:Bool} {cs:List aj} {v:Value} (a:RV w G h ag cs v):RV w G (fun m=>(h m).map (aA.cut n)) ag (cs.map (·.cut n)) v:=by unfold RV at*;split;rename_i b;simp only[b,if_true] at a;obtain⟨vs,e,c⟩:=a;exact⟨vs,e,c.cut⟩;rename_i b;simp only[b] at a;exact ed.cut a
theorem RA.cut {x:au} {v:Value} (a:RA w G h x v):RA w G (fun m=>(h m).map (aA.cut n)) (x.cut n) v:=by cases x with|one c=>rcases a with rfl|a;exact .inl rfl;exact .inr (RV.cut (n:=n) a)|agg cs=>exact RV.cut (n:=n) (ag:=true) a|ct xs=>obtain⟨vs,e,hl,f⟩:=a;refine⟨vs,e,by simpa using hl,fun j x u hj d=>?_⟩;rw[AN] at hj;cases e8:xs[j]? with|none=>rw[e8] at hj;cases hj|some b=>rw[e8] at hj;injection hj with hj;subst hj;exact(f j b u e8 d).cut
theorem R.cut (r:R B E w0 N σ a w G) (n:Nat):R B E w0 N (σ.cut n) a w G:=by have H:=r.hr;refine⟨r.defers,r.size,fun s=>(r.env s).cut,fun s m hm=>r.t6 s m (au.Hj hm),?_,r.fr,fun m p b hp hb=>?_,r.AS⟩;refine⟨fun m hm=>H.lc m (B2 hm),fun m cs c q hm M hr=>?_,fun m cs hm=>?_,fun m d o sz xs hm=>H.row m d o sz xs (Ed hm),fun m hm=>H.own m (B2 hm), fun m f hm g=>H.inj m f (B2 hm) (B2 g),H.jX,H.tx,fun m f d o sz xs O S y L hm g=>H.ji m f d o sz xs O S y L (Ed hm) (Ed g), fun m d sz xs hm b hb f g=>H.live m d sz xs (Ed hm) b hb f (B2 g),by intro i pc hi;simp at hi,by intro i j pc eW b _ hi;simp at hi,by intro i pc n d m sz xs b hi;simp at hi⟩;obtain⟨l,t,rfl⟩:=adk hm;obtain⟨x,k,rfl⟩:=BY.1 M;exact H.kq m l x q t k (aj.Hj hr);obtain⟨l,t,rfl⟩:=adk hm;obtain⟨F,K,D⟩:=H.box m l t;refine⟨F,K,fun j c hj=>?_⟩;rw[AN] at hj;(cases k:l[j]? with|none=>rw[k] at hj;cases hj|some x=>rw[k] at hj;injection hj with hj;subst hj;obtain⟨v,A,Q,J⟩:=D j x k;exact⟨v,A,Q,J.cut⟩);have u:(σ.h m).map (aA.cut n)=some b:=hb;cases hh:σ.h m with|none=>rw[hh] at u;cases u|some b0=>obtain⟨p1,I,P,p4,z,C⟩:=r.nZ m p b0 hp hh;refine⟨p1,I,P,p4,z,fun d sz xs e=>?_⟩;subst e;have:=Ed u;rw[hh] at this;injection this with this;exact C d sz xs this
structure Gy (q:Nat) (w:World) (G:Gh) (h:Nat->Option aA) (used:Nat->Prop) (w':World) (G':Gh) (h':Nat->Option aA):Prop where
 im:∀b,G.Im b->G'.Im b
 cell:∀b,G.Im b->∀o,w'.cell? (ad b o)=w.cell? (ad b o)
 name:∀n,used n->h' n≠none->h n≠none/\(G'.g n).nl=(G.g n).nl/\(G'.g n).b=(G.g n).b/\(G'.g n).o=(G.g n).o/\(G'.g n).cap=(G.g n).cap/\(G'.g n).na=(G.g n).na
 live:∀n gr sz xs,n≠q->used n->h' n=some (.row gr .live sz xs)->(∃uE lI,h n=some (.row uE .live sz lI))/\
  ∀k j pc,At (G.g n).px k j pc->pc.jY=true->∃eW,At (G'.g n).px k j eW/\eW.val=pc.val/\eW.jY=true
 box:∀b o v,G.Im b->w.cell? (ad b o)=some v->w'.cell? (ad b o)=some v
theorem jQ.tC {q:Nat} {used:Nat->Prop} (K:Gy q w G h used w' G' h') {c:aj} {v:Value} (T:c.pO q=c) (hr:∀m,c.j4 m->used m) (e:jQ w G h c v):jQ w' G' h' c v:=by cases c with|c x=>obtain⟨pc,y,t,g,p⟩:=e;exact⟨pc,y,t,g.congr fun b hb o=>K.cell b (p b hb) o,fun b hb=>K.im b (p b hb)⟩|nil sz=>exact e|ptr n k sz off=>intro hn;obtain⟨d,z,A,r,C,B⟩:=K.name n (hr n rfl) hn;rw[z,A,r];exact e d|dN xs off=>obtain⟨b,o,pe,y,t,g,p⟩:=e;refine⟨b,o,pe,y,t,K.im b g,fun j c hj=>?_⟩;obtain⟨I,L,s⟩:=p j c hj;exact⟨(K.cell b g _).trans I,L.congr fun a l R=>K.cell a (s a l) R,fun a l=>K.im a (s a l)⟩|sl n sz lo len=>intro hn;obtain⟨d,z,A,r,C,B⟩:=K.name n (hr n rfl) hn;have:=e d;unfold kY at*;rw[z,A,r,C,B];exact this|cF n k Q off sz len=>have N:n≠q:=(by rintro rfl;simp[aj.pO,zbd] at T);intro M xs hn;obtain⟨⟨F,H,d⟩,hl⟩:=K.live n M Q xs N (hr n rfl) hn;obtain⟨pc,p1,J,S⟩:=e F H d;obtain⟨P,O,D,E⟩:=hl k off pc p1 S;exact⟨P,O,D.trans J,E⟩|dU n k Q off sz i=>have N:n≠q:=(by rintro rfl;simp[aj.pO,zbd] at T);intro M xs hn;obtain⟨⟨F,H,d⟩,hl⟩:=K.live n M Q xs N (hr n rfl) hn;obtain⟨pc,b,o,len,cap,p1,J,S,p4⟩:=e F H d;obtain⟨P,O,D,E⟩:=hl k off pc p1 S;exact⟨P,b,o,len,cap,O,D.trans J,E,p4⟩|dh xs off j n sz len=>obtain⟨b,o,pe,y,t,g,p,V⟩:=e;obtain⟨u,X,u2,W⟩:=V;refine⟨b,o,pe,y,t,K.im b g,fun i c U hi=>?_,u,(K.cell b g _).trans X,u2,fun hn=>?_⟩;obtain⟨I,L,s⟩:=p i c U hi;exact⟨(K.cell b g _).trans I,L.congr fun a l R=>K.cell a (s a l) R,fun a l=>K.im a (s a l)⟩;obtain⟨d,z,A,r,C,B⟩:=K.name n (hr n rfl) hn;have:=W d;unfold kY at*;rw[z,A,r,C,B];exact this|fn f dM=>exact e|bZ=>trivial
theorem RC.tC {q:Nat} {used:Nat->Prop} (K:Gy q w G h used w' G' h') {c:aj} {v:Value} (a:c.cut q=c) (hr:∀m,c.ref m->used m) (d:RC w G h c v):RC w' G' h' c v:=by by_cases b:c.kP=false;rw[wO _ _ _ _ _ b] at*;rw[aj.Vv q c b] at a;exact d.tC K a fun m hm=>hr m (by rw[aj.ZE c m b];exact hm);(cases c<;>first|(simp[aj.kP] at b;done)|skip);rename_i f dM;obtain⟨vs,k,i,e⟩:=d;injection a with _ a;refine⟨vs,k,i,fun j c u hj g=>⟨(e j c u hj g).1,(e j c u hj g).2.tC K ?_ fun m hm=>hr m ⟨c,so hj,hm⟩⟩⟩;have:=congrArg (fun l:List aj=>l[j]?) a;simp only[AN,hj,wt,zao] at this;exact this
theorem ed.tC {q:Nat} {used:Nat->Prop} (K:Gy q w G h used w' G' h') {cs:List aj} {vs:List Value} (d:∀c∈cs,c.cut q=c) (hr:∀c∈cs,∀m,c.ref m->used m) (a:ed w G h cs vs):ed w' G' h' cs vs:= ⟨a.1,fun j c u hj b=>⟨(a.2 j c u hj b).1,(a.2 j c u hj b).2.tC K (d c (so hj)) (hr c (so hj))⟩⟩
theorem RV.tC {q:Nat} {used:Nat->Prop} (K:Gy q w G h used w' G' h') {ag:Bool} {cs:List aj} {v:Value} (d:∀c∈cs,c.cut q=c) (hr:∀c∈cs,∀m,c.ref m->used m) (a:RV w G h ag cs v):RV w' G' h' ag cs v:=by unfold RV at*;split;rename_i b;simp only[b,if_true] at a;obtain⟨vs,e,f⟩:=a;exact⟨vs,e,f.tC K d hr⟩;rename_i b;simp only[b] at a;exact ed.tC K d hr a
theorem ag7 {q:Nat} {cs:List aj} (h:cs.map (·.cut q)=cs):∀c∈cs,c.cut q=c:=by intro c a;obtain⟨j,hj⟩:=IN a;have:=congrArg (fun l:List aj=>l[j]?) h;simp only[AN,hj,wt,zao] at this;exact this
theorem RA.tC {q:Nat} {used:Nat->Prop} (K:Gy q w G h used w' G' h') {x:au} {v:Value} (a:x.cut q=x) (hr:∀m,x.ref m->used m) (f:RA w G h x v):RA w' G' h' x v:=by cases x with|one c=>injection a with a;exact f.imp id fun g=>RV.tC K (fun d b=>by simp at b;subst b;exact a) (fun d b m hm=>hr m (by simp at b;subst b;exact hm)) g|agg cs=>injection a with a;exact RV.tC K (ag7 a) (fun d b m hm=>hr m ⟨d,b,hm⟩) f|ct xs=>injection a with a;obtain⟨vs,e,hl,g⟩:=f;refine⟨vs,e,hl,fun j x u hj i=>RV.tC K (ag7 ?_) (fun d b m hm=>hr m ⟨x,so hj,d,b,hm⟩) (g j x u hj i)⟩;have:=congrArg (fun l:List (Bool×List aj)=>l[j]?) a;simp only[AN,hj,wt,zao] at this;exact congrArg zbh this
structure anP (B:Nat) (E:Ex) (w:World) (G:Gh) (h:Nat->Option aA) (n k off:Nat) (q:PC):Prop where
 hZ:Good w q
 sep:Sep q
 nr:wL w q
 own:∀b,bD b q->¬G.Im b/\fA w b/\(B<=b\/E b)
 name:∀b,bD b q->∀m,h m≠none->(G.g m).nl=false->b≠(G.g m).b
 row:∀b,bD b q->∀m gr mo sz xs,m≠n->h m=some (.row gr mo sz xs)->¬bF b (G.g m).px
 rest:∀b,bD b q->∀k' j' c,At (G.g n).px k' j' c->(k',j')≠(k,off)->¬bD b c
theorem R.nest (r:R B E w0 N σ a w G) {l k off:Nat} {xs:List (List C)} (hn:σ.h n=some (.row true .live l xs)) (vH:n<aL) (arP:∀s,(σ.env s).cut n=σ.env s) (arQ:∀m cs c,σ.h m=some (.box cs)->c∈cs->c.cut n=c) {pe:List PC} (u:(G.g n).px[k]? =some pe) (HV:off+1=l) {q:PC} {cur:Array Value} {et:TypeId} (L:w.heap[(G.g n).b]? =some (.cells cur et (0,0))) (t:anP B E w G σ.h n k off q): R B E w0 N (σ.fh n (.row true .live l (xs.set k ((pe.map PC.er).set off q.er)))) a (iW w (G.g n).b ((G.g n).o+k*l+off) [q.val] cur) ⟨G.Im,aV G.g n {G.g n with px:=(G.g n).px.set k (pe.set off q)}⟩:=by have H:=r.hr;have hr:=H.row n true .live l xs hn;have F:σ.h n≠none:=(by rw[hn];simp);have x:(G.g n).nl=false:=(by cases t:(G.g n).nl with|false=>rfl|true=>rw[(hr.nl t).1] at u;simp at u);obtain⟨l1,l2,l3⟩:=hr.f6 x;obtain⟨vG,uJ,xn⟩:=H.own n F x;have Cr:pe.length=l:=l2.1 pe (so u);have X:off<pe.length:=(by omega);have D:At (G.g n).px k off pe[off]:=⟨pe,u,AI X⟩;have T:(G.g n).o+k*l+off+([q.val]:List Value).length<=cur.size:=(by have:=GU L (l2.2.1 k off _ D);simp only[zax,zav];omega);generalize Ap:iW w (G.g n).b ((G.g n).o+k*l+off) [q.val] cur=w2;have fv:∀b,b≠(G.g n).b->w2.heap[b]? =w.heap[b]? :=fun b hb=>(by rw[<-Ap];exact F9 b hb);have S:∀b,fA w b->fA w2 b:=fun b hb=>(by rw[<-Ap];exact NY L T b hb);have uN:w2.heap.size=w.heap.size:=(by rw[<-Ap];exact wC);have W:∀b,bD b q->b≠(G.g n).b:=fun b hb=>t.name b hb n F x;have EH:∀b,bF b (G.g n).px->b≠(G.g n).b:=fun b hb=>H.yt F x hn hb;have Z:∀b,bF b ((G.g n).px.set k (pe.set off q))->bD b q\/bF b (G.g n).px:=(by rintro b ⟨k',Y,c,y,hb⟩;rcases rY u y with⟨_,_,rfl⟩|⟨d,_⟩;exact .inl hb;exact .inr ⟨_,_,_,d,hb⟩);have Eu:∀b,G.Im b->b≠(G.g n).b:=fun b hb A=>vG (A▸hb);have gG:sY w2 (G.g n).b (G.g n).o l ((G.g n).px.set k (pe.set off q)):=(by refine⟨fun e A=>?_,fun k' Y c y=>?_,fun k' Y c y=>?_⟩;rcases zar A with A|rfl;exact l2.1 e A;rw[zaR];exact Cr;rw[<-Ap,Jw L T];rcases rY u y with⟨rfl,rfl,rfl⟩|⟨d,J⟩;rw[ah ⟨zad _,by simp⟩];simp;have:=acn hr.pos l2.1 d D J;rw[ak (by simp only[zax,zav];omega)];exact l2.2.1 _ _ _ d;rcases rY u y with⟨rfl,rfl,rfl⟩|⟨d,J⟩;exact t.hZ.congr fun b hb o=>kx (fv b (W b hb)) o;exact(l2.2.2 _ _ _ d).congr fun b hb o=>kx (fv b (EH b ⟨_,_,_,d,hb⟩)) o);have K:Gy n w G σ.h (fun m=>σ.used m=true) w2 ⟨G.Im,aV G.g n {G.g n with px:=(G.g n).px.set k (pe.set off q)}⟩ (aV σ.h n (some (.row true .live l (xs.set k ((pe.map PC.er).set off q.er))))):=(by refine⟨fun _ h=>h,fun b hb o=>kx (fv b (Eu b hb)) o,fun m hm f=>?_,fun m I sz U z hm f=>?_,fun b o v hb hv=>(kx (fv b (Eu b hb)) o).trans hv⟩;by_cases z:m=n;subst z;simp only[cX];exact⟨F,trivial,trivial,trivial,trivial,trivial⟩;rw[dJ _ _ _ _ z] at f;simp only[dJ _ _ _ _ z];exact⟨f,trivial,trivial,trivial,trivial,trivial⟩;rw[dJ _ _ _ _ z] at f;simp only[dJ _ _ _ _ z];exact⟨⟨I,U,f⟩,fun k j pc d V=>⟨pc,d,rfl,V⟩⟩);have Hn:HR B E w2 ⟨G.Im,aV G.g n {G.g n with px:=(G.g n).px.set k (pe.set off q)}⟩ (aV σ.h n (some (.row true .live l (xs.set k ((pe.map PC.er).set off q.er))))) σ.used []:=(by refine H.aj1 (fun b _ hb=>fv b (hb x)) (by rw[uN];exact zad _) (fun b _ hb=>S b hb) (fun _ h=>h) (H.lc n F) (fun _=>⟨vG,uJ,by rw[uN];exact xn⟩) (fun _ m hm f qF=>H.inj m n f F hm qF x) (fun _ m I sz xs hm f b hb=>H.live m I sz xs f b hb n F x) (fun cs c m hb=>by cases hb) (fun m cs c v hm f hc hv=>hv.tC K (arQ m cs c f hc) fun p hp=>H.kq m cs c p f hc hp) ?_ ?_ ?_ (fun I m sz xs _ _ i pc b hi=>by simp at hi) ?_;refine⟨hr.pos,?_,(fun hl=>by rw[x] at hl;cases hl),fun _=>⟨S _ l1,gG,by show((G.g n).px.set k _).length<=_;simpa using l3⟩,fun _ _=>?_,?_,fun _ _ k' pc y=>?_⟩;show xs.set k _=((G.g n).px.set k _).map _;rw[zaD,<-hr.er,zaD];obtain⟨r2,mY,e',r3,r4⟩:=hr.room x rfl;rw[L] at r3;injection r3 with r3;injection r3 with r3 _ _;subst r3;obtain⟨Vu,c1,c2⟩:=NX (vs:=[q.val]) (o:=(G.g n).o+k*l+off) L T;rw[Ap] at c1;exact⟨r2,Vu,et,c1,by rw[c2];exact r4⟩;have Q:=hr.mode;refine⟨fun b hb=>?_,fun k' Y c y=>?_,fun k1 j1 c1 k2 j2 c2 b d V J hb O=>?_⟩;rcases Z b hb with d|d;exact⟨(t.own b d).1,S b (t.own b d).2.1,(t.own b d).2.2⟩;exact⟨(Q.1 b d).1,S b (Q.1 b d).2.1,(Q.1 b d).2.2⟩;rcases rY u y with⟨rfl,rfl,rfl⟩|⟨d,_⟩;exact t.sep;exact Q.2.1 _ _ _ d;rcases rY u d with⟨rfl,rfl,rfl⟩|⟨g1,n1⟩;rcases rY u V with⟨rfl,rfl,rfl⟩|⟨g2,n2⟩;exact J rfl;exact t.rest b hb _ _ _ g2 n2 O;rcases rY u V with⟨rfl,rfl,rfl⟩|⟨g2,n2⟩;exact t.rest b O _ _ _ g1 n1 hb;exact Q.2.2 _ _ _ _ _ _ b g1 g2 J hb O;have hz:=hr.nr rfl rfl;rcases rY u y with⟨_,_,rfl⟩|⟨d,_⟩;exact t.nr.cz fun b hb arr e A=>⟨arr,(fv b (W b hb)).trans A,rfl⟩;exact(hz k' pc d).cz fun b hb arr e A=>⟨arr,(fv b (EH b ⟨_,_,_,d,hb⟩)).trans A,rfl⟩;intro I m sz U hb hm M cd m' ba kU LG f cG b P;rcases Z b P with d|d;exact t.row b d M cd m' ba kU LG f;exact H.ji n M true .live l xs cd m' ba kU hn f (by simp) cG (zaz LG) b d;intro I sz U hb b P;rcases Z b P with d|d;exact⟨fun _=>W b d,fun M _ f hl=>t.name b d M f hl⟩;exact⟨fun _=>EH b d,fun M _ f hl=>H.live n true l xs hn b d M f hl⟩;intro _ _ b hb;obtain⟨m,I,mo,sz,U,hm,f,P⟩:=hb;exact H.yt F x f P);refine⟨r.defers,r.size,fun s=>(r.env s).tC K (arP s) fun m hm=>r.t6 s m hm,r.t6,Hn,r.fr.one uJ (fun b _ J=>fv b J) (by rw[uN];exact zad _) (by rw[<-Ap];exact Jx L T) (by rw[<-Ap];rfl) (by rw[<-Ap];rfl) (by rw[<-Ap];rfl),fun m p b hp hb=>?_,r.AS⟩;have z:m≠n:=(by rintro rfl;have:=E.lt m p hp;omega);have O:aV σ.h n (some (.row true .live l (xs.set k ((pe.map PC.er).set off q.er)))) m=some b:=hb;rw[dJ _ _ _ _ z] at O;have:=r.nZ m p b hp O;simp only[dJ _ _ _ _ z];exact this
theorem Sep.flat {sz:Nat} {x:Option Addr} {cap:Nat} {px:List (List PC)} (hs:iV (px.map fun e=>e.map PC.er)=true):Sep (.list sz x cap px):=by have d:∀k j c,At px k j c->c.er.gx=true:=(by rintro k j c ⟨e,g,hj⟩;have f:=AT.1 hs (e.map PC.er) (by simp only[BY];exact⟨e,so g,rfl⟩);exact AT.1 f c.er (by simp only[BY];exact⟨c,so hj,rfl⟩));exact .list _ _ _ _ (fun k j c a=>(Sep.lE (d k j c a)).1) (fun b o k j c _ a=>(Sep.lE (d k j c a)).2 b) (fun k j c k' j' c' b a _ _ hb=>absurd hb ((Sep.lE (d k j c a)).2 b))
end
theorem aj.axj {c:aj} {m:Nat}:m∈c.xG↔c.j4 m:=by cases c<;>simp[aj.xG,aj.j4]
theorem aj.MG {c:aj} {m:Nat}:m∈c.nm↔c.ref m:=by cases c with|fn f dM=>simp[aj.nm,aj.ref,zab,aj.axj]|_=>simp[aj.nm,aj.xG,aj.ref,aj.j4]
theorem au.Fp {v:au} {m:Nat}:m∈v.kj↔v.ref m:=by cases v with|one c=>exact aj.MG|agg cs=>simp[au.kj,au.ref,zab,aj.MG]|ct xs=>simp only[au.kj,au.ref,zab,aj.MG]
theorem u4 {op:bo} {ev:MO->au} {n:Nat}:n∈op.mM ev↔∃a∈op.args,(ev a).ref n:=by simp[bo.mM,zab,au.Fp]
theorem QR {op:bo} {ev:MO->au} {h:Nat->Option aA} {n:Nat} (hn:n∈op.mM ev):n∈op.qQ ev h:=by unfold bo.qQ;cases op.Mb with|true=>exact By.2 (.inl hn)|false=>exact hn
theorem anx {op:bo} {ev:MO->au} {h:Nat->Option aA} {ws:List Nat} (b:op.oS ev h=some ws) {n:Nat} (hn:n∈ws):n∈op.mM ev:=by(cases op<;>simp only[bo.oS] at b<;>first|(cases b;cases hn)|(cases b;done)|skip);(case store sz x v=>split at b;rename_i q _ _ _ hx;have c:q∈(bo.store sz x v).mM ev:=u4.2 ⟨x,by simp[bo.args],by rw[hx];exact rfl⟩;split at b;injection b with b;subst b;simp at hn;subst hn;exact c;injection b with b;subst b;rcases zan.1 hn with rfl|hn;exact c;exact u4.2 ⟨v,by simp[bo.args],au.Fp.1 hn⟩;cases b;rename_i q _ _ _ _ _ hx;have c:q∈(bo.store sz x v).mM ev:=u4.2 ⟨x,by simp[bo.args],by rw[hx];exact rfl⟩;injection b with b;subst b;simp at hn;subst hn;exact c;cases b);(case copy sz x y=>split at b;rename_i q _ _ _ hx;injection b with b;subst b;simp at hn;subst hn;exact u4.2 ⟨x,by simp[bo.args],by rw[hx];exact rfl⟩;cases b);(case oW z x=>split at b;rename_i q _ _ _ hx;injection b with b;subst b;simp at hn;subst hn;exact u4.2 ⟨x,by simp[bo.args],by rw[hx];exact rfl⟩;cases b);(case f8 sz ps=>injection b with b;subst b;obtain⟨a,ha,hn⟩:=zab.1 hn;exact u4.2 ⟨a,ha,au.Fp.1 hn⟩);(case lN f xs=>injection b with b;subst b;obtain⟨a,ha,hn⟩:=zab.1 hn;exact u4.2 ⟨a,ha,au.Fp.1 hn⟩);case append fl sz dW x y=>injection b with b;subst b;rcases By.1 hn with hn|hn;exact u4.2 ⟨x,by simp[bo.args],au.Fp.1 hn⟩;exact u4.2 ⟨y,by simp[bo.args],au.Fp.1 hn⟩
def St.fx (σ:St):List (Nat×Option aA)->St
 |[]=>σ
 |(n,b)::l=>St.fx {σ with h:=aV σ.h n b} l
def fT (h:Nat->Option aA):List (Nat×Option aA)->(Nat->Option aA)
 |[]=>h
 |(n,b)::l=>fT (aV h n b) l
theorem qg:∀(l:List (Nat×Option aA)) (σ:St),σ.fx l={σ with h:=fT σ.h l}
 |[],σ=>rfl
 |(n,b)::l,σ=>by simp only[St.fx,fT];rw[qg l]
theorem sT:∀{l:List (Nat×Option aA)} {h:Nat->Option aA} {n:Nat},(∀p∈l,p.1≠n)->fT h l n=h n
 |[],h,n,_=>rfl
 |(m,b)::l,h,n,hn=>by simp only[fT];rw[sT fun p hp=>hn p (zac _ hp)];exact dJ _ _ _ _ (fun e=>hn (m,b) (by simp) e.symm)
theorem aBq (h:Nat->Option aA) (l a:List (Nat×Option aA)):fT h (l++a)=fT (fT h l) a:=by induction l generalizing h with|nil=>rfl|cons x l c=>obtain⟨n,b⟩:=x;exact c _
theorem Ju (σ:St) (l a:List (Nat×Option aA)):σ.fx (l++a)=(σ.fx l).fx a:=by simp only[qg,aBq]
theorem NT:∀{l:List (Nat×Option aA)} {h h':Nat->Option aA} {n:Nat},(∃p∈l,p.1=n)->fT h l n=fT h' l n
 |[],h,h',n,hn=>by obtain⟨p,hp,_⟩:=hn;cases hp
 |(m,b)::l,h,h',n,hn=>by simp only[fT];by_cases hl:∃p∈l,p.1=n;exact NT hl;have a:∀p∈l,p.1≠n:=fun p hp e=>hl ⟨p,hp,e⟩;rw[sT a,sT a];obtain⟨p,hp,e⟩:=hn;rcases zan.1 hp with rfl|hp;simp only at e;subst e;rw[cX,cX];exact absurd e (a p hp)
theorem ani {u v:List (Nat×Option aA)} (hd:∀p∈u,∀q∈v,p.1≠q.1) (h:Nat->Option aA):fT (fT h u) v=fT (fT h v) u:=by funext n;by_cases b:∃p∈u,p.1=n;obtain⟨p,hp,rfl⟩:=b;rw[sT (l:=v) fun q a e=>hd p hp q a e.symm];exact NT ⟨p,hp,rfl⟩;rw[sT (l:=u) (h:=fT h v) fun p hp e=>b ⟨p,hp,e⟩];by_cases c:∃q∈v,q.1=n;exact NT c;rw[sT fun q a e=>c ⟨q,a,e⟩,sT fun p hp e=>b ⟨p,hp,e⟩,sT fun q a e=>c ⟨q,a,e⟩]
theorem aBs {u v:List (Nat×Option aA)} (hd:∀p∈u,∀q∈v,p.1≠q.1) (σ:St):(σ.fx u).fx v=(σ.fx v).fx u:=by simp only[qg,ani hd]
theorem anj (σ:St) (e:Nat->au) (l:List (Nat×Option aA)):(σ.we e).fx l=(σ.fx l).we e:=by simp only[qg];rfl
theorem aBr {l:List (Nat×Option aA)} {h:Nat->Option aA} {n:Nat} {b:Option aA} (hn:∀p∈l,p.1≠n):fT (aV h n b) l=aV (fT h l) n b:=by have:=ani (u:=l) (v:=[(n,b)]) (fun p hp q a=>by simp at a;subst a;exact hn p hp) h;exact this.symm
theorem ate {σ σ1:St} {l:List (Nat×Option aA)} {n:Nat} {b:aA} (hl:∀p∈l,σ.used p.1=true) (h:σ.ins n b=some σ1):(σ.fx l).ins n b=some (σ1.fx l):=by obtain⟨a,rfl⟩:=rD h;unfold St.ins;rw[qg,qg];rw[ak (show¬σ.used n=true by rw[a];simp)];simp only;rw[aBr fun p hp e=>by rw[<-e,hl p hp] at a;cases a]
theorem L9:∀{A:List (Nat×aA)} {σ σ1:St} {l:List (Nat×Option aA)},(∀p∈l,σ.used p.1=true)->σ.ew A=some σ1->(σ.fx l).ew A=some (σ1.fx l)
 |[],σ,σ1,l,hl,h=>by simp only[St.ew] at h⊢;injection h with h;rw[h]
 |(n,b)::A,σ,σ1,l,hl,h=>by simp only[St.ew] at h⊢;split at h;rename_i oh e;rw[ate hl e];obtain⟨u1,rfl⟩:=rD e;exact L9 (fun p hp=>xS _ _ (hl p hp)) h;cases h
theorem aga:∀{A:List (Nat×aA)} {σ σ':St},σ.used=σ'.used->(σ.ew A).isSome=true->(σ'.ew A).isSome=true
 |[],σ,σ',hu,h=>rfl
 |(n,b)::A,σ,σ',hu,h=>by simp only[St.ew,St.ins] at h⊢;rw[<-hu];split at h;rename_i oh e;split at e;cases e;rename_i hn;injection e with e;subst e;rw[ak hn];simp only;exact aga (by rfl) h;cases h
theorem Yj {A:List (Nat×aA)} {σ B:St} {l:List (Nat×Option aA)} (hl:∀p∈l,σ.used p.1=true) (h:(σ.fx l).ew A=some B):∃a,σ.ew A=some a/\B=a.fx l:=by have hs:(σ.ew A).isSome=true:=aga (A:=A) (σ:=σ.fx l) (σ':=σ) (by rw[qg]) (by rw[h];rfl);cases e:σ.ew A with|none=>rw[e] at hs;cases hs|some a=>refine⟨a,rfl,?_⟩;have:=L9 hl e;rw[h] at this;injection this
abbrev Us:=List (Nat×Option aA)
def xP (h:Nat->Option aA):aj->Option (C×Bool×Us)
 |.c x=>some (x,x.gx,[])
 |.nil sz=>if 0<sz then some (.list sz [],true,[]) else none
 |.sl n sz lo len=>
  match h n with
  |some (.row _ m rs xs)=>if rs=sz/\lo=0/\len<=xs.length then some (.list sz (xs.take len),decide (m≠ .aQ),[(n,none)]) else none
  |_=>none
 |_=>none
def n9 (h:Nat->Option aA):List aj->Option (List C×Bool×Us)
 |[]=>some ([],true,[])
 |c::cs=>match xP h c with
  |some (x,o,u)=>match n9 (fT h u) cs with
   |some (xs,o',u')=>some (x::xs,o&&o',u++u')
   |none=>none
  |none=>none
def tY (sz:Nat) (h:Nat->Option aA):List au->Option (List (List C)×Bool×Us)
 |[]=>some ([],true,[])
 |v::vs=>match v.cells? with
  |some (_,cs)=>if cs.length=sz then
   match n9 h cs with
   |some (e,o,u)=>match tY sz (fT h u) vs with
    |some (es,o',u')=>some (e::es,o&&o',u++u')
    |none=>none
   |none=>none
   else none
  |none=>none
theorem NU (σ:St) (l:Us):(σ.fx l).h=fT σ.h l:=by rw[qg]
theorem aA9 (σ:St) (c:aj):σ.iD c=(xP σ.h c).map fun x=>(x.1,x.2.1,σ.fx x.2.2):=by cases c with|sl n sz lo len=>simp only[St.iD,xP];(cases σ.h n with|none=>rfl|some b=>cases b with|box cs=>rfl|row gr m rs xs=>simp only;split<;>rfl)|nil sz=>simp only[St.iD,xP];split<;>rfl|_=>rfl
theorem SJ:∀(cs:List aj) (σ:St),σ.iE cs=(n9 σ.h cs).map fun x=>(x.1,x.2.1,σ.fx x.2.2)
 |[],σ=>rfl
 |c::cs,σ=>by simp only[St.iE,n9,aA9];cases xP σ.h c with|none=>rfl|some x=>obtain⟨x,o,u⟩:=x;simp only[wt,SJ cs,NU];cases n9 (fT σ.h u) cs with|none=>rfl|some y=>obtain⟨xs,o',u'⟩:=y;simp only[wt,Ju]
theorem am5 (sz:Nat):∀(vs:List au) (σ:St),σ.mQ sz vs=(tY sz σ.h vs).map fun x=>(x.1,x.2.1,σ.fx x.2.2)
 |[],σ=>rfl
 |v::vs,σ=>by simp only[St.mQ,tY];cases v.cells? with|none=>rfl|some x=>obtain⟨b,cs⟩:=x;simp only;split;rw[SJ];(cases n9 σ.h cs with|none=>rfl|some y=>obtain⟨e,o,u⟩:=y;simp only[wt,am5 sz vs,NU];cases tY sz (fT σ.h u) vs with|none=>rfl|some y=>obtain⟨es,o',u'⟩:=y;simp only[wt,Ju]);rfl
theorem aA7 {h:Nat->Option aA} {c:aj} {x:C} {o:Bool} {u:Us} (e:xP h c=some (x,o,u)):∀q∈u,q.1∈c.nm:=by unfold xP at e;split at e;injection e with e;injection e with _ e;injection e with _ e;subst e;intro q a;cases a;split at e;injection e with e;injection e with _ e;injection e with _ e;subst e;intro q a;cases a;cases e;split at e;split at e;injection e with e;injection e with _ e;injection e with _ e;subst e;intro q a;simp at a;subst a;simp[aj.nm,aj.xG];cases e;cases e;cases e
theorem SI:∀{cs:List aj} {h:Nat->Option aA} {xs:List C} {o:Bool} {u:Us},n9 h cs=some (xs,o,u)->∀q∈u,q.1∈cs.flatMap aj.nm
 |[],h,xs,o,u,e=>by simp only[n9] at e;injection e with e;injection e with _ e;injection e with _ e;subst e;intro q a;cases a
 |c::cs,h,xs,o,u,e=>by simp only[n9] at e;split at e;rename_i x o1 u1 b;split at e;rename_i kU o2 u2 d;injection e with e;injection e with _ e;injection e with _ e;subst e;intro q a;rw[IS];rcases By.1 a with a|a;exact By.2 (.inl (aA7 b q a));exact By.2 (.inr (SI d q a));cases e;cases e
theorem GV {v:au} {b:Bool} {cs:List aj} (h:v.cells?=some (b,cs)):cs.flatMap aj.nm=v.kj:=by cases v with|one c=>cases c<;>simp[au.cells?] at h<;>(obtain⟨_,rfl⟩:=h;simp[au.kj])|agg cs'=>simp[au.cells?] at h;obtain⟨_,rfl⟩:=h;rfl|ct xs=>simp[au.cells?] at h
theorem am4 {sz:Nat}:∀{vs:List au} {h:Nat->Option aA} {xs:List (List C)} {o:Bool} {u:Us},tY sz h vs=some (xs,o,u)->∀q∈u,q.1∈vs.flatMap au.kj
 |[],h,xs,o,u,e=>by simp only[tY] at e;injection e with e;injection e with _ e;injection e with _ e;subst e;intro q a;cases a
 |v::vs,h,xs,o,u,e=>by simp only[tY] at e;split at e;rename_i b cs c;split at e;split at e;rename_i x o1 u1 d;split at e;rename_i kU o2 u2 f;injection e with e;injection e with _ e;injection e with _ e;subst e;intro q a;rw[IS];rcases By.1 a with a|a;exact By.2 (.inl (GV c▸SI d q a));exact By.2 (.inr (am4 f q a));cases e;cases e;cases e;cases e
theorem NS {h h':Nat->Option aA} {n:Nat} (b:h' n=h n) (u:Us):fT h' u n=fT h u n:=by by_cases a:∃p∈u,p.1=n;exact NT a;rw[sT fun p hp e=>a ⟨p,hp,e⟩,sT fun p hp e=>a ⟨p,hp,e⟩,b]
theorem aA6 {h h':Nat->Option aA} {c:aj} (a:∀n∈c.nm,h' n=h n):xP h' c=xP h c:=by cases c with|sl n sz lo len=>simp only[xP];rw[a n (by simp[aj.nm,aj.xG])]|_=>rfl
theorem SH:∀{cs:List aj} {h h':Nat->Option aA},(∀n∈cs.flatMap aj.nm,h' n=h n)->n9 h' cs=n9 h cs
 |[],h,h',_=>rfl
 |c::cs,h,h',hh=>by simp only[n9];rw[aA6 fun n hn=>hh n (by rw[IS];exact By.2 (.inl hn))];cases xP h c with|none=>rfl|some x=>obtain⟨x,o,u⟩:=x;simp only;rw[SH (cs:=cs) (h:=fT h u) (h':=fT h' u) fun n hn=>NS (hh n (by rw[IS];exact By.2 (.inr hn))) u]
theorem am3 {sz:Nat}:∀{vs:List au} {h h':Nat->Option aA},(∀n∈vs.flatMap au.kj,h' n=h n)->tY sz h' vs=tY sz h vs
 |[],h,h',_=>rfl
 |v::vs,h,h',hh=>by simp only[tY];cases hv:v.cells? with|none=>rfl|some x=>obtain⟨b,cs⟩:=x;simp only;rw[SH (cs:=cs) fun n hn=>hh n (by rw[IS];exact By.2 (.inl (GV hv▸hn)))];cases n9 h cs with|none=>rfl|some y=>obtain⟨e,o,u⟩:=y;simp only;rw[am3 (vs:=vs) (h:=fT h u) (h':=fT h' u) fun n hn=>NS (hh n (by rw[IS];exact By.2 (.inr hn))) u]
def Dt (h:Nat->Option aA) (n:Nat) (gr:Bool) (m:Mode) (rs:Nat) (xs:List (List C)) (k off:Nat) (e:List C) (vs:List aj):Option Us:=
 match sub e off vs.length with
 |none=>none
 |some j0=>match n9 h vs with
  |none=>none
  |some (cs,o,u)=>
   if m=.live then
    if gz cs=true/\gz j0=true/\(fT h u n).isSome=true/\gr=false then some (u++[(n,some (.row gr m rs (xs.set k (dA e off cs))))]) else none
   else if(fT h u n).isSome=true then some (u++[(n,some (.row gr (if o=true then m else .aQ) rs (xs.set k (dA e off cs))))])
   else none
theorem aAS (σ:St) (n:Nat) (a:Bool) (m:Mode) (b:Nat) (xs:List (List C)) (k off:Nat) (e:List C) (vs:List aj): rS σ n a m b xs k off e vs=(Dt σ.h n a m b xs k off e vs).map fun u=>σ.fx u:=by unfold rS Dt;cases sub e off vs.length with|none=>rfl|some j0=>simp only[SJ];cases n9 σ.h vs with|none=>rfl|some x=>obtain⟨cs,o,u⟩:=x;simp only[wt,NU];(repeat' split);all_goals first|rfl|(simp only[wt,Ju];rfl)
def BS (h:Nat->Option aA) (sz:Nat):au->Option (List (List C)×Mode×List (Nat×Option aA))
 |.one (.nil _)=>some ([],.aS,[])
 |.one (.sl a s 0 len)=>match h a with
  |some (.row true m rs xs)=>if rs=sz/\s=sz/\len=xs.length then some (xs,m,[(a,none)]) else none
  |_=>none
 |_=>none
def zJ (fl:Bool) (h:Nat->Option aA) (sz:Nat) (m:Mode):au->Option (List (List C)×Mode×List (Nat×Option aA))
  |.one (.nil _)=>some ([],m,[])
  |.one (.c (.list s ys))=>if s=sz then(if(fl&&iV ys)=true then some (ys,m,[]) else if m=.live then none else some (ys,.aQ,[])) else none
  |.one (.sl b s lo len)=>match h b with
   |some (.row gr m' rs ys)=>if rs=sz/\s=sz/\lo+len<=ys.length then
       (if(fl&&iV ((ys.drop lo).take len))=true then some ((ys.drop lo).take len,m,[])
        else if lo=0/\len=ys.length then(if m=m'/\(m=.live->gr=true) then some (ys,m,[(b,none)]) else if m=.live\/m'=.live then none else some (ys,.aQ,[(b,none)])) else none)
    else none
   |_=>none
  |_=>none
theorem an8 (σ:St) (sz:Nat) (v:au):vj σ sz v=(BS σ.h sz v).map fun x=>(x.1,x.2.1,σ.fx x.2.2):=by cases v with|one v=>(cases v with|sl a s lo len=>(cases lo with|zero=>simp only[vj,BS];(cases σ.h a with|none=>rfl|some b=>cases b with|box cs=>rfl|row c m rs xs=>cases c with|true=>simp only;split<;>rfl|false=>rfl)|succ lo=>rfl)|_=>rfl)|_=>rfl
theorem aoa (fl:Bool) (σ:St) (sz:Nat) (m:Mode) (v:au):pH fl σ sz m v=(zJ fl σ.h sz m v).map fun x=>(x.1,x.2.1,σ.fx x.2.2):=by cases v with|one v=>(cases v with|sl b s lo len=>simp only[pH,zJ];(cases σ.h b with|none=>rfl|some b=>cases b with|box cs=>rfl|row gr m rs xs=>simp only;(repeat' split);all_goals rfl)|c x=>(cases x with|list s ys=>simp only[pH,zJ];(repeat' split);(all_goals rfl)|_=>rfl)|_=>rfl)|_=>rfl
def qq (h:Nat->Option aA):List au->Option (List Dv×List Nat×Us)
 |[]=>some ([],[],[])
 |v::vs=>match pI h v with
  |some (n,xs)=>match qq h vs with
   |some (ds,ns,u)=>some ((.ptr,xs)::ds,n::ns,u)
   |none=>none
  |none=>match v.cells? with
   |some (ag,cs)=>match n9 h cs with
    |some (xs,_,u)=>match qq (fT h u) vs with
     |some (ds,ns,u')=>some ((if ag=true then .agg else .one,xs)::ds,ns,u++u')
     |none=>none
    |none=>none
   |none=>none
theorem U1:∀(vs:List au) (σ:St),σ.kw vs=(qq σ.h vs).map fun x=>(x.1,x.2.1,σ.fx x.2.2)
 |[],σ=>rfl
 |v::vs,σ=>by simp only[St.kw,qq];cases pI σ.h v with|some x=>obtain⟨n,xs⟩:=x;simp only[U1 vs σ];cases qq σ.h vs<;>rfl|none=>simp only;cases v.cells? with|none=>rfl|some x=>obtain⟨ag,cs⟩:=x;simp only;rw[SJ];cases n9 σ.h cs with|none=>rfl|some y=>obtain⟨e,o,u⟩:=y;simp only[wt,U1 vs,NU];cases qq (fT σ.h u) vs with|none=>rfl|some y=>obtain⟨ds,ns,u'⟩:=y;simp only[wt,Ju]
theorem aov {h:Nat->Option aA} {v:au} {n:Nat} {xs:List C} (e:pI h v=some (n,xs)):n∈v.kj:=by obtain⟨sz,cs,rfl,_⟩:=acp e;simp[au.kj,aj.nm,aj.xG]
theorem Oo:∀{vs:List au} {h:Nat->Option aA} {ds:List Dv} {ns:List Nat} {u:Us},qq h vs=some (ds,ns,u)->(∀q∈u,q.1∈vs.flatMap au.kj)/\∀n∈ns,n∈vs.flatMap au.kj
 |[],h,ds,ns,u,e=>by simp only[qq] at e;injection e with e;injection e with _ e;injection e with c e;subst e c;exact⟨fun q a=>(by cases a),fun q a=>(by cases a)⟩
 |v::vs,h,ds,ns,u,e=>by simp only[qq] at e;split at e;rename_i n xs hp;split at e;rename_i zU oK u' d;injection e with e;injection e with _ e;injection e with c e;subst e c;obtain⟨i1,i2⟩:=Oo d;rw[IS];refine⟨fun q a=>By.2 (.inr (i1 q a)),fun m hm=>?_⟩;rcases zan.1 hm with rfl|hm;exact By.2 (.inl (aov hp));exact By.2 (.inr (i2 m hm));cases e;split at e;rename_i b cs g;split at e;rename_i x o1 u1 c;split at e;rename_i ds2 ns2 u2 d;injection e with e;injection e with _ e;injection e with f e;subst e f;obtain⟨i1,i2⟩:=Oo d;rw[IS];refine⟨fun q a=>?_,fun m hm=>By.2 (.inr (i2 m hm))⟩;rcases By.1 a with a|a;exact By.2 (.inl (GV g▸SI c q a));exact By.2 (.inr (i1 q a));cases e;cases e;cases e
theorem aou {h h':Nat->Option aA} {v:au} (a:∀n∈v.kj,h' n=h n):pI h' v=pI h v:=by cases v with|one c=>(cases c with|ptr n k sz off=>simp only[pI];rw[a n (by simp[au.kj,aj.nm,aj.xG])]|_=>rfl)|_=>rfl
theorem UZ:∀{vs:List au} {h h':Nat->Option aA},(∀n∈vs.flatMap au.kj,h' n=h n)->qq h' vs=qq h vs
 |[],h,h',_=>rfl
 |v::vs,h,h',hh=>by have a:∀n∈v.kj,h' n=h n:=fun n hn=>hh n (by rw[IS];exact By.2 (.inl hn));have c:∀n∈vs.flatMap au.kj,h' n=h n:=fun n hn=>hh n (by rw[IS];exact By.2 (.inr hn));simp only[qq];rw[aou a];cases pI h v with|some x=>obtain⟨n,xs⟩:=x;simp only;rw[UZ c]|none=>simp only;cases hv:v.cells? with|none=>rfl|some x=>obtain⟨b,cs⟩:=x;simp only;rw[SH (cs:=cs) fun n hn=>a n (GV hv▸hn)];cases n9 h cs with|none=>rfl|some y=>obtain⟨e,o,u⟩:=y;simp only;rw[UZ (vs:=vs) (h:=fT h u) (h':=fT h' u) fun n hn=>NS (c n hn) u]
def AX (h:Nat->Option aA):List Nat->List C->Option Us
 |[],[]=>some []
 |[n],out=>match h n with
  |some (.box cs)=>if cs.length=out.length then some [(n,some (.box (out.map .c)))] else none
  |_=>none
 |_,_=>none
theorem ay8 (σ:St) (ns:List Nat) (out:List C):σ.tN ns out=(AX σ.h ns out).map σ.fx:=by
 match ns,out with
 |[],[]=>rfl
 |[],_::_=>rfl
 |[n],out=>
  simp only[St.tN,AX];cases σ.h n with
  |none=>rfl
  |some b=>
   cases b with
   |box cs=>simp only;split<;>rfl
   |row gr m rs xs=>rfl
 |_::_::_,out=>rfl
theorem ay7 {h:Nat->Option aA} {ns:List Nat} {out:List C} {u:Us} (e:AX h ns out=some u):∀q∈u,q.1∈ns:=by unfold AX at e;split at e;injection e with e;subst e;intro q a;cases a;split at e;split at e;injection e with e;subst e;intro q a;simp at a;subst a;simp;cases e;cases e;cases e
theorem ay6 {h h':Nat->Option aA} {ns:List Nat} {out:List C} (a:∀n∈ns,h' n=h n):AX h' ns out=AX h ns out:=by
 match ns,out with
 |[],[]=>rfl
 |[],_::_=>rfl
 |[n],out=>simp only[AX];rw[a n (by simp)]
 |_::_::_,out=>rfl
def GM (d:Option Nat):List Dv->Option (au×List (Nat×aA))
 |[(.ptr,cs)]=>match d with
  |some q=>some (.one (.ptr q 0 0 0),[(q,.box (cs.map .c))])
  |none=>none
 |rs=>match mB rs with
  |some ls=>some (oM ls,[])
  |none=>none
theorem aow (σ:St) (d:Option Nat) (a:List Dv):rZ σ d a=(GM d a).bind fun x=>(σ.ew x.2).map (·.put d x.1):=by
 unfold rZ;split
 ·cases d with
  |none=>rfl
  |some q=>
   simp only[GM,GB,St.ew];cases σ.ins q _<;>rfl
 ·rename_i c;have e:GM d a=match mB a with
    |some b=>some (oM b,[])
    |none=>none:=by
   unfold GM;split
   ·exact absurd rfl (c _)
   ·rfl
  rw[e];cases mB a with
  |none=>rfl
  |some b=>rfl
abbrev Ux:=au×List (Nat×Option aA)×List (Nat×aA)
def jR (T:bj) (d:Option Nat) (op:bo) (ev:MO->au) (h:Nat->Option aA):Option Ux:=
 match op with
 |.store sz x v=>match ev x,(ev v).cells? with
  |.one (.ptr n k aO off),some (_,vs)=>if vs.length=sz then
   match h n with
   |some (.box cs)=>if k=0/\off+sz<=cs.length then some (.one .bZ,[(n,some (.box (dA cs off vs)))],[]) else none
   |some (.row gr m rs xs)=>if aO=rs then
    match xs[k]? with
    |some e=>match Dt h n gr m rs xs k off e vs with
     |some u=>some (.one .bZ,u,[])
     |none=>none
    |none=>none
    else none
   |none=>none
   else none
  |.one (.dU n k aO off s i),some (_,vs)=>if vs.length=sz then
   match h n with
   |some (.row false .live rs xs)=>if aO=rs then
    match A9 xs k off s i vs with
    |some aH=>some (.one .bZ,[(n,some (.row false .live rs aH))],[])
    |none=>none
    else none
   |_=>none
   else none
  |_,_=>none
 |.f8 sz ps=>match d,tY sz h (ps.map ev) with
  |some n,some (es,o,u)=>some (.one (.sl n sz 0 es.length),u,[(n,.row true (if o=true then .aS else .aQ) sz es)])
  |_,_=>none
 |.append fl sz dW x y=>match d with
  |none=>none
  |some n=>match BS h sz (ev x) with
   |none=>none
   |some (xs,m,u1)=>match zJ fl (fT h u1) sz m (ev y) with
    |none=>none
    |some (ys,m2,u2)=>if(xs.length+ys.length)*dW<=gH then some (.one (.sl n sz 0 (xs.length+ys.length)),u1++u2,[(n,.row true m2 sz (xs++ys))]) else none
 |.lN f xs=>match qq h (xs.map ev),bj.o8 T.vs f with
  |some (ds,ns,u),some M=>match M ds with
   |some (rs,out)=>match AX (fT h u) ns out,GM d rs with
    |some u',some (v,is)=>some (v,u++u',is)
    |_,_=>none
   |none=>none
  |_,_=>none
 |.copy sz x y=>match ev x,ev y with
  |.one (.sl n s lo len),.one c=>match h n,dE h c with
   |some (.row gr m rs xs),some (.list s' ys)=>if sz=1/\s=1/\rs=1/\s'=1/\m≠ .aQ/\iV xs=true/\iV ys=true/\lo+len<=xs.length then
    some (.one (.c (.int .i64 (zaA ys.length len:Nat))),[(n,some (.row gr m 1 (dA xs lo (ys.take len))))],[]) else none
   |_,_=>none
  |_,_=>none
 |.oW z x=>match ev x with
  |.one (.sl n s lo len)=>match h n with
   |some (.row gr m rs xs)=>if s=1/\rs=1/\z.gx=true/\m≠ .aQ/\iV xs=true/\lo+len<=xs.length then
    some (.ct [],[(n,some (.row gr m 1 (dA xs lo (zaf len [z]))))],[]) else none
   |_=>none
  |_=>none
 |op=>(rd T d op ev h).map fun x=>(x.1,[],x.2)
def B9 (d:Option Nat) (σ:St) (p:Ux):Option St:=((σ.fx p.2.1).ew p.2.2).map (·.put d p.1)
theorem Pj {T:bj} {d:Option Nat} {op:bo} {σ:St} {ws:List Nat} (a:op.oS σ.ev σ.h=some ws) (hd:∀sz x v,op=.store sz x v->d=none):
  exec T d op σ=(jR T d op σ.ev σ.h).bind (B9 d σ):=by
 by_cases r:op.fW<=1
 ·rw[uz T d op σ r];have:jR T d op σ.ev σ.h=(rd T d op σ.ev σ.h).map fun x=>(x.1,[],x.2):=by
   cases op<;>first|rfl|(simp[bo.fW] at r)
  rw[this];cases rd T d op σ.ev σ.h with
  |none=>rfl
  |some x=>rfl
 ·cases op<;>simp[bo.fW] at r<;>simp only[bo.oS] at a
  case oU=>cases a
  case ox=>cases a
  case copy sz x y=>
   simp only[exec,jR];cases σ.ev x with
   |one p=>cases p with
    |sl n s lo len=>
     cases σ.ev y with
     |one c=>
      simp only
      cases σ.h n with
      |none=>rfl
      |some b=>cases b with
       |box cs=>rfl
       |row j m g xs=>
        cases dE σ.h c with
        |none=>rfl
        |some q=>cases q with
         |list s' ys=>
          simp only
          split<;>rfl
         |_=>rfl
     |_=>rfl
    |_=>rfl
   |_=>rfl
  case oW z x=>
   simp only[exec,jR];cases σ.ev x with
   |one p=>cases p with
    |sl n s lo len=>
     simp only
     cases σ.h n with
     |none=>rfl
     |some b=>cases b with
      |box cs=>rfl
      |row j m g xs=>
       simp only
       split<;>rfl
    |_=>rfl
   |_=>rfl
  case lN f xs=>
   simp only[exec,jR,rc,U1];cases qq σ.h (xs.map σ.ev) with
   |none=>rfl
   |some x=>
    obtain⟨ds,ns,u⟩:=x;simp only[wt];cases bj.o8 T.vs f with
    |none=>rfl
    |some M=>
     simp only
     cases M ds with
     |none=>rfl
     |some z=>
      obtain⟨g,out⟩:=z;simp only[ay8,NU];cases AX (fT σ.h u) ns out with
      |none=>rfl
      |some u'=>
       simp only[wt,aow];cases GM d g with
       |none=>rfl
       |some z=>
        obtain⟨v,is⟩:=z;simp only[GB,B9,Ju]
  case f8 sz ps=>
   simp only[exec,jR];rw[am5];cases d with
   |none=>rfl
   |some n=>
    cases tY sz σ.h (ps.map σ.ev) with
    |none=>rfl
    |some x=>
     obtain⟨es,o,u⟩:=x;simp only[wt,GB,B9,St.ew];cases (σ.fx u).ins n (.row true (if o=true then .aS else .aQ) sz es)<;>rfl
  case append fl sz dW x y=>
   simp only[exec,jR,an8];cases d with
   |none=>rfl
   |some n=>
    simp only
    cases BS σ.h sz (σ.ev x) with
    |none=>rfl
    |some z=>
     obtain⟨xs,m,l⟩:=z;simp only[wt,aoa];have t:(σ.fx l).h=fT σ.h l:=by rw[qg]
     rw[t];cases zJ fl (fT σ.h l) sz m (σ.ev y) with
     |none=>rfl
     |some z=>
      obtain⟨ys,m2,u2⟩:=z;simp only[wt];split
      ·simp only[GB,B9,Ju,St.ew];cases ((σ.fx l).fx u2).ins n (.row true m2 sz (xs++ys))<;>rfl
      ·rfl
  case store sz x v=>
   have hd:=hd sz x v rfl;subst hd;simp only[exec,jR];split at a
   ·rename_i n k w off hx;simp only[hx];cases hv:(σ.ev v).cells? with
    |none=>rfl
    |some y=>
     obtain⟨ag,vs⟩:=y;simp only
     split
     ·split at a
      ·rename_i cs hn;simp only[hn];split
       ·rfl
       ·rfl
      ·rename_i j m g xs hn;simp only[hn];split
       ·cases xs[k]? with
        |none=>rfl
        |some e=>
         simp only
         rw[aAS];cases Dt σ.h n j m g xs k off e vs with
         |none=>rfl
         |some b=>rfl
       ·rfl
      ·cases a
     ·rfl
   ·rename_i n k w off s i hx;simp only[hx];cases hv:(σ.ev v).cells? with
    |none=>rfl
    |some y=>
     obtain⟨ag,vs⟩:=y;simp only
     split
     ·cases σ.h n with
      |none=>rfl
      |some b=>cases b with
       |box cs=>rfl
       |row j m g xs=>cases m with
        |live=>cases j with
         |true=>rfl
         |false=>
          simp only
          split
          ·cases A9 xs k off s i vs<;>rfl
          ·rfl
        |_=>cases j<;>rfl
     ·rfl
   ·cases a
theorem ab4 {T:bj} {d:Option Nat} {op:bo} {ev:MO->au} {h:Nat->Option aA} {ws:List Nat} {p:Ux} (j:op.oS ev h=some ws) (ha:jR T d op ev h=some p):∀q∈p.2.1,q.1∈ws:=by by_cases E:op.fW<=1;have:jR T d op ev h=(rd T d op ev h).map fun x=>(x.1,[],x.2):=(by cases op<;>first|rfl|(simp[bo.fW] at E));rw[this,zah] at ha;obtain⟨x,_,rfl⟩:=ha;intro q g;cases g;(·cases op<;>simp[bo.fW] at E<;>simp only[bo.oS] at j;(case oU=>cases j);(case ox=>cases j);(case copy sz x y=>simp only[jR] at ha;split at ha;(·rename_i n s lo len c hx hy;simp only[hx] at j;injection j with j;subst j;(repeat' split at ha);(all_goals first|cases ha|skip);intro q g;simp at g;subst g;simp);cases ha);(case oW z x=>simp only[jR] at ha;split at ha;(·rename_i n s lo len hx;simp only[hx] at j;injection j with j;subst j;(repeat' split at ha);(all_goals first|cases ha|skip);intro q g;simp at g;subst g;simp);cases ha);(case lN f xs=>injection j with j;subst j;simp only[jR] at ha;split at ha;rename_i ds ns u M l r;split at ha;rename_i F out e3;split at ha;rename_i u' v is I e5;injection ha with ha;subst ha;obtain⟨i1,i2⟩:=Oo l;intro q g;rw[zat] at i1 i2;rcases By.1 g with g|g;exact i1 q g;exact i2 _ (ay7 I q g);cases ha;cases ha;cases ha);(case f8 sz ps=>injection j with j;subst j;simp only[jR] at ha;split at ha;rename_i n es o u e;injection ha with ha;subst ha;intro q g;have:=am4 e q g;rw[zat] at this;exact this;cases ha);(case append fl sz dW x y=>injection j with j;subst j;simp only[jR] at ha;split at ha;cases ha;(·split at ha;cases ha;(·rename_i xs m B l;split at ha;cases ha;(·rename_i ys m2 u2 r;split at ha;(·injection ha with ha;subst ha;intro q g;rcases By.1 g with w|w;clear g;refine By.2 (.inl ?_);unfold BS at l;split at l;injection l with l;injection l with _ l;injection l with _ l;subst l;cases w;rename_i a s len A;split at l;split at l;injection l with l;injection l with _ l;injection l with _ l;subst l;simp at w;subst w;simp[au.kj,aj.nm,aj.xG,A];cases l;cases l;cases l;(·clear g;refine By.2 (.inr ?_);have H:∀(b:Nat),u2=[]\/u2=[(b,none)]->b∈(ev y).kj->q.1∈(ev y).kj:=(by intro b hb hm;rcases hb with hb|hb;subst hb;cases w;subst hb;simp at w;subst w;exact hm);unfold zJ at r;split at r;injection r with r;injection r with _ r;injection r with _ r;subst r;cases w;(·(repeat' split at r);(all_goals first|cases r|skip);all_goals (cases w));(·rename_i b s lo len A;have hm:b∈(ev y).kj:=(by simp[A,au.kj,aj.nm,aj.xG]);refine H b ?_ hm;(repeat' split at r);(all_goals first|cases r|skip);all_goals first|exact .inl rfl|exact .inr rfl);cases r));cases ha))));case store sz x v=>simp only[jR] at ha;split at ha;(·rename_i n k J off b vs hx A;simp only[hx] at j;split at ha;(·split at ha;rename_i cs hn;simp only[hn] at j;split at ha;injection ha with ha;subst ha;injection j with j;subst j;intro q g;simp at g;subst g;simp;cases ha;(·rename_i gr m F xs hn;simp only[hn] at j;injection j with j;subst j;split at ha;(·split at ha;(·split at ha;(·rename_i u t;injection ha with ha;subst ha;intro q g;have g:q∈u:=g;have two:∀(B:Us) (D:Option aA),u=B++[(n,D)]->(∀q∈B,q.1∈vs.flatMap aj.nm)->q.1∈n::(ev v).kj:=(by intro B D G C;rw[G] at g;rcases By.1 g with g|g;exact zac _ (GV A▸C q g);simp at g;subst g;simp);unfold Dt at t;split at t;cases t;(·split at t;cases t;(·rename_i cs o B l;have C:=SI l;(repeat' split at t);all_goals first|(injection t with t;exact two _ _ t.symm C)|cases t)));cases ha);cases ha);cases ha);cases ha);cases ha);(·rename_i n k J off s i b vs hx A;simp only[hx] at j;injection j with j;subst j;(repeat' split at ha);(all_goals first|cases ha|skip);intro q g;simp at g;subst g;simp);cases ha)
section
variable {T:bj} {d:Option Nat} {op:bo} {ev ev':MO->au} {h h':Nat->Option aA}
theorem MF (a:∀x∈op.args,ev' x=ev x):op.mM ev'=op.mM ev:=by unfold bo.mM;generalize op.args=l at a;induction l with|nil=>rfl|cons x l b=>simp only[IS];rw[a x (by simp),b fun y hy=>a y (zac _ hy)]
theorem acz:∀{l:List Nat} (_:∀n∈l,h' n=h n),GP h' l=GP h l
 |[],_=>rfl
 |n::l,hh=>by have:=acz (l:=l) fun m hm=>hh m (zac _ hm);simp only[GP,IS] at this⊢;rw[hh n (by simp),this]
theorem ZD (a:∀x∈op.args,ev' x=ev x) (b:∀n∈op.mM ev,h' n=h n):op.qQ ev' h'=op.qQ ev h:=by unfold bo.qQ;rw[MF a,acz b]
theorem S0 (a:∀x∈op.args,ev' x=ev x) (d:∀n∈op.mM ev,h' n=h n):op.oS ev' h'=op.oS ev h:=by(cases op<;>first|rfl|skip);(case store sz x v=>have b:=a x (by simp[bo.args]);have c:=a v (by simp[bo.args]);simp only[bo.oS,b,c];cases hv:ev x with|one p=>(cases p with|ptr n k aO off=>simp only;rw[d n (u4.2 ⟨x,by simp[bo.args],by rw[hv];exact rfl⟩)]|_=>rfl)|_=>rfl);(case copy sz x y=>simp only[bo.oS,a x (by simp[bo.args])]);(case oW z x=>simp only[bo.oS,a x (by simp[bo.args])]);(case lN f xs=>have:=MF (op:=.lN f xs) a;simp only[bo.mM,bo.args] at this;simp only[bo.oS,this]);(case f8 sz ps=>have:=MF (op:=.f8 sz ps) a;simp only[bo.mM,bo.args] at this;simp only[bo.oS,this]);case append fl sz dW x y=>simp only[bo.oS,a x (by simp[bo.args]),a y (by simp[bo.args])]
theorem ab3 (j:∀x∈op.args,ev' x=ev x) (H:∀n∈op.qQ ev h,h' n=h n):jR T d op ev' h'=jR T d op ev h:=by have B:∀n∈op.mM ev,h' n=h n:=fun n hn=>H n (QR hn);have hn:∀a∈op.args,∀n,(ev a).ref n->h' n=h n:=fun a ha n hr=>B n (u4.2 ⟨a,ha,hr⟩);have gen:rd T d op ev' h'=rd T d op ev h:=(by rw[IQ T d op _ j];refine aj9 (u:=fun n=>h' n=h n) (vv:=fun n=>n∈op.mM ev) T d op ev (fun n hn=>hn) (fun w m cs c n hm hb L hr=>?_) (fun x hx m hm=>hn x hx m hm) (fun x hx m hm=>u4.2 ⟨x,hx,hm⟩);refine H n ?_;unfold bo.qQ;rw[w];refine By.2 (.inr ?_);unfold GP;rw[zab];exact⟨m,hm,by rw[hb];exact zab.2 ⟨c,L,aj.MG.2 hr⟩⟩);(cases op<;>first|(simp only[jR];rw[gen];done)|skip);(case store sz x v=>have r:=j x (by simp[bo.args]);have l:=j v (by simp[bo.args]);simp only[jR,r,l];have g:=hn x (by simp[bo.args]);cases hv:ev x with|one p=>(cases p with|ptr n k N off=>rw[hv] at g;have g:=g n rfl;have D:=hn v (by simp[bo.args]);(cases w:(ev v).cells? with|none=>rfl|some y=>obtain⟨b,vs⟩:=y;have I:∀E m C xs e,Dt h' n E m C xs k off e vs=Dt h n E m C xs k off e vs:=(by intro E m C xs e;have K:n9 h' vs=n9 h vs:=SH fun q J=>D q (au.Fp.1 (GV w▸J));unfold Dt;rw[K];cases n9 h vs with|none=>rfl|some y=>obtain⟨cs,o,u⟩:=y;simp only[NS g u]);simp only[g,I])|dU n k N off s i=>rw[hv] at g;have g:=g n rfl;(cases w:(ev v).cells? with|none=>rfl|some y=>simp only[g])|_=>cases (ev v).cells?<;>rfl)|_=>cases (ev v).cells?<;>rfl);(case copy sz x y=>have r:=j x (by simp[bo.args]);have l:=j y (by simp[bo.args]);have g:=hn x (by simp[bo.args]);have A:=hn y (by simp[bo.args]);simp only[jR,r,l];cases hv:ev x with|one p=>(cases p with|sl n s lo len=>rw[hv] at g;have g:=g n rfl;(cases w:ev y with|one c=>rw[w] at A;have D:dE h' c=dE h c:=F8 (u:=fun n=>h' n=h n) (fun n hn=>hn) fun m hm=>A m (aj.C6 hm);simp only[g,D]|_=>rfl)|_=>rfl)|_=>rfl);(case oW z x=>have r:=j x (by simp[bo.args]);have g:=hn x (by simp[bo.args]);simp only[jR,r];cases hv:ev x with|one p=>(cases p with|sl n s lo len=>rw[hv] at g;have g:=g n rfl;simp only[g]|_=>rfl)|_=>rfl);(case lN f xs=>have hl:xs.map ev'=xs.map ev:=zae j;have l:qq h' (xs.map ev)=qq h (xs.map ev):=UZ fun n t=>(by rw[zat] at t;exact B n t);simp only[jR,hl,l];cases G:qq h (xs.map ev) with|none=>rfl|some x=>obtain⟨ds,ns,u⟩:=x;(try simp only);cases bj.o8 T.vs f with|none=>rfl|some M=>(try simp only);cases M ds with|none=>rfl|some z=>obtain⟨C,out⟩:=z;(try simp only);rw[ay6 (h:=fT h u) (h':=fT h' u) fun n t=>NS (B n (by have:=(Oo G).2 n t;rw[zat] at this;exact this)) u]);(case f8 sz ps=>have hl:ps.map ev'=ps.map ev:=zae j;have l:tY sz h' (ps.map ev)=tY sz h (ps.map ev):=am3 fun n t=>(by rw[zat] at t;exact B n t);simp only[jR,hl,l]);case append fl sz dW x y=>have r:=j x (by simp[bo.args]);have l:=j y (by simp[bo.args]);have g:=hn x (by simp[bo.args]);have A:=hn y (by simp[bo.args]);have G:BS h' sz (ev x)=BS h sz (ev x):=(by cases hv:ev x with|one p=>(cases p with|sl a s lo len=>rw[hv] at g;(cases lo with|zero=>simp only[BS,g a rfl]|succ lo=>rfl)|_=>rfl)|_=>rfl);have O:∀(us:List (Nat×Option aA)) (m:Mode),zJ fl (fT h' us) sz m (ev y)=zJ fl (fT h us) sz m (ev y):=(by intro us m;cases hv:ev y with|one p=>(cases p with|sl b s lo len=>rw[hv] at A;have hb:fT h' us b=fT h us b:=(by by_cases F:∃p∈us,p.1=b;exact NT F;rw[sT fun p hp e=>F ⟨p,hp,e⟩,sT fun p hp e=>F ⟨p,hp,e⟩];exact A b rfl);simp only[zJ,hb]|c x=>cases x<;>rfl|_=>rfl)|_=>rfl);simp only[jR,r,l,G,O]
end
theorem VF {f g:List Nat×List Nat} (h:KI f g=true) {n:Nat} (a:n∈f.2) (b:n∈g.1):False:=by simp only[KI,co,AT] at h;have:=h.1 n a;simp[b] at this
theorem apK {f g:List Nat×List Nat} (h:KI f g=true) {n:Nat} (a:n∈g.2) (b:n∈f.1):False:=by simp only[KI,co,AT] at h;have:=h.2 n a;simp[b] at this
theorem Iz {σ:St} (W:Wf σ) {op:bo} (b:∀a∈op.args,a.flat=true) {n:Nat} (hn:n∈op.mM σ.ev):σ.used n=true:=by obtain⟨a,ha,hr⟩:=u4.1 hn;exact W.arg (b a ha) n hr
theorem aj7 {σ:St} (W:Wf σ) {op:bo} (d:∀a∈op.args,a.flat=true) {n:Nat} (hn:n∈op.qQ σ.ev σ.h):σ.used n=true:=by unfold bo.qQ at hn;cases b:op.Mb with|true=>rw[b] at hn;rcases By.1 hn with hn|hn;exact Iz W d hn;unfold GP at hn;rw[zab] at hn;obtain⟨m,hm,hn⟩:=hn;split at hn;rename_i cs hb;obtain⟨c,b,hr⟩:=zab.1 hn;exact W.box m cs c n hb b (aj.MG.1 hr);cases hn|false=>rw[b] at hn;exact Iz W d hn
section
variable {T:bj} {dx dy:Option Nat} {x y:bo} {σ σ1 σ2:St}
theorem afg (W:Wf σ) (g:∀n,dx=some n->MO.t n∉y.args) (l:∀a∈y.args,a.flat=true) (f:∀sz p v,x=.store sz p v->dx=none) (c:x.fW<=1\/y.fW=0) (b:exec T dx x σ=some σ1):y.fp σ1=y.fp σ:=by have m:=B7 f b;have d:∀a∈y.args,σ1.ev a=σ.ev a:=fun a ha=>(by cases a with|t n=>show σ1.env n=σ.env n;rw[m];exact vY fun i=>g n i ha|k v=>rfl);rcases c with c|c;rw[uz T dx x σ c] at b;have e:∀n∈y.mM σ.ev,σ1.h n=σ.h n:=(by intro n hn;cases hr:rd T dx x σ.ev σ.h with|none=>rw[hr] at b;cases b|some p=>rw[hr] at b;simp only[GB,iP,zah] at b;obtain⟨A,o,rfl⟩:=b;have:(A.put dx p.1).h=A.h:=(by cases dx<;>rfl);rw[this];exact((EU o).1 n (Iz W l hn)).2);unfold bo.fp;rw[S0 d e,ZD d e];unfold bo.fp;have j:y.Mb=false:=(by cases y<;>first|rfl|(simp[bo.fW] at c));have w:∀ev h,y.oS ev h=some []:=(by intro ev h;cases y<;>first|rfl|(simp[bo.fW] at c));simp only[w,bo.qQ,j,cond_false,MF d]
theorem ao6 (W:Wf σ) (hd:∀n,dx=some n->dy≠some n) (tt:∀n,dx=some n->MO.t n∉y.args) (yP:∀n,dy=some n->MO.t n∉x.args) (HO:∀a∈x.args,a.flat=true) (Y:∀a∈y.args,a.flat=true) (Ab:∀sz p v,x=.store sz p v->dx=none) (Ln:∀sz p v,y=.store sz p v->dy=none) (l:KJ (x.fp σ) (y.fp σ1)=true) (w:exec T dx x σ=some σ1) (o:exec T dy y σ1=some σ2):∃τ,exec T dy y σ=some τ/\exec T dx x τ=some σ2/\y.fp σ1=y.fp σ/\x.fp τ=x.fp σ:=by unfold bo.fp at l;cases El:x.oS σ.ev σ.h with|none=>rw[El] at l;cases l|some wx=>cases Em:y.oS σ1.ev σ1.h with|none=>rw[El,Em] at l;cases l|some wy=>rw[El,Em] at l;simp only[wt,KJ] at l;rw[Pj El Ab] at w;rw[Pj Em Ln] at o;cases O0:jR T dx x σ.ev σ.h with|none=>rw[O0] at w;cases w|some px=>obtain⟨j,b,nx⟩:=px;rw[O0] at w;simp only[GB,B9,zah] at w;obtain⟨A,hA,rfl⟩:=w;have K:∀q∈b,q.1∈wx:=ab4 El O0;have m:∀q∈b,σ.used q.1=true:=fun q c=>Iz W HO (anx El (K q c));obtain⟨f,z,rfl⟩:=Yj m hA;obtain⟨H,ea⟩:=EU z;have ru:∀(s:St) (d:Option Nat) (v:au),(s.put d v).h=s.h:=fun s d v=>(by cases d<;>rfl);have G:∀a∈y.args,((f.fx b).put dx j).ev a=σ.ev a:=fun a ha=>(by rw[tP,Pf fun n hn=>vY fun O=>tt n O (hn▸ha)];cases a with|t n=>show(f.fx b).env n=σ.env n;rw[qg];show f.env n=_;rw[ea]|k v=>rfl);have V:y.qQ ((f.fx b).put dx j).ev ((f.fx b).put dx j).h=y.qQ σ.ev σ.h/\y.oS ((f.fx b).put dx j).ev ((f.fx b).put dx j).h=y.oS σ.ev σ.h:=(by have I:∀n∈y.mM σ.ev,((f.fx b).put dx j).h n=σ.h n:=fun n hn=>(by rw[ru,qg];show fT f.h b n=_;rw[sT fun p hp e=>VF l (K p hp) (by rw[e];exact QR (by rw[MF G];exact hn))];exact(H n (Iz W Y hn)).2);exact⟨ZD G I,S0 G I⟩);obtain⟨r1,r2⟩:=V;have I:∀n∈y.qQ σ.ev σ.h,((f.fx b).put dx j).h n=σ.h n:=fun n hn=>(by rw[ru,qg];show fT f.h b n=_;rw[sT fun p hp e=>VF l (K p hp) (by rw[e];show n∈y.qQ _ _;rw[r1];exact hn)];exact(H n (aj7 W Y hn)).2);have P:jR T dy y ((f.fx b).put dx j).ev ((f.fx b).put dx j).h=jR T dy y σ.ev σ.h:=ab3 G I;rw[P] at o;rw[r2] at Em;cases O1:jR T dy y σ.ev σ.h with|none=>rw[O1] at o;cases o|some py=>obtain⟨u,g,ny⟩:=py;rw[O1] at o;simp only[GB,B9,zah] at o;obtain⟨D,hD,rfl⟩:=o;have E:∀q∈g,q.1∈wy:=ab4 Em O1;have B:∀q∈g,q.1∈y.mM σ.ev:=fun q c=>anx Em (E q c);have r:∀q∈g,σ.used q.1=true:=fun q c=>Iz W Y (B q c);have Z:∀q∈g,f.used q.1=true:=fun q c=>(H _ (r q c)).1;have R:∀q∈b,f.used q.1=true:=fun q c=>(H _ (m q c)).1;have Ch:∀p∈b,∀q∈g,p.1≠q.1:=fun p hp q c e=>VF l (K p hp) (by rw[e];show q.1∈y.qQ _ _;rw[r1];exact QR (B q c));rw[tP,anj,EV,zah] at hD;obtain⟨D0,S,rfl⟩:=hD;obtain⟨D1,Q,rfl⟩:=Yj (σ:=f.fx b) (fun q c=>by rw[qg];exact Z q c) S;obtain⟨F,hF,rfl⟩:=Yj R Q;obtain⟨i,hC,X⟩:=Yi z hF;obtain⟨L,ec⟩:=EU hC;have N:∀q∈g,i.used q.1=true:=fun q c=>(L _ (r q c)).1;have M:∀q∈b,i.used q.1=true:=fun q c=>(L _ (m q c)).1;have J:∀a∈x.args,((i.fx g).put dy u).ev a=σ.ev a:=fun a ha=>(by rw[tP,Pf fun n hn=>vY fun O=>yP n O (hn▸ha)];cases a with|t n=>show(i.fx g).env n=σ.env n;rw[qg];show i.env n=_;rw[ec]|k v=>rfl);have C:∀n∈x.qQ σ.ev σ.h,((i.fx g).put dy u).h n=σ.h n:=fun n hn=>(by rw[ru,qg];show fT i.h g n=_;rw[sT fun p hp e=>apK l (E p hp) (by rw[e];exact hn)];exact(L n (aj7 W HO hn)).2);have U:∀n∈x.mM σ.ev,((i.fx g).put dy u).h n=σ.h n:=fun n hn=>C n (QR hn);refine⟨(i.fx g).put dy u,?_,?_,?_,?_⟩;rw[Pj Em Ln,O1];simp only[GB,B9,L9 r hC,wt];rw[Pj (ws:=wx) (by rw[S0 J U];exact El) Ab,ab3 J C,O0];simp only[GB,B9];rw[tP,anj,EV,L9 (σ:=i.fx g) (fun q c=>by rw[qg];exact M q c) (L9 N X)];simp only[wt];rw[tP,tP,aBs Ch];congr 1;have e1:(i.fx g).env=σ.env:=(by rw[qg];exact ec);have e2:(f.fx b).env=σ.env:=(by rw[qg];exact ea);show St.we _ (lF (lF (i.fx g).env dy u) dx j)=St.we _ (lF (lF (f.fx b).env dx j) dy u);rw[e1,e2,Rd σ.env _ _ hd];rfl;unfold bo.fp;rw[r1,r2];unfold bo.fp;rw[S0 J U,ZD J U]
end
def Ku (x y:cZ):Bool:=x.op.fW==0||y.op.fW==0||(decide (x.op.fW<=1)&&decide (y.op.fW<=1))
def Kw (x y:cZ):Bool:=
 (match x.dst with|some d=>y.zh d&&(match y.dst with|some e=>e !=d|none=>true)|none=>true)&&
 (match y.dst with|some d=>x.zh d|none=>true)&&x.vt&&y.vt
theorem ao7 {T:bj} {x y:cZ} {σ σ1 σ2:St} (W:Wf σ) (M:Kw x y=true) (C:Ku x y=true\/KJ (x.fp σ) (y.fp σ1)=true) (d:gQ T x σ=some σ1) (f:gQ T y σ1=some σ2): ∃τ,gQ T y σ=some τ/\gQ T x τ=some σ2/\y.fp σ1=y.fp σ/\x.fp τ=x.fp σ:=by simp only[Kw,co] at M;obtain⟨⟨⟨i,u⟩,q⟩,B⟩:=M;rw[Hp] at d f;cases ex:rf x σ.env with|none=>rw[ex] at d;cases d|some c=>rw[ex] at d;have d:exec T x.dst c σ=some σ1:=d;have A:c=x.op\/c=.mv (.k (.ct [])):=O3 ex;have r:∀sz p v,c=.store sz p v->x.dst=none:=(by intro sz p v j;rcases A with rfl|rfl;simp only[cZ.vt,co,j] at q;simpa using q.2;cases j);have S:=B7 r d;have R:∀s w,y.guard=some (s,w)->x.dst≠some s:=(by intro s w g hd;rw[hd] at i;simp[cZ.zh,g] at i);have N:∀s w,x.guard=some (s,w)->y.dst≠some s:=(by intro s w g hd;rw[hd] at u;simp[cZ.zh,g] at u);have K:rf y σ1.env=rf y σ.env:=KL fun s w g=>(by rw[S];exact vY (R s w g));rw[K] at f;cases ey:rf y σ.env with|none=>rw[ey] at f;cases f|some b=>rw[ey] at f;have f:exec T y.dst b σ1=some σ2:=f;have z:b=y.op\/b=.mv (.k (.ct [])):=O3 ey;have l:∀sz p v,b=.store sz p v->y.dst=none:=(by intro sz p v j;rcases z with rfl|rfl;simp only[cZ.vt,co,j] at B;simpa using B.2;cases j);have E:∀a∈c.args,a.flat=true:=(by rcases A with rfl|rfl;simp only[cZ.vt,co,AT] at q;exact q.1;intro a ha;simp[bo.args] at ha;subst ha;rfl);have G:∀a∈b.args,a.flat=true:=(by rcases z with rfl|rfl;simp only[cZ.vt,co,AT] at B;exact B.1;intro a ha;simp[bo.args] at ha;subst ha;rfl);have F:∀n,x.dst=some n->MO.t n∉b.args:=(by intro n hd;rcases z with rfl|rfl;rw[hd] at i;simp only[co] at i;exact cZ.QS i.1;simp[bo.args]);have D:∀n,y.dst=some n->MO.t n∉c.args:=(by intro n hd;rcases A with rfl|rfl;rw[hd] at u;exact cZ.QS u;simp[bo.args]);have L:∀n,x.dst=some n->y.dst≠some n:=(by intro n hd j;rw[hd,j] at i;simp at i);have m:y.fp σ1=b.fp σ1:=(by unfold cZ.fp;rw[K,ey]);have I:y.fp σ=b.fp σ:=(by unfold cZ.fp;rw[ey]);have o:x.fp σ=c.fp σ:=(by unfold cZ.fp;rw[ex]);have H:∀τ,exec T y.dst b σ=some τ->x.fp τ=c.fp τ:=(by intro τ h;unfold cZ.fp;rw[KL (e:=σ.env) (fun s w g=>by rw[B7 l h];exact vY (N s w g)),ex]);have iP:(∃τ,exec T y.dst b σ=some τ/\exec T x.dst c τ=some σ2/\b.fp σ1=b.fp σ/\c.fp τ=c.fp σ)->∃τ,gQ T y σ=some τ/\gQ T x τ=some σ2/\y.fp σ1=y.fp σ/\x.fp τ=x.fp σ:=(by rintro⟨τ,h,J,P,Q⟩;refine⟨τ,?_,?_,?_,?_⟩;rw[Hp,ey];exact h;rw[Hp,KL (e:=σ.env) (fun s w g=>by rw[B7 l h];exact vY (N s w g)),ex];exact J;rw[m,I,P];rw[H τ h,o,Q]);apply iP;rcases C with O|C;have U:c.fW=0\/b.fW=0\/(c.fW<=1/\b.fW<=1):=(by rcases A with rfl|rfl;rcases z with rfl|rfl;simp only[Ku,zam,beq_iff_eq,co,decide_eq_true_eq,or_assoc] at O;exact O;exact .inr (.inl rfl);exact .inl rfl);obtain⟨τ,h,J⟩:=ac0 W L F D E G r l U d f;refine⟨τ,h,J,afg W F G r (by omega) d,afg W D E l (by omega) h⟩;rw[m,o] at C;exact ao6 W L F D E G r l C d f
def J7 (T:bj) (ms:List cZ) (F:Nat->Option FP):List Nat->St->St->Prop
 |[],σ,mT=>σ=mT
 |i::L,σ,mT=>∃m σ1,ms[i]? =some m/\F i=m.fp σ/\gQ T m σ=some σ1/\J7 T ms F L σ1 mT
def abU (F:Nat->Option FP) (ms:List cZ) (i j:Nat) (m:cZ):Prop:=∃mj,ms[j]? =some mj/\Kw mj m=true/\(Ku mj m=true\/KJ (F j) (F i)=true)
structure S7 (F:Nat->Option FP) (ops:Array Oper) (ms:List cZ):Prop where
 back:∀(i:Nat) (o:Oper),ops[i]? =some o->∀e∈o.after,Region.binds .any e=true->e.on<i
 pair:∀(i j:Nat) (o:Oper) (m:cZ),ops[i]? =some o->ms[i]? =some m->j<i->xU ops i j\/abU F ms i j m
section
variable {B N:Nat} {E:Ex} {w0 w w':World} {G G':Gh} {P:Program} {T:bj} {o:Oper} {mo:cZ} {a:Act} {σ σ':St} {Q:Exit->Act->World->Prop} {ops:Array Oper}
theorem akq (h:q8 P T) {ms:List cZ} {F:Nat->Option FP} (n:∀(i:Nat) (m:cZ),ms[i]? =some m->∃o,ops[i]? =some o/\zP P N ops o m=true) {i:Nat} {b:cZ} (hi:ms[i]? =some b) {post:List Nat} {l:St}: ∀{pre:List Nat} {σ:St},N8 B E w0 N σ->J7 T ms F (pre++i::post) σ l->(∀j∈pre,abU F ms i j b)-> ∃τ,F i=b.fp σ/\gQ T b σ=some τ/\J7 T ms F (pre++post) τ l
 |[],σ,hr,hx,hc=>by obtain⟨m,σ1,c,x,D,v⟩:=hx;rw[hi] at c;injection c with c;subst c;exact⟨σ1,x,D,v⟩
 |j::pre,σ,hr,hx,hc=>by obtain⟨p,σ1,d,e,g,t⟩:=hx;obtain⟨mj',hj,y,q⟩:=hc j (by simp);rw[d] at hj;injection hj with hj;subst hj;obtain⟨oj,_,u⟩:=n j p d;obtain⟨J,f,s,z⟩:=akq h n hi (ake hr h u g) t (fun k A=>hc k (by simp[A]));obtain⟨a,w,G,r⟩:=hr;rw[e,f] at q;obtain⟨τ,C,I,K,H⟩:=ao7 r.wf y q g s;exact⟨τ,by rw[f,K],C,p,J,d,by rw[H];exact e,I,z⟩
theorem aBM (U:q8 P T) {ms:List cZ} {F:Nat->Option FP} (Z:∀(i:Nat) (m:cZ),ms[i]? =some m->∃o,ops[i]? =some o/\zP P N ops o m=true) (hlen:ms.length=ops.size) (hd:S7 F ops ms) {v:St} (K:∀a w G,R B E w0 N v a w G->Q .normal a w): ∀(p:Nat) (L:List Nat) (b:Array Bool) (σ:St) (a:Act) (w:World) (G:Gh),R B E w0 N σ a w G->J7 T ms F L σ v->L.Pairwise (·<·)->L.length<=p->b.size=ops.size-> (∀j,j∈L↔b.getD j true=false)->S6 ops b->wpAny P .any ops Q p b a w:=by(have first:∀(L:List Nat) (b:Array Bool),L.Pairwise (·<·)->b.size=ops.size->(∀j,j∈L↔b.getD j true=false)->Region.ready .any ops b=[]->L=[]:=by intro L b hp hs hL hr;cases L with|nil=>rfl|cons j L=>exfalso;have hj:=(hL j).1 (by simp);have H:j<ops.size:=(by rw[<-hs];rcases zaX j b.size with h|h;exact h;simp[zal h] at hj);have c:ops[j]? =some ops[j]:=zaJ H;have:j∈Region.ready .any ops b:=(by rw[mem_ready];refine⟨hj,_,c,fun e f hb=>?_⟩;have V:=hd.back j _ c e f hb;have rr:e.on∉j::L:=(by intro hm;cases hm with|head=>omega|tail _ hm=>have:=(zak.1 hp).1 _ hm;omega);have aJ:b.getD e.on true≠false:=fun h=>rr ((hL e.on).2 h);have t:e.on<b.size:=(by omega);simp[t] at aJ⊢;exact aJ);rw[hr] at this;cases this);intro p;induction p with|zero=>intro L b σ a w G r hx hp hl hs hL A;have C:L=[]:=OF (by omega);subst C;have hx:σ=v:=hx;subst hx;refine⟨?_,K _ _ _ r⟩;(cases hr:Region.ready .any ops b with|nil=>rfl|cons i l=>have hm:i∈Region.ready .any ops b:=(by rw[hr];simp);have:=(hL i).2 (mem_ready.1 hm).1;cases this)|succ p ih=>intro L b σ a w G r hx hp hl hs hL A;refine⟨fun hr=>?_,fun i hi=>?_⟩;(have C:=first L b hp hs hL hr);subst C;have hx:σ=v:=hx;subst hx;exact K _ _ _ r;obtain⟨W8,oi,d,Y⟩:=mem_ready.1 hi;have Ag:i∈L:=(hL i).2 W8;obtain⟨pre,post,rfl⟩:=za6 Ag;have Lt:i<ops.size:=(Pd.1 d).1;have I:ms[i]? =some ms[i]:=AI (by omega);obtain⟨o',z,yC⟩:=Z i _ I;rw[d] at z;injection z with z;subst z;have n:=zaq.1 hp;obtain⟨τ,t0,t1,t2⟩:=akq (ops:=ops) U Z I ⟨a,w,G,r⟩ hx (fun j hj=>by have s:j<i:=n.2.2 j hj i (by simp);rcases hd.pair i j oi _ d I s with WH|h;have g:=acr A WH (fun o c e f hb=>by rw[d] at c;injection c with c;subst c;have g:=Y e f hb;have V:=hd.back i _ d e f hb;have t:e.on<b.size:=(by omega);simp[t] at g⊢;exact g);have W:=(hL j).1 (by simp[hj]);rw[g] at W;cases W;exact h);have O:∀u w',Nx B E w0 N τ u w'->wpAny P .any ops Q p (b.setIfInBounds i true) u w':=(by rintro u w' ⟨G',r'⟩;refine ih (pre++post) _ τ u w' G' r' t2 ?_ (by simp at hl⊢;omega) (by simpa using hs) (fun j=>?_) (fun k o c X e f hb=>?_);rw[zaq];exact⟨n.1,(zak.1 n.2.1).2,fun x hx y hy=>n.2.2 x hx y (by simp[hy])⟩;by_cases s:j=i;subst s;have H:j<b.size:=(by omega);simp only[By];constructor;rintro(h|h);have:=n.2.2 j h j (by simp);omega;have:=(zak.1 n.2.1).1 j h;omega;intro h;simp[H] at h;rw[getD_set_ne true (zaz s),<-hL j];simp[s];have M:∀q,b.getD q true=true->(b.setIfInBounds i true).getD q true=true:=(by intro q hq;by_cases J:q=i;subst J;have:q<b.size:=(by omega);simp[this];rw[getD_set_ne true (zaz J)];exact hq);by_cases S:k=i;subst S;rw[d] at c;injection c with c;subst c;have g:=Y e f hb;have V:=hd.back k _ d e f hb;have t:e.on<b.size:=(by omega);refine M _ ?_;simp[t] at g⊢;exact g;rw[getD_set_ne true (zaz S)] at X;exact M _ (A k o c X e f hb));unfold wpOp;rw[d];simp only;rcases Ph (Q:=Q) r U yC t1 with⟨D,h⟩|⟨D,h⟩;rw[ah D];exact .inl (Oper.wp_mono O h);rw[ak (by simp[D])];exact O _ _ h
def OJ (ps:List (Nat×Nat)) (ops:List Oper) (ms:List cZ):Bool:=
 (fun ks:List Nat=>(zaw ops.length).all fun i=>match ops[i]?,ms[i]? with
  |some o,some m=>(o.after.toList.all fun e=> !Region.binds .any e||decide (e.on<i))&&
   (zaw i).all fun j=>(ks.getD i 0).testBit j||(match ms[j]? with|some mj=>Kw mj m&&(Ku mj m||ps.contains (j,i))|none=>false)
  |_,_=>false) (It ops [])
theorem aoN {ps:List (Nat×Nat)} {ms:List cZ} {l:List (Option FP)} (h:OJ ps ops.toList ms=true) (hp:AR ps l=true):S7 (fun i=>l.getD i none) ops ms:=by
  simp only[OJ,AT,zas] at h;have n:∀(i:Nat) (o:Oper),ops[i]? =some o->∃m,ms[i]? =some m/\(o.after.toList.all fun e=> !Region.binds .any e||decide (e.on<i))=true/\
        ∀j,j<i->(((It ops.toList []).getD i 0).testBit j||(match ms[j]? with|some f=>Kw f m&&(Ku f m||ps.contains (j,i))|none=>false))=true:=by
    intro i o c;have hi:i<ops.toList.length:=by simpa using(Pd.1 c).1
    have b:=h i hi;have r:ops.toList[i]? =some o:=by simpa using c
    rw[r] at b;cases hm:ms[i]? with
    |none=>rw[hm] at b;cases b
    |some m=>
     rw[hm] at b;simp only[co,AT,zas] at b;exact⟨m,rfl,by rw[AT];exact b.1,b.2⟩
  refine⟨fun i o c e s hb=>?_,fun i j o m c hm hj=>?_⟩
  · obtain⟨m,_,p,_⟩:=n i o c;have:=AT.1 p e (zay.2 s);simp[hb] at this;exact this
  · obtain⟨m',d,_,q⟩:=n i o c;rw[hm] at d;injection d with d;subst d;have:=q j hj;rw[zam] at this;rcases this with a|a
    · exact .inl (YX ops.toList [] [] rfl rfl (by intro i k hb;simp at hb) i j a)
    · cases HT:ms[j]? with
      |none=>rw[HT] at a;cases a
      |some f=>
       rw[HT] at a;simp only[co,zam] at a;refine .inr ⟨f,HT,a.1,?_⟩;rcases a.2 with g|g
       · exact .inl g
       · refine .inr ?_;have:=AT.1 hp (j,i) (by simpa using g);exact this
theorem ad4 {ms:List cZ}:∀(post pre:List cZ) (σ c:St) (b a:List (Option FP)),ms=pre++post->a.length=pre.length->qD T post a σ=some (b,c)-> a=b.take a.length/\J7 T ms (fun i=>b.getD i none) (zbg pre.length post.length) σ c
 |[],pre,σ,c,b,a,he,hl,hx=>by simp only[qD] at hx;injection hx with hx;injection hx with d e;subst d e;exact⟨by simp,rfl⟩
 |m::post,pre,σ,c,b,a,he,hl,hx=>by simp only[qD] at hx;split at hx;rename_i σ1 h;obtain⟨d,e⟩:=ad4 (ms:=ms) post (pre++[m]) σ1 c b (a++[m.fp σ]) (by simp[he]) (by simp[hl]) hx;have f:b[a.length]? =some (m.fp σ):=(by have:(b.take (a++[m.fp σ]).length)[a.length]? =some (m.fp σ):=(by rw[<-d];simp);rw[za1] at this;split at this;exact this;cases this);have g:a=b.take a.length:=(by have:=congrArg (List.take a.length) d;simpa[List.take_take] using this);refine⟨g,m,σ1,?_,?_,h,?_⟩;rw[he,zai (zad _),zaW];rfl;show b.getD pre.length none=_;rw[<-hl,IT,f];rfl;simpa using e;cases hx
theorem azm (g:q8 P T) (hm:P.follows .mixedOrders=true) {id:Nat} {ps:List (Nat×Nat)} {ms:List cZ} {c:List (Option FP)} (q:ul P N ops ops.toList ms=true) (hd:OJ ps ops.toList ms=true) (hx:qD T ms [] σ=some (c,σ')) (hp:AR ps c=true) (r:R B E w0 N σ a w G) (f:∀a w G,R B E w0 N σ' a w G->Q .normal a w):(Code.region id ops true).wp P Q a w:=by obtain⟨d,e⟩:=Vj q;have b:ms.length=ops.size:=(by simpa using d);refine wp_region_any hm (aBM (B:=B) (E:=E) (w0:=w0) (N:=N) g (fun i m h=>by obtain⟨o,n,l⟩:=e i m h;exact⟨o,by simpa using n,l⟩) b (aoN hd hp) f ops.size (zaw ops.size) _ σ a _ G (r.drawn _) ?_ ?_ (by simp) (by simp) (fun j=>?_) (fun k o s t=>?_));have:=(ad4 (T:=T) (ms:=ms) ms [] σ σ' c [] rfl rfl hx).2;simp only[zav,b,<-za0] at this;exact this;exact zaQ;rw[zas];constructor;intro h;simp[h];intro h;rcases zaX j ops.size with h'|h';exact h';simp[zal (show(zba ops.size false).size<=j by simpa using h')] at h;exfalso;have p:k<ops.size:=(Pd.1 s).1;simp[p] at t
end
def MO.isNone:bo->Bool
 |.mv (.k (.one .bZ))=>true
 |_=>false
def MO.isT (s:Nat):MO->Bool
 |.t n=>n==s
 |_=>false
def vOk (sp:J3) (m:cZ):Bool:=
 (match m.guard with|none=>true|some _=>false)&&(match m.op with|.mv _|.qL _ _ _|.ri _ _=>true|_=>false)&&
 (match m.dst with|none=>true|some s=>s !=sp.d&& !(sp.ml.isT s)&& !(sp.my.isT s))
section
variable {B N:Nat} {E:Ex} {w0 w w':World} {G G':Gh} {h h':Nat->Option aA} {P:Program} {T:bj} {o:Oper} {m:cZ} {a:Act} {σ σ':St} {Q:Exit->Act->World->Prop} {ops:Array Oper} {sp:J3} {used used':Nat->Bool}
structure aBX (sp:J3) (σ σ2:St) (n k rs off:Nat) (xs ls ys:List (List C)):Prop where
 hx:σ.ev sp.mx=.one (.ptr n k rs off)
 hl:∃s0 avj,σ.ev sp.ml=.one (.cF n k rs off s0 avj)
 HV:off+1=rs
 vH:n<aL
 hn:σ.h n=some (.row true .live rs xs)
 Lz:(xs[k]?).bind (·[off]?)=some (.list sp.sz ls)
 hy:∃yc,σ.ev sp.my=.one yc/\dE σ.h yc=some (.list sp.sz ys)
 sl:iV ls=true
 sy:iV ys=true
 fit:(ls.length+ys.length)*sp.dW<=gH
 out:σ2=(σ.cut n).fh n (.row true .live rs (xs.set k ((xs.getD k []).set off (.list sp.sz (ls++ys)))))
structure aBW (F:Nat->Option FP) (ops:Array Oper) (ms:List cZ) (sp:J3):Prop where
 DZ:S7 F ops ms
 app:∀(i:Nat) (m:cZ),ms[i]? =some m->i≠sp.ia->i+1≠ops.size->xU ops sp.ia i\/vOk sp m=true
 st:∀i,i+1<ops.size->xU ops (ops.size - 1) i
 lt:sp.ia+1<ops.size
structure J2 (B:Nat) (E:Ex) (w:World) (G:Gh) (h:Nat->Option aA) (pc:PC):Prop where
 hZ:Good w pc
 sep:Sep pc
 own:∀b,bD b pc->¬G.Im b/\fA w b/\(B<=b\/E b)
 name:∀b,bD b pc->∀m,h m≠none->(G.g m).nl=false->b≠(G.g m).b
 row:∀b,bD b pc->∀m gr mo sz xs,h m=some (.row gr mo sz xs)->¬bF b (G.g m).px
theorem J2.less {pc:PC} (L:J2 B E w G h pc) (hl:∀n b,h' n=some b->h n=some b):J2 B E w G h' pc:= ⟨L.hZ,L.sep,L.own,fun b hb m a=>L.name b hb m (by cases hh:h' m with|none=>exact absurd hh a|some x=>rw[hl m x hh];simp),fun b hb m c d sz xs a=>L.row b hb m c d sz xs (hl m _ a)⟩
theorem J2.Fq {pc:PC} (c:Good w pc) (a:∀b,¬bD b pc):J2 B E w G h pc:= ⟨c,Sep.Fq a c,fun b hb=>absurd hb (a b),fun b hb=>absurd hb (a b),fun b hb=>absurd hb (a b)⟩
end
end Go.Am
