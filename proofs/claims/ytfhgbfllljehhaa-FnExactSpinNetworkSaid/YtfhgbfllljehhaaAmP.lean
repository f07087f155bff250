/- AmO, AmR, AmS, AmT, AmU, AmV, AmX, Am17, Am18, Am19, Am20, Am21, Am22, Am23, AmA, AmD, AmE, AmF, AmP: parts of the proof. No condition. -/
import Derived.Test.YtfhgbfllljehhaaAmN
set_option linter.unusedVariables false
set_option linter.unusedSimpArgs false
open Bool renaming and_eq_true->co,false_eq_true->zaD,or_eq_true->zaV
open List renaming mem_of_getElem?->wt,getElem?_map->AN,getElem?_eq_getElem->AT,getElem?_eq_some_iff->By,mem_append->BY,mem_map->GB,all_eq_true->If,eq_nil_of_length_eq_zero->IS,map_congr_left->IT,getElem?_of_mem->OF,flatMap_cons->Pd,length_map->Pe,getD_eq_getElem?_getD->zaa,getElem?_set_self->zab,mem_flatMap->zac,mem_cons_of_mem->zae,replicate->zaf,getElem?_append_right->zaj,map_map->zal,mem_cons->zam,getElem?_set_ne->zap,mem_or_eq_of_mem_set->zaq,flatMap_map->zar,mem_singleton->zas,length_cons->zau,map_append->zaw,length_nil->zaz,mem_filterMap->zaA,map_set->zaB,pairwise_cons->zaE,pairwise_iff_getElem->zaF,getElem?_append_left->zaG,length_eq_zero_iff->zaI,getElem?_cons_zero->zaJ,getElem_mem->zaL,length_take->zaM,cons_append->zaN,length_eq_one_iff->zaO,length_set->zaQ,length_replicate->zaR,getElem?_eq_none->zaT,mem_filter->zaU,range->zaX,pairwise_append->zaZ,mem_range->za0,flatten_append->za1,mem_replicate->za2,map_replicate->za3,getElem?_ofFn->za4,map_cons->za5,length_append->za6,nil_append->zbb,length->zbh
open Option renaming map_some->AI,bind_some->IN,map_eq_some_iff->zai,getD_some->za9
open Nat renaming le_refl->zad,mul_le_mul_right->zah,lt_of_lt_of_le->zak,le_trans->zat,add_mul->zav,min->zax,eq_zero_or_pos->zaC,add_assoc->zaK,ble_eq_true_of_le->zaW,sub_self->za7,zero_add->za8,mul_one->zba,add_zero->zbd,min_comm->zbe,lt_or_ge->zbf,beq_refl->zbg
open Array renaming ext'->zag,getElem?_eq_some_iff->zao,getD_eq_getD_getElem?->zay,getElem?_eq_none->zaP,mem_toList_iff->zaY
open Option.some renaming injEq->zan
open Ne renaming symm->zaH
open Classical renaming choose_spec->zaS
open Prod renaming snd->zbc,fst->zbi
open Or renaming inl->zbj
namespace Go.Am
section
variable {B:Nat} {E:Ex} {w0 w w':World} {G G':Gh} {N:Nat} {h h':Nat->Option ar} {used:Nat->Bool}
variable {P:Program} {o:Oper} {a:Act} {σ σ':St} {Q:Exit->Act->World->Prop}
def yU (p:PB):dG->PC->PB
 |.row _,.list _ _ _ px=>{p with px:=px}
 |.nest _ k off,q=>{p with px:=p.px.set k ((p.px.getD k []).set off q)}
 |_,_=>p
open Classical in
noncomputable def uO (G:Gh) (its:List (dG×Mode)) (qs:List PC):Gh:=
 ⟨G.Im,fun n=>if h:∃p:(dG×Mode)×PC,∃i:Nat,its[i]? =some p.1/\qs[i]? =some p.2/\p.1.1.eS=some n then yU (G.g n) h.choose.1.1 h.choose.2 else G.g n⟩
theorem Yp {a:List (dG×Mode)} {e:List PC} (m:(a.filterMap (·.1.eS)).Nodup) {i n:Nat} {it:dG×Mode} {q:PC} (d:a[i]? =some it) (h:e[i]? =some q) (hn:it.1.eS=some n): (uO G a e).g n=yU (G.g n) it.1 q:=by have f:∃p:(dG×Mode)×PC,∃i:Nat,a[i]? =some p.1/\e[i]? =some p.2/\p.1.1.eS=some n:=⟨(it,q),i,d,h,hn⟩;unfold uO;simp only;rw[dif_pos f];obtain⟨j,b,c,l⟩:=f.choose_spec;have k:=LF m b d l hn;subst k;rw[d] at b;rw[h] at c;injection b with b;injection c with c;rw[<-b,<-c]
theorem Yq {a:List (dG×Mode)} {c:List PC} {n:Nat} (hn:n∉a.filterMap (·.1.eS)):(uO G a c).g n=G.g n:=by unfold uO;simp only;rw[dif_neg];rintro⟨p,i,d,h2,b⟩;exact hn (zaA.2 ⟨p.1,wt d,b⟩)
theorem PC.Sl {pc q:PC} (c:q.val=pc.val) (hL:pc.iu=true):∃sz a cap xs,q=.list sz a cap xs:=by cases pc with|int k n=>cases hL|bool b=>cases hL|list sz a cap xs=>cases q with|int k n=>cases c|bool b=>cases c|list sz a cap xs=>exact⟨_,_,_,_,rfl⟩
theorem Xf {px:List (List PC)} (h:fh (px.map fun e=>e.map PC.er)=true) {k j:Nat} {c:PC} (g:At px k j c):c.iu=false:=by obtain⟨e,f,d⟩:=g;have b:=If.1 h (e.map PC.er) (by simp only[GB];exact⟨e,wt f,rfl⟩);have a:=If.1 b c.er (by simp only[GB];exact⟨c,wt d,rfl⟩);cases hL:c.iu with|false=>rfl|true=>rw[PC.ZR hL] at a;cases a
theorem Xe {px:List (List PC)} (i:fh (px.map fun e=>e.map PC.er)=true) (b:Nat):¬bc b px:=by rintro⟨k,j,c,⟨e,h,f⟩,a⟩;have d:=If.1 i (e.map PC.er) (by simp only[GB];exact⟨e,wt h,rfl⟩);have g:=If.1 d c.er (by simp only[GB];exact⟨c,wt f,rfl⟩);exact(Sep.iI g).2 b a
theorem VR (H:HR B E w G h used []) {n:Nat} {s:Bool} {m p:Mode} {sz:Nat} {xs:List (List C)} (hn:h n=some (.row s m sz xs)) (hm:m≠ .aM) (R:p=.live->m=.live) (x:uH p xs=true) (O:m=.live->s=false) {q:PC} (A:qx w' p (pw sz (G.g n)) q) {k:Nat} {J:List (List C)} (l:q.er=.list k J):Fi w' (G.g n) (yU (G.g n) (.row n) q) s m sz J:=by have hr:=H.row n s m sz xs hn;have cf:h n≠none:=(by rw[hn];simp);obtain⟨y,V,lk,px',rfl⟩:=PC.Sl A.val rfl;obtain⟨rfl,L,rfl,a,hl⟩:=A.live _ _ _ _ _ _ _ _ rfl rfl;rw[PC.dW] at l;injection l with _ l;have U:=A.sep;have F:(∀k j c,At px' k j c->Sep c)/\(∀b o k j c,V=some (ad b o)->At px' k j c->¬ba b c)/\jE px':=(by cases U with|list _ _ _ _ u M D=>exact⟨u,M,u,D⟩);have Q:∀b,bc b px'->(G.g n).nl=false->b≠(G.g n).b:=(by rintro b ⟨k,j,c,i,t⟩ d rfl;refine F.2.1 (G.g n).b (G.g n).o k j c ?_ i t;rw[L,aq (by simp[d])]);have I:p=.aN->fh xs=true:=(by rintro rfl;exact x);refine⟨hm,?_,rfl,rfl,rfl,rfl,rfl,l.symm,fun d=>?_,fun d=>?_,F.2.2,fun b z=>?_,fun dT k j pc i hL=>?_,fun f hl=>by rw[O hl] at f;cases f⟩;(cases p with|aM=>cases x|live=>exact .inr (R rfl)|aN=>exact .inl (Xe (by rw[<-hr.er];exact I rfl)));have:=(hr.nl d).1;rw[this] at a;exact IS a;refine⟨?_,?_⟩;have f:=A.e7;rw[L,aq (by simp[d])] at f;by_cases K:px'=[];show pL w' _ _ _ px';rw[K];exact⟨by simp,by rintro k j c ⟨e,r,_⟩;simp at r,by rintro k j c ⟨e,r,_⟩;simp at r⟩;generalize lE:PC.list y (some (ad (G.g n).b (G.g n).o)) (G.g n).cap px'=q2 at f;(cases f with|int k n=>cases lE|bool b=>cases lE|nil _ _ _ _=>injection lE with _ _ _ e4;exact absurd e4 K|cons _ _ _ _ _ u M D T N W=>injection lE with S v e3 e4;injection v with v;obtain⟨Y,P⟩:=lV v;subst S e3 e4;rw[Y,P];exact⟨T,N,W⟩);show px'.length<=_;rw[a];exact(hr.eG d).2.2;have X:ba b (pw y (G.g n)):=A.sub b (by obtain⟨k,j,c,i,t⟩:=z;exact .there _ _ _ _ k j c i t);rcases Tm (fun l=>(hr.nl l).1) X with⟨d,r⟩|Z;exact absurd r (Q b z d);exact Z;cases p with|aM=>cases x|live=>exact hl rfl k j pc i hL|aN=>have:=Xf (px:=(G.g n).px) (by rw[<-hr.er];exact I rfl) i;rw[hL] at this;cases this
theorem oM {α:Type} {px:List (List α)} {k off k' b:Nat} {e:List α} {q c:α} (f:px[k]? =some e) (h:At (px.set k (e.set off q)) k' b c):(k'=k/\b=off/\c=q)\/(At px k' b c/\(k',b)≠(k,off)):=by have i:=(By.1 f).1;rcases JB i h with⟨rfl,a⟩|⟨g,a⟩;by_cases d:b=off;subst d;have hl:b<e.length:=(by have:=(By.1 a).1;simpa using this);rw[zab hl] at a;injection a with a;exact .inl ⟨rfl,rfl,a.symm⟩;rw[zap (zaH d)] at a;exact .inr ⟨⟨e,f,a⟩,fun e=>d (congrArg zbc e)⟩;exact .inr ⟨a,fun e=>g (congrArg zbi e)⟩
theorem agF {α:Type} {px:List (List α)} {k off k' b:Nat} {e:List α} {q c:α} (d:px[k]? =some e) (h:At px k' b c) (j:(k',b)≠(k,off)):At (px.set k (e.set off q)) k' b c:=by obtain⟨l,a,g⟩:=h;by_cases f:k'=k;subst f;rw[d] at a;injection a with a;subst a;have i:b≠off:=fun e=>j (by rw[e]);exact⟨_,zab (By.1 d).1,by rw[zap (zaH i)];exact g⟩;exact⟨l,by rw[zap (zaH f)];exact a,g⟩
theorem VQ (H:HR B E w G h used []) {n k off:Nat} {x:Bool} {sz:Nat} {xs:List (List C)} (hn:h n=some (.row x .live sz xs)) (P:x=false) {pc:PC} (u:At (G.g n).px k off pc) (hL:pc.iu=true) (R:(G.g n).nl=false->w'.heap[(G.g n).b]? =w.heap[(G.g n).b]?) (Q:∀k' i c,At (G.g n).px k' i c->(k',i)≠(k,off)->∀b,ba b c->w'.heap[b]? =w.heap[b]?) {q:PC} (A:qx w' .aN pc q) {D:List C} (N:xs[k]? =some D):Fi w' (G.g n) (yU (G.g n) (.nest n k off) q) x .live sz (xs.set k (D.set off q.er)):=by have hr:=H.row n x .live sz xs hn;obtain⟨t,d,F⟩:=u;have T:(G.g n).px.getD k []=t:=(by simp[zaa,d]);have v:(yU (G.g n) (.nest n k off) q).px=(G.g n).px.set k (t.set off q):=(by simp only[yU,T]);have J:D=t.map PC.er:=(by rw[hr.er,AN,d] at N;simpa using N.symm);have u:At (G.g n).px k off pc:=⟨t,d,F⟩;have I:q.iu=true:=(by obtain⟨sz,a,cap,xs,rfl⟩:=PC.Sl A.val hL;rfl);have K:(G.g n).nl=false:=(by cases hq:(G.g n).nl with|false=>rfl|true=>rw[(hr.nl hq).1] at d;simp at d);obtain⟨l1,l2,S⟩:=hr.eG K;refine⟨by simp,.inr rfl,rfl,rfl,rfl,rfl,rfl,?_,fun h=>?_,fun _=>?_,?_,fun b l=>?_,fun _ k' i c j z=>?_,fun M _=>by rw[P] at M;cases M⟩;rw[v,hr.er,J,zaB,zaB];rw[K] at h;cases h;rw[v];refine⟨⟨fun e r=>?_,fun k' i c j=>?_,fun k' i c j=>?_⟩,by rw[zaQ];exact S⟩;rcases zaq r with r|rfl;exact l2.1 e r;rw[zaQ];exact l2.1 t (wt d);rw[ik (R K)];rcases oM d j with⟨rfl,rfl,rfl⟩|⟨f,_⟩;rw[A.val];exact l2.2.1 _ _ _ u;exact l2.2.1 _ _ _ f;rcases oM d j with⟨rfl,rfl,rfl⟩|⟨f,p⟩;exact A.e7;exact(l2.2.2 _ _ _ f).congr fun b l o=>ik (Q k' i c f p b l) o;rw[v];refine⟨fun k' i c j=>?_,fun k1 j1 c1 k2 j2 c2 b f p y l L=>?_⟩;rcases oM d j with⟨rfl,rfl,rfl⟩|⟨f,p⟩;exact A.sep;exact hr.mode.2.1 _ _ _ f;rcases oM d f with⟨rfl,rfl,rfl⟩|⟨s,n1⟩;rcases oM d p with⟨rfl,rfl,rfl⟩|⟨m,O⟩;exact y rfl;exact hr.mode.2.2 _ _ _ _ _ _ b u m y (A.sub b l) L;rcases oM d p with⟨rfl,rfl,rfl⟩|⟨m,O⟩;exact hr.mode.2.2 _ _ _ _ _ _ b s u y l (A.sub b L);exact hr.mode.2.2 _ _ _ _ _ _ b s m y l L;rw[v] at l;obtain⟨k',i,c,j,z⟩:=l;rcases oM d j with⟨rfl,rfl,rfl⟩|⟨f,p⟩;exact⟨_,_,_,u,A.sub b z⟩;exact⟨_,_,_,f,z⟩;rw[v];by_cases r:(k',i)=(k,off);have f:k'=k:=congrArg zbi r;have p:i=off:=congrArg zbc r;subst f p;obtain⟨e1,s,m⟩:=j;rw[d] at s;injection s with s;subst s;rw[F] at m;injection m with m;subst m;have hl:i<t.length:=(By.1 F).1;exact⟨q,⟨_,zab (By.1 d).1,zab hl⟩,A.val,I⟩;exact⟨c,agF d j r,rfl,z⟩
theorem Sw:∀{as:List ao} {a:List (Bool×List ah)} {vals:List Value},q9 as=some a->vals.length=as.length->(∀(j:Nat) (x:ao) (v:Value),as[j]? =some x->vals[j]? =some v->RA w G h x v)->
  vals.length=a.length/\∀(j:Nat) (x:Bool×List ah) (v:Value),a[j]? =some x->vals[j]? =some v->RV w G h x.1 x.2 v
 |[],a,vals,hx,hl,hc=>by
  simp only[q9] at hx;injection hx with hx;subst hx;exact⟨hl,by simp⟩
 |y::as,a,vals,hx,hl,hc=>by
  simp only[q9] at hx;split at hx
  ·rename_i x xs b m;injection hx with hx;subst hx;match vals,hl with
   |v::vals,hl=>
    obtain⟨i,n⟩:=Sw m (vals:=vals) (by simpa using hl) (fun j x v g o=>hc (j+1) x v g o);refine⟨by simp[i],fun j x' k e d=>?_⟩;cases j with
    |zero=>
     simp at e d;subst e d;have f:=hc 0 y v rfl rfl;cases y with
     |one c=>
      cases c<;>simp[ao.cells?] at b<;>subst b<;>exact f.resolve_left (by simp)
     |agg cs=>
      simp[ao.cells?] at b;subst b;exact f
     |bH l=>simp[ao.cells?] at b
    |succ j=>exact n j x' k (by simpa using e) (by simpa using d)
  ·cases hx
theorem uk.iu {it:dG} {b:Mode} {pc:PC} (i:uk B E w G h it b pc):pc.iu=true:=by obtain⟨sz,a,cap,xs,rfl,_⟩:=i.ok.eG;rfl
def Jx (P:Program) (T:aQ):Prop:=∀f sig M,aQ.pQ T.yP f=some (sig,M)->sZ P f sig M
def Jt (w:World) (sig:bP) (aT:List PA) (rs:List Dv) (dN:List C) (e:Ending) (w':World):Prop:=
  ∃bt:List (K×List PC),bt.map (fun p=>(p.1,p.2.map PC.er))=rs/\e=.returned (vw bt)/\(∀p∈bt,p.1≠ .ptr/\(p.1=.one->p.2.length=1))/\
   xH w' w.heap.size (bt.flatMap (·.2))/\Fr w.heap.size (xU (dS sig (aT.map (·.ps)))) w w'/\
   ∃qs:List PC,qs.map PC.er=dN/\qs.length=(dS sig (aT.map (·.ps))).length/\
    ∀(i:Nat) (x:Mode×PC) (q:PC),(dS sig (aT.map (·.ps)))[i]? =some x->qs[i]? =some q->qx w' x.1 x.2 q
theorem ah7 (r:R B E w0 N σ a w G) {m:Mode} {f:FuncId} {vals vals':List Value} {sig:bP} {ns:List Nat} {ds:List Dv} {u:List (dG×Mode)} {L:List PA} {rs:List Dv} {dN:List C} {σ2 gZ:St} {ls:List (Bool×List ah)}
  (hS:∀L,xG w sig ds vals L->Calls P f vals'.toArray w (Jt w sig L rs dN)) (hN:∀n,o.dst=some n->n<N) (bX:(execOp a.eval o).run P w=.ok (.enter f vals'.toArray) w)
  (q1:L.length=ds.length) (q2:vals.length=ds.length) (q3:∀(i:Nat) (d:Dv) (v:Value) (p:PA),ds[i]? =some d->vals[i]? =some v->L[i]? =some p->zD w d v p)
  (KJ:∀p∈L,p.k=.ptr->∃n cs,σ.h n=some (.box cs)/\(G.g n).nl=false/\p.b=(G.g n).b)
  (aky:∀(i:Nat) (p:PA) (s:List (Option Mode)),L[i]? =some p->sig[i]? =some s->p.k=.ptr->LU s p.ps.length)
  (q5:mY B E w G σ.h u (dS sig (L.map (·.ps)))) (q6:u.filterMap (·.1.eS)=ns) (q7:∀pc∈qn sig (L.map (·.ps)),Jd G σ.h ns pc) (gI:ns.Nodup)
  (oe:σ.qf u dN=some σ2) (uT:σ2.jQ m (qc o.dst) rs=some (ls,gZ)):o.wp P a w (Nx B E w0 N (gZ.put o.dst (lO ls))) Q:=by
 have H:=r.hr;have uY:(u.filterMap (·.1.eS)).Nodup:=by rw[q6];exact gI
 generalize uR:dS sig (L.map (·.ps))=fl at q5;have K6:∀(i:Nat) (x:Mode×PC),fl[i]? =some x->∃it,u[i]? =some it/\it.2=x.1/\uk B E w G σ.h it.1 x.1 x.2:=by
  intro i x F;have cm:i<u.length:=by rw[q5.len];exact(By.1 F).1
  have Z:u[i]? =some u[i]:=AT cm;exact⟨_,Z,q5.at_ i _ x Z F⟩
 have Xh:∀x∈fl,∃it∈u,uk B E w G σ.h it.1 x.1 x.2:=by
  intro x hx;obtain⟨i,F⟩:=OF hx;obtain⟨it,h1,_,h2⟩:=K6 i x F;exact⟨it,wt h1,h2⟩
 have lv:∀x∈fl,∀b,ba b x.2->∃n I m sz xs,n∈ns/\σ.h n=some (.row I m sz xs)/\m≠ .aM/\uL G n b/\((∀b,¬bc b (G.g n).px)\/m=.live):=by
  intro x hx b l;obtain⟨it,h1,h2⟩:=Xh x hx;obtain⟨n,I,m,sz,xs,D,J,T,U,e5⟩:=h2.n4 H l;exact⟨n,I,m,sz,xs,by rw[<-q6];exact zaA.2 ⟨it,h1,D⟩,J,T,U,e5⟩
 have rZ:∀b,xU fl b->(B<=b\/E b):=by
  rintro b ⟨x,hx,l⟩;obtain⟨n,I,m,sz,xs,_,J,T,U,e5⟩:=lv x hx b l;rcases U with⟨W,rfl⟩|V
  ·exact(H.own n (by rw[J];simp) W).2.1
  ·have jg:=(H.row n I m sz xs J).mode;cases m with
   |aM=>exact absurd rfl T
   |aN=>exact(jg.1 b V).2.2
   |live=>exact(jg.1 b V).2.2
 have Sy:xG w sig ds vals L:=by
  refine⟨q2,q1,q3,fun x hx=>?_,?_,fun pc cg x hx b l aO=>?_,fun p hp hk x hx l=>?_,aky⟩
  ·rw[uR] at hx;obtain⟨it,_,h2⟩:=Xh x hx;exact h2.ok
  ·rw[uR,zaF];intro i j F Y jO b l aO;obtain⟨it,h1,_,h2⟩:=K6 i _ (AT F);obtain⟨AU,lm,_,Dd⟩:=K6 j _ (AT Y);obtain⟨n,I,m,sz,xs,D,J,T,U,e5⟩:=h2.n4 H l;obtain⟨A,br,m',aL,av,J5,O,Pz,v8,Ak⟩:=Dd.n4 H aO;have aJ:n≠A:=by
    rintro rfl;have:=LF uY h1 lm D J5;omega
   exact H.Gj aJ J O Ak U v8
  ·rw[uR] at hx;obtain⟨A,br,m',aL,av,J5,O,Pz,v8,Ak⟩:=lv x hx b aO;rcases q7 pc cg b l with F|⟨n,I,m,sz,xs,hn,J,U⟩
   ·rcases v8 with⟨W,rfl⟩|V
    ·exact(H.own A (by rw[O];simp) W).1 F
    ·rcases Ak with Ak|rfl
     ·exact Ak b V
     ·exact((H.row A br .live aL av O).mode.1 b V).1 F
   ·have aJ:n≠A:=fun e=>hn (e▸J5);exact H.Gj aJ J O Ak U v8
  ·rw[uR] at hx;obtain⟨A,br,m',aL,av,J5,O,Pz,v8,Ak⟩:=lv x hx p.b l;obtain⟨n,cs,hn,hl,AK⟩:=KJ p hp hk;rw[AK] at v8;have cf:σ.h n≠none:=by rw[hn];simp
   rcases v8 with⟨W,Z⟩|V
   ·refine H.inj n A cf (by rw[O];simp) ?_ hl W Z;rintro rfl;rw[hn] at O;cases O
   ·have jg:=(H.row A br m' aL av O).mode;cases m' with
    |aM=>exact absurd rfl Pz
    |aN=>exact(H.own n cf hl).1 (jg.1 _ V).1
    |live=>exact H.live A br aL av O _ V n cf hl rfl
 unfold Oper.wp;rw[bX];refine(hS L Sy).mono fun e w' ⟨bt,p1,p2,p3,p4,M,qs,p6,p7,p8⟩=>?_;subst p2;rw[uR] at M p7 p8;obtain⟨t1,t2,t3,t4⟩:=acK oe uY;have Yy:∀n,n∈ns->∃(i:Nat) (it:dG×Mode) (x:Mode×PC) (q:PC),u[i]? =some it/\fl[i]? =some x/\qs[i]? =some q/\dN[i]? =some q.er/\it.1.eS=some n/\uk B E w G σ.h it.1 x.1 x.2/\qx w' x.1 x.2 q:=by
  intro n hn;rw[<-q6,zaA] at hn;obtain⟨it,x5,z⟩:=hn;obtain⟨i,F⟩:=OF x5;have cm:i<fl.length:=by rw[<-q5.len];exact(By.1 F).1
  have hx:fl[i]? =some fl[i]:=AT cm;have t:qs[i]? =some (qs[i]'(by rw[p7];exact cm)):=AT _;exact⟨i,it,_,_,F,hx,t,by rw[<-p6,AN,t];rfl,z,(q5.at_ i it _ F hx).2,p8 i _ _ hx t⟩
 have akQ:∀b,b<w.heap.size->(∀n,n∈ns->¬uL G n b)->w'.heap[b]? =w.heap[b]? :=by
  intro b l cN;refine M.block b l ?_;rintro⟨x,hx,Gt⟩;obtain⟨n,I,m,sz,xs,D,J,T,U,e5⟩:=lv x hx b Gt;exact cN n D U
 have akv:∀b,b<w.heap.size->(∀x∈fl,¬ba b x.2)->w'.heap[b]? =w.heap[b]? :=fun b l cN=>M.block b l (by rintro⟨x,hx,Gt⟩;exact cN x hx Gt);obtain⟨sY,K,gR⟩:=H.HX (G':=uO G u qs) (h':=σ2.h) (w':=w') (S:=fun n=>n∈ns) M.size akQ (fun b l=>M.kD b l) rfl (fun n hn=>by
  obtain⟨i,it,x,q,F,Zp,mM,lC,z,fO,Gq⟩:=Yy n hn;have dj:=fO.at_;have Y5:=t4 i it q.er F lC;rw[Yp uY F mM z];obtain⟨R4,md⟩:=it;cases R4 with
  |nil sz=>cases z
  |row A=>
   injection z with z;have z:A=n:=z;subst z;obtain⟨I,mo,sz,xs,D,J,T,U,e5⟩:=dj;obtain⟨br,lM,pz,jD,av,X,g2,g3⟩:=Y5;rw[D] at X;injection X with X;injection X with a1 a2 a3 a4;subst a1 a2 a3 a4;rw[U] at Gq;exact⟨I,mo,sz,xs,av,D,g3,VR H D J T e5.1 e5.2 Gq g2⟩
  |nest A k off=>
   injection z with z;have z:A=n:=z;subst z;obtain⟨I,sz,xs,D,J,T,wu⟩:=dj;obtain⟨br,lM,pz,jD,ex,X,g2,g3⟩:=Y5;rw[D] at X;injection X with X;injection X with a1 a2 a3 a4;subst a1 a2 a3 a4;rw[J] at Gq;have hr:=H.row A I .live sz xs D;have cf:σ.h A≠none:=by rw[D];simp
   have KL:∀b,uL G A b->¬ba b x.2->w'.heap[b]? =w.heap[b]? :=by
    intro b l AJ;have cm:b<w.heap.size:=by
     rcases l with⟨W,rfl⟩|V
     ·exact(H.own A cf W).2.2
     ·exact H.pu D V
    refine akv b cm fun y hy n6=>?_;obtain⟨j,Y⟩:=OF hy;by_cases jO:j=i
    ·subst jO;rw[Zp] at Y;injection Y with Y;subst Y;exact AJ n6
    ·obtain⟨AU,lm,_,Dd⟩:=K6 j y Y;obtain⟨n2,Dc,m2,mS,jl,f1,f2,f3,f4,f5⟩:=Dd.n4 H n6;have aJ:A≠n2:=by
      rintro rfl;exact jO (LF uY lm F f1 rfl)
     exact H.Gj aJ D f2 f5 l f4
   refine⟨I,.live,sz,xs,_,D,g3,VQ H D wu T fO.iu (fun W=>KL _ (.inl ⟨W,rfl⟩) fun l=>?_) (fun k' j' c hk aJ b l=>KL b (.inr ⟨k',j',c,hk,l⟩) fun Gt=>?_) Gq g2⟩
   ·exact H.live A I sz xs D _ ⟨k,off,x.2,T,l⟩ A cf W rfl
   ·exact hr.mode.2.2 _ _ _ _ _ _ b hk T aJ l Gt) (fun n hn=>⟨t3 n (by rw[q6];exact hn),Yq (by rw[q6];exact hn)⟩)
 have HR2:HR B E w' (uO G u qs) σ2.h σ2.used []:=by rw[t2];exact sY
 have gC:vJ B w' (uO G u qs) σ2.h (bt.flatMap (·.2)):=by
  refine⟨p4.e7,fun pc cg b l=>?_,?_⟩
  ·obtain⟨n1,n2⟩:=p4.new pc cg b l;refine⟨⟨fun F=>?_,fun q t lE Z=>?_,fun q I mo sz xs t dk=>?_⟩,n2,zat r.fr.size n1⟩
   ·have:=H.gN b F;omega
   ·obtain⟨k0,k1,k2,_⟩:=K.name q (sY.jp q t) t;have:=(H.own q k0 (k1.symm.trans lE)).2.2;rw[<-k2] at this;omega
   ·have aO:=gR q b dk;have ye:=sY.jp q (by rw[t];simp);obtain⟨k0,_⟩:=K.name q ye (by rw[t];simp);cases hh:σ.h q with
    |none=>exact absurd hh k0
    |some blk=>
     cases blk with
     |box cs=>
      have:q∉ns:=by
       intro hm;obtain⟨i,it,x,q',F,Zp,mM,lC,z,fO,Gq⟩:=Yy q hm;have dj:=fO.at_;obtain⟨R4,md⟩:=it;cases R4 with
       |nil sz=>cases z
       |row A=>
        injection z with z;have z:A=q:=z;subst z;obtain⟨I,mo,sz,xs,D,_⟩:=dj;rw[hh] at D;cases D
       |nest A k off=>
        injection z with z;have z:A=q:=z;subst z;obtain⟨I,sz,xs,D,_⟩:=dj;rw[hh] at D;cases D
      have h3:=t3 q (by rw[q6];exact this);rw[h3,hh] at t;cases t
     |row br m' aL av=>have:=H.pu hh aO;omega
  ·rw[zaF];intro i j F Y jO b l;exact p4.oP i j _ _ b (by omega) (AT F) (AT Y) l
 rw[<-p1] at uT;obtain⟨G',b1,b2,b3,b4,b5,b6,b7⟩:=HR.jQ HR2 uT p3 gC;have Dq:Fr B E w0 w':=by
  refine⟨M.os.trans r.fr.os,M.tape.trans r.fr.tape,M.output.trans r.fr.output,zat r.fr.size M.size,fun b l Z=>?_,fun b l=>?_⟩
  ·refine(M.block b (zak l r.fr.size) fun hx=>?_).trans (r.fr.block b l Z);rcases rZ b hx with h1|h1
   ·omega
   ·exact Z h1
  ·exact(r.fr.kD b l).trans (M.kD b (zak l r.fr.size))
 have K2:bu w G σ.h (fun n=>σ.used n=true) w' G' gZ.h:=bu.trans (fun n hn=>by rw[t2];exact hn) K b2;have r2:R B E w0 N gZ a w' G':=r.step (b6.trans t1) (fun q t=>b7 q (by rw[t2];exact t)) K2 b1 Dq;refine⟨G',r2.put (RA.lO b3 p3 b4) ?_ hN⟩;intro q t;match ls,t with
 |[],t=>obtain⟨x,hx,_⟩:=t;simp at hx
 |[(true,cs)],t=>obtain⟨c,hc,t⟩:=t;exact b5 (true,cs) (by simp) c hc q t
 |[(false,[c])],t=>exact b5 (false,[c]) (by simp) c (by simp) q t
 |[(false,[])],t=>exact absurd t id
 |[(false,_::_::_)],t=>exact absurd t id
 |x::y::ls,t=>obtain⟨x',kR,c,hc,t⟩:=t;exact b5 x' kR c hc q t
theorem WG (r:R B E w0 N σ a w G) {T:aQ} {m:Mode} {f:FuncId} {as:List ao} {vals vals':List Value} {σ1:St} (I:∀sig M,aQ.pQ T.yP f=some (sig,M)->∀ds c b,M ds=some (c,b)->∀k,xG w sig ds vals k->Calls P f vals'.toArray w (Jt w sig k c b)) (A:∀n,o.dst=some n->n<N) (t:(execOp a.eval o).run P w=.ok (.enter f vals'.toArray) w) (hl:vals.length=as.length) (V:∀(j:Nat) (x:ao) (v:Value),as[j]? =some x->vals[j]? =some v->RA w G σ.h x v) (hx:rN T m o.dst f as σ=some σ1):o.wp P a w (Nx B E w0 N σ1) Q:=by have H:=r.hr;unfold rN at hx;split at hx;rename_i sig M eI K F;split at hx;rename_i D;split at hx;rename_i ds its C;split at hx;rename_i c b q;split at hx;rename_i σ2 U;split at hx;rename_i ls gZ W;injection hx with hx;subst hx;obtain⟨u,S⟩:=Sw F hl V;obtain⟨k,J,z,X,l,O,L,y⟩:=H.mQ C u S;exact ah7 r (fun d hm=>I sig M K ds c b q d hm) A t J z X (fun p e g=>absurd g (l p e)) (fun i p s e _ g=>absurd g (l p (wt e))) O L y D U W;cases hx;cases hx;cases hx;cases hx;cases hx;cases hx
theorem aii (r:R B E w0 N σ a w G) {T:aQ} (e:Jx P T) {m:Mode} {f:FuncId} {as:List ao} {vals:List Value} {σ1:St} (c:∀n,o.dst=some n->n<N) (b:(execOp a.eval o).run P w=.ok (.enter f vals.toArray) w) (hl:vals.length=as.length) (l:∀(j:Nat) (x:ao) (v:Value),as[j]? =some x->vals[j]? =some v->RA w G σ.h x v) (hx:rN T m o.dst f as σ=some σ1):o.wp P a w (Nx B E w0 N σ1) Q:= WG r (fun sig M g ds k d h i hm=>e f sig M g ds k d h w vals i hm) c b hl l hx
theorem ah9 (r:R B E w0 N σ a w G) {T:aQ} (g:Jx P T) {m:Mode} {f:FuncId} {xs:Array Operand} {ms:List MO} {ts:Array TypeId} {σ1:St} (h:∀n,o.dst=some n->n<N) (i:o.op=.call {callee:=.value (.func f),args:=xs,argTypes:=ts}) (c:bL P f=true) (hm:iN xs.toList ms=true) (hx:rN T m o.dst f (ms.map σ.ev) σ=some σ1):o.wp P a w (Nx B E w0 N σ1) Q:=by obtain⟨e,b⟩:=r.An hm;refine aii r g (vals:=xs.toList.map a.eval) h ?_ (by simpa using e) b hx;have d:(xs.toList.map a.eval).toArray=xs.map a.eval:=(by apply zag;simp);rw[d];simp[execOp,i,resolve,Deferred.ofValue,invoke,Act.eval,Ey c]
end
section
variable {B:Nat} {E:Ex} {w0 w w':World} {G G':Gh} {h h':Nat->Option ar} {used used':Nat->Bool} {tk:List PC} {N:Nat}
variable {P:Program} {o:Oper} {a:Act} {σ σ':St} {Q:Exit->Act->World->Prop}
def w7 (tmps:Array Value):ResultVar->Sem Value
 |.tmp t=>pure (tmps.getD t undef)
 |.cell a t=>do loadVar t (<-asAddr (tmps.getD a undef))
def Ie:List Value->Value
 |[u]=>u
 |l=>.tuple l.toArray
theorem adf (fn:Func) (a:Array Value) {us:List Value} (h:(fn.results.toList.mapM (w7 a)).run P w=.ok us w):
  (results fn a).run P w=.ok (Ie us) w:=by
 unfold results;generalize fn.results=A at h⊢;obtain⟨l,rfl⟩:∃l:List ResultVar,A=l.toArray:=⟨A.toList,by simp⟩;have b:((l.toArray.mapM (w7 a)).run P w)=.ok us.toArray w:=by
  rw[List.mapM_toArray];simp at h;simp[h]
 show Sem.run P (l.toArray.mapM (w7 a)>>=fun vs=>pure (if h:vs.size=1 then vs[0] else Value.tuple vs)) w=_
 generalize l.toArray.mapM (w7 a)=s at b⊢;match us with
 |[]=>simp[Ie,b]
 |[u]=>simp[Ie,b]
 |u::v::us=>simp[Ie,b]
end
section
variable {B:Nat} {E:Ex} {w0 w w':World} {G G':Gh} {N:Nat} {h h':Nat->Option ar} {used:Nat->Bool}
variable {P:Program} {o:Oper} {a:Act} {σ σ':St} {Q:Exit->Act->World->Prop}
theorem afU {n k b off sz len:Nat} {x:C} (hx:cF h (.bz n k b off sz len)=some x):∃a xs,h n=some (.row a .live b xs)/\(xs[k]?).bind (·[off]?)=some x:=by simp only[Am.cF] at hx;split at hx;rename_i a rs xs hn;split at hx;rename_i c;subst c;exact⟨a,xs,hn,hx⟩;cases hx;cases hx
theorem HR.LG (H:HR B E w G h used []) {n k off d:Nat} {c:Bool} {xs:List (List C)} (hn:h n=some (.row c .live d xs)) {pc:PC} (b:At (G.g n).px k off pc): (G.g n).nl=false/\Good w pc/\(xs[k]?).bind (·[off]?)=some pc.er:=by have hr:=H.row n c .live d xs hn;have f:(G.g n).nl=false:=(by cases hq:(G.g n).nl with|false=>rfl|true=>obtain⟨e,a,_⟩:=b;rw[(hr.nl hq).1] at a;simp at a);refine⟨f,(hr.eG f).2.1.2.2 _ _ _ b,?_⟩;obtain⟨e,a,i⟩:=b;rw[hr.er];simp[a,i]
theorem ain (r:R B E w0 N σ a w G) {t e:TypeId} {i:TypeInfo} {x y:Operand} {mx my:MO} {n k f off sz g len:Nat} {q:Int} {ys:List (List C)} (X:o.op=.indexAddr t x y) (I:∀n,o.dst=some n->n<N) (W:bU x mx=true) (H:bU y my=true) (U:P.underlying t=some (.slice e)) (J:P.info? e=some i) (V:i.size=sz) (T:(σ.ev my).d6=some q) (O:0<=q) (h1:q<(ys.length:Int)) (hx:σ.ev mx=.one (.bz n k f off g len)) (K:cF σ.h (.bz n k f off g len)=some (.list sz ys)): o.wp P a w (Nx B E w0 N (σ.put o.dst (.one (.cX n k f off sz q.toNat)))) Q:=by obtain⟨z,l⟩:=r.ev W;obtain⟨kk,S⟩:=(r.ev H).1.int T;rw[hx] at z l;obtain⟨D,xs,hn,A⟩:=afU K;obtain⟨pc,p1,M,p3⟩:=(z.gj (by simp)).1 D xs hn;obtain⟨g1,u,d⟩:=r.hr.LG hn p1;rw[A] at d;injection d with d;cases pc with|int k n=>simp[PC.er] at d|bool b=>simp[PC.er] at d|list s' ya c py=>rw[PC.dW] at d;injection d with L e2;subst L;have hl:ys.length=py.length:=(by rw[e2];simp);have s:q<(py.length:Int):=(by omega);have yg:PC.val (.list sz ya c py)=.slice ya py.length c:=rfl;generalize io:PC.list sz ya c py=p at u;cases u with|int k n=>cases io|bool b=>cases io|nil _ _ _ _=>injection io with _ _ _ e4;subst e4;simp at s;omega|cons _ b j _ _ q1 q2 q3 q4 q5 q6=>injection io with F f2 f3 f4;subst F f2 f3 f4;refine jI r (v:=.pointer (some (ad b (j+q.toNat*sz)))) ?_ ?_ (fun m hm=>l m hm) I;simp only[execOp,X,<-M,PC.val,S];simp[EA U J V O s];refine RA.gh rfl fun br av cv=>?_;exact⟨_,b,j,py.length,c,p1,rfl,rfl,rfl⟩
theorem Wh:∀{vs:List ah} {cs:List C} {us:List Value},mH vs=some cs->dA w G h vs us->∃pe:List PC,pe.map PC.er=cs/\pe.map PC.val=us/\pe.length=vs.length/\∀c∈pe,c.er.eX=true
 |[],cs,us,hx,hr=>by
  simp only[mH] at hx;injection hx with hx;subst hx;have:us=[]:=IS hr.1;subst this;exact⟨[],rfl,rfl,rfl,by simp⟩
 |c::vs,cs,us,hx,hr=>by
  match us,hr with
  |[],hr=>exact absurd hr.1 (by simp)
  |u::us,hr=>
  cases c with
  |c x=>
   simp only[mH] at hx;split at hx
   ·rename_i i;cases hd:mH vs with
    |none=>rw[hd] at hx;cases hx
    |some l=>
     rw[hd] at hx;injection hx with hx;subst hx;obtain⟨pe,g,m,d,f⟩:=Wh (us:=us) hd ⟨by have:=hr.1;simpa using this,fun j c u n k=>hr.2 (j+1) c u (by simpa using n) (by simpa using k)⟩;obtain⟨_,pc,b,e,_⟩:=hr.2 0 _ u rfl rfl;refine⟨pc::pe,by simp[g,b],by simp[m,e],by simp[d],fun c a=>?_⟩;rcases zam.1 a with rfl|a
     ·rw[b];exact i
     ·exact f c a
   ·cases hx
  |nil _=>simp[mH] at hx
  |ptr _ _ _ _=>simp[mH] at hx
  |di _ _=>simp[mH] at hx
  |cO _ _ _ _ _ _=>simp[mH] at hx
  |sl _ _ _ _=>simp[mH] at hx
  |bz _ _ _ _ _ _=>simp[mH] at hx
  |cX _ _ _ _ _ _=>simp[mH] at hx
  |fn _ _=>simp[mH] at hx
  |bC=>simp[mH] at hx
theorem Good.iI {c:PC} (d:c.er.eX=true):Good w c:=by cases c with|int k n=>exact .int k n|bool b=>exact .bool b|list s a cap xs=>rw[PC.dW] at d;cases d
theorem aiz (r:R B E w0 N σ a w G) {t:TypeId} {i:TypeInfo} {x y:Operand} {mx my:MO} {sz n k L off s j:Nat} {ag I:Bool} {xs T:List (List C)} {vs:List ah} (ho:o.op=.store t x y) (hd:o.dst=none) (e8:bU x mx=true) (iD:bU y my=true)
  (hi:P.info? t=some i) (bN:i.size=sz) (iT:0<sz) (hp:σ.ev mx=.one (.cX n k L off s j)) (hv:(σ.ev my).cells?=some (ag,vs)) (hl:vs.length=sz) (hn:σ.h n=some (.row I .live L xs)) (wu:I=false)
  (hx:xi xs k off s j vs=some T):o.wp P a w (Nx B E w0 N (σ.ef n (.row I .live L T))) Q:=by
 have H:=r.hr;obtain⟨x1,_⟩:=r.ev e8;obtain⟨y1,y2⟩:=r.ev iD;rw[hp] at x1;obtain⟨pc,b,F,len,cap,p1,p2,p3,p4⟩:=(x1.gj (by simp)).1 I xs hn;obtain⟨aR,g2,g3⟩:=H.LG hn p1;have hr:=H.row n I .live L xs hn;unfold xi at hx;rw[g3] at hx;have cJ:=y1.cells hv;have GV:(a.eval y).cells.toList.length=sz:=by rw[cJ.1,hl]
 cases pc with
 |int kk nn=>simp[PC.er] at hx
 |bool bb=>simp[PC.er] at hx
 |list f ya c py=>
 rw[PC.dW] at hx;simp only at hx;split at hx
 ·rename_i cY;obtain⟨rfl,sa,D,ot⟩:=cY;cases Qv:mH vs with
  |none=>rw[Qv] at hx;cases hx
  |some cs=>
  rw[Qv] at hx;injection hx with hx;obtain⟨pe,e1,e2,e3,e4⟩:=Wh Qv cJ;have D:j<py.length:=by simpa using D
  have wB:pe.length=f:=by omega
  have GW:PC.val (.list f ya c py)=.slice ya py.length c:=rfl;rw[GW] at p2;injection p2 with f1 W f3;subst f1 W f3;generalize io:PC.list f (some (ad b F)) c py=p at g2;cases g2 with
  |int k n=>cases io
  |bool b=>cases io
  |nil _ _ _ _=>injection io with _ _ _ e4;subst e4;simp at D
  |cons _ d oo' _ _ q1 q2 q3 q4 q5 q6=>
  injection io with f1 W f3 f4;injection W with W;obtain⟨rfl,rfl⟩:=lV W;subst f1 f3 f4;have gC:ba b (PC.list f (some (ad b F)) c py):=.here _ _ _ _ q1;have hF:bc b (G.g n).px:=⟨k,off,_,p1,gC⟩;obtain⟨ate,⟨cur,et,Y⟩,hBE⟩:=hr.mode.1 b hF;have fV:F+j*f+(a.eval y).cells.toList.length<=cur.size:=by
   have M:(py[j]'D).length=f:=q4 _ (zaL D);have hc:=q5 j (f - 1) ((py[j]'D)[f - 1]'(by omega)) ⟨_,AT D,AT _⟩;have:=zW Y hc;omega
  have U:∀k' l q,At (py.set j pe) k' l q->q.er.eX=true:=by
   intro k' l q h;rcases JB D h with⟨rfl,z⟩|⟨_,z⟩
   ·exact e4 q (wt z)
   ·obtain⟨e,J,X⟩:=z;have h6:=If.1 ot (e.map PC.er) (by simp only[GB];exact⟨e,wt J,rfl⟩);exact If.1 h6 q.er (by simp only[GB];exact⟨q,wt X,rfl⟩)
  have aJ:py.set j pe≠[]:=by
   intro h;have:=congrArg zbh h;simp at this;rw[this] at D;simp at D
  have jq:∀e∈py.set j pe,e.length=f:=by
   intro e J;rcases zaq J with J|rfl
   ·exact q4 e J
   ·exact wB
  generalize ov:f7 w b (F+j*f) (a.eval y).cells.toList cur=w';have A:qx w' .aN (PC.list f (some (ad b F)) c py) (PC.list f (some (ad b F)) c (py.set j pe)):=by
   refine⟨by simp[PC.val],.cons _ _ _ _ _ aJ (by simpa using q2) q3 jq (fun k' l q h=>?_) (fun k' l q h=>Good.iI (U k' l q h)),.list _ _ _ _ (fun k' l q h=>(Sep.iI (U k' l q h)).1) (fun d o' k' l q _ h=>(Sep.iI (U k' l q h)).2 d)
    (fun k1 j1 c1 k2 j2 c2 d h _ _ Z=>absurd Z ((Sep.iI (U k1 j1 c1 h)).2 d)),fun d O=>?_,?_,fun rr a0 JI jD ql a1 qC sW z M=>?_⟩
   ·have n7:l<f:=by
     obtain⟨e,J,X⟩:=h;have:=jq e (wt J);have:=(By.1 X).1;omega
    rw[<-ov,zz Y fV];rcases JB D h with⟨rfl,z⟩|⟨x7,z⟩
    ·rw[ak (by omega),show F+k'*f+l - (F+k'*f)=l by omega,<-e2,AN,z];rfl
    ·rw[aq]
     ·exact q5 _ _ _ z
     ·rintro⟨u1,u2⟩;rcases Nat.lt_or_gt_of_ne x7 with cm|AA
      ·have:(k'+1)*f<=j*f:=zah _ cm;rw[zav] at this;omega
      ·have:(j+1)*f<=k'*f:=zah _ AA;rw[zav] at this;omega
   ·rw[ba.lK] at O⊢;rcases O with⟨_,M⟩|⟨k',l,q,z,M⟩
    ·exact .inl ⟨q1,M⟩
    ·exact absurd M ((Sep.iI (U k' l q z)).2 d)
   ·rw[PC.dW];show fh _=true;rw[fh,If];intro e J;obtain⟨e0,mL,rfl⟩:=GB.1 J;rw[e9,If];intro c0 dK;obtain⟨c1,pS,rfl⟩:=GB.1 dK;obtain⟨k',bW⟩:=OF mL;obtain⟨l,X⟩:=OF pS;exact U k' l c1 ⟨e0,bW,X⟩
   ·injection z with a1 a2 a3 a4;injection M with b1 b2 b3 b4;subst a1 a2 a3 a4 b1 b2 b3 b4;exact⟨rfl,rfl,rfl,by simp,fun h=>by cases h⟩
  have dL:∀d,d≠b->w'.heap[d]? =w.heap[d]? :=fun d O=>by rw[<-ov];exact zA d O
  have jN:∀d,Cz w w' d:=fun d=>by
   by_cases Z:d=b
   ·subst Z;rw[<-ov];exact BM Y fV
   ·exact Cz.of_eq (dL d Z)
  have mN:w.heap.size<=w'.heap.size:=by rw[<-ov,ry];exact zad _
  have cf:σ.h n≠none:=by rw[hn];simp
  have Qo:(G.g n).b≠b:=fun h=>H.live n I L xs hn b hF n cf aR h.symm;obtain⟨V,rZ⟩:∃V,xs[k]? =some V:=by
   cases h:xs[k]? with
   |none=>rw[h] at g3;cases g3
   |some V=>exact⟨V,rfl⟩
  have akS:T=xs.set k (V.set off (PC.list f (some (ad b F)) c (py.set j pe)).er):=by
   rw[<-hx,PC.dW,zaB,e1,zaa,rZ];rfl
  have Gv:=VQ H hn wu p1 rfl (fun _=>dL _ Qo) (fun k' l q z M d O=>dL d (by rintro rfl;exact hr.mode.2.2 _ _ _ _ _ _ d z p1 M O gC)) A rZ;obtain⟨sY,K,_⟩:=H.HX (G':=⟨G.Im,aI G.g n (yU (G.g n) (.nest n k off) (PC.list f (some (ad b F)) c (py.set j pe)))⟩) (h':=aI σ.h n (some (.row I .live L T))) (w':=w') (S:=fun m=>m=n) mN
   (fun d O cN=>dL d (by rintro rfl;exact cN n rfl (.inr hF))) (fun d _=>jN d) rfl
   (fun m hm=>by subst hm;exact⟨I,.live,L,xs,T,hn,cr _ _ _,by simp only[cr];rw[akS];exact Gv⟩)
   (fun m hm=>⟨cQ _ _ _ _ hm,cQ _ _ _ _ hm⟩)
  have r':=r.step (σ':=σ.ef n (.row I .live L T)) rfl (fun _ h=>h) K sY (r.fr.one hBE (fun d _ aJ=>dL d aJ) mN (jN b) (by rw[<-ov];rfl) (by rw[<-ov];rfl) (by rw[<-ov];rfl));have bX:=Md (P:=P) (w:=w) (t:=t) (i:=i) (b:=b) (off:=F+j*f) (v:=a.eval y) (cur:=cur) (e:=et) hi (by rw[bN,<-GV];simp) Y (by simpa using fV) (fun u hu=>by
   obtain⟨j,D,GI⟩:=List.getElem_of_mem hu;have AE:j<vs.length:=by omega
   exact(cJ.2 j _ u (AT AE) (by rw[AT D,GI])).1)
  refine Nu (w':=w') ?_ ⟨_,by rw[hd];exact r'⟩;rw[<-ov];simp only[execOp,ho,p4];simp[Instr.storeAt,Instr.sureAddr,bX]
 ·cases hx
end
section
variable {B:Nat} {E:Ex} {w0 w w':World} {G G':Gh} {N:Nat} {h h':Nat->Option ar} {used:Nat->Bool}
variable {P:Program} {o:Oper} {a:Act} {σ σ':St} {Q:Exit->Act->World->Prop}
theorem R.WY (r:R B E w0 N σ a w G) {n:Nat} {p:Bool} {m:Mode} {xs:List (List C)} (hn:σ.h n=some (.row p m 1 xs)) (hm:m≠ .aM) (hs:fh xs=true) (A:(G.g n).nl=false) {lo:Nat} {pe:List PC} (qQ:∀c∈pe,c.er.eX=true) (fV:lo+pe.length<=xs.length) {cur:Array Value} {T:TypeId} (I:w.heap[(G.g n).b]? =some (.cells cur T (0,0))) (tB:(G.g n).o+lo+pe.length<=cur.size): ∃G',R B E w0 N (σ.ef n (.row p m 1 (cZ xs lo (pe.map fun c=>[c.er])))) a (f7 w (G.g n).b ((G.g n).o+lo) (pe.map PC.val) cur) G':=by have H:=r.hr;have hr:=H.row n p m 1 xs hn;have cf:σ.h n≠none:=(by rw[hn];simp);obtain⟨r8,Y,tD⟩:=H.own n cf A;obtain⟨l1,l2,Z⟩:=hr.eG A;have o6:xs.length=(G.g n).px.length:=(by rw[hr.er,Pe]);have y:=hs;rw[hr.er] at y;have U:=hr.er;generalize hY:(G.g n).px=px at*;have D:lo+(pe.map fun c=>[c]).length<=px.length:=(by rw[Pe];omega);have F:(pe.map PC.val).length=pe.length:=Pe _;have O:(G.g n).o+lo+(pe.map PC.val).length<=cur.size:=(by rw[F];exact tB);have L:∀k j c,At (cZ px lo (pe.map fun c=>[c])) k j c->j=0/\((lo<=k/\k<lo+pe.length/\pe[k - lo]? =some c)\/(¬(lo<=k/\k<lo+pe.length)/\At px k j c)):=(by rintro k j c ⟨e,i,s⟩;rw[zo D,Pe] at i;by_cases x:lo<=k/\k<lo+pe.length;rw[ak x,AN] at i;(cases hp:pe[k - lo]? with|none=>rw[hp] at i;cases i|some V=>rw[hp] at i;injection i with i;subst i;cases j with|zero=>simp at s;subst s;exact⟨rfl,.inl ⟨x.1,x.2,rfl⟩⟩|succ j=>simp at s);rw[aq x] at i;have jq:=l2.1 e (wt i);have:=(By.1 s).1;exact⟨by omega,.inr ⟨x,e,i,s⟩⟩);have u:∀k j c,At (cZ px lo (pe.map fun c=>[c])) k j c->c.er.eX=true:=(by intro k j c d;rcases(L k j c d).2 with⟨_,_,v⟩|⟨_,e,i,s⟩;exact qQ c (wt v);have h6:=If.1 y (e.map PC.er) (by simp only[GB];exact⟨e,wt i,rfl⟩);exact If.1 h6 c.er (by simp only[GB];exact⟨c,wt s,rfl⟩));generalize ov:f7 w (G.g n).b ((G.g n).o+lo) (pe.map PC.val) cur=w';have dL:∀f,f≠(G.g n).b->w'.heap[f]? =w.heap[f]? :=fun f Q=>(by rw[<-ov];exact zA f Q);have J:∀f,Cz w w' f:=fun f=>(by by_cases t:f=(G.g n).b;subst t;rw[<-ov];exact BM I O;exact Cz.of_eq (dL f t));have M:w.heap.size<=w'.heap.size:=(by rw[<-ov,ry];exact zad _);have X:Fi w' (G.g n) {G.g n with px:=cZ px lo (pe.map fun c=>[c])} p m 1 (cZ xs lo (pe.map fun c=>[c.er])):=(by refine⟨hm,.inl (by rw[hY];exact Xe y),rfl,rfl,rfl,rfl,rfl,?_,(fun h=>by rw[A] at h;cases h),fun _=>⟨⟨fun e i=>?_,fun k j c d=>?_,fun k j c d=>Good.iI (u k j c d)⟩,by show(cZ px lo _).length<=_;rw[MT D];exact Z⟩, ⟨fun k j c d=>(Sep.iI (u k j c d)).1,fun k j c k' j' c' b d _ _ t=>absurd t ((Sep.iI (u k j c d)).2 b)⟩,fun b ⟨k,j,c,d,t⟩=>absurd t ((Sep.iI (u k j c d)).2 b),fun _ k j pc d hL=>?_,fun _ _ k c d=>s6.iI (u k _ c d)⟩;show cZ xs lo _=(cZ px lo _).map _;rw[EL,<-U,zal];rfl;obtain⟨k,d⟩:=OF i;have l:(cZ px lo (pe.map fun c=>[c]))[k]? =some e:=d;rw[zo D] at l;split at l;rw[AN] at l;(cases hp:pe[k - lo]? with|none=>rw[hp] at l;cases l|some V=>rw[hp] at l;injection l with l;rw[<-l];rfl);exact l2.1 e (wt l);obtain⟨rfl,v⟩:=L k j c d;rw[<-ov,zz I O];rcases v with⟨v,P,W⟩|⟨v,P⟩;rw[ak (by rw[F];omega),show(G.g n).o+k*1+0 - ((G.g n).o+lo)=k - lo by omega,AN,W];rfl;rw[aq (by rw[F];omega)];exact l2.2.1 _ _ _ P;rw[hY] at d;have:=Xf y d;rw[hL] at this;cases this);obtain⟨sY,K,_⟩:=H.HX (G':=⟨G.Im,aI G.g n {G.g n with px:=cZ px lo (pe.map fun c=>[c])}⟩) (h':=aI σ.h n (some (.row p m 1 (cZ xs lo (pe.map fun c=>[c.er]))))) (w':=w') (S:=fun q=>q=n) M (fun f Q cN=>dL f (by rintro rfl;exact cN n rfl (.inl ⟨A,rfl⟩))) (fun f _=>J f) rfl (fun q z=>by subst z;exact⟨p,m,1,xs,_,hn,cr _ _ _,by simp only[cr];exact X⟩) (fun q z=>⟨cQ _ _ _ _ z,cQ _ _ _ _ z⟩);exact⟨_,r.step (σ':=σ.ef n (.row p m 1 (cZ xs lo (pe.map fun c=>[c.er])))) rfl (fun _ h=>h) K sY (r.fr.one Y (fun f _ aJ=>dL f aJ) M (J _) (by rw[<-ov];rfl) (by rw[<-ov];rfl) (by rw[<-ov];rfl))⟩
end
section
variable {B:Nat} {E:Ex} {w0 w w':World} {G G':Gh} {N:Nat} {h h':Nat->Option ar} {used:Nat->Bool}
variable {P:Program} {o:Oper} {a:Act} {σ σ':St} {Q:Exit->Act->World->Prop}
theorem aci {α:Type}:∀{py:List (List α)},(∀e∈py,e.length=1)->py=py.flatten.map fun c=>[c]
 |[],_=>rfl
 |e::py,h=>by
  have b:=h e (by simp);match e,b with
  |[c],_=>
   rw[List.flatten_cons,zaw,<-aci (py:=py) fun e a=>h e (by simp[a])];rfl
theorem aeC {n:Nat} {b:ar} (hn:σ.h n=some b):σ.ef n b=σ:=by unfold St.ef;rw[<-hn,I7]
theorem ae4 {α:Type} (xs:List α) (lo:Nat) (h:lo<=xs.length):cZ xs lo []=xs:=by simp[cZ]
theorem arc {t t' ty e k:TypeId} {i:TypeInfo} (v:P.underlying t=some (.slice e)) (o:P.info? e=some i) (x:i.size=1) (g f d p:Nat) (cur:Array Value) (l:w.heap[g]? =some (.cells cur k (0,0))) (a:Addr) (m c:Nat) (b:List Value) (hl:b.length=zax m d) (n:∀j u,b[j]? =some u->w.cell? (a.add j)=some u) (q:∀u∈b,u.oneCell'=true) (s:f+b.length<=cur.size): (Builtin.copy_ #[t,t'] ty #[.slice (some (ad g f)) d p,.slice (some a) m c]).run P w=.ok (.int .i64 (zax m d:Nat)) (f7 w g f b cur):=by have r:=run_firstCells_some (P:=P) w i.size (zax m d) a m c b (by rw[hl,x,zba]) n;have h:=run_storeCells_at P g f k b 0 cur w l (by simpa using s) q;simp only[zbd] at h;simp[Builtin.copy_,run_underlying v,sizeOf,typeInfo,o,Builtin.lenOf,r,ad,h,f7,goInt]
theorem ard {t t' ty e:TypeId} {i:TypeInfo} (h:P.underlying t=some (.slice e)) (d:P.info? e=some i) (ya b:Option Addr) (a f m c:Nat) (g:zax m a=0): (Builtin.copy_ #[t,t'] ty #[.slice ya a f,.slice b m c]).run P w=.ok (.int .i64 0) w:=by cases ya<;>cases b<;>simp[Builtin.copy_,run_underlying h,sizeOf,typeInfo,d,Builtin.lenOf,g,Builtin.firstCells,loadCells,loadCellsFrom,storeCells,goInt]
theorem aid (r:R B E w0 N σ a w G) {t t' e:TypeId} {i:TypeInfo} {x y:Operand} {mx my:MO} {n lo len:Nat} {c:ah} {ys xs:List (List C)} {F:Bool} {m:Mode} (ho:o.op=.call {callee:=.builtin .copy,args:=#[x,y],argTypes:=#[t,t']}) (X:∀n,o.dst=some n->n<N)
  (e8:bU x mx=true) (iD:bU y my=true) (ht:P.underlying t=some (.slice e)) (hi:P.info? e=some i) (bN:i.size=1) (hx:σ.ev mx=.one (.sl n 1 lo len)) (hy:σ.ev my=.one c) (hn:σ.h n=some (.row F m 1 xs))
  (s:cF σ.h c=some (.list 1 ys)) (hm:m≠ .aM) (hs:fh xs=true) (kq:fh ys=true) (fV:lo+len<=xs.length):
  o.wp P a w (Nx B E w0 N ((σ.ef n (.row F m 1 (cZ xs lo (ys.take len)))).put o.dst (.one (.c (.int .i64 (zax ys.length len:Nat)))))) Q:=by
 have H:=r.hr;obtain⟨Y,_⟩:=r.ev e8;obtain⟨y1,_⟩:=r.ev iD;rw[hx] at Y;rw[hy] at y1;have il:c≠ .bC:=by rintro rfl;simp[Am.cF] at s
 have W:jb (G.g n) 1 lo len (a.eval x):=(Y.gj (by simp)).1 (by rw[hn];simp);obtain⟨pc,p1,p2,p3⟩:=H.cF s (y1.gj il).1;have hr:=H.row n F m 1 xs hn;cases pc with
 |int kk nn=>simp[PC.er] at p1
 |bool bb=>simp[PC.er] at p1
 |list s' ya J py=>
 rw[PC.dW] at p1;injection p1 with e1 e2;subst e1;have S:ys.length=py.length:=by rw[<-e2];simp
 have D:a.eval y=.slice ya py.length J:=p2.symm;by_cases A:zax py.length len=0
 ·have KL:σ.ef n (.row F m 1 (cZ xs lo (ys.take len)))=σ:=by
   have:ys.take len=[]:=by
    apply IS;rw[zaM,S];have:min len py.length=zax py.length len:=zbe _ _;omega
   rw[this,ae4 _ _ (by omega)];exact aeC hn
  have L:∃Fe,a.eval x=.slice Fe len (match(G.g n).nl with|true=>(G.g n).cap|false=>(G.g n).cap - lo):=by
   rcases W with⟨l,s,_,rfl⟩|⟨l,a',s,_,_⟩
   ·exact⟨_,by rw[s,l]⟩
   ·exact⟨_,by rw[s,l]⟩
  obtain⟨Fe,L⟩:=L;rw[KL,S,A];refine jI r (v:=.int .i64 0) ?_ (RA.of_int _ _) (fun q T=>absurd T tT) X;simp only[execOp,ho];simp[resolve,invoke,builtin,L,D,ard ht hi _ _ _ _ _ _ A]
 ·have hlen:0<len:=by
   rcases zaC len with h|h
   ·subst h;exact absurd (Nat.min_zero _) A
   ·exact h
  have iq:0<py.length:=by
   rcases zaC py.length with h|h
   ·rw[h] at A;exact absurd (Nat.zero_min _) A
   ·exact h
  rcases W with⟨_,_,_,rfl⟩|⟨l,a',kQ,jM,ha⟩
  ·omega
  have wg:=ha (.inl (by omega));subst wg;obtain⟨⟨cur,et,K⟩,l2,l3⟩:=hr.eG l;generalize io:PC.list 1 ya J py=p at p3;cases p3 with
  |int k n=>cases io
  |bool b=>cases io
  |nil _ _ _ _=>injection io with _ _ _ e4;subst e4;simp at iq
  |cons _ b M _ _ q1 q2 q3 q4 q5 q6=>
  injection io with f1 f2 f3 f4;subst f1 f2 f3 f4;have Y7:=aci q4;generalize jY:py.flatten=pl at Y7;subst Y7;have nu:ys=pl.map fun c=>[c.er]:=by rw[<-e2,zal];rfl
  have jh:∀c∈pl.take len,c.er.eX=true:=by
   intro c U;have h6:=If.1 kq [c.er] (by rw[nu];exact List.mem_map_of_mem (f:=fun c:PC=>[c.er]) (List.mem_of_mem_take U));exact If.1 h6 c.er (by simp)
  have o6:xs.length=(G.g n).px.length:=by rw[hr.er,Pe]
  have QZ:(pl.take len).length=zax (pl.map fun c=>[c]).length len:=by rw[zaM,Pe];exact zbe _ _
  have gG:(pl.take len).length<=len:=by rw[zaM];exact Nat.min_le_left _ _
  have Z:(G.g n).o+lo+(pl.take len).length<=cur.size:=by
   have I:lo+len - 1<(G.g n).px.length:=by omega
   have h2:((G.g n).px[lo+len - 1]'I).length=1:=l2.1 _ (zaL I);have U:=l2.2.1 (lo+len - 1) 0 (((G.g n).px[lo+len - 1]'I)[0]'(by omega)) ⟨_,AT I,AT _⟩;have:=zW K U;omega
  obtain⟨G',r'⟩:=r.WY hn hm hs l (lo:=lo) (pe:=pl.take len) jh (by omega) K Z;have O:ys.take len=(pl.take len).map fun c=>[c.er]:=by rw[nu,List.map_take]
  rw[O,show zax ys.length len=zax (pl.map fun c=>[c]).length len by rw[S]];have V:=arc (P:=P) (w:=w) (t':=t') (ty:=o.type) ht hi bN (G.g n).b ((G.g n).o+lo) len ((G.g n).cap - lo) cur K (ad b M) (pl.map fun c=>[c]).length J ((pl.take len).map PC.val) (by rw[Pe,QZ]) (fun j u d=>by
   rw[AN] at d;cases hp:(pl.take len)[j]? with
   |none=>rw[hp] at d;cases d
   |some z=>
    rw[hp] at d;injection d with d;subst d;have bS:pl[j]? =some z:=by
     rw[List.getElem?_take] at hp;split at hp
     ·exact hp
     ·cases hp
    have:=q5 j 0 z ⟨[z],by rw[AN,bS];rfl,rfl⟩;rw[qy];rw[show M+j=M+j*1+0 by omega];exact this) (fun u hu=>by obtain⟨z,_,rfl⟩:=GB.1 hu;exact PC.kF z) (by rw[Pe];exact Z)
  refine rz (w':=f7 w (G.g n).b ((G.g n).o+lo) ((pl.take len).map PC.val) cur) (v:=.int .i64 (zax (pl.map fun c=>[c]).length len:Nat)) ?_ ⟨G',r'.put (RA.of_int _ _) (fun q T=>absurd T tT) X⟩;rw[zba] at kQ;simp only[execOp,ho];simp only[Pe] at V⊢;simp[resolve,invoke,builtin,kQ,D,Pe,V]
theorem as8 (z0:Value) (n:Nat):(Builtin.zeroCells #[z0] n).toList=zaf n z0:=by unfold Builtin.zeroCells;simp;rw[List.eq_replicate_iff];refine⟨by simp,fun b a=>?_⟩;obtain⟨i,_,rfl⟩:=GB.1 a;simp[Nat.mod_one]
theorem arb {t ty e:TypeId} (a:P.underlying t=some (.slice e)) (ya:Option Addr) (c:Nat): (Builtin.clear_ #[t] ty #[.slice ya 0 c]).run P w=.ok (.tuple #[]) w:=by cases ya<;>simp[Builtin.clear_,run_underlying a]
theorem ara {t ty e d:TypeId} {i:TypeInfo} {z z0:Value} (q:P.underlying t=some (.slice e)) (j:P.info? e=some i) (p:i.zero=some z) (h:z.cells=#[z0]) (m:z0.oneCell'=true) (g a n c:Nat) (hn:0<n) (cur:Array Value) (f:w.heap[g]? =some (.cells cur d (0,0))) (o:a+n<=cur.size):(Builtin.clear_ #[t] ty #[.slice (some (ad g a)) n c]).run P w=.ok (.tuple #[]) (f7 w g a (zaf n z0) cur):=by have b:=run_storeCells_at P g a d (zaf n z0) 0 cur w f (by simpa using o) (fun v l=>by rw[(za2.1 l).2];exact m);simp only[zbd] at b;obtain⟨n,rfl⟩:∃k,n=k+1:=⟨n - 1,by omega⟩;simp[Builtin.clear_,run_underlying q,typeInfo,zeroValue,j,p,h,as8,ad,b,f7]
theorem aic (r:R B E w0 N σ a w G) {t e:TypeId} {i:TypeInfo} {z:Value} {x:Operand} {mx:MO} {n lo len:Nat} {d:C} {xs:List (List C)} {s:Bool} {m:Mode} (U:o.op=.call {callee:=.builtin .clear,args:=#[x],argTypes:=#[t]}) (J:∀n,o.dst=some n->n<N)
  (e8:bU x mx=true) (O:P.underlying t=some (.slice e)) (X:P.info? e=some i) (hz:i.zero=some z) (f:vU z.cells.toList [d]=true) (wJ:d.eX=true) (hx:σ.ev mx=.one (.sl n 1 lo len)) (hn:σ.h n=some (.row s m 1 xs))
  (hm:m≠ .aM) (hs:fh xs=true) (fV:lo+len<=xs.length):
  o.wp P a w (Nx B E w0 N ((σ.ef n (.row s m 1 (cZ xs lo (zaf len [d])))).put o.dst (.bH []))) Q:=by
 have H:=r.hr;obtain⟨M,_⟩:=r.ev e8;rw[hx] at M;have I:jb (G.g n) 1 lo len (a.eval x):=(M.gj (by simp)).1 (by rw[hn];simp);have hr:=H.row n s m 1 xs hn;obtain⟨W,Z,b3⟩:=Pg (w:=w) f;have L:∀w G' h',RA w G' h' (.bH []) (.tuple #[]):=fun w G' h'=>⟨[],rfl,rfl,by simp⟩;have V:z.cells=#[(mV d).val]:=by
  apply zag;rw[<-Z];rfl
 rcases zaC len with rfl|j
 ·have u:∃K c,a.eval x=.slice K 0 c:=by
   rcases I with⟨l,y,_,_⟩|⟨l,a',y,_,_⟩
   ·exact⟨_,_,y⟩
   ·exact⟨_,_,y⟩
  obtain⟨K,c,u⟩:=u;rw[show cZ xs lo (zaf 0 [d])=xs from ae4 _ _ (by omega),aeC hn]
  refine jI r (v:=.tuple #[]) ?_ (L _ _ _) (fun q A=>?_) J
  ·simp only[execOp,U];simp[resolve,invoke,builtin,u,arb O]
  ·obtain⟨x,hx,_⟩:=A;simp at hx
 ·rcases I with⟨_,_,_,rfl⟩|⟨l,a',D,jM,ha⟩
  ·omega
  have Y:=ha (.inl (by omega));subst Y;obtain⟨⟨cur,et,p⟩,l2,l3⟩:=hr.eG l;have o6:xs.length=(G.g n).px.length:=by rw[hr.er,Pe]
  have T:(G.g n).o+lo+len<=cur.size:=by
   have k:lo+len - 1<(G.g n).px.length:=by omega
   have h2:((G.g n).px[lo+len - 1]'k).length=1:=l2.1 _ (zaL k);have f:=l2.2.1 (lo+len - 1) 0 (((G.g n).px[lo+len - 1]'k)[0]'(by omega)) ⟨_,AT k,AT _⟩;have:=zW p f;omega
  have F:(mV d).er=d:=by simpa using W
  obtain⟨G',S⟩:=r.WY hn hm hs l (lo:=lo) (pe:=zaf len (mV d)) (fun c f=>by rw[(za2.1 f).2,F];exact wJ) (by rw[zaR];exact fV) p (by rw[zaR];exact T);rw[za3,za3,F] at S;have bX:=ara (P:=P) (w:=w) (ty:=o.type) O X hz V (PC.kF _) (G.g n).b ((G.g n).o+lo) len ((G.g n).cap - lo) j cur p T;refine rz (w':=f7 w (G.g n).b ((G.g n).o+lo) (zaf len (mV d).val) cur) (v:=.tuple #[]) ?_ ⟨G',S.put (L _ _ _) (fun q A=>by obtain⟨x,hx,_⟩:=A;simp at hx) J⟩;rw[zba] at D;simp only[execOp,U];simp[resolve,invoke,builtin,D,bX]
end
structure Vc (w:World) (ds:List Dv) (vals:List Value) (aT:List PA):Prop where
 l1:vals.length=ds.length
 l2:aT.length=ds.length
 at_:∀(i:Nat) (d:Dv) (v:Value) (p:PA),ds[i]? =some d->vals[i]? =some v->aT[i]? =some p->zD w d v p
 kD:∀p∈aT,p.k=.ptr->ek w p.b/\∀q∈aT,∀pc∈q.ps,¬ba p.b pc
 one:∀(i j:Nat) (p q:PA),aT[i]? =some p->aT[j]? =some q->p.k=.ptr->q.k=.ptr->i=j
def Oz (w:World) (aT:List PA) (b:Nat):Prop:=w.heap.size<=b\/∃q∈aT,∃pc∈q.ps,ba b pc
def exV (aT:List PA):Ex:=⟨fun b=>∃p∈aT,p.k=.ptr/\b=p.b,fun _=>none,fun _ _ h=>(by cases h),fun _=>True⟩
def Iw (p:PA):Value:=
 match p.k with
 |.one=>match p.ps with
  |[pc]=>pc.val
  |_=>.agg (p.ps.map PC.val).toArray
 |.agg=>.agg (p.ps.map PC.val).toArray
 |.ptr=>.pointer (some (ad p.b p.o))
def L4:List PA->Value
 |[p]=>Iw p
 |l=>.tuple (l.map Iw).toArray
def U3 (w:World) (b o:Nat) (ps:List PC):Prop:=∀(j:Nat) (c:PC),ps[j]? =some c->w.cell? (ad b (o+j))=some c.val
structure agl (w w':World) (aT bt:List PA) (qs:List PC):Prop where
 one:∀p∈bt,p.k=.one->p.ps.length=1
 ptr:∀p∈bt,p.k=.ptr->bt.length=1/\w.heap.size<=p.b/\ek w' p.b/\U3 w' p.b p.o p.ps/\(∀pc∈p.ps,¬ba p.b pc)/\∀pc∈qs,¬ba p.b pc
 e7:∀p∈bt,∀pc∈p.ps,Good w' pc/\∀b,ba b pc->Oz w aT b
 fr:Fr w.heap.size (exV aT) w w'
 out:∀pc∈qs,Good w' pc/\∀b,ba b pc->Oz w aT b
 at_:∀p∈aT,p.k=.ptr->U3 w' p.b p.o qs
def Vd (P:Program) (f:FuncId) (M:List Dv->Option (List Dv×List C)):Prop:=
 ∀ds rs out,M ds=some (rs,out)->∀(w:World) (vals:List Value) (aT:List PA),Vc w ds vals aT->Calls P f vals.toArray w fun e w'=>
  ∃(bt:List PA) (qs:List PC),bt.map (fun p=>(p.k,p.ps.map PC.er))=rs/\e=.returned (L4 bt)/\qs.map PC.er=out/\agl w w' aT bt qs
def Cq (P:Program) (T:aQ):Prop:=∀f M,aQ.lY T.vs f=some M->Vd P f M
section
variable {B:Nat} {E:Ex} {w0 w w':World} {G G':Gh} {N:Nat} {h h':Nat->Option ar} {used used':Nat->Bool} {tk:List PC}
variable {P:Program} {o:Oper} {a:Act} {σ σ':St} {Q:Exit->Act->World->Prop}
theorem HR.pY {c:ah} {x:C} {v:Value} (hx:Am.pY c=some x) (d:RC w G h c v):∃pc:PC,pc.er=x/\pc.val=v/\Good w pc/\∀b,ba b pc->G.Im b:=by cases c with|c y=>simp only[Am.pY] at hx;injection hx with hx;subst hx;exact d|nil sz=>simp only[Am.pY] at hx;split at hx;rename_i g;injection hx with hx;subst hx;have f:v=.slice none 0 0:=d;subst f;refine⟨.list sz none 0 [],by simp[PC.dW],rfl,.nil _ _ _ g,fun b a=>?_⟩;rw[ba.lK] at a;rcases a with⟨a,_⟩|⟨k,j,c,⟨e,i,_⟩,_⟩;exact absurd rfl a;simp at i;cases hx|_=>simp[Am.pY] at hx
theorem HR.nA:∀{cs:List ah} {xs:List C} {vs:List Value},Am.nA cs=some xs->dA w G h cs vs->∃ps:List PC,ps.map PC.er=xs/\ps.map PC.val=vs/\∀pc∈ps,Good w pc/\∀b,ba b pc->G.Im b
 |[],xs,vs,hx,hc=>by
  simp only[Am.nA] at hx;injection hx with hx;subst hx;have:vs=[]:=IS (by simpa using hc.1);subst this;exact⟨[],rfl,rfl,by simp⟩
 |c::cs,xs,vs,hx,hc=>by
  simp only[Am.nA] at hx;split at hx
  ·rename_i x av f m;injection hx with hx;subst hx;match vs,hc.1 with
   |v::vs,hl=>
    obtain⟨pc,d,o,g,n⟩:=HR.pY f (hc.2 0 c v rfl rfl).2;obtain⟨ps,e,k,l⟩:=HR.nA (vs:=vs) m ⟨by simpa using hl,fun j c u i p=>hc.2 (j+1) c u i p⟩;refine⟨pc::ps,by simp[d,e],by simp[o,k],fun q a=>?_⟩;cases a with
    |head=>exact⟨g,n⟩
    |tail _ a=>exact l q a
  ·cases hx
theorem HR.agW (H:HR B E w G h used tk) {n:Nat} {cs:List ah} (hn:h n=some (.box cs)):∃vs:List Value,dA w G h cs vs/\∀(j:Nat) (v:Value),vs[j]? =some v->w.cell? (ad (G.g n).b ((G.g n).o+j))=some v:=by obtain⟨_,_,k⟩:=H.box n cs hn;have f:∀j:Fin cs.length,∃v,w.cell? (ad (G.g n).b ((G.g n).o+j.1))=some v/\v.oneCell'=true/\RC w G h cs[j.1] v:=fun j=>k j.1 _ (AT j.2);refine⟨List.ofFn fun j=>Classical.choose (f j),⟨by simp,fun j c u i d=>?_⟩,fun j v a=>?_⟩;obtain⟨hl,e⟩:=By.1 i;rw[za4,dif_pos hl] at d;injection d with d;subst d e;exact(zaS (f ⟨j,hl⟩)).2;by_cases hl:j<cs.length;rw[za4,dif_pos hl] at a;injection a with a;subst a;exact(zaS (f ⟨j,hl⟩)).1;rw[zaT (by simp;omega)] at a;cases a
theorem ast {σ1:St} {c:ah} {x:C} {o:Bool} (hx:σ.f0 c=some (x,o,σ1)) {n:Nat} {cs:List ah} (hn:σ.h n=some (.box cs)):σ1.h n=some (.box cs):=by cases c with|c y=>simp only[St.f0] at hx;injection hx with hx;injection hx with _ hx;injection hx with _ hx;subst hx;exact hn|nil sz=>simp only[St.f0] at hx;split at hx;injection hx with hx;injection hx with _ hx;injection hx with _ hx;subst hx;exact hn;cases hx|sl q sz lo len=>simp only[St.f0] at hx;split at hx;rename_i gr m rs xs b;split at hx;injection hx with hx;injection hx with _ hx;injection hx with _ hx;subst hx;have a:n≠q:=(by rintro rfl;rw[b] at hn;cases hn);show aI σ.h q none n=_;rw[cQ _ _ _ _ a];exact hn;cases hx;cases hx|_=>simp[St.f0] at hx
theorem afw:∀{l:List ah} {σ σ1:St} {xs:List C} {o:Bool},σ.f6 l=some (xs,o,σ1)->∀{n:Nat} {cs:List ah},σ.h n=some (.box cs)->σ1.h n=some (.box cs)
 |[],σ,σ1,xs,o,hx,n,cs,hn=>by simp only[St.f6] at hx;injection hx with hx;injection hx with _ hx;injection hx with _ hx;subst hx;exact hn
 |c::l,σ,σ2,xs,o,hx,n,cs,hn=>by simp only[St.f6] at hx;split at hx;rename_i x o1 σ1 b;split at hx;rename_i av o2 UL a;injection hx with hx;injection hx with _ hx;injection hx with _ hx;subst hx;exact afw a (ast b hn);cases hx;cases hx
theorem ON:∀{as:List ao} {σ σ1:St} {ds:List Dv} {ns:List Nat},σ.jc as=some (ds,ns,σ1)->∀{n:Nat} {cs:List ah},σ.h n=some (.box cs)->σ1.h n=some (.box cs)
 |[],σ,σ1,ds,ns,hx,n,cs,hn=>by simp only[St.jc] at hx;injection hx with hx;injection hx with _ hx;injection hx with _ hx;subst hx;exact hn
 |v::as,σ,σ2,ds,ns,hx,n,cs,hn=>by simp only[St.jc] at hx;split at hx;split at hx;rename_i e;injection hx with hx;injection hx with _ hx;injection hx with _ hx;subst hx;exact ON e hn;cases hx;split at hx;split at hx;rename_i b;split at hx;rename_i a;injection hx with hx;injection hx with _ hx;injection hx with _ hx;subst hx;exact ON a (afw b hn);cases hx;cases hx;cases hx
def nh (aT:List PA):List PA:=aT.filter fun p=>decide (p.k=.ptr)
def UP (G:Gh) (h:Nat->Option ar) (p:PA) (n:Nat):Prop:=∃cs,h n=some (.box cs)/\p.b=(G.g n).b/\p.o=(G.g n).o/\p.ps.length=cs.length
theorem Vx {v:ao} {n:Nat} {xs:List C} (hx:nN h v=some (n,xs)):∃sz cs,v=.one (.ptr n 0 sz 0)/\h n=some (.box cs)/\nA cs=some xs:=by unfold nN at hx;split at hx;rename_i q k sz off;split at hx;rename_i a;obtain⟨rfl,rfl⟩:=a;split at hx;rename_i cs c;split at hx;rename_i ys e;injection hx with hx;injection hx with b h2;subst b h2;exact⟨sz,cs,rfl,c,e⟩;cases hx;cases hx;cases hx;cases hx
theorem HR.jc:∀{as:List ao} {vals:List Value} {σ σ1:St} {G:Gh} {ds:List Dv} {ns:List Nat},HR B E w G σ.h σ.used []->σ.jc as=some (ds,ns,σ1)->vals.length=as.length->
  (∀(j:Nat) (x:ao) (v:Value),as[j]? =some x->vals[j]? =some v->RA w G σ.h x v)->(∀x∈as,∀m,x.ref m->σ.used m=true)->
  ∃(Im':Nat->Prop) (s:List PA),s.length=ds.length/\vals.length=ds.length/\(∀(i:Nat) (d:Dv) (v:Value) (p:PA),ds[i]? =some d->vals[i]? =some v->s[i]? =some p->zD w d v p)/\
   (∀p∈s,∀pc∈p.ps,∀b,ba b pc->Im' b)/\(nh s).length=ns.length/\(∀(i:Nat) (p:PA) (n:Nat),(nh s)[i]? =some p->ns[i]? =some n->UP G σ1.h p n)/\
   HR B E w ⟨Im',G.g⟩ σ1.h σ1.used []/\bu w G σ.h (fun n=>σ.used n=true) w ⟨Im',G.g⟩ σ1.h/\σ1.env=σ.env/\σ1.used=σ.used
 |[],vals,σ,σ1,G,ds,ns,H,hx,hl,hc,hr=>by
  simp only[St.jc] at hx;injection hx with hx;injection hx with a k;injection k with k h3;subst a k h3;exact⟨G.Im,[],rfl,by simpa using hl,by simp,by simp,rfl,by simp[nh],H,bu.refl _ _ _ _,rfl,rfl⟩
 |x::as,vals,σ,σ2,G,ds,ns,H,hx,hl,hc,hr=>by
  match vals,hl with
  |v::vals,hl=>
   simp only[St.jc] at hx;split at hx
   ·rename_i n xs hp;split at hx
    ·rename_i xS lN σ1 e;injection hx with hx;injection hx with a k;injection k with k h3;subst a k h3;obtain⟨sz,cs,rfl,hn,GG⟩:=Vx hp;obtain⟨nl,un,_⟩:=H.box n cs hn;obtain⟨vs,Z,v2⟩:=H.agW hn;obtain⟨ps,p1,T,X⟩:=HR.nA GG Z;have hv:v=.pointer (some (ad (G.g n).b (G.g n).o)):=by
      have q:=hc 0 _ v rfl rfl;rcases q with q|q
      ·cases q
      ·have a:RC w G σ.h (.ptr n 0 sz 0) v:=(q.2 0 _ v rfl rfl).2;simpa using(a (by rw[hn];simp)).2
     obtain⟨Im',s,R,S,L,O,J,F,N,b8,Q,M⟩:=HR.jc (as:=as) (vals:=vals) H e (by simpa using hl) (fun j x v a k=>hc (j+1) x v a k) (fun x hx=>hr x (by simp[hx]));have hk:(Am.K.ptr=Am.K.ptr)=True:=by simp
     refine⟨Im',⟨.ptr,ps,(G.g n).b,(G.g n).o⟩::s,by simp[R],by simp[S],fun i d u p hd y f=>?_,fun p f pc r b A=>?_,by simp[nh];exact J,fun i p m z hm=>?_,N,b8,Q,M⟩
     ·cases i with
      |zero=>
       simp at hd y f;subst hd y f;refine⟨by rw[p1],fun pc r=>(X pc r).1,hv,un.lt,fun j c hj=>v2 j _ ?_⟩;rw[<-T,AN,hj];rfl
      |succ i=>exact L i d u p (by simpa using hd) (by simpa using y) (by simpa using f)
     ·cases f with
      |head=>exact b8.im b ((X pc r).2 b A)
      |tail _ f=>exact O p f pc r b A
     ·cases i with
      |zero=>
       simp[nh] at z hm;subst z hm;refine⟨cs,ON e hn,rfl,rfl,?_⟩;have a:ps.length=vs.length:=by rw[<-T];simp
       exact a.trans Z.1
      |succ i=>exact F i p m (by simpa[nh] using z) (by simpa using hm)
    ·cases hx
   ·split at hx
    ·rename_i ag cs t;split at hx
     ·rename_i xs o σ1 e1;split at hx
      ·rename_i xS lN UL e2;injection hx with hx;injection hx with a k;injection k with k h3;subst a k h3;have q:=hc 0 x v rfl rfl;have GQ:∃vs:List Value,(if ag=true then v=.agg vs.toArray else vs=[v])/\dA w G σ.h cs vs:=by
        cases x with
        |one c=>
         have I:ag=false/\cs=[c]:=by cases c<;>simp[ao.cells?] at t<;>exact⟨t.1,t.2.symm⟩
         obtain⟨rfl,rfl⟩:=I;rcases q with q|q
         ·subst q;simp[ao.cells?] at t
         ·exact⟨[v],rfl,q⟩
        |agg cs'=>
         simp[ao.cells?] at t;obtain⟨rfl,rfl⟩:=t;obtain⟨vs,e,a⟩:∃vs:List Value,v=.agg vs.toArray/\dA w G σ.h cs' vs:=q;exact⟨vs,e,a⟩
        |bH xs=>simp[ao.cells?] at t
       obtain⟨vs,D,cJ⟩:=GQ;obtain⟨Fl,Y,W,a2,P,V,U,a7,C,a9⟩:=H.f6 e1 cJ (fun c' dm m hm=>hr x (by simp) m (ao.zY t dm hm));have Cv:HR B E w ⟨Fl,G.g⟩ σ1.h σ.used []:=by
        cases o with
        |true=>exact HR.BK (tk:=[]) (l:=Y) (by simpa using V)
        |false=>simpa using V
       rw[<-C] at Cv;obtain⟨Fm,s,R,S,L,O,J,F,N,b8,Q,M⟩:=HR.jc (as:=as) (vals:=vals) (G:=⟨Fl,G.g⟩) Cv e2 (by simpa using hl)
        (fun j x v a k=>(hc (j+1) x v a k).gf U (fun m hm=>hr x (by simp[wt a]) m hm)) (fun x' kR m hm=>by rw[C];exact hr x' (by simp[kR]) m hm)
       refine⟨Fm,⟨if ag=true then .agg else .one,Y,0,0⟩::s,by simp[R],by simp[S],fun i d u p hd y f=>?_,fun p f pc r b A=>?_,?_,fun i p m z hm=>?_,N,
        bu.trans (fun n hn=>by rw[C];exact hn) U b8,Q.trans a7,M.trans C⟩
       ·cases i with
        |zero=>
         simp at hd y f;subst hd y f;cases ag with
         |true=>exact⟨by simp[W],fun pc r=>(P pc r).1,by simp only[if_true] at D⊢;rw[a2];exact D⟩
         |false=>exact⟨by simp[W],fun pc r=>(P pc r).1,by simp only[zaD,if_false] at D⊢;rw[a2];exact D⟩
        |succ i=>exact L i d u p (by simpa using hd) (by simpa using y) (by simpa using f)
       ·cases f with
        |head=>exact b8.im b ((P pc r).2 b A)
        |tail _ f=>exact O p f pc r b A
       ·cases ag<;>simp[nh]<;>exact J
       ·refine F i p m ?_ hm;cases ag<;>simpa[nh] using z
      ·cases hx
     ·cases hx
    ·cases hx
theorem HR.agV (H:HR B E w G h used []) {n:Nat} {cs cs':List ah} (hn:h n=some (.box cs)) (L:w.heap.size<=w'.heap.size) (U:∀b,b<w.heap.size->b≠(G.g n).b->w'.heap[b]? =w.heap[b]?) (A:∀b,b<w.heap.size->Cz w w' b) {S:Nat->Prop} (u:∀b,S b->w.heap.size<=b/\b<w'.heap.size/\B<=b) {ps:List PC} (fW:cs'=ps.map fun pc=>ah.c pc.er) (dj:∀(j:Nat) (c:PC),ps[j]? =some c->w'.cell? (ad (G.g n).b ((G.g n).o+j))=some c.val) (gp:∀pc∈ps,Good w' pc/\∀b,ba b pc->G.Im b\/S b): HR B E w' ⟨fun b=>G.Im b\/S b,G.g⟩ (aI h n (some (.box cs'))) used []/\bu w G h (fun n=>used n=true) w' ⟨fun b=>G.Im b\/S b,G.g⟩ (aI h n (some (.box cs'))):=by subst fW;have p:h n≠none:=(by rw[hn];simp);obtain⟨i,Q,hH⟩:=H.box n cs hn;obtain⟨W,T,v⟩:=H.own n p i;have N:=H.jp n p;have P:∀y:List ah,bu w G h (fun n=>used n=true) w' G (aI h n (some (.box y))):=(by intro y;refine⟨fun _ h=>h,fun b a x=>ik (U b (H.gN b a) (fun O=>W (O▸a))) x,fun m hm d=>?_,fun m e sz xs hm d=>?_⟩;by_cases f:m=n;subst f;exact⟨p,rfl,rfl,rfl,rfl,rfl⟩;rw[cQ _ _ _ _ f] at d;exact⟨d,rfl,rfl,rfl,rfl,rfl⟩;by_cases f:m=n;subst f;rw[cr] at d;cases d;rw[cQ _ _ _ _ f] at d;exact⟨⟨e,xs,d⟩,fun k j pc I J=>⟨pc,I,rfl,J⟩⟩);have R:(⟨G.Im,aI G.g n (G.g n)⟩:Gh)=G:=(by rw[I7]);have Y:HR B E w' ⟨G.Im,aI G.g n (G.g n)⟩ (aI h n (some (.box []))) used []:=(by refine H.put (fun b a aJ=>U b a (aJ i)) L (fun b a C=>(A b a).kD C) (fun _ h=>h) N (fun _=>⟨W,T,zak v L⟩) (fun _ m hm d D=>(H.inj m n d p hm D i)) (fun _ m e sz xs hm d b a=>H.live m e sz xs d b a n p i) ?_ (by rw[R];exact P []) ?_ (fun e m sz xs a=>by cases a) (fun e sz xs a=>by cases a) (fun e m sz xs a=>by cases a) ?_;intro y c m a F hm;injection a with a;subst a;cases F;exact⟨i,(A _ v).kD Q,fun j c l=>by simp at l⟩;intro _ _ b a;obtain⟨m,e,mo,sz,xs,hm,d,z⟩:=a;exact H.uJ p i d z);rw[R] at Y;have DC:∀m,aI h n (some (ar.box [])) m≠none->h m≠none:=fun m hm=>(by by_cases f:m=n;subst f;exact p;rwa[cQ _ _ _ _ f] at hm);have s:HR B E w' ⟨fun b=>G.Im b\/S b,G.g⟩ (aI h n (some (.box []))) used []:=Y.se S (fun b a=>(u b a).2.1) (fun b a q r hl O=>by have:=(u b a).1;have:=(H.own q (DC q r) hl).2.2;omega) (fun b a q e sz xs r hF=>by by_cases Z:q=n;subst Z;rw[cr] at r;cases r;rw[cQ _ _ _ _ Z] at r;have:=(u b a).1;have:=H.pu r hF;omega) (fun b a=>.inl (u b a).2.2);have K:aI h n (some (ar.box [])) n=some (.box []):=cr _ _ _;have t:aI h n (some (ar.box [])) n≠none:=(by rw[K];simp);have V:aI (aI h n (some (ar.box []))) n (some (.box (ps.map fun pc=>ah.c pc.er)))=aI h n (some (.box (ps.map fun pc=>ah.c pc.er))):=(by funext m;simp only[kE];split<;>rfl);have X:(⟨fun b=>G.Im b\/S b,aI G.g n (G.g n)⟩:Gh)=⟨fun b=>G.Im b\/S b,G.g⟩:=(by rw[I7]);have K2:bu w' ⟨fun b=>G.Im b\/S b,G.g⟩ (aI h n (some (ar.box []))) (fun n=>used n=true) w' ⟨fun b=>G.Im b\/S b,G.g⟩ (aI h n (some (.box (ps.map fun pc=>ah.c pc.er)))):=(by refine⟨fun _ h=>h,fun _ _ _=>rfl,fun m hm d=>?_,fun m e sz xs hm d=>?_⟩;refine⟨?_,rfl,rfl,rfl,rfl,rfl⟩;by_cases f:m=n;subst f;exact t;rw[cQ _ _ _ _ f] at d⊢;exact d;by_cases f:m=n;subst f;rw[cr] at d;cases d;rw[cQ _ _ _ _ f] at d;exact⟨⟨e,xs,by rw[cQ _ _ _ _ f];exact d⟩,fun k j pc I J=>⟨pc,I,rfl,J⟩⟩);have M:HR B E w' ⟨fun b=>G.Im b\/S b,aI G.g n (G.g n)⟩ (aI (aI h n (some (ar.box []))) n (some (.box (ps.map fun pc=>ah.c pc.er)))) used []:=(by refine s.put (w':=w') (fun _ _ _=>rfl) (zad _) (fun _ _ C=>C) (fun _ h=>h) N (fun _=>⟨fun hi=>(s.own n t i).1 hi,T,zak v L⟩) (fun _ m hm d D=>s.inj m n d t hm D i) (fun _ m e sz xs hm d b a=>s.live m e sz xs d b a n t i) ?_ (by rw[X,V];exact K2) ?_ (fun e m sz xs a=>by cases a) (fun e sz xs a=>by cases a) (fun e m sz xs a=>by cases a) ?_;intro y c m a F hm;injection a with a;subst a;obtain⟨pc,_,rfl⟩:=GB.1 F;exact absurd hm id;refine⟨i,(A _ v).kD Q,fun j c l=>?_⟩;rw[AN] at l;(cases hp:ps[j]? with|none=>rw[hp] at l;cases l|some pc=>rw[hp] at l;simp at l;subst l;obtain⟨g1,g2⟩:=gp pc (wt hp);exact⟨pc.val,dj j pc hp,PC.kF pc,pc,rfl,rfl,g1,g2⟩);intro _ _ b a;obtain⟨m,e,mo,sz,xs,hm,d,z⟩:=a;exact s.uJ t i d z);rw[X,V] at M;have K1:bu w G h (fun n=>used n=true) w' ⟨fun b=>G.Im b\/S b,G.g⟩ (aI h n (some (ar.box []))):=bu.trans (fun _ h=>h) (P []) (bu.se S _);exact⟨M,bu.trans (fun _ h=>h) K1 K2⟩
theorem Tc {σ1:St} {ns:List Nat} {out:List C} (hx:σ.sD ns out=some σ1):(ns=[]/\out=[]/\σ1=σ)\/∃n cs,ns=[n]/\σ.h n=some (.box cs)/\cs.length=out.length/\σ1=σ.ef n (.box (out.map .c)):=by unfold St.sD at hx;split at hx;injection hx with hx;exact .inl ⟨rfl,rfl,hx.symm⟩;rename_i n;split at hx;rename_i cs hn;split at hx;rename_i hl;injection hx with hx;exact .inr ⟨n,cs,rfl,hn,hl,hx.symm⟩;cases hx;cases hx;cases hx
theorem Wb {a:List PA} {p:PA} (b:p∈a) (c:p.k=.ptr):p∈nh a:=zaU.2 ⟨b,by simp[c]⟩
theorem Wc:∀{a:List PA},(nh a).length<=1->∀{i j:Nat} {p q:PA},a[i]? =some p->a[j]? =some q->p.k=.ptr->q.k=.ptr->i=j
 |[],_,i,_,_,_,hi,_,_,_=>by simp at hi
 |x::a,hl,i,j,p,q,hi,hj,hp,hq=>by by_cases hx:x.k=.ptr;have e:(nh a).length=0:=(by simp[nh,hx] at hl⊢;exact hl);have b:∀y∈a,y.k≠ .ptr:=fun y hy d=>(by have:=Wb hy d;rw[zaI.1 e] at this;cases this);(cases i with|zero=>(cases j with|zero=>rfl|succ j=>exact absurd hq (b q (wt (by simpa using hj))))|succ i=>exact absurd hp (b p (wt (by simpa using hi))));have c:(nh a).length<=1:=(by simpa[nh,hx] using hl);cases i with|zero=>simp at hi;subst hi;exact absurd hp hx|succ i=>cases j with|zero=>simp at hj;subst hj;exact absurd hq hx|succ j=>exact congrArg (·+1) (Wc c (by simpa using hi) (by simpa using hj) hp hq)
theorem Pv:∀{f:List PA} {d:List (Bool×List ah)},iP (f.map fun p=>(p.k,p.ps.map PC.er))=some d->d=f.map (fun p=>(decide (p.k=.agg),p.ps.map fun pc=>ah.c pc.er))/\∀p∈f,p.k≠ .ptr
 |[],d,h=>by simp only[List.map_nil,iP] at h;injection h with h;exact⟨h.symm,by simp⟩
 |⟨k,ps,b,o⟩::f,d,h=>by cases k with|ptr=>simp[iP] at h|one=>simp only[za5,iP] at h;split at h;rename_i j e;injection h with h;obtain⟨i,g⟩:=Pv e;refine⟨by rw[<-h,i,zal];rfl,fun p a=>?_⟩;(cases a with|head=>simp|tail _ a=>exact g p a);cases h|agg=>simp only[za5,iP] at h;split at h;rename_i j e;injection h with h;obtain⟨i,g⟩:=Pv e;refine⟨by rw[<-h,i,zal];rfl,fun p a=>?_⟩;(cases a with|head=>simp|tail _ a=>exact g p a);cases h
theorem aqH {d:List (Bool×List ah)} {a:List PA} (e:d.length=a.length)
  (g:∀(j:Nat) (x:Bool×List ah) (p:PA),d[j]? =some x->a[j]? =some p->RV w G h x.1 x.2 (Iw p)):RA w G h (lO d) (L4 a):=by
 match d,a,e with
 |[],[],_=>exact⟨[],rfl,rfl,by simp⟩
 |[(ag,cs)],[p],_=>
  have f:=g 0 (ag,cs) p rfl rfl;cases ag with
  |true=>exact f
  |false=>
   have l:dA w G h cs [Iw p]:=f;match cs,l.1 with
   |[c],_=>exact .inr f
 |x::y::d,p::q::a,hl=>
  refine⟨(p::q::a).map Iw,rfl,by simpa using hl.symm,fun j x' u k b=>?_⟩;rw[AN] at b;cases hp:(p::q::a)[j]? with
  |none=>rw[hp] at b;cases b
  |some i=>rw[hp] at b;simp at b;subst b;exact g j x' i k hp
theorem aif (r:R B E w0 N σ a w G) {T:aQ} (hT:Cq P T) {f:FuncId} {as:List ao} {vals:List Value} {σ1:St} (hN:∀n,o.dst=some n->n<N)
  (bX:(execOp a.eval o).run P w=.ok (.enter f vals.toArray) w) (hl:vals.length=as.length)
  (pR:∀(j:Nat) (x:ao) (v:Value),as[j]? =some x->vals[j]? =some v->RA w G σ.h x v) (Q6:∀x∈as,∀m,x.ref m->σ.used m=true)
  (hx:rM T o.dst f as σ=some σ1):o.wp P a w (Nx B E w0 N σ1) Q:=by
 unfold rM at hx;split at hx
 ·rename_i ds ns J M hba hM;split at hx
  ·rename_i rs out uP;split at hx
   ·rename_i A oe;obtain⟨Im',H,b1,b2,b3,b4,b5,b6,F,b8,b9,nM⟩:=r.hr.jc hba hl pR Q6;have hns:ns.length<=1:=by
     rcases Tc oe with⟨t,_⟩|⟨n,cs,t,_⟩<;>rw[t]<;>simp
    have tB:∀p∈H,p.k=.ptr->∃n,ns=[n]/\UP G J.h p n:=by
     intro p l C;obtain⟨i,D⟩:=OF (Wb l C);have cm:i<ns.length:=by rw[<-b5];exact(By.1 D).1
     have hn:ns[i]? =some ns[i]:=AT cm;have h0:i=0:=by omega
     subst h0;refine⟨_,?_,b6 0 p _ D hn⟩;match ns,cm,hns with
     |[n],_,_=>rfl
    have va:Vc w ds vals H:=by
     refine⟨b2,b1,b3,fun p l C=>?_,fun i j p q D s l y=>Wc (by omega) D s l y⟩;obtain⟨n,_,cs,hn,e1,e2,e3⟩:=tB p l C;obtain⟨nl,un,_⟩:=F.box n cs hn;have ho:=F.own n (by rw[hn];simp) nl;rw[e1];exact⟨un,fun q y pc z d=>ho.1 (b4 q y pc z _ d)⟩
    unfold Oper.wp;rw[bX];refine(hT f M hM ds rs out uP w vals H va).mono fun e w' ⟨X,qs,p1,p2,p3,p4⟩=>?_;subst p2;have Zl:∀b,Oz w H b->Im' b\/w.heap.size<=b:=fun b d=>by
     rcases d with d|⟨q,y,pc,z,d⟩
     ·exact .inr d
     ·exact .inl (b4 q y pc z b d)
    let S:Nat->Prop:=fun b=>w.heap.size<=b/\((∃p∈X,∃pc∈p.ps,ba b pc)\/∃pc∈qs,ba b pc);have hB:=r.fr.size;have Y:∀b,S b->w.heap.size<=b/\b<w'.heap.size/\B<=b:=fun b ⟨t,I⟩=>by
     refine⟨t,?_,zat hB t⟩;rcases I with⟨p,l,pc,z,d⟩|⟨pc,z,d⟩
     ·exact(p4.e7 p l pc z).1.lt d
     ·exact(p4.out pc z).1.lt d
    have Ys:∀p∈X,∀pc∈p.ps,Good w' pc/\∀b,ba b pc->Im' b\/S b:=fun p l pc z=>by
     obtain⟨K,L⟩:=p4.e7 p l pc z;exact⟨K,fun b d=>(Zl b (L b d)).imp id fun t=>⟨t,.inl ⟨p,l,pc,z,d⟩⟩⟩
    have ajY:∀pc∈qs,Good w' pc/\∀b,ba b pc->Im' b\/S b:=fun pc z=>by
     obtain⟨K,L⟩:=p4.out pc z;exact⟨K,fun b d=>(Zl b (L b d)).imp id fun t=>⟨t,.inr ⟨pc,z,d⟩⟩⟩
    have asc:HR B E w' ⟨fun b=>Im' b\/S b,G.g⟩ A.h A.used []/\bu w ⟨Im',G.g⟩ J.h (fun n=>J.used n=true) w' ⟨fun b=>Im' b\/S b,G.g⟩ A.h/\A.env=J.env/\A.used=J.used/\Fr B E w0 w':=by
     rcases Tc oe with⟨t,I,V⟩|⟨n,cs,t,I,V,h4⟩
     ·subst V;have cN:∀p∈H,p.k≠ .ptr:=fun p l C=>by
       obtain⟨n,e,_⟩:=tB p l C;rw[t] at e;cases e
      have O:∀b,b<w.heap.size->w'.heap[b]? =w.heap[b]? :=fun b d=>p4.fr.block b d (fun⟨p,l,C,_⟩=>cN p l C);have Hg:=F.grow O p4.fr.size;refine⟨Hg.se S (fun b d=>(Y b d).2.1) (fun b d q y hl he=>by have:=(Y b d).1;have:=(F.own q y hl).2.2;omega)
       (fun b d q Z sz xs y hF=>by have:=(Y b d).1;have:=F.pu y hF;omega) (fun b d=>.inl (Y b d).2.2),
       bu.trans (fun _ h=>h) (bu.world (fun b d=>O b (F.gN b d)) _) (bu.se S _),rfl,rfl,r.fr.grow O p4.fr.size p4.fr.os p4.fr.tape p4.fr.output⟩
     ·subst h4;obtain⟨p,l,C⟩:∃p∈H,p.k=.ptr:=by
       have U:(nh H).length=1:=by rw[b5,t];rfl
       match hc:nh H,U with
       |[p],_=>
        have hm:p∈nh H:=by rw[hc];simp
        have:=zaU.1 hm;exact⟨p,this.1,by simpa using this.2⟩
      obtain⟨n',e0,cs',cv,e1,e2,e3⟩:=tB p l C;rw[t] at e0;injection e0 with e0;subst e0;have akN:∀q∈H,q.k=.ptr->q=p:=fun q y QJ=>by
       obtain⟨i,D⟩:=OF y;obtain⟨j,s⟩:=OF l;have:=va.one i j q p D s QJ C;subst this;rw[D] at s;injection s
      have ho:=F.own n (by rw[I];simp) (F.box n cs I).1;have O:∀b,b<w.heap.size->b≠(G.g n).b->w'.heap[b]? =w.heap[b]? :=fun b d aJ=>p4.fr.block b d (fun⟨q,y,QJ,YD⟩=>by
       rw[akN q y QJ,e1] at YD;exact aJ YD)
      have jN:∀b,b<w.heap.size->Cz w w' b:=fun b d=>p4.fr.kD b d;obtain⟨Hb,Kb⟩:=F.agV (cs':=out.map .c) I p4.fr.size O jN Y (ps:=qs) (by rw[<-p3,zal];rfl) (fun j c s=>by
       have:=p4.at_ p l C j c s;rw[e1,e2] at this;exact this) ajY
      exact⟨Hb,Kb,rfl,rfl,r.fr.one ho.2.1 O p4.fr.size (jN _ ho.2.2) p4.fr.os p4.fr.tape p4.fr.output⟩
    obtain⟨W,K2,v1,v2,Dq⟩:=asc;have K0:bu w G σ.h (fun n=>σ.used n=true) w' ⟨fun b=>Im' b\/S b,G.g⟩ A.h:=bu.trans (fun n hn=>by rw[nM];exact hn) b8 K2;have r2:R B E w0 N A a w' ⟨fun b=>Im' b\/S b,G.g⟩:=r.step (v1.trans b9) (fun m hm=>by rw[v2,nM];exact hm) K0 W Dq;have dat:∀{ls:List (Bool×List ah)},iP rs=some ls->σ1=A.put o.dst (lO ls)->(match(Ending.returned (L4 X)) with|.returned v=>Nx B E w0 N σ1 (a.put o.dst v) w'|_=>True):=by
     intro ls oT hs;subst hs;rw[<-p1] at oT;obtain⟨rfl,hnp⟩:=Pv oT;refine⟨_,r2.put (aqH (by simp) (fun j x p s l=>?_)) (fun q y=>?_) hN⟩
     ·rw[AN,l] at s;simp at s;subst s;have hm:=wt l;have cJ:dA w' ⟨fun b=>Im' b\/S b,G.g⟩ A.h (p.ps.map fun pc=>ah.c pc.er) (p.ps.map PC.val):=by
       refine⟨by simp,fun j c u s hu=>?_⟩;rw[AN] at s hu;cases lD:p.ps[j]? with
       |none=>rw[lD] at s;cases s
       |some pc=>
        rw[lD] at s hu;simp at s hu;subst s hu;obtain⟨K,L⟩:=Ys p hm pc (wt lD);exact⟨PC.kF pc,pc,rfl,rfl,K,L⟩
      have QI:=p4.one p hm;have hk2:=hnp p hm;obtain⟨k,ps,b,o'⟩:=p;cases k with
      |ptr=>exact absurd rfl hk2
      |agg=>exact⟨ps.map PC.val,rfl,cJ⟩
      |one=>
       have I:=QI rfl;match ps,I with
       |[p],_=>exact cJ
     ·exfalso;refine ac4 (fun x hx c hc y=>?_) y;obtain⟨p,_,rfl⟩:=GB.1 hx;obtain⟨pc,_,rfl⟩:=GB.1 hc;exact y
    unfold rH at hx;split at hx
    ·rename_i cs;split at hx
     ·rename_i q y;split at hx
      ·rename_i τ3 akl;injection hx with hx;subst hx;obtain⟨u1,rfl⟩:=oA akl;obtain⟨p,rfl⟩:∃p,X=[p]:=by
        have t:X.length=1:=by have:=congrArg zbh p1;simpa using this
        exact zaO.1 t
       simp at p1;obtain⟨C,gQ⟩:=p1;obtain⟨_,q1,q2,q3,q4,q5⟩:=p4.ptr p (by simp) C;subst gQ;have Y0:qw ⟨fun b=>Im' b\/S b,G.g⟩ A.h p.b:=by
        refine⟨fun D=>?_,fun m hm hl he=>?_,fun m Z mo sz xs hm hF=>?_⟩
        ·rcases D with D|⟨_,D⟩
         ·have:=F.gN _ D;omega
         ·rcases D with⟨p',bS,pc,z,d⟩|⟨pc,z,d⟩
          ·simp at bS;subst bS;exact q4 pc z d
          ·exact q5 pc z d
        ·have hd:=W.jp m hm;obtain⟨k0,k1,k2,_⟩:=K2.name m (by rw[<-v2];exact hd) hm;have eJ:(G.g m).nl=false:=hl;have:=(F.own m k0 eJ).2.2;have Dm:(G.g m).b=p.b:=he;have h7:(⟨Im',G.g⟩:Gh).g m=G.g m:=rfl;rw[h7] at this;omega
        ·have hd:=W.jp m (by rw[hm];simp);have fo:∃br lM aL av,J.h m=some (.row br lM aL av):=by
          rcases Tc oe with⟨t,I,V⟩|⟨n,cs,t,I,V,h4⟩
          ·subst V;exact⟨_,_,_,_,hm⟩
          ·subst h4;by_cases bG:m=n
           ·subst bG;have:aI J.h m (some (ar.box (out.map ah.c))) m=_:=hm;rw[cr] at this;cases this
           ·have:aI J.h n (some (ar.box (out.map ah.c))) m=_:=hm;rw[cQ _ _ _ _ bG] at this;exact⟨_,_,_,_,this⟩
         obtain⟨br,lM,aL,av,bM⟩:=fo;have hF':bc p.b (G.g m).px:=hF;have:=F.pu bM hF';omega
       have Hn:HR B E w' ⟨fun b=>Im' b\/S b,aI G.g q ⟨false,p.b,p.o,0,[],none⟩⟩ (aI A.h q (some (.box ((p.ps.map PC.er).map .c)))) (aI A.used q true) []:=by
        refine W.insert (w':=w') u1 (fun _ _=>rfl) (zad _) (fun _=>⟨Y0,.inl (zat hB q1),q2.lt⟩) (fun cs' c m d dm hm=>?_) ⟨rfl,q2,fun j c s=>?_⟩ (fun Z m sz xs d=>by cases d) (fun Z sz xs d=>by cases d) (fun Z m sz xs d=>by cases d)
        ·injection d with d;subst d;obtain⟨x,_,rfl⟩:=GB.1 dm;exact absurd hm id
        ·rw[AN,AN] at s;cases l:p.ps[j]? with
         |none=>rw[l] at s;cases s
         |some pc=>
          rw[l] at s;simp at s;subst s;obtain⟨K,L⟩:=Ys p (by simp) pc (wt l);exact⟨pc.val,q3 j pc l,PC.kF pc,pc,rfl,rfl,K,L⟩
       have r3:=r2.step (σ':={A with h:=aI A.h q (some (.box ((p.ps.map PC.er).map .c))),used:=aI A.used q true}) rfl (fun m hm=>t9 q m hm) (bu.insert W u1 (fun _ _=>rfl)) Hn Dq
       have hv:L4 [p]=.pointer (some (ad p.b p.o)):=by
        obtain⟨k,ps,b,o'⟩:=p;simp only at C;subst C;rfl
       rw[hv];exact⟨_,r3.put (RA.gh (c:=.ptr q 0 0 0) rfl (show aI A.h q _ q≠none->(aI G.g q _ q).nl=false/\_=_ from fun _=>by simp[cr])) (fun m hm=>by have bM:m=q:=hm;subst bM;exact cr _ _ _) hN⟩
      ·cases hx
     ·cases hx
    ·split at hx
     ·rename_i ls oT;injection hx with hx;exact dat oT hx.symm
     ·cases hx
   ·cases hx
  ·cases hx
 ·cases hx
theorem WE (r:R B E w0 N σ a w G) {T:aQ} (i:Cq P T) {f:FuncId} {xs:Array Operand} {ms:List MO} {ts:Array TypeId} {σ1:St} (e:∀n,o.dst=some n->n<N) (p:o.op=.call {callee:=.value (.func f),args:=xs,argTypes:=ts}) (j:bL P f=true) (hm:iN xs.toList ms=true) (hx:rM T o.dst f (ms.map σ.ev) σ=some σ1):o.wp P a w (Nx B E w0 N σ1) Q:=by obtain⟨h,k⟩:=r.An hm;have g:∀x∈ms.map σ.ev,∀m,x.ref m->σ.used m=true:=(by have c:∀{xs:List Operand} {ms:List MO},iN xs ms=true->∀x∈ms.map σ.ev,∀m,x.ref m->σ.used m=true:=(by intro xs ms;induction ms generalizing xs with|nil=>intro _ x hx;simp at hx|cons m0 ms l=>intro b x hx m hm;cases xs with|nil=>simp[iN] at b|cons y ys=>simp only[iN,co] at b;simp only[za5,zam] at hx;rcases hx with rfl|hx;exact(r.ev b.1).2 m hm;exact l b.2 x hx m hm);exact c hm);refine aif r i (vals:=xs.toList.map a.eval) e ?_ (by simpa using h) k g hx;have d:(xs.toList.map a.eval).toArray=xs.map a.eval:=(by apply zag;simp);rw[d];simp[execOp,p,resolve,Deferred.ofValue,invoke,Act.eval,Ey j]
end
def Cs (P:Program) (f:FuncId) (sig:bP) (M:List Dv->Option (Nat×Nat)):Prop:=
 ∀ds lo len,M ds=some (lo,len)->∀(w:World) (vals:List Value) (aT:List PA),xG w sig ds vals aT->Calls P f vals.toArray w fun e w'=>
  ∃(m:Mode) (sz cap:Nat) (a:Option Addr) (xs:List (List PC)) (v:Value),dS sig (aT.map (·.ps))=[(m,.list sz a cap xs)]/\e=.returned v/\xs≠[]/\
   (∃(b o:Nat) (a':Option Addr),a=some (ad b o)/\v=.slice a' len (cap - lo)/\lo+len<=cap/\((lo<cap\/lo=0)->a'=some (ad b (o+lo*sz))))/\
   Fr w.heap.size (xU [(m,.list sz a cap xs)]) w w'/\∃q:PC,q.er=(PC.list sz a cap xs).er/\qx w' m (.list sz a cap xs) q
def zO (P:Program) (f:FuncId) (i:Nat) (M:List Dv->Option (List Dv×List C)):Prop:=
 ∀(lo len:Nat) (ds rs:List Dv) (dN:List C) (ys:List (List C)),M (dI lo::dI (lo+len)::ds)=some (rs,dN)->ds[i]? =some (.one,[.list 1 ys])->∀(w:World) (vals:List Value) (aT:List PA),xG w (ld i) ds vals aT->
  ∀(b o cap n:Nat) (a':Option Addr),vals[i]? =some (.slice (some (ad b o)) n cap)->0<n->lo+len<=n->((lo<cap\/lo=0)->a'=some (ad b (o+lo*1)))->
  Calls P f (vals.set i (.slice a' len (cap - lo))).toArray w (Jt w (ld i) aT rs dN)
def xI (P:Program) (T:aQ):Prop:=(∀f sig M,aQ.tr T.ws f=some (sig,M)->Cs P f sig M)/\∀f i M,aQ.tt T.xs f=some (i,M)->zO P f i M
section
variable {B:Nat} {E:Ex} {w0 w w':World} {G G':Gh} {N:Nat} {h h':Nat->Option ar} {used used':Nat->Bool} {tk:List PC}
variable {P:Program} {o:Oper} {a:Act} {σ σ':St} {Q:Exit->Act->World->Prop}
theorem aij (r:R B E w0 N σ a w G) {T:aQ} (hT:xI P T) {f:FuncId} {as:List ao} {vals:List Value} {v0:ao} (hN:∀n,o.dst=some n->n<N)
  (bX:(execOp a.eval o).run P w=.ok (.enter f vals.toArray) w) (hl:vals.length=as.length)
  (pR:∀(j:Nat) (x:ao) (v:Value),as[j]? =some x->vals[j]? =some v->RA w G σ.h x v)
  (hx:qF T f as σ.h=some v0):o.wp P a w (Nx B E w0 N (σ.put o.dst v0)) Q:=by
 have H:=r.hr;unfold qF at hx;split at hx
 ·rename_i sig M eI hM Qs;split at hx
  ·rename_i n0 atf;split at hx
   ·rename_i ds n C hv;split at hx
    ·rename_i F;subst F;split at hx
     ·rename_i gr I sz xs lo len l uP;injection hx with hx;subst hx;obtain⟨AF,Qh⟩:=Sw Qs hl pR;obtain⟨W,q1,q2,q3,q4,q5,q6,q7⟩:=H.mQ hv AF Qh;have uY:([((dG.row n:dG),C)].filterMap (·.1.eS)).Nodup:=by simp[dG.eS]
      generalize uR:dS sig (W.map (·.ps))=fl at q5;obtain⟨x,rfl⟩:∃x,fl=[x]:=by
       match fl,q5.len with
       |[x],_=>exact⟨x,rfl⟩
      obtain⟨KH,Y⟩:=q5.at_ 0 _ x rfl rfl;have dj:=Y.at_;obtain⟨br,lM,aL,av,O,e2,e3,L,e5⟩:=dj;rw[l] at O;injection O with O;injection O with a1 a2 a3 a4;subst a1 a2 a3 a4;have V:σ.h n≠none:=by rw[l];simp
      have hr:=H.row n gr I sz xs l;have U:∀b,ba b x.2->uL G n b/\((∀b,¬bc b (G.g n).px)\/I=.live):=by
       intro b c;obtain⟨Z,br,m',aL,av,X,z,f3,D,u⟩:=Y.n4 H c;have:Z=n:=by injection X with X;exact X.symm
       subst this;rw[l] at z;injection z with z;injection z with _ z _ _;subst z;exact⟨D,u⟩
      have Sy:xG w sig ds vals W:=by
       refine⟨q2,q1,q3,fun y hy=>?_,?_,fun pc cg y hy b c aO=>?_,fun p hp d=>absurd d (q4 p hp),fun i p s hp _ d=>absurd d (q4 p (wt hp))⟩
       ·rw[uR,zas] at hy;subst hy;exact Y.ok
       ·rw[uR];simp
       ·rw[uR,zas] at hy;subst hy;obtain⟨D,u⟩:=U b aO;rcases q7 pc cg b c with hi|⟨Z,br,m',aL,av,cv,nX,v8⟩
        ·rcases D with⟨t,rfl⟩|A
         ·exact(H.own n V t).1 hi
         ·rcases u with u|rfl
          ·exact u b A
          ·exact(hr.mode.1 b A).1 hi
        ·have aJ:Z≠n:=fun e=>cv (by rw[e];simp);exact H.Gj aJ nX l u v8 D
      unfold Oper.wp;rw[bX];refine(hT.1 f sig M hM ds lo len uP w vals W Sy).mono fun e w' ⟨m1,ql,qC,Cw,sW,v,p1,p2,p3,⟨lb,lo1,la,l1,l2,l3,l4⟩,p4,q,p5,J⟩=>?_;subst p2;rw[uR] at p1;injection p1 with p1 _;subst p1;dsimp only at L;have rZ:∀b,xU [(m1,PC.list ql Cw qC sW)] b->(B<=b\/E b):=by
       rintro b ⟨y,hy,c⟩;rw[zas] at hy;subst hy;rcases(U b c).1 with⟨t,rfl⟩|A
       ·exact(H.own n V t).2.1
       ·have jg:=hr.mode;cases I with
        |aM=>exact absurd rfl e2
        |aN=>exact(jg.1 b A).2.2
        |live=>exact(jg.1 b A).2.2
      have YQ:(uO G [((dG.row n:dG),C)] [q]).g n=yU (G.g n) (.row n) q:=Yp uY (i:=0) (it:=(.row n,C)) rfl rfl rfl;have hqe:q.er=.list sz xs:=by rw[p5,L];exact ac8 hr
      have p6':=J;rw[L] at J;obtain⟨sY,K,_⟩:=H.HX (G':=uO G [((dG.row n:dG),C)] [q]) (h':=σ.h) (w':=w') (S:=fun k=>k=n) p4.size (fun b c cN=>p4.block b c (by
        rintro⟨y,hy,n6⟩;rw[zas] at hy;subst hy;exact cN n rfl (U b n6).1)) (fun b c=>p4.kD b c) rfl (fun k d=>by
        subst d;exact⟨gr,I,sz,xs,xs,l,l,by rw[YQ];exact VR H l e2 e3 e5.1 e5.2 J hqe⟩)
       (fun k d=>⟨rfl,Yq (by simp[dG.eS];exact d)⟩)
      have Dq:Fr B E w0 w':=by
       refine⟨p4.os.trans r.fr.os,p4.tape.trans r.fr.tape,p4.output.trans r.fr.output,zat r.fr.size p4.size,fun b c F=>?_,fun b c=>?_⟩
       ·refine(p4.block b (zak c r.fr.size) fun hx=>?_).trans (r.fr.block b c F);rcases rZ b hx with h1|h1
        ·omega
        ·exact F h1
       ·exact(r.fr.kD b c).trans (p4.kD b (zak c r.fr.size))
      have r2:R B E w0 N σ a w' (uO G [((dG.row n:dG),C)] [q]):=r.step rfl (fun _ h=>h) K sY Dq;refine⟨_,r2.put (RA.gh ?_ ?_) (fun k d=>?_) hN⟩
      ·rw[l2];rfl
      ·show σ.h n≠none->jb _ sz lo len v;intro _;have hq:PC.list ql Cw qC sW=pw sz (G.g n):=L;unfold pw at hq;injection hq with g1 m g3 g4;subst g1 g3 g4;have t:(G.g n).nl=false:=by
        cases h0:(G.g n).nl with
        |false=>rfl
        |true=>exact absurd (hr.nl h0).1 p3
       rw[t] at m;have m:Cw=some (ad (G.g n).b (G.g n).o):=m;rw[l1] at m;injection m with m;obtain⟨rfl,rfl⟩:=lV m;obtain⟨mS,ad2,uz,px2,rfl⟩:=PC.Sl J.val rfl;rw[YQ];exact .inr ⟨t,la,l2,l3,l4⟩
      ·have bW:k=n:=d;subst bW;exact r.hr.jp k V
     ·cases hx
    ·cases hx
   ·cases hx
  ·cases hx
 ·cases hx
theorem aia (r:R B E w0 N σ a w G) {T:aQ} (i:xI P T) {f:FuncId} {xs:Array Operand} {ms:List MO} {ts:Array TypeId} {b:ao} (j:∀n,o.dst=some n->n<N) (k:o.op=.call {callee:=.value (.func f),args:=xs,argTypes:=ts}) (d:bL P f=true) (hm:iN xs.toList ms=true) (hx:qF T f (ms.map σ.ev) σ.h=some b):o.wp P a w (Nx B E w0 N (σ.put o.dst b)) Q:=by obtain⟨g,c⟩:=r.An hm;refine aij r i (vals:=xs.toList.map a.eval) j ?_ (by simpa using g) c hx;have e:(xs.toList.map a.eval).toArray=xs.map a.eval:=(by apply zag;simp);rw[e];simp[execOp,k,resolve,Deferred.ofValue,invoke,Act.eval,Ey d]
theorem as2 {h:Nat->Option ar} {x:ao} {n lo len N:Nat} (hx:Fc h x=some (n,lo,len,N)):x=.one (.sl n 1 lo len)/\∃a m xs,h n=some (.row a m 1 xs)/\N=xs.length/\lo<N/\lo+len<=N:=by unfold Fc at hx;split at hx;rename_i n' s Lt HS;split at hx;rename_i a m rs xs hn;split at hx;rename_i d;obtain⟨rfl,rfl,f,g⟩:=d;injection hx with hx;injection hx with e c;injection c with c b;injection b with b e4;subst e c b e4;exact⟨rfl,a,m,xs,hn,rfl,f,g⟩;cases hx;cases hx;cases hx
theorem aik (r:R B E w0 N σ a w G) {T:aQ} (U:xI P T) {m:Mode} {f:FuncId} {as:List ao} {vals:List Value} {σ1:St} (J:∀n,o.dst=some n->n<N) (D:(execOp a.eval o).run P w=.ok (.enter f vals.toArray) w) (hl:vals.length=as.length) (A:∀(j:Nat) (x:ao) (v:Value),as[j]? =some x->vals[j]? =some v->RA w G σ.h x v) (hx:v5 T m o.dst f as σ=some σ1):o.wp P a w (Nx B E w0 N σ1) Q:=by have H:=r.hr;unfold v5 at hx;split at hx;rename_i i M Z;split at hx;rename_i x u;split at hx;rename_i n lo len L K;obtain⟨rfl,F,md,xs,hn,rfl,lA,gG⟩:=as2 K;have V:i<as.length:=(By.1 u).1;have k:i<vals.length:=(by omega);have S:vals[i]? =some vals[i]:=AT k;have q:=A i _ _ u S;have I:jb (G.g n) 1 lo len vals[i]:=(q.gj (by simp)).1 (by rw[hn];simp);have hr:=H.row n F md 1 xs hn;have z:(G.g n).px.length=xs.length:=(by rw[hr.er];simp);have s:(G.g n).nl=false:=(by cases l:(G.g n).nl with|false=>rfl|true=>have:=(hr.nl l).1;rw[this] at z;simp at z;omega);obtain⟨l1,l2,l3⟩:=hr.eG s;rcases I with⟨l,_⟩|⟨_,ya,p,jM,X⟩;rw[s] at l;cases l;refine WG r (as:=as.set i (.one (.sl n 1 0 xs.length))) (vals:=vals.set i (.slice (some (ad (G.g n).b (G.g n).o)) xs.length (G.g n).cap)) (vals':=vals) (fun sig C t ds rs O h aT hm=>?_) J D (by simp[hl]) (fun j x v c d=>?_) hx;have De:(ld i,xM i lo (lo+len) M)=(sig,C):=(by simp only[aQ.pQ,if_true] at t;injection t);injection De with Y q2;subst Y q2;unfold xM at h;split at h;rename_i ys W;have:=U.2 f i M Z lo len ds rs O ys h W w _ aT hm (G.g n).b (G.g n).o (G.g n).cap xs.length ya (by rw[zab k]) (by omega) gG X;have e:(vals.set i (.slice (some (ad (G.g n).b (G.g n).o)) xs.length (G.g n).cap)).set i (.slice ya len ((G.g n).cap - lo))=vals:=(by rw[List.set_set,<-p];exact List.set_getElem_self k);rw[e] at this;exact this;cases h;by_cases y:j=i;subst y;rw[zab V] at c;rw[zab k] at d;injection c with c;injection d with d;subst c d;refine RA.gh rfl (fun _=>.inr ⟨s,_,rfl,by omega,fun _=>by simp⟩);rw[zap (fun h=>y h.symm)] at c d;exact A j x v c d;cases hx;cases hx;cases hx
theorem aib (r:R B E w0 N σ a w G) {T:aQ} (g:xI P T) {m:Mode} {f:FuncId} {xs:Array Operand} {ms:List MO} {ts:Array TypeId} {σ1:St} (h:∀n,o.dst=some n->n<N) (i:o.op=.call {callee:=.value (.func f),args:=xs,argTypes:=ts}) (c:bL P f=true) (hm:iN xs.toList ms=true) (hx:v5 T m o.dst f (ms.map σ.ev) σ=some σ1):o.wp P a w (Nx B E w0 N σ1) Q:=by obtain⟨e,b⟩:=r.An hm;refine aik r g (vals:=xs.toList.map a.eval) h ?_ (by simpa using e) b hx;have d:(xs.toList.map a.eval).toArray=xs.map a.eval:=(by apply zag;simp);rw[d];simp[execOp,i,resolve,Deferred.ofValue,invoke,Act.eval,Ey c]
end
def CL:Option Operand->Option MO->Bool
 |none,none=>true
 |some x,some m=>bU x m
 |_,_=>false
def tg (P:Program) (t:TypeId) (sz:Nat) (k:TypeInfo->Value->Bool):Bool:=
 match P.underlying t with
 |some (.slice e)=>match P.info? e with
  |some i=>match i.zero with
   |some z=>i.size==sz&&decide (0<sz)&&k i z
   |none=>false
  |none=>false
 |_=>false
theorem uB {P:Program} {t:TypeId} {sz:Nat} {k:TypeInfo->Value->Bool} (h:tg P t sz k=true): ∃e i z,P.underlying t=some (.slice e)/\P.info? e=some i/\i.zero=some z/\i.size=sz/\0<sz/\k i z=true:=by unfold tg at h;split at h;rename_i e b;split at h;rename_i i a;split at h;rename_i z c;simp only[co,beq_iff_eq,decide_eq_true_eq] at h;exact⟨e,i,z,b,a,c,h.1.1,h.1.2,h.2⟩;cases h;cases h;cases h
def JU (P:Program) (t:TypeId) (zs:List ah):Bool:=
 match P.info? t with
 |some i=>match i.zero with
  |some z=>uA z.cells.toList zs
  |none=>false
 |none=>false
theorem VU {P:Program} {t:TypeId} {a:List ah} (h:JU P t a=true):∃i z,P.info? t=some i/\i.zero=some z/\uA z.cells.toList a=true:=by unfold JU at h;split at h;rename_i i b;split at h;rename_i z c;exact⟨i,z,b,c,h⟩;cases h;cases h
def VS (P:Program) (t:TypeId) (parts:List (Nat×Operand)) (zs:List ah) (ms:List (Nat×Nat×MO)):Bool:=
 match P.underlying t with
 |some (.struct xW)=>match xW.toList.mapM (fun f=>(P.info? f.type).map fun i=>(f.offset,i.size)) with
  |some places=>JU P t zs&&zZ places parts ms
  |none=>false
 |_=>false
def O6 (P:Program) (t:TypeId) (len:Nat):Bool:=
 match P.underlying t with
 |some (.array l e)=>match P.info? e with
  |some i=>i.size==1&&l==len
  |none=>false
 |_=>false
theorem aha {P:Program} {t:TypeId} {len:Nat} (h:O6 P t len=true):∃e i,P.underlying t=some (.array len e)/\P.info? e=some i/\i.size=1:=by unfold O6 at h;split at h;rename_i l e b;split at h;rename_i i a;simp only[co,beq_iff_eq] at h;exact⟨e,i,by rw[b,h.2],a,h.1⟩;cases h;cases h
def JT (P:Program) (t:TypeId) (sz:Nat):Bool:=
 match P.info? t with
 |some i=>i.size==sz&&decide (0<sz)
 |none=>false
def ZM (P:Program) (t:TypeId):Bool:=
 match P.underlying t with
 |some .bool=>true
 |_=>false
def fH (P:Program) (o:Oper) (mo:aV):Bool:=
 match mo,o.op with
 |.mv m,.move x=>bU x m
 |.mv m,.assign x=>bU x m
 |.pick c x y,.pick c' x' y'=>bU c' c&&bU x' x&&bU y' y
 |.alloc zs,.alloc e=>JU P e zs
 |.box sz m,.box e x=>bU x m
 |.build zs ms,.build t parts=>VS P t parts.toList zs ms
 |.fG sz ms,.buildSlice t len parts=>tg P t sz (fun _ _=>true)&&(ms.length==len)&&decide (parts.toList.map (·.1)=zaX len)&&decide (len*sz<=16777216)&&iN (parts.toList.map (·.2)) ms
 |.vQ sz ms,.buildSlice t len parts=>tg P t sz (fun _ _=>true)&&(ms.length==len)&&decide (parts.toList.map (·.1)=zaX len)&&decide (len*sz<=16777216)&&iN (parts.toList.map (·.2)) ms
 |.load ag sz m,.load t x=>bU x m&&CK P t ag sz
 |.store sz mx my,.store t x y=>o.dst.isNone&&bU x mx&&bU y my&&JT P t sz
 |.bin op mx my,.binOp yV t x y t'=>decide (op=yV)&&bU x mx&&bU y my
 |.nO op mx my,.binOp yV t x y t'=>decide (op=yV)&&bU x mx&&bU y my&&ZM P t
 |.un op mx,.unOp yV t x=>decide (op=yV)&&bU x mx
 |.kx m sz by_ zs ml mc,.makeSlice t l c=>bU l ml&&bU c mc&&tg P t sz (fun i z=>(i.bytes==by_)&&decide (0<by_)&&vU z.cells.toList zs)
 |.slice sz mx LC Lz,.slice t x lo hi none=>bU x mx&&CL lo LC&&CL hi Lz&&tg P t sz (fun _ _=>true)
 |.nZ off mx,.fieldAddr s x f=>bU x mx&&FH P s f off
 |.nz sz mx mi,.indexAddr t x i=>bU x mx&&bU i mi&&tg P t sz (fun _ _=>true)
 |.lH len mx mi,.indexAddr t x i=>bU x mx&&bU i mi&&O6 P t len
 |.ext i mx,.extract x j=>(i==j)&&bU x mx
 |.len mx,.call c=>match c.callee,c.args.toList,c.argTypes.toList with
  |.builtin .len,[x],[t]=>bU x mx&&(match P.underlying t with|some (.slice _)=>true|_=>false)
  |_,_,_=>false
 |.append fl sz by_ mx my,.call c=>match c.callee,c.args.toList,c.argTypes.toList with
  |.builtin .append,[x,y],[t,t']=>(t==t')&&bU x mx&&bU y my&&tg P t sz (fun i z=>(i.bytes==by_)&&decide (0<by_)&&(z.cells.size==sz))
  |_,_,_=>false
 |.copy sz mx my,.call c=>match c.callee,c.args.toList,c.argTypes.toList with
  |.builtin .copy,[x,y],[t,t']=>(sz==1)&&bU x mx&&bU y my&&tg P t 1 (fun _ _=>true)
  |_,_,_=>false
 |.mG zc mx,.call c=>match c.callee,c.args.toList,c.argTypes.toList with
  |.builtin .clear,[x],[t]=>bU x mx&&tg P t 1 (fun _ z=>vU z.cells.toList [zc])
  |_,_,_=>false
 |.mm b mx my,.call c=>match c.callee,c.args.toList with
  |.builtin .max,[x,y]=>b&&bU x mx&&bU y my
  |.builtin .min,[x,y]=> !b&&bU x mx&&bU y my
  |_,_=>false
 |.call m f ms,.call c=>match c.callee with
  |.value (.func g)=>(f==g)&&bL P f&&iN c.args.toList ms
  |_=>false
 |.nP f ms,.call c=>match c.callee with
  |.value (.func g)=>(f==g)&&bL P f&&iN c.args.toList ms
  |_=>false
 |.jo m f ms,.call c=>match c.callee with
  |.value (.func g)=>(f==g)&&bL P f&&iN c.args.toList ms
  |_=>false
 |.kj f ms,.call c=>match c.callee with
  |.value (.func g)=>(f==g)&&bL P f&&iN c.args.toList ms
  |_=>false
 |.m9 f ms,.call c=>match c.callee with
  |.value (.func g)=>(f==g)&&bL P f&&iN c.args.toList ms
  |_=>false
 |.nQ f ms,.call c=>match c.callee with
  |.value (.func g)=>(f==g)&&bL P f&&iN c.args.toList ms
  |_=>false
 |.nc m f ms,.call c=>match c.callee with
  |.value (.func g)=>(f==g)&&bL P f&&iN c.args.toList ms
  |_=>false
 |_,_=>false
theorem O8:∀{xs:List Operand} {ms:List MO},iN xs ms=true->xs.length=ms.length/\∀(j:Nat) (x:Operand) (m:MO),xs[j]? =some x->ms[j]? =some m->bU x m=true
 |[],[],_=>⟨rfl,by simp⟩
 |x::xs,m::ms,hc=>by simp only[iN,co] at hc;obtain⟨d,b⟩:=O8 hc.2;refine⟨by simp[d],fun j x' c a hm=>?_⟩;cases j with|zero=>simp at a hm;subst a;subst hm;exact hc.1|succ j=>exact b j x' c (by simpa using a) (by simpa using hm)
 |[],_::_,hc=>by simp[iN] at hc
 |_::_,[],hc=>by simp[iN] at hc
section
variable {B:Nat} {E:Ex} {w0 w w':World} {G G':Gh} {h h':Nat->Option ar} {used used':Nat->Bool} {tk:List PC} {N:Nat}
variable {P:Program} {o:Oper} {a:Act} {σ σ':St} {Q:Exit->Act->World->Prop}
theorem aiu (r:R B E w0 N σ a w G) {T:aQ} (k:Cq P T) {f:FuncId} {ms:List MO} (h:∀n,o.dst=some n->n<N) (b:fH P o (.nQ f ms)=true) (hx:exec T o.dst (.nQ f ms) σ=some σ'):o.wp P a w (Nx B E w0 N σ') Q:=by obtain⟨dst,op,ty,pos,after,guard⟩:=o;(cases op<;>simp only[fH] at b<;>first|cases b|skip);rename_i c;obtain⟨callee,args,argTypes⟩:=c;split at b;rename_i g d;simp only at d;subst d;simp only[co,beq_iff_eq] at b;obtain⟨⟨rfl,i⟩,j⟩:=b;simp only[exec] at hx;split at hx;rename_i v0 e;injection hx with hx;subst hx;exact WE r k h rfl i j (ahJ e σ);cases hx;cases b
theorem aiv (r:R B E w0 N σ a w G) {T:aQ} (j:xI P T) {f:FuncId} {ms:List MO} (h:∀n,o.dst=some n->n<N) (b:fH P o (.m9 f ms)=true) (hx:exec T o.dst (.m9 f ms) σ=some σ'):o.wp P a w (Nx B E w0 N σ') Q:=by obtain⟨dst,op,ty,pos,after,guard⟩:=o;(cases op<;>simp only[fH] at b<;>first|cases b|skip);rename_i c;obtain⟨callee,args,argTypes⟩:=c;split at b;rename_i g d;simp only at d;subst d;simp only[co,beq_iff_eq] at b;obtain⟨⟨rfl,i⟩,k⟩:=b;simp only[exec] at hx;split at hx;rename_i v0 e;injection hx with hx;subst hx;exact aia r j h rfl i k e;cases hx;cases b
theorem aiw (r:R B E w0 N σ a w G) {T:aQ} (i:xI P T) {m:Mode} {f:FuncId} {ms:List MO} (e:∀n,o.dst=some n->n<N) (b:fH P o (.nc m f ms)=true) (hx:exec T o.dst (.nc m f ms) σ=some σ'):o.wp P a w (Nx B E w0 N σ') Q:=by obtain⟨dst,op,ty,pos,after,guard⟩:=o;(cases op<;>simp only[fH] at b<;>first|cases b|skip);rename_i c;obtain⟨callee,args,argTypes⟩:=c;split at b;rename_i g d;simp only at d;subst d;simp only[co,beq_iff_eq] at b;obtain⟨⟨rfl,h⟩,j⟩:=b;simp only[exec] at hx;exact aib r i e rfl h j hx;cases b
theorem ait (r:R B E w0 N σ a w G) {T:aQ} (j:Cq P T) {f:FuncId} {ms:List MO} (e:∀n,o.dst=some n->n<N) (b:fH P o (.kj f ms)=true) (hx:exec T o.dst (.kj f ms) σ=some σ'):o.wp P a w (Nx B E w0 N σ') Q:=by obtain⟨dst,op,ty,pos,after,guard⟩:=o;(cases op<;>simp only[fH] at b<;>first|cases b|skip);rename_i c;obtain⟨callee,args,argTypes⟩:=c;split at b;rename_i g d;simp only at d;subst d;simp only[co,beq_iff_eq] at b;obtain⟨⟨rfl,h⟩,i⟩:=b;simp only[exec] at hx;exact WE r j e rfl h i hx;cases b
set_option maxHeartbeats 1000000 in
theorem WL (r:R B E w0 N σ a w G) {T:aQ} (hT:Cp P T) (hTM:Jx P T) (Df:Cq P T) (Dg:xI P T) (hF:∀f M,aQ.find T.pure f=some M->bL P f=true) {mo:aV} (F:∀n,o.dst=some n->n<N) (d:fH P o mo=true) (hx:exec T o.dst mo σ=some σ'):
  o.wp P a w (Nx B E w0 N σ') Q:=by
 obtain⟨dst,op,ty,pos,X,guard⟩:=o;cases mo with
 |mv m=>
  simp only[exec] at hx;injection hx with hx;subst hx;cases op<;>simp only[fH] at d<;>first|cases d|skip
  ·exact WJ r (.inl rfl) F d
  ·exact WJ r (.inr rfl) F d
 |pick c x y=>
  cases op<;>simp only[fH] at d<;>first|cases d|skip
  rename_i c' x' y';simp only[co] at d;simp only[exec] at hx;split at hx
  ·rename_i b hb;have:=aix (P:=P) (Q:=Q) r (o:=⟨dst,.pick c' x' y',ty,pos,X,guard⟩) rfl F d.1.1 d.1.2 d.2 hb;cases b<;>simp at hx<;>subst hx<;>exact this
  ·cases hx
 |alloc zs=>
  cases op<;>simp only[fH] at d<;>first|cases d|skip
  obtain⟨i,z,I,K,W⟩:=VU d;simp only[exec] at hx;split at hx
  ·rename_i n;split at hx
   ·rename_i σ1 L;injection hx with hx;subst hx;exact ahZ r rfl rfl (F n rfl) I K W L
   ·cases hx
  ·cases hx
 |box sz m=>
  cases op<;>simp only[fH] at d<;>first|cases d|skip
  simp only[exec] at hx;split at hx
  ·rename_i n ag cs gQ;split at hx
   ·split at hx
    ·rename_i σ1 L;injection hx with hx;subst hx;exact ah4 r rfl rfl (F _ rfl) d gQ L
    ·cases hx
   ·cases hx
  ·cases hx
 |build zs ms=>
  cases op<;>simp only[fH] at d<;>first|cases d|skip
  simp only[exec] at hx;split at hx
  ·rename_i cs gQ;injection hx with hx;subst hx;unfold VS at d;split at d
   ·rename_i xW hu;split at d
    ·rename_i places iq;simp only[co] at d;obtain⟨i,z,I,K,W⟩:=VU d.1;exact ah5 r rfl F I K hu iq W d.2 gQ
    ·cases d
   ·cases d
  ·cases hx
 |fG sz ms=>
  cases op<;>simp only[fH] at d<;>first|cases d|skip
  simp only[co,beq_iff_eq,decide_eq_true_eq] at d;obtain⟨⟨⟨⟨v,D⟩,H⟩,c4⟩,c5⟩:=d;obtain⟨e,i,z,I,K,W,O,h5,_⟩:=uB v;simp only[exec] at hx;split at hx
  ·rename_i n es ow σ1 qV;split at hx
   ·rename_i σ2 L;injection hx with hx;subst hx;refine WD r rfl rfl (F _ rfl) I K W O h5 D H c4 (fun j p m C hm=>?_) qV L;exact(O8 c5).2 j p.2 m (by simp[C]) hm
   ·cases hx
  ·cases hx
 |vQ sz ms=>
  cases op<;>simp only[fH] at d<;>first|cases d|skip
  simp only[co,beq_iff_eq,decide_eq_true_eq] at d;obtain⟨⟨⟨⟨v,D⟩,H⟩,c4⟩,c5⟩:=d;obtain⟨e,i,z,I,K,W,O,h5,_⟩:=uB v;simp only[exec] at hx;split at hx
  ·rename_i n es qV;split at hx
   ·rename_i σ2 L;injection hx with hx;subst hx;refine WD r rfl rfl (F _ rfl) I K W O h5 D H c4 (fun j p m C hm=>?_) (acB _ qV) L;exact(O8 c5).2 j p.2 m (by simp[C]) hm
   ·cases hx
  ·cases hx
 |load ag sz m=>
  cases op<;>simp only[fH] at d<;>first|cases d|skip
  simp only[co] at d;simp only[exec] at hx;split at hx
  ·rename_i p C;split at hx
   ·rename_i cs gQ;injection hx with hx;subst hx;exact aip r rfl F d.1 d.2 C gQ
   ·cases hx
  ·cases hx
 |store sz mx my=>
  cases op<;>simp only[fH] at d<;>first|cases d|skip
  simp only[co] at d;obtain⟨⟨⟨c0,v⟩,D⟩,H⟩:=d;have hd:dst=none:=by simpa using c0
  unfold JT at H;split at H
  ·rename_i i L;simp only[co,beq_iff_eq,decide_eq_true_eq] at H;simp only[exec] at hx;split at hx
   ·rename_i n k aD off ag vs C hv;split at hx
    ·rename_i hl;split at hx
     ·rename_i cs hn;split at hx
      ·rename_i hk;injection hx with hx;subst hx;exact aiy r rfl hd v D L H.1 H.2 C hv hl hn hk.1 hk.2
      ·cases hx
     ·rename_i gr m rs xs hn;split at hx
      ·rename_i oY;subst oY;split at hx
       ·rename_i el jq;exact aiA r rfl hd v D L H.1 H.2 C hv hl hn jq hx
       ·cases hx
      ·cases hx
     ·cases hx
    ·cases hx
   ·rename_i n k aD off s i ag vs C hv;split at hx
    ·rename_i hl;split at hx
     ·rename_i gr rs xs hn;split at hx
      ·rename_i oY;subst oY;split at hx
       ·rename_i av jr;injection hx with hx;subst hx;exact aiz r rfl hd v D L H.1 H.2 C hv hl hn rfl jr
       ·cases hx
      ·cases hx
     ·cases hx
    ·cases hx
   ·cases hx
  ·cases H
 |bin yV mx my=>
  cases op<;>simp only[fH] at d<;>first|cases d|skip
  simp only[co,decide_eq_true_eq] at d;obtain⟨⟨rfl,v⟩,D⟩:=d;simp only[exec] at hx;split at hx
  ·rename_i c hb;injection hx with hx;subst hx;exact ah2 r rfl F v D hb
  ·cases hx
 |nO yV mx my=>
  cases op<;>simp only[fH] at d<;>first|cases d|skip
  simp only[co,decide_eq_true_eq] at d;obtain⟨⟨⟨rfl,v⟩,D⟩,H⟩:=d;unfold ZM at H;split at H
  ·rename_i ht;simp only[exec] at hx;split at hx
   ·rename_i c hb;injection hx with hx;subst hx;exact ah3 r rfl F v D ht hb
   ·cases hx
  ·cases H
 |un yV mx=>
  cases op<;>simp only[fH] at d<;>first|cases d|skip
  simp only[co,decide_eq_true_eq] at d;obtain⟨rfl,v⟩:=d;simp only[exec] at hx;split at hx
  ·rename_i c hb;injection hx with hx;subst hx;exact aiB r rfl F v hb
  ·cases hx
 |kx m sz by_ zs ml mc=>
  cases op<;>simp only[fH] at d<;>first|cases d|skip
  simp only[co] at d;obtain⟨⟨v,D⟩,H⟩:=d;obtain⟨e,i,z,I,K,W,O,h5,h6⟩:=uB H;simp only[co,beq_iff_eq,decide_eq_true_eq] at h6;simp only[exec] at hx;split at hx
  ·rename_i n q q' hq fB;split at hx
   ·rename_i S;obtain⟨V,Y,Z,k4⟩:=S;split at hx
    ·rename_i σ1 L;injection hx with hx;subst hx;exact aiq r rfl rfl (F _ rfl) v D I K W O h6.1.1 h6.1.2 h5 h6.2 hq fB V Y Z k4 L
    ·cases hx
   ·cases hx
  ·cases hx
 |slice sz mx LC Lz=>
  cases op<;>simp only[fH] at d<;>first|cases d|skip
  rename_i t x lo L mm;cases mm<;>simp only[fH] at d<;>first|cases d|skip
  simp only[co] at d;obtain⟨⟨⟨v,D⟩,H⟩,c4⟩:=d;obtain⟨e,i,z,I,K,W,O,h5,_⟩:=uB c4;have lA:∀l,(match LC with|none=>some 0|some l=>(σ.ev l).d6)=some l->(lo=none/\l=0)\/∃y my,lo=some y/\bU y my=true/\(σ.ev my).d6=some l:=by
   intro l hl;cases LC with
   |none=>cases lo<;>simp[CL] at D;simp at hl;exact .inl ⟨rfl,hl.symm⟩
   |some my=>cases lo<;>simp[CL] at D;exact .inr ⟨_,my,rfl,D,hl⟩
  have wv:∀(len:Nat) hh,(match Lz with|none=>some (len:Int)|some h=>(σ.ev h).d6)=some hh->(L=none/\hh=len)\/∃y my,L=some y/\bU y my=true/\(σ.ev my).d6=some hh:=by
   intro len l hl;cases Lz with
   |none=>cases L<;>simp[CL] at H;simp at hl;exact .inl ⟨rfl,hl.symm⟩
   |some my=>cases L<;>simp[CL] at H;exact .inr ⟨_,my,rfl,H,hl⟩
  simp only[exec] at hx;split at hx
  ·rename_i n s l0 len l C hl;split at hx
   ·rename_i hh QB;split at hx
    ·rename_i S;obtain⟨rfl,V,Y,Z,k4⟩:=S;injection hx with hx;subst hx;exact WM r rfl F v I K O h5 (lA l hl) (wv len hh QB) V Y Z (.inl ⟨n,l0,C,k4,rfl⟩)
    ·cases hx
   ·cases hx
  ·rename_i s xs l C hl;split at hx
   ·rename_i hh QB;split at hx
    ·rename_i S;obtain⟨rfl,V,Y,Z⟩:=S;injection hx with hx;subst hx;exact WM r rfl F v I K O h5 (lA l hl) (wv xs.length hh QB) V Y Z (.inr ⟨xs,C,rfl,rfl⟩)
    ·cases hx
   ·cases hx
  ·cases hx
 |nZ off mx=>
  cases op<;>simp only[fH] at d<;>first|cases d|skip
  simp only[co] at d;simp only[exec] at hx;split at hx
  ·rename_i n k sz q C;split at hx
   ·rename_i hn;injection hx with hx;subst hx;exact PJ r rfl F d.1 d.2 (.inl ⟨_,_,_,_,C,hn,rfl⟩)
   ·cases hx
  ·rename_i xs q C;injection hx with hx;subst hx;exact PJ r rfl F d.1 d.2 (.inr (.inl ⟨_,_,C,rfl⟩))
  ·rename_i xs q j n s len C;injection hx with hx;subst hx;exact PJ r rfl F d.1 d.2 (.inr (.inr ⟨_,_,_,_,_,_,C,rfl⟩))
  ·cases hx
 |lH len mx mi=>
  cases op<;>simp only[fH] at d<;>first|cases d|skip
  simp only[co] at d;obtain⟨⟨v,D⟩,H⟩:=d;obtain⟨e,i,I,K,O⟩:=aha H;simp only[exec] at hx;split at hx
  ·rename_i n kk s off k C hk;split at hx
   ·rename_i S;obtain⟨V,Y,Z⟩:=S;injection hx with hx;subst hx;exact aim r rfl F v D I K O hk V Y C Z
   ·cases hx
  ·cases hx
 |nz sz mx mi=>
  cases op<;>simp only[fH] at d<;>first|cases d|skip
  simp only[co] at d;obtain⟨⟨v,D⟩,H⟩:=d;obtain⟨e,i,z,I,K,W,O,h5,_⟩:=uB H;simp only[exec] at hx;split at hx
  ·rename_i n s lo len k C hk;split at hx
   ·rename_i S;obtain⟨rfl,V,Y,Z⟩:=S;injection hx with hx;subst hx;exact WH r rfl F v D I K O hk V (.inl ⟨_,_,_,C,Y,Z,rfl⟩)
   ·cases hx
  ·rename_i s xs k C hk;split at hx
   ·rename_i S;obtain⟨rfl,V⟩:=S;split at hx
    ·rename_i el jq;injection hx with hx;subst hx;exact WH r rfl F v D I K O hk V (.inr ⟨_,_,C,jq,rfl⟩)
    ·cases hx
   ·cases hx
  ·rename_i n kk aD off s len k C hk;split at hx
   ·rename_i s' ys GX;split at hx
    ·rename_i S;obtain⟨rfl,V,Y⟩:=S;injection hx with hx;subst hx;exact ain r rfl F v D I K O hk V Y C GX
    ·cases hx
   ·cases hx
  ·cases hx
 |ext i mx=>
  cases op<;>simp only[fH] at d<;>first|cases d|skip
  simp only[co,beq_iff_eq] at d;obtain⟨rfl,v⟩:=d;simp only[exec] at hx;split at hx
  ·rename_i xs C;split at hx
   ·rename_i ag cs gQ;injection hx with hx;subst hx;refine ail r rfl F v C gQ fun cj=>?_;subst cj;obtain⟨y1,_⟩:=r.ev v;rw[C] at y1;obtain⟨vs,_,hl,hv⟩:=y1;have L:i<vs.length:=by rw[hl];exact(By.1 gQ).1
    have:dA w G σ.h cs [vs[i]]:=hv i (false,cs) vs[i] gQ (AT L);exact zaO.1 this.1.symm
   ·cases hx
  ·cases hx
 |len mx=>
  cases op<;>simp only[fH] at d<;>first|cases d|skip
  rename_i c;obtain⟨A,args,u⟩:=c;split at d
  ·rename_i x t J U ht;simp only at J U ht;subst J;have tz:args=#[x]:=by apply zag;exact U
   have wG:u=#[t]:=by apply zag;exact ht
   subst tz wG;simp only[co] at d;obtain⟨v,D⟩:=d;split at D
   ·rename_i e hu;simp only[exec] at hx;split at hx
    ·rename_i n sz lo len C;split at hx
     ·rename_i hn;injection hx with hx;subst hx;exact Kk r rfl F v hu (.inl ⟨_,_,_,C,hn⟩)
     ·cases hx
    ·rename_i sz xs C;injection hx with hx;subst hx;exact Kk r rfl F v hu (.inr (.inl ⟨_,_,C,rfl⟩))
    ·rename_i sz C;injection hx with hx;subst hx;exact Kk r rfl F v hu (.inr (.inr (.inl ⟨_,C,rfl⟩)))
    ·rename_i n k aD off sz len C;split at hx
     ·rename_i s ys nu;injection hx with hx;subst hx;exact Kk r rfl F v hu (.inr (.inr (.inr ⟨_,_,_,_,_,_,_,_,C,nu,rfl⟩)))
     ·cases hx
    ·cases hx
   ·cases D
  ·cases d
 |append fl sz by_ mx my=>
  cases op<;>simp only[fH] at d<;>first|cases d|skip
  rename_i c;obtain⟨A,args,u⟩:=c;split at d
  ·rename_i x y t t' J U ht;simp only at J U ht;subst J;have tz:args=#[x,y]:=by apply zag;exact U
   have wG:u=#[t,t']:=by apply zag;exact ht
   subst tz wG;simp only[co,beq_iff_eq] at d;obtain⟨⟨⟨rfl,v⟩,D⟩,H⟩:=d;obtain⟨e,i,z,I,K,W,O,h5,h6⟩:=uB H;simp only[co,beq_iff_eq,decide_eq_true_eq] at h6;simp only[exec] at hx;split at hx
   ·cases hx
   ·rename_i n;split at hx
    ·cases hx
    ·rename_i xs m σ1 hl;split at hx
     ·cases hx
     ·rename_i ys m2 σ2 hr;split at hx
      ·rename_i hb;split at hx
       ·rename_i gZ L;injection hx with hx;subst hx;exact ah1 r rfl rfl (F _ rfl) v D I K W O h5 h6.1.1 h6.1.2 h6.2 hl hr hb L
       ·cases hx
      ·cases hx
  ·cases d
 |copy sz mx my=>
  cases op<;>simp only[fH] at d<;>first|cases d|skip
  rename_i c;obtain⟨A,args,u⟩:=c;split at d
  ·rename_i x y t t' J U ht;simp only at J U ht;subst J;have tz:args=#[x,y]:=by apply zag;exact U
   have wG:u=#[t,t']:=by apply zag;exact ht
   subst tz wG;simp only[co,beq_iff_eq] at d;obtain⟨⟨⟨c0,v⟩,D⟩,H⟩:=d;obtain⟨e,i,z,I,K,W,O,h5,_⟩:=uB H;simp only[exec] at hx;split at hx
   ·rename_i n s lo len cc C hq;split at hx
    ·rename_i gr m rs xs s' ys hn hv;split at hx
     ·rename_i S;obtain⟨rfl,rfl,rfl,rfl,V,Y,Z,k4⟩:=S;injection hx with hx;subst hx;exact aid r rfl F v D I K O C hq hn hv V Y Z k4
     ·cases hx
    ·cases hx
   ·cases hx
  ·cases d
 |mG zc mx=>
  cases op<;>simp only[fH] at d<;>first|cases d|skip
  rename_i c;obtain⟨A,args,u⟩:=c;split at d
  ·rename_i x t J U ht;simp only at J U ht;subst J;have tz:args=#[x]:=by apply zag;exact U
   have wG:u=#[t]:=by apply zag;exact ht
   subst tz wG;simp only[co] at d;obtain⟨v,H⟩:=d;obtain⟨e,i,z,I,K,W,O,h5,h6⟩:=uB H;simp only[exec] at hx;split at hx
   ·rename_i n s lo len C;split at hx
    ·rename_i gr m rs xs hn;split at hx
     ·rename_i S;obtain⟨rfl,rfl,k0,V,Y,Z⟩:=S;injection hx with hx;subst hx;exact aic r rfl F v I K W h6 k0 C hn V Y Z
     ·cases hx
    ·cases hx
   ·cases hx
  ·cases d
 |mm b mx my=>
  cases op<;>simp only[fH] at d<;>first|cases d|skip
  rename_i c;obtain⟨A,args,u⟩:=c;have cU:∀x y,A=.builtin (if b=true then .max else .min)->args=#[x,y]->bU x mx=true->bU y my=true->
    Oper.wp P ⟨dst,.call ⟨A,args,u⟩,ty,pos,X,guard⟩ a w (Nx B E w0 N σ') Q:=by
   intro x y J U v D;subst J U;simp only[exec] at hx;split at hx
   ·rename_i k n k' m I K;have:=air (P:=P) (Q:=Q) (mx':=b) r (o:=⟨dst,.call ⟨.builtin (if b=true then .max else .min),#[x,y],u⟩,ty,pos,X,guard⟩) rfl F v D I K
    cases b
    ·simp at hx this;split at hx<;>(rename_i cm;injection hx with hx;subst hx;simpa[cm] using this)
    ·simp at hx this;split at hx<;>(rename_i cm;injection hx with hx;subst hx;simpa[cm] using this)
   ·cases hx
  split at d
  ·rename_i x y J U;simp only[co] at d;obtain⟨⟨rfl,v⟩,D⟩:=d;exact cU x y J (by apply zag;exact U) v D
  ·rename_i x y J U;simp only[co,Bool.not_eq_true'] at d;obtain⟨⟨rfl,v⟩,D⟩:=d;exact cU x y J (by apply zag;exact U) v D
  ·cases d
 |call m f ms=>
  cases op<;>simp only[fH] at d<;>first|cases d|skip
  rename_i c;obtain⟨A,args,u⟩:=c;split at d
  ·rename_i g J;simp only at J;subst J;simp only[co,beq_iff_eq] at d;obtain⟨⟨rfl,v⟩,D⟩:=d;exact ah6 r hT F rfl v D hx
  ·cases d
 |nP f ms=>
  cases op<;>simp only[fH] at d<;>first|cases d|skip
  rename_i c;obtain⟨A,args,u⟩:=c;split at d
  ·rename_i g J;simp only at J;subst J;simp only[co,beq_iff_eq] at d;obtain⟨⟨rfl,v⟩,D⟩:=d;simp only[exec] at hx;split at hx
   ·rename_i z hz;injection hx with hx;subst hx;exact ah8 r hT F rfl v D hz
   ·cases hx
  ·cases d
 |jo m f ms=>
  cases op<;>simp only[fH] at d<;>first|cases d|skip
  rename_i c;obtain⟨A,args,u⟩:=c;split at d
  ·rename_i g J;simp only at J;subst J;simp only[co,beq_iff_eq] at d;obtain⟨⟨rfl,v⟩,D⟩:=d;simp only[exec] at hx;exact ah9 r hTM F rfl v D hx
  ·cases d
 |kj f ms=>exact ait r Df F d hx
 |m9 f ms=>exact aiv r Dg F d hx
 |nQ f ms=>exact aiu r Df F d hx
 |nc m f ms=>exact aiw r Dg F d hx
end
def aV.eT:aV->Nat
 |.mv _|.pick ..|.build ..|.bin ..|.nO ..|.un ..|.ext ..|.mm ..=>0
 |.alloc _|.box ..|.vQ ..|.load ..|.kx ..|.slice ..|.nZ ..|.nz ..|.lH ..|.len _|.call ..|.nP ..|.m9 ..|.nQ ..=>1
 |_=>2
def St.dg (σ:St):List (Nat×ar)->Option St
 |[]=>some σ
 |(n,b)::l=>match σ.ins n b with
  |some σ1=>σ1.dg l
  |none=>none
def ju (m:Mode):Nat->List C->List ah×Nat×List (Nat×ar)
 |nm,[]=>([],nm,[])
 |nm,.list sz xs::cs=>(.sl nm sz 0 xs.length::(ju m (nm+1) cs).1,(ju m (nm+1) cs).2.1,(nm,.row m.tR m sz xs)::(ju m (nm+1) cs).2.2)
 |nm,x::cs=>(.c x::(ju m nm cs).1,(ju m nm cs).2.1,(ju m nm cs).2.2)
def yq (m:Mode):Nat->List Dv->Option (List (Bool×List ah)×List (Nat×ar))
 |_,[]=>some ([],[])
 |nm,(.ptr,_)::_=>none
 |nm,(k,cs)::ds=>match yq m (ju m nm cs).2.1 ds with
  |some (ls,bs)=>some ((decide (k=.agg),(ju m nm cs).1)::ls,(ju m nm cs).2.2++bs)
  |none=>none
theorem ZG (σ:St) (l a:List (Nat×ar)):σ.dg (l++a)=(σ.dg l).bind fun σ1=>σ1.dg a:=by induction l generalizing σ with|nil=>rfl|cons x l c=>obtain⟨n,b⟩:=x;simp only[zaN,St.dg];cases σ.ins n b with|none=>rfl|some σ1=>exact c σ1
theorem KY (m:Mode):∀(cs:List C) (σ:St) (nm:Nat),σ.imp m nm cs=(σ.dg (ju m nm cs).2.2).map fun σ1=>((ju m nm cs).1,(ju m nm cs).2.1,σ1)
 |[],σ,nm=>rfl
 |.list sz xs::cs,σ,nm=>by simp only[St.imp,ju,St.dg];cases σ.ins nm (.row m.tR m sz xs) with|none=>rfl|some σ1=>simp only[KY m cs];cases σ1.dg (ju m (nm+1) cs).2.2<;>rfl
 |.int k n::cs,σ,nm=>by simp only[St.imp,ju,KY m cs];cases σ.dg (ju m nm cs).2.2<;>rfl
 |.bool b::cs,σ,nm=>by simp only[St.imp,ju,KY m cs];cases σ.dg (ju m nm cs).2.2<;>rfl
theorem RU (m:Mode):∀(ds:List Dv) (σ:St) (nm:Nat),σ.jQ m nm ds=(yq m nm ds).bind fun x=>(σ.dg x.2).map fun σ1=>(x.1,σ1)
 |[],σ,nm=>rfl
 |(k,cs)::ds,σ,nm=>by
  have a:(match σ.imp m nm cs with
    |some (l,gv,σ1)=>match σ1.jQ m gv ds with
     |some (ls,σ2)=>some ((decide (k=K.agg),l)::ls,σ2)
     |none=>none
    |none=>none)=(match yq m (ju m nm cs).2.1 ds with
    |some (ls,bs)=>some ((decide (k=K.agg),(ju m nm cs).1)::ls,(ju m nm cs).2.2++bs)
    |none=>none).bind fun x=>(σ.dg x.2).map fun σ1=>(x.1,σ1):=by
   rw[KY];have b:=fun(σ1:St)=>RU m ds σ1 (ju m nm cs).2.1;cases h1:σ.dg (ju m nm cs).2.2 with
   |none=>
    cases h2:yq m (ju m nm cs).2.1 ds with
    |none=>rfl
    |some x=>simp[ZG,h1]
   |some σ1=>
    simp only[AI,b];cases h2:yq m (ju m nm cs).2.1 ds with
    |none=>rfl
    |some x=>
     simp[ZG,h1];cases σ1.dg x.2<;>rfl
  cases k with
  |ptr=>rfl
  |one=>exact a
  |agg=>exact a
def JG (T:aQ) (m:Mode) (d:Option Nat) (f:FuncId) (as:List ao) (h:Nat->Option ar):Option (ao×List (Nat×ar)):=
 match kf h as with
 |some ds=>match aQ.find T.pure f with
  |some M=>match M ds with
   |some rs=>match yq m (qc d) rs with
    |some (ls,bs)=>some (lO ls,bs)
    |none=>none
   |none=>none
  |none=>none
 |none=>none
def rd (T:aQ) (d:Option Nat) (op:aV) (ev:MO->ao) (h:Nat->Option ar):Option (ao×List (Nat×ar)):=
 match op with
 |.mv x=>some (ev x,[])
 |.pick c x y=>match ev c with
  |.one (.c (.bool b))=>if b=true then some (ev x,[]) else some (ev y,[])
  |_=>none
 |.build zs parts=>match rp ev zs parts with
  |some cs=>some (.agg cs,[])
  |none=>none
 |.bin op x y=>match xN op (ev x) (ev y) with
  |some c=>some (.one (.c c),[])
  |none=>none
 |.nO op x y=>match CD op (ev x) (ev y) with
  |some c=>some (.one (.c c),[])
  |none=>none
 |.un op x=>match E7 op (ev x) with
  |some c=>some (.one (.c c),[])
  |none=>none
 |.ext i x=>match ev x with
  |.bH xs=>match xs[i]? with
   |some (ag,cs)=>some (rv ag cs,[])
   |none=>none
  |_=>none
 |.mm mx x y=>match ev x,ev y with
  |.one (.c (.int k a)),.one (.c (.int k' b))=>if mx=true then(if a<b then some (.one (.c (.int k b)),[]) else some (.one (.c (.int k a)),[]))
   else(if b<a then some (.one (.c (.int k b)),[]) else some (.one (.c (.int k a)),[]))
  |_,_=>none
 |.alloc zs=>match d with
  |some n=>some (.one (.ptr n 0 0 0),[(n,.box zs)])
  |none=>none
 |.box sz x=>match d,(ev x).cells? with
  |some n,some (_,cs)=>if cs.length=sz then some (.one (.ptr n 0 0 0),[(n,.box cs)]) else none
  |_,_=>none
 |.vQ sz ps=>match d,Bj sz (ps.map ev) with
  |some n,some es=>some (.one (.sl n sz 0 es.length),[(n,.row true .aN sz es)])
  |_,_=>none
 |.load ag sz x=>match ev x with
  |.one p=>match loadAt h p sz with
   |some cs=>some (rv ag cs,[])
   |none=>none
  |_=>none
 |.kx m sz by_ zs l c=>match d,(ev l).d6,(ev c).d6 with
  |some n,some a,some b=>if a<=b/\0<=a/\b.toNat*by_<=fQ/\zs.length=sz then
   some (.one (.sl n sz 0 a.toNat),[(n,.row true m sz (zaf a.toNat zs))])
   else none
  |_,_,_=>none
 |.slice sz x lo hi=>
  let Sq:Option Int:=match lo with|none=>some 0|some l=>(ev l).d6
  match ev x,Sq with
  |.one (.sl n s l0 len),some l=>
   match(match hi with|none=>some (len:Int)|some h=>(ev h).d6) with
   |some hh=>if s=sz/\0<=l/\l<=hh/\hh<=len/\(h n).isSome=true then some (.one (.sl n s (l0+l.toNat) (hh - l).toNat),[]) else none
   |none=>none
  |.one (.c (.list s xs)),some l=>
   match(match hi with|none=>some (xs.length:Int)|some h=>(ev h).d6) with
   |some hh=>if s=sz/\0<=l/\l<=hh/\hh<=xs.length then some (.one (.c (.list s ((xs.drop l.toNat).take (hh - l).toNat))),[]) else none
   |none=>none
  |_,_=>none
 |.nZ off x=>match ev x with
  |.one (.ptr n k sz o)=>if(h n).isSome=true then some (.one (.ptr n k sz (o+off)),[]) else none
  |.one (.di xs o)=>some (.one (.di xs (o+off)),[])
  |.one (.cO xs o j n s len)=>some (.one (.cO xs (o+off) j n s len),[])
  |_=>none
 |.lH len x i=>match ev x,(ev i).d6 with
  |.one (.ptr n kk s o),some k=>if 0<=k/\k<len/\(h n).isSome=true then some (.one (.ptr n kk s (o+k.toNat)),[]) else none
  |_,_=>none
 |.nz sz x i=>match ev x,(ev i).d6 with
  |.one (.sl n s lo len),some k=>if s=sz/\0<=k/\k<len/\(h n).isSome=true then some (.one (.ptr n (lo+k.toNat) s 0),[]) else none
  |.one (.c (.list s xs)),some k=>if s=sz/\0<=k then
   match xs[k.toNat]? with
   |some e=>some (.one (.di e 0),[])
   |none=>none
   else none
  |.one (.bz n kk aD off s len),some k=>match cF h (.bz n kk aD off s len) with
   |some (.list s' ys)=>if s'=sz/\0<=k/\k<ys.length then some (.one (.cX n kk aD off sz k.toNat),[]) else none
   |_=>none
  |_,_=>none
 |.len x=>match ev x with
  |.one (.sl n sz lo len)=>if(h n).isSome=true then some (.one (.c (.int .i64 len)),[]) else none
  |.one (.c (.list sz xs))=>some (.one (.c (.int .i64 xs.length)),[])
  |.one (.nil sz)=>some (.one (.c (.int .i64 0)),[])
  |.one (.bz n k aD off sz len)=>match cF h (.bz n k aD off sz len) with
   |some (.list s ys)=>some (.one (.c (.int .i64 ys.length)),[])
   |_=>none
  |_=>none
 |.call m f xs=>JG T m d f (xs.map ev) h
 |.nP f xs=>(vR T f (xs.map ev) h).map fun v=>(v,[])
 |.m9 f xs=>(qF T f (xs.map ev) h).map fun v=>(v,[])
 |.nQ f xs=>(Aj T f (xs.map ev)).map fun v=>(v,[])
 |_=>none
def fz (d:Option Nat) (σ:St) (x:ao×List (Nat×ar)):Option St:=(σ.dg x.2).map (·.put d x.1)
theorem ahM (T:aQ) (m:Mode) (d:Option Nat) (f:FuncId) (as:List ao) (σ:St):rL T m d f as σ=(JG T m d f as σ.h).bind (fz d σ):=by unfold rL JG;cases kf σ.h as with|none=>rfl|some ds=>simp only;cases aQ.find T.pure f with|none=>rfl|some M=>simp only;cases M ds with|none=>rfl|some a=>simp only[RU];cases yq m (qc d) a with|none=>rfl|some x=>simp only[IN,fz];cases σ.dg x.2<;>rfl
theorem qG (T:aQ) (d:Option Nat) (op:aV) (σ:St) (w:op.eT<=1):exec T d op σ=(rd T d op σ.ev σ.h).bind (fz d σ):=by(cases op<;>simp only[aV.eT] at w<;>first|omega|skip);(case call m f xs=>exact ahM _ _ _ _ _ _);(case nP f xs=>simp only[exec,rd];cases vR T f (xs.map σ.ev) σ.h with|none=>rfl|some v=>rfl);(case m9 f xs=>simp only[exec,rd];cases qF T f (xs.map σ.ev) σ.h with|none=>rfl|some v=>rfl);(case nQ f xs=>simp only[exec,rd];cases Aj T f (xs.map σ.ev) with|none=>rfl|some v=>rfl);(case alloc zs=>simp only[exec,rd];split;rename_i n;simp only[IN,fz,St.dg];cases σ.ins n (.box zs)<;>rfl;rfl);(case box sz x=>simp only[exec,rd];split;rename_i n ag cs e;simp only[e];split;simp only[IN,fz,St.dg];cases σ.ins n (.box cs)<;>rfl;rfl;rename_i j;split;rename_i n ag cs e;exact absurd e (j n ag cs rfl);rfl);(case vQ sz ps=>simp only[exec,rd];split;rename_i n es e;simp only[e,IN,fz,St.dg];cases σ.ins n (.row true .aN sz es)<;>rfl;rename_i j;split;rename_i n es e;exact absurd e (j n es rfl);rfl);(case kx m sz by_ zs l c=>simp only[exec,rd];split;rename_i n a b e t;simp only[e,t];split;simp only[IN,fz,St.dg];cases σ.ins n (.row true m sz (zaf a.toNat zs))<;>rfl;rfl;rename_i j;split;rename_i n a b e t;exact absurd t (j n a b rfl e);rfl);(case mv x=>rfl);(case pick c x y=>simp only[exec,rd];generalize σ.ev c=v;cases v with|one v=>(cases v with|c v=>(cases v with|bool b=>cases b<;>rfl|_=>rfl)|_=>rfl)|_=>rfl);(case build zs ps=>simp only[exec,rd];cases rp σ.ev zs ps<;>rfl);(case bin op x y=>simp only[exec,rd];cases xN op (σ.ev x) (σ.ev y)<;>rfl);(case nO op x y=>simp only[exec,rd];cases CD op (σ.ev x) (σ.ev y)<;>rfl);(case un op x=>simp only[exec,rd];cases E7 op (σ.ev x)<;>rfl);(case ext i x=>simp only[exec,rd];generalize σ.ev x=v;cases v with|bH xs=>simp only;cases xs[i]? <;>rfl|_=>rfl);(case mm b x y=>simp only[exec,rd];generalize σ.ev x=v;generalize σ.ev y=u;cases v with|one v=>(cases v with|c v=>(cases v with|int k a=>(cases u with|one u=>(cases u with|c u=>(cases u with|int k' a'=>simp only;cases b;simp only[zaD,if_false];split<;>rfl;simp only[if_true];split<;>rfl|_=>rfl)|_=>rfl)|_=>rfl)|_=>rfl)|_=>rfl)|_=>rfl);(case load ag sz x=>simp only[exec,rd];generalize σ.ev x=v;cases v with|one v=>simp only;cases loadAt σ.h v sz<;>rfl|_=>rfl);(case nZ off x=>simp only[exec,rd];generalize σ.ev x=v;cases v with|one v=>(cases v with|ptr n k sz off=>simp only;split<;>rfl|_=>rfl)|_=>rfl);(case len x=>simp only[exec,rd];generalize σ.ev x=v;cases v with|one v=>(cases v with|sl n sz lo len=>simp only;split<;>rfl|c v=>cases v<;>rfl|bz n k r off sz len=>simp only;(cases cF σ.h (.bz n k r off sz len) with|none=>rfl|some y=>cases y<;>rfl)|_=>rfl)|_=>rfl);(case lH len x i=>simp only[exec,rd];generalize σ.ev x=v;generalize (σ.ev i).d6=u;cases v with|one v=>(cases v with|ptr n kk s o=>(cases u with|none=>rfl|some k=>simp only;split<;>rfl)|_=>rfl)|_=>rfl);(case nz sz x i=>simp only[exec,rd];generalize σ.ev x=v;generalize (σ.ev i).d6=u;cases v with|one v=>(cases v with|sl n s lo len=>(cases u with|none=>rfl|some k=>simp only;split<;>rfl)|c v=>(cases v with|list s xs=>(cases u with|none=>rfl|some k=>simp only;split;cases xs[k.toNat]? <;>rfl;rfl)|_=>rfl)|bz n k r off s len=>(cases u with|none=>rfl|some q=>simp only;cases cF σ.h (.bz n k r off s len) with|none=>rfl|some y=>cases y with|list s' ys=>simp only;split<;>rfl|_=>rfl)|_=>rfl)|_=>rfl);case slice sz x lo g=>cases lo with|none=>(cases g with|none=>simp only[exec,rd];generalize σ.ev x=v;(cases v with|one v=>(cases v with|sl n s p len=>simp only;split<;>rfl|c v=>(cases v with|list s xs=>simp only;split<;>rfl|_=>rfl)|_=>rfl)|_=>rfl)|some g=>simp only[exec,rd];generalize σ.ev x=v;generalize (σ.ev g).d6=q;cases q with|none=>(cases v with|one v=>(cases v with|c v=>cases v<;>rfl|_=>rfl)|_=>rfl)|some q=>cases v with|one v=>(cases v with|sl n s p len=>simp only;split<;>rfl|c v=>(cases v with|list s xs=>simp only;split<;>rfl|_=>rfl)|_=>rfl)|_=>rfl)|some lo=>cases g with|none=>simp only[exec,rd];generalize σ.ev x=v;generalize (σ.ev lo).d6=u;(cases u with|none=>(cases v with|one v=>(cases v with|c v=>cases v<;>rfl|_=>rfl)|_=>rfl)|some u=>cases v with|one v=>(cases v with|sl n s p len=>simp only;split<;>rfl|c v=>(cases v with|list s xs=>simp only;split<;>rfl|_=>rfl)|_=>rfl)|_=>rfl)|some g=>simp only[exec,rd];generalize σ.ev x=v;generalize (σ.ev lo).d6=u;generalize (σ.ev g).d6=q;cases u with|none=>(cases v with|one v=>(cases v with|c v=>cases v<;>rfl|_=>rfl)|_=>rfl)|some u=>cases q with|none=>(cases v with|one v=>(cases v with|c v=>cases v<;>rfl|_=>rfl)|_=>rfl)|some q=>cases v with|one v=>(cases v with|sl n s p len=>simp only;split<;>rfl|c v=>(cases v with|list s xs=>simp only;split<;>rfl|_=>rfl)|_=>rfl)|_=>rfl
def St.we (σ:St) (e:Nat->ao):St:={σ with env:=e}
def vA (e:Nat->ao) (d:Option Nat) (x:Nat->ao):Nat->ao:=
 match d with
 |some n=>aI e n (x n)
 |none=>e
theorem asS (σ:St):σ.we σ.env=σ:=rfl
theorem yY (σ:St) (e:Nat->ao) (d:Option Nat) (v:ao):(σ.we e).put d v=(σ.put d v).we (vA e d (σ.put d v).env):=by cases d with|none=>rfl|some n=>simp[St.put,St.we,vA,cr]
theorem KZ (σ:St) (e:Nat->ao) (n:Nat) (b:ar):(σ.we e).ins n b=(σ.ins n b).map (·.we e):=by unfold St.ins;by_cases h:σ.used n=true;rw[ak h,ak (show(σ.we e).used n=true from h)];rfl;rw[aq h,aq (show¬(σ.we e).used n=true from h)];rfl
theorem AQ:∀(l:List (Nat×ar)) (σ:St) (e:Nat->ao),(σ.we e).dg l=(σ.dg l).map (·.we e)
 |[],σ,e=>rfl
 |(n,b)::l,σ,e=>by simp only[St.dg,KZ];cases σ.ins n b with|none=>rfl|some σ1=>exact AQ l σ1 e
theorem asv (σ:St) (e:Nat->ao) (c:ah):(σ.we e).f0 c=(σ.f0 c).map fun x=>(x.1,x.2.1,x.2.2.we e):=by cases c with|c x=>rfl|nil sz=>simp only[St.f0];split<;>rfl|sl n sz lo len=>have:(σ.we e).h n=σ.h n:=rfl;simp only[St.f0,this];(cases σ.h n with|none=>rfl|some b=>cases b with|box cs=>rfl|row gr m rs xs=>simp only;split<;>rfl)|_=>rfl
theorem Nj:∀(cs:List ah) (σ:St) (e:Nat->ao),(σ.we e).f6 cs=(σ.f6 cs).map fun x=>(x.1,x.2.1,x.2.2.we e)
 |[],σ,e=>rfl
 |c::cs,σ,e=>by simp only[St.f6,asv];cases σ.f0 c with|none=>rfl|some x=>obtain⟨x,o,σ1⟩:=x;simp only[AI,Nj cs σ1 e];cases σ1.f6 cs<;>rfl
theorem afv (sz:Nat):∀(vs:List ao) (σ:St) (e:Nat->ao),(σ.we e).kc sz vs=(σ.kc sz vs).map fun x=>(x.1,x.2.1,x.2.2.we e)
 |[],σ,e=>rfl
 |v::vs,σ,e=>by simp only[St.kc];cases v.cells? with|none=>rfl|some x=>obtain⟨ag,cs⟩:=x;simp only;split;simp only[Nj];(cases σ.f6 cs with|none=>rfl|some y=>obtain⟨y,o,σ1⟩:=y;simp only[AI,afv sz vs σ1 e];cases σ1.kc sz vs<;>rfl);rfl
theorem agw (σ:St) (e:Nat->ao) (sz:Nat) (v:ao):rF (σ.we e) sz v=(rF σ sz v).map fun x=>(x.1,x.2.1,x.2.2.we e):=by cases v with|one v=>(cases v with|sl a s lo len=>(cases lo with|zero=>have:(σ.we e).h a=σ.h a:=rfl;simp only[rF,this];(cases σ.h a with|none=>rfl|some b=>cases b with|box cs=>rfl|row c m rs xs=>cases c with|true=>simp only;split<;>rfl|false=>rfl)|succ lo=>rfl)|_=>rfl)|_=>rfl
theorem agy (fl:Bool) (σ:St) (e:Nat->ao) (sz:Nat) (m:Mode) (v:ao):mF fl (σ.we e) sz m v=(mF fl σ sz m v).map fun x=>(x.1,x.2.1,x.2.2.we e):=by cases v with|one v=>(cases v with|sl b s lo len=>have:(σ.we e).h b=σ.h b:=rfl;simp only[mF,this];(cases σ.h b with|none=>rfl|some b=>cases b with|box cs=>rfl|row gr m rs xs=>simp only;(repeat' split);all_goals rfl)|c x=>(cases x with|list s ys=>simp only[mF];(repeat' split);(all_goals rfl)|_=>rfl)|_=>rfl)|_=>rfl
theorem ash (σ:St) (e:Nat->ao) (n:Nat) (b:Bool) (m:Mode) (c:Nat) (xs:List (List C)) (k off:Nat) (a:List C) (vs:List ah): oK (σ.we e) n b m c xs k off a vs=(oK σ n b m c xs k off a vs).map (·.we e):=by simp only[oK,Nj];cases sub a off vs.length with|none=>rfl|some iv=>simp only;cases σ.f6 vs with|none=>rfl|some x=>obtain⟨cs,o,σ1⟩:=x;have:(σ1.we e).h n=σ1.h n:=rfl;simp only[AI,this];(repeat' split);all_goals rfl
theorem Et (T:aQ) (d:Option Nat) (op:aV) {ev ev':MO->ao} (h:Nat->Option ar) (a:∀x∈op.args,ev' x=ev x):rd T d op ev' h=rd T d op ev h:=by have hl:∀xs:List MO,(∀x∈xs,ev' x=ev x)->xs.map ev'=xs.map ev:=fun xs hx=>IT hx;have n:∀(ps:List (Nat×Nat×MO)) (g:List ah),(∀x∈ps.map (·.2.2),ev' x=ev x)->rp ev' g ps=rp ev g ps:=(by intro ps;induction ps with|nil=>intro g _;rfl|cons p ps o=>intro g hx;obtain⟨off,sz,x⟩:=p;simp only[rp];rw[hx x (by simp)];cases (ev x).cells? with|none=>rfl|some y=>simp only;split;exact o _ fun z l=>hx z (by simp at l⊢;exact .inr l);rfl);cases op with|build g ps=>simp only[rd];rw[n ps g a]|call m f xs=>simp only[rd];rw[hl xs a]|nP f xs=>simp only[rd];rw[hl xs a]|m9 f xs=>simp only[rd];rw[hl xs a]|nQ f xs=>simp only[rd];rw[hl xs a]|slice sz x lo j=>have c:=a x (by simp[aV.args]);(cases lo with|none=>(cases j with|none=>simp only[rd,c]|some j=>have k:=a j (by simp[aV.args]);simp only[rd,c,k])|some lo=>have e:=a lo (by simp[aV.args]);cases j with|none=>simp only[rd,c,e]|some j=>have k:=a j (by simp[aV.args]);simp only[rd,c,e,k])|mv x=>have c:=a x (by simp[aV.args]);simp only[rd,c]|pick x y z=>have c:=a x (by simp[aV.args]);have e:=a y (by simp[aV.args]);have k:=a z (by simp[aV.args]);simp only[rd,c,e,k]|alloc g=>rfl|box sz x=>have c:=a x (by simp[aV.args]);simp only[rd,c]|fG sz ps=>rfl|vQ sz ps=>simp only[rd];rw[hl ps a]|jo m f xs=>rfl|nc m f xs=>rfl|kj f xs=>rfl|load ag sz x=>have c:=a x (by simp[aV.args]);simp only[rd,c]|store sz x v=>rfl|bin op x y=>have c:=a x (by simp[aV.args]);have e:=a y (by simp[aV.args]);simp only[rd,c,e]|nO op x y=>have c:=a x (by simp[aV.args]);have e:=a y (by simp[aV.args]);simp only[rd,c,e]|un op x=>have c:=a x (by simp[aV.args]);simp only[rd,c]|kx m sz by_ g x y=>have c:=a x (by simp[aV.args]);have e:=a y (by simp[aV.args]);simp only[rd,c,e]|nZ off x=>have c:=a x (by simp[aV.args]);simp only[rd,c]|lH len x y=>have c:=a x (by simp[aV.args]);have e:=a y (by simp[aV.args]);simp only[rd,c,e]|nz sz x y=>have c:=a x (by simp[aV.args]);have e:=a y (by simp[aV.args]);simp only[rd,c,e]|ext i x=>have c:=a x (by simp[aV.args]);simp only[rd,c]|len x=>have c:=a x (by simp[aV.args]);simp only[rd,c]|append fl sz by_ x y=>rfl|copy sz x y=>rfl|mG z x=>rfl|mm b x y=>have c:=a x (by simp[aV.args]);have e:=a y (by simp[aV.args]);simp only[rd,c,e]
theorem Ns (σ:St) (e:Nat->ao):(σ.we e).h=σ.h:=rfl
theorem aqz (σ:St) (e:Nat->ao) (it:dG) (x:C):(σ.we e).pj it x=(σ.pj it x).map (·.we e):=by cases it with|nil sz=>rfl|row n=>(cases x with|int k i=>rfl|bool b=>rfl|list sz xs=>simp only[St.pj,Ns];cases σ.h n with|none=>rfl|some b=>cases b with|box cs=>rfl|row c m d a=>simp only;split<;>rfl)|nest n k off=>simp only[St.pj,Ns];cases σ.h n with|none=>rfl|some b=>cases b with|box cs=>rfl|row c m d a=>simp only;cases a[k]? with|none=>rfl|some el=>rfl
theorem acL:∀(a:List (dG×Mode)) (b:List C) (σ:St) (e:Nat->ao),(σ.we e).qf a b=(σ.qf a b).map (·.we e)
 |[],[],σ,e=>rfl
 |it::a,x::b,σ,e=>by simp only[St.qf,aqz];cases σ.pj it.1 x with|none=>rfl|some σ1=>exact acL a b σ1 e
 |[],_::_,σ,e=>rfl
 |_::_,[],σ,e=>rfl
theorem alD (m:Mode) (σ:St) (e:Nat->ao) (nm:Nat) (ds:List Dv):(σ.we e).jQ m nm ds=(σ.jQ m nm ds).map fun x=>(x.1,x.2.we e):=by simp only[RU];cases yq m nm ds with|none=>rfl|some x=>simp only[IN,AQ];cases σ.dg x.2 with|none=>rfl|some σ1=>rfl
theorem Wq (T:aQ) (m:Mode) (d:Option Nat) (f:FuncId) (as:List ao) (σ:St) (e:Nat->ao):
  rN T m d f as (σ.we e)=(rN T m d f as σ).map fun τ=>τ.we (vA e d τ.env):=by
 unfold rN;cases aQ.pQ T.yP f with
 |none=>rfl
 |some z=>
  obtain⟨sig,M⟩:=z;cases q9 as with
  |none=>rfl
  |some a=>
   simp only
   by_cases c:(o9 sig a).Nodup
   ·rw[ak c,ak c];show(match mQ σ.h (dL σ.h (o9 sig a)) sig a with|some (ds,b)=>_|none=>none)=_
    cases mQ σ.h (dL σ.h (o9 sig a)) sig a with
    |none=>rfl
    |some z=>
     obtain⟨ds,b⟩:=z;simp only
     cases M ds with
     |none=>rfl
     |some z=>
      obtain⟨i,g⟩:=z;simp only[acL];cases σ.qf b g with
      |none=>rfl
      |some σ1=>
       simp only[AI,alD];cases σ1.jQ m (qc d) i with
       |none=>rfl
       |some z=>
        obtain⟨ls,σ2⟩:=z;simp only[AI,yY]
   ·rw[aq c,aq c];rfl
theorem ahL (T:aQ) (m:Mode) (d:Option Nat) (f:FuncId) (as:List ao) (σ:St) (e:Nat->ao): v5 T m d f as (σ.we e)=(v5 T m d f as σ).map fun τ=>τ.we (vA e d τ.env):=by unfold v5;cases aQ.tt T.xs f with|none=>rfl|some z=>obtain⟨i,M⟩:=z;simp only;cases as[i]? with|none=>rfl|some x=>have a:(σ.we e).h=σ.h:=rfl;simp only[a];cases Fc σ.h x with|none=>rfl|some z=>obtain⟨n,lo,len,N⟩:=z;exact Wq _ _ _ _ _ _ _
theorem OP:∀(as:List ao) (σ:St) (e:Nat->ao),(σ.we e).jc as=(σ.jc as).map fun x=>(x.1,x.2.1,x.2.2.we e)
 |[],σ,e=>rfl
 |v::as,σ,e=>by simp only[St.jc,Ns,Nj];cases nN σ.h v with|some x=>obtain⟨n,xs⟩:=x;simp only[OP as σ e];cases σ.jc as<;>rfl|none=>simp only;cases v.cells? with|none=>rfl|some x=>obtain⟨ag,cs⟩:=x;simp only;cases σ.f6 cs with|none=>rfl|some y=>obtain⟨xs,o,σ1⟩:=y;simp only[AI,OP as σ1 e];cases σ1.jc as<;>rfl
theorem aqx (σ:St) (e:Nat->ao) (ns:List Nat) (out:List C):(σ.we e).sD ns out=(σ.sD ns out).map (·.we e):=by
 match ns,out with
 |[],[]=>rfl
 |[],_::_=>rfl
 |[n],out=>
  simp only[St.sD,Ns];cases σ.h n with
  |none=>rfl
  |some b=>
   cases b with
   |box cs=>simp only;split<;>rfl
   |row gr m rs xs=>rfl
 |_::_::_,out=>rfl
theorem agQ (σ:St) (e:Nat->ao) (d:Option Nat) (a:List Dv):rH (σ.we e) d a=(rH σ d a).map fun τ=>τ.we (vA e d τ.env):=by unfold rH;split;(cases d with|none=>rfl|some q=>simp only[KZ];cases σ.ins q _ with|none=>rfl|some σ1=>simp only[AI,yY]);cases iP a with|none=>rfl|some ls=>simp only[AI,yY]
theorem ahI (T:aQ) (d:Option Nat) (f:FuncId) (as:List ao) (σ:St) (e:Nat->ao): rM T d f as (σ.we e)=(rM T d f as σ).map fun τ=>τ.we (vA e d τ.env):=by unfold rM;rw[OP];cases σ.jc as with|none=>rfl|some x=>obtain⟨ds,ns,σ1⟩:=x;simp only[AI];cases aQ.lY T.vs f with|none=>rfl|some M=>simp only;cases M ds with|none=>rfl|some z=>obtain⟨a,out⟩:=z;simp only[aqx];cases σ1.sD ns out with|none=>rfl|some σ2=>exact agQ σ2 e d a
theorem PL (T:aQ) (d:Option Nat) (op:aV) (σ:St) (e:Nat->ao) (a:∀x∈op.args,(σ.we e).ev x=σ.ev x) (hd:∀sz x v,op=.store sz x v->d=none):
  exec T d op (σ.we e)=(exec T d op σ).map fun τ=>τ.we (vA e d τ.env):=by
 by_cases t:op.eT<=1
 ·rw[qG T d op _ t,qG T d op _ t,Et T d op _ a];show Option.bind (rd T d op σ.ev σ.h) _=_;cases rd T d op σ.ev σ.h with
  |none=>rfl
  |some x=>
   simp only[IN,fz,AQ];cases σ.dg x.2 with
   |none=>rfl
   |some σ1=>simp only[AI,yY]
 ·cases op<;>simp[aV.eT] at t
  case fG sz ps=>
   have hl:ps.map (σ.we e).ev=ps.map σ.ev:=IT a;simp only[exec,hl,afv];cases d with
   |none=>rfl
   |some n=>
    cases σ.kc sz (ps.map σ.ev) with
    |none=>rfl
    |some x=>
     obtain⟨es,o,σ1⟩:=x;simp only[AI,KZ];cases σ1.ins n (.row true (if o=true then .aN else .aM) sz es) with
     |none=>rfl
     |some σ2=>simp only[AI,yY]
  case store sz x v=>
   have g:=a x (by simp[aV.args]);have l:=a v (by simp[aV.args]);have hd:=hd sz x v rfl;subst hd;simp only[exec,g,l];cases σ.ev x with
   |one p=>cases p with
    |ptr n k w off=>
     cases (σ.ev v).cells? with
     |none=>rfl
     |some y=>
      obtain⟨ag,vs⟩:=y;have:(σ.we e).h n=σ.h n:=rfl;simp only[this];split
      ·cases σ.h n with
       |none=>rfl
       |some b=>cases b with
        |box cs=>simp only;split<;>rfl
        |row j m u xs=>
         simp only
         split
         ·cases xs[k]? with
          |none=>rfl
          |some el=>simp only[ash];rfl
         ·rfl
      ·rfl
    |cX n k w off s i=>
     cases (σ.ev v).cells? with
     |none=>rfl
     |some y=>
      obtain⟨ag,vs⟩:=y;have:(σ.we e).h n=σ.h n:=rfl;simp only[this];split
      ·cases σ.h n with
       |none=>rfl
       |some b=>cases b with
        |box cs=>rfl
        |row j m u xs=>cases m with
         |live=>cases j with
          |true=>rfl
          |false=>
           simp only
           split
           ·cases xi xs k off s i vs<;>rfl
           ·rfl
         |_=>cases j<;>rfl
      ·rfl
    |_=>cases (σ.ev v).cells?<;>rfl
   |agg cs=>cases (σ.ev v).cells?<;>rfl
   |bH cs=>cases (σ.ev v).cells?<;>rfl
  case append fl sz by_ x y=>
   have g:=a x (by simp[aV.args]);have l:=a y (by simp[aV.args]);simp only[exec,g,l,agw];cases d with
   |none=>rfl
   |some n=>
    simp only
    cases rF σ sz (σ.ev x) with
    |none=>rfl
    |some z=>
     obtain⟨xs,m,σ1⟩:=z;simp only[AI,agy];cases mF fl σ1 sz m (σ.ev y) with
     |none=>rfl
     |some z=>
      obtain⟨ys,m2,σ2⟩:=z;simp only[AI];split
      ·simp only[KZ];cases σ2.ins n (.row true m2 sz (xs++ys)) with
       |none=>rfl
       |some gZ=>simp only[AI,yY]
      ·rfl
  case copy sz x y=>
   have g:=a x (by simp[aV.args]);have l:=a y (by simp[aV.args]);have r:(σ.we e).h=σ.h:=rfl;simp only[exec,g,l,r];cases σ.ev x with
   |one p=>cases p with
    |sl n s lo len=>
     cases σ.ev y with
     |one c=>
      simp only
      cases σ.h n with
      |none=>rfl
      |some b=>cases b with
       |box cs=>rfl
       |row j m u xs=>
        cases cF σ.h c with
        |none=>rfl
        |some q=>cases q with
         |list s' ys=>
          simp only
          split
          ·exact congrArg some (yY (σ.ef n _) e d _)
          ·rfl
         |_=>rfl
     |_=>rfl
    |_=>rfl
   |_=>rfl
  case mG z x=>
   have g:=a x (by simp[aV.args]);have r:(σ.we e).h=σ.h:=rfl;simp only[exec,g,r];cases σ.ev x with
   |one p=>cases p with
    |sl n s lo len=>
     simp only
     cases σ.h n with
     |none=>rfl
     |some b=>cases b with
      |box cs=>rfl
      |row j m u xs=>
       simp only
       split
       ·exact congrArg some (yY (σ.ef n _) e d _)
       ·rfl
    |_=>rfl
   |_=>rfl
  case jo m f xs=>
   have hl:xs.map (σ.we e).ev=xs.map σ.ev:=IT a;simp only[exec,hl,Wq]
  case kj f xs=>
   have hl:xs.map (σ.we e).ev=xs.map σ.ev:=IT a;simp only[exec,hl,ahI]
  case nc m f xs=>
   have hl:xs.map (σ.we e).ev=xs.map σ.ev:=IT a;simp only[exec,hl,ahL]
section
variable {u vv:Nat->Prop} {h h':Nat->Option ar}
theorem anq (b:∀n,u n->h' n=h n) {p:ah} (a:∀m,p.ref m->u m) (sz:Nat):loadAt h' p sz=loadAt h p sz:=by cases p with|ptr n k c off=>simp only[loadAt,b n (a n rfl)]|cX n k c off s i=>simp only[loadAt,b n (a n rfl)]|_=>rfl
theorem ah.y3 {c:ah} {m:Nat} (h:c.ie m):c.ref m:=by cases c<;>first|exact h|exact h.elim
def ao.Bm:ao->Nat->Prop
 |.one c,m=>c.ie m
 |.agg cs,m=>∃c∈cs,c.ie m
 |.bH _,_=>False
theorem ao.ac1 {x:ao} {m:Nat} (h:x.Bm m):x.ref m:=by cases x with|one c=>exact ah.y3 h|agg cs=>obtain⟨c,a,h⟩:=h;exact⟨c,a,ah.y3 h⟩|bH xs=>exact h.elim
theorem BL (b:∀n,u n->h' n=h n) {p:ah} (a:∀m,p.ie m->u m):cF h' p=cF h p:=by cases p with|sl n sz lo len=>simp only[cF,b n (a n rfl)]|bz n k aD off sz len=>simp only[cF,b n (a n rfl)]|_=>rfl
theorem Np (a:∀n,u n->h' n=h n):∀{l:List ah} (_:∀p∈l,∀m,p.ie m->u m),jC h' l=jC h l
 |[],_=>rfl
 |c::cs,hp=>by have d:=BL a (hp c (by simp));have b:=Np a (l:=cs) fun p q=>hp p (zae _ q);simp only[jC,d,b]
theorem asP (a:∀n,u n->h' n=h n) (g:∀m cs c n,vv m->h m=some (.box cs)->c∈cs->c.ref n->u n) {x:ao} (hx:∀m,x.Bm m->u m) (l:∀m,x.Bm m->vv m):iZ h' x=iZ h x:=by cases x with|one c=>(cases c with|ptr n k sz off=>simp only[iZ,a n (hx n rfl)];(cases hn:h n with|none=>rfl|some b=>cases b with|box cs=>simp only[Np a fun p d m hm=>g n cs p m (l n rfl) hn d (ah.y3 hm)]|row gr m sz xs=>rfl)|di xs off=>rfl|c x=>rfl|nil sz=>rfl|sl n sz lo len=>simp only[iZ];rw[BL a (p:=.sl n sz lo len) hx]|bz n k e off sz len=>simp only[iZ];rw[BL a (p:=.bz n k e off sz len) hx]|cX n k e off sz i=>rfl|cO xs off j n sz len=>rfl|fn f dR=>rfl|bC=>rfl)|agg cs=>simp only[iZ,Np a fun p d m hm=>hx m ⟨p,d,hm⟩]|bH xs=>rfl
theorem UF (b:∀n,u n->h' n=h n) (a:∀m cs c n,vv m->h m=some (.box cs)->c∈cs->c.ref n->u n):∀{xs:List ao} (_:∀x∈xs,∀m,x.Bm m->u m) (_:∀x∈xs,∀m,x.Bm m->vv m),kf h' xs=kf h xs
 |[],_,_=>rfl
 |x::xs,hx,hv=>by have e:=asP b a (hx x (by simp)) (hv x (by simp));have d:=UF b a (xs:=xs) (fun p q=>hx p (zae _ q)) (fun p q=>hv p (zae _ q));simp only[kf,e,d]
theorem anD (b:∀n,u n->h' n=h n) {d:Mode} {c:ah} (a:∀m,c.ref m->u m):tP h' d c=tP h d c:=by cases c with|sl n sz lo len=>simp only[tP,b n (a n rfl)]|bz n k aD off sz len=>simp only[tP,b n (a n rfl)]|_=>rfl
theorem Zm (a:∀n,u n->h' n=h n) (ns:List Nat):∀n,u n->dL h' ns n=dL h ns n:=fun n hn=>by simp only[dL,a n hn]
theorem SE (d:∀n,u n->h' n=h n) (ns:List Nat):∀(a:List (Option Mode)) (cs:List ah),(∀c∈cs,∀m,c.ref m->u m)->kT h' (dL h' ns) a cs=kT h (dL h ns) a cs
 |[],cs,hc=>by simp only[kT,Np (Zm d ns) fun p b m hm=>hc p b m (ah.y3 hm)]
 |none::a,c::cs,hc=>by simp only[kT,BL (Zm d ns) fun m hm=>hc c (by simp) m (ah.y3 hm),SE d ns a cs fun p b=>hc p (by simp[b])]
 |some md::a,c::cs,hc=>by simp only[kT,anD d (hc c (by simp)),SE d ns a cs fun p b=>hc p (by simp[b])]
 |none::_,[],_=>rfl
 |some _::_,[],_=>rfl
theorem ab7 (a:∀n,u n->h' n=h n) (ns:List Nat):∀(as:List (Bool×List ah)) (sig:bP),(∀x∈as,∀c∈x.2,∀m,c.ref m->u m)->mQ h' (dL h' ns) sig as=mQ h (dL h ns) sig as
 |[],_,_=>rfl
 |(ag,cs)::as,sig,hc=>by simp only[mQ,SE a ns (bP.hd sig) cs (hc (ag,cs) (by simp)),ab7 a ns as (bP.tl sig) fun x hx=>hc x (by simp[hx])]
theorem SH:∀{a:List (Option Mode)} {cs:List ah} {n:Nat},n∈oG a cs->∃c∈cs,c.ref n
 |some _::a,c::cs,n,hn=>by simp only[oG] at hn;rcases BY.1 hn with h|h;refine⟨c,by simp,?_⟩;cases c<;>simp[ah.eS] at h<;>(subst h;rfl);obtain⟨e,d,b⟩:=SH h;exact⟨e,by simp[d],b⟩
 |none::a,c::cs,n,hn=>by simp only[oG] at hn;obtain⟨e,d,b⟩:=SH hn;exact⟨e,by simp[d],b⟩
 |[],_,n,hn=>by simp[oG] at hn
 |some _::_,[],n,hn=>by simp[oG] at hn
 |none::_,[],n,hn=>by simp[oG] at hn
theorem aaT:∀{as:List (Bool×List ah)} {sig:bP} {n:Nat},n∈o9 sig as->∃x∈as,∃c∈x.2,c.ref n
 |a::as,s::sig,n,hn=>by simp only[o9] at hn;rcases BY.1 hn with h|h;obtain⟨c,d,b⟩:=SH h;exact⟨a,by simp,c,d,b⟩;obtain⟨x,d,b⟩:=aaT h;exact⟨x,by simp[d],b⟩
 |[],s::sig,n,hn=>by simp[o9] at hn
 |as,[],n,hn=>by cases as<;>simp[o9] at hn
theorem aaC:∀{as:List ao} {a:List (Bool×List ah)},q9 as=some a->∀x∈a,∀c∈x.2,∀m,c.ref m->∃v∈as,v.ref m
 |[],a,hx,x,hm=>by simp only[q9] at hx;injection hx with hx;subst hx;cases hm
 |v::vs,a,hx,x,hm=>by simp only[q9] at hx;split at hx;rename_i y ys g d;injection hx with hx;subst hx;intro c b m hr;(cases hm with|head=>exact⟨v,by simp,ao.zY g b hr⟩|tail _ hm=>obtain⟨e,h,f⟩:=aaC d x hm c b m hr;exact⟨e,by simp[h],f⟩);cases hx
theorem ahK (g:∀n,u n->h' n=h n) {T:aQ} {f:FuncId} {as:List ao} (hx:∀x∈as,∀m,x.ref m->u m):qF T f as h'=qF T f as h:=by unfold qF;cases aQ.tr T.ws f with|none=>rfl|some M=>obtain⟨sig,M⟩:=M;cases hc:q9 as with|none=>rfl|some a=>have hr:∀x∈a,∀c∈x.2,∀m,c.ref m->u m:=fun x d c e m b=>(by obtain⟨v,i,j⟩:=aaC hc x d c e m b;exact hx v i m j);simp only;cases hn:o9 sig a with|nil=>rfl|cons n l=>cases l with|cons n2 l=>rfl|nil=>obtain⟨x,d,c,e,b⟩:=aaT (n:=n) (sig:=sig) (as:=a) (by rw[hn];simp);simp only[ab7 g [n] a sig hr,g n (hr x d c e n b)]
theorem acQ (T:aQ) (d:Option Nat) (op:aV) (ev:MO->ao) (b:∀n,u n->h' n=h n) (v:op.Hr=true->∀m cs c n,vv m->h m=some (.box cs)->c∈cs->c.ref n->u n) (hx:∀x∈op.args,∀m,(ev x).ref m->u m) (w:∀x∈op.args,∀m,(ev x).ref m->vv m):rd T d op ev h'=rd T d op ev h:=by cases op with|load ag sz x=>have a:=hx x (by simp[aV.args]);simp only[rd];(cases hv:ev x with|one p=>rw[hv] at a;simp only[anq b (p:=p) a]|_=>rfl)|nZ off x=>have a:=hx x (by simp[aV.args]);simp only[rd];(cases hv:ev x with|one p=>(cases p with|ptr n k sz off=>rw[hv] at a;simp only[b n (a n rfl)]|_=>rfl)|_=>rfl)|len x=>have a:=hx x (by simp[aV.args]);simp only[rd];(cases hv:ev x with|one p=>(cases p with|sl n sz lo len=>rw[hv] at a;simp only[b n (a n rfl)]|bz n k t off sz len=>rw[hv] at a;simp only[BL b (p:=.bz n k t off sz len) (fun m hm=>a m (ah.y3 hm))]|c x=>cases x<;>rfl|_=>rfl)|_=>rfl)|lH len x i=>have a:=hx x (by simp[aV.args]);simp only[rd];generalize (ev i).d6=q;(cases hv:ev x with|one p=>(cases p with|ptr n kk s o=>rw[hv] at a;have g:=b n (a n rfl);(cases q with|none=>rfl|some q=>simp only[g])|_=>cases q<;>rfl)|_=>cases q<;>rfl)|nz sz x i=>have a:=hx x (by simp[aV.args]);simp only[rd];generalize (ev i).d6=q;(cases hv:ev x with|one p=>(cases p with|sl n s lo len=>rw[hv] at a;have g:=b n (a n rfl);(cases q with|none=>rfl|some q=>simp only[g])|bz n k t off s len=>rw[hv] at a;(cases q with|none=>rfl|some q=>simp only[BL b (p:=.bz n k t off s len) (fun m hm=>a m (ah.y3 hm))])|c x=>cases x<;>cases q<;>rfl|_=>cases q<;>rfl)|_=>cases q<;>rfl)|slice sz x lo hi=>have a:=hx x (by simp[aV.args]);simp only[rd];(cases hv:ev x with|one p=>(cases p with|sl n s l0 len=>rw[hv] at a;have g:=b n (a n rfl);(cases lo with|none=>simp only[g]|some lo=>simp only;cases (ev lo).d6 with|none=>rfl|some q=>simp only[g])|c x=>(cases lo with|none=>cases x<;>rfl|some lo=>simp only;cases (ev lo).d6<;>cases x<;>rfl)|_=>cases lo<;>rfl)|_=>cases lo<;>rfl)|call m f xs=>simp only[rd,JG];have j:∀e:Nat->Prop,(∀x∈(aV.call m f xs).args,∀m,(ev x).ref m->e m)->∀x∈xs.map ev,∀m,x.Bm m->e m:=(by intro e hx x r q l;obtain⟨y,hy,rfl⟩:=GB.1 r;exact hx y hy q (ao.ac1 l));rw[UF b (v rfl) (j _ hx) (j _ w)]|nP f xs=>simp only[rd,vR];have j:∀e:Nat->Prop,(∀x∈(aV.nP f xs).args,∀m,(ev x).ref m->e m)->∀x∈xs.map ev,∀m,x.Bm m->e m:=(by intro e hx x r q l;obtain⟨y,hy,rfl⟩:=GB.1 r;exact hx y hy q (ao.ac1 l));rw[UF b (v rfl) (j _ hx) (j _ w)]|nQ f xs=>rfl|m9 f xs=>have:qF T f (xs.map ev) h'=qF T f (xs.map ev) h:=ahK b fun x r q l=>(by obtain⟨y,hy,rfl⟩:=GB.1 r;exact hx y hy q l);simp only[rd,this]|_=>rfl
theorem acP (T:aQ) (d:Option Nat) (op:aV) (ev:MO->ao) (b:∀n,u n->h' n=h n) (a:∀m cs c n,h m=some (.box cs)->c∈cs->c.ref n->u n) (hx:∀x∈op.args,∀m,(ev x).ref m->u m):rd T d op ev h'=rd T d op ev h:= acQ (vv:=fun _=>True) T d op ev b (fun _ m cs c n _=>a m cs c n) hx (fun _ _ _ _=>trivial)
theorem acS (T:aQ) (d:Option Nat) (op:aV) (ev:MO->ao) (h h':Nat->Option ar) (a:op.eT=0):rd T d op ev h'=rd T d op ev h:=by cases op<;>simp[aV.eT] at a<;>rfl
end
def jz (e:Nat->ao) (d:Option Nat) (v:ao):Nat->ao:=
 match d with
 |some n=>aI e n v
 |none=>e
theorem qg (σ:St) (d:Option Nat) (v:ao):σ.put d v=σ.we (jz σ.env d v):=by cases d<;>rfl
theorem sE {e:Nat->ao} {d:Option Nat} {v:ao} {n:Nat} (h:d≠some n):jz e d v n=e n:=by cases d with|none=>rfl|some m=>exact cQ _ _ _ _ (fun a=>h (by rw[a]))
theorem LV (e:Nat->ao) {d a:Option Nat} (v f:ao) (h:∀n,d=some n->a≠some n):jz (jz e d v) a f=jz (jz e a f) d v:=by cases d with|none=>rfl|some n=>cases a with|none=>rfl|some m=>have c:m≠n:=fun i=>h n rfl (by rw[i]);funext k;simp only[jz,kE];by_cases g:k=m;by_cases b:k=n;omega;simp[g,c];by_cases b:k=n;simp[b,zaH c];simp[g,b]
def afM (d:Option Nat) (x:Nat->ao):ao:=
 match d with
 |some n=>x n
 |none=>.one .bC
theorem Uy (e:Nat->ao) (d:Option Nat) (x:Nat->ao):vA e d x=jz e d (afM d x):=by cases d<;>rfl
theorem alG {σ σ1 σ2:St} {n m:Nat} {b c:ar} (f:σ.ins n b=some σ1) (d:σ1.ins m c=some σ2):∃τ,σ.ins m c=some τ/\τ.ins n b=some σ2:=by
 obtain⟨h,rfl⟩:=oA f;obtain⟨u2,rfl⟩:=oA d;have a:m≠n:=fun e=>by subst e;simp[cr] at u2
 have g:σ.used m=false:=by simpa[cQ _ _ _ _ a] using u2
 have un:aI σ.used m true n=false:=by rw[cQ _ _ _ _ (zaH a)];exact h
 refine⟨_,by unfold St.ins;rw[aq (by simp[g])],?_⟩;unfold St.ins;simp only[un,zaD,if_false];congr 2<;>(funext k;simp only[kE];by_cases f:k=m<;>by_cases d:k=n<;>simp_all)
theorem ZI {m:Nat} {c:ar}:∀{A:List (Nat×ar)} {σ σ1 σ2:St},σ.dg A=some σ1->σ1.ins m c=some σ2->∃τ,σ.ins m c=some τ/\τ.dg A=some σ2
 |[],σ,σ1,σ2,a,h2=>by simp only[St.dg] at a;injection a with a;subst a;exact⟨σ2,h2,rfl⟩
 |(n,b)::A,σ,σ1,σ2,a,h2=>by simp only[St.dg] at a;split at a;rename_i lf e;obtain⟨τ,i,g⟩:=ZI a h2;obtain⟨h,f,d⟩:=alG e i;exact⟨h,f,by simp only[St.dg,d];exact g⟩;cases a
theorem RZ:∀{b A:List (Nat×ar)} {σ σ1 σ2:St},σ.dg A=some σ1->σ1.dg b=some σ2->∃τ,σ.dg b=some τ/\τ.dg A=some σ2
 |[],A,σ,σ1,σ2,h1,a=>by simp only[St.dg] at a;injection a with a;subst a;exact⟨σ,rfl,h1⟩
 |(m,c)::b,A,σ,σ1,σ2,h1,a=>by simp only[St.dg] at a;split at a;rename_i gZ e;obtain⟨τ,i,g⟩:=ZI h1 e;obtain⟨h,f,d⟩:=RZ g a;exact⟨h,by simp only[St.dg,i];exact f,d⟩;cases a
theorem AP:∀{A:List (Nat×ar)} {σ σ1:St},σ.dg A=some σ1->(∀n,σ.used n=true->σ1.used n=true/\σ1.h n=σ.h n)/\σ1.env=σ.env
 |[],σ,σ1,a=>by simp only[St.dg] at a;injection a with a;subst a;exact⟨fun n hn=>⟨hn,rfl⟩,rfl⟩
 |(m,c)::A,σ,σ1,a=>by simp only[St.dg] at a;split at a;rename_i lf e;obtain⟨j,rfl⟩:=oA e;obtain⟨k,f⟩:=AP a;refine⟨fun n hn=>?_,f⟩;have d:n≠m:=fun i=>(by subst i;rw[j] at hn;cases hn);obtain⟨g,b⟩:=k n (t9 _ _ hn);exact⟨g,by rw[b];exact cQ _ _ _ _ d⟩;cases a
structure Wf (σ:St):Prop where
 env:∀s m,(σ.env s).ref m->σ.used m=true
 box:∀m cs c n,σ.h m=some (.box cs)->c∈cs->c.ref n->σ.used n=true
def ah.flat:ah->Bool
 |.c _|.nil _|.bC=>true
 |_=>false
def MO.flat:MO->Bool
 |.t _=>true
 |.k (.one c)=>c.flat
 |.k (.agg cs)=>cs.all ah.flat
 |.k (.bH xs)=>xs.isEmpty
theorem ah.Xg {c:ah} (h:c.flat=true) (m:Nat):¬c.ref m:=by cases c<;>first|exact id|(simp[ah.flat] at h)
theorem Wf.arg {σ:St} (W:Wf σ) {x:MO} (hx:x.flat=true) (m:Nat) (hm:(σ.ev x).ref m):σ.used m=true:=by cases x with|t n=>exact W.env n m hm|k v=>cases v with|one c=>exact absurd hm (ah.Xg hx m)|agg cs=>obtain⟨c,a,hm⟩:=hm;exact absurd hm (ah.Xg (If.1 hx c a) m)|bH xs=>have:xs=[]:=(by simpa[MO.flat] using hx);subst this;obtain⟨c,a,_⟩:=hm;cases a
theorem acR (T:aQ) (d:Option Nat) (op:aV) (ev:MO->ao) (h:Nat->Option ar) (a:op.eT=0) {x:ao×List (Nat×ar)} (hx:rd T d op ev h=some x):x.2=[]:=by cases op<;>simp[aV.eT] at a<;>simp only[rd] at hx;all_goals (repeat' split at hx);all_goals first|(cases hx;rfl)|(cases hx)
theorem Ki {σ:St} {e:Nat->ao} {x:MO} (h:∀n,x=.t n->e n=σ.env n):(σ.we e).ev x=σ.ev x:=by cases x with|t n=>exact h n rfl|k v=>rfl
section
variable {T:aQ} {dx dy:Option Nat} {x y:aV} {σ σ1 σ2:St}
theorem xV (a:∀sz p v,x=.store sz p v->dx=none) (b:exec T dx x σ=some σ1):σ1.env=jz σ.env dx (afM dx σ1.env):=by
 have h:=PL T dx x σ σ.env (fun _ _=>rfl) a;rw[asS,b] at h;simp only[AI] at h;injection h with h;rw[<-Uy]
 calc σ1.env=(σ1.we (vA σ.env dx σ1.env)).env:=by rw[<-h]
  _=_:=rfl
theorem V1 (W:Wf σ) (hd:∀n,dx=some n->dy≠some n) (D:∀n,dx=some n->MO.t n∉y.args) (F:∀n,dy=some n->MO.t n∉x.args) (Q:∀a∈x.args,a.flat=true) (V:∀a∈y.args,a.flat=true) (K:∀sz p v,x=.store sz p v->dx=none) (C:∀sz p v,y=.store sz p v->dy=none) (atc:x.eT=0\/y.eT=0\/(x.eT<=1/\y.eT<=1)) (c:exec T dx x σ=some σ1) (b:exec T dy y σ1=some σ2):∃τ,exec T dy y σ=some τ/\exec T dx x τ=some σ2:=by have G:∀(e:Nat->ao) (v:ao) (s:St),∀a∈y.args,(s.we (jz s.env dx v)).ev a=s.ev a:=fun e v s a d=>Ki fun n hn=>sE fun i=>D n i (hn▸d);have L:∀(e:Nat->ao) (v:ao) (s:St),∀a∈x.args,(s.we (jz s.env dy v)).ev a=s.ev a:=fun e v s a d=>Ki fun n hn=>sE fun i=>F n i (hn▸d);by_cases M:x.eT=0;rw[qG T dx x σ (by omega)] at c;(cases hr:rd T dx x σ.ev σ.h with|none=>rw[hr] at c;cases c|some p=>obtain⟨v,w⟩:=p;have r:w=[]:=acR T dx x _ _ M hr;subst r;rw[hr] at c;simp only[IN,fz,St.dg,AI] at c;injection c with c;rw[qg] at c;subst c;rw[PL T dy y σ _ (G σ.env v σ) C] at b;cases hy:exec T dy y σ with|none=>rw[hy] at b;cases b|some τ=>rw[hy] at b;simp only[AI] at b;injection b with b;refine⟨τ,rfl,?_⟩;have o:=xV C hy;rw[qG T dx x τ (by omega),acS T dx x τ.ev σ.h τ.h M,Et T dx x (ev:=σ.ev) (ev':=τ.ev) σ.h (fun a d=>by cases a with|t n=>show τ.env n=σ.env n;rw[o];exact sE fun i=>F n i d|k v=>rfl),hr];simp only[IN,fz,St.dg,AI];rw[<-b,qg];congr 1;have:jz τ.env dx v=vA (jz σ.env dx v) dy τ.env:=(by rw[Uy,LV σ.env _ _ hd];rw[<-o]);rw[this]);by_cases O:y.eT=0;rw[qG T dy y σ1 (by omega)] at b;(cases hr:rd T dy y σ1.ev σ1.h with|none=>rw[hr] at b;cases b|some p=>obtain⟨v,w⟩:=p;have r:w=[]:=acR T dy y _ _ O hr;subst r;rw[hr] at b;simp only[IN,fz,St.dg,AI] at b;injection b with b;have o:=xV K c;refine⟨σ.put dy v,?_,?_⟩;rw[qG T dy y σ (by omega),acS T dy y σ.ev σ1.h σ.h O,Et T dy y (ev:=σ1.ev) (ev':=σ.ev) σ1.h (fun a d=>by cases a with|t n=>show σ.env n=σ1.env n;rw[o];exact(sE fun i=>D n i d).symm|k v=>rfl),hr];rfl;rw[qg,PL T dx x σ _ (L σ.env v σ) K,c];simp only[AI];rw[<-b,qg];congr 2;rw[Uy,<-LV σ.env _ _ hd,<-o]);have H:x.eT<=1:=(by omega);have J:y.eT<=1:=(by omega);rw[qG T dx x σ H] at c;cases hr:rd T dx x σ.ev σ.h with|none=>rw[hr] at c;cases c|some p=>obtain⟨v,A⟩:=p;rw[hr] at c;simp only[IN,fz] at c;cases hA:σ.dg A with|none=>rw[hA] at c;cases c|some f=>rw[hA] at c;simp only[AI] at c;injection c with c;rw[qg] at c;subst c;obtain⟨P,N⟩:=AP hA;rw[qG T dy y _ J] at b;have z:rd T dy y (f.we (jz f.env dx v)).ev (f.we (jz f.env dx v)).h=rd T dy y σ.ev σ.h:=(by rw[Et T dy y (ev:=σ.ev) _ (fun a d=>by rw[G σ.env v f a d];cases a with|t n=>show f.env n=σ.env n;rw[N]|k v=>rfl)];exact acP (u:=fun n=>σ.used n=true) T dy y σ.ev (fun n hn=>(P n hn).2) W.box (fun a d m hm=>W.arg (V a d) m hm));rw[z] at b;cases Q5:rd T dy y σ.ev σ.h with|none=>rw[Q5] at b;cases b|some q=>obtain⟨j,R⟩:=q;rw[Q5] at b;simp only[IN,fz,AQ] at b;cases hB:f.dg R with|none=>rw[hB] at b;cases b|some l=>rw[hB] at b;simp only[AI] at b;injection b with b;obtain⟨g,E,S⟩:=RZ hA hB;obtain⟨U,I⟩:=AP E;obtain⟨oab,eab⟩:=AP hB;refine⟨g.put dy j,?_,?_⟩;rw[qG T dy y σ J,Q5];simp[fz,E];rw[qg,qG T dx x _ H];have B:rd T dx x (g.we (jz g.env dy j)).ev (g.we (jz g.env dy j)).h=rd T dx x σ.ev σ.h:=(by rw[Et T dx x (ev:=σ.ev) _ (fun a d=>by rw[L σ.env j g a d];cases a with|t n=>show g.env n=σ.env n;rw[I]|k v=>rfl)];exact acP (u:=fun n=>σ.used n=true) T dx x σ.ev (fun n hn=>(U n hn).2) W.box (fun a d m hm=>W.arg (Q a d) m hm));rw[B,hr];simp only[IN,fz,AQ,S,AI];rw[<-b,qg,qg];congr 1;show l.we (jz (jz g.env dy j) dx v)=l.we (jz (jz f.env dx v) dy j);rw[I,N,LV σ.env _ _ hd]
end
theorem C3 (T:aQ) (o:bO) (σ:St):ez T o σ=(nY o σ.env).bind fun op=>exec T o.dst op σ:=by unfold ez nY;cases hg:o.guard with|none=>rfl|some g=>obtain⟨s,mC⟩:=g;simp only;generalize σ.env s=v;cases v with|one c=>(cases c with|c x=>(cases x with|bool b=>simp only;split<;>rfl|_=>rfl)|_=>rfl)|agg cs=>rfl|bH xs=>cases xs<;>rfl
def bO.vp (o:bO) (n:Nat):Bool:=(o.op.args.all fun a=>match a with|.t m=>m !=n|_=>true)&&(match o.guard with|some (s,_)=>s !=n|none=>true)
def bO.rS (o:bO):Bool:=o.op.args.all MO.flat&&(match o.op with|.store ..=>o.dst.isNone|_=>true)
def CT (x y:bO):Bool:=
 (match x.dst with|some d=>y.vp d&&(match y.dst with|some e=>e !=d|none=>true)|none=>true)&&
 (match y.dst with|some d=>x.vp d|none=>true)&&x.rS&&y.rS&&(x.op.eT==0||y.op.eT==0||(decide (x.op.eT<=1)&&decide (y.op.eT<=1)))
theorem bO.LI {o:bO} {n:Nat} (h:o.vp n=true):MO.t n∉o.op.args:=by intro hm;simp only[bO.vp,co,If] at h;have:=h.1 _ hm;simp at this
theorem J8 {o:bO} {e:Nat->ao} {op:aV} (h:nY o e=some op):op=o.op\/op=.mv (.k (.bH [])):=by unfold nY at h;split at h;injection h with h;exact .inl h.symm;split at h;split at h;injection h with h;exact .inl h.symm;injection h with h;exact .inr h.symm;injection h with h;exact .inr h.symm;cases h
theorem FW {o:bO} {e a:Nat->ao} (h:∀s w,o.guard=some (s,w)->a s=e s):nY o a=nY o e:=by unfold nY;cases hg:o.guard with|none=>rfl|some g=>obtain⟨s,w⟩:=g;simp only;rw[h s w hg]
theorem ahr {T:aQ} {x y:bO} {σ σ1 σ2:St} (W:Wf σ) (z:CT x y=true) (b:ez T x σ=some σ1) (f:ez T y σ1=some σ2): ∃τ,ez T y σ=some τ/\ez T x τ=some σ2:=by simp only[CT,co] at z;obtain⟨⟨⟨⟨i,q⟩,o⟩,m⟩,B⟩:=z;rw[C3] at b f;cases ex:nY x σ.env with|none=>rw[ex] at b;cases b|some d=>rw[ex] at b;have b:exec T x.dst d σ=some σ1:=b;have l:d=x.op\/d=.mv (.k (.bH [])):=J8 ex;have C:∀sz p v,d=.store sz p v->x.dst=none:=(by intro sz p v h;rcases l with rfl|rfl;simp only[bO.rS,co,h] at o;simpa using o.2;cases h);have J:=xV C b;have N:∀s w,y.guard=some (s,w)->x.dst≠some s:=(by intro s w g hd;rw[hd] at i;simp[bO.vp,g] at i);have G:∀s w,x.guard=some (s,w)->y.dst≠some s:=(by intro s w g hd;rw[hd] at q;simp[bO.vp,g] at q);have H:nY y σ1.env=nY y σ.env:=FW fun s w g=>(by rw[J];exact sE (N s w g));rw[H] at f;cases ey:nY y σ.env with|none=>rw[ey] at f;cases f|some c=>rw[ey] at f;have f:exec T y.dst c σ1=some σ2:=f;have r:c=y.op\/c=.mv (.k (.bH [])):=J8 ey;have u:∀sz p v,c=.store sz p v->y.dst=none:=(by intro sz p v h;rcases r with rfl|rfl;simp only[bO.rS,co,h] at m;simpa using m.2;cases h);have M:∀a∈d.args,a.flat=true:=(by rcases l with rfl|rfl;simp only[bO.rS,co,If] at o;exact o.1;intro a j;simp[aV.args] at j;subst j;rfl);have L:∀a∈c.args,a.flat=true:=(by rcases r with rfl|rfl;simp only[bO.rS,co,If] at m;exact m.1;intro a j;simp[aV.args] at j;subst j;rfl);have E:∀n,x.dst=some n->MO.t n∉c.args:=(by intro n hd;rcases r with rfl|rfl;rw[hd] at i;simp only[co] at i;exact bO.LI i.1;simp[aV.args]);have F:∀n,y.dst=some n->MO.t n∉d.args:=(by intro n hd;rcases l with rfl|rfl;rw[hd] at q;exact bO.LI q;simp[aV.args]);have I:∀n,x.dst=some n->y.dst≠some n:=(by intro n hd h;rw[hd,h] at i;simp at i);have K:d.eT=0\/c.eT=0\/(d.eT<=1/\c.eT<=1):=(by rcases l with rfl|rfl;rcases r with rfl|rfl;simp only[zaV,beq_iff_eq,co,decide_eq_true_eq,or_assoc] at B;exact B;exact .inr (.inl rfl);exact .inl rfl);obtain⟨τ,A,D⟩:=V1 W I E F M L C u K b f;refine⟨τ,?_,?_⟩;rw[C3,ey];exact A;rw[C3,FW (e:=σ.env) (fun s w g=>by rw[xV u A];exact sE (G s w g)),ex];exact D
def Fp (P:Program) (f:FuncId) (M:List Dv->Option (List Dv)):Prop:=
 ∀ds rs,M ds=some rs->∀(w:World) (vals:List Value),Fg w ds vals->Calls P f vals.toArray w fun e w'=>
  ∃(sz cap:Nat) (a:Option Addr) (xs:List (List PC)),rs=[(.one,[(PC.list sz a cap xs).er])]/\e=.returned (PC.list sz a cap xs).val/\xH w' w.heap.size [PC.list sz a cap xs]/\Fr w.heap.size Ex.no w w'/\s7 w' sz xs
theorem Fp.pure {P:Program} {f:FuncId} {M:List Dv->Option (List Dv)} (h:Fp P f M):dd P f M:=by intro ds k i w vals j;refine(h ds k i w vals j).mono fun e w' ⟨sz,cap,a,xs,g,l,c,d,_⟩=>?_;refine⟨[(.one,[PC.list sz a cap xs])],by rw[g];rfl,l,fun p b=>?_,by simpa using c,d⟩;simp at b;subst b;exact⟨by simp,fun _=>rfl⟩
def agk (P:Program) (T:aQ):Prop:=∀f M,aQ.find T.ns f=some M->Fp P f M
def O7 (ops:Array Oper) (o:Oper) (mo:bO):Bool:=
 match o.guard,mo.guard with
 |none,none=>true
 |some (j,mC),some (s,afW)=>decide ((ops[j]?).bind (·.dst)=some s)&&(mC==afW)
 |_,_=>false
def qE (P:Program) (N:Nat) (ops:Array Oper) (o:Oper) (mo:bO):Bool:=
 decide (o.dst=mo.dst)&&(match o.dst with|some n=>decide (n<N)|none=>true)&&O7 ops o mo&&fH P o mo.op
def jW (P:Program) (N:Nat) (ops:Array Oper):List Oper->List bO->Bool
 |[],[]=>true
 |o::os,m::ms=>qE P N ops o m&&jW P N ops os ms
 |_,_=>false
section
variable {B:Nat} {E:Ex} {w0 w w':World} {G G':Gh} {N:Nat}
variable {P:Program} {T:aQ} {o:Oper} {mo:bO} {a:Act} {σ σ':St} {Q:Exit->Act->World->Prop} {ops:Array Oper}
structure m4 (P:Program) (T:aQ):Prop where
 spec:Cp P T
 aeZ:Jx P T
 ae0:Cq P T
 ae1:xI P T
 ato:agk P T
 fn:∀f M,aQ.find T.pure f=some M->bL P f=true
theorem R.guard (r:R B E w0 N σ a w G) {j s:Nat} {b:Bool} (f:(ops[j]?).bind (·.dst)=some s) (g:σ.env s=.one (.c (.bool b))):yielded ops a.tmps j=some b:=by have e:=r.env s;rw[g] at e;have d:=e.CF;have h:a.tmps[s]? =some (.bool b):=(by rw[zay] at d;cases ht:a.tmps[s]? with|none=>rw[ht] at d;simp[undef] at d|some v=>rw[ht] at d;simp at d;rw[d]);unfold yielded;rw[f];simp[h]
theorem aeN {w:World} {G:Gh} {h:Nat->Option ar}:RA w G h (.bH []) undef:=⟨[],rfl,rfl,fun j x u hx=>by simp at hx⟩
theorem aeO {u:Nat->Prop} (m:Nat) (hm:(ao.bH []).ref m):u m:=by obtain⟨c,a,_⟩:=hm;cases a
theorem R.ajZ (r:R B E w0 N σ a w G) {j s:Nat} (d:(ops[j]?).bind (·.dst)=some s) (e:σ.env s=.bH []):yielded ops a.tmps j=none:=by have c:=r.env s;rw[e] at c;obtain⟨vs,b,f,_⟩:=c;have:vs=[]:=zaI.1 f;subst this;rw[zay] at b;unfold yielded;rw[d];simp only[IN];cases ht:a.tmps[s]? with|none=>rfl|some v=>rw[ht] at b;simp only[za9] at b;subst b;rfl
theorem F7 (r:R B E w0 N σ a w G) (c:m4 P T) (l:qE P N ops o mo=true) (hx:ez T mo σ=some σ'): (Region.wanted o (yielded ops a.tmps)=true/\o.wp P a w (Nx B E w0 N σ') Q)\/(Region.wanted o (yielded ops a.tmps)=false/\Nx B E w0 N σ' (a.put o.dst undef) w):=by simp only[qE,co,decide_eq_true_eq] at l;obtain⟨⟨⟨g,q⟩,d⟩,m⟩:=l;have f:∀n,o.dst=some n->n<N:=fun n hn=>(by rw[hn] at q;simpa using q);unfold O7 at d;unfold ez at hx;split at d;rename_i e k;simp only[k] at hx;rw[<-g] at hx;exact .inl ⟨by simp[Region.wanted,e],WL r c.spec c.aeZ c.ae0 c.ae1 c.fn f m hx⟩;rename_i j mC s afW e k;simp only[co,decide_eq_true_eq,beq_iff_eq] at d;obtain⟨p,rfl⟩:=d;simp only[k] at hx;split at hx;rename_i b h;have hy:=r.guard p h;split at hx;rename_i i;rw[<-g] at hx;exact .inl ⟨by simp[Region.wanted,e,hy,i],WL r c.spec c.aeZ c.ae0 c.ae1 c.fn f m hx⟩;rename_i i;injection hx with hx;subst hx;refine .inr ⟨by simp[Region.wanted,e,hy,i],G,?_⟩;rw[<-g];exact r.put (x:=.bH []) aeN aeO f;rename_i h;have hy:=r.ajZ p h;injection hx with hx;subst hx;refine .inr ⟨by simp[Region.wanted,e,hy],G,?_⟩;rw[<-g];exact r.put (x:=.bH []) aeN aeO f;cases hx;cases d
theorem R.wf (r:R B E w0 N σ a w G):Wf σ:=⟨r.qq,r.hr.iK⟩
theorem as1 {K:Act->World->Prop} (h:o.wp P a w K (fun _ _ _=>False)):∃f w',K f w':=by unfold Oper.wp at h;unfold Oper.upon at h;split at h;exact⟨_,_,h⟩;exact⟨_,_,h⟩;exact⟨_,_,h⟩;obtain⟨e,w',fr,b,_⟩:=h [];(cases e with|returned v=>exact⟨_,_,b⟩|panicked c=>exact b.elim|outgrown=>obtain⟨_,_,d⟩:=b;exact d.elim);obtain⟨v,w',b,_⟩:=h default [];exact⟨_,_,b⟩;exact h.elim;exact h.elim
def Jw (B:Nat) (E:Ex) (w0:World) (N:Nat) (σ:St):Prop:=∃a w G,R B E w0 N σ a w G
theorem acV (r:Jw B E w0 N σ) (c:m4 P T) (b:qE P N ops o mo=true) (hx:ez T mo σ=some σ'):Jw B E w0 N σ':=by obtain⟨a,w,G,r⟩:=r;rcases F7 (Q:=fun _ _ _=>False) r c b hx with⟨_,h⟩|⟨_,G',h⟩;obtain⟨d,w',G',h⟩:=as1 h;exact⟨d,w',G',h⟩;exact⟨_,_,G',h⟩
theorem UJ (c:m4 P T):∀{l:List Oper} {ms:List bO} {σ σ':St} {a:Act} {w:World} {G:Gh},jW P N ops l ms=true->fy T ms σ=some σ'->R B E w0 N σ a w G-> (∀a w G,R B E w0 N σ' a w G->Q .normal a w)->wpList P ops Q l a w
 |[],[],σ,σ',a,w,G,hc,hx,r,hQ=>by simp only[fy] at hx;injection hx with hx;subst hx;exact hQ _ _ _ r
 |o::l,m::ms,σ,σ',a,w,G,hc,hx,r,hQ=>by simp only[jW,co] at hc;simp only[fy] at hx;split at hx;rename_i σ1 d;unfold wpList;rcases F7 (Q:=Q) r c hc.1 d with⟨b,h⟩|⟨b,G',h⟩;rw[ak b];exact .inl (Oper.wp_mono (fun a' w' ⟨G',e⟩=>UJ c hc.2 hx e hQ) h);rw[aq (by simp[b])];exact UJ c hc.2 hx h hQ;cases hx
 |[],_::_,_,_,_,_,_,hc,_,_,_=>by simp[jW] at hc
 |_::_,[],_,_,_,_,_,hc,_,_,_=>by simp[jW] at hc
def rR (T:aQ) (ms:List bO):List Nat->St->Option St
 |[],σ=>some σ
 |i::L,σ=>match ms[i]? with
  |some o=>match ez T o σ with
   |some σ1=>rR T ms L σ1
   |none=>none
  |none=>none
inductive ub (ops:Array Oper):Nat->Nat->Prop where
 |Wr (i:Nat) (o:Oper) (e:_):ops[i]? =some o->e∈o.after->Region.binds .any e=true->ub ops i e.on
 |step (i j:Nat) (o:Oper) (e:_):ops[i]? =some o->e∈o.after->Region.binds .any e=true->ub ops e.on j->ub ops i j
def PD (o:Oper):List Nat:=(o.after.toList.filter (Region.binds .any)).map (·.on)
def HT (dH:List Nat):List Nat->Nat
 |[]=>0
 |j::js=>(Nat.shiftLeft 1 j|||dH.getD j 0)|||HT dH js
def Eb:List Oper->List Nat->List Nat
 |[],dH=>dH
 |o::os,dH=>Eb os (dH++[HT dH (PD o)])
theorem anC {o:Oper} {j:Nat} (h:j∈PD o):∃e∈o.after,Region.binds .any e=true/\e.on=j:=by unfold PD at h;simp only[GB,zaU] at h;obtain⟨e,⟨c,b⟩,a⟩:=h;exact⟨e,zaY.1 c,b,a⟩
theorem aaG {b:List Nat}:∀{a:List Nat} {k:Nat},(HT b a).testBit k=true->∃j∈a,j=k\/(b.getD j 0).testBit k=true
 |[],k,h=>by simp[HT] at h
 |j::a,k,h=>by simp only[HT,Nat.testBit_or,zaV] at h;rcases h with(h|h)|h;refine⟨j,by simp,.inl ?_⟩;have h':(1<<<j).testBit k=true:=h;rw[Nat.one_shiftLeft,Nat.testBit_two_pow] at h';exact of_decide_eq_true h';exact⟨j,by simp,.inr h⟩;obtain⟨d,e,c⟩:=aaG h;exact⟨d,by simp[e],c⟩
theorem SD {ops:Array Oper}:∀(os:List Oper) (b:List Nat) (pre:List Oper),ops.toList=pre++os->b.length=pre.length->(∀i k,(b.getD i 0).testBit k=true->ub ops i k)-> ∀i k,((Eb os b).getD i 0).testBit k=true->ub ops i k
 |[],b,pre,_,_,h,i,k,a=>h i k a
 |o::os,b,pre,he,hl,h,i,k,a=>by refine SD os _ (pre++[o]) (by simp[he]) (by simp[hl]) (fun i k a=>?_) i k a;by_cases m:i<b.length;rw[zaa,zaG m,<-zaa] at a;exact h i k a;by_cases l:i=b.length;subst l;rw[zaa,zaj (zad _),za7] at a;simp only[zaJ,za9] at a;have g:ops[b.length]? =some o:=(by have:ops.toList[b.length]? =some o:=(by rw[he,hl,zaj (zad _),za7];rfl);simpa using this);obtain⟨j,n,c⟩:=aaG a;obtain⟨e,f,d,rfl⟩:=anC n;rcases c with rfl|c;exact .Wr _ o e g f d;exact .step _ _ o e g f d (h _ _ c);rw[zaa,zaT (by simp;omega)] at a;simp at a
def JP (ops:List Oper) (ms:List bO):Bool:=
 (fun ks:List Nat=>(zaX ops.length).all fun i=>match ops[i]?,ms[i]? with
  |some o,some m=>(o.after.toList.all fun e=> !Region.binds .any e||decide (e.on<i))&&
   (zaX i).all fun j=>(ks.getD i 0).testBit j||(match ms[j]? with|some mj=>CT mj m|none=>false)
  |_,_=>false) (Eb ops [])
structure UQ (ops:Array Oper) (ms:List bO):Prop where
 back:∀(i:Nat) (o:Oper),ops[i]? =some o->∀e∈o.after,Region.binds .any e=true->e.on<i
 pair:∀(i j:Nat) (o:Oper) (m:bO),ops[i]? =some o->ms[i]? =some m->j<i->ub ops i j\/∃mj,ms[j]? =some mj/\CT mj m=true
theorem ahc {ms:List bO} (h:JP ops.toList ms=true):UQ ops ms:=by
  simp only[JP,If,za0] at h;have l:∀(i:Nat) (o:Oper),ops[i]? =some o->∃m,ms[i]? =some m/\(o.after.toList.all fun e=> !Region.binds .any e||decide (e.on<i))=true/\
        ∀j,j<i->(((Eb ops.toList []).getD i 0).testBit j||(match ms[j]? with|some g=>CT g m|none=>false))=true:=by
    intro i o c;have p:i<ops.toList.length:=by simpa using(zao.1 c).1
    have a:=h i p;have q:ops.toList[i]? =some o:=by simpa using c
    rw[q] at a;cases hm:ms[i]? with
    |none=>rw[hm] at a;cases a
    |some m=>
     rw[hm] at a;simp only[co,If,za0] at a;exact⟨m,rfl,by rw[If];exact a.1,a.2⟩
  refine⟨fun i o c e n f=>?_,fun i j o m c hm t=>?_⟩
  · obtain⟨m,_,s,_⟩:=l i o c;have:=If.1 s e (zaY.2 n);simp[f] at this;exact this
  · obtain⟨m',d,_,r⟩:=l i o c;rw[hm] at d;injection d with d;subst d;have:=r j t;rw[zaV] at this;rcases this with b|b
    · exact .inl (SD ops.toList [] [] rfl rfl (by intro i k f;simp at f) i j b)
    · cases Dy:ms[j]? with
      |none=>rw[Dy] at b;cases b
      |some g=>rw[Dy] at b;exact .inr ⟨g,rfl,b⟩
def NB (ops:Array Oper) (dU:Array Bool):Prop:=
 ∀(k:Nat) (o:Oper),ops[k]? =some o->dU.getD k true=true->∀e∈o.after,Region.binds .any e=true->dU.getD e.on true=true
theorem VB {c:Array Bool} (f:NB ops c) {i j:Nat} (a:ub ops i j):(∀o,ops[i]? =some o->∀e∈o.after,Region.binds .any e=true->c.getD e.on true=true)->c.getD j true=true:=by induction a with|Wr i o e d b a=>exact fun h=>h o d e b a|step i j o e d b a _ g=>exact fun h=>g fun l k=>f _ l k (h o d e b a)
theorem WO (n:m4 P T) {ms:List bO} (h:∀(i:Nat) (m:bO),ms[i]? =some m->∃o,ops[i]? =some o/\qE P N ops o m=true) {i:Nat} {c:bO} (g:ms[i]? =some c) {post:List Nat} {f:St}: ∀{pre:List Nat} {σ:St},Jw B E w0 N σ->rR T ms (pre++i::post) σ=some f->(∀j∈pre,∃b,ms[j]? =some b/\CT b c=true)-> ∃τ,ez T c σ=some τ/\rR T ms (pre++post) τ=some f
 |[],σ,hr,hx,hc=>by simp only[zbb,rR,g] at hx;split at hx;rename_i σ1 e;exact⟨σ1,e,hx⟩;cases hx
 |j::pre,σ,hr,hx,hc=>by obtain⟨b,d,v⟩:=hc j (by simp);simp only[zaN,rR,d] at hx;split at hx;rename_i σ1 l;obtain⟨oj,_,s⟩:=h j b d;obtain⟨qt,t,q⟩:=WO n h g (acV hr n s l) hx (fun k x=>hc k (by simp[x]));obtain⟨a,w,G,r⟩:=hr;obtain⟨τ,u,p⟩:=ahr r.wf v l t;exact⟨τ,u,by simp only[zaN,rR,d,p];exact q⟩;cases hx
theorem asY (X:m4 P T) {ms:List bO} (W:∀(i:Nat) (m:bO),ms[i]? =some m->∃o,ops[i]? =some o/\qE P N ops o m=true) (hlen:ms.length=ops.size) (hd:UQ ops ms) {O:St} (V:∀a w G,R B E w0 N O a w G->Q .normal a w): ∀(p:Nat) (L:List Nat) (b:Array Bool) (σ:St) (a:Act) (w:World) (G:Gh),R B E w0 N σ a w G->rR T ms L σ=some O->L.Pairwise (·<·)->L.length<=p->b.size=ops.size-> (∀j,j∈L↔b.getD j true=false)->NB ops b->wpAny P .any ops Q p b a w:=by(have first:∀(L:List Nat) (b:Array Bool),L.Pairwise (·<·)->b.size=ops.size->(∀j,j∈L↔b.getD j true=false)->Region.ready .any ops b=[]->L=[]:=by intro L b z u hL hr;cases L with|nil=>rfl|cons j L=>exfalso;have A:=(hL j).1 (by simp);have H:j<ops.size:=(by rw[<-u];rcases zbf j b.size with h|h;exact h;simp[zaP h] at A);have c:ops[j]? =some ops[j]:=Array.getElem?_eq_getElem H;have:j∈Region.ready .any ops b:=(by rw[mem_ready];refine⟨A,_,c,fun e f d=>?_⟩;have cm:=hd.back j _ c e f d;have n9:e.on∉j::L:=(by intro hm;cases hm with|head=>omega|tail _ hm=>have:=(zaE.1 z).1 _ hm;omega);have M:b.getD e.on true≠false:=fun h=>n9 ((hL e.on).2 h);have v:e.on<b.size:=(by omega);simp[v] at M⊢;exact M);rw[hr] at this;cases this);intro p;induction p with|zero=>intro L b σ a w G r hx z hl u hL J;have F:L=[]:=IS (by omega);subst F;simp only[rR] at hx;injection hx with hx;subst hx;refine⟨?_,V _ _ _ r⟩;(cases hr:Region.ready .any ops b with|nil=>rfl|cons i l=>have hm:i∈Region.ready .any ops b:=(by rw[hr];simp);have:=(hL i).2 (mem_ready.1 hm).1;cases this)|succ p ih=>intro L b σ a w G r hx z hl u hL J;refine⟨fun hr=>?_,fun i hi=>?_⟩;(have F:=first L b z u hL hr);subst F;simp only[rR] at hx;injection hx with hx;subst hx;exact V _ _ _ r;obtain⟨QE,oi,g,Y⟩:=mem_ready.1 hi;have GG:i∈L:=(hL i).2 QE;obtain⟨pre,post,rfl⟩:=List.append_of_mem GG;have GH:i<ops.size:=(zao.1 g).1;have K:ms[i]? =some ms[i]:=AT (by omega);obtain⟨o',C,uQ⟩:=W i _ K;rw[g] at C;injection C with C;subst C;have s:=zaZ.1 z;obtain⟨τ,t1,t2⟩:=WO (ops:=ops) X W K ⟨a,w,G,r⟩ hx (fun j A=>by have t:j<i:=s.2.2 j A i (by simp);rcases hd.pair i j oi _ g K t with Qk|h;have n:=VB J Qk (fun o c e f d=>by rw[g] at c;injection c with c;subst c;have n:=Y e f d;have cm:=hd.back i _ g e f d;have v:e.on<b.size:=(by omega);simp[v] at n⊢;exact n);have h2:=(hL j).1 (by simp[A]);rw[n] at h2;cases h2;exact h);have GU:∀D w',Nx B E w0 N τ D w'->wpAny P .any ops Q p (b.setIfInBounds i true) D w':=(by rintro D w' ⟨G',r'⟩;refine ih (pre++post) _ τ D w' G' r' t2 ?_ (by simp at hl⊢;omega) (by simpa using u) (fun j=>?_) (fun k o c Z e f d=>?_);rw[zaZ];exact⟨s.1,(zaE.1 s.2.1).2,fun x hx y hy=>s.2.2 x hx y (by simp[hy])⟩;by_cases t:j=i;subst t;have H:j<b.size:=(by omega);simp only[BY];constructor;rintro(h|h);have:=s.2.2 j h j (by simp);omega;have:=(zaE.1 s.2.1).1 j h;omega;intro h;simp[H] at h;rw[getD_set_ne true (zaH t),<-hL j];simp[t];have GM:∀q,b.getD q true=true->(b.setIfInBounds i true).getD q true=true:=(by intro q hq;by_cases S:q=i;subst S;have:q<b.size:=(by omega);simp[this];rw[getD_set_ne true (zaH S)];exact hq);by_cases U:k=i;subst U;rw[g] at c;injection c with c;subst c;have n:=Y e f d;have cm:=hd.back k _ g e f d;have v:e.on<b.size:=(by omega);refine GM _ ?_;simp[v] at n⊢;exact n;rw[getD_set_ne true (zaH U)] at Z;exact GM _ (J k o c Z e f d));unfold wpOp;rw[g];simp only;rcases F7 (Q:=Q) r X uQ t1 with⟨I,h⟩|⟨I,h⟩;rw[ak I];exact .inl (Oper.wp_mono GU h);rw[aq (by simp[I])];exact GU _ _ h
theorem WN:∀(post pre:List bO) (σ:St),rR T (pre++post) (List.range' pre.length post.length) σ=fy T post σ
 |[],pre,σ=>by simp[rR,fy]
 |m::post,pre,σ=>by simp only[zau,List.range'_succ,rR,fy];rw[zaj (zad _),za7];simp only[zaJ];cases ez T m σ with|none=>rfl|some σ1=>have:=WN post (pre++[m]) σ1;simp only[za6,zau,zaz,List.append_assoc,List.singleton_append,za8] at this;exact this
theorem Pb:∀{l:List Oper} {ms:List bO},jW P N ops l ms=true->ms.length=l.length/\∀(i:Nat) (m:bO),ms[i]? =some m->∃o,l[i]? =some o/\qE P N ops o m=true
 |[],[],_=>⟨rfl,by simp⟩
 |o::l,m::ms,hc=>by simp only[jW,co] at hc;obtain⟨c,a⟩:=Pb hc.2;refine⟨by simp[c],fun i b hm=>?_⟩;cases i with|zero=>simp at hm;subst hm;exact⟨o,rfl,hc.1⟩|succ i=>exact a i b (by simpa using hm)
 |[],_::_,hc=>by simp[jW] at hc
 |_::_,[],hc=>by simp[jW] at hc
theorem R.drawn (r:R B E w0 N σ a w G) (k:Nat):R B E w0 N σ a {w with drawn:=k} G:=by have c:∀b,b<w.heap.size->({w with drawn:=k}:World).heap[b]? =w.heap[b]? :=fun _ _=>rfl;exact r.step rfl (fun _ h=>h) (bu.world (fun b d=>c b (r.hr.gN b d)) _) (r.hr.grow c (zad _)) (r.fr.grow c (zad _) rfl rfl rfl)
theorem aqO (f:m4 P T) (hm:P.follows .mixedOrders=true) {id:Nat} {c:Bool} {ms:List bO} (d:jW P N ops ops.toList ms=true) (hd:c=true->JP ops.toList ms=true) (hx:fy T ms σ=some σ') (r:R B E w0 N σ a w G) (e:∀a w G,R B E w0 N σ' a w G->Q .normal a w):(Code.region id ops c).wp P Q a w:=by cases c with|false=>exact wp_region_list (UJ f d hx r e)|true=>obtain⟨q,l⟩:=Pb d;have b:ms.length=ops.size:=(by simpa using q);refine wp_region_any hm (asY (B:=B) (E:=E) (w0:=w0) (N:=N) f (fun i m h=>by obtain⟨o,g,s⟩:=l i m h;exact⟨o,by simpa using g,s⟩) b (ahc (hd rfl)) e ops.size (zaX ops.size) _ σ a _ G (r.drawn _) ?_ ?_ (by simp) (by simp) (fun j=>?_) (fun k o t n=>?_));have:=WN (T:=T) ms [] σ;simp only[zbb,zaz,b,<-List.range_eq_range'] at this;rw[this];exact hx;exact List.pairwise_lt_range;rw[za0];constructor;intro h;simp[h];intro h;rcases zbf j ops.size with h'|h';exact h';simp[zaP (show(Array.replicate ops.size false).size<=j by simpa using h')] at h;exfalso;have p:k<ops.size:=(zao.1 t).1;simp[p] at n
end
theorem Tj (ok:Nat->Bool) (env:Nat->ao):∀(a:List Nat) (n:Nat),w9 ok env a n=if n∈a then(env n).df ok else .one .bC
 |[],n=>by simp[w9,C0]
 |s::a,n=>by simp only[w9,kE,Tj ok env a,zam];by_cases h:n=s;subst h;simp;simp[h]
theorem L3 (ok:Nat->Bool) (h:Nat->Option ar):∀(d:List Nat) (n:Nat),sG ok h d n=if n∈d/\ok n=true then(h n).map (·.df ok) else none
 |[],n=>by simp[sG,C1]
 |s::d,n=>by have c:=L3 ok h d n;simp only[sG,zam];by_cases hn:n=s;subst hn;by_cases a:ok n=true;rw[ak a];(cases hh:h n with|some b=>simp[cr,a]|none=>simp only[c,hh];simp);rw[aq a,c];simp[a];by_cases a:ok s=true;rw[ak a];(cases hh:h s with|some b=>simp only[cQ _ _ _ _ hn,c];simp[hn]|none=>simp only[c];simp[hn]);rw[aq a,c];simp[hn]
theorem ac6 (ok:Nat->Bool):∀(b:List Nat) (n:Nat),xc ok b n=(decide (n∈b)&&ok n)
 |[],n=>by simp[xc,Wu]
 |s::b,n=>by have c:=ac6 ok b n;simp only[xc];by_cases hn:n=s;subst hn;by_cases a:ok n=true;rw[ak a];simp[cr,a];rw[aq a,c];simp[a];by_cases a:ok s=true;rw[ak a,cQ _ _ _ _ hn,c];simp[hn];rw[aq a,c];simp[hn]
theorem ah.ahg {ok:Nat->Bool} {c:ah} {m:Nat} (h:(c.fN ok).ie m):ok m=true:=by(cases c<;>simp only[ah.fN] at h<;>first|exact h.elim|skip);all_goals split at h;rename_i a;have h':=h;simp only[ah.ie] at h';subst h';exact a;exact h.elim
theorem ah.CQ {ok:Nat->Bool} {c:ah} {m:Nat} (h:(c.df ok).ref m):ok m=true:=by cases c with|fn f dR=>obtain⟨x,hx,h⟩:=h;obtain⟨y,hy,rfl⟩:=GB.1 hx;exact ah.ahg h|c x=>exact h.elim|nil sz=>exact h.elim|di xs off=>exact h.elim|bC=>exact h.elim|ptr n k sz off=>simp only[ah.df,ah.fN] at h;split at h;rename_i a;have h':m=n:=h;subst h';exact a;exact h.elim|sl n sz lo len=>simp only[ah.df,ah.fN] at h;split at h;rename_i a;have h':m=n:=h;subst h';exact a;exact h.elim|bz n k b off sz len=>simp only[ah.df,ah.fN] at h;split at h;rename_i a;have h':m=n:=h;subst h';exact a;exact h.elim|cX n k b off sz i=>simp only[ah.df,ah.fN] at h;split at h;rename_i a;have h':m=n:=h;subst h';exact a;exact h.elim|cO xs off j n sz len=>simp only[ah.df,ah.fN] at h;split at h;rename_i a;have h':m=n:=h;subst h';exact a;exact h.elim
section
variable {B:Nat} {E:Ex} {w0 w w':World} {G G':Gh} {N:Nat} {h h':Nat->Option ar} {ok:Nat->Bool}
variable {P:Program} {T:aQ} {a:Act} {σ σ':St} {Q:Exit->Act->World->Prop}
structure qu (ok:Nat->Bool) (h h':Nat->Option ar):Prop where
 le:∀n,ok n=true->h' n=(h n).map (·.df ok)\/h' n=none
 no:∀n,ok n=false->h' n=none
theorem qu.ne (L:qu ok h h') {n:Nat} (hn:h' n≠none):ok n=true/\h n≠none:=by cases hk:ok n with|false=>exact absurd (L.no n hk) hn|true=>refine⟨rfl,fun e=>?_⟩;rcases L.le n hk with a|a;rw[e] at a;exact hn a;exact hn a
theorem qu.row (L:qu ok h h') {n:Nat} {a:Bool} {m:Mode} {sz:Nat} {xs:List (List C)} (hn:h' n=some (.row a m sz xs)):h n=some (.row a m sz xs):=by obtain⟨e,d⟩:=L.ne (n:=n) (by rw[hn];simp);rcases L.le n e with c|c;rw[c] at hn;(cases hh:h n with|none=>exact absurd hh d|some b=>cases b with|box cs=>rw[hh] at hn;simp[ar.df] at hn|row a m sz xs=>rw[hh] at hn;simp only[AI,ar.df] at hn;exact hn);rw[c] at hn;cases hn
theorem qu.box (L:qu ok h h') {n:Nat} {cs:List ah} (hn:h' n=some (.box cs)):∃a,h n=some (.box a)/\cs=a.map (·.df ok):=by obtain⟨e,d⟩:=L.ne (n:=n) (by rw[hn];simp);rcases L.le n e with c|c;rw[c] at hn;(cases hh:h n with|none=>exact absurd hh d|some b=>cases b with|box a=>rw[hh] at hn;simp only[AI,ar.df] at hn;injection hn with hn;injection hn with hn;exact⟨a,rfl,hn.symm⟩|row gr m sz xs=>rw[hh] at hn;simp[ar.df] at hn);rw[c] at hn;cases hn
theorem iC.less (L:qu ok h h') {c:ah} {v:Value} (a:iC w G h c v):iC w G h' (c.fN ok) v:=by cases c with|ptr n k sz off=>simp only[ah.fN];split;exact fun hn=>a (L.ne hn).2;trivial|sl n sz lo len=>simp only[ah.fN];split;exact fun hn=>a (L.ne hn).2;trivial|bz n k r off sz len=>simp only[ah.fN];split;exact fun d xs hn=>a d xs (L.row hn);trivial|cX n k r off sz i=>simp only[ah.fN];split;exact fun d xs hn=>a d xs (L.row hn);trivial|cO xs off j n sz len=>simp only[ah.fN];split;obtain⟨b,o,pe,q,s,g,p,e⟩:=a;obtain⟨u,l,u2,m⟩:=e;exact⟨b,o,pe,q,s,g,p,u,l,u2,fun hn=>m (L.ne hn).2⟩;trivial|c x=>exact a|nil sz=>exact a|di xs off=>exact a|fn f dR=>exact a|bC=>exact a
theorem RC.less (L:qu ok h h') {c:ah} {v:Value} (a:RC w G h c v):RC w G h' (c.df ok) v:=by cases c with|fn f m=>obtain⟨vs,o,p,g⟩:=a;refine⟨vs,o,by simpa using p,fun j c u b l=>?_⟩;rw[AN] at b;(cases a:m[j]? with|none=>rw[a] at b;cases b|some e=>rw[a] at b;simp at b;subst b;exact⟨(g j e u a l).1,(g j e u a l).2.less L⟩)|ptr n k sz off=>have:=iC.less (w:=w) (G:=G) L (c:=.ptr n k sz off) a;simp only[ah.df];rw[vL];exact this;simp only[ah.fN];split<;>rfl|sl n sz lo len=>have:=iC.less (w:=w) (G:=G) L (c:=.sl n sz lo len) a;simp only[ah.df];rw[vL];exact this;simp only[ah.fN];split<;>rfl|bz n k d off sz len=>have:=iC.less (w:=w) (G:=G) L (c:=.bz n k d off sz len) a;simp only[ah.df];rw[vL];exact this;simp only[ah.fN];split<;>rfl|cX n k d off sz i=>have:=iC.less (w:=w) (G:=G) L (c:=.cX n k d off sz i) a;simp only[ah.df];rw[vL];exact this;simp only[ah.fN];split<;>rfl|cO xs off j n sz len=>have:=iC.less (w:=w) (G:=G) L (c:=.cO xs off j n sz len) a;simp only[ah.df];rw[vL];exact this;simp only[ah.fN];split<;>rfl|c x=>exact a|nil sz=>exact a|di xs off=>exact a|bC=>exact a
theorem dA.less (L:qu ok h h') {cs:List ah} {vs:List Value} (b:dA w G h cs vs):dA w G h' (cs.map (·.df ok)) vs:=by refine⟨by simpa using b.1,fun j c u a e=>?_⟩;rw[AN] at a;cases dK:cs[j]? with|none=>rw[dK] at a;cases a|some d=>rw[dK] at a;simp at a;subst a;exact⟨(b.2 j d u dK e).1,(b.2 j d u dK e).2.less L⟩
theorem RV.less (L:qu ok h h') {ag:Bool} {cs:List ah} {v:Value} (a:RV w G h ag cs v):RV w G h' ag (cs.map (·.df ok)) v:=by unfold RV at*;split;rename_i b;simp only[b,if_true] at a;obtain⟨vs,e,c⟩:=a;exact⟨vs,e,c.less L⟩;rename_i b;simp only[b] at a;exact dA.less L a
theorem RA.less (L:qu ok h h') {x:ao} {v:Value} (b:RA w G h x v):RA w G h' (x.df ok) v:=by cases x with|one c=>rcases b with rfl|b;exact zbj rfl;exact Or.inr (RV.less L b)|agg cs=>exact RV.less L b|bH xs=>obtain⟨vs,e,hl,d⟩:=b;refine⟨vs,e,by simpa using hl,fun j x u a g=>?_⟩;rw[AN] at a;cases dK:xs[j]? with|none=>rw[dK] at a;cases a|some f=>rw[dK] at a;simp at a;subst a;exact RV.less L (d j f u dK g)
theorem ao.CQ {x:ao} {m:Nat} (h:(x.df ok).ref m):ok m=true:=by cases x with|one c=>exact ah.CQ h|agg cs=>obtain⟨c,a,h⟩:=h;obtain⟨d,b,rfl⟩:=GB.1 a;exact ah.CQ h|bH xs=>obtain⟨x,hx,c,a,h⟩:=h;obtain⟨x0,hx0,rfl⟩:=GB.1 hx;obtain⟨d,b,rfl⟩:=GB.1 a;exact ah.CQ h
theorem HR.less {used:Nat->Bool} (H:HR B E w G h used []) (L:qu ok h h'):HR B E w G h' ok []:=by refine⟨fun n hn=>(L.ne hn).1,fun m cs c n hm s hr=>?_,fun n cs hn=>?_,fun n a m sz xs hn=>H.row n a m sz xs (L.row hn),fun n hn=>H.own n (L.ne hn).2,fun n f hn g=>H.inj n f (L.ne hn).2 (L.ne g).2, H.gN,H.qY,fun n f a m sz xs C D o t hn g=>H.gw n f a m sz xs C D o t (L.row hn) (L.row g),fun n a sz xs hn b q f g=>H.live n a sz xs (L.row hn) b q f (L.ne g).2,?_,?_,?_⟩;obtain⟨k,_,rfl⟩:=L.box hm;obtain⟨l,_,rfl⟩:=GB.1 s;exact ah.CQ hr;obtain⟨k,y,rfl⟩:=L.box hn;obtain⟨p,A,u⟩:=H.box n k y;refine⟨p,A,fun j c d=>?_⟩;rw[AN] at d;(cases dK:k[j]? with|none=>rw[dK] at d;cases d|some l=>rw[dK] at d;simp at d;subst d;obtain⟨v,r,x,z⟩:=u j l dK;exact⟨v,r,x,z.less L⟩);intro i pc e;simp at e;intro i j pc dQ b _ e;simp at e;intro i pc n a m sz xs b e;simp at e
theorem HR.asK {used used':Nat->Bool} (H:HR B E w G h used []) (a:∀n,used n=true->used' n=true):HR B E w G h used' []:= ⟨fun n hn=>a n (H.jp n hn),fun m cs c n hm b hr=>a n (H.iK m cs c n hm b hr),H.box,H.row,H.own,H.inj,H.gN,H.qY,H.gw,H.live,H.sU,H.xq,H.sV⟩
theorem SU {ke a:List Nat} {n:Nat} (hn:σ.j6 ke a n=true):n∈a:=by simp only[St.j6,co] at hn;simpa using hn.1.1
theorem R.jA (r:R B E w0 N σ a w G) (ke c:List Nat):R B E w0 N (σ.jA ke c) a w G:=by have L:qu (σ.j6 ke c) σ.h (σ.jA ke c).h:=(by refine⟨fun n hn=>.inl ?_,fun n hn=>?_⟩;show sG _ _ _ n=_;rw[L3,ak ⟨SU hn,hn⟩];show sG _ _ _ n=_;rw[L3,aq (by simp[hn])]);have j:∀n,σ.j6 ke c n=true->(σ.jA ke c).used n=true:=(by intro n f;show(Nat.ble aX n||xc _ _ n)=true;rw[ac6];simp[f,SU f]);refine⟨r.defers,r.size,fun s=>?_,fun s n hn=>?_,?_,r.fr,fun n p b x i=>?_,fun n hn=>?_⟩;show RA w G _ (w9 _ _ _ s) _;rw[Tj];split;exact(r.env s).less L;exact zbj rfl;have g:(w9 (σ.j6 ke c) σ.env ke s).ref n:=hn;rw[Tj] at g;split at g;exact j n (ao.CQ g);exact absurd g id;exact(r.hr.less L).asK j;have v:(σ.jA ke c).h n≠none:=(by rw[i];simp);obtain⟨f,_⟩:=L.ne v;have oV:=fun b0 (e:σ.h n=some b0)=>r.pi n p b0 x e;have d:sG (σ.j6 ke c) σ.h c n=some b:=i;rw[L3,ak ⟨SU f,f⟩] at d;(cases e:σ.h n with|none=>rw[e] at d;cases d|some b0=>obtain⟨p1,u,o,p4,l,q⟩:=oV b0 e;refine⟨p1,u,o,p4,l,fun gr sz xs m=>?_⟩;rw[e,m] at d;cases b0 with|box cs=>simp[ar.df] at d|row y m' k t=>simp only[ar.df,AI,zan,ar.row.injEq] at d;obtain⟨_,rfl,_,_⟩:=d;exact q y k t rfl);show(Nat.ble aX n||_)=true;rw[zaW hn];rfl
end
def back (x c n:Nat):Nat:=if n=c then x else n
theorem VA {x c n:Nat} (hn:n≠c):back x c (oI x c n)=n:=by unfold back oI;by_cases h:n=x;subst h;simp;simp[h,hn]
theorem aqU {x c n:Nat} (hx:x≠c) (hn:n≠c):oI x c n≠x:=by unfold oI;by_cases h:n=x;simp[h];exact fun e=>hx e.symm;simp[h]
structure pK (x c:Nat) (used:Nat->Bool) (h h':Nat->Option ar):Prop where
 ne:x≠c
 uc:used c=false
 gone:h' x=none
 b:∀n,n≠x->h' n=(h (back x c n)).map (·.bf x c)
section
variable {B:Nat} {E:Ex} {w0 w w':World} {G G':Gh} {N:Nat} {h h':Nat->Option ar} {used:Nat->Bool} {x c:Nat}
variable {P:Program} {T:aQ} {a:Act} {σ σ':St} {Q:Exit->Act->World->Prop}
def uM (G:Gh) (x c:Nat):Gh:=⟨G.Im,fun n=>G.g (back x c n)⟩
theorem pK.at (L:pK x c used h h') {n:Nat} (hn:used n=true):h' (oI x c n)=(h n).map (·.bf x c):=by
 have a:n≠c:=fun e=>by subst e;rw[L.uc] at hn;cases hn
 rw[L.b _ (aqU L.ne a),VA a]
theorem pK.Gl (L:pK x c used h h') {n:Nat} (hn:used n=true):(uM G x c).g (oI x c n)=G.g n:=by
 have a:n≠c:=fun e=>by subst e;rw[L.uc] at hn;cases hn
 show G.g (back x c (oI x c n))=_;rw[VA a]
theorem Ly {o:Option ar} (hn:o.map (·.bf x c)≠none):o≠none:=by cases o with|none=>exact absurd rfl hn|some b=>simp
theorem Sx {o:Option ar} {a:Bool} {m:Mode} {sz:Nat} {xs:List (List C)} (hn:o.map (·.bf x c)=some (.row a m sz xs)):o=some (.row a m sz xs):=by cases o with|none=>cases hn|some b=>cases b with|box cs=>simp[ar.bf] at hn|row a m sz xs=>exact hn
theorem aaE {o:Option ar} {cs:List ah} (hn:o.map (·.bf x c)=some (.box cs)):∃a,o=some (.box a)/\cs=a.map (·.bf x c):=by cases o with|none=>cases hn|some b=>cases b with|box a=>simp only[AI,ar.bf] at hn;injection hn with hn;injection hn with hn;exact⟨a,rfl,hn.symm⟩|row gr m sz xs=>simp[ar.bf] at hn
theorem iC.bf (L:pK x c used h h') {y:ah} {v:Value} (hr:∀m,y.ie m->used m=true) (a:iC w G h y v):iC w (uM G x c) h' (y.pn x c) v:=by cases y with|ptr n k sz off=>intro hn;rw[L.at (hr n rfl)] at hn;rw[L.Gl (hr n rfl)];exact a (Ly hn)|sl n sz lo len=>intro hn;rw[L.at (hr n rfl)] at hn;rw[L.Gl (hr n rfl)];exact a (Ly hn)|bz n k s off sz len=>intro d xs hn;rw[L.at (hr n rfl)] at hn;rw[L.Gl (hr n rfl)];exact a d xs (Sx hn)|cX n k s off sz i=>intro d xs hn;rw[L.at (hr n rfl)] at hn;rw[L.Gl (hr n rfl)];exact a d xs (Sx hn)|cO xs off j n sz len=>obtain⟨b,o,pe,r,t,g,q,e⟩:=a;obtain⟨u,l,u2,p⟩:=e;refine⟨b,o,pe,r,t,g,q,u,l,u2,fun hn=>?_⟩;rw[L.at (hr n rfl)] at hn;rw[L.Gl (hr n rfl)];exact p (Ly hn)|c x=>exact a|nil sz=>exact a|di xs off=>exact a|fn f dR=>exact a|bC=>exact a
theorem RC.bf (L:pK x c used h h') {y:ah} {v:Value} (hr:∀m,y.ref m->used m=true) (a:RC w G h y v):RC w (uM G x c) h' (y.bf x c) v:=by cases y with|fn f o=>obtain⟨vs,p,q,g⟩:=a;refine⟨vs,p,by simpa using q,fun j y u b l=>?_⟩;rw[AN] at b;(cases a:o[j]? with|none=>rw[a] at b;cases b|some d=>rw[a] at b;simp at b;subst b;exact⟨(g j d u a l).1,(g j d u a l).2.bf L fun m hm=>hr m ⟨d,wt a,hm⟩⟩)|ptr n k sz off=>exact iC.bf (w:=w) (G:=G) L (y:=.ptr n k sz off) hr a|sl n sz lo len=>exact iC.bf (w:=w) (G:=G) L (y:=.sl n sz lo len) hr a|bz n k e off sz len=>exact iC.bf (w:=w) (G:=G) L (y:=.bz n k e off sz len) hr a|cX n k e off sz i=>exact iC.bf (w:=w) (G:=G) L (y:=.cX n k e off sz i) hr a|cO xs off j n sz len=>exact iC.bf (w:=w) (G:=G) L (y:=.cO xs off j n sz len) hr a|c x=>exact a|nil sz=>exact a|di xs off=>exact a|bC=>exact a
theorem dA.bf (L:pK x c used h h') {cs:List ah} {vs:List Value} (hr:∀y∈cs,∀m,y.ref m->used m=true) (b:dA w G h cs vs):dA w (uM G x c) h' (cs.map (·.bf x c)) vs:=by refine⟨by simpa using b.1,fun j y u a e=>?_⟩;rw[AN] at a;cases dK:cs[j]? with|none=>rw[dK] at a;cases a|some d=>rw[dK] at a;simp at a;subst a;exact⟨(b.2 j d u dK e).1,(b.2 j d u dK e).2.bf L (hr d (wt dK))⟩
theorem RV.bf (L:pK x c used h h') {ag:Bool} {cs:List ah} {v:Value} (hr:∀y∈cs,∀m,y.ref m->used m=true) (a:RV w G h ag cs v):RV w (uM G x c) h' ag (cs.map (·.bf x c)) v:=by unfold RV at*;split;rename_i b;simp only[b,if_true] at a;obtain⟨vs,e,d⟩:=a;exact⟨vs,e,d.bf L hr⟩;rename_i b;simp only[b] at a;exact dA.bf L hr a
theorem RA.bf (L:pK x c used h h') {y:ao} {v:Value} (hr:∀m,y.ref m->used m=true) (d:RA w G h y v):RA w (uM G x c) h' (y.bf x c) v:=by cases y with|one y=>rcases d with rfl|d;exact zbj rfl;exact Or.inr (RV.bf L (fun z a m hm=>hr m (by simp at a;subst a;exact hm)) d)|agg cs=>exact RV.bf L (fun z a m hm=>hr m ⟨z,a,hm⟩) d|bH xs=>obtain⟨vs,e,hl,g⟩:=d;refine⟨vs,e,by simpa using hl,fun j y u b i=>?_⟩;rw[AN] at b;cases dK:xs[j]? with|none=>rw[dK] at b;cases b|some f=>rw[dK] at b;simp at b;subst b;exact RV.bf L (fun z a m hm=>hr m ⟨f,wt dK,z,a,hm⟩) (g j f u dK i)
def zx (used:Nat->Bool) (x c:Nat):Nat->Bool:=fun n=>if n=c then used x else if n=x then false else used n
theorem ah.Eu (L:pK x c used h h') {y:ah} {m:Nat} (hr:∀m,y.ie m->used m=true) (hm:(y.pn x c).ie m):zx used x c m=true:=by have d:∀n,used n=true->m=oI x c n->zx used x c m=true:=(by intro n hn e;subst e;have b:n≠c:=fun e=>(by subst e;rw[L.uc] at hn;cases hn);unfold zx oI;by_cases a:n=x;subst a;simp[hn];simp[a,b,hn]);cases y<;>first|exact absurd hm id|exact d _ (hr _ rfl) hm
theorem ah.Ev (L:pK x c used h h') {y:ah} {m:Nat} (hr:∀m,y.ref m->used m=true) (hm:(y.bf x c).ref m):zx used x c m=true:=by cases y with|fn f dR=>obtain⟨z,d,hm⟩:=hm;obtain⟨z0,b,rfl⟩:=GB.1 d;exact ah.Eu L (fun m hm=>hr m ⟨z0,b,hm⟩) hm|ptr n k sz off=>exact ah.Eu L (y:=.ptr n k sz off) hr hm|sl n sz lo len=>exact ah.Eu L (y:=.sl n sz lo len) hr hm|bz n k a off sz len=>exact ah.Eu L (y:=.bz n k a off sz len) hr hm|cX n k a off sz i=>exact ah.Eu L (y:=.cX n k a off sz i) hr hm|cO xs off j n sz len=>exact ah.Eu L (y:=.cO xs off j n sz len) hr hm|c x=>exact absurd hm id|nil sz=>exact absurd hm id|di xs off=>exact absurd hm id|bC=>exact absurd hm id
theorem ao.Ev (L:pK x c used h h') {y:ao} {m:Nat} (hr:∀m,y.ref m->used m=true) (hm:(y.bf x c).ref m):zx used x c m=true:=by cases y with|one y=>exact ah.Ev L hr hm|agg cs=>obtain⟨z,b,hm⟩:=hm;obtain⟨z0,a,rfl⟩:=GB.1 b;exact ah.Ev L (fun m hm=>hr m ⟨z0,a,hm⟩) hm|bH xs=>obtain⟨p,e,z,b,hm⟩:=hm;obtain⟨f,d,rfl⟩:=GB.1 e;obtain⟨z0,a,rfl⟩:=GB.1 b;exact ah.Ev L (fun m hm=>hr m ⟨f,d,z0,a,hm⟩) hm
theorem HR.bf (H:HR B E w G h used []) (L:pK x c used h h'):HR B E w (uM G x c) h' (zx used x c) []:=by have f:∀n,h' n≠none->n≠x:=fun n hn e=>(by subst e;exact hn L.gone);have r:∀n,h' n≠none->h (back x c n)≠none:=fun n hn=>(by have:=L.b n (f n hn);rw[this] at hn;exact Ly hn);have t:∀{n d m sz xs},h' n=some (.row d m sz xs)->h (back x c n)=some (.row d m sz xs):=(by intro n d m sz xs hn;have:=L.b n (f n (by rw[hn];simp));rw[this] at hn;exact Sx hn);have I:∀n a,n≠x->a≠x->n≠a->back x c n≠back x c a:=(by intro n a F o h3;unfold back;by_cases g:n=c;by_cases z:a=c;omega;simp[g,z];omega;by_cases z:a=c;simp[g,z];omega;simp[g,z];omega);have J:∀n,n≠x->used (back x c n)=true->zx used x c n=true:=(by intro n F o;unfold zx;unfold back at o;by_cases g:n=c;simp[g] at o⊢;exact o;simp[g] at o;simp[g,F,o]);refine⟨fun n hn=>J n (f n hn) (H.jp _ (r n hn)),fun m cs y n hm hy hr=>?_,fun n cs hn=>?_,fun n d m sz xs hn=>?_,fun n hn=>H.own _ (r n hn), fun n a hn k C=>H.inj _ _ (r n hn) (r a k) (I n a (f n hn) (f a k) C),H.gN,H.qY,fun n a d m sz xs Y X K Q hn k hm T C=>H.gw _ _ d m sz xs Y X K Q (t hn) (t k) hm T (I n a (f n (by rw[hn];simp)) (f a (by rw[k];simp)) C),fun n d sz xs hn b Z a k=>H.live _ d sz xs (t hn) b Z _ (r a k),?_,?_,?_⟩;have N:=f m (by rw[hm];simp);rw[L.b m N] at hm;obtain⟨p,u,rfl⟩:=aaE hm;obtain⟨A,P,rfl⟩:=GB.1 hy;exact ah.Ev L (fun q D=>H.iK _ p A q u P D) hr;have U:=f n (by rw[hn];simp);rw[L.b n U] at hn;obtain⟨p,u,rfl⟩:=aaE hn;obtain⟨M,W,R⟩:=H.box _ p u;refine⟨M,W,fun j y l=>?_⟩;rw[AN] at l;(cases dK:p[j]? with|none=>rw[dK] at l;cases l|some A=>rw[dK] at l;simp at l;subst l;obtain⟨v,O,S,V⟩:=R j A dK;exact⟨v,O,S,V.bf L fun q D=>H.iK _ p A q u (wt dK) D⟩);have hr:=H.row _ d m sz xs (t hn);refine⟨hr.pos,hr.er,hr.nl,hr.eG,hr.room,?_,hr.nr⟩;have hm:=hr.mode;cases m<;>exact hm;intro i pc s;simp at s;intro i j pc dQ b _ s;simp at s;intro i pc n d m sz xs b s;simp at s
theorem R.bf (r:R B E w0 N σ a w G) (hx:σ.bf x c=some σ'):∃G',R B E w0 N σ' a w G':=by
 unfold St.bf at hx;split at hx
 ·injection hx with hx;subst hx;exact⟨G,r⟩
 ·rename_i q;split at hx
  ·injection hx with hx;subst hx;exact⟨G,r⟩
  rename_i j;split at hx
  ·cases hx
  ·rename_i o;injection hx with hx;subst hx;have v:¬aX<=c:=fun k=>by rw[r.wY c k] at o;exact o rfl
   have u:¬aX<=x:=fun k=>j (zaW k);have K:σ.used c=false:=by simpa using o
   have L:pK x c σ.used σ.h (fun n=>if n=c then(σ.h x).map (·.bf x c) else if n=x then none else(σ.h n).map (·.bf x c)):=by
    refine⟨q,K,by simp[q],fun n hn=>?_⟩;unfold back;by_cases f:n=c
    ·simp[f]
    ·simp[f,hn]
   exact⟨uM G x c,r.defers,r.size,fun s=>(r.env s).bf L (fun m hm=>r.qq s m hm),fun s n hn=>ao.Ev L (fun m hm=>r.qq s m hm) hn,r.hr.bf L,r.fr,fun n p b t C=>by
    have hn:=E.lt n p t;have i:n≠c:=fun e=>v (e▸hn);have l:n≠x:=fun e=>u (e▸hn);have d:(if n=c then(σ.h x).map (·.bf x c) else if n=x then none else(σ.h n).map (·.bf x c))=some b:=C
    rw[aq i,aq l] at d;have y:(uM G x c).g n=G.g n:=by simp[uM,back,i]
    rw[y];cases f:σ.h n with
    |none=>rw[f] at d;cases d
    |some b0=>
     obtain⟨p1,J,F,p4,z,H⟩:=r.pi n p b0 t f;refine⟨p1,J,F,p4,z,fun gr sz xs D=>?_⟩;rw[f,D] at d;cases b0 with
     |box cs=>simp[ar.bf] at d
     |row M m' A I=>
      simp only[ar.bf,AI,zan,ar.row.injEq] at d;obtain⟨_,rfl,_,_⟩:=d;exact H M A I rfl,fun n hn=>by
    have i:n≠c:=fun e=>v (e▸hn);have l:n≠x:=fun e=>u (e▸hn);show(if n=c then σ.used x else if n=x then false else σ.used n)=true
    rw[aq i,aq l];exact r.wY n hn⟩
theorem R.ZJ (r:R B E w0 N σ a w G) {m:Mode} {sz:Nat} (D:0<sz) (hx:σ.ins c (.row true m sz [])=some σ'): ∃G',R B E w0 N σ' a w G'/\RC w G' σ'.h (.sl c sz 0 0) (.slice none 0 0):=by obtain⟨hn,rfl⟩:=oA hx;have l:∀b,¬bc b ([]:List (List PC)):=(by rintro b ⟨k,j,q,⟨e,f,_⟩,_⟩;simp at f);have v:jE ([]:List (List PC)):=⟨by rintro k j q ⟨e,f,_⟩;simp at f,by rintro k j q k' j' q' b ⟨e,f,_⟩;simp at f⟩;have H:=r.hr.insert (w':=w) (n:=c) (blk:=.row true m sz []) (p:=⟨true,0,0,0,[],none⟩) hn (fun _ _=>rfl) (zad _) (fun g=>by cases g) (fun cs y q d=>by cases d) (by refine⟨D,rfl,fun _=>⟨rfl,fun _=>rfl⟩,(fun g=>by cases g),(fun g=>by cases g),?_,fun _ _ k pc z=>by obtain⟨e,f,_⟩:=z;simp at f⟩;cases m with|aM=>exact fun b d=>absurd d (l b)|aN=>exact⟨fun b d=>absurd d (l b),v⟩|live=>exact⟨fun b d=>absurd d (l b),v⟩) (fun t C s u d hm n' br lM mS jl h0 iQ b o=>absurd o (l b)) (fun t s u d b o=>absurd o (l b)) (fun t C s u d hm i pc b x=>by simp at x);refine⟨_,r.step rfl (fun q A=>t9 _ _ A) (bu.insert r.hr hn (fun _ _=>rfl)) H r.fr,fun _=>?_⟩;simp only[cr];exact zbj ⟨rfl,rfl,rfl,rfl⟩
end
theorem ah.CW (n:Nat) (c:ah):c.iO n=c\/c.iO n=.bC:=by(cases c<;>first|(exact .inl rfl)|skip);rename_i m k a off sz len;(cases h:Nat.beq m n with|true=>exact .inr (by simp[ah.iO,h])|false=>exact .inl (by simp[ah.iO,h]));rename_i m k a off sz i;cases h:Nat.beq m n with|true=>exact .inr (by simp[ah.iO,h])|false=>exact .inl (by simp[ah.iO,h])
theorem ah.ahz (n:Nat) (c:ah):(c.iO n).iO n=c.iO n:=by rcases c.CW n with h|h;rw[h,h];rw[h];rfl
theorem ah.ahA {n m:Nat} {c:ah} (h:(c.iO n).ie m):c.ie m:=by rcases c.CW n with a|a;rwa[a] at h;rw[a] at h;exact h.elim
theorem ah.FR (n:Nat) (c:ah) (a:c.oB=false):c.cut n=c.iO n:=by cases c<;>first|rfl|(simp[ah.oB] at a)
theorem ah.CX (n:Nat) (c:ah):(c.cut n).cut n=c.cut n:=by by_cases a:c.oB=false;rw[ah.FR n c a];rcases c.CW n with h|h;rw[h,ah.FR n c a,h];rw[h];rfl;(cases c<;>first|(simp[ah.oB] at a;done)|skip);simp only[ah.cut,zal];congr 1;apply IT;intro x _;exact ah.ahz n x
theorem ah.CY {n m:Nat} {c:ah} (h:(c.cut n).ref m):c.ref m:=by by_cases b:c.oB=false;rw[ah.FR n c b] at h;rcases c.CW n with a|a;rwa[a] at h;rw[a] at h;exact h.elim;(cases c<;>first|(simp[ah.oB] at b;done)|skip);obtain⟨x,hx,hm⟩:=h;obtain⟨y,hy,rfl⟩:=GB.1 hx;exact⟨y,hy,ah.ahA hm⟩
theorem ao.CY {n m:Nat} {x:ao} (h:(x.cut n).ref m):x.ref m:=by cases x with|one c=>exact ah.CY h|agg cs=>obtain⟨c,a,hm⟩:=h;obtain⟨y,hy,rfl⟩:=GB.1 a;exact⟨y,hy,ah.CY hm⟩|bH xs=>obtain⟨x,hx,c,a,hm⟩:=h;obtain⟨y,hy,rfl⟩:=GB.1 hx;obtain⟨z,b,rfl⟩:=GB.1 a;exact⟨y,hy,z,b,ah.CY hm⟩
theorem ao.CX (n:Nat) (x:ao):(x.cut n).cut n=x.cut n:=by cases x with|one c=>simp only[ao.cut,ah.CX]|agg cs=>simp only[ao.cut,zal];congr 1;apply IT;intro x _;exact ah.CX n x|bH xs=>simp only[ao.cut,zal];congr 1;apply IT;intro x _;simp only[Function.comp,zal];congr 1;apply IT;intro y _;exact ah.CX n y
section
variable {B:Nat} {E:Ex} {w0 w w':World} {G G':Gh} {N:Nat} {h h':Nat->Option ar} {used:Nat->Bool}
variable {P:Program} {a:Act} {σ σ':St} {n:Nat}
theorem vZ {m:Nat} (hm:(h m).map (ar.cut n)≠none):h m≠none:=by intro a;rw[a] at hm;exact hm rfl
theorem xQ {m:Nat} {a:Bool} {c:Mode} {sz:Nat} {xs:List (List C)} (hm:(h m).map (ar.cut n)=some (.row a c sz xs)):h m=some (.row a c sz xs):=by cases hh:h m with|none=>rw[hh] at hm;cases hm|some b=>rw[hh] at hm;cases b with|box cs=>simp[ar.cut] at hm|row br lM aL av=>simpa[ar.cut] using hm
theorem Pn {m:Nat} {cs:List ah} (hm:(h m).map (ar.cut n)=some (.box cs)):∃a,h m=some (.box a)/\cs=a.map (·.cut n):=by cases hh:h m with|none=>rw[hh] at hm;cases hm|some b=>rw[hh] at hm;cases b with|box a=>simp[ar.cut] at hm;exact⟨a,rfl,hm.symm⟩|row br lM aL av=>simp[ar.cut] at hm
theorem iC.cut {c:ah} {v:Value} (a:iC w G h c v):iC w G (fun m=>(h m).map (ar.cut n)) (c.iO n) v:=by rcases c.CW n with e|e;rw[e];(cases c with|c x=>exact a|nil sz=>exact a|ptr m k sz off=>exact fun hm=>a (vZ hm)|di xs off=>exact a|sl m sz lo len=>exact fun hm=>a (vZ hm)|bz m k s off sz len=>exact fun d xs hm=>a d xs (xQ hm)|cX m k s off sz i=>exact fun d xs hm=>a d xs (xQ hm)|cO xs off j m sz len=>obtain⟨b,o,pe,r,t,g,q,u,l,u2,p⟩:=a;exact⟨b,o,pe,r,t,g,q,u,l,u2,fun hm=>p (vZ hm)⟩|fn f dR=>exact a|bC=>trivial);rw[e];trivial
theorem RC.cut {c:ah} {v:Value} (f:RC w G h c v):RC w G (fun m=>(h m).map (ar.cut n)) (c.cut n) v:=by by_cases b:c.oB=false;rw[vL _ _ _ _ _ b] at f;rw[ah.FR n c b];have d:=f.cut (n:=n);rcases c.CW n with e|e;rw[e] at d⊢;rw[vL _ _ _ _ _ b];exact d;rw[e];trivial;(cases c<;>first|(simp[ah.oB] at b;done)|skip);obtain⟨vs,d,l,i⟩:=f;refine⟨vs,d,by simpa using l,fun j c u a k=>?_⟩;rw[AN] at a;cases dK:(_:List ah)[j]? with|none=>rw[dK] at a;cases a|some g=>rw[dK] at a;injection a with a;subst a;exact⟨(i j g u dK k).1,(i j g u dK k).2.cut⟩
theorem dA.cut {cs:List ah} {vs:List Value} (b:dA w G h cs vs):dA w G (fun m=>(h m).map (ar.cut n)) (cs.map (·.cut n)) vs:=by refine⟨by simpa using b.1,fun j c u a e=>?_⟩;rw[AN] at a;cases dK:cs[j]? with|none=>rw[dK] at a;cases a|some d=>rw[dK] at a;injection a with a;subst a;exact⟨(b.2 j d u dK e).1,(b.2 j d u dK e).2.cut⟩
theorem RV.cut {ag:Bool} {cs:List ah} {v:Value} (a:RV w G h ag cs v):RV w G (fun m=>(h m).map (ar.cut n)) ag (cs.map (·.cut n)) v:=by unfold RV at*;split;rename_i b;simp only[b,if_true] at a;obtain⟨vs,e,c⟩:=a;exact⟨vs,e,c.cut⟩;rename_i b;simp only[b] at a;exact dA.cut a
theorem RA.cut {x:ao} {v:Value} (b:RA w G h x v):RA w G (fun m=>(h m).map (ar.cut n)) (x.cut n) v:=by cases x with|one c=>rcases b with rfl|b;exact .inl rfl;exact .inr (RV.cut (n:=n) b)|agg cs=>exact RV.cut (n:=n) (ag:=true) b|bH xs=>obtain⟨vs,e,hl,d⟩:=b;refine⟨vs,e,by simpa using hl,fun j x u a g=>?_⟩;rw[AN] at a;cases dK:xs[j]? with|none=>rw[dK] at a;cases a|some f=>rw[dK] at a;injection a with a;subst a;exact(d j f u dK g).cut
theorem R.cut (r:R B E w0 N σ a w G) (n:Nat):R B E w0 N (σ.cut n) a w G:=by have H:=r.hr;refine⟨r.defers,r.size,fun s=>(r.env s).cut,fun s m hm=>r.qq s m (ao.CY hm),?_,r.fr,fun m p b T u=>?_,r.wY⟩;refine⟨fun m hm=>H.jp m (vZ hm),fun m cs c q hm K hr=>?_,fun m cs hm=>?_,fun m d z sz xs hm=>H.row m d z sz xs (xQ hm),fun m hm=>H.own m (vZ hm), fun m o hm l=>H.inj m o (vZ hm) (vZ l),H.gN,H.qY,fun m o d z sz xs W S C M hm l=>H.gw m o d z sz xs W S C M (xQ hm) (xQ l), fun m d sz xs hm b u o l=>H.live m d sz xs (xQ hm) b u o (vZ l),by intro i pc g;simp at g,by intro i j pc dQ b _ g;simp at g,by intro i pc n d m sz xs b g;simp at g⟩;obtain⟨t,y,rfl⟩:=Pn hm;obtain⟨x,k,rfl⟩:=GB.1 K;exact H.iK m t x q y k (ah.CY hr);obtain⟨t,y,rfl⟩:=Pn hm;obtain⟨F,V,O⟩:=H.box m t y;refine⟨F,V,fun j c f=>?_⟩;rw[AN] at f;(cases k:t[j]? with|none=>rw[k] at f;cases f|some x=>rw[k] at f;injection f with f;subst f;obtain⟨v,I,P,U⟩:=O j x k;exact⟨v,I,P,U.cut⟩);have A:(σ.h m).map (ar.cut n)=some b:=u;cases hh:σ.h m with|none=>rw[hh] at A;cases A|some b0=>obtain⟨p1,Q,J,p4,L,D⟩:=r.pi m p b0 T hh;refine⟨p1,Q,J,p4,L,fun d sz xs e=>?_⟩;subst e;have:=xQ A;rw[hh] at this;injection this with this;exact D d sz xs this
structure Ck (q:Nat) (w:World) (G:Gh) (h:Nat->Option ar) (used:Nat->Prop) (w':World) (G':Gh) (h':Nat->Option ar):Prop where
 im:∀b,G.Im b->G'.Im b
 cell:∀b,G.Im b->∀o,w'.cell? (ad b o)=w.cell? (ad b o)
 name:∀n,used n->h' n≠none->h n≠none/\(G'.g n).nl=(G.g n).nl/\(G'.g n).b=(G.g n).b/\(G'.g n).o=(G.g n).o/\(G'.g n).cap=(G.g n).cap/\(G'.g n).na=(G.g n).na
 live:∀n gr sz xs,n≠q->used n->h' n=some (.row gr .live sz xs)->(∃qL jD,h n=some (.row qL .live sz jD))/\
  ∀k j pc,At (G.g n).px k j pc->pc.iu=true->∃dQ,At (G'.g n).px k j dQ/\dQ.val=pc.val/\dQ.iu=true
 box:∀b o v,G.Im b->w.cell? (ad b o)=some v->w'.cell? (ad b o)=some v
theorem iC.pZ {q:Nat} {used:Nat->Prop} (K:Ck q w G h used w' G' h') {c:ah} {v:Value} (U:c.iO q=c) (hr:∀m,c.ie m->used m) (d:iC w G h c v):iC w' G' h' c v:=by cases c with|c x=>obtain⟨pc,t,A,g,p⟩:=d;exact⟨pc,t,A,g.congr fun b E o=>K.cell b (p b E) o,fun b E=>K.im b (p b E)⟩|nil sz=>exact d|ptr n k sz off=>intro hn;obtain⟨e,s,z,r,B,C⟩:=K.name n (hr n rfl) hn;rw[s,z,r];exact d e|di xs off=>obtain⟨b,o,pe,t,A,g,p⟩:=d;refine⟨b,o,pe,t,A,K.im b g,fun j c hj=>?_⟩;obtain⟨D,Q,y⟩:=p j c hj;exact⟨(K.cell b g _).trans D,Q.congr fun a l T=>K.cell a (y a l) T,fun a l=>K.im a (y a l)⟩|sl n sz lo len=>intro hn;obtain⟨e,s,z,r,B,C⟩:=K.name n (hr n rfl) hn;have:=d e;unfold jb at*;rw[s,z,r,B,C];exact this|bz n k R off sz len=>have F:n≠q:=(by rintro rfl;simp[ah.iO,zbg] at U);intro H xs hn;obtain⟨⟨P,M,e⟩,hl⟩:=K.live n H R xs F (hr n rfl) hn;obtain⟨pc,p1,N,J⟩:=d P M e;obtain⟨L,O,I,S⟩:=hl k off pc p1 J;exact⟨L,O,I.trans N,S⟩|cX n k R off sz i=>have F:n≠q:=(by rintro rfl;simp[ah.iO,zbg] at U);intro H xs hn;obtain⟨⟨P,M,e⟩,hl⟩:=K.live n H R xs F (hr n rfl) hn;obtain⟨pc,b,o,len,cap,p1,N,J,p4⟩:=d P M e;obtain⟨L,O,I,S⟩:=hl k off pc p1 J;exact⟨L,b,o,len,cap,O,I.trans N,S,p4⟩|cO xs off j n sz len=>obtain⟨b,o,pe,t,A,g,p,V⟩:=d;obtain⟨u,W,u2,Y⟩:=V;refine⟨b,o,pe,t,A,K.im b g,fun i c Z X=>?_,u,(K.cell b g _).trans W,u2,fun hn=>?_⟩;obtain⟨D,Q,y⟩:=p i c Z X;exact⟨(K.cell b g _).trans D,Q.congr fun a l T=>K.cell a (y a l) T,fun a l=>K.im a (y a l)⟩;obtain⟨e,s,z,r,B,C⟩:=K.name n (hr n rfl) hn;have:=Y e;unfold jb at*;rw[s,z,r,B,C];exact this|fn f dR=>exact d|bC=>trivial
theorem RC.pZ {q:Nat} {used:Nat->Prop} (K:Ck q w G h used w' G' h') {c:ah} {v:Value} (a:c.cut q=c) (hr:∀m,c.ref m->used m) (g:RC w G h c v):RC w' G' h' c v:=by by_cases b:c.oB=false;rw[vL _ _ _ _ _ b] at*;rw[ah.FR q c b] at a;exact g.pZ K a fun m hm=>hr m (by rw[ah.ac0 c m b];exact hm);(cases c<;>first|(simp[ah.oB] at b;done)|skip);rename_i f dR;obtain⟨vs,k,n,e⟩:=g;injection a with _ a;refine⟨vs,k,n,fun j c u d i=>⟨(e j c u d i).1,(e j c u d i).2.pZ K ?_ fun m hm=>hr m ⟨c,wt d,hm⟩⟩⟩;have:=congrArg (fun l:List ah=>l[j]?) a;simp only[AN,d,AI,zan] at this;exact this
theorem dA.pZ {q:Nat} {used:Nat->Prop} (K:Ck q w G h used w' G' h') {cs:List ah} {vs:List Value} (e:∀c∈cs,c.cut q=c) (hr:∀c∈cs,∀m,c.ref m->used m) (b:dA w G h cs vs):dA w' G' h' cs vs:= ⟨b.1,fun j c u a d=>⟨(b.2 j c u a d).1,(b.2 j c u a d).2.pZ K (e c (wt a)) (hr c (wt a))⟩⟩
theorem RV.pZ {q:Nat} {used:Nat->Prop} (K:Ck q w G h used w' G' h') {ag:Bool} {cs:List ah} {v:Value} (d:∀c∈cs,c.cut q=c) (hr:∀c∈cs,∀m,c.ref m->used m) (a:RV w G h ag cs v):RV w' G' h' ag cs v:=by unfold RV at*;split;rename_i b;simp only[b,if_true] at a;obtain⟨vs,e,f⟩:=a;exact⟨vs,e,f.pZ K d hr⟩;rename_i b;simp only[b] at a;exact dA.pZ K d hr a
theorem aaF {q:Nat} {cs:List ah} (h:cs.map (·.cut q)=cs):∀c∈cs,c.cut q=c:=by intro c a;obtain⟨j,b⟩:=OF a;have:=congrArg (fun l:List ah=>l[j]?) h;simp only[AN,b,AI,zan] at this;exact this
theorem RA.pZ {q:Nat} {used:Nat->Prop} (K:Ck q w G h used w' G' h') {x:ao} {v:Value} (a:x.cut q=x) (hr:∀m,x.ref m->used m) (f:RA w G h x v):RA w' G' h' x v:=by cases x with|one c=>injection a with a;exact f.imp id fun g=>RV.pZ K (fun d b=>by simp at b;subst b;exact a) (fun d b m hm=>hr m (by simp at b;subst b;exact hm)) g|agg cs=>injection a with a;exact RV.pZ K (aaF a) (fun d b m hm=>hr m ⟨d,b,hm⟩) f|bH xs=>injection a with a;obtain⟨vs,e,hl,g⟩:=f;refine⟨vs,e,hl,fun j x u i k=>RV.pZ K (aaF ?_) (fun d b m hm=>hr m ⟨x,wt i,d,b,hm⟩) (g j x u i k)⟩;have:=congrArg (fun l:List (Bool×List ah)=>l[j]?) a;simp only[AN,i,AI,zan] at this;exact congrArg zbc this
end
section
variable {B:Nat} {E:Ex} {w0 w w':World} {G G':Gh} {N:Nat} {h h':Nat->Option ar} {used:Nat->Bool}
variable {P:Program} {a:Act} {σ σ':St} {n:Nat}
structure Jv (B:Nat) (E:Ex) (w:World) (G:Gh) (h:Nat->Option ar) (n k off:Nat) (q:PC):Prop where
 e7:Good w q
 sep:Sep q
 nr:s6 w q
 own:∀b,ba b q->¬G.Im b/\ek w b/\(B<=b\/E b)
 name:∀b,ba b q->∀m,h m≠none->(G.g m).nl=false->b≠(G.g m).b
 row:∀b,ba b q->∀m gr mo sz xs,m≠n->h m=some (.row gr mo sz xs)->¬bc b (G.g m).px
 rest:∀b,ba b q->∀k' j' c,At (G.g n).px k' j' c->(k',j')≠(k,off)->¬ba b c
theorem R.nest (r:R B E w0 N σ a w G) {t k off:Nat} {xs:List (List C)} (hn:σ.h n=some (.row true .live t xs)) (oV:n<aX) (aj8:∀s,(σ.env s).cut n=σ.env s) (aj9:∀m cs c,σ.h m=some (.box cs)->c∈cs->c.cut n=c) {pe:List PC} (x:(G.g n).px[k]? =some pe) (od:off+1=t) {q:PC} {cur:Array Value} {et:TypeId} (M:w.heap[(G.g n).b]? =some (.cells cur et (0,0))) (u:Jv B E w G σ.h n k off q): R B E w0 N (σ.ef n (.row true .live t (xs.set k ((pe.map PC.er).set off q.er)))) a (f7 w (G.g n).b ((G.g n).o+k*t+off) [q.val] cur) ⟨G.Im,aI G.g n {G.g n with px:=(G.g n).px.set k (pe.set off q)}⟩:=by have H:=r.hr;have hr:=H.row n true .live t xs hn;have F:σ.h n≠none:=(by rw[hn];simp);have y:(G.g n).nl=false:=(by cases u:(G.g n).nl with|false=>rfl|true=>rw[(hr.nl u).1] at x;simp at x);obtain⟨l1,l2,l3⟩:=hr.eG y;obtain⟨r8,qS,tD⟩:=H.own n F y;have wB:pe.length=t:=l2.1 pe (wt x);have akz:off<pe.length:=(by omega);have I:At (G.g n).px k off pe[off]:=⟨pe,x,AT akz⟩;have U:(G.g n).o+k*t+off+([q.val]:List Value).length<=cur.size:=(by have:=zW M (l2.2.1 k off _ I);simp only[zau,zaz];omega);generalize mh:f7 w (G.g n).b ((G.g n).o+k*t+off) [q.val] cur=w2;have dL:∀b,b≠(G.g n).b->w2.heap[b]? =w.heap[b]? :=fun b d=>(by rw[<-mh];exact zA b d);have W:∀b,ek w b->ek w2 b:=fun b d=>(by rw[<-mh];exact Jb M U b d);have mN:w2.heap.size=w.heap.size:=(by rw[<-mh];exact ry);have Q4:∀b,ba b q->b≠(G.g n).b:=fun b d=>u.name b d n F y;have lB:∀b,bc b (G.g n).px->b≠(G.g n).b:=fun b d=>H.uJ F y hn d;have Z:∀b,bc b ((G.g n).px.set k (pe.set off q))->ba b q\/bc b (G.g n).px:=(by rintro b ⟨k',j',c,D,d⟩;rcases oM x D with⟨_,_,rfl⟩|⟨f,_⟩;exact .inl d;exact .inr ⟨_,_,_,f,d⟩);have As:∀b,G.Im b->b≠(G.g n).b:=fun b d z=>r8 (z▸d);have fo:pL w2 (G.g n).b (G.g n).o t ((G.g n).px.set k (pe.set off q)):=(by refine⟨fun e z=>?_,fun k' j' c D=>?_,fun k' j' c D=>?_⟩;rcases zaq z with z|rfl;exact l2.1 e z;rw[zaQ];exact wB;rw[<-mh,zz M U];rcases oM x D with⟨rfl,rfl,rfl⟩|⟨f,L⟩;rw[ak ⟨zad _,by simp⟩];simp;have:=Vt hr.pos l2.1 f I L;rw[aq (by simp only[zau,zaz];omega)];exact l2.2.1 _ _ _ f;rcases oM x D with⟨rfl,rfl,rfl⟩|⟨f,L⟩;exact u.e7.congr fun b d o=>ik (dL b (Q4 b d)) o;exact(l2.2.2 _ _ _ f).congr fun b d o=>ik (dL b (lB b ⟨_,_,_,f,d⟩)) o);have K:Ck n w G σ.h (fun m=>σ.used m=true) w2 ⟨G.Im,aI G.g n {G.g n with px:=(G.g n).px.set k (pe.set off q)}⟩ (aI σ.h n (some (.row true .live t (xs.set k ((pe.map PC.er).set off q.er))))):=(by refine⟨fun _ h=>h,fun b d o=>ik (dL b (As b d)) o,fun m hm l=>?_,fun m J sz V A hm l=>?_,fun b o v d hv=>(ik (dL b (As b d)) o).trans hv⟩;by_cases A:m=n;subst A;simp only[cr];exact⟨F,trivial,trivial,trivial,trivial,trivial⟩;rw[cQ _ _ _ _ A] at l;simp only[cQ _ _ _ _ A];exact⟨l,trivial,trivial,trivial,trivial,trivial⟩;rw[cQ _ _ _ _ A] at l;simp only[cQ _ _ _ _ A];exact⟨⟨J,V,l⟩,fun k j pc f Y=>⟨pc,f,rfl,Y⟩⟩);have Hn:HR B E w2 ⟨G.Im,aI G.g n {G.g n with px:=(G.g n).px.set k (pe.set off q)}⟩ (aI σ.h n (some (.row true .live t (xs.set k ((pe.map PC.er).set off q.er))))) σ.used []:=(by refine H.acJ (fun b _ d=>dL b (d y)) (by rw[mN];exact zad _) (fun b _ d=>W b d) (fun _ h=>h) (H.jp n F) (fun _=>⟨r8,qS,by rw[mN];exact tD⟩) (fun _ m hm l mb=>H.inj m n l F hm mb y) (fun _ m J sz xs hm l b d=>H.live m J sz xs l b d n F y) (fun cs c m d=>by cases d) (fun m cs c v hm l hc hv=>hv.pZ K (aj9 m cs c l hc) fun p X=>H.iK m cs c p l hc X) ?_ ?_ ?_ (fun J m sz xs _ _ i pc b hi=>by simp at hi) ?_;refine⟨hr.pos,?_,(fun hl=>by rw[y] at hl;cases hl),fun _=>⟨W _ l1,fo,by show((G.g n).px.set k _).length<=_;simpa using l3⟩,fun _ _=>?_,?_,fun _ _ k' pc D=>?_⟩;show xs.set k _=((G.g n).px.set k _).map _;rw[zaB,<-hr.er,zaB];obtain⟨r2,jH,e',Q,r4⟩:=hr.room y rfl;rw[M] at Q;injection Q with Q;injection Q with Q _ _;subst Q;obtain⟨Pl,c1,c2⟩:=Fa (vs:=[q.val]) (o:=(G.g n).o+k*t+off) M U;rw[mh] at c1;exact⟨r2,Pl,et,c1,by rw[c2];exact r4⟩;have S:=hr.mode;refine⟨fun b d=>?_,fun k' j' c D=>?_,fun k1 j1 c1 k2 j2 c2 b f Y L d O=>?_⟩;rcases Z b d with f|f;exact⟨(u.own b f).1,W b (u.own b f).2.1,(u.own b f).2.2⟩;exact⟨(S.1 b f).1,W b (S.1 b f).2.1,(S.1 b f).2.2⟩;rcases oM x D with⟨rfl,rfl,rfl⟩|⟨f,_⟩;exact u.sep;exact S.2.1 _ _ _ f;rcases oM x f with⟨rfl,rfl,rfl⟩|⟨g1,n1⟩;rcases oM x Y with⟨rfl,rfl,rfl⟩|⟨g2,n2⟩;exact L rfl;exact u.rest b d _ _ _ g2 n2 O;rcases oM x Y with⟨rfl,rfl,rfl⟩|⟨g2,n2⟩;exact u.rest b O _ _ _ g1 n1 d;exact S.2.2 _ _ _ _ _ _ b g1 g2 L d O;have hz:=hr.nr rfl rfl;rcases oM x D with⟨_,_,rfl⟩|⟨f,_⟩;exact u.nr.cz fun b d arr e z=>⟨arr,(dL b (Q4 b d)).trans z,rfl⟩;exact(hz k' pc f).cz fun b d arr e z=>⟨arr,(dL b (lB b ⟨_,_,_,f,d⟩)).trans z,rfl⟩;intro J m sz V d hm P br m' aL jl Y2 l bM b T;rcases Z b T with f|f;exact u.row b f P br m' aL jl Y2 l;exact H.gw n P true .live t xs br m' aL jl hn l (by simp) bM (zaH Y2) b f;intro J sz V d b T;rcases Z b T with f|f;exact⟨fun _=>Q4 b f,fun P _ l hl=>u.name b f P l hl⟩;exact⟨fun _=>lB b f,fun P _ l hl=>H.live n true t xs hn b f P l hl⟩;intro _ _ b d;obtain⟨m,J,mo,sz,V,hm,l,T⟩:=d;exact H.uJ F y l T);refine⟨r.defers,r.size,fun s=>(r.env s).pZ K (aj8 s) fun m hm=>r.qq s m hm,r.qq,Hn,r.fr.one qS (fun b _ L=>dL b L) (by rw[mN];exact zad _) (by rw[<-mh];exact BM M U) (by rw[<-mh];rfl) (by rw[<-mh];rfl) (by rw[<-mh];rfl),fun m p b X d=>?_,r.wY⟩;have A:m≠n:=(by rintro rfl;have:=E.lt m p X;omega);have O:aI σ.h n (some (.row true .live t (xs.set k ((pe.map PC.er).set off q.er)))) m=some b:=d;rw[cQ _ _ _ _ A] at O;have:=r.pi m p b X O;simp only[cQ _ _ _ _ A];exact this
end
section
variable {B:Nat} {E:Ex} {w0 w w':World} {G G':Gh} {N:Nat} {h h':Nat->Option ar} {used:Nat->Bool}
variable {P:Program} {o:Oper} {a:Act} {σ σ':St} {Q:Exit->Act->World->Prop}
def Fu (B:Nat) (E:Ex) (w:World) (G:Gh) (h:Nat->Option ar) (n k off sz:Nat) (zs:List (List C)) (v:Value):Prop:=
 ∃q:PC,q.val=v/\q.er=.list sz zs/\Jv B E w G h n k off q
theorem HR.aoY (H:HR B E w G h used []) {n k off f:Nat} {xs:List (List C)} (hn:h n=some (.row true .live f xs)) (od:off+1=f) {pc:PC} (d:At (G.g n).px k off pc):Jv B E w G h n k off pc:=by have hr:=H.row n true .live f xs hn;have v:(G.g n).nl=false:=(by cases hq:(G.g n).nl with|false=>rfl|true=>obtain⟨e,p,_⟩:=d;rw[(hr.nl hq).1] at p;simp at p);obtain⟨l1,l2,l3⟩:=hr.eG v;have j:∀b,ba b pc->bc b (G.g n).px:=fun b a=>⟨k,off,pc,d,a⟩;refine⟨l2.2.2 _ _ _ d,hr.mode.2.1 _ _ _ d,hr.nr rfl rfl k pc (by rw[<-od];exact d),fun b a=>hr.mode.1 b (j b a),fun b a m i hl=>H.live n true f xs hn b (j b a) m i hl,fun b a m o r sz q hm i l=>?_, fun b a k' j' c u t l=>hr.mode.2.2 _ _ _ _ _ _ b u d t l a⟩;by_cases s:r=.aM;subst s;exact(hr.mode.1 b (j b a)).1 ((H.row m o .aM sz q i).mode b l);exact H.gw n m true .live f xs o r sz q hn i (by simp) s (zaH hm) b (j b a) l
theorem aq7 {t ty e:TypeId} {i:TypeInfo} (d:P.underlying t=some (.slice e)) (b:P.info? e=some i) (a ya:Option Addr) (c:Nat): (Builtin.append_ #[t,t] ty #[.slice a 0 0,.slice ya 0 c]).run P w=.ok (.slice a 0 0) w:=by cases ya<;>cases a<;>simp[Builtin.append_,run_underlying d,sizeOf,typeInfo,b,Builtin.lenOf,Builtin.firstCells,loadCells,loadCellsFrom,storeCells]
theorem Sep.flat {sz:Nat} {x:Option Addr} {cap:Nat} {px:List (List PC)} (h:fh (px.map fun e=>e.map PC.er)=true):Sep (.list sz x cap px):=by have d:∀k j c,At px k j c->c.er.eX=true:=(by rintro k j c ⟨e,g,l⟩;have i:=If.1 h (e.map PC.er) (by simp only[GB];exact⟨e,wt g,rfl⟩);exact If.1 i c.er (by simp only[GB];exact⟨c,wt l,rfl⟩));exact .list _ _ _ _ (fun k j c a=>(Sep.iI (d k j c a)).1) (fun b o k j c _ a=>(Sep.iI (d k j c a)).2 b) (fun k j c k' j' c' b a _ _ f=>absurd f ((Sep.iI (d k j c a)).2 b))
theorem ZE {sz:Nat} {x:Option Addr} {cap b:Nat} {px:List (List PC)} (h:fh (px.map fun e=>e.map PC.er)=true) (a:ba b (.list sz x cap px)):∃o,x=some (ad b o):=by rw[ba.lK] at a;rcases a with⟨_,g⟩|⟨k,j,c,f,d⟩;exact g;exact absurd ⟨k,j,c,f,d⟩ (y7 h b)
theorem ah0 (r:R B E w0 N σ a w G) {n k rs off sz rr yM by_:Nat} {t e:TypeId} {i:TypeInfo} {z:Value} {x y:Operand} {mx my:MO} {xs ls ys:List (List C)} {yc:ah}
  (ho:o.op=.call {callee:=.builtin .append,args:=#[x,y],argTypes:=#[t,t]}) (e8:bU x mx=true) (iD:bU y my=true)
  (ht:P.underlying t=some (.slice e)) (hi:P.info? e=some i) (hz:i.zero=some z) (bN:i.size=sz) (iT:0<sz) (n6:i.bytes=by_) (wi:0<by_) (wJ:z.cells.size=sz)
  (hn:σ.h n=some (.row true .live rs xs)) (od:off+1=rs) (hx:σ.ev mx=.one (.bz n k rs off rr yM)) (hl:(xs[k]?).bind (·[off]?)=some (.list sz ls)) (oT:fh ls=true)
  (hy:σ.ev my=.one yc) (hv:cF σ.h yc=some (.list sz ys)) (nu:fh ys=true) (hb:(ls.length+ys.length)*by_<=fQ):
  o.wp P a w (fun a' w'=>∃v,a'=a.put o.dst v/\R B E w0 N σ a w' G/\Fu B E w' G σ.h n k off sz (ls++ys) v) Q:=by
 have H:=r.hr;obtain⟨x1,_⟩:=r.ev e8;obtain⟨y1,_⟩:=r.ev iD;rw[hx] at x1;rw[hy] at y1;have hyj:yc≠ .bC:=by rintro rfl;simp[Am.cF] at hv
 obtain⟨pc,p1,p2,p3⟩:=(x1.gj (by simp)).1 true xs hn;obtain⟨aR,gp,km⟩:=H.LG hn p1;rw[hl] at km;injection km with km;have M:=H.aoY hn od p1;have hr:=H.row n true .live rs xs hn;obtain⟨yp,e1,e2,e3⟩:=H.cF hv (y1.gj hyj).1;cases pc with
 |int kk nn=>simp[PC.er] at km
 |bool bb=>simp[PC.er] at km
 |list s' x0 cap d=>
 rw[PC.dW] at km;injection km with g1 g2;subst g1;cases yp with
 |int kk nn=>simp[PC.er] at e1
 |bool bb=>simp[PC.er] at e1
 |list s2 ya yc' py=>
 rw[PC.dW] at e1;injection e1 with f1 Y;have f1:=f1.symm;subst f1;have yj:ys.length=py.length:=by rw[<-Y];simp
 have QN:ls.length=d.length:=by rw[g2];simp
 have KG:fh (d.map fun e=>e.map PC.er)=true:=by rw[<-g2];exact oT
 have akT:fh (py.map fun e=>e.map PC.er)=true:=by rw[Y];exact nu
 have nt:fh ((d++py).map fun e=>e.map PC.er)=true:=by
  rw[zaw];simp only[fh,List.all_append,co];exact⟨KG,akT⟩
 have YL:(d++py).map (fun e=>e.map PC.er)=ls++ys:=by rw[zaw,<-g2,Y]
 have Qe:ur w sz py (a.eval y):=by rw[<-e2];exact ur.SR e3
 have iq:∀e∈d,e.length=sz:=by
  intro e l;cases gp with
  |nil _ _ _ _=>simp at l
  |cons _ _ _ _ _ _ _ _ h4 _ _=>exact h4 e l
 have akj:∀k j c,At d k j c->Good w c:=by
  intro k j c s;cases gp with
  |nil _ _ _ _=>obtain⟨e,l,_⟩:=s;simp at l
  |cons _ _ _ _ _ _ _ _ _ _ h6=>exact h6 k j c s
 have KE:∀e∈d++py,e.length=sz:=fun e l=>(BY.1 l).elim (iq e) (Qe.1 e);have atd:∀k j c,At (d++py) k j c->Good w c:=fun k j c s=>(rG s).elim (fun h=>akj _ _ _ h.2) (fun h=>Qe.2.1 _ _ _ h.2);have iR:∀k j c,At (d++py) k j c->c.er.eX=true:=by
  rintro k j c ⟨e,l,hj⟩;have h6:=If.1 nt (e.map PC.er) (by simp only[GB];exact⟨e,wt l,rfl⟩);exact If.1 h6 c.er (by simp only[GB];exact⟨c,wt hj,rfl⟩)
 have Gu:cap=0->d=[]:=by
  intro f;cases gp with
  |nil _ _ _ _=>rfl
  |cons _ _ _ _ _ h1 h2 _ _ _ _=>subst f;exact IS (by omega)
 have Rk:∀{u:Value} {I:World},(Builtin.append_ #[t,t] o.type #[a.eval x,a.eval y]).run P w=.ok u I->(execOp a.eval o).run P w=.ok (.value u) I:=by
  intro u I bX;simp[execOp,ho,resolve,invoke,builtin,bX]
 have DG:a.eval x=.slice x0 d.length cap:=p2.symm;by_cases U:d++py=[]
 ·obtain⟨rfl,rfl⟩:=List.append_eq_nil_iff.1 U;have dK:cap=0:=by
   rcases M.nr with f|⟨f,_⟩
   ·exact f
   ·exact absurd rfl f
  subst dK;have akU:ys=[]:=by rw[<-Y];rfl
  have aks:ls=[]:=by rw[g2];rfl
  refine rz (v:=.slice x0 0 0) (w':=w) (Rk ?_) ⟨_,rfl,r,.list sz x0 0 [],rfl,by rw[PC.dW,akU,aks];rfl,M⟩;rw[DG,<-e2];exact aq7 ht hi _ _ _
 ·have L:xF B E w G (aI σ.h n none) sz .live d (a.eval x):=by
   rcases M.nr with f|⟨f,h1,b,D,cur,et,rfl,h3,h4⟩
   ·subst f;have:=Gu rfl;subst this;exact .inl ⟨x0,DG,rfl⟩
   ·have gC:ba b (.list sz (some (ad b D)) cap d):=.here _ _ _ _ f;refine .inr ⟨b,D,cap,cur,et,DG,h3,h4,h1,?_,?_,⟨(M.own b gC).1,fun q hq hlq l=>?_,fun q V W Z X hq=>?_⟩,(M.own b gC).2.2,fun b' aO=>absurd aO (y7 KG b')⟩
    ·cases gp with
     |nil _ _ _ _=>exact absurd rfl f
     |cons _ _ _ _ _ _ h2 _ _ _ _=>exact h2
    ·generalize io:PC.list sz (some (ad b D)) cap d=p at gp;cases gp with
     |int k n=>cases io
     |bool b=>cases io
     |nil _ _ _ _=>injection io with _ _ _ e4;exact absurd e4 f
     |cons _ b' oo' _ _ O q2 q3 q4 q5 q6=>
      injection io with f1 Y f3 f4;injection Y with Y;obtain⟨rfl,rfl⟩:=lV Y;subst f1 f3 f4;exact⟨q4,q5,q6⟩
    ·obtain⟨O,q2⟩:=CZ hq;exact M.name b gC q O hlq l.symm
    ·obtain⟨O,q2⟩:=rJ hq;exact M.row b gC q V W Z X q2 O
  obtain⟨r1,r2,Fe,c',Zu,r3⟩:=Qe;have Y1:(py.flatten.map PC.val).length=py.length*sz:=Ga r1;have h1:∀u∈py.flatten.map PC.val,u.oneCell'=true:=fun u hu=>by obtain⟨pc,_,rfl⟩:=GB.1 hu;exact PC.kF pc
  have hB:=r.fr.size;have GK:(d++py).length=d.length+py.length:=by simp
  rcases ada (P:=P) w (ty:=o.type) (B:=B) (E:=E) ht hi hz bN iT n6 wi iq L Y1 r3 h1 (by rw[<-QN,<-yj];exact hb) with⟨a0,k0,_,QW,_⟩|⟨b,D,uz,cur,e',Zk,b2,b3,b4,b5,b6,b7,b8,b9,bX⟩|⟨uz,arr,c1,c2,c3,c4,bX⟩
  ·exact absurd (by rw[QW,IS k0];rfl) U
  ·
   rw[DG] at Zk;injection Zk with O q2 q3;subst O q3;have wz:(D+d.length*sz)+(py.flatten.map PC.val).length<=cur.size:=by rw[Y1,b3,zaK,<-zav];exact Nat.add_le_add_left (zah _ b5) _
   generalize mh:f7 w b (D+d.length*sz) (py.flatten.map PC.val) cur=I at bX;have dL:∀x,x≠b->I.heap[x]? =w.heap[x]? :=fun x hx=>by rw[<-mh];exact zA x hx
   have mN:I.heap.size=w.heap.size:=by rw[<-mh];exact ry
   have jN:∀x,Cz w I x:=fun x=>by
    by_cases hx:x=b
    ·subst hx;rw[<-mh];exact BM b2 wz
    ·exact Cz.of_eq (dL x hx)
   have Qo:¬G.Im b:=b7.1;have hH:∀k' j,k'<d.length->j<sz->I.cell? (ad b (D+k'*sz+j))=w.cell? (ad b (D+k'*sz+j)):=by
    intro k' j A hj;rw[<-mh,zz b2 wz,aq];rintro⟨O,_⟩;have:(k'+1)*sz<=d.length*sz:=zah _ A;rw[zav] at this;omega
   have Qi:∀{k' j c},At d k' j c->k'<d.length/\j<sz:=by
    rintro k' j c ⟨e,l,hj⟩;refine⟨(By.1 l).1,?_⟩;have:=iq e (wt l);have:=(By.1 hj).1;omega
   have aki:Good I (.list sz (some (ad b D)) cap d):=by
    by_cases f:d=[]
    ·subst f;exact .nil _ _ _ iT
    ·refine .cons _ _ _ _ _ f (by omega) iT iq (fun k' j c s=>?_) (fun k' j c s=>Good.iI (iR k' j c ?_))
     ·rw[hH k' j (Qi s).1 (Qi s).2];exact b6.2.1 k' j c s
     ·obtain⟨e,l,hj⟩:=s;exact⟨e,by rw[zaG (By.1 l).1];exact l,hj⟩
   have cf:σ.h n≠none:=by rw[hn];simp
   have gH:∀m,σ.h m≠none->(G.g m).nl=false->(G.g m).b≠b:=by
    intro m hm hl;by_cases bG:m=n
    ·subst bG;by_cases f:d=[]
     ·intro l;subst l;rcases M.nr with J|⟨J,_⟩
      ·have:=b7.2.1;subst J;simp at b5;subst f;have:py=[]:=by
        apply IS;simpa using b5
       exact U (by rw[this];rfl)
      ·exact J f
     ·exact fun l=>M.name b (.here _ _ _ _ f) m hm hl l.symm
    ·exact b7.2.1 m (by rw[cQ _ _ _ _ bG];exact hm) hl
   have akI:∀m V W Z X,m≠n->σ.h m=some (.row V W Z X)->¬bc b (G.g m).px:=fun m V W Z X bG hm=>b7.2.2 m V W Z X (by rw[cQ _ _ _ _ bG];exact hm);have DC:∀k' F c,At (G.g n).px k' F c->(k',F)≠(k,off)->¬ba b c:=by
    intro k' F c A aJ;by_cases f:d=[]
    ·intro hbc;rcases M.nr with J|⟨J,_⟩
     ·subst J;subst f;have:py=[]:=by
       apply IS;simpa using b5
      exact U (by rw[this];rfl)
     ·exact J f
    ·exact M.rest b (.here _ _ _ _ f) k' F c A aJ
   obtain⟨l1,l2,l3⟩:=hr.eG aR;have Gv:Fi I (G.g n) (G.g n) true .live rs xs:=by
    refine⟨by simp,.inr rfl,rfl,rfl,rfl,rfl,rfl,hr.er,fun h=>(by rw[aR] at h;cases h),fun _=>⟨⟨l2.1,fun k' F c A=>?_,fun k' F c A=>?_⟩,l3⟩,hr.mode.2,fun b h=>h,fun _ k' F pc A hL=>⟨pc,A,rfl,hL⟩,fun _ _=>?_⟩
    ·rw[ik (dL _ (gH n cf aR))];exact l2.2.1 _ _ _ A
    ·by_cases fc:(k',F)=(k,off)
     ·have h1:k'=k:=congrArg zbi fc;have h2:F=off:=congrArg zbc fc;subst h1 h2;obtain⟨ea,hea,hja⟩:=A;obtain⟨eb,KA,KC⟩:=p1;rw[hea] at KA;injection KA with KA;subst KA;rw[hja] at KC;injection KC with KC;subst KC;exact aki
     ·exact(l2.2.2 _ _ _ A).congr fun x hx o=>ik (dL x (by rintro rfl;exact DC k' F c A fc hx)) o
    ·exact(hr.nr rfl rfl).cz fun x _ arr e l=>jN x arr e l
   obtain⟨sY,K,_⟩:=H.HX (G':=G) (h':=σ.h) (w':=I) (S:=fun m=>m=n) (by rw[mN];exact zad _) (fun x hx cN=>by
     by_cases yi:x=b
     ·subst yi;by_cases f:d=[]
      ·rcases M.nr with J|⟨J,_⟩
       ·subst J;subst f;exact absurd (by rw[IS (by simpa using b5:py.length=0)];rfl) U
       ·exact absurd f J
      ·exact absurd (.inr ⟨k,off,_,p1,.here _ _ _ _ f⟩) (cN n rfl)
     ·exact dL x yi) (fun x _=>jN x) rfl (fun m hm=>by
     subst hm;exact⟨true,.live,rs,xs,xs,hn,hn,Gv⟩) (fun m _=>⟨rfl,rfl⟩)
   have r':R B E w0 N σ a I G:=r.step rfl (fun _ h=>h) K sY (r.fr.one b8 (fun x _ hx=>dL x hx) (by rw[mN];exact zad _) (jN b) (by rw[<-mh];rfl) (by rw[<-mh];rfl) (by rw[<-mh];rfl));refine rz (v:=.slice (some (ad b D)) (d.length+py.length) cap) (w':=I) (Rk ?_) ⟨_,rfl,r',.list sz (some (ad b D)) cap (d++py),by simp[PC.val],by rw[PC.dW,YL],?_⟩
   ·rw[DG,Zu];rw[DG] at bX;exact bX
   ·have T:∀x,ba x (.list sz (some (ad b D)) cap (d++py))->x=b:=fun x hx=>by
     obtain⟨o',gd⟩:=ZE nt hx;injection gd with gd;exact(lV gd).1.symm
    refine⟨.cons _ _ _ _ _ U (by rw[GK];exact b5) iT KE (fun k' j c s=>?_) (fun k' j c s=>Good.iI (iR k' j c s)),Sep.flat nt,?_,fun x hx=>?_,fun x hx m hm hl=>?_,fun x hx m V W Z X bG hm=>?_,fun x hx k' F c A aJ=>?_⟩
    ·rw[<-mh,zz b2 wz];have hf:=te KE s;rw[za1] at hf;have jY:d.flatten.length=d.length*sz:=by have:=Ga iq;rwa[Pe] at this
     rcases rG s with⟨uV,A⟩|⟨uV,A⟩
     ·rw[aq ?_]
      ·exact b6.2.1 k' j c A
      ·rintro⟨O,_⟩;have:=(Qi A).2;have:(k'+1)*sz<=d.length*sz:=zah _ uV;rw[zav] at this;omega
     ·have Az:d.length*sz<=k'*sz+j:=zat (zah _ uV) (Nat.le_add_right _ _);have cm:=(By.1 hf).1;rw[za6,jY] at cm;rw[zaj (by rw[jY];exact Az),jY] at hf;rw[ak ⟨by omega,by simp only[Pe];omega⟩];rw[AN,show D+k'*sz+j - (D+d.length*sz)=k'*sz+j - d.length*sz by omega,hf];rfl
    ·obtain⟨jH,O,q2⟩:=Fa (vs:=py.flatten.map PC.val) (o:=D+d.length*sz) b2 wz;rw[mh] at O;exact .inr ⟨U,b4,b,D,jH,e',rfl,O,by rw[q2,b3]⟩
    ·rw[T x hx];exact⟨Qo,(jN b).kD ⟨cur,e',b2⟩,b8⟩
    ·rw[T x hx];exact(gH m hm hl).symm
    ·rw[T x hx];exact akI m V W Z X bG hm
    ·rw[T x hx];exact DC k' F c A aJ
  ·
   have hd:∀x:Nat,x<w.heap.size->(w.drew.alloc (.cells arr e)).heap[x]? =w.heap[x]? :=fun x hx=>heap_alloc_old w.drew _ x hx;have Zh:w.heap.size<=(w.drew.alloc (.cells arr e)).heap.size:=by
    have:(w.drew.alloc (.cells arr e)).heap.size=w.drew.heap.size+1:=by simp
    have h2:w.drew.heap.size=w.heap.size:=rfl;omega
   have r':R B E w0 N σ a (w.drew.alloc (.cells arr e)) G:=r.step rfl (fun _ h=>h) (bu.world (fun x hx=>hd x (H.gN x hx)) _) (H.grow hd Zh) (r.fr.grow hd Zh rfl rfl rfl);have mN:arr.size=uz*sz:=by rw[c3,wJ];omega
   refine rz (v:=.slice (some (ad w.heap.size 0)) (d.length+py.length) uz) (w':=w.drew.alloc (.cells arr e)) (Rk ?_) ⟨_,rfl,r',.list sz (some (ad w.heap.size 0)) uz (d++py),by simp[PC.val],by rw[PC.dW,YL],?_⟩
   ·rw[Zu];exact bX
   ·have T:∀x,ba x (.list sz (some (ad w.heap.size 0)) uz (d++py))->x=w.heap.size:=fun x hx=>by
     obtain⟨o',gd⟩:=ZE nt hx;injection gd with gd;exact(lV gd).1.symm
    refine⟨.cons _ _ _ _ _ U (by rw[GK];exact c1) iT KE (fun k' j c s=>?_) (fun k' j c s=>Good.iI (iR k' j c s)),Sep.flat nt,?_,fun x hx=>?_,fun x hx m hm hl=>?_,fun x hx m V W Z X bG hm aO=>?_,fun x hx k' F c A aJ aO=>?_⟩
    ·have hf:=te KE s;have J:=c4 _ _ (by rw[<-zaw,<-za1,AN,hf];rfl);simp only[za8];unfold ad;have aku:=World.cell?_alloc_new w.drew arr e (k'*sz+j);exact aku.trans J
    ·exact .inr ⟨U,c2,w.heap.size,0,arr,e,rfl,heap_alloc_new w.drew _,by rw[mN,za8]⟩
    ·rw[T x hx];refine⟨fun hi=>?_,ek.alloc w.drew arr e,.inl hB⟩;have:=H.gN _ hi;omega
    ·rw[T x hx];have:=(H.own m hm hl).2.2;omega
    ·rw[T x hx] at aO;have:=H.pu hm aO;omega
    ·rw[T x hx] at aO;have:=H.pu hn ⟨k',F,c,A,aO⟩;omega
end
def Cl (B:Nat) (E:Ex) (w0:World) (N:Nat) (a:Act) (w:World) (G:Gh) (d:Option Nat) (σ:St):Act->World->Prop:=
 fun a' w'=>w'=w/\(∃v,a'=a.put d v)/\R B E w0 N σ a' w G
section
variable {B:Nat} {E:Ex} {w0 w w':World} {G G':Gh} {N:Nat} {h h':Nat->Option ar} {used:Nat->Bool}
variable {P:Program} {T:aQ} {o:Oper} {a:Act} {σ σ':St} {Q:Exit->Act->World->Prop}
theorem Aq (r:R B E w0 N σ a w G) {x:ao} {v:Value} (c:(execOp a.eval o).run P w=.ok (.value v) w) (b:RA w G σ.h x v) (hr:∀m,x.ref m->σ.used m=true) (d:∀n,o.dst=some n->n<N): o.wp P a w (Cl B E w0 N a w G o.dst (σ.put o.dst x)) Q:=rz c ⟨rfl,⟨v,rfl⟩,r.put b hr d⟩
theorem WK (r:R B E w0 N σ a w G) {x:Operand} {m:MO} (b:o.op=.move x\/o.op=.assign x) (e:∀n,o.dst=some n->n<N) (hm:bU x m=true): o.wp P a w (Cl B E w0 N a w G o.dst (σ.put o.dst (σ.ev m))) Q:=by obtain⟨d,c⟩:=r.ev hm;refine Aq r ?_ d c e;rcases b with b|b<;>simp[execOp,b]
theorem PK (r:R B E w0 N σ a w G) {s:TypeId} {f off:Nat} {x:Operand} {mx:MO} {y:ao} (z:o.op=.fieldAddr s x f) (p:∀n,o.dst=some n->n<N) (hx:bU x mx=true) (t:FH P s f off=true) (hy:(∃n k sz q,σ.ev mx=.one (.ptr n k sz q)/\(σ.h n).isSome=true/\y=.one (.ptr n k sz (q+off)))\/(∃xs q,σ.ev mx=.one (.di xs q)/\y=.one (.di xs (q+off)))\/(∃xs q j n s len,σ.ev mx=.one (.cO xs q j n s len)/\y=.one (.cO xs (q+off) j n s len))): o.wp P a w (Cl B E w0 N a w G o.dst (σ.put o.dst y)) Q:=by obtain⟨c,i⟩:=r.ev hx;rcases hy with⟨n,k,sz,q,d,A,rfl⟩|⟨xs,q,d,rfl⟩|⟨xs,q,j,n,s',len,d,rfl⟩;rw[d] at c i;have F:σ.h n≠none:=(by intro H;rw[H] at A;cases A);obtain⟨D,I⟩:=(c.gj (by simp)).1 F;refine Aq r (v:=.pointer (some (ad (G.g n).b ((G.g n).o+k*sz+q+off)))) ?_ ?_ (fun m hm=>i m hm) p;simp only[execOp,z,I];simp[Ez t];exact RA.gh rfl fun _=>⟨D,by rw[zaK]⟩;rw[d] at c;obtain⟨b,e,pe,p1,u,l,p4⟩:=(c.gj (by simp)).1;refine Aq r (v:=.pointer (some (ad b (e+q+off)))) ?_ ?_ (fun m hm=>absurd hm (by simp[ao.ref,ah.ref,ah.ie])) p;simp only[execOp,z,p1];simp[Ez t];exact RA.gh rfl ⟨b,e,pe,by rw[zaK],u,l,p4⟩;rw[d] at c i;obtain⟨b,e,pe,p1,u,l,p4,C⟩:=(c.gj (by simp)).1;refine Aq r (v:=.pointer (some (ad b (e+q+off)))) ?_ ?_ (fun m hm=>i m hm) p;simp only[execOp,z,p1];simp[Ez t];exact RA.gh rfl ⟨b,e,pe,by rw[zaK],u,l,p4,C⟩
theorem WI (r:R B E w0 N σ a w G) {t e:TypeId} {i:TypeInfo} {x y:Operand} {mx my:MO} {sz:Nat} {q:Int} {z:ao} (L:o.op=.indexAddr t x y) (A:∀n,o.dst=some n->n<N) (e8:bU x mx=true) (S:bU y my=true) (K:P.underlying t=some (.slice e)) (C:P.info? e=some i) (M:i.size=sz) (hq:(σ.ev my).d6=some q) (H:0<=q) (hz:(∃n lo len,σ.ev mx=.one (.sl n sz lo len)/\q<(len:Int)/\(σ.h n).isSome=true/\z=.one (.ptr n (lo+q.toNat) sz 0))\/(∃xs l,σ.ev mx=.one (.c (.list sz xs))/\xs[q.toNat]? =some l/\z=.one (.di l 0))): o.wp P a w (Cl B E w0 N a w G o.dst (σ.put o.dst z)) Q:=by obtain⟨f,F⟩:=r.ev e8;obtain⟨kk,I⟩:=(r.ev S).1.int hq;rcases hz with⟨n,lo,len,s,d,hs,rfl⟩|⟨xs,l,s,d,rfl⟩;rw[s] at f F;have T:jb (G.g n) sz lo len (a.eval x):=(f.gj (by simp)).1 (Ht hs);rcases T with⟨_,_,_,hl⟩|⟨aR,a',V,jM,ha⟩;omega;have W:=ha (.inl (by omega));subst W;refine Aq r (v:=.pointer (some (ad (G.g n).b ((G.g n).o+lo*sz+q.toNat*sz)))) ?_ ?_ (fun m hm=>F m hm) A;simp only[execOp,L,V,I];simp[EA K C M H d];exact RA.gh rfl fun _=>⟨aR,by rw[zav];congr 3;omega⟩;rw[s] at f;obtain⟨pc,p1,p2,U,p4⟩:=f.c;cases pc with|int k n=>simp[PC.er] at p1|bool b=>simp[PC.er] at p1|list J ya c py=>rw[PC.dW] at p1;injection p1 with p0 p1;subst p0;have X:∃pe,py[q.toNat]? =some pe/\pe.map PC.er=l:=(by rw[<-p1,AN] at d;cases hp:py[q.toNat]? with|none=>rw[hp] at d;cases d|some pe=>rw[hp] at d;simp at d;exact⟨pe,rfl,d⟩);obtain⟨pe,p,O⟩:=X;have cm:q.toNat<py.length:=(By.1 p).1;cases U with|nil _ _ _ _=>simp at cm|cons _ b D _ _ Z g2 g3 g4 g5 Y=>have fB:q<(py.length:Int):=(by omega);refine Aq r (v:=.pointer (some (ad b (D+q.toNat*J)))) ?_ ?_ (fun m hm=>absurd hm (by simp[ao.ref,ah.ref,ah.ie])) A;simp only[execOp,L,<-p2,PC.val,I];simp[EA K C M H fB];refine RA.gh rfl ⟨b,D+q.toNat*J,pe,by simp,O,p4 b (.here _ _ _ _ Z),fun j c u=>?_⟩;exact⟨g5 _ _ _ ⟨pe,p,u⟩,Y _ _ _ ⟨pe,p,u⟩,fun b' aO=>p4 b' (.there _ _ _ _ _ _ c ⟨pe,p,u⟩ aO)⟩
theorem aio (r:R B E w0 N σ a w G) {t e:TypeId} {i:TypeInfo} {x y:Operand} {mx my:MO} {n k f off sz g len:Nat} {q:Int} {ys:List (List C)} (X:o.op=.indexAddr t x y) (I:∀n,o.dst=some n->n<N) (W:bU x mx=true) (H:bU y my=true) (U:P.underlying t=some (.slice e)) (J:P.info? e=some i) (V:i.size=sz) (T:(σ.ev my).d6=some q) (O:0<=q) (h1:q<(ys.length:Int)) (hx:σ.ev mx=.one (.bz n k f off g len)) (K:cF σ.h (.bz n k f off g len)=some (.list sz ys)): o.wp P a w (Cl B E w0 N a w G o.dst (σ.put o.dst (.one (.cX n k f off sz q.toNat)))) Q:=by obtain⟨z,l⟩:=r.ev W;obtain⟨kk,S⟩:=(r.ev H).1.int T;rw[hx] at z l;obtain⟨D,xs,hn,A⟩:=afU K;obtain⟨pc,p1,M,p3⟩:=(z.gj (by simp)).1 D xs hn;obtain⟨g1,u,d⟩:=r.hr.LG hn p1;rw[A] at d;injection d with d;cases pc with|int k n=>simp[PC.er] at d|bool b=>simp[PC.er] at d|list s' ya c py=>rw[PC.dW] at d;injection d with L e2;subst L;have hl:ys.length=py.length:=(by rw[e2];simp);have s:q<(py.length:Int):=(by omega);have yg:PC.val (.list sz ya c py)=.slice ya py.length c:=rfl;generalize io:PC.list sz ya c py=p at u;cases u with|int k n=>cases io|bool b=>cases io|nil _ _ _ _=>injection io with _ _ _ e4;subst e4;simp at s;omega|cons _ b j _ _ q1 q2 q3 q4 q5 q6=>injection io with F f2 f3 f4;subst F f2 f3 f4;refine Aq r (v:=.pointer (some (ad b (j+q.toNat*sz)))) ?_ ?_ (fun m hm=>l m hm) I;simp only[execOp,X,<-M,PC.val,S];simp[EA U J V O s];refine RA.gh rfl fun br av cv=>?_;exact⟨_,b,j,py.length,c,p1,rfl,rfl,rfl⟩
end
theorem ah.ao1 {c:ah} {m:Nat}:m∈c.tS↔c.ie m:=by cases c<;>simp[ah.tS,ah.ie]
theorem ah.H6 {c:ah} {m:Nat}:m∈c.nm↔c.ref m:=by cases c with|fn f dR=>simp[ah.nm,ah.ref,zac,ah.ao1]|_=>simp[ah.nm,ah.tS,ah.ref,ah.ie]
theorem ao.Be {v:ao} {m:Nat}:m∈v.iH↔v.ref m:=by cases v with|one c=>exact ah.H6|agg cs=>simp[ao.iH,ao.ref,zac,ah.H6]|bH xs=>simp only[ao.iH,ao.ref,zac,ah.H6]
theorem ra {op:aV} {ev:MO->ao} {n:Nat}:n∈op.j5 ev↔∃a∈op.args,(ev a).ref n:=by simp[aV.j5,zac,ao.Be]
theorem LH {op:aV} {ev:MO->ao} {h:Nat->Option ar} {n:Nat} (hn:n∈op.j5 ev):n∈op.nG ev h:=by unfold aV.nG;cases op.Hr with|true=>exact BY.2 (.inl hn)|false=>exact hn
theorem af0 {op:aV} {ev:MO->ao} {h:Nat->Option ar} {ws:List Nat} (b:op.lT ev h=some ws) {n:Nat} (hn:n∈ws):n∈op.j5 ev:=by(cases op<;>simp only[aV.lT] at b<;>first|(cases b;cases hn)|(cases b;done)|skip);(case store sz x v=>split at b;rename_i q _ _ _ hx;have c:q∈(aV.store sz x v).j5 ev:=ra.2 ⟨x,by simp[aV.args],by rw[hx];exact rfl⟩;split at b;injection b with b;subst b;simp at hn;subst hn;exact c;injection b with b;subst b;rcases zam.1 hn with rfl|hn;exact c;exact ra.2 ⟨v,by simp[aV.args],ao.Be.1 hn⟩;cases b;rename_i q _ _ _ _ _ hx;have c:q∈(aV.store sz x v).j5 ev:=ra.2 ⟨x,by simp[aV.args],by rw[hx];exact rfl⟩;injection b with b;subst b;simp at hn;subst hn;exact c;cases b);(case copy sz x y=>split at b;rename_i q _ _ _ hx;injection b with b;subst b;simp at hn;subst hn;exact ra.2 ⟨x,by simp[aV.args],by rw[hx];exact rfl⟩;cases b);(case mG z x=>split at b;rename_i q _ _ _ hx;injection b with b;subst b;simp at hn;subst hn;exact ra.2 ⟨x,by simp[aV.args],by rw[hx];exact rfl⟩;cases b);(case fG sz ps=>injection b with b;subst b;obtain⟨a,d,hn⟩:=zac.1 hn;exact ra.2 ⟨a,d,ao.Be.1 hn⟩);(case kj f xs=>injection b with b;subst b;obtain⟨a,d,hn⟩:=zac.1 hn;exact ra.2 ⟨a,d,ao.Be.1 hn⟩);case append fl sz by_ x y=>injection b with b;subst b;rcases BY.1 hn with hn|hn;exact ra.2 ⟨x,by simp[aV.args],ao.Be.1 hn⟩;exact ra.2 ⟨y,by simp[aV.args],ao.Be.1 hn⟩
def St.eg (σ:St):List (Nat×Option ar)->St
 |[]=>σ
 |(n,b)::l=>St.eg {σ with h:=aI σ.h n b} l
def eO (h:Nat->Option ar):List (Nat×Option ar)->(Nat->Option ar)
 |[]=>h
 |(n,b)::l=>eO (aI h n b) l
theorem mU:∀(l:List (Nat×Option ar)) (σ:St),σ.eg l={σ with h:=eO σ.h l}
 |[],σ=>rfl
 |(n,b)::l,σ=>by simp only[St.eg,eO];rw[mU l]
theorem pF:∀{l:List (Nat×Option ar)} {h:Nat->Option ar} {n:Nat},(∀p∈l,p.1≠n)->eO h l n=h n
 |[],h,n,_=>rfl
 |(m,b)::l,h,n,hn=>by simp only[eO];rw[pF fun p a=>hn p (zae _ a)];exact cQ _ _ _ _ (fun e=>hn (m,b) (by simp) e.symm)
theorem asH (h:Nat->Option ar) (l a:List (Nat×Option ar)):eO h (l++a)=eO (eO h l) a:=by induction l generalizing h with|nil=>rfl|cons x l c=>obtain⟨n,b⟩:=x;exact c _
theorem E8 (σ:St) (l a:List (Nat×Option ar)):σ.eg (l++a)=(σ.eg l).eg a:=by simp only[mU,asH]
theorem I9:∀{l:List (Nat×Option ar)} {h h':Nat->Option ar} {n:Nat},(∃p∈l,p.1=n)->eO h l n=eO h' l n
 |[],h,h',n,hn=>by obtain⟨p,a,_⟩:=hn;cases a
 |(m,b)::l,h,h',n,hn=>by simp only[eO];by_cases hl:∃p∈l,p.1=n;exact I9 hl;have c:∀p∈l,p.1≠n:=fun p a e=>hl ⟨p,a,e⟩;rw[pF c,pF c];obtain⟨p,a,e⟩:=hn;rcases zam.1 a with rfl|a;simp only at e;subst e;rw[cr,cr];exact absurd e (c p a)
theorem afI {u v:List (Nat×Option ar)} (hd:∀p∈u,∀q∈v,p.1≠q.1) (h:Nat->Option ar):eO (eO h u) v=eO (eO h v) u:=by funext n;by_cases d:∃p∈u,p.1=n;obtain⟨p,a,rfl⟩:=d;rw[pF (l:=v) fun q b e=>hd p a q b e.symm];exact I9 ⟨p,a,rfl⟩;rw[pF (l:=u) (h:=eO h v) fun p a e=>d ⟨p,a,e⟩];by_cases c:∃q∈v,q.1=n;exact I9 c;rw[pF fun q b e=>c ⟨q,b,e⟩,pF fun p a e=>d ⟨p,a,e⟩,pF fun q b e=>c ⟨q,b,e⟩]
theorem asJ {u v:List (Nat×Option ar)} (hd:∀p∈u,∀q∈v,p.1≠q.1) (σ:St):(σ.eg u).eg v=(σ.eg v).eg u:=by simp only[mU,afI hd]
theorem afJ (σ:St) (e:Nat->ao) (l:List (Nat×Option ar)):(σ.we e).eg l=(σ.eg l).we e:=by simp only[mU];rfl
theorem asI {l:List (Nat×Option ar)} {h:Nat->Option ar} {n:Nat} {b:Option ar} (hn:∀p∈l,p.1≠n):eO (aI h n b) l=aI (eO h l) n b:=by have:=afI (u:=l) (v:=[(n,b)]) (fun p c q a=>by simp at a;subst a;exact hn p c) h;exact this.symm
theorem alH {σ σ1:St} {l:List (Nat×Option ar)} {n:Nat} {b:ar} (hl:∀p∈l,σ.used p.1=true) (h:σ.ins n b=some σ1):(σ.eg l).ins n b=some (σ1.eg l):=by obtain⟨a,rfl⟩:=oA h;unfold St.ins;rw[mU,mU];rw[aq (show¬σ.used n=true by rw[a];simp)];simp only;rw[asI fun p c e=>by rw[<-e,hl p c] at a;cases a]
theorem Hp:∀{A:List (Nat×ar)} {σ σ1:St} {l:List (Nat×Option ar)},(∀p∈l,σ.used p.1=true)->σ.dg A=some σ1->(σ.eg l).dg A=some (σ1.eg l)
 |[],σ,σ1,l,hl,h=>by simp only[St.dg] at h⊢;injection h with h;rw[h]
 |(n,b)::A,σ,σ1,l,hl,h=>by simp only[St.dg] at h⊢;split at h;rename_i lf e;rw[alH hl e];obtain⟨u1,rfl⟩:=oA e;exact Hp (fun p a=>t9 _ _ (hl p a)) h;cases h
theorem ZH:∀{A:List (Nat×ar)} {σ σ':St},σ.used=σ'.used->(σ.dg A).isSome=true->(σ'.dg A).isSome=true
 |[],σ,σ',hu,h=>rfl
 |(n,b)::A,σ,σ',hu,h=>by simp only[St.dg,St.ins] at h⊢;rw[<-hu];split at h;rename_i lf e;split at e;cases e;rename_i hn;injection e with e;subst e;rw[aq hn];simp only;exact ZH (by rfl) h;cases h
theorem R0 {A:List (Nat×ar)} {σ B:St} {l:List (Nat×Option ar)} (hl:∀p∈l,σ.used p.1=true) (h:(σ.eg l).dg A=some B):∃a,σ.dg A=some a/\B=a.eg l:=by have b:(σ.dg A).isSome=true:=ZH (A:=A) (σ:=σ.eg l) (σ':=σ) (by rw[mU]) (by rw[h];rfl);cases e:σ.dg A with|none=>rw[e] at b;cases b|some a=>refine⟨a,rfl,?_⟩;have:=Hp hl e;rw[h] at this;injection this
abbrev Us:=List (Nat×Option ar)
def t8 (h:Nat->Option ar):ah->Option (C×Bool×Us)
 |.c x=>some (x,x.eX,[])
 |.nil sz=>if 0<sz then some (.list sz [],true,[]) else none
 |.sl n sz lo len=>
  match h n with
  |some (.row _ m rs xs)=>if rs=sz/\lo=0/\len<=xs.length then some (.list sz (xs.take len),decide (m≠ .aM),[(n,none)]) else none
  |_=>none
 |_=>none
def kY (h:Nat->Option ar):List ah->Option (List C×Bool×Us)
 |[]=>some ([],true,[])
 |c::cs=>match t8 h c with
  |some (x,o,u)=>match kY (eO h u) cs with
   |some (xs,o',u')=>some (x::xs,o&&o',u++u')
   |none=>none
  |none=>none
def qm (sz:Nat) (h:Nat->Option ar):List ao->Option (List (List C)×Bool×Us)
 |[]=>some ([],true,[])
 |v::vs=>match v.cells? with
  |some (_,cs)=>if cs.length=sz then
   match kY h cs with
   |some (e,o,u)=>match qm sz (eO h u) vs with
    |some (es,o',u')=>some (e::es,o&&o',u++u')
    |none=>none
   |none=>none
   else none
  |none=>none
theorem Ja (σ:St) (l:Us):(σ.eg l).h=eO σ.h l:=by rw[mU]
theorem asu (σ:St) (c:ah):σ.f0 c=(t8 σ.h c).map fun x=>(x.1,x.2.1,σ.eg x.2.2):=by cases c with|sl n sz lo len=>simp only[St.f0,t8];(cases σ.h n with|none=>rfl|some b=>cases b with|box cs=>rfl|row gr m rs xs=>simp only;split<;>rfl)|nil sz=>simp only[St.f0,t8];split<;>rfl|_=>rfl
theorem Ni:∀(cs:List ah) (σ:St),σ.f6 cs=(kY σ.h cs).map fun x=>(x.1,x.2.1,σ.eg x.2.2)
 |[],σ=>rfl
 |c::cs,σ=>by simp only[St.f6,kY,asu];cases t8 σ.h c with|none=>rfl|some x=>obtain⟨x,o,u⟩:=x;simp only[AI,Ni cs,Ja];cases kY (eO σ.h u) cs with|none=>rfl|some y=>obtain⟨xs,o',u'⟩:=y;simp only[AI,E8]
theorem afu (sz:Nat):∀(vs:List ao) (σ:St),σ.kc sz vs=(qm sz σ.h vs).map fun x=>(x.1,x.2.1,σ.eg x.2.2)
 |[],σ=>rfl
 |v::vs,σ=>by simp only[St.kc,qm];cases v.cells? with|none=>rfl|some x=>obtain⟨b,cs⟩:=x;simp only;split;rw[Ni];(cases kY σ.h cs with|none=>rfl|some y=>obtain⟨e,o,u⟩:=y;simp only[AI,afu sz vs,Ja];cases qm sz (eO σ.h u) vs with|none=>rfl|some y=>obtain⟨es,o',u'⟩:=y;simp only[AI,E8]);rfl
theorem ass {h:Nat->Option ar} {c:ah} {x:C} {o:Bool} {u:Us} (e:t8 h c=some (x,o,u)):∀q∈u,q.1∈c.nm:=by unfold t8 at e;split at e;injection e with e;injection e with _ e;injection e with _ e;subst e;intro q a;cases a;split at e;injection e with e;injection e with _ e;injection e with _ e;subst e;intro q a;cases a;cases e;split at e;split at e;injection e with e;injection e with _ e;injection e with _ e;subst e;intro q a;simp at a;subst a;simp[ah.nm,ah.tS];cases e;cases e;cases e
theorem Nh:∀{cs:List ah} {h:Nat->Option ar} {xs:List C} {o:Bool} {u:Us},kY h cs=some (xs,o,u)->∀q∈u,q.1∈cs.flatMap ah.nm
 |[],h,xs,o,u,e=>by simp only[kY] at e;injection e with e;injection e with _ e;injection e with _ e;subst e;intro q a;cases a
 |c::cs,h,xs,o,u,e=>by simp only[kY] at e;split at e;rename_i x o1 u1 d;split at e;rename_i jl o2 u2 b;injection e with e;injection e with _ e;injection e with _ e;subst e;intro q a;rw[Pd];rcases BY.1 a with a|a;exact BY.2 (.inl (ass d q a));exact BY.2 (.inr (Nh b q a));cases e;cases e
theorem CH {v:ao} {b:Bool} {cs:List ah} (h:v.cells?=some (b,cs)):cs.flatMap ah.nm=v.iH:=by cases v with|one c=>cases c<;>simp[ao.cells?] at h<;>(obtain⟨_,rfl⟩:=h;simp[ao.iH])|agg cs'=>simp[ao.cells?] at h;obtain⟨_,rfl⟩:=h;rfl|bH xs=>simp[ao.cells?] at h
theorem aft {sz:Nat}:∀{vs:List ao} {h:Nat->Option ar} {xs:List (List C)} {o:Bool} {u:Us},qm sz h vs=some (xs,o,u)->∀q∈u,q.1∈vs.flatMap ao.iH
 |[],h,xs,o,u,e=>by simp only[qm] at e;injection e with e;injection e with _ e;injection e with _ e;subst e;intro q a;cases a
 |v::vs,h,xs,o,u,e=>by simp only[qm] at e;split at e;rename_i b cs c;split at e;split at e;rename_i x o1 u1 d;split at e;rename_i jl o2 u2 f;injection e with e;injection e with _ e;injection e with _ e;subst e;intro q a;rw[Pd];rcases BY.1 a with a|a;exact BY.2 (.inl (CH c▸Nh d q a));exact BY.2 (.inr (aft f q a));cases e;cases e;cases e;cases e
theorem I8 {h h':Nat->Option ar} {n:Nat} (c:h' n=h n) (u:Us):eO h' u n=eO h u n:=by by_cases b:∃p∈u,p.1=n;exact I9 b;rw[pF fun p a e=>b ⟨p,a,e⟩,pF fun p a e=>b ⟨p,a,e⟩,c]
theorem asr {h h':Nat->Option ar} {c:ah} (a:∀n∈c.nm,h' n=h n):t8 h' c=t8 h c:=by cases c with|sl n sz lo len=>simp only[t8];rw[a n (by simp[ah.nm,ah.tS])]|_=>rfl
theorem Ng:∀{cs:List ah} {h h':Nat->Option ar},(∀n∈cs.flatMap ah.nm,h' n=h n)->kY h' cs=kY h cs
 |[],h,h',_=>rfl
 |c::cs,h,h',hh=>by simp only[kY];rw[asr fun n hn=>hh n (by rw[Pd];exact BY.2 (.inl hn))];cases t8 h c with|none=>rfl|some x=>obtain⟨x,o,u⟩:=x;simp only;rw[Ng (cs:=cs) (h:=eO h u) (h':=eO h' u) fun n hn=>I8 (hh n (by rw[Pd];exact BY.2 (.inr hn))) u]
theorem afs {sz:Nat}:∀{vs:List ao} {h h':Nat->Option ar},(∀n∈vs.flatMap ao.iH,h' n=h n)->qm sz h' vs=qm sz h vs
 |[],h,h',_=>rfl
 |v::vs,h,h',hh=>by simp only[qm];cases hv:v.cells? with|none=>rfl|some x=>obtain⟨b,cs⟩:=x;simp only;rw[Ng (cs:=cs) fun n hn=>hh n (by rw[Pd];exact BY.2 (.inl (CH hv▸hn)))];cases kY h cs with|none=>rfl|some y=>obtain⟨e,o,u⟩:=y;simp only;rw[afs (vs:=vs) (h:=eO h u) (h':=eO h' u) fun n hn=>I8 (hh n (by rw[Pd];exact BY.2 (.inr hn))) u]
def zr (h:Nat->Option ar) (n:Nat) (gr:Bool) (m:Mode) (rs:Nat) (xs:List (List C)) (k off:Nat) (e:List C) (vs:List ah):Option Us:=
 match sub e off vs.length with
 |none=>none
 |some iv=>match kY h vs with
  |none=>none
  |some (cs,o,u)=>
   if m=.live then
    if e9 cs=true/\e9 iv=true/\(eO h u n).isSome=true/\gr=false then some (u++[(n,some (.row gr m rs (xs.set k (cZ e off cs))))]) else none
   else if(eO h u n).isSome=true then some (u++[(n,some (.row gr (if o=true then m else .aM) rs (xs.set k (cZ e off cs))))])
   else none
theorem asg (σ:St) (n:Nat) (a:Bool) (m:Mode) (b:Nat) (xs:List (List C)) (k off:Nat) (e:List C) (vs:List ah): oK σ n a m b xs k off e vs=(zr σ.h n a m b xs k off e vs).map fun u=>σ.eg u:=by unfold oK zr;cases sub e off vs.length with|none=>rfl|some iv=>simp only[Ni];cases kY σ.h vs with|none=>rfl|some x=>obtain⟨cs,o,u⟩:=x;simp only[AI,Ja];(repeat' split);all_goals first|rfl|(simp only[AI,E8];rfl)
def xK (h:Nat->Option ar) (sz:Nat):ao->Option (List (List C)×Mode×List (Nat×Option ar))
 |.one (.nil _)=>some ([],.aN,[])
 |.one (.sl a s 0 len)=>match h a with
  |some (.row true m rs xs)=>if rs=sz/\s=sz/\len=xs.length then some (xs,m,[(a,none)]) else none
  |_=>none
 |_=>none
def vO (fl:Bool) (h:Nat->Option ar) (sz:Nat) (m:Mode):ao->Option (List (List C)×Mode×List (Nat×Option ar))
  |.one (.nil _)=>some ([],m,[])
  |.one (.c (.list s ys))=>if s=sz then(if(fl&&fh ys)=true then some (ys,m,[]) else if m=.live then none else some (ys,.aM,[])) else none
  |.one (.sl b s lo len)=>match h b with
   |some (.row gr m' rs ys)=>if rs=sz/\s=sz/\lo+len<=ys.length then
       (if(fl&&fh ((ys.drop lo).take len))=true then some ((ys.drop lo).take len,m,[])
        else if lo=0/\len=ys.length then(if m=m'/\(m=.live->gr=true) then some (ys,m,[(b,none)]) else if m=.live\/m'=.live then none else some (ys,.aM,[(b,none)])) else none)
    else none
   |_=>none
  |_=>none
theorem agv (σ:St) (sz:Nat) (v:ao):rF σ sz v=(xK σ.h sz v).map fun x=>(x.1,x.2.1,σ.eg x.2.2):=by cases v with|one v=>(cases v with|sl a s lo len=>(cases lo with|zero=>simp only[rF,xK];(cases σ.h a with|none=>rfl|some b=>cases b with|box cs=>rfl|row c m rs xs=>cases c with|true=>simp only;split<;>rfl|false=>rfl)|succ lo=>rfl)|_=>rfl)|_=>rfl
theorem agx (fl:Bool) (σ:St) (sz:Nat) (m:Mode) (v:ao):mF fl σ sz m v=(vO fl σ.h sz m v).map fun x=>(x.1,x.2.1,σ.eg x.2.2):=by cases v with|one v=>(cases v with|sl b s lo len=>simp only[mF,vO];(cases σ.h b with|none=>rfl|some b=>cases b with|box cs=>rfl|row gr m rs xs=>simp only;(repeat' split);all_goals rfl)|c x=>(cases x with|list s ys=>simp only[mF,vO];(repeat' split);(all_goals rfl)|_=>rfl)|_=>rfl)|_=>rfl
def m7 (h:Nat->Option ar):List ao->Option (List Dv×List Nat×Us)
 |[]=>some ([],[],[])
 |v::vs=>match nN h v with
  |some (n,xs)=>match m7 h vs with
   |some (ds,ns,u)=>some ((.ptr,xs)::ds,n::ns,u)
   |none=>none
  |none=>match v.cells? with
   |some (ag,cs)=>match kY h cs with
    |some (xs,_,u)=>match m7 (eO h u) vs with
     |some (ds,ns,u')=>some ((if ag=true then .agg else .one,xs)::ds,ns,u++u')
     |none=>none
    |none=>none
   |none=>none
theorem OO:∀(vs:List ao) (σ:St),σ.jc vs=(m7 σ.h vs).map fun x=>(x.1,x.2.1,σ.eg x.2.2)
 |[],σ=>rfl
 |v::vs,σ=>by simp only[St.jc,m7];cases nN σ.h v with|some x=>obtain⟨n,xs⟩:=x;simp only[OO vs σ];cases m7 σ.h vs<;>rfl|none=>simp only;cases v.cells? with|none=>rfl|some x=>obtain⟨ag,cs⟩:=x;simp only;rw[Ni];cases kY σ.h cs with|none=>rfl|some y=>obtain⟨e,o,u⟩:=y;simp only[AI,OO vs,Ja];cases m7 (eO σ.h u) vs with|none=>rfl|some y=>obtain⟨ds,ns,u'⟩:=y;simp only[AI,E8]
theorem agO {h:Nat->Option ar} {v:ao} {n:Nat} {xs:List C} (e:nN h v=some (n,xs)):n∈v.iH:=by obtain⟨sz,cs,rfl,_⟩:=Vx e;simp[ao.iH,ah.nm,ah.tS]
theorem JC:∀{vs:List ao} {h:Nat->Option ar} {ds:List Dv} {ns:List Nat} {u:Us},m7 h vs=some (ds,ns,u)->(∀q∈u,q.1∈vs.flatMap ao.iH)/\∀n∈ns,n∈vs.flatMap ao.iH
 |[],h,ds,ns,u,e=>by simp only[m7] at e;injection e with e;injection e with _ e;injection e with c e;subst e c;exact⟨fun q a=>(by cases a),fun q a=>(by cases a)⟩
 |v::vs,h,ds,ns,u,e=>by simp only[m7] at e;split at e;rename_i n xs k;split at e;rename_i xS lN u' f;injection e with e;injection e with _ e;injection e with c e;subst e c;obtain⟨d,g⟩:=JC f;rw[Pd];refine⟨fun q a=>BY.2 (.inr (d q a)),fun m hm=>?_⟩;rcases zam.1 hm with rfl|hm;exact BY.2 (.inl (agO k));exact BY.2 (.inr (g m hm));cases e;split at e;rename_i b cs j;split at e;rename_i x o1 u1 c;split at e;rename_i ds2 ns2 u2 f;injection e with e;injection e with _ e;injection e with i e;subst e i;obtain⟨d,g⟩:=JC f;rw[Pd];refine⟨fun q a=>?_,fun m hm=>BY.2 (.inr (g m hm))⟩;rcases BY.1 a with a|a;exact BY.2 (.inl (CH j▸Nh c q a));exact BY.2 (.inr (d q a));cases e;cases e;cases e
theorem agN {h h':Nat->Option ar} {v:ao} (a:∀n∈v.iH,h' n=h n):nN h' v=nN h v:=by cases v with|one c=>(cases c with|ptr n k sz off=>simp only[nN];rw[a n (by simp[ao.iH,ah.nm,ah.tS])]|_=>rfl)|_=>rfl
theorem OM:∀{vs:List ao} {h h':Nat->Option ar},(∀n∈vs.flatMap ao.iH,h' n=h n)->m7 h' vs=m7 h vs
 |[],h,h',_=>rfl
 |v::vs,h,h',hh=>by have c:∀n∈v.iH,h' n=h n:=fun n hn=>hh n (by rw[Pd];exact BY.2 (.inl hn));have a:∀n∈vs.flatMap ao.iH,h' n=h n:=fun n hn=>hh n (by rw[Pd];exact BY.2 (.inr hn));simp only[m7];rw[agN c];cases nN h v with|some x=>obtain⟨n,xs⟩:=x;simp only;rw[OM a]|none=>simp only;cases hv:v.cells? with|none=>rfl|some x=>obtain⟨b,cs⟩:=x;simp only;rw[Ng (cs:=cs) fun n hn=>c n (CH hv▸hn)];cases kY h cs with|none=>rfl|some y=>obtain⟨e,o,u⟩:=y;simp only;rw[OM (vs:=vs) (h:=eO h u) (h':=eO h' u) fun n hn=>I8 (a n hn) u]
def w4 (h:Nat->Option ar):List Nat->List C->Option Us
 |[],[]=>some []
 |[n],out=>match h n with
  |some (.box cs)=>if cs.length=out.length then some [(n,some (.box (out.map .c)))] else none
  |_=>none
 |_,_=>none
theorem aqw (σ:St) (ns:List Nat) (out:List C):σ.sD ns out=(w4 σ.h ns out).map σ.eg:=by
 match ns,out with
 |[],[]=>rfl
 |[],_::_=>rfl
 |[n],out=>
  simp only[St.sD,w4];cases σ.h n with
  |none=>rfl
  |some b=>
   cases b with
   |box cs=>simp only;split<;>rfl
   |row gr m rs xs=>rfl
 |_::_::_,out=>rfl
theorem aqv {h:Nat->Option ar} {ns:List Nat} {out:List C} {u:Us} (e:w4 h ns out=some u):∀q∈u,q.1∈ns:=by unfold w4 at e;split at e;injection e with e;subst e;intro q a;cases a;split at e;split at e;injection e with e;subst e;intro q a;simp at a;subst a;simp;cases e;cases e;cases e
theorem aqu {h h':Nat->Option ar} {ns:List Nat} {out:List C} (a:∀n∈ns,h' n=h n):w4 h' ns out=w4 h ns out:=by
 match ns,out with
 |[],[]=>rfl
 |[],_::_=>rfl
 |[n],out=>simp only[w4];rw[a n (by simp)]
 |_::_::_,out=>rfl
def CB (d:Option Nat):List Dv->Option (ao×List (Nat×ar))
 |[(.ptr,cs)]=>match d with
  |some q=>some (.one (.ptr q 0 0 0),[(q,.box (cs.map .c))])
  |none=>none
 |rs=>match iP rs with
  |some ls=>some (lO ls,[])
  |none=>none
theorem agP (σ:St) (d:Option Nat) (a:List Dv):rH σ d a=(CB d a).bind fun x=>(σ.dg x.2).map (·.put d x.1):=by
 unfold rH;split
 ·cases d with
  |none=>rfl
  |some q=>
   simp only[CB,IN,St.dg];cases σ.ins q _<;>rfl
 ·rename_i c;have e:CB d a=match iP a with
    |some b=>some (lO b,[])
    |none=>none:=by
   unfold CB;split
   ·exact absurd rfl (c _)
   ·rfl
  rw[e];cases iP a with
  |none=>rfl
  |some b=>rfl
abbrev Ow:=ao×List (Nat×Option ar)×List (Nat×ar)
def ij (T:aQ) (d:Option Nat) (op:aV) (ev:MO->ao) (h:Nat->Option ar):Option Ow:=
 match op with
 |.store sz x v=>match ev x,(ev v).cells? with
  |.one (.ptr n k aD off),some (_,vs)=>if vs.length=sz then
   match h n with
   |some (.box cs)=>if k=0/\off+sz<=cs.length then some (.one .bC,[(n,some (.box (cZ cs off vs)))],[]) else none
   |some (.row gr m rs xs)=>if aD=rs then
    match xs[k]? with
    |some e=>match zr h n gr m rs xs k off e vs with
     |some u=>some (.one .bC,u,[])
     |none=>none
    |none=>none
    else none
   |none=>none
   else none
  |.one (.cX n k aD off s i),some (_,vs)=>if vs.length=sz then
   match h n with
   |some (.row false .live rs xs)=>if aD=rs then
    match xi xs k off s i vs with
    |some av=>some (.one .bC,[(n,some (.row false .live rs av))],[])
    |none=>none
    else none
   |_=>none
   else none
  |_,_=>none
 |.fG sz ps=>match d,qm sz h (ps.map ev) with
  |some n,some (es,o,u)=>some (.one (.sl n sz 0 es.length),u,[(n,.row true (if o=true then .aN else .aM) sz es)])
  |_,_=>none
 |.append fl sz by_ x y=>match d with
  |none=>none
  |some n=>match xK h sz (ev x) with
   |none=>none
   |some (xs,m,u1)=>match vO fl (eO h u1) sz m (ev y) with
    |none=>none
    |some (ys,m2,u2)=>if(xs.length+ys.length)*by_<=fQ then some (.one (.sl n sz 0 (xs.length+ys.length)),u1++u2,[(n,.row true m2 sz (xs++ys))]) else none
 |.kj f xs=>match m7 h (xs.map ev),aQ.lY T.vs f with
  |some (ds,ns,u),some M=>match M ds with
   |some (rs,out)=>match w4 (eO h u) ns out,CB d rs with
    |some u',some (v,is)=>some (v,u++u',is)
    |_,_=>none
   |none=>none
  |_,_=>none
 |.copy sz x y=>match ev x,ev y with
  |.one (.sl n s lo len),.one c=>match h n,cF h c with
   |some (.row gr m rs xs),some (.list s' ys)=>if sz=1/\s=1/\rs=1/\s'=1/\m≠ .aM/\fh xs=true/\fh ys=true/\lo+len<=xs.length then
    some (.one (.c (.int .i64 (zax ys.length len:Nat))),[(n,some (.row gr m 1 (cZ xs lo (ys.take len))))],[]) else none
   |_,_=>none
  |_,_=>none
 |.mG z x=>match ev x with
  |.one (.sl n s lo len)=>match h n with
   |some (.row gr m rs xs)=>if s=1/\rs=1/\z.eX=true/\m≠ .aM/\fh xs=true/\lo+len<=xs.length then
    some (.bH [],[(n,some (.row gr m 1 (cZ xs lo (zaf len [z]))))],[]) else none
   |_=>none
  |_=>none
 |op=>(rd T d op ev h).map fun x=>(x.1,[],x.2)
def xX (d:Option Nat) (σ:St) (p:Ow):Option St:=((σ.eg p.2.1).dg p.2.2).map (·.put d p.1)
theorem Kl {T:aQ} {d:Option Nat} {op:aV} {σ:St} {ws:List Nat} (a:op.lT σ.ev σ.h=some ws) (hd:∀sz x v,op=.store sz x v->d=none):
  exec T d op σ=(ij T d op σ.ev σ.h).bind (xX d σ):=by
 by_cases r:op.eT<=1
 ·rw[qG T d op σ r];have:ij T d op σ.ev σ.h=(rd T d op σ.ev σ.h).map fun x=>(x.1,[],x.2):=by
   cases op<;>first|rfl|(simp[aV.eT] at r)
  rw[this];cases rd T d op σ.ev σ.h with
  |none=>rfl
  |some x=>rfl
 ·cases op<;>simp[aV.eT] at r<;>simp only[aV.lT] at a
  case jo=>cases a
  case nc=>cases a
  case copy sz x y=>
   simp only[exec,ij];cases σ.ev x with
   |one p=>cases p with
    |sl n s lo len=>
     cases σ.ev y with
     |one c=>
      simp only
      cases σ.h n with
      |none=>rfl
      |some b=>cases b with
       |box cs=>rfl
       |row g m j xs=>
        cases cF σ.h c with
        |none=>rfl
        |some q=>cases q with
         |list s' ys=>
          simp only
          split<;>rfl
         |_=>rfl
     |_=>rfl
    |_=>rfl
   |_=>rfl
  case mG z x=>
   simp only[exec,ij];cases σ.ev x with
   |one p=>cases p with
    |sl n s lo len=>
     simp only
     cases σ.h n with
     |none=>rfl
     |some b=>cases b with
      |box cs=>rfl
      |row g m j xs=>
       simp only
       split<;>rfl
    |_=>rfl
   |_=>rfl
  case kj f xs=>
   simp only[exec,ij,rM,OO];cases m7 σ.h (xs.map σ.ev) with
   |none=>rfl
   |some x=>
    obtain⟨ds,ns,u⟩:=x;simp only[AI];cases aQ.lY T.vs f with
    |none=>rfl
    |some M=>
     simp only
     cases M ds with
     |none=>rfl
     |some z=>
      obtain⟨j,out⟩:=z;simp only[aqw,Ja];cases w4 (eO σ.h u) ns out with
      |none=>rfl
      |some u'=>
       simp only[AI,agP];cases CB d j with
       |none=>rfl
       |some z=>
        obtain⟨v,is⟩:=z;simp only[IN,xX,E8]
  case fG sz ps=>
   simp only[exec,ij];rw[afu];cases d with
   |none=>rfl
   |some n=>
    cases qm sz σ.h (ps.map σ.ev) with
    |none=>rfl
    |some x=>
     obtain⟨es,o,u⟩:=x;simp only[AI,IN,xX,St.dg];cases (σ.eg u).ins n (.row true (if o=true then .aN else .aM) sz es)<;>rfl
  case append fl sz by_ x y=>
   simp only[exec,ij,agv];cases d with
   |none=>rfl
   |some n=>
    simp only
    cases xK σ.h sz (σ.ev x) with
    |none=>rfl
    |some z=>
     obtain⟨xs,m,l⟩:=z;simp only[AI,agx];have t:(σ.eg l).h=eO σ.h l:=by rw[mU]
     rw[t];cases vO fl (eO σ.h l) sz m (σ.ev y) with
     |none=>rfl
     |some z=>
      obtain⟨ys,m2,u2⟩:=z;simp only[AI];split
      ·simp only[IN,xX,E8,St.dg];cases ((σ.eg l).eg u2).ins n (.row true m2 sz (xs++ys))<;>rfl
      ·rfl
  case store sz x v=>
   have hd:=hd sz x v rfl;subst hd;simp only[exec,ij];split at a
   ·rename_i n k w off hx;simp only[hx];cases hv:(σ.ev v).cells? with
    |none=>rfl
    |some y=>
     obtain⟨ag,vs⟩:=y;simp only
     split
     ·split at a
      ·rename_i cs hn;simp only[hn];split
       ·rfl
       ·rfl
      ·rename_i g m j xs hn;simp only[hn];split
       ·cases xs[k]? with
        |none=>rfl
        |some e=>
         simp only
         rw[asg];cases zr σ.h n g m j xs k off e vs with
         |none=>rfl
         |some b=>rfl
       ·rfl
      ·cases a
     ·rfl
   ·rename_i n k w off s i hx;simp only[hx];cases hv:(σ.ev v).cells? with
    |none=>rfl
    |some y=>
     obtain⟨ag,vs⟩:=y;simp only
     split
     ·cases σ.h n with
      |none=>rfl
      |some b=>cases b with
       |box cs=>rfl
       |row g m j xs=>cases m with
        |live=>cases g with
         |true=>rfl
         |false=>
          simp only
          split
          ·cases xi xs k off s i vs<;>rfl
          ·rfl
        |_=>cases g<;>rfl
     ·rfl
   ·cases a
theorem Vf {T:aQ} {d:Option Nat} {op:aV} {ev:MO->ao} {h:Nat->Option ar} {ws:List Nat} {p:Ow} (l:op.lT ev h=some ws) (g:ij T d op ev h=some p):∀q∈p.2.1,q.1∈ws:=by by_cases G:op.eT<=1;have:ij T d op ev h=(rd T d op ev h).map fun x=>(x.1,[],x.2):=(by cases op<;>first|rfl|(simp[aV.eT] at G));rw[this,zai] at g;obtain⟨x,_,rfl⟩:=g;intro q j;cases j;(·cases op<;>simp[aV.eT] at G<;>simp only[aV.lT] at l;(case jo=>cases l);(case nc=>cases l);(case copy sz x y=>simp only[ij] at g;split at g;(·rename_i n s lo len c hx hy;simp only[hx] at l;injection l with l;subst l;(repeat' split at g);(all_goals first|cases g|skip);intro q j;simp at j;subst j;simp);cases g);(case mG z x=>simp only[ij] at g;split at g;(·rename_i n s lo len hx;simp only[hx] at l;injection l with l;subst l;(repeat' split at g);(all_goals first|cases g|skip);intro q j;simp at j;subst j;simp);cases g);(case kj f xs=>injection l with l;subst l;simp only[ij] at g;split at g;rename_i ds ns u M r t;split at g;rename_i O out e3;split at g;rename_i u' v is L e5;injection g with g;subst g;obtain⟨H,I⟩:=JC r;intro q j;rw[zar] at H I;rcases BY.1 j with j|j;exact H q j;exact I _ (aqv L q j);cases g;cases g;cases g);(case fG sz ps=>injection l with l;subst l;simp only[ij] at g;split at g;rename_i n es o u e;injection g with g;subst g;intro q j;have:=aft e q j;rw[zar] at this;exact this;cases g);(case append fl sz by_ x y=>injection l with l;subst l;simp only[ij] at g;split at g;cases g;(·split at g;cases g;(·rename_i xs m D r;split at g;cases g;(·rename_i ys m2 u2 t;split at g;(·injection g with g;subst g;intro q j;rcases BY.1 j with A|A;clear j;refine BY.2 (.inl ?_);unfold xK at r;split at r;injection r with r;injection r with _ r;injection r with _ r;subst r;cases A;rename_i a s len B;split at r;split at r;injection r with r;injection r with _ r;injection r with _ r;subst r;simp at A;subst A;simp[ao.iH,ah.nm,ah.tS,B];cases r;cases r;cases r;(·clear j;refine BY.2 (.inr ?_);have N:∀(b:Nat),u2=[]\/u2=[(b,none)]->b∈(ev y).iH->q.1∈(ev y).iH:=(by intro b C hm;rcases C with C|C;subst C;cases A;subst C;simp at A;subst A;exact hm);unfold vO at t;split at t;injection t with t;injection t with _ t;injection t with _ t;subst t;cases A;(·(repeat' split at t);(all_goals first|cases t|skip);all_goals (cases A));(·rename_i b s lo len B;have hm:b∈(ev y).iH:=(by simp[B,ao.iH,ah.nm,ah.tS]);refine N b ?_ hm;(repeat' split at t);(all_goals first|cases t|skip);all_goals first|exact .inl rfl|exact .inr rfl);cases t));cases g))));case store sz x v=>simp only[ij] at g;split at g;(·rename_i n k P off b vs hx B;simp only[hx] at l;split at g;(·split at g;rename_i cs hn;simp only[hn] at l;split at g;injection g with g;subst g;injection l with l;subst l;intro q j;simp at j;subst j;simp;cases g;(·rename_i gr m O xs hn;simp only[hn] at l;injection l with l;subst l;split at g;(·split at g;(·split at g;(·rename_i u w;injection g with g;subst g;intro q j;have j:q∈u:=j;have E:∀(D:Us) (J:Option ar),u=D++[(n,J)]->(∀q∈D,q.1∈vs.flatMap ah.nm)->q.1∈n::(ev v).iH:=(by intro D J K F;rw[K] at j;rcases BY.1 j with j|j;exact zae _ (CH B▸F q j);simp at j;subst j;simp);unfold zr at w;split at w;cases w;(·split at w;cases w;(·rename_i cs o D r;have F:=Nh r;(repeat' split at w);all_goals first|(injection w with w;exact E _ _ w.symm F)|cases w)));cases g);cases g);cases g);cases g);cases g);(·rename_i n k P off s i b vs hx B;simp only[hx] at l;injection l with l;subst l;(repeat' split at g);(all_goals first|cases g|skip);intro q j;simp at j;subst j;simp);cases g)
section
variable {T:aQ} {d:Option Nat} {op:aV} {ev ev':MO->ao} {h h':Nat->Option ar}
theorem H5 (a:∀x∈op.args,ev' x=ev x):op.j5 ev'=op.j5 ev:=by unfold aV.j5;generalize op.args=l at a;induction l with|nil=>rfl|cons x l b=>simp only[Pd];rw[a x (by simp),b fun y hy=>a y (zae _ hy)]
theorem VH:∀{l:List Nat} (_:∀n∈l,h' n=h n),CG h' l=CG h l
 |[],_=>rfl
 |n::l,hh=>by have:=VH (l:=l) fun m hm=>hh m (zae _ hm);simp only[CG,Pd] at this⊢;rw[hh n (by simp),this]
theorem Tf (b:∀x∈op.args,ev' x=ev x) (a:∀n∈op.j5 ev,h' n=h n):op.nG ev' h'=op.nG ev h:=by unfold aV.nG;rw[H5 b,VH a]
theorem Nv (a:∀x∈op.args,ev' x=ev x) (c:∀n∈op.j5 ev,h' n=h n):op.lT ev' h'=op.lT ev h:=by(cases op<;>first|rfl|skip);(case store sz x v=>have d:=a x (by simp[aV.args]);have b:=a v (by simp[aV.args]);simp only[aV.lT,d,b];cases hv:ev x with|one p=>(cases p with|ptr n k aD off=>simp only;rw[c n (ra.2 ⟨x,by simp[aV.args],by rw[hv];exact rfl⟩)]|_=>rfl)|_=>rfl);(case copy sz x y=>simp only[aV.lT,a x (by simp[aV.args])]);(case mG z x=>simp only[aV.lT,a x (by simp[aV.args])]);(case kj f xs=>have:=H5 (op:=.kj f xs) a;simp only[aV.j5,aV.args] at this;simp only[aV.lT,this]);(case fG sz ps=>have:=H5 (op:=.fG sz ps) a;simp only[aV.j5,aV.args] at this;simp only[aV.lT,this]);case append fl sz by_ x y=>simp only[aV.lT,a x (by simp[aV.args]),a y (by simp[aV.args])]
theorem Ve (j:∀x∈op.args,ev' x=ev x) (J:∀n∈op.nG ev h,h' n=h n):ij T d op ev' h'=ij T d op ev h:=by have B:∀n∈op.j5 ev,h' n=h n:=fun n hn=>J n (LH hn);have hn:∀a∈op.args,∀n,(ev a).ref n->h' n=h n:=fun a K n hr=>B n (ra.2 ⟨a,K,hr⟩);have gen:rd T d op ev' h'=rd T d op ev h:=(by rw[Et T d op _ j];refine acQ (u:=fun n=>h' n=h n) (vv:=fun n=>n∈op.j5 ev) T d op ev (fun n hn=>hn) (fun w m cs c n hm D R hr=>?_) (fun x hx m hm=>hn x hx m hm) (fun x hx m hm=>ra.2 ⟨x,hx,hm⟩);refine J n ?_;unfold aV.nG;rw[w];refine BY.2 (.inr ?_);unfold CG;rw[zac];exact⟨m,hm,by rw[D];exact zac.2 ⟨c,R,ah.H6.2 hr⟩⟩);(cases op<;>first|(simp only[ij];rw[gen];done)|skip);(case store sz x v=>have r:=j x (by simp[aV.args]);have l:=j v (by simp[aV.args]);simp only[ij,r,l];have g:=hn x (by simp[aV.args]);cases hv:ev x with|one p=>(cases p with|ptr n k Q off=>rw[hv] at g;have g:=g n rfl;have E:=hn v (by simp[aV.args]);(cases w:(ev v).cells? with|none=>rfl|some y=>obtain⟨b,vs⟩:=y;have O:∀F m C xs e,zr h' n F m C xs k off e vs=zr h n F m C xs k off e vs:=(by intro F m C xs e;have P:kY h' vs=kY h vs:=Ng fun q L=>E q (ao.Be.1 (CH w▸L));unfold zr;rw[P];cases kY h vs with|none=>rfl|some y=>obtain⟨cs,o,u⟩:=y;simp only[I8 g u]);simp only[g,O])|cX n k Q off s i=>rw[hv] at g;have g:=g n rfl;(cases w:(ev v).cells? with|none=>rfl|some y=>simp only[g])|_=>cases (ev v).cells?<;>rfl)|_=>cases (ev v).cells?<;>rfl);(case copy sz x y=>have r:=j x (by simp[aV.args]);have l:=j y (by simp[aV.args]);have g:=hn x (by simp[aV.args]);have A:=hn y (by simp[aV.args]);simp only[ij,r,l];cases hv:ev x with|one p=>(cases p with|sl n s lo len=>rw[hv] at g;have g:=g n rfl;(cases w:ev y with|one c=>rw[w] at A;have E:cF h' c=cF h c:=BL (u:=fun n=>h' n=h n) (fun n hn=>hn) fun m hm=>A m (ah.y3 hm);simp only[g,E]|_=>rfl)|_=>rfl)|_=>rfl);(case mG z x=>have r:=j x (by simp[aV.args]);have g:=hn x (by simp[aV.args]);simp only[ij,r];cases hv:ev x with|one p=>(cases p with|sl n s lo len=>rw[hv] at g;have g:=g n rfl;simp only[g]|_=>rfl)|_=>rfl);(case kj f xs=>have hl:xs.map ev'=xs.map ev:=IT j;have l:m7 h' (xs.map ev)=m7 h (xs.map ev):=OM fun n t=>(by rw[zar] at t;exact B n t);simp only[ij,hl,l];cases G:m7 h (xs.map ev) with|none=>rfl|some x=>obtain⟨ds,ns,u⟩:=x;(try simp only);cases aQ.lY T.vs f with|none=>rfl|some M=>(try simp only);cases M ds with|none=>rfl|some z=>obtain⟨C,out⟩:=z;(try simp only);rw[aqu (h:=eO h u) (h':=eO h' u) fun n t=>I8 (B n (by have:=(JC G).2 n t;rw[zar] at this;exact this)) u]);(case fG sz ps=>have hl:ps.map ev'=ps.map ev:=IT j;have l:qm sz h' (ps.map ev)=qm sz h (ps.map ev):=afs fun n t=>(by rw[zar] at t;exact B n t);simp only[ij,hl,l]);case append fl sz by_ x y=>have r:=j x (by simp[aV.args]);have l:=j y (by simp[aV.args]);have g:=hn x (by simp[aV.args]);have A:=hn y (by simp[aV.args]);have G:xK h' sz (ev x)=xK h sz (ev x):=(by cases hv:ev x with|one p=>(cases p with|sl a s lo len=>rw[hv] at g;(cases lo with|zero=>simp only[xK,g a rfl]|succ lo=>rfl)|_=>rfl)|_=>rfl);have N:∀(us:List (Nat×Option ar)) (m:Mode),vO fl (eO h' us) sz m (ev y)=vO fl (eO h us) sz m (ev y):=(by intro us m;cases hv:ev y with|one p=>(cases p with|sl b s lo len=>rw[hv] at A;have D:eO h' us b=eO h us b:=(by by_cases I:∃p∈us,p.1=b;exact I9 I;rw[pF fun p H e=>I ⟨p,H,e⟩,pF fun p H e=>I ⟨p,H,e⟩];exact A b rfl);simp only[vO,D]|c x=>cases x<;>rfl|_=>rfl)|_=>rfl);simp only[ij,r,l,G,N]
end
theorem Py {f g:List Nat×List Nat} (h:FT f g=true) {n:Nat} (b:n∈f.2) (a:n∈g.1):False:=by simp only[FT,co,If] at h;have:=h.1 n b;simp[a] at this
theorem ahH {f g:List Nat×List Nat} (h:FT f g=true) {n:Nat} (b:n∈g.2) (a:n∈f.1):False:=by simp only[FT,co,If] at h;have:=h.2 n b;simp[a] at this
theorem Ef {σ:St} (W:Wf σ) {op:aV} (b:∀a∈op.args,a.flat=true) {n:Nat} (hn:n∈op.j5 σ.ev):σ.used n=true:=by obtain⟨a,c,hr⟩:=ra.1 hn;exact W.arg (b a c) n hr
theorem acO {σ:St} (W:Wf σ) {op:aV} (d:∀a∈op.args,a.flat=true) {n:Nat} (hn:n∈op.nG σ.ev σ.h):σ.used n=true:=by unfold aV.nG at hn;cases b:op.Hr with|true=>rw[b] at hn;rcases BY.1 hn with hn|hn;exact Ef W d hn;unfold CG at hn;rw[zac] at hn;obtain⟨m,hm,hn⟩:=hn;split at hn;rename_i cs e;obtain⟨c,b,hr⟩:=zac.1 hn;exact W.box m cs c n e b (ah.H6.1 hr);cases hn|false=>rw[b] at hn;exact Ef W d hn
section
variable {T:aQ} {dx dy:Option Nat} {x y:aV} {σ σ1 σ2:St}
theorem Ye (W:Wf σ) (g:∀n,dx=some n->MO.t n∉y.args) (q:∀a∈y.args,a.flat=true) (j:∀sz p v,x=.store sz p v->dx=none) (c:x.eT<=1\/y.eT=0) (b:exec T dx x σ=some σ1):y.fp σ1=y.fp σ:=by have l:=xV j b;have d:∀a∈y.args,σ1.ev a=σ.ev a:=fun a m=>(by cases a with|t n=>show σ1.env n=σ.env n;rw[l];exact sE fun f=>g n f m|k v=>rfl);rcases c with c|c;rw[qG T dx x σ c] at b;have e:∀n∈y.j5 σ.ev,σ1.h n=σ.h n:=(by intro n hn;cases hr:rd T dx x σ.ev σ.h with|none=>rw[hr] at b;cases b|some p=>rw[hr] at b;simp only[IN,fz,zai] at b;obtain⟨A,i,rfl⟩:=b;have:(A.put dx p.1).h=A.h:=(by cases dx<;>rfl);rw[this];exact((AP i).1 n (Ef W q hn)).2);unfold aV.fp;rw[Nv d e,Tf d e];unfold aV.fp;have o:y.Hr=false:=(by cases y<;>first|rfl|(simp[aV.eT] at c));have w:∀ev h,y.lT ev h=some []:=(by intro ev h;cases y<;>first|rfl|(simp[aV.eT] at c));simp only[w,aV.nG,o,cond_false,H5 d]
theorem ahs (W:Wf σ) (hd:∀n,dx=some n->dy≠some n) (pV:∀n,dx=some n->MO.t n∉y.args) (vb:∀n,dy=some n->MO.t n∉x.args) (Dr:∀a∈x.args,a.flat=true) (Ay:∀a∈y.args,a.flat=true) (wk:∀sz p v,x=.store sz p v->dx=none) (Gx:∀sz p v,y=.store sz p v->dy=none) (l:FU (x.fp σ) (y.fp σ1)=true) (r:exec T dx x σ=some σ1) (o:exec T dy y σ1=some σ2):∃τ,exec T dy y σ=some τ/\exec T dx x τ=some σ2/\y.fp σ1=y.fp σ/\x.fp τ=x.fp σ:=by unfold aV.fp at l;cases Ao:x.lT σ.ev σ.h with|none=>rw[Ao] at l;cases l|some wx=>cases Ap:y.lT σ1.ev σ1.h with|none=>rw[Ao,Ap] at l;cases l|some wy=>rw[Ao,Ap] at l;simp only[AI,FU] at l;rw[Kl Ao wk] at r;rw[Kl Ap Gx] at o;cases J6:ij T dx x σ.ev σ.h with|none=>rw[J6] at r;cases r|some px=>obtain⟨j,b,nx⟩:=px;rw[J6] at r;simp only[IN,xX,zai] at r;obtain⟨A,hA,rfl⟩:=r;have G:∀q∈b,q.1∈wx:=Vf Ao J6;have J:∀q∈b,σ.used q.1=true:=fun q c=>Ef W Dr (af0 Ao (G q c));obtain⟨f,Yu,rfl⟩:=R0 J hA;obtain⟨E,ea⟩:=AP Yu;have M:∀(s:St) (d:Option Nat) (v:ao),(s.put d v).h=s.h:=fun s d v=>(by cases d<;>rfl);have C:∀a∈y.args,((f.eg b).put dx j).ev a=σ.ev a:=fun a U=>(by rw[qg,Ki fun n hn=>sE fun I=>pV n I (hn▸U)];cases a with|t n=>show(f.eg b).env n=σ.env n;rw[mU];show f.env n=_;rw[ea]|k v=>rfl);have Q:y.nG ((f.eg b).put dx j).ev ((f.eg b).put dx j).h=y.nG σ.ev σ.h/\y.lT ((f.eg b).put dx j).ev ((f.eg b).put dx j).h=y.lT σ.ev σ.h:=(by have H:∀n∈y.j5 σ.ev,((f.eg b).put dx j).h n=σ.h n:=fun n hn=>(by rw[M,mU];show eO f.h b n=_;rw[pF fun p m e=>Py l (G p m) (by rw[e];exact LH (by rw[H5 C];exact hn))];exact(E n (Ef W Ay hn)).2);exact⟨Tf C H,Nv C H⟩);obtain⟨R,r2⟩:=Q;have H:∀n∈y.nG σ.ev σ.h,((f.eg b).put dx j).h n=σ.h n:=fun n hn=>(by rw[M,mU];show eO f.h b n=_;rw[pF fun p m e=>Py l (G p m) (by rw[e];show n∈y.nG _ _;rw[R];exact hn)];exact(E n (acO W Ay hn)).2);have L:ij T dy y ((f.eg b).put dx j).ev ((f.eg b).put dx j).h=ij T dy y σ.ev σ.h:=Ve C H;rw[L] at o;rw[r2] at Ap;cases J7:ij T dy y σ.ev σ.h with|none=>rw[J7] at o;cases o|some py=>obtain⟨u,g,ny⟩:=py;rw[J7] at o;simp only[IN,xX,zai] at o;obtain⟨D,hD,rfl⟩:=o;have z:∀q∈g,q.1∈wy:=Vf Ap J7;have w:∀q∈g,q.1∈y.j5 σ.ev:=fun q c=>af0 Ap (z q c);have S:∀q∈g,σ.used q.1=true:=fun q c=>Ef W Ay (w q c);have K:∀q∈g,f.used q.1=true:=fun q c=>(E _ (S q c)).1;have X:∀q∈b,f.used q.1=true:=fun q c=>(E _ (J q c)).1;have Dl:∀p∈b,∀q∈g,p.1≠q.1:=fun p m q c e=>Py l (G p m) (by rw[e];show q.1∈y.nG _ _;rw[R];exact LH (w q c));rw[qg,afJ,AQ,zai] at hD;obtain⟨D0,V,rfl⟩:=hD;obtain⟨D1,hD1,rfl⟩:=R0 (σ:=f.eg b) (fun q c=>by rw[mU];exact K q c) V;obtain⟨F,hF,rfl⟩:=R0 X hD1;obtain⟨i,hC,O⟩:=RZ Yu hF;obtain⟨Y,ec⟩:=AP hC;have P:∀q∈g,i.used q.1=true:=fun q c=>(Y _ (S q c)).1;have N:∀q∈b,i.used q.1=true:=fun q c=>(Y _ (J q c)).1;have B:∀a∈x.args,((i.eg g).put dy u).ev a=σ.ev a:=fun a U=>(by rw[qg,Ki fun n hn=>sE fun I=>vb n I (hn▸U)];cases a with|t n=>show(i.eg g).env n=σ.env n;rw[mU];show i.env n=_;rw[ec]|k v=>rfl);have YT:∀n∈x.nG σ.ev σ.h,((i.eg g).put dy u).h n=σ.h n:=fun n hn=>(by rw[M,mU];show eO i.h g n=_;rw[pF fun p m e=>ahH l (z p m) (by rw[e];exact hn)];exact(Y n (acO W Dr hn)).2);have Z:∀n∈x.j5 σ.ev,((i.eg g).put dy u).h n=σ.h n:=fun n hn=>YT n (LH hn);refine⟨(i.eg g).put dy u,?_,?_,?_,?_⟩;rw[Kl Ap Gx,J7];simp only[IN,xX,Hp S hC,AI];rw[Kl (ws:=wx) (by rw[Nv B Z];exact Ao) wk,Ve B YT,J6];simp only[IN,xX];rw[qg,afJ,AQ,Hp (σ:=i.eg g) (fun q c=>by rw[mU];exact N q c) (Hp P O)];simp only[AI];rw[qg,qg,asJ Dl];congr 1;have e1:(i.eg g).env=σ.env:=(by rw[mU];exact ec);have e2:(f.eg b).env=σ.env:=(by rw[mU];exact ea);show St.we _ (jz (jz (i.eg g).env dy u) dx j)=St.we _ (jz (jz (f.eg b).env dx j) dy u);rw[e1,e2,LV σ.env _ _ hd];rfl;unfold aV.fp;rw[R,r2];unfold aV.fp;rw[Nv B Z,Tf B Z]
end
end Go.Am
