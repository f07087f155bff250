/- AmO, AmR, AmS, AmT, AmU, AmV, AmX, Am17, Am18, Am19, Am20, Am21, Am22, Am23, AmA, AmD, AmE, AmF, AmP, AmQ, AmG, AmH, AmI, AmJ, Am24, Am25, Am26, Am27: parts of the proof. No condition. -/
import Derived.Test.YtaaeocdagekdcaaAmN
set_option linter.unusedVariables false
set_option linter.unusedSimpArgs false
open Bool renaming and_eq_true->co,false_eq_true->zam,or_eq_true->zay,not_eq_true'->zaE
open List renaming mem_of_getElem?->wt,getElem?_eq_some_iff->AI,getElem?_map->AN,getElem?_eq_getElem->AT,mem_map->BY,all_eq_true->GB,eq_nil_of_length_eq_zero->If,getElem?_of_mem->IS,getD_eq_getElem?_getD->IT,map_congr_left->OF,getElem?_set_self->Pe,replicate->zad,getElem?_append_right->zaf,mem_or_eq_of_mem_set->zah,length_map->zai,map_map->zaj,getElem?_cons_zero->zak,cons_append->zal,mem_append->zan,getElem?_set_ne->zap,pairwise_iff_getElem->zaq,mem_singleton->zar,length_cons->zau,mem_cons_of_mem->zav,pairwise_append->zaw,length_nil->zaz,mem_filterMap->zaA,map_set->zaB,pairwise_cons->zaC,getElem?_append_left->zaD,mem_cons->zaG,length_eq_zero_iff->zaH,length_eq_one_iff->zaJ,length_set->zaL,length_replicate->zaM,getElem?_eq_none->zaO,mem_filter->zaP,nil_append->zaQ,map_append->zaS,take_append_drop->zaT,range->zaU,mem_range->zaW,flatten_append->zaX,mem_replicate->zaZ,map_replicate->za0,getElem?_ofFn->za1,map_cons->za2,length_append->za3,getElem_mem->za8,drop_zero->zba,length->zbg
open Option renaming map_some->By,bind_some->IN,getD_some->za9
open Nat renaming le_refl->Pd,mul_le_mul_right->zac,lt_of_lt_of_le->zag,le_trans->zas,ble_eq_true_of_le->zat,add_mul->zax,add_assoc->zaI,lt_or_gt_of_ne->zaY,sub_self->za5,zero_add->za6,sub_zero->za7,add_zero->zbc,lt_or_ge->zbd,beq_refl->zbf,zero_le->zbh,ble->zbj
open Array renaming getD_eq_getD_getElem?->zaa,ext'->zab,getElem?_eq_some_iff->zao,getElem?_eq_none->zaK,replicate->zaR,mem_toList_iff->zaV
open Option.some renaming injEq->zae
open Ne renaming symm->zaF
open Classical renaming choose_spec->zaN
open List.Pairwise renaming nil->za4
open Prod renaming snd->zbb,fst->zbi
open Or renaming inl->zbe
namespace Go.Am
section
variable {B:Nat} {E:Ex} {w0 w w':World} {G G':Gh} {N:Nat} {h h':Nat->Option bf} {used:Nat->Bool}
variable {P:Program} {o:Oper} {a:Act} {σ σ':St} {Q:Exit->Act->World->Prop}
def DK (p:PB):fe->PC->PB
 |.row _,.list _ _ _ px=>{p with px:=px}
 |.nest _ k off,q=>{p with px:=p.px.set k ((p.px.getD k []).set off q)}
 |_,_=>p
open Classical in
noncomputable def y7 (G:Gh) (its:List (fe×Mode)) (qs:List PC):Gh:=
 ⟨G.Im,fun n=>if h:∃p:(fe×Mode)×PC,∃i:Nat,its[i]? =some p.1/\qs[i]? =some p.2/\p.1.1.gh=some n then DK (G.g n) h.choose.1.1 h.choose.2 else G.g n⟩
theorem adX {a:List (fe×Mode)} {d:List PC} (m:(a.filterMap (·.1.gh)).Nodup) {i n:Nat} {it:fe×Mode} {q:PC} (e:a[i]? =some it) (f:d[i]? =some q) (hn:it.1.gh=some n): (y7 G a d).g n=DK (G.g n) it.1 q:=by have h:∃p:(fe×Mode)×PC,∃i:Nat,a[i]? =some p.1/\d[i]? =some p.2/\p.1.1.gh=some n:=⟨(it,q),i,e,f,hn⟩;unfold y7;simp only;rw[dif_pos h];obtain⟨j,b,c,l⟩:=h.choose_spec;have k:=Qz m b e l hn;subst k;rw[e] at b;rw[f] at c;injection b with b;injection c with c;rw[<-b,<-c]
theorem adY {a:List (fe×Mode)} {d:List PC} {n:Nat} (hn:n∉a.filterMap (·.1.gh)):(y7 G a d).g n=G.g n:=by unfold y7;simp only;rw[dif_neg];rintro⟨p,i,c,h2,b⟩;exact hn (zaA.2 ⟨p.1,wt c,b⟩)
theorem PC.Xw {pc q:PC} (c:q.val=pc.val) (hL:pc.kw=true):∃sz a cap xs,q=.list sz a cap xs:=by cases pc with|int k n=>cases hL|bool b=>cases hL|list sz a cap xs=>cases q with|int k n=>cases c|bool b=>cases c|list sz a cap xs=>exact⟨_,_,_,_,rfl⟩
theorem acy {px:List (List PC)} (f:jm (px.map fun e=>e.map PC.er)=true) {k j:Nat} {c:PC} (g:At px k j c):c.kw=false:=by obtain⟨e,d,h⟩:=g;have b:=GB.1 f (e.map PC.er) (by simp only[BY];exact⟨e,wt d,rfl⟩);have a:=GB.1 b c.er (by simp only[BY];exact⟨c,wt h,rfl⟩);cases hL:c.kw with|false=>rfl|true=>rw[PC.ae5 hL] at a;cases a
theorem acx {px:List (List PC)} (g:jm (px.map fun e=>e.map PC.er)=true) (b:Nat):¬bY b px:=by rintro⟨k,j,c,⟨e,d,i⟩,f⟩;have a:=GB.1 g (e.map PC.er) (by simp only[BY];exact⟨e,wt d,rfl⟩);have h:=GB.1 a c.er (by simp only[BY];exact⟨c,wt i,rfl⟩);exact(Sep.kO h).2 b f
theorem aba (H:HR B E w G h used []) {n:Nat} {s:Bool} {m p:Mode} {sz:Nat} {xs:List (List C)} (hn:h n=some (.row s m sz xs)) (hm:m≠ .bn) (Y:p=.live->m=.live) (v:y3 p xs=true) (V:m=.live->s=false) {q:PC} (A:uL w' p (tH sz (G.g n)) q) {k:Nat} {z:List (List C)} (l:q.er=.list k z):Kp w' (G.g n) (DK (G.g n) (.row n) q) s m sz z:=by have hr:=H.row n s m sz xs hn;have cY:h n≠none:=(by rw[hn];simp);obtain⟨M,X,oN,px',rfl⟩:=PC.Xw A.val rfl;obtain⟨rfl,D,rfl,a,hl⟩:=A.live _ _ _ _ _ _ _ _ rfl rfl;rw[PC.fx] at l;injection l with _ l;have U:=A.sep;have y:(∀k j c,At px' k j c->Sep c)/\(∀b o k j c,X=some (ad b o)->At px' k j c->¬bP b c)/\mz px':=(by cases U with|list _ _ _ _ t K L=>exact⟨t,K,t,L⟩);have N:∀b,bY b px'->(G.g n).nl=false->b≠(G.g n).b:=(by rintro b ⟨k,j,c,i,u⟩ d rfl;refine y.2.1 (G.g n).b (G.g n).o k j c ?_ i u;rw[D,ak (by simp[d])]);have I:p=.bq->jm xs=true:=(by rintro rfl;exact v);refine⟨hm,?_,rfl,rfl,rfl,rfl,rfl,l.symm,fun d=>?_,fun d=>?_,y.2.2,fun b J=>?_,fun fu k j pc i hL=>?_,fun f hl=>by rw[V hl] at f;cases f⟩;(cases p with|bn=>cases v|live=>exact .inr (Y rfl)|bq=>exact .inl (acx (by rw[<-hr.er];exact I rfl)));have:=(hr.nl d).1;rw[this] at a;exact If a;refine⟨?_,?_⟩;have f:=A.fF;rw[D,ak (by simp[d])] at f;by_cases F:px'=[];show tP w' _ _ _ px';rw[F];exact⟨by simp,by rintro k j c ⟨e,r,_⟩;simp at r,by rintro k j c ⟨e,r,_⟩;simp at r⟩;generalize oY:PC.list M (some (ad (G.g n).b (G.g n).o)) (G.g n).cap px'=q2 at f;(cases f with|int k n=>cases oY|bool b=>cases oY|nil _ _ _ _=>injection oY with _ _ _ e4;exact absurd e4 F|cons _ _ _ _ _ t K L P Z W=>injection oY with O x e3 e4;injection x with x;obtain⟨S,R⟩:=pF x;subst O e3 e4;rw[S,R];exact⟨P,Z,W⟩);show px'.length<=_;rw[a];exact(hr.f0 d).2.2;have T:bP b (tH M (G.g n)):=A.sub b (by obtain⟨k,j,c,i,u⟩:=J;exact .there _ _ _ _ k j c i u);rcases YE (fun l=>(hr.nl l).1) T with⟨d,r⟩|Q;exact absurd r (N b J d);exact Q;cases p with|bn=>cases v|live=>exact hl rfl k j pc i hL|bq=>have:=acy (px:=(G.g n).px) (by rw[<-hr.er];exact I rfl) i;rw[hL] at this;cases this
theorem sP {α:Type} {px:List (List α)} {k off k' b:Nat} {e:List α} {q c:α} (f:px[k]? =some e) (h:At (px.set k (e.set off q)) k' b c):(k'=k/\b=off/\c=q)\/(At px k' b c/\(k',b)≠(k,off)):=by have g:=(AI.1 f).1;rcases Of g h with⟨rfl,a⟩|⟨i,a⟩;by_cases d:b=off;subst d;have hl:b<e.length:=(by have:=(AI.1 a).1;simpa using this);rw[Pe hl] at a;injection a with a;exact .inl ⟨rfl,rfl,a.symm⟩;rw[zap (zaF d)] at a;exact .inr ⟨⟨e,f,a⟩,fun e=>d (congrArg zbb e)⟩;exact .inr ⟨a,fun e=>i (congrArg zbi e)⟩
theorem amV {α:Type} {px:List (List α)} {k off k' b:Nat} {e:List α} {q c:α} (f:px[k]? =some e) (h:At px k' b c) (j:(k',b)≠(k,off)):At (px.set k (e.set off q)) k' b c:=by obtain⟨i,a,d⟩:=h;by_cases g:k'=k;subst g;rw[f] at a;injection a with a;subst a;have l:b≠off:=fun e=>j (by rw[e]);exact⟨_,Pe (AI.1 f).1,by rw[zap (zaF l)];exact d⟩;exact⟨i,by rw[zap (zaF g)];exact a,d⟩
theorem aa9 (H:HR B E w G h used []) {n k off:Nat} {y:Bool} {sz:Nat} {xs:List (List C)} (hn:h n=some (.row y .live sz xs)) (R:y=false) {pc:PC} (t:At (G.g n).px k off pc) (hL:pc.kw=true) (O:(G.g n).nl=false->w'.heap[(G.g n).b]? =w.heap[(G.g n).b]?) (S:∀k' i c,At (G.g n).px k' i c->(k',i)≠(k,off)->∀b,bP b c->w'.heap[b]? =w.heap[b]?) {q:PC} (A:uL w' .bq pc q) {F:List C} (N:xs[k]? =some F):Kp w' (G.g n) (DK (G.g n) (.nest n k off) q) y .live sz (xs.set k (F.set off q.er)):=by have hr:=H.row n y .live sz xs hn;obtain⟨u,d,D⟩:=t;have T:(G.g n).px.getD k []=u:=(by simp[IT,d]);have v:(DK (G.g n) (.nest n k off) q).px=(G.g n).px.set k (u.set off q):=(by simp only[DK,T]);have L:F=u.map PC.er:=(by rw[hr.er,AN,d] at N;simpa using N.symm);have t:At (G.g n).px k off pc:=⟨u,d,D⟩;have J:q.kw=true:=(by obtain⟨sz,a,cap,xs,rfl⟩:=PC.Xw A.val hL;rfl);have I:(G.g n).nl=false:=(by cases hq:(G.g n).nl with|false=>rfl|true=>rw[(hr.nl hq).1] at d;simp at d);obtain⟨l1,l2,P⟩:=hr.f0 I;refine⟨by simp,.inr rfl,rfl,rfl,rfl,rfl,rfl,?_,fun h=>?_,fun _=>?_,?_,fun b l=>?_,fun _ k' i c j x=>?_,fun M _=>by rw[R] at M;cases M⟩;rw[v,hr.er,L,zaB,zaB];rw[I] at h;cases h;rw[v];refine⟨⟨fun e s=>?_,fun k' i c j=>?_,fun k' i c j=>?_⟩,by rw[zaL];exact P⟩;rcases zah s with s|rfl;exact l2.1 e s;rw[zaL];exact l2.1 u (wt d);rw[ku (O I)];rcases sP d j with⟨rfl,rfl,rfl⟩|⟨f,_⟩;rw[A.val];exact l2.2.1 _ _ _ t;exact l2.2.1 _ _ _ f;rcases sP d j with⟨rfl,rfl,rfl⟩|⟨f,m⟩;exact A.fF;exact(l2.2.2 _ _ _ f).congr fun b l o=>ku (S k' i c f m b l) o;rw[v];refine⟨fun k' i c j=>?_,fun k1 j1 c1 k2 j2 c2 b f m z l K=>?_⟩;rcases sP d j with⟨rfl,rfl,rfl⟩|⟨f,m⟩;exact A.sep;exact hr.mode.2.1 _ _ _ f;rcases sP d f with⟨rfl,rfl,rfl⟩|⟨r,n1⟩;rcases sP d m with⟨rfl,rfl,rfl⟩|⟨p,Q⟩;exact z rfl;exact hr.mode.2.2 _ _ _ _ _ _ b t p z (A.sub b l) K;rcases sP d m with⟨rfl,rfl,rfl⟩|⟨p,Q⟩;exact hr.mode.2.2 _ _ _ _ _ _ b r t z l (A.sub b K);exact hr.mode.2.2 _ _ _ _ _ _ b r p z l K;rw[v] at l;obtain⟨k',i,c,j,x⟩:=l;rcases sP d j with⟨rfl,rfl,rfl⟩|⟨f,m⟩;exact⟨_,_,_,t,A.sub b x⟩;exact⟨_,_,_,f,x⟩;rw[v];by_cases s:(k',i)=(k,off);have f:k'=k:=congrArg zbi s;have m:i=off:=congrArg zbb s;subst f m;obtain⟨e1,r,p⟩:=j;rw[d] at r;injection r with r;subst r;rw[D] at p;injection p with p;subst p;have hl:i<u.length:=(AI.1 D).1;exact⟨q,⟨_,Pe (AI.1 d).1,Pe hl⟩,A.val,J⟩;exact⟨c,amV d j s,rfl,x⟩
theorem XH:∀{as:List aE} {b:List (Bool×List ar)} {vals:List Value},vq as=some b->vals.length=as.length->(∀(j:Nat) (x:aE) (v:Value),as[j]? =some x->vals[j]? =some v->RA w G h x v)->
  vals.length=b.length/\∀(j:Nat) (x:Bool×List ar) (v:Value),b[j]? =some x->vals[j]? =some v->RV w G h x.1 x.2 v
 |[],b,vals,hx,hl,hc=>by
  simp only[vq] at hx;injection hx with hx;subst hx;exact⟨hl,by simp⟩
 |y::as,b,vals,hx,hl,hc=>by
  simp only[vq] at hx;split at hx
  ·rename_i x xs a o;injection hx with hx;subst hx;match vals,hl with
   |v::vals,hl=>
    obtain⟨n,g⟩:=XH o (vals:=vals) (by simpa using hl) (fun j x v i m=>hc (j+1) x v i m);refine⟨by simp[n],fun j x' k d e=>?_⟩;cases j with
    |zero=>
     simp at d e;subst d e;have f:=hc 0 y v rfl rfl;cases y with
     |one c=>
      cases c<;>simp[aE.cells?] at a<;>subst a<;>exact f.resolve_left (by simp)
     |agg cs=>
      simp[aE.cells?] at a;subst a;exact f
     |dh l=>simp[aE.cells?] at a
    |succ j=>exact g j x' k (by simpa using d) (by simpa using e)
  ·cases hx
theorem yG.kw {it:fe} {b:Mode} {pc:PC} (i:yG B E w G h it b pc):pc.kw=true:=by obtain⟨sz,a,cap,xs,rfl,_⟩:=i.ok.f0;rfl
def Ob (P:Program) (T:bL):Prop:=∀f sig M,bL.tZ T.DG f=some (sig,M)->uM P f sig M
def N7 (w:World) (sig:cX) (pas:List PA) (rs:List Dv) (fm:List C) (e:Ending) (w':World):Prop:=
  ∃bX:List (K×List PC),bX.map (fun p=>(p.1,p.2.map PC.er))=rs/\e=.returned (zV bX)/\(∀p∈bX,p.1≠ .ptr/\(p.1=.one->p.2.length=1))/\
   Cu w' w.heap.size (bX.flatMap (·.2))/\Fr w.heap.size (CL (fq sig (pas.map (·.ps)))) w w'/\
   ∃qs:List PC,qs.map PC.er=fm/\qs.length=(fq sig (pas.map (·.ps))).length/\
    ∀(i:Nat) (x:Mode×PC) (q:PC),(fq sig (pas.map (·.ps)))[i]? =some x->qs[i]? =some q->uL w' x.1 x.2 q
theorem aot (r:R B E w0 N σ a w G) {m:Mode} {f:FuncId} {vals vals':List Value} {sig:cX} {ns:List Nat} {ds:List Dv} {u:List (fe×Mode)} {pas:List PA} {rs:List Dv} {fm:List C} {σ2 j6:St} {ls:List (Bool×List ar)}
  (hS:∀pas,Cs w sig ds vals pas->Calls P f vals'.toArray w (N7 w sig pas rs fm)) (hN:∀n,o.dst=some n->n<N) (de:(execOp a.eval o).run P w=.ok (.enter f vals'.toArray) w)
  (q1:pas.length=ds.length) (q2:vals.length=ds.length) (q3:∀(i:Nat) (d:Dv) (v:Value) (p:PA),ds[i]? =some d->vals[i]? =some v->pas[i]? =some p->En w d v p)
  (Bi:∀p∈pas,p.k=.ptr->∃n cs,σ.h n=some (.box cs)/\(G.g n).nl=false/\p.b=(G.g n).b)
  (arq:∀(i:Nat) (p:PA) (s:List (Option Mode)),pas[i]? =some p->sig[i]? =some s->p.k=.ptr->QN s p.ps.length)
  (q5:qQ B E w G σ.h u (fq sig (pas.map (·.ps)))) (q6:u.filterMap (·.1.gh)=ns) (q7:∀pc∈uG sig (pas.map (·.ps)),NJ G σ.h ns pc) (jg:ns.Nodup)
  (t8:σ.uy u fm=some σ2) (zf:σ2.nF m (BM o.dst) rs=some (ls,j6)):o.wp P a w (Nx B E w0 N (j6.put o.dst (rH ls))) Q:=by
 have H:=r.hr;have zi:(u.filterMap (·.1.gh)).Nodup:=by rw[q6];exact jg
 generalize zb:fq sig (pas.map (·.ps))=fl at q5;have P3:∀(i:Nat) (x:Mode×PC),fl[i]? =some x->∃it,u[i]? =some it/\it.2=x.1/\yG B E w G σ.h it.1 x.1 x.2:=by
  intro i x D;have cF:i<u.length:=by rw[q5.len];exact(AI.1 D).1
  have Y:u[i]? =some u[i]:=AT cF;exact⟨_,Y,q5.at_ i _ x Y D⟩
 have acA:∀x∈fl,∃it∈u,yG B E w G σ.h it.1 x.1 x.2:=by
  intro x hx;obtain⟨i,D⟩:=IS hx;obtain⟨it,Z,_,h2⟩:=P3 i x D;exact⟨it,wt Z,h2⟩
 have oS:∀x∈fl,∀b,bP b x.2->∃n F m sz xs,n∈ns/\σ.h n=some (.row F m sz xs)/\m≠ .bn/\xE G n b/\((∀b,¬bY b (G.g n).px)\/m=.live):=by
  intro x hx b l;obtain⟨it,Z,h2⟩:=acA x hx;obtain⟨n,F,m,sz,xs,A,I,O,L,e5⟩:=h2.rS H l;exact⟨n,F,m,sz,xs,by rw[<-q6];exact zaA.2 ⟨it,Z,A⟩,I,O,L,e5⟩
 have wg:∀b,CL fl b->(B<=b\/E b):=by
  rintro b ⟨x,hx,l⟩;obtain⟨n,F,m,sz,xs,_,I,O,L,e5⟩:=oS x hx b l;rcases L with⟨U,rfl⟩|T
  ·exact(H.own n (by rw[I];simp) U).2.1
  ·have jI:=(H.row n F m sz xs I).mode;cases m with
   |bn=>exact absurd rfl O
   |bq=>exact(jI.1 b T).2.2
   |live=>exact(jI.1 b T).2.2
 have XL:Cs w sig ds vals pas:=by
  refine⟨q2,q1,q3,fun x hx=>?_,?_,fun pc cA x hx b l bD=>?_,fun p hp hk x hx l=>?_,arq⟩
  ·rw[zb] at hx;obtain⟨it,_,h2⟩:=acA x hx;exact h2.ok
  ·rw[zb,zaq];intro i j D V lR b l bD;obtain⟨it,Z,_,h2⟩:=P3 i _ (AT D);obtain⟨FB,rU,_,CR⟩:=P3 j _ (AT V);obtain⟨n,F,m,sz,xs,A,I,O,L,e5⟩:=h2.rS H l;obtain⟨n',cv,m',bw,X,OM,J,UA,AG,ES⟩:=CR.rS H bD;have bk:n≠n':=by
    rintro rfl;have:=Qz zi Z rU A OM;omega
   exact H.Lr bk I J ES L AG
  ·rw[zb] at hx;obtain⟨n',cv,m',bw,X,OM,J,UA,AG,ES⟩:=oS x hx b bD;rcases q7 pc cA b l with D|⟨n,F,m,sz,xs,hn,I,L⟩
   ·rcases AG with⟨U,rfl⟩|T
    ·exact(H.own n' (by rw[J];simp) U).1 D
    ·rcases ES with ES|rfl
     ·exact ES b T
     ·exact((H.row n' cv .live bw X J).mode.1 b T).1 D
   ·have bk:n≠n':=fun e=>hn (e▸OM);exact H.Lr bk I J ES L AG
  ·rw[zb] at hx;obtain⟨n',cv,m',bw,X,OM,J,UA,AG,ES⟩:=oS x hx p.b l;obtain⟨n,cs,hn,hl,Fj⟩:=Bi p hp hk;rw[Fj] at AG;have cY:σ.h n≠none:=by rw[hn];simp
   rcases AG with⟨U,Y⟩|T
   ·refine H.inj n n' cY (by rw[J];simp) ?_ hl U Y;rintro rfl;rw[hn] at J;cases J
   ·have jI:=(H.row n' cv m' bw X J).mode;cases m' with
    |bn=>exact absurd rfl UA
    |bq=>exact(H.own n cY hl).1 (jI.1 _ T).1
    |live=>exact H.live n' cv bw X J _ T n cY hl rfl
 unfold Oper.wp;rw[de];refine(hS pas XL).mono fun e w' ⟨bX,p1,p2,p3,p4,M,qs,p6,p7,p8⟩=>?_;subst p2;rw[zb] at M p7 p8;obtain⟨t1,t2,t3,t4⟩:=aiM t8 zi;have hSn:∀n,n∈ns->∃(i:Nat) (it:fe×Mode) (x:Mode×PC) (q:PC),u[i]? =some it/\fl[i]? =some x/\qs[i]? =some q/\fm[i]? =some q.er/\it.1.gh=some n/\yG B E w G σ.h it.1 x.1 x.2/\uL w' x.1 x.2 q:=by
  intro n hn;rw[<-q6,zaA] at hn;obtain⟨it,wi,z⟩:=hn;obtain⟨i,D⟩:=IS wi;have cF:i<fl.length:=by rw[<-q5.len];exact(AI.1 D).1
  have hx:fl[i]? =some fl[i]:=AT cF;have t:qs[i]? =some (qs[i]'(by rw[p7];exact cF)):=AT _;exact⟨i,it,_,_,D,hx,t,by rw[<-p6,AN,t];rfl,z,(q5.at_ i it _ D hx).2,p8 i _ _ hx t⟩
 have arK:∀b,b<w.heap.size->(∀n,n∈ns->¬xE G n b)->w'.heap[b]? =w.heap[b]? :=by
  intro b l dU;refine M.block b l ?_;rintro⟨x,hx,Lx⟩;obtain⟨n,F,m,sz,xs,A,I,O,L,e5⟩:=oS x hx b Lx;exact dU n A L
 have arn:∀b,b<w.heap.size->(∀x∈fl,¬bP b x.2)->w'.heap[b]? =w.heap[b]? :=fun b l dU=>M.block b l (by rintro⟨x,hx,Lx⟩;exact dU x hx Lx);obtain⟨xj,K,jW⟩:=H.MF (G':=y7 G u qs) (h':=σ2.h) (w':=w') (S:=fun n=>n∈ns) M.size arK (fun b l=>M.mh b l) rfl (fun n hn=>by
  obtain⟨i,it,x,q,D,hxi,s9,xQ,z,g0,Lu⟩:=hSn n hn;have eN:=g0.at_;have ael:=t4 i it q.er D xQ;rw[adX zi D s9 z];obtain⟨W3,md⟩:=it;cases W3 with
  |nil sz=>cases z
  |row n'=>
   injection z with z;have z:n'=n:=z;subst z;obtain⟨F,mo,sz,xs,A,I,O,L,e5⟩:=eN;obtain⟨cv,pi,oH,mr,X,W,g2,g3⟩:=ael;rw[A] at W;injection W with W;injection W with a1 a2 a3 a4;subst a1 a2 a3 a4;rw[L] at Lu;exact⟨F,mo,sz,xs,X,A,g3,aba H A I O e5.1 e5.2 Lu g2⟩
  |nest n' k off=>
   injection z with z;have z:n'=n:=z;subst z;obtain⟨F,sz,xs,A,I,O,A8⟩:=eN;obtain⟨cv,pi,oH,mr,ex,W,g2,g3⟩:=ael;rw[A] at W;injection W with W;injection W with a1 a2 a3 a4;subst a1 a2 a3 a4;rw[I] at Lu;have hr:=H.row n' F .live sz xs A;have cY:σ.h n'≠none:=by rw[A];simp
   have aet:∀b,xE G n' b->¬bP b x.2->w'.heap[b]? =w.heap[b]? :=by
    intro b l Be;have cF:b<w.heap.size:=by
     rcases l with⟨U,rfl⟩|T
     ·exact(H.own n' cY U).2.2
     ·exact H.tG A T
    refine arn b cF fun y hy rY=>?_;obtain⟨j,V⟩:=IS hy;by_cases lR:j=i
    ·subst lR;rw[hxi] at V;injection V with V;subst V;exact Be rY
    ·obtain⟨FB,rU,_,CR⟩:=P3 j y V;obtain⟨n2,Ig,m2,qN,mV,f1,f2,f3,f4,f5⟩:=CR.rS H rY;have bk:n'≠n2:=by
      rintro rfl;exact lR (Qz zi rU D f1 rfl)
     exact H.Lr bk A f2 f5 l f4
   refine⟨F,.live,sz,xs,_,A,g3,aa9 H A A8 O g0.kw (fun U=>aet _ (.inl ⟨U,rfl⟩) fun l=>?_) (fun k' j' c hk bk b l=>aet b (.inr ⟨k',j',c,hk,l⟩) fun Lx=>?_) Lu g2⟩
   ·exact H.live n' F sz xs A _ ⟨k,off,x.2,O,l⟩ n' cY U rfl
   ·exact hr.mode.2.2 _ _ _ _ _ _ b hk O bk l Lx) (fun n hn=>⟨t3 n (by rw[q6];exact hn),adY (by rw[q6];exact hn)⟩)
 have HR2:HR B E w' (y7 G u qs) σ2.h σ2.used []:=by rw[t2];exact xj
 have fY:Al B w' (y7 G u qs) σ2.h (bX.flatMap (·.2)):=by
  refine⟨p4.fF,fun pc cA b l=>?_,?_⟩
  ·obtain⟨n1,n2⟩:=p4.new pc cA b l;refine⟨⟨fun D=>?_,fun q t oY Y=>?_,fun q F mo sz xs t eW=>?_⟩,n2,zas r.fr.size n1⟩
   ·have:=H.jN b D;omega
   ·obtain⟨k0,k1,k2,_⟩:=K.name q (xj.lP q t) t;have:=(H.own q k0 (k1.symm.trans oY)).2.2;rw[<-k2] at this;omega
   ·have bD:=jW q b eW;have C5:=xj.lP q (by rw[t];simp);obtain⟨k0,_⟩:=K.name q C5 (by rw[t];simp);cases hh:σ.h q with
    |none=>exact absurd hh k0
    |some blk=>
     cases blk with
     |box cs=>
      have:q∉ns:=by
       intro hm;obtain⟨i,it,x,q',D,hxi,s9,xQ,z,g0,Lu⟩:=hSn q hm;have eN:=g0.at_;obtain⟨W3,md⟩:=it;cases W3 with
       |nil sz=>cases z
       |row n'=>
        injection z with z;have z:n'=q:=z;subst z;obtain⟨F,mo,sz,xs,A,_⟩:=eN;rw[hh] at A;cases A
       |nest n' k off=>
        injection z with z;have z:n'=q:=z;subst z;obtain⟨F,sz,xs,A,_⟩:=eN;rw[hh] at A;cases A
      have h3:=t3 q (by rw[q6];exact this);rw[h3,hh] at t;cases t
     |row cv m' bw X=>have:=H.tG hh bD;omega
  ·rw[zaq];intro i j D V lR b l;exact p4.sR i j _ _ b (by omega) (AT D) (AT V) l
 rw[<-p1] at zf;obtain⟨G',b1,b2,b3,b4,b5,b6,b7⟩:=HR.nF HR2 zf p3 fY;have A7:Fr B E w0 w':=by
  refine⟨M.os.trans r.fr.os,M.tape.trans r.fr.tape,M.output.trans r.fr.output,zas r.fr.size M.size,fun b l Y=>?_,fun b l=>?_⟩
  ·refine(M.block b (zag l r.fr.size) fun hx=>?_).trans (r.fr.block b l Y);rcases wg b hx with Z|Z
   ·omega
   ·exact Y Z
  ·exact(r.fr.mh b l).trans (M.mh b (zag l r.fr.size))
 have K2:cD w G σ.h (fun n=>σ.used n=true) w' G' j6.h:=cD.trans (fun n hn=>by rw[t2];exact hn) K b2;have r2:R B E w0 N j6 a w' G':=r.step (b6.trans t1) (fun q t=>b7 q (by rw[t2];exact t)) K2 b1 A7;refine⟨G',r2.put (RA.rH b3 p3 b4) ?_ hN⟩;intro q t;match ls,t with
 |[],t=>obtain⟨x,hx,_⟩:=t;simp at hx
 |[(true,cs)],t=>obtain⟨c,hc,t⟩:=t;exact b5 (true,cs) (by simp) c hc q t
 |[(false,[c])],t=>exact b5 (false,[c]) (by simp) c (by simp) q t
 |[(false,[])],t=>exact absurd t id
 |[(false,_::_::_)],t=>exact absurd t id
 |x::y::ls,t=>obtain⟨x',pP,c,hc,t⟩:=t;exact b5 x' pP c hc q t
theorem abZ (r:R B E w0 N σ a w G) {T:bL} {m:Mode} {f:FuncId} {as:List aE} {vals vals':List Value} {σ1:St} (D:∀sig M,bL.tZ T.DG f=some (sig,M)->∀ds c b,M ds=some (c,b)->∀pas,Cs w sig ds vals pas->Calls P f vals'.toArray w (N7 w sig pas c b)) (J:∀n,o.dst=some n->n<N) (K:(execOp a.eval o).run P w=.ok (.enter f vals'.toArray) w) (hl:vals.length=as.length) (t:∀(j:Nat) (x:aE) (v:Value),as[j]? =some x->vals[j]? =some v->RA w G σ.h x v) (hx:vV T m o.dst f as σ=some σ1):o.wp P a w (Nx B E w0 N σ1) Q:=by have H:=r.hr;unfold vV at hx;split at hx;rename_i sig M fW y S;split at hx;rename_i V;split at hx;rename_i ds its L;split at hx;rename_i c b u;split at hx;rename_i σ2 q;split at hx;rename_i ls j6 F;injection hx with hx;subst hx;obtain⟨z,A⟩:=XH S hl t;obtain⟨pas,I,O,C,k,U,W,l⟩:=H.qI L z A;exact aot r (fun g hm=>D sig M y ds c b u g hm) J K I O C (fun p d e=>absurd e (k p d)) (fun i p s d _ e=>absurd e (k p (wt d))) U W l V q F;cases hx;cases hx;cases hx;cases hx;cases hx;cases hx
theorem aoC (r:R B E w0 N σ a w G) {T:bL} (i:Ob P T) {m:Mode} {f:FuncId} {as:List aE} {vals:List Value} {σ1:St} (d:∀n,o.dst=some n->n<N) (e:(execOp a.eval o).run P w=.ok (.enter f vals.toArray) w) (hl:vals.length=as.length) (b:∀(j:Nat) (x:aE) (v:Value),as[j]? =some x->vals[j]? =some v->RA w G σ.h x v) (hx:vV T m o.dst f as σ=some σ1):o.wp P a w (Nx B E w0 N σ1) Q:= abZ r (fun sig M c ds k g h pas hm=>i f sig M c ds k g h w vals pas hm) d e hl b hx
theorem aov (r:R B E w0 N σ a w G) {T:bL} (d:Ob P T) {m:Mode} {f:FuncId} {xs:Array Operand} {b:List MO} {ts:Array TypeId} {σ1:St} (i:∀n,o.dst=some n->n<N) (h:o.op=.call {callee:=.value (.func f),args:=xs,argTypes:=ts}) (j:cg P f=true) (hm:kR xs.toList b=true) (hx:vV T m o.dst f (b.map σ.ev) σ=some σ1):o.wp P a w (Nx B E w0 N σ1) Q:=by obtain⟨g,c⟩:=r.EV hm;refine aoC r d (vals:=xs.toList.map a.eval) i ?_ (by simpa using g) c hx;have e:(xs.toList.map a.eval).toArray=xs.map a.eval:=(by apply zab;simp);rw[e];simp[execOp,h,resolve,Deferred.ofValue,invoke,Act.eval,JH j]
end
section
variable {B:Nat} {E:Ex} {w0 w w':World} {G G':Gh} {h h':Nat->Option bf} {used used':Nat->Bool} {tk:List PC} {N:Nat}
variable {P:Program} {o:Oper} {a:Act} {σ σ':St} {Q:Exit->Act->World->Prop}
def BT (tmps:Array Value):ResultVar->Sem Value
 |.tmp t=>pure (tmps.getD t undef)
 |.cell a t=>do loadVar t (<-asAddr (tmps.getD a undef))
def Jo:List Value->Value
 |[u]=>u
 |l=>.tuple l.toArray
theorem Q0 (fn:Func) (a:Array Value) {us:List Value} (h:(fn.results.toList.mapM (BT a)).run P w=.ok us w):
  (results fn a).run P w=.ok (Jo us) w:=by
 unfold results;generalize fn.results=A at h⊢;obtain⟨l,rfl⟩:∃l:List ResultVar,A=l.toArray:=⟨A.toList,by simp⟩;have b:((l.toArray.mapM (BT a)).run P w)=.ok us.toArray w:=by
  rw[List.mapM_toArray];simp at h;simp[h]
 show Sem.run P (l.toArray.mapM (BT a)>>=fun vs=>pure (if h:vs.size=1 then vs[0] else Value.tuple vs)) w=_
 generalize l.toArray.mapM (BT a)=s at b⊢;match us with
 |[]=>simp[Jo,b]
 |[u]=>simp[Jo,b]
 |u::v::us=>simp[Jo,b]
end
section
variable {B:Nat} {E:Ex} {w0 w w':World} {G G':Gh} {N:Nat} {h h':Nat->Option bf} {used:Nat->Bool}
variable {P:Program} {o:Oper} {a:Act} {σ σ':St} {Q:Exit->Act->World->Prop}
theorem amg {n k b off sz len:Nat} {x:C} (hx:eA h (.cG n k b off sz len)=some x):∃a xs,h n=some (.row a .live b xs)/\(xs[k]?).bind (·[off]?)=some x:=by simp only[Am.eA] at hx;split at hx;rename_i a rs xs hn;split at hx;rename_i c;subst c;exact⟨a,xs,hn,hx⟩;cases hx;cases hx
theorem HR.QA (H:HR B E w G h used []) {n k off c:Nat} {f:Bool} {xs:List (List C)} (hn:h n=some (.row f .live c xs)) {pc:PC} (b:At (G.g n).px k off pc): (G.g n).nl=false/\Good w pc/\(xs[k]?).bind (·[off]?)=some pc.er:=by have hr:=H.row n f .live c xs hn;have d:(G.g n).nl=false:=(by cases hq:(G.g n).nl with|false=>rfl|true=>obtain⟨e,a,_⟩:=b;rw[(hr.nl hq).1] at a;simp at a);refine⟨d,(hr.f0 d).2.1.2.2 _ _ _ b,?_⟩;obtain⟨e,a,i⟩:=b;rw[hr.er];simp[a,i]
theorem aoG (r:R B E w0 N σ a w G) {t e:TypeId} {i:TypeInfo} {x y:Operand} {mx my:MO} {n k f off sz z len:Nat} {q:Int} {ys:List (List C)} (H:o.op=.indexAddr t x y) (L:∀n,o.dst=some n->n<N) (A:dC x mx=true) (D:dC y my=true) (W:P.underlying t=some (.slice e)) (S:P.info? e=some i) (T:i.size=sz) (X:(σ.ev my).fZ=some q) (K:0<=q) (h1:q<(ys.length:Int)) (hx:σ.ev mx=.one (.cG n k f off z len)) (O:eA σ.h (.cG n k f off z len)=some (.list sz ys)): o.wp P a w (Nx B E w0 N (σ.put o.dst (.one (.ez n k f off sz q.toNat)))) Q:=by obtain⟨l,j⟩:=r.ev A;obtain⟨kk,U⟩:=(r.ev D).1.int X;rw[hx] at l j;obtain⟨M,xs,hn,V⟩:=amg O;obtain⟨pc,p1,I,p3⟩:=(l.jR (by simp)).1 M xs hn;obtain⟨g1,u,d⟩:=r.hr.QA hn p1;rw[V] at d;injection d with d;cases pc with|int k n=>simp[PC.er] at d|bool b=>simp[PC.er] at d|list s' ya c py=>rw[PC.fx] at d;injection d with F e2;subst F;have hl:ys.length=py.length:=(by rw[e2];simp);have g:q<(py.length:Int):=(by omega);have C7:PC.val (.list sz ya c py)=.slice ya py.length c:=rfl;generalize mK:PC.list sz ya c py=p at u;cases u with|int k n=>cases mK|bool b=>cases mK|nil _ _ _ _=>injection mK with _ _ _ e4;subst e4;simp at g;omega|cons _ b s _ _ q1 q2 q3 q4 q5 q6=>injection mK with J f2 f3 f4;subst J f2 f3 f4;refine ny r (v:=.pointer (some (ad b (s+q.toNat*sz)))) ?_ ?_ (fun m hm=>j m hm) L;simp only[execOp,H,<-I,PC.val,U];simp[JJ W S T K g];refine RA.iR rfl fun cv aP cT=>?_;exact⟨_,b,s,py.length,c,p1,rfl,rfl,rfl⟩
theorem abB:∀{vs:List ar} {cs:List C} {us:List Value},qi vs=some cs->eJ w G h vs us->∃pe:List PC,pe.map PC.er=cs/\pe.map PC.val=us/\pe.length=vs.length/\∀c∈pe,c.er.gU=true
 |[],cs,us,hx,hr=>by
  simp only[qi] at hx;injection hx with hx;subst hx;have:us=[]:=If hr.1;subst this;exact⟨[],rfl,rfl,rfl,by simp⟩
 |c::vs,cs,us,hx,hr=>by
  match us,hr with
  |[],hr=>exact absurd hr.1 (by simp)
  |u::us,hr=>
  cases c with
  |c x=>
   simp only[qi] at hx;split at hx
   ·rename_i e;cases hd:qi vs with
    |none=>rw[hd] at hx;cases hx
    |some l=>
     rw[hd] at hx;injection hx with hx;subst hx;obtain⟨pe,d,n,g,k⟩:=abB (us:=us) hd ⟨by have:=hr.1;simpa using this,fun j c u f m=>hr.2 (j+1) c u (by simpa using f) (by simpa using m)⟩;obtain⟨_,pc,b,i,_⟩:=hr.2 0 _ u rfl rfl;refine⟨pc::pe,by simp[d,b],by simp[n,i],by simp[g],fun c a=>?_⟩;rcases zaG.1 a with rfl|a
     ·rw[b];exact e
     ·exact k c a
   ·cases hx
  |nil _=>simp[qi] at hx
  |ptr _ _ _ _=>simp[qi] at hx
  |eU _ _=>simp[qi] at hx
  |dW _ _ _ _ _ _=>simp[qi] at hx
  |sl _ _ _ _=>simp[qi] at hx
  |cG _ _ _ _ _ _=>simp[qi] at hx
  |ez _ _ _ _ _ _=>simp[qi] at hx
  |fn _ _=>simp[qi] at hx
  |cC=>simp[qi] at hx
theorem Good.kO {c:PC} (d:c.er.gU=true):Good w c:=by cases c with|int k n=>exact .int k n|bool b=>exact .bool b|list s a cap xs=>rw[PC.fx] at d;cases d
theorem aoS (r:R B E w0 N σ a w G) {t:TypeId} {i:TypeInfo} {x y:Operand} {mx my:MO} {sz n k M off s j:Nat} {ag J:Bool} {xs T:List (List C)} {vs:List ar} (ho:o.op=.store t x y) (hd:o.dst=none) (jw:dC x mx=true) (jV:dC y my=true)
  (hi:P.info? t=some i) (du:i.size=sz) (kU:0<sz) (hp:σ.ev mx=.one (.ez n k M off s j)) (hv:(σ.ev my).cells?=some (ag,vs)) (hl:vs.length=sz) (hn:σ.h n=some (.row J .live M xs)) (A8:J=false)
  (hx:Ge xs k off s j vs=some T):o.wp P a w (Nx B E w0 N (σ.gu n (.row J .live M T))) Q:=by
 have H:=r.hr;obtain⟨x1,_⟩:=r.ev jw;obtain⟨y1,y2⟩:=r.ev jV;rw[hp] at x1;obtain⟨pc,b,F,len,cap,p1,p2,p3,p4⟩:=(x1.jR (by simp)).1 J xs hn;obtain⟨bJ,g2,g3⟩:=H.QA hn p1;have hr:=H.row n J .live M xs hn;unfold Ge at hx;rw[g3] at hx;have dT:=y1.cells hv;have LR:(a.eval y).cells.toList.length=sz:=by rw[dT.1,hl]
 cases pc with
 |int kk nn=>simp[PC.er] at hx
 |bool bb=>simp[PC.er] at hx
 |list f ya c py=>
 rw[PC.fx] at hx;simp only at hx;split at hx
 ·rename_i eO;obtain⟨rfl,m7,z,r6⟩:=eO;cases VL:qi vs with
  |none=>rw[VL] at hx;cases hx
  |some cs=>
  rw[VL] at hx;injection hx with hx;obtain⟨pe,e1,e2,e3,e4⟩:=abB VL dT;have z:j<py.length:=by simpa using z
  have Bh:pe.length=f:=by omega
  have LS:PC.val (.list f ya c py)=.slice ya py.length c:=rfl;rw[LS] at p2;injection p2 with f1 V f3;subst f1 V f3;generalize mK:PC.list f (some (ad b F)) c py=p at g2;cases g2 with
  |int k n=>cases mK
  |bool b=>cases mK
  |nil _ _ _ _=>injection mK with _ _ _ e4;subst e4;simp at z
  |cons _ d oo' _ _ q1 q2 q3 q4 q5 q6=>
  injection mK with f1 V f3 f4;injection V with V;obtain⟨rfl,rfl⟩:=pF V;subst f1 f3 f4;have fY:bP b (PC.list f (some (ad b F)) c py):=.here _ _ _ _ q1;have hF:bY b (G.g n).px:=⟨k,off,_,p1,fY⟩;obtain⟨aBH,⟨cur,et,Y⟩,hBE⟩:=hr.mode.1 b hF;have iZ:F+j*f+(a.eval y).cells.toList.length<=cur.size:=by
   have L:(py[j]'z).length=f:=q4 _ (za8 z);have hc:=q5 j (f - 1) ((py[j]'z)[f - 1]'(by omega)) ⟨_,AT z,AT _⟩;have:=Hv Y hc;omega
  have U:∀k' l q,At (py.set j pe) k' l q->q.er.gU=true:=by
   intro k' l q h;rcases Of z h with⟨rfl,D⟩|⟨_,D⟩
   ·exact e4 q (wt D)
   ·obtain⟨e,I,W⟩:=D;have h6:=GB.1 r6 (e.map PC.er) (by simp only[BY];exact⟨e,wt I,rfl⟩);exact GB.1 h6 q.er (by simp only[BY];exact⟨q,wt W,rfl⟩)
  have bk:py.set j pe≠[]:=by
   intro h;have:=congrArg zbg h;simp at this;rw[this] at z;simp at z
  have mJ:∀e∈py.set j pe,e.length=f:=by
   intro e I;rcases zah I with I|rfl
   ·exact q4 e I
   ·exact Bh
  generalize r9:jD w b (F+j*f) (a.eval y).cells.toList cur=w';have A:uL w' .bq (PC.list f (some (ad b F)) c py) (PC.list f (some (ad b F)) c (py.set j pe)):=by
   refine⟨by simp[PC.val],.cons _ _ _ _ _ bk (by simpa using q2) q3 mJ (fun k' l q h=>?_) (fun k' l q h=>Good.kO (U k' l q h)),.list _ _ _ _ (fun k' l q h=>(Sep.kO (U k' l q h)).1) (fun d o' k' l q _ h=>(Sep.kO (U k' l q h)).2 d)
    (fun k1 j1 c1 k2 j2 c2 d h _ _ Z=>absurd Z ((Sep.kO (U k1 j1 c1 h)).2 d)),fun d O=>?_,?_,fun vC a0 Oj mr uE a1 uS xc D L=>?_⟩
   ·have wj:l<f:=by
     obtain⟨e,I,W⟩:=h;have:=mJ e (wt I);have:=(AI.1 W).1;omega
    rw[<-r9,Ei Y iZ];rcases Of z h with⟨rfl,D⟩|⟨C0,D⟩
    ·rw[aj (by omega),show F+k'*f+l - (F+k'*f)=l by omega,<-e2,AN,D];rfl
    ·rw[ak]
     ·exact q5 _ _ _ D
     ·rintro⟨u1,u2⟩;rcases zaY C0 with cF|Fa
      ·have:(k'+1)*f<=j*f:=zac _ cF;rw[zax] at this;omega
      ·have:(j+1)*f<=k'*f:=zac _ Fa;rw[zax] at this;omega
   ·rw[bP.pg] at O⊢;rcases O with⟨_,L⟩|⟨k',l,q,D,L⟩
    ·exact .inl ⟨q1,L⟩
    ·exact absurd L ((Sep.kO (U k' l q D)).2 d)
   ·rw[PC.fx];show jm _=true;rw[jm,GB];intro e I;obtain⟨e0,qm,rfl⟩:=BY.1 I;rw[jb,GB];intro c0 fj;obtain⟨c1,wb,rfl⟩:=BY.1 fj;obtain⟨k',cI⟩:=IS qm;obtain⟨l,W⟩:=IS wb;exact U k' l c1 ⟨e0,cI,W⟩
   ·injection D with a1 a2 a3 a4;injection L with b1 b2 b3 b4;subst a1 a2 a3 a4 b1 b2 b3 b4;exact⟨rfl,rfl,rfl,by simp,fun h=>by cases h⟩
  have fk:∀d,d≠b->w'.heap[d]? =w.heap[d]? :=fun d O=>by rw[<-r9];exact Ej d O
  have mI:∀d,Cz w w' d:=fun d=>by
   by_cases Z:d=b
   ·subst Z;rw[<-r9];exact Gx Y iZ
   ·exact Cz.of_eq (fk d Z)
  have qp:w.heap.size<=w'.heap.size:=by rw[<-r9,vF];exact Pd _
  have cY:σ.h n≠none:=by rw[hn];simp
  have VE:(G.g n).b≠b:=fun h=>H.live n J M xs hn b hF n cY bJ h.symm;obtain⟨X,wg⟩:∃X,xs[k]? =some X:=by
   cases h:xs[k]? with
   |none=>rw[h] at g3;cases g3
   |some X=>exact⟨X,rfl⟩
  have arL:T=xs.set k (X.set off (PC.list f (some (ad b F)) c (py.set j pe)).er):=by
   rw[<-hx,PC.fx,zaB,e1,IT,wg];rfl
  have Lz:=aa9 H hn A8 p1 rfl (fun _=>fk _ VE) (fun k' l q D L d O=>fk d (by rintro rfl;exact hr.mode.2.2 _ _ _ _ _ _ d D p1 L O fY)) A wg;obtain⟨xj,K,_⟩:=H.MF (G':=⟨G.Im,bj G.g n (DK (G.g n) (.nest n k off) (PC.list f (some (ad b F)) c (py.set j pe)))⟩) (h':=bj σ.h n (some (.row J .live M T))) (w':=w') (S:=fun m=>m=n) qp
   (fun d O dU=>fk d (by rintro rfl;exact dU n rfl (.inr hF))) (fun d _=>mI d) rfl
   (fun m hm=>by subst hm;exact⟨J,.live,M,xs,T,hn,dD _ _ _,by simp only[dD];rw[arL];exact Lz⟩)
   (fun m hm=>⟨dZ _ _ _ _ hm,dZ _ _ _ _ hm⟩)
  have r':=r.step (σ':=σ.gu n (.row J .live M T)) rfl (fun _ h=>h) K xj (r.fr.one hBE (fun d _ bk=>fk d bk) qp (mI b) (by rw[<-r9];rfl) (by rw[<-r9];rfl) (by rw[<-r9];rfl));have de:=Q1 (P:=P) (w:=w) (t:=t) (i:=i) (b:=b) (off:=F+j*f) (v:=a.eval y) (cur:=cur) (e:=et) hi (by rw[du,<-LR];simp) Y (by simpa using iZ) (fun u hu=>by
   obtain⟨j,z,LG⟩:=List.getElem_of_mem hu;have Fc:j<vs.length:=by omega
   exact(dT.2 j _ u (AT Fc) (by rw[AT z,LG])).1)
  refine Sk (w':=w') ?_ ⟨_,by rw[hd];exact r'⟩;rw[<-r9];simp only[execOp,ho,p4];simp[Instr.storeAt,Instr.sureAddr,de]
 ·cases hx
end
section
variable {B:Nat} {E:Ex} {w0 w w':World} {G G':Gh} {N:Nat} {h h':Nat->Option bf} {used:Nat->Bool}
variable {P:Program} {o:Oper} {a:Act} {σ σ':St} {Q:Exit->Act->World->Prop}
theorem R.aqx (r:R B E w0 N σ a w G) {n:Nat} {s:Bool} {m:Mode} {xs:List (List C)} (hn:σ.h n=some (.row s m 1 xs)) (hm:m≠ .bn) (U:jm xs=true) (A:(G.g n).nl=false) {lo:Nat} {pe:List PC} (E9:∀c∈pe,c.er.gU=true) (iZ:lo+pe.length<=xs.length) {cur:Array Value} {V:TypeId} (O:w.heap[(G.g n).b]? =some (.cells cur V (0,0))) (t6:(G.g n).o+lo+pe.length<=cur.size): ∃G',R B E w0 N (σ.gu n (.row s m 1 (e9 xs lo (pe.map fun c=>[c.er])))) a (jD w (G.g n).b ((G.g n).o+lo) (pe.map PC.val) cur) G':=by have H:=r.hr;have hr:=H.row n s m 1 xs hn;have W:σ.h n≠none:=(by rw[hn];simp);obtain⟨wm,X,xP⟩:=H.own n W A;obtain⟨l1,l2,Y⟩:=hr.f0 A;have te:xs.length=(G.g n).px.length:=(by rw[hr.er,zai]);have z:=U;rw[hr.er] at z;have nz:=hr.er;generalize kj:(G.g n).px=px at*;have I:lo+(pe.map fun c=>[c]).length<=px.length:=(by rw[zai];omega);have F:(pe.map PC.val).length=pe.length:=zai _;have y:(G.g n).o+lo+(pe.map PC.val).length<=cur.size:=(by rw[F];exact t6);have L:∀k j c,At (e9 px lo (pe.map fun c=>[c])) k j c->j=0/\((lo<=k/\k<lo+pe.length/\pe[k - lo]? =some c)\/(¬(lo<=k/\k<lo+pe.length)/\At px k j c)):=(by rintro k j c ⟨e,i,p⟩;rw[Ec I,zai] at i;by_cases v:lo<=k/\k<lo+pe.length;rw[aj v,AN] at i;(cases hp:pe[k - lo]? with|none=>rw[hp] at i;cases i|some c0=>rw[hp] at i;injection i with i;subst i;cases j with|zero=>simp at p;subst p;exact⟨rfl,.inl ⟨v.1,v.2,rfl⟩⟩|succ j=>simp at p);rw[ak v] at i;have mJ:=l2.1 e (wt i);have:=(AI.1 p).1;exact⟨by omega,.inr ⟨v,e,i,p⟩⟩);have x:∀k j c,At (e9 px lo (pe.map fun c=>[c])) k j c->c.er.gU=true:=(by intro k j c d;rcases(L k j c d).2 with⟨_,_,u⟩|⟨_,e,i,p⟩;exact E9 c (wt u);have h6:=GB.1 z (e.map PC.er) (by simp only[BY];exact⟨e,wt i,rfl⟩);exact GB.1 h6 c.er (by simp only[BY];exact⟨c,wt p,rfl⟩));generalize r9:jD w (G.g n).b ((G.g n).o+lo) (pe.map PC.val) cur=w';have fk:∀f,f≠(G.g n).b->w'.heap[f]? =w.heap[f]? :=fun f P=>(by rw[<-r9];exact Ej f P);have M:∀f,Cz w w' f:=fun f=>(by by_cases t:f=(G.g n).b;subst t;rw[<-r9];exact Gx O y;exact Cz.of_eq (fk f t));have J:w.heap.size<=w'.heap.size:=(by rw[<-r9,vF];exact Pd _);have Lz:Kp w' (G.g n) {G.g n with px:=e9 px lo (pe.map fun c=>[c])} s m 1 (e9 xs lo (pe.map fun c=>[c.er])):=(by refine⟨hm,.inl (by rw[kj];exact acx z),rfl,rfl,rfl,rfl,rfl,?_,(fun h=>by rw[A] at h;cases h),fun _=>⟨⟨fun e i=>?_,fun k j c d=>?_,fun k j c d=>Good.kO (x k j c d)⟩,by show(e9 px lo _).length<=_;rw[RL I];exact Y⟩, ⟨fun k j c d=>(Sep.kO (x k j c d)).1,fun k j c k' j' c' b d _ _ t=>absurd t ((Sep.kO (x k j c d)).2 b)⟩,fun b ⟨k,j,c,d,t⟩=>absurd t ((Sep.kO (x k j c d)).2 b),fun _ k j pc d hL=>?_,fun _ _ k c d=>xk.kO (x k _ c d)⟩;show e9 xs lo _=(e9 px lo _).map _;rw[JY,<-nz,zaj];rfl;obtain⟨k,d⟩:=IS i;have l:(e9 px lo (pe.map fun c=>[c]))[k]? =some e:=d;rw[Ec I] at l;split at l;rw[AN] at l;(cases hp:pe[k - lo]? with|none=>rw[hp] at l;cases l|some c0=>rw[hp] at l;injection l with l;rw[<-l];rfl);exact l2.1 e (wt l);obtain⟨rfl,u⟩:=L k j c d;rw[<-r9,Ei O y];rcases u with⟨u,Q,h3⟩|⟨u,Q⟩;rw[aj (by rw[F];omega),show(G.g n).o+k*1+0 - ((G.g n).o+lo)=k - lo by omega,AN,h3];rfl;rw[ak (by rw[F];omega)];exact l2.2.1 _ _ _ Q;rw[kj] at d;have:=acy z d;rw[hL] at this;cases this);obtain⟨T,K,_⟩:=H.MF (G':=⟨G.Im,bj G.g n {G.g n with px:=e9 px lo (pe.map fun c=>[c])}⟩) (h':=bj σ.h n (some (.row s m 1 (e9 xs lo (pe.map fun c=>[c.er]))))) (w':=w') (S:=fun q=>q=n) J (fun f P Z=>fk f (by rintro rfl;exact Z n rfl (.inl ⟨A,rfl⟩))) (fun f _=>M f) rfl (fun q D=>by subst D;exact⟨s,m,1,xs,_,hn,dD _ _ _,by simp only[dD];exact Lz⟩) (fun q D=>⟨dZ _ _ _ _ D,dZ _ _ _ _ D⟩);exact⟨_,r.step (σ':=σ.gu n (.row s m 1 (e9 xs lo (pe.map fun c=>[c.er])))) rfl (fun _ h=>h) K T (r.fr.one X (fun f _ bk=>fk f bk) J (M _) (by rw[<-r9];rfl) (by rw[<-r9];rfl) (by rw[<-r9];rfl))⟩
end
section
variable {B:Nat} {E:Ex} {w0 w w':World} {G G':Gh} {N:Nat} {h h':Nat->Option bf} {used:Nat->Bool}
variable {P:Program} {o:Oper} {a:Act} {σ σ':St} {Q:Exit->Act->World->Prop}
theorem aAi {n:Nat} {b:bf} (hn:σ.h n=some b):σ.gu n b=σ:=by unfold St.gu;rw[<-hn,NF]
theorem aAG {α:Type} (xs:List α) (lo:Nat) (h:lo<=xs.length):e9 xs lo []=xs:=by simp[e9]
theorem aBy (z0:Value) (n:Nat):(Builtin.zeroCells #[z0] n).toList=zad n z0:=by unfold Builtin.zeroCells;simp;rw[List.eq_replicate_iff];refine⟨by simp,fun b a=>?_⟩;obtain⟨i,_,rfl⟩:=BY.1 a;simp[Nat.mod_one]
theorem azW {t ty e:TypeId} (a:P.underlying t=some (.slice e)) (ya:Option Addr) (c:Nat): (Builtin.clear_ #[t] ty #[.slice ya 0 c]).run P w=.ok (.tuple #[]) w:=by cases ya<;>simp[Builtin.clear_,run_underlying a]
theorem azV {t ty e d:TypeId} {i:TypeInfo} {z z0:Value} (q:P.underlying t=some (.slice e)) (p:P.info? e=some i) (l:i.zero=some z) (j:z.cells=#[z0]) (h:z0.oneCell'=true) (g a n c:Nat) (hn:0<n) (cur:Array Value) (m:w.heap[g]? =some (.cells cur d (0,0))) (f:a+n<=cur.size):(Builtin.clear_ #[t] ty #[.slice (some (ad g a)) n c]).run P w=.ok (.tuple #[]) (jD w g a (zad n z0) cur):=by have b:=run_storeCells_at P g a d (zad n z0) 0 cur w m (by simpa using f) (fun v o=>by rw[(zaZ.1 o).2];exact h);simp only[zbc] at b;obtain⟨n,rfl⟩:∃k,n=k+1:=⟨n - 1,by omega⟩;simp[Builtin.clear_,run_underlying q,typeInfo,zeroValue,p,l,j,aBy,ad,b,jD]
theorem aoy (r:R B E w0 N σ a w G) {t e:TypeId} {i:TypeInfo} {z:Value} {x:Operand} {mx:MO} {n lo len:Nat} {d:C} {xs:List (List C)} {s:Bool} {m:Mode} (D:o.op=.call {callee:=.builtin .clear,args:=#[x],argTypes:=#[t]}) (L:∀n,o.dst=some n->n<N)
  (V:dC x mx=true) (S:P.underlying t=some (.slice e)) (hi:P.info? e=some i) (hz:i.zero=some z) (f:Az z.cells.toList [d]=true) (Z:d.gU=true) (hx:σ.ev mx=.one (.sl n 1 lo len)) (hn:σ.h n=some (.row s m 1 xs))
  (hm:m≠ .bn) (X:jm xs=true) (W:lo+len<=xs.length):
  o.wp P a w (Nx B E w0 N ((σ.gu n (.row s m 1 (e9 xs lo (zad len [d])))).put o.dst (.dh []))) Q:=by
 have H:=r.hr;obtain⟨O,_⟩:=r.ev V;rw[hx] at O;have U:lL (G.g n) 1 lo len (a.eval x):=(O.jR (by simp)).1 (by rw[hn];simp);have hr:=H.row n s m 1 xs hn;obtain⟨b1,b2,b3⟩:=Un (w:=w) f;have I:∀w G' h',RA w G' h' (.dh []) (.tuple #[]):=fun w G' h'=>⟨[],rfl,rfl,by simp⟩;have Bq:z.cells=#[(qO d).val]:=by
  apply zab;rw[<-b2];rfl
 rcases Nat.eq_zero_or_pos len with rfl|j
 ·have p:∃F c,a.eval x=.slice F 0 c:=by
   rcases U with⟨l,y,_,_⟩|⟨l,a',y,_,_⟩
   ·exact⟨_,_,y⟩
   ·exact⟨_,_,y⟩
  obtain⟨F,c,p⟩:=p;rw[show e9 xs lo (zad 0 [d])=xs from aAG _ _ (by omega),aAi hn]
  refine ny r (v:=.tuple #[]) ?_ (I _ _ _) (fun q A=>?_) L
  ·simp only[execOp,D];simp[resolve,invoke,builtin,p,azW S]
  ·obtain⟨x,hx,_⟩:=A;simp at hx
 ·rcases U with⟨_,_,_,rfl⟩|⟨l,a',K,kJ,ha⟩
  ·omega
  have Y:=ha (.inl (by omega));subst Y;obtain⟨⟨cur,et,u⟩,l2,l3⟩:=hr.f0 l;have te:xs.length=(G.g n).px.length:=by rw[hr.er,zai]
  have T:(G.g n).o+lo+len<=cur.size:=by
   have k:lo+len - 1<(G.g n).px.length:=by omega
   have h2:((G.g n).px[lo+len - 1]'k).length=1:=l2.1 _ (za8 k);have f:=l2.2.1 (lo+len - 1) 0 (((G.g n).px[lo+len - 1]'k)[0]'(by omega)) ⟨_,AT k,AT _⟩;have:=Hv u f;omega
  have M:(qO d).er=d:=by simpa using b1
  obtain⟨G',J⟩:=r.aqx hn hm X l (lo:=lo) (pe:=zad len (qO d)) (fun c f=>by rw[(zaZ.1 f).2,M];exact Z) (by rw[zaM];exact W) u (by rw[zaM];exact T);rw[za0,za0,M] at J;have de:=azV (P:=P) (w:=w) (ty:=o.type) S hi hz Bq (PC.mU _) (G.g n).b ((G.g n).o+lo) len ((G.g n).cap - lo) j cur u T;refine w9 (w':=jD w (G.g n).b ((G.g n).o+lo) (zad len (qO d).val) cur) (v:=.tuple #[]) ?_ ⟨G',J.put (I _ _ _) (fun q A=>by obtain⟨x,hx,_⟩:=A;simp at hx) L⟩;rw[Nat.mul_one] at K;simp only[execOp,D];simp[resolve,invoke,builtin,K,de]
end
structure TN (w:World) (ds:List Dv) (vals:List Value) (pas:List PA):Prop where
 l1:vals.length=ds.length
 l2:pas.length=ds.length
 at_:∀(i:Nat) (d:Dv) (v:Value) (p:PA),ds[i]? =some d->vals[i]? =some v->pas[i]? =some p->En w d v p
 mh:∀p∈pas,p.k=.ptr->fD w p.b/\∀q∈pas,∀pc∈q.ps,¬bP p.b pc
 one:∀(i j:Nat) (p q:PA),pas[i]? =some p->pas[j]? =some q->p.k=.ptr->q.k=.ptr->i=j
def Hi (w:World) (pas:List PA) (b:Nat):Prop:=w.heap.size<=b\/∃q∈pas,∃pc∈q.ps,bP b pc
def exV (pas:List PA):Ex:=⟨fun b=>∃p∈pas,p.k=.ptr/\b=p.b,fun _=>none,fun _ _ h=>(by cases h),fun _=>True⟩
def F5 (p:PA):Value:=
 match p.k with
 |.one=>match p.ps with
  |[pc]=>pc.val
  |_=>.agg (p.ps.map PC.val).toArray
 |.agg=>.agg (p.ps.map PC.val).toArray
 |.ptr=>.pointer (some (ad p.b p.o))
def F6:List PA->Value
 |[p]=>F5 p
 |l=>.tuple (l.map F5).toArray
def N5 (w:World) (b o:Nat) (ps:List PC):Prop:=∀(j:Nat) (c:PC),ps[j]? =some c->w.cell? (ad b (o+j))=some c.val
structure TM (w w':World) (pas bX:List PA) (qs:List PC):Prop where
 one:∀p∈bX,p.k=.one->p.ps.length=1
 ptr:∀p∈bX,p.k=.ptr->bX.length=1/\w.heap.size<=p.b/\fD w' p.b/\N5 w' p.b p.o p.ps/\(∀pc∈p.ps,¬bP p.b pc)/\∀pc∈qs,¬bP p.b pc
 fF:∀p∈bX,∀pc∈p.ps,Good w' pc/\∀b,bP b pc->Hi w pas b
 fr:Fr w.heap.size (exV pas) w w'
 out:∀pc∈qs,Good w' pc/\∀b,bP b pc->Hi w pas b
 at_:∀p∈pas,p.k=.ptr->N5 w' p.b p.o qs
def yL (P:Program) (f:FuncId) (M:List Dv->Option (List Dv×List C)):Prop:=
 ∀ds rs out,M ds=some (rs,out)->∀(w:World) (vals:List Value) (pas:List PA),TN w ds vals pas->Calls P f vals.toArray w fun e w'=>
  ∃(bX:List PA) (qs:List PC),bX.map (fun p=>(p.k,p.ps.map PC.er))=rs/\e=.returned (F6 bX)/\qs.map PC.er=out/\TM w w' pas bX qs
def Hh (P:Program) (T:bL):Prop:=∀f M,bL.rR T.vs f=some M->yL P f M
section
variable {B:Nat} {E:Ex} {w0 w w':World} {G G':Gh} {N:Nat} {h h':Nat->Option bf} {used used':Nat->Bool} {tk:List PC}
variable {P:Program} {o:Oper} {a:Act} {σ σ':St} {Q:Exit->Act->World->Prop}
theorem HR.ug {c:ar} {x:C} {v:Value} (hx:Am.ug c=some x) (d:RC w G h c v):∃pc:PC,pc.er=x/\pc.val=v/\Good w pc/\∀b,bP b pc->G.Im b:=by cases c with|c y=>simp only[Am.ug] at hx;injection hx with hx;subst hx;exact d|nil sz=>simp only[Am.ug] at hx;split at hx;rename_i g;injection hx with hx;subst hx;have i:v=.slice none 0 0:=d;subst i;refine⟨.list sz none 0 [],by simp[PC.fx],rfl,.nil _ _ _ g,fun b a=>?_⟩;rw[bP.pg] at a;rcases a with⟨a,_⟩|⟨k,j,c,⟨e,f,_⟩,_⟩;exact absurd rfl a;simp at f;cases hx|_=>simp[Am.ug] at hx
theorem HR.ot:∀{cs:List ar} {xs:List C} {vs:List Value},Am.ot cs=some xs->eJ w G h cs vs->∃ps:List PC,ps.map PC.er=xs/\ps.map PC.val=vs/\∀pc∈ps,Good w pc/\∀b,bP b pc->G.Im b
 |[],xs,vs,hx,hc=>by
  simp only[Am.ot] at hx;injection hx with hx;subst hx;have:vs=[]:=If (by simpa using hc.1);subst this;exact⟨[],rfl,rfl,by simp⟩
 |c::cs,xs,vs,hx,hc=>by
  simp only[Am.ot] at hx;split at hx
  ·rename_i x aP d p;injection hx with hx;subst hx;match vs,hc.1 with
   |v::vs,hl=>
    obtain⟨pc,g,o,i,e⟩:=HR.ug d (hc.2 0 c v rfl rfl).2;obtain⟨ps,l,k,m⟩:=HR.ot (vs:=vs) p ⟨by simpa using hl,fun j c u f n=>hc.2 (j+1) c u f n⟩;refine⟨pc::ps,by simp[g,l],by simp[o,k],fun q a=>?_⟩;cases a with
    |head=>exact⟨i,e⟩
    |tail _ a=>exact m q a
  ·cases hx
theorem HR.T7 (H:HR B E w G h used tk) {n:Nat} {cs:List ar} (hn:h n=some (.box cs)):∃vs:List Value,eJ w G h cs vs/\∀(j:Nat) (v:Value),vs[j]? =some v->w.cell? (ad (G.g n).b ((G.g n).o+j))=some v:=by obtain⟨_,_,i⟩:=H.box n cs hn;have f:∀j:Fin cs.length,∃v,w.cell? (ad (G.g n).b ((G.g n).o+j.1))=some v/\v.oneCell'=true/\RC w G h cs[j.1] v:=fun j=>i j.1 _ (AT j.2);refine⟨List.ofFn fun j=>Classical.choose (f j),⟨by simp,fun j c u k d=>?_⟩,fun j v a=>?_⟩;obtain⟨hl,e⟩:=AI.1 k;rw[za1,dif_pos hl] at d;injection d with d;subst d e;exact(zaN (f ⟨j,hl⟩)).2;by_cases hl:j<cs.length;rw[za1,dif_pos hl] at a;injection a with a;subst a;exact(zaN (f ⟨j,hl⟩)).1;rw[zaO (by simp;omega)] at a;cases a
theorem aA3 {σ1:St} {c:ar} {x:C} {o:Bool} (hx:σ.jC c=some (x,o,σ1)) {n:Nat} {cs:List ar} (hn:σ.h n=some (.box cs)):σ1.h n=some (.box cs):=by cases c with|c y=>simp only[St.jC] at hx;injection hx with hx;injection hx with _ hx;injection hx with _ hx;subst hx;exact hn|nil sz=>simp only[St.jC] at hx;split at hx;injection hx with hx;injection hx with _ hx;injection hx with _ hx;subst hx;exact hn;cases hx|sl q sz lo len=>simp only[St.jC] at hx;split at hx;rename_i gr m rs xs b;split at hx;injection hx with hx;injection hx with _ hx;injection hx with _ hx;subst hx;have a:n≠q:=(by rintro rfl;rw[b] at hn;cases hn);show bj σ.h q none n=_;rw[dZ _ _ _ _ a];exact hn;cases hx;cases hx|_=>simp[St.jC] at hx
theorem alT:∀{l:List ar} {σ σ1:St} {xs:List C} {o:Bool},σ.jp l=some (xs,o,σ1)->∀{n:Nat} {cs:List ar},σ.h n=some (.box cs)->σ1.h n=some (.box cs)
 |[],σ,σ1,xs,o,hx,n,cs,hn=>by simp only[St.jp] at hx;injection hx with hx;injection hx with _ hx;injection hx with _ hx;subst hx;exact hn
 |c::l,σ,σ2,xs,o,hx,n,cs,hn=>by simp only[St.jp] at hx;split at hx;rename_i x o1 σ1 a;split at hx;rename_i aP o2 Z4 b;injection hx with hx;injection hx with _ hx;injection hx with _ hx;subst hx;exact alT b (aA3 a hn);cases hx;cases hx
theorem T1:∀{as:List aE} {σ σ1:St} {ds:List Dv} {ns:List Nat},σ.mB as=some (ds,ns,σ1)->∀{n:Nat} {cs:List ar},σ.h n=some (.box cs)->σ1.h n=some (.box cs)
 |[],σ,σ1,ds,ns,hx,n,cs,hn=>by simp only[St.mB] at hx;injection hx with hx;injection hx with _ hx;injection hx with _ hx;subst hx;exact hn
 |v::as,σ,σ2,ds,ns,hx,n,cs,hn=>by simp only[St.mB] at hx;split at hx;split at hx;rename_i e;injection hx with hx;injection hx with _ hx;injection hx with _ hx;subst hx;exact T1 e hn;cases hx;split at hx;split at hx;rename_i a;split at hx;rename_i b;injection hx with hx;injection hx with _ hx;injection hx with _ hx;subst hx;exact T1 b (alT a hn);cases hx;cases hx;cases hx
def q9 (pas:List PA):List PA:=pas.filter fun p=>decide (p.k=.ptr)
def aaa (G:Gh) (h:Nat->Option bf) (p:PA) (n:Nat):Prop:=∃cs,h n=some (.box cs)/\p.b=(G.g n).b/\p.o=(G.g n).o/\p.ps.length=cs.length
theorem aaQ {v:aE} {n:Nat} {xs:List C} (hx:yP h v=some (n,xs)):∃sz cs,v=.one (.ptr n 0 sz 0)/\h n=some (.box cs)/\ot cs=some xs:=by unfold yP at hx;split at hx;rename_i q k sz off;split at hx;rename_i c;obtain⟨rfl,rfl⟩:=c;split at hx;rename_i cs a;split at hx;rename_i ys e;injection hx with hx;injection hx with b h2;subst b h2;exact⟨sz,cs,rfl,a,e⟩;cases hx;cases hx;cases hx;cases hx
theorem HR.mB:∀{as:List aE} {vals:List Value} {σ σ1:St} {G:Gh} {ds:List Dv} {ns:List Nat},HR B E w G σ.h σ.used []->σ.mB as=some (ds,ns,σ1)->vals.length=as.length->
  (∀(j:Nat) (x:aE) (v:Value),as[j]? =some x->vals[j]? =some v->RA w G σ.h x v)->(∀x∈as,∀m,x.ref m->σ.used m=true)->
  ∃(Im':Nat->Prop) (pas:List PA),pas.length=ds.length/\vals.length=ds.length/\(∀(i:Nat) (d:Dv) (v:Value) (p:PA),ds[i]? =some d->vals[i]? =some v->pas[i]? =some p->En w d v p)/\
   (∀p∈pas,∀pc∈p.ps,∀b,bP b pc->Im' b)/\(q9 pas).length=ns.length/\(∀(i:Nat) (p:PA) (n:Nat),(q9 pas)[i]? =some p->ns[i]? =some n->aaa G σ1.h p n)/\
   HR B E w ⟨Im',G.g⟩ σ1.h σ1.used []/\cD w G σ.h (fun n=>σ.used n=true) w ⟨Im',G.g⟩ σ1.h/\σ1.env=σ.env/\σ1.used=σ.used
 |[],vals,σ,σ1,G,ds,ns,H,hx,hl,hc,hr=>by
  simp only[St.mB] at hx;injection hx with hx;injection hx with a f;injection f with f h3;subst a f h3;exact⟨G.Im,[],rfl,by simpa using hl,by simp,by simp,rfl,by simp[q9],H,cD.refl _ _ _ _,rfl,rfl⟩
 |x::as,vals,σ,σ2,G,ds,ns,H,hx,hl,hc,hr=>by
  match vals,hl with
  |v::vals,hl=>
   simp only[St.mB] at hx;split at hx
   ·rename_i n xs hp;split at hx
    ·rename_i CI pY σ1 e;injection hx with hx;injection hx with a f;injection f with f h3;subst a f h3;obtain⟨sz,cs,rfl,hn,ze⟩:=aaQ hp;obtain⟨nl,un,_⟩:=H.box n cs hn;obtain⟨vs,Y,v2⟩:=H.T7 hn;obtain⟨ps,p1,T,U⟩:=HR.ot ze Y;have hv:v=.pointer (some (ad (G.g n).b (G.g n).o)):=by
      have q:=hc 0 _ v rfl rfl;rcases q with q|q
      ·cases q
      ·have a:RC w G σ.h (.ptr n 0 sz 0) v:=(q.2 0 _ v rfl rfl).2;simpa using(a (by rw[hn];simp)).2
     obtain⟨Im',pas,L,D,I,M,F,N,J,b8,P,O⟩:=HR.mB (as:=as) (vals:=vals) H e (by simpa using hl) (fun j x v a f=>hc (j+1) x v a f) (fun x hx=>hr x (by simp[hx]));have hk:(Am.K.ptr=Am.K.ptr)=True:=by simp
     refine⟨Im',⟨.ptr,ps,(G.g n).b,(G.g n).o⟩::pas,by simp[L],by simp[D],fun i d u p hd t k=>?_,fun p k pc r b z=>?_,by simp[q9];exact F,fun i p m y hm=>?_,J,b8,P,O⟩
     ·cases i with
      |zero=>
       simp at hd t k;subst hd t k;refine⟨by rw[p1],fun pc r=>(U pc r).1,hv,un.lt,fun j c hj=>v2 j _ ?_⟩;rw[<-T,AN,hj];rfl
      |succ i=>exact I i d u p (by simpa using hd) (by simpa using t) (by simpa using k)
     ·cases k with
      |head=>exact b8.im b ((U pc r).2 b z)
      |tail _ k=>exact M p k pc r b z
     ·cases i with
      |zero=>
       simp[q9] at y hm;subst y hm;refine⟨cs,T1 e hn,rfl,rfl,?_⟩;have a:ps.length=vs.length:=by rw[<-T];simp
       exact a.trans Y.1
      |succ i=>exact N i p m (by simpa[q9] using y) (by simpa using hm)
    ·cases hx
   ·split at hx
    ·rename_i ag cs s;split at hx
     ·rename_i xs o σ1 e1;split at hx
      ·rename_i CI pY Z4 e2;injection hx with hx;injection hx with a f;injection f with f h3;subst a f h3;have q:=hc 0 x v rfl rfl;have Fk:∃vs:List Value,(if ag=true then v=.agg vs.toArray else vs=[v])/\eJ w G σ.h cs vs:=by
        cases x with
        |one c=>
         have Iq:ag=false/\cs=[c]:=by cases c<;>simp[aE.cells?] at s<;>exact⟨s.1,s.2.symm⟩
         obtain⟨rfl,rfl⟩:=Iq;rcases q with q|q
         ·subst q;simp[aE.cells?] at s
         ·exact⟨[v],rfl,q⟩
        |agg cs'=>
         simp[aE.cells?] at s;obtain⟨rfl,rfl⟩:=s;obtain⟨vs,e,a⟩:∃vs:List Value,v=.agg vs.toArray/\eJ w G σ.h cs' vs:=q;exact⟨vs,e,a⟩
        |dh xs=>simp[aE.cells?] at s
       obtain⟨vs,C,dT⟩:=Fk;obtain⟨Z,S,X,a2,Q,R,W,a7,A,a9⟩:=H.jp e1 dT (fun c' eQ m hm=>hr x (by simp) m (aE.EH s eQ hm));have V:HR B E w ⟨Z,G.g⟩ σ1.h σ.used []:=by
        cases o with
        |true=>exact HR.Gt (tk:=[]) (l:=S) (by simpa using R)
        |false=>simpa using R
       rw[<-A] at V;obtain⟨Ku,pas,L,D,I,M,F,N,J,b8,P,O⟩:=HR.mB (as:=as) (vals:=vals) (G:=⟨Z,G.g⟩) V e2 (by simpa using hl)
        (fun j x v a f=>(hc (j+1) x v a f).keep W (fun m hm=>hr x (by simp[wt a]) m hm)) (fun x' pP m hm=>by rw[A];exact hr x' (by simp[pP]) m hm)
       refine⟨Ku,⟨if ag=true then .agg else .one,S,0,0⟩::pas,by simp[L],by simp[D],fun i d u p hd t k=>?_,fun p k pc r b z=>?_,?_,fun i p m y hm=>?_,J,
        cD.trans (fun n hn=>by rw[A];exact hn) W b8,P.trans a7,O.trans A⟩
       ·cases i with
        |zero=>
         simp at hd t k;subst hd t k;cases ag with
         |true=>exact⟨by simp[X],fun pc r=>(Q pc r).1,by simp only[if_true] at C⊢;rw[a2];exact C⟩
         |false=>exact⟨by simp[X],fun pc r=>(Q pc r).1,by simp only[zam,if_false] at C⊢;rw[a2];exact C⟩
        |succ i=>exact I i d u p (by simpa using hd) (by simpa using t) (by simpa using k)
       ·cases k with
        |head=>exact b8.im b ((Q pc r).2 b z)
        |tail _ k=>exact M p k pc r b z
       ·cases ag<;>simp[q9]<;>exact F
       ·refine N i p m ?_ hm;cases ag<;>simpa[q9] using y
      ·cases hx
     ·cases hx
    ·cases hx
theorem HR.ane (H:HR B E w G h used []) {n:Nat} {cs cs':List ar} (hn:h n=some (.box cs)) (L:w.heap.size<=w'.heap.size) (R:∀b,b<w.heap.size->b≠(G.g n).b->w'.heap[b]? =w.heap[b]?) (I:∀b,b<w.heap.size->Cz w w' b) {S:Nat->Prop} (z:∀b,S b->w.heap.size<=b/\b<w'.heap.size/\B<=b) {ps:List PC} (iO:cs'=ps.map fun pc=>ar.c pc.er) (eN:∀(j:Nat) (c:PC),ps[j]? =some c->w'.cell? (ad (G.g n).b ((G.g n).o+j))=some c.val) (iK:∀pc∈ps,Good w' pc/\∀b,bP b pc->G.Im b\/S b): HR B E w' ⟨fun b=>G.Im b\/S b,G.g⟩ (bj h n (some (.box cs'))) used []/\cD w G h (fun n=>used n=true) w' ⟨fun b=>G.Im b\/S b,G.g⟩ (bj h n (some (.box cs'))):=by subst iO;have p:h n≠none:=(by rw[hn];simp);obtain⟨i,P,kg⟩:=H.box n cs hn;obtain⟨W,Q,A⟩:=H.own n p i;have X:=H.lP n p;have O:∀y:List ar,cD w G h (fun n=>used n=true) w' G (bj h n (some (.box y))):=(by intro y;refine⟨fun _ h=>h,fun b a x=>ku (R b (H.jN b a) (fun T=>W (T▸a))) x,fun m hm d=>?_,fun m e sz xs hm d=>?_⟩;by_cases f:m=n;subst f;exact⟨p,rfl,rfl,rfl,rfl,rfl⟩;rw[dZ _ _ _ _ f] at d;exact⟨d,rfl,rfl,rfl,rfl,rfl⟩;by_cases f:m=n;subst f;rw[dD] at d;cases d;rw[dZ _ _ _ _ f] at d;exact⟨⟨e,xs,d⟩,fun k j pc D N=>⟨pc,D,rfl,N⟩⟩);have hG:(⟨G.Im,bj G.g n (G.g n)⟩:Gh)=G:=(by rw[NF]);have Z:HR B E w' ⟨G.Im,bj G.g n (G.g n)⟩ (bj h n (some (.box []))) used []:=(by refine H.put (fun b a bk=>R b a (bk i)) L (fun b a J=>(I b a).mh J) (fun _ h=>h) X (fun _=>⟨W,Q,zag A L⟩) (fun _ m hm d K=>(H.inj m n d p hm K i)) (fun _ m e sz xs hm d b a=>H.live m e sz xs d b a n p i) ?_ (by rw[hG];exact O []) ?_ (fun e m sz xs a=>by cases a) (fun e sz xs a=>by cases a) (fun e m sz xs a=>by cases a) ?_;intro y c m a F hm;injection a with a;subst a;cases F;exact⟨i,(I _ A).mh P,fun j c l=>by simp at l⟩;intro _ _ b a;obtain⟨m,e,mo,sz,xs,hm,d,M⟩:=a;exact H.y5 p i d M);rw[hG] at Z;have ID:∀m,bj h n (some (bf.box [])) m≠none->h m≠none:=fun m hm=>(by by_cases f:m=n;subst f;exact p;rwa[dZ _ _ _ _ f] at hm);have t:HR B E w' ⟨fun b=>G.Im b\/S b,G.g⟩ (bj h n (some (.box []))) used []:=Z.wx S (fun b a=>(z b a).2.1) (fun b a q r hl T=>by have:=(z b a).1;have:=(H.own q (ID q r) hl).2.2;omega) (fun b a q e sz xs r hF=>by by_cases Y:q=n;subst Y;rw[dD] at r;cases r;rw[dZ _ _ _ _ Y] at r;have:=(z b a).1;have:=H.tG r hF;omega) (fun b a=>.inl (z b a).2.2);have C:bj h n (some (bf.box [])) n=some (.box []):=dD _ _ _;have v:bj h n (some (bf.box [])) n≠none:=(by rw[C];simp);have s:bj (bj h n (some (bf.box []))) n (some (.box (ps.map fun pc=>ar.c pc.er)))=bj h n (some (.box (ps.map fun pc=>ar.c pc.er))):=(by funext m;simp only[nt];split<;>rfl);have u:(⟨fun b=>G.Im b\/S b,bj G.g n (G.g n)⟩:Gh)=⟨fun b=>G.Im b\/S b,G.g⟩:=(by rw[NF]);have V:cD w' ⟨fun b=>G.Im b\/S b,G.g⟩ (bj h n (some (bf.box []))) (fun n=>used n=true) w' ⟨fun b=>G.Im b\/S b,G.g⟩ (bj h n (some (.box (ps.map fun pc=>ar.c pc.er)))):=(by refine⟨fun _ h=>h,fun _ _ _=>rfl,fun m hm d=>?_,fun m e sz xs hm d=>?_⟩;refine⟨?_,rfl,rfl,rfl,rfl,rfl⟩;by_cases f:m=n;subst f;exact v;rw[dZ _ _ _ _ f] at d⊢;exact d;by_cases f:m=n;subst f;rw[dD] at d;cases d;rw[dZ _ _ _ _ f] at d;exact⟨⟨e,xs,by rw[dZ _ _ _ _ f];exact d⟩,fun k j pc D N=>⟨pc,D,rfl,N⟩⟩);have U:HR B E w' ⟨fun b=>G.Im b\/S b,bj G.g n (G.g n)⟩ (bj (bj h n (some (bf.box []))) n (some (.box (ps.map fun pc=>ar.c pc.er)))) used []:=(by refine t.put (w':=w') (fun _ _ _=>rfl) (Pd _) (fun _ _ J=>J) (fun _ h=>h) X (fun _=>⟨fun hi=>(t.own n v i).1 hi,Q,zag A L⟩) (fun _ m hm d K=>t.inj m n d v hm K i) (fun _ m e sz xs hm d b a=>t.live m e sz xs d b a n v i) ?_ (by rw[u,s];exact V) ?_ (fun e m sz xs a=>by cases a) (fun e sz xs a=>by cases a) (fun e m sz xs a=>by cases a) ?_;intro y c m a F hm;injection a with a;subst a;obtain⟨pc,_,rfl⟩:=BY.1 F;exact absurd hm id;refine⟨i,(I _ A).mh P,fun j c l=>?_⟩;rw[AN] at l;(cases hp:ps[j]? with|none=>rw[hp] at l;cases l|some pc=>rw[hp] at l;simp at l;subst l;obtain⟨g1,g2⟩:=iK pc (wt hp);exact⟨pc.val,eN j pc hp,PC.mU pc,pc,rfl,rfl,g1,g2⟩);intro _ _ b a;obtain⟨m,e,mo,sz,xs,hm,d,M⟩:=a;exact t.y5 v i d M);rw[u,s] at U;have K1:cD w G h (fun n=>used n=true) w' ⟨fun b=>G.Im b\/S b,G.g⟩ (bj h n (some (bf.box []))):=cD.trans (fun _ h=>h) (O []) (cD.wx S _);exact⟨U,cD.trans (fun _ h=>h) K1 V⟩
theorem Yq {σ1:St} {ns:List Nat} {out:List C} (hx:σ.zR ns out=some σ1):(ns=[]/\out=[]/\σ1=σ)\/∃n cs,ns=[n]/\σ.h n=some (.box cs)/\cs.length=out.length/\σ1=σ.gu n (.box (out.map .c)):=by unfold St.zR at hx;split at hx;injection hx with hx;exact .inl ⟨rfl,rfl,hx.symm⟩;rename_i n;split at hx;rename_i cs hn;split at hx;rename_i hl;injection hx with hx;exact .inr ⟨n,cs,rfl,hn,hl,hx.symm⟩;cases hx;cases hx;cases hx
theorem abr {pas:List PA} {p:PA} (a:p∈pas) (b:p.k=.ptr):p∈q9 pas:=zaP.2 ⟨a,by simp[b]⟩
theorem abt:∀{pas:List PA},(q9 pas).length<=1->∀{i j:Nat} {p q:PA},pas[i]? =some p->pas[j]? =some q->p.k=.ptr->q.k=.ptr->i=j
 |[],_,i,_,_,_,hi,_,_,_=>by simp at hi
 |x::pas,hl,i,j,p,q,hi,hj,hp,hq=>by by_cases hx:x.k=.ptr;have b:(q9 pas).length=0:=(by simp[q9,hx] at hl⊢;exact hl);have a:∀y∈pas,y.k≠ .ptr:=fun y hy c=>(by have:=abr hy c;rw[zaH.1 b] at this;cases this);(cases i with|zero=>(cases j with|zero=>rfl|succ j=>exact absurd hq (a q (wt (by simpa using hj))))|succ i=>exact absurd hp (a p (wt (by simpa using hi))));have d:(q9 pas).length<=1:=(by simpa[q9,hx] using hl);cases i with|zero=>simp at hi;subst hi;exact absurd hp hx|succ i=>cases j with|zero=>simp at hj;subst hj;exact absurd hq hx|succ j=>exact congrArg (·+1) (abt d (by simpa using hi) (by simpa using hj) hp hq)
theorem Ux:∀{f:List PA} {d:List (Bool×List ar)},mG (f.map fun p=>(p.k,p.ps.map PC.er))=some d->d=f.map (fun p=>(decide (p.k=.agg),p.ps.map fun pc=>ar.c pc.er))/\∀p∈f,p.k≠ .ptr
 |[],d,h=>by simp only[List.map_nil,mG] at h;injection h with h;exact⟨h.symm,by simp⟩
 |⟨k,ps,b,o⟩::f,d,h=>by cases k with|ptr=>simp[mG] at h|one=>simp only[za2,mG] at h;split at h;rename_i j e;injection h with h;obtain⟨g,i⟩:=Ux e;refine⟨by rw[<-h,g,zaj];rfl,fun p a=>?_⟩;(cases a with|head=>simp|tail _ a=>exact i p a);cases h|agg=>simp only[za2,mG] at h;split at h;rename_i j e;injection h with h;obtain⟨g,i⟩:=Ux e;refine⟨by rw[<-h,g,zaj];rfl,fun p a=>?_⟩;(cases a with|head=>simp|tail _ a=>exact i p a);cases h
theorem azq {e:List (Bool×List ar)} {a:List PA} (d:e.length=a.length)
  (g:∀(j:Nat) (x:Bool×List ar) (p:PA),e[j]? =some x->a[j]? =some p->RV w G h x.1 x.2 (F5 p)):RA w G h (rH e) (F6 a):=by
 match e,a,d with
 |[],[],_=>exact⟨[],rfl,rfl,by simp⟩
 |[(ag,cs)],[p],_=>
  have f:=g 0 (ag,cs) p rfl rfl;cases ag with
  |true=>exact f
  |false=>
   have k:eJ w G h cs [F5 p]:=f;match cs,k.1 with
   |[c],_=>exact .inr f
 |x::y::e,p::q::a,hl=>
  refine⟨(p::q::a).map F5,rfl,by simpa using hl.symm,fun j x' u l b=>?_⟩;rw[AN] at b;cases hp:(p::q::a)[j]? with
  |none=>rw[hp] at b;cases b
  |some i=>rw[hp] at b;simp at b;subst b;exact g j x' i l hp
theorem aoA (r:R B E w0 N σ a w G) {T:bL} (hT:Hh P T) {f:FuncId} {as:List aE} {vals:List Value} {σ1:St} (hN:∀n,o.dst=some n->n<N)
  (de:(execOp a.eval o).run P w=.ok (.enter f vals.toArray) w) (hl:vals.length=as.length)
  (t5:∀(j:Nat) (x:aE) (v:Value),as[j]? =some x->vals[j]? =some v->RA w G σ.h x v) (Ws:∀x∈as,∀m,x.ref m->σ.used m=true)
  (hx:xy T o.dst f as σ=some σ1):o.wp P a w (Nx B E w0 N σ1) Q:=by
 unfold xy at hx;split at hx
 ·rename_i ds ns I M VA hM;split at hx
  ·rename_i rs out y8;split at hx
   ·rename_i A t8;obtain⟨Im',pas,b1,b2,b3,b4,b5,b6,F,b8,b9,qf⟩:=r.hr.mB VA hl t5 Ws;have hns:ns.length<=1:=by
     rcases Yq t8 with⟨t,_⟩|⟨n,cs,t,_⟩<;>rw[t]<;>simp
    have t6:∀p∈pas,p.k=.ptr->∃n,ns=[n]/\aaa G I.h p n:=by
     intro p l C;obtain⟨i,D⟩:=IS (abr l C);have cF:i<ns.length:=by rw[<-b5];exact(AI.1 D).1
     have hn:ns[i]? =some ns[i]:=AT cF;have h0:i=0:=by omega
     subst h0;refine⟨_,?_,b6 0 p _ D hn⟩;match ns,cF,hns with
     |[n],_,_=>rfl
    have va:TN w ds vals pas:=by
     refine⟨b2,b1,b3,fun p l C=>?_,fun i j p q D s l y=>abt (by omega) D s l y⟩;obtain⟨n,_,cs,hn,e1,e2,e3⟩:=t6 p l C;obtain⟨nl,un,_⟩:=F.box n cs hn;have ho:=F.own n (by rw[hn];simp) nl;rw[e1];exact⟨un,fun q y pc z d=>ho.1 (b4 q y pc z _ d)⟩
    unfold Oper.wp;rw[de];refine(hT f M hM ds rs out y8 w vals pas va).mono fun e w' ⟨O,qs,p1,p2,p3,p4⟩=>?_;subst p2;have Y:∀b,Hi w pas b->Im' b\/w.heap.size<=b:=fun b d=>by
     rcases d with d|⟨q,y,pc,z,d⟩
     ·exact .inr d
     ·exact .inl (b4 q y pc z b d)
    let S:Nat->Prop:=fun b=>w.heap.size<=b/\((∃p∈O,∃pc∈p.ps,bP b pc)\/∃pc∈qs,bP b pc);have hB:=r.fr.size;have W:∀b,S b->w.heap.size<=b/\b<w'.heap.size/\B<=b:=fun b ⟨t,H⟩=>by
     refine⟨t,?_,zas hB t⟩;rcases H with⟨p,l,pc,z,d⟩|⟨pc,z,d⟩
     ·exact(p4.fF p l pc z).1.lt d
     ·exact(p4.out pc z).1.lt d
    have V:∀p∈O,∀pc∈p.ps,Good w' pc/\∀b,bP b pc->Im' b\/S b:=fun p l pc z=>by
     obtain⟨J,K⟩:=p4.fF p l pc z;exact⟨J,fun b d=>(Y b (K b d)).imp id fun t=>⟨t,.inl ⟨p,l,pc,z,d⟩⟩⟩
    have aqG:∀pc∈qs,Good w' pc/\∀b,bP b pc->Im' b\/S b:=fun pc z=>by
     obtain⟨J,K⟩:=p4.out pc z;exact⟨J,fun b d=>(Y b (K b d)).imp id fun t=>⟨t,.inr ⟨pc,z,d⟩⟩⟩
    have aAR:HR B E w' ⟨fun b=>Im' b\/S b,G.g⟩ A.h A.used []/\cD w ⟨Im',G.g⟩ I.h (fun n=>I.used n=true) w' ⟨fun b=>Im' b\/S b,G.g⟩ A.h/\A.env=I.env/\A.used=I.used/\Fr B E w0 w':=by
     rcases Yq t8 with⟨t,H,U⟩|⟨n,cs,t,H,U,h4⟩
     ·subst U;have dU:∀p∈pas,p.k≠ .ptr:=fun p l C=>by
       obtain⟨n,e,_⟩:=t6 p l C;rw[t] at e;cases e
      have L:∀b,b<w.heap.size->w'.heap[b]? =w.heap[b]? :=fun b d=>p4.fr.block b d (fun⟨p,l,C,_⟩=>dU p l C);have Hg:=F.grow L p4.fr.size;refine⟨Hg.wx S (fun b d=>(W b d).2.1) (fun b d q y hl he=>by have:=(W b d).1;have:=(F.own q y hl).2.2;omega)
       (fun b d q gr sz xs y hF=>by have:=(W b d).1;have:=F.tG y hF;omega) (fun b d=>.inl (W b d).2.2),
       cD.trans (fun _ h=>h) (cD.world (fun b d=>L b (F.jN b d)) _) (cD.wx S _),rfl,rfl,r.fr.grow L p4.fr.size p4.fr.os p4.fr.tape p4.fr.output⟩
     ·subst h4;obtain⟨p,l,C⟩:∃p∈pas,p.k=.ptr:=by
       have Z:(q9 pas).length=1:=by rw[b5,t];rfl
       match hc:q9 pas,Z with
       |[p],_=>
        have hm:p∈q9 pas:=by rw[hc];simp
        have:=zaP.1 hm;exact⟨p,this.1,by simpa using this.2⟩
      obtain⟨n',e0,cs',cT,e1,e2,e3⟩:=t6 p l C;rw[t] at e0;injection e0 with e0;subst e0;have PK:∀q∈pas,q.k=.ptr->q=p:=fun q y V3=>by
       obtain⟨i,D⟩:=IS y;obtain⟨j,s⟩:=IS l;have:=va.one i j q p D s V3 C;subst this;rw[D] at s;injection s
      have ho:=F.own n (by rw[H];simp) (F.box n cs H).1;have L:∀b,b<w.heap.size->b≠(G.g n).b->w'.heap[b]? =w.heap[b]? :=fun b d bk=>p4.fr.block b d (fun⟨q,y,V3,hbq⟩=>by
       rw[PK q y V3,e1] at hbq;exact bk hbq)
      have mI:∀b,b<w.heap.size->Cz w w' b:=fun b d=>p4.fr.mh b d;obtain⟨Hb,Kb⟩:=F.ane (cs':=out.map .c) H p4.fr.size L mI W (ps:=qs) (by rw[<-p3,zaj];rfl) (fun j c s=>by
       have:=p4.at_ p l C j c s;rw[e1,e2] at this;exact this) aqG
      exact⟨Hb,Kb,rfl,rfl,r.fr.one ho.2.1 L p4.fr.size (mI _ ho.2.2) p4.fr.os p4.fr.tape p4.fr.output⟩
    obtain⟨X,K2,v1,v2,A7⟩:=aAR;have K0:cD w G σ.h (fun n=>σ.used n=true) w' ⟨fun b=>Im' b\/S b,G.g⟩ A.h:=cD.trans (fun n hn=>by rw[qf];exact hn) b8 K2;have r2:R B E w0 N A a w' ⟨fun b=>Im' b\/S b,G.g⟩:=r.step (v1.trans b9) (fun m hm=>by rw[v2,qf];exact hm) K0 X A7;have OG:∀{ls:List (Bool×List ar)},mG rs=some ls->σ1=A.put o.dst (rH ls)->(match(Ending.returned (F6 O)) with|.returned v=>Nx B E w0 N σ1 (a.put o.dst v) w'|_=>True):=by
     intro ls s6 hs;subst hs;rw[<-p1] at s6;obtain⟨rfl,LK⟩:=Ux s6;refine⟨_,r2.put (azq (by simp) (fun j x p s l=>?_)) (fun q y=>?_) hN⟩
     ·rw[AN,l] at s;simp at s;subst s;have hm:=wt l;have dT:eJ w' ⟨fun b=>Im' b\/S b,G.g⟩ A.h (p.ps.map fun pc=>ar.c pc.er) (p.ps.map PC.val):=by
       refine⟨by simp,fun j c u s hu=>?_⟩;rw[AN] at s hu;cases lU:p.ps[j]? with
       |none=>rw[lU] at s;cases s
       |some pc=>
        rw[lU] at s hu;simp at s hu;subst s hu;obtain⟨J,K⟩:=V p hm pc (wt lU);exact⟨PC.mU pc,pc,rfl,rfl,J,K⟩
      have Fe:=p4.one p hm;have LH:=LK p hm;obtain⟨k,ps,b,o'⟩:=p;cases k with
      |ptr=>exact absurd rfl LH
      |agg=>exact⟨ps.map PC.val,rfl,dT⟩
      |one=>
       have H:=Fe rfl;match ps,H with
       |[p],_=>exact dT
     ·exfalso;refine ai2 (fun x hx c hc y=>?_) y;obtain⟨p,_,rfl⟩:=BY.1 hx;obtain⟨pc,_,rfl⟩:=BY.1 hc;exact y
    unfold yQ at hx;split at hx
    ·rename_i cs;split at hx
     ·rename_i q y;split at hx
      ·rename_i τ3 aq9;injection hx with hx;subst hx;obtain⟨u1,rfl⟩:=ui aq9;obtain⟨p,rfl⟩:∃p,O=[p]:=by
        have t:O.length=1:=by have:=congrArg zbg p1;simpa using this
        exact zaJ.1 t
       simp at p1;obtain⟨C,jf⟩:=p1;obtain⟨_,q1,q2,q3,q4,q5⟩:=p4.ptr p (by simp) C;subst jf;have aei:uK ⟨fun b=>Im' b\/S b,G.g⟩ A.h p.b:=by
        refine⟨fun D=>?_,fun m hm hl he=>?_,fun m gr mo sz xs hm hF=>?_⟩
        ·rcases D with D|⟨_,D⟩
         ·have:=F.jN _ D;omega
         ·rcases D with⟨p',dt,pc,z,d⟩|⟨pc,z,d⟩
          ·simp at dt;subst dt;exact q4 pc z d
          ·exact q5 pc z d
        ·have hd:=X.lP m hm;obtain⟨k0,k1,k2,_⟩:=K2.name m (by rw[<-v2];exact hd) hm;have gR:(G.g m).nl=false:=hl;have:=(F.own m k0 gR).2.2;have It:(G.g m).b=p.b:=he;have h7:(⟨Im',G.g⟩:Gh).g m=G.g m:=rfl;rw[h7] at this;omega
        ·have hd:=X.lP m (by rw[hm];simp);have gd:∃cv pi bw aP,I.h m=some (.row cv pi bw aP):=by
          rcases Yq t8 with⟨t,H,U⟩|⟨n,cs,t,H,U,h4⟩
          ·subst U;exact⟨_,_,_,_,hm⟩
          ·subst h4;by_cases cL:m=n
           ·subst cL;have:bj I.h m (some (bf.box (out.map ar.c))) m=_:=hm;rw[dD] at this;cases this
           ·have:bj I.h n (some (bf.box (out.map ar.c))) m=_:=hm;rw[dZ _ _ _ _ cL] at this;exact⟨_,_,_,_,this⟩
         obtain⟨cv,pi,bw,aP,cU⟩:=gd;have hF':bY p.b (G.g m).px:=hF;have:=F.tG cU hF';omega
       have Hn:HR B E w' ⟨fun b=>Im' b\/S b,bj G.g q ⟨false,p.b,p.o,0,[],none⟩⟩ (bj A.h q (some (.box ((p.ps.map PC.er).map .c)))) (bj A.used q true) []:=by
        refine X.insert (w':=w') u1 (fun _ _=>rfl) (Pd _) (fun _=>⟨aei,.inl (zas hB q1),q2.lt⟩) (fun cs' c m d eQ hm=>?_) ⟨rfl,q2,fun j c s=>?_⟩ (fun gr m sz xs d=>by cases d) (fun gr sz xs d=>by cases d) (fun gr m sz xs d=>by cases d)
        ·injection d with d;subst d;obtain⟨x,_,rfl⟩:=BY.1 eQ;exact absurd hm id
        ·rw[AN,AN] at s;cases l:p.ps[j]? with
         |none=>rw[l] at s;cases s
         |some pc=>
          rw[l] at s;simp at s;subst s;obtain⟨J,K⟩:=V p (by simp) pc (wt l);exact⟨pc.val,q3 j pc l,PC.mU pc,pc,rfl,rfl,J,K⟩
       have r3:=r2.step (σ':={A with h:=bj A.h q (some (.box ((p.ps.map PC.er).map .c))),used:=bj A.used q true}) rfl (fun m hm=>Ac q m hm) (cD.insert X u1 (fun _ _=>rfl)) Hn A7
       have hv:F6 [p]=.pointer (some (ad p.b p.o)):=by
        obtain⟨k,ps,b,o'⟩:=p;simp only at C;subst C;rfl
       rw[hv];exact⟨_,r3.put (RA.iR (c:=.ptr q 0 0 0) rfl (show bj A.h q _ q≠none->(bj G.g q _ q).nl=false/\_=_ from fun _=>by simp[dD])) (fun m hm=>by have cU:m=q:=hm;subst cU;exact dD _ _ _) hN⟩
      ·cases hx
     ·cases hx
    ·split at hx
     ·rename_i ls s6;injection hx with hx;exact OG s6 hx.symm
     ·cases hx
   ·cases hx
  ·cases hx
 ·cases hx
theorem abY (r:R B E w0 N σ a w G) {T:bL} (p:Hh P T) {f:FuncId} {xs:Array Operand} {b:List MO} {ts:Array TypeId} {σ1:St} (i:∀n,o.dst=some n->n<N) (e:o.op=.call {callee:=.value (.func f),args:=xs,argTypes:=ts}) (l:cg P f=true) (hm:kR xs.toList b=true) (hx:xy T o.dst f (b.map σ.ev) σ=some σ1):o.wp P a w (Nx B E w0 N σ1) Q:=by obtain⟨d,q⟩:=r.EV hm;have j:∀x∈b.map σ.ev,∀m,x.ref m->σ.used m=true:=(by have h:∀{xs:List Operand} {b:List MO},kR xs b=true->∀x∈b.map σ.ev,∀m,x.ref m->σ.used m=true:=(by intro xs b;induction b generalizing xs with|nil=>intro _ x hx;simp at hx|cons m0 b g=>intro c x hx m hm;cases xs with|nil=>simp[kR] at c|cons y ys=>simp only[kR,co] at c;simp only[za2,zaG] at hx;rcases hx with rfl|hx;exact(r.ev c.1).2 m hm;exact g c.2 x hx m hm);exact h hm);refine aoA r p (vals:=xs.toList.map a.eval) i ?_ (by simpa using d) q j hx;have k:(xs.toList.map a.eval).toArray=xs.map a.eval:=(by apply zab;simp);rw[k];simp[execOp,e,resolve,Deferred.ofValue,invoke,Act.eval,JH l]
end
def Hj (P:Program) (f:FuncId) (sig:cX) (M:List Dv->Option (Nat×Nat)):Prop:=
 ∀ds lo len,M ds=some (lo,len)->∀(w:World) (vals:List Value) (pas:List PA),Cs w sig ds vals pas->Calls P f vals.toArray w fun e w'=>
  ∃(m:Mode) (sz cap:Nat) (a:Option Addr) (xs:List (List PC)) (v:Value),fq sig (pas.map (·.ps))=[(m,.list sz a cap xs)]/\e=.returned v/\xs≠[]/\
   (∃(b o:Nat) (a':Option Addr),a=some (ad b o)/\v=.slice a' len (cap - lo)/\lo+len<=cap/\((lo<cap\/lo=0)->a'=some (ad b (o+lo*sz))))/\
   Fr w.heap.size (CL [(m,.list sz a cap xs)]) w w'/\∃q:PC,q.er=(PC.list sz a cap xs).er/\uL w' m (.list sz a cap xs) q
def EB (P:Program) (f:FuncId) (i:Nat) (M:List Dv->Option (List Dv×List C)):Prop:=
 ∀(lo len:Nat) (ds rs:List Dv) (fm:List C) (ys:List (List C)),M (dI lo::dI (lo+len)::ds)=some (rs,fm)->ds[i]? =some (.one,[.list 1 ys])->∀(w:World) (vals:List Value) (pas:List PA),Cs w (oL i) ds vals pas->
  ∀(b o cap n:Nat) (a':Option Addr),vals[i]? =some (.slice (some (ad b o)) n cap)->0<n->lo+len<=n->((lo<cap\/lo=0)->a'=some (ad b (o+lo*1)))->
  Calls P f (vals.set i (.slice a' len (cap - lo))).toArray w (N7 w (oL i) pas rs fm)
def Cw (P:Program) (T:bL):Prop:=(∀f sig M,bL.xC T.ws f=some (sig,M)->Hj P f sig M)/\∀f i M,bL.xD T.xs f=some (i,M)->EB P f i M
section
variable {B:Nat} {E:Ex} {w0 w w':World} {G G':Gh} {N:Nat} {h h':Nat->Option bf} {used used':Nat->Bool} {tk:List PC}
variable {P:Program} {o:Oper} {a:Act} {σ σ':St} {Q:Exit->Act->World->Prop}
theorem aoD (r:R B E w0 N σ a w G) {T:bL} (hT:Cw P T) {f:FuncId} {as:List aE} {vals:List Value} {v0:aE} (hN:∀n,o.dst=some n->n<N)
  (de:(execOp a.eval o).run P w=.ok (.enter f vals.toArray) w) (hl:vals.length=as.length)
  (t5:∀(j:Nat) (x:aE) (v:Value),as[j]? =some x->vals[j]? =some v->RA w G σ.h x v)
  (hx:uU T f as σ.h=some v0):o.wp P a w (Nx B E w0 N (σ.put o.dst v0)) Q:=by
 have H:=r.hr;unfold uU at hx;split at hx
 ·rename_i sig M fW hM VI;split at hx
  ·rename_i n0 aBI;split at hx
   ·rename_i ds n A hv;split at hx
    ·rename_i F;subst F;split at hx
     ·rename_i gr O sz xs lo len l y8;injection hx with hx;subst hx;obtain⟨xL,Vw⟩:=XH VI hl t5;obtain⟨pas,q1,q2,q3,q4,q5,q6,q7⟩:=H.qI hv xL Vw;have zi:([((fe.row n:fe),A)].filterMap (·.1.gh)).Nodup:=by simp[fe.gh]
      generalize zb:fq sig (pas.map (·.ps))=fl at q5;obtain⟨x,rfl⟩:∃x,fl=[x]:=by
       match fl,q5.len with
       |[x],_=>exact⟨x,rfl⟩
      obtain⟨Pz,wi⟩:=q5.at_ 0 _ x rfl rfl;have eN:=wi.at_;obtain⟨cv,pi,bw,aP,L,e2,e3,J,e5⟩:=eN;rw[l] at L;injection L with L;injection L with a1 a2 a3 a4;subst a1 a2 a3 a4;have X:σ.h n≠none:=by rw[l];simp
      have hr:=H.row n gr O sz xs l;have oS:∀b,bP b x.2->xE G n b/\((∀b,¬bY b (G.g n).px)\/O=.live):=by
       intro b c;obtain⟨n',cv,m',bw,aP,Z,t,f3,U,u⟩:=wi.rS H c;have:n'=n:=by injection Z with Z;exact Z.symm
       subst this;rw[l] at t;injection t with t;injection t with _ t _ _;subst t;exact⟨U,u⟩
      have XL:Cs w sig ds vals pas:=by
       refine⟨q2,q1,q3,fun y hy=>?_,?_,fun pc cA y hy b c bD=>?_,fun p Y d=>absurd d (q4 p Y),fun i p s Y _ d=>absurd d (q4 p (wt Y))⟩
       ·rw[zb,zar] at hy;subst hy;exact wi.ok
       ·rw[zb];simp
       ·rw[zb,zar] at hy;subst hy;obtain⟨U,u⟩:=oS b bD;rcases q7 pc cA b c with hi|⟨n',cv,m',bw,aP,cT,rN,AG⟩
        ·rcases U with⟨z,rfl⟩|D
         ·exact(H.own n X z).1 hi
         ·rcases u with u|rfl
          ·exact u b D
          ·exact(hr.mode.1 b D).1 hi
        ·have bk:n'≠n:=fun e=>cT (by rw[e];simp);exact H.Lr bk rN l u AG U
      unfold Oper.wp;rw[de];refine(hT.1 f sig M hM ds lo len y8 w vals pas XL).mono fun e w' ⟨m1,uE,uS,W,xc,v,p1,p2,p3,⟨lb,lo1,la,l1,l2,l3,l4⟩,p4,q,p5,I⟩=>?_;subst p2;rw[zb] at p1;injection p1 with p1 _;subst p1;dsimp only at J;have wg:∀b,CL [(m1,PC.list uE W uS xc)] b->(B<=b\/E b):=by
       rintro b ⟨y,hy,c⟩;rw[zar] at hy;subst hy;rcases(oS b c).1 with⟨z,rfl⟩|D
       ·exact(H.own n X z).2.1
       ·have jI:=hr.mode;cases O with
        |bn=>exact absurd rfl e2
        |bq=>exact(jI.1 b D).2.2
        |live=>exact(jI.1 b D).2.2
      have C:(y7 G [((fe.row n:fe),A)] [q]).g n=DK (G.g n) (.row n) q:=adX zi (i:=0) (it:=(.row n,A)) rfl rfl rfl;have V:q.er=.list sz xs:=by rw[p5,J];exact ai7 hr
      have p6':=I;rw[J] at I;obtain⟨xj,K,_⟩:=H.MF (G':=y7 G [((fe.row n:fe),A)] [q]) (h':=σ.h) (w':=w') (S:=fun k=>k=n) p4.size (fun b c dU=>p4.block b c (by
        rintro⟨y,hy,rY⟩;rw[zar] at hy;subst hy;exact dU n rfl (oS b rY).1)) (fun b c=>p4.mh b c) rfl (fun k d=>by
        subst d;exact⟨gr,O,sz,xs,xs,l,l,by rw[C];exact aba H l e2 e3 e5.1 e5.2 I V⟩)
       (fun k d=>⟨rfl,adY (by simp[fe.gh];exact d)⟩)
      have A7:Fr B E w0 w':=by
       refine⟨p4.os.trans r.fr.os,p4.tape.trans r.fr.tape,p4.output.trans r.fr.output,zas r.fr.size p4.size,fun b c F=>?_,fun b c=>?_⟩
       ·refine(p4.block b (zag c r.fr.size) fun hx=>?_).trans (r.fr.block b c F);rcases wg b hx with h1|h1
        ·omega
        ·exact F h1
       ·exact(r.fr.mh b c).trans (p4.mh b (zag c r.fr.size))
      have r2:R B E w0 N σ a w' (y7 G [((fe.row n:fe),A)] [q]):=r.step rfl (fun _ h=>h) K xj A7;refine⟨_,r2.put (RA.iR ?_ ?_) (fun k d=>?_) hN⟩
      ·rw[l2];rfl
      ·show σ.h n≠none->lL _ sz lo len v;intro _;have hq:PC.list uE W uS xc=tH sz (G.g n):=J;unfold tH at hq;injection hq with g1 m g3 g4;subst g1 g3 g4;have z:(G.g n).nl=false:=by
        cases h0:(G.g n).nl with
        |false=>rfl
        |true=>exact absurd (hr.nl h0).1 p3
       rw[z] at m;have m:W=some (ad (G.g n).b (G.g n).o):=m;rw[l1] at m;injection m with m;obtain⟨rfl,rfl⟩:=pF m;obtain⟨qN,ad2,yS,px2,rfl⟩:=PC.Xw I.val rfl;rw[C];exact .inr ⟨z,la,l2,l3,l4⟩
      ·have cI:k=n:=d;subst cI;exact r.hr.lP k X
     ·cases hx
    ·cases hx
   ·cases hx
  ·cases hx
 ·cases hx
theorem aow (r:R B E w0 N σ a w G) {T:bL} (d:Cw P T) {f:FuncId} {xs:Array Operand} {b:List MO} {ts:Array TypeId} {c:aE} (k:∀n,o.dst=some n->n<N) (i:o.op=.call {callee:=.value (.func f),args:=xs,argTypes:=ts}) (l:cg P f=true) (hm:kR xs.toList b=true) (hx:uU T f (b.map σ.ev) σ.h=some c):o.wp P a w (Nx B E w0 N (σ.put o.dst c)) Q:=by obtain⟨g,j⟩:=r.EV hm;refine aoD r d (vals:=xs.toList.map a.eval) k ?_ (by simpa using g) j hx;have e:(xs.toList.map a.eval).toArray=xs.map a.eval:=(by apply zab;simp);rw[e];simp[execOp,i,resolve,Deferred.ofValue,invoke,Act.eval,JH l]
theorem aBt {h:Nat->Option bf} {x:aE} {n lo len N:Nat} (hx:Km h x=some (n,lo,len,N)):x=.one (.sl n 1 lo len)/\∃c m xs,h n=some (.row c m 1 xs)/\N=xs.length/\lo<N/\lo+len<=N:=by unfold Km at hx;split at hx;rename_i n' s Qr MA;split at hx;rename_i c m rs xs hn;split at hx;rename_i f;obtain⟨rfl,rfl,e,g⟩:=f;injection hx with hx;injection hx with d a;injection a with a b;injection b with b e4;subst d a b e4;exact⟨rfl,c,m,xs,hn,rfl,e,g⟩;cases hx;cases hx;cases hx
theorem aoE (r:R B E w0 N σ a w G) {T:bL} (hT:Cw P T) {m:Mode} {f:FuncId} {as:List aE} {vals:List Value} {σ1:St} (J:∀n,o.dst=some n->n<N) (U:(execOp a.eval o).run P w=.ok (.enter f vals.toArray) w) (hl:vals.length=as.length) (s:∀(j:Nat) (x:aE) (v:Value),as[j]? =some x->vals[j]? =some v->RA w G σ.h x v) (hx:AF T m o.dst f as σ=some σ1):o.wp P a w (Nx B E w0 N σ1) Q:=by have H:=r.hr;unfold AF at hx;split at hx;rename_i i M C;split at hx;rename_i x y;split at hx;rename_i n lo len L Z;obtain⟨rfl,K,md,xs,hn,rfl,oU,D⟩:=aBt Z;have O:i<as.length:=(AI.1 y).1;have l:i<vals.length:=(by omega);have V:vals[i]? =some vals[i]:=AT l;have S:=s i _ _ y V;have lB:lL (G.g n) 1 lo len vals[i]:=(S.jR (by simp)).1 (by rw[hn];simp);have hr:=H.row n K md 1 xs hn;have z:(G.g n).px.length=xs.length:=(by rw[hr.er];simp);have p:(G.g n).nl=false:=(by cases k:(G.g n).nl with|false=>rfl|true=>have:=(hr.nl k).1;rw[this] at z;simp at z;omega);obtain⟨l1,l2,l3⟩:=hr.f0 p;rcases lB with⟨k,_⟩|⟨_,ya,q,kJ,W⟩;rw[p] at k;cases k;refine abZ r (as:=as.set i (.one (.sl n 1 0 xs.length))) (vals:=vals.set i (.slice (some (ad (G.g n).b (G.g n).o)) xs.length (G.g n).cap)) (vals':=vals) (fun sig I t ds rs X h pas hm=>?_) J U (by simp[hl]) (fun j x v c d=>?_) hx;have Y:(oL i,xM i lo (lo+len) M)=(sig,I):=(by simp only[bL.tZ,if_true] at t;injection t);injection Y with F q2;subst F q2;unfold xM at h;split at h;rename_i ys A;have:=hT.2 f i M C lo len ds rs X ys h A w _ pas hm (G.g n).b (G.g n).o (G.g n).cap xs.length ya (by rw[Pe l]) (by omega) D W;have e:(vals.set i (.slice (some (ad (G.g n).b (G.g n).o)) xs.length (G.g n).cap)).set i (.slice ya len ((G.g n).cap - lo))=vals:=(by rw[List.set_set,<-q];exact List.set_getElem_self l);rw[e] at this;exact this;cases h;by_cases u:j=i;subst u;rw[Pe O] at c;rw[Pe l] at d;injection c with c;injection d with d;subst c d;refine RA.iR rfl (fun _=>.inr ⟨p,_,rfl,by omega,fun _=>by simp⟩);rw[zap (fun h=>u h.symm)] at c d;exact s j x v c d;cases hx;cases hx;cases hx
theorem aox (r:R B E w0 N σ a w G) {T:bL} (d:Cw P T) {m:Mode} {f:FuncId} {xs:Array Operand} {b:List MO} {ts:Array TypeId} {σ1:St} (i:∀n,o.dst=some n->n<N) (h:o.op=.call {callee:=.value (.func f),args:=xs,argTypes:=ts}) (j:cg P f=true) (hm:kR xs.toList b=true) (hx:AF T m o.dst f (b.map σ.ev) σ=some σ1):o.wp P a w (Nx B E w0 N σ1) Q:=by obtain⟨g,c⟩:=r.EV hm;refine aoE r d (vals:=xs.toList.map a.eval) i ?_ (by simpa using g) c hx;have e:(xs.toList.map a.eval).toArray=xs.map a.eval:=(by apply zab;simp);rw[e];simp[execOp,h,resolve,Deferred.ofValue,invoke,Act.eval,JH j]
end
def Hz:Option Operand->Option MO->Bool
 |none,none=>true
 |some x,some m=>dC x m
 |_,_=>false
def yU (P:Program) (t:TypeId) (sz:Nat) (k:TypeInfo->Value->Bool):Bool:=
 match P.underlying t with
 |some (.slice e)=>match P.info? e with
  |some i=>match i.zero with
   |some z=>i.size==sz&&decide (0<sz)&&k i z
   |none=>false
  |none=>false
 |_=>false
theorem Ay {P:Program} {t:TypeId} {sz:Nat} {k:TypeInfo->Value->Bool} (h:yU P t sz k=true): ∃e i z,P.underlying t=some (.slice e)/\P.info? e=some i/\i.zero=some z/\i.size=sz/\0<sz/\k i z=true:=by unfold yU at h;split at h;rename_i e a;split at h;rename_i i c;split at h;rename_i z b;simp only[co,beq_iff_eq,decide_eq_true_eq] at h;exact⟨e,i,z,a,c,b,h.1.1,h.1.2,h.2⟩;cases h;cases h;cases h
def Ow (P:Program) (t:TypeId) (zs:List ar):Bool:=
 match P.info? t with
 |some i=>match i.zero with
  |some z=>yT z.cells.toList zs
  |none=>false
 |none=>false
theorem abe {P:Program} {t:TypeId} {a:List ar} (h:Ow P t a=true):∃i z,P.info? t=some i/\i.zero=some z/\yT z.cells.toList a=true:=by unfold Ow at h;split at h;rename_i i c;split at h;rename_i z b;exact⟨i,z,c,b,h⟩;cases h;cases h
def abb (P:Program) (t:TypeId) (parts:List (Nat×Operand)) (zs:List ar) (ms:List (Nat×Nat×MO)):Bool:=
 match P.underlying t with
 |some (.struct CM)=>match CM.toList.mapM (fun f=>(P.info? f.type).map fun i=>(f.offset,i.size)) with
  |some places=>Ow P t zs&&EJ places parts ms
  |none=>false
 |_=>false
def Ov (P:Program) (t:TypeId) (sz:Nat):Bool:=
 match P.info? t with
 |some i=>i.size==sz&&decide (0<sz)
 |none=>false
def ae0 (P:Program) (t:TypeId):Bool:=
 match P.underlying t with
 |some .bool=>true
 |_=>false
def iE (P:Program) (o:Oper) (mo:eB):Bool:=
 match mo,o.op with
 |.mv m,.move x=>dC x m
 |.mv m,.assign x=>dC x m
 |.pick c x y,.pick c' x' y'=>dC c' c&&dC x' x&&dC y' y
 |.alloc zs,.alloc e=>Ow P e zs
 |.box sz m,.box e x=>dC x m
 |.build zs ms,.build t parts=>abb P t parts.toList zs ms
 |.gk sz ms,.buildSlice t len parts=>yU P t sz (fun _ _=>true)&&(ms.length==len)&&decide (parts.toList.map (·.1)=zaU len)&&decide (len*sz<=16777216)&&kR (parts.toList.map (·.2)) ms
 |.Av sz ms,.buildSlice t len parts=>yU P t sz (fun _ _=>true)&&(ms.length==len)&&decide (parts.toList.map (·.1)=zaU len)&&decide (len*sz<=16777216)&&kR (parts.toList.map (·.2)) ms
 |.load ag sz m,.load t x=>dC x m&&Hy P t ag sz
 |.store sz mx my,.store t x y=>o.dst.isNone&&dC x mx&&dC y my&&Ov P t sz
 |.bin op mx my,.binOp DN t x y t'=>decide (op=DN)&&dC x mx&&dC y my
 |.qV op mx my,.binOp DN t x y t'=>decide (op=DN)&&dC x mx&&dC y my&&ae0 P t
 |.un op mx,.unOp DN t x=>decide (op=DN)&&dC x mx
 |.ji m sz by_ zs ml mc,.makeSlice t l c=>dC l ml&&dC c mc&&yU P t sz (fun i z=>(i.bytes==by_)&&decide (0<by_)&&Az z.cells.toList zs)
 |.slice sz mx Qx Qu,.slice t x lo hi none=>dC x mx&&Hz lo Qx&&Hz hi Qu&&yU P t sz (fun _ _=>true)
 |.rQ off mx,.fieldAddr s x f=>dC x mx&&KV P s f off
 |.ru sz mx mi,.indexAddr t x i=>dC x mx&&dC i mi&&yU P t sz (fun _ _=>true)
 |.ext i mx,.extract x j=>(i==j)&&dC x mx
 |.len mx,.call c=>match c.callee,c.args.toList,c.argTypes.toList with
  |.builtin .len,[x],[t]=>dC x mx&&(match P.underlying t with|some (.slice _)=>true|_=>false)
  |_,_,_=>false
 |.append fl sz by_ mx my,.call c=>match c.callee,c.args.toList,c.argTypes.toList with
  |.builtin .append,[x,y],[t,t']=>(t==t')&&dC x mx&&dC y my&&yU P t sz (fun i z=>(i.bytes==by_)&&decide (0<by_)&&(z.cells.size==sz))
  |_,_,_=>false
 |.vR zc mx,.call c=>match c.callee,c.args.toList,c.argTypes.toList with
  |.builtin .clear,[x],[t]=>dC x mx&&yU P t 1 (fun _ z=>Az z.cells.toList [zc])
  |_,_,_=>false
 |.mm b mx my,.call c=>match c.callee,c.args.toList with
  |.builtin .max,[x,y]=>b&&dC x mx&&dC y my
  |.builtin .min,[x,y]=> !b&&dC x mx&&dC y my
  |_,_=>false
 |.call m f ms,.call c=>match c.callee with
  |.value (.func g)=>(f==g)&&cg P f&&kR c.args.toList ms
  |_=>false
 |.qW f ms,.call c=>match c.callee with
  |.value (.func g)=>(f==g)&&cg P f&&kR c.args.toList ms
  |_=>false
 |.kH m f ms,.call c=>match c.callee with
  |.value (.func g)=>(f==g)&&cg P f&&kR c.args.toList ms
  |_=>false
 |.tR f ms,.call c=>match c.callee with
  |.value (.func g)=>(f==g)&&cg P f&&kR c.args.toList ms
  |_=>false
 |.qX f ms,.call c=>match c.callee with
  |.value (.func g)=>(f==g)&&cg P f&&kR c.args.toList ms
  |_=>false
 |.pG f ms,.call c=>match c.callee with
  |.value (.func g)=>(f==g)&&cg P f&&kR c.args.toList ms
  |_=>false
 |.tT m f ms,.call c=>match c.callee with
  |.value (.func g)=>(f==g)&&cg P f&&kR c.args.toList ms
  |_=>false
 |_,_=>false
theorem Ui:∀{xs:List Operand} {a:List MO},kR xs a=true->xs.length=a.length/\∀(j:Nat) (x:Operand) (m:MO),xs[j]? =some x->a[j]? =some m->dC x m=true
 |[],[],_=>⟨rfl,by simp⟩
 |x::xs,m::a,hc=>by simp only[kR,co] at hc;obtain⟨d,c⟩:=Ui hc.2;refine⟨by simp[d],fun j x' e b hm=>?_⟩;cases j with|zero=>simp at b hm;subst b;subst hm;exact hc.1|succ j=>exact c j x' e (by simpa using b) (by simpa using hm)
 |[],_::_,hc=>by simp[kR] at hc
 |_::_,[],hc=>by simp[kR] at hc
section
variable {B:Nat} {E:Ex} {w0 w w':World} {G G':Gh} {h h':Nat->Option bf} {used used':Nat->Bool} {tk:List PC} {N:Nat}
variable {P:Program} {o:Oper} {a:Act} {σ σ':St} {Q:Exit->Act->World->Prop}
theorem aoN (r:R B E w0 N σ a w G) {T:bL} (k:Hh P T) {f:FuncId} {d:List MO} (l:∀n,o.dst=some n->n<N) (b:iE P o (.pG f d)=true) (hx:exec T o.dst (.pG f d) σ=some σ'):o.wp P a w (Nx B E w0 N σ') Q:=by obtain⟨dst,op,ty,pos,after,guard⟩:=o;(cases op<;>simp only[iE] at b<;>first|cases b|skip);rename_i c;obtain⟨callee,args,argTypes⟩:=c;split at b;rename_i g e;simp only at e;subst e;simp only[co,beq_iff_eq] at b;obtain⟨⟨rfl,h⟩,j⟩:=b;simp only[exec] at hx;split at hx;rename_i v0 i;injection hx with hx;subst hx;exact abY r k l rfl h j (an6 i σ);cases hx;cases b
theorem aoO (r:R B E w0 N σ a w G) {T:bL} (k:Cw P T) {f:FuncId} {d:List MO} (l:∀n,o.dst=some n->n<N) (b:iE P o (.qX f d)=true) (hx:exec T o.dst (.qX f d) σ=some σ'):o.wp P a w (Nx B E w0 N σ') Q:=by obtain⟨dst,op,ty,pos,after,guard⟩:=o;(cases op<;>simp only[iE] at b<;>first|cases b|skip);rename_i c;obtain⟨callee,args,argTypes⟩:=c;split at b;rename_i g e;simp only at e;subst e;simp only[co,beq_iff_eq] at b;obtain⟨⟨rfl,h⟩,j⟩:=b;simp only[exec] at hx;split at hx;rename_i v0 i;injection hx with hx;subst hx;exact aow r k l rfl h j i;cases hx;cases b
theorem aoP (r:R B E w0 N σ a w G) {T:bL} (j:Cw P T) {m:Mode} {f:FuncId} {d:List MO} (k:∀n,o.dst=some n->n<N) (b:iE P o (.tT m f d)=true) (hx:exec T o.dst (.tT m f d) σ=some σ'):o.wp P a w (Nx B E w0 N σ') Q:=by obtain⟨dst,op,ty,pos,after,guard⟩:=o;(cases op<;>simp only[iE] at b<;>first|cases b|skip);rename_i c;obtain⟨callee,args,argTypes⟩:=c;split at b;rename_i g e;simp only at e;subst e;simp only[co,beq_iff_eq] at b;obtain⟨⟨rfl,h⟩,i⟩:=b;simp only[exec] at hx;exact aox r j k rfl h i hx;cases b
theorem aoM (r:R B E w0 N σ a w G) {T:bL} (j:Hh P T) {f:FuncId} {d:List MO} (k:∀n,o.dst=some n->n<N) (b:iE P o (.tR f d)=true) (hx:exec T o.dst (.tR f d) σ=some σ'):o.wp P a w (Nx B E w0 N σ') Q:=by obtain⟨dst,op,ty,pos,after,guard⟩:=o;(cases op<;>simp only[iE] at b<;>first|cases b|skip);rename_i c;obtain⟨callee,args,argTypes⟩:=c;split at b;rename_i g e;simp only at e;subst e;simp only[co,beq_iff_eq] at b;obtain⟨⟨rfl,h⟩,i⟩:=b;simp only[exec] at hx;exact abY r j k rfl h i hx;cases b
set_option maxHeartbeats 1000000 in
theorem ab4 (r:R B E w0 N σ a w G) {T:bL} (hT:Hf P T) (hTM:Ob P T) (Ii:Hh P T) (Ij:Cw P T) (hF:∀f M,bL.find T.pure f=some M->cg P f=true) {mo:eB} (F:∀n,o.dst=some n->n<N) (d:iE P o mo=true) (hx:exec T o.dst mo σ=some σ'):
  o.wp P a w (Nx B E w0 N σ') Q:=by
 obtain⟨dst,op,ty,pos,U,guard⟩:=o;cases mo with
 |mv m=>
  simp only[exec] at hx;injection hx with hx;subst hx;cases op<;>simp only[iE] at d<;>first|cases d|skip
  ·exact ab2 r (.inl rfl) F d
  ·exact ab2 r (.inr rfl) F d
 |pick c x y=>
  cases op<;>simp only[iE] at d<;>first|cases d|skip
  rename_i c' x' y';simp only[co] at d;simp only[exec] at hx;split at hx
  ·rename_i b hb;have:=aoQ (P:=P) (Q:=Q) r (o:=⟨dst,.pick c' x' y',ty,pos,U,guard⟩) rfl F d.1.1 d.1.2 d.2 hb;cases b<;>simp at hx<;>subst hx<;>exact this
  ·cases hx
 |alloc zs=>
  cases op<;>simp only[iE] at d<;>first|cases d|skip
  obtain⟨i,z,L,K,S⟩:=abe d;simp only[exec] at hx;split at hx
  ·rename_i n;split at hx
   ·rename_i σ1 J;injection hx with hx;subst hx;exact aol r rfl rfl (F n rfl) L K S J
   ·cases hx
  ·cases hx
 |box sz m=>
  cases op<;>simp only[iE] at d<;>first|cases d|skip
  simp only[exec] at hx;split at hx
  ·rename_i n ag cs jf;split at hx
   ·split at hx
    ·rename_i σ1 J;injection hx with hx;subst hx;exact aoq r rfl rfl (F _ rfl) d jf J
    ·cases hx
   ·cases hx
  ·cases hx
 |build zs ms=>
  cases op<;>simp only[iE] at d<;>first|cases d|skip
  simp only[exec] at hx;split at hx
  ·rename_i cs jf;injection hx with hx;subst hx;unfold abb at d;split at d
   ·rename_i CM hu;split at d
    ·rename_i places jz;simp only[co] at d;obtain⟨i,z,L,K,S⟩:=abe d.1;exact aor r rfl F L K hu jz S d.2 jf
    ·cases d
   ·cases d
  ·cases hx
 |gk sz ms=>
  cases op<;>simp only[iE] at d<;>first|cases d|skip
  simp only[co,beq_iff_eq,decide_eq_true_eq] at d;obtain⟨⟨⟨⟨v,D⟩,H⟩,c4⟩,c5⟩:=d;obtain⟨e,i,z,L,K,S,O,Y,_⟩:=Ay v;simp only[exec] at hx;split at hx
  ·rename_i n es ow σ1 zl;split at hx
   ·rename_i σ2 J;injection hx with hx;subst hx;refine abX r rfl rfl (F _ rfl) L K S O Y D H c4 (fun j p m C hm=>?_) zl J;exact(Ui c5).2 j p.2 m (by simp[C]) hm
   ·cases hx
  ·cases hx
 |Av sz ms=>
  cases op<;>simp only[iE] at d<;>first|cases d|skip
  simp only[co,beq_iff_eq,decide_eq_true_eq] at d;obtain⟨⟨⟨⟨v,D⟩,H⟩,c4⟩,c5⟩:=d;obtain⟨e,i,z,L,K,S,O,Y,_⟩:=Ay v;simp only[exec] at hx;split at hx
  ·rename_i n es zl;split at hx
   ·rename_i σ2 J;injection hx with hx;subst hx;refine abX r rfl rfl (F _ rfl) L K S O Y D H c4 (fun j p m C hm=>?_) (aiz _ zl) J;exact(Ui c5).2 j p.2 m (by simp[C]) hm
   ·cases hx
  ·cases hx
 |load ag sz m=>
  cases op<;>simp only[iE] at d<;>first|cases d|skip
  simp only[co] at d;simp only[exec] at hx;split at hx
  ·rename_i p C;split at hx
   ·rename_i cs jf;injection hx with hx;subst hx;exact aoI r rfl F d.1 d.2 C jf
   ·cases hx
  ·cases hx
 |store sz mx my=>
  cases op<;>simp only[iE] at d<;>first|cases d|skip
  simp only[co] at d;obtain⟨⟨⟨c0,v⟩,D⟩,H⟩:=d;have hd:dst=none:=by simpa using c0
  unfold Ov at H;split at H
  ·rename_i i J;simp only[co,beq_iff_eq,decide_eq_true_eq] at H;simp only[exec] at hx;split at hx
   ·rename_i n k aZ off ag vs C hv;split at hx
    ·rename_i hl;split at hx
     ·rename_i cs hn;split at hx
      ·rename_i hk;injection hx with hx;subst hx;exact aoR r rfl hd v D J H.1 H.2 C hv hl hn hk.1 hk.2
      ·cases hx
     ·rename_i gr m rs xs hn;split at hx
      ·rename_i tc;subst tc;split at hx
       ·rename_i el mJ;exact aoT r rfl hd v D J H.1 H.2 C hv hl hn mJ hx
       ·cases hx
      ·cases hx
     ·cases hx
    ·cases hx
   ·rename_i n k aZ off s i ag vs C hv;split at hx
    ·rename_i hl;split at hx
     ·rename_i gr rs xs hn;split at hx
      ·rename_i tc;subst tc;split at hx
       ·rename_i aP nC;injection hx with hx;subst hx;exact aoS r rfl hd v D J H.1 H.2 C hv hl hn rfl nC
       ·cases hx
      ·cases hx
     ·cases hx
    ·cases hx
   ·cases hx
  ·cases H
 |bin DN mx my=>
  cases op<;>simp only[iE] at d<;>first|cases d|skip
  simp only[co,decide_eq_true_eq] at d;obtain⟨⟨rfl,v⟩,D⟩:=d;simp only[exec] at hx;split at hx
  ·rename_i c hb;injection hx with hx;subst hx;exact aoo r rfl F v D hb
  ·cases hx
 |qV DN mx my=>
  cases op<;>simp only[iE] at d<;>first|cases d|skip
  simp only[co,decide_eq_true_eq] at d;obtain⟨⟨⟨rfl,v⟩,D⟩,H⟩:=d;unfold ae0 at H;split at H
  ·rename_i ht;simp only[exec] at hx;split at hx
   ·rename_i c hb;injection hx with hx;subst hx;exact aop r rfl F v D ht hb
   ·cases hx
  ·cases H
 |un DN mx=>
  cases op<;>simp only[iE] at d<;>first|cases d|skip
  simp only[co,decide_eq_true_eq] at d;obtain⟨rfl,v⟩:=d;simp only[exec] at hx;split at hx
  ·rename_i c hb;injection hx with hx;subst hx;exact aoU r rfl F v hb
  ·cases hx
 |ji m sz by_ zs ml mc=>
  cases op<;>simp only[iE] at d<;>first|cases d|skip
  simp only[co] at d;obtain⟨⟨v,D⟩,H⟩:=d;obtain⟨e,i,z,L,K,S,O,Y,Z⟩:=Ay H;simp only[co,beq_iff_eq,decide_eq_true_eq] at Z;simp only[exec] at hx;split at hx
  ·rename_i n q q' hq gn;split at hx
   ·rename_i X;obtain⟨W,k2,k3,k4⟩:=X;split at hx
    ·rename_i σ1 J;injection hx with hx;subst hx;exact aoJ r rfl rfl (F _ rfl) v D L K S O Z.1.1 Z.1.2 Y Z.2 hq gn W k2 k3 k4 J
    ·cases hx
   ·cases hx
  ·cases hx
 |slice sz mx Qx Qu=>
  cases op<;>simp only[iE] at d<;>first|cases d|skip
  rename_i t x lo J mm;cases mm<;>simp only[iE] at d<;>first|cases d|skip
  simp only[co] at d;obtain⟨⟨⟨v,D⟩,H⟩,c4⟩:=d;obtain⟨e,i,z,L,K,S,O,Y,_⟩:=Ay c4;have oU:∀l,(match Qx with|none=>some 0|some l=>(σ.ev l).fZ)=some l->(lo=none/\l=0)\/∃y my,lo=some y/\dC y my=true/\(σ.ev my).fZ=some l:=by
   intro l hl;cases Qx with
   |none=>cases lo<;>simp[Hz] at D;simp at hl;exact .inl ⟨rfl,hl.symm⟩
   |some my=>cases lo<;>simp[Hz] at D;exact .inr ⟨_,my,rfl,D,hl⟩
  have A9:∀(len:Nat) hh,(match Qu with|none=>some (len:Int)|some h=>(σ.ev h).fZ)=some hh->(J=none/\hh=len)\/∃y my,J=some y/\dC y my=true/\(σ.ev my).fZ=some hh:=by
   intro len l hl;cases Qu with
   |none=>cases J<;>simp[Hz] at H;simp at hl;exact .inl ⟨rfl,hl.symm⟩
   |some my=>cases J<;>simp[Hz] at H;exact .inr ⟨_,my,rfl,H,hl⟩
  simp only[exec] at hx;split at hx
  ·rename_i n s l0 len l C hl;split at hx
   ·rename_i hh VZ;split at hx
    ·rename_i X;obtain⟨rfl,W,k2,k3,k4⟩:=X;injection hx with hx;subst hx;exact ab5 r rfl F v L K O Y (oU l hl) (A9 len hh VZ) W k2 k3 (.inl ⟨n,l0,C,k4,rfl⟩)
    ·cases hx
   ·cases hx
  ·rename_i s xs l C hl;split at hx
   ·rename_i hh VZ;split at hx
    ·rename_i X;obtain⟨rfl,W,k2,k3⟩:=X;injection hx with hx;subst hx;exact ab5 r rfl F v L K O Y (oU l hl) (A9 xs.length hh VZ) W k2 k3 (.inr ⟨xs,C,rfl,rfl⟩)
    ·cases hx
   ·cases hx
  ·cases hx
 |rQ off mx=>
  cases op<;>simp only[iE] at d<;>first|cases d|skip
  simp only[co] at d;simp only[exec] at hx;split at hx
  ·rename_i n k sz q C;split at hx
   ·rename_i hn;injection hx with hx;subst hx;exact UJ r rfl F d.1 d.2 (.inl ⟨_,_,_,_,C,hn,rfl⟩)
   ·cases hx
  ·rename_i xs q C;injection hx with hx;subst hx;exact UJ r rfl F d.1 d.2 (.inr (.inl ⟨_,_,C,rfl⟩))
  ·rename_i xs q j n s len C;injection hx with hx;subst hx;exact UJ r rfl F d.1 d.2 (.inr (.inr ⟨_,_,_,_,_,_,C,rfl⟩))
  ·cases hx
 |ru sz mx mi=>
  cases op<;>simp only[iE] at d<;>first|cases d|skip
  simp only[co] at d;obtain⟨⟨v,D⟩,H⟩:=d;obtain⟨e,i,z,L,K,S,O,Y,_⟩:=Ay H;simp only[exec] at hx;split at hx
  ·rename_i n s lo len k C hk;split at hx
   ·rename_i X;obtain⟨rfl,W,k2,k3⟩:=X;injection hx with hx;subst hx;exact ab0 r rfl F v D L K O hk W (.inl ⟨_,_,_,C,k2,k3,rfl⟩)
   ·cases hx
  ·rename_i s xs k C hk;split at hx
   ·rename_i X;obtain⟨rfl,W⟩:=X;split at hx
    ·rename_i el mJ;injection hx with hx;subst hx;exact ab0 r rfl F v D L K O hk W (.inr ⟨_,_,C,mJ,rfl⟩)
    ·cases hx
   ·cases hx
  ·rename_i n kk aZ off s len k C hk;split at hx
   ·rename_i s' ys LU;split at hx
    ·rename_i X;obtain⟨rfl,W,k2⟩:=X;injection hx with hx;subst hx;exact aoG r rfl F v D L K O hk W k2 C LU
    ·cases hx
   ·cases hx
  ·cases hx
 |ext i mx=>
  cases op<;>simp only[iE] at d<;>first|cases d|skip
  simp only[co,beq_iff_eq] at d;obtain⟨rfl,v⟩:=d;simp only[exec] at hx;split at hx
  ·rename_i xs C;split at hx
   ·rename_i ag cs jf;injection hx with hx;subst hx;refine aoF r rfl F v C jf fun fM=>?_;subst fM;obtain⟨y1,_⟩:=r.ev v;rw[C] at y1;obtain⟨vs,_,hl,hv⟩:=y1;have J:i<vs.length:=by rw[hl];exact(AI.1 jf).1
    have:eJ w G σ.h cs [vs[i]]:=hv i (false,cs) vs[i] jf (AT J);exact zaJ.1 this.1.symm
   ·cases hx
  ·cases hx
 |len mx=>
  cases op<;>simp only[iE] at d<;>first|cases d|skip
  rename_i c;obtain⟨A,args,u⟩:=c;split at d
  ·rename_i x t I V ht;simp only at I V ht;subst I;have AU:args=#[x]:=by apply zab;exact V
   have LQ:u=#[t]:=by apply zab;exact ht
   subst AU LQ;simp only[co] at d;obtain⟨v,D⟩:=d;split at D
   ·rename_i e hu;simp only[exec] at hx;split at hx
    ·rename_i n sz lo len C;split at hx
     ·rename_i hn;injection hx with hx;subst hx;exact O0 r rfl F v hu (.inl ⟨_,_,_,C,hn⟩)
     ·cases hx
    ·rename_i sz xs C;injection hx with hx;subst hx;exact O0 r rfl F v hu (.inr (.inl ⟨_,_,C,rfl⟩))
    ·rename_i sz C;injection hx with hx;subst hx;exact O0 r rfl F v hu (.inr (.inr (.inl ⟨_,C,rfl⟩)))
    ·rename_i n k aZ off sz len C;split at hx
     ·rename_i s ys ua;injection hx with hx;subst hx;exact O0 r rfl F v hu (.inr (.inr (.inr ⟨_,_,_,_,_,_,_,_,C,ua,rfl⟩)))
     ·cases hx
    ·cases hx
   ·cases D
  ·cases d
 |append fl sz by_ mx my=>
  cases op<;>simp only[iE] at d<;>first|cases d|skip
  rename_i c;obtain⟨A,args,u⟩:=c;split at d
  ·rename_i x y t t' I V ht;simp only at I V ht;subst I;have AU:args=#[x,y]:=by apply zab;exact V
   have LQ:u=#[t,t']:=by apply zab;exact ht
   subst AU LQ;simp only[co,beq_iff_eq] at d;obtain⟨⟨⟨rfl,v⟩,D⟩,H⟩:=d;obtain⟨e,i,z,L,K,S,O,Y,Z⟩:=Ay H;simp only[co,beq_iff_eq,decide_eq_true_eq] at Z;simp only[exec] at hx;split at hx
   ·cases hx
   ·rename_i n;split at hx
    ·cases hx
    ·rename_i xs m σ1 hl;split at hx
     ·cases hx
     ·rename_i ys m2 σ2 hr;split at hx
      ·rename_i hb;split at hx
       ·rename_i j6 J;injection hx with hx;subst hx;exact aon r rfl rfl (F _ rfl) v D L K S O Y Z.1.1 Z.1.2 Z.2 hl hr hb J
       ·cases hx
      ·cases hx
  ·cases d
 |vR zc mx=>
  cases op<;>simp only[iE] at d<;>first|cases d|skip
  rename_i c;obtain⟨A,args,u⟩:=c;split at d
  ·rename_i x t I V ht;simp only at I V ht;subst I;have AU:args=#[x]:=by apply zab;exact V
   have LQ:u=#[t]:=by apply zab;exact ht
   subst AU LQ;simp only[co] at d;obtain⟨v,H⟩:=d;obtain⟨e,i,z,L,K,S,O,Y,Z⟩:=Ay H;simp only[exec] at hx;split at hx
   ·rename_i n s lo len C;split at hx
    ·rename_i gr m rs xs hn;split at hx
     ·rename_i X;obtain⟨rfl,rfl,k0,W,k2,k3⟩:=X;injection hx with hx;subst hx;exact aoy r rfl F v L K S Z k0 C hn W k2 k3
     ·cases hx
    ·cases hx
   ·cases hx
  ·cases d
 |mm b mx my=>
  cases op<;>simp only[iE] at d<;>first|cases d|skip
  rename_i c;obtain⟨A,args,u⟩:=c;have dY:∀x y,A=.builtin (if b=true then .max else .min)->args=#[x,y]->dC x mx=true->dC y my=true->
    Oper.wp P ⟨dst,.call ⟨A,args,u⟩,ty,pos,U,guard⟩ a w (Nx B E w0 N σ') Q:=by
   intro x y I V v D;subst I V;simp only[exec] at hx;split at hx
   ·rename_i k n k' m L K;have:=aoK (P:=P) (Q:=Q) (mx':=b) r (o:=⟨dst,.call ⟨.builtin (if b=true then .max else .min),#[x,y],u⟩,ty,pos,U,guard⟩) rfl F v D L K
    cases b
    ·simp at hx this;split at hx<;>(rename_i cF;injection hx with hx;subst hx;simpa[cF] using this)
    ·simp at hx this;split at hx<;>(rename_i cF;injection hx with hx;subst hx;simpa[cF] using this)
   ·cases hx
  split at d
  ·rename_i x y I V;simp only[co] at d;obtain⟨⟨rfl,v⟩,D⟩:=d;exact dY x y I (by apply zab;exact V) v D
  ·rename_i x y I V;simp only[co,zaE] at d;obtain⟨⟨rfl,v⟩,D⟩:=d;exact dY x y I (by apply zab;exact V) v D
  ·cases d
 |call m f ms=>
  cases op<;>simp only[iE] at d<;>first|cases d|skip
  rename_i c;obtain⟨A,args,u⟩:=c;split at d
  ·rename_i g I;simp only at I;subst I;simp only[co,beq_iff_eq] at d;obtain⟨⟨rfl,v⟩,D⟩:=d;exact aos r hT F rfl v D hx
  ·cases d
 |qW f ms=>
  cases op<;>simp only[iE] at d<;>first|cases d|skip
  rename_i c;obtain⟨A,args,u⟩:=c;split at d
  ·rename_i g I;simp only at I;subst I;simp only[co,beq_iff_eq] at d;obtain⟨⟨rfl,v⟩,D⟩:=d;simp only[exec] at hx;split at hx
   ·rename_i z hz;injection hx with hx;subst hx;exact aou r hT F rfl v D hz
   ·cases hx
  ·cases d
 |kH m f ms=>
  cases op<;>simp only[iE] at d<;>first|cases d|skip
  rename_i c;obtain⟨A,args,u⟩:=c;split at d
  ·rename_i g I;simp only at I;subst I;simp only[co,beq_iff_eq] at d;obtain⟨⟨rfl,v⟩,D⟩:=d;simp only[exec] at hx;exact aov r hTM F rfl v D hx
  ·cases d
 |tR f ms=>exact aoM r Ii F d hx
 |qX f ms=>exact aoO r Ij F d hx
 |pG f ms=>exact aoN r Ii F d hx
 |tT m f ms=>exact aoP r Ij F d hx
end
def eB.jF:eB->Nat
 |.mv _|.pick ..|.build ..|.bin ..|.qV ..|.un ..|.ext ..|.mm ..=>0
 |.alloc _|.box ..|.Av ..|.load ..|.ji ..|.slice ..|.rQ ..|.ru ..|.len _|.call ..|.qW ..|.qX ..|.pG ..=>1
 |_=>2
def St.fQ (σ:St):List (Nat×bf)->Option St
 |[]=>some σ
 |(n,b)::l=>match σ.ins n b with
  |some σ1=>σ1.fQ l
  |none=>none
def lY (m:Mode):Nat->List C->List ar×Nat×List (Nat×bf)
 |nm,[]=>([],nm,[])
 |nm,.list sz xs::cs=>(.sl nm sz 0 xs.length::(lY m (nm+1) cs).1,(lY m (nm+1) cs).2.1,(nm,.row m.yi m sz xs)::(lY m (nm+1) cs).2.2)
 |nm,x::cs=>(.c x::(lY m nm cs).1,(lY m nm cs).2.1,(lY m nm cs).2.2)
def Dj (m:Mode):Nat->List Dv->Option (List (Bool×List ar)×List (Nat×bf))
 |_,[]=>some ([],[])
 |nm,(.ptr,_)::_=>none
 |nm,(k,cs)::ds=>match Dj m (lY m nm cs).2.1 ds with
  |some (ls,bs)=>some ((decide (k=.agg),(lY m nm cs).1)::ls,(lY m nm cs).2.2++bs)
  |none=>none
theorem aeU (σ:St) (l a:List (Nat×bf)):σ.fQ (l++a)=(σ.fQ l).bind fun σ1=>σ1.fQ a:=by induction l generalizing σ with|nil=>rfl|cons x l c=>obtain⟨n,b⟩:=x;simp only[zal,St.fQ];cases σ.ins n b with|none=>rfl|some σ1=>exact c σ1
theorem PW (m:Mode):∀(cs:List C) (σ:St) (nm:Nat),σ.imp m nm cs=(σ.fQ (lY m nm cs).2.2).map fun σ1=>((lY m nm cs).1,(lY m nm cs).2.1,σ1)
 |[],σ,nm=>rfl
 |.list sz xs::cs,σ,nm=>by simp only[St.imp,lY,St.fQ];cases σ.ins nm (.row m.yi m sz xs) with|none=>rfl|some σ1=>simp only[PW m cs];cases σ1.fQ (lY m (nm+1) cs).2.2<;>rfl
 |.int k n::cs,σ,nm=>by simp only[St.imp,lY,PW m cs];cases σ.fQ (lY m nm cs).2.2<;>rfl
 |.bool b::cs,σ,nm=>by simp only[St.imp,lY,PW m cs];cases σ.fQ (lY m nm cs).2.2<;>rfl
theorem WU (m:Mode):∀(ds:List Dv) (σ:St) (nm:Nat),σ.nF m nm ds=(Dj m nm ds).bind fun x=>(σ.fQ x.2).map fun σ1=>(x.1,σ1)
 |[],σ,nm=>rfl
 |(k,cs)::ds,σ,nm=>by
  have a:(match σ.imp m nm cs with
    |some (l,jk,σ1)=>match σ1.nF m jk ds with
     |some (ls,σ2)=>some ((decide (k=K.agg),l)::ls,σ2)
     |none=>none
    |none=>none)=(match Dj m (lY m nm cs).2.1 ds with
    |some (ls,bs)=>some ((decide (k=K.agg),(lY m nm cs).1)::ls,(lY m nm cs).2.2++bs)
    |none=>none).bind fun x=>(σ.fQ x.2).map fun σ1=>(x.1,σ1):=by
   rw[PW];have b:=fun(σ1:St)=>WU m ds σ1 (lY m nm cs).2.1;cases h1:σ.fQ (lY m nm cs).2.2 with
   |none=>
    cases h2:Dj m (lY m nm cs).2.1 ds with
    |none=>rfl
    |some x=>simp[aeU,h1]
   |some σ1=>
    simp only[By,b];cases h2:Dj m (lY m nm cs).2.1 ds with
    |none=>rfl
    |some x=>
     simp[aeU,h1];cases σ1.fQ x.2<;>rfl
  cases k with
  |ptr=>rfl
  |one=>exact a
  |agg=>exact a
def Oi (T:bL) (m:Mode) (d:Option Nat) (f:FuncId) (as:List aE) (h:Nat->Option bf):Option (aE×List (Nat×bf)):=
 match qa h as with
 |some ds=>match bL.find T.pure f with
  |some M=>match M ds with
   |some rs=>match Dj m (BM d) rs with
    |some (ls,bs)=>some (rH ls,bs)
    |none=>none
   |none=>none
  |none=>none
 |none=>none
def rd (T:bL) (d:Option Nat) (op:eB) (ev:MO->aE) (h:Nat->Option bf):Option (aE×List (Nat×bf)):=
 match op with
 |.mv x=>some (ev x,[])
 |.pick c x y=>match ev c with
  |.one (.c (.bool b))=>if b=true then some (ev x,[]) else some (ev y,[])
  |_=>none
 |.build zs parts=>match vB ev zs parts with
  |some cs=>some (.agg cs,[])
  |none=>none
 |.bin op x y=>match CA op (ev x) (ev y) with
  |some c=>some (.one (.c c),[])
  |none=>none
 |.qV op x y=>match Hq op (ev x) (ev y) with
  |some c=>some (.one (.c c),[])
  |none=>none
 |.un op x=>match Ke op (ev x) with
  |some c=>some (.one (.c c),[])
  |none=>none
 |.ext i x=>match ev x with
  |.dh xs=>match xs[i]? with
   |some (ag,cs)=>some (vD ag cs,[])
   |none=>none
  |_=>none
 |.mm mx x y=>match ev x,ev y with
  |.one (.c (.int k a)),.one (.c (.int k' b))=>if mx=true then(if a<b then some (.one (.c (.int k b)),[]) else some (.one (.c (.int k a)),[]))
   else(if b<a then some (.one (.c (.int k b)),[]) else some (.one (.c (.int k a)),[]))
  |_,_=>none
 |.alloc zs=>match d with
  |some n=>some (.one (.ptr n 0 0 0),[(n,.box zs)])
  |none=>none
 |.box sz x=>match d,(ev x).cells? with
  |some n,some (_,cs)=>if cs.length=sz then some (.one (.ptr n 0 0 0),[(n,.box cs)]) else none
  |_,_=>none
 |.Av sz ps=>match d,FY sz (ps.map ev) with
  |some n,some es=>some (.one (.sl n sz 0 es.length),[(n,.row true .bq sz es)])
  |_,_=>none
 |.load ag sz x=>match ev x with
  |.one p=>match loadAt h p sz with
   |some cs=>some (vD ag cs,[])
   |none=>none
  |_=>none
 |.ji m sz by_ zs l c=>match d,(ev l).fZ,(ev c).fZ with
  |some n,some a,some b=>if a<=b/\0<=a/\b.toNat*by_<=eD/\zs.length=sz then
   some (.one (.sl n sz 0 a.toNat),[(n,.row true m sz (zad a.toNat zs))])
   else none
  |_,_,_=>none
 |.slice sz x lo hi=>
  let XC:Option Int:=match lo with|none=>some 0|some l=>(ev l).fZ
  match ev x,XC with
  |.one (.sl n s l0 len),some l=>
   match(match hi with|none=>some (len:Int)|some h=>(ev h).fZ) with
   |some hh=>if s=sz/\0<=l/\l<=hh/\hh<=len/\(h n).isSome=true then some (.one (.sl n s (l0+l.toNat) (hh - l).toNat),[]) else none
   |none=>none
  |.one (.c (.list s xs)),some l=>
   match(match hi with|none=>some (xs.length:Int)|some h=>(ev h).fZ) with
   |some hh=>if s=sz/\0<=l/\l<=hh/\hh<=xs.length then some (.one (.c (.list s ((xs.drop l.toNat).take (hh - l).toNat))),[]) else none
   |none=>none
  |_,_=>none
 |.rQ off x=>match ev x with
  |.one (.ptr n k sz o)=>if(h n).isSome=true then some (.one (.ptr n k sz (o+off)),[]) else none
  |.one (.eU xs o)=>some (.one (.eU xs (o+off)),[])
  |.one (.dW xs o j n s len)=>some (.one (.dW xs (o+off) j n s len),[])
  |_=>none
 |.ru sz x i=>match ev x,(ev i).fZ with
  |.one (.sl n s lo len),some k=>if s=sz/\0<=k/\k<len/\(h n).isSome=true then some (.one (.ptr n (lo+k.toNat) s 0),[]) else none
  |.one (.c (.list s xs)),some k=>if s=sz/\0<=k then
   match xs[k.toNat]? with
   |some e=>some (.one (.eU e 0),[])
   |none=>none
   else none
  |.one (.cG n kk aZ off s len),some k=>match eA h (.cG n kk aZ off s len) with
   |some (.list s' ys)=>if s'=sz/\0<=k/\k<ys.length then some (.one (.ez n kk aZ off sz k.toNat),[]) else none
   |_=>none
  |_,_=>none
 |.len x=>match ev x with
  |.one (.sl n sz lo len)=>if(h n).isSome=true then some (.one (.c (.int .i64 len)),[]) else none
  |.one (.c (.list sz xs))=>some (.one (.c (.int .i64 xs.length)),[])
  |.one (.nil sz)=>some (.one (.c (.int .i64 0)),[])
  |.one (.cG n k aZ off sz len)=>match eA h (.cG n k aZ off sz len) with
   |some (.list s ys)=>some (.one (.c (.int .i64 ys.length)),[])
   |_=>none
  |_=>none
 |.call m f xs=>Oi T m d f (xs.map ev) h
 |.qW f xs=>(Aw T f (xs.map ev) h).map fun v=>(v,[])
 |.qX f xs=>(uU T f (xs.map ev) h).map fun v=>(v,[])
 |.pG f xs=>(ER T f (xs.map ev)).map fun v=>(v,[])
 |_=>none
def ie (d:Option Nat) (σ:St) (x:aE×List (Nat×bf)):Option St:=(σ.fQ x.2).map (·.put d x.1)
theorem an9 (T:bL) (m:Mode) (d:Option Nat) (f:FuncId) (as:List aE) (σ:St):CH T m d f as σ=(Oi T m d f as σ.h).bind (ie d σ):=by unfold CH Oi;cases qa σ.h as with|none=>rfl|some ds=>simp only;cases bL.find T.pure f with|none=>rfl|some M=>simp only;cases M ds with|none=>rfl|some a=>simp only[WU];cases Dj m (BM d) a with|none=>rfl|some x=>simp only[IN,ie];cases σ.fQ x.2<;>rfl
theorem xA (T:bL) (d:Option Nat) (op:eB) (σ:St) (w:op.jF<=1):exec T d op σ=(rd T d op σ.ev σ.h).bind (ie d σ):=by(cases op<;>simp only[eB.jF] at w<;>first|omega|skip);(case call m f xs=>exact an9 _ _ _ _ _ _);(case qW f xs=>simp only[exec,rd];cases Aw T f (xs.map σ.ev) σ.h with|none=>rfl|some v=>rfl);(case qX f xs=>simp only[exec,rd];cases uU T f (xs.map σ.ev) σ.h with|none=>rfl|some v=>rfl);(case pG f xs=>simp only[exec,rd];cases ER T f (xs.map σ.ev) with|none=>rfl|some v=>rfl);(case alloc zs=>simp only[exec,rd];split;rename_i n;simp only[IN,ie,St.fQ];cases σ.ins n (.box zs)<;>rfl;rfl);(case box sz x=>simp only[exec,rd];split;rename_i n ag cs e;simp only[e];split;simp only[IN,ie,St.fQ];cases σ.ins n (.box cs)<;>rfl;rfl;rename_i j;split;rename_i n ag cs e;exact absurd e (j n ag cs rfl);rfl);(case Av sz ps=>simp only[exec,rd];split;rename_i n t e;simp only[e,IN,ie,St.fQ];cases σ.ins n (.row true .bq sz t)<;>rfl;rename_i j;split;rename_i n t e;exact absurd e (j n t rfl);rfl);(case ji m sz by_ zs l c=>simp only[exec,rd];split;rename_i n a b e r;simp only[e,r];split;simp only[IN,ie,St.fQ];cases σ.ins n (.row true m sz (zad a.toNat zs))<;>rfl;rfl;rename_i j;split;rename_i n a b e r;exact absurd r (j n a b rfl e);rfl);(case mv x=>rfl);(case pick c x y=>simp only[exec,rd];generalize σ.ev c=v;cases v with|one v=>(cases v with|c v=>(cases v with|bool b=>cases b<;>rfl|_=>rfl)|_=>rfl)|_=>rfl);(case build zs ps=>simp only[exec,rd];cases vB σ.ev zs ps<;>rfl);(case bin op x y=>simp only[exec,rd];cases CA op (σ.ev x) (σ.ev y)<;>rfl);(case qV op x y=>simp only[exec,rd];cases Hq op (σ.ev x) (σ.ev y)<;>rfl);(case un op x=>simp only[exec,rd];cases Ke op (σ.ev x)<;>rfl);(case ext i x=>simp only[exec,rd];generalize σ.ev x=v;cases v with|dh xs=>simp only;cases xs[i]? <;>rfl|_=>rfl);(case mm b x y=>simp only[exec,rd];generalize σ.ev x=v;generalize σ.ev y=u;cases v with|one v=>(cases v with|c v=>(cases v with|int k a=>(cases u with|one u=>(cases u with|c u=>(cases u with|int k' a'=>simp only;cases b;simp only[zam,if_false];split<;>rfl;simp only[if_true];split<;>rfl|_=>rfl)|_=>rfl)|_=>rfl)|_=>rfl)|_=>rfl)|_=>rfl);(case load ag sz x=>simp only[exec,rd];generalize σ.ev x=v;cases v with|one v=>simp only;cases loadAt σ.h v sz<;>rfl|_=>rfl);(case rQ off x=>simp only[exec,rd];generalize σ.ev x=v;cases v with|one v=>(cases v with|ptr n k sz off=>simp only;split<;>rfl|_=>rfl)|_=>rfl);(case len x=>simp only[exec,rd];generalize σ.ev x=v;cases v with|one v=>(cases v with|sl n sz lo len=>simp only;split<;>rfl|c v=>cases v<;>rfl|cG n k o off sz len=>simp only;(cases eA σ.h (.cG n k o off sz len) with|none=>rfl|some y=>cases y<;>rfl)|_=>rfl)|_=>rfl);(case ru sz x i=>simp only[exec,rd];generalize σ.ev x=v;generalize (σ.ev i).fZ=u;cases v with|one v=>(cases v with|sl n s lo len=>(cases u with|none=>rfl|some k=>simp only;split<;>rfl)|c v=>(cases v with|list s xs=>(cases u with|none=>rfl|some k=>simp only;split;cases xs[k.toNat]? <;>rfl;rfl)|_=>rfl)|cG n k o off s len=>(cases u with|none=>rfl|some q=>simp only;cases eA σ.h (.cG n k o off s len) with|none=>rfl|some y=>cases y with|list s' ys=>simp only;split<;>rfl|_=>rfl)|_=>rfl)|_=>rfl);case slice sz x lo g=>cases lo with|none=>(cases g with|none=>simp only[exec,rd];generalize σ.ev x=v;(cases v with|one v=>(cases v with|sl n s p len=>simp only;split<;>rfl|c v=>(cases v with|list s xs=>simp only;split<;>rfl|_=>rfl)|_=>rfl)|_=>rfl)|some g=>simp only[exec,rd];generalize σ.ev x=v;generalize (σ.ev g).fZ=q;cases q with|none=>(cases v with|one v=>(cases v with|c v=>cases v<;>rfl|_=>rfl)|_=>rfl)|some q=>cases v with|one v=>(cases v with|sl n s p len=>simp only;split<;>rfl|c v=>(cases v with|list s xs=>simp only;split<;>rfl|_=>rfl)|_=>rfl)|_=>rfl)|some lo=>cases g with|none=>simp only[exec,rd];generalize σ.ev x=v;generalize (σ.ev lo).fZ=u;(cases u with|none=>(cases v with|one v=>(cases v with|c v=>cases v<;>rfl|_=>rfl)|_=>rfl)|some u=>cases v with|one v=>(cases v with|sl n s p len=>simp only;split<;>rfl|c v=>(cases v with|list s xs=>simp only;split<;>rfl|_=>rfl)|_=>rfl)|_=>rfl)|some g=>simp only[exec,rd];generalize σ.ev x=v;generalize (σ.ev lo).fZ=u;generalize (σ.ev g).fZ=q;cases u with|none=>(cases v with|one v=>(cases v with|c v=>cases v<;>rfl|_=>rfl)|_=>rfl)|some u=>cases q with|none=>(cases v with|one v=>(cases v with|c v=>cases v<;>rfl|_=>rfl)|_=>rfl)|some q=>cases v with|one v=>(cases v with|sl n s p len=>simp only;split<;>rfl|c v=>(cases v with|list s xs=>simp only;split<;>rfl|_=>rfl)|_=>rfl)|_=>rfl
def St.we (σ:St) (e:Nat->aE):St:={σ with env:=e}
def Ab (e:Nat->aE) (d:Option Nat) (x:Nat->aE):Nat->aE:=
 match d with
 |some n=>bj e n (x n)
 |none=>e
theorem aBl (σ:St):σ.we σ.env=σ:=rfl
theorem FZ (σ:St) (e:Nat->aE) (d:Option Nat) (v:aE):(σ.we e).put d v=(σ.put d v).we (Ab e d (σ.put d v).env):=by cases d with|none=>rfl|some n=>simp[St.put,St.we,Ab,dD]
theorem PZ (σ:St) (e:Nat->aE) (n:Nat) (b:bf):(σ.we e).ins n b=(σ.ins n b).map (·.we e):=by unfold St.ins;by_cases h:σ.used n=true;rw[aj h,aj (show(σ.we e).used n=true from h)];rfl;rw[ak h,ak (show¬(σ.we e).used n=true from h)];rfl
theorem Mh:∀(l:List (Nat×bf)) (σ:St) (e:Nat->aE),(σ.we e).fQ l=(σ.fQ l).map (·.we e)
 |[],σ,e=>rfl
 |(n,b)::l,σ,e=>by simp only[St.fQ,PZ];cases σ.ins n b with|none=>rfl|some σ1=>exact Mh l σ1 e
theorem aA4 (σ:St) (e:Nat->aE) (c:ar):(σ.we e).jC c=(σ.jC c).map fun x=>(x.1,x.2.1,x.2.2.we e):=by cases c with|c x=>rfl|nil sz=>simp only[St.jC];split<;>rfl|sl n sz lo len=>have:(σ.we e).h n=σ.h n:=rfl;simp only[St.jC,this];(cases σ.h n with|none=>rfl|some b=>cases b with|box cs=>rfl|row gr m rs xs=>simp only;split<;>rfl)|_=>rfl
theorem R7:∀(cs:List ar) (σ:St) (e:Nat->aE),(σ.we e).jp cs=(σ.jp cs).map fun x=>(x.1,x.2.1,x.2.2.we e)
 |[],σ,e=>rfl
 |c::cs,σ,e=>by simp only[St.jp,aA4];cases σ.jC c with|none=>rfl|some x=>obtain⟨x,o,σ1⟩:=x;simp only[By,R7 cs σ1 e];cases σ1.jp cs<;>rfl
theorem alS (sz:Nat):∀(vs:List aE) (σ:St) (e:Nat->aE),(σ.we e).oJ sz vs=(σ.oJ sz vs).map fun x=>(x.1,x.2.1,x.2.2.we e)
 |[],σ,e=>rfl
 |v::vs,σ,e=>by simp only[St.oJ];cases v.cells? with|none=>rfl|some x=>obtain⟨ag,cs⟩:=x;simp only;split;simp only[R7];(cases σ.jp cs with|none=>rfl|some y=>obtain⟨y,o,σ1⟩:=y;simp only[By,alS sz vs σ1 e];cases σ1.oJ sz vs<;>rfl);rfl
theorem amL (σ:St) (e:Nat->aE) (sz:Nat) (v:aE):yN (σ.we e) sz v=(yN σ sz v).map fun x=>(x.1,x.2.1,x.2.2.we e):=by cases v with|one v=>(cases v with|sl a s lo len=>(cases lo with|zero=>have:(σ.we e).h a=σ.h a:=rfl;simp only[yN,this];(cases σ.h a with|none=>rfl|some b=>cases b with|box cs=>rfl|row c m rs xs=>cases c with|true=>simp only;split<;>rfl|false=>rfl)|succ lo=>rfl)|_=>rfl)|_=>rfl
theorem amM (fl:Bool) (σ:St) (e:Nat->aE) (sz:Nat) (m:Mode) (v:aE):sO fl (σ.we e) sz m v=(sO fl σ sz m v).map fun x=>(x.1,x.2.1,x.2.2.we e):=by cases v with|one v=>(cases v with|sl b s lo len=>have:(σ.we e).h b=σ.h b:=rfl;simp only[sO,this];(cases σ.h b with|none=>rfl|some b=>cases b with|box cs=>rfl|row gr m rs xs=>simp only;(repeat' split);all_goals rfl)|c x=>(cases x with|list s ys=>simp only[sO];(repeat' split);(all_goals rfl)|_=>rfl)|_=>rfl)|_=>rfl
theorem aAV (σ:St) (e:Nat->aE) (n:Nat) (c:Bool) (m:Mode) (b:Nat) (xs:List (List C)) (k off:Nat) (a:List C) (vs:List ar): uB (σ.we e) n c m b xs k off a vs=(uB σ n c m b xs k off a vs).map (·.we e):=by simp only[uB,R7];cases sub a off vs.length with|none=>rfl|some lG=>simp only;cases σ.jp vs with|none=>rfl|some x=>obtain⟨cs,o,σ1⟩:=x;have:(σ1.we e).h n=σ1.h n:=rfl;simp only[By,this];(repeat' split);all_goals rfl
theorem M1 (T:bL) (d:Option Nat) (op:eB) {ev ev':MO->aE} (h:Nat->Option bf) (c:∀x∈op.args,ev' x=ev x):rd T d op ev' h=rd T d op ev h:=by have hl:∀xs:List MO,(∀x∈xs,ev' x=ev x)->xs.map ev'=xs.map ev:=fun xs hx=>OF hx;have o:∀(ps:List (Nat×Nat×MO)) (g:List ar),(∀x∈ps.map (·.2.2),ev' x=ev x)->vB ev' g ps=vB ev g ps:=(by intro ps;induction ps with|nil=>intro g _;rfl|cons p ps n=>intro g hx;obtain⟨off,sz,x⟩:=p;simp only[vB];rw[hx x (by simp)];cases (ev x).cells? with|none=>rfl|some y=>simp only;split;exact n _ fun z l=>hx z (by simp at l⊢;exact .inr l);rfl);cases op with|build g ps=>simp only[rd];rw[o ps g c]|call m f xs=>simp only[rd];rw[hl xs c]|qW f xs=>simp only[rd];rw[hl xs c]|qX f xs=>simp only[rd];rw[hl xs c]|pG f xs=>simp only[rd];rw[hl xs c]|slice sz x lo j=>have a:=c x (by simp[eB.args]);(cases lo with|none=>(cases j with|none=>simp only[rd,a]|some j=>have k:=c j (by simp[eB.args]);simp only[rd,a,k])|some lo=>have e:=c lo (by simp[eB.args]);cases j with|none=>simp only[rd,a,e]|some j=>have k:=c j (by simp[eB.args]);simp only[rd,a,e,k])|mv x=>have a:=c x (by simp[eB.args]);simp only[rd,a]|pick x y z=>have a:=c x (by simp[eB.args]);have e:=c y (by simp[eB.args]);have k:=c z (by simp[eB.args]);simp only[rd,a,e,k]|alloc g=>rfl|box sz x=>have a:=c x (by simp[eB.args]);simp only[rd,a]|gk sz ps=>rfl|Av sz ps=>simp only[rd];rw[hl ps c]|kH m f xs=>rfl|tT m f xs=>rfl|tR f xs=>rfl|load ag sz x=>have a:=c x (by simp[eB.args]);simp only[rd,a]|store sz x v=>rfl|bin op x y=>have a:=c x (by simp[eB.args]);have e:=c y (by simp[eB.args]);simp only[rd,a,e]|qV op x y=>have a:=c x (by simp[eB.args]);have e:=c y (by simp[eB.args]);simp only[rd,a,e]|un op x=>have a:=c x (by simp[eB.args]);simp only[rd,a]|ji m sz by_ g x y=>have a:=c x (by simp[eB.args]);have e:=c y (by simp[eB.args]);simp only[rd,a,e]|rQ off x=>have a:=c x (by simp[eB.args]);simp only[rd,a]|ru sz x y=>have a:=c x (by simp[eB.args]);have e:=c y (by simp[eB.args]);simp only[rd,a,e]|ext i x=>have a:=c x (by simp[eB.args]);simp only[rd,a]|len x=>have a:=c x (by simp[eB.args]);simp only[rd,a]|append fl sz by_ x y=>rfl|vR z x=>rfl|mm b x y=>have a:=c x (by simp[eB.args]);have e:=c y (by simp[eB.args]);simp only[rd,a,e]
theorem Si (σ:St) (e:Nat->aE):(σ.we e).h=σ.h:=rfl
theorem azj (σ:St) (e:Nat->aE) (it:fe) (x:C):(σ.we e).tE it x=(σ.tE it x).map (·.we e):=by cases it with|nil sz=>rfl|row n=>(cases x with|int k i=>rfl|bool b=>rfl|list sz xs=>simp only[St.tE,Si];cases σ.h n with|none=>rfl|some b=>cases b with|box cs=>rfl|row d m c a=>simp only;split<;>rfl)|nest n k off=>simp only[St.tE,Si];cases σ.h n with|none=>rfl|some b=>cases b with|box cs=>rfl|row d m c a=>simp only;cases a[k]? with|none=>rfl|some el=>rfl
theorem aiN:∀(a:List (fe×Mode)) (b:List C) (σ:St) (e:Nat->aE),(σ.we e).uy a b=(σ.uy a b).map (·.we e)
 |[],[],σ,e=>rfl
 |it::a,x::b,σ,e=>by simp only[St.uy,azj];cases σ.tE it.1 x with|none=>rfl|some σ1=>exact aiN a b σ1 e
 |[],_::_,σ,e=>rfl
 |_::_,[],σ,e=>rfl
theorem asq (m:Mode) (σ:St) (e:Nat->aE) (nm:Nat) (ds:List Dv):(σ.we e).nF m nm ds=(σ.nF m nm ds).map fun x=>(x.1,x.2.we e):=by simp only[WU];cases Dj m nm ds with|none=>rfl|some x=>simp only[IN,Mh];cases σ.fQ x.2 with|none=>rfl|some σ1=>rfl
theorem abH (T:bL) (m:Mode) (d:Option Nat) (f:FuncId) (as:List aE) (σ:St) (e:Nat->aE):
  vV T m d f as (σ.we e)=(vV T m d f as σ).map fun τ=>τ.we (Ab e d τ.env):=by
 unfold vV;cases bL.tZ T.DG f with
 |none=>rfl
 |some z=>
  obtain⟨sig,M⟩:=z;cases vq as with
  |none=>rfl
  |some b=>
   simp only
   by_cases c:(tv sig b).Nodup
   ·rw[aj c,aj c];show(match qI σ.h (fk σ.h (tv sig b)) sig b with|some (ds,a)=>_|none=>none)=_
    cases qI σ.h (fk σ.h (tv sig b)) sig b with
    |none=>rfl
    |some z=>
     obtain⟨ds,a⟩:=z;simp only
     cases M ds with
     |none=>rfl
     |some z=>
      obtain⟨i,g⟩:=z;simp only[aiN];cases σ.uy a g with
      |none=>rfl
      |some σ1=>
       simp only[By,asq];cases σ1.nF m (BM d) i with
       |none=>rfl
       |some z=>
        obtain⟨ls,σ2⟩:=z;simp only[By,FZ]
   ·rw[ak c,ak c];rfl
theorem an8 (T:bL) (m:Mode) (d:Option Nat) (f:FuncId) (as:List aE) (σ:St) (e:Nat->aE): AF T m d f as (σ.we e)=(AF T m d f as σ).map fun τ=>τ.we (Ab e d τ.env):=by unfold AF;cases bL.xD T.xs f with|none=>rfl|some z=>obtain⟨i,M⟩:=z;simp only;cases as[i]? with|none=>rfl|some x=>have a:(σ.we e).h=σ.h:=rfl;simp only[a];cases Km σ.h x with|none=>rfl|some z=>obtain⟨n,lo,len,N⟩:=z;exact abH _ _ _ _ _ _ _
theorem T4:∀(as:List aE) (σ:St) (e:Nat->aE),(σ.we e).mB as=(σ.mB as).map fun x=>(x.1,x.2.1,x.2.2.we e)
 |[],σ,e=>rfl
 |v::as,σ,e=>by simp only[St.mB,Si,R7];cases yP σ.h v with|some x=>obtain⟨n,xs⟩:=x;simp only[T4 as σ e];cases σ.mB as<;>rfl|none=>simp only;cases v.cells? with|none=>rfl|some x=>obtain⟨ag,cs⟩:=x;simp only;cases σ.jp cs with|none=>rfl|some y=>obtain⟨xs,o,σ1⟩:=y;simp only[By,T4 as σ1 e];cases σ1.mB as<;>rfl
theorem azh (σ:St) (e:Nat->aE) (ns:List Nat) (out:List C):(σ.we e).zR ns out=(σ.zR ns out).map (·.we e):=by
 match ns,out with
 |[],[]=>rfl
 |[],_::_=>rfl
 |[n],out=>
  simp only[St.zR,Si];cases σ.h n with
  |none=>rfl
  |some b=>
   cases b with
   |box cs=>simp only;split<;>rfl
   |row gr m rs xs=>rfl
 |_::_::_,out=>rfl
theorem am3 (σ:St) (e:Nat->aE) (d:Option Nat) (a:List Dv):yQ (σ.we e) d a=(yQ σ d a).map fun τ=>τ.we (Ab e d τ.env):=by unfold yQ;split;(cases d with|none=>rfl|some q=>simp only[PZ];cases σ.ins q _ with|none=>rfl|some σ1=>simp only[By,FZ]);cases mG a with|none=>rfl|some ls=>simp only[By,FZ]
theorem an5 (T:bL) (d:Option Nat) (f:FuncId) (as:List aE) (σ:St) (e:Nat->aE): xy T d f as (σ.we e)=(xy T d f as σ).map fun τ=>τ.we (Ab e d τ.env):=by unfold xy;rw[T4];cases σ.mB as with|none=>rfl|some x=>obtain⟨ds,ns,σ1⟩:=x;simp only[By];cases bL.rR T.vs f with|none=>rfl|some M=>simp only;cases M ds with|none=>rfl|some z=>obtain⟨a,out⟩:=z;simp only[azh];cases σ1.zR ns out with|none=>rfl|some σ2=>exact am3 σ2 e d a
theorem UM (T:bL) (d:Option Nat) (op:eB) (σ:St) (e:Nat->aE) (a:∀x∈op.args,(σ.we e).ev x=σ.ev x) (hd:∀sz x v,op=.store sz x v->d=none):
  exec T d op (σ.we e)=(exec T d op σ).map fun τ=>τ.we (Ab e d τ.env):=by
 by_cases j:op.jF<=1
 ·rw[xA T d op _ j,xA T d op _ j,M1 T d op _ a];show Option.bind (rd T d op σ.ev σ.h) _=_;cases rd T d op σ.ev σ.h with
  |none=>rfl
  |some x=>
   simp only[IN,ie,Mh];cases σ.fQ x.2 with
   |none=>rfl
   |some σ1=>simp only[By,FZ]
 ·cases op<;>simp[eB.jF] at j
  case gk sz ps=>
   have hl:ps.map (σ.we e).ev=ps.map σ.ev:=OF a;simp only[exec,hl,alS];cases d with
   |none=>rfl
   |some n=>
    cases σ.oJ sz (ps.map σ.ev) with
    |none=>rfl
    |some x=>
     obtain⟨u,o,σ1⟩:=x;simp only[By,PZ];cases σ1.ins n (.row true (if o=true then .bq else .bn) sz u) with
     |none=>rfl
     |some σ2=>simp only[By,FZ]
  case store sz x v=>
   have c:=a x (by simp[eB.args]);have l:=a v (by simp[eB.args]);have hd:=hd sz x v rfl;subst hd;simp only[exec,c,l];cases σ.ev x with
   |one p=>cases p with
    |ptr n k r off=>
     cases (σ.ev v).cells? with
     |none=>rfl
     |some y=>
      obtain⟨ag,vs⟩:=y;have:(σ.we e).h n=σ.h n:=rfl;simp only[this];split
      ·cases σ.h n with
       |none=>rfl
       |some b=>cases b with
        |box cs=>simp only;split<;>rfl
        |row g m q xs=>
         simp only
         split
         ·cases xs[k]? with
          |none=>rfl
          |some el=>simp only[aAV];rfl
         ·rfl
      ·rfl
    |ez n k r off s i=>
     cases (σ.ev v).cells? with
     |none=>rfl
     |some y=>
      obtain⟨ag,vs⟩:=y;have:(σ.we e).h n=σ.h n:=rfl;simp only[this];split
      ·cases σ.h n with
       |none=>rfl
       |some b=>cases b with
        |box cs=>rfl
        |row g m q xs=>cases m with
         |live=>cases g with
          |true=>rfl
          |false=>
           simp only
           split
           ·cases Ge xs k off s i vs<;>rfl
           ·rfl
         |_=>cases g<;>rfl
      ·rfl
    |_=>cases (σ.ev v).cells?<;>rfl
   |agg cs=>cases (σ.ev v).cells?<;>rfl
   |dh cs=>cases (σ.ev v).cells?<;>rfl
  case append fl sz by_ x y=>
   have c:=a x (by simp[eB.args]);have l:=a y (by simp[eB.args]);simp only[exec,c,l,amL];cases d with
   |none=>rfl
   |some n=>
    simp only
    cases yN σ sz (σ.ev x) with
    |none=>rfl
    |some z=>
     obtain⟨xs,m,σ1⟩:=z;simp only[By,amM];cases sO fl σ1 sz m (σ.ev y) with
     |none=>rfl
     |some z=>
      obtain⟨ys,m2,σ2⟩:=z;simp only[By];split
      ·simp only[PZ];cases σ2.ins n (.row true m2 sz (xs++ys)) with
       |none=>rfl
       |some j6=>simp only[By,FZ]
      ·rfl
  case vR z x=>
   have c:=a x (by simp[eB.args]);have t:(σ.we e).h=σ.h:=rfl;simp only[exec,c,t];cases σ.ev x with
   |one p=>cases p with
    |sl n s lo len=>
     simp only
     cases σ.h n with
     |none=>rfl
     |some b=>cases b with
      |box cs=>rfl
      |row g m q xs=>
       simp only
       split
       ·exact congrArg some (FZ (σ.gu n _) e d _)
       ·rfl
    |_=>rfl
   |_=>rfl
  case kH m f xs=>
   have hl:xs.map (σ.we e).ev=xs.map σ.ev:=OF a;simp only[exec,hl,abH]
  case tR f xs=>
   have hl:xs.map (σ.we e).ev=xs.map σ.ev:=OF a;simp only[exec,hl,an5]
  case tT m f xs=>
   have hl:xs.map (σ.we e).ev=xs.map σ.ev:=OF a;simp only[exec,hl,an8]
section
variable {u vv:Nat->Prop} {h h':Nat->Option bf}
theorem avt (b:∀n,u n->h' n=h n) {p:ar} (a:∀m,p.ref m->u m) (sz:Nat):loadAt h' p sz=loadAt h p sz:=by cases p with|ptr n k c off=>simp only[loadAt,b n (a n rfl)]|ez n k c off s i=>simp only[loadAt,b n (a n rfl)]|_=>rfl
theorem ar.F3 {c:ar} {m:Nat} (h:c.lf m):c.ref m:=by cases c<;>first|exact h|exact h.elim
def aE.F4:aE->Nat->Prop
 |.one c,m=>c.lf m
 |.agg cs,m=>∃c∈cs,c.lf m
 |.dh _,_=>False
theorem aE.aiZ {x:aE} {m:Nat} (h:x.F4 m):x.ref m:=by cases x with|one c=>exact ar.F3 h|agg cs=>obtain⟨c,a,h⟩:=h;exact⟨c,a,ar.F3 h⟩|dh xs=>exact h.elim
theorem Ki (b:∀n,u n->h' n=h n) {p:ar} (a:∀m,p.lf m->u m):eA h' p=eA h p:=by cases p with|sl n sz lo len=>simp only[eA,b n (a n rfl)]|cG n k aZ off sz len=>simp only[eA,b n (a n rfl)]|_=>rfl
theorem Sg (a:∀n,u n->h' n=h n):∀{l:List ar} (_:∀p∈l,∀m,p.lf m->u m),lm h' l=lm h l
 |[],_=>rfl
 |c::cs,hp=>by have d:=Ki a (hp c (by simp));have b:=Sg a (l:=cs) fun p q=>hp p (zav _ q);simp only[lm,d,b]
theorem aBi (a:∀n,u n->h' n=h n) (l:∀m cs c n,vv m->h m=some (.box cs)->c∈cs->c.ref n->u n) {x:aE} (hx:∀m,x.F4 m->u m) (g:∀m,x.F4 m->vv m):lH h' x=lH h x:=by cases x with|one c=>(cases c with|ptr n k sz off=>simp only[lH,a n (hx n rfl)];(cases hn:h n with|none=>rfl|some b=>cases b with|box cs=>simp only[Sg a fun p d m hm=>l n cs p m (g n rfl) hn d (ar.F3 hm)]|row gr m sz xs=>rfl)|eU xs off=>rfl|c x=>rfl|nil sz=>rfl|sl n sz lo len=>simp only[lH];rw[Ki a (p:=.sl n sz lo len) hx]|cG n k e off sz len=>simp only[lH];rw[Ki a (p:=.cG n k e off sz len) hx]|ez n k e off sz i=>rfl|dW xs off j n sz len=>rfl|fn f fv=>rfl|cC=>rfl)|agg cs=>simp only[lH,Sg a fun p d m hm=>hx m ⟨p,d,hm⟩]|dh xs=>rfl
theorem ZW (b:∀n,u n->h' n=h n) (a:∀m cs c n,vv m->h m=some (.box cs)->c∈cs->c.ref n->u n):∀{xs:List aE} (_:∀x∈xs,∀m,x.F4 m->u m) (_:∀x∈xs,∀m,x.F4 m->vv m),qa h' xs=qa h xs
 |[],_,_=>rfl
 |x::xs,hx,hv=>by have e:=aBi b a (hx x (by simp)) (hv x (by simp));have d:=ZW b a (xs:=xs) (fun p q=>hx p (zav _ q)) (fun p q=>hv p (zav _ q));simp only[qa,e,d]
theorem avG (d:∀n,u n->h' n=h n) {b:Mode} {c:ar} (a:∀m,c.ref m->u m):yf h' b c=yf h b c:=by cases c with|sl n sz lo len=>simp only[yf,d n (a n rfl)]|cG n k aZ off sz len=>simp only[yf,d n (a n rfl)]|_=>rfl
theorem aey (a:∀n,u n->h' n=h n) (ns:List Nat):∀n,u n->fk h' ns n=fk h ns n:=fun n hn=>by simp only[fk,a n hn]
theorem XM (d:∀n,u n->h' n=h n) (ns:List Nat):∀(a:List (Option Mode)) (cs:List ar),(∀c∈cs,∀m,c.ref m->u m)->oF h' (fk h' ns) a cs=oF h (fk h ns) a cs
 |[],cs,hc=>by simp only[oF,Sg (aey d ns) fun p b m hm=>hc p b m (ar.F3 hm)]
 |none::a,c::cs,hc=>by simp only[oF,Ki (aey d ns) fun m hm=>hc c (by simp) m (ar.F3 hm),XM d ns a cs fun p b=>hc p (by simp[b])]
 |some md::a,c::cs,hc=>by simp only[oF,avG d (hc c (by simp)),XM d ns a cs fun p b=>hc p (by simp[b])]
 |none::_,[],_=>rfl
 |some _::_,[],_=>rfl
theorem ah1 (a:∀n,u n->h' n=h n) (ns:List Nat):∀(as:List (Bool×List ar)) (sig:cX),(∀x∈as,∀c∈x.2,∀m,c.ref m->u m)->qI h' (fk h' ns) sig as=qI h (fk h ns) sig as
 |[],_,_=>rfl
 |(ag,cs)::as,sig,hc=>by simp only[qI,XM a ns (cX.hd sig) cs (hc (ag,cs) (by simp)),ah1 a ns as (cX.tl sig) fun x hx=>hc x (by simp[hx])]
theorem XN:∀{e:List (Option Mode)} {cs:List ar} {n:Nat},n∈sC e cs->∃c∈cs,c.ref n
 |some _::e,c::cs,n,hn=>by simp only[sC] at hn;rcases zan.1 hn with h|h;refine⟨c,by simp,?_⟩;cases c<;>simp[ar.gh] at h<;>(subst h;rfl);obtain⟨b,d,a⟩:=XN h;exact⟨b,by simp[d],a⟩
 |none::e,c::cs,n,hn=>by simp only[sC] at hn;obtain⟨b,d,a⟩:=XN hn;exact⟨b,by simp[d],a⟩
 |[],_,n,hn=>by simp[sC] at hn
 |some _::_,[],n,hn=>by simp[sC] at hn
 |none::_,[],n,hn=>by simp[sC] at hn
theorem agn:∀{as:List (Bool×List ar)} {sig:cX} {n:Nat},n∈tv sig as->∃x∈as,∃c∈x.2,c.ref n
 |a::as,s::sig,n,hn=>by simp only[tv] at hn;rcases zan.1 hn with h|h;obtain⟨c,d,b⟩:=XN h;exact⟨a,by simp,c,d,b⟩;obtain⟨x,d,b⟩:=agn h;exact⟨x,by simp[d],b⟩
 |[],s::sig,n,hn=>by simp[tv] at hn
 |as,[],n,hn=>by cases as<;>simp[tv] at hn
theorem af2:∀{as:List aE} {a:List (Bool×List ar)},vq as=some a->∀x∈a,∀c∈x.2,∀m,c.ref m->∃v∈as,v.ref m
 |[],a,hx,x,hm=>by simp only[vq] at hx;injection hx with hx;subst hx;cases hm
 |v::vs,a,hx,x,hm=>by simp only[vq] at hx;split at hx;rename_i y ys g d;injection hx with hx;subst hx;intro c b m hr;(cases hm with|head=>exact⟨v,by simp,aE.EH g b hr⟩|tail _ hm=>obtain⟨e,h,f⟩:=af2 d x hm c b m hr;exact⟨e,by simp[h],f⟩);cases hx
theorem an7 (g:∀n,u n->h' n=h n) {T:bL} {f:FuncId} {as:List aE} (hx:∀x∈as,∀m,x.ref m->u m):uU T f as h'=uU T f as h:=by unfold uU;cases bL.xC T.ws f with|none=>rfl|some M=>obtain⟨sig,M⟩:=M;cases hc:vq as with|none=>rfl|some a=>have hr:∀x∈a,∀c∈x.2,∀m,c.ref m->u m:=fun x b c d m e=>(by obtain⟨v,i,j⟩:=af2 hc x b c d m e;exact hx v i m j);simp only;cases hn:tv sig a with|nil=>rfl|cons n l=>cases l with|cons n2 l=>rfl|nil=>obtain⟨x,b,c,d,e⟩:=agn (n:=n) (sig:=sig) (as:=a) (by rw[hn];simp);simp only[ah1 g [n] a sig hr,g n (hr x b c d n e)]
theorem azr (T:bL) (d:Option Nat) (op:eB) (ev:MO->aE) (b:∀n,u n->h' n=h n) (v:op.asA=true->∀m cs c n,vv m->h m=some (.box cs)->c∈cs->c.ref n->u n) (hx:∀x∈op.args,∀m,(ev x).ref m->u m) (t:∀x∈op.args,∀m,(ev x).ref m->vv m):rd T d op ev h'=rd T d op ev h:=by cases op with|load ag sz x=>have a:=hx x (by simp[eB.args]);simp only[rd];(cases hv:ev x with|one p=>rw[hv] at a;simp only[avt b (p:=p) a]|_=>rfl)|rQ off x=>have a:=hx x (by simp[eB.args]);simp only[rd];(cases hv:ev x with|one p=>(cases p with|ptr n k sz off=>rw[hv] at a;simp only[b n (a n rfl)]|_=>rfl)|_=>rfl)|len x=>have a:=hx x (by simp[eB.args]);simp only[rd];(cases hv:ev x with|one p=>(cases p with|sl n sz lo len=>rw[hv] at a;simp only[b n (a n rfl)]|cG n k r off sz len=>rw[hv] at a;simp only[Ki b (p:=.cG n k r off sz len) (fun m hm=>a m (ar.F3 hm))]|c x=>cases x<;>rfl|_=>rfl)|_=>rfl)|ru sz x i=>have a:=hx x (by simp[eB.args]);simp only[rd];generalize (ev i).fZ=q;(cases hv:ev x with|one p=>(cases p with|sl n s lo len=>rw[hv] at a;have o:=b n (a n rfl);(cases q with|none=>rfl|some q=>simp only[o])|cG n k r off s len=>rw[hv] at a;(cases q with|none=>rfl|some q=>simp only[Ki b (p:=.cG n k r off s len) (fun m hm=>a m (ar.F3 hm))])|c x=>cases x<;>cases q<;>rfl|_=>cases q<;>rfl)|_=>cases q<;>rfl)|slice sz x lo hi=>have a:=hx x (by simp[eB.args]);simp only[rd];(cases hv:ev x with|one p=>(cases p with|sl n s l0 len=>rw[hv] at a;have o:=b n (a n rfl);(cases lo with|none=>simp only[o]|some lo=>simp only;cases (ev lo).fZ with|none=>rfl|some q=>simp only[o])|c x=>(cases lo with|none=>cases x<;>rfl|some lo=>simp only;cases (ev lo).fZ<;>cases x<;>rfl)|_=>cases lo<;>rfl)|_=>cases lo<;>rfl)|call m f xs=>simp only[rd,Oi];have g:∀e:Nat->Prop,(∀x∈(eB.call m f xs).args,∀m,(ev x).ref m->e m)->∀x∈xs.map ev,∀m,x.F4 m->e m:=(by intro e hx x j q l;obtain⟨y,hy,rfl⟩:=BY.1 j;exact hx y hy q (aE.aiZ l));rw[ZW b (v rfl) (g _ hx) (g _ t)]|qW f xs=>simp only[rd,Aw];have g:∀e:Nat->Prop,(∀x∈(eB.qW f xs).args,∀m,(ev x).ref m->e m)->∀x∈xs.map ev,∀m,x.F4 m->e m:=(by intro e hx x j q l;obtain⟨y,hy,rfl⟩:=BY.1 j;exact hx y hy q (aE.aiZ l));rw[ZW b (v rfl) (g _ hx) (g _ t)]|pG f xs=>rfl|qX f xs=>have:uU T f (xs.map ev) h'=uU T f (xs.map ev) h:=an7 b fun x j q l=>(by obtain⟨y,hy,rfl⟩:=BY.1 j;exact hx y hy q l);simp only[rd,this]|_=>rfl
theorem aiP (T:bL) (d:Option Nat) (op:eB) (ev:MO->aE) (b:∀n,u n->h' n=h n) (a:∀m cs c n,h m=some (.box cs)->c∈cs->c.ref n->u n) (hx:∀x∈op.args,∀m,(ev x).ref m->u m):rd T d op ev h'=rd T d op ev h:= azr (vv:=fun _=>True) T d op ev b (fun _ m cs c n _=>a m cs c n) hx (fun _ _ _ _=>trivial)
theorem aiR (T:bL) (d:Option Nat) (op:eB) (ev:MO->aE) (h h':Nat->Option bf) (a:op.jF=0):rd T d op ev h'=rd T d op ev h:=by cases op<;>simp[eB.jF] at a<;>rfl
end
def oG (e:Nat->aE) (d:Option Nat) (v:aE):Nat->aE:=
 match d with
 |some n=>bj e n v
 |none=>e
theorem DW (σ:St) (d:Option Nat) (v:aE):σ.put d v=σ.we (oG σ.env d v):=by cases d<;>rfl
theorem Jy {e:Nat->aE} {d:Option Nat} {v:aE} {n:Nat} (h:d≠some n):oG e d v n=e n:=by cases d with|none=>rfl|some m=>exact dZ _ _ _ _ (fun a=>h (by rw[a]))
theorem Yr (e:Nat->aE) {d a:Option Nat} (v c:aE) (h:∀n,d=some n->a≠some n):oG (oG e d v) a c=oG (oG e a c) d v:=by cases d with|none=>rfl|some n=>cases a with|none=>rfl|some m=>have g:m≠n:=fun i=>h n rfl (by rw[i]);funext k;simp only[oG,nt];by_cases f:k=m;by_cases b:k=n;omega;simp[f,g];by_cases b:k=n;simp[b,zaF g];simp[f,b]
def amc (d:Option Nat) (x:Nat->aE):aE:=
 match d with
 |some n=>x n
 |none=>.one .cC
theorem ZQ (e:Nat->aE) (d:Option Nat) (x:Nat->aE):Ab e d x=oG e d (amc d x):=by cases d<;>rfl
theorem asu {σ σ1 σ2:St} {n m:Nat} {b c:bf} (d:σ.ins n b=some σ1) (a:σ1.ins m c=some σ2):∃τ,σ.ins m c=some τ/\τ.ins n b=some σ2:=by
 obtain⟨g,rfl⟩:=ui d;obtain⟨u2,rfl⟩:=ui a;have f:m≠n:=fun e=>by subst e;simp[dD] at u2
 have h:σ.used m=false:=by simpa[dZ _ _ _ _ f] using u2
 have un:bj σ.used m true n=false:=by rw[dZ _ _ _ _ (zaF f)];exact g
 refine⟨_,by unfold St.ins;rw[ak (by simp[h])],?_⟩;unfold St.ins;simp only[un,zam,if_false];congr 2<;>(funext k;simp only[nt];by_cases d:k=m<;>by_cases a:k=n<;>simp_all)
theorem aeV {m:Nat} {c:bf}:∀{A:List (Nat×bf)} {σ σ1 σ2:St},σ.fQ A=some σ1->σ1.ins m c=some σ2->∃τ,σ.ins m c=some τ/\τ.fQ A=some σ2
 |[],σ,σ1,σ2,a,h2=>by simp only[St.fQ] at a;injection a with a;subst a;exact⟨σ2,h2,rfl⟩
 |(n,b)::A,σ,σ1,σ2,a,h2=>by simp only[St.fQ] at a;split at a;rename_i B8 e;obtain⟨τ,g,i⟩:=aeV a h2;obtain⟨d,h,f⟩:=asu e g;exact⟨d,h,by simp only[St.fQ,f];exact i⟩;cases a
theorem aeW:∀{b A:List (Nat×bf)} {σ σ1 σ2:St},σ.fQ A=some σ1->σ1.fQ b=some σ2->∃τ,σ.fQ b=some τ/\τ.fQ A=some σ2
 |[],A,σ,σ1,σ2,h1,a=>by simp only[St.fQ] at a;injection a with a;subst a;exact⟨σ,rfl,h1⟩
 |(m,c)::b,A,σ,σ1,σ2,h1,a=>by simp only[St.fQ] at a;split at a;rename_i j6 e;obtain⟨τ,g,i⟩:=aeV h1 e;obtain⟨d,h,f⟩:=aeW i a;exact⟨d,by simp only[St.fQ,g];exact h,f⟩;cases a
theorem PY:∀{A:List (Nat×bf)} {σ σ1:St},σ.fQ A=some σ1->(∀n,σ.used n=true->σ1.used n=true/\σ1.h n=σ.h n)/\σ1.env=σ.env
 |[],σ,σ1,a=>by simp only[St.fQ] at a;injection a with a;subst a;exact⟨fun n hn=>⟨hn,rfl⟩,rfl⟩
 |(m,c)::A,σ,σ1,a=>by simp only[St.fQ] at a;split at a;rename_i B8 e;obtain⟨b,rfl⟩:=ui e;obtain⟨g,j⟩:=PY a;refine⟨fun n hn=>?_,j⟩;have k:n≠m:=fun f=>(by subst f;rw[b] at hn;cases hn);obtain⟨i,d⟩:=g n (Ac _ _ hn);exact⟨i,by rw[d];exact dZ _ _ _ _ k⟩;cases a
structure Wf (σ:St):Prop where
 env:∀s m,(σ.env s).ref m->σ.used m=true
 box:∀m cs c n,σ.h m=some (.box cs)->c∈cs->c.ref n->σ.used n=true
def ar.flat:ar->Bool
 |.c _|.nil _|.cC=>true
 |_=>false
def MO.flat:MO->Bool
 |.t _=>true
 |.k (.one c)=>c.flat
 |.k (.agg cs)=>cs.all ar.flat
 |.k (.dh xs)=>xs.isEmpty
theorem ar.acz {c:ar} (h:c.flat=true) (m:Nat):¬c.ref m:=by cases c<;>first|exact id|(simp[ar.flat] at h)
theorem Wf.arg {σ:St} (W:Wf σ) {x:MO} (hx:x.flat=true) (m:Nat) (hm:(σ.ev x).ref m):σ.used m=true:=by cases x with|t n=>exact W.env n m hm|k v=>cases v with|one c=>exact absurd hm (ar.acz hx m)|agg cs=>obtain⟨c,a,hm⟩:=hm;exact absurd hm (ar.acz (GB.1 hx c a) m)|dh xs=>have:xs=[]:=(by simpa[MO.flat] using hx);subst this;obtain⟨c,a,_⟩:=hm;cases a
theorem aiQ (T:bL) (d:Option Nat) (op:eB) (ev:MO->aE) (h:Nat->Option bf) (a:op.jF=0) {x:aE×List (Nat×bf)} (hx:rd T d op ev h=some x):x.2=[]:=by cases op<;>simp[eB.jF] at a<;>simp only[rd] at hx;all_goals (repeat' split at hx);all_goals first|(cases hx;rfl)|(cases hx)
theorem abW {σ:St} {e:Nat->aE} {x:MO} (h:∀n,x=.t n->e n=σ.env n):(σ.we e).ev x=σ.ev x:=by cases x with|t n=>exact h n rfl|k v=>rfl
section
variable {T:bL} {dx dy:Option Nat} {x y:eB} {σ σ1 σ2:St}
theorem O2 (a:∀sz p v,x=.store sz p v->dx=none) (b:exec T dx x σ=some σ1):σ1.env=oG σ.env dx (amc dx σ1.env):=by
 have h:=UM T dx x σ σ.env (fun _ _=>rfl) a;rw[aBl,b] at h;simp only[By] at h;injection h with h;rw[<-ZQ]
 calc σ1.env=(σ1.we (Ab σ.env dx σ1.env)).env:=by rw[<-h]
  _=_:=rfl
theorem anJ (W:Wf σ) (hd:∀n,dx=some n->dy≠some n) (I:∀n,dx=some n->MO.t n∉y.args) (J:∀n,dy=some n->MO.t n∉x.args) (V:∀a∈x.args,a.flat=true) (E:∀a∈y.args,a.flat=true) (O:∀sz p v,x=.store sz p v->dx=none) (C:∀sz p v,y=.store sz p v->dy=none) (aBE:x.jF=0\/y.jF=0\/(x.jF<=1/\y.jF<=1)) (c:exec T dx x σ=some σ1) (b:exec T dy y σ1=some σ2):∃τ,exec T dy y σ=some τ/\exec T dx x τ=some σ2:=by have r:∀(e:Nat->aE) (v:aE) (s:St),∀a∈y.args,(s.we (oG s.env dx v)).ev a=s.ev a:=fun e v s a d=>abW fun n hn=>Jy fun i=>I n i (hn▸d);have o:∀(e:Nat->aE) (v:aE) (s:St),∀a∈x.args,(s.we (oG s.env dy v)).ev a=s.ev a:=fun e v s a d=>abW fun n hn=>Jy fun i=>J n i (hn▸d);by_cases P:x.jF=0;rw[xA T dx x σ (by omega)] at c;(cases hr:rd T dx x σ.ev σ.h with|none=>rw[hr] at c;cases c|some p=>obtain⟨v,H⟩:=p;have F:H=[]:=aiQ T dx x _ _ P hr;subst F;rw[hr] at c;simp only[IN,ie,St.fQ,By] at c;injection c with c;rw[DW] at c;subst c;rw[UM T dy y σ _ (r σ.env v σ) C] at b;cases hy:exec T dy y σ with|none=>rw[hy] at b;cases b|some τ=>rw[hy] at b;simp only[By] at b;injection b with b;refine⟨τ,rfl,?_⟩;have w:=O2 C hy;rw[xA T dx x τ (by omega),aiR T dx x τ.ev σ.h τ.h P,M1 T dx x (ev:=σ.ev) (ev':=τ.ev) σ.h (fun a d=>by cases a with|t n=>show τ.env n=σ.env n;rw[w];exact Jy fun i=>J n i d|k v=>rfl),hr];simp only[IN,ie,St.fQ,By];rw[<-b,DW];congr 1;have:oG τ.env dx v=Ab (oG σ.env dx v) dy τ.env:=(by rw[ZQ,Yr σ.env _ _ hd];rw[<-w]);rw[this]);by_cases N:y.jF=0;rw[xA T dy y σ1 (by omega)] at b;(cases hr:rd T dy y σ1.ev σ1.h with|none=>rw[hr] at b;cases b|some p=>obtain⟨v,H⟩:=p;have F:H=[]:=aiQ T dy y _ _ N hr;subst F;rw[hr] at b;simp only[IN,ie,St.fQ,By] at b;injection b with b;have w:=O2 O c;refine⟨σ.put dy v,?_,?_⟩;rw[xA T dy y σ (by omega),aiR T dy y σ.ev σ1.h σ.h N,M1 T dy y (ev:=σ1.ev) (ev':=σ.ev) σ1.h (fun a d=>by cases a with|t n=>show σ.env n=σ1.env n;rw[w];exact(Jy fun i=>I n i d).symm|k v=>rfl),hr];rfl;rw[DW,UM T dx x σ _ (o σ.env v σ) O,c];simp only[By];rw[<-b,DW];congr 2;rw[ZQ,<-Yr σ.env _ _ hd,<-w]);have l:x.jF<=1:=(by omega);have z:y.jF<=1:=(by omega);rw[xA T dx x σ l] at c;cases hr:rd T dx x σ.ev σ.h with|none=>rw[hr] at c;cases c|some p=>obtain⟨v,A⟩:=p;rw[hr] at c;simp only[IN,ie] at c;cases hA:σ.fQ A with|none=>rw[hA] at c;cases c|some f=>rw[hA] at c;simp only[By] at c;injection c with c;rw[DW] at c;subst c;obtain⟨U,K⟩:=PY hA;rw[xA T dy y _ z] at b;have D:rd T dy y (f.we (oG f.env dx v)).ev (f.we (oG f.env dx v)).h=rd T dy y σ.ev σ.h:=(by rw[M1 T dy y (ev:=σ.ev) _ (fun a d=>by rw[r σ.env v f a d];cases a with|t n=>show f.env n=σ.env n;rw[K]|k v=>rfl)];exact aiP (u:=fun n=>σ.used n=true) T dy y σ.ev (fun n hn=>(U n hn).2) W.box (fun a d m hm=>W.arg (E a d) m hm));rw[D] at b;cases Wr:rd T dy y σ.ev σ.h with|none=>rw[Wr] at b;cases b|some q=>obtain⟨j,Q⟩:=q;rw[Wr] at b;simp only[IN,ie,Mh] at b;cases hB:f.fQ Q with|none=>rw[hB] at b;cases b|some B=>rw[hB] at b;simp only[By] at b;injection b with b;obtain⟨g,M,S⟩:=aeW hA hB;obtain⟨R,L⟩:=PY M;obtain⟨oab,eab⟩:=PY hB;refine⟨g.put dy j,?_,?_⟩;rw[xA T dy y σ z,Wr];simp[ie,M];rw[DW,xA T dx x _ l];have G:rd T dx x (g.we (oG g.env dy j)).ev (g.we (oG g.env dy j)).h=rd T dx x σ.ev σ.h:=(by rw[M1 T dx x (ev:=σ.ev) _ (fun a d=>by rw[o σ.env j g a d];cases a with|t n=>show g.env n=σ.env n;rw[L]|k v=>rfl)];exact aiP (u:=fun n=>σ.used n=true) T dx x σ.ev (fun n hn=>(R n hn).2) W.box (fun a d m hm=>W.arg (V a d) m hm));rw[G,hr];simp only[IN,ie,Mh,S,By];rw[<-b,DW,DW];congr 1;show B.we (oG (oG g.env dy j) dx v)=B.we (oG (oG f.env dx v) dy j);rw[L,K,Yr σ.env _ _ hd]
end
theorem UL (T:bL) (o:eI) (σ:St):iY T o σ=(xz o σ.env).bind fun op=>exec T o.dst op σ:=by unfold iY xz;cases hg:o.guard with|none=>rfl|some g=>obtain⟨s,vG⟩:=g;simp only;generalize σ.env s=v;cases v with|one c=>(cases c with|c x=>(cases x with|bool b=>simp only;split<;>rfl|_=>rfl)|_=>rfl)|agg cs=>rfl|dh xs=>cases xs<;>rfl
def eI.DM (o:eI) (n:Nat):Bool:=(o.op.args.all fun a=>match a with|.t m=>m !=n|_=>true)&&(match o.guard with|some (s,_)=>s !=n|none=>true)
def eI.CN (o:eI):Bool:=o.op.args.all MO.flat&&(match o.op with|.store ..=>o.dst.isNone|_=>true)
def HJ (x y:eI):Bool:=
 (match x.dst with|some d=>y.DM d&&(match y.dst with|some e=>e !=d|none=>true)|none=>true)&&
 (match y.dst with|some d=>x.DM d|none=>true)&&x.CN&&y.CN&&(x.op.jF==0||y.op.jF==0||(decide (x.op.jF<=1)&&decide (y.op.jF<=1)))
theorem eI.ah6 {o:eI} {n:Nat} (h:o.DM n=true):MO.t n∉o.op.args:=by intro hm;simp only[eI.DM,co,GB] at h;have:=h.1 _ hm;simp at this
theorem abJ {o:eI} {e:Nat->aE} {op:eB} (h:xz o e=some op):op=o.op\/op=.mv (.k (.dh [])):=by unfold xz at h;split at h;injection h with h;exact .inl h.symm;split at h;split at h;injection h with h;exact .inl h.symm;injection h with h;exact .inr h.symm;injection h with h;exact .inr h.symm;cases h
theorem abK {o:eI} {e a:Nat->aE} (h:∀s w,o.guard=some (s,w)->a s=e s):xz o a=xz o e:=by unfold xz;cases hg:o.guard with|none=>rfl|some g=>obtain⟨s,w⟩:=g;simp only;rw[h s w hg]
theorem anI {T:bL} {x y:eI} {σ σ1 σ2:St} (W:Wf σ) (F:HJ x y=true) (b:iY T x σ=some σ1) (d:iY T y σ1=some σ2): ∃τ,iY T y σ=some τ/\iY T x τ=some σ2:=by simp only[HJ,co] at F;obtain⟨⟨⟨⟨g,r⟩,q⟩,z⟩,G⟩:=F;rw[UL] at b d;cases ex:xz x σ.env with|none=>rw[ex] at b;cases b|some f=>rw[ex] at b;have b:exec T x.dst f σ=some σ1:=b;have u:f=x.op\/f=.mv (.k (.dh [])):=abJ ex;have l:∀sz p v,f=.store sz p v->x.dst=none:=(by intro sz p v i;rcases u with rfl|rfl;simp only[eI.CN,co,i] at q;simpa using q.2;cases i);have L:=O2 l b;have B:∀s w,y.guard=some (s,w)->x.dst≠some s:=(by intro s w h hd;rw[hd] at g;simp[eI.DM,h] at g);have A:∀s w,x.guard=some (s,w)->y.dst≠some s:=(by intro s w h hd;rw[hd] at r;simp[eI.DM,h] at r);have D:xz y σ1.env=xz y σ.env:=abK fun s w h=>(by rw[L];exact Jy (B s w h));rw[D] at d;cases ey:xz y σ.env with|none=>rw[ey] at d;cases d|some c=>rw[ey] at d;have d:exec T y.dst c σ1=some σ2:=d;have o:c=y.op\/c=.mv (.k (.dh [])):=abJ ey;have m:∀sz p v,c=.store sz p v->y.dst=none:=(by intro sz p v i;rcases o with rfl|rfl;simp only[eI.CN,co,i] at z;simpa using z.2;cases i);have C:∀a∈f.args,a.flat=true:=(by rcases u with rfl|rfl;simp only[eI.CN,co,GB] at q;exact q.1;intro a j;simp[eB.args] at j;subst j;rfl);have E:∀a∈c.args,a.flat=true:=(by rcases o with rfl|rfl;simp only[eI.CN,co,GB] at z;exact z.1;intro a j;simp[eB.args] at j;subst j;rfl);have I:∀n,x.dst=some n->MO.t n∉c.args:=(by intro n hd;rcases o with rfl|rfl;rw[hd] at g;simp only[co] at g;exact eI.ah6 g.1;simp[eB.args]);have K:∀n,y.dst=some n->MO.t n∉f.args:=(by intro n hd;rcases u with rfl|rfl;rw[hd] at r;exact eI.ah6 r;simp[eB.args]);have M:∀n,x.dst=some n->y.dst≠some n:=(by intro n hd i;rw[hd,i] at g;simp at g);have N:f.jF=0\/c.jF=0\/(f.jF<=1/\c.jF<=1):=(by rcases u with rfl|rfl;rcases o with rfl|rfl;simp only[zay,beq_iff_eq,co,decide_eq_true_eq,or_assoc] at G;exact G;exact .inr (.inl rfl);exact .inl rfl);obtain⟨τ,H,J⟩:=anJ W M I K C E l m N b d;refine⟨τ,?_,?_⟩;rw[UL,ey];exact H;rw[UL,abK (e:=σ.env) (fun s w h=>by rw[O2 m H];exact Jy (A s w h)),ex];exact J
def Kx (P:Program) (f:FuncId) (M:List Dv->Option (List Dv)):Prop:=
 ∀ds rs,M ds=some rs->∀(w:World) (vals:List Value),Kn w ds vals->Calls P f vals.toArray w fun e w'=>
  ∃(sz cap:Nat) (a:Option Addr) (xs:List (List PC)),rs=[(.one,[(PC.list sz a cap xs).er])]/\e=.returned (PC.list sz a cap xs).val/\Cu w' w.heap.size [PC.list sz a cap xs]/\Fr w.heap.size Ex.no w w'/\xl w' sz xs
theorem Kx.pure {P:Program} {f:FuncId} {M:List Dv->Option (List Dv)} (h:Kx P f M):dz P f M:=by intro ds l c w vals i;refine(h ds l c w vals i).mono fun e w' ⟨sz,cap,a,xs,d,j,k,g,_⟩=>?_;refine⟨[(.one,[PC.list sz a cap xs])],by rw[d];rfl,j,fun p b=>?_,by simpa using k,g⟩;simp at b;subst b;exact⟨by simp,fun _=>rfl⟩
def amD (P:Program) (T:bL):Prop:=∀f M,bL.find T.ns f=some M->Kx P f M
def Uh (ops:Array Oper) (o:Oper) (mo:eI):Bool:=
 match o.guard,mo.guard with
 |none,none=>true
 |some (j,vG),some (s,ami)=>decide ((ops[j]?).bind (·.dst)=some s)&&(vG==ami)
 |_,_=>false
def xx (P:Program) (N:Nat) (ops:Array Oper) (o:Oper) (mo:eI):Bool:=
 decide (o.dst=mo.dst)&&(match o.dst with|some n=>decide (n<N)|none=>true)&&Uh ops o mo&&iE P o mo.op
def n6 (P:Program) (N:Nat) (ops:Array Oper):List Oper->List eI->Bool
 |[],[]=>true
 |o::os,m::ms=>xx P N ops o m&&n6 P N ops os ms
 |_,_=>false
section
variable {B:Nat} {E:Ex} {w0 w w':World} {G G':Gh} {N:Nat}
variable {P:Program} {T:bL} {o:Oper} {mo:eI} {a:Act} {σ σ':St} {Q:Exit->Act->World->Prop} {ops:Array Oper}
structure sM (P:Program) (T:bL):Prop where
 spec:Hf P T
 aln:Ob P T
 alo:Hh P T
 alp:Cw P T
 aBW:amD P T
 fn:∀f M,bL.find T.pure f=some M->cg P f=true
theorem R.guard (r:R B E w0 N σ a w G) {j s:Nat} {b:Bool} (h:(ops[j]?).bind (·.dst)=some s) (f:σ.env s=.one (.c (.bool b))):yielded ops a.tmps j=some b:=by have e:=r.env s;rw[f] at e;have d:=e.Ht;have g:a.tmps[s]? =some (.bool b):=(by rw[zaa] at d;cases ht:a.tmps[s]? with|none=>rw[ht] at d;simp[undef] at d|some v=>rw[ht] at d;simp at d;rw[d]);unfold yielded;rw[h];simp[g]
theorem ala {w:World} {G:Gh} {h:Nat->Option bf}:RA w G h (.dh []) undef:=⟨[],rfl,rfl,fun j x u hx=>by simp at hx⟩
theorem alb {u:Nat->Prop} (m:Nat) (hm:(aE.dh []).ref m):u m:=by obtain⟨c,a,_⟩:=hm;cases a
theorem R.aqH (r:R B E w0 N σ a w G) {j s:Nat} (f:(ops[j]?).bind (·.dst)=some s) (d:σ.env s=.dh []):yielded ops a.tmps j=none:=by have c:=r.env s;rw[d] at c;obtain⟨vs,b,e,_⟩:=c;have:vs=[]:=zaH.1 e;subst this;rw[zaa] at b;unfold yielded;rw[f];simp only[IN];cases ht:a.tmps[s]? with|none=>rfl|some v=>rw[ht] at b;simp only[za9] at b;subst b;rfl
theorem O1 (r:R B E w0 N σ a w G) (c:sM P T) (l:xx P N ops o mo=true) (hx:iY T mo σ=some σ'): (Region.wanted o (yielded ops a.tmps)=true/\o.wp P a w (Nx B E w0 N σ') Q)\/(Region.wanted o (yielded ops a.tmps)=false/\Nx B E w0 N σ' (a.put o.dst undef) w):=by simp only[xx,co,decide_eq_true_eq] at l;obtain⟨⟨⟨f,m⟩,d⟩,q⟩:=l;have g:∀n,o.dst=some n->n<N:=fun n hn=>(by rw[hn] at m;simpa using m);unfold Uh at d;unfold iY at hx;split at d;rename_i e k;simp only[k] at hx;rw[<-f] at hx;exact .inl ⟨by simp[Region.wanted,e],ab4 r c.spec c.aln c.alo c.alp c.fn g q hx⟩;rename_i j vG s ami e k;simp only[co,decide_eq_true_eq,beq_iff_eq] at d;obtain⟨p,rfl⟩:=d;simp only[k] at hx;split at hx;rename_i b i;have hy:=r.guard p i;split at hx;rename_i h;rw[<-f] at hx;exact .inl ⟨by simp[Region.wanted,e,hy,h],ab4 r c.spec c.aln c.alo c.alp c.fn g q hx⟩;rename_i h;injection hx with hx;subst hx;refine .inr ⟨by simp[Region.wanted,e,hy,h],G,?_⟩;rw[<-f];exact r.put (x:=.dh []) ala alb g;rename_i i;have hy:=r.aqH p i;injection hx with hx;subst hx;refine .inr ⟨by simp[Region.wanted,e,hy],G,?_⟩;rw[<-f];exact r.put (x:=.dh []) ala alb g;cases hx;cases d
theorem R.wf (r:R B E w0 N σ a w G):Wf σ:=⟨r.uH,r.hr.kP⟩
theorem aBs {K:Act->World->Prop} (h:o.wp P a w K (fun _ _ _=>False)):∃d w',K d w':=by unfold Oper.wp at h;unfold Oper.upon at h;split at h;exact⟨_,_,h⟩;exact⟨_,_,h⟩;exact⟨_,_,h⟩;obtain⟨e,w',fr,b,_⟩:=h [];(cases e with|returned v=>exact⟨_,_,b⟩|panicked c=>exact b.elim|outgrown=>obtain⟨_,_,f⟩:=b;exact f.elim);obtain⟨v,w',b,_⟩:=h default [];exact⟨_,_,b⟩;exact h.elim;exact h.elim
def TH (B:Nat) (E:Ex) (w0:World) (N:Nat) (σ:St):Prop:=∃a w G,R B E w0 N σ a w G
theorem azs (r:TH B E w0 N σ) (b:sM P T) (d:xx P N ops o mo=true) (hx:iY T mo σ=some σ'):TH B E w0 N σ':=by obtain⟨a,w,G,r⟩:=r;rcases O1 (Q:=fun _ _ _=>False) r b d hx with⟨_,h⟩|⟨_,G',h⟩;obtain⟨c,w',G',h⟩:=aBs h;exact⟨c,w',G',h⟩;exact⟨_,_,G',h⟩
theorem Z1 (c:sM P T):∀{l:List Oper} {b:List eI} {σ σ':St} {a:Act} {w:World} {G:Gh},n6 P N ops l b=true->ic T b σ=some σ'->R B E w0 N σ a w G-> (∀a w G,R B E w0 N σ' a w G->Q .normal a w)->wpList P ops Q l a w
 |[],[],σ,σ',a,w,G,hc,hx,r,hQ=>by simp only[ic] at hx;injection hx with hx;subst hx;exact hQ _ _ _ r
 |o::l,m::b,σ,σ',a,w,G,hc,hx,r,hQ=>by simp only[n6,co] at hc;simp only[ic] at hx;split at hx;rename_i σ1 e;unfold wpList;rcases O1 (Q:=Q) r c hc.1 e with⟨d,h⟩|⟨d,G',h⟩;rw[aj d];exact .inl (Oper.wp_mono (fun a' w' ⟨G',f⟩=>Z1 c hc.2 hx f hQ) h);rw[ak (by simp[d])];exact Z1 c hc.2 hx h hQ;cases hx
 |[],_::_,_,_,_,_,_,hc,_,_,_=>by simp[n6] at hc
 |_::_,[],_,_,_,_,_,hc,_,_,_=>by simp[n6] at hc
def v5 (T:bL) (ms:List eI):List Nat->St->Option St
 |[],σ=>some σ
 |i::L,σ=>match ms[i]? with
  |some o=>match iY T o σ with
   |some σ1=>v5 T ms L σ1
   |none=>none
  |none=>none
inductive yr (ops:Array Oper):Nat->Nat->Prop where
 |abI (i:Nat) (o:Oper) (e:_):ops[i]? =some o->e∈o.after->Region.binds .any e=true->yr ops i e.on
 |step (i j:Nat) (o:Oper) (e:_):ops[i]? =some o->e∈o.after->Region.binds .any e=true->yr ops e.on j->yr ops i j
def UB (o:Oper):List Nat:=(o.after.toList.filter (Region.binds .any)).map (·.on)
def MB (acc:List Nat):List Nat->Nat
 |[]=>0
 |j::js=>(Nat.shiftLeft 1 j|||acc.getD j 0)|||MB acc js
def Qt:List Oper->List Nat->List Nat
 |[],acc=>acc
 |o::os,acc=>Qt os (acc++[MB acc (UB o)])
theorem avE {o:Oper} {j:Nat} (h:j∈UB o):∃e∈o.after,Region.binds .any e=true/\e.on=j:=by unfold UB at h;simp only[BY,zaP] at h;obtain⟨e,⟨c,a⟩,b⟩:=h;exact⟨e,zaV.1 c,a,b⟩
theorem af8 {acc:List Nat}:∀{a:List Nat} {k:Nat},(MB acc a).testBit k=true->∃j∈a,j=k\/(acc.getD j 0).testBit k=true
 |[],k,h=>by simp[MB] at h
 |j::a,k,h=>by simp only[MB,Nat.testBit_or,zay] at h;rcases h with(h|h)|h;refine⟨j,by simp,.inl ?_⟩;have h':(1<<<j).testBit k=true:=h;rw[Nat.one_shiftLeft,Nat.testBit_two_pow] at h';exact of_decide_eq_true h';exact⟨j,by simp,.inr h⟩;obtain⟨d,c,b⟩:=af8 h;exact⟨d,by simp[c],b⟩
theorem af9 {ops:Array Oper}:∀(os:List Oper) (acc:List Nat) (pre:List Oper),ops.toList=pre++os->acc.length=pre.length->(∀i k,(acc.getD i 0).testBit k=true->yr ops i k)-> ∀i k,((Qt os acc).getD i 0).testBit k=true->yr ops i k
 |[],acc,pre,_,_,h,i,k,a=>h i k a
 |o::os,acc,pre,he,hl,h,i,k,a=>by refine af9 os _ (pre++[o]) (by simp[he]) (by simp[hl]) (fun i k a=>?_) i k a;by_cases m:i<acc.length;rw[IT,zaD m,<-IT] at a;exact h i k a;by_cases l:i=acc.length;subst l;rw[IT,zaf (Pd _),za5] at a;simp only[zak,za9] at a;have d:ops[acc.length]? =some o:=(by have:ops.toList[acc.length]? =some o:=(by rw[he,hl,zaf (Pd _),za5];rfl);simpa using this);obtain⟨j,g,b⟩:=af8 a;obtain⟨e,c,f,rfl⟩:=avE g;rcases b with rfl|b;exact .abI _ o e d c f;exact .step _ _ o e d c f (h _ _ b);rw[IT,zaO (by simp;omega)] at a;simp at a
def Oq (ops:List Oper) (ms:List eI):Bool:=
 (fun ks:List Nat=>(zaU ops.length).all fun i=>match ops[i]?,ms[i]? with
  |some o,some m=>(o.after.toList.all fun e=> !Region.binds .any e||decide (e.on<i))&&
   (zaU i).all fun j=>(ks.getD i 0).testBit j||(match ms[j]? with|some mj=>HJ mj m|none=>false)
  |_,_=>false) (Qt ops [])
structure aab (ops:Array Oper) (ms:List eI):Prop where
 back:∀(i:Nat) (o:Oper),ops[i]? =some o->∀e∈o.after,Region.binds .any e=true->e.on<i
 pair:∀(i j:Nat) (o:Oper) (m:eI),ops[i]? =some o->ms[i]? =some m->j<i->yr ops i j\/∃mj,ms[j]? =some mj/\HJ mj m=true
theorem ans {b:List eI} (h:Oq ops.toList b=true):aab ops b:=by
  simp only[Oq,GB,zaW] at h;have n:∀(i:Nat) (o:Oper),ops[i]? =some o->∃m,b[i]? =some m/\(o.after.toList.all fun e=> !Region.binds .any e||decide (e.on<i))=true/\
        ∀j,j<i->(((Qt ops.toList []).getD i 0).testBit j||(match b[j]? with|some g=>HJ g m|none=>false))=true:=by
    intro i o d;have t:i<ops.toList.length:=by simpa using(zao.1 d).1
    have a:=h i t;have p:ops.toList[i]? =some o:=by simpa using d
    rw[p] at a;cases hm:b[i]? with
    |none=>rw[hm] at a;cases a
    |some m=>
     rw[hm] at a;simp only[co,GB,zaW] at a;exact⟨m,rfl,by rw[GB];exact a.1,a.2⟩
  refine⟨fun i o d e s l=>?_,fun i j o m d hm q=>?_⟩
  · obtain⟨m,_,r,_⟩:=n i o d;have:=GB.1 r e (zaV.2 s);simp[l] at this;exact this
  · obtain⟨m',f,_,u⟩:=n i o d;rw[hm] at f;injection f with f;subst f;have:=u j q;rw[zay] at this;rcases this with c|c
    · exact .inl (af9 ops.toList [] [] rfl rfl (by intro i k l;simp at l) i j c)
    · cases hmj:b[j]? with
      |none=>rw[hmj] at c;cases c
      |some g=>rw[hmj] at c;exact .inr ⟨g,rfl,c⟩
def Z9 (ops:Array Oper) (jP:Array Bool):Prop:=
 ∀(k:Nat) (o:Oper),ops[k]? =some o->jP.getD k true=true->∀e∈o.after,Region.binds .any e=true->jP.getD e.on true=true
theorem am4 {b:Array Bool} (g:Z9 ops b) {i j:Nat} (a:yr ops i j):(∀o,ops[i]? =some o->∀e∈o.after,Region.binds .any e=true->b.getD e.on true=true)->b.getD j true=true:=by induction a with|abI i o e d c a=>exact fun h=>h o d e c a|step i j o e d c a _ k=>exact fun h=>k fun l f=>g _ l f (h o d e c a)
theorem ab7 (p:sM P T) {b:List eI} (l:∀(i:Nat) (m:eI),b[i]? =some m->∃o,ops[i]? =some o/\xx P N ops o m=true) {i:Nat} {f:eI} (n:b[i]? =some f) {post:List Nat} {h:St}: ∀{pre:List Nat} {σ:St},TH B E w0 N σ->v5 T b (pre++i::post) σ=some h->(∀j∈pre,∃c,b[j]? =some c/\HJ c f=true)-> ∃τ,iY T f σ=some τ/\v5 T b (pre++post) τ=some h
 |[],σ,hr,hx,hc=>by simp only[zaQ,v5,n] at hx;split at hx;rename_i σ1 e;exact⟨σ1,e,hx⟩;cases hx
 |j::pre,σ,hr,hx,hc=>by obtain⟨c,d,t⟩:=hc j (by simp);simp only[zal,v5,d] at hx;split at hx;rename_i σ1 g;obtain⟨oj,_,x⟩:=l j c d;obtain⟨xd,u,q⟩:=ab7 p l n (azs hr p x g) hx (fun k v=>hc k (by simp[v]));obtain⟨a,w,G,r⟩:=hr;obtain⟨τ,y,s⟩:=anI r.wf t g u;exact⟨τ,y,by simp only[zal,v5,d,s];exact q⟩;cases hx
theorem aBq (hT:sM P T) {p:List eI} (rW:∀(i:Nat) (m:eI),p[i]? =some m->∃o,ops[i]? =some o/\xx P N ops o m=true) (hlen:p.length=ops.size) (hd:aab ops p) {nX:St} (Y:∀a w G,R B E w0 N nX a w G->Q .normal a w): ∀(s:Nat) (L:List Nat) (b:Array Bool) (σ:St) (a:Act) (w:World) (G:Gh),R B E w0 N σ a w G->v5 T p L σ=some nX->L.Pairwise (·<·)->L.length<=s->b.size=ops.size-> (∀j,j∈L↔b.getD j true=false)->Z9 ops b->wpAny P .any ops Q s b a w:=by(have first:∀(L:List Nat) (b:Array Bool),L.Pairwise (·<·)->b.size=ops.size->(∀j,j∈L↔b.getD j true=false)->Region.ready .any ops b=[]->L=[]:=by intro L b C u hL hr;cases L with|nil=>rfl|cons j L=>exfalso;have z:=(hL j).1 (by simp);have W:j<ops.size:=(by rw[<-u];rcases zbd j b.size with h|h;exact h;simp[zaK h] at z);have c:ops[j]? =some ops[j]:=Array.getElem?_eq_getElem W;have:j∈Region.ready .any ops b:=(by rw[mem_ready];refine⟨z,_,c,fun e f g=>?_⟩;have cF:=hd.back j _ c e f g;have t7:e.on∉j::L:=(by intro hm;cases hm with|head=>omega|tail _ hm=>have:=(zaC.1 C).1 _ hm;omega);have Z:b.getD e.on true≠false:=fun h=>t7 ((hL e.on).2 h);have D:e.on<b.size:=(by omega);simp[D] at Z⊢;exact Z);rw[hr] at this;cases this);intro s;induction s with|zero=>intro L b σ a w G r hx C hl u hL M;have U:L=[]:=If (by omega);subst U;simp only[v5] at hx;injection hx with hx;subst hx;refine⟨?_,Y _ _ _ r⟩;(cases hr:Region.ready .any ops b with|nil=>rfl|cons i l=>have hm:i∈Region.ready .any ops b:=(by rw[hr];simp);have:=(hL i).2 (mem_ready.1 hm).1;cases this)|succ s ih=>intro L b σ a w G r hx C hl u hL M;refine⟨fun hr=>?_,fun i hi=>?_⟩;(have U:=first L b C u hL hr);subst U;simp only[v5] at hx;injection hx with hx;subst hx;exact Y _ _ _ r;obtain⟨V,oi,d,A⟩:=mem_ready.1 hi;have ze:i∈L:=(hL i).2 V;obtain⟨pre,post,rfl⟩:=List.append_of_mem ze;have Pt:i<ops.size:=(zao.1 d).1;have O:p[i]? =some p[i]:=AT (by omega);obtain⟨o',I,CT⟩:=rW i _ O;rw[d] at I;injection I with I;subst I;have t:=zaw.1 C;obtain⟨τ,t1,t2⟩:=ab7 (ops:=ops) hT rW O ⟨a,w,G,r⟩ hx (fun j z=>by have v:j<i:=t.2.2 j z i (by simp);rcases hd.pair i j oi _ d O v with S|h;have n:=am4 M S (fun o c e f g=>by rw[d] at c;injection c with c;subst c;have n:=A e f g;have cF:=hd.back i _ d e f g;have D:e.on<b.size:=(by omega);simp[D] at n⊢;exact n);have h2:=(hL j).1 (by simp[z]);rw[n] at h2;cases h2;exact h);have X:∀J w',Nx B E w0 N τ J w'->wpAny P .any ops Q s (b.setIfInBounds i true) J w':=(by rintro J w' ⟨G',r'⟩;refine ih (pre++post) _ τ J w' G' r' t2 ?_ (by simp at hl⊢;omega) (by simpa using u) (fun j=>?_) (fun k o c hk e f g=>?_);rw[zaw];exact⟨t.1,(zaC.1 t.2.1).2,fun x hx y hy=>t.2.2 x hx y (by simp[hy])⟩;by_cases v:j=i;subst v;have W:j<b.size:=(by omega);simp only[zan];constructor;rintro(h|h);have:=t.2.2 j h j (by simp);omega;have:=(zaC.1 t.2.1).1 j h;omega;intro h;simp[W] at h;rw[getD_set_ne true (zaF v),<-hL j];simp[v];have F:∀q,b.getD q true=true->(b.setIfInBounds i true).getD q true=true:=(by intro q hq;by_cases s9:q=i;subst s9;have:q<b.size:=(by omega);simp[this];rw[getD_set_ne true (zaF s9)];exact hq);by_cases H:k=i;subst H;rw[d] at c;injection c with c;subst c;have n:=A e f g;have cF:=hd.back k _ d e f g;have D:e.on<b.size:=(by omega);refine F _ ?_;simp[D] at n⊢;exact n;rw[getD_set_ne true (zaF H)] at hk;exact F _ (M k o c hk e f g));unfold wpOp;rw[d];simp only;rcases O1 (Q:=Q) r hT CT t1 with⟨K,h⟩|⟨K,h⟩;rw[aj K];exact .inl (Oper.wp_mono X h);rw[ak (by simp[K])];exact X _ _ h
theorem ab6:∀(post pre:List eI) (σ:St),v5 T (pre++post) (List.range' pre.length post.length) σ=ic T post σ
 |[],pre,σ=>by simp[v5,ic]
 |m::post,pre,σ=>by simp only[zau,List.range'_succ,v5,ic];rw[zaf (Pd _),za5];simp only[zak];cases iY T m σ with|none=>rfl|some σ1=>have:=ab6 post (pre++[m]) σ1;simp only[za3,zau,zaz,List.append_assoc,List.singleton_append,za6] at this;exact this
theorem abd:∀{l:List Oper} {a:List eI},n6 P N ops l a=true->a.length=l.length/\∀(i:Nat) (m:eI),a[i]? =some m->∃o,l[i]? =some o/\xx P N ops o m=true
 |[],[],_=>⟨rfl,by simp⟩
 |o::l,m::a,hc=>by simp only[n6,co] at hc;obtain⟨c,b⟩:=abd hc.2;refine⟨by simp[c],fun i d hm=>?_⟩;cases i with|zero=>simp at hm;subst hm;exact⟨o,rfl,hc.1⟩|succ i=>exact b i d (by simpa using hm)
 |[],_::_,hc=>by simp[n6] at hc
 |_::_,[],hc=>by simp[n6] at hc
theorem R.drawn (r:R B E w0 N σ a w G) (k:Nat):R B E w0 N σ a {w with drawn:=k} G:=by have c:∀b,b<w.heap.size->({w with drawn:=k}:World).heap[b]? =w.heap[b]? :=fun _ _=>rfl;exact r.step rfl (fun _ h=>h) (cD.world (fun b d=>c b (r.hr.jN b d)) _) (r.hr.grow c (Pd _)) (r.fr.grow c (Pd _) rfl rfl rfl)
theorem azy (l:sM P T) (hm:P.follows .mixedOrders=true) {id:Nat} {d:Bool} {c:List eI} (f:n6 P N ops ops.toList c=true) (hd:d=true->Oq ops.toList c=true) (hx:ic T c σ=some σ') (r:R B E w0 N σ a w G) (g:∀a w G,R B E w0 N σ' a w G->Q .normal a w):(Code.region id ops d).wp P Q a w:=by cases d with|false=>exact wp_region_list (Z1 l f hx r g)|true=>obtain⟨q,u⟩:=abd f;have b:c.length=ops.size:=(by simpa using q);refine wp_region_any hm (aBq (B:=B) (E:=E) (w0:=w0) (N:=N) l (fun i m h=>by obtain⟨o,n,t⟩:=u i m h;exact⟨o,by simpa using n,t⟩) b (ans (hd rfl)) g ops.size (zaU ops.size) _ σ a _ G (r.drawn _) ?_ ?_ (by simp) (by simp) (fun j=>?_) (fun k o p s=>?_));have:=ab6 (T:=T) c [] σ;simp only[zaQ,zaz,b,<-List.range_eq_range'] at this;rw[this];exact hx;exact List.pairwise_lt_range;rw[zaW];constructor;intro h;simp[h];intro h;rcases zbd j ops.size with h'|h';exact h';simp[zaK (show(zaR ops.size false).size<=j by simpa using h')] at h;exfalso;have e:k<ops.size:=(zao.1 p).1;simp[e] at s
end
theorem Yz (ok:Nat->Bool) (env:Nat->aE):∀(a:List Nat) (n:Nat),BU ok env a n=if n∈a then(env n).fh ok else .one .cC
 |[],n=>by simp[BU,CJ]
 |s::a,n=>by simp only[BU,nt,Yz ok env a,zaG];by_cases h:n=s;subst h;simp;simp[h]
theorem QQ (ok:Nat->Bool) (h:Nat->Option bf):∀(d:List Nat) (n:Nat),wL ok h d n=if n∈d/\ok n=true then(h n).map (·.fh ok) else none
 |[],n=>by simp[wL,HX]
 |s::d,n=>by have c:=QQ ok h d n;simp only[wL,zaG];by_cases hn:n=s;subst hn;by_cases a:ok n=true;rw[aj a];(cases hh:h n with|some b=>simp[dD,a]|none=>simp only[c,hh];simp);rw[ak a,c];simp[a];by_cases a:ok s=true;rw[aj a];(cases hh:h s with|some b=>simp only[dZ _ _ _ _ hn,c];simp[hn]|none=>simp only[c];simp[hn]);rw[ak a,c];simp[hn]
theorem ai4 (ok:Nat->Bool):∀(b:List Nat) (n:Nat),BV ok b n=(decide (n∈b)&&ok n)
 |[],n=>by simp[BV,abN]
 |s::b,n=>by have c:=ai4 ok b n;simp only[BV];by_cases hn:n=s;subst hn;by_cases a:ok n=true;rw[aj a];simp[dD,a];rw[ak a,c];simp[a];by_cases a:ok s=true;rw[aj a,dZ _ _ _ _ hn,c];simp[hn];rw[ak a,c];simp[hn]
theorem ar.anv {ok:Nat->Bool} {c:ar} {m:Nat} (h:(c.iz ok).lf m):ok m=true:=by(cases c<;>simp only[ar.iz] at h<;>first|exact h.elim|skip);all_goals split at h;rename_i a;have h':=h;simp only[ar.lf] at h';subst h';exact a;exact h.elim
theorem ar.HH {ok:Nat->Bool} {c:ar} {m:Nat} (h:(c.fh ok).ref m):ok m=true:=by cases c with|fn f fv=>obtain⟨x,hx,h⟩:=h;obtain⟨y,hy,rfl⟩:=BY.1 hx;exact ar.anv h|c x=>exact h.elim|nil sz=>exact h.elim|eU xs off=>exact h.elim|cC=>exact h.elim|ptr n k sz off=>simp only[ar.fh,ar.iz] at h;split at h;rename_i a;have h':m=n:=h;subst h';exact a;exact h.elim|sl n sz lo len=>simp only[ar.fh,ar.iz] at h;split at h;rename_i a;have h':m=n:=h;subst h';exact a;exact h.elim|cG n k b off sz len=>simp only[ar.fh,ar.iz] at h;split at h;rename_i a;have h':m=n:=h;subst h';exact a;exact h.elim|ez n k b off sz i=>simp only[ar.fh,ar.iz] at h;split at h;rename_i a;have h':m=n:=h;subst h';exact a;exact h.elim|dW xs off j n sz len=>simp only[ar.fh,ar.iz] at h;split at h;rename_i a;have h':m=n:=h;subst h';exact a;exact h.elim
section
variable {B:Nat} {E:Ex} {w0 w w':World} {G G':Gh} {N:Nat} {h h':Nat->Option bf} {ok:Nat->Bool}
variable {P:Program} {T:bL} {a:Act} {σ σ':St} {Q:Exit->Act->World->Prop}
structure uJ (ok:Nat->Bool) (h h':Nat->Option bf):Prop where
 le:∀n,ok n=true->h' n=(h n).map (·.fh ok)\/h' n=none
 no:∀n,ok n=false->h' n=none
theorem uJ.ne (L:uJ ok h h') {n:Nat} (hn:h' n≠none):ok n=true/\h n≠none:=by cases hk:ok n with|false=>exact absurd (L.no n hk) hn|true=>refine⟨rfl,fun e=>?_⟩;rcases L.le n hk with a|a;rw[e] at a;exact hn a;exact hn a
theorem uJ.row (L:uJ ok h h') {n:Nat} {c:Bool} {m:Mode} {sz:Nat} {xs:List (List C)} (hn:h' n=some (.row c m sz xs)):h n=some (.row c m sz xs):=by obtain⟨e,d⟩:=L.ne (n:=n) (by rw[hn];simp);rcases L.le n e with a|a;rw[a] at hn;(cases hh:h n with|none=>exact absurd hh d|some b=>cases b with|box cs=>rw[hh] at hn;simp[bf.fh] at hn|row c m sz xs=>rw[hh] at hn;simp only[By,bf.fh] at hn;exact hn);rw[a] at hn;cases hn
theorem uJ.box (L:uJ ok h h') {n:Nat} {cs:List ar} (hn:h' n=some (.box cs)):∃a,h n=some (.box a)/\cs=a.map (·.fh ok):=by obtain⟨e,d⟩:=L.ne (n:=n) (by rw[hn];simp);rcases L.le n e with c|c;rw[c] at hn;(cases hh:h n with|none=>exact absurd hh d|some b=>cases b with|box a=>rw[hh] at hn;simp only[By,bf.fh] at hn;injection hn with hn;injection hn with hn;exact⟨a,rfl,hn.symm⟩|row gr m sz xs=>rw[hh] at hn;simp[bf.fh] at hn);rw[c] at hn;cases hn
theorem kG.less (L:uJ ok h h') {c:ar} {v:Value} (a:kG w G h c v):kG w G h' (c.iz ok) v:=by cases c with|ptr n k sz off=>simp only[ar.iz];split;exact fun hn=>a (L.ne hn).2;trivial|sl n sz lo len=>simp only[ar.iz];split;exact fun hn=>a (L.ne hn).2;trivial|cG n k m off sz len=>simp only[ar.iz];split;exact fun d xs hn=>a d xs (L.row hn);trivial|ez n k m off sz i=>simp only[ar.iz];split;exact fun d xs hn=>a d xs (L.row hn);trivial|dW xs off j n sz len=>simp only[ar.iz];split;obtain⟨b,o,pe,g,q,r,l,s⟩:=a;obtain⟨u,e,u2,p⟩:=s;exact⟨b,o,pe,g,q,r,l,u,e,u2,fun hn=>p (L.ne hn).2⟩;trivial|c x=>exact a|nil sz=>exact a|eU xs off=>exact a|fn f fv=>exact a|cC=>exact a
theorem RC.less (L:uJ ok h h') {c:ar} {v:Value} (a:RC w G h c v):RC w G h' (c.fh ok) v:=by cases c with|fn f o=>obtain⟨vs,m,p,e⟩:=a;refine⟨vs,m,by simpa using p,fun j c u b l=>?_⟩;rw[AN] at b;(cases a:o[j]? with|none=>rw[a] at b;cases b|some g=>rw[a] at b;simp at b;subst b;exact⟨(e j g u a l).1,(e j g u a l).2.less L⟩)|ptr n k sz off=>have:=kG.less (w:=w) (G:=G) L (c:=.ptr n k sz off) a;simp only[ar.fh];rw[Ao];exact this;simp only[ar.iz];split<;>rfl|sl n sz lo len=>have:=kG.less (w:=w) (G:=G) L (c:=.sl n sz lo len) a;simp only[ar.fh];rw[Ao];exact this;simp only[ar.iz];split<;>rfl|cG n k d off sz len=>have:=kG.less (w:=w) (G:=G) L (c:=.cG n k d off sz len) a;simp only[ar.fh];rw[Ao];exact this;simp only[ar.iz];split<;>rfl|ez n k d off sz i=>have:=kG.less (w:=w) (G:=G) L (c:=.ez n k d off sz i) a;simp only[ar.fh];rw[Ao];exact this;simp only[ar.iz];split<;>rfl|dW xs off j n sz len=>have:=kG.less (w:=w) (G:=G) L (c:=.dW xs off j n sz len) a;simp only[ar.fh];rw[Ao];exact this;simp only[ar.iz];split<;>rfl|c x=>exact a|nil sz=>exact a|eU xs off=>exact a|cC=>exact a
theorem eJ.less (L:uJ ok h h') {cs:List ar} {vs:List Value} (b:eJ w G h cs vs):eJ w G h' (cs.map (·.fh ok)) vs:=by refine⟨by simpa using b.1,fun j c u a e=>?_⟩;rw[AN] at a;cases fj:cs[j]? with|none=>rw[fj] at a;cases a|some d=>rw[fj] at a;simp at a;subst a;exact⟨(b.2 j d u fj e).1,(b.2 j d u fj e).2.less L⟩
theorem RV.less (L:uJ ok h h') {ag:Bool} {cs:List ar} {v:Value} (a:RV w G h ag cs v):RV w G h' ag (cs.map (·.fh ok)) v:=by unfold RV at*;split;rename_i b;simp only[b,if_true] at a;obtain⟨vs,e,c⟩:=a;exact⟨vs,e,c.less L⟩;rename_i b;simp only[b] at a;exact eJ.less L a
theorem RA.less (L:uJ ok h h') {x:aE} {v:Value} (b:RA w G h x v):RA w G h' (x.fh ok) v:=by cases x with|one c=>rcases b with rfl|b;exact zbe rfl;exact Or.inr (RV.less L b)|agg cs=>exact RV.less L b|dh xs=>obtain⟨vs,e,hl,f⟩:=b;refine⟨vs,e,by simpa using hl,fun j x u a g=>?_⟩;rw[AN] at a;cases fj:xs[j]? with|none=>rw[fj] at a;cases a|some d=>rw[fj] at a;simp at a;subst a;exact RV.less L (f j d u fj g)
theorem aE.HH {x:aE} {m:Nat} (h:(x.fh ok).ref m):ok m=true:=by cases x with|one c=>exact ar.HH h|agg cs=>obtain⟨c,a,h⟩:=h;obtain⟨b,d,rfl⟩:=BY.1 a;exact ar.HH h|dh xs=>obtain⟨x,hx,c,a,h⟩:=h;obtain⟨x0,hx0,rfl⟩:=BY.1 hx;obtain⟨b,d,rfl⟩:=BY.1 a;exact ar.HH h
theorem HR.less {used:Nat->Bool} (H:HR B E w G h used []) (L:uJ ok h h'):HR B E w G h' ok []:=by refine⟨fun n hn=>(L.ne hn).1,fun m cs c n hm l hr=>?_,fun n cs hn=>?_,fun n d m sz xs hn=>H.row n d m sz xs (L.row hn),fun n hn=>H.own n (L.ne hn).2,fun n n' hn e=>H.inj n n' (L.ne hn).2 (L.ne e).2, H.jN,H.uf,fun n n' d m sz xs t p C o hn e=>H.ju n n' d m sz xs t p C o (L.row hn) (L.row e),fun n d sz xs hn b z n' e=>H.live n d sz xs (L.row hn) b z n' (L.ne e).2,?_,?_,?_⟩;obtain⟨g,_,rfl⟩:=L.box hm;obtain⟨k,_,rfl⟩:=BY.1 l;exact ar.HH hr;obtain⟨g,u,rfl⟩:=L.box hn;obtain⟨q,A,r⟩:=H.box n g u;refine⟨q,A,fun j c a=>?_⟩;rw[AN] at a;(cases fj:g[j]? with|none=>rw[fj] at a;cases a|some k=>rw[fj] at a;simp at a;subst a;obtain⟨v,x,s,y⟩:=r j k fj;exact⟨v,x,s,y.less L⟩);intro i pc f;simp at f;intro i j pc fo b _ f;simp at f;intro i pc n d m sz xs b f;simp at f
theorem HR.aBc {used used':Nat->Bool} (H:HR B E w G h used []) (a:∀n,used n=true->used' n=true):HR B E w G h used' []:= ⟨fun n hn=>a n (H.lP n hn),fun m cs c n hm b hr=>a n (H.kP m cs c n hm b hr),H.box,H.row,H.own,H.inj,H.jN,H.uf,H.ju,H.live,H.w5,H.B3,H.w6⟩
theorem X4 {ke a:List Nat} {n:Nat} (hn:σ.np ke a n=true):n∈a:=by simp only[St.np,co] at hn;simpa using hn.1.1
theorem R.mf (r:R B E w0 N σ a w G) (ke c:List Nat):R B E w0 N (σ.mf ke c) a w G:=by have L:uJ (σ.np ke c) σ.h (σ.mf ke c).h:=(by refine⟨fun n hn=>.inl ?_,fun n hn=>?_⟩;show wL _ _ _ n=_;rw[QQ,aj ⟨X4 hn,hn⟩];show wL _ _ _ n=_;rw[QQ,ak (by simp[hn])]);have j:∀n,σ.np ke c n=true->(σ.mf ke c).used n=true:=(by intro n f;show(zbj aY n||BV _ _ n)=true;rw[ai4];simp[f,X4 f]);refine⟨r.defers,r.size,fun s=>?_,fun s n hn=>?_,?_,r.fr,fun n p b q i=>?_,fun n hn=>?_⟩;show RA w G _ (BU _ _ _ s) _;rw[Yz];split;exact(r.env s).less L;exact zbe rfl;have g:(BU (σ.np ke c) σ.env ke s).ref n:=hn;rw[Yz] at g;split at g;exact j n (aE.HH g);exact absurd g id;exact(r.hr.less L).aBc j;have t:(σ.mf ke c).h n≠none:=(by rw[i];simp);obtain⟨f,_⟩:=L.ne t;have rn:=fun b0 (e:σ.h n=some b0)=>r.rG n p b0 q e;have d:wL (σ.np ke c) σ.h c n=some b:=i;rw[QQ,aj ⟨X4 f,f⟩] at d;(cases e:σ.h n with|none=>rw[e] at d;cases d|some b0=>obtain⟨p1,o,v,p4,k,l⟩:=rn b0 e;refine⟨p1,o,v,p4,k,fun gr sz xs x=>?_⟩;rw[e,x] at d;cases b0 with|box cs=>simp[bf.fh] at d|row u m' y m=>simp only[bf.fh,By,zae,bf.row.injEq] at d;obtain⟨_,rfl,_,_⟩:=d;exact l u y m rfl);show(zbj aY n||_)=true;rw[zat hn];rfl
end
def back (x c n:Nat):Nat:=if n=c then x else n
theorem aaR {x c n:Nat} (hn:n≠c):back x c (sF x c n)=n:=by unfold back sF;by_cases h:n=x;subst h;simp;simp[h,hn]
theorem azF {x c n:Nat} (hx:x≠c) (hn:n≠c):sF x c n≠x:=by unfold sF;by_cases h:n=x;simp[h];exact fun e=>hx e.symm;simp[h]
structure tO (x c:Nat) (used:Nat->Bool) (h h':Nat->Option bf):Prop where
 ne:x≠c
 uc:used c=false
 gone:h' x=none
 b:∀n,n≠x->h' n=(h (back x c n)).map (·.cr x c)
section
variable {B:Nat} {E:Ex} {w0 w w':World} {G G':Gh} {N:Nat} {h h':Nat->Option bf} {used:Nat->Bool} {x c:Nat}
variable {P:Program} {T:bL} {a:Act} {σ σ':St} {Q:Exit->Act->World->Prop}
def y6 (G:Gh) (x c:Nat):Gh:=⟨G.Im,fun n=>G.g (back x c n)⟩
theorem tO.at (L:tO x c used h h') {n:Nat} (hn:used n=true):h' (sF x c n)=(h n).map (·.cr x c):=by
 have a:n≠c:=fun e=>by subst e;rw[L.uc] at hn;cases hn
 rw[L.b _ (azF L.ne a),aaR a]
theorem tO.CP (L:tO x c used h h') {n:Nat} (hn:used n=true):(y6 G x c).g (sF x c n)=G.g n:=by
 have a:n≠c:=fun e=>by subst e;rw[L.uc] at hn;cases hn
 show G.g (back x c (sF x c n))=_;rw[aaR a]
theorem Qs {o:Option bf} (hn:o.map (·.cr x c)≠none):o≠none:=by cases o with|none=>exact absurd rfl hn|some b=>simp
theorem XK {o:Option bf} {a:Bool} {m:Mode} {sz:Nat} {xs:List (List C)} (hn:o.map (·.cr x c)=some (.row a m sz xs)):o=some (.row a m sz xs):=by cases o with|none=>cases hn|some b=>cases b with|box cs=>simp[bf.cr] at hn|row a m sz xs=>exact hn
theorem af4 {o:Option bf} {cs:List ar} (hn:o.map (·.cr x c)=some (.box cs)):∃a,o=some (.box a)/\cs=a.map (·.cr x c):=by cases o with|none=>cases hn|some b=>cases b with|box a=>simp only[By,bf.cr] at hn;injection hn with hn;injection hn with hn;exact⟨a,rfl,hn.symm⟩|row gr m sz xs=>simp[bf.cr] at hn
theorem kG.cr (L:tO x c used h h') {y:ar} {v:Value} (hr:∀m,y.lf m->used m=true) (a:kG w G h y v):kG w (y6 G x c) h' (y.tF x c) v:=by cases y with|ptr n k sz off=>intro hn;rw[L.at (hr n rfl)] at hn;rw[L.CP (hr n rfl)];exact a (Qs hn)|sl n sz lo len=>intro hn;rw[L.at (hr n rfl)] at hn;rw[L.CP (hr n rfl)];exact a (Qs hn)|cG n k p off sz len=>intro d xs hn;rw[L.at (hr n rfl)] at hn;rw[L.CP (hr n rfl)];exact a d xs (XK hn)|ez n k p off sz i=>intro d xs hn;rw[L.at (hr n rfl)] at hn;rw[L.CP (hr n rfl)];exact a d xs (XK hn)|dW xs off j n sz len=>obtain⟨b,o,pe,g,r,s,l,t⟩:=a;obtain⟨u,e,u2,q⟩:=t;refine⟨b,o,pe,g,r,s,l,u,e,u2,fun hn=>?_⟩;rw[L.at (hr n rfl)] at hn;rw[L.CP (hr n rfl)];exact q (Qs hn)|c x=>exact a|nil sz=>exact a|eU xs off=>exact a|fn f fv=>exact a|cC=>exact a
theorem RC.cr (L:tO x c used h h') {y:ar} {v:Value} (hr:∀m,y.ref m->used m=true) (a:RC w G h y v):RC w (y6 G x c) h' (y.cr x c) v:=by cases y with|fn f p=>obtain⟨vs,o,q,g⟩:=a;refine⟨vs,o,by simpa using q,fun j y u b l=>?_⟩;rw[AN] at b;(cases a:p[j]? with|none=>rw[a] at b;cases b|some e=>rw[a] at b;simp at b;subst b;exact⟨(g j e u a l).1,(g j e u a l).2.cr L fun m hm=>hr m ⟨e,wt a,hm⟩⟩)|ptr n k sz off=>exact kG.cr (w:=w) (G:=G) L (y:=.ptr n k sz off) hr a|sl n sz lo len=>exact kG.cr (w:=w) (G:=G) L (y:=.sl n sz lo len) hr a|cG n k d off sz len=>exact kG.cr (w:=w) (G:=G) L (y:=.cG n k d off sz len) hr a|ez n k d off sz i=>exact kG.cr (w:=w) (G:=G) L (y:=.ez n k d off sz i) hr a|dW xs off j n sz len=>exact kG.cr (w:=w) (G:=G) L (y:=.dW xs off j n sz len) hr a|c x=>exact a|nil sz=>exact a|eU xs off=>exact a|cC=>exact a
theorem eJ.cr (L:tO x c used h h') {cs:List ar} {vs:List Value} (hr:∀y∈cs,∀m,y.ref m->used m=true) (d:eJ w G h cs vs):eJ w (y6 G x c) h' (cs.map (·.cr x c)) vs:=by refine⟨by simpa using d.1,fun j y u a e=>?_⟩;rw[AN] at a;cases fj:cs[j]? with|none=>rw[fj] at a;cases a|some b=>rw[fj] at a;simp at a;subst a;exact⟨(d.2 j b u fj e).1,(d.2 j b u fj e).2.cr L (hr b (wt fj))⟩
theorem RV.cr (L:tO x c used h h') {ag:Bool} {cs:List ar} {v:Value} (hr:∀y∈cs,∀m,y.ref m->used m=true) (a:RV w G h ag cs v):RV w (y6 G x c) h' ag (cs.map (·.cr x c)) v:=by unfold RV at*;split;rename_i b;simp only[b,if_true] at a;obtain⟨vs,e,d⟩:=a;exact⟨vs,e,d.cr L hr⟩;rename_i b;simp only[b] at a;exact eJ.cr L hr a
theorem RA.cr (L:tO x c used h h') {y:aE} {v:Value} (hr:∀m,y.ref m->used m=true) (d:RA w G h y v):RA w (y6 G x c) h' (y.cr x c) v:=by cases y with|one y=>rcases d with rfl|d;exact zbe rfl;exact Or.inr (RV.cr L (fun z b m hm=>hr m (by simp at b;subst b;exact hm)) d)|agg cs=>exact RV.cr L (fun z b m hm=>hr m ⟨z,b,hm⟩) d|dh xs=>obtain⟨vs,e,hl,g⟩:=d;refine⟨vs,e,by simpa using hl,fun j y u a i=>?_⟩;rw[AN] at a;cases fj:xs[j]? with|none=>rw[fj] at a;cases a|some f=>rw[fj] at a;simp at a;subst a;exact RV.cr L (fun z b m hm=>hr m ⟨f,wt fj,z,b,hm⟩) (g j f u fj i)
def Eg (used:Nat->Bool) (x c:Nat):Nat->Bool:=fun n=>if n=c then used x else if n=x then false else used n
theorem ar.JB (L:tO x c used h h') {y:ar} {m:Nat} (hr:∀m,y.lf m->used m=true) (hm:(y.tF x c).lf m):Eg used x c m=true:=by have d:∀n,used n=true->m=sF x c n->Eg used x c m=true:=(by intro n hn e;subst e;have b:n≠c:=fun e=>(by subst e;rw[L.uc] at hn;cases hn);unfold Eg sF;by_cases a:n=x;subst a;simp[hn];simp[a,b,hn]);cases y<;>first|exact absurd hm id|exact d _ (hr _ rfl) hm
theorem ar.JC (L:tO x c used h h') {y:ar} {m:Nat} (hr:∀m,y.ref m->used m=true) (hm:(y.cr x c).ref m):Eg used x c m=true:=by cases y with|fn f fv=>obtain⟨z,d,hm⟩:=hm;obtain⟨z0,b,rfl⟩:=BY.1 d;exact ar.JB L (fun m hm=>hr m ⟨z0,b,hm⟩) hm|ptr n k sz off=>exact ar.JB L (y:=.ptr n k sz off) hr hm|sl n sz lo len=>exact ar.JB L (y:=.sl n sz lo len) hr hm|cG n k a off sz len=>exact ar.JB L (y:=.cG n k a off sz len) hr hm|ez n k a off sz i=>exact ar.JB L (y:=.ez n k a off sz i) hr hm|dW xs off j n sz len=>exact ar.JB L (y:=.dW xs off j n sz len) hr hm|c x=>exact absurd hm id|nil sz=>exact absurd hm id|eU xs off=>exact absurd hm id|cC=>exact absurd hm id
theorem aE.JC (L:tO x c used h h') {y:aE} {m:Nat} (hr:∀m,y.ref m->used m=true) (hm:(y.cr x c).ref m):Eg used x c m=true:=by cases y with|one y=>exact ar.JC L hr hm|agg cs=>obtain⟨z,b,hm⟩:=hm;obtain⟨z0,a,rfl⟩:=BY.1 b;exact ar.JC L (fun m hm=>hr m ⟨z0,a,hm⟩) hm|dh xs=>obtain⟨p,d,z,b,hm⟩:=hm;obtain⟨f,e,rfl⟩:=BY.1 d;obtain⟨z0,a,rfl⟩:=BY.1 b;exact ar.JC L (fun m hm=>hr m ⟨f,e,z0,a,hm⟩) hm
theorem HR.cr (H:HR B E w G h used []) (L:tO x c used h h'):HR B E w (y6 G x c) h' (Eg used x c) []:=by have d:∀n,h' n≠none->n≠x:=fun n hn e=>(by subst e;exact hn L.gone);have p:∀n,h' n≠none->h (back x c n)≠none:=fun n hn=>(by have:=L.b n (d n hn);rw[this] at hn;exact Qs hn);have u:∀{n a m sz xs},h' n=some (.row a m sz xs)->h (back x c n)=some (.row a m sz xs):=(by intro n a m sz xs hn;have:=L.b n (d n (by rw[hn];simp));rw[this] at hn;exact XK hn);have F:∀n n',n≠x->n'≠x->n≠n'->back x c n≠back x c n':=(by intro n n' D l h3;unfold back;by_cases f:n=c;by_cases z:n'=c;omega;simp[f,z];omega;by_cases z:n'=c;simp[f,z];omega;simp[f,z];omega);have Q:∀n,n≠x->used (back x c n)=true->Eg used x c n=true:=(by intro n D l;unfold Eg;unfold back at l;by_cases f:n=c;simp[f] at l⊢;exact l;simp[f] at l;simp[f,D,l]);refine⟨fun n hn=>Q n (d n hn) (H.lP _ (p n hn)),fun m cs y n hm hy hr=>?_,fun n cs hn=>?_,fun n a m sz xs hn=>?_,fun n hn=>H.own _ (p n hn), fun n n' hn g A=>H.inj _ _ (p n hn) (p n' g) (F n n' (d n hn) (d n' g) A),H.jN,H.uf,fun n n' a m sz xs P K W I hn g hm Y A=>H.ju _ _ a m sz xs P K W I (u hn) (u g) hm Y (F n n' (d n (by rw[hn];simp)) (d n' (by rw[g];simp)) A),fun n a sz xs hn b T n' g=>H.live _ a sz xs (u hn) b T _ (p n' g),?_,?_,?_⟩;have J:=d m (by rw[hm];simp);rw[L.b m J] at hm;obtain⟨r,s,rfl⟩:=af4 hm;obtain⟨t,U,rfl⟩:=BY.1 hy;exact ar.JC L (fun q C=>H.kP _ r t q s U C) hr;have X:=d n (by rw[hn];simp);rw[L.b n X] at hn;obtain⟨r,s,rfl⟩:=af4 hn;obtain⟨M,V,N⟩:=H.box _ r s;refine⟨M,V,fun j y k=>?_⟩;rw[AN] at k;(cases fj:r[j]? with|none=>rw[fj] at k;cases k|some t=>rw[fj] at k;simp at k;subst k;obtain⟨v,R,O,S⟩:=N j t fj;exact⟨v,R,O,S.cr L fun q C=>H.kP _ r t q s (wt fj) C⟩);have hr:=H.row _ a m sz xs (u hn);refine⟨hr.pos,hr.er,hr.nl,hr.f0,hr.room,?_,hr.nr⟩;have hm:=hr.mode;cases m<;>exact hm;intro i pc o;simp at o;intro i j pc fo b _ o;simp at o;intro i pc n a m sz xs b o;simp at o
theorem R.cr (r:R B E w0 N σ a w G) (hx:σ.cr x c=some σ'):∃G',R B E w0 N σ' a w G':=by
 unfold St.cr at hx;split at hx
 ·injection hx with hx;subst hx;exact⟨G,r⟩
 ·rename_i v;split at hx
  ·injection hx with hx;subst hx;exact⟨G,r⟩
  rename_i l;split at hx
  ·cases hx
  ·rename_i o;injection hx with hx;subst hx;have t:¬aY<=c:=fun k=>by rw[r.BQ c k] at o;exact o rfl
   have i:¬aY<=x:=fun k=>l (zat k);have D:σ.used c=false:=by simpa using o
   have L:tO x c σ.used σ.h (fun n=>if n=c then(σ.h x).map (·.cr x c) else if n=x then none else(σ.h n).map (·.cr x c)):=by
    refine⟨v,D,by simp[v],fun n hn=>?_⟩;unfold back;by_cases f:n=c
    ·simp[f]
    ·simp[f,hn]
   exact⟨y6 G x c,r.defers,r.size,fun s=>(r.env s).cr L (fun m hm=>r.uH s m hm),fun s n hn=>aE.JC L (fun m hm=>r.uH s m hm) hn,r.hr.cr L,r.fr,fun n p b u J=>by
    have hn:=E.lt n p u;have j:n≠c:=fun e=>t (e▸hn);have q:n≠x:=fun e=>i (e▸hn);have d:(if n=c then(σ.h x).map (·.cr x c) else if n=x then none else(σ.h n).map (·.cr x c))=some b:=J
    rw[ak j,ak q] at d;have H:(y6 G x c).g n=G.g n:=by simp[y6,back,j]
    rw[H];cases f:σ.h n with
    |none=>rw[f] at d;cases d
    |some b0=>
     obtain⟨p1,C,I,p4,y,z⟩:=r.rG n p b0 u f;refine⟨p1,C,I,p4,y,fun gr sz xs K=>?_⟩;rw[f,K] at d;cases b0 with
     |box cs=>simp[bf.cr] at d
     |row F m' M A=>
      simp only[bf.cr,By,zae,bf.row.injEq] at d;obtain⟨_,rfl,_,_⟩:=d;exact z F M A rfl,fun n hn=>by
    have j:n≠c:=fun e=>t (e▸hn);have q:n≠x:=fun e=>i (e▸hn);show(if n=c then σ.used x else if n=x then false else σ.used n)=true
    rw[ak j,ak q];exact r.BQ n hn⟩
theorem R.aeX (r:R B E w0 N σ a w G) {m:Mode} {sz:Nat} (A:0<sz) (hx:σ.ins c (.row true m sz [])=some σ'): ∃G',R B E w0 N σ' a w G'/\RC w G' σ'.h (.sl c sz 0 0) (.slice none 0 0):=by obtain⟨hn,rfl⟩:=ui hx;have l:∀b,¬bY b ([]:List (List PC)):=(by rintro b ⟨k,j,q,⟨e,f,_⟩,_⟩;simp at f);have t:mz ([]:List (List PC)):=⟨by rintro k j q ⟨e,f,_⟩;simp at f,by rintro k j q k' j' q' b ⟨e,f,_⟩;simp at f⟩;have H:=r.hr.insert (w':=w) (n:=c) (blk:=.row true m sz []) (p:=⟨true,0,0,0,[],none⟩) hn (fun _ _=>rfl) (Pd _) (fun g=>by cases g) (fun cs y q d=>by cases d) (by refine⟨A,rfl,fun _=>⟨rfl,fun _=>rfl⟩,(fun g=>by cases g),(fun g=>by cases g),?_,fun _ _ k pc z=>by obtain⟨e,f,_⟩:=z;simp at f⟩;cases m with|bn=>exact fun b d=>absurd d (l b)|bq=>exact⟨fun b d=>absurd d (l b),t⟩|live=>exact⟨fun b d=>absurd d (l b),t⟩) (fun u x v s d hm n' cv pi qN mV h0 lS b o=>absurd o (l b)) (fun u v s d b o=>absurd o (l b)) (fun u x v s d hm i pc b C=>by simp at C);refine⟨_,r.step rfl (fun q D=>Ac _ _ D) (cD.insert r.hr hn (fun _ _=>rfl)) H r.fr,fun _=>?_⟩;simp only[dD];exact zbe ⟨rfl,rfl,rfl,rfl⟩
end
theorem ar.HQ (n:Nat) (c:ar):c.kS n=c\/c.kS n=.cC:=by(cases c<;>first|(exact .inl rfl)|skip);rename_i m k a off sz len;(cases h:Nat.beq m n with|true=>exact .inr (by simp[ar.kS,h])|false=>exact .inl (by simp[ar.kS,h]));rename_i m k a off sz i;cases h:Nat.beq m n with|true=>exact .inr (by simp[ar.kS,h])|false=>exact .inl (by simp[ar.kS,h])
theorem ar.anQ (n:Nat) (c:ar):(c.kS n).kS n=c.kS n:=by rcases c.HQ n with h|h;rw[h,h];rw[h];rfl
theorem ar.anR {n m:Nat} {c:ar} (h:(c.kS n).lf m):c.lf m:=by rcases c.HQ n with a|a;rwa[a] at h;rw[a] at h;exact h.elim
theorem ar.K6 (n:Nat) (c:ar) (a:c.sf=false):c.cut n=c.kS n:=by cases c<;>first|rfl|(simp[ar.sf] at a)
theorem ar.HS (n:Nat) (c:ar):(c.cut n).cut n=c.cut n:=by by_cases a:c.sf=false;rw[ar.K6 n c a];rcases c.HQ n with h|h;rw[h,ar.K6 n c a,h];rw[h];rfl;(cases c<;>first|(simp[ar.sf] at a;done)|skip);simp only[ar.cut,zaj];congr 1;apply OF;intro x _;exact ar.anQ n x
theorem ar.HT {n m:Nat} {c:ar} (h:(c.cut n).ref m):c.ref m:=by by_cases b:c.sf=false;rw[ar.K6 n c b] at h;rcases c.HQ n with a|a;rwa[a] at h;rw[a] at h;exact h.elim;(cases c<;>first|(simp[ar.sf] at b;done)|skip);obtain⟨x,hx,hm⟩:=h;obtain⟨y,hy,rfl⟩:=BY.1 hx;exact⟨y,hy,ar.anR hm⟩
theorem aE.HT {n m:Nat} {x:aE} (h:(x.cut n).ref m):x.ref m:=by cases x with|one c=>exact ar.HT h|agg cs=>obtain⟨c,a,hm⟩:=h;obtain⟨y,hy,rfl⟩:=BY.1 a;exact⟨y,hy,ar.HT hm⟩|dh xs=>obtain⟨x,hx,c,a,hm⟩:=h;obtain⟨y,hy,rfl⟩:=BY.1 hx;obtain⟨z,b,rfl⟩:=BY.1 a;exact⟨y,hy,z,b,ar.HT hm⟩
theorem aE.HS (n:Nat) (x:aE):(x.cut n).cut n=x.cut n:=by cases x with|one c=>simp only[aE.cut,ar.HS]|agg cs=>simp only[aE.cut,zaj];congr 1;apply OF;intro x _;exact ar.HS n x|dh xs=>simp only[aE.cut,zaj];congr 1;apply OF;intro x _;simp only[Function.comp,zaj];congr 1;apply OF;intro y _;exact ar.HS n y
section
variable {B:Nat} {E:Ex} {w0 w w':World} {G G':Gh} {N:Nat} {h h':Nat->Option bf} {used:Nat->Bool}
variable {P:Program} {a:Act} {σ σ':St} {n:Nat}
theorem AD {m:Nat} (hm:(h m).map (bf.cut n)≠none):h m≠none:=by intro a;rw[a] at hm;exact hm rfl
theorem CG {m:Nat} {c:Bool} {a:Mode} {sz:Nat} {xs:List (List C)} (hm:(h m).map (bf.cut n)=some (.row c a sz xs)):h m=some (.row c a sz xs):=by cases hh:h m with|none=>rw[hh] at hm;cases hm|some b=>rw[hh] at hm;cases b with|box cs=>simp[bf.cut] at hm|row cv pi bw aP=>simpa[bf.cut] using hm
theorem Uu {m:Nat} {cs:List ar} (hm:(h m).map (bf.cut n)=some (.box cs)):∃a,h m=some (.box a)/\cs=a.map (·.cut n):=by cases hh:h m with|none=>rw[hh] at hm;cases hm|some b=>rw[hh] at hm;cases b with|box a=>simp[bf.cut] at hm;exact⟨a,rfl,hm.symm⟩|row cv pi bw aP=>simp[bf.cut] at hm
theorem kG.cut {c:ar} {v:Value} (a:kG w G h c v):kG w G (fun m=>(h m).map (bf.cut n)) (c.kS n) v:=by rcases c.HQ n with e|e;rw[e];(cases c with|c x=>exact a|nil sz=>exact a|ptr m k sz off=>exact fun hm=>a (AD hm)|eU xs off=>exact a|sl m sz lo len=>exact fun hm=>a (AD hm)|cG m k q off sz len=>exact fun d xs hm=>a d xs (CG hm)|ez m k q off sz i=>exact fun d xs hm=>a d xs (CG hm)|dW xs off j m sz len=>obtain⟨b,o,pe,l,s,t,p,u,g,u2,r⟩:=a;exact⟨b,o,pe,l,s,t,p,u,g,u2,fun hm=>r (AD hm)⟩|fn f fv=>exact a|cC=>trivial);rw[e];trivial
theorem RC.cut {c:ar} {v:Value} (f:RC w G h c v):RC w G (fun m=>(h m).map (bf.cut n)) (c.cut n) v:=by by_cases d:c.sf=false;rw[Ao _ _ _ _ _ d] at f;rw[ar.K6 n c d];have b:=f.cut (n:=n);rcases c.HQ n with e|e;rw[e] at b⊢;rw[Ao _ _ _ _ _ d];exact b;rw[e];trivial;(cases c<;>first|(simp[ar.sf] at d;done)|skip);obtain⟨vs,b,l,i⟩:=f;refine⟨vs,b,by simpa using l,fun j c u a k=>?_⟩;rw[AN] at a;cases fj:(_:List ar)[j]? with|none=>rw[fj] at a;cases a|some g=>rw[fj] at a;injection a with a;subst a;exact⟨(i j g u fj k).1,(i j g u fj k).2.cut⟩
theorem eJ.cut {cs:List ar} {vs:List Value} (b:eJ w G h cs vs):eJ w G (fun m=>(h m).map (bf.cut n)) (cs.map (·.cut n)) vs:=by refine⟨by simpa using b.1,fun j c u a e=>?_⟩;rw[AN] at a;cases fj:cs[j]? with|none=>rw[fj] at a;cases a|some d=>rw[fj] at a;injection a with a;subst a;exact⟨(b.2 j d u fj e).1,(b.2 j d u fj e).2.cut⟩
theorem RV.cut {ag:Bool} {cs:List ar} {v:Value} (a:RV w G h ag cs v):RV w G (fun m=>(h m).map (bf.cut n)) ag (cs.map (·.cut n)) v:=by unfold RV at*;split;rename_i b;simp only[b,if_true] at a;obtain⟨vs,e,c⟩:=a;exact⟨vs,e,c.cut⟩;rename_i b;simp only[b] at a;exact eJ.cut a
theorem RA.cut {x:aE} {v:Value} (b:RA w G h x v):RA w G (fun m=>(h m).map (bf.cut n)) (x.cut n) v:=by cases x with|one c=>rcases b with rfl|b;exact .inl rfl;exact .inr (RV.cut (n:=n) b)|agg cs=>exact RV.cut (n:=n) (ag:=true) b|dh xs=>obtain⟨vs,e,hl,d⟩:=b;refine⟨vs,e,by simpa using hl,fun j x u a g=>?_⟩;rw[AN] at a;cases fj:xs[j]? with|none=>rw[fj] at a;cases a|some f=>rw[fj] at a;injection a with a;subst a;exact(d j f u fj g).cut
theorem R.cut (r:R B E w0 N σ a w G) (n:Nat):R B E w0 N (σ.cut n) a w G:=by have H:=r.hr;refine⟨r.defers,r.size,fun s=>(r.env s).cut,fun s m hm=>r.uH s m (aE.HT hm),?_,r.fr,fun m p b P z=>?_,r.BQ⟩;refine⟨fun m hm=>H.lP m (AD hm),fun m cs c q hm F hr=>?_,fun m cs hm=>?_,fun m d x sz xs hm=>H.row m d x sz xs (CG hm),fun m hm=>H.own m (AD hm), fun m g hm o=>H.inj m g (AD hm) (AD o),H.jN,H.uf,fun m g d x sz xs Q K W I hm o=>H.ju m g d x sz xs Q K W I (CG hm) (CG o), fun m d sz xs hm b z g o=>H.live m d sz xs (CG hm) b z g (AD o),by intro i pc l;simp at l,by intro i j pc fo b _ l;simp at l,by intro i pc n d m sz xs b l;simp at l⟩;obtain⟨t,u,rfl⟩:=Uu hm;obtain⟨A,k,rfl⟩:=BY.1 F;exact H.kP m t A q u k (ar.HT hr);obtain⟨t,u,rfl⟩:=Uu hm;obtain⟨L,V,M⟩:=H.box m t u;refine⟨L,V,fun j c f=>?_⟩;rw[AN] at f;(cases k:t[j]? with|none=>rw[k] at f;cases f|some A=>rw[k] at f;injection f with f;subst f;obtain⟨v,T,O,U⟩:=M j A k;exact⟨v,T,O,U.cut⟩);have y:(σ.h m).map (bf.cut n)=some b:=z;cases hh:σ.h m with|none=>rw[hh] at y;cases y|some b0=>obtain⟨p1,J,S,p4,D,C⟩:=r.rG m p b0 P hh;refine⟨p1,J,S,p4,D,fun d sz xs e=>?_⟩;subst e;have:=CG y;rw[hh] at this;injection this with this;exact C d sz xs this
structure Hd (q:Nat) (w:World) (G:Gh) (h:Nat->Option bf) (used:Nat->Prop) (w':World) (G':Gh) (h':Nat->Option bf):Prop where
 im:∀b,G.Im b->G'.Im b
 cell:∀b,G.Im b->∀o,w'.cell? (ad b o)=w.cell? (ad b o)
 name:∀n,used n->h' n≠none->h n≠none/\(G'.g n).nl=(G.g n).nl/\(G'.g n).b=(G.g n).b/\(G'.g n).o=(G.g n).o/\(G'.g n).cap=(G.g n).cap/\(G'.g n).na=(G.g n).na
 live:∀n gr sz xs,n≠q->used n->h' n=some (.row gr .live sz xs)->(∃u4 mr,h n=some (.row u4 .live sz mr))/\
  ∀k j pc,At (G.g n).px k j pc->pc.kw=true->∃fo,At (G'.g n).px k j fo/\fo.val=pc.val/\fo.kw=true
 box:∀b o v,G.Im b->w.cell? (ad b o)=some v->w'.cell? (ad b o)=some v
theorem kG.uk {q:Nat} {used:Nat->Prop} (K:Hd q w G h used w' G' h') {c:ar} {v:Value} (U:c.kS q=c) (hr:∀m,c.lf m->used m) (d:kG w G h c v):kG w' G' h' c v:=by cases c with|c x=>obtain⟨pc,s,z,g,p⟩:=d;exact⟨pc,s,z,g.congr fun b R o=>K.cell b (p b R) o,fun b R=>K.im b (p b R)⟩|nil sz=>exact d|ptr n k sz off=>intro hn;obtain⟨e,r,A,y,C,B⟩:=K.name n (hr n rfl) hn;rw[r,A,y];exact d e|eU xs off=>obtain⟨b,o,pe,s,z,g,p⟩:=d;refine⟨b,o,pe,s,z,K.im b g,fun j c X=>?_⟩;obtain⟨I,S,t⟩:=p j c X;exact⟨(K.cell b g _).trans I,S.congr fun a l T=>K.cell a (t a l) T,fun a l=>K.im a (t a l)⟩|sl n sz lo len=>intro hn;obtain⟨e,r,A,y,C,B⟩:=K.name n (hr n rfl) hn;have:=d e;unfold lL at*;rw[r,A,y,C,B];exact this|cG n k N off sz len=>have M:n≠q:=(by rintro rfl;simp[ar.kS,zbf] at U);intro L xs hn;obtain⟨⟨D,E,e⟩,hl⟩:=K.live n L N xs M (hr n rfl) hn;obtain⟨pc,p1,F,Q⟩:=d D E e;obtain⟨O,J,P,H⟩:=hl k off pc p1 Q;exact⟨O,J,P.trans F,H⟩|ez n k N off sz i=>have M:n≠q:=(by rintro rfl;simp[ar.kS,zbf] at U);intro L xs hn;obtain⟨⟨D,E,e⟩,hl⟩:=K.live n L N xs M (hr n rfl) hn;obtain⟨pc,b,o,len,cap,p1,F,Q,p4⟩:=d D E e;obtain⟨O,J,P,H⟩:=hl k off pc p1 Q;exact⟨O,b,o,len,cap,J,P.trans F,H,p4⟩|dW xs off j n sz len=>obtain⟨b,o,pe,s,z,g,p,h5⟩:=d;obtain⟨u,W,u2,Y⟩:=h5;refine⟨b,o,pe,s,z,K.im b g,fun i c V Z=>?_,u,(K.cell b g _).trans W,u2,fun hn=>?_⟩;obtain⟨I,S,t⟩:=p i c V Z;exact⟨(K.cell b g _).trans I,S.congr fun a l T=>K.cell a (t a l) T,fun a l=>K.im a (t a l)⟩;obtain⟨e,r,A,y,C,B⟩:=K.name n (hr n rfl) hn;have:=Y e;unfold lL at*;rw[r,A,y,C,B];exact this|fn f fv=>exact d|cC=>trivial
theorem RC.uk {q:Nat} {used:Nat->Prop} (K:Hd q w G h used w' G' h') {c:ar} {v:Value} (a:c.cut q=c) (hr:∀m,c.ref m->used m) (e:RC w G h c v):RC w' G' h' c v:=by by_cases d:c.sf=false;rw[Ao _ _ _ _ _ d] at*;rw[ar.K6 q c d] at a;exact e.uk K a fun m hm=>hr m (by rw[ar.aiY c m d];exact hm);(cases c<;>first|(simp[ar.sf] at d;done)|skip);rename_i f fv;obtain⟨vs,k,n,g⟩:=e;injection a with _ a;refine⟨vs,k,n,fun j c u b i=>⟨(g j c u b i).1,(g j c u b i).2.uk K ?_ fun m hm=>hr m ⟨c,wt b,hm⟩⟩⟩;have:=congrArg (fun l:List ar=>l[j]?) a;simp only[AN,b,By,zae] at this;exact this
theorem eJ.uk {q:Nat} {used:Nat->Prop} (K:Hd q w G h used w' G' h') {cs:List ar} {vs:List Value} (e:∀c∈cs,c.cut q=c) (hr:∀c∈cs,∀m,c.ref m->used m) (b:eJ w G h cs vs):eJ w' G' h' cs vs:= ⟨b.1,fun j c u a d=>⟨(b.2 j c u a d).1,(b.2 j c u a d).2.uk K (e c (wt a)) (hr c (wt a))⟩⟩
theorem RV.uk {q:Nat} {used:Nat->Prop} (K:Hd q w G h used w' G' h') {ag:Bool} {cs:List ar} {v:Value} (d:∀c∈cs,c.cut q=c) (hr:∀c∈cs,∀m,c.ref m->used m) (a:RV w G h ag cs v):RV w' G' h' ag cs v:=by unfold RV at*;split;rename_i b;simp only[b,if_true] at a;obtain⟨vs,e,f⟩:=a;exact⟨vs,e,f.uk K d hr⟩;rename_i b;simp only[b] at a;exact eJ.uk K d hr a
theorem af5 {q:Nat} {cs:List ar} (h:cs.map (·.cut q)=cs):∀c∈cs,c.cut q=c:=by intro c a;obtain⟨j,b⟩:=IS a;have:=congrArg (fun l:List ar=>l[j]?) h;simp only[AN,b,By,zae] at this;exact this
theorem RA.uk {q:Nat} {used:Nat->Prop} (K:Hd q w G h used w' G' h') {x:aE} {v:Value} (b:x.cut q=x) (hr:∀m,x.ref m->used m) (f:RA w G h x v):RA w' G' h' x v:=by cases x with|one c=>injection b with b;exact f.imp id fun i=>RV.uk K (fun d a=>by simp at a;subst a;exact b) (fun d a m hm=>hr m (by simp at a;subst a;exact hm)) i|agg cs=>injection b with b;exact RV.uk K (af5 b) (fun d a m hm=>hr m ⟨d,a,hm⟩) f|dh xs=>injection b with b;obtain⟨vs,e,hl,i⟩:=f;refine⟨vs,e,hl,fun j x u g k=>RV.uk K (af5 ?_) (fun d a m hm=>hr m ⟨x,wt g,d,a,hm⟩) (i j x u g k)⟩;have:=congrArg (fun l:List (Bool×List ar)=>l[j]?) b;simp only[AN,g,By,zae] at this;exact congrArg zbb this
end
section
variable {B:Nat} {E:Ex} {w0 w w':World} {G G':Gh} {N:Nat} {h h':Nat->Option bf} {used:Nat->Bool}
variable {P:Program} {a:Act} {σ σ':St} {n:Nat}
structure N9 (B:Nat) (E:Ex) (w:World) (G:Gh) (h:Nat->Option bf) (n k off:Nat) (q:PC):Prop where
 fF:Good w q
 sep:Sep q
 nr:xk w q
 own:∀b,bP b q->¬G.Im b/\fD w b/\(B<=b\/E b)
 name:∀b,bP b q->∀m,h m≠none->(G.g m).nl=false->b≠(G.g m).b
 row:∀b,bP b q->∀m gr mo sz xs,m≠n->h m=some (.row gr mo sz xs)->¬bY b (G.g m).px
 rest:∀b,bP b q->∀k' j' c,At (G.g n).px k' j' c->(k',j')≠(k,off)->¬bP b c
theorem R.nest (r:R B E w0 N σ a w G) {t k off:Nat} {xs:List (List C)} (hn:σ.h n=some (.row true .live t xs)) (rn:n<aY) (aqV:∀s,(σ.env s).cut n=σ.env s) (aqW:∀m cs c,σ.h m=some (.box cs)->c∈cs->c.cut n=c) {pe:List PC} (x:(G.g n).px[k]? =some pe) (oW:off+1=t) {q:PC} {cur:Array Value} {et:TypeId} (O:w.heap[(G.g n).b]? =some (.cells cur et (0,0))) (u:N9 B E w G σ.h n k off q): R B E w0 N (σ.gu n (.row true .live t (xs.set k ((pe.map PC.er).set off q.er)))) a (jD w (G.g n).b ((G.g n).o+k*t+off) [q.val] cur) ⟨G.Im,bj G.g n {G.g n with px:=(G.g n).px.set k (pe.set off q)}⟩:=by have H:=r.hr;have hr:=H.row n true .live t xs hn;have I:σ.h n≠none:=(by rw[hn];simp);have y:(G.g n).nl=false:=(by cases u:(G.g n).nl with|false=>rfl|true=>rw[(hr.nl u).1] at x;simp at x);obtain⟨l1,l2,l3⟩:=hr.f0 y;obtain⟨wm,vc,xP⟩:=H.own n I y;have Bh:pe.length=t:=l2.1 pe (wt x);have ars:off<pe.length:=(by omega);have F:At (G.g n).px k off pe[off]:=⟨pe,x,AT ars⟩;have U:(G.g n).o+k*t+off+([q.val]:List Value).length<=cur.size:=(by have:=Hv O (l2.2.1 k off _ F);simp only[zau,zaz];omega);generalize pO:jD w (G.g n).b ((G.g n).o+k*t+off) [q.val] cur=w2;have fk:∀b,b≠(G.g n).b->w2.heap[b]? =w.heap[b]? :=fun b d=>(by rw[<-pO];exact Ej b d);have Y:∀b,fD w b->fD w2 b:=fun b d=>(by rw[<-pO];exact NI O U b d);have qp:w2.heap.size=w.heap.size:=(by rw[<-pO];exact vF);have Wq:∀b,bP b q->b≠(G.g n).b:=fun b d=>u.name b d n I y;have oV:∀b,bY b (G.g n).px->b≠(G.g n).b:=fun b d=>H.y5 I y hn d;have oS:∀b,bY b ((G.g n).px.set k (pe.set off q))->bP b q\/bY b (G.g n).px:=(by rintro b ⟨k',j',c,A,d⟩;rcases sP x A with⟨_,_,rfl⟩|⟨f,_⟩;exact .inl d;exact .inr ⟨_,_,_,f,d⟩);have E3:∀b,G.Im b->b≠(G.g n).b:=fun b d z=>wm (z▸d);have gd:tP w2 (G.g n).b (G.g n).o t ((G.g n).px.set k (pe.set off q)):=(by refine⟨fun e z=>?_,fun k' j' c A=>?_,fun k' j' c A=>?_⟩;rcases zah z with z|rfl;exact l2.1 e z;rw[zaL];exact Bh;rw[<-pO,Ei O U];rcases sP x A with⟨rfl,rfl,rfl⟩|⟨f,J⟩;rw[aj ⟨Pd _,by simp⟩];simp;have:=aaO hr.pos l2.1 f F J;rw[ak (by simp only[zau,zaz];omega)];exact l2.2.1 _ _ _ f;rcases sP x A with⟨rfl,rfl,rfl⟩|⟨f,J⟩;exact u.fF.congr fun b d o=>ku (fk b (Wq b d)) o;exact(l2.2.2 _ _ _ f).congr fun b d o=>ku (fk b (oV b ⟨_,_,_,f,d⟩)) o);have K:Hd n w G σ.h (fun m=>σ.used m=true) w2 ⟨G.Im,bj G.g n {G.g n with px:=(G.g n).px.set k (pe.set off q)}⟩ (bj σ.h n (some (.row true .live t (xs.set k ((pe.map PC.er).set off q.er))))):=(by refine⟨fun _ h=>h,fun b d o=>ku (fk b (E3 b d)) o,fun m hm l=>?_,fun m L sz V D hm l=>?_,fun b o v d Z=>(ku (fk b (E3 b d)) o).trans Z⟩;by_cases D:m=n;subst D;simp only[dD];exact⟨I,trivial,trivial,trivial,trivial,trivial⟩;rw[dZ _ _ _ _ D] at l;simp only[dZ _ _ _ _ D];exact⟨l,trivial,trivial,trivial,trivial,trivial⟩;rw[dZ _ _ _ _ D] at l;simp only[dZ _ _ _ _ D];exact⟨⟨L,V,l⟩,fun k j pc f W=>⟨pc,f,rfl,W⟩⟩);have Hn:HR B E w2 ⟨G.Im,bj G.g n {G.g n with px:=(G.g n).px.set k (pe.set off q)}⟩ (bj σ.h n (some (.row true .live t (xs.set k ((pe.map PC.er).set off q.er))))) σ.used []:=(by refine H.aiL (fun b _ d=>fk b (d y)) (by rw[qp];exact Pd _) (fun b _ d=>Y b d) (fun _ h=>h) (H.lP n I) (fun _=>⟨wm,vc,by rw[qp];exact xP⟩) (fun _ m hm l pK=>H.inj m n l I hm pK y) (fun _ m L sz xs hm l b d=>H.live m L sz xs l b d n I y) (fun cs c m d=>by cases d) (fun m cs c v hm l hc Z=>Z.uk K (aqW m cs c l hc) fun p X=>H.kP m cs c p l hc X) ?_ ?_ ?_ (fun L m sz xs _ _ i pc b hi=>by simp at hi) ?_;refine⟨hr.pos,?_,(fun hl=>by rw[y] at hl;cases hl),fun _=>⟨Y _ l1,gd,by show((G.g n).px.set k _).length<=_;simpa using l3⟩,fun _ _=>?_,?_,fun _ _ k' pc A=>?_⟩;show xs.set k _=((G.g n).px.set k _).map _;rw[zaB,<-hr.er,zaB];obtain⟨r2,mE,e',P,r4⟩:=hr.room y rfl;rw[O] at P;injection P with P;injection P with P _ _;subst P;obtain⟨Ur,c1,c2⟩:=Kj (vs:=[q.val]) (o:=(G.g n).o+k*t+off) O U;rw[pO] at c1;exact⟨r2,Ur,et,c1,by rw[c2];exact r4⟩;have S:=hr.mode;refine⟨fun b d=>?_,fun k' j' c A=>?_,fun k1 j1 c1 k2 j2 c2 b f W J d M=>?_⟩;rcases oS b d with f|f;exact⟨(u.own b f).1,Y b (u.own b f).2.1,(u.own b f).2.2⟩;exact⟨(S.1 b f).1,Y b (S.1 b f).2.1,(S.1 b f).2.2⟩;rcases sP x A with⟨rfl,rfl,rfl⟩|⟨f,_⟩;exact u.sep;exact S.2.1 _ _ _ f;rcases sP x f with⟨rfl,rfl,rfl⟩|⟨g1,n1⟩;rcases sP x W with⟨rfl,rfl,rfl⟩|⟨g2,n2⟩;exact J rfl;exact u.rest b d _ _ _ g2 n2 M;rcases sP x W with⟨rfl,rfl,rfl⟩|⟨g2,n2⟩;exact u.rest b M _ _ _ g1 n1 d;exact S.2.2 _ _ _ _ _ _ b g1 g2 J d M;have hz:=hr.nr rfl rfl;rcases sP x A with⟨_,_,rfl⟩|⟨f,_⟩;exact u.nr.cz fun b d arr e z=>⟨arr,(fk b (Wq b d)).trans z,rfl⟩;exact(hz k' pc f).cz fun b d arr e z=>⟨arr,(fk b (oV b ⟨_,_,_,f,d⟩)).trans z,rfl⟩;intro L m sz V d hm n' cv m' bw mV Q l cU b T;rcases oS b T with f|f;exact u.row b f n' cv m' bw mV Q l;exact H.ju n n' true .live t xs cv m' bw mV hn l (by simp) cU (zaF Q) b f;intro L sz V d b T;rcases oS b T with f|f;exact⟨fun _=>Wq b f,fun n' _ l hl=>u.name b f n' l hl⟩;exact⟨fun _=>oV b f,fun n' _ l hl=>H.live n true t xs hn b f n' l hl⟩;intro _ _ b d;obtain⟨m,L,mo,sz,V,hm,l,T⟩:=d;exact H.y5 I y l T);refine⟨r.defers,r.size,fun s=>(r.env s).uk K (aqV s) fun m hm=>r.uH s m hm,r.uH,Hn,r.fr.one vc (fun b _ J=>fk b J) (by rw[qp];exact Pd _) (by rw[<-pO];exact Gx O U) (by rw[<-pO];rfl) (by rw[<-pO];rfl) (by rw[<-pO];rfl),fun m p b X d=>?_,r.BQ⟩;have D:m≠n:=(by rintro rfl;have:=E.lt m p X;omega);have M:bj σ.h n (some (.row true .live t (xs.set k ((pe.map PC.er).set off q.er)))) m=some b:=d;rw[dZ _ _ _ _ D] at M;have:=r.rG m p b X M;simp only[dZ _ _ _ _ D];exact this
end
section
variable {B:Nat} {E:Ex} {w0 w w':World} {G G':Gh} {N:Nat} {h h':Nat->Option bf} {used:Nat->Bool}
variable {P:Program} {o:Oper} {a:Act} {σ σ':St} {Q:Exit->Act->World->Prop}
def KB (B:Nat) (E:Ex) (w:World) (G:Gh) (h:Nat->Option bf) (n k off sz:Nat) (zs:List (List C)) (v:Value):Prop:=
 ∃q:PC,q.val=v/\q.er=.list sz zs/\N9 B E w G h n k off q
theorem HR.axs (H:HR B E w G h used []) {n k off f:Nat} {xs:List (List C)} (hn:h n=some (.row true .live f xs)) (oW:off+1=f) {pc:PC} (d:At (G.g n).px k off pc):N9 B E w G h n k off pc:=by have hr:=H.row n true .live f xs hn;have t:(G.g n).nl=false:=(by cases hq:(G.g n).nl with|false=>rfl|true=>obtain⟨e,s,_⟩:=d;rw[(hr.nl hq).1] at s;simp at s);obtain⟨l1,l2,l3⟩:=hr.f0 t;have i:∀b,bP b pc->bY b (G.g n).px:=fun b a=>⟨k,off,pc,d,a⟩;refine⟨l2.2.2 _ _ _ d,hr.mode.2.1 _ _ _ d,hr.nr rfl rfl k pc (by rw[<-oW];exact d),fun b a=>hr.mode.1 b (i b a),fun b a m j hl=>H.live n true f xs hn b (i b a) m j hl,fun b a m r q sz p hm j l=>?_, fun b a k' j' c v u l=>hr.mode.2.2 _ _ _ _ _ _ b v d u l a⟩;by_cases o:q=.bn;subst o;exact(hr.mode.1 b (i b a)).1 ((H.row m r .bn sz p j).mode b l);exact H.ju n m true .live f xs r q sz p hn j (by simp) o (zaF hm) b (i b a) l
theorem azS {t ty e:TypeId} {i:TypeInfo} (b:P.underlying t=some (.slice e)) (d:P.info? e=some i) (a ya:Option Addr) (c:Nat): (Builtin.append_ #[t,t] ty #[.slice a 0 0,.slice ya 0 c]).run P w=.ok (.slice a 0 0) w:=by cases ya<;>cases a<;>simp[Builtin.append_,run_underlying b,sizeOf,typeInfo,d,Builtin.lenOf,Builtin.firstCells,loadCells,loadCellsFrom,storeCells]
theorem Sep.flat {sz:Nat} {x:Option Addr} {cap:Nat} {px:List (List PC)} (f:jm (px.map fun e=>e.map PC.er)=true):Sep (.list sz x cap px):=by have d:∀k j c,At px k j c->c.er.gU=true:=(by rintro k j c ⟨e,i,g⟩;have h:=GB.1 f (e.map PC.er) (by simp only[BY];exact⟨e,wt i,rfl⟩);exact GB.1 h c.er (by simp only[BY];exact⟨c,wt g,rfl⟩));exact .list _ _ _ _ (fun k j c a=>(Sep.kO (d k j c a)).1) (fun b o k j c _ a=>(Sep.kO (d k j c a)).2 b) (fun k j c k' j' c' b a _ _ l=>absurd l ((Sep.kO (d k j c a)).2 b))
theorem aeS {sz:Nat} {x:Option Addr} {cap b:Nat} {px:List (List PC)} (f:jm (px.map fun e=>e.map PC.er)=true) (a:bP b (.list sz x cap px)):∃o,x=some (ad b o):=by rw[bP.pg] at a;rcases a with⟨_,d⟩|⟨k,j,c,h,g⟩;exact d;exact absurd ⟨k,j,c,h,g⟩ (D0 f b)
theorem aom (r:R B E w0 N σ a w G) {n k rs off sz vC DA by_:Nat} {t e:TypeId} {i:TypeInfo} {z:Value} {x y:Operand} {mx my:MO} {xs ls ys:List (List C)} {yc:ar}
  (ho:o.op=.call {callee:=.builtin .append,args:=#[x,y],argTypes:=#[t,t]}) (jw:dC x mx=true) (jV:dC y my=true)
  (ht:P.underlying t=some (.slice e)) (hi:P.info? e=some i) (hz:i.zero=some z) (du:i.size=sz) (kU:0<sz) (rY:i.bytes=by_) (AW:0<by_) (Fs:z.cells.size=sz)
  (hn:σ.h n=some (.row true .live rs xs)) (oW:off+1=rs) (hx:σ.ev mx=.one (.cG n k rs off vC DA)) (hl:(xs[k]?).bind (·[off]?)=some (.list sz ls)) (s6:jm ls=true)
  (hy:σ.ev my=.one yc) (hv:eA σ.h yc=some (.list sz ys)) (ua:jm ys=true) (hb:(ls.length+ys.length)*by_<=eD):
  o.wp P a w (fun a' w'=>∃v,a'=a.put o.dst v/\R B E w0 N σ a w' G/\KB B E w' G σ.h n k off sz (ls++ys) v) Q:=by
 have H:=r.hr;obtain⟨x1,_⟩:=r.ev jw;obtain⟨y1,_⟩:=r.ev jV;rw[hx] at x1;rw[hy] at y1;have hyj:yc≠ .cC:=by rintro rfl;simp[Am.eA] at hv
 obtain⟨pc,p1,p2,p3⟩:=(x1.jR (by simp)).1 true xs hn;obtain⟨bJ,iK,nz⟩:=H.QA hn p1;rw[hl] at nz;injection nz with nz;have M:=H.axs hn oW p1;have hr:=H.row n true .live rs xs hn;obtain⟨yp,e1,e2,e3⟩:=H.eA hv (y1.jR hyj).1;cases pc with
 |int kk nn=>simp[PC.er] at nz
 |bool bb=>simp[PC.er] at nz
 |list s' x0 cap d=>
 rw[PC.fx] at nz;injection nz with g1 g2;subst g1;cases yp with
 |int kk nn=>simp[PC.er] at e1
 |bool bb=>simp[PC.er] at e1
 |list s2 ya yc' py=>
 rw[PC.fx] at e1;injection e1 with f1 W;have f1:=f1.symm;subst f1;have LV:ys.length=py.length:=by rw[<-W];simp
 have hll:ls.length=d.length:=by rw[g2];simp
 have Py:jm (d.map fun e=>e.map PC.er)=true:=by rw[<-g2];exact s6
 have arM:jm (py.map fun e=>e.map PC.er)=true:=by rw[W];exact ua
 have rW:jm ((d++py).map fun e=>e.map PC.er)=true:=by
  rw[zaS];simp only[jm,List.all_append,co];exact⟨Py,arM⟩
 have aea:(d++py).map (fun e=>e.map PC.er)=ls++ys:=by rw[zaS,<-g2,W]
 have Vo:yJ w sz py (a.eval y):=by rw[<-e2];exact yJ.XY e3
 have jz:∀e∈d,e.length=sz:=by
  intro e l;cases iK with
  |nil _ _ _ _=>simp at l
  |cons _ _ _ _ _ _ _ _ h4 _ _=>exact h4 e l
 have aq7:∀k j c,At d k j c->Good w c:=by
  intro k j c s;cases iK with
  |nil _ _ _ _=>obtain⟨e,l,_⟩:=s;simp at l
  |cons _ _ _ _ _ _ _ _ _ _ h6=>exact h6 k j c s
 have Pw:∀e∈d++py,e.length=sz:=fun e l=>(zan.1 l).elim (jz e) (Vo.1 e);have aBG:∀k j c,At (d++py) k j c->Good w c:=fun k j c s=>(vP s).elim (fun h=>aq7 _ _ _ h.2) (fun h=>Vo.2.1 _ _ _ h.2);have kT:∀k j c,At (d++py) k j c->c.er.gU=true:=by
  rintro k j c ⟨e,l,hj⟩;have h6:=GB.1 rW (e.map PC.er) (by simp only[BY];exact⟨e,wt l,rfl⟩);exact GB.1 h6 c.er (by simp only[BY];exact⟨c,wt hj,rfl⟩)
 have Ly:cap=0->d=[]:=by
  intro f;cases iK with
  |nil _ _ _ _=>rfl
  |cons _ _ _ _ _ h1 h2 _ _ _ _=>subst f;exact If (by omega)
 have WD:∀{u:Value} {J:World},(Builtin.append_ #[t,t] o.type #[a.eval x,a.eval y]).run P w=.ok u J->(execOp a.eval o).run P w=.ok (.value u) J:=by
  intro u J de;simp[execOp,ho,resolve,invoke,builtin,de]
 have IG:a.eval x=.slice x0 d.length cap:=p2.symm;by_cases T:d++py=[]
 ·obtain⟨rfl,rfl⟩:=List.append_eq_nil_iff.1 T;have fj:cap=0:=by
   rcases M.nr with f|⟨f,_⟩
   ·exact f
   ·exact absurd rfl f
  subst fj;have arN:ys=[]:=by rw[<-W];rfl
  have arj:ls=[]:=by rw[g2];rfl
  refine w9 (v:=.slice x0 0 0) (w':=w) (WD ?_) ⟨_,rfl,r,.list sz x0 0 [],rfl,by rw[PC.fx,arN,arj];rfl,M⟩;rw[IG,<-e2];exact azS ht hi _ _ _
 ·have L:Cr B E w G (bj σ.h n none) sz .live d (a.eval x):=by
   rcases M.nr with f|⟨f,h1,b,D,cur,et,rfl,h3,h4⟩
   ·subst f;have:=Ly rfl;subst this;exact .inl ⟨x0,IG,rfl⟩
   ·have fY:bP b (.list sz (some (ad b D)) cap d):=.here _ _ _ _ f;refine .inr ⟨b,D,cap,cur,et,IG,h3,h4,h1,?_,?_,⟨(M.own b fY).1,fun q hq hlq l=>?_,fun q X Y Z V hq=>?_⟩,(M.own b fY).2.2,fun b' bD=>absurd bD (D0 Py b')⟩
    ·cases iK with
     |nil _ _ _ _=>exact absurd rfl f
     |cons _ _ _ _ _ _ h2 _ _ _ _=>exact h2
    ·generalize mK:PC.list sz (some (ad b D)) cap d=p at iK;cases iK with
     |int k n=>cases mK
     |bool b=>cases mK
     |nil _ _ _ _=>injection mK with _ _ _ e4;exact absurd e4 f
     |cons _ b' oo' _ _ O q2 q3 q4 q5 q6=>
      injection mK with f1 W f3 f4;injection W with W;obtain⟨rfl,rfl⟩:=pF W;subst f1 f3 f4;exact⟨q4,q5,q6⟩
    ·obtain⟨O,q2⟩:=HU hq;exact M.name b fY q O hlq l.symm
    ·obtain⟨O,q2⟩:=vT hq;exact M.row b fY q X Y Z V q2 O
  obtain⟨r1,r2,Z3,c',hyv,r3⟩:=Vo;have aek:(py.flatten.map PC.val).length=py.length*sz:=Lf r1;have h1:∀u∈py.flatten.map PC.val,u.oneCell'=true:=fun u hu=>by obtain⟨pc,_,rfl⟩:=BY.1 hu;exact PC.mU pc
  have hB:=r.fr.size;have LI:(d++py).length=d.length+py.length:=by simp
  rcases ai8 (P:=P) w (ty:=o.type) (B:=B) (E:=E) ht hi hz du kU rY AW jz L aek r3 h1 (by rw[<-hll,<-LV];exact hb) with⟨a0,k0,_,Bg,_⟩|⟨b,D,yS,cur,e',aew,b2,b3,b4,b5,b6,b7,b8,b9,de⟩|⟨yS,arr,c1,c2,c3,c4,de⟩
  ·exact absurd (by rw[Bg,If k0];rfl) T
  ·
   rw[IG] at aew;injection aew with O q2 q3;subst O q3;have Bc:(D+d.length*sz)+(py.flatten.map PC.val).length<=cur.size:=by rw[aek,b3,zaI,<-zax];exact Nat.add_le_add_left (zac _ b5) _
   generalize pO:jD w b (D+d.length*sz) (py.flatten.map PC.val) cur=J at de;have fk:∀x,x≠b->J.heap[x]? =w.heap[x]? :=fun x hx=>by rw[<-pO];exact Ej x hx
   have qp:J.heap.size=w.heap.size:=by rw[<-pO];exact vF
   have mI:∀x,Cz w J x:=fun x=>by
    by_cases hx:x=b
    ·subst hx;rw[<-pO];exact Gx b2 Bc
    ·exact Cz.of_eq (fk x hx)
   have VE:¬G.Im b:=b7.1;have kg:∀k' j,k'<d.length->j<sz->J.cell? (ad b (D+k'*sz+j))=w.cell? (ad b (D+k'*sz+j)):=by
    intro k' j A hj;rw[<-pO,Ei b2 Bc,ak];rintro⟨O,_⟩;have:(k'+1)*sz<=d.length*sz:=zac _ A;rw[zax] at this;omega
   have Vx:∀{k' j c},At d k' j c->k'<d.length/\j<sz:=by
    rintro k' j c ⟨e,l,hj⟩;refine⟨(AI.1 l).1,?_⟩;have:=jz e (wt l);have:=(AI.1 hj).1;omega
   have aq6:Good J (.list sz (some (ad b D)) cap d):=by
    by_cases f:d=[]
    ·subst f;exact .nil _ _ _ kU
    ·refine .cons _ _ _ _ _ f (by omega) kU jz (fun k' j c s=>?_) (fun k' j c s=>Good.kO (kT k' j c ?_))
     ·rw[kg k' j (Vx s).1 (Vx s).2];exact b6.2.1 k' j c s
     ·obtain⟨e,l,hj⟩:=s;exact⟨e,by rw[zaD (AI.1 l).1];exact l,hj⟩
   have cY:σ.h n≠none:=by rw[hn];simp
   have jJ:∀m,σ.h m≠none->(G.g m).nl=false->(G.g m).b≠b:=by
    intro m hm hl;by_cases cL:m=n
    ·subst cL;by_cases f:d=[]
     ·intro l;subst l;rcases M.nr with I|⟨I,_⟩
      ·have:=b7.2.1;subst I;simp at b5;subst f;have:py=[]:=by
        apply If;simpa using b5
       exact T (by rw[this];rfl)
      ·exact I f
     ·exact fun l=>M.name b (.here _ _ _ _ f) m hm hl l.symm
    ·exact b7.2.1 m (by rw[dZ _ _ _ _ cL];exact hm) hl
   have arC:∀m X Y Z V,m≠n->σ.h m=some (.row X Y Z V)->¬bY b (G.g m).px:=fun m X Y Z V cL hm=>b7.2.2 m X Y Z V (by rw[dZ _ _ _ _ cL];exact hm);have ID:∀k' F c,At (G.g n).px k' F c->(k',F)≠(k,off)->¬bP b c:=by
    intro k' F c A bk;by_cases f:d=[]
    ·intro hbc;rcases M.nr with I|⟨I,_⟩
     ·subst I;subst f;have:py=[]:=by
       apply If;simpa using b5
      exact T (by rw[this];rfl)
     ·exact I f
    ·exact M.rest b (.here _ _ _ _ f) k' F c A bk
   obtain⟨l1,l2,l3⟩:=hr.f0 bJ;have Lz:Kp J (G.g n) (G.g n) true .live rs xs:=by
    refine⟨by simp,.inr rfl,rfl,rfl,rfl,rfl,rfl,hr.er,fun h=>(by rw[bJ] at h;cases h),fun _=>⟨⟨l2.1,fun k' F c A=>?_,fun k' F c A=>?_⟩,l3⟩,hr.mode.2,fun b h=>h,fun _ k' F pc A hL=>⟨pc,A,rfl,hL⟩,fun _ _=>?_⟩
    ·rw[ku (fk _ (jJ n cY bJ))];exact l2.2.1 _ _ _ A
    ·by_cases fN:(k',F)=(k,off)
     ·have h1:k'=k:=congrArg zbi fN;have h2:F=off:=congrArg zbb fN;subst h1 h2;obtain⟨ea,hea,hja⟩:=A;obtain⟨eb,Pr,Pu⟩:=p1;rw[hea] at Pr;injection Pr with Pr;subst Pr;rw[hja] at Pu;injection Pu with Pu;subst Pu;exact aq6
     ·exact(l2.2.2 _ _ _ A).congr fun x hx o=>ku (fk x (by rintro rfl;exact ID k' F c A fN hx)) o
    ·exact(hr.nr rfl rfl).cz fun x _ arr e l=>mI x arr e l
   obtain⟨xj,K,_⟩:=H.MF (G':=G) (h':=σ.h) (w':=J) (S:=fun m=>m=n) (by rw[qp];exact Pd _) (fun x hx dU=>by
     by_cases C9:x=b
     ·subst C9;by_cases f:d=[]
      ·rcases M.nr with I|⟨I,_⟩
       ·subst I;subst f;exact absurd (by rw[If (by simpa using b5:py.length=0)];rfl) T
       ·exact absurd f I
      ·exact absurd (.inr ⟨k,off,_,p1,.here _ _ _ _ f⟩) (dU n rfl)
     ·exact fk x C9) (fun x _=>mI x) rfl (fun m hm=>by
     subst hm;exact⟨true,.live,rs,xs,xs,hn,hn,Lz⟩) (fun m _=>⟨rfl,rfl⟩)
   have r':R B E w0 N σ a J G:=r.step rfl (fun _ h=>h) K xj (r.fr.one b8 (fun x _ hx=>fk x hx) (by rw[qp];exact Pd _) (mI b) (by rw[<-pO];rfl) (by rw[<-pO];rfl) (by rw[<-pO];rfl));refine w9 (v:=.slice (some (ad b D)) (d.length+py.length) cap) (w':=J) (WD ?_) ⟨_,rfl,r',.list sz (some (ad b D)) cap (d++py),by simp[PC.val],by rw[PC.fx,aea],?_⟩
   ·rw[IG,hyv];rw[IG] at de;exact de
   ·have U:∀x,bP x (.list sz (some (ad b D)) cap (d++py))->x=b:=fun x hx=>by
     obtain⟨o',kL⟩:=aeS rW hx;injection kL with kL;exact(pF kL).1.symm
    refine⟨.cons _ _ _ _ _ T (by rw[LI];exact b5) kU Pw (fun k' j c s=>?_) (fun k' j c s=>Good.kO (kT k' j c s)),Sep.flat rW,?_,fun x hx=>?_,fun x hx m hm hl=>?_,fun x hx m X Y Z V cL hm=>?_,fun x hx k' F c A bk=>?_⟩
    ·rw[<-pO,Ei b2 Bc];have hf:=xq Pw s;rw[zaX] at hf;have m5:d.flatten.length=d.length*sz:=by have:=Lf jz;rwa[zai] at this
     rcases vP s with⟨oT,A⟩|⟨oT,A⟩
     ·rw[ak ?_]
      ·exact b6.2.1 k' j c A
      ·rintro⟨O,_⟩;have:=(Vx A).2;have:(k'+1)*sz<=d.length*sz:=zac _ oT;rw[zax] at this;omega
     ·have CW:d.length*sz<=k'*sz+j:=zas (zac _ oT) (Nat.le_add_right _ _);have cF:=(AI.1 hf).1;rw[za3,m5] at cF;rw[zaf (by rw[m5];exact CW),m5] at hf;rw[aj ⟨by omega,by simp only[zai];omega⟩];rw[AN,show D+k'*sz+j - (D+d.length*sz)=k'*sz+j - d.length*sz by omega,hf];rfl
    ·obtain⟨mE,O,q2⟩:=Kj (vs:=py.flatten.map PC.val) (o:=D+d.length*sz) b2 Bc;rw[pO] at O;exact .inr ⟨T,b4,b,D,mE,e',rfl,O,by rw[q2,b3]⟩
    ·rw[U x hx];exact⟨VE,(mI b).mh ⟨cur,e',b2⟩,b8⟩
    ·rw[U x hx];exact(jJ m hm hl).symm
    ·rw[U x hx];exact arC m X Y Z V cL hm
    ·rw[U x hx];exact ID k' F c A bk
  ·
   have hd:∀x:Nat,x<w.heap.size->(w.drew.alloc (.cells arr e)).heap[x]? =w.heap[x]? :=fun x hx=>heap_alloc_old w.drew _ x hx;have aeu:w.heap.size<=(w.drew.alloc (.cells arr e)).heap.size:=by
    have:(w.drew.alloc (.cells arr e)).heap.size=w.drew.heap.size+1:=by simp
    have h2:w.drew.heap.size=w.heap.size:=rfl;omega
   have r':R B E w0 N σ a (w.drew.alloc (.cells arr e)) G:=r.step rfl (fun _ h=>h) (cD.world (fun x hx=>hd x (H.jN x hx)) _) (H.grow hd aeu) (r.fr.grow hd aeu rfl rfl rfl);have qp:arr.size=yS*sz:=by rw[c3,Fs];omega
   refine w9 (v:=.slice (some (ad w.heap.size 0)) (d.length+py.length) yS) (w':=w.drew.alloc (.cells arr e)) (WD ?_) ⟨_,rfl,r',.list sz (some (ad w.heap.size 0)) yS (d++py),by simp[PC.val],by rw[PC.fx,aea],?_⟩
   ·rw[hyv];exact de
   ·have U:∀x,bP x (.list sz (some (ad w.heap.size 0)) yS (d++py))->x=w.heap.size:=fun x hx=>by
     obtain⟨o',kL⟩:=aeS rW hx;injection kL with kL;exact(pF kL).1.symm
    refine⟨.cons _ _ _ _ _ T (by rw[LI];exact c1) kU Pw (fun k' j c s=>?_) (fun k' j c s=>Good.kO (kT k' j c s)),Sep.flat rW,?_,fun x hx=>?_,fun x hx m hm hl=>?_,fun x hx m X Y Z V cL hm bD=>?_,fun x hx k' F c A bk bD=>?_⟩
    ·have hf:=xq Pw s;have I:=c4 _ _ (by rw[<-zaS,<-zaX,AN,hf];rfl);simp only[za6];unfold ad;have arm:=World.cell?_alloc_new w.drew arr e (k'*sz+j);exact arm.trans I
    ·exact .inr ⟨T,c2,w.heap.size,0,arr,e,rfl,heap_alloc_new w.drew _,by rw[qp,za6]⟩
    ·rw[U x hx];refine⟨fun hi=>?_,fD.alloc w.drew arr e,.inl hB⟩;have:=H.jN _ hi;omega
    ·rw[U x hx];have:=(H.own m hm hl).2.2;omega
    ·rw[U x hx] at bD;have:=H.tG hm bD;omega
    ·rw[U x hx] at bD;have:=H.tG hn ⟨k',F,c,A,bD⟩;omega
end
def He (B:Nat) (E:Ex) (w0:World) (N:Nat) (a:Act) (w:World) (G:Gh) (d:Option Nat) (σ:St):Act->World->Prop:=
 fun a' w'=>w'=w/\(∃v,a'=a.put d v)/\R B E w0 N σ a' w G
section
variable {B:Nat} {E:Ex} {w0 w w':World} {G G':Gh} {N:Nat} {h h':Nat->Option bf} {used:Nat->Bool}
variable {P:Program} {T:bL} {o:Oper} {a:Act} {σ σ':St} {Q:Exit->Act->World->Prop}
theorem EW (r:R B E w0 N σ a w G) {x:aE} {v:Value} (b:(execOp a.eval o).run P w=.ok (.value v) w) (c:RA w G σ.h x v) (hr:∀m,x.ref m->σ.used m=true) (d:∀n,o.dst=some n->n<N): o.wp P a w (He B E w0 N a w G o.dst (σ.put o.dst x)) Q:=w9 b ⟨rfl,⟨v,rfl⟩,r.put c hr d⟩
theorem ab3 (r:R B E w0 N σ a w G) {x:Operand} {m:MO} (b:o.op=.move x\/o.op=.assign x) (e:∀n,o.dst=some n->n<N) (hm:dC x m=true): o.wp P a w (He B E w0 N a w G o.dst (σ.put o.dst (σ.ev m))) Q:=by obtain⟨d,c⟩:=r.ev hm;refine EW r ?_ d c e;rcases b with b|b<;>simp[execOp,b]
theorem UK (r:R B E w0 N σ a w G) {s:TypeId} {f off:Nat} {x:Operand} {mx:MO} {y:aE} (l:o.op=.fieldAddr s x f) (u:∀n,o.dst=some n->n<N) (hx:dC x mx=true) (p:KV P s f off=true) (hy:(∃n k sz q,σ.ev mx=.one (.ptr n k sz q)/\(σ.h n).isSome=true/\y=.one (.ptr n k sz (q+off)))\/(∃xs q,σ.ev mx=.one (.eU xs q)/\y=.one (.eU xs (q+off)))\/(∃xs q j n s len,σ.ev mx=.one (.dW xs q j n s len)/\y=.one (.dW xs (q+off) j n s len))): o.wp P a w (He B E w0 N a w G o.dst (σ.put o.dst y)) Q:=by obtain⟨c,i⟩:=r.ev hx;rcases hy with⟨n,k,sz,q,d,A,rfl⟩|⟨xs,q,d,rfl⟩|⟨xs,q,j,n,s',len,d,rfl⟩;rw[d] at c i;have H:σ.h n≠none:=(by intro F;rw[F] at A;cases A);obtain⟨D,I⟩:=(c.jR (by simp)).1 H;refine EW r (v:=.pointer (some (ad (G.g n).b ((G.g n).o+k*sz+q+off)))) ?_ ?_ (fun m hm=>i m hm) u;simp only[execOp,l,I];simp[JI p];exact RA.iR rfl fun _=>⟨D,by rw[zaI]⟩;rw[d] at c;obtain⟨b,e,pe,p1,t,z,p4⟩:=(c.jR (by simp)).1;refine EW r (v:=.pointer (some (ad b (e+q+off)))) ?_ ?_ (fun m hm=>absurd hm (by simp[aE.ref,ar.ref,ar.lf])) u;simp only[execOp,l,p1];simp[JI p];exact RA.iR rfl ⟨b,e,pe,by rw[zaI],t,z,p4⟩;rw[d] at c i;obtain⟨b,e,pe,p1,t,z,p4,C⟩:=(c.jR (by simp)).1;refine EW r (v:=.pointer (some (ad b (e+q+off)))) ?_ ?_ (fun m hm=>i m hm) u;simp only[execOp,l,p1];simp[JI p];exact RA.iR rfl ⟨b,e,pe,by rw[zaI],t,z,p4,C⟩
theorem ab1 (r:R B E w0 N σ a w G) {t e:TypeId} {i:TypeInfo} {x y:Operand} {mx my:MO} {sz:Nat} {q:Int} {z:aE} (A:o.op=.indexAddr t x y) (F:∀n,o.dst=some n->n<N) (O:dC x mx=true) (S:dC y my=true) (M:P.underlying t=some (.slice e)) (J:P.info? e=some i) (I:i.size=sz) (hq:(σ.ev my).fZ=some q) (D:0<=q) (hz:(∃n lo len,σ.ev mx=.one (.sl n sz lo len)/\q<(len:Int)/\(σ.h n).isSome=true/\z=.one (.ptr n (lo+q.toNat) sz 0))\/(∃xs p,σ.ev mx=.one (.c (.list sz xs))/\xs[q.toNat]? =some p/\z=.one (.eU p 0))): o.wp P a w (He B E w0 N a w G o.dst (σ.put o.dst z)) Q:=by obtain⟨f,C⟩:=r.ev O;obtain⟨kk,K⟩:=(r.ev S).1.int hq;rcases hz with⟨n,lo,len,s,d,T,rfl⟩|⟨xs,p,s,d,rfl⟩;rw[s] at f C;have lB:lL (G.g n) sz lo len (a.eval x):=(f.jR (by simp)).1 (P1 T);rcases lB with⟨_,_,_,hl⟩|⟨bJ,a',hv,kJ,ha⟩;omega;have Z:=ha (.inl (by omega));subst Z;refine EW r (v:=.pointer (some (ad (G.g n).b ((G.g n).o+lo*sz+q.toNat*sz)))) ?_ ?_ (fun m hm=>C m hm) F;simp only[execOp,A,hv,K];simp[JJ M J I D d];exact RA.iR rfl fun _=>⟨bJ,by rw[zax];congr 3;omega⟩;rw[s] at f;obtain⟨pc,p1,X,p3,p4⟩:=f.c;cases pc with|int k n=>simp[PC.er] at p1|bool b=>simp[PC.er] at p1|list H ya c py=>rw[PC.fx] at p1;injection p1 with p0 p1;subst p0;have Y:∃pe,py[q.toNat]? =some pe/\pe.map PC.er=p:=(by rw[<-p1,AN] at d;cases hp:py[q.toNat]? with|none=>rw[hp] at d;cases d|some pe=>rw[hp] at d;simp at d;exact⟨pe,rfl,d⟩);obtain⟨pe,l,U⟩:=Y;have cF:q.toNat<py.length:=(AI.1 l).1;cases p3 with|nil _ _ _ _=>simp at cF|cons _ b L _ _ g1 g2 g3 g4 g5 g6=>have V:q<(py.length:Int):=(by omega);refine EW r (v:=.pointer (some (ad b (L+q.toNat*H)))) ?_ ?_ (fun m hm=>absurd hm (by simp[aE.ref,ar.ref,ar.lf])) F;simp only[execOp,A,<-X,PC.val,K];simp[JJ M J I D V];refine RA.iR rfl ⟨b,L+q.toNat*H,pe,by simp,U,p4 b (.here _ _ _ _ g1),fun j c u=>?_⟩;exact⟨g5 _ _ _ ⟨pe,l,u⟩,g6 _ _ _ ⟨pe,l,u⟩,fun W bD=>p4 W (.there _ _ _ _ _ _ c ⟨pe,l,u⟩ bD)⟩
theorem aoH (r:R B E w0 N σ a w G) {t e:TypeId} {i:TypeInfo} {x y:Operand} {mx my:MO} {n k f off sz z len:Nat} {q:Int} {ys:List (List C)} (H:o.op=.indexAddr t x y) (L:∀n,o.dst=some n->n<N) (A:dC x mx=true) (D:dC y my=true) (W:P.underlying t=some (.slice e)) (S:P.info? e=some i) (T:i.size=sz) (X:(σ.ev my).fZ=some q) (K:0<=q) (h1:q<(ys.length:Int)) (hx:σ.ev mx=.one (.cG n k f off z len)) (O:eA σ.h (.cG n k f off z len)=some (.list sz ys)): o.wp P a w (He B E w0 N a w G o.dst (σ.put o.dst (.one (.ez n k f off sz q.toNat)))) Q:=by obtain⟨l,j⟩:=r.ev A;obtain⟨kk,U⟩:=(r.ev D).1.int X;rw[hx] at l j;obtain⟨M,xs,hn,V⟩:=amg O;obtain⟨pc,p1,I,p3⟩:=(l.jR (by simp)).1 M xs hn;obtain⟨g1,u,d⟩:=r.hr.QA hn p1;rw[V] at d;injection d with d;cases pc with|int k n=>simp[PC.er] at d|bool b=>simp[PC.er] at d|list s' ya c py=>rw[PC.fx] at d;injection d with F e2;subst F;have hl:ys.length=py.length:=(by rw[e2];simp);have g:q<(py.length:Int):=(by omega);have C7:PC.val (.list sz ya c py)=.slice ya py.length c:=rfl;generalize mK:PC.list sz ya c py=p at u;cases u with|int k n=>cases mK|bool b=>cases mK|nil _ _ _ _=>injection mK with _ _ _ e4;subst e4;simp at g;omega|cons _ b s _ _ q1 q2 q3 q4 q5 q6=>injection mK with J f2 f3 f4;subst J f2 f3 f4;refine EW r (v:=.pointer (some (ad b (s+q.toNat*sz)))) ?_ ?_ (fun m hm=>j m hm) L;simp only[execOp,H,<-I,PC.val,U];simp[JJ W S T K g];refine RA.iR rfl fun cv aP cT=>?_;exact⟨_,b,s,py.length,c,p1,rfl,rfl,rfl⟩
end
section
variable {T:bL} {d:Option Nat} {op:eB} {ev ev':MO->aE} {h h':Nat->Option bf}
end
section
variable {T:bL} {dx dy:Option Nat} {x y:eB} {σ σ1 σ2:St}
end
def anC (x y:eI):Bool:=x.op.jF==0||y.op.jF==0||(decide (x.op.jF<=1)&&decide (y.op.jF<=1))
def anK (x y:eI):Bool:=
 (match x.dst with|some d=>y.DM d&&(match y.dst with|some e=>e !=d|none=>true)|none=>true)&&
 (match y.dst with|some d=>x.DM d|none=>true)&&x.CN&&y.CN
def amz (F:Nat->Option FP) (ms:List eI) (i j:Nat) (m:eI):Prop:=∃mj,ms[j]? =some mj/\anK mj m=true/\(anC mj m=true\/an1 (F j) (F i)=true)
structure amt (F:Nat->Option FP) (ops:Array Oper) (ms:List eI):Prop where
 back:∀(i:Nat) (o:Oper),ops[i]? =some o->∀e∈o.after,Region.binds .any e=true->e.on<i
 pair:∀(i j:Nat) (o:Oper) (m:eI),ops[i]? =some o->ms[i]? =some m->j<i->yr ops i j\/amz F ms i j m
section
variable {B:Nat} {E:Ex} {w0 w w':World} {G G':Gh} {N:Nat}
variable {P:Program} {T:bL} {o:Oper} {mo:eI} {a:Act} {σ σ':St} {Q:Exit->Act->World->Prop} {ops:Array Oper}
end
def axu:eB:=.mv (.k (.one .cC))
def MO.isNone:eB->Bool
 |.mv (.k (.one .cC))=>true
 |_=>false
def MO.I4 (s:Nat):MO->Bool
 |.t n=>n==s
 |_=>false
def Ad (sp:yH) (m:eI):Bool:=
 (match m.guard with|none=>true|some _=>false)&&(match m.op with|.mv _|.ru _ _ _|.rQ _ _=>true|_=>false)&&
 (match m.dst with|none=>true|some s=>s !=sp.d&& !(sp.ml.I4 s)&& !(sp.my.I4 s))
def Hx (P:Program) (N:Nat) (sp:yH) (o:Oper) (m:eI):Bool:=
 decide (m.dst=some sp.d)&&decide (o.dst=some sp.d)&&decide (sp.d<N)&&(match m.guard with|none=>true|some _=>false)&&(match o.guard with|none=>true|some _=>false)&&
 MO.isNone m.op&& !(sp.ml.I4 sp.d)&& !(sp.my.I4 sp.d)&&
 (match o.op with
  |.call c=>match c.callee,c.args.toList,c.argTypes.toList with
   |.builtin .append,[x,y],[t,t']=>(t==t')&&dC x sp.ml&&dC y sp.my&&yU P t sp.sz (fun i z=>(i.bytes==sp.by_)&&decide (0<sp.by_)&&(z.cells.size==sp.sz))
   |_,_,_=>false
  |_=>false)
def HD (P:Program) (sp:yH) (o:Oper) (m:eI):Bool:=
 decide (m.dst=none)&&decide (o.dst=none)&&(match m.guard with|none=>true|some _=>false)&&(match o.guard with|none=>true|some _=>false)&&MO.isNone m.op&&
 (match o.op with
  |.store t x (.tmp s)=>dC x sp.mx&&(s==sp.d)&&Ov P t 1
  |_=>false)
section
variable {B:Nat} {E:Ex} {w0 w w':World} {G G':Gh} {N:Nat} {h h':Nat->Option bf}
variable {P:Program} {T:bL} {o:Oper} {m:eI} {a:Act} {σ σ':St} {Q:Exit->Act->World->Prop} {ops:Array Oper} {sp:yH}
theorem MO.P0 {op:eB} (h:MO.isNone op=true):op=axu:=by unfold MO.isNone at h;split at h;rfl;cases h
theorem MO.P2 {s:Nat} {x:MO} (h:x.I4 s=false):x≠ .t s:=by rintro rfl;simp[MO.I4] at h
theorem OZ {d:Nat} {v:aE} {x:MO} (h:x≠ .t d):(σ.put (some d) v).ev x=σ.ev x:=by cases x with|t n=>show bj σ.env d v n=σ.env n;exact dZ _ _ _ _ (fun e=>h (by rw[e]))|k v=>rfl
theorem amb (d:Ad sp m=true) (hx:iY T m σ=some σ'):σ'.h=σ.h/\σ'.ev sp.ml=σ.ev sp.ml/\σ'.ev sp.my=σ.ev sp.my:=by obtain⟨dst,op,guard⟩:=m;simp only[Ad,co] at d;obtain⟨⟨e,c⟩,b⟩:=d;cases guard with|some g=>cases e|none=>simp only[iY] at hx;have a:∀x,σ'=σ.put dst x->σ'.h=σ.h/\σ'.ev sp.ml=σ.ev sp.ml/\σ'.ev sp.my=σ.ev sp.my:=(by rintro x rfl;cases dst with|none=>exact⟨rfl,rfl,rfl⟩|some s=>simp only[co,zaE] at b;exact⟨rfl,OZ (MO.P2 b.1.2),OZ (MO.P2 b.2)⟩);(cases op<;>simp only at c<;>first|cases c|skip);simp only[exec] at hx;injection hx with hx;exact a _ hx.symm;simp only[exec] at hx;split at hx;split at hx;injection hx with hx;exact a _ hx.symm;cases hx;injection hx with hx;exact a _ hx.symm;injection hx with hx;exact a _ hx.symm;cases hx;simp only[exec] at hx;split at hx;split at hx;injection hx with hx;exact a _ hx.symm;cases hx;split at hx;split at hx;injection hx with hx;exact a _ hx.symm;cases hx;cases hx;split at hx;split at hx;injection hx with hx;exact a _ hx.symm;cases hx;cases hx;cases hx
theorem aoV (r:R B E w0 N σ a w G) (M:Ad sp m=true) (K:xx P N ops o m=true) (hx:iY T m σ=some σ'):o.guard=none/\o.wp P a w (He B E w0 N a w G o.dst σ') Q:=by simp only[xx,co,decide_eq_true_eq] at K;obtain⟨⟨⟨J,L⟩,u⟩,b⟩:=K;have c:∀n,o.dst=some n->n<N:=fun n hn=>(by rw[hn] at L;simpa using L);obtain⟨dst,op,guard⟩:=m;simp only[Ad,co] at M;obtain⟨⟨U,O⟩,h3⟩:=M;cases guard with|some g=>cases U|none=>have C:o.guard=none:=(by unfold Uh at u;cases C:o.guard with|none=>rfl|some g=>rw[C] at u;cases u);refine⟨C,?_⟩;simp only[iY] at hx;simp only at J;subst J;obtain⟨aBU,p,oty,aBV,aBT,ogd⟩:=o;(cases op<;>simp only at O<;>first|cases O|skip);rename_i x;simp only[exec] at hx;injection hx with hx;subst hx;(cases p<;>simp only[iE] at b<;>first|cases b|skip);exact ab3 r (.inl rfl) c b;exact ab3 r (.inr rfl) c b;rename_i off x;(cases p<;>simp only[iE] at b<;>first|cases b|skip);simp only[co] at b;simp only[exec] at hx;split at hx;rename_i n k sz q e;split at hx;rename_i t;injection hx with hx;subst hx;exact UK r rfl c b.1 b.2 (.inl ⟨n,k,sz,q,e,t,rfl⟩);cases hx;rename_i xs q e;injection hx with hx;subst hx;exact UK r rfl c b.1 b.2 (.inr (.inl ⟨xs,q,e,rfl⟩));rename_i xs q j n s len e;injection hx with hx;subst hx;exact UK r rfl c b.1 b.2 (.inr (.inr ⟨xs,q,j,n,s,len,e,rfl⟩));cases hx;rename_i sz x i;(cases p<;>simp only[iE] at b<;>first|cases b|skip);simp only[co] at b;obtain⟨⟨y,A⟩,H⟩:=b;obtain⟨e,ti,z,D,F,k3,I,k5,_⟩:=Ay H;simp only[exec] at hx;split at hx;rename_i n s lo len q d f;split at hx;rename_i l;obtain⟨rfl,h,v,t⟩:=l;injection hx with hx;subst hx;exact ab1 r rfl c y A D F I f h (.inl ⟨n,lo,len,d,v,t,rfl⟩);cases hx;rename_i s xs q d f;split at hx;rename_i l;obtain⟨rfl,h⟩:=l;split at hx;rename_i W S;injection hx with hx;subst hx;exact ab1 r rfl c y A D F I f h (.inr ⟨xs,W,d,S,rfl⟩);cases hx;cases hx;rename_i n kk aZ off s len q d f;split at hx;rename_i s' ys V;split at hx;rename_i l;obtain⟨rfl,h,v⟩:=l;injection hx with hx;subst hx;exact aoH r rfl c y A D F I f h v d V;cases hx;cases hx;cases hx
theorem aoL (r:R B E w0 N σ a w G) {n k f off sz s:Nat} {xs J:List (List C)} {t:TypeId} {i:TypeInfo} {x:Operand} {mx:MO} (S:o.op=.store t x (.tmp s)) (hd:o.dst=none) (O:dC x mx=true)
  (hi:P.info? t=some i) (du:i.size=1) (hp:σ.ev mx=.one (.ptr n k f off)) (hn:σ.h n=some (.row true .live f xs)) (oW:off+1=f) (rn:n<aY) (hk:∃e,xs[k]? =some e)
  (Z:KB B E w G σ.h n k off sz J (a.tmps.getD s undef)):
  o.wp P a w (Nx B E w0 N ((σ.cut n).gu n (.row true .live f (xs.set k ((xs.getD k []).set off (.list sz J)))))) Q:=by
 obtain⟨L,_⟩:=r.ev O;rw[hp] at L;have U:σ.h n≠none:=by rw[hn];simp
 obtain⟨p1,W⟩:=(L.jR (by simp)).1 U;have hr:=r.hr.row n true .live f xs hn;obtain⟨⟨cur,V,A⟩,l2,l3⟩:=hr.f0 p1;obtain⟨q,M,qe,d⟩:=Z;obtain⟨el,I⟩:=hk;have X:∃pe,(G.g n).px[k]? =some pe/\pe.map PC.er=el:=by
  have j:=I;rw[hr.er,AN] at j;cases d:(G.g n).px[k]? with
  |none=>rw[d] at j;cases j
  |some pe=>rw[d] at j;simp at j;exact⟨pe,rfl,j⟩
 obtain⟨pe,D,zj⟩:=X;have Bh:pe.length=f:=l2.1 pe (wt D);have l:=PC.mU q;rw[M] at l;have p:(a.eval (.tmp s)).cells.toList=[q.val]:=by
  have he:a.eval (.tmp s)=a.tmps.getD s undef:=rfl;rw[he,M]
  revert l
  cases a.tmps.getD s undef<;>intro l<;>first|rfl|(simp[Value.oneCell'] at l)
 have Y:(a.eval (.tmp s)).cells.size=1:=by rw[<-Array.length_toList,p];rfl
 have E6:(G.g n).o+k*f+off+(a.eval (.tmp s)).cells.size<=cur.size:=by
  have y:=l2.2.1 k off (pe[off]'(by omega)) ⟨pe,D,AT _⟩;have:=Hv A y;omega
 have rc:=r.cut n;have xO:(σ.cut n).h n=some (.row true .live f xs):=by show(σ.h n).map _=_;rw[hn];rfl
 have r5:N9 B E w G (σ.cut n).h n k off q:=⟨d.fF,d.sep,d.nr,d.own,fun b F m z=>d.name b F m (AD z),fun b F m gr T sz xs cL z=>d.row b F m gr T sz xs cL (CG z),d.rest⟩;have r':=rc.nest xO rn (fun s=>aE.HS n (σ.env s)) (fun m cs c hm y=>by
  obtain⟨iV,_,rfl⟩:=Uu (h:=σ.h) hm;obtain⟨c0,_,rfl⟩:=BY.1 y;exact ar.HS n c0) D oW A r5
 have K:=Q1 (P:=P) (w:=w) (t:=t) (i:=i) (b:=(G.g n).b) (off:=(G.g n).o+k*f+off) (v:=a.eval (.tmp s)) (cur:=cur) (e:=V) hi (by rw[du,Y]) A E6 (fun u H=>by
  rw[p] at H;simp at H;subst H;exact PC.mU q)
 rw[p] at K;have lA:xs.getD k []=pe.map PC.er:=by rw[IT,I,zj];rfl
 rw[lA,<-qe];refine Sk (w':=jD w (G.g n).b ((G.g n).o+k*f+off) [q.val] cur) ?_ (by rw[hd];exact⟨_,r'⟩);simp only[execOp,S,W];simp[Instr.storeAt,Instr.sureAddr,K]
structure N8 (sp:yH) (σ σ2:St) (n k rs off:Nat) (xs ls ys:List (List C)):Prop where
 hx:σ.ev sp.mx=.one (.ptr n k rs off)
 hl:∃s0 DA,σ.ev sp.ml=.one (.cG n k rs off s0 DA)
 oW:off+1=rs
 rn:n<aY
 hn:σ.h n=some (.row true .live rs xs)
 s6:(xs[k]?).bind (·[off]?)=some (.list sp.sz ls)
 hy:∃yc,σ.ev sp.my=.one yc/\eA σ.h yc=some (.list sp.sz ys)
 sl:jm ls=true
 sy:jm ys=true
 fit:(ls.length+ys.length)*sp.by_<=eD
 out:σ2=(σ.cut n).gu n (.row true .live rs (xs.set k ((xs.getD k []).set off (.list sp.sz (ls++ys)))))
theorem axm {σ2:St} (h:Jj sp σ=some σ2):∃n k b off xs a ys,N8 sp σ σ2 n k b off xs a ys:=by unfold Jj at h;split at h;rename_i n k b off n' k' oH qK s0 DA o d r i;split at h;rename_i e;obtain⟨rfl,rfl,rfl,rfl,f,j⟩:=e;split at h;rename_i rs2 xs hn;split at h;rename_i g;subst g;split at h;rename_i s a s' ys s6 c;split at h;rename_i m;obtain⟨rfl,rfl,l,p,q⟩:=m;injection h with h;exact⟨_,_,_,_,xs,a,ys,d,⟨_,_,r⟩,f,j,hn,s6,⟨o,i,c⟩,l,p,q,h.symm⟩;cases h;cases h;cases h;cases h;cases h;cases h
theorem amN (a:Hx P N sp o m=true):iY T m σ=some (σ.put (some sp.d) (.one .cC)):=by
 simp only[Hx,co,decide_eq_true_eq] at a;have c:m.guard=none:=by cases hg:m.guard with|none=>rfl|some g=>rw[hg] at a;simp at a
 have b:=MO.P0 a.1.1.1.2;have hd:=a.1.1.1.1.1.1.1.1;obtain⟨dst,op,guard⟩:=m;simp only at c b hd;subst c b hd;rfl
theorem aAP (a:HD P sp o m=true):iY T m σ=some σ:=by
 simp only[HD,co,decide_eq_true_eq] at a;have c:m.guard=none:=by cases hg:m.guard with|none=>rfl|some g=>rw[hg] at a;simp at a
 have b:=MO.P0 a.1.2;have hd:=a.1.1.1.1.1;obtain⟨dst,op,guard⟩:=m;simp only at c b hd;subst c b hd;rfl
theorem aAS (r:R B E w0 N σ a w G) (H:Hx P N sp o m=true) {l σ2:St} {n k rs off:Nat} {xs I ys:List (List C)} (F:N8 sp l σ2 n k rs off xs I ys) (K:l.h=σ.h) (hl:l.ev sp.ml=σ.ev sp.ml) (hy:l.ev sp.my=σ.ev sp.my):
  o.guard=none/\o.dst=some sp.d/\sp.d<N/\iY T m σ=some (σ.put (some sp.d) (.one .cC))/\
  o.wp P a w (fun A w'=>∃v,A=a.put (some sp.d) v/\R B E w0 N (σ.put (some sp.d) (.one .cC)) A w' G/\KB B E w' G σ.h n k off sp.sz (I++ys) v) Q:=by
 simp only[Hx,co,decide_eq_true_eq] at H;obtain⟨⟨⟨⟨⟨⟨⟨⟨D,L⟩,c3⟩,S⟩,J⟩,c6⟩,c7⟩,c8⟩,b⟩:=H;have VY:o.guard=none:=by cases hg:o.guard with|none=>rfl|some g=>rw[hg] at J;cases J
 have Y:m.guard=none:=by cases hg:m.guard with|none=>rfl|some g=>rw[hg] at S;cases S
 have U:=MO.P0 c6;refine⟨VY,L,c3,?_,?_⟩
 ·obtain⟨dst,op,guard⟩:=m;simp only at Y U D;subst Y U D;rfl
 ·split at b
  ·rename_i c u;split at b
   ·rename_i x y t t' M W X;simp only[co,beq_iff_eq] at b;obtain⟨⟨⟨rfl,d2⟩,d3⟩,d4⟩:=b;obtain⟨e,i,z,g1,g2,g3,g4,g5,j⟩:=Ay d4;simp only[co,beq_iff_eq,decide_eq_true_eq] at j;obtain⟨⟨j,g7⟩,g8⟩:=j;have Z:o.op=.call {callee:=.builtin .append,args:=#[x,y],argTypes:=#[t,t]}:=by
     rw[u];obtain⟨cc,ca,ct⟩:=c;simp only at M W X;subst M;congr 2
     ·apply zab;simpa using W
     ·apply zab;simpa using X
    obtain⟨s0,DA,O⟩:=F.hl;obtain⟨yc,V,f⟩:=F.hy;rw[hl] at O;rw[hy] at V;rw[K] at f;have hn:=F.hn;rw[K] at hn;refine Oper.wp_mono (fun A w' ⟨v,s,e2,e3⟩=>?_) (aom (P:=P) (Q:=Q) r Z d2 d3 g1 g2 g3 g4 g5 j g7 g8 hn F.oW O F.s6 F.sl V f F.sy F.fit);rw[L] at s;refine⟨v,s,?_,e3⟩;rw[s];exact e2.put (x:=.one .cC) (zbe rfl) (fun q p=>(p:False).elim) (fun q p=>by injection p with p;omega)
   ·cases b
  ·cases b
theorem aAT (r:R B E w0 N σ a w G) (j:HD P sp o m=true) {σ2:St} {n k K off:Nat} {xs l ys:List (List C)} (F:N8 sp σ σ2 n k K off xs l ys) (H:KB B E w G σ.h n k off sp.sz (l++ys) (a.tmps.getD sp.d undef)):
  o.guard=none/\iY T m σ=some σ/\o.wp P a w (Nx B E w0 N σ2) Q:=by
 simp only[HD,co,decide_eq_true_eq] at j;obtain⟨⟨⟨⟨⟨f,D⟩,q⟩,p⟩,z⟩,c⟩:=j;have A:o.guard=none:=by cases hg:o.guard with|none=>rfl|some g=>rw[hg] at p;cases p
 have v:m.guard=none:=by cases hg:m.guard with|none=>rfl|some g=>rw[hg] at q;cases q
 have u:=MO.P0 z;refine⟨A,?_,?_⟩
 ·obtain⟨dst,op,guard⟩:=m;simp only at v u f;subst v u f;rfl
 ·split at c
  ·rename_i t x s y;simp only[co,beq_iff_eq] at c;obtain⟨⟨J,rfl⟩,b⟩:=c;unfold Ov at b;split at b
   ·rename_i i I;simp only[co,beq_iff_eq,decide_eq_true_eq] at b;rw[F.out];refine aoL r y D J I b.1 F.hx F.hn F.oW F.rn ?_ H;have:=F.s6;cases hk:xs[k]? with
    |none=>rw[hk] at this;cases this
    |some e=>exact⟨e,rfl⟩
   ·cases b
  ·cases c
theorem ama:∀{l:List eI} {σ a:St},(∀m∈l,Ad sp m=true)->ic T l σ=some a->a.h=σ.h/\a.ev sp.ml=σ.ev sp.ml/\a.ev sp.my=σ.ev sp.my
 |[],σ,a,hv,hx=>by simp only[ic] at hx;injection hx with hx;subst hx;exact⟨rfl,rfl,rfl⟩
 |m::l,σ,a,hv,hx=>by simp only[ic] at hx;split at hx;rename_i σ1 d;obtain⟨b,e,c⟩:=amb (hv m (by simp)) d;obtain⟨g,f,i⟩:=ama (fun m hm=>hv m (by simp[hm])) hx;exact⟨g.trans b,f.trans e,i.trans c⟩;cases hx
theorem azn {d:Nat} {dst:Option Nat} {v:Value} (hd:dst≠some d):(a.put dst v).tmps.getD d undef=a.tmps.getD d undef:=by cases dst with|none=>rfl|some s=>have b:s≠d:=fun e=>hd (by rw[e]);simp only[Act.put];simp[zaa,Array.getElem?_setIfInBounds_ne b]
theorem azo {d:Nat} {v:Value} (hd:d<a.tmps.size):(a.put (some d) v).tmps.getD d undef=v:=by simp only[Act.put];simp[zaa,hd]
theorem aBe (a:Ad sp m=true):m.dst≠some sp.d:=by intro h;simp only[Ad,co] at a;rw[h] at a;simp at a
theorem ant (a:xx P N ops o m=true):o.dst=m.dst:=by simp only[xx,co,decide_eq_true_eq] at a;exact a.1.1.1
theorem amm {s:Oper} {sm:eI}:∀{l:List Oper} {b:List eI} {σ e σ2:St} {a:Act} {w:World} {G:Gh} {n k p off:Nat} {xs c ys:List (List C)},(∀m∈b,Ad sp m=true)->n6 P N ops l b=true->HD P sp s sm=true-> ic T b σ=some e->N8 sp e σ2 n k p off xs c ys->R B E w0 N σ a w G->KB B E w G σ.h n k off sp.sz (c++ys) (a.tmps.getD sp.d undef)->(∀a w G,R B E w0 N σ2 a w G->Q .normal a w)->wpList P ops Q (l++[s]) a w
 |[],[],σ,e,σ2,a,w,G,n,k,p,off,xs,c,ys,hv,hc,hs,hx,F,r,hp,hQ=>by simp only[ic] at hx;injection hx with hx;subst hx;obtain⟨i,_,j⟩:=aAT (T:=T) (Q:=Q) r hs F hp;simp only[zaQ];unfold wpList;rw[aj (by simp[Region.wanted,i])];exact .inl (Oper.wp_mono (fun t w' ⟨G',g⟩=>hQ t w' G' g) j)
 |o::l,m::b,σ,e,σ2,a,w,G,n,k,p,off,xs,c,ys,hv,hc,hs,hx,F,r,hp,hQ=>by simp only[n6,co] at hc;simp only[ic] at hx;split at hx;rename_i σ1 q;have f:=hv m (by simp);obtain⟨i,j⟩:=aoV (Q:=Q) r f hc.1 q;simp only[zal];unfold wpList;rw[aj (by simp[Region.wanted,i])];refine .inl (Oper.wp_mono (fun t w' ⟨u,⟨v,x⟩,g⟩=>?_) j);subst u x;refine amm (fun m hm=>hv m (by simp[hm])) hc.2 hs hx F g ?_ hQ;rw[(amb f q).1,azn (by rw[ant hc.1];exact aBe f)];exact hp;cases hx
 |[],_::_,_,_,_,_,_,_,_,_,_,_,_,_,_,_,hc,_,_,_,_,_,_=>by simp[n6] at hc
 |_::_,[],_,_,_,_,_,_,_,_,_,_,_,_,_,_,hc,_,_,_,_,_,_=>by simp[n6] at hc
theorem UN:∀(l a:List eI) (σ:St),ic T (l++a) σ=(ic T l σ).bind (ic T a)
 |[],a,σ=>rfl
 |m::l,a,σ=>by simp only[zal,ic];cases iY T m σ with|none=>rfl|some σ1=>exact UN l a σ1
theorem aBr {l1 l2:List Oper} {m1:List eI} {σ1:St} (i:sM P T) (b:n6 P N ops l1 m1=true) (hx:ic T m1 σ=some σ1) (r:R B E w0 N σ a w G) (g:∀a w G,R B E w0 N σ1 a w G->wpList P ops Q l2 a w):wpList P ops Q (l1++l2) a w:=by induction l1 generalizing m1 σ a w G with|nil=>(cases m1 with|nil=>simp only[ic] at hx;injection hx with hx;subst hx;exact g _ _ _ r|cons m m1=>simp[n6] at b)|cons o l1 d=>cases m1 with|nil=>simp[n6] at b|cons m m1=>simp only[n6,co] at b;simp only[ic] at hx;split at hx;rename_i σ2 e;simp only[zal];unfold wpList;rcases O1 (Q:=Q) r i b.1 e with⟨c,h⟩|⟨c,G',h⟩;rw[aj c];exact .inl (Oper.wp_mono (fun a' w' ⟨G',f⟩=>d b.2 hx f) h);rw[ak (by simp[c])];exact d b.2 hx h;cases hx
def Uj (P:Program) (N:Nat) (ops:Array Oper) (ms:List eI) (sp:yH):Bool:=
 n6 P N ops (ops.toList.take sp.ia) (ms.take sp.ia)&&
 (match ops.toList.drop sp.ia,ms.drop sp.ia with
  |oa::l,ma::m=>Hx P N sp oa ma&&n6 P N ops l.dropLast m.dropLast&&m.dropLast.all (Ad sp)&&(match l.getLast?,m.getLast? with
   |some so,some sm=>HD P sp so sm
   |_,_=>false)
  |_,_=>false)
theorem afP {α:Type} {l:List α} {x:α} (h:l.getLast?=some x):l=l.dropLast++[x]:=by rw[List.getLast?_eq_some_iff] at h;obtain⟨ys,rfl⟩:=h;simp
theorem azx (Y:sM P T) {id:Nat} {e:List eI} {σ1 σ2:St} (q:Uj P N ops e sp=true) (hx:ic T e σ=some σ1) (W:Jj sp σ1=some σ2) (r:R B E w0 N σ a w G) (K:∀a w G,R B E w0 N σ2 a w G->Q .normal a w):(Code.region id ops false).wp P Q a w:=by refine wp_region_list ?_;simp only[Uj,co] at q;obtain⟨I,g⟩:=q;split at g;rename_i V l i m y e2;simp only[co,GB] at g;obtain⟨⟨⟨p,X⟩,s⟩,f⟩:=g;split at f;rename_i A sm J Z;have hl:ops.toList=ops.toList.take sp.ia++(V::(l.dropLast++[A])):=(by rw[<-afP J,<-y,zaT]);have hm:e=e.take sp.ia++(i::(m.dropLast++[sm])):=(by rw[<-afP Z,<-e2,zaT]);rw[hl];rw[hm,UN] at hx;(cases lV:ic T (e.take sp.ia) σ with|none=>rw[lV] at hx;cases hx|some τ=>rw[lV] at hx;have hx:ic T (i::(m.dropLast++[sm])) τ=some σ1:=hx;refine aBr Y I lV r fun a w G u=>?_;obtain⟨n,k,rs,off,xs,ls,ys,F⟩:=axm W;simp only[ic] at hx;have j:iY T i τ=some (τ.put (some sp.d) (.one .cC)):=amN p;rw[j] at hx;simp only at hx;rw[UN] at hx;cases fC:ic T m.dropLast (τ.put (some sp.d) (.one .cC)) with|none=>rw[fC] at hx;cases hx|some b=>rw[fC] at hx;have hx:ic T [sm] b=some σ1:=hx;have z:iY T sm b=some b:=aAP f;simp only[ic,z] at hx;injection hx with hx;subst hx;obtain⟨O,k2,k3⟩:=ama (sp:=sp) s fC;have x:sp.ml≠ .t sp.d/\sp.my≠ .t sp.d:=(by have c:=p;simp only[Hx,co,decide_eq_true_eq,zaE] at c;exact⟨MO.P2 c.1.1.2,MO.P2 c.1.2⟩);have C:b.h=τ.h:=O;have L:b.ev sp.ml=τ.ev sp.ml:=k2.trans (OZ x.1);have o:b.ev sp.my=τ.ev sp.my:=k3.trans (OZ x.2);obtain⟨M,g2,U,_,g5⟩:=aAS (T:=T) (Q:=Q) u p F C L o;unfold wpList;rw[aj (by simp[Region.wanted,M])];refine .inl (Oper.wp_mono (fun a' w' ⟨v,H,S,D⟩=>?_) g5);refine amm s X f fC F S ?_ K;rw[H,azo (by rw[u.size];exact U)];exact D);cases f;cases g
structure aBz (F:Nat->Option FP) (ops:Array Oper) (ms:List eI) (sp:yH):Prop where
 EE:amt F ops ms
 app:∀(i:Nat) (m:eI),ms[i]? =some m->i≠sp.ia->i+1≠ops.size->yr ops sp.ia i\/Ad sp m=true
 st:∀i,i+1<ops.size->yr ops (ops.size - 1) i
 lt:sp.ia+1<ops.size
end
section
variable {B:Nat} {E:Ex} {w0 w w':World} {G G':Gh} {N:Nat} {h h':Nat->Option bf} {used used':Nat->Bool}
variable {P:Program} {o:Oper} {a:Act} {σ σ':St} {Q:Exit->Act->World->Prop}
structure Kv (B:Nat) (E:Ex) (w:World) (G:Gh) (h:Nat->Option bf) (pc:PC):Prop where
 fF:Good w pc
 sep:Sep pc
 own:∀b,bP b pc->¬G.Im b/\fD w b/\(B<=b\/E b)
 name:∀b,bP b pc->∀m,h m≠none->(G.g m).nl=false->b≠(G.g m).b
 row:∀b,bP b pc->∀m gr mo sz xs,h m=some (.row gr mo sz xs)->¬bY b (G.g m).px
theorem Kv.less {pc:PC} (L:Kv B E w G h pc) (hl:∀n b,h' n=some b->h n=some b):Kv B E w G h' pc:= ⟨L.fF,L.sep,L.own,fun b a m c=>L.name b a m (by cases hh:h' m with|none=>exact absurd hh c|some x=>rw[hl m x hh];simp),fun b a m e d sz xs c=>L.row b a m e d sz xs (hl m _ c)⟩
theorem Kv.FV {pc:PC} (d:Good w pc) (c:∀b,¬bP b pc):Kv B E w G h pc:= ⟨d,Sep.FV c d,fun b a=>absurd a (c b),fun b a=>absurd a (c b),fun b a=>absurd a (c b)⟩
end
section
variable {B:Nat} {E:Ex} {w0 w w':World} {G G':Gh} {N:Nat} {h h':Nat->Option bf} {used used':Nat->Bool}
variable {P:Program} {o:Oper} {a:Act} {σ σ':St} {Q:Exit->Act->World->Prop}
end
section
variable {B:Nat} {E:Ex} {w0 w w':World} {G G':Gh} {N:Nat} {h h':Nat->Option bf} {used used':Nat->Bool}
variable {P:Program} {T:bL} {o:Oper} {a:Act} {σ σ':St} {Q:Exit->Act->World->Prop} {ops:Array Oper}
end
section
variable {B:Nat} {E:Ex} {w0 w w':World} {G G':Gh} {N:Nat} {h h':Nat->Option bf}
variable {P:Program} {T:bL} {a:Act} {σ σ':St} {Q:Exit->Act->World->Prop}
theorem R.azt (r:R B E w0 N σ a w G) {n j:Nat} {cs:List ar} {y:ar} (hn:σ.h n=some (.box cs)) (hy:∀v,w.cell? (ad (G.g n).b ((G.g n).o+j))=some v->RC w G σ.h y v) (s:∀m,y.ref m->σ.used m=true): R B E w0 N (σ.gu n (.box (cs.set j y))) a w G:=by have H:=r.hr;have q:σ.h n≠none:=(by rw[hn];simp);obtain⟨O,L,D⟩:=H.box n cs hn;have C:bj G.g n (G.g n)=G.g:=NF _ _;have K:cD w G σ.h (fun n=>σ.used n=true) w ⟨G.Im,bj G.g n (G.g n)⟩ (bj σ.h n (some (.box (cs.set j y)))):=(by rw[C];refine⟨fun _ h=>h,fun _ _ _=>rfl,fun m _ hm=>⟨?_,rfl,rfl,rfl,rfl,rfl⟩,fun m l sz xs _ hm=>?_⟩;by_cases f:m=n;subst f;exact q;rwa[dZ _ _ _ _ f] at hm;by_cases f:m=n;subst f;rw[dD] at hm;cases hm;rw[dZ _ _ _ _ f] at hm;exact⟨⟨l,xs,hm⟩,fun k j pc I P=>⟨pc,I,rfl,P⟩⟩);have A:=H.put (w':=w) (used':=σ.used) (n:=n) (blk:=.box (cs.set j y)) (p:=G.g n) (fun _ _ _=>rfl) (Pd _) (fun _ _ h=>h) (fun _ h=>h) (H.lP n q) (fun hl=>H.own n q hl) (fun hl m f hm J=>H.inj m n hm q f J hl) (fun hl m l sz xs f hm b d=>H.live m l sz xs hm b d n q hl) (fun cs' c m d u hr=>by injection d with d;subst d;rcases zah u with u|rfl;exact H.kP n cs c m hn u hr;exact s m hr) K (by refine⟨O,L,fun i c e=>?_⟩;rw[List.getElem?_set] at e;split at e;rename_i F;subst F;split at e;rename_i M;injection e with e;subst e;obtain⟨v,t,x,z⟩:=D j cs[j] (AT M);exact⟨v,t,x,(hy v t).keep K s⟩;cases e;obtain⟨v,t,x,z⟩:=D i c e;exact⟨v,t,x,z.keep K fun m hm=>H.kP n cs c m hn (wt e) hm⟩) (fun l m sz xs d=>by cases d) (fun l sz xs d=>by cases d) (fun l m sz xs d=>by cases d) (fun hl _ b ⟨m,l,mo,sz,xs,_,hm,d⟩=>H.y5 q hl hm d);rw[C] at K A;exact r.step rfl (fun _ h=>h) K A r.fr
theorem R.oK (r:R B E w0 N σ a w G) (c:Nat) (m:Mode):R B E w0 N (σ.oK c m) a w G:=by unfold St.oK;cases m with|live=>exact r|bq=>exact r|bn=>simp only;split;rename_i u x xs hn;have hg:(⟨G.Im,bj G.g c (G.g c)⟩:Gh)=G:=(by have:bj G.g c (G.g c)=G.g:=(by funext q;rw[nt];split<;>simp[*]);rw[this]);have hr:=r.hr.row c u .bq x xs hn;have A:∀q b,bj σ.h c (some (.row u .bn x xs)) q=some b->q≠c->σ.h q=some b:=fun q b d T=>(by rwa[dZ _ _ _ _ T] at d);have ne:∀q,bj σ.h c (some (.row u .bn x xs)) q≠none->σ.h q≠none:=fun q d=>(by by_cases f:q=c;subst f;rw[hn];simp;rwa[dZ _ _ _ _ f] at d);have pt:∀q n s o l,bj σ.h c (some (.row u .bn x xs)) q=some (.row n s o l)->s≠ .bn->q≠c/\σ.h q=some (.row n s o l):=fun q n s o l d hm=>(by by_cases f:q=c;subst f;rw[dD] at d;injection d with d;injection d with _ d _ _;exact absurd d.symm hm;exact⟨f,A q _ d f⟩);have K:cD w G σ.h (fun q=>σ.used q=true) w G (bj σ.h c (some (.row u .bn x xs))):= ⟨fun _ h=>h,fun _ _ _=>rfl,fun q _ d=>⟨ne q d,rfl,rfl,rfl,rfl,rfl⟩,fun q n o l _ d=>by obtain⟨J,F⟩:=pt q n .live o l d (by simp);exact⟨⟨n,l,F⟩,fun k j pc a b=>⟨pc,a,rfl,b⟩⟩⟩;have H:=r.hr;have S:HR B E w G (bj σ.h c (some (.row u .bn x xs))) σ.used []:=(by refine⟨fun q d=>H.lP q (ne q d),fun q cs y p d=>?_,fun q cs d=>?_,fun q n s o l d=>?_,fun q d=>H.own q (ne q d),fun q t d z=>H.inj q t (ne q d) (ne t z),H.jN,H.uf, fun q t n s o l Z m2 W V d z hm I=>H.ju q t n s o l Z m2 W V (pt _ _ _ _ _ d hm).2 (pt _ _ _ _ _ z I).2 hm I, fun q n o l d b D t z=>H.live q n o l (pt _ _ _ _ _ d (by simp)).2 b D t (ne t z),(by intro i pc C;simp at C),(by intro i j pc fo b _ C;simp at C),(by intro i pc q n s o l b C;simp at C)⟩;have f:q≠c:=fun e=>(by subst e;rw[dD] at d;cases d);exact H.kP q cs y p (A q _ d f);have f:q≠c:=fun e=>(by subst e;rw[dD] at d;cases d);obtain⟨O,X,P⟩:=H.box q cs (A q _ d f);refine⟨O,X,fun j y L=>?_⟩;obtain⟨v,U,Y,M⟩:=P j y L;exact⟨v,U,Y,M.keep K fun p Q=>H.kP q cs y p (A q _ d f) (wt L) Q⟩;by_cases f:q=c;subst f;rw[dD] at d;injection d with d;injection d with J F h3 h4;subst J F h3 h4;exact⟨hr.pos,hr.er,hr.nl,hr.f0,hr.room,fun b D=>(hr.mode.1 b D).1,fun _ h=>by cases h⟩;exact H.row q n s o l (A q _ d f));exact r.step rfl (fun _ h=>h) K S r.fr;exact r
theorem R.M4 (r:R B E w0 N σ a w G) {x c:Nat} {m:Mode} (hx:(σ.cr x c).map (fun σ1=>σ1.oK c m)=some σ'):∃G',R B E w0 N σ' a w G':=by rw[Option.map_eq_some_iff] at hx;obtain⟨σ1,e,rfl⟩:=hx;obtain⟨G',b⟩:=r.cr e;exact⟨G',b.oK c m⟩
theorem R.canon (r:R B E w0 N σ a w G) {x:Bool×Nat×Nat×Nat×Mode} (hx:σ.canon x=some σ'):∃G',R B E w0 N σ' a w G':=by obtain⟨b,n,j,c,m⟩:=x;have kt:some σ=some σ'->∃G',R B E w0 N σ' a w G':=fun h=>(by injection h with h;subst h;exact⟨G,r⟩);cases b with|true=>simp only[St.canon] at hx;split at hx;rename_i cs hn;split at hx;exact r.M4 hx;rename_i sz p;split at hx;rename_i y;split at hx;rename_i σ1 e;injection hx with hx;subst hx;obtain⟨k,d,u⟩:=r.aeX y e;obtain⟨C,rfl⟩:=ui e;have i:σ.used n=true:=r.hr.lP n (by rw[hn];simp);have K:n≠c:=fun J=>(by subst J;rw[C] at i;cases i);have A:(bj σ.h c (some (.row true m sz []))) n=some (.box cs):=(by rw[dZ _ _ _ _ K];exact hn);refine⟨k,d.azt A (fun v f=>?_) (fun q z=>?_)⟩;obtain⟨H,I,v2,F⟩:=(d.hr.box n cs A).2.2 j _ p;rw[I] at f;injection f with f;subst f;have t:H=.slice none 0 0:=F;subst t;exact u;have o:q=c:=z;subst o;exact dD _ _ _;cases hx;exact kt hx;exact kt hx;exact kt hx|false=>simp only[St.canon] at hx;split at hx;exact r.M4 hx;rename_i sz p;split at hx;rename_i y;split at hx;rename_i σ1 e;injection hx with hx;subst hx;obtain⟨k,d,u⟩:=r.aeX y e;obtain⟨C,rfl⟩:=ui e;have f:=d.env n;rw[show({σ with h:=bj σ.h c (some (.row true m sz [])),used:=bj σ.used c true}:St).env n=σ.env n from rfl,p] at f;have D:a.tmps.getD n undef=.slice none 0 0:=(f.jR (by simp)).1;refine⟨k,d.defers,d.size,fun s=>?_,fun s q z=>?_,d.hr,d.fr,d.rG,d.BQ⟩;show RA w k _ (bj σ.env n _ s) _;by_cases g:s=n;subst g;rw[dD,D];exact RA.iR rfl u;rw[dZ _ _ _ _ g];exact d.env s;have l:(bj σ.env n (.one (.sl c sz 0 0)) s).ref q:=z;by_cases g:s=n;subst g;rw[dD] at l;have o:q=c:=l;subst o;exact dD _ _ _;rw[dZ _ _ _ _ g] at l;exact d.uH s q l;cases hx;exact kt hx;exact kt hx
theorem R.yR:∀{l:List (Bool×Nat×Nat×Nat×Mode)} {σ:St} {G:Gh},R B E w0 N σ a w G->σ.yR l=some σ'->∃G',R B E w0 N σ' a w G'
 |[],σ,G,r,hx=>by simp only[St.yR] at hx;injection hx with hx;subst hx;exact⟨G,r⟩
 |x::l,σ,G,r,hx=>by simp only[St.yR] at hx;split at hx;rename_i σ1 e;obtain⟨G1,b⟩:=r.canon e;exact R.yR b hx;cases hx
theorem R.head (r:R B E w0 N σ a w G) {ke b:List Nat} {f:List (Bool×Nat×Nat×Nat×Mode)} (hx:σ.head ke b f=some σ'):∃G',R B E w0 N σ' a w G':=by unfold St.head at hx;split at hx;rename_i σ1 e;injection hx with hx;subst hx;obtain⟨d,c⟩:=((r.mf ke b).mf ke b).yR e;exact⟨d,c.mf ke b⟩;cases hx
def mC (P:Program) (N:Nat):Code->mX->Bool
 |c,.join _ _ _ mc=>mC P N c mc
 |.skip,.skip=>true
 |.region _ ops sT,.dM K7 ms=>(sT==K7)&&n6 P N ops ops.toList ms&&(!sT||Oq ops.toList ms)
 |.region _ ops sT,.wJ K7 ps ms sp=>(sT==K7)&&(if K7=true then false else Uj P N ops ms sp)
 |.seq x y,.seq mx my=>mC P N x mx&&mC P N y my
 |.cond c x y,.cond mc mx my=>dC c mc&&mC P N x mx&&mC P N y my
 |.block id c,.block WT mc=>(id==WT)&&mC P N c mc
 |.loop c,.loop _ _ _ _ mc=>mC P N c mc
 |.exit id,.exit WT=>id==WT
 |.ret,.ret=>true
 |_,_=>false
def amy (B:Nat) (E:Ex) (w0:World) (N:Nat) (Q:Exit->Act->World->Prop):xm->Prop
 |.iH σ=>∀a w G,R B E w0 N σ a w G->Q .normal a w
 |.ext id σ=>∀a w G,R B E w0 N σ a w G->Q (.exit id) a w
 |.ret σ=>∀a w G,R B E w0 N σ a w G->Q .ret a w
theorem n7 (f:sM P T) (hm:P.follows .mixedOrders=true):∀(d:mX) {c:Code} {σ:St} {o:xm} {a:Act} {w:World} {G:Gh} {Q:Exit->Act->World->Prop}, mC P N c d=true->fB T d σ=some o->R B E w0 N σ a w G->amy B E w0 N Q o->c.wp P Q a w
 |.skip,c,σ,o,a,w,G,Q,b,hx,r,hQ=>by(cases c<;>simp only[mC] at b<;>first|cases b|skip);simp only[fB] at hx;injection hx with hx;subst hx;exact wp_skip (hQ _ _ _ r)
 |.dM s ms,c,σ,o,a,w,G,Q,b,hx,r,hQ=>by(cases c<;>simp only[mC] at b<;>first|cases b|skip);simp only[co,zay,beq_iff_eq] at b;simp only[fB] at hx;split at hx;rename_i σ1 e;injection hx with hx;subst hx;exact azy f hm b.1.2 (fun hd=>b.2.resolve_left (by simp[hd])) e r hQ;cases hx
 |.wJ K7 ps ms sp,c,σ,o,a,w,G,Q,b,hx,r,hQ=>by(cases c<;>simp only[mC] at b<;>first|cases b|skip);simp only[co,beq_iff_eq] at b;obtain⟨hd,k⟩:=b;subst hd;rename_i s;cases s with|false=>simp only[zam,if_false] at k;simp only[fB] at hx;split at hx;rename_i σ1 e;split at hx;rename_i σ2 x;injection hx with hx;subst hx;exact azx f k e x r hQ;cases hx;cases hx|true=>simp at k
 |.seq mx my,c,σ,o,a,w,G,Q,b,hx,r,hQ=>by(cases c<;>simp only[mC] at b<;>first|cases b|skip);simp only[co] at b;simp only[fB] at hx;refine wp_seq ?_;cases e:fB T mx σ with|none=>rw[e] at hx;cases hx|some h=>rw[e] at hx;cases h with|iH σ1=>exact n7 f hm mx b.1 e r fun a w G g=>n7 f hm my b.2 hx g hQ|ext i σ1=>injection hx with hx;subst hx;exact n7 f hm mx b.1 e r hQ|ret σ1=>injection hx with hx;subst hx;exact n7 f hm mx b.1 e r hQ
 |.cond d mx my,c,σ,o,a,w,G,Q,b,hx,r,hQ=>by(cases c<;>simp only[mC] at b<;>first|cases b|skip);simp only[co] at b;simp only[fB] at hx;split at hx;rename_i t v;have q:=(r.ev b.1.1).1;rw[v] at q;refine wp_cond q.Ht ?_;(cases t with|true=>simp only[if_true] at hx⊢;exact n7 f hm mx b.1.2 hx r hQ|false=>simp only[zam,if_false] at hx⊢;exact n7 f hm my b.2 hx r hQ);cases hx
 |.block id d,c,σ,o,a,w,G,Q,b,hx,r,hQ=>by(cases c<;>simp only[mC] at b<;>first|cases b|skip);simp only[co,beq_iff_eq] at b;obtain⟨rfl,b⟩:=b;simp only[fB] at hx;refine wp_block ?_;cases e:fB T d σ with|none=>rw[e] at hx;cases hx|some h=>rw[e] at hx;refine n7 f hm d b e r ?_;cases h with|iH σ1=>injection hx with hx;subst hx;exact hQ|ret σ1=>injection hx with hx;subst hx;exact hQ|ext i σ1=>simp only at hx;intro a w G g;simp only[Exit.inBlock];split at hx;rename_i p;injection hx with hx;subst hx;rw[aj p];exact hQ a w G g;rename_i p;injection hx with hx;subst hx;rw[ak p];exact hQ a w G g
 |.join ke kh cn d,c,σ,o,a,w,G,Q,b,hx,r,hQ=>by have b:mC P N c d=true:=(by cases c<;>exact b);simp only[fB] at hx;cases e:fB T d σ with|none=>rw[e] at hx;cases hx|some h=>rw[e] at hx;cases h with|iH σ1=>simp only at hx;split at hx;rename_i σh j;injection hx with hx;subst hx;exact n7 f hm d b e r fun a w G g=>(by obtain⟨G',m⟩:=g.head j;exact hQ a w G' m);cases hx|ext i σ1=>injection hx with hx;subst hx;exact n7 f hm d b e r hQ|ret σ1=>injection hx with hx;subst hx;exact n7 f hm d b e r hQ
 |.loop id ke kh cn d,c,σ,o,a,w,G,Q,b,hx,r,hQ=>by(cases c<;>simp only[mC] at b<;>first|cases b|skip);rename_i c;simp only[fB] at hx;refine wp_loop_rounds aN ?_;revert hx r;generalize aN=n;revert σ a w G;induction n with|zero=>intro σ a w G hx r;simp[Jf] at hx|succ n u=>intro σ a w G hx r;simp only[Jf] at hx;rw[rounds_succ];cases j:σ.head ke kh cn with|none=>rw[j] at hx;cases hx|some σh=>rw[j] at hx;obtain⟨G',m⟩:=r.head j;cases e:fB T d σh with|none=>simp only[e] at hx;cases hx|some h=>simp only[e] at hx;refine n7 f hm d b e m ?_;cases h with|iH σ1=>intro a w G g;exact u _ _ _ _ hx g|ext i σ1=>injection hx with hx;subst hx;exact hQ|ret σ1=>injection hx with hx;subst hx;exact hQ
 |.exit id,c,σ,o,a,w,G,Q,b,hx,r,hQ=>by(cases c<;>simp only[mC] at b<;>first|cases b|skip);have l:=eq_of_beq b;subst l;simp only[fB] at hx;injection hx with hx;subst hx;exact wp_exit (hQ _ _ _ r)
 |.ret,c,σ,o,a,w,G,Q,b,hx,r,hQ=>by(cases c<;>simp only[mC] at b<;>first|cases b|skip);simp only[fB] at hx;injection hx with hx;subst hx;exact wp_ret (hQ _ _ _ r)
end
inductive bU where
 |tmp (t:Nat)
 |cell (t sz:Nat) (ag:Bool)
def qY (P:Program):List ResultVar->List bU->Bool
 |[],[]=>true
 |.tmp t::rs,.tmp t'::ms=>(t==t')&&qY P rs ms
 |.cell a ty::rs,.cell a' sz ag::ms=>(a==a')&&Hy P ty ag sz&&qY P rs ms
 |_,_=>false
def St.wK (σ:St):List bU->Option (List aE)
 |[]=>some []
 |.tmp t::ms=>match σ.wK ms with
  |some vs=>some (σ.env t::vs)
  |none=>none
 |.cell t sz ag::ms=>match σ.env t with
  |.one p=>match loadAt σ.h p sz,σ.wK ms with
   |some cs,some vs=>some (vD ag cs::vs)
   |_,_=>none
  |_=>none
def p9 (h:Nat->Option bf):ar->Option (C×List Nat)
 |.c x=>if x.gU=true then some (x,[]) else none
 |.nil sz=>if 0<sz then some (.list sz [],[]) else none
 |.sl n sz 0 len=>match h n with
  |some (.row true m rs xs)=>if rs=sz/\m≠ .bn/\len<=xs.length then some (.list sz (xs.take len),[n]) else none
  |_=>none
 |_=>none
def zT (h:Nat->Option bf):List ar->Option (List C×List Nat)
 |[]=>some ([],[])
 |c::cs=>match p9 h c,zT h cs with
  |some (x,ns),some (xs,pY)=>some (x::xs,ns++pY)
  |_,_=>none
def wN (h:Nat->Option bf):List aE->Option (List Dv×List Nat)
 |[]=>some ([],[])
 |v::vs=>match v.cells? with
  |some (ag,cs)=>match zT h cs,wN h vs with
   |some (xs,ns),some (ds,pY)=>some ((if ag=true then(K.agg,xs) else(K.one,xs))::ds,ns++pY)
   |_,_=>none
  |none=>none
def St.zS (σ:St) (ms:List bU):Option (List Dv):=
 match σ.wK ms with
 |some vs=>match wN σ.h vs with
  |some (ds,ns)=>if ns.Nodup then some ds else none
  |none=>none
 |none=>none
section
variable {B:Nat} {E:Ex} {w0 w w':World} {G G':Gh} {N:Nat} {h h':Nat->Option bf} {used:Nat->Bool}
variable {P:Program} {T:bL} {a:Act} {σ σ':St}
def rS (G:Gh) (n b:Nat):Prop:=((G.g n).nl=false/\b=(G.g n).b)\/bY b (G.g n).px
theorem HR.adH (H:HR B E w G h used []) {n n':Nat} (s:n≠n') {a r:Bool} {m e:Mode} {sz v:Nat} {xs j:List (List C)} (d:h n=some (.row a m sz xs)) (f:h n'=some (.row r e v j)) (hm:m≠ .bn) (y:e≠ .bn) {b:Nat} (t:rS G n b):¬rS G n' b:=by have i:h n≠none:=(by rw[d];simp);have x:h n'≠none:=(by rw[f];simp);have own:∀{p q:Nat} {a:Bool} {m:Mode} {sz:Nat} {xs:List (List C)},h p≠none->h q=some (.row a m sz xs)->m≠ .bn->(G.g p).nl=false->¬bY (G.g p).b (G.g q).px:=(by intro p q a m sz xs o u hm hl k;have z:=(H.row q a m sz xs u).mode;cases m with|bn=>exact hm rfl|bq=>exact(H.own p o hl).1 (z.1 _ k).1|live=>exact H.live q a sz xs u _ k p o hl rfl);rintro(⟨l2,rfl⟩|l);rcases t with⟨l1,c⟩|c;exact H.inj n n' i x s l1 l2 c.symm;exact own x d hm l2 c;rcases t with⟨l1,rfl⟩|c;exact own i f y l1 l;exact H.ju n n' a m sz xs r e v j d f hm y s b c l
structure aap (B:Nat) (w:World) (G:Gh) (h:Nat->Option bf) (ns:List Nat) (pc:PC):Prop where
 fF:Good w pc/\Sep pc/\KD w pc
 new:∀b,nZ b pc->(B<=b/\fD w b)/\∃n∈ns,rS G n b
def An (h:Nat->Option bf) (ns:List Nat):Prop:=∀n∈ns,∃gr m sz xs,h n=some (.row gr m sz xs)/\m≠ .bn
theorem HR.p9 (H:HR B Ex.no w G h used []) {c:ar} {x:C} {ns:List Nat} {v:Value} (hx:p9 h c=some (x,ns)) (F:RC w G h c v): ∃pc:PC,pc.er=x/\pc.val=v/\aap B w G h ns pc/\An h ns/\∀n sz len N m i xs,c=.sl n sz 0 len->h n=some (.row N m i xs)->∃x0 cap,pc=.list i x0 cap ((G.g n).px.take len):=by have M:∀pc:PC,(∀sz a cap xs,pc≠ .list sz a cap xs)->∀b,¬nZ b pc:=(by intro pc J b d;rcases d with d|⟨sz,o,cap,xs,rfl,_⟩;(cases d with|here sz o cap xs h=>exact J _ _ _ _ rfl|there sz a cap xs k j c t s=>exact J _ _ _ _ rfl);exact J _ _ _ _ rfl);cases c with|c y=>simp only[Am.p9] at hx;split at hx;rename_i l;injection hx with hx;injection hx with t s;subst t s;obtain⟨pc,p1,p2,p3,p4⟩:=F;have dU:∀b,¬nZ b pc:=M pc (by rintro sz a cap xs rfl;rw[<-p1] at l;simp[PC.fx,C.gU] at l);have r7:KD w pc:=(by cases pc with|list sz a cap xs=>rw[<-p1] at l;simp[PC.fx,C.gU] at l|_=>trivial);exact⟨pc,p1,p2,⟨⟨p3,(Sep.kO (by rw[p1];exact l)).1,r7⟩,fun b d=>absurd d (dU b)⟩,(fun n hn=>by simp at hn),fun n sz len N m i xs e=>by cases e⟩;cases hx|nil sz=>simp only[Am.p9] at hx;split at hx;rename_i R;injection hx with hx;injection hx with t s;subst t s;have eQ:v=.slice none 0 0:=F;subst eQ;have I:Sep (.list sz none 0 []):=(by refine .list _ _ _ _ ?_ ?_ ?_;rintro k j c ⟨e,f,_⟩;simp at f;rintro b o k j c _ ⟨e,f,_⟩;simp at f;rintro k j c k' j' c' b ⟨e,f,_⟩;simp at f);refine⟨.list sz none 0 [],by simp[PC.fx],rfl,⟨⟨.nil _ _ _ R,I,R,by simp,.inl rfl⟩,fun b d=>?_⟩,(fun n hn=>by simp at hn),fun n sz len N m i xs e=>by cases e⟩;rcases d with d|⟨_,_,_,_,d,E⟩;rw[bP.pg] at d;rcases d with⟨d,_⟩|⟨k,j,c,⟨e,f,_⟩,_⟩;exact absurd rfl d;simp at f;cases d;cases hx|sl n sz lo len=>(cases lo with|succ lo=>simp[Am.p9] at hx|zero=>simp only[Am.p9] at hx;split at hx;rename_i m i xs hn;split at hx;rename_i eO;obtain⟨rfl,hm,hl⟩:=eO;injection hx with hx;injection hx with t s;subst t s;have D:h n≠none:=(by rw[hn];simp);have hr:=H.row n true m i xs hn;have l:lL (G.g n) i 0 len v:=F D;obtain⟨a1,a2,A,U⟩:=Np hr l (by omega);have ve:(∀b,bY b (G.g n).px->fD w b/\B<=b)/\mz (G.g n).px/\(∀b,bY b (G.g n).px->(G.g n).nl=false->b≠(G.g n).b):=(by have r:=hr.mode;cases m with|bn=>exact absurd rfl hm|bq=>exact⟨fun b d=>⟨(r.1 b d).2.1,(r.1 b d).2.2.resolve_right id⟩,r.2,fun b d hl ig=>(H.own n D hl).1 (ig▸(r.1 b d).1)⟩|live=>exact⟨fun b d=>⟨(r.1 b d).2.1,(r.1 b d).2.2.resolve_right id⟩,r.2,fun b d hl=>H.live n true i xs hn b d n D hl⟩);obtain⟨S,o2,T⟩:=ve;refine⟨oI (G.g n) i 0 len v,by simpa using a1,a2,?_,fun q Z=>?_,fun n' bw MA cv m' oH aP P u=>?_⟩;rcases l with⟨p,rfl,_,rfl⟩|⟨p,L,rfl,kJ,Q⟩;simp only[oI] at A⊢;have hz:(List.take 0 (List.drop 0 (G.g n).px))=[]:=(by simp);have Oj:=(hr.nl p).2 rfl;rw[hz,Oj] at A⊢;have I:Sep (.list i (G.g n).na 0 []):=(by refine .list _ _ _ _ ?_ ?_ ?_;rintro k j c ⟨e,f,_⟩;simp at f;rintro b o k j c _ ⟨e,f,_⟩;simp at f;rintro k j c k' j' c' b ⟨e,f,_⟩;simp at f);refine⟨⟨A,I,hr.pos,by simp,.inl rfl⟩,fun b d=>?_⟩;rcases d with d|⟨_,_,_,_,d,E⟩;rw[bP.pg] at d;rcases d with⟨d,_⟩|⟨k,j,c,⟨e,f,_⟩,_⟩;exact absurd rfl d;simp at f;injection d with _ _ d _;exact absurd d.symm E;obtain⟨r2,cur,e,r3,r4⟩:=hr.room p rfl;have e0:=Q (.inr rfl);have K:L=some (ad (G.g n).b (G.g n).o):=(by rw[e0];simp);subst K;simp only[oI,za7] at A U⊢;have X:=o2.sub 0 len;have Y:∀k j c,At ((List.drop 0 (G.g n).px).take len) k j c->At (G.g n).px k j c:=fun k j c z=>(by have:=(uR z).1;simpa using this);refine⟨⟨A,.list _ _ _ _ X.1 (fun b o k j c O z d=>?_) X.2,hr.pos,by simp;omega,.inr ⟨_,_,cur,e,rfl,r3,r4,r2,fun k j c z d=>?_⟩⟩,fun b d=>?_⟩;injection O with O;exact T b ⟨_,_,_,Y _ _ _ z,d⟩ p (pF O).1.symm;exact T _ ⟨_,_,_,Y _ _ _ z,d⟩ p rfl;have W:rS G n b:=(by rcases d with d|⟨_,_,_,_,d,E⟩;exact U b d;injection d with _ d _ _;injection d with d;exact .inl ⟨p,(pF d).1.symm⟩);refine⟨?_,n,by simp,W⟩;rcases W with⟨_,rfl⟩|V;exact⟨((H.own n D p).2.1).resolve_right id,(hr.f0 p).1⟩;exact⟨(S b V).2,(S b V).1⟩;simp at Z;subst Z;exact⟨_,_,_,_,hn,hm⟩;injection P with P _ _ e3;subst P e3;rw[hn] at u;injection u with u;injection u with _ _ u _;subst u;rcases l with⟨_,rfl,_,_⟩|⟨_,a',rfl,_,_⟩;exact⟨_,_,by simp only[oI,zba];rfl⟩;exact⟨_,_,by simp only[oI,zba];rfl⟩;cases hx;cases hx)|ptr _ _ _ _=>simp[Am.p9] at hx|eU _ _=>simp[Am.p9] at hx|dW _ _ _ _ _ _=>simp[Am.p9] at hx|cG _ _ _ _ _ _=>simp[Am.p9] at hx|fn _ _=>simp[Am.p9] at hx|ez _ _ _ _ _ _=>simp[Am.p9] at hx|cC=>simp[Am.p9] at hx
structure yI (B:Nat) (w:World) (G:Gh) (h:Nat->Option bf) (ns:List Nat) (ps:List PC):Prop where
 each:∀pc∈ps,aap B w G h ns pc
 sR:ns.Nodup->ps.Pairwise fun p q=>∀b,nZ b p->¬nZ b q
theorem yI.append (H:HR B Ex.no w G h used []) {ns i:List Nat} {ps e:List PC} (j:yI B w G h ns ps) (l:yI B w G h i e) (r:An h ns) (s:An h i):yI B w G h (ns++i) (ps++e):=by refine⟨fun pc t=>?_,fun hd=>?_⟩;rcases zan.1 t with d|d;obtain⟨g,n⟩:=j.each pc d;exact⟨g,fun b a=>⟨(n b a).1,by obtain⟨k,c,f⟩:=(n b a).2;exact⟨k,by simp[c],f⟩⟩⟩;obtain⟨g,n⟩:=l.each pc d;exact⟨g,fun b a=>⟨(n b a).1,by obtain⟨k,c,f⟩:=(n b a).2;exact⟨k,by simp[c],f⟩⟩⟩;rw[List.nodup_append] at hd;rw[zaw];refine⟨j.sR hd.1,l.sR hd.2.1,fun p d q x b a v=>?_⟩;obtain⟨k,c,f⟩:=((j.each p d).new b a).2;obtain⟨k',m,u⟩:=((l.each q x).new b v).2;obtain⟨_,_,_,_,o,m1⟩:=r k c;obtain⟨_,_,_,_,y,m2⟩:=s k' m;exact H.adH (hd.2.2 k c k' m) o y m1 m2 f u
theorem An.append {ns a:List Nat} (c:An h ns) (b:An h a):An h (ns++a):=fun n hn=>(zan.1 hn).elim (c n) (b n)
theorem HR.zT (H:HR B Ex.no w G h used []):∀{cs:List ar} {xs:List C} {ns:List Nat} {vs:List Value},zT h cs=some (xs,ns)->eJ w G h cs vs->
  ∃d:List PC,d.map PC.er=xs/\d.map PC.val=vs/\yI B w G h ns d/\An h ns
 |[],xs,ns,vs,hx,hc=>by
  simp only[Am.zT] at hx;injection hx with hx;injection hx with b e;subst b e;have:vs=[]:=If (by simpa using hc.1);subst this;exact⟨[],rfl,rfl,⟨by simp,fun _=>za4⟩,fun n hn=>by simp at hn⟩
 |c::cs,xs,ns,vs,hx,hc=>by
  simp only[Am.zT] at hx;split at hx
  ·rename_i x f aP ns2 m A;injection hx with hx;injection hx with b e;subst b e;obtain⟨a,i⟩:=hc;match vs,a with
   |v::vs,a=>
    obtain⟨pc,o,z,p,g,_⟩:=H.p9 m (i 0 c v rfl rfl).2;obtain⟨d,s,r,t,k⟩:=H.zT A (cs:=cs) (vs:=vs) ⟨by simpa using a,fun j c u b e=>i (j+1) c u b e⟩;have y:yI B w G h f [pc]:=⟨fun q l=>by simp at l;subst l;exact p,fun _=>by simp⟩;exact⟨pc::d,by simp[o,s],by simp[z,r],yI.append H y t g k,g.append k⟩
  ·cases hx
theorem HR.wN (H:HR B Ex.no w G h used []):∀{xs:List aE} {ds:List Dv} {ns:List Nat} {vs:List Value},wN h xs=some (ds,ns)->vs.length=xs.length->
  (∀(j:Nat) (x:aE) (v:Value),xs[j]? =some x->vs[j]? =some v->RA w G h x v)->
  ∃d:List (K×List PC),d.map (fun p=>(p.1,p.2.map PC.er))=ds/\d.map wO=vs/\(∀p∈d,p.1≠ .ptr/\(p.1=.one->p.2.length=1))/\yI B w G h ns (d.flatMap (·.2))/\An h ns
 |[],ds,ns,vs,hx,hl,hc=>by
  simp only[Am.wN] at hx;injection hx with hx;injection hx with f g;subst f g;have:vs=[]:=If (by simpa using hl);subst this;exact⟨[],rfl,rfl,by simp,⟨by simp,fun _=>za4⟩,fun n hn=>by simp at hn⟩
 |x::xs,ds,ns,vs,hx,hl,hc=>by
  simp only[Am.wN] at hx;split at hx
  ·rename_i ag cs a;split at hx
   ·rename_i ys ns1 CI ns2 D J;injection hx with hx;injection hx with f g;subst f g;match vs,hl with
    |v::vs,hl=>
     obtain⟨r,s,i,t,k⟩:=H.zT D ((hc 0 x v rfl rfl).cells a);obtain⟨d,A,u,C,z,m⟩:=H.wN J (xs:=xs) (vs:=vs) (by simpa using hl) (fun j x v f g=>hc (j+1) x v f g);have y:=hc 0 x v rfl rfl;cases ag with
     |true=>
      have q:wO (K.agg,r)=v:=by
       cases x with
       |one c=>cases c<;>simp[aE.cells?] at a
       |agg cs'=>
        obtain⟨us,e,_⟩:∃us:List Value,v=.agg us.toArray/\eJ w G h cs' us:=y;subst e;simp only[wO,i];simp[Value.cells]
       |dh l=>simp[aE.cells?] at a
      refine⟨(K.agg,r)::d,by simp[s,A],by simp[q,u],fun p b=>?_,?_,k.append m⟩
      ·cases b with
       |head=>exact⟨by simp,fun e=>by cases e⟩
       |tail _ b=>exact C p b
      ·simpa using yI.append H t z k m
     |false=>
      have F:∃c,x=.one c/\cs=[c]:=by
       cases x with
       |one c=>cases c<;>simp[aE.cells?] at a<;>exact⟨_,rfl,a.symm⟩
       |agg cs'=>simp[aE.cells?] at a
       |dh l=>simp[aE.cells?] at a
      obtain⟨c,rfl,rfl⟩:=F;have I:c≠ .cC:=by rintro rfl;simp[aE.cells?] at a
      have o:=(y.jR I).2;have E:v.cells.toList=[v]:=by cases v<;>first|rfl|(simp[Value.oneCell'] at o)
      rw[E] at i;match r,i with
      |[pc],i=>
       have q:wO (K.one,[pc])=v:=by simpa[wO] using i
       refine⟨(K.one,[pc])::d,by simp[<-s,A],by simp[q,u],fun p b=>?_,?_,k.append m⟩
       ·cases b with
        |head=>exact⟨by simp,fun _=>rfl⟩
        |tail _ b=>exact C p b
       ·simpa using yI.append H t z k m
   ·cases hx
  ·cases hx
end
def EC:Dv->aE
 |(.one,[x])=>.one (.c x)
 |(.one,_)=>.one .cC
 |(.agg,xs)=>.agg (xs.map .c)
 |(.ptr,xs)=>.one (.eU xs 0)
def zx:Nat->List Dv->(Nat->aE)
 |_,[]=>CJ
 |k,d::ds=>bj (zx (k+1) ds) k (EC d)
def Mf (ds:List Dv):St:={env:=zx 0 ds,h:=HX,used:=fun n=>zbj aY n}
def QU (T:bL) (mc:mX) (aJ:List bU) (ds:List Dv):Option (List Dv):=
 match fB T mc (Mf ds) with
 |some (.iH σ)=>σ.zS aJ
 |some (.ret σ)=>σ.zS aJ
 |_=>none
section
variable {B:Nat} {E:Ex} {w0 w w':World} {G G':Gh} {N:Nat} {h h':Nat->Option bf} {used:Nat->Bool}
variable {P:Program} {T:bL} {a:Act} {σ σ':St} {Q:Exit->Act->World->Prop}
theorem WY:∀(ds:List Dv) (k n:Nat),zx k ds n=if k<=n then(match ds[n - k]? with|some d=>EC d|none=>.one .cC) else .one .cC
 |[],k,n=>by simp[zx,CJ]
 |d::ds,k,n=>by simp only[zx,nt,WY ds];by_cases h:n=k;subst h;simp;by_cases b:k<=n;have a:k+1<=n:=(by omega);have c:n - k=(n - (k+1))+1:=(by omega);simp[h,b,a,c];have a:¬k+1<=n:=(by omega);simp[h,b,a]
def Vm (w:World):Gh:=⟨fun b=>b<w.heap.size,fun _=>default⟩
theorem amP {d:Dv} {v:Value} (hd:GC w d v):RA w (Vm w) HX (EC d) v:=by
 have cells:∀{a:List PC},(∀pc∈a,Good w pc)->eJ w (Vm w) HX ((a.map PC.er).map .c) (a.map PC.val):=by
  intro a m;refine⟨by simp,fun j c u e i=>?_⟩;simp only[AN,zaj] at e i;cases hp:a[j]? with
  |none=>rw[hp] at e;cases e
  |some pc=>
   rw[hp] at e i;simp at e i;subst e;subst i;have h:=m pc (wt hp);exact⟨PC.mU pc,pc,rfl,rfl,h,fun b l=>h.lt l⟩
 obtain⟨k,xs⟩:=d;cases k with
 |one=>
  obtain⟨a,p1,g,f⟩:=hd;have p1:a.map PC.er=xs:=p1;subst p1;match a,f with
  |[pc],f=>
   simp at f;subst f;exact RA.iR (PC.mU pc) ⟨pc,rfl,rfl,g pc (by simp),fun b l=>(g pc (by simp)).lt l⟩
 |agg=>
  obtain⟨a,p1,g,f⟩:=hd;have p1:a.map PC.er=xs:=p1;subst p1;exact⟨_,f,cells g⟩
 |ptr=>
  obtain⟨a,b,o,p1,g,f,p4⟩:=hd;have p1:a.map PC.er=xs:=p1;subst p1 g;exact RA.iR rfl ⟨b,o,a,by simp,rfl,f,fun j c e=>⟨(p4 j c e).1,(p4 j c e).2,fun b' n=>(p4 j c e).2.lt n⟩⟩
theorem amQ {d:Dv} {m:Nat}:¬(EC d).ref m:=by
 obtain⟨k,xs⟩:=d;cases k with
 |one=>match xs with
  |[]=>exact id
  |[x]=>exact id
  |_::_::_=>exact id
 |agg=>
  rintro⟨c,a,h⟩;obtain⟨y,_,rfl⟩:=BY.1 a;exact h
 |ptr=>exact id
theorem R.init {ds:List Dv} {vals:List Value} (l:Kn w ds vals) (hN:ds.length<=N): R w.heap.size Ex.no w N (Mf ds) {tmps:=vals.toArray++zaR (N - vals.toArray.size) undef,defers:=[]} w (Vm w):=by obtain⟨hl,o⟩:=l;refine⟨rfl,by simp;omega,fun s=>?_,fun s n hn=>?_,?_,Fr.refl _ _ _ (Pd _),fun n p b q=>(by cases q),fun n hn=>zat hn⟩;show RA w _ HX (zx 0 ds s) _;rw[WY];simp only[zbh,if_true,za7];(cases hs:ds[s]? with|none=>exact zbe rfl|some d=>have k:s<vals.length:=(by rw[hl];exact(AI.1 hs).1);have r:vals[s]? =some vals[s]:=AT k;have:(vals.toArray++zaR (N - vals.toArray.size) undef).getD s undef=vals[s]:=(by simp[zaa,Array.getElem?_append,k]);rw[this];exact amP (o s d _ hs r));have e:(zx 0 ds s).ref n:=hn;rw[WY] at e;simp only[zbh,if_true,za7] at e;(cases hs:ds[s]? with|none=>rw[hs] at e;exact absurd e id|some d=>rw[hs] at e;exact absurd e amQ);have a:∀n,(Mf ds).h n=none:=fun n=>rfl;refine⟨fun n hn=>absurd (a n) hn,fun m cs c n hm=>?_,fun n cs hn=>?_,fun n g m sz xs hn=>?_,fun n hn=>absurd (a n) hn,fun n n' hn=>absurd (a n) hn,fun b t=>t,fun b _=>.inr (.inr trivial), fun n n' g m sz xs cv m' bw aP hn=>?_,fun n g sz xs hn=>?_,?_,?_,?_⟩;rw[a] at hm;cases hm;rw[a] at hn;cases hn;rw[a] at hn;cases hn;rw[a] at hn;cases hn;rw[a] at hn;cases hn;intro i pc f;simp at f;intro i j pc fo b _ f;simp at f;intro i pc n g m sz xs b f;simp at f
theorem azX (r:R B E w0 N σ a w G) {t sz:Nat} {ag:Bool} {ty:TypeId} {p:ar} {cs:List ar} (e:Hy P ty ag sz=true) (A:σ.env t=.one p) (hx:loadAt σ.h p sz=some cs):
  ∃v,(BT a.tmps (.cell t ty)).run P w=.ok v w/\RA w G σ.h (vD ag cs) v:=by
 have q:=r.env t;have x:=r.uH t;rw[A] at q x;have D:p≠ .cC:=by rintro rfl;simp[Am.loadAt] at hx
 obtain⟨b,of,vs,o,F,s,f,h5⟩:=r.hr.loadAt hx (q.jR D).1 (fun m hm=>x m hm);have C:∀n:Nat,n=vs.length->(loadCells (ad b of) n).run P w=.ok vs.toArray w:=fun n hn=>by
  subst hn;exact run_loadCells_list w (ad b of) vs (fun j u y=>by rw[xp];exact s j u y)
 unfold Hy at e;cases hu:P.underlying ty with
 |none=>rw[hu] at e;simp at e
 |some d=>
  cases hi:P.info? ty with
  |none=>rw[hu,hi] at e;cases d<;>simp at e
  |some i=>
   rw[hu,hi] at e;have z:(ag=true/\i.size=sz/\(isAgg ty).run P w=.ok true w)\/(ag=false/\sz=1/\(isAgg ty).run P w=.ok false w):=by
    cases d<;>simp at e<;>simp[isAgg,run_underlying hu,e]
   rcases z with⟨rfl,l,g⟩|⟨rfl,l,g⟩
   ·refine⟨.agg vs.toArray,?_,vs,rfl,f⟩;simp[BT,o,loadVar,asAddr,g,sizeOf,typeInfo,hi,C i.size (by omega)]
   ·subst l;match vs,F with
    |[u],_=>
     have H:∃c,cs=[c]:=by
      have:=f.1;match cs,this with
      |[c],_=>exact⟨c,rfl⟩
     obtain⟨c,rfl⟩:=H;have k:=s 0 u rfl;simp only[zbc] at k;exact⟨u,by simp[BT,o,loadVar,asAddr,g,k],.inr f⟩
theorem M6 (r:R B E w0 N σ a w G):∀{f:List ResultVar} {g:List bU} {vs:List aE},qY P f g=true->σ.wK g=some vs-> ∃us:List Value,(f.mapM (BT a.tmps)).run P w=.ok us w/\us.length=vs.length/\us.length=f.length/\∀(j:Nat) (x:aE) (v:Value),vs[j]? =some x->us[j]? =some v->RA w G σ.h x v
 |[],[],vs,b,hx=>by simp only[St.wK] at hx;injection hx with hx;subst hx;exact⟨[],by simp,rfl,rfl,by simp⟩
 |.tmp t::f,.tmp t'::g,vs,b,hx=>by simp only[qY,co,beq_iff_eq] at b;obtain⟨rfl,b⟩:=b;simp only[St.wK] at hx;split at hx;rename_i k e;injection hx with hx;subst hx;obtain⟨us,i,u2,l,m⟩:=M6 r b e;refine⟨a.tmps.getD t undef::us,by simp[BT,i],by simp[u2],by simp[l],fun j x v c d=>?_⟩;(cases j with|zero=>simp only[zak,zae] at c d;subst c;subst d;exact r.env t|succ j=>exact m j x v (by simpa using c) (by simpa using d));cases hx
 |.cell t ty::f,.cell t' sz ag::g,vs,b,hx=>by simp only[qY,co,beq_iff_eq] at b;obtain⟨⟨rfl,u⟩,b⟩:=b;simp only[St.wK] at hx;split at hx;rename_i p q;split at hx;rename_i cs k n o;injection hx with hx;subst hx;obtain⟨us,i,u2,l,m⟩:=M6 r b o;obtain⟨y,s,z⟩:=azX r u q n;refine⟨y::us,by simp[s,i],by simp[u2],by simp[l],fun j x v c d=>?_⟩;(cases j with|zero=>simp only[zak,zae] at c d;subst c;subst d;exact z|succ j=>exact m j x v (by simpa using c) (by simpa using d));cases hx;cases hx
 |[],_::_,_,b,_=>by simp[qY] at b
 |.tmp _::_,[],_,b,_=>by simp[qY] at b
 |.cell _ _::_,[],_,b,_=>by simp[qY] at b
 |.tmp _::_,.cell _ _ _::_,_,b,_=>by simp[qY] at b
 |.cell _ _::_,.tmp _::_,_,b,_=>by simp[qY] at b
theorem ayX {a:List (K×List PC)}:Jo (a.map wO)=zV a:=by
 match a with
 |[]=>rfl
 |[p]=>rfl
 |p::q::a=>rfl
theorem YC (r:R B Ex.no w0 N σ a w G) {fn:Func} {h:List bU} {ds:List Dv} (q:qY P fn.results.toList h=true) (hx:σ.zS h=some ds): ∃c:List (K×List PC),c.map (fun p=>(p.1,p.2.map PC.er))=ds/\(results fn a.tmps).run P w=.ok (zV c) w/\(∀p∈c,p.1≠ .ptr/\(p.1=.one->p.2.length=1))/\ Cu w B (c.flatMap (·.2)):=by unfold St.zS at hx;split at hx;rename_i vs n;split at hx;rename_i CI ns C;split at hx;rename_i A;injection hx with hx;subst hx;obtain⟨us,m,u2,_,v⟩:=M6 r q n;obtain⟨c,p1,t,x,p4,p5⟩:=r.hr.wN C u2 v;refine⟨c,p1,?_,x,⟨fun pc g=>(p4.each pc g).fF,fun pc g b d=>((p4.each pc g).new b d).1,fun i j pc fo b l z u d=>?_⟩⟩;rw[Q0 fn a.tmps m,<-t,ayX];have e:=p4.sR A;rw[zaq] at e;obtain⟨k,o⟩:=AI.1 z;obtain⟨lj,s⟩:=AI.1 u;subst o;subst s;rcases zaY l with f|f;exact e i j k lj f b d;exact fun y=>e j i lj k f b y d;cases hx;cases hx;cases hx
theorem azg (l:sM P T) (hm:P.follows .mixedOrders=true) {f:FuncId} {fn:Func} {c:Code} {h:mX} {i:List bU} {M:List Dv->Option (List Dv)} (u:P.funcs[f]? =some fn) (x:fn.body=some c) (j:mC P fn.ntmps c h=true) (hr:qY P fn.results.toList i=true) (n:∀ds d,M ds=some d->ds.length<=fn.ntmps/\QU T h i ds=some d):dz P f M:=by intro ds d m w vals q;obtain⟨s,g⟩:=n ds d m;refine calls_of_wp u x ?_;have k:=R.init (N:=fn.ntmps) q s;unfold QU at g;have ie:∀{σ:St} {a:Act} {w':World} {G:Gh},σ.zS i=some d->R w.heap.size Ex.no w fn.ntmps σ a w' G->a.defers=[]/\∃v,(results fn a.tmps).run P w'=.ok v w'/\ ∃b:List (K×List PC),b.map (fun p=>(p.1,p.2.map PC.er))=d/\(Ending.returned v)=.returned (zV b)/\(∀p∈b,p.1≠ .ptr/\(p.1=.one->p.2.length=1))/\ Cu w' w.heap.size (b.flatMap (·.2))/\Fr w.heap.size Ex.no w w':=(by intro σ a w' G hx r;obtain⟨b,p1,o,t,p4⟩:=YC r hr hx;exact⟨r.defers,_,o,b,p1,rfl,t,p4,r.fr⟩);split at g;rename_i σ e;exact n7 l hm h j e k fun a w' G r=>ie g r;rename_i σ e;exact n7 l hm h j e k fun a w' G r=>ie g r;cases g
end

end Go.Am
