/- AmV: functions whose results may share, and that may change the cells of one pointer: what is said of them, and the caller's side of a call. No condition. -/
import Derived.Test.YtifmggmhdcdgbaaAmU
set_option linter.unusedVariables false
namespace Go.Am
structure JP (w:World) (ds:List Dv) (vals:List Value) (pas:List PA):Prop where
 l1:vals.length=ds.length
 l2:pas.length=ds.length
 at_:∀(i:Nat) (d:Dv) (v:Value) (p:PA),ds[i]? =some d->vals[i]? =some v->pas[i]? =some p->yQ w d v p
 j7:∀p∈pas,p.k=.ptr->dk w p.b/\∀q∈pas,∀pc∈q.ps,¬aM p.b pc
 one:∀(i j:Nat) (p q:PA),pas[i]? =some p->pas[j]? =some q->p.k=.ptr->q.k=.ptr->i=j
def y7 (w:World) (pas:List PA) (b:Nat):Prop:=w.heap.size<=b\/∃q∈pas,∃pc∈q.ps,aM b pc
def Uj (pas:List PA):Ex:=⟨fun b=>∃p∈pas,p.k=.ptr/\b=p.b,fun _=>none,fun _ _ h=>(by cases h),fun _=>True⟩
def yw (p:PA):Value:=
 match p.k with
 |.one=>match p.ps with
  |[pc]=>pc.val
  |_=>.agg (p.ps.map PC.val).toArray
 |.agg=>.agg (p.ps.map PC.val).toArray
 |.ptr=>.pointer (some (ad p.b p.o))
def yx:List PA->Value
 |[p]=>yw p
 |l=>.tuple (l.map yw).toArray
def EY (w:World) (b o:Nat) (ps:List PC):Prop:=∀(j:Nat) (c:PC),ps[j]? =some c->w.cell? (ad b (o+j))=some c.val
structure JO (w w':World) (pas aO:List PA) (qs:List PC):Prop where
 one:∀p∈aO,p.k=.one->p.ps.length=1
 ptr:∀p∈aO,p.k=.ptr->aO.length=1/\w.heap.size<=p.b/\dk w' p.b/\EY w' p.b p.o p.ps/\(∀pc∈p.ps,¬aM p.b pc)/\∀pc∈qs,¬aM p.b pc
 ek:∀p∈aO,∀pc∈p.ps,Good w' pc/\∀b,aM b pc->y7 w pas b
 fr:Fr w.heap.size (Uj pas) w w'
 out:∀pc∈qs,Good w' pc/\∀b,aM b pc->y7 w pas b
 at_:∀p∈pas,p.k=.ptr->EY w' p.b p.o qs
def kP (P:Program) (f:FuncId) (M:List Dv->Option (List Dv×List C)):Prop:=
 ∀ds rs out,M ds=some (rs,out)->∀(w:World) (vals:List Value) (pas:List PA),JP w ds vals pas->Calls P f vals.toArray w fun e w'=>
  ∃(aO:List PA) (qs:List PC),aO.map (fun p=>(p.k,p.ps.map PC.er))=rs/\e=.returned (yx aO)/\qs.map PC.er=out/\JO w w' pas aO qs
def E5 (P:Program) (T:bg):Prop:=∀f M,bg.ni T.vs f=some M->kP P f M
section
variable {B:Nat} {E:Ex} {w0 w w':World} {G G':Gh} {N:Nat} {h h':Nat->Option aq} {used used':Nat->Bool} {tk:List PC}
variable {P:Program} {o:Oper} {a:Act} {σ σ':St} {Q:Exit->Act->World->Prop}
theorem HR.tN {c:ai} {x:C} {v:Value} (hx:Am.tN c=some x) (hc:RC w G h c v):∃pc:PC,pc.er=x/\pc.val=v/\Good w pc/\∀b,aM b pc->G.Im b:=by
 cases c with
 |c y=>
  simp only[Am.tN] at hx
  injection hx with hx
  subst hx
  exact hc
 |nil sz=>
  simp only[Am.tN] at hx
  split at hx
  ·rename_i eu
   injection hx with hx
   subst hx
   have ct:v=.slice none 0 0:=hc
   subst ct
   refine⟨.list sz none 0 [],by simp[PC.dr],rfl,.nil _ _ _ eu,fun b hb=>?_⟩
   rw[aM.jZ] at hb
   rcases hb with⟨hb,_⟩|⟨k,j,c,⟨e,he,_⟩,_⟩
   ·exact absurd rfl hb
   ·simp at he
  ·cases hx
 |_=>simp[Am.tN] at hx
theorem HR.lV:∀{cs:List ai} {xs:List C} {vs:List Value},Am.lV cs=some xs->cA w G h cs vs->∃ps:List PC,ps.map PC.er=xs/\ps.map PC.val=vs/\∀pc∈ps,Good w pc/\∀b,aM b pc->G.Im b
 |[],xs,vs,hx,hc=>by
  simp only[Am.lV] at hx
  injection hx with hx
  subst hx
  have:vs=[]:=List.eq_nil_of_length_eq_zero (by simpa using hc.1)
  subst this
  exact⟨[],rfl,rfl,by simp⟩
 |c::cs,xs,vs,hx,hc=>by
  simp only[Am.lV] at hx
  split at hx
  ·rename_i x ar e1 e2
   injection hx with hx
   subst hx
   match vs,hc.1 with
   |v::vs,hl=>
    obtain⟨pc,a1,a2,a3,a4⟩:=HR.tN e1 (hc.2 0 c v rfl rfl).2
    obtain⟨ps,b1,b2,b3⟩:=HR.lV (vs:=vs) e2 ⟨by simpa using hl,fun j c u h1 h2=>hc.2 (j+1) c u h1 h2⟩
    refine⟨pc::ps,by simp[a1,b1],by simp[a2,b2],fun q hq=>?_⟩
    cases hq with
    |head=>exact⟨a3,a4⟩
    |tail _ hq=>exact b3 q hq
  ·cases hx
theorem HR.FU (H:HR B E w G h used tk) {n:Nat} {cs:List ai} (hn:h n=some (.box cs)):∃vs:List Value,cA w G h cs vs/\∀(j:Nat) (v:Value),vs[j]? =some v->w.cell? (ad (G.g n).b ((G.g n).o+j))=some v:=by
 obtain⟨_,_,a3⟩:=H.box n cs hn
 have hj:∀j:Fin cs.length,∃v,w.cell? (ad (G.g n).b ((G.g n).o+j.1))=some v/\v.oneCell'=true/\RC w G h cs[j.1] v:=fun j=>a3 j.1 _ (List.getElem?_eq_getElem j.2)
 refine⟨List.ofFn fun j=>Classical.choose (hj j),⟨by simp,fun j c u hc hu=>?_⟩,fun j v hv=>?_⟩
 ·obtain⟨hl,e⟩:=List.getElem?_eq_some_iff.1 hc
  rw[List.getElem?_ofFn,dif_pos hl] at hu
  injection hu with hu
  subst hu e
  exact(Classical.choose_spec (hj ⟨j,hl⟩)).2
 ·by_cases hl:j<cs.length
  ·rw[List.getElem?_ofFn,dif_pos hl] at hv
   injection hv with hv
   subst hv
   exact(Classical.choose_spec (hj ⟨j,hl⟩)).1
  ·rw[List.getElem?_eq_none (by simp;omega)] at hv;cases hv
theorem akZ {σ1:St} {c:ai} {x:C} {o:Bool} (hx:σ.fC c=some (x,o,σ1)) {n:Nat} {cs:List ai} (hn:σ.h n=some (.box cs)):σ1.h n=some (.box cs):=by
 cases c with
 |c y=>simp only[St.fC] at hx;injection hx with hx;injection hx with _ hx;injection hx with _ hx;subst hx;exact hn
 |nil sz=>
  simp only[St.fC] at hx
  split at hx
  ·injection hx with hx;injection hx with _ hx;injection hx with _ hx;subst hx;exact hn
  ·cases hx
 |sl q sz lo len=>
  simp only[St.fC] at hx
  split at hx
  ·rename_i gr m rs xs hq
   split at hx
   ·injection hx with hx;injection hx with _ hx;injection hx with _ hx;subst hx
    have aw:n≠q:=by rintro rfl;rw[hq] at hn;cases hn
    show au σ.h q none n=_
    rw[cb _ _ _ _ aw];exact hn
   ·cases hx
  ·cases hx
 |_=>simp[St.fC] at hx
theorem Se:∀{l:List ai} {σ σ1:St} {xs:List C} {o:Bool},σ.fc l=some (xs,o,σ1)->∀{n:Nat} {cs:List ai},σ.h n=some (.box cs)->σ1.h n=some (.box cs)
 |[],σ,σ1,xs,o,hx,n,cs,hn=>by simp only[St.fc] at hx;injection hx with hx;injection hx with _ hx;injection hx with _ hx;subst hx;exact hn
 |c::l,σ,σ2,xs,o,hx,n,cs,hn=>by
  simp only[St.fc] at hx
  split at hx
  ·rename_i x o1 σ1 e1
   split at hx
   ·rename_i ar o2 SG e2
    injection hx with hx;injection hx with _ hx;injection hx with _ hx;subst hx
    exact Se e2 (akZ e1 hn)
   ·cases hx
  ·cases hx
theorem JY:∀{as:List ak} {σ σ1:St} {ds:List Dv} {ns:List Nat},σ.gV as=some (ds,ns,σ1)->∀{n:Nat} {cs:List ai},σ.h n=some (.box cs)->σ1.h n=some (.box cs)
 |[],σ,σ1,ds,ns,hx,n,cs,hn=>by simp only[St.gV] at hx;injection hx with hx;injection hx with _ hx;injection hx with _ hx;subst hx;exact hn
 |v::as,σ,σ2,ds,ns,hx,n,cs,hn=>by
  simp only[St.gV] at hx
  split at hx
  ·split at hx
   ·rename_i e
    injection hx with hx;injection hx with _ hx;injection hx with _ hx;subst hx
    exact JY e hn
   ·cases hx
  ·split at hx
   ·split at hx
    ·rename_i e1
     split at hx
     ·rename_i e2
      injection hx with hx;injection hx with _ hx;injection hx with _ hx;subst hx
      exact JY e2 (Se e1 hn)
     ·cases hx
    ·cases hx
   ·cases hx
def kS (pas:List PA):List PA:=pas.filter fun p=>decide (p.k=.ptr)
def SI (G:Gh) (h:Nat->Option aq) (p:PA) (n:Nat):Prop:=∃cs,h n=some (.box cs)/\p.b=(G.g n).b/\p.o=(G.g n).o/\p.ps.length=cs.length
theorem J3 {v:ak} {n:Nat} {xs:List C} (hx:mr h v=some (n,xs)):∃sz cs,v=.one (.ptr n 0 sz 0)/\h n=some (.box cs)/\lV cs=some xs:=by
 unfold mr at hx
 split at hx
 ·rename_i q k sz off
  split at hx
  ·rename_i hc
   obtain⟨rfl,rfl⟩:=hc
   split at hx
   ·rename_i cs hq
    split at hx
    ·rename_i ys e
     injection hx with hx
     injection hx with h1 h2
     subst h1 h2
     exact⟨sz,cs,rfl,hq,e⟩
    ·cases hx
   ·cases hx
  ·cases hx
 ·cases hx
theorem HR.gV:∀{as:List ak} {vals:List Value} {σ σ1:St} {G:Gh} {ds:List Dv} {ns:List Nat},HR B E w G σ.h σ.used []->σ.gV as=some (ds,ns,σ1)->vals.length=as.length->
  (∀(j:Nat) (x:ak) (v:Value),as[j]? =some x->vals[j]? =some v->RA w G σ.h x v)->(∀x∈as,∀m,x.ref m->σ.used m=true)->
  ∃(Im':Nat->Prop) (pas:List PA),pas.length=ds.length/\vals.length=ds.length/\(∀(i:Nat) (d:Dv) (v:Value) (p:PA),ds[i]? =some d->vals[i]? =some v->pas[i]? =some p->yQ w d v p)/\
   (∀p∈pas,∀pc∈p.ps,∀b,aM b pc->Im' b)/\(kS pas).length=ns.length/\(∀(i:Nat) (p:PA) (n:Nat),(kS pas)[i]? =some p->ns[i]? =some n->SI G σ1.h p n)/\
   HR B E w ⟨Im',G.g⟩ σ1.h σ1.used []/\aT w G σ.h (fun n=>σ.used n=true) w ⟨Im',G.g⟩ σ1.h/\σ1.env=σ.env/\σ1.used=σ.used
 |[],vals,σ,σ1,G,ds,ns,H,hx,hl,hc,hr=>by
  simp only[St.gV] at hx
  injection hx with hx
  injection hx with h1 h2
  injection h2 with h2 h3
  subst h1 h2 h3
  exact⟨G.Im,[],rfl,by simpa using hl,by simp,by simp,rfl,by simp[kS],H,aT.refl _ _ _ _,rfl,rfl⟩
 |x::as,vals,σ,σ2,G,ds,ns,H,hx,hl,hc,hr=>by
  match vals,hl with
  |v::vals,hl=>
   simp only[St.gV] at hx
   split at hx
   ·rename_i n xs hp
    split at hx
    ·rename_i xa jB σ1 e
     injection hx with hx
     injection hx with h1 h2
     injection h2 with h2 h3
     subst h1 h2 h3
     obtain⟨sz,cs,rfl,hn,pn⟩:=J3 hp
     obtain⟨nl,un,_⟩:=H.box n cs hn
     obtain⟨vs,v1,v2⟩:=H.FU hn
     obtain⟨ps,p1,p2,p3⟩:=HR.lV pn v1
     have hv:v=.pointer (some (ad (G.g n).b (G.g n).o)):=by
      have h0:=hc 0 _ v rfl rfl
      rcases h0 with h0|h0
      ·cases h0
      ·have h1:RC w G σ.h (.ptr n 0 sz 0) v:=(h0.2 0 _ v rfl rfl).2
       simpa using(h1 (by rw[hn];simp)).2
     obtain⟨Im',pas,b1,b2,b3,b4,b5,b6,b7,b8,b9,oV⟩:=HR.gV (as:=as) (vals:=vals) H e (by simpa using hl) (fun j x v h1 h2=>hc (j+1) x v h1 h2) (fun x hx=>hr x (by simp[hx]))
     have hk:(Am.K.ptr=Am.K.ptr)=True:=by simp
     refine⟨Im',⟨.ptr,ps,(G.g n).b,(G.g n).o⟩::pas,by simp[b1],by simp[b2],fun i d u p hd hu fF=>?_,fun p fF pc aV b hb=>?_,by simp[kS];exact b5,fun i p m hi hm=>?_,b7,b8,b9,oV⟩
     ·cases i with
      |zero=>
       simp at hd hu fF
       subst hd hu fF
       refine⟨by rw[p1],fun pc aV=>(p3 pc aV).1,hv,un.lt,fun j c hj=>v2 j _ ?_⟩
       rw[<-p2,List.getElem?_map,hj];rfl
      |succ i=>exact b3 i d u p (by simpa using hd) (by simpa using hu) (by simpa using fF)
     ·cases fF with
      |head=>exact b8.im b ((p3 pc aV).2 b hb)
      |tail _ fF=>exact b4 p fF pc aV b hb
     ·cases i with
      |zero=>
       simp[kS] at hi hm
       subst hi hm
       refine⟨cs,JY e hn,rfl,rfl,?_⟩
       have h1:ps.length=vs.length:=by rw[<-p2];simp
       exact h1.trans v1.1
      |succ i=>exact b6 i p m (by simpa[kS] using hi) (by simpa using hm)
    ·cases hx
   ·split at hx
    ·rename_i ag cs dL
     split at hx
     ·rename_i xs o σ1 e1
      split at hx
      ·rename_i xa jB SG e2
       injection hx with hx
       injection hx with h1 h2
       injection h2 with h2 h3
       subst h1 h2 h3
       have h0:=hc 0 x v rfl rfl
       have ew:∃vs:List Value,(if ag=true then v=.agg vs.toArray else vs=[v])/\cA w G σ.h cs vs:=by
        cases x with
        |one c=>
         have LC:ag=false/\cs=[c]:=by cases c<;>simp[ak.cells?] at dL<;>exact⟨dL.1,dL.2.symm⟩
         obtain⟨rfl,rfl⟩:=LC
         rcases h0 with h0|h0
         ·subst h0;simp[ak.cells?] at dL
         ·exact⟨[v],rfl,h0⟩
        |agg cs'=>
         simp[ak.cells?] at dL
         obtain⟨rfl,rfl⟩:=dL
         obtain⟨vs,e,h1⟩:∃vs:List Value,v=.agg vs.toArray/\cA w G σ.h cs' vs:=h0
         exact⟨vs,e,h1⟩
        |bn xs=>simp[ak.cells?] at dL
       obtain⟨vs,ig,bP⟩:=ew
       obtain⟨wK,bu,a1,a2,a3,a5,a6,a7,a8,a9⟩:=H.fc e1 bP (fun c' ct m hm=>hr x (by simp) m (ak.zk dL ct hm))
       have uD:HR B E w ⟨wK,G.g⟩ σ1.h σ.used []:=by
        cases o with
        |true=>exact HR.wu (tk:=[]) (l:=bu) (by simpa using a5)
        |false=>simpa using a5
       rw[<-a8] at uD
       obtain⟨BN,pas,b1,b2,b3,b4,b5,b6,b7,b8,b9,oV⟩:=HR.gV (as:=as) (vals:=vals) (G:=⟨wK,G.g⟩) uD e2 (by simpa using hl)
        (fun j x v h1 h2=>(hc (j+1) x v h1 h2).eI a6 (fun m hm=>hr x (by simp[List.mem_of_getElem? h1]) m hm)) (fun x' eT m hm=>by rw[a8];exact hr x' (by simp[eT]) m hm)
       refine⟨BN,⟨if ag=true then .agg else .one,bu,0,0⟩::pas,by simp[b1],by simp[b2],fun i d u p hd hu fF=>?_,fun p fF pc aV b hb=>?_,?_,fun i p m hi hm=>?_,b7,
        aT.trans (fun n hn=>by rw[a8];exact hn) a6 b8,b9.trans a7,oV.trans a8⟩
       ·cases i with
        |zero=>
         simp at hd hu fF
         subst hd hu fF
         cases ag with
         |true=>exact⟨by simp[a1],fun pc aV=>(a3 pc aV).1,by simp only[if_true] at ig⊢;rw[a2];exact ig⟩
         |false=>exact⟨by simp[a1],fun pc aV=>(a3 pc aV).1,by simp only[Bool.false_eq_true,if_false] at ig⊢;rw[a2];exact ig⟩
        |succ i=>exact b3 i d u p (by simpa using hd) (by simpa using hu) (by simpa using fF)
       ·cases fF with
        |head=>exact b8.im b ((a3 pc aV).2 b hb)
        |tail _ fF=>exact b4 p fF pc aV b hb
       ·cases ag<;>simp[kS]<;>exact b5
       ·refine b6 i p m ?_ hm
        cases ag<;>simpa[kS] using hi
      ·cases hx
     ·cases hx
    ·cases hx
theorem HR.Tt (H:HR B E w G h used []) {n:Nat} {cs cs':List ai} (hn:h n=some (.box cs)) (bE:w.heap.size<=w'.heap.size) (hw:∀b,b<w.heap.size->b≠(G.g n).b->w'.heap[b]? =w.heap[b]?)
  (kZ:∀b,b<w.heap.size->Cz w w' b) {S:Nat->Prop} (hS:∀b,S b->w.heap.size<=b/\b<w'.heap.size/\B<=b) {ps:List PC} (fv:cs'=ps.map fun pc=>ai.c pc.er)
  (bO:∀(j:Nat) (c:PC),ps[j]? =some c->w'.cell? (ad (G.g n).b ((G.g n).o+j))=some c.val) (gp:∀pc∈ps,Good w' pc/\∀b,aM b pc->G.Im b\/S b):
  HR B E w' ⟨fun b=>G.Im b\/S b,G.g⟩ (au h n (some (.box cs'))) used []/\aT w G h (fun n=>used n=true) w' ⟨fun b=>G.Im b\/S b,G.g⟩ (au h n (some (.box cs'))):=by
 subst fv
 have bM:h n≠none:=by rw[hn];simp
 obtain⟨aK,rY,gC⟩:=H.box n cs hn
 obtain⟨qE,po,qF⟩:=H.own n bM aK
 have vj:=H.iA n bM
 have kp:∀Gb:List ai,aT w G h (fun n=>used n=true) w' G (au h n (some (.box Gb))):=by
  intro Gb
  refine⟨fun _ h=>h,fun b hb x=>hZ (hw b (H.fx b hb) (fun he=>qE (he▸hb))) x,fun m hm h0=>?_,fun m gr sz xs hm h0=>?_⟩
  ·by_cases bB:m=n
   ·subst bB;exact⟨bM,rfl,rfl,rfl,rfl,rfl⟩
   ·rw[cb _ _ _ _ bB] at h0;exact⟨h0,rfl,rfl,rfl,rfl,rfl⟩
  ·by_cases bB:m=n
   ·subst bB;rw[bC] at h0;cases h0
   ·rw[cb _ _ _ _ bB] at h0;exact⟨⟨gr,xs,h0⟩,fun k j pc h1 h2=>⟨pc,h1,rfl,h2⟩⟩
 have hG:(⟨G.Im,au G.g n (G.g n)⟩:Gh)=G:=by rw[Eo]
 have H1:HR B E w' ⟨G.Im,au G.g n (G.g n)⟩ (au h n (some (.box []))) used []:=by
  refine H.put (fun b hb aw=>hw b hb (aw aK)) bE (fun b hb hU=>(kZ b hb).j7 hU) (fun _ h=>h) vj (fun _=>⟨qE,po,Nat.lt_of_lt_of_le qF bE⟩)
   (fun _ m hm h0 kq=>(H.inj m n h0 bM hm kq aK)) (fun _ m gr sz xs hm h0 b hb=>H.live m gr sz xs h0 b hb n bM aK) ?_ (by rw[hG];exact kp []) ?_
   (fun gr m sz xs hb=>by cases hb) (fun gr sz xs hb=>by cases hb) (fun gr m sz xs hb=>by cases hb) ?_
  ·intro Gb c m hb hc hm
   injection hb with hb
   subst hb
   cases hc
  ·exact⟨aK,(kZ _ qF).j7 rY,fun j c hj=>by simp at hj⟩
  ·intro _ _ b hb
   obtain⟨m,gr,mo,sz,xs,hm,h0,cq⟩:=hb
   exact H.rK bM aK h0 cq
 rw[hG] at H1
 have Mj:∀m,au h n (some (aq.box [])) m≠none->h m≠none:=fun m hm=>by
  by_cases bB:m=n
  ·subst bB;exact bM
  ·rwa[cb _ _ _ _ bB] at hm
 have H2:HR B E w' ⟨fun b=>G.Im b\/S b,G.g⟩ (au h n (some (.box []))) used []:=H1.pA S (fun b hb=>(hS b hb).2.1) (fun b hb q hq hl he=>by have:=(hS b hb).1;have:=(H.own q (Mj q hq) hl).2.2;omega)
  (fun b hb q gr sz xs hq hF=>by
   by_cases eG:q=n
   ·subst eG;rw[bC] at hq;cases hq
   ·rw[cb _ _ _ _ eG] at hq
    have:=(hS b hb).1;have:=H.pT hq hF;omega) (fun b hb=>.inl (hS b hb).2.2)
 have hn2:au h n (some (aq.box [])) n=some (.box []):=bC _ _ _
 have CS:au h n (some (aq.box [])) n≠none:=by rw[hn2];simp
 have VU:au (au h n (some (aq.box []))) n (some (.box (ps.map fun pc=>ai.c pc.er)))=au h n (some (.box (ps.map fun pc=>ai.c pc.er))):=by
  funext m;simp only[iK];split<;>rfl
 have U8:(⟨fun b=>G.Im b\/S b,au G.g n (G.g n)⟩:Gh)=⟨fun b=>G.Im b\/S b,G.g⟩:=by rw[Eo]
 have K2:aT w' ⟨fun b=>G.Im b\/S b,G.g⟩ (au h n (some (aq.box []))) (fun n=>used n=true) w' ⟨fun b=>G.Im b\/S b,G.g⟩ (au h n (some (.box (ps.map fun pc=>ai.c pc.er)))):=by
  refine⟨fun _ h=>h,fun _ _ _=>rfl,fun m hm h0=>?_,fun m gr sz xs hm h0=>?_⟩
  ·refine⟨?_,rfl,rfl,rfl,rfl,rfl⟩
   by_cases bB:m=n
   ·subst bB;exact CS
   ·rw[cb _ _ _ _ bB] at h0⊢;exact h0
  ·by_cases bB:m=n
   ·subst bB;rw[bC] at h0;cases h0
   ·rw[cb _ _ _ _ bB] at h0;exact⟨⟨gr,xs,by rw[cb _ _ _ _ bB];exact h0⟩,fun k j pc h1 h2=>⟨pc,h1,rfl,h2⟩⟩
 have H3:HR B E w' ⟨fun b=>G.Im b\/S b,au G.g n (G.g n)⟩ (au (au h n (some (aq.box []))) n (some (.box (ps.map fun pc=>ai.c pc.er)))) used []:=by
  refine H2.put (w':=w') (fun _ _ _=>rfl) (Nat.le_refl _) (fun _ _ hU=>hU) (fun _ h=>h) vj (fun _=>⟨fun hi=>(H2.own n CS aK).1 hi,po,Nat.lt_of_lt_of_le qF bE⟩)
   (fun _ m hm h0 kq=>H2.inj m n h0 CS hm kq aK) (fun _ m gr sz xs hm h0 b hb=>H2.live m gr sz xs h0 b hb n CS aK) ?_ (by rw[U8,VU];exact K2) ?_
   (fun gr m sz xs hb=>by cases hb) (fun gr sz xs hb=>by cases hb) (fun gr m sz xs hb=>by cases hb) ?_
  ·intro Gb c m hb hc hm
   injection hb with hb
   subst hb
   obtain⟨pc,_,rfl⟩:=List.mem_map.1 hc
   exact absurd hm id
  ·refine⟨aK,(kZ _ qF).j7 rY,fun j c hj=>?_⟩
   rw[List.getElem?_map] at hj
   cases hp:ps[j]? with
   |none=>rw[hp] at hj;cases hj
   |some pc=>
    rw[hp] at hj
    simp at hj
    subst hj
    obtain⟨g1,g2⟩:=gp pc (List.mem_of_getElem? hp)
    exact⟨pc.val,bO j pc hp,PC.j8 pc,pc,rfl,rfl,g1,g2⟩
  ·intro _ _ b hb
   obtain⟨m,gr,mo,sz,xs,hm,h0,cq⟩:=hb
   exact H2.rK CS aK h0 cq
 rw[U8,VU] at H3
 have K1:aT w G h (fun n=>used n=true) w' ⟨fun b=>G.Im b\/S b,G.g⟩ (au h n (some (aq.box []))):=aT.trans (fun _ h=>h) (kp []) (aT.pA S _)
 exact⟨H3,aT.trans (fun _ h=>h) K1 K2⟩
theorem Py {σ1:St} {ns:List Nat} {out:List C} (hx:σ.qU ns out=some σ1):(ns=[]/\out=[]/\σ1=σ)\/∃n cs,ns=[n]/\σ.h n=some (.box cs)/\cs.length=out.length/\σ1=σ.dd n (.box (out.map .c)):=by
 unfold St.qU at hx
 split at hx
 ·injection hx with hx;exact .inl ⟨rfl,rfl,hx.symm⟩
 ·rename_i n
  split at hx
  ·rename_i cs hn
   split at hx
   ·rename_i hl
    injection hx with hx
    exact .inr ⟨n,cs,rfl,hn,hl,hx.symm⟩
   ·cases hx
  ·cases hx
 ·cases hx
theorem TT {pas:List PA} {p:PA} (hp:p∈pas) (hk:p.k=.ptr):p∈kS pas:=List.mem_filter.2 ⟨hp,by simp[hk]⟩
theorem TU:∀{pas:List PA},(kS pas).length<=1->∀{i j:Nat} {p q:PA},pas[i]? =some p->pas[j]? =some q->p.k=.ptr->q.k=.ptr->i=j
 |[],_,i,_,_,_,hi,_,_,_=>by simp at hi
 |x::pas,hl,i,j,p,q,hi,hj,hp,hq=>by
  by_cases hx:x.k=.ptr
  ·have hz:(kS pas).length=0:=by
    simp[kS,hx] at hl⊢
    exact hl
   have cf:∀y∈pas,y.k≠ .ptr:=fun y hy hk=>by
    have:=TT hy hk
    rw[List.length_eq_zero_iff.1 hz] at this
    cases this
   cases i with
   |zero=>
    cases j with
    |zero=>rfl
    |succ j=>exact absurd hq (cf q (List.mem_of_getElem? (by simpa using hj)))
   |succ i=>exact absurd hp (cf p (List.mem_of_getElem? (by simpa using hi)))
  ·have dq:(kS pas).length<=1:=by simpa[kS,hx] using hl
   cases i with
   |zero=>simp at hi;subst hi;exact absurd hp hx
   |succ i=>
    cases j with
    |zero=>simp at hj;subst hj;exact absurd hq hx
    |succ j=>exact congrArg (·+1) (TU dq (by simpa using hi) (by simpa using hj) hp hq)
theorem Kv:∀{aO:List PA} {ls:List (Bool×List ai)},gz (aO.map fun p=>(p.k,p.ps.map PC.er))=some ls->ls=aO.map (fun p=>(decide (p.k=.agg),p.ps.map fun pc=>ai.c pc.er))/\∀p∈aO,p.k≠ .ptr
 |[],ls,h=>by simp only[List.map_nil,gz] at h;injection h with h;exact⟨h.symm,by simp⟩
 |⟨k,ps,b,o⟩::aO,ls,h=>by
  cases k with
  |ptr=>simp[gz] at h
  |one=>
   simp only[List.map_cons,gz] at h
   split at h
   ·rename_i yd e
    injection h with h
    obtain⟨e1,e2⟩:=Kv e
    refine⟨by rw[<-h,e1,List.map_map];rfl,fun p hp=>?_⟩
    cases hp with
    |head=>simp
    |tail _ hp=>exact e2 p hp
   ·cases h
  |agg=>
   simp only[List.map_cons,gz] at h
   split at h
   ·rename_i yd e
    injection h with h
    obtain⟨e1,e2⟩:=Kv e
    refine⟨by rw[<-h,e1,List.map_map];rfl,fun p hp=>?_⟩
    cases hp with
    |head=>simp
    |tail _ hp=>exact e2 p hp
   ·cases h
theorem ai5 {ls:List (Bool×List ai)} {aO:List PA} (hlen:ls.length=aO.length)
  (hv:∀(j:Nat) (x:Bool×List ai) (p:PA),ls[j]? =some x->aO[j]? =some p->RV w G h x.1 x.2 (yw p)):RA w G h (lC ls) (yx aO):=by
 match ls,aO,hlen with
 |[],[],_=>exact⟨[],rfl,rfl,by simp⟩
 |[(ag,cs)],[p],_=>
  have h0:=hv 0 (ag,cs) p rfl rfl
  cases ag with
  |true=>exact h0
  |false=>
   have bP:cA w G h cs [yw p]:=h0
   match cs,bP.1 with
   |[c],_=>exact .inr h0
 |x::y::ls,p::q::aO,hl=>
  refine⟨(p::q::aO).map yw,rfl,by simpa using hl.symm,fun j x' u hj hu=>?_⟩
  rw[List.getElem?_map] at hu
  cases hp:(p::q::aO)[j]? with
  |none=>rw[hp] at hu;cases hu
  |some p'=>rw[hp] at hu;simp at hu;subst hu;exact hv j x' p' hj hp
theorem abB (r:R B E w0 N σ a w G) {T:bg} (hT:E5 P T) {f:FuncId} {as:List ak} {vals:List Value} {σ1:St} (hN:∀n,o.dst=some n->n<N)
  (bK:(execOp a.eval o).run P w=.ok (.enter f vals.toArray) w) (hl:vals.length=as.length)
  (xq:∀(j:Nat) (x:ak) (v:Value),as[j]? =some x->vals[j]? =some v->RA w G σ.h x v) (Mk:∀x∈as,∀m,x.ref m->σ.used m=true)
  (hx:rG T o.dst f as σ=some σ1):o.wp P a w (Nx B E w0 N σ1) Q:=by
 unfold rG at hx
 split at hx
 ·rename_i ds ns nP M hba hM
  split at hx
  ·rename_i rs out tg
   split at hx
   ·rename_i mq pq
    obtain⟨Im',pas,b1,b2,b3,b4,b5,b6,b7,b8,b9,oV⟩:=r.hr.gV hba hl xq Mk
    have hns:ns.length<=1:=by
     rcases Py pq with⟨h1,_⟩|⟨n,cs,h1,_⟩<;>rw[h1]<;>simp
    have kY:∀p∈pas,p.k=.ptr->∃n,ns=[n]/\SI G nP.h p n:=by
     intro p hp hk
     obtain⟨i,hi⟩:=List.getElem?_of_mem (TT hp hk)
     have bL:i<ns.length:=by rw[<-b5];exact(List.getElem?_eq_some_iff.1 hi).1
     have hn:ns[i]? =some ns[i]:=List.getElem?_eq_getElem bL
     have h0:i=0:=by omega
     subst h0
     refine⟨_,?_,b6 0 p _ hi hn⟩
     match ns,bL,hns with
     |[n],_,_=>rfl
    have va:JP w ds vals pas:=by
     refine⟨b2,b1,b3,fun p hp hk=>?_,fun i j p q hi hj hp hq=>TU (by omega) hi hj hp hq⟩
     obtain⟨n,_,cs,hn,e1,e2,e3⟩:=kY p hp hk
     obtain⟨nl,un,_⟩:=b7.box n cs hn
     have ho:=b7.own n (by rw[hn];simp) nl
     rw[e1]
     exact⟨un,fun q hq pc aV hb=>ho.1 (b4 q hq pc aV _ hb)⟩
    unfold Oper.wp
    rw[bK]
    refine(hT f M hM ds rs out tg w vals pas va).mono fun e w' ⟨aO,qs,p1,p2,p3,p4⟩=>?_
    subst p2
    have VX:∀b,y7 w pas b->Im' b\/w.heap.size<=b:=fun b hb=>by
     rcases hb with hb|⟨q,hq,pc,aV,hb⟩
     ·exact .inr hb
     ·exact .inl (b4 q hq pc aV b hb)
    let S:Nat->Prop:=fun b=>w.heap.size<=b/\((∃p∈aO,∃pc∈p.ps,aM b pc)\/∃pc∈qs,aM b pc)
    have hB:=r.fr.size
    have hS:∀b,S b->w.heap.size<=b/\b<w'.heap.size/\B<=b:=fun b ⟨h1,h2⟩=>by
     refine⟨h1,?_,Nat.le_trans hB h1⟩
     rcases h2 with⟨p,hp,pc,aV,hb⟩|⟨pc,aV,hb⟩
     ·exact(p4.ek p hp pc aV).1.lt hb
     ·exact(p4.out pc aV).1.lt hb
    have U3:∀p∈aO,∀pc∈p.ps,Good w' pc/\∀b,aM b pc->Im' b\/S b:=fun p hp pc aV=>by
     obtain⟨g1,g2⟩:=p4.ek p hp pc aV
     exact⟨g1,fun b hb=>(VX b (g2 b hb)).imp id fun h1=>⟨h1,.inl ⟨p,hp,pc,aV,hb⟩⟩⟩
    have acW:∀pc∈qs,Good w' pc/\∀b,aM b pc->Im' b\/S b:=fun pc aV=>by
     obtain⟨g1,g2⟩:=p4.out pc aV
     exact⟨g1,fun b hb=>(VX b (g2 b hb)).imp id fun h1=>⟨h1,.inr ⟨pc,aV,hb⟩⟩⟩
    have akv:HR B E w' ⟨fun b=>Im' b\/S b,G.g⟩ mq.h mq.used []/\aT w ⟨Im',G.g⟩ nP.h (fun n=>nP.used n=true) w' ⟨fun b=>Im' b\/S b,G.g⟩ mq.h/\mq.env=nP.env/\mq.used=nP.used/\Fr B E w0 w':=by
     rcases Py pq with⟨h1,h2,h3⟩|⟨n,cs,h1,h2,h3,h4⟩
     ·subst h3
      have cf:∀p∈pas,p.k≠ .ptr:=fun p hp hk=>by
       obtain⟨n,e,_⟩:=kY p hp hk
       rw[h1] at e;cases e
      have gB:∀b,b<w.heap.size->w'.heap[b]? =w.heap[b]? :=fun b hb=>p4.fr.block b hb (fun⟨p,hp,hk,_⟩=>cf p hp hk)
      have Hg:=b7.grow gB p4.fr.size
      refine⟨Hg.pA S (fun b hb=>(hS b hb).2.1) (fun b hb q hq hl he=>by have:=(hS b hb).1;have:=(b7.own q hq hl).2.2;omega)
       (fun b hb q gr sz xs hq hF=>by have:=(hS b hb).1;have:=b7.pT hq hF;omega) (fun b hb=>.inl (hS b hb).2.2),
       aT.trans (fun _ h=>h) (aT.world (fun b hb=>gB b (b7.fx b hb)) _) (aT.pA S _),rfl,rfl,r.fr.grow gB p4.fr.size p4.fr.os p4.fr.tape p4.fr.output⟩
     ·subst h4
      obtain⟨p,hp,hk⟩:∃p∈pas,p.k=.ptr:=by
       have hlen:(kS pas).length=1:=by rw[b5,h1];rfl
       match hc:kS pas,hlen with
       |[p],_=>
        have hm:p∈kS pas:=by rw[hc];simp
        have:=List.mem_filter.1 hm
        exact⟨p,this.1,by simpa using this.2⟩
      obtain⟨n',e0,cs',bk,e1,e2,e3⟩:=kY p hp hk
      rw[h1] at e0
      injection e0 with e0
      subst e0
      have Ha:∀q∈pas,q.k=.ptr->q=p:=fun q hq L4=>by
       obtain⟨i,hi⟩:=List.getElem?_of_mem hq
       obtain⟨j,hj⟩:=List.getElem?_of_mem hp
       have:=va.one i j q p hi hj L4 hk
       subst this
       rw[hi] at hj
       injection hj
      have ho:=b7.own n (by rw[h2];simp) (b7.box n cs h2).1
      have gB:∀b,b<w.heap.size->b≠(G.g n).b->w'.heap[b]? =w.heap[b]? :=fun b hb aw=>p4.fr.block b hb (fun⟨q,hq,L4,Vk⟩=>by
       rw[Ha q hq L4,e1] at Vk
       exact aw Vk)
      have kZ:∀b,b<w.heap.size->Cz w w' b:=fun b hb=>p4.fr.j7 b hb
      obtain⟨Hb,Kb⟩:=b7.Tt (cs':=out.map .c) h2 p4.fr.size gB kZ hS (ps:=qs) (by rw[<-p3,List.map_map];rfl) (fun j c hj=>by
       have:=p4.at_ p hp hk j c hj
       rw[e1,e2] at this
       exact this) acW
      exact⟨Hb,Kb,rfl,rfl,r.fr.one ho.2.1 gB p4.fr.size (kZ _ ho.2.2) p4.fr.os p4.fr.tape p4.fr.output⟩
    obtain⟨H2,K2,v1,v2,xz⟩:=akv
    have K0:aT w G σ.h (fun n=>σ.used n=true) w' ⟨fun b=>Im' b\/S b,G.g⟩ mq.h:=aT.trans (fun n hn=>by rw[oV];exact hn) b8 K2
    have r2:R B E w0 N mq a w' ⟨fun b=>Im' b\/S b,G.g⟩:=r.step (v1.trans b9) (fun m hm=>by rw[v2,oV];exact hm) K0 H2 xz
    have Gd:∀{ls:List (Bool×List ai)},gz rs=some ls->σ1=mq.put o.dst (lC ls)->(match(Ending.returned (yx aO)) with|.returned v=>Nx B E w0 N σ1 (a.put o.dst v) w'|_=>True):=by
     intro ls zO hs
     subst hs
     rw[<-p1] at zO
     obtain⟨rfl,hnp⟩:=Kv zO
     refine⟨_,r2.put (ai5 (by simp) (fun j x p hj hp=>?_)) (fun q hq=>?_) hN⟩
     ·rw[List.getElem?_map,hp] at hj
      simp at hj
      subst hj
      have hm:=List.mem_of_getElem? hp
      have bP:cA w' ⟨fun b=>Im' b\/S b,G.g⟩ mq.h (p.ps.map fun pc=>ai.c pc.er) (p.ps.map PC.val):=by
       refine⟨by simp,fun j c u hj hu=>?_⟩
       rw[List.getElem?_map] at hj hu
       cases lO:p.ps[j]? with
       |none=>rw[lO] at hj;cases hj
       |some pc=>
        rw[lO] at hj hu
        simp at hj hu
        subst hj hu
        obtain⟨g1,g2⟩:=U3 p hm pc (List.mem_of_getElem? lO)
        exact⟨PC.j8 pc,pc,rfl,rfl,g1,g2⟩
      have GZ:=p4.one p hm
      have LZ:=hnp p hm
      obtain⟨k,ps,b,o'⟩:=p
      cases k with
      |ptr=>exact absurd rfl LZ
      |agg=>exact⟨ps.map PC.val,rfl,bP⟩
      |one=>
       have h2:=GZ rfl
       match ps,h2 with
       |[p],_=>exact bP
     ·exfalso
      refine YF (fun x hx c hc hq=>?_) hq
      obtain⟨p,_,rfl⟩:=List.mem_map.1 hx
      obtain⟨pc,_,rfl⟩:=List.mem_map.1 hc
      exact hq
    unfold qi at hx
    split at hx
    ·rename_i cs
     split at hx
     ·rename_i q hq
      split at hx
      ·rename_i τ3 adh
       injection hx with hx
       subst hx
       obtain⟨u1,rfl⟩:=lW adh
       obtain⟨p,rfl⟩:∃p,aO=[p]:=by
        have h1:aO.length=1:=by have:=congrArg List.length p1;simpa using this
        exact List.length_eq_one_iff.1 h1
       simp at p1
       obtain⟨hk,dL⟩:=p1
       obtain⟨_,q1,q2,q3,q4,q5⟩:=p4.ptr p (by simp) hk
       subst dL
       have VC:nS ⟨fun b=>Im' b\/S b,G.g⟩ mq.h p.b:=by
        refine⟨fun hi=>?_,fun m hm hl he=>?_,fun m gr mo sz xs hm hF=>?_⟩
        ·rcases hi with hi|⟨_,hi⟩
         ·have:=b7.fx _ hi;omega
         ·rcases hi with⟨p',aX,pc,aV,hb⟩|⟨pc,aV,hb⟩
          ·simp at aX;subst aX;exact q4 pc aV hb
          ·exact q5 pc aV hb
        ·have hd:=H2.iA m hm
         obtain⟨k0,k1,k2,_⟩:=K2.name m (by rw[<-v2];exact hd) hm
         have dq:(G.g m).nl=false:=hl
         have:=(b7.own m k0 dq).2.2
         have GU:(G.g m).b=p.b:=he
         have h7:(⟨Im',G.g⟩:Gh).g m=G.g m:=rfl
         rw[h7] at this
         omega
        ·have hd:=H2.iA m (by rw[hm];simp)
         have fZ:∃bh mR aG ar,nP.h m=some (.row bh mR aG ar):=by
          rcases Py pq with⟨h1,h2,h3⟩|⟨n,cs,h1,h2,h3,h4⟩
          ·subst h3;exact⟨_,_,_,_,hm⟩
          ·subst h4
           by_cases bB:m=n
           ·subst bB;have:au nP.h m (some (aq.box (out.map ai.c))) m=_:=hm;rw[bC] at this;cases this
           ·have:au nP.h n (some (aq.box (out.map ai.c))) m=_:=hm
            rw[cb _ _ _ _ bB] at this
            exact⟨_,_,_,_,this⟩
         obtain⟨bh,mR,aG,ar,bI⟩:=fZ
         have hF':aP p.b (G.g m).px:=hF
         have:=b7.pT bI hF'
         omega
       have Hn:HR B E w' ⟨fun b=>Im' b\/S b,au G.g q ⟨false,p.b,p.o,0,[],none⟩⟩ (au mq.h q (some (.box ((p.ps.map PC.er).map .c)))) (au mq.used q true) []:=by
        refine H2.insert (w':=w') u1 (fun _ _=>rfl) (Nat.le_refl _) (fun _=>⟨VC,.inl (Nat.le_trans hB q1),q2.lt⟩) (fun cs' c m hb ct hm=>?_) ⟨rfl,q2,fun j c hj=>?_⟩ (fun gr m sz xs hb=>by cases hb) (fun gr sz xs hb=>by cases hb) (fun gr m sz xs hb=>by cases hb)
        ·injection hb with hb
         subst hb
         obtain⟨x,_,rfl⟩:=List.mem_map.1 ct
         exact absurd hm id
        ·rw[List.getElem?_map,List.getElem?_map] at hj
         cases hp:p.ps[j]? with
         |none=>rw[hp] at hj;cases hj
         |some pc=>
          rw[hp] at hj
          simp at hj
          subst hj
          obtain⟨g1,g2⟩:=U3 p (by simp) pc (List.mem_of_getElem? hp)
          exact⟨pc.val,q3 j pc hp,PC.j8 pc,pc,rfl,rfl,g1,g2⟩
       have r3:=r2.step (σ':={mq with h:=au mq.h q (some (.box ((p.ps.map PC.er).map .c))),used:=au mq.used q true}) rfl (fun m hm=>qc q m hm) (aT.insert H2 u1 (fun _ _=>rfl)) Hn xz
       have hv:yx [p]=.pointer (some (ad p.b p.o)):=by
        obtain⟨k,ps,b,o'⟩:=p
        simp only at hk
        subst hk
        rfl
       rw[hv]
       exact⟨_,r3.put (RA.fR (c:=.ptr q 0 0 0) rfl (show au mq.h q _ q≠none->(au G.g q _ q).nl=false/\_=_ from fun _=>by simp[bC])) (fun m hm=>by have bI:m=q:=hm;subst bI;exact bC _ _ _) hN⟩
      ·cases hx
     ·cases hx
    ·split at hx
     ·rename_i ls zO
      injection hx with hx
      exact Gd zO hx.symm
     ·cases hx
   ·cases hx
  ·cases hx
 ·cases hx
theorem abu (r:R B E w0 N σ a w G) {T:bg} (hT:E5 P T) {f:FuncId} {xs:Array Operand} {ms:List MO} {ts:Array TypeId} {σ1:St} (hN:∀n,o.dst=some n->n<N)
  (ho:o.op=.call {callee:=.value (.func f),args:=xs,argTypes:=ts}) (hf:cg P f=true) (hm:gW xs.toList ms=true)
  (hx:rG T o.dst f (ms.map σ.ev) σ=some σ1):o.wp P a w (Nx B E w0 N σ1) Q:=by
 obtain⟨e1,e2⟩:=r.zy hm
 have Mk:∀x∈ms.map σ.ev,∀m,x.ref m->σ.used m=true:=by
  have cu:∀{xs:List Operand} {ms:List MO},gW xs ms=true->∀x∈ms.map σ.ev,∀m,x.ref m->σ.used m=true:=by
   intro xs ms
   induction ms generalizing xs with
   |nil=>intro _ x hx;simp at hx
   |cons m0 ms ih=>
    intro hc x hx m hm
    cases xs with
    |nil=>simp[gW] at hc
    |cons y ys=>
     simp only[gW,Bool.and_eq_true] at hc
     simp only[List.map_cons,List.mem_cons] at hx
     rcases hx with rfl|hx
     ·exact(r.ev hc.1).2 m hm
     ·exact ih hc.2 x hx m hm
  exact cu hm
 refine abB r hT (vals:=xs.toList.map a.eval) hN ?_ (by simpa using e1) e2 Mk hx
 have he:(xs.toList.map a.eval).toArray=xs.map a.eval:=by apply Array.ext';simp
 rw[he]
 simp[execOp,ho,resolve,Deferred.ofValue,invoke,Act.eval,Be hf]
theorem R.pf (r:R B E w0 N σ a w G) {p:ai} (hx:σ.pf p=some σ'):∃G',R B E w0 N σ' a w G'/\σ'.env=σ.env:=by
 unfold St.pf at hx
 split at hx
 ·rename_i n k sz off
  split at hx
  ·rename_i cs hn
   split at hx
   ·rename_i xs ow σ1 ht
    injection hx with hx
    subst hx
    obtain⟨vs,v1,v2⟩:=r.hr.FU hn
    obtain⟨wK,bu,a1,a2,a3,a5,a6,a7,a8,a9⟩:=r.hr.fc ht v1 (fun c hc m hm=>r.hr.gi n cs c m hn hc hm)
    have uD:HR B E w ⟨wK,G.g⟩ σ1.h σ.used []:=by
     cases ow with
     |true=>exact HR.wu (tk:=[]) (l:=bu) (by simpa using a5)
     |false=>simpa using a5
    have mI:=Se ht hn
    obtain⟨b1,b2⟩:=uD.Tt (w':=w) (cs':=xs.map .c) mI (Nat.le_refl _) (fun _ _ _=>rfl) (fun b _=>Cz.refl w b) (S:=fun _=>False) (fun b hb=>hb.elim) (ps:=bu)
     (by rw[<-a1,List.map_map];rfl) (fun j c hj=>by
      have:=v2 j c.val (by rw[<-a2,List.getElem?_map,hj];rfl)
      exact this) (fun pc aV=>⟨(a3 pc aV).1,fun b hb=>.inl ((a3 pc aV).2 b hb)⟩)
    have hk:=aT.trans (fun _ h=>h) a6 b2
    refine⟨_,r.step a7 (fun q hq=>by rw[show(σ1.dd n (.box (xs.map .c))).used=σ1.used from rfl,a8];exact hq) hk ?_ r.fr,a7⟩
    show HR B E w _ _ σ1.used []
    rw[a8]
    exact b1
   ·cases hx
  ·cases hx
 ·cases hx
theorem abH (r:R B E w0 N σ a w G) {t:TypeId} {x:Operand} {m:MO} {ag:Bool} {sz:Nat} {p:ai} {cs:List ai} (ho:o.op=.load t x) (hN:∀n,o.dst=some n->n<N)
  (hm:bw x m=true) (dt:oW P t ag sz=true) (hp:σ.ev m=.one p) (hf:σ.pf p=some σ') (hx:Am.loadAt σ'.h p sz=some cs):
  o.wp P a w (Nx B E w0 N (σ'.put o.dst (kI ag cs))) Q:=by
 obtain⟨G',r',e⟩:=r.pf hf
 refine Un r' ho hN hm dt (p:=p) ?_ hx
 cases m with
 |t n=>simp only[St.ev] at hp⊢;rw[e];exact hp
 |k v=>exact hp
end
end Go.Am
