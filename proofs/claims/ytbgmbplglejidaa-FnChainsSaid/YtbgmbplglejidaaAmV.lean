/- AmV: functions whose results may share, and that may change the cells of one pointer: what is said of them, and the caller's side of a call. No condition. -/
import Derived.Test.YtbgmbplglejidaaAmU
set_option linter.unusedVariables false
namespace Go.Am
structure LH (w:World) (ds:List Dv) (vals:List Value) (pas:List PA):Prop where
 l1:vals.length=ds.length
 l2:pas.length=ds.length
 at_:∀(i:Nat) (d:Dv) (v:Value) (p:PA),ds[i]? =some d->vals[i]? =some v->pas[i]? =some p->zz w d v p
 ie:∀p∈pas,p.k=.ptr->dD w p.b/\∀q∈pas,∀pc∈q.ps,¬aS p.b pc
 one:∀(i j:Nat) (p q:PA),pas[i]? =some p->pas[j]? =some q->p.k=.ptr->q.k=.ptr->i=j
def z9 (w:World) (pas:List PA) (b:Nat):Prop:=w.heap.size<=b\/∃q∈pas,∃pc∈q.ps,aS b pc
def Xw (pas:List PA):Ex:=⟨fun b=>∃p∈pas,p.k=.ptr/\b=p.b,fun _=>none,fun _ _ h=>(by cases h),fun _=>True⟩
def za (p:PA):Value:=
 match p.k with
 |.one=>match p.ps with
  |[pc]=>pc.val
  |_=>.agg (p.ps.map PC.val).toArray
 |.agg=>.agg (p.ps.map PC.val).toArray
 |.ptr=>.pointer (some (ad p.b p.o))
def zb:List PA->Value
 |[p]=>za p
 |l=>.tuple (l.map za).toArray
def F7 (w:World) (b o:Nat) (ps:List PC):Prop:=∀(j:Nat) (c:PC),ps[j]? =some c->w.cell? (ad b (o+j))=some c.val
structure LG (w w':World) (pas aT:List PA) (qs:List PC):Prop where
 one:∀p∈aT,p.k=.one->p.ps.length=1
 ptr:∀p∈aT,p.k=.ptr->aT.length=1/\w.heap.size<=p.b/\dD w' p.b/\F7 w' p.b p.o p.ps/\(∀pc∈p.ps,¬aS p.b pc)/\∀pc∈qs,¬aS p.b pc
 eu:∀p∈aT,∀pc∈p.ps,Good w' pc/\∀b,aS b pc->z9 w pas b
 fr:Fr w.heap.size (Xw pas) w w'
 out:∀pc∈qs,Good w' pc/\∀b,aS b pc->z9 w pas b
 at_:∀p∈pas,p.k=.ptr->F7 w' p.b p.o qs
def jM (P:Program) (f:FuncId) (M:List Dv->Option (List Dv×List C)):Prop:=
 ∀ds rs out,M ds=some (rs,out)->∀(w:World) (vals:List Value) (pas:List PA),LH w ds vals pas->Calls P f vals.toArray w fun e w'=>
  ∃(aT:List PA) (qs:List PC),aT.map (fun p=>(p.k,p.ps.map PC.er))=rs/\e=.returned (zb aT)/\qs.map PC.er=out/\LG w w' pas aT qs
def z8 (P:Program) (T:aO):Prop:=∀f M,aO.j8 T.vs f=some M->jM P f M
section
variable {B:Nat} {E:Ex} {w0 w w':World} {G G':Gh} {N:Nat} {h h':Nat->Option ao} {used used':Nat->Bool} {tk:List PC}
variable {P:Program} {o:Oper} {a:Act} {σ σ':St} {Q:Exit->Act->World->Prop}
theorem HR.n5 {c:ah} {x:C} {v:Value} (hx:Am.n5 c=some x) (hc:RC w G h c v):∃pc:PC,pc.er=x/\pc.val=v/\Good w pc/\∀b,aS b pc->G.Im b:=by
 cases c with
 |c y=>
  simp only[Am.n5] at hx
  injection hx with hx
  subst hx
  exact hc
 |nil sz=>
  simp only[Am.n5] at hx
  split at hx
  ·rename_i dL
   injection hx with hx
   subst hx
   have cv:v=.slice none 0 0:=hc
   subst cv
   refine⟨.list sz none 0 [],by simp[PC.dJ],rfl,.nil _ _ _ dL,fun b hb=>?_⟩
   rw[aS.kq] at hb
   rcases hb with⟨hb,_⟩|⟨k,j,c,⟨e,he,_⟩,_⟩
   ·exact absurd rfl hb
   ·simp at he
  ·cases hx
 |_=>simp[Am.n5] at hx
theorem HR.jB:∀{cs:List ah} {xs:List C} {vs:List Value},Am.jB cs=some xs->cN w G h cs vs->∃ps:List PC,ps.map PC.er=xs/\ps.map PC.val=vs/\∀pc∈ps,Good w pc/\∀b,aS b pc->G.Im b
 |[],xs,vs,hx,hc=>by
  simp only[Am.jB] at hx
  injection hx with hx
  subst hx
  have:vs=[]:=List.eq_nil_of_length_eq_zero (by simpa using hc.1)
  subst this
  exact⟨[],rfl,rfl,by simp⟩
 |c::cs,xs,vs,hx,hc=>by
  simp only[Am.jB] at hx
  split at hx
  ·rename_i x aq e1 e2
   injection hx with hx
   subst hx
   match vs,hc.1 with
   |v::vs,hl=>
    obtain⟨pc,a1,a2,a3,a4⟩:=HR.n5 e1 (hc.2 0 c v rfl rfl).2
    obtain⟨ps,b1,b2,b3⟩:=HR.jB (vs:=vs) e2 ⟨by simpa using hl,fun j c u h1 h2=>hc.2 (j+1) c u h1 h2⟩
    refine⟨pc::ps,by simp[a1,b1],by simp[a2,b2],fun q hq=>?_⟩
    cases hq with
    |head=>exact⟨a3,a4⟩
    |tail _ hq=>exact b3 q hq
  ·cases hx
theorem HR.Hx (H:HR B E w G h used tk) {n:Nat} {cs:List ah} (hn:h n=some (.box cs)):∃vs:List Value,cN w G h cs vs/\∀(j:Nat) (v:Value),vs[j]? =some v->w.cell? (ad (G.g n).b ((G.g n).o+j))=some v:=by
 obtain⟨_,_,a3⟩:=H.box n cs hn
 have hj:∀j:Fin cs.length,∃v,w.cell? (ad (G.g n).b ((G.g n).o+j.1))=some v/\v.oneCell'=true/\RC w G h cs[j.1] v:=fun j=>a3 j.1 _ (List.getElem?_eq_getElem j.2)
 refine⟨List.ofFn fun j=>Classical.choose (hj j),⟨by simp,fun j c u hc hu=>?_⟩,fun j v hv=>?_⟩
 ·obtain⟨hl,e⟩:=List.getElem?_eq_some_iff.1 hc
  rw[List.getElem?_ofFn,dif_pos hl] at hu
  injection hu with hu
  subst hu e
  exact(Classical.choose_spec (hj ⟨j,hl⟩)).2
 ·by_cases hl:j<cs.length
  ·rw[List.getElem?_ofFn,dif_pos hl] at hv
   injection hv with hv
   subst hv
   exact(Classical.choose_spec (hj ⟨j,hl⟩)).1
  ·rw[List.getElem?_eq_none (by simp;omega)] at hv;cases hv
theorem apg {σ1:St} {c:ah} {x:C} {o:Bool} (hx:σ.fS c=some (x,o,σ1)) {n:Nat} {cs:List ah} (hn:σ.h n=some (.box cs)):σ1.h n=some (.box cs):=by
 cases c with
 |c y=>simp only[St.fS] at hx;injection hx with hx;injection hx with _ hx;injection hx with _ hx;subst hx;exact hn
 |nil sz=>
  simp only[St.fS] at hx
  split at hx
  ·injection hx with hx;injection hx with _ hx;injection hx with _ hx;subst hx;exact hn
  ·cases hx
 |sl q sz lo len=>
  simp only[St.fS] at hx
  split at hx
  ·rename_i gr m rs xs hq
   split at hx
   ·injection hx with hx;injection hx with _ hx;injection hx with _ hx;subst hx
    have aB:n≠q:=by rintro rfl;rw[hq] at hn;cases hn
    show au σ.h q none n=_
    rw[cq _ _ _ _ aB];exact hn
   ·cases hx
  ·cases hx
 |_=>simp[St.fS] at hx
theorem Vc:∀{l:List ah} {σ σ1:St} {xs:List C} {o:Bool},σ.ft l=some (xs,o,σ1)->∀{n:Nat} {cs:List ah},σ.h n=some (.box cs)->σ1.h n=some (.box cs)
 |[],σ,σ1,xs,o,hx,n,cs,hn=>by simp only[St.ft] at hx;injection hx with hx;injection hx with _ hx;injection hx with _ hx;subst hx;exact hn
 |c::l,σ,σ2,xs,o,hx,n,cs,hn=>by
  simp only[St.ft] at hx
  split at hx
  ·rename_i x o1 σ1 e1
   split at hx
   ·rename_i aq o2 Vx e2
    injection hx with hx;injection hx with _ hx;injection hx with _ hx;subst hx
    exact Vc e2 (apg e1 hn)
   ·cases hx
  ·cases hx
theorem LR:∀{as:List aj} {σ σ1:St} {ds:List Dv} {ns:List Nat},σ.gK as=some (ds,ns,σ1)->∀{n:Nat} {cs:List ah},σ.h n=some (.box cs)->σ1.h n=some (.box cs)
 |[],σ,σ1,ds,ns,hx,n,cs,hn=>by simp only[St.gK] at hx;injection hx with hx;injection hx with _ hx;injection hx with _ hx;subst hx;exact hn
 |v::as,σ,σ2,ds,ns,hx,n,cs,hn=>by
  simp only[St.gK] at hx
  split at hx
  ·split at hx
   ·rename_i e
    injection hx with hx;injection hx with _ hx;injection hx with _ hx;subst hx
    exact LR e hn
   ·cases hx
  ·split at hx
   ·split at hx
    ·rename_i e1
     split at hx
     ·rename_i e2
      injection hx with hx;injection hx with _ hx;injection hx with _ hx;subst hx
      exact LR e2 (Vc e1 hn)
     ·cases hx
    ·cases hx
   ·cases hx
def ly (pas:List PA):List PA:=pas.filter fun p=>decide (p.k=.ptr)
def Vz (G:Gh) (h:Nat->Option ao) (p:PA) (n:Nat):Prop:=∃cs,h n=some (.box cs)/\p.b=(G.g n).b/\p.o=(G.g n).o/\p.ps.length=cs.length
theorem LV {v:aj} {n:Nat} {xs:List C} (hx:lr h v=some (n,xs)):∃sz cs,v=.one (.ptr n 0 sz 0)/\h n=some (.box cs)/\jB cs=some xs:=by
 unfold lr at hx
 split at hx
 ·rename_i q k sz off
  split at hx
  ·rename_i hc
   obtain⟨rfl,rfl⟩:=hc
   split at hx
   ·rename_i cs hq
    split at hx
    ·rename_i ys e
     injection hx with hx
     injection hx with h1 h2
     subst h1 h2
     exact⟨sz,cs,rfl,hq,e⟩
    ·cases hx
   ·cases hx
  ·cases hx
 ·cases hx
theorem HR.gK:∀{as:List aj} {vals:List Value} {σ σ1:St} {G:Gh} {ds:List Dv} {ns:List Nat},HR B E w G σ.h σ.used []->σ.gK as=some (ds,ns,σ1)->vals.length=as.length->
  (∀(j:Nat) (x:aj) (v:Value),as[j]? =some x->vals[j]? =some v->RA w G σ.h x v)->(∀x∈as,∀m,x.ref m->σ.used m=true)->
  ∃(Im':Nat->Prop) (pas:List PA),pas.length=ds.length/\vals.length=ds.length/\(∀(i:Nat) (d:Dv) (v:Value) (p:PA),ds[i]? =some d->vals[i]? =some v->pas[i]? =some p->zz w d v p)/\
   (∀p∈pas,∀pc∈p.ps,∀b,aS b pc->Im' b)/\(ly pas).length=ns.length/\(∀(i:Nat) (p:PA) (n:Nat),(ly pas)[i]? =some p->ns[i]? =some n->Vz G σ1.h p n)/\
   HR B E w ⟨Im',G.g⟩ σ1.h σ1.used []/\bc w G σ.h (fun n=>σ.used n=true) w ⟨Im',G.g⟩ σ1.h/\σ1.env=σ.env/\σ1.used=σ.used
 |[],vals,σ,σ1,G,ds,ns,H,hx,hl,hc,hr=>by
  simp only[St.gK] at hx
  injection hx with hx
  injection hx with h1 h2
  injection h2 with h2 h3
  subst h1 h2 h3
  exact⟨G.Im,[],rfl,by simpa using hl,by simp,by simp,rfl,by simp[ly],H,bc.refl _ _ _ _,rfl,rfl⟩
 |x::as,vals,σ,σ2,G,ds,ns,H,hx,hl,hc,hr=>by
  match vals,hl with
  |v::vals,hl=>
   simp only[St.gK] at hx
   split at hx
   ·rename_i n xs hp
    split at hx
    ·rename_i tK jW σ1 e
     injection hx with hx
     injection hx with h1 h2
     injection h2 with h2 h3
     subst h1 h2 h3
     obtain⟨sz,cs,rfl,hn,qe⟩:=LV hp
     obtain⟨nl,un,_⟩:=H.box n cs hn
     obtain⟨vs,v1,v2⟩:=H.Hx hn
     obtain⟨ps,p1,p2,p3⟩:=HR.jB qe v1
     have hv:v=.pointer (some (ad (G.g n).b (G.g n).o)):=by
      have h0:=hc 0 _ v rfl rfl
      rcases h0 with h0|h0
      ·cases h0
      ·have h1:RC w G σ.h (.ptr n 0 sz 0) v:=(h0.2 0 _ v rfl rfl).2
       simpa using(h1 (by rw[hn];simp)).2
     obtain⟨Im',pas,b1,b2,b3,b4,b5,b6,b7,b8,b9,vC⟩:=HR.gK (as:=as) (vals:=vals) H e (by simpa using hl) (fun j x v h1 h2=>hc (j+1) x v h1 h2) (fun x hx=>hr x (by simp[hx]))
     have hk:(Am.K.ptr=Am.K.ptr)=True:=by simp
     refine⟨Im',⟨.ptr,ps,(G.g n).b,(G.g n).o⟩::pas,by simp[b1],by simp[b2],fun i d u p hd hu f8=>?_,fun p f8 pc aZ b hb=>?_,by simp[ly];exact b5,fun i p m hi hm=>?_,b7,b8,b9,vC⟩
     ·cases i with
      |zero=>
       simp at hd hu f8
       subst hd hu f8
       refine⟨by rw[p1],fun pc aZ=>(p3 pc aZ).1,hv,un.lt,fun j c hj=>v2 j _ ?_⟩
       rw[<-p2,List.getElem?_map,hj];rfl
      |succ i=>exact b3 i d u p (by simpa using hd) (by simpa using hu) (by simpa using f8)
     ·cases f8 with
      |head=>exact b8.im b ((p3 pc aZ).2 b hb)
      |tail _ f8=>exact b4 p f8 pc aZ b hb
     ·cases i with
      |zero=>
       simp[ly] at hi hm
       subst hi hm
       refine⟨cs,LR e hn,rfl,rfl,?_⟩
       have h1:ps.length=vs.length:=by rw[<-p2];simp
       exact h1.trans v1.1
      |succ i=>exact b6 i p m (by simpa[ly] using hi) (by simpa using hm)
    ·cases hx
   ·split at hx
    ·rename_i ag cs ez
     split at hx
     ·rename_i xs o σ1 e1
      split at hx
      ·rename_i tK jW Vx e2
       injection hx with hx
       injection hx with h1 h2
       injection h2 with h2 h3
       subst h1 h2 h3
       have h0:=hc 0 x v rfl rfl
       have dM:∃vs:List Value,(if ag=true then v=.agg vs.toArray else vs=[v])/\cN w G σ.h cs vs:=by
        cases x with
        |one c=>
         have IF:ag=false/\cs=[c]:=by cases c<;>simp[aj.cells?] at ez<;>exact⟨ez.1,ez.2.symm⟩
         obtain⟨rfl,rfl⟩:=IF
         rcases h0 with h0|h0
         ·subst h0;simp[aj.cells?] at ez
         ·exact⟨[v],rfl,h0⟩
        |agg cs'=>
         simp[aj.cells?] at ez
         obtain⟨rfl,rfl⟩:=ez
         obtain⟨vs,e,h1⟩:∃vs:List Value,v=.agg vs.toArray/\cN w G σ.h cs' vs:=h0
         exact⟨vs,e,h1⟩
        |bn xs=>simp[aj.cells?] at ez
       obtain⟨vs,iJ,bL⟩:=dM
       obtain⟨xy,bu,a1,a2,a3,a5,a6,a7,a8,a9⟩:=H.ft e1 bL (fun c' cv m hm=>hr x (by simp) m (aj.xJ ez cv hm))
       have vt:HR B E w ⟨xy,G.g⟩ σ1.h σ.used []:=by
        cases o with
        |true=>exact HR.xg (tk:=[]) (l:=bu) (by simpa using a5)
        |false=>simpa using a5
       rw[<-a8] at vt
       obtain⟨CH,pas,b1,b2,b3,b4,b5,b6,b7,b8,b9,vC⟩:=HR.gK (as:=as) (vals:=vals) (G:=⟨xy,G.g⟩) vt e2 (by simpa using hl)
        (fun j x v h1 h2=>(hc (j+1) x v h1 h2).fe a6 (fun m hm=>hr x (by simp[List.mem_of_getElem? h1]) m hm)) (fun x' fM m hm=>by rw[a8];exact hr x' (by simp[fM]) m hm)
       refine⟨CH,⟨if ag=true then .agg else .one,bu,0,0⟩::pas,by simp[b1],by simp[b2],fun i d u p hd hu f8=>?_,fun p f8 pc aZ b hb=>?_,?_,fun i p m hi hm=>?_,b7,
        bc.trans (fun n hn=>by rw[a8];exact hn) a6 b8,b9.trans a7,vC.trans a8⟩
       ·cases i with
        |zero=>
         simp at hd hu f8
         subst hd hu f8
         cases ag with
         |true=>exact⟨by simp[a1],fun pc aZ=>(a3 pc aZ).1,by simp only[if_true] at iJ⊢;rw[a2];exact iJ⟩
         |false=>exact⟨by simp[a1],fun pc aZ=>(a3 pc aZ).1,by simp only[Bool.false_eq_true,if_false] at iJ⊢;rw[a2];exact iJ⟩
        |succ i=>exact b3 i d u p (by simpa using hd) (by simpa using hu) (by simpa using f8)
       ·cases f8 with
        |head=>exact b8.im b ((a3 pc aZ).2 b hb)
        |tail _ f8=>exact b4 p f8 pc aZ b hb
       ·cases ag<;>simp[ly]<;>exact b5
       ·refine b6 i p m ?_ hm
        cases ag<;>simpa[ly] using hi
      ·cases hx
     ·cases hx
    ·cases hx
theorem HR.Wn (H:HR B E w G h used []) {n:Nat} {cs cs':List ah} (hn:h n=some (.box cs)) (bD:w.heap.size<=w'.heap.size) (hw:∀b,b<w.heap.size->b≠(G.g n).b->w'.heap[b]? =w.heap[b]?)
  (lE:∀b,b<w.heap.size->Cz w w' b) {S:Nat->Prop} (hS:∀b,S b->w.heap.size<=b/\b<w'.heap.size/\B<=b) {ps:List PC} (fV:cs'=ps.map fun pc=>ah.c pc.er)
  (bQ:∀(j:Nat) (c:PC),ps[j]? =some c->w'.cell? (ad (G.g n).b ((G.g n).o+j))=some c.val) (gO:∀pc∈ps,Good w' pc/\∀b,aS b pc->G.Im b\/S b):
  HR B E w' ⟨fun b=>G.Im b\/S b,G.g⟩ (au h n (some (.box cs'))) used []/\bc w G h (fun n=>used n=true) w' ⟨fun b=>G.Im b\/S b,G.g⟩ (au h n (some (.box cs'))):=by
 subst fV
 have bM:h n≠none:=by rw[hn];simp
 obtain⟨aL,sO,gW⟩:=H.box n cs hn
 obtain⟨ry,qf,rz⟩:=H.own n bM aL
 have wi:=H.iG n bM
 have kp:∀HT:List ah,bc w G h (fun n=>used n=true) w' G (au h n (some (.box HT))):=by
  intro HT
  refine⟨fun _ h=>h,fun b hb x=>iF (hw b (H.fW b hb) (fun he=>ry (he▸hb))) x,fun m hm h0=>?_,fun m gr sz xs hm h0=>?_⟩
  ·by_cases bE:m=n
   ·subst bE;exact⟨bM,rfl,rfl,rfl,rfl,rfl⟩
   ·rw[cq _ _ _ _ bE] at h0;exact⟨h0,rfl,rfl,rfl,rfl,rfl⟩
  ·by_cases bE:m=n
   ·subst bE;rw[bF] at h0;cases h0
   ·rw[cq _ _ _ _ bE] at h0;exact⟨⟨gr,xs,h0⟩,fun k j pc h1 h2=>⟨pc,h1,rfl,h2⟩⟩
 have hG:(⟨G.Im,au G.g n (G.g n)⟩:Gh)=G:=by rw[Ft]
 have H1:HR B E w' ⟨G.Im,au G.g n (G.g n)⟩ (au h n (some (.box []))) used []:=by
  refine H.put (fun b hb aB=>hw b hb (aB aL)) bD (fun b hb hU=>(lE b hb).ie hU) (fun _ h=>h) wi (fun _=>⟨ry,qf,Nat.lt_of_lt_of_le rz bD⟩)
   (fun _ m hm h0 kF=>(H.inj m n h0 bM hm kF aL)) (fun _ m gr sz xs hm h0 b hb=>H.live m gr sz xs h0 b hb n bM aL) ?_ (by rw[hG];exact kp []) ?_
   (fun gr m sz xs hb=>by cases hb) (fun gr sz xs hb=>by cases hb) (fun gr m sz xs hb=>by cases hb) ?_
  ·intro HT c m hb hc hm
   injection hb with hb
   subst hb
   cases hc
  ·exact⟨aL,(lE _ rz).ie sO,fun j c hj=>by simp at hj⟩
  ·intro _ _ b hb
   obtain⟨m,gr,mo,sz,xs,hm,h0,cF⟩:=hb
   exact H.sC bM aL h0 cF
 rw[hG] at H1
 have OM:∀m,au h n (some (ao.box [])) m≠none->h m≠none:=fun m hm=>by
  by_cases bE:m=n
  ·subst bE;exact bM
  ·rwa[cq _ _ _ _ bE] at hm
 have H2:HR B E w' ⟨fun b=>G.Im b\/S b,G.g⟩ (au h n (some (.box []))) used []:=H1.qp S (fun b hb=>(hS b hb).2.1) (fun b hb q hq hl he=>by have:=(hS b hb).1;have:=(H.own q (OM q hq) hl).2.2;omega)
  (fun b hb q gr sz xs hq hF=>by
   by_cases fD:q=n
   ·subst fD;rw[bF] at hq;cases hq
   ·rw[cq _ _ _ _ fD] at hq
    have:=(hS b hb).1;have:=H.qI hq hF;omega) (fun b hb=>.inl (hS b hb).2.2)
 have hn2:au h n (some (ao.box [])) n=some (.box []):=bF _ _ _
 have DV:au h n (some (ao.box [])) n≠none:=by rw[hn2];simp
 have Zi:au (au h n (some (ao.box []))) n (some (.box (ps.map fun pc=>ah.c pc.er)))=au h n (some (.box (ps.map fun pc=>ah.c pc.er))):=by
  funext m;simp only[iP];split<;>rfl
 have Yp:(⟨fun b=>G.Im b\/S b,au G.g n (G.g n)⟩:Gh)=⟨fun b=>G.Im b\/S b,G.g⟩:=by rw[Ft]
 have K2:bc w' ⟨fun b=>G.Im b\/S b,G.g⟩ (au h n (some (ao.box []))) (fun n=>used n=true) w' ⟨fun b=>G.Im b\/S b,G.g⟩ (au h n (some (.box (ps.map fun pc=>ah.c pc.er)))):=by
  refine⟨fun _ h=>h,fun _ _ _=>rfl,fun m hm h0=>?_,fun m gr sz xs hm h0=>?_⟩
  ·refine⟨?_,rfl,rfl,rfl,rfl,rfl⟩
   by_cases bE:m=n
   ·subst bE;exact DV
   ·rw[cq _ _ _ _ bE] at h0⊢;exact h0
  ·by_cases bE:m=n
   ·subst bE;rw[bF] at h0;cases h0
   ·rw[cq _ _ _ _ bE] at h0;exact⟨⟨gr,xs,by rw[cq _ _ _ _ bE];exact h0⟩,fun k j pc h1 h2=>⟨pc,h1,rfl,h2⟩⟩
 have H3:HR B E w' ⟨fun b=>G.Im b\/S b,au G.g n (G.g n)⟩ (au (au h n (some (ao.box []))) n (some (.box (ps.map fun pc=>ah.c pc.er)))) used []:=by
  refine H2.put (w':=w') (fun _ _ _=>rfl) (Nat.le_refl _) (fun _ _ hU=>hU) (fun _ h=>h) wi (fun _=>⟨fun hi=>(H2.own n DV aL).1 hi,qf,Nat.lt_of_lt_of_le rz bD⟩)
   (fun _ m hm h0 kF=>H2.inj m n h0 DV hm kF aL) (fun _ m gr sz xs hm h0 b hb=>H2.live m gr sz xs h0 b hb n DV aL) ?_ (by rw[Yp,Zi];exact K2) ?_
   (fun gr m sz xs hb=>by cases hb) (fun gr sz xs hb=>by cases hb) (fun gr m sz xs hb=>by cases hb) ?_
  ·intro HT c m hb hc hm
   injection hb with hb
   subst hb
   obtain⟨pc,_,rfl⟩:=List.mem_map.1 hc
   exact absurd hm id
  ·refine⟨aL,(lE _ rz).ie sO,fun j c hj=>?_⟩
   rw[List.getElem?_map] at hj
   cases hp:ps[j]? with
   |none=>rw[hp] at hj;cases hj
   |some pc=>
    rw[hp] at hj
    simp at hj
    subst hj
    obtain⟨g1,g2⟩:=gO pc (List.mem_of_getElem? hp)
    exact⟨pc.val,bQ j pc hp,PC.kw pc,pc,rfl,rfl,g1,g2⟩
  ·intro _ _ b hb
   obtain⟨m,gr,mo,sz,xs,hm,h0,cF⟩:=hb
   exact H2.sC DV aL h0 cF
 rw[Yp,Zi] at H3
 have K1:bc w G h (fun n=>used n=true) w' ⟨fun b=>G.Im b\/S b,G.g⟩ (au h n (some (ao.box []))):=bc.trans (fun _ h=>h) (kp []) (bc.qp S _)
 exact⟨H3,bc.trans (fun _ h=>h) K1 K2⟩
theorem Rn {σ1:St} {ns:List Nat} {out:List C} (hx:σ.qB ns out=some σ1):(ns=[]/\out=[]/\σ1=σ)\/∃n cs,ns=[n]/\σ.h n=some (.box cs)/\cs.length=out.length/\σ1=σ.dn n (.box (out.map .c)):=by
 unfold St.qB at hx
 split at hx
 ·injection hx with hx;exact .inl ⟨rfl,rfl,hx.symm⟩
 ·rename_i n
  split at hx
  ·rename_i cs hn
   split at hx
   ·rename_i hl
    injection hx with hx
    exact .inr ⟨n,cs,rfl,hn,hl,hx.symm⟩
   ·cases hx
  ·cases hx
 ·cases hx
theorem W4 {pas:List PA} {p:PA} (hp:p∈pas) (hk:p.k=.ptr):p∈ly pas:=List.mem_filter.2 ⟨hp,by simp[hk]⟩
theorem W5:∀{pas:List PA},(ly pas).length<=1->∀{i j:Nat} {p q:PA},pas[i]? =some p->pas[j]? =some q->p.k=.ptr->q.k=.ptr->i=j
 |[],_,i,_,_,_,hi,_,_,_=>by simp at hi
 |x::pas,hl,i,j,p,q,hi,hj,hp,hq=>by
  by_cases hx:x.k=.ptr
  ·have hz:(ly pas).length=0:=by
    simp[ly,hx] at hl⊢
    exact hl
   have ca:∀y∈pas,y.k≠ .ptr:=fun y hy hk=>by
    have:=W4 hy hk
    rw[List.length_eq_zero_iff.1 hz] at this
    cases this
   cases i with
   |zero=>
    cases j with
    |zero=>rfl
    |succ j=>exact absurd hq (ca q (List.mem_of_getElem? (by simpa using hj)))
   |succ i=>exact absurd hp (ca p (List.mem_of_getElem? (by simpa using hi)))
  ·have dw:(ly pas).length<=1:=by simpa[ly,hx] using hl
   cases i with
   |zero=>simp at hi;subst hi;exact absurd hp hx
   |succ i=>
    cases j with
    |zero=>simp at hj;subst hj;exact absurd hq hx
    |succ j=>exact congrArg (·+1) (W5 dw (by simpa using hi) (by simpa using hj) hp hq)
theorem Ms:∀{aT:List PA} {ls:List (Bool×List ah)},gx (aT.map fun p=>(p.k,p.ps.map PC.er))=some ls->ls=aT.map (fun p=>(decide (p.k=.agg),p.ps.map fun pc=>ah.c pc.er))/\∀p∈aT,p.k≠ .ptr
 |[],ls,h=>by simp only[List.map_nil,gx] at h;injection h with h;exact⟨h.symm,by simp⟩
 |⟨k,ps,b,o⟩::aT,ls,h=>by
  cases k with
  |ptr=>simp[gx] at h
  |one=>
   simp only[List.map_cons,gx] at h
   split at h
   ·rename_i yR e
    injection h with h
    obtain⟨e1,e2⟩:=Ms e
    refine⟨by rw[<-h,e1,List.map_map];rfl,fun p hp=>?_⟩
    cases hp with
    |head=>simp
    |tail _ hp=>exact e2 p hp
   ·cases h
  |agg=>
   simp only[List.map_cons,gx] at h
   split at h
   ·rename_i yR e
    injection h with h
    obtain⟨e1,e2⟩:=Ms e
    refine⟨by rw[<-h,e1,List.map_map];rfl,fun p hp=>?_⟩
    cases hp with
    |head=>simp
    |tail _ hp=>exact e2 p hp
   ·cases h
theorem anh {ls:List (Bool×List ah)} {aT:List PA} (hlen:ls.length=aT.length)
  (hv:∀(j:Nat) (x:Bool×List ah) (p:PA),ls[j]? =some x->aT[j]? =some p->RV w G h x.1 x.2 (za p)):RA w G h (kQ ls) (zb aT):=by
 match ls,aT,hlen with
 |[],[],_=>exact⟨[],rfl,rfl,by simp⟩
 |[(ag,cs)],[p],_=>
  have h0:=hv 0 (ag,cs) p rfl rfl
  cases ag with
  |true=>exact h0
  |false=>
   have bL:cN w G h cs [za p]:=h0
   match cs,bL.1 with
   |[c],_=>exact .inr h0
 |x::y::ls,p::q::aT,hl=>
  refine⟨(p::q::aT).map za,rfl,by simpa using hl.symm,fun j x' u hj hu=>?_⟩
  rw[List.getElem?_map] at hu
  cases hp:(p::q::aT)[j]? with
  |none=>rw[hp] at hu;cases hu
  |some p'=>rw[hp] at hu;simp at hu;subst hu;exact hv j x' p' hj hp
theorem ae7 (r:R B E w0 N σ a w G) {T:aO} (hT:z8 P T) {f:FuncId} {as:List aj} {vals:List Value} {σ1:St} (hN:∀n,o.dst=some n->n<N)
  (bU:(execOp a.eval o).run P w=.ok (.enter f vals.toArray) w) (hl:vals.length=as.length)
  (tY:∀(j:Nat) (x:aj) (v:Value),as[j]? =some x->vals[j]? =some v->RA w G σ.h x v) (ON:∀x∈as,∀m,x.ref m->σ.used m=true)
  (hx:pU T o.dst f as σ=some σ1):o.wp P a w (Nx B E w0 N σ1) Q:=by
 unfold pU at hx
 split at hx
 ·rename_i ds ns oA M hba hM
  split at hx
  ·rename_i rs out oN
   split at hx
   ·rename_i mY qg
    obtain⟨Im',pas,b1,b2,b3,b4,b5,b6,b7,b8,b9,vC⟩:=r.hr.gK hba hl tY ON
    have hns:ns.length<=1:=by
     rcases Rn qg with⟨h1,_⟩|⟨n,cs,h1,_⟩<;>rw[h1]<;>simp
    have lD:∀p∈pas,p.k=.ptr->∃n,ns=[n]/\Vz G oA.h p n:=by
     intro p hp hk
     obtain⟨i,hi⟩:=List.getElem?_of_mem (W4 hp hk)
     have bG:i<ns.length:=by rw[<-b5];exact(List.getElem?_eq_some_iff.1 hi).1
     have hn:ns[i]? =some ns[i]:=List.getElem?_eq_getElem bG
     have h0:i=0:=by omega
     subst h0
     refine⟨_,?_,b6 0 p _ hi hn⟩
     match ns,bG,hns with
     |[n],_,_=>rfl
    have va:LH w ds vals pas:=by
     refine⟨b2,b1,b3,fun p hp hk=>?_,fun i j p q hi hj hp hq=>W5 (by omega) hi hj hp hq⟩
     obtain⟨n,_,cs,hn,e1,e2,e3⟩:=lD p hp hk
     obtain⟨nl,un,_⟩:=b7.box n cs hn
     have ho:=b7.own n (by rw[hn];simp) nl
     rw[e1]
     exact⟨un,fun q hq pc aZ hb=>ho.1 (b4 q hq pc aZ _ hb)⟩
    unfold Oper.wp
    rw[bU]
    refine(hT f M hM ds rs out oN w vals pas va).mono fun e w' ⟨aT,qs,p1,p2,p3,p4⟩=>?_
    subst p2
    have Zk:∀b,z9 w pas b->Im' b\/w.heap.size<=b:=fun b hb=>by
     rcases hb with hb|⟨q,hq,pc,aZ,hb⟩
     ·exact .inr hb
     ·exact .inl (b4 q hq pc aZ b hb)
    let S:Nat->Prop:=fun b=>w.heap.size<=b/\((∃p∈aT,∃pc∈p.ps,aS b pc)\/∃pc∈qs,aS b pc)
    have hB:=r.fr.size
    have hS:∀b,S b->w.heap.size<=b/\b<w'.heap.size/\B<=b:=fun b ⟨h1,h2⟩=>by
     refine⟨h1,?_,Nat.le_trans hB h1⟩
     rcases h2 with⟨p,hp,pc,aZ,hb⟩|⟨pc,aZ,hb⟩
     ·exact(p4.eu p hp pc aZ).1.lt hb
     ·exact(p4.out pc aZ).1.lt hb
    have Yn:∀p∈aT,∀pc∈p.ps,Good w' pc/\∀b,aS b pc->Im' b\/S b:=fun p hp pc aZ=>by
     obtain⟨g1,g2⟩:=p4.eu p hp pc aZ
     exact⟨g1,fun b hb=>(Zk b (g2 b hb)).imp id fun h1=>⟨h1,.inl ⟨p,hp,pc,aZ,hb⟩⟩⟩
    have agW:∀pc∈qs,Good w' pc/\∀b,aS b pc->Im' b\/S b:=fun pc aZ=>by
     obtain⟨g1,g2⟩:=p4.out pc aZ
     exact⟨g1,fun b hb=>(Zk b (g2 b hb)).imp id fun h1=>⟨h1,.inr ⟨pc,aZ,hb⟩⟩⟩
    have aoX:HR B E w' ⟨fun b=>Im' b\/S b,G.g⟩ mY.h mY.used []/\bc w ⟨Im',G.g⟩ oA.h (fun n=>oA.used n=true) w' ⟨fun b=>Im' b\/S b,G.g⟩ mY.h/\mY.env=oA.env/\mY.used=oA.used/\Fr B E w0 w':=by
     rcases Rn qg with⟨h1,h2,h3⟩|⟨n,cs,h1,h2,h3,h4⟩
     ·subst h3
      have ca:∀p∈pas,p.k≠ .ptr:=fun p hp hk=>by
       obtain⟨n,e,_⟩:=lD p hp hk
       rw[h1] at e;cases e
      have gV:∀b,b<w.heap.size->w'.heap[b]? =w.heap[b]? :=fun b hb=>p4.fr.block b hb (fun⟨p,hp,hk,_⟩=>ca p hp hk)
      have Hg:=b7.grow gV p4.fr.size
      refine⟨Hg.qp S (fun b hb=>(hS b hb).2.1) (fun b hb q hq hl he=>by have:=(hS b hb).1;have:=(b7.own q hq hl).2.2;omega)
       (fun b hb q gr sz xs hq hF=>by have:=(hS b hb).1;have:=b7.qI hq hF;omega) (fun b hb=>.inl (hS b hb).2.2),
       bc.trans (fun _ h=>h) (bc.world (fun b hb=>gV b (b7.fW b hb)) _) (bc.qp S _),rfl,rfl,r.fr.grow gV p4.fr.size p4.fr.os p4.fr.tape p4.fr.output⟩
     ·subst h4
      obtain⟨p,hp,hk⟩:∃p∈pas,p.k=.ptr:=by
       have hlen:(ly pas).length=1:=by rw[b5,h1];rfl
       match hc:ly pas,hlen with
       |[p],_=>
        have hm:p∈ly pas:=by rw[hc];simp
        have:=List.mem_filter.1 hm
        exact⟨p,this.1,by simpa using this.2⟩
      obtain⟨n',e0,cs',bj,e1,e2,e3⟩:=lD p hp hk
      rw[h1] at e0
      injection e0 with e0
      subst e0
      have I1:∀q∈pas,q.k=.ptr->q=p:=fun q hq Oq=>by
       obtain⟨i,hi⟩:=List.getElem?_of_mem hq
       obtain⟨j,hj⟩:=List.getElem?_of_mem hp
       have:=va.one i j q p hi hj Oq hk
       subst this
       rw[hi] at hj
       injection hj
      have ho:=b7.own n (by rw[h2];simp) (b7.box n cs h2).1
      have gV:∀b,b<w.heap.size->b≠(G.g n).b->w'.heap[b]? =w.heap[b]? :=fun b hb aB=>p4.fr.block b hb (fun⟨q,hq,Oq,Yz⟩=>by
       rw[I1 q hq Oq,e1] at Yz
       exact aB Yz)
      have lE:∀b,b<w.heap.size->Cz w w' b:=fun b hb=>p4.fr.ie b hb
      obtain⟨Hb,Kb⟩:=b7.Wn (cs':=out.map .c) h2 p4.fr.size gV lE hS (ps:=qs) (by rw[<-p3,List.map_map];rfl) (fun j c hj=>by
       have:=p4.at_ p hp hk j c hj
       rw[e1,e2] at this
       exact this) agW
      exact⟨Hb,Kb,rfl,rfl,r.fr.one ho.2.1 gV p4.fr.size (lE _ ho.2.2) p4.fr.os p4.fr.tape p4.fr.output⟩
    obtain⟨H2,K2,v1,v2,uf⟩:=aoX
    have K0:bc w G σ.h (fun n=>σ.used n=true) w' ⟨fun b=>Im' b\/S b,G.g⟩ mY.h:=bc.trans (fun n hn=>by rw[vC];exact hn) b8 K2
    have r2:R B E w0 N mY a w' ⟨fun b=>Im' b\/S b,G.g⟩:=r.step (v1.trans b9) (fun m hm=>by rw[v2,vC];exact hm) K0 H2 uf
    have HV:∀{ls:List (Bool×List ah)},gx rs=some ls->σ1=mY.put o.dst (kQ ls)->(match(Ending.returned (zb aT)) with|.returned v=>Nx B E w0 N σ1 (a.put o.dst v) w'|_=>True):=by
     intro ls A6 hs
     subst hs
     rw[<-p1] at A6
     obtain⟨rfl,DW⟩:=Ms A6
     refine⟨_,r2.put (anh (by simp) (fun j x p hj hp=>?_)) (fun q hq=>?_) hN⟩
     ·rw[List.getElem?_map,hp] at hj
      simp at hj
      subst hj
      have hm:=List.mem_of_getElem? hp
      have bL:cN w' ⟨fun b=>Im' b\/S b,G.g⟩ mY.h (p.ps.map fun pc=>ah.c pc.er) (p.ps.map PC.val):=by
       refine⟨by simp,fun j c u hj hu=>?_⟩
       rw[List.getElem?_map] at hj hu
       cases mF:p.ps[j]? with
       |none=>rw[mF] at hj;cases hj
       |some pc=>
        rw[mF] at hj hu
        simp at hj hu
        subst hj hu
        obtain⟨g1,g2⟩:=Yn p hm pc (List.mem_of_getElem? mF)
        exact⟨PC.kw pc,pc,rfl,rfl,g1,g2⟩
      have IP:=p4.one p hm
      have YR:=DW p hm
      obtain⟨k,ps,b,o'⟩:=p
      cases k with
      |ptr=>exact absurd rfl YR
      |agg=>exact⟨ps.map PC.val,rfl,bL⟩
      |one=>
       have h2:=IP rfl
       match ps,h2 with
       |[p],_=>exact bL
     ·exfalso
      refine abm (fun x hx c hc hq=>?_) hq
      obtain⟨p,_,rfl⟩:=List.mem_map.1 hx
      obtain⟨pc,_,rfl⟩:=List.mem_map.1 hc
      exact hq
    unfold pQ at hx
    split at hx
    ·rename_i cs
     split at hx
     ·rename_i q hq
      split at hx
      ·rename_i τ3 ahd
       injection hx with hx
       subst hx
       obtain⟨u1,rfl⟩:=lL ahd
       obtain⟨p,rfl⟩:∃p,aT=[p]:=by
        have h1:aT.length=1:=by have:=congrArg List.length p1;simpa using this
        exact List.length_eq_one_iff.1 h1
       simp at p1
       obtain⟨hk,ez⟩:=p1
       obtain⟨_,q1,q2,q3,q4,q5⟩:=p4.ptr p (by simp) hk
       subst ez
       have YZ:oC ⟨fun b=>Im' b\/S b,G.g⟩ mY.h p.b:=by
        refine⟨fun hi=>?_,fun m hm hl he=>?_,fun m gr mo sz xs hm hF=>?_⟩
        ·rcases hi with hi|⟨_,hi⟩
         ·have:=b7.fW _ hi;omega
         ·rcases hi with⟨p',bi,pc,aZ,hb⟩|⟨pc,aZ,hb⟩
          ·simp at bi;subst bi;exact q4 pc aZ hb
          ·exact q5 pc aZ hb
        ·have hd:=H2.iG m hm
         obtain⟨k0,k1,k2,_⟩:=K2.name m (by rw[<-v2];exact hd) hm
         have dw:(G.g m).nl=false:=hl
         have:=(b7.own m k0 dw).2.2
         have II:(G.g m).b=p.b:=he
         have h7:(⟨Im',G.g⟩:Gh).g m=G.g m:=rfl
         rw[h7] at this
         omega
        ·have hd:=H2.iG m (by rw[hm];simp)
         have fc:∃bk mS aJ aq,oA.h m=some (.row bk mS aJ aq):=by
          rcases Rn qg with⟨h1,h2,h3⟩|⟨n,cs,h1,h2,h3,h4⟩
          ·subst h3;exact⟨_,_,_,_,hm⟩
          ·subst h4
           by_cases bE:m=n
           ·subst bE;have:au oA.h m (some (ao.box (out.map ah.c))) m=_:=hm;rw[bF] at this;cases this
           ·have:au oA.h n (some (ao.box (out.map ah.c))) m=_:=hm
            rw[cq _ _ _ _ bE] at this
            exact⟨_,_,_,_,this⟩
         obtain⟨bk,mS,aJ,aq,bJ⟩:=fc
         have vR:aV p.b (G.g m).px:=hF
         have:=b7.qI bJ vR
         omega
       have Hn:HR B E w' ⟨fun b=>Im' b\/S b,au G.g q ⟨false,p.b,p.o,0,[],none⟩⟩ (au mY.h q (some (.box ((p.ps.map PC.er).map .c)))) (au mY.used q true) []:=by
        refine H2.insert (w':=w') u1 (fun _ _=>rfl) (Nat.le_refl _) (fun _=>⟨YZ,.inl (Nat.le_trans hB q1),q2.lt⟩) (fun cs' c m hb cv hm=>?_) ⟨rfl,q2,fun j c hj=>?_⟩ (fun gr m sz xs hb=>by cases hb) (fun gr sz xs hb=>by cases hb) (fun gr m sz xs hb=>by cases hb)
        ·injection hb with hb
         subst hb
         obtain⟨x,_,rfl⟩:=List.mem_map.1 cv
         exact absurd hm id
        ·rw[List.getElem?_map,List.getElem?_map] at hj
         cases hp:p.ps[j]? with
         |none=>rw[hp] at hj;cases hj
         |some pc=>
          rw[hp] at hj
          simp at hj
          subst hj
          obtain⟨g1,g2⟩:=Yn p (by simp) pc (List.mem_of_getElem? hp)
          exact⟨pc.val,q3 j pc hp,PC.kw pc,pc,rfl,rfl,g1,g2⟩
       have r3:=r2.step (σ':={mY with h:=au mY.h q (some (.box ((p.ps.map PC.er).map .c))),used:=au mY.used q true}) rfl (fun m hm=>qR q m hm) (bc.insert H2 u1 (fun _ _=>rfl)) Hn uf
       have hv:zb [p]=.pointer (some (ad p.b p.o)):=by
        obtain⟨k,ps,b,o'⟩:=p
        simp only at hk
        subst hk
        rfl
       rw[hv]
       exact⟨_,r3.put (RA.ga (c:=.ptr q 0 0 0) rfl (show au mY.h q _ q≠none->(au G.g q _ q).nl=false/\_=_ from fun _=>by simp[bF])) (fun m hm=>by have bJ:m=q:=hm;subst bJ;exact bF _ _ _) hN⟩
      ·cases hx
     ·cases hx
    ·split at hx
     ·rename_i ls A6
      injection hx with hx
      exact HV A6 hx.symm
     ·cases hx
   ·cases hx
  ·cases hx
 ·cases hx
theorem Xx (r:R B E w0 N σ a w G) {T:aO} (hT:z8 P T) {f:FuncId} {xs:Array Operand} {ms:List MO} {ts:Array TypeId} {σ1:St} (hN:∀n,o.dst=some n->n<N)
  (ho:o.op=.call {callee:=.value (.func f),args:=xs,argTypes:=ts}) (hf:bC P f=true) (hm:gw xs.toList ms=true)
  (hx:pU T o.dst f (ms.map σ.ev) σ=some σ1):o.wp P a w (Nx B E w0 N σ1) Q:=by
 obtain⟨e1,e2⟩:=r.xW hm
 have ON:∀x∈ms.map σ.ev,∀m,x.ref m->σ.used m=true:=by
  have cf:∀{xs:List Operand} {ms:List MO},gw xs ms=true->∀x∈ms.map σ.ev,∀m,x.ref m->σ.used m=true:=by
   intro xs ms
   induction ms generalizing xs with
   |nil=>intro _ x hx;simp at hx
   |cons m0 ms ih=>
    intro hc x hx m hm
    cases xs with
    |nil=>simp[gw] at hc
    |cons y ys=>
     simp only[gw,Bool.and_eq_true] at hc
     simp only[List.map_cons,List.mem_cons] at hx
     rcases hx with rfl|hx
     ·exact(r.ev hc.1).2 m hm
     ·exact ih hc.2 x hx m hm
  exact cf hm
 refine ae7 r hT (vals:=xs.toList.map a.eval) hN ?_ (by simpa using e1) e2 ON hx
 have he:(xs.toList.map a.eval).toArray=xs.map a.eval:=by apply Array.ext';simp
 rw[he]
 simp[execOp,ho,resolve,Deferred.ofValue,invoke,Act.eval,zd hf]
theorem R.qa (r:R B E w0 N σ a w G) {p:ah} (hx:σ.qa p=some σ'):∃G',R B E w0 N σ' a w G'/\σ'.env=σ.env:=by
 unfold St.qa at hx
 split at hx
 ·rename_i n k sz off
  split at hx
  ·rename_i cs hn
   split at hx
   ·rename_i xs ow σ1 ht
    injection hx with hx
    subst hx
    obtain⟨vs,v1,v2⟩:=r.hr.Hx hn
    obtain⟨xy,bu,a1,a2,a3,a5,a6,a7,a8,a9⟩:=r.hr.ft ht v1 (fun c hc m hm=>r.hr.gH n cs c m hn hc hm)
    have vt:HR B E w ⟨xy,G.g⟩ σ1.h σ.used []:=by
     cases ow with
     |true=>exact HR.xg (tk:=[]) (l:=bu) (by simpa using a5)
     |false=>simpa using a5
    have mD:=Vc ht hn
    obtain⟨b1,b2⟩:=vt.Wn (w':=w) (cs':=xs.map .c) mD (Nat.le_refl _) (fun _ _ _=>rfl) (fun b _=>Cz.refl w b) (S:=fun _=>False) (fun b hb=>hb.elim) (ps:=bu)
     (by rw[<-a1,List.map_map];rfl) (fun j c hj=>by
      have:=v2 j c.val (by rw[<-a2,List.getElem?_map,hj];rfl)
      exact this) (fun pc aZ=>⟨(a3 pc aZ).1,fun b hb=>.inl ((a3 pc aZ).2 b hb)⟩)
    have hk:=bc.trans (fun _ h=>h) a6 b2
    refine⟨_,r.step a7 (fun q hq=>by rw[show(σ1.dn n (.box (xs.map .c))).used=σ1.used from rfl,a8];exact hq) hk ?_ r.fr,a7⟩
    show HR B E w _ _ σ1.used []
    rw[a8]
    exact b1
   ·cases hx
  ·cases hx
 ·cases hx
theorem afe (r:R B E w0 N σ a w G) {t:TypeId} {x:Operand} {m:MO} {ag:Bool} {sz:Nat} {p:ah} {cs:List ah} (ho:o.op=.load t x) (hN:∀n,o.dst=some n->n<N)
  (hm:bB x m=true) (dr:pR P t ag sz=true) (hp:σ.ev m=.one p) (hf:σ.qa p=some σ') (hx:Am.loadAt σ'.h p sz=some cs):
  o.wp P a w (Nx B E w0 N (σ'.put o.dst (kV ag cs))) Q:=by
 obtain⟨G',r',e⟩:=r.qa hf
 refine XB r' ho hN hm dr (p:=p) ?_ hx
 cases m with
 |t n=>simp only[St.ev] at hp⊢;rw[e];exact hp
 |k v=>exact hp
end
end Go.Am
